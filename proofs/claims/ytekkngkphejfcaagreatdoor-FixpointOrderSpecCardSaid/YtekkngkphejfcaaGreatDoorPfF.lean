/- Part 6 of 7 of what the proofs of these laws stand on. -/
import Derived.Test.YtekkngkphejfcaaGreatDoorPfE
set_option linter.all false
namespace Go.Proofs.YtekkngkphejfcaaGreatDoor
open Go.RowKit
set_option maxRecDepth 100000
set_option maxHeartbeats 40000000
def jd (n:Nat) (BF s_:Int):Option Bool:=
 if 0<=s_/\ s_<=(IntKind.i64.bits:Int) then
  some ((bits .and .i64 (BF/2 ^ (s_).toNat) 1)==1)
 else none
def GE (n:Nat) (BF s_:Int):Option Bool:=jd n BF s_
theorem M8 {n:Nat} {BF s_:Int} {r:Bool} (h:GE n BF s_=some r):EQ 40 [.i BF,.i s_] [] (.bool r) [] true:=by
 refine ot Tryz.func40 fun B N=>?_
 revert r;apply gO;exact gi (lE AE [4] [])
def jT (n:Nat) (lost:List Int) (cell BF:Int):Option ((List Int)):=
 if ((True)/\ (0=0/\ 0=([]:List Int).length)/\ ([]:List Int).length+lost.length<=A7)/\ (0<=cell/\ cell<((([]:List Int).length+lost.length:Nat):Int))/\ 0+((cell).toNat)<(([]:List Int)++lost).length then
  if ([]:List Int).length+lost.length=((([]:List Int)++lost).set (0+((cell).toNat)) (bits .or .i64 ((([]:List Int)++lost).getD (0+((cell).toNat)) 0) BF)).length then
   some ((([]:List Int)++lost).set (0+((cell).toNat)) (bits .or .i64 ((([]:List Int)++lost).getD (0+((cell).toNat)) 0) BF))
  else none
 else none
def Ej (n:Nat) (lost:List Int) (cell BF:Int):Option ((List Int)):=jT n lost cell BF
theorem JY {n:Nat} {lost:List Int} {cell BF:Int} {r:(List Int)} (h:Ej n lost cell BF=some r):EQ 115 [.ints lost,.i cell,.i BF] [] (.ints r) [] true:=by
 refine ot Tryz.func115 fun B N=>?_
 revert r;apply gO;exact gc (gi (gc (gn fun g1=>jg g1 (gn fun g2=>jg g2 (jg g1 (jg g2 (gn fun g3=>lF fun p=>ez AE [6] [1] p [0] (H0.g g3))))))))
theorem sV:Af (Ax Tryz.f93 11) [] (List.range 16) []:=by unfold Af;kernel_rfl
theorem sU:Af (Ax Tryz.f93 12) [([0,1,2,3,4,5,6,7],8)] [9] []:=by unfold Af;kernel_rfl
def KH:BJ:=fun i=>match i with
 | 11=>.ord [] (List.range 16) []
 | 12=>.ord [([0,1,2,3,4,5,6,7],8)] [9] []
 | _=>.no
inductive PC where
 | l1 (x7:List Int) (x8:Int)
 | l2 (x7:List Int) (x8 x9:Int)
 | l3 (x7:List Int) (x8 x9 AO:Int)
def SJ (n:Nat) (self:PC -> Option ((List Int))) (q:AA) (c_:AC) (pos:List Int) (x7:List Int) (x8:Int):Option ((List Int)):=
 bif (decide (x8<(c_.cells.length:Int))) then
  self (.l2 x7 x8 0)
 else
  some x7
def SI (n:Nat) (self:PC -> Option ((List Int))) (q:AA) (c_:AC) (pos:List Int) (x7:List Int) (x8 x9:Int):Option ((List Int)):=
 bif (decide (x9<(c_.cells.length:Int))) then
  self (.l3 x7 x8 x9 0)
 else
  if AG (x8+1) then
   self (.l1 x7 (x8+1))
  else none
def KX (n:Nat) (self:PC -> Option ((List Int))) (q:AA) (c_:AC) (pos:List Int) (x7:List Int) (x8 x9 AO:Int):Option ((List Int)):=
 bif (decide (AO<q.symbols)) then
  bif (x8 != x9) then
   if (0<=x9/\ x9<(c_.cells.length:Int))/\ (0<=(c_.cells.getD ((x9).toNat) 0)/\ (c_.cells.getD ((x9).toNat) 0)<(pos.length:Int))/\ (0<=AO/\ AO<=(IntKind.i64.bits:Int)) then
    bif ((pos.getD ((c_.cells.getD ((x9).toNat) 0).toNat) 0)==(IntKind.i64.wrap (1*2 ^ (AO).toNat))) then
     if 0<=x8/\ x8<(c_.cells.length:Int) then
      (Ej n x7 (c_.cells.getD ((x8).toNat) 0) (IntKind.i64.wrap (1*2 ^ (AO).toNat))).bind fun y1=>
       if AG (AO+1) then
        self (.l3 y1 x8 x9 (AO+1))
       else none
     else none
    else
     if AG (AO+1) then
      self (.l3 x7 x8 x9 (AO+1))
     else none
   else none
  else
   if AG (AO+1) then
    self (.l3 x7 x8 x9 (AO+1))
   else none
 else
  if AG (x9+1) then
   self (.l2 x7 x8 (x9+1))
  else none
def jl (n:Nat) (self:PC -> Option ((List Int))) (q:AA) (c_:AC) (pos:List Int):Option ((List Int)):=
 if pos.length=(List.replicate pos.length (0:Int)).length/\ (((pos.length:Int):Int)=(pos.length:Int)/\ 0<=(pos.length:Int)/\ ((pos.length:Int):Int)<=1000000000000) then
  self (.l1 (List.replicate pos.length (0:Int)) 0)
 else none
def Ek (q:AA) (c_:AC) (pos:List Int):Nat -> PC -> Option ((List Int))
 | 0,_=>none
 | n+1,.l1 x7 x8=>SJ n (Ek q c_ pos n) q c_ pos x7 x8
 | n+1,.l2 x7 x8 x9=>SI n (Ek q c_ pos n) q c_ pos x7 x8 x9
 | n+1,.l3 x7 x8 x9 AO=>KX n (Ek q c_ pos n) q c_ pos x7 x8 x9 AO
def Vv (n:Nat) (q:AA) (c_:AC) (pos:List Int):Option ((List Int)):=jl n (Ek q c_ pos n) q c_ pos
def vv (n B:Nat) (N:Yd 0) (q:AA) (c_:AC) (pos:List Int) (r:(List Int)):PC -> Prop
 | .l1 x7 x8=>∀ m0:Nat,n<=m0 -> TW B N (FQ Tryz.f93 0 (.ints r) []) (Ah m0 (Ap (AW Tryz.f93) 0 [])) ⟨AM 60 [(2,.ints pos),(3,.ref 0 0),(4,.ref 1 0),(7,.ints x7),(8,.i x8)],[some (.cells (AD q)),some (.cells (AH c_))]⟩
 | .l2 x7 x8 x9=>∀ m0 m1:Nat,n<=m0 -> n<=m1 -> TW B N (FQ Tryz.f93 0 (.ints r) []) (Ah m1 (Ap (AW Tryz.f93) 2 [m0])) ⟨AM 60 [(2,.ints pos),(3,.ref 0 0),(4,.ref 1 0),(7,.ints x7),(8,.i x8),(9,.i x9)],[some (.cells (AD q)),some (.cells (AH c_))]⟩
 | .l3 x7 x8 x9 AO=>∀ m0 m1 m2:Nat,n<=m0 -> n<=m1 -> n<=m2 -> TW B N (FQ Tryz.f93 0 (.ints r) []) (Ah m2 (Ap (AW Tryz.f93) 4 [m0,m1])) ⟨AM 60 [(2,.ints pos),(3,.ref 0 0),(4,.ref 1 0),(7,.ints x7),(8,.i x8),(9,.i x9),(10,.i AO)],[some (.cells (AD q)),some (.cells (AH c_))]⟩
theorem vw (B:Nat) (N:Yd 0) (q:AA) (c_:AC) (pos:List Int):Al (Ek q c_ pos) (vv · B N q c_ pos):=ia (fun _=>rfl) fun n AF pt r h=>by
 cases pt
 case l1 x7 x8=>
  intro m0 AB;refine rd AB fun m0 AB=>?_
  revert r;apply gO;exact bi 18 (lN KH [0,1] (AF _ _ · m0 n AB Nat.le.refl)) (lE KH [6] [])
 case l2 x7 x8 x9=>
  intro m0 m1 AB AR;have AB:=zBZ AB;refine rd AR fun m1 AR=>?_
  revert r;apply gO;exact bi 25 (lN KH [0,1] (AF _ _ · m0 m1 n AB AR Nat.le.refl)) (gw 20 (lG KH [0,1] (AF _ _ · m0 AB)))
 case l3 x7 x8 x9 AO=>
  intro m0 m1 m2 AB AR Cg;have AB:=zBZ AB;have AR:=zBZ AR;refine rd Cg fun m2 Cg=>?_
  revert r;apply gO;exact bi 31 (jg sV (bi 36 (gc (gi (gc (gi (gn fun g2=>jg g2 (bi 48 (jg sU (gi (jg g2 (cf JY [some (.cells (AD q)),some (.cells (AH c_))] fun _=>gw 33 (lG KH [0,1] (AF _ _ · m0 m1 m2 AB AR Cg)))))) (gw 33 (lG KH [0,1] (AF _ _ · m0 m1 m2 AB AR Cg))))))))) (gw 33 (lG KH [0,1] (AF _ _ · m0 m1 m2 AB AR Cg))))) (gw 27 (lG KH [0,1] (AF _ _ · m0 m1 AB AR)))
theorem vt {n:Nat} {q:AA} {c_:AC} {pos:List Int} {r:(List Int)} (h:Vv n q c_ pos=some r):EQ 93 [.agg 5 (L1 (AD q)),.agg 9 (L1 (AH c_)),.ints pos] [] (.ints r) [] true:=by
 refine ot Tryz.func93 fun B N=>?_
 revert r;apply gO;exact gc (gn fun g0=>gi (jz 13 2 (jg g0 (lN KH [0,1] ((vw B N q c_ pos n) _ _ · n Nat.le.refl)))))
theorem sX:Af (Ax Tryz.f94 19) [([0,1,2,3,4,5,6,7,8,9],10)] [11] []:=by unfold Af;kernel_rfl
theorem sW:Af (Ax Tryz.f94 21) [([0,1,2,3,4,5,6,7,8,9,10,11],12)] [13] []:=by unfold Af;kernel_rfl
def FY:BJ:=fun i=>match i with
 | 19=>.ord [([0,1,2,3,4,5,6,7,8,9],10)] [11] []
 | 21=>.ord [([0,1,2,3,4,5,6,7,8,9,10,11],12)] [13] []
 | _=>.no
inductive KZ where
 | l1 (x7 x8 x9:Int)
 | l2 (x7 x8 x9 AO:Int)
 | l3 (x6:List Int) (x7 x8 AJ:Int)
 | l4 (x7 x8 x9:Int)
 | l5 (x6:List Int) (x7 x8 AJ AT:Int)
 | l6 (x6:List Int) (x7 x8 AJ:Int)
def KY (n:Nat) (self:KZ -> Option ((List Int)×Bool)) (c_:AC) (pos:List Int) (x7 x8 x9:Int):Option ((List Int)×Bool):=
 bif (decide (x9<(c_.cells.length:Int))) then
  if (0<=x9/\ x9<(c_.cells.length:Int))/\ (0<=(c_.cells.getD ((x9).toNat) 0)/\ (c_.cells.getD ((x9).toNat) 0)<(pos.length:Int)) then
   bif ((bits .and .i64 (pos.getD ((c_.cells.getD ((x9).toNat) 0).toNat) 0) c_.set)==(pos.getD ((c_.cells.getD ((x9).toNat) 0).toNat) 0)) then
    if AG (x7+1) then
     self (.l2 (x7+1) x8 x9 (pos.getD ((c_.cells.getD ((x9).toNat) 0).toNat) 0))
    else none
   else
    self (.l2 x7 x8 x9 (pos.getD ((c_.cells.getD ((x9).toNat) 0).toNat) 0))
  else none
 else
  bif (decide (x7>c_.hi)) then
   some (List.replicate pos.length (0:Int),false)
  else
   bif (decide (x8<c_.lo)) then
    some (List.replicate pos.length (0:Int),false)
   else
    self (.l3 (List.replicate pos.length (0:Int)) x7 x8 0)
def Z5 (n:Nat) (self:KZ -> Option ((List Int)×Bool)) (c_:AC) (pos:List Int) (x7 x8 x9 AO:Int):Option ((List Int)×Bool):=
 bif ((bits .and .i64 AO c_.set) != 0) then
  if AG (x8+1) then
   self (.l4 x7 (x8+1) x9)
  else none
 else
  self (.l4 x7 x8 x9)
def SL (n:Nat) (self:KZ -> Option ((List Int)×Bool)) (c_:AC) (pos:List Int) (x6:List Int) (x7 x8 AJ:Int):Option ((List Int)×Bool):=
 bif (decide (AJ<(c_.cells.length:Int))) then
  if (0<=AJ/\ AJ<(c_.cells.length:Int))/\ (0<=(c_.cells.getD ((AJ).toNat) 0)/\ (c_.cells.getD ((AJ).toNat) 0)<(pos.length:Int)) then
   bif (x7==c_.hi) then
    bif ((bits .and .i64 (pos.getD ((c_.cells.getD ((AJ).toNat) 0).toNat) 0) c_.set) != (pos.getD ((c_.cells.getD ((AJ).toNat) 0).toNat) 0)) then
     (Ej n x6 (c_.cells.getD ((AJ).toNat) 0) (bits .and .i64 (pos.getD ((c_.cells.getD ((AJ).toNat) 0).toNat) 0) c_.set)).bind fun y1=>
      self (.l5 y1 x7 x8 AJ (pos.getD ((c_.cells.getD ((AJ).toNat) 0).toNat) 0))
    else
     self (.l5 x6 x7 x8 AJ (pos.getD ((c_.cells.getD ((AJ).toNat) 0).toNat) 0))
   else
    self (.l5 x6 x7 x8 AJ (pos.getD ((c_.cells.getD ((AJ).toNat) 0).toNat) 0))
  else none
 else
  some (x6,true)
def Z4 (n:Nat) (self:KZ -> Option ((List Int)×Bool)) (c_:AC) (pos:List Int) (x7 x8 x9:Int):Option ((List Int)×Bool):=
 if AG (x9+1) then
  self (.l1 x7 x8 (x9+1))
 else none
def Z3 (n:Nat) (self:KZ -> Option ((List Int)×Bool)) (c_:AC) (pos:List Int) (x6:List Int) (x7 x8 AJ AT:Int):Option ((List Int)×Bool):=
 bif (x8==c_.lo) then
  bif ((bits .and .i64 AT c_.set) != 0) then
   if (0<=AJ/\ AJ<(c_.cells.length:Int))/\ AG (AT-(bits .and .i64 AT c_.set)) then
    (Ej n x6 (c_.cells.getD ((AJ).toNat) 0) (AT-(bits .and .i64 AT c_.set))).bind fun y1=>
     self (.l6 y1 x7 x8 AJ)
   else none
  else
   self (.l6 x6 x7 x8 AJ)
 else
  self (.l6 x6 x7 x8 AJ)
def Z2 (n:Nat) (self:KZ -> Option ((List Int)×Bool)) (c_:AC) (pos:List Int) (x6:List Int) (x7 x8 AJ:Int):Option ((List Int)×Bool):=
 if AG (AJ+1) then
  self (.l3 x6 x7 x8 (AJ+1))
 else none
def jp (n:Nat) (self:KZ -> Option ((List Int)×Bool)) (c_:AC) (pos:List Int):Option ((List Int)×Bool):=
 if pos.length=(List.replicate pos.length (0:Int)).length/\ (((pos.length:Int):Int)=(pos.length:Int)/\ 0<=(pos.length:Int)/\ ((pos.length:Int):Int)<=1000000000000) then
  self (.l1 0 0 0)
 else none
def CY (c_:AC) (pos:List Int):Nat -> KZ -> Option ((List Int)×Bool)
 | 0,_=>none
 | n+1,.l1 x7 x8 x9=>KY n (CY c_ pos n) c_ pos x7 x8 x9
 | n+1,.l2 x7 x8 x9 AO=>Z5 n (CY c_ pos n) c_ pos x7 x8 x9 AO
 | n+1,.l3 x6 x7 x8 AJ=>SL n (CY c_ pos n) c_ pos x6 x7 x8 AJ
 | n+1,.l4 x7 x8 x9=>Z4 n (CY c_ pos n) c_ pos x7 x8 x9
 | n+1,.l5 x6 x7 x8 AJ AT=>Z3 n (CY c_ pos n) c_ pos x6 x7 x8 AJ AT
 | n+1,.l6 x6 x7 x8 AJ=>Z2 n (CY c_ pos n) c_ pos x6 x7 x8 AJ
def Vy (n:Nat) (c_:AC) (pos:List Int):Option ((List Int)×Bool):=jp n (CY c_ pos n) c_ pos
def wB (n B:Nat) (N:Yd 0) (c_:AC) (pos:List Int) (r:(List Int)×Bool):KZ -> Prop
 | .l1 x7 x8 x9=>∀ m0:Nat,n<=m0 -> TW B N (FQ Tryz.f94 0 (.tup 2 (L1 [.ints r.1,.bool r.2])) []) (Ah m0 (Ap (AW Tryz.f94) 0 [])) ⟨AM 120 [(1,.ints pos),(2,.ref 0 0),(6,.ints (List.replicate pos.length (0:Int))),(7,.i x7),(8,.i x8),(9,.i x9)],[some (.cells (AH c_))]⟩
 | .l2 x7 x8 x9 AO=>∀ m0:Nat,n<=m0 -> TW B N (FQ Tryz.f94 0 (.tup 2 (L1 [.ints r.1,.bool r.2])) []) (Dl (AW Tryz.f94) 10 [m0]) ⟨AM 120 [(1,.ints pos),(2,.ref 0 0),(6,.ints (List.replicate pos.length (0:Int))),(7,.i x7),(8,.i x8),(9,.i x9),(10,.i AO)],[some (.cells (AH c_))]⟩
 | .l3 x6 x7 x8 AJ=>∀ m0:Nat,n<=m0 -> TW B N (FQ Tryz.f94 0 (.tup 2 (L1 [.ints r.1,.bool r.2])) []) (Ah m0 (Ap (AW Tryz.f94) 2 [])) ⟨AM 120 [(1,.ints pos),(2,.ref 0 0),(6,.ints x6),(7,.i x7),(8,.i x8),(11,.i AJ)],[some (.cells (AH c_))]⟩
 | .l4 x7 x8 x9=>∀ m0:Nat,n<=m0 -> TW B N (FQ Tryz.f94 0 (.tup 2 (L1 [.ints r.1,.bool r.2])) []) (Dl (AW Tryz.f94) 6 [m0]) ⟨AM 120 [(1,.ints pos),(2,.ref 0 0),(6,.ints (List.replicate pos.length (0:Int))),(7,.i x7),(8,.i x8),(9,.i x9)],[some (.cells (AH c_))]⟩
 | .l5 x6 x7 x8 AJ AT=>∀ m0:Nat,n<=m0 -> TW B N (FQ Tryz.f94 0 (.tup 2 (L1 [.ints r.1,.bool r.2])) []) (Dl (AW Tryz.f94) 20 [m0]) ⟨AM 120 [(1,.ints pos),(2,.ref 0 0),(6,.ints x6),(7,.i x7),(8,.i x8),(11,.i AJ),(12,.i AT)],[some (.cells (AH c_))]⟩
 | .l6 x6 x7 x8 AJ=>∀ m0:Nat,n<=m0 -> TW B N (FQ Tryz.f94 0 (.tup 2 (L1 [.ints r.1,.bool r.2])) []) (Dl (AW Tryz.f94) 16 [m0]) ⟨AM 120 [(1,.ints pos),(2,.ref 0 0),(6,.ints x6),(7,.i x7),(8,.i x8),(11,.i AJ)],[some (.cells (AH c_))]⟩
theorem wC (B:Nat) (N:Yd 0) (c_:AC) (pos:List Int):Al (CY c_ pos) (wB · B N c_ pos):=ia (fun _=>rfl) fun n AF pt r h=>by
 cases pt
 case l1 x7 x8 x9=>
  intro m0 AB;refine rd AB fun m0 AB=>?_
  revert r;apply gO;exact bi 20 (gc (gi (gi (bi 36 (gw 38 (lG (AK 20 (AK 16 (AK 10 (AK 6 FY)))) [0] (AF _ _ · m0 AB))) (lG (AK 20 (AK 16 (AK 10 (AK 6 FY)))) [0] (AF _ _ · m0 AB)))))) (bi 49 (lE (AK 20 (AK 16 (AK 10 (AK 6 FY)))) [4,5] []) (bi 54 (lE (AK 20 (AK 16 (AK 10 (AK 6 FY)))) [4,5] []) (lN (AK 20 (AK 16 (AK 10 (AK 6 FY)))) [0] (AF _ _ · n Nat.le.refl))))
 case l2 x7 x8 x9 AO=>
  intro m0 AB;have AB:=zBZ AB;revert r;apply gO;exact bi 43 (gw 45 (lG (AK 20 (AK 16 (AK 6 FY))) [0] (AF _ _ · m0 AB))) (lG (AK 20 (AK 16 (AK 6 FY))) [0] (AF _ _ · m0 AB))
 case l3 x6 x7 x8 AJ=>
  intro m0 AB;refine rd AB fun m0 AB=>?_
  revert r;apply gO;exact bi 61 (gc (gn fun g0=>jg g0 (gi (bi 75 (bi 82 (jg sX (jg g0 (cf JY [some (.cells (AH c_))] fun _=>lG (AK 20 (AK 16 (AK 10 (AK 6 FY)))) [0] (AF _ _ · m0 AB)))) (lG (AK 20 (AK 16 (AK 10 (AK 6 FY)))) [0] (AF _ _ · m0 AB))) (lG (AK 20 (AK 16 (AK 10 (AK 6 FY)))) [0] (AF _ _ · m0 AB)))))) (lE (AK 20 (AK 16 (AK 10 (AK 6 FY)))) [4,5] [])
 case l4 x7 x8 x9=>
  intro m0 AB;have AB:=zBZ AB;revert r;apply gO;exact gw 22 (lG (AK 20 (AK 16 (AK 10 FY))) [0] (AF _ _ · m0 AB))
 case l5 x6 x7 x8 AJ AT=>
  intro m0 AB;have AB:=zBZ AB;revert r;apply gO;exact bi 98 (bi 104 (jg sW (gc (gi (gw 117 (cf JY [some (.cells (AH c_))] fun _=>lG (AK 16 (AK 10 (AK 6 FY))) [0] (AF _ _ · m0 AB)))))) (lG (AK 16 (AK 10 (AK 6 FY))) [0] (AF _ _ · m0 AB))) (lG (AK 16 (AK 10 (AK 6 FY))) [0] (AF _ _ · m0 AB))
 case l6 x6 x7 x8 AJ=>
  intro m0 AB;have AB:=zBZ AB;revert r;apply gO;exact gw 63 (lG (AK 20 (AK 10 (AK 6 FY))) [0] (AF _ _ · m0 AB))
theorem v8 {n:Nat} {c_:AC} {pos:List Int} {r:(List Int)×Bool} (h:Vy n c_ pos=some r):EQ 94 [.agg 9 (L1 (AH c_)),.ints pos] [] (.tup 2 (L1 [.ints r.1,.bool r.2])) [] true:=by
 refine ot Tryz.func94 fun B N=>?_
 revert r;apply gO;exact gc (gn fun g0=>gi (jz 15 1 (jg g0 (lN (AK 20 (AK 16 (AK 10 (AK 6 FY)))) [0] ((wC B N c_ pos n) _ _ · n Nat.le.refl)))))
inductive Vq where
 | l1 (x5 x6:Int)
def SE (n:Nat) (self:Vq -> Option Int) (q:AA) (BF:Int) (x5 x6:Int):Option Int:=
 bif (decide (x6<q.symbols)) then
  (GE n BF x6).bind fun y1=>
   bif y1 then
    bif (decide (x5<0)) then
     if (0<=x6/\ x6<(q.values.length:Int))/\ AG (x6+1) then
      self (.l1 (q.values.getD ((x6).toNat) 0) (x6+1))
     else none
    else
     if 0<=x6/\ x6<(q.values.length:Int) then
      bif (decide ((q.values.getD ((x6).toNat) 0)<x5)) then
       if AG (x6+1) then
        self (.l1 (q.values.getD ((x6).toNat) 0) (x6+1))
       else none
      else
       if AG (x6+1) then
        self (.l1 x5 (x6+1))
       else none
     else none
   else
    if AG (x6+1) then
     self (.l1 x5 (x6+1))
    else none
 else
  some x5
def vj (n:Nat) (self:Vq -> Option Int) (q:AA) (BF:Int):Option Int:=
 self (.l1 (-1) 0)
def Ia (q:AA) (BF:Int):Nat -> Vq -> Option Int
 | 0,_=>none
 | n+1,.l1 x5 x6=>SE n (Ia q BF n) q BF x5 x6
def O8 (n:Nat) (q:AA) (BF:Int):Option Int:=vj n (Ia q BF n) q BF
def vk (n B:Nat) (N:Yd 0) (q:AA) (BF:Int) (r:Int):Vq -> Prop
 | .l1 x5 x6=>∀ m0:Nat,n<=m0 -> TW B N (FQ Tryz.f116 0 (.i r) []) (Ah m0 (Ap (AW Tryz.f116) 0 [])) ⟨AM 35 [(1,.i BF),(2,.ref 0 0),(5,.i x5),(6,.i x6)],[some (.cells (AD q))]⟩
theorem vl (B:Nat) (N:Yd 0) (q:AA) (BF:Int):Al (Ia q BF) (vk · B N q BF):=ia (fun _=>rfl) fun n AF pt r h=>by
 cases pt
 case l1 x5 x6=>
  intro m0 AB;refine rd AB fun m0 AB=>?_
  revert r;apply gO;exact bi 10 (cf M8 [some (.cells (AD q))] fun _=>bi 15 (bi 18 (gc (gi (gw 12 (lG AE [0] (AF _ _ · m0 AB))))) (gn fun g0=>jg g0 (bi 26 (jg g0 (gw 12 (lG AE [0] (AF _ _ · m0 AB)))) (gw 12 (lG AE [0] (AF _ _ · m0 AB)))))) (gw 12 (lG AE [0] (AF _ _ · m0 AB)))) (lE AE [4] [])
theorem jX {n:Nat} {q:AA} {BF:Int} {r:Int} (h:O8 n q BF=some r):EQ 116 [.agg 5 (L1 (AD q)),.i BF] [] (.i r) [] true:=by
 refine ot Tryz.func116 fun B N=>?_
 revert r;apply gO;exact lN AE [0] ((vl B N q BF n) _ _ · n Nat.le.refl)
inductive Vs where
 | l1 (x5 x6:Int)
def SG (n:Nat) (self:Vs -> Option Int) (q:AA) (BF:Int) (x5 x6:Int):Option Int:=
 bif (decide (x6<q.symbols)) then
  (GE n BF x6).bind fun y1=>
   bif y1 then
    if 0<=x6/\ x6<(q.values.length:Int) then
     bif (decide ((q.values.getD ((x6).toNat) 0)>x5)) then
      if AG (x6+1) then
       self (.l1 (q.values.getD ((x6).toNat) 0) (x6+1))
      else none
     else
      if AG (x6+1) then
       self (.l1 x5 (x6+1))
      else none
    else none
   else
    if AG (x6+1) then
     self (.l1 x5 (x6+1))
    else none
 else
  some x5
def vm (n:Nat) (self:Vs -> Option Int) (q:AA) (BF:Int):Option Int:=
 self (.l1 (-1) 0)
def JZ (q:AA) (BF:Int):Nat -> Vs -> Option Int
 | 0,_=>none
 | n+1,.l1 x5 x6=>SG n (JZ q BF n) q BF x5 x6
def PA (n:Nat) (q:AA) (BF:Int):Option Int:=vm n (JZ q BF n) q BF
def vn (n B:Nat) (N:Yd 0) (q:AA) (BF:Int) (r:Int):Vs -> Prop
 | .l1 x5 x6=>∀ m0:Nat,n<=m0 -> TW B N (FQ Tryz.f117 0 (.i r) []) (Ah m0 (Ap (AW Tryz.f117) 0 [])) ⟨AM 31 [(1,.i BF),(2,.ref 0 0),(5,.i x5),(6,.i x6)],[some (.cells (AD q))]⟩
theorem vo (B:Nat) (N:Yd 0) (q:AA) (BF:Int):Al (JZ q BF) (vn · B N q BF):=ia (fun _=>rfl) fun n AF pt r h=>by
 cases pt
 case l1 x5 x6=>
  intro m0 AB;refine rd AB fun m0 AB=>?_
  revert r;apply gO;exact bi 10 (cf M8 [some (.cells (AD q))] fun _=>bi 15 (gn fun g0=>jg g0 (bi 23 (jg g0 (gw 12 (lG AE [0] (AF _ _ · m0 AB)))) (gw 12 (lG AE [0] (AF _ _ · m0 AB))))) (gw 12 (lG AE [0] (AF _ _ · m0 AB)))) (lE AE [4] [])
theorem je {n:Nat} {q:AA} {BF:Int} {r:Int} (h:PA n q BF=some r):EQ 117 [.agg 5 (L1 (AD q)),.i BF] [] (.i r) [] true:=by
 refine ot Tryz.func117 fun B N=>?_
 revert r;apply gO;exact lN AE [0] ((vo B N q BF n) _ _ · n Nat.le.refl)
theorem sM:Af (Ax Tryz.f95 7) [([0,1,2,3,4,5,6,7,8,9],10)] [11,12] []:=by unfold Af;kernel_rfl
theorem sL:Af (Ax Tryz.f95 8) [([0,1,2,3,4,5,6,7,8,9],10)] [11,12] []:=by unfold Af;kernel_rfl
theorem sN:Af (Ax Tryz.f95 18) [([0,1],2),([3,4,5,6,9,10,11,12,13,15,16],7),([8,14,17,18,19,20,21,24,25,26,27,28,30,31],22)] [23,29,32,33,34] []:=by unfold Af;kernel_rfl
theorem iH:Af (Ax Tryz.f95 19) [([0,1,2,3,4,5,6,7],8)] [9] []:=by unfold Af;kernel_rfl
def G8:BJ:=fun i=>match i with
 | 7=>.ord [([0,1,2,3,4,5,6,7,8,9],10)] [11,12] []
 | 8=>.ord [([0,1,2,3,4,5,6,7,8,9],10)] [11,12] []
 | 18=>.ord [([0,1],2),([3,4,5,6,9,10,11,12,13,15,16],7),([8,14,17,18,19,20,21,24,25,26,27,28,30,31],22)] [23,29,32,33,34] []
 | 19=>.ord [([0,1,2,3,4,5,6,7],8)] [9] []
 | _=>.no
inductive M0 where
 | l1 (x9 AO AJ:Int)
 | l2 (x8:List Int) (x9 AO AT:Int)
 | l3 (x8:List Int) (x9 AO AT x13 Au:Int)
 | l4 (x8:List Int) (x9 AO AT x13 Au:Int)
def KT (n:Nat) (self:M0 -> Option ((List Int)×Bool)) (q:AA) (c_:AC) (pos:List Int) (x9 AO AJ:Int):Option ((List Int)×Bool):=
 bif (decide (AJ<(c_.cells.length:Int))) then
  if (0<=AJ/\ AJ<(c_.cells.length:Int))/\ (0<=(c_.cells.getD ((AJ).toNat) 0)/\ (c_.cells.getD ((AJ).toNat) 0)<(pos.length:Int)) then
   (O8 n q (pos.getD ((c_.cells.getD ((AJ).toNat) 0).toNat) 0)).bind fun y1=>
    if AG (x9+y1) then
     (PA n q (pos.getD ((c_.cells.getD ((AJ).toNat) 0).toNat) 0)).bind fun y2=>
      if AG (AO+y2)/\ AG (AJ+1) then
       self (.l1 (x9+y1) (AO+y2) (AJ+1))
      else none
    else none
  else none
 else
  bif (decide (x9>c_.hi)) then
   some (List.replicate pos.length (0:Int),false)
  else
   bif (decide (AO<c_.lo)) then
    some (List.replicate pos.length (0:Int),false)
   else
    self (.l2 (List.replicate pos.length (0:Int)) x9 AO 0)
def Rr (n:Nat) (self:M0 -> Option ((List Int)×Bool)) (q:AA) (c_:AC) (pos:List Int) (x8:List Int) (x9 AO AT:Int):Option ((List Int)×Bool):=
 bif (decide (AT<(c_.cells.length:Int))) then
  if (0<=AT/\ AT<(c_.cells.length:Int))/\ (0<=(c_.cells.getD ((AT).toNat) 0)/\ (c_.cells.getD ((AT).toNat) 0)<(pos.length:Int)) then
   self (.l3 x8 x9 AO AT (pos.getD ((c_.cells.getD ((AT).toNat) 0).toNat) 0) 0)
  else none
 else
  some (x8,true)
def Rq (n:Nat) (self:M0 -> Option ((List Int)×Bool)) (q:AA) (c_:AC) (pos:List Int) (x8:List Int) (x9 AO AT x13 Au:Int):Option ((List Int)×Bool):=
 bif (decide (Au<q.symbols)) then
  (GE n x13 Au).bind fun y1=>
   bif y1 then
    if 0<=Au/\ Au<(q.values.length:Int) then
     (O8 n q x13).bind fun y2=>
      if AG (x9-y2)/\ AG ((x9-y2)+(q.values.getD ((Au).toNat) 0)) then
       bif (decide (((x9-y2)+(q.values.getD ((Au).toNat) 0))>c_.hi)) then
        if (0<=AT/\ AT<(c_.cells.length:Int))/\ (0<=Au/\ Au<=(IntKind.i64.bits:Int)) then
         (Ej n x8 (c_.cells.getD ((AT).toNat) 0) (IntKind.i64.wrap (1*2 ^ (Au).toNat))).bind fun y3=>
          self (.l4 y3 x9 AO AT x13 Au)
        else none
       else
        (PA n q x13).bind fun y3=>
         if AG (AO-y3)/\ AG ((AO-y3)+(q.values.getD ((Au).toNat) 0)) then
          bif (decide (((AO-y3)+(q.values.getD ((Au).toNat) 0))<c_.lo)) then
           if (0<=AT/\ AT<(c_.cells.length:Int))/\ (0<=Au/\ Au<=(IntKind.i64.bits:Int)) then
            (Ej n x8 (c_.cells.getD ((AT).toNat) 0) (IntKind.i64.wrap (1*2 ^ (Au).toNat))).bind fun y4=>
             self (.l4 y4 x9 AO AT x13 Au)
           else none
          else
           self (.l4 x8 x9 AO AT x13 Au)
         else none
      else none
    else none
   else
    self (.l4 x8 x9 AO AT x13 Au)
 else
  if AG (AT+1) then
   self (.l2 x8 x9 AO (AT+1))
  else none
def Zm (n:Nat) (self:M0 -> Option ((List Int)×Bool)) (q:AA) (c_:AC) (pos:List Int) (x8:List Int) (x9 AO AT x13 Au:Int):Option ((List Int)×Bool):=
 if AG (Au+1) then
  self (.l3 x8 x9 AO AT x13 (Au+1))
 else none
def jE (n:Nat) (self:M0 -> Option ((List Int)×Bool)) (q:AA) (c_:AC) (pos:List Int):Option ((List Int)×Bool):=
 if pos.length=(List.replicate pos.length (0:Int)).length/\ (((pos.length:Int):Int)=(pos.length:Int)/\ 0<=(pos.length:Int)/\ ((pos.length:Int):Int)<=1000000000000) then
  self (.l1 0 0 0)
 else none
def Dd (q:AA) (c_:AC) (pos:List Int):Nat -> M0 -> Option ((List Int)×Bool)
 | 0,_=>none
 | n+1,.l1 x9 AO AJ=>KT n (Dd q c_ pos n) q c_ pos x9 AO AJ
 | n+1,.l2 x8 x9 AO AT=>Rr n (Dd q c_ pos n) q c_ pos x8 x9 AO AT
 | n+1,.l3 x8 x9 AO AT x13 Au=>Rq n (Dd q c_ pos n) q c_ pos x8 x9 AO AT x13 Au
 | n+1,.l4 x8 x9 AO AT x13 Au=>Zm n (Dd q c_ pos n) q c_ pos x8 x9 AO AT x13 Au
def Vh (n:Nat) (q:AA) (c_:AC) (pos:List Int):Option ((List Int)×Bool):=jE n (Dd q c_ pos n) q c_ pos
def u9 (n B:Nat) (N:Yd 0) (q:AA) (c_:AC) (pos:List Int) (r:(List Int)×Bool):M0 -> Prop
 | .l1 x9 AO AJ=>∀ m0:Nat,n<=m0 -> TW B N (FQ Tryz.f95 0 (.tup 2 (L1 [.ints r.1,.bool r.2])) []) (Ah m0 (Ap (AW Tryz.f95) 0 [])) ⟨AM 126 [(2,.ints pos),(3,.ref 0 0),(4,.ref 1 0),(8,.ints (List.replicate pos.length (0:Int))),(9,.i x9),(10,.i AO),(11,.i AJ)],[some (.cells (AD q)),some (.cells (AH c_))]⟩
 | .l2 x8 x9 AO AT=>∀ m0:Nat,n<=m0 -> TW B N (FQ Tryz.f95 0 (.tup 2 (L1 [.ints r.1,.bool r.2])) []) (Ah m0 (Ap (AW Tryz.f95) 2 [])) ⟨AM 126 [(2,.ints pos),(3,.ref 0 0),(4,.ref 1 0),(8,.ints x8),(9,.i x9),(10,.i AO),(12,.i AT)],[some (.cells (AD q)),some (.cells (AH c_))]⟩
 | .l3 x8 x9 AO AT x13 Au=>∀ m0 m1:Nat,n<=m0 -> n<=m1 -> TW B N (FQ Tryz.f95 0 (.tup 2 (L1 [.ints r.1,.bool r.2])) []) (Ah m1 (Ap (AW Tryz.f95) 4 [m0])) ⟨AM 126 [(2,.ints pos),(3,.ref 0 0),(4,.ref 1 0),(8,.ints x8),(9,.i x9),(10,.i AO),(12,.i AT),(13,.i x13),(14,.i Au)],[some (.cells (AD q)),some (.cells (AH c_))]⟩
 | .l4 x8 x9 AO AT x13 Au=>∀ m0 m1:Nat,n<=m0 -> n<=m1 -> TW B N (FQ Tryz.f95 0 (.tup 2 (L1 [.ints r.1,.bool r.2])) []) (Dl (AW Tryz.f95) 17 [m0,m1]) ⟨AM 126 [(2,.ints pos),(3,.ref 0 0),(4,.ref 1 0),(8,.ints x8),(9,.i x9),(10,.i AO),(12,.i AT),(13,.i x13),(14,.i Au)],[some (.cells (AD q)),some (.cells (AH c_))]⟩
theorem vA (B:Nat) (N:Yd 0) (q:AA) (c_:AC) (pos:List Int):Al (Dd q c_ pos) (u9 · B N q c_ pos):=ia (fun _=>rfl) fun n AF pt r h=>by
 cases pt
 case l1 x9 AO AJ=>
  intro m0 AB;refine rd AB fun m0 AB=>?_
  revert r;apply gO;exact bi 22 (jg sM (gc (gn fun g0=>jg g0 (gn fun g1=>jg g1 (cf jX [some (.cells (AD q)),some (.cells (AH c_))] fun _=>gw 36 (jg sL (jg g0 (jg g1 (cf je [some (.cells (AD q)),some (.cells (AH c_))] fun _=>gc (gw 48 (gw 24 (lG (AK 17 G8) [0,1] (AF _ _ · m0 AB))))))))))))) (bi 52 (lE (AK 17 G8) [6,7] []) (bi 57 (lE (AK 17 G8) [6,7] []) (lN (AK 17 G8) [0,1] (AF _ _ · n Nat.le.refl))))
 case l2 x8 x9 AO AT=>
  intro m0 AB;refine rd AB fun m0 AB=>?_
  revert r;apply gO;exact bi 64 (gc (gi (gi (lN (AK 17 G8) [0,1] (AF _ _ · m0 n AB Nat.le.refl))))) (lE (AK 17 G8) [6,7] [])
 case l3 x8 x9 AO AT x13 Au=>
  intro m0 m1 AB AR;have AB:=zBZ AB;refine rd AR fun m1 AR=>?_
  revert r;apply gO;exact bi 78 (jg sN (cf M8 [some (.cells (AD q)),some (.cells (AH c_))] fun _=>bi 83 (gn fun g0=>jg g0 (cf jX [some (.cells (AD q)),some (.cells (AH c_))] fun _=>gc (gw 89 (gw 95 (bi 98 (jg iH (gc (gi (gi (cf JY [some (.cells (AD q)),some (.cells (AH c_))] fun _=>lG (AK 17 G8) [0,1] (AF _ _ · m0 m1 AB AR)))))) (jg g0 (cf je [some (.cells (AD q)),some (.cells (AH c_))] fun _=>gc (gw 104 (gw 110 (bi 113 (jg iH (gc (gi (gi (cf JY [some (.cells (AD q)),some (.cells (AH c_))] fun _=>lG (AK 17 G8) [0,1] (AF _ _ · m0 m1 AB AR)))))) (lG (AK 17 G8) [0,1] (AF _ _ · m0 m1 AB AR)))))))))))) (lG (AK 17 G8) [0,1] (AF _ _ · m0 m1 AB AR)))) (gw 66 (lG (AK 17 G8) [0,1] (AF _ _ · m0 AB)))
 case l4 x8 x9 AO AT x13 Au=>
  intro m0 m1 AB AR;have AB:=zBZ AB;have AR:=zBZ AR;revert r;apply gO;exact gw 80 (lG G8 [0,1] (AF _ _ · m0 m1 AB AR))
theorem u6 {n:Nat} {q:AA} {c_:AC} {pos:List Int} {r:(List Int)×Bool} (h:Vh n q c_ pos=some r):EQ 95 [.agg 5 (L1 (AD q)),.agg 9 (L1 (AH c_)),.ints pos] [] (.tup 2 (L1 [.ints r.1,.bool r.2])) [] true:=by
 refine ot Tryz.func95 fun B N=>?_
 revert r;apply gO;exact gc (gn fun g0=>gi (jz 17 2 (jg g0 (lN (AK 17 G8) [0,1] ((vA B N q c_ pos n) _ _ · n Nat.le.refl)))))
theorem sO:Af (Ax Tryz.f123 6) [([0,1,2,3,4,5,6,7,8],9),([10,11,12,13,14,15,16,17,18,19,20,21,22,23,24,25,26,27,28,29,30,31,32,33,34,35,36,37,38,39,40,41],42)] [43] []:=by unfold Af;kernel_rfl
def IU:BJ:=fun i=>match i with
 | 6=>.ord [([0,1,2,3,4,5,6,7,8],9),([10,11,12,13,14,15,16,17,18,19,20,21,22,23,24,25,26,27,28,29,30,31,32,33,34,35,36,37,38,39,40,41],42)] [43] []
 | _=>.no
inductive Vl where
 | l1 (Aj:Int)
def Rz (n:Nat) (Az:AA -> AC -> (List Int) -> Int -> Int -> Int -> Int -> Option Bool) (self:Vl -> Option Bool) (q:AA) (c_:AC) (pos:List Int) (At value at_ s_:Int) (Aj:Int):Option Bool:=
 bif (decide (Aj<q.symbols)) then
  if (0<=At/\ At<(c_.cells.length:Int))/\ (0<=(c_.cells.getD ((At).toNat) 0)/\ (c_.cells.getD ((At).toNat) 0)<(pos.length:Int)) then
   (GE n (pos.getD ((c_.cells.getD ((At).toNat) 0).toNat) 0) Aj).bind fun y1=>
    bif y1 then
     bif (At != at_) then
      if 0<=Aj/\ Aj<(q.values.length:Int) then
       bif (decide ((q.values.getD ((Aj).toNat) 0)>value)) then
        if AG (At+1) then
         (Az q c_ pos (At+1) (q.values.getD ((Aj).toNat) 0) at_ s_).bind fun y2=>
          bif y2 then
           some true
          else
           if AG (Aj+1) then
            self (.l1 (Aj+1))
           else none
        else none
       else
        if AG (Aj+1) then
         self (.l1 (Aj+1))
        else none
      else none
     else
      bif (Aj==s_) then
       if 0<=Aj/\ Aj<(q.values.length:Int) then
        bif (decide ((q.values.getD ((Aj).toNat) 0)>value)) then
         if AG (At+1) then
          (Az q c_ pos (At+1) (q.values.getD ((Aj).toNat) 0) at_ s_).bind fun y2=>
           bif y2 then
            some true
           else
            if AG (Aj+1) then
             self (.l1 (Aj+1))
            else none
         else none
        else
         if AG (Aj+1) then
          self (.l1 (Aj+1))
         else none
       else none
      else
       if AG (Aj+1) then
        self (.l1 (Aj+1))
       else none
    else
     if AG (Aj+1) then
      self (.l1 (Aj+1))
     else none
  else none
 else
  some false
def R5 (n:Nat) (Az:AA -> AC -> (List Int) -> Int -> Int -> Int -> Int -> Option Bool) (self:Vl -> Option Bool) (q:AA) (c_:AC) (pos:List Int) (At value at_ s_:Int):Option Bool:=
 bif (At==(c_.cells.length:Int)) then
  some true
 else
  self (.l1 0)
def Lb (Az:AA -> AC -> (List Int) -> Int -> Int -> Int -> Int -> Option Bool) (q:AA) (c_:AC) (pos:List Int) (At value at_ s_:Int):Nat -> Vl -> Option Bool
 | 0,_=>none
 | n+1,.l1 Aj=>Rz n Az (Lb Az q c_ pos At value at_ s_ n) q c_ pos At value at_ s_ Aj
def JW:Nat -> AA -> AC -> (List Int) -> Int -> Int -> Int -> Int -> Option Bool
 | 0,_,_,_,_,_,_,_=>none
 | n+1,q,c_,pos,At,value,at_,s_=>R5 n (JW n) (Lb (JW n) q c_ pos At value at_ s_ n) q c_ pos At value at_ s_
def vK (n B:Nat) (N:Yd 0) (q:AA) (c_:AC) (pos:List Int) (At value at_ s_:Int) (r:Bool):Vl -> Prop
 | .l1 Aj=>∀ m0:Nat,n<=m0 -> TW B N (FQ Tryz.f123 0 (.bool r) []) (Ah m0 (Ap (AW Tryz.f123) 0 [])) ⟨AM 71 [(2,.ints pos),(3,.i At),(4,.i value),(5,.i at_),(6,.i s_),(7,.ref 0 0),(8,.ref 1 0),(15,.i Aj)],[some (.cells (AD q)),some (.cells (AH c_))]⟩
theorem vL (B:Nat) (N:Yd 0) (Az:AA -> AC -> (List Int) -> Int -> Int -> Int -> Int -> Option Bool) (Cf: ∀ {q:AA} {c_:AC} {pos:List Int} {At value at_ s_:Int} {r:Bool},Az q c_ pos At value at_ s_=some r -> EQ 123 [.agg 5 (L1 (AD q)),.agg 9 (L1 (AH c_)),.ints pos,.i At,.i value,.i at_,.i s_] [] (.bool r) [] true) (q:AA) (c_:AC) (pos:List Int) (At value at_ s_:Int):Al (Lb Az q c_ pos At value at_ s_) (vK · B N q c_ pos At value at_ s_):=ia (fun _=>rfl) fun n AF pt r h=>by
 cases pt
 case l1 Aj=>
  intro m0 AB;refine rd AB fun m0 AB=>?_
  revert r;apply gO;exact bi 24 (jg sO (gc (gi (gi (cf M8 [some (.cells (AD q)),some (.cells (AH c_))] fun _=>bi 36 (bi 40 (gn fun g2=>jg g2 (bi 54 (gw 61 (jg g2 (cn fun y2 CF=>jc (fb (Cf CF) [some (.cells (AD q)),some (.cells (AH c_))]) (bi 69 (lE IU [14] []) (gw 26 (lG IU [0,1] (AF _ _ · m0 AB))))))) (gw 26 (lG IU [0,1] (AF _ _ · m0 AB))))) (bi 44 (gn fun g2=>jg g2 (bi 54 (gw 61 (jg g2 (cn fun y2 CF=>jc (fb (Cf CF) [some (.cells (AD q)),some (.cells (AH c_))]) (bi 69 (lE IU [14] []) (gw 26 (lG IU [0,1] (AF _ _ · m0 AB))))))) (gw 26 (lG IU [0,1] (AF _ _ · m0 AB))))) (gw 26 (lG IU [0,1] (AF _ _ · m0 AB))))) (gw 26 (lG IU [0,1] (AF _ _ · m0 AB)))))))) (lE IU [14] [])
theorem vJ {n:Nat}: ∀ {q:AA} {c_:AC} {pos:List Int} {At value at_ s_:Int} {r:Bool} (h:JW n q c_ pos At value at_ s_=some r),EQ 123 [.agg 5 (L1 (AD q)),.agg 9 (L1 (AH c_)),.ints pos,.i At,.i value,.i at_,.i s_] [] (.bool r) [] true:=by
 induction n with
 | zero=>intro q c_ pos At value at_ s_ r h;cases h
 | succ n Cf=>
  intro q c_ pos At value at_ s_ r h;refine ot Tryz.func123 fun B N=>?_
  revert r;apply gO;exact bi 20 (lE IU [14] []) (lN IU [0,1] ((vL B N (JW n) Cf q c_ pos At value at_ s_ n) _ _ · n Nat.le.refl))
inductive M2 where
 | l1
 | l2
 | l3
 | l4
def Ry (n:Nat) (Az:AC -> (List Int) -> Int -> Int -> Int -> Int -> Bool -> Option Bool) (self:M2 -> Option Bool) (c_:AC) (pos:List Int) (At done Bu at_:Int) (AI:Bool):Option Bool:=
 bif (At==(c_.cells.length:Int)) then
  bif (decide (Bu>0)) then
   if AG (done+1) then
    bif ((done+1)==(c_.runs.length:Int)) then
     if 0<=done/\ done<(c_.runs.length:Int) then
      some (Bu==(c_.runs.getD ((done).toNat) 0))
     else none
    else
     some false
   else none
  else
   some (done==(c_.runs.length:Int))
 else
  self (.l2)
def Zr (n:Nat) (Az:AC -> (List Int) -> Int -> Int -> Int -> Int -> Bool -> Option Bool) (self:M2 -> Option Bool) (c_:AC) (pos:List Int) (At done Bu at_:Int) (AI:Bool):Option Bool:=
 if (0<=At/\ At<(c_.cells.length:Int))/\ (0<=(c_.cells.getD ((At).toNat) 0)/\ (c_.cells.getD ((At).toNat) 0)<(pos.length:Int)) then
  bif ((bits .and .i64 (pos.getD ((c_.cells.getD ((At).toNat) 0).toNat) 0) c_.set) != 0) then
   bif (At != at_) then
    if AG (At+1)/\ AG (Bu+1) then
     (Az c_ pos (At+1) done (Bu+1) at_ AI).bind fun y1=>
      bif y1 then
       some true
      else
       self (.l3)
    else none
   else
    bif AI then
     if AG (At+1)/\ AG (Bu+1) then
      (Az c_ pos (At+1) done (Bu+1) at_ true).bind fun y1=>
       bif y1 then
        some true
       else
        self (.l3)
     else none
    else
     self (.l3)
  else
   self (.l3)
 else none
def Zq (n:Nat) (Az:AC -> (List Int) -> Int -> Int -> Int -> Int -> Bool -> Option Bool) (self:M2 -> Option Bool) (c_:AC) (pos:List Int) (At done Bu at_:Int) (AI:Bool):Option Bool:=
 bif ((bits .and .i64 (pos.getD ((c_.cells.getD ((At).toNat) 0).toNat) 0) c_.set)==(pos.getD ((c_.cells.getD ((At).toNat) 0).toNat) 0)) then
  some false
 else
  bif (At==at_) then
   bif AI then
    some false
   else
    self (.l4)
  else
   self (.l4)
def Zp (n:Nat) (Az:AC -> (List Int) -> Int -> Int -> Int -> Int -> Bool -> Option Bool) (self:M2 -> Option Bool) (c_:AC) (pos:List Int) (At done Bu at_:Int) (AI:Bool):Option Bool:=
 bif (Bu==0) then
  if AG (At+1) then
   (Az c_ pos (At+1) done 0 at_ AI).bind fun y1=>
    some y1
  else none
 else
  if 0<=done/\ done<(c_.runs.length:Int) then
   bif (Bu==(c_.runs.getD ((done).toNat) 0)) then
    if AG (At+1)/\ AG (done+1) then
     (Az c_ pos (At+1) (done+1) 0 at_ AI).bind fun y1=>
      some y1
    else none
   else
    some false
  else none
def M1 (n:Nat) (Az:AC -> (List Int) -> Int -> Int -> Int -> Int -> Bool -> Option Bool) (self:M2 -> Option Bool) (c_:AC) (pos:List Int) (At done Bu at_:Int) (AI:Bool):Option Bool:=
 bif (decide (Bu>0)) then
  bif (decide (done>=(c_.runs.length:Int))) then
   some false
  else
   if 0<=done/\ done<(c_.runs.length:Int) then
    bif (decide (Bu>(c_.runs.getD ((done).toNat) 0))) then
     some false
    else
     self (.l1)
   else none
 else
  self (.l1)
def GD (Az:AC -> (List Int) -> Int -> Int -> Int -> Int -> Bool -> Option Bool) (c_:AC) (pos:List Int) (At done Bu at_:Int) (AI:Bool):Nat -> M2 -> Option Bool
 | 0,_=>none
 | n+1,.l1=>Ry n Az (GD Az c_ pos At done Bu at_ AI n) c_ pos At done Bu at_ AI
 | n+1,.l2=>Zr n Az (GD Az c_ pos At done Bu at_ AI n) c_ pos At done Bu at_ AI
 | n+1,.l3=>Zq n Az (GD Az c_ pos At done Bu at_ AI n) c_ pos At done Bu at_ AI
 | n+1,.l4=>Zp n Az (GD Az c_ pos At done Bu at_ AI n) c_ pos At done Bu at_ AI
def Dr:Nat -> AC -> (List Int) -> Int -> Int -> Int -> Int -> Bool -> Option Bool
 | 0,_,_,_,_,_,_,_=>none
 | n+1,c_,pos,At,done,Bu,at_,AI=>M1 n (Dr n) (GD (Dr n) c_ pos At done Bu at_ AI n) c_ pos At done Bu at_ AI
def vI (n B:Nat) (N:Yd 0) (c_:AC) (pos:List Int) (At done Bu at_:Int) (AI:Bool) (r:Bool):M2 -> Prop
 | .l1=>TW B N (FQ Tryz.f98 0 (.bool r) []) (Dl (AW Tryz.f98) 3 []) ⟨AM 136 [(1,.ints pos),(2,.i At),(3,.i done),(4,.i Bu),(5,.i at_),(6,.bool AI),(7,.ref 0 0)],[some (.cells (AH c_))]⟩
 | .l2=>TW B N (FQ Tryz.f98 0 (.bool r) []) (Dl (AW Tryz.f98) 7 []) ⟨AM 136 [(1,.ints pos),(2,.i At),(3,.i done),(4,.i Bu),(5,.i at_),(6,.bool AI),(7,.ref 0 0)],[some (.cells (AH c_))]⟩
 | .l3=>TW B N (FQ Tryz.f98 0 (.bool r) []) (Dl (AW Tryz.f98) 10 []) ⟨AM 136 [(1,.ints pos),(2,.i At),(3,.i done),(4,.i Bu),(5,.i at_),(6,.bool AI),(7,.ref 0 0),(15,.i (pos.getD ((c_.cells.getD ((At).toNat) 0).toNat) 0))],[some (.cells (AH c_))]⟩
 | .l4=>TW B N (FQ Tryz.f98 0 (.bool r) []) (Dl (AW Tryz.f98) 12 []) ⟨AM 136 [(1,.ints pos),(2,.i At),(3,.i done),(4,.i Bu),(5,.i at_),(6,.bool AI),(7,.ref 0 0)],[some (.cells (AH c_))]⟩
theorem jM (B:Nat) (N:Yd 0) (Az:AC -> (List Int) -> Int -> Int -> Int -> Int -> Bool -> Option Bool) (Cf: ∀ {c_:AC} {pos:List Int} {At done Bu at_:Int} {AI:Bool} {r:Bool},Az c_ pos At done Bu at_ AI=some r -> EQ 98 [.agg 9 (L1 (AH c_)),.ints pos,.i At,.i done,.i Bu,.i at_,.bool AI] [] (.bool r) [] true) (c_:AC) (pos:List Int) (At done Bu at_:Int) (AI:Bool):Al (GD Az c_ pos At done Bu at_ AI) (vI · B N c_ pos At done Bu at_ AI):=ia (fun _=>rfl) fun n AF pt r h=>by
 cases pt
 case l1=>
  revert r;apply gO;exact bi 38 (bi 40 (gw 42 (bi 46 (gi (lE (AK 12 (AK 10 (AK 7 AE))) [14] [])) (lE (AK 12 (AK 10 (AK 7 AE))) [14] []))) (lE (AK 12 (AK 10 (AK 7 AE))) [14] [])) (lG (AK 12 (AK 10 (AK 7 AE))) [0] (AF _ _ ·))
 case l2=>
  revert r;apply gO;exact gc (gi (gi (bi 73 (bi 77 (gc (gw 86 (gw 89 (cn fun y1 A1=>jc (fb (Cf A1) [some (.cells (AH c_))]) (bi 92 (lE (AK 12 (AK 10 (AK 3 AE))) [14] []) (lG (AK 12 (AK 10 (AK 3 AE))) [0] (AF _ _ ·))))))) (bj 79 (fun c2=>gc (gw 86 (gw 89 (jb 91 c2 (cn fun y1 A1=>jc (fb (Cf A1) [some (.cells (AH c_))]) (bi 92 (lE (AK 12 (AK 10 (AK 3 AE))) [14] []) (lG (AK 12 (AK 10 (AK 3 AE))) [0] (AF _ _ ·)))))))) (fun _=>lG (AK 12 (AK 10 (AK 3 AE))) [0] (AF _ _ ·)))) (lG (AK 12 (AK 10 (AK 3 AE))) [0] (AF _ _ ·)))))
 case l3=>
  revert r;apply gO;exact bi 99 (lE (AK 12 (AK 7 (AK 3 AE))) [14] []) (bi 103 (bi 105 (lE (AK 12 (AK 7 (AK 3 AE))) [14] []) (lG (AK 12 (AK 7 (AK 3 AE))) [0] (AF _ _ ·))) (lG (AK 12 (AK 7 (AK 3 AE))) [0] (AF _ _ ·)))
 case l4=>
  revert r;apply gO;exact bi 109 (gw 113 (cn fun y1 A1=>jc (fb (Cf A1) [some (.cells (AH c_))]) (lE (AK 10 (AK 7 (AK 3 AE))) [14] []))) (gi (bi 124 (gc (gw 129 (gw 131 (cn fun y1 A1=>jc (fb (Cf A1) [some (.cells (AH c_))]) (lE (AK 10 (AK 7 (AK 3 AE))) [14] []))))) (lE (AK 10 (AK 7 (AK 3 AE))) [14] [])))
theorem jK {n:Nat}: ∀ {c_:AC} {pos:List Int} {At done Bu at_:Int} {AI:Bool} {r:Bool} (h:Dr n c_ pos At done Bu at_ AI=some r),EQ 98 [.agg 9 (L1 (AH c_)),.ints pos,.i At,.i done,.i Bu,.i at_,.bool AI] [] (.bool r) [] true:=by
 induction n with
 | zero=>intro c_ pos At done Bu at_ AI r h;cases h
 | succ n Cf=>
  intro c_ pos At done Bu at_ AI r h;refine ot Tryz.func98 fun B N=>?_
  revert r;apply gO;exact bi 17 (bi 23 (lE (AK 12 (AK 10 (AK 7 (AK 3 AE)))) [14] []) (gi (bi 31 (lE (AK 12 (AK 10 (AK 7 (AK 3 AE)))) [14] []) (lG (AK 12 (AK 10 (AK 7 (AK 3 AE)))) [0] ((jM B N (Dr n) Cf c_ pos At done Bu at_ AI n) _ _ ·))))) (lG (AK 12 (AK 10 (AK 7 (AK 3 AE)))) [0] ((jM B N (Dr n) Cf c_ pos At done Bu at_ AI n) _ _ ·))
def jZ (n:Nat) (BF JO:Int):Option Bool:=
 bif (decide (JO>=0)) then
  bif (decide (JO<16)) then
   if 0<=JO/\ JO<=(IntKind.i64.bits:Int) then
    some ((bits .and .i64 BF (IntKind.i64.wrap (1*2 ^ (JO).toNat))) != 0)
   else none
  else
   some false
 else
  some false
def KW (n:Nat) (BF JO:Int):Option Bool:=jZ n BF JO
theorem O9 {n:Nat} {BF JO:Int} {r:Bool} (h:KW n BF JO=some r):EQ 142 [.i BF,.i JO] [] (.bool r) [] true:=by
 refine ot Tryz.func142 fun B N=>?_
 revert r;apply gO;exact bi 6 (bi 9 (gi (lE AE [4] [])) (lE AE [4] [])) (lE AE [4] [])
def j3 (n:Nat) (a b_ n_:Int):Option Bool:=
 if AG (a-b_) then
  bif (decide ((a-b_)>=n_)) then
   some true
  else
   if AG (b_-a) then
    some (decide ((b_-a)>=n_))
   else none
 else none
def aA (n:Nat) (a b_ n_:Int):Option Bool:=j3 n a b_ n_
theorem wQ {n:Nat} {a b_ n_:Int} {r:Bool} (h:aA n a b_ n_=some r):EQ 141 [.i a,.i b_,.i n_] [] (.bool r) [] true:=by
 refine ot Tryz.func141 fun B N=>?_
 revert r;apply gO;exact gw 9 (bi 11 (lE AE [6] []) (gw 15 (lE AE [6] [])))
theorem sQ:Af (Ax Tryz.f131 15) [([0,1,2,3,4,5,6,7,8,9,10,11,12,13,14,15,16,17,18,19,20,21,22,23],24)] [25] []:=by unfold Af;kernel_rfl
def Oo:BJ:=fun i=>match i with
 | 13=>.ord [([0,1,2,3,4,6,7],5),([],8)] [9] []
 | 15=>.ord [([0,1,2,3,4,5,6,7,8,9,10,11,12,13,14,15,16,17,18,19,20,21,22,23],24)] [25] []
 | 21=>.ord [([0,1,2,3,4,5,6],7),([],8)] [9] []
 | 22=>.ord [([0,1,2,3,4,5,6],7),([],8)] [9] []
 | _=>.no
def jQ (n:Nat) (q:AA) (c_:AC) (Eb:List Int):Option Bool:=
 bif (c_.kind==1) then
  none
 else
  bif (c_.kind==2) then
   none
  else
   bif (c_.kind==3) then
    none
   else
    bif (c_.kind==4) then
     none
    else
     bif (c_.kind==5) then
      none
     else
      bif (c_.kind==6) then
       if ((0:Int)<=0/\ 0<(c_.cells.length:Int))/\ (0<=(c_.cells.getD 0 0)/\ (c_.cells.getD 0 0)<(Eb.length:Int))/\ (0<=(Eb.getD ((c_.cells.getD 0 0).toNat) 0)/\ (Eb.getD ((c_.cells.getD 0 0).toNat) 0)<(q.values.length:Int))/\ ((0:Int)<=1/\ 1<(c_.cells.length:Int))/\ (0<=(c_.cells.getD 1 0)/\ (c_.cells.getD 1 0)<(Eb.length:Int))/\ (0<=(Eb.getD ((c_.cells.getD 1 0).toNat) 0)/\ (Eb.getD ((c_.cells.getD 1 0).toNat) 0)<(q.values.length:Int)) then
        (aA n (q.values.getD ((Eb.getD ((c_.cells.getD 0 0).toNat) 0).toNat) 0) (q.values.getD ((Eb.getD ((c_.cells.getD 1 0).toNat) 0).toNat) 0) c_.lo).bind fun y1=>
         some y1
       else none
      else
       bif (c_.kind==7) then
        if ((0:Int)<=0/\ 0<(c_.cells.length:Int))/\ (0<=(c_.cells.getD 0 0)/\ (c_.cells.getD 0 0)<(Eb.length:Int))/\ ((0:Int)<=1/\ 1<(c_.cells.length:Int))/\ (0<=(c_.cells.getD 1 0)/\ (c_.cells.getD 1 0)<(Eb.length:Int)) then
         (KW n c_.set (Eb.getD ((c_.cells.getD 0 0).toNat) 0)).bind fun y1=>
          bif y1 then
           (KW n c_.other (Eb.getD ((c_.cells.getD 1 0).toNat) 0)).bind fun y2=>
            bif (!y2) then
             (KW n c_.set (Eb.getD ((c_.cells.getD 1 0).toNat) 0)).bind fun y3=>
              bif y3 then
               (KW n c_.other (Eb.getD ((c_.cells.getD 0 0).toNat) 0)).bind fun y4=>
                some (!y4)
              else
               some true
            else
             some false
          else
           (KW n c_.set (Eb.getD ((c_.cells.getD 1 0).toNat) 0)).bind fun y2=>
            bif y2 then
             (KW n c_.other (Eb.getD ((c_.cells.getD 0 0).toNat) 0)).bind fun y3=>
              some (!y3)
            else
             some true
        else none
       else
        bif (c_.kind==8) then
         none
        else
         none
def R9 (n:Nat) (q:AA) (c_:AC) (Eb:List Int):Option Bool:=jQ n q c_ Eb
theorem vW {n:Nat} {q:AA} {c_:AC} {Eb:List Int} {r:Bool} (h:R9 n q c_ Eb=some r):EQ 131 [.agg 5 (L1 (AD q)),.agg 9 (L1 (AH c_)),.ints Eb] [] (.bool r) [] true:=by
 refine ot Tryz.func131 fun B N=>?_
 revert r;apply gO;exact bi 14 nO (bi 20 nO (bi 38 nO (bi 56 nO (bi 64 nO (bi 75 (jg sQ (gc (gi (gc (gi (gc (gi (gc (gi (gc (gi (gi (cf wQ [some (.cells (AD q)),some (.cells (AH c_))] fun _=>lE Oo [6] []))))))))))))) (bi 102 (gc (gi (gc (gi (gc (gi (gi (cf O9 [some (.cells (AD q)),some (.cells (AH c_))] fun _=>bi 120 (cf O9 [some (.cells (AD q)),some (.cells (AH c_))] fun _=>bi 127 (cf O9 [some (.cells (AD q)),some (.cells (AH c_))] fun _=>bi 132 (cf O9 [some (.cells (AD q)),some (.cells (AH c_))] fun _=>lE Oo [6] []) (lE Oo [6] [])) (lE Oo [6] [])) (cf O9 [some (.cells (AD q)),some (.cells (AH c_))] fun _=>bi 132 (cf O9 [some (.cells (AD q)),some (.cells (AH c_))] fun _=>lE Oo [6] []) (lE Oo [6] [])))))))))) (bn (fun c7=>nO) (fun c7=>nO))))))))
def mr (q:AA) (c_:AC) (o2:List Int) (at_ s_ x13:Int):DH:=[some (.cells (AD q)),some (.cells (AH c_)),some (.ints ((o2.set (0+((c_.cells.getD ((at_).toNat) 0).toNat)) s_).set (0+((c_.cells.getD (((1-at_)).toNat) 0).toNat)) x13))]
inductive V1 where
 | l1 (x13:Int) (o2:List Int)
def SR (n:Nat) (self:V1 -> Option Bool) (q:AA) (c_:AC) (pos:List Int) (at_ s_:Int) (x13:Int) (o2:List Int):Option Bool:=
 bif (decide (x13<q.symbols)) then
  if (0<=at_/\ at_<(c_.cells.length:Int))/\ (0<=(c_.cells.getD ((at_).toNat) 0)/\ (c_.cells.getD ((at_).toNat) 0)<(pos.length:Int))/\ 0+((c_.cells.getD ((at_).toNat) 0).toNat)<o2.length/\ (0<=(c_.cells.getD (((1-at_)).toNat) 0)/\ (c_.cells.getD (((1-at_)).toNat) 0)<(pos.length:Int))/\ 0+((c_.cells.getD (((1-at_)).toNat) 0).toNat)<(o2.set (0+((c_.cells.getD ((at_).toNat) 0).toNat)) s_).length then
   (GE n (pos.getD ((c_.cells.getD (((1-at_)).toNat) 0).toNat) 0) x13).bind fun y1=>
    bif y1 then
     if pos.length=((o2.set (0+((c_.cells.getD ((at_).toNat) 0).toNat)) s_).set (0+((c_.cells.getD (((1-at_)).toNat) 0).toNat)) x13).length then
      (R9 n q c_ ((o2.set (0+((c_.cells.getD ((at_).toNat) 0).toNat)) s_).set (0+((c_.cells.getD (((1-at_)).toNat) 0).toNat)) x13)).bind fun y2=>
       bif y2 then
        some true
       else
        if AG (x13+1) then
         self (.l1 (x13+1) ((o2.set (0+((c_.cells.getD ((at_).toNat) 0).toNat)) s_).set (0+((c_.cells.getD (((1-at_)).toNat) 0).toNat)) x13))
        else none
     else none
    else
     if AG (x13+1) then
      self (.l1 (x13+1) ((o2.set (0+((c_.cells.getD ((at_).toNat) 0).toNat)) s_).set (0+((c_.cells.getD (((1-at_)).toNat) 0).toNat)) x13))
     else none
  else none
 else
  some false
def jv (n:Nat) (self:V1 -> Option Bool) (q:AA) (c_:AC) (pos:List Int) (at_ s_:Int):Option Bool:=
 if (((pos.length:Int):Int)=(pos.length:Int)/\ 0<=(pos.length:Int)/\ ((pos.length:Int):Int)<=1000000000000)/\ AG (1-at_)/\ ((0:Int)<=(1-at_)/\ (1-at_)<(c_.cells.length:Int)) then
  self (.l1 0 (List.replicate pos.length (0:Int)))
 else none
def NC (q:AA) (c_:AC) (pos:List Int) (at_ s_:Int):Nat -> V1 -> Option Bool
 | 0,_=>none
 | n+1,.l1 x13 o2=>SR n (NC q c_ pos at_ s_ n) q c_ pos at_ s_ x13 o2
def PF (n:Nat) (q:AA) (c_:AC) (pos:List Int) (at_ s_:Int):Option Bool:=jv n (NC q c_ pos at_ s_ n) q c_ pos at_ s_
def wM (n B:Nat) (N:Yd 0) (q:AA) (c_:AC) (pos:List Int) (at_ s_:Int) (r:Bool):V1 -> Prop
 | .l1 x13 o2=>∀ m0:Nat,n<=m0 -> TW B N (FQ Tryz.f124 0 (.bool r) []) (Ah m0 (Ap (AW Tryz.f124) 0 [])) ⟨AM 53 [(2,.ints pos),(3,.i at_),(4,.i s_),(5,.ref 0 0),(6,.ref 1 0),(11,.msl 2 1 0 pos.length),(12,.i (c_.cells.getD (((1-at_)).toNat) 0)),(13,.i x13)],[some (.cells (AD q)),some (.cells (AH c_)),some (.ints o2)]⟩
theorem wN (B:Nat) (N:Yd 0) (q:AA) (c_:AC) (pos:List Int) (at_ s_:Int):Al (NC q c_ pos at_ s_) (wM · B N q c_ pos at_ s_):=ia (fun _=>rfl) fun n AF pt r h=>by
 cases pt
 case l1 x13 o2=>
  intro m0 AB;refine rd AB fun m0 AB=>?_
  revert r;apply gO;exact bi 26 (gc (gi (gc (gi (gc (gi (gc (gn fun g3=>jg g3 (gi (jg g3 (cf M8 (mr q c_ o2 at_ s_ x13) fun _=>bi 46 (gn fun g5=>cn fun y2 CF=>jc (sb [.agg 5 (L1 (AD q)),.agg 9 (L1 (AH c_)),.msl 2 1 0 pos.length] (vW CF) (mr q c_ o2 at_ s_ x13) ⟨Ar.plain (by kernel_rfl),Ar.plain (by kernel_rfl),Ar.ints rfl g5,trivial⟩) (bi 51 (lE AE [10] []) (gw 28 (lG AE [0,1,2] (AF _ _ · m0 AB))))) (gw 28 (lG AE [0,1,2] (AF _ _ · m0 AB)))))))))))))) (lE AE [10] [])
theorem wL {n:Nat} {q:AA} {c_:AC} {pos:List Int} {at_ s_:Int} {r:Bool} (h:PF n q c_ pos at_ s_=some r):EQ 124 [.agg 5 (L1 (AD q)),.agg 9 (L1 (AH c_)),.ints pos,.i at_,.i s_] [] (.bool r) [] true:=by
 refine ot Tryz.func124 fun B N=>?_
 revert r;apply gO;exact gc (gi (gc (gw 20 (gi (lN AE [0,1,2] ((wN B N q c_ pos at_ s_ n) _ _ · n Nat.le.refl))))))
theorem sc:Af (Ax Tryz.f99 14) [([0,1,2,3,4,5],6),([],7)] [8] []:=by unfold Af;kernel_rfl
theorem sZ:Af (Ax Tryz.f99 16) [([0,1,2,3,4,5,6,7],8)] [9] []:=by unfold Af;kernel_rfl
def IV:BJ:=fun i=>match i with
 | 14=>.ord [([0,1,2,3,4,5],6),([],7)] [8] []
 | 16=>.ord [([0,1,2,3,4,5,6,7],8)] [9] []
 | _=>.no
inductive NB where
 | l1 (x7:List Int) (x8:Int)
 | l2 (x7:List Int) (x8 x9:Int)
 | l3 (x7:List Int) (x8 x9:Int) (AO:Bool)
 | l4 (x7:List Int) (x8 x9:Int)
def SP (n:Nat) (self:NB -> Option ((List Int))) (q:AA) (c_:AC) (pos:List Int) (x7:List Int) (x8:Int):Option ((List Int)):=
 bif (decide (x8<(c_.cells.length:Int))) then
  self (.l2 x7 x8 0)
 else
  some x7
def SO (n:Nat) (self:NB -> Option ((List Int))) (q:AA) (c_:AC) (pos:List Int) (x7:List Int) (x8 x9:Int):Option ((List Int)):=
 bif (decide (x9<q.symbols)) then
  bif (c_.kind==4) then
   (JW n q c_ pos 0 (-1) x8 x9).bind fun y1=>
    self (.l3 x7 x8 x9 y1)
  else
   bif (c_.kind==5) then
    (GE n c_.set x9).bind fun y1=>
     (Dr n c_ pos 0 0 0 x8 y1).bind fun y2=>
      self (.l3 x7 x8 x9 y2)
   else
    (PF n q c_ pos x8 x9).bind fun y1=>
     self (.l3 x7 x8 x9 y1)
 else
  if AG (x8+1) then
   self (.l1 x7 (x8+1))
  else none
def Z9 (n:Nat) (self:NB -> Option ((List Int))) (q:AA) (c_:AC) (pos:List Int) (x7:List Int) (x8 x9:Int) (AO:Bool):Option ((List Int)):=
 if (0<=x8/\ x8<(c_.cells.length:Int))/\ (0<=(c_.cells.getD ((x8).toNat) 0)/\ (c_.cells.getD ((x8).toNat) 0)<(pos.length:Int)) then
  (GE n (pos.getD ((c_.cells.getD ((x8).toNat) 0).toNat) 0) x9).bind fun y1=>
   bif y1 then
    bif (!AO) then
     if 0<=x9/\ x9<=(IntKind.i64.bits:Int) then
      (Ej n x7 (c_.cells.getD ((x8).toNat) 0) (IntKind.i64.wrap (1*2 ^ (x9).toNat))).bind fun y2=>
       self (.l4 y2 x8 x9)
     else none
    else
     self (.l4 x7 x8 x9)
   else
    self (.l4 x7 x8 x9)
 else none
def Z8 (n:Nat) (self:NB -> Option ((List Int))) (q:AA) (c_:AC) (pos:List Int) (x7:List Int) (x8 x9:Int):Option ((List Int)):=
 if AG (x9+1) then
  self (.l2 x7 x8 (x9+1))
 else none
def js (n:Nat) (self:NB -> Option ((List Int))) (q:AA) (c_:AC) (pos:List Int):Option ((List Int)):=
 if pos.length=(List.replicate pos.length (0:Int)).length/\ (((pos.length:Int):Int)=(pos.length:Int)/\ 0<=(pos.length:Int)/\ ((pos.length:Int):Int)<=1000000000000) then
  self (.l1 (List.replicate pos.length (0:Int)) 0)
 else none
def E4 (q:AA) (c_:AC) (pos:List Int):Nat -> NB -> Option ((List Int))
 | 0,_=>none
 | n+1,.l1 x7 x8=>SP n (E4 q c_ pos n) q c_ pos x7 x8
 | n+1,.l2 x7 x8 x9=>SO n (E4 q c_ pos n) q c_ pos x7 x8 x9
 | n+1,.l3 x7 x8 x9 AO=>Z9 n (E4 q c_ pos n) q c_ pos x7 x8 x9 AO
 | n+1,.l4 x7 x8 x9=>Z8 n (E4 q c_ pos n) q c_ pos x7 x8 x9
def PE (n:Nat) (q:AA) (c_:AC) (pos:List Int):Option ((List Int)):=js n (E4 q c_ pos n) q c_ pos
def wJ (n B:Nat) (N:Yd 0) (q:AA) (c_:AC) (pos:List Int) (r:(List Int)):NB -> Prop
 | .l1 x7 x8=>∀ m0:Nat,n<=m0 -> TW B N (FQ Tryz.f99 0 (.ints r) []) (Ah m0 (Ap (AW Tryz.f99) 0 [])) ⟨AM 77 [(2,.ints pos),(3,.ref 0 0),(4,.ref 1 0),(7,.ints x7),(8,.i x8)],[some (.cells (AD q)),some (.cells (AH c_))]⟩
 | .l2 x7 x8 x9=>∀ m0 m1:Nat,n<=m0 -> n<=m1 -> TW B N (FQ Tryz.f99 0 (.ints r) []) (Ah m1 (Ap (AW Tryz.f99) 2 [m0])) ⟨AM 77 [(2,.ints pos),(3,.ref 0 0),(4,.ref 1 0),(7,.ints x7),(8,.i x8),(9,.i x9)],[some (.cells (AD q)),some (.cells (AH c_))]⟩
 | .l3 x7 x8 x9 AO=>∀ m0 m1:Nat,n<=m0 -> n<=m1 -> TW B N (FQ Tryz.f99 0 (.ints r) []) (Dl (AW Tryz.f99) 15 [m0,m1]) ⟨AM 77 [(2,.ints pos),(3,.ref 0 0),(4,.ref 1 0),(7,.ints x7),(8,.i x8),(9,.i x9),(10,.bool AO)],[some (.cells (AD q)),some (.cells (AH c_))]⟩
 | .l4 x7 x8 x9=>∀ m0 m1:Nat,n<=m0 -> n<=m1 -> TW B N (FQ Tryz.f99 0 (.ints r) []) (Dl (AW Tryz.f99) 7 [m0,m1]) ⟨AM 77 [(2,.ints pos),(3,.ref 0 0),(4,.ref 1 0),(7,.ints x7),(8,.i x8),(9,.i x9)],[some (.cells (AD q)),some (.cells (AH c_))]⟩
theorem wK (B:Nat) (N:Yd 0) (q:AA) (c_:AC) (pos:List Int):Al (E4 q c_ pos) (wJ · B N q c_ pos):=ia (fun _=>rfl) fun n AF pt r h=>by
 cases pt
 case l1 x7 x8=>
  intro m0 AB;refine rd AB fun m0 AB=>?_
  revert r;apply gO;exact bi 18 (lN (AK 15 (AK 7 IV)) [0,1] (AF _ _ · m0 n AB Nat.le.refl)) (lE (AK 15 (AK 7 IV)) [6] [])
 case l2 x7 x8 x9=>
  intro m0 m1 AB AR;have AB:=zBZ AB;refine rd AR fun m1 AR=>?_
  revert r;apply gO;exact bi 24 (bi 36 (cf vJ [some (.cells (AD q)),some (.cells (AH c_))] fun _=>lG (AK 15 (AK 7 IV)) [0,1] (AF _ _ · m0 m1 AB AR)) (bi 44 (jg sc (cf M8 [some (.cells (AD q)),some (.cells (AH c_))] fun _=>cf jK [some (.cells (AD q)),some (.cells (AH c_))] fun _=>lG (AK 15 (AK 7 IV)) [0,1] (AF _ _ · m0 m1 AB AR))) (cf wL [some (.cells (AD q)),some (.cells (AH c_))] fun _=>lG (AK 15 (AK 7 IV)) [0,1] (AF _ _ · m0 m1 AB AR)))) (gw 20 (lG (AK 15 (AK 7 IV)) [0,1] (AF _ _ · m0 AB)))
 case l3 x7 x8 x9 AO=>
  intro m0 m1 AB AR;have AB:=zBZ AB;have AR:=zBZ AR;revert r;apply gO;exact gc (gn fun g0=>jg g0 (gi (cf M8 [some (.cells (AD q)),some (.cells (AH c_))] fun _=>bi 62 (bi 65 (jg sZ (jg g0 (gi (cf JY [some (.cells (AD q)),some (.cells (AH c_))] fun _=>lG (AK 7 IV) [0,1] (AF _ _ · m0 m1 AB AR))))) (lG (AK 7 IV) [0,1] (AF _ _ · m0 m1 AB AR))) (lG (AK 7 IV) [0,1] (AF _ _ · m0 m1 AB AR)))))
 case l4 x7 x8 x9=>
  intro m0 m1 AB AR;have AB:=zBZ AB;have AR:=zBZ AR;revert r;apply gO;exact gw 26 (lG (AK 15 IV) [0,1] (AF _ _ · m0 m1 AB AR))
theorem jr {n:Nat} {q:AA} {c_:AC} {pos:List Int} {r:(List Int)} (h:PE n q c_ pos=some r):EQ 99 [.agg 5 (L1 (AD q)),.agg 9 (L1 (AH c_)),.ints pos] [] (.ints r) [] true:=by
 refine ot Tryz.func99 fun B N=>?_
 revert r;apply gO;exact gc (gn fun g0=>gi (jz 13 2 (jg g0 (lN (AK 15 (AK 7 IV)) [0,1] ((wK B N q c_ pos n) _ _ · n Nat.le.refl)))))
theorem sR:Af (Ax Tryz.f118 6) [] (List.range 24) [24]:=by unfold Af;kernel_rfl
def RH:BJ:=fun i=>match i with
 | 6=>.ord [] (List.range 24) [24]
 | _=>.no
inductive Vp where
 | l1 (x8:Int) (o1:List Bool)
def SB (n:Nat) (self:Vp -> Option ((List Bool))) (c_:AC) (pos:List Int) (all:Bool) (x8:Int) (o1:List Bool):Option ((List Bool)):=
 bif (decide (x8<(c_.cells.length:Int))) then
  if (0<=x8/\ x8<(c_.cells.length:Int))/\ (0<=(c_.cells.getD ((x8).toNat) 0)/\ (c_.cells.getD ((x8).toNat) 0)<(pos.length:Int)) then
   bif ((bits .and .i64 (pos.getD ((c_.cells.getD ((x8).toNat) 0).toNat) 0) c_.set) != 0) then
    bif (!all) then
     if 0+((c_.cells.getD ((x8).toNat) 0).toNat)<o1.length/\ AG (x8+1) then
      self (.l1 (x8+1) (o1.set (0+((c_.cells.getD ((x8).toNat) 0).toNat)) true))
     else none
    else
     if 0+((c_.cells.getD ((x8).toNat) 0).toNat)<o1.length/\ AG (x8+1) then
      self (.l1 (x8+1) (o1.set (0+((c_.cells.getD ((x8).toNat) 0).toNat)) ((bits .and .i64 (pos.getD ((c_.cells.getD ((x8).toNat) 0).toNat) 0) c_.set)==(pos.getD ((c_.cells.getD ((x8).toNat) 0).toNat) 0))))
     else none
   else
    if 0+((c_.cells.getD ((x8).toNat) 0).toNat)<o1.length/\ AG (x8+1) then
     self (.l1 (x8+1) (o1.set (0+((c_.cells.getD ((x8).toNat) 0).toNat)) false))
    else none
  else none
 else
  if pos.length=o1.length then
   some o1
  else none
def jS (n:Nat) (self:Vp -> Option ((List Bool))) (c_:AC) (pos:List Int) (all:Bool):Option ((List Bool)):=
 if ((pos.length:Int):Int)=(pos.length:Int)/\ 0<=(pos.length:Int)/\ ((pos.length:Int):Int)<=1000000000000 then
  self (.l1 0 (List.replicate pos.length false))
 else none
def O7 (c_:AC) (pos:List Int) (all:Bool):Nat -> Vp -> Option ((List Bool))
 | 0,_=>none
 | n+1,.l1 x8 o1=>SB n (O7 c_ pos all n) c_ pos all x8 o1
def KV (n:Nat) (c_:AC) (pos:List Int) (all:Bool):Option ((List Bool)):=jS n (O7 c_ pos all n) c_ pos all
def vX (n B:Nat) (N:Yd 0) (c_:AC) (pos:List Int) (all:Bool) (r:(List Bool)):Vp -> Prop
 | .l1 x8 o1=>∀ m0:Nat,n<=m0 -> TW B N (FQ Tryz.f118 0 (.bools r) []) (Ah m0 (Ap (AW Tryz.f118) 0 [])) ⟨AM 53 [(1,.ints pos),(2,.bool all),(3,.ref 0 0),(7,.msl 1 1 0 pos.length),(8,.i x8)],[some (.cells (AH c_)),some (.bools o1)]⟩
theorem vY (B:Nat) (N:Yd 0) (c_:AC) (pos:List Int) (all:Bool):Al (O7 c_ pos all) (vX · B N c_ pos all):=ia (fun _=>rfl) fun n AF pt r h=>by
 cases pt
 case l1 x8 o1=>
  intro m0 AB;refine rd AB fun m0 AB=>?_
  revert r;apply gO;exact bi 17 (gc (gn fun g0=>jg g0 (gn fun g1=>jg g1 (jg sR (jg g0 (bi 38 (bi 41 (jg g1 (gc (gi (gw 19 (lG RH [0,1] (AF _ _ · m0 AB)))))) (jg g1 (gc (gi (gw 19 (lG RH [0,1] (AF _ _ · m0 AB))))))) (jg g1 (gc (gi (gw 19 (lG RH [0,1] (AF _ _ · m0 AB)))))))))))) (gn fun g0=>lF fun p=>ez RH [6] [1] p [0] (H0.g g0))
theorem Vn {n:Nat} {c_:AC} {pos:List Int} {all:Bool} {r:(List Bool)} (h:KV n c_ pos all=some r):EQ 118 [.agg 9 (L1 (AH c_)),.ints pos,.bool all] [] (.bools r) [] true:=by
 refine ot Tryz.func118 fun B N=>?_
 revert r;apply gO;exact gi (lN RH [0,1] ((vY B N c_ pos all n) _ _ · n Nat.le.refl))
inductive Vt where
 | l1 (x3:Int)
def SH (n:Nat) (self:Vt -> Option Int) (AI:List Bool) (x3:Int):Option Int:=
 bif (decide (x3<(AI.length:Int))) then
  if 0<=x3/\ x3<(AI.length:Int) then
   bif (AI.getD ((x3).toNat) false) then
    some x3
   else
    if AG (x3+1) then
     self (.l1 (x3+1))
    else none
  else none
 else
  some (-1)
def vp (n:Nat) (self:Vt -> Option Int) (AI:List Bool):Option Int:=
 self (.l1 0)
def Ld (AI:List Bool):Nat -> Vt -> Option Int
 | 0,_=>none
 | n+1,.l1 x3=>SH n (Ld AI n) AI x3
def PB (n:Nat) (AI:List Bool):Option Int:=vp n (Ld AI n) AI
def vq (n B:Nat) (N:Yd 0) (AI:List Bool) (r:Int):Vt -> Prop
 | .l1 x3=>∀ m0:Nat,n<=m0 -> TW B N (FQ Tryz.f119 0 (.i r) []) (Ah m0 (Ap (AW Tryz.f119) 0 [])) ⟨AM 15 [(0,.bools AI),(3,.i x3)],[]⟩
theorem vr (B:Nat) (N:Yd 0) (AI:List Bool):Al (Ld AI) (vq · B N AI):=ia (fun _=>rfl) fun n AF pt r h=>by
 cases pt
 case l1 x3=>
  intro m0 AB;refine rd AB fun m0 AB=>?_
  revert r;apply gO;exact bi 7 (gi (bi 13 (lE AE [2] []) (gw 9 (lG AE [] (AF _ _ · m0 AB))))) (lE AE [2] [])
theorem jh {n:Nat} {AI:List Bool} {r:Int} (h:PB n AI=some r):EQ 119 [.bools AI] [] (.i r) [] true:=by
 refine ot Tryz.func119 fun B N=>?_
 revert r;apply gO;exact lN AE [] ((vr B N AI n) _ _ · n Nat.le.refl)
inductive O5 where
 | l1 (x8:Bool) (o0:List Bool)
 | l2 (x8:Bool) (x9:Int) (o0:List Bool)
 | l3 (x8:Bool) (x9 AO:Int) (o0:List Bool)
def Zu (n:Nat) (self:O5 -> Option ((List Bool))) (g_:List (List Int)) (AI:List Bool) (start:Int) (x8:Bool) (o0:List Bool):Option ((List Bool)):=
 bif x8 then
  self (.l2 false 0 o0)
 else
  if g_.length=o0.length then
   some o0
  else none
def R7 (n:Nat) (self:O5 -> Option ((List Bool))) (g_:List (List Int)) (AI:List Bool) (start:Int) (x8:Bool) (x9:Int) (o0:List Bool):Option ((List Bool)):=
 bif (decide (x9<(g_.length:Int))) then
  self (.l3 x8 x9 0 o0)
 else
  self (.l1 x8 o0)
def R6 (n:Nat) (self:O5 -> Option ((List Bool))) (g_:List (List Int)) (AI:List Bool) (start:Int) (x8:Bool) (x9 AO:Int) (o0:List Bool):Option ((List Bool)):=
 if 0<=x9/\ x9<(g_.length:Int) then
  bif (decide (AO<(((g_.getD ((x9).toNat) []).length:Nat):Int))) then
   if 0+((x9).toNat)<o0.length then
    bif (o0.getD (0+((x9).toNat)) false) then
     if (0<=AO/\ AO<(((g_.getD ((x9).toNat) []).length:Nat):Int))/\ ((0:Int)<=((g_.getD ((x9).toNat) []).getD ((AO).toNat) 0)/\ ((g_.getD ((x9).toNat) []).getD ((AO).toNat) 0)<(AI.length:Int)) then
      bif (AI.getD (((g_.getD ((x9).toNat) []).getD ((AO).toNat) 0).toNat) false) then
       if ((0:Int)<=((g_.getD ((x9).toNat) []).getD ((AO).toNat) 0)/\ ((g_.getD ((x9).toNat) []).getD ((AO).toNat) 0)<(g_.length:Int))/\ 0+(((g_.getD ((x9).toNat) []).getD ((AO).toNat) 0).toNat)<o0.length then
        bif (!(o0.getD (0+(((g_.getD ((x9).toNat) []).getD ((AO).toNat) 0).toNat)) false)) then
         if AG (AO+1) then
          self (.l3 true x9 (AO+1) (o0.set (0+(((g_.getD ((x9).toNat) []).getD ((AO).toNat) 0).toNat)) true))
         else none
        else
         if AG (AO+1) then
          self (.l3 x8 x9 (AO+1) o0)
         else none
       else none
      else
       if AG (AO+1) then
        self (.l3 x8 x9 (AO+1) o0)
       else none
     else none
    else
     if AG (AO+1) then
      self (.l3 x8 x9 (AO+1) o0)
     else none
   else none
  else
   if AG (x9+1) then
    self (.l2 x8 (x9+1) o0)
   else none
 else none
def jP (n:Nat) (self:O5 -> Option ((List Bool))) (g_:List (List Int)) (AI:List Bool) (start:Int):Option ((List Bool)):=
 if (((g_.length:Int):Int)=(g_.length:Int)/\ 0<=(g_.length:Int)/\ ((g_.length:Int):Int)<=1000000000000)/\ (0<=start/\ start<(g_.length:Int))/\ 0+((start).toNat)<(List.replicate g_.length false).length then
  self (.l1 true ((List.replicate g_.length false).set (0+((start).toNat)) true))
 else none
def Fc (g_:List (List Int)) (AI:List Bool) (start:Int):Nat -> O5 -> Option ((List Bool))
 | 0,_=>none
 | n+1,.l1 x8 o0=>Zu n (Fc g_ AI start n) g_ AI start x8 o0
 | n+1,.l2 x8 x9 o0=>R7 n (Fc g_ AI start n) g_ AI start x8 x9 o0
 | n+1,.l3 x8 x9 AO o0=>R6 n (Fc g_ AI start n) g_ AI start x8 x9 AO o0
def IZ (n:Nat) (g_:List (List Int)) (AI:List Bool) (start:Int):Option ((List Bool)):=jP n (Fc g_ AI start n) g_ AI start
def vO (n B:Nat) (N:Yd 0) (g_:List (List Int)) (AI:List Bool) (start:Int) (r:(List Bool)):O5 -> Prop
 | .l1 x8 o0=>∀ m0:Nat,n<=m0 -> TW B N (FQ Tryz.f129 0 (.bools r) []) (Ah m0 (Ap (AW Tryz.f129) 0 [])) ⟨AM 72 [(0,.sl 1 g_.length (Aw A8 g_)),(1,.bools AI),(7,.msl 0 1 0 g_.length),(8,.bool x8)],[some (.bools o0)]⟩
 | .l2 x8 x9 o0=>∀ m0 m1:Nat,n<=m0 -> n<=m1 -> TW B N (FQ Tryz.f129 0 (.bools r) []) (Ah m1 (Ap (AW Tryz.f129) 2 [m0])) ⟨AM 72 [(0,.sl 1 g_.length (Aw A8 g_)),(1,.bools AI),(7,.msl 0 1 0 g_.length),(8,.bool x8),(9,.i x9)],[some (.bools o0)]⟩
 | .l3 x8 x9 AO o0=>∀ m0 m1 m2:Nat,n<=m0 -> n<=m1 -> n<=m2 -> TW B N (FQ Tryz.f129 0 (.bools r) []) (Ah m2 (Ap (AW Tryz.f129) 4 [m0,m1])) ⟨AM 72 [(0,.sl 1 g_.length (Aw A8 g_)),(1,.bools AI),(7,.msl 0 1 0 g_.length),(8,.bool x8),(9,.i x9),(10,.i AO)],[some (.bools o0)]⟩
theorem vP (B:Nat) (N:Yd 0) (g_:List (List Int)) (AI:List Bool) (start:Int):Al (Fc g_ AI start) (vO · B N g_ AI start):=ia (fun _=>rfl) fun n AF pt r h=>by
 cases pt
 case l1 x8 o0=>
  intro m0 AB;refine rd AB fun m0 AB=>?_
  revert r;apply gO;exact bi 17 (lN AE [0] (AF _ _ · m0 n AB Nat.le.refl)) (gn fun g0=>lF fun p=>ez AE [6] [0] p [0] (H0.g g0))
 case l2 x8 x9 o0=>
  intro m0 m1 AB AR;have AB:=zBZ AB;refine rd AR fun m1 AR=>?_
  revert r;apply gO;exact bi 21 (lN AE [0] (AF _ _ · m0 m1 n AB AR Nat.le.refl)) (lG AE [0] (AF _ _ · m0 AB))
 case l3 x8 x9 AO o0=>
  intro m0 m1 m2 AB AR Cg;have AB:=zBZ AB;have AR:=zBZ AR;refine rd Cg fun m2 Cg=>?_
  revert r;apply gO;exact gn fun g0=>jg g0 (bi 30 (jg g0 (gi (bi 36 (jg g0 (gc (gn fun g2=>jg g2 (gi (bi 47 (jg g0 (jg g2 (gc (gn fun g4=>jg g4 (gn fun g5=>jg g5 (bi 60 (jg g0 (jg g2 (jg g4 (jg g5 (gw 32 (lG AE [0] (AF _ _ · m0 m1 m2 AB AR Cg))))))) (gw 32 (lG AE [0] (AF _ _ · m0 m1 m2 AB AR Cg))))))))) (gw 32 (lG AE [0] (AF _ _ · m0 m1 m2 AB AR Cg)))))))) (gw 32 (lG AE [0] (AF _ _ · m0 m1 m2 AB AR Cg)))))) (gw 23 (lG AE [0] (AF _ _ · m0 m1 AB AR))))
theorem Zt {n:Nat} {g_:List (List Int)} {AI:List Bool} {start:Int} {r:(List Bool)} (h:IZ n g_ AI start=some r):EQ 129 [.sl 1 g_.length (Aw A8 g_),.bools AI,.i start] [] (.bools r) [] true:=by
 refine ot Tryz.func129 fun B N=>?_
 revert r;apply gO;exact gc (gi (gc (gi (gi (lN AE [0] ((vP B N g_ AI start n) _ _ · n Nat.le.refl))))))
inductive SD where
 | l1 (x4:Int)
 | l2 (x3:Nat) (x4:Int) (o0:List Int)
def M7 (n:Nat) (self:SD -> Option ((List Int))) (AI:List Bool) (x4:Int):Option ((List Int)):=
 bif (decide (x4<(AI.length:Int))) then
  if 0<=x4/\ x4<(AI.length:Int) then
   bif (AI.getD ((x4).toNat) false) then
    if ((0=0/\ 1=([x4]:List Int).length)/\ 0<([x4]:List Int).length/\ ([x4]:List Int).length<=A7)/\ AG (x4+1) then
     self (.l2 (([x4]:List Int).length) (x4+1) ([x4]:List Int))
    else none
   else
    if AG (x4+1) then
     self (.l1 (x4+1))
    else none
  else none
 else
  some ([]:List Int)
def M6 (n:Nat) (self:SD -> Option ((List Int))) (AI:List Bool) (x3:Nat) (x4:Int) (o0:List Int):Option ((List Int)):=
 bif (decide (x4<(AI.length:Int))) then
  if 0<=x4/\ x4<(AI.length:Int) then
   bif (AI.getD ((x4).toNat) false) then
    if ((0=0/\ 1=([x4]:List Int).length)/\ (0=0/\ x3=o0.length)/\ o0.length+([x4]:List Int).length<=A7)/\ AG (x4+1) then
     self (.l2 (o0.length+([x4]:List Int).length) (x4+1) (o0++([x4]:List Int)))
    else none
   else
    if AG (x4+1) then
     self (.l2 x3 (x4+1) o0)
    else none
  else none
 else
  if x3=o0.length then
   some o0
  else none
def vg (n:Nat) (self:SD -> Option ((List Int))) (AI:List Bool):Option ((List Int)):=
 self (.l1 0)
def Hs (AI:List Bool):Nat -> SD -> Option ((List Int))
 | 0,_=>none
 | n+1,.l1 x4=>M7 n (Hs AI n) AI x4
 | n+1,.l2 x3 x4 o0=>M6 n (Hs AI n) AI x3 x4 o0
def Z0 (n:Nat) (AI:List Bool):Option ((List Int)):=vg n (Hs AI n) AI
def vh (n B:Nat) (N:Yd 0) (AI:List Bool) (r:(List Int)):SD -> Prop
 | .l1 x4=>∀ m0:Nat,n<=m0 -> TW B N (FQ Tryz.f134 0 (.ints r) []) (Ah m0 (Ap (AW Tryz.f134) 0 [])) ⟨AM 20 [(0,.bools AI),(3,.nils),(4,.i x4)],[]⟩
 | .l2 x3 x4 o0=>∀ m0:Nat,n<=m0 -> TW B N (FQ Tryz.f134 0 (.ints r) []) (Ah m0 (Ap (AW Tryz.f134) 0 [])) ⟨AM 20 [(0,.bools AI),(3,.msl 0 1 0 x3),(4,.i x4)],[some (.ints o0)]⟩
theorem vi (B:Nat) (N:Yd 0) (AI:List Bool):Al (Hs AI) (vh · B N AI):=ia (fun _=>rfl) fun n AF pt r h=>by
 cases pt
 case l1 x4=>
  intro m0 AB;refine rd AB fun m0 AB=>?_
  revert r;apply gO;exact bi 8 (gi (bi 14 (gc (gi (gw 10 (lG AE [1] (AF _ _ · m0 AB))))) (gw 10 (lG AE [] (AF _ _ · m0 AB))))) (lF fun p=>el AE [2] [] p [] H0 [.nils] AS.ints_nil)
 case l2 x3 x4 o0=>
  intro m0 AB;refine rd AB fun m0 AB=>?_
  revert r;apply gO;exact bi 8 (gi (bi 14 (gc (gi (gw 10 (lG AE [2] (AF _ _ · m0 AB))))) (gw 10 (lG AE [0] (AF _ _ · m0 AB))))) (gn fun g0=>lF fun p=>ez AE [2] [0] p [0] (H0.g g0))
theorem vf {n:Nat} {AI:List Bool} {r:(List Int)} (h:Z0 n AI=some r):EQ 134 [.bools AI] [] (.ints r) [] true:=by
 refine ot Tryz.func134 fun B N=>?_
 revert r;apply gO;exact lN AE [] ((vi B N AI n) _ _ · n Nat.le.refl)
def Z7 (n:Nat) (g_:List (List Int)) (AI:List Bool) (start:Int):Option ((List Int)×Int):=
 (La n g_).bind fun y1=>
  bif (y1 != 0) then
   some (([]:List Int),120)
  else
   bif ((AI.length:Int) != (g_.length:Int)) then
    some (([]:List Int),1)
   else
    bif (decide (start<0)) then
     some (([]:List Int),1)
    else
     bif (decide (start>=(g_.length:Int))) then
      some (([]:List Int),1)
     else
      if 0<=start/\ start<(AI.length:Int) then
       bif (!(AI.getD ((start).toNat) false)) then
        some (([]:List Int),1)
       else
        (IZ n g_ AI start).bind fun y2=>
         (Z0 n y2).bind fun y3=>
          some (y3,0)
      else none
def SN (n:Nat) (g_:List (List Int)) (AI:List Bool) (start:Int):Option ((List Int)×Int):=Z7 n g_ AI start
theorem wH {n:Nat} {g_:List (List Int)} {AI:List Bool} {start:Int} {r:(List Int)×Int} (h:SN n g_ AI start=some r):EQ 128 [.sl 1 g_.length (Aw A8 g_),.bools AI,.i start] [] (.tup 2 (L1 [.ints r.1,.i r.2])) [] true:=by
 unfold SN Z7 at h;refine ot Tryz.func128 fun B N=>?_
 revert r;apply gO;exact cf Zh [] fun _=>bi 10 (lF fun p=>el AE [6,7] [] p [] H0 [.nils,.i 120] (AS.tupL (l:=[.nils,.i 120]) (l':=[.ints ([]:List Int),.i 120]) rfl ⟨AS.ints_nil,BQ,trivial⟩)) (bi 15 (lF fun p=>el AE [6,7] [] p [] H0 [.nils,.i 1] (AS.tupL (l:=[.nils,.i 1]) (l':=[.ints ([]:List Int),.i 1]) rfl ⟨AS.ints_nil,BQ,trivial⟩)) (bi 18 (lF fun p=>el AE [6,7] [] p [] H0 [.nils,.i 1] (AS.tupL (l:=[.nils,.i 1]) (l':=[.ints ([]:List Int),.i 1]) rfl ⟨AS.ints_nil,BQ,trivial⟩)) (bi 24 (lF fun p=>el AE [6,7] [] p [] H0 [.nils,.i 1] (AS.tupL (l:=[.nils,.i 1]) (l':=[.ints ([]:List Int),.i 1]) rfl ⟨AS.ints_nil,BQ,trivial⟩)) (gi (bi 31 (lF fun p=>el AE [6,7] [] p [] H0 [.nils,.i 1] (AS.tupL (l:=[.nils,.i 1]) (l':=[.ints ([]:List Int),.i 1]) rfl ⟨AS.ints_nil,BQ,trivial⟩)) (cf Zt [] fun _=>cf vf [] fun _=>lE AE [6,7] []))))))
def jD (n:Nat) (AI:List Bool) (at_:Int):Option ((List Bool)):=
 if ((True)/\ (0=0/\ 0=([]:List Bool).length)/\ ([]:List Bool).length+AI.length<=A7)/\ (0<=at_/\ at_<((([]:List Bool).length+AI.length:Nat):Int))/\ 0+((at_).toNat)<(([]:List Bool)++AI).length then
  if ([]:List Bool).length+AI.length=((([]:List Bool)++AI).set (0+((at_).toNat)) false).length then
   some ((([]:List Bool)++AI).set (0+((at_).toNat)) false)
  else none
 else none
def Vg (n:Nat) (AI:List Bool) (at_:Int):Option ((List Bool)):=jD n AI at_
theorem u4 {n:Nat} {AI:List Bool} {at_:Int} {r:(List Bool)} (h:Vg n AI at_=some r):EQ 130 [.bools AI,.i at_] [] (.bools r) [] true:=by
 refine ot Tryz.func130 fun B N=>?_
 revert r;apply gO;exact gc (gi (gc (gi (gi (gn fun g3=>lF fun p=>ez AE [4] [1] p [0] (H0.g g3))))))
inductive Rv where
 | l1 (AO:Int)
 | l2 (AO:Int) (AJ AT:List Bool) (x13:Int)
def Ru (n:Nat) (self:Rv -> Option (Bool×Int)) (g_:List (List Int)) (AI BD:List Bool) (at_:Int) (AO:Int):Option (Bool×Int):=
 bif (decide (AO<(g_.length:Int))) then
  bif (AO==at_) then
   if AG (AO+1) then
    self (.l1 (AO+1))
   else none
  else
   if 0<=AO/\ AO<(AI.length:Int) then
    bif (!(AI.getD ((AO).toNat) false)) then
     if AG (AO+1) then
      self (.l1 (AO+1))
     else none
    else
     if 0<=AO/\ AO<(BD.length:Int) then
      bif (!(BD.getD ((AO).toNat) false)) then
       if AG (AO+1) then
        self (.l1 (AO+1))
       else none
      else
       (IZ n g_ AI AO).bind fun y1=>
        (Vg n AI at_).bind fun y2=>
         (IZ n g_ y2 AO).bind fun y3=>
          self (.l2 AO y1 y3 0)
     else none
   else none
 else
  some (false,0)
def Rt (n:Nat) (self:Rv -> Option (Bool×Int)) (g_:List (List Int)) (AI BD:List Bool) (at_:Int) (AO:Int) (AJ AT:List Bool) (x13:Int):Option (Bool×Int):=
 bif (decide (x13<(g_.length:Int))) then
  bif (x13 != at_) then
   if 0<=x13/\ x13<(AI.length:Int) then
    bif (AI.getD ((x13).toNat) false) then
     if 0<=x13/\ x13<(BD.length:Int) then
      bif (BD.getD ((x13).toNat) false) then
       if 0<=x13/\ x13<(AJ.length:Int) then
        bif (AJ.getD ((x13).toNat) false) then
         if 0<=x13/\ x13<(AT.length:Int) then
          bif (!(AT.getD ((x13).toNat) false)) then
           some (true,0)
          else
           if AG (x13+1) then
            self (.l2 AO AJ AT (x13+1))
           else none
         else none
        else
         if AG (x13+1) then
          self (.l2 AO AJ AT (x13+1))
         else none
       else none
      else
       if AG (x13+1) then
        self (.l2 AO AJ AT (x13+1))
       else none
     else none
    else
     if AG (x13+1) then
      self (.l2 AO AJ AT (x13+1))
     else none
   else none
  else
   if AG (x13+1) then
    self (.l2 AO AJ AT (x13+1))
   else none
 else
  if AG (AO+1) then
   self (.l1 (AO+1))
  else none
def jF (n:Nat) (self:Rv -> Option (Bool×Int)) (g_:List (List Int)) (AI BD:List Bool) (at_:Int):Option (Bool×Int):=
 (La n g_).bind fun y1=>
  bif (y1 != 0) then
   some (false,120)
  else
   bif ((AI.length:Int) != (g_.length:Int)) then
    some (false,1)
   else
    bif ((BD.length:Int) != (g_.length:Int)) then
     some (false,1)
    else
     bif (decide (at_<0)) then
      some (false,1)
     else
      bif (decide (at_>=(g_.length:Int))) then
       some (false,1)
      else
       if 0<=at_/\ at_<(AI.length:Int) then
        bif (!(AI.getD ((at_).toNat) false)) then
         some (false,0)
        else
         self (.l1 0)
       else none
def EU (g_:List (List Int)) (AI BD:List Bool) (at_:Int):Nat -> Rv -> Option (Bool×Int)
 | 0,_=>none
 | n+1,.l1 AO=>Ru n (EU g_ AI BD at_ n) g_ AI BD at_ AO
 | n+1,.l2 AO AJ AT x13=>Rt n (EU g_ AI BD at_ n) g_ AI BD at_ AO AJ AT x13
def Vi (n:Nat) (g_:List (List Int)) (AI BD:List Bool) (at_:Int):Option (Bool×Int):=jF n (EU g_ AI BD at_ n) g_ AI BD at_
def vC (n B:Nat) (N:Yd 0) (g_:List (List Int)) (AI BD:List Bool) (at_:Int) (r:Bool×Int):Rv -> Prop
 | .l1 AO=>∀ m0:Nat,n<=m0 -> TW B N (FQ Tryz.f121 0 (.tup 2 (L1 [.bool r.1,.i r.2])) []) (Ah m0 (Ap (AW Tryz.f121) 0 [])) ⟨AM 111 [(0,.sl 1 g_.length (Aw A8 g_)),(1,.bools AI),(2,.bools BD),(3,.i at_),(10,.i AO)],[]⟩
 | .l2 AO AJ AT x13=>∀ m0 m1:Nat,n<=m0 -> n<=m1 -> TW B N (FQ Tryz.f121 0 (.tup 2 (L1 [.bool r.1,.i r.2])) []) (Ah m1 (Ap (AW Tryz.f121) 2 [m0])) ⟨AM 111 [(0,.sl 1 g_.length (Aw A8 g_)),(1,.bools AI),(2,.bools BD),(3,.i at_),(10,.i AO),(11,.bools AJ),(12,.bools AT),(13,.i x13)],[]⟩
theorem vD (B:Nat) (N:Yd 0) (g_:List (List Int)) (AI BD:List Bool) (at_:Int):Al (EU g_ AI BD at_) (vC · B N g_ AI BD at_):=ia (fun _=>rfl) fun n AF pt r h=>by
 cases pt
 case l1 AO=>
  intro m0 AB;refine rd AB fun m0 AB=>?_
  revert r;apply gO;exact bi 47 (bi 52 (gw 49 (lG AE [] (AF _ _ · m0 AB))) (gi (bi 58 (gw 49 (lG AE [] (AF _ _ · m0 AB))) (gi (bi 65 (gw 49 (lG AE [] (AF _ _ · m0 AB))) (cf Zt [] fun _=>cf u4 [] fun _=>cf Zt [] fun _=>lN AE [] (AF _ _ · m0 n AB Nat.le.refl))))))) (lE AE [8,9] [])
 case l2 AO AJ AT x13=>
  intro m0 m1 AB AR;have AB:=zBZ AB;refine rd AR fun m1 AR=>?_
  revert r;apply gO;exact bi 80 (bi 85 (gi (bi 90 (gi (bi 96 (gi (bi 102 (gi (bi 109 (lE AE [8,9] []) (gw 82 (lG AE [] (AF _ _ · m0 m1 AB AR))))) (gw 82 (lG AE [] (AF _ _ · m0 m1 AB AR))))) (gw 82 (lG AE [] (AF _ _ · m0 m1 AB AR))))) (gw 82 (lG AE [] (AF _ _ · m0 m1 AB AR))))) (gw 82 (lG AE [] (AF _ _ · m0 m1 AB AR)))) (gw 49 (lG AE [] (AF _ _ · m0 AB)))
theorem Zn {n:Nat} {g_:List (List Int)} {AI BD:List Bool} {at_:Int} {r:Bool×Int} (h:Vi n g_ AI BD at_=some r):EQ 121 [.sl 1 g_.length (Aw A8 g_),.bools AI,.bools BD,.i at_] [] (.tup 2 (L1 [.bool r.1,.i r.2])) [] true:=by
 refine ot Tryz.func121 fun B N=>?_
 revert r;apply gO;exact cf Zh [] fun _=>bi 16 (lE AE [8,9] []) (bi 21 (lE AE [8,9] []) (bi 27 (lE AE [8,9] []) (bi 31 (lE AE [8,9] []) (bi 37 (lE AE [8,9] []) (gi (bi 43 (lE AE [8,9] []) (lN AE [] ((vD B N g_ AI BD at_ n) _ _ · n Nat.le.refl))))))))
theorem sd:Af (Ax Tryz.f120 7) [([0,1,2,3,4,5,6,7,8],9)] [10] []:=by unfold Af;kernel_rfl
def RJ:BJ:=fun i=>match i with
 | 7=>.ord [([0,1,2,3,4,5,6,7,8],9)] [10] []
 | _=>.no
inductive V2 where
 | l1 (AJ AT:List Int) (Au:Int)
def SS (n:Nat) (self:V2 -> Option ((List Int))) (q:AA) (c_:AC) (pos:List Int) (p:List Bool) (start:Int) (AJ AT:List Int) (Au:Int):Option ((List Int)):=
 bif (decide (Au<(pos.length:Int))) then
  if 0<=Au/\ Au<(p.length:Int) then
   bif (p.getD ((Au).toNat) false) then
    (has n AT Au).bind fun y1=>
     bif (!y1) then
      if 0<=Au/\ Au<(pos.length:Int) then
       (Ej n AJ Au (bits .and .i64 (pos.getD ((Au).toNat) 0) c_.set)).bind fun y2=>
        if AG (Au+1) then
         self (.l1 y2 AT (Au+1))
        else none
      else none
     else
      if AG (Au+1) then
       self (.l1 AJ AT (Au+1))
      else none
   else
    if AG (Au+1) then
     self (.l1 AJ AT (Au+1))
    else none
  else none
 else
  some AJ
def j1 (n:Nat) (self:V2 -> Option ((List Int))) (q:AA) (c_:AC) (pos:List Int) (p:List Bool) (start:Int):Option ((List Int)):=
 if pos.length=(List.replicate pos.length (0:Int)).length/\ (((pos.length:Int):Int)=(pos.length:Int)/\ 0<=(pos.length:Int)/\ ((pos.length:Int):Int)<=1000000000000) then
  (SN n q.nbrs p start).bind fun y1=>
   self (.l1 (List.replicate pos.length (0:Int)) y1.1 0)
 else none
def Ja (q:AA) (c_:AC) (pos:List Int) (p:List Bool) (start:Int):Nat -> V2 -> Option ((List Int))
 | 0,_=>none
 | n+1,.l1 AJ AT Au=>SS n (Ja q c_ pos p start n) q c_ pos p start AJ AT Au
def Lg (n:Nat) (q:AA) (c_:AC) (pos:List Int) (p:List Bool) (start:Int):Option ((List Int)):=j1 n (Ja q c_ pos p start n) q c_ pos p start
def wO (n B:Nat) (N:Yd 0) (q:AA) (c_:AC) (pos:List Int) (p:List Bool) (start:Int) (r:(List Int)):V2 -> Prop
 | .l1 AJ AT Au=>∀ m0:Nat,n<=m0 -> TW B N (FQ Tryz.f120 0 (.ints r) []) (Ah m0 (Ap (AW Tryz.f120) 0 [])) ⟨AM 53 [(2,.ints pos),(3,.bools p),(6,.ref 0 0),(11,.ints AJ),(12,.ints AT),(14,.i Au)],[some (.cells (AH c_))]⟩
theorem wP (B:Nat) (N:Yd 0) (q:AA) (c_:AC) (pos:List Int) (p:List Bool) (start:Int):Al (Ja q c_ pos p start) (wO · B N q c_ pos p start):=ia (fun _=>rfl) fun n AF pt r h=>by
 cases pt
 case l1 AJ AT Au=>
  intro m0 AB;refine rd AB fun m0 AB=>?_
  revert r;apply gO;exact bi 29 (gi (bi 35 (cf cv [some (.cells (AH c_))] fun _=>bi 40 (jg sd (gi (cf JY [some (.cells (AH c_))] fun _=>gw 31 (lG RJ [0] (AF _ _ · m0 AB))))) (gw 31 (lG RJ [0] (AF _ _ · m0 AB)))) (gw 31 (lG RJ [0] (AF _ _ · m0 AB))))) (lE RJ [10] [])
theorem j0 {n:Nat} {q:AA} {c_:AC} {pos:List Int} {p:List Bool} {start:Int} {r:(List Int)} (h:Lg n q c_ pos p start=some r):EQ 120 [.agg 5 (L1 (AD q)),.agg 9 (L1 (AH c_)),.ints pos,.bools p,.i start] [] (.ints r) [] true:=by
 refine ot Tryz.func120 fun B N=>?_
 revert r;apply gO;exact gc (gn fun g0=>gi (jz 17 2 (jg g0 (cf wH [some (.cells (AD q)),some (.cells (AH c_)),none] fun _=>lN RJ [1] ((wP B N q c_ pos p start n) _ _ · n Nat.le.refl)))))
theorem sY:Af (Ax Tryz.f96 12) [([0,1,2,3,4,5,6,7,8,9,10,11,12,13],14)] [15] []:=by unfold Af;kernel_rfl
def Mq:BJ:=fun i=>match i with
 | 12=>.ord [([0,1,2,3,4,5,6,7,8,9,10,11,12,13],14)] [15] []
 | _=>.no
inductive Vz where
 | l1 (x7 x8:List Bool) (AO:List Int) (AJ:Int)
def SM (n:Nat) (self:Vz -> Option ((List Int))) (q:AA) (c_:AC) (pos:List Int) (x7 x8:List Bool) (AO:List Int) (AJ:Int):Option ((List Int)):=
 bif (decide (AJ<(pos.length:Int))) then
  (Vi n q.nbrs x7 x8 AJ).bind fun y1=>
   if 0<=AJ/\ AJ<(x7.length:Int) then
    bif (x7.getD ((AJ).toNat) false) then
     if 0<=AJ/\ AJ<(x8.length:Int) then
      bif (!(x8.getD ((AJ).toNat) false)) then
       bif y1.1 then
        if (0<=AJ/\ AJ<(pos.length:Int))/\ AG ((pos.getD ((AJ).toNat) 0)-(bits .and .i64 (pos.getD ((AJ).toNat) 0) c_.set)) then
         (Ej n AO AJ ((pos.getD ((AJ).toNat) 0)-(bits .and .i64 (pos.getD ((AJ).toNat) 0) c_.set))).bind fun y2=>
          if AG (AJ+1) then
           self (.l1 x7 x8 y2 (AJ+1))
          else none
        else none
       else
        if AG (AJ+1) then
         self (.l1 x7 x8 AO (AJ+1))
        else none
      else
       if AG (AJ+1) then
        self (.l1 x7 x8 AO (AJ+1))
       else none
     else none
    else
     if AG (AJ+1) then
      self (.l1 x7 x8 AO (AJ+1))
     else none
   else none
 else
  some AO
def jq (n:Nat) (self:Vz -> Option ((List Int))) (q:AA) (c_:AC) (pos:List Int):Option ((List Int)):=
 (KV n c_ pos false).bind fun y1=>
  (KV n c_ pos true).bind fun y2=>
   (PB n y2).bind fun y3=>
    bif (decide (y3<0)) then
     if pos.length=(List.replicate pos.length (0:Int)).length/\ (((pos.length:Int):Int)=(pos.length:Int)/\ 0<=(pos.length:Int)/\ ((pos.length:Int):Int)<=1000000000000) then
      some (List.replicate pos.length (0:Int))
     else none
    else
     (Lg n q c_ pos y1 y3).bind fun y4=>
      self (.l1 y1 y2 y4 0)
def Ib (q:AA) (c_:AC) (pos:List Int):Nat -> Vz -> Option ((List Int))
 | 0,_=>none
 | n+1,.l1 x7 x8 AO AJ=>SM n (Ib q c_ pos n) q c_ pos x7 x8 AO AJ
def Z6 (n:Nat) (q:AA) (c_:AC) (pos:List Int):Option ((List Int)):=jq n (Ib q c_ pos n) q c_ pos
def wF (n B:Nat) (N:Yd 0) (q:AA) (c_:AC) (pos:List Int) (r:(List Int)):Vz -> Prop
 | .l1 x7 x8 AO AJ=>∀ m0:Nat,n<=m0 -> TW B N (FQ Tryz.f96 0 (.ints r) []) (Ah m0 (Ap (AW Tryz.f96) 0 [])) ⟨AM 78 [(2,.ints pos),(3,.ref 0 0),(4,.ref 1 0),(7,.bools x7),(8,.bools x8),(10,.ints AO),(11,.i AJ)],[some (.cells (AD q)),some (.cells (AH c_))]⟩
theorem wG (B:Nat) (N:Yd 0) (q:AA) (c_:AC) (pos:List Int):Al (Ib q c_ pos) (wF · B N q c_ pos):=ia (fun _=>rfl) fun n AF pt r h=>by
 cases pt
 case l1 x7 x8 AO AJ=>
  intro m0 AB;refine rd AB fun m0 AB=>?_
  revert r;apply gO;exact bj 36 (fun c0=>cn fun y1 A1=>jc (fb (Zn A1) [some (.cells (AD q)),some (.cells (AH c_))]) (gn fun g0=>jg g0 (bj 51 (fun c1=>gn fun g1=>jg g1 (bj 57 (fun c2=>bn (fun c3=>rO (jb 36 c0 (jc (fb (Zn A1) [some (.cells (AD q)),some (.cells (AH c_))]) (jb 46 c3 (jg g0 (jb 51 c1 (jg g1 (jb 57 c2 (jg sY (gc (gn fun g2=>jg g2 (jg g2 (gw 75 (cf JY [some (.cells (AD q)),some (.cells (AH c_))] fun _=>gw 38 (lG Mq [0,1] (AF _ _ · m0 AB)))))))))))))))) (fun c3=>rO (jb 36 c0 (jc (fb (Zn A1) [some (.cells (AD q)),some (.cells (AH c_))]) (jb 46 c3 (jg g0 (jb 51 c1 (jg g1 (jb 57 c2 (gw 38 (lG Mq [0,1] (AF _ _ · m0 AB)))))))))))) (fun _=>gw 38 (lG Mq [0,1] (AF _ _ · m0 AB))))) (fun _=>gw 38 (lG Mq [0,1] (AF _ _ · m0 AB)))))) (fun _=>lE Mq [6] [])
theorem wD {n:Nat} {q:AA} {c_:AC} {pos:List Int} {r:(List Int)} (h:Z6 n q c_ pos=some r):EQ 96 [.agg 5 (L1 (AD q)),.agg 9 (L1 (AH c_)),.ints pos] [] (.ints r) [] true:=by
 refine ot Tryz.func96 fun B N=>?_
 revert r;apply gO;exact cf Vn [some (.cells (AD q)),some (.cells (AH c_))] fun _=>cf Vn [some (.cells (AD q)),some (.cells (AH c_))] fun _=>cf jh [some (.cells (AD q)),some (.cells (AH c_))] fun _=>bi 23 (gc (gn fun g0=>gi (jz 26 2 (jg g0 (lE Mq [6] []))))) (cf j0 [some (.cells (AD q)),some (.cells (AH c_))] fun _=>lN Mq [0,1] ((wG B N q c_ pos n) _ _ · n Nat.le.refl))
inductive Vj where
 | l1 (x7:Nat) (x8:Int) (o1:List Int)
def Rx (n:Nat) (self:Vj -> Option ((List Int))) (q:AA) (cell:Int) (AI:List Bool) (x7:Nat) (x8:Int) (o1:List Int):Option ((List Int)):=
 if 0<=cell/\ cell<(q.nbrs.length:Int) then
  bif (decide (x8<(((q.nbrs.getD ((cell).toNat) []).length:Nat):Int))) then
   if (0<=x8/\ x8<(((q.nbrs.getD ((cell).toNat) []).length:Nat):Int))/\ ((0:Int)<=((q.nbrs.getD ((cell).toNat) []).getD ((x8).toNat) 0)/\ ((q.nbrs.getD ((cell).toNat) []).getD ((x8).toNat) 0)<(AI.length:Int)) then
    bif (AI.getD (((q.nbrs.getD ((cell).toNat) []).getD ((x8).toNat) 0).toNat) false) then
     if ((0=0/\ 1=([(q.nbrs.getD ((cell).toNat) []).getD ((x8).toNat) 0]:List Int).length)/\ (0=0/\ x7=o1.length)/\ o1.length+([(q.nbrs.getD ((cell).toNat) []).getD ((x8).toNat) 0]:List Int).length<=A7)/\ AG (x8+1) then
      self (.l1 (o1.length+([(q.nbrs.getD ((cell).toNat) []).getD ((x8).toNat) 0]:List Int).length) (x8+1) (o1++([(q.nbrs.getD ((cell).toNat) []).getD ((x8).toNat) 0]:List Int)))
     else none
    else
     if AG (x8+1) then
      self (.l1 x7 (x8+1) o1)
     else none
   else none
  else
   if x7=o1.length then
    some o1
   else none
 else none
def vE (n:Nat) (self:Vj -> Option ((List Int))) (q:AA) (cell:Int) (AI:List Bool):Option ((List Int)):=
 self (.l1 0 0 ([]:List Int))
def O4 (q:AA) (cell:Int) (AI:List Bool):Nat -> Vj -> Option ((List Int))
 | 0,_=>none
 | n+1,.l1 x7 x8 o1=>Rx n (O4 q cell AI n) q cell AI x7 x8 o1
def Vk (n:Nat) (q:AA) (cell:Int) (AI:List Bool):Option ((List Int)):=vE n (O4 q cell AI n) q cell AI
def vG (n B:Nat) (N:Yd 0) (q:AA) (cell:Int) (AI:List Bool) (r:(List Int)):Vj -> Prop
 | .l1 x7 x8 o1=>∀ m0:Nat,n<=m0 -> TW B N (FQ Tryz.f122 0 (.ints r) []) (Ah m0 (Ap (AW Tryz.f122) 0 [])) ⟨AM 43 [(1,.i cell),(2,.bools AI),(3,.ref 0 0),(7,.msl 1 1 0 x7),(8,.i x8)],[some (.cells (AD q)),some (.ints o1)]⟩
theorem vH (B:Nat) (N:Yd 0) (q:AA) (cell:Int) (AI:List Bool):Al (O4 q cell AI) (vG · B N q cell AI):=ia (fun _=>rfl) fun n AF pt r h=>by
 cases pt
 case l1 x7 x8 o1=>
  intro m0 AB;refine rd AB fun m0 AB=>?_
  revert r;apply gO;exact gn fun g0=>jg g0 (bi 17 (jg g0 (gc (gn fun g1=>jg g1 (gi (bi 30 (jg g0 (jg g1 (gc (gi (gw 19 (lG AE [0,3] (AF _ _ · m0 AB))))))) (gw 19 (lG AE [0,1] (AF _ _ · m0 AB)))))))) (gn fun g1=>lF fun p=>ez AE [6] [1] p [0] (H0.g g1)))
theorem jI {n:Nat} {q:AA} {cell:Int} {AI:List Bool} {r:(List Int)} (h:Vk n q cell AI=some r):EQ 122 [.agg 5 (L1 (AD q)),.i cell,.bools AI] [] (.ints r) [] true:=by
 refine ot Tryz.func122 fun B N=>?_
 revert r;apply gO;exact lN AE [0,1] ((vH B N q cell AI n) _ _ · n Nat.le.refl)
theorem sT:Af (Ax Tryz.f97 19) [([0,1,2,3,4,5,6,7,8,9,10,11,12,13,14,15,16,17,18,19,20,21,22],23)] [24] []:=by unfold Af;kernel_rfl
theorem sS:Af (Ax Tryz.f97 21) [([0,1,2,3,4,5,6,7,8,9,10,11,12,13,14],15)] [16] []:=by unfold Af;kernel_rfl
def Gc:BJ:=fun i=>match i with
 | 19=>.ord [([0,1,2,3,4,5,6,7,8,9,10,11,12,13,14,15,16,17,18,19,20,21,22],23)] [24] []
 | 21=>.ord [([0,1,2,3,4,5,6,7,8,9,10,11,12,13,14],15)] [16] []
 | _=>.no
inductive M5 where
 | l1 (x8 x9:List Bool) (AJ:List Int) (AT:Int)
 | l2 (x8 x9:List Bool) (AJ:List Int) (AT:Int) (x13 Au:List Int) (Aj:Int)
 | l3 (x8 x9:List Bool) (AJ:List Int) (AT:Int) (x13 Au:List Int) (Aj:Int)
 | l4 (x8 x9:List Bool) (AJ:List Int) (AT:Int) (x13 Au:List Int) (Aj:Int)
def SC (n:Nat) (self:M5 -> Option ((List Int)×Bool)) (q:AA) (c_:AC) (pos:List Int) (x8 x9:List Bool) (AJ:List Int) (AT:Int):Option ((List Int)×Bool):=
 bif (decide (AT<(pos.length:Int))) then
  if 0<=AT/\ AT<(x9.length:Int) then
   bif (!(x9.getD ((AT).toNat) false)) then
    if AG (AT+1) then
     self (.l1 x8 x9 AJ (AT+1))
    else none
   else
    (Vk n q AT x8).bind fun y1=>
     (Vk n q AT x9).bind fun y2=>
      bif (decide ((y1.length:Int)<2)) then
       some (AJ,false)
      else
       bif (decide ((y2.length:Int)>2)) then
        some (AJ,false)
       else
        self (.l2 x8 x9 AJ AT y1 y2 0)
  else none
 else
  some (AJ,true)
def M4 (n:Nat) (self:M5 -> Option ((List Int)×Bool)) (q:AA) (c_:AC) (pos:List Int) (x8 x9:List Bool) (AJ:List Int) (AT:Int) (x13 Au:List Int) (Aj:Int):Option ((List Int)×Bool):=
 bif (decide (Aj<(x13.length:Int))) then
  bif ((x13.length:Int)==2) then
   if (0<=Aj/\ Aj<(x13.length:Int))/\ (0<=(x13.getD ((Aj).toNat) 0)/\ (x13.getD ((Aj).toNat) 0)<(pos.length:Int))/\ AG ((pos.getD ((x13.getD ((Aj).toNat) 0).toNat) 0)-(bits .and .i64 (pos.getD ((x13.getD ((Aj).toNat) 0).toNat) 0) c_.set)) then
    (Ej n AJ (x13.getD ((Aj).toNat) 0) ((pos.getD ((x13.getD ((Aj).toNat) 0).toNat) 0)-(bits .and .i64 (pos.getD ((x13.getD ((Aj).toNat) 0).toNat) 0) c_.set))).bind fun y1=>
     self (.l3 x8 x9 y1 AT x13 Au Aj)
   else none
  else
   self (.l3 x8 x9 AJ AT x13 Au Aj)
 else
  if AG (AT+1) then
   self (.l1 x8 x9 AJ (AT+1))
  else none
def M3 (n:Nat) (self:M5 -> Option ((List Int)×Bool)) (q:AA) (c_:AC) (pos:List Int) (x8 x9:List Bool) (AJ:List Int) (AT:Int) (x13 Au:List Int) (Aj:Int):Option ((List Int)×Bool):=
 bif ((Au.length:Int)==2) then
  if (0<=Aj/\ Aj<(x13.length:Int))/\ (0<=(x13.getD ((Aj).toNat) 0)/\ (x13.getD ((Aj).toNat) 0)<(x9.length:Int)) then
   bif (!(x9.getD ((x13.getD ((Aj).toNat) 0).toNat) false)) then
    if 0<=(x13.getD ((Aj).toNat) 0)/\ (x13.getD ((Aj).toNat) 0)<(pos.length:Int) then
     (Ej n AJ (x13.getD ((Aj).toNat) 0) (bits .and .i64 (pos.getD ((x13.getD ((Aj).toNat) 0).toNat) 0) c_.set)).bind fun y1=>
      self (.l4 x8 x9 y1 AT x13 Au Aj)
    else none
   else
    self (.l4 x8 x9 AJ AT x13 Au Aj)
  else none
 else
  self (.l4 x8 x9 AJ AT x13 Au Aj)
def Zx (n:Nat) (self:M5 -> Option ((List Int)×Bool)) (q:AA) (c_:AC) (pos:List Int) (x8 x9:List Bool) (AJ:List Int) (AT:Int) (x13 Au:List Int) (Aj:Int):Option ((List Int)×Bool):=
 if AG (Aj+1) then
  self (.l2 x8 x9 AJ AT x13 Au (Aj+1))
 else none
def jU (n:Nat) (self:M5 -> Option ((List Int)×Bool)) (q:AA) (c_:AC) (pos:List Int):Option ((List Int)×Bool):=
 (KV n c_ pos false).bind fun y1=>
  (KV n c_ pos true).bind fun y2=>
   (PB n y2).bind fun y3=>
    bif (decide (y3<0)) then
     if pos.length=(List.replicate pos.length (0:Int)).length/\ (((pos.length:Int):Int)=(pos.length:Int)/\ 0<=(pos.length:Int)/\ ((pos.length:Int):Int)<=1000000000000) then
      some (List.replicate pos.length (0:Int),true)
     else none
    else
     (Lg n q c_ pos y1 y3).bind fun y4=>
      self (.l1 y1 y2 y4 0)
def DF (q:AA) (c_:AC) (pos:List Int):Nat -> M5 -> Option ((List Int)×Bool)
 | 0,_=>none
 | n+1,.l1 x8 x9 AJ AT=>SC n (DF q c_ pos n) q c_ pos x8 x9 AJ AT
 | n+1,.l2 x8 x9 AJ AT x13 Au Aj=>M4 n (DF q c_ pos n) q c_ pos x8 x9 AJ AT x13 Au Aj
 | n+1,.l3 x8 x9 AJ AT x13 Au Aj=>M3 n (DF q c_ pos n) q c_ pos x8 x9 AJ AT x13 Au Aj
 | n+1,.l4 x8 x9 AJ AT x13 Au Aj=>Zx n (DF q c_ pos n) q c_ pos x8 x9 AJ AT x13 Au Aj
def Zy (n:Nat) (q:AA) (c_:AC) (pos:List Int):Option ((List Int)×Bool):=jU n (DF q c_ pos n) q c_ pos
def vb (n B:Nat) (N:Yd 0) (q:AA) (c_:AC) (pos:List Int) (r:(List Int)×Bool):M5 -> Prop
 | .l1 x8 x9 AJ AT=>∀ m0:Nat,n<=m0 -> TW B N (FQ Tryz.f97 0 (.tup 2 (L1 [.ints r.1,.bool r.2])) []) (Ah m0 (Ap (AW Tryz.f97) 0 [])) ⟨AM 126 [(2,.ints pos),(3,.ref 0 0),(4,.ref 1 0),(8,.bools x8),(9,.bools x9),(11,.ints AJ),(12,.i AT)],[some (.cells (AD q)),some (.cells (AH c_))]⟩
 | .l2 x8 x9 AJ AT x13 Au Aj=>∀ m0 m1:Nat,n<=m0 -> n<=m1 -> TW B N (FQ Tryz.f97 0 (.tup 2 (L1 [.ints r.1,.bool r.2])) []) (Ah m1 (Ap (AW Tryz.f97) 2 [m0])) ⟨AM 126 [(2,.ints pos),(3,.ref 0 0),(4,.ref 1 0),(8,.bools x8),(9,.bools x9),(11,.ints AJ),(12,.i AT),(13,.ints x13),(14,.ints Au),(15,.i Aj)],[some (.cells (AD q)),some (.cells (AH c_))]⟩
 | .l3 x8 x9 AJ AT x13 Au Aj=>∀ m0 m1:Nat,n<=m0 -> n<=m1 -> TW B N (FQ Tryz.f97 0 (.tup 2 (L1 [.ints r.1,.bool r.2])) []) (Dl (AW Tryz.f97) 20 [m0,m1]) ⟨AM 126 [(2,.ints pos),(3,.ref 0 0),(4,.ref 1 0),(8,.bools x8),(9,.bools x9),(11,.ints AJ),(12,.i AT),(13,.ints x13),(14,.ints Au),(15,.i Aj)],[some (.cells (AD q)),some (.cells (AH c_))]⟩
 | .l4 x8 x9 AJ AT x13 Au Aj=>∀ m0 m1:Nat,n<=m0 -> n<=m1 -> TW B N (FQ Tryz.f97 0 (.tup 2 (L1 [.ints r.1,.bool r.2])) []) (Dl (AW Tryz.f97) 17 [m0,m1]) ⟨AM 126 [(2,.ints pos),(3,.ref 0 0),(4,.ref 1 0),(8,.bools x8),(9,.bools x9),(11,.ints AJ),(12,.i AT),(13,.ints x13),(14,.ints Au),(15,.i Aj)],[some (.cells (AD q)),some (.cells (AH c_))]⟩
theorem ve (B:Nat) (N:Yd 0) (q:AA) (c_:AC) (pos:List Int):Al (DF q c_ pos) (vb · B N q c_ pos):=ia (fun _=>rfl) fun n AF pt r h=>by
 cases pt
 case l1 x8 x9 AJ AT=>
  intro m0 AB;refine rd AB fun m0 AB=>?_
  revert r;apply gO;exact bi 38 (gi (bi 45 (gw 40 (lG (AK 20 (AK 17 Gc)) [0,1] (AF _ _ · m0 AB))) (cf jI [some (.cells (AD q)),some (.cells (AH c_))] fun _=>cf jI [some (.cells (AD q)),some (.cells (AH c_))] fun _=>bi 56 (lE (AK 20 (AK 17 Gc)) [6,7] []) (bi 60 (lE (AK 20 (AK 17 Gc)) [6,7] []) (lN (AK 20 (AK 17 Gc)) [0,1] (AF _ _ · m0 n AB Nat.le.refl)))))) (lE (AK 20 (AK 17 Gc)) [6,7] [])
 case l2 x8 x9 AJ AT x13 Au Aj=>
  intro m0 m1 AB AR;have AB:=zBZ AB;refine rd AR fun m1 AR=>?_
  revert r;apply gO;exact bi 66 (bi 71 (jg sT (gc (gn fun g0=>jg g0 (jg g0 (gc (gn fun g1=>jg g1 (jg g0 (jg g1 (gw 94 (cf JY [some (.cells (AD q)),some (.cells (AH c_))] fun _=>lG (AK 20 (AK 17 Gc)) [0,1] (AF _ _ · m0 m1 AB AR))))))))))) (lG (AK 20 (AK 17 Gc)) [0,1] (AF _ _ · m0 m1 AB AR))) (gw 40 (lG (AK 20 (AK 17 Gc)) [0,1] (AF _ _ · m0 AB)))
 case l3 x8 x9 AJ AT x13 Au Aj=>
  intro m0 m1 AB AR;have AB:=zBZ AB;have AR:=zBZ AR;revert r;apply gO;exact bi 98 (gc (gn fun g0=>jg g0 (gi (bi 107 (jg sS (jg g0 (jg g0 (gi (cf JY [some (.cells (AD q)),some (.cells (AH c_))] fun _=>lG (AK 17 Gc) [0,1] (AF _ _ · m0 m1 AB AR)))))) (lG (AK 17 Gc) [0,1] (AF _ _ · m0 m1 AB AR)))))) (lG (AK 17 Gc) [0,1] (AF _ _ · m0 m1 AB AR))
 case l4 x8 x9 AJ AT x13 Au Aj=>
  intro m0 m1 AB AR;have AB:=zBZ AB;have AR:=zBZ AR;revert r;apply gO;exact gw 68 (lG (AK 20 Gc) [0,1] (AF _ _ · m0 m1 AB AR))
theorem vZ {n:Nat} {q:AA} {c_:AC} {pos:List Int} {r:(List Int)×Bool} (h:Zy n q c_ pos=some r):EQ 97 [.agg 5 (L1 (AD q)),.agg 9 (L1 (AH c_)),.ints pos] [] (.tup 2 (L1 [.ints r.1,.bool r.2])) [] true:=by
 refine ot Tryz.func97 fun B N=>?_
 revert r;apply gO;exact cf Vn [some (.cells (AD q)),some (.cells (AH c_))] fun _=>cf Vn [some (.cells (AD q)),some (.cells (AH c_))] fun _=>cf jh [some (.cells (AD q)),some (.cells (AH c_))] fun _=>bi 25 (gc (gn fun g0=>gi (jz 28 2 (jg g0 (lE (AK 20 (AK 17 Gc)) [6,7] []))))) (cf j0 [some (.cells (AD q)),some (.cells (AH c_))] fun _=>lN (AK 20 (AK 17 Gc)) [0,1] ((ve B N q c_ pos n) _ _ · n Nat.le.refl))
def JX (n:Nat) (q:AA) (c_:AC) (pos:List Int):Option ((List Int)×Bool):=
 bif (c_.kind==1) then
  (Vv n q c_ pos).bind fun y1=>
   some (y1,true)
 else
  bif (c_.kind==2) then
   (Vy n c_ pos).bind fun y1=>
    some (y1.1,y1.2)
  else
   bif (c_.kind==3) then
    (Vh n q c_ pos).bind fun y1=>
     some (y1.1,y1.2)
   else
    bif (c_.kind==8) then
     (Z6 n q c_ pos).bind fun y1=>
      some (y1,true)
    else
     bif (c_.kind==9) then
      (Zy n q c_ pos).bind fun y1=>
       some (y1.1,y1.2)
     else
      bif (c_.kind==5) then
       (Dr n c_ pos 0 0 0 (-1) true).bind fun y1=>
        bif (!y1) then
         some (pos,false)
        else
         (PE n q c_ pos).bind fun y2=>
          some (y2,true)
      else
       (PE n q c_ pos).bind fun y1=>
        some (y1,true)
def Hr (n:Nat) (q:AA) (c_:AC) (pos:List Int):Option ((List Int)×Bool):=JX n q c_ pos
theorem vM {n:Nat} {q:AA} {c_:AC} {pos:List Int} {r:(List Int)×Bool} (h:Hr n q c_ pos=some r):EQ 68 [.agg 5 (L1 (AD q)),.agg 9 (L1 (AH c_)),.ints pos] [] (.tup 2 (L1 [.ints r.1,.bool r.2])) [] true:=by
 refine ot Tryz.func68 fun B N=>?_
 revert r;apply gO;exact bi 11 (cf vt [some (.cells (AD q)),some (.cells (AH c_))] fun _=>lE AE [6,7] []) (bi 17 (cf v8 [some (.cells (AD q)),some (.cells (AH c_))] fun _=>lE AE [6,7] []) (bi 24 (cf u6 [some (.cells (AD q)),some (.cells (AH c_))] fun _=>lE AE [6,7] []) (bi 32 (cf wD [some (.cells (AD q)),some (.cells (AH c_))] fun _=>lE AE [6,7] []) (bi 38 (cf vZ [some (.cells (AD q)),some (.cells (AH c_))] fun _=>lE AE [6,7] []) (bi 47 (cf jK [some (.cells (AD q)),some (.cells (AH c_))] fun _=>bi 52 (lE AE [6,7] []) (cf jr [some (.cells (AD q)),some (.cells (AH c_))] fun _=>lE AE [6,7] [])) (cf jr [some (.cells (AD q)),some (.cells (AH c_))] fun _=>lE AE [6,7] []))))))
inductive Vx where
 | l1 (x3:Int)
def SK (n:Nat) (self:Vx -> Option Bool) (pos:List Int) (x3:Int):Option Bool:=
 bif (decide (x3<(pos.length:Int))) then
  if 0<=x3/\ x3<(pos.length:Int) then
   bif ((pos.getD ((x3).toNat) 0)==0) then
    some true
   else
    if AG (x3+1) then
     self (.l1 (x3+1))
    else none
  else none
 else
  some false
def vz (n:Nat) (self:Vx -> Option Bool) (pos:List Int):Option Bool:=
 self (.l1 0)
def NA (pos:List Int):Nat -> Vx -> Option Bool
 | 0,_=>none
 | n+1,.l1 x3=>SK n (NA pos n) pos x3
def PD (n:Nat) (pos:List Int):Option Bool:=vz n (NA pos n) pos
def v6 (n B:Nat) (N:Yd 0) (pos:List Int) (r:Bool):Vx -> Prop
 | .l1 x3=>∀ m0:Nat,n<=m0 -> TW B N (FQ Tryz.f55 0 (.bool r) []) (Ah m0 (Ap (AW Tryz.f55) 0 [])) ⟨AM 15 [(0,.ints pos),(3,.i x3)],[]⟩
theorem v7 (B:Nat) (N:Yd 0) (pos:List Int):Al (NA pos) (v6 · B N pos):=ia (fun _=>rfl) fun n AF pt r h=>by
 cases pt
 case l1 x3=>
  intro m0 AB;refine rd AB fun m0 AB=>?_
  revert r;apply gO;exact bi 7 (gi (bi 14 (lE AE [2] []) (gw 9 (lG AE [] (AF _ _ · m0 AB))))) (lE AE [2] [])
theorem Z1 {n:Nat} {pos:List Int} {r:Bool} (h:PD n pos=some r):EQ 55 [.ints pos] [] (.bool r) [] true:=by
 refine ot Tryz.func55 fun B N=>?_
 revert r;apply gO;exact lN AE [] ((v7 B N pos n) _ _ · n Nat.le.refl)
theorem sD:Af (Ax Tryz.f42 9) [] (List.range 16) []:=by unfold Af;kernel_rfl
def Mp:BJ:=fun i=>match i with
 | 9=>.ord [] (List.range 16) []
 | _=>.no
inductive VP where
 | l1 (x6:Int)
def Rb (n:Nat) (self:VP -> Option Int) (q:AA) (pos:List Int) (x6:Int):Option Int:=
 bif (decide (x6<(pos.length:Int))) then
  if 0<=x6/\ x6<(pos.length:Int) then
   bif (decide ((pos.getD ((x6).toNat) 0)<0)) then
    some 250
   else
    if 0<=IntKind.u64.wrap q.symbols/\ IntKind.u64.wrap q.symbols<=(IntKind.i64.bits:Int) then
     bif (decide ((pos.getD ((x6).toNat) 0)>=(IntKind.i64.wrap (1*2 ^ (IntKind.u64.wrap q.symbols).toNat)))) then
      some 250
     else
      if AG (x6+1) then
       self (.l1 (x6+1))
      else none
    else none
  else none
 else
  some 0
def iU (n:Nat) (self:VP -> Option Int) (q:AA) (pos:List Int):Option Int:=
 (VI n q).bind fun y1=>
  bif (y1 != 0) then
   some y1
  else
   bif ((pos.length:Int) != q.cells) then
    some 250
   else
    self (.l1 0)
def Mv (q:AA) (pos:List Int):Nat -> VP -> Option Int
 | 0,_=>none
 | n+1,.l1 x6=>Rb n (Mv q pos n) q pos x6
def LS (n:Nat) (q:AA) (pos:List Int):Option Int:=iU n (Mv q pos n) q pos
def uB (n B:Nat) (N:Yd 0) (q:AA) (pos:List Int) (r:Int):VP -> Prop
 | .l1 x6=>∀ m0:Nat,n<=m0 -> TW B N (FQ Tryz.f42 0 (.i r) []) (Ah m0 (Ap (AW Tryz.f42) 0 [])) ⟨AM 39 [(1,.ints pos),(2,.ref 0 0),(6,.i x6)],[some (.cells (AD q))]⟩
theorem uC (B:Nat) (N:Yd 0) (q:AA) (pos:List Int):Al (Mv q pos) (uB · B N q pos):=ia (fun _=>rfl) fun n AF pt r h=>by
 cases pt
 case l1 x6=>
  intro m0 AB;refine rd AB fun m0 AB=>?_
  revert r;apply gO;exact bi 20 (jg sD (gn fun g0=>jg g0 (bi 27 (lE Mp [4] []) (jg g0 (gi (bi 37 (lE Mp [4] []) (gw 22 (lG Mp [0] (AF _ _ · m0 AB))))))))) (lE Mp [4] [])
theorem VO {n:Nat} {q:AA} {pos:List Int} {r:Int} (h:LS n q pos=some r):EQ 42 [.agg 5 (L1 (AD q)),.ints pos] [] (.i r) [] true:=by
 refine ot Tryz.func42 fun B N=>?_
 revert r;apply gO;exact cf tQ [some (.cells (AD q))] fun _=>bi 10 (lE Mp [4] []) (bi 16 (lE Mp [4] []) (lN Mp [0] ((uC B N q pos n) _ _ · n Nat.le.refl)))
theorem sP:Af (Ax Tryz.f38 11) [([0,1,2,3,4,5,6,7,8,9,10,11,12,13,14],15)] [] [16,17]:=by unfold Af;kernel_rfl
def Om:BJ:=fun i=>match i with
 | 11=>.ord [([0,1,2,3,4,5,6,7,8,9,10,11,12,13,14],15)] [] [16,17]
 | _=>.no
inductive Vm where
 | l1 (x8:List Int) (AO:Nat) (AJ:Int) (o0:List Int)
def R8 (n:Nat) (self:Vm -> Option ((List Int))) (q:AA) (c_:AC) (pos:List Int) (x8:List Int) (AO:Nat) (AJ:Int) (o0:List Int):Option ((List Int)):=
 bif (decide (AJ<(pos.length:Int))) then
  if (0<=AJ/\ AJ<(pos.length:Int))/\ (0<=AJ/\ AJ<(x8.length:Int))/\ AG ((pos.getD ((AJ).toNat) 0)-(bits .and .i64 (pos.getD ((AJ).toNat) 0) (x8.getD ((AJ).toNat) 0)))/\ ((0=0/\ 1=([((pos.getD ((AJ).toNat) 0)-(bits .and .i64 (pos.getD ((AJ).toNat) 0) (x8.getD ((AJ).toNat) 0)))]:List Int).length)/\ (0=0/\ AO=o0.length)/\ o0.length+([((pos.getD ((AJ).toNat) 0)-(bits .and .i64 (pos.getD ((AJ).toNat) 0) (x8.getD ((AJ).toNat) 0)))]:List Int).length<=A7)/\ AG (AJ+1) then
   self (.l1 x8 (o0.length+([((pos.getD ((AJ).toNat) 0)-(bits .and .i64 (pos.getD ((AJ).toNat) 0) (x8.getD ((AJ).toNat) 0)))]:List Int).length) (AJ+1) (o0++([((pos.getD ((AJ).toNat) 0)-(bits .and .i64 (pos.getD ((AJ).toNat) 0) (x8.getD ((AJ).toNat) 0)))]:List Int)))
  else none
 else
  if AO=o0.length then
   (PD n o0).bind fun y1=>
    bif y1 then
     some (List.replicate pos.length (0:Int))
    else
     some o0
  else none
def Zw (n:Nat) (self:Vm -> Option ((List Int))) (q:AA) (c_:AC) (pos:List Int):Option ((List Int)):=
 if pos.length=(List.replicate pos.length (0:Int)).length/\ (((pos.length:Int):Int)=(pos.length:Int)/\ 0<=(pos.length:Int)/\ ((pos.length:Int):Int)<=1000000000000) then
  (PD n pos).bind fun y1=>
   bif y1 then
    some (List.replicate pos.length (0:Int))
   else
    (Hr n q c_ pos).bind fun y2=>
     bif (!y2.2) then
      some (List.replicate pos.length (0:Int))
     else
      self (.l1 y2.1 0 0 ([]:List Int))
 else none
def Lc (q:AA) (c_:AC) (pos:List Int):Nat -> Vm -> Option ((List Int))
 | 0,_=>none
 | n+1,.l1 x8 AO AJ o0=>R8 n (Lc q c_ pos n) q c_ pos x8 AO AJ o0
def KU (n:Nat) (q:AA) (c_:AC) (pos:List Int):Option ((List Int)):=Zw n (Lc q c_ pos n) q c_ pos
def vU (n B:Nat) (N:Yd 0) (q:AA) (c_:AC) (pos:List Int) (r:(List Int)):Vm -> Prop
 | .l1 x8 AO AJ o0=>∀ m0:Nat,n<=m0 -> TW B N (FQ Tryz.f38 0 (.ints r) []) (Ah m0 (Ap (AW Tryz.f38) 0 [])) ⟨AM 56 [(2,.ints pos),(7,.ints (List.replicate pos.length (0:Int))),(8,.ints x8),(10,.msl 0 1 0 AO),(11,.i AJ)],[some (.ints o0)]⟩
theorem vV (B:Nat) (N:Yd 0) (q:AA) (c_:AC) (pos:List Int):Al (Lc q c_ pos) (vU · B N q c_ pos):=ia (fun _=>rfl) fun n AF pt r h=>by
 cases pt
 case l1 x8 AO AJ o0=>
  intro m0 AB;refine rd AB fun m0 AB=>?_
  revert r;apply gO;exact bi 32 (jg sP (gc (gn fun g0=>jg g0 (jg g0 (gc (gi (gc (gw 49 (gc (gi (gw 34 (lG Om [2] (AF _ _ · m0 AB))))))))))))) (gn fun g0=>cn fun y1 A1=>jc (sb [.msl 0 1 0 AO] (Z1 A1) [some (.ints o0)] ⟨Ar.ints rfl g0,trivial⟩) (bi 53 (lE Om [6] []) (lF fun p=>ez Om [6] [0] p [0] (H0.g g0))))
theorem vR {n:Nat} {q:AA} {c_:AC} {pos:List Int} {r:(List Int)} (h:KU n q c_ pos=some r):EQ 38 [.agg 5 (L1 (AD q)),.agg 9 (L1 (AH c_)),.ints pos] [] (.ints r) [] true:=by
 refine ot Tryz.func38 fun B N=>?_
 revert r;apply gO;exact gc (gn fun g0=>gi (jz 14 2 (jg g0 (cf Z1 [some (.cells (AD q)),some (.cells (AH c_)),none] fun _=>bi 16 (lE Om [6] []) (cf vM [some (.cells (AD q)),some (.cells (AH c_)),none] fun _=>bi 26 (lE Om [6] []) (lN Om [3] ((vV B N q c_ pos n) _ _ · n Nat.le.refl)))))))
end Go.Proofs.YtekkngkphejfcaaGreatDoor
namespace Go.Proofs.YtekkngkphejfcaaGreatDoor
open Go.RowKit
set_option maxRecDepth 100000
set_option maxHeartbeats 40000000
def fX (n:Nat) (c_:AC) (level:Int):Option Bool:=
 bif (c_.kind==4) then
  some (decide (2<=level))
 else
  bif (c_.kind==3) then
   some (decide (2<=level))
  else
   bif (c_.kind==5) then
    some (decide (3<=level))
   else
    bif (c_.kind==8) then
     some (decide (4<=level))
    else
     bif (c_.kind==9) then
      some (decide (4<=level))
     else
      some (decide (1<=level))
def Ut (n:Nat) (c_:AC) (level:Int):Option Bool:=fX n c_ level
theorem qj {n:Nat} {c_:AC} {level:Int} {r:Bool} (h:Ut n c_ level=some r):EQ 29 [.agg 9 (L1 (AH c_)),.i level] [] (.bool r) [] true:=by
 refine ot Tryz.func29 fun B N=>?_
 revert r;apply gO;exact bi 9 (lE AE [4] []) (bi 10 (lE AE [4] []) (bi 12 (lE AE [4] []) (bi 14 (lE AE [4] []) (bi 15 (lE AE [4] []) (lE AE [4] [])))))
theorem sA:Af (Ax Tryz.f21 6) [] (List.range 9) []:=by unfold Af;kernel_rfl
def RG:BJ:=fun i=>match i with
 | 6=>.ord [] (List.range 9) []
 | _=>.no
inductive VE where
 | l1 (x5:Int)
def RP (n:Nat) (self:VE -> Option Bool) (a b_:List Int) (x5:Int):Option Bool:=
 bif (decide (x5<(a.length:Int))) then
  if (0<=x5/\ x5<(a.length:Int))/\ (0<=x5/\ x5<(b_.length:Int)) then
   bif ((a.getD ((x5).toNat) 0) != (b_.getD ((x5).toNat) 0)) then
    some false
   else
    if AG (x5+1) then
     self (.l1 (x5+1))
    else none
  else none
 else
  some true
def iD (n:Nat) (self:VE -> Option Bool) (a b_:List Int):Option Bool:=
 bif ((a.length:Int) != (b_.length:Int)) then
  some false
 else
  self (.l1 0)
def Ou (a b_:List Int):Nat -> VE -> Option Bool
 | 0,_=>none
 | n+1,.l1 x5=>RP n (Ou a b_ n) a b_ x5
def EP (n:Nat) (a b_:List Int):Option Bool:=iD n (Ou a b_ n) a b_
def rn (n B:Nat) (N:Yd 0) (a b_:List Int) (r:Bool):VE -> Prop
 | .l1 x5=>∀ m0:Nat,n<=m0 -> TW B N (FQ Tryz.f21 0 (.bool r) []) (Ah m0 (Ap (AW Tryz.f21) 0 [])) ⟨AM 26 [(0,.ints a),(1,.ints b_),(5,.i x5)],[]⟩
theorem ro (B:Nat) (N:Yd 0) (a b_:List Int):Al (Ou a b_) (rn · B N a b_):=ia (fun _=>rfl) fun n AF pt r h=>by
 cases pt
 case l1 x5=>
  intro m0 AB;refine rd AB fun m0 AB=>?_
  revert r;apply gO;exact bi 14 (jg sA (gc (gi (gi (bi 25 (lE RG [4] []) (gw 16 (lG RG [] (AF _ _ · m0 AB)))))))) (lE RG [4] [])
theorem IX {n:Nat} {a b_:List Int} {r:Bool} (h:EP n a b_=some r):EQ 21 [.ints a,.ints b_] [] (.bool r) [] true:=by
 refine ot Tryz.func21 fun B N=>?_
 revert r;apply gO;exact bi 10 (lE RG [4] []) (lN RG [] ((ro B N a b_ n) _ _ · n Nat.le.refl))
theorem tD:Af (Ax Tryz.f73 5) [([0,1,2,3,4,5,6],7)] [8] []:=by unfold Af;kernel_rfl
def RN:BJ:=fun i=>match i with
 | 5=>.ord [([0,1,2,3,4,5,6],7)] [8] []
 | _=>.no
inductive Xn where
 | l1 (x8:Int)
def Kv (n:Nat) (self:Xn -> Option (Int×(List Int))) (q:AA) (pos:List Int) (level:Int) (x8:Int):Option (Int×(List Int)):=
 bif (decide (x8<(q.cons.length:Int))) then
  if 0<=x8/\ x8<(q.cons.length:Int) then
   (Ut n (q.cons.getD ((x8).toNat) default) level).bind fun y1=>
    bif (!y1) then
     if AG (x8+1) then
      self (.l1 (x8+1))
     else none
    else
     (KU n q (q.cons.getD ((x8).toNat) default) pos).bind fun y2=>
      (EP n y2 pos).bind fun y3=>
       bif (!y3) then
        some (x8,y2)
       else
        if AG (x8+1) then
         self (.l1 (x8+1))
        else none
  else none
 else
  some ((-1),pos)
def zCk (n:Nat) (self:Xn -> Option (Int×(List Int))) (q:AA) (pos:List Int) (level:Int):Option (Int×(List Int)):=
 self (.l1 0)
def IB (q:AA) (pos:List Int) (level:Int):Nat -> Xn -> Option (Int×(List Int))
 | 0,_=>none
 | n+1,.l1 x8=>Kv n (IB q pos level n) q pos level x8
def Xo (n:Nat) (q:AA) (pos:List Int) (level:Int):Option (Int×(List Int)):=zCk n (IB q pos level n) q pos level
def zCl (n B:Nat) (N:Yd 0) (q:AA) (pos:List Int) (level:Int) (r:Int×(List Int)):Xn -> Prop
 | .l1 x8=>∀ m0:Nat,n<=m0 -> TW B N (FQ Tryz.f73 0 (.tup 2 (L1 [.i r.1,.ints r.2])) []) (Ah m0 (Ap (AW Tryz.f73) 0 [])) ⟨AM 40 [(1,.ints pos),(2,.i level),(3,.ref 0 0),(8,.i x8)],[some (.cells (AD q))]⟩
theorem zCm (B:Nat) (N:Yd 0) (q:AA) (pos:List Int) (level:Int):Al (IB q pos level) (zCl · B N q pos level):=ia (fun _=>rfl) fun n AF pt r h=>by
 cases pt
 case l1 x8=>
  intro m0 AB;refine rd AB fun m0 AB=>?_
  revert r;apply gO;exact bi 14 (gn fun g0=>jg g0 (cf qj [some (.cells (AD q))] fun _=>bi 24 (gw 16 (lG RN [0] (AF _ _ · m0 AB))) (jg tD (jg g0 (cf vR [some (.cells (AD q))] fun _=>cf IX [some (.cells (AD q))] fun _=>bi 36 (lE RN [6,7] []) (gw 16 (lG RN [0] (AF _ _ · m0 AB)))))))) (lE RN [6,7] [])
theorem zCj {n:Nat} {q:AA} {pos:List Int} {level:Int} {r:Int×(List Int)} (h:Xo n q pos level=some r):EQ 73 [.agg 5 (L1 (AD q)),.ints pos,.i level] [] (.tup 2 (L1 [.i r.1,.ints r.2])) [] true:=by
 refine ot Tryz.func73 fun B N=>?_
 revert r;apply gO;exact lN RN [0] ((zCm B N q pos level n) _ _ · n Nat.le.refl)
inductive VL where
 | l1 (x1:List Int) (x8:Nat) (o1:List Int)
def Ra (n:Nat) (self:VL -> Option ((List Int)×(List Int))) (q:AA) (pos:List Int) (level:Int) (x1:List Int) (x8:Nat) (o1:List Int):Option ((List Int)×(List Int)):=
 (Xo n q x1 level).bind fun y1=>
  bif (decide (y1.1<0)) then
   if x8=o1.length then
    some (x1,o1)
   else none
  else
   if (0=0/\ 1=([y1.1]:List Int).length)/\ (0=0/\ x8=o1.length)/\ o1.length+([y1.1]:List Int).length<=A7 then
    self (.l1 y1.2 (o1.length+([y1.1]:List Int).length) (o1++([y1.1]:List Int)))
   else none
def tw (n:Nat) (self:VL -> Option ((List Int)×(List Int))) (q:AA) (pos:List Int) (level:Int):Option ((List Int)×(List Int)):=
 (PD n pos).bind fun y1=>
  bif y1 then
   if ((pos.length:Int):Int)=(pos.length:Int)/\ 0<=(pos.length:Int)/\ ((pos.length:Int):Int)<=1000000000000 then
    if pos.length=(List.replicate pos.length (0:Int)).length then
     some (List.replicate pos.length (0:Int),([]:List Int))
    else none
   else none
  else
   self (.l1 pos 0 ([]:List Int))
def LR (q:AA) (pos:List Int) (level:Int):Nat -> VL -> Option ((List Int)×(List Int))
 | 0,_=>none
 | n+1,.l1 x1 x8 o1=>Ra n (LR q pos level n) q pos level x1 x8 o1
def VM (n:Nat) (q:AA) (pos:List Int) (level:Int):Option ((List Int)×(List Int)):=tw n (LR q pos level n) q pos level
def tz (n B:Nat) (N:Yd 0) (q:AA) (pos:List Int) (level:Int) (r:(List Int)×(List Int)):VL -> Prop
 | .l1 x1 x8 o1=>∀ m0:Nat,n<=m0 -> TW B N (FQ Tryz.f53 0 (.tup 2 (L1 [.ints r.1,.ints r.2])) []) (Ah m0 (Ap (AW Tryz.f53) 0 [])) ⟨AM 34 [(1,.ints x1),(2,.i level),(3,.ref 0 0),(8,.msl 1 1 0 x8)],[some (.cells (AD q)),some (.ints o1)]⟩
theorem t6 (B:Nat) (N:Yd 0) (q:AA) (pos:List Int) (level:Int):Al (LR q pos level) (tz · B N q pos level):=ia (fun _=>rfl) fun n AF pt r h=>by
 cases pt
 case l1 x1 x8 o1=>
  intro m0 AB;refine rd AB fun m0 AB=>?_
  revert r;apply gO;exact cf zCj [some (.cells (AD q)),some (.ints o1)] fun _=>bi 26 (gn fun g0=>lF fun p=>ez AE [6,7] [1] p [0] (H0.g g0)) (gi (lG AE [0,3] (AF _ _ · m0 AB)))
theorem iT {n:Nat} {q:AA} {pos:List Int} {level:Int} {r:(List Int)×(List Int)} (h:VM n q pos level=some r):EQ 53 [.agg 5 (L1 (AD q)),.ints pos,.i level] [] (.tup 2 (L1 [.ints r.1,.ints r.2])) [] true:=by
 refine ot Tryz.func53 fun B N=>?_
 revert r;apply gO;exact cf Z1 [some (.cells (AD q)),some (.ints ([]:List Int))] fun _=>bi 13 (gi (gn fun g1=>lF fun p=>ez AE [6,7] [2,1] p [0,1] (H0.g g1 |>.g (by decide:0=([]:List Int).length)))) (lN AE [0,1] ((t6 B N q pos level n) _ _ · n Nat.le.refl))
def i5 (n:Nat) (q:AA) (pos:List Int) (level:Int):Option ((List Int)):=
 (VM n q pos level).bind fun y1=>
  some y1.1
def LZ (n:Nat) (q:AA) (pos:List Int) (level:Int):Option ((List Int)):=i5 n q pos level
theorem Zb {n:Nat} {q:AA} {pos:List Int} {level:Int} {r:(List Int)} (h:LZ n q pos level=some r):EQ 43 [.agg 5 (L1 (AD q)),.ints pos,.i level] [] (.ints r) [] true:=by
 unfold LZ i5 at h;refine ot Tryz.func43 fun B N=>?_
 revert r;apply gO;exact cf iT [some (.cells (AD q))] fun _=>lE AE [6] []
def px (n:Nat) (q:AA) (pos:List Int) (level:Int):Option ((List Int)×Int):=
 (LS n q pos).bind fun y1=>
  bif (y1 != 0) then
   some (([]:List Int),y1)
  else
   (LZ n q pos level).bind fun y2=>
    some (y2,0)
def Ua (n:Nat) (q:AA) (pos:List Int) (level:Int):Option ((List Int)×Int):=px n q pos level
theorem zEh {n:Nat} {q:AA} {pos:List Int} {level:Int} {r:(List Int)×Int} (h:Ua n q pos level=some r):EQ 18 [.agg 5 (L1 (AD q)),.ints pos,.i level] [] (.tup 2 (L1 [.ints r.1,.i r.2])) [] true:=by
 unfold Ua px at h;refine ot Tryz.func18 fun B N=>?_
 revert r;apply gO;exact cf VO [some (.cells (AD q))] fun y1=>bi 13 (lF fun p=>el AE [6,7] [] p [] H0 [.nils,.i y1] (AS.tupL (l:=[.nils,.i y1]) (l':=[.ints ([]:List Int),.i y1]) rfl ⟨AS.ints_nil,BQ,trivial⟩)) (cf Zb [some (.cells (AD q))] fun _=>lE AE [6,7] [])
theorem tN:Af (Ax Tryz.f20 7) [] (List.range 14) []:=by unfold Af;kernel_rfl
def Ot:BJ:=fun i=>match i with
 | 7=>.ord [] (List.range 14) []
 | _=>.no
inductive YW where
 | l1 (AJ:Int)
def K3 (n:Nat) (self:YW -> Option ((List Int)×Int)) (q:AA) (pos cells:List Int) (level:Int) (AJ:Int):Option ((List Int)×Int):=
 bif (decide (AJ<(cells.length:Int))) then
  if 0<=AJ/\ AJ<(cells.length:Int) then
   bif (decide ((cells.getD ((AJ).toNat) 0)<0)) then
    some (([]:List Int),1)
   else
    bif (decide ((cells.getD ((AJ).toNat) 0)>=q.cells)) then
     some (([]:List Int),1)
    else
     if AG (AJ+1) then
      self (.l1 (AJ+1))
     else none
  else none
 else
  (LZ n q pos level).bind fun y1=>
   some (y1,0)
def zEl (n:Nat) (self:YW -> Option ((List Int)×Int)) (q:AA) (pos cells:List Int) (level:Int):Option ((List Int)×Int):=
 (LS n q pos).bind fun y1=>
  bif (y1 != 0) then
   some (([]:List Int),y1)
  else
   self (.l1 0)
def MR (q:AA) (pos cells:List Int) (level:Int):Nat -> YW -> Option ((List Int)×Int)
 | 0,_=>none
 | n+1,.l1 AJ=>K3 n (MR q pos cells level n) q pos cells level AJ
def YX (n:Nat) (q:AA) (pos cells:List Int) (level:Int):Option ((List Int)×Int):=zEl n (MR q pos cells level n) q pos cells level
def zEn (n B:Nat) (N:Yd 0) (q:AA) (pos cells:List Int) (level:Int) (r:(List Int)×Int):YW -> Prop
 | .l1 AJ=>∀ m0:Nat,n<=m0 -> TW B N (FQ Tryz.f20 0 (.tup 2 (L1 [.ints r.1,.i r.2])) []) (Ah m0 (Ap (AW Tryz.f20) 0 [])) ⟨AM 42 [(1,.ints pos),(2,.ints cells),(3,.i level),(4,.ref 0 0),(11,.i AJ)],[some (.cells (AD q))]⟩
theorem zEo (B:Nat) (N:Yd 0) (q:AA) (pos cells:List Int) (level:Int):Al (MR q pos cells level) (zEn · B N q pos cells level):=ia (fun _=>rfl) fun n AF pt r h=>by
 cases pt
 case l1 AJ=>
  intro m0 AB;refine rd AB fun m0 AB=>?_
  revert r;apply gO;exact bi 21 (jg tN (gn fun g0=>jg g0 (bi 28 (lF fun p=>el Ot [8,9] [] p [] H0 [.nils,.i 1] (AS.tupL (l:=[.nils,.i 1]) (l':=[.ints ([]:List Int),.i 1]) rfl ⟨AS.ints_nil,BQ,trivial⟩)) (jg g0 (bi 36 (lF fun p=>el Ot [8,9] [] p [] H0 [.nils,.i 1] (AS.tupL (l:=[.nils,.i 1]) (l':=[.ints ([]:List Int),.i 1]) rfl ⟨AS.ints_nil,BQ,trivial⟩)) (gw 23 (lG Ot [0] (AF _ _ · m0 AB)))))))) (cf Zb [some (.cells (AD q))] fun _=>lE Ot [8,9] [])
theorem zEk {n:Nat} {q:AA} {pos cells:List Int} {level:Int} {r:(List Int)×Int} (h:YX n q pos cells level=some r):EQ 20 [.agg 5 (L1 (AD q)),.ints pos,.ints cells,.i level] [] (.tup 2 (L1 [.ints r.1,.i r.2])) [] true:=by
 refine ot Tryz.func20 fun B N=>?_
 revert r;apply gO;exact cf VO [some (.cells (AD q))] fun y1=>bi 16 (lF fun p=>el Ot [8,9] [] p [] H0 [.nils,.i y1] (AS.tupL (l:=[.nils,.i y1]) (l':=[.ints ([]:List Int),.i y1]) rfl ⟨AS.ints_nil,BQ,trivial⟩)) (lN Ot [0] ((zEo B N q pos cells level n) _ _ · n Nat.le.refl))
def kn (n:Nat) (q:AA) (pos:List Int) (level:Int):Option ((List Int)×Int):=
 (LS n q pos).bind fun y1=>
  bif (y1 != 0) then
   some (([]:List Int),y1)
  else
   (VM n q pos level).bind fun y2=>
    some (y2.2,0)
def Sl (n:Nat) (q:AA) (pos:List Int) (level:Int):Option ((List Int)×Int):=kn n q pos level
theorem xG {n:Nat} {q:AA} {pos:List Int} {level:Int} {r:(List Int)×Int} (h:Sl n q pos level=some r):EQ 23 [.agg 5 (L1 (AD q)),.ints pos,.i level] [] (.tup 2 (L1 [.ints r.1,.i r.2])) [] true:=by
 unfold Sl kn at h;refine ot Tryz.func23 fun B N=>?_
 revert r;apply gO;exact cf VO [some (.cells (AD q))] fun y1=>bi 15 (lF fun p=>el AE [6,7] [] p [] H0 [.nils,.i y1] (AS.tupL (l:=[.nils,.i y1]) (l':=[.ints ([]:List Int),.i y1]) rfl ⟨AS.ints_nil,BQ,trivial⟩)) (cf iT [some (.cells (AD q))] fun _=>lE AE [6,7] [])
def oG (n:Nat) (q:AA) (pos:List Int) (level:Int):Option (Bool×Int):=
 (LS n q pos).bind fun y1=>
  bif (y1 != 0) then
   some (false,y1)
  else
   (LZ n q pos level).bind fun y2=>
    (EP n y2 pos).bind fun y3=>
     some (y3,0)
def Tt (n:Nat) (q:AA) (pos:List Int) (level:Int):Option (Bool×Int):=oG n q pos level
theorem zCh {n:Nat} {q:AA} {pos:List Int} {level:Int} {r:Bool×Int} (h:Tt n q pos level=some r):EQ 25 [.agg 5 (L1 (AD q)),.ints pos,.i level] [] (.tup 2 (L1 [.bool r.1,.i r.2])) [] true:=by
 unfold Tt oG at h;refine ot Tryz.func25 fun B N=>?_
 revert r;apply gO;exact cf VO [some (.cells (AD q))] fun _=>bi 13 (lE AE [6,7] []) (cf Zb [some (.cells (AD q))] fun _=>cf IX [some (.cells (AD q))] fun _=>lE AE [6,7] [])
def dU (n:Nat) (q:AA) (pos:List Int):Option Bool:=
 (Tv n q pos).bind fun y1=>
  bif y1 then
   some (decide ((q.cons.length:Int)<=100))
  else
   some false
def OL (n:Nat) (q:AA) (pos:List Int):Option Bool:=dU n q pos
theorem oO {n:Nat} {q:AA} {pos:List Int} {r:Bool} (h:OL n q pos=some r):EQ 16 [.agg 5 (L1 (AD q)),.ints pos] [] (.bool r) [] true:=by
 unfold OL dU at h;refine ot Tryz.func16 fun B N=>?_
 revert r;apply gO;exact cf zCz [some (.cells (AD q))] fun _=>bi 7 (lE AE [4] []) (lE AE [4] [])
end Go.Proofs.YtekkngkphejfcaaGreatDoor
namespace Go.Proofs.YtekkngkphejfcaaGreatDoor
open Go.RowKit
set_option maxRecDepth 100000
set_option maxHeartbeats 40000000
theorem tF:Af (Ax Tryz.f50 6) [] (List.range 9) []:=by unfold Af;kernel_rfl
def RO:BJ:=fun i=>match i with
 | 6=>.ord [] (List.range 9) []
 | _=>.no
inductive Xz where
 | l1 (x13:Int)
def Tw (n:Nat) (self:Xz -> Option Bool) (ER E3:List Int) (x13:Int):Option Bool:=
 bif (decide (x13<(ER.length:Int))) then
  if (0<=x13/\ x13<(ER.length:Int))/\ (0<=x13/\ x13<(E3.length:Int)) then
   bif ((ER.getD ((x13).toNat) 0) != (E3.getD ((x13).toNat) 0)) then
    some false
   else
    if AG (x13+1) then
     self (.l1 (x13+1))
    else none
  else none
 else
  some true
def oU (n:Nat) (self:Xz -> Option Bool) (ER E3:List Int):Option Bool:=
 bif ((ER.length:Int) != (E3.length:Int)) then
  some false
 else
  self (.l1 0)
def QN (ER E3:List Int):Nat -> Xz -> Option Bool
 | 0,_=>none
 | n+1,.l1 x13=>Tw n (QN ER E3 n) ER E3 x13
def OM (n:Nat) (ER E3:List Int):Option Bool:=oU n (QN ER E3 n) ER E3
def zC6 (n B:Nat) (N:Yd 0) (ER E3:List Int) (r:Bool):Xz -> Prop
 | .l1 x13=>∀ m0:Nat,n<=m0 -> TW B N (FQ Tryz.f50 0 (.bool r) []) (Ah m0 (Ap (AW Tryz.f50) 0 [])) ⟨AM 26 [(0,.ints ER),(1,.ints E3),(12,.i (ER.length:Int)),(13,.i x13)],[]⟩
theorem zC7 (B:Nat) (N:Yd 0) (ER E3:List Int):Al (QN ER E3) (zC6 · B N ER E3):=ia (fun _=>rfl) fun n AF pt r h=>by
 cases pt
 case l1 x13=>
  intro m0 AB;refine rd AB fun m0 AB=>?_
  revert r;apply gO;exact bi 14 (jg tF (gc (gi (gi (bi 24 (lE RO [4] []) (gw 25 (lG RO [] (AF _ _ · m0 AB)))))))) (lE RO [4] [])
theorem oT {n:Nat} {ER E3:List Int} {r:Bool} (h:OM n ER E3=some r):EQ 50 [.ints ER,.ints E3] [] (.bool r) [] true:=by
 refine ot Tryz.func50 fun B N=>?_
 revert r;apply gO;exact bi 10 (lE RO [4] []) (lN RO [] ((zC7 B N ER E3 n) _ _ · n Nat.le.refl))
inductive Oe where
 | l1 (AJ:Int)
 | l2 (x4:Nat) (AJ:Int) (o1:List Int)
def Qx (n:Nat) (self:Oe -> Option ((List Int))) (q:AA) (level:Int) (AJ:Int):Option ((List Int)):=
 bif (decide (AJ<(q.cons.length:Int))) then
  (Nc n q AJ).bind fun y1=>
   bif (y1.2==0) then
    bif (decide (y1.1<=level)) then
     if ((0=0/\ 1=([AJ]:List Int).length)/\ 0<([AJ]:List Int).length/\ ([AJ]:List Int).length<=A7)/\ AG (AJ+1) then
      self (.l2 (([AJ]:List Int).length) (AJ+1) ([AJ]:List Int))
     else none
    else
     if AG (AJ+1) then
      self (.l1 (AJ+1))
     else none
   else
    if AG (AJ+1) then
     self (.l1 (AJ+1))
    else none
 else
  some ([]:List Int)
def Qw (n:Nat) (self:Oe -> Option ((List Int))) (q:AA) (level:Int) (x4:Nat) (AJ:Int) (o1:List Int):Option ((List Int)):=
 bif (decide (AJ<(q.cons.length:Int))) then
  (Nc n q AJ).bind fun y1=>
   bif (y1.2==0) then
    bif (decide (y1.1<=level)) then
     if ((0=0/\ 1=([AJ]:List Int).length)/\ (0=0/\ x4=o1.length)/\ o1.length+([AJ]:List Int).length<=A7)/\ AG (AJ+1) then
      self (.l2 (o1.length+([AJ]:List Int).length) (AJ+1) (o1++([AJ]:List Int)))
     else none
    else
     if AG (AJ+1) then
      self (.l2 x4 (AJ+1) o1)
     else none
   else
    if AG (AJ+1) then
     self (.l2 x4 (AJ+1) o1)
    else none
 else
  if x4=o1.length then
   some o1
  else none
def qf (n:Nat) (self:Oe -> Option ((List Int))) (q:AA) (level:Int):Option ((List Int)):=
 self (.l1 0)
def GZ (q:AA) (level:Int):Nat -> Oe -> Option ((List Int))
 | 0,_=>none
 | n+1,.l1 AJ=>Qx n (GZ q level n) q level AJ
 | n+1,.l2 x4 AJ o1=>Qw n (GZ q level n) q level x4 AJ o1
def Qy (n:Nat) (q:AA) (level:Int):Option ((List Int)):=qf n (GZ q level n) q level
def qg (n B:Nat) (N:Yd 0) (q:AA) (level:Int) (r:(List Int)):Oe -> Prop
 | .l1 AJ=>∀ m0:Nat,n<=m0 -> TW B N (FQ Tryz.f48 0 (.ints r) []) (Ah m0 (Ap (AW Tryz.f48) 0 [])) ⟨AM 33 [(1,.i level),(2,.ref 0 0),(4,.nils),(10,.i (q.cons.length:Int)),(11,.i AJ)],[some (.cells (AD q))]⟩
 | .l2 x4 AJ o1=>∀ m0:Nat,n<=m0 -> TW B N (FQ Tryz.f48 0 (.ints r) []) (Ah m0 (Ap (AW Tryz.f48) 0 [])) ⟨AM 33 [(1,.i level),(2,.ref 0 0),(4,.msl 1 1 0 x4),(10,.i (q.cons.length:Int)),(11,.i AJ)],[some (.cells (AD q)),some (.ints o1)]⟩
theorem qh (B:Nat) (N:Yd 0) (q:AA) (level:Int):Al (GZ q level) (qg · B N q level):=ia (fun _=>rfl) fun n AF pt r h=>by
 cases pt
 case l1 AJ=>
  intro m0 AB;refine rd AB fun m0 AB=>?_
  revert r;apply gO;exact bi 12 (cf ar [some (.cells (AD q))] fun _=>bi 21 (bi 25 (gc (gi (gw 31 (lG AE [0,2] (AF _ _ · m0 AB))))) (gw 31 (lG AE [0] (AF _ _ · m0 AB)))) (gw 31 (lG AE [0] (AF _ _ · m0 AB)))) (lF fun p=>el AE [4] [] p [] H0 [.nils] AS.ints_nil)
 case l2 x4 AJ o1=>
  intro m0 AB;refine rd AB fun m0 AB=>?_
  revert r;apply gO;exact bi 12 (cf ar [some (.cells (AD q)),some (.ints o1)] fun _=>bi 21 (bi 25 (gc (gi (gw 31 (lG AE [0,3] (AF _ _ · m0 AB))))) (gw 31 (lG AE [0,1] (AF _ _ · m0 AB)))) (gw 31 (lG AE [0,1] (AF _ _ · m0 AB)))) (gn fun g0=>lF fun p=>ez AE [4] [1] p [0] (H0.g g0))
theorem fW {n:Nat} {q:AA} {level:Int} {r:(List Int)} (h:Qy n q level=some r):EQ 48 [.agg 5 (L1 (AD q)),.i level] [] (.ints r) [] true:=by
 refine ot Tryz.func48 fun B N=>?_
 revert r;apply gO;exact lN AE [0] ((qh B N q level n) _ _ · n Nat.le.refl)
inductive Qg where
 | l1 (x8:Int)
 | l2 (x8:Int) (o0:List Bool) (CR:Nat) (o2:List Int)
def Ue (n:Nat) (self:Qg -> Option ((List Bool)×Nat×Nat×(List Int)×Bool)) (l:List Int) (ws:List Bool) (x8:Int):Option ((List Bool)×Nat×Nat×(List Int)×Bool):=
 bif (decide (x8<(l.length:Int))) then
  if (0<=x8/\ x8<(l.length:Int))/\ (0<=(l.getD ((x8).toNat) 0)/\ (l.getD ((x8).toNat) 0)<((4096:Nat):Int))/\ 0+((l.getD ((x8).toNat) 0).toNat)<ws.length then
   bif (!(ws.getD (0+((l.getD ((x8).toNat) 0).toNat)) false)) then
    if ((0=0/\ 1=([l.getD ((x8).toNat) 0]:List Int).length)/\ 0<([l.getD ((x8).toNat) 0]:List Int).length/\ ([l.getD ((x8).toNat) 0]:List Int).length<=A7)/\ AG (x8+1) then
     self (.l2 (x8+1) (ws.set (0+((l.getD ((x8).toNat) 0).toNat)) true) (([l.getD ((x8).toNat) 0]:List Int).length) ([l.getD ((x8).toNat) 0]:List Int))
    else none
   else
    if AG (x8+1) then
     self (.l1 (x8+1))
    else none
  else none
 else
  some (ws,0,0,([]:List Int),true)
def OY (n:Nat) (self:Qg -> Option ((List Bool)×Nat×Nat×(List Int)×Bool)) (l:List Int) (ws:List Bool) (x8:Int) (o0:List Bool) (CR:Nat) (o2:List Int):Option ((List Bool)×Nat×Nat×(List Int)×Bool):=
 bif (decide (x8<(l.length:Int))) then
  if (0<=x8/\ x8<(l.length:Int))/\ (0<=(l.getD ((x8).toNat) 0)/\ (l.getD ((x8).toNat) 0)<((4096:Nat):Int))/\ 0+((l.getD ((x8).toNat) 0).toNat)<o0.length then
   bif (!(o0.getD (0+((l.getD ((x8).toNat) 0).toNat)) false)) then
    if 0+CR=o2.length/\ CR+([l.getD ((x8).toNat) 0]:List Int).length<=A7/\ AG (x8+1) then
     self (.l2 (x8+1) (o0.set (0+((l.getD ((x8).toNat) 0).toNat)) true) (CR+([l.getD ((x8).toNat) 0]:List Int).length) (o2++([l.getD ((x8).toNat) 0]:List Int)))
    else none
   else
    if AG (x8+1) then
     self (.l2 (x8+1) o0 CR o2)
    else none
  else none
 else
  some (o0,0,CR,o2,false)
def zEq (n:Nat) (self:Qg -> Option ((List Bool)×Nat×Nat×(List Int)×Bool)) (l:List Int) (ws:List Bool):Option ((List Bool)×Nat×Nat×(List Int)×Bool):=
 self (.l1 0)
def II (l:List Int) (ws:List Bool):Nat -> Qg -> Option ((List Bool)×Nat×Nat×(List Int)×Bool)
 | 0,_=>none
 | n+1,.l1 x8=>Ue n (II l ws n) l ws x8
 | n+1,.l2 x8 o0 CR o2=>OY n (II l ws n) l ws x8 o0 CR o2
def MT (n:Nat) (l:List Int) (ws:List Bool):Option ((List Bool)×Nat×Nat×(List Int)×Bool):=zEq n (II l ws n) l ws
def zEr (n B:Nat) (N:Yd 2) (l:List Int) (ws:List Bool) (r:(List Bool)×Nat×Nat×(List Int)×Bool):Qg -> Prop
 | .l1 x8=>∀ m0:Nat,n<=m0 -> TW B N (FQ Tryz.f71 2 (.tup 0 (fun j=>([]:List DV).getD j .any)) (bif r.2.2.2.2 then [some (.bools r.1),some (.cells [.nils])] else [some (.bools r.1),some (.cells [.mse 2 1 r.2.1 r.2.2.1]),some (.ints r.2.2.2.1)])) (Ah m0 (Ap (AW Tryz.f71) 0 [])) ⟨AM 23 [(1,.mp 0 1 0 0),(2,.ref 1 0),(6,.ints l),(7,.i (l.length:Int)),(8,.i x8)],[some (.bools ws),some (.cells [.nils])]⟩
 | .l2 x8 o0 CR o2=>∀ m0:Nat,n<=m0 -> TW B N (FQ Tryz.f71 2 (.tup 0 (fun j=>([]:List DV).getD j .any)) (bif r.2.2.2.2 then [some (.bools r.1),some (.cells [.nils])] else [some (.bools r.1),some (.cells [.mse 2 1 r.2.1 r.2.2.1]),some (.ints r.2.2.2.1)])) (Ah m0 (Ap (AW Tryz.f71) 0 [])) ⟨AM 23 [(1,.mp 0 1 0 0),(2,.ref 1 0),(6,.ints l),(7,.i (l.length:Int)),(8,.i x8)],[some (.bools o0),some (.cells [.mse 2 1 0 CR]),some (.ints o2)]⟩
theorem zEs (B:Nat) (N:Yd 2) (l:List Int) (ws:List Bool):Al (II l ws) (zEr · B N l ws):=ia (fun _=>rfl) fun n AF pt r h=>by
 cases pt
 case l1 x8=>
  intro m0 AB;refine rd AB fun m0 AB=>?_
  revert r;apply gO;exact bi 9 (gc (gi (gc (gn fun g1=>jg g1 (gn fun g2=>jg g2 (bi 15 (jg g1 (jg g2 (gc (gi (jo 21 (AS.msl_mse (k:=3) (m:=1) (o:=0) (n:=([l.getD ((x8).toNat) 0]:List Int).length)) (jt (gw 22 (lG AE [0,1,3] (AF _ _ · m0 AB))))))))) (gw 22 (lG AE [0,1] (AF _ _ · m0 AB))))))))) (lE AE [] [0,1])
 case l2 x8 o0 CR o2=>
  intro m0 AB;refine rd AB fun m0 AB=>?_
  revert r;apply gO;exact bi 9 (gc (gi (gc (gn fun g1=>jg g1 (gn fun g2=>jg g2 (bi 15 (jg g1 (jg g2 (jg (And.intro (Eq.refl 0) (Eq.refl 1)) (jg (by decide:0<1) (gc (gi (gc (gi (jt (gw 22 (lG AE [0,1,4] (AF _ _ · m0 AB)))))))))))) (gw 22 (lG AE [0,1,2] (AF _ _ · m0 AB))))))))) (lE AE [] [0,1,2])
theorem qH {n:Nat} {l:List Int} {ws:List Bool} {r:(List Bool)×Nat×Nat×(List Int)×Bool} (h:MT n l ws=some r):EQ 71 [.ints l,.mp 0 1 0 0,.ref 1 0] [some (.bools ws),some (.cells [.nils])] (.tup 0 (fun j=>([]:List DV).getD j .any)) (bif r.2.2.2.2 then [some (.bools r.1),some (.cells [.nils])] else [some (.bools r.1),some (.cells [.mse 2 1 r.2.1 r.2.2.1]),some (.ints r.2.2.2.1)]) false:=by
 refine ot Tryz.func71 (hni:=by cases r.2.2.2.2 <;> rfl) fun B N=>?_
 revert r;apply gO;exact lN AE [0,1] ((zEs B N l ws n) _ _ · n Nat.le.refl)
theorem qG {n:Nat} {l:List Int} {ws:List Bool} {r:(List Bool)×Nat×Nat×(List Int)×Bool} (h:MT n l ws=some r) (c:r.2.2.2.2=true):EQ 71 [.ints l,.mp 0 1 0 0,.ref 1 0] [some (.bools ws),some (.cells [.nils])] (.tup 0 (fun j=>([]:List DV).getD j .any)) [some (.bools r.1),some (.cells [.nils])] false:=by
 have:=qH h;rw [c] at this;exact this
theorem qF {n:Nat} {l:List Int} {ws:List Bool} {r:(List Bool)×Nat×Nat×(List Int)×Bool} (h:MT n l ws=some r) (c:r.2.2.2.2=false):EQ 71 [.ints l,.mp 0 1 0 0,.ref 1 0] [some (.bools ws),some (.cells [.nils])] (.tup 0 (fun j=>([]:List DV).getD j .any)) [some (.bools r.1),some (.cells [.mse 2 1 r.2.1 r.2.2.1]),some (.ints r.2.2.2.1)] false:=by
 have:=qH h;rw [c] at this;exact this
inductive YY where
 | l1 (x8:Int) (o0:List Bool) (Ji CR:Nat) (o3:List Int)
def Oa (n:Nat) (self:YY -> Option ((List Bool)×Nat×Nat×(List Int))) (l:List Int) (ws:List Bool) (o_ n_:Nat) (qu:List Int) (x8:Int) (o0:List Bool) (Ji CR:Nat) (o3:List Int):Option ((List Bool)×Nat×Nat×(List Int)):=
 bif (decide (x8<(l.length:Int))) then
  if (0<=x8/\ x8<(l.length:Int))/\ (0<=(l.getD ((x8).toNat) 0)/\ (l.getD ((x8).toNat) 0)<((4096:Nat):Int))/\ 0+((l.getD ((x8).toNat) 0).toNat)<o0.length then
   bif (!(o0.getD (0+((l.getD ((x8).toNat) 0).toNat)) false)) then
    if Ji+CR=o3.length/\ CR+([l.getD ((x8).toNat) 0]:List Int).length<=A7/\ AG (x8+1) then
     self (.l1 (x8+1) (o0.set (0+((l.getD ((x8).toNat) 0).toNat)) true) 0 (CR+([l.getD ((x8).toNat) 0]:List Int).length) ((o3.drop Ji)++([l.getD ((x8).toNat) 0]:List Int)))
    else none
   else
    if AG (x8+1) then
     self (.l1 (x8+1) o0 Ji CR o3)
    else none
  else none
 else
  some (o0,Ji,CR,o3)
def zEt (n:Nat) (self:YY -> Option ((List Bool)×Nat×Nat×(List Int))) (l:List Int) (ws:List Bool) (o_ n_:Nat) (qu:List Int):Option ((List Bool)×Nat×Nat×(List Int)):=
 self (.l1 0 ws o_ n_ qu)
def OZ (l:List Int) (ws:List Bool) (o_ n_:Nat) (qu:List Int):Nat -> YY -> Option ((List Bool)×Nat×Nat×(List Int))
 | 0,_=>none
 | n+1,.l1 x8 o0 Ji CR o3=>Oa n (OZ l ws o_ n_ qu n) l ws o_ n_ qu x8 o0 Ji CR o3
def K4 (n:Nat) (l:List Int) (ws:List Bool) (o_ n_:Nat) (qu:List Int):Option ((List Bool)×Nat×Nat×(List Int)):=zEt n (OZ l ws o_ n_ qu n) l ws o_ n_ qu
def zEv (n B:Nat) (N:Yd 3) (l:List Int) (ws:List Bool) (o_ n_:Nat) (qu:List Int) (r:(List Bool)×Nat×Nat×(List Int)):YY -> Prop
 | .l1 x8 o0 Ji CR o3=>∀ m0:Nat,n<=m0 -> TW B N (FQ Tryz.f71 3 (.tup 0 (fun j=>([]:List DV).getD j .any)) [some (.bools r.1),some (.cells [.mse 3 1 r.2.1 r.2.2.1]),none,some (.ints r.2.2.2)]) (Ah m0 (Ap (AW Tryz.f71) 0 [])) ⟨AM 23 [(1,.mp 0 1 0 0),(2,.ref 1 0),(6,.ints l),(7,.i (l.length:Int)),(8,.i x8)],[some (.bools o0),some (.cells [.mse 3 1 Ji CR]),none,some (.ints o3)]⟩
theorem zEw (B:Nat) (N:Yd 3) (l:List Int) (ws:List Bool) (o_ n_:Nat) (qu:List Int):Al (OZ l ws o_ n_ qu) (zEv · B N l ws o_ n_ qu):=ia (fun _=>rfl) fun n AF pt r h=>by
 cases pt
 case l1 x8 o0 Ji CR o3=>
  intro m0 AB;refine rd AB fun m0 AB=>?_
  revert r;apply gO;exact bi 9 (gc (gi (gc (gn fun g1=>jg g1 (gn fun g2=>jg g2 (bi 15 (jg g1 (jg g2 (jg (And.intro (Eq.refl 0) (Eq.refl 1)) (jg (by decide:0<1) (gc (gi (gc (gi (jt (gw 22 (lG AE [0,1,2,5] (AF _ _ · m0 AB)))))))))))) (gw 22 (lG AE [0,1,2,3] (AF _ _ · m0 AB))))))))) (lE AE [] [0,1,2,3])
theorem eM {n:Nat} {l:List Int} {ws:List Bool} {o_ n_:Nat} {qu:List Int} {r:(List Bool)×Nat×Nat×(List Int)} (h:K4 n l ws o_ n_ qu=some r):EQ 71 [.ints l,.mp 0 1 0 0,.ref 1 0] [some (.bools ws),some (.cells [.mse 2 1 o_ n_]),some (.ints qu)] (.tup 0 (fun j=>([]:List DV).getD j .any)) [some (.bools r.1),some (.cells [.mse 3 1 r.2.1 r.2.2.1]),none,some (.ints r.2.2.2)] false:=by
 refine ot Tryz.func71 fun B N=>?_
 refine BW.le (BR.moveE 2 ⟨AM 23 [(0,.ints l),(1,.mp 0 1 0 0),(2,.ref 1 0)],[some (.bools ws),some (.cells [.mse 3 1 o_ n_]),none,some (.ints qu)]⟩ (by kernel_rfl)) (by kernel_rfl) ?_;revert r;apply gO;exact lN AE [0,1,2,3] ((zEw B N l ws o_ n_ qu n) _ _ · n Nat.le.refl)
def kg (n:Nat) (c:Int) (q:AA):Option Bool:=
 bif (decide (c<0)) then
  some true
 else
  some (decide (c>=q.cells))
def WO (n:Nat) (c:Int) (q:AA):Option Bool:=kg n c q
theorem xA {n:Nat} {c:Int} {q:AA} {r:Bool} (h:WO n c q=some r):EQ 46 [.i c,.fp 5 (L1 (AD q))] [] (.bool r) [] true:=by
 refine ot Tryz.func46 fun B N=>?_
 revert r;apply gO;exact bi 5 (lE AE [3] []) (lE AE [3] [])
inductive Wu where
 | l1 (x8:Int)
def Nk (n:Nat) (self:Wu -> Option Int) (l:List Int) (q:AA) (x8:Int):Option Int:=
 bif (decide (x8<(l.length:Int))) then
  if 0<=x8/\ x8<(l.length:Int) then
   (WO n (l.getD ((x8).toNat) 0) q).bind fun y1=>
    bif y1 then
     some x8
    else
     if AG (x8+1) then
      self (.l1 (x8+1))
     else none
  else none
 else
  some (-1)
def yy (n:Nat) (self:Wu -> Option Int) (l:List Int) (q:AA):Option Int:=
 self (.l1 0)
def Kl (l:List Int) (q:AA):Nat -> Wu -> Option Int
 | 0,_=>none
 | n+1,.l1 x8=>Nk n (Kl l q n) l q x8
def mS (n:Nat) (l:List Int) (q:AA):Option Int:=yy n (Kl l q n) l q
def yz (n B:Nat) (N:Yd 0) (l:List Int) (q:AA) (r:Int):Wu -> Prop
 | .l1 x8=>∀ m0:Nat,n<=m0 -> TW B N (FQ Tryz.f52 0 (.i r) []) (Ah m0 (Ap (AW Tryz.f52) 0 [])) ⟨AM 19 [(0,.ints l),(1,.fn 46 1 (L1 [.fp 5 (L1 (AD q))])),(7,.i (l.length:Int)),(8,.i x8)],[]⟩
theorem zA (B:Nat) (N:Yd 0) (l:List Int) (q:AA):Al (Kl l q) (yz · B N l q):=ia (fun _=>rfl) fun n AF pt r h=>by
 cases pt
 case l1 x8=>
  intro m0 AB;refine rd AB fun m0 AB=>?_
  revert r;apply gO;exact bi 9 (gi (cf xA [] fun _=>bi 16 (lE AE [4] []) (gw 18 (lG AE [] (AF _ _ · m0 AB))))) (lE AE [4] [])
theorem yx {n:Nat} {l:List Int} {q:AA} {r:Int} (h:mS n l q=some r):EQ 52 [.ints l,.fn 46 1 (L1 [.fp 5 (L1 (AD q))])] [] (.i r) [] true:=by
 refine ot Tryz.func52 fun B N=>?_
 revert r;apply gO;exact lN AE [] ((zA B N l q n) _ _ · n Nat.le.refl)
def pA (n:Nat) (l:List Int) (q:AA):Option Bool:=
 (mS n l q).bind fun y1=>
  some (decide (y1>=0))
def YA (n:Nat) (l:List Int) (q:AA):Option Bool:=pA n l q
theorem zDj {n:Nat} {l:List Int} {q:AA} {r:Bool} (h:YA n l q=some r):EQ 45 [.ints l,.fn 46 1 (L1 [.fp 5 (L1 (AD q))])] [] (.bool r) [] true:=by
 unfold YA pA at h;refine ot Tryz.func45 fun B N=>?_
 revert r;apply gO;exact cf yx [] fun _=>lE AE [4] []
theorem se:Af (Ax Tryz.f47 32) [] (List.range 9) []:=by unfold Af;kernel_rfl
def EO:BJ:=fun i=>match i with
 | 32=>.ord [] (List.range 9) []
 | _=>.no
def mw (cells:List Int) (q:AA) (o2:List Bool) (o1:Int -> List Int) (CH:Int):DH:=[some (.cells (AD q)),none,some (.bools o2),some (.cells [.nils]),some (.mo (.rows o1 (some (cells.getD ((CH).toNat) 0,o1 (cells.getD ((CH).toNat) 0),false))))]
def zAr (cells:List Int) (q:AA) (o2:List Bool) (Bh Aa:Nat) (o4:List Int) (o1:Int -> List Int) (CH:Int):DH:=[some (.cells (AD q)),none,some (.bools o2),some (.cells [.mse 4 1 Bh Aa]),some (.ints o4),some (.mo (.rows o1 (some (cells.getD ((CH).toNat) 0,o1 (cells.getD ((CH).toNat) 0),false))))]
def mu (cells:List Int) (q:AA) (o1:Int -> List Int) (o2:List Bool) (Bh Aa:Nat) (o4:List Int):DH:=[some (.cells (AD q)),some (.mo (.rows o1 none)),some (.bools o2),some (.cells [.mse 4 1 Bh Aa]),some (.ints o4)]
def zAq (cells:List Int) (q:AA) (o1:Int -> List Int) (o2:List Bool) (o4:List Int) (Bh Aa:Nat):DH:=[some (.cells (AD q)),some (.mo (.rows o1 none)),some (.bools (o2.set (0+((o4.getD (Bh+0) 0).toNat)) false)),some (.cells [.mse 4 1 (Bh+1) (Aa-1)]),some (.ints o4)]
def zAp (cells:List Int) (q:AA) (o2:List Bool) (Bh Aa:Nat) (o4:List Int) (o1:Int -> List Int) (D0:Int):DH:=[some (.cells (AD q)),none,some (.bools o2),some (.cells [.mse 4 1 Bh Aa]),some (.ints o4),some (.mo (.rows o1 (some (D0,o1 D0,false))))]
inductive Ic where
 | l1 (x9 Bj:List Int) (CV BS:Int) (o1:Int -> List Int)
 | l2 (x9:List Int) (AT:Int) (Bj:List Int) (CV BS:Int) (Hf:List Int) (Cz F8:Int) (o1:Int -> List Int)
 | l3 (x9:List Int) (CH:Int) (o1:Int -> List Int) (o2:List Bool)
 | l4 (x9:List Int) (CH:Int) (o1:Int -> List Int) (o2:List Bool) (Bh Aa:Nat) (o4:List Int)
 | l5 (o1:Int -> List Int) (o2:List Bool)
 | l6 (x1:List Int) (o1:Int -> List Int) (o2:List Bool) (Bh Aa:Nat) (o4:List Int)
 | l7 (x1 x21:List Int) (DE D0:Int) (o1:Int -> List Int) (o2:List Bool) (Bh Aa:Nat) (o4:List Int)
def SZ (n:Nat) (self:Ic -> Option ((List Int))) (q:AA) (pos cells:List Int) (level:Int) (x9 Bj:List Int) (CV BS:Int) (o1:Int -> List Int):Option ((List Int)):=
 bif (decide (BS<CV)) then
  if (0<=BS/\ BS<(Bj.length:Int))/\ (0<=(Bj.getD ((BS).toNat) 0)/\ (Bj.getD ((BS).toNat) 0)<(q.cons.length:Int)) then
   self (.l2 x9 (Bj.getD ((BS).toNat) 0) Bj CV BS ((q.cons.getD ((Bj.getD ((BS).toNat) 0).toNat) default).cells) ((((q.cons.getD ((Bj.getD ((BS).toNat) 0).toNat) default).cells).length:Nat):Int) 0 o1)
  else none
 else
  self (.l3 x9 0 o1 (List.replicate 4096 false))
def SY (n:Nat) (self:Ic -> Option ((List Int))) (q:AA) (pos cells:List Int) (level:Int) (x9:List Int) (AT:Int) (Bj:List Int) (CV BS:Int) (Hf:List Int) (Cz F8:Int) (o1:Int -> List Int):Option ((List Int)):=
 bif (decide (F8<Cz)) then
  if (0<=F8/\ F8<(Hf.length:Int))/\ (o1 (Hf.getD ((F8).toNat) 0)).length+([AT]:List Int).length<=A7/\ AG (F8+1) then
   self (.l2 x9 AT Bj CV BS Hf Cz (F8+1) (G3 o1 (Hf.getD ((F8).toNat) 0) ((o1 (Hf.getD ((F8).toNat) 0))++([AT]:List Int))))
  else none
 else
  if AG (BS+1) then
   self (.l1 x9 Bj CV (BS+1) o1)
  else none
def Kb (n:Nat) (self:Ic -> Option ((List Int))) (q:AA) (pos cells:List Int) (level:Int) (x9:List Int) (CH:Int) (o1:Int -> List Int) (o2:List Bool):Option ((List Int)):=
 bif (decide (CH<(cells.length:Int))) then
  if 0<=CH/\ CH<(cells.length:Int) then
   (MT n (o1 (cells.getD ((CH).toNat) 0)) o2).bind fun y1=>
    bif y1.2.2.2.2 then
     if AG (CH+1) then
      self (.l3 x9 (CH+1) o1 y1.1)
     else none
    else
     if AG (CH+1) then
      self (.l4 x9 (CH+1) o1 y1.1 y1.2.1 y1.2.2.1 y1.2.2.2.1)
     else none
  else none
 else
  (MT n x9 o2).bind fun y1=>
   bif y1.2.2.2.2 then
    self (.l5 o1 y1.1)
   else
    self (.l6 pos o1 y1.1 y1.2.1 y1.2.2.1 y1.2.2.2.1)
def SX (n:Nat) (self:Ic -> Option ((List Int))) (q:AA) (pos cells:List Int) (level:Int) (x9:List Int) (CH:Int) (o1:Int -> List Int) (o2:List Bool) (Bh Aa:Nat) (o4:List Int):Option ((List Int)):=
 bif (decide (CH<(cells.length:Int))) then
  if 0<=CH/\ CH<(cells.length:Int) then
   (K4 n (o1 (cells.getD ((CH).toNat) 0)) o2 Bh Aa o4).bind fun y1=>
    if AG (CH+1) then
     self (.l4 x9 (CH+1) o1 y1.1 y1.2.1 y1.2.2.1 y1.2.2.2)
    else none
  else none
 else
  (K4 n x9 o2 Bh Aa o4).bind fun y1=>
   self (.l6 pos o1 y1.1 y1.2.1 y1.2.2.1 y1.2.2.2)
def wU (n:Nat) (self:Ic -> Option ((List Int))) (q:AA) (pos cells:List Int) (level:Int) (o1:Int -> List Int) (o2:List Bool):Option ((List Int)):=
 some pos
def SW (n:Nat) (self:Ic -> Option ((List Int))) (q:AA) (pos cells:List Int) (level:Int) (x1:List Int) (o1:Int -> List Int) (o2:List Bool) (Bh Aa:Nat) (o4:List Int):Option ((List Int)):=
 bif (Aa==0) then
  some x1
 else
  bif (decide ((Aa:Int)>0)) then
   (Gi n x1).bind fun y1=>
    bif (!y1) then
     if ((0:Int)<=0/\ 0<(Aa:Int))/\ Bh+0<o4.length/\ ((0:Int)<=1/\ (1:Int)<=(Aa:Int)/\ (Aa:Int)<=(Aa:Int))/\ (0<=(o4.getD (Bh+0) 0)/\ (o4.getD (Bh+0) 0)<((4096:Nat):Int))/\ 0+((o4.getD (Bh+0) 0).toNat)<o2.length then
      (NE n q (o4.getD (Bh+0) 0) x1).bind fun y2=>
       bif (y2.2 != 0) then
        some x1
       else
        self (.l7 x1 y2.1 (y2.1.length:Int) 0 o1 (o2.set (0+((o4.getD (Bh+0) 0).toNat)) false) (Bh+1) (Aa-1) o4)
     else none
    else
     some x1
  else
   some x1
def ND (n:Nat) (self:Ic -> Option ((List Int))) (q:AA) (pos cells:List Int) (level:Int) (x1 x21:List Int) (DE D0:Int) (o1:Int -> List Int) (o2:List Bool) (Bh Aa:Nat) (o4:List Int):Option ((List Int)):=
 bif (decide (D0<DE)) then
  if (0<=D0/\ D0<(x21.length:Int))/\ (0<=D0/\ D0<(x1.length:Int)) then
   bif ((x21.getD ((D0).toNat) 0) != (x1.getD ((D0).toNat) 0)) then
    (K4 n (o1 D0) o2 Bh Aa o4).bind fun y1=>
     if AG (D0+1) then
      self (.l7 x1 x21 DE (D0+1) o1 y1.1 y1.2.1 y1.2.2.1 y1.2.2.2)
     else none
   else
    if AG (D0+1) then
     self (.l7 x1 x21 DE (D0+1) o1 o2 Bh Aa o4)
    else none
  else none
 else
  self (.l6 x21 o1 o2 Bh Aa o4)
def Sa (n:Nat) (self:Ic -> Option ((List Int))) (q:AA) (pos cells:List Int) (level:Int):Option ((List Int)):=
 (Gi n pos).bind fun y1=>
  bif y1 then
   if ((pos.length:Int):Int)=(pos.length:Int)/\ 0<=(pos.length:Int)/\ ((pos.length:Int):Int)<=1000000000000 then
    if pos.length=(List.replicate pos.length (0:Int)).length then
     some (List.replicate pos.length (0:Int))
    else none
   else none
  else
   (Qy n q level).bind fun y2=>
    self (.l1 y2 y2 (y2.length:Int) 0 (fun _=>[]))
def Br (q:AA) (pos cells:List Int) (level:Int):Nat -> Ic -> Option ((List Int))
 | 0,_=>none
 | n+1,.l1 x9 Bj CV BS o1=>SZ n (Br q pos cells level n) q pos cells level x9 Bj CV BS o1
 | n+1,.l2 x9 AT Bj CV BS Hf Cz F8 o1=>SY n (Br q pos cells level n) q pos cells level x9 AT Bj CV BS Hf Cz F8 o1
 | n+1,.l3 x9 CH o1 o2=>Kb n (Br q pos cells level n) q pos cells level x9 CH o1 o2
 | n+1,.l4 x9 CH o1 o2 Bh Aa o4=>SX n (Br q pos cells level n) q pos cells level x9 CH o1 o2 Bh Aa o4
 | n+1,.l5 o1 o2=>wU n (Br q pos cells level n) q pos cells level o1 o2
 | n+1,.l6 x1 o1 o2 Bh Aa o4=>SW n (Br q pos cells level n) q pos cells level x1 o1 o2 Bh Aa o4
 | n+1,.l7 x1 x21 DE D0 o1 o2 Bh Aa o4=>ND n (Br q pos cells level n) q pos cells level x1 x21 DE D0 o1 o2 Bh Aa o4
def aF (n:Nat) (q:AA) (pos cells:List Int) (level:Int):Option ((List Int)):=Sa n (Br q pos cells level n) q pos cells level
def wV (n B:Nat) (N:Yd 0) (q:AA) (pos cells:List Int) (level:Int) (r:(List Int)):Ic -> Prop
 | .l1 x9 Bj CV BS o1=>∀ m0:Nat,n<=m0 -> TW B N (FQ Tryz.f47 0 (.ints r) []) (Ah m0 (Ap (AW Tryz.f47) 0 [])) ⟨AM 123 [(1,.ints pos),(2,.ints cells),(4,.ref 0 0),(9,.ints x9),(10,.mri 1 0),(33,.ints Bj),(34,.i CV),(35,.i BS)],[some (.cells (AD q)),some (.mo (.rows o1 none))]⟩
 | .l2 x9 AT Bj CV BS Hf Cz F8 o1=>∀ m0 m1:Nat,n<=m0 -> n<=m1 -> TW B N (FQ Tryz.f47 0 (.ints r) []) (Ah m1 (Ap (AW Tryz.f47) 2 [m0])) ⟨AM 123 [(1,.ints pos),(2,.ints cells),(4,.ref 0 0),(9,.ints x9),(10,.mri 1 0),(12,.i AT),(33,.ints Bj),(34,.i CV),(35,.i BS),(44,.ints Hf),(45,.i Cz),(46,.i F8)],[some (.cells (AD q)),some (.mo (.rows o1 none))]⟩
 | .l3 x9 CH o1 o2=>∀ m0:Nat,n<=m0 -> TW B N (FQ Tryz.f47 0 (.ints r) []) (Ah m0 (Ap (AW Tryz.f47) 4 [])) ⟨AM 123 [(1,.ints pos),(4,.ref 0 0),(9,.ints x9),(10,.mri 1 0),(15,.mp 2 1 0 0),(16,.ref 3 0),(17,.fn 71 2 (L1 [.mp 2 1 0 0,.ref 3 0])),(61,.ints cells),(62,.i (cells.length:Int)),(63,.i CH)],[some (.cells (AD q)),some (.mo (.rows o1 none)),some (.bools o2),some (.cells [.nils])]⟩
 | .l4 x9 CH o1 o2 Bh Aa o4=>∀ m0:Nat,n<=m0 -> TW B N (FQ Tryz.f47 0 (.ints r) []) (Ah m0 (Ap (AW Tryz.f47) 4 [])) ⟨AM 123 [(1,.ints pos),(4,.ref 0 0),(9,.ints x9),(10,.mri 1 0),(15,.mp 2 1 0 0),(16,.ref 3 0),(17,.fn 71 2 (L1 [.mp 2 1 0 0,.ref 3 0])),(61,.ints cells),(62,.i (cells.length:Int)),(63,.i CH)],[some (.cells (AD q)),some (.mo (.rows o1 none)),some (.bools o2),some (.cells [.mse 4 1 Bh Aa]),some (.ints o4)]⟩
 | .l5 o1 o2=>∀ m0:Nat,n<=m0 -> TW B N (FQ Tryz.f47 0 (.ints r) []) (Ah m0 (Ap (AW Tryz.f47) 6 [])) ⟨AM 123 [(1,.ints pos),(4,.ref 0 0),(10,.mri 1 0),(15,.mp 2 1 0 0),(16,.ref 3 0),(17,.fn 71 2 (L1 [.mp 2 1 0 0,.ref 3 0]))],[some (.cells (AD q)),some (.mo (.rows o1 none)),some (.bools o2),some (.cells [.nils])]⟩
 | .l6 x1 o1 o2 Bh Aa o4=>∀ m0:Nat,n<=m0 -> TW B N (FQ Tryz.f47 0 (.ints r) []) (Ah m0 (Ap (AW Tryz.f47) 6 [])) ⟨AM 123 [(1,.ints x1),(4,.ref 0 0),(10,.mri 1 0),(15,.mp 2 1 0 0),(16,.ref 3 0),(17,.fn 71 2 (L1 [.mp 2 1 0 0,.ref 3 0]))],[some (.cells (AD q)),some (.mo (.rows o1 none)),some (.bools o2),some (.cells [.mse 4 1 Bh Aa]),some (.ints o4)]⟩
 | .l7 x1 x21 DE D0 o1 o2 Bh Aa o4=>∀ m0 m1:Nat,n<=m0 -> n<=m1 -> TW B N (FQ Tryz.f47 0 (.ints r) []) (Ah m1 (Ap (AW Tryz.f47) 8 [m0])) ⟨AM 123 [(1,.ints x1),(4,.ref 0 0),(10,.mri 1 0),(15,.mp 2 1 0 0),(16,.ref 3 0),(17,.fn 71 2 (L1 [.mp 2 1 0 0,.ref 3 0])),(21,.ints x21),(102,.i DE),(103,.i D0)],[some (.cells (AD q)),some (.mo (.rows o1 none)),some (.bools o2),some (.cells [.mse 4 1 Bh Aa]),some (.ints o4)]⟩
theorem wW (B:Nat) (N:Yd 0) (q:AA) (pos cells:List Int) (level:Int):Al (Br q pos cells level) (wV · B N q pos cells level):=ia (fun _=>rfl) fun n AF pt r h=>by
 cases pt
 case l1 x9 Bj CV BS o1=>
  intro m0 AB;refine rd AB fun m0 AB=>?_
  revert r;apply gO;exact bi 36 (gc (gi (gi (lN EO [0,1] (AF _ _ · m0 n AB Nat.le.refl))))) (lN EO [0,1,2,3] (AF _ _ · n Nat.le.refl))
 case l2 x9 AT Bj CV BS Hf Cz F8 o1=>
  intro m0 m1 AB AR;have AB:=zBZ AB;refine rd AR fun m1 AR=>?_
  revert r;apply gO;exact bi 47 (gc (gi (jg (And.intro (Eq.refl 0) (Eq.refl 1)) (jg (by decide:0<1) (gc (gi (jg (Eq.refl (Hf.getD ((F8).toNat) 0)) (gw 58 (lG EO [0,4] (AF _ _ · m0 m1 AB AR)))))))))) (gw 59 (lG EO [0,1] (AF _ _ · m0 AB)))
 case l3 x9 CH o1 o2=>
  intro m0 AB;refine rd AB fun m0 AB=>?_
  revert r;apply gO;exact bi 64 (gi (cn fun y1 A1=>bn (fun c1=>jc (es (qG A1 c1) [2,3] (mw cells q o2 o1 CH) [.mri 4 1,.mp 2 1 0 0,.ref 3 0] ⟨(.inr (K5.own rfl rfl)),(.inl rfl),(.inl rfl),trivial⟩) (ju 71 4 (gw 72 (lG EO [0,4,2,3] (AF _ _ · m0 AB))))) (fun c1=>jc (es (qF A1 c1) [2,3] (mw cells q o2 o1 CH) [.mri 4 1,.mp 2 1 0 0,.ref 3 0] ⟨(.inr (K5.own rfl rfl)),(.inl rfl),(.inl rfl),trivial⟩) (ju 71 4 (gw 72 (lG EO [0,4,2,3,5] (AF _ _ · m0 AB))))))) (cn fun y1 A1=>bn (fun c1=>jc (em (qG A1 c1) [2,3] [some (.cells (AD q)),some (.mo (.rows o1 none)),some (.bools o2),some (.cells [.nils])]) (lN EO [0,1,2,3] (AF _ _ · n Nat.le.refl))) (fun c1=>jc (em (qF A1 c1) [2,3] [some (.cells (AD q)),some (.mo (.rows o1 none)),some (.bools o2),some (.cells [.nils])]) (lN EO [0,1,2,3,4] (AF _ _ · n Nat.le.refl))))
 case l4 x9 CH o1 o2 Bh Aa o4=>
  intro m0 AB;refine rd AB fun m0 AB=>?_
  revert r;apply gO;exact bi 64 (gi (cn fun y1 A1=>jc (es (eM A1) [2,3,4] (zAr cells q o2 Bh Aa o4 o1 CH) [.mri 5 1,.mp 2 1 0 0,.ref 3 0] ⟨(.inr (K5.own rfl rfl)),(.inl rfl),(.inl rfl),trivial⟩) (ju 71 5 (gw 72 (lG EO [0,5,2,3,6] (AF _ _ · m0 AB)))))) (ce eM [2,3,4] (mu cells q o1 o2 Bh Aa o4) fun _=>lN EO [0,1,2,3,5] (AF _ _ · n Nat.le.refl))
 case l5 o1 o2=>
  intro m0 AB;refine rd AB fun m0 AB=>?_
  revert r;apply gO;exact lE EO [8] []
 case l6 x1 o1 o2 Bh Aa o4=>
  intro m0 AB;refine rd AB fun m0 AB=>?_
  revert r;apply gO;exact bn (fun c0=>jo 76 (AS.mse_nil (k:=4) (m:=1) (o:=Bh) (eq_of_beq c0)) (lE EO [8] [])) (fun c0=>jo 76 (AS.mse_msl (k:=4) (m:=1) (o:=Bh) (WB c0) rfl) (bi 78 (cf Pe (mu cells q o1 o2 Bh Aa o4) fun _=>bi 82 (jo 84 (AS.mse_msl (k:=4) (m:=1) (o:=Bh) (WB c0) rfl) (gc (gi (gc (gi (jo 87 (AS.mse_msl (k:=4) (m:=1) (o:=Bh) (WB c0) rfl) (gc (gi (jt (gc (gi (gi (cf j9 (zAq cells q o1 o2 o4 Bh Aa) fun _=>bi 99 (lE EO [8] []) (lN EO [0,1,2,3,4] (AF _ _ · m0 n AB Nat.le.refl))))))))))))))) (lE EO [8] [])) (lE EO [8] [])))
 case l7 x1 x21 DE D0 o1 o2 Bh Aa o4=>
  intro m0 m1 AB AR;have AB:=zBZ AB;refine rd AR fun m1 AR=>?_
  revert r;apply gO;exact bi 104 (jg se (gc (gi (gi (bi 114 (cn fun y1 A1=>jc (es (eM A1) [2,3,4] (zAp cells q o2 Bh Aa o4 o1 D0) [.mri 5 1,.mp 2 1 0 0,.ref 3 0] ⟨(.inr (K5.own rfl rfl)),(.inl rfl),(.inl rfl),trivial⟩) (ju 119 5 (gw 120 (lG EO [0,5,2,3,6] (AF _ _ · m0 m1 AB AR))))) (gw 120 (lG EO [0,1,2,3,4] (AF _ _ · m0 m1 AB AR)))))))) (lG EO [0,1,2,3,4] (AF _ _ · m0 AB))
theorem wT {n:Nat} {q:AA} {pos cells:List Int} {level:Int} {r:(List Int)} (h:aF n q pos cells level=some r):EQ 47 [.agg 5 (L1 (AD q)),.ints pos,.ints cells,.i level] [] (.ints r) [] true:=by
 refine ot Tryz.func47 fun B N=>?_
 revert r;apply gO;exact cf Pe [some (.cells (AD q))] fun _=>bi 25 (gi (gn fun g1=>lF fun p=>ez EO [8] [1] p [0] (H0.g g1))) (cf fW [some (.cells (AD q))] fun _=>lN EO [0,1] ((wW B N q pos cells level n) _ _ · n Nat.le.refl))
def qA (n:Nat) (q:AA) (pos cells:List Int) (level:Int):Option ((List Int)×Int):=
 (NI n q pos).bind fun y1=>
  bif (y1 != 0) then
   some (([]:List Int),y1)
  else
   (YA n cells q).bind fun y2=>
    bif y2 then
     some (([]:List Int),1)
    else
     (aF n q pos cells level).bind fun y3=>
      some (y3,0)
def OX (n:Nat) (q:AA) (pos cells:List Int) (level:Int):Option ((List Int)×Int):=qA n q pos cells level
theorem Ud {n:Nat} {q:AA} {pos cells:List Int} {level:Int} {r:(List Int)×Int} (h:OX n q pos cells level=some r):EQ 19 [.agg 5 (L1 (AD q)),.ints pos,.ints cells,.i level] [] (.tup 2 (L1 [.ints r.1,.i r.2])) [] true:=by
 unfold OX qA at h;refine ot Tryz.func19 fun B N=>?_
 revert r;apply gO;exact cf aM [some (.cells (AD q))] fun y1=>bi 14 (lF fun p=>el AE [8,9] [] p [] H0 [.nils,.i y1] (AS.tupL (l:=[.nils,.i y1]) (l':=[.ints ([]:List Int),.i y1]) rfl ⟨AS.ints_nil,BQ,trivial⟩)) (cn fun y2 CF=>jc (sb [.ints cells,.fn 46 1 (L1 [.ref 0 0])] (zDj CF) [some (.cells (AD q))] ⟨Ar.plain (by kernel_rfl),(Ar.fnL (l:=[.ref 0 0]) (l0:=[.fp 5 (L1 (AD q))]) ⟨(Ar.refL (l:=(AD q)) (l0:=(AD q)) rfl ⟨Ar.plain (by kernel_rfl),Ar.plain (by kernel_rfl),Ar.plain (by kernel_rfl),Ar.plain (by kernel_rfl),Ar.plain (by kernel_rfl),trivial⟩),trivial⟩),trivial⟩) (bi 18 (lF fun p=>el AE [8,9] [] p [] H0 [.nils,.i 1] (AS.tupL (l:=[.nils,.i 1]) (l':=[.ints ([]:List Int),.i 1]) rfl ⟨AS.ints_nil,BQ,trivial⟩)) (cf wT [some (.cells (AD q))] fun _=>lE AE [8,9] [])))
def p7 (n:Nat) (q:AA) (pos:List Int) (level:Int):Option ((List Int)×Int):=
 (OX n q pos ([]:List Int) level).bind fun y1=>
  some (y1.1,y1.2)
def J2 (n:Nat) (q:AA) (pos:List Int) (level:Int):Option ((List Int)×Int):=p7 n q pos level
theorem Gu {n:Nat} {q:AA} {pos:List Int} {level:Int} {r:(List Int)×Int} (h:J2 n q pos level=some r):EQ 17 [.agg 5 (L1 (AD q)),.ints pos,.i level] [] (.tup 2 (L1 [.ints r.1,.i r.2])) [] true:=by
 unfold J2 p7 at h;refine ot Tryz.func17 fun B N=>?_
 revert r;apply gO;exact cn fun y1 A1=>jc (fb (ES.argsLe (ds:=[.agg 5 (L1 (AD q)),.ints pos,.nils,.i level]) (Ud A1) ⟨BQ,BQ,AS.ints_nil,BQ,trivial⟩) [some (.cells (AD q))]) (lE AE [6,7] [])
def pJ (n:Nat) (i_:Int) (q:AA) (pos:List Int):Option (Bool×(List Int)):=
 (NE n q i_ pos).bind fun y1=>
  bif (y1.2 != 0) then
   some (false,pos)
  else
   (OM n y1.1 pos).bind fun y2=>
    bif y2 then
     some (false,pos)
    else
     some (true,y1.1)
def UH (n:Nat) (i_:Int) (q:AA) (pos:List Int):Option (Bool×(List Int)):=pJ n i_ q pos
theorem zDz {n:Nat} {i_:Int} {q:AA} {pos:List Int} {r:Bool×(List Int)} (h:UH n i_ q pos=some r):EQ 49 [.i i_,.ref 0 0,.ref 1 0] [some (.cells (AD q)),some (.cells [.ints pos])] (.bool r.1) [some (.cells (AD q)),some (.cells [.ints r.2])] false:=by
 unfold UH pJ at h;refine ot Tryz.func49 fun B N=>?_
 revert r;apply gO;exact cf j9 [some (.cells (AD q)),some (.cells [.ints pos])] fun _=>bi 15 (lE AE [4] [0,1]) (cf oT [some (.cells (AD q)),some (.cells [.ints pos])] fun _=>bi 19 (lE AE [4] [0,1]) (jt (lE AE [4] [0,1])))
inductive Wy where
 | l1 (x8:Int) (CR:List Int)
def Nm (n:Nat) (self:Wy -> Option (Int×(List Int))) (l:List Int) (q:AA) (pos:List Int) (x8:Int) (CR:List Int):Option (Int×(List Int)):=
 bif (decide (x8<(l.length:Int))) then
  if 0<=x8/\ x8<(l.length:Int) then
   (UH n (l.getD ((x8).toNat) 0) q CR).bind fun y1=>
    bif y1.1 then
     some (x8,y1.2)
    else
     if AG (x8+1) then
      self (.l1 (x8+1) y1.2)
     else none
  else none
 else
  some ((-1),CR)
def zE (n:Nat) (self:Wy -> Option (Int×(List Int))) (l:List Int) (q:AA) (pos:List Int):Option (Int×(List Int)):=
 self (.l1 0 pos)
def Km (l:List Int) (q:AA) (pos:List Int):Nat -> Wy -> Option (Int×(List Int))
 | 0,_=>none
 | n+1,.l1 x8 CR=>Nm n (Km l q pos n) l q pos x8 CR
def Nn (n:Nat) (l:List Int) (q:AA) (pos:List Int):Option (Int×(List Int)):=zE n (Km l q pos n) l q pos
def zF (n B:Nat) (N:Yd 2) (l:List Int) (q:AA) (pos:List Int) (r:Int×(List Int)):Wy -> Prop
 | .l1 x8 CR=>∀ m0:Nat,n<=m0 -> TW B N (FQ Tryz.f52 2 (.i r.1) [some (.cells (AD q)),some (.cells [.ints r.2])]) (Ah m0 (Ap (AW Tryz.f52) 0 [])) ⟨AM 19 [(0,.ints l),(1,.fn 49 2 (L1 [.ref 0 0,.ref 1 0])),(7,.i (l.length:Int)),(8,.i x8)],[some (.cells (AD q)),some (.cells [.ints CR])]⟩
theorem zG (B:Nat) (N:Yd 2) (l:List Int) (q:AA) (pos:List Int):Al (Km l q pos) (zF · B N l q pos):=ia (fun _=>rfl) fun n AF pt r h=>by
 cases pt
 case l1 x8 CR=>
  intro m0 AB;refine rd AB fun m0 AB=>?_
  revert r;apply gO;exact bi 9 (gi (ce zDz [0,1] [some (.cells (AD q)),some (.cells [.ints CR])] fun _=>bi 16 (lE AE [4] [0,1]) (gw 18 (lG AE [0,1] (AF _ _ · m0 AB))))) (lE AE [4] [0,1])
theorem mU {n:Nat} {l:List Int} {q:AA} {pos:List Int} {r:Int×(List Int)} (h:Nn n l q pos=some r):EQ 52 [.ints l,.fn 49 2 (L1 [.ref 0 0,.ref 1 0])] [some (.cells (AD q)),some (.cells [.ints pos])] (.i r.1) [some (.cells (AD q)),some (.cells [.ints r.2])] false:=by
 refine ot Tryz.func52 fun B N=>?_
 revert r;apply gO;exact lN AE [0,1] ((zG B N l q pos n) _ _ · n Nat.le.refl)
inductive PK where
 | l1 (x8:List Int)
 | l2 (x6:Nat) (x8 Jj o1:List Int)
def NN (n:Nat) (self:PK -> Option ((List Int)×Int)) (q:AA) (pos:List Int) (level:Int) (x8:List Int):Option ((List Int)×Int):=
 (Gi n pos).bind fun y1=>
  bif (!y1) then
   (Nn n x8 q pos).bind fun y2=>
    bif (decide (y2.1<0)) then
     some (([]:List Int),0)
    else
     if (0<=y2.1/\ y2.1<(x8.length:Int))/\ ((0=0/\ 1=([x8.getD ((y2.1).toNat) 0]:List Int).length)/\ 0<([x8.getD ((y2.1).toNat) 0]:List Int).length/\ ([x8.getD ((y2.1).toNat) 0]:List Int).length<=A7) then
      self (.l2 (([x8.getD ((y2.1).toNat) 0]:List Int).length) x8 y2.2 ([x8.getD ((y2.1).toNat) 0]:List Int))
     else none
  else
   some (([]:List Int),0)
def NM (n:Nat) (self:PK -> Option ((List Int)×Int)) (q:AA) (pos:List Int) (level:Int) (x6:Nat) (x8 Jj o1:List Int):Option ((List Int)×Int):=
 (Gi n Jj).bind fun y1=>
  bif (!y1) then
   (Nn n x8 q Jj).bind fun y2=>
    bif (decide (y2.1<0)) then
     if x6=o1.length then
      some (o1,0)
     else none
    else
     if (0<=y2.1/\ y2.1<(x8.length:Int))/\ ((0=0/\ 1=([x8.getD ((y2.1).toNat) 0]:List Int).length)/\ (0=0/\ x6=o1.length)/\ o1.length+([x8.getD ((y2.1).toNat) 0]:List Int).length<=A7) then
      self (.l2 (o1.length+([x8.getD ((y2.1).toNat) 0]:List Int).length) x8 y2.2 (o1++([x8.getD ((y2.1).toNat) 0]:List Int)))
     else none
  else
   if x6=o1.length then
    some (o1,0)
   else none
def xI (n:Nat) (self:PK -> Option ((List Int)×Int)) (q:AA) (pos:List Int) (level:Int):Option ((List Int)×Int):=
 (NI n q pos).bind fun y1=>
  bif (y1 != 0) then
   some (([]:List Int),y1)
  else
   (Qy n q level).bind fun y2=>
    self (.l1 y2)
def HD (q:AA) (pos:List Int) (level:Int):Nat -> PK -> Option ((List Int)×Int)
 | 0,_=>none
 | n+1,.l1 x8=>NN n (HD q pos level n) q pos level x8
 | n+1,.l2 x6 x8 Jj o1=>NM n (HD q pos level n) q pos level x6 x8 Jj o1
def PL (n:Nat) (q:AA) (pos:List Int) (level:Int):Option ((List Int)×Int):=xI n (HD q pos level n) q pos level
def xJ (n B:Nat) (N:Yd 0) (q:AA) (pos:List Int) (level:Int) (r:(List Int)×Int):PK -> Prop
 | .l1 x8=>∀ m0:Nat,n<=m0 -> TW B N (FQ Tryz.f22 0 (.tup 2 (L1 [.ints r.1,.i r.2])) []) (Ah m0 (Ap (AW Tryz.f22) 0 [])) ⟨AM 37 [(4,.ref 0 0),(6,.nils),(8,.ints x8),(9,.fn 49 2 (L1 [.ref 1 0,.ref 0 0]))],[some (.cells [.ints pos]),some (.cells (AD q))]⟩
 | .l2 x6 x8 Jj o1=>∀ m0:Nat,n<=m0 -> TW B N (FQ Tryz.f22 0 (.tup 2 (L1 [.ints r.1,.i r.2])) []) (Ah m0 (Ap (AW Tryz.f22) 0 [])) ⟨AM 37 [(4,.ref 0 0),(6,.msl 1 1 0 x6),(8,.ints x8),(9,.fn 49 2 (L1 [.ref 2 0,.ref 0 0]))],[some (.cells [.ints Jj]),some (.ints o1),some (.cells (AD q))]⟩
theorem xK (B:Nat) (N:Yd 0) (q:AA) (pos:List Int) (level:Int):Al (HD q pos level) (xJ · B N q pos level):=ia (fun _=>rfl) fun n AF pt r h=>by
 cases pt
 case l1 x8=>
  intro m0 AB;refine rd AB fun m0 AB=>?_
  revert r;apply gO;exact cf Pe [some (.cells [.ints pos]),some (.cells (AD q))] fun _=>bi 23 (ce mU [1,0] [some (.cells [.ints pos]),some (.cells (AD q))] fun _=>bi 28 (lF fun p=>el AE [6,7] [] p [] H0 [.nils,.i 0] (AS.tupL (l:=[.nils,.i 0]) (l':=[.ints ([]:List Int),.i 0]) rfl ⟨AS.ints_nil,BQ,trivial⟩)) (gc (gi (gi (lG AE [0,3,1] (AF _ _ · m0 AB)))))) (lF fun p=>el AE [6,7] [] p [] H0 [.nils,.i 0] (AS.tupL (l:=[.nils,.i 0]) (l':=[.ints ([]:List Int),.i 0]) rfl ⟨AS.ints_nil,BQ,trivial⟩))
 case l2 x6 x8 Jj o1=>
  intro m0 AB;refine rd AB fun m0 AB=>?_
  revert r;apply gO;exact cf Pe [some (.cells [.ints Jj]),some (.ints o1),some (.cells (AD q))] fun _=>bi 23 (ce mU [2,0] [some (.cells [.ints Jj]),some (.ints o1),some (.cells (AD q))] fun _=>bi 28 (gn fun g0=>lF fun p=>ez AE [6,7] [1] p [0] (H0.g g0)) (gc (gi (gi (lG AE [0,4,2] (AF _ _ · m0 AB)))))) (gn fun g0=>lF fun p=>ez AE [6,7] [1] p [0] (H0.g g0))
theorem NL {n:Nat} {q:AA} {pos:List Int} {level:Int} {r:(List Int)×Int} (h:PL n q pos level=some r):EQ 22 [.agg 5 (L1 (AD q)),.ints pos,.i level] [] (.tup 2 (L1 [.ints r.1,.i r.2])) [] true:=by
 refine ot Tryz.func22 fun B N=>?_
 revert r;apply gO;exact cf aM [some (.cells (AD q)),some (.cells [.ints pos])] fun y1=>bi 15 (lF fun p=>el AE [6,7] [] p [] H0 [.nils,.i y1] (AS.tupL (l:=[.nils,.i y1]) (l':=[.ints ([]:List Int),.i y1]) rfl ⟨AS.ints_nil,BQ,trivial⟩)) (cf fW [some (.cells (AD q)),some (.cells [.ints pos])] fun _=>lN AE [1,0] ((xK B N q pos level n) _ _ · n Nat.le.refl))
def oH (n:Nat) (q:AA) (pos:List Int) (level:Int):Option (Bool×Int):=
 (J2 n q pos level).bind fun y1=>
  bif (y1.2==0) then
   (OM n y1.1 pos).bind fun y2=>
    some (y2,y1.2)
  else
   some (false,y1.2)
def OK (n:Nat) (q:AA) (pos:List Int) (level:Int):Option (Bool×Int):=oH n q pos level
theorem OJ {n:Nat} {q:AA} {pos:List Int} {level:Int} {r:Bool×Int} (h:OK n q pos level=some r):EQ 24 [.agg 5 (L1 (AD q)),.ints pos,.i level] [] (.tup 2 (L1 [.bool r.1,.i r.2])) [] true:=by
 unfold OK oH at h;refine ot Tryz.func24 fun B N=>?_
 revert r;apply gO;exact cf Gu [some (.cells (AD q))] fun _=>bi 17 (cf oT [some (.cells (AD q))] fun _=>lE AE [6,7] []) (lE AE [6,7] [])
end Go.Proofs.YtekkngkphejfcaaGreatDoor
namespace Go.Proofs.YtekkngkphejfcaaGreatDoor
open Go.RowKit
def AZ {T R:Type} (m:Nat -> T -> Option R) (a b:T):Prop:=∃ N S,∀ n,N<=n -> m (n+S) a=m n b
section
variable {T R:Type} {m:Nat -> T -> Option R} {a b c:T} {r:R} {Q:R -> Prop}
theorem AZ.refl:AZ m a a:=⟨0,0,fun _ _=>rfl⟩
theorem AZ.one (h: ∀ n,m (n+1) a=m n b):AZ m a b:=⟨0,1,fun n _=>h n⟩
theorem AZ.oneN (N:Nat) (h: ∀ n,N<=n -> m (n+1) a=m n b):AZ m a b:=⟨N,1,h⟩
theorem AZ.trans (h:AZ m a b) (h2:AZ m b c):AZ m a c:=by
 obtain ⟨N,S,h⟩:=h;obtain ⟨N2,S2,h2⟩:=h2;exact ⟨max N N2,S2+S,fun n hn=>by rw [←zDG,h _ (by omega),h2 _ (by omega)]⟩
theorem AZ.ev (h:AZ m a b) (h2:Ev (fun n=>m n b) r):Ev (fun n=>m n a) r:=by
 obtain ⟨N,S,h⟩:=h;obtain ⟨M,h2⟩:=h2;refine ⟨max N M+S,fun n hn=>?_⟩;have:=h (n-S) (by omega);rw [show n-S+S=n by omega] at this;exact this.trans (h2 (n-S) (by omega))
theorem AZ.pev (h:AZ m a b) (h2:AU (fun n=>m n b) Q):AU (fun n=>m n a) Q:=by
 obtain ⟨N,S,h⟩:=h;obtain ⟨M,h2⟩:=h2;refine ⟨max N M+S,fun n hn=>?_⟩;have:=h (n-S) (by omega);rw [show n-S+S=n by omega] at this;obtain ⟨r,h3,h4⟩:=h2 (n-S) (by omega);exact ⟨r,this.trans h3,h4⟩
theorem Ev.one (h: ∀ n,m (n+1) a=some r):Ev (fun n=>m n a) r:=⟨1,fun n hn=>by
 obtain ⟨k,rfl⟩: ∃ k,n=k+1:=⟨n-1,by omega⟩;exact h k⟩
theorem Ev.oneN (N:Nat) (h: ∀ n,N<=n -> m (n+1) a=some r):Ev (fun n=>m n a) r:=⟨N+1,fun n hn=>by
 obtain ⟨k,rfl⟩: ∃ k,n=k+1:=⟨n-1,by omega⟩;exact h k (by omega)⟩
theorem DK {S:Type} (st:Nat -> S -> T) (I:Nat -> S -> Prop) (len:Nat) (h: ∀ i s,i<len -> I i s -> ∃ s',I (i+1) s'/\ AZ m (st i s) (st (i+1) s')): ∀ (k i:Nat) (s:S),i+k=len -> I i s -> ∃ s',I len s'/\ AZ m (st i s) (st len s')
 | 0,i,s,e,hI=>by
  have:i=len:=by omega
  subst this;exact ⟨s,hI,AZ.refl⟩
 | k+1,i,s,e,hI=>by
  obtain ⟨s',h1,h2⟩:=h i s (by omega) hI;obtain ⟨s2,h3,h4⟩:=DK st I len h k (i+1) s' (by omega) h1;exact ⟨s2,h3,h2.trans h4⟩
end
end Go.Proofs.YtekkngkphejfcaaGreatDoor
namespace Go.Proofs.YtekkngkphejfcaaGreatDoor
open Go.RowKit
section
variable {q:AA} {level:Int} {p:List Int}
def FF (q:AA) (level:Int) (k:Nat):List Int:=((List.range k).filter fun i:Nat=>decide (GM (con q (i:Int)).kind<=level)).map fun i:Nat=>(i:Int)
def AX (q:AA) (level:Int):List Int:=FF q level q.cons.length
theorem qc {k:Nat}:FF q level (k+1)=FF q level k++if GM (con q (k:Int)).kind<=level then [(k:Int)] else []:=by
 unfold FF;rw [List.range_succ,List.filter_append,List.map_append]
 congr 1
 by_cases h:GM (con q (k:Int)).kind<=level
 ·rw [zAE h];simp [h]
 ·rw [zBP h];simp [h]
theorem Qt {k:Nat}:(FF q level k).length<=k:=by
 unfold FF;rw [zE4];exact zBO (zGl _ _) (zGu zFq)
theorem Jl {i:Int}:i∈AX q level↔Up q level i:=by
 unfold AX FF Up;rw [zFA];constructor
 ·rintro ⟨k,h,rfl⟩;rw [zFU,zBc,zBV] at h;exact ⟨by omega,by omega,h.2⟩
 ·rintro ⟨h0,h1,h2⟩;refine ⟨i.toNat,?_,by omega⟩;rw [zFU,zBc,zBV];have e:((i.toNat:Nat):Int)=i:=by omega
  exact ⟨by omega,by rw [e];exact h2⟩
def GB (acc:List Int) (k:Nat):Oe:=if acc= [] then .l1 (k:Int) else .l2 acc.length (k:Int) acc
theorem lr (hv:C2 q=true) {k:Nat} (hk:k<q.cons.length):Hz q (k:Int)=(GM (con q (k:Int)).kind,0):=by
 unfold Hz;rw [zBP (by rw [hv];exact fun h=>by cases h),zAE ⟨by omega,by omega⟩];rfl
theorem qe (hF:CP q) (hv:C2 q=true) {n k:Nat} (hn:EM q<=n) (hk:k<q.cons.length):GZ q level (n+1) (GB (FF q level k) k)=GZ q level n (GB (FF q level (k+1)) (k+1)):=by
 have h4:=(Dp hv).2.2.2.2.1;have AP:decide ((k:Int)<(q.cons.length:Int))=true:=zBC (by omega);have hr:AG ((k:Int)+1):=Ae.2 ⟨by omega,by omega⟩;have ek:((k+1:Nat):Int)=(k:Int)+1:=by omega
 rw [qc]
 by_cases ha:FF q level k= []
 ·rw [ha,zFD]
  show Qx n (GZ q level n) q level (k:Int)=_
  unfold Qx;rw [AP,zBA,aw hF hn,zA9,lr hv hk]
  show (bif decide (GM (con q (k:Int)).kind<=level) then _ else _)=_
  by_cases hl:GM (con q (k:Int)).kind<=level
  ·rw [zBC hl,zBA,zAE hl,zAE ⟨⟨⟨rfl,rfl⟩,Nat.one_pos,by unfold A7;simp⟩,hr⟩]
   show _=GZ q level n (GB [(k:Int)] (k+1))
   unfold GB;rw [zBP (by simp),ek]
  ·rw [zAA hl,zAD,zBP hl,zAE hr]
   show _=GZ q level n (GB [] (k+1))
   unfold GB;rw [zAE rfl,ek]
 ·have Ak:=Qt (q:=q) (level:=level) (k:=k);have e0:GB (FF q level k) k= .l2 (FF q level k).length (k:Int) (FF q level k):=by unfold GB;rw [zBP ha]
  rw [e0]
  show Qw n (GZ q level n) q level (FF q level k).length (k:Int) (FF q level k)=_
  unfold Qw;rw [AP,zBA,aw hF hn,zA9,lr hv hk]
  show (bif decide (GM (con q (k:Int)).kind<=level) then _ else _)=_
  by_cases hl:GM (con q (k:Int)).kind<=level
  ·rw [zBC hl,zBA,zAE hl,zAE ⟨⟨⟨rfl,rfl⟩,⟨rfl,rfl⟩,by unfold A7;simp;omega⟩,hr⟩];unfold GB;rw [zBP (by simp),ek,zCC]
  ·rw [zAA hl,zAD,zBP hl,zAE hr,zFV];unfold GB;rw [zBP ha,ek]
theorem fV (hF:CP q) (hv:C2 q=true):Ev (fun n=>Qy n q level) (AX q level):=by
 obtain ⟨_,_,h⟩:=DK (m:=GZ q level) (S:=Unit) (fun k _=>GB (FF q level k) k) (fun _ _=>True) q.cons.length (fun k s hk _=>⟨(),trivial,AZ.oneN (EM q) fun n hn=>qe hF hv hn hk⟩) q.cons.length 0 () (by omega) trivial;have h0:GB (FF q level 0) 0= .l1 0:=rfl;simp only [h0] at h;refine h.ev (Ev.one fun n=>?_);have AP:decide ((q.cons.length:Int)<(q.cons.length:Int))=false:=zAA (by omega)
 show GZ q level (n+1) (GB (AX q level) q.cons.length)=some (AX q level)
 by_cases ha:AX q level= []
 ·rw [ha]
  show Qx n (GZ q level n) q level (q.cons.length:Int)=_
  unfold Qx;rw [AP,zAD]
 ·have e0:GB (AX q level) q.cons.length= .l2 (AX q level).length (q.cons.length:Int) (AX q level):=by unfold GB;rw [zBP ha]
  rw [e0]
  show Qw n (GZ q level n) q level (AX q level).length (q.cons.length:Int) (AX q level)=_
  unfold Qw;rw [AP,zAD,zAE rfl]
end
structure QI (K:Nat) (ws:List Bool) (Q:List Int):Prop where
 len:ws.length=4096
 nd:Q.Nodup
 rng: ∀ i∈Q,0<=i/\ i<(K:Int)
 iff: ∀ i:Nat,i<4096 -> (ws.getD i false=true↔(i:Int)∈Q)
section
variable {K o n:Nat} {ws:List Bool} {Q l qu:List Int} {v:Int}
theorem QI.le (h:QI K ws Q):Q.length<=K:=PP K Q h.nd h.rng
theorem QI.push (h:QI K ws Q) (hK:K<=4096) (h0:0<=v) (h1:v<(K:Int)) (hw:ws.getD v.toNat false=false):QI K (ws.set v.toNat true) (Q++[v]):=by
 have hv:v∉Q:=fun hm=>by
  have e:((v.toNat:Nat):Int)=v:=by omega
  have:=(h.iff v.toNat (by omega)).2 (by rw [e];exact hm);rw [hw] at this;cases this
 refine ⟨by rw [zBo];exact h.len,List.nodup_append.2 ⟨h.nd,by simp,fun a ha b hb=>by rintro rfl;simp at hb;subst hb;exact hv ha⟩,fun i hi=>?_,fun i hi=>?_⟩
 ·rcases zB5.1 hi with hi | hi
  ·exact h.rng i hi
  ·simp at hi;subst hi;exact ⟨h0,h1⟩
 ·rw [zB5,zBm,←h.iff i hi,u8,zCb,u8];have hl:v.toNat<ws.length:=by rw [h.len];omega
  by_cases e:v.toNat=i
  ·rw [zAE e,zAE hl];constructor
   ·intro _;exact .inr (by omega)
   ·intro _;rfl
  ·rw [zBP e];constructor
   ·exact .inl
   ·rintro (h | h)
    ·exact h
    ·omega
theorem QI.pop (h:QI K ws (v::Q)) (hK:K<=4096):QI K (ws.set v.toNat false) Q:=by
 obtain ⟨hv,Av⟩:=zGU.1 h.nd;have hr:=h.rng v (by simp);refine ⟨by rw [zBo];exact h.len,Av,fun i hi=>h.rng i (by simp [hi]),fun i hi=>?_⟩;have hl:v.toNat<ws.length:=by rw [h.len];omega
 rw [u8,zCb]
 by_cases e:v.toNat=i
 ·rw [zAE e,zAE hl];constructor
  ·intro hx;cases hx
  ·intro hx;have:((i:Nat):Int)=v:=by omega
   rw [this] at hx;exact absurd hx hv
 ·rw [zBP e,←u8,h.iff i hi,zCB];constructor
  ·rintro (hx | hx)
   ·omega
   ·exact hx
  ·exact .inr
structure MQ (K:Nat) (ws:List Bool) (o n:Nat) (qu Q:List Int):Prop where
 sum:o+n=qu.length
 eq:qu.drop o=Q
 qi:QI K ws Q
theorem MQ.cnt (h:MQ K ws o n qu Q):n=Q.length:=by rw [←h.eq,zGP];have:=h.sum;omega
theorem zEu (hK:K<=4096) (hl: ∀ v∈l,0<=v/\ v<(K:Int)) (Ak:l.length<=LB) (h:MQ K ws o n qu Q):
 ∃ Bg o' n' Cr Q',Ev (fun m=>K4 m l ws o n qu) (Bg,o',n',Cr)/\ MQ K Bg o' n' Cr Q'/\ ∀ i,i∈Q'↔i∈Q∨i∈l:=by
 obtain ⟨⟨Bg,o',n',Cr,Q'⟩,⟨h1,h2⟩,h3⟩:=DK (m:=OZ l ws o n qu) (S:=List Bool×Nat×Nat×List Int×List Int) (fun j s=>.l1 (j:Int) s.1 s.2.1 s.2.2.1 s.2.2.2.1) (fun j s=>MQ K s.1 s.2.1 s.2.2.1 s.2.2.2.1 s.2.2.2.2/\ ∀ i,i∈s.2.2.2.2↔i∈Q∨i∈l.take j) l.length (fun j s hj hI=>by
  obtain ⟨CQ,o1,n1,Jc,Q1⟩:=s;obtain ⟨hM,CA⟩:=hI;have hM:MQ K CQ o1 n1 Jc Q1:=hM;have CA: ∀ i,i∈Q1↔i∈Q∨i∈l.take j:=CA;have AP:decide ((j:Int)<(l.length:Int))=true:=zBC (by omega);have hr:AG ((j:Int)+1):=Ae.2 ⟨by omega,by unfold LB at Ak;omega⟩;have ej:((j+1:Nat):Int)=(j:Int)+1:=by omega
  have Dt:l.getD j 0∈l:=by rw [u8,zBD hj];exact zB0 hj
  obtain ⟨Jo,Bn⟩:=hl _ Dt;have Nu:l.take (j+1)=l.take j++[l.getD j 0]:=by rw [zFR hj];simp [hj]
  have hg:(0<=(j:Int)/\ (j:Int)<(l.length:Int))/\ (0<=l.getD ((j:Int)).toNat 0/\ l.getD ((j:Int)).toNat 0<((4096:Nat):Int))/\ 0+(l.getD ((j:Int)).toNat 0).toNat<CQ.length:=by
   rw [zAB,hM.qi.len];omega
  cases hw:CQ.getD (l.getD j 0).toNat false with
  | false=>
   have BV:=hM.qi.le;have hn:=hM.cnt;refine ⟨(CQ.set (l.getD j 0).toNat true,0,n1+1,Q1++[l.getD j 0],Q1++[l.getD j 0]),⟨⟨by simp;omega,rfl,hM.qi.push hK Jo Bn hw⟩,fun i=>?_⟩,AZ.one fun m=>?_⟩
   ·show i∈Q1++[l.getD j 0]↔_
    rw [Nu,zB5,zB5,CA i];constructor
    ·rintro ((h | h) | h)
     ·exact .inl h
     ·exact .inr (.inl h)
     ·exact .inr (.inr h)
    ·rintro (h | h | h)
     ·exact .inl (.inl h)
     ·exact .inl (.inr h)
     ·exact .inr h
   ·show Oa m (OZ l ws o n qu m) l ws o n qu (j:Int) CQ o1 n1 Jc=_
    unfold Oa;rw [AP,zBA,zAE hg,zAB,zBj,hw,zCN,zBA,zAE ⟨hM.sum,by unfold A7;simp;omega,hr⟩,hM.eq,ej];rfl
  | true=>
   refine ⟨(CQ,o1,n1,Jc,Q1),⟨hM,fun i=>?_⟩,AZ.one fun m=>?_⟩
   ·show i∈Q1↔_
    have Bw:l.getD j 0∈Q1:=by
     have e:(((l.getD j 0).toNat:Nat):Int)=l.getD j 0:=by omega
     have:=(hM.qi.iff (l.getD j 0).toNat (by omega)).1 hw;rw [e] at this;exact this
    rw [Nu,zB5,CA i];constructor
    ·rintro (h | h)
     ·exact .inl h
     ·exact .inr (.inl h)
    ·rintro (h | h | h)
     ·exact .inl h
     ·exact .inr h
     ·rw [zBm] at h;subst h;exact (CA _).1 Bw
   ·show Oa m (OZ l ws o n qu m) l ws o n qu (j:Int) CQ o1 n1 Jc=_
    unfold Oa;rw [AP,zBA,zAE hg,zAB,zBj,hw,zCJ,zAD,zAE hr,ej]) l.length 0 (ws,o,n,qu,Q) (by omega) ⟨h,fun i=>by simp⟩
 refine ⟨Bg,o',n',Cr,Q',h3.ev (Ev.one fun m=>?_),h1,fun i=>by have:=h2 i;simpa using this⟩;have AP:decide ((l.length:Int)<(l.length:Int))=false:=zAA (by omega)
 show Oa m (OZ l ws o n qu m) l ws o n qu (l.length:Int) Bg o' n' Cr=_
 unfold Oa;rw [AP,zAD]
def Fr (j:Nat) (s:List Bool×List Int):Qg:=if s.2= [] then .l1 (j:Int) else .l2 (j:Int) s.1 s.2.length s.2
theorem qI (hK:K<=4096) (hl: ∀ v∈l,0<=v/\ v<(K:Int)) (Ak:l.length<=LB) (h:QI K ws []):
 ∃ Bg Q',Ev (fun m=>MT m l ws) (Bg,0,Q'.length,Q',decide (Q'= []))/\ QI K Bg Q'/\ ∀ i,i∈Q'↔i∈l:=by
 obtain ⟨⟨Bg,Q'⟩,⟨h1,h2,h4⟩,h3⟩:=DK (m:=II l ws) (S:=List Bool×List Int) (fun j s=>Fr j s) (fun j s=>QI K s.1 s.2/\ (∀ i,i∈s.2↔i∈l.take j)/\ (s.2= [] -> s.1=ws)) l.length (fun j s hj hI=>by
  obtain ⟨CQ,Q1⟩:=s;obtain ⟨hM,CA,W6⟩:=hI;have hM:QI K CQ Q1:=hM;have CA: ∀ i,i∈Q1↔i∈l.take j:=CA;have W6:Q1= [] -> CQ=ws:=W6;have AP:decide ((j:Int)<(l.length:Int))=true:=zBC (by omega);have hr:AG ((j:Int)+1):=Ae.2 ⟨by omega,by unfold LB at Ak;omega⟩;have ej:((j+1:Nat):Int)=(j:Int)+1:=by omega
  have Dt:l.getD j 0∈l:=by rw [u8,zBD hj];exact zB0 hj
  obtain ⟨Jo,Bn⟩:=hl _ Dt;have Nu:l.take (j+1)=l.take j++[l.getD j 0]:=by rw [zFR hj];simp [hj]
  have hg:(0<=(j:Int)/\ (j:Int)<(l.length:Int))/\ (0<=l.getD ((j:Int)).toNat 0/\ l.getD ((j:Int)).toNat 0<((4096:Nat):Int))/\ 0+(l.getD ((j:Int)).toNat 0).toNat<CQ.length:=by
   rw [zAB,hM.len];omega
  have BV:=hM.le;cases hw:CQ.getD (l.getD j 0).toNat false with
  | false=>
   refine ⟨(CQ.set (l.getD j 0).toNat true,Q1++[l.getD j 0]),⟨hM.push hK Jo Bn hw,fun i=>?_,fun e=>by simp at e⟩,AZ.one fun m=>?_⟩
   ·show i∈Q1++[l.getD j 0]↔_
    rw [Nu,zB5,zB5,CA i]
   ·have e2:Fr (j+1) (CQ.set (l.getD j 0).toNat true,Q1++[l.getD j 0])= .l2 ((j:Int)+1) (CQ.set (l.getD j 0).toNat true) (Q1.length+1) (Q1++[l.getD j 0]):=by
     unfold Fr;rw [zBP (by simp),ej,zCC];rfl
    rw [e2]
    by_cases hq:Q1= []
    ·have e1:Fr j (CQ,Q1)= .l1 (j:Int):=by unfold Fr;rw [zAE hq]
     rw [e1];have:=W6 hq;subst this;subst hq
     show Ue m (II l CQ m) l CQ (j:Int)=_
     unfold Ue;rw [AP,zBA,zAE hg,zAB,zBj,hw,zCN,zBA,zAE ⟨⟨⟨rfl,rfl⟩,Nat.one_pos,by unfold A7;simp⟩,hr⟩];rfl
    ·have e1:Fr j (CQ,Q1)= .l2 (j:Int) CQ Q1.length Q1:=by unfold Fr;rw [zBP hq]
     rw [e1]
     show OY m (II l ws m) l ws (j:Int) CQ Q1.length Q1=_
     unfold OY;rw [AP,zBA,zAE hg,zAB,zBj,hw,zCN,zBA,zAE ⟨by omega,by unfold A7;simp;omega,hr⟩];rfl
  | true=>
   have Bw:l.getD j 0∈Q1:=by
    have e:(((l.getD j 0).toNat:Nat):Int)=l.getD j 0:=by omega
    have:=(hM.iff (l.getD j 0).toNat (by omega)).1 hw;rw [e] at this;exact this
   have hq:Q1≠[]:=fun e=>by rw [e] at Bw;cases Bw
   refine ⟨(CQ,Q1),⟨hM,fun i=>?_,W6⟩,AZ.one fun m=>?_⟩
   ·show i∈Q1↔_
    rw [Nu,zB5,←CA i];constructor
    ·exact .inl
    ·rintro (h | h)
     ·exact h
     ·rw [zBm] at h;subst h;exact Bw
   ·have e1:Fr j (CQ,Q1)= .l2 (j:Int) CQ Q1.length Q1:=by unfold Fr;rw [zBP hq]
    have e2:Fr (j+1) (CQ,Q1)= .l2 ((j:Int)+1) CQ Q1.length Q1:=by unfold Fr;rw [zBP hq,ej]
    rw [e1,e2]
    show OY m (II l ws m) l ws (j:Int) CQ Q1.length Q1=_
    unfold OY;rw [AP,zBA,zAE hg,zAB,zBj,hw,zCJ,zAD,zAE hr]) l.length 0 (ws,[]) (by omega) ⟨h,fun i=>by simp,fun _=>rfl⟩
 have h2: ∀ i,i∈Q'↔i∈l:=fun i=>by have:=h2 i;simpa using this
 have h4:Q'= [] -> Bg=ws:=h4;refine ⟨Bg,Q',?_,h1,h2⟩;have e0:II l ws=II l ws:=rfl;have AP:decide ((l.length:Int)<(l.length:Int))=false:=zAA (by omega);refine AZ.ev (a:=Fr 0 (ws,[])) h3 (Ev.one fun m=>?_)
 by_cases hq:Q'= []
 ·have e1:Fr l.length (Bg,Q')= .l1 (l.length:Int):=by unfold Fr;rw [zAE hq]
  have:=h4 hq;subst this;rw [e1,hq]
  show Ue m (II l Bg m) l Bg (l.length:Int)=_
  unfold Ue;rw [AP,zAD];rfl
 ·have e1:Fr l.length (Bg,Q')= .l2 (l.length:Int) Bg Q'.length Q':=by unfold Fr;rw [zBP hq]
  rw [e1,zAA hq]
  show OY m (II l ws m) l ws (l.length:Int) Bg Q'.length Q'=_
  unfold OY;rw [AP,zAD]
end
end Go.Proofs.YtekkngkphejfcaaGreatDoor
namespace Go.Proofs.YtekkngkphejfcaaGreatDoor
open Go.RowKit
def Ma (q:AA) (level:Int) (p g:List Int):Prop:=(Bi p=true/\ g=List.replicate p.length 0)∨(Bi p=false/\ DZ q (Up q level) p g/\ Hc q (Up q level) g)
structure OF (q:AA) (level:Int) (f:Int -> List Int) (T:Nat):Prop where
 snd: ∀ c i,i∈f c -> Up q level i
 len: ∀ c,(f c).length<=T
section
variable {q:AA} {level:Int} {p cells:List Int} {f:Int -> List Int}
theorem Ma.uniq (hp:BZ q p) {g g':List Int} (h:Ma q level p g) (h':Ma q level p g'):g=g':=by
 rcases h with ⟨h1,h2⟩ | ⟨h1,h2,h3⟩
 ·rcases h' with ⟨h4,h5⟩ | ⟨h4,_,_⟩
  ·rw [h2,h5]
  ·rw [h1] at h4;cases h4
 ·rcases h' with ⟨h4,_⟩ | ⟨_,h5,h6⟩
  ·rw [h1] at h4;cases h4
  ·exact DZ.uniq fU hp h2 h5 h3 h6
theorem Ur {a:Nat} (ha:a<(AX q level).length):Up q level ((AX q level).getD a 0):=by
 refine Jl.1 ?_;rw [u8,zBD ha];exact zB0 ha
theorem zDr (hv:C2 q=true) {i:Int} (h:Up q level i):(∀ x∈(con q i).cells,0<=x/\ x<q.cells)/\ (con q i).cells.length<=256:=by
 have hm:con q i∈q.cons:=by
  have h0:=h.1;have h1:=h.2.1;unfold con;rw [u8,zBD (by omega)];exact zB0 _
 have hf:=(Dp hv).2.2.2.2.2 _ hm;unfold DA at hf;simp only [zBE] at hf;obtain ⟨h1,h2,_⟩:=dq.1 hf.1.1.1.1.1;have h3:=(Dp hv).1;refine ⟨h1,?_⟩;have:=PP q.cells.toNat _ h2 fun x hx=>by have:=h1 x hx;omega
 omega
theorem xO (hv:C2 q=true) {a:Nat} (ha:a<(AX q level).length) {T:Nat} (hT:T<=2000000) (hO:OF q level f T):
 ∃ f',AZ (Br q p cells level) (.l2 (AX q level) ((AX q level).getD a 0) (AX q level) ((AX q level).length:Int) (a:Int) (con q ((AX q level).getD a 0)).cells ((con q ((AX q level).getD a 0)).cells.length:Int) 0 f) (.l1 (AX q level) (AX q level) ((AX q level).length:Int) ((a+1:Nat):Int) f')/\
  OF q level f' (T+256)/\ (∀ c i,i∈f c -> i∈f' c)/\ ∀ c∈(con q ((AX q level).getD a 0)).cells,(AX q level).getD a 0∈f' c:=by
 have hU:=Ur ha;obtain ⟨XU,Iv⟩:=zDr hv hU;have Ns:(AX q level).length<=4096:=zBO Qt (Dp hv).2.2.2.2.1
 generalize (AX q level).getD a 0=i at hU XU Iv ⊢
 generalize (con q i).cells=cs at XU Iv ⊢
 obtain ⟨f',⟨h1,h2,h3⟩,h4⟩:=DK (m:=Br q p cells level) (S:=Int -> List Int) (fun b f=>.l2 (AX q level) i (AX q level) ((AX q level).length:Int) (a:Int) cs (cs.length:Int) (b:Int) f) (fun b g=>OF q level g (T+b)/\ (∀ c i,i∈f c -> i∈g c)/\ ∀ c∈cs.take b,i∈g c) cs.length (fun b g hb hI=>by
  obtain ⟨hg,hs,hd⟩:=hI;have AP:decide ((b:Int)<(cs.length:Int))=true:=zBC (by omega);have hr:AG ((b:Int)+1):=Ae.2 ⟨by omega,by omega⟩;have eb:((b+1:Nat):Int)=(b:Int)+1:=by omega
  have Nu:cs.take (b+1)=cs.take b++[cs.getD b 0]:=by rw [zFR hb];simp [hb]
  refine ⟨G3 g (cs.getD b 0) (g (cs.getD b 0)++[i]),⟨⟨fun c j hj=>?_,fun c=>?_⟩,fun c j hj=>?_,fun c hc=>?_⟩,AZ.one fun m=>?_⟩
  ·unfold G3 at hj;split at hj
   ·rcases zB5.1 hj with hj | hj
    ·exact hg.snd _ _ hj
    ·rw [zBm] at hj;subst hj;exact hU
   ·exact hg.snd _ _ hj
  ·unfold G3;split
   ·rw [zCC,zCI];have:=hg.len (cs.getD b 0);omega
   ·have:=hg.len c;omega
  ·unfold G3;split
   ·rename_i e;subst e;exact zCO _ (hs _ _ hj)
   ·exact hs _ _ hj
  ·rw [Nu,zB5,zBm] at hc;unfold G3;split
   ·exact zDB _ (by simp)
   ·rename_i AY;rcases hc with hc | hc
    ·exact hd c hc
    ·exact absurd hc AY
  ·show SY m (Br q p cells level m) q p cells level (AX q level) i (AX q level) ((AX q level).length:Int) (a:Int) cs (cs.length:Int) (b:Int) g=_
   unfold SY;rw [AP,zBA,zAB,zAE ⟨by omega,by have:=hg.len (cs.getD b 0);unfold A7;rw [zCI];omega,hr⟩,eb]) cs.length 0 f (by omega) ⟨hO,fun c i h=>h,fun c hc=>by simp at hc⟩
 refine ⟨f',h4.trans (AZ.one fun m=>?_),⟨h1.snd,fun c=>zBO (h1.len c) (by omega)⟩,h2,fun c hc=>h3 c (by simpa using hc)⟩;have AP:decide ((cs.length:Int)<(cs.length:Int))=false:=zAA (by omega);have hr:AG ((a:Int)+1):=Ae.2 ⟨by omega,by omega⟩
 show SY m (Br q p cells level m) q p cells level (AX q level) i (AX q level) ((AX q level).length:Int) (a:Int) cs (cs.length:Int) (cs.length:Int) f'=_
 unfold SY;rw [AP,zAD,zAE hr,show ((a+1:Nat):Int)=(a:Int)+1 by omega]
theorem xP (hv:C2 q=true):
 ∃ f',AZ (Br q p cells level) (.l1 (AX q level) (AX q level) ((AX q level).length:Int) 0 (fun _=>[])) (.l3 (AX q level) 0 f' (List.replicate 4096 false))/\ OF q level f' 2000000/\ ∀ i,Up q level i -> ∀ c∈(con q i).cells,i∈f' c:=by
 have Ns:(AX q level).length<=4096:=zBO Qt (Dp hv).2.2.2.2.1
 obtain ⟨f',⟨h1,h2⟩,h3⟩:=DK (m:=Br q p cells level) (S:=Int -> List Int) (fun a f=>.l1 (AX q level) (AX q level) ((AX q level).length:Int) (a:Int) f) (fun a g=>OF q level g (256*a)/\ ∀ a',a'<a -> ∀ c∈(con q ((AX q level).getD a' 0)).cells,(AX q level).getD a' 0∈g c) (AX q level).length (fun a g ha hI=>by
  obtain ⟨hg,hd⟩:=hI;obtain ⟨g',e1,e2,e3,e4⟩:=xO (p:=p) (cells:=cells) hv ha (by omega) hg;have hU:=Ur ha;have AP:decide ((a:Int)<((AX q level).length:Int))=true:=zBC (by omega);refine ⟨g',⟨⟨e2.snd,fun c=>zBO (e2.len c) (by omega)⟩,fun a' Iy c hc=>?_⟩,AZ.trans (AZ.one fun m=>?_) e1⟩
  ·by_cases e:a'=a
   ·subst e;exact e4 c hc
   ·exact e3 _ _ (hd a' (by omega) c hc)
  ·show SZ m (Br q p cells level m) q p cells level (AX q level) (AX q level) ((AX q level).length:Int) (a:Int) g=_
   unfold SZ;rw [AP,zBA,zAB,zAE ⟨by omega,hU.1,hU.2.1⟩];rfl) (AX q level).length 0 (fun _=>[]) (by omega) ⟨⟨fun c i h=>(by cases h),fun c=>zBa 0⟩,fun a' Iy=>absurd Iy (zBW _)⟩
 refine ⟨f',h3.trans (AZ.one fun m=>?_),⟨h1.snd,fun c=>zBO (h1.len c) (by omega)⟩,fun i hi c hc=>?_⟩
 ·have AP:decide (((AX q level).length:Int)<((AX q level).length:Int))=false:=zAA (by omega)
  show SZ m (Br q p cells level m) q p cells level (AX q level) (AX q level) ((AX q level).length:Int) ((AX q level).length:Int) f'=_
  unfold SZ;rw [AP,zAD]
 ·obtain ⟨a,ha,e⟩:=zEz (Jl.2 hi);have e':(AX q level).getD a 0=i:=by rw [u8,zBD ha];exact e
  have:=h2 a ha c (by rw [e'];exact hc);rw [e'] at this;exact this
structure WQ (q:AA) (level:Int) (ws:List Bool) (o n:Nat) (qu Q:List Int):Prop where
 mq:MQ q.cons.length ws o n qu Q
 up: ∀ i∈Q,Up q level i
def gh (q:AA) (level:Int) (f:Int -> List Int) (j:Nat) (s:List Bool×Option (Nat×Nat×List Int)):Ic:=match s.2 with
 | none=>.l3 (AX q level) (j:Int) f s.1
 | some (o,n,qu)=>.l4 (AX q level) (j:Int) f s.1 o n qu
def IC (q:AA) (level:Int) (s:List Bool×Option (Nat×Nat×List Int)):Prop:=match s.2 with
 | none=>QI q.cons.length s.1 []
 | some (o,n,qu)=>∃ Q,WQ q level s.1 o n qu Q
theorem Yr {l:List Int} (h: ∀ i∈l,Up q level i): ∀ i∈l,0<=i/\ i<(q.cons.length:Int):=fun i hi=>⟨(h i hi).1,(h i hi).2.1⟩
theorem WQ.add (hK:q.cons.length<=4096) {ws:List Bool} {o n:Nat} {qu Q l:List Int} (h:WQ q level ws o n qu Q) (hl: ∀ i∈l,Up q level i) (Ak:l.length<=LB):
 ∃ Bg o' n' Cr Q',Ev (fun m=>K4 m l ws o n qu) (Bg,o',n',Cr)/\ WQ q level Bg o' n' Cr Q'/\ ∀ i,i∈Q'↔i∈Q∨i∈l:=by
 obtain ⟨Bg,o',n',Cr,Q',h1,h2,h3⟩:=zEu hK (Yr hl) Ak h.mq;exact ⟨Bg,o',n',Cr,Q',h1,⟨h2,fun i hi=>((h3 i).1 hi).elim (h.up i) (hl i)⟩,h3⟩
theorem zD3 (hv:C2 q=true) (BU:cells.length<=LB) (hO:OF q level f 2000000):
 ∃ s',IC q level s'/\ AZ (Br q p cells level) (.l3 (AX q level) 0 f (List.replicate 4096 false)) (gh q level f cells.length s'):=by
 have hK:=(Dp hv).2.2.2.2.1
 obtain ⟨s',h1,h2⟩:=DK (m:=Br q p cells level) (S:=List Bool×Option (Nat×Nat×List Int)) (gh q level f) (fun _ s=>IC q level s) cells.length (fun j s hj hI=>by
  have AP:decide ((j:Int)<(cells.length:Int))=true:=zBC (by omega);have hr:AG ((j:Int)+1):=Ae.2 ⟨by omega,by unfold LB at BU;omega⟩;have ej:((j+1:Nat):Int)=(j:Int)+1:=by omega
  have cd:(f (cells.getD j 0)).length<=LB:=zBO (hO.len _) (by decide);have Ly: ∀ i∈f (cells.getD j 0),Up q level i:=fun i hi=>hO.snd _ i hi
  obtain ⟨ws,st⟩:=s;cases st with
  | none=>
   have hI:QI q.cons.length ws []:=hI;obtain ⟨Bg,Q',⟨N,e1⟩,e2,e3⟩:=qI hK (Yr Ly) cd hI;have e1: ∀ m,N<=m -> MT m (f (cells.getD j 0)) ws=some (Bg,0,Q'.length,Q',decide (Q'= [])):=e1
   by_cases hQ:Q'= []
   ·refine ⟨(Bg,none),by rw [hQ] at e2;exact e2,AZ.oneN N fun m hm=>?_⟩
    show Kb m (Br q p cells level m) q p cells level (AX q level) (j:Int) f ws=Br q p cells level m (.l3 (AX q level) ((j+1:Nat):Int) f Bg)
    unfold Kb;rw [AP,zBA,zAE (by omega),zAB,e1 m hm,zA9,zBC hQ]
    show (if AG ((j:Int)+1) then _ else _)=_
    rw [zAE hr,ej]
   ·refine ⟨(Bg,some (0,Q'.length,Q')),⟨Q',⟨⟨by omega,rfl,e2⟩,fun i hi=>Ly i ((e3 i).1 hi)⟩⟩,AZ.oneN N fun m hm=>?_⟩
    show Kb m (Br q p cells level m) q p cells level (AX q level) (j:Int) f ws=Br q p cells level m (.l4 (AX q level) ((j+1:Nat):Int) f Bg 0 Q'.length Q')
    unfold Kb;rw [AP,zBA,zAE (by omega),zAB,e1 m hm,zA9,zAA hQ]
    show (if AG ((j:Int)+1) then _ else _)=_
    rw [zAE hr,ej]
  | some s1=>
   obtain ⟨o,n,qu⟩:=s1;obtain ⟨Q,hW⟩:=(hI: ∃ Q,WQ q level ws o n qu Q);have hW:WQ q level ws o n qu Q:=hW;obtain ⟨Bg,o',n',Cr,Q',⟨N,e1⟩,e2,_⟩:=hW.add hK Ly cd;have e1: ∀ m,N<=m -> K4 m (f (cells.getD j 0)) ws o n qu=some (Bg,o',n',Cr):=e1;refine ⟨(Bg,some (o',n',Cr)),⟨Q',e2⟩,AZ.oneN N fun m hm=>?_⟩
   show SX m (Br q p cells level m) q p cells level (AX q level) (j:Int) f ws o n qu=Br q p cells level m (.l4 (AX q level) ((j+1:Nat):Int) f Bg o' n' Cr)
   unfold SX;rw [AP,zBA,zAE (by omega),zAB,e1 m hm,zA9]
   show (if AG ((j:Int)+1) then _ else _)=_
   rw [zAE hr,ej]) cells.length 0 (List.replicate 4096 false,none) (by omega) (by
  refine ⟨zCD,List.nodup_nil,fun i hi=>(by cases hi),fun i hi=>⟨fun h=>?_,fun h=>(by cases h)⟩⟩;rw [u8,zE7,zAE hi] at h;cases h)
 exact ⟨s',h1,h2⟩
theorem zEK (hv:C2 q=true) (BU:cells.length<=LB):
 ∃ f,OF q level f 2000000/\ (∀ i,Up q level i -> ∀ c∈(con q i).cells,i∈f c)/\ ((AZ (Br q p cells level) (.l1 (AX q level) (AX q level) ((AX q level).length:Int) 0 (fun _=>[])) (.l5 f (List.replicate 4096 false))∨
  (∃ ws,AZ (Br q p cells level) (.l1 (AX q level) (AX q level) ((AX q level).length:Int) 0 (fun _=>[])) (.l5 f ws)))/\ (∀ i,¬ Up q level i)∨
  ∃ ws o n qu Q,WQ q level ws o n qu Q/\ (∀ i,Up q level i -> i∈Q)/\ AZ (Br q p cells level) (.l1 (AX q level) (AX q level) ((AX q level).length:Int) 0 (fun _=>[])) (.l6 p f ws o n qu)):=by
 have hK:=(Dp hv).2.2.2.2.1;obtain ⟨f,g1,g2,g3⟩:=xP (q:=q) (level:=level) (p:=p) (cells:=cells) hv;obtain ⟨⟨ws,st⟩,h1,h2⟩:=zD3 (p:=p) hv BU g2;have h2:=g1.trans h2;have Ns:(AX q level).length<=LB:=zBO Qt (zBO hK (by decide));have AP:decide ((cells.length:Int)<(cells.length:Int))=false:=zAA (by omega);refine ⟨f,g2,g3,?_⟩;cases st with
 | none=>
  have h1:QI q.cons.length ws []:=h1;obtain ⟨Bg,Q',⟨N,e1⟩,e2,e3⟩:=qI hK (Yr fun i hi=>Jl.1 hi) Ns h1;have e1: ∀ m,N<=m -> MT m (AX q level) ws=some (Bg,0,Q'.length,Q',decide (Q'= [])):=e1
  by_cases hQ:Q'= []
  ·refine .inl ⟨.inr ⟨Bg,h2.trans (AZ.oneN N fun m hm=>?_)⟩,fun i hi=>by have:=(e3 i).2 (Jl.2 hi);rw [hQ] at this;cases this⟩
   show Kb m (Br q p cells level m) q p cells level (AX q level) (cells.length:Int) f ws=_
   unfold Kb;rw [AP,zAD,e1 m hm,zA9,zBC hQ];rfl
  ·refine .inr ⟨Bg,0,Q'.length,Q',Q',⟨⟨by omega,rfl,e2⟩,fun i hi=>Jl.1 ((e3 i).1 hi)⟩,fun i hi=>(e3 i).2 (Jl.2 hi),h2.trans (AZ.oneN N fun m hm=>?_)⟩
   show Kb m (Br q p cells level m) q p cells level (AX q level) (cells.length:Int) f ws=_
   unfold Kb;rw [AP,zAD,e1 m hm,zA9,zAA hQ];rfl
 | some s1=>
  obtain ⟨o,n,qu⟩:=s1;obtain ⟨Q,hW⟩:=(h1: ∃ Q,WQ q level ws o n qu Q);have hW:WQ q level ws o n qu Q:=hW;obtain ⟨Bg,o',n',Cr,Q',⟨N,e1⟩,e2,e3⟩:=hW.add hK (fun i hi=>Jl.1 hi) Ns;have e1: ∀ m,N<=m -> K4 m (AX q level) ws o n qu=some (Bg,o',n',Cr):=e1;refine .inr ⟨Bg,o',n',Cr,Q',e2,fun i hi=>(e3 i).2 (.inr (Jl.2 hi)),h2.trans (AZ.oneN N fun m hm=>?_)⟩
  show SX m (Br q p cells level m) q p cells level (AX q level) (cells.length:Int) f ws o n qu=_
  unfold SX;rw [AP,zAD,e1 m hm,zA9]
end
end Go.Proofs.YtekkngkphejfcaaGreatDoor
namespace Go.Proofs.YtekkngkphejfcaaGreatDoor
open Go.RowKit
section
variable {q:AA} {level:Int} {pos p x cells:List Int} {f:Int -> List Int}
theorem zD1 (hv:C2 q=true) (hO:OF q level f 2000000) (hl:x.length=p.length) (hp:p.length<=256) {ws:List Bool} {o n:Nat} {qu Q:List Int} (h:WQ q level ws o n qu Q):
 ∃ Bg o' n' Cr Q',WQ q level Bg o' n' Cr Q'/\ (∀ i∈Q,i∈Q')/\ (∀ c,c<p.length -> x.getD c 0≠p.getD c 0 -> ∀ i∈f (c:Int),i∈Q')/\ ((∀ c,c<p.length -> x.getD c 0=p.getD c 0) -> Q'=Q)/\
  AZ (Br q pos cells level) (.l7 p x (x.length:Int) 0 f ws o n qu) (.l6 x f Bg o' n' Cr):=by
 have hK:=(Dp hv).2.2.2.2.1
 obtain ⟨⟨Bg,o',n',Cr,Q'⟩,⟨h1,h2,h3,h4⟩,h5⟩:=DK (m:=Br q pos cells level) (S:=List Bool×Nat×Nat×List Int×List Int) (fun c s=>.l7 p x (x.length:Int) (c:Int) f s.1 s.2.1 s.2.2.1 s.2.2.2.1)
  (fun c s=>WQ q level s.1 s.2.1 s.2.2.1 s.2.2.2.1 s.2.2.2.2/\ (∀ i∈Q,i∈s.2.2.2.2)/\ (∀ c',c'<c -> x.getD c' 0≠p.getD c' 0 -> ∀ i∈f (c':Int),i∈s.2.2.2.2)/\ ((∀ c',c'<c -> x.getD c' 0=p.getD c' 0) -> s.2.2.2.2=Q)) p.length (fun c s hc hI=>by
  obtain ⟨CQ,o1,n1,Jc,Q1⟩:=s;obtain ⟨hW,hs,hd,he⟩:=hI;have hW:WQ q level CQ o1 n1 Jc Q1:=hW;have hs: ∀ i∈Q,i∈Q1:=hs;have hd: ∀ c',c'<c -> x.getD c' 0≠p.getD c' 0 -> ∀ i∈f (c':Int),i∈Q1:=hd;have he:(∀ c',c'<c -> x.getD c' 0=p.getD c' 0) -> Q1=Q:=he;have AP:decide ((c:Int)<(x.length:Int))=true:=zBC (by omega);have hr:AG ((c:Int)+1):=Ae.2 ⟨by omega,by omega⟩;have ec:((c+1:Nat):Int)=(c:Int)+1:=by omega
  by_cases hx:x.getD c 0=p.getD c 0
  ·refine ⟨(CQ,o1,n1,Jc,Q1),⟨hW,hs,fun c' H9 AY=>?_,fun h=>he fun c' H9=>h c' (by omega)⟩,AZ.one fun m=>?_⟩
   ·by_cases e:c'=c
    ·subst e;exact absurd hx AY
    ·exact hd c' (by omega) AY
   ·show ND m (Br q pos cells level m) q pos cells level p x (x.length:Int) (c:Int) f CQ o1 n1 Jc=_
    unfold ND;have hb:(x.getD c 0 != p.getD c 0)=false:=by rw [hx];simp
    rw [AP,zBA,zAE ⟨by omega,by omega⟩,zAB,hb,zAD,zAE hr,ec]
  ·have Ly: ∀ i∈f (c:Int),Up q level i:=fun i hi=>hO.snd _ i hi
   obtain ⟨Bg,o',n',Cr,Q',⟨N,e1⟩,e2,e3⟩:=hW.add hK Ly (zBO (hO.len _) (by decide));have e1: ∀ m,N<=m -> K4 m (f (c:Int)) CQ o1 n1 Jc=some (Bg,o',n',Cr):=e1;refine ⟨(Bg,o',n',Cr,Q'),⟨e2,fun i hi=>(e3 i).2 (.inl (hs i hi)),fun c' H9 AY i hi=>?_,fun h=>absurd (h c (by omega)) hx⟩,AZ.oneN N fun m hm=>?_⟩
   ·by_cases e:c'=c
    ·subst e;exact (e3 i).2 (.inr hi)
    ·exact (e3 i).2 (.inl (hd c' (by omega) AY i hi))
   ·show ND m (Br q pos cells level m) q pos cells level p x (x.length:Int) (c:Int) f CQ o1 n1 Jc=Br q pos cells level m (.l7 p x (x.length:Int) ((c+1:Nat):Int) f Bg o' n' Cr)
    unfold ND;have hb:(x.getD c 0 != p.getD c 0)=true:=by simpa using hx
    rw [AP,zBA,zAE ⟨by omega,by omega⟩,zAB,hb,zBA,e1 m hm,zA9]
    show (if AG ((c:Int)+1) then _ else _)=_
    rw [zAE hr,ec]) p.length 0 (ws,o,n,qu,Q) (by omega) ⟨h,fun i hi=>hi,fun c' H9=>absurd H9 (zBW _),fun _=>rfl⟩
 refine ⟨Bg,o',n',Cr,Q',h1,h2,h3,h4,h5.trans (AZ.one fun m=>?_)⟩;have AP:decide ((p.length:Int)<(x.length:Int))=false:=zAA (by omega)
 show ND m (Br q pos cells level m) q pos cells level p x (x.length:Int) (p.length:Int) f Bg o' n' Cr=_
 unfold ND;rw [AP,zAD]
structure eT (q:AA) (level:Int) (p0 p:List Int) (Q:List Int):Prop where
 pos:BZ q p
 down:DZ q (Up q level) p0 p
 zero:Bi p=true -> p=List.replicate p.length 0
 fix: ∀ i,Up q level i -> i∉Q -> PR q (con q i) p p
theorem PR.other {i:Int} (h:PR q (con q i) p x) (hd:Bi x=false) (C:BT q i p) {j:Nat} (hj: ∀ k,k<(con q i).cells.length -> ((con q i).cells.getD k 0).toNat≠j):x.getD j 0=p.getD j 0:=by
 have hA:Hd q (con q i) p:=Classical.byContradiction fun hA=>by
  have h0:=C.len256.1;have:=Fo.1 hd 0 (by rw [h.len];exact h0);rw [h.dead hA,K9] at this;exact this rfl
 by_cases TU:j<p.length
 ·refine Hi (h.live hA j TU).1 ((C.sm j TU).in64 (by have:=C.work.k;omega)) fun s _=>?_
  rw [zCM,(h.live hA j TU).2];exact ⟨fun hx=>hx.1,fun hx=>⟨hx,fun ⟨a,ha,e,_⟩=>hj a ha e⟩⟩
 ·rw [u8,u8,zCP (by rw [h.len];omega),zCP (by omega)]
theorem yE {a b:List Int} (hl:a.length=b.length) (h: ∀ c,c<b.length -> a.getD c 0=b.getD c 0):a=b:=by
 refine zF4 hl fun j h1 h2=>?_
 have:=h j h2;simpa [h1,h2] using this
theorem zB9 (hU: ∀ i,Up q level i -> ∀ c∈(con q i).cells,i∈f c) {v:Int} {Q1 Q':List Int} (hv:Up q level v) (h:eT q level pos p (v::Q1)) (hd:Bi p=false) (hx:PR q (con q v) p x) (hs: ∀ i∈Q1,i∈Q') (hc: ∀ c,c<p.length -> x.getD c 0≠p.getD c 0 -> ∀ i∈f (c:Int),i∈Q'):eT q level pos x Q':=by
 have Ip:BZ q x:=h.pos.pr hv.1 hv.2.1 hx;have hl:x.length=p.length:=hx.len;refine ⟨Ip,h.down.trans (DZ.one hv hx),fun OC=>by rw [hl];exact hx.zero OC,fun i hi hn=>?_⟩
 by_cases Pi:x=p
 ·subst Pi
  by_cases e:i=v
  ·subst e;exact hx
  ·refine h.fix i hi fun hm=>?_
   rcases zCB.1 hm with hm | hm
   ·exact e hm
   ·exact hn (hs i hm)
 ·cases OC:Bi x with
  | true=>
   have:=hx.zero OC;rw [this];exact kB h.pos.len256.1
  | false=>
   have Ci:=h.pos.ctx hi.1 hi.2.1
   have own: ∀ k,k<(con q i).cells.length -> x.getD ((con q i).cells.getD k 0).toNat 0=p.getD ((con q i).cells.getD k 0).toNat 0:=fun k hk=>by
    refine Classical.byContradiction fun AY=>?_
    have hW:=Ci.work.cells k hk;have hm:(con q i).cells.getD k 0∈(con q i).cells:=by rw [u8,zBD hk];exact zB0 hk
    have e:((((con q i).cells.getD k 0).toNat:Nat):Int)=(con q i).cells.getD k 0:=by omega
    refine hn (hc ((con q i).cells.getD k 0).toNat (by omega) AY i ?_);rw [e];exact hU i hi _ hm
   have AY:i≠v:=by
    rintro rfl;refine Pi (yE hl fun c BU=>?_)
    by_cases Kp: ∃ k,k<(con q i).cells.length/\ ((con q i).cells.getD k 0).toNat=c
    ·obtain ⟨k,hk,rfl⟩:=Kp;exact own k hk
    ·exact hx.other OC Ci fun k hk e=>Kp ⟨k,hk,e⟩
   have hp:PR q (con q i) p p:=h.fix i hi fun hm=>by
    rcases zCB.1 hm with hm | hm
    ·exact AY hm
    ·exact hn (hs i hm)
   exact xy Ci (Ip.ctx hi.1 hi.2.1) own hd OC hp
theorem xm (hO:OF q level f 2000000) (hU: ∀ i,Up q level i -> ∀ c∈(con q i).cells,i∈f c): ∀ (M:Nat) {p:List Int} {ws:List Bool} {o n:Nat} {qu Q:List Int},wt p*(q.cons.length+1)+n<=M -> WQ q level ws o n qu Q -> eT q level pos p Q ->
 ∃ g,Ev (fun m=>Br q pos cells level m (.l6 p f ws o n qu)) g/\ DZ q (Up q level) pos g/\ Hc q (Up q level) g:=by
 intro M
 induction M with
 | zero=>
  intro p ws o n qu Q hM hW h;have hn:n=0:=by omega
  subst hn;have hQ:Q= []:=zE5 hW.mq.cnt.symm;subst hQ;exact ⟨p,Ev.one fun m=>rfl,h.down,fun i hi=>h.fix i hi (by simp)⟩
 | succ M ih=>
  intro p ws o n qu Q hM hW h;have hv:=h.pos.valid;have hK:=(Dp hv).2.2.2.2.1;have h256:=h.pos.len256.2
  by_cases hn:n=0
  ·subst hn;have hQ:Q= []:=zE5 hW.mq.cnt.symm;subst hQ;exact ⟨p,Ev.one fun m=>rfl,h.down,fun i hi=>h.fix i hi (by simp)⟩
  have Fk:(n==0)=false:=by simpa using hn
  have nJ:decide ((n:Int)>0)=true:=zBC (by omega);have HO: ∀ m,300<=m -> Gi m p=some (Bi p):=fun m hm=>Nh (zBO h256 (by decide)) (by omega)
  cases hd:Bi p with
  | true=>
   have hz:=h.zero hd;refine ⟨p,Ev.oneN 300 fun m hm=>?_,h.down,?_⟩
   ·show SW m (Br q pos cells level m) q pos cells level p f ws o n qu=some p
    unfold SW;rw [Fk,zAD,nJ,zBA,HO m hm,zA9,hd];rfl
   ·rw [hz];exact oF h.pos.len256.1
  | false=>
   cases hQ:Q with
   | nil=>exact absurd (by rw [hW.mq.cnt,hQ];rfl) hn
   | cons v Q1=>
    subst hQ;have Bn:Up q level v:=hW.up v (by simp);obtain ⟨x,⟨N,cg⟩,hx⟩:=j8 (h.pos.ctx Bn.1 Bn.2.1);have cg: ∀ m,N<=m -> NE m q v p=some (x,0):=cg;have hsum:=hW.mq.sum;have XQ:=hW.mq.eq;have HK:o<qu.length:=by omega
    have zBi:qu.getD (o+0) 0=v:=by
     rw [zF5,u8,zBD HK];rw [zB2 HK] at XQ;exact (List.cons.inj XQ).1
    have Iz:WQ q level (ws.set v.toNat false) (o+1) (n-1) qu Q1:=by
     refine ⟨⟨by omega,?_,hW.mq.qi.pop hK⟩,fun i hi=>hW.up i (by simp [hi])⟩;rw [zB2 HK] at XQ;exact (List.cons.inj XQ).2
    obtain ⟨Bg,o',n',Cr,Q',e1,e2,e3,e4,e5⟩:=zD1 (pos:=pos) (cells:=cells) hv hO hx.len h256 Iz;have hH:=zB9 hU Bn h hd hx e2 e3
    have step:AZ (Br q pos cells level) (.l6 p f ws o n qu) (.l7 p x (x.length:Int) 0 f (ws.set v.toNat false) (o+1) (n-1) qu):=AZ.oneN (max N 300) fun m hm=>by
     show SW m (Br q pos cells level m) q pos cells level p f ws o n qu=_
     unfold SW;rw [Fk,zAD,nJ,zBA,HO m (by omega),zA9,hd,zCN,zBA,zBi,zAE ⟨by omega,by omega,by omega,⟨Bn.1,by have:=Bn.2.1;omega⟩,by rw [hW.mq.qi.len];have:=Bn.1;have:=Bn.2.1;omega⟩,cg m (by omega),zA9,zBj];rfl
    have AP:wt x*(q.cons.length+1)+n'<=M:=by
     have Nv:=e1.mq.qi.le;have Px:=e1.mq.cnt
     by_cases Pi:x=p
     ·have:Q'=Q1:=e4 fun c _=>by rw [Pi]
      rw [Pi];have h2:=Iz.mq.cnt;rw [this] at Px;omega
     ·have hw:=Um hH.pos h.pos hx.le Pi;have h3:(wt x+1)*(q.cons.length+1)<=wt p*(q.cons.length+1):=zFT _ hw;rw [zFj] at h3;omega
    obtain ⟨g,g1,g2,g3⟩:=ih AP e1 hH;exact ⟨g,(step.trans e5).ev g1,g2,g3⟩
theorem wS (hp:BZ q pos) (BU:cells.length<=LB): ∃ g,Ev (fun n=>aF n q pos cells level) g/\ Ma q level pos g:=by
 have h256:=hp.len256;have HO: ∀ m,300<=m -> Gi m pos=some (Bi pos):=fun m hm=>Nh (zBO h256.2 (by decide)) (by omega)
 cases hd:Bi pos with
 | true=>
  refine ⟨List.replicate pos.length 0,⟨300,fun n hn=>?_⟩,.inl ⟨hd,rfl⟩⟩
  show Sa n (Br q pos cells level n) q pos cells level=_
  unfold Sa;rw [HO n hn,zA9,hd,zBA,zAE ⟨rfl,by omega,by omega⟩,zAE zCD.symm]
 | false=>
  have H: ∃ g,Ev (fun n=>Br q pos cells level n (.l1 (AX q level) (AX q level) ((AX q level).length:Int) 0 (fun _=>[]))) g/\ DZ q (Up q level) pos g/\ Hc q (Up q level) g:=by
   obtain ⟨f,g1,g2,g3⟩:=zEK (q:=q) (level:=level) (p:=pos) (cells:=cells) hp.valid BU;rcases g3 with ⟨h1,h2⟩ | ⟨ws,o,n,qu,Q,h1,h2,h3⟩
   ·refine ⟨pos,?_,.refl pos,fun i hi=>absurd hi (h2 i)⟩;rcases h1 with h1 | ⟨ws,h1⟩
    ·exact h1.ev (Ev.one fun m=>rfl)
    ·exact h1.ev (Ev.one fun m=>rfl)
   ·obtain ⟨g,e1,e2,e3⟩:=xm (pos:=pos) (cells:=cells) g1 g2 _ (zBa _) h1 (p:=pos) ⟨hp,.refl pos,fun h=>(by rw [hd] at h;cases h),fun i hi hn=>absurd (h2 i hi) hn⟩;exact ⟨g,h3.ev e1,e2,e3⟩
  obtain ⟨g,⟨N,h1⟩,h2⟩:=H;have h1: ∀ n,N<=n -> Br q pos cells level n (.l1 (AX q level) (AX q level) ((AX q level).length:Int) 0 (fun _=>[]))=some g:=h1;obtain ⟨N2,hu⟩:=fV (level:=level) hp.fit hp.valid;have hu: ∀ n,N2<=n -> Qy n q level=some (AX q level):=hu;refine ⟨g,⟨max (max N N2) 300,fun n hn=>?_⟩,.inr ⟨hd,h2⟩⟩
  show Sa n (Br q pos cells level n) q pos cells level=_
  unfold Sa;rw [HO n (by omega),zA9,hd,zAD,hu n (by omega),zA9];exact h1 n (by omega)
end
end Go.Proofs.YtekkngkphejfcaaGreatDoor
namespace Go.Proofs.YtekkngkphejfcaaGreatDoor
open Go.RowKit
theorem oV {a b:List Int} {n:Nat} (hl:a.length<=LB) (hn:a.length<n):OM n a b=some (decide (a=b)):=by
 have hb:LB<=9223372036854775806:=by decide
 unfold OM oU
 by_cases Ak:a.length=b.length
 ·have e:((a.length:Int) != (b.length:Int))=false:=by rw [Ak];simp
  rw [e,zAD]
  have key: ∀ (k i n:Nat),i+k=a.length -> k+1<=n -> QN a b n (.l1 (i:Int))=some (decide (a.drop i=b.drop i)):=by
   intro k
   induction k with
   | zero=>
    intro i n e hn;obtain ⟨n,rfl⟩: ∃ k,n=k+1:=⟨n-1,by omega⟩
    show Tw n (QN a b n) a b (i:Int)=_
    unfold Tw;rw [zAA (by omega),zAD,zEM (by omega),zEM (by omega)];rfl
   | succ k ih=>
    intro i n e hn;obtain ⟨n,rfl⟩: ∃ k,n=k+1:=⟨n-1,by omega⟩;have hi:i<a.length:=by omega
    have A5:i<b.length:=by omega
    have d: ∀ {l:List Int},i<l.length -> l.drop i=l.getD i 0::l.drop (i+1):=fun {l} h=>by
     rw [zB2 h,u8,zBD h];rfl
    have:=ih (i+1) n (by omega) (by omega)
    show Tw n (QN a b n) a b (i:Int)=_
    unfold Tw;rw [zBC (by omega),zBA,zAE ⟨⟨by omega,by omega⟩,by omega,by omega⟩,zAB,zAE (Ae.2 ⟨by omega,by omega⟩),d hi,d A5]
    by_cases h:a.getD i 0=b.getD i 0
    ·have:(a.getD i 0 != b.getD i 0)=false:=by rw [h];simp
     rw [this,zAD];refine Eq.trans (by assumption) ?_;rw [h];simp
    ·have:(a.getD i 0 != b.getD i 0)=true:=by simpa using h
     rw [this,zBA,zAA fun e=>h (List.cons.inj e).1]
  exact key a.length 0 n (by omega) (by omega)
 ·have e:((a.length:Int) != (b.length:Int))=true:=by simp;omega
  rw [e,zBA,zAA fun h=>Ak (by rw [h])]
def Ll (q:AA) (cells:List Int):Bool:=cells.any fun c=>decide (c<0)||decide (c>=q.cells)
section
variable {q:AA} {level:Int} {pos p x cells:List Int}
theorem ki {n:Nat} {c:Int}:WO n c q=some (decide (c<0)||decide (c>=q.cells)):=by
 unfold WO kg
 by_cases h:c<0
 ·rw [zBC h];rfl
 ·rw [zAA h];rfl
theorem ol {f:Int -> Bool} {l:List Int} {j:Nat} (hj:j<l.length):(l.drop j).any f=(f (l.getD j 0)||(l.drop (j+1)).any f):=by
 rw [zB2 hj,List.any_cons,u8,zBD hj];rfl
theorem kj (hl:cells.length<=LB): ∀ (k j:Nat),j+k=cells.length -> ∃ r:Int,Ev (fun n=>Kl cells q n (.l1 (j:Int))) r/\ decide (r>=0)=(cells.drop j).any fun c=>decide (c<0)||decide (c>=q.cells)
 | 0,j,e=>⟨-1,Ev.one fun n=>by
  show Nk n (Kl cells q n) cells q (j:Int)=_
  unfold Nk;rw [zAA (by omega),zAD],by rw [zEM (by omega)];rfl⟩
 | k+1,j,e=>by
  have hj:j<cells.length:=by omega
  have AP:decide ((j:Int)<(cells.length:Int))=true:=zBC (by omega);have hr:AG ((j:Int)+1):=Ae.2 ⟨by omega,by unfold LB at hl;omega⟩;rw [ol hj];cases ho:decide (cells.getD j 0<0)||decide (cells.getD j 0>=q.cells) with
  | true=>
   refine ⟨(j:Int),Ev.one fun n=>?_,by rw [zFz];exact zBC (by omega)⟩
   show Nk n (Kl cells q n) cells q (j:Int)=_
   unfold Nk;rw [AP,zBA,zAE ⟨by omega,by omega⟩,zAB,ki,zA9,ho,zBA]
  | false=>
   obtain ⟨r,h1,h2⟩:=kj hl k (j+1) (by omega);refine ⟨r,AZ.ev (AZ.one fun n=>?_) h1,by rw [zFP];exact h2⟩
   show Nk n (Kl cells q n) cells q (j:Int)=_
   unfold Nk;rw [AP,zBA,zAE ⟨by omega,by omega⟩,zAB,ki,zA9,ho,zAD,zAE hr,show ((j+1:Nat):Int)=(j:Int)+1 by omega]
theorem zDi (hl:cells.length<=LB):Ev (fun n=>YA n cells q) (Ll q cells):=by
 obtain ⟨r,⟨N,h1⟩,h2⟩:=kj (q:=q) hl cells.length 0 (by omega);have h1: ∀ n,N<=n -> Kl cells q n (.l1 0)=some r:=h1;refine ⟨N,fun n hn=>?_⟩
 show (Kl cells q n (.l1 0)).bind (fun y1=>some (decide (y1>=0)))=_
 rw [h1 n hn,zA9,h2];rfl
theorem kH (hF:CP q) (hl:pos.length<=LB):Ev (fun n=>NI n q pos) (B5 q pos):=⟨EM q+pos.length+1,fun n hn=>kI hF (by omega) hl (by omega)⟩
theorem BZ.of (hF:CP q) (h:B5 q pos=0):BZ q pos:=by
 unfold B5 at h
 by_cases hv:C2 q=true
 ·rw [zAE hv] at h
  by_cases hp:posOk q pos=true
  ·exact ⟨hF,hv,hp⟩
  ·rw [zBP hp] at h;exact absurd h (by decide)
 ·rw [zBP hv] at h;exact absurd h (by decide)
def JJ (q:AA) (pos cells:List Int) (level:Int) (r:List Int×Int):Prop:=
 (B5 q pos≠0/\ r=([],B5 q pos))∨(B5 q pos=0/\ Ll q cells=true/\ r=([],1))∨(B5 q pos=0/\ Ll q cells=false/\ r.2=0/\ Ma q level pos r.1)
theorem JJ.uniq (hF:CP q) {r r':List Int×Int} (h:JJ q pos cells level r) (h':JJ q pos cells level r'):r=r':=by
 rcases h with ⟨h1,h2⟩ | ⟨h1,h2,h3⟩ | ⟨h1,h2,h3,h4⟩
 ·rcases h' with ⟨g1,g2⟩ | ⟨g1,_⟩ | ⟨g1,_⟩
  ·rw [h2,g2]
  ·exact absurd g1 h1
  ·exact absurd g1 h1
 ·rcases h' with ⟨g1,_⟩ | ⟨g1,g2,g3⟩ | ⟨g1,g2,_⟩
  ·exact absurd h1 g1
  ·rw [h3,g3]
  ·rw [h2] at g2;cases g2
 ·rcases h' with ⟨g1,_⟩ | ⟨g1,g2,_⟩ | ⟨g1,g2,g3,g4⟩
  ·exact absurd h1 g1
  ·rw [h2] at g2;cases g2
  ·exact Prod.ext (Ma.uniq (BZ.of hF h1) h4 g4) (h3.trans g3.symm)
theorem p8 (hF:CP q) (hl:pos.length<=LB) (hc:cells.length<=LB): ∃ r,Ev (fun n=>OX n q pos cells level) r/\ JJ q pos cells level r:=by
 have h1:=kH hF hl
 by_cases h0:B5 q pos=0
 ·have hp:=BZ.of hF h0;have h2:=zDi (q:=q) hc;cases ho:Ll q cells with
  | true=>
   rw [ho] at h2;refine ⟨([],1),?_,.inr (.inl ⟨h0,ho,rfl⟩)⟩;rw [h0] at h1;exact Ev.bind h1 (Ev.bind h2 (Ev.now fun n=>rfl))
  | false=>
   rw [ho] at h2;rw [h0] at h1;obtain ⟨g,g1,g2⟩:=wS (level:=level) (cells:=cells) hp hc;exact ⟨(g,0),Ev.bind h1 (Ev.bind h2 (Ev.bind g1 (Ev.now fun n=>rfl))),.inr (.inr ⟨h0,ho,rfl,g2⟩)⟩
 ·refine ⟨([],B5 q pos),Ev.bind h1 (Ev.now fun n=>?_),.inl ⟨h0,rfl⟩⟩;have:(B5 q pos != 0)=true:=by simpa using h0
  show (bif (B5 q pos != 0) then _ else _)=_
  rw [this];rfl
theorem pw (hF:CP q) (hl:pos.length<=LB): ∃ r,Ev (fun n=>J2 n q pos level) r/\ JJ q pos [] level r:=by
 obtain ⟨r,h1,h2⟩:=p8 (level:=level) (cells:=[]) hF hl (by decide);exact ⟨r,Ev.bind h1 (Ev.now fun n=>rfl),h2⟩
inductive FU (q:AA) (level:Int):List Int -> List Int -> List Int -> Prop
 | done {p:List Int}:Hc q (Up q level) p -> FU q level p [] p
 | step {p x l g:List Int} {i:Int}:Up q level i -> PR q (con q i) p x -> x≠p -> (∀ i',Up q level i' -> i'<i -> PR q (con q i') p p) -> FU q level x l g -> FU q level p (i::l) g
theorem FU.uniq {l g l' g':List Int} (h:FU q level p l g):FU q level p l' g' -> l=l'/\ g=g':=by
 induction h generalizing l' g' with
 | done hf=>
  intro h';cases h' with
  | done _=>exact ⟨rfl,rfl⟩
  | step hi hx AY _ _=>exact absurd ((hf _ hi).uniq _ _ hx) (fun e=>AY e.symm)
 | @step p x l g i hi hx AY zBM _ ih=>
  intro h';cases h' with
  | done hf=>exact absurd (PR.uniq _ _ (hf _ hi) hx) (fun e=>AY e.symm)
  | @step _ x' l2 _ i' A5 HI zBF zBL h2=>
   have e:i=i':=by
    rcases Int.lt_trichotomy i i' with AP | he | AP
    ·exact absurd (PR.uniq _ _ (zBL _ hi AP) hx) (fun e=>AY e.symm)
    ·exact he
    ·exact absurd (PR.uniq _ _ (zBM _ A5 AP) HI) (fun e=>zBF e.symm)
   subst e;have e2:=PR.uniq _ _ hx HI;subst e2;obtain ⟨e1,e2⟩:=ih h2;exact ⟨by rw [e1],e2⟩
theorem FU.down {l g:List Int} (h:FU q level p l g):DZ q (Up q level) p g/\ Hc q (Up q level) g:=by
 induction h with
 | done hf=>exact ⟨.refl _,hf⟩
 | step hi hx _ _ _ ih=>exact ⟨.step hi hx ih.1,ih.2⟩
end
end Go.Proofs.YtekkngkphejfcaaGreatDoor
namespace Go.Proofs.YtekkngkphejfcaaGreatDoor
open Go.RowKit
section
variable {q:AA} {level i:Int} {pos p x:List Int}
theorem qa:(AX q level).Pairwise (· < ·):=by
 unfold AX FF;refine List.Pairwise.map _ (fun a b h=>?_) (List.Pairwise.filter _ List.pairwise_lt_range);exact Int.ofNat_lt.2 h
theorem qb {b:Nat} (hb:b<(AX q level).length) (hi:Up q level i) (AP:i<(AX q level).getD b 0): ∃ a,a<b/\ (AX q level).getD a 0=i:=by
 obtain ⟨a,ha,e⟩:=zEz (Jl.2 hi);have e1:(AX q level).getD a 0=i:=by rw [u8,zBD ha];exact e
 refine ⟨a,zB1 fun BV=>?_,e1⟩;rcases Nat.lt_or_eq_of_le BV with h | h
 ·have:=zFk.1 (qa (q:=q) (level:=level)) b a hb ha h;have e2:(AX q level).getD b 0=(AX q level)[b]:=by rw [u8,zBD hb];rfl
  rw [e2,←e] at AP;omega
 ·subst h;omega
theorem zD0 (C:BT q i p): ∃ x,Ev (fun n=>UH n i q p) (decide (x≠p),x)/\ PR q (con q i) p x:=by
 obtain ⟨x,h1,h2⟩:=j8 C;refine ⟨x,Ev.bind h1 ?_,h2⟩;have hl:x.length<=LB:=by rw [h2.len];exact zBO C.len256.2 (by decide)
 refine Ev.eq (Ev.bind (a:=fun n=>OM n x p) (x:=decide (x=p)) ⟨x.length+1,fun n hn=>oV hl (by omega)⟩ (b:=fun n y2=>bif y2 then some (false,p) else some (true,x)) (Ev.now fun n=>?_)) (fun n=>rfl)
 by_cases e:x=p
 ·rw [zBC e,zBA,zAA (by simpa using e),e]
 ·rw [zAA e,zAD,zBC (by simpa using e)]
theorem mP (hp:BZ q p): ∀ (k a:Nat),a+k=(AX q level).length -> (∀ a',a'<a -> PR q (con q ((AX q level).getD a' 0)) p p) ->
 (Ev (fun n=>Km (AX q level) q p n (.l1 (a:Int) p)) (-1,p)/\ Hc q (Up q level) p)∨
 ∃ b x,Ev (fun n=>Km (AX q level) q p n (.l1 (a:Int) p)) ((b:Nat),x)/\ b<(AX q level).length/\ PR q (con q ((AX q level).getD b 0)) p x/\ x≠p/\ ∀ a',a'<b -> PR q (con q ((AX q level).getD a' 0)) p p
 | 0,a,e,h=>by
  refine .inl ⟨Ev.one fun n=>?_,fun i hi=>?_⟩
  ·show Nm n (Km (AX q level) q p n) (AX q level) q p (a:Int) p=_
   unfold Nm;rw [zAA (by omega),zAD]
  ·obtain ⟨a',ha,e1⟩:=zEz (Jl.2 hi);have:=h a' (by omega);rw [u8,zBD ha] at this;rw [←e1];exact this
 | k+1,a,e,h=>by
  have ha:a<(AX q level).length:=by omega
  have hU:=Ur ha;have Ns:(AX q level).length<=4096:=zBO Qt (Dp hp.valid).2.2.2.2.1;have AP:decide ((a:Int)<((AX q level).length:Int))=true:=zBC (by omega);have hr:AG ((a:Int)+1):=Ae.2 ⟨by omega,by omega⟩;obtain ⟨x,⟨N,h1⟩,h2⟩:=zD0 (hp.ctx hU.1 hU.2.1);have h1: ∀ n,N<=n -> UH n ((AX q level).getD a 0) q p=some (decide (x≠p),x):=h1
  by_cases hx:x=p
  ·have hx:=hx.symm;subst hx
   have st:AZ (Km (AX q level) q p) (.l1 (a:Int) p) (.l1 ((a+1:Nat):Int) p):=AZ.oneN N fun n hn=>by
    show Nm n (Km (AX q level) q p n) (AX q level) q p (a:Int) p=_
    unfold Nm;rw [AP,zBA,zAE ⟨by omega,by omega⟩,zAB,h1 n hn,zA9]
    show (bif decide (p≠p) then _ else (if AG ((a:Int)+1) then _ else _))=_
    rw [zAA (by simp),zAD,zAE hr,show ((a+1:Nat):Int)=(a:Int)+1 by omega]
   rcases mP hp k (a+1) (by omega) (fun a' Iy=>by
    by_cases e:a'=a
    ·subst e;exact h2
    ·exact h a' (by omega)) with ⟨g1,g2⟩ | ⟨b,y,g1,g2⟩
   ·exact .inl ⟨st.ev g1,g2⟩
   ·exact .inr ⟨b,y,st.ev g1,g2⟩
  ·refine .inr ⟨a,x,Ev.oneN N fun n hn=>?_,ha,h2,hx,h⟩
   show Nm n (Km (AX q level) q p n) (AX q level) q p (a:Int) p=_
   unfold Nm;rw [AP,zBA,zAE ⟨by omega,by omega⟩,zAB,h1 n hn,zA9]
   show (bif decide (x≠p) then _ else _)=_
   rw [zBC hx];rfl
theorem yo (hp:BZ q p):(Ev (fun n=>Nn n (AX q level) q p) (-1,p)/\ Hc q (Up q level) p)∨
 ∃ b x,Ev (fun n=>Nn n (AX q level) q p) ((b:Nat),x)/\ b<(AX q level).length/\ Up q level ((AX q level).getD b 0)/\ PR q (con q ((AX q level).getD b 0)) p x/\ x≠p/\ ∀ i',Up q level i' -> i'<(AX q level).getD b 0 -> PR q (con q i') p p:=by
 rcases mP (level:=level) hp (AX q level).length 0 (by omega) (fun a' Iy=>absurd Iy (zBW _)) with ⟨g1,g2⟩ | ⟨b,x,g1,g2,g3,g4,g5⟩
 ·exact .inl ⟨g1,g2⟩
 ·refine .inr ⟨b,x,g1,g2,Ur g2,g3,g4,fun i' A5 AP=>?_⟩;obtain ⟨a,ha,e⟩:=qb g2 A5 AP;rw [←e];exact g5 a ha
theorem Un (hp:BZ q p):wt p<=16384:=by
 have:=hp.len256.2;unfold wt;refine zBO zGj ?_;rw [zFq];omega
def KD (q:AA) (level:Int) (p acc:List Int):PK:=if acc= [] then .l1 (AX q level) else .l2 acc.length (AX q level) p acc
theorem U7 {acc:List Int} (h:acc≠[]):KD q level p acc= .l2 acc.length (AX q level) p acc:=by unfold KD;rw [zBP h]
theorem km {M:Nat} {p acc:List Int} (Az: ∀ {p' acc':List Int},wt p'<M -> BZ q p' -> (Bi p'=true -> p'=List.replicate p'.length 0) -> acc'.length+wt p'<=20000 -> (acc'= [] -> p'=pos) -> ∃ l g,Ev (fun n=>HD q pos level n (KD q level p' acc')) (acc'++l,0)/\ FU q level p' l g)
 (hM:wt p<=M) (hp:BZ q p) (P4:Bi pos=false) (hz:Bi p=true -> p=List.replicate p.length 0) (hb:acc.length+wt p<=20000) (ha:acc= [] -> p=pos):
 ∃ l g,Ev (fun n=>HD q pos level n (KD q level p acc)) (acc++l,0)/\ FU q level p l g:=by
 have h256:=hp.len256;have HO: ∀ m,300<=m -> Gi m p=some (Bi p):=fun m hm=>Nh (zBO h256.2 (by decide)) (by omega)
 cases hd:Bi p with
 | true=>
  have AY:acc≠[]:=fun e=>by rw [ha e,P4] at hd;cases hd
  refine ⟨[],p,?_,.done (by rw [hz hd];exact oF h256.1)⟩;rw [U7 AY,zFV];refine Ev.oneN 300 fun n hn=>?_
  show NM n (HD q pos level n) q pos level acc.length (AX q level) p acc=_
  unfold NM;rw [HO n hn,zA9,hd,zCJ,zAD,zAE rfl]
 | false=>
  rcases yo (level:=level) hp with ⟨⟨N,g1⟩,g2⟩ | ⟨b,x,⟨N,g1⟩,g2,g3,g4,g5,g6⟩
  ·have g1: ∀ n,N<=n -> Nn n (AX q level) q p=some (-1,p):=g1;refine ⟨[],p,?_,.done g2⟩;rw [zFV]
   by_cases AY:acc= []
   ·have e:=ha AY;subst e;refine Ev.oneN (max N 300) fun n hn=>?_
    have e0:KD q level p acc= .l1 (AX q level):=by unfold KD;rw [zAE AY]
    rw [e0,AY]
    show NN n (HD q p level n) q p level (AX q level)=_
    unfold NN;rw [HO n (by omega),zA9,hd,zCN,zBA,g1 n (by omega),zA9];rfl
   ·rw [U7 AY];refine Ev.oneN (max N 300) fun n hn=>?_
    show NM n (HD q pos level n) q pos level acc.length (AX q level) p acc=_
    unfold NM;rw [HO n (by omega),zA9,hd,zCN,zBA,g1 n (by omega),zA9]
    show (bif decide ((-1:Int)<0) then (if acc.length=acc.length then some (acc,(0:Int)) else none) else _)=_
    rw [zBC (by decide),zBA,zAE rfl]
  ·have g1: ∀ n,N<=n -> Nn n (AX q level) q p=some ((b:Int),x):=g1;have Ip:=hp.pr g3.1 g3.2.1 g4;have hw:=Um Ip hp g4.le g5;have hlx:x.length=p.length:=g4.len;have nT:decide ((b:Int)<0)=false:=zAA (by omega);obtain ⟨l,g,r1,r2⟩:=Az (p':=x) (acc':=acc++[(AX q level).getD b 0]) (by omega) Ip (fun OC=>by rw [hlx];exact g4.zero OC) (by rw [zCC,zCI];omega) (fun e=>by simp at e);rw [U7 (by simp),zFi,zGk] at r1;refine ⟨(AX q level).getD b 0::l,g,AZ.ev (AZ.oneN (max N 300) fun n hn=>?_) r1,.step g3 g4 g5 g6 r2⟩
   by_cases AY:acc= []
   ·have e:=ha AY;subst e;have e0:KD q level p acc= .l1 (AX q level):=by unfold KD;rw [zAE AY]
    rw [e0,AY]
    show NN n (HD q p level n) q p level (AX q level)=_
    unfold NN;rw [HO n (by omega),zA9,hd,zCN,zBA,g1 n (by omega),zA9]
    show (bif decide ((b:Int)<0) then _ else _)=_
    rw [nT,zAD,zAE ⟨⟨by omega,by omega⟩,⟨rfl,rfl⟩,Nat.one_pos,by unfold A7;simp⟩,zAB];rfl
   ·rw [U7 AY]
    show NM n (HD q pos level n) q pos level acc.length (AX q level) p acc=_
    unfold NM;rw [HO n (by omega),zA9,hd,zCN,zBA,g1 n (by omega),zA9]
    show (bif decide ((b:Int)<0) then _ else _)=_
    rw [nT,zAD,zAE ⟨⟨by omega,by omega⟩,⟨rfl,rfl⟩,⟨rfl,rfl⟩,by unfold A7;rw [zCI];omega⟩,zAB,zCC]
theorem xE: ∀ (M:Nat) {p acc:List Int},wt p<=M -> BZ q p -> Bi pos=false -> (Bi p=true -> p=List.replicate p.length 0) -> acc.length+wt p<=20000 -> (acc= [] -> p=pos) ->
 ∃ l g,Ev (fun n=>HD q pos level n (KD q level p acc)) (acc++l,0)/\ FU q level p l g:=by
 intro M
 induction M with
 | zero=>exact fun {p acc} hM hp P4 hz hb ha=>km (fun {p' acc'} h=>absurd h (by omega)) hM hp P4 hz hb ha
 | succ M ih=>exact fun {p acc} hM hp P4 hz hb ha=>km (fun {p' acc'} h BE bV C9 Iy=>ih (by omega) BE P4 bV C9 Iy) hM hp P4 hz hb ha
def Ug (q:AA) (pos:List Int) (level:Int) (r:List Int×Int):Prop:=
 (B5 q pos≠0/\ r=([],B5 q pos))∨(B5 q pos=0/\ Bi pos=true/\ r=([],0))∨(B5 q pos=0/\ Bi pos=false/\ r.2=0/\ r.1.length<=20000/\ ∃ g,FU q level pos r.1 g)
theorem Ug.uniq {r r':List Int×Int} (h:Ug q pos level r) (h':Ug q pos level r'):r=r':=by
 rcases h with ⟨h1,h2⟩ | ⟨h1,h2,h3⟩ | ⟨h1,h2,h3,_,g,h4⟩
 ·rcases h' with ⟨g1,g2⟩ | ⟨g1,_⟩ | ⟨g1,_⟩
  ·rw [h2,g2]
  ·exact absurd g1 h1
  ·exact absurd g1 h1
 ·rcases h' with ⟨g1,_⟩ | ⟨g1,g2,g3⟩ | ⟨g1,g2,_⟩
  ·exact absurd h1 g1
  ·rw [h3,g3]
  ·rw [h2] at g2;cases g2
 ·rcases h' with ⟨g1,_⟩ | ⟨g1,g2,_⟩ | ⟨g1,g2,g3,_,g',g4⟩
  ·exact absurd h1 g1
  ·rw [h2] at g2;cases g2
  ·exact Prod.ext (h4.uniq g4).1 (h3.trans g3.symm)
theorem FU.len (hp:BZ q p) {l g:List Int} (h:FU q level p l g):l.length+wt g<=wt p:=by
 induction h with
 | done _=>simp
 | step hi hx AY _ _ ih=>
  have Ip:=hp.pr hi.1 hi.2.1 hx;have h1:=ih Ip;have h2:=Um Ip hp hx.le AY;rw [zFB];omega
theorem xF (hF:CP q) (hl:pos.length<=LB): ∃ r,Ev (fun n=>PL n q pos level) r/\ Ug q pos level r:=by
 have h1:=kH hF hl
 by_cases h0:B5 q pos=0
 ·have hp:=BZ.of hF h0;rw [h0] at h1;have hu:=fV (level:=level) hp.fit hp.valid;cases hd:Bi pos with
  | true=>
   refine ⟨([],0),Ev.bind h1 (Ev.bind hu ?_),.inr (.inl ⟨h0,hd,rfl⟩)⟩;have h256:=hp.len256;have HO: ∀ m,300<=m -> Gi m pos=some (Bi pos):=fun m hm=>Nh (zBO h256.2 (by decide)) (by omega)
   refine Ev.oneN 300 fun n hn=>?_
   show NN n (HD q pos level n) q pos level (AX q level)=_
   unfold NN;rw [HO n hn,zA9,hd];rfl
  | false=>
   obtain ⟨l,g,g1,g2⟩:=xE (q:=q) (level:=level) (pos:=pos) (wt pos) (acc:=[]) (zBa _) hp hd (fun h=>by rw [hd] at h;cases h) (by have:=Un hp;simp;omega) (fun _=>rfl);exact ⟨(l,0),Ev.bind h1 (Ev.bind hu g1),.inr (.inr ⟨h0,hd,rfl,by have:=g2.len hp;have:=Un hp;simp only;omega,g,g2⟩)⟩
 ·refine ⟨([],B5 q pos),Ev.bind h1 (Ev.now fun n=>?_),.inl ⟨h0,rfl⟩⟩;have:(B5 q pos != 0)=true:=by simpa using h0
  show (bif (B5 q pos != 0) then _ else _)=_
  rw [this];rfl
def Uj (q:AA) (pos:List Int) (level:Int) (r:Bool×Int):Prop:=∃ y,JJ q pos [] level y/\ r=(decide (y.2=0)&&decide (y.1=pos),y.2)
theorem JJ.len (hF:CP q) {cells:List Int} {r:List Int×Int} (h:JJ q pos cells level r):r.1.length<=256:=by
 rcases h with ⟨_,h2⟩ | ⟨_,_,h3⟩ | ⟨h1,_,_,h4⟩
 ·rw [h2];simp
 ·rw [h3];simp
 ·have hp:=BZ.of hF h1;have h256:=hp.len256.2;rcases h4 with ⟨_,h5⟩ | ⟨_,h5,_⟩
  ·rw [h5,zCD];exact h256
  ·exact (h5.pos fU hp).len256.2
theorem zCg (hF:CP q) (hl:pos.length<=LB): ∃ r,Ev (fun n=>OK n q pos level) r/\ Uj q pos level r:=by
 obtain ⟨y,h1,h2⟩:=pw (level:=level) hF hl;have mV:=h2.len hF;refine ⟨_,Ev.bind h1 ?_,y,h2,rfl⟩
 by_cases h0:y.2=0
 ·have hb:(y.2==0)=true:=by simpa using h0
  rw [zBC h0,zCE];refine Ev.eq (Ev.bind (a:=fun n=>OM n y.1 pos) (x:=decide (y.1=pos)) ⟨y.1.length+1,fun n hn=>oV (zBO mV (by decide)) (by omega)⟩ (b:=fun n y2=>some (y2,y.2)) (Ev.now fun n=>rfl)) (fun n=>?_)
  show (bif (y.2==0) then _ else _)=_
  rw [hb,zBA]
 ·have hb:(y.2==0)=false:=by simpa using h0
  refine Ev.now fun n=>?_
  show (bif (y.2==0) then _ else _)=_
  rw [hb,zAD,zAA h0,zFI]
theorem Uj.uniq (hF:CP q) {r r':Bool×Int} (h:Uj q pos level r) (h':Uj q pos level r'):r=r':=by
 obtain ⟨y,h1,h2⟩:=h;obtain ⟨y',h3,h4⟩:=h';rw [h2,h4,h1.uniq hF h3]
end
end Go.Proofs.YtekkngkphejfcaaGreatDoor
