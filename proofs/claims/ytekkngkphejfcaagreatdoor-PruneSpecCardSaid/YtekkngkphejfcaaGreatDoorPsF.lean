/- Part 6 of 7 of what the proofs of these laws stand on. -/
import Derived.Test.YtekkngkphejfcaaGreatDoorPsE
set_option linter.all false
namespace Go.Proofs.YtekkngkphejfcaaGreatDoor
open Go.RowKit
set_option maxRecDepth 100000
set_option maxHeartbeats 40000000
def zW6 (n:Nat) (set_ s_:Int):Option Bool:=
 if 0≤s_∧s_≤(IntKind.i64.bits:Int) then
  some ((bits .and .i64 (set_/2 ^ (s_).toNat) 1)==1)
 else none
def zPa (n:Nat) (set_ s_:Int):Option Bool:=zW6 n set_ s_
theorem zE0 {n:Nat} {set_ s_:Int} {r:Bool} (h:zPa n set_ s_=some r):EQ 40 [.i set_,.i s_] [] (.bool r) [] true:=by
 refine ot Tryz.func40 fun B N=>?_
 revert r
 apply gO
 exact gi (lE zAH [4] [])
def zSo (n:Nat) (lost:List Int) (cell set_:Int):Option ((List Int)):=
 if ((True)∧(0=0∧0=([]:List Int).length)∧([]:List Int).length+lost.length≤LIM)∧(0≤cell∧cell<((([]:List Int).length+lost.length:Nat):Int))∧0+((cell).toNat)<(([]:List Int)++lost).length then
  if ([]:List Int).length+lost.length=((([]:List Int)++lost).set (0+((cell).toNat)) (bits .or .i64 ((([]:List Int)++lost).getD (0+((cell).toNat)) 0) set_)).length then
   some ((([]:List Int)++lost).set (0+((cell).toNat)) (bits .or .i64 ((([]:List Int)++lost).getD (0+((cell).toNat)) 0) set_))
  else none
 else none
def zEM (n:Nat) (lost:List Int) (cell set_:Int):Option ((List Int)):=zSo n lost cell set_
theorem zCs {n:Nat} {lost:List Int} {cell set_:Int} {r:(List Int)} (h:zEM n lost cell set_=some r):EQ 115 [.ints lost,.i cell,.i set_] [] (.ints r) [] true:=by
 refine ot Tryz.func115 fun B N=>?_
 revert r
 apply gO
 exact gc (gi (gc (gn fun g1=>jg g1 (gn fun g2=>jg g2 (jg g1 (jg g2 (gn fun g3=>lF fun p=>ez zAH [6] [1] p [0] (H0.g g3))))))))
theorem zT2:SOk (zBa Tryz.f93 11) [] (List.range 16) []:=by unfold SOk;kernel_rfl
theorem zT1:SOk (zBa Tryz.f93 12) [([0,1,2,3,4,5,6,7],8)] [9] []:=by unfold SOk;kernel_rfl
def zCN:Sch:=fun i=>match i with
 | 11=>.ord [] (List.range 16) []
 | 12=>.ord [([0,1,2,3,4,5,6,7],8)] [9] []
 | _=>.no
inductive zIj where
 | l1 (x7:List Int) (x8:Int)
 | l2 (x7:List Int) (x8 x9:Int)
 | l3 (x7:List Int) (x8 x9 x10:Int)
def zHr (n:Nat) (self:zIj→Option ((List Int))) (q:zAB) (c_:zAC) (pos:List Int) (x7:List Int) (x8:Int):Option ((List Int)):=
 bif (decide (x8<(c_.cells.length:Int))) then
  self (.l2 x7 x8 0)
 else
  some x7
def zHq (n:Nat) (self:zIj→Option ((List Int))) (q:zAB) (c_:zAC) (pos:List Int) (x7:List Int) (x8 x9:Int):Option ((List Int)):=
 bif (decide (x9<(c_.cells.length:Int))) then
  self (.l3 x7 x8 x9 0)
 else
  if R64 (x8+1) then
   self (.l1 x7 (x8+1))
  else none
def zDP (n:Nat) (self:zIj→Option ((List Int))) (q:zAB) (c_:zAC) (pos:List Int) (x7:List Int) (x8 x9 x10:Int):Option ((List Int)):=
 bif (decide (x10<q.symbols)) then
  bif (x8 != x9) then
   if (0≤x9∧x9<(c_.cells.length:Int))∧(0≤(c_.cells.getD ((x9).toNat) 0)∧(c_.cells.getD ((x9).toNat) 0)<(pos.length:Int))∧(0≤x10∧x10≤(IntKind.i64.bits:Int)) then
    bif ((pos.getD ((c_.cells.getD ((x9).toNat) 0).toNat) 0)==(IntKind.i64.wrap (1*2 ^ (x10).toNat))) then
     if 0≤x8∧x8<(c_.cells.length:Int) then
      (zEM n x7 (c_.cells.getD ((x8).toNat) 0) (IntKind.i64.wrap (1*2 ^ (x10).toNat))).bind fun y1=>
       if R64 (x10+1) then
        self (.l3 y1 x8 x9 (x10+1))
       else none
     else none
    else
     if R64 (x10+1) then
      self (.l3 x7 x8 x9 (x10+1))
     else none
   else none
  else
   if R64 (x10+1) then
    self (.l3 x7 x8 x9 (x10+1))
   else none
 else
  if R64 (x9+1) then
   self (.l2 x7 x8 (x9+1))
  else none
def zSr (n:Nat) (self:zIj→Option ((List Int))) (q:zAB) (c_:zAC) (pos:List Int):Option ((List Int)):=
 if pos.length=(List.replicate pos.length (0:Int)).length∧(((pos.length:Int):Int)=(pos.length:Int)∧0≤(pos.length:Int)∧((pos.length:Int):Int)≤1000000000000) then
  self (.l1 (List.replicate pos.length (0:Int)) 0)
 else none
def zBW (q:zAB) (c_:zAC) (pos:List Int):Nat→zIj→Option ((List Int))
 | 0,_=>none
 | n+1,.l1 x7 x8=>zHr n (zBW q c_ pos n) q c_ pos x7 x8
 | n+1,.l2 x7 x8 x9=>zHq n (zBW q c_ pos n) q c_ pos x7 x8 x9
 | n+1,.l3 x7 x8 x9 x10=>zDP n (zBW q c_ pos n) q c_ pos x7 x8 x9 x10
def zZ4 (n:Nat) (q:zAB) (c_:zAC) (pos:List Int):Option ((List Int)):=zSr n (zBW q c_ pos n) q c_ pos
def zZ3 (n B:Nat) (N:Yd 0) (q:zAB) (c_:zAC) (pos:List Int) (r:(List Int)):zIj→Prop
 | .l1 x7 x8=>∀ m0:Nat,n≤m0→TW B N (FQ Tryz.f93 0 (.ints r) []) (toN m0 (zA9 (zAK Tryz.f93) 0 [])) ⟨frm 60 [(2,.ints pos),(3,.ref 0 0),(4,.ref 1 0),(7,.ints x7),(8,.i x8)],[some (.cells (zAE q)),some (.cells (zAF c_))]⟩
 | .l2 x7 x8 x9=>∀ m0 m1:Nat,n≤m0→n≤m1→TW B N (FQ Tryz.f93 0 (.ints r) []) (toN m1 (zA9 (zAK Tryz.f93) 2 [m0])) ⟨frm 60 [(2,.ints pos),(3,.ref 0 0),(4,.ref 1 0),(7,.ints x7),(8,.i x8),(9,.i x9)],[some (.cells (zAE q)),some (.cells (zAF c_))]⟩
 | .l3 x7 x8 x9 x10=>∀ m0 m1 m2:Nat,n≤m0→n≤m1→n≤m2→TW B N (FQ Tryz.f93 0 (.ints r) []) (toN m2 (zA9 (zAK Tryz.f93) 4 [m0,m1])) ⟨frm 60 [(2,.ints pos),(3,.ref 0 0),(4,.ref 1 0),(7,.ints x7),(8,.i x8),(9,.i x9),(10,.i x10)],[some (.cells (zAE q)),some (.cells (zAF c_))]⟩
theorem zW9 (B:Nat) (N:Yd 0) (q:zAB) (c_:zAC) (pos:List Int):Al (zBW q c_ pos) (zZ3 · B N q c_ pos):=ia (fun _=>rfl) fun n hself pt r h=>by
 cases pt
 case l1 x7 x8=>
  intro m0 hm0
  refine rd hm0 fun m0 hm0=>?_
  revert r
  apply gO
  exact bi 18 (lN zCN [0,1] (hself _ _ · m0 n hm0 Nat.le.refl)) (lE zCN [6] [])
 case l2 x7 x8 x9=>
  intro m0 m1 hm0 hm1
  have hm0:=Nat.le_of_succ_le hm0
  refine rd hm1 fun m1 hm1=>?_
  revert r
  apply gO
  exact bi 25 (lN zCN [0,1] (hself _ _ · m0 m1 n hm0 hm1 Nat.le.refl)) (gw 20 (lG zCN [0,1] (hself _ _ · m0 hm0)))
 case l3 x7 x8 x9 x10=>
  intro m0 m1 m2 hm0 hm1 hm2
  have hm0:=Nat.le_of_succ_le hm0
  have hm1:=Nat.le_of_succ_le hm1
  refine rd hm2 fun m2 hm2=>?_
  revert r
  apply gO
  exact bi 31 (jg zT2 (bi 36 (gc (gi (gc (gi (gn fun g2=>jg g2 (bi 48 (jg zT1 (gi (jg g2 (cf zCs [some (.cells (zAE q)),some (.cells (zAF c_))] fun _=>gw 33 (lG zCN [0,1] (hself _ _ · m0 m1 m2 hm0 hm1 hm2)))))) (gw 33 (lG zCN [0,1] (hself _ _ · m0 m1 m2 hm0 hm1 hm2))))))))) (gw 33 (lG zCN [0,1] (hself _ _ · m0 m1 m2 hm0 hm1 hm2))))) (gw 27 (lG zCN [0,1] (hself _ _ · m0 m1 hm0 hm1)))
theorem zZ1 {n:Nat} {q:zAB} {c_:zAC} {pos:List Int} {r:(List Int)} (h:zZ4 n q c_ pos=some r):EQ 93 [.agg 5 (L1 (zAE q)),.agg 9 (L1 (zAF c_)),.ints pos] [] (.ints r) [] true:=by
 refine ot Tryz.func93 fun B N=>?_
 revert r
 apply gO
 exact gc (gn fun g0=>gi (jz 13 2 (jg g0 (lN zCN [0,1] ((zW9 B N q c_ pos n) _ _ · n Nat.le.refl)))))
theorem zRG:SOk (zBa Tryz.f94 19) [([0,1,2,3,4,5,6,7,8,9],10)] [11] []:=by unfold SOk;kernel_rfl
theorem zRF:SOk (zBa Tryz.f94 21) [([0,1,2,3,4,5,6,7,8,9,10,11],12)] [13] []:=by unfold SOk;kernel_rfl
def zAg:Sch:=fun i=>match i with
 | 19=>.ord [([0,1,2,3,4,5,6,7,8,9],10)] [11] []
 | 21=>.ord [([0,1,2,3,4,5,6,7,8,9,10,11],12)] [13] []
 | _=>.no
inductive zDQ where
 | l1 (x7 x8 x9:Int)
 | l2 (x7 x8 x9 x10:Int)
 | l3 (x6:List Int) (x7 x8 x11:Int)
 | l4 (x7 x8 x9:Int)
 | l5 (x6:List Int) (x7 x8 x11 x12:Int)
 | l6 (x6:List Int) (x7 x8 x11:Int)
def zCT (n:Nat) (self:zDQ→Option ((List Int)×Bool)) (c_:zAC) (pos:List Int) (x7 x8 x9:Int):Option ((List Int)×Bool):=
 bif (decide (x9<(c_.cells.length:Int))) then
  if (0≤x9∧x9<(c_.cells.length:Int))∧(0≤(c_.cells.getD ((x9).toNat) 0)∧(c_.cells.getD ((x9).toNat) 0)<(pos.length:Int)) then
   bif ((bits .and .i64 (pos.getD ((c_.cells.getD ((x9).toNat) 0).toNat) 0) c_.set)==(pos.getD ((c_.cells.getD ((x9).toNat) 0).toNat) 0)) then
    if R64 (x7+1) then
     self (.l2 (x7+1) x8 x9 (pos.getD ((c_.cells.getD ((x9).toNat) 0).toNat) 0))
    else none
   else
    self (.l2 x7 x8 x9 (pos.getD ((c_.cells.getD ((x9).toNat) 0).toNat) 0))
  else none
 else
  bif (decide (x7>c_.hi)) then
   some (List.replicate pos.length (0:Int),false)
  else
   bif (decide (x8<c_.lo)) then
    some (List.replicate pos.length (0:Int),false)
   else
    self (.l3 (List.replicate pos.length (0:Int)) x7 x8 0)
def zK8 (n:Nat) (self:zDQ→Option ((List Int)×Bool)) (c_:zAC) (pos:List Int) (x7 x8 x9 x10:Int):Option ((List Int)×Bool):=
 bif ((bits .and .i64 x10 c_.set) != 0) then
  if R64 (x8+1) then
   self (.l4 x7 (x8+1) x9)
  else none
 else
  self (.l4 x7 x8 x9)
def zFn (n:Nat) (self:zDQ→Option ((List Int)×Bool)) (c_:zAC) (pos:List Int) (x6:List Int) (x7 x8 x11:Int):Option ((List Int)×Bool):=
 bif (decide (x11<(c_.cells.length:Int))) then
  if (0≤x11∧x11<(c_.cells.length:Int))∧(0≤(c_.cells.getD ((x11).toNat) 0)∧(c_.cells.getD ((x11).toNat) 0)<(pos.length:Int)) then
   bif (x7==c_.hi) then
    bif ((bits .and .i64 (pos.getD ((c_.cells.getD ((x11).toNat) 0).toNat) 0) c_.set) != (pos.getD ((c_.cells.getD ((x11).toNat) 0).toNat) 0)) then
     (zEM n x6 (c_.cells.getD ((x11).toNat) 0) (bits .and .i64 (pos.getD ((c_.cells.getD ((x11).toNat) 0).toNat) 0) c_.set)).bind fun y1=>
      self (.l5 y1 x7 x8 x11 (pos.getD ((c_.cells.getD ((x11).toNat) 0).toNat) 0))
    else
     self (.l5 x6 x7 x8 x11 (pos.getD ((c_.cells.getD ((x11).toNat) 0).toNat) 0))
   else
    self (.l5 x6 x7 x8 x11 (pos.getD ((c_.cells.getD ((x11).toNat) 0).toNat) 0))
  else none
 else
  some (x6,true)
def zK7 (n:Nat) (self:zDQ→Option ((List Int)×Bool)) (c_:zAC) (pos:List Int) (x7 x8 x9:Int):Option ((List Int)×Bool):=
 if R64 (x9+1) then
  self (.l1 x7 x8 (x9+1))
 else none
def zK6 (n:Nat) (self:zDQ→Option ((List Int)×Bool)) (c_:zAC) (pos:List Int) (x6:List Int) (x7 x8 x11 x12:Int):Option ((List Int)×Bool):=
 bif (x8==c_.lo) then
  bif ((bits .and .i64 x12 c_.set) != 0) then
   if (0≤x11∧x11<(c_.cells.length:Int))∧R64 (x12-(bits .and .i64 x12 c_.set)) then
    (zEM n x6 (c_.cells.getD ((x11).toNat) 0) (x12-(bits .and .i64 x12 c_.set))).bind fun y1=>
     self (.l6 y1 x7 x8 x11)
   else none
  else
   self (.l6 x6 x7 x8 x11)
 else
  self (.l6 x6 x7 x8 x11)
def zK5 (n:Nat) (self:zDQ→Option ((List Int)×Bool)) (c_:zAC) (pos:List Int) (x6:List Int) (x7 x8 x11:Int):Option ((List Int)×Bool):=
 if R64 (x11+1) then
  self (.l3 x6 x7 x8 (x11+1))
 else none
def zPh (n:Nat) (self:zDQ→Option ((List Int)×Bool)) (c_:zAC) (pos:List Int):Option ((List Int)×Bool):=
 if pos.length=(List.replicate pos.length (0:Int)).length∧(((pos.length:Int):Int)=(pos.length:Int)∧0≤(pos.length:Int)∧((pos.length:Int):Int)≤1000000000000) then
  self (.l1 0 0 0)
 else none
def zAV (c_:zAC) (pos:List Int):Nat→zDQ→Option ((List Int)×Bool)
 | 0,_=>none
 | n+1,.l1 x7 x8 x9=>zCT n (zAV c_ pos n) c_ pos x7 x8 x9
 | n+1,.l2 x7 x8 x9 x10=>zK8 n (zAV c_ pos n) c_ pos x7 x8 x9 x10
 | n+1,.l3 x6 x7 x8 x11=>zFn n (zAV c_ pos n) c_ pos x6 x7 x8 x11
 | n+1,.l4 x7 x8 x9=>zK7 n (zAV c_ pos n) c_ pos x7 x8 x9
 | n+1,.l5 x6 x7 x8 x11 x12=>zK6 n (zAV c_ pos n) c_ pos x6 x7 x8 x11 x12
 | n+1,.l6 x6 x7 x8 x11=>zK5 n (zAV c_ pos n) c_ pos x6 x7 x8 x11
def zSv (n:Nat) (c_:zAC) (pos:List Int):Option ((List Int)×Bool):=zPh n (zAV c_ pos n) c_ pos
def zXD (n B:Nat) (N:Yd 0) (c_:zAC) (pos:List Int) (r:(List Int)×Bool):zDQ→Prop
 | .l1 x7 x8 x9=>∀ m0:Nat,n≤m0→TW B N (FQ Tryz.f94 0 (.tup 2 (L1 [.ints r.1,.bool r.2])) []) (toN m0 (zA9 (zAK Tryz.f94) 0 [])) ⟨frm 120 [(1,.ints pos),(2,.ref 0 0),(6,.ints (List.replicate pos.length (0:Int))),(7,.i x7),(8,.i x8),(9,.i x9)],[some (.cells (zAF c_))]⟩
 | .l2 x7 x8 x9 x10=>∀ m0:Nat,n≤m0→TW B N (FQ Tryz.f94 0 (.tup 2 (L1 [.ints r.1,.bool r.2])) []) (zEd (zAK Tryz.f94) 10 [m0]) ⟨frm 120 [(1,.ints pos),(2,.ref 0 0),(6,.ints (List.replicate pos.length (0:Int))),(7,.i x7),(8,.i x8),(9,.i x9),(10,.i x10)],[some (.cells (zAF c_))]⟩
 | .l3 x6 x7 x8 x11=>∀ m0:Nat,n≤m0→TW B N (FQ Tryz.f94 0 (.tup 2 (L1 [.ints r.1,.bool r.2])) []) (toN m0 (zA9 (zAK Tryz.f94) 2 [])) ⟨frm 120 [(1,.ints pos),(2,.ref 0 0),(6,.ints x6),(7,.i x7),(8,.i x8),(11,.i x11)],[some (.cells (zAF c_))]⟩
 | .l4 x7 x8 x9=>∀ m0:Nat,n≤m0→TW B N (FQ Tryz.f94 0 (.tup 2 (L1 [.ints r.1,.bool r.2])) []) (zEd (zAK Tryz.f94) 6 [m0]) ⟨frm 120 [(1,.ints pos),(2,.ref 0 0),(6,.ints (List.replicate pos.length (0:Int))),(7,.i x7),(8,.i x8),(9,.i x9)],[some (.cells (zAF c_))]⟩
 | .l5 x6 x7 x8 x11 x12=>∀ m0:Nat,n≤m0→TW B N (FQ Tryz.f94 0 (.tup 2 (L1 [.ints r.1,.bool r.2])) []) (zEd (zAK Tryz.f94) 20 [m0]) ⟨frm 120 [(1,.ints pos),(2,.ref 0 0),(6,.ints x6),(7,.i x7),(8,.i x8),(11,.i x11),(12,.i x12)],[some (.cells (zAF c_))]⟩
 | .l6 x6 x7 x8 x11=>∀ m0:Nat,n≤m0→TW B N (FQ Tryz.f94 0 (.tup 2 (L1 [.ints r.1,.bool r.2])) []) (zEd (zAK Tryz.f94) 16 [m0]) ⟨frm 120 [(1,.ints pos),(2,.ref 0 0),(6,.ints x6),(7,.i x7),(8,.i x8),(11,.i x11)],[some (.cells (zAF c_))]⟩
theorem zUT (B:Nat) (N:Yd 0) (c_:zAC) (pos:List Int):Al (zAV c_ pos) (zXD · B N c_ pos):=ia (fun _=>rfl) fun n hself pt r h=>by
 cases pt
 case l1 x7 x8 x9=>
  intro m0 hm0
  refine rd hm0 fun m0 hm0=>?_
  revert r
  apply gO
  exact bi 20 (gc (gi (gi (bi 36 (gw 38 (lG (zAA 20 (zAA 16 (zAA 10 (zAA 6 zAg)))) [0] (hself _ _ · m0 hm0))) (lG (zAA 20 (zAA 16 (zAA 10 (zAA 6 zAg)))) [0] (hself _ _ · m0 hm0)))))) (bi 49 (lE (zAA 20 (zAA 16 (zAA 10 (zAA 6 zAg)))) [4,5] []) (bi 54 (lE (zAA 20 (zAA 16 (zAA 10 (zAA 6 zAg)))) [4,5] []) (lN (zAA 20 (zAA 16 (zAA 10 (zAA 6 zAg)))) [0] (hself _ _ · n Nat.le.refl))))
 case l2 x7 x8 x9 x10=>
  intro m0 hm0
  have hm0:=Nat.le_of_succ_le hm0
  revert r
  apply gO
  exact bi 43 (gw 45 (lG (zAA 20 (zAA 16 (zAA 6 zAg))) [0] (hself _ _ · m0 hm0))) (lG (zAA 20 (zAA 16 (zAA 6 zAg))) [0] (hself _ _ · m0 hm0))
 case l3 x6 x7 x8 x11=>
  intro m0 hm0
  refine rd hm0 fun m0 hm0=>?_
  revert r
  apply gO
  exact bi 61 (gc (gn fun g0=>jg g0 (gi (bi 75 (bi 82 (jg zRG (jg g0 (cf zCs [some (.cells (zAF c_))] fun _=>lG (zAA 20 (zAA 16 (zAA 10 (zAA 6 zAg)))) [0] (hself _ _ · m0 hm0)))) (lG (zAA 20 (zAA 16 (zAA 10 (zAA 6 zAg)))) [0] (hself _ _ · m0 hm0))) (lG (zAA 20 (zAA 16 (zAA 10 (zAA 6 zAg)))) [0] (hself _ _ · m0 hm0)))))) (lE (zAA 20 (zAA 16 (zAA 10 (zAA 6 zAg)))) [4,5] [])
 case l4 x7 x8 x9=>
  intro m0 hm0
  have hm0:=Nat.le_of_succ_le hm0
  revert r
  apply gO
  exact gw 22 (lG (zAA 20 (zAA 16 (zAA 10 zAg))) [0] (hself _ _ · m0 hm0))
 case l5 x6 x7 x8 x11 x12=>
  intro m0 hm0
  have hm0:=Nat.le_of_succ_le hm0
  revert r
  apply gO
  exact bi 98 (bi 104 (jg zRF (gc (gi (gw 117 (cf zCs [some (.cells (zAF c_))] fun _=>lG (zAA 16 (zAA 10 (zAA 6 zAg))) [0] (hself _ _ · m0 hm0)))))) (lG (zAA 16 (zAA 10 (zAA 6 zAg))) [0] (hself _ _ · m0 hm0))) (lG (zAA 16 (zAA 10 (zAA 6 zAg))) [0] (hself _ _ · m0 hm0))
 case l6 x6 x7 x8 x11=>
  intro m0 hm0
  have hm0:=Nat.le_of_succ_le hm0
  revert r
  apply gO
  exact gw 63 (lG (zAA 20 (zAA 10 (zAA 6 zAg))) [0] (hself _ _ · m0 hm0))
theorem zXB {n:Nat} {c_:zAC} {pos:List Int} {r:(List Int)×Bool} (h:zSv n c_ pos=some r):EQ 94 [.agg 9 (L1 (zAF c_)),.ints pos] [] (.tup 2 (L1 [.ints r.1,.bool r.2])) [] true:=by
 refine ot Tryz.func94 fun B N=>?_
 revert r
 apply gO
 exact gc (gn fun g0=>gi (jz 15 1 (jg g0 (lN (zAA 20 (zAA 16 (zAA 10 (zAA 6 zAg)))) [0] ((zUT B N c_ pos n) _ _ · n Nat.le.refl)))))
inductive zJx where
 | l1 (x5 x6:Int)
def zFl (n:Nat) (self:zJx→Option Int) (q:zAB) (set_:Int) (x5 x6:Int):Option Int:=
 bif (decide (x6<q.symbols)) then
  (zPa n set_ x6).bind fun y1=>
   bif y1 then
    bif (decide (x5<0)) then
     if (0≤x6∧x6<(q.values.length:Int))∧R64 (x6+1) then
      self (.l1 (q.values.getD ((x6).toNat) 0) (x6+1))
     else none
    else
     if 0≤x6∧x6<(q.values.length:Int) then
      bif (decide ((q.values.getD ((x6).toNat) 0)<x5)) then
       if R64 (x6+1) then
        self (.l1 (q.values.getD ((x6).toNat) 0) (x6+1))
       else none
      else
       if R64 (x6+1) then
        self (.l1 x5 (x6+1))
       else none
     else none
   else
    if R64 (x6+1) then
     self (.l1 x5 (x6+1))
    else none
 else
  some x5
def zW4 (n:Nat) (self:zJx→Option Int) (q:zAB) (set_:Int):Option Int:=
 self (.l1 (-1) 0)
def zCS (q:zAB) (set_:Int):Nat→zJx→Option Int
 | 0,_=>none
 | n+1,.l1 x5 x6=>zFl n (zCS q set_ n) q set_ x5 x6
def zMi (n:Nat) (q:zAB) (set_:Int):Option Int:=zW4 n (zCS q set_ n) q set_
def zW5 (n B:Nat) (N:Yd 0) (q:zAB) (set_:Int) (r:Int):zJx→Prop
 | .l1 x5 x6=>∀ m0:Nat,n≤m0→TW B N (FQ Tryz.f116 0 (.i r) []) (toN m0 (zA9 (zAK Tryz.f116) 0 [])) ⟨frm 35 [(1,.i set_),(2,.ref 0 0),(5,.i x5),(6,.i x6)],[some (.cells (zAE q))]⟩
theorem zUR (B:Nat) (N:Yd 0) (q:zAB) (set_:Int):Al (zCS q set_) (zW5 · B N q set_):=ia (fun _=>rfl) fun n hself pt r h=>by
 cases pt
 case l1 x5 x6=>
  intro m0 hm0
  refine rd hm0 fun m0 hm0=>?_
  revert r
  apply gO
  exact bi 10 (cf zE0 [some (.cells (zAE q))] fun _=>bi 15 (bi 18 (gc (gi (gw 12 (lG zAH [0] (hself _ _ · m0 hm0))))) (gn fun g0=>jg g0 (bi 26 (jg g0 (gw 12 (lG zAH [0] (hself _ _ · m0 hm0)))) (gw 12 (lG zAH [0] (hself _ _ · m0 hm0)))))) (gw 12 (lG zAH [0] (hself _ _ · m0 hm0)))) (lE zAH [4] [])
theorem zPY {n:Nat} {q:zAB} {set_:Int} {r:Int} (h:zMi n q set_=some r):EQ 116 [.agg 5 (L1 (zAE q)),.i set_] [] (.i r) [] true:=by
 refine ot Tryz.func116 fun B N=>?_
 revert r
 apply gO
 exact lN zAH [0] ((zUR B N q set_ n) _ _ · n Nat.le.refl)
inductive zE2 where
 | l1 (x5 x6:Int)
def zC6 (n:Nat) (self:zE2→Option Int) (q:zAB) (set_:Int) (x5 x6:Int):Option Int:=
 bif (decide (x6<q.symbols)) then
  (zPa n set_ x6).bind fun y1=>
   bif y1 then
    if 0≤x6∧x6<(q.values.length:Int) then
     bif (decide ((q.values.getD ((x6).toNat) 0)>x5)) then
      if R64 (x6+1) then
       self (.l1 (q.values.getD ((x6).toNat) 0) (x6+1))
      else none
     else
      if R64 (x6+1) then
       self (.l1 x5 (x6+1))
      else none
    else none
   else
    if R64 (x6+1) then
     self (.l1 x5 (x6+1))
    else none
 else
  some x5
def zPb (n:Nat) (self:zE2→Option Int) (q:zAB) (set_:Int):Option Int:=
 self (.l1 (-1) 0)
def zBO (q:zAB) (set_:Int):Nat→zE2→Option Int
 | 0,_=>none
 | n+1,.l1 x5 x6=>zC6 n (zBO q set_ n) q set_ x5 x6
def zEN (n:Nat) (q:zAB) (set_:Int):Option Int:=zPb n (zBO q set_ n) q set_
def zPc (n B:Nat) (N:Yd 0) (q:zAB) (set_:Int) (r:Int):zE2→Prop
 | .l1 x5 x6=>∀ m0:Nat,n≤m0→TW B N (FQ Tryz.f117 0 (.i r) []) (toN m0 (zA9 (zAK Tryz.f117) 0 [])) ⟨frm 31 [(1,.i set_),(2,.ref 0 0),(5,.i x5),(6,.i x6)],[some (.cells (zAE q))]⟩
theorem zNs (B:Nat) (N:Yd 0) (q:zAB) (set_:Int):Al (zBO q set_) (zPc · B N q set_):=ia (fun _=>rfl) fun n hself pt r h=>by
 cases pt
 case l1 x5 x6=>
  intro m0 hm0
  refine rd hm0 fun m0 hm0=>?_
  revert r
  apply gO
  exact bi 10 (cf zE0 [some (.cells (zAE q))] fun _=>bi 15 (gn fun g0=>jg g0 (bi 23 (jg g0 (gw 12 (lG zAH [0] (hself _ _ · m0 hm0)))) (gw 12 (lG zAH [0] (hself _ _ · m0 hm0))))) (gw 12 (lG zAH [0] (hself _ _ · m0 hm0)))) (lE zAH [4] [])
theorem zJW {n:Nat} {q:zAB} {set_:Int} {r:Int} (h:zEN n q set_=some r):EQ 117 [.agg 5 (L1 (zAE q)),.i set_] [] (.i r) [] true:=by
 refine ot Tryz.func117 fun B N=>?_
 revert r
 apply gO
 exact lN zAH [0] ((zNs B N q set_ n) _ _ · n Nat.le.refl)
theorem zZP:SOk (zBa Tryz.f95 7) [([0,1,2,3,4,5,6,7,8,9],10)] [11,12] []:=by unfold SOk;kernel_rfl
theorem zZO:SOk (zBa Tryz.f95 8) [([0,1,2,3,4,5,6,7,8,9],10)] [11,12] []:=by unfold SOk;kernel_rfl
theorem zWG:SOk (zBa Tryz.f95 18) [([0,1],2),([3,4,5,6,9,10,11,12,13,15,16],7),([8,14,17,18,19,20,21,24,25,26,27,28,30,31],22)] [23,29,32,33,34] []:=by unfold SOk;kernel_rfl
theorem zO1:SOk (zBa Tryz.f95 19) [([0,1,2,3,4,5,6,7],8)] [9] []:=by unfold SOk;kernel_rfl
def zBl:Sch:=fun i=>match i with
 | 7=>.ord [([0,1,2,3,4,5,6,7,8,9],10)] [11,12] []
 | 8=>.ord [([0,1,2,3,4,5,6,7,8,9],10)] [11,12] []
 | 18=>.ord [([0,1],2),([3,4,5,6,9,10,11,12,13,15,16],7),([8,14,17,18,19,20,21,24,25,26,27,28,30,31],22)] [23,29,32,33,34] []
 | 19=>.ord [([0,1,2,3,4,5,6,7],8)] [9] []
 | _=>.no
inductive zKy where
 | l1 (x9 x10 x11:Int)
 | l2 (x8:List Int) (x9 x10 x12:Int)
 | l3 (x8:List Int) (x9 x10 x12 x13 x14:Int)
 | l4 (x8:List Int) (x9 x10 x12 x13 x14:Int)
def zEt (n:Nat) (self:zKy→Option ((List Int)×Bool)) (q:zAB) (c_:zAC) (pos:List Int) (x9 x10 x11:Int):Option ((List Int)×Bool):=
 bif (decide (x11<(c_.cells.length:Int))) then
  if (0≤x11∧x11<(c_.cells.length:Int))∧(0≤(c_.cells.getD ((x11).toNat) 0)∧(c_.cells.getD ((x11).toNat) 0)<(pos.length:Int)) then
   (zMi n q (pos.getD ((c_.cells.getD ((x11).toNat) 0).toNat) 0)).bind fun y1=>
    if R64 (x9+y1) then
     (zEN n q (pos.getD ((c_.cells.getD ((x11).toNat) 0).toNat) 0)).bind fun y2=>
      if R64 (x10+y2)∧R64 (x11+1) then
       self (.l1 (x9+y1) (x10+y2) (x11+1))
      else none
    else none
  else none
 else
  bif (decide (x9>c_.hi)) then
   some (List.replicate pos.length (0:Int),false)
  else
   bif (decide (x10<c_.lo)) then
    some (List.replicate pos.length (0:Int),false)
   else
    self (.l2 (List.replicate pos.length (0:Int)) x9 x10 0)
def zKx (n:Nat) (self:zKy→Option ((List Int)×Bool)) (q:zAB) (c_:zAC) (pos:List Int) (x8:List Int) (x9 x10 x12:Int):Option ((List Int)×Bool):=
 bif (decide (x12<(c_.cells.length:Int))) then
  if (0≤x12∧x12<(c_.cells.length:Int))∧(0≤(c_.cells.getD ((x12).toNat) 0)∧(c_.cells.getD ((x12).toNat) 0)<(pos.length:Int)) then
   self (.l3 x8 x9 x10 x12 (pos.getD ((c_.cells.getD ((x12).toNat) 0).toNat) 0) 0)
  else none
 else
  some (x8,true)
def zKw (n:Nat) (self:zKy→Option ((List Int)×Bool)) (q:zAB) (c_:zAC) (pos:List Int) (x8:List Int) (x9 x10 x12 x13 x14:Int):Option ((List Int)×Bool):=
 bif (decide (x14<q.symbols)) then
  (zPa n x13 x14).bind fun y1=>
   bif y1 then
    if 0≤x14∧x14<(q.values.length:Int) then
     (zMi n q x13).bind fun y2=>
      if R64 (x9-y2)∧R64 ((x9-y2)+(q.values.getD ((x14).toNat) 0)) then
       bif (decide (((x9-y2)+(q.values.getD ((x14).toNat) 0))>c_.hi)) then
        if (0≤x12∧x12<(c_.cells.length:Int))∧(0≤x14∧x14≤(IntKind.i64.bits:Int)) then
         (zEM n x8 (c_.cells.getD ((x12).toNat) 0) (IntKind.i64.wrap (1*2 ^ (x14).toNat))).bind fun y3=>
          self (.l4 y3 x9 x10 x12 x13 x14)
        else none
       else
        (zEN n q x13).bind fun y3=>
         if R64 (x10-y3)∧R64 ((x10-y3)+(q.values.getD ((x14).toNat) 0)) then
          bif (decide (((x10-y3)+(q.values.getD ((x14).toNat) 0))<c_.lo)) then
           if (0≤x12∧x12<(c_.cells.length:Int))∧(0≤x14∧x14≤(IntKind.i64.bits:Int)) then
            (zEM n x8 (c_.cells.getD ((x12).toNat) 0) (IntKind.i64.wrap (1*2 ^ (x14).toNat))).bind fun y4=>
             self (.l4 y4 x9 x10 x12 x13 x14)
           else none
          else
           self (.l4 x8 x9 x10 x12 x13 x14)
         else none
      else none
    else none
   else
    self (.l4 x8 x9 x10 x12 x13 x14)
 else
  if R64 (x12+1) then
   self (.l2 x8 x9 x10 (x12+1))
  else none
def zRN (n:Nat) (self:zKy→Option ((List Int)×Bool)) (q:zAB) (c_:zAC) (pos:List Int) (x8:List Int) (x9 x10 x12 x13 x14:Int):Option ((List Int)×Bool):=
 if R64 (x14+1) then
  self (.l3 x8 x9 x10 x12 x13 (x14+1))
 else none
def zWs (n:Nat) (self:zKy→Option ((List Int)×Bool)) (q:zAB) (c_:zAC) (pos:List Int):Option ((List Int)×Bool):=
 if pos.length=(List.replicate pos.length (0:Int)).length∧(((pos.length:Int):Int)=(pos.length:Int)∧0≤(pos.length:Int)∧((pos.length:Int):Int)≤1000000000000) then
  self (.l1 0 0 0)
 else none
def zBd (q:zAB) (c_:zAC) (pos:List Int):Nat→zKy→Option ((List Int)×Bool)
 | 0,_=>none
 | n+1,.l1 x9 x10 x11=>zEt n (zBd q c_ pos n) q c_ pos x9 x10 x11
 | n+1,.l2 x8 x9 x10 x12=>zKx n (zBd q c_ pos n) q c_ pos x8 x9 x10 x12
 | n+1,.l3 x8 x9 x10 x12 x13 x14=>zKw n (zBd q c_ pos n) q c_ pos x8 x9 x10 x12 x13 x14
 | n+1,.l4 x8 x9 x10 x12 x13 x14=>zRN n (zBd q c_ pos n) q c_ pos x8 x9 x10 x12 x13 x14
def zdT (n:Nat) (q:zAB) (c_:zAC) (pos:List Int):Option ((List Int)×Bool):=zWs n (zBd q c_ pos n) q c_ pos
def zbu (n B:Nat) (N:Yd 0) (q:zAB) (c_:zAC) (pos:List Int) (r:(List Int)×Bool):zKy→Prop
 | .l1 x9 x10 x11=>∀ m0:Nat,n≤m0→TW B N (FQ Tryz.f95 0 (.tup 2 (L1 [.ints r.1,.bool r.2])) []) (toN m0 (zA9 (zAK Tryz.f95) 0 [])) ⟨frm 126 [(2,.ints pos),(3,.ref 0 0),(4,.ref 1 0),(8,.ints (List.replicate pos.length (0:Int))),(9,.i x9),(10,.i x10),(11,.i x11)],[some (.cells (zAE q)),some (.cells (zAF c_))]⟩
 | .l2 x8 x9 x10 x12=>∀ m0:Nat,n≤m0→TW B N (FQ Tryz.f95 0 (.tup 2 (L1 [.ints r.1,.bool r.2])) []) (toN m0 (zA9 (zAK Tryz.f95) 2 [])) ⟨frm 126 [(2,.ints pos),(3,.ref 0 0),(4,.ref 1 0),(8,.ints x8),(9,.i x9),(10,.i x10),(12,.i x12)],[some (.cells (zAE q)),some (.cells (zAF c_))]⟩
 | .l3 x8 x9 x10 x12 x13 x14=>∀ m0 m1:Nat,n≤m0→n≤m1→TW B N (FQ Tryz.f95 0 (.tup 2 (L1 [.ints r.1,.bool r.2])) []) (toN m1 (zA9 (zAK Tryz.f95) 4 [m0])) ⟨frm 126 [(2,.ints pos),(3,.ref 0 0),(4,.ref 1 0),(8,.ints x8),(9,.i x9),(10,.i x10),(12,.i x12),(13,.i x13),(14,.i x14)],[some (.cells (zAE q)),some (.cells (zAF c_))]⟩
 | .l4 x8 x9 x10 x12 x13 x14=>∀ m0 m1:Nat,n≤m0→n≤m1→TW B N (FQ Tryz.f95 0 (.tup 2 (L1 [.ints r.1,.bool r.2])) []) (zEd (zAK Tryz.f95) 17 [m0,m1]) ⟨frm 126 [(2,.ints pos),(3,.ref 0 0),(4,.ref 1 0),(8,.ints x8),(9,.i x9),(10,.i x10),(12,.i x12),(13,.i x13),(14,.i x14)],[some (.cells (zAE q)),some (.cells (zAF c_))]⟩
theorem zZl (B:Nat) (N:Yd 0) (q:zAB) (c_:zAC) (pos:List Int):Al (zBd q c_ pos) (zbu · B N q c_ pos):=ia (fun _=>rfl) fun n hself pt r h=>by
 cases pt
 case l1 x9 x10 x11=>
  intro m0 hm0
  refine rd hm0 fun m0 hm0=>?_
  revert r
  apply gO
  exact bi 22 (jg zZP (gc (gn fun g0=>jg g0 (gn fun g1=>jg g1 (cf zPY [some (.cells (zAE q)),some (.cells (zAF c_))] fun _=>gw 36 (jg zZO (jg g0 (jg g1 (cf zJW [some (.cells (zAE q)),some (.cells (zAF c_))] fun _=>gc (gw 48 (gw 24 (lG (zAA 17 zBl) [0,1] (hself _ _ · m0 hm0))))))))))))) (bi 52 (lE (zAA 17 zBl) [6,7] []) (bi 57 (lE (zAA 17 zBl) [6,7] []) (lN (zAA 17 zBl) [0,1] (hself _ _ · n Nat.le.refl))))
 case l2 x8 x9 x10 x12=>
  intro m0 hm0
  refine rd hm0 fun m0 hm0=>?_
  revert r
  apply gO
  exact bi 64 (gc (gi (gi (lN (zAA 17 zBl) [0,1] (hself _ _ · m0 n hm0 Nat.le.refl))))) (lE (zAA 17 zBl) [6,7] [])
 case l3 x8 x9 x10 x12 x13 x14=>
  intro m0 m1 hm0 hm1
  have hm0:=Nat.le_of_succ_le hm0
  refine rd hm1 fun m1 hm1=>?_
  revert r
  apply gO
  exact bi 78 (jg zWG (cf zE0 [some (.cells (zAE q)),some (.cells (zAF c_))] fun _=>bi 83 (gn fun g0=>jg g0 (cf zPY [some (.cells (zAE q)),some (.cells (zAF c_))] fun _=>gc (gw 89 (gw 95 (bi 98 (jg zO1 (gc (gi (gi (cf zCs [some (.cells (zAE q)),some (.cells (zAF c_))] fun _=>lG (zAA 17 zBl) [0,1] (hself _ _ · m0 m1 hm0 hm1)))))) (jg g0 (cf zJW [some (.cells (zAE q)),some (.cells (zAF c_))] fun _=>gc (gw 104 (gw 110 (bi 113 (jg zO1 (gc (gi (gi (cf zCs [some (.cells (zAE q)),some (.cells (zAF c_))] fun _=>lG (zAA 17 zBl) [0,1] (hself _ _ · m0 m1 hm0 hm1)))))) (lG (zAA 17 zBl) [0,1] (hself _ _ · m0 m1 hm0 hm1)))))))))))) (lG (zAA 17 zBl) [0,1] (hself _ _ · m0 m1 hm0 hm1)))) (gw 66 (lG (zAA 17 zBl) [0,1] (hself _ _ · m0 hm0)))
 case l4 x8 x9 x10 x12 x13 x14=>
  intro m0 m1 hm0 hm1
  have hm0:=Nat.le_of_succ_le hm0
  have hm1:=Nat.le_of_succ_le hm1
  revert r
  apply gO
  exact gw 80 (lG zBl [0,1] (hself _ _ · m0 m1 hm0 hm1))
theorem zbs {n:Nat} {q:zAB} {c_:zAC} {pos:List Int} {r:(List Int)×Bool} (h:zdT n q c_ pos=some r):EQ 95 [.agg 5 (L1 (zAE q)),.agg 9 (L1 (zAF c_)),.ints pos] [] (.tup 2 (L1 [.ints r.1,.bool r.2])) [] true:=by
 refine ot Tryz.func95 fun B N=>?_
 revert r
 apply gO
 exact gc (gn fun g0=>gi (jz 17 2 (jg g0 (lN (zAA 17 zBl) [0,1] ((zZl B N q c_ pos n) _ _ · n Nat.le.refl)))))
theorem zTw:SOk (zBa Tryz.f123 6) [([0,1,2,3,4,5,6,7,8],9),([10,11,12,13,14,15,16,17,18,19,20,21,22,23,24,25,26,27,28,29,30,31,32,33,34,35,36,37,38,39,40,41],42)] [43] []:=by unfold SOk;kernel_rfl
def zBV:Sch:=fun i=>match i with
 | 6=>.ord [([0,1,2,3,4,5,6,7,8],9),([10,11,12,13,14,15,16,17,18,19,20,21,22,23,24,25,26,27,28,29,30,31,32,33,34,35,36,37,38,39,40,41],42)] [43] []
 | _=>.no
inductive zJw where
 | l1 (x15:Int)
def zFg (n:Nat) (rec:zAB→zAC→(List Int)→Int→Int→Int→Int→Option Bool) (self:zJw→Option Bool) (q:zAB) (c_:zAC) (pos:List Int) (from_ value at_ s_:Int) (x15:Int):Option Bool:=
 bif (decide (x15<q.symbols)) then
  if (0≤from_∧from_<(c_.cells.length:Int))∧(0≤(c_.cells.getD ((from_).toNat) 0)∧(c_.cells.getD ((from_).toNat) 0)<(pos.length:Int)) then
   (zPa n (pos.getD ((c_.cells.getD ((from_).toNat) 0).toNat) 0) x15).bind fun y1=>
    bif y1 then
     bif (from_ != at_) then
      if 0≤x15∧x15<(q.values.length:Int) then
       bif (decide ((q.values.getD ((x15).toNat) 0)>value)) then
        if R64 (from_+1) then
         (rec q c_ pos (from_+1) (q.values.getD ((x15).toNat) 0) at_ s_).bind fun y2=>
          bif y2 then
           some true
          else
           if R64 (x15+1) then
            self (.l1 (x15+1))
           else none
        else none
       else
        if R64 (x15+1) then
         self (.l1 (x15+1))
        else none
      else none
     else
      bif (x15==s_) then
       if 0≤x15∧x15<(q.values.length:Int) then
        bif (decide ((q.values.getD ((x15).toNat) 0)>value)) then
         if R64 (from_+1) then
          (rec q c_ pos (from_+1) (q.values.getD ((x15).toNat) 0) at_ s_).bind fun y2=>
           bif y2 then
            some true
           else
            if R64 (x15+1) then
             self (.l1 (x15+1))
            else none
         else none
        else
         if R64 (x15+1) then
          self (.l1 (x15+1))
         else none
       else none
      else
       if R64 (x15+1) then
        self (.l1 (x15+1))
       else none
    else
     if R64 (x15+1) then
      self (.l1 (x15+1))
     else none
  else none
 else
  some false
def zFh (n:Nat) (rec:zAB→zAC→(List Int)→Int→Int→Int→Int→Option Bool) (self:zJw→Option Bool) (q:zAB) (c_:zAC) (pos:List Int) (from_ value at_ s_:Int):Option Bool:=
 bif (from_==(c_.cells.length:Int)) then
  some true
 else
  self (.l1 0)
def zDq (rec:zAB→zAC→(List Int)→Int→Int→Int→Int→Option Bool) (q:zAB) (c_:zAC) (pos:List Int) (from_ value at_ s_:Int):Nat→zJw→Option Bool
 | 0,_=>none
 | n+1,.l1 x15=>zFg n rec (zDq rec q c_ pos from_ value at_ s_ n) q c_ pos from_ value at_ s_ x15
def zGp:Nat→zAB→zAC→(List Int)→Int→Int→Int→Int→Option Bool
 | 0,_,_,_,_,_,_,_=>none
 | n+1,q,c_,pos,from_,value,at_,s_=>zFh n (zGp n) (zDq (zGp n) q c_ pos from_ value at_ s_ n) q c_ pos from_ value at_ s_
def zWw (n B:Nat) (N:Yd 0) (q:zAB) (c_:zAC) (pos:List Int) (from_ value at_ s_:Int) (r:Bool):zJw→Prop
 | .l1 x15=>∀ m0:Nat,n≤m0→TW B N (FQ Tryz.f123 0 (.bool r) []) (toN m0 (zA9 (zAK Tryz.f123) 0 [])) ⟨frm 71 [(2,.ints pos),(3,.i from_),(4,.i value),(5,.i at_),(6,.i s_),(7,.ref 0 0),(8,.ref 1 0),(15,.i x15)],[some (.cells (zAE q)),some (.cells (zAF c_))]⟩
theorem zUK (B:Nat) (N:Yd 0) (rec:zAB→zAC→(List Int)→Int→Int→Int→Int→Option Bool) (hrec: ∀ {q:zAB} {c_:zAC} {pos:List Int} {from_ value at_ s_:Int} {r:Bool},rec q c_ pos from_ value at_ s_=some r→EQ 123 [.agg 5 (L1 (zAE q)),.agg 9 (L1 (zAF c_)),.ints pos,.i from_,.i value,.i at_,.i s_] [] (.bool r) [] true) (q:zAB) (c_:zAC) (pos:List Int) (from_ value at_ s_:Int):Al (zDq rec q c_ pos from_ value at_ s_) (zWw · B N q c_ pos from_ value at_ s_):=ia (fun _=>rfl) fun n hself pt r h=>by
 cases pt
 case l1 x15=>
  intro m0 hm0
  refine rd hm0 fun m0 hm0=>?_
  revert r
  apply gO
  exact bi 24 (jg zTw (gc (gi (gi (cf zE0 [some (.cells (zAE q)),some (.cells (zAF c_))] fun _=>bi 36 (bi 40 (gn fun g2=>jg g2 (bi 54 (gw 61 (jg g2 (cn fun y2 hy2=>jc (fb (hrec hy2) [some (.cells (zAE q)),some (.cells (zAF c_))]) (bi 69 (lE zBV [14] []) (gw 26 (lG zBV [0,1] (hself _ _ · m0 hm0))))))) (gw 26 (lG zBV [0,1] (hself _ _ · m0 hm0))))) (bi 44 (gn fun g2=>jg g2 (bi 54 (gw 61 (jg g2 (cn fun y2 hy2=>jc (fb (hrec hy2) [some (.cells (zAE q)),some (.cells (zAF c_))]) (bi 69 (lE zBV [14] []) (gw 26 (lG zBV [0,1] (hself _ _ · m0 hm0))))))) (gw 26 (lG zBV [0,1] (hself _ _ · m0 hm0))))) (gw 26 (lG zBV [0,1] (hself _ _ · m0 hm0))))) (gw 26 (lG zBV [0,1] (hself _ _ · m0 hm0)))))))) (lE zBV [14] [])
theorem zWv {n:Nat}: ∀ {q:zAB} {c_:zAC} {pos:List Int} {from_ value at_ s_:Int} {r:Bool} (h:zGp n q c_ pos from_ value at_ s_=some r),EQ 123 [.agg 5 (L1 (zAE q)),.agg 9 (L1 (zAF c_)),.ints pos,.i from_,.i value,.i at_,.i s_] [] (.bool r) [] true:=by
 induction n with
 | zero=>intro q c_ pos from_ value at_ s_ r h;cases h
 | succ n hrec=>
  intro q c_ pos from_ value at_ s_ r h
  refine ot Tryz.func123 fun B N=>?_
  revert r
  apply gO
  exact bi 20 (lE zBV [14] []) (lN zBV [0,1] ((zUK B N (zGp n) hrec q c_ pos from_ value at_ s_ n) _ _ · n Nat.le.refl))
inductive zG3 where
 | l1
 | l2
 | l3
 | l4
def zHk (n:Nat) (rec:zAC→(List Int)→Int→Int→Int→Int→Bool→Option Bool) (self:zG3→Option Bool) (c_:zAC) (pos:List Int) (from_ done length_ at_:Int) (in_:Bool):Option Bool:=
 bif (from_==(c_.cells.length:Int)) then
  bif (decide (length_>0)) then
   if R64 (done+1) then
    bif ((done+1)==(c_.runs.length:Int)) then
     if 0≤done∧done<(c_.runs.length:Int) then
      some (length_==(c_.runs.getD ((done).toNat) 0))
     else none
    else
     some false
   else none
  else
   some (done==(c_.runs.length:Int))
 else
  self (.l2)
def zNp (n:Nat) (rec:zAC→(List Int)→Int→Int→Int→Int→Bool→Option Bool) (self:zG3→Option Bool) (c_:zAC) (pos:List Int) (from_ done length_ at_:Int) (in_:Bool):Option Bool:=
 if (0≤from_∧from_<(c_.cells.length:Int))∧(0≤(c_.cells.getD ((from_).toNat) 0)∧(c_.cells.getD ((from_).toNat) 0)<(pos.length:Int)) then
  bif ((bits .and .i64 (pos.getD ((c_.cells.getD ((from_).toNat) 0).toNat) 0) c_.set) != 0) then
   bif (from_ != at_) then
    if R64 (from_+1)∧R64 (length_+1) then
     (rec c_ pos (from_+1) done (length_+1) at_ in_).bind fun y1=>
      bif y1 then
       some true
      else
       self (.l3)
    else none
   else
    bif in_ then
     if R64 (from_+1)∧R64 (length_+1) then
      (rec c_ pos (from_+1) done (length_+1) at_ true).bind fun y1=>
       bif y1 then
        some true
       else
        self (.l3)
     else none
    else
     self (.l3)
  else
   self (.l3)
 else none
def zNo (n:Nat) (rec:zAC→(List Int)→Int→Int→Int→Int→Bool→Option Bool) (self:zG3→Option Bool) (c_:zAC) (pos:List Int) (from_ done length_ at_:Int) (in_:Bool):Option Bool:=
 bif ((bits .and .i64 (pos.getD ((c_.cells.getD ((from_).toNat) 0).toNat) 0) c_.set)==(pos.getD ((c_.cells.getD ((from_).toNat) 0).toNat) 0)) then
  some false
 else
  bif (from_==at_) then
   bif in_ then
    some false
   else
    self (.l4)
  else
   self (.l4)
def zNn (n:Nat) (rec:zAC→(List Int)→Int→Int→Int→Int→Bool→Option Bool) (self:zG3→Option Bool) (c_:zAC) (pos:List Int) (from_ done length_ at_:Int) (in_:Bool):Option Bool:=
 bif (length_==0) then
  if R64 (from_+1) then
   (rec c_ pos (from_+1) done 0 at_ in_).bind fun y1=>
    some y1
  else none
 else
  if 0≤done∧done<(c_.runs.length:Int) then
   bif (length_==(c_.runs.getD ((done).toNat) 0)) then
    if R64 (from_+1)∧R64 (done+1) then
     (rec c_ pos (from_+1) (done+1) 0 at_ in_).bind fun y1=>
      some y1
    else none
   else
    some false
  else none
def zEu (n:Nat) (rec:zAC→(List Int)→Int→Int→Int→Int→Bool→Option Bool) (self:zG3→Option Bool) (c_:zAC) (pos:List Int) (from_ done length_ at_:Int) (in_:Bool):Option Bool:=
 bif (decide (length_>0)) then
  bif (decide (done≥(c_.runs.length:Int))) then
   some false
  else
   if 0≤done∧done<(c_.runs.length:Int) then
    bif (decide (length_>(c_.runs.getD ((done).toNat) 0))) then
     some false
    else
     self (.l1)
   else none
 else
  self (.l1)
def zB5 (rec:zAC→(List Int)→Int→Int→Int→Int→Bool→Option Bool) (c_:zAC) (pos:List Int) (from_ done length_ at_:Int) (in_:Bool):Nat→zG3→Option Bool
 | 0,_=>none
 | n+1,.l1=>zHk n rec (zB5 rec c_ pos from_ done length_ at_ in_ n) c_ pos from_ done length_ at_ in_
 | n+1,.l2=>zNp n rec (zB5 rec c_ pos from_ done length_ at_ in_ n) c_ pos from_ done length_ at_ in_
 | n+1,.l3=>zNo n rec (zB5 rec c_ pos from_ done length_ at_ in_ n) c_ pos from_ done length_ at_ in_
 | n+1,.l4=>zNn n rec (zB5 rec c_ pos from_ done length_ at_ in_ n) c_ pos from_ done length_ at_ in_
def zDZ:Nat→zAC→(List Int)→Int→Int→Int→Int→Bool→Option Bool
 | 0,_,_,_,_,_,_,_=>none
 | n+1,c_,pos,from_,done,length_,at_,in_=>zEu n (zDZ n) (zB5 (zDZ n) c_ pos from_ done length_ at_ in_ n) c_ pos from_ done length_ at_ in_
def zZp (n B:Nat) (N:Yd 0) (c_:zAC) (pos:List Int) (from_ done length_ at_:Int) (in_:Bool) (r:Bool):zG3→Prop
 | .l1=>TW B N (FQ Tryz.f98 0 (.bool r) []) (zEd (zAK Tryz.f98) 3 []) ⟨frm 136 [(1,.ints pos),(2,.i from_),(3,.i done),(4,.i length_),(5,.i at_),(6,.bool in_),(7,.ref 0 0)],[some (.cells (zAF c_))]⟩
 | .l2=>TW B N (FQ Tryz.f98 0 (.bool r) []) (zEd (zAK Tryz.f98) 7 []) ⟨frm 136 [(1,.ints pos),(2,.i from_),(3,.i done),(4,.i length_),(5,.i at_),(6,.bool in_),(7,.ref 0 0)],[some (.cells (zAF c_))]⟩
 | .l3=>TW B N (FQ Tryz.f98 0 (.bool r) []) (zEd (zAK Tryz.f98) 10 []) ⟨frm 136 [(1,.ints pos),(2,.i from_),(3,.i done),(4,.i length_),(5,.i at_),(6,.bool in_),(7,.ref 0 0),(15,.i (pos.getD ((c_.cells.getD ((from_).toNat) 0).toNat) 0))],[some (.cells (zAF c_))]⟩
 | .l4=>TW B N (FQ Tryz.f98 0 (.bool r) []) (zEd (zAK Tryz.f98) 12 []) ⟨frm 136 [(1,.ints pos),(2,.i from_),(3,.i done),(4,.i length_),(5,.i at_),(6,.bool in_),(7,.ref 0 0)],[some (.cells (zAF c_))]⟩
theorem zPR (B:Nat) (N:Yd 0) (rec:zAC→(List Int)→Int→Int→Int→Int→Bool→Option Bool) (hrec: ∀ {c_:zAC} {pos:List Int} {from_ done length_ at_:Int} {in_:Bool} {r:Bool},rec c_ pos from_ done length_ at_ in_=some r→EQ 98 [.agg 9 (L1 (zAF c_)),.ints pos,.i from_,.i done,.i length_,.i at_,.bool in_] [] (.bool r) [] true) (c_:zAC) (pos:List Int) (from_ done length_ at_:Int) (in_:Bool):Al (zB5 rec c_ pos from_ done length_ at_ in_) (zZp · B N c_ pos from_ done length_ at_ in_):=ia (fun _=>rfl) fun n hself pt r h=>by
 cases pt
 case l1=>
  revert r
  apply gO
  exact bi 38 (bi 40 (gw 42 (bi 46 (gi (lE (zAA 12 (zAA 10 (zAA 7 zAH))) [14] [])) (lE (zAA 12 (zAA 10 (zAA 7 zAH))) [14] []))) (lE (zAA 12 (zAA 10 (zAA 7 zAH))) [14] [])) (lG (zAA 12 (zAA 10 (zAA 7 zAH))) [0] (hself _ _ ·))
 case l2=>
  revert r
  apply gO
  exact gc (gi (gi (bi 73 (bi 77 (gc (gw 86 (gw 89 (cn fun y1 hy1=>jc (fb (hrec hy1) [some (.cells (zAF c_))]) (bi 92 (lE (zAA 12 (zAA 10 (zAA 3 zAH))) [14] []) (lG (zAA 12 (zAA 10 (zAA 3 zAH))) [0] (hself _ _ ·))))))) (bj 79 (fun c2=>gc (gw 86 (gw 89 (jb 91 c2 (cn fun y1 hy1=>jc (fb (hrec hy1) [some (.cells (zAF c_))]) (bi 92 (lE (zAA 12 (zAA 10 (zAA 3 zAH))) [14] []) (lG (zAA 12 (zAA 10 (zAA 3 zAH))) [0] (hself _ _ ·)))))))) (fun _=>lG (zAA 12 (zAA 10 (zAA 3 zAH))) [0] (hself _ _ ·)))) (lG (zAA 12 (zAA 10 (zAA 3 zAH))) [0] (hself _ _ ·)))))
 case l3=>
  revert r
  apply gO
  exact bi 99 (lE (zAA 12 (zAA 7 (zAA 3 zAH))) [14] []) (bi 103 (bi 105 (lE (zAA 12 (zAA 7 (zAA 3 zAH))) [14] []) (lG (zAA 12 (zAA 7 (zAA 3 zAH))) [0] (hself _ _ ·))) (lG (zAA 12 (zAA 7 (zAA 3 zAH))) [0] (hself _ _ ·)))
 case l4=>
  revert r
  apply gO
  exact bi 109 (gw 113 (cn fun y1 hy1=>jc (fb (hrec hy1) [some (.cells (zAF c_))]) (lE (zAA 10 (zAA 7 (zAA 3 zAH))) [14] []))) (gi (bi 124 (gc (gw 129 (gw 131 (cn fun y1 hy1=>jc (fb (hrec hy1) [some (.cells (zAF c_))]) (lE (zAA 10 (zAA 7 (zAA 3 zAH))) [14] []))))) (lE (zAA 10 (zAA 7 (zAA 3 zAH))) [14] [])))
theorem zSj {n:Nat}: ∀ {c_:zAC} {pos:List Int} {from_ done length_ at_:Int} {in_:Bool} {r:Bool} (h:zDZ n c_ pos from_ done length_ at_ in_=some r),EQ 98 [.agg 9 (L1 (zAF c_)),.ints pos,.i from_,.i done,.i length_,.i at_,.bool in_] [] (.bool r) [] true:=by
 induction n with
 | zero=>intro c_ pos from_ done length_ at_ in_ r h;cases h
 | succ n hrec=>
  intro c_ pos from_ done length_ at_ in_ r h
  refine ot Tryz.func98 fun B N=>?_
  revert r
  apply gO
  exact bi 17 (bi 23 (lE (zAA 12 (zAA 10 (zAA 7 (zAA 3 zAH)))) [14] []) (gi (bi 31 (lE (zAA 12 (zAA 10 (zAA 7 (zAA 3 zAH)))) [14] []) (lG (zAA 12 (zAA 10 (zAA 7 (zAA 3 zAH)))) [0] ((zPR B N (zDZ n) hrec c_ pos from_ done length_ at_ in_ n) _ _ ·))))) (lG (zAA 12 (zAA 10 (zAA 7 (zAA 3 zAH)))) [0] ((zPR B N (zDZ n) hrec c_ pos from_ done length_ at_ in_ n) _ _ ·))
def zbA (n:Nat) (set_ symbol:Int):Option Bool:=
 bif (decide (symbol≥0)) then
  bif (decide (symbol<16)) then
   if 0≤symbol∧symbol≤(IntKind.i64.bits:Int) then
    some ((bits .and .i64 set_ (IntKind.i64.wrap (1*2 ^ (symbol).toNat))) != 0)
   else none
  else
   some false
 else
  some false
def rIn (n:Nat) (set_ symbol:Int):Option Bool:=zbA n set_ symbol
theorem zMj {n:Nat} {set_ symbol:Int} {r:Bool} (h:rIn n set_ symbol=some r):EQ 142 [.i set_,.i symbol] [] (.bool r) [] true:=by
 refine ot Tryz.func142 fun B N=>?_
 revert r
 apply gO
 exact bi 6 (bi 9 (gi (lE zAH [4] [])) (lE zAH [4] [])) (lE zAH [4] [])
def zPl (n:Nat) (a b_ n_:Int):Option Bool:=
 if R64 (a-b_) then
  bif (decide ((a-b_)≥n_)) then
   some true
  else
   if R64 (b_-a) then
    some (decide ((b_-a)≥n_))
   else none
 else none
def zXH (n:Nat) (a b_ n_:Int):Option Bool:=zPl n a b_ n_
theorem zXG {n:Nat} {a b_ n_:Int} {r:Bool} (h:zXH n a b_ n_=some r):EQ 141 [.i a,.i b_,.i n_] [] (.bool r) [] true:=by
 refine ot Tryz.func141 fun B N=>?_
 revert r
 apply gO
 exact gw 9 (bi 11 (lE zAH [6] []) (gw 15 (lE zAH [6] [])))
theorem zTy:SOk (zBa Tryz.f131 15) [([0,1,2,3,4,5,6,7,8,9,10,11,12,13,14,15,16,17,18,19,20,21,22,23],24)] [25] []:=by unfold SOk;kernel_rfl
def zEE:Sch:=fun i=>match i with
 | 13=>.ord [([0,1,2,3,4,6,7],5),([],8)] [9] []
 | 15=>.ord [([0,1,2,3,4,5,6,7,8,9,10,11,12,13,14,15,16,17,18,19,20,21,22,23],24)] [25] []
 | 21=>.ord [([0,1,2,3,4,5,6],7),([],8)] [9] []
 | 22=>.ord [([0,1,2,3,4,5,6],7),([],8)] [9] []
 | _=>.no
def zSm (n:Nat) (q:zAB) (c_:zAC) (grid:List Int):Option Bool:=
 bif (c_.kind==1) then
  none
 else
  bif (c_.kind==2) then
   none
  else
   bif (c_.kind==3) then
    none
   else
    bif (c_.kind==4) then
     none
    else
     bif (c_.kind==5) then
      none
     else
      bif (c_.kind==6) then
       if ((0:Int)≤0∧0<(c_.cells.length:Int))∧(0≤(c_.cells.getD 0 0)∧(c_.cells.getD 0 0)<(grid.length:Int))∧(0≤(grid.getD ((c_.cells.getD 0 0).toNat) 0)∧(grid.getD ((c_.cells.getD 0 0).toNat) 0)<(q.values.length:Int))∧((0:Int)≤1∧1<(c_.cells.length:Int))∧(0≤(c_.cells.getD 1 0)∧(c_.cells.getD 1 0)<(grid.length:Int))∧(0≤(grid.getD ((c_.cells.getD 1 0).toNat) 0)∧(grid.getD ((c_.cells.getD 1 0).toNat) 0)<(q.values.length:Int)) then
        (zXH n (q.values.getD ((grid.getD ((c_.cells.getD 0 0).toNat) 0).toNat) 0) (q.values.getD ((grid.getD ((c_.cells.getD 1 0).toNat) 0).toNat) 0) c_.lo).bind fun y1=>
         some y1
       else none
      else
       bif (c_.kind==7) then
        if ((0:Int)≤0∧0<(c_.cells.length:Int))∧(0≤(c_.cells.getD 0 0)∧(c_.cells.getD 0 0)<(grid.length:Int))∧((0:Int)≤1∧1<(c_.cells.length:Int))∧(0≤(c_.cells.getD 1 0)∧(c_.cells.getD 1 0)<(grid.length:Int)) then
         (rIn n c_.set (grid.getD ((c_.cells.getD 0 0).toNat) 0)).bind fun y1=>
          bif y1 then
           (rIn n c_.other (grid.getD ((c_.cells.getD 1 0).toNat) 0)).bind fun y2=>
            bif (!y2) then
             (rIn n c_.set (grid.getD ((c_.cells.getD 1 0).toNat) 0)).bind fun y3=>
              bif y3 then
               (rIn n c_.other (grid.getD ((c_.cells.getD 0 0).toNat) 0)).bind fun y4=>
                some (!y4)
              else
               some true
            else
             some false
          else
           (rIn n c_.set (grid.getD ((c_.cells.getD 1 0).toNat) 0)).bind fun y2=>
            bif y2 then
             (rIn n c_.other (grid.getD ((c_.cells.getD 0 0).toNat) 0)).bind fun y3=>
              some (!y3)
            else
             some true
        else none
       else
        bif (c_.kind==8) then
         none
        else
         none
def zW0 (n:Nat) (q:zAB) (c_:zAC) (grid:List Int):Option Bool:=zSm n q c_ grid
theorem zZq {n:Nat} {q:zAB} {c_:zAC} {grid:List Int} {r:Bool} (h:zW0 n q c_ grid=some r):EQ 131 [.agg 5 (L1 (zAE q)),.agg 9 (L1 (zAF c_)),.ints grid] [] (.bool r) [] true:=by
 refine ot Tryz.func131 fun B N=>?_
 revert r
 apply gO
 exact bi 14 nO (bi 20 nO (bi 38 nO (bi 56 nO (bi 64 nO (bi 75 (jg zTy (gc (gi (gc (gi (gc (gi (gc (gi (gc (gi (gi (cf zXG [some (.cells (zAE q)),some (.cells (zAF c_))] fun _=>lE zEE [6] []))))))))))))) (bi 102 (gc (gi (gc (gi (gc (gi (gi (cf zMj [some (.cells (zAE q)),some (.cells (zAF c_))] fun _=>bi 120 (cf zMj [some (.cells (zAE q)),some (.cells (zAF c_))] fun _=>bi 127 (cf zMj [some (.cells (zAE q)),some (.cells (zAF c_))] fun _=>bi 132 (cf zMj [some (.cells (zAE q)),some (.cells (zAF c_))] fun _=>lE zEE [6] []) (lE zEE [6] [])) (lE zEE [6] [])) (cf zMj [some (.cells (zAE q)),some (.cells (zAF c_))] fun _=>bi 132 (cf zMj [some (.cells (zAE q)),some (.cells (zAF c_))] fun _=>lE zEE [6] []) (lE zEE [6] [])))))))))) (bn (fun c7=>nO) (fun c7=>nO))))))))
def zJf (q:zAB) (c_:zAC) (o2:List Int) (at_ s_ x13:Int):DH:=[some (.cells (zAE q)),some (.cells (zAF c_)),some (.ints ((o2.set (0+((c_.cells.getD ((at_).toNat) 0).toNat)) s_).set (0+((c_.cells.getD (((1-at_)).toNat) 0).toNat)) x13))]
inductive zHu where
 | l1 (x13:Int) (o2:List Int)
def zEP (n:Nat) (self:zHu→Option Bool) (q:zAB) (c_:zAC) (pos:List Int) (at_ s_:Int) (x13:Int) (o2:List Int):Option Bool:=
 bif (decide (x13<q.symbols)) then
  if (0≤at_∧at_<(c_.cells.length:Int))∧(0≤(c_.cells.getD ((at_).toNat) 0)∧(c_.cells.getD ((at_).toNat) 0)<(pos.length:Int))∧0+((c_.cells.getD ((at_).toNat) 0).toNat)<o2.length∧(0≤(c_.cells.getD (((1-at_)).toNat) 0)∧(c_.cells.getD (((1-at_)).toNat) 0)<(pos.length:Int))∧0+((c_.cells.getD (((1-at_)).toNat) 0).toNat)<(o2.set (0+((c_.cells.getD ((at_).toNat) 0).toNat)) s_).length then
   (zPa n (pos.getD ((c_.cells.getD (((1-at_)).toNat) 0).toNat) 0) x13).bind fun y1=>
    bif y1 then
     if pos.length=((o2.set (0+((c_.cells.getD ((at_).toNat) 0).toNat)) s_).set (0+((c_.cells.getD (((1-at_)).toNat) 0).toNat)) x13).length then
      (zW0 n q c_ ((o2.set (0+((c_.cells.getD ((at_).toNat) 0).toNat)) s_).set (0+((c_.cells.getD (((1-at_)).toNat) 0).toNat)) x13)).bind fun y2=>
       bif y2 then
        some true
       else
        if R64 (x13+1) then
         self (.l1 (x13+1) ((o2.set (0+((c_.cells.getD ((at_).toNat) 0).toNat)) s_).set (0+((c_.cells.getD (((1-at_)).toNat) 0).toNat)) x13))
        else none
     else none
    else
     if R64 (x13+1) then
      self (.l1 (x13+1) ((o2.set (0+((c_.cells.getD ((at_).toNat) 0).toNat)) s_).set (0+((c_.cells.getD (((1-at_)).toNat) 0).toNat)) x13))
     else none
  else none
 else
  some false
def zMl (n:Nat) (self:zHu→Option Bool) (q:zAB) (c_:zAC) (pos:List Int) (at_ s_:Int):Option Bool:=
 if (((pos.length:Int):Int)=(pos.length:Int)∧0≤(pos.length:Int)∧((pos.length:Int):Int)≤1000000000000)∧R64 (1-at_)∧((0:Int)≤(1-at_)∧(1-at_)<(c_.cells.length:Int)) then
  self (.l1 0 (List.replicate pos.length (0:Int)))
 else none
def zDc (q:zAB) (c_:zAC) (pos:List Int) (at_ s_:Int):Nat→zHu→Option Bool
 | 0,_=>none
 | n+1,.l1 x13 o2=>zEP n (zDc q c_ pos at_ s_ n) q c_ pos at_ s_ x13 o2
def zIl (n:Nat) (q:zAB) (c_:zAC) (pos:List Int) (at_ s_:Int):Option Bool:=zMl n (zDc q c_ pos at_ s_ n) q c_ pos at_ s_
def zUV (n B:Nat) (N:Yd 0) (q:zAB) (c_:zAC) (pos:List Int) (at_ s_:Int) (r:Bool):zHu→Prop
 | .l1 x13 o2=>∀ m0:Nat,n≤m0→TW B N (FQ Tryz.f124 0 (.bool r) []) (toN m0 (zA9 (zAK Tryz.f124) 0 [])) ⟨frm 53 [(2,.ints pos),(3,.i at_),(4,.i s_),(5,.ref 0 0),(6,.ref 1 0),(11,.msl 2 1 0 pos.length),(12,.i (c_.cells.getD (((1-at_)).toNat) 0)),(13,.i x13)],[some (.cells (zAE q)),some (.cells (zAF c_)),some (.ints o2)]⟩
theorem zRU (B:Nat) (N:Yd 0) (q:zAB) (c_:zAC) (pos:List Int) (at_ s_:Int):Al (zDc q c_ pos at_ s_) (zUV · B N q c_ pos at_ s_):=ia (fun _=>rfl) fun n hself pt r h=>by
 cases pt
 case l1 x13 o2=>
  intro m0 hm0
  refine rd hm0 fun m0 hm0=>?_
  revert r
  apply gO
  exact bi 26 (gc (gi (gc (gi (gc (gi (gc (gn fun g3=>jg g3 (gi (jg g3 (cf zE0 (zJf q c_ o2 at_ s_ x13) fun _=>bi 46 (gn fun g5=>cn fun y2 hy2=>jc (sb [.agg 5 (L1 (zAE q)),.agg 9 (L1 (zAF c_)),.msl 2 1 0 pos.length] (zZq hy2) (zJf q c_ o2 at_ s_ x13) ⟨zA1.plain (by kernel_rfl),zA1.plain (by kernel_rfl),zA1.ints rfl g5,trivial⟩) (bi 51 (lE zAH [10] []) (gw 28 (lG zAH [0,1,2] (hself _ _ · m0 hm0))))) (gw 28 (lG zAH [0,1,2] (hself _ _ · m0 hm0)))))))))))))) (lE zAH [10] [])
theorem zUU {n:Nat} {q:zAB} {c_:zAC} {pos:List Int} {at_ s_:Int} {r:Bool} (h:zIl n q c_ pos at_ s_=some r):EQ 124 [.agg 5 (L1 (zAE q)),.agg 9 (L1 (zAF c_)),.ints pos,.i at_,.i s_] [] (.bool r) [] true:=by
 refine ot Tryz.func124 fun B N=>?_
 revert r
 apply gO
 exact gc (gi (gc (gw 20 (gi (lN zAH [0,1,2] ((zRU B N q c_ pos at_ s_ n) _ _ · n Nat.le.refl))))))
theorem zNU:SOk (zBa Tryz.f99 14) [([0,1,2,3,4,5],6),([],7)] [8] []:=by unfold SOk;kernel_rfl
theorem zNT:SOk (zBa Tryz.f99 16) [([0,1,2,3,4,5,6,7],8)] [9] []:=by unfold SOk;kernel_rfl
def zAq:Sch:=fun i=>match i with
 | 14=>.ord [([0,1,2,3,4,5],6),([],7)] [8] []
 | 16=>.ord [([0,1,2,3,4,5,6,7],8)] [9] []
 | _=>.no
inductive zCm where
 | l1 (x7:List Int) (x8:Int)
 | l2 (x7:List Int) (x8 x9:Int)
 | l3 (x7:List Int) (x8 x9:Int) (x10:Bool)
 | l4 (x7:List Int) (x8 x9:Int)
def zDb (n:Nat) (self:zCm→Option ((List Int))) (q:zAB) (c_:zAC) (pos:List Int) (x7:List Int) (x8:Int):Option ((List Int)):=
 bif (decide (x8<(c_.cells.length:Int))) then
  self (.l2 x7 x8 0)
 else
  some x7
def zDa (n:Nat) (self:zCm→Option ((List Int))) (q:zAB) (c_:zAC) (pos:List Int) (x7:List Int) (x8 x9:Int):Option ((List Int)):=
 bif (decide (x9<q.symbols)) then
  bif (c_.kind==4) then
   (zGp n q c_ pos 0 (-1) x8 x9).bind fun y1=>
    self (.l3 x7 x8 x9 y1)
  else
   bif (c_.kind==5) then
    (zPa n c_.set x9).bind fun y1=>
     (zDZ n c_ pos 0 0 0 x8 y1).bind fun y2=>
      self (.l3 x7 x8 x9 y2)
   else
    (zIl n q c_ pos x8 x9).bind fun y1=>
     self (.l3 x7 x8 x9 y1)
 else
  if R64 (x8+1) then
   self (.l1 x7 (x8+1))
  else none
def zG8 (n:Nat) (self:zCm→Option ((List Int))) (q:zAB) (c_:zAC) (pos:List Int) (x7:List Int) (x8 x9:Int) (x10:Bool):Option ((List Int)):=
 if (0≤x8∧x8<(c_.cells.length:Int))∧(0≤(c_.cells.getD ((x8).toNat) 0)∧(c_.cells.getD ((x8).toNat) 0)<(pos.length:Int)) then
  (zPa n (pos.getD ((c_.cells.getD ((x8).toNat) 0).toNat) 0) x9).bind fun y1=>
   bif y1 then
    bif (!x10) then
     if 0≤x9∧x9≤(IntKind.i64.bits:Int) then
      (zEM n x7 (c_.cells.getD ((x8).toNat) 0) (IntKind.i64.wrap (1*2 ^ (x9).toNat))).bind fun y2=>
       self (.l4 y2 x8 x9)
     else none
    else
     self (.l4 x7 x8 x9)
   else
    self (.l4 x7 x8 x9)
 else none
def zG7 (n:Nat) (self:zCm→Option ((List Int))) (q:zAB) (c_:zAC) (pos:List Int) (x7:List Int) (x8 x9:Int):Option ((List Int)):=
 if R64 (x9+1) then
  self (.l2 x7 x8 (x9+1))
 else none
def zLA (n:Nat) (self:zCm→Option ((List Int))) (q:zAB) (c_:zAC) (pos:List Int):Option ((List Int)):=
 if pos.length=(List.replicate pos.length (0:Int)).length∧(((pos.length:Int):Int)=(pos.length:Int)∧0≤(pos.length:Int)∧((pos.length:Int):Int)≤1000000000000) then
  self (.l1 (List.replicate pos.length (0:Int)) 0)
 else none
def zAY (q:zAB) (c_:zAC) (pos:List Int):Nat→zCm→Option ((List Int))
 | 0,_=>none
 | n+1,.l1 x7 x8=>zDb n (zAY q c_ pos n) q c_ pos x7 x8
 | n+1,.l2 x7 x8 x9=>zDa n (zAY q c_ pos n) q c_ pos x7 x8 x9
 | n+1,.l3 x7 x8 x9 x10=>zG8 n (zAY q c_ pos n) q c_ pos x7 x8 x9 x10
 | n+1,.l4 x7 x8 x9=>zG7 n (zAY q c_ pos n) q c_ pos x7 x8 x9
def zGS (n:Nat) (q:zAB) (c_:zAC) (pos:List Int):Option ((List Int)):=zLA n (zAY q c_ pos n) q c_ pos
def zRT (n B:Nat) (N:Yd 0) (q:zAB) (c_:zAC) (pos:List Int) (r:(List Int)):zCm→Prop
 | .l1 x7 x8=>∀ m0:Nat,n≤m0→TW B N (FQ Tryz.f99 0 (.ints r) []) (toN m0 (zA9 (zAK Tryz.f99) 0 [])) ⟨frm 77 [(2,.ints pos),(3,.ref 0 0),(4,.ref 1 0),(7,.ints x7),(8,.i x8)],[some (.cells (zAE q)),some (.cells (zAF c_))]⟩
 | .l2 x7 x8 x9=>∀ m0 m1:Nat,n≤m0→n≤m1→TW B N (FQ Tryz.f99 0 (.ints r) []) (toN m1 (zA9 (zAK Tryz.f99) 2 [m0])) ⟨frm 77 [(2,.ints pos),(3,.ref 0 0),(4,.ref 1 0),(7,.ints x7),(8,.i x8),(9,.i x9)],[some (.cells (zAE q)),some (.cells (zAF c_))]⟩
 | .l3 x7 x8 x9 x10=>∀ m0 m1:Nat,n≤m0→n≤m1→TW B N (FQ Tryz.f99 0 (.ints r) []) (zEd (zAK Tryz.f99) 15 [m0,m1]) ⟨frm 77 [(2,.ints pos),(3,.ref 0 0),(4,.ref 1 0),(7,.ints x7),(8,.i x8),(9,.i x9),(10,.bool x10)],[some (.cells (zAE q)),some (.cells (zAF c_))]⟩
 | .l4 x7 x8 x9=>∀ m0 m1:Nat,n≤m0→n≤m1→TW B N (FQ Tryz.f99 0 (.ints r) []) (zEd (zAK Tryz.f99) 7 [m0,m1]) ⟨frm 77 [(2,.ints pos),(3,.ref 0 0),(4,.ref 1 0),(7,.ints x7),(8,.i x8),(9,.i x9)],[some (.cells (zAE q)),some (.cells (zAF c_))]⟩
theorem zPi (B:Nat) (N:Yd 0) (q:zAB) (c_:zAC) (pos:List Int):Al (zAY q c_ pos) (zRT · B N q c_ pos):=ia (fun _=>rfl) fun n hself pt r h=>by
 cases pt
 case l1 x7 x8=>
  intro m0 hm0
  refine rd hm0 fun m0 hm0=>?_
  revert r
  apply gO
  exact bi 18 (lN (zAA 15 (zAA 7 zAq)) [0,1] (hself _ _ · m0 n hm0 Nat.le.refl)) (lE (zAA 15 (zAA 7 zAq)) [6] [])
 case l2 x7 x8 x9=>
  intro m0 m1 hm0 hm1
  have hm0:=Nat.le_of_succ_le hm0
  refine rd hm1 fun m1 hm1=>?_
  revert r
  apply gO
  exact bi 24 (bi 36 (cf zWv [some (.cells (zAE q)),some (.cells (zAF c_))] fun _=>lG (zAA 15 (zAA 7 zAq)) [0,1] (hself _ _ · m0 m1 hm0 hm1)) (bi 44 (jg zNU (cf zE0 [some (.cells (zAE q)),some (.cells (zAF c_))] fun _=>cf zSj [some (.cells (zAE q)),some (.cells (zAF c_))] fun _=>lG (zAA 15 (zAA 7 zAq)) [0,1] (hself _ _ · m0 m1 hm0 hm1))) (cf zUU [some (.cells (zAE q)),some (.cells (zAF c_))] fun _=>lG (zAA 15 (zAA 7 zAq)) [0,1] (hself _ _ · m0 m1 hm0 hm1)))) (gw 20 (lG (zAA 15 (zAA 7 zAq)) [0,1] (hself _ _ · m0 hm0)))
 case l3 x7 x8 x9 x10=>
  intro m0 m1 hm0 hm1
  have hm0:=Nat.le_of_succ_le hm0
  have hm1:=Nat.le_of_succ_le hm1
  revert r
  apply gO
  exact gc (gn fun g0=>jg g0 (gi (cf zE0 [some (.cells (zAE q)),some (.cells (zAF c_))] fun _=>bi 62 (bi 65 (jg zNT (jg g0 (gi (cf zCs [some (.cells (zAE q)),some (.cells (zAF c_))] fun _=>lG (zAA 7 zAq) [0,1] (hself _ _ · m0 m1 hm0 hm1))))) (lG (zAA 7 zAq) [0,1] (hself _ _ · m0 m1 hm0 hm1))) (lG (zAA 7 zAq) [0,1] (hself _ _ · m0 m1 hm0 hm1)))))
 case l4 x7 x8 x9=>
  intro m0 m1 hm0 hm1
  have hm0:=Nat.le_of_succ_le hm0
  have hm1:=Nat.le_of_succ_le hm1
  revert r
  apply gO
  exact gw 26 (lG (zAA 15 zAq) [0,1] (hself _ _ · m0 m1 hm0 hm1))
theorem zK9 {n:Nat} {q:zAB} {c_:zAC} {pos:List Int} {r:(List Int)} (h:zGS n q c_ pos=some r):EQ 99 [.agg 5 (L1 (zAE q)),.agg 9 (L1 (zAF c_)),.ints pos] [] (.ints r) [] true:=by
 refine ot Tryz.func99 fun B N=>?_
 revert r
 apply gO
 exact gc (gn fun g0=>gi (jz 13 2 (jg g0 (lN (zAA 15 (zAA 7 zAq)) [0,1] ((zPi B N q c_ pos n) _ _ · n Nat.le.refl)))))
theorem zRE:SOk (zBa Tryz.f118 6) [] (List.range 24) [24]:=by unfold SOk;kernel_rfl
def zDY:Sch:=fun i=>match i with
 | 6=>.ord [] (List.range 24) [24]
 | _=>.no
inductive zHm where
 | l1 (x8:Int) (o1:List Bool)
def zEL (n:Nat) (self:zHm→Option ((List Bool))) (c_:zAC) (pos:List Int) (all:Bool) (x8:Int) (o1:List Bool):Option ((List Bool)):=
 bif (decide (x8<(c_.cells.length:Int))) then
  if (0≤x8∧x8<(c_.cells.length:Int))∧(0≤(c_.cells.getD ((x8).toNat) 0)∧(c_.cells.getD ((x8).toNat) 0)<(pos.length:Int)) then
   bif ((bits .and .i64 (pos.getD ((c_.cells.getD ((x8).toNat) 0).toNat) 0) c_.set) != 0) then
    bif (!all) then
     if 0+((c_.cells.getD ((x8).toNat) 0).toNat)<o1.length∧R64 (x8+1) then
      self (.l1 (x8+1) (o1.set (0+((c_.cells.getD ((x8).toNat) 0).toNat)) true))
     else none
    else
     if 0+((c_.cells.getD ((x8).toNat) 0).toNat)<o1.length∧R64 (x8+1) then
      self (.l1 (x8+1) (o1.set (0+((c_.cells.getD ((x8).toNat) 0).toNat)) ((bits .and .i64 (pos.getD ((c_.cells.getD ((x8).toNat) 0).toNat) 0) c_.set)==(pos.getD ((c_.cells.getD ((x8).toNat) 0).toNat) 0))))
     else none
   else
    if 0+((c_.cells.getD ((x8).toNat) 0).toNat)<o1.length∧R64 (x8+1) then
     self (.l1 (x8+1) (o1.set (0+((c_.cells.getD ((x8).toNat) 0).toNat)) false))
    else none
  else none
 else
  if pos.length=o1.length then
   some o1
  else none
def zMg (n:Nat) (self:zHm→Option ((List Bool))) (c_:zAC) (pos:List Int) (all:Bool):Option ((List Bool)):=
 if ((pos.length:Int):Int)=(pos.length:Int)∧0≤(pos.length:Int)∧((pos.length:Int):Int)≤1000000000000 then
  self (.l1 0 (List.replicate pos.length false))
 else none
def zEK (c_:zAC) (pos:List Int) (all:Bool):Nat→zHm→Option ((List Bool))
 | 0,_=>none
 | n+1,.l1 x8 o1=>zEL n (zEK c_ pos all n) c_ pos all x8 o1
def zEv (n:Nat) (c_:zAC) (pos:List Int) (all:Bool):Option ((List Bool)):=zMg n (zEK c_ pos all n) c_ pos all
def zUP (n B:Nat) (N:Yd 0) (c_:zAC) (pos:List Int) (all:Bool) (r:(List Bool)):zHm→Prop
 | .l1 x8 o1=>∀ m0:Nat,n≤m0→TW B N (FQ Tryz.f118 0 (.bools r) []) (toN m0 (zA9 (zAK Tryz.f118) 0 [])) ⟨frm 53 [(1,.ints pos),(2,.bool all),(3,.ref 0 0),(7,.msl 1 1 0 pos.length),(8,.i x8)],[some (.cells (zAF c_)),some (.bools o1)]⟩
theorem zRS (B:Nat) (N:Yd 0) (c_:zAC) (pos:List Int) (all:Bool):Al (zEK c_ pos all) (zUP · B N c_ pos all):=ia (fun _=>rfl) fun n hself pt r h=>by
 cases pt
 case l1 x8 o1=>
  intro m0 hm0
  refine rd hm0 fun m0 hm0=>?_
  revert r
  apply gO
  exact bi 17 (gc (gn fun g0=>jg g0 (gn fun g1=>jg g1 (jg zRE (jg g0 (bi 38 (bi 41 (jg g1 (gc (gi (gw 19 (lG zDY [0,1] (hself _ _ · m0 hm0)))))) (jg g1 (gc (gi (gw 19 (lG zDY [0,1] (hself _ _ · m0 hm0))))))) (jg g1 (gc (gi (gw 19 (lG zDY [0,1] (hself _ _ · m0 hm0)))))))))))) (gn fun g0=>lF fun p=>ez zDY [6] [1] p [0] (H0.g g0))
theorem zGQ {n:Nat} {c_:zAC} {pos:List Int} {all:Bool} {r:(List Bool)} (h:zEv n c_ pos all=some r):EQ 118 [.agg 9 (L1 (zAF c_)),.ints pos,.bool all] [] (.bools r) [] true:=by
 refine ot Tryz.func118 fun B N=>?_
 revert r
 apply gO
 exact gi (lN zDY [0,1] ((zRS B N c_ pos all n) _ _ · n Nat.le.refl))
inductive zJy where
 | l1 (x3:Int)
def zFm (n:Nat) (self:zJy→Option Int) (in_:List Bool) (x3:Int):Option Int:=
 bif (decide (x3<(in_.length:Int))) then
  if 0≤x3∧x3<(in_.length:Int) then
   bif (in_.getD ((x3).toNat) false) then
    some x3
   else
    if R64 (x3+1) then
     self (.l1 (x3+1))
    else none
  else none
 else
  some (-1)
def zW7 (n:Nat) (self:zJy→Option Int) (in_:List Bool):Option Int:=
 self (.l1 0)
def zDr (in_:List Bool):Nat→zJy→Option Int
 | 0,_=>none
 | n+1,.l1 x3=>zFm n (zDr in_ n) in_ x3
def zMk (n:Nat) (in_:List Bool):Option Int:=zW7 n (zDr in_ n) in_
def zW8 (n B:Nat) (N:Yd 0) (in_:List Bool) (r:Int):zJy→Prop
 | .l1 x3=>∀ m0:Nat,n≤m0→TW B N (FQ Tryz.f119 0 (.i r) []) (toN m0 (zA9 (zAK Tryz.f119) 0 [])) ⟨frm 15 [(0,.bools in_),(3,.i x3)],[]⟩
theorem zUS (B:Nat) (N:Yd 0) (in_:List Bool):Al (zDr in_) (zW8 · B N in_):=ia (fun _=>rfl) fun n hself pt r h=>by
 cases pt
 case l1 x3=>
  intro m0 hm0
  refine rd hm0 fun m0 hm0=>?_
  revert r
  apply gO
  exact bi 7 (gi (bi 13 (lE zAH [2] []) (gw 9 (lG zAH [] (hself _ _ · m0 hm0))))) (lE zAH [2] [])
theorem zPd {n:Nat} {in_:List Bool} {r:Int} (h:zMk n in_=some r):EQ 119 [.bools in_] [] (.i r) [] true:=by
 refine ot Tryz.func119 fun B N=>?_
 revert r
 apply gO
 exact lN zAH [] ((zUS B N in_ n) _ _ · n Nat.le.refl)
inductive zGP where
 | l1 (x8:Bool) (o0:List Bool)
 | l2 (x8:Bool) (x9:Int) (o0:List Bool)
 | l3 (x8:Bool) (x9 x10:Int) (o0:List Bool)
def zK0 (n:Nat) (self:zGP→Option ((List Bool))) (g_:List (List Int)) (in_:List Bool) (start:Int) (x8:Bool) (o0:List Bool):Option ((List Bool)):=
 bif x8 then
  self (.l2 false 0 o0)
 else
  if g_.length=o0.length then
   some o0
  else none
def zFj (n:Nat) (self:zGP→Option ((List Bool))) (g_:List (List Int)) (in_:List Bool) (start:Int) (x8:Bool) (x9:Int) (o0:List Bool):Option ((List Bool)):=
 bif (decide (x9<(g_.length:Int))) then
  self (.l3 x8 x9 0 o0)
 else
  self (.l1 x8 o0)
def zFi (n:Nat) (self:zGP→Option ((List Bool))) (g_:List (List Int)) (in_:List Bool) (start:Int) (x8:Bool) (x9 x10:Int) (o0:List Bool):Option ((List Bool)):=
 if 0≤x9∧x9<(g_.length:Int) then
  bif (decide (x10<(((g_.getD ((x9).toNat) []).length:Nat):Int))) then
   if 0+((x9).toNat)<o0.length then
    bif (o0.getD (0+((x9).toNat)) false) then
     if (0≤x10∧x10<(((g_.getD ((x9).toNat) []).length:Nat):Int))∧((0:Int)≤((g_.getD ((x9).toNat) []).getD ((x10).toNat) 0)∧((g_.getD ((x9).toNat) []).getD ((x10).toNat) 0)<(in_.length:Int)) then
      bif (in_.getD (((g_.getD ((x9).toNat) []).getD ((x10).toNat) 0).toNat) false) then
       if ((0:Int)≤((g_.getD ((x9).toNat) []).getD ((x10).toNat) 0)∧((g_.getD ((x9).toNat) []).getD ((x10).toNat) 0)<(g_.length:Int))∧0+(((g_.getD ((x9).toNat) []).getD ((x10).toNat) 0).toNat)<o0.length then
        bif (!(o0.getD (0+(((g_.getD ((x9).toNat) []).getD ((x10).toNat) 0).toNat)) false)) then
         if R64 (x10+1) then
          self (.l3 true x9 (x10+1) (o0.set (0+(((g_.getD ((x9).toNat) []).getD ((x10).toNat) 0).toNat)) true))
         else none
        else
         if R64 (x10+1) then
          self (.l3 x8 x9 (x10+1) o0)
         else none
       else none
      else
       if R64 (x10+1) then
        self (.l3 x8 x9 (x10+1) o0)
       else none
     else none
    else
     if R64 (x10+1) then
      self (.l3 x8 x9 (x10+1) o0)
     else none
   else none
  else
   if R64 (x9+1) then
    self (.l2 x8 (x9+1) o0)
   else none
 else none
def zPT (n:Nat) (self:zGP→Option ((List Bool))) (g_:List (List Int)) (in_:List Bool) (start:Int):Option ((List Bool)):=
 if (((g_.length:Int):Int)=(g_.length:Int)∧0≤(g_.length:Int)∧((g_.length:Int):Int)≤1000000000000)∧(0≤start∧start<(g_.length:Int))∧0+((start).toNat)<(List.replicate g_.length false).length then
  self (.l1 true ((List.replicate g_.length false).set (0+((start).toNat)) true))
 else none
def zBF (g_:List (List Int)) (in_:List Bool) (start:Int):Nat→zGP→Option ((List Bool))
 | 0,_=>none
 | n+1,.l1 x8 o0=>zK0 n (zBF g_ in_ start n) g_ in_ start x8 o0
 | n+1,.l2 x8 x9 o0=>zFj n (zBF g_ in_ start n) g_ in_ start x8 x9 o0
 | n+1,.l3 x8 x9 x10 o0=>zFi n (zBF g_ in_ start n) g_ in_ start x8 x9 x10 o0
def zFk (n:Nat) (g_:List (List Int)) (in_:List Bool) (start:Int):Option ((List Bool)):=zPT n (zBF g_ in_ start n) g_ in_ start
def zWx (n B:Nat) (N:Yd 0) (g_:List (List Int)) (in_:List Bool) (start:Int) (r:(List Bool)):zGP→Prop
 | .l1 x8 o0=>∀ m0:Nat,n≤m0→TW B N (FQ Tryz.f129 0 (.bools r) []) (toN m0 (zA9 (zAK Tryz.f129) 0 [])) ⟨frm 72 [(0,.sl 1 g_.length (zAz zAS g_)),(1,.bools in_),(7,.msl 0 1 0 g_.length),(8,.bool x8)],[some (.bools o0)]⟩
 | .l2 x8 x9 o0=>∀ m0 m1:Nat,n≤m0→n≤m1→TW B N (FQ Tryz.f129 0 (.bools r) []) (toN m1 (zA9 (zAK Tryz.f129) 2 [m0])) ⟨frm 72 [(0,.sl 1 g_.length (zAz zAS g_)),(1,.bools in_),(7,.msl 0 1 0 g_.length),(8,.bool x8),(9,.i x9)],[some (.bools o0)]⟩
 | .l3 x8 x9 x10 o0=>∀ m0 m1 m2:Nat,n≤m0→n≤m1→n≤m2→TW B N (FQ Tryz.f129 0 (.bools r) []) (toN m2 (zA9 (zAK Tryz.f129) 4 [m0,m1])) ⟨frm 72 [(0,.sl 1 g_.length (zAz zAS g_)),(1,.bools in_),(7,.msl 0 1 0 g_.length),(8,.bool x8),(9,.i x9),(10,.i x10)],[some (.bools o0)]⟩
theorem zUL (B:Nat) (N:Yd 0) (g_:List (List Int)) (in_:List Bool) (start:Int):Al (zBF g_ in_ start) (zWx · B N g_ in_ start):=ia (fun _=>rfl) fun n hself pt r h=>by
 cases pt
 case l1 x8 o0=>
  intro m0 hm0
  refine rd hm0 fun m0 hm0=>?_
  revert r
  apply gO
  exact bi 17 (lN zAH [0] (hself _ _ · m0 n hm0 Nat.le.refl)) (gn fun g0=>lF fun p=>ez zAH [6] [0] p [0] (H0.g g0))
 case l2 x8 x9 o0=>
  intro m0 m1 hm0 hm1
  have hm0:=Nat.le_of_succ_le hm0
  refine rd hm1 fun m1 hm1=>?_
  revert r
  apply gO
  exact bi 21 (lN zAH [0] (hself _ _ · m0 m1 n hm0 hm1 Nat.le.refl)) (lG zAH [0] (hself _ _ · m0 hm0))
 case l3 x8 x9 x10 o0=>
  intro m0 m1 m2 hm0 hm1 hm2
  have hm0:=Nat.le_of_succ_le hm0
  have hm1:=Nat.le_of_succ_le hm1
  refine rd hm2 fun m2 hm2=>?_
  revert r
  apply gO
  exact gn fun g0=>jg g0 (bi 30 (jg g0 (gi (bi 36 (jg g0 (gc (gn fun g2=>jg g2 (gi (bi 47 (jg g0 (jg g2 (gc (gn fun g4=>jg g4 (gn fun g5=>jg g5 (bi 60 (jg g0 (jg g2 (jg g4 (jg g5 (gw 32 (lG zAH [0] (hself _ _ · m0 m1 m2 hm0 hm1 hm2))))))) (gw 32 (lG zAH [0] (hself _ _ · m0 m1 m2 hm0 hm1 hm2))))))))) (gw 32 (lG zAH [0] (hself _ _ · m0 m1 m2 hm0 hm1 hm2)))))))) (gw 32 (lG zAH [0] (hself _ _ · m0 m1 m2 hm0 hm1 hm2)))))) (gw 23 (lG zAH [0] (hself _ _ · m0 m1 hm0 hm1))))
theorem zKz {n:Nat} {g_:List (List Int)} {in_:List Bool} {start:Int} {r:(List Bool)} (h:zFk n g_ in_ start=some r):EQ 129 [.sl 1 g_.length (zAz zAS g_),.bools in_,.i start] [] (.bools r) [] true:=by
 refine ot Tryz.func129 fun B N=>?_
 revert r
 apply gO
 exact gc (gi (gc (gi (gi (lN zAH [0] ((zUL B N g_ in_ start n) _ _ · n Nat.le.refl))))))
inductive zK4 where
 | l1 (x4:Int)
 | l2 (x3:Nat) (x4:Int) (o0:List Int)
def zEz (n:Nat) (self:zK4→Option ((List Int))) (in_:List Bool) (x4:Int):Option ((List Int)):=
 bif (decide (x4<(in_.length:Int))) then
  if 0≤x4∧x4<(in_.length:Int) then
   bif (in_.getD ((x4).toNat) false) then
    if ((0=0∧1=([x4]:List Int).length)∧0<([x4]:List Int).length∧([x4]:List Int).length≤LIM)∧R64 (x4+1) then
     self (.l2 (([x4]:List Int).length) (x4+1) ([x4]:List Int))
    else none
   else
    if R64 (x4+1) then
     self (.l1 (x4+1))
    else none
  else none
 else
  some ([]:List Int)
def zEy (n:Nat) (self:zK4→Option ((List Int))) (in_:List Bool) (x3:Nat) (x4:Int) (o0:List Int):Option ((List Int)):=
 bif (decide (x4<(in_.length:Int))) then
  if 0≤x4∧x4<(in_.length:Int) then
   bif (in_.getD ((x4).toNat) false) then
    if ((0=0∧1=([x4]:List Int).length)∧(0=0∧x3=o0.length)∧o0.length+([x4]:List Int).length≤LIM)∧R64 (x4+1) then
     self (.l2 (o0.length+([x4]:List Int).length) (x4+1) (o0++([x4]:List Int)))
    else none
   else
    if R64 (x4+1) then
     self (.l2 x3 (x4+1) o0)
    else none
  else none
 else
  if x3=o0.length then
   some o0
  else none
def zZz (n:Nat) (self:zK4→Option ((List Int))) (in_:List Bool):Option ((List Int)):=
 self (.l1 0)
def zDG (in_:List Bool):Nat→zK4→Option ((List Int))
 | 0,_=>none
 | n+1,.l1 x4=>zEz n (zDG in_ n) in_ x4
 | n+1,.l2 x3 x4 o0=>zEy n (zDG in_ n) in_ x3 x4 o0
def zbw (n:Nat) (in_:List Bool):Option ((List Int)):=zZz n (zDG in_ n) in_
def zZ0 (n B:Nat) (N:Yd 0) (in_:List Bool) (r:(List Int)):zK4→Prop
 | .l1 x4=>∀ m0:Nat,n≤m0→TW B N (FQ Tryz.f134 0 (.ints r) []) (toN m0 (zA9 (zAK Tryz.f134) 0 [])) ⟨frm 20 [(0,.bools in_),(3,.nils),(4,.i x4)],[]⟩
 | .l2 x3 x4 o0=>∀ m0:Nat,n≤m0→TW B N (FQ Tryz.f134 0 (.ints r) []) (toN m0 (zA9 (zAK Tryz.f134) 0 [])) ⟨frm 20 [(0,.bools in_),(3,.msl 0 1 0 x3),(4,.i x4)],[some (.ints o0)]⟩
theorem zW3 (B:Nat) (N:Yd 0) (in_:List Bool):Al (zDG in_) (zZ0 · B N in_):=ia (fun _=>rfl) fun n hself pt r h=>by
 cases pt
 case l1 x4=>
  intro m0 hm0
  refine rd hm0 fun m0 hm0=>?_
  revert r
  apply gO
  exact bi 8 (gi (bi 14 (gc (gi (gw 10 (lG zAH [1] (hself _ _ · m0 hm0))))) (gw 10 (lG zAH [] (hself _ _ · m0 hm0))))) (lF fun p=>el zAH [2] [] p [] H0 [.nils] DLe.ints_nil)
 case l2 x3 x4 o0=>
  intro m0 hm0
  refine rd hm0 fun m0 hm0=>?_
  revert r
  apply gO
  exact bi 8 (gi (bi 14 (gc (gi (gw 10 (lG zAH [2] (hself _ _ · m0 hm0))))) (gw 10 (lG zAH [0] (hself _ _ · m0 hm0))))) (gn fun g0=>lF fun p=>ez zAH [2] [0] p [0] (H0.g g0))
theorem zZy {n:Nat} {in_:List Bool} {r:(List Int)} (h:zbw n in_=some r):EQ 134 [.bools in_] [] (.ints r) [] true:=by
 refine ot Tryz.func134 fun B N=>?_
 revert r
 apply gO
 exact lN zAH [] ((zW3 B N in_ n) _ _ · n Nat.le.refl)
def zE3 (n:Nat) (g_:List (List Int)) (in_:List Bool) (start:Int):Option ((List Int)×Int):=
 (zJV n g_).bind fun y1=>
  bif (y1 != 0) then
   some (([]:List Int),120)
  else
   bif ((in_.length:Int) != (g_.length:Int)) then
    some (([]:List Int),1)
   else
    bif (decide (start<0)) then
     some (([]:List Int),1)
    else
     bif (decide (start≥(g_.length:Int))) then
      some (([]:List Int),1)
     else
      if 0≤start∧start<(in_.length:Int) then
       bif (!(in_.getD ((start).toNat) false)) then
        some (([]:List Int),1)
       else
        (zFk n g_ in_ start).bind fun y2=>
         (zbw n y2).bind fun y3=>
          some (y3,0)
      else none
def zEO (n:Nat) (g_:List (List Int)) (in_:List Bool) (start:Int):Option ((List Int)×Int):=zE3 n g_ in_ start
theorem zNy {n:Nat} {g_:List (List Int)} {in_:List Bool} {start:Int} {r:(List Int)×Int} (h:zEO n g_ in_ start=some r):EQ 128 [.sl 1 g_.length (zAz zAS g_),.bools in_,.i start] [] (.tup 2 (L1 [.ints r.1,.i r.2])) [] true:=by
 unfold zEO zE3 at h
 refine ot Tryz.func128 fun B N=>?_
 revert r
 apply gO
 exact cf zKr [] fun _=>bi 10 (lF fun p=>el zAH [6,7] [] p [] H0 [.nils,.i 120] (DLe.tupL (l:=[.nils,.i 120]) (l':=[.ints ([]:List Int),.i 120]) rfl ⟨DLe.ints_nil,zAD,trivial⟩)) (bi 15 (lF fun p=>el zAH [6,7] [] p [] H0 [.nils,.i 1] (DLe.tupL (l:=[.nils,.i 1]) (l':=[.ints ([]:List Int),.i 1]) rfl ⟨DLe.ints_nil,zAD,trivial⟩)) (bi 18 (lF fun p=>el zAH [6,7] [] p [] H0 [.nils,.i 1] (DLe.tupL (l:=[.nils,.i 1]) (l':=[.ints ([]:List Int),.i 1]) rfl ⟨DLe.ints_nil,zAD,trivial⟩)) (bi 24 (lF fun p=>el zAH [6,7] [] p [] H0 [.nils,.i 1] (DLe.tupL (l:=[.nils,.i 1]) (l':=[.ints ([]:List Int),.i 1]) rfl ⟨DLe.ints_nil,zAD,trivial⟩)) (gi (bi 31 (lF fun p=>el zAH [6,7] [] p [] H0 [.nils,.i 1] (DLe.tupL (l:=[.nils,.i 1]) (l':=[.ints ([]:List Int),.i 1]) rfl ⟨DLe.ints_nil,zAD,trivial⟩)) (cf zKz [] fun _=>cf zZy [] fun _=>lE zAH [6,7] []))))))
def zKv (n:Nat) (in_:List Bool) (at_:Int):Option ((List Bool)):=
 if ((True)∧(0=0∧0=([]:List Bool).length)∧([]:List Bool).length+in_.length≤LIM)∧(0≤at_∧at_<((([]:List Bool).length+in_.length:Nat):Int))∧0+((at_).toNat)<(([]:List Bool)++in_).length then
  if ([]:List Bool).length+in_.length=((([]:List Bool)++in_).set (0+((at_).toNat)) false).length then
   some ((([]:List Bool)++in_).set (0+((at_).toNat)) false)
  else none
 else none
def zJv (n:Nat) (in_:List Bool) (at_:Int):Option ((List Bool)):=zKv n in_ at_
theorem zRL {n:Nat} {in_:List Bool} {at_:Int} {r:(List Bool)} (h:zJv n in_ at_=some r):EQ 130 [.bools in_,.i at_] [] (.bools r) [] true:=by
 refine ot Tryz.func130 fun B N=>?_
 revert r
 apply gO
 exact gc (gi (gc (gi (gi (gn fun g3=>lF fun p=>ez zAH [4] [1] p [0] (H0.g g3))))))
inductive zFf where
 | l1 (x10:Int)
 | l2 (x10:Int) (x11 x12:List Bool) (x13:Int)
def zEI (n:Nat) (self:zFf→Option (Bool×Int)) (g_:List (List Int)) (in_ some_:List Bool) (at_:Int) (x10:Int):Option (Bool×Int):=
 bif (decide (x10<(g_.length:Int))) then
  bif (x10==at_) then
   if R64 (x10+1) then
    self (.l1 (x10+1))
   else none
  else
   if 0≤x10∧x10<(in_.length:Int) then
    bif (!(in_.getD ((x10).toNat) false)) then
     if R64 (x10+1) then
      self (.l1 (x10+1))
     else none
    else
     if 0≤x10∧x10<(some_.length:Int) then
      bif (!(some_.getD ((x10).toNat) false)) then
       if R64 (x10+1) then
        self (.l1 (x10+1))
       else none
      else
       (zFk n g_ in_ x10).bind fun y1=>
        (zJv n in_ at_).bind fun y2=>
         (zFk n g_ y2 x10).bind fun y3=>
          self (.l2 x10 y1 y3 0)
     else none
   else none
 else
  some (false,0)
def zEH (n:Nat) (self:zFf→Option (Bool×Int)) (g_:List (List Int)) (in_ some_:List Bool) (at_:Int) (x10:Int) (x11 x12:List Bool) (x13:Int):Option (Bool×Int):=
 bif (decide (x13<(g_.length:Int))) then
  bif (x13 != at_) then
   if 0≤x13∧x13<(in_.length:Int) then
    bif (in_.getD ((x13).toNat) false) then
     if 0≤x13∧x13<(some_.length:Int) then
      bif (some_.getD ((x13).toNat) false) then
       if 0≤x13∧x13<(x11.length:Int) then
        bif (x11.getD ((x13).toNat) false) then
         if 0≤x13∧x13<(x12.length:Int) then
          bif (!(x12.getD ((x13).toNat) false)) then
           some (true,0)
          else
           if R64 (x13+1) then
            self (.l2 x10 x11 x12 (x13+1))
           else none
         else none
        else
         if R64 (x13+1) then
          self (.l2 x10 x11 x12 (x13+1))
         else none
       else none
      else
       if R64 (x13+1) then
        self (.l2 x10 x11 x12 (x13+1))
       else none
     else none
    else
     if R64 (x13+1) then
      self (.l2 x10 x11 x12 (x13+1))
     else none
   else none
  else
   if R64 (x13+1) then
    self (.l2 x10 x11 x12 (x13+1))
   else none
 else
  if R64 (x10+1) then
   self (.l1 (x10+1))
  else none
def zMb (n:Nat) (self:zFf→Option (Bool×Int)) (g_:List (List Int)) (in_ some_:List Bool) (at_:Int):Option (Bool×Int):=
 (zJV n g_).bind fun y1=>
  bif (y1 != 0) then
   some (false,120)
  else
   bif ((in_.length:Int) != (g_.length:Int)) then
    some (false,1)
   else
    bif ((some_.length:Int) != (g_.length:Int)) then
     some (false,1)
    else
     bif (decide (at_<0)) then
      some (false,1)
     else
      bif (decide (at_≥(g_.length:Int))) then
       some (false,1)
      else
       if 0≤at_∧at_<(in_.length:Int) then
        bif (!(in_.getD ((at_).toNat) false)) then
         some (false,0)
        else
         self (.l1 0)
       else none
def zAc (g_:List (List Int)) (in_ some_:List Bool) (at_:Int):Nat→zFf→Option (Bool×Int)
 | 0,_=>none
 | n+1,.l1 x10=>zEI n (zAc g_ in_ some_ at_ n) g_ in_ some_ at_ x10
 | n+1,.l2 x10 x11 x12 x13=>zEH n (zAc g_ in_ some_ at_ n) g_ in_ some_ at_ x10 x11 x12 x13
def zNk (n:Nat) (g_:List (List Int)) (in_ some_:List Bool) (at_:Int):Option (Bool×Int):=zMb n (zAc g_ in_ some_ at_ n) g_ in_ some_ at_
def zUJ (n B:Nat) (N:Yd 0) (g_:List (List Int)) (in_ some_:List Bool) (at_:Int) (r:Bool×Int):zFf→Prop
 | .l1 x10=>∀ m0:Nat,n≤m0→TW B N (FQ Tryz.f121 0 (.tup 2 (L1 [.bool r.1,.i r.2])) []) (toN m0 (zA9 (zAK Tryz.f121) 0 [])) ⟨frm 111 [(0,.sl 1 g_.length (zAz zAS g_)),(1,.bools in_),(2,.bools some_),(3,.i at_),(10,.i x10)],[]⟩
 | .l2 x10 x11 x12 x13=>∀ m0 m1:Nat,n≤m0→n≤m1→TW B N (FQ Tryz.f121 0 (.tup 2 (L1 [.bool r.1,.i r.2])) []) (toN m1 (zA9 (zAK Tryz.f121) 2 [m0])) ⟨frm 111 [(0,.sl 1 g_.length (zAz zAS g_)),(1,.bools in_),(2,.bools some_),(3,.i at_),(10,.i x10),(11,.bools x11),(12,.bools x12),(13,.i x13)],[]⟩
theorem zRO (B:Nat) (N:Yd 0) (g_:List (List Int)) (in_ some_:List Bool) (at_:Int):Al (zAc g_ in_ some_ at_) (zUJ · B N g_ in_ some_ at_):=ia (fun _=>rfl) fun n hself pt r h=>by
 cases pt
 case l1 x10=>
  intro m0 hm0
  refine rd hm0 fun m0 hm0=>?_
  revert r
  apply gO
  exact bi 47 (bi 52 (gw 49 (lG zAH [] (hself _ _ · m0 hm0))) (gi (bi 58 (gw 49 (lG zAH [] (hself _ _ · m0 hm0))) (gi (bi 65 (gw 49 (lG zAH [] (hself _ _ · m0 hm0))) (cf zKz [] fun _=>cf zRL [] fun _=>cf zKz [] fun _=>lN zAH [] (hself _ _ · m0 n hm0 Nat.le.refl))))))) (lE zAH [8,9] [])
 case l2 x10 x11 x12 x13=>
  intro m0 m1 hm0 hm1
  have hm0:=Nat.le_of_succ_le hm0
  refine rd hm1 fun m1 hm1=>?_
  revert r
  apply gO
  exact bi 80 (bi 85 (gi (bi 90 (gi (bi 96 (gi (bi 102 (gi (bi 109 (lE zAH [8,9] []) (gw 82 (lG zAH [] (hself _ _ · m0 m1 hm0 hm1))))) (gw 82 (lG zAH [] (hself _ _ · m0 m1 hm0 hm1))))) (gw 82 (lG zAH [] (hself _ _ · m0 m1 hm0 hm1))))) (gw 82 (lG zAH [] (hself _ _ · m0 m1 hm0 hm1))))) (gw 82 (lG zAH [] (hself _ _ · m0 m1 hm0 hm1)))) (gw 49 (lG zAH [] (hself _ _ · m0 hm0)))
theorem zIe {n:Nat} {g_:List (List Int)} {in_ some_:List Bool} {at_:Int} {r:Bool×Int} (h:zNk n g_ in_ some_ at_=some r):EQ 121 [.sl 1 g_.length (zAz zAS g_),.bools in_,.bools some_,.i at_] [] (.tup 2 (L1 [.bool r.1,.i r.2])) [] true:=by
 refine ot Tryz.func121 fun B N=>?_
 revert r
 apply gO
 exact cf zKr [] fun _=>bi 16 (lE zAH [8,9] []) (bi 21 (lE zAH [8,9] []) (bi 27 (lE zAH [8,9] []) (bi 31 (lE zAH [8,9] []) (bi 37 (lE zAH [8,9] []) (gi (bi 43 (lE zAH [8,9] []) (lN zAH [] ((zRO B N g_ in_ some_ at_ n) _ _ · n Nat.le.refl))))))))
theorem zWI:SOk (zBa Tryz.f120 7) [([0,1,2,3,4,5,6,7,8],9)] [10] []:=by unfold SOk;kernel_rfl
def zFa:Sch:=fun i=>match i with
 | 7=>.ord [([0,1,2,3,4,5,6,7,8],9)] [10] []
 | _=>.no
inductive zN0 where
 | l1 (x11 x12:List Int) (x14:Int)
def zHv (n:Nat) (self:zN0→Option ((List Int))) (q:zAB) (c_:zAC) (pos:List Int) (p:List Bool) (start:Int) (x11 x12:List Int) (x14:Int):Option ((List Int)):=
 bif (decide (x14<(pos.length:Int))) then
  if 0≤x14∧x14<(p.length:Int) then
   bif (p.getD ((x14).toNat) false) then
    (has n x12 x14).bind fun y1=>
     bif (!y1) then
      if 0≤x14∧x14<(pos.length:Int) then
       (zEM n x11 x14 (bits .and .i64 (pos.getD ((x14).toNat) 0) c_.set)).bind fun y2=>
        if R64 (x14+1) then
         self (.l1 y2 x12 (x14+1))
        else none
      else none
     else
      if R64 (x14+1) then
       self (.l1 x11 x12 (x14+1))
      else none
   else
    if R64 (x14+1) then
     self (.l1 x11 x12 (x14+1))
    else none
  else none
 else
  some x11
def zSx (n:Nat) (self:zN0→Option ((List Int))) (q:zAB) (c_:zAC) (pos:List Int) (p:List Bool) (start:Int):Option ((List Int)):=
 if pos.length=(List.replicate pos.length (0:Int)).length∧(((pos.length:Int):Int)=(pos.length:Int)∧0≤(pos.length:Int)∧((pos.length:Int):Int)≤1000000000000) then
  (zEO n q.nbrs p start).bind fun y1=>
   self (.l1 (List.replicate pos.length (0:Int)) y1.1 0)
 else none
def zD6 (q:zAB) (c_:zAC) (pos:List Int) (p:List Bool) (start:Int):Nat→zN0→Option ((List Int))
 | 0,_=>none
 | n+1,.l1 x11 x12 x14=>zHv n (zD6 q c_ pos p start n) q c_ pos p start x11 x12 x14
def zPk (n:Nat) (q:zAB) (c_:zAC) (pos:List Int) (p:List Bool) (start:Int):Option ((List Int)):=zSx n (zD6 q c_ pos p start n) q c_ pos p start
def zZ8 (n B:Nat) (N:Yd 0) (q:zAB) (c_:zAC) (pos:List Int) (p:List Bool) (start:Int) (r:(List Int)):zN0→Prop
 | .l1 x11 x12 x14=>∀ m0:Nat,n≤m0→TW B N (FQ Tryz.f120 0 (.ints r) []) (toN m0 (zA9 (zAK Tryz.f120) 0 [])) ⟨frm 53 [(2,.ints pos),(3,.bools p),(6,.ref 0 0),(11,.ints x11),(12,.ints x12),(14,.i x14)],[some (.cells (zAF c_))]⟩
theorem zXF (B:Nat) (N:Yd 0) (q:zAB) (c_:zAC) (pos:List Int) (p:List Bool) (start:Int):Al (zD6 q c_ pos p start) (zZ8 · B N q c_ pos p start):=ia (fun _=>rfl) fun n hself pt r h=>by
 cases pt
 case l1 x11 x12 x14=>
  intro m0 hm0
  refine rd hm0 fun m0 hm0=>?_
  revert r
  apply gO
  exact bi 29 (gi (bi 35 (cf zYI [some (.cells (zAF c_))] fun _=>bi 40 (jg zWI (gi (cf zCs [some (.cells (zAF c_))] fun _=>gw 31 (lG zFa [0] (hself _ _ · m0 hm0))))) (gw 31 (lG zFa [0] (hself _ _ · m0 hm0)))) (gw 31 (lG zFa [0] (hself _ _ · m0 hm0))))) (lE zFa [10] [])
theorem zSw {n:Nat} {q:zAB} {c_:zAC} {pos:List Int} {p:List Bool} {start:Int} {r:(List Int)} (h:zPk n q c_ pos p start=some r):EQ 120 [.agg 5 (L1 (zAE q)),.agg 9 (L1 (zAF c_)),.ints pos,.bools p,.i start] [] (.ints r) [] true:=by
 refine ot Tryz.func120 fun B N=>?_
 revert r
 apply gO
 exact gc (gn fun g0=>gi (jz 17 2 (jg g0 (cf zNy [some (.cells (zAE q)),some (.cells (zAF c_)),none] fun _=>lN zFa [1] ((zXF B N q c_ pos p start n) _ _ · n Nat.le.refl)))))
theorem zKf:SOk (zBa Tryz.f96 12) [([0,1,2,3,4,5,6,7,8,9,10,11,12,13],14)] [15] []:=by unfold SOk;kernel_rfl
def zBK:Sch:=fun i=>match i with
 | 12=>.ord [([0,1,2,3,4,5,6,7,8,9,10,11,12,13],14)] [15] []
 | _=>.no
inductive zDs where
 | l1 (x7 x8:List Bool) (x10:List Int) (x11:Int)
def zCU (n:Nat) (self:zDs→Option ((List Int))) (q:zAB) (c_:zAC) (pos:List Int) (x7 x8:List Bool) (x10:List Int) (x11:Int):Option ((List Int)):=
 bif (decide (x11<(pos.length:Int))) then
  (zNk n q.nbrs x7 x8 x11).bind fun y1=>
   if 0≤x11∧x11<(x7.length:Int) then
    bif (x7.getD ((x11).toNat) false) then
     if 0≤x11∧x11<(x8.length:Int) then
      bif (!(x8.getD ((x11).toNat) false)) then
       bif y1.1 then
        if (0≤x11∧x11<(pos.length:Int))∧R64 ((pos.getD ((x11).toNat) 0)-(bits .and .i64 (pos.getD ((x11).toNat) 0) c_.set)) then
         (zEM n x10 x11 ((pos.getD ((x11).toNat) 0)-(bits .and .i64 (pos.getD ((x11).toNat) 0) c_.set))).bind fun y2=>
          if R64 (x11+1) then
           self (.l1 x7 x8 y2 (x11+1))
          else none
        else none
       else
        if R64 (x11+1) then
         self (.l1 x7 x8 x10 (x11+1))
        else none
      else
       if R64 (x11+1) then
        self (.l1 x7 x8 x10 (x11+1))
       else none
     else none
    else
     if R64 (x11+1) then
      self (.l1 x7 x8 x10 (x11+1))
     else none
   else none
 else
  some x10
def zHt (n:Nat) (self:zDs→Option ((List Int))) (q:zAB) (c_:zAC) (pos:List Int):Option ((List Int)):=
 (zEv n c_ pos false).bind fun y1=>
  (zEv n c_ pos true).bind fun y2=>
   (zMk n y2).bind fun y3=>
    bif (decide (y3<0)) then
     if pos.length=(List.replicate pos.length (0:Int)).length∧(((pos.length:Int):Int)=(pos.length:Int)∧0≤(pos.length:Int)∧((pos.length:Int):Int)≤1000000000000) then
      some (List.replicate pos.length (0:Int))
     else none
    else
     (zPk n q c_ pos y1 y3).bind fun y4=>
      self (.l1 y1 y2 y4 0)
def zAt (q:zAB) (c_:zAC) (pos:List Int):Nat→zDs→Option ((List Int))
 | 0,_=>none
 | n+1,.l1 x7 x8 x10 x11=>zCU n (zAt q c_ pos n) q c_ pos x7 x8 x10 x11
def zIk (n:Nat) (q:zAB) (c_:zAC) (pos:List Int):Option ((List Int)):=zHt n (zAt q c_ pos n) q c_ pos
def zNx (n B:Nat) (N:Yd 0) (q:zAB) (c_:zAC) (pos:List Int) (r:(List Int)):zDs→Prop
 | .l1 x7 x8 x10 x11=>∀ m0:Nat,n≤m0→TW B N (FQ Tryz.f96 0 (.ints r) []) (toN m0 (zA9 (zAK Tryz.f96) 0 [])) ⟨frm 78 [(2,.ints pos),(3,.ref 0 0),(4,.ref 1 0),(7,.bools x7),(8,.bools x8),(10,.ints x10),(11,.i x11)],[some (.cells (zAE q)),some (.cells (zAF c_))]⟩
theorem zMC (B:Nat) (N:Yd 0) (q:zAB) (c_:zAC) (pos:List Int):Al (zAt q c_ pos) (zNx · B N q c_ pos):=ia (fun _=>rfl) fun n hself pt r h=>by
 cases pt
 case l1 x7 x8 x10 x11=>
  intro m0 hm0
  refine rd hm0 fun m0 hm0=>?_
  revert r
  apply gO
  exact bj 36 (fun c0=>cn fun y1 hy1=>jc (fb (zIe hy1) [some (.cells (zAE q)),some (.cells (zAF c_))]) (gn fun g0=>jg g0 (bj 51 (fun c1=>gn fun g1=>jg g1 (bj 57 (fun c2=>bn (fun c3=>rO (jb 36 c0 (jc (fb (zIe hy1) [some (.cells (zAE q)),some (.cells (zAF c_))]) (jb 46 c3 (jg g0 (jb 51 c1 (jg g1 (jb 57 c2 (jg zKf (gc (gn fun g2=>jg g2 (jg g2 (gw 75 (cf zCs [some (.cells (zAE q)),some (.cells (zAF c_))] fun _=>gw 38 (lG zBK [0,1] (hself _ _ · m0 hm0)))))))))))))))) (fun c3=>rO (jb 36 c0 (jc (fb (zIe hy1) [some (.cells (zAE q)),some (.cells (zAF c_))]) (jb 46 c3 (jg g0 (jb 51 c1 (jg g1 (jb 57 c2 (gw 38 (lG zBK [0,1] (hself _ _ · m0 hm0)))))))))))) (fun _=>gw 38 (lG zBK [0,1] (hself _ _ · m0 hm0))))) (fun _=>gw 38 (lG zBK [0,1] (hself _ _ · m0 hm0)))))) (fun _=>lE zBK [6] [])
theorem zNv {n:Nat} {q:zAB} {c_:zAC} {pos:List Int} {r:(List Int)} (h:zIk n q c_ pos=some r):EQ 96 [.agg 5 (L1 (zAE q)),.agg 9 (L1 (zAF c_)),.ints pos] [] (.ints r) [] true:=by
 refine ot Tryz.func96 fun B N=>?_
 revert r
 apply gO
 exact cf zGQ [some (.cells (zAE q)),some (.cells (zAF c_))] fun _=>cf zGQ [some (.cells (zAE q)),some (.cells (zAF c_))] fun _=>cf zPd [some (.cells (zAE q)),some (.cells (zAF c_))] fun _=>bi 23 (gc (gn fun g0=>gi (jz 26 2 (jg g0 (lE zBK [6] []))))) (cf zSw [some (.cells (zAE q)),some (.cells (zAF c_))] fun _=>lN zBK [0,1] ((zMC B N q c_ pos n) _ _ · n Nat.le.refl))
inductive zNm where
 | l1 (x7:Nat) (x8:Int) (o1:List Int)
def zHj (n:Nat) (self:zNm→Option ((List Int))) (q:zAB) (cell:Int) (in_:List Bool) (x7:Nat) (x8:Int) (o1:List Int):Option ((List Int)):=
 if 0≤cell∧cell<(q.nbrs.length:Int) then
  bif (decide (x8<(((q.nbrs.getD ((cell).toNat) []).length:Nat):Int))) then
   if (0≤x8∧x8<(((q.nbrs.getD ((cell).toNat) []).length:Nat):Int))∧((0:Int)≤((q.nbrs.getD ((cell).toNat) []).getD ((x8).toNat) 0)∧((q.nbrs.getD ((cell).toNat) []).getD ((x8).toNat) 0)<(in_.length:Int)) then
    bif (in_.getD (((q.nbrs.getD ((cell).toNat) []).getD ((x8).toNat) 0).toNat) false) then
     if ((0=0∧1=([(q.nbrs.getD ((cell).toNat) []).getD ((x8).toNat) 0]:List Int).length)∧(0=0∧x7=o1.length)∧o1.length+([(q.nbrs.getD ((cell).toNat) []).getD ((x8).toNat) 0]:List Int).length≤LIM)∧R64 (x8+1) then
      self (.l1 (o1.length+([(q.nbrs.getD ((cell).toNat) []).getD ((x8).toNat) 0]:List Int).length) (x8+1) (o1++([(q.nbrs.getD ((cell).toNat) []).getD ((x8).toNat) 0]:List Int)))
     else none
    else
     if R64 (x8+1) then
      self (.l1 x7 (x8+1) o1)
     else none
   else none
  else
   if x7=o1.length then
    some o1
   else none
 else none
def zZm (n:Nat) (self:zNm→Option ((List Int))) (q:zAB) (cell:Int) (in_:List Bool):Option ((List Int)):=
 self (.l1 0 0 ([]:List Int))
def zIf (q:zAB) (cell:Int) (in_:List Bool):Nat→zNm→Option ((List Int))
 | 0,_=>none
 | n+1,.l1 x7 x8 o1=>zHj n (zIf q cell in_ n) q cell in_ x7 x8 o1
def zZo (n:Nat) (q:zAB) (cell:Int) (in_:List Bool):Option ((List Int)):=zZm n (zIf q cell in_ n) q cell in_
def zZn (n B:Nat) (N:Yd 0) (q:zAB) (cell:Int) (in_:List Bool) (r:(List Int)):zNm→Prop
 | .l1 x7 x8 o1=>∀ m0:Nat,n≤m0→TW B N (FQ Tryz.f122 0 (.ints r) []) (toN m0 (zA9 (zAK Tryz.f122) 0 [])) ⟨frm 43 [(1,.i cell),(2,.bools in_),(3,.ref 0 0),(7,.msl 1 1 0 x7),(8,.i x8)],[some (.cells (zAE q)),some (.ints o1)]⟩
theorem zWu (B:Nat) (N:Yd 0) (q:zAB) (cell:Int) (in_:List Bool):Al (zIf q cell in_) (zZn · B N q cell in_):=ia (fun _=>rfl) fun n hself pt r h=>by
 cases pt
 case l1 x7 x8 o1=>
  intro m0 hm0
  refine rd hm0 fun m0 hm0=>?_
  revert r
  apply gO
  exact gn fun g0=>jg g0 (bi 17 (jg g0 (gc (gn fun g1=>jg g1 (gi (bi 30 (jg g0 (jg g1 (gc (gi (gw 19 (lG zAH [0,3] (hself _ _ · m0 hm0))))))) (gw 19 (lG zAH [0,1] (hself _ _ · m0 hm0)))))))) (gn fun g1=>lF fun p=>ez zAH [6] [1] p [0] (H0.g g1)))
theorem zSh {n:Nat} {q:zAB} {cell:Int} {in_:List Bool} {r:(List Int)} (h:zZo n q cell in_=some r):EQ 122 [.agg 5 (L1 (zAE q)),.i cell,.bools in_] [] (.ints r) [] true:=by
 refine ot Tryz.func122 fun B N=>?_
 revert r
 apply gO
 exact lN zAH [0,1] ((zWu B N q cell in_ n) _ _ · n Nat.le.refl)
theorem zT0:SOk (zBa Tryz.f97 19) [([0,1,2,3,4,5,6,7,8,9,10,11,12,13,14,15,16,17,18,19,20,21,22],23)] [24] []:=by unfold SOk;kernel_rfl
theorem zTz:SOk (zBa Tryz.f97 21) [([0,1,2,3,4,5,6,7,8,9,10,11,12,13,14],15)] [16] []:=by unfold SOk;kernel_rfl
def zBE:Sch:=fun i=>match i with
 | 19=>.ord [([0,1,2,3,4,5,6,7,8,9,10,11,12,13,14,15,16,17,18,19,20,21,22],23)] [24] []
 | 21=>.ord [([0,1,2,3,4,5,6,7,8,9,10,11,12,13,14],15)] [16] []
 | _=>.no
inductive zG5 where
 | l1 (x8 x9:List Bool) (x11:List Int) (x12:Int)
 | l2 (x8 x9:List Bool) (x11:List Int) (x12:Int) (x13 x14:List Int) (x15:Int)
 | l3 (x8 x9:List Bool) (x11:List Int) (x12:Int) (x13 x14:List Int) (x15:Int)
 | l4 (x8 x9:List Bool) (x11:List Int) (x12:Int) (x13 x14:List Int) (x15:Int)
def zHp (n:Nat) (self:zG5→Option ((List Int)×Bool)) (q:zAB) (c_:zAC) (pos:List Int) (x8 x9:List Bool) (x11:List Int) (x12:Int):Option ((List Int)×Bool):=
 bif (decide (x12<(pos.length:Int))) then
  if 0≤x12∧x12<(x9.length:Int) then
   bif (!(x9.getD ((x12).toNat) false)) then
    if R64 (x12+1) then
     self (.l1 x8 x9 x11 (x12+1))
    else none
   else
    (zZo n q x12 x8).bind fun y1=>
     (zZo n q x12 x9).bind fun y2=>
      bif (decide ((y1.length:Int)<2)) then
       some (x11,false)
      else
       bif (decide ((y2.length:Int)>2)) then
        some (x11,false)
       else
        self (.l2 x8 x9 x11 x12 y1 y2 0)
  else none
 else
  some (x11,true)
def zEx (n:Nat) (self:zG5→Option ((List Int)×Bool)) (q:zAB) (c_:zAC) (pos:List Int) (x8 x9:List Bool) (x11:List Int) (x12:Int) (x13 x14:List Int) (x15:Int):Option ((List Int)×Bool):=
 bif (decide (x15<(x13.length:Int))) then
  bif ((x13.length:Int)==2) then
   if (0≤x15∧x15<(x13.length:Int))∧(0≤(x13.getD ((x15).toNat) 0)∧(x13.getD ((x15).toNat) 0)<(pos.length:Int))∧R64 ((pos.getD ((x13.getD ((x15).toNat) 0).toNat) 0)-(bits .and .i64 (pos.getD ((x13.getD ((x15).toNat) 0).toNat) 0) c_.set)) then
    (zEM n x11 (x13.getD ((x15).toNat) 0) ((pos.getD ((x13.getD ((x15).toNat) 0).toNat) 0)-(bits .and .i64 (pos.getD ((x13.getD ((x15).toNat) 0).toNat) 0) c_.set))).bind fun y1=>
     self (.l3 x8 x9 y1 x12 x13 x14 x15)
   else none
  else
   self (.l3 x8 x9 x11 x12 x13 x14 x15)
 else
  if R64 (x12+1) then
   self (.l1 x8 x9 x11 (x12+1))
  else none
def zEw (n:Nat) (self:zG5→Option ((List Int)×Bool)) (q:zAB) (c_:zAC) (pos:List Int) (x8 x9:List Bool) (x11:List Int) (x12:Int) (x13 x14:List Int) (x15:Int):Option ((List Int)×Bool):=
 bif ((x14.length:Int)==2) then
  if (0≤x15∧x15<(x13.length:Int))∧(0≤(x13.getD ((x15).toNat) 0)∧(x13.getD ((x15).toNat) 0)<(x9.length:Int)) then
   bif (!(x9.getD ((x13.getD ((x15).toNat) 0).toNat) false)) then
    if 0≤(x13.getD ((x15).toNat) 0)∧(x13.getD ((x15).toNat) 0)<(pos.length:Int) then
     (zEM n x11 (x13.getD ((x15).toNat) 0) (bits .and .i64 (pos.getD ((x13.getD ((x15).toNat) 0).toNat) 0) c_.set)).bind fun y1=>
      self (.l4 x8 x9 y1 x12 x13 x14 x15)
    else none
   else
    self (.l4 x8 x9 x11 x12 x13 x14 x15)
  else none
 else
  self (.l4 x8 x9 x11 x12 x13 x14 x15)
def zNq (n:Nat) (self:zG5→Option ((List Int)×Bool)) (q:zAB) (c_:zAC) (pos:List Int) (x8 x9:List Bool) (x11:List Int) (x12:Int) (x13 x14:List Int) (x15:Int):Option ((List Int)×Bool):=
 if R64 (x15+1) then
  self (.l2 x8 x9 x11 x12 x13 x14 (x15+1))
 else none
def zSp (n:Nat) (self:zG5→Option ((List Int)×Bool)) (q:zAB) (c_:zAC) (pos:List Int):Option ((List Int)×Bool):=
 (zEv n c_ pos false).bind fun y1=>
  (zEv n c_ pos true).bind fun y2=>
   (zMk n y2).bind fun y3=>
    bif (decide (y3<0)) then
     if pos.length=(List.replicate pos.length (0:Int)).length∧(((pos.length:Int):Int)=(pos.length:Int)∧0≤(pos.length:Int)∧((pos.length:Int):Int)≤1000000000000) then
      some (List.replicate pos.length (0:Int),true)
     else none
    else
     (zPk n q c_ pos y1 y3).bind fun y4=>
      self (.l1 y1 y2 y4 0)
def zAs (q:zAB) (c_:zAC) (pos:List Int):Nat→zG5→Option ((List Int)×Bool)
 | 0,_=>none
 | n+1,.l1 x8 x9 x11 x12=>zHp n (zAs q c_ pos n) q c_ pos x8 x9 x11 x12
 | n+1,.l2 x8 x9 x11 x12 x13 x14 x15=>zEx n (zAs q c_ pos n) q c_ pos x8 x9 x11 x12 x13 x14 x15
 | n+1,.l3 x8 x9 x11 x12 x13 x14 x15=>zEw n (zAs q c_ pos n) q c_ pos x8 x9 x11 x12 x13 x14 x15
 | n+1,.l4 x8 x9 x11 x12 x13 x14 x15=>zNq n (zAs q c_ pos n) q c_ pos x8 x9 x11 x12 x13 x14 x15
def zbv (n:Nat) (q:zAB) (c_:zAC) (pos:List Int):Option ((List Int)×Bool):=zSp n (zAs q c_ pos n) q c_ pos
def zZx (n B:Nat) (N:Yd 0) (q:zAB) (c_:zAC) (pos:List Int) (r:(List Int)×Bool):zG5→Prop
 | .l1 x8 x9 x11 x12=>∀ m0:Nat,n≤m0→TW B N (FQ Tryz.f97 0 (.tup 2 (L1 [.ints r.1,.bool r.2])) []) (toN m0 (zA9 (zAK Tryz.f97) 0 [])) ⟨frm 126 [(2,.ints pos),(3,.ref 0 0),(4,.ref 1 0),(8,.bools x8),(9,.bools x9),(11,.ints x11),(12,.i x12)],[some (.cells (zAE q)),some (.cells (zAF c_))]⟩
 | .l2 x8 x9 x11 x12 x13 x14 x15=>∀ m0 m1:Nat,n≤m0→n≤m1→TW B N (FQ Tryz.f97 0 (.tup 2 (L1 [.ints r.1,.bool r.2])) []) (toN m1 (zA9 (zAK Tryz.f97) 2 [m0])) ⟨frm 126 [(2,.ints pos),(3,.ref 0 0),(4,.ref 1 0),(8,.bools x8),(9,.bools x9),(11,.ints x11),(12,.i x12),(13,.ints x13),(14,.ints x14),(15,.i x15)],[some (.cells (zAE q)),some (.cells (zAF c_))]⟩
 | .l3 x8 x9 x11 x12 x13 x14 x15=>∀ m0 m1:Nat,n≤m0→n≤m1→TW B N (FQ Tryz.f97 0 (.tup 2 (L1 [.ints r.1,.bool r.2])) []) (zEd (zAK Tryz.f97) 20 [m0,m1]) ⟨frm 126 [(2,.ints pos),(3,.ref 0 0),(4,.ref 1 0),(8,.bools x8),(9,.bools x9),(11,.ints x11),(12,.i x12),(13,.ints x13),(14,.ints x14),(15,.i x15)],[some (.cells (zAE q)),some (.cells (zAF c_))]⟩
 | .l4 x8 x9 x11 x12 x13 x14 x15=>∀ m0 m1:Nat,n≤m0→n≤m1→TW B N (FQ Tryz.f97 0 (.tup 2 (L1 [.ints r.1,.bool r.2])) []) (zEd (zAK Tryz.f97) 17 [m0,m1]) ⟨frm 126 [(2,.ints pos),(3,.ref 0 0),(4,.ref 1 0),(8,.bools x8),(9,.bools x9),(11,.ints x11),(12,.i x12),(13,.ints x13),(14,.ints x14),(15,.i x15)],[some (.cells (zAE q)),some (.cells (zAF c_))]⟩
theorem zW2 (B:Nat) (N:Yd 0) (q:zAB) (c_:zAC) (pos:List Int):Al (zAs q c_ pos) (zZx · B N q c_ pos):=ia (fun _=>rfl) fun n hself pt r h=>by
 cases pt
 case l1 x8 x9 x11 x12=>
  intro m0 hm0
  refine rd hm0 fun m0 hm0=>?_
  revert r
  apply gO
  exact bi 38 (gi (bi 45 (gw 40 (lG (zAA 20 (zAA 17 zBE)) [0,1] (hself _ _ · m0 hm0))) (cf zSh [some (.cells (zAE q)),some (.cells (zAF c_))] fun _=>cf zSh [some (.cells (zAE q)),some (.cells (zAF c_))] fun _=>bi 56 (lE (zAA 20 (zAA 17 zBE)) [6,7] []) (bi 60 (lE (zAA 20 (zAA 17 zBE)) [6,7] []) (lN (zAA 20 (zAA 17 zBE)) [0,1] (hself _ _ · m0 n hm0 Nat.le.refl)))))) (lE (zAA 20 (zAA 17 zBE)) [6,7] [])
 case l2 x8 x9 x11 x12 x13 x14 x15=>
  intro m0 m1 hm0 hm1
  have hm0:=Nat.le_of_succ_le hm0
  refine rd hm1 fun m1 hm1=>?_
  revert r
  apply gO
  exact bi 66 (bi 71 (jg zT0 (gc (gn fun g0=>jg g0 (jg g0 (gc (gn fun g1=>jg g1 (jg g0 (jg g1 (gw 94 (cf zCs [some (.cells (zAE q)),some (.cells (zAF c_))] fun _=>lG (zAA 20 (zAA 17 zBE)) [0,1] (hself _ _ · m0 m1 hm0 hm1))))))))))) (lG (zAA 20 (zAA 17 zBE)) [0,1] (hself _ _ · m0 m1 hm0 hm1))) (gw 40 (lG (zAA 20 (zAA 17 zBE)) [0,1] (hself _ _ · m0 hm0)))
 case l3 x8 x9 x11 x12 x13 x14 x15=>
  intro m0 m1 hm0 hm1
  have hm0:=Nat.le_of_succ_le hm0
  have hm1:=Nat.le_of_succ_le hm1
  revert r
  apply gO
  exact bi 98 (gc (gn fun g0=>jg g0 (gi (bi 107 (jg zTz (jg g0 (jg g0 (gi (cf zCs [some (.cells (zAE q)),some (.cells (zAF c_))] fun _=>lG (zAA 17 zBE) [0,1] (hself _ _ · m0 m1 hm0 hm1)))))) (lG (zAA 17 zBE) [0,1] (hself _ _ · m0 m1 hm0 hm1)))))) (lG (zAA 17 zBE) [0,1] (hself _ _ · m0 m1 hm0 hm1))
 case l4 x8 x9 x11 x12 x13 x14 x15=>
  intro m0 m1 hm0 hm1
  have hm0:=Nat.le_of_succ_le hm0
  have hm1:=Nat.le_of_succ_le hm1
  revert r
  apply gO
  exact gw 68 (lG (zAA 20 zBE) [0,1] (hself _ _ · m0 m1 hm0 hm1))
theorem zZv {n:Nat} {q:zAB} {c_:zAC} {pos:List Int} {r:(List Int)×Bool} (h:zbv n q c_ pos=some r):EQ 97 [.agg 5 (L1 (zAE q)),.agg 9 (L1 (zAF c_)),.ints pos] [] (.tup 2 (L1 [.ints r.1,.bool r.2])) [] true:=by
 refine ot Tryz.func97 fun B N=>?_
 revert r
 apply gO
 exact cf zGQ [some (.cells (zAE q)),some (.cells (zAF c_))] fun _=>cf zGQ [some (.cells (zAE q)),some (.cells (zAF c_))] fun _=>cf zPd [some (.cells (zAE q)),some (.cells (zAF c_))] fun _=>bi 25 (gc (gn fun g0=>gi (jz 28 2 (jg g0 (lE (zAA 20 (zAA 17 zBE)) [6,7] []))))) (cf zSw [some (.cells (zAE q)),some (.cells (zAF c_))] fun _=>lN (zAA 20 (zAA 17 zBE)) [0,1] ((zW2 B N q c_ pos n) _ _ · n Nat.le.refl))
def zBN (n:Nat) (q:zAB) (c_:zAC) (pos:List Int):Option ((List Int)×Bool):=
 bif (c_.kind==1) then
  (zZ4 n q c_ pos).bind fun y1=>
   some (y1,true)
 else
  bif (c_.kind==2) then
   (zSv n c_ pos).bind fun y1=>
    some (y1.1,y1.2)
  else
   bif (c_.kind==3) then
    (zdT n q c_ pos).bind fun y1=>
     some (y1.1,y1.2)
   else
    bif (c_.kind==8) then
     (zIk n q c_ pos).bind fun y1=>
      some (y1,true)
    else
     bif (c_.kind==9) then
      (zbv n q c_ pos).bind fun y1=>
       some (y1.1,y1.2)
     else
      bif (c_.kind==5) then
       (zDZ n c_ pos 0 0 0 (-1) true).bind fun y1=>
        bif (!y1) then
         some (pos,false)
        else
         (zGS n q c_ pos).bind fun y2=>
          some (y2,true)
      else
       (zGS n q c_ pos).bind fun y1=>
        some (y1,true)
def zB1 (n:Nat) (q:zAB) (c_:zAC) (pos:List Int):Option ((List Int)×Bool):=zBN n q c_ pos
theorem zRP {n:Nat} {q:zAB} {c_:zAC} {pos:List Int} {r:(List Int)×Bool} (h:zB1 n q c_ pos=some r):EQ 68 [.agg 5 (L1 (zAE q)),.agg 9 (L1 (zAF c_)),.ints pos] [] (.tup 2 (L1 [.ints r.1,.bool r.2])) [] true:=by
 refine ot Tryz.func68 fun B N=>?_
 revert r
 apply gO
 exact bi 11 (cf zZ1 [some (.cells (zAE q)),some (.cells (zAF c_))] fun _=>lE zAH [6,7] []) (bi 17 (cf zXB [some (.cells (zAE q)),some (.cells (zAF c_))] fun _=>lE zAH [6,7] []) (bi 24 (cf zbs [some (.cells (zAE q)),some (.cells (zAF c_))] fun _=>lE zAH [6,7] []) (bi 32 (cf zNv [some (.cells (zAE q)),some (.cells (zAF c_))] fun _=>lE zAH [6,7] []) (bi 38 (cf zZv [some (.cells (zAE q)),some (.cells (zAF c_))] fun _=>lE zAH [6,7] []) (bi 47 (cf zSj [some (.cells (zAE q)),some (.cells (zAF c_))] fun _=>bi 52 (lE zAH [6,7] []) (cf zK9 [some (.cells (zAE q)),some (.cells (zAF c_))] fun _=>lE zAH [6,7] [])) (cf zK9 [some (.cells (zAE q)),some (.cells (zAF c_))] fun _=>lE zAH [6,7] []))))))
inductive zNu where
 | l1 (x3:Int)
def zHs (n:Nat) (self:zNu→Option Bool) (pos:List Int) (x3:Int):Option Bool:=
 bif (decide (x3<(pos.length:Int))) then
  if 0≤x3∧x3<(pos.length:Int) then
   bif ((pos.getD ((x3).toNat) 0)==0) then
    some true
   else
    if R64 (x3+1) then
     self (.l1 (x3+1))
    else none
  else none
 else
  some false
def zZ5 (n:Nat) (self:zNu→Option Bool) (pos:List Int):Option Bool:=
 self (.l1 0)
def zG6 (pos:List Int):Nat→zNu→Option Bool
 | 0,_=>none
 | n+1,.l1 x3=>zHs n (zG6 pos n) pos x3
def zZ7 (n:Nat) (pos:List Int):Option Bool:=zZ5 n (zG6 pos n) pos
def zZ6 (n B:Nat) (N:Yd 0) (pos:List Int) (r:Bool):zNu→Prop
 | .l1 x3=>∀ m0:Nat,n≤m0→TW B N (FQ Tryz.f55 0 (.bool r) []) (toN m0 (zA9 (zAK Tryz.f55) 0 [])) ⟨frm 15 [(0,.ints pos),(3,.i x3)],[]⟩
theorem zXA (B:Nat) (N:Yd 0) (pos:List Int):Al (zG6 pos) (zZ6 · B N pos):=ia (fun _=>rfl) fun n hself pt r h=>by
 cases pt
 case l1 x3=>
  intro m0 hm0
  refine rd hm0 fun m0 hm0=>?_
  revert r
  apply gO
  exact bi 7 (gi (bi 14 (lE zAH [2] []) (gw 9 (lG zAH [] (hself _ _ · m0 hm0))))) (lE zAH [2] [])
theorem zSt {n:Nat} {pos:List Int} {r:Bool} (h:zZ7 n pos=some r):EQ 55 [.ints pos] [] (.bool r) [] true:=by
 refine ot Tryz.func55 fun B N=>?_
 revert r
 apply gO
 exact lN zAH [] ((zXA B N pos n) _ _ · n Nat.le.refl)
theorem zNS:SOk (zBa Tryz.f42 9) [] (List.range 16) []:=by unfold SOk;kernel_rfl
def zBY:Sch:=fun i=>match i with
 | 9=>.ord [] (List.range 16) []
 | _=>.no
inductive zEq where
 | l1 (x6:Int)
def zC4 (n:Nat) (self:zEq→Option Int) (q:zAB) (pos:List Int) (x6:Int):Option Int:=
 bif (decide (x6<(pos.length:Int))) then
  if 0≤x6∧x6<(pos.length:Int) then
   bif (decide ((pos.getD ((x6).toNat) 0)<0)) then
    some 250
   else
    if 0≤IntKind.u64.wrap q.symbols∧IntKind.u64.wrap q.symbols≤(IntKind.i64.bits:Int) then
     bif (decide ((pos.getD ((x6).toNat) 0)≥(IntKind.i64.wrap (1*2 ^ (IntKind.u64.wrap q.symbols).toNat)))) then
      some 250
     else
      if R64 (x6+1) then
       self (.l1 (x6+1))
      else none
    else none
  else none
 else
  some 0
def zJR (n:Nat) (self:zEq→Option Int) (q:zAB) (pos:List Int):Option Int:=
 (zO8 n q).bind fun y1=>
  bif (y1 != 0) then
   some y1
  else
   bif ((pos.length:Int) != q.cells) then
    some 250
   else
    self (.l1 0)
def zB4 (q:zAB) (pos:List Int):Nat→zEq→Option Int
 | 0,_=>none
 | n+1,.l1 x6=>zC4 n (zB4 q pos n) q pos x6
def zHc (n:Nat) (q:zAB) (pos:List Int):Option Int:=zJR n (zB4 q pos n) q pos
def zPE (n B:Nat) (N:Yd 0) (q:zAB) (pos:List Int) (r:Int):zEq→Prop
 | .l1 x6=>∀ m0:Nat,n≤m0→TW B N (FQ Tryz.f42 0 (.i r) []) (toN m0 (zA9 (zAK Tryz.f42) 0 [])) ⟨frm 39 [(1,.ints pos),(2,.ref 0 0),(6,.i x6)],[some (.cells (zAE q))]⟩
theorem zNa (B:Nat) (N:Yd 0) (q:zAB) (pos:List Int):Al (zB4 q pos) (zPE · B N q pos):=ia (fun _=>rfl) fun n hself pt r h=>by
 cases pt
 case l1 x6=>
  intro m0 hm0
  refine rd hm0 fun m0 hm0=>?_
  revert r
  apply gO
  exact bi 20 (jg zNS (gn fun g0=>jg g0 (bi 27 (lE zBY [4] []) (jg g0 (gi (bi 37 (lE zBY [4] []) (gw 22 (lG zBY [0] (hself _ _ · m0 hm0))))))))) (lE zBY [4] [])
theorem zPC {n:Nat} {q:zAB} {pos:List Int} {r:Int} (h:zHc n q pos=some r):EQ 42 [.agg 5 (L1 (zAE q)),.ints pos] [] (.i r) [] true:=by
 refine ot Tryz.func42 fun B N=>?_
 revert r
 apply gO
 exact cf zO5 [some (.cells (zAE q))] fun _=>bi 10 (lE zBY [4] []) (bi 16 (lE zBY [4] []) (lN zBY [0] ((zNa B N q pos n) _ _ · n Nat.le.refl)))
theorem zO2:SOk (zBa Tryz.f38 11) [([0,1,2,3,4,5,6,7,8,9,10,11,12,13,14],15)] [] [16,17]:=by unfold SOk;kernel_rfl
def zCk:Sch:=fun i=>match i with
 | 11=>.ord [([0,1,2,3,4,5,6,7,8,9,10,11,12,13,14],15)] [] [16,17]
 | _=>.no
inductive zHl where
 | l1 (x8:List Int) (x10:Nat) (x11:Int) (o0:List Int)
def zEJ (n:Nat) (self:zHl→Option ((List Int))) (q:zAB) (c_:zAC) (pos:List Int) (x8:List Int) (x10:Nat) (x11:Int) (o0:List Int):Option ((List Int)):=
 bif (decide (x11<(pos.length:Int))) then
  if (0≤x11∧x11<(pos.length:Int))∧(0≤x11∧x11<(x8.length:Int))∧R64 ((pos.getD ((x11).toNat) 0)-(bits .and .i64 (pos.getD ((x11).toNat) 0) (x8.getD ((x11).toNat) 0)))∧((0=0∧1=([((pos.getD ((x11).toNat) 0)-(bits .and .i64 (pos.getD ((x11).toNat) 0) (x8.getD ((x11).toNat) 0)))]:List Int).length)∧(0=0∧x10=o0.length)∧o0.length+([((pos.getD ((x11).toNat) 0)-(bits .and .i64 (pos.getD ((x11).toNat) 0) (x8.getD ((x11).toNat) 0)))]:List Int).length≤LIM)∧R64 (x11+1) then
   self (.l1 x8 (o0.length+([((pos.getD ((x11).toNat) 0)-(bits .and .i64 (pos.getD ((x11).toNat) 0) (x8.getD ((x11).toNat) 0)))]:List Int).length) (x11+1) (o0++([((pos.getD ((x11).toNat) 0)-(bits .and .i64 (pos.getD ((x11).toNat) 0) (x8.getD ((x11).toNat) 0)))]:List Int)))
  else none
 else
  if x10=o0.length then
   (zZ7 n o0).bind fun y1=>
    bif y1 then
     some (List.replicate pos.length (0:Int))
    else
     some o0
  else none
def zIi (n:Nat) (self:zHl→Option ((List Int))) (q:zAB) (c_:zAC) (pos:List Int):Option ((List Int)):=
 if pos.length=(List.replicate pos.length (0:Int)).length∧(((pos.length:Int):Int)=(pos.length:Int)∧0≤(pos.length:Int)∧((pos.length:Int):Int)≤1000000000000) then
  (zZ7 n pos).bind fun y1=>
   bif y1 then
    some (List.replicate pos.length (0:Int))
   else
    (zB1 n q c_ pos).bind fun y2=>
     bif (!y2.2) then
      some (List.replicate pos.length (0:Int))
     else
      self (.l1 y2.1 0 0 ([]:List Int))
 else none
def zC5 (q:zAB) (c_:zAC) (pos:List Int):Nat→zHl→Option ((List Int))
 | 0,_=>none
 | n+1,.l1 x8 x10 x11 o0=>zEJ n (zC5 q c_ pos n) q c_ pos x8 x10 x11 o0
def zB6 (n:Nat) (q:zAB) (c_:zAC) (pos:List Int):Option ((List Int)):=zIi n (zC5 q c_ pos n) q c_ pos
def zUO (n B:Nat) (N:Yd 0) (q:zAB) (c_:zAC) (pos:List Int) (r:(List Int)):zHl→Prop
 | .l1 x8 x10 x11 o0=>∀ m0:Nat,n≤m0→TW B N (FQ Tryz.f38 0 (.ints r) []) (toN m0 (zA9 (zAK Tryz.f38) 0 [])) ⟨frm 56 [(2,.ints pos),(7,.ints (List.replicate pos.length (0:Int))),(8,.ints x8),(10,.msl 0 1 0 x10),(11,.i x11)],[some (.ints o0)]⟩
theorem zRR (B:Nat) (N:Yd 0) (q:zAB) (c_:zAC) (pos:List Int):Al (zC5 q c_ pos) (zUO · B N q c_ pos):=ia (fun _=>rfl) fun n hself pt r h=>by
 cases pt
 case l1 x8 x10 x11 o0=>
  intro m0 hm0
  refine rd hm0 fun m0 hm0=>?_
  revert r
  apply gO
  exact bi 32 (jg zO2 (gc (gn fun g0=>jg g0 (jg g0 (gc (gi (gc (gw 49 (gc (gi (gw 34 (lG zCk [2] (hself _ _ · m0 hm0))))))))))))) (gn fun g0=>cn fun y1 hy1=>jc (sb [.msl 0 1 0 x10] (zSt hy1) [some (.ints o0)] ⟨zA1.ints rfl g0,trivial⟩) (bi 53 (lE zCk [6] []) (lF fun p=>ez zCk [6] [0] p [0] (H0.g g0))))
theorem zMf {n:Nat} {q:zAB} {c_:zAC} {pos:List Int} {r:(List Int)} (h:zB6 n q c_ pos=some r):EQ 38 [.agg 5 (L1 (zAE q)),.agg 9 (L1 (zAF c_)),.ints pos] [] (.ints r) [] true:=by
 refine ot Tryz.func38 fun B N=>?_
 revert r
 apply gO
 exact gc (gn fun g0=>gi (jz 14 2 (jg g0 (cf zSt [some (.cells (zAE q)),some (.cells (zAF c_)),none] fun _=>bi 16 (lE zCk [6] []) (cf zRP [some (.cells (zAE q)),some (.cells (zAF c_)),none] fun _=>bi 26 (lE zCk [6] []) (lN zCk [3] ((zRR B N q c_ pos n) _ _ · n Nat.le.refl)))))))
def zIg (n:Nat) (q:zAB) (i:Int) (pos:List Int):Option Int:=
 (zPI n q i).bind fun y1=>
  bif (y1.2 != 0) then
   some y1.2
  else
   (zHc n q pos).bind fun y2=>
    some y2
def zG4 (n:Nat) (q:zAB) (i:Int) (pos:List Int):Option Int:=zIg n q i pos
theorem zMe {n:Nat} {q:zAB} {i:Int} {pos:List Int} {r:Int} (h:zG4 n q i pos=some r):EQ 37 [.agg 5 (L1 (zAE q)),.i i,.ints pos] [] (.i r) [] true:=by
 unfold zG4 zIg at h
 refine ot Tryz.func37 fun B N=>?_
 revert r
 apply gO
 exact cf zWd [some (.cells (zAE q))] fun _=>bi 16 (lE zAH [6] []) (cf zPC [some (.cells (zAE q))] fun _=>lE zAH [6] [])
theorem zTx:SOk (zBa Tryz.f10 4) [([0,1,2,3,4,5,6],7)] [8,9] []:=by unfold SOk;kernel_rfl
def zTp:Sch:=fun i=>match i with
 | 4=>.ord [([0,1,2,3,4,5,6],7)] [8,9] []
 | _=>.no
def zPV (n:Nat) (q:zAB) (i:Int) (pos:List Int):Option ((List Int)×Int):=
 (zG4 n q i pos).bind fun y1=>
  bif (y1 != 0) then
   some (([]:List Int),y1)
  else
   if 0≤i∧i<(q.cons.length:Int) then
    (zB6 n q (q.cons.getD ((i).toNat) default) pos).bind fun y2=>
     some (y2,0)
   else none
def zK2 (n:Nat) (q:zAB) (i:Int) (pos:List Int):Option ((List Int)×Int):=zPV n q i pos
theorem zWy {n:Nat} {q:zAB} {i:Int} {pos:List Int} {r:(List Int)×Int} (h:zK2 n q i pos=some r):EQ 10 [.agg 5 (L1 (zAE q)),.i i,.ints pos] [] (.tup 2 (L1 [.ints r.1,.i r.2])) [] true:=by
 unfold zK2 zPV at h
 refine ot Tryz.func10 fun B N=>?_
 revert r
 apply gO
 exact cf zMe [some (.cells (zAE q))] fun y1=>bi 14 (lF fun p=>el zAH [6,7] [] p [] H0 [.nils,.i y1] (DLe.tupL (l:=[.nils,.i y1]) (l':=[.ints ([]:List Int),.i y1]) rfl ⟨DLe.ints_nil,zAD,trivial⟩)) (jg zTx (gi (cf zMf [some (.cells (zAE q))] fun _=>lE zTp [6,7] [])))
theorem zWH:SOk (zBa Tryz.f12 4) [([0,1,2,3,4,5,6],7)] [8] []:=by unfold SOk;kernel_rfl
def zCz:Sch:=fun i=>match i with
 | 4=>.ord [([0,1,2,3,4,5,6],7)] [8] []
 | _=>.no
inductive zK3 where
 | l1 (x9:List Int) (x10:Nat) (x11:Int) (o1:List (Int×Int))
 | l2 (x9:List Int) (x10:Nat) (x11 x12:Int) (o1:List (Int×Int))
def zHo (n:Nat) (self:zK3→Option ((List (Int×Int))×Int)) (q:zAB) (i:Int) (pos:List Int) (x9:List Int) (x10:Nat) (x11:Int) (o1:List (Int×Int)):Option ((List (Int×Int))×Int):=
 bif (decide (x11<(pos.length:Int))) then
  self (.l2 x9 x10 x11 0 o1)
 else
  if x10=o1.length then
   some (o1,0)
  else none
def zHn (n:Nat) (self:zK3→Option ((List (Int×Int))×Int)) (q:zAB) (i:Int) (pos:List Int) (x9:List Int) (x10:Nat) (x11 x12:Int) (o1:List (Int×Int)):Option ((List (Int×Int))×Int):=
 bif (decide (x12<q.symbols)) then
  if 0≤x11∧x11<(pos.length:Int) then
   (zPa n (pos.getD ((x11).toNat) 0) x12).bind fun y1=>
    bif y1 then
     if 0≤x11∧x11<(x9.length:Int) then
      (zPa n (x9.getD ((x11).toNat) 0) x12).bind fun y2=>
       bif (!y2) then
        if x10=o1.length∧o1.length+([(x11,x12)]:List (Int×Int)).length≤LIM∧R64 (x12+1) then
         self (.l2 x9 (o1.length+([(x11,x12)]:List (Int×Int)).length) x11 (x12+1) (o1++([(x11,x12)]:List (Int×Int))))
        else none
       else
        if R64 (x12+1) then
         self (.l2 x9 x10 x11 (x12+1) o1)
        else none
     else none
    else
     if R64 (x12+1) then
      self (.l2 x9 x10 x11 (x12+1) o1)
     else none
  else none
 else
  if R64 (x11+1) then
   self (.l1 x9 x10 (x11+1) o1)
  else none
def zZs (n:Nat) (self:zK3→Option ((List (Int×Int))×Int)) (q:zAB) (i:Int) (pos:List Int):Option ((List (Int×Int))×Int):=
 (zG4 n q i pos).bind fun y1=>
  bif (y1 != 0) then
   some (([]:List (Int×Int)),y1)
  else
   if 0≤i∧i<(q.cons.length:Int) then
    (zB6 n q (q.cons.getD ((i).toNat) default) pos).bind fun y2=>
     self (.l1 y2 0 0 ([]:List (Int×Int)))
   else none
def zBv (q:zAB) (i:Int) (pos:List Int):Nat→zK3→Option ((List (Int×Int))×Int)
 | 0,_=>none
 | n+1,.l1 x9 x10 x11 o1=>zHo n (zBv q i pos n) q i pos x9 x10 x11 o1
 | n+1,.l2 x9 x10 x11 x12 o1=>zHn n (zBv q i pos n) q i pos x9 x10 x11 x12 o1
def zUQ (n:Nat) (q:zAB) (i:Int) (pos:List Int):Option ((List (Int×Int))×Int):=zZs n (zBv q i pos n) q i pos
def zZu (n B:Nat) (N:Yd 0) (q:zAB) (i:Int) (pos:List Int) (r:(List (Int×Int))×Int):zK3→Prop
 | .l1 x9 x10 x11 o1=>∀ m0:Nat,n≤m0→TW B N (FQ Tryz.f12 0 (.tup 2 (L1 [.sl 2 r.1.length (zAz iiC r.1),.i r.2])) []) (toN m0 (zA9 (zAK Tryz.f12) 0 [])) ⟨frm 63 [(2,.ints pos),(3,.ref 0 0),(9,.ints x9),(10,.msl 1 2 0 x10),(11,.i x11)],[some (.cells (zAE q)),some (.arr 2 o1.length (zAz iiC o1))]⟩
 | .l2 x9 x10 x11 x12 o1=>∀ m0 m1:Nat,n≤m0→n≤m1→TW B N (FQ Tryz.f12 0 (.tup 2 (L1 [.sl 2 r.1.length (zAz iiC r.1),.i r.2])) []) (toN m1 (zA9 (zAK Tryz.f12) 2 [m0])) ⟨frm 63 [(2,.ints pos),(3,.ref 0 0),(9,.ints x9),(10,.msl 1 2 0 x10),(11,.i x11),(12,.i x12)],[some (.cells (zAE q)),some (.arr 2 o1.length (zAz iiC o1))]⟩
theorem zW1 (B:Nat) (N:Yd 0) (q:zAB) (i:Int) (pos:List Int):Al (zBv q i pos) (zZu · B N q i pos):=ia (fun _=>rfl) fun n hself pt r h=>by
 cases pt
 case l1 x9 x10 x11 o1=>
  intro m0 hm0
  refine rd hm0 fun m0 hm0=>?_
  revert r
  apply gO
  exact bi 32 (lN zCz [0,1] (hself _ _ · m0 n hm0 Nat.le.refl)) (gn fun g0=>lF fun p=>ez zCz [6,7] [1] p [0] (H0.g g0))
 case l2 x9 x10 x11 x12 o1=>
  intro m0 m1 hm0 hm1
  have hm0:=Nat.le_of_succ_le hm0
  refine rd hm1 fun m1 hm1=>?_
  revert r
  apply gO
  exact bi 38 (gi (cf zE0 [some (.cells (zAE q)),some (.arr 2 o1.length (zAz iiC o1))] fun _=>bi 46 (gi (cf zE0 [some (.cells (zAE q)),some (.arr 2 o1.length (zAz iiC o1))] fun _=>bi 54 (ja 60 2 2 (zAT (c:=iiC) (L:=([(x11,x12)]:List (Int×Int))) (vals:=[.agg 2 (L1 [.i x11,.i x12])]) rfl ⟨⟨_,rfl,⟨zAD,zAD,trivial⟩⟩,trivial⟩) (gc (gn fun g2=>gc (gn fun g3=>jg (And.intro (And.intro (And.intro (Eq.refl 0) (Eq.refl 1)) (zQy iiC ([(x11,x12)]:List (Int×Int)) (([(x11,x12)]:List (Int×Int)).length) 2 fun _=>⟨rfl,rfl⟩)) (And.intro (And.intro (Eq.refl 0) g2) g3)) (ja 61 3 2 (zCP (enc:=(zYa iiC)) (L:=o1) (L':=([(x11,x12)]:List (Int×Int))) rfl rfl fun _ _ _ _=>zAD) (gw 40 (lG zCz [0,3] (hself _ _ · m0 m1 hm0 hm1)))))))) (gw 40 (lG zCz [0,1] (hself _ _ · m0 m1 hm0 hm1))))) (gw 40 (lG zCz [0,1] (hself _ _ · m0 m1 hm0 hm1))))) (gw 34 (lG zCz [0,1] (hself _ _ · m0 hm0)))
theorem zZr {n:Nat} {q:zAB} {i:Int} {pos:List Int} {r:(List (Int×Int))×Int} (h:zUQ n q i pos=some r):EQ 12 [.agg 5 (L1 (zAE q)),.i i,.ints pos] [] (.tup 2 (L1 [.sl 2 r.1.length (zAz iiC r.1),.i r.2])) [] true:=by
 refine ot Tryz.func12 fun B N=>?_
 revert r
 apply gO
 exact cf zMe [some (.cells (zAE q))] fun y1=>bi 18 (lF fun p=>el zCz [6,7] [] p [] H0 [.nils,.i y1] (DLe.tupL (l:=[.nils,.i y1]) (l':=[.sl 2 (([]:List (Int×Int)).length) (zAz iiC ([]:List (Int×Int))),.i y1]) rfl ⟨(DLe.sl_nil _ _),zAD,trivial⟩)) (jg zWH (gi (cf zMf [some (.cells (zAE q))] fun _=>ja 28 1 2 (zAT (c:=iiC) (L:=([]:List (Int×Int))) (vals:=[]) rfl trivial) (lN zCz [0,1] ((zW1 B N q i pos n) _ _ · n Nat.le.refl)))))
end Go.Proofs.YtekkngkphejfcaaGreatDoor
namespace Go.Proofs.YtekkngkphejfcaaGreatDoor
open Go.RowKit
theorem zbX {k s:Nat} {x:Int} (h:Sm k x) (hk:k≤62) (hs:s<64):(bits .and .i64 (x/2 ^ s) 1==1)=tb x s:=by
 obtain ⟨m,rfl⟩:=Int.eq_ofNat_of_zero_le h.1
 have hm:=h.2
 have h62:=zCt hk
 have e:(m:Int)/2 ^ s=((m/2 ^ s:Nat):Int):=by simp
 have key: ∀ t,t<64→tb (bits .and .i64 ((m:Int)/2 ^ s) 1) t=(decide (t=0)&&tb (m:Int) s):=fun t ht=>by
  rw [zCJ,e,zFK _ _ ht,zFK m s hs,show (1:Int)=((1:Nat):Int) from rfl,zFK 1 t ht,Nat.testBit_div_two_pow]
  by_cases h0:t=0
  ·subst h0;simp
  ·rw [decide_eq_false h0,Bool.false_and]
   have:Nat.testBit 1 t=false:=by
    rw [show (1:Nat)=2 ^ 0 from rfl,Nat.testBit_two_pow];simpa using fun h=>h0 h.symm
   rw [this,Bool.and_false]
 cases hb:tb (m:Int) s with
 | true=>
  rw [beq_iff_eq]
  refine zHP (zAl _ _ _) ⟨by decide,by decide⟩ fun t ht=>?_
  rw [key t ht,hb,show (1:Int)=((1:Nat):Int) from rfl,zFK 1 t ht,Bool.and_true]
  by_cases h0:t=0
  ·subst h0;rfl
  ·rw [decide_eq_false h0]
   rw [show (1:Nat)=2 ^ 0 from rfl,Nat.testBit_two_pow];symm;simpa using fun h=>h0 h.symm
 | false=>
  have:bits .and .i64 ((m:Int)/2 ^ s) 1=0:=(zCA (zAl _ _ _)).2 fun t ht=>by rw [key t ht,hb,Bool.and_false]
  rw [this];rfl
theorem zE1 {k s n:Nat} {x:Int} (h:Sm k x) (hk:k≤62) (hs:s<64):zPa n x (s:Int)=some (tb x s):=by
 unfold zPa zW6
 rw [if_pos ⟨by omega,by show (s:Int)≤((64:Nat):Int);omega⟩,Int.toNat_natCast,zbX h hk hs]
def RL (pos:List Int) (D:Nat→Nat→Prop) (l:List Int):Prop:=(l.length=pos.length∧∀ j,zEg (l.getD j 0))∧∀ j s,tb (l.getD j 0) s=true↔D j s
section
variable {q:zAB} {c:zAC} {pos l:List Int} {D D':Nat→Nat→Prop} {k:Nat}
theorem RL.zero (pos:List Int):RL pos (fun _ _=>False) (List.replicate pos.length 0):=⟨⟨zL8,zin⟩,fun j s=>by rw [zat];exact ⟨fun h=>absurd h tb0,fun h=>h.elim⟩⟩
theorem RL.congr (h:RL pos D l) (hD: ∀ j s,D' j s↔D j s):RL pos D' l:=⟨h.1,fun j s=>(h.2 j s).trans (hD j s).symm⟩
theorem RL.lose (h:RL pos D l) (h256:pos.length≤256) {cell ss:Int} (h0:0≤cell) (h1:cell<(pos.length:Int)): ∃ l',(∀ n,zEM n l cell ss=some l')∧RL pos (fun j s=>D j s∨((j:Int)=cell∧tb ss s=true)) l':=by
 have L:(1000000000000:Nat)=LIM:=rfl
 have hl:=h.1.1
 refine ⟨l.set cell.toNat (bits .or .i64 (l.getD cell.toNat 0) ss),fun n=>?_,⟨by rw [List.length_set];exact hl,zV1 h.1.2 (zAl _ _ _)⟩,fun j s=>?_⟩
 ·unfold zEM zSo
  simp only [List.nil_append,List.length_nil,Nat.zero_add]
  rw [if_pos ⟨⟨trivial,⟨trivial,trivial⟩,by rw [←L];omega⟩,⟨by omega,by omega⟩,by omega⟩,if_pos (by rw [List.length_set])]
 ·by_cases e:cell.toNat=j
  ·subst e
   rw [zAk (by omega),zOd,Bool.or_eq_true,h.2]
   exact ⟨fun h=>h.elim .inl fun h=>.inr ⟨by omega,h⟩,fun h=>h.elim .inl fun h=>.inr h.2⟩
  ·rw [getD_set_ne e,h.2]
   exact ⟨.inl,fun h=>h.elim id fun h=>absurd (by omega) e⟩
structure RW (q:zAB) (c:zAC) (pos:List Int):Prop where
 W:zFS c q.symbols.toNat pos
 V:zMA q q.symbols.toNat
 sy:1≤q.symbols∧q.symbols≤16
 vlen:(q.values.length:Int)=q.symbols
 h0:0<pos.length
 h256:pos.length≤256
 nz: ∀ j,j<pos.length→pos.getD j 0≠0
theorem RW.sym (H:RW q c pos) {s:Nat} (hs:s<q.symbols.toNat):((s:Int)<q.symbols)∧s<16∧((0:Int)≤(s:Int)∧(s:Int)≤((IntKind.i64.bits:Nat):Int)):=by
 have:=H.sy
 exact ⟨by omega,by omega,by omega,by show (s:Int)≤((64:Nat):Int);omega⟩
theorem RW.low (H:RW q c pos) {x:Int} (hx:Sm q.symbols.toNat x) {s:Nat} (h:tb x s=true):s<q.symbols.toNat:=Nat.lt_of_not_le fun hle=>by rw [hx.hi hle] at h;cases h
theorem zMp {s:Nat} (hs:s<62) {x:Int} (hx:zEg x):x=IntKind.i64.wrap (1*2 ^ s)↔∀ t,tb x t=decide (s=t):=by
 constructor
 ·rintro rfl t
  exact zGl (by omega) t
 ·intro h
  exact zHP hx (zVn _) fun t _=>by rw [h,zGl (by omega)]
def zSs (c:zAC) (pos:List Int) (k:Nat) (j t:Nat):Prop:=∃ a b,a<c.cells.length∧b<c.cells.length∧a≠b∧t<k∧zAI c pos b=IntKind.i64.wrap (1*2 ^ t)∧(c.cells.getD a 0).toNat=j
theorem zZ2 (H:RW q c pos):PEv (fun n=>zZ4 n q c pos) (fun l=>RL pos (zSs c pos q.symbols.toNat) l):=by
 have W:=H.W
 have hlen:=W.len
 have hsy:=H.sy
 have ek:((q.symbols.toNat:Nat):Int)=q.symbols:=by omega
 have S3: ∀ (D:Nat→Nat→Prop) (a b:Nat) (l:List Int),a<c.cells.length→b<c.cells.length→RL pos D l→∃ l',RL pos (fun j t=>D j t∨(t<q.symbols.toNat∧a≠b∧zAI c pos b=IntKind.i64.wrap (1*2 ^ t)∧(c.cells.getD a 0).toNat=j)) l'∧zA3 (zBW q c pos) (.l3 l a b 0) (.l3 l' a b q.symbols):=by
  intro D a b l ha hb hR
  have:=zD7 (m:=zBW q c pos) (fun s (l:List Int)=>.l3 l (a:Int) (b:Int) (s:Int)) (fun s l=>RL pos (fun j t=>D j t∨(t<s∧a≠b∧zAI c pos b=IntKind.i64.wrap (1*2 ^ t)∧(c.cells.getD a 0).toNat=j)) l) q.symbols.toNat (fun s l hs hI=>?_) q.symbols.toNat 0 l (by omega) (hR.congr fun j t=>⟨fun h=>h.elim id fun h=>absurd h.1 (Nat.not_lt_zero t),.inl⟩)
  ·obtain ⟨l',h1,h2⟩:=this
   refine ⟨l',h1,?_⟩
   have h2:zA3 (zBW q c pos) (.l3 l a b ((0:Nat):Int)) (.l3 l' a b ((q.symbols.toNat:Nat):Int)):=h2
   rw [ek] at h2
   exact h2
  ·obtain ⟨s1,s2,s3⟩:=H.sym hs
   have hcb:=W.cells b hb
   have hca:=W.cells a ha
   have r1:R64 ((s:Int)+1):=zAG.2 ⟨by omega,by omega⟩
   have skip:(∀ j,¬ (a≠b∧zAI c pos b=IntKind.i64.wrap (1*2 ^ s)∧(c.cells.getD a 0).toNat=j))→RL pos (fun j t=>D j t∨(t<s+1∧a≠b∧zAI c pos b=IntKind.i64.wrap (1*2 ^ t)∧(c.cells.getD a 0).toNat=j)) l:=fun hno=>hI.congr fun j t=>by
    constructor
    ·rintro (h | ⟨h,h2⟩)
     ·exact .inl h
     ·rcases Nat.lt_succ_iff_lt_or_eq.1 h with h | rfl
      ·exact .inr ⟨h,h2⟩
      ·exact absurd h2 (hno j)
    ·rintro (h | ⟨h,h2⟩)
     ·exact .inl h
     ·exact .inr ⟨by omega,h2⟩
   have es:zAI c pos b=pos.getD (c.cells.getD b 0).toNat 0:=rfl
   by_cases hab:a=b
   ·refine ⟨l,skip fun j h=>h.1 hab,zA3.one fun n=>?_⟩
    show zDP n (zBW q c pos n) q c pos l (a:Int) (b:Int) (s:Int)=_
    unfold zDP
    have e:((a:Int) != (b:Int))=false:=by rw [hab];simp
    rw [decide_eq_true s1,cond_true,e,cond_false,if_pos r1];rfl
   ·have e:((a:Int) != (b:Int))=true:=by simp;omega
    by_cases hx:zAI c pos b=IntKind.i64.wrap (1*2 ^ s)
    ·obtain ⟨l',h1,h2⟩:=hI.lose H.h256 (ss:=IntKind.i64.wrap (1*2 ^ s)) hca.1 hca.2
     refine ⟨l',h2.congr fun j t=>?_,zA3.one fun n=>?_⟩
     ·rw [zGl (by omega),decide_eq_true_iff]
      constructor
      ·rintro (h | ⟨h,h3⟩)
       ·exact .inl (.inl h)
       ·rcases Nat.lt_succ_iff_lt_or_eq.1 h with h | rfl
        ·exact .inl (.inr ⟨h,h3⟩)
        ·exact .inr ⟨by have:=h3.2.2;omega,rfl⟩
      ·rintro ((h | ⟨h,h3⟩) | ⟨h,rfl⟩)
       ·exact .inl h
       ·exact .inr ⟨by omega,h3⟩
       ·exact .inr ⟨by omega,hab,hx,by omega⟩
     ·show zDP n (zBW q c pos n) q c pos l (a:Int) (b:Int) (s:Int)=_
      unfold zDP
      simp only [Int.toNat_natCast]
      rw [decide_eq_true s1,cond_true,e,cond_true,if_pos ⟨⟨by omega,by omega⟩,hcb,s3⟩,←es,hx,beq_self_eq_true,cond_true,if_pos ⟨by omega,by omega⟩,h1,Option.bind_some,if_pos r1];rfl
    ·refine ⟨l,skip fun j h=>hx h.2.1,zA3.one fun n=>?_⟩
     have e2:(zAI c pos b==IntKind.i64.wrap (1*2 ^ s))=false:=beq_eq_false_iff_ne.2 hx
     show zDP n (zBW q c pos n) q c pos l (a:Int) (b:Int) (s:Int)=_
     unfold zDP
     simp only [Int.toNat_natCast]
     rw [decide_eq_true s1,cond_true,e,cond_true,if_pos ⟨⟨by omega,by omega⟩,hcb,s3⟩,←es,e2,cond_false,if_pos r1];rfl
 have S2: ∀ (D:Nat→Nat→Prop) (a:Nat) (l:List Int),a<c.cells.length→RL pos D l→∃ l',RL pos (fun j t=>D j t∨∃ b,b<c.cells.length∧t<q.symbols.toNat∧a≠b∧zAI c pos b=IntKind.i64.wrap (1*2 ^ t)∧(c.cells.getD a 0).toNat=j) l'∧zA3 (zBW q c pos) (.l2 l a 0) (.l1 l' ((a:Int)+1)):=by
  intro D a l ha hR
  obtain ⟨l',h1,h2⟩:=zD7 (m:=zBW q c pos) (fun b (l:List Int)=>.l2 l (a:Int) (b:Int)) (fun b l=>RL pos (fun j t=>D j t∨∃ b',b'<b∧t<q.symbols.toNat∧a≠b'∧zAI c pos b'=IntKind.i64.wrap (1*2 ^ t)∧(c.cells.getD a 0).toNat=j) l) c.cells.length (fun b l hb hI=>by
   obtain ⟨l',h1,h2⟩:=S3 _ a b l ha hb hI
   refine ⟨l',h1.congr fun j t=>?_,(zA3.one fun n=>?_).trans (h2.trans (zA3.one fun n=>?_))⟩
   ·constructor
    ·rintro (h | ⟨b',h3,h4⟩)
     ·exact .inl (.inl h)
     ·rcases Nat.lt_succ_iff_lt_or_eq.1 h3 with h3 | rfl
      ·exact .inl (.inr ⟨b',h3,h4⟩)
      ·exact .inr h4
    ·rintro ((h | ⟨b',h3,h4⟩) | h)
     ·exact .inl h
     ·exact .inr ⟨b',by omega,h4⟩
     ·exact .inr ⟨b,by omega,h⟩
   ·show zHq n (zBW q c pos n) q c pos l (a:Int) (b:Int)=_
    unfold zHq
    rw [decide_eq_true (by omega),cond_true]
   ·show zDP n (zBW q c pos n) q c pos l' (a:Int) (b:Int) q.symbols=_
    unfold zDP
    rw [decide_eq_false (by omega),cond_false,if_pos (zAG.2 ⟨by omega,by omega⟩)];rfl) c.cells.length 0 l (by omega) (hR.congr fun j t=>⟨fun h=>h.elim id fun ⟨b',h,_⟩=>absurd h (Nat.not_lt_zero b'),.inl⟩)
  refine ⟨l',h1,h2.trans (zA3.one fun n=>?_)⟩
  show zHq n (zBW q c pos n) q c pos l' (a:Int) (c.cells.length:Int)=_
  unfold zHq
  rw [decide_eq_false (by omega),cond_false,if_pos (zAG.2 ⟨by omega,by omega⟩)]
 obtain ⟨l',h1,h2⟩:=zD7 (m:=zBW q c pos) (fun a (l:List Int)=>.l1 l (a:Int)) (fun a l=>RL pos (fun j t=>∃ a',a'<a∧∃ b,b<c.cells.length∧t<q.symbols.toNat∧a'≠b∧zAI c pos b=IntKind.i64.wrap (1*2 ^ t)∧(c.cells.getD a' 0).toNat=j) l) c.cells.length (fun a l ha hI=>by
  obtain ⟨l',h1,h2⟩:=S2 _ a l ha hI
  refine ⟨l',h1.congr fun j t=>?_,(zA3.one fun n=>?_).trans h2⟩
  ·constructor
   ·rintro ⟨a',h3,h4⟩
    rcases Nat.lt_succ_iff_lt_or_eq.1 h3 with h3 | rfl
    ·exact .inl ⟨a',h3,h4⟩
    ·exact .inr h4
   ·rintro (⟨a',h3,h4⟩ | h)
    ·exact ⟨a',by omega,h4⟩
    ·exact ⟨a,by omega,h⟩
  ·show zHr n (zBW q c pos n) q c pos l (a:Int)=_
   unfold zHr
   rw [decide_eq_true (by omega),cond_true]) c.cells.length 0 (List.replicate pos.length 0) (by omega) ((RL.zero pos).congr fun j t=>⟨fun ⟨a',h,_⟩=>absurd h (Nat.not_lt_zero a'),fun h=>h.elim⟩)
 have h3:Ev (fun n=>zBW q c pos n (.l1 (List.replicate pos.length 0) 0)) l':=h2.ev (Ev.one fun n=>by
  show zHr n (zBW q c pos n) q c pos l' (c.cells.length:Int)=_
  unfold zHr
  rw [decide_eq_false (by omega),cond_false])
 have h256:=H.h256
 refine (h3.p (h1.congr fun j t=>?_)).eq fun n=>?_
 ·exact ⟨fun ⟨a,b,x1,x2,x3,x4,x5,x6⟩=>⟨a,x1,b,x2,x4,x3,x5,x6⟩,fun ⟨a,x1,b,x2,x4,x3,x5,x6⟩=>⟨a,b,x1,x2,x3,x4,x5,x6⟩⟩
 ·unfold zZ4 zSr
  rw [if_pos ⟨zL8.symm,rfl,by omega,by omega⟩]
theorem zPg (H:RW q c pos) {a s:Nat} (ha:a<c.cells.length) (hs:tb (zAI c pos a) s=true) (hnd:c.cells.Nodup):zSs c pos q.symbols.toNat (c.cells.getD a 0).toNat s↔zVT c pos a s:=by
 have W:=H.W
 have k16:=W.k
 have one: ∀ b,b<c.cells.length→(zAI c pos b=IntKind.i64.wrap (1*2 ^ s)↔Sg c pos b s):=fun b hb=>by
  have hx:=W.at hb
  have hsk:=H.low (W.at ha) hs
  constructor
  ·intro e
   have e2:=(zMp (s:=s) (by omega) (hx.in64 (by omega))).1 e
   refine ⟨?_,by rw [e2];simp⟩
   unfold zJM
   rw [beq_iff_eq]
   have ep:zAI c pos b=((2 ^ s:Nat):Int):=by
    refine zHP (hx.in64 (by omega)) ?_ fun t ht=>?_
    ·have:=hx.2
     have h62:=zCt (k:=s) (by omega)
     have e3:((2 ^ s:Nat):Int)=(2:Int) ^ s:=by simp
     rw [e3]
     have:(0:Int)<2 ^ s:=Int.pow_pos (by decide)
     exact ⟨by omega,by omega⟩
    ·rw [e2,zVt ht]
   rw [ep]
   refine (zCA (zAl _ _ _)).2 fun t ht=>?_
   have hpos:0<2 ^ s:=Nat.two_pow_pos s
   have e4:((2 ^ s:Nat):Int)-1=((2 ^ s-1:Nat):Int):=by omega
   rw [zCJ,zVt ht,e4,zFK _ _ ht,Nat.testBit_two_pow_sub_one]
   by_cases e5:s=t
   ·subst e5;simp
   ·rw [decide_eq_false e5,Bool.false_and]
  ·rintro ⟨h1,h2⟩
   refine (zMp (s:=s) (by omega) (hx.in64 (by omega))).2 fun t=>?_
   by_cases e:s=t
   ·subst e;rw [h2];simp
   ·rw [decide_eq_false e]
    cases ht:tb (zAI c pos b) t with
    | false=>rfl
    | true=>exact absurd (zRA hx k16 h1 h2 ht) e
 constructor
 ·rintro ⟨a',b,h1,h2,h3,_,h4,h5⟩
  have e:a'=a:=by
   have c1:=W.cells a' h1
   have c2:=W.cells a ha
   have e2:c.cells.getD a' 0=c.cells.getD a 0:=by omega
   rw [List.getD_eq_getElem?_getD,List.getElem?_eq_getElem h1,List.getD_eq_getElem?_getD,List.getElem?_eq_getElem ha] at e2
   have e2:c.cells[a']=c.cells[a]:=e2
   have hp:=List.pairwise_iff_getElem.1 hnd
   rcases Nat.lt_trichotomy a' a with h | h | h
   ·exact absurd e2 (hp a' a h1 ha h)
   ·exact h
   ·exact absurd e2.symm (hp a a' ha h1 h)
  subst e
  exact ⟨b,h2,fun h=>h3 h.symm,(one b h2).1 h4⟩
 ·rintro ⟨b,h1,h2,h3⟩
  exact ⟨a,b,ha,h1,fun h=>h2 h.symm,H.low (W.at ha) hs,(one b h1).2 h3,rfl⟩
theorem zGx {x S:Int} (hx:Sm k x) (hk:k≤62):x-bits .and .i64 x S=bits .andNot .i64 x S:=by
 have h62:=zCt hk
 have ha:Sm k (bits .and .i64 x S):=zV0 hk (zAl _ _ _) fun i h1 _=>by rw [zCJ,hx.hi h1];rfl
 have hb:Sm k (bits .andNot .i64 x S):=zV0 hk (zAl _ _ _) fun i h1 _=>by rw [zAp,hx.hi h1];rfl
 have h0:BitVec.ofInt 64 (bits .and .i64 x S)&&& BitVec.ofInt 64 (bits .andNot .i64 x S)=0#64:=by
  apply BitVec.eq_of_getLsbD_eq
  intro i hi
  rw [BitVec.getLsbD_and]
  show (tb (bits .and .i64 x S) i&&tb (bits .andNot .i64 x S) i)=_
  rw [zCJ,zAp]
  simp only [BitVec.getLsbD_zero]
  cases tb x i <;> cases tb S i <;> rfl
 have h1:=BitVec.add_eq_or_of_and_eq_zero _ _ h0
 have h2:BitVec.ofInt 64 (bits .and .i64 x S)||| BitVec.ofInt 64 (bits .andNot .i64 x S)=BitVec.ofInt 64 x:=by
  apply BitVec.eq_of_getLsbD_eq
  intro i hi
  rw [BitVec.getLsbD_or]
  show (tb (bits .and .i64 x S) i||tb (bits .andNot .i64 x S) i)=tb x i
  rw [zCJ,zAp]
  cases tb x i <;> cases tb S i <;> rfl
 rw [h2] at h1
 have h3:=congrArg BitVec.toNat h1
 rw [BitVec.toNat_add,BitVec.toNat_ofInt,BitVec.toNat_ofInt,BitVec.toNat_ofInt] at h3
 obtain ⟨a0,a1⟩:=ha
 obtain ⟨b0,b1⟩:=hb
 obtain ⟨x0,x1⟩:=hx
 omega
theorem zTA (H:RW q c pos) {a:Nat} (ha:a<c.cells.length):(bits .and .i64 (zAI c pos a) c.set==zAI c pos a)=zFQ c pos a:=by
 have hx:=H.W.at ha
 have k16:=H.W.k
 unfold zFQ
 rw [Bool.eq_iff_iff,beq_iff_eq,beq_iff_eq]
 constructor
 ·intro h
  refine (zCA (zAl _ _ _)).2 fun s _=>?_
  have:=congrArg (fun y=>tb y s) h
  simp only [zCJ] at this
  rw [zAp]
  revert this
  cases tb (zAI c pos a) s <;> cases tb c.set s <;> simp
 ·intro h
  refine zHP (zAl _ _ _) (hx.in64 (by omega)) fun s _=>?_
  rw [zCJ]
  cases hs:tb (zAI c pos a) s with
  | false=>rfl
  | true=>rw [zX6 h hs];rfl
theorem RW.nzAt (H:RW q c pos) {a:Nat} (ha:a<c.cells.length): ∃ s,tb (zAI c pos a) s=true:=by
 have hc:=H.W.cells a ha
 have k16:=H.W.k
 obtain ⟨s,_,h⟩:=(zB9 ((H.W.at ha).in64 (by omega))).1 (H.nz (c.cells.getD a 0).toNat (by omega))
 exact ⟨s,h⟩
theorem zXg (H:RW q c pos) {a:Nat} (ha:a<c.cells.length):(bits .and .i64 (zAI c pos a) c.set != 0)=may c pos a:=by
 unfold may
 cases hm:zFQ c pos a
 ·rw [Bool.false_or]
 ·rw [Bool.true_or,bne_iff_ne]
  obtain ⟨s,hs⟩:=H.nzAt ha
  unfold zFQ at hm
  rw [beq_iff_eq] at hm
  exact zdJ hs (zX6 hm hs)
def zFo (c:zAC) (pos:List Int) (i j s:Nat):Prop:=∃ a,a<i∧(c.cells.getD a 0).toNat=j∧
 ((cnt (zFQ c pos) c.cells.length=c.hi∧zFQ c pos a=false∧tb (zAI c pos a) s=true∧tb c.set s=true)∨(cnt (may c pos) c.cells.length=c.lo∧may c pos a=true∧tb (zAI c pos a) s=true∧tb c.set s=false))
def KR (q:zAB) (c:zAC) (pos:List Int) (D:Nat→Nat→Prop) (ok:Prop) (x:List Int×Bool):Prop:=(x.2=true↔ok)∧(x.2=true→RL pos D x.1)
theorem zXC (H:RW q c pos):PEv (fun n=>zSv n c pos) (KR q c pos (zFo c pos c.cells.length) (zGC c pos=true)):=by
 have W:=H.W
 have hlen:=W.len
 have h256:=H.h256
 have k16:=W.k
 obtain ⟨⟨x7,x8⟩,⟨h7,h8⟩,g1⟩:=zD7 (m:=zAV c pos) (fun i (s:Int×Int)=>.l1 s.1 s.2 (i:Int)) (fun i s=>s.1=cnt (zFQ c pos) i∧s.2=cnt (may c pos) i) c.cells.length (fun i s hi hI=>by
  obtain ⟨m1,m2⟩:=s
  obtain ⟨h1,h2⟩:=hI
  have h1:m1=cnt (zFQ c pos) i:=h1
  have h2:m2=cnt (may c pos) i:=h2
  have hc:=W.cells i hi
  have b1:=zTW (p:=zFQ c pos) (i:=i)
  have b2:=zTW (p:=may c pos) (i:=i)
  have r1:R64 (m1+1):=zAG.2 ⟨by omega,by omega⟩
  have r2:R64 (m2+1):=zAG.2 ⟨by omega,by omega⟩
  have r3:R64 ((i:Int)+1):=zAG.2 ⟨by omega,by omega⟩
  have em:=zTA H hi
  have ey:=zXg H hi
  refine ⟨(cnt (zFQ c pos) (i+1),cnt (may c pos) (i+1)),⟨rfl,rfl⟩,(zA3.one (b:=.l2 (cnt (zFQ c pos) (i+1)) m2 (i:Int) (zAI c pos i)) fun n=>?_).trans ((zA3.one (b:=.l4 (cnt (zFQ c pos) (i+1)) (cnt (may c pos) (i+1)) (i:Int)) fun n=>?_).trans (zA3.one fun n=>?_))⟩
  ·show zCT n (zAV c pos n) c pos m1 m2 (i:Int)=_
   unfold zCT
   simp only [Int.toNat_natCast]
   rw [decide_eq_true (by omega),cond_true,if_pos ⟨⟨by omega,by omega⟩,hc⟩]
   have e:(bits .and .i64 (pos.getD (c.cells.getD i 0).toNat 0) c.set==pos.getD (c.cells.getD i 0).toNat 0)=zFQ c pos i:=em
   rw [e,zD3]
   cases zFQ c pos i
   ·rw [cond_false,h1];simp only [Bool.false_eq_true,if_false,Int.add_zero];rfl
   ·rw [cond_true,if_pos r1,h1];simp only [if_true];rfl
  ·show zK8 n (zAV c pos n) c pos (cnt (zFQ c pos) (i+1)) m2 (i:Int) (zAI c pos i)=_
   unfold zK8
   rw [ey,zD3 (p:=may c pos)]
   cases may c pos i
   ·rw [cond_false,h2];simp only [Bool.false_eq_true,if_false,Int.add_zero]
   ·rw [cond_true,if_pos r2,h2];simp only [if_true]
  ·show zK7 n (zAV c pos n) c pos (cnt (zFQ c pos) (i+1)) (cnt (may c pos) (i+1)) (i:Int)=_
   unfold zK7
   rw [if_pos r3];rfl) c.cells.length 0 (0,0) (by omega) ⟨rfl,rfl⟩
 have h7:x7=cnt (zFQ c pos) c.cells.length:=h7
 have h8:x8=cnt (may c pos) c.cells.length:=h8
 suffices X:PEv (fun n=>zAV c pos n (.l1 x7 x8 (c.cells.length:Int))) (KR q c pos (zFo c pos c.cells.length) (zGC c pos=true)) by
  refine (g1.pev X).eq fun n=>?_
  unfold zSv zPh
  rw [if_pos ⟨zL8.symm,rfl,by omega,by omega⟩];rfl
 have ok:zGC c pos=(!decide (x7>c.hi)&&!decide (x8<c.lo)):=by rw [h7,h8];rfl
 by_cases c1:x7>c.hi
 ·refine Ev.p (r:=(List.replicate pos.length 0,false)) (Ev.one fun n=>?_) ⟨⟨fun h=>(by cases h),fun h=>?_⟩,fun h=>(by cases h)⟩
  ·show zCT n (zAV c pos n) c pos x7 x8 (c.cells.length:Int)=_
   unfold zCT
   rw [decide_eq_false (by omega),cond_false,decide_eq_true c1,cond_true]
  ·rw [ok,decide_eq_true c1] at h;cases h
 by_cases c2:x8<c.lo
 ·refine Ev.p (r:=(List.replicate pos.length 0,false)) (Ev.one fun n=>?_) ⟨⟨fun h=>(by cases h),fun h=>?_⟩,fun h=>(by cases h)⟩
  ·show zCT n (zAV c pos n) c pos x7 x8 (c.cells.length:Int)=_
   unfold zCT
   rw [decide_eq_false (by omega),cond_false,decide_eq_false c1,cond_false,decide_eq_true c2,cond_true]
  ·rw [ok,decide_eq_true c2,Bool.not_true,Bool.and_false] at h;cases h
 obtain ⟨l,hl,g2⟩:=zD7 (m:=zAV c pos) (fun i (l:List Int)=>.l3 l x7 x8 (i:Int)) (fun i l=>RL pos (zFo c pos i) l) c.cells.length (fun i l hi hI=>by
  have hc:=W.cells i hi
  have r3:R64 ((i:Int)+1):=zAG.2 ⟨by omega,by omega⟩
  have em:=zTA H hi
  have ey:=zXg H hi
  have hx:=W.at hi
  have A: ∃ l1,RL pos (fun j s=>zFo c pos i j s∨((c.cells.getD i 0).toNat=j∧cnt (zFQ c pos) c.cells.length=c.hi∧zFQ c pos i=false∧tb (zAI c pos i) s=true∧tb c.set s=true)) l1∧zA3 (zAV c pos) (.l3 l x7 x8 (i:Int)) (.l5 l1 x7 x8 (i:Int) (zAI c pos i)):=by
   have e:(bits .and .i64 (pos.getD (c.cells.getD i 0).toNat 0) c.set != pos.getD (c.cells.getD i 0).toNat 0)= !zFQ c pos i:=by rw [←em];rfl
   have U: ∀ n,zAV c pos (n+1) (.l3 l x7 x8 (i:Int))=bif (x7==c.hi) then (bif !zFQ c pos i then (zEM n l (c.cells.getD i 0) (bits .and .i64 (zAI c pos i) c.set)).bind fun y1=>zAV c pos n (.l5 y1 x7 x8 (i:Int) (zAI c pos i)) else zAV c pos n (.l5 l x7 x8 (i:Int) (zAI c pos i))) else zAV c pos n (.l5 l x7 x8 (i:Int) (zAI c pos i)):=fun n=>by
    show zFn n (zAV c pos n) c pos l x7 x8 (i:Int)=_
    unfold zFn
    simp only [Int.toNat_natCast]
    rw [decide_eq_true (by omega),cond_true,if_pos ⟨⟨by omega,by omega⟩,hc⟩,e];rfl
   by_cases e1:x7=c.hi
   ·have b1:(x7==c.hi)=true:=beq_iff_eq.2 e1
    cases hm:zFQ c pos i
    ·obtain ⟨l1,f1,hL⟩:=hI.lose h256 (ss:=bits .and .i64 (zAI c pos i) c.set) hc.1 hc.2
     refine ⟨l1,hL.congr fun j s=>?_,zA3.one fun n=>by rw [U,b1,hm,cond_true,Bool.not_false,cond_true,f1,Option.bind_some]⟩
     rw [zCJ,Bool.and_eq_true]
     exact ⟨fun h=>h.elim .inl fun ⟨a,_,_,b,d⟩=>.inr ⟨by omega,b,d⟩,fun h=>h.elim .inl fun ⟨a,b,d⟩=>.inr ⟨by omega,by omega,rfl,b,d⟩⟩
    ·refine ⟨l,hI.congr fun j s=>⟨fun h=>h.elim id fun h=>(by cases h.2.2.1),.inl⟩,zA3.one fun n=>by rw [U,b1,hm,cond_true,Bool.not_true,cond_false]⟩
   ·have b1:(x7==c.hi)=false:=beq_eq_false_iff_ne.2 e1
    exact ⟨l,hI.congr fun j s=>⟨fun h=>h.elim id fun h=>absurd (by omega) e1,.inl⟩,zA3.one fun n=>by rw [U,b1,cond_false]⟩
  obtain ⟨l1,hL1,ga⟩:=A
  have B: ∃ l2,RL pos (zFo c pos (i+1)) l2∧zA3 (zAV c pos) (.l5 l1 x7 x8 (i:Int) (zAI c pos i)) (.l6 l2 x7 x8 (i:Int)):=by
   have rr:R64 (zAI c pos i-bits .and .i64 (zAI c pos i) c.set):=by
    rw [zGx hx (by omega)]
    have:=zAl .andNot (zAI c pos i) c.set
    exact zAG.2 this
   have U: ∀ n,zAV c pos (n+1) (.l5 l1 x7 x8 (i:Int) (zAI c pos i))=bif (x8==c.lo) then (bif may c pos i then (zEM n l1 (c.cells.getD i 0) (bits .andNot .i64 (zAI c pos i) c.set)).bind fun y1=>zAV c pos n (.l6 y1 x7 x8 (i:Int)) else zAV c pos n (.l6 l1 x7 x8 (i:Int))) else zAV c pos n (.l6 l1 x7 x8 (i:Int)):=fun n=>by
    show zK6 n (zAV c pos n) c pos l1 x7 x8 (i:Int) (zAI c pos i)=_
    unfold zK6
    simp only [Int.toNat_natCast]
    rw [ey,if_pos ⟨⟨by omega,by omega⟩,rr⟩,zGx hx (by omega)]
   have key: ∀ l2,(RL pos (fun j s=>(zFo c pos i j s∨((c.cells.getD i 0).toNat=j∧cnt (zFQ c pos) c.cells.length=c.hi∧zFQ c pos i=false∧tb (zAI c pos i) s=true∧tb c.set s=true))∨((c.cells.getD i 0).toNat=j∧cnt (may c pos) c.cells.length=c.lo∧may c pos i=true∧tb (zAI c pos i) s=true∧tb c.set s=false)) l2)→RL pos (zFo c pos (i+1)) l2:=fun l2 h=>h.congr fun j s=>by
    constructor
    ·rintro ⟨a,h1,h2,h3⟩
     rcases Nat.lt_succ_iff_lt_or_eq.1 h1 with h1 | rfl
     ·exact .inl (.inl ⟨a,h1,h2,h3⟩)
     ·exact h3.elim (fun h3=>.inl (.inr ⟨h2,h3⟩)) fun h3=>.inr ⟨h2,h3⟩
    ·rintro ((⟨a,h1,h2,h3⟩ | ⟨h2,h3⟩) | ⟨h2,h3⟩)
     ·exact ⟨a,by omega,h2,h3⟩
     ·exact ⟨i,by omega,h2,.inl h3⟩
     ·exact ⟨i,by omega,h2,.inr h3⟩
   by_cases e1:x8=c.lo
   ·have b1:(x8==c.lo)=true:=beq_iff_eq.2 e1
    cases hm:may c pos i
    ·exact ⟨l1,key l1 (hL1.congr fun j s=>⟨fun h=>h.elim id fun h=>(by have h3:=h.2.2.1;rw [hm] at h3;cases h3),.inl⟩),zA3.one fun n=>by rw [U,b1,hm,cond_true,cond_false]⟩
    ·obtain ⟨l2,f2,hL⟩:=hL1.lose h256 (ss:=bits .andNot .i64 (zAI c pos i) c.set) hc.1 hc.2
     refine ⟨l2,key l2 (hL.congr fun j s=>?_),zA3.one fun n=>by rw [U,b1,hm,cond_true,cond_true,f2,Option.bind_some]⟩
     rw [zAp,Bool.and_eq_true,Bool.not_eq_true']
     exact ⟨fun h=>h.elim .inl fun ⟨a,_,_,b,d⟩=>.inr ⟨by omega,b,d⟩,fun h=>h.elim .inl fun ⟨a,b,d⟩=>.inr ⟨by omega,by omega,hm,b,d⟩⟩
   ·have b1:(x8==c.lo)=false:=beq_eq_false_iff_ne.2 e1
    exact ⟨l1,key l1 (hL1.congr fun j s=>⟨fun h=>h.elim id fun h=>absurd (by omega) e1,.inl⟩),zA3.one fun n=>by rw [U,b1,cond_false]⟩
  obtain ⟨l2,hL2,gb⟩:=B
  refine ⟨l2,hL2,ga.trans (gb.trans (zA3.one fun n=>?_))⟩
  show zK5 n (zAV c pos n) c pos l2 x7 x8 (i:Int)=_
  unfold zK5
  rw [if_pos r3];rfl) c.cells.length 0 (List.replicate pos.length 0) (by omega) ((RL.zero pos).congr fun j s=>⟨fun ⟨a,h,_⟩=>absurd h (Nat.not_lt_zero a),fun h=>h.elim⟩)
 have g0:zA3 (zAV c pos) (.l1 x7 x8 (c.cells.length:Int)) (.l3 (List.replicate pos.length 0) x7 x8 0):=zA3.one fun n=>by
  show zCT n (zAV c pos n) c pos x7 x8 (c.cells.length:Int)=_
  unfold zCT
  rw [decide_eq_false (by omega),cond_false,decide_eq_false c1,cond_false,decide_eq_false c2,cond_false]
 refine ((g0.trans g2).ev (Ev.one (r:=(l,true)) fun n=>?_)).p ⟨⟨fun _=>?_,fun _=>rfl⟩,fun _=>hl⟩
 ·show zFn n (zAV c pos n) c pos l x7 x8 (c.cells.length:Int)=_
  unfold zFn
  rw [decide_eq_false (by omega),cond_false]
 ·rw [ok,decide_eq_false c1,decide_eq_false c2];rfl
theorem zXn: ∀ (l:List Int) (a:Int),l.foldl (loF q) a=a∨∃ e∈l,q.values.getD e.toNat 0=l.foldl (loF q) a
 | [],a=>.inl rfl
 | e::l,a=>by
  rw [List.foldl_cons]
  rcases zXn l (loF q a e) with h | ⟨x,h1,h2⟩
  ·rw [h]
   unfold loF
   split
   ·exact .inr ⟨e,List.mem_cons_self,rfl⟩
   ·exact .inl rfl
  ·exact .inr ⟨x,List.mem_cons_of_mem _ h1,h2⟩
theorem zYH: ∀ (l:List Int) (a:Int),l.foldl (hiF q) a=a∨∃ e∈l,q.values.getD e.toNat 0=l.foldl (hiF q) a
 | [],a=>.inl rfl
 | e::l,a=>by
  rw [List.foldl_cons]
  rcases zYH l (hiF q a e) with h | ⟨x,h1,h2⟩
  ·rw [h]
   unfold hiF
   split
   ·exact .inr ⟨e,List.mem_cons_self,rfl⟩
   ·exact .inl rfl
  ·exact .inr ⟨x,List.mem_cons_of_mem _ h1,h2⟩
theorem zcw (V:zMA q k) (hk:k≤16) {x:Int} (hx:Sm k x) (hne: ∃ s,tb x s=true) {r:Int} (h1: ∃ s,tb x s=true∧q.values.getD s 0=r) (h2: ∀ s,tb x s=true→r≤q.values.getD s 0):r=loV q x:=by
 have mem:=fun e=>zAd hx (Nat.le_trans hk (by decide:(16:Nat)≤62)) (e:=e)
 have low: ∀ {s},tb x s=true→s<k:=fun {s} h=>Nat.lt_of_not_le fun hle=>by rw [hx.hi hle] at h;cases h
 obtain ⟨s,hs,rfl⟩:=h1
 have g:=(zcx (q:=q) (zAj x) 100).1 (Int.le_refl _)
 have g2:=g.2 (s:Int) ((mem _).2 ⟨s,rfl,low hs,hs⟩)
 rw [Int.toNat_natCast] at g2
 have g2:loV q x≤q.values.getD s 0:=g2
 have hv:=V.val s (low hs)
 rcases zXn (q:=q) (zAj x) 100 with h | ⟨e,he,h⟩
 ·have h:loV q x=100:=h
  omega
 ·obtain ⟨t,rfl,_,ht⟩:=(mem e).1 he
  rw [Int.toNat_natCast] at h
  have h:q.values.getD t 0=loV q x:=h
  have:=h2 t ht
  omega
theorem zc4 (V:zMA q k) (hk:k≤16) {x:Int} (hx:Sm k x) {r:Int} (h1: ∃ s,tb x s=true∧q.values.getD s 0=r) (h2: ∀ s,tb x s=true→q.values.getD s 0≤r):r=hiV q x:=by
 have mem:=fun e=>zAd hx (Nat.le_trans hk (by decide:(16:Nat)≤62)) (e:=e)
 have low: ∀ {s},tb x s=true→s<k:=fun {s} h=>Nat.lt_of_not_le fun hle=>by rw [hx.hi hle] at h;cases h
 obtain ⟨s,hs,rfl⟩:=h1
 have g:=(zc3 (q:=q) (zAj x) (-1)).1 (Int.le_refl _)
 have g2:=g.2 (s:Int) ((mem _).2 ⟨s,rfl,low hs,hs⟩)
 rw [Int.toNat_natCast] at g2
 have g2:q.values.getD s 0≤hiV q x:=g2
 have hv:=V.val s (low hs)
 rcases zYH (q:=q) (zAj x) (-1) with h | ⟨e,he,h⟩
 ·have h:hiV q x= -1:=h
  omega
 ·obtain ⟨t,rfl,_,ht⟩:=(mem e).1 he
  rw [Int.toNat_natCast] at h
  have h:q.values.getD t 0=hiV q x:=h
  have:=h2 t ht
  omega
theorem zPZ (H:RW q c pos) {x:Int} (hx:Sm q.symbols.toNat x) (hne: ∃ s,tb x s=true):Ev (fun n=>zMi n q x) (loV q x):=by
 have k16:=H.W.k
 have hsy:=H.sy
 have ek:((q.symbols.toNat:Nat):Int)=q.symbols:=by omega
 have hvl:=H.vlen
 obtain ⟨r,hr,g⟩:=zD7 (m:=zCS q x) (fun s (r:Int)=>.l1 r (s:Int)) (fun s r=>(r= -1∧∀ t,t<s→tb x t=false)∨((∃ t,t<s∧tb x t=true∧q.values.getD t 0=r)∧∀ t,t<s→tb x t=true→r≤q.values.getD t 0)) q.symbols.toNat (fun s r hs hI=>by
  obtain ⟨s1,s2,s3⟩:=H.sym hs
  have r1:R64 ((s:Int)+1):=zAG.2 ⟨by omega,by omega⟩
  have hv:=H.V.val s hs
  have U: ∀ n,zCS q x (n+1) (.l1 r (s:Int))=bif tb x s then (bif decide (r<0) then zCS q x n (.l1 (q.values.getD s 0) ((s:Int)+1)) else bif decide (q.values.getD s 0<r) then zCS q x n (.l1 (q.values.getD s 0) ((s:Int)+1)) else zCS q x n (.l1 r ((s:Int)+1))) else zCS q x n (.l1 r ((s:Int)+1)):=fun n=>by
   show zFl n (zCS q x n) q x r (s:Int)=_
   unfold zFl
   rw [decide_eq_true s1,cond_true,zE1 hx (by omega) (by omega),Option.bind_some,if_pos ⟨⟨by omega,by omega⟩,r1⟩,if_pos ⟨by omega,by omega⟩,if_pos r1,if_pos r1,Int.toNat_natCast]
  cases hb:tb x s
  ·refine ⟨r,?_,zA3.one fun n=>by rw [U,hb,cond_false];rfl⟩
   rcases hI with ⟨h1,h2⟩ | ⟨⟨t,h1,h2,h3⟩,h4⟩
   ·refine .inl ⟨h1,fun t ht=>?_⟩
    rcases Nat.lt_succ_iff_lt_or_eq.1 ht with ht | rfl
    ·exact h2 t ht
    ·exact hb
   ·refine .inr ⟨⟨t,by omega,h2,h3⟩,fun t ht hbt=>?_⟩
    rcases Nat.lt_succ_iff_lt_or_eq.1 ht with ht | rfl
    ·exact h4 t ht hbt
    ·rw [hb] at hbt;cases hbt
  ·by_cases c1:r<0
   ·refine ⟨q.values.getD s 0,?_,zA3.one fun n=>by rw [U,hb,cond_true,decide_eq_true c1,cond_true];rfl⟩
    refine .inr ⟨⟨s,by omega,hb,rfl⟩,fun t ht hbt=>?_⟩
    rcases Nat.lt_succ_iff_lt_or_eq.1 ht with ht | rfl
    ·rcases hI with ⟨h1,h2⟩ | ⟨⟨u,h1,h2,h3⟩,h4⟩
     ·rw [h2 t ht] at hbt;cases hbt
     ·have:=H.V.val u (by omega);omega
    ·exact Int.le_refl _
   ·have hold:(∃ t,t<s∧tb x t=true∧q.values.getD t 0=r)∧∀ t,t<s→tb x t=true→r≤q.values.getD t 0:=hI.elim (fun h=>absurd h.1 (by omega)) id
    by_cases c2:q.values.getD s 0<r
    ·refine ⟨q.values.getD s 0,?_,zA3.one fun n=>by rw [U,hb,cond_true,decide_eq_false c1,cond_false,decide_eq_true c2,cond_true];rfl⟩
     refine .inr ⟨⟨s,by omega,hb,rfl⟩,fun t ht hbt=>?_⟩
     rcases Nat.lt_succ_iff_lt_or_eq.1 ht with ht | rfl
     ·have:=hold.2 t ht hbt;omega
     ·exact Int.le_refl _
    ·refine ⟨r,?_,zA3.one fun n=>by rw [U,hb,cond_true,decide_eq_false c1,cond_false,decide_eq_false c2,cond_false];rfl⟩
     obtain ⟨⟨t,h1,h2,h3⟩,h4⟩:=hold
     refine .inr ⟨⟨t,by omega,h2,h3⟩,fun t ht hbt=>?_⟩
     rcases Nat.lt_succ_iff_lt_or_eq.1 ht with ht | rfl
     ·exact h4 t ht hbt
     ·omega) q.symbols.toNat 0 (-1) (by omega) (.inl ⟨rfl,fun t ht=>absurd ht (Nat.not_lt_zero t)⟩)
 have er:r=loV q x:=by
  rcases hr with ⟨_,h2⟩ | ⟨⟨t,_,h3,h4⟩,h5⟩
  ·obtain ⟨s,hs⟩:=hne
   rw [h2 s (H.low hx hs)] at hs;cases hs
  ·exact zcw H.V k16 hx hne ⟨t,h3,h4⟩ fun s hs=>h5 s (H.low hx hs) hs
 subst er
 refine Ev.eq (g.ev (Ev.one (r:=loV q x) fun n=>?_)) fun n=>rfl
 show zFl n (zCS q x n) q x (loV q x) ((q.symbols.toNat:Nat):Int)=_
 unfold zFl
 rw [ek,decide_eq_false (by omega),cond_false]
theorem zJX (H:RW q c pos) {x:Int} (hx:Sm q.symbols.toNat x) (hne: ∃ s,tb x s=true):Ev (fun n=>zEN n q x) (hiV q x):=by
 have k16:=H.W.k
 have hsy:=H.sy
 have ek:((q.symbols.toNat:Nat):Int)=q.symbols:=by omega
 have hvl:=H.vlen
 obtain ⟨r,hr,g⟩:=zD7 (m:=zBO q x) (fun s (r:Int)=>.l1 r (s:Int)) (fun s r=>-1≤r∧((r= -1∧∀ t,t<s→tb x t=false)∨(∃ t,t<s∧tb x t=true∧q.values.getD t 0=r))∧∀ t,t<s→tb x t=true→q.values.getD t 0≤r) q.symbols.toNat (fun s r hs hI=>by
  obtain ⟨s1,s2,s3⟩:=H.sym hs
  have r1:R64 ((s:Int)+1):=zAG.2 ⟨by omega,by omega⟩
  have hv:=H.V.val s hs
  obtain ⟨h0,hI,h4⟩:=hI
  have U: ∀ n,zBO q x (n+1) (.l1 r (s:Int))=bif tb x s then (bif decide (q.values.getD s 0>r) then zBO q x n (.l1 (q.values.getD s 0) ((s:Int)+1)) else zBO q x n (.l1 r ((s:Int)+1))) else zBO q x n (.l1 r ((s:Int)+1)):=fun n=>by
   show zC6 n (zBO q x n) q x r (s:Int)=_
   unfold zC6
   rw [decide_eq_true s1,cond_true,zE1 hx (by omega) (by omega),Option.bind_some,if_pos ⟨by omega,by omega⟩,if_pos r1,if_pos r1,Int.toNat_natCast]
  cases hb:tb x s
  ·refine ⟨r,⟨h0,?_,fun t ht hbt=>?_⟩,zA3.one fun n=>by rw [U,hb,cond_false];rfl⟩
   ·rcases hI with ⟨h1,h2⟩ | ⟨t,h1,h2,h3⟩
    ·refine .inl ⟨h1,fun t ht=>?_⟩
     rcases Nat.lt_succ_iff_lt_or_eq.1 ht with ht | rfl
     ·exact h2 t ht
     ·exact hb
    ·exact .inr ⟨t,by omega,h2,h3⟩
   ·rcases Nat.lt_succ_iff_lt_or_eq.1 ht with ht | rfl
    ·exact h4 t ht hbt
    ·rw [hb] at hbt;cases hbt
  ·by_cases c2:q.values.getD s 0>r
   ·refine ⟨q.values.getD s 0,⟨by omega,.inr ⟨s,by omega,hb,rfl⟩,fun t ht hbt=>?_⟩,zA3.one fun n=>by rw [U,hb,cond_true,decide_eq_true c2,cond_true];rfl⟩
    rcases Nat.lt_succ_iff_lt_or_eq.1 ht with ht | rfl
    ·have:=h4 t ht hbt;omega
    ·exact Int.le_refl _
   ·refine ⟨r,⟨h0,?_,fun t ht hbt=>?_⟩,zA3.one fun n=>by rw [U,hb,cond_true,decide_eq_false c2,cond_false];rfl⟩
    ·rcases hI with ⟨h1,h2⟩ | ⟨t,h1,h2,h3⟩
     ·omega
     ·exact .inr ⟨t,by omega,h2,h3⟩
    ·rcases Nat.lt_succ_iff_lt_or_eq.1 ht with ht | rfl
     ·exact h4 t ht hbt
     ·omega) q.symbols.toNat 0 (-1) (by omega) ⟨Int.le_refl _,.inl ⟨rfl,fun t ht=>absurd ht (Nat.not_lt_zero t)⟩,fun t ht=>absurd ht (Nat.not_lt_zero t)⟩
 have er:r=hiV q x:=by
  obtain ⟨_,hr,h5⟩:=hr
  rcases hr with ⟨_,h2⟩ | ⟨t,_,h3,h4⟩
  ·obtain ⟨s,hs⟩:=hne
   rw [h2 s (H.low hx hs)] at hs;cases hs
  ·exact zc4 H.V k16 hx ⟨t,h3,h4⟩ fun s hs=>h5 s (H.low hx hs) hs
 subst er
 refine Ev.eq (g.ev (Ev.one (r:=hiV q x) fun n=>?_)) fun n=>rfl
 show zC6 n (zBO q x n) q x (hiV q x) ((q.symbols.toNat:Nat):Int)=_
 unfold zC6
 rw [ek,decide_eq_false (by omega),cond_false]
def zWt (q:zAB) (c:zAC) (pos:List Int) (i j s:Nat):Prop:=∃ a,a<i∧(c.cells.getD a 0).toNat=j∧s<q.symbols.toNat∧tb (zAI c pos a) s=true∧zSS q c pos a s=true
theorem zbO {f:Nat→Int} {lo hi:Int} (hlo:lo≤0) (hhi:0≤hi): ∀ {m:Nat},(∀ a,a<m→lo≤f a∧f a≤hi)→(m:Int)*lo≤tot f m∧tot f m≤(m:Int)*hi
 | 0,_=>by simp [tot]
 | m+1,h=>by
  have ih:=zbO hlo hhi (m:=m) fun a ha=>h a (by omega)
  have hm:=h m (by omega)
  have e:tot f (m+1)=tot f m+f m:=rfl
  rw [e,Int.natCast_add,Int.add_mul,Int.add_mul]
  simp only [Int.natCast_one,Int.one_mul]
  omega
theorem zbt (H:RW q c pos):PEv (fun n=>zdT n q c pos) (KR q c pos (zWt q c pos c.cells.length) (zOr q c pos=true)):=by
 have W:=H.W
 have hlen:=W.len
 have h256:=H.h256
 have k16:=W.k
 have hsy:=H.sy
 have hvl:=H.vlen
 have ek:((q.symbols.toNat:Nat):Int)=q.symbols:=by omega
 have bl: ∀ a,a<c.cells.length→(0≤loV q (zAI c pos a)∧loV q (zAI c pos a)≤100)∧(-1≤hiV q (zAI c pos a)∧hiV q (zAI c pos a)≤99):=fun a ha=>⟨H.V.lo k16 (W.at ha),H.V.hi k16 (W.at ha)⟩
 have tl: ∀ i,i≤c.cells.length→0≤tot (fun a=>loV q (zAI c pos a)) i∧tot (fun a=>loV q (zAI c pos a)) i≤25600:=fun i hi=>by
  have:=zbO (f:=fun a=>loV q (zAI c pos a)) (lo:=0) (hi:=100) (Int.le_refl _) (by decide) (m:=i) fun a ha=>(bl a (by omega)).1
  omega
 have th: ∀ i,i≤c.cells.length→-256≤tot (fun a=>hiV q (zAI c pos a)) i∧tot (fun a=>hiV q (zAI c pos a)) i≤25600:=fun i hi=>by
  have:=zbO (f:=fun a=>hiV q (zAI c pos a)) (lo:=-1) (hi:=100) (by decide) (by decide) (m:=i) fun a ha=>by have:=(bl a (by omega)).2;omega
  omega
 have ts: ∀ (f:Nat→Int) (i:Nat),tot f (i+1)=tot f i+f i:=fun _ _=>rfl
 obtain ⟨⟨x9,x10⟩,⟨h9,h10⟩,g1⟩:=zD7 (m:=zBd q c pos) (fun i (s:Int×Int)=>.l1 s.1 s.2 (i:Int)) (fun i s=>s.1=tot (fun a=>loV q (zAI c pos a)) i∧s.2=tot (fun a=>hiV q (zAI c pos a)) i) c.cells.length (fun i s hi hI=>by
  obtain ⟨m1,m2⟩:=s
  obtain ⟨h1,h2⟩:=hI
  have h1:m1=tot (fun a=>loV q (zAI c pos a)) i:=h1
  have h2:m2=tot (fun a=>hiV q (zAI c pos a)) i:=h2
  have hc:=W.cells i hi
  obtain ⟨N,hN⟩:=zPZ H (W.at hi) (H.nzAt hi)
  obtain ⟨M,hM⟩:=zJX H (W.at hi) (H.nzAt hi)
  have b1:=bl i hi
  have b2:=tl i (by omega)
  have b3:=th i (by omega)
  refine ⟨(tot (fun a=>loV q (zAI c pos a)) (i+1),tot (fun a=>hiV q (zAI c pos a)) (i+1)),⟨rfl,rfl⟩,zA3.oneN (max N M) fun n hn=>?_⟩
  have e1:zMi n q (pos.getD (c.cells.getD i 0).toNat 0)=some (loV q (zAI c pos i)):=hN n (by omega)
  have e2:zEN n q (pos.getD (c.cells.getD i 0).toNat 0)=some (hiV q (zAI c pos i)):=hM n (by omega)
  show zEt n (zBd q c pos n) q c pos m1 m2 (i:Int)=_
  unfold zEt
  simp only [Int.toNat_natCast]
  rw [decide_eq_true (by omega),cond_true,if_pos ⟨⟨by omega,by omega⟩,hc⟩,e1,Option.bind_some,if_pos (zAG.2 ⟨by omega,by omega⟩),e2,Option.bind_some,if_pos ⟨zAG.2 ⟨by omega,by omega⟩,zAG.2 ⟨by omega,by omega⟩⟩,h1,h2]
  rfl) c.cells.length 0 (0,0) (by omega) ⟨rfl,rfl⟩
 have h9:x9=zOA q c pos:=h9
 have h10:x10=zIB q c pos:=h10
 have bx9:0≤x9∧x9≤25600:=by rw [h9];exact tl c.cells.length (Nat.le_refl _)
 have bx10: -256≤x10∧x10≤25600:=by rw [h10];exact th c.cells.length (Nat.le_refl _)
 suffices X:PEv (fun n=>zBd q c pos n (.l1 x9 x10 (c.cells.length:Int))) (KR q c pos (zWt q c pos c.cells.length) (zOr q c pos=true)) by
  refine (g1.pev X).eq fun n=>?_
  unfold zdT zWs
  rw [if_pos ⟨zL8.symm,rfl,by omega,by omega⟩];rfl
 have ok:zOr q c pos=(!decide (x9>c.hi)&&!decide (x10<c.lo)):=by rw [h9,h10];rfl
 by_cases c1:x9>c.hi
 ·refine Ev.p (r:=(List.replicate pos.length 0,false)) (Ev.one fun n=>?_) ⟨⟨fun h=>(by cases h),fun h=>?_⟩,fun h=>(by cases h)⟩
  ·show zEt n (zBd q c pos n) q c pos x9 x10 (c.cells.length:Int)=_
   unfold zEt
   rw [decide_eq_false (by omega),cond_false,decide_eq_true c1,cond_true]
  ·rw [ok,decide_eq_true c1] at h;cases h
 by_cases c2:x10<c.lo
 ·refine Ev.p (r:=(List.replicate pos.length 0,false)) (Ev.one fun n=>?_) ⟨⟨fun h=>(by cases h),fun h=>?_⟩,fun h=>(by cases h)⟩
  ·show zEt n (zBd q c pos n) q c pos x9 x10 (c.cells.length:Int)=_
   unfold zEt
   rw [decide_eq_false (by omega),cond_false,decide_eq_false c1,cond_false,decide_eq_true c2,cond_true]
  ·rw [ok,decide_eq_true c2,Bool.not_true,Bool.and_false] at h;cases h
 obtain ⟨l,hl,g2⟩:=zD7 (m:=zBd q c pos) (fun i (l:List Int)=>.l2 l x9 x10 (i:Int)) (fun i l=>RL pos (zWt q c pos i) l) c.cells.length (fun i l hi hI=>by
  have hc:=W.cells i hi
  have hx:=W.at hi
  have b1:=bl i hi
  obtain ⟨N,hN⟩:=zPZ H hx (H.nzAt hi)
  obtain ⟨M,hM⟩:=zJX H hx (H.nzAt hi)
  obtain ⟨l',hl',g3⟩:=zD7 (m:=zBd q c pos) (fun s (l:List Int)=>.l3 l x9 x10 (i:Int) (zAI c pos i) (s:Int)) (fun s l=>RL pos (fun j t=>zWt q c pos i j t∨((c.cells.getD i 0).toNat=j∧t<s∧tb (zAI c pos i) t=true∧zSS q c pos i t=true)) l) q.symbols.toNat (fun s l hs hI=>by
   obtain ⟨s1,s2,s3⟩:=H.sym hs
   have hv:=H.V.val s hs
   have r1:R64 ((s:Int)+1):=zAG.2 ⟨by omega,by omega⟩
   have ra:R64 (x9-loV q (zAI c pos i))∧R64 ((x9-loV q (zAI c pos i))+q.values.getD s 0):=⟨zAG.2 ⟨by omega,by omega⟩,zAG.2 ⟨by omega,by omega⟩⟩
   have rb:R64 (x10-hiV q (zAI c pos i))∧R64 ((x10-hiV q (zAI c pos i))+q.values.getD s 0):=⟨zAG.2 ⟨by omega,by omega⟩,zAG.2 ⟨by omega,by omega⟩⟩
   have X:zSS q c pos i s=(decide (x9-loV q (zAI c pos i)+q.values.getD s 0>c.hi)||decide (x10-hiV q (zAI c pos i)+q.values.getD s 0<c.lo)):=by rw [h9,h10];rfl
   have U: ∀ n,max N M≤n→zBd q c pos (n+1) (.l3 l x9 x10 (i:Int) (zAI c pos i) (s:Int))=bif tb (zAI c pos i) s&&zSS q c pos i s then (zEM n l (c.cells.getD i 0) (IntKind.i64.wrap (1*2 ^ s))).bind fun y=>zBd q c pos n (.l4 y x9 x10 (i:Int) (zAI c pos i) (s:Int)) else zBd q c pos n (.l4 l x9 x10 (i:Int) (zAI c pos i) (s:Int)):=fun n hn=>by
    have e1:zMi n q (zAI c pos i)=some (loV q (zAI c pos i)):=hN n (by omega)
    have e2:zEN n q (zAI c pos i)=some (hiV q (zAI c pos i)):=hM n (by omega)
    show zKw n (zBd q c pos n) q c pos l x9 x10 (i:Int) (zAI c pos i) (s:Int)=_
    unfold zKw
    simp only [Int.toNat_natCast]
    rw [decide_eq_true s1,cond_true,zE1 hx (by omega) (by omega),Option.bind_some]
    cases hb:tb (zAI c pos i) s
    ·rw [cond_false,Bool.false_and,cond_false]
    ·rw [cond_true,Bool.true_and,if_pos ⟨by omega,by omega⟩,e1,Option.bind_some,if_pos ra,X]
     cases d1:decide (x9-loV q (zAI c pos i)+q.values.getD s 0>c.hi)
     ·rw [cond_false,e2,Option.bind_some,if_pos rb,Bool.false_or]
      cases d2:decide (x10-hiV q (zAI c pos i)+q.values.getD s 0<c.lo)
      ·rw [cond_false,cond_false]
      ·rw [cond_true,cond_true,if_pos ⟨⟨by omega,by omega⟩,s3⟩]
     ·rw [cond_true,Bool.true_or,cond_true,if_pos ⟨⟨by omega,by omega⟩,s3⟩]
   have G4: ∀ l',zA3 (zBd q c pos) (.l4 l' x9 x10 (i:Int) (zAI c pos i) (s:Int)) (.l3 l' x9 x10 (i:Int) (zAI c pos i) ((s+1:Nat):Int)):=fun l'=>zA3.one fun n=>by
    show zRN n (zBd q c pos n) q c pos l' x9 x10 (i:Int) (zAI c pos i) (s:Int)=_
    unfold zRN
    rw [if_pos r1];rfl
   cases hB:(tb (zAI c pos i) s&&zSS q c pos i s)
   ·refine ⟨l,hI.congr fun j t=>?_,(zA3.oneN (max N M) fun n hn=>by rw [U n hn,hB,cond_false]).trans (G4 l)⟩
    constructor
    ·rintro (h | ⟨h1,h2,h3,h4⟩)
     ·exact .inl h
     ·rcases Nat.lt_succ_iff_lt_or_eq.1 h2 with h2 | rfl
      ·exact .inr ⟨h1,h2,h3,h4⟩
      ·rw [h3,h4] at hB;cases hB
    ·rintro (h | ⟨h1,h2,h3⟩)
     ·exact .inl h
     ·exact .inr ⟨h1,by omega,h3⟩
   ·obtain ⟨l1,f1,hL1⟩:=hI.lose h256 (ss:=IntKind.i64.wrap (1*2 ^ s)) hc.1 hc.2
    rw [Bool.and_eq_true] at hB
    refine ⟨l1,hL1.congr fun j t=>?_,(zA3.oneN (max N M) fun n hn=>by rw [U n hn,hB.1,hB.2,Bool.and_self,cond_true,f1,Option.bind_some]).trans (G4 l1)⟩
    rw [zGl (by omega),decide_eq_true_iff]
    constructor
    ·rintro (h | ⟨h1,h2,h3,h4⟩)
     ·exact .inl (.inl h)
     ·rcases Nat.lt_succ_iff_lt_or_eq.1 h2 with h2 | rfl
      ·exact .inl (.inr ⟨h1,h2,h3,h4⟩)
      ·exact .inr ⟨by omega,rfl⟩
    ·rintro ((h | ⟨h1,h2,h3⟩) | ⟨h1,rfl⟩)
     ·exact .inl h
     ·exact .inr ⟨h1,by omega,h3⟩
     ·exact .inr ⟨by omega,by omega,hB.1,hB.2⟩) q.symbols.toNat 0 l (by omega) (hI.congr fun j t=>⟨fun h=>h.elim id fun h=>absurd h.2.1 (Nat.not_lt_zero t),.inl⟩)
  refine ⟨l',hl'.congr fun j s=>?_,(zA3.one (b:=.l3 l x9 x10 (i:Int) (zAI c pos i) ((0:Nat):Int)) fun n=>?_).trans (g3.trans (zA3.one fun n=>?_))⟩
  ·constructor
   ·rintro ⟨a,h1,h2,h3,h4,h5⟩
    rcases Nat.lt_succ_iff_lt_or_eq.1 h1 with h1 | rfl
    ·exact .inl ⟨a,h1,h2,h3,h4,h5⟩
    ·exact .inr ⟨h2,h3,h4,h5⟩
   ·rintro (⟨a,h1,h2,h3⟩ | ⟨h2,h3⟩)
    ·exact ⟨a,by omega,h2,h3⟩
    ·exact ⟨i,by omega,h2,h3⟩
  ·show zKx n (zBd q c pos n) q c pos l x9 x10 (i:Int)=_
   unfold zKx
   simp only [Int.toNat_natCast]
   rw [decide_eq_true (by omega),cond_true,if_pos ⟨⟨by omega,by omega⟩,hc⟩];rfl
  ·show zKw n (zBd q c pos n) q c pos l' x9 x10 (i:Int) (zAI c pos i) ((q.symbols.toNat:Nat):Int)=_
   unfold zKw
   rw [ek,decide_eq_false (by omega),cond_false,if_pos (zAG.2 ⟨by omega,by omega⟩)];rfl) c.cells.length 0 (List.replicate pos.length 0) (by omega) ((RL.zero pos).congr fun j s=>⟨fun ⟨a,h,_⟩=>absurd h (Nat.not_lt_zero a),fun h=>h.elim⟩)
 have g0:zA3 (zBd q c pos) (.l1 x9 x10 (c.cells.length:Int)) (.l2 (List.replicate pos.length 0) x9 x10 0):=zA3.one fun n=>by
  show zEt n (zBd q c pos n) q c pos x9 x10 (c.cells.length:Int)=_
  unfold zEt
  rw [decide_eq_false (by omega),cond_false,decide_eq_false c1,cond_false,decide_eq_false c2,cond_false]
 refine ((g0.trans g2).ev (Ev.one (r:=(l,true)) fun n=>?_)).p ⟨⟨fun _=>?_,fun _=>rfl⟩,fun _=>hl⟩
 ·show zKx n (zBd q c pos n) q c pos l x9 x10 (c.cells.length:Int)=_
  unfold zKx
  rw [decide_eq_false (by omega),cond_false]
 ·rw [ok,decide_eq_false c1,decide_eq_false c2];rfl
end
end Go.Proofs.YtekkngkphejfcaaGreatDoor
namespace Go.Proofs.YtekkngkphejfcaaGreatDoor
open Go.RowKit
section
variable {q:zAB} {c:zAC} {pos:List Int} {k:Nat}
def ChB (c:zAC) (pos:List Int) (i j:Nat) (g:Nat→Nat):Prop:=∀ b,i≤b→b<j→tb (zAI c pos b) (g b)=true
def Inc (q:zAB) (i j:Nat) (g:Nat→Nat):Prop:=∀ b,i≤b→b+1<j→q.values.getD (g b) 0<q.values.getD (g (b+1)) 0
theorem zVp {b:Int}: ∀ (l:List Int) (a:Int),l.foldl (upF q b) a=a∨∃ e∈l,q.values.getD e.toNat 0=l.foldl (upF q b) a∧q.values.getD e.toNat 0>b
 | [],a=>.inl rfl
 | e::l,a=>by
  rw [List.foldl_cons]
  rcases zVp l (upF q b a e) with h | ⟨x,h1,h2⟩
  ·rw [h]
   unfold upF
   split
   ·rename_i h3
    split
    ·exact .inr ⟨e,List.mem_cons_self,rfl,h3⟩
    ·exact .inl rfl
   ·exact .inl rfl
  ·exact .inr ⟨x,List.mem_cons_of_mem _ h1,h2⟩
theorem zYd {b:Int}: ∀ (l:List Int) (a:Int),l.foldl (dnF q b) a=a∨∃ e∈l,q.values.getD e.toNat 0=l.foldl (dnF q b) a∧q.values.getD e.toNat 0<b
 | [],a=>.inl rfl
 | e::l,a=>by
  rw [List.foldl_cons]
  rcases zYd l (dnF q b a e) with h | ⟨x,h1,h2⟩
  ·rw [h]
   unfold dnF
   split
   ·rename_i h3
    split
    ·exact .inr ⟨e,List.mem_cons_self,rfl,h3⟩
    ·exact .inl rfl
   ·exact .inl rfl
  ·exact .inr ⟨x,List.mem_cons_of_mem _ h1,h2⟩
theorem zTc (W:zFS c k pos): ∀ i,i≤c.cells.length→bef q c pos i<100→∃ g,ChB c pos 0 i g∧Inc q 0 i g∧(0<i→q.values.getD (g (i-1)) 0=bef q c pos i)
 | 0,_,_=>⟨fun _=>0,fun b _ h=>absurd h (Nat.not_lt_zero b),fun b _ h=>absurd h (Nat.not_lt_zero _),fun h=>absurd h (Nat.lt_irrefl 0)⟩
 | i+1,hi,h=>by
  rcases zVp (q:=q) (b:=bef q c pos i) (zAj (zAI c pos i)) 100 with h1 | ⟨e,h1,h2,h3⟩
  ·have:bef q c pos (i+1)=100:=h1
   omega
  ·have h2:q.values.getD e.toNat 0=bef q c pos (i+1):=h2
   obtain ⟨s,rfl,hs,ht⟩:=(zAd (W.at (by omega)) (Nat.le_trans W.k (by decide))).1 h1
   rw [Int.toNat_natCast] at h2 h3
   obtain ⟨g,g1,g2,g3⟩:=zTc W i (by omega) (by omega)
   refine ⟨fun b=>if b=i then s else g b,fun b h4 h5=>?_,fun b h4 h5=>?_,fun _=>?_⟩
   ·dsimp only
    by_cases e:b=i
    ·subst e;rw [if_pos rfl];exact ht
    ·rw [if_neg e];exact g1 b h4 (by omega)
   ·have e1:b≠i:=by omega
    dsimp only
    rw [if_neg e1]
    by_cases e2:b+1=i
    ·have:=g3 (by omega)
     rw [if_pos e2,show b=i-1 by omega,this];exact h3
    ·rw [if_neg e2];exact g2 b h4 (by omega)
   ·dsimp only
    rw [if_pos (by omega)];exact h2
theorem zdH (W:zFS c k pos) {g:Nat→Nat}: ∀ i,i<c.cells.length→ChB c pos 0 (i+1) g→Inc q 0 (i+1) g→bef q c pos i<q.values.getD (g i) 0→bef q c pos (i+1)≤q.values.getD (g i) 0:=fun i hi h1 _ h3=>by
 have h:=(zcb (q:=q) (b:=bef q c pos i) (zAj (zAI c pos i)) 100).1 (Int.le_refl _)
 have ht:=h1 i (Nat.zero_le _) (by omega)
 have hm:=(zAd (W.at hi) (Nat.le_trans W.k (by decide)) (e:=(g i:Int))).2 ⟨g i,rfl,Nat.lt_of_not_le fun hle=>(by rw [(W.at hi).hi hle] at ht;cases ht),ht⟩
 have:=h.2 _ hm
 rw [Int.toNat_natCast] at this
 exact this h3
theorem zbI (W:zFS c k pos) (V:zMA q k) {g:Nat→Nat}: ∀ i,i<c.cells.length→ChB c pos 0 (i+1) g→Inc q 0 (i+1) g→bef q c pos i<q.values.getD (g i) 0
 | 0,hi,h1,_=>by
  have ht:=h1 0 (Nat.le_refl _) (by omega)
  have:=V.val (g 0) (Nat.lt_of_not_le fun hle=>(by rw [(W.at hi).hi hle] at ht;cases ht))
  show (-1:Int)<_
  omega
 | i+1,hi,h1,h2=>by
  have a1:ChB c pos 0 (i+1) g:=fun b h3 h4=>h1 b h3 (by omega)
  have a2:Inc q 0 (i+1) g:=fun b h3 h4=>h2 b h3 (by omega)
  have h3:=zbI W V i (by omega) a1 a2
  have h4:=zdH W i (by omega) a1 a2 h3
  have h5:=h2 i (Nat.zero_le _) (by omega)
  omega
theorem zTi (W:zFS c k pos): ∀ m,m≤c.cells.length→-1<zYy q c pos m→∃ g,ChB c pos (c.cells.length-m) c.cells.length g∧Inc q (c.cells.length-m) c.cells.length g∧(0<m→q.values.getD (g (c.cells.length-m)) 0=zYy q c pos m)
 | 0,_,_=>⟨fun _=>0,fun b h1 h2=>absurd h2 (by omega),fun b h1 h2=>absurd h2 (by omega),fun h=>absurd h (Nat.lt_irrefl 0)⟩
 | m+1,hm,h=>by
  rcases zYd (q:=q) (b:=zYy q c pos m) (zAj (zAI c pos (c.cells.length-1-m))) (-1) with h1 | ⟨e,h1,h2,h3⟩
  ·have:zYy q c pos (m+1)= -1:=h1
   omega
  ·have h2:q.values.getD e.toNat 0=zYy q c pos (m+1):=h2
   obtain ⟨s,rfl,hs,ht⟩:=(zAd (W.at (by omega)) (Nat.le_trans W.k (by decide))).1 h1
   rw [Int.toNat_natCast] at h2 h3
   obtain ⟨g,g1,g2,g3⟩:=zTi W m (by omega) (by omega)
   have ei:c.cells.length-(m+1)=c.cells.length-1-m:=by omega
   refine ⟨fun b=>if b=c.cells.length-1-m then s else g b,fun b h4 h5=>?_,fun b h4 h5=>?_,fun _=>?_⟩
   ·dsimp only
    by_cases e:b=c.cells.length-1-m
    ·subst e;rw [if_pos rfl];exact ht
    ·rw [if_neg e];exact g1 b (by omega) h5
   ·have e2:b+1≠c.cells.length-1-m:=by omega
    dsimp only
    rw [if_neg e2]
    by_cases e1:b=c.cells.length-1-m
    ·have:=g3 (by omega)
     rw [if_pos e1,show b+1=c.cells.length-m by omega,this];exact h3
    ·rw [if_neg e1];exact g2 b (by omega) h5
   ·dsimp only
    rw [if_pos ei];exact h2
theorem zbK (W:zFS c k pos) (V:zMA q k) {g:Nat→Nat}: ∀ m,m<c.cells.length→ChB c pos (c.cells.length-1-m) c.cells.length g→Inc q (c.cells.length-1-m) c.cells.length g→q.values.getD (g (c.cells.length-1-m)) 0<zYy q c pos m
 | 0,hm,h1,_=>by
  have ht:=h1 (c.cells.length-1-0) (by omega) (by omega)
  have:=V.val (g (c.cells.length-1-0)) (Nat.lt_of_not_le fun hle=>(by rw [(W.at (by omega)).hi hle] at ht;cases ht))
  show _<(100:Int)
  omega
 | m+1,hm,h1,h2=>by
  have e1:c.cells.length-1-m=c.cells.length-1-(m+1)+1:=by omega
  have a1:ChB c pos (c.cells.length-1-m) c.cells.length g:=fun b h3 h4=>h1 b (by omega) h4
  have a2:Inc q (c.cells.length-1-m) c.cells.length g:=fun b h3 h4=>h2 b (by omega) h4
  have h3:=zbK W V m (by omega) a1 a2
  have h:=(zdE (q:=q) (b:=zYy q c pos m) (zAj (zAI c pos (c.cells.length-1-m))) (-1)).1 (Int.le_refl _)
  have ht:=h1 (c.cells.length-1-m) (by omega) (by omega)
  have hm2:=(zAd (W.at (a:=c.cells.length-1-m) (by omega)) (Nat.le_trans W.k (by decide)) (e:=(g (c.cells.length-1-m):Int))).2 ⟨_,rfl,Nat.lt_of_not_le fun hle=>(by rw [(W.at (by omega)).hi hle] at ht;cases ht),ht⟩
  have h4:=h.2 _ hm2
  rw [Int.toNat_natCast] at h4
  have h4:_≤zYy q c pos (m+1):=h4 h3
  have h5:=h2 (c.cells.length-1-(m+1)) (Nat.le_refl _) (by omega)
  rw [←e1] at h5
  omega
theorem zUE (W:zFS c k pos) (V:zMA q k) {a s:Nat} (ha:a<c.cells.length) (hs:tb (zAI c pos a) s=true):zKj q c pos a s=false↔∃ g,ChB c pos 0 c.cells.length g∧Inc q 0 c.cells.length g∧g a=s:=by
 have hv:=V.val s (Nat.lt_of_not_le fun hle=>(by rw [(W.at ha).hi hle] at hs;cases hs))
 unfold zKj aft
 rw [Bool.or_eq_false_iff,decide_eq_false_iff_not,decide_eq_false_iff_not]
 constructor
 ·rintro ⟨h1,h2⟩
  obtain ⟨g1,p1,p2,p3⟩:=zTc (q:=q) W a (by omega) (by omega)
  obtain ⟨g2,r1,r2,r3⟩:=zTi (q:=q) W (c.cells.length-(a+1)) (by omega) (by omega)
  have el:c.cells.length-(c.cells.length-(a+1))=a+1:=by omega
  rw [el] at r1 r2 r3
  refine ⟨fun b=>if b<a then g1 b else if b=a then s else g2 b,fun b _ hb=>?_,fun b _ hb=>?_,by dsimp only;rw [if_neg (by omega),if_pos rfl]⟩
  ·dsimp only
   by_cases e1:b<a
   ·rw [if_pos e1];exact p1 b (Nat.zero_le _) e1
   ·by_cases e2:b=a
    ·subst e2;rw [if_neg e1,if_pos rfl];exact hs
    ·rw [if_neg e1,if_neg e2];exact r1 b (by omega) hb
  ·dsimp only
   by_cases e1:b<a
   ·rw [if_pos e1]
    by_cases e2:b+1<a
    ·rw [if_pos e2];exact p2 b (Nat.zero_le _) e2
    ·have:=p3 (by omega)
     rw [if_neg e2,if_pos (by omega),show b=a-1 by omega,this];omega
   ·rw [if_neg e1,if_neg (by omega: ¬ b+1<a),if_neg (by omega: ¬ b+1=a)]
    by_cases e2:b=a
    ·have:=r3 (by omega)
     rw [if_pos e2,e2,this];omega
    ·rw [if_neg e2];exact r2 b (by omega) hb
 ·rintro ⟨g,h1,h2,rfl⟩
  have l1:=zbI W V a ha (fun b h3 h4=>h1 b h3 (by omega)) (fun b h3 h4=>h2 b h3 (by omega))
  have l2:=zbK W V (c.cells.length-1-a) (by omega) (fun b h3 h4=>h1 b (by omega) h4) (fun b h3 h4=>h2 b (by omega) h4)
  have e1:c.cells.length-1-(c.cells.length-1-a)=a:=by omega
  have e2:c.cells.length-(a+1)=c.cells.length-1-a:=by omega
  rw [e1] at l2
  rw [e2]
  omega
def RX (c:zAC) (pos:List Int) (a:Nat) (inn:Bool):Nat→Int×Int→Prop
 | 0,t=>zdm c t
 | m+1,s=>∃ b u,kd c pos (c.cells.length-1-m) b=true∧(c.cells.length-1-m=a→b=inn)∧nx c s.1 s.2 b=some u∧RX c pos a inn m u
theorem zSW {a:Nat} {inn:Bool}: ∀ (m:Nat),m+a+1≤c.cells.length→∀ t,Rch c pos (c.cells.length-m) t→(RX c pos a inn m t↔Liv c pos m t)
 | 0,_,t,_=>Iff.rfl
 | m+1,hm,s,hr=>by
  have e:c.cells.length-(m+1)=c.cells.length-1-m:=by omega
  have e2:c.cells.length-m=c.cells.length-1-m+1:=by omega
  rw [e] at hr
  constructor
  ·rintro ⟨b,u,h1,_,h3,h4⟩
   exact ⟨hr,u,b,h3,h1,(zSW m (by omega) u (by rw [e2];exact ⟨s,b,hr,h3,h1⟩)).1 h4⟩
  ·rintro ⟨_,u,b,h3,h1,h4⟩
   exact ⟨b,u,h1,fun h=>absurd h (by omega),h3,(zSW m (by omega) u (by rw [e2];exact ⟨s,b,hr,h3,h1⟩)).2 h4⟩
theorem zSX {a:Nat} {inn:Bool} (ha:a<c.cells.length): ∀ (i:Nat),i≤a→(RX c pos a inn c.cells.length (0,0)↔∃ s,Rch c pos i s∧RX c pos a inn (c.cells.length-i) s)
 | 0,_=>⟨fun h=>⟨(0,0),rfl,h⟩,fun ⟨s,h1,h2⟩=>by
  have h1:s=(0,0):=h1
  subst h1;exact h2⟩
 | i+1,hi=>by
  rw [zSX ha i (by omega)]
  have e:c.cells.length-i=(c.cells.length-(i+1))+1:=by omega
  have e2:c.cells.length-1-(c.cells.length-(i+1))=i:=by omega
  constructor
  ·rintro ⟨s,h1,h2⟩
   rw [e] at h2
   obtain ⟨b,u,h3,_,h5,h6⟩:=h2
   rw [e2] at h3
   exact ⟨u,⟨s,b,h1,h5,h3⟩,h6⟩
  ·rintro ⟨u,⟨s,b,h1,h5,h3⟩,h6⟩
   refine ⟨s,h1,?_⟩
   rw [e]
   exact ⟨b,u,by rw [e2];exact h3,fun h=>absurd h (by rw [e2];omega),h5,h6⟩
theorem zYn {a:Nat} {inn:Bool} (ha:a<c.cells.length):can c pos a inn↔RX c pos a inn c.cells.length (0,0):=by
 rw [zSX ha a (Nat.le_refl _)]
 have e:c.cells.length-a=(c.cells.length-1-a)+1:=by omega
 have e2:c.cells.length-1-(c.cells.length-1-a)=a:=by omega
 have e3:c.cells.length-(c.cells.length-1-a)=a+1:=by omega
 constructor
 ·rintro ⟨s,t,h1,h2,h3,h4⟩
  refine ⟨s,h1,?_⟩
  rw [e]
  exact ⟨inn,t,by rw [e2];exact h3,fun _=>rfl,h2,(zSW _ (by omega) t (by rw [e3];exact ⟨s,inn,h1,h2,h3⟩)).2 h4⟩
 ·rintro ⟨s,h1,h2⟩
  rw [e] at h2
  obtain ⟨b,t,h3,h4,h5,h6⟩:=h2
  rw [e2] at h3 h4
  obtain rfl:=h4 rfl
  exact ⟨s,t,h1,h5,h3,(zSW _ (by omega) t (by rw [e3];exact ⟨s,b,h1,h5,h3⟩)).1 h6⟩
end
end Go.Proofs.YtekkngkphejfcaaGreatDoor
namespace Go.Proofs.YtekkngkphejfcaaGreatDoor
open Go.RowKit
open Classical
def zYu (f:Nat→Bool):Nat→Nat→Bool
 | 0,_=>false
 | k+1,t=>f t||zYu f k (t+1)
theorem zOW {f:Nat→Bool}: ∀ (k t:Nat),zYu f k t=true↔∃ u,t≤u∧u<t+k∧f u=true
 | 0,t=>⟨fun h=>(by cases h),fun ⟨u,h1,h2,_⟩=>absurd h2 (by omega)⟩
 | k+1,t=>by
  show (f t||zYu f k (t+1))=true↔_
  rw [Bool.or_eq_true,zOW k (t+1)]
  constructor
  ·rintro (h | ⟨u,h1,h2,h3⟩)
   ·exact ⟨t,Nat.le_refl _,by omega,h⟩
   ·exact ⟨u,by omega,by omega,h3⟩
  ·rintro ⟨u,h1,h2,h3⟩
   by_cases e:u=t
   ·subst e;exact .inl h3
   ·exact .inr ⟨u,by omega,by omega,h3⟩
section
variable {q:zAB} {c:zAC} {pos l:List Int} {k:Nat}
def RE (q:zAB) (c:zAC) (pos:List Int) (a s:Nat):Nat→Int→Prop
 | 0,_=>True
 | m+1,v=>∃ t,tb (zAI c pos (c.cells.length-1-m)) t=true∧(c.cells.length-1-m=a→t=s)∧v<q.values.getD t 0∧RE q c pos a s m (q.values.getD t 0)
theorem zSl (H:RW q c pos) {rec:zAB→zAC→List Int→Int→Int→Int→Int→Option Bool} {i a s:Nat} {v:Int} {D:Nat→Bool} (hi:i<c.cells.length)
 (hD: ∀ t,t<q.symbols.toNat→rec q c pos ((i:Int)+1) (q.values.getD t 0) (a:Int) (s:Int)=some (D t)): ∀ (k t n:Nat),t+k=q.symbols.toNat→k<n→
 zDq rec q c pos (i:Int) v (a:Int) (s:Int) n (.l1 (t:Int))=some (zYu (fun t=>tb (zAI c pos i) t&&decide (i=a→t=s)&&decide (v<q.values.getD t 0)&&D t) k t)
 | 0,t,n+1,e,_=>by
  have:=H.sy
  show zFg n rec (zDq rec q c pos i v a s n) q c pos i v a s (t:Int)=_
  unfold zFg
  rw [decide_eq_false (by omega),cond_false];rfl
 | k+1,t,n+1,e,hn=>by
  have hsy:=H.sy
  have hvl:=H.vlen
  have hlen:=H.W.len
  obtain ⟨s1,s2,s3⟩:=H.sym (s:=t) (by omega)
  have ih:=zSl H (v:=v) hi hD k (t+1) n (by omega) (by omega)
  have ih:zDq rec q c pos (i:Int) v (a:Int) (s:Int) n (.l1 ((t:Int)+1))=_:=ih
  have hc:=H.W.cells i hi
  have hx:=H.W.at hi
  have r1:R64 ((t:Int)+1):=zAG.2 ⟨by omega,by omega⟩
  have r2:R64 ((i:Int)+1):=zAG.2 ⟨by omega,by omega⟩
  have k16:=H.W.k
  show zFg n rec (zDq rec q c pos i v a s n) q c pos i v a s (t:Int)=_
  have e0:zPa n (pos.getD (c.cells.getD i 0).toNat 0) (t:Int)=some (tb (zAI c pos i) t):=zE1 hx (by omega) (by omega)
  have e1:((i:Int) != (a:Int))= !decide (i=a):=by
   by_cases h:i=a
   ·subst h;simp
   ·rw [decide_eq_false h];simp;omega
  have e2:((t:Int)==(s:Int))=decide (t=s):=by
   by_cases h:t=s
   ·subst h;simp
   ·rw [decide_eq_false h];simp;omega
  unfold zFg
  simp only [Int.toNat_natCast]
  rw [decide_eq_true s1,cond_true,if_pos ⟨⟨by omega,by omega⟩,hc⟩,e0,Option.bind_some,if_pos r1,ih,e1,e2,if_pos (⟨by omega,by omega⟩:0≤(t:Int)∧(t:Int)<(q.values.length:Int)),if_pos r2,hD t (by omega),Option.bind_some]
  show _=some ((tb (zAI c pos i) t&&decide (i=a→t=s)&&decide (v<q.values.getD t 0)&&D t)||zYu _ k (t+1))
  cases tb (zAI c pos i) t
  ·rfl
  ·by_cases h1:i=a
   ·rw [decide_eq_true h1]
    by_cases h2:t=s
    ·rw [decide_eq_true h2,decide_eq_true (fun _=>h2:i=a→t=s)]
     by_cases h3:v<q.values.getD t 0
     ·rw [decide_eq_true h3]
      cases D t <;> rfl
     ·rw [decide_eq_false h3]
      rfl
    ·rw [decide_eq_false h2,decide_eq_false (fun h=>h2 (h h1): ¬ (i=a→t=s))]
     rfl
   ·rw [decide_eq_false h1,decide_eq_true (fun h=>absurd h h1:i=a→t=s)]
    by_cases h3:v<q.values.getD t 0
    ·rw [decide_eq_true h3]
     cases D t <;> rfl
    ·rw [decide_eq_false h3]
     rfl
theorem zPS (H:RW q c pos) {a s:Nat}: ∀ (m:Nat),m≤c.cells.length→∀ v:Int,Ev (fun n=>zGp n q c pos ((c.cells.length-m:Nat):Int) v (a:Int) (s:Int)) (decide (RE q c pos a s m v))
 | 0,_,v=>⟨1,fun n hn=>by
  obtain ⟨n,rfl⟩: ∃ k,n=k+1:=⟨n-1,by omega⟩
  show zFh n _ _ q c pos _ v a s=_
  unfold zFh
  rw [show ((c.cells.length-0:Nat):Int)=(c.cells.length:Int) from rfl,beq_self_eq_true,cond_true,decide_eq_true (p:=RE q c pos a s 0 v) trivial]⟩
 | m+1,hm,v=>by
  obtain ⟨N,hN⟩:=PEv.range (F:=fun t n=>zGp n q c pos ((c.cells.length-m:Nat):Int) (q.values.getD t 0) (a:Int) (s:Int)) (A:=fun t b=>b=decide (RE q c pos a s m (q.values.getD t 0))) q.symbols.toNat fun t _=>(zPS H m (by omega) (q.values.getD t 0)).p rfl
  have hsy:=H.sy
  refine ⟨N+q.symbols.toNat+2,fun n hn=>?_⟩
  obtain ⟨n,rfl⟩: ∃ k,n=k+1:=⟨n-1,by omega⟩
  have ei:c.cells.length-(m+1)=c.cells.length-1-m:=by omega
  have ej:((c.cells.length-m:Nat):Int)=((c.cells.length-1-m:Nat):Int)+1:=by omega
  show zFh n (zGp n) (zDq (zGp n) q c pos ((c.cells.length-(m+1):Nat):Int) v a s n) q c pos ((c.cells.length-(m+1):Nat):Int) v a s=_
  unfold zFh
  rw [show (((c.cells.length-(m+1):Nat):Int)==(c.cells.length:Int))=false by simp;omega,cond_false,ei]
  refine (zSl H (i:=c.cells.length-1-m) (a:=a) (s:=s) (v:=v) (D:=fun t=>decide (RE q c pos a s m (q.values.getD t 0))) (by omega) (fun t ht=>?_) q.symbols.toNat 0 n (by omega) (by omega)).trans (congrArg some ?_)
  ·obtain ⟨r,h1,h2⟩:=hN n (by omega) t ht
   subst h2
   rw [←ej];exact h1
  ·rw [Bool.eq_iff_iff,zOW,decide_eq_true_iff]
   simp only [Bool.and_eq_true,decide_eq_true_iff]
   constructor
   ·rintro ⟨t,_,_,⟨⟨h1,h2⟩,h3⟩,h4⟩
    exact ⟨t,h1,h2,h3,h4⟩
   ·rintro ⟨t,h1,h2,h3,h4⟩
    exact ⟨t,Nat.zero_le _,by have:=H.low (H.W.at (by omega)) h1;omega,⟨⟨h1,h2⟩,h3⟩,h4⟩
theorem zWp {a s:Nat}: ∀ (m:Nat),m≤c.cells.length→∀ v:Int,RE q c pos a s m v↔∃ g,ChB c pos (c.cells.length-m) c.cells.length g∧Inc q (c.cells.length-m) c.cells.length g∧(c.cells.length-m≤a→a<c.cells.length→g a=s)∧(0<m→v<q.values.getD (g (c.cells.length-m)) 0)
 | 0,_,v=>⟨fun _=>⟨fun _=>s,fun b h1 h2=>absurd h1 (by omega),fun b h1 h2=>absurd h1 (by omega),fun h1 h2=>absurd h1 (by omega),fun h=>absurd h (Nat.lt_irrefl 0)⟩,fun _=>trivial⟩
 | m+1,hm,v=>by
  have ei:c.cells.length-(m+1)=c.cells.length-1-m:=by omega
  have ej:c.cells.length-m=c.cells.length-1-m+1:=by omega
  constructor
  ·rintro ⟨t,h1,h2,h3,h4⟩
   obtain ⟨g,g1,g2,g3,g4⟩:=(zWp m (by omega) _).1 h4
   rw [ei]
   refine ⟨fun b=>if b=c.cells.length-1-m then t else g b,fun b hb hb2=>?_,fun b hb hb2=>?_,fun hb hb2=>?_,fun _=>?_⟩
   ·dsimp only
    by_cases e:b=c.cells.length-1-m
    ·subst e;rw [if_pos rfl];exact h1
    ·rw [if_neg e];exact g1 b (by omega) hb2
   ·dsimp only
    rw [if_neg (by omega: ¬ b+1=c.cells.length-1-m)]
    by_cases e:b=c.cells.length-1-m
    ·rw [if_pos e]
     have:=g4 (by omega)
     rw [ej] at this
     rw [e];exact this
    ·rw [if_neg e];exact g2 b (by omega) hb2
   ·dsimp only
    by_cases e:a=c.cells.length-1-m
    ·rw [if_pos e];exact h2 e.symm
    ·rw [if_neg e];exact g3 (by omega) hb2
   ·dsimp only
    rw [if_pos rfl];exact h3
  ·rw [ei]
   rintro ⟨g,g1,g2,g3,g4⟩
   refine ⟨g (c.cells.length-1-m),g1 _ (Nat.le_refl _) (by omega),fun e=>?_,g4 (by omega),(zWp m (by omega) _).2 ⟨g,fun b hb hb2=>g1 b (by omega) hb2,fun b hb hb2=>g2 b (by omega) hb2,fun hb hb2=>g3 (by omega) hb2,fun hm0=>?_⟩⟩
   ·rw [e];exact g3 (by omega) (by omega)
   ·rw [ej];exact g2 _ (Nat.le_refl _) (by omega)
theorem zbq (H:RW q c pos) {a s:Nat} (ha:a<c.cells.length) (hs:tb (zAI c pos a) s=true):RE q c pos a s c.cells.length (-1)↔zKj q c pos a s=false:=by
 rw [zWp _ (Nat.le_refl _),zUE H.W H.V ha hs,Nat.sub_self]
 constructor
 ·rintro ⟨g,g1,g2,g3,_⟩
  exact ⟨g,g1,g2,g3 (Nat.zero_le _) ha⟩
 ·rintro ⟨g,g1,g2,g3⟩
  refine ⟨g,g1,g2,fun _ _=>g3,fun h=>?_⟩
  have:=H.V.val (g 0) (H.low (H.W.at h) (g1 0 (Nat.le_refl _) h))
  omega
theorem zc1 (H:RW q c pos) {i:Nat} (hi:i<c.cells.length):(bits .and .i64 (zAI c pos i) c.set==zAI c pos i)= !kd c pos i false:=by
 have h:=zGx (S:=c.set) (H.W.at hi) (Nat.le_trans H.W.k (by decide))
 show _= !(bits .andNot .i64 (zAI c pos i) c.set != 0)
 rw [←h,Bool.eq_iff_iff,beq_iff_eq,Bool.not_eq_true',bne_eq_false_iff_eq]
 omega
theorem zWY {d l:Int} (hp: ∀ j,j<c.runs.length→1≤c.runs.getD j 0) (h:zNG c d l):zdm c (d,l)↔(if l>0 then d+1=(c.runs.length:Int)∧l=c.runs.getD d.toNat 0 else d=(c.runs.length:Int)):=by
 obtain ⟨h1,h2,h3,h4⟩:=h
 unfold zdm
 by_cases hl:l>0
 ·rw [if_pos hl]
  have h5:=h4 hl
  constructor
  ·rintro (h | ⟨h6,h⟩)
   ·have:l=0:=congrArg Prod.snd h
    omega
   ·have e1:d=(c.runs.length:Int)-1:=congrArg Prod.fst h
    have e2:l=c.runs.getD (c.runs.length-1) 0:=congrArg Prod.snd h
    exact ⟨by omega,by rw [e2,show d.toNat=c.runs.length-1 by omega]⟩
  ·rintro ⟨h6,h7⟩
   exact .inr ⟨by omega,Prod.ext (by show d=_;omega) (by show l=_;rw [h7,show d.toNat=c.runs.length-1 by omega])⟩
 ·rw [if_neg hl]
  constructor
  ·rintro (h | ⟨h6,h⟩)
   ·exact congrArg Prod.fst h
   ·have e2:l=c.runs.getD (c.runs.length-1) 0:=congrArg Prod.snd h
    have:=hp (c.runs.length-1) (by omega)
    omega
  ·intro h
   exact .inl (Prod.ext h (by show l=0;omega))
def zYz (c:zAC):Prop:=∀ j,j<c.runs.length→1≤c.runs.getD j 0
def RY (c:zAC) (pos:List Int) (a:Nat) (inn:Bool) (m:Nat) (d l:Int):Prop:=zNG c d l∧RX c pos a inn m (d,l)
theorem zbl {a m:Nat} {inn:Bool} {d l:Int} (hs:zNG c d l):RY c pos a inn (m+1) d l↔
 (kd c pos (c.cells.length-1-m) true=true∧(c.cells.length-1-m=a→inn=true)∧RY c pos a inn m d (l+1))∨
 (kd c pos (c.cells.length-1-m) false=true∧(c.cells.length-1-m=a→inn=false)∧((l=0∧RY c pos a inn m d 0)∨(l≠0∧l=c.runs.getD d.toNat 0∧RY c pos a inn m (d+1) 0))):=by
 constructor
 ·rintro ⟨_,b,u,h1,h2,h3,h4⟩
  have hu:=zcs hs h3
  cases b
  ·refine .inr ⟨h1,fun h=>(h2 h).symm,?_⟩
   have h3:(if l=0 then some (d,0) else if l=c.runs.getD d.toNat 0 then some (d+1,0) else none)=some u:=h3
   by_cases h5:l=0
   ·rw [if_pos h5] at h3;cases h3
    exact .inl ⟨h5,hu,h4⟩
   ·rw [if_neg h5] at h3
    by_cases h6:l=c.runs.getD d.toNat 0
    ·rw [if_pos h6] at h3;cases h3
     exact .inr ⟨h5,h6,hu,h4⟩
    ·rw [if_neg h6] at h3;cases h3
  ·refine .inl ⟨h1,fun h=>(h2 h).symm,?_⟩
   have h3:(if d<(c.runs.length:Int)∧l<c.runs.getD d.toNat 0 then some (d,l+1) else none)=some u:=h3
   split at h3
   ·cases h3;exact ⟨hu,h4⟩
   ·cases h3
 ·rintro (⟨h1,h2,h3,h4⟩ | ⟨h1,h2,⟨h5,h3,h4⟩ | ⟨h5,h6,h3,h4⟩⟩)
  ·refine ⟨hs,true,(d,l+1),h1,fun h=>(h2 h).symm,?_,h4⟩
   have:=h3.open' (by have:=hs.l0;omega)
   show (if d<(c.runs.length:Int)∧l<c.runs.getD d.toNat 0 then some (d,l+1) else none)=_
   rw [if_pos ⟨this.1,by omega⟩]
  ·refine ⟨hs,false,(d,0),h1,fun h=>(h2 h).symm,?_,h4⟩
   show (if l=0 then some (d,0) else if l=c.runs.getD d.toNat 0 then some (d+1,0) else none)=_
   rw [if_pos h5]
  ·refine ⟨hs,false,(d+1,0),h1,fun h=>(h2 h).symm,?_,h4⟩
   show (if l=0 then some (d,0) else if l=c.runs.getD d.toNat 0 then some (d+1,0) else none)=_
   rw [if_neg h5,if_pos h6]
theorem l3b {k inn:Bool} {p W:Prop} [Decidable p] [Decidable W] [Decidable (k=true∧(p→inn=false)∧W)]:(bif !k then some false else bif decide p then bif inn then some false else some (decide W) else some (decide W))=some (decide (k=true∧(p→inn=false)∧W)):=by
 cases k <;> cases inn <;> by_cases hp:p <;> simp [hp]
theorem zSk (H:RW q c pos) (R:zEe c) (R1:zYz c) {a:Nat} {at_:Int} {inn:Bool} (hat: ∀ i,i<c.cells.length→((i:Int)=at_↔i=a)): ∀ (m:Nat),m≤c.cells.length→∀ d l:Int,0≤d→d≤(c.runs.length:Int)→0≤l→l≤257→
 Ev (fun n=>zDZ n c pos ((c.cells.length-m:Nat):Int) d l at_ inn) (decide (RY c pos a inn m d l)):=by
 intro m
 induction m with
 | zero=>
  intro _ d l h1 h2 h3 h4
  refine ⟨2,fun n hn=>?_⟩
  obtain ⟨n,rfl⟩: ∃ k,n=k+2:=⟨n-2,by omega⟩
  have h8:=R.1
  show zEu (n+1) _ (zB5 (zDZ (n+1)) c pos (c.cells.length:Int) d l at_ inn (n+1)) c pos (c.cells.length:Int) d l at_ inn=_
  have E:zNG c d l→zB5 (zDZ (n+1)) c pos (c.cells.length:Int) d l at_ inn (n+1) .l1=some (decide (RY c pos a inn 0 d l)):=fun hs=>by
   show zHk n _ _ c pos _ d l at_ inn=_
   unfold zHk
   rw [beq_self_eq_true,cond_true]
   have e:RY c pos a inn 0 d l↔(if l>0 then d+1=(c.runs.length:Int)∧l=c.runs.getD d.toNat 0 else d=(c.runs.length:Int)):=⟨fun h=>(zWY R1 hs).1 h.2,fun h=>⟨hs,(zWY R1 hs).2 h⟩⟩
   by_cases hl:l>0
   ·have ho:=hs.open' hl
    rw [if_pos hl] at e
    rw [decide_eq_true hl,cond_true,if_pos (zAG.2 ⟨by omega,by omega⟩)]
    by_cases h5:d+1=(c.runs.length:Int)
    ·rw [beq_iff_eq.2 h5,cond_true,if_pos ⟨h1,ho.1⟩]
     refine congrArg some ?_
     rw [Bool.eq_iff_iff,beq_iff_eq,decide_eq_true_iff,e]
     exact ⟨fun h=>⟨h5,h⟩,fun h=>h.2⟩
    ·rw [beq_eq_false_iff_ne.2 h5,cond_false,decide_eq_false fun h=>h5 (e.1 h).1]
   ·rw [if_neg hl] at e
    rw [decide_eq_false hl,cond_false]
    refine congrArg some ?_
    rw [Bool.eq_iff_iff,beq_iff_eq,decide_eq_true_iff,e]
  unfold zEu
  by_cases hl:l>0
  ·rw [decide_eq_true hl,cond_true]
   by_cases h5:d≥(c.runs.length:Int)
   ·rw [decide_eq_true h5,cond_true,decide_eq_false fun h:RY c pos a inn 0 d l=>by have:=h.1.open' hl;omega]
   ·rw [decide_eq_false h5,cond_false,if_pos ⟨h1,by omega⟩]
    by_cases h6:l>c.runs.getD d.toNat 0
    ·rw [decide_eq_true h6,cond_true,decide_eq_false fun h:RY c pos a inn 0 d l=>by have:=h.1.open' hl;omega]
    ·rw [decide_eq_false h6,cond_false,E ⟨h1,h2,h3,fun _=>⟨by omega,by omega⟩⟩]
  ·rw [decide_eq_false hl,cond_false,E ⟨h1,h2,h3,fun h=>absurd h hl⟩]
 | succ m ih=>
  intro hm d l h1 h2 h3 h4
  have hlen:=H.W.len
  have h8:=R.1
  have ei:c.cells.length-(m+1)=c.cells.length-1-m:=by omega
  have ej:((c.cells.length-m:Nat):Int)=((c.cells.length-1-m:Nat):Int)+1:=by omega
  have ih:=ih (by omega)
  rw [ej] at ih
  rw [ei]
  generalize hi:c.cells.length-1-m=i at ih ⊢
  have hil:i<c.cells.length:=by omega
  have hc:=H.W.cells i hil
  have r1:R64 ((i:Int)+1):=zAG.2 ⟨by omega,by omega⟩
  have G:zNG c d l→∃ N,∀ n,N≤n→∀ k,zB5 (zDZ n) c pos (i:Int) d l at_ inn (k+4) .l1=some (decide (RY c pos a inn (m+1) d l)):=fun hs=>by
   have hl:l≤256:=by
    by_cases h:0<l
    ·have h5:=hs.open' h
     have:=R.2 d.toNat (by omega)
     omega
    ·omega
   obtain ⟨N1,g1⟩:=ih d (l+1) h1 h2 (by omega) (by omega)
   obtain ⟨N2,g2⟩:=ih d 0 h1 h2 (Int.le_refl _) (by decide)
   obtain ⟨N3,g3⟩: ∃ N,∀ n,N≤n→l≠0→zDZ n c pos ((i:Int)+1) (d+1) 0 at_ inn=some (decide (RY c pos a inn m (d+1) 0)):=by
    by_cases h:l=0
    ·exact ⟨0,fun _ _ h'=>absurd h h'⟩
    ·have h5:=hs.open' (by omega)
     obtain ⟨N,g⟩:=ih (d+1) 0 (by omega) (by omega) (Int.le_refl _) (by decide)
     exact ⟨N,fun n hn _=>g n hn⟩
   refine ⟨max N1 (max N2 N3),fun n hn k=>?_⟩
   have g1:zDZ n c pos ((i:Int)+1) d (l+1) at_ inn=_:=g1 n (by omega)
   have g2:zDZ n c pos ((i:Int)+1) d 0 at_ inn=_:=g2 n (by omega)
   have g3:=g3 n (by omega)
   have ca:((i:Int)==at_)=decide (i=a):=by
    by_cases h:i=a
    ·rw [decide_eq_true h,beq_iff_eq];exact (hat i hil).2 h
    ·rw [decide_eq_false h,beq_eq_false_iff_ne];exact fun h'=>h ((hat i hil).1 h')
   have cb:((i:Int) != at_)= !decide (i=a):=by
    show (!((i:Int)==at_))=_
    rw [ca]
   have r2:R64 (l+1):=zAG.2 ⟨by omega,by omega⟩
   have r3:R64 (d+1):=zAG.2 ⟨by omega,by omega⟩
   have es:pos.getD (c.cells.getD i 0).toNat 0=zAI c pos i:=rfl
   have L4:zB5 (zDZ n) c pos (i:Int) d l at_ inn (k+1) .l4=some (decide ((l=0∧RY c pos a inn m d 0)∨(l≠0∧l=c.runs.getD d.toNat 0∧RY c pos a inn m (d+1) 0))):=by
    show zNn k _ _ c pos _ d l at_ inn=_
    unfold zNn
    by_cases h5:l=0
    ·rw [beq_iff_eq.2 h5,cond_true,if_pos r1,g2,Option.bind_some]
     refine congrArg some ?_
     rw [Bool.eq_iff_iff,decide_eq_true_iff,decide_eq_true_iff]
     exact ⟨fun h=>.inl ⟨h5,h⟩,fun h=>h.elim (fun h=>h.2) fun h=>absurd h5 h.1⟩
    ·have ho:=hs.open' (by omega)
     rw [beq_eq_false_iff_ne.2 h5,cond_false,if_pos ⟨h1,ho.1⟩]
     by_cases h6:l=c.runs.getD d.toNat 0
     ·rw [beq_iff_eq.2 h6,cond_true,if_pos ⟨r1,r3⟩,g3 h5,Option.bind_some]
      refine congrArg some ?_
      rw [Bool.eq_iff_iff,decide_eq_true_iff,decide_eq_true_iff]
      exact ⟨fun h=>.inr ⟨h5,h6,h⟩,fun h=>h.elim (fun h=>absurd h.1 h5) fun h=>h.2.2⟩
     ·rw [beq_eq_false_iff_ne.2 h6,cond_false,decide_eq_false fun h=>h.elim (fun h=>h5 h.1) fun h=>h6 h.2.1]
   have L3:zB5 (zDZ n) c pos (i:Int) d l at_ inn (k+2) .l3=some (decide (kd c pos i false=true∧(i=a→inn=false)∧((l=0∧RY c pos a inn m d 0)∨(l≠0∧l=c.runs.getD d.toNat 0∧RY c pos a inn m (d+1) 0)))):=by
    show zNo (k+1) _ (zB5 (zDZ n) c pos (i:Int) d l at_ inn (k+1)) c pos _ d l at_ inn=_
    unfold zNo
    simp only [Int.toNat_natCast]
    rw [es,zc1 H hil,ca,L4]
    exact l3b
   show zHk (k+3) _ (zB5 (zDZ n) c pos (i:Int) d l at_ inn (k+3)) c pos _ d l at_ inn=_
   unfold zHk
   rw [show ((i:Int)==(c.cells.length:Int))=false by rw [beq_eq_false_iff_ne];omega,cond_false]
   show zNp (k+2) _ (zB5 (zDZ n) c pos (i:Int) d l at_ inn (k+2)) c pos _ d l at_ inn=_
   unfold zNp
   simp only [Int.toNat_natCast]
   have gt:inn=true→zDZ n c pos ((i:Int)+1) d (l+1) at_ true=some (decide (RY c pos a inn m d (l+1))):=fun h=>by rw [←g1,h]
   rw [if_pos ⟨⟨by omega,by omega⟩,hc⟩,es,cb,L3,if_pos ⟨r1,r2⟩,g1,Option.bind_some]
   have ek:(bits .and .i64 (zAI c pos i) c.set != 0)=kd c pos i true:=rfl
   rw [ek]
   have X:=zbl (pos:=pos) (a:=a) (m:=m) (inn:=inn) hs
   rw [hi] at X
   have Y:decide (RY c pos a inn (m+1) d l)=((kd c pos i true&&decide (i=a→inn=true)&&decide (RY c pos a inn m d (l+1)))||decide (kd c pos i false=true∧(i=a→inn=false)∧((l=0∧RY c pos a inn m d 0)∨(l≠0∧l=c.runs.getD d.toNat 0∧RY c pos a inn m (d+1) 0)))):=by
    rw [Bool.eq_iff_iff,decide_eq_true_iff,X,Bool.or_eq_true,Bool.and_eq_true,Bool.and_eq_true,decide_eq_true_iff,decide_eq_true_iff,decide_eq_true_iff]
    exact ⟨fun h=>h.imp (fun h=>⟨⟨h.1,h.2.1⟩,h.2.2⟩) id,fun h=>h.imp (fun h=>⟨h.1.1,h.1.2,h.2⟩) id⟩
   rw [Y]
   cases h5:kd c pos i true
   ·rfl
   ·by_cases h6:i=a
    ·rw [decide_eq_true h6]
     cases hinn:inn
     ·rw [decide_eq_false (fun h=>absurd (h h6) (by decide): ¬ (i=a→false=true))];rfl
     ·rw [hinn] at gt
      rw [decide_eq_true (fun _=>rfl:i=a→true=true),gt rfl,Option.bind_some,if_pos ⟨r1,r2⟩]
      cases decide (RY c pos a true m d (l+1)) <;> rfl
    ·rw [decide_eq_false h6,decide_eq_true (fun h=>absurd h h6:i=a→inn=true)]
     cases decide (RY c pos a inn m d (l+1)) <;> rfl
  by_cases hs:zNG c d l
  ·obtain ⟨N,hN⟩:=G hs
   refine ⟨N+5,fun n hn=>?_⟩
   obtain ⟨n,rfl⟩: ∃ k,n=k+5:=⟨n-5,by omega⟩
   show zEu (n+4) _ (zB5 (zDZ (n+4)) c pos (i:Int) d l at_ inn (n+4)) c pos (i:Int) d l at_ inn=_
   unfold zEu
   rw [hN (n+4) (by omega) n]
   by_cases hl:l>0
   ·have ho:=hs.open' hl
    rw [decide_eq_true hl,cond_true,decide_eq_false (by omega),cond_false,if_pos ⟨h1,ho.1⟩,decide_eq_false (by omega),cond_false]
   ·rw [decide_eq_false hl,cond_false]
  ·refine ⟨1,fun n hn=>?_⟩
   obtain ⟨n,rfl⟩: ∃ k,n=k+1:=⟨n-1,by omega⟩
   rw [decide_eq_false fun h:RY c pos a inn (m+1) d l=>hs h.1]
   show zEu n _ _ c pos (i:Int) d l at_ inn=_
   unfold zEu
   by_cases hl:l>0
   ·rw [decide_eq_true hl,cond_true]
    by_cases h5:d≥(c.runs.length:Int)
    ·rw [decide_eq_true h5,cond_true]
    ·rw [decide_eq_false h5,cond_false,if_pos ⟨h1,by omega⟩]
     by_cases h6:l>c.runs.getD d.toNat 0
     ·rw [decide_eq_true h6,cond_true]
     ·exact absurd ⟨h1,h2,h3,fun _=>⟨by omega,by omega⟩⟩ hs
   ·exact absurd ⟨h1,h2,h3,fun h=>absurd h hl⟩ hs
theorem zWX {a a':Nat} {inn inn':Bool}: ∀ (m:Nat),m≤c.cells.length→(∀ i,c.cells.length-m≤i→i<c.cells.length→i≠a∧i≠a')→∀ t,(RX c pos a inn m t↔RX c pos a' inn' m t)
 | 0,_,_,t=>Iff.rfl
 | m+1,hm,h,t=>by
  have ih:=zWX (a:=a) (a':=a') (inn:=inn) (inn':=inn') m (by omega) fun i h1 h2=>h i (by omega) h2
  have h0:=h (c.cells.length-1-m) (by omega) (by omega)
  constructor
  ·rintro ⟨b,u,h1,_,h3,h4⟩
   exact ⟨b,u,h1,fun e=>absurd e h0.2,h3,(ih u).1 h4⟩
  ·rintro ⟨b,u,h1,_,h3,h4⟩
   exact ⟨b,u,h1,fun e=>absurd e h0.1,h3,(ih u).2 h4⟩
theorem zNG.zero:zNG c 0 0:=⟨Int.le_refl _,by omega,Int.le_refl _,fun h=>absurd h (Int.lt_irrefl _)⟩
theorem za8 {inn:Bool} (R1:zYz c):RY c pos c.cells.length inn c.cells.length 0 0↔(c.cells.length=0→c.runs.length=0)∧(0<c.cells.length→can c pos 0 true∨can c pos 0 false):=by
 by_cases h0:c.cells.length=0
 ·rw [h0]
  have e:=zWY (c:=c) (d:=0) (l:=0) R1 zNG.zero
  rw [if_neg (Int.lt_irrefl 0)] at e
  constructor
  ·rintro ⟨_,h⟩
   exact ⟨fun _=>by have:=e.1 h;omega,fun h=>absurd h (Nat.lt_irrefl 0)⟩
  ·rintro ⟨h,_⟩
   exact ⟨zNG.zero,e.2 (by have:=h rfl;omega)⟩
 ·obtain ⟨m,hm⟩: ∃ m,c.cells.length=m+1:=⟨c.cells.length-1,by omega⟩
  have hp:0<c.cells.length:=by omega
  have e0:c.cells.length-1-m=0:=by omega
  rw [zYn hp,zYn hp]
  have F: ∀ (inn':Bool) (u:Int×Int),RX c pos c.cells.length inn m u↔RX c pos 0 inn' m u:=fun inn'=>zWX m (by omega) fun i h1 h2=>⟨by omega,by omega⟩
  constructor
  ·rintro ⟨_,h⟩
   refine ⟨fun h=>absurd h h0,fun _=>?_⟩
   have h:RX c pos c.cells.length inn (m+1) (0,0):=by rw [←hm];exact h
   obtain ⟨b,u,h1,_,h3,h4⟩:=h
   rw [hm]
   cases b
   ·exact .inr ⟨false,u,h1,fun _=>rfl,h3,(F _ u).1 h4⟩
   ·exact .inl ⟨true,u,h1,fun _=>rfl,h3,(F _ u).1 h4⟩
  ·rintro ⟨_,h⟩
   refine ⟨zNG.zero,?_⟩
   suffices X:RX c pos c.cells.length inn (m+1) (0,0) by rw [←hm] at X;exact X
   rcases h hp with h | h <;> rw [hm] at h <;> obtain ⟨b,u,h1,_,h3,h4⟩:=h
   ·exact ⟨b,u,h1,fun h=>absurd h (by omega),h3,(F _ u).2 h4⟩
   ·exact ⟨b,u,h1,fun h=>absurd h (by omega),h3,(F _ u).2 h4⟩
theorem zcg {a:Nat} {inn:Bool} (ha:a<c.cells.length):RY c pos a inn c.cells.length 0 0↔can c pos a inn:=by
 rw [zYn ha]
 exact ⟨fun h=>h.2,fun h=>⟨zNG.zero,h⟩⟩
theorem zSY {a s:Nat}:zKg c pos a s↔¬ can c pos a (tb c.set s):=by
 unfold zKg
 cases tb c.set s <;> simp
end
end Go.Proofs.YtekkngkphejfcaaGreatDoor
namespace Go.Proofs.YtekkngkphejfcaaGreatDoor
open Go.RowKit
open Classical
section
variable {q:zAB} {c:zAC} {pos l:List Int} {k:Nat}
theorem zSq {n:Nat} {x:Int} {s:Nat} (hs:s<16):rIn n x (s:Int)=some (tb x s):=by
 unfold rIn zbA
 rw [decide_eq_true (by omega),cond_true,decide_eq_true (by omega),cond_true,if_pos ⟨by omega,by show (s:Int)≤((64:Nat):Int);omega⟩,Int.toNat_natCast]
 refine congrArg some ?_
 have h:=zLz (s:=s) (by omega) x
 have e:bits .and .i64 x (IntKind.i64.wrap (1*2 ^ s))=bits .and .i64 (IntKind.i64.wrap (1*2 ^ s)) x:=by
  refine zHP (zAl _ _ _) (zAl _ _ _) fun t _=>?_
  rw [zCJ,zCJ,Bool.and_comm]
 show (!(bits .and .i64 x (IntKind.i64.wrap (1*2 ^ s))==0))=_
 rw [e,h,Bool.not_not]
def okP (q:zAB) (c:zAC) (s t:Nat):Bool:=bif c.kind==6 then okA q c s t else okN c s t
theorem zSn (H:RW q c pos) {n:Nat} {g:List Int} {s t:Nat} (hk:c.kind=6∨c.kind=7) (h2:c.cells.length=2) (hg:g.length=pos.length) (hs:s<q.symbols.toNat) (ht:t<q.symbols.toNat)
 (gs:g.getD (c.cells.getD 0 0).toNat 0=(s:Int)) (gt:g.getD (c.cells.getD 1 0).toNat 0=(t:Int)):zW0 n q c g=some (okP q c s t):=by
 have c0:=H.W.cells 0 (by omega)
 have c1:=H.W.cells 1 (by omega)
 have hvl:=H.vlen
 have hsy:=H.sy
 obtain ⟨s1,s2,s3⟩:=H.sym hs
 obtain ⟨t1,t2,t3⟩:=H.sym ht
 have v1:=H.V.val s hs
 have v2:=H.V.val t ht
 unfold zW0 zSm okP
 rw [gs,gt]
 rcases hk with hk | hk
 ·rw [hk]
  show (if _ then _ else none)=_
  rw [if_pos ⟨⟨Int.le_refl _,by omega⟩,⟨c0.1,by omega⟩,⟨by omega,by omega⟩,⟨by decide,by omega⟩,⟨c1.1,by omega⟩,by omega,by omega⟩,Int.toNat_natCast,Int.toNat_natCast]
  unfold zXH zPl okA
  rw [if_pos (zAG.2 ⟨by omega,by omega⟩),if_pos (zAG.2 ⟨by omega,by omega⟩)]
  show _=some (decide _)
  by_cases h:q.values.getD s 0-q.values.getD t 0≥c.lo
  ·rw [decide_eq_true h,cond_true,Option.bind_some]
   refine congrArg some (decide_eq_true ?_).symm
   split <;> omega
  ·rw [decide_eq_false h,cond_false,Option.bind_some]
   refine congrArg some ?_
   rw [decide_eq_decide]
   split <;> omega
 ·rw [hk]
  show (if _ then _ else none)=_
  rw [if_pos ⟨⟨Int.le_refl _,by omega⟩,⟨c0.1,by omega⟩,⟨by decide,by omega⟩,c1.1,by omega⟩,zSq s2,zSq t2,zSq t2,zSq s2]
  show _=some (okN c s t)
  unfold okN
  cases tb c.set s <;> cases tb c.set t <;> cases tb c.other s <;> cases tb c.other t <;> rfl
theorem zcK {a b:Nat} (hnd:c.cells.Nodup) (W:zFS c k pos) (ha:a<c.cells.length) (hb:b<c.cells.length) (h:a≠b):(c.cells.getD a 0).toNat≠(c.cells.getD b 0).toNat:=by
 intro e
 have c1:=W.cells a ha
 have c2:=W.cells b hb
 have e2:c.cells.getD a 0=c.cells.getD b 0:=by omega
 rw [List.getD_eq_getElem?_getD,List.getElem?_eq_getElem ha,List.getD_eq_getElem?_getD,List.getElem?_eq_getElem hb] at e2
 have e2:c.cells[a]=c.cells[b]:=e2
 have hp:=List.pairwise_iff_getElem.1 hnd
 rcases Nat.lt_trichotomy a b with h' | h' | h'
 ·exact hp a b ha hb h' e2
 ·exact h h'
 ·exact hp b a hb ha h' e2.symm
def zcU (q:zAB) (c:zAC) (pos:List Int) (a s:Nat) (t:Nat):Bool:=tb (zAI c pos (1-a)) t&&(if a=0 then okP q c s t else okP q c t s)
theorem zPj (H:RW q c pos) (hk:c.kind=6∨c.kind=7) (h2:c.cells.length=2) (hnd:c.cells.Nodup) {a s:Nat} (ha:a<2) (hs:s<q.symbols.toNat): ∀ (k t n:Nat) (g:List Int),t+k=q.symbols.toNat→k<n→g.length=pos.length→
 zDc q c pos (a:Int) (s:Int) n (.l1 (t:Int) g)=some (zYu (zcU q c pos a s) k t)
 | 0,t,n+1,g,e,_,_=>by
  have:=H.sy
  show zEP n (zDc q c pos a s n) q c pos a s (t:Int) g=_
  unfold zEP
  rw [decide_eq_false (by omega),cond_false];rfl
 | k+1,t,n+1,g,e,hn,hg=>by
  have hsy:=H.sy
  have ht:t<q.symbols.toNat:=by omega
  obtain ⟨t1,t2,t3⟩:=H.sym ht
  have k16:=H.W.k
  have ca:=H.W.cells a (by omega)
  have cb:=H.W.cells (1-a) (by omega)
  have hx:=H.W.at (a:=1-a) (by omega)
  have e1:(1-(a:Int)).toNat=1-a:=by omega
  have hne:=zcK (a:=a) (b:=1-a) hnd H.W (by omega) (by omega) (by omega)
  have r1:R64 ((t:Int)+1):=zAG.2 ⟨by omega,by omega⟩
  show zEP n (zDc q c pos a s n) q c pos a s (t:Int) g=_
  unfold zEP
  simp only [Int.toNat_natCast,e1,Nat.zero_add]
  generalize hg':(g.set (c.cells.getD a 0).toNat (s:Int)).set (c.cells.getD (1-a) 0).toNat (t:Int)=g'
  have hl:g'.length=pos.length:=by rw [←hg',List.length_set,List.length_set,hg]
  have ga:g'.getD (c.cells.getD a 0).toNat 0=(s:Int):=by rw [←hg',getD_set_ne hne.symm,zAk (by omega)]
  have gb:g'.getD (c.cells.getD (1-a) 0).toNat 0=(t:Int):=by rw [←hg',zAk (by rw [List.length_set];omega)]
  have ih:=zPj H hk h2 hnd ha hs k (t+1) n g' (by omega) (by omega) hl
  have ih:zDc q c pos (a:Int) (s:Int) n (.l1 ((t:Int)+1) g')=_:=ih
  have e0:zPa n (pos.getD (c.cells.getD (1-a) 0).toNat 0) (t:Int)=some (tb (zAI c pos (1-a)) t):=zE1 hx (by omega) (by omega)
  have em:zW0 n q c g'=some (if a=0 then okP q c s t else okP q c t s):=by
   by_cases h0:a=0
   ·subst h0
    rw [if_pos rfl]
    exact zSn H hk h2 hl hs ht ga gb
   ·have:a=1:=by omega
    subst this
    rw [if_neg h0]
    exact zSn H hk h2 hl ht hs gb ga
  rw [decide_eq_true t1,cond_true,if_pos ⟨⟨by omega,by omega⟩,ca,by omega,cb,by rw [List.length_set];omega⟩,e0,Option.bind_some,if_pos hl.symm,em,Option.bind_some,if_pos r1,ih]
  show _=some ((tb (zAI c pos (1-a)) t&&(if a=0 then okP q c s t else okP q c t s))||zYu _ k (t+1))
  cases tb (zAI c pos (1-a)) t
  ·rfl
  ·generalize (if a=0 then okP q c s t else okP q c t s)=b
   cases b <;> rfl
theorem zMm (H:RW q c pos) (hk:c.kind=6∨c.kind=7) (h2:c.cells.length=2) (hnd:c.cells.Nodup) {a s:Nat} (ha:a<2) (hs:s<q.symbols.toNat):Ev (fun n=>zIl n q c pos (a:Int) (s:Int)) (zYu (zcU q c pos a s) q.symbols.toNat 0):=by
 have h256:=H.h256
 refine ⟨q.symbols.toNat+1,fun n hn=>?_⟩
 show zIl n q c pos (a:Int) (s:Int)=_
 unfold zIl zMl
 rw [if_pos ⟨⟨rfl,by omega,by omega⟩,zAG.2 ⟨by omega,by omega⟩,by omega,by omega⟩]
 exact zPj H hk h2 hnd ha hs _ 0 n _ (by omega) (by omega) zL8
theorem zTB (H:RW q c pos) (h2:c.cells.length=2) {a s:Nat} (ha:a<2):zYu (zcU q c pos a s) q.symbols.toNat 0=false↔zHC (okP q c) c pos a s:=by
 rw [←Bool.not_eq_true,zOW]
 unfold zHC zcU
 simp only [Bool.and_eq_true]
 by_cases h0:a=0
 ·subst h0
  rw [if_pos rfl]
  refine not_congr ⟨fun ⟨t,_,_,h3,h4⟩=>⟨t,h3,by rw [if_pos rfl] at h4;exact h4⟩,fun ⟨t,h3,h4⟩=>⟨t,Nat.zero_le _,by have:=H.low (H.W.at (by omega)) h3;omega,h3,by rw [if_pos rfl];exact h4⟩⟩
 ·have:a=1:=by omega
  subst this
  rw [if_neg h0]
  refine not_congr ⟨fun ⟨t,_,_,h3,h4⟩=>⟨t,h3,by rw [if_neg h0] at h4;exact h4⟩,fun ⟨t,h3,h4⟩=>⟨t,Nat.zero_le _,by have:=H.low (H.W.at (by omega)) h3;omega,h3,by rw [if_neg h0];exact h4⟩⟩
def zcQ (n:Nat) (q:zAB) (c:zAC) (pos:List Int) (a s:Int):Option Bool:=
 bif c.kind==4 then zGp n q c pos 0 (-1) a s else bif c.kind==5 then (zPa n c.set s).bind fun y1=>zDZ n c pos 0 0 0 a y1 else zIl n q c pos a s
def zXE (q:zAB) (c:zAC) (pos:List Int) (F:Nat→Nat→Bool) (i j s:Nat):Prop:=∃ a,a<i∧(c.cells.getD a 0).toNat=j∧s<q.symbols.toNat∧tb (zAI c pos a) s=true∧F a s=false
theorem zE4 (H:RW q c pos) {F:Nat→Nat→Bool} (hF: ∀ a s,a<c.cells.length→s<q.symbols.toNat→Ev (fun n=>zcQ n q c pos (a:Int) (s:Int)) (F a s)):PEv (fun n=>zGS n q c pos) (RL pos (zXE q c pos F c.cells.length)):=by
 have W:=H.W
 have hlen:=W.len
 have h256:=H.h256
 have k16:=W.k
 have hsy:=H.sy
 have ek:((q.symbols.toNat:Nat):Int)=q.symbols:=by omega
 obtain ⟨l,hl,g⟩:=zD7 (m:=zAY q c pos) (fun i (l:List Int)=>.l1 l (i:Int)) (fun i l=>RL pos (zXE q c pos F i) l) c.cells.length (fun i l hi hI=>by
  have hc:=W.cells i hi
  have hx:=W.at hi
  obtain ⟨l',hl',g3⟩:=zD7 (m:=zAY q c pos) (fun s (l:List Int)=>.l2 l (i:Int) (s:Int)) (fun s l=>RL pos (fun j t=>zXE q c pos F i j t∨((c.cells.getD i 0).toNat=j∧t<s∧tb (zAI c pos i) t=true∧F i t=false)) l) q.symbols.toNat (fun s l hs hI=>by
   obtain ⟨s1,s2,s3⟩:=H.sym hs
   have r1:R64 ((s:Int)+1):=zAG.2 ⟨by omega,by omega⟩
   obtain ⟨N,hN⟩:=hF i s hi hs
   have G2: ∀ l,zA3 (zAY q c pos) (.l2 l (i:Int) (s:Int)) (.l3 l (i:Int) (s:Int) (F i s)):=fun l=>zA3.oneN N fun n hn=>by
    have h:=hN n hn
    have h:zcQ n q c pos (i:Int) (s:Int)=_:=h
    unfold zcQ at h
    show zDa n (zAY q c pos n) q c pos l (i:Int) (s:Int)=_
    unfold zDa
    rw [decide_eq_true s1,cond_true]
    cases e4:(c.kind==4)
    ·rw [e4,cond_false] at h
     rw [cond_false]
     cases e5:(c.kind==5)
     ·rw [e5,cond_false] at h
      rw [cond_false,h,Option.bind_some]
     ·rw [e5,cond_true] at h
      rw [cond_true]
      cases e6:zPa n c.set (s:Int) with
      | none=>rw [e6] at h;cases h
      | some b=>rw [e6,Option.bind_some] at h;rw [Option.bind_some,h,Option.bind_some]
    ·rw [e4,cond_true] at h
     rw [cond_true,h,Option.bind_some]
   have U: ∀ n,zAY q c pos (n+1) (.l3 l (i:Int) (s:Int) (F i s))=bif tb (zAI c pos i) s&&!F i s then (zEM n l (c.cells.getD i 0) (IntKind.i64.wrap (1*2 ^ s))).bind fun y=>zAY q c pos n (.l4 y (i:Int) (s:Int)) else zAY q c pos n (.l4 l (i:Int) (s:Int)):=fun n=>by
    have e0:zPa n (pos.getD (c.cells.getD i 0).toNat 0) (s:Int)=some (tb (zAI c pos i) s):=zE1 hx (by omega) (by omega)
    show zG8 n (zAY q c pos n) q c pos l (i:Int) (s:Int) (F i s)=_
    unfold zG8
    simp only [Int.toNat_natCast]
    rw [if_pos ⟨⟨by omega,by omega⟩,hc⟩,e0,Option.bind_some,if_pos s3]
    cases tb (zAI c pos i) s <;> cases F i s <;> rfl
   have G4: ∀ l',zA3 (zAY q c pos) (.l4 l' (i:Int) (s:Int)) (.l2 l' (i:Int) ((s+1:Nat):Int)):=fun l'=>zA3.one fun n=>by
    show zG7 n (zAY q c pos n) q c pos l' (i:Int) (s:Int)=_
    unfold zG7
    rw [if_pos r1];rfl
   cases hB:(tb (zAI c pos i) s&&!F i s)
   ·refine ⟨l,hI.congr fun j t=>?_,(G2 l).trans ((zA3.one fun n=>by rw [U n,hB,cond_false]).trans (G4 l))⟩
    constructor
    ·rintro (h | ⟨h1,h2,h3,h4⟩)
     ·exact .inl h
     ·rcases Nat.lt_succ_iff_lt_or_eq.1 h2 with h2 | rfl
      ·exact .inr ⟨h1,h2,h3,h4⟩
      ·rw [h3,h4] at hB;cases hB
    ·rintro (h | ⟨h1,h2,h3⟩)
     ·exact .inl h
     ·exact .inr ⟨h1,by omega,h3⟩
   ·obtain ⟨l1,f1,hL1⟩:=hI.lose h256 (ss:=IntKind.i64.wrap (1*2 ^ s)) hc.1 hc.2
    have hB':=hB
    rw [Bool.and_eq_true,Bool.not_eq_true'] at hB'
    refine ⟨l1,hL1.congr fun j t=>?_,(G2 l).trans ((zA3.one fun n=>by rw [U n,hB,cond_true,f1,Option.bind_some]).trans (G4 l1))⟩
    rw [zGl (by omega),decide_eq_true_iff]
    constructor
    ·rintro (h | ⟨h1,h2,h3,h4⟩)
     ·exact .inl (.inl h)
     ·rcases Nat.lt_succ_iff_lt_or_eq.1 h2 with h2 | rfl
      ·exact .inl (.inr ⟨h1,h2,h3,h4⟩)
      ·exact .inr ⟨by omega,rfl⟩
    ·rintro ((h | ⟨h1,h2,h3⟩) | ⟨h1,rfl⟩)
     ·exact .inl h
     ·exact .inr ⟨h1,by omega,h3⟩
     ·exact .inr ⟨by omega,by omega,hB'.1,hB'.2⟩) q.symbols.toNat 0 l (by omega) (hI.congr fun j t=>⟨fun h=>h.elim id fun h=>absurd h.2.1 (Nat.not_lt_zero t),.inl⟩)
  refine ⟨l',hl'.congr fun j s=>?_,(zA3.one (b:=.l2 l (i:Int) ((0:Nat):Int)) fun n=>?_).trans (g3.trans (zA3.one fun n=>?_))⟩
  ·constructor
   ·rintro ⟨a,h1,h2,h3,h4,h5⟩
    rcases Nat.lt_succ_iff_lt_or_eq.1 h1 with h1 | rfl
    ·exact .inl ⟨a,h1,h2,h3,h4,h5⟩
    ·exact .inr ⟨h2,h3,h4,h5⟩
   ·rintro (⟨a,h1,h2,h3⟩ | ⟨h2,h3⟩)
    ·exact ⟨a,by omega,h2,h3⟩
    ·exact ⟨i,by omega,h2,h3⟩
  ·show zDb n (zAY q c pos n) q c pos l (i:Int)=_
   unfold zDb
   rw [decide_eq_true (by omega),cond_true];rfl
  ·show zDa n (zAY q c pos n) q c pos l' (i:Int) ((q.symbols.toNat:Nat):Int)=_
   unfold zDa
   rw [ek,decide_eq_false (by omega),cond_false,if_pos (zAG.2 ⟨by omega,by omega⟩)];rfl) c.cells.length 0 (List.replicate pos.length 0) (by omega) ((RL.zero pos).congr fun j s=>⟨fun ⟨a,h,_⟩=>absurd h (Nat.not_lt_zero a),fun h=>h.elim⟩)
 refine ((g.ev (Ev.one (r:=l) fun n=>?_)).p hl).eq fun n=>?_
 ·show zDb n (zAY q c pos n) q c pos l (c.cells.length:Int)=_
  unfold zDb
  rw [decide_eq_false (by omega),cond_false]
 ·unfold zGS zLA
  rw [if_pos ⟨zL8.symm,rfl,by omega,by omega⟩];rfl
end
end Go.Proofs.YtekkngkphejfcaaGreatDoor
namespace Go.Proofs.YtekkngkphejfcaaGreatDoor
open Go.RowKit
section
variable {q:zAB} {c:zAC} {pos l:List Int} {g:List (List Int)} {inn:List Bool} {s:Int}
theorem zc7 {l:List Int} {j:Nat} (hj:j<l.length):l.getD j 0∈l:=by
 rw [List.getD_eq_getElem?_getD,List.getElem?_eq_getElem hj];exact List.getElem_mem hj
structure Mk (g:List (List Int)) (inn:List Bool) (s:Int) (o:List Bool):Prop where
 len:o.length=g.length
 start:o.getD s.toNat false=true
 sub: ∀ v:Nat,v<g.length→o.getD v false=true→Rc g inn s v
def Cl (g:List (List Int)) (inn o:List Bool) (u:Nat):Prop:=o.getD u false=true→∀ v∈nb g u,inn.getD v.toNat false=true→o.getD v.toNat false=true
def Ps (g:List (List Int)) (inn:List Bool) (s:Int) (o0:List Bool) (C:List Bool→Prop) (x:Bool×List Bool):Prop:=Mk g inn s x.2∧(x.1=false→x.2=o0∧C o0)∧(x.1=true→zHN x.2<zHN o0)
theorem zeJ (G:Gr g) (hI:inn.length=g.length) {o0:List Bool} (hM:Mk g inn s o0): ∃ x:Bool×List Bool,Ps g inn s o0 (fun o=>∀ u,u<g.length→Cl g inn o u) x∧zA3 (zBF g inn s) (.l1 true o0) (.l1 x.1 x.2):=by
 have hlen:=G.len
 obtain ⟨x,hx,g1⟩:=zD7 (m:=zBF g inn s) (fun i (x:Bool×List Bool)=>.l2 x.1 (i:Int) x.2) (fun i x=>Ps g inn s o0 (fun o=>∀ u,u<i→Cl g inn o u) x) g.length (fun i x hi hx=>by
  have hrow:=G.row i (by omega) (by omega)
  obtain ⟨x',hx',g2⟩:=zD7 (m:=zBF g inn s) (fun j (x:Bool×List Bool)=>.l3 x.1 (i:Int) (j:Int) x.2) (fun j x=>Ps g inn s o0 (fun o=>(∀ u,u<i→Cl g inn o u)∧(o.getD i false=true→∀ j',j'<j→inn.getD ((nb g i).getD j' 0).toNat false=true→o.getD ((nb g i).getD j' 0).toNat false=true)) x) (nb g i).length (fun j x hj hx=>by
   obtain ⟨b,o⟩:=x
   obtain ⟨h1,h2,h3⟩:=hx
   have h1:Mk g inn s o:=h1
   have h2:b=false→o=o0∧_:=h2
   have h3:b=true→zHN o<zHN o0:=h3
   have hv:=G.rng i (by omega) (by omega) _ (zc7 hj)
   have hol:=h1.len
   have r1:R64 ((j:Int)+1):=zAG.2 ⟨by omega,by omega⟩
   have e1:nb g (i:Int)=g.getD i []:=by unfold nb;rw [Int.toNat_natCast]
   have U: ∀ n,zBF g inn s (n+1) (.l3 b (i:Int) (j:Int) o)=bif o.getD i false&&inn.getD ((nb g i).getD j 0).toNat false&&!o.getD ((nb g i).getD j 0).toNat false then zBF g inn s n (.l3 true (i:Int) ((j:Int)+1) (o.set ((nb g i).getD j 0).toNat true)) else zBF g inn s n (.l3 b (i:Int) ((j:Int)+1) o):=fun n=>by
    show zFi n (zBF g inn s n) g inn s b (i:Int) (j:Int) o=_
    unfold zFi
    simp only [Int.toNat_natCast,Nat.zero_add,←e1]
    rw [if_pos ⟨by omega,by omega⟩,decide_eq_true (by omega),cond_true,if_pos (by omega),if_pos ⟨⟨by omega,by omega⟩,hv.1,by omega⟩,if_pos r1,if_pos r1,if_pos ⟨hv,by omega⟩]
    cases o.getD i false <;> cases inn.getD ((nb g i).getD j 0).toNat false <;> cases o.getD ((nb g i).getD j 0).toNat false <;> rfl
   cases hB:(o.getD i false&&inn.getD ((nb g i).getD j 0).toNat false&&!o.getD ((nb g i).getD j 0).toNat false)
   ·refine ⟨(b,o),⟨h1,fun hb=>?_,h3⟩,zA3.one fun n=>by rw [U n,hB,cond_false];rfl⟩
    obtain ⟨rfl,h4,h5⟩:=h2 hb
    refine ⟨rfl,h4,fun ho j' hj' hin=>?_⟩
    rcases Nat.lt_succ_iff_lt_or_eq.1 hj' with hj' | rfl
    ·exact h5 ho j' hj' hin
    ·rw [ho,hin] at hB
     simpa using hB
   ·rw [Bool.and_eq_true,Bool.and_eq_true,Bool.not_eq_true'] at hB
    obtain ⟨⟨p1,p2⟩,p3⟩:=hB
    refine ⟨(true,o.set ((nb g i).getD j 0).toNat true),⟨⟨by rw [List.length_set];exact hol,?_,fun v hvl hvm=>?_⟩,fun hb=>(by cases hb),fun _=>?_⟩,zA3.one fun n=>by rw [U n,p1,p2,p3];rfl⟩
    ·rw [zDC (by omega)]
     split
     ·rfl
     ·exact h1.start
    ·rw [zDC (by omega)] at hvm
     split at hvm
     ·rename_i e
      have hst:=Rc.step (h1.sub i hi p1) (zc7 hj) p2
      rw [show ((v:Nat):Int)=(nb g i).getD j 0 by omega];exact hst
     ·exact h1.sub v hvl hvm
    ·have:=zIN o ((nb g i).getD j 0).toNat (by omega) p3
     cases b
     ·obtain ⟨rfl,_⟩:=h2 rfl
      show zHN (o.set _ true)<zHN o
      omega
     ·have:=h3 rfl
      show zHN (o.set _ true)<zHN o0
      omega) (nb g i).length 0 x (by omega) ⟨hx.1,fun h=>⟨(hx.2.1 h).1,(hx.2.1 h).2,fun _ j' hj'=>absurd hj' (Nat.not_lt_zero j')⟩,hx.2.2⟩
  have e1:nb g (i:Int)=g.getD i []:=by unfold nb;rw [Int.toNat_natCast]
  refine ⟨x',⟨hx'.1,fun h=>⟨(hx'.2.1 h).1,fun u hu=>?_⟩,hx'.2.2⟩,(zA3.one (b:=.l3 x.1 (i:Int) ((0:Nat):Int) x.2) fun n=>?_).trans (g2.trans (zA3.one fun n=>?_))⟩
  ·obtain ⟨h4,h5,h6⟩:=hx'.2.1 h
   rcases Nat.lt_succ_iff_lt_or_eq.1 hu with hu | rfl
   ·exact h5 u hu
   ·intro ho v hv hin
    obtain ⟨j,hj,rfl⟩:=List.getElem_of_mem hv
    have ev:(nb g u).getD j 0=(nb g u)[j]:=by rw [List.getD_eq_getElem?_getD,List.getElem?_eq_getElem hj];rfl
    have:=h6 ho j hj
    rw [ev] at this
    exact this hin
  ·show zFj n (zBF g inn s n) g inn s x.1 (i:Int) x.2=_
   unfold zFj
   rw [decide_eq_true (by omega),cond_true];rfl
  ·show zFi n (zBF g inn s n) g inn s x'.1 (i:Int) ((nb g i).length:Int) x'.2=_
   unfold zFi
   rw [if_pos ⟨by omega,by omega⟩,decide_eq_false (by rw [Int.toNat_natCast,←e1];omega),cond_false,if_pos (zAG.2 ⟨by omega,by omega⟩)];rfl) g.length 0 (false,o0) (by omega) ⟨hM,fun _=>⟨rfl,fun u hu=>absurd hu (Nat.not_lt_zero u)⟩,fun h=>(by cases h)⟩
 refine ⟨x,hx,(zA3.one (b:=.l2 false ((0:Nat):Int) o0) fun n=>rfl).trans (g1.trans (zA3.one fun n=>?_))⟩
 show zFj n (zBF g inn s n) g inn s x.1 (g.length:Int) x.2=_
 unfold zFj
 rw [decide_eq_false (by omega),cond_false]
theorem zZi (G:Gr g) (hI:inn.length=g.length): ∀ (z:Nat) (o0:List Bool),zHN o0≤z→Mk g inn s o0→∃ o,(Mk g inn s o∧∀ u,u<g.length→Cl g inn o u)∧zA3 (zBF g inn s) (.l1 true o0) (.l1 false o):=by
 intro z
 induction z with
 | zero=>
  intro o0 hz hM
  obtain ⟨⟨b,o⟩,hx,h2⟩:=zeJ G hI hM
  cases b
  ·obtain ⟨e,h⟩:=hx.2.1 rfl
   have e:o=o0:=e
   subst e
   exact ⟨o,⟨hM,h⟩,h2⟩
  ·have:zHN o<zHN o0:=hx.2.2 rfl
   omega
 | succ z ih=>
  intro o0 hz hM
  obtain ⟨⟨b,o⟩,hx,h2⟩:=zeJ G hI hM
  cases b
  ·obtain ⟨e,h⟩:=hx.2.1 rfl
   have e:o=o0:=e
   subst e
   exact ⟨o,⟨hM,h⟩,h2⟩
  ·have:zHN o<zHN o0:=hx.2.2 rfl
   obtain ⟨o',h3,h4⟩:=ih o (by omega) hx.1
   exact ⟨o',h3,h2.trans h4⟩
def RcL (g:List (List Int)) (inn:List Bool) (s:Int) (o:List Bool):Prop:=o.length=g.length∧∀ v:Nat,v<g.length→(o.getD v false=true↔Rc g inn s v)
theorem zK1 (G:Gr g) (hI:inn.length=g.length) (h0:0≤s) (h1:s<(g.length:Int)):PEv (fun n=>zFk n g inn s) (RcL g inn s):=by
 have hlen:=G.len
 have hM:Mk g inn s ((List.replicate g.length false).set s.toNat true):=by
  refine ⟨by simp,?_,fun v hv hvm=>?_⟩
  ·rw [zDC (by simp;omega),if_pos rfl]
  ·rw [zDC (by simp;omega)] at hvm
   split at hvm
   ·rw [show ((v:Nat):Int)=s by omega];exact .start
   ·rw [List.getD_eq_getElem?_getD,List.getElem?_replicate] at hvm
    split at hvm <;> cases hvm
 obtain ⟨o,⟨h2,h3⟩,h4⟩:=zZi G hI _ _ (Nat.le_refl _) hM
 have all: ∀ v:Int,Rc g inn s v→o.getD v.toNat false=true:=fun v hv=>by
  induction hv with
  | start=>exact h2.start
  | step h hb hi ih=>
   have hr:=h.rng G h0 h1
   refine h3 _ (by omega) ih _ ?_ hi
   unfold nb at hb ⊢
   rw [Int.toNat_natCast];exact hb
 refine ((h4.ev (Ev.one (r:=o) fun n=>?_)).p ⟨h2.len,fun v hv=>⟨h2.sub v hv,fun h=>by have:=all v h;rw [Int.toNat_natCast] at this;exact this⟩⟩).eq fun n=>?_
 ·show zK0 n (zBF g inn s n) g inn s false o=_
  unfold zK0
  rw [cond_false,if_pos h2.len.symm]
 ·unfold zFk zPT
  rw [if_pos ⟨⟨rfl,by omega,by omega⟩,⟨h0,h1⟩,by rw [List.length_replicate];omega⟩,Nat.zero_add]
theorem zNr (hI:inn.length≤256): ∀ (k i:Nat) (o:List Int),i+k=inn.length→o.length≤i→o≠[]→∃ l,(l.length≤inn.length∧∀ v:Int,v∈l↔v∈o∨((i:Int)≤v∧v<(inn.length:Int)∧inn.getD v.toNat false=true))∧∀ n,k<n→zDG inn n (.l2 o.length (i:Int) o)=some l
 | 0,i,o,e,ho,_=>by
  refine ⟨o,⟨by omega,fun v=>⟨.inl,fun h=>h.elim id fun h=>absurd h.1 (by omega)⟩⟩,fun n hn=>?_⟩
  obtain ⟨n,rfl⟩: ∃ m,n=m+1:=⟨n-1,by omega⟩
  show zEy n (zDG inn n) inn o.length (i:Int) o=_
  unfold zEy
  rw [decide_eq_false (by omega),cond_false,if_pos rfl]
 | k+1,i,o,e,ho,hne=>by
  have L:LIM=1000000000000:=rfl
  have r1:R64 ((i:Int)+1):=zAG.2 ⟨by omega,by omega⟩
  cases hb:inn.getD i false
  ·obtain ⟨l,⟨h2,h3⟩,h1⟩:=zNr hI k (i+1) o (by omega) (by omega) hne
   refine ⟨l,⟨h2,fun v=>?_⟩,fun n hn=>?_⟩
   ·rw [h3]
    refine or_congr Iff.rfl ⟨fun h=>⟨by omega,h.2⟩,fun h=>⟨?_,h.2⟩⟩
    by_cases e2:v=(i:Int)
    ·subst e2
     have:=h.2.2
     rw [Int.toNat_natCast,hb] at this;cases this
    ·omega
   ·obtain ⟨n,rfl⟩: ∃ m,n=m+1:=⟨n-1,by omega⟩
    show zEy n (zDG inn n) inn o.length (i:Int) o=_
    unfold zEy
    rw [decide_eq_true (by omega),cond_true,if_pos ⟨by omega,by omega⟩,Int.toNat_natCast,hb,cond_false,if_pos r1]
    exact h1 n (by omega)
  ·obtain ⟨l,⟨h2,h3⟩,h1⟩:=zNr hI k (i+1) (o++[(i:Int)]) (by omega) (by simp;omega) (by simp)
   rw [List.length_append] at h1
   refine ⟨l,⟨h2,fun v=>?_⟩,fun n hn=>?_⟩
   ·rw [h3,List.mem_append,List.mem_singleton]
    constructor
    ·rintro ((h | rfl) | h)
     ·exact .inl h
     ·exact .inr ⟨by omega,by omega,by rw [Int.toNat_natCast];exact hb⟩
     ·exact .inr ⟨by omega,h.2⟩
    ·rintro (h | h)
     ·exact .inl (.inl h)
     ·by_cases e2:v=(i:Int)
      ·exact .inl (.inr e2)
      ·exact .inr ⟨by omega,h.2⟩
   ·obtain ⟨n,rfl⟩: ∃ m,n=m+1:=⟨n-1,by omega⟩
    show zEy n (zDG inn n) inn o.length (i:Int) o=_
    unfold zEy
    rw [decide_eq_true (by omega),cond_true,if_pos ⟨by omega,by omega⟩,Int.toNat_natCast,hb,cond_true,if_pos ⟨⟨⟨rfl,rfl⟩,⟨rfl,rfl⟩,by show o.length+1≤_;omega⟩,r1⟩]
    exact h1 n (by omega)
theorem zPX (hI:inn.length≤256): ∀ (k i:Nat),i+k=inn.length→∃ l,(l.length≤inn.length∧∀ v:Int,v∈l↔((i:Int)≤v∧v<(inn.length:Int)∧inn.getD v.toNat false=true))∧∀ n,k<n→zDG inn n (.l1 (i:Int))=some l
 | 0,i,e=>by
  refine ⟨[],⟨by simp,fun v=>⟨fun h=>(by cases h),fun h=>absurd h.1 (by omega)⟩⟩,fun n hn=>?_⟩
  obtain ⟨n,rfl⟩: ∃ m,n=m+1:=⟨n-1,by omega⟩
  show zEz n (zDG inn n) inn (i:Int)=_
  unfold zEz
  rw [decide_eq_false (by omega),cond_false]
 | k+1,i,e=>by
  have L:LIM=1000000000000:=rfl
  have r1:R64 ((i:Int)+1):=zAG.2 ⟨by omega,by omega⟩
  cases hb:inn.getD i false
  ·obtain ⟨l,⟨h2,h3⟩,h1⟩:=zPX hI k (i+1) (by omega)
   refine ⟨l,⟨h2,fun v=>?_⟩,fun n hn=>?_⟩
   ·rw [h3]
    refine ⟨fun h=>⟨by omega,h.2⟩,fun h=>⟨?_,h.2⟩⟩
    by_cases e2:v=(i:Int)
    ·subst e2
     have:=h.2.2
     rw [Int.toNat_natCast,hb] at this;cases this
    ·omega
   ·obtain ⟨n,rfl⟩: ∃ m,n=m+1:=⟨n-1,by omega⟩
    show zEz n (zDG inn n) inn (i:Int)=_
    unfold zEz
    rw [decide_eq_true (by omega),cond_true,if_pos ⟨by omega,by omega⟩,Int.toNat_natCast,hb,cond_false,if_pos r1]
    exact h1 n (by omega)
  ·obtain ⟨l,⟨h2,h3⟩,h1⟩:=zNr hI k (i+1) [(i:Int)] (by omega) (by simp) (by simp)
   refine ⟨l,⟨h2,fun v=>?_⟩,fun n hn=>?_⟩
   ·rw [h3,List.mem_singleton]
    constructor
    ·rintro (rfl | h)
     ·exact ⟨by omega,by omega,by rw [Int.toNat_natCast];exact hb⟩
     ·exact ⟨by omega,h.2⟩
    ·intro h
     by_cases e2:v=(i:Int)
     ·exact .inl e2
     ·exact .inr ⟨by omega,h.2⟩
   ·obtain ⟨n,rfl⟩: ∃ m,n=m+1:=⟨n-1,by omega⟩
    show zEz n (zDG inn n) inn (i:Int)=_
    unfold zEz
    rw [decide_eq_true (by omega),cond_true,if_pos ⟨by omega,by omega⟩,Int.toNat_natCast,hb,cond_true,if_pos ⟨⟨⟨rfl,rfl⟩,by show 0<1;omega,by show 1≤_;omega⟩,r1⟩]
    exact h1 n (by omega)
theorem zPP (G:zY6 g):Ev (fun n=>zJV n g) 0:=⟨2*wid g+1,fun n hn=>by
 show zJV n g=_
 rw [zPQ G.row hn,G.ok];rfl⟩
theorem RcL.uniq {x x':List Bool} (h:RcL g inn s x) (h':RcL g inn s x'):x=x':=
 zKC (h.1.trans h'.1.symm) fun j hj=>by rw [Bool.eq_iff_iff,h.2 j (by rw [←h.1];exact hj),h'.2 j (by rw [←h.1];exact hj)]
theorem zNz (G:zY6 g) (hI:inn.length=g.length) (h0:0≤s) (h1:s<(g.length:Int)) (hs:inn.getD s.toNat false=true): ∃ l,Ev (fun n=>zEO n g inn s) (l,0)∧l.length≤256∧∀ v,v∈l↔Rc g inn s v:=by
 have hlen:=G.gr.len
 obtain ⟨y2,⟨hl,hy⟩,he⟩:=(zK1 G.gr hI h0 h1).ev fun _ _ h h'=>h.uniq h'
 obtain ⟨l,⟨h4,h5⟩,h3⟩:=zPX (inn:=y2) (by omega) y2.length 0 (by omega)
 refine ⟨l,?_,by omega,fun v=>?_⟩
 ·show Ev (fun n=>zE3 n g inn s) _
  refine Ev.bind (b:=fun n (y1:Int)=>bif (y1 != 0) then some (([]:List Int),120) else _) (zPP G) ?_
  refine Ev.eq (g:=fun n=>(zFk n g inn s).bind fun y2=>(zbw n y2).bind fun y3=>some (y3,(0:Int))) (Ev.bind he (Ev.bind (x:=l) ⟨y2.length+1,fun n hn=>h3 n (by omega)⟩ (Ev.now fun n=>rfl))) fun n=>?_
  rw [show ((0:Int) != 0)=false from rfl,cond_false,show ((inn.length:Int) != (g.length:Int))=false by simp;omega,cond_false,decide_eq_false (by omega),cond_false,decide_eq_false (by omega),cond_false,if_pos ⟨h0,by omega⟩,hs];rfl
 ·rw [h5]
  constructor
  ·intro h
   have:=(hy v.toNat (by omega)).1 h.2.2
   rw [show ((v.toNat:Nat):Int)=v by omega] at this;exact this
  ·intro h
   have hr:=h.rng G.gr h0 h1
   refine ⟨by omega,by omega,(hy v.toNat (by omega)).2 ?_⟩
   rw [show ((v.toNat:Nat):Int)=v by omega];exact h
theorem zRM {n:Nat} (hI:inn.length≤256) {a:Nat} (ha:a<inn.length):zJv n inn (a:Int)=some (inn.set a false):=by
 have L:LIM=1000000000000:=rfl
 unfold zJv zKv
 simp only [List.nil_append,List.length_nil,Nat.zero_add,Int.toNat_natCast]
 rw [if_pos ⟨⟨trivial,⟨trivial,trivial⟩,by omega⟩,⟨by omega,by omega⟩,ha⟩,if_pos (by rw [List.length_set])]
def SpU (g:List (List Int)) (inn some':List Bool) (a u v:Nat):Prop:=u<g.length∧v<g.length∧u≠a∧v≠a∧inn.getD u false=true∧some'.getD u false=true∧inn.getD v false=true∧some'.getD v false=true∧Rc g inn u v∧¬ Rc g (inn.set a false) u v
variable {some':List Bool}
theorem zMc (G:Gr g) (hI:inn.length=g.length) (hS:some'.length=g.length) {a i:Nat} {x y:List Bool} (hi:i<g.length) (hia:i≠a) (hin:inn.getD i false=true) (his:some'.getD i false=true) (hx:RcL g inn i x) (hy:RcL g (inn.set a false) i y) {P:Prop}
 (hP:PEv (fun n=>zAc g inn some' (a:Int) n (.l1 ((i:Int)+1))) (fun r=>r.1=true↔P)): ∀ (k j:Nat),j+k=g.length→PEv (fun n=>zAc g inn some' (a:Int) n (.l2 (i:Int) x y (j:Int))) (fun r=>r.1=true↔(∃ v,j≤v∧SpU g inn some' a i v)∨P)
 | 0,j,e=>by
  have hlen:=G.len
  refine PEv.step 1 (fun n=>?_) (hP.mono fun r hr=>hr.trans ⟨.inr,fun h=>h.elim (fun ⟨v,h1,h2⟩=>absurd h2.2.1 (by omega)) id⟩)
  show zEH n (zAc g inn some' (a:Int) n) g inn some' (a:Int) (i:Int) x y (j:Int)=_
  unfold zEH
  rw [decide_eq_false (by omega),cond_false,if_pos (zAG.2 ⟨by omega,by omega⟩)]
 | k+1,j,e=>by
  have hlen:=G.len
  have ih:=zMc G hI hS hi hia hin his hx hy hP k (j+1) (by omega)
  have r1:R64 ((j:Int)+1):=zAG.2 ⟨by omega,by omega⟩
  have hxl:=hx.1
  have hyl:=hy.1
  have U: ∀ n,zAc g inn some' (a:Int) (n+1) (.l2 (i:Int) x y (j:Int))=bif !decide (j=a)&&inn.getD j false&&some'.getD j false&&x.getD j false&&!y.getD j false then some (true,0) else zAc g inn some' (a:Int) n (.l2 (i:Int) x y ((j+1:Nat):Int)):=fun n=>by
   show zEH n (zAc g inn some' (a:Int) n) g inn some' (a:Int) (i:Int) x y (j:Int)=_
   have e2:((j:Int) != (a:Int))= !decide (j=a):=by
    by_cases h:j=a
    ·subst h;simp
    ·rw [decide_eq_false h];simp;omega
   unfold zEH
   rw [decide_eq_true (by omega),cond_true,e2,if_pos ⟨by omega,by omega⟩,if_pos ⟨by omega,by omega⟩,if_pos ⟨by omega,by omega⟩,if_pos ⟨by omega,by omega⟩,if_pos r1,Int.toNat_natCast]
   cases decide (j=a) <;> cases inn.getD j false <;> cases some'.getD j false <;> cases x.getD j false <;> cases y.getD j false <;> rfl
  have X:(!decide (j=a)&&inn.getD j false&&some'.getD j false&&x.getD j false&&!y.getD j false)=true↔SpU g inn some' a i j:=by
   simp only [Bool.and_eq_true,Bool.not_eq_true',decide_eq_false_iff_not]
   rw [hx.2 j (by omega),←Bool.not_eq_true,hy.2 j (by omega)]
   exact ⟨fun h=>⟨hi,by omega,hia,h.1.1.1.1,hin,his,h.1.1.1.2,h.1.1.2,h.1.2,h.2⟩,fun ⟨_,_,_,h1,_,_,h2,h3,h4,h5⟩=>⟨⟨⟨⟨h1,h2⟩,h3⟩,h4⟩,h5⟩⟩
  cases hB:(!decide (j=a)&&inn.getD j false&&some'.getD j false&&x.getD j false&&!y.getD j false)
  ·refine PEv.step 1 (fun n=>by rw [U n,hB,cond_false]) (ih.mono fun r hr=>hr.trans (or_congr ⟨fun ⟨v,h1,h2⟩=>⟨v,by omega,h2⟩,fun ⟨v,h1,h2⟩=>⟨v,?_,h2⟩⟩ Iff.rfl))
   by_cases e2:v=j
   ·subst e2
    rw [X.2 h2] at hB;cases hB
   ·omega
  ·exact (Ev.one (r:=(true,0)) fun n=>by rw [U n,hB,cond_true]).p ⟨fun _=>.inl ⟨j,Nat.le_refl _,X.1 hB⟩,fun _=>rfl⟩
theorem zMd (G:Gr g) (hI:inn.length=g.length) (hS:some'.length=g.length) {a:Nat} (ha:a<g.length): ∀ (k i:Nat),i+k=g.length→PEv (fun n=>zAc g inn some' (a:Int) n (.l1 (i:Int))) (fun r=>r.1=true↔∃ u v,i≤u∧SpU g inn some' a u v)
 | 0,i,e=>(Ev.one (r:=(false,0)) fun n=>by
  show zEI n (zAc g inn some' (a:Int) n) g inn some' (a:Int) (i:Int)=_
  unfold zEI
  rw [decide_eq_false (by omega),cond_false]).p ⟨fun h=>(by cases h),fun ⟨u,v,h1,h2⟩=>absurd h2.1 (by omega)⟩
 | k+1,i,e=>by
  have hlen:=G.len
  have ih:=zMd G hI hS ha k (i+1) (by omega)
  have r1:R64 ((i:Int)+1):=zAG.2 ⟨by omega,by omega⟩
  have e2:((i:Int)==(a:Int))=decide (i=a):=by
   by_cases h:i=a
   ·subst h;simp
   ·rw [decide_eq_false h];simp;omega
  have U: ∀ n,zAc g inn some' (a:Int) (n+1) (.l1 (i:Int))=bif !decide (i=a)&&inn.getD i false&&some'.getD i false then (zFk n g inn (i:Int)).bind fun y1=>(zFk n g (inn.set a false) (i:Int)).bind fun y3=>zAc g inn some' (a:Int) n (.l2 (i:Int) y1 y3 0) else zAc g inn some' (a:Int) n (.l1 ((i+1:Nat):Int)):=fun n=>by
   show zEI n (zAc g inn some' (a:Int) n) g inn some' (a:Int) (i:Int)=_
   unfold zEI
   rw [decide_eq_true (by omega),cond_true,e2,if_pos r1,if_pos ⟨by omega,by omega⟩,if_pos ⟨by omega,by omega⟩,Int.toNat_natCast,zRM (by omega) (by omega)]
   cases decide (i=a) <;> cases inn.getD i false <;> cases some'.getD i false <;> rfl
  cases hB:(!decide (i=a)&&inn.getD i false&&some'.getD i false)
  ·refine PEv.step 1 (fun n=>by rw [U n,hB,cond_false]) (ih.mono fun r hr=>hr.trans ⟨fun ⟨u,v,h1,h2⟩=>⟨u,v,by omega,h2⟩,fun ⟨u,v,h1,h2⟩=>⟨u,v,?_,h2⟩⟩)
   by_cases e3:u=i
   ·subst e3
    obtain ⟨_,_,p1,_,p2,p3,_⟩:=h2
    rw [decide_eq_false p1,p2,p3] at hB;cases hB
   ·omega
  ·have hB':=hB
   simp only [Bool.and_eq_true,Bool.not_eq_true',decide_eq_false_iff_not] at hB'
   obtain ⟨⟨p1,p2⟩,p3⟩:=hB'
   obtain ⟨N1,f1⟩:=zK1 (s:=(i:Int)) G hI (by omega) (by omega)
   obtain ⟨N2,f2⟩:=zK1 (s:=(i:Int)) (inn:=inn.set a false) G (by rw [List.length_set];exact hI) (by omega) (by omega)
   obtain ⟨x,_,hx⟩:=f1 N1 (Nat.le_refl _)
   obtain ⟨y,_,hy⟩:=f2 N2 (Nat.le_refl _)
   have L:=zMc G hI hS (by omega) p1 p2 p3 hx hy ih g.length 0 (by omega)
   obtain ⟨N3,f3⟩:=L
   refine ⟨max N1 (max N2 N3)+1,fun n hn=>?_⟩
   obtain ⟨n,rfl⟩: ∃ k,n=k+1:=⟨n-1,by omega⟩
   obtain ⟨x',q1,hx'⟩:=f1 n (by omega)
   obtain ⟨y',q2,hy'⟩:=f2 n (by omega)
   have:=RcL.uniq hx' hx
   subst this
   have:=RcL.uniq hy' hy
   subst this
   obtain ⟨r,q3,hr⟩:=f3 n (by omega)
   have q1:zFk n g inn (i:Int)=_:=q1
   have q2:zFk n g (inn.set a false) (i:Int)=_:=q2
   have q3:zAc g inn some' (a:Int) n (.l2 (i:Int) x' y' 0)=some r:=q3
   refine ⟨r,?_,hr.trans ?_⟩
   ·show zAc g inn some' (a:Int) (n+1) (.l1 (i:Int))=_
    rw [U n,hB,cond_true,q1,Option.bind_some,q2,Option.bind_some,q3]
   ·constructor
    ·rintro (⟨v,_,h⟩ | ⟨u,v,h1,h2⟩)
     ·exact ⟨i,v,Nat.le_refl _,h⟩
     ·exact ⟨u,v,by omega,h2⟩
    ·rintro ⟨u,v,h1,h2⟩
     by_cases e3:u=i
     ·subst e3
      exact .inl ⟨v,Nat.zero_le _,h2⟩
     ·exact .inr ⟨u,v,by omega,h2⟩
theorem zbV (G:Gr g) (hI:inn.length=g.length) {a:Nat} (ha:a<g.length) (hia:inn.getD a false=true):(∃ u v,SpU g inn some' a u v)↔Sp g inn some' (a:Int):=by
 constructor
 ·rintro ⟨u,v,h1,h2,h3,h4,h5,h6,h7,h8,h9,h10⟩
  have hua:Rc g inn u a:=Classical.byContradiction fun h=>h10 (by
   have:=zeD (a:=(a:Int)) h (by omega) G (by omega) (by omega) h9
   rw [Int.toNat_natCast] at this;exact this)
  have hau:=hua.symm G (by omega) (by omega) (by rw [Int.toNat_natCast];exact h5)
  exact ⟨u,v,by omega,by omega,by rw [Int.toNat_natCast];exact h6,by rw [Int.toNat_natCast];exact h8,hau,hau.trans h9,by rw [Int.toNat_natCast];exact h10⟩
 ·rintro ⟨u,v,h1,h2,h3,h4,h5,h6,h7⟩
  have hu:=h5.rng G (by omega) (by omega)
  have hv:=h6.rng G (by omega) (by omega)
  have ha':inn.getD (a:Int).toNat false=true:=by rw [Int.toNat_natCast];exact hia
  have iu:=h5.isIn ha'
  have iv:=h6.isIn ha'
  refine ⟨u.toNat,v.toNat,by omega,by omega,by omega,by omega,iu,h3,iv,h4,?_,?_⟩
  ·rw [show ((u.toNat:Nat):Int)=u by omega,show ((v.toNat:Nat):Int)=v by omega]
   exact (h5.symm G (by omega) (by omega) ha').trans h6
  ·rw [show ((u.toNat:Nat):Int)=u by omega,show ((v.toNat:Nat):Int)=v by omega]
   rw [Int.toNat_natCast] at h7;exact h7
theorem zUI (G:zY6 g) (hI:inn.length=g.length) (hS:some'.length=g.length) {a:Nat} (ha:a<g.length):PEv (fun n=>zNk n g inn some' (a:Int)) (fun r=>r.1=true↔inn.getD a false=true∧Sp g inn some' (a:Int)):=by
 have hlen:=G.gr.len
 show PEv (fun n=>zMb n (zAc g inn some' (a:Int) n) g inn some' (a:Int)) _
 refine PEv.bind (b:=fun n (y1:Int)=>bif (y1 != 0) then some (false,120) else _) (zPP G) ?_
 refine PEv.eq (g:=fun n=>bif !inn.getD a false then some (false,(0:Int)) else zAc g inn some' (a:Int) n (.l1 0)) ?_ fun n=>?_
 ·cases hb:inn.getD a false
  ·exact (Ev.now (r:=(false,(0:Int))) fun n=>rfl).p ⟨fun h=>(by cases h),fun h=>(by cases h.1)⟩
  ·refine PEv.eq (g:=fun n=>zAc g inn some' (a:Int) n (.l1 ((0:Nat):Int))) ((zMd G.gr hI hS ha g.length 0 (by omega)).mono fun r hr=>hr.trans ?_) fun n=>rfl
   rw [←zbV G.gr hI ha hb]
   exact ⟨fun ⟨u,v,_,h⟩=>⟨rfl,u,v,h⟩,fun ⟨_,u,v,h⟩=>⟨u,v,Nat.zero_le _,h⟩⟩
 ·rw [show ((0:Int) != 0)=false from rfl,cond_false,show ((inn.length:Int) != (g.length:Int))=false by simp;omega,cond_false,show ((some'.length:Int) != (g.length:Int))=false by simp;omega,cond_false,decide_eq_false (by omega),cond_false,decide_eq_false (by omega),cond_false,if_pos ⟨by omega,by omega⟩,Int.toNat_natCast]
end
end Go.Proofs.YtekkngkphejfcaaGreatDoor
namespace Go.Proofs.YtekkngkphejfcaaGreatDoor
open Go.RowKit
section
variable {q:zAB} {c:zAC} {pos l:List Int}
theorem zcq (H:RW q c pos) {j:Nat} (hj:j<pos.length):(bits .and .i64 (pos.getD j 0) c.set==pos.getD j 0)=(bits .andNot .i64 (pos.getD j 0) c.set==0):=by
 have h:=zGx (S:=c.set) (H.W.sm j hj) (Nat.le_trans H.W.k (by decide))
 rw [←h,Bool.eq_iff_iff,beq_iff_eq,beq_iff_eq]
 omega
theorem zGR (H:RW q c pos) (W:zBc c q pos) (all:Bool):Ev (fun n=>zEv n c pos all) (bif all then cB c pos else pB c pos):=by
 have h256:=H.h256
 obtain ⟨o,⟨h1,h2⟩,h3⟩:=zD7 (m:=zEK c pos all) (fun i (o:List Bool)=>.l1 (i:Int) o) (fun i o=>o.length=pos.length∧∀ j,j<i→o.getD j false=(bif all then cB c pos else pB c pos).getD j false) pos.length (fun i o hi hI=>by
  obtain ⟨h1,h2⟩:=hI
  have r1:R64 ((i:Int)+1):=zAG.2 ⟨by omega,by omega⟩
  have hc:=W.len
  refine ⟨o.set i ((bif all then cB c pos else pB c pos).getD i false),⟨by rw [List.length_set];exact h1,fun j hj=>?_⟩,zA3.one fun n=>?_⟩
  ·rw [zDC (by omega)]
   split
   ·rename_i e;rw [e]
   ·exact h2 j (by omega)
  ·show zEL n (zEK c pos all n) c pos all (i:Int) o=_
   unfold zEL
   simp only [Int.toNat_natCast,W.id i hi,Nat.zero_add]
   rw [decide_eq_true (by omega),cond_true,if_pos ⟨⟨by omega,by omega⟩,by omega,by omega⟩,if_pos ⟨by omega,r1⟩,if_pos ⟨by omega,r1⟩,if_pos ⟨by omega,r1⟩]
   rw [zcq H hi,←zbz hi,←zcL hi]
   have:=W.cp hi
   cases all
   ·rw [cond_false]
    cases (pB c pos).getD i false <;> rfl
   ·rw [cond_true]
    cases hp:(pB c pos).getD i false
    ·cases hq:(cB c pos).getD i false
     ·rfl
     ·rw [this hq] at hp;cases hp
    ·cases (cB c pos).getD i false <;> rfl) pos.length 0 (List.replicate pos.length false) (by omega) ⟨List.length_replicate,fun j hj=>absurd hj (Nat.not_lt_zero j)⟩
 have e:o=(bif all then cB c pos else pB c pos):=zKC (h1.trans (by cases all;exact zBu.symm;exact zBk.symm)) fun j hj=>h2 j (by omega)
 rw [e] at h3
 refine Ev.eq (h3.ev (Ev.one fun n=>?_)) fun n=>?_
 ·have hc:=W.len
  show zEL n (zEK c pos all n) c pos all (pos.length:Int) _=_
  unfold zEL
  rw [decide_eq_false (by omega),cond_false,if_pos (by rw [←e];exact h1.symm)]
 ·unfold zEv zMg
  rw [if_pos ⟨rfl,by omega,by omega⟩];rfl
theorem zPe {inn:List Bool} (hl:inn.length≤256): ∀ (k i:Nat),i+k=inn.length→(∀ j,j<i→inn.getD j false=false)→∃ r,Ev (fun n=>zDr inn n (.l1 (i:Int))) r∧Fst inn r
 | 0,i,e,h=>⟨-1,Ev.one fun n=>by
  show zFm n (zDr inn n) inn (i:Int)=_
  unfold zFm
  rw [decide_eq_false (by omega),cond_false],.inl ⟨rfl,fun j hj=>h j (by omega)⟩⟩
 | k+1,i,e,h=>by
  have U: ∀ n,zDr inn (n+1) (.l1 (i:Int))=bif inn.getD i false then some (i:Int) else zDr inn n (.l1 ((i+1:Nat):Int)):=fun n=>by
   show zFm n (zDr inn n) inn (i:Int)=_
   unfold zFm
   rw [decide_eq_true (by omega),cond_true,if_pos ⟨by omega,by omega⟩,Int.toNat_natCast,if_pos (zAG.2 ⟨by omega,by omega⟩)];rfl
  cases hb:inn.getD i false
  ·obtain ⟨r,h1,h2⟩:=zPe hl k (i+1) (by omega) fun j hj=>by
    rcases Nat.lt_succ_iff_lt_or_eq.1 hj with hj | rfl
    ·exact h j hj
    ·exact hb
   exact ⟨r,Ev.step 1 (fun n=>by rw [U n,hb,cond_false]) h1,h2⟩
  ·exact ⟨i,Ev.one fun n=>by rw [U n,hb,cond_true],.inr ⟨by omega,by omega,by rw [Int.toNat_natCast];exact hb,fun j hj=>h j (by omega)⟩⟩
theorem zPf {inn:List Bool} (hl:inn.length≤256): ∃ r,Ev (fun n=>zMk n inn) r∧Fst inn r:=by
 obtain ⟨r,h1,h2⟩:=zPe hl inn.length 0 (by omega) fun j hj=>absurd hj (Nat.not_lt_zero j)
 exact ⟨r,h1.eq fun n=>rfl,h2⟩
theorem zSy (H:RW q c pos) (W:zBc c q pos) {r:Int} (hr0:0≤r) (hF:Fst (cB c pos) r): ∃ l,Ev (fun n=>zPk n q c pos (pB c pos) r) l∧RL pos (fun j s=>tb (pos.getD j 0) s=true∧zOY c q pos j s) l:=by
 have h256:=H.h256
 have hgl:=W.gl
 have hF':=hF
 obtain ⟨hr1,hrc⟩:=hF'.at hr0
 have hB:(pB c pos).length=q.nbrs.length:=by rw [zBu];exact hgl.symm
 have hrp:=W.cp (by omega) hrc
 have wip: ∀ {j s},zOY c q pos j s↔(pB c pos).getD j false=true∧tb c.set s=true∧¬ Rc q.nbrs (pB c pos) r j:=zdn W.g hB hr0 hF
 obtain ⟨near,e1,hn,hm⟩:=zNz W.g hB hr0 (by omega) hrp
 have LBd:(256:Nat)≤LB:=by decide
 obtain ⟨l,hl,g⟩:=zD7 (m:=zD6 q c pos (pB c pos) r) (fun i (l:List Int)=>.l1 l near (i:Int)) (fun i l=>RL pos (fun j s=>j<i∧tb (pos.getD j 0) s=true∧zOY c q pos j s) l) pos.length (fun i l hi hI=>by
  have r1:R64 ((i:Int)+1):=zAG.2 ⟨by omega,by omega⟩
  have hpl:(pB c pos).length=pos.length:=zBu
  have U: ∀ n,257≤n→zD6 q c pos (pB c pos) r (n+1) (.l1 l near (i:Int))=bif (pB c pos).getD i false&&!near.contains (i:Int) then (zEM n l (i:Int) (bits .and .i64 (pos.getD i 0) c.set)).bind fun y=>zD6 q c pos (pB c pos) r n (.l1 y near ((i+1:Nat):Int)) else zD6 q c pos (pB c pos) r n (.l1 l near ((i+1:Nat):Int)):=fun n hnn=>by
   show zHv n (zD6 q c pos (pB c pos) r n) q c pos (pB c pos) r l near (i:Int)=_
   unfold zHv
   rw [decide_eq_true (by omega),cond_true,if_pos ⟨by omega,by omega⟩,zbF (by omega) (by omega),Option.bind_some,if_pos ⟨by omega,by omega⟩,Int.toNat_natCast]
   simp only [if_pos r1]
   cases (pB c pos).getD i false <;> cases near.contains (i:Int) <;> rfl
  have C:(near.contains (i:Int))=true↔Rc q.nbrs (pB c pos) r i:=by rw [List.contains_iff_mem,hm]
  cases hb:((pB c pos).getD i false&&!near.contains (i:Int))
  ·refine ⟨l,hI.congr fun j s=>⟨fun ⟨p1,p2,p3⟩=>⟨?_,p2,p3⟩,fun ⟨p1,p2⟩=>⟨by omega,p2⟩⟩,zA3.oneN 257 fun n hnn=>by rw [U n hnn,hb,cond_false]⟩
   rcases Nat.lt_succ_iff_lt_or_eq.1 p1 with p1 | rfl
   ·exact p1
   ·obtain ⟨p4,p5,p6⟩:=wip.1 p3
    rw [←C,Bool.not_eq_true] at p6
    rw [p4,p6] at hb;cases hb
  ·obtain ⟨l',f1,f2⟩:=hI.lose h256 (cell:=(i:Int)) (ss:=bits .and .i64 (pos.getD i 0) c.set) (by omega) (by omega)
   have hb':=hb
   rw [Bool.and_eq_true,Bool.not_eq_true',←Bool.not_eq_true,C] at hb'
   refine ⟨l',f2.congr fun j s=>?_,zA3.oneN 257 fun n hnn=>by rw [U n hnn,hb,cond_true,f1,Option.bind_some]⟩
   rw [zCJ,Bool.and_eq_true]
   constructor
   ·rintro ⟨p1,p2,p3⟩
    rcases Nat.lt_succ_iff_lt_or_eq.1 p1 with p1 | rfl
    ·exact .inl ⟨p1,p2,p3⟩
    ·exact .inr ⟨rfl,p2,(wip.1 p3).2.1⟩
   ·rintro (⟨p1,p2⟩ | ⟨p1,p2,p3⟩)
    ·exact ⟨by omega,p2⟩
    ·have:j=i:=by omega
     subst this
     exact ⟨by omega,p2,wip.2 ⟨hb'.1,p3,hb'.2⟩⟩) pos.length 0 (List.replicate pos.length 0) (by omega) ((RL.zero pos).congr fun j s=>⟨fun h=>absurd h.1 (Nat.not_lt_zero j),fun h=>h.elim⟩)
 refine ⟨l,?_,hl.congr fun j s=>⟨fun h=>⟨?_,h⟩,fun h=>h.2⟩⟩
 ·refine Ev.eq (g:=fun n=>(zEO n q.nbrs (pB c pos) r).bind fun y1=>zD6 q c pos (pB c pos) r n (.l1 (List.replicate pos.length (0:Int)) y1.1 0)) (Ev.bind e1 (g.ev (Ev.one fun n=>?_))) fun n=>?_
  ·show zHv n (zD6 q c pos (pB c pos) r n) q c pos (pB c pos) r l near (pos.length:Int)=_
   unfold zHv
   rw [decide_eq_false (by omega),cond_false]
  ·show zPk n q c pos (pB c pos) r=_
   unfold zPk zSx
   rw [if_pos ⟨zL8.symm,rfl,by omega,by omega⟩]
 ·have:=(wip.1 h.2).1
  rw [List.getD_eq_getElem?_getD] at this
  refine Nat.lt_of_not_le fun hle=>?_
  rw [List.getElem?_eq_none (by rw [zBu];exact hle)] at this
  cases this
theorem zdv {j:Nat} (h:(pB c pos).getD j false=true):j<pos.length:=by
 rw [List.getD_eq_getElem?_getD] at h
 refine Nat.lt_of_not_le fun hle=>?_
 rw [List.getElem?_eq_none (by rw [zBu];exact hle)] at h
 cases h
theorem zd9 {j:Nat} (h:(cB c pos).getD j false=true):j<pos.length:=by
 rw [List.getD_eq_getElem?_getD] at h
 refine Nat.lt_of_not_le fun hle=>?_
 rw [List.getElem?_eq_none (by rw [zBk];exact hle)] at h
 cases h
theorem zYV {r:Int} (hF:Fst (cB c pos) r) (h:r<0):(∀ j,(cB c pos).getD j false=false)∧∀ a s,¬ zOY c q pos a s:=by
 have h1: ∀ j,(cB c pos).getD j false=false:=fun j=>by
  rcases hF with ⟨_,h2⟩ | ⟨h2,_⟩
  ·cases hc:(cB c pos).getD j false
   ·rfl
   ·rw [h2 j (by rw [zBk];exact zd9 hc)] at hc;cases hc
  ·omega
 refine ⟨h1,fun a s ⟨_,_,r',h2,h3,_⟩=>?_⟩
 have:=hF.uniq h3
 omega
theorem zNw (H:RW q c pos) (W:zBc c q pos):PEv (fun n=>zIk n q c pos) (RL pos (fun j s=>tb (pos.getD j 0) s=true∧zQf c q pos j s)):=by
 have h256:=H.h256
 have hgl:=W.gl
 obtain ⟨r,e3,hF⟩:=zPf (inn:=cB c pos) (by rw [zBk];exact h256)
 have hPl:(pB c pos).length=q.nbrs.length:=by rw [zBu];exact hgl.symm
 have hCl:(cB c pos).length=q.nbrs.length:=by rw [zBk];exact hgl.symm
 show PEv (fun n=>zHt n (zAt q c pos n) q c pos) _
 refine PEv.bind (b:=fun n (y1:List Bool)=>(zEv n c pos true).bind fun y2=>_) (zGR H W false) (PEv.bind (b:=fun n (y2:List Bool)=>(zMk n y2).bind fun y3=>_) (zGR H W true) (PEv.bind (b:=fun n (y3:Int)=>bif (decide (y3<0)) then _ else _) e3 ?_))
 by_cases h0:r<0
 ·obtain ⟨h1,h2⟩:=zYV (q:=q) hF h0
  refine (Ev.now (r:=List.replicate pos.length 0) fun n=>?_).p ((RL.zero pos).congr fun j s=>⟨fun ⟨_,h⟩=>h.elim (h2 j s) fun ⟨_,_,h3,_⟩=>?_,fun h=>h.elim⟩)
  ·rw [decide_eq_true h0,cond_true,if_pos ⟨zL8.symm,rfl,by omega,by omega⟩]
  ·obtain ⟨u,v,_,_,h4,_⟩:=h3
   rw [h1] at h4;cases h4
 ·obtain ⟨l0,e4,hl0⟩:=zSy H W (by omega) hF
  obtain ⟨l,hl,g⟩:=zD7 (m:=zAt q c pos) (fun i (l:List Int)=>.l1 (pB c pos) (cB c pos) l (i:Int)) (fun i l=>RL pos (fun j s=>tb (pos.getD j 0) s=true∧(zOY c q pos j s∨(j<i∧(pB c pos).getD j false=true∧(cB c pos).getD j false=false∧Sp q.nbrs (pB c pos) (cB c pos) (j:Int)∧tb c.set s=false))) l) pos.length (fun i l hi hI=>by
   have r1:R64 ((i:Int)+1):=zAG.2 ⟨by omega,by omega⟩
   obtain ⟨N,hN⟩:=zUI W.g hPl hCl (a:=i) (by omega)
   have hx:=H.W.sm i hi
   have hs:=zGx (S:=c.set) hx (Nat.le_trans H.W.k (by decide))
   have r2:R64 (pos.getD i 0-bits .and .i64 (pos.getD i 0) c.set):=by rw [hs];exact zAG.2 (zAl _ _ _)
   have step: ∀ b:Bool,(b=true↔(pB c pos).getD i false=true∧Sp q.nbrs (pB c pos) (cB c pos) (i:Int))→∀ n,N≤n→zAt q c pos (n+1) (.l1 (pB c pos) (cB c pos) l (i:Int))=bif (pB c pos).getD i false&&!(cB c pos).getD i false&&b then (zEM n l (i:Int) (bits .andNot .i64 (pos.getD i 0) c.set)).bind fun y=>zAt q c pos n (.l1 (pB c pos) (cB c pos) y ((i+1:Nat):Int)) else zAt q c pos n (.l1 (pB c pos) (cB c pos) l ((i+1:Nat):Int)):=fun b hb n hn=>by
    obtain ⟨y,h1,h2⟩:=hN n hn
    have h1:zNk n q.nbrs (pB c pos) (cB c pos) (i:Int)=some y:=h1
    have e:y.1=b:=by rw [Bool.eq_iff_iff,h2,hb]
    show zCU n (zAt q c pos n) q c pos (pB c pos) (cB c pos) l (i:Int)=_
    unfold zCU
    rw [decide_eq_true (by omega),cond_true,h1,Option.bind_some,e,if_pos ⟨by omega,by omega⟩,if_pos ⟨by omega,by omega⟩,Int.toNat_natCast,if_pos ⟨⟨by omega,by omega⟩,r2⟩,hs]
    simp only [if_pos r1]
    cases (pB c pos).getD i false <;> cases (cB c pos).getD i false <;> cases b <;> rfl
   by_cases hS:(pB c pos).getD i false=true∧Sp q.nbrs (pB c pos) (cB c pos) (i:Int)
   ·have st:=step true ⟨fun _=>hS,fun _=>rfl⟩
    cases hc:(cB c pos).getD i false
    ·obtain ⟨l',f1,f2⟩:=hI.lose h256 (cell:=(i:Int)) (ss:=bits .andNot .i64 (pos.getD i 0) c.set) (by omega) (by omega)
     refine ⟨l',f2.congr fun j s=>?_,zA3.oneN N fun n hn=>by rw [st n hn,hS.1,hc];show (zEM n l _ _).bind _=_;rw [f1,Option.bind_some]⟩
     rw [zAp,Bool.and_eq_true,Bool.not_eq_true']
     constructor
     ·rintro ⟨p0,p1 | ⟨p1,p2⟩⟩
      ·exact .inl ⟨p0,.inl p1⟩
      ·rcases Nat.lt_succ_iff_lt_or_eq.1 p1 with p1 | rfl
       ·exact .inl ⟨p0,.inr ⟨p1,p2⟩⟩
       ·exact .inr ⟨rfl,p0,p2.2.2.2⟩
     ·rintro (⟨p0,p1 | ⟨p1,p2⟩⟩ | ⟨p1,p2,p3⟩)
      ·exact ⟨p0,.inl p1⟩
      ·exact ⟨p0,.inr ⟨by omega,p2⟩⟩
      ·have:j=i:=by omega
       subst this
       exact ⟨p2,.inr ⟨by omega,hS.1,hc,hS.2,p3⟩⟩
    ·refine ⟨l,hI.congr fun j s=>and_congr Iff.rfl (or_congr Iff.rfl ⟨fun ⟨p1,p2⟩=>⟨?_,p2⟩,fun ⟨p1,p2⟩=>⟨by omega,p2⟩⟩),zA3.oneN N fun n hn=>by rw [st n hn,hS.1,hc];rfl⟩
     rcases Nat.lt_succ_iff_lt_or_eq.1 p1 with p1 | rfl
     ·exact p1
     ·rw [p2.2.1] at hc;cases hc
   ·have st:=step false ⟨fun h=>(by cases h),fun h=>absurd h hS⟩
    refine ⟨l,hI.congr fun j s=>and_congr Iff.rfl (or_congr Iff.rfl ⟨fun ⟨p1,p2⟩=>⟨?_,p2⟩,fun ⟨p1,p2⟩=>⟨by omega,p2⟩⟩),zA3.oneN N fun n hn=>by rw [st n hn,Bool.and_false,cond_false]⟩
    rcases Nat.lt_succ_iff_lt_or_eq.1 p1 with p1 | rfl
    ·exact p1
    ·exact absurd ⟨p2.1,p2.2.2.1⟩ hS) pos.length 0 l0 (by omega) (hl0.congr fun j s=>and_congr Iff.rfl ⟨fun h=>h.elim id fun h=>absurd h.1 (Nat.not_lt_zero j),.inl⟩)
  refine PEv.eq (g:=fun n=>(zPk n q c pos (pB c pos) r).bind fun y4=>zAt q c pos n (.l1 (pB c pos) (cB c pos) y4 0)) (PEv.bind e4 ((g.ev (Ev.one (r:=l) fun n=>?_)).p (hl.congr fun j s=>and_congr Iff.rfl (or_congr Iff.rfl ⟨fun h=>⟨zdv h.1,h⟩,fun h=>h.2⟩)))) fun n=>?_
  ·show zCU n (zAt q c pos n) q c pos (pB c pos) (cB c pos) l (pos.length:Int)=_
   unfold zCU
   rw [decide_eq_false (by omega),cond_false]
  ·rw [decide_eq_false h0,cond_false];rfl
end
end Go.Proofs.YtekkngkphejfcaaGreatDoor
namespace Go.Proofs.YtekkngkphejfcaaGreatDoor
open Go.RowKit
section
variable {q:zAB} {c:zAC} {pos l:List Int}
def zJ4 (g:List (List Int)) (inn:List Bool) (v:Nat):List Int:=(nb g v).filter fun x=>inn.getD x.toNat false
theorem zJ3 {g:List (List Int)} {inn:List Bool} {v:Nat}:(zJ4 g inn v).length=deg g inn v:=List.countP_eq_length_filter.symm
theorem zNl {inn:List Bool} {v:Nat} (G:Gr q.nbrs) (hI:inn.length=q.nbrs.length) (hv:v<q.nbrs.length): ∀ (k i n:Nat) (o:List Int),i+k=(nb q.nbrs v).length→k<n→o.length≤i→zIf q (v:Int) inn n (.l1 o.length (i:Int) o)=some (o++((nb q.nbrs v).drop i).filter fun x=>inn.getD x.toNat false)
 | 0,i,n+1,o,e,_,ho=>by
  show zHj n (zIf q (v:Int) inn n) q (v:Int) inn o.length (i:Int) o=_
  unfold zHj
  have e1:nb q.nbrs (v:Int)=q.nbrs.getD v []:=by unfold nb;rw [Int.toNat_natCast]
  rw [if_pos ⟨by omega,by omega⟩,Int.toNat_natCast,←e1,decide_eq_false (by omega),cond_false,if_pos rfl,List.drop_of_length_le (by omega)]
  simp
 | k+1,i,n+1,o,e,hn,ho=>by
  have L:LIM=1000000000000:=rfl
  have e1:nb q.nbrs (v:Int)=q.nbrs.getD v []:=by unfold nb;rw [Int.toNat_natCast]
  have hrow:=G.row v (by omega) (by omega)
  have hi:i<(nb q.nbrs v).length:=by omega
  have hu:=G.rng v (by omega) (by omega) _ (zc7 hi)
  have r1:R64 ((i:Int)+1):=zAG.2 ⟨by omega,by omega⟩
  have ed:(nb q.nbrs v).drop i=(nb q.nbrs v).getD i 0::(nb q.nbrs v).drop (i+1):=by
   rw [List.drop_eq_getElem_cons hi,List.getD_eq_getElem?_getD,List.getElem?_eq_getElem hi];rfl
  show zHj n (zIf q (v:Int) inn n) q (v:Int) inn o.length (i:Int) o=_
  unfold zHj
  simp only [Int.toNat_natCast,←e1]
  rw [if_pos ⟨by omega,by omega⟩,decide_eq_true (by omega),cond_true,if_pos ⟨⟨by omega,by omega⟩,hu.1,by omega⟩,ed,List.filter_cons]
  cases hb:inn.getD ((nb q.nbrs v).getD i 0).toNat false
  ·rw [cond_false,if_pos r1,if_neg (by decide)]
   exact zNl G hI hv k (i+1) n o (by omega) (by omega) (by omega)
  ·rw [cond_true,if_pos ⟨⟨⟨trivial,rfl⟩,⟨trivial,trivial⟩,by show o.length+1≤_;omega⟩,r1⟩,if_pos rfl]
   have:=zNl G hI hv k (i+1) n (o++[(nb q.nbrs v).getD i 0]) (by omega) (by omega) (by simp;omega)
   rw [List.length_append,List.append_assoc] at this
   exact this
theorem zSi {inn:List Bool} {v n:Nat} (G:Gr q.nbrs) (hI:inn.length=q.nbrs.length) (hv:v<q.nbrs.length) (hn:257≤n):zZo n q (v:Int) inn=some (zJ4 q.nbrs inn v):=by
 have hrow:=G.row v (by omega) (by omega)
 have:=zNl G hI hv (nb q.nbrs v).length 0 n [] (by omega) (by omega) (Nat.le_refl _)
 rw [List.drop_zero,List.nil_append] at this
 exact this
def nbE (c:zAC) (q:zAB) (pos:List Int) (v j a s:Nat):Prop:=(∃ i,i<j∧(zJ4 q.nbrs (pB c pos) v).getD i 0=(a:Int)∧i<(zJ4 q.nbrs (pB c pos) v).length)∧((deg q.nbrs (pB c pos) v=2∧tb c.set s=false)∨(deg q.nbrs (cB c pos) v=2∧(cB c pos).getD a false=false∧tb c.set s=true))
theorem zb5 (W:zBc c q pos) {v a s:Nat} (hv:v<pos.length) (hc:(cB c pos).getD v false=true):nbE c q pos v (zJ4 q.nbrs (pB c pos) v).length a s↔nbD c q pos v a s:=by
 unfold nbE nbD
 have:(∃ i,i<(zJ4 q.nbrs (pB c pos) v).length∧(zJ4 q.nbrs (pB c pos) v).getD i 0=(a:Int)∧i<(zJ4 q.nbrs (pB c pos) v).length)↔(a:Int)∈nb q.nbrs v∧(pB c pos).getD a false=true:=by
  constructor
  ·rintro ⟨i,hi,h1,_⟩
   have hm:=zc7 hi
   rw [h1] at hm
   have:=List.mem_filter.1 hm
   rw [Int.toNat_natCast] at this
   exact this
  ·rintro ⟨h1,h2⟩
   obtain ⟨i,hi,e⟩:=List.getElem_of_mem (List.mem_filter.2 ⟨h1,by rw [Int.toNat_natCast];exact h2⟩:(a:Int)∈zJ4 q.nbrs (pB c pos) v)
   have hi:i<(zJ4 q.nbrs (pB c pos) v).length:=hi
   exact ⟨i,hi,by rw [List.getD_eq_getElem?_getD,List.getElem?_eq_getElem hi];exact e,hi⟩
 rw [this]
 exact ⟨fun ⟨⟨h1,h2⟩,h3⟩=>⟨hc,h1,h2,h3⟩,fun ⟨_,h1,h2,h3⟩=>⟨⟨h1,h2⟩,h3⟩⟩
theorem zPW (H:RW q c pos) (W:zBc c q pos) {D:Nat→Nat→Prop} {v:Nat} (hv:v<pos.length) (hD:RL pos D l): ∃ l',RL pos (fun j s=>D j s∨(tb (pos.getD j 0) s=true∧nbE c q pos v (zJ4 q.nbrs (pB c pos) v).length j s)) l'∧
 zA3 (zAs q c pos) (.l2 (pB c pos) (cB c pos) l (v:Int) (zJ4 q.nbrs (pB c pos) v) (zJ4 q.nbrs (cB c pos) v) 0) (.l1 (pB c pos) (cB c pos) l' ((v+1:Nat):Int)):=by
 have h256:=H.h256
 have hgl:=W.gl
 have G:=W.g.gr
 have hCl:(cB c pos).length=pos.length:=zBk
 have hrow:=G.row v (by omega) (by omega)
 have d1:(zJ4 q.nbrs (pB c pos) v).length=deg q.nbrs (pB c pos) v:=zJ3
 have d2:(zJ4 q.nbrs (cB c pos) v).length=deg q.nbrs (cB c pos) v:=zJ3
 have hle:(zJ4 q.nbrs (pB c pos) v).length≤256:=Nat.le_trans (List.length_filter_le _ _) hrow
 generalize hP:zJ4 q.nbrs (pB c pos) v=P at d1 hle ⊢
 generalize hC:zJ4 q.nbrs (cB c pos) v=C at d2 ⊢
 have E: ∀ j a s,nbE c q pos v j a s↔(∃ i,i<j∧P.getD i 0=(a:Int)∧i<P.length)∧((deg q.nbrs (pB c pos) v=2∧tb c.set s=false)∨(deg q.nbrs (cB c pos) v=2∧(cB c pos).getD a false=false∧tb c.set s=true)):=fun j a s=>by
  unfold nbE
  rw [hP]
 obtain ⟨l',hl',g⟩:=zD7 (m:=zAs q c pos) (fun j (l:List Int)=>.l2 (pB c pos) (cB c pos) l (v:Int) P C (j:Int)) (fun j l=>RL pos (fun a s=>D a s∨(tb (pos.getD a 0) s=true∧nbE c q pos v j a s)) l) P.length (fun j l hj hI=>by
  have r1:R64 ((j:Int)+1):=zAG.2 ⟨by omega,by omega⟩
  have hu:0≤P.getD j 0∧P.getD j 0<(q.nbrs.length:Int):=by
   have hm:=zc7 hj
   rw [←hP] at hm ⊢
   exact G.rng v (by omega) (by omega) _ (List.mem_filter.1 hm).1
  obtain ⟨u,eu⟩:=Int.eq_ofNat_of_zero_le hu.1
  have hul:u<pos.length:=by omega
  have hs:=zGx (S:=c.set) (H.W.sm u hul) (Nat.le_trans H.W.k (by decide))
  have r2:R64 (pos.getD u 0-bits .and .i64 (pos.getD u 0) c.set):=by rw [hs];exact zAG.2 (zAl _ _ _)
  have S1: ∃ l1,RL pos (fun a s=>(D a s∨(tb (pos.getD a 0) s=true∧nbE c q pos v j a s))∨(a=u∧tb (pos.getD a 0) s=true∧deg q.nbrs (pB c pos) v=2∧tb c.set s=false)) l1∧zA3 (zAs q c pos) (.l2 (pB c pos) (cB c pos) l (v:Int) P C (j:Int)) (.l3 (pB c pos) (cB c pos) l1 (v:Int) P C (j:Int)):=by
   by_cases h2:deg q.nbrs (pB c pos) v=2
   ·obtain ⟨l1,f1,f2⟩:=hI.lose h256 (cell:=(u:Int)) (ss:=bits .andNot .i64 (pos.getD u 0) c.set) (by omega) (by omega)
    refine ⟨l1,f2.congr fun a s=>or_congr Iff.rfl ?_,zA3.one fun n=>?_⟩
    ·rw [zAp,Bool.and_eq_true,Bool.not_eq_true']
     constructor
     ·rintro ⟨rfl,p1,_,p2⟩
      exact ⟨rfl,p1,p2⟩
     ·rintro ⟨p0,p1,p2⟩
      have:a=u:=by omega
      subst this
      exact ⟨rfl,p1,h2,p2⟩
    ·show zEx n (zAs q c pos n) q c pos (pB c pos) (cB c pos) l (v:Int) P C (j:Int)=_
     unfold zEx
     simp only [Int.toNat_natCast,eu]
     rw [decide_eq_true (by omega),cond_true,show ((P.length:Int)==2)=true by rw [beq_iff_eq];omega,cond_true,if_pos ⟨⟨by omega,by omega⟩,⟨by omega,by omega⟩,r2⟩,hs,f1,Option.bind_some]
   ·refine ⟨l,hI.congr fun a s=>⟨fun h=>h.elim id fun h=>absurd h.2.2.1 h2,.inl⟩,zA3.one fun n=>?_⟩
    show zEx n (zAs q c pos n) q c pos (pB c pos) (cB c pos) l (v:Int) P C (j:Int)=_
    unfold zEx
    rw [decide_eq_true (by omega),cond_true,show ((P.length:Int)==2)=false by rw [beq_eq_false_iff_ne];omega,cond_false]
  obtain ⟨l1,hR1,g1⟩:=S1
  have S2: ∃ l2,RL pos (fun a s=>((D a s∨(tb (pos.getD a 0) s=true∧nbE c q pos v j a s))∨(a=u∧tb (pos.getD a 0) s=true∧deg q.nbrs (pB c pos) v=2∧tb c.set s=false))∨(a=u∧tb (pos.getD a 0) s=true∧deg q.nbrs (cB c pos) v=2∧(cB c pos).getD a false=false∧tb c.set s=true)) l2∧zA3 (zAs q c pos) (.l3 (pB c pos) (cB c pos) l1 (v:Int) P C (j:Int)) (.l4 (pB c pos) (cB c pos) l2 (v:Int) P C (j:Int)):=by
   by_cases h2:deg q.nbrs (cB c pos) v=2
   ·have ec:((C.length:Int)==2)=true:=by rw [beq_iff_eq];omega
    cases hcb:(cB c pos).getD u false
    ·obtain ⟨l2,f1,f2⟩:=hR1.lose h256 (cell:=(u:Int)) (ss:=bits .and .i64 (pos.getD u 0) c.set) (by omega) (by omega)
     refine ⟨l2,f2.congr fun a s=>or_congr Iff.rfl ?_,zA3.one fun n=>?_⟩
     ·rw [zCJ,Bool.and_eq_true]
      constructor
      ·rintro ⟨rfl,p1,_,_,p2⟩
       exact ⟨rfl,p1,p2⟩
      ·rintro ⟨p0,p1,p2⟩
       have:a=u:=by omega
       subst this
       exact ⟨rfl,p1,h2,hcb,p2⟩
     ·show zEw n (zAs q c pos n) q c pos (pB c pos) (cB c pos) l1 (v:Int) P C (j:Int)=_
      unfold zEw
      simp only [Int.toNat_natCast,eu]
      rw [ec,cond_true,if_pos ⟨⟨by omega,by omega⟩,⟨by omega,by omega⟩⟩,hcb]
      show (if _ then _ else none)=_
      rw [if_pos ⟨by omega,by omega⟩,f1,Option.bind_some]
    ·refine ⟨l1,hR1.congr fun a s=>⟨fun h=>h.elim id fun ⟨p0,_,_,p1,_⟩=>(by subst p0;rw [p1] at hcb;cases hcb),.inl⟩,zA3.one fun n=>?_⟩
     show zEw n (zAs q c pos n) q c pos (pB c pos) (cB c pos) l1 (v:Int) P C (j:Int)=_
     unfold zEw
     simp only [Int.toNat_natCast,eu]
     rw [ec,cond_true,if_pos ⟨⟨by omega,by omega⟩,⟨by omega,by omega⟩⟩,hcb];rfl
   ·refine ⟨l1,hR1.congr fun a s=>⟨fun h=>h.elim id fun h=>absurd h.2.2.1 h2,.inl⟩,zA3.one fun n=>?_⟩
    show zEw n (zAs q c pos n) q c pos (pB c pos) (cB c pos) l1 (v:Int) P C (j:Int)=_
    unfold zEw
    rw [show ((C.length:Int)==2)=false by rw [beq_eq_false_iff_ne];omega,cond_false]
  obtain ⟨l2,hR2,g2⟩:=S2
  refine ⟨l2,hR2.congr fun a s=>?_,g1.trans (g2.trans (zA3.one fun n=>?_))⟩
  ·rw [E,E]
   constructor
   ·rintro (h | ⟨p1,⟨i,p2,p3,p4⟩,p5⟩)
    ·exact .inl (.inl (.inl h))
    ·rcases Nat.lt_succ_iff_lt_or_eq.1 p2 with p2 | rfl
     ·exact .inl (.inl (.inr ⟨p1,⟨i,p2,p3,p4⟩,p5⟩))
     ·have ea:a=u:=by omega
      rcases p5 with p5 | p5
      ·exact .inl (.inr ⟨ea,p1,p5⟩)
      ·exact .inr ⟨ea,p1,p5⟩
   ·rintro (((h | ⟨p1,⟨i,p2,p3⟩,p5⟩) | ⟨rfl,p1,p5⟩) | ⟨rfl,p1,p5⟩)
    ·exact .inl h
    ·exact .inr ⟨p1,⟨i,by omega,p3⟩,p5⟩
    ·exact .inr ⟨p1,⟨j,by omega,eu,hj⟩,.inl p5⟩
    ·exact .inr ⟨p1,⟨j,by omega,eu,hj⟩,.inr p5⟩
  ·show zNq n (zAs q c pos n) q c pos (pB c pos) (cB c pos) l2 (v:Int) P C (j:Int)=_
   unfold zNq
   rw [if_pos r1];rfl) P.length 0 l (by omega) (hD.congr fun a s=>⟨fun h=>h.elim id fun h=>absurd ((E 0 a s).1 h.2).1 fun ⟨i,h,_⟩=>Nat.not_lt_zero i h,.inl⟩)
 refine ⟨l',hl',zA3.trans g (zA3.one fun n=>?_)⟩
 show zEx n (zAs q c pos n) q c pos (pB c pos) (cB c pos) l' (v:Int) P C (P.length:Int)=_
 unfold zEx
 rw [decide_eq_false (by omega),cond_false,if_pos (zAG.2 ⟨by omega,by omega⟩)];rfl
theorem zMh (H:RW q c pos) (W:zBc c q pos): ∀ (k v:Nat) (l:List Int),v+k=pos.length→RL pos (fun j s=>tb (pos.getD j 0) s=true∧(zOY c q pos j s∨∃ u,u<v∧nbD c q pos u j s)) l→
 PEv (fun n=>zAs q c pos n (.l1 (pB c pos) (cB c pos) l (v:Int))) (KR q c pos (fun j s=>tb (pos.getD j 0) s=true∧zXm c q pos j s) (∀ u,v≤u→u<pos.length→(cB c pos).getD u false=true→2≤deg q.nbrs (pB c pos) u∧deg q.nbrs (cB c pos) u≤2))
 | 0,v,l,e,hl=>by
  refine (Ev.one (r:=(l,true)) fun n=>?_).p ⟨⟨fun _ u h1 h2=>absurd h2 (by omega),fun _=>rfl⟩,fun _=>hl.congr fun j s=>and_congr Iff.rfl (or_congr Iff.rfl ⟨fun ⟨u,h1,h2⟩=>⟨u,by omega,h2⟩,fun ⟨u,h1,h2⟩=>⟨u,by omega,h2⟩⟩)⟩
  show zHp n (zAs q c pos n) q c pos (pB c pos) (cB c pos) l (v:Int)=_
  unfold zHp
  rw [decide_eq_false (by omega),cond_false]
 | k+1,v,l,e,hl=>by
  have h256:=H.h256
  have hgl:=W.gl
  have hPl:(pB c pos).length=pos.length:=zBu
  have hCl:(cB c pos).length=pos.length:=zBk
  have r1:R64 ((v:Int)+1):=zAG.2 ⟨by omega,by omega⟩
  have d1:(zJ4 q.nbrs (pB c pos) v).length=deg q.nbrs (pB c pos) v:=zJ3
  have d2:(zJ4 q.nbrs (cB c pos) v).length=deg q.nbrs (cB c pos) v:=zJ3
  have U: ∀ n,257≤n→zAs q c pos (n+1) (.l1 (pB c pos) (cB c pos) l (v:Int))=bif !(cB c pos).getD v false then zAs q c pos n (.l1 (pB c pos) (cB c pos) l ((v+1:Nat):Int)) else bif decide (((zJ4 q.nbrs (pB c pos) v).length:Int)<2) then some (l,false) else bif decide (((zJ4 q.nbrs (cB c pos) v).length:Int)>2) then some (l,false) else zAs q c pos n (.l2 (pB c pos) (cB c pos) l (v:Int) (zJ4 q.nbrs (pB c pos) v) (zJ4 q.nbrs (cB c pos) v) 0):=fun n hn=>by
   show zHp n (zAs q c pos n) q c pos (pB c pos) (cB c pos) l (v:Int)=_
   unfold zHp
   rw [decide_eq_true (by omega),cond_true,if_pos ⟨by omega,by omega⟩,if_pos r1,Int.toNat_natCast,zSi W.g.gr (by omega) (by omega) hn,zSi W.g.gr (by omega) (by omega) hn];rfl
  have next: ∀ l',RL pos (fun j s=>tb (pos.getD j 0) s=true∧(zOY c q pos j s∨∃ u,u<v+1∧nbD c q pos u j s)) l'→((cB c pos).getD v false=true→2≤deg q.nbrs (pB c pos) v∧deg q.nbrs (cB c pos) v≤2)→PEv (fun n=>zAs q c pos n (.l1 (pB c pos) (cB c pos) l' ((v+1:Nat):Int))) (KR q c pos (fun j s=>tb (pos.getD j 0) s=true∧zXm c q pos j s) (∀ u,v≤u→u<pos.length→(cB c pos).getD u false=true→2≤deg q.nbrs (pB c pos) u∧deg q.nbrs (cB c pos) u≤2)):=fun l' hl' hv=>by
   refine (zMh H W k (v+1) l' (by omega) hl').mono fun r hr=>⟨hr.1.trans ⟨fun h u h1 h2 h3=>?_,fun h u h1 h2 h3=>h u (by omega) h2 h3⟩,hr.2⟩
   by_cases e2:u=v
   ·subst e2;exact hv h3
   ·exact h u (by omega) h2 h3
  cases hc:(cB c pos).getD v false
  ·refine zA3.pev (zA3.oneN 257 fun n hn=>by rw [U n hn,hc];rfl) (next l (hl.congr fun j s=>and_congr Iff.rfl (or_congr Iff.rfl ⟨fun ⟨u,h1,h2⟩=>⟨u,?_,h2⟩,fun ⟨u,h1,h2⟩=>⟨u,by omega,h2⟩⟩)) fun h=>(by rw [hc] at h;cases h))
   rcases Nat.lt_succ_iff_lt_or_eq.1 h1 with h1 | rfl
   ·exact h1
   ·have:=h2.1
    rw [hc] at this;cases this
  ·by_cases c1:deg q.nbrs (pB c pos) v<2
   ·refine (Ev.oneN (r:=(l,false)) 257 fun n hn=>?_).p ⟨⟨fun h=>(by cases h),fun h=>?_⟩,fun h=>(by cases h)⟩
    ·rw [U n hn,hc,decide_eq_true (by omega)];rfl
    ·have:=(h v (Nat.le_refl _) (by omega) hc).1
     omega
   ·by_cases c2:deg q.nbrs (cB c pos) v>2
    ·refine (Ev.oneN (r:=(l,false)) 257 fun n hn=>?_).p ⟨⟨fun h=>(by cases h),fun h=>?_⟩,fun h=>(by cases h)⟩
     ·rw [U n hn,hc,decide_eq_false (by omega),decide_eq_true (by omega)];rfl
     ·have:=(h v (Nat.le_refl _) (by omega) hc).2
      omega
    ·obtain ⟨l',h1,h2⟩:=zPW H W (v:=v) (by omega) hl
     refine zA3.pev ((zA3.oneN 257 fun n hn=>by rw [U n hn,hc,decide_eq_false (by omega),decide_eq_false (by omega)];rfl).trans h2) (next l' (h1.congr fun j s=>?_) fun _=>⟨by omega,by omega⟩)
     rw [zb5 W (by omega) hc]
     constructor
     ·rintro ⟨p0,p1 | ⟨u,p1,p2⟩⟩
      ·exact .inl ⟨p0,.inl p1⟩
      ·rcases Nat.lt_succ_iff_lt_or_eq.1 p1 with p1 | rfl
       ·exact .inl ⟨p0,.inr ⟨u,p1,p2⟩⟩
       ·exact .inr ⟨p0,p2⟩
     ·rintro (⟨p0,p1 | ⟨u,p1,p2⟩⟩ | ⟨p0,p2⟩)
      ·exact ⟨p0,.inl p1⟩
      ·exact ⟨p0,.inr ⟨u,by omega,p2⟩⟩
      ·exact ⟨p0,.inr ⟨v,by omega,p2⟩⟩
theorem zZw (H:RW q c pos) (W:zBc c q pos):PEv (fun n=>zbv n q c pos) (KR q c pos (fun j s=>tb (pos.getD j 0) s=true∧zXm c q pos j s) (zTF c q pos)):=by
 have h256:=H.h256
 obtain ⟨r,e3,hF⟩:=zPf (inn:=cB c pos) (by rw [zBk];exact h256)
 show PEv (fun n=>zSp n (zAs q c pos n) q c pos) _
 refine PEv.bind (b:=fun n (y1:List Bool)=>(zEv n c pos true).bind fun y2=>_) (zGR H W false) (PEv.bind (b:=fun n (y2:List Bool)=>(zMk n y2).bind fun y3=>_) (zGR H W true) (PEv.bind (b:=fun n (y3:Int)=>bif (decide (y3<0)) then _ else _) e3 ?_))
 by_cases h0:r<0
 ·obtain ⟨h1,h2⟩:=zYV (q:=q) hF h0
  refine (Ev.now (r:=(List.replicate pos.length 0,true)) fun n=>?_).p ⟨⟨fun _ v _ h=>(by rw [h1] at h;cases h),fun _=>rfl⟩,fun _=>(RL.zero pos).congr fun j s=>⟨fun ⟨_,h⟩=>h.elim (h2 j s) fun ⟨v,_,h3,_⟩=>(by rw [h1] at h3;cases h3),fun h=>h.elim⟩⟩
  rw [decide_eq_true h0,cond_true,if_pos ⟨zL8.symm,rfl,by omega,by omega⟩]
 ·obtain ⟨l0,e4,hl0⟩:=zSy H W (by omega) hF
  refine PEv.eq (g:=fun n=>(zPk n q c pos (pB c pos) r).bind fun y4=>zAs q c pos n (.l1 (pB c pos) (cB c pos) y4 0)) (PEv.bind e4 ((zMh H W pos.length 0 l0 (by omega) (hl0.congr fun j s=>and_congr Iff.rfl ⟨fun h=>h.elim id fun ⟨u,h,_⟩=>absurd h (Nat.not_lt_zero u),.inl⟩)).mono fun x hx=>⟨hx.1.trans ⟨fun h v hv hc=>h v (Nat.zero_le _) hv hc,fun h v _ hv hc=>h v hv hc⟩,hx.2⟩)) fun n=>?_
  rw [decide_eq_false h0,cond_false];rfl
end
end Go.Proofs.YtekkngkphejfcaaGreatDoor
