/- Part 3 of 7 of what the proofs of these laws stand on. -/
import Derived.Test.YtekkngkphejfcaaGreatDoorPsB
import Derived.LoopIn
set_option linter.all false
namespace Go.Proofs.YtekkngkphejfcaaGreatDoor
open Go.RowKit
set_option maxRecDepth 100000
set_option maxHeartbeats 40000000
theorem zZN:SOk (zBa Tryz.f13 6) [] (List.range 9) []:=by unfold SOk;kernel_rfl
def zHR:Sch:=fun i=>match i with
 | 6=>.ord [] (List.range 9) []
 | _=>.no
inductive zSV where
 | l1 (x5:Int)
def zKe (n:Nat) (self:zSV→Option Bool) (a b_:List Int) (x5:Int):Option Bool:=
 bif (decide (x5<(a.length:Int))) then
  if (0≤x5∧x5<(a.length:Int))∧(0≤x5∧x5<(b_.length:Int)) then
   bif ((a.getD ((x5).toNat) 0) != (b_.getD ((x5).toNat) 0)) then
    some false
   else
    if R64 (x5+1) then
     self (.l1 (x5+1))
    else none
  else none
 else
  some true
def zV9 (n:Nat) (self:zSV→Option Bool) (a b_:List Int):Option Bool:=
 bif ((a.length:Int) != (b_.length:Int)) then
  some false
 else
  self (.l1 0)
def zMX (a b_:List Int):Nat→zSV→Option Bool
 | 0,_=>none
 | n+1,.l1 x5=>zKe n (zMX a b_ n) a b_ x5
def same (n:Nat) (a b_:List Int):Option Bool:=zV9 n (zMX a b_ n) a b_
def zbk (n B:Nat) (N:Yd 0) (a b_:List Int) (r:Bool):zSV→Prop
 | .l1 x5=>∀ m0:Nat,n≤m0→TW B N (FQ Tryz.f13 0 (.bool r) []) (toN m0 (zA9 (zAK Tryz.f13) 0 [])) ⟨frm 26 [(0,.ints a),(1,.ints b_),(5,.i x5)],[]⟩
theorem zZJ (B:Nat) (N:Yd 0) (a b_:List Int):Al (zMX a b_) (zbk · B N a b_):=ia (fun _=>rfl) fun n hself pt r h=>by
 cases pt
 case l1 x5=>
  intro m0 hm0
  refine rd hm0 fun m0 hm0=>?_
  revert r
  apply gO
  exact bi 14 (jg zZN (gc (gi (gi (bi 25 (lE zHR [4] []) (gw 16 (lG zHR [] (hself _ _ · m0 hm0)))))))) (lE zHR [4] [])
theorem zV8 {n:Nat} {a b_:List Int} {r:Bool} (h:same n a b_=some r):EQ 13 [.ints a,.ints b_] [] (.bool r) [] true:=by
 refine ot Tryz.func13 fun B N=>?_
 revert r
 apply gO
 exact bi 10 (lE zHR [4] []) (lN zHR [] ((zZJ B N a b_ n) _ _ · n Nat.le.refl))
inductive zaf where
 | l1 (x5:Int)
def zYJ (n:Nat) (self:zaf→Option Bool) (l_:List Int) (n_:Int) (x5:Int):Option Bool:=
 bif (decide (x5<(l_.length:Int))) then
  if 0≤x5∧x5<(l_.length:Int) then
   bif ((l_.getD ((x5).toNat) 0)==n_) then
    some true
   else
    if R64 (x5+1) then
     self (.l1 (x5+1))
    else none
  else none
 else
  some false
def zbE (n:Nat) (self:zaf→Option Bool) (l_:List Int) (n_:Int):Option Bool:=
 self (.l1 0)
def zVK (l_:List Int) (n_:Int):Nat→zaf→Option Bool
 | 0,_=>none
 | n+1,.l1 x5=>zYJ n (zVK l_ n_ n) l_ n_ x5
def has (n:Nat) (l_:List Int) (n_:Int):Option Bool:=zbE n (zVK l_ n_ n) l_ n_
def zc6 (n B:Nat) (N:Yd 0) (l_:List Int) (n_:Int) (r:Bool):zaf→Prop
 | .l1 x5=>∀ m0:Nat,n≤m0→TW B N (FQ Tryz.f102 0 (.bool r) []) (toN m0 (zA9 (zAK Tryz.f102) 0 [])) ⟨frm 18 [(0,.ints l_),(1,.i n_),(5,.i x5)],[]⟩
theorem zcD (B:Nat) (N:Yd 0) (l_:List Int) (n_:Int):Al (zVK l_ n_) (zc6 · B N l_ n_):=ia (fun _=>rfl) fun n hself pt r h=>by
 cases pt
 case l1 x5=>
  intro m0 hm0
  refine rd hm0 fun m0 hm0=>?_
  revert r
  apply gO
  exact bi 9 (gi (bi 17 (lE zAH [4] []) (gw 11 (lG zAH [] (hself _ _ · m0 hm0))))) (lE zAH [4] [])
theorem zYI {n:Nat} {l_:List Int} {n_:Int} {r:Bool} (h:has n l_ n_=some r):EQ 102 [.ints l_,.i n_] [] (.bool r) [] true:=by
 refine ot Tryz.func102 fun B N=>?_
 revert r
 apply gO
 exact lN zAH [] ((zcD B N l_ n_ n) _ _ · n Nat.le.refl)
inductive zIP where
 | l1 (x7:Int)
def zI6 (n:Nat) (self:zIP→Option Bool) (l_:List Int) (lo hi:Int) (x7:Int):Option Bool:=
 bif (decide (x7<(l_.length:Int))) then
  if 0≤x7∧x7<(l_.length:Int) then
   bif (decide ((l_.getD ((x7).toNat) 0)<lo)) then
    some false
   else
    bif (decide ((l_.getD ((x7).toNat) 0)>hi)) then
     some false
    else
     if R64 (x7+1) then
      self (.l1 (x7+1))
     else none
  else none
 else
  some true
def zNC (n:Nat) (self:zIP→Option Bool) (l_:List Int) (lo hi:Int):Option Bool:=
 self (.l1 0)
def zEb (l_:List Int) (lo hi:Int):Nat→zIP→Option Bool
 | 0,_=>none
 | n+1,.l1 x7=>zI6 n (zEb l_ lo hi n) l_ lo hi x7
def zGF (n:Nat) (l_:List Int) (lo hi:Int):Option Bool:=zNC n (zEb l_ lo hi n) l_ lo hi
def zVc (n B:Nat) (N:Yd 0) (l_:List Int) (lo hi:Int) (r:Bool):zIP→Prop
 | .l1 x7=>∀ m0:Nat,n≤m0→TW B N (FQ Tryz.f74 0 (.bool r) []) (toN m0 (zA9 (zAK Tryz.f74) 0 [])) ⟨frm 28 [(0,.ints l_),(1,.i lo),(2,.i hi),(7,.i x7)],[]⟩
theorem zR9 (B:Nat) (N:Yd 0) (l_:List Int) (lo hi:Int):Al (zEb l_ lo hi) (zVc · B N l_ lo hi):=ia (fun _=>rfl) fun n hself pt r h=>by
 cases pt
 case l1 x7=>
  intro m0 hm0
  refine rd hm0 fun m0 hm0=>?_
  revert r
  apply gO
  exact bi 11 (gn fun g0=>jg g0 (bi 19 (lE zAH [6] []) (jg g0 (bi 26 (lE zAH [6] []) (gw 13 (lG zAH [] (hself _ _ · m0 hm0))))))) (lE zAH [6] [])
theorem zEa {n:Nat} {l_:List Int} {lo hi:Int} {r:Bool} (h:zGF n l_ lo hi=some r):EQ 74 [.ints l_,.i lo,.i hi] [] (.bool r) [] true:=by
 refine ot Tryz.func74 fun B N=>?_
 revert r
 apply gO
 exact lN zAH [] ((zR9 B N l_ lo hi n) _ _ · n Nat.le.refl)
theorem zNV:SOk (zBa Tryz.f103 7) [] (List.range 9) []:=by unfold SOk;kernel_rfl
def zBm:Sch:=fun i=>match i with
 | 7=>.ord [] (List.range 9) []
 | _=>.no
inductive zCq where
 | l1 (x3:Int)
 | l2 (x3 x4:Int)
def zF7 (n:Nat) (self:zCq→Option Bool) (l_:List Int) (x3:Int):Option Bool:=
 bif (decide (x3<(l_.length:Int))) then
  self (.l2 x3 0)
 else
  some true
def zD2 (n:Nat) (self:zCq→Option Bool) (l_:List Int) (x3 x4:Int):Option Bool:=
 bif (decide (x4<x3)) then
  if (0≤x3∧x3<(l_.length:Int))∧(0≤x4∧x4<(l_.length:Int)) then
   bif ((l_.getD ((x3).toNat) 0)==(l_.getD ((x4).toNat) 0)) then
    some false
   else
    if R64 (x4+1) then
     self (.l2 x3 (x4+1))
    else none
  else none
 else
  if R64 (x3+1) then
   self (.l1 (x3+1))
  else none
def zJi (n:Nat) (self:zCq→Option Bool) (l_:List Int):Option Bool:=
 self (.l1 0)
def zA8 (l_:List Int):Nat→zCq→Option Bool
 | 0,_=>none
 | n+1,.l1 x3=>zF7 n (zA8 l_ n) l_ x3
 | n+1,.l2 x3 x4=>zD2 n (zA8 l_ n) l_ x3 x4
def zIH (n:Nat) (l_:List Int):Option Bool:=zJi n (zA8 l_ n) l_
def zQc (n B:Nat) (N:Yd 0) (l_:List Int) (r:Bool):zCq→Prop
 | .l1 x3=>∀ m0:Nat,n≤m0→TW B N (FQ Tryz.f103 0 (.bool r) []) (toN m0 (zA9 (zAK Tryz.f103) 0 [])) ⟨frm 25 [(0,.ints l_),(3,.i x3)],[]⟩
 | .l2 x3 x4=>∀ m0 m1:Nat,n≤m0→n≤m1→TW B N (FQ Tryz.f103 0 (.bool r) []) (toN m1 (zA9 (zAK Tryz.f103) 2 [m0])) ⟨frm 25 [(0,.ints l_),(3,.i x3),(4,.i x4)],[]⟩
theorem zOP (B:Nat) (N:Yd 0) (l_:List Int):Al (zA8 l_) (zQc · B N l_):=ia (fun _=>rfl) fun n hself pt r h=>by
 cases pt
 case l1 x3=>
  intro m0 hm0
  refine rd hm0 fun m0 hm0=>?_
  revert r
  apply gO
  exact bi 8 (lN zBm [] (hself _ _ · m0 n hm0 Nat.le.refl)) (lE zBm [2] [])
 case l2 x3 x4=>
  intro m0 m1 hm0 hm1
  have hm0:=Nat.le_of_succ_le hm0
  refine rd hm1 fun m1 hm1=>?_
  revert r
  apply gO
  exact bi 13 (jg zNV (gc (gi (gi (bi 24 (lE zBm [2] []) (gw 15 (lG zBm [] (hself _ _ · m0 m1 hm0 hm1)))))))) (gw 10 (lG zBm [] (hself _ _ · m0 hm0)))
theorem zQa {n:Nat} {l_:List Int} {r:Bool} (h:zIH n l_=some r):EQ 103 [.ints l_] [] (.bool r) [] true:=by
 refine ot Tryz.func103 fun B N=>?_
 revert r
 apply gO
 exact lN zBm [] ((zOP B N l_ n) _ _ · n Nat.le.refl)
inductive zJ7 where
 | l1 (x8:Int)
def zLd (n:Nat) (self:zJ7→Option Int) (s_:List Int) (v:Int) (x8:Int):Option Int:=
 bif (decide (x8<(s_.length:Int))) then
  if 0≤x8∧x8<(s_.length:Int) then
   bif (v==(s_.getD ((x8).toNat) 0)) then
    some x8
   else
    if R64 (x8+1) then
     self (.l1 (x8+1))
    else none
  else none
 else
  some (-1)
def zQB (n:Nat) (self:zJ7→Option Int) (s_:List Int) (v:Int):Option Int:=
 self (.l1 0)
def zFG (s_:List Int) (v:Int):Nat→zJ7→Option Int
 | 0,_=>none
 | n+1,.l1 x8=>zLd n (zFG s_ v n) s_ v x8
def zTK (n:Nat) (s_:List Int) (v:Int):Option Int:=zQB n (zFG s_ v n) s_ v
def zX2 (n B:Nat) (N:Yd 0) (s_:List Int) (v:Int) (r:Int):zJ7→Prop
 | .l1 x8=>∀ m0:Nat,n≤m0→TW B N (FQ Tryz.f125 0 (.i r) []) (toN m0 (zA9 (zAK Tryz.f125) 0 [])) ⟨frm 19 [(0,.ints s_),(1,.i v),(7,.i (s_.length:Int)),(8,.i x8)],[]⟩
theorem zUi (B:Nat) (N:Yd 0) (s_:List Int) (v:Int):Al (zFG s_ v) (zX2 · B N s_ v):=ia (fun _=>rfl) fun n hself pt r h=>by
 cases pt
 case l1 x8=>
  intro m0 hm0
  refine rd hm0 fun m0 hm0=>?_
  revert r
  apply gO
  exact bi 9 (gi (bi 16 (lE zAH [4] []) (gw 18 (lG zAH [] (hself _ _ · m0 hm0))))) (lE zAH [4] [])
theorem zX1 {n:Nat} {s_:List Int} {v:Int} {r:Int} (h:zTK n s_ v=some r):EQ 125 [.ints s_,.i v] [] (.i r) [] true:=by
 refine ot Tryz.func125 fun B N=>?_
 revert r
 apply gO
 exact lN zAH [] ((zUi B N s_ v n) _ _ · n Nat.le.refl)
inductive zJ8 where
 | l1 (x8:Int)
def zF1 (n:Nat) (self:zJ8→Option Int) (s_:List Bool) (v:Bool) (x8:Int):Option Int:=
 bif (decide (x8<(s_.length:Int))) then
  if 0≤x8∧x8<(s_.length:Int) then
   bif (v==(s_.getD ((x8).toNat) false)) then
    some x8
   else
    if R64 (x8+1) then
     self (.l1 (x8+1))
    else none
  else none
 else
  some (-1)
def zX4 (n:Nat) (self:zJ8→Option Int) (s_:List Bool) (v:Bool):Option Int:=
 self (.l1 0)
def zDU (s_:List Bool) (v:Bool):Nat→zJ8→Option Int
 | 0,_=>none
 | n+1,.l1 x8=>zF1 n (zDU s_ v n) s_ v x8
def zTL (n:Nat) (s_:List Bool) (v:Bool):Option Int:=zX4 n (zDU s_ v n) s_ v
def zX5 (n B:Nat) (N:Yd 0) (s_:List Bool) (v:Bool) (r:Int):zJ8→Prop
 | .l1 x8=>∀ m0:Nat,n≤m0→TW B N (FQ Tryz.f108 0 (.i r) []) (toN m0 (zA9 (zAK Tryz.f108) 0 [])) ⟨frm 19 [(0,.bools s_),(1,.bool v),(7,.i (s_.length:Int)),(8,.i x8)],[]⟩
theorem zUj (B:Nat) (N:Yd 0) (s_:List Bool) (v:Bool):Al (zDU s_ v) (zX5 · B N s_ v):=ia (fun _=>rfl) fun n hself pt r h=>by
 cases pt
 case l1 x8=>
  intro m0 hm0
  refine rd hm0 fun m0 hm0=>?_
  revert r
  apply gO
  exact bi 9 (gi (bi 16 (lE zAH [4] []) (gw 18 (lG zAH [] (hself _ _ · m0 hm0))))) (lE zAH [4] [])
theorem zX3 {n:Nat} {s_:List Bool} {v:Bool} {r:Int} (h:zTL n s_ v=some r):EQ 108 [.bools s_,.bool v] [] (.i r) [] true:=by
 refine ot Tryz.func108 fun B N=>?_
 revert r
 apply gO
 exact lN zAH [] ((zUj B N s_ v n) _ _ · n Nat.le.refl)
def zGD (n:Nat) (s_:List Int) (v:Int):Option Bool:=
 (zTK n s_ v).bind fun y1=>
  some (decide (y1≥0))
def zDB (n:Nat) (s_:List Int) (v:Int):Option Bool:=zGD n s_ v
theorem zJj {n:Nat} {s_:List Int} {v:Int} {r:Bool} (h:zDB n s_ v=some r):EQ 105 [.ints s_,.i v] [] (.bool r) [] true:=by
 unfold zDB zGD at h
 refine ot Tryz.func105 fun B N=>?_
 revert r
 apply gO
 exact cf zX1 [] fun _=>lE zAH [4] []
inductive zGO where
 | l1 (x3:Int)
 | l2 (x3 x4:Int)
def zKs (n:Nat) (self:zGO→Option Int) (g_:List (List Int)) (x3:Int):Option Int:=
 bif (decide (x3<(g_.length:Int))) then
  self (.l2 x3 0)
 else
  some 0
def zHi (n:Nat) (self:zGO→Option Int) (g_:List (List Int)) (x3 x4:Int):Option Int:=
 if 0≤x3∧x3<(g_.length:Int) then
  bif (decide (x4<(((g_.getD ((x3).toNat) []).length:Nat):Int))) then
   if 0≤x4∧x4<(((g_.getD ((x3).toNat) []).length:Nat):Int) then
    bif (decide (((g_.getD ((x3).toNat) []).getD ((x4).toNat) 0)<0)) then
     some 120
    else
     bif (decide (((g_.getD ((x3).toNat) []).getD ((x4).toNat) 0)≥(g_.length:Int))) then
      some 120
     else
      bif (((g_.getD ((x3).toNat) []).getD ((x4).toNat) 0)==x3) then
       some 120
      else
       bif (decide (x4>0)) then
        if R64 (x4-1)∧(0≤(x4-1)∧(x4-1)<(((g_.getD ((x3).toNat) []).length:Nat):Int)) then
         bif (decide (((g_.getD ((x3).toNat) []).getD (((x4-1)).toNat) 0)≥((g_.getD ((x3).toNat) []).getD ((x4).toNat) 0))) then
          some 120
         else
          if (0:Int)≤((g_.getD ((x3).toNat) []).getD ((x4).toNat) 0)∧((g_.getD ((x3).toNat) []).getD ((x4).toNat) 0)<(g_.length:Int) then
           (has n (g_.getD (((g_.getD ((x3).toNat) []).getD ((x4).toNat) 0).toNat) []) x3).bind fun y1=>
            bif (!y1) then
             some 120
            else
             if R64 (x4+1) then
              self (.l2 x3 (x4+1))
             else none
          else none
        else none
       else
        if (0:Int)≤((g_.getD ((x3).toNat) []).getD ((x4).toNat) 0)∧((g_.getD ((x3).toNat) []).getD ((x4).toNat) 0)<(g_.length:Int) then
         (has n (g_.getD (((g_.getD ((x3).toNat) []).getD ((x4).toNat) 0).toNat) []) x3).bind fun y1=>
          bif (!y1) then
           some 120
          else
           if R64 (x4+1) then
            self (.l2 x3 (x4+1))
           else none
        else none
   else none
  else
   if R64 (x3+1) then
    self (.l1 (x3+1))
   else none
 else none
def zPO (n:Nat) (self:zGO→Option Int) (g_:List (List Int)):Option Int:=
 bif (decide ((g_.length:Int)>256)) then
  some 120
 else
  self (.l1 0)
def zCR (g_:List (List Int)):Nat→zGO→Option Int
 | 0,_=>none
 | n+1,.l1 x3=>zKs n (zCR g_ n) g_ x3
 | n+1,.l2 x3 x4=>zHi n (zCR g_ n) g_ x3 x4
def zJV (n:Nat) (g_:List (List Int)):Option Int:=zPO n (zCR g_ n) g_
def zWq (n B:Nat) (N:Yd 0) (g_:List (List Int)) (r:Int):zGO→Prop
 | .l1 x3=>∀ m0:Nat,n≤m0→TW B N (FQ Tryz.f75 0 (.i r) []) (toN m0 (zA9 (zAK Tryz.f75) 0 [])) ⟨frm 69 [(0,.sl 1 g_.length (zAz zAS g_)),(3,.i x3)],[]⟩
 | .l2 x3 x4=>∀ m0 m1:Nat,n≤m0→n≤m1→TW B N (FQ Tryz.f75 0 (.i r) []) (toN m1 (zA9 (zAK Tryz.f75) 2 [m0])) ⟨frm 69 [(0,.sl 1 g_.length (zAz zAS g_)),(3,.i x3),(4,.i x4)],[]⟩
theorem zUG (B:Nat) (N:Yd 0) (g_:List (List Int)):Al (zCR g_) (zWq · B N g_):=ia (fun _=>rfl) fun n hself pt r h=>by
 cases pt
 case l1 x3=>
  intro m0 hm0
  refine rd hm0 fun m0 hm0=>?_
  revert r
  apply gO
  exact bi 12 (lN zAH [] (hself _ _ · m0 n hm0 Nat.le.refl)) (lE zAH [2] [])
 case l2 x3 x4=>
  intro m0 m1 hm0 hm1
  have hm0:=Nat.le_of_succ_le hm0
  refine rd hm1 fun m1 hm1=>?_
  revert r
  apply gO
  exact gn fun g0=>jg g0 (bi 21 (jg g0 (gi (bi 32 (lE zAH [2] []) (bi 37 (lE zAH [2] []) (bi 42 (lE zAH [2] []) (bi 46 (jg g0 (gc (gw 53 (gi (bi 57 (lE zAH [2] []) (gi (cf zYI [] fun _=>bi 67 (lE zAH [2] []) (gw 23 (lG zAH [] (hself _ _ · m0 m1 hm0 hm1)))))))))) (gi (cf zYI [] fun _=>bi 67 (lE zAH [2] []) (gw 23 (lG zAH [] (hself _ _ · m0 m1 hm0 hm1))))))))))) (gw 14 (lG zAH [] (hself _ _ · m0 hm0))))
theorem zKr {n:Nat} {g_:List (List Int)} {r:Int} (h:zJV n g_=some r):EQ 75 [.sl 1 g_.length (zAz zAS g_)] [] (.i r) [] true:=by
 refine ot Tryz.func75 fun B N=>?_
 revert r
 apply gO
 exact bi 8 (lE zAH [2] []) (lN zAH [] ((zUG B N g_ n) _ _ · n Nat.le.refl))
inductive zGg where
 | l1 (x12:Int)
 | l2 (x3:Int) (x4:List Int) (x12:Int) (x17:List Int) (x18 x19:Int)
def zLl (n:Nat) (self:zGg→Option Int) (g_:List (List Int)) (x12:Int):Option Int:=
 bif (decide (x12<(g_.length:Int))) then
  if 0≤x12∧x12<(g_.length:Int) then
   self (.l2 x12 (g_.getD ((x12).toNat) []) x12 (g_.getD ((x12).toNat) []) (((g_.getD ((x12).toNat) []).length:Nat):Int) 0)
  else none
 else
  some 0
def zIC (n:Nat) (self:zGg→Option Int) (g_:List (List Int)) (x3:Int) (x4:List Int) (x12:Int) (x17:List Int) (x18 x19:Int):Option Int:=
 bif (decide (x19<x18)) then
  if 0≤x19∧x19<(x17.length:Int) then
   bif (decide ((x17.getD ((x19).toNat) 0)<0)) then
    some 120
   else
    bif (decide ((x17.getD ((x19).toNat) 0)≥(g_.length:Int))) then
     some 120
    else
     bif ((x17.getD ((x19).toNat) 0)==x3) then
      some 120
     else
      bif (decide (x19>0)) then
       if R64 (x19-1)∧(0≤(x19-1)∧(x19-1)<(x4.length:Int)) then
        bif (decide ((x4.getD (((x19-1)).toNat) 0)≥(x17.getD ((x19).toNat) 0))) then
         some 120
        else
         if 0≤(x17.getD ((x19).toNat) 0)∧(x17.getD ((x19).toNat) 0)<(g_.length:Int) then
          (zDB n (g_.getD ((x17.getD ((x19).toNat) 0).toNat) []) x3).bind fun y1=>
           bif (!y1) then
            some 120
           else
            if R64 (x19+1) then
             self (.l2 x3 x4 x12 x17 x18 (x19+1))
            else none
         else none
       else none
      else
       if 0≤(x17.getD ((x19).toNat) 0)∧(x17.getD ((x19).toNat) 0)<(g_.length:Int) then
        (zDB n (g_.getD ((x17.getD ((x19).toNat) 0).toNat) []) x3).bind fun y1=>
         bif (!y1) then
          some 120
         else
          if R64 (x19+1) then
           self (.l2 x3 x4 x12 x17 x18 (x19+1))
          else none
       else none
  else none
 else
  if R64 (x12+1) then
   self (.l1 (x12+1))
  else none
def zQQ (n:Nat) (self:zGg→Option Int) (g_:List (List Int)):Option Int:=
 bif (decide ((g_.length:Int)>256)) then
  some 120
 else
  self (.l1 0)
def zCa (g_:List (List Int)):Nat→zGg→Option Int
 | 0,_=>none
 | n+1,.l1 x12=>zLl n (zCa g_ n) g_ x12
 | n+1,.l2 x3 x4 x12 x17 x18 x19=>zIC n (zCa g_ n) g_ x3 x4 x12 x17 x18 x19
def zQS (n:Nat) (g_:List (List Int)):Option Int:=zQQ n (zCa g_ n) g_
def zYM (n B:Nat) (N:Yd 0) (g_:List (List Int)) (r:Int):zGg→Prop
 | .l1 x12=>∀ m0:Nat,n≤m0→TW B N (FQ Tryz.f78 0 (.i r) []) (toN m0 (zA9 (zAK Tryz.f78) 0 [])) ⟨frm 61 [(0,.sl 1 g_.length (zAz zAS g_)),(10,.sl 1 g_.length (zAz zAS g_)),(11,.i (g_.length:Int)),(12,.i x12)],[]⟩
 | .l2 x3 x4 x12 x17 x18 x19=>∀ m0 m1:Nat,n≤m0→n≤m1→TW B N (FQ Tryz.f78 0 (.i r) []) (toN m1 (zA9 (zAK Tryz.f78) 2 [m0])) ⟨frm 61 [(0,.sl 1 g_.length (zAz zAS g_)),(3,.i x3),(4,.ints x4),(10,.sl 1 g_.length (zAz zAS g_)),(11,.i (g_.length:Int)),(12,.i x12),(17,.ints x17),(18,.i x18),(19,.i x19)],[]⟩
theorem zVM (B:Nat) (N:Yd 0) (g_:List (List Int)):Al (zCa g_) (zYM · B N g_):=ia (fun _=>rfl) fun n hself pt r h=>by
 cases pt
 case l1 x12=>
  intro m0 hm0
  refine rd hm0 fun m0 hm0=>?_
  revert r
  apply gO
  exact bi 13 (gi (lN zAH [] (hself _ _ · m0 n hm0 Nat.le.refl))) (lE zAH [2] [])
 case l2 x3 x4 x12 x17 x18 x19=>
  intro m0 m1 hm0 hm1
  have hm0:=Nat.le_of_succ_le hm0
  refine rd hm1 fun m1 hm1=>?_
  revert r
  apply gO
  exact bi 20 (gi (bi 25 (lE zAH [2] []) (bi 30 (lE zAH [2] []) (bi 35 (lE zAH [2] []) (bi 39 (gc (gw 43 (gi (bi 47 (lE zAH [2] []) (gi (cf zJj [] fun _=>bi 57 (lE zAH [2] []) (gw 59 (lG zAH [] (hself _ _ · m0 m1 hm0 hm1))))))))) (gi (cf zJj [] fun _=>bi 57 (lE zAH [2] []) (gw 59 (lG zAH [] (hself _ _ · m0 m1 hm0 hm1)))))))))) (gw 60 (lG zAH [] (hself _ _ · m0 hm0)))
theorem zQP {n:Nat} {g_:List (List Int)} {r:Int} (h:zQS n g_=some r):EQ 78 [.sl 1 g_.length (zAz zAS g_)] [] (.i r) [] true:=by
 refine ot Tryz.func78 fun B N=>?_
 revert r
 apply gO
 exact bi 9 (lE zAH [2] []) (lN zAH [] ((zVM B N g_ n) _ _ · n Nat.le.refl))
inductive zD0 where
 | l1 (x3:Int)
def zDV (n:Nat) (self:zD0→Option Bool) (q:zAB) (x3:Int):Option Bool:=
 bif (decide (x3<(q.cons.length:Int))) then
  if 0≤x3∧x3<(q.cons.length:Int) then
   bif (decide (((((q.cons.getD ((x3).toNat) default).cells).length:Nat):Int)>20)) then
    some false
   else
    bif (decide (((((q.cons.getD ((x3).toNat) default).runs).length:Nat):Int)>10)) then
     some false
    else
     if R64 (x3+1) then
      self (.l1 (x3+1))
     else none
  else none
 else
  some true
def zIF (n:Nat) (self:zD0→Option Bool) (q:zAB):Option Bool:=
 bif (decide (q.cells>16)) then
  some false
 else
  bif (decide (q.symbols>6)) then
   some false
  else
   bif (decide ((q.values.length:Int)>8)) then
    some false
   else
    bif (decide ((q.nbrs.length:Int)>20)) then
     some false
    else
     bif (decide ((q.cons.length:Int)>120)) then
      some false
     else
      self (.l1 0)
def zBI (q:zAB):Nat→zD0→Option Bool
 | 0,_=>none
 | n+1,.l1 x3=>zDV n (zBI q n) q x3
def zGh (n:Nat) (q:zAB):Option Bool:=zIF n (zBI q n) q
def zON (n B:Nat) (N:Yd 0) (q:zAB) (r:Bool):zD0→Prop
 | .l1 x3=>∀ m0:Nat,n≤m0→TW B N (FQ Tryz.f34 0 (.bool r) []) (toN m0 (zA9 (zAK Tryz.f34) 0 [])) ⟨frm 55 [(1,.ref 0 0),(3,.i x3)],[some (.cells (zAE q))]⟩
theorem zMG (B:Nat) (N:Yd 0) (q:zAB):Al (zBI q) (zON · B N q):=ia (fun _=>rfl) fun n hself pt r h=>by
 cases pt
 case l1 x3=>
  intro m0 hm0
  refine rd hm0 fun m0 hm0=>?_
  revert r
  apply gO
  exact bi 34 (gn fun g0=>jg g0 (bi 44 (lE zAH [2] []) (jg g0 (bi 53 (lE zAH [2] []) (gw 36 (lG zAH [0] (hself _ _ · m0 hm0))))))) (lE zAH [2] [])
theorem zOM {n:Nat} {q:zAB} {r:Bool} (h:zGh n q=some r):EQ 34 [.agg 5 (L1 (zAE q))] [] (.bool r) [] true:=by
 refine ot Tryz.func34 fun B N=>?_
 revert r
 apply gO
 exact bi 6 (lE zAH [2] []) (bi 10 (lE zAH [2] []) (bi 16 (lE zAH [2] []) (bi 22 (lE zAH [2] []) (bi 28 (lE zAH [2] []) (lN zAH [0] ((zMG B N q n) _ _ · n Nat.le.refl))))))
end Go.Proofs.YtekkngkphejfcaaGreatDoor
namespace Go.Proofs.YtekkngkphejfcaaGreatDoor
open Go.RowKit
set_option maxRecDepth 100000
set_option maxHeartbeats 40000000
def zSI (n:Nat) (v lo hi:Int):Option Bool:=
 bif (decide (v<lo)) then
  some true
 else
  some (decide (v>hi))
def zbL (n:Nat) (v lo hi:Int):Option Bool:=zSI n v lo hi
theorem zY7 {n:Nat} {v lo hi:Int} {r:Bool} (h:zbL n v lo hi=some r):EQ 104 [.i v,.fp 1 (L1 [.i lo]),.fp 1 (L1 [.i hi])] [] (.bool r) [] true:=by
 refine ot Tryz.func104 fun B N=>?_
 revert r
 apply gO
 exact bi 7 (lE zAH [4] []) (lE zAH [4] [])
inductive zGZ where
 | l1 (x8:Int)
def zHG (n:Nat) (self:zGZ→Option Int) (l:List Int) (lo hi:Int) (x8:Int):Option Int:=
 bif (decide (x8<(l.length:Int))) then
  if 0≤x8∧x8<(l.length:Int) then
   (zbL n (l.getD ((x8).toNat) 0) lo hi).bind fun y1=>
    bif y1 then
     some x8
    else
     if R64 (x8+1) then
      self (.l1 (x8+1))
     else none
  else none
 else
  some (-1)
def zLc (n:Nat) (self:zGZ→Option Int) (l:List Int) (lo hi:Int):Option Int:=
 self (.l1 0)
def zCo (l:List Int) (lo hi:Int):Nat→zGZ→Option Int
 | 0,_=>none
 | n+1,.l1 x8=>zHG n (zCo l lo hi n) l lo hi x8
def zJ6 (n:Nat) (l:List Int) (lo hi:Int):Option Int:=zLc n (zCo l lo hi n) l lo hi
def zRk (n B:Nat) (N:Yd 0) (l:List Int) (lo hi:Int) (r:Int):zGZ→Prop
 | .l1 x8=>∀ m0:Nat,n≤m0→TW B N (FQ Tryz.f52 0 (.i r) []) (toN m0 (zA9 (zAK Tryz.f52) 0 [])) ⟨frm 19 [(0,.ints l),(1,.fn 104 2 (L1 [.fp 1 (L1 [.i lo]),.fp 1 (L1 [.i hi])])),(7,.i (l.length:Int)),(8,.i x8)],[]⟩
theorem zQA (B:Nat) (N:Yd 0) (l:List Int) (lo hi:Int):Al (zCo l lo hi) (zRk · B N l lo hi):=ia (fun _=>rfl) fun n hself pt r h=>by
 cases pt
 case l1 x8=>
  intro m0 hm0
  refine rd hm0 fun m0 hm0=>?_
  revert r
  apply gO
  exact bi 9 (gi (cf zY7 [] fun _=>bi 16 (lE zAH [4] []) (gw 18 (lG zAH [] (hself _ _ · m0 hm0))))) (lE zAH [4] [])
theorem zRi {n:Nat} {l:List Int} {lo hi:Int} {r:Int} (h:zJ6 n l lo hi=some r):EQ 52 [.ints l,.fn 104 2 (L1 [.fp 1 (L1 [.i lo]),.fp 1 (L1 [.i hi])])] [] (.i r) [] true:=by
 refine ot Tryz.func52 fun B N=>?_
 revert r
 apply gO
 exact lN zAH [] ((zQA B N l lo hi n) _ _ · n Nat.le.refl)
def zD9 (n:Nat) (l:List Int) (lo hi:Int):Option Bool:=
 (zJ6 n l lo hi).bind fun y1=>
  some (decide (y1≥0))
def zFH (n:Nat) (l:List Int) (lo hi:Int):Option Bool:=zD9 n l lo hi
theorem zMH {n:Nat} {l:List Int} {lo hi:Int} {r:Bool} (h:zFH n l lo hi=some r):EQ 45 [.ints l,.fn 104 2 (L1 [.fp 1 (L1 [.i lo]),.fp 1 (L1 [.i hi])])] [] (.bool r) [] true:=by
 unfold zFH zD9 at h
 refine ot Tryz.func45 fun B N=>?_
 revert r
 apply gO
 exact cf zRi [] fun _=>lE zAH [4] []
def zG9 (n:Nat) (l_:List Int) (lo hi:Int):Option Bool:=
 (zFH n l_ lo hi).bind fun y1=>
  some (!y1)
def zDt (n:Nat) (l_:List Int) (lo hi:Int):Option Bool:=zG9 n l_ lo hi
theorem zE5 {n:Nat} {l_:List Int} {lo hi:Int} {r:Bool} (h:zDt n l_ lo hi=some r):EQ 77 [.ints l_,.i lo,.i hi] [] (.bool r) [] true:=by
 unfold zDt zG9 at h
 refine ot Tryz.func77 fun B N=>?_
 revert r
 apply gO
 exact cn fun y1 hy1=>jc (sb [.ints l_,.fn 104 2 (L1 [.ref 0 0,.ref 1 0])] (zMH hy1) [some (.cells [.i lo]),some (.cells [.i hi])] ⟨zA1.plain (by kernel_rfl),(zA1.fnL (l:=[.ref 0 0,.ref 1 0]) (l0:=[.fp 1 (L1 [.i lo]),.fp 1 (L1 [.i hi])]) ⟨(zA1.refL (l:=[.i lo]) (l0:=[.i lo]) rfl ⟨zA1.plain (by kernel_rfl),trivial⟩),(zA1.refL (l:=[.i hi]) (l0:=[.i hi]) rfl ⟨zA1.plain (by kernel_rfl),trivial⟩),trivial⟩),trivial⟩) (lE zAH [6] [])
theorem zT8:SOk (zBa Tryz.f81 24) [([0,1,2,3,5,6,7,8],4),([],9),([10,11,12,13,14],15),([],16),([17,18,19,20,21,22,23,24,25,26],27)] [28,29] []:=by unfold SOk;kernel_rfl
def zAW:Sch:=fun i=>match i with
 | 24=>.ord [([0,1,2,3,5,6,7,8],4),([],9),([10,11,12,13,14],15),([],16),([17,18,19,20,21,22,23,24,25,26],27)] [28,29] []
 | _=>.no
def zM5 (q:zAB) (c_:zAC):DH:=[some (.cells (zAE q)),some (.cells (zAF c_)),some (.ints ([c_.set,c_.other]:List Int)),some (.ints ([c_.lo,c_.hi]:List Int))]
inductive zF5 where
 | l1 (x11:Int) (o2:List Bool)
 | l2
def zIE (n:Nat) (self:zF5→Option Bool) (q:zAB) (c_:zAC) (x11:Int) (o2:List Bool):Option Bool:=
 bif (decide (x11<(c_.cells.length:Int))) then
  if 0≤x11∧x11<(c_.cells.length:Int) then
   bif (decide ((c_.cells.getD ((x11).toNat) 0)<0)) then
    some false
   else
    bif (decide ((c_.cells.getD ((x11).toNat) 0)≥q.cells)) then
     some false
    else
     if (0≤(c_.cells.getD ((x11).toNat) 0)∧(c_.cells.getD ((x11).toNat) 0)<((256:Nat):Int))∧0+((c_.cells.getD ((x11).toNat) 0).toNat)<o2.length then
      bif (o2.getD (0+((c_.cells.getD ((x11).toNat) 0).toNat)) false) then
       some false
      else
       bif (decide (c_.kind≥8)) then
        bif ((c_.cells.getD ((x11).toNat) 0) != x11) then
         some false
        else
         if R64 (x11+1) then
          self (.l1 (x11+1) (o2.set (0+((c_.cells.getD ((x11).toNat) 0).toNat)) true))
         else none
       else
        if R64 (x11+1) then
         self (.l1 (x11+1) (o2.set (0+((c_.cells.getD ((x11).toNat) 0).toNat)) true))
        else none
     else none
  else none
 else
  bif (c_.kind==1) then
   self (.l2)
  else
   bif (c_.kind==2) then
    self (.l2)
   else
    bif (c_.kind==3) then
     self (.l2)
    else
     bif (c_.kind==4) then
      self (.l2)
     else
      bif (c_.kind==5) then
       self (.l2)
      else
       bif (c_.kind==6) then
        bif ((c_.cells.length:Int) != 2) then
         some false
        else
         self (.l2)
       else
        bif (c_.kind==7) then
         bif ((c_.cells.length:Int) != 2) then
          some false
         else
          self (.l2)
        else
         bif (c_.kind==8) then
          bif ((c_.cells.length:Int) != q.cells) then
           some false
          else
           self (.l2)
         else
          bif (c_.kind==9) then
           bif ((c_.cells.length:Int) != q.cells) then
            some false
           else
            self (.l2)
          else
           some false
def zKB (n:Nat) (self:zF5→Option Bool) (q:zAB) (c_:zAC):Option Bool:=
 if (0≤q.symbols∧q.symbols≤(IntKind.i64.bits:Int))∧R64 ((IntKind.i64.wrap (1*2 ^ (q.symbols).toNat))-1) then
  (zDt n ([c_.set,c_.other]:List Int) 0 ((IntKind.i64.wrap (1*2 ^ (q.symbols).toNat))-1)).bind fun y1=>
   bif y1 then
    (zDt n ([c_.lo,c_.hi]:List Int) 0 65536).bind fun y2=>
     bif y2 then
      bif (decide ((c_.runs.length:Int)≤8)) then
       (zDt n c_.runs 1 256).bind fun y3=>
        some y3
      else
       some false
     else
      some false
   else
    some false
 else none
def zTN (n:Nat) (self:zF5→Option Bool) (q:zAB) (c_:zAC):Option Bool:=
 self (.l1 0 (List.replicate 256 false))
def zI1 (q:zAB) (c_:zAC):Nat→zF5→Option Bool
 | 0,_=>none
 | n+1,.l1 x11 o2=>zIE n (zI1 q c_ n) q c_ x11 o2
 | n+1,.l2=>zKB n (zI1 q c_ n) q c_
def zan (n:Nat) (q:zAB) (c_:zAC):Option Bool:=zTN n (zI1 q c_ n) q c_
def zam (n B:Nat) (N:Yd 0) (q:zAB) (c_:zAC) (r:Bool):zF5→Prop
 | .l1 x11 o2=>∀ m0:Nat,n≤m0→TW B N (FQ Tryz.f81 0 (.bool r) []) (toN m0 (zA9 (zAK Tryz.f81) 0 [])) ⟨frm 95 [(2,.ref 0 0),(3,.ref 1 0),(5,.mp 2 1 0 0),(9,.ints c_.cells),(10,.i (c_.cells.length:Int)),(11,.i x11)],[some (.cells (zAE q)),some (.cells (zAF c_)),some (.bools o2)]⟩
 | .l2=>TW B N (FQ Tryz.f81 0 (.bool r) []) (zEd (zAK Tryz.f81) 24 []) ⟨frm 95 [(2,.ref 0 0),(3,.ref 1 0)],[some (.cells (zAE q)),some (.cells (zAF c_))]⟩
theorem zYT (B:Nat) (N:Yd 0) (q:zAB) (c_:zAC):Al (zI1 q c_) (zam · B N q c_):=ia (fun _=>rfl) fun n hself pt r h=>by
 cases pt
 case l1 x11 o2=>
  intro m0 hm0
  refine rd hm0 fun m0 hm0=>?_
  revert r
  apply gO
  exact bi 12 (gi (bi 17 (lE (zAA 24 zAW) [4] []) (bi 22 (lE (zAA 24 zAW) [4] []) (gc (gn fun g1=>jg g1 (gn fun g2=>jg g2 (bi 27 (lE (zAA 24 zAW) [4] []) (bi 32 (bi 36 (lE (zAA 24 zAW) [4] []) (jg g1 (jg g2 (gw 41 (lG (zAA 24 zAW) [0,1,2] (hself _ _ · m0 hm0)))))) (jg g1 (jg g2 (gw 41 (lG (zAA 24 zAW) [0,1,2] (hself _ _ · m0 hm0))))))))))))) (bi 45 (lG (zAA 24 zAW) [0,1] (hself _ _ ·)) (bi 46 (lG (zAA 24 zAW) [0,1] (hself _ _ ·)) (bi 47 (lG (zAA 24 zAW) [0,1] (hself _ _ ·)) (bi 48 (lG (zAA 24 zAW) [0,1] (hself _ _ ·)) (bi 49 (lG (zAA 24 zAW) [0,1] (hself _ _ ·)) (bi 51 (bi 56 (lE (zAA 24 zAW) [4] []) (lG (zAA 24 zAW) [0,1] (hself _ _ ·))) (bi 52 (bi 56 (lE (zAA 24 zAW) [4] []) (lG (zAA 24 zAW) [0,1] (hself _ _ ·))) (bi 58 (bi 65 (lE (zAA 24 zAW) [4] []) (lG (zAA 24 zAW) [0,1] (hself _ _ ·))) (bi 59 (bi 65 (lE (zAA 24 zAW) [4] []) (lG (zAA 24 zAW) [0,1] (hself _ _ ·))) (lE (zAA 24 zAW) [4] []))))))))))
 case l2=>
  revert r
  apply gO
  exact jg zT8 (gc (gi (gw 74 (cn fun y1 hy1=>jc (sb [.msl 2 1 0 2,.i 0,.i ((IntKind.i64.wrap (1*2 ^ (q.symbols).toNat))-1)] (zE5 hy1) [some (.cells (zAE q)),some (.cells (zAF c_)),some (.ints ([c_.set,c_.other]:List Int))] ⟨zA1.ints rfl (Eq.refl 2),zA1.plain (by kernel_rfl),zA1.plain (by kernel_rfl),trivial⟩) (bi 75 (cn fun y2 hy2=>jc (sb [.msl 3 1 0 2,.i 0,.i 65536] (zE5 hy2) (zM5 q c_) ⟨zA1.ints rfl (Eq.refl 2),zA1.plain (by kernel_rfl),zA1.plain (by kernel_rfl),trivial⟩) (bi 82 (bi 88 (cf zE5 (zM5 q c_) fun _=>lE zAW [4] []) (lE zAW [4] [])) (lE zAW [4] []))) (lE zAW [4] []))))))
theorem zak {n:Nat} {q:zAB} {c_:zAC} {r:Bool} (h:zan n q c_=some r):EQ 81 [.agg 5 (L1 (zAE q)),.agg 9 (L1 (zAF c_))] [] (.bool r) [] true:=by
 refine ot Tryz.func81 fun B N=>?_
 revert r
 apply gO
 exact lN (zAA 24 zAW) [0,1,2] ((zYT B N q c_ n) _ _ · n Nat.le.refl)
def zKH (n:Nat) (c:zAC) (q:zAB):Option Bool:=
 (zan n q c).bind fun y1=>
  some (!y1)
def zSM (n:Nat) (c:zAC) (q:zAB):Option Bool:=zKH n c q
theorem zVq {n:Nat} {c:zAC} {q:zAB} {r:Bool} (h:zSM n c q=some r):EQ 80 [.agg 9 (L1 (zAF c)),.fp 5 (L1 (zAE q))] [] (.bool r) [] true:=by
 unfold zSM zKH at h
 refine ot Tryz.func80 fun B N=>?_
 revert r
 apply gO
 exact cf zak [some (.cells (zAF c))] fun _=>lE zAH [3] []
inductive zDT where
 | l1 (x8:Int)
def zCu (n:Nat) (self:zDT→Option Int) (l:List zAC) (q:zAB) (x8:Int):Option Int:=
 bif (decide (x8<(l.length:Int))) then
  if 0≤x8∧x8<(l.length:Int) then
   (zSM n (l.getD ((x8).toNat) default) q).bind fun y1=>
    bif y1 then
     some x8
    else
     if R64 (x8+1) then
      self (.l1 (x8+1))
     else none
  else none
 else
  some (-1)
def zGs (n:Nat) (self:zDT→Option Int) (l:List zAC) (q:zAB):Option Int:=
 self (.l1 0)
def zBG (l:List zAC) (q:zAB):Nat→zDT→Option Int
 | 0,_=>none
 | n+1,.l1 x8=>zCu n (zBG l q n) l q x8
def zFF (n:Nat) (l:List zAC) (q:zAB):Option Int:=zGs n (zBG l q n) l q
def zMF (n B:Nat) (N:Yd 0) (l:List zAC) (q:zAB) (r:Int):zDT→Prop
 | .l1 x8=>∀ m0:Nat,n≤m0→TW B N (FQ Tryz.f106 0 (.i r) []) (toN m0 (zA9 (zAK Tryz.f106) 0 [])) ⟨frm 19 [(0,.sl 9 l.length (zAz zAF l)),(1,.fn 80 1 (L1 [.fp 5 (L1 (zAE q))])),(7,.i (l.length:Int)),(8,.i x8)],[]⟩
theorem zLb (B:Nat) (N:Yd 0) (l:List zAC) (q:zAB):Al (zBG l q) (zMF · B N l q):=ia (fun _=>rfl) fun n hself pt r h=>by
 cases pt
 case l1 x8=>
  intro m0 hm0
  refine rd hm0 fun m0 hm0=>?_
  revert r
  apply gO
  exact bi 9 (gi (cf zVq [] fun _=>bi 16 (lE zAH [4] []) (gw 18 (lG zAH [] (hself _ _ · m0 hm0))))) (lE zAH [4] [])
theorem zME {n:Nat} {l:List zAC} {q:zAB} {r:Int} (h:zFF n l q=some r):EQ 106 [.sl 9 l.length (zAz zAF l),.fn 80 1 (L1 [.fp 5 (L1 (zAE q))])] [] (.i r) [] true:=by
 refine ot Tryz.func106 fun B N=>?_
 revert r
 apply gO
 exact lN zAH [] ((zLb B N l q n) _ _ · n Nat.le.refl)
def zCr (n:Nat) (l:List zAC) (q:zAB):Option Bool:=
 (zFF n l q).bind fun y1=>
  some (decide (y1≥0))
def zCw (n:Nat) (l:List zAC) (q:zAB):Option Bool:=zCr n l q
theorem zI3 {n:Nat} {l:List zAC} {q:zAB} {r:Bool} (h:zCw n l q=some r):EQ 79 [.sl 9 l.length (zAz zAF l),.fn 80 1 (L1 [.fp 5 (L1 (zAE q))])] [] (.bool r) [] true:=by
 unfold zCw zCr at h
 refine ot Tryz.func79 fun B N=>?_
 revert r
 apply gO
 exact cf zME [] fun _=>lE zAH [4] []
def zSK (n:Nat) (q:zAB):Option Int:=
 bif (decide (q.cells<1)) then
  some 191
 else
  bif (decide (q.cells>256)) then
   some 191
  else
   bif (decide (q.symbols<1)) then
    some 191
   else
    bif (decide (q.symbols>16)) then
     some 191
    else
     bif ((q.values.length:Int) != q.symbols) then
      some 191
     else
      (zDt n q.values 0 99).bind fun y1=>
       bif (!y1) then
        some 191
       else
        bif ((q.nbrs.length:Int) != q.cells) then
         some 191
        else
         (zQS n q.nbrs).bind fun y2=>
          bif (y2 != 0) then
           some 191
          else
           bif (decide ((q.cons.length:Int)>4096)) then
            some 191
           else
            (zCw n q.cons q).bind fun y3=>
             bif y3 then
              some 191
             else
              some 0
def valid (n:Nat) (q:zAB):Option Int:=zSK n q
theorem zSJ {n:Nat} {q:zAB} {r:Int} (h:valid n q=some r):EQ 56 [.agg 5 (L1 (zAE q))] [] (.i r) [] true:=by
 refine ot Tryz.func56 fun B N=>?_
 revert r
 apply gO
 exact bi 5 (lE zAH [2] []) (bi 9 (lE zAH [2] []) (bi 14 (lE zAH [2] []) (bi 19 (lE zAH [2] []) (bi 27 (lE zAH [2] []) (cf zE5 [some (.cells (zAE q))] fun _=>bi 33 (lE zAH [2] []) (bi 40 (lE zAH [2] []) (cf zQP [some (.cells (zAE q))] fun _=>bi 45 (lE zAH [2] []) (bi 51 (lE zAH [2] []) (cn fun y3 hy3=>jc (sb [.sl 9 q.cons.length (zAz zAF q.cons),.fn 80 1 (L1 [.ref 0 0])] (zI3 hy3) [some (.cells (zAE q))] ⟨zA1.plain (by kernel_rfl),(zA1.fnL (l:=[.ref 0 0]) (l0:=[.fp 5 (L1 (zAE q))]) ⟨(zA1.refL (l:=(zAE q)) (l0:=(zAE q)) rfl ⟨zA1.plain (by kernel_rfl),zA1.plain (by kernel_rfl),zA1.plain (by kernel_rfl),zA1.plain (by kernel_rfl),zA1.plain (by kernel_rfl),trivial⟩),trivial⟩),trivial⟩) (bi 56 (lE zAH [2] []) (lE zAH [2] [])))))))))))
def zLS (n:Nat) (q:zAB) (i:Int):Option (Int×Int):=
 (valid n q).bind fun y1=>
  bif (y1 != 0) then
   some (0,y1)
  else
   bif (decide (i<0)) then
    some (0,260)
   else
    bif (decide (i≥(q.cons.length:Int))) then
     some (0,260)
    else
     if (0≤i∧i<(q.cons.length:Int))∧((0:Int)≤((q.cons.getD ((i).toNat) default).kind)∧((q.cons.getD ((i).toNat) default).kind)<((10:Nat):Int)) then
      some (([0,1,1,2,2,3,1,1,4,4]:List Int).getD ((q.cons.getD ((i).toNat) default).kind).toNat 0,0)
     else none
def zLT (n:Nat) (q:zAB) (i:Int):Option (Int×Int):=zLS n q i
theorem zLR {n:Nat} {q:zAB} {i:Int} {r:Int×Int} (h:zLT n q i=some r):EQ 32 [.agg 5 (L1 (zAE q)),.i i] [] (.tup 2 (L1 [.i r.1,.i r.2])) [] true:=by
 unfold zLT zLS at h
 refine ot Tryz.func32 fun B N=>?_
 revert r
 apply gO
 exact cf zSJ [some (.cells (zAE q))] fun _=>bi 10 (lE zAH [4,5] []) (bi 13 (lE zAH [4,5] []) (bi 19 (lE zAH [4,5] []) (gc (gi (gn fun g1=>jg g1 (jo 28 (DLe.ixI [0,1,1,2,2,3,1,1,4,4] rfl g1) (lE zAH [4,5] [])))))))
inductive zNd where
 | l1 (x7:Int)
def zHg (n:Nat) (self:zNd→Option Bool) (c_:zAC) (cells symbols:Int) (x7:Int):Option Bool:=
 bif (decide (x7<(c_.cells.length:Int))) then
  bif (c_.kind==8) then
   if 0≤x7∧x7<(c_.cells.length:Int) then
    bif ((c_.cells.getD ((x7).toNat) 0) != x7) then
     some false
    else
     if R64 (x7+1) then
      self (.l1 (x7+1))
     else none
   else none
  else
   bif (c_.kind==9) then
    if 0≤x7∧x7<(c_.cells.length:Int) then
     bif ((c_.cells.getD ((x7).toNat) 0) != x7) then
      some false
     else
      if R64 (x7+1) then
       self (.l1 (x7+1))
      else none
    else none
   else
    if R64 (x7+1) then
     self (.l1 (x7+1))
    else none
 else
  if (0≤symbols∧symbols≤(IntKind.i64.bits:Int))∧R64 ((IntKind.i64.wrap (1*2 ^ (symbols).toNat))-1) then
   (zGF n ([c_.set,c_.other]:List Int) 0 ((IntKind.i64.wrap (1*2 ^ (symbols).toNat))-1)).bind fun y1=>
    bif y1 then
     (zGF n ([c_.lo,c_.hi]:List Int) 0 65536).bind fun y2=>
      bif y2 then
       bif (decide ((c_.runs.length:Int)≤8)) then
        (zGF n c_.runs 1 256).bind fun y3=>
         some y3
       else
        some false
      else
       some false
    else
     some false
  else none
def zSb (n:Nat) (self:zNd→Option Bool) (c_:zAC) (cells symbols:Int):Option Bool:=
 bif (decide (c_.kind<1)) then
  some false
 else
  bif (decide (c_.kind>9)) then
   some false
  else
   bif (decide ((c_.cells.length:Int)>cells)) then
    some false
   else
    if R64 (cells-1) then
     (zGF n c_.cells 0 (cells-1)).bind fun y1=>
      bif (!y1) then
       some false
      else
       (zIH n c_.cells).bind fun y2=>
        bif (!y2) then
         some false
        else
         bif (c_.kind==6) then
          bif ((c_.cells.length:Int) != 2) then
           some false
          else
           bif (c_.kind==8) then
            bif ((c_.cells.length:Int) != cells) then
             some false
            else
             self (.l1 0)
           else
            bif (c_.kind==9) then
             bif ((c_.cells.length:Int) != cells) then
              some false
             else
              self (.l1 0)
            else
             self (.l1 0)
         else
          bif (c_.kind==7) then
           bif ((c_.cells.length:Int) != 2) then
            some false
           else
            bif (c_.kind==8) then
             bif ((c_.cells.length:Int) != cells) then
              some false
             else
              self (.l1 0)
            else
             bif (c_.kind==9) then
              bif ((c_.cells.length:Int) != cells) then
               some false
              else
               self (.l1 0)
             else
              self (.l1 0)
          else
           bif (c_.kind==8) then
            bif ((c_.cells.length:Int) != cells) then
             some false
            else
             self (.l1 0)
           else
            bif (c_.kind==9) then
             bif ((c_.cells.length:Int) != cells) then
              some false
             else
              self (.l1 0)
            else
             self (.l1 0)
    else none
def zFe (c_:zAC) (cells symbols:Int):Nat→zNd→Option Bool
 | 0,_=>none
 | n+1,.l1 x7=>zHg n (zFe c_ cells symbols n) c_ cells symbols x7
def zZc (n:Nat) (c_:zAC) (cells symbols:Int):Option Bool:=zSb n (zFe c_ cells symbols n) c_ cells symbols
def zZb (n B:Nat) (N:Yd 0) (c_:zAC) (cells symbols:Int) (r:Bool):zNd→Prop
 | .l1 x7=>∀ m0:Nat,n≤m0→TW B N (FQ Tryz.f76 0 (.bool r) []) (toN m0 (zA9 (zAK Tryz.f76) 0 [])) ⟨frm 120 [(2,.i symbols),(3,.ref 0 0),(7,.i x7)],[some (.cells (zAF c_))]⟩
theorem zWk (B:Nat) (N:Yd 0) (c_:zAC) (cells symbols:Int):Al (zFe c_ cells symbols) (zZb · B N c_ cells symbols):=ia (fun _=>rfl) fun n hself pt r h=>by
 cases pt
 case l1 x7=>
  intro m0 hm0
  refine rd hm0 fun m0 hm0=>?_
  revert r
  apply gO
  exact bi 71 (bi 76 (gi (bi 89 (lE zAH [6] []) (gw 73 (lG zAH [0] (hself _ _ · m0 hm0))))) (bi 80 (gi (bi 89 (lE zAH [6] []) (gw 73 (lG zAH [0] (hself _ _ · m0 hm0))))) (gw 73 (lG zAH [0] (hself _ _ · m0 hm0))))) (gc (gi (gw 93 (cn fun y1 hy1=>jc (sb [.msl 1 1 0 2,.i 0,.i ((IntKind.i64.wrap (1*2 ^ (symbols).toNat))-1)] (zEa hy1) [some (.cells (zAF c_)),some (.ints ([c_.set,c_.other]:List Int))] ⟨zA1.ints rfl (Eq.refl 2),zA1.plain (by kernel_rfl),zA1.plain (by kernel_rfl),trivial⟩) (bi 100 (cn fun y2 hy2=>jc (sb [.msl 2 1 0 2,.i 0,.i 65536] (zEa hy2) [some (.cells (zAF c_)),some (.ints ([c_.set,c_.other]:List Int)),some (.ints ([c_.lo,c_.hi]:List Int))] ⟨zA1.ints rfl (Eq.refl 2),zA1.plain (by kernel_rfl),zA1.plain (by kernel_rfl),trivial⟩) (bi 107 (bi 113 (cf zEa [some (.cells (zAF c_)),some (.ints ([c_.set,c_.other]:List Int)),some (.ints ([c_.lo,c_.hi]:List Int))] fun _=>lE zAH [6] []) (lE zAH [6] [])) (lE zAH [6] []))) (lE zAH [6] []))))))
theorem zZZ {n:Nat} {c_:zAC} {cells symbols:Int} {r:Bool} (h:zZc n c_ cells symbols=some r):EQ 76 [.agg 9 (L1 (zAF c_)),.i cells,.i symbols] [] (.bool r) [] true:=by
 have hself:=fun B N=>(zWk B N c_ cells symbols n)
 refine ot Tryz.func76 fun B N=>?_
 revert r
 apply gO
 exact bi 11 (lE zAH [6] []) (bi 15 (lE zAH [6] []) (bi 22 (lE zAH [6] []) (gw 28 (cf zEa [some (.cells (zAF c_))] fun _=>bi 30 (lE zAH [6] []) (cf zQa [some (.cells (zAF c_))] fun _=>bi 36 (lE zAH [6] []) (bi 40 (bi 50 (lE zAH [6] []) (bi 54 (bi 65 (lE zAH [6] []) (lN zAH [0] ((hself B N) _ _ · n Nat.le.refl))) (bi 58 (bi 65 (lE zAH [6] []) (lN zAH [0] ((hself B N) _ _ · n Nat.le.refl))) (lN zAH [0] ((hself B N) _ _ · n Nat.le.refl))))) (bi 44 (bi 50 (lE zAH [6] []) (bi 54 (bi 65 (lE zAH [6] []) (lN zAH [0] ((hself B N) _ _ · n Nat.le.refl))) (bi 58 (bi 65 (lE zAH [6] []) (lN zAH [0] ((hself B N) _ _ · n Nat.le.refl))) (lN zAH [0] ((hself B N) _ _ · n Nat.le.refl))))) (bi 54 (bi 65 (lE zAH [6] []) (lN zAH [0] ((hself B N) _ _ · n Nat.le.refl))) (bi 58 (bi 65 (lE zAH [6] []) (lN zAH [0] ((hself B N) _ _ · n Nat.le.refl))) (lN zAH [0] ((hself B N) _ _ · n Nat.le.refl)))))))))))
theorem zTr:SOk (zBa Tryz.f54 8) [([0,1,2,3,4,5,6,7,8],9)] [10] []:=by unfold SOk;kernel_rfl
def zA5:Sch:=fun i=>match i with
 | 8=>.ord [([0,1,2,3,4,5,6,7,8],9)] [10] []
 | _=>.no
inductive zJu where
 | l1 (x3:Int)
def zHW (n:Nat) (self:zJu→Option Int) (q:zAB) (x3:Int):Option Int:=
 bif (decide (x3<(q.cons.length:Int))) then
  if 0≤x3∧x3<(q.cons.length:Int) then
   (zZc n (q.cons.getD ((x3).toNat) default) q.cells q.symbols).bind fun y1=>
    bif (!y1) then
     some 191
    else
     if R64 (x3+1) then
      self (.l1 (x3+1))
     else none
  else none
 else
  some 0
def zO6 (n:Nat) (self:zJu→Option Int) (q:zAB):Option Int:=
 bif (decide (q.cells<1)) then
  some 191
 else
  bif (decide (q.cells>256)) then
   some 191
  else
   bif (decide (q.symbols<1)) then
    some 191
   else
    bif (decide (q.symbols>16)) then
     some 191
    else
     bif ((q.values.length:Int) != q.symbols) then
      some 191
     else
      (zGF n q.values 0 99).bind fun y1=>
       bif (!y1) then
        some 191
       else
        bif ((q.nbrs.length:Int) != q.cells) then
         some 191
        else
         (zJV n q.nbrs).bind fun y2=>
          bif (y2 != 0) then
           some 191
          else
           bif (decide ((q.cons.length:Int)>4096)) then
            some 191
           else
            self (.l1 0)
def zDn (q:zAB):Nat→zJu→Option Int
 | 0,_=>none
 | n+1,.l1 x3=>zHW n (zDn q n) q x3
def zO8 (n:Nat) (q:zAB):Option Int:=zO6 n (zDn q n) q
def zWZ (n B:Nat) (N:Yd 0) (q:zAB) (r:Int):zJu→Prop
 | .l1 x3=>∀ m0:Nat,n≤m0→TW B N (FQ Tryz.f54 0 (.i r) []) (toN m0 (zA9 (zAK Tryz.f54) 0 [])) ⟨frm 72 [(1,.ref 0 0),(3,.i x3)],[some (.cells (zAE q))]⟩
theorem zUC (B:Nat) (N:Yd 0) (q:zAB):Al (zDn q) (zWZ · B N q):=ia (fun _=>rfl) fun n hself pt r h=>by
 cases pt
 case l1 x3=>
  intro m0 hm0
  refine rd hm0 fun m0 hm0=>?_
  revert r
  apply gO
  exact bi 58 (jg zTr (gi (cf zZZ [some (.cells (zAE q))] fun _=>bi 71 (lE zA5 [2] []) (gw 60 (lG zA5 [0] (hself _ _ · m0 hm0)))))) (lE zA5 [2] [])
theorem zO5 {n:Nat} {q:zAB} {r:Int} (h:zO8 n q=some r):EQ 54 [.agg 5 (L1 (zAE q))] [] (.i r) [] true:=by
 refine ot Tryz.func54 fun B N=>?_
 revert r
 apply gO
 exact bi 6 (lE zA5 [2] []) (bi 10 (lE zA5 [2] []) (bi 15 (lE zA5 [2] []) (bi 20 (lE zA5 [2] []) (bi 28 (lE zA5 [2] []) (cf zEa [some (.cells (zAE q))] fun _=>bi 34 (lE zA5 [2] []) (bi 41 (lE zA5 [2] []) (cf zKr [some (.cells (zAE q))] fun _=>bi 46 (lE zA5 [2] []) (bi 52 (lE zA5 [2] []) (lN zA5 [0] ((zUC B N q n) _ _ · n Nat.le.refl))))))))))
def zKi (n:Nat) (q:zAB) (i:Int):Option (Int×Int):=
 (zO8 n q).bind fun y1=>
  bif (y1 != 0) then
   some (0,y1)
  else
   bif (decide (i<0)) then
    some (0,260)
   else
    bif (decide (i≥(q.cons.length:Int))) then
     some (0,260)
    else
     if 0≤i∧i<(q.cons.length:Int) then
      bif (((q.cons.getD ((i).toNat) default).kind)==4) then
       some (2,0)
      else
       bif (((q.cons.getD ((i).toNat) default).kind)==3) then
        some (2,0)
       else
        bif (((q.cons.getD ((i).toNat) default).kind)==5) then
         some (3,0)
        else
         bif (((q.cons.getD ((i).toNat) default).kind)==8) then
          some (4,0)
         else
          bif (((q.cons.getD ((i).toNat) default).kind)==9) then
           some (4,0)
          else
           some (1,0)
     else none
def zPI (n:Nat) (q:zAB) (i:Int):Option (Int×Int):=zKi n q i
theorem zWd {n:Nat} {q:zAB} {i:Int} {r:Int×Int} (h:zPI n q i=some r):EQ 67 [.agg 5 (L1 (zAE q)),.i i] [] (.tup 2 (L1 [.i r.1,.i r.2])) [] true:=by
 unfold zPI zKi at h
 refine ot Tryz.func67 fun B N=>?_
 revert r
 apply gO
 exact cf zO5 [some (.cells (zAE q))] fun _=>bi 10 (lE zAH [4,5] []) (bi 13 (lE zAH [4,5] []) (bi 19 (lE zAH [4,5] []) (gi (bi 28 (lE zAH [4,5] []) (bi 29 (lE zAH [4,5] []) (bi 31 (lE zAH [4,5] []) (bi 33 (lE zAH [4,5] []) (bi 34 (lE zAH [4,5] []) (lE zAH [4,5] [])))))))))
def zYU (n:Nat) (q:zAB) (pos:List Int):Option Bool:=
 (zGh n q).bind fun y1=>
  bif y1 then
   some (decide ((pos.length:Int)≤20))
  else
   some false
def few (n:Nat) (q:zAB) (pos:List Int):Option Bool:=zYU n q pos
theorem zdB {n:Nat} {q:zAB} {pos:List Int} {r:Bool} (h:few n q pos=some r):EQ 8 [.agg 5 (L1 (zAE q)),.ints pos] [] (.bool r) [] true:=by
 unfold few zYU at h
 refine ot Tryz.func8 fun B N=>?_
 revert r
 apply gO
 exact cf zOM [some (.cells (zAE q))] fun _=>bi 6 (lE zAH [4] []) (lE zAH [4] [])
end Go.Proofs.YtekkngkphejfcaaGreatDoor
namespace Go.Proofs.YtekkngkphejfcaaGreatDoor
def zLf (lo hi:Int) (n:Int):Bool:=decide (lo≤n)&&decide (n≤hi)
def zA2 (xs:List Int) (lo hi:Int):Bool:=xs.all (zLf lo hi)
def zCi (g:List (List Int)) (i:Nat) (l:List Int) (k:Nat):Bool:=
 let n:=l.getD k 0
 decide (0≤n)&&decide (n<g.length)&&(n != i)&&(!decide (0<k)||decide (l.getD (k-1) 0<n))&&(g.getD n.toNat []).contains (i:Int)
def zJp (g:List (List Int)) (i:Nat) (l:List Int):Bool:=(List.range l.length).all (zCi g i l)
def zDg (g:List (List Int)):Bool:=decide (g.length≤256)&&(List.range g.length).all fun i=>zJp g i (g.getD i [])
def zLx (n kind:Int) (cells:List Int) (i:Nat):Bool:=
 let x:=cells.getD i 0
 decide (0≤x)&&decide (x<n)&&!(cells.take i).contains x&&(!decide (8≤kind)||x==(i:Int))
def zOU (n kind:Int) (cells:List Int):Bool:=(List.range cells.length).all (zLx n kind cells)
def zDI (n kind:Int) (len:Nat):Bool:=
 (decide (1≤kind)&&decide (kind≤5))||((kind==6||kind==7)&&len==2)||((kind==8||kind==9)&&(len:Int)==n)
def zC9 (q:zAB) (c:zAC):Bool:=
 zOU q.cells c.kind c.cells&&zDI q.cells c.kind c.cells.length&&
 zA2 [c.set,c.other] 0 (2 ^ q.symbols.toNat-1)&&zA2 [c.lo,c.hi] 0 65536&&decide (c.runs.length≤8)&&zA2 c.runs 1 256
def zLK (l:List Int):Bool:=(List.range l.length).all fun i=>!(l.take i).contains (l.getD i 0)
def zSc (c:zAC) (n sy:Int):Bool:=
 (decide (1≤c.kind)&&decide (c.kind≤9))&&decide ((c.cells.length:Int)≤n)&&zA2 c.cells 0 (n-1)&&zLK c.cells&&
 (!(c.kind==6||c.kind==7)||c.cells.length==2)&&(!(c.kind==8||c.kind==9)||((c.cells.length:Int)==n))&&
 (!(c.kind==8||c.kind==9)||(List.range c.cells.length).all fun i=>c.cells.getD i 0==(i:Int))&&
 zA2 [c.set,c.other] 0 (2 ^ sy.toNat-1)&&zA2 [c.lo,c.hi] 0 65536&&decide (c.runs.length≤8)&&zA2 c.runs 1 256
theorem zJ2: ∀ (n:Nat) (l:List Int),l.Nodup→(∀ x∈l,0≤x∧x<(n:Int))→l.length≤n
 | 0,l,_,h=>by
  cases l with
  | nil=>simp
  | cons a l=>have:=h a (by simp);omega
 | n+1,l,hd,h=>by
  have h1:(l.erase (n:Int)).length≤n:=zJ2 n _ (hd.erase _) (fun x hx=>by
   have:=hd.mem_erase_iff.1 hx
   have h2:=h x this.2
   have h3:=this.1
   omega)
  by_cases hm:(n:Int)∈l
  ·have:=List.length_erase_of_mem hm
   omega
  ·rw [List.erase_of_not_mem hm] at h1;omega
theorem zMs {l:List Int}:zLK l=true↔l.Nodup:=by
 unfold zLK List.Nodup
 rw [List.all_eq_true,List.pairwise_iff_getElem]
 constructor
 ·intro h i j hi hj hij e
  have:=h j (by simpa using hj)
  simp only [List.getD_eq_getElem?_getD,List.getElem?_eq_getElem hj,Option.getD_some,Bool.not_eq_true'] at this
  rw [Bool.eq_false_iff,ne_eq,List.contains_iff_mem,List.mem_take_iff_getElem] at this
  exact this ⟨i,by omega,e⟩
 ·intro h i hi
  have hi':i<l.length:=by simpa using hi
  simp only [List.getD_eq_getElem?_getD,List.getElem?_eq_getElem hi',Option.getD_some,Bool.not_eq_true']
  rw [Bool.eq_false_iff,ne_eq,List.contains_iff_mem,List.mem_take_iff_getElem]
  rintro ⟨j,hj,e⟩
  exact h j i (by omega) hi' (by omega) e
theorem zED {l:List Int} {lo hi:Int}:zA2 l lo hi=true↔∀ x∈l,lo≤x∧x≤hi:=by
 unfold zA2;simp [zLf]
theorem zLw {n kind:Int} {cells:List Int}:zOU n kind cells=true↔(∀ x∈cells,0≤x∧x<n)∧cells.Nodup∧(8≤kind→∀ j,j<cells.length→cells.getD j 0=(j:Int)):=by
 rw [←zMs]
 unfold zOU zLK zLx
 simp only [List.all_eq_true,List.mem_range,Bool.and_eq_true,decide_eq_true_eq,Bool.or_eq_true,Bool.not_eq_true',beq_iff_eq,decide_eq_false_iff_not]
 constructor
 ·intro h
  refine ⟨fun x hx=>?_,fun j hj=>(h j hj).1.2,fun h8 j hj=>?_⟩
  ·obtain ⟨j,hj,rfl⟩:=List.getElem_of_mem hx
   have:=(h j hj).1.1
   simpa [hj] using this
  ·rcases (h j hj).2 with h' | h'
   ·exact absurd h8 h'
   ·exact h'
 ·rintro ⟨h1,h2,h3⟩ j hj
  have hx:=h1 _ (List.getElem_mem hj)
  refine ⟨⟨by simpa [hj] using hx,h2 j hj⟩,?_⟩
  by_cases h8:8≤kind
  ·exact .inr (h3 h8 j hj)
  ·exact .inl h8
theorem zZa (q:zAB) (c:zAC) (h1:1≤q.cells):zSc c q.cells q.symbols=zC9 q c:=by
 rw [Bool.eq_iff_iff]
 unfold zSc zC9
 simp only [Bool.and_eq_true,zLw,zMs,zED (l:=c.cells),Bool.or_eq_true,Bool.not_eq_true',Bool.or_eq_false_iff,beq_iff_eq,beq_eq_false_iff_ne,decide_eq_true_eq,List.all_eq_true,List.mem_range,zDI]
 constructor
 ·rintro ⟨⟨⟨⟨⟨⟨⟨⟨⟨⟨⟨k1,k2⟩,k3⟩,k4⟩,k5⟩,k6⟩,k7⟩,k8⟩,k9⟩,k10⟩,k11⟩,k12⟩
  refine ⟨⟨⟨⟨⟨⟨fun x hx=>⟨(k4 x hx).1,by have:=(k4 x hx).2;omega⟩,k5,fun h8=>?_⟩,?_⟩,k9⟩,k10⟩,k11⟩,k12⟩
  ·rcases k8 with h | h
   ·omega
   ·exact h
  ·rcases k6 with h6 | h6 <;> rcases k7 with h7 | h7
   ·left;left;omega
   ·by_cases h:c.kind=8∨c.kind=9
    ·right;exact ⟨h,h7⟩
    ·left;left;omega
   ·by_cases h:c.kind=6∨c.kind=7
    ·left;right;exact ⟨h,h6⟩
    ·left;left;omega
   ·by_cases h:c.kind=6∨c.kind=7
    ·left;right;exact ⟨h,h6⟩
    ·by_cases h2:c.kind=8∨c.kind=9
     ·right;exact ⟨h2,h7⟩
     ·left;left;omega
 ·rintro ⟨⟨⟨⟨⟨⟨k1,k2,k3⟩,k4⟩,k9⟩,k10⟩,k11⟩,k12⟩
  have hlen:(c.cells.length:Int)≤q.cells:=by
   have:=zJ2 q.cells.toNat c.cells k2 (fun x hx=>by have:=k1 x hx;omega)
   omega
  refine ⟨⟨⟨⟨⟨⟨⟨⟨⟨⟨⟨by omega,by omega⟩,hlen⟩,fun x hx=>⟨(k1 x hx).1,by have:=(k1 x hx).2;omega⟩⟩,k2⟩,?_⟩,?_⟩,?_⟩,k9⟩,k10⟩,k11⟩,k12⟩
  ·rcases k4 with (h | h) | h
   ·left;omega
   ·right;exact h.2
   ·left;omega
  ·rcases k4 with (h | h) | h
   ·left;omega
   ·left;omega
   ·right;exact h.2
  ·by_cases h8:8≤c.kind
   ·right;exact k3 h8
   ·left;omega
def zDH (q:zAB):Bool:=
 decide (1≤q.cells)&&decide (q.cells≤256)&&decide (1≤q.symbols)&&decide (q.symbols≤16)&&((q.values.length:Int)==q.symbols)&&zA2 q.values 0 99&&
 ((q.nbrs.length:Int)==q.cells)&&zDg q.nbrs&&decide (q.cons.length≤4096)&&q.cons.all (zC9 q)
def lvl (kind:Int):Int:=if kind=3∨kind=4 then 2 else if kind=5 then 3 else if kind=8∨kind=9 then 4 else 1
def zDe (q:zAB) (i:Int):Int×Int:=
 if zDH q=false then (0,191) else if 0≤i∧i<q.cons.length then (lvl ((q.cons.getD i.toNat default).kind),0) else (0,260)
theorem zAo {q:zAB} (h:zDH q=true):(1≤q.cells∧q.cells≤256)∧(1≤q.symbols∧q.symbols≤16)∧((q.values.length:Int)=q.symbols∧zA2 q.values 0 99=true)∧
 ((q.nbrs.length:Int)=q.cells∧zDg q.nbrs=true)∧q.cons.length≤4096∧∀ c∈q.cons,zC9 q c=true:=by
 unfold zDH at h
 simp only [Bool.and_eq_true,decide_eq_true_eq,beq_iff_eq,List.all_eq_true] at h
 obtain ⟨⟨⟨⟨⟨⟨⟨⟨⟨h1,h2⟩,h3⟩,h4⟩,h5⟩,h6⟩,h7⟩,h8⟩,h9⟩,h10⟩:=h
 exact ⟨⟨h1,h2⟩,⟨h3,h4⟩,⟨h5,h6⟩,⟨h7,h8⟩,h9,h10⟩
theorem zJe {q:zAB} {c:zAC} (h:zC9 q c=true):zDI q.cells c.kind c.cells.length=true:=by
 unfold zC9 at h;simp only [Bool.and_eq_true] at h;exact h.1.1.1.1.2
theorem zEU {n kind:Int} {len:Nat} (h:zDI n kind len=true):1≤kind∧kind≤9:=by
 unfold zDI at h;simp at h;omega
theorem zCn {k:Int} (h:1≤k∧k≤9):k=1∨k=2∨k=3∨k=4∨k=5∨k=6∨k=7∨k=8∨k=9:=by omega
end Go.Proofs.YtekkngkphejfcaaGreatDoor
namespace Go.Proofs.YtekkngkphejfcaaGreatDoor
open Go.RowKit
theorem zV7 {R:Type} (m:Nat→Int→Option R) (len N0:Nat) (B:Nat→Option R) (h0: ∀ (n i:Nat),N0≤n→i<len→m (n+1) (i:Int)=(B i).or (m n ((i:Int)+1))):
 ∀ (k i n:Nat),i+k=len→N0≤n→m (n+k) (i:Int)=((List.range' i k).findSome? B).or (m n (len:Int))
 | 0,i,n,h,hn=>by
  have:i=len:=by omega
  subst this;rfl
 | k+1,i,n,h,hn=>by
  show m (n+k+1) (i:Int)=_
  rw [h0 (n+k) i (by omega) (by omega),List.range'_succ,List.findSome?_cons]
  cases B i with
  | some r=>rfl
  | none=>
   have:=zV7 m len N0 B h0 k (i+1) n (by omega) hn
   rw [←this]
   simp
theorem zKd {R:Type} (m:Nat→Int→Option R) (len N0:Nat) (B:Nat→Option R) (h0: ∀ (n i:Nat),N0≤n→i<len→m (n+1) (i:Int)=(B i).or (m n ((i:Int)+1))) {n:Nat} (hn:N0+len≤n):
 m n 0=((List.range len).findSome? B).or (m (n-len) (len:Int)):=by
 have:=zV7 m len N0 B h0 len 0 (n-len) (by omega) (by omega)
 rw [Nat.sub_add_cancel (by omega)] at this
 rw [List.range_eq_range']
 exact this
theorem zDz {R:Type} {l:List Nat} {p:Nat→Bool} {r:R}:(l.findSome? fun i=>if p i then none else some r)=if l.all p then none else some r:=by
 induction l with
 | nil=>rfl
 | cons a l ih=>
  rw [List.findSome?_cons,List.all_cons]
  cases hp:p a
  ·simp
  ·simp [ih]
theorem zBx {α:Type} {l:List α} {d:α} {p:α→Bool}:((List.range l.length).all fun i=>p (l.getD i d))=l.all p:=by
 rw [Bool.eq_iff_iff,List.all_eq_true,List.all_eq_true]
 constructor
 ·intro h x hx
  obtain ⟨i,hi,rfl⟩:=List.getElem_of_mem hx
  have:=h i (by simpa using hi)
  simpa [hi] using this
 ·intro h i hi
  have hi':i<l.length:=by simpa using hi
  simp [hi',h _ (List.getElem_mem hi')]
theorem r64 {i len:Nat} (h:i<len) (hl:len≤LB):R64 ((i:Int)+1):=by rw [zAG];unfold LB at hl;omega
theorem zEc {l:List Int} {lo up:Int} {n:Nat} (hl:l.length≤LB) (hn:l.length<n):zGF n l lo up=some (zA2 l lo up):=by
 unfold zGF zNC
 have S:=zKd (fun n i=>zEb l lo up n (.l1 i)) l.length 0 (fun i=>if zLf lo up (l.getD i 0) then none else some false) (fun n i _ hi=>?_) (n:=n) (by omega)
 ·refine S.trans ?_
  rw [zDz,zBx (p:=zLf lo up)]
  unfold zA2
  cases l.all (zLf lo up) with
  | false=>rfl
  | true=>
   obtain ⟨m,hm⟩: ∃ m,n-l.length=m+1:=⟨n-l.length-1,by omega⟩
   rw [hm]
   simp [zEb,zI6]
 ·have h1:(i:Int)<(l.length:Int):=by omega
  have h2:=r64 hi hl
  simp only [zEb,zI6,h1,h2,decide_true,cond_true,Int.natCast_nonneg,and_self,if_true,Int.toNat_natCast,zLf]
  obtain ⟨x,hg⟩: ∃ y,l.getD i 0=y:=⟨_,rfl⟩
  simp only [hg]
  by_cases a:x<lo
  ·have: ¬ lo≤x:=by omega
   simp [a,this]
  ·have a':lo≤x:=by omega
   by_cases b:up<x
   ·have: ¬ x≤up:=by omega
    simp [a,b,a',this]
   ·have b':x≤up:=by omega
    simp [a,b,a',b']
theorem zRj {l:List Int} {lo up:Int} {n:Nat} (hl:l.length≤LB) (hn:l.length<n): ∃ r:Int,zJ6 n l lo up=some r∧(0≤r↔zA2 l lo up=false):=by
 unfold zJ6 zLc
 have S:=zKd (fun n i=>zCo l lo up n (.l1 i)) l.length 0 (fun i=>if zLf lo up (l.getD i 0) then none else some (i:Int)) (fun n i _ hi=>?_) (n:=n) (by omega)
 ·have S:=S
  rw [show zCo l lo up n (.l1 0)=_ from S]
  cases hf:(List.range l.length).findSome? (fun i=>if zLf lo up (l.getD i 0) then none else some (i:Int)) with
  | some r=>
   refine ⟨r,rfl,?_⟩
   obtain ⟨i,hi,hr⟩:=List.exists_of_findSome?_eq_some hf
   have hi':i<l.length:=by simpa using hi
   split at hr
   ·cases hr
   ·rename_i hx
    cases hr
    refine ⟨fun _=>?_,fun _=>by omega⟩
    unfold zA2
    rw [List.all_eq_false]
    exact ⟨l[i],List.getElem_mem hi',by simpa [hi'] using hx⟩
  | none=>
   obtain ⟨m,hm⟩: ∃ m,n-l.length=m+1:=⟨n-l.length-1,by omega⟩
   refine ⟨-1,by rw [hm];simp [zCo,zHG],?_⟩
   rw [List.findSome?_eq_none_iff] at hf
   have:zA2 l lo up=true:=by
    unfold zA2
    rw [←zBx (p:=zLf lo up) (d:=(0:Int)),List.all_eq_true]
    intro i hi
    have:=hf i hi
    cases hc:zLf lo up (l.getD i 0) with
    | true=>rfl
    | false=>rw [hc] at this;simp at this
   simp [this]
 ·have h1:(i:Int)<(l.length:Int):=by omega
  have h2:=r64 hi hl
  simp only [zCo,zHG,zbL,zSI,h1,h2,decide_true,cond_true,Int.natCast_nonneg,and_self,if_true,Int.toNat_natCast,zLf]
  obtain ⟨x,hg⟩: ∃ y,l.getD i 0=y:=⟨_,rfl⟩
  simp only [hg]
  by_cases a:x<lo
  ·have: ¬ lo≤x:=by omega
   simp [a,this]
  ·have a':lo≤x:=by omega
   by_cases b:up<x
   ·have: ¬ x≤up:=by omega
    simp [a,b,a',this]
   ·have b':x≤up:=by omega
    simp [a,b,a',b']
theorem zE6 {l:List Int} {lo up:Int} {n:Nat} (hl:l.length≤LB) (hn:l.length<n):zDt n l lo up=some (zA2 l lo up):=by
 obtain ⟨r,h1,h2⟩:=zRj (lo:=lo) (up:=up) hl hn
 unfold zDt zG9 zFH zD9
 rw [h1]
 cases hw:zA2 l lo up with
 | true=>
  have: ¬ 0≤r:=fun h=>by rw [h2.1 h] at hw;cases hw
  simp [this]
 | false=>
  have:0≤r:=h2.2 hw
  simp [this]
theorem zbF {l:List Int} {x:Int} {n:Nat} (hl:l.length≤LB) (hn:l.length<n):has n l x=some (l.contains x):=by
 unfold has zbE
 have S:=zKd (fun n i=>zVK l x n (.l1 i)) l.length 0 (fun i=>if (l.getD i 0 != x) then none else some true) (fun n i _ hi=>?_) (n:=n) (by omega)
 ·refine S.trans ?_
  rw [zDz,zBx (p:=fun y=>y != x)]
  have e:l.all (fun y=>y != x)= !l.contains x:=by
   rw [Bool.eq_iff_iff];simp
   exact ⟨fun h hx=>h x hx rfl,fun h y hy e=>h (e▸hy)⟩
  rw [e]
  cases l.contains x with
  | true=>rfl
  | false=>
   obtain ⟨m,hm⟩: ∃ m,n-l.length=m+1:=⟨n-l.length-1,by omega⟩
   rw [hm]
   simp [zVK,zYJ]
 ·have h1:(i:Int)<(l.length:Int):=by omega
  have h2:=r64 hi hl
  simp only [zVK,zYJ,h1,h2,decide_true,cond_true,Int.natCast_nonneg,and_self,if_true,Int.toNat_natCast]
  obtain ⟨y,hg⟩: ∃ y,l.getD i 0=y:=⟨_,rfl⟩
  simp only [hg]
  by_cases a:y=x
  ·simp [a]
  ·have:(y==x)=false:=by simp [a]
   simp [this,a]
theorem zQe {l:List Int} {x:Int} {n:Nat} (hl:l.length≤LB) (hn:l.length<n):zDB n l x=some (l.contains x):=by
 have: ∃ r:Int,zTK n l x=some r∧(0≤r↔l.contains x=true):=by
  unfold zTK zQB
  have S:=zKd (fun n i=>zFG l x n (.l1 i)) l.length 0 (fun i=>if (x != l.getD i 0) then none else some (i:Int)) (fun n i _ hi=>?_) (n:=n) (by omega)
  ·rw [show zFG l x n (.l1 0)=_ from S]
   cases hf:(List.range l.length).findSome? (fun i=>if (x != l.getD i 0) then none else some (i:Int)) with
   | some r=>
    refine ⟨r,rfl,?_⟩
    obtain ⟨i,hi,hr⟩:=List.exists_of_findSome?_eq_some hf
    have hi':i<l.length:=by simpa using hi
    split at hr
    ·cases hr
    ·rename_i hx
     cases hr
     refine ⟨fun _=>?_,fun _=>by omega⟩
     have:x=l[i]:=by simpa [hi'] using hx
     rw [this]
     simp
   | none=>
    obtain ⟨m,hm⟩: ∃ m,n-l.length=m+1:=⟨n-l.length-1,by omega⟩
    refine ⟨-1,by rw [hm];simp [zFG,zLd],?_⟩
    rw [List.findSome?_eq_none_iff] at hf
    have:l.contains x=false:=by
     rw [Bool.eq_false_iff]
     intro h
     obtain ⟨i,hi,e⟩:=List.getElem_of_mem (by simpa using h:x∈l)
     have:=hf i (by simpa using hi)
     simp [hi,e] at this
    rw [this]
    simp
  ·have h1:(i:Int)<(l.length:Int):=by omega
   have h2:=r64 hi hl
   simp only [zFG,zLd,h1,h2,decide_true,cond_true,Int.natCast_nonneg,and_self,if_true,Int.toNat_natCast]
   obtain ⟨y,hg⟩: ∃ y,l.getD i 0=y:=⟨_,rfl⟩
   simp only [hg]
   by_cases a:x=y
   ·simp [a]
   ·have:(x==y)=false:=by simp [a]
    simp [this,a]
 obtain ⟨r,h1,h2⟩:=this
 unfold zDB zGD
 rw [h1]
 by_cases h:0≤r
 ·have:=h2.1 h
  simp only [Option.bind_some]
  rw [this]
  simp [h]
 ·have:l.contains x=false:=by rw [Bool.eq_false_iff];exact fun hc=>h (h2.2 hc)
  simp only [Option.bind_some]
  rw [this]
  simp;omega
end Go.Proofs.YtekkngkphejfcaaGreatDoor
namespace Go.Proofs.YtekkngkphejfcaaGreatDoor
open Go.RowKit
def wid (g:List (List Int)):Nat:=(g.map fun r=>r.length+2).sum
theorem zKF: ∀ {g:List (List Int)} {r:List Int},r∈g→r.length+2≤wid g
 | [],_,h=>by cases h
 | a::g,r,h=>by
  simp only [wid,List.map_cons,List.sum_cons]
  rcases List.mem_cons.1 h with rfl | h
  ·omega
  ·have:=zKF h
   unfold wid at this;omega
theorem zSH {g:List (List Int)} {v:Nat} (hv:v<g.length):wid (g.drop v)=(g.getD v []).length+2+wid (g.drop (v+1)):=by
 rw [List.drop_eq_getElem_cons hv]
 simp only [wid,List.map_cons,List.sum_cons,List.getD_eq_getElem?_getD,List.getElem?_eq_getElem hv,Option.getD_some]
theorem zGf {g:List (List Int)} {v:Nat} (hv:v<g.length):g.getD v []∈g:=by
 rw [List.getD_eq_getElem?_getD,List.getElem?_eq_getElem hv];exact List.getElem_mem hv
section
variable {g:List (List Int)} {v j n:Nat}
theorem zPx {R:Type} (next bad:R) (c:Bool→R) (hc:c true=next) (hc2:c false=bad) (hv:v<g.length) (hj:j<(g.getD v []).length):
 (if zCi g v (g.getD v []) j then next else bad)=
  (if (g.getD v []).getD j 0<0 then bad else if (g.getD v []).getD j 0≥(g.length:Int) then bad else if (g.getD v []).getD j 0=(v:Int) then bad else
   if 0<j then (if (g.getD v []).getD (j-1) 0≥(g.getD v []).getD j 0 then bad else c ((g.getD ((g.getD v []).getD j 0).toNat []).contains (v:Int)))
   else c ((g.getD ((g.getD v []).getD j 0).toNat []).contains (v:Int))):=by
 unfold zCi
 obtain ⟨x,hx⟩: ∃ x,(g.getD v []).getD j 0=x:=⟨_,rfl⟩
 obtain ⟨y,hy⟩: ∃ y,(g.getD v []).getD (j-1) 0=y:=⟨_,rfl⟩
 simp only [hx,hy]
 by_cases a:x<0
 ·have: ¬ 0≤x:=by omega
  simp [a,this]
 ·have a':0≤x:=by omega
  by_cases b:x≥(g.length:Int)
  ·have: ¬ x<(g.length:Int):=by omega
   simp [a,b,this]
  ·have b':x<(g.length:Int):=by omega
   by_cases d:x=(v:Int)
   ·simp [a,b,d]
   ·have d':(x != (v:Int))=true:=by simp [d]
    cases hcc:(g.getD x.toNat []).contains (v:Int) with
    | true=>
     by_cases e:0<j
     ·by_cases f:y≥x
      ·have: ¬ y<x:=by omega
       simp [a,b,d,d',e,f,this,a',b']
      ·have f':y<x:=by omega
       simp [a,b,d,d',e,f,f',a',b',hc]
     ·simp [a,b,d,d',e,a',b',hc]
    | false=>
     by_cases e:0<j
     ·by_cases f:y≥x
      ·have: ¬ y<x:=by omega
       simp [a,b,d,d',e,f,this,a',b']
      ·have f':y<x:=by omega
       simp [a,b,d,d',e,f,f',a',b',hc2]
     ·simp [a,b,d,d',e,a',b',hc2]
theorem zeH {j len:Nat} (h:j<len) (hl:len≤LB):R64 ((j:Int)-1):=by rw [zAG];unfold LB at hl;omega
theorem zIo {j len:Nat} (h:0<j) (h2:j<len):((0:Int)≤(j:Int)-1∧(j:Int)-1<(len:Int))∧((j:Int)-1).toNat=j-1∧(j:Int)>0:=by omega
theorem zbr {self:zGO→Option Int} (hv:v<g.length) (hg:g.length≤256) (hj:j<(g.getD v []).length) (hr: ∀ r∈g,r.length≤LB) (hn: ∀ r∈g,r.length<n):
 zHi n self g (v:Int) (j:Int)=(if zCi g v (g.getD v []) j then none else some (120:Int)).or (self (.l2 (v:Int) ((j:Int)+1))):=by
 have hlen:=hr _ (zGf hv)
 have h1:(v:Int)<(g.length:Int):=by omega
 have h2:(j:Int)<((g.getD v []).length:Int):=by omega
 have h3:=r64 hj hlen
 have key:=zPx (g:=g) (v:=v) (j:=j) (self (.l2 (v:Int) ((j:Int)+1))) (some (120:Int)) (fun b=>bif b then self (.l2 (v:Int) ((j:Int)+1)) else some 120) rfl rfl hv hj
 have e1:((if zCi g v (g.getD v []) j then none else some (120:Int)).or (self (.l2 (v:Int) ((j:Int)+1))))=(if zCi g v (g.getD v []) j then self (.l2 (v:Int) ((j:Int)+1)) else some 120):=by
  cases zCi g v (g.getD v []) j <;> rfl
 rw [e1,key]
 simp only [zHi,h1,h2,h3,decide_true,cond_true,Int.natCast_nonneg,and_self,if_true,Int.toNat_natCast]
 obtain ⟨x,hx⟩: ∃ x,(g.getD v []).getD j 0=x:=⟨_,rfl⟩
 simp only [hx]
 by_cases a:x<0
 ·simp [a]
 by_cases b:x≥(g.length:Int)
 ·simp [a,b]
 by_cases d:x=(v:Int)
 ·simp [a,b,d]
 have d':(x==(v:Int))=false:=by simp [d]
 have hxm:g.getD x.toNat []∈g:=zGf (by omega)
 have hh:has n (g.getD x.toNat []) (v:Int)=some ((g.getD x.toNat []).contains (v:Int)):=zbF (hr _ hxm) (hn _ hxm)
 have hxr:0≤x∧x<(g.length:Int):=by omega
 have fin:((has n (g.getD x.toNat []) (v:Int)).bind fun y1=>bif (!y1) then some (120:Int) else self (.l2 (v:Int) ((j:Int)+1)))=(bif (g.getD x.toNat []).contains (v:Int) then self (.l2 (v:Int) ((j:Int)+1)) else some 120):=by
  rw [hh]
  cases (g.getD x.toNat []).contains (v:Int) <;> rfl
 by_cases e:0<j
 ·have h4:R64 ((j:Int)-1)∧((0:Int)≤(j:Int)-1∧(j:Int)-1<((g.getD v []).length:Int)):=⟨zeH hj hlen,(zIo e hj).1⟩
  have h5:=(zIo e hj).2.1
  have e':=(zIo e hj).2.2
  simp only [e',h4,h5,e,hxr,d',decide_true,cond_true,cond_false,if_true,decide_eq_false a,decide_eq_false b,and_self,if_neg a,if_neg b,if_neg d,fin]
  by_cases f:(g.getD v []).getD (j-1) 0≥x
  ·simp only [f,decide_true,cond_true,if_true]
  ·simp only [decide_eq_false f,cond_false,if_neg f]
 ·have e': ¬ (j:Int)>0:=by omega
  simp only [hxr,d',cond_false,if_true,decide_eq_false a,decide_eq_false b,decide_eq_false e',and_self,if_neg a,if_neg b,if_neg d,if_neg e,fin]
theorem zcG {self:zGg→Option Int} {row:List Int} (hrow:row=g.getD v []) (hv:v<g.length) (hg:g.length≤256) (hj:j<(g.getD v []).length) (hr: ∀ r∈g,r.length≤LB) (hn: ∀ r∈g,r.length<n):
 zIC n self g (v:Int) row (v:Int) row (row.length:Int) (j:Int)=(if zCi g v (g.getD v []) j then none else some (120:Int)).or (self (.l2 (v:Int) row (v:Int) row (row.length:Int) ((j:Int)+1))):=by
 subst hrow
 have hlen:=hr _ (zGf hv)
 have h1:(v:Int)<(g.length:Int):=by omega
 have h2:(j:Int)<((g.getD v []).length:Int):=by omega
 have h3:=r64 hj hlen
 obtain ⟨NX,hNX⟩: ∃ NX,self (.l2 (v:Int) (g.getD v []) (v:Int) (g.getD v []) ((g.getD v []).length:Int) ((j:Int)+1))=NX:=⟨_,rfl⟩
 have key:=zPx (g:=g) (v:=v) (j:=j) NX (some (120:Int)) (fun b=>bif b then NX else some 120) rfl rfl hv hj
 have e1:((if zCi g v (g.getD v []) j then none else some (120:Int)).or NX)=(if zCi g v (g.getD v []) j then NX else some 120):=by
  cases zCi g v (g.getD v []) j <;> rfl
 rw [hNX,e1,key]
 simp only [zIC,h1,h2,h3,decide_true,cond_true,Int.natCast_nonneg,and_self,if_true,Int.toNat_natCast,hNX]
 obtain ⟨x,hx⟩: ∃ x,(g.getD v []).getD j 0=x:=⟨_,rfl⟩
 simp only [hx]
 by_cases a:x<0
 ·simp [a]
 by_cases b:x≥(g.length:Int)
 ·simp [a,b]
 by_cases d:x=(v:Int)
 ·simp [a,b,d]
 have d':(x==(v:Int))=false:=by simp [d]
 have hxm:g.getD x.toNat []∈g:=zGf (by omega)
 have hh:zDB n (g.getD x.toNat []) (v:Int)=some ((g.getD x.toNat []).contains (v:Int)):=zQe (hr _ hxm) (hn _ hxm)
 have hxr:0≤x∧x<(g.length:Int):=by omega
 have fin:((zDB n (g.getD x.toNat []) (v:Int)).bind fun y1=>bif (!y1) then some (120:Int) else NX)=(bif (g.getD x.toNat []).contains (v:Int) then NX else some 120):=by
  rw [hh]
  cases (g.getD x.toNat []).contains (v:Int) <;> rfl
 by_cases e:0<j
 ·have h4:R64 ((j:Int)-1)∧((0:Int)≤(j:Int)-1∧(j:Int)-1<((g.getD v []).length:Int)):=⟨zeH hj hlen,(zIo e hj).1⟩
  have h5:=(zIo e hj).2.1
  have e':=(zIo e hj).2.2
  simp only [e',h4,h5,e,hxr,d',decide_true,cond_true,cond_false,if_true,decide_eq_false a,decide_eq_false b,and_self,if_neg a,if_neg b,if_neg d,fin]
  by_cases f:(g.getD v []).getD (j-1) 0≥x
  ·simp only [f,decide_true,cond_true,if_true]
  ·simp only [decide_eq_false f,cond_false,if_neg f]
 ·have e': ¬ (j:Int)>0:=by omega
  simp only [hxr,d',cond_false,if_true,decide_eq_false a,decide_eq_false b,decide_eq_false e',and_self,if_neg a,if_neg b,if_neg d,if_neg e,fin]
end
theorem zPF {g:List (List Int)} {v:Nat} (hv:v<g.length):((List.range' v (g.length-v)).all fun i=>zJp g i (g.getD i []))=(zJp g v (g.getD v [])&&(List.range' (v+1) (g.length-(v+1))).all fun i=>zJp g i (g.getD i [])):=by
 have:g.length-v=g.length-(v+1)+1:=by omega
 rw [this,List.range'_succ,List.all_cons]
theorem zWr {g:List (List Int)} (hg:g.length≤256) (hr: ∀ r∈g,r.length≤LB): ∀ (k v n:Nat),v+k=g.length→wid (g.drop v)+wid g+1≤n→zCR g n (.l1 (v:Int))=some (zBz ((List.range' v (g.length-v)).all fun i=>zJp g i (g.getD i [])) 120)
 | 0,v,n,hv,hn=>by
  have:v=g.length:=by omega
  subst this
  obtain ⟨m,rfl⟩: ∃ m,n=m+1:=⟨n-1,by omega⟩
  simp [zCR,zKs,zBz]
 | k+1,v,n,hv,hn=>by
  have hv':v<g.length:=by omega
  rw [zSH hv'] at hn
  have hm:=zKF (zGf hv')
  obtain ⟨m,rfl⟩: ∃ m,n=m+1:=⟨n-1,by omega⟩
  have h1:(v:Int)<(g.length:Int):=by omega
  have e1:zCR g (m+1) (.l1 (v:Int))=zCR g m (.l2 (v:Int) 0):=by simp [zCR,zKs,h1]
  rw [e1]
  have S:=zKd (fun n i=>zCR g n (.l2 (v:Int) i)) (g.getD v []).length (wid g) (fun j=>if zCi g v (g.getD v []) j then none else some 120) (fun n' j hn0 hj=>zbr (n:=n') hv' hg hj hr fun r hr'=>by have:=zKF hr';omega) (n:=m) (by omega)
  refine S.trans ?_
  rw [zDz,zPF hv']
  have eR:((List.range (g.getD v []).length).all fun i=>zCi g v (g.getD v []) i)=zJp g v (g.getD v []):=rfl
  rw [eR]
  cases zJp g v (g.getD v []) with
  | false=>rfl
  | true=>
   obtain ⟨m',hm'⟩: ∃ m',m-(g.getD v []).length=m'+1:=⟨m-(g.getD v []).length-1,by omega⟩
   rw [hm']
   have h2:R64 ((v:Int)+1):=by rw [zAG];omega
   have ih:=zWr hg hr k (v+1) m' (by omega) (by omega)
   have h3: ¬ (((g.getD v []).length:Int)<((g.getD v []).length:Int)):=by omega
   simp only [if_true,zCR,zHi,h1,h2,Int.natCast_nonneg,and_self,Int.toNat_natCast,decide_eq_false h3,cond_false,Bool.true_and]
   exact ih
theorem zYN {g:List (List Int)} (hg:g.length≤256) (hr: ∀ r∈g,r.length≤LB): ∀ (k v n:Nat),v+k=g.length→wid (g.drop v)+wid g+1≤n→zCa g n (.l1 (v:Int))=some (zBz ((List.range' v (g.length-v)).all fun i=>zJp g i (g.getD i [])) 120)
 | 0,v,n,hv,hn=>by
  have:v=g.length:=by omega
  subst this
  obtain ⟨m,rfl⟩: ∃ m,n=m+1:=⟨n-1,by omega⟩
  simp [zCa,zLl,zBz]
 | k+1,v,n,hv,hn=>by
  have hv':v<g.length:=by omega
  rw [zSH hv'] at hn
  have hm:=zKF (zGf hv')
  obtain ⟨m,rfl⟩: ∃ m,n=m+1:=⟨n-1,by omega⟩
  have h1:(v:Int)<(g.length:Int):=by omega
  have e1:zCa g (m+1) (.l1 (v:Int))=zCa g m (.l2 (v:Int) (g.getD v []) (v:Int) (g.getD v []) ((g.getD v []).length:Int) 0):=by
   simp only [zCa,zLl,h1,decide_true,cond_true,Int.natCast_nonneg,and_self,if_true,Int.toNat_natCast]
  rw [e1]
  have S:=zKd (fun n i=>zCa g n (.l2 (v:Int) (g.getD v []) (v:Int) (g.getD v []) ((g.getD v []).length:Int) i)) (g.getD v []).length (wid g) (fun j=>if zCi g v (g.getD v []) j then none else some 120) (fun n' j hn0 hj=>zcG (n:=n') rfl hv' hg hj hr fun r hr'=>by have:=zKF hr';omega) (n:=m) (by omega)
  refine S.trans ?_
  rw [zDz,zPF hv']
  have eR:((List.range (g.getD v []).length).all fun i=>zCi g v (g.getD v []) i)=zJp g v (g.getD v []):=rfl
  rw [eR]
  cases zJp g v (g.getD v []) with
  | false=>rfl
  | true=>
   obtain ⟨m',hm'⟩: ∃ m',m-(g.getD v []).length=m'+1:=⟨m-(g.getD v []).length-1,by omega⟩
   rw [hm']
   have h2:R64 ((v:Int)+1):=by rw [zAG];omega
   have ih:=zYN hg hr k (v+1) m' (by omega) (by omega)
   have h3: ¬ (((g.getD v []).length:Int)<((g.getD v []).length:Int)):=by omega
   simp only [if_true,zCa,zIC,h2,decide_eq_false h3,cond_false,Bool.true_and]
   exact ih
theorem zPQ {g:List (List Int)} {n:Nat} (hr: ∀ r∈g,r.length≤LB) (hn:2*wid g+1≤n):zJV n g=some (zBz (zDg g) 120):=by
 unfold zJV zPO zDg
 by_cases h:(g.length:Int)>256
 ·have: ¬ g.length≤256:=by omega
  simp [h,this,zBz]
 ·have h':g.length≤256:=by omega
  have:=zWr h' hr g.length 0 n (by omega) (by simp;omega)
  simp only [decide_eq_false h,cond_false,decide_eq_true h',Bool.true_and]
  rw [List.range_eq_range']
  simpa using this
theorem zQR {g:List (List Int)} {n:Nat} (hr: ∀ r∈g,r.length≤LB) (hn:2*wid g+1≤n):zQS n g=some (zBz (zDg g) 120):=by
 unfold zQS zQQ zDg
 by_cases h:(g.length:Int)>256
 ·have: ¬ g.length≤256:=by omega
  simp [h,this,zBz]
 ·have h':g.length≤256:=by omega
  have:=zYN h' hr g.length 0 n (by omega) (by simp;omega)
  simp only [decide_eq_false h,cond_false,decide_eq_true h',Bool.true_and]
  rw [List.range_eq_range']
  simpa using this
end Go.Proofs.YtekkngkphejfcaaGreatDoor
namespace Go.Proofs.YtekkngkphejfcaaGreatDoor
open Go.RowKit
theorem zHx {s:Int} (h1:1≤s) (h2:s≤16):IntKind.i64.wrap (1*2 ^ s.toNat)=2 ^ s.toNat∧R64 ((2:Int) ^ s.toNat-1)∧((0:Int)≤s∧s≤((IntKind.i64.bits:Nat):Int)):=by
 obtain ⟨m,rfl⟩:=Int.eq_ofNat_of_zero_le (show 0≤s by omega)
 rw [Int.toNat_natCast]
 have h:m<17:=by omega
 refine ⟨?_,?_,by omega,by show (m:Int)≤64;omega⟩
 ·revert h;clear h1 h2;revert m;decide
 ·revert h;clear h1 h2;revert m;decide
theorem zaq {l:List Int} (hl:l.length≤LB) {i:Nat} (hi:i<l.length) {self:zCq→Option Bool} {n:Nat} (j:Nat) (hj:j<i):zD2 n self l (i:Int) (j:Int)=(if l.getD i 0 != l.getD j 0 then none else some false).or (self (.l2 (i:Int) ((j:Int)+1))):=by
 have h1:(j:Int)<(i:Int):=by omega
 have h2:(i:Int)<(l.length:Int):=by omega
 have h3:(j:Int)<(l.length:Int):=by omega
 have h4:=r64 (show j<l.length by omega) hl
 simp only [zD2,h1,h2,h3,h4,decide_true,cond_true,Int.natCast_nonneg,and_self,if_true,Int.toNat_natCast]
 by_cases a:l.getD i 0=l.getD j 0
 ·have t:(l.getD i 0==l.getD j 0)=true:=by simp only [beq_iff_eq];exact a
  have t':(l.getD i 0 != l.getD j 0)=false:=by simp only [bne,t,Bool.not_true]
  simp only [t,t',cond_true,Bool.false_eq_true,if_false,Option.or]
 ·have:(l.getD i 0==l.getD j 0)=false:=by simp only [beq_eq_false_iff_ne];exact a
  have a':(l.getD i 0 != l.getD j 0)=true:=by simp only [bne_iff_ne];exact a
  simp only [this,a',cond_false,if_true,Option.or]
theorem zNL {l:List Int} {i:Nat} (hi:i≤l.length) {x:Int}:((List.range i).all fun j=>x != l.getD j 0)= !(l.take i).contains x:=by
 rw [Bool.eq_iff_iff]
 simp only [List.all_eq_true,List.mem_range,bne_iff_ne,ne_eq,Bool.not_eq_true',Bool.eq_false_iff,List.contains_iff_mem,List.mem_take_iff_getElem,not_exists]
 constructor
 ·intro h j hj e
  have hj':j<l.length:=by omega
  refine h j (by omega) ?_
  rw [←e];simp [hj']
 ·intro h j hj e
  have hj':j<l.length:=by omega
  exact h j (by omega) (by rw [e];simp [hj'])
theorem zQd {l:List Int} (hl:l.length≤LB): ∀ (k i n:Nat),i+k=l.length→k*(l.length+2)+1≤n→zA8 l n (.l1 (i:Int))=some ((List.range' i k).all fun i=>!(l.take i).contains (l.getD i 0))
 | 0,i,n,hi,hn=>by
  have:i=l.length:=by omega
  subst this
  obtain ⟨m,rfl⟩: ∃ m,n=m+1:=⟨n-1,by omega⟩
  simp [zA8,zF7]
 | k+1,i,n,hi,hn=>by
  have hi':i<l.length:=by omega
  rw [Nat.succ_mul] at hn
  obtain ⟨m,rfl⟩: ∃ m,n=m+1:=⟨n-1,by omega⟩
  have h1:(i:Int)<(l.length:Int):=by omega
  have e1:zA8 l (m+1) (.l1 (i:Int))=zA8 l m (.l2 (i:Int) 0):=by simp [zA8,zF7,h1]
  rw [e1]
  have S:=zKd (fun n j=>zA8 l n (.l2 (i:Int) j)) i 0 (fun j=>if l.getD i 0 != l.getD j 0 then none else some false) (fun n' j _ hj=>zaq (n:=n') hl hi' j hj) (n:=m) (by omega)
  refine S.trans ?_
  rw [zDz,zNL (by omega),List.range'_succ,List.all_cons]
  cases (l.take i).contains (l.getD i 0) with
  | true=>rfl
  | false=>
   obtain ⟨m',hm'⟩: ∃ m',m-i=m'+1:=⟨m-i-1,by omega⟩
   rw [hm']
   have ih:=zQd hl k (i+1) m' (by omega) (by omega)
   have h2:=r64 hi' hl
   have h3: ¬ ((i:Int)<(i:Int)):=by omega
   simp only [Bool.not_false,if_true,zA8,zD2,decide_eq_false h3,cond_false,h2,Bool.true_and]
   exact ih
theorem zQb {l:List Int} {n:Nat} (hl:l.length≤LB) (hn:l.length*(l.length+2)+1≤n):zIH n l=some (zLK l):=by
 unfold zIH zJi zLK
 rw [List.range_eq_range']
 exact zQd hl l.length 0 n (by omega) hn
section
variable {c:zAC} {n:Nat}
def zNe (sy:Int) (c:zAC):Bool:=zA2 [c.set,c.other] 0 (2 ^ sy.toNat-1)&&zA2 [c.lo,c.hi] 0 65536&&decide (c.runs.length≤8)&&zA2 c.runs 1 256
theorem lb2 {a b:Int}:([a,b]:List Int).length≤LB:=by show 2≤LB;unfold LB;omega
theorem zeK {l:List Int}:(decide (((l.length:Nat):Int)≤8))=decide (l.length≤8):=by rw [Bool.eq_iff_iff];simp;omega
theorem zYR {self:zF5→Option Bool} {q:zAB} (h1:1≤q.symbols) (h2:q.symbols≤16) (hr:c.runs.length≤LB) (hn:c.runs.length<n) (hn2:2<n):zKB n self q c=some (zNe q.symbols c):=by
 obtain ⟨p1,p2,p3⟩:=zHx h1 h2
 unfold zKB
 rw [p1,if_pos ⟨p3,p2⟩,zE6 lb2 (show 2<n from hn2),zE6 lb2 (show 2<n from hn2),zE6 hr hn]
 unfold zNe
 rw [zeK]
 cases zA2 [c.set,c.other] 0 (2 ^ q.symbols.toNat-1) <;> cases zA2 [c.lo,c.hi] 0 65536 <;> cases decide (c.runs.length≤8) <;> rfl
theorem zYS {self:zF5→Option Bool} {q:zAB} (hq:q.cells≤256) (hc:c.cells.length≤LB) {i:Nat} (hi:i<c.cells.length) {o:List Bool} (ho:o.length=256) (hm: ∀ x:Nat,x<256→o.getD x false=(c.cells.take i).contains (x:Int)):
 zIE n self q c (i:Int) o=if zLx q.cells c.kind c.cells i then self (.l1 ((i:Int)+1) (o.set (0+(c.cells.getD i 0).toNat) true)) else some false:=by
 have h1:(i:Int)<(c.cells.length:Int):=by omega
 have h2:=r64 hi hc
 unfold zLx
 obtain ⟨x,hx⟩: ∃ x,c.cells.getD i 0=x:=⟨_,rfl⟩
 simp only [zIE,h1,h2,decide_true,cond_true,Int.natCast_nonneg,and_self,if_true,Int.toNat_natCast,hx]
 by_cases a:x<0
 ·have: ¬ 0≤x:=by omega
  simp [a,this]
 have a':0≤x:=by omega
 by_cases b:x≥q.cells
 ·have: ¬ x<q.cells:=by omega
  simp [a,b,this]
 have b':x<q.cells:=by omega
 have hg:((0:Int)≤x∧x<((256:Nat):Int))∧0+x.toNat<o.length:=⟨⟨a',by omega⟩,by omega⟩
 have hmm:o.getD (0+x.toNat) false=(c.cells.take i).contains x:=by
  rw [Nat.zero_add,hm x.toNat (by omega)]
  congr 1;omega
 simp only [hg,hmm,decide_eq_false a,decide_eq_false b,cond_false,if_true,decide_eq_true a',decide_eq_true b',Bool.true_and,and_self]
 cases (c.cells.take i).contains x with
 | true=>rfl
 | false=>
  by_cases e:c.kind≥8
  ·have e':8≤c.kind:=e
   by_cases f:x=(i:Int)
   ·have f1:(x != (i:Int))=false:=by simp [f]
    have f2:(x==(i:Int))=true:=by simp [f]
    simp only [e,e',f1,f2,decide_true,cond_true,cond_false,Bool.not_false,Bool.not_true,Bool.false_or,Bool.true_and,if_true]
   ·have f1:(x != (i:Int))=true:=by simp [f]
    have f2:(x==(i:Int))=false:=by simp [f]
    simp only [e,e',f1,f2,decide_true,cond_true,cond_false,Bool.not_false,Bool.not_true,Bool.false_or,Bool.true_and,Bool.false_eq_true,if_false]
  ·have e': ¬ 8≤c.kind:=e
   simp only [decide_eq_false e,decide_eq_false e',decide_true,cond_false,Bool.not_false,Bool.true_or,Bool.and_self,if_true]
theorem zaj {self:zF5→Option Bool} {q:zAB} {o:List Bool}:zIE n self q c (c.cells.length:Int) o=if zDI q.cells c.kind c.cells.length then self .l2 else some false:=by
 have h1: ¬ ((c.cells.length:Int)<(c.cells.length:Int)):=by omega
 simp only [zIE,decide_eq_false h1,cond_false]
 by_cases hk:1≤c.kind∧c.kind≤9
 ·obtain ⟨k,hk0⟩: ∃ k,c.kind=k:=⟨_,rfl⟩
  rw [hk0] at hk
  simp only [hk0]
  have e2:(((c.cells.length:Nat):Int) != 2)= !(c.cells.length==2):=by rw [Bool.eq_iff_iff];simp;omega
  have e3:(((c.cells.length:Nat):Int) != q.cells)= !(((c.cells.length:Nat):Int)==q.cells):=rfl
  rcases zCn hk with h | h | h | h | h | h | h | h | h <;> subst h
  ·rfl
  ·rfl
  ·rfl
  ·rfl
  ·rfl
  ·show (bif (((c.cells.length:Nat):Int) != 2) then some false else self .l2)=_
   rw [e2];unfold zDI;cases c.cells.length==2 <;> rfl
  ·show (bif (((c.cells.length:Nat):Int) != 2) then some false else self .l2)=_
   rw [e2];unfold zDI;cases c.cells.length==2 <;> rfl
  ·show (bif (((c.cells.length:Nat):Int) != q.cells) then some false else self .l2)=_
   rw [e3];unfold zDI;cases ((c.cells.length:Nat):Int)==q.cells <;> rfl
  ·show (bif (((c.cells.length:Nat):Int) != q.cells) then some false else self .l2)=_
   rw [e3];unfold zDI;cases ((c.cells.length:Nat):Int)==q.cells <;> rfl
 ·have hno:zDI q.cells c.kind c.cells.length=false:=by
   rw [Bool.eq_false_iff];exact fun h=>hk (zEU h)
  rw [hno]
  have z: ∀ m:Int,1≤m→m≤9→(c.kind==m)=false:=fun m h1 h2=>by simp only [beq_eq_false_iff_ne];omega
  simp [z 1,z 2,z 3,z 4,z 5,z 6,z 7,z 8,z 9]
theorem zQT {q:zAB} (hq:q.cells≤256) (hc:c.cells.length≤LB) (h1:1≤q.symbols) (h2:q.symbols≤16) (hr:c.runs.length≤LB): ∀ (k i n:Nat) (o:List Bool),i+k=c.cells.length→k+c.runs.length+6≤n→o.length=256→(∀ x:Nat,x<256→o.getD x false=(c.cells.take i).contains (x:Int))→
 zI1 q c n (.l1 (i:Int) o)=some ((List.range' i k).all (zLx q.cells c.kind c.cells)&&zDI q.cells c.kind c.cells.length&&zNe q.symbols c)
 | 0,i,n,o,hi,hn,ho,hm=>by
  have:i=c.cells.length:=by omega
  subst this
  obtain ⟨m,rfl⟩: ∃ m,n=m+1:=⟨n-1,by omega⟩
  refine (zaj (n:=m)).trans ?_
  cases zDI q.cells c.kind c.cells.length with
  | false=>simp
  | true=>
   obtain ⟨m',rfl⟩: ∃ m',m=m'+1:=⟨m-1,by omega⟩
   show zKB m' (zI1 q c m') q c=_
   rw [zYR h1 h2 hr (by omega) (by omega)]
   simp
 | k+1,i,n,o,hi,hn,ho,hm=>by
  obtain ⟨m,rfl⟩: ∃ m,n=m+1:=⟨n-1,by omega⟩
  refine (zYS (n:=m) hq hc (show i<c.cells.length by omega) ho hm).trans ?_
  rw [List.range'_succ,List.all_cons]
  cases hck:zLx q.cells c.kind c.cells i with
  | false=>simp
  | true=>
   have hx:0≤c.cells.getD i 0∧c.cells.getD i 0<q.cells:=by
    unfold zLx at hck
    simp only [Bool.and_eq_true,decide_eq_true_eq] at hck
    exact ⟨hck.1.1.1,hck.1.1.2⟩
   have ih:=zQT hq hc h1 h2 hr k (i+1) m (o.set (0+(c.cells.getD i 0).toNat) true) (by omega) (by omega) (by simp [ho]) (fun x hx256=>?_)
   ·simp only [if_true,Bool.true_and]
    exact ih
   ·have hi':i<c.cells.length:=by omega
    rw [Nat.zero_add]
    have ht:c.cells.take (i+1)=c.cells.take i++[c.cells.getD i 0]:=by
     rw [List.take_add_one]
     simp [hi']
    rw [ht,List.contains_append,←hm x hx256]
    rw [List.getD_eq_getElem?_getD,List.getElem?_set]
    by_cases e:(c.cells.getD i 0).toNat=x
    ·have e2:((x:Nat):Int)=c.cells.getD i 0:=by omega
     rw [if_pos e,if_pos (by omega)]
     simp [e2]
    ·have e2: ¬ ((x:Nat):Int)=c.cells.getD i 0:=by omega
     rw [if_neg e]
     have e3:([c.cells.getD i 0].contains ((x:Nat):Int))=false:=by
      simp only [List.contains_cons,List.contains_nil,Bool.or_false,beq_eq_false_iff_ne]
      exact e2
     rw [e3,Bool.or_false,List.getD_eq_getElem?_getD]
theorem zal {q:zAB} (hq:q.cells≤256) (hc:c.cells.length≤LB) (h1:1≤q.symbols) (h2:q.symbols≤16) (hr:c.runs.length≤LB) (hn:c.cells.length+c.runs.length+6≤n):zan n q c=some (zC9 q c):=by
 unfold zan zTN
 have:=zQT hq hc h1 h2 hr c.cells.length 0 n (List.replicate 256 false) (by omega) (by omega) List.length_replicate (fun x hx=>by rw [List.getD_eq_getElem?_getD,List.getElem?_replicate,if_pos hx];rfl)
 refine Eq.trans this ?_
 rw [←List.range_eq_range']
 unfold zC9 zOU zNe
 simp only [Bool.and_assoc]
end
end Go.Proofs.YtekkngkphejfcaaGreatDoor
namespace Go.Proofs.YtekkngkphejfcaaGreatDoor
open Go.RowKit
section
variable {c:zAC} {n:Nat} {cells sy:Int}
def idB (c:zAC):Bool:=(List.range c.cells.length).all fun i=>c.cells.getD i 0==(i:Int)
theorem zUF (hc:c.cells.length≤LB) (hr:c.runs.length≤LB) (h1:1≤sy) (h2:sy≤16) (hn:c.cells.length+c.runs.length+6≤n):zFe c cells sy n (.l1 0)=some ((!(c.kind==8||c.kind==9)||idB c)&&zNe sy c):=by
 have S:=zKd (fun n i=>zFe c cells sy n (.l1 i)) c.cells.length 0 (fun i=>if (!(c.kind==8||c.kind==9)||c.cells.getD i 0==(i:Int)) then none else some false) (fun n i _ hi=>?_) (n:=n) (by omega)
 ·refine S.trans ?_
  rw [zDz]
  have e:((List.range c.cells.length).all fun i=>(!(c.kind==8||c.kind==9)||c.cells.getD i 0==(i:Int)))=(!(c.kind==8||c.kind==9)||idB c):=by
   unfold idB
   cases (c.kind==8||c.kind==9) with
   | true=>simp
   | false=>simp
  rw [e]
  cases (!(c.kind==8||c.kind==9)||idB c) with
  | false=>rfl
  | true=>
   obtain ⟨m,hm⟩: ∃ m,n-c.cells.length=m+1:=⟨n-c.cells.length-1,by omega⟩
   rw [hm]
   obtain ⟨p1,p2,p3⟩:=zHx h1 h2
   have h3: ¬ ((c.cells.length:Int)<(c.cells.length:Int)):=by omega
   show zHg m (zFe c cells sy m) c cells sy (c.cells.length:Int)=_
   unfold zHg
   rw [decide_eq_false h3,cond_false,p1,if_pos ⟨p3,p2⟩,zEc lb2 (show 2<m by omega),zEc lb2 (show 2<m by omega),zEc hr (show c.runs.length<m by omega)]
   unfold zNe
   rw [zeK]
   cases zA2 [c.set,c.other] 0 (2 ^ sy.toNat-1) <;> cases zA2 [c.lo,c.hi] 0 65536 <;> cases decide (c.runs.length≤8) <;> rfl
 ·have h1:(i:Int)<(c.cells.length:Int):=by omega
  have h2:=r64 hi hc
  show zHg n (zFe c cells sy n) c cells sy (i:Int)=_
  generalize zFe c cells sy n=self
  simp only [zHg,h1,h2,decide_true,cond_true,Int.natCast_nonneg,and_self,if_true,Int.toNat_natCast]
  obtain ⟨x,hx⟩: ∃ x,c.cells.getD i 0=x:=⟨_,rfl⟩
  simp only [hx]
  by_cases f:x=(i:Int)
  ·have f1:(x != (i:Int))=false:=by simp [f]
   have f2:(x==(i:Int))=true:=by simp [f]
   rw [f1,f2]
   cases c.kind==8 <;> cases c.kind==9 <;> rfl
  ·have f1:(x != (i:Int))=true:=by simp [f]
   have f2:(x==(i:Int))=false:=by simp [f]
   rw [f1,f2]
   cases c.kind==8 <;> cases c.kind==9 <;> rfl
theorem zWj (hc:c.cells.length≤LB) (hr:c.runs.length≤LB) (h0:1≤cells) (h00:cells≤256) (h1:1≤sy) (h2:sy≤16) (hn:c.cells.length*(c.cells.length+2)+c.cells.length+c.runs.length+7≤n):zZc n c cells sy=some (zSc c cells sy):=by
 have loop:=zUF (cells:=cells) hc hr h1 h2 (n:=n) (by omega)
 have hR:R64 (cells-1):=by rw [zAG];omega
 unfold zZc zSb zSc
 simp only [hR,if_true,zEc hc (show c.cells.length<n by omega),zQb hc (show c.cells.length*(c.cells.length+2)+1≤n by omega),loop,Option.bind_some]
 have hidB:((List.range c.cells.length).all fun i=>c.cells.getD i 0==(i:Int))=idB c:=rfl
 have hrest: ∀ b:Bool,(b&&zA2 [c.set,c.other] 0 (2 ^ sy.toNat-1)&&zA2 [c.lo,c.hi] 0 65536&&decide (c.runs.length≤8)&&zA2 c.runs 1 256)=(b&&zNe sy c):=fun b=>by unfold zNe;simp only [Bool.and_assoc]
 rw [hidB,hrest]
 have e2:(((c.cells.length:Nat):Int) != 2)= !(c.cells.length==2):=by rw [Bool.eq_iff_iff];simp;omega
 have e3:(((c.cells.length:Nat):Int) != cells)= !(((c.cells.length:Nat):Int)==cells):=rfl
 rw [e2,e3]
 generalize zNe sy c=R
 generalize idB c=D
 generalize zA2 c.cells 0 (cells-1)=W
 generalize zLK c.cells=U
 generalize (c.cells.length==2)=T
 generalize hE:(((c.cells.length:Nat):Int)==cells)=E
 by_cases k1:c.kind<1
 ·have: ¬ 1≤c.kind:=by omega
  simp [k1,this]
 by_cases k2:c.kind>9
 ·have: ¬ c.kind≤9:=by omega
  simp [k1,k2,this]
 by_cases k3:((c.cells.length:Nat):Int)>cells
 ·have: ¬ ((c.cells.length:Nat):Int)≤cells:=by omega
  simp [k1,k2,k3,this]
 have k1':1≤c.kind:=by omega
 have k2':c.kind≤9:=by omega
 have k3':((c.cells.length:Nat):Int)≤cells:=by omega
 simp only [decide_eq_false k1,decide_eq_false k2,decide_eq_false k3,decide_eq_true k1',decide_eq_true k2',decide_eq_true k3',cond_false,Bool.true_and]
 obtain ⟨k,hk⟩: ∃ k,c.kind=k:=⟨_,rfl⟩
 rw [hk] at k1' k2'
 simp only [hk]
 clear hE
 rcases zCn ⟨k1',k2'⟩ with h | h | h | h | h | h | h | h | h <;> subst h <;> cases W <;> cases U <;> cases T <;> cases E <;> cases D <;> cases R <;> rfl
end
def szC (c:zAC):Nat:=c.cells.length*(c.cells.length+2)+c.cells.length+c.runs.length+7
theorem zVu (c:zAC):szC c=c.cells.length*(c.cells.length+2)+c.cells.length+c.runs.length+7:=rfl
def szP (q:zAB):Nat:=q.values.length+2*wid q.nbrs+(q.cons.map szC).sum+q.cons.length+10
structure Fit (q:zAB):Prop where
 values:q.values.length≤LB
 nbrs: ∀ r∈q.nbrs,r.length≤LB
 cells: ∀ c∈q.cons,c.cells.length≤LB
 runs: ∀ c∈q.cons,c.runs.length≤LB
theorem zQ4: ∀ {l:List zAC} {c:zAC},c∈l→szC c≤(l.map szC).sum
 | [],_,h=>by cases h
 | a::l,c,h=>by
  rw [List.map_cons,List.sum_cons]
  rcases List.mem_cons.1 h with rfl | h
  ·omega
  ·have:=zQ4 h;omega
section
variable {q:zAB} {n:Nat}
theorem zQX {b:Bool}:(zBz b 120==0)=b:=by cases b <;> rfl
theorem zTm (hF:Fit q) (h1:1≤q.cells) (h2:q.cells≤256) (h3:1≤q.symbols) (h4:q.symbols≤16) (h5:q.cons.length≤4096) (hn:szP q≤n): ∃ r:Int,zFF n q.cons q=some r∧(0≤r↔q.cons.all (zC9 q)=false):=by
 unfold zFF zGs
 have S:=zKd (fun n i=>zBG q.cons q n (.l1 i)) q.cons.length (q.cons.map szC).sum (fun i=>if zC9 q (q.cons.getD i default) then none else some (i:Int)) (fun n i hn0 hi=>?_) (n:=n) (by unfold szP at hn;omega)
 ·rw [show zBG q.cons q n (.l1 0)=_ from S]
  cases hf:(List.range q.cons.length).findSome? (fun i=>if zC9 q (q.cons.getD i default) then none else some (i:Int)) with
  | some r=>
   refine ⟨r,rfl,?_⟩
   obtain ⟨i,hi,hr⟩:=List.exists_of_findSome?_eq_some hf
   have hi':i<q.cons.length:=by simpa using hi
   split at hr
   ·cases hr
   ·rename_i hx
    cases hr
    refine ⟨fun _=>?_,fun _=>by omega⟩
    rw [List.all_eq_false]
    exact ⟨q.cons[i],List.getElem_mem hi',by simpa [hi'] using hx⟩
  | none=>
   obtain ⟨m,hm⟩: ∃ m,n-q.cons.length=m+1:=⟨n-q.cons.length-1,by unfold szP at hn;omega⟩
   refine ⟨-1,by rw [hm];simp [zBG,zCu],?_⟩
   rw [List.findSome?_eq_none_iff] at hf
   have:q.cons.all (zC9 q)=true:=by
    rw [←zBx (p:=zC9 q) (d:=(default:zAC)),List.all_eq_true]
    intro i hi
    have:=hf i hi
    cases hc:zC9 q (q.cons.getD i default) with
    | true=>rfl
    | false=>rw [hc] at this;simp at this
   simp [this]
 ·have hlt:(i:Int)<(q.cons.length:Int):=by omega
  have hR:R64 ((i:Int)+1):=by rw [zAG];omega
  have hmem:q.cons.getD i default∈q.cons:=by rw [List.getD_eq_getElem?_getD,List.getElem?_eq_getElem hi];exact List.getElem_mem hi
  have hsz:=zQ4 hmem
  have hfine:=zal (n:=n) h2 (hF.cells _ hmem) h3 h4 (hF.runs _ hmem) (by rw [zVu (q.cons.getD i default)] at hsz;omega)
  show zCu n (zBG q.cons q n) q.cons q (i:Int)=_
  generalize zBG q.cons q n=self
  simp only [zCu,zSM,zKH,hlt,hR,decide_true,cond_true,Int.natCast_nonneg,and_self,if_true,Int.toNat_natCast,hfine,Option.bind_some]
  cases zC9 q (q.cons.getD i default) <;> rfl
theorem zSL (hF:Fit q) (hn:szP q≤n):valid n q=some (zBz (zDH q) 191):=by
 unfold valid zSK zDH
 have hv:=zE6 (lo:=0) (up:=99) hF.values (show q.values.length<n by unfold szP at hn;omega)
 have hg:=zQR hF.nbrs (show 2*wid q.nbrs+1≤n by unfold szP at hn;omega)
 by_cases c1:q.cells<1
 ·have: ¬ 1≤q.cells:=by omega
  simp [c1,this,zBz]
 have c1':1≤q.cells:=by omega
 by_cases c2:q.cells>256
 ·have: ¬ q.cells≤256:=by omega
  simp [c1,c2,this,zBz]
 have c2':q.cells≤256:=by omega
 by_cases c3:q.symbols<1
 ·have: ¬ 1≤q.symbols:=by omega
  simp [c1,c2,c3,this,zBz]
 have c3':1≤q.symbols:=by omega
 by_cases c4:q.symbols>16
 ·have: ¬ q.symbols≤16:=by omega
  simp [c1,c2,c3,c4,this,zBz]
 have c4':q.symbols≤16:=by omega
 simp only [decide_eq_false c1,decide_eq_false c2,decide_eq_false c3,decide_eq_false c4,decide_eq_true c1',decide_eq_true c2',decide_eq_true c3',decide_eq_true c4',cond_false,Bool.true_and,hv,hg,Option.bind_some,bne,zQX]
 cases ((q.values.length:Nat):Int)==q.symbols with
 | false=>rfl
 | true=>
 cases zA2 q.values 0 99 with
 | false=>rfl
 | true=>
 cases ((q.nbrs.length:Nat):Int)==q.cells with
 | false=>rfl
 | true=>
 cases zDg q.nbrs with
 | false=>rfl
 | true=>
 by_cases c5:((q.cons.length:Nat):Int)>4096
 ·have: ¬ q.cons.length≤4096:=by omega
  simp [c5,this,zBz]
 have c5':q.cons.length≤4096:=by omega
 obtain ⟨r,r1,r2⟩:=zTm hF c1' c2' c3' c4' c5' hn
 simp only [zCw,zCr,r1,decide_eq_false c5,decide_eq_true c5',Option.bind_some,cond_false,Bool.true_and,Bool.not_true,zVP,beq_self_eq_true]
 cases ha:q.cons.all (zC9 q) with
 | false=>
  have:r≥0:=r2.2 ha
  simp [this,zBz]
 | true=>
  have: ¬ r≥0:=fun h=>by rw [r2.1 h] at ha;cases ha
  simp [this,zBz]
theorem zRJ (hF:Fit q) (h1:1≤q.cells) (h2:q.cells≤256) (h3:1≤q.symbols) (h4:q.symbols≤16) (h5:q.cons.length≤4096) (hn:szP q≤n):zDn q n (.l1 0)=some (zBz (q.cons.all (zC9 q)) 191):=by
 have S:=zKd (fun n i=>zDn q n (.l1 i)) q.cons.length (q.cons.map szC).sum (fun i=>if zC9 q (q.cons.getD i default) then none else some 191) (fun n i hn0 hi=>?_) (n:=n) (by unfold szP at hn;omega)
 ·refine S.trans ?_
  rw [zDz,zBx (p:=zC9 q)]
  cases q.cons.all (zC9 q) with
  | false=>rfl
  | true=>
   obtain ⟨m,hm⟩: ∃ m,n-q.cons.length=m+1:=⟨n-q.cons.length-1,by unfold szP at hn;omega⟩
   rw [hm]
   simp [zDn,zHW,zBz]
 ·have hlt:(i:Int)<(q.cons.length:Int):=by omega
  have hR:R64 ((i:Int)+1):=by rw [zAG];omega
  have hmem:q.cons.getD i default∈q.cons:=by rw [List.getD_eq_getElem?_getD,List.getElem?_eq_getElem hi];exact List.getElem_mem hi
  have hsz:=zQ4 hmem
  have hfine:=zWj (n:=n) (hF.cells _ hmem) (hF.runs _ hmem) h1 h2 h3 h4 (by rw [zVu (q.cons.getD i default)] at hsz;omega)
  rw [zZa q _ h1] at hfine
  show zHW n (zDn q n) q (i:Int)=_
  generalize zDn q n=self
  simp only [zHW,hlt,hR,decide_true,cond_true,Int.natCast_nonneg,and_self,if_true,Int.toNat_natCast,hfine,Option.bind_some]
  cases zC9 q (q.cons.getD i default) <;> rfl
theorem zO7 (hF:Fit q) (hn:szP q≤n):zO8 n q=some (zBz (zDH q) 191):=by
 unfold zO8 zO6 zDH
 have hv:=zEc (lo:=0) (up:=99) hF.values (show q.values.length<n by unfold szP at hn;omega)
 have hg:=zPQ hF.nbrs (show 2*wid q.nbrs+1≤n by unfold szP at hn;omega)
 by_cases c1:q.cells<1
 ·have: ¬ 1≤q.cells:=by omega
  simp [c1,this,zBz]
 have c1':1≤q.cells:=by omega
 by_cases c2:q.cells>256
 ·have: ¬ q.cells≤256:=by omega
  simp [c1,c2,this,zBz]
 have c2':q.cells≤256:=by omega
 by_cases c3:q.symbols<1
 ·have: ¬ 1≤q.symbols:=by omega
  simp [c1,c2,c3,this,zBz]
 have c3':1≤q.symbols:=by omega
 by_cases c4:q.symbols>16
 ·have: ¬ q.symbols≤16:=by omega
  simp [c1,c2,c3,c4,this,zBz]
 have c4':q.symbols≤16:=by omega
 simp only [decide_eq_false c1,decide_eq_false c2,decide_eq_false c3,decide_eq_false c4,decide_eq_true c1',decide_eq_true c2',decide_eq_true c3',decide_eq_true c4',cond_false,Bool.true_and,hv,hg,Option.bind_some,bne,zQX]
 cases ((q.values.length:Nat):Int)==q.symbols with
 | false=>rfl
 | true=>
 cases zA2 q.values 0 99 with
 | false=>rfl
 | true=>
 cases ((q.nbrs.length:Nat):Int)==q.cells with
 | false=>rfl
 | true=>
 cases zDg q.nbrs with
 | false=>rfl
 | true=>
 by_cases c5:((q.cons.length:Nat):Int)>4096
 ·have: ¬ q.cons.length≤4096:=by omega
  simp [c5,this,zBz]
 have c5':q.cons.length≤4096:=by omega
 simp only [zRJ hF c1' c2' c3' c4' c5' hn,decide_eq_false c5,decide_eq_true c5',cond_false,Bool.true_and,Bool.not_true]
theorem zcv {k:Int} (h:1≤k∧k≤9):([0,1,1,2,2,3,1,1,4,4]:List Int).getD k.toNat 0=lvl k:=by
 rcases zCn h with h | h | h | h | h | h | h | h | h <;> subst h <;> rfl
theorem zXs (hv:zDH q=true) {i:Int} (h0:0≤i) (hi:i<(q.cons.length:Int)):1≤(q.cons.getD i.toNat default).kind∧(q.cons.getD i.toNat default).kind≤9:=by
 have hi':i.toNat<q.cons.length:=by omega
 have hmem:q.cons.getD i.toNat default∈q.cons:=by rw [List.getD_eq_getElem?_getD,List.getElem?_eq_getElem hi'];exact List.getElem_mem hi'
 exact zEU (zJe ((zAo hv).2.2.2.2.2 _ hmem))
theorem zXp (hF:Fit q) (hn:szP q≤n) (i:Int):zLT n q i=some (zDe q i):=by
 unfold zLT zLS zDe
 rw [zSL hF hn]
 cases hv:zDH q with
 | false=>rfl
 | true=>
  by_cases h0:i<0
  ·have: ¬ (0≤i∧i<(q.cons.length:Int)):=by omega
   simp [zBz,h0,this]
  ·by_cases hi:i≥(q.cons.length:Int)
   ·have: ¬ (0≤i∧i<(q.cons.length:Int)):=by omega
    simp [zBz,h0,hi,this]
   ·have hc:0≤i∧i<(q.cons.length:Int):=by omega
    have hk:=zXs hv hc.1 hc.2
    have hg:(0≤i∧i<(q.cons.length:Int))∧(0≤(q.cons.getD i.toNat default).kind∧(q.cons.getD i.toNat default).kind<((10:Nat):Int)):=⟨hc,by omega,by omega⟩
    simp only [zBz,if_true,Option.bind_some,bne_self_eq_false,cond_false,decide_eq_false h0,decide_eq_false hi,if_pos hg,if_pos hc,zcv hk,Bool.true_eq_false,if_false]
theorem zWe (hF:Fit q) (hn:szP q≤n) (i:Int):zPI n q i=some (zDe q i):=by
 unfold zPI zKi zDe
 rw [zO7 hF hn]
 cases hv:zDH q with
 | false=>rfl
 | true=>
  by_cases h0:i<0
  ·have: ¬ (0≤i∧i<(q.cons.length:Int)):=by omega
   simp [zBz,h0,this]
  ·by_cases hi:i≥(q.cons.length:Int)
   ·have: ¬ (0≤i∧i<(q.cons.length:Int)):=by omega
    simp [zBz,h0,hi,this]
   ·have hc:0≤i∧i<(q.cons.length:Int):=by omega
    have hk:=zXs hv hc.1 hc.2
    simp only [zBz,if_true,Option.bind_some,bne_self_eq_false,cond_false,decide_eq_false h0,decide_eq_false hi,if_pos hc,Bool.true_eq_false,if_false]
    obtain ⟨k,hk0⟩: ∃ k,(q.cons.getD i.toNat default).kind=k:=⟨_,rfl⟩
    rw [hk0] at hk
    simp only [hk0]
    rcases zCn hk with h | h | h | h | h | h | h | h | h <;> subst h <;> rfl
theorem zLn (hn:q.cons.length<n): ∃ b,zGh n q=some b:=by
 unfold zGh zIF
 have loop:q.cons.length≤120→∃ b,zBI q n (.l1 0)=some b:=fun hl=>by
  have S:=zKd (fun n i=>zBI q n (.l1 i)) q.cons.length 0 (fun i=>if (!(decide (((q.cons.getD i default).cells.length:Int)>20))&&!(decide (((q.cons.getD i default).runs.length:Int)>10))) then none else some false) (fun n i _ hi=>?_) (n:=n) (by omega)
  ·rw [show zBI q n (.l1 0)=_ from S]
   rw [zDz]
   split
   ·obtain ⟨m,hm⟩: ∃ m,n-q.cons.length=m+1:=⟨n-q.cons.length-1,by omega⟩
    exact ⟨true,by rw [hm];simp [zBI,zDV]⟩
   ·exact ⟨false,rfl⟩
  ·have hlt:(i:Int)<(q.cons.length:Int):=by omega
   have hR:R64 ((i:Int)+1):=by rw [zAG];omega
   show zDV n (zBI q n) q (i:Int)=_
   generalize zBI q n=self
   simp only [zDV,hlt,hR,decide_true,cond_true,Int.natCast_nonneg,and_self,if_true,Int.toNat_natCast]
   cases decide (((q.cons.getD i default).cells.length:Int)>20) <;> cases decide (((q.cons.getD i default).runs.length:Int)>10) <;> rfl
 cases decide (q.cells>16) with
 | true=>exact ⟨_,rfl⟩
 | false=>
 cases decide (q.symbols>6) with
 | true=>exact ⟨_,rfl⟩
 | false=>
 cases decide (((q.values.length:Nat):Int)>8) with
 | true=>exact ⟨_,rfl⟩
 | false=>
 cases decide (((q.nbrs.length:Nat):Int)>20) with
 | true=>exact ⟨_,rfl⟩
 | false=>
 by_cases h:((q.cons.length:Nat):Int)>120
 ·rw [decide_eq_true h];exact ⟨_,rfl⟩
 ·rw [decide_eq_false h];exact loop (by omega)
theorem zap {pos:List Int} (hn:q.cons.length<n): ∃ b,few n q pos=some b:=by
 obtain ⟨b,hb⟩:=zLn hn
 unfold few zYU
 rw [hb]
 cases b
 ·exact ⟨_,rfl⟩
 ·exact ⟨_,rfl⟩
end
end Go.Proofs.YtekkngkphejfcaaGreatDoor
namespace Go.Proofs.YtekkngkphejfcaaGreatDoor
open Go.RowKit
theorem zVr (x k idx:Nat) (w:World) (hx0:((x:Int)==0)=false)
 (key:IntKind.u64.wrap (bits BinOp.and IntKind.u64 (x:Int) (IntKind.u64.wrap (-(x:Int)))*285870213051353865)/288230376151711744=(idx:Int))
 (hi:idx<64) (hk:k<64) (hcell:w.cell? ⟨1,idx,none⟩=some (.int .u8 k)):
 Calls Tryz.prog 101 #[.int .u64 x] w fun e w'=>e= .returned (.int .i64 k)∧w=w':=by
 go_enter Tryz.func101,Tryz.ntmps101
 go_wp2_with (simp only [key])
 go_ret
 exact ⟨rfl,rfl⟩
theorem zcc (x:Nat) (hx:x<18446744073709551616) (hx0:x≠0) (w:World) (hT:Tab w):
 Calls Tryz.prog 101 #[.int .u64 x] w fun e w'=>e= .returned (.int .i64 (Lib.ctz 64 x))∧w=w':=by
 obtain ⟨hlow,hk⟩:=Lib.lowest_bit 64 x hx0 hx
 obtain ⟨hi,htab⟩:=Lib.deBruijn64_at _ hk
 have hcell:=hT _ hi
 rw [htab] at hcell
 exact zVr x _ _ w (by simp;omega) (tz64_key x _ hx hx0 hlow) hi hk hcell
theorem zeP (x:Nat) (hx:x<18446744073709551616) (hx0:x≠0) (w:World) (hT:Tab w):
 Calls Tryz.prog 70 #[.int .u64 x] w fun e w'=>e= .returned (.int .i64 (Lib.ctz 64 x))∧w=w':=by
 have h1:=zcc x hx hx0 w hT
 go_enter Tryz.func70,Tryz.ntmps70
 go_wp2_with (go_at_call 101;refine h1.mono ?_;rintro e w' ⟨rfl,rfl⟩)
 go_ret
 exact ⟨rfl,rfl⟩
def zBt (x:Nat):List Nat:=(List.range 64).filter fun s=>x.testBit s
theorem zKS:zBt 0= []:=by simp [zBt]
theorem zaI (k m s:Nat):(2 ^ k*(2*m+1)).testBit s=(decide (k≤s)&&(2*m+1).testBit (s-k)):=by
 rw [Nat.mul_comm,Nat.testBit_mul_two_pow]
theorem zb1 (m s:Nat):(2*m+1).testBit s=(decide (s=0)||(2*m).testBit s):=by
 cases s with
 | zero=>simp [Nat.testBit_zero]
 | succ s=>simp [Nat.testBit_succ];congr 1;omega
theorem zZk: ∀ k,k<64→List.range 64=List.range k++k::List.range' (k+1) (63-k):=by decide+kernel
theorem zKT (x:Nat) (hx:x<18446744073709551616) (hx0:x≠0):zBt x=Lib.ctz 64 x::zBt (x&&& (x-1)):=by
 have hc:Lib.ctz 64 x=Lib.ctzFrom 64 x:=by simp [Lib.ctz,hx0]
 obtain ⟨m,hm,hk⟩:=Lib.ctzFrom_spec 64 x (by omega) (by simpa using hx)
 rw [hc]
 generalize Lib.ctzFrom 64 x=k at*
 have hb: ∀ s,x.testBit s=(decide (k≤s)&&(decide (s-k=0)||(2*m).testBit (s-k))):=fun s=>by rw [hm,zaI,zb1]
 have hy: ∀ s,(x&&& (x-1)).testBit s=(x.testBit s&&decide (s≠k)):=by
  intro s
  have hp:0<2 ^ k:=Nat.two_pow_pos k
  have hx1:x-1=2 ^ k*(2*m)+(2 ^ k-1):=by
   rw [hm,Nat.mul_add,Nat.mul_one];omega
  have hb1:(x-1).testBit s=if s<k then (2 ^ k-1).testBit s else (2*m).testBit (s-k):=by
   rw [hx1,Nat.testBit_two_pow_mul_add _ (by omega)]
  rw [Nat.testBit_and,hb1,hb]
  by_cases h1:s<k
  ·rw [decide_eq_false (by omega: ¬ k≤s)];simp
  ·rw [if_neg h1]
   by_cases h2:s=k
   ·subst h2;simp
   ·rw [decide_eq_true (by omega:k≤s),decide_eq_false (by omega: ¬ s-k=0)];simp [h2]
 unfold zBt
 have hr:List.range 64=List.range k++k::List.range' (k+1) (63-k):=zZk k hk
 rw [hr]
 simp only [List.filter_append,List.filter_cons]
 have h1: ∀ y:Nat,(∀ s,s<k→y.testBit s=false)→(List.range k).filter (fun s=>y.testBit s)= []:=fun y h=>by
  rw [List.filter_eq_nil_iff];intro s hs;simp [h s (List.mem_range.1 hs)]
 rw [h1 x (fun s hs=>by rw [hb];simp;omega),h1 (x&&& (x-1)) (fun s hs=>by rw [hy,hb];simp;omega)]
 have h2:x.testBit k=true:=by rw [hb];simp
 have h3:(x&&& (x-1)).testBit k=false:=by rw [hy];simp
 simp only [h2,h3,List.nil_append,if_true,Bool.false_eq_true,if_false]
 congr 1
 apply List.filter_congr
 intro s hs
 rw [hy]
 have:=List.mem_range'_1.1 hs
 simp;omega
theorem zQs (x:Nat) (hx:x<9223372036854775808) (hx0:x≠0):bits .and .i64 (x:Int) ((x:Int)-1)=((x&&& (x-1):Nat):Int):=by
 have e:((x:Int)-1)=((x-1:Nat):Int):=by omega
 have hlt:x&&& (x-1)≤x:=Nat.and_le_left
 rw [e]
 have h1:(BitVec.ofInt 64 (x:Int)).toNat=x:=by
  rw [BitVec.ofInt_natCast,BitVec.toNat_ofNat];exact Nat.mod_eq_of_lt (by omega)
 have h2:(BitVec.ofInt 64 ((x-1:Nat):Int)).toNat=x-1:=by
  rw [BitVec.ofInt_natCast,BitVec.toNat_ofNat];exact Nat.mod_eq_of_lt (by omega)
 show IntKind.i64.wrap ((BitVec.ofInt 64 (x:Int)&&& BitVec.ofInt 64 ((x-1:Nat):Int)).toNat:Int)=_
 rw [BitVec.toNat_and,h1,h2]
 have hm:((x&&& (x-1):Nat):Int) % 2 ^ 64=((x&&& (x-1):Nat):Int):=by omega
 simp only [IntKind.wrap,IntKind.signed,IntKind.bits,hm]
 rw [if_neg (by rw [Bool.true_and,decide_eq_true_eq];omega)]
def zce (w:World) (b o:Nat):Nat:=match w.cell? ⟨b,o,none⟩ with
 | some (.int _ x)=>x.toNat
 | _=>0
def zSR (s:Nat):Array Value:=#[.int .i64 s]
set_option maxRecDepth 100000 in
set_option maxHeartbeats 4000000 in
theorem zOp (set b o:Nat) (w:World) (hset:set<9223372036854775808) (hT:Tab w) (hb:w.cell? ⟨b,o,none⟩=some (.int .i64 set)) (hfz:w.frozen? ⟨b,o,none⟩=false) (hbt:b≠1):
 zY2 Tryz.prog 69 #[.pointer (some ⟨b,o,none⟩)] ((zBt set).map zSR) (fun k=>k=b) (fun k=>k=1) w:=by
 intro l J Jx G W hJ hJx hU hG hGlt hY h0
 have HY:=Lib.hid hY
 clear hY
 have hGb:G b:=hG b rfl
 have hbW:W.cell? ⟨b,o,none⟩=some (.int .i64 set):=hU.cell (fun h=>h (.inl rfl)) hb
 have hfW:W.frozen? ⟨b,o,none⟩=false:=by
  rw [World.frozen?_of_block (hU.block b (World.block_lt_of_cell? w _ hb) (fun h=>h (.inl rfl)))];exact hfz
 have hTW:Tab W:=fun j hj=>hU.cell (fun h=>h (.inr rfl)) (hT j hj)
 refine callsIn_of_wp Tryz.func69 rfl trivial ?_ rfl
 simp only [Tryz.ntmps69,List.size_toArray,List.length_cons,List.length_nil,Nat.reduceAdd,Nat.reduceSub,Array.replicate_succ,Array.replicate_zero,List.push_toArray,List.append_toArray,List.nil_append,List.cons_append]
 gi_wp2
 gi_loopw [3,4,5,6,7,8,9,10,11,12,13,14] (fun _ _ _ _ _ _ _ _ _ _ _ _ wr=>∃ (i x:Nat),W.heap.size≤wr.heap.size∧x<9223372036854775808∧i≤(zBt set).length∧Hid ((zBt set).drop i=zBt x)∧Hid (J i G wr)∧wr.cell? ⟨b,o,none⟩=some (.int .i64 x)∧wr.frozen? ⟨b,o,none⟩=false∧Hid (Tab wr))
  (fun _ _ _ _ _ _ _ _ _ _ _ _ wr=>zce wr b o)
 case atStart=>exact ⟨0,set,Nat.le_refl _,hset,Nat.zero_le _,Lib.hid rfl,Lib.hid h0,hbW,hfW,Lib.hid hTW⟩
 case round=>
  obtain ⟨i,x,hsz,hx,hin,hd,hj,hc,hf,ht⟩:=hrel
  by_cases hx0:x=0
  ·subst hx0
   have hil:i=(zBt set).length:=by
    have:=congrArg List.length hd.out
    rw [List.length_drop,zKS,List.length_nil] at this
    omega
   gi_wp2
   go_end0
   exact ⟨⟨_,rfl⟩,.inl ⟨G,hil▸hj.out⟩⟩
  ·have N0:((x:Int)==0)=false:=by simp [hx0]
   have hdl:(zBt set).drop i=Lib.ctz 64 x::zBt (x&&& (x-1)):=by rw [hd.out,zKT x (by omega) hx0]
   have hil:i<(zBt set).length:=by
    rcases Nat.lt_or_ge i (zBt set).length with h | h
    ·exact h
    ·rw [List.drop_eq_nil_of_le h] at hdl;cases hdl
   have hie:(zBt set)[i]=Lib.ctz 64 x:=by
    have:=List.drop_eq_getElem_cons hil
    rw [hdl] at this;injection this with h1 h2;exact h1.symm
   obtain ⟨fn,tmps,asg,body,hy,hR⟩:=HY.out i (zSR (Lib.ctz 64 x)) G wr (by rw [List.getElem?_map,List.getElem?_eq_getElem hil,hie];rfl) hj.out
   have hR':=Lib.hid hR
   clear hR
   unfold zSR at hy
   have htz:=Lib.hid (zeP x (by omega) hx0 wr ht.out)
   have hdl':=Lib.hid hdl
   clear hdl hd
   gi_wp2_with (first | refine ⟨trivial,rfl,?_⟩ | (gi_at_call 70;refine (callsIn_wide.2 htz.out).mono ?_;rintro e w' ⟨rfl,rfl⟩))
   refine ⟨rfl,hR'.out.mono ?_⟩
   rintro e W1 ⟨hu1,(⟨rfl,hj1⟩ | ⟨rfl,hx1⟩)⟩
   ·have hc1:W1.cell? ⟨b,o,none⟩=some (.int .i64 x):=hu1.cell (fun h=>h (.inl hGb)) hc
    have hf1:W1.frozen? ⟨b,o,none⟩=false:=by
     rw [World.frozen?_of_block (hu1.block b (World.block_lt_of_cell? wr _ hc) (fun h=>h (.inl hGb)))];exact hf
    have ht1:Tab W1:=fun j hj=>hu1.cell (fun h=>h (.inr rfl)) (ht.out j hj)
    have hs1:Upd G W1 (W1.setCell ⟨b,o,none⟩ (.int .i64 ((x&&& (x-1):Nat):Int))):=(Upd.refl G W1).setCell (fun _=>hGb) _
    have hsz2:=Nat.le_trans hsz (Nat.le_trans hu1.size hs1.size)
    have hj2:=Lib.hid (hJ _ _ _ _ _ hj1 hs1 (fun k h=>.inl h) (fun k h=>Nat.lt_of_lt_of_le (hGlt k h) hsz2))
    have ht2:Hid (Tab (W1.setCell ⟨b,o,none⟩ (.int .i64 ((x&&& (x-1):Nat):Int)))):=Lib.hid fun j hj=>
     ((Upd.refl (fun k=>k=b) W1).setCell (fun _=>rfl) _).cell (fun e=>hbt e.symm) (ht1 j hj)
    have hlt:x&&& (x-1)<x:=Nat.lt_of_le_of_lt Nat.and_le_right (by omega)
    clear hs1 ht1
    gi_wp2
    rw [zQs x hx hx0]
    have hc2:(W1.setCell ⟨b,o,none⟩ (.int .i64 ((x&&& (x-1):Nat):Int))).cell? ⟨b,o,none⟩=some (.int .i64 ((x&&& (x-1):Nat):Int)):=World.cell?_setCell_same' W1 _ _ (by rw [hc1];rfl)
    refine ⟨⟨_,_,_,_,_,_,_,_,_,_,_,_,⟨i+1,x&&& (x-1),hsz2,by omega,hil,Lib.hid ?_,hj2,hc2,?_,ht2⟩,rfl⟩,?_⟩
    ·rw [←List.drop_drop,hdl'.out];rfl
    ·rw [World.frozen?_setCell];exact hf1
    ·unfold zce
     rw [hc2,hc]
     show ((x&&& (x-1):Nat):Int).toNat<(x:Int).toNat
     omega
   ·gi_wp2
    refine bodyPost_ret (results_none rfl _ _ _) rfl ?_
    exact ⟨⟨_,rfl⟩,.inr ⟨G,hx1⟩⟩
def zAj (x:Int):List Int:=(zBt x.toNat).map fun (s:Nat)=>(s:Int)
theorem zYZ (x:Int):(zAj x).map zD1=(zBt x.toNat).map zSR:=by
 unfold zAj
 rw [List.map_map]
 rfl
theorem zQ5 {x:Int} (hx:(0:Int)≤x∧x<9223372036854775808) (w:World) (b o:Nat) (u:Value) (hg:GG.gi w) (hng:GG.ng≤b) (hb: ∃ cs t,w.heap[b]? =some (.cells cs t (0,0))) (hc:w.cell? ⟨b,o,none⟩=some u) (hr:u= .int .i64 x):
 zY2 Tryz.prog 69 #[.pointer (some ⟨b,o,none⟩)] ((zAj x).map zD1) (fun k=>k=b) (fun k=>k=1) w:=by
 rw [zYZ]
 obtain ⟨cs,t,hb⟩:=hb
 have hng:2≤b:=hng
 refine zOp x.toNat b o w (by omega) hg.1 ?_ ?_ (by omega)
 ·rw [hc,hr];congr 2;omega
 ·unfold World.frozen?;simp [hb]
end Go.Proofs.YtekkngkphejfcaaGreatDoor
namespace Go.Proofs.YtekkngkphejfcaaGreatDoor
open Go.RowKit
theorem ES.iterOf {P:Program} {Γ:Glo} {f gf:Nat} {ds:List DV} {c:Nat→DV} {d:DV} {encs:List (Array Value)} {Rd:Nat→Prop} (h0:ES P Γ f ds [] (.fn gf 1 c) [some (.cells [d])] true) (hc:c 0= .ref 0 0) (hds:ds.all zIr=true)
 (eg: ∀ args W,(callFunc gf args).run P W= .ok (.enter gf args) W)
 (law: ∀ (w:World) (b o:Nat) (u:Value),Γ.gi w→Γ.ng≤b→(∃ cs t,w.heap[b]? =some (.cells cs t (0,0)))→w.cell? ⟨b,o,none⟩=some u→zAU (fun _=>False) w d [] u→zY2 P gf #[.pointer (some ⟨b,o,none⟩)] encs (fun k=>k=b) Rd w)
 (hd:zMq d=true) (hRd: ∀ b,Rd b→b<Γ.ng) (h:DH):ES P Γ f ds h (.it h.length) (h++[some (.iter encs)]) true:=by
 refine ⟨h0.1,fun N ρ w args HR hargs=>?_⟩
 refine (h0.2 (MS N h ρ) [] w args (zGa (fun b hb=>HR.lt2 hb) HR.gi) ⟨hargs.1,fun i hi=>?_⟩).mono ?_
 ·have hx:=zGU (List.all_eq_true.1 hds (ds.getD i .any) (by simp [hi]))
  exact zAU.out _ (zA7 (fun b hb=>zL7.1 hb) []) (hx _ _ _ _ (hargs.2 i hi))
 ·rintro e w' ⟨v,rfl,⟨⟨ρ',g1,g2,g3,g4⟩,g5⟩⟩
  have hE:=g5 rfl
  obtain ⟨p,hp,hob⟩:=g1.obj 0 _ rfl
  have hob:zAP w' p 1 _:=hob
  have hf: ∀ b,p.foot b→w.heap.size≤b:=fun b hb=>(g3.grow b ⟨0,_,p,rfl,hp,hb⟩).resolve_left fun ⟨k,o',p',q1,_⟩=>by simp at q1
  obtain ⟨lb,hv,hl,hlb⟩:=g2
  obtain ⟨u,hu,hr⟩:=hlb 0 (by omega)
  rw [hc] at hr
  obtain ⟨p',hp',hu2⟩:=hr
  have ep:p'=p:=Option.some.inj (hp'.symm.trans hp)
  subst ep
  have hlb':lb= #[.pointer (some ⟨p'.blk,p'.off,none⟩)]:=by
   apply Array.ext
   ·simp [hl]
   ·intro i h1 h2
    have:i=0:=by omega
    subst this
    have:=Array.getElem?_eq_some_iff.1 hu
    obtain ⟨_,e⟩:=this
    rw [e,hu2];rfl
  subst hlb'
  obtain ⟨u2,c1,c2⟩:=zAP.cell hob (j:=0) (by omega)
  have hfoot:p'.foot=fun b=>b=p'.blk:=hob.1
  have hng:Γ.ng≤w.heap.size:=Γ.lo _ HR.gi
  have hcell:=g1.cel 0 _ p' p'.blk rfl hp (by rw [hfoot])
  refine ⟨v,rfl,⟨⟨ρ++[{ p' with val:=v }],HR.snoc hE (fun b hb=>⟨hf b hb,(g1.cel 0 _ p' b rfl hp hb).2.2⟩) ?_,⟨{ p' with val:=v },by rw [←HR.len];simp,rfl⟩,zCH.snoc HR hE hf,fun _ _ h=>zAR h⟩,g5⟩⟩
  obtain ⟨_,cs,t,hcs,_⟩:=hob
  refine ⟨gf,_,Rd,⟨hv,eg⟩,?_,fun b hb=>?_,fun b hb=>?_⟩
  ·show zY2 P gf _ encs p'.foot Rd w'
   rw [hfoot]
   refine law w' _ _ u2 g1.gi hcell.1 ⟨cs,t,hcs⟩ (by simpa using c1) ?_
   exact zAU.out _ (zA7 (fun b hb=>hb.elim) []) (zIp hd c2)
  ·have hb':=hRd b hb
   refine ⟨fun hm=>?_,Nat.lt_of_lt_of_le (Nat.lt_of_lt_of_le hb' hng) hE.size⟩
   rcases hm with hm | hm
   ·have:=(HR.nlt b hm).2;omega
   ·rcases MO.snoc HR hm with hm | hm
    ·have:=HR.low hm;omega
    ·have:=hf b hm;omega
  ·obtain ⟨_,_,c,t,z,h4⟩:=g1.cel 0 _ p' b rfl hp hb
   exact (Array.getElem?_eq_some_iff.1 h4).1
end Go.Proofs.YtekkngkphejfcaaGreatDoor
namespace Go.Proofs.YtekkngkphejfcaaGreatDoor
open Go.RowKit
set_option maxRecDepth 100000
set_option maxHeartbeats 40000000
inductive zOQ where
 | l1 (x7:Int)
def zIK (n:Nat) (self:zOQ→Option Bool) (sets:List Int) (x7:Int):Option Bool:=
 bif (decide (x7<(sets.length:Int))) then
  if 0≤x7∧x7<(sets.length:Int) then
   bif ((sets.getD ((x7).toNat) 0)==0) then
    some true
   else
    if R64 (x7+1) then
     self (.l1 (x7+1))
    else none
  else none
 else
  some false
def zTV (n:Nat) (self:zOQ→Option Bool) (sets:List Int):Option Bool:=
 self (.l1 0)
def zI2 (sets:List Int):Nat→zOQ→Option Bool
 | 0,_=>none
 | n+1,.l1 x7=>zIK n (zI2 sets n) sets x7
def zax (n:Nat) (sets:List Int):Option Bool:=zTV n (zI2 sets n) sets
def zaw (n B:Nat) (N:Yd 0) (sets:List Int) (r:Bool):zOQ→Prop
 | .l1 x7=>∀ m0:Nat,n≤m0→TW B N (FQ Tryz.f72 0 (.bool r) []) (toN m0 (zA9 (zAK Tryz.f72) 0 [])) ⟨frm 14 [(5,.ints sets),(6,.i (sets.length:Int)),(7,.i x7)],[]⟩
theorem zYg (B:Nat) (N:Yd 0) (sets:List Int):Al (zI2 sets) (zaw · B N sets):=ia (fun _=>rfl) fun n hself pt r h=>by
 cases pt
 case l1 x7=>
  intro m0 hm0
  refine rd hm0 fun m0 hm0=>?_
  revert r
  apply gO
  exact bi 8 (gi (bi 12 (lE zAH [2] []) (gw 13 (lG zAH [] (hself _ _ · m0 hm0))))) (lE zAH [2] [])
theorem zau {n:Nat} {sets:List Int} {r:Bool} (h:zax n sets=some r):EQ 72 [.ints sets] [] (.bool r) [] true:=by
 refine ot Tryz.func72 fun B N=>?_
 revert r
 apply gO
 exact lN zAH [] ((zYg B N sets n) _ _ · n Nat.le.refl)
def zLV (n:Nat) (pos:List Int):Option Bool:=
 (zax n pos).bind fun y1=>
  some y1
def zMx (n:Nat) (pos:List Int):Option Bool:=zLV n pos
theorem zP7 {n:Nat} {pos:List Int} {r:Bool} (h:zMx n pos=some r):EQ 51 [.ints pos] [] (.bool r) [] true:=by
 unfold zMx zLV at h
 refine ot Tryz.func51 fun B N=>?_
 revert r
 apply gO
 exact cf zau [] fun _=>lE zAH [2] []
inductive zJ0 where
 | l1 (x20:Int)
def zFr (n:Nat) (self:zJ0→Option Int) (q:zAB) (pos:List Int) (x20:Int):Option Int:=
 bif (decide (x20<(pos.length:Int))) then
  if 0≤x20∧x20<(pos.length:Int) then
   bif (decide ((pos.getD ((x20).toNat) 0)<0)) then
    some 250
   else
    if 0≤q.symbols∧q.symbols≤(IntKind.i64.bits:Int) then
     bif (decide ((pos.getD ((x20).toNat) 0)≥(IntKind.i64.wrap (1*2 ^ (q.symbols).toNat)))) then
      some 250
     else
      if R64 (x20+1) then
       self (.l1 (x20+1))
      else none
    else none
  else none
 else
  some 0
def zPp (n:Nat) (self:zJ0→Option Int) (q:zAB) (pos:List Int):Option Int:=
 (valid n q).bind fun y1=>
  bif (y1 != 0) then
   some y1
  else
   bif ((pos.length:Int) != q.cells) then
    some 250
   else
    self (.l1 0)
def zE8 (q:zAB) (pos:List Int):Nat→zJ0→Option Int
 | 0,_=>none
 | n+1,.l1 x20=>zFr n (zE8 q pos n) q pos x20
def zS1 (n:Nat) (q:zAB) (pos:List Int):Option Int:=zPp n (zE8 q pos n) q pos
def zXM (n B:Nat) (N:Yd 0) (q:zAB) (pos:List Int) (r:Int):zJ0→Prop
 | .l1 x20=>∀ m0:Nat,n≤m0→TW B N (FQ Tryz.f44 0 (.i r) []) (toN m0 (zA9 (zAK Tryz.f44) 0 [])) ⟨frm 34 [(2,.ref 0 0),(18,.ints pos),(19,.i (pos.length:Int)),(20,.i x20)],[some (.cells (zAE q))]⟩
theorem zUa (B:Nat) (N:Yd 0) (q:zAB) (pos:List Int):Al (zE8 q pos) (zXM · B N q pos):=ia (fun _=>rfl) fun n hself pt r h=>by
 cases pt
 case l1 x20=>
  intro m0 hm0
  refine rd hm0 fun m0 hm0=>?_
  revert r
  apply gO
  exact bi 21 (gi (bi 25 (lE zAH [4] []) (gi (bi 31 (lE zAH [4] []) (gw 33 (lG zAH [0] (hself _ _ · m0 hm0))))))) (lE zAH [4] [])
theorem zXK {n:Nat} {q:zAB} {pos:List Int} {r:Int} (h:zS1 n q pos=some r):EQ 44 [.agg 5 (L1 (zAE q)),.ints pos] [] (.i r) [] true:=by
 refine ot Tryz.func44 fun B N=>?_
 revert r
 apply gO
 exact cf zSJ [some (.cells (zAE q))] fun _=>bi 11 (lE zAH [4] []) (bi 17 (lE zAH [4] []) (lN zAH [0] ((zUa B N q pos n) _ _ · n Nat.le.refl)))
def zQj (n:Nat) (s_:List Int):Option ((List Int)):=
 if 0<s_.length∧((True)∧(0=0∧0=([]:List Int).length)∧([]:List Int).length+s_.length≤LIM) then
  if ([]:List Int).length+s_.length=(([]:List Int)++s_).length then
   some (([]:List Int)++s_)
  else none
 else none
def zTX (n:Nat) (s_:List Int):Option ((List Int)):=zQj n s_
theorem zYm {n:Nat} {s_:List Int} {r:(List Int)} (h:zTX n s_=some r):EQ 66 [.ints s_] [] (.msl 0 1 0 r.length) [some (.ints r)] true:=by
 refine ot Tryz.func66 fun B N=>?_
 revert r
 apply gO
 exact gc (gi (gi (gn fun g2=>lF fun p=>el zAH [2] [1] p [] H0 [.msl 0 1 0 (([]:List Int).length+s_.length)] (DLe.mslN g2))))
def zLt (n:Nat) (s_:List Bool):Option ((List Bool)):=
 if 0<s_.length∧((True)∧(0=0∧0=([]:List Bool).length)∧([]:List Bool).length+s_.length≤LIM) then
  if ([]:List Bool).length+s_.length=(([]:List Bool)++s_).length then
   some (([]:List Bool)++s_)
  else none
 else none
def zLu (n:Nat) (s_:List Bool):Option ((List Bool)):=zLt n s_
theorem zQk {n:Nat} {s_:List Bool} {r:(List Bool)} (h:zLu n s_=some r):EQ 109 [.bools s_] [] (.msl 0 1 0 r.length) [some (.bools r)] true:=by
 refine ot Tryz.func109 fun B N=>?_
 revert r
 apply gO
 exact gc (gi (gi (gn fun g2=>lF fun p=>el zAH [2] [1] p [] H0 [.msl 0 1 0 (([]:List Bool).length+s_.length)] (DLe.mslN g2))))
def zLv (n:Nat) (q:zAB) (i:Int) (pos:List Int):Option Int:=
 (zLT n q i).bind fun y1=>
  bif (y1.2 != 0) then
   some y1.2
  else
   (zS1 n q pos).bind fun y2=>
    some y2
def zIO (n:Nat) (q:zAB) (i:Int) (pos:List Int):Option Int:=zLv n q i pos
theorem zQl {n:Nat} {q:zAB} {i:Int} {pos:List Int} {r:Int} (h:zIO n q i pos=some r):EQ 35 [.agg 5 (L1 (zAE q)),.i i,.ints pos] [] (.i r) [] true:=by
 unfold zIO zLv at h
 refine ot Tryz.func35 fun B N=>?_
 revert r
 apply gO
 exact cf zLR [some (.cells (zAE q))] fun _=>bi 16 (lE zAH [6] []) (cf zXK [some (.cells (zAE q))] fun _=>lE zAH [6] [])
theorem zNR:SOk (zBa Tryz.f14 6) [] (List.range 9) []:=by unfold SOk;kernel_rfl
def zCM:Sch:=fun i=>match i with
 | 6=>.ord [] (List.range 9) []
 | _=>.no
inductive zEm where
 | l1 (x5:Int)
def zC3 (n:Nat) (self:zEm→Option Bool) (a b_:List (Int×Int)) (x5:Int):Option Bool:=
 bif (decide (x5<(a.length:Int))) then
  if (0≤x5∧x5<(a.length:Int))∧(0≤x5∧x5<(b_.length:Int)) then
   bif (!((((a.getD ((x5).toNat) default).1)==((b_.getD ((x5).toNat) default).1))&&((((a.getD ((x5).toNat) default).2)==((b_.getD ((x5).toNat) default).2))&&true))) then
    some false
   else
    if R64 (x5+1) then
     self (.l1 (x5+1))
    else none
  else none
 else
  some true
def zJO (n:Nat) (self:zEm→Option Bool) (a b_:List (Int×Int)):Option Bool:=
 bif ((a.length:Int) != (b_.length:Int)) then
  some false
 else
  self (.l1 0)
def zCl (a b_:List (Int×Int)):Nat→zEm→Option Bool
 | 0,_=>none
 | n+1,.l1 x5=>zC3 n (zCl a b_ n) a b_ x5
def zCO (n:Nat) (a b_:List (Int×Int)):Option Bool:=zJO n (zCl a b_ n) a b_
def zOz (n B:Nat) (N:Yd 0) (a b_:List (Int×Int)) (r:Bool):zEm→Prop
 | .l1 x5=>∀ m0:Nat,n≤m0→TW B N (FQ Tryz.f14 0 (.bool r) []) (toN m0 (zA9 (zAK Tryz.f14) 0 [])) ⟨frm 26 [(0,.sl 2 a.length (zAz iiC a)),(1,.sl 2 b_.length (zAz iiC b_)),(5,.i x5)],[]⟩
theorem zNQ (B:Nat) (N:Yd 0) (a b_:List (Int×Int)):Al (zCl a b_) (zOz · B N a b_):=ia (fun _=>rfl) fun n hself pt r h=>by
 cases pt
 case l1 x5=>
  intro m0 hm0
  refine rd hm0 fun m0 hm0=>?_
  revert r
  apply gO
  exact bi 14 (jg zNR (gc (gi (gi (bi 25 (lE zCM [4] []) (gw 16 (lG zCM [] (hself _ _ · m0 hm0)))))))) (lE zCM [4] [])
theorem zJN {n:Nat} {a b_:List (Int×Int)} {r:Bool} (h:zCO n a b_=some r):EQ 14 [.sl 2 a.length (zAz iiC a),.sl 2 b_.length (zAz iiC b_)] [] (.bool r) [] true:=by
 refine ot Tryz.func14 fun B N=>?_
 revert r
 apply gO
 exact bi 10 (lE zCM [4] []) (lN zCM [] ((zNQ B N a b_ n) _ _ · n Nat.le.refl))
inductive zKA where
 | l1 (x15:Int)
def zF2 (n:Nat) (self:zKA→Option Int) (g_:List (List Int)) (sets:List (List Bool)) (x15:Int):Option Int:=
 bif (decide (x15<(sets.length:Int))) then
  if 0≤x15∧x15<(sets.length:Int) then
   bif ((((sets.getD ((x15).toNat) []).length:Nat):Int) != (g_.length:Int)) then
    some 1
   else
    if R64 (x15+1) then
     self (.l1 (x15+1))
    else none
  else none
 else
  some 0
def zQL (n:Nat) (self:zKA→Option Int) (g_:List (List Int)) (sets:List (List Bool)):Option Int:=
 (zQS n g_).bind fun y1=>
  bif (y1 != 0) then
   some y1
  else
   self (.l1 0)
def zGc (g_:List (List Int)) (sets:List (List Bool)):Nat→zKA→Option Int
 | 0,_=>none
 | n+1,.l1 x15=>zF2 n (zGc g_ sets n) g_ sets x15
def zJh (n:Nat) (g_:List (List Int)) (sets:List (List Bool)):Option Int:=zQL n (zGc g_ sets n) g_ sets
def zYK (n B:Nat) (N:Yd 0) (g_:List (List Int)) (sets:List (List Bool)) (r:Int):zKA→Prop
 | .l1 x15=>∀ m0:Nat,n≤m0→TW B N (FQ Tryz.f111 0 (.i r) []) (toN m0 (zA9 (zAK Tryz.f111) 0 [])) ⟨frm 25 [(0,.sl 1 g_.length (zAz zAS g_)),(13,.sl 1 sets.length (zAz zTa sets)),(14,.i (sets.length:Int)),(15,.i x15)],[]⟩
theorem zVL (B:Nat) (N:Yd 0) (g_:List (List Int)) (sets:List (List Bool)):Al (zGc g_ sets) (zYK · B N g_ sets):=ia (fun _=>rfl) fun n hself pt r h=>by
 cases pt
 case l1 x15=>
  intro m0 hm0
  refine rd hm0 fun m0 hm0=>?_
  revert r
  apply gO
  exact bi 16 (gi (bi 23 (lE zAH [4] []) (gw 24 (lG zAH [] (hself _ _ · m0 hm0))))) (lE zAH [4] [])
theorem zQK {n:Nat} {g_:List (List Int)} {sets:List (List Bool)} {r:Int} (h:zJh n g_ sets=some r):EQ 111 [.sl 1 g_.length (zAz zAS g_),.sl 1 sets.length (zAz zTa sets)] [] (.i r) [] true:=by
 refine ot Tryz.func111 fun B N=>?_
 revert r
 apply gO
 exact cf zQP [] fun _=>bi 11 (lE zAH [4] []) (lN zAH [] ((zVL B N g_ sets n) _ _ · n Nat.le.refl))
end Go.Proofs.YtekkngkphejfcaaGreatDoor
namespace Go.Proofs.YtekkngkphejfcaaGreatDoor
open Go.RowKit
set_option maxRecDepth 100000
set_option maxHeartbeats 40000000
theorem zWS:SOk (zBa Tryz.f82 0) [] (List.range 18) [18]:=by unfold SOk;kernel_rfl
def zV6:Sch:=fun i=>match i with
 | 0=>.ord [] (List.range 18) [18]
 | _=>.no
def zOB (n:Nat) (cell ss:Int) (c:zAC) (q:zAB) (pos:List Int) (ln:Nat) (lost:List Int):Option ((List Int)):=
 if (0≤cell∧cell<(ln:Int))∧0+((cell).toNat)<lost.length∧(0≤cell∧cell<(pos.length:Int)) then
  some (lost.set (0+((cell).toNat)) (bits .or .i64 (lost.getD (0+((cell).toNat)) 0) (bits .and .i64 (pos.getD ((cell).toNat) 0) ss)))
 else none
def zC8 (n:Nat) (cell ss:Int) (c:zAC) (q:zAB) (pos:List Int) (ln:Nat) (lost:List Int):Option ((List Int)):=zOB n cell ss c q pos ln lost
theorem zBS {n:Nat} {cell ss:Int} {c:zAC} {q:zAB} {pos:List Int} {ln:Nat} {lost:List Int} {r:(List Int)} (h:zC8 n cell ss c q pos ln lost=some r):EQ 82 [.ref 0 0,.i cell,.i ss] [some (.cells (zAF c++zAE q++[.ints pos,.msl 1 1 0 ln])),some (.ints lost)] (.tup 0 (fun j=>([]:List DV).getD j .any)) [some (.cells (zAF c++zAE q++[.ints pos,.msl 1 1 0 ln])),some (.ints r)] false:=by
 refine ot Tryz.func82 fun B N=>?_
 revert r
 apply gO
 exact jg zWS (gc (gn fun g0=>jg g0 (gc (gn fun g1=>jg g1 (gi (jg g0 (jg g1 (lE zV6 [] [0,1]))))))))
theorem zWP:SOk (zBa Tryz.f83 0) [] (List.range 22) [22]:=by unfold SOk;kernel_rfl
def zV5:Sch:=fun i=>match i with
 | 0=>.ord [] (List.range 22) [22]
 | _=>.no
def zN6 (n:Nat) (cell:Int) (c:zAC) (q:zAB) (pos:List Int) (ln:Nat) (lost:List Int):Option ((List Int)):=
 if (0≤cell∧cell<(ln:Int))∧0+((cell).toNat)<lost.length∧(0≤cell∧cell<(pos.length:Int)) then
  some (lost.set (0+((cell).toNat)) (bits .or .i64 (lost.getD (0+((cell).toNat)) 0) (bits .andNot .i64 (pos.getD ((cell).toNat) 0) c.set)))
 else none
def zHD (n:Nat) (cell:Int) (c:zAC) (q:zAB) (pos:List Int) (ln:Nat) (lost:List Int):Option ((List Int)):=zN6 n cell c q pos ln lost
theorem zDx {n:Nat} {cell:Int} {c:zAC} {q:zAB} {pos:List Int} {ln:Nat} {lost:List Int} {r:(List Int)} (h:zHD n cell c q pos ln lost=some r):EQ 83 [.ref 0 0,.i cell] [some (.cells (zAF c++zAE q++[.ints pos,.msl 1 1 0 ln])),some (.ints lost)] (.tup 0 (fun j=>([]:List DV).getD j .any)) [some (.cells (zAF c++zAE q++[.ints pos,.msl 1 1 0 ln])),some (.ints r)] false:=by
 refine ot Tryz.func83 fun B N=>?_
 revert r
 apply gO
 exact jg zWP (gc (gn fun g0=>jg g0 (gc (gn fun g1=>jg g1 (gi (jg g0 (jg g1 (lE zV5 [] [0,1]))))))))
inductive zLr where
 | l1 (x3 x4 x17:Int)
 | l2 (x3 x4 x48:Int) (o1:List Int)
def zIJ (n:Nat) (self:zLr→Option (Bool×(List Int))) (c:zAC) (q:zAB) (pos:List Int) (ln:Nat) (lost:List Int) (x3 x4 x17:Int):Option (Bool×(List Int)):=
 bif (decide (x17<(c.cells.length:Int))) then
  if (0≤x17∧x17<(c.cells.length:Int))∧(0≤(c.cells.getD ((x17).toNat) 0)∧(c.cells.getD ((x17).toNat) 0)<(pos.length:Int))∧R64 ((pos.getD ((c.cells.getD ((x17).toNat) 0).toNat) 0)-1) then
   bif ((bits .and .i64 (pos.getD ((c.cells.getD ((x17).toNat) 0).toNat) 0) ((pos.getD ((c.cells.getD ((x17).toNat) 0).toNat) 0)-1))==0) then
    if R64 (x17+1) then
     self (.l1 (bits .or .i64 x3 (pos.getD ((c.cells.getD ((x17).toNat) 0).toNat) 0)) (bits .or .i64 x4 (bits .and .i64 x3 (pos.getD ((c.cells.getD ((x17).toNat) 0).toNat) 0))) (x17+1))
    else none
   else
    if R64 (x17+1) then
     self (.l1 x3 x4 (x17+1))
    else none
  else none
 else
  self (.l2 x3 x4 0 lost)
def zII (n:Nat) (self:zLr→Option (Bool×(List Int))) (c:zAC) (q:zAB) (pos:List Int) (ln:Nat) (lost:List Int) (x3 x4 x48:Int) (o1:List Int):Option (Bool×(List Int)):=
 bif (decide (x48<(c.cells.length:Int))) then
  if (0≤x48∧x48<(c.cells.length:Int))∧(0≤(c.cells.getD ((x48).toNat) 0)∧(c.cells.getD ((x48).toNat) 0)<(pos.length:Int))∧R64 ((pos.getD ((c.cells.getD ((x48).toNat) 0).toNat) 0)-1) then
   bif ((bits .and .i64 (pos.getD ((c.cells.getD ((x48).toNat) 0).toNat) 0) ((pos.getD ((c.cells.getD ((x48).toNat) 0).toNat) 0)-1))==0) then
    (zC8 n (c.cells.getD ((x48).toNat) 0) (bits .or .i64 (bits .andNot .i64 x3 (pos.getD ((c.cells.getD ((x48).toNat) 0).toNat) 0)) x4) c q pos ln o1).bind fun y1=>
     if R64 (x48+1) then
      self (.l2 x3 x4 (x48+1) y1)
     else none
   else
    (zC8 n (c.cells.getD ((x48).toNat) 0) x3 c q pos ln o1).bind fun y1=>
     if R64 (x48+1) then
      self (.l2 x3 x4 (x48+1) y1)
     else none
  else none
 else
  some (true,o1)
def zTT (n:Nat) (self:zLr→Option (Bool×(List Int))) (c:zAC) (q:zAB) (pos:List Int) (ln:Nat) (lost:List Int):Option (Bool×(List Int)):=
 self (.l1 0 0 0)
def zD8 (c:zAC) (q:zAB) (pos:List Int) (ln:Nat) (lost:List Int):Nat→zLr→Option (Bool×(List Int))
 | 0,_=>none
 | n+1,.l1 x3 x4 x17=>zIJ n (zD8 c q pos ln lost n) c q pos ln lost x3 x4 x17
 | n+1,.l2 x3 x4 x48 o1=>zII n (zD8 c q pos ln lost n) c q pos ln lost x3 x4 x48 o1
def zVS (n:Nat) (c:zAC) (q:zAB) (pos:List Int) (ln:Nat) (lost:List Int):Option (Bool×(List Int)):=zTT n (zD8 c q pos ln lost n) c q pos ln lost
def zas (n B:Nat) (N:Yd 2) (c:zAC) (q:zAB) (pos:List Int) (ln:Nat) (lost:List Int) (r:Bool×(List Int)):zLr→Prop
 | .l1 x3 x4 x17=>∀ m0:Nat,n≤m0→TW B N (FQ Tryz.f57 2 (.bool r.1) [some (.cells (zAF c++zAE q++[.ints pos,.msl 1 1 0 ln])),some (.ints r.2)]) (toN m0 (zA9 (zAK Tryz.f57) 0 [])) ⟨frm 77 [(0,.ref 0 0),(3,.i x3),(4,.i x4),(15,.ints c.cells),(16,.i (c.cells.length:Int)),(17,.i x17)],[some (.cells (zAF c++zAE q++[.ints pos,.msl 1 1 0 ln])),some (.ints lost)]⟩
 | .l2 x3 x4 x48 o1=>∀ m0:Nat,n≤m0→TW B N (FQ Tryz.f57 2 (.bool r.1) [some (.cells (zAF c++zAE q++[.ints pos,.msl 1 1 0 ln])),some (.ints r.2)]) (toN m0 (zA9 (zAK Tryz.f57) 2 [])) ⟨frm 77 [(0,.ref 0 0),(3,.i x3),(4,.i x4),(46,.ints c.cells),(47,.i (c.cells.length:Int)),(48,.i x48)],[some (.cells (zAF c++zAE q++[.ints pos,.msl 1 1 0 ln])),some (.ints o1)]⟩
theorem zYf (B:Nat) (N:Yd 2) (c:zAC) (q:zAB) (pos:List Int) (ln:Nat) (lost:List Int):Al (zD8 c q pos ln lost) (zas · B N c q pos ln lost):=ia (fun _=>rfl) fun n hself pt r h=>by
 cases pt
 case l1 x3 x4 x17=>
  intro m0 hm0
  refine rd hm0 fun m0 hm0=>?_
  revert r
  apply gO
  exact bi 18 (gc (gi (gc (gi (gw 30 (bi 32 (gw 41 (lG zAH [0,1] (hself _ _ · m0 hm0))) (gw 41 (lG zAH [0,1] (hself _ _ · m0 hm0))))))))) (lN zAH [0,1] (hself _ _ · n Nat.le.refl))
 case l2 x3 x4 x48 o1=>
  intro m0 hm0
  refine rd hm0 fun m0 hm0=>?_
  revert r
  apply gO
  exact bi 49 (gc (gi (gc (gi (gw 61 (bi 63 (ce zBS [0,1] [some (.cells (zAF c++zAE q++[.ints pos,.msl 1 1 0 ln])),some (.ints o1)] fun _=>gw 76 (lG zAH [0,1] (hself _ _ · m0 hm0))) (ce zBS [0,1] [some (.cells (zAF c++zAE q++[.ints pos,.msl 1 1 0 ln])),some (.ints o1)] fun _=>gw 76 (lG zAH [0,1] (hself _ _ · m0 hm0))))))))) (lE zAH [2] [0,1])
theorem zar {n:Nat} {c:zAC} {q:zAB} {pos:List Int} {ln:Nat} {lost:List Int} {r:Bool×(List Int)} (h:zVS n c q pos ln lost=some r):EQ 57 [.ref 0 0] [some (.cells (zAF c++zAE q++[.ints pos,.msl 1 1 0 ln])),some (.ints lost)] (.bool r.1) [some (.cells (zAF c++zAE q++[.ints pos,.msl 1 1 0 ln])),some (.ints r.2)] false:=by
 refine ot Tryz.func57 fun B N=>?_
 revert r
 apply gO
 exact lN zAH [0,1] ((zYf B N c q pos ln lost n) _ _ · n Nat.le.refl)
theorem zUA:SOk (zBa Tryz.f58 5) [] (List.range 15) []:=by unfold SOk;kernel_rfl
theorem zT9:SOk (zBa Tryz.f58 8) [] (List.range 15) []:=by unfold SOk;kernel_rfl
theorem zRI:SOk (zBa Tryz.f58 16) [] (List.range 23) []:=by unfold SOk;kernel_rfl
theorem zGz:SOk (zBa Tryz.f58 18) [] (List.range 23) []:=by unfold SOk;kernel_rfl
def zAh:Sch:=fun i=>match i with
 | 5=>.ord [] (List.range 15) []
 | 8=>.ord [] (List.range 15) []
 | 16=>.ord [] (List.range 23) []
 | 18=>.ord [] (List.range 23) []
 | _=>.no
inductive zIL where
 | l1 (x3 x4 x15:Int)
 | l2 (x3 x4 x78:Int) (o1:List Int)
def zGB (n:Nat) (self:zIL→Option (Bool×(List Int))) (c:zAC) (q:zAB) (pos:List Int) (ln:Nat) (lost:List Int) (x3 x4 x15:Int):Option (Bool×(List Int)):=
 bif (decide (x15<(c.cells.length:Int))) then
  if (0≤x15∧x15<(c.cells.length:Int))∧(0≤(c.cells.getD ((x15).toNat) 0)∧(c.cells.getD ((x15).toNat) 0)<(pos.length:Int)) then
   bif ((bits .andNot .i64 (pos.getD ((c.cells.getD ((x15).toNat) 0).toNat) 0) c.set)==0) then
    if R64 (x3+1)∧R64 (x4+1)∧R64 (x15+1) then
     self (.l1 (x3+1) (x4+1) (x15+1))
    else none
   else
    bif ((bits .and .i64 (pos.getD ((c.cells.getD ((x15).toNat) 0).toNat) 0) c.set) != 0) then
     if R64 (x4+1)∧R64 (x15+1) then
      self (.l1 x3 (x4+1) (x15+1))
     else none
    else
     if R64 (x15+1) then
      self (.l1 x3 x4 (x15+1))
     else none
  else none
 else
  bif (decide (x3>c.hi)) then
   some (false,lost)
  else
   bif (decide (x4<c.lo)) then
    some (false,lost)
   else
    self (.l2 x3 x4 0 lost)
def zGA (n:Nat) (self:zIL→Option (Bool×(List Int))) (c:zAC) (q:zAB) (pos:List Int) (ln:Nat) (lost:List Int) (x3 x4 x78:Int) (o1:List Int):Option (Bool×(List Int)):=
 bif (decide (x78<(c.cells.length:Int))) then
  if 0≤x78∧x78<(c.cells.length:Int) then
   bif (x3==c.hi) then
    if 0≤(c.cells.getD ((x78).toNat) 0)∧(c.cells.getD ((x78).toNat) 0)<(pos.length:Int) then
     bif ((bits .andNot .i64 (pos.getD ((c.cells.getD ((x78).toNat) 0).toNat) 0) c.set) != 0) then
      (zC8 n (c.cells.getD ((x78).toNat) 0) c.set c q pos ln o1).bind fun y1=>
       bif (x4==c.lo) then
        bif ((bits .and .i64 (pos.getD ((c.cells.getD ((x78).toNat) 0).toNat) 0) c.set) != 0) then
         (zHD n (c.cells.getD ((x78).toNat) 0) c q pos ln y1).bind fun y2=>
          if R64 (x78+1) then
           self (.l2 x3 x4 (x78+1) y2)
          else none
        else
         if R64 (x78+1) then
          self (.l2 x3 x4 (x78+1) y1)
         else none
       else
        if R64 (x78+1) then
         self (.l2 x3 x4 (x78+1) y1)
        else none
     else
      bif (x4==c.lo) then
       bif ((bits .and .i64 (pos.getD ((c.cells.getD ((x78).toNat) 0).toNat) 0) c.set) != 0) then
        (zHD n (c.cells.getD ((x78).toNat) 0) c q pos ln o1).bind fun y1=>
         if R64 (x78+1) then
          self (.l2 x3 x4 (x78+1) y1)
         else none
       else
        if R64 (x78+1) then
         self (.l2 x3 x4 (x78+1) o1)
        else none
      else
       if R64 (x78+1) then
        self (.l2 x3 x4 (x78+1) o1)
       else none
    else none
   else
    bif (x4==c.lo) then
     if 0≤(c.cells.getD ((x78).toNat) 0)∧(c.cells.getD ((x78).toNat) 0)<(pos.length:Int) then
      bif ((bits .and .i64 (pos.getD ((c.cells.getD ((x78).toNat) 0).toNat) 0) c.set) != 0) then
       (zHD n (c.cells.getD ((x78).toNat) 0) c q pos ln o1).bind fun y1=>
        if R64 (x78+1) then
         self (.l2 x3 x4 (x78+1) y1)
        else none
      else
       if R64 (x78+1) then
        self (.l2 x3 x4 (x78+1) o1)
       else none
     else none
    else
     if R64 (x78+1) then
      self (.l2 x3 x4 (x78+1) o1)
     else none
  else none
 else
  some (true,o1)
def zYj (n:Nat) (self:zIL→Option (Bool×(List Int))) (c:zAC) (q:zAB) (pos:List Int) (ln:Nat) (lost:List Int):Option (Bool×(List Int)):=
 self (.l1 0 0 0)
def zCb (c:zAC) (q:zAB) (pos:List Int) (ln:Nat) (lost:List Int):Nat→zIL→Option (Bool×(List Int))
 | 0,_=>none
 | n+1,.l1 x3 x4 x15=>zGB n (zCb c q pos ln lost n) c q pos ln lost x3 x4 x15
 | n+1,.l2 x3 x4 x78 o1=>zGA n (zCb c q pos ln lost n) c q pos ln lost x3 x4 x78 o1
def zM9 (n:Nat) (c:zAC) (q:zAB) (pos:List Int) (ln:Nat) (lost:List Int):Option (Bool×(List Int)):=zYj n (zCb c q pos ln lost n) c q pos ln lost
def zYk (n B:Nat) (N:Yd 2) (c:zAC) (q:zAB) (pos:List Int) (ln:Nat) (lost:List Int) (r:Bool×(List Int)):zIL→Prop
 | .l1 x3 x4 x15=>∀ m0:Nat,n≤m0→TW B N (FQ Tryz.f58 2 (.bool r.1) [some (.cells (zAF c++zAE q++[.ints pos,.msl 1 1 0 ln])),some (.ints r.2)]) (toN m0 (zA9 (zAK Tryz.f58) 0 [])) ⟨frm 140 [(0,.ref 0 0),(3,.i x3),(4,.i x4),(13,.ints c.cells),(14,.i (c.cells.length:Int)),(15,.i x15)],[some (.cells (zAF c++zAE q++[.ints pos,.msl 1 1 0 ln])),some (.ints lost)]⟩
 | .l2 x3 x4 x78 o1=>∀ m0:Nat,n≤m0→TW B N (FQ Tryz.f58 2 (.bool r.1) [some (.cells (zAF c++zAE q++[.ints pos,.msl 1 1 0 ln])),some (.ints r.2)]) (toN m0 (zA9 (zAK Tryz.f58) 3 [])) ⟨frm 140 [(0,.ref 0 0),(3,.i x3),(4,.i x4),(76,.ints c.cells),(77,.i (c.cells.length:Int)),(78,.i x78)],[some (.cells (zAF c++zAE q++[.ints pos,.msl 1 1 0 ln])),some (.ints o1)]⟩
theorem zVW (B:Nat) (N:Yd 2) (c:zAC) (q:zAB) (pos:List Int) (ln:Nat) (lost:List Int):Al (zCb c q pos ln lost) (zYk · B N c q pos ln lost):=ia (fun _=>rfl) fun n hself pt r h=>by
 cases pt
 case l1 x3 x4 x15=>
  intro m0 hm0
  refine rd hm0 fun m0 hm0=>?_
  revert r
  apply gO
  exact bi 16 (gc (gi (jg zUA (gn fun g1=>jg g1 (bi 33 (gc (gw 35 (gc (gw 37 (gw 55 (lG zAh [0,1] (hself _ _ · m0 hm0))))))) (jg zT9 (jg g1 (bi 52 (gc (gw 54 (gw 55 (lG zAh [0,1] (hself _ _ · m0 hm0))))) (gw 55 (lG zAh [0,1] (hself _ _ · m0 hm0))))))))))) (bi 62 (lE zAh [2] [0,1]) (bi 70 (lE zAh [2] [0,1]) (lN zAh [0,1] (hself _ _ · n Nat.le.refl))))
 case l2 x3 x4 x78 o1=>
  intro m0 hm0
  refine rd hm0 fun m0 hm0=>?_
  revert r
  apply gO
  exact bi 79 (gi (jg zRI (bi 88 (gn fun g1=>jg g1 (bi 103 (ce zBS [0,1] [some (.cells (zAF c++zAE q++[.ints pos,.msl 1 1 0 ln])),some (.ints o1)] fun y1=>jg zGz (bi 119 (jg g1 (bi 134 (ce zDx [0,1] [some (.cells (zAF c++zAE q++[.ints pos,.msl 1 1 0 ln])),some (.ints y1)] fun _=>gw 139 (lG zAh [0,1] (hself _ _ · m0 hm0))) (gw 139 (lG zAh [0,1] (hself _ _ · m0 hm0))))) (gw 139 (lG zAh [0,1] (hself _ _ · m0 hm0))))) (jg zGz (bi 119 (jg g1 (bi 134 (ce zDx [0,1] [some (.cells (zAF c++zAE q++[.ints pos,.msl 1 1 0 ln])),some (.ints o1)] fun _=>gw 139 (lG zAh [0,1] (hself _ _ · m0 hm0))) (gw 139 (lG zAh [0,1] (hself _ _ · m0 hm0))))) (gw 139 (lG zAh [0,1] (hself _ _ · m0 hm0))))))) (jg zGz (bi 119 (gi (bi 134 (ce zDx [0,1] [some (.cells (zAF c++zAE q++[.ints pos,.msl 1 1 0 ln])),some (.ints o1)] fun _=>gw 139 (lG zAh [0,1] (hself _ _ · m0 hm0))) (gw 139 (lG zAh [0,1] (hself _ _ · m0 hm0))))) (gw 139 (lG zAh [0,1] (hself _ _ · m0 hm0)))))))) (lE zAh [2] [0,1])
theorem zYi {n:Nat} {c:zAC} {q:zAB} {pos:List Int} {ln:Nat} {lost:List Int} {r:Bool×(List Int)} (h:zM9 n c q pos ln lost=some r):EQ 58 [.ref 0 0] [some (.cells (zAF c++zAE q++[.ints pos,.msl 1 1 0 ln])),some (.ints lost)] (.bool r.1) [some (.cells (zAF c++zAE q++[.ints pos,.msl 1 1 0 ln])),some (.ints r.2)] false:=by
 refine ot Tryz.func58 fun B N=>?_
 revert r
 apply gO
 exact lN zAh [0,1] ((zVW B N c q pos ln lost n) _ _ · n Nat.le.refl)
end Go.Proofs.YtekkngkphejfcaaGreatDoor
namespace Go.Proofs.YtekkngkphejfcaaGreatDoor
open Go.RowKit
set_option maxRecDepth 100000
set_option maxHeartbeats 40000000
def zQ7 (n:Nat) (set_:Int):Option Unit:=
 some ()
def zZA (n:Nat) (set_:Int):Option Unit:=zQ7 n set_
theorem zQ6 {n:Nat} (set_:Int) {r:Unit} (h:zZA n set_=some r):EQ 39 [.i set_] [] (.fn 69 1 (L1 [.ref 0 0])) [some (.cells [.i set_])] true:=by
 refine ot Tryz.func39 fun B N=>?_
 revert r
 apply gO
 exact lE zAH [2] [0]
theorem zBU {x:Int} (hx:0≤x∧x<9223372036854775808) (h:DH):EQ 39 [.i x] h (.it h.length) (h++[some (.iter ((zAj x).map zD1))]) true:=by
 refine ES.iterOf (zQ6 (n:=0) x (r:=()) rfl) rfl (by kernel_rfl) (fun args W=>?_) (fun w b o u hg hng hb hc hr=>zQ5 hx w b o u hg hng hb hc hr) rfl (fun b hb=>?_) h
 ·exact zYX Tryz.func69 (by kernel_rfl) (by kernel_rfl) args W
 ·rw [hb];decide
def zOm:ST:=.rd 0 (.rd 1 (.rd 2 (.rd 3 (.rd 4 (.rd 5 (.rd 6 (.rd 7 (.rd 8 (.rd 9 (.rd 10 (.rd 11 (.rd 12 (.rd 13 (.rd 14 (.rd 15 (.rd 16 (.rd 17 (.rd 18 (.rd 19 (.ef 20 (.ef 21 (.fin [] [4,5]) (.no)) (.no)))))))))))))))))))))
theorem zWW:TOk (zBa Tryz.f84 4) [20] zOm:=by unfold TOk;kernel_rfl
def zOl:ST:=.rd 0 (.rd 1 (.ef 2 (.ef 3 (.fin [] [4,5]) (.no)) (.no)))
theorem zWV:TOk (zBa Tryz.f84 5) [2] zOl:=by unfold TOk;kernel_rfl
def zHU:Sch:=fun i=>match i with
 | 4=>.tre [20] zOm
 | 5=>.tre [2] zOl
 | _=>.no
def zVJ (c:zAC) (q:zAB) (pos:List Int) (ln:Nat) (lost:List Int):DH:=[some (.cells (zAF c++zAE q++[.ints pos,.msl 1 1 0 ln])),some (.ints lost),some (.cells [.ref 0 0]),some (.cells [.i 100]),some (.cells [.i (-1)])]
def zVI (c:zAC) (q:zAB) (pos:List Int) (ln:Nat) (lost:List Int) (ss:Int):DH:=[some (.cells (zAF c++zAE q++[.ints pos,.msl 1 1 0 ln])),some (.ints lost),some (.cells [.ref 0 0]),some (.cells [.i 100]),some (.cells [.i (-1)]),some (.iter ((zAj ss).map zD1))]
def zKQ (c:zAC) (q:zAB) (pos:List Int) (ln:Nat) (lost:List Int) (y1_0_0 y1_0_1:Int):St:=⟨(frm 32 [(4,.ref 3 0),(5,.ref 4 0)]),([some (.cells (zAF c++zAE q++[.ints pos,.msl 1 1 0 ln])),some (.ints lost),some (.cells [.ref 0 0]),some (.cells [.i y1_0_0]),some (.cells [.i y1_0_1]),none]:DH)⟩
def zVH (c:zAC) (q:zAB) (pos:List Int) (ln:Nat) (lost:List Int) (r8s0_3_0 r8s0_4_0:Int):DH:=[some (.cells (zAF c++zAE q++[.ints pos,.msl 1 1 0 ln])),some (.ints lost),some (.cells [.ref 0 0]),some (.cells [.i r8s0_3_0]),some (.cells [.i r8s0_4_0]),none]
def zKP (c:zAC) (q:zAB) (pos:List Int) (ln:Nat) (lost:List Int) (e8 r8s0_3_0 r8s0_4_0:Int):St:=⟨(frm 32 [(4,.ref 3 0),(5,.ref 4 0)]),([some (.cells (zAF c++zAE q++[.ints pos,.msl 1 1 0 ln])),some (.ints lost),some (.cells [.ref 0 0]),some (.cells [.i (if (q.values.getD ((e8).toNat) 0)<r8s0_3_0 then (q.values.getD ((e8).toNat) 0) else r8s0_3_0)]),some (.cells [.i (if (q.values.getD ((e8).toNat) 0)>r8s0_4_0 then (q.values.getD ((e8).toNat) 0) else r8s0_4_0)]),none]:DH)⟩
inductive zDA where
 | s0 (r8s0_3_0 r8s0_4_0:Int)
def zM7 (c:zAC) (q:zAB) (pos:List Int) (ln:Nat) (lost:List Int):zDA→DH
 | .s0 r8s0_3_0 r8s0_4_0=>[some (.cells (zAF c++zAE q++[.ints pos,.msl 1 1 0 ln])),some (.ints lost),some (.cells [.ref 0 0]),some (.cells [.i r8s0_3_0]),some (.cells [.i r8s0_4_0]),none]
def zLq (n:Nat) (c:zAC) (q:zAB) (pos:List Int) (ln:Nat) (lost:List Int) (e8:Int) (r8s0_3_0 r8s0_4_0:Int):Option zDA:=
 if 0≤e8∧e8<(q.values.length:Int) then
  some (.s0 (if (q.values.getD ((e8).toNat) 0)<r8s0_3_0 then (q.values.getD ((e8).toNat) 0) else r8s0_3_0) (if (q.values.getD ((e8).toNat) 0)>r8s0_4_0 then (q.values.getD ((e8).toNat) 0) else r8s0_4_0))
 else none
def zLp (n:Nat) (c:zAC) (q:zAB) (pos:List Int) (ln:Nat) (lost:List Int) (e8:Int):zDA→Option zDA
 | .s0 r8s0_3_0 r8s0_4_0=>zLq n c q pos ln lost e8 r8s0_3_0 r8s0_4_0
def zIG (n:Nat) (c:zAC) (q:zAB) (pos:List Int) (ln:Nat) (lost:List Int) (e8:Int) (s:zDA):Option zDA:=zLp n c q pos ln lost e8 s
theorem zR2 (n:Nat) (c:zAC) (q:zAB) (pos:List Int) (ln:Nat) (lost:List Int) (l B:Nat) (N:Yd 6) (e8:Int) (s:zDA) (r:zDA) (h:zIG n c q pos ln lost e8 s=some r):TA l B N (zI9 6 [] 0 (zM7 c q pos ln lost r)) Tryz.f84 8 ⟨frm 32 [(2,.ref 2 0),(4,.ref 3 0),(5,.ref 4 0),(8,.it 5),(9,.i e8)],zM7 c q pos ln lost s⟩:=by
 cases s with
 | s0 r8s0_3_0 r8s0_4_0=>
  refine ag zHU [0,1,2,3,4,5] H0 (frm 32 [(2,.ref 2 0),(4,.ref 3 0),(5,.ref 4 0),(6,.i e8)]) (zVH c q pos ln lost r8s0_3_0 r8s0_4_0) fun N=>?_
  revert r
  apply gO
  exact jg zWW (gn fun b8_g0=>jg b8_g0 (jg b8_g0 (jt (jt (jg (Eq.refl (zKP c q pos ln lost e8 r8s0_3_0 r8s0_4_0)) (lF fun p=>rr (tg:=[([(20,3)],(zKP c q pos ln lost e8 r8s0_3_0 r8s0_4_0))]) zHU [0,1,2,3,4,5] rfl p))))))
def zTQ (n:Nat) (ss:Int) (c:zAC) (q:zAB) (pos:List Int) (ln:Nat) (lost:List Int):Option (Int×Int×(List Int)):=
 if 0≤ss∧ss<9223372036854775808 then
  (zBA (zIG n c q pos ln lost) (zAj ss) (.s0 100 (-1))).bind fun y1=>
   match y1 with
   | .s0 y1_0_0 y1_0_1=>
    some (y1_0_0,y1_0_1,lost)
 else none
def zYY (n:Nat) (ss:Int) (c:zAC) (q:zAB) (pos:List Int) (ln:Nat) (lost:List Int):Option (Int×Int×(List Int)):=zTQ n ss c q pos ln lost
theorem zGi {n:Nat} {ss:Int} {c:zAC} {q:zAB} {pos:List Int} {ln:Nat} {lost:List Int} {r:Int×Int×(List Int)} (h:zYY n ss c q pos ln lost=some r):EQ 84 [.ref 0 0,.i ss] [some (.cells (zAF c++zAE q++[.ints pos,.msl 1 1 0 ln])),some (.ints lost)] (.tup 2 (L1 [.i r.1,.i r.2.1])) [some (.cells (zAF c++zAE q++[.ints pos,.msl 1 1 0 ln])),some (.ints r.2.2)] false:=by
 refine ot Tryz.func84 fun B N=>?_
 revert r
 apply gO
 exact jt (jt (gn fun g0=>jc (zBU g0 (zVJ c q pos ln lost)) (cn fun y1 hy1=>fun p r h=>by
  refine gs zHU [0,1,2,3,4,5] p (atT (zAK Tryz.f84) 8 []) (frm 32 [(2,.ref 2 0),(4,.ref 3 0),(5,.ref 4 0),(8,.it 5)]) (zVI c q pos ln lost ss) ?_
  refine r0 5 8 #[9] zD1 6 hy1 (zR2 n c q pos ln lost) ?_
  cases y1 with
  | s0 y1_0_0 y1_0_1=>
   dsimp only at h
   revert r
   apply gO
   exact jg zWV (jt (jt (jg (Eq.refl (zKQ c q pos ln lost y1_0_0 y1_0_1)) (lE (tg:=[([(2,3)],(zKQ c q pos ln lost y1_0_0 y1_0_1))]) zHU [4,5] [0,1,3,4])))))))
def zSQ:ST:=.rd 0 (.rd 1 (.rd 2 (.rd 3 (.rd 4 (.rd 5 (.rd 6 (.rd 7 (.ef 8 (.rd 9 (.rd 10 (.rd 11 (.rd 12 (.rd 13 (.fin [] [1,3,4,7,8,19,20,21,90])))))) (.no)))))))))
theorem zZM:TOk (zBa Tryz.f59 5) [] zSQ:=by unfold TOk;kernel_rfl
def zSP:ST:=.rd 0 (.rd 1 (.rd 2 (.rd 3 (.rd 4 (.rd 5 (.ef 6 (.ef 7 (.fin [] [1,3,4,19,20,21,90]) (.no)) (.no)))))))
theorem zZL:TOk (zBa Tryz.f59 6) [6] zSP:=by unfold TOk;kernel_rfl
theorem zZK:SOk (zBa Tryz.f59 8) [] (List.range 16) []:=by unfold SOk;kernel_rfl
def zOg:ST:=.rd 0 (.rd 1 (.rd 2 (.rd 3 (.rd 4 (.rd 5 (.rd 6 (.rd 7 (.ef 8 (.rd 9 (.rd 10 (.rd 11 (.ef 12 (.ef 13 (.ef 14 (.ef 15 (.fin [0,1] [1,3,4,10,11,12,64,65,66,90]) (.no)) (.no)) (.no)) (.ef 13 (.ef 12 (.ef 14 (.ef 15 (.fin [1,0] [1,3,4,10,11,12,64,65,66,90]) (.no)) (.no)) (.no)) (.no)))))) (.ef 12 (.ef 8 (.rd 9 (.rd 10 (.rd 11 (.ef 13 (.ef 14 (.ef 15 (.fin [0,1] [1,3,4,10,11,12,64,65,66,90]) (.no)) (.no)) (.no))))) (.ef 13 (.ef 8 (.rd 9 (.rd 10 (.rd 11 (.ef 14 (.ef 15 (.fin [0,1] [1,3,4,10,11,12,64,65,66,90]) (.no)) (.no))))) (.no)) (.no))) (.ef 13 (.ef 8 (.rd 9 (.rd 10 (.rd 11 (.ef 12 (.ef 14 (.ef 15 (.fin [1,0] [1,3,4,10,11,12,64,65,66,90]) (.no)) (.no)) (.no))))) (.ef 12 (.ef 8 (.rd 9 (.rd 10 (.rd 11 (.ef 14 (.ef 15 (.fin [1,0] [1,3,4,10,11,12,64,65,66,90]) (.no)) (.no))))) (.no)) (.no))) (.no)))))))))))
theorem zWC:TOk (zBa Tryz.f59 13) [12,13,14] zOg:=by unfold TOk;kernel_rfl
theorem zWB:SOk (zBa Tryz.f59 14) [([0,1,2,3,4,5,6],7)] [] []:=by unfold SOk;kernel_rfl
theorem zWA:SOk (zBa Tryz.f59 17) [] (List.range 24) []:=by unfold SOk;kernel_rfl
def zOf:ST:=.rd 0 (.rd 1 (.rd 2 (.rd 3 (.ef 4 (.fin [] [2]) (.no)))))
theorem zO0:TOk (zBa Tryz.f59 18) [] zOf:=by unfold TOk;kernel_rfl
def zB0:Sch:=fun i=>match i with
 | 5=>.tre [] zSQ
 | 6=>.tre [6] zSP
 | 8=>.ord [] (List.range 16) []
 | 13=>.tre [12,13,14] zOg
 | 14=>.ord [([0,1,2,3,4,5,6],7)] [] []
 | 17=>.ord [] (List.range 24) []
 | 18=>.tre [] zOf
 | _=>.no
def zYA (c:zAC) (q:zAB) (pos:List Int) (ln:Nat) (o1:List Int) (o3_0 o4_0:Int):DH:=[some (.cells (zAF c++zAE q++[.ints pos,.msl 1 1 0 ln])),some (.ints o1),some (.cells [.ref 0 0]),some (.cells [.i o3_0]),some (.cells [.i o4_0])]
def zMO (y1:Int×Int×(List Int)) (c:zAC) (x21:Int) (q:zAB) (pos:List Int) (ln:Nat) (o3_0 o4_0:Int):St:=⟨(frm 129 [(1,.ref 2 0),(3,.ref 3 0),(4,.ref 4 0),(7,.i y1.1),(8,.i y1.2.1),(19,.ints c.cells),(20,.i (c.cells.length:Int)),(21,.i x21)]),([some (.cells (zAF c++zAE q++[.ints pos,.msl 1 1 0 ln])),some (.ints y1.2.2),some (.cells [.ref 0 0]),some (.cells [.i o3_0]),some (.cells [.i o4_0])]:DH)⟩
def zMN (c:zAC) (x21:Int) (q:zAB) (pos:List Int) (ln:Nat) (y1:Int×Int×(List Int)) (o3_0 o4_0:Int):St:=⟨(frm 129 [(1,.ref 2 0),(3,.ref 3 0),(4,.ref 4 0),(19,.ints c.cells),(20,.i (c.cells.length:Int)),(21,.i x21)]),([some (.cells (zAF c++zAE q++[.ints pos,.msl 1 1 0 ln])),some (.ints y1.2.2),some (.cells [.ref 0 0]),some (.cells [.i (o3_0+y1.1)]),some (.cells [.i (o4_0+y1.2.1)])]:DH)⟩
def zX9 (c:zAC) (q:zAB) (pos:List Int) (ln:Nat) (o1:List Int) (o3_0 o4_0 x66:Int):DH:=[some (.cells (zAF c++zAE q++[.ints pos,.msl 1 1 0 ln])),some (.ints o1),some (.cells [.ref 0 0]),some (.cells [.i o3_0]),some (.cells [.i o4_0]),some (.cells [.i (c.cells.getD ((x66).toNat) 0)])]
def zCj (c:zAC) (x66:Int) (q:zAB) (pos:List Int) (ln:Nat) (y1:Int×Int×(List Int)) (o3_0 o4_0:Int):St:=⟨(frm 129 [(1,.ref 2 0),(3,.ref 3 0),(4,.ref 4 0),(10,.ref 5 0),(11,.ref 6 0),(12,.ref 7 0),(64,.ints c.cells),(65,.i (c.cells.length:Int)),(66,.i x66)]),([some (.cells (zAF c++zAE q++[.ints pos,.msl 1 1 0 ln])),some (.ints y1.2.2),some (.cells [.ref 0 0]),some (.cells [.i o3_0]),some (.cells [.i o4_0]),some (.cells [.i (c.cells.getD ((x66).toNat) 0)]),some (.cells [.i y1.1]),some (.cells [.i y1.2.1])]:DH)⟩
def zQD (c:zAC) (q:zAB) (pos:List Int) (ln:Nat) (o1:List Int) (o3_0 o4_0 x66:Int):DH:=[some (.cells (zAF c++zAE q++[.ints pos,.msl 1 1 0 ln])),some (.ints o1),some (.cells [.ref 0 0]),some (.cells [.i o3_0]),some (.cells [.i o4_0]),some (.cells [.i (c.cells.getD ((x66).toNat) 0)]),some (.cells [.i 0])]
def zQC (c:zAC) (q:zAB) (pos:List Int) (ln:Nat) (o1:List Int) (o3_0 o4_0 x66:Int):DH:=[some (.cells (zAF c++zAE q++[.ints pos,.msl 1 1 0 ln])),some (.ints o1),some (.cells [.ref 0 0]),some (.cells [.i o3_0]),some (.cells [.i o4_0]),some (.cells [.i (c.cells.getD ((x66).toNat) 0)]),some (.cells [.i 0]),some (.cells [.i 0])]
def zX8 (c:zAC) (q:zAB) (pos:List Int) (ln:Nat) (y1:Int×Int×(List Int)) (o3_0 o4_0 x66:Int):DH:=[some (.cells (zAF c++zAE q++[.ints pos,.msl 1 1 0 ln])),some (.ints y1.2.2),some (.cells [.ref 0 0]),some (.cells [.i o3_0]),some (.cells [.i o4_0]),some (.cells [.i (c.cells.getD ((x66).toNat) 0)]),some (.cells [.i y1.1]),some (.cells [.i y1.2.1])]
def zX7 (c:zAC) (q:zAB) (pos:List Int) (ln:Nat) (y1:Int×Int×(List Int)) (o3_0 o4_0 x66:Int):DH:=[some (.cells (zAF c++zAE q++[.ints pos,.msl 1 1 0 ln])),some (.ints y1.2.2),some (.cells [.ref 0 0]),some (.cells [.i o3_0]),some (.cells [.i o4_0]),some (.cells [.i (c.cells.getD ((x66).toNat) 0)]),some (.cells [.i y1.1]),some (.cells [.i y1.2.1]),some (.iter ((zAj (pos.getD ((c.cells.getD ((x66).toNat) 0).toNat) 0)).map zD1))]
def zLg (c:zAC) (q:zAB) (pos:List Int) (ln:Nat) (r89s0_1:List Int) (o3_0 o4_0 x66:Int) (y1:Int×Int×(List Int)):DH:=[some (.cells (zAF c++zAE q++[.ints pos,.msl 1 1 0 ln])),some (.ints r89s0_1),some (.cells [.ref 0 0]),some (.cells [.i o3_0]),some (.cells [.i o4_0]),some (.cells [.i (c.cells.getD ((x66).toNat) 0)]),some (.cells [.i y1.1]),some (.cells [.i y1.2.1]),none]
def zEi (c:zAC) (q:zAB) (pos:List Int) (ln:Nat) (b89_y1:(List Int)) (o3_0 o4_0 x66:Int) (y1:Int×Int×(List Int)):St:=⟨(frm 129 []),([some (.cells (zAF c++zAE q++[.ints pos,.msl 1 1 0 ln])),some (.ints b89_y1),some (.cells [.ref 0 0]),some (.cells [.i o3_0]),some (.cells [.i o4_0]),some (.cells [.i (c.cells.getD ((x66).toNat) 0)]),some (.cells [.i y1.1]),some (.cells [.i y1.2.1]),none]:DH)⟩
inductive zCK where
 | s0 (r89s0_1:List Int)
def zMV (c:zAC) (x66:Int) (q:zAB) (pos:List Int) (ln:Nat) (o3_0 o4_0:Int) (y1:Int×Int×(List Int)):zCK→DH
 | .s0 r89s0_1=>[some (.cells (zAF c++zAE q++[.ints pos,.msl 1 1 0 ln])),some (.ints r89s0_1),some (.cells [.ref 0 0]),some (.cells [.i o3_0]),some (.cells [.i o4_0]),some (.cells [.i (c.cells.getD ((x66).toNat) 0)]),some (.cells [.i y1.1]),some (.cells [.i y1.2.1]),none]
def zEj (n:Nat) (c:zAC) (x66:Int) (q:zAB) (pos:List Int) (ln:Nat) (o3_0 o4_0:Int) (y1:Int×Int×(List Int)) (e89:Int) (r89s0_1:List Int):Option zCK:=
 if (0≤e89∧e89<(q.values.length:Int))∧R64 (o3_0-y1.1)∧R64 ((o3_0-y1.1)+(q.values.getD ((e89).toNat) 0)) then
  bif (decide (((o3_0-y1.1)+(q.values.getD ((e89).toNat) 0))>c.hi)) then
   if 0≤e89∧e89≤(IntKind.i64.bits:Int) then
    (zC8 n (c.cells.getD ((x66).toNat) 0) (IntKind.i64.wrap (1*2 ^ (e89).toNat)) c q pos ln r89s0_1).bind fun b89_y1=>
     some (.s0 b89_y1)
   else none
  else
   if R64 (o4_0-y1.2.1)∧R64 ((o4_0-y1.2.1)+(q.values.getD ((e89).toNat) 0)) then
    bif (decide (((o4_0-y1.2.1)+(q.values.getD ((e89).toNat) 0))<c.lo)) then
     if 0≤e89∧e89≤(IntKind.i64.bits:Int) then
      (zC8 n (c.cells.getD ((x66).toNat) 0) (IntKind.i64.wrap (1*2 ^ (e89).toNat)) c q pos ln r89s0_1).bind fun b89_y1=>
       some (.s0 b89_y1)
     else none
    else
     some (.s0 r89s0_1)
   else none
 else none
def zKW (n:Nat) (c:zAC) (x66:Int) (q:zAB) (pos:List Int) (ln:Nat) (o3_0 o4_0:Int) (y1:Int×Int×(List Int)) (e89:Int):zCK→Option zCK
 | .s0 r89s0_1=>zEj n c x66 q pos ln o3_0 o4_0 y1 e89 r89s0_1
def zJt (n:Nat) (c:zAC) (x66:Int) (q:zAB) (pos:List Int) (ln:Nat) (o3_0 o4_0:Int) (y1:Int×Int×(List Int)) (e89:Int) (s:zCK):Option zCK:=zKW n c x66 q pos ln o3_0 o4_0 y1 e89 s
theorem zQ8 (n:Nat) (c:zAC) (x66:Int) (q:zAB) (pos:List Int) (ln:Nat) (o3_0 o4_0:Int) (y1:Int×Int×(List Int)) (l B:Nat) (N:Yd 9) (e89:Int) (s:zCK) (r:zCK) (h:zJt n c x66 q pos ln o3_0 o4_0 y1 e89 s=some r):TA l B N (zI9 9 [] 0 (zMV c x66 q pos ln o3_0 o4_0 y1 r)) Tryz.f59 89 ⟨frm 129 [(1,.ref 2 0),(3,.ref 3 0),(4,.ref 4 0),(10,.ref 5 0),(11,.ref 6 0),(12,.ref 7 0),(64,.ints c.cells),(65,.i (c.cells.length:Int)),(66,.i x66),(89,.it 8),(90,.i e89)],zMV c x66 q pos ln o3_0 o4_0 y1 s⟩:=by
 cases s with
 | s0 r89s0_1=>
  replace h:zEj n c x66 q pos ln o3_0 o4_0 y1 e89 r89s0_1=some r:=h
  unfold zEj at h
  refine ag zB0 [0,1,2,3,4,5,6,7,8] H0 (frm 129 [(1,.ref 2 0),(3,.ref 3 0),(4,.ref 4 0),(10,.ref 5 0),(11,.ref 6 0),(12,.ref 7 0),(13,.i e89)]) (zLg c q pos ln r89s0_1 o3_0 o4_0 x66 y1) fun N=>?_
  revert r
  apply gO
  exact gc (gi (jg zWA (gc (gw 101 (gw 103 (bi 109 (jg zO0 (gi (ce zBS [0,1] (zLg c q pos ln r89s0_1 o3_0 o4_0 x66 y1) fun b89_y1=>jg (Eq.refl (zEi c q pos ln b89_y1 o3_0 o4_0 x66 y1)) (lF fun p=>rr (tg:=[([],(zEi c q pos ln b89_y1 o3_0 o4_0 x66 y1))]) zB0 [0,1,2,3,4,5,6,7,8] rfl p)))) (gc (gw 113 (gw 115 (bi 121 (jg zO0 (gi (ce zBS [0,1] (zLg c q pos ln r89s0_1 o3_0 o4_0 x66 y1) fun b89_y1=>jg (Eq.refl (zEi c q pos ln b89_y1 o3_0 o4_0 x66 y1)) (lF fun p=>rr (tg:=[([],(zEi c q pos ln b89_y1 o3_0 o4_0 x66 y1))]) zB0 [0,1,2,3,4,5,6,7,8] rfl p)))) (lF fun p=>rr zB0 [0,1,2,3,4,5,6,7,8] rfl p)))))))))))
inductive zOq where
 | l1 (x21:Int) (o1:List Int) (o3_0 o4_0:Int)
 | l2 (x66:Int) (o1:List Int) (o3_0 o4_0:Int)
def zKV (n:Nat) (self:zOq→Option (Bool×(List Int))) (c:zAC) (q:zAB) (pos:List Int) (ln:Nat) (lost:List Int) (x21:Int) (o1:List Int) (o3_0 o4_0:Int):Option (Bool×(List Int)):=
 bif (decide (x21<(c.cells.length:Int))) then
  if (0≤x21∧x21<(c.cells.length:Int))∧(0≤(c.cells.getD ((x21).toNat) 0)∧(c.cells.getD ((x21).toNat) 0)<(pos.length:Int)) then
   (zYY n (pos.getD ((c.cells.getD ((x21).toNat) 0).toNat) 0) c q pos ln o1).bind fun y1=>
    if R64 (o3_0+y1.1)∧R64 (o4_0+y1.2.1)∧R64 (x21+1) then
     self (.l1 (x21+1) y1.2.2 (o3_0+y1.1) (o4_0+y1.2.1))
    else none
  else none
 else
  bif (decide (o3_0>c.hi)) then
   some (false,o1)
  else
   bif (decide (o4_0<c.lo)) then
    some (false,o1)
   else
    self (.l2 0 o1 o3_0 o4_0)
def zKU (n:Nat) (self:zOq→Option (Bool×(List Int))) (c:zAC) (q:zAB) (pos:List Int) (ln:Nat) (lost:List Int) (x66:Int) (o1:List Int) (o3_0 o4_0:Int):Option (Bool×(List Int)):=
 bif (decide (x66<(c.cells.length:Int))) then
  if (0≤x66∧x66<(c.cells.length:Int))∧(0≤(c.cells.getD ((x66).toNat) 0)∧(c.cells.getD ((x66).toNat) 0)<(pos.length:Int)) then
   (zYY n (pos.getD ((c.cells.getD ((x66).toNat) 0).toNat) 0) c q pos ln o1).bind fun y1=>
    if 0≤(pos.getD ((c.cells.getD ((x66).toNat) 0).toNat) 0)∧(pos.getD ((c.cells.getD ((x66).toNat) 0).toNat) 0)<9223372036854775808 then
     (zBA (zJt n c x66 q pos ln o3_0 o4_0 y1) (zAj (pos.getD ((c.cells.getD ((x66).toNat) 0).toNat) 0)) (.s0 y1.2.2)).bind fun y2=>
      match y2 with
      | .s0 y2_0_0=>
       if R64 (x66+1) then
        self (.l2 (x66+1) y2_0_0 o3_0 o4_0)
       else none
    else none
  else none
 else
  some (true,o1)
def zbT (n:Nat) (self:zOq→Option (Bool×(List Int))) (c:zAC) (q:zAB) (pos:List Int) (ln:Nat) (lost:List Int):Option (Bool×(List Int)):=
 self (.l1 0 lost 0 0)
def zFY (c:zAC) (q:zAB) (pos:List Int) (ln:Nat) (lost:List Int):Nat→zOq→Option (Bool×(List Int))
 | 0,_=>none
 | n+1,.l1 x21 o1 o3_0 o4_0=>zKV n (zFY c q pos ln lost n) c q pos ln lost x21 o1 o3_0 o4_0
 | n+1,.l2 x66 o1 o3_0 o4_0=>zKU n (zFY c q pos ln lost n) c q pos ln lost x66 o1 o3_0 o4_0
def zcR (n:Nat) (c:zAC) (q:zAB) (pos:List Int) (ln:Nat) (lost:List Int):Option (Bool×(List Int)):=zbT n (zFY c q pos ln lost n) c q pos ln lost
def zbU (n B:Nat) (N:Yd 2) (c:zAC) (q:zAB) (pos:List Int) (ln:Nat) (lost:List Int) (r:Bool×(List Int)):zOq→Prop
 | .l1 x21 o1 o3_0 o4_0=>∀ m0:Nat,n≤m0→TW B N (FQ Tryz.f59 2 (.bool r.1) [some (.cells (zAF c++zAE q++[.ints pos,.msl 1 1 0 ln])),some (.ints r.2)]) (toN m0 (zA9 (zAK Tryz.f59) 0 [])) ⟨frm 129 [(1,.ref 2 0),(3,.ref 3 0),(4,.ref 4 0),(19,.ints c.cells),(20,.i (c.cells.length:Int)),(21,.i x21)],[some (.cells (zAF c++zAE q++[.ints pos,.msl 1 1 0 ln])),some (.ints o1),some (.cells [.ref 0 0]),some (.cells [.i o3_0]),some (.cells [.i o4_0])]⟩
 | .l2 x66 o1 o3_0 o4_0=>∀ m0:Nat,n≤m0→TW B N (FQ Tryz.f59 2 (.bool r.1) [some (.cells (zAF c++zAE q++[.ints pos,.msl 1 1 0 ln])),some (.ints r.2)]) (toN m0 (zA9 (zAK Tryz.f59) 2 [])) ⟨frm 129 [(1,.ref 2 0),(3,.ref 3 0),(4,.ref 4 0),(64,.ints c.cells),(65,.i (c.cells.length:Int)),(66,.i x66)],[some (.cells (zAF c++zAE q++[.ints pos,.msl 1 1 0 ln])),some (.ints o1),some (.cells [.ref 0 0]),some (.cells [.i o3_0]),some (.cells [.i o4_0])]⟩
theorem zZD (B:Nat) (N:Yd 2) (c:zAC) (q:zAB) (pos:List Int) (ln:Nat) (lost:List Int):Al (zFY c q pos ln lost) (zbU · B N c q pos ln lost):=ia (fun _=>rfl) fun n hself pt r h=>by
 cases pt
 case l1 x21 o1 o3_0 o4_0=>
  intro m0 hm0
  refine rd hm0 fun m0 hm0=>?_
  revert r
  apply gO
  exact bi 22 (gc (gi (jg zZM (gi (ce zGi [0,1] (zYA c q pos ln o1 o3_0 o4_0) fun y1=>jg (Eq.refl (zMO y1 c x21 q pos ln o3_0 o4_0)) (jg zZL (gc (gw 39 (gc (gw 42 (jt (jt (jg (Eq.refl (zMN c x21 q pos ln y1 o3_0 o4_0)) (gw 43 (lG (tg:=[([],(zMO y1 c x21 q pos ln o3_0 o4_0)),([(6,3)],(zMN c x21 q pos ln y1 o3_0 o4_0))]) zB0 [0,1,2,3,4] (hself _ _ · m0 hm0)))))))))))))))) (jg zZK (bi 50 (lE zB0 [2] [0,1]) (bi 58 (lE zB0 [2] [0,1]) (lN zB0 [0,1,2,3,4] (hself _ _ · n Nat.le.refl)))))
 case l2 x66 o1 o3_0 o4_0=>
  intro m0 hm0
  refine rd hm0 fun m0 hm0=>?_
  revert r
  apply gO
  exact bi 67 (gc (gi (jt (jg zWC (gn fun g1=>jg g1 (cn fun y1 hy1=>jc (em (zGi hy1) [0,1] (zX9 c q pos ln o1 o3_0 o4_0 x66)) (jt (jt (jg (Eq.refl (zCj c x66 q pos ln y1 o3_0 o4_0)) (jt (jt (jg (Eq.refl (zCj c x66 q pos ln y1 o3_0 o4_0)) (jc (em (zGi hy1) [0,1] (zQD c q pos ln o1 o3_0 o4_0 x66)) (jt (jt (jg (Eq.refl (zCj c x66 q pos ln y1 o3_0 o4_0)) (jc (em (zGi hy1) [0,1] (zQC c q pos ln o1 o3_0 o4_0 x66)) (jt (jt (jg (Eq.refl (zCj c x66 q pos ln y1 o3_0 o4_0)) (jc (em (zGi hy1) [0,1] (zQD c q pos ln o1 o3_0 o4_0 x66)) (jt (jt (jg (Eq.refl (zCj c x66 q pos ln y1 o3_0 o4_0)) (jc (em (zGi hy1) [0,1] (zQC c q pos ln o1 o3_0 o4_0 x66)) (jt (jt (jg (Eq.refl (zCj c x66 q pos ln y1 o3_0 o4_0)) (jg zWB (jg g1 (gn fun g2=>jc (zBU g2 (zX8 c q pos ln y1 o3_0 o4_0 x66)) (cn fun y2 hy2=>fun p r h=>by
   refine gs (tg:=[([],(zCj c x66 q pos ln y1 o3_0 o4_0))]) zB0 [0,1,2,3,4,5,6,7,8] p (atT (zAK Tryz.f59) 89 [m0]) (frm 129 [(1,.ref 2 0),(3,.ref 3 0),(4,.ref 4 0),(10,.ref 5 0),(11,.ref 6 0),(12,.ref 7 0),(64,.ints c.cells),(65,.i (c.cells.length:Int)),(66,.i x66),(89,.it 8)]) (zX7 c q pos ln y1 o3_0 o4_0 x66) ?_
   refine r0 8 89 #[90] zD1 9 hy2 (zQ8 n c x66 q pos ln o3_0 o4_0 y1) ?_
   cases y2 with
   | s0 y2_0_0=>
    dsimp only at h
    revert r
    apply gO
    exact gw 128 (lG zB0 [0,1,2,3,4] (hself _ _ · m0 hm0)))))))))))))))))))))))))))))))))) (lE zB0 [2] [0,1])
theorem zbS {n:Nat} {c:zAC} {q:zAB} {pos:List Int} {ln:Nat} {lost:List Int} {r:Bool×(List Int)} (h:zcR n c q pos ln lost=some r):EQ 59 [.ref 0 0] [some (.cells (zAF c++zAE q++[.ints pos,.msl 1 1 0 ln])),some (.ints lost)] (.bool r.1) [some (.cells (zAF c++zAE q++[.ints pos,.msl 1 1 0 ln])),some (.ints r.2)] false:=by
 refine ot Tryz.func59 fun B N=>?_
 revert r
 apply gO
 exact jt (jt (lN zB0 [0,1,2,3,4] ((zZD B N c q pos ln lost n) _ _ · n Nat.le.refl)))
end Go.Proofs.YtekkngkphejfcaaGreatDoor
namespace Go.Proofs.YtekkngkphejfcaaGreatDoor
open Go.RowKit
set_option maxRecDepth 100000
set_option maxHeartbeats 40000000
theorem zUB:SOk (zBa Tryz.f89 1) [] (List.range 18) []:=by unfold SOk;kernel_rfl
def zTq:Sch:=fun i=>match i with
 | 1=>.ord [] (List.range 18) []
 | _=>.no
def zQr (n:Nat) (s_ t_:Int) (c:zAC) (q:zAB) (pos:List Int) (ln:Nat) (lost:List Int):Option (Bool×(List Int)):=
 if (0≤s_∧s_<(q.values.length:Int))∧(0≤t_∧t_<(q.values.length:Int))∧R64 ((q.values.getD ((s_).toNat) 0)-(q.values.getD ((t_).toNat) 0))∧R64 (0-((q.values.getD ((s_).toNat) 0)-(q.values.getD ((t_).toNat) 0))) then
  some ((decide ((if (0-((q.values.getD ((s_).toNat) 0)-(q.values.getD ((t_).toNat) 0)))>((q.values.getD ((s_).toNat) 0)-(q.values.getD ((t_).toNat) 0)) then (0-((q.values.getD ((s_).toNat) 0)-(q.values.getD ((t_).toNat) 0))) else ((q.values.getD ((s_).toNat) 0)-(q.values.getD ((t_).toNat) 0)))≥c.lo)),lost)
 else none
def zTf (n:Nat) (s_ t_:Int) (c:zAC) (q:zAB) (pos:List Int) (ln:Nat) (lost:List Int):Option (Bool×(List Int)):=zQr n s_ t_ c q pos ln lost
theorem zYt {n:Nat} {s_ t_:Int} {c:zAC} {q:zAB} {pos:List Int} {ln:Nat} {lost:List Int} {r:Bool×(List Int)} (h:zTf n s_ t_ c q pos ln lost=some r):EQ 89 [.i s_,.i t_,.ref 0 0] [some (.cells [.ref 1 0]),some (.cells (zAF c++zAE q++[.ints pos,.msl 2 1 0 ln])),some (.ints lost)] (.bool r.1) [some (.cells [.ref 1 0]),some (.cells (zAF c++zAE q++[.ints pos,.msl 2 1 0 ln])),some (.ints r.2)] false:=by
 refine ot Tryz.func89 fun B N=>?_
 revert r
 apply gO
 exact jg zUB (gc (gi (gc (gi (gc (gw 23 (gw 26 (lE zTq [5] [0,1,2]))))))))
theorem zZQ:SOk (zBa Tryz.f90 1) [] (List.range 6) []:=by unfold SOk;kernel_rfl
def zHS:Sch:=fun i=>match i with
 | 1=>.ord [] (List.range 6) []
 | _=>.no
def zXV (n:Nat) (s_ t_:Int) (c:zAC) (q:zAB) (pos:List Int) (ln:Nat) (lost:List Int):Option (Bool×(List Int)):=
 if (0≤s_∧s_≤(IntKind.i64.bits:Int))∧(0≤t_∧t_≤(IntKind.i64.bits:Int)) then
  bif ((bits .and .i64 (IntKind.i64.wrap (1*2 ^ (s_).toNat)) c.set)==0) then
   bif ((bits .and .i64 (IntKind.i64.wrap (1*2 ^ (t_).toNat)) c.set)==0) then
    some (true,lost)
   else
    some (((bits .and .i64 (IntKind.i64.wrap (1*2 ^ (s_).toNat)) c.other)==0),lost)
  else
   bif ((bits .and .i64 (IntKind.i64.wrap (1*2 ^ (t_).toNat)) c.other)==0) then
    bif ((bits .and .i64 (IntKind.i64.wrap (1*2 ^ (t_).toNat)) c.set)==0) then
     some (true,lost)
    else
     some (((bits .and .i64 (IntKind.i64.wrap (1*2 ^ (s_).toNat)) c.other)==0),lost)
   else
    some (false,lost)
 else none
def zdW (n:Nat) (s_ t_:Int) (c:zAC) (q:zAB) (pos:List Int) (ln:Nat) (lost:List Int):Option (Bool×(List Int)):=zXV n s_ t_ c q pos ln lost
theorem zb4 {n:Nat} {s_ t_:Int} {c:zAC} {q:zAB} {pos:List Int} {ln:Nat} {lost:List Int} {r:Bool×(List Int)} (h:zdW n s_ t_ c q pos ln lost=some r):EQ 90 [.i s_,.i t_,.ref 0 0] [some (.cells [.ref 1 0]),some (.cells (zAF c++zAE q++[.ints pos,.msl 2 1 0 ln])),some (.ints lost)] (.bool r.1) [some (.cells [.ref 1 0]),some (.cells (zAF c++zAE q++[.ints pos,.msl 2 1 0 ln])),some (.ints r.2)] false:=by
 refine ot Tryz.func90 fun B N=>?_
 revert r
 apply gO
 exact jg zZQ (gc (gi (gi (bi 19 (bi 38 (lE zHS [5] [0,1,2]) (lE zHS [5] [0,1,2])) (bi 28 (bi 38 (lE zHS [5] [0,1,2]) (lE zHS [5] [0,1,2])) (lE zHS [5] [0,1,2]))))))
theorem zWO:SOk (zBa Tryz.f88 1) [] (List.range 16) []:=by unfold SOk;kernel_rfl
theorem zWN:SOk (zBa Tryz.f88 2) [([0,1,2,3,4,5,6,7,8,9,10,11,12,13],14)] [15] [16]:=by unfold SOk;kernel_rfl
theorem zWM:SOk (zBa Tryz.f88 9) [] [0,1,2,3] [4]:=by unfold SOk;kernel_rfl
theorem zT5:SOk (zBa Tryz.f88 10) [] [0,1,2,3] [4]:=by unfold SOk;kernel_rfl
def zC2:Sch:=fun i=>match i with
 | 1=>.ord [] (List.range 16) []
 | 2=>.ord [([0,1,2,3,4,5,6,7,8,9,10,11,12,13],14)] [15] [16]
 | 9=>.ord [] [0,1,2,3] [4]
 | 10=>.ord [] [0,1,2,3] [4]
 | _=>.no
def zU8 (c:zAC) (q:zAB) (pos:List Int) (ln:Nat) (lost:List Int):DH:=[some (.cells [.ref 1 0]),some (.cells (zAF c++zAE q++[.ints pos,.msl 2 1 0 ln])),some (.ints lost),some (.cells [.fn 89 1 (L1 [.ref 0 0])]),some (.cells [.i (pos.getD ((c.cells.getD 1 0).toNat) 0)]),some (.cells [.i 0]),some (.cells [.i 0])]
def zU7 (c:zAC) (q:zAB) (pos:List Int) (ln:Nat) (lost:List Int):DH:=[some (.cells [.ref 1 0]),some (.cells (zAF c++zAE q++[.ints pos,.msl 2 1 0 ln])),some (.ints lost),some (.cells [.fn 89 1 (L1 [.ref 0 0])]),some (.cells [.i (pos.getD ((c.cells.getD 1 0).toNat) 0)]),some (.cells [.i 0]),some (.cells [.i 0]),some (.iter ((zAj (pos.getD ((c.cells.getD 0 0).toNat) 0)).map zD1))]
def zU6 (c:zAC) (q:zAB) (pos:List Int) (ln:Nat) (y1_0_0:List Int) (y1_0_1 y1_0_2:Int):DH:=[some (.cells [.ref 1 0]),some (.cells (zAF c++zAE q++[.ints pos,.msl 2 1 0 ln])),some (.ints y1_0_0),some (.cells [.fn 89 1 (L1 [.ref 0 0])]),some (.cells [.i (pos.getD ((c.cells.getD 1 0).toNat) 0)]),some (.cells [.i y1_0_1]),some (.cells [.i y1_0_2]),none]
def zU5 (c:zAC) (q:zAB) (pos:List Int) (ln:Nat) (y2:(List Int)) (y1_0_1 y1_0_2:Int):DH:=[some (.cells [.ref 1 0]),some (.cells (zAF c++zAE q++[.ints pos,.msl 2 1 0 ln])),some (.ints y2),some (.cells [.fn 89 1 (L1 [.ref 0 0])]),some (.cells [.i (pos.getD ((c.cells.getD 1 0).toNat) 0)]),some (.cells [.i y1_0_1]),some (.cells [.i y1_0_2]),none]
def zM4 (c:zAC) (q:zAB) (pos:List Int) (ln:Nat) (r42s0_2:List Int) (r42s0_5_0 r42s0_6_0 e42:Int):DH:=[some (.cells [.ref 1 0]),some (.cells (zAF c++zAE q++[.ints pos,.msl 2 1 0 ln])),some (.ints r42s0_2),some (.cells [.fn 89 1 (L1 [.ref 0 0])]),some (.cells [.i (pos.getD ((c.cells.getD 1 0).toNat) 0)]),some (.cells [.i r42s0_5_0]),some (.cells [.i r42s0_6_0]),none,some (.cells [.i e42])]
def zU4 (c:zAC) (q:zAB) (pos:List Int) (ln:Nat) (r42s0_2:List Int) (r42s0_5_0 r42s0_6_0 e42:Int):DH:=[some (.cells [.ref 1 0]),some (.cells (zAF c++zAE q++[.ints pos,.msl 2 1 0 ln])),some (.ints r42s0_2),some (.cells [.fn 89 1 (L1 [.ref 0 0])]),some (.cells [.i (pos.getD ((c.cells.getD 1 0).toNat) 0)]),some (.cells [.i r42s0_5_0]),some (.cells [.i r42s0_6_0]),none,some (.cells [.i e42]),some (.iter ((zAj (pos.getD ((c.cells.getD 1 0).toNat) 0)).map zD1))]
def zM3 (c:zAC) (q:zAB) (pos:List Int) (ln:Nat) (r45s0_2:List Int) (r45s0_5_0 r45s0_6_0 e42:Int):DH:=[some (.cells [.ref 1 0]),some (.cells (zAF c++zAE q++[.ints pos,.msl 2 1 0 ln])),some (.ints r45s0_2),some (.cells [.fn 89 1 (L1 [.ref 0 0])]),some (.cells [.i (pos.getD ((c.cells.getD 1 0).toNat) 0)]),some (.cells [.i r45s0_5_0]),some (.cells [.i r45s0_6_0]),none,some (.cells [.i e42]),none]
inductive zAn where
 | s0 (r45s0_2:List Int) (r45s0_5_0 r45s0_6_0:Int)
def zFt (c:zAC) (q:zAB) (pos:List Int) (ln:Nat) (e42:Int):zAn→DH
 | .s0 r45s0_2 r45s0_5_0 r45s0_6_0=>[some (.cells [.ref 1 0]),some (.cells (zAF c++zAE q++[.ints pos,.msl 2 1 0 ln])),some (.ints r45s0_2),some (.cells [.fn 89 1 (L1 [.ref 0 0])]),some (.cells [.i (pos.getD ((c.cells.getD 1 0).toNat) 0)]),some (.cells [.i r45s0_5_0]),some (.cells [.i r45s0_6_0]),none,some (.cells [.i e42]),none]
def zB3 (n:Nat) (c:zAC) (q:zAB) (pos:List Int) (ln:Nat) (e42 e45:Int) (r45s0_2:List Int) (r45s0_5_0 r45s0_6_0:Int):Option zAn:=
 (zTf n e42 e45 c q pos ln r45s0_2).bind fun b45_y1=>
  bif b45_y1.1 then
   if (0≤e42∧e42≤(IntKind.i64.bits:Int))∧(0≤e45∧e45≤(IntKind.i64.bits:Int)) then
    some (.s0 b45_y1.2 (bits .or .i64 r45s0_5_0 (IntKind.i64.wrap (1*2 ^ (e42).toNat))) (bits .or .i64 r45s0_6_0 (IntKind.i64.wrap (1*2 ^ (e45).toNat))))
   else none
  else
   some (.s0 b45_y1.2 r45s0_5_0 r45s0_6_0)
def zFO (n:Nat) (c:zAC) (q:zAB) (pos:List Int) (ln:Nat) (e42 e45:Int):zAn→Option zAn
 | .s0 r45s0_2 r45s0_5_0 r45s0_6_0=>zB3 n c q pos ln e42 e45 r45s0_2 r45s0_5_0 r45s0_6_0
def zDS (n:Nat) (c:zAC) (q:zAB) (pos:List Int) (ln:Nat) (e42 e45:Int) (s:zAn):Option zAn:=zFO n c q pos ln e42 e45 s
theorem zJr (n:Nat) (c:zAC) (q:zAB) (pos:List Int) (ln:Nat) (e42:Int) (l B:Nat) (N:Yd 10) (e45:Int) (s:zAn) (r:zAn) (h:zDS n c q pos ln e42 e45 s=some r):TA l B N (zI9 10 [] 0 (zFt c q pos ln e42 r)) Tryz.f88 45 ⟨frm 69 [(3,.ref 3 0),(9,.ref 5 0),(10,.ref 6 0),(11,.ref 8 0),(45,.it 9),(46,.i e45)],zFt c q pos ln e42 s⟩:=by
 cases s with
 | s0 r45s0_2 r45s0_5_0 r45s0_6_0=>
  replace h:zB3 n c q pos ln e42 e45 r45s0_2 r45s0_5_0 r45s0_6_0=some r:=h
  unfold zB3 at h
  refine ag zC2 [0,1,2,3,4,5,6,7,8,9] H0 (frm 69 [(3,.ref 3 0),(9,.ref 5 0),(10,.ref 6 0),(11,.ref 8 0),(12,.i e45)]) (zM3 c q pos ln r45s0_2 r45s0_5_0 r45s0_6_0 e42) fun N=>?_
  revert r
  apply gO
  exact ce zYt [0,1,2] (zM3 c q pos ln r45s0_2 r45s0_5_0 r45s0_6_0 e42) fun _=>bi 50 (jg zWM (gc (gi (jt (jg zT5 (gi (jt (lF fun p=>rr zC2 [0,1,2,3,4,5,6,7,8,9] rfl p)))))))) (lF fun p=>rr zC2 [0,1,2,3,4,5,6,7,8,9] rfl p)
inductive zBp where
 | s0 (r42s0_2:List Int) (r42s0_5_0 r42s0_6_0:Int)
def zLH (c:zAC) (q:zAB) (pos:List Int) (ln:Nat):zBp→DH
 | .s0 r42s0_2 r42s0_5_0 r42s0_6_0=>[some (.cells [.ref 1 0]),some (.cells (zAF c++zAE q++[.ints pos,.msl 2 1 0 ln])),some (.ints r42s0_2),some (.cells [.fn 89 1 (L1 [.ref 0 0])]),some (.cells [.i (pos.getD ((c.cells.getD 1 0).toNat) 0)]),some (.cells [.i r42s0_5_0]),some (.cells [.i r42s0_6_0]),none]
def zDw (n:Nat) (c:zAC) (q:zAB) (pos:List Int) (ln:Nat) (e42:Int) (r42s0_2:List Int) (r42s0_5_0 r42s0_6_0:Int):Option zBp:=
 if 0≤(pos.getD ((c.cells.getD 1 0).toNat) 0)∧(pos.getD ((c.cells.getD 1 0).toNat) 0)<9223372036854775808 then
  (zBA (zDS n c q pos ln e42) (zAj (pos.getD ((c.cells.getD 1 0).toNat) 0)) (.s0 r42s0_2 r42s0_5_0 r42s0_6_0)).bind fun b42_y1=>
   match b42_y1 with
   | .s0 b42_y1_0_0 b42_y1_0_1 b42_y1_0_2=>
    some (.s0 b42_y1_0_0 b42_y1_0_1 b42_y1_0_2)
 else none
def zJa (n:Nat) (c:zAC) (q:zAB) (pos:List Int) (ln:Nat) (e42:Int):zBp→Option zBp
 | .s0 r42s0_2 r42s0_5_0 r42s0_6_0=>zDw n c q pos ln e42 r42s0_2 r42s0_5_0 r42s0_6_0
def zH1 (n:Nat) (c:zAC) (q:zAB) (pos:List Int) (ln:Nat) (e42:Int) (s:zBp):Option zBp:=zJa n c q pos ln e42 s
theorem zPu (n:Nat) (c:zAC) (q:zAB) (pos:List Int) (ln:Nat) (l B:Nat) (N:Yd 8) (e42:Int) (s:zBp) (r:zBp) (h:zH1 n c q pos ln e42 s=some r):TA l B N (zI9 8 [] 0 (zLH c q pos ln r)) Tryz.f88 42 ⟨frm 69 [(0,.ref 1 0),(3,.ref 3 0),(5,.i (c.cells.getD 0 0)),(6,.i (c.cells.getD 1 0)),(8,.ref 4 0),(9,.ref 5 0),(10,.ref 6 0),(42,.it 7),(43,.i e42)],zLH c q pos ln s⟩:=by
 cases s with
 | s0 r42s0_2 r42s0_5_0 r42s0_6_0=>
  replace h:zDw n c q pos ln e42 r42s0_2 r42s0_5_0 r42s0_6_0=some r:=h
  unfold zDw at h
  refine ag zC2 [0,1,2,3,4,5,6,7,8] (H0.t) (frm 69 [(3,.ref 3 0),(8,.ref 4 0),(9,.ref 5 0),(10,.ref 6 0),(11,.ref 8 0)]) (zM4 c q pos ln r42s0_2 r42s0_5_0 r42s0_6_0 e42) fun N=>?_
  revert r
  apply gO
  exact gn fun b42_g0=>jc (zBU b42_g0 (zM4 c q pos ln r42s0_2 r42s0_5_0 r42s0_6_0 e42)) (cn fun b42_y1 hb42_y1=>fun p r h=>by
   refine gs zC2 [0,1,2,3,4,5,6,7,8,9] p (atT (rgB Tryz.f88 42) 45 []) (frm 69 [(3,.ref 3 0),(9,.ref 5 0),(10,.ref 6 0),(11,.ref 8 0),(45,.it 9)]) (zU4 c q pos ln r42s0_2 r42s0_5_0 r42s0_6_0 e42) ?_
   refine r0 9 45 #[46] zD1 10 hb42_y1 (zJr n c q pos ln e42) ?_
   cases b42_y1 with
   | s0 b42_y1_0_0 b42_y1_0_1 b42_y1_0_2=>
    dsimp only at h
    revert r
    apply gO
    exact lF fun p=>rr zC2 [0,1,2,3,4,5,6,7] rfl p)
def zS5 (n:Nat) (c:zAC) (q:zAB) (pos:List Int) (ln:Nat) (lost:List Int):Option (Bool×(List Int)):=
 if ((0:Int)≤0∧0<(c.cells.length:Int))∧((0:Int)≤1∧1<(c.cells.length:Int))∧(0≤(c.cells.getD 0 0)∧(c.cells.getD 0 0)<(pos.length:Int))∧(0≤(c.cells.getD 1 0)∧(c.cells.getD 1 0)<(pos.length:Int))∧(0≤(pos.getD ((c.cells.getD 0 0).toNat) 0)∧(pos.getD ((c.cells.getD 0 0).toNat) 0)<9223372036854775808) then
  (zBA (zH1 n c q pos ln) (zAj (pos.getD ((c.cells.getD 0 0).toNat) 0)) (.s0 lost 0 0)).bind fun y1=>
   match y1 with
   | .s0 y1_0_0 y1_0_1 y1_0_2=>
    (zC8 n (c.cells.getD 0 0) (bits .xor .i64 (-1) y1_0_1) c q pos ln y1_0_0).bind fun y2=>
     (zC8 n (c.cells.getD 1 0) (bits .xor .i64 (-1) y1_0_2) c q pos ln y2).bind fun y3=>
      some (true,y3)
 else none
def zby (n:Nat) (c:zAC) (q:zAB) (pos:List Int) (ln:Nat) (lost:List Int):Option (Bool×(List Int)):=zS5 n c q pos ln lost
theorem zaF {n:Nat} {c:zAC} {q:zAB} {pos:List Int} {ln:Nat} {lost:List Int} {r:Bool×(List Int)} (h:zby n c q pos ln lost=some r):EQ 88 [.ref 1 0,.fn 89 1 (L1 [.ref 0 0])] [some (.cells [.ref 1 0]),some (.cells (zAF c++zAE q++[.ints pos,.msl 2 1 0 ln])),some (.ints lost)] (.bool r.1) [some (.cells [.ref 1 0]),some (.cells (zAF c++zAE q++[.ints pos,.msl 2 1 0 ln])),some (.ints r.2)] false:=by
 refine ot Tryz.func88 fun B N=>?_
 revert r
 apply gO
 exact jg zWO (gc (gi (gc (gi (jg zWN (gc (gi (gc (gi (jt (gn fun g4=>jc (zBU g4 (zU8 c q pos ln lost)) (cn fun y1 hy1=>fun p r h=>by
  refine gs zC2 [0,1,2,3,4,5,6,7] p (atT (zAK Tryz.f88) 42 []) (frm 69 [(0,.ref 1 0),(3,.ref 3 0),(5,.i (c.cells.getD 0 0)),(6,.i (c.cells.getD 1 0)),(8,.ref 4 0),(9,.ref 5 0),(10,.ref 6 0),(42,.it 7)]) (zU7 c q pos ln lost) ?_
  refine r0 7 42 #[43] zD1 8 hy1 (zPu n c q pos ln) ?_
  cases y1 with
  | s0 y1_0_0 y1_0_1 y1_0_2=>
   dsimp only at h
   revert r
   apply gO
   exact ce zBS [1,2] (zU6 c q pos ln y1_0_0 y1_0_1 y1_0_2) fun y2=>ce zBS [1,2] (zU5 c q pos ln y2 y1_0_1 y1_0_2) fun _=>lE zC2 [4] [0,1,2]))))))))))))
theorem zWL:SOk (zBa Tryz.f88 1) [] (List.range 16) []:=by unfold SOk;kernel_rfl
theorem zWK:SOk (zBa Tryz.f88 2) [([0,1,2,3,4,5,6,7,8,9,10,11,12,13],14)] [15] [16]:=by unfold SOk;kernel_rfl
theorem zWJ:SOk (zBa Tryz.f88 9) [] [0,1,2,3] [4]:=by unfold SOk;kernel_rfl
theorem zT4:SOk (zBa Tryz.f88 10) [] [0,1,2,3] [4]:=by unfold SOk;kernel_rfl
def zC1:Sch:=fun i=>match i with
 | 1=>.ord [] (List.range 16) []
 | 2=>.ord [([0,1,2,3,4,5,6,7,8,9,10,11,12,13],14)] [15] [16]
 | 9=>.ord [] [0,1,2,3] [4]
 | 10=>.ord [] [0,1,2,3] [4]
 | _=>.no
def zU3 (c:zAC) (q:zAB) (pos:List Int) (ln:Nat) (lost:List Int):DH:=[some (.cells [.ref 1 0]),some (.cells (zAF c++zAE q++[.ints pos,.msl 2 1 0 ln])),some (.ints lost),some (.cells [.fn 90 1 (L1 [.ref 0 0])]),some (.cells [.i (pos.getD ((c.cells.getD 1 0).toNat) 0)]),some (.cells [.i 0]),some (.cells [.i 0])]
def zU2 (c:zAC) (q:zAB) (pos:List Int) (ln:Nat) (lost:List Int):DH:=[some (.cells [.ref 1 0]),some (.cells (zAF c++zAE q++[.ints pos,.msl 2 1 0 ln])),some (.ints lost),some (.cells [.fn 90 1 (L1 [.ref 0 0])]),some (.cells [.i (pos.getD ((c.cells.getD 1 0).toNat) 0)]),some (.cells [.i 0]),some (.cells [.i 0]),some (.iter ((zAj (pos.getD ((c.cells.getD 0 0).toNat) 0)).map zD1))]
def zU1 (c:zAC) (q:zAB) (pos:List Int) (ln:Nat) (y1_0_0:List Int) (y1_0_1 y1_0_2:Int):DH:=[some (.cells [.ref 1 0]),some (.cells (zAF c++zAE q++[.ints pos,.msl 2 1 0 ln])),some (.ints y1_0_0),some (.cells [.fn 90 1 (L1 [.ref 0 0])]),some (.cells [.i (pos.getD ((c.cells.getD 1 0).toNat) 0)]),some (.cells [.i y1_0_1]),some (.cells [.i y1_0_2]),none]
def zU0 (c:zAC) (q:zAB) (pos:List Int) (ln:Nat) (y2:(List Int)) (y1_0_1 y1_0_2:Int):DH:=[some (.cells [.ref 1 0]),some (.cells (zAF c++zAE q++[.ints pos,.msl 2 1 0 ln])),some (.ints y2),some (.cells [.fn 90 1 (L1 [.ref 0 0])]),some (.cells [.i (pos.getD ((c.cells.getD 1 0).toNat) 0)]),some (.cells [.i y1_0_1]),some (.cells [.i y1_0_2]),none]
def zM2 (c:zAC) (q:zAB) (pos:List Int) (ln:Nat) (r42s0_2:List Int) (r42s0_5_0 r42s0_6_0 e42:Int):DH:=[some (.cells [.ref 1 0]),some (.cells (zAF c++zAE q++[.ints pos,.msl 2 1 0 ln])),some (.ints r42s0_2),some (.cells [.fn 90 1 (L1 [.ref 0 0])]),some (.cells [.i (pos.getD ((c.cells.getD 1 0).toNat) 0)]),some (.cells [.i r42s0_5_0]),some (.cells [.i r42s0_6_0]),none,some (.cells [.i e42])]
def zUz (c:zAC) (q:zAB) (pos:List Int) (ln:Nat) (r42s0_2:List Int) (r42s0_5_0 r42s0_6_0 e42:Int):DH:=[some (.cells [.ref 1 0]),some (.cells (zAF c++zAE q++[.ints pos,.msl 2 1 0 ln])),some (.ints r42s0_2),some (.cells [.fn 90 1 (L1 [.ref 0 0])]),some (.cells [.i (pos.getD ((c.cells.getD 1 0).toNat) 0)]),some (.cells [.i r42s0_5_0]),some (.cells [.i r42s0_6_0]),none,some (.cells [.i e42]),some (.iter ((zAj (pos.getD ((c.cells.getD 1 0).toNat) 0)).map zD1))]
def zM1 (c:zAC) (q:zAB) (pos:List Int) (ln:Nat) (r45s0_2:List Int) (r45s0_5_0 r45s0_6_0 e42:Int):DH:=[some (.cells [.ref 1 0]),some (.cells (zAF c++zAE q++[.ints pos,.msl 2 1 0 ln])),some (.ints r45s0_2),some (.cells [.fn 90 1 (L1 [.ref 0 0])]),some (.cells [.i (pos.getD ((c.cells.getD 1 0).toNat) 0)]),some (.cells [.i r45s0_5_0]),some (.cells [.i r45s0_6_0]),none,some (.cells [.i e42]),none]
inductive zAm where
 | s0 (r45s0_2:List Int) (r45s0_5_0 r45s0_6_0:Int)
def zFs (c:zAC) (q:zAB) (pos:List Int) (ln:Nat) (e42:Int):zAm→DH
 | .s0 r45s0_2 r45s0_5_0 r45s0_6_0=>[some (.cells [.ref 1 0]),some (.cells (zAF c++zAE q++[.ints pos,.msl 2 1 0 ln])),some (.ints r45s0_2),some (.cells [.fn 90 1 (L1 [.ref 0 0])]),some (.cells [.i (pos.getD ((c.cells.getD 1 0).toNat) 0)]),some (.cells [.i r45s0_5_0]),some (.cells [.i r45s0_6_0]),none,some (.cells [.i e42]),none]
def zB2 (n:Nat) (c:zAC) (q:zAB) (pos:List Int) (ln:Nat) (e42 e45:Int) (r45s0_2:List Int) (r45s0_5_0 r45s0_6_0:Int):Option zAm:=
 (zdW n e42 e45 c q pos ln r45s0_2).bind fun b45_y1=>
  bif b45_y1.1 then
   if (0≤e42∧e42≤(IntKind.i64.bits:Int))∧(0≤e45∧e45≤(IntKind.i64.bits:Int)) then
    some (.s0 b45_y1.2 (bits .or .i64 r45s0_5_0 (IntKind.i64.wrap (1*2 ^ (e42).toNat))) (bits .or .i64 r45s0_6_0 (IntKind.i64.wrap (1*2 ^ (e45).toNat))))
   else none
  else
   some (.s0 b45_y1.2 r45s0_5_0 r45s0_6_0)
def zFN (n:Nat) (c:zAC) (q:zAB) (pos:List Int) (ln:Nat) (e42 e45:Int):zAm→Option zAm
 | .s0 r45s0_2 r45s0_5_0 r45s0_6_0=>zB2 n c q pos ln e42 e45 r45s0_2 r45s0_5_0 r45s0_6_0
def zDR (n:Nat) (c:zAC) (q:zAB) (pos:List Int) (ln:Nat) (e42 e45:Int) (s:zAm):Option zAm:=zFN n c q pos ln e42 e45 s
theorem zJq (n:Nat) (c:zAC) (q:zAB) (pos:List Int) (ln:Nat) (e42:Int) (l B:Nat) (N:Yd 10) (e45:Int) (s:zAm) (r:zAm) (h:zDR n c q pos ln e42 e45 s=some r):TA l B N (zI9 10 [] 0 (zFs c q pos ln e42 r)) Tryz.f88 45 ⟨frm 69 [(3,.ref 3 0),(9,.ref 5 0),(10,.ref 6 0),(11,.ref 8 0),(45,.it 9),(46,.i e45)],zFs c q pos ln e42 s⟩:=by
 cases s with
 | s0 r45s0_2 r45s0_5_0 r45s0_6_0=>
  replace h:zB2 n c q pos ln e42 e45 r45s0_2 r45s0_5_0 r45s0_6_0=some r:=h
  unfold zB2 at h
  refine ag zC1 [0,1,2,3,4,5,6,7,8,9] H0 (frm 69 [(3,.ref 3 0),(9,.ref 5 0),(10,.ref 6 0),(11,.ref 8 0),(12,.i e45)]) (zM1 c q pos ln r45s0_2 r45s0_5_0 r45s0_6_0 e42) fun N=>?_
  revert r
  apply gO
  exact ce zb4 [0,1,2] (zM1 c q pos ln r45s0_2 r45s0_5_0 r45s0_6_0 e42) fun _=>bi 50 (jg zWJ (gc (gi (jt (jg zT4 (gi (jt (lF fun p=>rr zC1 [0,1,2,3,4,5,6,7,8,9] rfl p)))))))) (lF fun p=>rr zC1 [0,1,2,3,4,5,6,7,8,9] rfl p)
inductive zBo where
 | s0 (r42s0_2:List Int) (r42s0_5_0 r42s0_6_0:Int)
def zLG (c:zAC) (q:zAB) (pos:List Int) (ln:Nat):zBo→DH
 | .s0 r42s0_2 r42s0_5_0 r42s0_6_0=>[some (.cells [.ref 1 0]),some (.cells (zAF c++zAE q++[.ints pos,.msl 2 1 0 ln])),some (.ints r42s0_2),some (.cells [.fn 90 1 (L1 [.ref 0 0])]),some (.cells [.i (pos.getD ((c.cells.getD 1 0).toNat) 0)]),some (.cells [.i r42s0_5_0]),some (.cells [.i r42s0_6_0]),none]
def zDv (n:Nat) (c:zAC) (q:zAB) (pos:List Int) (ln:Nat) (e42:Int) (r42s0_2:List Int) (r42s0_5_0 r42s0_6_0:Int):Option zBo:=
 if 0≤(pos.getD ((c.cells.getD 1 0).toNat) 0)∧(pos.getD ((c.cells.getD 1 0).toNat) 0)<9223372036854775808 then
  (zBA (zDR n c q pos ln e42) (zAj (pos.getD ((c.cells.getD 1 0).toNat) 0)) (.s0 r42s0_2 r42s0_5_0 r42s0_6_0)).bind fun b42_y1=>
   match b42_y1 with
   | .s0 b42_y1_0_0 b42_y1_0_1 b42_y1_0_2=>
    some (.s0 b42_y1_0_0 b42_y1_0_1 b42_y1_0_2)
 else none
def zJZ (n:Nat) (c:zAC) (q:zAB) (pos:List Int) (ln:Nat) (e42:Int):zBo→Option zBo
 | .s0 r42s0_2 r42s0_5_0 r42s0_6_0=>zDv n c q pos ln e42 r42s0_2 r42s0_5_0 r42s0_6_0
def zH0 (n:Nat) (c:zAC) (q:zAB) (pos:List Int) (ln:Nat) (e42:Int) (s:zBo):Option zBo:=zJZ n c q pos ln e42 s
theorem zPt (n:Nat) (c:zAC) (q:zAB) (pos:List Int) (ln:Nat) (l B:Nat) (N:Yd 8) (e42:Int) (s:zBo) (r:zBo) (h:zH0 n c q pos ln e42 s=some r):TA l B N (zI9 8 [] 0 (zLG c q pos ln r)) Tryz.f88 42 ⟨frm 69 [(0,.ref 1 0),(3,.ref 3 0),(5,.i (c.cells.getD 0 0)),(6,.i (c.cells.getD 1 0)),(8,.ref 4 0),(9,.ref 5 0),(10,.ref 6 0),(42,.it 7),(43,.i e42)],zLG c q pos ln s⟩:=by
 cases s with
 | s0 r42s0_2 r42s0_5_0 r42s0_6_0=>
  replace h:zDv n c q pos ln e42 r42s0_2 r42s0_5_0 r42s0_6_0=some r:=h
  unfold zDv at h
  refine ag zC1 [0,1,2,3,4,5,6,7,8] (H0.t) (frm 69 [(3,.ref 3 0),(8,.ref 4 0),(9,.ref 5 0),(10,.ref 6 0),(11,.ref 8 0)]) (zM2 c q pos ln r42s0_2 r42s0_5_0 r42s0_6_0 e42) fun N=>?_
  revert r
  apply gO
  exact gn fun b42_g0=>jc (zBU b42_g0 (zM2 c q pos ln r42s0_2 r42s0_5_0 r42s0_6_0 e42)) (cn fun b42_y1 hb42_y1=>fun p r h=>by
   refine gs zC1 [0,1,2,3,4,5,6,7,8,9] p (atT (rgB Tryz.f88 42) 45 []) (frm 69 [(3,.ref 3 0),(9,.ref 5 0),(10,.ref 6 0),(11,.ref 8 0),(45,.it 9)]) (zUz c q pos ln r42s0_2 r42s0_5_0 r42s0_6_0 e42) ?_
   refine r0 9 45 #[46] zD1 10 hb42_y1 (zJq n c q pos ln e42) ?_
   cases b42_y1 with
   | s0 b42_y1_0_0 b42_y1_0_1 b42_y1_0_2=>
    dsimp only at h
    revert r
    apply gO
    exact lF fun p=>rr zC1 [0,1,2,3,4,5,6,7] rfl p)
def zS4 (n:Nat) (c:zAC) (q:zAB) (pos:List Int) (ln:Nat) (lost:List Int):Option (Bool×(List Int)):=
 if ((0:Int)≤0∧0<(c.cells.length:Int))∧((0:Int)≤1∧1<(c.cells.length:Int))∧(0≤(c.cells.getD 0 0)∧(c.cells.getD 0 0)<(pos.length:Int))∧(0≤(c.cells.getD 1 0)∧(c.cells.getD 1 0)<(pos.length:Int))∧(0≤(pos.getD ((c.cells.getD 0 0).toNat) 0)∧(pos.getD ((c.cells.getD 0 0).toNat) 0)<9223372036854775808) then
  (zBA (zH0 n c q pos ln) (zAj (pos.getD ((c.cells.getD 0 0).toNat) 0)) (.s0 lost 0 0)).bind fun y1=>
   match y1 with
   | .s0 y1_0_0 y1_0_1 y1_0_2=>
    (zC8 n (c.cells.getD 0 0) (bits .xor .i64 (-1) y1_0_1) c q pos ln y1_0_0).bind fun y2=>
     (zC8 n (c.cells.getD 1 0) (bits .xor .i64 (-1) y1_0_2) c q pos ln y2).bind fun y3=>
      some (true,y3)
 else none
def zbx (n:Nat) (c:zAC) (q:zAB) (pos:List Int) (ln:Nat) (lost:List Int):Option (Bool×(List Int)):=zS4 n c q pos ln lost
theorem zaE {n:Nat} {c:zAC} {q:zAB} {pos:List Int} {ln:Nat} {lost:List Int} {r:Bool×(List Int)} (h:zbx n c q pos ln lost=some r):EQ 88 [.ref 1 0,.fn 90 1 (L1 [.ref 0 0])] [some (.cells [.ref 1 0]),some (.cells (zAF c++zAE q++[.ints pos,.msl 2 1 0 ln])),some (.ints lost)] (.bool r.1) [some (.cells [.ref 1 0]),some (.cells (zAF c++zAE q++[.ints pos,.msl 2 1 0 ln])),some (.ints r.2)] false:=by
 refine ot Tryz.func88 fun B N=>?_
 revert r
 apply gO
 exact jg zWL (gc (gi (gc (gi (jg zWK (gc (gi (gc (gi (jt (gn fun g4=>jc (zBU g4 (zU3 c q pos ln lost)) (cn fun y1 hy1=>fun p r h=>by
  refine gs zC1 [0,1,2,3,4,5,6,7] p (atT (zAK Tryz.f88) 42 []) (frm 69 [(0,.ref 1 0),(3,.ref 3 0),(5,.i (c.cells.getD 0 0)),(6,.i (c.cells.getD 1 0)),(8,.ref 4 0),(9,.ref 5 0),(10,.ref 6 0),(42,.it 7)]) (zU2 c q pos ln lost) ?_
  refine r0 7 42 #[43] zD1 8 hy1 (zPt n c q pos ln) ?_
  cases y1 with
  | s0 y1_0_0 y1_0_1 y1_0_2=>
   dsimp only at h
   revert r
   apply gO
   exact ce zBS [1,2] (zU1 c q pos ln y1_0_0 y1_0_1 y1_0_2) fun y2=>ce zBS [1,2] (zU0 c q pos ln y2 y1_0_1 y1_0_2) fun _=>lE zC1 [4] [0,1,2]))))))))))))
def zL2 (n:Nat) (c:zAC) (q:zAB) (pos:List Int) (ln:Nat) (lost:List Int):Option (Bool×(List Int)):=
 (zby n c q pos ln lost).bind fun y1=>
  some (y1.1,y1.2)
def zL3 (n:Nat) (c:zAC) (q:zAB) (pos:List Int) (ln:Nat) (lost:List Int):Option (Bool×(List Int)):=zL2 n c q pos ln lost
theorem zYs {n:Nat} {c:zAC} {q:zAB} {pos:List Int} {ln:Nat} {lost:List Int} {r:Bool×(List Int)} (h:zL3 n c q pos ln lost=some r):EQ 62 [.ref 0 0] [some (.cells (zAF c++zAE q++[.ints pos,.msl 1 1 0 ln])),some (.ints lost)] (.bool r.1) [some (.cells (zAF c++zAE q++[.ints pos,.msl 1 1 0 ln])),some (.ints r.2)] false:=by
 unfold zL3 zL2 at h
 refine ot Tryz.func62 fun B N=>?_
 revert r
 apply gO
 exact ce zaF [2,0,1] [some (.cells (zAF c++zAE q++[.ints pos,.msl 1 1 0 ln])),some (.ints lost),some (.cells [.ref 0 0])] fun _=>lE zAH [2] [0,1]
def zRb (n:Nat) (c:zAC) (q:zAB) (pos:List Int) (ln:Nat) (lost:List Int):Option (Bool×(List Int)):=
 (zbx n c q pos ln lost).bind fun y1=>
  some (y1.1,y1.2)
def zb3 (n:Nat) (c:zAC) (q:zAB) (pos:List Int) (ln:Nat) (lost:List Int):Option (Bool×(List Int)):=zRb n c q pos ln lost
theorem zb2 {n:Nat} {c:zAC} {q:zAB} {pos:List Int} {ln:Nat} {lost:List Int} {r:Bool×(List Int)} (h:zb3 n c q pos ln lost=some r):EQ 63 [.ref 0 0] [some (.cells (zAF c++zAE q++[.ints pos,.msl 1 1 0 ln])),some (.ints lost)] (.bool r.1) [some (.cells (zAF c++zAE q++[.ints pos,.msl 1 1 0 ln])),some (.ints r.2)] false:=by
 unfold zb3 zRb at h
 refine ot Tryz.func63 fun B N=>?_
 revert r
 apply gO
 exact ce zaE [2,0,1] [some (.cells (zAF c++zAE q++[.ints pos,.msl 1 1 0 ln])),some (.ints lost),some (.cells [.ref 0 0])] fun _=>lE zAH [2] [0,1]
def zVG (kd st oth lo hi:Int) (rn:List Int) (rl spt cells_ symbols_:Int):DH:=[some (.cells [.i kd,.nils,.i st,.i oth,.i lo,.i hi,.ints rn,.i rl,.i spt]),some (.cells [.i 0,.i 0,.nils,.nils,.nils]),some (.cells [.i cells_,.i symbols_,.nils,.nils,.nils]),none]
def zVF (kd st oth lo hi:Int) (rn:List Int) (rl spt cells_ symbols_:Int) (o2_2:Nat) (o3:List Int):DH:=[some (.cells [.i kd,.nils,.i st,.i oth,.i lo,.i hi,.ints rn,.i rl,.i spt]),some (.cells [.i 0,.i 0,.nils,.nils,.nils]),some (.cells [.i cells_,.i symbols_,.msl 3 1 0 o2_2,.nils,.nils]),some (.ints o3),none]
def zIy (kd:Int) (o0_1:Nat) (st oth lo hi:Int) (rn:List Int) (rl spt:Int) (o1:List Int) (cells_ symbols_:Int) (o3_3:Nat) (o4:List (List Int)):DH:=[some (.cells [.i kd,.msl 1 1 0 o0_1,.i st,.i oth,.i lo,.i hi,.ints rn,.i rl,.i spt]),some (.ints o1),some (.cells [.i 0,.i 0,.nils,.nils,.nils]),some (.cells [.i cells_,.i symbols_,.nils,.msl 4 1 0 o3_3,.nils]),some (.arr 1 o4.length (zAz zAS o4)),none]
def zVE (kd:Int) (o1:List Int) (st oth lo hi:Int) (rn:List Int) (rl spt cells_ symbols_:Int) (o3_3:Nat) (o4:List (List Int)):DH:=[some (.cells [.i kd,.ints o1,.i st,.i oth,.i lo,.i hi,.ints rn,.i rl,.i spt]),none,some (.cells [.i 0,.i 0,.nils,.nils,.nils]),some (.cells [.i cells_,.i symbols_,.nils,.msl 4 1 0 o3_3,.nils]),some (.arr 1 o4.length (zAz zAS o4))]
def zIx (kd:Int) (o0_1:Nat) (st oth lo hi:Int) (rn:List Int) (rl spt:Int) (o1:List Int) (cells_ symbols_:Int) (o3_2 o3_3:Nat) (o4t2:List Int) (o5:List (List Int)):DH:=[some (.cells [.i kd,.msl 1 1 0 o0_1,.i st,.i oth,.i lo,.i hi,.ints rn,.i rl,.i spt]),some (.ints o1),some (.cells [.i 0,.i 0,.nils,.nils,.nils]),some (.cells [.i cells_,.i symbols_,.msl 4 1 0 o3_2,.msl 5 1 0 o3_3,.nils]),some (.ints o4t2),some (.arr 1 o5.length (zAz zAS o5)),none]
def zVD (kd:Int) (o1:List Int) (st oth lo hi:Int) (rn:List Int) (rl spt cells_ symbols_:Int) (o3_2 o3_3:Nat) (o4t2:List Int) (o5:List (List Int)):DH:=[some (.cells [.i kd,.ints o1,.i st,.i oth,.i lo,.i hi,.ints rn,.i rl,.i spt]),none,some (.cells [.i 0,.i 0,.nils,.nils,.nils]),some (.cells [.i cells_,.i symbols_,.msl 4 1 0 o3_2,.msl 5 1 0 o3_3,.nils]),some (.ints o4t2),some (.arr 1 o5.length (zAz zAS o5))]
inductive zFE where
 | l1
 | l2 (x15:Int) (o2_2:Nat) (o3:List Int)
 | l3
 | l4 (o2_2:Nat) (o3:List Int)
 | l5 (x27:Int) (o0_1:Nat) (o1:List Int) (o3_3:Nat) (o4:List (List Int))
 | l6 (x27:Int) (o0_1:Nat) (o1:List Int) (o3_2 o3_3:Nat) (o4t2:List Int) (o5:List (List Int))
def zaW (n:Nat) (self:zFE→Option zAB) (cells_ symbols_ kd st oth lo hi:Int) (rn:List Int) (rl spt:Int):Option zAB:=
 bif (decide (0<symbols_)) then
  self (.l2 1 (([1]:List Int).length) ([1]:List Int))
 else
  self (.l3)
def zaV (n:Nat) (self:zFE→Option zAB) (cells_ symbols_ kd st oth lo hi:Int) (rn:List Int) (rl spt:Int) (x15:Int) (o2_2:Nat) (o3:List Int):Option zAB:=
 bif (decide (x15<symbols_)) then
  if R64 (x15+1)∧((0=0∧1=([(x15+1)]:List Int).length)∧(0=0∧o2_2=o3.length)∧o3.length+([(x15+1)]:List Int).length≤LIM) then
   self (.l2 (x15+1) (o3.length+([(x15+1)]:List Int).length) (o3++([(x15+1)]:List Int)))
  else none
 else
  self (.l4 o2_2 o3)
def zaU (n:Nat) (self:zFE→Option zAB) (cells_ symbols_ kd st oth lo hi:Int) (rn:List Int) (rl spt:Int):Option zAB:=
 bif (decide (0<cells_)) then
  bif (decide (1<cells_)) then
   self (.l5 1 (([0]:List Int).length) ([0]:List Int) (([([1]:List Int)]:List (List Int)).length) ([([1]:List Int)]:List (List Int)))
  else
   self (.l5 1 (([0]:List Int).length) ([0]:List Int) (([([]:List Int)]:List (List Int)).length) ([([]:List Int)]:List (List Int)))
 else
  some (⟨cells_,symbols_,([]:List Int),([]:List (List Int)),([(⟨kd,([]:List Int),st,oth,lo,hi,rn,rl,spt⟩:zAC)]:List zAC)⟩:zAB)
def zaT (n:Nat) (self:zFE→Option zAB) (cells_ symbols_ kd st oth lo hi:Int) (rn:List Int) (rl spt:Int) (o2_2:Nat) (o3:List Int):Option zAB:=
 bif (decide (0<cells_)) then
  bif (decide (1<cells_)) then
   self (.l6 1 (([0]:List Int).length) ([0]:List Int) o2_2 (([([1]:List Int)]:List (List Int)).length) o3 ([([1]:List Int)]:List (List Int)))
  else
   self (.l6 1 (([0]:List Int).length) ([0]:List Int) o2_2 (([([]:List Int)]:List (List Int)).length) o3 ([([]:List Int)]:List (List Int)))
 else
  if o2_2=o3.length then
   some (⟨cells_,symbols_,o3,([]:List (List Int)),([(⟨kd,([]:List Int),st,oth,lo,hi,rn,rl,spt⟩:zAC)]:List zAC)⟩:zAB)
  else none
def zaS (n:Nat) (self:zFE→Option zAB) (cells_ symbols_ kd st oth lo hi:Int) (rn:List Int) (rl spt:Int) (x27:Int) (o0_1:Nat) (o1:List Int) (o3_3:Nat) (o4:List (List Int)):Option zAB:=
 bif (decide (x27<cells_)) then
  bif (decide (x27>0)) then
   if R64 (x27-1)∧((0=0∧1=([(x27-1)]:List Int).length)∧0<([(x27-1)]:List Int).length∧([(x27-1)]:List Int).length≤LIM)∧R64 (x27+1) then
    bif (decide ((x27+1)<cells_)) then
     if (0=0∧1=([(x27+1)]:List Int).length)∧(0=0∧([(x27-1)]:List Int).length=([(x27-1)]:List Int).length)∧([(x27-1)]:List Int).length+([(x27+1)]:List Int).length≤LIM then
      if ([(x27-1)]:List Int).length+([(x27+1)]:List Int).length=(([(x27-1)]:List Int)++([(x27+1)]:List Int)).length then
       if o3_3=o4.length∧o4.length+([([(x27-1)]:List Int)++([(x27+1)]:List Int)]:List (List Int)).length≤LIM∧((0=0∧1=([x27]:List Int).length)∧(0=0∧o0_1=o1.length)∧o1.length+([x27]:List Int).length≤LIM)∧R64 (x27+1) then
        self (.l5 (x27+1) (o1.length+([x27]:List Int).length) (o1++([x27]:List Int)) (o4.length+([([(x27-1)]:List Int)++([(x27+1)]:List Int)]:List (List Int)).length) (o4++([([(x27-1)]:List Int)++([(x27+1)]:List Int)]:List (List Int))))
       else none
      else none
     else none
    else
     if o3_3=o4.length∧o4.length+([([(x27-1)]:List Int)]:List (List Int)).length≤LIM∧((0=0∧1=([x27]:List Int).length)∧(0=0∧o0_1=o1.length)∧o1.length+([x27]:List Int).length≤LIM)∧R64 (x27+1) then
      self (.l5 (x27+1) (o1.length+([x27]:List Int).length) (o1++([x27]:List Int)) (o4.length+([([(x27-1)]:List Int)]:List (List Int)).length) (o4++([([(x27-1)]:List Int)]:List (List Int))))
     else none
   else none
  else
   if R64 (x27+1) then
    bif (decide ((x27+1)<cells_)) then
     if (0=0∧1=([(x27+1)]:List Int).length)∧0<([(x27+1)]:List Int).length∧([(x27+1)]:List Int).length≤LIM then
      if o3_3=o4.length∧o4.length+([([(x27+1)]:List Int)]:List (List Int)).length≤LIM∧((0=0∧1=([x27]:List Int).length)∧(0=0∧o0_1=o1.length)∧o1.length+([x27]:List Int).length≤LIM)∧R64 (x27+1) then
       self (.l5 (x27+1) (o1.length+([x27]:List Int).length) (o1++([x27]:List Int)) (o4.length+([([(x27+1)]:List Int)]:List (List Int)).length) (o4++([([(x27+1)]:List Int)]:List (List Int))))
      else none
     else none
    else
     if o3_3=o4.length∧o4.length+([([]:List Int)]:List (List Int)).length≤LIM∧((0=0∧1=([x27]:List Int).length)∧(0=0∧o0_1=o1.length)∧o1.length+([x27]:List Int).length≤LIM) then
      self (.l5 (x27+1) (o1.length+([x27]:List Int).length) (o1++([x27]:List Int)) (o4.length+([([]:List Int)]:List (List Int)).length) (o4++([([]:List Int)]:List (List Int))))
     else none
   else none
 else
  if o0_1=o1.length then
   if o3_3=o4.length then
    some (⟨cells_,symbols_,([]:List Int),o4,([(⟨kd,o1,st,oth,lo,hi,rn,rl,spt⟩:zAC)]:List zAC)⟩:zAB)
   else none
  else none
def zaR (n:Nat) (self:zFE→Option zAB) (cells_ symbols_ kd st oth lo hi:Int) (rn:List Int) (rl spt:Int) (x27:Int) (o0_1:Nat) (o1:List Int) (o3_2 o3_3:Nat) (o4t2:List Int) (o5:List (List Int)):Option zAB:=
 bif (decide (x27<cells_)) then
  bif (decide (x27>0)) then
   if R64 (x27-1)∧((0=0∧1=([(x27-1)]:List Int).length)∧0<([(x27-1)]:List Int).length∧([(x27-1)]:List Int).length≤LIM)∧R64 (x27+1) then
    bif (decide ((x27+1)<cells_)) then
     if (0=0∧1=([(x27+1)]:List Int).length)∧(0=0∧([(x27-1)]:List Int).length=([(x27-1)]:List Int).length)∧([(x27-1)]:List Int).length+([(x27+1)]:List Int).length≤LIM then
      if ([(x27-1)]:List Int).length+([(x27+1)]:List Int).length=(([(x27-1)]:List Int)++([(x27+1)]:List Int)).length then
       if o3_3=o5.length∧o5.length+([([(x27-1)]:List Int)++([(x27+1)]:List Int)]:List (List Int)).length≤LIM∧((0=0∧1=([x27]:List Int).length)∧(0=0∧o0_1=o1.length)∧o1.length+([x27]:List Int).length≤LIM)∧R64 (x27+1) then
        self (.l6 (x27+1) (o1.length+([x27]:List Int).length) (o1++([x27]:List Int)) o3_2 (o5.length+([([(x27-1)]:List Int)++([(x27+1)]:List Int)]:List (List Int)).length) o4t2 (o5++([([(x27-1)]:List Int)++([(x27+1)]:List Int)]:List (List Int))))
       else none
      else none
     else none
    else
     if o3_3=o5.length∧o5.length+([([(x27-1)]:List Int)]:List (List Int)).length≤LIM∧((0=0∧1=([x27]:List Int).length)∧(0=0∧o0_1=o1.length)∧o1.length+([x27]:List Int).length≤LIM)∧R64 (x27+1) then
      self (.l6 (x27+1) (o1.length+([x27]:List Int).length) (o1++([x27]:List Int)) o3_2 (o5.length+([([(x27-1)]:List Int)]:List (List Int)).length) o4t2 (o5++([([(x27-1)]:List Int)]:List (List Int))))
     else none
   else none
  else
   if R64 (x27+1) then
    bif (decide ((x27+1)<cells_)) then
     if (0=0∧1=([(x27+1)]:List Int).length)∧0<([(x27+1)]:List Int).length∧([(x27+1)]:List Int).length≤LIM then
      if o3_3=o5.length∧o5.length+([([(x27+1)]:List Int)]:List (List Int)).length≤LIM∧((0=0∧1=([x27]:List Int).length)∧(0=0∧o0_1=o1.length)∧o1.length+([x27]:List Int).length≤LIM)∧R64 (x27+1) then
       self (.l6 (x27+1) (o1.length+([x27]:List Int).length) (o1++([x27]:List Int)) o3_2 (o5.length+([([(x27+1)]:List Int)]:List (List Int)).length) o4t2 (o5++([([(x27+1)]:List Int)]:List (List Int))))
      else none
     else none
    else
     if o3_3=o5.length∧o5.length+([([]:List Int)]:List (List Int)).length≤LIM∧((0=0∧1=([x27]:List Int).length)∧(0=0∧o0_1=o1.length)∧o1.length+([x27]:List Int).length≤LIM) then
      self (.l6 (x27+1) (o1.length+([x27]:List Int).length) (o1++([x27]:List Int)) o3_2 (o5.length+([([]:List Int)]:List (List Int)).length) o4t2 (o5++([([]:List Int)]:List (List Int))))
     else none
   else none
 else
  if o0_1=o1.length then
   if o3_2=o4t2.length∧o3_3=o5.length then
    some (⟨cells_,symbols_,o4t2,o5,([(⟨kd,o1,st,oth,lo,hi,rn,rl,spt⟩:zAC)]:List zAC)⟩:zAB)
   else none
  else none
def zaX (n:Nat) (self:zFE→Option zAB) (cells_ symbols_ kd st oth lo hi:Int) (rn:List Int) (rl spt:Int):Option zAB:=
 self (.l1)
def zFy (cells_ symbols_ kd st oth lo hi:Int) (rn:List Int) (rl spt:Int):Nat→zFE→Option zAB
 | 0,_=>none
 | n+1,.l1=>zaW n (zFy cells_ symbols_ kd st oth lo hi rn rl spt n) cells_ symbols_ kd st oth lo hi rn rl spt
 | n+1,.l2 x15 o2_2 o3=>zaV n (zFy cells_ symbols_ kd st oth lo hi rn rl spt n) cells_ symbols_ kd st oth lo hi rn rl spt x15 o2_2 o3
 | n+1,.l3=>zaU n (zFy cells_ symbols_ kd st oth lo hi rn rl spt n) cells_ symbols_ kd st oth lo hi rn rl spt
 | n+1,.l4 o2_2 o3=>zaT n (zFy cells_ symbols_ kd st oth lo hi rn rl spt n) cells_ symbols_ kd st oth lo hi rn rl spt o2_2 o3
 | n+1,.l5 x27 o0_1 o1 o3_3 o4=>zaS n (zFy cells_ symbols_ kd st oth lo hi rn rl spt n) cells_ symbols_ kd st oth lo hi rn rl spt x27 o0_1 o1 o3_3 o4
 | n+1,.l6 x27 o0_1 o1 o3_2 o3_3 o4t2 o5=>zaR n (zFy cells_ symbols_ kd st oth lo hi rn rl spt n) cells_ symbols_ kd st oth lo hi rn rl spt x27 o0_1 o1 o3_2 o3_3 o4t2 o5
def zH9 (n:Nat) (cells_ symbols_ kd st oth lo hi:Int) (rn:List Int) (rl spt:Int):Option zAB:=zaX n (zFy cells_ symbols_ kd st oth lo hi rn rl spt n) cells_ symbols_ kd st oth lo hi rn rl spt
def zaY (n B:Nat) (N:Yd 0) (cells_ symbols_ kd st oth lo hi:Int) (rn:List Int) (rl spt:Int) (r:zAB):zFE→Prop
 | .l1=>∀ m0:Nat,n≤m0→TW B N (FQ Tryz.f31 0 (.agg 5 (L1 (zAE r))) []) (toN m0 (zA9 (zAK Tryz.f31) 0 [])) ⟨frm 63 [(0,.i cells_),(5,.ref 0 0),(6,.ref 1 0),(7,.ref 2 0),(14,.i symbols_),(15,.i 0)],[some (.cells [.i kd,.nils,.i st,.i oth,.i lo,.i hi,.ints rn,.i rl,.i spt]),some (.cells [.i 0,.i 0,.nils,.nils,.nils]),some (.cells [.i cells_,.i symbols_,.nils,.nils,.nils])]⟩
 | .l2 x15 o2_2 o3=>∀ m0:Nat,n≤m0→TW B N (FQ Tryz.f31 0 (.agg 5 (L1 (zAE r))) []) (toN m0 (zA9 (zAK Tryz.f31) 0 [])) ⟨frm 63 [(0,.i cells_),(5,.ref 0 0),(6,.ref 1 0),(7,.ref 2 0),(14,.i symbols_),(15,.i x15)],[some (.cells [.i kd,.nils,.i st,.i oth,.i lo,.i hi,.ints rn,.i rl,.i spt]),some (.cells [.i 0,.i 0,.nils,.nils,.nils]),some (.cells [.i cells_,.i symbols_,.msl 3 1 0 o2_2,.nils,.nils]),some (.ints o3)]⟩
 | .l3=>∀ m0:Nat,n≤m0→TW B N (FQ Tryz.f31 0 (.agg 5 (L1 (zAE r))) []) (toN m0 (zA9 (zAK Tryz.f31) 2 [])) ⟨frm 63 [(0,.i cells_),(5,.ref 0 0),(6,.ref 1 0),(7,.ref 2 0),(26,.i cells_),(27,.i 0)],[some (.cells [.i kd,.nils,.i st,.i oth,.i lo,.i hi,.ints rn,.i rl,.i spt]),some (.cells [.i 0,.i 0,.nils,.nils,.nils]),some (.cells [.i cells_,.i symbols_,.nils,.nils,.nils])]⟩
 | .l4 o2_2 o3=>∀ m0:Nat,n≤m0→TW B N (FQ Tryz.f31 0 (.agg 5 (L1 (zAE r))) []) (toN m0 (zA9 (zAK Tryz.f31) 2 [])) ⟨frm 63 [(0,.i cells_),(5,.ref 0 0),(6,.ref 1 0),(7,.ref 2 0),(26,.i cells_),(27,.i 0)],[some (.cells [.i kd,.nils,.i st,.i oth,.i lo,.i hi,.ints rn,.i rl,.i spt]),some (.cells [.i 0,.i 0,.nils,.nils,.nils]),some (.cells [.i cells_,.i symbols_,.msl 3 1 0 o2_2,.nils,.nils]),some (.ints o3)]⟩
 | .l5 x27 o0_1 o1 o3_3 o4=>∀ m0:Nat,n≤m0→TW B N (FQ Tryz.f31 0 (.agg 5 (L1 (zAE r))) []) (toN m0 (zA9 (zAK Tryz.f31) 2 [])) ⟨frm 63 [(0,.i cells_),(5,.ref 0 0),(6,.ref 2 0),(7,.ref 3 0),(26,.i cells_),(27,.i x27)],[some (.cells [.i kd,.msl 1 1 0 o0_1,.i st,.i oth,.i lo,.i hi,.ints rn,.i rl,.i spt]),some (.ints o1),some (.cells [.i 0,.i 0,.nils,.nils,.nils]),some (.cells [.i cells_,.i symbols_,.nils,.msl 4 1 0 o3_3,.nils]),some (.arr 1 o4.length (zAz zAS o4))]⟩
 | .l6 x27 o0_1 o1 o3_2 o3_3 o4t2 o5=>∀ m0:Nat,n≤m0→TW B N (FQ Tryz.f31 0 (.agg 5 (L1 (zAE r))) []) (toN m0 (zA9 (zAK Tryz.f31) 2 [])) ⟨frm 63 [(0,.i cells_),(5,.ref 0 0),(6,.ref 2 0),(7,.ref 3 0),(26,.i cells_),(27,.i x27)],[some (.cells [.i kd,.msl 1 1 0 o0_1,.i st,.i oth,.i lo,.i hi,.ints rn,.i rl,.i spt]),some (.ints o1),some (.cells [.i 0,.i 0,.nils,.nils,.nils]),some (.cells [.i cells_,.i symbols_,.msl 4 1 0 o3_2,.msl 5 1 0 o3_3,.nils]),some (.ints o4t2),some (.arr 1 o5.length (zAz zAS o5))]⟩
theorem zXo (B:Nat) (N:Yd 0) (cells_ symbols_ kd st oth lo hi:Int) (rn:List Int) (rl spt:Int):Al (zFy cells_ symbols_ kd st oth lo hi rn rl spt) (zaY · B N cells_ symbols_ kd st oth lo hi rn rl spt):=ia (fun _=>rfl) fun n hself pt r h=>by
 cases pt
 case l1=>
  intro m0 hm0
  refine rd hm0 fun m0 hm0=>?_
  revert r
  apply gO
  exact bi 16 (jg (by decide:(0=0∧1=([1]:List Int).length)∧0<([1]:List Int).length∧([1]:List Int).length≤LIM) (jt (lG zAH [0,1,2,4] (hself _ _ · m0 hm0)))) (lN zAH [0,1,2] (hself _ _ · n Nat.le.refl))
 case l2 x15 o2_2 o3=>
  intro m0 hm0
  refine rd hm0 fun m0 hm0=>?_
  revert r
  apply gO
  exact bi 16 (gc (gn fun g0=>jw 21 g0 (gi (jt (jw 25 g0 (lG zAH [0,1,2,5] (hself _ _ · m0 hm0))))))) (lN zAH [0,1,2,3] (hself _ _ · n Nat.le.refl))
 case l3=>
  intro m0 hm0
  refine rd hm0 fun m0 hm0=>?_
  revert r
  apply gO
  exact bi 28 (bi 40 (jg (by decide:(0=0∧1=([1]:List Int).length)∧0<([1]:List Int).length∧([1]:List Int).length≤LIM) (fun p r h=>by
   refine gz (zAA 15 zAH) [0,1,2,4] p [3] (H0.g (Eq.refl (([1]:List Int).length))) (zEd (zAK Tryz.f31) 15 [m0]) (frm 63 [(0,.i cells_),(5,.ref 0 0),(6,.ref 1 0),(7,.ref 2 0),(9,.i 0),(10,.ints ([1]:List Int)),(26,.i cells_),(27,.i 0)]) (zVG kd st oth lo hi rn rl spt cells_ symbols_) ?_
   revert r
   apply gO
   exact ja 49 4 1 (zAT (c:=zAS) (L:=([([1]:List Int)]:List (List Int))) (vals:=[.ints ([1]:List Int)]) rfl ⟨⟨_,rfl,⟨zAD,trivial⟩⟩,trivial⟩) (jg (And.intro (And.intro (And.intro (Eq.refl 0) (by decide:1=([([1]:List Int)]:List (List Int)).length)) (zQy zAS ([([1]:List Int)]:List (List Int)) (([([1]:List Int)]:List (List Int)).length) 1 fun _=>⟨rfl,rfl⟩)) (And.intro (by decide:0<([([1]:List Int)]:List (List Int)).length) (by decide:([([1]:List Int)]:List (List Int)).length≤LIM))) (jt (jg (by decide:(0=0∧1=([0]:List Int).length)∧0<([0]:List Int).length∧([0]:List Int).length≤LIM) (jt (lG zAH [0,7,1,2,5] (hself _ _ · m0 hm0)))))))) (ja 49 3 1 (zAT (c:=zAS) (L:=([([]:List Int)]:List (List Int))) (vals:=[.nils]) rfl ⟨⟨_,rfl,⟨DLe.ints_nil,trivial⟩⟩,trivial⟩) (jg (And.intro (And.intro (And.intro (Eq.refl 0) (by decide:1=([([]:List Int)]:List (List Int)).length)) (zQy zAS ([([]:List Int)]:List (List Int)) (([([]:List Int)]:List (List Int)).length) 1 fun _=>⟨rfl,rfl⟩)) (And.intro (by decide:0<([([]:List Int)]:List (List Int)).length) (by decide:([([]:List Int)]:List (List Int)).length≤LIM))) (jt (jg (by decide:(0=0∧1=([0]:List Int).length)∧0<([0]:List Int).length∧([0]:List Int).length≤LIM) (jt (lG zAH [0,6,1,2,4] (hself _ _ · m0 hm0)))))))) (ja 60 3 9 (zAT (c:=zAF) (L:=([(⟨kd,([]:List Int),st,oth,lo,hi,rn,rl,spt⟩:zAC)]:List zAC)) (vals:=[.agg 9 (L1 [.i kd,.nils,.i st,.i oth,.i lo,.i hi,.ints rn,.i rl,.i spt])]) rfl ⟨⟨_,rfl,⟨zAD,DLe.ints_nil,zAD,zAD,zAD,zAD,zAD,zAD,zAD,trivial⟩⟩,trivial⟩) (jt (jt (lF fun p=>el zAH [6] [1,3] p [1] (H0.g (Eq.refl 1)) [.agg 5 (L1 [.i cells_,.i symbols_,.nils,.nils,.sl 9 (([(⟨kd,([]:List Int),st,oth,lo,hi,rn,rl,spt⟩:zAC)]:List zAC).length) (zAz zAF ([(⟨kd,([]:List Int),st,oth,lo,hi,rn,rl,spt⟩:zAC)]:List zAC))])] (DLe.aggL (l:=[.i cells_,.i symbols_,.nils,.nils,.sl 9 (([(⟨kd,([]:List Int),st,oth,lo,hi,rn,rl,spt⟩:zAC)]:List zAC).length) (zAz zAF ([(⟨kd,([]:List Int),st,oth,lo,hi,rn,rl,spt⟩:zAC)]:List zAC))]) (l':=[.i cells_,.i symbols_,.ints ([]:List Int),.sl 1 (([]:List (List Int)).length) (zAz zAS ([]:List (List Int))),.sl 9 (([(⟨kd,([]:List Int),st,oth,lo,hi,rn,rl,spt⟩:zAC)]:List zAC).length) (zAz zAF ([(⟨kd,([]:List Int),st,oth,lo,hi,rn,rl,spt⟩:zAC)]:List zAC))]) rfl ⟨zAD,zAD,DLe.ints_nil,(DLe.sl_nil _ _),zAD,trivial⟩)))))
 case l4 o2_2 o3=>
  intro m0 hm0
  refine rd hm0 fun m0 hm0=>?_
  revert r
  apply gO
  exact bi 28 (bi 40 (jg (by decide:(0=0∧1=([1]:List Int).length)∧0<([1]:List Int).length∧([1]:List Int).length≤LIM) (fun p r h=>by
   refine gz (zAA 15 zAH) [0,1,2,3,5] p [4] (H0.g (Eq.refl (([1]:List Int).length))) (zEd (zAK Tryz.f31) 15 [m0]) (frm 63 [(0,.i cells_),(5,.ref 0 0),(6,.ref 1 0),(7,.ref 2 0),(9,.i 0),(10,.ints ([1]:List Int)),(26,.i cells_),(27,.i 0)]) (zVF kd st oth lo hi rn rl spt cells_ symbols_ o2_2 o3) ?_
   revert r
   apply gO
   exact ja 49 5 1 (zAT (c:=zAS) (L:=([([1]:List Int)]:List (List Int))) (vals:=[.ints ([1]:List Int)]) rfl ⟨⟨_,rfl,⟨zAD,trivial⟩⟩,trivial⟩) (jg (And.intro (And.intro (And.intro (Eq.refl 0) (by decide:1=([([1]:List Int)]:List (List Int)).length)) (zQy zAS ([([1]:List Int)]:List (List Int)) (([([1]:List Int)]:List (List Int)).length) 1 fun _=>⟨rfl,rfl⟩)) (And.intro (by decide:0<([([1]:List Int)]:List (List Int)).length) (by decide:([([1]:List Int)]:List (List Int)).length≤LIM))) (jt (jg (by decide:(0=0∧1=([0]:List Int).length)∧0<([0]:List Int).length∧([0]:List Int).length≤LIM) (jt (lG zAH [0,8,1,2,3,6] (hself _ _ · m0 hm0)))))))) (ja 49 4 1 (zAT (c:=zAS) (L:=([([]:List Int)]:List (List Int))) (vals:=[.nils]) rfl ⟨⟨_,rfl,⟨DLe.ints_nil,trivial⟩⟩,trivial⟩) (jg (And.intro (And.intro (And.intro (Eq.refl 0) (by decide:1=([([]:List Int)]:List (List Int)).length)) (zQy zAS ([([]:List Int)]:List (List Int)) (([([]:List Int)]:List (List Int)).length) 1 fun _=>⟨rfl,rfl⟩)) (And.intro (by decide:0<([([]:List Int)]:List (List Int)).length) (by decide:([([]:List Int)]:List (List Int)).length≤LIM))) (jt (jg (by decide:(0=0∧1=([0]:List Int).length)∧0<([0]:List Int).length∧([0]:List Int).length≤LIM) (jt (lG zAH [0,7,1,2,3,5] (hself _ _ · m0 hm0)))))))) (ja 60 4 9 (zAT (c:=zAF) (L:=([(⟨kd,([]:List Int),st,oth,lo,hi,rn,rl,spt⟩:zAC)]:List zAC)) (vals:=[.agg 9 (L1 [.i kd,.nils,.i st,.i oth,.i lo,.i hi,.ints rn,.i rl,.i spt])]) rfl ⟨⟨_,rfl,⟨zAD,DLe.ints_nil,zAD,zAD,zAD,zAD,zAD,zAD,zAD,trivial⟩⟩,trivial⟩) (jt (jt (gn fun g0=>lF fun p=>el zAH [6] [1,3,4] p [1,2] (H0.g g0 |>.g (Eq.refl 1)) [.agg 5 (L1 [.i cells_,.i symbols_,.ints o3,.nils,.sl 9 (([(⟨kd,([]:List Int),st,oth,lo,hi,rn,rl,spt⟩:zAC)]:List zAC).length) (zAz zAF ([(⟨kd,([]:List Int),st,oth,lo,hi,rn,rl,spt⟩:zAC)]:List zAC))])] (DLe.aggL (l:=[.i cells_,.i symbols_,.ints o3,.nils,.sl 9 (([(⟨kd,([]:List Int),st,oth,lo,hi,rn,rl,spt⟩:zAC)]:List zAC).length) (zAz zAF ([(⟨kd,([]:List Int),st,oth,lo,hi,rn,rl,spt⟩:zAC)]:List zAC))]) (l':=[.i cells_,.i symbols_,.ints o3,.sl 1 (([]:List (List Int)).length) (zAz zAS ([]:List (List Int))),.sl 9 (([(⟨kd,([]:List Int),st,oth,lo,hi,rn,rl,spt⟩:zAC)]:List zAC).length) (zAz zAF ([(⟨kd,([]:List Int),st,oth,lo,hi,rn,rl,spt⟩:zAC)]:List zAC))]) rfl ⟨zAD,zAD,zAD,(DLe.sl_nil _ _),zAD,trivial⟩)))))
 case l5 x27 o0_1 o1 o3_3 o4=>
  intro m0 hm0
  refine rd hm0 fun m0 hm0=>?_
  revert r
  apply gO
  exact bi 28 (bi 31 (gc (gw 34 (gc (gi (gn fun g2=>jw 38 g2 (bi 40 (jw 43 g2 (gi (gn fun g4=>fun p r h=>by
   refine gz (zAA 15 zAH) [0,1,2,3,4,8] p [5] (H0.g g4) (zEd (zAK Tryz.f31) 15 [m0]) (frm 63 [(0,.i cells_),(5,.ref 0 0),(6,.ref 2 0),(7,.ref 3 0),(9,.i x27),(10,.ints (([(x27-1)]:List Int)++([(x27+1)]:List Int))),(26,.i cells_),(27,.i x27)]) (zIy kd o0_1 st oth lo hi rn rl spt o1 cells_ symbols_ o3_3 o4) ?_
   revert r
   apply gO
   exact ja 49 6 1 (zAT (c:=zAS) (L:=([([(x27-1)]:List Int)++([(x27+1)]:List Int)]:List (List Int))) (vals:=[.ints (([(x27-1)]:List Int)++([(x27+1)]:List Int))]) rfl ⟨⟨_,rfl,⟨zAD,trivial⟩⟩,trivial⟩) (gc (gn fun g5=>gc (gn fun g6=>jg (And.intro (And.intro (And.intro (Eq.refl 0) (Eq.refl 1)) (zQy zAS ([([(x27-1)]:List Int)++([(x27+1)]:List Int)]:List (List Int)) (([([(x27-1)]:List Int)++([(x27+1)]:List Int)]:List (List Int)).length) 1 fun _=>⟨rfl,rfl⟩)) (And.intro (And.intro (Eq.refl 0) g5) g6)) (ja 50 7 1 (zCP (enc:=(zYa zAS)) (L:=o4) (L':=([([(x27-1)]:List Int)++([(x27+1)]:List Int)]:List (List Int))) rfl rfl fun _ _ _ _=>zAD) (jt (gc (gi (jt (gw 58 (lG zAH [0,9,2,3,7] (hself _ _ · m0 hm0)))))))))))))) (fun p r h=>by
   refine gz (zAA 15 zAH) [0,1,2,3,4,6] p [5] (H0.g (Eq.refl (([(x27-1)]:List Int).length))) (zEd (zAK Tryz.f31) 15 [m0]) (frm 63 [(0,.i cells_),(5,.ref 0 0),(6,.ref 2 0),(7,.ref 3 0),(9,.i x27),(10,.ints ([(x27-1)]:List Int)),(26,.i cells_),(27,.i x27)]) (zIy kd o0_1 st oth lo hi rn rl spt o1 cells_ symbols_ o3_3 o4) ?_
   revert r
   apply gO
   exact ja 49 6 1 (zAT (c:=zAS) (L:=([([(x27-1)]:List Int)]:List (List Int))) (vals:=[.ints ([(x27-1)]:List Int)]) rfl ⟨⟨_,rfl,⟨zAD,trivial⟩⟩,trivial⟩) (gc (gn fun g3=>gc (gn fun g4=>jg (And.intro (And.intro (And.intro (Eq.refl 0) (Eq.refl 1)) (zQy zAS ([([(x27-1)]:List Int)]:List (List Int)) (([([(x27-1)]:List Int)]:List (List Int)).length) 1 fun _=>⟨rfl,rfl⟩)) (And.intro (And.intro (Eq.refl 0) g3) g4)) (ja 50 7 1 (zCP (enc:=(zYa zAS)) (L:=o4) (L':=([([(x27-1)]:List Int)]:List (List Int))) rfl rfl fun _ _ _ _=>zAD) (jt (gc (gi (jt (gw 58 (lG zAH [0,9,2,3,7] (hself _ _ · m0 hm0)))))))))))))))))) (gn fun g0=>jw 38 g0 (bi 40 (jw 43 g0 (gi (fun p r h=>by
   refine gz (zAA 15 zAH) [0,1,2,3,4,6] p [5] (H0.g (Eq.refl (([(x27+1)]:List Int).length))) (zEd (zAK Tryz.f31) 15 [m0]) (frm 63 [(0,.i cells_),(5,.ref 0 0),(6,.ref 2 0),(7,.ref 3 0),(9,.i x27),(10,.ints ([(x27+1)]:List Int)),(26,.i cells_),(27,.i x27)]) (zIy kd o0_1 st oth lo hi rn rl spt o1 cells_ symbols_ o3_3 o4) ?_
   revert r
   apply gO
   exact ja 49 6 1 (zAT (c:=zAS) (L:=([([(x27+1)]:List Int)]:List (List Int))) (vals:=[.ints ([(x27+1)]:List Int)]) rfl ⟨⟨_,rfl,⟨zAD,trivial⟩⟩,trivial⟩) (gc (gn fun g2=>gc (gn fun g3=>jg (And.intro (And.intro (And.intro (Eq.refl 0) (Eq.refl 1)) (zQy zAS ([([(x27+1)]:List Int)]:List (List Int)) (([([(x27+1)]:List Int)]:List (List Int)).length) 1 fun _=>⟨rfl,rfl⟩)) (And.intro (And.intro (Eq.refl 0) g2) g3)) (ja 50 7 1 (zCP (enc:=(zYa zAS)) (L:=o4) (L':=([([(x27+1)]:List Int)]:List (List Int))) rfl rfl fun _ _ _ _=>zAD) (jt (gc (gi (jt (gw 58 (lG zAH [0,9,2,3,7] (hself _ _ · m0 hm0)))))))))))))) (ja 49 5 1 (zAT (c:=zAS) (L:=([([]:List Int)]:List (List Int))) (vals:=[.nils]) rfl ⟨⟨_,rfl,⟨DLe.ints_nil,trivial⟩⟩,trivial⟩) (gc (gn fun g1=>gc (gn fun g2=>jg (And.intro (And.intro (And.intro (Eq.refl 0) (by decide:1=([([]:List Int)]:List (List Int)).length)) (zQy zAS ([([]:List Int)]:List (List Int)) (([([]:List Int)]:List (List Int)).length) 1 fun _=>⟨rfl,rfl⟩)) (And.intro (And.intro (Eq.refl 0) g1) g2)) (ja 50 6 1 (zCP (enc:=(zYa zAS)) (L:=o4) (L':=([([]:List Int)]:List (List Int))) rfl rfl fun _ _ _ _=>zAD) (jt (gi (jt (jw 58 g0 (lG zAH [0,8,2,3,6] (hself _ _ · m0 hm0)))))))))))))) (gn fun g0=>fun p r h=>by
   refine gz (zAA 18 zAH) [0,1,2,3,4] p [1] (H0.g g0) (zEd (zAK Tryz.f31) 18 []) (frm 63 [(5,.ref 0 0),(6,.ref 2 0),(7,.ref 3 0)]) (zVE kd o1 st oth lo hi rn rl spt cells_ symbols_ o3_3 o4) ?_
   revert r
   apply gO
   exact ja 60 5 9 (zAT (c:=zAF) (L:=([(⟨kd,o1,st,oth,lo,hi,rn,rl,spt⟩:zAC)]:List zAC)) (vals:=[.agg 9 (L1 [.i kd,.ints o1,.i st,.i oth,.i lo,.i hi,.ints rn,.i rl,.i spt])]) rfl ⟨⟨_,rfl,⟨zAD,zAD,zAD,zAD,zAD,zAD,zAD,zAD,zAD,trivial⟩⟩,trivial⟩) (jt (jt (gn fun g1=>lF fun p=>el zAH [6] [2,4,5] p [1,2] (H0.g g1 |>.g (Eq.refl 1)) [.agg 5 (L1 [.i cells_,.i symbols_,.nils,.sl 1 o4.length (zAz zAS o4),.sl 9 (([(⟨kd,o1,st,oth,lo,hi,rn,rl,spt⟩:zAC)]:List zAC).length) (zAz zAF ([(⟨kd,o1,st,oth,lo,hi,rn,rl,spt⟩:zAC)]:List zAC))])] (DLe.aggL (l:=[.i cells_,.i symbols_,.nils,.sl 1 o4.length (zAz zAS o4),.sl 9 (([(⟨kd,o1,st,oth,lo,hi,rn,rl,spt⟩:zAC)]:List zAC).length) (zAz zAF ([(⟨kd,o1,st,oth,lo,hi,rn,rl,spt⟩:zAC)]:List zAC))]) (l':=[.i cells_,.i symbols_,.ints ([]:List Int),.sl 1 o4.length (zAz zAS o4),.sl 9 (([(⟨kd,o1,st,oth,lo,hi,rn,rl,spt⟩:zAC)]:List zAC).length) (zAz zAF ([(⟨kd,o1,st,oth,lo,hi,rn,rl,spt⟩:zAC)]:List zAC))]) rfl ⟨zAD,zAD,DLe.ints_nil,zAD,zAD,trivial⟩)))))
 case l6 x27 o0_1 o1 o3_2 o3_3 o4t2 o5=>
  intro m0 hm0
  refine rd hm0 fun m0 hm0=>?_
  revert r
  apply gO
  exact bi 28 (bi 31 (gc (gw 34 (gc (gi (gn fun g2=>jw 38 g2 (bi 40 (jw 43 g2 (gi (gn fun g4=>fun p r h=>by
   refine gz (zAA 15 zAH) [0,1,2,3,4,5,9] p [6] (H0.g g4) (zEd (zAK Tryz.f31) 15 [m0]) (frm 63 [(0,.i cells_),(5,.ref 0 0),(6,.ref 2 0),(7,.ref 3 0),(9,.i x27),(10,.ints (([(x27-1)]:List Int)++([(x27+1)]:List Int))),(26,.i cells_),(27,.i x27)]) (zIx kd o0_1 st oth lo hi rn rl spt o1 cells_ symbols_ o3_2 o3_3 o4t2 o5) ?_
   revert r
   apply gO
   exact ja 49 7 1 (zAT (c:=zAS) (L:=([([(x27-1)]:List Int)++([(x27+1)]:List Int)]:List (List Int))) (vals:=[.ints (([(x27-1)]:List Int)++([(x27+1)]:List Int))]) rfl ⟨⟨_,rfl,⟨zAD,trivial⟩⟩,trivial⟩) (gc (gn fun g5=>gc (gn fun g6=>jg (And.intro (And.intro (And.intro (Eq.refl 0) (Eq.refl 1)) (zQy zAS ([([(x27-1)]:List Int)++([(x27+1)]:List Int)]:List (List Int)) (([([(x27-1)]:List Int)++([(x27+1)]:List Int)]:List (List Int)).length) 1 fun _=>⟨rfl,rfl⟩)) (And.intro (And.intro (Eq.refl 0) g5) g6)) (ja 50 8 1 (zCP (enc:=(zYa zAS)) (L:=o5) (L':=([([(x27-1)]:List Int)++([(x27+1)]:List Int)]:List (List Int))) rfl rfl fun _ _ _ _=>zAD) (jt (gc (gi (jt (gw 58 (lG zAH [0,10,2,3,4,8] (hself _ _ · m0 hm0)))))))))))))) (fun p r h=>by
   refine gz (zAA 15 zAH) [0,1,2,3,4,5,7] p [6] (H0.g (Eq.refl (([(x27-1)]:List Int).length))) (zEd (zAK Tryz.f31) 15 [m0]) (frm 63 [(0,.i cells_),(5,.ref 0 0),(6,.ref 2 0),(7,.ref 3 0),(9,.i x27),(10,.ints ([(x27-1)]:List Int)),(26,.i cells_),(27,.i x27)]) (zIx kd o0_1 st oth lo hi rn rl spt o1 cells_ symbols_ o3_2 o3_3 o4t2 o5) ?_
   revert r
   apply gO
   exact ja 49 7 1 (zAT (c:=zAS) (L:=([([(x27-1)]:List Int)]:List (List Int))) (vals:=[.ints ([(x27-1)]:List Int)]) rfl ⟨⟨_,rfl,⟨zAD,trivial⟩⟩,trivial⟩) (gc (gn fun g3=>gc (gn fun g4=>jg (And.intro (And.intro (And.intro (Eq.refl 0) (Eq.refl 1)) (zQy zAS ([([(x27-1)]:List Int)]:List (List Int)) (([([(x27-1)]:List Int)]:List (List Int)).length) 1 fun _=>⟨rfl,rfl⟩)) (And.intro (And.intro (Eq.refl 0) g3) g4)) (ja 50 8 1 (zCP (enc:=(zYa zAS)) (L:=o5) (L':=([([(x27-1)]:List Int)]:List (List Int))) rfl rfl fun _ _ _ _=>zAD) (jt (gc (gi (jt (gw 58 (lG zAH [0,10,2,3,4,8] (hself _ _ · m0 hm0)))))))))))))))))) (gn fun g0=>jw 38 g0 (bi 40 (jw 43 g0 (gi (fun p r h=>by
   refine gz (zAA 15 zAH) [0,1,2,3,4,5,7] p [6] (H0.g (Eq.refl (([(x27+1)]:List Int).length))) (zEd (zAK Tryz.f31) 15 [m0]) (frm 63 [(0,.i cells_),(5,.ref 0 0),(6,.ref 2 0),(7,.ref 3 0),(9,.i x27),(10,.ints ([(x27+1)]:List Int)),(26,.i cells_),(27,.i x27)]) (zIx kd o0_1 st oth lo hi rn rl spt o1 cells_ symbols_ o3_2 o3_3 o4t2 o5) ?_
   revert r
   apply gO
   exact ja 49 7 1 (zAT (c:=zAS) (L:=([([(x27+1)]:List Int)]:List (List Int))) (vals:=[.ints ([(x27+1)]:List Int)]) rfl ⟨⟨_,rfl,⟨zAD,trivial⟩⟩,trivial⟩) (gc (gn fun g2=>gc (gn fun g3=>jg (And.intro (And.intro (And.intro (Eq.refl 0) (Eq.refl 1)) (zQy zAS ([([(x27+1)]:List Int)]:List (List Int)) (([([(x27+1)]:List Int)]:List (List Int)).length) 1 fun _=>⟨rfl,rfl⟩)) (And.intro (And.intro (Eq.refl 0) g2) g3)) (ja 50 8 1 (zCP (enc:=(zYa zAS)) (L:=o5) (L':=([([(x27+1)]:List Int)]:List (List Int))) rfl rfl fun _ _ _ _=>zAD) (jt (gc (gi (jt (gw 58 (lG zAH [0,10,2,3,4,8] (hself _ _ · m0 hm0)))))))))))))) (ja 49 6 1 (zAT (c:=zAS) (L:=([([]:List Int)]:List (List Int))) (vals:=[.nils]) rfl ⟨⟨_,rfl,⟨DLe.ints_nil,trivial⟩⟩,trivial⟩) (gc (gn fun g1=>gc (gn fun g2=>jg (And.intro (And.intro (And.intro (Eq.refl 0) (by decide:1=([([]:List Int)]:List (List Int)).length)) (zQy zAS ([([]:List Int)]:List (List Int)) (([([]:List Int)]:List (List Int)).length) 1 fun _=>⟨rfl,rfl⟩)) (And.intro (And.intro (Eq.refl 0) g1) g2)) (ja 50 7 1 (zCP (enc:=(zYa zAS)) (L:=o5) (L':=([([]:List Int)]:List (List Int))) rfl rfl fun _ _ _ _=>zAD) (jt (gi (jt (jw 58 g0 (lG zAH [0,9,2,3,4,7] (hself _ _ · m0 hm0)))))))))))))) (gn fun g0=>fun p r h=>by
   refine gz (zAA 18 zAH) [0,1,2,3,4,5] p [1] (H0.g g0) (zEd (zAK Tryz.f31) 18 []) (frm 63 [(5,.ref 0 0),(6,.ref 2 0),(7,.ref 3 0)]) (zVD kd o1 st oth lo hi rn rl spt cells_ symbols_ o3_2 o3_3 o4t2 o5) ?_
   revert r
   apply gO
   exact ja 60 6 9 (zAT (c:=zAF) (L:=([(⟨kd,o1,st,oth,lo,hi,rn,rl,spt⟩:zAC)]:List zAC)) (vals:=[.agg 9 (L1 [.i kd,.ints o1,.i st,.i oth,.i lo,.i hi,.ints rn,.i rl,.i spt])]) rfl ⟨⟨_,rfl,⟨zAD,zAD,zAD,zAD,zAD,zAD,zAD,zAD,zAD,trivial⟩⟩,trivial⟩) (jt (jt (gc (gn fun g1=>gn fun g2=>lF fun p=>ez zAH [6] [2,4,5,6] p [1,2,3] (H0.g g1 |>.g g2 |>.g (Eq.refl 1)))))))
theorem zBr {n:Nat} {cells_ symbols_ kd st oth lo hi:Int} {rn:List Int} {rl spt:Int} {r:zAB} (h:zH9 n cells_ symbols_ kd st oth lo hi rn rl spt=some r):EQ 31 [.i cells_,.i symbols_,.agg 9 (L1 [.i kd,.nils,.i st,.i oth,.i lo,.i hi,.ints rn,.i rl,.i spt])] [] (.agg 5 (L1 (zAE r))) [] true:=by
 refine ot Tryz.func31 fun B N=>?_
 revert r
 apply gO
 exact jt (lN zAH [0,1,2] ((zXo B N cells_ symbols_ kd st oth lo hi rn rl spt n) _ _ · n Nat.le.refl))
end Go.Proofs.YtekkngkphejfcaaGreatDoor
namespace Go.Proofs.YtekkngkphejfcaaGreatDoor
open Go.RowKit
set_option maxRecDepth 100000
set_option maxHeartbeats 40000000
def za4 (n:Nat) (s_:List Int):Option Unit:=
 some ()
def zeC (n:Nat) (s_:List Int):Option Unit:=za4 n s_
theorem za3 {n:Nat} (s_:List Int) {r:Unit} (h:zeC n s_=some r):EQ 85 [.ints s_] [] (.fn 107 1 (L1 [.ref 0 0])) [some (.cells [.ints s_])] true:=by
 refine ot Tryz.func85 fun B N=>?_
 revert r
 apply gO
 exact lE zAH [2] [0]
inductive zNE where
 | l1 (x3:Int)
def zHL (n:Nat) (self:zNE→Option (List (Int×Int))) (s_:List Int) (x3:Int):Option (List (Int×Int)):=
 bif (decide (x3≥0)) then
  if 0≤x3∧x3<(s_.length:Int) then
   Option.map (fun l=>(x3,s_.getD ((x3).toNat) 0)::l) (
    if R64 (x3-1) then
     self (.l1 (x3-1))
    else none)
  else none
 else
  some []
def zSA (n:Nat) (self:zNE→Option (List (Int×Int))) (s_:List Int):Option (List (Int×Int)):=
 if R64 ((s_.length:Int)-1) then
  self (.l1 ((s_.length:Int)-1))
 else none
def zJl (s_:List Int):Nat→zNE→Option (List (Int×Int))
 | 0,_=>none
 | n+1,.l1 x3=>zHL n (zJl s_ n) s_ x3
def back (n:Nat) (s_:List Int):Option (List (Int×Int)):=zSA n (zJl s_ n) s_
def zSB (C:ItC Tryz.prog GG) (n:Nat) (s_:List Int) (r:List (Int×Int)):zNE→Prop
 | .l1 x3=>∀ m0:Nat,n≤m0→∀ i:Nat,i≤C.encs.length→C.encs.drop i=r.map zR3→TrG Tryz.prog GG Fence.wide none 1 (C.Y 1 i) (C.Q 1) (toN m0 (zA9 (zAK Tryz.f107) 0 [])) ⟨frm 19 [(0,.yl C.l),(1,.ref 0 0),(3,.i x3)],[some (.cells [.ints s_])]⟩
theorem zcN (C:ItC Tryz.prog GG) (n:Nat) (self:zNE→Option (List (Int×Int))) (s_:List Int) (hself: ∀ pt r,self pt=some r→zSB C n s_ r pt) (x3:Int) (r:List (Int×Int)) (h:zHL n self s_ x3=some r):zSB C (n+1) s_ r (.l1 x3):=by
 intro m0 hm0
 intro i hi hd
 refine rd hm0 fun m0 hm0=>?_
 unfold zHL at h
 have p:=H0
 rcases zFI h with ⟨c0,h⟩ | ⟨c0,h⟩
 ·have p:=H0.b 8 c0
  refine gs (zAA 3 zAH) [0] p (zEd (zAK Tryz.f107) 3 [m0]) (frm 19 [(0,.yl C.l),(1,.ref 0 0),(3,.i x3)]) [some (.cells [.ints s_])] ?_
  obtain ⟨g0,h⟩:=zAv h
  have p:=H0.g g0
  obtain ⟨r,h2,rfl⟩:=zXh h
  clear h
  have h:=h2
  clear h2
  obtain ⟨hx,hi,hd⟩:=zTR hd
  refine TrG.y (ops:=zBa Tryz.f107 3) HC.x 6 [0,1,3,18] [0] p (x:=zR3 (x3,s_.getD ((x3).toNat) 0)) (frm 19 [(0,.yl C.l),(1,.ref 0 0),(3,.i x3),(18,.bool false)]) [some (.cells [.ints s_])] (frm 19 [(0,.yl C.l),(1,.ref 0 0),(3,.i x3),(18,.bool true)]) [some (.cells [.ints s_])] (by kernel_rfl) (by kernel_rfl) (by kernel_rfl) hx (by kernel_rfl) ?_ ?_
  ·generalize i+1=i at hi hd ⊢
   obtain ⟨g1,h⟩:=zAv h
   have p:=H0.w 10 g1
   exact gg zAH [0] p (hself _ _ h m0 hm0 i hi hd)
  ·exact TrI.e HC.x zAH 6 H0 (by kernel_rfl) (.inr rfl)
 ·have p:=H0.b 8 c0
  cases h
  exact TrI.e HC.x zAH 10 p (by kernel_rfl) (.inl (by rw [zR5 hi hd]))
theorem zTd (C:ItC Tryz.prog GG) (s_:List Int): ∀ (n:Nat) (pt:zNE) (r:List (Int×Int)),zJl s_ n pt=some r→zSB C n s_ r pt
 | 0,_,_,h=>by cases h
 | n+1,.l1 x3,r,h=>zcN C n (zJl s_ n) s_ (zTd C s_ n) x3 r h
theorem zcO {n:Nat} (s_:List Int) {r:List (Int×Int)} (h:back n s_=some r) (C:ItC Tryz.prog GG) (hC:C.encs=r.map zR3):TrG Tryz.prog GG Fence.wide none 1 (C.Y 1 0) (C.Q 1) [.code (zAK Tryz.f107)] ⟨frm 19 [(0,.yl C.l),(1,.ref 0 0)],[some (.cells [.ints s_])]⟩:=by
 suffices H: ∀ i:Nat,i≤C.encs.length→C.encs.drop i=r.map zR3→TrG Tryz.prog GG Fence.wide none 1 (C.Y 1 i) (C.Q 1) [.code (zAK Tryz.f107)] ⟨frm 19 [(0,.yl C.l),(1,.ref 0 0)],[some (.cells [.ints s_])]⟩ from H 0 (Nat.zero_le _) (by rw [List.drop_zero];exact hC)
 intro i hi hd
 have hself:=zTd C s_ n
 unfold back at h
 generalize zJl s_ n=self at h hself
 unfold zSA at h
 obtain ⟨g0,h⟩:=zAv h
 have p:=H0.w 6 g0
 exact gg zAH [0] p (en n (hself _ _ h n Nat.le.refl i hi hd))
theorem zVd {n:Nat} {s_:List Int} {r:List (Int×Int)} (h:back n s_=some r) (H:DH):EQ 85 [.ints s_] H (.it H.length) (H++[some (.iter (r.map zR3))]) true:=by
 refine ES.iterN (c:=L1 [.ref 0 0]) (h0:=[some (.cells [.ints s_])]) (fn:=Tryz.f107) (za3 (n:=0) s_ (r:=()) rfl) (by kernel_rfl) Tryz.func107 (by kernel_rfl) (by kernel_rfl) (by kernel_rfl) (fun C hC=>?_) H
 have e:DV.yl C.l::(List.range 1).map (L1 [.ref 0 0])++List.replicate (Tryz.f107.ntmps-(1+1)) .any=frm 19 [(0,.yl C.l),(1,.ref 0 0)]:=by kernel_rfl
 rw [e]
 exact zcO s_ h C hC
end Go.Proofs.YtekkngkphejfcaaGreatDoor
namespace Go.Proofs.YtekkngkphejfcaaGreatDoor
open Go.RowKit
set_option maxRecDepth 100000
set_option maxHeartbeats 40000000
def zWo (n:Nat) (g_:List (List Int)) (in_:List Bool) (start:Int):Option Unit:=
 some ()
def zck (n:Nat) (g_:List (List Int)) (in_:List Bool) (start:Int):Option Unit:=zWo n g_ in_ start
theorem zWn {n:Nat} (g_:List (List Int)) (in_:List Bool) (start:Int) {r:Unit} (h:zck n g_ in_ start=some r):EQ 114 [.sl 1 g_.length (zAz zAS g_),.bools in_,.i start] [] (.fn 127 3 (L1 [.ref 0 0,.ref 1 0,.ref 2 0])) [some (.cells [.sl 1 g_.length (zAz zAS g_)]),some (.cells [.i start]),some (.cells [.bools in_])] true:=by
 refine ot Tryz.func114 fun B N=>?_
 revert r
 apply gO
 exact lE zAH [6] [0,2,1]
theorem zWF:SOk (zBa Tryz.f127 6) [] (List.range 8) []:=by unfold SOk;kernel_rfl
def zBh:Sch:=fun i=>match i with
 | 6=>.ord [] (List.range 8) []
 | _=>.no
def zGb (g:List (List Int)) (start:Int) (inn o3:List Bool) (o4:List Int):DH:=[some (.cells [.sl 1 g.length (zAz zAS g)]),some (.cells [.i start]),some (.cells [.bools inn]),some (.bools o3),some (.ints o4)]
inductive zD5 where
 | l1 (x6:Nat) (o3:List Bool) (o4:List Int)
 | l2 (x6:Nat) (x33:List Int) (x34 x35:Int) (o3:List Bool) (o4:List Int)
 | l3 (o3:List Bool)
def zEr (n:Nat) (self:zD5→Option (List Int)) (g:List (List Int)) (start:Int) (inn:List Bool) (x6:Nat) (o3:List Bool) (o4:List Int):Option (List Int):=
 bif (decide ((x6:Int)>0)) then
  if ((0:Int)≤0∧0<(x6:Int))∧0+0<o4.length then
   Option.map (fun l=>(o4.getD (0+0) 0)::l) (
    if ((0:Int)≤0∧0<(x6:Int))∧0+0<o4.length∧(0≤(o4.getD (0+0) 0)∧(o4.getD (0+0) 0)<(g.length:Int)) then
     self (.l2 x6 (g.getD ((o4.getD (0+0) 0).toNat) []) (((g.getD ((o4.getD (0+0) 0).toNat) []).length:Nat):Int) 0 o3 o4)
    else none)
  else none
 else
  some []
def zDO (n:Nat) (self:zD5→Option (List Int)) (g:List (List Int)) (start:Int) (inn:List Bool) (x6:Nat) (x33:List Int) (x34 x35:Int) (o3:List Bool) (o4:List Int):Option (List Int):=
 bif (decide (x35<x34)) then
  if (0≤x35∧x35<(x33.length:Int))∧(0≤(x33.getD ((x35).toNat) 0)∧(x33.getD ((x35).toNat) 0)<(inn.length:Int)) then
   bif (inn.getD ((x33.getD ((x35).toNat) 0).toNat) false) then
    if (0≤(x33.getD ((x35).toNat) 0)∧(x33.getD ((x35).toNat) 0)<(g.length:Int))∧0+((x33.getD ((x35).toNat) 0).toNat)<o3.length then
     bif (!(o3.getD (0+((x33.getD ((x35).toNat) 0).toNat)) false)) then
      if ((0=0∧1=([x33.getD ((x35).toNat) 0]:List Int).length)∧(0=0∧x6=o4.length)∧o4.length+([x33.getD ((x35).toNat) 0]:List Int).length≤LIM)∧R64 (x35+1) then
       self (.l2 (o4.length+([x33.getD ((x35).toNat) 0]:List Int).length) x33 x34 (x35+1) (o3.set (0+((x33.getD ((x35).toNat) 0).toNat)) true) (o4++([x33.getD ((x35).toNat) 0]:List Int)))
      else none
     else
      if R64 (x35+1) then
       self (.l2 x6 x33 x34 (x35+1) o3 o4)
      else none
    else none
   else
    if R64 (x35+1) then
     self (.l2 x6 x33 x34 (x35+1) o3 o4)
    else none
  else none
 else
  bif ((x6-1)==0) then
   if (0:Int)≤1∧(1:Int)≤(x6:Int)∧(x6:Int)≤(x6:Int) then
    self (.l3 o3)
   else none
  else
   if (0:Int)≤1∧(1:Int)≤(x6:Int)∧(x6:Int)≤(x6:Int) then
    if 1≤o4.length then
     self (.l1 (x6-1) o3 (o4.drop 1))
    else none
   else none
def zNh (n:Nat) (self:zD5→Option (List Int)) (g:List (List Int)) (start:Int) (inn:List Bool) (o3:List Bool):Option (List Int):=
 some []
def zNi (n:Nat) (self:zD5→Option (List Int)) (g:List (List Int)) (start:Int) (inn:List Bool):Option (List Int):=
 if (((g.length:Int):Int)=(g.length:Int)∧0≤(g.length:Int)∧((g.length:Int):Int)≤1000000000000)∧(0≤start∧start<(g.length:Int))∧0+((start).toNat)<(List.replicate g.length false).length then
  self (.l1 1 ((List.replicate g.length false).set (0+((start).toNat)) true) ([start]:List Int))
 else none
def zBM (g:List (List Int)) (start:Int) (inn:List Bool):Nat→zD5→Option (List Int)
 | 0,_=>none
 | n+1,.l1 x6 o3 o4=>zEr n (zBM g start inn n) g start inn x6 o3 o4
 | n+1,.l2 x6 x33 x34 x35 o3 o4=>zDO n (zBM g start inn n) g start inn x6 x33 x34 x35 o3 o4
 | n+1,.l3 o3=>zNh n (zBM g start inn n) g start inn o3
def zG2 (n:Nat) (g:List (List Int)) (start:Int) (inn:List Bool):Option (List Int):=zNi n (zBM g start inn n) g start inn
def zEs (C:ItC Tryz.prog GG) (n:Nat) (g:List (List Int)) (start:Int) (inn:List Bool) (r:List Int):zD5→Prop
 | .l1 x6 o3 o4=>∀ m0:Nat,n≤m0→∀ i:Nat,i≤C.encs.length→C.encs.drop i=r.map zD1→TrG Tryz.prog GG Fence.wide none 3 (C.Y 3 i) (C.Q 3) (toN m0 (zA9 (zAK Tryz.f127) 0 [])) ⟨frm 58 [(0,.yl C.l),(1,.ref 0 0),(3,.ref 2 0),(5,.msl 3 1 0 g.length),(6,.msl 4 1 0 x6)],[some (.cells [.sl 1 g.length (zAz zAS g)]),some (.cells [.i start]),some (.cells [.bools inn]),some (.bools o3),some (.ints o4)]⟩
 | .l2 x6 x33 x34 x35 o3 o4=>∀ m0 m1:Nat,n≤m0→n≤m1→∀ i:Nat,i≤C.encs.length→C.encs.drop i=r.map zD1→TrG Tryz.prog GG Fence.wide none 3 (C.Y 3 i) (C.Q 3) (toN m1 (zA9 (zAK Tryz.f127) 2 [m0])) ⟨frm 58 [(0,.yl C.l),(1,.ref 0 0),(3,.ref 2 0),(5,.msl 3 1 0 g.length),(6,.msl 4 1 0 x6),(33,.ints x33),(34,.i x34),(35,.i x35)],[some (.cells [.sl 1 g.length (zAz zAS g)]),some (.cells [.i start]),some (.cells [.bools inn]),some (.bools o3),some (.ints o4)]⟩
 | .l3 o3=>∀ m0:Nat,n≤m0→∀ i:Nat,i≤C.encs.length→C.encs.drop i=r.map zD1→TrG Tryz.prog GG Fence.wide none 3 (C.Y 3 i) (C.Q 3) (toN m0 (zA9 (zAK Tryz.f127) 0 [])) ⟨frm 58 [(0,.yl C.l),(1,.ref 0 0),(3,.ref 2 0),(5,.msl 3 1 0 g.length),(6,.ints ([]:List Int))],[some (.cells [.sl 1 g.length (zAz zAS g)]),some (.cells [.i start]),some (.cells [.bools inn]),some (.bools o3)]⟩
theorem zZf (C:ItC Tryz.prog GG) (n:Nat) (self:zD5→Option (List Int)) (g:List (List Int)) (start:Int) (inn:List Bool) (hself: ∀ pt r,self pt=some r→zEs C n g start inn r pt) (x6:Nat) (o3:List Bool) (o4:List Int) (r:List Int) (h:zEr n self g start inn x6 o3 o4=some r):zEs C (n+1) g start inn r (.l1 x6 o3 o4):=by
 intro m0 hm0
 intro i hi hd
 refine rd hm0 fun m0 hm0=>?_
 unfold zEr at h
 have p:=H0
 rcases zFI h with ⟨c0,h⟩ | ⟨c0,h⟩
 ·have p:=H0.b 19 c0
  refine gs (zAA 5 zBh) [0,1,2,3,4] p (zEd (zAK Tryz.f127) 5 [m0]) (frm 58 [(0,.yl C.l),(1,.ref 0 0),(3,.ref 2 0),(5,.msl 3 1 0 g.length),(6,.msl 4 1 0 x6)]) (zGb g start inn o3 o4) ?_
  obtain ⟨⟨g0,g1⟩,h⟩:=zAv h
  have p:=H0.g g0 |>.g g1
  obtain ⟨r,h2,rfl⟩:=zXh h
  clear h
  have h:=h2
  clear h2
  obtain ⟨hx,hi,hd⟩:=zTR hd
  refine TrG.y (ops:=zBa Tryz.f127 5) HC.x 4 [0,1,3,5,6,27] [0,1,2,3,4] p (x:=zD1 (o4.getD (0+0) 0)) (frm 58 [(0,.yl C.l),(1,.ref 0 0),(3,.ref 2 0),(5,.msl 3 1 0 g.length),(6,.msl 4 1 0 x6),(27,.bool false)]) (zGb g start inn o3 o4) (frm 58 [(0,.yl C.l),(1,.ref 0 0),(3,.ref 2 0),(5,.msl 3 1 0 g.length),(6,.msl 4 1 0 x6),(27,.bool true)]) (zGb g start inn o3 o4) (by kernel_rfl) (by kernel_rfl) (by kernel_rfl) hx (by kernel_rfl) ?_ ?_
  ·generalize i+1=i at hi hd ⊢
   obtain ⟨⟨g2,g3,g4⟩,h⟩:=zAv h
   have p:=H0.g zWF |>.g g2 |>.g g3 |>.g g4
   exact gg zBh [0,1,2,3,4] p (en n (hself _ _ h m0 n hm0 Nat.le.refl i hi hd))
  ·exact TrI.e HC.x zBh 6 H0 (by kernel_rfl) (.inr rfl)
 ·have p:=H0.b 19 c0
  cases h
  exact TrI.e HC.x zBh 10 p (by kernel_rfl) (.inl (by rw [zR5 hi hd]))
theorem zZe (C:ItC Tryz.prog GG) (n:Nat) (self:zD5→Option (List Int)) (g:List (List Int)) (start:Int) (inn:List Bool) (hself: ∀ pt r,self pt=some r→zEs C n g start inn r pt) (x6:Nat) (x33:List Int) (x34 x35:Int) (o3:List Bool) (o4:List Int) (r:List Int) (h:zDO n self g start inn x6 x33 x34 x35 o3 o4=some r):zEs C (n+1) g start inn r (.l2 x6 x33 x34 x35 o3 o4):=by
 intro m0 m1 hm0 hm1
 intro i hi hd
 have hm0:=Nat.le_of_succ_le hm0
 refine rd hm1 fun m1 hm1=>?_
 unfold zDO at h
 have p:=H0
 rcases zFI h with ⟨c0,h⟩ | ⟨c0,h⟩
 ·obtain ⟨⟨g0,g1⟩,h⟩:=zAv h
  have p:=H0.b 36 c0 |>.g g0 |>.g g1
  rcases zFI h with ⟨c1,h⟩ | ⟨c1,h⟩
  ·obtain ⟨⟨g2,g3⟩,h⟩:=zAv h
   have p:=p.b 42 c1 |>.g g2 |>.g g3
   rcases zFI h with ⟨c2,h⟩ | ⟨c2,h⟩
   ·obtain ⟨⟨g4,g5⟩,h⟩:=zAv h
    have p:=p.b 48 c2 |>.g g2 |>.g g3 |>.g g4 |>.w 57 g5
    exact gg zBh [0,1,2,3,6] p (hself _ _ h m0 m1 hm0 hm1 i hi hd)
   ·obtain ⟨g4,h⟩:=zAv h
    have p:=p.b 48 c2 |>.w 57 g4
    exact gg zBh [0,1,2,3,4] p (hself _ _ h m0 m1 hm0 hm1 i hi hd)
  ·obtain ⟨g2,h⟩:=zAv h
   have p:=p.b 42 c1 |>.w 57 g2
   exact gg zBh [0,1,2,3,4] p (hself _ _ h m0 m1 hm0 hm1 i hi hd)
 ·have p:=H0.b 36 c0
  rcases zFI h with ⟨c1,h⟩ | ⟨c1,h⟩
  ·obtain ⟨g0,h⟩:=zAv h
   have p:=p.g g0 |>.o 21 (DLe.mse_nil (k:=4) (m:=1) (o:=1) (eq_of_beq c1))
   exact gg zBh [0,1,2,3] p (hself _ _ h m0 hm0 i hi hd)
  ·obtain ⟨g0,h⟩:=zAv h
   have p:=p.g g0 |>.o 21 (DLe.mse_msl (k:=4) (m:=1) (o:=1) (zUX c1) rfl)
   obtain ⟨g1,h⟩:=zAv h
   refine gs zBh [0,1,2,3,4] p (toN m0 (zA9 (zAK Tryz.f127) 0 [])) (frm 58 [(0,.yl C.l),(1,.ref 0 0),(3,.ref 2 0),(5,.msl 3 1 0 g.length),(6,.msl 4 1 1 (x6-1))]) (zGb g start inn o3 o4) ?_
   refine TrK.le (SLe.rootE 4 1 ⟨frm 58 [(0,.yl C.l),(1,.ref 0 0),(3,.ref 2 0),(5,.msl 3 1 0 g.length),(6,.msl 5 1 0 (x6-1))],[some (.cells [.sl 1 g.length (zAz zAS g)]),some (.cells [.i start]),some (.cells [.bools inn]),some (.bools o3),none,some (.ints (o4.drop 1))]⟩ [1≤o4.length] (by kernel_rfl) ⟨g1,trivial⟩) (by kernel_rfl) ?_
   refine TrK.le (SLe.compE [0,1,2,3,5] (by kernel_rfl)) (by kernel_rfl) ?_
   exact hself _ _ h m0 hm0 i hi hd
theorem zZd (C:ItC Tryz.prog GG) (n:Nat) (self:zD5→Option (List Int)) (g:List (List Int)) (start:Int) (inn:List Bool) (hself: ∀ pt r,self pt=some r→zEs C n g start inn r pt) (o3:List Bool) (r:List Int) (h:zNh n self g start inn o3=some r):zEs C (n+1) g start inn r (.l3 o3):=by
 intro m0 hm0
 intro i hi hd
 refine rd hm0 fun m0 hm0=>?_
 unfold zNh at h
 have p:=H0
 cases h
 exact TrI.e HC.x zBh 10 p (by kernel_rfl) (.inl (by rw [zR5 hi hd]))
theorem zHh (C:ItC Tryz.prog GG) (g:List (List Int)) (start:Int) (inn:List Bool): ∀ (n:Nat) (pt:zD5) (r:List Int),zBM g start inn n pt=some r→zEs C n g start inn r pt
 | 0,_,_,h=>by cases h
 | n+1,.l1 x6 o3 o4,r,h=>zZf C n (zBM g start inn n) g start inn (zHh C g start inn n) x6 o3 o4 r h
 | n+1,.l2 x6 x33 x34 x35 o3 o4,r,h=>zZe C n (zBM g start inn n) g start inn (zHh C g start inn n) x6 x33 x34 x35 o3 o4 r h
 | n+1,.l3 o3,r,h=>zZd C n (zBM g start inn n) g start inn (zHh C g start inn n) o3 r h
theorem zZh {n:Nat} (g:List (List Int)) (start:Int) (inn:List Bool) {r:List Int} (h:zG2 n g start inn=some r) (C:ItC Tryz.prog GG) (hC:C.encs=r.map zD1):TrG Tryz.prog GG Fence.wide none 3 (C.Y 3 0) (C.Q 3) [.code (zAK Tryz.f127)] ⟨frm 58 [(0,.yl C.l),(1,.ref 0 0),(2,.ref 1 0),(3,.ref 2 0)],[some (.cells [.sl 1 g.length (zAz zAS g)]),some (.cells [.i start]),some (.cells [.bools inn])]⟩:=by
 suffices H: ∀ i:Nat,i≤C.encs.length→C.encs.drop i=r.map zD1→TrG Tryz.prog GG Fence.wide none 3 (C.Y 3 i) (C.Q 3) [.code (zAK Tryz.f127)] ⟨frm 58 [(0,.yl C.l),(1,.ref 0 0),(2,.ref 1 0),(3,.ref 2 0)],[some (.cells [.sl 1 g.length (zAz zAS g)]),some (.cells [.i start]),some (.cells [.bools inn])]⟩ from H 0 (Nat.zero_le _) (by rw [List.drop_zero];exact hC)
 intro i hi hd
 have hself:=zHh C g start inn n
 unfold zG2 at h
 generalize zBM g start inn n=self at h hself
 unfold zNi at h
 obtain ⟨⟨g0,g1,g2⟩,h⟩:=zAv h
 have p:=H0.g g0 |>.g g1 |>.g g2
 exact gg zBh [0,1,2,3,4] p (en n (hself _ _ h n Nat.le.refl i hi hd))
theorem zG1 {n:Nat} {g_:List (List Int)} {in_:List Bool} {start:Int} {r:List Int} (h:zG2 n g_ start in_=some r) (H:DH):EQ 114 [.sl 1 g_.length (zAz zAS g_),.bools in_,.i start] H (.it H.length) (H++[some (.iter (r.map zD1))]) true:=by
 refine ES.iterN (c:=L1 [.ref 0 0,.ref 1 0,.ref 2 0]) (h0:=[some (.cells [.sl 1 g_.length (zAz zAS g_)]),some (.cells [.i start]),some (.cells [.bools in_])]) (fn:=Tryz.f127) (zWn (n:=0) g_ in_ start (r:=()) rfl) (by kernel_rfl) Tryz.func127 (by kernel_rfl) (by kernel_rfl) (by kernel_rfl) (fun C hC=>?_) H
 have e:DV.yl C.l::(List.range 3).map (L1 [.ref 0 0,.ref 1 0,.ref 2 0])++List.replicate (Tryz.f127.ntmps-(3+1)) .any=frm 58 [(0,.yl C.l),(1,.ref 0 0),(2,.ref 1 0),(3,.ref 2 0)]:=by kernel_rfl
 rw [e]
 exact zZh g_ start in_ h C hC
end Go.Proofs.YtekkngkphejfcaaGreatDoor
namespace Go.Proofs.YtekkngkphejfcaaGreatDoor
open Go.RowKit
def nb (g:List (List Int)) (v:Int):List Int:=g.getD v.toNat []
structure Gr (g:List (List Int)):Prop where
 len:g.length≤256
 row: ∀ v,0≤v→v<(g.length:Int)→(nb g v).length≤256
 rng: ∀ v,0≤v→v<(g.length:Int)→∀ u∈nb g v,0≤u∧u<(g.length:Int)
 sym: ∀ v,0≤v→v<(g.length:Int)→∀ u∈nb g v,v∈nb g u
theorem Gr.of {g:List (List Int)} (h:zDg g=true) (hr: ∀ r∈g,r.length≤LB):Gr g:=by
 unfold zDg at h
 rw [Bool.and_eq_true,decide_eq_true_iff,List.all_eq_true] at h
 have key: ∀ v,0≤v→v<(g.length:Int)→∀ u∈nb g v,(0≤u∧u<(g.length:Int))∧v∈nb g u:=by
  intro v h0 h1 u hu
  have h2:=h.2 v.toNat (List.mem_range.2 (by omega))
  unfold zJp at h2
  rw [List.all_eq_true] at h2
  obtain ⟨j,hj,e⟩:=List.getElem_of_mem hu
  have h3:=h2 j (List.mem_range.2 hj)
  unfold zCi at h3
  have e2:(g.getD v.toNat []).getD j 0=u:=by
   show (nb g v).getD j 0=u
   rw [List.getD_eq_getElem?_getD,List.getElem?_eq_getElem hj];exact e
  simp only [e2,Bool.and_eq_true,decide_eq_true_iff,List.contains_iff_mem] at h3
  have e3:((v.toNat:Nat):Int)=v:=by omega
  rw [e3] at h3
  exact ⟨⟨h3.1.1.1.1,h3.1.1.1.2⟩,h3.2⟩
 have grow: ∀ v,0≤v→v<(g.length:Int)→∀ k,k<(nb g v).length→(k:Int)≤(nb g v).getD k 0:=by
  intro v h0 h1 k
  have h2:=h.2 v.toNat (List.mem_range.2 (by omega))
  unfold zJp at h2
  rw [List.all_eq_true] at h2
  induction k with
  | zero=>
   intro hk
   have h3:=h2 0 (List.mem_range.2 hk)
   unfold zCi at h3
   simp only [Bool.and_eq_true,decide_eq_true_iff] at h3
   exact h3.1.1.1.1
  | succ k ih=>
   intro hk
   have h3:=h2 (k+1) (List.mem_range.2 hk)
   unfold zCi at h3
   have d:decide (0<k+1)=true:=decide_eq_true (by omega)
   simp only [Bool.and_eq_true,decide_eq_true_iff,d,Bool.not_true,Bool.false_or,Nat.add_sub_cancel] at h3
   have h4:(nb g v).getD k 0<(nb g v).getD (k+1) 0:=h3.1.2
   have:=ih (by omega)
   omega
 exact ⟨h.1,fun v h0 h1=>by
  refine Nat.le_of_not_lt fun hl=>?_
  have h2:=grow v h0 h1 256 hl
  have h3:(nb g v).getD 256 0∈nb g v:=by rw [List.getD_eq_getElem?_getD,List.getElem?_eq_getElem hl];exact List.getElem_mem hl
  have h4:=(key v h0 h1 _ h3).1
  have:=h.1
  omega,fun v h0 h1 u hu=>(key v h0 h1 u hu).1,fun v h0 h1 u hu=>(key v h0 h1 u hu).2⟩
inductive Rc (g:List (List Int)) (inn:List Bool) (s:Int):Int→Prop
 | start:Rc g inn s s
 | step {a b:Int} (h:Rc g inn s a) (hb:b∈nb g a) (hi:inn.getD b.toNat false=true):Rc g inn s b
section
variable {g:List (List Int)} {inn:List Bool} {s:Int}
theorem Rc.rng (G:Gr g) (h0:0≤s) (h1:s<(g.length:Int)) {v:Int} (h:Rc g inn s v):0≤v∧v<(g.length:Int):=by
 induction h with
 | start=>exact ⟨h0,h1⟩
 | step h hb hi ih=>exact G.rng _ ih.1 ih.2 _ hb
theorem Rc.isIn (hs:inn.getD s.toNat false=true) {v:Int} (h:Rc g inn s v):inn.getD v.toNat false=true:=by
 cases h with
 | start=>exact hs
 | step h hb hi=>exact hi
theorem Rc.trans {a b:Int} (h:Rc g inn s a) (h2:Rc g inn a b):Rc g inn s b:=by
 induction h2 with
 | start=>exact h
 | step _ hb hi ih=>exact .step ih hb hi
theorem Rc.symm (G:Gr g) (h0:0≤s) (h1:s<(g.length:Int)) (hs:inn.getD s.toNat false=true) {v:Int} (h:Rc g inn s v):Rc g inn v s:=by
 induction h with
 | start=>exact .start
 | step h hb hi ih=>
  have hr:=h.rng G h0 h1
  exact (Rc.step Rc.start (G.sym _ hr.1 hr.2 _ hb) (h.isIn hs)).trans ih
def zHN (l:List Bool):Nat:=l.countP fun b=>!b
theorem zIN: ∀ (l:List Bool) (i:Nat),i<l.length→l.getD i false=false→zHN (l.set i true)+1=zHN l
 | b::l,0,_,h=>by
  have h:b=false:=h
  subst h
  simp [zHN,List.countP_cons]
 | b::l,i+1,hi,h=>by
  have:=zIN l i (Nat.lt_of_succ_lt_succ hi) (by simpa using h)
  show zHN (b::l.set i true)+1=zHN (b::l)
  unfold zHN at this ⊢
  rw [List.countP_cons,List.countP_cons]
  omega
def exq (inn:List Bool) (st:List Bool×List Int) (v:Int):List Bool×List Int:=bif inn.getD v.toNat false&&!st.1.getD v.toNat false then (st.1.set v.toNat true,st.2++[v]) else st
structure Bf (g:List (List Int)) (inn:List Bool) (s:Int) (met:List Bool) (Q P:List Int):Prop where
 len:met.length=g.length
 cnt:Q.length+zHN met≤g.length
 nd:(P++Q).Nodup
 rc: ∀ v∈P++Q,Rc g inn s v
 rng: ∀ v∈P++Q,0≤v∧v<(g.length:Int)
 met: ∀ v:Int,0≤v→v<(g.length:Int)→(met.getD v.toNat false=true↔v∈P++Q)
 cl: ∀ p∈P,∀ b∈nb g p,inn.getD b.toNat false=true→b∈P++Q
 st:s∈P++Q
theorem Bf.ex (G:Gr g) {met:List Bool} {Q P:List Int} (h:Bf g inn s met Q P) {v u:Int} (hv:v∈Q) (hu:u∈nb g v):
 Bf g inn s (exq inn (met,Q) u).1 (exq inn (met,Q) u).2 P∧(∃ t,(exq inn (met,Q) u).2=Q++t)∧(inn.getD u.toNat false=true→u∈P++(exq inn (met,Q) u).2)∧2*zHN (exq inn (met,Q) u).1+(exq inn (met,Q) u).2.length≤2*zHN met+Q.length:=by
 have hvr:=h.rng v (List.mem_append_right _ hv)
 have hur:=G.rng v hvr.1 hvr.2 u hu
 unfold exq
 dsimp only
 cases hi:inn.getD u.toNat false
 ·rw [Bool.false_and,cond_false]
  exact ⟨h,⟨[],(List.append_nil _).symm⟩,fun h=>(by cases h),Nat.le_refl _⟩
 ·cases hm:met.getD u.toNat false
  ·rw [Bool.not_false,Bool.and_true,cond_true]
   have hn:u∉P++Q:=fun hh=>by rw [(h.met u hur.1 hur.2).2 hh] at hm;cases hm
   have hl:=h.len
   have hc:=zIN met u.toNat (by omega) hm
   have hcnt:=h.cnt
   have hmem: ∀ x,x∈P++(Q++[u])↔x∈P++Q∨x=u:=fun x=>by simp [or_assoc]
   refine ⟨⟨by rw [List.length_set];exact hl,by show (Q++[u]).length+zHN (met.set u.toNat true)≤_;rw [List.length_append,List.length_singleton];omega,?_,fun x hx=>?_,fun x hx=>?_,fun x hx0 hx1=>?_,fun p hp b hb hbi=>(hmem b).2 (.inl (h.cl p hp b hb hbi)),(hmem s).2 (.inl h.st)⟩,⟨[u],rfl⟩,fun _=>(hmem u).2 (.inr rfl),by show 2*zHN (met.set u.toNat true)+(Q++[u]).length≤_;rw [List.length_append,List.length_singleton];omega⟩
   ·rw [←List.append_assoc,List.nodup_append]
    exact ⟨h.nd,by simp,fun a ha b hb=>by rw [List.mem_singleton] at hb;subst hb;exact fun e=>hn (e▸ha)⟩
   ·rcases (hmem x).1 hx with hx | rfl
    ·exact h.rc x hx
    ·exact .step (h.rc v (List.mem_append_right _ hv)) hu hi
   ·rcases (hmem x).1 hx with hx | rfl
    ·exact h.rng x hx
    ·exact hur
   ·rw [hmem,←h.met x hx0 hx1]
    by_cases e:x=u
    ·subst e
     rw [List.getD_eq_getElem?_getD,List.getElem?_set_self (by omega)]
     exact ⟨fun _=>.inr rfl,fun _=>rfl⟩
    ·rw [List.getD_eq_getElem?_getD,List.getElem?_set_ne (by omega),←List.getD_eq_getElem?_getD]
     exact ⟨.inl,fun h=>h.elim id fun h=>absurd h e⟩
  ·rw [Bool.not_true,Bool.and_false,cond_false]
   exact ⟨h,⟨[],by simp⟩,fun _=>(h.met u hur.1 hur.2).1 hm,Nat.le_refl _⟩
theorem Bf.exs (G:Gr g) {v:Int} {P:List Int}: ∀ (l:List Int) {met:List Bool} {Q:List Int},Bf g inn s met Q P→v∈Q→(∀ u∈l,u∈nb g v)→
 Bf g inn s (l.foldl (exq inn) (met,Q)).1 (l.foldl (exq inn) (met,Q)).2 P∧(∃ t,(l.foldl (exq inn) (met,Q)).2=Q++t)∧(∀ u∈l,inn.getD u.toNat false=true→u∈P++(l.foldl (exq inn) (met,Q)).2)∧2*zHN (l.foldl (exq inn) (met,Q)).1+(l.foldl (exq inn) (met,Q)).2.length≤2*zHN met+Q.length
 | [],met,Q,h,hv,hl=>⟨h,⟨[],by simp⟩,fun u hu=>absurd hu List.not_mem_nil,Nat.le_refl _⟩
 | u::l,met,Q,h,hv,hl=>by
  obtain ⟨h1,⟨t,ht⟩,h2,h3⟩:=h.ex G hv (hl u List.mem_cons_self)
  obtain ⟨h4,⟨t',ht'⟩,h5,h6⟩:=Bf.exs G l h1 (by rw [ht];exact List.mem_append_left _ hv) fun x hx=>hl x (List.mem_cons_of_mem _ hx)
  refine ⟨h4,⟨t++t',?_⟩,fun x hx hi=>?_,Nat.le_trans h6 h3⟩
  ·show (List.foldl (exq inn) (exq inn (met,Q) u) l).2=_
   rw [ht',ht,List.append_assoc]
  ·rcases List.mem_cons.1 hx with rfl | hx
   ·show x∈P++(List.foldl (exq inn) (exq inn (met,Q) x) l).2
    rw [ht',←List.append_assoc]
    exact List.mem_append_left _ (h2 hi)
   ·exact h5 x hx hi
theorem zcA {n j:Nat} {l:List Int} {met:List Bool} {Q:List Int} (hI:inn.length=g.length) (hG:g.length≤256) (hm:met.length=g.length) (hQ:Q.length+zHN met≤g.length) (hj:j<l.length) (hl:l.length≤256) (hr:0≤l.getD j 0∧l.getD j 0<(g.length:Int)):
 zBM g s inn (n+1) (.l2 Q.length l (l.length:Int) (j:Int) met Q)=zBM g s inn n (.l2 (exq inn (met,Q) (l.getD j 0)).2.length l (l.length:Int) ((j:Int)+1) (exq inn (met,Q) (l.getD j 0)).1 (exq inn (met,Q) (l.getD j 0)).2):=by
 have r1:R64 ((j:Int)+1):=zAG.2 ⟨by omega,by omega⟩
 have L:(1000000000000:Nat)=LIM:=rfl
 show zDO n (zBM g s inn n) g s inn Q.length l (l.length:Int) (j:Int) met Q=_
 unfold zDO exq
 simp only [Int.toNat_natCast,Nat.zero_add]
 rw [decide_eq_true (by omega),cond_true,if_pos ⟨⟨by omega,by omega⟩,by omega,by omega⟩]
 cases hi:inn.getD (l.getD j 0).toNat false
 ·rw [cond_false,Bool.false_and,cond_false,if_pos r1]
 ·rw [cond_true,Bool.true_and,if_pos ⟨hr,by omega⟩]
  cases ht:met.getD (l.getD j 0).toNat false
  ·have hc:=zIN met (l.getD j 0).toNat (by omega) ht
   rw [Bool.not_false,cond_true,cond_true,if_pos ⟨⟨⟨trivial,rfl⟩,⟨trivial,trivial⟩,by rw [List.length_singleton,←L];omega⟩,r1⟩,List.length_append]
  ·rw [Bool.not_true,cond_false,cond_false,if_pos r1]
theorem zbD (hI:inn.length=g.length) (G:Gr g) {v:Int} {P:List Int} {l:List Int} (hl:l.length≤256) (hlv: ∀ u∈l,u∈nb g v): ∀ (k j n:Nat) {met:List Bool} {Q:List Int},j+k=l.length→Bf g inn s met Q P→v∈Q→
 zBM g s inn (n+k) (.l2 Q.length l (l.length:Int) (j:Int) met Q)=zBM g s inn n (.l2 ((l.drop j).foldl (exq inn) (met,Q)).2.length l (l.length:Int) (l.length:Int) ((l.drop j).foldl (exq inn) (met,Q)).1 ((l.drop j).foldl (exq inn) (met,Q)).2)
 | 0,j,n,met,Q,e,h,hv=>by
  have e:j=l.length:=by omega
  subst e
  rw [List.drop_length];rfl
 | k+1,j,n,met,Q,e,h,hv=>by
  have hj:j<l.length:=by omega
  have hu:l.getD j 0∈l:=by rw [List.getD_eq_getElem?_getD,List.getElem?_eq_getElem hj];exact List.getElem_mem hj
  have hvr:=h.rng v (List.mem_append_right _ hv)
  have hr:=G.rng v hvr.1 hvr.2 _ (hlv _ hu)
  obtain ⟨h1,⟨t,ht⟩,_,_⟩:=h.ex G hv (hlv _ hu)
  rw [←Nat.add_assoc,zcA hI G.len h.len h.cnt hj hl hr]
  have:=zbD hI G hl hlv k (j+1) n (by omega) h1 (by rw [ht];exact List.mem_append_left _ hv)
  have e1:(((j+1:Nat)):Int)=(j:Int)+1:=by omega
  rw [e1] at this
  rw [this]
  have e2:l.drop j=l.getD j 0::l.drop (j+1):=by
   rw [List.drop_eq_getElem_cons hj,List.getD_eq_getElem?_getD,List.getElem?_eq_getElem hj];rfl
  rw [e2];rfl
def BfP (g:List (List Int)) (inn:List Bool) (s:Int) (P l:List Int):Prop:=(P++l).Nodup∧(∀ v,v∈P++l↔Rc g inn s v)
theorem Bf.done {met:List Bool} {P:List Int} (h:Bf g inn s met [] P):BfP g inn s P []:=by
 refine ⟨h.nd,fun v=>⟨h.rc v,fun hv=>?_⟩⟩
 induction hv with
 | start=>exact h.st
 | step _ hb hi ih=>exact h.cl _ (by simpa using ih) _ hb hi
theorem PEv.map {R:Type} {f:Nat→Option R} {Q:R→Prop} {Q':R→Prop} {m:R→R} (h:PEv f Q) (hq: ∀ r,Q r→Q' (m r)):PEv (fun n=>(f n).map m) Q':=by
 obtain ⟨N,h⟩:=h
 refine ⟨N,fun n hn=>?_⟩
 obtain ⟨r,h1,h2⟩:=h n hn
 exact ⟨m r,by show (f n).map m=_;rw [h1];rfl,hq r h2⟩
theorem zeB (G:Gr g) (hI:inn.length=g.length): ∀ (z:Nat) (met:List Bool) (Q P:List Int),2*zHN met+Q.length=z→Bf g inn s met Q P→PEv (fun n=>zBM g s inn n (.l1 Q.length met Q)) (BfP g inn s P):=by
 intro z
 induction z using Nat.strongRecOn with
 | _ z ih=>
  intro met Q P hz h
  cases Q with
  | nil=>
   refine Ev.p (r:=[]) ⟨1,fun n hn=>?_⟩ h.done
   obtain ⟨n,rfl⟩: ∃ k,n=k+1:=⟨n-1,by omega⟩
   show zEr n (zBM g s inn n) g s inn 0 met []=_
   unfold zEr
   rw [decide_eq_false (by omega),cond_false]
  | cons v q=>
   have hv:v∈v::q:=List.mem_cons_self
   have hvr:=h.rng v (List.mem_append_right _ hv)
   obtain ⟨h1,⟨t,ht⟩,h2,h3⟩:=h.exs G (nb g v) hv (fun u hu=>hu)
   have hl:=G.row v hvr.1 hvr.2
   generalize hst:(nb g v).foldl (exq inn) (met,v::q)=st at h1 ht h2 h3
   obtain ⟨met',Q'⟩:=st
   have ht:Q'=v::(q++t):=ht
   subst ht
   have hB:Bf g inn s met' (q++t) (P++[v]):=by
    have e:P++[v]++(q++t)=P++(v::(q++t)):=by simp
    have hc:=h1.cnt
    simp only [List.length_cons] at hc
    refine ⟨h1.len,by omega,by rw [e];exact h1.nd,by rw [e];exact h1.rc,by rw [e];exact h1.rng,by rw [e];exact h1.met,?_,by rw [e];exact h1.st⟩
    intro p hp b hb hi
    rw [e]
    rcases List.mem_append.1 hp with hp | hp
    ·exact h1.cl p hp b hb hi
    ·rw [List.mem_singleton] at hp
     subst hp
     exact h2 b hb hi
   have hz':2*zHN met'+(q++t).length<z:=by
    simp only [List.length_cons] at h3
    simp only [List.length_append] at h3 ⊢
    have:(v::q).length=q.length+1:=rfl
    omega
   have IH:=ih _ hz' met' (q++t) (P++[v]) rfl hB
   have key:PEv (fun n=>zBM g s inn n (.l2 (v::(q++t)).length (nb g v) ((nb g v).length:Int) ((nb g v).length:Int) met' (v::(q++t)))) (BfP g inn s (P++[v])):=by
    have g0:(0:Int)≤1∧(1:Int)≤(((v::(q++t)).length:Nat):Int)∧(((v::(q++t)).length:Nat):Int)≤(((v::(q++t)).length:Nat):Int):=⟨by omega,by rw [List.length_cons];omega,Int.le_refl _⟩
    cases hqt:q++t with
    | nil=>
     rw [hqt] at hB
     refine Ev.p (r:=[]) ⟨2,fun n hn=>?_⟩ hB.done
     obtain ⟨n,rfl⟩: ∃ k,n=k+2:=⟨n-2,by omega⟩
     show zDO (n+1) (zBM g s inn (n+1)) g s inn 1 (nb g v) ((nb g v).length:Int) ((nb g v).length:Int) met' [v]=_
     unfold zDO
     rw [decide_eq_false (by omega),cond_false]
     rfl
    | cons a r=>
     rw [←hqt]
     refine PEv.step 1 (fun n=>?_) IH
     show zDO n (zBM g s inn n) g s inn (v::(q++t)).length (nb g v) ((nb g v).length:Int) ((nb g v).length:Int) met' (v::(q++t))=_
     unfold zDO
     have e0:((v::(q++t)).length-1==0)=false:=by rw [hqt];rfl
     rw [decide_eq_false (by omega),cond_false,e0,cond_false,if_pos g0,if_pos (by rw [List.length_cons];omega)]
     rfl
   have key2:PEv (fun n=>zBM g s inn n (.l2 (v::q).length (nb g v) ((nb g v).length:Int) 0 met (v::q))) (BfP g inn s (P++[v])):=by
    refine PEv.step (nb g v).length (fun n=>?_) key
    have:=zbD hI G hl (fun u hu=>hu) (nb g v).length 0 n (by omega) h hv
    rw [List.drop_zero,hst] at this
    exact this
   have m: ∀ r:List Int,BfP g inn s (P++[v]) r→BfP g inn s P (v::r):=fun r hr=>by
    have e:P++[v]++r=P++(v::r):=by simp
    unfold BfP at hr ⊢
    rw [e] at hr
    exact hr
   refine PEv.step 1 (fun n=>?_) (PEv.map key2 m)
   show zEr n (zBM g s inn n) g s inn (v::q).length met (v::q)=_
   unfold zEr
   have g1:((0:Int)≤0∧0<(((v::q).length:Nat):Int))∧0+0<(v::q).length:=by rw [List.length_cons];omega
   rw [decide_eq_true (by rw [List.length_cons];omega),cond_true,if_pos g1]
   have e1:(v::q).getD (0+0) 0=v:=rfl
   rw [e1,if_pos ⟨g1.1,g1.2,hvr⟩]
   rfl
theorem zNj (G:Gr g) (hI:inn.length=g.length) (h0:0≤s) (h1:s<(g.length:Int)):PEv (fun n=>zG2 n g s inn) (fun l=>l.Nodup∧∀ v,v∈l↔Rc g inn s v):=by
 have hlen:((List.replicate g.length false).set s.toNat true).length=g.length:=by simp
 have hG:=G.len
 have hc:=zIN (List.replicate g.length false) s.toNat (by rw [List.length_replicate];omega) (by simp [List.getD_eq_getElem?_getD,List.getElem?_replicate];split <;> rfl)
 have hc2:zHN (List.replicate g.length false)≤g.length:=by
  have:=List.countP_le_length (p:=fun b=>!b) (l:=List.replicate g.length false)
  rw [List.length_replicate] at this;exact this
 have hB:Bf g inn s ((List.replicate g.length false).set s.toNat true) [s] []:=by
  refine ⟨hlen,by rw [List.length_singleton];omega,by simp,fun v hv=>?_,fun v hv=>?_,fun v hv0 hv1=>?_,fun p hp=>absurd hp List.not_mem_nil,by simp⟩
  ·have:v=s:=by simpa using hv
   subst this;exact .start
  ·have:v=s:=by simpa using hv
   subst this;exact ⟨h0,h1⟩
  ·by_cases e:v=s
   ·subst e
    rw [List.getD_eq_getElem?_getD,List.getElem?_set_self (by rw [List.length_replicate];omega)]
    simp
   ·rw [List.getD_eq_getElem?_getD,List.getElem?_set_ne (by omega),List.getElem?_replicate]
    simp only [List.nil_append,List.mem_singleton,e,iff_false]
    split <;> simp
 have:=zeB G hI _ _ _ _ rfl hB
 refine (PEv.mono (Q':=fun l=>l.Nodup∧∀ v,v∈l↔Rc g inn s v) this (fun l (hl:BfP g inn s [] l)=>(⟨hl.1,hl.2⟩:l.Nodup∧∀ v,v∈l↔Rc g inn s v))).eq fun n=>?_
 unfold zG2 zNi
 rw [if_pos ⟨⟨rfl,by omega,by omega⟩,⟨h0,h1⟩,by simp only [List.length_replicate];omega⟩,Nat.zero_add]
 rfl
end
end Go.Proofs.YtekkngkphejfcaaGreatDoor
