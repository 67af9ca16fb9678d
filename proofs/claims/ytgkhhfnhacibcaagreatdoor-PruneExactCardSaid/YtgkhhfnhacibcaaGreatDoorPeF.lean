/- Part 6 of 6 of what the proofs of these laws stand on. -/
import Derived.Test.YtgkhhfnhacibcaaGreatDoorPeE
import Derived.Test.YtgkhhfnhacibcaaGreatDoorRows
import Derived.ProofKit
import Derived.OpenShut
import Derived.Deep.DeepHandedRow
import Derived.Lib.LaidTab
import Derived.Deep.Slices
import Derived.Stop.LaidErr
import Derived.Test.YtgkhhfnhacibcaaGreatDoorCards
import Derived.Test.YtgkhhfnhacibcaaGreatDoorTie
set_option linter.all false
namespace Go.Proofs.YtgkhhfnhacibcaaGreatDoor
open Go.RowKit
set_option maxRecDepth 100000
set_option maxHeartbeats 40000000
def dj (Ck Bi:Int) (Fw:List Int) (EV:List (List Int)) (EU:List AB):DH:=[some (.cells [.i Ck,.i Bi,.ints Fw,.sl 1 EV.length (Am Ar EV),.sl 9 EU.length (Am AF EU)]),some (.ints ([1,3,7]:List Int)),some (.ints ([1,2,6]:List Int))]
def sF (Ck Bi:Int) (Fw:List Int) (EV:List (List Int)) (EU:List AB):DH:=[some (.cells [.i Ck,.i Bi,.ints Fw,.sl 1 EV.length (Am Ar EV),.sl 9 EU.length (Am AF EU)]),some (.ints ([1,3,7]:List Int)),some (.ints ([1,2,6]:List Int)),some (.ints ([2,3,3]:List Int)),some (.ints ([2,1,1]:List Int))]
def sD:DH:=[some (.ints ([1,3,3]:List Int)),some (.ints ([1,2,2]:List Int)),some (.ints ([2,2,3]:List Int)),some (.ints ([0,0,0]:List Int))]
def sC:DH:=[some (.ints ([7,7]:List Int)),some (.ints ([3,3]:List Int)),some (.ints ([7,7]:List Int)),some (.ints ([3,6]:List Int))]
def sB:DH:=[none,some (.ints ([3,3,3]:List Int)),some (.ints ([3,2,3]:List Int)),some (.ints ([7,7]:List Int)),some (.ints ([5,5]:List Int))]
def sA:DH:=[some (.ints ([1,3]:List Int)),some (.ints ([1,2]:List Int)),some (.ints ([2,3,2]:List Int)),some (.ints ([2,2,2]:List Int))]
def r9:DH:=[some (.ints ([3,2,3]:List Int)),some (.ints ([2,2,2]:List Int)),some (.ints ([2,2,2]:List Int)),some (.ints ([0,0,0]:List Int))]
inductive IU where
 | l1 (Ck Bi:Int) (Fw:List Int) (EV:List (List Int)) (EU:List AB)
 | l2 (AW:Bool)
 | l3 (AW Aj:Bool)
 | l4 (AW Aj A4:Bool)
 | l5 (AW Aj A4 x13:Bool)
 | l6 (AW Aj A4 x13 FO:Bool)
 | l7 (AW Aj A4 x13 FO BU:Bool)
def j7 (n:Nat) (self:IU -> Option Bool) (Ck Bi:Int) (Fw:List Int) (EV:List (List Int)) (EU:List AB):Option Bool:=
 (GV n (⟨Ck,Bi,Fw,EV,EU⟩:AA) ([1,3,7]:List Int) ([1,2,6]:List Int)).bind fun y1=>
  bif y1 then
   (GJ n 3 2 2 2 0 1 1 ([]:List Int) 0 0).bind fun y2=>
    (GV n y2 ([2,3,3]:List Int) ([2,1,1]:List Int)).bind fun y3=>
     self (.l2 y3)
  else
   self (.l2 false)
def j6 (n:Nat) (self:IU -> Option Bool) (AW:Bool):Option Bool:=
 (GJ n 3 2 2 2 0 2 3 ([]:List Int) 0 0).bind fun y1=>
  (GV n y1 ([1,3,3]:List Int) ([1,2,2]:List Int)).bind fun y2=>
   bif y2 then
    (GJ n 3 2 2 2 0 0 1 ([]:List Int) 0 0).bind fun y3=>
     (GV n y3 ([2,2,3]:List Int) ([0,0,0]:List Int)).bind fun y4=>
      self (.l3 AW y4)
   else
    self (.l3 AW false)
def j5 (n:Nat) (self:IU -> Option Bool) (AW Aj:Bool):Option Bool:=
 (GJ n 2 3 3 0 0 0 3 ([]:List Int) 0 0).bind fun y1=>
  (GV n y1 ([7,7]:List Int) ([3,3]:List Int)).bind fun y2=>
   bif y2 then
    (GJ n 2 3 4 0 0 0 0 ([]:List Int) 0 0).bind fun y3=>
     (GV n y3 ([7,7]:List Int) ([3,6]:List Int)).bind fun y4=>
      self (.l4 AW Aj y4)
   else
    self (.l4 AW Aj false)
def j4 (n:Nat) (self:IU -> Option Bool) (AW Aj A4:Bool):Option Bool:=
 (GJ n 3 2 5 2 0 0 0 ([2]:List Int) 0 0).bind fun y1=>
  (GV n y1 ([3,3,3]:List Int) ([3,2,3]:List Int)).bind fun y2=>
   bif y2 then
    (GJ n 2 3 6 0 0 2 0 ([]:List Int) 0 0).bind fun y3=>
     (GV n y3 ([7,7]:List Int) ([5,5]:List Int)).bind fun y4=>
      self (.l5 AW Aj A4 y4)
   else
    self (.l5 AW Aj A4 false)
def j3 (n:Nat) (self:IU -> Option Bool) (AW Aj A4 x13:Bool):Option Bool:=
 (GJ n 2 2 7 1 1 0 0 ([]:List Int) 0 0).bind fun y1=>
  (GV n y1 ([1,3]:List Int) ([1,2]:List Int)).bind fun y2=>
   bif y2 then
    (GJ n 3 2 8 2 0 0 0 ([]:List Int) 0 0).bind fun y3=>
     (GV n y3 ([2,3,2]:List Int) ([2,2,2]:List Int)).bind fun y4=>
      self (.l6 AW Aj A4 x13 y4)
   else
    self (.l6 AW Aj A4 x13 false)
def j2 (n:Nat) (self:IU -> Option Bool) (AW Aj A4 x13 FO:Bool):Option Bool:=
 (GJ n 3 2 9 2 0 0 0 ([]:List Int) 0 0).bind fun y1=>
  (GV n y1 ([3,2,3]:List Int) ([2,2,2]:List Int)).bind fun y2=>
   bif y2 then
    (GJ n 3 2 9 2 0 0 0 ([]:List Int) 0 0).bind fun y3=>
     (GV n y3 ([2,2,2]:List Int) ([0,0,0]:List Int)).bind fun y4=>
      self (.l7 AW Aj A4 x13 FO y4)
   else
    self (.l7 AW Aj A4 x13 FO false)
def j1 (n:Nat) (self:IU -> Option Bool) (AW Aj A4 x13 FO BU:Bool):Option Bool:=
 bif AW then
  bif Aj then
   bif A4 then
    bif x13 then
     bif FO then
      some BU
     else
      some false
    else
     some false
   else
    some false
  else
   some false
 else
  some false
def j8 (n:Nat) (self:IU -> Option Bool):Option Bool:=
 (GJ n 3 3 1 0 0 0 0 ([]:List Int) 0 0).bind fun y1=>
  (cY n y1 0 ([1,3,7]:List Int)).bind fun y2=>
   (GJ n 2 3 3 0 0 0 3 ([]:List Int) 0 0).bind fun y3=>
    (L8 n y3 0).bind fun y4=>
     (JV n y1 1 ([1,3,7]:List Int)).bind fun y5=>
      (L8 n (⟨0,0,([]:List Int),([]:List (List Int)),([]:List AB)⟩:AA) 0).bind fun y6=>
       bif (y2.2 != 0) then
        some false
       else
        bif (y4.2 != 0) then
         some false
        else
         bif (y4.1 != 2) then
          some false
         else
          bif (y5.2 != 260) then
           some false
          else
           bif (y6.2 != 191) then
            some false
           else
            (aU n y2.1 ([(1,0),(2,0)]:List (Int×Int))).bind fun y7=>
             bif (!y7) then
              some false
             else
              self (.l1 y1.cells y1.symbols y1.values y1.nbrs y1.cons)
def JO:Nat -> IU -> Option Bool
 | 0,_=>none
 | n+1,.l1 Ck Bi Fw EV EU=>j7 n (JO n) Ck Bi Fw EV EU
 | n+1,.l2 AW=>j6 n (JO n) AW
 | n+1,.l3 AW Aj=>j5 n (JO n) AW Aj
 | n+1,.l4 AW Aj A4=>j4 n (JO n) AW Aj A4
 | n+1,.l5 AW Aj A4 x13=>j3 n (JO n) AW Aj A4 x13
 | n+1,.l6 AW Aj A4 x13 FO=>j2 n (JO n) AW Aj A4 x13 FO
 | n+1,.l7 AW Aj A4 x13 FO BU=>j1 n (JO n) AW Aj A4 x13 FO BU
def PA (n:Nat):Option Bool:=j8 n (JO n)
def kA (n B:Nat) (N:Yd 0) (r:Bool):IU -> Prop
 | .l1 Ck Bi Fw EV EU=>TW B N (FQ Tryz.f22 0 (.bool r) []) (CP (AX Tryz.f22) 8 []) ⟨AM 155 [(1,.ref 0 0)],[some (.cells [.i Ck,.i Bi,.ints Fw,.sl 1 EV.length (Am Ar EV),.sl 9 EU.length (Am AF EU)])]⟩
 | .l2 AW=>TW B N (FQ Tryz.f22 0 (.bool r) []) (CP (AX Tryz.f22) 9 []) ⟨AM 155 [(10,.bool AW)],[]⟩
 | .l3 AW Aj=>TW B N (FQ Tryz.f22 0 (.bool r) []) (CP (AX Tryz.f22) 10 []) ⟨AM 155 [(10,.bool AW),(11,.bool Aj)],[]⟩
 | .l4 AW Aj A4=>TW B N (FQ Tryz.f22 0 (.bool r) []) (CP (AX Tryz.f22) 11 []) ⟨AM 155 [(10,.bool AW),(11,.bool Aj),(12,.bool A4)],[]⟩
 | .l5 AW Aj A4 x13=>TW B N (FQ Tryz.f22 0 (.bool r) []) (CP (AX Tryz.f22) 12 []) ⟨AM 155 [(10,.bool AW),(11,.bool Aj),(12,.bool A4),(13,.bool x13)],[]⟩
 | .l6 AW Aj A4 x13 FO=>TW B N (FQ Tryz.f22 0 (.bool r) []) (CP (AX Tryz.f22) 13 []) ⟨AM 155 [(10,.bool AW),(11,.bool Aj),(12,.bool A4),(13,.bool x13),(14,.bool FO)],[]⟩
 | .l7 AW Aj A4 x13 FO BU=>TW B N (FQ Tryz.f22 0 (.bool r) []) (CP (AX Tryz.f22) 14 []) ⟨AM 155 [(10,.bool AW),(11,.bool Aj),(12,.bool A4),(13,.bool x13),(14,.bool FO),(15,.bool BU)],[]⟩
theorem kB (B:Nat) (N:Yd 0):Al (JO) (kA · B N):=ia (fun _=>rfl) fun n AG pt r h=>by
 cases pt
 case l1 Ck Bi Fw EV EU=>
  revert r;apply gO;exact cn fun y1 A7=>jc (sb [.agg 5 (L1 [.i Ck,.i Bi,.ints Fw,.sl 1 EV.length (Am Ar EV),.sl 9 EU.length (Am AF EU)]),.msl 1 1 0 3,.msl 2 1 0 3] (HQ A7) (dj Ck Bi Fw EV EU) ⟨Ab.plain (by kernel_rfl),Ab.ints rfl (by decide:3=([1,3,7]:List Int).length),Ab.ints rfl (by decide:3=([1,2,6]:List Int).length),trivial⟩) (bi 70 (cn fun y2 Bu=>jc (fb (ES.argsLe (ds:=[.i 3,.i 2,.agg 9 (L1 [.i 2,.nils,.i 2,.i 0,.i 1,.i 1,.nils,.i 0,.i 0])]) (Gm Bu) ⟨AL,AL,(AT.aggL (l:=[.i 2,.nils,.i 2,.i 0,.i 1,.i 1,.nils,.i 0,.i 0]) (l':=[.i 2,.nils,.i 2,.i 0,.i 1,.i 1,.ints ([]:List Int),.i 0,.i 0]) rfl ⟨AL,AL,AL,AL,AL,AL,AT.ints_nil,AL,AL,trivial⟩),trivial⟩) (dj Ck Bi Fw EV EU)) (cn fun y3 F2=>jc (sb [.agg 5 (L1 (AD y2)),.msl 3 1 0 3,.msl 4 1 0 3] (HQ F2) (sF Ck Bi Fw EV EU) ⟨Ab.plain (by kernel_rfl),Ab.ints rfl (by decide:3=([2,3,3]:List Int).length),Ab.ints rfl (by decide:3=([2,1,1]:List Int).length),trivial⟩) (lG (AI 14 (AI 13 (AI 12 (AI 11 (AI 10 (AI 9 AE)))))) [] (AG _ _ ·)))) (lG (AI 14 (AI 13 (AI 12 (AI 11 (AI 10 (AI 9 AE)))))) [] (AG _ _ ·)))
 case l2 AW=>
  revert r;apply gO;exact cn fun y1 A7=>jc (fb (ES.argsLe (ds:=[.i 3,.i 2,.agg 9 (L1 [.i 2,.nils,.i 2,.i 0,.i 2,.i 3,.nils,.i 0,.i 0])]) (Gm A7) ⟨AL,AL,(AT.aggL (l:=[.i 2,.nils,.i 2,.i 0,.i 2,.i 3,.nils,.i 0,.i 0]) (l':=[.i 2,.nils,.i 2,.i 0,.i 2,.i 3,.ints ([]:List Int),.i 0,.i 0]) rfl ⟨AL,AL,AL,AL,AL,AL,AT.ints_nil,AL,AL,trivial⟩),trivial⟩) []) (cn fun y2 Bu=>jc (sb [.agg 5 (L1 (AD y1)),.msl 0 1 0 3,.msl 1 1 0 3] (HQ Bu) [some (.ints ([1,3,3]:List Int)),some (.ints ([1,2,2]:List Int))] ⟨Ab.plain (by kernel_rfl),Ab.ints rfl (by decide:3=([1,3,3]:List Int).length),Ab.ints rfl (by decide:3=([1,2,2]:List Int).length),trivial⟩) (bi 82 (cn fun y3 F2=>jc (fb (ES.argsLe (ds:=[.i 3,.i 2,.agg 9 (L1 [.i 2,.nils,.i 2,.i 0,.i 0,.i 1,.nils,.i 0,.i 0])]) (Gm F2) ⟨AL,AL,(AT.aggL (l:=[.i 2,.nils,.i 2,.i 0,.i 0,.i 1,.nils,.i 0,.i 0]) (l':=[.i 2,.nils,.i 2,.i 0,.i 0,.i 1,.ints ([]:List Int),.i 0,.i 0]) rfl ⟨AL,AL,AL,AL,AL,AL,AT.ints_nil,AL,AL,trivial⟩),trivial⟩) [some (.ints ([1,3,3]:List Int)),some (.ints ([1,2,2]:List Int))]) (cn fun y4 Hv=>jc (sb [.agg 5 (L1 (AD y3)),.msl 2 1 0 3,.msl 3 1 0 3] (HQ Hv) sD ⟨Ab.plain (by kernel_rfl),Ab.ints rfl (by decide:3=([2,2,3]:List Int).length),Ab.ints rfl (by decide:3=([0,0,0]:List Int).length),trivial⟩) (lG (AI 14 (AI 13 (AI 12 (AI 11 (AI 10 (AI 8 AE)))))) [] (AG _ _ ·)))) (lG (AI 14 (AI 13 (AI 12 (AI 11 (AI 10 (AI 8 AE)))))) [] (AG _ _ ·))))
 case l3 AW Aj=>
  revert r;apply gO;exact cn fun y1 A7=>jc (fb (ES.argsLe (ds:=[.i 2,.i 3,.agg 9 (L1 [.i 3,.nils,.i 0,.i 0,.i 0,.i 3,.nils,.i 0,.i 0])]) (Gm A7) ⟨AL,AL,(AT.aggL (l:=[.i 3,.nils,.i 0,.i 0,.i 0,.i 3,.nils,.i 0,.i 0]) (l':=[.i 3,.nils,.i 0,.i 0,.i 0,.i 3,.ints ([]:List Int),.i 0,.i 0]) rfl ⟨AL,AL,AL,AL,AL,AL,AT.ints_nil,AL,AL,trivial⟩),trivial⟩) []) (cn fun y2 Bu=>jc (sb [.agg 5 (L1 (AD y1)),.msl 0 1 0 2,.msl 1 1 0 2] (HQ Bu) [some (.ints ([7,7]:List Int)),some (.ints ([3,3]:List Int))] ⟨Ab.plain (by kernel_rfl),Ab.ints rfl (by decide:2=([7,7]:List Int).length),Ab.ints rfl (by decide:2=([3,3]:List Int).length),trivial⟩) (bi 94 (cn fun y3 F2=>jc (fb (ES.argsLe (ds:=[.i 2,.i 3,.agg 9 (L1 [.i 4,.nils,.i 0,.i 0,.i 0,.i 0,.nils,.i 0,.i 0])]) (Gm F2) ⟨AL,AL,(AT.aggL (l:=[.i 4,.nils,.i 0,.i 0,.i 0,.i 0,.nils,.i 0,.i 0]) (l':=[.i 4,.nils,.i 0,.i 0,.i 0,.i 0,.ints ([]:List Int),.i 0,.i 0]) rfl ⟨AL,AL,AL,AL,AL,AL,AT.ints_nil,AL,AL,trivial⟩),trivial⟩) [some (.ints ([7,7]:List Int)),some (.ints ([3,3]:List Int))]) (cn fun y4 Hv=>jc (sb [.agg 5 (L1 (AD y3)),.msl 2 1 0 2,.msl 3 1 0 2] (HQ Hv) sC ⟨Ab.plain (by kernel_rfl),Ab.ints rfl (by decide:2=([7,7]:List Int).length),Ab.ints rfl (by decide:2=([3,6]:List Int).length),trivial⟩) (lG (AI 14 (AI 13 (AI 12 (AI 11 (AI 9 (AI 8 AE)))))) [] (AG _ _ ·)))) (lG (AI 14 (AI 13 (AI 12 (AI 11 (AI 9 (AI 8 AE)))))) [] (AG _ _ ·))))
 case l4 AW Aj A4=>
  revert r;apply gO;exact jz 102 0 (jg (by decide:1=([2]:List Int).length) (cf Gm [none] fun y1=>cn fun y2 Bu=>jc (sb [.agg 5 (L1 (AD y1)),.msl 1 1 0 3,.msl 2 1 0 3] (HQ Bu) [none,some (.ints ([3,3,3]:List Int)),some (.ints ([3,2,3]:List Int))] ⟨Ab.plain (by kernel_rfl),Ab.ints rfl (by decide:3=([3,3,3]:List Int).length),Ab.ints rfl (by decide:3=([3,2,3]:List Int).length),trivial⟩) (bi 107 (cn fun y3 F2=>jc (fb (ES.argsLe (ds:=[.i 2,.i 3,.agg 9 (L1 [.i 6,.nils,.i 0,.i 0,.i 2,.i 0,.nils,.i 0,.i 0])]) (Gm F2) ⟨AL,AL,(AT.aggL (l:=[.i 6,.nils,.i 0,.i 0,.i 2,.i 0,.nils,.i 0,.i 0]) (l':=[.i 6,.nils,.i 0,.i 0,.i 2,.i 0,.ints ([]:List Int),.i 0,.i 0]) rfl ⟨AL,AL,AL,AL,AL,AL,AT.ints_nil,AL,AL,trivial⟩),trivial⟩) [none,some (.ints ([3,3,3]:List Int)),some (.ints ([3,2,3]:List Int))]) (cn fun y4 Hv=>jc (sb [.agg 5 (L1 (AD y3)),.msl 3 1 0 2,.msl 4 1 0 2] (HQ Hv) sB ⟨Ab.plain (by kernel_rfl),Ab.ints rfl (by decide:2=([7,7]:List Int).length),Ab.ints rfl (by decide:2=([5,5]:List Int).length),trivial⟩) (lG (AI 14 (AI 13 (AI 12 (AI 10 (AI 9 (AI 8 AE)))))) [] (AG _ _ ·)))) (lG (AI 14 (AI 13 (AI 12 (AI 10 (AI 9 (AI 8 AE)))))) [] (AG _ _ ·)))))
 case l5 AW Aj A4 x13=>
  revert r;apply gO;exact cn fun y1 A7=>jc (fb (ES.argsLe (ds:=[.i 2,.i 2,.agg 9 (L1 [.i 7,.nils,.i 1,.i 1,.i 0,.i 0,.nils,.i 0,.i 0])]) (Gm A7) ⟨AL,AL,(AT.aggL (l:=[.i 7,.nils,.i 1,.i 1,.i 0,.i 0,.nils,.i 0,.i 0]) (l':=[.i 7,.nils,.i 1,.i 1,.i 0,.i 0,.ints ([]:List Int),.i 0,.i 0]) rfl ⟨AL,AL,AL,AL,AL,AL,AT.ints_nil,AL,AL,trivial⟩),trivial⟩) []) (cn fun y2 Bu=>jc (sb [.agg 5 (L1 (AD y1)),.msl 0 1 0 2,.msl 1 1 0 2] (HQ Bu) [some (.ints ([1,3]:List Int)),some (.ints ([1,2]:List Int))] ⟨Ab.plain (by kernel_rfl),Ab.ints rfl (by decide:2=([1,3]:List Int).length),Ab.ints rfl (by decide:2=([1,2]:List Int).length),trivial⟩) (bi 119 (cn fun y3 F2=>jc (fb (ES.argsLe (ds:=[.i 3,.i 2,.agg 9 (L1 [.i 8,.nils,.i 2,.i 0,.i 0,.i 0,.nils,.i 0,.i 0])]) (Gm F2) ⟨AL,AL,(AT.aggL (l:=[.i 8,.nils,.i 2,.i 0,.i 0,.i 0,.nils,.i 0,.i 0]) (l':=[.i 8,.nils,.i 2,.i 0,.i 0,.i 0,.ints ([]:List Int),.i 0,.i 0]) rfl ⟨AL,AL,AL,AL,AL,AL,AT.ints_nil,AL,AL,trivial⟩),trivial⟩) [some (.ints ([1,3]:List Int)),some (.ints ([1,2]:List Int))]) (cn fun y4 Hv=>jc (sb [.agg 5 (L1 (AD y3)),.msl 2 1 0 3,.msl 3 1 0 3] (HQ Hv) sA ⟨Ab.plain (by kernel_rfl),Ab.ints rfl (by decide:3=([2,3,2]:List Int).length),Ab.ints rfl (by decide:3=([2,2,2]:List Int).length),trivial⟩) (lG (AI 14 (AI 13 (AI 11 (AI 10 (AI 9 (AI 8 AE)))))) [] (AG _ _ ·)))) (lG (AI 14 (AI 13 (AI 11 (AI 10 (AI 9 (AI 8 AE)))))) [] (AG _ _ ·))))
 case l6 AW Aj A4 x13 FO=>
  revert r;apply gO;exact cn fun y1 A7=>jc (fb (ES.argsLe (ds:=[.i 3,.i 2,.agg 9 (L1 [.i 9,.nils,.i 2,.i 0,.i 0,.i 0,.nils,.i 0,.i 0])]) (Gm A7) ⟨AL,AL,(AT.aggL (l:=[.i 9,.nils,.i 2,.i 0,.i 0,.i 0,.nils,.i 0,.i 0]) (l':=[.i 9,.nils,.i 2,.i 0,.i 0,.i 0,.ints ([]:List Int),.i 0,.i 0]) rfl ⟨AL,AL,AL,AL,AL,AL,AT.ints_nil,AL,AL,trivial⟩),trivial⟩) []) (cn fun y2 Bu=>jc (sb [.agg 5 (L1 (AD y1)),.msl 0 1 0 3,.msl 1 1 0 3] (HQ Bu) [some (.ints ([3,2,3]:List Int)),some (.ints ([2,2,2]:List Int))] ⟨Ab.plain (by kernel_rfl),Ab.ints rfl (by decide:3=([3,2,3]:List Int).length),Ab.ints rfl (by decide:3=([2,2,2]:List Int).length),trivial⟩) (bi 131 (cn fun y3 F2=>jc (fb (ES.argsLe (ds:=[.i 3,.i 2,.agg 9 (L1 [.i 9,.nils,.i 2,.i 0,.i 0,.i 0,.nils,.i 0,.i 0])]) (Gm F2) ⟨AL,AL,(AT.aggL (l:=[.i 9,.nils,.i 2,.i 0,.i 0,.i 0,.nils,.i 0,.i 0]) (l':=[.i 9,.nils,.i 2,.i 0,.i 0,.i 0,.ints ([]:List Int),.i 0,.i 0]) rfl ⟨AL,AL,AL,AL,AL,AL,AT.ints_nil,AL,AL,trivial⟩),trivial⟩) [some (.ints ([3,2,3]:List Int)),some (.ints ([2,2,2]:List Int))]) (cn fun y4 Hv=>jc (sb [.agg 5 (L1 (AD y3)),.msl 2 1 0 3,.msl 3 1 0 3] (HQ Hv) r9 ⟨Ab.plain (by kernel_rfl),Ab.ints rfl (by decide:3=([2,2,2]:List Int).length),Ab.ints rfl (by decide:3=([0,0,0]:List Int).length),trivial⟩) (lG (AI 14 (AI 12 (AI 11 (AI 10 (AI 9 (AI 8 AE)))))) [] (AG _ _ ·)))) (lG (AI 14 (AI 12 (AI 11 (AI 10 (AI 9 (AI 8 AE)))))) [] (AG _ _ ·))))
 case l7 AW Aj A4 x13 FO BU=>
  revert r;apply gO;exact bi 139 (bi 141 (bi 144 (bi 147 (bi 150 (lE (AI 13 (AI 12 (AI 11 (AI 10 (AI 9 (AI 8 AE)))))) [0] []) (lE (AI 13 (AI 12 (AI 11 (AI 10 (AI 9 (AI 8 AE)))))) [0] [])) (lE (AI 13 (AI 12 (AI 11 (AI 10 (AI 9 (AI 8 AE)))))) [0] [])) (lE (AI 13 (AI 12 (AI 11 (AI 10 (AI 9 (AI 8 AE)))))) [0] [])) (lE (AI 13 (AI 12 (AI 11 (AI 10 (AI 9 (AI 8 AE)))))) [0] [])) (lE (AI 13 (AI 12 (AI 11 (AI 10 (AI 9 (AI 8 AE)))))) [0] [])
theorem j0 {n:Nat} {r:Bool} (h:PA n=some r):EQ 22 [] [] (.bool r) [] true:=by
 refine ot Tryz.func22 fun B N=>?_
 revert r;apply gO;exact cn fun y1 A7=>jc (fb (ES.argsLe (ds:=[.i 3,.i 3,.agg 9 (L1 [.i 1,.nils,.i 0,.i 0,.i 0,.i 0,.nils,.i 0,.i 0])]) (Gm A7) ⟨AL,AL,(AT.aggL (l:=[.i 1,.nils,.i 0,.i 0,.i 0,.i 0,.nils,.i 0,.i 0]) (l':=[.i 1,.nils,.i 0,.i 0,.i 0,.i 0,.ints ([]:List Int),.i 0,.i 0]) rfl ⟨AL,AL,AL,AL,AL,AL,AT.ints_nil,AL,AL,trivial⟩),trivial⟩) []) (jt (jz 20 1 (jg (by decide:3=([1,3,7]:List Int).length) (cf oz [some (.cells (AD y1)),none] fun _=>cn fun y3 F2=>jc (fb (ES.argsLe (ds:=[.i 2,.i 3,.agg 9 (L1 [.i 3,.nils,.i 0,.i 0,.i 0,.i 3,.nils,.i 0,.i 0])]) (Gm F2) ⟨AL,AL,(AT.aggL (l:=[.i 3,.nils,.i 0,.i 0,.i 0,.i 3,.nils,.i 0,.i 0]) (l':=[.i 3,.nils,.i 0,.i 0,.i 0,.i 3,.ints ([]:List Int),.i 0,.i 0]) rfl ⟨AL,AL,AL,AL,AL,AL,AT.ints_nil,AL,AL,trivial⟩),trivial⟩) [some (.cells (AD y1)),none]) (cf Wg [some (.cells (AD y1)),none] fun _=>jz 32 2 (jg (by decide:3=([1,3,7]:List Int).length) (cf V2 [some (.cells (AD y1)),none,none] fun _=>cn fun y6 qz=>jc (sb [.agg 5 (L1 [.i 0,.i 0,.nils,.nils,.nils]),.i 0] (Wg qz) [some (.cells (AD y1)),none,none] ⟨(Ab.dle (by kernel_rfl) (AT.aggL (l:=[.i 0,.i 0,.nils,.nils,.nils]) (l':=[.i 0,.i 0,.ints ([]:List Int),.sl 1 (([]:List (List Int)).length) (Am Ar ([]:List (List Int))),.sl 9 (([]:List AB).length) (Am AF ([]:List AB))]) rfl ⟨AL,AL,AT.ints_nil,(AT.sl_nil _ _),(AT.sl_nil _ _),trivial⟩)),Ab.plain (by kernel_rfl),trivial⟩) (bi 42 (lE (AI 14 (AI 13 (AI 12 (AI 11 (AI 10 (AI 9 (AI 8 AE))))))) [0] []) (bi 45 (lE (AI 14 (AI 13 (AI 12 (AI 11 (AI 10 (AI 9 (AI 8 AE))))))) [0] []) (bi 49 (lE (AI 14 (AI 13 (AI 12 (AI 11 (AI 10 (AI 9 (AI 8 AE))))))) [0] []) (bi 53 (lE (AI 14 (AI 13 (AI 12 (AI 11 (AI 10 (AI 9 (AI 8 AE))))))) [0] []) (bi 57 (lE (AI 14 (AI 13 (AI 12 (AI 11 (AI 10 (AI 9 (AI 8 AE))))))) [0] []) (ja 63 3 2 (DN (c:=DB) (L:=([(1,0),(2,0)]:List (Int×Int))) (vals:=[.agg 2 (L1 [.i 1,.i 0]),.agg 2 (L1 [.i 2,.i 0])]) rfl ⟨⟨_,rfl,⟨AL,AL,trivial⟩⟩,⟨_,rfl,⟨AL,AL,trivial⟩⟩,trivial⟩) (jz 63 3 (jg (by decide:2=([(1,0),(2,0)]:List (Int×Int)).length) (cf kE [some (.cells (AD y1)),none,none,none] fun _=>bi 65 (lE (AI 14 (AI 13 (AI 12 (AI 11 (AI 10 (AI 9 (AI 8 AE))))))) [0] []) (lG (AI 14 (AI 13 (AI 12 (AI 11 (AI 10 (AI 9 (AI 8 AE))))))) [0] ((kB B N n) _ _ ·))))))))))))))))))
end Go.Proofs.YtgkhhfnhacibcaaGreatDoor
namespace Go.Proofs.YtgkhhfnhacibcaaGreatDoor
open Go.RowKit
set_option maxRecDepth 100000
set_option maxHeartbeats 40000000
end Go.Proofs.YtgkhhfnhacibcaaGreatDoor
namespace Go.Proofs.YtgkhhfnhacibcaaGreatDoor
open Go.RowKit
set_option maxRecDepth 100000
set_option maxHeartbeats 40000000
end Go.Proofs.YtgkhhfnhacibcaaGreatDoor
namespace Go.Proofs.YtgkhhfnhacibcaaGreatDoor
open Go.RowKit
set_option maxRecDepth 100000
set_option maxHeartbeats 40000000
end Go.Proofs.YtgkhhfnhacibcaaGreatDoor
namespace Go.Proofs.YtgkhhfnhacibcaaGreatDoor
open Go.RowKit
section
variable {q:AA} {TI:Int} {p:List Int}
end
section
variable {K o n:Nat} {ws:List Bool} {Q l qu:List Int} {v:Int}
end
end Go.Proofs.YtgkhhfnhacibcaaGreatDoor
namespace Go.Proofs.YtgkhhfnhacibcaaGreatDoor
open Go.RowKit
section
variable {q:AA} {TI:Int} {p cells:List Int} {f:Int -> List Int}
end
end Go.Proofs.YtgkhhfnhacibcaaGreatDoor
namespace Go.Proofs.YtgkhhfnhacibcaaGreatDoor
open Go.RowKit
section
variable {q:AA} {TI:Int} {pos p x cells:List Int} {f:Int -> List Int}
end
end Go.Proofs.YtgkhhfnhacibcaaGreatDoor
namespace Go.Proofs.YtgkhhfnhacibcaaGreatDoor
open Go.RowKit
theorem vX {a b:List Int} {n:Nat} (hl:a.length<=LB) (hn:a.length<n):Qt n a b=some (decide (a=b)):=by
 have hb:LB<=9223372036854775806:=by decide
 unfold Qt fV
 by_cases A3:a.length=b.length
 ·have e:((a.length:Int) != (b.length:Int))=false:=by rw [A3];simp
  rw [e,xx]
  have key: ∀ (k i n:Nat),i+k=a.length -> k+1<=n -> OJ a b n (.l1 (i:Int))=some (decide (a.drop i=b.drop i)):=by
   intro k
   induction k with
   | zero=>
    intro i n e hn;obtain ⟨n,rfl⟩: ∃ k,n=k+1:=⟨n-1,by omega⟩
    show Qs n (OJ a b n) a b (i:Int)=_
    unfold Qs;rw [yA (by omega),xx,zJ (by omega),zJ (by omega)];rfl
   | succ k ih=>
    intro i n e hn;obtain ⟨n,rfl⟩: ∃ k,n=k+1:=⟨n-1,by omega⟩;have hi:i<a.length:=by omega
    have BM:i<b.length:=by omega
    have d: ∀ {l:List Int},i<l.length -> l.drop i=l.getD i 0::l.drop (i+1):=fun {l} h=>by
     rw [ym h,u8,xy h];rfl
    have:=ih (i+1) n (by omega) (by omega)
    show Qs n (OJ a b n) a b (i:Int)=_
    unfold Qs;rw [yG (by omega),yC,xw ⟨⟨by omega,by omega⟩,by omega,by omega⟩,yB,xw (Ax.2 ⟨by omega,by omega⟩),d hi,d BM]
    by_cases h:a.getD i 0=b.getD i 0
    ·have:(a.getD i 0 != b.getD i 0)=false:=by rw [h];simp
     rw [this,xx];refine Eq.trans (by assumption) ?_;rw [h];simp
    ·have:(a.getD i 0 != b.getD i 0)=true:=by simpa using h
     rw [this,yC,yA fun e=>h (List.cons.inj e).1]
  exact key a.length 0 n (by omega) (by omega)
 ·have e:((a.length:Int) != (b.length:Int))=true:=by simp;omega
  rw [e,yC,yA fun h=>A3 (by rw [h])]
section
variable {q:AA} {TI:Int} {pos p x cells:List Int}
end
end Go.Proofs.YtgkhhfnhacibcaaGreatDoor
namespace Go.Proofs.YtgkhhfnhacibcaaGreatDoor
open Go.RowKit
set_option maxRecDepth 100000
set_option maxHeartbeats 40000000
end Go.Proofs.YtgkhhfnhacibcaaGreatDoor
namespace Go.Proofs.YtgkhhfnhacibcaaGreatDoor
open Go.RowKit
section
variable {q:AA} {i:Int} {g:List Int} {c:AB}
theorem Bp.sets (C:Bp q i (Fk g)):Sm q.symbols.toNat (con q i).set/\ Sm q.symbols.toNat (con q i).other:=by
 have h:=C.fine;unfold Ed at h;simp only [yD] at h;have h2:=Re.1 h.1.1.1.2;have a:=h2 (con q i).set (by simp);have b:=h2 (con q i).other (by simp);exact ⟨⟨a.1,by omega⟩,b.1,by omega⟩
theorem dE (S:Sv q c g) (W:Gx c q (Fk g)) {k:Nat} (hs:Sm k c.set) (hk:k<=16) {loop:Bool} {M:Prop} (hM:M↔if loop=true then (∀ v,v<g.length -> (Cu c g).getD v false=false)∨((∀ v,v<g.length -> (Cu c g).getD v false=true -> Cz q.nbrs (Cu c g) v=2)/\ I6 q.nbrs (Cu c g)) else I6 q.nbrs (Cu c g)):
 ∃ r,Ev (fun n=>Ni n q.nbrs g c.cells c.set loop) r/\ (r=true↔M):=by
 have L:(1000000000000:Nat)=As:=rfl;have hl:=W.len;have Ey:=W.l1;have Ca:=W.gl;rw [Lc] at hl Ey Ca;have hI:(Cu c g).length=q.nbrs.length:=by rw [cM];omega
 have fin: ∃ r,Ev (fun n=>(Ue n q.nbrs (Cu c g)).bind fun y1=>bif (!loop) then some (decide ((y1.1.length:Int)<=1)) else bif ((y1.1.length:Int)==0) then some (decide ((y1.1.length:Int)<=1)) else (NN n q.nbrs (Cu c g)).bind fun y2=>some y2.1) r/\ (r=true↔M):=by
  obtain ⟨N2,hR⟩:=mf W.g hI;have:=Ae.bindU (wX W.g hI) (b:=fun n y1=>bif (!loop) then some (decide ((y1.1.length:Int)<=1)) else bif ((y1.1.length:Int)==0) then some (decide ((y1.1.length:Int)<=1)) else (NN n q.nbrs (Cu c g)).bind fun y2=>some y2.1) (Q:=fun r=>r=true↔M) ⟨N2,fun n hn x hx=>?_⟩
  ·obtain ⟨r,h1,h2⟩:=this.ev fun r r' h h'=>by
    rw [za,h,h']
   exact ⟨r,h2,h1⟩
  ·obtain ⟨x1,x2,x3⟩:=hx;have e1:decide ((x.1.length:Int)<=1)=true↔I6 q.nbrs (Cu c g):=by rw [yP,←x3];omega
   cases loop with
   | false=>
    refine ⟨_,rfl,?_⟩;rw [e1,hM];simp
   | true=>
    rw [xw rfl] at hM
    by_cases h0:x.1.length=0
    ·have hz:=x2.1 h0;rw [Ca] at hz;refine ⟨true,?_,iff_of_true rfl (hM.2 (.inl hz))⟩
     show (bif ((x.1.length:Int)==0) then some (decide ((x.1.length:Int)<=1)) else _)=_
     rw [h0];rfl
    ·obtain ⟨y,y1,y2,y3⟩:=hR n hn;refine ⟨y.1,?_,?_⟩
     ·show (bif ((x.1.length:Int)==0) then some (decide ((x.1.length:Int)<=1)) else _)=_
      rw [zI.2 (by omega),xx,show NN n q.nbrs (Cu c g)=some y from y1];rfl
     ·rw [y3,hM,Ca];have hz: ¬ ∀ v,v<g.length -> (Cu c g).getD v false=false:=fun h=>h0 (x2.2 (by rw [Ca];exact h))
      constructor
      ·rintro ⟨h1,_,h3⟩;exact .inr ⟨h1,h3⟩
      ·rintro (h | ⟨h1,h3⟩)
       ·exact absurd h hz
       ·refine ⟨h1,Classical.byContradiction fun hn=>hz fun v hv=>?_,h3⟩;cases hb:(Cu c g).getD v false with
        | false=>rfl
        | true=>exact absurd ⟨v,hv,hb⟩ hn
 obtain ⟨r,hr,ra⟩:=fin;refine ⟨r,?_,ra⟩
 have key: ∀ (k j:Nat) (o:List Bool),j+k=g.length -> o.length=g.length -> (∀ v,v<j -> o.getD v false=(Cu c g).getD v false) -> Ev (fun n=>Nh q.nbrs g c.cells c.set loop n (.l1 (j:Int) o)) r:=by
  intro k
  induction k with
  | zero=>
   intro j o e ho hm
   have:o=Cu c g:=by
    refine zAH (by rw [ho,cM]) fun v h1 h2=>?_
    have:=hm v (by omega);simpa [u8,h1,h2] using this
   subst this;obtain ⟨N,hr⟩:=hr;refine Ev.oneN N fun n hn=>?_
   show QI n (Nh q.nbrs g c.cells c.set loop n) q.nbrs g c.cells c.set loop (j:Int) (Cu c g)=_
   unfold QI;rw [yA (by omega),xx,xw ho.symm];exact hr n hn
  | succ k ih=>
   intro j o e ho hm;have hj:j<g.length:=by omega
   have hid:=W.id j (by rw [Lc];exact hj);have XB:=S.G.lt S.v hj;have MI:=S.G.sym j hj;have eg:g.getD j 0=(((g.getD j 0).toNat:Nat):Int):=by omega
   refine BG.ev (BG.one fun n=>?_) (ih (j+1) (o.set j (tb c.set (g.getD j 0).toNat)) (by omega) (by rw [yW];exact ho) fun v hv=>?_)
   ·show QI n (Nh q.nbrs g c.cells c.set loop n) q.nbrs g c.cells c.set loop (j:Int) o=_
    unfold QI;rw [yG (by omega),yC,xw ⟨by omega,by omega⟩,yB,hid];unfold WX cP;rw [xw ⟨by omega,by omega⟩,yB,eg,Kr hs (by omega) (by omega),yF,xw ⟨⟨by omega,by omega⟩,by omega⟩,yF,xw (Ax.2 ⟨by omega,by omega⟩),yU,yB,show ((j+1:Nat):Int)=(j:Int)+1 by omega]
   ·by_cases e1:v=j
    ·subst e1;rw [u8,zK (by omega),zi,oZ hj]
    ·rw [u8,zG (fun h=>e1 h.symm),←u8];exact hm v (by omega)
 have:=key g.length 0 (List.replicate g.length false) (by omega) yQ fun v hv=>absurd hv (yN v)
 refine Ev.eq this fun n=>?_
 unfold Ni dF;rw [xw ⟨rfl,by omega,by omega⟩];rfl
theorem od (C:Bp q i (Fk g)) (G:Gd q g): ∃ b,Ev (fun n=>FY n q (con q i) g) b/\ (b=true↔GA q (con q i) g):=by
 have S:=C.sv G;have hd:Fe (Fk g)=false:=J1.2 S.nz;have W:=C.work;have V:=C.vals;have hl:=W.len;have Tt:=W.k;obtain ⟨hs,ho⟩:=C.sets;have two:(con q i).cells.length=2 -> ∀ a,a<2 -> ((con q i).cells.getD a 0).toNat=((con q i).cells.getD a 0).toNat:=fun _ _ _=>rfl
 have D: ∀ {k:Int} {f:Nat -> Option Bool} {b:Bool} {M:Prop},(con q i).kind=k -> (∀ n,FY n q (con q i) g=f n) -> Ev f b -> (b=true↔M) -> (GA q (con q i) g↔M) -> ∃ b,Ev (fun n=>FY n q (con q i) g) b/\ (b=true↔GA q (con q i) g):=
  fun _ he hf hb hM=>⟨_,hf.eq he,hb.trans hM.symm⟩
 have kc:=QF (QD C.kind)
 generalize hc:con q i=c at*
 rcases kc with hk | hk | hk | hk | hk | hk | hk | hk | hk
 ·obtain ⟨r,h1,h2⟩:=vq S hl;exact D (f:=fun n=>(UR n g c.cells).bind some) hk (fun n=>by unfold FY Il;rw [hk];rfl) (Ev.bind h1 (Ev.now fun n=>rfl)) h2 (by unfold GA;rw [hk];simp)
 ·refine D (f:=fun n=>(UY n g c.cells c.set).bind fun y1=>(Ms n y1 c).bind some) (M:=c.lo<=cnt (fun a=>tb c.set (Ao c g a)) c.cells.length/\ cnt (fun a=>tb c.set (Ao c g a)) c.cells.length<=c.hi) (b:=decide (c.lo<=cnt (fun a=>tb c.set (Ao c g a)) c.cells.length)&&decide (cnt (fun a=>tb c.set (Ao c g a)) c.cells.length<=c.hi)) hk (fun n=>by unfold FY Il;rw [hk];rfl) (Ev.bind (wC S hl hs Tt) (Ev.now fun n=>?_)) (by simp) (by unfold GA;rw [hk];simp);unfold Ms Yh;cases decide (c.lo<=cnt (fun a=>tb c.set (Ao c g a)) c.cells.length) <;> rfl
 ·refine D (f:=fun n=>(Rt n q.values g c.cells).bind fun y1=>(Ms n y1 c).bind some) (M:=c.lo<=Dv (fun a=>q.values.getD (Ao c g a) 0) c.cells.length/\ Dv (fun a=>q.values.getD (Ao c g a) 0) c.cells.length<=c.hi) (b:=decide (c.lo<=Dv (fun a=>q.values.getD (Ao c g a) 0) c.cells.length)&&decide (Dv (fun a=>q.values.getD (Ao c g a) 0) c.cells.length<=c.hi)) hk (fun n=>by unfold FY Il;rw [hk];rfl) (Ev.bind (jG S V hl) (Ev.now fun n=>?_)) (by simp) (by unfold GA;rw [hk];simp);unfold Ms Yh;cases decide (c.lo<=Dv (fun a=>q.values.getD (Ao c g a) 0) c.cells.length) <;> rfl
 ·obtain ⟨r,h1,h2⟩:=mQ S V hl;exact D (f:=fun n=>(SP n q.values g c.cells).bind some) hk (fun n=>by unfold FY Il;rw [hk];rfl) (Ev.bind h1 (Ev.now fun n=>rfl)) h2 (by unfold GA;rw [hk];simp)
 ·have hr:=Vn (b:=fun a=>tb c.set (Ao c g a)) (N:=c.cells.length) c.cells.length 0;refine D (f:=fun n=>(NJ n c.cells c.set g).bind fun y1=>(Mn n y1).bind fun y2=>(Qt n y2 c.runs).bind some) (M:=rl (fun a=>tb c.set (Ao c g a)) c.cells.length c.cells.length 0=c.runs) (b:=decide (rl (fun a=>tb c.set (Ao c g a)) c.cells.length c.cells.length 0=c.runs)) hk (fun n=>by unfold FY Il;rw [hk];rfl) (Ev.bind (ld S hl hs Tt) ⟨300,fun n hn=>?_⟩) (by simp) (by unfold GA;rw [hk];simp)
  show (Mn n _).bind _=_
  rw [we (by omega),yF,vX (yO hr (yO (by omega:c.cells.length+1<=300) (by decide))) (by omega)];rfl
 ·have h2:c.cells.length=2:=by rw [←hc];exact C.two (.inl (by rw [hc];exact hk))
  have c0:=S.cell 0 (by omega);have c1:=S.cell 1 (by omega);have g0:=S.gi (a:=0) (by omega);have g1:=S.gi (a:=1) (by omega);have l0:=(S.lt (a:=0) (by omega)).1;have l1:=(S.lt (a:=1) (by omega)).1;have vl:=V.len;have v0:=V.val _ l0;have v1:=V.val _ l1;refine D (f:=fun n=>FY n q c g) (M:=Gi q c (Ao c g 0) (Ao c g 1)=true) (b:=Gi q c (Ao c g 0) (Ao c g 1)) hk (fun n=>rfl) (Ev.now fun n=>?_) Iff.rfl (by unfold GA;rw [hk];simp);unfold FY Il;rw [hk]
  show (if _ then _ else none)=_
  rw [g0,g1,yB,yB,xw ⟨⟨by omega,by omega⟩,c0,⟨by omega,by omega⟩,⟨by omega,by omega⟩,c1,by omega,by omega⟩];unfold Yy iA Gi;rw [xw ⟨Ax.2 ⟨by omega,by omega⟩,Ax.2 ⟨by omega,by omega⟩⟩,yF,show q.values.getD (Ao c g 1) 0-q.values.getD (Ao c g 0) 0=0-(q.values.getD (Ao c g 0) 0-q.values.getD (Ao c g 1) 0) by omega]
 ·have h2:c.cells.length=2:=by rw [←hc];exact C.two (.inr (by rw [hc];exact hk))
  have c0:=S.cell 0 (by omega);have c1:=S.cell 1 (by omega);have g0:=S.gi (a:=0) (by omega);have g1:=S.gi (a:=1) (by omega);have l0:=(S.lt (a:=0) (by omega)).2;have l1:=(S.lt (a:=1) (by omega)).2;refine D (f:=fun n=>FY n q c g) (M:=GI c (Ao c g 0) (Ao c g 1)=true) (b:=GI c (Ao c g 0) (Ao c g 1)) hk (fun n=>rfl) (Ev.now fun n=>?_) Iff.rfl (by unfold GA;rw [hk];simp);unfold FY Il;rw [hk]
  show (if _ then _ else none)=_
  rw [g0,g1,xw ⟨⟨by omega,by omega⟩,c0,⟨by omega,by omega⟩,c1⟩,Kr hs (by omega) (by omega),Kr hs (by omega) (by omega),Kr ho (by omega) (by omega),Kr ho (by omega) (by omega)];unfold GI;cases tb c.set (Ao c g 0) <;> cases tb c.set (Ao c g 1) <;> cases tb c.other (Ao c g 0) <;> cases tb c.other (Ao c g 1) <;> rfl
 ·have WA:Gx c q (Fk g):=by rw [←hc];exact C.all (.inl (by rw [hc];exact hk)) hd
  obtain ⟨r,h1,h2⟩:=dE (loop:=false) (M:=I6 q.nbrs (Cu c g)) S WA hs Tt (by simp);exact D (f:=fun n=>(Ni n q.nbrs g c.cells c.set false).bind some) hk (fun n=>by unfold FY Il;rw [hk];rfl) (Ev.bind h1 (Ev.now fun n=>rfl)) h2 (by unfold GA;rw [hk];simp)
 ·have WA:Gx c q (Fk g):=by rw [←hc];exact C.all (.inr (by rw [hc];exact hk)) hd
  obtain ⟨r,h1,h2⟩:=dE (loop:=true) (M:=I6 q.nbrs (Cu c g)/\ ∀ v,v<g.length -> (Cu c g).getD v false=true -> Cz q.nbrs (Cu c g) v=2) S WA hs Tt (by
   rw [xw rfl];have gl:=WA.gl;rw [Lc] at gl;constructor
   ·rintro ⟨h1,h2⟩;exact .inr ⟨h2,h1⟩
   ·rintro (h | ⟨h1,h2⟩)
    ·exact ⟨fun u v hu _ mu _=>(by rw [h u (by omega)] at mu;cases mu),fun v hv mv=>(by rw [h v hv] at mv;cases mv)⟩
    ·exact ⟨h2,h1⟩)
  exact D (f:=fun n=>(Ni n q.nbrs g c.cells c.set true).bind some) hk (fun n=>by unfold FY Il;rw [hk];rfl) (Ev.bind h1 (Ev.now fun n=>rfl)) h2 (by unfold GA;rw [hk];simp)
/-! ### Finished grids-/
theorem ik {s:Int} {l:List Int} (hl:l.length<=LB): ∀ (k j:Nat),j+k=l.length -> (∀ j',j'<j -> 0<=l.getD j' 0/\ l.getD j' 0<s) -> ∃ r:Int,Ev (fun n=>Kq l s n (.l1 (j:Int))) r/\ (decide (r>=0)=false↔∀ j,j<l.length -> 0<=l.getD j 0/\ l.getD j 0<s):=by
 have hb:LB<=9223372036854775806:=by decide
 intro k
 induction k with
 | zero=>
  intro j e h;refine ⟨-1,Ev.one fun n=>?_,iff_of_true (by decide) fun j' BX=>h j' (by omega)⟩
  show QN n (Kq l s n) l s (j:Int)=_
  unfold QN;rw [yA (by omega),xx]
 | succ k ih=>
  intro j e h;have hj:j<l.length:=by omega
  have u: ∀ n,Rg n (l.getD j 0) s=some (decide (¬ (0<=l.getD j 0/\ l.getD j 0<s))):=fun n=>by
   unfold Rg ZP
   by_cases h0:l.getD j 0<0
   ·rw [yG h0,yC,yG (by omega)]
   ·rw [yA h0,xx];exact congrArg some (decide_eq_decide.2 (by omega))
  have step: ∀ n,Kq l s (n+1) (.l1 (j:Int))=bif decide (¬ (0<=l.getD j 0/\ l.getD j 0<s)) then some (j:Int) else Kq l s n (.l1 ((j+1:Nat):Int)):=fun n=>by
   show QN n (Kq l s n) l s (j:Int)=_
   unfold QN;rw [yG (by omega),yC,xw ⟨by omega,by omega⟩,yB,u,yF,xw (Ax.2 ⟨by omega,by omega⟩),show ((j+1:Nat):Int)=(j:Int)+1 by omega]
  by_cases hh:0<=l.getD j 0/\ l.getD j 0<s
  ·obtain ⟨r,h1,h2⟩:=ih (j+1) (by omega) fun j' BX=>by
    rcases yL.1 BX with BX | rfl
    ·exact h j' BX
    ·exact hh
   exact ⟨r,BG.ev (BG.one fun n=>by rw [step n,yA (fun h=>h hh),xx]) h1,h2⟩
  ·refine ⟨(j:Int),Ev.one fun n=>by rw [step n,yG hh,yC],zAN (by rw [yG (by omega)];decide) fun h=>hh (h j hj)⟩
theorem mn (hF:Ff q) (hl:g.length<=LB): ∃ e,Ev (fun n=>SV n q g) e/\ (e=0↔Dh q=true/\ Gd q g):=by
 have hV:Ev (fun n=>valid n q) (Ez (Dh q) 191):=⟨Hd q,fun n hn=>VB hF hn⟩;cases hv:Dh q with
 | false=>
  rw [hv] at hV;exact ⟨191,Ev.bind hV (Ev.now fun n=>rfl),by simp⟩
 | true=>
  rw [hv] at hV
  by_cases A3:(g.length:Int)=q.cells
  ·obtain ⟨r,h1,h2⟩:=ik (s:=q.symbols) hl g.length 0 (by omega) fun j hj=>absurd hj (yN j)
   refine ⟨if decide (r>=0)=true then 200 else 0,Ev.bind hV (Ev.eq (Ev.bind (Ev.eq (Ev.bind (Ev.bind h1 (b:=fun n y=>some (decide (y>=0))) (Ev.now fun n=>rfl)) (b:=fun n y=>some (!y)) (Ev.now fun n=>rfl)) fun n=>?_) (b:=fun n y2=>bif (!y2) then some 200 else some 0) (Ev.now fun n=>?_)) fun n=>rfl),?_⟩
   ·unfold Qp YE;rw [yo.2 A3,yC];rfl
   ·cases decide (r>=0) <;> rfl
   ·have:(if decide (r>=0)=true then (200:Int) else 0)=0↔decide (r>=0)=false:=by cases decide (r>=0) <;> simp
    rw [this,h2];exact ⟨fun h=>⟨rfl,A3,h⟩,fun h=>h.2.sym⟩
  ·refine ⟨200,Ev.bind hV (Ev.now fun n=>?_),zAN (by decide) fun h=>A3 h.2.len⟩
   show (bif ((0:Int) != 0) then _ else (Qp n q.cells q.symbols g).bind _)=_
   unfold Qp YE;rw [zI.2 A3];rfl
theorem Gd.ctx (G:Gd q g) (hF:Ff q) (hv:Dh q=true) (h0:0<=i) (h1:i<(q.cons.length:Int)):Bp q i (Fk g):=⟨hF,hv,h0,h1,G.pos hv⟩
def xp (q:AA) (i:Int) (g:List Int) (r:Bool×Int):Prop:=(r.2=0↔Dh q=true/\ Gd q g/\ 0<=i/\ i<(q.cons.length:Int))/\ (r.2=0 -> (r.1=true↔GA q (con q i) g))
theorem og (hF:Ff q) (hl:g.length<=LB): ∃ r,Ev (fun n=>Py n q i g) r/\ xp q i g r:=by
 obtain ⟨e,h1,h2⟩:=mn hF hl
 by_cases h0:e=0
 ·subst h0;obtain ⟨hv,G⟩:=h2.1 rfl
  by_cases hi:0<=i/\ i<(q.cons.length:Int)
  ·obtain ⟨b,b1,b2⟩:=od (G.ctx hF hv hi.1 hi.2) G;refine ⟨(b,0),Ev.bind h1 (Ev.eq (Ev.bind b1 (b:=fun n y2=>some (y2,(0:Int))) (Ev.now fun n=>rfl)) fun n=>?_),⟨fun _=>⟨hv,G,hi⟩,fun _=>rfl⟩,fun _=>b2⟩;rw [zAV,xx,yA (by omega),xx,yA (by omega),xx,xw hi];rfl
  ·refine ⟨(false,1),Ev.bind h1 (Ev.now fun n=>?_),⟨fun h=>(by cases h),fun h=>absurd h.2.2 hi⟩,fun h=>(by cases h)⟩;rw [zAV,xx]
   by_cases d9:i<0
   ·rw [yG d9];rfl
   ·rw [yA d9,xx,yG (by omega)];rfl
 ·refine ⟨(false,e),Ev.bind h1 (Ev.now fun n=>by rw [zc.2 h0];rfl),⟨fun h=>absurd h h0,fun h=>absurd (h2.2 ⟨h.1,h.2.1⟩) h0⟩,fun h=>absurd h h0⟩
end
end Go.Proofs.YtgkhhfnhacibcaaGreatDoor
namespace Go.Proofs.YtgkhhfnhacibcaaGreatDoor
open Go.RowKit
set_option maxRecDepth 100000
set_option maxHeartbeats 40000000
end Go.Proofs.YtgkhhfnhacibcaaGreatDoor
namespace Go.Proofs.YtgkhhfnhacibcaaGreatDoor
open Go.RowKit
set_option maxRecDepth 100000
set_option maxHeartbeats 40000000
def xc (n:Nat) (s_:Int):Option Unit:=
 some ()
def xe (n:Nat) (s_:Int):Option Unit:=xc n s_
theorem xb {n:Nat} (s_:Int) {r:Unit} (h:xe n s_=some r):EQ 60 [.int .u64 s_] [] (.fn 91 1 (L1 [.ref 0 0])) [some (.cells [.int .u64 s_])] true:=by
 refine ot Tryz.func60 fun B N=>?_
 revert r;apply gO;exact lE AE [2] [0]
inductive OX where
 | l1 (x3:Int)
def J6 (n:Nat) (self:OX -> Option (List Int)) (s_:Int) (x3:Int):Option (List Int):=
 if 0<=x3/\ x3<=(IntKind.u64.bits:Int) then
  bif ((s_/2 ^ (x3).toNat) != 0) then
   bif (decide (x3<64)) then
    bif ((bits .and .u64 (s_/2 ^ (x3).toNat) 1)==1) then
     if 0<=x3/\ x3<=(IntKind.u64.bits:Int) then
      bif ((bits .and .u64 (s_/2 ^ (x3).toNat) 1)==1) then
       Option.map (fun l=>x3::l) (
        if AH (x3+1) then
         self (.l1 (x3+1))
        else none)
      else
       if AH (x3+1) then
        self (.l1 (x3+1))
       else none
     else none
    else
     if AH (x3+1) then
      self (.l1 (x3+1))
     else none
   else
    some []
  else
   some []
 else none
def iD (n:Nat) (self:OX -> Option (List Int)) (s_:Int):Option (List Int):=
 self (.l1 0)
def GW (s_:Int):Nat -> OX -> Option (List Int)
 | 0,_=>none
 | n+1,.l1 x3=>J6 n (GW s_ n) s_ x3
def Uu (n:Nat) (s_:Int):Option (List Int):=iD n (GW s_ n) s_
def Y0 (C:CW Tryz.prog GG) (n:Nat) (s_:Int) (r:List Int):OX -> Prop
 | .l1 x3=>∀ m0:Nat,n<=m0 -> ∀ i:Nat,i<=C.encs.length -> C.encs.drop i=r.map BK -> Az Tryz.prog GG Fence.wide none 1 (C.Y 1 i) (C.Q 1) (A2 m0 (BA (AX Tryz.f91) 0 [])) ⟨AM 25 [(0,.yl C.l),(1,.ref 0 0),(3,.i x3)],[some (.cells [.int .u64 s_])]⟩
theorem xf (C:CW Tryz.prog GG) (n:Nat) (self:OX -> Option (List Int)) (s_:Int) (AG: ∀ pt r,self pt=some r -> Y0 C n s_ r pt) (x3:Int) (r:List Int) (h:J6 n self s_ x3=some r):Y0 C (n+1) s_ r (.l1 x3):=by
 intro m0 AC;intro i hi hd;refine rd AC fun m0 AC=>?_
 unfold J6 at h;obtain ⟨g0,h⟩:=Cx h;have p:=H0.g g0;rcases E1 h with ⟨c0,h⟩ | ⟨c0,h⟩
 ·have p:=p.b 7 c0;rcases E1 h with ⟨c1,h⟩ | ⟨c1,h⟩
  ·have p:=p.b 10 c1 |>.g g0
   rcases E1 h with ⟨c2,h⟩ | ⟨c2,h⟩
   ·have p:=H0.g g0 |>.b 7 c0 |>.b 10 c1
    refine gs (AI 3 AE) [0] p (CP (AX Tryz.f91) 3 [m0]) (AM 25 [(0,.yl C.l),(1,.ref 0 0),(3,.i x3)]) [some (.cells [.int .u64 s_])] ?_;obtain ⟨g1,h⟩:=Cx h;have p:=H0.g g1;rcases E1 h with ⟨c0,h⟩ | ⟨c0,h⟩
    ·have p:=p.b 18 c0;obtain ⟨r,h2,rfl⟩:=P0 h;clear h;have h:=h2;clear h2;obtain ⟨hx,hi,hd⟩:=Qy hd;refine Az.y (ops:=BC Tryz.f91 3) HC.x 8 [0,1,3,24] [0] p (x:=BK x3) (AM 25 [(0,.yl C.l),(1,.ref 0 0),(3,.i x3),(24,.bool false)]) [some (.cells [.int .u64 s_])] (AM 25 [(0,.yl C.l),(1,.ref 0 0),(3,.i x3),(24,.bool true)]) [some (.cells [.int .u64 s_])] (by kernel_rfl) (by kernel_rfl) (by kernel_rfl) hx (by kernel_rfl) ?_ ?_
     ·generalize i+1=i at hi hd ⊢
      obtain ⟨g2,h⟩:=Cx h;have p:=H0.w 13 g2;exact gg AE [0] p (AG _ _ h m0 AC i hi hd)
     ·exact TrI.e HC.x AE 6 H0 (by kernel_rfl) (.inr rfl)
    ·obtain ⟨g2,h⟩:=Cx h;have p:=p.b 18 c0 |>.w 13 g2
     exact gg AE [0] p (AG _ _ h m0 AC i hi hd)
   ·obtain ⟨g1,h⟩:=Cx h;have p:=p.b 18 c2 |>.w 13 g1
    exact gg AE [0] p (AG _ _ h m0 AC i hi hd)
  ·have p:=p.b 10 c1;cases h;exact TrI.e HC.x AE 10 p (by kernel_rfl) (.inl (by rw [Mk hi hd]))
 ·have p:=p.b 7 c0;cases h;exact TrI.e HC.x AE 10 p (by kernel_rfl) (.inl (by rw [Mk hi hd]))
theorem iF (C:CW Tryz.prog GG) (s_:Int): ∀ (n:Nat) (pt:OX) (r:List Int),GW s_ n pt=some r -> Y0 C n s_ r pt
 | 0,_,_,h=>by cases h
 | n+1,.l1 x3,r,h=>xf C n (GW s_ n) s_ (iF C s_ n) x3 r h
theorem xg {n:Nat} (s_:Int) {r:List Int} (h:Uu n s_=some r) (C:CW Tryz.prog GG) (hC:C.encs=r.map BK):Az Tryz.prog GG Fence.wide none 1 (C.Y 1 0) (C.Q 1) [.code (AX Tryz.f91)] ⟨AM 25 [(0,.yl C.l),(1,.ref 0 0)],[some (.cells [.int .u64 s_])]⟩:=by
 suffices H: ∀ i:Nat,i<=C.encs.length -> C.encs.drop i=r.map BK -> Az Tryz.prog GG Fence.wide none 1 (C.Y 1 i) (C.Q 1) [.code (AX Tryz.f91)] ⟨AM 25 [(0,.yl C.l),(1,.ref 0 0)],[some (.cells [.int .u64 s_])]⟩ from H 0 (zU _) (by rw [zAc];exact hC)
 intro i hi hd;have AG:=iF C s_ n;unfold Uu at h
 generalize GW s_ n=self at h AG
 unfold iD at h;have p:=H0;exact gg AE [0] p (en n (AG _ _ h n Nat.le.refl i hi hd))
theorem xd {n:Nat} {s_:Int} {r:List Int} (h:Uu n s_=some r) (H:DH):EQ 60 [.int .u64 s_] H (.it H.length) (H++[some (.iter (r.map BK))]) true:=by
 refine ES.iterN (c:=L1 [.ref 0 0]) (h0:=[some (.cells [.int .u64 s_])]) (fn:=Tryz.f91) (xb (n:=0) s_ (r:=()) rfl) (by kernel_rfl) Tryz.func91 (by kernel_rfl) (by kernel_rfl) (by kernel_rfl) (fun C hC=>?_) H;have e:DV.yl C.l::(List.range 1).map (L1 [.ref 0 0])++List.replicate (Tryz.f91.ntmps-(1+1)) .any=AM 25 [(0,.yl C.l),(1,.ref 0 0)]:=by kernel_rfl
 rw [e];exact xg s_ h C hC
inductive KT where
 | s0 (Ib:Int)
def aI:KT -> DH
 | .s0 Ib=>[some (.cells [.i Ib]),none]
def O1 (n:Nat) (e5:Int) (Ib:Int):Option KT:=
 if AH (Ib+1) then
  some (.s0 (Ib+1))
 else none
def jl (n:Nat) (e5:Int):KT -> Option KT
 | .s0 Ib=>O1 n e5 Ib
def Ry (n:Nat) (e5:Int) (s:KT):Option KT:=jl n e5 s
theorem ji (n:Nat) (l B:Nat) (N:Yd 2) (e5:Int) (s:KT) (r:KT) (h:Ry n e5 s=some r):TA l B N (Cg 2 [] 0 (aI r)) Tryz.f28 5 ⟨AM 10 [(2,.ref 0 0),(5,.it 1),(6,.i e5)],aI s⟩:=by
 cases s with
 | s0 Ib=>
  replace h:O1 n e5 Ib=some r:=h;unfold O1 at h;refine ag AE [0,1] H0 (AM 10 [(2,.ref 0 0)]) [some (.cells [.i Ib]),none] fun N=>?_
  revert r;apply gO;exact gw 8 (jt (lF fun p=>rr AE [0,1] rfl p))
def Rx (n:Nat) (s_:Int):Option Int:=
 (Uu n (IntKind.u64.wrap s_)).bind fun y1=>
  (Bn (Ry n) y1 (.s0 0)).bind fun y2=>
   match y2 with
   | .s0 Hb=>
    some Hb
def Ld (n:Nat) (s_:Int):Option Int:=Rx n s_
theorem aG {n:Nat} {s_:Int} {r:Int} (h:Ld n s_=some r):EQ 28 [.i s_] [] (.i r) [] true:=by
 unfold Ld Rx at h;refine ot Tryz.func28 fun B N=>?_
 revert r;apply gO
 exact cn fun y1 A7=>jc (xd A7 [some (.cells [.i 0])]) (cn fun y2 Bu=>fun p r h=>by
  refine gs AE [0,1] p (FK (AX Tryz.f28) 5 []) (AM 10 [(2,.ref 0 0),(5,.it 1)]) [some (.cells [.i 0]),some (.iter ((y1).map BK))] ?_;refine r0 1 5 #[6] BK 2 Bu (ji n) ?_;cases y2 with
  | s0 Hb=>
   dsimp only at h
   revert r;apply gO;exact jt (lE AE [2] [0]))
end Go.Proofs.YtgkhhfnhacibcaaGreatDoor
namespace Go.Proofs.YtgkhhfnhacibcaaGreatDoor
open Go.RowKit
set_option maxRecDepth 100000
set_option maxHeartbeats 40000000
inductive S6 where
 | l1 (x1 x6:Int)
def Pp (n:Nat) (self:S6 -> Option Int) (AZ n_:Int) (x1 x6:Int):Option Int:=
 bif (decide (x6<16)) then
  if 0<=x6/\ x6<=(IntKind.i64.bits:Int) then
   bif ((bits .and .i64 (AZ/2 ^ (x6).toNat) 1)==1) then
    bif (x1==0) then
     some x6
    else
     if AH (x1-1)/\ AH (x6+1) then
      self (.l1 (x1-1) (x6+1))
     else none
   else
    if AH (x6+1) then
     self (.l1 x1 (x6+1))
    else none
  else none
 else
  some 0
def oF (n:Nat) (self:S6 -> Option Int) (AZ n_:Int):Option Int:=
 self (.l1 n_ 0)
def Jb (AZ n_:Int):Nat -> S6 -> Option Int
 | 0,_=>none
 | n+1,.l1 x1 x6=>Pp n (Jb AZ n_ n) AZ n_ x1 x6
def WO (n:Nat) (AZ n_:Int):Option Int:=oF n (Jb AZ n_ n) AZ n_
def oG (n B:Nat) (N:Yd 0) (AZ n_:Int) (r:Int):S6 -> Prop
 | .l1 x1 x6=>∀ m0:Nat,n<=m0 -> TW B N (FQ Tryz.f29 0 (.i r) []) (A2 m0 (BA (AX Tryz.f29) 0 [])) ⟨AM 20 [(0,.i AZ),(1,.i x1),(6,.i x6)],[]⟩
theorem oH (B:Nat) (N:Yd 0) (AZ n_:Int):Al (Jb AZ n_) (oG · B N AZ n_):=ia (fun _=>rfl) fun n AG pt r h=>by
 cases pt
 case l1 x1 x6=>
  intro m0 AC;refine rd AC fun m0 AC=>?_
  revert r;apply gO;exact bi 7 (gi (bi 13 (bi 15 (lE AE [4] []) (gc (gw 18 (gw 19 (lG AE [] (AG _ _ · m0 AC)))))) (gw 19 (lG AE [] (AG _ _ · m0 AC))))) (lE AE [4] [])
theorem oE {n:Nat} {AZ n_:Int} {r:Int} (h:WO n AZ n_=some r):EQ 29 [.i AZ,.i n_] [] (.i r) [] true:=by
 refine ot Tryz.func29 fun B N=>?_
 revert r;apply gO;exact lN AE [] ((oH B N AZ n_ n) _ _ · n Nat.le.refl)
theorem lH:Ay (BC Tryz.f8 34) [([0,1,2,3,4,5,6,7,8],9)] [10] [11]:=by unfold Ay;kernel_rfl
theorem lD:Ay (BC Tryz.f8 45) [] (List.range 11) [11]:=by unfold Ay;kernel_rfl
def DM:Bb:=fun i=>match i with
 | 34=>.ord [([0,1,2,3,4,5,6,7,8],9)] [10] [11]
 | 45=>.ord [] (List.range 11) [11]
 | _=>.no
def tE (q:AA) (i:Int) (o2 pos:List Int):DH:=[some (.cells (AD q)),some (.cells (AF (q.cons.getD ((i).toNat) default))),some (.ints o2),some (.ints (List.replicate (([]:List Int).length+pos.length) (0:Int)))]
inductive Ko where
 | l1 (x7:List Int) (AW GB:Int)
 | l2 (x7:List Int) (AW DI:Int) (o2:List Int)
 | l3 (x7:List Int) (AQ:Bool) (Ci CX:Int) (o2:List Int)
 | l4 (x7:List Int) (AQ:Bool) (A5 Ci CX E4:Int) (o2 o3:List Int)
 | l5 (x7:List Int) (AQ JC:Bool) (Ci CX DJ:Int) (o2 o3:List Int)
def QC (n:Nat) (self:Ko -> Option Bool) (q:AA) (i:Int) (pos:List Int) (x7:List Int) (AW GB:Int):Option Bool:=
 bif (decide (GB<((((q.cons.getD ((i).toNat) default).cells).length:Nat):Int))) then
  if (0<=GB/\ GB<((((q.cons.getD ((i).toNat) default).cells).length:Nat):Int))/\ ((0:Int)<=(((q.cons.getD ((i).toNat) default).cells).getD ((GB).toNat) 0)/\ (((q.cons.getD ((i).toNat) default).cells).getD ((GB).toNat) 0)<(pos.length:Int)) then
   (Ld n (pos.getD ((((q.cons.getD ((i).toNat) default).cells).getD ((GB).toNat) 0).toNat) 0)).bind fun y1=>
    if AH (AW*y1) then
     bif (decide ((AW*y1)>2000)) then
      some true
     else
      if AH (GB+1) then
       self (.l1 x7 (AW*y1) (GB+1))
      else none
    else none
  else none
 else
  if (True)/\ (0=0/\ 0=([]:List Int).length)/\ ([]:List Int).length+pos.length<=As then
   self (.l2 x7 AW 0 (([]:List Int)++pos))
  else none
def QB (n:Nat) (self:Ko -> Option Bool) (q:AA) (i:Int) (pos:List Int) (x7:List Int) (AW DI:Int) (o2:List Int):Option Bool:=
 bif (decide (DI<((((q.cons.getD ((i).toNat) default).cells).length:Nat):Int))) then
  if (0<=DI/\ DI<((((q.cons.getD ((i).toNat) default).cells).length:Nat):Int))/\ ((0:Int)<=(((q.cons.getD ((i).toNat) default).cells).getD ((DI).toNat) 0)/\ (((q.cons.getD ((i).toNat) default).cells).getD ((DI).toNat) 0)<((([]:List Int).length+pos.length:Nat):Int))/\ 0+((((q.cons.getD ((i).toNat) default).cells).getD ((DI).toNat) 0).toNat)<o2.length/\ AH (DI+1) then
   self (.l2 x7 AW (DI+1) (o2.set (0+((((q.cons.getD ((i).toNat) default).cells).getD ((DI).toNat) 0).toNat)) 0))
  else none
 else
  self (.l3 x7 false AW 0 o2)
def QA (n:Nat) (self:Ko -> Option Bool) (q:AA) (i:Int) (pos:List Int) (x7:List Int) (AQ:Bool) (Ci CX:Int) (o2:List Int):Option Bool:=
 bif (decide (CX<Ci)) then
  if ((pos.length:Int):Int)=(pos.length:Int)/\ 0<=(pos.length:Int)/\ ((pos.length:Int):Int)<=1000000000000 then
   self (.l4 x7 AQ CX Ci CX 0 o2 (List.replicate pos.length (0:Int)))
  else none
 else
  bif (!AQ) then
   if ((((([]:List Int).length+pos.length:Nat):Int):Int)=((([]:List Int).length+pos.length:Nat):Int)/\ (0:Int)<=((([]:List Int).length+pos.length:Nat):Int)/\ (((([]:List Int).length+pos.length:Nat):Int):Int)<=1000000000000)/\ ([]:List Int).length+pos.length=(List.replicate (([]:List Int).length+pos.length) (0:Int)).length then
    (same n x7 (List.replicate (([]:List Int).length+pos.length) (0:Int))).bind fun y1=>
     some y1
   else none
  else
   if ([]:List Int).length+pos.length=o2.length then
    (same n x7 o2).bind fun y1=>
     some y1
   else none
def P9 (n:Nat) (self:Ko -> Option Bool) (q:AA) (i:Int) (pos:List Int) (x7:List Int) (AQ:Bool) (A5 Ci CX E4:Int) (o2 o3:List Int):Option Bool:=
 bif (decide (E4<((((q.cons.getD ((i).toNat) default).cells).length:Nat):Int))) then
  if (0<=E4/\ E4<((((q.cons.getD ((i).toNat) default).cells).length:Nat):Int))/\ ((0:Int)<=(((q.cons.getD ((i).toNat) default).cells).getD ((E4).toNat) 0)/\ (((q.cons.getD ((i).toNat) default).cells).getD ((E4).toNat) 0)<(pos.length:Int)) then
   (Ld n (pos.getD ((((q.cons.getD ((i).toNat) default).cells).getD ((E4).toNat) 0).toNat) 0)).bind fun y1=>
    if y1≠0 then
     (WO n (pos.getD ((((q.cons.getD ((i).toNat) default).cells).getD ((E4).toNat) 0).toNat) 0) (Int.tmod A5 y1)).bind fun y2=>
      if 0+((((q.cons.getD ((i).toNat) default).cells).getD ((E4).toNat) 0).toNat)<o3.length/\ AH (Int.tdiv A5 y1)/\ AH (E4+1) then
       self (.l4 x7 AQ (Int.tdiv A5 y1) Ci CX (E4+1) o2 (o3.set (0+((((q.cons.getD ((i).toNat) default).cells).getD ((E4).toNat) 0).toNat)) y2))
      else none
    else none
  else none
 else
  if pos.length=o3.length then
   (Py n q i o3).bind fun y1=>
    bif (y1.2 != 0) then
     some false
    else
     bif AQ then
      self (.l5 x7 true y1.1 Ci CX 0 o2 o3)
     else
      self (.l5 x7 y1.1 y1.1 Ci CX 0 o2 o3)
  else none
def L9 (n:Nat) (self:Ko -> Option Bool) (q:AA) (i:Int) (pos:List Int) (x7:List Int) (AQ JC:Bool) (Ci CX DJ:Int) (o2 o3:List Int):Option Bool:=
 bif (decide (DJ<((((q.cons.getD ((i).toNat) default).cells).length:Nat):Int))) then
  if 0<=DJ/\ DJ<((((q.cons.getD ((i).toNat) default).cells).length:Nat):Int) then
   bif JC then
    if ((0:Int)<=(((q.cons.getD ((i).toNat) default).cells).getD ((DJ).toNat) 0)/\ (((q.cons.getD ((i).toNat) default).cells).getD ((DJ).toNat) 0)<((([]:List Int).length+pos.length:Nat):Int))/\ 0+((((q.cons.getD ((i).toNat) default).cells).getD ((DJ).toNat) 0).toNat)<o2.length/\ ((0:Int)<=(((q.cons.getD ((i).toNat) default).cells).getD ((DJ).toNat) 0)/\ (((q.cons.getD ((i).toNat) default).cells).getD ((DJ).toNat) 0)<(pos.length:Int))/\ 0+((((q.cons.getD ((i).toNat) default).cells).getD ((DJ).toNat) 0).toNat)<o3.length/\ (0<=o3.getD (0+((((q.cons.getD ((i).toNat) default).cells).getD ((DJ).toNat) 0).toNat)) 0/\ o3.getD (0+((((q.cons.getD ((i).toNat) default).cells).getD ((DJ).toNat) 0).toNat)) 0<=(IntKind.i64.bits:Int))/\ AH (DJ+1) then
     self (.l5 x7 AQ JC Ci CX (DJ+1) (o2.set (0+((((q.cons.getD ((i).toNat) default).cells).getD ((DJ).toNat) 0).toNat)) (bits .or .i64 (o2.getD (0+((((q.cons.getD ((i).toNat) default).cells).getD ((DJ).toNat) 0).toNat)) 0) (IntKind.i64.wrap (1*2 ^ (o3.getD (0+((((q.cons.getD ((i).toNat) default).cells).getD ((DJ).toNat) 0).toNat)) 0).toNat)))) o3)
    else none
   else
    if AH (DJ+1) then
     self (.l5 x7 AQ JC Ci CX (DJ+1) o2 o3)
    else none
  else none
 else
  if AH (CX+1) then
   self (.l3 x7 AQ Ci (CX+1) o2)
  else none
def pu (n:Nat) (self:Ko -> Option Bool) (q:AA) (i:Int) (pos:List Int):Option Bool:=
 (PA n).bind fun y1=>
  bif (!y1) then
   some false
  else
   (OG n q pos).bind fun y2=>
    bif (!y2) then
     some true
    else
     (JV n q i pos).bind fun y3=>
      bif (y3.2 != 0) then
       some true
      else
       (Jj n pos).bind fun y4=>
        bif y4 then
         some true
        else
         if 0<=i/\ i<(q.cons.length:Int) then
          bif (((q.cons.getD ((i).toNat) default).kind) != 4) then
           bif (((q.cons.getD ((i).toNat) default).kind) != 5) then
            bif (((q.cons.getD ((i).toNat) default).kind) != 6) then
             bif (((q.cons.getD ((i).toNat) default).kind) != 7) then
              some true
             else
              self (.l1 y3.1 1 0)
            else
             self (.l1 y3.1 1 0)
           else
            self (.l1 y3.1 1 0)
          else
           self (.l1 y3.1 1 0)
         else none
def CB (q:AA) (i:Int) (pos:List Int):Nat -> Ko -> Option Bool
 | 0,_=>none
 | n+1,.l1 x7 AW GB=>QC n (CB q i pos n) q i pos x7 AW GB
 | n+1,.l2 x7 AW DI o2=>QB n (CB q i pos n) q i pos x7 AW DI o2
 | n+1,.l3 x7 AQ Ci CX o2=>QA n (CB q i pos n) q i pos x7 AQ Ci CX o2
 | n+1,.l4 x7 AQ A5 Ci CX E4 o2 o3=>P9 n (CB q i pos n) q i pos x7 AQ A5 Ci CX E4 o2 o3
 | n+1,.l5 x7 AQ JC Ci CX DJ o2 o3=>L9 n (CB q i pos n) q i pos x7 AQ JC Ci CX DJ o2 o3
def cm (n:Nat) (q:AA) (i:Int) (pos:List Int):Option Bool:=pu n (CB q i pos n) q i pos
def pv (n B:Nat) (N:Yd 0) (q:AA) (i:Int) (pos:List Int) (r:Bool):Ko -> Prop
 | .l1 x7 AW GB=>∀ m0:Nat,n<=m0 -> TW B N (FQ Tryz.f8 0 (.bool r) []) (A2 m0 (BA (AX Tryz.f8) 0 [])) ⟨AM 177 [(1,.i i),(2,.ints pos),(3,.ref 0 0),(7,.ints x7),(9,.ref 1 0),(10,.i AW),(69,.ints ((q.cons.getD ((i).toNat) default).cells)),(70,.i ((((q.cons.getD ((i).toNat) default).cells).length:Nat):Int)),(71,.i GB)],[some (.cells (AD q)),some (.cells (AF (q.cons.getD ((i).toNat) default)))]⟩
 | .l2 x7 AW DI o2=>∀ m0:Nat,n<=m0 -> TW B N (FQ Tryz.f8 0 (.bool r) []) (A2 m0 (BA (AX Tryz.f8) 2 [])) ⟨AM 177 [(1,.i i),(2,.ints pos),(3,.ref 0 0),(7,.ints x7),(9,.ref 1 0),(10,.i AW),(13,.msl 2 1 0 (([]:List Int).length+pos.length)),(89,.ints ((q.cons.getD ((i).toNat) default).cells)),(90,.i ((((q.cons.getD ((i).toNat) default).cells).length:Nat):Int)),(91,.i DI)],[some (.cells (AD q)),some (.cells (AF (q.cons.getD ((i).toNat) default))),some (.ints o2)]⟩
 | .l3 x7 AQ Ci CX o2=>∀ m0:Nat,n<=m0 -> TW B N (FQ Tryz.f8 0 (.bool r) []) (A2 m0 (BA (AX Tryz.f8) 4 [])) ⟨AM 177 [(1,.i i),(2,.ints pos),(3,.ref 0 0),(7,.ints x7),(9,.ref 1 0),(13,.msl 2 1 0 (([]:List Int).length+pos.length)),(16,.bool AQ),(99,.i Ci),(100,.i CX)],[some (.cells (AD q)),some (.cells (AF (q.cons.getD ((i).toNat) default))),some (.ints o2)]⟩
 | .l4 x7 AQ A5 Ci CX E4 o2 o3=>∀ m0 m1:Nat,n<=m0 -> n<=m1 -> TW B N (FQ Tryz.f8 0 (.bool r) []) (A2 m1 (BA (AX Tryz.f8) 6 [m0])) ⟨AM 177 [(1,.i i),(2,.ints pos),(3,.ref 0 0),(7,.ints x7),(9,.ref 1 0),(13,.msl 2 1 0 (([]:List Int).length+pos.length)),(16,.bool AQ),(17,.i A5),(18,.msl 3 1 0 pos.length),(99,.i Ci),(100,.i CX),(107,.ints ((q.cons.getD ((i).toNat) default).cells)),(108,.i ((((q.cons.getD ((i).toNat) default).cells).length:Nat):Int)),(109,.i E4)],[some (.cells (AD q)),some (.cells (AF (q.cons.getD ((i).toNat) default))),some (.ints o2),some (.ints o3)]⟩
 | .l5 x7 AQ JC Ci CX DJ o2 o3=>∀ m0 m1:Nat,n<=m0 -> n<=m1 -> TW B N (FQ Tryz.f8 0 (.bool r) []) (A2 m1 (BA (AX Tryz.f8) 8 [m0])) ⟨AM 177 [(1,.i i),(2,.ints pos),(3,.ref 0 0),(7,.ints x7),(9,.ref 1 0),(13,.msl 2 1 0 (([]:List Int).length+pos.length)),(16,.bool AQ),(18,.msl 3 1 0 pos.length),(22,.bool JC),(99,.i Ci),(100,.i CX),(147,.ints ((q.cons.getD ((i).toNat) default).cells)),(148,.i ((((q.cons.getD ((i).toNat) default).cells).length:Nat):Int)),(149,.i DJ)],[some (.cells (AD q)),some (.cells (AF (q.cons.getD ((i).toNat) default))),some (.ints o2),some (.ints o3)]⟩
theorem pw (B:Nat) (N:Yd 0) (q:AA) (i:Int) (pos:List Int):Al (CB q i pos) (pv · B N q i pos):=ia (fun _=>rfl) fun n AG pt r h=>by
 cases pt
 case l1 x7 AW GB=>
  intro m0 AC;refine rd AC fun m0 AC=>?_
  revert r;apply gO;exact bi 72 (gc (gi (gi (cf aG [some (.cells (AD q)),some (.cells (AF (q.cons.getD ((i).toNat) default)))] fun _=>gw 81 (bi 83 (lE DM [6] []) (gw 84 (lG DM [0,1] (AG _ _ · m0 AC)))))))) (gi (lN DM [0,1,3] (AG _ _ · n Nat.le.refl)))
 case l2 x7 AW DI o2=>
  intro m0 AC;refine rd AC fun m0 AC=>?_
  revert r;apply gO;exact bi 92 (gc (gi (gc (gi (gc (gi (gw 98 (lG DM [0,1,2] (AG _ _ · m0 AC))))))))) (lN DM [0,1,2] (AG _ _ · n Nat.le.refl))
 case l3 x7 AQ Ci CX o2=>
  intro m0 AC;refine rd AC fun m0 AC=>?_
  revert r;apply gO;exact bi 101 (gi (lN DM [0,1,2,3] (AG _ _ · m0 n AC Nat.le.refl))) (bi 168 (gc (gi (gn fun g1=>cn fun y1 A7=>jc (sb [.ints x7,.msl 3 1 0 (([]:List Int).length+pos.length)] (VW A7) (tE q i o2 pos) ⟨Ab.plain (by kernel_rfl),Ab.ints rfl g1,trivial⟩) (lE DM [6] [])))) (gn fun g0=>cn fun y1 A7=>jc (sb [.ints x7,.msl 2 1 0 (([]:List Int).length+pos.length)] (VW A7) [some (.cells (AD q)),some (.cells (AF (q.cons.getD ((i).toNat) default))),some (.ints o2)] ⟨Ab.plain (by kernel_rfl),Ab.ints rfl g0,trivial⟩) (lE DM [6] [])))
 case l4 x7 AQ A5 Ci CX E4 o2 o3=>
  intro m0 m1 AC Ap;have AC:=zA AC;refine rd Ap fun m1 Ap=>?_
  revert r;apply gO;exact bi 110 (gc (gi (gn fun g1=>jg g1 (cf aG [some (.cells (AD q)),some (.cells (AF (q.cons.getD ((i).toNat) default))),some (.ints o2),some (.ints o3)] fun _=>jg lH (jg g1 (gn fun g2=>jg g2 (cf oE [some (.cells (AD q)),some (.cells (AF (q.cons.getD ((i).toNat) default))),some (.ints o2),some (.ints o3)] fun _=>jg g1 (gc (gi (jg g2 (gc (gw 131 (gw 132 (lG DM [0,1,2,3] (AG _ _ · m0 m1 AC Ap))))))))))))))) (gn fun g0=>cn fun y1 A7=>jc (sb [.agg 5 (L1 (AD q)),.i i,.msl 3 1 0 pos.length] (oe A7) [some (.cells (AD q)),some (.cells (AF (q.cons.getD ((i).toNat) default))),some (.ints o2),some (.ints o3)] ⟨Ab.plain (by kernel_rfl),Ab.plain (by kernel_rfl),Ab.ints rfl g0,trivial⟩) (bi 141 (lE DM [6] []) (bi 142 (lN DM [0,1,2,3] (AG _ _ · m0 n AC Nat.le.refl)) (lN DM [0,1,2,3] (AG _ _ · m0 n AC Nat.le.refl)))))
 case l5 x7 AQ JC Ci CX DJ o2 o3=>
  intro m0 m1 AC Ap;have AC:=zA AC;refine rd Ap fun m1 Ap=>?_
  revert r;apply gO;exact bi 150 (gi (bi 153 (jg lD (gc (gn fun g1=>jg g1 (gc (gn fun g2=>jg g2 (gc (gi (gc (gi (gc (gi (jg g1 (jg g2 (gw 165 (lG DM [0,1,2,3] (AG _ _ · m0 m1 AC Ap)))))))))))))))) (gw 165 (lG DM [0,1,2,3] (AG _ _ · m0 m1 AC Ap))))) (gw 166 (lG DM [0,1,2] (AG _ _ · m0 AC)))
theorem pr {n:Nat} {q:AA} {i:Int} {pos:List Int} {r:Bool} (h:cm n q i pos=some r):EQ 8 [.agg 5 (L1 (AD q)),.i i,.ints pos] [] (.bool r) [] true:=by
 have AG:=fun B N=>(pw B N q i pos n)
 refine ot Tryz.func8 fun B N=>?_
 revert r;apply gO;exact cf j0 [some (.cells (AD q))] fun _=>bi 27 (lE DM [6] []) (cf vN [some (.cells (AD q))] fun _=>bi 31 (lE DM [6] []) (cf V2 [some (.cells (AD q))] fun _=>bi 40 (lE DM [6] []) (cf Wq [some (.cells (AD q))] fun _=>bi 43 (lE DM [6] []) (gi (jt (bi 52 (bi 56 (bi 61 (bi 66 (lE DM [6] []) (lN DM [0,1] ((AG B N) _ _ · n Nat.le.refl))) (lN DM [0,1] ((AG B N) _ _ · n Nat.le.refl))) (lN DM [0,1] ((AG B N) _ _ · n Nat.le.refl))) (lN DM [0,1] ((AG B N) _ _ · n Nat.le.refl))))))))
end Go.Proofs.YtgkhhfnhacibcaaGreatDoor
namespace Go.Proofs.YtgkhhfnhacibcaaGreatDoor
open Go.RowKit
def E6 (x:Int) (i:Nat):List Nat:=(List.range' i (16-i)).filter fun s=>tb x s
theorem aN {x:Int} {i:Nat} (h:i<16):E6 x i=if tb x i then i::E6 x (i+1) else E6 x (i+1):=by
 unfold E6;rw [show 16-i=(16-(i+1))+1 by omega,zA5,List.filter_cons]
theorem jn {x:Int} {i:Nat} (h:16<=i):E6 x i= []:=by
 unfold E6;rw [show 16-i=0 by omega];rfl
theorem TB {x:Int} {s:Nat}:s∈E6 x 0↔s<16/\ tb x s=true:=by
 unfold E6;rw [z6,List.mem_range'_1];simp
theorem w4 (a:Int):bits .and .u64 a 1=bits .and .i64 a 1:=by
 show IntKind.u64.wrap ((BitVec.ofInt 64 a&&& BitVec.ofInt 64 1).toNat:Int)=IntKind.i64.wrap ((BitVec.ofInt 64 a&&& BitVec.ofInt 64 1).toNat:Int)
 have h:(BitVec.ofInt 64 a&&& BitVec.ofInt 64 1).toNat<=1:=by
  rw [BitVec.toNat_and];exact Nat.and_le_right
 generalize (BitVec.ofInt 64 a&&& BitVec.ofInt 64 1).toNat=m at h
 rw [IntKind.wrap_u64,zA4];omega
section
variable {x:Int}
theorem aK (h:Sm 16 x) {i:Nat} (h0:x/2 ^ i=0):E6 x i= []:=by
 have AU:x<2 ^ i:=by
  have hp:(0:Int)<2 ^ i:=Int.pow_pos (by decide);have:=Int.mul_ediv_add_emod x (2 ^ i);have hm:=Int.emod_lt_of_pos x hp;rw [h0] at this;simp at this;omega
 unfold E6;rw [List.filter_eq_nil_iff];intro s hs ht;rw [List.mem_range'_1] at hs;have:tb x s=false:=Sm.hi (k:=i) ⟨h.1,AU⟩ hs.1;rw [this] at ht;cases ht
theorem iE (h:Sm 16 x): ∀ (k i:Nat),i+k=16 -> Ev (fun n=>GW x n (.l1 (i:Int))) ((E6 x i).map fun (s:Nat)=>(s:Int))
 | 0,i,e=>by
  have h0:x/2 ^ i=0:=by
   rw [show i=16 by omega];exact Int.ediv_eq_zero_of_lt h.1 h.2
  refine Ev.one fun n=>?_
  show J6 n (GW x n) x (i:Int)=_
  unfold J6;rw [xw ⟨by omega,by show (i:Int)<=((64:Nat):Int);omega⟩,yB,h0,aK h h0];rfl
 | k+1,i,e=>by
  have ih:=iE h k (i+1) (by omega);have r1:AH ((i:Int)+1):=Ax.2 ⟨by omega,by omega⟩;have g:(0:Int)<=(i:Int)/\ (i:Int)<=(IntKind.u64.bits:Int):=⟨by omega,by show (i:Int)<=((64:Nat):Int);omega⟩
  by_cases h0:x/2 ^ i=0
  ·refine Ev.one fun n=>?_
   show J6 n (GW x n) x (i:Int)=_
   unfold J6;rw [xw g,yB,h0,aK h h0];rfl
  ·have step: ∀ n,GW x (n+1) (.l1 (i:Int))=bif tb x i then (GW x n (.l1 ((i+1:Nat):Int))).map (fun l=>(i:Int)::l) else GW x n (.l1 ((i+1:Nat):Int)):=fun n=>by
    show J6 n (GW x n) x (i:Int)=_
    unfold J6;rw [xw g,yB,zc.2 h0,yC,yG (by omega),yC,w4,VS h (by decide) (by omega),xw r1,show ((i+1:Nat):Int)=(i:Int)+1 by omega];cases tb x i
    ·rfl
    ·rw [yC,yC,xw g]
   rw [aN (by omega)];obtain ⟨N,ih⟩:=ih;refine ⟨N+1,fun n hn=>?_⟩;obtain ⟨n,rfl⟩: ∃ k,n=k+1:=⟨n-1,by omega⟩
   show GW x (n+1) (.l1 (i:Int))=_
   rw [step n,show GW x n (.l1 ((i+1:Nat):Int))=_ from ih n (by omega)];cases tb x i <;> rfl
theorem aF {n:Nat}: ∀ (l:List Int) (k:Nat),k+l.length<=64 -> Bn (Ry n) l (.s0 (k:Int))=some (.s0 ((k+l.length:Nat):Int))
 | [],k,_=>rfl
 | a::l,k,h=>by
  rw [zB] at h
  show (O1 n a (k:Int)).bind _=_
  unfold O1;rw [xw (Ax.2 ⟨by omega,by omega⟩),yF,show (k:Int)+1=((k+1:Nat):Int) by omega,aF l (k+1) (by omega),zB]
  congr 3
  omega
theorem aO:(E6 x 0).length<=16:=by
 unfold E6;exact yO (List.length_filter_le _ _) (by simp)
theorem aH (h:Sm 16 x):Ev (fun n=>Ld n x) ((E6 x 0).length:Int):=by
 have e:IntKind.u64.wrap x=x:=by
  have h1:=h.1;have h2:x<65536:=h.2;rw [IntKind.wrap_u64];omega
 have hl:=aO (x:=x);refine Ev.eq (Ev.bind (iE h 16 0 (by omega)) (b:=fun n y1=>(Bn (Ry n) y1 (.s0 0)).bind fun y2=>match y2 with | .s0 y=>some y) (Ev.now fun n=>?_)) fun n=>?_
 ·have:=aF (n:=n) ((E6 x 0).map fun (s:Nat)=>(s:Int)) 0 (by rw [zE];omega);rw [yU,zE] at this;rw [show ((0:Nat):Int)=0 from rfl] at this;rw [this];rfl
 ·show Rx n x=_
  unfold Rx;rw [e];rfl
theorem WN (h:Sm 16 x): ∀ (k i:Nat) (m n0:Int) (j:Nat),i+k=16 -> m=(j:Int) -> j<=100 -> Ev (fun n=>Jb x n0 n (.l1 m (i:Int))) (((E6 x i).getD j 0:Nat):Int)
 | 0,i,m,n0,j,e,hm,_=>by
  refine Ev.one fun n=>?_
  show Pp n (Jb x n0 n) x n0 m (i:Int)=_
  unfold Pp;rw [yA (by omega),xx,jn (by omega)];rfl
 | k+1,i,m,n0,j,e,hm,hj=>by
  have r1:AH ((i:Int)+1):=Ax.2 ⟨by omega,by omega⟩;have g:(0:Int)<=(i:Int)/\ (i:Int)<=(IntKind.i64.bits:Int):=⟨by omega,by show (i:Int)<=((64:Nat):Int);omega⟩
  have step: ∀ n,Jb x n0 (n+1) (.l1 m (i:Int))=bif tb x i then (bif (m==0) then some (i:Int) else Jb x n0 n (.l1 (m-1) ((i+1:Nat):Int))) else Jb x n0 n (.l1 m ((i+1:Nat):Int)):=fun n=>by
   show Pp n (Jb x n0 n) x n0 m (i:Int)=_
   unfold Pp;rw [yG (by omega),yC,xw g,yB,VS h (by decide) (by omega),xw r1,xw ⟨Ax.2 ⟨by omega,by omega⟩,r1⟩,show ((i+1:Nat):Int)=(i:Int)+1 by omega]
  rw [aN (by omega)];cases hb:tb x i with
  | false=>
   rw [yK zo];exact BG.ev (BG.one fun n=>by rw [step n,hb,xx]) (WN h k (i+1) m n0 j (by omega) hm hj)
  | true=>
   rw [xw rfl];cases j with
   | zero=>
    refine Ev.one fun n=>?_
    rw [step n,hb,yC,hm];rfl
   | succ j=>
    refine BG.ev (BG.one fun n=>?_) (WN h k (i+1) (m-1) n0 j (by omega) (by omega) (by omega));rw [step n,hb,yC,zI.2 (by omega),xx]
end
/-! ### Choices by number-/
section
variable {c:AB} {pos:List Int}
def Fs (c:AB) (pos:List Int) (a:Nat):List Nat:=E6 (A0 c pos a) 0
def CK (c:AB) (pos:List Int):Nat -> Nat
 | 0=>1
 | a+1=>CK c pos a*(Fs c pos a).length
def nA (c:AB) (pos:List Int) (n:Nat):Nat -> Nat
 | 0=>n
 | a+1=>nA c pos n a/(Fs c pos a).length
def pick (c:AB) (pos:List Int) (n a:Nat):Nat:=(Fs c pos a).getD (nA c pos n a % (Fs c pos a).length) 0
theorem Pw {n:Nat}: ∀ a,nA c pos n a=n/CK c pos a
 | 0=>by unfold nA CK;rw [Nat.div_one]
 | a+1=>by
  unfold nA CK;rw [Pw a,Nat.div_div_eq_div_mul]
theorem V3: ∀ (m a:Nat),a<=m -> CK c pos a ∣ CK c pos m
 | 0,a,h=>by rw [show a=0 by omega];exact Nat.dvd_refl _
 | m+1,a,h=>by
  by_cases e:a=m+1
  ·rw [e];exact Nat.dvd_refl _
  ·exact Nat.dvd_trans (V3 m a (by omega)) ⟨_,rfl⟩
theorem wh {n a:Nat} (hz:0<(Fs c pos a).length):tb (A0 c pos a) (pick c pos n a)=true/\ pick c pos n a<16:=by
 have hi:nA c pos n a % (Fs c pos a).length<(Fs c pos a).length:=zAZ _ hz
 have:pick c pos n a∈Fs c pos a:=by
  unfold pick;rw [u8,xy hi];exact yY hi
 have:=TB.1 this;exact ⟨this.2,this.1⟩
theorem V7 (f:Nat -> Nat): ∀ (m:Nat),(∀ a,a<m -> f a∈Fs c pos a) -> ∃ n,n<CK c pos m/\ ∀ a,a<m -> pick c pos n a=f a
 | 0,_=>⟨0,zu,fun a ha=>absurd ha (yN a)⟩
 | m+1,h=>by
  obtain ⟨n,hn,hp⟩:=V7 f m fun a ha=>h a (by omega)
  obtain ⟨i,hi,e⟩:=zR (h m (by omega));refine ⟨n+CK c pos m*i,?_,fun a ha=>?_⟩
  ·show _<CK c pos m*(Fs c pos m).length
   have:CK c pos m*i+CK c pos m<=CK c pos m*(Fs c pos m).length:=by
    rw [←Nat.mul_succ];exact Nat.mul_le_mul_left _ hi
   omega
  ·rcases yL.1 ha with ha | rfl
   ·rw [←hp a ha];unfold pick
    congr 1
    rw [Pw,Pw];obtain ⟨K,hK⟩:=V3 (c:=c) (pos:=pos) m (a+1) (by omega)
    have h0:0<CK c pos a:=by
     rcases zg (CK c pos a) with e0 | e0
     ·have:CK c pos m=0:=by
       obtain ⟨K',ua⟩:=V3 (c:=c) (pos:=pos) m a (by omega);rw [ua,e0,Nat.zero_mul]
      omega
     ·exact e0
    have e1:CK c pos m*i=CK c pos a*((Fs c pos a).length*(K*i)):=by
     rw [hK]
     show CK c pos a*(Fs c pos a).length*K*i=_
     rw [Nat.mul_assoc,Nat.mul_assoc]
    rw [e1,Nat.add_mul_div_left _ _ h0,Nat.add_mul_mod_self_left]
   ·unfold pick;have h0:0<CK c pos a:=by omega
    rw [Pw,Nat.add_mul_div_left _ _ h0,zA1 hn,yU,zAD hi,u8,xy hi];exact e
end
end Go.Proofs.YtgkhhfnhacibcaaGreatDoor
namespace Go.Proofs.YtgkhhfnhacibcaaGreatDoor
open Go.RowKit
theorem aT {a b:List Int} {n:Nat} (hl:a.length<=LB) (hn:a.length<n):same n a b=some (decide (a=b)):=by
 have hb:LB<=9223372036854775806:=by decide
 unfold same aS
 by_cases A3:a.length=b.length
 ·have e:((a.length:Int) != (b.length:Int))=false:=by rw [A3];simp
  rw [e,xx]
  have key: ∀ (k i n:Nat),i+k=a.length -> k+1<=n -> NG a b n (.l1 (i:Int))=some (decide (a.drop i=b.drop i)):=by
   intro k
   induction k with
   | zero=>
    intro i n e hn;obtain ⟨n,rfl⟩: ∃ k,n=k+1:=⟨n-1,by omega⟩
    show PB n (NG a b n) a b (i:Int)=_
    unfold PB;rw [yA (by omega),xx,zJ (by omega),zJ (by omega)];rfl
   | succ k ih=>
    intro i n e hn;obtain ⟨n,rfl⟩: ∃ k,n=k+1:=⟨n-1,by omega⟩;have hi:i<a.length:=by omega
    have BM:i<b.length:=by omega
    have d: ∀ {l:List Int},i<l.length -> l.drop i=l.getD i 0::l.drop (i+1):=fun {l} h=>by
     rw [ym h,u8,xy h];rfl
    have:=ih (i+1) n (by omega) (by omega)
    show PB n (NG a b n) a b (i:Int)=_
    unfold PB;rw [yG (by omega),yC,xw ⟨⟨by omega,by omega⟩,by omega,by omega⟩,yB,xw (Ax.2 ⟨by omega,by omega⟩),d hi,d BM]
    by_cases h:a.getD i 0=b.getD i 0
    ·have:(a.getD i 0 != b.getD i 0)=false:=by rw [h];simp
     rw [this,xx];refine Eq.trans (by assumption) ?_;rw [h];simp
    ·have:(a.getD i 0 != b.getD i 0)=true:=by simpa using h
     rw [this,yC,yA fun e=>h (List.cons.inj e).1]
  exact key a.length 0 n (by omega) (by omega)
 ·have e:((a.length:Int) != (b.length:Int))=true:=by simp;omega
  rw [e,yC,yA fun h=>A3 (by rw [h])]
section
variable {q:AA} {i:Int} {pos x:List Int}
theorem j9:Ev PA true:=⟨200,fun n hn=>by
 obtain ⟨k,rfl⟩: ∃ k,n=k+200:=⟨n-200,by omega⟩;exact (show ∀ k,PA (k+200)=some true from fun k=>by kernel_rfl) k⟩
theorem po {n:Nat -> Option Bool} {f:Nat -> Option Bool} (h: ∀ m,n m=(PA m).bind fun y1=>bif (!y1) then some false else (OG m q pos).bind fun y2=>bif (!y2) then some true else f m) (hf:Ev f true):Ev n true:=by
 obtain ⟨N,hs⟩:=j9;obtain ⟨M,hf⟩:=hf;refine ⟨N+M+q.cons.length+1,fun m hm=>?_⟩;obtain ⟨b,hb⟩:=vM (q:=q) (pos:=pos) (n:=m) (by omega);rw [h,hs m (by omega),yF,hb,yF,hf m (by omega)];cases b <;> rfl
end
end Go.Proofs.YtgkhhfnhacibcaaGreatDoor
namespace Go.Proofs.YtgkhhfnhacibcaaGreatDoor
open Go.RowKit
section
variable {q:AA} {i:Int} {pos x:List Int}
def cl (q:AA) (i:Int) (a:Nat):Nat:=((con q i).cells.getD a 0).toNat
structure Wn (q:AA) (i:Int) (pos:List Int) (n n' b:Nat) (o:List Int):Prop where
 len:o.length=pos.length
 out: ∀ j,j<pos.length -> (∀ a,a<(con q i).cells.length -> cl q i a≠j) -> o.getD j 0=pos.getD j 0
 inn: ∀ a,a<(con q i).cells.length -> B9 (o.getD (cl q i a) 0)/\ ∀ s,tb (o.getD (cl q i a) 0) s=true↔∃ m,m<(if a<b then n' else n)/\ Mf q (con q i) (pick (con q i) pos m)/\ pick (con q i) pos m a=s
structure Ex (q:AA) (i:Int) (pos:List Int):Prop where
 C:Bp q i pos
 nd:Fe pos=false
 k:(con q i).kind=4∨(con q i).kind=5∨(con q i).kind=6∨(con q i).kind=7
theorem Ex.cell (E:Ex q i pos) {a:Nat} (ha:a<(con q i).cells.length):(con q i).cells.getD a 0=(cl q i a:Int)/\ cl q i a<pos.length:=by
 have:=E.C.work.cells a ha;unfold cl;omega
theorem Ex.sm (E:Ex q i pos) {a:Nat} (ha:a<(con q i).cells.length):Sm 16 (A0 (con q i) pos a):=by
 have h:=E.C.work.at ha;have hk:=E.C.work.k;refine ⟨h.1,Int.lt_of_lt_of_le h.2 ?_⟩;have:(2:Nat) ^ q.symbols.toNat<=2 ^ 16:=zAe (by decide) hk
 exact_mod_cast this
theorem Ex.ne (E:Ex q i pos) {a:Nat} (ha:a<(con q i).cells.length):0<(Fs (con q i) pos a).length/\ (Fs (con q i) pos a).length<=16:=by
 refine ⟨?_,aO⟩;have hc:=(E.cell ha).2;have h:=J1.1 E.nd (cl q i a) hc;obtain ⟨s,_,h2⟩:=(JI ((E.sm ha).in64 (by decide))).1 h;have:s∈Fs (con q i) pos a:=TB.2 ⟨zC fun CC=>(by rw [(E.sm ha).hi CC] at h2;cases h2),h2⟩;exact List.length_pos_of_mem this
theorem Ex.pick (E:Ex q i pos) {n a:Nat} (ha:a<(con q i).cells.length):tb (A0 (con q i) pos a) (pick (con q i) pos n a)=true/\ pick (con q i) pos n a<q.symbols.toNat:=by
 have h:=wh (n:=n) (E.ne ha).1;exact ⟨h.1,E.C.work.sym ha h.1⟩
theorem Ex.small (E:Ex q i pos):(con q i).cells.length<=256/\ pos.length<=256:=⟨E.C.work.len,E.C.len256.2⟩
theorem vS (E:Ex q i pos) (hx:PR q (con q i) pos x) {o:List Int} {N:Nat} {b:Bool} (hN:N=CK (con q i) pos (con q i).cells.length) (hW:Wn q i pos N N 0 o) (hb:b=true↔∃ m,m<N/\ Mf q (con q i) (pick (con q i) pos m)):
 (b=true -> x=o)/\ (b=false -> x=List.replicate pos.length 0):=by
 have C:=E.C
 have all:(∃ f,Ch (con q i) pos f/\ Mf q (con q i) f)↔∃ m,m<N/\ Mf q (con q i) (pick (con q i) pos m):=by
  constructor
  ·rintro ⟨f,f1,f2⟩;obtain ⟨m,m1,m2⟩:=V7 (c:=con q i) (pos:=pos) f (con q i).cells.length fun a ha=>TB.2 ⟨by have:=C.work.sym ha (f1 a ha);have:=C.work.k;omega,f1 a ha⟩
   refine ⟨m,by rw [hN];exact m1,?_⟩;have e4:FN q 0 (con q i).cells.length f -> FN q 0 (con q i).cells.length (Proofs.YtgkhhfnhacibcaaGreatDoor.pick (con q i) pos m):=fun h a h0 ha=>by rw [m2 a (by omega),m2 (a+1) ha];exact h a h0 ha
   refine ⟨fun h=>e4 (f2.1 h),fun h=>?_,fun h=>?_,fun h=>?_⟩
   ·rw [←f2.2.1 h];exact NM _ _ (yS _) fun a ha=>by rw [m2 a ha]
   ·have:=C.two (.inl h);rw [m2 0 (by omega),m2 1 (by omega)];exact f2.2.2.1 h
   ·have:=C.two (.inr h);rw [m2 0 (by omega),m2 1 (by omega)];exact f2.2.2.2 h
  ·rintro ⟨m,_,m2⟩;exact ⟨_,fun a ha=>(E.pick ha).1,m2⟩
 have hA:=xj C E.nd E.k;constructor
 ·intro h1;have H4:Ra q (con q i) pos:=hA.2 (all.2 (hb.1 h1));refine zAH (by rw [hx.len,hW.len]) fun j h1 h2=>?_
  have hj:j<pos.length:=by rw [←hx.len];exact h1
  have e1:x.getD j 0=x[j]:=by simp [h1]
  have e2:o.getD j 0=o[j]:=by simp [h2]
  rw [←e1,←e2];obtain ⟨hi,hs⟩:=hx.live H4 j hj
  by_cases hc: ∃ a,a<(con q i).cells.length/\ cl q i a=j
  ·obtain ⟨a,ha,rfl⟩:=hc;obtain ⟨w1,w2⟩:=hW.inn a ha;refine LV hi w1 fun s _=>?_
   rw [za,hs,w2];constructor
   ·rintro ⟨h3,h4⟩;have Ew: ¬ DQ q (con q i) pos a s:=fun hl=>h4 ⟨a,ha,rfl,hl⟩
    obtain ⟨f,f1,f2,f3⟩:=(Wc C.work C.vals C.runs1 E.k C.two ha h3).1 Ew;obtain ⟨m,m1,m2⟩:=V7 (c:=con q i) (pos:=pos) f (con q i).cells.length fun a ha=>TB.2 ⟨by have:=C.work.sym ha (f1 a ha);have:=C.work.k;omega,f1 a ha⟩
    refine ⟨m,by rw [yK (by omega),hN];exact m1,⟨fun h a h0 ha=>?_,fun h=>?_,fun h=>?_,fun h=>?_⟩,by rw [m2 a ha,f3]⟩
    ·rw [m2 a (by omega),m2 (a+1) ha];exact f2.1 h a h0 ha
    ·rw [←f2.2.1 h];exact NM _ _ (yS _) fun a ha=>by rw [m2 a ha]
    ·have:=C.two (.inl h);rw [m2 0 (by omega),m2 1 (by omega)];exact f2.2.2.1 h
    ·have:=C.two (.inr h);rw [m2 0 (by omega),m2 1 (by omega)];exact f2.2.2.2 h
   ·rintro ⟨m,_,m2,m3⟩;have hp:=(E.pick (n:=m) ha).1;rw [m3] at hp;refine ⟨hp,fun ⟨b,eO,e,hl⟩=>?_⟩;have:=Yb C eO ha e;subst this;exact (Wc C.work C.vals C.runs1 E.k C.two eO hp).2 ⟨_,fun a ha=>(E.pick ha).1,m2,m3⟩ hl
  ·have EE: ∀ a,a<(con q i).cells.length -> cl q i a≠j:=fun a ha e=>hc ⟨a,ha,e⟩
   rw [hW.out j hj EE];refine LV hi ((C.sm j hj).in64 (yO C.work.k (by decide))) fun s _=>?_
   rw [za,hs];exact ⟨fun h=>h.1,fun h=>⟨h,fun ⟨a,ha,e,_⟩=>EE a ha e⟩⟩
 ·intro h0;refine hx.dead fun H4=>?_
  have:=hb.2 (all.1 (hA.1 H4));rw [h0] at this;cases this
theorem Jt:q.cons.getD i.toNat default=con q i:=rfl
structure Gn (q:AA) (i:Int) (pos:List Int) (n a:Nat) (o:List Int):Prop where
 len:o.length=pos.length
 rng: ∀ j,j<pos.length -> 0<=o.getD j 0/\ o.getD j 0<q.symbols
 at_: ∀ b,b<a -> o.getD (cl q i b) 0=(pick (con q i) pos n b:Int)
theorem Ex.inj (E:Ex q i pos) {a b:Nat} (ha:a<(con q i).cells.length) (hb:b<(con q i).cells.length) (h:cl q i a=cl q i b):a=b:=Yb E.C ha hb h
section
variable (E:Ex q i pos) (hx:PR q (con q i) pos x)
include E hx
theorem qD {o:List Int} {N:Nat} {b:Bool} (hN:N=CK (con q i) pos (con q i).cells.length) (hW:Wn q i pos N N 0 o) (hb:b=true↔∃ m,m<N/\ Mf q (con q i) (pick (con q i) pos m)):Ev (fun n=>CB q i pos n (.l3 x b (N:Int) (N:Int) o)) true:=by
 have hs:=E.small;have lb:(256:Nat)<=LB:=by decide
 obtain ⟨h1,h2⟩:=vS E hx hN hW hb;have hl:=hW.len;refine Ev.oneN 300 fun n hn=>?_
 show QA n (CB q i pos n) q i pos x b (N:Int) (N:Int) o=_
 unfold QA;rw [yA (by omega),xx];simp only [zD,yU];cases b with
 | false=>
  have e:=h2 rfl;rw [zH,yC,xw ⟨⟨trivial,by omega,by omega⟩,yQ.symm⟩,e,aT (by rw [yQ];omega) (by rw [yQ];omega),yG rfl];rfl
 | true=>
  have e:=h1 rfl;rw [yw,xx,xw hl.symm,e,aT (by omega) (by omega),yG rfl];rfl
theorem Wk {N n:Nat} {b ok:Bool} {g:List Int} (hn:n<100000) (hG:Gn q i pos n (con q i).cells.length g) (CG:ok=true↔Mf q (con q i) (pick (con q i) pos n)) (rest: ∀ o,Wn q i pos (n+1) (n+1) 0 o -> Ev (fun k=>CB q i pos k (.l3 x b (N:Int) ((n+1:Nat):Int) o)) true):
 ∀ (k a:Nat) (o:List Int),a+k=(con q i).cells.length -> Wn q i pos n (n+1) a o -> Ev (fun m=>CB q i pos m (.l5 x b ok (N:Int) (n:Int) (a:Int) o g)) true
 | 0,a,o,e,hW=>by
  have B6:=E.small;have ea:a=(con q i).cells.length:=by omega
  subst ea;refine BG.ev (BG.one fun m=>?_) (rest o ⟨hW.len,hW.out,fun b hb=>?_⟩)
  ·show L9 m (CB q i pos m) q i pos x b ok (N:Int) (n:Int) ((con q i).cells.length:Int) o g=_
   unfold L9;rw [Jt,yA (by omega),xx,xw (Ax.2 ⟨by omega,by omega⟩),show ((n+1:Nat):Int)=(n:Int)+1 by omega]
  ·have:=hW.inn b hb;rw [xw hb] at this;rw [yK (by omega)];exact this
 | k+1,a,o,e,hW=>by
  have B6:=E.small;have ha:a<(con q i).cells.length:=by omega
  obtain ⟨c1,c2⟩:=E.cell ha;have ct:((con q i).cells.getD a 0).toNat=cl q i a:=rfl;have r1:AH ((a:Int)+1):=Ax.2 ⟨by omega,by omega⟩;have hg:=hG.at_ a ha;have hp:=(E.pick (n:=n) ha).2;have hk:=E.C.work.k;have hl:=hW.len;have Ca:=hG.len;obtain ⟨w1,w2⟩:=hW.inn a ha;rw [yK (zA7 a)] at w2;cases ok with
  | false=>
   have EE: ¬ Mf q (con q i) (pick (con q i) pos n):=fun h=>by have:=CG.2 h;cases this
   refine BG.ev (BG.one fun m=>?_) (Wk hn hG CG rest k (a+1) o (by omega) ⟨hW.len,hW.out,fun b hb=>?_⟩)
   ·show L9 m (CB q i pos m) q i pos x b false (N:Int) (n:Int) (a:Int) o g=_
    unfold L9;rw [Jt,yG (by omega),yC,xw ⟨by omega,by omega⟩,xx,xw r1,show ((a+1:Nat):Int)=(a:Int)+1 by omega]
   ·obtain ⟨v1,v2⟩:=hW.inn b hb;refine ⟨v1,fun s=>?_⟩;rw [v2]
    by_cases e1:b=a
    ·subst e1;rw [yK (zA7 b),xw (by omega)];constructor
     ·rintro ⟨m,m1,m2⟩;exact ⟨m,by omega,m2⟩
     ·rintro ⟨m,m1,m2⟩;refine ⟨m,?_,m2⟩;rcases yL.1 m1 with h | rfl
      ·exact h
      ·exact absurd m2.1 EE
    ·by_cases e2:b<a
     ·rw [xw e2,xw (by omega)]
     ·rw [yK e2,yK (by omega)]
  | true=>
   have qy:=CG.1 rfl;refine BG.ev (BG.one fun m=>?_) (Wk hn hG CG rest k (a+1) (o.set (cl q i a) (bits .or .i64 (o.getD (cl q i a) 0) (IntKind.i64.wrap (1*2 ^ pick (con q i) pos n a)))) (by omega) ⟨by rw [yW];exact hW.len,fun j hj EE=>?_,fun b hb=>?_⟩)
   ·show L9 m (CB q i pos m) q i pos x b true (N:Int) (n:Int) (a:Int) o g=_
    unfold L9;simp only [zD,yU];rw [Jt,yG (by omega),yC,xw ⟨by omega,by omega⟩,yC,yB,ct,hg,xw ⟨⟨by omega,by omega⟩,by omega,⟨by omega,by omega⟩,by omega,⟨by omega,by show _<=((64:Nat):Int);omega⟩,r1⟩,yB,show ((a+1:Nat):Int)=(a:Int)+1 by omega]
   ·rw [getD_set_ne (EE a ha)];exact hW.out j hj EE
   ·by_cases e1:b=a
    ·subst e1;rw [HN (by omega),xw (by omega)];refine ⟨HP _ _ _,fun s=>?_⟩;rw [IS,JH (by omega),yX,w2,yP];constructor
     ·rintro (⟨m,m1,m2⟩ | h)
      ·exact ⟨m,by omega,m2⟩
      ·exact ⟨n,by omega,qy,h⟩
     ·rintro ⟨m,m1,m2⟩;rcases yL.1 m1 with h | rfl
      ·exact .inl ⟨m,h,m2⟩
      ·exact .inr m2.2
    ·rw [getD_set_ne fun h=>e1 (E.inj hb ha h.symm)];obtain ⟨v1,v2⟩:=hW.inn b hb;refine ⟨v1,fun s=>?_⟩;rw [v2]
     by_cases e2:b<a
     ·rw [xw e2,xw (by omega)]
     ·rw [yK e2,yK (by omega)]
theorem cq {N n:Nat} {b:Bool} {o:List Int} (hn:n<100000) (rest: ∀ (ok:Bool) (g:List Int),Gn q i pos n (con q i).cells.length g -> (ok=true↔Mf q (con q i) (pick (con q i) pos n)) -> Ev (fun k=>CB q i pos k (.l5 x (b||ok) ok (N:Int) (n:Int) 0 o g)) true):
 ∀ (k a:Nat) (g:List Int),a+k=(con q i).cells.length -> Gn q i pos n a g -> Ev (fun m=>CB q i pos m (.l4 x b (nA (con q i) pos n a:Int) (N:Int) (n:Int) (a:Int) o g)) true
 | 0,a,g,e,hG=>by
  have B6:=E.small;have ea:a=(con q i).cells.length:=by omega
  subst ea;have Ca:=hG.len;have G:Gd q g:=⟨by rw [Ca];exact E.C.len,fun j hj=>hG.rng j (by omega)⟩
  have XB: ∀ a,a<(con q i).cells.length -> Ao (con q i) g a=pick (con q i) pos n a:=fun a ha=>by
   unfold Ao;have:=hG.at_ a ha;unfold cl at this;rw [this,yB]
  have lb:(256:Nat)<=LB:=by decide
  obtain ⟨⟨ok,er⟩,⟨M,r1⟩,r2,r3⟩:=og (i:=i) (g:=g) E.C.fit (by omega);have e0:er=0:=r2.2 ⟨E.C.valid,G,E.C.i0,E.C.i1⟩;subst e0;have CG:ok=true↔Mf q (con q i) (pick (con q i) pos n):=(r3 rfl).trans (oc E.k E.C.two XB);refine BG.ev (BG.oneN M fun m hm=>?_) (rest ok g hG CG)
  show P9 m (CB q i pos m) q i pos x b _ (N:Int) (n:Int) ((con q i).cells.length:Int) o g=_
  unfold P9;rw [Jt,yA (by omega),xx,xw Ca.symm,show Py m q i g=some (ok,0) from r1 m hm,yF]
  show (bif ((0:Int) != 0) then _ else _)=_
  rw [zAV,xx];cases b
  ·rw [xx,zj]
  ·rw [yC,Bool.true_or]
 | k+1,a,g,e,hG=>by
  have B6:=E.small;have ha:a<(con q i).cells.length:=by omega
  obtain ⟨c1,c2⟩:=E.cell ha;have ct:((con q i).cells.getD a 0).toNat=cl q i a:=rfl;have cs:pos.getD (cl q i a) 0=A0 (con q i) pos a:=rfl;have hp:=(E.pick (n:=n) ha).2;have Ca:=hG.len;obtain ⟨z0,z1⟩:=E.ne ha;have tQ:nA (con q i) pos n a<=n:=by rw [Pw];exact Nat.div_le_self _ _
  obtain ⟨M1,s1⟩:=aH (E.sm ha);obtain ⟨M2,s2⟩:=WN (E.sm ha) 16 0 (((nA (con q i) pos n a % (Fs (con q i) pos a).length:Nat)):Int) (((nA (con q i) pos n a % (Fs (con q i) pos a).length:Nat)):Int) (nA (con q i) pos n a % (Fs (con q i) pos a).length) (by omega) rfl (by have:=zAZ (nA (con q i) pos n a) z0;omega);refine BG.ev (BG.oneN (max M1 M2) fun m hm=>?_) (cq hn rest k (a+1) (g.set (cl q i a) (pick (con q i) pos n a:Int)) (by omega) ⟨by rw [yW];exact Ca,fun j hj=>?_,fun b' Cd=>?_⟩)
  ·have e1:Ld m (A0 (con q i) pos a)=some ((Fs (con q i) pos a).length:Int):=s1 m (by omega);have e2:WO m (A0 (con q i) pos a) (((nA (con q i) pos n a % (Fs (con q i) pos a).length:Nat)):Int)=some (pick (con q i) pos n a:Int):=s2 m (by omega);have t1:Int.tmod (nA (con q i) pos n a:Int) ((Fs (con q i) pos a).length:Int)=((nA (con q i) pos n a % (Fs (con q i) pos a).length:Nat):Int):=by rw [Int.tmod_eq_emod_of_nonneg (by omega)];rfl
   have t2:Int.tdiv (nA (con q i) pos n a:Int) ((Fs (con q i) pos a).length:Int)=((nA (con q i) pos n a/(Fs (con q i) pos a).length:Nat):Int):=by rw [Int.tdiv_eq_ediv_of_nonneg (by omega)];rfl
   have hd:nA (con q i) pos n a/(Fs (con q i) pos a).length<=n:=yO (Nat.div_le_self _ _) tQ;have hmd:=zAZ (nA (con q i) pos n a) z0
   show P9 m (CB q i pos m) q i pos x b (nA (con q i) pos n a:Int) (N:Int) (n:Int) (a:Int) o g=_
   unfold P9;rw [Jt,yG (by omega),yC,yB,xw ⟨⟨by omega,by omega⟩,by omega,by omega⟩,ct,cs,e1,yF,xw (by omega),t1,e2,yF,t2]
   generalize ed:nA (con q i) pos n a/(Fs (con q i) pos a).length=d at hd
   rw [yU,xw ⟨by omega,Ax.2 ⟨by omega,by omega⟩,Ax.2 ⟨by omega,by omega⟩⟩,show ((a+1:Nat):Int)=(a:Int)+1 by omega];rw [←ed];rfl
  ·by_cases e1:cl q i a=j
   ·subst e1;rw [HN (by omega)];omega
   ·rw [getD_set_ne e1];exact hG.rng j hj
  ·by_cases e1:b'=a
   ·subst e1;rw [HN (by omega)]
   ·rw [getD_set_ne fun h=>e1 (E.inj (by omega) ha h.symm)];exact hG.at_ b' (by omega)
theorem cr {N:Nat} (hN:N=CK (con q i) pos (con q i).cells.length) (Ty:N<=2000): ∀ (k n:Nat) (b:Bool) (o:List Int),n+k=N -> Wn q i pos n n 0 o -> (b=true↔∃ m,m<n/\ Mf q (con q i) (pick (con q i) pos m)) -> Ev (fun m=>CB q i pos m (.l3 x b (N:Int) (n:Int) o)) true
 | 0,n,b,o,e,hW,hb=>by
  have en:n=N:=by omega
  subst en;exact qD E hx hN hW hb
 | k+1,n,b,o,e,hW,hb=>by
  have B6:=E.small;have XB:=(Hc E.C.valid).2.1;refine BG.ev (BG.one (b:=.l4 x b (nA (con q i) pos n 0:Int) (N:Int) (n:Int) ((0:Nat):Int) o (List.replicate pos.length 0)) fun m=>?_) (cq E hx (by omega) (fun ok g hG CG=>?_) (con q i).cells.length 0 (List.replicate pos.length 0) (by omega) ⟨yQ,fun j hj=>?_,fun b hb=>absurd hb (yN b)⟩)
  ·show QA m (CB q i pos m) q i pos x b (N:Int) (n:Int) o=_
   unfold QA;rw [yG (by omega),yC,xw ⟨rfl,by omega,by omega⟩];rfl
  ·refine Wk E hx (by omega) hG CG (fun o' Mc=>cr hN Ty k (n+1) (b||ok) o' (by omega) Mc ?_) (con q i).cells.length 0 o (by omega) ⟨hW.len,hW.out,fun a ha=>?_⟩
   ·rw [yX,hb,CG];constructor
    ·rintro (⟨m,m1,m2⟩ | h)
     ·exact ⟨m,by omega,m2⟩
     ·exact ⟨n,by omega,h⟩
    ·rintro ⟨m,m1,m2⟩;rcases yL.1 m1 with h | rfl
     ·exact .inl ⟨m,h,m2⟩
     ·exact .inr m2
   ·have:=hW.inn a ha;rw [yK (yN a)] at this ⊢;exact this
  ·rw [Uz];omega
theorem cu {N:Nat} (hN:N=CK (con q i) pos (con q i).cells.length) (Ty:N<=2000): ∀ (k a:Nat) (o:List Int),a+k=(con q i).cells.length -> o.length=pos.length -> (∀ j,j<pos.length -> (∀ b,b<a -> cl q i b≠j) -> o.getD j 0=pos.getD j 0) -> (∀ b,b<a -> o.getD (cl q i b) 0=0) -> Ev (fun m=>CB q i pos m (.l2 x (N:Int) (a:Int) o)) true
 | 0,a,o,e,hl,h1,h2=>by
  have ea:a=(con q i).cells.length:=by omega
  subst ea;refine BG.ev (BG.one fun m=>?_) (cr E hx hN Ty N 0 false o (by omega) ⟨hl,h1,fun b hb=>?_⟩ (zAN (by decide) fun ⟨m,hm,_⟩=>absurd hm (yN m)))
  ·show QB m (CB q i pos m) q i pos x (N:Int) ((con q i).cells.length:Int) o=_
   unfold QB;rw [Jt,yA (by omega),xx];rfl
  ·rw [h2 b hb];refine ⟨⟨by decide,by decide⟩,fun s=>?_⟩;rw [Oj,yK (yN b)];exact zAN (by decide) fun ⟨m,hm,_⟩=>absurd hm (yN m)
 | k+1,a,o,e,hl,h1,h2=>by
  have B6:=E.small;have ha:a<(con q i).cells.length:=by omega
  obtain ⟨c1,c2⟩:=E.cell ha;have ct:((con q i).cells.getD a 0).toNat=cl q i a:=rfl;refine BG.ev (BG.one fun m=>?_) (cu hN Ty k (a+1) (o.set (cl q i a) 0) (by omega) (by rw [yW];exact hl) (fun j hj EE=>?_) fun b hb=>?_)
  ·show QB m (CB q i pos m) q i pos x (N:Int) (a:Int) o=_
   unfold QB;simp only [zD,yU];rw [Jt,yG (by omega),yC,yB,ct,xw ⟨⟨by omega,by omega⟩,⟨by omega,by omega⟩,by omega,Ax.2 ⟨by omega,by omega⟩⟩,show ((a+1:Nat):Int)=(a:Int)+1 by omega]
  ·rw [getD_set_ne (EE a (by omega))];exact h1 j hj fun b hb=>EE b (by omega)
  ·by_cases e1:b=a
   ·subst e1;rw [HN (by omega)]
   ·rw [getD_set_ne fun h=>e1 (E.inj (by omega) ha h.symm)];exact h2 b (by omega)
theorem cw: ∀ (k a:Nat),a+k=(con q i).cells.length -> CK (con q i) pos a<=2000 -> Ev (fun m=>CB q i pos m (.l1 x (CK (con q i) pos a:Int) (a:Int))) true
 | 0,a,e,h=>by
  have B6:=E.small;have ea:a=(con q i).cells.length:=by omega
  subst ea;have L:(1000000000000:Nat)=As:=rfl;refine BG.ev (BG.one fun m=>?_) (cu E hx rfl h (con q i).cells.length 0 pos (by omega) rfl (fun j _ _=>rfl) fun b hb=>absurd hb (yN b))
  show QC m (CB q i pos m) q i pos x _ ((con q i).cells.length:Int)=_
  unfold QC;rw [Jt,yA (by omega),xx];simp only [zD,yU,zW];rw [xw ⟨trivial,⟨trivial,trivial⟩,by rw [←L];omega⟩];rfl
 | k+1,a,e,h=>by
  have B6:=E.small;have ha:a<(con q i).cells.length:=by omega
  obtain ⟨c1,c2⟩:=E.cell ha;have ct:((con q i).cells.getD a 0).toNat=cl q i a:=rfl;have cs:pos.getD (cl q i a) 0=A0 (con q i) pos a:=rfl;obtain ⟨z0,z1⟩:=E.ne ha;obtain ⟨M1,s1⟩:=aH (E.sm ha)
  have hm:(CK (con q i) pos a:Int)*((Fs (con q i) pos a).length:Int)=((CK (con q i) pos (a+1):Nat):Int):=by
   show _=((CK (con q i) pos a*(Fs (con q i) pos a).length:Nat):Int)
   simp
  have hb:CK (con q i) pos (a+1)<=2000*16:=zBE h z1
  have step: ∀ m,M1<=m -> CB q i pos (m+1) (.l1 x (CK (con q i) pos a:Int) (a:Int))=bif decide ((CK (con q i) pos (a+1):Int)>2000) then some true else CB q i pos m (.l1 x (CK (con q i) pos (a+1):Int) ((a+1:Nat):Int)):=fun m Ap=>by
   have e1:Ld m (A0 (con q i) pos a)=some ((Fs (con q i) pos a).length:Int):=s1 m Ap
   show QC m (CB q i pos m) q i pos x _ (a:Int)=_
   unfold QC;rw [Jt,yG (by omega),yC,yB,ct,xw ⟨⟨by omega,by omega⟩,by omega,by omega⟩,cs,e1,yF,hm,xw (Ax.2 ⟨by omega,by omega⟩),xw (Ax.2 ⟨by omega,by omega⟩),show ((a+1:Nat):Int)=(a:Int)+1 by omega]
  by_cases h2:CK (con q i) pos (a+1)<=2000
  ·exact BG.ev (BG.oneN M1 fun m Ap=>by rw [step m Ap,yA (by omega),xx]) (cw k (a+1) (by omega) h2)
  ·exact Ev.oneN M1 fun m Ap=>by rw [step m Ap,yG (by omega),yC]
end
theorem pq (q:AA) (i:Int) (pos:List Int) (hF:Ff q) (hl:pos.length<=LB):Ev (fun n=>cm n q i pos) true:=by
 refine po (q:=q) (pos:=pos) (f:=fun n=>(JV n q i pos).bind fun y3=>bif (y3.2 != 0) then some true else (Jj n pos).bind fun y4=>bif y4 then some true else
  if 0<=i/\ i<(q.cons.length:Int) then
   bif ((con q i).kind != 4) then bif ((con q i).kind != 5) then bif ((con q i).kind != 6) then bif ((con q i).kind != 7) then some true
    else CB q i pos n (.l1 y3.1 1 0) else CB q i pos n (.l1 y3.1 1 0) else CB q i pos n (.l1 y3.1 1 0) else CB q i pos n (.l1 y3.1 1 0)
  else none) (fun n=>rfl) ?_
 by_cases hp:GT q i pos=0
 ·have C:=Bp.of hF hp;obtain ⟨x,Jm,Nk⟩:=nM C;refine Ev.bind Jm ?_;have hD:Ev (fun n=>Jj n pos) (Fe pos):=⟨pos.length+1,fun n hn=>TP hl (by omega)⟩
  refine Ev.eq (Ev.bind hD (b:=fun n y4=>bif y4 then some true else
   if 0<=i/\ i<(q.cons.length:Int) then
    bif ((con q i).kind != 4) then bif ((con q i).kind != 5) then bif ((con q i).kind != 6) then bif ((con q i).kind != 7) then some true
     else CB q i pos n (.l1 x 1 0) else CB q i pos n (.l1 x 1 0) else CB q i pos n (.l1 x 1 0) else CB q i pos n (.l1 x 1 0)
   else none) ?_) fun n=>rfl
  cases hd:Fe pos with
  | true=>exact Ev.now fun n=>rfl
  | false=>
   by_cases hk:(con q i).kind=4∨(con q i).kind=5∨(con q i).kind=6∨(con q i).kind=7
   ·have:=cw (x:=x) ⟨C,hd,hk⟩ Nk (con q i).cells.length 0 (by omega) (by show (1:Nat)<=2000;decide);refine Ev.eq this fun n=>?_
    rw [xx,xw ⟨C.i0,C.i1⟩];rcases hk with hk | hk | hk | hk <;> rw [hk] <;> rfl
   ·refine Ev.now fun n=>?_
    rw [xx,xw ⟨C.i0,C.i1⟩,zc.2 fun h=>hk (.inl h),yC,zc.2 fun h=>hk (.inr (.inl h)),yC,zc.2 fun h=>hk (.inr (.inr (.inl h))),yC,zc.2 fun h=>hk (.inr (.inr (.inr h)))];rfl
 ·obtain ⟨e',F7,h1⟩:=nN hF hl hp;refine Ev.bind h1 (Ev.now fun n=>?_)
  show (bif (e' != 0) then some true else _)=_
  rw [zc.2 F7];rfl
end
end Go.Proofs.YtgkhhfnhacibcaaGreatDoor
namespace Go.Proofs.YtgkhhfnhacibcaaGreatDoor
open Go.ChangeShapes Go.WideShapes Go.ChangeAt Go.RowKit
def J9 (w:World) (cs:List Value) (l:List DV):Prop:=cs.length=l.length/\ ∀ j,j<l.length -> AO (fun _=>False) w (l.getD j .any) [] (cs.getD j undef)
def Rd (P:Program) (t:TypeId) (m:Nat) {α:Type} (c:α -> List DV):Prop:=(∀ x,(c x).length=m)/\ P.cellsOf t=m/\ ∀ {H:Type} (enc:TypeId×Value -> H) (w:World) (Dr:Nat) (cs:List Value) (x:DataW H×List MemPlace),DataW.trod enc P w 0 (fun _=>true) true Dr t cs=some x -> (∀ n∈x.1.weights P t,n<=reachBytes) -> ∃ y:α,J9 w cs (c y)
theorem ZJ {H:Type} {P:Program} {e:TypeId}: ∀ {l:List (DataW H)} {d:DataW H} {n:Nat},d∈l -> n∈d.weights P e -> n∈DataW.weightsAll P e l
 | [],_,_,h,_=>by cases h
 | a::l,d,n,h,hn=>by
  unfold DataW.weightsAll;rcases yf.1 h with rfl | h
  ·exact yg _ hn
  ·exact yy _ (ZJ h hn)
section
variable {P:Program} {t e:TypeId} {m:Nat}
theorem J9.one {w:World} {v:Value} {d:DV} (h:AO (fun _=>False) w d [] v):J9 w [v] [d]:=⟨rfl,fun j hj=>by
 have:j=0:=by simpa using hj
 subst this;exact h⟩
theorem J9.app {w:World} {cs Ds:List Value} {l l':List DV} (h:J9 w cs l) (h':J9 w Ds l'):J9 w (cs++Ds) (l++l'):=by
 refine ⟨by simp [h.1,h'.1],fun j hj=>?_⟩;rcases zb j l.length with hl | hl
 ·have:=h.2 j hl;have hc:j<cs.length:=by rw [h.1];exact hl
  simp only [u8] at this ⊢;rw [yb hl,yb hc];exact this
 ·have:=h'.2 (j-l.length) (by simp at hj;omega);simp only [u8] at this ⊢;rw [yi hl,yi (by rw [h.1];exact hl),h.1];exact this
theorem Rd.int {k:IntKind} (ht:P.underlying t=some (.int k)) (hc:P.cellsOf t=1):Rd P t 1 (fun n:Int=>[.int k n]):=⟨fun _=>rfl,hc,fun enc w Dr cs x h hw=>by
 obtain ⟨n,rfl,_⟩:=DataW.trod_int ht h;exact ⟨n,.one rfl⟩⟩
theorem f9 {w:World} {a:Addr} {n:Nat} {cs:List Value} (h:w.cells? 0 a n=some cs):cs.length=n/\ ∀ j,j<n -> w.cell? (a.add j)=some (cs.getD j undef):=by
 unfold World.cells? at h;rw [xw (zU _)] at h;have hl:cs.length=n:=by simpa using Lib.mapM_length h
 refine ⟨hl,fun j hj=>?_⟩;obtain ⟨b,h1,h2⟩:=Lib.mapM_at h j j (by simp [hj]);rw [h2,u8,h1];rfl
theorem xk {w:World} {a:Addr} {v:Value} (h:w.cell? a=some v): ∃ b o,a=⟨b,o,none⟩:=by
 obtain ⟨b,o,r⟩:=a;cases r with
 | none=>exact ⟨b,o,rfl⟩
 | some r=>
  unfold World.cell? at h;split at h
  ·simp at h
  ·cases h
theorem iI (b o x:Nat):(⟨b,o,none⟩:Addr).add x=⟨b,o+x,none⟩:=by
 unfold Addr.add;split
 ·rename_i e;subst e;rfl
 ·rfl
theorem Rd.row {α:Type} [Inhabited α] {c:α -> List DV} (ht:P.underlying t=some (.slice e)) (hb:0<P.bytesOf e) (hm:0<m) (he:Rd P e m c) {H:Type} (enc:TypeId×Value -> H) (w:World) (Dr:Nat) (cs:List Value) (x:DataW H×List MemPlace) (h:DataW.trod enc P w 0 (fun _=>true) true Dr t cs=some x) (hw: ∀ n∈x.1.weights P t,n<=reachBytes):
 ∃ (L:List α) (a:Option Addr) (cap:Nat),cs= [.slice a L.length cap]/\ L.length<=cap/\ L.length<=LB/\ ∀ i j,i<L.length -> j<m -> ∃ b o u,a=some ⟨b,o,none⟩/\ w.cell? ⟨b,o+(i*m+j),none⟩=some u/\ AO (fun _=>False) w ((c (L.getD i default)).getD j .any) [] u:=by
 rcases Deep.open_slice ht h with ⟨rfl,_⟩ | ⟨a,len,cap,m',n,D,Pl,rfl,_,tY,Kz,CH,hx,Qf⟩
 ·exact ⟨[],none,0,rfl,yS _,zU _,fun i j hi=>absurd hi (yN i)⟩
 ·simp only [zS] at CH;subst CH;subst hx
  have plain:0<len -> ∃ b o,a=⟨b,o,none⟩:=fun h0=>by
   obtain ⟨Ds,h1,_⟩:=Qf 0 (by omega);obtain ⟨g1,g2⟩:=f9 h1;have g3:=g2 0 (by rw [he.2.1];exact hm);have e0:(a.add (0*P.cellsOf e)).add 0=a:=by simp [Addr.add]
   rw [e0] at g3;exact xk g3
  have pick: ∀ i,i<len -> ∃ y:α,∀ j,j<m -> ∃ b o u,a=⟨b,o,none⟩/\ w.cell? ⟨b,o+(i*m+j),none⟩=some u/\ AO (fun _=>False) w ((c y).getD j .any) [] u:=fun i hi=>by
   obtain ⟨Ds,h1,h2⟩:=Qf i (by omega)
   obtain ⟨y,h3,h4⟩:=he.2.2 enc w n Ds _ h2 fun k hk=>hw k (by
    simp only [DataW.weights,ht];refine ya _ (yg _ (ZJ (d:=D i) ?_ hk));exact zN.2 ⟨i,yR.2 hi,rfl⟩)
   obtain ⟨g1,g2⟩:=f9 h1;obtain ⟨b,o,rfl⟩:=plain (by omega);refine ⟨y,fun j hj=>?_⟩;have g3:=g2 j (by rw [he.2.1];exact hj);refine ⟨b,o,_,rfl,?_,h4 j (by rw [he.1];exact hj)⟩;rw [←g3,he.2.1,iI,iI,yu]
  have hL: ∃ L:List α,L.length=len/\ ∀ i,i<len -> ∀ j,j<m -> ∃ b o u,a=⟨b,o,none⟩/\ w.cell? ⟨b,o+(i*m+j),none⟩=some u/\ AO (fun _=>False) w ((c (L.getD i default)).getD j .any) [] u:=by
   refine ⟨(List.range len).map fun i=>if hi:i<len then (pick i hi).choose else default,by simp,fun i hi=>?_⟩
   have:((List.range len).map fun i=>if hi:i<len then (pick i hi).choose else default).getD i default=(pick i hi).choose:=by
    simp [u8,hi]
   rw [this];exact (pick i hi).choose_spec
  obtain ⟨L,rfl,hL⟩:=hL;refine ⟨L,some a,_,rfl,tY,?_,fun i j hi hj=>?_⟩
  ·have hk:=hw ((L.length+(m'-L.length))*P.bytesOf e) (by
    simp only [DataW.weights,ht,zE,zAU];exact y9)
   have h1:=Nat.le_mul_of_pos_right (L.length+(m'-L.length)) hb;have h2:=yO h1 hk;unfold reachBytes at h2;unfold LB;omega
  ·obtain ⟨b,o,u,g1,g2,g3⟩:=hL i hi j hj;exact ⟨b,o,u,by rw [g1],g2,g3⟩
theorem Rd.rows {α:Type} [Inhabited α] {c:α -> List DV} (ht:P.underlying t=some (.slice e)) (hc:P.cellsOf t=1) (hb:0<P.bytesOf e) (hm:0<m) (he:Rd P e m c):Rd P t 1 (fun L:List α=>[.sl m L.length (Am c L)]):=⟨fun _=>rfl,hc,fun enc w Dr cs x h hw=>by
 obtain ⟨L,a,cap,rfl,h1,h2,h3⟩:=Rd.row ht hb hm he enc w Dr cs x h hw;refine ⟨L,J9.one ⟨a,cap,rfl,h1,h2,fun i j hi hj=>?_⟩⟩;obtain ⟨b,o,u,g1,g2,g3⟩:=h3 i j hi hj;exact ⟨b,o,u,g1,fun h=>h,g2,g3⟩⟩
theorem Rd.ints (ht:P.underlying t=some (.slice e)) (hc:P.cellsOf t=1) (hb:0<P.bytesOf e) (he:P.underlying e=some (.int .i64)) (uK:P.cellsOf e=1):Rd P t 1 Ar:=⟨fun _=>rfl,hc,fun enc w Dr cs x h hw=>by
 obtain ⟨L,a,cap,rfl,h1,h2,h3⟩:=Rd.row ht hb (zu) (Rd.int he uK) enc w Dr cs x h hw;refine ⟨L,.one ⟨a,cap,rfl,h1,h2,fun j hj=>?_⟩⟩;obtain ⟨b,o,u,g1,g2,g3⟩:=h3 j 0 hj zu;refine ⟨b,o,g1,fun h=>h,?_⟩;have:u= .int .i64 (L.getD j 0):=g3;rw [←this,←g2];simp⟩
def Du (P:Program):List Field -> Nat -> Nat -> {α:Type} -> (α -> List DV) -> Prop:=fun fs o n {α} c=>∀ (H:Type) (enc:TypeId×Value -> H) (w:World) (Dr:Nat) (cs:List Value) (xs:List (DataW H×List MemPlace)),cs.length=n -> (fs.mapM fun f=>DataW.trod enc P w 0 (fun _=>true) true Dr f.type ((cs.drop f.offset).take (P.cellsOf f.type)))=some xs -> (∀ k∈DataW.weightsEach P (fs.map (·.type)) (xs.map (·.1)),k<=reachBytes) -> ∃ y:α,J9 w (cs.drop o) (c y)
theorem Du.nil {o n:Nat} (ho:n=o):Du P [] o n (fun _:Unit=>[]):=fun _ enc w Dr cs xs hl _ _=>⟨(),by rw [List.drop_of_length_le (by omega)];exact ⟨rfl,fun j hj=>absurd hj (yN j)⟩⟩
theorem Du.cons {α β:Type} {c:α -> List DV} {c':β -> List DV} {f:Field} {fs:List Field} {o n:Nat} (ho:f.offset=o) (hf:Rd P f.type m c) (hs:Du P fs (o+m) n c'):Du P (f::fs) o n (fun x:α×β=>c x.1++c' x.2):=fun _ enc w Dr cs xs hl h hw=>by
 rw [List.mapM_cons] at h;obtain ⟨a,ha,h⟩:=Option.bind_eq_some_iff.1 h;obtain ⟨ys,qx,e⟩:=Option.bind_eq_some_iff.1 h;cases e;obtain ⟨y,h1⟩:=hf.2.2 enc w Dr _ a ha fun k hk=>hw k (by simp only [zd,DataW.weightsEach];exact yg _ hk)
 obtain ⟨z,h2⟩:=hs _ enc w Dr cs ys hl qx fun k hk=>hw k (by simp only [zd,DataW.weightsEach];exact yy _ hk)
 refine ⟨(y,z),?_⟩
 have:cs.drop o=(cs.drop f.offset).take (P.cellsOf f.type)++cs.drop (o+m):=by
  rw [ho,hf.2.1,←List.drop_drop];exact (List.take_append_drop m (cs.drop o)).symm
 rw [this];exact h1.app h2
theorem Rd.struct {α β:Type} {c:α -> List DV} {c':β -> List DV} {fs:Array Field} (ht:P.underlying t=some (.struct fs)) (hc:P.cellsOf t=m) (hs:Du P fs.toList 0 m c) (g:α -> β) (hg: ∀ x,c x=c' (g x)) (hm: ∀ x,(c' x).length=m):Rd P t m c':=⟨hm,hc,fun enc w Dr cs x h hw=>by
 cases Dr with
 | zero=>simp [DataW.trod] at h
 | succ Dr=>
  unfold DataW.trod at h;rw [ht] at h;simp only at h;split at h
  ·rename_i hl;obtain ⟨xs,W7,e⟩:=Option.map_eq_some_iff.1 h;subst e;obtain ⟨y,hy⟩:=hs _ enc w Dr cs xs (by rw [hl,hc]) W7 fun k hk=>hw k (by simp only [DataW.weights,ht];exact hk)
   exact ⟨g y,by rw [←hg];exact hy⟩
  ·cases h⟩
end
end Go.Proofs.YtgkhhfnhacibcaaGreatDoor
namespace Go.Proofs.YtgkhhfnhacibcaaGreatDoor
open Go.ChangeShapes Go.WideShapes Go.ChangeAt Go.RowKit
def G3 (P:Program) (t:TypeId) {α:Type} (d:α -> DV):Prop:=∀ {H:Type} (enc:TypeId×Value -> H) (w:World) (DG:Nat) (v:Value) (x:DataW H) (ps:List MemPlace),Value.okWide P w .any DG t v -> DataW.Trod enc P w 0 (fun _=>true) true t v x ps -> (∀ n∈x.weights P t,n<=reachBytes) -> ∃ y:α,AO (fun _=>False) w (d y) [] v
section
variable {P:Program} {t e:TypeId}
theorem G3.int {k:IntKind} (ht:P.underlying t=some (.int k)):G3 P t (fun n:Int=>.int k n):=fun enc w DG v x ps CG _ _=>by
 obtain ⟨n,rfl⟩:=okWide_int ht CG;exact ⟨n,rfl⟩
theorem G3.one {α:Type} {c:α -> List DV} (ht:P.underlying t=some (.slice e)) (h:Rd P t 1 c):G3 P t (fun x=>(c x).getD 0 .any):=fun enc w DG v x ps CG ⟨Dr,hx⟩ hw=>by
 obtain ⟨a,len,cap,rfl⟩:=okWide_slice ht CG;obtain ⟨y,h1,h2⟩:=h.2.2 enc w Dr _ _ hx hw;exact ⟨y,by simpa [Value.cells] using h2 0 (by rw [h.1];exact zu)⟩
theorem G3.agg {α:Type} {m:Nat} {c:α -> List DV} {fs:Array Field} (ht:P.underlying t=some (.struct fs)) (h:Rd P t m c):G3 P t (fun x=>.agg m (L1 (c x))):=fun enc w DG v x ps CG ⟨Dr,hx⟩ hw=>by
 obtain ⟨cs,rfl,C6⟩:=okWide_struct ht CG;obtain ⟨y,h1,h2⟩:=h.2.2 enc w Dr _ _ hx hw;have hm:(c y).length=m:=h.1 y
 have A9:cs.size=m:=by
  have:cs.toList.length=(c y).length:=h1;simpa [hm] using this
 refine ⟨y,cs,rfl,A9,fun j hj=>?_⟩;have:=h2 j (by rw [hm];exact hj);refine ⟨cs[j]'(by omega),by simp [A9,hj],?_⟩
 have e:(Value.agg cs).cells.toList.getD j undef=cs[j]'(by omega):=by
  show cs.toList.getD j undef=_
  simp [u8,A9,hj]
 rw [e] at this;exact this
def I7 (P:Program) (ts:List TypeId) {α:Type} (ds:α -> List DV):Prop:=∀ {H:Type} (enc:TypeId×Value -> H) (w:World) (DG:Nat) (vs:List Value) (xs:List (DataW H)) (ps:List MemPlace),(∀ (j:Nat) t v,ts[j]? =some t -> vs[j]? =some v -> Value.okWide P w .any DG t v) -> DataW.TrodAll enc P w 0 (fun _=>true) true ts vs xs ps -> (∀ n∈DataW.weightsEach P ts xs,n<=reachBytes) -> ∃ y:α,(ds y).length=vs.length/\ ∀ j,j<vs.length -> AO (fun _=>False) w ((ds y).getD j .any) [] (vs.getD j undef)
theorem I7.nil:I7 P [] (fun _:Unit=>[]):=fun enc w DG vs xs ps _ h _=>by
 obtain ⟨rfl,_,_⟩:=trodAll_nil h;exact ⟨(),rfl,fun j hj=>absurd hj (yN j)⟩
theorem I7.cons {α β:Type} {d:α -> DV} {ds:β -> List DV} {ts:List TypeId} (h:G3 P t d) (hs:I7 P ts ds):I7 P (t::ts) (fun x:α×β=>d x.1::ds x.2):=fun enc w DG vs xs ps CG h0 hw=>by
 obtain ⟨v,BW,x,ZA,p,q,rfl,rfl,rfl,h1,h2⟩:=trodAll_cons h0;obtain ⟨y,hy⟩:=h enc w DG v x p (CG 0 t v rfl rfl) h1 fun n hn=>hw n (by simp only [DataW.weightsEach];exact yg _ hn)
 obtain ⟨z,QP,qv⟩:=hs enc w DG BW ZA q (fun j t' v' a b=>CG (j+1) t' v' (by simpa using a) (by simpa using b)) h2 fun n hn=>hw n (by simp only [DataW.weightsEach];exact yy _ hn)
 refine ⟨(y,z),by simp [QP],fun j hj=>?_⟩;cases j with
 | zero=>exact hy
 | succ j=>exact qv j (by simpa using hj)
theorem ZR {H:Type} {enc:TypeId×Value -> H} (hl:laidOutB P=true) {W W':World} (hE:At W W'): ∀ {ts:List TypeId} {vs:List Value} {ds:List (DataW H)} {ps:List MemPlace},(∀ t∈ts,P.readableRec t=true/\ t<P.types.size) -> DataW.TrodAll enc P W 0 (fun _=>true) true ts vs ds ps -> (∀ x∈ps,x.block<W.heap.size) -> DataW.TrodAll enc P W' 0 (fun b=>decide (b<W.heap.size)) true ts vs ds ps
 | [],_,_,_,_,h,_=>by
  obtain ⟨rfl,rfl,rfl⟩:=trodAll_nil h;rfl
 | t::ts,_,_,_,hr,h,AU=>by
  obtain ⟨v,BW,x,ZA,p,q,rfl,rfl,rfl,h1,h2⟩:=trodAll_cons h;exact ⟨p,q,Below.trod hl (hr t (by simp)).1 (hr t (by simp)).2 h1 hE fun x hx=>AU x (yg _ hx),ZR hl hE (fun t ht=>hr t (by simp [ht])) h2 fun x hx=>AU x (yy _ hx),rfl⟩
theorem nP {H:Type} {enc:TypeId×Value -> H} {f:Func} {s:ChangeSpec} {W W':World} {args:Array Value} {ds gs:List (DataW H)} {Mt:List MemPlace} {tb:TypeId} (hl:laidOutB P=true) (hr: ∀ t∈f.params.toList,P.readableRec t=true/\ t<P.types.size) (hE:At W W')
 (hW:DataW.Whole enc P f.params.toList s.vars false W args.toList ds gs Mt) (hv:s.vars= []) (hs:s.fn H (ds++gs)= { results:=[.lit (.bool true)],args:=ds }) (XF:f.resultTypes= #[tb]) (XA:P.underlying tb=some .bool):
 s.post enc P f false true false false W args (.bool true) W':=by
 have Mc:=hW;have AU:=hW.lt;obtain ⟨p,q,hA,hV,rfl,GP,BD⟩:=hW;rw [hv] at hV;obtain ⟨rfl,rfl⟩:=trodVars_none hV;have Ce:=ZR hl hE hr hA fun x hx=>AU x (yg _ hx)
 refine ⟨ds,[],p++[],[],p,[],Mc,?_,?_,?_,World.keptBut_mono (fun x hx=>⟨hx,.inr (.inl (by simpa using hx))⟩) (Below.frame hE (· ∈p++[])),fun h=>by cases h⟩
 ·rw [hs,XF];exact trodAll_mk1 (shut_bool XA true)
 ·rw [hs];exact Ce
 ·rw [hv,hs];rfl
theorem pp {H:Type} {enc:TypeId×Value -> H} {Γ:BB} {fR:Nat} {f:Func} {s:ChangeSpec} {W:World} {DG:Nat} {args:Array Value} {ds gs:List (DataW H)} {Mt:List MemPlace} {tb:TypeId} {α:Type} {dv:α -> List DV} (hl:laidOutB P=true) (hr: ∀ t∈f.params.toList,P.readableRec t=true/\ t<P.types.size)
 (rZ:I7 P f.params.toList dv) (Eb: ∀ (w:World) (y:α),(∀ j,AO (fun _=>False) w ((dv y).getD j .any) [] (args.getD j undef)) -> ES P Γ fR (dv y) [] (.bool true) [] true)
 (GL: ∀ (j:Nat) t v,f.params[j]? =some t -> args[j]? =some v -> Value.okWide P W .any DG t v) (hW:DataW.Whole enc P f.params.toList s.vars false W args.toList ds gs Mt) (hv:s.vars= []) (hs:s.fn H (ds++gs)= { results:=[.lit (.bool true)],args:=ds }) (XF:f.resultTypes= #[tb]) (XA:P.underlying tb=some .bool)
 (A9:(DataW.weightsEach P f.params.toList ds).all (· <=reachBytes)=true) (hg:Γ.gi W):Calls P fR args W fun e W'=>∃ v,e= .returned v/\ s.post enc P f false true false false W args v W':=by
 have Mc:=hW;obtain ⟨p,q,hA,hV,rfl,GP,BD⟩:=hW
 obtain ⟨y,h1,h2⟩:=rZ enc W DG args.toList ds p (fun j t v a b=>GL j t v (by simpa using a) (by simpa using b)) hA fun n hn=>by
  have:=yJ.1 A9 n hn;simpa using this
 have A3:(dv y).length=args.size:=by simpa using h1
 have dc: ∀ j,AO (fun _=>False) W ((dv y).getD j .any) [] (args.getD j undef):=fun j=>by
  rcases zb j args.size with hj | hj
  ·have:=h2 j (by simpa using hj);simpa [u8,yV,hj] using this
  ·have:(dv y).getD j .any= .any:=by rw [u8,zn (by omega)];rfl
   rw [this];trivial
 refine ((Eb W y dc).2 (fun _=>False) [] W args (Nr (fun b hb=>hb.elim) hg) ⟨A3,fun i hi=>?_⟩).mono ?_
 ·exact AO.out _ (DZ (fun b hb=>M3.1 hb) []) (dc i)
 ·rintro e W' ⟨v,rfl,G⟩;obtain ⟨ρ',_,W9,_⟩:=G.ex;have W9:v= .bool true:=W9;subst W9;exact ⟨_,rfl,nP hl hr (G.ext rfl) Mc hv hs XF XA⟩
end
end Go.Proofs.YtgkhhfnhacibcaaGreatDoor
namespace Go.Proofs.YtgkhhfnhacibcaaGreatDoor
open Go.ChangeShapes Go.WideShapes Go.ChangeAt Go.RowKit
theorem own:ownKnob Tryz.prog.godebug=none:=by kernel_rfl
theorem pz:laidOutB Tryz.prog=true:=by kernel_rfl
theorem wq:0<Tryz.prog.bytesOf 3:=zX (by kernel_rfl)
theorem JU:Rd Tryz.prog 3 1 (fun n:Int=>[.int .i64 n]):=Rd.int Tryz.underlying3 (by kernel_rfl)
theorem PV:Rd Tryz.prog 22 1 Ar:=Rd.ints Tryz.underlying22 (by kernel_rfl) wq Tryz.underlying3 (by kernel_rfl)
theorem m9:Rd Tryz.prog 23 1 (fun L:List (List Int)=>[.sl 1 L.length (Am Ar L)]):=Rd.rows Tryz.underlying23 (by kernel_rfl) (zX (by kernel_rfl)) zu PV
set_option maxRecDepth 100000 in
theorem nD:Rd Tryz.prog 36 9 AF:=by
 refine Rd.struct Tryz.underlying36 (by kernel_rfl)
  (Du.cons rfl JU<|Du.cons rfl PV<|Du.cons rfl JU<|Du.cons rfl JU<|Du.cons rfl JU<|Du.cons rfl JU<|Du.cons rfl PV<|Du.cons rfl JU<|Du.cons rfl JU<|Du.nil rfl)
  (fun x:Int×List Int×Int×Int×Int×Int×List Int×Int×Int×Unit=>(⟨x.1,x.2.1,x.2.2.1,x.2.2.2.1,x.2.2.2.2.1,x.2.2.2.2.2.1,x.2.2.2.2.2.2.1,x.2.2.2.2.2.2.2.1,x.2.2.2.2.2.2.2.2.1⟩:AB)) ?_ (fun _=>rfl)
 intro x;rfl
theorem nC:Rd Tryz.prog 24 1 (fun L:List AB=>[.sl 9 L.length (Am AF L)]):=Rd.rows Tryz.underlying24 (by kernel_rfl) (zX (by kernel_rfl)) (by decide) nD
set_option maxRecDepth 100000 in
theorem nB:Rd Tryz.prog 26 5 AD:=by
 refine Rd.struct Tryz.underlying26 (by kernel_rfl)
  (Du.cons rfl JU<|Du.cons rfl JU<|Du.cons rfl PV<|Du.cons rfl m9<|Du.cons rfl nC<|Du.nil rfl)
  (fun x:Int×Int×List Int×List (List Int)×List AB×Unit=>(⟨x.1,x.2.1,x.2.2.1,x.2.2.2.1,x.2.2.2.2.1⟩:AA)) ?_ (fun _=>rfl)
 intro x;rfl
theorem lX:G3 Tryz.prog 26 (fun q:AA=>.agg 5 (L1 (AD q))):=G3.agg Tryz.underlying26 nB
theorem lZ:G3 Tryz.prog 3 (fun n:Int=>.int .i64 n):=G3.int Tryz.underlying3
theorem lY:G3 Tryz.prog 22 (fun l:List Int=>.ints l):=G3.one Tryz.underlying22 PV
theorem Ff.of {M:Nat -> Prop} {w:World} {ρ:List AN} {q:AA} {v:Value} (h:AO M w (.agg 5 (L1 (AD q))) ρ v):Ff q:=by
 obtain ⟨cs,_,_,hc⟩:=h
 have row: ∀ {α:Type} [Inhabited α] {m:Nat} {c:α -> List DV} {L:List α} {u:Value},0<m -> AO M w (.sl m L.length (Am c L)) ρ u -> ∀ x∈L,∀ j,j<m -> ∃ u,AO M w ((c x).getD j .any) [] u:=by
  intro α _ m c L u hm ⟨a,cap,_,_,_,hh⟩ x hx j hj;obtain ⟨i,hi,rfl⟩:=zR hx;obtain ⟨b,o,u,_,_,_,hr⟩:=hh i j hi hj;refine ⟨u,?_⟩;have e:L.getD i default=L[i]:=by simp [hi]
  have hr:AO M w ((c (L.getD i default)).getD j .any) [] u:=hr;rw [e] at hr;exact hr
 refine ⟨?_,fun r hr=>?_,fun c Xq=>?_,fun c Xq=>?_⟩
 ·obtain ⟨u,_,h2⟩:=hc 2 (by decide);exact QJ h2
 ·obtain ⟨u,_,h3⟩:=hc 3 (by decide);obtain ⟨u,h⟩:=row (c:=Ar) (L:=q.nbrs) zu h3 r hr 0 zu;exact QJ h
 ·obtain ⟨u,_,h4⟩:=hc 4 (by decide);obtain ⟨u,h⟩:=row (c:=AF) (L:=q.cons) (by decide) h4 c Xq 1 (by decide);exact QJ h
 ·obtain ⟨u,_,h4⟩:=hc 4 (by decide);obtain ⟨u,h⟩:=row (c:=AF) (L:=q.cons) (by decide) h4 c Xq 6 (by decide);exact QJ h
theorem fJ:Tryz.prog.globalNamed "math/bits.deBruijn64tab" =some 1:=by kernel_rfl
theorem uw:(Tryz.prog.globals[1]?).map (·.type)=some 154:=by kernel_rfl
abbrev Wj {H:Type}:List (String×DataW H):=[("math/bits.deBruijn32tab",Rows.laid_math_bits_deBruijn32tab),("math/bits.deBruijn64tab",Rows.laid_math_bits_deBruijn64tab)]
theorem i5 {W:World} (h:laidMetH Tryz.prog Wj W):Lib.TabIs Tryz.prog W "math/bits.deBruijn64tab" .u8 (Lib.deBruijn64tab.map Int.ofNat):=
 Lib.tabIs_of_head (rest:=[]) fJ uw Tryz.underlying154 Tryz.underlying5 (by kernel_rfl) (by kernel_rfl) (laidMet.tail (show laidMet Tryz.prog Wj W from h))
theorem i4 {W:World} (h:laidMetH Tryz.prog Wj W):GG.gi W:=by
 have T:=i5 h;have c: ∀ j,j<64 -> W.cell? ⟨1,j,none⟩=some (.int .u8 ((Lib.deBruijn64tab.map Int.ofNat).getD j 0)):=fun j hj=>T.cell fJ j (by rw [zE];exact hj)
 refine ⟨fun j hj=>?_,?_⟩
 ·have hj:j<64:=hj;rw [c j hj]
  have:(Lib.deBruijn64tab.map Int.ofNat).getD j 0=((Lib.deBruijn64tab.getD j 0:Nat):Int):=by
   have hl:j<Lib.deBruijn64tab.length:=hj;simp [u8,hl]
  rw [this]
 ·have:=zY W _ (c 0 (by decide));exact this
def ck (l:List Nat) (o:Obj):Obj:=match o with
 | .cells _ t frozen=>.cells (l.map fun n=>Value.int .u8 (Int.ofNat n)).toArray t frozen
 | o=>o
noncomputable def Wi (os:Os):World:=
 { World.holding Tryz.prog os ⟨#[],#[],[]⟩ with heap:=((World.holding Tryz.prog os ⟨#[],#[],[]⟩).heap.modify 0 (ck Lib.deBruijn32tab)).modify 1 (ck Lib.deBruijn64tab) }
def Sd:Value:=.agg #[.int .i64 0,.int .i64 0,.slice none 0 0,.slice none 0 0,.slice none 0 0]
end Go.Proofs.YtgkhhfnhacibcaaGreatDoor
