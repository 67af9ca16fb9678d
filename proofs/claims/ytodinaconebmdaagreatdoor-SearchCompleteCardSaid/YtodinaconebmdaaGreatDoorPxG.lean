/- Part 7 of 8 of what the proofs of these laws stand on. -/
import Derived.Test.YtodinaconebmdaaGreatDoorPxF
import Derived.Test.YtodinaconebmdaaGreatDoorRows
import Derived.ProofKit
import Derived.OpenShut
import Derived.Deep.DeepHandedRow
import Derived.Lib.LaidTab
import Derived.Deep.Slices
import Derived.Stop.LaidErr
import Derived.Test.YtodinaconebmdaaGreatDoorCards
import Derived.Test.YtodinaconebmdaaGreatDoorTie
set_option linter.all false
namespace Go.Proofs.YtodinaconebmdaaGreatDoor
open Go.RowKit
section
set_option maxRecDepth 100000
set_option maxHeartbeats 40000000
def zBX:Au (A9 Tryz.f65 7) [] (List.range 15) []:=by unfold Au;kernel_rfl
def Rf:BX:=λi=>match i with
 | 7=>.ord [] (List.range 15) []
 | _=>.no
inductive W9 where
 | l1 (x5:Int)
 | l2 (x5 x6:Int)
def W7 (n:Nat)(self:W9 -> Option Bool)(AJ cells:Ξ)(P:Int):Option Bool:= bif (decide (P<(cells.length:Int))) then self (.l2 P 0) else some true
def W6 (n:Nat)(self:W9 -> Option Bool)(O cells:Ξ)(P K:Int):Option Bool:= bif (decide (K<P)) then if (0<=P/\ P<(cells.length:Int))/\ (0<=(cells.getD P.toNat 0)/\ (cells.getD P.toNat 0)<(O.length:Int))/\ (0<=K/\ K<(cells.length:Int))/\ (0<=(cells.getD K.toNat 0)/\ (cells.getD K.toNat 0)<(O.length:Int)) then bif ((O.getD ((cells.getD P.toNat 0).toNat) 0)==(O.getD ((cells.getD K.toNat 0).toNat) 0)) then some false else if AG (K+1) then self (.l2 P (K+1)) else none else none else if AG (P+1) then self (.l1 (P+1)) else none
def zKc (n:Nat)(self:W9 -> Option Bool)(AJ cells:Ξ):Option Bool:= self (.l1 0)
def Hm (O cells:Ξ):Nat -> W9 -> Option Bool
 | 0,_=>none
 | n+1,.l1 P=>W7 n (Hm O cells n) O cells P
 | n+1,.l2 P K=>W6 n (Hm O cells n) O cells P K
def cL (n:Nat)(O cells:Ξ):Option Bool:=zKc n (Hm O cells n) O cells
def zKe (n B:Nat)(N:Yd 0)(O cells:Ξ)(r:Bool):W9 -> Prop
 | .l1 P=>∀ f:Nat,n<=f -> TW B N (FQ Tryz.f65 0 (.bool r) []) (Ag f (An (AR Tryz.f65) 0 [])) ⟨AF 33 [(0,.ints O),(1,.ints cells),(5,.i P)],[]⟩
 | .l2 P K=>∀ f Y:Nat,n<=f -> n<=Y -> TW B N (FQ Tryz.f65 0 (.bool r) []) (Ag Y (An (AR Tryz.f65) 2 [f])) ⟨AF 33 [(0,.ints O),(1,.ints cells),(5,.i P),(6,.i K)],[]⟩
def zKf (B:Nat)(N:Yd 0)(O cells:Ξ):Al (Hm O cells) (zKe · B N O cells):=ia (λ_=>rfl) λn C A r h=>by
 cases A
 case l1 x5=>
  intro f a;refine rd a λf a=>?_
  revert r;apply gO;exact bi 10 (lN Rf [] (C _ _ · f n a Nat.le.refl)) (lE Rf [4] [])
 case l2 x5 x6=>
  intro f Y a x;have a:=zGf a;refine rd x λY x=>?_
  revert r;apply gO;exact bi 15 (jg zBX (gc (gi (gc (gi (gc (gi (gi (bi 32 (lE Rf [4] []) (gw 17 (lG Rf [] (C _ _ · f Y a x)))))))))))) (gw 12 (lG Rf [] (C _ _ · f a)))
variable {r:Bool}{O cells:Ξ}{n:Nat}
def zKb (h:cL n O cells=some r):EQ 65 [.ints O,.ints cells] [] (.bool r) [] true:=by
 refine ot Tryz.func65 λB N=>?_
 revert r;apply gO;exact lN Rf [] ((zKf B N O cells n) _ _ · n Nat.le.refl)
inductive cQ where
 | l1 (x7 x8:Int)
def XH (n:Nat)(self:cQ -> Option Int)(O cells:Ξ)(a:Int)(U x8:Int):Option Int:= bif (decide (x8<(cells.length:Int))) then if (0<=x8/\ x8<(cells.length:Int))/\ (0<=(cells.getD x8.toNat 0)/\ (cells.getD x8.toNat 0)<(O.length:Int)) then (IN n a (O.getD ((cells.getD x8.toNat 0).toNat) 0)).bind λj=> bif j then if AG (U+1)/\ AG (x8+1) then self (.l1 (U+1) (x8+1)) else none else if AG (x8+1) then self (.l1 U (x8+1)) else none else none else some U
def zKs (n:Nat)(self:cQ -> Option Int)(AJ cells:Ξ)(A2:Int):Option Int:= self (.l1 0 0)
def Tc (O cells:Ξ)(a:Int):Nat -> cQ -> Option Int
 | 0,_=>none
 | n+1,.l1 U x8=>XH n (Tc O cells a n) O cells a U x8
def cR (n:Nat)(O cells:Ξ)(a:Int):Option Int:=zKs n (Tc O cells a n) O cells a
def zKu (n B:Nat)(N:Yd 0)(O cells:Ξ)(a:Int)(r:Int):cQ -> Prop
 | .l1 U x8=>∀ f:Nat,n<=f -> TW B N (FQ Tryz.f66 0 (.i r) []) (Ag f (An (AR Tryz.f66) 0 [])) ⟨AF 27 [(0,.ints O),(1,.ints cells),(2,.i a),(7,.i U),(8,.i x8)],[]⟩
def zKv (B:Nat)(N:Yd 0)(O cells:Ξ)(b:Int):Al (Tc O cells b) (zKu · B N O cells b):=ia (λ_=>rfl) λn C A r h=>by
 cases A
 case l1 x7 x8=>
  intro f a;refine rd a λf a=>?_
  revert r;apply gO;exact bi 12 (gc (gi (gi (cf Kz [] λ_=>bi 23 (gc (gw 25 (gw 14 (lG AC [] (C _ _ · f a))))) (gw 14 (lG AC [] (C _ _ · f a))))))) (lE AC [6] [])
variable {a:Int}
def zKr {r:Int}(h:cR n O cells a=some r):EQ 66 [.ints O,.ints cells,.i a] [] (.i r) [] true:=by
 refine ot Tryz.func66 λB N=>?_
 revert r;apply gO;exact lN AC [] ((zKv B N O cells a n) _ _ · n Nat.le.refl)
inductive YC where
 | l1 (x7 x8:Int)
def UQ (n:Nat)(self:YC -> Option Int)(Z O cells:Ξ)(U x8:Int):Option Int:= bif (decide (x8<(cells.length:Int))) then if (0<=x8/\ x8<(cells.length:Int))/\ (0<=(cells.getD x8.toNat 0)/\ (cells.getD x8.toNat 0)<(O.length:Int))/\ (0<=(O.getD ((cells.getD x8.toNat 0).toNat) 0)/\ (O.getD ((cells.getD x8.toNat 0).toNat) 0)<(Z.length:Int))/\ AG (U+(Z.getD ((O.getD ((cells.getD x8.toNat 0).toNat) 0).toNat) 0))/\ AG (x8+1) then self (.l1 (U+(Z.getD ((O.getD ((cells.getD x8.toNat 0).toNat) 0).toNat) 0)) (x8+1)) else none else some U
def zA (n:Nat)(self:YC -> Option Int)(values AJ cells:Ξ):Option Int:= self (.l1 0 0)
def RS (Z O cells:Ξ):Nat -> YC -> Option Int
 | 0,_=>none
 | n+1,.l1 U x8=>UQ n (RS Z O cells n) Z O cells U x8
def YD (n:Nat)(Z O cells:Ξ):Option Int:=zA n (RS Z O cells n) Z O cells
def zC (n B:Nat)(N:Yd 0)(Z O cells:Ξ)(r:Int):YC -> Prop
 | .l1 U x8=>∀ f:Nat,n<=f -> TW B N (FQ Tryz.f67 0 (.i r) []) (Ag f (An (AR Tryz.f67) 0 [])) ⟨AF 28 [(0,.ints Z),(1,.ints O),(2,.ints cells),(7,.i U),(8,.i x8)],[]⟩
def zD (B:Nat)(N:Yd 0)(Z O cells:Ξ):Al (RS Z O cells) (zC · B N Z O cells):=ia (λ_=>rfl) λn C A r h=>by
 cases A
 case l1 x7 x8=>
  intro f a;refine rd a λf a=>?_
  revert r;apply gO;exact bi 12 (gc (gi (gc (gi (gc (gi (gc (gw 26 (gw 14 (lG AC [] (C _ _ · f a))))))))))) (lE AC [6] [])
variable {Z:Ξ}
def yz {r:Int}(h:YD n Z O cells=some r):EQ 67 [.ints Z,.ints O,.ints cells] [] (.i r) [] true:=by
 refine ot Tryz.func67 λB N=>?_
 revert r;apply gO;exact lN AC [] ((zD B N Z O cells n) _ _ · n Nat.le.refl)
def zAx:Au (A9 Tryz.f68 4) [] (List.range 22) []:=by unfold Au;kernel_rfl
def Ye:BX:=λi=>match i with
 | 4=>.ord [] (List.range 22) []
 | _=>.no
inductive Y9 where
 | l1 (x7:Int)
def VD (n:Nat)(self:Y9 -> Option Bool)(Z O cells:Ξ)(U:Int):Option Bool:= bif (decide (U<(cells.length:Int))) then if AG (U-1)/\ (0<=(U-1)/\ (U-1)<(cells.length:Int))/\ (0<=(cells.getD (((U-1)).toNat) 0)/\ (cells.getD (((U-1)).toNat) 0)<(O.length:Int))/\ (0<=(O.getD ((cells.getD (((U-1)).toNat) 0).toNat) 0)/\ (O.getD ((cells.getD (((U-1)).toNat) 0).toNat) 0)<(Z.length:Int))/\ (0<=U/\ U<(cells.length:Int))/\ (0<=(cells.getD U.toNat 0)/\ (cells.getD U.toNat 0)<(O.length:Int))/\ (0<=(O.getD ((cells.getD U.toNat 0).toNat) 0)/\ (O.getD ((cells.getD U.toNat 0).toNat) 0)<(Z.length:Int)) then bif (decide ((Z.getD ((O.getD ((cells.getD (((U-1)).toNat) 0).toNat) 0).toNat) 0)>=(Z.getD ((O.getD ((cells.getD U.toNat 0).toNat) 0).toNat) 0))) then some false else if AG (U+1) then self (.l1 (U+1)) else none else none else some true
def zCc (n:Nat)(self:Y9 -> Option Bool)(values AJ cells:Ξ):Option Bool:= self (.l1 1)
def NS (Z O cells:Ξ):Nat -> Y9 -> Option Bool
 | 0,_=>none
 | n+1,.l1 U=>VD n (NS Z O cells n) Z O cells U
def ZA (n:Nat)(Z O cells:Ξ):Option Bool:=zCc n (NS Z O cells n) Z O cells
def zCe (n B:Nat)(N:Yd 0)(Z O cells:Ξ)(r:Bool):Y9 -> Prop
 | .l1 U=>∀ f:Nat,n<=f -> TW B N (FQ Tryz.f68 0 (.bool r) []) (Ag f (An (AR Tryz.f68) 0 [])) ⟨AF 36 [(0,.ints Z),(1,.ints O),(2,.ints cells),(7,.i U)],[]⟩
def zCf (B:Nat)(N:Yd 0)(Z O cells:Ξ):Al (NS Z O cells) (zCe · B N Z O cells):=ia (λ_=>rfl) λn C A r h=>by
 cases A
 case l1 x7=>
  intro f a;refine rd a λf a=>?_
  revert r;apply gO;exact bi 11 (jg zAx (gc (gw 18 (gc (gi (gc (gi (gc (gi (gc (gi (gc (gi (gi (bi 35 (lE Ye [6] []) (gw 13 (lG Ye [] (C _ _ · f a)))))))))))))))))) (lE Ye [6] [])
def zCb (h:ZA n Z O cells=some r):EQ 68 [.ints Z,.ints O,.ints cells] [] (.bool r) [] true:=by
 refine ot Tryz.func68 λB N=>?_
 revert r;apply gO;exact lN Ye [] ((zCf B N Z O cells n) _ _ · n Nat.le.refl)
def zAl:Au (A9 Tryz.f69 6) [] (List.range 9) []:=by unfold Au;kernel_rfl
def Uo:BX:=λi=>match i with
 | 6=>.ord [] (List.range 9) []
 | _=>.no
inductive Ym where
 | l1 (x5:Int)
def Uu (n:Nat)(self:Ym -> Option Bool)(a R:Ξ)(P:Int):Option Bool:= bif (decide (P<(a.length:Int))) then if (0<=P/\ P<(a.length:Int))/\ (0<=P/\ P<(R.length:Int)) then bif ((a.getD P.toNat 0) != (R.getD P.toNat 0)) then some false else if AG (P+1) then self (.l1 (P+1)) else none else none else some true
def pL (n:Nat)(self:Ym -> Option Bool)(a R:Ξ):Option Bool:= bif ((a.length:Int) != (R.length:Int)) then some false else self (.l1 0)
def Rj (a R:Ξ):Nat -> Ym -> Option Bool
 | 0,_=>none
 | n+1,.l1 P=>Uu n (Rj a R n) a R P
def Rk (n:Nat)(a R:Ξ):Option Bool:=pL n (Rj a R n) a R
def zAZ (n B:Nat)(N:Yd 0)(a R:Ξ)(r:Bool):Ym -> Prop
 | .l1 P=>∀ f:Nat,n<=f -> TW B N (FQ Tryz.f69 0 (.bool r) []) (Ag f (An (AR Tryz.f69) 0 [])) ⟨AF 26 [(0,.ints a),(1,.ints R),(5,.i P)],[]⟩
def zAa (B:Nat)(N:Yd 0)(a R:Ξ):Al (Rj a R) (zAZ · B N a R):=ia (λ_=>rfl) λn C A r h=>by
 cases A
 case l1 x5=>
  intro f b;refine rd b λf b=>?_
  revert r;apply gO;exact bi 14 (jg zAl (gc (gi (gi (bi 25 (lE Uo [4] []) (gw 16 (lG Uo [] (C _ _ · f b)))))))) (lE Uo [4] [])
def zAY {a R:Ξ}(h:Rk n a R=some r):EQ 69 [.ints a,.ints R] [] (.bool r) [] true:=by
 refine ot Tryz.func69 λB N=>?_
 revert r;apply gO;exact bi 10 (lE Uo [4] []) (lN Uo [] ((zAa B N a R n) _ _ · n Nat.le.refl))
inductive Uy where
 | l1 (x8 x9:Int)
 | l2 (x7:Nat) (x8 x9:Int) (o0:Ξ)
def Ux (n:Nat)(self:Uy -> Option (Ξ))(O cells:Ξ)(a:Int)(x8 v:Int):Option (Ξ):= bif (decide (v<(cells.length:Int))) then if (0<=v/\ v<(cells.length:Int))/\ (0<=(cells.getD v.toNat 0)/\ (cells.getD v.toNat 0)<(O.length:Int)) then (IN n a (O.getD ((cells.getD v.toNat 0).toNat) 0)).bind λj=> bif j then if AG (x8+1)/\ AG (v+1) then self (.l1 (x8+1) (v+1)) else none else bif (decide (x8>0)) then if ((0=0/\ 1=([x8]:Ξ).length)/\ 0<([x8]:Ξ).length/\ ([x8]:Ξ).length<=Ay)/\ AG (v+1) then self (.l2 (([x8]:Ξ).length) 0 (v+1) ([x8]:Ξ)) else none else if AG (v+1) then self (.l1 0 (v+1)) else none else none else bif (decide (x8>0)) then if (0=0/\ 1=([x8]:Ξ).length)/\ 0<([x8]:Ξ).length/\ ([x8]:Ξ).length<=Ay then some ([x8]:Ξ) else none else some ([]:Ξ)
def Uw (n:Nat)(self:Uy -> Option (Ξ))(O cells:Ξ)(a:Int)(U:Nat)(x8 v:Int)(o0:Ξ):Option (Ξ):= bif (decide (v<(cells.length:Int))) then if (0<=v/\ v<(cells.length:Int))/\ (0<=(cells.getD v.toNat 0)/\ (cells.getD v.toNat 0)<(O.length:Int)) then (IN n a (O.getD ((cells.getD v.toNat 0).toNat) 0)).bind λj=> bif j then if AG (x8+1)/\ AG (v+1) then self (.l2 U (x8+1) (v+1) o0) else none else bif (decide (x8>0)) then if ((0=0/\ 1=([x8]:Ξ).length)/\ (0=0/\ U=o0.length)/\ o0.length+([x8]:Ξ).length<=Ay)/\ AG (v+1) then self (.l2 (o0.length+([x8]:Ξ).length) 0 (v+1) (o0++([x8]:Ξ))) else none else if AG (v+1) then self (.l2 U 0 (v+1) o0) else none else none else bif (decide (x8>0)) then if (0=0/\ 1=([x8]:Ξ).length)/\ (0=0/\ U=o0.length)/\ o0.length+([x8]:Ξ).length<=Ay then if o0.length+([x8]:Ξ).length=(o0++([x8]:Ξ)).length then some (o0++([x8]:Ξ)) else none else none else if U=o0.length then some o0 else none
def zBt (n:Nat)(self:Uy -> Option (Ξ))(AJ cells:Ξ)(A2:Int):Option (Ξ):= self (.l1 0 0)
def F3 (O cells:Ξ)(a:Int):Nat -> Uy -> Option (Ξ)
 | 0,_=>none
 | n+1,.l1 x8 v=>Ux n (F3 O cells a n) O cells a x8 v
 | n+1,.l2 U x8 v o0=>Uw n (F3 O cells a n) O cells a U x8 v o0
def Yv (n:Nat)(O cells:Ξ)(a:Int):Option (Ξ):=zBt n (F3 O cells a n) O cells a
def zBw (n B:Nat)(N:Yd 0)(O cells:Ξ)(a:Int)(r:Ξ):Uy -> Prop
 | .l1 x8 v=>∀ f:Nat,n<=f -> TW B N (FQ Tryz.f70 0 (.ints r) []) (Ag f (An (AR Tryz.f70) 0 [])) ⟨AF 40 [(0,.ints O),(1,.ints cells),(2,.i a),(7,.nils),(8,.i x8),(9,.i v)],[]⟩
 | .l2 U x8 v o0=>∀ f:Nat,n<=f -> TW B N (FQ Tryz.f70 0 (.ints r) []) (Ag f (An (AR Tryz.f70) 0 [])) ⟨AF 40 [(0,.ints O),(1,.ints cells),(2,.i a),(7,.msl 0 1 0 U),(8,.i x8),(9,.i v)],[oI o0]⟩
def zBx (B:Nat)(N:Yd 0)(O cells:Ξ)(b:Int):Al (F3 O cells b) (zBw · B N O cells b):=ia (λ_=>rfl) λn C A r h=>by
 cases A
 case l1 x8 x9=>
  intro f a;refine rd a λf a=>?_
  revert r;apply gO;exact bi 13 (gc (gi (gi (cf Kz [] λ_=>bi 24 (gc (gw 26 (gw 15 (lG AC [] (C _ _ · f a))))) (bi 28 (gc (gi (gw 15 (lG AC [1] (C _ _ · f a))))) (gw 15 (lG AC [] (C _ _ · f a)))))))) (bi 34 (gi (lF λp=>ez AC [6] [1] p [0] (H0.g (Eq.refl (([x8]:Ξ).length))))) (lF λp=>el AC [6] [] p [] H0 [.nils] AN.ints_nil))
 case l2 x7 x8 x9 o0=>
  intro f a;refine rd a λf a=>?_
  revert r;apply gO;exact bi 13 (gc (gi (gi (cf Kz [oI o0] λ_=>bi 24 (gc (gw 26 (gw 15 (lG AC [0] (C _ _ · f a))))) (bi 28 (gc (gi (gw 15 (lG AC [2] (C _ _ · f a))))) (gw 15 (lG AC [0] (C _ _ · f a)))))))) (bi 34 (gi (gn λo=>lF λp=>ez AC [6] [2] p [0] (H0.g o))) (gn λq=>lF λp=>ez AC [6] [0] p [0] (H0.g q)))
def zBs {r:Ξ}(h:Yv n O cells a=some r):EQ 70 [.ints O,.ints cells,.i a] [] (.ints r) [] true:=by
 refine ot Tryz.func70 λB N=>?_
 revert r;apply gO;exact lN AC [] ((zBx B N O cells a n) _ _ · n Nat.le.refl)
inductive Td where
 | l1 (x7:Int)
 | l2 (x6:Nat) (x7:Int) (o0:List Ξ)
def Mo (n:Nat)(self:Td -> Option ((List Ξ)×Int))(E:List Ξ)(S:Ω)(U:Int):Option ((List Ξ)×Int):= bif (decide (U<(E.length:Int))) then if 0<=U/\ U<(S.length:Int) then bif (!(S.getD U.toNat false)) then if AG (U+1) then self (.l1 (U+1)) else none else (Ky n E S U).bind λj=> (Na n j).bind λG=> if (0:Int)<=0/\ 0<(G.length:Int) then bif ((G.getD 0 0)==U) then if AG (U+1) then self (.l2 (([G]:List Ξ).length) (U+1) ([G]:List Ξ)) else none else if AG (U+1) then self (.l1 (U+1)) else none else none else none else some (([]:List Ξ),0)
def Mn (n:Nat)(self:Td -> Option ((List Ξ)×Int))(E:List Ξ)(S:Ω)(K:Nat)(U:Int)(o0:List Ξ):Option ((List Ξ)×Int):= bif (decide (U<(E.length:Int))) then if 0<=U/\ U<(S.length:Int) then bif (!(S.getD U.toNat false)) then if AG (U+1) then self (.l2 K (U+1) o0) else none else (Ky n E S U).bind λj=> (Na n j).bind λG=> if (0:Int)<=0/\ 0<(G.length:Int) then bif ((G.getD 0 0)==U) then if K=o0.length/\ o0.length+([G]:List Ξ).length<=Ay/\ AG (U+1) then self (.l2 (o0.length+([G]:List Ξ).length) (U+1) (o0++([G]:List Ξ))) else none else if AG (U+1) then self (.l2 K (U+1) o0) else none else none else none else if K=o0.length then some (o0,0) else none
def zLB (n:Nat)(self:Td -> Option ((List Ξ)×Int))(E:List Ξ)(S:Ω):Option ((List Ξ)×Int):= (NZ n E).bind λj=> bif (j != 0) then some (([]:List Ξ),120) else bif ((S.length:Int) != (E.length:Int)) then some (([]:List Ξ),1) else self (.l1 0)
def HB (E:List Ξ)(S:Ω):Nat -> Td -> Option ((List Ξ)×Int)
 | 0,_=>none
 | n+1,.l1 U=>Mo n (HB E S n) E S U
 | n+1,.l2 K U o0=>Mn n (HB E S n) E S K U o0
def cZ (n:Nat)(E:List Ξ)(S:Ω):Option ((List Ξ)×Int):=zLB n (HB E S n) E S
def zLC (n B:Nat)(N:Yd 0)(E:List Ξ)(S:Ω)(r:(List Ξ)×Int):Td -> Prop
 | .l1 U=>∀ f:Nat,n<=f -> TW B N (FQ Tryz.f94 0 (.tup 2 (L1 [.sl 1 r.1.length (AK AO r.1),.i r.2])) []) (Ag f (An (AR Tryz.f94) 0 [])) ⟨AF 43 [(0,.sl 1 E.length (AK AO E)),(1,.bools S),(6,.nils),(7,.i U)],[]⟩
 | .l2 K U o0=>∀ f:Nat,n<=f -> TW B N (FQ Tryz.f94 0 (.tup 2 (L1 [.sl 1 r.1.length (AK AO r.1),.i r.2])) []) (Ag f (An (AR Tryz.f94) 0 [])) ⟨AF 43 [(0,.sl 1 E.length (AK AO E)),(1,.bools S),(6,.msl 0 1 0 K),(7,.i U)],[some (.arr 1 o0.length (AK AO o0))]⟩
def zLD (B:Nat)(N:Yd 0)(E:List Ξ)(S:Ω):Al (HB E S) (zLC · B N E S):=ia (λ_=>rfl) λn C A r h=>by
 cases A
 case l1 x7=>
  intro f a;refine rd a λf a=>?_
  revert r;apply gO;exact bi 20 (gi (bi 27 (gw 22 (lG AC [] (C _ _ · f a))) (cf ff [] λ_=>cf fj [] λG=>gi (bi 37 (ja 40 0 1 (Ej (c:=AO) (L:=([G]:List Ξ)) (vals:=[.ints G]) rfl ⟨⟨_,rfl,⟨Ax,trivial⟩⟩,trivial⟩) (jg (And.intro (And.intro (And.intro (Eq.refl 0) (Eq.refl 1)) (IS AO ([G]:List Ξ) (([G]:List Ξ).length) 1 λ_=>⟨rfl,rfl⟩)) (And.intro (by decide:0<1) (by decide:1<=Ay))) (gw 22 (lG AC [1] (C _ _ · f a))))) (gw 22 (lG AC [] (C _ _ · f a))))))) (lF λp=>el AC [4,5] [] p [] H0 [.nils,.i 0] (AN.tupL (l:=[.nils,.i 0]) (l':=[.sl 1 (([]:List Ξ).length) (AK AO ([]:List Ξ)),.i 0]) rfl ⟨(AN.sl_nil _ _),Ax,trivial⟩))
 case l2 x6 x7 o0=>
  intro f a;refine rd a λf a=>?_
  revert r;apply gO;exact bi 20 (gi (bi 27 (gw 22 (lG AC [0] (C _ _ · f a))) (cf ff [some (.arr 1 o0.length (AK AO o0))] λ_=>cf fj [some (.arr 1 o0.length (AK AO o0))] λG=>gi (bi 37 (ja 40 1 1 (Ej (c:=AO) (L:=([G]:List Ξ)) (vals:=[.ints G]) rfl ⟨⟨_,rfl,⟨Ax,trivial⟩⟩,trivial⟩) (gc (gn λs=>gc (gn λP=>jg (And.intro (And.intro (And.intro (Eq.refl 0) (Eq.refl 1)) (IS AO ([G]:List Ξ) (([G]:List Ξ).length) 1 λ_=>⟨rfl,rfl⟩)) (And.intro (And.intro (Eq.refl 0) s) P)) (ja 41 2 1 (Rq (enc:=(TU AO)) (L:=o0) (L':=([G]:List Ξ)) rfl rfl λ_ _ _ _=>Ax) (gw 22 (lG AC [2] (C _ _ · f a)))))))) (gw 22 (lG AC [0] (C _ _ · f a))))))) (gn λq=>lF λp=>ez AC [4,5] [0] p [0] (H0.g q))
variable {S:Ω}{E:List Ξ}
def ve {r:(List Ξ)×Int}(h:cZ n E S=some r):EQ 94 [.sl 1 E.length (AK AO E),.bools S] [] (.tup 2 (L1 [.sl 1 r.1.length (AK AO r.1),.i r.2])) [] true:=by
 refine ot Tryz.func94 λB N=>?_
 revert r;apply gO;exact cf fX [] λ_=>bi 11 (lF λp=>el AC [4,5] [] p [] H0 [.nils,.i 120] (AN.tupL (l:=[.nils,.i 120]) (l':=[.sl 1 (([]:List Ξ).length) (AK AO ([]:List Ξ)),.i 120]) rfl ⟨(AN.sl_nil _ _),Ax,trivial⟩)) (bi 16 (lF λp=>el AC [4,5] [] p [] H0 [.nils,.i 1] (AN.tupL (l:=[.nils,.i 1]) (l':=[.sl 1 (([]:List Ξ).length) (AK AO ([]:List Ξ)),.i 1]) rfl ⟨(AN.sl_nil _ _),Ax,trivial⟩)) (lN AC [] ((zLD B N E S n) _ _ · n Nat.le.refl)))
inductive VG where
 | l1 (x6:Ξ) (x7:Ω) (x8:Int)
 | l2 (x6:Ξ) (x7:Ω) (x8 x9 x10:Int)
def VF (n:Nat)(self:VG -> Option (Bool×Int))(g_:List Ξ)(AM:Ω)(K:Ξ)(U:Ω)(x8:Int):Option (Bool×Int):= bif (decide (x8<(K.length:Int))) then self (.l2 K U x8 0 0) else some (true,0)
def VE (n:Nat)(self:VG -> Option (Bool×Int))(E:List Ξ)(S:Ω)(K:Ξ)(U:Ω)(x8 v x10:Int):Option (Bool×Int):= if (0<=x8/\ x8<(K.length:Int))/\ (0<=(K.getD x8.toNat 0)/\ (K.getD x8.toNat 0)<(E.length:Int)) then bif (decide (x10<(((E.getD ((K.getD x8.toNat 0).toNat) []).length:Nat):Int))) then if (0<=x10/\ x10<(((E.getD ((K.getD x8.toNat 0).toNat) []).length:Nat):Int))/\ ((0:Int)<=((E.getD ((K.getD x8.toNat 0).toNat) []).getD x10.toNat 0)/\ ((E.getD ((K.getD x8.toNat 0).toNat) []).getD x10.toNat 0)<(S.length:Int)) then bif (S.getD (((E.getD ((K.getD x8.toNat 0).toNat) []).getD x10.toNat 0).toNat) false) then if AG (v+1)/\ AG (x10+1) then self (.l2 K U x8 (v+1) (x10+1)) else none else if AG (x10+1) then self (.l2 K U x8 v (x10+1)) else none else none else bif (v != 2) then some (false,0) else if 0<=(K.getD x8.toNat 0)/\ (K.getD x8.toNat 0)<(U.length:Int) then bif (!(U.getD ((K.getD x8.toNat 0).toNat) false)) then some (false,0) else if AG (x8+1) then self (.l1 K U (x8+1)) else none else none else none
def zCh (n:Nat)(self:VG -> Option (Bool×Int))(E:List Ξ)(S:Ω):Option (Bool×Int):= (NZ n E).bind λj=> bif (j != 0) then some (false,120) else bif ((S.length:Int) != (E.length:Int)) then some (false,1) else (Na n S).bind λG=> bif (decide ((G.length:Int)<3)) then some (false,0) else if (0:Int)<=0/\ 0<(G.length:Int) then (Ky n E S (G.getD 0 0)).bind λy3=> self (.l1 G y3 0) else none
def HQ (E:List Ξ)(S:Ω):Nat -> VG -> Option (Bool×Int)
 | 0,_=>none
 | n+1,.l1 K U x8=>VF n (HQ E S n) E S K U x8
 | n+1,.l2 K U x8 v x10=>VE n (HQ E S n) E S K U x8 v x10
def ZB (n:Nat)(E:List Ξ)(S:Ω):Option (Bool×Int):=zCh n (HQ E S n) E S
def zCj (n B:Nat)(N:Yd 0)(E:List Ξ)(S:Ω)(r:Bool×Int):VG -> Prop
 | .l1 K U x8=>∀ f:Nat,n<=f -> TW B N (FQ Tryz.f95 0 (.tup 2 (L1 [.bool r.1,.i r.2])) []) (Ag f (An (AR Tryz.f95) 0 [])) ⟨AF 75 [(0,.sl 1 E.length (AK AO E)),(1,.bools S),(6,.ints K),(7,.bools U),(8,.i x8)],[]⟩
 | .l2 K U x8 v x10=>∀ f Y:Nat,n<=f -> n<=Y -> TW B N (FQ Tryz.f95 0 (.tup 2 (L1 [.bool r.1,.i r.2])) []) (Ag Y (An (AR Tryz.f95) 2 [f])) ⟨AF 75 [(0,.sl 1 E.length (AK AO E)),(1,.bools S),(6,.ints K),(7,.bools U),(8,.i x8),(9,.i v),(10,.i x10)],[]⟩
def zCk (B:Nat)(N:Yd 0)(E:List Ξ)(S:Ω):Al (HQ E S) (zCj · B N E S):=ia (λ_=>rfl) λn C A r h=>by
 cases A
 case l1 x6 x7 x8=>
  intro f a;refine rd a λf a=>?_
  revert r;apply gO;exact bi 33 (lN AC [] (C _ _ · f n a Nat.le.refl)) (lE AC [4,5] [])
 case l2 x6 x7 x8 x9 x10=>
  intro f Y a x;have a:=zGf a;refine rd x λY x=>?_
  revert r;apply gO;exact gc (gn λq=>jg q (gn λo=>jg o (bi 45 (jg q (jg o (gc (gi (gi (bi 60 (gc (gw 62 (gw 47 (lG AC [] (C _ _ · f Y a x))))) (gw 47 (lG AC [] (C _ _ · f Y a x))))))))) (bi 64 (lE AC [4,5] []) (jg q (gi (bi 73 (lE AC [4,5] []) (gw 35 (lG AC [] (C _ _ · f a))))))))))
def zCg {r:Bool×Int}(h:ZB n E S=some r):EQ 95 [.sl 1 E.length (AK AO E),.bools S] [] (.tup 2 (L1 [.bool r.1,.i r.2])) [] true:=by
 refine ot Tryz.func95 λB N=>?_
 revert r;apply gO;exact cf fX [] λ_=>bi 13 (lE AC [4,5] []) (bi 18 (lE AC [4,5] []) (cf fj [] λ_=>bi 23 (lE AC [4,5] []) (gi (cf ff [] λ_=>lN AC [] ((zCk B N E S n) _ _ · n Nat.le.refl)))))
def zBL:Au (A9 Tryz.f74 5) [([0,1,2,3,4,5,6,7,8,9,10,11,12],13)] [14] [15]:=by unfold Au;kernel_rfl
def eY:BX:=λi=>match i with
 | 5=>.ord [([0,1,2,3,4,5,6,7,8,9,10,11,12],13)] [14] [15]
 | _=>.no
inductive aA where
 | l1 (x8:Int) (o0:Ω)
def Vo (n:Nat)(self:aA -> Option (Ω))(O cells:Ξ)(a:Int)(x8:Int)(o0:Ω):Option (Ω):= bif (decide (x8<(cells.length:Int))) then if (0<=x8/\ x8<(cells.length:Int))/\ (0<=(cells.getD x8.toNat 0)/\ (cells.getD x8.toNat 0)<(O.length:Int)) then (IN n a (O.getD ((cells.getD x8.toNat 0).toNat) 0)).bind λj=> if 0+((cells.getD x8.toNat 0).toNat)<o0.length/\ AG (x8+1) then self (.l1 (x8+1) (o0.set (0+((cells.getD x8.toNat 0).toNat)) j)) else none else none else if O.length=o0.length then some o0 else none
def sF (n:Nat)(self:aA -> Option (Ω))(O cells:Ξ)(A2:Int):Option (Ω):= if ((O.length:Int):Int)=(O.length:Int)/\ 0<=(O.length:Int)/\ ((O.length:Int):Int)<=1000000000000 then self (.l1 0 (List.replicate O.length false)) else none
def SR (O cells:Ξ)(a:Int):Nat -> aA -> Option (Ω)
 | 0,_=>none
 | n+1,.l1 x8 o0=>Vo n (SR O cells a n) O cells a x8 o0
def Pd (n:Nat)(O cells:Ξ)(a:Int):Option (Ω):=sF n (SR O cells a n) O cells a
def zEp (n B:Nat)(N:Yd 0)(O cells:Ξ)(a:Int)(r:Ω):aA -> Prop
 | .l1 x8 o0=>∀ f:Nat,n<=f -> TW B N (FQ Tryz.f74 0 (.bools r) []) (Ag f (An (AR Tryz.f74) 0 [])) ⟨AF 34 [(0,.ints O),(1,.ints cells),(2,.i a),(7,.msl 0 1 0 O.length),(8,.i x8)],[some (.bools o0)]⟩
def zEq (B:Nat)(N:Yd 0)(O cells:Ξ)(b:Int):Al (SR O cells b) (zEp · B N O cells b):=ia (λ_=>rfl) λn C A r h=>by
 cases A
 case l1 x8 o0=>
  intro f a;refine rd a λf a=>?_
  revert r;apply gO;exact bi 15 (jg zBL (gc (gn λq=>jg q (jg q (gn λo=>jg o (cf Kz [some (.bools o0)] λ_=>jg o (gc (gi (gw 17 (lG eY [0] (C _ _ · f a))))))))))) (gn λq=>lF λp=>ez eY [6] [0] p [0] (H0.g q))
def sD {r:Ω}(h:Pd n O cells a=some r):EQ 74 [.ints O,.ints cells,.i a] [] (.bools r) [] true:=by
 refine ot Tryz.func74 λB N=>?_
 revert r;apply gO;exact gi (lN eY [0] ((zEq B N O cells a n) _ _ · n Nat.le.refl))
def vd (n:Nat)(s:List Ξ)(S:Ω):Option Bool:= (cZ n s S).bind λj=> bif (j.2==0) then some (decide ((j.1.length:Int)<=1)) else some false
def XJ (n:Nat)(s:List Ξ)(S:Ω):Option Bool:=vd n s S
variable {s:List Ξ}
def zK8 (h:XJ n s S=some r):EQ 73 [.sl 1 s.length (AK AO s),.bools S] [] (.bool r) [] true:=by
 unfold XJ vd at h;refine ot Tryz.func73 λB N=>?_
 revert r;apply gO;exact cf ve [] λ_=>bi 14 (lE AC [4] []) (lE AC [4] [])
def sO (n:Nat)(s:List Ξ)(S:Ω):Option Bool:= (cZ n s S).bind λj=> (ZB n s S).bind λG=> bif (j.2==0) then bif (G.2==0) then bif ((j.1.length:Int)==0) then some true else some G.1 else some false else some false
def Vu (n:Nat)(s:List Ξ)(S:Ω):Option Bool:=sO n s S
def zFE (h:Vu n s S=some r):EQ 75 [.sl 1 s.length (AK AO s),.bools S] [] (.bool r) [] true:=by
 unfold Vu sO at h;refine ot Tryz.func75 λB N=>?_
 revert r;apply gO;exact cf ve [] λ_=>cf zCg [] λ_=>bi 22 (bi 25 (bi 30 (lE AC [4] []) (lE AC [4] [])) (lE AC [4] [])) (lE AC [4] [])
def zBK:Au (A9 Tryz.f42 13) [([0,1,2,3,4,6,7],5),([],8)] [9] []:=by unfold Au;kernel_rfl
def zBJ:Au (A9 Tryz.f42 15) [([0,1,2,3,4,5,6,7,8,9,10,11,12,13,14,15,16,17,18,19,20,21,22,23],24)] [25] []:=by unfold Au;kernel_rfl
def zBI:Au (A9 Tryz.f42 21) [([0,1,2,3,4,5,6],7),([],8)] [9] []:=by unfold Au;kernel_rfl
def zBH:Au (A9 Tryz.f42 22) [([0,1,2,3,4,5,6],7),([],8)] [9] []:=by unfold Au;kernel_rfl
def L2:BX:=λi=>match i with
 | 13=>.ord [([0,1,2,3,4,6,7],5),([],8)] [9] []
 | 15=>.ord [([0,1,2,3,4,5,6,7,8,9,10,11,12,13,14,15,16,17,18,19,20,21,22,23],24)] [25] []
 | 21=>.ord [([0,1,2,3,4,5,6],7),([],8)] [9] []
 | 22=>.ord [([0,1,2,3,4,5,6],7),([],8)] [9] []
 | _=>.no
def LF (n:Nat)(q:AA)(W:AD)(O:Ξ):Option Bool:= bif (W.kind==1) then (cL n O W.cells).bind λj=> some j else bif (W.kind==2) then (cR n O W.cells W.set).bind λj=> bif (decide (W.lo<=j)) then some (decide (j<=W.hi)) else some false else bif (W.kind==3) then (YD n q.values O W.cells).bind λj=> bif (decide (W.lo<=j)) then some (decide (j<=W.hi)) else some false else bif (W.kind==4) then (ZA n q.values O W.cells).bind λj=> some j else bif (W.kind==5) then (Yv n O W.cells W.set).bind λj=> (Rk n j W.runs).bind λG=> some G else bif (W.kind==6) then if ((0:Int)<=0/\ 0<(W.cells.length:Int))/\ (0<=(W.cells.getD 0 0)/\ (W.cells.getD 0 0)<(O.length:Int))/\ (0<=(O.getD ((W.cells.getD 0 0).toNat) 0)/\ (O.getD ((W.cells.getD 0 0).toNat) 0)<(q.values.length:Int))/\ ((0:Int)<=1/\ 1<(W.cells.length:Int))/\ (0<=(W.cells.getD 1 0)/\ (W.cells.getD 1 0)<(O.length:Int))/\ (0<=(O.getD ((W.cells.getD 1 0).toNat) 0)/\ (O.getD ((W.cells.getD 1 0).toNat) 0)<(q.values.length:Int)) then (fk n (q.values.getD ((O.getD ((W.cells.getD 0 0).toNat) 0).toNat) 0) (q.values.getD ((O.getD ((W.cells.getD 1 0).toNat) 0).toNat) 0) W.lo).bind λj=> some j else none else bif (W.kind==7) then if ((0:Int)<=0/\ 0<(W.cells.length:Int))/\ (0<=(W.cells.getD 0 0)/\ (W.cells.getD 0 0)<(O.length:Int))/\ ((0:Int)<=1/\ 1<(W.cells.length:Int))/\ (0<=(W.cells.getD 1 0)/\ (W.cells.getD 1 0)<(O.length:Int)) then (IN n W.set (O.getD ((W.cells.getD 0 0).toNat) 0)).bind λj=> bif j then (IN n W.other (O.getD ((W.cells.getD 1 0).toNat) 0)).bind λG=> bif (!G) then (IN n W.set (O.getD ((W.cells.getD 1 0).toNat) 0)).bind λy3=> bif y3 then (IN n W.other (O.getD ((W.cells.getD 0 0).toNat) 0)).bind λr=> some (!r) else some true else some false else (IN n W.set (O.getD ((W.cells.getD 1 0).toNat) 0)).bind λG=> bif G then (IN n W.other (O.getD ((W.cells.getD 0 0).toNat) 0)).bind λy3=> some (!y3) else some true else none else bif (W.kind==8) then (Pd n O W.cells W.set).bind λj=> (XJ n q.nbrs j).bind λG=> some G else (Pd n O W.cells W.set).bind λj=> (Vu n q.nbrs j).bind λG=> some G
def GY (n:Nat)(q:AA)(W:AD)(O:Ξ):Option Bool:=LF n q W O
variable {q:AA}
def zEn {W:AD}(h:GY n q W O=some r):EQ 42 [.agg 5 (L1 (AH q)),.agg 9 (L1 (BW W)),.ints O] [] (.bool r) [] true:=by
 refine ot Tryz.func42 λB N=>?_
 revert r;apply gO;exact bi 14 (cf zKb [oC (AH q),oC (BW W)] λ_=>lE AC [6] []) (bi 20 (cf zKr [oC (AH q),oC (BW W)] λ_=>bi 30 (lE AC [6] []) (lE AC [6] [])) (bi 38 (cf yz [oC (AH q),oC (BW W)] λ_=>bi 48 (lE AC [6] []) (lE AC [6] [])) (bi 56 (cf zCb [oC (AH q),oC (BW W)] λ_=>lE AC [6] []) (bi 64 (jg zBK (cf zBs [oC (AH q),oC (BW W)] λ_=>cf zAY [oC (AH q),oC (BW W)] λ_=>lE L2 [6] [])) (bi 75 (jg zBJ (gc (gi (gc (gi (gc (gi (gc (gi (gc (gi (gi (cf zDM [oC (AH q),oC (BW W)] λ_=>lE L2 [6] []))))))))))))) (bi 102 (gc (gi (gc (gi (gc (gi (gi (cf Kz [oC (AH q),oC (BW W)] λ_=>bi 120 (cf Kz [oC (AH q),oC (BW W)] λ_=>bi 127 (cf Kz [oC (AH q),oC (BW W)] λ_=>bi 132 (cf Kz [oC (AH q),oC (BW W)] λ_=>lE L2 [6] []) (lE L2 [6] [])) (lE L2 [6] [])) (cf Kz [oC (AH q),oC (BW W)] λ_=>bi 132 (cf Kz [oC (AH q),oC (BW W)] λ_=>lE L2 [6] []) (lE L2 [6] [])))))))))) (bi 142 (jg zBI (cf sD [oC (AH q),oC (BW W)] λ_=>cf zK8 [oC (AH q),oC (BW W)] λ_=>lE L2 [6] [])) (jg zBH (cf sD [oC (AH q),oC (BW W)] λ_=>cf zFE [oC (AH q),oC (BW W)] λ_=>lE L2 [6] [])))))))))
inductive bs where
 | l1 (x7:Int)
def Wn (n:Nat)(self:bs -> Option Bool)(cells y:Int)(O:Ξ)(U:Int):Option Bool:= bif (decide (U<(O.length:Int))) then if 0<=U/\ U<(O.length:Int) then bif (decide ((O.getD U.toNat 0)<0)) then some false else bif (decide ((O.getD U.toNat 0)>=y)) then some false else if AG (U+1) then self (.l1 (U+1)) else none else none else some true
def ut (n:Nat)(self:bs -> Option Bool)(cells symbols:Int)(O:Ξ):Option Bool:= bif ((O.length:Int) != cells) then some false else self (.l1 0)
def TM (cells y:Int)(O:Ξ):Nat -> bs -> Option Bool
 | 0,_=>none
 | n+1,.l1 U=>Wn n (TM cells y O n) cells y O U
def bu (n:Nat)(cells y:Int)(O:Ξ):Option Bool:=ut n (TM cells y O n) cells y O
def zJl (n B:Nat)(N:Yd 0)(cells y:Int)(O:Ξ)(r:Bool):bs -> Prop
 | .l1 U=>∀ f:Nat,n<=f -> TW B N (FQ Tryz.f64 0 (.bool r) []) (Ag f (An (AR Tryz.f64) 0 [])) ⟨AF 31 [(1,.i y),(2,.ints O),(7,.i U)],[]⟩
def zJm (B:Nat)(N:Yd 0)(cells y:Int)(O:Ξ):Al (TM cells y O) (zJl · B N cells y O):=ia (λ_=>rfl) λn C A r h=>by
 cases A
 case l1 x7=>
  intro f a;refine rd a λf a=>?_
  revert r;apply gO;exact bi 15 (gn λq=>jg q (bi 22 (lE AC [6] []) (jg q (bi 29 (lE AC [6] []) (gw 17 (lG AC [] (C _ _ · f a))))))) (lE AC [6] [])
def zJk {cells y:Int}(h:bu n cells y O=some r):EQ 64 [.i cells,.i y,.ints O] [] (.bool r) [] true:=by
 refine ot Tryz.func64 λB N=>?_
 revert r;apply gO;exact bi 11 (lE AC [6] []) (lN AC [] ((zJm B N cells y O n) _ _ · n Nat.le.refl))
def m5 (n:Nat)(q:AA)(O:Ξ):Option Int:= (Rl n q).bind λj=> bif (j != 0) then some j else (bu n q.cells q.symbols O).bind λG=> bif (!G) then some 200 else some 0
def Xu (n:Nat)(q:AA)(O:Ξ):Option Int:=m5 n q O
def yD {r:Int}(h:Xu n q O=some r):EQ 41 [.agg 5 (L1 (AH q)),.ints O] [] (.i r) [] true:=by
 unfold Xu m5 at h;refine ot Tryz.func41 λB N=>?_
 revert r;apply gO;exact cf pT [oC (AH q)] λ_=>bi 9 (lE AC [4] []) (cf zJk [oC (AH q)] λ_=>bi 17 (lE AC [4] []) (lE AC [4] []))
def zAi:Au (A9 Tryz.f32 7) [([0,1,2,3,4,5,6],7)] [8] []:=by unfold Au;kernel_rfl
def Um:BX:=λi=>match i with
 | 7=>.ord [([0,1,2,3,4,5,6],7)] [8] []
 | _=>.no
inductive YI where
 | l1 (x7:Int)
def UY (n:Nat)(self:YI -> Option (Bool×Int))(q:AA)(O:Ξ)(U:Int):Option (Bool×Int):= bif (decide (U<(q.cons.length:Int))) then if 0<=U/\ U<(q.cons.length:Int) then (GY n q (q.cons.getD U.toNat default) O).bind λj=> bif (!j) then some (false,0) else if AG (U+1) then self (.l1 (U+1)) else none else none else some (true,0)
def zS (n:Nat)(self:YI -> Option (Bool×Int))(q:AA)(O:Ξ):Option (Bool×Int):= (Xu n q O).bind λj=> bif (j != 0) then some (false,j) else self (.l1 0)
def NF (q:AA)(O:Ξ):Nat -> YI -> Option (Bool×Int)
 | 0,_=>none
 | n+1,.l1 U=>UY n (NF q O n) q O U
def Ko (n:Nat)(q:AA)(O:Ξ):Option (Bool×Int):=zS n (NF q O n) q O
def zU (n B:Nat)(N:Yd 0)(q:AA)(O:Ξ)(r:Bool×Int):YI -> Prop
 | .l1 U=>∀ f:Nat,n<=f -> TW B N (FQ Tryz.f32 0 (.tup 2 (L1 [.bool r.1,.i r.2])) []) (Ag f (An (AR Tryz.f32) 0 [])) ⟨AF 30 [(1,.ints O),(2,.ref 0 0),(7,.i U)],[oC (AH q)]⟩
def zV (B:Nat)(N:Yd 0)(q:AA)(O:Ξ):Al (NF q O) (zU · B N q O):=ia (λ_=>rfl) λn C A r h=>by
 cases A
 case l1 x7=>
  intro f a;refine rd a λf a=>?_
  revert r;apply gO;exact bi 18 (jg zAi (gi (cf zEn [oC (AH q)] λ_=>bi 29 (lE Um [4,5] []) (gw 20 (lG Um [0] (C _ _ · f a)))))) (lE Um [4,5] [])
def eE {r:Bool×Int}(h:Ko n q O=some r):EQ 32 [.agg 5 (L1 (AH q)),.ints O] [] (.tup 2 (L1 [.bool r.1,.i r.2])) [] true:=by
 refine ot Tryz.func32 λB N=>?_
 revert r;apply gO;exact cf yD [oC (AH q)] λ_=>bi 12 (lE Um [4,5] []) (lN Um [0] ((zV B N q O n) _ _ · n Nat.le.refl))
inductive YX where
 | l1 (x3 x4:Int)
def YU (n:Nat)(self:YX -> Option Int)(a:Int)(H K:Int):Option Int:= bif (decide (K<64)) then if (0<=IntKind.u64.wrap K/\ IntKind.u64.wrap K<=(IntKind.u64.bits:Int))/\ AG (H+(IntKind.i64.wrap (bits .and .u64 ((IntKind.u64.wrap a)/2 ^ (IntKind.u64.wrap K).toNat) 1)))/\ AG (K+1) then self (.l1 (H+(IntKind.i64.wrap (bits .and .u64 ((IntKind.u64.wrap a)/2 ^ (IntKind.u64.wrap K).toNat) 1))) (K+1)) else none else some H
def zAG (n:Nat)(self:YX -> Option Int)(A2:Int):Option Int:= self (.l1 0 0)
def Rb (a:Int):Nat -> YX -> Option Int
 | 0,_=>none
 | n+1,.l1 H K=>YU n (Rb a n) a H K
def YY (n:Nat)(a:Int):Option Int:=zAG n (Rb a n) a
def zAI (n B:Nat)(N:Yd 0)(a:Int)(r:Int):YX -> Prop
 | .l1 H K=>∀ f:Nat,n<=f -> TW B N (FQ Tryz.f31 0 (.i r) []) (Ag f (An (AR Tryz.f31) 0 [])) ⟨AF 19 [(0,.i a),(3,.i H),(4,.i K)],[]⟩
def zAJ (B:Nat)(N:Yd 0)(b:Int):Al (Rb b) (zAI · B N b):=ia (λ_=>rfl) λn C A r h=>by
 cases A
 case l1 x3 x4=>
  intro f a;refine rd a λf a=>?_
  revert r;apply gO;exact bi 6 (gc (gi (gc (gw 17 (gw 8 (lG AC [] (C _ _ · f a))))))) (lE AC [2] [])
def zAF {r:Int}(h:YY n a=some r):EQ 31 [.i a] [] (.i r) [] true:=by
 refine ot Tryz.func31 λB N=>?_
 revert r;apply gO;exact lN AC [] ((zAJ B N a n) _ _ · n Nat.le.refl)
inductive al where
 | l1 (x9:Int)
def iY (n:Nat)(self:al -> Option Bool)(h:List Ξ)(O:Ξ)(v:Int):Option Bool:= bif (decide (v<(h.length:Int))) then if 0<=v/\ v<(h.length:Int) then (same n (h.getD v.toNat []) O).bind λj=> bif j then some true else if AG (v+1) then self (.l1 (v+1)) else none else none else some false
def zGM (n:Nat)(self:al -> Option Bool)(l_:List Ξ)(AJ:Ξ):Option Bool:= self (.l1 0)
def Nu (h:List Ξ)(O:Ξ):Nat -> al -> Option Bool
 | 0,_=>none
 | n+1,.l1 v=>iY n (Nu h O n) h O v
def am (n:Nat)(h:List Ξ)(O:Ξ):Option Bool:=zGM n (Nu h O n) h O
def zGO (n B:Nat)(N:Yd 0)(h:List Ξ)(O:Ξ)(r:Bool):al -> Prop
 | .l1 v=>∀ f:Nat,n<=f -> TW B N (FQ Tryz.f19 0 (.bool r) []) (Ag f (An (AR Tryz.f19) 0 [])) ⟨AF 17 [(1,.ints O),(7,.sl 1 h.length (AK AO h)),(8,.i (h.length:Int)),(9,.i v)],[]⟩
def zGP (B:Nat)(N:Yd 0)(b:List Ξ)(O:Ξ):Al (Nu b O) (zGO · B N b O):=ia (λ_=>rfl) λn C A r h=>by
 cases A
 case l1 x9=>
  intro f a;refine rd a λf a=>?_
  revert r;apply gO;exact bi 10 (gi (cf eZ [] λ_=>bi 15 (lE AC [4] []) (gw 16 (lG AC [] (C _ _ · f a))))) (lE AC [4] [])
def zGL {a:List Ξ}(h:am n a O=some r):EQ 19 [.sl 1 a.length (AK AO a),.ints O] [] (.bool r) [] true:=by
 refine ot Tryz.func19 λB N=>?_
 revert r;apply gO;exact lN AC [] ((zGP B N a O n) _ _ · n Nat.le.refl)
inductive FW where
 | l1 (x6 Im:Int)
 | l2 (x9:Nat) (Aw:Int) (o1:List Ξ)
 | l3 (Am Aw:Int) (Ou:Nat) (B2:Int) (o1:List Ξ)
 | l4 (Ot:Nat) (DK:Int) (o1:List Ξ)
 | l5 (Am:Int) (BR:Ξ) (A8 Aw:Int) (CE:List Ξ) (B2 B4:Int)
 | l6 (x4:Nat) (Ca:List Ξ) (DK CD:Int) (o1:List Ξ)
 | l7 (Ca:List Ξ) (DK CD:Int)
 | l8 (Am:Int) (BB:Nat) (BR:Ξ) (A8 Aw:Int) (CE:List Ξ) (B2 B4:Int) (o1:List Ξ)
 | l9 (Am Aw:Int) (CE:List Ξ) (B2 B4:Int)
 | l10 (Am:Int) (BB:Nat) (Aw:Int) (CE:List Ξ) (B2 B4:Int) (o1:List Ξ)
 | l11 (Aw:Int)
 | l12 (Am Aw:Int)
 | l13
def YO (n:Nat)(self:FW -> Option ((List Ξ)×Bool))(q:AA)(pos:Ξ)(K F:Int):Option ((List Ξ)×Bool):= bif (decide (F<(pos.length:Int))) then if 0<=F/\ F<(pos.length:Int) then (YY n (pos.getD F.toNat 0)).bind λj=> if AG (K*(if 1>j then 1 else j)) then bif (decide ((K*(if 1>j then 1 else j))>1024)) then some (([]:List Ξ),false) else if AG (F+1) then self (.l1 (K*(if 1>j then 1 else j)) (F+1)) else none else none else none else self (.l2 1 0 ([([]:Ξ)]:List Ξ))
def eJ (n:Nat)(self:FW -> Option ((List Ξ)×Bool))(q:AA)(pos:Ξ)(v:Nat)(o:Int)(o1:List Ξ):Option ((List Ξ)×Bool):= bif (decide (o<(pos.length:Int))) then if 0<=o/\ o<(pos.length:Int) then self (.l3 (pos.getD o.toNat 0) o v (v:Int) o1) else none else self (.l4 v (v:Int) o1)
def eH (n:Nat)(self:FW -> Option ((List Ξ)×Bool))(q:AA)(pos:Ξ)(X o:Int)(W:Nat)(a:Int)(o1:List Ξ):Option ((List Ξ)×Bool):= bif (decide (0<a)) then if W=o1.length then if (0:Int)<=0/\ 0<(o1.length:Int) then self (.l5 X (o1.getD 0 []) 0 o o1 a 0) else none else none else if AG (o+1) then self (.l11 (o+1)) else none
def eG (n:Nat)(self:FW -> Option ((List Ξ)×Bool))(q:AA)(pos:Ξ)(X:Nat)(r:Int)(o1:List Ξ):Option ((List Ξ)×Bool):= bif (decide (0<r)) then if X=o1.length then if (0:Int)<=0/\ 0<(o1.length:Int) then (Ko n q (o1.getD 0 [])).bind λj=> bif j.1 then self (.l6 (([(o1.getD 0 [])]:List Ξ).length) o1 r 1 ([(o1.getD 0 [])]:List Ξ)) else self (.l7 o1 r 1) else none else none else some (([]:List Ξ),true)
def PA (n:Nat)(self:FW -> Option ((List Ξ)×Bool))(q:AA)(pos:Ξ)(X:Int)(t:Ξ)(A o:Int)(M:List Ξ)(a w:Int):Option ((List Ξ)×Bool):= bif (decide (A<q.symbols)) then if 0<=IntKind.u64.wrap A/\ IntKind.u64.wrap A<=(IntKind.i64.bits:Int) then bif ((bits .and .i64 (X/2 ^ (IntKind.u64.wrap A).toNat) 1)==1) then if ((True)/\ (0=0/\ 0=([]:Ξ).length)/\ ([]:Ξ).length+t.length<=Ay)/\ (([]:Ξ)++t).length+([A]:Ξ).length=((([]:Ξ)++t)++([A]:Ξ)).length/\ ((0=0/\ 1=([A]:Ξ).length)/\ (0=0/\ ([]:Ξ).length+t.length=(([]:Ξ)++t).length)/\ (([]:Ξ)++t).length+([A]:Ξ).length<=Ay)/\ AG (A+1) then self (.l8 X (([(([]:Ξ)++t)++([A]:Ξ)]:List Ξ).length) t (A+1) o M a w ([(([]:Ξ)++t)++([A]:Ξ)]:List Ξ)) else none else if AG (A+1) then self (.l5 X t (A+1) o M a w) else none else none else if AG (w+1) then self (.l9 X o M a (w+1)) else none
def YM (n:Nat)(self:FW -> Option ((List Ξ)×Bool))(q:AA)(pos:Ξ)(K:Nat)(f:List Ξ)(r x:Int)(o1:List Ξ):Option ((List Ξ)×Bool):= bif (decide (x<r)) then if 0<=x/\ x<(f.length:Int) then (Ko n q (f.getD x.toNat [])).bind λj=> bif j.1 then if K=o1.length/\ o1.length+([(f.getD x.toNat [])]:List Ξ).length<=Ay/\ AG (x+1) then self (.l6 (o1.length+([(f.getD x.toNat [])]:List Ξ).length) f r (x+1) (o1++([(f.getD x.toNat [])]:List Ξ))) else none else if AG (x+1) then self (.l6 K f r (x+1) o1) else none else none else if K=o1.length then some (o1,true) else none
def YL (n:Nat)(self:FW -> Option ((List Ξ)×Bool))(q:AA)(pos:Ξ)(f:List Ξ)(r x:Int):Option ((List Ξ)×Bool):= bif (decide (x<r)) then if 0<=x/\ x<(f.length:Int) then (Ko n q (f.getD x.toNat [])).bind λj=> bif j.1 then if AG (x+1) then self (.l6 (([(f.getD x.toNat [])]:List Ξ).length) f r (x+1) ([(f.getD x.toNat [])]:List Ξ)) else none else if AG (x+1) then self (.l7 f r (x+1)) else none else none else some (([]:List Ξ),true)
def O9 (n:Nat)(self:FW -> Option ((List Ξ)×Bool))(q:AA)(pos:Ξ)(X:Int)(W:Nat)(t:Ξ)(A o:Int)(M:List Ξ)(a w:Int)(o1:List Ξ):Option ((List Ξ)×Bool):= bif (decide (A<q.symbols)) then if 0<=IntKind.u64.wrap A/\ IntKind.u64.wrap A<=(IntKind.i64.bits:Int) then bif ((bits .and .i64 (X/2 ^ (IntKind.u64.wrap A).toNat) 1)==1) then if ((True)/\ (0=0/\ 0=([]:Ξ).length)/\ ([]:Ξ).length+t.length<=Ay)/\ (([]:Ξ)++t).length+([A]:Ξ).length=((([]:Ξ)++t)++([A]:Ξ)).length/\ ((0=0/\ 1=([A]:Ξ).length)/\ (0=0/\ ([]:Ξ).length+t.length=(([]:Ξ)++t).length)/\ (([]:Ξ)++t).length+([A]:Ξ).length<=Ay)/\ W=o1.length/\ o1.length+([(([]:Ξ)++t)++([A]:Ξ)]:List Ξ).length<=Ay/\ AG (A+1) then self (.l8 X (o1.length+([(([]:Ξ)++t)++([A]:Ξ)]:List Ξ).length) t (A+1) o M a w (o1++([(([]:Ξ)++t)++([A]:Ξ)]:List Ξ))) else none else if AG (A+1) then self (.l8 X W t (A+1) o M a w o1) else none else none else if AG (w+1) then self (.l10 X W o M a (w+1) o1) else none
def YK (n:Nat)(self:FW -> Option ((List Ξ)×Bool))(q:AA)(pos:Ξ)(X o:Int)(M:List Ξ)(a w:Int):Option ((List Ξ)×Bool):= bif (decide (w<a)) then if 0<=w/\ w<(M.length:Int) then self (.l5 X (M.getD w.toNat []) 0 o M a w) else none else if AG (o+1) then self (.l11 (o+1)) else none
def YN (n:Nat)(self:FW -> Option ((List Ξ)×Bool))(q:AA)(pos:Ξ)(X:Int)(W:Nat)(o:Int)(M:List Ξ)(a w:Int)(o1:List Ξ):Option ((List Ξ)×Bool):= bif (decide (w<a)) then if 0<=w/\ w<(M.length:Int) then self (.l8 X W (M.getD w.toNat []) 0 o M a w o1) else none else if AG (o+1) then self (.l2 W (o+1) o1) else none
def Ue (n:Nat)(self:FW -> Option ((List Ξ)×Bool))(q:AA)(pos:Ξ)(o:Int):Option ((List Ξ)×Bool):= bif (decide (o<(pos.length:Int))) then if 0<=o/\ o<(pos.length:Int) then self (.l12 (pos.getD o.toNat 0) o) else none else self (.l13)
def eK (n:Nat)(self:FW -> Option ((List Ξ)×Bool))(q:AA)(pos:Ξ)(Am o:Int):Option ((List Ξ)×Bool):= if AG (o+1) then self (.l11 (o+1)) else none
def zi (n:Nat)(self:FW -> Option ((List Ξ)×Bool))(q:AA)(pos:Ξ):Option ((List Ξ)×Bool):= some (([]:List Ξ),true)
def zj (n:Nat)(self:FW -> Option ((List Ξ)×Bool))(q:AA)(pos:Ξ):Option ((List Ξ)×Bool):= (b7 n q).bind λj=> bif (!j) then some (([]:List Ξ),false) else (U5 n q pos).bind λG=> bif (G != 0) then some (([]:List Ξ),false) else self (.l1 1 0)
def Bu (q:AA)(pos:Ξ):Nat -> FW -> Option ((List Ξ)×Bool)
 | 0,_=>none
 | n+1,.l1 K F=>YO n (Bu q pos n) q pos K F
 | n+1,.l2 v o o1=>eJ n (Bu q pos n) q pos v o o1
 | n+1,.l3 X o b a o1=>eH n (Bu q pos n) q pos X o b a o1
 | n+1,.l4 c r o1=>eG n (Bu q pos n) q pos c r o1
 | n+1,.l5 X t A o M a w=>PA n (Bu q pos n) q pos X t A o M a w
 | n+1,.l6 d f r x o1=>YM n (Bu q pos n) q pos d f r x o1
 | n+1,.l7 f r x=>YL n (Bu q pos n) q pos f r x
 | n+1,.l8 X W t A o M a w o1=>O9 n (Bu q pos n) q pos X W t A o M a w o1
 | n+1,.l9 X o M a w=>YK n (Bu q pos n) q pos X o M a w
 | n+1,.l10 X W o M a w o1=>YN n (Bu q pos n) q pos X W o M a w o1
 | n+1,.l11 o=>Ue n (Bu q pos n) q pos o
 | n+1,.l12 X o=>eK n (Bu q pos n) q pos X o
 | n+1,.l13=>zi n (Bu q pos n) q pos
def eM (n:Nat)(q:AA)(pos:Ξ):Option ((List Ξ)×Bool):=zj n (Bu q pos n) q pos
def zk (n B:Nat)(N:Yd 0)(q:AA)(pos:Ξ)(r:(List Ξ)×Bool):FW -> Prop
 | .l1 K F=>∀ f:Nat,n<=f -> TW B N (FQ Tryz.f18 0 (.tup 2 (L1 [.sl 1 r.1.length (AK AO r.1),.bool r.2])) []) (Ag f (An (AR Tryz.f18) 0 [])) ⟨AF 99 [(1,.ints pos),(2,.ref 0 0),(4,.nils),(6,.i K),(29,.ints pos),(30,.i (pos.length:Int)),(31,.i F)],[oC (AH q)]⟩
 | .l2 v o o1=>∀ f:Nat,n<=f -> TW B N (FQ Tryz.f18 0 (.tup 2 (L1 [.sl 1 r.1.length (AK AO r.1),.bool r.2])) []) (Ag f (An (AR Tryz.f18) 2 [])) ⟨AF 99 [(2,.ref 0 0),(4,.nils),(9,.msl 1 1 0 v),(44,.ints pos),(45,.i (pos.length:Int)),(46,.i o)],[oC (AH q),some (.arr 1 o1.length (AK AO o1))]⟩
 | .l3 X o d a o1=>∀ f Y:Nat,n<=f -> n<=Y -> TW B N (FQ Tryz.f18 0 (.tup 2 (L1 [.sl 1 r.1.length (AK AO r.1),.bool r.2])) []) (Ag Y (An (AR Tryz.f18) 4 [f])) ⟨AF 99 [(2,.ref 0 0),(4,.nils),(11,.i X),(12,.nils),(44,.ints pos),(45,.i (pos.length:Int)),(46,.i o),(50,.msl 1 1 0 d),(51,.i a),(52,.i 0)],[oC (AH q),some (.arr 1 o1.length (AK AO o1))]⟩
 | .l4 e b o1=>∀ f:Nat,n<=f -> TW B N (FQ Tryz.f18 0 (.tup 2 (L1 [.sl 1 r.1.length (AK AO r.1),.bool r.2])) []) (Ag f (An (AR Tryz.f18) 8 [])) ⟨AF 99 [(2,.ref 0 0),(4,.nils),(80,.msl 1 1 0 e),(81,.i b),(82,.i 0)],[oC (AH q),some (.arr 1 o1.length (AK AO o1))]⟩
 | .l5 X t A o M a w=>∀ f Y E:Nat,n<=f -> n<=Y -> n<=E -> TW B N (FQ Tryz.f18 0 (.tup 2 (L1 [.sl 1 r.1.length (AK AO r.1),.bool r.2])) []) (Ag E (An (AR Tryz.f18) 6 [f,Y])) ⟨AF 99 [(2,.ref 0 0),(4,.nils),(11,.i X),(12,.nils),(14,.ints t),(15,.i A),(44,.ints pos),(45,.i (pos.length:Int)),(46,.i o),(50,.sl 1 M.length (AK AO M)),(51,.i a),(52,.i w)],[oC (AH q)]⟩
 | .l6 g c b x o1=>∀ f:Nat,n<=f -> TW B N (FQ Tryz.f18 0 (.tup 2 (L1 [.sl 1 r.1.length (AK AO r.1),.bool r.2])) []) (Ag f (An (AR Tryz.f18) 8 [])) ⟨AF 99 [(2,.ref 0 0),(4,.msl 1 1 0 g),(80,.sl 1 c.length (AK AO c)),(81,.i b),(82,.i x)],[oC (AH q),some (.arr 1 o1.length (AK AO o1))]⟩
 | .l7 c b x=>∀ f:Nat,n<=f -> TW B N (FQ Tryz.f18 0 (.tup 2 (L1 [.sl 1 r.1.length (AK AO r.1),.bool r.2])) []) (Ag f (An (AR Tryz.f18) 8 [])) ⟨AF 99 [(2,.ref 0 0),(4,.nils),(80,.sl 1 c.length (AK AO c)),(81,.i b),(82,.i x)],[oC (AH q)]⟩
 | .l8 X W t A o M a w o1=>∀ f Y E:Nat,n<=f -> n<=Y -> n<=E -> TW B N (FQ Tryz.f18 0 (.tup 2 (L1 [.sl 1 r.1.length (AK AO r.1),.bool r.2])) []) (Ag E (An (AR Tryz.f18) 6 [f,Y])) ⟨AF 99 [(2,.ref 0 0),(4,.nils),(11,.i X),(12,.msl 1 1 0 W),(14,.ints t),(15,.i A),(44,.ints pos),(45,.i (pos.length:Int)),(46,.i o),(50,.sl 1 M.length (AK AO M)),(51,.i a),(52,.i w)],[oC (AH q),some (.arr 1 o1.length (AK AO o1))]⟩
 | .l9 X o M a w=>∀ f Y:Nat,n<=f -> n<=Y -> TW B N (FQ Tryz.f18 0 (.tup 2 (L1 [.sl 1 r.1.length (AK AO r.1),.bool r.2])) []) (Ag Y (An (AR Tryz.f18) 4 [f])) ⟨AF 99 [(2,.ref 0 0),(4,.nils),(11,.i X),(12,.nils),(44,.ints pos),(45,.i (pos.length:Int)),(46,.i o),(50,.sl 1 M.length (AK AO M)),(51,.i a),(52,.i w)],[oC (AH q)]⟩
 | .l10 X W o M a w o1=>∀ f Y:Nat,n<=f -> n<=Y -> TW B N (FQ Tryz.f18 0 (.tup 2 (L1 [.sl 1 r.1.length (AK AO r.1),.bool r.2])) []) (Ag Y (An (AR Tryz.f18) 4 [f])) ⟨AF 99 [(2,.ref 0 0),(4,.nils),(11,.i X),(12,.msl 1 1 0 W),(44,.ints pos),(45,.i (pos.length:Int)),(46,.i o),(50,.sl 1 M.length (AK AO M)),(51,.i a),(52,.i w)],[oC (AH q),some (.arr 1 o1.length (AK AO o1))]⟩
 | .l11 o=>∀ f:Nat,n<=f -> TW B N (FQ Tryz.f18 0 (.tup 2 (L1 [.sl 1 r.1.length (AK AO r.1),.bool r.2])) []) (Ag f (An (AR Tryz.f18) 2 [])) ⟨AF 99 [(2,.ref 0 0),(4,.nils),(9,.nils),(44,.ints pos),(45,.i (pos.length:Int)),(46,.i o)],[oC (AH q)]⟩
 | .l12 X o=>∀ f Y:Nat,n<=f -> n<=Y -> TW B N (FQ Tryz.f18 0 (.tup 2 (L1 [.sl 1 r.1.length (AK AO r.1),.bool r.2])) []) (Ag Y (An (AR Tryz.f18) 4 [f])) ⟨AF 99 [(2,.ref 0 0),(4,.nils),(11,.i X),(12,.nils),(44,.ints pos),(45,.i (pos.length:Int)),(46,.i o),(50,.nils),(51,.i 0),(52,.i 0)],[oC (AH q)]⟩
 | .l13=>∀ f:Nat,n<=f -> TW B N (FQ Tryz.f18 0 (.tup 2 (L1 [.sl 1 r.1.length (AK AO r.1),.bool r.2])) []) (Ag f (An (AR Tryz.f18) 8 [])) ⟨AF 99 [(2,.ref 0 0),(4,.nils),(80,.nils),(81,.i 0),(82,.i 0)],[oC (AH q)]⟩
def zl (B:Nat)(N:Yd 0)(q:AA)(pos:Ξ):Al (Bu q pos) (zk · B N q pos):=ia (λ_=>rfl) λn C A r h=>by
 cases A
 case l1 x6 Im=>
  intro f a;refine rd a λf a=>?_
  revert r;apply gO;exact bi 32 (gi (cf zAF [oC (AH q)] λ_=>gw 39 (bi 41 (lF λp=>el AC [4,5] [] p [] H0 [.nils,.bool false] (AN.tupL (l:=[.nils,.bool false]) (l':=[.sl 1 (([]:List Ξ).length) (AK AO ([]:List Ξ)),.bool false]) rfl ⟨(AN.sl_nil _ _),Ax,trivial⟩)) (gw 42 (lG AC [0] (C _ _ · f a)))))) (ja 43 1 1 (Ej (c:=AO) (L:=([([]:Ξ)]:List Ξ)) (vals:=[.nils]) rfl ⟨⟨_,rfl,⟨AN.ints_nil,trivial⟩⟩,trivial⟩) (lN AC [0,1] (C _ _ · n Nat.le.refl)))
 case l2 x9 Aw o1=>
  intro f a;refine rd a λf a=>?_
  revert r;apply gO;exact bi 47 (gi (lN AC [0,1] (C _ _ · f n a Nat.le.refl))) (lN AC [0,1] (C _ _ · n Nat.le.refl))
 case l3 Am Aw Ou B2 o1=>
  intro f Y a x;have a:=zGf a;refine rd x λY x=>?_
  revert r;apply gO
  exact bi 53 (gn λd=>λp r h=>by
   refine gz (Ab 18 AC) [0,1] p [1] (H0.g d) (EP (AR Tryz.f18) 18 [f,Y]) (AF 99 [(2,.ref 0 0),(4,.nils),(11,.i Am),(12,.nils),(44,.ints pos),(45,.i (pos.length:Int)),(46,.i Aw),(50,.sl 1 o1.length (AK AO o1)),(51,.i B2),(52,.i 0)]) [oC (AH q),none] ?_;revert r;apply gO;exact gi (lN AC [0] (C _ _ · f Y n a x Nat.le.refl))) (gw 79 (lG AC [0] (C _ _ · f a)))
 case l4 Ot DK o1=>
  intro f a;refine rd a λf a=>?_
  revert r;apply gO
  exact bi 83 (gn λd=>λp r h=>by
   refine gz (Ab 29 AC) [0,1] p [1] (H0.g d) (EP (AR Tryz.f18) 29 [f]) (AF 99 [(2,.ref 0 0),(4,.nils),(80,.sl 1 o1.length (AK AO o1)),(81,.i DK),(82,.i 0)]) [oC (AH q),none] ?_;revert r;apply gO;exact gi (cf eE [oC (AH q),none] λ_=>bi 90 (ja 95 2 1 (Ej (c:=AO) (L:=([(o1.getD 0 [])]:List Ξ)) (vals:=[.ints (o1.getD 0 [])]) rfl ⟨⟨_,rfl,⟨Ax,trivial⟩⟩,trivial⟩) (jg (And.intro (And.intro (And.intro (Eq.refl 0) (Eq.refl 1)) (IS AO ([(o1.getD 0 [])]:List Ξ) (([(o1.getD 0 [])]:List Ξ).length) 1 λ_=>⟨rfl,rfl⟩)) (And.intro (by decide:0<1) (by decide:1<=Ay))) (lG AC [0,3] (C _ _ · f a)))) (lG AC [0] (C _ _ · f a)))) (lF λp=>el AC [4,5] [] p [] H0 [.nils,.bool true] (AN.tupL (l:=[.nils,.bool true]) (l':=[.sl 1 (([]:List Ξ).length) (AK AO ([]:List Ξ)),.bool true]) rfl ⟨(AN.sl_nil _ _),Ax,trivial⟩))
 case l5 Am BR A8 Aw CE B2 B4=>
  intro f Y E a x b;have a:=zGf a;have x:=zGf x;refine rd b λE b=>?_
  revert r;apply gO;exact bi 59 (gi (bi 67 (gc (gi (gc (gn λs=>gc (gi (jz 74 4 (jg s (ja 75 5 1 (Ej (c:=AO) (L:=([(([]:Ξ)++BR)++([A8]:Ξ)]:List Ξ)) (vals:=[.ints ((([]:Ξ)++BR)++([A8]:Ξ))]) rfl ⟨⟨_,rfl,⟨Ax,trivial⟩⟩,trivial⟩) (jg (And.intro (And.intro (And.intro (Eq.refl 0) (Eq.refl 1)) (IS AO ([(([]:Ξ)++BR)++([A8]:Ξ)]:List Ξ) (([(([]:Ξ)++BR)++([A8]:Ξ)]:List Ξ).length) 1 λ_=>⟨rfl,rfl⟩)) (And.intro (by decide:0<1) (by decide:1<=Ay))) (gw 61 (lG AC [0,6] (C _ _ · f Y E a x b)))))))))))) (gw 61 (lG AC [0] (C _ _ · f Y E a x b))))) (gw 77 (lG AC [0] (C _ _ · f Y a x)))
 case l6 x4 Ca DK CD o1=>
  intro f a;refine rd a λf a=>?_
  revert r;apply gO;exact bi 83 (gi (cf eE [oC (AH q),some (.arr 1 o1.length (AK AO o1))] λ_=>bi 90 (ja 95 2 1 (Ej (c:=AO) (L:=([(Ca.getD CD.toNat [])]:List Ξ)) (vals:=[.ints (Ca.getD CD.toNat [])]) rfl ⟨⟨_,rfl,⟨Ax,trivial⟩⟩,trivial⟩) (gc (gn λo=>gc (gn λs=>jg (And.intro (And.intro (And.intro (Eq.refl 0) (Eq.refl 1)) (IS AO ([(Ca.getD CD.toNat [])]:List Ξ) (([(Ca.getD CD.toNat [])]:List Ξ).length) 1 λ_=>⟨rfl,rfl⟩)) (And.intro (And.intro (Eq.refl 0) o) s)) (ja 96 3 1 (Rq (enc:=(TU AO)) (L:=o1) (L':=([(Ca.getD CD.toNat [])]:List Ξ)) rfl rfl λ_ _ _ _=>Ax) (gw 97 (lG AC [0,3] (C _ _ · f a)))))))) (gw 97 (lG AC [0,1] (C _ _ · f a))))) (gn λd=>lF λp=>ez AC [4,5] [1] p [0] (H0.g d))
 case l7 Ca DK CD=>
  intro f a;refine rd a λf a=>?_
  revert r;apply gO;exact bi 83 (gi (cf eE [oC (AH q)] λ_=>bi 90 (ja 95 1 1 (Ej (c:=AO) (L:=([(Ca.getD CD.toNat [])]:List Ξ)) (vals:=[.ints (Ca.getD CD.toNat [])]) rfl ⟨⟨_,rfl,⟨Ax,trivial⟩⟩,trivial⟩) (jg (And.intro (And.intro (And.intro (Eq.refl 0) (Eq.refl 1)) (IS AO ([(Ca.getD CD.toNat [])]:List Ξ) (([(Ca.getD CD.toNat [])]:List Ξ).length) 1 λ_=>⟨rfl,rfl⟩)) (And.intro (by decide:0<1) (by decide:1<=Ay))) (gw 97 (lG AC [0,2] (C _ _ · f a))))) (gw 97 (lG AC [0] (C _ _ · f a))))) (lF λp=>el AC [4,5] [] p [] H0 [.nils,.bool true] (AN.tupL (l:=[.nils,.bool true]) (l':=[.sl 1 (([]:List Ξ).length) (AK AO ([]:List Ξ)),.bool true]) rfl ⟨(AN.sl_nil _ _),Ax,trivial⟩))
 case l8 Am BB BR A8 Aw CE B2 B4 o1=>
  intro f Y E a x b;have a:=zGf a;have x:=zGf x;refine rd b λE b=>?_
  revert r;apply gO;exact bi 59 (gi (bi 67 (gc (gi (gc (gn λs=>gc (gi (jz 74 5 (jg s (ja 75 6 1 (Ej (c:=AO) (L:=([(([]:Ξ)++BR)++([A8]:Ξ)]:List Ξ)) (vals:=[.ints ((([]:Ξ)++BR)++([A8]:Ξ))]) rfl ⟨⟨_,rfl,⟨Ax,trivial⟩⟩,trivial⟩) (gc (gn λe=>gc (gn λH=>jg (And.intro (And.intro (And.intro (Eq.refl 0) (Eq.refl 1)) (IS AO ([(([]:Ξ)++BR)++([A8]:Ξ)]:List Ξ) (([(([]:Ξ)++BR)++([A8]:Ξ)]:List Ξ).length) 1 λ_=>⟨rfl,rfl⟩)) (And.intro (And.intro (Eq.refl 0) e) H)) (ja 76 7 1 (Rq (enc:=(TU AO)) (L:=o1) (L':=([(([]:Ξ)++BR)++([A8]:Ξ)]:List Ξ)) rfl rfl λ_ _ _ _=>Ax) (gw 61 (lG AC [0,7] (C _ _ · f Y E a x b))))))))))))))) (gw 61 (lG AC [0,1] (C _ _ · f Y E a x b))))) (gw 77 (lG AC [0,1] (C _ _ · f Y a x)))
 case l9 Am Aw CE B2 B4=>
  intro f Y a x;have a:=zGf a;refine rd x λY x=>?_
  revert r;apply gO;exact bi 53 (gi (lN AC [0] (C _ _ · f Y n a x Nat.le.refl))) (gw 79 (lG AC [0] (C _ _ · f a)))
 case l10 Am BB Aw CE B2 B4 o1=>
  intro f Y a x;have a:=zGf a;refine rd x λY x=>?_
  revert r;apply gO;exact bi 53 (gi (lN AC [0,1] (C _ _ · f Y n a x Nat.le.refl))) (gw 79 (lG AC [0,1] (C _ _ · f a)))
 case l11 Aw=>
  intro f a;refine rd a λf a=>?_
  revert r;apply gO;exact bi 47 (gi (lN AC [0] (C _ _ · f n a Nat.le.refl))) (lN AC [0] (C _ _ · n Nat.le.refl))
 case l12 Am Aw=>
  intro f Y a x;have a:=zGf a;refine rd x λY x=>?_
  revert r;apply gO;exact gw 79 (lG AC [0] (C _ _ · f a))
 case l13=>
  intro f a;refine rd a λf a=>?_
  revert r;apply gO;exact lF λp=>el AC [4,5] [] p [] H0 [.nils,.bool true] (AN.tupL (l:=[.nils,.bool true]) (l':=[.sl 1 (([]:List Ξ).length) (AK AO ([]:List Ξ)),.bool true]) rfl ⟨(AN.sl_nil _ _),Ax,trivial⟩)
variable {pos:Ξ}
def zh {r:(List Ξ)×Bool}(h:eM n q pos=some r):EQ 18 [.agg 5 (L1 (AH q)),.ints pos] [] (.tup 2 (L1 [.sl 1 r.1.length (AK AO r.1),.bool r.2])) [] true:=by
 refine ot Tryz.func18 λB N=>?_
 revert r;apply gO;exact cf zJ6 [oC (AH q)] λ_=>bi 22 (lF λp=>el AC [4,5] [] p [] H0 [.nils,.bool false] (AN.tupL (l:=[.nils,.bool false]) (l':=[.sl 1 (([]:List Ξ).length) (AK AO ([]:List Ξ)),.bool false]) rfl ⟨(AN.sl_nil _ _),Ax,trivial⟩)) (cf zCE [oC (AH q)] λ_=>bi 27 (lF λp=>el AC [4,5] [] p [] H0 [.nils,.bool false] (AN.tupL (l:=[.nils,.bool false]) (l':=[.sl 1 (([]:List Ξ).length) (AK AO ([]:List Ξ)),.bool false]) rfl ⟨(AN.sl_nil _ _),Ax,trivial⟩)) (lN AC [0] ((zl B N q pos n) _ _ · n Nat.le.refl)))
def zBN:Au (A9 Tryz.f5 15) [([0,1,2,3,4,5,6,7,8,9],10)] [11] []:=by unfold Au;kernel_rfl
def IK:BX:=λi=>match i with
 | 15=>.ord [([0,1,2,3,4,5,6,7,8,9],10)] [11] []
 | _=>.no
inductive aM where
 | l1 (x7 x9 Kg:List Ξ) (M5 Ik:Int)
def Vv (n:Nat)(self:aM -> Option Bool)(q:AA)(pos:Ξ)(most:Int)(U v Y:List Ξ)(W G:Int):Option Bool:= bif (decide (G<W)) then if 0<=G/\ G<(Y.length:Int) then (am n U (Y.getD G.toNat [])).bind λj=> bif (!j) then some false else if AG (G+1) then self (.l1 U v Y W (G+1)) else none else none else bif ((v.length:Int)==2) then if ((0:Int)<=0/\ 0<(v.length:Int))/\ ((0:Int)<=1/\ 1<(v.length:Int)) then (same n (v.getD 0 []) (v.getD 1 [])).bind λj=> bif j then some false else if AG (1+(IntKind.i64.wrap most)) then (J5 n q pos (1+(IntKind.i64.wrap most)) 60000).bind λa=> bif (a.2==0) then some (a.1==(if (U.length:Int)<(1+(IntKind.i64.wrap most)) then (U.length:Int) else (1+(IntKind.i64.wrap most)))) else some false else none else none else if AG (1+(IntKind.i64.wrap most)) then (J5 n q pos (1+(IntKind.i64.wrap most)) 60000).bind λj=> bif (j.2==0) then some (j.1==(if (U.length:Int)<(1+(IntKind.i64.wrap most)) then (U.length:Int) else (1+(IntKind.i64.wrap most)))) else some false else none
def zFT (n:Nat)(self:aM -> Option Bool)(q:AA)(pos:Ξ)(most:Int):Option Bool:= (Ut n).bind λj=> bif (!j) then some false else (eM n q pos).bind λG=> bif (!G.2) then some true else (Lf n q pos 60000).bind λy3=> bif (y3.2.2 != 0) then some false else bif ((y3.1.length:Int) != (if 2<(G.1.length:Int) then 2 else (G.1.length:Int))) then some false else bif (!((decide ((y3.2.1.length:Int)>0))==(decide ((G.1.length:Int)<2)))) then some false else self (.l1 G.1 y3.1 y3.1 (y3.1.length:Int) 0)
def Pm (q:AA)(pos:Ξ)(most:Int):Nat -> aM -> Option Bool
 | 0,_=>none
 | n+1,.l1 U v Y W G=>Vv n (Pm q pos most n) q pos most U v Y W G
def sU (n:Nat)(q:AA)(pos:Ξ)(most:Int):Option Bool:=zFT n (Pm q pos most n) q pos most
def zFU (n B:Nat)(N:Yd 0)(q:AA)(pos:Ξ)(most:Int)(r:Bool):aM -> Prop
 | .l1 U v Y W G=>∀ f:Nat,n<=f -> TW B N (FQ Tryz.f5 0 (.bool r) []) (Ag f (An (AR Tryz.f5) 0 [])) ⟨AF 96 [(1,.ints pos),(2,.int .u8 most),(3,.ref 0 0),(7,.sl 1 U.length (AK AO U)),(9,.sl 1 v.length (AK AO v)),(53,.sl 1 Y.length (AK AO Y)),(54,.i W),(55,.i G)],[oC (AH q)]⟩
def zFV (B:Nat)(N:Yd 0)(q:AA)(pos:Ξ)(most:Int):Al (Pm q pos most) (zFU · B N q pos most):=ia (λ_=>rfl) λn C A r h=>by
 cases A
 case l1 x7 x9 Kg M5 Ik=>
  intro f a;refine rd a λf a=>?_
  revert r;apply gO;exact bi 56 (gi (cf zGL [oC (AH q)] λ_=>bi 62 (lE IK [6] []) (gw 63 (lG IK [0] (C _ _ · f a))))) (jg zBN (bi 66 (gc (gi (gi (cf eZ [oC (AH q)] λ_=>bi 74 (lE IK [6] []) (gw 78 (cf MJ [oC (AH q)] λ_=>bi 87 (lE IK [6] []) (lE IK [6] []))))))) (gw 78 (cf MJ [oC (AH q)] λ_=>bi 87 (lE IK [6] []) (lE IK [6] [])))))
def zFS {most:Int}(h:sU n q pos most=some r):EQ 5 [.agg 5 (L1 (AH q)),.ints pos,.int .u8 most] [] (.bool r) [] true:=by
 refine ot Tryz.func5 λB N=>?_
 revert r;apply gO;exact cf zAQ [oC (AH q)] λ_=>bi 18 (lE IK [6] []) (cf zh [oC (AH q)] λ_=>bi 26 (lE IK [6] []) (cf TO [oC (AH q)] λ_=>bi 35 (lE IK [6] []) (bi 42 (lE IK [6] []) (bi 51 (lE IK [6] []) (lN IK [0] ((zFV B N q pos most n) _ _ · n Nat.le.refl))))))
end
abbrev zMz:=@iff_of_false
abbrev zNL:=@decide_eq_decide
abbrev zNx:=@iff_of_true
section
variable {q:AA} {c:AD} {g:Ξ}
def Sv.gi (S:Sv q c g){a:Nat}(D:a<c.cells.length):g.getD (c.cells.getD a 0).toNat 0=((AT c g a:Nat):Int):=by
 have h1:=S.cell a D;have h2:=S.G.sym (c.cells.getD a 0).toNat (by omega);unfold AT;omega
def zKd (S:Sv q c g)(hl:c.cells.length<=256): ∃ r,Ev (λn=>cL n g c.cells) r/\ (r=true↔∀ a b,a<c.cells.length -> b<c.cells.length -> AT c g a=AT c g b -> a=b):=by
 have inn: ∀ (k i j:Nat),i<c.cells.length -> j+k=i -> (∀ b,b<j -> AT c g b≠AT c g i) -> ((∃ b,b<i/\ AT c g b=AT c g i)/\ Ev (λn=>Hm g c.cells n (.l2 (i:Int) (j:Int))) false)∨((∀ b,b<i -> AT c g b≠AT c g i)/\ AV (Hm g c.cells) (.l2 (i:Int) (j:Int)) (.l1 ((i+1:Nat):Int))):=by
  intro k
  induction k with
  | zero=>
   intro i j hi e h;have e:j=i:=by omega
   subst e;refine .inr ⟨h,AV.one λn=>?_⟩
   show W6 n (Hm g c.cells n) g c.cells (j:Int) (j:Int)=_
   unfold W6;rw [zEl (by omega),zGK,zEd (Ah.2 ⟨by omega,by omega⟩),show ((j+1:Nat):Int)=(j:Int)+1 by omega]
  | succ k V=>
   intro i j hi e h;have o:j<c.cells.length:=by omega
   have Y:=S.cell i hi;have Z:=S.cell j o
   have step: ∀ n,Hm g c.cells (n+1) (.l2 (i:Int) (j:Int))=bif decide (AT c g j=AT c g i) then some false else Hm g c.cells n (.l2 (i:Int) ((j+1:Nat):Int)):=λn=>by
    show W6 n (Hm g c.cells n) g c.cells (i:Int) (j:Int)=_
    unfold W6;rw [zEI (by omega),zFi,zCl,zCl,zEd ⟨⟨by omega,by omega⟩,Y,⟨by omega,by omega⟩,Z⟩,S.gi hi,S.gi o,zEd (Ah.2 ⟨by omega,by omega⟩),show ((j+1:Nat):Int)=(j:Int)+1 by omega]
    by_cases y:AT c g j=AT c g i
    ·rw [zEI y,y];simp
    ·rw [zEl y,show (((AT c g i:Nat):Int)==((AT c g j:Nat):Int))=false from zIC.2 (by omega)]
   by_cases y:AT c g j=AT c g i
   ·exact .inl ⟨⟨j,by omega,y⟩,Ev.one λn=>by grind⟩
   ·have p:AV (Hm g c.cells) (.l2 (i:Int) (j:Int)) (.l2 (i:Int) ((j+1:Nat):Int)):=AV.one λn=>by rw [step n,zEl y,zGK]
    rcases V i (j+1) hi (by omega) (λb d=>by
     rcases zGg.1 d with d | rfl
     ·exact h b d
     ·exact y) with ⟨f,l⟩ | ⟨f,l⟩
    ·exact .inl ⟨f,AV.ev p l⟩
    ·exact .inr ⟨f,p.trans l⟩
 have key: ∀ (k i:Nat),i+k=c.cells.length -> (∀ a b,a<i -> b<i -> AT c g a=AT c g b -> a=b) -> ∃ r,Ev (λn=>Hm g c.cells n (.l1 (i:Int))) r/\ (r=true↔∀ a b,a<c.cells.length -> b<c.cells.length -> AT c g a=AT c g b -> a=b):=by
  intro k
  induction k with
  | zero=>
   intro i e m;have e:i=c.cells.length:=by omega
   subst e;refine ⟨true,Ev.one λn=>?_,zNx rfl m⟩
   show W7 n (Hm g c.cells n) g c.cells (c.cells.length:Int)=_
   unfold W7;rw [zEl (by omega),zGK]
  | succ k V=>
   intro i e m;have hi:i<c.cells.length:=by omega
   have s:AV (Hm g c.cells) (.l1 (i:Int)) (.l2 (i:Int) ((0:Nat):Int)):=AV.one λn=>by
    show W7 n (Hm g c.cells n) g c.cells (i:Int)=_
    unfold W7;rw [zEI (by omega),zFi];rfl
   rcases inn i i 0 hi (by omega) (λb d=>absurd d (zGa b)) with ⟨⟨b,f,l⟩,t⟩ | ⟨f,l⟩
   ·refine ⟨false,AV.ev s t,zMz (by decide) λh=>?_⟩;have:=h b i (by omega) hi l;omega
   ·obtain ⟨r,u,z⟩:=V (i+1) (by omega) (λa b D d Q=>by
     rcases zGg.1 D with D | rfl <;> rcases zGg.1 d with d | rfl
     ·exact m a b D d Q
     ·exact absurd Q (f a D)
     ·exact absurd Q.symm (f b d)
     ·rfl)
    exact ⟨r,AV.ev (s.trans l) u,z⟩
 exact key c.cells.length 0 (by omega) λa b D=>absurd D (zGa a)
def zKt (S:Sv q c g)(hl:c.cells.length<=256):Ev (λn=>cR n g c.cells c.set) (cnt (λa=>tb c.set (AT c g a)) c.cells.length):=by
 have key: ∀ (k i:Nat),i+k=c.cells.length -> Ev (λn=>Tc g c.cells c.set n (.l1 (cnt (λa=>tb c.set (AT c g a)) i) (i:Int))) (cnt (λa=>tb c.set (AT c g a)) c.cells.length):=by
  intro k
  induction k with
  | zero=>
   intro i e;have e:i=c.cells.length:=by omega
   subst e;refine Ev.one λn=>?_
   show XH n (Tc g c.cells c.set n) g c.cells c.set _ (c.cells.length:Int)=_
   unfold XH;rw [zEl (by omega),zGK]
  | succ k V=>
   intro i e;have hi:i<c.cells.length:=by omega
   have l:=S.cell i hi;have b:=(S.lt hi).2;have hb:=cd (p:=λa=>tb c.set (AT c g a)) (i:=i);refine AV.ev (AV.one λn=>?_) (V (i+1) (by omega))
   show XH n (Tc g c.cells c.set n) g c.cells c.set _ (i:Int)=_
   unfold XH;rw [zEI (by omega),zFi,zCl,zEd ⟨⟨by omega,by omega⟩,l⟩,S.gi hi,Nb b,zEf,Qh,show ((i+1:Nat):Int)=(i:Int)+1 by omega];cases tb c.set (AT c g i)
   ·rw [zGK,zEd (Ah.2 ⟨by omega,by omega⟩)];simp
   ·rw [zFi,zEd ⟨Ah.2 ⟨by omega,by omega⟩,Ah.2 ⟨by omega,by omega⟩⟩,zEd rfl]
 exact key c.cells.length 0 (by omega)
def zB (S:Sv q c g)(V:Ec q q.symbols.toNat)(hl:c.cells.length<=256):Ev (λn=>YD n q.values g c.cells) (Cj (λa=>q.values.getD (AT c g a) 0) c.cells.length):=by
 have p: ∀ i,i<c.cells.length -> 0<=q.values.getD (AT c g i) 0/\ q.values.getD (AT c g i) 0<=99:=λi hi=>V.val _ (S.lt hi).1
 have key: ∀ (k i:Nat),i+k=c.cells.length -> Ev (λn=>RS q.values g c.cells n (.l1 (Cj (λa=>q.values.getD (AT c g a) 0) i) (i:Int))) (Cj (λa=>q.values.getD (AT c g a) 0) c.cells.length):=by
  intro k
  induction k with
  | zero=>
   intro i e;have e:i=c.cells.length:=by omega
   subst e;refine Ev.one λn=>?_
   show UQ n (RS q.values g c.cells n) q.values g c.cells _ (c.cells.length:Int)=_
   unfold UQ;rw [zEl (by omega),zGK]
  | succ k b=>
   intro i e;have hi:i<c.cells.length:=by omega
   have l:=S.cell i hi;have AU:=(S.lt hi).1;have G5:=V.len;have Dn:=p i hi;have hb:=RM (f:=λa=>q.values.getD (AT c g a) 0) i λa ha=>by have:=p a (by omega);omega
   refine AV.ev (AV.one λn=>?_) (b (i+1) (by omega))
   show UQ n (RS q.values g c.cells n) q.values g c.cells _ (i:Int)=_
   unfold UQ;rw [zEI (by omega),zFi,zCl,S.gi hi,zCl,zEd ⟨⟨by omega,by omega⟩,l,⟨by omega,by omega⟩,Ah.2 ⟨by omega,by omega⟩,Ah.2 ⟨by omega,by omega⟩⟩,show ((i+1:Nat):Int)=(i:Int)+1 by omega];rfl
 exact key c.cells.length 0 (by omega)
def zCd (S:Sv q c g)(V:Ec q q.symbols.toNat)(hl:c.cells.length<=256): ∃ r,Ev (λn=>ZA n q.values g c.cells) r/\ (r=true↔Ho q 0 c.cells.length (AT c g)):=by
 have key: ∀ (k i:Nat),(i+1)+k=c.cells.length∨c.cells.length=0/\ k=0/\ i=0 -> Ho q 0 (i+1) (AT c g) -> ∃ r,Ev (λn=>NS q.values g c.cells n (.l1 ((i+1:Nat):Int))) r/\ (r=true↔Ho q 0 c.cells.length (AT c g)):=by
  intro k
  induction k with
  | zero=>
   intro i e u;refine ⟨true,Ev.one λn=>?_,zNx rfl λb a AU=>u b a (by omega)⟩
   show VD n (NS q.values g c.cells n) q.values g c.cells ((i+1:Nat):Int)=_
   unfold VD;rw [zEl (by omega),zGK]
  | succ k d=>
   intro i e u;have hi:i<c.cells.length:=by omega
   have G:i+1<c.cells.length:=by omega
   have f:=S.cell i hi;have w:=S.cell (i+1) G;have l0:=(S.lt hi).1;have l1:=(S.lt G).1;have vl:=V.len
   have step: ∀ n,NS q.values g c.cells (n+1) (.l1 ((i+1:Nat):Int))=bif decide (q.values.getD (AT c g i) 0>=q.values.getD (AT c g (i+1)) 0) then some false else NS q.values g c.cells n (.l1 ((i+1+1:Nat):Int)):=λn=>by
    show VD n (NS q.values g c.cells n) q.values g c.cells ((i+1:Nat):Int)=_
    unfold VD;rw [show ((i+1:Nat):Int)-1=(i:Int) by omega];simp only [zCl,S.gi hi,S.gi G];rw [zEI (by omega),zFi,zEd ⟨Ah.2 ⟨by omega,by omega⟩,⟨by omega,by omega⟩,f,⟨by omega,by omega⟩,⟨by omega,by omega⟩,w,by omega,by omega⟩,zEd (Ah.2 ⟨by omega,by omega⟩),show ((i+1+1:Nat):Int)=((i+1:Nat):Int)+1 by omega]
   by_cases h:q.values.getD (AT c g i) 0>=q.values.getD (AT c g (i+1)) 0
   ·refine ⟨false,Ev.one λn=>by rw [step n,zEI h,zFi],zMz (by decide) λM=>?_⟩;have:=M i (zIR _) G;omega
   ·obtain ⟨r,l,z⟩:=d (i+1) (by omega) (λb j a=>by
     by_cases m:b=i
     ·subst m;omega
     ·exact u b j (by omega))
    exact ⟨r,AV.ev (AV.one λn=>by rw [step n,zEl h,zGK]) l,z⟩
 exact key (c.cells.length-1) 0 (by omega) λb _ h=>absurd h (by omega)
def zBu (S:Sv q c g)(hl:c.cells.length<=256): ∀ (m i:Nat) (l:Int) (o:Ξ),i+m=c.cells.length -> 0<=l/\ l<=(i:Int) -> o.length<=i -> Ev (λn=>F3 g c.cells c.set n (.l2 o.length l (i:Int) o)) (o++rl (λa=>tb c.set (AT c g a)) c.cells.length m l):=by
 have L:Ay=1000000000000:=rfl;intro m
 induction m with
 | zero=>
  intro i l o e f x;have e:i=c.cells.length:=by omega
  subst e;refine Ev.one λn=>?_
  show Uw n (F3 g c.cells c.set n) g c.cells c.set o.length l (c.cells.length:Int) o=_
  unfold Uw rl;rw [zEl (by omega),zGK]
  by_cases h:l>0
  ·rw [zEI h,zFi,zEd h,zEd ⟨⟨rfl,rfl⟩,⟨rfl,rfl⟩,by simp;omega⟩,zEd (by simp)]
  ·rw [zEl h,zGK,zGW h,zEd rfl,zI3]
 | succ m V=>
  intro i l o e f x;have hi:i<c.cells.length:=by omega
  have j:=S.cell i hi;have p:=(S.lt hi).2;have k:c.cells.length-1-m=i:=by omega
  have b:AG ((i:Int)+1):=Ah.2 ⟨by omega,by omega⟩
  have start: ∀ n,F3 g c.cells c.set (n+1) (.l2 o.length l (i:Int) o)=bif tb c.set (AT c g i) then F3 g c.cells c.set n (.l2 o.length (l+1) ((i+1:Nat):Int) o) else bif decide (l>0) then F3 g c.cells c.set n (.l2 (o++[l]).length 0 ((i+1:Nat):Int) (o++[l])) else F3 g c.cells c.set n (.l2 o.length 0 ((i+1:Nat):Int) o):=λn=>by
   show Uw n (F3 g c.cells c.set n) g c.cells c.set o.length l (i:Int) o=_
   unfold Uw;rw [zEI (by omega),zFi,zCl,zEd ⟨⟨by omega,by omega⟩,j⟩,S.gi hi,Nb p,zEf,show ((i+1:Nat):Int)=(i:Int)+1 by omega];cases tb c.set (AT c g i)
   ·rw [zGK,zGK,zEd ⟨⟨⟨rfl,rfl⟩,⟨rfl,rfl⟩,by simp;omega⟩,b⟩,zEd b,zGi]
   ·rw [zFi,zFi,zEd ⟨Ah.2 ⟨by omega,by omega⟩,b⟩]
  unfold rl;rw [k];cases d:tb c.set (AT c g i) with
  | true=>exact AV.ev (AV.one λn=>by rw [start n,d,zFi]) (V (i+1) (l+1) o (by omega) (by omega) (by omega))
  | false=>
   rw [zGK]
   by_cases h:l>0
   ·have h0:=V (i+1) 0 (o++[l]) (by omega) (by omega) (by simp;omega);rw [zEd h,show o++l::rl (λa=>tb c.set (AT c g a)) c.cells.length m 0=(o++[l])++rl (λa=>tb c.set (AT c g a)) c.cells.length m 0 by simp];exact AV.ev (AV.one λn=>by rw [start n,d,zGK,zEI h,zFi]) h0
   ·rw [zGW h];exact AV.ev (AV.one λn=>by rw [start n,d,zGK,zEl h,zGK]) (V (i+1) 0 o (by omega) (by omega) (by omega))
def zBv (S:Sv q c g)(f:c.cells.length<=256):Ev (λn=>Yv n g c.cells c.set) (rl (λa=>tb c.set (AT c g a)) c.cells.length c.cells.length 0):=by
 have L:Ay=1000000000000:=rfl
 have key: ∀ (m i:Nat) (l:Int),i+m=c.cells.length -> 0<=l/\ l<=(i:Int) -> Ev (λn=>F3 g c.cells c.set n (.l1 l (i:Int))) (rl (λa=>tb c.set (AT c g a)) c.cells.length m l):=by
  intro m
  induction m with
  | zero=>
   intro i l e j;have e:i=c.cells.length:=by omega
   subst e;refine Ev.one λn=>?_
   show Ux n (F3 g c.cells c.set n) g c.cells c.set l (c.cells.length:Int)=_
   unfold Ux rl;rw [zEl (by omega),zGK]
   by_cases h:l>0
   ·rw [zEI h,zFi,zEd h,zEd ⟨⟨rfl,rfl⟩,by simp,by simp;omega⟩]
   ·rw [zEl h,zGK,zGW h]
  | succ m V=>
   intro i l e j;have hi:i<c.cells.length:=by omega
   have k:=S.cell i hi;have p:=(S.lt hi).2;have x:c.cells.length-1-m=i:=by omega
   have b:AG ((i:Int)+1):=Ah.2 ⟨by omega,by omega⟩
   have start: ∀ n,F3 g c.cells c.set (n+1) (.l1 l (i:Int))=bif tb c.set (AT c g i) then F3 g c.cells c.set n (.l1 (l+1) ((i+1:Nat):Int)) else bif decide (l>0) then F3 g c.cells c.set n (.l2 ([l]:Ξ).length 0 ((i+1:Nat):Int) [l]) else F3 g c.cells c.set n (.l1 0 ((i+1:Nat):Int)):=λn=>by
    show Ux n (F3 g c.cells c.set n) g c.cells c.set l (i:Int)=_
    unfold Ux;rw [zEI (by omega),zFi,zCl,zEd ⟨⟨by omega,by omega⟩,k⟩,S.gi hi,Nb p,zEf,show ((i+1:Nat):Int)=(i:Int)+1 by omega];cases tb c.set (AT c g i)
    ·rw [zGK,zGK,zEd ⟨⟨⟨rfl,rfl⟩,by simp,by simp;omega⟩,b⟩,zEd b]
    ·rw [zFi,zFi,zEd ⟨Ah.2 ⟨by omega,by omega⟩,b⟩]
   unfold rl;rw [x];cases d:tb c.set (AT c g i) with
   | true=>exact AV.ev (AV.one λn=>by rw [start n,d,zFi]) (V (i+1) (l+1) (by omega) (by omega))
   | false=>
    rw [zGK]
    by_cases h:l>0
    ·rw [zEd h];exact AV.ev (AV.one λn=>by rw [start n,d,zGK,zEI h,zFi]) (zBu S f m (i+1) 0 [l] (by omega) (by omega) (by simp))
    ·rw [zGW h];exact AV.ev (AV.one λn=>by rw [start n,d,zGK,zEl h,zGK]) (V (i+1) 0 (by omega) (by omega))
 exact key c.cells.length 0 0 (by omega) ⟨zGv _,by omega⟩
def fS {b:Nat -> Bool}{N:Nat}: ∀ (m:Nat) (l:Int),(rl b N m l).length<=m+1
 | 0,l=>by unfold rl;split <;> simp
 | m+1,l=>by
  have h1:=fS (b:=b) (N:=N) m (l+1);have h2:=fS (b:=b) (N:=N) m 0;unfold rl;cases b (N-1-m)
  ·rw [zGK];split
   ·simp;omega
   ·omega
  ·rw [zFi];omega
def zFv {a b:Ξ}{n:Nat}(hl:a.length<=LB)(u:a.length<n):Rk n a b=some (decide (a=b)):=by
 have hb:LB<=9223372036854775806:=by decide
 unfold Rk pL
 by_cases M:a.length=b.length
 ·have e:((a.length:Int) != (b.length:Int))=false:=by rw [M];simp
  rw [e,zGK]
  have key: ∀ (k i n:Nat),i+k=a.length -> k+1<=n -> Rj a b n (.l1 (i:Int))=some (decide (a.drop i=b.drop i)):=by
   intro k
   induction k with
   | zero=>
    intro i n e u;obtain ⟨n,rfl⟩: ∃ k,n=k+1:=⟨n-1,by omega⟩
    show Uu n (Rj a b n) a b (i:Int)=_
    unfold Uu;rw [zEl (by omega),zGK,zJD (by omega),zJD (by omega)];rfl
   | succ k V=>
    intro i n e u;obtain ⟨n,rfl⟩: ∃ k,n=k+1:=⟨n-1,by omega⟩;have hi:i<a.length:=by omega
    have G:i<b.length:=by omega
    have d: ∀ {l:Ξ},i<l.length -> l.drop i=l.getD i 0::l.drop (i+1):=λ{l} h=>by
     rw [zGr h,zGR,zGc h];rfl
    have:=V (i+1) n (by omega) (by omega)
    show Uu n (Rj a b n) a b (i:Int)=_
    unfold Uu;rw [zEI (by omega),zFi,zEd ⟨⟨by omega,by omega⟩,by omega,by omega⟩,zCl,d hi,d G]
    by_cases h:a.getD i 0=b.getD i 0
    ·rw [h,show (b.getD i 0 != b.getD i 0)=false by simp,zGK,zEd (Ah.2 ⟨by omega,by omega⟩),show (i:Int)+1=((i+1:Nat):Int) by omega,this]
     congr 1
     rw [zNL];simp
    ·rw [show (a.getD i 0 != b.getD i 0)=true by simpa using h,zFi]
     congr 1
     exact (zEl λe=>h (List.cons.inj e).1).symm
  have:=key a.length 0 n (by omega) (by omega);rw [zJb,zJb] at this;exact this
 ·have e:((a.length:Int) != (b.length:Int))=true:=by simpa using λh=>M (by omega)
  rw [e,zFi]
  congr 1
  exact (zEl λh=>M (by rw [h])).symm
end
section
variable {g:List Ξ} {inn:Ω}
variable {v:Nat}
def zEg (G:H9 g)(p:v<g.length):(nb g v).Pairwise (· < ·)/\ (v:Int)∉nb g v:=by
 have h:=G.ok;unfold JT at h;rw [zFW,zGV] at h;have a:=h.2 v (zGX.2 p);unfold IL at a;rw [zGV] at a;have e:nb g v=g.getD v []:=by unfold nb;rw [zCl]
 rw [e]
 generalize g.getD v []=l at a
 have E: ∀ k,k<l.length -> l.getD k 0≠v/\ (0<k -> l.getD (k-1) 0<l.getD k 0):=λk hk=>by
  have:=a k (zGX.2 hk);unfold Gw at this;simp only [zFW,zJN,ne_eq,zGz,zG0,zIU,zGe] at this;exact ⟨this.1.1.2,λh=>this.1.2.resolve_left λu=>u h⟩
 have N: ∀ d i,i+d+1<l.length -> l.getD i 0<l.getD (i+d+1) 0:=by
  intro d
  induction d with
  | zero=>intro i hi;exact (E (i+1) hi).2 (by omega)
  | succ d V=>
   intro i hi;have h1:=V i (by omega);have b:=(E (i+(d+1)+1) hi).2 (by omega);rw [show i+(d+1)+1-1=i+d+1 by omega] at b;omega
 constructor
 ·rw [zMj];intro i j hi c WO;have:=N (j-i-1) i (by omega);rw [show i+(j-i-1)+1=j by omega] at this;simpa [zGR,hi,c] using this
 ·intro f;obtain ⟨k,hk,e⟩:=zG2 f;refine (E k hk).1 ?_;rw [zGR,zGc hk];exact e
def yV (G:H9 g)(p:v<g.length)(E:inn.getD v false=true)(r:Cc g inn v=2):3<=(List.range g.length).countP λx=>inn.getD x false:=by
 obtain ⟨k,u⟩:=zEg G p;have i:=G.gr.rng v (by omega) (by omega);have O:((nb g v).filter λx=>inn.getD x.toNat false).length=2:=by rw [←zIX];exact r
 have P:=k.filter (λx=>inn.getD x.toNat false);have c: ∀ x∈(nb g v).filter λx=>inn.getD x.toNat false,x∈nb g v/\ inn.getD x.toNat false=true:=λx h=>zJJ.1 h
 generalize ((nb g v).filter λx=>inn.getD x.toNat false)=F at O P c
 match F,O with
 | [x,y],_=>
  have ir:x<y:=by
   rw [zNU] at P;exact P.1 y (by simp)
  obtain ⟨d,J⟩:=c x (by simp);obtain ⟨j,l⟩:=c y (by simp);have xr:=i x d;have yr:=i y j;have xv:x≠v:=λe=>u (e▸d)
  have yv:y≠v:=λe=>u (e▸j)
  have a1:=Ml (f:=λz=>inn.getD z false&&!(z==v)) (g:=λz=>inn.getD z false) (a:=v) (by simp) E (List.range g.length) (λz _ b=>by rw [zFW] at b;exact b.1) (zGX.2 p);have a2:=Ml (f:=λz=>(inn.getD z false&&!(z==v))&&!(z==x.toNat)) (g:=λz=>inn.getD z false&&!(z==v)) (a:=x.toNat) (by simp) (by rw [J];simp;omega) (List.range g.length) (λz _ b=>by rw [zFW] at b;exact b.1) (zGX.2 (by omega));have a3:=Ml (f:=λz=>((inn.getD z false&&!(z==v))&&!(z==x.toNat))&&!(z==y.toNat)) (g:=λz=>(inn.getD z false&&!(z==v))&&!(z==x.toNat)) (a:=y.toNat) (by simp) (by rw [l];simp;omega) (List.range g.length) (λz _ b=>by rw [zFW] at b;exact b.1) (zGX.2 (by omega));omega
end
abbrev zM0:=@List.filter_eq_nil_iff
abbrev zM2:=@List.range_succ
abbrev zNW:=@List.Nodup.sublist
section
open Classical
def CF (inn:Ω)(k:Nat):Ξ:=((List.range k).filter λi=>inn.getD i false).map λi:Nat=>(i:Int)
def UR (inn:Ω)(k:Nat):Rz:=if CF inn k= [] then .l1 (k:Int) else .l2 (CF inn k).length (k:Int) (CF inn k)
def ki {p:Nat -> Bool}: ∀ (n:Nat),(∃ i,i<n/\ p i=true) -> ∃ m,m<n/\ p m=true/\ (∀ v,v<m -> p v=false)/\ ∃ t,(List.range n).filter p=m::t
 | 0,⟨i,hi,_⟩=>absurd hi (zGa i)
 | n+1,⟨i,hi,g⟩=>by
  rw [zM2,zMf]
  by_cases h: ∃ i,i<n/\ p i=true
  ·obtain ⟨m,h1,b,c,t,A⟩:=ki n h;exact ⟨m,by omega,b,c,t++[n].filter p,by rw [A];rfl⟩
  ·have all: ∀ v,v<n -> p v=false:=λv a=>by
    cases d:p v with
    | false=>rfl
    | true=>exact absurd ⟨v,a,d⟩ h
   have e:i=n:=by
    rcases zGg.1 hi with hi | hi
    ·rw [all i hi] at g;cases g
    ·exact hi
   subst e;refine ⟨i,Nat.lt_succ_self i,g,all,[],?_⟩;rw [zM0.2 λv a=>by rw [all v (zGX.1 a)];decide];simp [g]
section
variable {q:AA} {c:AD} {AJ:Ξ} {g:List Ξ} {inn:Ω} {s:Int}
variable {k:Nat}
def zE2 :CF inn (k+1)=CF inn k++if inn.getD k false=true then [(k:Int)] else []:=by
 unfold CF;rw [zM2,zMf,List.map_append]
 congr 1
 rw [zMq];cases inn.getD k false <;> rfl
def sK :(CF inn k).length<=k:=by
 unfold CF;rw [zGh];exact zGU (List.length_filter_le _ _) (by simp)
def Z8 {v:Int}:v∈CF inn k↔0<=v/\ v<(k:Int)/\ inn.getD v.toNat false=true:=by
 unfold CF;rw [zIS];constructor
 ·rintro ⟨i,hi,rfl⟩;obtain ⟨a,b⟩:=zJJ.1 hi;have:=zGX.1 a;exact ⟨by omega,by omega,by rw [zCl];exact b⟩
 ·rintro ⟨a,b,h⟩;exact ⟨v.toNat,zJJ.2 ⟨zGX.2 (by omega),h⟩,by omega⟩
def zE3 (hI:inn.length<=256){n:Nat}(hk:k<inn.length):Jv inn (n+1) (UR inn k)=Jv inn n (UR inn (k+1)):=by
 have L:Ay=1000000000000:=rfl;have l:AG ((k:Int)+1):=Ah.2 ⟨by omega,by omega⟩;have hl:=sK (inn:=inn) (k:=k);unfold UR;rw [zE2,show ((k+1:Nat):Int)=(k:Int)+1 by omega]
 by_cases h0:CF inn k= []
 ·rw [zEd h0,h0]
  show VN n (Jv inn n) inn (k:Int)=_
  unfold VN;rw [zEI (by omega),zFi,zEd ⟨by omega,by omega⟩,zCl];cases c:inn.getD k false with
  | false=>rw [zGK,zEd l];simp
  | true=>rw [zFi,zEd ⟨⟨⟨rfl,rfl⟩,by simp,by simp;omega⟩,l⟩];simp
 ·rw [zGW h0]
  show VM n (Jv inn n) inn (CF inn k).length (k:Int) (CF inn k)=_
  unfold VM;rw [zEI (by omega),zFi,zEd ⟨by omega,by omega⟩,zCl];cases c:inn.getD k false with
  | false=>rw [zGK,zEd l];simp [h0]
  | true=>rw [zFi,zEd ⟨⟨⟨rfl,rfl⟩,⟨rfl,rfl⟩,by simp;omega⟩,l⟩];simp [h0]
def qZ (u:inn.length<=256):Ev (λn=>Na n inn) (CF inn inn.length):=by
 have key: ∀ (k i:Nat),i+k=inn.length -> Ev (λn=>Jv inn n (UR inn i)) (CF inn inn.length):=by
  intro k
  induction k with
  | zero=>
   intro i e;have e:i=inn.length:=by omega
   subst e;refine Ev.one λn=>?_
   unfold UR
   by_cases h0:CF inn inn.length= []
   ·rw [zEd h0,h0]
    show VN n (Jv inn n) inn (inn.length:Int)=_
    unfold VN;rw [zEl (by omega),zGK]
   ·rw [zGW h0]
    show VM n (Jv inn n) inn (CF inn inn.length).length (inn.length:Int) (CF inn inn.length)=_
    unfold VM;rw [zEl (by omega),zGK,zEd rfl]
  | succ k V=>exact λi e=>AV.ev (AV.one λn=>zE3 u (by omega)) (V (i+1) (by omega))
 exact (key inn.length 0 (by omega)).eq λn=>rfl
def qR (G:Gr g)(u:inn.length=g.length)(h0:0<=s)(a:s<(g.length:Int)): ∃ o,Tx g inn s o/\ Ev (λn=>Ky n g inn s) o:=(zDG G u h0 a).ev λ_ _ h h'=>Tx.uniq h h'
def Ld (g:List Ξ)(inn:Ω)(i:Nat):Prop:=inn.getD i false=true/\ ∀ v,v<i -> ¬ Rc g inn (i:Int) (v:Int)
noncomputable def LE (g:List Ξ)(inn:Ω)(k:Nat):Nat:=((List.range k).filter λi=>decide (Ld g inn i)).length
def gh :LE g inn (k+1)=LE g inn k+if Ld g inn k then 1 else 0:=by
 unfold LE;rw [zM2,zMf,zGi]
 by_cases h:Ld g inn k <;> simp [h]
def US (i:Nat)(o:List Ξ):Td:=if o= [] then .l1 (i:Int) else .l2 o.length (i:Int) o
def cY (G:Gr g)(u:inn.length=g.length): ∀ (k i:Nat) (o:List Ξ),i+k=g.length -> o.length=LE g inn i -> o.length<=i -> ∃ r,Ev (λn=>HB g inn n (US i o)) r/\ r.2=0/\ r.1.length=LE g inn g.length
 | 0,i,o,e,x,_=>by
  have e:i=g.length:=by omega
  subst e;refine ⟨(o,0),Ev.one λn=>?_,rfl,x⟩;unfold US
  by_cases h0:o= []
  ·rw [zEd h0,h0]
   show Mo n (HB g inn n) g inn (g.length:Int)=_
   unfold Mo;rw [zEl (by omega),zGK]
  ·rw [zGW h0]
   show Mn n (HB g inn n) g inn o.length (g.length:Int) o=_
   unfold Mn;rw [zEl (by omega),zGK,zEd rfl]
 | k+1,i,o,e,x,hoi=>by
  have w:=G.len;have L:Ay=1000000000000:=rfl;have hi:i<g.length:=by omega
  have l:AG ((i:Int)+1):=Ah.2 ⟨by omega,by omega⟩;have Y:((i+1:Nat):Int)=(i:Int)+1:=by omega
  cases c:inn.getD i false with
  | false=>
   have a: ¬ Ld g inn i:=λh=>by rw [h.1] at c;cases c
   obtain ⟨r,b,d⟩:=cY G u k (i+1) o (by omega) (by rw [gh,zGW a];exact x) (by omega);refine ⟨r,AV.ev (m:=HB g inn) (AV.one λn=>?_) b,d⟩;unfold US;rw [Y]
   by_cases h0:o= []
   ·rw [zEd h0,zEd h0]
    show Mo n (HB g inn n) g inn (i:Int)=_
    unfold Mo;rw [zEI (by omega),zFi,zEd ⟨by omega,by omega⟩,zCl,c,zI8,zFi,zEd l]
   ·rw [zGW h0,zGW h0]
    show Mn n (HB g inn n) g inn o.length (i:Int) o=_
    unfold Mn;rw [zEI (by omega),zFi,zEd ⟨by omega,by omega⟩,zCl,c,zI8,zFi,zEd l]
  | true=>
   obtain ⟨m,j,N,R⟩:=qR (s:=(i:Int)) G u (by omega) (by omega);obtain ⟨M,X⟩:=qZ (inn:=m) (by rw [j.1];exact w);have O:m.getD i false=true:=(j.2 i hi).2 .start;obtain ⟨f,f1,y,K,t,J⟩:=ki (p:=λi=>m.getD i false) m.length ⟨i,by rw [j.1];exact hi,O⟩;have A:CF m m.length=(f:Int)::t.map λi:Nat=>(i:Int):=by unfold CF;rw [J];rfl
   have R: ∀ n,N<=n -> Ky n g inn (i:Int)=some m:=R;have X: ∀ n,M<=n -> Na n m=some ((f:Int)::t.map λi:Nat=>(i:Int)):=λn q=>by rw [←A];exact X n q
   have QO:f<=i:=zNJ λh=>by
    rw [K i h] at O;cases O
   by_cases a:Ld g inn i
   ·have z:f=i:=by
     refine Classical.byContradiction λD=>a.2 f (by omega) ((j.2 f (by omega)).1 y)
    obtain ⟨r,b,d⟩:=cY G u k (i+1) (o++[(f:Int)::t.map λi:Nat=>(i:Int)]) (by omega) (by rw [gh,zEd a,zGi];simp;omega) (by rw [zGi];simp;omega);refine ⟨r,AV.ev (m:=HB g inn) (AV.oneN (max N M) λn q=>?_) b,d⟩;unfold US;rw [Y,zGW (show ¬ (o++[(f:Int)::t.map λi:Nat=>(i:Int)]= []) by simp)]
    by_cases h0:o= []
    ·rw [zEd h0,h0]
     show Mo n (HB g inn n) g inn (i:Int)=_
     unfold Mo;rw [zEI (by omega),zFi,zEd ⟨by omega,by omega⟩,zCl,c,zIF,zGK,R n (by omega),zEf,X n (by omega),zEf,zEd ⟨zGv _,by simp⟩,show (((f:Int)::t.map λi:Nat=>(i:Int)).getD 0 0==(i:Int))=true by simp [z],zFi,zEd l];rfl
    ·rw [zGW h0]
     show Mn n (HB g inn n) g inn o.length (i:Int) o=_
     unfold Mn;rw [zEI (by omega),zFi,zEd ⟨by omega,by omega⟩,zCl,c,zIF,zGK,R n (by omega),zEf,X n (by omega),zEf,zEd ⟨zGv _,by simp⟩,show (((f:Int)::t.map λi:Nat=>(i:Int)).getD 0 0==(i:Int))=true by simp [z],zFi,zEd ⟨rfl,by simp;omega,l⟩,zGi]
   ·have z:f≠i:=λh=>a ⟨c,λv hv hR=>by
     have:=(j.2 v (by omega)).2 hR;rw [K v (by omega)] at this;cases this⟩
    obtain ⟨r,b,d⟩:=cY G u k (i+1) o (by omega) (by rw [gh,zGW a];exact x) (by omega);refine ⟨r,AV.ev (m:=HB g inn) (AV.oneN (max N M) λn q=>?_) b,d⟩;unfold US;rw [Y]
    have D:(((f:Int)::t.map λi:Nat=>(i:Int)).getD 0 0==(i:Int))=false:=by
     show ((f:Int)==(i:Int))=false
     exact zIC.2 (by omega)
    by_cases h0:o= []
    ·rw [zEd h0,zEd h0]
     show Mo n (HB g inn n) g inn (i:Int)=_
     unfold Mo;rw [zEI (by omega),zFi,zEd ⟨by omega,by omega⟩,zCl,c,zIF,zGK,R n (by omega),zEf,X n (by omega),zEf,zEd ⟨zGv _,by simp⟩,D,zGK,zEd l]
    ·rw [zGW h0,zGW h0]
     show Mn n (HB g inn n) g inn o.length (i:Int) o=_
     unfold Mn;rw [zEI (by omega),zFi,zEd ⟨by omega,by omega⟩,zCl,c,zIF,zGK,R n (by omega),zEf,X n (by omega),zEf,zEd ⟨zGv _,by simp⟩,D,zGK,zEd l]
def vf (G:H9 g)(u:inn.length=g.length): ∃ r,Ev (λn=>cZ n g inn) r/\ r.2=0/\ r.1.length=LE g inn g.length:=by
 obtain ⟨r,a,b⟩:=cY G.gr u g.length 0 [] (by omega) rfl (zGd _);refine ⟨r,Ev.bind (qU G) ?_,b⟩;refine a.eq λn=>?_
 show (bif ((0:Int) != 0) then _ else bif ((inn.length:Int) != (g.length:Int)) then _ else _)=_
 rw [u,show ((g.length:Int) != (g.length:Int))=false by simp];rfl
def iI (G:Gr g){u:Nat}(q:u<g.length)(w:inn.getD u false=true): ∃ a,a<g.length/\ Ld g inn a/\ Rc g inn (u:Int) (a:Int):=by
 obtain ⟨a,b,c,d,_⟩:=ki (p:=λv=>decide (Rc g inn (u:Int) (v:Int))) g.length ⟨u,q,zEI .start⟩;have hR:Rc g inn (u:Int) (a:Int):=zIe c;refine ⟨a,b,⟨?_,λv e h=>?_⟩,hR⟩
 ·have:=hR.isIn (by rw [zCl];exact w)
  rwa [zCl] at this
 ·exact of_decide_eq_false (d v e) (hR.trans h)
def zEh (G:Gr g):LE g inn g.length=0↔∀ v,v<g.length -> inn.getD v false=false:=by
 unfold LE;rw [zMr,zM0];constructor
 ·intro h v p;cases c:inn.getD v false with
  | false=>rfl
  | true=>
   obtain ⟨a,b,d,_⟩:=iI G p c;exact absurd (zEI d) (h a (zGX.2 b))
 ·intro h i hi r;have:=(zIe r).1;rw [h i (zGX.1 hi)] at this;cases this
def zFN {l:Θ}(u:l.Nodup):l.length<=1↔∀ a∈l,∀ b∈l,a=b:=by
 match l,u with
 | [],_=>simp
 | [x],_=>simp
 | x::y::l,u=>
  refine zMz (by simp) λh=>?_
  have:=h x (by simp) y (by simp);subst this;simp at u
def zEi (G:Gr g):LE g inn g.length<=1↔M1 g inn:=by
 unfold LE;rw [zFN (zNW zNO zNl)];constructor
 ·intro h u v f p w E;obtain ⟨a,U,c,a3⟩:=iI G f w;obtain ⟨b,q,z,i⟩:=iI G p E;have e:=h a (zJJ.2 ⟨zGX.2 U,zEI c⟩) b (zJJ.2 ⟨zGX.2 q,zEI z⟩);subst e;exact a3.trans (i.symm G (by omega) (by omega) (by rw [zCl];exact E))
 ·intro d a D b j;obtain ⟨U,c⟩:=zJJ.1 D;obtain ⟨q,z⟩:=zJJ.1 j;have U:=zGX.1 U;have q:=zGX.1 q;have c:=zIe c;have z:=zIe z;rcases Nat.lt_trichotomy a b with h | h | h
  ·exact absurd (d b a q U z.1 c.1) (z.2 a h)
  ·exact h
  ·exact absurd (d a b U q c.1 z.1) (c.2 b h)
end
end
section
open Classical
section
variable {q:AA} {c:AD} {AJ:Ξ} {g:List Ξ} {inn met:Ω} {s:Int} {l:Ξ}
def qL (G:Gr g)(u:inn.length=g.length){i:Nat}(hi:i<l.length)(h0:0<=l.getD i 0)(b:l.getD i 0<(g.length:Int)): ∀ (k j:Nat),j+k=(nb g (l.getD i 0)).length -> AV (HQ g inn) (.l2 l met (i:Int) ((((nb g (l.getD i 0)).take j).countP λx=>inn.getD x.toNat false:Nat):Int) (j:Int)) (.l2 l met (i:Int) ((Cc g inn (l.getD i 0):Nat):Int) ((nb g (l.getD i 0)).length:Int))
 | 0,j,e=>by
  have e:j=(nb g (l.getD i 0)).length:=by omega
  subst e;rw [zNn];exact AV.refl
 | k+1,j,e=>by
  have a:j<(nb g (l.getD i 0)).length:=by omega
  have p:=G.rng _ h0 b _ (Qa a);have hw:=G.row _ h0 b;have hc:((nb g (l.getD i 0)).take j).countP (λx=>inn.getD x.toNat false)<=j:=zGU List.countP_le_length (by simp;omega);have c:g.getD (l.getD i 0).toNat []=nb g (l.getD i 0):=rfl
  have d: ∀ w:Ξ,j<w.length -> w.take (j+1)=w.take j++[w.getD j 0]:=λw a=>by
   rw [zGR,zGc a];exact (List.take_append_getElem a).symm
  refine (AV.one λn=>?_).trans (qL G u hi h0 b k (j+1) (by omega))
  show VE n (HQ g inn n) g inn l met (i:Int) _ (j:Int)=_
  unfold VE;simp only [zCl,c];rw [zEd ⟨⟨by omega,by omega⟩,h0,b⟩,zEI (by omega),zFi,zEd ⟨⟨by omega,by omega⟩,p.1,by omega⟩,d _ a,List.countP_append,List.countP_singleton,show ((j+1:Nat):Int)=(j:Int)+1 by omega];cases inn.getD ((nb g (l.getD i 0)).getD j 0).toNat false with
  | false=>rw [zGK,zEd (Ah.2 ⟨by omega,by omega⟩)];simp
  | true=>rw [zFi,zEd ⟨Ah.2 ⟨by omega,by omega⟩,Ah.2 ⟨by omega,by omega⟩⟩];simp
def qM (G:Gr g)(u:inn.length=g.length)(f:met.length=g.length)(m: ∀ v∈l,0<=v/\ v<(g.length:Int))(t:l.length<=256): ∀ (k i:Nat),i+k=l.length -> ∃ r,Ev (λn=>HQ g inn n (.l1 l met (i:Int))) (r,0)/\ (r=true↔∀ a,i<=a -> a<l.length -> Cc g inn (l.getD a 0)=2/\ met.getD (l.getD a 0).toNat false=true)
 | 0,i,e=>by
  refine ⟨true,Ev.one λn=>?_,zNx rfl λa b c=>absurd c (by omega)⟩
  show VF n (HQ g inn n) g inn l met (i:Int)=_
  unfold VF;rw [zEl (by omega),zGK]
 | k+1,i,e=>by
  have hi:i<l.length:=by omega
  obtain ⟨h0,b⟩:=m _ (Qa hi);have hw:=G.row _ h0 b;have w:g.getD (l.getD i 0).toNat []=nb g (l.getD i 0):=rfl
  have A:AV (HQ g inn) (.l1 l met (i:Int)) (.l2 l met (i:Int) ((Cc g inn (l.getD i 0):Nat):Int) ((nb g (l.getD i 0)).length:Int)):=by
   refine (AV.one λn=>?_).trans (qL G u hi h0 b _ 0 (zG4 _))
   show VF n (HQ g inn n) g inn l met (i:Int)=_
   unfold VF;rw [zEI (by omega),zFi];rfl
  have step: ∀ n,HQ g inn (n+1) (.l2 l met (i:Int) ((Cc g inn (l.getD i 0):Nat):Int) ((nb g (l.getD i 0)).length:Int))=if Cc g inn (l.getD i 0)=2/\ met.getD (l.getD i 0).toNat false=true then HQ g inn n (.l1 l met ((i+1:Nat):Int)) else some (false,0):=λn=>by
   show VE n (HQ g inn n) g inn l met (i:Int) _ _=_
   unfold VE;simp only [zCl,w];rw [zEd ⟨⟨by omega,by omega⟩,h0,b⟩,zEl (by omega),zGK,zEd ⟨h0,by omega⟩,zEd (Ah.2 ⟨by omega,by omega⟩),show ((i+1:Nat):Int)=(i:Int)+1 by omega]
   by_cases d:Cc g inn (l.getD i 0)=2
   ·rw [d,show (((2:Nat):Int) != 2)=false from rfl,zGK];cases met.getD (l.getD i 0).toNat false with
    | true=>simp
    | false=>simp
   ·rw [show (((Cc g inn (l.getD i 0):Nat):Int) != 2)=true from zJN.2 (by omega),zFi,zGW λh=>d h.1]
  by_cases y:Cc g inn (l.getD i 0)=2/\ met.getD (l.getD i 0).toNat false=true
  ·obtain ⟨r,j,z⟩:=qM G u f m t k (i+1) (by omega);refine ⟨r,AV.ev (A.trans (AV.one λn=>by rw [step n,zEd y])) j,z.trans ⟨λh a b c=>?_,λh a b c=>h a (by omega) c⟩⟩
   by_cases o:a=i
   ·rw [o];exact y
   ·exact h a (by omega) c
  ·refine ⟨false,AV.ev A (Ev.one λn=>by rw [step n,zGW y]),zMz (by decide) λh=>y (h i (zGd _) hi)⟩
def zE4:(CF inn inn.length).length=(List.range inn.length).countP λx=>inn.getD x false:=by
 unfold CF;rw [zGh,zIX]
def zCi (G:H9 g)(c:inn.length=g.length): ∃ r,Ev (λn=>ZB n g inn) (r,0)/\ (r=true↔(∀ v,v<g.length -> inn.getD v false=true -> Cc g inn v=2)/\ (∃ v,v<g.length/\ inn.getD v false=true)/\ M1 g inn):=by
 have Aj:=G.gr.len;obtain ⟨M,X⟩:=qZ (inn:=inn) (by omega);have X: ∀ n,M<=n -> Na n inn=some (CF inn inn.length):=X
 have q: ∀ v∈CF inn inn.length,0<=v/\ v<(g.length:Int):=λv p=>by
  have:=Z8.1 p;omega
 have te:=sK (inn:=inn) (k:=inn.length)
 have start: ∀ {f:Nat -> Option (Bool×Int)} {r:Bool×Int},Ev f r -> (∀ n,M<=n -> (bif (decide (((CF inn inn.length).length:Int)<3)) then some (false,0) else if (0:Int)<=0/\ 0<((CF inn inn.length).length:Int) then (Ky n g inn ((CF inn inn.length).getD 0 0)).bind λy3=>HQ g inn n (.l1 (CF inn inn.length) y3 0) else none)=f n) -> Ev (λn=>ZB n g inn) r:=λ{f r} i I=>by
  obtain ⟨N,i⟩:=i;refine Ev.bind (qU G) ⟨max M N,λn hn=>?_⟩
  show (bif ((0:Int) != 0) then _ else bif ((inn.length:Int) != (g.length:Int)) then some (false,1) else (Na n inn).bind λy2=>_)=_
  rw [c,show ((g.length:Int) != (g.length:Int))=false by simp,zGK,X n (by omega),zEf];exact (I n (by omega)).trans (i n (by omega))
 by_cases s:((CF inn inn.length).length:Int)<3
 ·refine ⟨false,start (f:=λ_=>some (false,0)) (Ev.now λn=>rfl) λn _=>by rw [zEI s,zFi],zMz (by decide) λ⟨j,⟨v,K,L⟩,_⟩=>?_⟩;have:=yV G K L (j v K L);rw [←c,←zE4] at this;omega
 ·have t:0<(CF inn inn.length).length:=by omega
  obtain ⟨w,x⟩:=q _ (Qa t);have P:=(Z8.1 (Qa t)).2.2;obtain ⟨m,d,F⟩:=qR G.gr c w x;obtain ⟨r,A,B⟩:=qM (met:=m) G.gr c d.1 q (by omega) (CF inn inn.length).length 0 (by omega);refine ⟨r,start (f:=λn=>(Ky n g inn ((CF inn inn.length).getD 0 0)).bind λy3=>HQ g inn n (.l1 (CF inn inn.length) y3 0)) (Ev.bind F A) λn _=>by rw [zEl s,zGK,zEd ⟨zGv _,by omega⟩],B.trans ?_⟩
  have l: ∀ v,v<g.length -> inn.getD v false=true -> ∃ a,a<(CF inn inn.length).length/\ (CF inn inn.length).getD a 0=(v:Int):=λv p E=>by
   obtain ⟨a,D,e⟩:=zG2 (Z8.2 ⟨by omega,by omega,by rw [zCl];exact E⟩:(v:Int)∈CF inn inn.length);exact ⟨a,D,by rw [zGR,zGc D];exact e⟩
  constructor
  ·intro h;refine ⟨λv p E=>?_,⟨((CF inn inn.length).getD 0 0).toNat,by omega,P⟩,λu v y p C E=>?_⟩
   ·obtain ⟨a,U,o⟩:=l v p E;have:=(h a (zIR _) U).1
    rwa [o] at this
   ·obtain ⟨a,U,o⟩:=l u y C;obtain ⟨b,H,J⟩:=l v p E;have D:=(h a (zIR _) U).2;have z:=(h b (zIR _) H).2;rw [o,zCl] at D;rw [J,zCl] at z;exact ((d.2 u y).1 D |>.symm G.gr w x P).trans ((d.2 v p).1 z)
  ·rintro ⟨j,_,O⟩ a _ D;obtain ⟨v0,K,L⟩:=Z8.1 (Qa D);have e:(CF inn inn.length).getD a 0=(((CF inn inn.length).getD a 0).toNat:Int):=by omega
   refine ⟨by rw [e];exact j _ (by omega) L,(d.2 _ (by omega)).2 ?_⟩;have:=O _ ((CF inn inn.length).getD a 0).toNat (show ((CF inn inn.length).getD 0 0).toNat<g.length by omega) (by omega) P L
   rwa [show ((((CF inn inn.length).getD 0 0).toNat:Nat):Int)=(CF inn inn.length).getD 0 0 by omega] at this
end
end
section
variable {q:AA} {pos:Ξ}
def zCF {n:Nat}(R:DJ q)(u:EG q<=n)(hl:pos.length<=LB)(Hg:pos.length<n):U5 n q pos=some (Dl q pos):=by
 have hb:LB<=9223372036854775806:=by decide
 unfold U5 po Dl;rw [pV R u,zEf];cases d:CK q with
 | false=>rfl
 | true=>
  obtain ⟨_,c,_⟩:=DP d;obtain ⟨J,p2,I⟩:=ZR c.1 c.2
  have f:IntKind.u64.wrap q.symbols=q.symbols:=by
   show q.symbols % 18446744073709551616=q.symbols
   omega
  show (bif ((pos.length:Int) != q.cells) then some 250 else PE q pos n (.l1 0))=some (if posOk q pos=true then 0 else 250)
  unfold posOk
  by_cases M:(pos.length:Int)=q.cells
  ·have a:((pos.length:Int) != q.cells)=false:=by simpa using M
   have b:((pos.length:Int)==q.cells)=true:=by simpa using M
   rw [a,zGK,b,zI9]
   have key: ∀ (k i n:Nat),i+k=pos.length -> k+1<=n -> PE q pos n (.l1 (i:Int))=some (if ((pos.drop i).all λx=>decide (0<=x)&&decide (x<2 ^ q.symbols.toNat))=true then 0 else 250):=by
    intro k
    induction k with
    | zero=>
     intro i n e u;obtain ⟨n,rfl⟩: ∃ k,n=k+1:=⟨n-1,by omega⟩
     show U4 n (PE q pos n) q pos (i:Int)=_
     unfold U4;rw [zEl (by omega),zGK,zJD (by omega)];rfl
    | succ k V=>
     intro i n e u;obtain ⟨n,rfl⟩: ∃ k,n=k+1:=⟨n-1,by omega⟩;have hi:i<pos.length:=by omega
     have z:pos.drop i=pos.getD i 0::pos.drop (i+1):=by
      rw [zGr hi,zGR,zGc hi];rfl
     have:=V (i+1) n (by omega) (by omega)
     show U4 n (PE q pos n) q pos (i:Int)=_
     unfold U4;rw [zEI (by omega),zFi,zEd ⟨by omega,by omega⟩,f,zEd I,zEd (Ah.2 ⟨by omega,by omega⟩),zCl,z,zM4,J]
     by_cases w:pos.getD i 0<0
     ·rw [zEI w,zFi,zEl (p:=0<=pos.getD i 0) (by omega)];rfl
     ·rw [zEl w,zGK,zEI (p:=0<=pos.getD i 0) (by omega),zI9]
      by_cases v:pos.getD i 0>=2 ^ q.symbols.toNat
      ·rw [zEI v,zFi,zEl (p:=pos.getD i 0<2 ^ q.symbols.toNat) (by omega)];rfl
      ·rw [zEl v,zGK,zEI (p:=pos.getD i 0<2 ^ q.symbols.toNat) (by omega),zI9];exact this
   exact key pos.length 0 n (by omega) (by omega)
  ·have a:((pos.length:Int) != q.cells)=true:=by simpa using M
   have b:((pos.length:Int)==q.cells)=false:=by simpa using M
   rw [a,zFi,b,zNw];rfl
end
section
variable {q:AA} {c:AD} {g:Ξ} {i:Int} {inn:Ω}
def zK9 (G:H9 q.nbrs)(u:inn.length=q.nbrs.length): ∃ b,Ev (λn=>XJ n q.nbrs inn) b/\ (b=true↔M1 q.nbrs inn):=by
 obtain ⟨r,a,c,h⟩:=vf G u;refine ⟨decide ((r.1.length:Int)<=1),Ev.bind a (Ev.now λn=>by rw [c];rfl),?_⟩;rw [zGe,h,←zEi G.gr];omega
def zFF (G:H9 q.nbrs)(d:inn.length=q.nbrs.length): ∃ b,Ev (λn=>Vu n q.nbrs inn) b/\ (b=true↔M1 q.nbrs inn/\ ∀ v,v<q.nbrs.length -> inn.getD v false=true -> Cc q.nbrs inn v=2):=by
 obtain ⟨r,a,c,e⟩:=vf G d;obtain ⟨b,l,f⟩:=zCi G d;have z:=zEh (inn:=inn) G.gr;rw [←e] at z;refine ⟨if r.1.length=0 then true else b,Ev.bind a (Ev.bind l (Ev.now λn=>?_)),?_⟩
 ·rw [c]
  show (bif ((r.1.length:Int)==0) then some true else some b)=_
  by_cases h0:r.1.length=0
  ·rw [zEd h0,h0];rfl
  ·rw [zGW h0,zIC.2 (by omega),zGK]
 ·by_cases h0:r.1.length=0
  ·rw [zEd h0];have h:=z.1 h0;exact zNx rfl ⟨λu v g _ w _=>(by rw [h u g] at w;cases w),λv p E=>(by rw [h v p] at E;cases E)⟩
  ·rw [zGW h0,f];constructor
   ·rintro ⟨a,_,c⟩;exact ⟨c,a⟩
   ·rintro ⟨a,c⟩;refine ⟨c,Classical.byContradiction λi=>h0 (z.2 λv p=>?_),a⟩;cases j:inn.getD v false with
    | false=>rfl
    | true=>exact absurd ⟨v,p,j⟩ i
def sG (S:Sv q c g)(W:FP c q (Ar g)):Ev (λn=>Pd n g c.cells c.set) (Dm c g):=by
 have L:(1000000000000:Nat)=Ay:=rfl;have m:=W.len;have t:=W.l1;rw [Fm] at m t
 have key: ∀ (k j:Nat) (o:Ω),j+k=g.length -> o.length=g.length -> (∀ v,v<j -> o.getD v false=(Dm c g).getD v false) -> Ev (λn=>SR g c.cells c.set n (.l1 (j:Int) o)) (Dm c g):=by
  intro k
  induction k with
  | zero=>
   intro j o e x b
   have:o=Dm c g:=by
    refine zJL (by rw [x,Pb]) λv d f=>?_
    have:=b v (by omega);simpa [zGR,d,f] using this
   subst this;refine Ev.one λn=>?_
   show Vo n (SR g c.cells c.set n) g c.cells c.set (j:Int) (Dm c g)=_
   unfold Vo;rw [zEl (by omega),zGK,zEd x.symm]
  | succ k V=>
   intro j o e x b;have a:j<g.length:=by omega
   have hid:=W.id j (by rw [Fm];exact a);have aq:=S.G.lt S.v a;have LP:=S.G.sym j a;have i:g.getD j 0=(((g.getD j 0).toNat:Nat):Int):=by omega
   refine AV.ev (AV.one λn=>?_) (V (j+1) (o.set j (tb c.set (g.getD j 0).toNat)) (by omega) (by rw [zGj];exact x) λv p=>?_)
   ·show Vo n (SR g c.cells c.set n) g c.cells c.set (j:Int) o=_
    unfold Vo;rw [zEI (by omega),zFi,zCl,hid,zEd ⟨⟨by omega,by omega⟩,by omega,by omega⟩,zCl,i,Nb (by omega),zEf,zEd ⟨by omega,Ah.2 ⟨by omega,by omega⟩⟩,zG4,zCl,show ((j+1:Nat):Int)=(j:Int)+1 by omega]
   ·by_cases w:v=j
    ·subst w;rw [zGR,List.getElem?_set_self (by omega),zNj,gm a]
    ·rw [zGR,List.getElem?_set_ne (λh=>w h.symm),←zGR];exact b v (by omega)
 have:=key g.length 0 (List.replicate g.length false) (by omega) zIA λv p=>absurd p (zGa v)
 refine Ev.eq this λn=>?_
 unfold Pd sF;rw [zEd ⟨rfl,by omega,by omega⟩];rfl
def zEo (C:Br q i (Ar g))(G:Gd q g): ∃ b,Ev (λn=>GY n q (con q i) g) b/\ (b=true↔CI q (con q i) g):=by
 have S:=C.sv G;have u:BH (Ar g)=false:=E8.2 S.nz;have W:=C.work;have V:=C.vals;have m:=W.len
 have D: ∀ {k:Int} {f:Nat -> Option Bool} {b:Bool} {M:Prop},(con q i).kind=k -> (∀ n,GY n q (con q i) g=f n) -> Ev f b -> (b=true↔M) -> (CI q (con q i) g↔M) -> ∃ b,Ev (λn=>GY n q (con q i) g) b/\ (b=true↔CI q (con q i) g):=
  λ_ I v x y=>⟨_,v.eq I,x.trans y.symm⟩
 have z:=Pp (Po C.kind)
 generalize l:con q i=c at*
 rcases z with hk | hk | hk | hk | hk | hk | hk | hk | hk
 ·obtain ⟨r,e,d⟩:=zKd S m;exact D (f:=λn=>(cL n g c.cells).bind some) hk (λn=>by unfold GY LF;rw [hk];rfl) (Ev.bind e (Ev.now λn=>rfl)) d (by unfold CI;rw [hk];simp)
 ·refine D (f:=λn=>(cR n g c.cells c.set).bind λj=>bif decide (c.lo<=j) then some (decide (j<=c.hi)) else some false) (M:=c.lo<=cnt (λa=>tb c.set (AT c g a)) c.cells.length/\ cnt (λa=>tb c.set (AT c g a)) c.cells.length<=c.hi) (b:=decide (c.lo<=cnt (λa=>tb c.set (AT c g a)) c.cells.length)&&decide (cnt (λa=>tb c.set (AT c g a)) c.cells.length<=c.hi)) hk (λn=>by unfold GY LF;rw [hk];rfl) (Ev.bind (zKt S m) (Ev.now λn=>?_)) (by simp) (by unfold CI;rw [hk];simp);cases decide (c.lo<=cnt (λa=>tb c.set (AT c g a)) c.cells.length) <;> rfl
 ·refine D (f:=λn=>(YD n q.values g c.cells).bind λj=>bif decide (c.lo<=j) then some (decide (j<=c.hi)) else some false) (M:=c.lo<=Cj (λa=>q.values.getD (AT c g a) 0) c.cells.length/\ Cj (λa=>q.values.getD (AT c g a) 0) c.cells.length<=c.hi) (b:=decide (c.lo<=Cj (λa=>q.values.getD (AT c g a) 0) c.cells.length)&&decide (Cj (λa=>q.values.getD (AT c g a) 0) c.cells.length<=c.hi)) hk (λn=>by unfold GY LF;rw [hk];rfl) (Ev.bind (zB S V m) (Ev.now λn=>?_)) (by simp) (by unfold CI;rw [hk];simp);cases decide (c.lo<=Cj (λa=>q.values.getD (AT c g a) 0) c.cells.length) <;> rfl
 ·obtain ⟨r,e,d⟩:=zCd S V m;exact D (f:=λn=>(ZA n q.values g c.cells).bind some) hk (λn=>by unfold GY LF;rw [hk];rfl) (Ev.bind e (Ev.now λn=>rfl)) d (by unfold CI;rw [hk];simp)
 ·have A:=fS (b:=λa=>tb c.set (AT c g a)) (N:=c.cells.length) c.cells.length 0;refine D (f:=λn=>(Yv n g c.cells c.set).bind λj=>(Rk n j c.runs).bind some) (M:=rl (λa=>tb c.set (AT c g a)) c.cells.length c.cells.length 0=c.runs) (b:=decide (rl (λa=>tb c.set (AT c g a)) c.cells.length c.cells.length 0=c.runs)) hk (λn=>by unfold GY LF;rw [hk];rfl) (Ev.bind (zBv S m) ⟨300,λn hn=>?_⟩) (by simp) (by unfold CI;rw [hk];simp)
  show (Rk n _ c.runs).bind some=_
  rw [zFv (zGU A (zGU (by omega:c.cells.length+1<=300) (by decide))) (by omega)];rfl
 ·have d:c.cells.length=2:=by rw [←l];exact C.two (.inl (by rw [l];exact hk))
  have p:=S.cell 0 (by omega);have w:=S.cell 1 (by omega);have s:=S.gi (a:=0) (by omega);have t:=S.gi (a:=1) (by omega);have l0:=(S.lt (a:=0) (by omega)).1;have O:=(S.lt (a:=1) (by omega)).1;have vl:=V.len;have v0:=V.val _ l0;have v1:=V.val _ O;refine D (f:=λn=>GY n q c g) (M:=I8 q c (AT c g 0) (AT c g 1)=true) (b:=I8 q c (AT c g 0) (AT c g 1)) hk (λn=>rfl) (Ev.now λn=>?_) Iff.rfl (by unfold CI;rw [hk];simp);unfold GY LF;rw [hk]
  show (if _ then _ else none)=_
  rw [s,t,zCl,zCl,zEd ⟨⟨by omega,by omega⟩,p,⟨by omega,by omega⟩,⟨by omega,by omega⟩,w,by omega,by omega⟩];unfold fk qb I8;rw [zEd (Ah.2 ⟨by omega,by omega⟩),zEd (Ah.2 ⟨by omega,by omega⟩)]
  by_cases h:q.values.getD (AT c g 0) 0-q.values.getD (AT c g 1) 0>=c.lo
  ·rw [zEI h,zFi,zEf];refine congrArg some (zEI ?_).symm;split <;> omega
  ·rw [zEl h,zGK,zEf];refine congrArg some ?_;rw [zNL];split <;> omega
 ·have d:c.cells.length=2:=by rw [←l];exact C.two (.inr (by rw [l];exact hk))
  have p:=S.cell 0 (by omega);have w:=S.cell 1 (by omega);have s:=S.gi (a:=0) (by omega);have t:=S.gi (a:=1) (by omega);have l0:=(S.lt (a:=0) (by omega)).2;have O:=(S.lt (a:=1) (by omega)).2;refine D (f:=λn=>GY n q c g) (M:=IT c (AT c g 0) (AT c g 1)=true) (b:=IT c (AT c g 0) (AT c g 1)) hk (λn=>rfl) (Ev.now λn=>?_) Iff.rfl (by unfold CI;rw [hk];simp);unfold GY LF;rw [hk]
  show (if _ then _ else none)=_
  rw [s,t,zEd ⟨⟨by omega,by omega⟩,p,⟨by omega,by omega⟩,w⟩,Nb l0,Nb O,Nb l0,Nb O];unfold IT;cases tb c.set (AT c g 0) <;> cases tb c.set (AT c g 1) <;> cases tb c.other (AT c g 0) <;> cases tb c.other (AT c g 1) <;> rfl
 ·have X:FP c q (Ar g):=by rw [←l];exact C.all (.inl (by rw [l];exact hk)) u
  have o:=X.gl;rw [Fm] at o;obtain ⟨r,e,d⟩:=zK9 (inn:=Dm c g) X.g (by rw [Pb];omega);exact D (f:=λn=>(Pd n g c.cells c.set).bind λj=>(XJ n q.nbrs j).bind some) hk (λn=>by unfold GY LF;rw [hk];rfl) (Ev.bind (sG S X) (Ev.bind e (Ev.now λn=>rfl))) d (by unfold CI;rw [hk];simp)
 ·have X:FP c q (Ar g):=by rw [←l];exact C.all (.inr (by rw [l];exact hk)) u
  have o:=X.gl;rw [Fm] at o;obtain ⟨r,e,d⟩:=zFF (inn:=Dm c g) X.g (by rw [Pb];omega);rw [o] at d;exact D (f:=λn=>(Pd n g c.cells c.set).bind λj=>(Vu n q.nbrs j).bind some) hk (λn=>by unfold GY LF;rw [hk];rfl) (Ev.bind (sG S X) (Ev.bind e (Ev.now λn=>rfl))) d (by unfold CI;rw [hk];simp)
def zJ2 (G:Gd q g)(p:CK q=true):Ev (λn=>bu n q.cells q.symbols g) true:=by
 have M:=G.len;have hc:=(DP p).1
 have key: ∀ (k j:Nat),j+k=g.length -> Ev (λn=>TM q.cells q.symbols g n (.l1 (j:Int))) true:=by
  intro k
  induction k with
  | zero=>
   intro j e;refine Ev.one λn=>?_
   show Wn n (TM q.cells q.symbols g n) q.cells q.symbols g (j:Int)=_
   unfold Wn;rw [zEl (by omega),zGK]
  | succ k V=>
   intro j e;have a:j<g.length:=by omega
   obtain ⟨s0,s1⟩:=G.sym j a;refine AV.ev (AV.one λn=>?_) (V (j+1) (by omega))
   show Wn n (TM q.cells q.symbols g n) q.cells q.symbols g (j:Int)=_
   unfold Wn;rw [zEI (by omega),zFi,zEd ⟨by omega,by omega⟩,zCl,zEl (by omega),zGK,zEl (by omega),zGK,zEd (Ah.2 ⟨by omega,by omega⟩),show ((j+1:Nat):Int)=(j:Int)+1 by omega]
 refine (key g.length 0 (by omega)).eq λn=>?_
 unfold bu ut;rw [show ((g.length:Int) != q.cells)=false by simpa using M,zGK];rfl
def zT (c:DJ q)(p:CK q=true)(G:Gd q g)(BT:q.cons.length<=LB): ∃ b,Ev (λn=>Ko n q g) (b,0)/\ (b=true↔Kd q g):=by
 have hb:LB<=9223372036854775806:=by decide
 have key: ∀ (k j:Nat),j+k=q.cons.length -> (∀ i,0<=i -> i<(j:Int) -> CI q (con q i) g) -> ∃ b,Ev (λn=>NF q g n (.l1 (j:Int))) (b,0)/\ (b=true↔Kd q g):=by
  intro k
  induction k with
  | zero=>
   intro j e h;refine ⟨true,Ev.one λn=>?_,zNx rfl λi h0 a=>h i h0 (by omega)⟩
   show UY n (NF q g n) q g (j:Int)=_
   unfold UY;rw [zEl (by omega),zGK]
  | succ k V=>
   intro j e h;have hj:j<q.cons.length:=by omega
   obtain ⟨b,⟨N,R⟩,z⟩:=zEo (G.ctx c p (i:=(j:Int)) (by omega) (by omega)) G;have I:con q (j:Int)=q.cons.getD j default:=by unfold con;rw [zCl]
   rw [I] at R;have R: ∀ n,N<=n -> GY n q (q.cons.getD j default) g=some b:=R
   have step: ∀ n,N<=n -> NF q g (n+1) (.l1 (j:Int))=bif !b then some (false,0) else NF q g n (.l1 ((j+1:Nat):Int)):=λn u=>by
    show UY n (NF q g n) q g (j:Int)=_
    unfold UY;rw [zEI (by omega),zFi,zEd ⟨by omega,by omega⟩,zCl,R n u,zEf,zEd (Ah.2 ⟨by omega,by omega⟩),show ((j+1:Nat):Int)=(j:Int)+1 by omega]
   cases b with
   | false=>
    refine ⟨false,Ev.oneN N λn u=>by rw [step n u];rfl,zMz (by decide) λd=>?_⟩;have:=z.2 (d (j:Int) (by omega) (by omega));cases this
   | true=>
    obtain ⟨r,l,f⟩:=V (j+1) (by omega) λi h0 a=>by
     by_cases w:i=(j:Int)
     ·rw [w];exact z.1 rfl
     ·exact h i h0 (by omega)
    exact ⟨r,AV.ev (AV.oneN N λn u=>by rw [step n u];rfl) l,f⟩
 obtain ⟨b,m,z⟩:=key q.cons.length 0 (by omega) λi h0 a=>absurd a (by omega)
 have B:Ev (λn=>Xu n q g) 0:=by
  refine Ev.bind (x:=0) ⟨EG q,λn u=>by show Rl n q=_;rw [pV c u,p];rfl⟩ ?_;exact Ev.eq (Ev.bind (zJ2 G p) (Ev.now λn=>rfl)) λn=>rfl
 exact ⟨b,Ev.bind B m,z⟩
end
structure A5 (q:AA)(p:Ξ):Prop where
 fit:DJ q
 valid:CK q=true
 ok:posOk q p=true
def Le (a b:Ξ):Prop:=∀ j s,tb (a.getD j 0) s=true -> tb (b.getD j 0) s=true
def Up (q:AA)(level:Int)(i:Int):Prop:=0<=i/\ i<(q.cons.length:Int)/\ IU (con q i).kind<=level
def Ii (q:AA)(U:Int -> Prop)(p:Ξ):Prop:=∀ i,U i -> PR q (con q i) p p
inductive Dw (q:AA)(U:Int -> Prop):Ξ -> Ξ -> Prop
 | refl (p:Ξ):Dw q U p p
 | step {p x y:Ξ} {i:Int}:U i -> PR q (con q i) p x -> Dw q U x y -> Dw q U p y
section
variable {q:AA} {U:Int -> Prop} {p x y z:Ξ} {i level:Int}
def A5.ctx (h:A5 q p)(h0:0<=i)(a:i<(q.cons.length:Int)):Br q i p:=⟨h.fit,h.valid,h0,a,h.ok⟩
def A5.len (h:A5 q p):(p.length:Int)=q.cells:=((I6 h.valid).1 h.ok).1
def A5.sm (h:A5 q p): ∀ j,j<p.length -> Sm q.symbols.toNat (p.getD j 0):=((I6 h.valid).1 h.ok).2
def A5.k (h:A5 q p):q.symbols.toNat<=16:=by have:=(DP h.valid).2.1;omega
def A5.len256 (h:A5 q p):0<p.length/\ p.length<=256:=by
 have h1:=(DP h.valid).1;have:=h.len;omega
def A5.in64 (h:A5 q p)(j:Nat):CB (p.getD j 0):=by
 by_cases e:j<p.length
 ·exact (h.sm j e).in64 (by have:=h.k;omega)
 ·rw [zGR,zJG (by omega)];exact ⟨by decide,by decide⟩
def A5.pr (h:A5 q p)(h0:0<=i)(a:i<(q.cons.length:Int))(d:PR q (con q i) p x):A5 q x:=⟨h.fit,h.valid,d.posOk (h.ctx h0 a)⟩
def A5.eqlen (h:A5 q p)(h':A5 q x):x.length=p.length:=by have:=h.len;have:=h'.len;omega
theorem Le.refl (a:Ξ):Le a a:=λ_ _ h=>h
def Le.trans (h:Le x y)(h':Le y z):Le x z:=λj s k=>h' j s (h j s k)
def Le.eq (d:A5 q x)(hy:A5 q y)(h:Le x y)(h':Le y x):x=y:=by
 have e:x.length=y.length:=hy.eqlen d;refine zJL e λj a b=>?_
 have w:x.getD j 0=x[j]:=by simp [a]
 have z:y.getD j 0=y[j]:=by simp [b]
 rw [←w,←z];refine Km (d.in64 j) (hy.in64 j) λs _=>?_
 rw [zIt];exact ⟨h j s,h' j s⟩
variable {c:AD}
def PR.le (h:PR q c p x):Le x p:=λ_ _ k=>(h.sub k).2
def Dw.pos (M: ∀ i,U i -> 0<=i/\ i<(q.cons.length:Int))(r:Dw q U p y):A5 q p -> A5 q y:=by
 induction r with
 | refl p=>exact id
 | step hi d _ V=>exact λh=>V (h.pr (M _ hi).1 (M _ hi).2 d)
def Dw.le (r:Dw q U p y):Le y p:=by
 induction r with
 | refl p=>exact Le.refl p
 | step hi d _ V=>exact V.trans d.le
def Dw.trans (h:Dw q U p x)(h':Dw q U x y):Dw q U p y:=by
 induction h with
 | refl p=>exact h'
 | step hi d _ V=>exact .step hi d (V h')
def Dw.one (hi:U i)(d:PR q (con q i) p x):Dw q U p x:=.step hi d (.refl x)
def Dw.above (c: ∀ i,U i -> 0<=i/\ i<(q.cons.length:Int))(r:Dw q U p y):A5 q p -> A5 q z -> Le z p -> Ii q U z -> Le z y:=by
 induction r with
 | refl p=>exact λ_ _ h _=>h
 | step hi d _ V=>
  intro g b e M;obtain ⟨h0,a⟩:=c _ hi;exact V (g.pr h0 a d) b (qo (g.ctx h0 a) (b.ctx h0 a) e d (M _ hi)) M
theorem Dw.uniq (M: ∀ i,U i -> 0<=i/\ i<(q.cons.length:Int))(g:A5 q p)(d:Dw q U p x)(hy:Dw q U p y)(e:Ii q U x)(f:Ii q U y):x=y:=
 Le.eq (d.pos M g) (hy.pos M g) (hy.above M g (d.pos M g) d.le e) (d.above M g (hy.pos M g) hy.le f)
def dh (i:Int)(h:Up q level i):0<=i/\ i<(q.cons.length:Int):=⟨h.1,h.2.1⟩
variable {m:Nat}
theorem qn (v:0<m):PR q c (List.replicate m 0) (List.replicate m 0):=by
 refine ⟨rfl,λC=>?_,λ_=>by simp⟩;have:=C.nz 0 (by simpa using v)
 grind
def ka (v:0<m):Ii q U (List.replicate m 0):=λ_ _=>qn v
def PR.zero (h:PR q c p x)(r:BH x=true):x=List.replicate p.length 0:=by
 refine Classical.byContradiction λD=>?_
 have C:Fi q c p:=Classical.byContradiction λC=>D (h.dead C)
 have: ¬ BH x=false:=by rw [r];exact λh=>by cases h
 refine this (E8.2 λj e=>?_);have i:j<p.length:=by rw [←h.len];exact e
 obtain ⟨s,a,b,d⟩:=C.left j i;exact (Eu (h.live C j i).1).2 ⟨s,a,((h.live C j i).2 s).2 ⟨b,d⟩⟩
def wt (p:Ξ):Nat:=(List.range (64*p.length)).countP λk=>tb (p.getD (k/64) 0) (k % 64)
def UC (d:A5 q x)(g:A5 q p)(h:Le x p)(D:x≠p):wt x+1<=wt p:=by
 have e:x.length=p.length:=g.eqlen d
 obtain ⟨j,s,hj,b,c,f⟩: ∃ j s:Nat,j<p.length/\ s<64/\ tb (x.getD j 0) s=false/\ tb (p.getD j 0) s=true:=by
  refine Classical.byContradiction λhn=>D (Le.eq d g h λj s b=>?_)
  grind [tb]
 unfold wt;rw [e];have B:(64*j+s)/64=j:=by omega
 have es:(64*j+s) % 64=s:=by omega
 refine Ml (a:=64*j+s) (by rw [B,es];exact c) (by rw [B,es];exact f) _ (λk _ hk=>h _ _ hk) (zGX.2 (by omega))
end
section
variable {q:AA} {level:Int} {p:Ξ}
def Fy (q:AA)(level:Int)(k:Nat):Ξ:=((List.range k).filter λi:Nat=>decide (IU (con q (i:Int)).kind<=level)).map λi:Nat=>(i:Int)
def Ae (q:AA)(level:Int):Ξ:=Fy q level q.cons.length
variable {k:Nat}
def yG :Fy q level (k+1)=Fy q level k++if IU (con q (k:Int)).kind<=level then [(k:Int)] else []:=by
 unfold Fy;rw [zM2,zMf,List.map_append]
 grind
def UI :(Fy q level k).length<=k:=by
 grind [Fy]
theorem LG {i:Int}:i∈Ae q level↔Up q level i:=by
 unfold Ae Fy Up;rw [zIS];constructor
 ·grind
 ·rintro ⟨h0,h1,h2⟩;refine ⟨i.toNat,?_,by omega⟩
  grind
def Iv (acc:Ξ)(k:Nat):RG:=if acc= [] then .l1 (k:Int) else .l2 acc.length (k:Int) acc
def sS (p:CK q=true)(hk:k<q.cons.length):ML q (k:Int)=(IU (con q (k:Int)).kind,0):=by
 unfold ML;rw [zGW (by rw [p];exact λh=>by cases h),zEd ⟨by omega,by omega⟩];rfl
def yI (R:DJ q)(p:CK q=true){n:Nat}(u:EG q<=n)(hk:k<q.cons.length):Iq q level (n+1) (Iv (Fy q level k) k)=Iq q level n (Iv (Fy q level (k+1)) (k+1)):=by
 have h4:=(DP p).2.2.2.2.1;have a:decide ((k:Int)<(q.cons.length:Int))=true:=zEI (by omega);have i:AG ((k:Int)+1):=Ah.2 ⟨by omega,by omega⟩;have ek:((k+1:Nat):Int)=(k:Int)+1:=by omega
 rw [yG]
 by_cases D:Fy q level k= []
 ·rw [D,zIs]
  show UK n (Iq q level n) q level (k:Int)=_
  unfold UK;rw [a,zFi,iF R u,zEf,sS p hk]
  show (bif decide (IU (con q (k:Int)).kind<=level) then _ else _)=_
  by_cases m:IU (con q (k:Int)).kind<=level
  ·simp_all [Ay,Iv]
  simp_all [zEl,Iv]
 ·have Aj:=UI (q:=q) (level:=level) (k:=k);have K:Iv (Fy q level k) k= .l2 (Fy q level k).length (k:Int) (Fy q level k):=by unfold Iv;rw [zGW D]
  rw [K]
  show Xx n (Iq q level n) q level (Fy q level k).length (k:Int) (Fy q level k)=_
  unfold Xx;rw [a,zFi,iF R u,zEf,sS p hk]
  show (bif decide (IU (con q (k:Int)).kind<=level) then _ else _)=_
  by_cases m:IU (con q (k:Int)).kind<=level
  ·rw [zEI m,zFi,zEd m,zEd ⟨⟨⟨rfl,rfl⟩,⟨rfl,rfl⟩,by unfold Ay;simp;omega⟩,i⟩]
   simp_all [Iv]
  simp_all [zEl,zGW,Iv]
def m7 (R:DJ q)(p:CK q=true):Ev (λn=>UL n q level) (Ae q level):=by
 obtain ⟨_,_,h⟩:=LI (m:=Iq q level) (S:=Unit) (λk _=>Iv (Fy q level k) k) (λ_ _=>True) q.cons.length (λk s hk _=>⟨(),trivial,AV.oneN (EG q) λn u=>yI R p u hk⟩) q.cons.length 0 () (by omega) trivial;have h0:Iv (Fy q level 0) 0= .l1 0:=rfl;simp only [h0] at h;refine h.ev (Ev.one λn=>?_);have a:decide ((q.cons.length:Int)<(q.cons.length:Int))=false:=zEl (by omega)
 show Iq q level (n+1) (Iv (Ae q level) q.cons.length)=some (Ae q level)
 by_cases D:Ae q level= []
 ·rw [D]
  show UK n (Iq q level n) q level (q.cons.length:Int)=_
  unfold UK;rw [a,zGK]
 simp_all [Iv,Xx,Iq]
end
structure QI (K:Nat)(ws:Ω)(Q:Ξ):Prop where
 len:ws.length=4096
 nd:Q.Nodup
 rng: ∀ i∈Q,0<=i/\ i<(K:Int)
 iff: ∀ i:Nat,i<4096 -> (ws.getD i false=true↔(i:Int)∈Q)
section
variable {K o n:Nat} {ws:Ω} {Q l qu:Ξ} {v:Int}
def QI.le (h:QI K ws Q):Q.length<=K:=SL K Q h.nd h.rng
def QI.push (h:QI K ws Q)(hK:K<=4096)(h0:0<=v)(h1:v<(K:Int))(S:ws.getD v.toNat false=false):QI K (ws.set v.toNat true) (Q++[v]):=by
 have hv:v∉Q:=λc=>by
  have e:((v.toNat:Nat):Int)=v:=by omega
  have:=(h.iff v.toNat (by omega)).2 (by rw [e];exact c);rw [S] at this;cases this
 refine ⟨by rw [zGj];exact h.len,zNd.2 ⟨h.nd,by simp,λa ha b hb=>by grind⟩,λi hi=>?_,λi hi=>?_⟩
 ·rcases zIQ.1 hi with hi | hi
  ·exact h.rng i hi
  grind
 ·rw [zIQ,zGu,←h.iff i hi,zGR,zJM,zGR];have hl:v.toNat<ws.length:=by rw [h.len];omega
  grind
def QI.pop (h:QI K ws (v::Q))(hK:K<=4096):QI K (ws.set v.toNat false) Q:=by
 obtain ⟨hv,x⟩:=zNr.1 h.nd;have hr:=h.rng v (by simp);refine ⟨by rw [zGj];exact h.len,x,λi hi=>h.rng i (by simp [hi]),λi hi=>?_⟩;have hl:v.toNat<ws.length:=by rw [h.len];omega
 rw [zGR,zJM]
 by_cases e:v.toNat=i
 ·grind
 ·rw [zGW e,←zGR,h.iff i hi,zIn]
  grind
structure MQ (K:Nat)(ws:Ω)(o n:Nat)(qu Q:Ξ):Prop where
 sum:o+n=qu.length
 eq:qu.drop o=Q
 qi:QI K ws Q
theorem MQ.cnt (h:MQ K ws o n qu Q):n=Q.length:=by rw [←h.eq,List.length_drop];have:=h.sum;omega
def zMV (f:K<=4096)(g: ∀ v∈l,0<=v/\ v<(K:Int))(M:l.length<=LB)(h:MQ K ws o n qu Q):
 ∃ p o' W G Q',Ev (λm=>Mt m l ws o n qu) (p,o',W,G)/\ MQ K p o' W G Q'/\ ∀ i,i∈Q'↔i∈Q∨i∈l:=by
 obtain ⟨⟨p,o',W,G,Q'⟩,⟨k,q⟩,r⟩:=LI (m:=Qv l ws o n qu) (S:=Ω×Nat×Nat×Ξ×Ξ) (λj s=>.l1 (j:Int) s.1 s.2.1 s.2.2.1 s.2.2.2.1) (λj s=>MQ K s.1 s.2.1 s.2.2.1 s.2.2.2.1 s.2.2.2.2/\ ∀ i,i∈s.2.2.2.2↔i∈Q∨i∈l.take j) l.length (λj s hj u=>by
  obtain ⟨c,o1,a,J,V⟩:=s;obtain ⟨X,E⟩:=u;have X:MQ K c o1 a J V:=X;have E: ∀ i,i∈V↔i∈Q∨i∈l.take j:=E;have d:decide ((j:Int)<(l.length:Int))=true:=zEI (by omega);have t:AG ((j:Int)+1):=Ah.2 ⟨by omega,by unfold LB at M;omega⟩;have B:((j+1:Nat):Int)=(j:Int)+1:=by omega
  have w:l.getD j 0∈l:=by grind
  obtain ⟨z,L⟩:=g _ w;have tA:l.take (j+1)=l.take j++[l.getD j 0]:=by simp_all
  have x:(0<=(j:Int)/\ (j:Int)<(l.length:Int))/\ (0<=l.getD ((j:Int)).toNat 0/\ l.getD ((j:Int)).toNat 0<((4096:Nat):Int))/\ 0+(l.getD ((j:Int)).toNat 0).toNat<c.length:=by
   rw [zCl,X.qi.len];omega
  cases b:c.getD (l.getD j 0).toNat false with
  | false=>
   have Bg:=X.qi.le;have hn:=X.cnt;refine ⟨(c.set (l.getD j 0).toNat true,0,a+1,V++[l.getD j 0],V++[l.getD j 0]),⟨⟨by simp;omega,rfl,X.qi.push f z L b⟩,λi=>?_⟩,AV.one λm=>?_⟩
   ·grind
   ·show Xe m (Qv l ws o n qu m) l ws o n qu (j:Int) c o1 a J=_
    unfold Xe;rw [d,zFi,zEd x,zCl,zG4,b,zI8,zFi,zEd ⟨X.sum,by unfold Ay;simp;omega,t⟩,X.eq,B];rfl
  | true=>
   refine ⟨(c,o1,a,J,V),⟨X,λi=>?_⟩,AV.one λm=>?_⟩
   ·show i∈V↔_
    have CT:l.getD j 0∈V:=by
     have e:(((l.getD j 0).toNat:Nat):Int)=l.getD j 0:=by omega
     have:=(X.qi.iff (l.getD j 0).toNat (by omega)).1 b;rw [e] at this;exact this
    grind
   simp_all [Xe,Qv]) l.length 0 (ws,o,n,qu,Q) (by omega) ⟨h,λi=>by simp⟩
 refine ⟨p,o',W,G,Q',r.ev (Ev.one λm=>?_),k,λi=>by have:=q i;simpa using this⟩;have d:decide ((l.length:Int)<(l.length:Int))=false:=zEl (by omega)
 simp_all [Xe,Qv]
def Jl (j:Nat)(s:Ω×Ξ):Tv:=if s.2= [] then .l1 (j:Int) else .l2 (j:Int) s.1 s.2.length s.2
def xM (g:K<=4096)(k: ∀ v∈l,0<=v/\ v<(K:Int))(M:l.length<=LB)(h:QI K ws []):
 ∃ p Q',Ev (λm=>Oe m l ws) (p,0,Q'.length,Q',decide (Q'= []))/\ QI K p Q'/\ ∀ i,i∈Q'↔i∈l:=by
 obtain ⟨⟨p,Q'⟩,⟨n,b,A⟩,o⟩:=LI (m:=Jc l ws) (S:=Ω×Ξ) (λj s=>Jl j s) (λj s=>QI K s.1 s.2/\ (∀ i,i∈s.2↔i∈l.take j)/\ (s.2= [] -> s.1=ws)) l.length (λj s hj u=>by
  obtain ⟨c,V⟩:=s;obtain ⟨X,E,Q⟩:=u;have X:QI K c V:=X;have E: ∀ i,i∈V↔i∈l.take j:=E;have Q:V= [] -> c=ws:=Q;have f:decide ((j:Int)<(l.length:Int))=true:=zEI (by omega);have q:AG ((j:Int)+1):=Ah.2 ⟨by omega,by unfold LB at M;omega⟩;have ej:((j+1:Nat):Int)=(j:Int)+1:=by omega
  have r:l.getD j 0∈l:=by grind
  obtain ⟨z,t⟩:=k _ r;have tA:l.take (j+1)=l.take j++[l.getD j 0]:=by simp_all
  have x:(0<=(j:Int)/\ (j:Int)<(l.length:Int))/\ (0<=l.getD ((j:Int)).toNat 0/\ l.getD ((j:Int)).toNat 0<((4096:Nat):Int))/\ 0+(l.getD ((j:Int)).toNat 0).toNat<c.length:=by
   rw [zCl,X.len];omega
  have Bg:=X.le;cases d:c.getD (l.getD j 0).toNat false with
  | false=>
   refine ⟨(c.set (l.getD j 0).toNat true,V++[l.getD j 0]),⟨X.push g z t d,λi=>?_,λe=>by simp at e⟩,AV.one λm=>?_⟩
   ·grind
   ·have y:Jl (j+1) (c.set (l.getD j 0).toNat true,V++[l.getD j 0])= .l2 ((j:Int)+1) (c.set (l.getD j 0).toNat true) (V.length+1) (V++[l.getD j 0]):=by
     simp_all [Jl]
    rw [y]
    by_cases L:V= []
    ·have w:Jl j (c,V)= .l1 (j:Int):=by unfold Jl;rw [zEd L]
     simp_all [mH,Jc,Ay]
    ·have w:Jl j (c,V)= .l2 (j:Int) c V.length V:=by unfold Jl;rw [zGW L]
     rw [w]
     show Xd m (Jc l ws m) l ws (j:Int) c V.length V=_
     unfold Xd;rw [f,zFi,zEd x,zCl,zG4,d,zI8,zFi,zEd ⟨by omega,by unfold Ay;simp;omega,q⟩];rfl
  | true=>
   have D:l.getD j 0∈V:=by
    have e:(((l.getD j 0).toNat:Nat):Int)=l.getD j 0:=by omega
    have:=(X.iff (l.getD j 0).toNat (by omega)).1 d;rw [e] at this;exact this
   have L:V≠[]:=λe=>by rw [e] at D;cases D
   refine ⟨(c,V),⟨X,λi=>?_,Q⟩,AV.one λm=>?_⟩
   ·grind
   simp_all [Jl,Xd,Jc]) l.length 0 (ws,[]) (by omega) ⟨h,λi=>by simp,λ_=>rfl⟩
 have b: ∀ i,i∈Q'↔i∈l:=λi=>by have:=b i;simpa using this
 have A:Q'= [] -> p=ws:=A;refine ⟨p,Q',?_,n,b⟩;have e0:Jc l ws=Jc l ws:=rfl;have f:decide ((l.length:Int)<(l.length:Int))=false:=zEl (by omega);refine AV.ev (a:=Jl 0 (ws,[])) o (Ev.one λm=>?_)
 by_cases L:Q'= []
 ·simp_all [Jl,mH,Jc]
 simp_all [Jl,Xd,Jc]
end
def IA (q:AA)(level:Int)(p g:Ξ):Prop:=(BH p=true/\ g=List.replicate p.length 0)∨(BH p=false/\ Dw q (Up q level) p g/\ Ii q (Up q level) g)
structure OF (q:AA)(level:Int)(f:Int -> Ξ)(T:Nat):Prop where
 snd: ∀ c i,i∈f c -> Up q level i
 len: ∀ c,(f c).length<=T
section
variable {q:AA} {level:Int} {p cells:Ξ} {f:Int -> Ξ}
variable {a:Nat}
def Xv (ha:a<(Ae q level).length):Up q level ((Ae q level).getD a 0):=by
 grind [LG,List.getElem_mem]
def zLA (p:CK q=true){i:Int}(h:Up q level i):(∀ x∈(con q i).cells,0<=x/\ x<q.cells)/\ (con q i).cells.length<=256:=by
 have v:con q i∈q.cons:=by
  have h0:=h.1;have a:=h.2.1
  grind [con]
 have M:=(DP p).2.2.2.2.2 _ v;unfold E6 at M;simp only [zFW] at M;obtain ⟨a,b,_⟩:=lS.1 M.1.1.1.1.1;have h3:=(DP p).1;refine ⟨a,?_⟩;have:=SL q.cells.toNat _ b λx d=>by have:=a x d;omega
 omega
def zEF (e:CK q=true)(D:a<(Ae q level).length){T:Nat}(hT:T<=2000000)(J:OF q level f T):
 ∃ V,AV (B5 q p cells level) (.l2 (Ae q level) ((Ae q level).getD a 0) (Ae q level) ((Ae q level).length:Int) (a:Int) (con q ((Ae q level).getD a 0)).cells ((con q ((Ae q level).getD a 0)).cells.length:Int) 0 f) (.l1 (Ae q level) (Ae q level) ((Ae q level).length:Int) ((a+1:Nat):Int) V)/\
  OF q level V (T+256)/\ (∀ c i,i∈f c -> i∈V c)/\ ∀ c∈(con q ((Ae q level).getD a 0)).cells,(Ae q level).getD a 0∈V c:=by
 have M:=Xv D;obtain ⟨k,v⟩:=zLA e M;have V5:(Ae q level).length<=4096:=zGU UI (DP e).2.2.2.2.1
 generalize (Ae q level).getD a 0=i at M k v ⊢
 generalize (con q i).cells=cs at k v ⊢
 obtain ⟨V,⟨n,s,t⟩,A⟩:=LI (m:=B5 q p cells level) (S:=Int -> Ξ) (λb f=>.l2 (Ae q level) i (Ae q level) ((Ae q level).length:Int) (a:Int) cs (cs.length:Int) (b:Int) f) (λb g=>OF q level g (T+b)/\ (∀ c i,i∈f c -> i∈g c)/\ ∀ c∈cs.take b,i∈g c) cs.length (λb g hb u=>by
  obtain ⟨d,hs,hd⟩:=u;have o:decide ((b:Int)<(cs.length:Int))=true:=zEI (by omega);have r:AG ((b:Int)+1):=Ah.2 ⟨by omega,by omega⟩;have w:((b+1:Nat):Int)=(b:Int)+1:=by omega
  have tA:cs.take (b+1)=cs.take b++[cs.getD b 0]:=by simp_all
  refine ⟨IE g (cs.getD b 0) (g (cs.getD b 0)++[i]),⟨⟨λc j hj=>?_,λc=>?_⟩,λc j hj=>?_,λc l=>?_⟩,AV.one λm=>?_⟩
  ·unfold IE at hj;split at hj
   ·rcases zIQ.1 hj with hj | hj
    ·exact d.snd _ _ hj
    grind
   ·exact d.snd _ _ hj
  ·unfold IE;split
   ·rw [zGi,zJA];have:=d.len (cs.getD b 0);omega
   ·have:=d.len c;omega
  ·grind [IE]
  ·grind [IE]
  ·show ZP m (B5 q p cells level m) q p cells level (Ae q level) i (Ae q level) ((Ae q level).length:Int) (a:Int) cs (cs.length:Int) (b:Int) g=_
   unfold ZP;rw [o,zFi,zCl,zEd ⟨by omega,by have:=d.len (cs.getD b 0);unfold Ay;rw [zJA];omega,r⟩,w]) cs.length 0 f (by omega) ⟨J,λc i h=>h,λc l=>by simp at l⟩
 refine ⟨V,A.trans (AV.one λm=>?_),⟨n.snd,λc=>zGU (n.len c) (by omega)⟩,s,λc l=>t c (by simpa using l)⟩;have o:decide ((cs.length:Int)<(cs.length:Int))=false:=zEl (by omega);have r:AG ((a:Int)+1):=Ah.2 ⟨by omega,by omega⟩
 simp_all [ZP,B5]
def zEG (j:CK q=true):
 ∃ V,AV (B5 q p cells level) (.l1 (Ae q level) (Ae q level) ((Ae q level).length:Int) 0 (λ_=>[])) (.l3 (Ae q level) 0 V (List.replicate 4096 false))/\ OF q level V 2000000/\ ∀ i,Up q level i -> ∀ c∈(con q i).cells,i∈V c:=by
 have V5:(Ae q level).length<=4096:=zGU UI (DP j).2.2.2.2.1
 obtain ⟨V,⟨k,h2⟩,l⟩:=LI (m:=B5 q p cells level) (S:=Int -> Ξ) (λa f=>.l1 (Ae q level) (Ae q level) ((Ae q level).length:Int) (a:Int) f) (λa g=>OF q level g (256*a)/\ ∀ b,b<a -> ∀ c∈(con q ((Ae q level).getD b 0)).cells,(Ae q level).getD b 0∈g c) (Ae q level).length (λa g D u=>by
  obtain ⟨n,hd⟩:=u;obtain ⟨o,w,z,e3,e4⟩:=zEF (p:=p) (cells:=cells) j D (by omega) n;have M:=Xv D;have d:decide ((a:Int)<((Ae q level).length:Int))=true:=zEI (by omega);refine ⟨o,⟨⟨z.snd,λc=>zGU (z.len c) (by omega)⟩,λb Y c r=>?_⟩,AV.trans (AV.one λm=>?_) w⟩
  ·grind
  ·show VU m (B5 q p cells level m) q p cells level (Ae q level) (Ae q level) ((Ae q level).length:Int) (a:Int) g=_
   unfold VU;rw [d,zFi,zCl,zEd ⟨by omega,M.1,M.2.1⟩];rfl) (Ae q level).length 0 (λ_=>[]) (by omega) ⟨⟨λc i h=>(by cases h),λc=>zGd 0⟩,λb Y=>absurd Y (zGa _)⟩
 refine ⟨V,l.trans (AV.one λm=>?_),⟨k.snd,λc=>zGU (k.len c) (by omega)⟩,λi hi c r=>?_⟩
 ·have d:decide (((Ae q level).length:Int)<((Ae q level).length:Int))=false:=zEl (by omega)
  show VU m (B5 q p cells level m) q p cells level (Ae q level) (Ae q level) ((Ae q level).length:Int) ((Ae q level).length:Int) V=_
  unfold VU;rw [d,zGK]
 ·obtain ⟨a,D,e⟩:=zG2 (LG.2 hi);have e':(Ae q level).getD a 0=i:=by grind
  grind
structure WQ (q:AA)(level:Int)(ws:Ω)(o n:Nat)(qu Q:Ξ):Prop where
 mq:MQ q.cons.length ws o n qu Q
 up: ∀ i∈Q,Up q level i
def oM (q:AA)(level:Int)(f:Int -> Ξ)(j:Nat)(s:Ω×Option (Nat×Nat×Ξ)):Jz:=match s.2 with
 | none=>.l3 (Ae q level) (j:Int) f s.1
 | some (o,n,a)=>.l4 (Ae q level) (j:Int) f s.1 o n a
def IC (q:AA)(level:Int)(s:Ω×Option (Nat×Nat×Ξ)):Prop:=match s.2 with
 | none=>QI q.cons.length s.1 []
 | some (o,n,a)=>∃ Q,WQ q level s.1 o n a Q
variable {l:Ξ}
def df (h: ∀ i∈l,Up q level i): ∀ i∈l,0<=i/\ i<(q.cons.length:Int):=λi hi=>⟨(h i hi).1,(h i hi).2.1⟩
theorem WQ.add (j:q.cons.length<=4096){a:Ω}{o n:Nat}{s Q:Ξ}(h:WQ q level a o n s Q)(b: ∀ i∈l,Up q level i)(M:l.length<=LB):
 ∃ p o' W G Q',Ev (λm=>Mt m l a o n s) (p,o',W,G)/\ WQ q level p o' W G Q'/\ ∀ i,i∈Q'↔i∈Q∨i∈l:=by
 obtain ⟨p,o',W,G,Q',d,e,c⟩:=zMV j (df b) M h.mq;exact ⟨p,o',W,G,Q',d,⟨e,λi hi=>((c i).1 hi).elim (h.up i) (b i)⟩,c⟩
def zLU (g:CK q=true)(k:cells.length<=LB)(J:OF q level f 2000000):
 ∃ c,IC q level c/\ AV (B5 q p cells level) (.l3 (Ae q level) 0 f (List.replicate 4096 false)) (oM q level f cells.length c):=by
 have e:=(DP g).2.2.2.2.1
 obtain ⟨c,l,x⟩:=LI (m:=B5 q p cells level) (S:=Ω×Option (Nat×Nat×Ξ)) (oM q level f) (λ_ s=>IC q level s) cells.length (λj s hj u=>by
  have AU:decide ((j:Int)<(cells.length:Int))=true:=zEI (by omega);have hr:AG ((j:Int)+1):=Ah.2 ⟨by omega,by unfold LB at k;omega⟩;have ej:((j+1:Nat):Int)=(j:Int)+1:=by omega
  have D:(f (cells.getD j 0)).length<=LB:=zGU (J.len _) (by decide);have r: ∀ i∈f (cells.getD j 0),Up q level i:=λi hi=>J.snd _ i hi
  obtain ⟨b,st⟩:=s;cases st with
  | none=>
   have u:QI q.cons.length b []:=u;obtain ⟨a,Q',⟨N,w⟩,z,y⟩:=xM e (df r) D u;have w: ∀ m,N<=m -> Oe m (f (cells.getD j 0)) b=some (a,0,Q'.length,Q',decide (Q'= [])):=w
   by_cases A:Q'= []
   ·refine ⟨(a,none),by rw [A] at z;exact z,AV.oneN N λm v=>?_⟩
    show L7 m (B5 q p cells level m) q p cells level (Ae q level) (j:Int) f b=B5 q p cells level m (.l3 (Ae q level) ((j+1:Nat):Int) f a)
    simp_all [L7]
   ·refine ⟨(a,some (0,Q'.length,Q')),⟨Q',⟨⟨by omega,rfl,z⟩,λi hi=>r i ((y i).1 hi)⟩⟩,AV.oneN N λm v=>?_⟩
    show L7 m (B5 q p cells level m) q p cells level (Ae q level) (j:Int) f b=B5 q p cells level m (.l4 (Ae q level) ((j+1:Nat):Int) f a 0 Q'.length Q')
    simp_all [L7]
  | some B=>
   obtain ⟨o,n,d⟩:=B;obtain ⟨Q,t⟩:=(u: ∃ Q,WQ q level b o n d Q);have t:WQ q level b o n d Q:=t;obtain ⟨a,o',W,G,Q',⟨N,w⟩,z,_⟩:=t.add e r D;have w: ∀ m,N<=m -> Mt m (f (cells.getD j 0)) b o n d=some (a,o',W,G):=w;refine ⟨(a,some (o',W,G)),⟨Q',z⟩,AV.oneN N λm v=>?_⟩
   show VT m (B5 q p cells level m) q p cells level (Ae q level) (j:Int) f b o n d=B5 q p cells level m (.l4 (Ae q level) ((j+1:Nat):Int) f a o' W G)
   simp_all [VT]) cells.length 0 (List.replicate 4096 false,none) (by omega) (by
  refine ⟨zIA,zNv,λi hi=>(by cases hi),λi hi=>⟨λh=>?_,λh=>(by cases h)⟩⟩
  grind)
 exact ⟨c,l,x⟩
def zLn (h:CK q=true)(l:cells.length<=LB):
 ∃ f,OF q level f 2000000/\ (∀ i,Up q level i -> ∀ c∈(con q i).cells,i∈f c)/\ ((AV (B5 q p cells level) (.l1 (Ae q level) (Ae q level) ((Ae q level).length:Int) 0 (λ_=>[])) (.l5 f (List.replicate 4096 false))∨
  (∃ a,AV (B5 q p cells level) (.l1 (Ae q level) (Ae q level) ((Ae q level).length:Int) 0 (λ_=>[])) (.l5 f a)))/\ (∀ i,¬ Up q level i)∨
  ∃ a o n s Q,WQ q level a o n s Q/\ (∀ i,Up q level i -> i∈Q)/\ AV (B5 q p cells level) (.l1 (Ae q level) (Ae q level) ((Ae q level).length:Int) 0 (λ_=>[])) (.l6 p f a o n s)):=by
 have j:=(DP h).2.2.2.2.1;obtain ⟨f,r,k,P⟩:=zEG (q:=q) (level:=level) (p:=p) (cells:=cells) h;obtain ⟨⟨a,st⟩,g,d⟩:=zLU (p:=p) h l k;have d:=r.trans d;have u:(Ae q level).length<=LB:=zGU UI (zGU j (by decide));have AU:decide ((cells.length:Int)<(cells.length:Int))=false:=zEl (by omega);refine ⟨f,k,P,?_⟩;cases st with
 | none=>
  have g:QI q.cons.length a []:=g;obtain ⟨b,Q',⟨N,w⟩,z,e⟩:=xM j (df λi hi=>LG.1 hi) u g;have w: ∀ m,N<=m -> Oe m (Ae q level) a=some (b,0,Q'.length,Q',decide (Q'= [])):=w
  by_cases x:Q'= []
  ·refine .inl ⟨.inr ⟨b,d.trans (AV.oneN N λm v=>?_)⟩,λi hi=>by have:=(e i).2 (LG.2 hi);rw [x] at this;cases this⟩
   show L7 m (B5 q p cells level m) q p cells level (Ae q level) (cells.length:Int) f a=_
   unfold L7
   grind
  ·refine .inr ⟨b,0,Q'.length,Q',Q',⟨⟨by omega,rfl,z⟩,λi hi=>LG.1 ((e i).1 hi)⟩,λi hi=>(e i).2 (LG.2 hi),d.trans (AV.oneN N λm v=>?_)⟩
   show L7 m (B5 q p cells level m) q p cells level (Ae q level) (cells.length:Int) f a=_
   unfold L7
   grind
 | some y=>
  obtain ⟨o,n,s⟩:=y;obtain ⟨Q,t⟩:=(g: ∃ Q,WQ q level a o n s Q);have t:WQ q level a o n s Q:=t;obtain ⟨b,o',W,G,Q',⟨N,w⟩,z,e⟩:=t.add j (λi hi=>LG.1 hi) u;have w: ∀ m,N<=m -> Mt m (Ae q level) a o n s=some (b,o',W,G):=w;refine .inr ⟨b,o',W,G,Q',z,λi hi=>(e i).2 (.inr (LG.2 hi)),d.trans (AV.oneN N λm v=>?_)⟩
  show VT m (B5 q p cells level m) q p cells level (Ae q level) (cells.length:Int) f a o n s=_
  unfold VT
  grind
end
section
variable {q:AA} {level:Int} {pos p x cells:Ξ} {f:Int -> Ξ}
def zLR (l:CK q=true)(j:OF q level f 2000000)(hl:x.length=p.length)(hp:p.length<=256){e:Ω}{o n:Nat}{g Q:Ξ}(h:WQ q level e o n g Q):
 ∃ a o' W G Q',WQ q level a o' W G Q'/\ (∀ i∈Q,i∈Q')/\ (∀ c,c<p.length -> x.getD c 0≠p.getD c 0 -> ∀ i∈f (c:Int),i∈Q')/\ ((∀ c,c<p.length -> x.getD c 0=p.getD c 0) -> Q'=Q)/\
  AV (B5 q pos cells level) (.l7 p x (x.length:Int) 0 f e o n g) (.l6 x f a o' W G):=by
 have u:=(DP l).2.2.2.2.1
 obtain ⟨⟨a,o',W,G,Q'⟩,⟨v,y,z,A⟩,B⟩:=LI (m:=B5 q pos cells level) (S:=Ω×Nat×Nat×Ξ×Ξ) (λc s=>.l7 p x (x.length:Int) (c:Int) f s.1 s.2.1 s.2.2.1 s.2.2.2.1)
  (λc s=>WQ q level s.1 s.2.1 s.2.2.1 s.2.2.2.1 s.2.2.2.2/\ (∀ i∈Q,i∈s.2.2.2.2)/\ (∀ U,U<c -> x.getD U 0≠p.getD U 0 -> ∀ i∈f (U:Int),i∈s.2.2.2.2)/\ ((∀ U,U<c -> x.getD U 0=p.getD U 0) -> s.2.2.2.2=Q)) p.length (λc s hc C=>by
  obtain ⟨b,o1,d,J,V⟩:=s;obtain ⟨t,k,r,I⟩:=C;have t:WQ q level b o1 d J V:=t;have k: ∀ i∈Q,i∈V:=k;have r: ∀ U,U<c -> x.getD U 0≠p.getD U 0 -> ∀ i∈f (U:Int),i∈V:=r;have I:(∀ U,U<c -> x.getD U 0=p.getD U 0) -> V=Q:=I;have D:decide ((c:Int)<(x.length:Int))=true:=zEI (by omega);have hr:AG ((c:Int)+1):=Ah.2 ⟨by omega,by omega⟩;have ec:((c+1:Nat):Int)=(c:Int)+1:=by omega
  by_cases E:x.getD c 0=p.getD c 0
  ·refine ⟨(b,o1,d,J,V),⟨t,k,λU X F=>?_,λh=>I λU X=>h U (by omega)⟩,AV.one λm=>?_⟩
   ·grind
   simp_all [VR,B5]
  ·have H: ∀ i∈f (c:Int),Up q level i:=λi hi=>j.snd _ i hi
   obtain ⟨a,o',W,G,Q',⟨N,w⟩,K,L⟩:=t.add u H (zGU (j.len _) (by decide));have w: ∀ m,N<=m -> Mt m (f (c:Int)) b o1 d J=some (a,o',W,G):=w;refine ⟨(a,o',W,G,Q'),⟨K,λi hi=>(L i).2 (.inl (k i hi)),λU X F i hi=>?_,λh=>absurd (h c (by omega)) E⟩,AV.oneN N λm hm=>?_⟩
   ·grind
   ·show VR m (B5 q pos cells level m) q pos cells level p x (x.length:Int) (c:Int) f b o1 d J=B5 q pos cells level m (.l7 p x (x.length:Int) ((c+1:Nat):Int) f a o' W G)
    unfold VR
    grind) p.length 0 (e,o,n,g,Q) (by omega) ⟨h,λi hi=>hi,λU X=>absurd X (zGa _),λ_=>rfl⟩
 refine ⟨a,o',W,G,Q',v,y,z,A,B.trans (AV.one λm=>?_)⟩;have D:decide ((p.length:Int)<(x.length:Int))=false:=zEl (by omega)
 simp_all [VR,B5]
structure mO (q:AA)(level:Int)(p0 p:Ξ)(Q:Ξ):Prop where
 pos:A5 q p
 down:Dw q (Up q level) p0 p
 zero:BH p=true -> p=List.replicate p.length 0
 fix: ∀ i,Up q level i -> i∉Q -> PR q (con q i) p p
def PR.other {i:Int}(h:PR q (con q i) p x)(r:BH x=false)(C:Br q i p){j:Nat}(c: ∀ k,k<(con q i).cells.length -> ((con q i).cells.getD k 0).toNat≠j):x.getD j 0=p.getD j 0:=by
 have b:Fi q (con q i) p:=Classical.byContradiction λb=>by
  have h0:=C.len256.1;have:=E8.1 r 0 (by rw [h.len];exact h0);rw [h.dead b,Q4] at this;exact this rfl
 by_cases V:j<p.length
 ·refine Km (h.live b j V).1 ((C.sm j V).in64 (by have:=C.work.k;omega)) λs _=>?_
  rw [zIt,(h.live b j V).2];exact ⟨λd=>d.1,λd=>⟨d,λ⟨a,D,e,_⟩=>c a D e⟩⟩
 ·rw [zGR,zGR,zJG (by rw [h.len];omega),zJG (by omega)]
def zFL {a b:Ξ}(hl:a.length=b.length)(h: ∀ c,c<b.length -> a.getD c 0=b.getD c 0):a=b:=by
 grind [List.ext_getElem]
def zI0 (hU: ∀ i,Up q level i -> ∀ c∈(con q i).cells,i∈f c){v:Int}{V Q':Ξ}(a:Up q level v)(h:mO q level pos p (v::V))(r:BH p=false)(d:PR q (con q v) p x)(hs: ∀ i∈V,i∈Q')(hc: ∀ c,c<p.length -> x.getD c 0≠p.getD c 0 -> ∀ i∈f (c:Int),i∈Q'):mO q level pos x Q':=by
 have H:A5 q x:=h.pos.pr a.1 a.2.1 d;have m:x.length=p.length:=d.len;refine ⟨H,h.down.trans (Dw.one a d),λO=>by rw [m];exact d.zero O,λi hi hn=>?_⟩
 by_cases Z:x=p
 ·subst Z
  by_cases e:i=v
  ·subst e;exact d
  ·refine h.fix i hi λb=>?_
   grind
 ·cases O:BH x with
  | true=>
   have:=d.zero O
   grind [qn]
  | false=>
   have R:=h.pos.ctx hi.1 hi.2.1
   have own: ∀ k,k<(con q i).cells.length -> x.getD ((con q i).cells.getD k 0).toNat 0=p.getD ((con q i).cells.getD k 0).toNat 0:=λk hk=>by
    refine Classical.byContradiction λD=>?_
    have hW:=R.work.cells k hk
    grind
   have D:i≠v:=by
    rintro rfl;refine Z (zFL m λc BT=>?_)
    by_cases g: ∃ k,k<(con q i).cells.length/\ ((con q i).cells.getD k 0).toNat=c
    ·grind
    ·exact d.other O R λk hk e=>g ⟨k,hk,e⟩
   have j:PR q (con q i) p p:=h.fix i hi λb=>by
    grind
   exact zFG R (H.ctx hi.1 hi.2.1) own r O j
def zEz (J:OF q level f 2000000)(l: ∀ i,Up q level i -> ∀ c∈(con q i).cells,i∈f c): ∀ (M:Nat) {p:Ξ} {a:Ω} {o n:Nat} {s Q:Ξ},wt p*(q.cons.length+1)+n<=M -> WQ q level a o n s Q -> mO q level pos p Q ->
 ∃ g,Ev (λm=>B5 q pos cells level m (.l6 p f a o n s)) g/\ Dw q (Up q level) pos g/\ Ii q (Up q level) g:=by
 intro M
 induction M with
 | zero=>
  intro p a o n s Q X t h;have u:n=0:=by omega
  subst u;have b:Q= []:=zJE t.mq.cnt.symm;subst b;exact ⟨p,Ev.one λm=>rfl,h.down,λi hi=>h.fix i hi (by simp)⟩
 | succ M y=>
  intro p a o n s Q X t h;have e:=h.pos.valid;have z:=(DP e).2.2.2.2.1;have E:=h.pos.len256.2
  by_cases u:n=0
  ·subst u;have b:Q= []:=zJE t.mq.cnt.symm;subst b;exact ⟨p,Ev.one λm=>rfl,h.down,λi hi=>h.fix i hi (by simp)⟩
  have A:(n==0)=false:=by simpa using u
  have S:decide ((n:Int)>0)=true:=zEI (by omega);have K: ∀ m,300<=m -> Gz m p=some (BH p):=λm j=>Nr (zGU E (by decide)) (by omega)
  cases r:BH p with
  | true=>
   have B:=h.zero r;refine ⟨p,Ev.oneN 300 λm j=>?_,h.down,?_⟩
   ·show VS m (B5 q pos cells level m) q pos cells level p f a o n s=some p
    unfold VS
    grind
   ·rw [B];exact ka h.pos.len256.1
  | false=>
   cases b:Q with
   | nil=>exact absurd (by rw [t.mq.cnt,b];rfl) u
   | cons v V=>
    subst b;have L:Up q level v:=t.up v (by simp);obtain ⟨x,⟨N,T⟩,d⟩:=qj (h.pos.ctx L.1 L.2.1);have T: ∀ m,N<=m -> PL m q v p=some (x,0):=T;have hsum:=t.mq.sum;have hdr:=t.mq.eq;have C:o<s.length:=by omega
    have U:s.getD (o+0) 0=v:=by
     rw [zNt,zGR,zGc C]
     grind [List.drop_eq_getElem_cons]
    have k:WQ q level (a.set v.toNat false) (o+1) (n-1) s V:=by
     refine ⟨⟨by omega,?_,t.mq.qi.pop z⟩,λi hi=>t.up i (by simp [hi])⟩
     grind [List.drop_eq_getElem_cons]
    obtain ⟨CJ,o',W,D1,Q',w,D,F,G,H⟩:=zLR (pos:=pos) (cells:=cells) e J d.len E k;have I:=zI0 l L h r d D F
    have step:AV (B5 q pos cells level) (.l6 p f a o n s) (.l7 p x (x.length:Int) 0 f (a.set v.toNat false) (o+1) (n-1) s):=AV.oneN (max N 300) λm j=>by
     show VS m (B5 q pos cells level m) q pos cells level p f a o n s=_
     unfold VS;rw [A,zGK,S,zFi,K m (by omega),zEf,r,zI8,zFi,U,zEd ⟨by omega,by omega,by omega,⟨L.1,by have:=L.2.1;omega⟩,by rw [t.mq.qi.len];have:=L.1;have:=L.2.1;omega⟩,T m (by omega),zEf,zG4];rfl
    have O:wt x*(q.cons.length+1)+W<=M:=by
     have QD:=w.mq.qi.le;have P:=w.mq.cnt
     by_cases Z:x=p
     ·have:Q'=V:=G λc _=>by rw [Z]
      rw [Z];have h2:=k.mq.cnt;rw [this] at P;omega
     ·have R:=UC I.pos h.pos d.le Z;have h3:(wt x+1)*(q.cons.length+1)<=wt p*(q.cons.length+1):=zJB _ R
      grind
    obtain ⟨g,Y,g2,g3⟩:=y O w I;exact ⟨g,(step.trans H).ev Y,g2,g3⟩
def zDO (b:A5 q pos)(j:cells.length<=LB): ∃ g,Ev (λn=>fu n q pos cells level) g/\ IA q level pos g:=by
 have E:=b.len256;have OI: ∀ m,300<=m -> Gz m pos=some (BH pos):=λm hm=>Nr (zGU E.2 (by decide)) (by omega)
 cases r:BH pos with
 | true=>
  refine ⟨List.replicate pos.length 0,⟨300,λn u=>?_⟩,.inl ⟨r,rfl⟩⟩
  show VV n (B5 q pos cells level n) q pos cells level=_
  unfold VV
  grind
 | false=>
  have H: ∃ g,Ev (λn=>B5 q pos cells level n (.l1 (Ae q level) (Ae q level) ((Ae q level).length:Int) 0 (λ_=>[]))) g/\ Dw q (Up q level) pos g/\ Ii q (Up q level) g:=by
   obtain ⟨f,e,s,P⟩:=zLn (q:=q) (level:=level) (p:=pos) (cells:=cells) b.valid j;rcases P with ⟨a,c⟩ | ⟨k,o,n,qu,Q,a,c,l⟩
   ·refine ⟨pos,?_,.refl pos,λi hi=>absurd hi (c i)⟩;rcases a with a | ⟨k,a⟩
    ·exact a.ev (Ev.one λm=>rfl)
    ·exact a.ev (Ev.one λm=>rfl)
   ·obtain ⟨g,w,z,t⟩:=zEz (pos:=pos) (cells:=cells) e s _ (zGd _) a (p:=pos) ⟨b,.refl pos,λh=>(by rw [r] at h;cases h),λi hi u=>absurd (c i hi) u⟩;exact ⟨g,l.ev w,z,t⟩
  obtain ⟨g,⟨N,a⟩,c⟩:=H;have a: ∀ n,N<=n -> B5 q pos cells level n (.l1 (Ae q level) (Ae q level) ((Ae q level).length:Int) 0 (λ_=>[]))=some g:=a;obtain ⟨x,d⟩:=m7 (level:=level) b.fit b.valid;have d: ∀ n,x<=n -> UL n q level=some (Ae q level):=d;refine ⟨g,⟨max (max N x) 300,λn u=>?_⟩,.inr ⟨r,c⟩⟩
  show VV n (B5 q pos cells level n) q pos cells level=_
  unfold VV
  grind
end
def zKD {a b:Ξ}{n:Nat}(hl:a.length<=LB)(u:a.length<n):Wu n a b=some (decide (a=b)):=by
 have hb:LB<=9223372036854775806:=by decide
 unfold Wu vC
 by_cases M:a.length=b.length
 ·have e:((a.length:Int) != (b.length:Int))=false:=by rw [M];simp
  rw [e,zGK]
  have key: ∀ (k i n:Nat),i+k=a.length -> k+1<=n -> TR a b n (.l1 (i:Int))=some (decide (a.drop i=b.drop i)):=by
   intro k
   induction k with
   | zero=>
    intro i n e u;obtain ⟨n,rfl⟩: ∃ k,n=k+1:=⟨n-1,by omega⟩
    simp_all [b9,TR]
   | succ k V=>
    intro i n e u;obtain ⟨n,rfl⟩: ∃ k,n=k+1:=⟨n-1,by omega⟩;have hi:i<a.length:=by omega
    have G:i<b.length:=by omega
    have d: ∀ {l:Ξ},i<l.length -> l.drop i=l.getD i 0::l.drop (i+1):=λ{l} h=>by
     simp_all
    have:=V (i+1) n (by omega) (by omega)
    show b9 n (TR a b n) a b (i:Int)=_
    unfold b9;rw [zEI (by omega),zFi,zEd ⟨⟨by omega,by omega⟩,by omega,by omega⟩,zCl,zEd (Ah.2 ⟨by omega,by omega⟩),d hi,d G]
    by_cases h:a.getD i 0=b.getD i 0
    ·have:(a.getD i 0 != b.getD i 0)=false:=by rw [h];simp
     rw [this,zGK];refine Eq.trans (by assumption) ?_;rw [h];simp
    ·have:(a.getD i 0 != b.getD i 0)=true:=by simpa using h
     rw [this,zFi,zEl λe=>h (List.cons.inj e).1]
  grind
 ·have e:((a.length:Int) != (b.length:Int))=true:=by simp;omega
  rw [e,zFi,zEl λh=>M (by rw [h])]
def Zt (q:AA)(cells:Ξ):Bool:=cells.any λc=>decide (c<0)||decide (c>=q.cells)
section
variable {q:AA} {level:Int} {pos p x cells:Ξ}
def rQ {n:Nat}{c:Int}:Zm n c q=some (decide (c<0)||decide (c>=q.cells)):=by
 grind [Zm,rP]
variable {l:Ξ}
def zKP {f:Int -> Bool}{j:Nat}(e:j<l.length):(l.drop j).any f=(f (l.getD j 0)||(l.drop (j+1)).any f):=by
 rw [zGr e,List.any_cons,zGR,zGc e];rfl
def rR (m:cells.length<=LB): ∀ (k j:Nat),j+k=cells.length -> ∃ r:Int,Ev (λn=>MR cells q n (.l1 (j:Int))) r/\ decide (r>=0)=(cells.drop j).any λc=>decide (c<0)||decide (c>=q.cells)
 | 0,j,e=>⟨-1,Ev.one λn=>by
  simp_all [SY,MR],by grind⟩
 | k+1,j,e=>by
  have a:j<cells.length:=by omega
  have p:decide ((j:Int)<(cells.length:Int))=true:=zEI (by omega);have i:AG ((j:Int)+1):=Ah.2 ⟨by omega,by unfold LB at m;omega⟩;rw [zKP a];cases x:decide (cells.getD j 0<0)||decide (cells.getD j 0>=q.cells) with
  | true=>
   refine ⟨(j:Int),Ev.one λn=>?_,by grind⟩
   show SY n (MR cells q n) cells q (j:Int)=_
   unfold SY;rw [p,zFi,zEd ⟨by omega,by omega⟩,zCl,rQ,zEf,x,zFi]
  | false=>
   obtain ⟨r,b,d⟩:=rR m k (j+1) (by omega);refine ⟨r,AV.ev (AV.one λn=>?_) b,by rw [zMa];exact d⟩
   show SY n (MR cells q n) cells q (j:Int)=_
   unfold SY;rw [p,zFi,zEd ⟨by omega,by omega⟩,zCl,rQ,zEf,x,zGK,zEd i,show ((j+1:Nat):Int)=(j:Int)+1 by omega]
def zKz (m:cells.length<=LB):Ev (λn=>cT n cells q) (Zt q cells):=by
 obtain ⟨r,⟨N,a⟩,b⟩:=rR (q:=q) m cells.length 0 (by omega);have a: ∀ n,N<=n -> MR cells q n (.l1 0)=some r:=a;refine ⟨N,λn u=>?_⟩
 show (MR cells q n (.l1 0)).bind (λj=>some (decide (j>=0)))=_
 rw [a n u,zEf,b];rfl
def ZX (R:DJ q)(m:pos.length<=LB):Ev (λn=>FX n q pos) (Dl q pos):=⟨EG q+pos.length+1,λn hn=>f7 R (by omega) m (by omega)⟩
def A5.of (R:DJ q)(h:Dl q pos=0):A5 q pos:=by
 unfold Dl at h
 by_cases p:CK q=true
 ·rw [zEd p] at h
  by_cases g:posOk q pos=true
  ·exact ⟨R,p,g⟩
  grind
 grind
def A5.check (h:A5 q pos):Dl q pos=0:=by
 unfold Dl;rw [zEd h.valid,zEd h.ok]
def xU (q:AA)(pos cells:Ξ)(level:Int)(r:Ξ×Int):Prop:= (Dl q pos≠0/\ r=([],Dl q pos))∨(Dl q pos=0/\ Zt q cells=true/\ r=([],1))∨(Dl q pos=0/\ Zt q cells=false/\ r.2=0/\ IA q level pos r.1)
def zMO (R:DJ q)(m:pos.length<=LB)(l:cells.length<=LB): ∃ r,Ev (λn=>dI n q pos cells level) r/\ xU q pos cells level r:=by
 have a:=ZX R m
 by_cases h0:Dl q pos=0
 ·have c:=A5.of R h0;have b:=zKz (q:=q) l;cases x:Zt q cells with
  | true=>
   rw [x] at b;refine ⟨([],1),?_,.inr (.inl ⟨h0,x,rfl⟩)⟩;rw [h0] at a;exact Ev.bind a (Ev.bind b (Ev.now λn=>rfl))
  | false=>
   rw [x] at b;rw [h0] at a;obtain ⟨g,o,s⟩:=zDO (level:=level) (cells:=cells) c l;exact ⟨(g,0),Ev.bind a (Ev.bind b (Ev.bind o (Ev.now λn=>rfl))),.inr (.inr ⟨h0,x,rfl,s⟩)⟩
 ·refine ⟨([],Dl q pos),Ev.bind a (Ev.now λn=>?_),.inl ⟨h0,rfl⟩⟩
  grind
def zMH (R:DJ q)(m:pos.length<=LB): ∃ r,Ev (λn=>Tu n q pos level) r/\ xU q pos [] level r:=by
 obtain ⟨r,a,b⟩:=zMO (level:=level) (cells:=[]) R m (by decide);exact ⟨r,Ev.bind a (Ev.now λn=>rfl),b⟩
inductive Gj (q:AA)(level:Int):Ξ -> Ξ -> Ξ -> Prop
 | done {p:Ξ}:Ii q (Up q level) p -> Gj q level p [] p
 | step {p x l g:Ξ} {i:Int}:Up q level i -> PR q (con q i) p x -> x≠p -> (∀ i',Up q level i' -> i'<i -> PR q (con q i') p p) -> Gj q level x l g -> Gj q level p (i::l) g
variable {g:Ξ}
theorem Gj.uniq {l' d:Ξ}(h:Gj q level p l g):Gj q level p l' d -> l=l'/\ g=d:=by
 induction h generalizing l' d with
 | done M=>
  intro h';cases h' with
  | done _=>exact ⟨rfl,rfl⟩
  | step hi a D _ _=>exact absurd ((M _ hi).uniq _ _ a) (λe=>D e.symm)
 | @step p x l g i hi a D hmin _ ih=>
  intro h';cases h' with
  | done M=>exact absurd (PR.uniq _ _ (M _ hi) a) (λe=>D e.symm)
  | @step _ x' l2 _ i' Bp JH hne' hmin' h2=>
   grind [PR.uniq]
def Gj.down (h:Gj q level p l g):Dw q (Up q level) p g/\ Ii q (Up q level) g:=by
 induction h with
 | done M=>exact ⟨.refl _,M⟩
 | step hi d _ _ _ V=>exact ⟨.step hi d V.1,V.2⟩
end
section
variable {q:AA} {level i:Int} {pos p x:Ξ}
theorem yE:(Ae q level).Pairwise (· < ·):=by
 grind [Ae,Fy,List.pairwise_lt_range]
theorem yF {b:Nat}(hb:b<(Ae q level).length)(hi:Up q level i)(AU:i<(Ae q level).getD b 0): ∃ a,a<b/\ (Ae q level).getD a 0=i:=by
 obtain ⟨a,ha,e⟩:=zG2 (LG.2 hi)
 grind [Nat.lt_or_eq_of_le,List.pairwise_iff_getElem,yE]
def zLQ (C:Br q i p): ∃ x,Ev (λn=>XN n i q p) (decide (x≠p),x)/\ PR q (con q i) p x:=by
 obtain ⟨x,d,c⟩:=qj C;refine ⟨x,Ev.bind d ?_,c⟩;have m:x.length<=LB:=by rw [c.len];exact zGU C.len256.2 (by decide)
 refine Ev.eq (Ev.bind (a:=λn=>Wu n x p) (x:=decide (x=p)) ⟨x.length+1,λn hn=>zKD m (by omega)⟩ (b:=λn G=>bif G then some (false,p) else some (true,x)) (Ev.now λn=>?_)) (λn=>rfl)
 grind
def su (g:A5 q p): ∀ (k a:Nat),a+k=(Ae q level).length -> (∀ c,c<a -> PR q (con q ((Ae q level).getD c 0)) p p) ->
 (Ev (λn=>MU (Ae q level) q p n (.l1 (a:Int) p)) (-1,p)/\ Ii q (Up q level) p)∨
 ∃ b x,Ev (λn=>MU (Ae q level) q p n (.l1 (a:Int) p)) ((b:Nat),x)/\ b<(Ae q level).length/\ PR q (con q ((Ae q level).getD b 0)) p x/\ x≠p/\ ∀ c,c<b -> PR q (con q ((Ae q level).getD c 0)) p p
 | 0,a,e,h=>by
  refine .inl ⟨Ev.one λn=>?_,λi hi=>?_⟩
  ·simp_all [SZ,MU]
  ·obtain ⟨c,D,e1⟩:=zG2 (LG.2 hi)
   grind
 | k+1,a,e,h=>by
  have D:a<(Ae q level).length:=by omega
  have M:=Xv D;have V5:(Ae q level).length<=4096:=zGU UI (DP g.valid).2.2.2.2.1;have AU:decide ((a:Int)<((Ae q level).length:Int))=true:=zEI (by omega);have hr:AG ((a:Int)+1):=Ah.2 ⟨by omega,by omega⟩;obtain ⟨x,⟨N,f⟩,j⟩:=zLQ (g.ctx M.1 M.2.1);have f: ∀ n,N<=n -> XN n ((Ae q level).getD a 0) q p=some (decide (x≠p),x):=f
  by_cases d:x=p
  ·have d:=d.symm;subst d
   have st:AV (MU (Ae q level) q p) (.l1 (a:Int) p) (.l1 ((a+1:Nat):Int) p):=AV.oneN N λn u=>by
    show SZ n (MU (Ae q level) q p n) (Ae q level) q p (a:Int) p=_
    unfold SZ
    grind
   rcases su g k (a+1) (by omega) (λc QW=>by
    grind) with ⟨o,s⟩ | ⟨b,y,o,s⟩
   ·exact .inl ⟨st.ev o,s⟩
   ·exact .inr ⟨b,y,st.ev o,s⟩
  ·refine .inr ⟨a,x,Ev.oneN N λn u=>?_,D,j,d,h⟩
   show SZ n (MU (Ae q level) q p n) (Ae q level) q p (a:Int) p=_
   unfold SZ
   grind
def zFy (g:A5 q p):(Ev (λn=>Pz n (Ae q level) q p) (-1,p)/\ Ii q (Up q level) p)∨
 ∃ b x,Ev (λn=>Pz n (Ae q level) q p) ((b:Nat),x)/\ b<(Ae q level).length/\ Up q level ((Ae q level).getD b 0)/\ PR q (con q ((Ae q level).getD b 0)) p x/\ x≠p/\ ∀ v,Up q level v -> v<(Ae q level).getD b 0 -> PR q (con q v) p p:=by
 rcases su (level:=level) g (Ae q level).length 0 (by omega) (λa' Y=>absurd Y (zGa _)) with ⟨o,s⟩ | ⟨b,x,o,s,P,c,g5⟩
 ·exact .inl ⟨o,s⟩
 ·refine .inr ⟨b,x,o,s,Xv s,P,c,λv Bp AU=>?_⟩
  grind [yF]
def mV (g:A5 q p):wt p<=16384:=by
 have:=g.len256.2
 grind [wt,List.length_range]
def Lw (q:AA)(level:Int)(p acc:Ξ):SI:=if acc= [] then .l1 (Ae q level) else .l2 acc.length (Ae q level) p acc
variable {acc:Ξ}
def YG (h:acc≠[]):Lw q level p acc= .l2 acc.length (Ae q level) p acc:=by unfold Lw;rw [zGW h]
def rW {M:Nat}{p:Ξ}(Z: ∀ {p' acc':Ξ},wt p'<M -> A5 q p' -> (BH p'=true -> p'=List.replicate p'.length 0) -> acc'.length+wt p'<=20000 -> (acc'= [] -> p'=pos) -> ∃ l g,Ev (λn=>IR q pos level n (Lw q level p' acc')) (acc'++l,0)/\ Gj q level p' l g) 
 (hM:wt p<=M) (a:A5 q p) (Fd:BH pos=false) (z:BH p=true -> p=List.replicate p.length 0) (hb:acc.length+wt p<=20000) (d:acc= [] -> p=pos):
 ∃ l g,Ev (λn=>IR q pos level n (Lw q level p acc)) (acc++l,0)/\ Gj q level p l g:=by
 have E:=a.len256;have f: ∀ m,300<=m -> Gz m p=some (BH p):=λm hm=>Nr (zGU E.2 (by decide)) (by omega)
 cases r:BH p with
 | true=>
  have D:acc≠[]:=λe=>by rw [d e,Fd] at r;cases r
  refine ⟨[],p,?_,.done (by rw [z r];exact ka E.1)⟩;rw [YG D,zI3];refine Ev.oneN 300 λn u=>?_
  show PT n (IR q pos level n) q pos level acc.length (Ae q level) p acc=_
  unfold PT
  grind
 | false=>
  rcases zFy (level:=level) a with ⟨⟨N,o⟩,s⟩ | ⟨b,x,⟨N,o⟩,s,P,c,H,j⟩
  ·have o: ∀ n,N<=n -> Pz n (Ae q level) q p=some (-1,p):=o;refine ⟨[],p,?_,.done s⟩;rw [zI3]
   by_cases D:acc= []
   ·have e:=d D;subst e;refine Ev.oneN (max N 300) λn u=>?_
    have K:Lw q level p acc= .l1 (Ae q level):=by unfold Lw;rw [zEd D]
    rw [K,D]
    show SH n (IR q p level n) q p level (Ae q level)=_
    unfold SH
    grind
   ·rw [YG D];refine Ev.oneN (max N 300) λn u=>?_
    show PT n (IR q pos level n) q pos level acc.length (Ae q level) p acc=_
    unfold PT
    grind
  ·have o: ∀ n,N<=n -> Pz n (Ae q level) q p=some ((b:Int),x):=o;have h:=a.pr P.1 P.2.1 c;have hw:=UC h a c.le H;have W:x.length=p.length:=c.len;have X:decide ((b:Int)<0)=false:=zEl (by omega);obtain ⟨l,g,i,k⟩:=Z (p':=x) (acc':=acc++[(Ae q level).getD b 0]) (by omega) h (λO=>by rw [W];exact c.zero O) (by grind) (λe=>by simp at e);rw [YG (by simp),zNf,List.singleton_append] at i;refine ⟨(Ae q level).getD b 0::l,g,AV.ev (AV.oneN (max N 300) λn u=>?_) i,.step P c H j k⟩
   by_cases D:acc= []
   ·have e:=d D;subst e;have K:Lw q level p acc= .l1 (Ae q level):=by unfold Lw;rw [zEd D]
    rw [K,D]
    show SH n (IR q p level n) q p level (Ae q level)=_
    unfold SH;rw [f n (by omega),zEf,r,zI8,zFi,o n (by omega),zEf]
    simp_all [decide,Ay]
   ·rw [YG D]
    show PT n (IR q pos level n) q pos level acc.length (Ae q level) p acc=_
    unfold PT;rw [f n (by omega),zEf,r,zI8,zFi,o n (by omega),zEf]
    show (bif decide ((b:Int)<0) then _ else _)=_
    rw [X,zGK,zEd ⟨⟨by omega,by omega⟩,⟨rfl,rfl⟩,⟨rfl,rfl⟩,by unfold Ay;rw [zJA];omega⟩,zCl,zGi]
def zD4: ∀ (M:Nat) {p acc:Ξ},wt p<=M -> A5 q p -> BH pos=false -> (BH p=true -> p=List.replicate p.length 0) -> acc.length+wt p<=20000 -> (acc= [] -> p=pos) ->
 ∃ l g,Ev (λn=>IR q pos level n (Lw q level p acc)) (acc++l,0)/\ Gj q level p l g:=by
 intro M
 induction M with
 | zero=>exact λ{p acc} X a Fd z c D=>rW (λ{p' acc'} h=>absurd h (by omega)) X a Fd z c D
 | succ M V=>exact λ{p acc} X a Fd z c D=>rW (λ{p' acc'} h S b e Y=>V (by omega) S Fd b e Y) X a Fd z c D
def Qz (q:AA)(pos:Ξ)(level:Int)(r:Ξ×Int):Prop:= (Dl q pos≠0/\ r=([],Dl q pos))∨(Dl q pos=0/\ BH pos=true/\ r=([],0))∨(Dl q pos=0/\ BH pos=false/\ r.2=0/\ r.1.length<=20000/\ ∃ g,Gj q level pos r.1 g)
def Gj.len (a:A5 q p){l g:Ξ}(h:Gj q level p l g):l.length+wt g<=wt p:=by
 induction h with
 | done _=>simp
 | step hi d D _ _ V=>
  have H:=a.pr hi.1 hi.2.1 d;have h1:=V H;have h2:=UC H a d.le D;rw [zIN];omega
def zD5 (R:DJ q)(e:pos.length<=LB): ∃ r,Ev (λn=>Zu n q pos level) r/\ Qz q pos level r:=by
 have b:=ZX R e
 by_cases h0:Dl q pos=0
 ·have a:=A5.of R h0;rw [h0] at b;have d:=m7 (level:=level) a.fit a.valid;cases c:BH pos with
  | true=>
   refine ⟨([],0),Ev.bind b (Ev.bind d ?_),.inr (.inl ⟨h0,c,rfl⟩)⟩;have E:=a.len256;have OI: ∀ m,300<=m -> Gz m pos=some (BH pos):=λm hm=>Nr (zGU E.2 (by decide)) (by omega)
   refine Ev.oneN 300 λn hn=>?_
   grind [SH,IR]
  | false=>
   obtain ⟨l,g,o,s⟩:=zD4 (q:=q) (level:=level) (pos:=pos) (wt pos) (acc:=[]) (zGd _) a c (λh=>by rw [c] at h;cases h) (by have:=mV a;simp;omega) (λ_=>rfl);exact ⟨(l,0),Ev.bind b (Ev.bind d o),.inr (.inr ⟨h0,c,rfl,by have:=s.len a;have:=mV a;simp only;omega,g,s⟩)⟩
 ·refine ⟨([],Dl q pos),Ev.bind b (Ev.now λn=>?_),.inl ⟨h0,rfl⟩⟩
  grind
end
abbrev zMs:=@Go.IntKind.wrap_u64
abbrev zNh:=@List.mem_range'_1
section
def Bv (x:Int)(i:Nat):Θ:=(List.range' i (16-i)).filter λs=>tb x s
variable {x:Int}
def eV {i:Nat}(h:i<16):Bv x i=if tb x i then i::Bv x (i+1) else Bv x (i+1):=by
 unfold Bv;rw [show 16-i=(16-(i+1))+1 by omega,zNm,zMq]
theorem Hd {s:Nat}:s∈Bv x 0↔s<16/\ tb x s=true:=by
 unfold Bv
 grind
def wM (a:Int):bits .and .u64 a 1=bits .and .i64 a 1:=by
 show IntKind.u64.wrap ((BitVec.ofInt 64 a&&& BitVec.ofInt 64 1).toNat:Int)=IntKind.i64.wrap ((BitVec.ofInt 64 a&&& BitVec.ofInt 64 1).toNat:Int)
 grind [IntKind.wrap_u64,IntKind.wrap_i64]
section
variable {x:Int}
def ov (h:Sm 16 x){i:Nat}(h0:x/2 ^ i=0):Bv x i= []:=by
 have p:x<2 ^ i:=by
  have g:(0:Int)<2 ^ i:=Int.pow_pos (by decide);have:=Int.mul_ediv_add_emod x (2 ^ i);have hm:=Int.emod_lt_of_pos x g
  grind
 unfold Bv;rw [zM0];intro s a b;rw [zNh] at a;have:tb x s=false:=Sm.hi (k:=i) ⟨h.1,p⟩ a.1;rw [this] at b;cases b
def mE (h:Sm 16 x): ∀ (k i:Nat),i+k=16 -> Ev (λn=>JZ x n (.l1 (i:Int))) ((Bv x i).map λ(s:Nat)=>(s:Int))
 | 0,i,e=>by
  have h0:x/2 ^ i=0:=by
   rw [show i=16 by omega];exact Int.ediv_eq_zero_of_lt h.1 h.2
  refine Ev.one λn=>?_
  show Od n (JZ x n) x (i:Int)=_
  unfold Od;rw [zEd ⟨by omega,by show (i:Int)<=((64:Nat):Int);omega⟩,zCl,h0,ov h h0];rfl
 | k+1,i,e=>by
  have V:=mE h k (i+1) (by omega);have a:AG ((i:Int)+1):=Ah.2 ⟨by omega,by omega⟩;have g:(0:Int)<=(i:Int)/\ (i:Int)<=(IntKind.u64.bits:Int):=⟨by omega,by show (i:Int)<=((64:Nat):Int);omega⟩
  by_cases h0:x/2 ^ i=0
  ·simp_all [Ev.one,Od,JZ,ov]
  ·have step: ∀ n,JZ x (n+1) (.l1 (i:Int))=bif tb x i then (JZ x n (.l1 ((i+1:Nat):Int))).map (λl=>(i:Int)::l) else JZ x n (.l1 ((i+1:Nat):Int)):=λn=>by
    show Od n (JZ x n) x (i:Int)=_
    unfold Od;rw [zEd g,zCl,zJN.2 h0,zFi,zEI (by omega),zFi,wM,Uj h (by decide) (by omega),zEd a,show ((i+1:Nat):Int)=(i:Int)+1 by omega]
    grind
   rw [eV (by omega)];obtain ⟨N,V⟩:=V;refine ⟨N+1,λn hn=>?_⟩;obtain ⟨n,rfl⟩: ∃ k,n=k+1:=⟨n-1,by omega⟩
   grind
def oh {n:Nat}: ∀ (l:Ξ) (k:Nat),k+l.length<=64 -> CO (YT n) l (.s0 (k:Int))=some (.s0 ((k+l.length:Nat):Int))
 | [],k,_=>rfl
 | a::l,k,h=>by
  rw [zIN] at h
  show (Uh n a (k:Int)).bind _=_
  unfold Uh;rw [zEd (Ah.2 ⟨by omega,by omega⟩),zEf,show (k:Int)+1=((k+1:Nat):Int) by omega,oh l (k+1) (by omega),zIN]
  congr 3
  omega
def eW:(Bv x 0).length<=16:=by
 grind [Bv]
def zAC (h:Sm 16 x):Ev (λn=>Ui n x) ((Bv x 0).length:Int):=by
 have e:IntKind.u64.wrap x=x:=by
  have h1:=h.1;have h2:x<65536:=h.2;rw [zMs];omega
 have hl:=eW (x:=x);refine Ev.eq (Ev.bind (mE h 16 0 (by omega)) (b:=λn j=>(CO (YT n) j (.s0 0)).bind λG=>match G with | .s0 y=>some y) (Ev.now λn=>?_)) λn=>?_
 ·have:=oh (n:=n) ((Bv x 0).map λ(s:Nat)=>(s:Int)) 0 (by rw [zGh];omega)
  grind
 ·show YS n x=_
  unfold YS;rw [e];rfl
end
end
section
variable {q:AA} {pos:Ξ}
def gQ (x:Int):BitVec.ofInt 64 (IntKind.u64.wrap x)=BitVec.ofInt 64 x:=by
 grind [BitVec.toNat_ofInt,IntKind.wrap_u64]
variable {s:Nat}
def yX (a:Int)(hs:s<63)(t:Nat):tb (IntKind.i64.wrap (bits .and .u64 (IntKind.u64.wrap a) (IntKind.u64.wrap (1*2 ^ s)))) t=(tb a t&&decide (s=t)):=by
 rw [dw]
 have e:tb (bits .and .u64 (IntKind.u64.wrap a) (IntKind.u64.wrap (1*2 ^ s))) t=(BitVec.ofInt 64 (IntKind.u64.wrap a)&&& BitVec.ofInt 64 (IntKind.u64.wrap (1*2 ^ s))).getLsbD t:=by
  show (BitVec.ofInt 64 (IntKind.u64.wrap ((BitVec.ofInt 64 (IntKind.u64.wrap a)&&& BitVec.ofInt 64 (IntKind.u64.wrap (1*2 ^ s))).toNat:Int))).getLsbD t=_
  rw [gQ,Z0]
 rw [e,gQ,gQ,BitVec.getLsbD_and];have b:=Ir (show s<64 by omega) t;rw [dw] at b;have b:(BitVec.ofInt 64 (1*2 ^ s)).getLsbD t=decide (s=t):=b;rw [b];rfl
def GK (y:Ξ)(j s:Nat):Ξ:=y.set j (IntKind.i64.wrap (bits .and .u64 (IntKind.u64.wrap (y.getD j 0)) (IntKind.u64.wrap (1*2 ^ s))))
def GL (y:Ξ)(j s:Nat):Ξ:=if BH (GK y j s) then List.replicate y.length 0 else GK y j s
variable {j:Nat}{y:Ξ}
def bg (p:CK q=true)(hy:posOk q y=true)(a:j<y.length)(hs:s<q.symbols.toNat):(GK y j s).length=y.length/\ ∀ l,l<y.length -> CB ((GK y j s).getD l 0)/\ ∀ t,tb ((GK y j s).getD l 0) t=(tb (y.getD l 0) t&&(!decide (l=j)||decide (t=s))):=by
 obtain ⟨h1,b⟩:=(I6 p).1 hy;obtain ⟨hc,aq,_⟩:=DP p;unfold GK;refine ⟨zGj,λl m=>?_⟩
 by_cases e:j=l
 ·subst e;rw [TF a];refine ⟨Q8 _,λt=>?_⟩;rw [yX _ (by omega),zEI rfl,zIF,zMa]
  grind
 ·rw [getD_set_ne e];refine ⟨(b l m).in64 (by omega),λt=>?_⟩
  grind
def mR (p:CK q=true)(hy:posOk q y=true):posOk q (List.replicate y.length 0)=true:=by
 obtain ⟨a,_⟩:=(I6 p).1 hy;refine (I6 p).2 ⟨by rw [zIA];exact a,λj hj=>?_⟩
 have:(List.replicate y.length (0:Int)).getD j 0=0:=by
  grind
 rw [this];exact ⟨zGv _,Int.pow_pos (by decide)⟩
def zJd (p:CK q=true)(hy:posOk q y=true)(e:j<y.length)(k:s<q.symbols.toNat):posOk q (GL y j s)=true:=by
 obtain ⟨a,b⟩:=(I6 p).1 hy;obtain ⟨hc,aq,_⟩:=DP p;obtain ⟨c,d⟩:=bg p hy e k;unfold GL;split
 ·exact mR p hy
 ·refine (I6 p).2 ⟨by rw [c];exact a,λl hl=>?_⟩;obtain ⟨w,z⟩:=d l (by omega);refine YR (by omega) w λt f _=>?_
  rw [z,(b l (by omega)).hi f];rfl
variable {n:Nat}
def zJi (R:DJ q)(p:CK q=true)(hy:posOk q y=true)(e:j<y.length)(hs:s<q.symbols.toNat)(u:EG q+300<=n):TL n q y j s=some (GL y j s,0):=by
 obtain ⟨h1,h2⟩:=(I6 p).1 hy;obtain ⟨hc,aq,_⟩:=DP p;have L:(1000000000000:Nat)=Ay:=rfl;have lb:(256:Nat)<=LB:=by decide
 have sy:((q.symbols.toNat:Nat):Int)=q.symbols:=by omega
 have Y:FX n q y=some 0:=by
  rw [f7 R (by omega) (by omega) (by omega)]
  simp_all [Dl]
 unfold TL kb cm lR;rw [Y,zEf];simp only [zIs,zG4,zCl,zM1];rw [zEl (by omega),zEl (by omega),zEl (by omega),zEl (by omega)];simp only [bne_self_eq_false,zGK];rw [zEd ⟨⟨trivial,⟨trivial,trivial⟩,by rw [←L];omega⟩,⟨by omega,by omega⟩,e⟩]
 have S:Zv n (IntKind.u64.wrap (y.getD j 0)) s=some (bits .and .u64 (IntKind.u64.wrap (y.getD j 0)) (IntKind.u64.wrap (1*2 ^ s))):=by
  unfold Zv rX;rw [zEd ⟨by omega,by show (s:Int)<=((64:Nat):Int);omega⟩,zCl]
 rw [S,zEf,zEd (by rw [zGj])]
 show ((SK n (GK y j s)).bind λy3=>some (y3,(0:Int))).bind _=_
 have Z:(GK y j s).length=y.length:=zGj;unfold GL
 generalize GK y j s=z at Z ⊢
 have u:SK n z=some (if BH z then List.replicate y.length 0 else z):=by
  unfold SK gX;rw [vZ (by omega) (by omega),zEf]
  grind
 rw [u];rfl
def EH:Ξ -> Option Ξ
 | []=>some []
 | x::l=>match Bv x 0 with
  | [s]=>(EH l).map λr=>(s:Int)::r
  | _=>none
def Ug: ∀ {p g:Ξ},EH p=some g -> g.length=p.length
 | [],g,h=>by cases h;rfl
 | x::p,g,h=>by
  unfold EH at h;split at h
  ·obtain ⟨r,i,rfl⟩:=zIY.1 h;rw [zIN,zIN,Ug i]
  ·cases h
variable {x10:Int}
def zx : ∀ (l:Θ),(∀ s∈l,s<16) -> Ch (Uc n pos x10) (l.map λ(s:Nat)=>(s:Int)) (.s0 0)=some (match l with | []=>(.s0 0,0) | [s]=>(.s1 1 1 [(s:Int)],0) | _=>(.s0 2,1))
 | [],_=>rfl
 | s::l,h=>by
  have hs:=h s (by simp)
  have w:Uc n pos x10 (s:Int) (.s0 0)=some (.s1 1 1 [(s:Int)],0):=by
   show Ua n pos x10 (s:Int) 0=_
   unfold Ua;rw [zEd (by decide),zEl (by omega),zGK,zEl (by omega),zGK,zEd ⟨⟨rfl,rfl⟩,by simp,by simp [Ay]⟩];rfl
  rw [zL1];simp only [Ch,w,zEf];cases l with
  | nil=>rfl
  | cons t l=>
   have e2:Uc n pos x10 (t:Int) (.s1 1 1 [(s:Int)])=some (.s0 2,1):=by
    show UZ n pos x10 (t:Int) 1 1 [(s:Int)]=_
    unfold UZ;rw [zEd (by decide),zEI (by omega),zFi];rfl
   grind [Ch]
def zw {m:Nat}{o:Ξ}(x:m=o.length)(hl:o.length<=300): ∀ (l:Θ),(∀ s∈l,s<16) -> Ch (Ub n pos x10) (l.map λ(s:Nat)=>(s:Int)) (.s0 m 0 o)=some (match l with | []=>(.s0 m 0 o,0) | [s]=>(.s0 (m+1) 1 (o++[(s:Int)]),0) | _=>(.s1 2,1))
 | [],_=>rfl
 | s::l,h=>by
  have hs:=h s (by simp);have L:(1000000000000:Nat)=Ay:=rfl
  have w:Ub n pos x10 (s:Int) (.s0 m 0 o)=some (.s0 (m+1) 1 (o++[(s:Int)]),0):=by
   show O8 n pos x10 (s:Int) m 0 o=_
   unfold O8;rw [zEd (by decide),zEl (by omega),zGK,zEl (by omega),zGK,zEd ⟨⟨rfl,rfl⟩,⟨rfl,x⟩,by rw [←L];simp;omega⟩,x];rfl
  rw [zL1];simp only [Ch,w,zEf];cases l with
  | nil=>rfl
  | cons t l=>
   have e2:Ub n pos x10 (t:Int) (.s0 (m+1) 1 (o++[(s:Int)]))=some (.s1 2,1):=by
    show O8 n pos x10 (t:Int) (m+1) 1 (o++[(s:Int)])=_
    unfold O8;rw [zEd (by decide),zEI (by omega),zFi];rfl
   grind [Ch]
def Jn (o:Ξ):Option Ξ -> Ξ×Bool
 | some r=>(o++r,true)
 | none=>([],false)
variable {x:Int}
def wz (h:Sm 16 x):Ev (λn=>Ms n (IntKind.u64.wrap x)) ((Bv x 0).map λ(s:Nat)=>(s:Int)):=by
 have e:IntKind.u64.wrap x=x:=by
  show x % 18446744073709551616=x
  have:=h.2;exact Int.emod_eq_of_lt h.1 (by omega)
 rw [e];exact mE h 16 0 (by omega)
def pC (h:s∈Bv x 0):s<16:=(Hd.1 h).1
def oX (b: ∀ j,j<pos.length -> Sm 16 (pos.getD j 0))(m:pos.length<=256): ∀ (k j:Nat) (o:Ξ),j+k=pos.length -> o.length<=256 -> o.length+k<=256 -> Ev (λn=>HM pos n (.l2 (j:Int) o.length o)) (Jn o (EH (pos.drop j)))
 | 0,j,o,e,x,_=>by
  simp_all [Ev.one,RV,HM,EH,Jn]
 | k+1,j,o,e,x,hk=>by
  have c:j<pos.length:=by omega
  have d:pos.drop j=pos.getD j 0::pos.drop (j+1):=by
   simp_all
  have C:=wz (b j c);have lb:AG ((j:Int)+1):=Ah.2 ⟨by omega,by omega⟩;have V:=λs:Nat=>oX b m k (j+1) (o++[(s:Int)]) (by omega) (by simp;omega) (by simp;omega)
  have start: ∀ n,HM pos (n+1) (.l2 (j:Int) o.length o)=RV n (HM pos n) pos (j:Int) o.length o:=λ_=>rfl
  obtain ⟨N,R⟩:=C;have R: ∀ n,N<=n -> Ms n (IntKind.u64.wrap (pos.getD j 0))=some ((Bv (pos.getD j 0) 0).map λ(s:Nat)=>(s:Int)):=R;have M:=λn=>zw (n:=n) (pos:=pos) (x10:=(j:Int)) (o:=o) rfl (by omega) (Bv (pos.getD j 0) 0) λs a=>pC a
  rw [d,EH];cases a:Bv (pos.getD j 0) 0 with
  | nil=>
   refine Ev.oneN N λn u=>?_
   rw [start];unfold RV;rw [zEI (by omega),zFi,zEd ⟨by omega,by omega⟩,zCl,R n u,zEf,M n,a];rfl
  | cons s l=>
   cases l with
   | nil=>
    have g:AV (HM pos) (.l2 (j:Int) o.length o) (.l2 ((j+1:Nat):Int) (o++[(s:Int)]).length (o++[(s:Int)])):=AV.oneN N λn u=>by
     simp_all [RV]
    have:=g.ev (V s);simp only;cases i:EH (pos.drop (j+1)) with
    | none=>rw [i] at this;exact this
    | some r=>grind [Jn]
   | cons t l=>
    refine Ev.oneN N λn u=>?_
    rw [start];unfold RV;rw [zEI (by omega),zFi,zEd ⟨by omega,by omega⟩,zCl,R n u,zEf,M n,a];rfl
def ze (b: ∀ j,j<pos.length -> Sm 16 (pos.getD j 0))(m:pos.length<=256):Ev (λn=>YJ n pos) (Jn [] (EH pos)):=by
 cases pos with
 | nil=>
  refine Ev.eq (g:=λn=>HM [] n (.l1 0)) (Ev.one λn=>?_) λn=>rfl
  show O7 n (HM [] n) [] 0=_
  unfold O7;rfl
 | cons x p=>
  have d:=b 0 (by simp);have d:Sm 16 x:=by simpa using d
  obtain ⟨N,R⟩:=wz d;have R: ∀ n,N<=n -> Ms n (IntKind.u64.wrap x)=some ((Bv x 0).map λ(s:Nat)=>(s:Int)):=R;have M:=λn=>zx (n:=n) (pos:=x::p) (x10:=0) (Bv x 0) λs k=>pC k
  refine Ev.eq (g:=λn=>HM (x::p) n (.l1 0)) ?_ λn=>rfl
  have start: ∀ n,HM (x::p) (n+1) (.l1 0)=O7 n (HM (x::p) n) (x::p) 0:=λ_=>rfl
  have G:decide ((0:Int)<(((x::p).length:Nat):Int))=true:=zEI (by simp);have a:(x::p).getD (0:Int).toNat 0=x:=rfl;rw [EH];cases k:Bv x 0 with
  | nil=>
   refine Ev.oneN N λn u=>?_
   rw [start];unfold O7;rw [G,zFi,zEd ⟨by omega,by simp⟩,a,R n u,zEf,M n,k];rfl
  | cons s l=>
   cases l with
   | nil=>
    have g:AV (HM (x::p)) (.l1 0) (.l2 ((1:Nat):Int) [(s:Int)].length [(s:Int)]):=AV.oneN N λn u=>by
     rw [start];unfold O7;rw [G,zFi,zEd ⟨by omega,by simp⟩,a,R n u,zEf,M n,k];simp only [zEf,zNk,zFi];rw [show ((1:Int)==0)=false from rfl,zGK,zEd (by decide)];rfl
    have:=g.ev (oX b m p.length 1 [(s:Int)] (by simp;omega) (by simp) (by simp at m ⊢;omega));simp only [List.drop_one,List.tail_cons] at this;simp only;cases i:EH p with
    | none=>rw [i] at this;exact this
    | some r=>grind [Jn]
   | cons t l=>
    refine Ev.oneN N λn u=>?_
    rw [start];unfold O7;rw [G,zFi,zEd ⟨by omega,by simp⟩,a,R n u,zEf,M n,k];rfl
end
section
variable {k:Nat}{x:Int}
theorem pA (h:Sm k x):Bv x k= []:=by
 unfold Bv;rw [zM0];intro s a;have:=zNh.1 a;rw [h.hi this.1];decide
def zAA (hk:k<=16)(h:Sm k x):Sm 16 x:=
 YR (by decide) (h.in64 (by omega)) λi hi _=>h.hi (by omega)
def eU {i:Nat}:(Bv x i).Nodup:=zNW zNO List.nodup_range'
def FV (p:Ξ)(k:Nat):Nat:=(Bv (p.getD k 0) 0).length
def DM (p:Ξ):Nat -> Nat×Nat
 | 0=>(0,0)
 | k+1=>if 1<FV p k/\ (DM p k=(0,0)∨FV p k<(DM p k).1) then (FV p k,k) else DM p k
def PM (i:Int):Bc:=((1,i),[])
inductive Sr (q:AA):Option (Nat×Θ) -> Ξ -> List Bc -> Prop
 | dead {p x o:Ξ}:Qz q p 4 (o,0) -> IA q 4 p x -> BH x=true -> Sr q none p (o.map PM++[((3,0),[])])
 | done {p x o g:Ξ}:Qz q p 4 (o,0) -> IA q 4 p x -> BH x=false -> EH x=some g -> Sr q none p (o.map PM++[((4,0),g)])
 | split {p x o:Ξ} {c:Nat} {l:List Bc}:Qz q p 4 (o,0) -> IA q 4 p x -> BH x=false -> EH x=none -> c=(DM x x.length).2 -> c<x.length -> 2<=FV x c -> Sr q (some (c,Bv (x.getD c 0) 0)) x l -> Sr q none p (o.map PM++((2,(c:Int)),[])::l)
 | nil {x:Ξ} {c:Nat}:Sr q (some (c,[])) x []
 | cons {x:Ξ} {c s:Nat} {ss:Θ} {a b:List Bc}:Sr q none (GL x c s) a -> Sr q (some (c,ss)) x b -> Sr q (some (c,s::ss)) x (a++b)
section
variable {q:AA} {p x pos0 o:Ξ} {c s:Nat}
def A5.sm16 (h:A5 q x)(j:Nat)(e:j<x.length):Sm 16 (x.getD j 0):=zAA h.k (h.sm j e)
theorem X6 (h:A5 q x){j:Nat}(e:j<x.length):0<FV x j↔x.getD j 0≠0:=by
 rw [Eu (h.in64 j),FV,List.length_pos_iff_exists_mem];constructor
 ·grind [Hd]
 ·rintro ⟨s,_,k⟩;refine ⟨s,Hd.2 ⟨zGk λz=>?_,k⟩⟩;rw [(h.sm16 j e).hi z] at k;cases k
def vt: ∀ k,(DM x k=(0,0)/\ ∀ j,j<k -> FV x j<=1)∨(2<=(DM x k).1/\ (DM x k).2<k/\ FV x (DM x k).2=(DM x k).1)
 | 0=>.inl ⟨rfl,λj e=>absurd e (zGa j)⟩
 | k+1=>by
  unfold DM;split
  ·grind
  ·rename_i h;rcases vt k with ⟨a,b⟩ | ⟨a,b,c⟩
   ·grind
   ·exact .inr ⟨a,by omega,c⟩
def oe: ∀ {l:Ξ},(∀ j,j<l.length -> FV l j=1) -> ∃ g,EH l=some g
 | [],_=>⟨[],rfl⟩
 | x::l,h=>by
  obtain ⟨g,hg⟩:=oe (l:=l) λj e=>h (j+1) (by simpa using e)
  have h0:=h 0 (by simp);have h0:(Bv x 0).length=1:=h0
  grind [List.length_eq_one_iff,EH]
def zLM (h:A5 q x)(hd:BH x=false)(k:EH x=none):DM x x.length≠(0,0)/\ (DM x x.length).2<x.length/\ 2<=FV x (DM x x.length).2:=by
 rcases vt (x:=x) x.length with ⟨_,b⟩ | ⟨h1,b,h3⟩
 ·obtain ⟨g,a⟩:=oe (l:=x) λj hj=>by
   grind [X6,E8]
  rw [a] at k;cases k
 grind
def vo (h:A5 q x): ∀ (k j:Nat),j+k=x.length -> (∀ i,i<j -> x.getD i 0≠0) -> Ev (λn=>OZ x n (.l1 (j:Int) ((DM x j).1:Int) ((DM x j).2:Int))) (if BH x then (0,false) else (((DM x x.length).2:Int),decide (DM x x.length≠(0,0))))
 | 0,j,e,z=>by
  have r:BH x=false:=E8.2 λi hi=>z i (by omega)
  refine Ev.one λn=>?_
  show Qj n (OZ x n) x (j:Int) _ _=_
  unfold Qj;have e:j=x.length:=by omega
  rw [zEl (by omega),zGK,r,zGW (by decide),e]
  generalize DM x x.length=b
  obtain ⟨b1,b2⟩:=b
  congr 2
  grind
 | k+1,j,e,z=>by
  have a:j<x.length:=by omega
  have EB:=h.len256;obtain ⟨N,R⟩:=zAC (h.sm16 j a);have R: ∀ n,N<=n -> Ui n (x.getD j 0)=some ((FV x j:Nat):Int):=R;have Wc:FV x j<=16:=eW
  by_cases h0:x.getD j 0=0
  ·have r:BH x=true:=by
    grind [E8]
   have c:FV x j=0:=Nat.eq_zero_of_not_pos λg=>(X6 h a).1 g h0
   refine Ev.oneN N λn u=>?_
   show Qj n (OZ x n) x (j:Int) _ _=_
   unfold Qj
   grind
  ·have V:=vo h k (j+1) (by omega) λi hi=>by
    grind
   have c:FV x j≠0:=λc=>by
    grind [X6]
   refine AV.ev (m:=OZ x) (AV.oneN N λn u=>?_) V
   show Qj n (OZ x n) x (j:Int) _ _=_
   unfold Qj;rw [zEI (by omega),zFi,zEd ⟨by omega,by omega⟩,zCl,R n u,zEf];rw [show (((FV x j:Nat):Int)==0)=false from zIC.2 (by omega),zGK];rw [show ((j+1:Nat):Int)=(j:Int)+1 by omega];simp only [zEd (show AG ((j:Int)+1) from Ah.2 ⟨by omega,by omega⟩)]
   have I:(((DM x j).1:Int)==0&&(((DM x j).2:Int)==0&&true))=decide (DM x j=(0,0)):=by
    grind
   rw [I,show DM x (j+1)=if 1<FV x j/\ (DM x j=(0,0)∨FV x j<(DM x j).1) then (FV x j,j) else DM x j from rfl]
   grind
def zLI (h:A5 q x):Ev (λn=>XM n x) (if BH x then (0,false) else (((DM x x.length).2:Int),decide (DM x x.length≠(0,0)))):=
 (vo h x.length 0 (by omega) λi hi=>absurd hi (zGa i)).eq λ_=>rfl
def um (h:A5 q x)(b:c<x.length)(k:s<q.symbols.toNat){l t:Nat}(a:tb ((GL x c s).getD l 0) t=true):tb (x.getD l 0) t=true/\ (l=c -> t=s):=by
 obtain ⟨z1,z2⟩:=bg h.valid h.ok b k;unfold GL at a;split at a
 ·grind [IG]
 grind
def A5.fx (h:A5 q x)(l:c<x.length)(k:s<q.symbols.toNat):A5 q (GL x c s):=⟨h.fit,h.valid,zJd h.valid h.ok l k⟩
def zJc (h:A5 q x)(d:c<x.length)(k:s<q.symbols.toNat)(g:2<=FV x c):wt (GL x c s)<wt x:=by
 refine UC (h.fx d k) h (λj t f=>(um h d k f).1) λe=>?_
 have all: ∀ t∈Bv (x.getD c 0) 0,t=s:=λt f=>by
  have:=(Hd.1 f).2;rw [←e] at this;exact (um h d k this).2 rfl
 have nd:=eU (x:=x.getD c 0) (i:=0);unfold FV at g
 generalize Bv (x.getD c 0) 0=l at*
 match l,g with
 | a::b::l,_=>
  simp_all
def oQ (h:A5 q x)(d:c<x.length)(V: ∀ s,s<q.symbols.toNat -> ∃ l,Sr q none (GL x c s) l/\ Ev (λn=>Df n (GL x c s) q pos0) l):
 ∀ (k j:Nat),j+k=q.symbols.toNat -> ∃ l,Sr q (some (c,Bv (x.getD c 0) j)) x l/\ ∃ N,∀ n m,N<=n -> N<=m -> Et (Df m) p q pos0 n (.l2 x (c:Int) (j:Int))=some l
 | 0,j,e=>by
  have f:=h.sm c d;have hk:=h.k;refine ⟨[],?_,1,λn m u _=>?_⟩
  ·rw [show j=q.symbols.toNat by omega,pA f];exact .nil
  ·obtain ⟨n,rfl⟩: ∃ k,n=k+1:=⟨n-1,by omega⟩
   show Ov n (Df m) (Et (Df m) p q pos0 n) p q pos0 x (c:Int) (j:Int)=_
   unfold Ov
   grind
 | k+1,j,e=>by
  have f:=h.sm c d;have hk:=h.k;obtain ⟨b,g,N,hN⟩:=oQ h d V k (j+1) (by omega)
  have step: ∀ n m,Et (Df m) p q pos0 (n+1) (.l2 x (c:Int) (j:Int))=bif !tb (x.getD c 0) j then Et (Df m) p q pos0 n (.l2 x (c:Int) ((j+1:Nat):Int)) else (TL n q x c j).bind λi=>wb (Df m i.1 q pos0) (Et (Df m) p q pos0 n (.l2 x (c:Int) ((j+1:Nat):Int))):=λn m=>by
   show Ov n (Df m) (Et (Df m) p q pos0 n) p q pos0 x (c:Int) (j:Int)=_
   unfold Ov;have o:AG ((j:Int)+1):=Ah.2 ⟨by omega,by omega⟩;rw [zEI (by omega),zFi,zEd ⟨⟨by omega,by omega⟩,by omega,by show (j:Int)<=((64:Nat):Int);omega⟩,zCl,zCl,zAK f (by omega) (by omega)];simp only [zEd o];rfl
  rw [eV (show j<16 by omega)];cases r:tb (x.getD c 0) j with
  | false=>
   rw [zGW (by decide)];refine ⟨b,g,N+1,λn m u v=>?_⟩;obtain ⟨n,rfl⟩: ∃ k,n=k+1:=⟨n-1,by omega⟩
   grind
  | true=>
   rw [zEd rfl];obtain ⟨a,D,M,X⟩:=V j (by omega);have X: ∀ n,M<=n -> Df n (GL x c j,(0:Int)).1 q pos0=some a:=X;refine ⟨a++b,.cons D g,N+M+EG q+301,λn m u v=>?_⟩;obtain ⟨n,rfl⟩: ∃ k,n=k+1:=⟨n-1,by omega⟩;rw [step,r,zJi h.fit h.valid h.ok d (by omega) (show EG q+300<=n by omega)]
   grind [wb]
def us {t:List Bc}(x:o.length<=20000)(h: ∃ N,∀ n m,N<=n -> N<=m -> Et (Df m) p q pos0 n (.l1 o (o.length:Int) (o.length:Int))=some t):
 ∀ (k j:Nat),j+k=o.length -> ∃ N,∀ n m,N<=n -> N<=m -> Et (Df m) p q pos0 n (.l1 o (o.length:Int) (j:Int))=some ((o.drop j).map PM++t)
 | 0,j,e=>by
  simp_all
 | k+1,j,e=>by
  obtain ⟨N,R⟩:=us x h k (j+1) (by omega);refine ⟨N+1,λn m hn hm=>?_⟩;obtain ⟨n,rfl⟩: ∃ k,n=k+1:=⟨n-1,by omega⟩;have a:j<o.length:=by omega
  show Ow n (Df m) (Et (Df m) p q pos0 n) p q pos0 o (o.length:Int) (j:Int)=_
  unfold Ow;rw [zEI (by omega),zFi,zEd ⟨by omega,by omega⟩,zEd (Ah.2 ⟨by omega,by omega⟩),zCl,show (j:Int)+1=((j+1:Nat):Int) by omega,R n m (by omega) (by omega),zGr a];have:o.getD j 0=o[j]:=by simp [a]
  rw [this];rfl
variable {level:Int}
def Qz.zero (g:A5 q p){r:Ξ×Int}(h:Qz q p level r):r.2=0/\ r.1.length<=20000:=by
 rcases h with ⟨b,_⟩ | ⟨_,_,a⟩ | ⟨_,_,a,A,_⟩
 ·exact absurd g.check b
 ·rw [a];exact ⟨rfl,by decide⟩
 ·exact ⟨a,A⟩
def IA.posn (g:A5 q p)(h:IA q level p x):A5 q x/\ Le x p/\ wt x<=wt p:=by
 have key:A5 q x/\ Le x p:=by
  rcases h with ⟨_,rfl⟩ | ⟨_,a,_⟩
  ·exact ⟨⟨g.fit,g.valid,mR g.valid g.ok⟩,λj s hs=>by
    grind [IG]⟩
  ·exact ⟨a.pos dh g,a.le⟩
 refine ⟨key.1,key.2,?_⟩
 by_cases e:x=p
 ·rw [e];exact zGd _
 ·have:=UC key.1 g key.2 e;omega
def zMG (g:A5 q p): ∃ x,Ev (λn=>Tu n q p level) (x,0)/\ IA q level p x:=by
 obtain ⟨⟨x,e⟩,h1,b⟩:=zMH (level:=level) g.fit (zGU g.len256.2 (by decide));rcases b with ⟨h,_⟩ | ⟨_,h,_⟩ | ⟨_,_,h,h4⟩
 ·exact absurd g.check h
 ·cases h
 grind
def xw: ∀ (M:Nat) {p:Ξ},wt p<=M -> A5 q p -> ∃ l,Sr q none p l/\ Ev (λn=>Df n p q pos0) l:=by
 intro M
 induction M using Nat.strongRecOn with
 | ind M V=>
  intro p hM b;obtain ⟨⟨o,e⟩,o1,F⟩:=zD5 (level:=4) b.fit (zGU b.len256.2 (by decide));obtain ⟨I,f⟩:=F.zero b;have I:e=0:=I;subst I;have f:o.length<=20000:=f;obtain ⟨x,U,c⟩:=zMG (level:=4) b;obtain ⟨d,P5,hxw⟩:=c.posn b;obtain ⟨A,U⟩:=U;have E:=d.len256;have K: ∀ m,300<=m -> Gz m (x,(0:Int)).1=some (BH x):=λm v=>Nr (zGU E.2 (by decide)) (by show x.length<m;omega)
  obtain ⟨S,h⟩:=ze (pos:=x) d.sm16 E.2;have h: ∀ n,S<=n -> YJ n (x,(0:Int)).1=some (Jn [] (EH x)):=h;obtain ⟨C,w⟩:=zLI d;have w: ∀ n,C<=n -> XM n (x,(0:Int)).1=_:=w
  have key: ∃ t,Sr q none p (o.map PM++t)/\ ∃ N,∀ n m,N<=n -> N<=m -> Et (Df m) p q pos0 n (.l1 o (o.length:Int) (o.length:Int))=some t:=by
   have step: ∀ n m,A+300+S+C<=n -> Et (Df m) p q pos0 (n+1) (.l1 o (o.length:Int) (o.length:Int))=bif BH x then some [((3,0),[])] else bif (Jn [] (EH x)).2 then some [((4,0),(Jn [] (EH x)).1)] else wx ((2,((DM x x.length).2:Int)),[]) (Et (Df m) p q pos0 n (.l2 x ((DM x x.length).2:Int) 0)):=λn m u=>by
    show Ow n (Df m) (Et (Df m) p q pos0 n) p q pos0 o (o.length:Int) (o.length:Int)=_
    unfold Ow;rw [zEl (by omega),zGK,show Tu n q p 4=some (x,0) from U n (by omega),zEf,K n (by omega),zEf];cases r:BH x with
    | true=>rfl
    | false=>
     rw [zGK,zGK,h n (by omega),zEf];cases a:(Jn [] (EH x)).2 with
     | true=>rfl
     | false=>
      grind
   cases r:BH x with
   | true=>
    refine ⟨_,.dead F c r,A+300+S+C+1,λn m u _=>?_⟩;obtain ⟨n,rfl⟩: ∃ k,n=k+1:=⟨n-1,by omega⟩;rw [step n m (by omega),r];rfl
   | false=>
    cases a:EH x with
    | some g=>
     refine ⟨_,.done F c r a,A+300+S+C+1,λn m u _=>?_⟩;obtain ⟨n,rfl⟩: ∃ k,n=k+1:=⟨n-1,by omega⟩
     grind [Jn]
    | none=>
     obtain ⟨_,Y,i⟩:=zLM d r a;have j:=λs (a:s<q.symbols.toNat)=>V (wt (GL x (DM x x.length).2 s)) (by have:=zJc d Y a i;omega) (zGd _) (d.fx Y a)
     obtain ⟨l,y,N,z⟩:=oQ (p:=p) (pos0:=pos0) d Y j q.symbols.toNat 0 (by omega);refine ⟨_,.split F c r a rfl Y i y,A+300+S+C+N+1,λn m u v=>?_⟩;obtain ⟨n,rfl⟩: ∃ k,n=k+1:=⟨n-1,by omega⟩;rw [step n m (by omega),r,a];have:=z n m (by omega) (by omega)
     simp_all [Jn,wx]
  obtain ⟨t,B,W⟩:=key;obtain ⟨N,hN⟩:=us f W o.length 0 (by omega);obtain ⟨O,o1⟩:=o1;refine ⟨_,B,N+O+1,λn u=>?_⟩;obtain ⟨n,rfl⟩: ∃ k,n=k+1:=⟨n-1,by omega⟩
  show (Zu n q p 4).bind _=_
  grind
def zES (g:A5 q p): ∃ l,Sr q none p l/\ Ev (λn=>J4 n q p) l:=by
 obtain ⟨l,a,N,b⟩:=xw (pos0:=p) (wt p) (zGd _) g;refine ⟨l,a,N,λn u=>?_⟩
 show wb (Df n p q p) (some [])=_
 rw [show Df n p q p=some l from b n u]
 show some (l++[])=_
 rw [zI3]
end
end
abbrev HR:=List Ξ×List (Δ)×Bool
def Fa (most:Int):List Bc -> List Ξ -> List (Δ) -> HR
 | [],gs,t=>(gs,t,false)
 | x::l,gs,t=>if x.1.1=4 then (if ((gs++[x.2]).length:Int)=most then (gs++[x.2],t++[x.1],true) else Fa most l (gs++[x.2]) (t++[x.1])) else Fa most l gs (t++[x.1])
def hst (fuel:Int)(f:Nat)(gs:List Ξ)(t:List (Δ)):HP:=if gs= [] then (if t= [] then .s0 else .s1 (f:Int) t.length t) else .s2 (f:Int) gs.length t.length false gs t
def ap {most:Int}: ∀ (l:List Bc) (gs:List Ξ) (t:List (Δ)),t.length<=(Fa most l gs t).2.1.length/\ (l≠[] -> t.length<(Fa most l gs t).2.1.length)
 | [],gs,t=>⟨zGd _,λh=>absurd rfl h⟩
 | x::l,gs,t=>by
  have h1:=(ap (most:=most) l (gs++[x.2]) (t++[x.1])).1;have h2:=(ap (most:=most) l gs (t++[x.1])).1
  grind [Fa]
section
variable {n:Nat} {most fuel:Int} {f:Nat} {gs:List Ξ} {t:List (Δ)} {x:Bc}
def stp (fuel most:Int)(x:Bc)(gs:List Ξ)(t:List (Δ)):Nat -> HP×Nat
 | 0=>(hst fuel 0 gs t,2)
 | f+1=>if x.1.1=4 then (if ((gs++[x.2]).length:Int)=most then (.s2 (f:Int) (gs++[x.2]).length (t++[x.1]).length true (gs++[x.2]) (t++[x.1]),1) else (hst fuel f (gs++[x.2]) (t++[x.1]),0)) else (hst fuel f gs (t++[x.1]),0)
def oG:stp fuel most x gs t (f+1)=if x.1.1=4 then (if ((gs++[x.2]).length:Int)=most then (.s2 (f:Int) (gs++[x.2]).length (t++[x.1]).length true (gs++[x.2]) (t++[x.1]),1) else (hst fuel f (gs++[x.2]) (t++[x.1]),0)) else (hst fuel f gs (t++[x.1]),0):=rfl
def zCC:I2 n most fuel x .s0=fO n most fuel x:=rfl
variable {b:Nat}{a:Int}
def zCB {c:List (Δ)}:I2 n most fuel x (.s1 a b c)=fN n most fuel x a b c:=rfl
def zCA {c:Nat}{d:Bool}{u:List Ξ}{v:List (Δ)}:I2 n most fuel x (.s2 a b c d u v)=fM n most fuel x a b c d u v:=rfl
theorem tF:hst fuel f [] []= .s0:=rfl
def i7 (h:t≠[]):hst fuel f [] t= .s1 (f:Int) t.length t:=by unfold hst;rw [zEd rfl,zGW h]
def av (h:gs≠[]):hst fuel f gs t= .s2 (f:Int) gs.length t.length false gs t:=by unfold hst;rw [zGW h]
def zBz (hf:f<=16777216)(ht:t.length<=16777216)(hg:gs.length<=t.length)(h0:t= [] -> (f:Int)=fuel):I2 n most fuel x (hst fuel f gs t)=some (stp fuel most x gs t f):=by
 have L:(1000000000000:Nat)=Ay:=rfl
 have b4: ∀ {α:Type} (a b:α),(bif (x.1.1 != 4) then a else b)=if x.1.1=4 then b else a:=λa b=>by
  grind
 have b5: ∀ {α:Type} (k:Int) (a b:α),(bif (k==most) then a else b)=if k=most then a else b:=λk a b=>by
  grind
 have m:t++[x.1]≠[]:=by simp
 have c:gs++[x.2]≠[]:=by simp
 cases f with
 | zero=>
  show _=some (hst fuel 0 gs t,2)
  by_cases Z:gs= []
  ·subst Z
   by_cases u:t= []
   ·subst u;have r:=h0 rfl;subst r;rfl
   ·rw [i7 u];rfl
  ·rw [av Z];rfl
 | succ f=>
  have r1:AG (((f+1:Nat):Int)-1):=Ah.2 ⟨by omega,by omega⟩;have r2:((f+1:Nat):Int)-1=(f:Int):=by omega
  have b1:(((f+1:Nat):Int)==0)=false:=zIC.2 (by omega);rw [oG,av (f:=f) c]
  by_cases Z:gs= []
  ·subst Z;rw [i7 (f:=f) m]
   by_cases u:t= []
   ·subst u;have r:=h0 rfl;subst r;rw [tF,zCC];unfold fO
    grind
   ·rw [i7 u];rw [zCB];unfold fN
    grind
  ·rw [av Z,av Z];rw [zCA];unfold fM
   grind
theorem pa: ∀ (l:List Bc) {f:Nat} {gs:List Ξ} {t:List (Δ)},f<=16777216 -> t.length+f<=16777216 -> gs.length<=t.length -> (t= [] -> (f:Int)=fuel) ->
 (Ch (I2 n most fuel) l (hst fuel f gs t)).bind PD=some (if (Fa most l gs t).2.1.length<=t.length+f then some (Fa most l gs t) else none)
 | [],f,gs,t,M,b,j,h0=>by
  show PD (hst fuel f gs t,0)=_
  rw [show Fa most [] gs t=(gs,t,false) from rfl,zEd (by simp)]
  grind [hst,PD,fL]
 | x::l,f,gs,t,M,b,j,h0=>by
  have m:=ap (most:=most) (x::l) gs t;rw [show Ch (I2 n most fuel) (x::l) (hst fuel f gs t)=(I2 n most fuel x (hst fuel f gs t)).bind λr=>bif r.2==0 then Ch (I2 n most fuel) l r.1 else some r from rfl,zBz M (by omega) j h0,zEf];cases f with
  | zero=>
   have:=m.2 (by simp);rw [zGW (by omega)];rfl
  | succ f=>
   have V:=λ(y:List Ξ) (hg':y.length<=t.length+1)=>pa l (f:=f) (gs:=y) (t:=t++[x.1]) (by omega) (by grind) (by grind) λh=>by simp at h
   have e:(t++[x.1]).length+f=t.length+(f+1):=by grind
   rw [e] at V;rw [oG]
   by_cases A:x.1.1=4
   ·rw [zEd A]
    by_cases h5:((gs++[x.2]).length:Int)=most
    ·simp_all [Fa,PD,fL]
    simp_all [Fa]
   ·rw [zGW A];have k:Fa most (x::l) gs t=Fa most l gs (t++[x.1]):=by rw [Fa,zGW A]
    rw [k];exact V _ (by omega)
def ME (most:Int)(l:List Bc)(f:Nat):Option HR:=if (Fa most l [] []).2.1.length<=f then some (Fa most l [] []) else none
theorem pd {q:AA}{p:Ξ}{l:List Bc}(h:Ev (λn=>J4 n q p) l){f:Nat}(M:f<=16777216):Ev (λn=>Ku n q p most (f:Int)) (ME most l f):=by
 obtain ⟨N,R⟩:=h;refine ⟨N,λn u=>?_⟩
 show (J4 n q p).bind _=_
 rw [show J4 n q p=some l from R n u,zEf];have:=pa (n:=n) (most:=most) (fuel:=(f:Int)) l (f:=f) (gs:=[]) (t:=[]) M (by simpa using M) (by simp) (λ_=>rfl)
 grind [tF,ME]
variable {l:List Bc}{p:Ξ}{q:AA}
def zJv (g:A5 q p)(h:Ev (λn=>J4 n q p) l){f:Nat}(hf:f<=65536):Ev (λn=>Lf n q p (f:Int)) (match ME 2 l f with | none=>([],[],220) | some r=>(r.1,if r.2.2 then [] else r.2.1,0)):=by
 obtain ⟨M,X⟩:=ZX g.fit (zGU g.len256.2 (by decide));obtain ⟨N,R⟩:=pd (most:=2) h (f:=f) (by omega);rw [g.check] at X;refine ⟨max M N,λn hn=>?_⟩
 show (FX n q p).bind _=_
 rw [show FX n q p=some 0 from X n (by omega),zEf]
 show (bif decide ((f:Int)<0) then _ else _)=_
 rw [zEl (by omega),zGK,zEl (by omega),zGK,zGW (by omega),show Ku n q p 2 (f:Int)=_ from R n (by omega)];cases ME 2 l f with
 | none=>show some ([],[],if (f:Int)>65536 then (2:Int) else 220)=_;rw [zGW (by omega)]
 | some r=>rfl
def zEt (g:A5 q p)(h:Ev (λn=>J4 n q p) l)(hm:1<=most/\ most<=65536){f:Nat}(a:f<=16777216):Ev (λn=>J5 n q p most (f:Int)) (match ME most l f with | none=>(0,220) | some r=>((r.1.length:Int),0)):=by
 obtain ⟨M,X⟩:=ZX g.fit (zGU g.len256.2 (by decide));obtain ⟨N,R⟩:=pd (most:=most) h (f:=f) a;rw [g.check] at X;refine ⟨max M N,λn hn=>?_⟩
 show (FX n q p).bind _=_
 rw [show FX n q p=some 0 from X n (by omega),zEf]
 show (bif decide (most<1) then _ else _)=_
 rw [zEl (by omega),zGK,zEl (by omega),zGK,zEl (by omega),zGK,zEl (by omega),zGK,show Ku n q p most (f:Int)=_ from R n (by omega)];cases ME most l f with
 | none=>rfl
 | some r=>rfl
end
section
variable {q:AA} {i:Int} {g pos x:Ξ}
def WI (g p:Ξ):Prop:=g.length=p.length/\ ∀ j,j<g.length -> (0<=g.getD j 0/\ g.getD j 0<=15)/\ tb (p.getD j 0) (g.getD j 0).toNat=true
def mi (G:Gd q g)(p:CK q=true):(∀ j s,tb ((Ar g).getD j 0) s=true -> tb (pos.getD j 0) s=true)↔∀ j,j<g.length -> tb (pos.getD j 0) (g.getD j 0).toNat=true:=by
 constructor
 ·intro h j e;exact h j _ (by rw [RY G p e,zEI rfl])
 ·intro h j s k
  by_cases e:j<g.length
  ·rw [RY G p e,zGe] at k;subst k;exact h j e
  ·rw [zGR,zJG (by rw [Fm];omega)] at k;exact absurd k IG
def zN (C:Br q i pos)(G:Gd q g)(X:CI q (con q i) g)(t:WI g pos)(d:PR q (con q i) pos x):WI g x:=by
 have z:=G.ctx C.fit C.valid C.i0 C.i1;have:=qo C z ((mi G C.valid).2 λj e=>(t.2 j e).2) d (((sA z G).1 X).2);have b:=(mi G C.valid).1 this;exact ⟨by rw [d.len];exact t.1,λj e=>⟨(t.2 j e).1,b j e⟩⟩
end
section
variable {q:AA} {pos p g:Ξ}
def WI.alive (h:WI g p)(a: ∀ j,j<p.length -> CB (p.getD j 0)):BH p=false:=
 E8.2 λj e=>(Eu (a j e)).2 ⟨(g.getD j 0).toNat,by have:=(h.2 j (by have:=h.1;omega)).1;omega,(h.2 j (by have:=h.1;omega)).2⟩
def mQ (h:0<p.length){n:Nat}: ¬ WI g (List.replicate n 0)∨n=0:=by
 by_cases u:n=0
 ·exact .inr u
 ·refine .inl λt=>?_
  have a:=t.1;rw [zIA] at a;have:=(t.2 0 (by omega)).2
  have e:(List.replicate n (0:Int)).getD 0 0=0:=by
   rw [zGR,List.getElem?_replicate];split <;> rfl
  rw [e] at this;exact absurd this IG
def xn (d:CK q=true)(f:posOk q p=true){c s:Nat}(l:c<p.length)(k:s<q.symbols.toNat):WI g (GL p c s)↔WI g p/\ (g.getD c 0).toNat=s:=by
 obtain ⟨Aj,Cr⟩:=(I6 d).1 f;obtain ⟨i,a⟩:=bg d f l k
 have z:WI g (GK p c s)↔WI g p/\ (g.getD c 0).toNat=s:=by
  constructor
  ·intro h;have b:=h.1;rw [i] at b;have key:=λj (e:j<g.length)=>(h.2 j e).2
   refine ⟨⟨b,λj e=>⟨(h.2 j e).1,?_⟩⟩,?_⟩
   ·have:=key j e;rw [(a j (by omega)).2,zFW] at this;exact this.1
   ·have:=key c (by omega);rw [(a c l).2,zFW] at this;simpa using this.2
  ·rintro ⟨h,k⟩;have b:=h.1;refine ⟨by rw [i];exact b,λj e=>⟨(h.2 j e).1,?_⟩⟩;rw [(a j (by omega)).2,(h.2 j e).2,zI9]
   by_cases A:j=c
   ·subst A;rw [zEI k,Bool.or_true]
   ·simp [A]
 rw [←z];unfold GL;cases r:BH (GK p c s) with
 | false=>rfl
 | true=>
  rw [zEd rfl];refine ⟨λh=>?_,λh=>?_⟩
  ·rcases mQ (g:=g) (p:=p) (by omega) (n:=p.length) with h0 | h0
   ·exact absurd h h0
   ·omega
  ·have:=h.alive λj e=>(a j (by omega)).1
   rw [r] at this;cases this
def xm {i:Int}{x:Ξ}(C:Br q i p)(a:MG q g)(d:PR q (con q i) p x):WI g x↔WI g p:=by
 constructor
 ·intro h;have b:=h.1;rw [d.len] at b;exact ⟨b,λj e=>⟨(h.2 j e).1,(d.sub (h.2 j e).2).2⟩⟩
 ·exact λh=>zN C a.1 (a.2 i C.i0 C.i1) h d
def YQ: ∀ {p g:Ξ},EH p=some g -> ∀ j,j<p.length -> ∃ s:Nat,Bv (p.getD j 0) 0= [s]/\ g.getD j 0=(s:Int)
 | [],_,_,j,e=>by simp at e
 | x::p,g,h,j,e=>by
  unfold EH at h;split at h
  ·rename_i s k;obtain ⟨r,i,rfl⟩:=zIY.1 h;cases j with
   | zero=>exact ⟨s,by simpa using k,rfl⟩
   | succ j=>
    have:=YQ i j (by simpa using e);simpa using this
  ·cases h
def oa (c:CK q=true)(i:posOk q p=true){d:Ξ}(k:EH p=some d)(h:WI g p):g=d/\ p=Ar g:=by
 obtain ⟨Aj,f⟩:=(I6 c).1 i;obtain ⟨_,aq,_⟩:=DP c;have hl:=Ug k;have h1:=h.1
 have key: ∀ j,j<p.length -> Bv (p.getD j 0) 0= [(g.getD j 0).toNat]/\ g.getD j 0=d.getD j 0:=λj e=>by
  obtain ⟨s,w,z⟩:=YQ k j e;have b:=h.2 j (by omega);have:(g.getD j 0).toNat∈Bv (p.getD j 0) 0:=Hd.2 ⟨by omega,b.2⟩;rw [w,zGu] at this;exact ⟨by rw [w,this],by rw [z];omega⟩
 refine ⟨zJL (by omega) λj b a=>?_,zJL (by rw [Fm];omega) λj b a=>?_⟩
 ·have:=(key j (by omega)).2;simpa [zGR,b,a] using this
 ·have e:j<p.length:=b;have w:p[j]=p.getD j 0:=by simp [b]
  have z:(Ar g)[j]=(Ar g).getD j 0:=by simp [a]
  have h4:=(h.2 j (by omega)).1;rw [w,z,Ra (by omega)];refine Km ((f j e).in64 (by omega)) (Q8 _) λt ht=>?_
  rw [Ir (by omega)]
  by_cases v:t<16
  ·have:tb (p.getD j 0) t=decide (t∈Bv (p.getD j 0) 0):=by
    rw [zIt,zGe,Hd];exact ⟨λh=>⟨v,h⟩,λh=>h.2⟩
   rw [this,(key j e).1,zNL,zGu];exact eq_comm
  ·rw [(f j e).hi (by omega),zEl (by omega)]
def zn (hv:CK q=true)(hp:posOk q p=true)(k:EH p=some g):WI g p:=by
 have m:=Ug k;refine ⟨m,λj hj=>?_⟩;obtain ⟨s,w,z⟩:=YQ k j (by omega);have:s∈Bv (p.getD j 0) 0:=by rw [w];exact zGu.2 rfl
 have:=Hd.1 this;rw [z];exact ⟨by omega,by rw [zCl];exact this.2⟩
end
abbrev zNQ:=@Nat.mul_assoc
def Dr (l:List Bc):List Ξ:=(l.filter λy=>y.1.1==4).map (·.2)
def cF {a b:List Bc}:Dr (a++b)=Dr a++Dr b:=by unfold Dr;rw [zMf,List.map_append]
def cE: ∀ o:Ξ,Dr (o.map PM)= []
 | []=>rfl
 | _::o=>cE o
def zKQ {y:Bc}{l:List Bc}:Dr (y::l)=if y.1.1=4 then y.2::Dr l else Dr l:=by
 unfold Dr;rw [zMq]
 by_cases h:y.1.1=4
 ·rw [zEd h,zEd (by simpa using h)];rfl
 ·rw [zGW h,zGW (by simpa using h)]
def iy {k:Nat}: ∀ (l:List Bc) (gs:List Ξ) (t:List (Δ)),gs.length<k -> (Fa (k:Int) l gs t).1=gs++(Dr l).take (k-gs.length)/\ (Fa (k:Int) l gs t).2.2=decide (k<=gs.length+(Dr l).length)/\ (Fa (k:Int) l gs t).2.1.length<=t.length+l.length
 | [],gs,t,h=>by
  refine ⟨?_,?_,zGd _⟩
  ·show gs=gs++([]:List Ξ).take _
   simp
  ·exact (zEl (by simp [Dr];omega)).symm
 | y::l,gs,t,h=>by
  rw [zKQ];unfold Fa;have e0:(gs++[y.2]).length=gs.length+1:=by simp
  by_cases A:y.1.1=4
  ·rw [zEd A,zEd A]
   by_cases f:((gs++[y.2]).length:Int)=(k:Int)
   ·rw [zEd f];have e:k-gs.length=1:=by omega
    refine ⟨by rw [e];rfl,(zEI (by simp;omega)).symm,by simp⟩
   ·rw [zGW f];obtain ⟨Y,L,a⟩:=iy (k:=k) l (gs++[y.2]) (t++[y.1]) (by omega);have e:k-gs.length=(k-(gs++[y.2]).length)+1:=by omega
    refine ⟨by rw [Y,e,List.take_succ_cons,zNf];rfl,?_,by simp at a ⊢;omega⟩;rw [L,zNL];simp;omega
  ·rw [zGW A,zGW A];obtain ⟨Y,L,a⟩:=iy l gs (t++[y.1]) h;exact ⟨Y,L,by simp at a ⊢;omega⟩
section
variable {q:AA} {p x g o:Ξ}
def Dw.wi {U:Int -> Prop}(M: ∀ i,U i -> 0<=i/\ i<(q.cons.length:Int))(j:MG q g)(h:Dw q U p x):A5 q p -> (WI g x↔WI g p):=by
 induction h with
 | refl=>exact λ_=>Iff.rfl
 | step hi d _ V=>exact λa=>(V (a.pr (M _ hi).1 (M _ hi).2 d)).trans (xm (a.ctx (M _ hi).1 (M _ hi).2) j d)
def xl (h:0<p.length): ¬ WI g (List.replicate p.length 0):=by
 rcases mQ (g:=g) h (n:=p.length) with h0 | h0
 ·exact h0
 ·omega
def WI.live (a:A5 q p)(h:WI g p):BH p=false:=h.alive λj _=>a.in64 j
def IA.wi (j:MG q g)(a:A5 q p)(h:IA q 4 p x):WI g x↔WI g p:=by
 rcases h with ⟨r,rfl⟩ | ⟨_,h,_⟩
 ·refine zMz (xl a.len256.1) λt=>?_
  rw [t.live a] at r;cases r
 ·exact h.wi dh j a
def k6 (h:0<p.length):BH (List.replicate p.length 0)=true:=by
 cases r:BH (List.replicate p.length (0:Int)) with
 | true=>rfl
 | false=>
  refine absurd ?_ (E8.1 r 0 (by simpa using h));rw [zGR,List.getElem?_replicate];split <;> rfl
def zKL (a:A5 q p)(h:IA q 4 p x)(r:BH x=false)(k:EH x=some g):MG q g/\ WI g x:=by
 obtain ⟨d,_,_⟩:=h.posn a;have t:=zn d.valid d.ok k;have e:=(oa d.valid d.ok k t).2;have m:=Ug k
 have G:Gd q g:=⟨by rw [m];exact d.len,λj hj=>by
  obtain ⟨s,w,z⟩:=YQ k j (by omega);have:s∈Bv (x.getD j 0) 0:=by rw [w];exact zGu.2 rfl
  have b:=(Hd.1 this).2
  have:s<q.symbols.toNat:=zGk λf=>by
   rw [(d.sm j (by omega)).hi f] at b;cases b
  rw [z];omega⟩
 have R:Ii q (Up q 4) x:=by
  rcases h with ⟨_,rfl⟩ | ⟨_,_,M⟩
  ·rw [k6 a.len256.1] at r;cases r
  ·exact M
 refine ⟨⟨G,λi h0 c=>Classical.byContradiction λv=>?_⟩,t⟩;have l:=R i ⟨h0,c,zE0 _⟩
 have C: ¬ Fi q (con q i) x:=by
  rw [e];exact (sA (G.ctx d.fit d.valid h0 c) G).2 v
 have n:=l.dead C;rw [n,k6 d.len256.1] at r;cases r
variable {c:Nat}
def Ya (d:A5 q x)(l:c<x.length): ∀ s∈Bv (x.getD c 0) 0,s<q.symbols.toNat:=λs k=>zGk λz=>by
 have:=(Hd.1 k).2;rw [(d.sm c l).hi z] at this;cases this
variable {l:List Bc}{m:Option (Nat×Θ)}
def Sr.sols (h:Sr q m p l):A5 q p -> (m=none -> (Dr l).Nodup/\ ∀ g,g∈Dr l↔MG q g/\ WI g p)/\
 (∀ c ss,m=some (c,ss) -> c<p.length -> ss.Nodup -> (∀ s∈ss,s<q.symbols.toNat) -> (Dr l).Nodup/\ ∀ g,g∈Dr l↔MG q g/\ WI g p/\ (g.getD c 0).toNat∈ss):=by
 induction h with
 | @dead p x o _ d h3=>
  refine λi=>⟨λ_=>?_,λ_ _ e=>(by cases e)⟩
  rw [cF,cE];refine ⟨zNv,λg=>zMz (by simp [Dr]) λ⟨n,t⟩=>?_⟩;have:=((d.wi n i).2 t).live (d.posn i).1;rw [h3] at this;cases this
 | @done p x o g j d h3 A=>
  refine λi=>⟨λ_=>?_,λ_ _ e=>(by cases e)⟩
  obtain ⟨B,Y⟩:=zKL i d h3 A;have k:=(d.posn i).1;rw [cF,cE]
  show ([g]:List Ξ).Nodup/\ ∀ z,z∈[g]↔_
  refine ⟨by simp,λz=>?_⟩;rw [zGu];constructor
  ·rintro rfl;exact ⟨B,(d.wi B i).1 Y⟩
  ·rintro ⟨n,t⟩;exact (oa k.valid k.ok A ((d.wi n i).2 t)).1
 | @split p x o c l j d h3 A h5 r h7 _ V=>
  refine λi=>⟨λ_=>?_,λ_ _ e=>(by cases e)⟩
  have k:=(d.posn i).1;obtain ⟨E,L⟩:=(V k).2 c _ rfl r eU (Ya k r);rw [cF,cE]
  show (Dr l).Nodup/\ ∀ g,g∈Dr l↔_
  refine ⟨E,λg=>(L g).trans ?_⟩;constructor
  ·rintro ⟨n,t,_⟩;exact ⟨n,(d.wi n i).1 t⟩
  ·rintro ⟨n,t⟩;have t:=(d.wi n i).2 t;have:=t.2 c (by rw [t.1];exact r);exact ⟨n,t,Hd.2 ⟨by omega,this.2⟩⟩
 | nil=>
  refine λ_=>⟨λe=>(by cases e),λc ss e=>?_⟩
  cases e;exact λ_ _ _=>⟨zNv,λg=>by simp [Dr]⟩
 | @cons x c s ss a b _ _ F G=>
  refine λk=>⟨λe=>(by cases e),λc' oN e=>?_⟩
  cases e;intro w H y;obtain ⟨I,J⟩:=zNr.1 H;obtain ⟨U,C⟩:=(F (k.fx w (y s zIV))).1 rfl;obtain ⟨K,D⟩:=(G k).2 c ss rfl w J λs h=>y s (zIG _ h)
  have f:=λg=>xn (g:=g) k.valid k.ok w (y s zIV)
  rw [cF];refine ⟨zNd.2 ⟨U,K,λu M v N e=>?_⟩,λg=>?_⟩
  ·subst e;have j:=((f u).1 ((C u).1 M).2).2;have d:=((D u).1 N).2.2;rw [j] at d;exact I d
  ·rw [zIQ,C,D,f,zIn];constructor
   ·rintro (⟨j,d,h3⟩ | ⟨j,d,h3⟩)
    ·exact ⟨j,d,.inl h3⟩
    ·exact ⟨j,d,.inr h3⟩
   ·rintro ⟨j,d,h3 | h3⟩
    ·exact .inl ⟨j,d,h3⟩
    ·exact .inr ⟨j,d,h3⟩
def Bn (x:Int):Nat:=(Bv x 0).length
def gp:Ξ -> Nat
 | []=>1
 | x::l=>max (Bn x) 1*gp l
def TC: ∀ l:Ξ,1<=gp l
 | []=>zGd _
 | x::l=>Nat.mul_pos (by omega) (TC l)
def ba: ∀ (l:Ξ) (c:Nat) (v:Int),c<l.length -> gp (l.set c v)*max (Bn (l.getD c 0)) 1=gp l*max (Bn v) 1
 | x::l,0,v,_=>by
  show max (Bn v) 1*gp l*max (Bn x) 1=max (Bn x) 1*gp l*max (Bn v) 1
  rw [zJI (max (Bn x) 1),zJI (max (Bn v) 1),zNQ,zNQ,zJI (max (Bn x) 1)]
 | x::l,c+1,v,h=>by
  have V:=ba l c v (by simpa using h)
  show max (Bn x) 1*gp (l.set c v)*max (Bn (l.getD c 0)) 1=max (Bn x) 1*gp l*max (Bn v) 1
  rw [zNQ,V,zNQ]
def uZ: ∀ (a b:Ξ),a.length=b.length -> (∀ j,j<a.length -> 1<=Bn (a.getD j 0)/\ Bn (a.getD j 0)<=Bn (b.getD j 0)) -> gp a<=gp b/\ ((∃ j,j<a.length/\ Bn (a.getD j 0)<Bn (b.getD j 0)) -> gp a<gp b)
 | [],[],_,_=>⟨zGd _,λ⟨j,h,_⟩=>absurd h (zGa j)⟩
 | u::a,v::b,e,h=>by
  obtain ⟨Y,L⟩:=uZ a b (by simpa using e) λj c=>h (j+1) (by simpa using c)
  have h0:=h 0 (by simp);have h0:1<=Bn u/\ Bn u<=Bn v:=h0;have l:=TC b;have d:max (Bn u) 1<=max (Bn v) 1:=by omega
  refine ⟨zNb d Y,λ⟨j,c,p⟩=>?_⟩;cases j with
  | zero=>
   have p:Bn u<Bn v:=p;exact Nat.mul_lt_mul_of_lt_of_le (show max (Bn u) 1<max (Bn v) 1 by omega) Y l
  | succ j=>exact Nat.mul_lt_mul_of_le_of_lt d (L ⟨j,by simpa using c,p⟩) (by omega)
variable {a b:Int}
def yf (h: ∀ s,tb a s=true -> tb b s=true):Bn a<=Bn b:=by
 unfold Bn Bv;rw [←zIX,←zIX];exact List.countP_mono_left λs _=>h s
variable {s:Nat}
def ye (h: ∀ s,tb a s=true -> tb b s=true)(hs:s<16)(c:tb a s=false)(d:tb b s=true):Bn a<Bn b:=by
 unfold Bn Bv;rw [←zIX,←zIX];exact Ml (a:=s) c d _ (λk _ hk=>h k hk) (zNh.2 ⟨by omega,by omega⟩)
def zJT (d:A5 q x)(g:A5 q p)(h:Le x p)(D:x≠p)(r:BH x=false):gp x<gp p:=by
 have e:x.length=p.length:=g.eqlen d;refine (uZ x p e λj a=>⟨(X6 d a).2 (E8.1 r j a),yf λs k=>h j s k⟩).2 ?_;refine Classical.byContradiction λu=>D (Le.eq d g h λj s k=>?_)
 cases c:tb (x.getD j 0) s with
 | true=>rfl
 | false=>
  have a:j<x.length:=zGk λz=>by
   rw [zGR,zJG (by omega)] at k;exact IG k
  have v:s<16:=zGk λz=>by
   rw [(g.sm16 j (by omega)).hi z] at k;cases k
  exact absurd ⟨j,a,ye (λs k=>h j s k) v c k⟩ u
def Gj.gp {l g:Ξ}(h:Gj q 4 p l g):A5 q p -> BH p=false -> (BH g=false -> l.length+gp g<=gp p)/\ l.length<=gp p:=by
 induction h with
 | done _=>exact λ_ _=>⟨λ_=>by simp,zIR _⟩
 | @step p x l g i hi d D _ b V=>
  intro a hd;have H:=a.pr hi.1 hi.2.1 d;cases O:BH x with
  | false=>
   obtain ⟨Y,i2⟩:=V H O;have:=zJT H a d.le D O;exact ⟨λh=>by have:=Y h;rw [zIN];omega,by rw [zIN];omega⟩
  | true=>
   have ez:=d.zero O;have M:Ii q (Up q 4) x:=by rw [ez];exact ka a.len256.1
   obtain ⟨w,z⟩:=b.uniq (.done M);subst w;subst z;exact ⟨λh=>(by rw [O] at h;cases h),TC p⟩
def gI (a:A5 q p)(b:Qz q p 4 (o,0))(c:IA q 4 p x):(BH p=true/\ o= [])∨(BH p=false/\ Gj q 4 p o x):=by
 rcases b with ⟨h,_⟩ | ⟨_,h,e⟩ | ⟨_,h,_,_,g,j⟩
 ·exact absurd a.check h
 ·exact .inl ⟨h,congrArg Prod.fst e⟩
 ·refine .inr ⟨h,?_⟩;rcases c with ⟨r,_⟩ | ⟨_,d,A⟩
  ·rw [h] at r;cases r
  ·have e:x=g:=Dw.uniq dh a d j.down.1 A j.down.2;rw [e];exact j
def zEC: ∀ s:Nat,s<16 -> ((List.range' 0 16).filter λt=>decide (t=s)).length=1:=by decide
def zJU (h:A5 q x)(l:c<x.length)(r:BH x=false)(f:s∈Bv (x.getD c 0) 0):gp (GL x c s)=gp (x.set c 1):=by
 have P:=Ya h l s f;have hk:=h.k;obtain ⟨g,d⟩:=bg h.valid h.ok l P
 have a:BH (GK x c s)=false:=E8.2 λj b=>by
  rw [g] at b;refine (Eu (d j b).1).2 ?_
  by_cases e:j=c
  ·subst e;exact ⟨s,by omega,by rw [(d j b).2,(Hd.1 f).2];simp⟩
  ·obtain ⟨t,i,m⟩:=(Eu (h.in64 j)).1 (E8.1 r j b);exact ⟨t,i,by rw [(d j b).2,m,zEl e];rfl⟩
 have T:GL x c s=GK x c s:=by unfold GL;rw [zGW (by rw [a];decide)]
 rw [T];have w:=ba x c ((GK x c s).getD c 0) l;have z:=ba x c 1 l
 have w1:Bn ((GK x c s).getD c 0)=1:=by
  unfold Bn Bv;rw [show (List.range' 0 (16-0))=List.range' 0 16 from rfl,List.filter_congr (q:=λt=>decide (t=s)) λt _=>?_]
  ·exact zEC s (by omega)
  ·rw [(d c l).2,zEI rfl,zIF,zMa]
   by_cases e:t=s
   ·subst e;rw [(Hd.1 f).2];rfl
   ·rw [zEl e,zND]
 have R:Bn 1=1:=by decide
 have Q:x.set c ((GK x c s).getD c 0)=GK x c s:=by
  unfold GK;rw [TF l]
 rw [w1,Q] at w;rw [R] at z;exact Nat.eq_of_mul_eq_mul_right (show 0<max (Bn (x.getD c 0)) 1 by omega) (w.trans z.symm)
def Sr.size (h:Sr q m p l):A5 q p -> (m=none -> l.length+1<=3*gp p)/\
 (∀ c ss,m=some (c,ss) -> c<p.length -> BH p=false -> (∀ s∈ss,s∈Bv (p.getD c 0) 0) -> l.length+ss.length<=3*(ss.length*gp (p.set c 1))):=by
 induction h with
 | @dead p x o n f j=>
  refine λd=>⟨λ_=>?_,λ_ _ e=>(by cases e)⟩
  have:=TC p;rw [zGi,zGh,zJA];rcases gI d n f with ⟨_,rfl⟩ | ⟨r,h⟩
  ·simp;omega
  ·have:=(h.gp d r).2;omega
 | @done p x o g n f j A=>
  refine λd=>⟨λ_=>?_,λ_ _ e=>(by cases e)⟩
  have:=TC p;rw [zGi,zGh,zJA];rcases gI d n f with ⟨_,rfl⟩ | ⟨r,h⟩
  ·simp;omega
  ·have:=(h.gp d r).2;omega
 | @split p x o c l n f j A h5 v u _ V=>
  refine λd=>⟨λ_=>?_,λ_ _ e=>(by cases e)⟩
  have k:=(f.posn d).1;have i:=(V k).2 c _ rfl v j λs h=>h
  have z:=ba x c 1 v;have R:Bn 1=1:=by decide
  have u:2<=(Bv (x.getD c 0) 0).length:=u;have Q:max (Bn (x.getD c 0)) 1=(Bv (x.getD c 0) 0).length:=Nat.max_eq_left (zGU (by decide) u);rw [R,Q,zJI,Nat.max_self,zIb] at z;rw [z] at i;rw [zGi,zGh,zIN];rcases gI d n f with ⟨r,rfl⟩ | ⟨r,h⟩
  ·rcases f with ⟨_,rfl⟩ | ⟨B,_⟩
   ·rw [k6 d.len256.1] at j;cases j
   ·rw [r] at B;cases B
  ·have:=(h.gp d r).1 j;omega
 | nil=>
  refine λ_=>⟨λe=>(by cases e),λc ss e=>?_⟩
  cases e;exact λ_ _ _=>by simp
 | @cons x c s ss a b _ _ y C=>
  refine λk=>⟨λe=>(by cases e),λc' oN e=>?_⟩
  cases e;intro t r w;have M:=w s zIV;have Y:=(y (k.fx t (Ya k t s M))).1 rfl;have i2:=(C k).2 c ss rfl t r λs h=>w s (zIG _ h)
  rw [zJU k t r M] at Y;have e:(ss.length+1)*gp (x.set c 1)=ss.length*gp (x.set c 1)+gp (x.set c 1):=zMu _ _;rw [zGi,zIN,e];omega
end
abbrev zM3:=@Nat.zero_lt_one
abbrev zNE:=@List.mem_append_left
section
open Go.ChangeShapes Go.WideShapes Go.ChangeAt
def M2 (w:World)(cs:List Value)(l:List DV):Prop:=cs.length=l.length/\ ∀ j,j<l.length -> AL (λ_=>False) w (l.getD j .any) [] (cs.getD j undef)
def Rd (P:Program)(t:TypeId)(m:Nat){α:Type}(c:α -> List DV):Prop:=(∀ x,(c x).length=m)/\ P.cellsOf t=m/\ ∀ {H:Type} (enc:TypeId×Value -> H) (w:World) (fuel:Nat) (cs:List Value) (x:DataW H×List MemPlace),DataW.trod enc P w 0 (λ_=>true) true fuel t cs=some x -> (∀ n∈x.1.weights P t,n<=reachBytes) -> ∃ y:α,M2 w cs (c y)
def ml {H:Type}{P:Program}{e:TypeId}: ∀ {l:List (DataW H)} {d:DataW H} {n:Nat},d∈l -> n∈d.weights P e -> n∈DataW.weightsAll P e l
 | [],_,_,h,_=>by cases h
 | a::l,d,n,h,u=>by
  unfold DataW.weightsAll;rcases zIn.1 h with rfl | h
  ·exact zNE _ u
  ·exact zKA _ (ml h u)
section
variable {P:Program} {t e:TypeId} {m:Nat}
variable {v:Value}{w:World}
def M2.one {d:DV}(h:AL (λ_=>False) w d [] v):M2 w [v] [d]:=⟨rfl,λj hj=>by
 grind⟩
variable {cs:List Value}
def M2.app {W:List Value}{l l':List DV}(h:M2 w cs l)(h':M2 w W l'):M2 w (cs++W) (l++l'):=by
 refine ⟨by simp [h.1,h'.1],λj e=>?_⟩;rcases zIg j l.length with hl | hl
 ·have:=h.2 j hl;have hc:j<cs.length:=by rw [h.1];exact hl
  grind
 ·have:=h'.2 (j-l.length) (by simp at e;omega);simp only [zGR] at this ⊢;rw [zIB hl,zIB (by rw [h.1];exact hl),h.1];exact this
theorem Rd.int {k:IntKind}(a:P.underlying t=some (.int k))(l:P.cellsOf t=1):Rd P t 1 (λn:Int=>[.int k n]):=⟨λ_=>rfl,l,λenc w fuel cs x h hw=>by
 obtain ⟨n,rfl,_⟩:=DataW.trod_int a h;exact ⟨n,.one rfl⟩⟩
variable {n:Nat}{a:Addr}
def vv (h:w.cells? 0 a n=some cs):cs.length=n/\ ∀ j,j<n -> w.cell? (a.add j)=some (cs.getD j undef):=by
 unfold World.cells? at h;rw [zEd (zIR _)] at h;have m:cs.length=n:=by simpa using Lib.mapM_length h
 refine ⟨m,λj e=>?_⟩;obtain ⟨b,h1,h2⟩:=Lib.mapM_at h j j (by simp [e])
 grind
theorem zMQ (h:w.cell? a=some v): ∃ b o,a=⟨b,o,none⟩:=by
 obtain ⟨b,o,r⟩:=a;cases r with
 | none=>exact ⟨b,o,rfl⟩
 | some r=>
  grind [World.cell?]
def xI (b o x:Nat):(⟨b,o,none⟩:Addr).add x=⟨b,o+x,none⟩:=by
 grind [Addr.add]
variable {α:Type}
def Rd.row [Inhabited α] {c:α -> List DV} (q:P.underlying t=some (.slice e)) (A:0<P.bytesOf e) (B:0<m) (I:Rd P e m c) {H:Type} (enc:TypeId×Value -> H) (w:World) (fuel:Nat) (cs:List Value) (x:DataW H×List MemPlace) (h:DataW.trod enc P w 0 (λ_=>true) true fuel t cs=some x) (S: ∀ n∈x.1.weights P t,n<=reachBytes):
 ∃ (L:List α) (a:Option Addr) (cap:Nat),cs= [.slice a L.length cap]/\ L.length<=cap/\ L.length<=LB/\ ∀ i j,i<L.length -> j<m -> ∃ b o u,a=some ⟨b,o,none⟩/\ w.cell? ⟨b,o+(i*m+j),none⟩=some u/\ AL (λ_=>False) w ((c (L.getD i default)).getD j .any) [] u:=by
 rcases Deep.open_slice q h with ⟨rfl,_⟩ | ⟨a,len,cap,Z,n,D,Pl,rfl,_,l,QR,U,C,r⟩
 ·exact ⟨[],none,0,rfl,zGd _,zIR _,λi j hi=>absurd hi (zGa i)⟩
 ·simp only [zJH] at U;subst U;subst C
  have plain:0<len -> ∃ b o,a=⟨b,o,none⟩:=λh0=>by
   obtain ⟨W,g,_⟩:=r 0 (by omega);obtain ⟨E,s⟩:=vv g;have v:=s 0 (by rw [I.2.1];exact B)
   grind [Addr.add,zMQ]
  have f: ∀ i,i<len -> ∃ y:α,∀ j,j<m -> ∃ b o u,a=⟨b,o,none⟩/\ w.cell? ⟨b,o+(i*m+j),none⟩=some u/\ AL (λ_=>False) w ((c y).getD j .any) [] u:=λi hi=>by
   obtain ⟨W,g,F⟩:=r i (by omega)
   obtain ⟨y,h3,G⟩:=I.2.2 enc w n W _ F λk hk=>S k (by
    simp only [DataW.weights,q];refine zIG _ (zNE _ (ml (d:=D i) ?_ hk))
    grind)
   obtain ⟨E,s⟩:=vv g;obtain ⟨b,o,rfl⟩:=plain (by omega);refine ⟨y,λj p=>?_⟩;have v:=s j (by rw [I.2.1];exact p);refine ⟨b,o,_,rfl,?_,G j (by rw [I.1];exact p)⟩;rw [←v,I.2.1,xI,xI,zMo]
  have z: ∃ L:List α,L.length=len/\ ∀ i,i<len -> ∀ j,j<m -> ∃ b o u,a=⟨b,o,none⟩/\ w.cell? ⟨b,o+(i*m+j),none⟩=some u/\ AL (λ_=>False) w ((c (L.getD i default)).getD j .any) [] u:=by
   refine ⟨(List.range len).map λi=>if hi:i<len then (f i hi).choose else default,by simp,λi hi=>?_⟩
   grind
  obtain ⟨L,rfl,z⟩:=z;refine ⟨L,some a,_,rfl,l,?_,λi j hi p=>?_⟩
  ·have hk:=S ((L.length+(Z-L.length))*P.bytesOf e) (by
    grind [DataW.weights])
   have g:=Nat.le_mul_of_pos_right (L.length+(Z-L.length)) A
   grind [reachBytes,LB]
  grind
def Rd.rows [Inhabited α] {c:α -> List DV} (b:P.underlying t=some (.slice e)) (l:P.cellsOf t=1) (d:0<P.bytesOf e) (v:0<m) (I:Rd P e m c):Rd P t 1 (λL:List α=>[.sl m L.length (AK c L)]):=⟨λ_=>rfl,l,λenc w fuel cs x h S=>by
 obtain ⟨L,a,cap,rfl,f,g,h3⟩:=Rd.row b d v I enc w fuel cs x h S;refine ⟨L,M2.one ⟨a,cap,rfl,f,g,λi j hi hj=>?_⟩⟩
 grind⟩
def Rd.ints (c:P.underlying t=some (.slice e))(l:P.cellsOf t=1)(f:0<P.bytesOf e)(I:P.underlying e=some (.int .i64))(d:P.cellsOf e=1):Rd P t 1 AO:=⟨λ_=>rfl,l,λenc w fuel cs x h S=>by
 obtain ⟨L,a,cap,rfl,g,i,k⟩:=Rd.row c f (zM3) (Rd.int I d) enc w fuel cs x h S;refine ⟨L,.one ⟨a,cap,rfl,g,i,λj m=>?_⟩⟩;obtain ⟨b,o,u,n,s,p⟩:=k j 0 m zM3;refine ⟨b,o,n,λh=>h,?_⟩;have:u= .int .i64 (L.getD j 0):=p;rw [←this,←s];simp⟩
def FA (P:Program):List Field -> Nat -> Nat -> {α:Type} -> (α -> List DV) -> Prop:=λa o n {α} c=>∀ (H:Type) (enc:TypeId×Value -> H) (w:World) (fuel:Nat) (cs:List Value) (xs:List (DataW H×List MemPlace)),cs.length=n -> (a.mapM λf=>DataW.trod enc P w 0 (λ_=>true) true fuel f.type ((cs.drop f.offset).take (P.cellsOf f.type)))=some xs -> (∀ k∈DataW.weightsEach P (a.map (·.type)) (xs.map (·.1)),k<=reachBytes) -> ∃ y:α,M2 w (cs.drop o) (c y)
variable {o:Nat}
def FA.nil (ho:n=o):FA P [] o n (λ_:Unit=>[]):=λ_ enc w fuel cs xs hl _ _=>⟨(),by rw [List.drop_of_length_le (by omega)];exact ⟨rfl,λj e=>absurd e (zGa j)⟩⟩
variable {β:Type}
def FA.cons {c:α -> List DV}{U:β -> List DV}{f:Field}{d:List Field}(g:f.offset=o)(M:Rd P f.type m c)(i:FA P d (o+m) n U):FA P (f::d) o n (λx:α×β=>c x.1++U x.2):=λ_ enc w fuel cs xs j h S=>by
 rw [List.mapM_cons] at h;obtain ⟨a,D,h⟩:=Option.bind_eq_some_iff.1 h;obtain ⟨ys,b,e⟩:=Option.bind_eq_some_iff.1 h;cases e;obtain ⟨y,l⟩:=M.2.2 enc w fuel _ a D λk hk=>S k (by grind [DataW.weightsEach])
 obtain ⟨z,p⟩:=i _ enc w fuel cs ys j b λk hk=>S k (by grind [DataW.weightsEach])
 refine ⟨(y,z),?_⟩
 have:cs.drop o=(cs.drop f.offset).take (P.cellsOf f.type)++cs.drop (o+m):=by
  rw [g,M.2.1,←List.drop_drop]
  grind [List.take_append_drop]
 rw [this];exact l.app p
def Rd.struct {c:α -> List DV}{U:β -> List DV}{n:Array Field}(a:P.underlying t=some (.struct n))(l:P.cellsOf t=m)(b:FA P n.toList 0 m c)(g:α -> β)(hg: ∀ x,c x=U (g x))(v: ∀ x,(U x).length=m):Rd P t m U:=⟨v,l,λenc w fuel cs x h S=>by
 cases fuel with
 | zero=>simp [DataW.trod] at h
 | succ fuel=>
  unfold DataW.trod at h;rw [a] at h;simp only at h;split at h
  ·rename_i d;obtain ⟨xs,K,e⟩:=zIY.1 h;subst e;obtain ⟨y,hy⟩:=b _ enc w fuel cs xs (by rw [d,l]) K λk hk=>S k (by simp only [DataW.weights,a];exact hk)
   grind
  ·cases h⟩
end
end
section
open Go.ChangeShapes Go.WideShapes Go.ChangeAt
def Jf (P:Program)(t:TypeId){α:Type}(d:α -> DV):Prop:=∀ {H:Type} (enc:TypeId×Value -> H) (w:World) (u:Nat) (v:Value) (x:DataW H) (V:List MemPlace),Value.okWide P w .any u t v -> DataW.Trod enc P w 0 (λ_=>true) true t v x V -> (∀ n∈x.weights P t,n<=reachBytes) -> ∃ y:α,AL (λ_=>False) w (d y) [] v
section
variable {P:Program} {t e:TypeId}
variable {α:Type}
def Jf.one {c:α -> List DV}(b:P.underlying t=some (.slice e))(h:Rd P t 1 c):Jf P t (λx=>(c x).getD 0 .any):=λenc w EC v x ps o ⟨fuel,d⟩ S=>by
 obtain ⟨a,len,cap,rfl⟩:=okWide_slice b o;obtain ⟨y,h1,f⟩:=h.2.2 enc w fuel _ _ d S;exact ⟨y,by simpa [Value.cells] using f 0 (by rw [h.1];exact zM3)⟩
def Jf.agg {m:Nat}{c:α -> List DV}{n:Array Field}(f:P.underlying t=some (.struct n))(h:Rd P t m c):Jf P t (λx=>.agg m (L1 (c x))):=λenc w EC v x ps o ⟨fuel,g⟩ S=>by
 obtain ⟨cs,rfl,EM⟩:=okWide_struct f o;obtain ⟨y,i,k⟩:=h.2.2 enc w fuel _ _ g S;have a:(c y).length=m:=h.1 y
 have b:cs.size=m:=by
  have:cs.toList.length=(c y).length:=i;simpa [a] using this
 refine ⟨y,cs,rfl,b,λj d=>?_⟩;have:=k j (by rw [a];exact d);refine ⟨cs[j]'(by omega),by simp [b,d],?_⟩
 have e:(Value.agg cs).cells.toList.getD j undef=cs[j]'(by omega):=by
  show cs.toList.getD j undef=_
  grind
 rw [e] at this;exact this
def Ln (P:Program)(d:List TypeId){α:Type}(ds:α -> List DV):Prop:=∀ {H:Type} (enc:TypeId×Value -> H) (w:World) (u:Nat) (vs:List Value) (xs:List (DataW H)) (V:List MemPlace),(∀ (j:Nat) t v,d[j]? =some t -> vs[j]? =some v -> Value.okWide P w .any u t v) -> DataW.TrodAll enc P w 0 (λ_=>true) true d vs xs V -> (∀ n∈DataW.weightsEach P d xs,n<=reachBytes) -> ∃ y:α,(ds y).length=vs.length/\ ∀ j,j<vs.length -> AL (λ_=>False) w ((ds y).getD j .any) [] (vs.getD j undef)
def Ln.nil:Ln P [] (λ_:Unit=>[]):=λenc w EC vs xs ps _ h _=>by
 obtain ⟨rfl,_,_⟩:=trodAll_nil h
 simp_all
def Ln.cons {β:Type}{d:α -> DV}{ds:β -> List DV}{c:List TypeId}(h:Jf P t d)(k:Ln P c ds):Ln P (t::c) (λx:α×β=>d x.1::ds x.2):=λenc w u vs xs ps o h0 S=>by
 obtain ⟨v,Z,x,C,p,q,rfl,rfl,rfl,e,f⟩:=trodAll_cons h0;obtain ⟨y,hy⟩:=h enc w u v x p (o 0 t v rfl rfl) e λn g=>S n (by grind [DataW.weightsEach])
 obtain ⟨z,r,hz2⟩:=k enc w u Z C q (λj O s a b=>o (j+1) O s (by simpa using a) (by simpa using b)) f λn g=>S n (by grind [DataW.weightsEach])
 refine ⟨(y,z),by simp [r],λj hj=>?_⟩
 grind
variable {W o:World}{H:Type}
def nA {enc:TypeId×Value -> H}(m:laidOutB P=true)(F:A0 W o): ∀ {d:List TypeId} {vs:List Value} {ds:List (DataW H)} {V:List MemPlace},(∀ t∈d,P.readableRec t=true/\ t<P.types.size) -> DataW.TrodAll enc P W 0 (λ_=>true) true d vs ds V -> (∀ x∈V,x.block<W.heap.size) -> DataW.TrodAll enc P o 0 (λb=>decide (b<W.heap.size)) true d vs ds V
 | [],_,_,_,_,h,_=>by
  obtain ⟨rfl,rfl,rfl⟩:=trodAll_nil h;rfl
 | t::d,_,_,_,i,h,c=>by
  obtain ⟨v,Bz,x,mU,p,q,rfl,rfl,rfl,e,f⟩:=trodAll_cons h;exact ⟨p,q,Below.trod m (i t (by simp)).1 (i t (by simp)).2 e F λx a=>c x (zNE _ a),nA m F (λt g=>i t (by simp [g])) f λx a=>c x (zKA _ a),rfl⟩
variable {tb:TypeId}{args:Array Value}{s:ChangeSpec}{f:Func}
def zDb {enc:TypeId×Value -> H}{ds gs:List (DataW H)}{c:List MemPlace}(m:laidOutB P=true)(i: ∀ t∈f.params.toList,P.readableRec t=true/\ t<P.types.size)(F:A0 W o) 
 (a:DataW.Whole enc P f.params.toList s.vars false W args.toList ds gs c) (b:s.vars= []) (k:s.fn H (ds++gs)= { results:=[.lit (.bool true)],args:=ds }) (e:f.resultTypes= #[tb]) (g:P.underlying tb=some .bool):
 s.post enc P f false true false false W args (.bool true) o:=by
 have j:=a;have l:=a.lt;obtain ⟨p,q,C,K,rfl,Hj,BA⟩:=a;rw [b] at K;obtain ⟨rfl,rfl⟩:=trodVars_none K;have n:=nA m F i C λx d=>l x (zNE _ d)
 refine ⟨ds,[],p++[],[],p,[],j,?_,?_,?_,World.keptBut_mono (λx d=>⟨d,.inr (.inl (by simpa using d))⟩) (Below.frame F (· ∈p++[])),λh=>by cases h⟩
 ·rw [k,e];exact trodAll_mk1 (shut_bool g true)
 ·rw [k];exact n
 ·rw [b,k];rfl
def zFQ {enc:TypeId×Value -> H}{Γ:Av}{D:Nat}{u:Nat}{ds gs:List (DataW H)}{k:List MemPlace}{dv:α -> List DV}(m:laidOutB P=true)(l: ∀ t∈f.params.toList,P.readableRec t=true/\ t<P.types.size) 
 (h:Ln P f.params.toList dv) (r: ∀ (w:World) (y:α),(∀ j,AL (λ_=>False) w ((dv y).getD j .any) [] (args.getD j undef)) -> ES P Γ D (dv y) [] (.bool true) [] true)
 (B: ∀ (j:Nat) t v,f.params[j]? =some t -> args[j]? =some v -> Value.okWide P W .any u t v) (g:DataW.Whole enc P f.params.toList s.vars false W args.toList ds gs k) (x:s.vars= []) (z:s.fn H (ds++gs)= { results:=[.lit (.bool true)],args:=ds }) (A:f.resultTypes= #[tb]) (C:P.underlying tb=some .bool)
 (BJ:(DataW.weightsEach P f.params.toList ds).all (· <=reachBytes)=true) (F:Γ.gi W):Calls P D args W λe o=>∃ v,e= .returned v/\ s.post enc P f false true false false W args v o:=by
 have I:=g;obtain ⟨p,q,J,hV,rfl,Hj,BA⟩:=g
 obtain ⟨y,K,h2⟩:=h enc W u args.toList ds p (λj t v a b=>B j t v (by simpa using a) (by simpa using b)) J λn hn=>by
  grind
 have M:(dv y).length=args.size:=by simpa using K
 have E: ∀ j,AL (λ_=>False) W ((dv y).getD j .any) [] (args.getD j undef):=λj=>by
  rcases zIg j args.size with hj | hj
  ·simp_all
  ·have:(dv y).getD j .any= .any:=by grind
   rw [this];trivial
 refine ((r W y E).2 (λ_=>False) [] W args (Se (λb c=>c.elim) F) ⟨M,λi hi=>?_⟩).mono ?_
 ·exact AL.out _ (D4 (λb c=>Q2.1 c) []) (E i)
 ·rintro e o ⟨v,rfl,G⟩;obtain ⟨ρ',_,d,_⟩:=G.ex;have d:v= .bool true:=d;subst d;exact ⟨_,rfl,zDb m l (G.ext rfl) I x z A C⟩
end
end
section
open Go.ChangeShapes Go.WideShapes Go.ChangeAt
def own:ownKnob Tryz.prog.godebug=none:=by kernel_rfl
def zFY:laidOutB Tryz.prog=true:=by kernel_rfl
def zLb:0<Tryz.prog.bytesOf 3:=zIi (by kernel_rfl)
def L5:Rd Tryz.prog 3 1 (λn:Int=>[.int .i64 n]):=Rd.int Tryz.underlying3 (by kernel_rfl)
def VJ:Rd Tryz.prog 22 1 AO:=Rd.ints Tryz.underlying22 (by kernel_rfl) zLb Tryz.underlying3 (by kernel_rfl)
def zC6:Rd Tryz.prog 23 1 (λL:List Ξ=>[.sl 1 L.length (AK AO L)]):=Rd.rows Tryz.underlying23 (by kernel_rfl) (zIi (by kernel_rfl)) zM3 VJ
set_option maxRecDepth 100000 in
def zC9:Rd Tryz.prog 53 9 BW:=by
 refine Rd.struct Tryz.underlying53 (by kernel_rfl)
  (FA.cons rfl L5<|FA.cons rfl VJ<|FA.cons rfl L5<|FA.cons rfl L5<|FA.cons rfl L5<|FA.cons rfl L5<|FA.cons rfl VJ<|FA.cons rfl L5<|FA.cons rfl L5<|FA.nil rfl)
  (λx:Int×Ξ×Int×Int×Int×Int×Ξ×Int×Int×Unit=>(⟨x.1,x.2.1,x.2.2.1,x.2.2.2.1,x.2.2.2.2.1,x.2.2.2.2.2.1,x.2.2.2.2.2.2.1,x.2.2.2.2.2.2.2.1,x.2.2.2.2.2.2.2.2.1⟩:AD)) ?_ (λ_=>rfl)
 intro x;rfl
def zC8:Rd Tryz.prog 24 1 (λL:List AD=>[.sl 9 L.length (AK BW L)]):=Rd.rows Tryz.underlying24 (by kernel_rfl) (zIi (by kernel_rfl)) (by decide) zC9
set_option maxRecDepth 100000 in
def zC7:Rd Tryz.prog 26 5 AH:=by
 refine Rd.struct Tryz.underlying26 (by kernel_rfl)
  (FA.cons rfl L5<|FA.cons rfl L5<|FA.cons rfl VJ<|FA.cons rfl zC6<|FA.cons rfl zC8<|FA.nil rfl)
  (λx:Int×Int×Ξ×List Ξ×List AD×Unit=>(⟨x.1,x.2.1,x.2.2.1,x.2.2.2.1,x.2.2.2.2.1⟩:AA)) ?_ (λ_=>rfl)
 intro x;rfl
def zBj:Jf Tryz.prog 26 (λq:AA=>.agg 5 (L1 (AH q))):=Jf.agg Tryz.underlying26 zC7
def zBk:Jf Tryz.prog 22 (λl:Ξ=>.ints l):=Jf.one Tryz.underlying22 VJ
def DJ.of {M:Ψ}{w:World}{ρ:List AI}{q:AA}{v:Value}(h:AL M w (.agg 5 (L1 (AH q))) ρ v):DJ q:=by
 obtain ⟨cs,_,_,l⟩:=h
 have row: ∀ {α:Type} [Inhabited α] {m:Nat} {c:α -> List DV} {L:List α} {u:Value},0<m -> AL M w (.sl m L.length (AK c L)) ρ u -> ∀ x∈L,∀ j,j<m -> ∃ u,AL M w ((c x).getD j .any) [] u:=by
  intro α _ m c L u hm ⟨a,cap,_,_,_,y⟩ x g j k;obtain ⟨i,hi,rfl⟩:=zG2 g;obtain ⟨b,o,u,_,_,_,d⟩:=y i j hi k;refine ⟨u,?_⟩;have e:L.getD i default=L[i]:=by simp [hi]
  have d:AL M w ((c (L.getD i default)).getD j .any) [] u:=d;rw [e] at d;exact d
 refine ⟨?_,λr d=>?_,λc f=>?_,λc f=>?_⟩
 ·obtain ⟨u,_,n⟩:=l 2 (by decide);exact Vx n
 ·obtain ⟨u,_,p⟩:=l 3 (by decide);obtain ⟨u,h⟩:=row (c:=AO) (L:=q.nbrs) zM3 p r d 0 zM3;exact Vx h
 ·obtain ⟨u,_,A⟩:=l 4 (by decide);obtain ⟨u,h⟩:=row (c:=BW) (L:=q.cons) (by decide) A c f 1 (by decide);exact Vx h
 ·obtain ⟨u,_,A⟩:=l 4 (by decide);obtain ⟨u,h⟩:=row (c:=BW) (L:=q.cons) (by decide) A c f 6 (by decide);exact Vx h
def uk:Tryz.prog.globalNamed "math/bits.deBruijn64tab" =some 1:=by kernel_rfl
def zJa:(Tryz.prog.globals[1]?).map (·.type)=some 194:=by kernel_rfl
abbrev iK {H:Type}:List (String×DataW H):=[("math/bits.deBruijn32tab",Rows.laid_math_bits_deBruijn32tab),("math/bits.deBruijn64tab",Rows.laid_math_bits_deBruijn64tab)]
variable {W:World}
def yd (h:laidMetH Tryz.prog iK W):Lib.TabIs Tryz.prog W "math/bits.deBruijn64tab" .u8 (Lib.deBruijn64tab.map Int.ofNat):=
 Lib.tabIs_of_head (rest:=[]) uk zJa Tryz.underlying194 Tryz.underlying5 (by kernel_rfl) (by kernel_rfl) (laidMet.tail (show laidMet Tryz.prog iK W from h))
def yc (h:laidMetH Tryz.prog iK W):GG.gi W:=by
 have T:=yd h;have c: ∀ j,j<64 -> W.cell? ⟨1,j,none⟩=some (.int .u8 ((Lib.deBruijn64tab.map Int.ofNat).getD j 0)):=λj e=>T.cell uk j (by rw [zGh];exact e)
 refine ⟨λj e=>?_,?_⟩
 ·have e:j<64:=e;rw [c j e]
  have:(Lib.deBruijn64tab.map Int.ofNat).getD j 0=((Lib.deBruijn64tab.getD j 0:Nat):Int):=by
   have m:j<Lib.deBruijn64tab.length:=e;simp [zGR,m]
  rw [this]
 ·have:=zIm W _ (c 0 (by decide));exact this
def sT (l:Θ)(o:Obj):Obj:=match o with
 | .cells _ t frozen=>.cells (l.map λn=>Value.int .u8 (Int.ofNat n)).toArray t frozen
 | o=>o
noncomputable def iJ (os:Os):World:= { World.holding Tryz.prog os ⟨#[],#[],[]⟩ with heap:=((World.holding Tryz.prog os ⟨#[],#[],[]⟩).heap.modify 0 (sT Lib.deBruijn32tab)).modify 1 (sT Lib.deBruijn64tab) }
def ZQ:Value:=.agg #[.int .i64 0,.int .i64 0,.slice none 0 0,.slice none 0 0,.slice none 0 0]
end
section
open Go.ChangeShapes Go.WideShapes Go.ChangeAt
def W8:Type:={n:Int//0<=n/\ n<256}
def Jf.u8 {P:Program}{t:TypeId}(a:P.underlying t=some (.int .u8)):Jf P t (λn:W8=>.int .u8 n.1):=λenc w EC v x ps o ⟨fuel,d⟩ hw=>by
 obtain ⟨n,rfl⟩:=okWide_int a o;obtain ⟨W,e,u⟩:=DataW.trod_int a d;have e:n=W:=by simpa [Value.cells] using e
 subst e;have u:(decide ((0:Int)<=n)&&decide (n<=255))=true:=u.2;simp only [zFW,zH6] at u;exact ⟨⟨n,by omega⟩,rfl⟩
structure Om (q:AA):Prop where
 nbrs:q.nbrs.length<=LB
 cons:q.cons.length<=LB
def Om.of {M:Ψ}{w:World}{ρ:List AI}{q:AA}{v:Value}(h:AL M w (.agg 5 (L1 (AH q))) ρ v):Om q:=by
 obtain ⟨cs,_,_,l⟩:=h;have row: ∀ {m k:Nat} {f:Nat -> Nat -> DV} {u:Value},AL M w (.sl m k f) ρ u -> k<=LB:=λ⟨_,_,_,_,h,_⟩=>h
 obtain ⟨_,_,a⟩:=l 3 (by decide);obtain ⟨_,_,A⟩:=l 4 (by decide);exact ⟨row a,row A⟩
end
end Go.Proofs.YtodinaconebmdaaGreatDoor
