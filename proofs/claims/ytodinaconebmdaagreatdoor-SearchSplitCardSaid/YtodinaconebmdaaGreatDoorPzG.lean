/- Part 7 of 8 of what the proofs of these laws stand on. -/
import Derived.Test.YtodinaconebmdaaGreatDoorPzF
import Derived.Test.YtodinaconebmdaaGreatDoorRows
import Derived.ProofKit
import Derived.OpenShut
import Derived.Deep.DeepHandedRow
import Derived.Lib.LaidTab
import Derived.Deep.Slices
import Derived.Stop.LaidErr
import Derived.Test.YtodinaconebmdaaGreatDoorCards
import Derived.Test.YtodinaconebmdaaGreatDoorTie
set_option linter.all false
namespace Go.Proofs.YtodinaconebmdaaGreatDoor
open Go.RowKit
section
set_option maxRecDepth 100000
set_option maxHeartbeats 40000000
def zBR:Ax (BA Tryz.f65 7) [] (List.range 15) []:=by unfold Ax;kernel_rfl
def Rb:Be:=λi=>match i with
 | 7=>.ord [] (List.range 15) []
 | _=>.no
inductive W7 where
 | l1 (x5:Int)
 | l2 (x5 x6:Int)
def W6 (n:Nat)(self:W7 -> Option Bool)(AM cells:Ξ)(Q:Int):Option Bool:= bif (decide (Q<(cells.length:Int))) then self (.l2 Q 0) else some true
def W5 (n:Nat)(self:W7 -> Option Bool)(T cells:Ξ)(Q J:Int):Option Bool:= bif (decide (J<Q)) then if (0<=Q/\ Q<(cells.length:Int))/\ (0<=(cells.getD Q.toNat 0)/\ (cells.getD Q.toNat 0)<(T.length:Int))/\ (0<=J/\ J<(cells.length:Int))/\ (0<=(cells.getD J.toNat 0)/\ (cells.getD J.toNat 0)<(T.length:Int)) then bif ((T.getD ((cells.getD Q.toNat 0).toNat) 0)==(T.getD ((cells.getD J.toNat 0).toNat) 0)) then some false else if AG (J+1) then self (.l2 Q (J+1)) else none else none else if AG (Q+1) then self (.l1 (Q+1)) else none
def zKO (n:Nat)(self:W7 -> Option Bool)(AM cells:Ξ):Option Bool:= self (.l1 0)
def Hm (T cells:Ξ):Nat -> W7 -> Option Bool
 | 0,_=>none
 | n+1,.l1 Q=>W6 n (Hm T cells n) T cells Q
 | n+1,.l2 Q J=>W5 n (Hm T cells n) T cells Q J
def b9 (n:Nat)(T cells:Ξ):Option Bool:=zKO n (Hm T cells n) T cells
def zKQ (n B:Nat)(N:Yd 0)(T cells:Ξ)(r:Bool):W7 -> Prop
 | .l1 Q=>∀ f:Nat,n<=f -> TW B N (FQ Tryz.f65 0 (.bool r) []) (Ah f (An (AR Tryz.f65) 0 [])) ⟨AF 33 [(0,.ints T),(1,.ints cells),(5,.i Q)],[]⟩
 | .l2 Q J=>∀ f V:Nat,n<=f -> n<=V -> TW B N (FQ Tryz.f65 0 (.bool r) []) (Ah V (An (AR Tryz.f65) 2 [f])) ⟨AF 33 [(0,.ints T),(1,.ints cells),(5,.i Q),(6,.i J)],[]⟩
def zKR (B:Nat)(N:Yd 0)(T cells:Ξ):Al (Hm T cells) (zKQ · B N T cells):=ia (λ_=>rfl) λn C b r h=>by
 cases b
 case l1 x5=>
  intro f a;refine rd a λf a=>?_
  revert r;apply gO;exact bi 10 (lN Rb [] (C _ _ · f n a Nat.le.refl)) (lE Rb [4] [])
 case l2 x5 x6=>
  intro f V a x;have a:=zGV a;refine rd x λV x=>?_
  revert r;apply gO;exact bi 15 (jg zBR (gc (gi (gc (gi (gc (gi (gi (bi 32 (lE Rb [4] []) (gw 17 (lG Rb [] (C _ _ · f V a x)))))))))))) (gw 12 (lG Rb [] (C _ _ · f a)))
variable {r:Bool}{T cells:Ξ}{n:Nat}
def zKN (h:b9 n T cells=some r):EQ 65 [.ints T,.ints cells] [] (.bool r) [] true:=by
 refine ot Tryz.func65 λB N=>?_
 revert r;apply gO;exact lN Rb [] ((zKR B N T cells n) _ _ · n Nat.le.refl)
inductive cF where
 | l1 (x7 x8:Int)
def XG (n:Nat)(self:cF -> Option Int)(T cells:Ξ)(m:Int)(Z x8:Int):Option Int:= bif (decide (x8<(cells.length:Int))) then if (0<=x8/\ x8<(cells.length:Int))/\ (0<=(cells.getD x8.toNat 0)/\ (cells.getD x8.toNat 0)<(T.length:Int)) then (IM n m (T.getD ((cells.getD x8.toNat 0).toNat) 0)).bind λk=> bif k then if AG (Z+1)/\ AG (x8+1) then self (.l1 (Z+1) (x8+1)) else none else if AG (x8+1) then self (.l1 Z (x8+1)) else none else none else some Z
def zKe (n:Nat)(self:cF -> Option Int)(AM cells:Ξ)(A2:Int):Option Int:= self (.l1 0 0)
def TV (T cells:Ξ)(m:Int):Nat -> cF -> Option Int
 | 0,_=>none
 | n+1,.l1 Z x8=>XG n (TV T cells m n) T cells m Z x8
def cG (n:Nat)(T cells:Ξ)(m:Int):Option Int:=zKe n (TV T cells m n) T cells m
def zKg (n B:Nat)(N:Yd 0)(T cells:Ξ)(m:Int)(r:Int):cF -> Prop
 | .l1 Z x8=>∀ f:Nat,n<=f -> TW B N (FQ Tryz.f66 0 (.i r) []) (Ah f (An (AR Tryz.f66) 0 [])) ⟨AF 27 [(0,.ints T),(1,.ints cells),(2,.i m),(7,.i Z),(8,.i x8)],[]⟩
def zKh (B:Nat)(N:Yd 0)(T cells:Ξ)(m:Int):Al (TV T cells m) (zKg · B N T cells m):=ia (λ_=>rfl) λn C b r h=>by
 cases b
 case l1 x7 x8=>
  intro f a;refine rd a λf a=>?_
  revert r;apply gO;exact bi 12 (gc (gi (gi (cf Kv [] λ_=>bi 23 (gc (gw 25 (gw 14 (lG AC [] (C _ _ · f a))))) (gw 14 (lG AC [] (C _ _ · f a))))))) (lE AC [6] [])
variable {m:Int}
def zKd {r:Int}(h:cG n T cells m=some r):EQ 66 [.ints T,.ints cells,.i m] [] (.i r) [] true:=by
 refine ot Tryz.func66 λB N=>?_
 revert r;apply gO;exact lN AC [] ((zKh B N T cells m n) _ _ · n Nat.le.refl)
inductive YA where
 | l1 (x7 x8:Int)
def UK (n:Nat)(self:YA -> Option Int)(a T cells:Ξ)(Z x8:Int):Option Int:= bif (decide (x8<(cells.length:Int))) then if (0<=x8/\ x8<(cells.length:Int))/\ (0<=(cells.getD x8.toNat 0)/\ (cells.getD x8.toNat 0)<(T.length:Int))/\ (0<=(T.getD ((cells.getD x8.toNat 0).toNat) 0)/\ (T.getD ((cells.getD x8.toNat 0).toNat) 0)<(a.length:Int))/\ AG (Z+(a.getD ((T.getD ((cells.getD x8.toNat 0).toNat) 0).toNat) 0))/\ AG (x8+1) then self (.l1 (Z+(a.getD ((T.getD ((cells.getD x8.toNat 0).toNat) 0).toNat) 0)) (x8+1)) else none else some Z
def yp (n:Nat)(self:YA -> Option Int)(values AM cells:Ξ):Option Int:= self (.l1 0 0)
def RQ (a T cells:Ξ):Nat -> YA -> Option Int
 | 0,_=>none
 | n+1,.l1 Z x8=>UK n (RQ a T cells n) a T cells Z x8
def YB (n:Nat)(a T cells:Ξ):Option Int:=yp n (RQ a T cells n) a T cells
def yt (n B:Nat)(N:Yd 0)(a T cells:Ξ)(r:Int):YA -> Prop
 | .l1 Z x8=>∀ f:Nat,n<=f -> TW B N (FQ Tryz.f67 0 (.i r) []) (Ah f (An (AR Tryz.f67) 0 [])) ⟨AF 28 [(0,.ints a),(1,.ints T),(2,.ints cells),(7,.i Z),(8,.i x8)],[]⟩
def yu (B:Nat)(N:Yd 0)(a T cells:Ξ):Al (RQ a T cells) (yt · B N a T cells):=ia (λ_=>rfl) λn C c r h=>by
 cases c
 case l1 x7 x8=>
  intro f b;refine rd b λf b=>?_
  revert r;apply gO;exact bi 12 (gc (gi (gc (gi (gc (gi (gc (gw 26 (gw 14 (lG AC [] (C _ _ · f b))))))))))) (lE AC [6] [])
variable {a:Ξ}
def yo {r:Int}(h:YB n a T cells=some r):EQ 67 [.ints a,.ints T,.ints cells] [] (.i r) [] true:=by
 refine ot Tryz.func67 λB N=>?_
 revert r;apply gO;exact lN AC [] ((yu B N a T cells n) _ _ · n Nat.le.refl)
def zAs:Ax (BA Tryz.f68 4) [] (List.range 22) []:=by unfold Ax;kernel_rfl
def Yb:Be:=λi=>match i with
 | 4=>.ord [] (List.range 22) []
 | _=>.no
inductive Y6 where
 | l1 (x7:Int)
def U7 (n:Nat)(self:Y6 -> Option Bool)(a T cells:Ξ)(Z:Int):Option Bool:= bif (decide (Z<(cells.length:Int))) then if AG (Z-1)/\ (0<=(Z-1)/\ (Z-1)<(cells.length:Int))/\ (0<=(cells.getD (((Z-1)).toNat) 0)/\ (cells.getD (((Z-1)).toNat) 0)<(T.length:Int))/\ (0<=(T.getD ((cells.getD (((Z-1)).toNat) 0).toNat) 0)/\ (T.getD ((cells.getD (((Z-1)).toNat) 0).toNat) 0)<(a.length:Int))/\ (0<=Z/\ Z<(cells.length:Int))/\ (0<=(cells.getD Z.toNat 0)/\ (cells.getD Z.toNat 0)<(T.length:Int))/\ (0<=(T.getD ((cells.getD Z.toNat 0).toNat) 0)/\ (T.getD ((cells.getD Z.toNat 0).toNat) 0)<(a.length:Int)) then bif (decide ((a.getD ((T.getD ((cells.getD (((Z-1)).toNat) 0).toNat) 0).toNat) 0)>=(a.getD ((T.getD ((cells.getD Z.toNat 0).toNat) 0).toNat) 0))) then some false else if AG (Z+1) then self (.l1 (Z+1)) else none else none else some true
def zCX (n:Nat)(self:Y6 -> Option Bool)(values AM cells:Ξ):Option Bool:= self (.l1 1)
def NM (a T cells:Ξ):Nat -> Y6 -> Option Bool
 | 0,_=>none
 | n+1,.l1 Z=>U7 n (NM a T cells n) a T cells Z
def Y7 (n:Nat)(a T cells:Ξ):Option Bool:=zCX n (NM a T cells n) a T cells
def zCZ (n B:Nat)(N:Yd 0)(a T cells:Ξ)(r:Bool):Y6 -> Prop
 | .l1 Z=>∀ f:Nat,n<=f -> TW B N (FQ Tryz.f68 0 (.bool r) []) (Ah f (An (AR Tryz.f68) 0 [])) ⟨AF 36 [(0,.ints a),(1,.ints T),(2,.ints cells),(7,.i Z)],[]⟩
def zCa (B:Nat)(N:Yd 0)(a T cells:Ξ):Al (NM a T cells) (zCZ · B N a T cells):=ia (λ_=>rfl) λn C c r h=>by
 cases c
 case l1 x7=>
  intro f b;refine rd b λf b=>?_
  revert r;apply gO;exact bi 11 (jg zAs (gc (gw 18 (gc (gi (gc (gi (gc (gi (gc (gi (gc (gi (gi (bi 35 (lE Yb [6] []) (gw 13 (lG Yb [] (C _ _ · f b)))))))))))))))))) (lE Yb [6] [])
def zCW (h:Y7 n a T cells=some r):EQ 68 [.ints a,.ints T,.ints cells] [] (.bool r) [] true:=by
 refine ot Tryz.func68 λB N=>?_
 revert r;apply gO;exact lN Yb [] ((zCa B N a T cells n) _ _ · n Nat.le.refl)
def zAg:Ax (BA Tryz.f69 6) [] (List.range 9) []:=by unfold Ax;kernel_rfl
def Ui:Be:=λi=>match i with
 | 6=>.ord [] (List.range 9) []
 | _=>.no
inductive Yi where
 | l1 (x5:Int)
def Un (n:Nat)(self:Yi -> Option Bool)(a S:Ξ)(Q:Int):Option Bool:= bif (decide (Q<(a.length:Int))) then if (0<=Q/\ Q<(a.length:Int))/\ (0<=Q/\ Q<(S.length:Int)) then bif ((a.getD Q.toNat 0) != (S.getD Q.toNat 0)) then some false else if AG (Q+1) then self (.l1 (Q+1)) else none else none else some true
def pE (n:Nat)(self:Yi -> Option Bool)(a S:Ξ):Option Bool:= bif ((a.length:Int) != (S.length:Int)) then some false else self (.l1 0)
def Rf (a S:Ξ):Nat -> Yi -> Option Bool
 | 0,_=>none
 | n+1,.l1 Q=>Un n (Rf a S n) a S Q
def Rg (n:Nat)(a S:Ξ):Option Bool:=pE n (Rf a S n) a S
def zAU (n B:Nat)(N:Yd 0)(a S:Ξ)(r:Bool):Yi -> Prop
 | .l1 Q=>∀ f:Nat,n<=f -> TW B N (FQ Tryz.f69 0 (.bool r) []) (Ah f (An (AR Tryz.f69) 0 [])) ⟨AF 26 [(0,.ints a),(1,.ints S),(5,.i Q)],[]⟩
def zAV (B:Nat)(N:Yd 0)(a S:Ξ):Al (Rf a S) (zAU · B N a S):=ia (λ_=>rfl) λn C c r h=>by
 cases c
 case l1 x5=>
  intro f b;refine rd b λf b=>?_
  revert r;apply gO;exact bi 14 (jg zAg (gc (gi (gi (bi 25 (lE Ui [4] []) (gw 16 (lG Ui [] (C _ _ · f b)))))))) (lE Ui [4] [])
def zAT {S:Ξ}(h:Rg n a S=some r):EQ 69 [.ints a,.ints S] [] (.bool r) [] true:=by
 refine ot Tryz.func69 λB N=>?_
 revert r;apply gO;exact bi 10 (lE Ui [4] []) (lN Ui [] ((zAV B N a S n) _ _ · n Nat.le.refl))
inductive Us where
 | l1 (x8 x9:Int)
 | l2 (x7:Nat) (x8 x9:Int) (o0:Ξ)
def Ur (n:Nat)(self:Us -> Option (Ξ))(T cells:Ξ)(m:Int)(x8 K:Int):Option (Ξ):= bif (decide (K<(cells.length:Int))) then if (0<=K/\ K<(cells.length:Int))/\ (0<=(cells.getD K.toNat 0)/\ (cells.getD K.toNat 0)<(T.length:Int)) then (IM n m (T.getD ((cells.getD K.toNat 0).toNat) 0)).bind λk=> bif k then if AG (x8+1)/\ AG (K+1) then self (.l1 (x8+1) (K+1)) else none else bif (decide (x8>0)) then if ((0=0/\ 1=([x8]:Ξ).length)/\ 0<([x8]:Ξ).length/\ ([x8]:Ξ).length<=Ay)/\ AG (K+1) then self (.l2 (([x8]:Ξ).length) 0 (K+1) ([x8]:Ξ)) else none else if AG (K+1) then self (.l1 0 (K+1)) else none else none else bif (decide (x8>0)) then if (0=0/\ 1=([x8]:Ξ).length)/\ 0<([x8]:Ξ).length/\ ([x8]:Ξ).length<=Ay then some ([x8]:Ξ) else none else some ([]:Ξ)
def Uq (n:Nat)(self:Us -> Option (Ξ))(T cells:Ξ)(m:Int)(Z:Nat)(x8 K:Int)(o0:Ξ):Option (Ξ):= bif (decide (K<(cells.length:Int))) then if (0<=K/\ K<(cells.length:Int))/\ (0<=(cells.getD K.toNat 0)/\ (cells.getD K.toNat 0)<(T.length:Int)) then (IM n m (T.getD ((cells.getD K.toNat 0).toNat) 0)).bind λk=> bif k then if AG (x8+1)/\ AG (K+1) then self (.l2 Z (x8+1) (K+1) o0) else none else bif (decide (x8>0)) then if ((0=0/\ 1=([x8]:Ξ).length)/\ (0=0/\ Z=o0.length)/\ o0.length+([x8]:Ξ).length<=Ay)/\ AG (K+1) then self (.l2 (o0.length+([x8]:Ξ).length) 0 (K+1) (o0++([x8]:Ξ))) else none else if AG (K+1) then self (.l2 Z 0 (K+1) o0) else none else none else bif (decide (x8>0)) then if (0=0/\ 1=([x8]:Ξ).length)/\ (0=0/\ Z=o0.length)/\ o0.length+([x8]:Ξ).length<=Ay then if o0.length+([x8]:Ξ).length=(o0++([x8]:Ξ)).length then some (o0++([x8]:Ξ)) else none else none else if Z=o0.length then some o0 else none
def zBn (n:Nat)(self:Us -> Option (Ξ))(AM cells:Ξ)(A2:Int):Option (Ξ):= self (.l1 0 0)
def F5 (T cells:Ξ)(m:Int):Nat -> Us -> Option (Ξ)
 | 0,_=>none
 | n+1,.l1 x8 K=>Ur n (F5 T cells m n) T cells m x8 K
 | n+1,.l2 Z x8 K o0=>Uq n (F5 T cells m n) T cells m Z x8 K o0
def Yr (n:Nat)(T cells:Ξ)(m:Int):Option (Ξ):=zBn n (F5 T cells m n) T cells m
def zBq (n B:Nat)(N:Yd 0)(T cells:Ξ)(m:Int)(r:Ξ):Us -> Prop
 | .l1 x8 K=>∀ f:Nat,n<=f -> TW B N (FQ Tryz.f70 0 (.ints r) []) (Ah f (An (AR Tryz.f70) 0 [])) ⟨AF 40 [(0,.ints T),(1,.ints cells),(2,.i m),(7,.nils),(8,.i x8),(9,.i K)],[]⟩
 | .l2 Z x8 K o0=>∀ f:Nat,n<=f -> TW B N (FQ Tryz.f70 0 (.ints r) []) (Ah f (An (AR Tryz.f70) 0 [])) ⟨AF 40 [(0,.ints T),(1,.ints cells),(2,.i m),(7,.msl 0 1 0 Z),(8,.i x8),(9,.i K)],[oI o0]⟩
def zBr (B:Nat)(N:Yd 0)(T cells:Ξ)(m:Int):Al (F5 T cells m) (zBq · B N T cells m):=ia (λ_=>rfl) λn C b r h=>by
 cases b
 case l1 x8 x9=>
  intro f a;refine rd a λf a=>?_
  revert r;apply gO;exact bi 13 (gc (gi (gi (cf Kv [] λ_=>bi 24 (gc (gw 26 (gw 15 (lG AC [] (C _ _ · f a))))) (bi 28 (gc (gi (gw 15 (lG AC [1] (C _ _ · f a))))) (gw 15 (lG AC [] (C _ _ · f a)))))))) (bi 34 (gi (lF λp=>ez AC [6] [1] p [0] (H0.g (Eq.refl (([x8]:Ξ).length))))) (lF λp=>el AC [6] [] p [] H0 [.nils] AN.ints_nil))
 case l2 x7 x8 x9 o0=>
  intro f a;refine rd a λf a=>?_
  revert r;apply gO;exact bi 13 (gc (gi (gi (cf Kv [oI o0] λ_=>bi 24 (gc (gw 26 (gw 15 (lG AC [0] (C _ _ · f a))))) (bi 28 (gc (gi (gw 15 (lG AC [2] (C _ _ · f a))))) (gw 15 (lG AC [0] (C _ _ · f a)))))))) (bi 34 (gi (gn λo=>lF λp=>ez AC [6] [2] p [0] (H0.g o))) (gn λq=>lF λp=>ez AC [6] [0] p [0] (H0.g q)))
def zBm {r:Ξ}(h:Yr n T cells m=some r):EQ 70 [.ints T,.ints cells,.i m] [] (.ints r) [] true:=by
 refine ot Tryz.func70 λB N=>?_
 revert r;apply gO;exact lN AC [] ((zBr B N T cells m n) _ _ · n Nat.le.refl)
inductive TX where
 | l1 (x7:Int)
 | l2 (x6:Nat) (x7:Int) (o0:List Ξ)
def Mi (n:Nat)(self:TX -> Option ((List Ξ)×Int))(E:List Ξ)(R:Ω)(Z:Int):Option ((List Ξ)×Int):= bif (decide (Z<(E.length:Int))) then if 0<=Z/\ Z<(R.length:Int) then bif (!(R.getD Z.toNat false)) then if AG (Z+1) then self (.l1 (Z+1)) else none else (Ku n E R Z).bind λk=> (NU n k).bind λG=> if (0:Int)<=0/\ 0<(G.length:Int) then bif ((G.getD 0 0)==Z) then if AG (Z+1) then self (.l2 (([G]:List Ξ).length) (Z+1) ([G]:List Ξ)) else none else if AG (Z+1) then self (.l1 (Z+1)) else none else none else none else some (([]:List Ξ),0)
def Mh (n:Nat)(self:TX -> Option ((List Ξ)×Int))(E:List Ξ)(R:Ω)(J:Nat)(Z:Int)(o0:List Ξ):Option ((List Ξ)×Int):= bif (decide (Z<(E.length:Int))) then if 0<=Z/\ Z<(R.length:Int) then bif (!(R.getD Z.toNat false)) then if AG (Z+1) then self (.l2 J (Z+1) o0) else none else (Ku n E R Z).bind λk=> (NU n k).bind λG=> if (0:Int)<=0/\ 0<(G.length:Int) then bif ((G.getD 0 0)==Z) then if J=o0.length/\ o0.length+([G]:List Ξ).length<=Ay/\ AG (Z+1) then self (.l2 (o0.length+([G]:List Ξ).length) (Z+1) (o0++([G]:List Ξ))) else none else if AG (Z+1) then self (.l2 J (Z+1) o0) else none else none else none else if J=o0.length then some (o0,0) else none
def zKx (n:Nat)(self:TX -> Option ((List Ξ)×Int))(E:List Ξ)(R:Ω):Option ((List Ξ)×Int):= (NT n E).bind λk=> bif (k != 0) then some (([]:List Ξ),120) else bif ((R.length:Int) != (E.length:Int)) then some (([]:List Ξ),1) else self (.l1 0)
def HB (E:List Ξ)(R:Ω):Nat -> TX -> Option ((List Ξ)×Int)
 | 0,_=>none
 | n+1,.l1 Z=>Mi n (HB E R n) E R Z
 | n+1,.l2 J Z o0=>Mh n (HB E R n) E R J Z o0
def cO (n:Nat)(E:List Ξ)(R:Ω):Option ((List Ξ)×Int):=zKx n (HB E R n) E R
def zKy (n B:Nat)(N:Yd 0)(E:List Ξ)(R:Ω)(r:(List Ξ)×Int):TX -> Prop
 | .l1 Z=>∀ f:Nat,n<=f -> TW B N (FQ Tryz.f94 0 (.tup 2 (L1 [.sl 1 r.1.length (AK AP r.1),.i r.2])) []) (Ah f (An (AR Tryz.f94) 0 [])) ⟨AF 43 [(0,.sl 1 E.length (AK AP E)),(1,.bools R),(6,.nils),(7,.i Z)],[]⟩
 | .l2 J Z o0=>∀ f:Nat,n<=f -> TW B N (FQ Tryz.f94 0 (.tup 2 (L1 [.sl 1 r.1.length (AK AP r.1),.i r.2])) []) (Ah f (An (AR Tryz.f94) 0 [])) ⟨AF 43 [(0,.sl 1 E.length (AK AP E)),(1,.bools R),(6,.msl 0 1 0 J),(7,.i Z)],[some (.arr 1 o0.length (AK AP o0))]⟩
def zKz (B:Nat)(N:Yd 0)(E:List Ξ)(R:Ω):Al (HB E R) (zKy · B N E R):=ia (λ_=>rfl) λn C b r h=>by
 cases b
 case l1 x7=>
  intro f a;refine rd a λf a=>?_
  revert r;apply gO;exact bi 20 (gi (bi 27 (gw 22 (lG AC [] (C _ _ · f a))) (cf fR [] λ_=>cf fU [] λG=>gi (bi 37 (ja 40 0 1 (El (c:=AP) (L:=([G]:List Ξ)) (vals:=[.ints G]) rfl ⟨⟨_,rfl,⟨Aw,trivial⟩⟩,trivial⟩) (jg (And.intro (And.intro (And.intro (Eq.refl 0) (Eq.refl 1)) (IR AP ([G]:List Ξ) (([G]:List Ξ).length) 1 λ_=>⟨rfl,rfl⟩)) (And.intro (by decide:0<1) (by decide:1<=Ay))) (gw 22 (lG AC [1] (C _ _ · f a))))) (gw 22 (lG AC [] (C _ _ · f a))))))) (lF λp=>el AC [4,5] [] p [] H0 [.nils,.i 0] (AN.tupL (l:=[.nils,.i 0]) (l':=[.sl 1 (([]:List Ξ).length) (AK AP ([]:List Ξ)),.i 0]) rfl ⟨(AN.sl_nil _ _),Aw,trivial⟩))
 case l2 x6 x7 o0=>
  intro f a;refine rd a λf a=>?_
  revert r;apply gO;exact bi 20 (gi (bi 27 (gw 22 (lG AC [0] (C _ _ · f a))) (cf fR [some (.arr 1 o0.length (AK AP o0))] λ_=>cf fU [some (.arr 1 o0.length (AK AP o0))] λG=>gi (bi 37 (ja 40 1 1 (El (c:=AP) (L:=([G]:List Ξ)) (vals:=[.ints G]) rfl ⟨⟨_,rfl,⟨Aw,trivial⟩⟩,trivial⟩) (gc (gn λs=>gc (gn λO=>jg (And.intro (And.intro (And.intro (Eq.refl 0) (Eq.refl 1)) (IR AP ([G]:List Ξ) (([G]:List Ξ).length) 1 λ_=>⟨rfl,rfl⟩)) (And.intro (And.intro (Eq.refl 0) s) O)) (ja 41 2 1 (Rn (enc:=(TP AP)) (L:=o0) (L':=([G]:List Ξ)) rfl rfl λ_ _ _ _=>Aw) (gw 22 (lG AC [2] (C _ _ · f a)))))))) (gw 22 (lG AC [0] (C _ _ · f a))))))) (gn λq=>lF λp=>ez AC [4,5] [0] p [0] (H0.g q))
variable {R:Ω}{E:List Ξ}
def vY {r:(List Ξ)×Int}(h:cO n E R=some r):EQ 94 [.sl 1 E.length (AK AP E),.bools R] [] (.tup 2 (L1 [.sl 1 r.1.length (AK AP r.1),.i r.2])) [] true:=by
 refine ot Tryz.func94 λB N=>?_
 revert r;apply gO;exact cf fM [] λ_=>bi 11 (lF λp=>el AC [4,5] [] p [] H0 [.nils,.i 120] (AN.tupL (l:=[.nils,.i 120]) (l':=[.sl 1 (([]:List Ξ).length) (AK AP ([]:List Ξ)),.i 120]) rfl ⟨(AN.sl_nil _ _),Aw,trivial⟩)) (bi 16 (lF λp=>el AC [4,5] [] p [] H0 [.nils,.i 1] (AN.tupL (l:=[.nils,.i 1]) (l':=[.sl 1 (([]:List Ξ).length) (AK AP ([]:List Ξ)),.i 1]) rfl ⟨(AN.sl_nil _ _),Aw,trivial⟩)) (lN AC [] ((zKz B N E R n) _ _ · n Nat.le.refl)))
inductive VA where
 | l1 (x6:Ξ) (x7:Ω) (x8:Int)
 | l2 (x6:Ξ) (x7:Ω) (x8 x9 x10:Int)
def U9 (n:Nat)(self:VA -> Option (Bool×Int))(g_:List Ξ)(AL:Ω)(J:Ξ)(Z:Ω)(x8:Int):Option (Bool×Int):= bif (decide (x8<(J.length:Int))) then self (.l2 J Z x8 0 0) else some (true,0)
def U8 (n:Nat)(self:VA -> Option (Bool×Int))(E:List Ξ)(R:Ω)(J:Ξ)(Z:Ω)(x8 K x10:Int):Option (Bool×Int):= if (0<=x8/\ x8<(J.length:Int))/\ (0<=(J.getD x8.toNat 0)/\ (J.getD x8.toNat 0)<(E.length:Int)) then bif (decide (x10<(((E.getD ((J.getD x8.toNat 0).toNat) []).length:Nat):Int))) then if (0<=x10/\ x10<(((E.getD ((J.getD x8.toNat 0).toNat) []).length:Nat):Int))/\ ((0:Int)<=((E.getD ((J.getD x8.toNat 0).toNat) []).getD x10.toNat 0)/\ ((E.getD ((J.getD x8.toNat 0).toNat) []).getD x10.toNat 0)<(R.length:Int)) then bif (R.getD (((E.getD ((J.getD x8.toNat 0).toNat) []).getD x10.toNat 0).toNat) false) then if AG (K+1)/\ AG (x10+1) then self (.l2 J Z x8 (K+1) (x10+1)) else none else if AG (x10+1) then self (.l2 J Z x8 K (x10+1)) else none else none else bif (K != 2) then some (false,0) else if 0<=(J.getD x8.toNat 0)/\ (J.getD x8.toNat 0)<(Z.length:Int) then bif (!(Z.getD ((J.getD x8.toNat 0).toNat) false)) then some (false,0) else if AG (x8+1) then self (.l1 J Z (x8+1)) else none else none else none
def zCc (n:Nat)(self:VA -> Option (Bool×Int))(E:List Ξ)(R:Ω):Option (Bool×Int):= (NT n E).bind λk=> bif (k != 0) then some (false,120) else bif ((R.length:Int) != (E.length:Int)) then some (false,1) else (NU n R).bind λG=> bif (decide ((G.length:Int)<3)) then some (false,0) else if (0:Int)<=0/\ 0<(G.length:Int) then (Ku n E R (G.getD 0 0)).bind λy3=> self (.l1 G y3 0) else none
def HQ (E:List Ξ)(R:Ω):Nat -> VA -> Option (Bool×Int)
 | 0,_=>none
 | n+1,.l1 J Z x8=>U9 n (HQ E R n) E R J Z x8
 | n+1,.l2 J Z x8 K x10=>U8 n (HQ E R n) E R J Z x8 K x10
def Y8 (n:Nat)(E:List Ξ)(R:Ω):Option (Bool×Int):=zCc n (HQ E R n) E R
def zCe (n B:Nat)(N:Yd 0)(E:List Ξ)(R:Ω)(r:Bool×Int):VA -> Prop
 | .l1 J Z x8=>∀ f:Nat,n<=f -> TW B N (FQ Tryz.f95 0 (.tup 2 (L1 [.bool r.1,.i r.2])) []) (Ah f (An (AR Tryz.f95) 0 [])) ⟨AF 75 [(0,.sl 1 E.length (AK AP E)),(1,.bools R),(6,.ints J),(7,.bools Z),(8,.i x8)],[]⟩
 | .l2 J Z x8 K x10=>∀ f V:Nat,n<=f -> n<=V -> TW B N (FQ Tryz.f95 0 (.tup 2 (L1 [.bool r.1,.i r.2])) []) (Ah V (An (AR Tryz.f95) 2 [f])) ⟨AF 75 [(0,.sl 1 E.length (AK AP E)),(1,.bools R),(6,.ints J),(7,.bools Z),(8,.i x8),(9,.i K),(10,.i x10)],[]⟩
def zCf (B:Nat)(N:Yd 0)(E:List Ξ)(R:Ω):Al (HQ E R) (zCe · B N E R):=ia (λ_=>rfl) λn C b r h=>by
 cases b
 case l1 x6 x7 x8=>
  intro f a;refine rd a λf a=>?_
  revert r;apply gO;exact bi 33 (lN AC [] (C _ _ · f n a Nat.le.refl)) (lE AC [4,5] [])
 case l2 x6 x7 x8 x9 x10=>
  intro f V a x;have a:=zGV a;refine rd x λV x=>?_
  revert r;apply gO;exact gc (gn λq=>jg q (gn λo=>jg o (bi 45 (jg q (jg o (gc (gi (gi (bi 60 (gc (gw 62 (gw 47 (lG AC [] (C _ _ · f V a x))))) (gw 47 (lG AC [] (C _ _ · f V a x))))))))) (bi 64 (lE AC [4,5] []) (jg q (gi (bi 73 (lE AC [4,5] []) (gw 35 (lG AC [] (C _ _ · f a))))))))))
def zCb {r:Bool×Int}(h:Y8 n E R=some r):EQ 95 [.sl 1 E.length (AK AP E),.bools R] [] (.tup 2 (L1 [.bool r.1,.i r.2])) [] true:=by
 refine ot Tryz.func95 λB N=>?_
 revert r;apply gO;exact cf fM [] λ_=>bi 13 (lE AC [4,5] []) (bi 18 (lE AC [4,5] []) (cf fU [] λ_=>bi 23 (lE AC [4,5] []) (gi (cf fR [] λ_=>lN AC [] ((zCf B N E R n) _ _ · n Nat.le.refl)))))
def zBG:Ax (BA Tryz.f74 5) [([0,1,2,3,4,5,6,7,8,9,10,11,12],13)] [14] [15]:=by unfold Ax;kernel_rfl
def eK:Be:=λi=>match i with
 | 5=>.ord [([0,1,2,3,4,5,6,7,8,9,10,11,12],13)] [14] [15]
 | _=>.no
inductive Z6 where
 | l1 (x8:Int) (o0:Ω)
def Vi (n:Nat)(self:Z6 -> Option (Ω))(T cells:Ξ)(m:Int)(x8:Int)(o0:Ω):Option (Ω):= bif (decide (x8<(cells.length:Int))) then if (0<=x8/\ x8<(cells.length:Int))/\ (0<=(cells.getD x8.toNat 0)/\ (cells.getD x8.toNat 0)<(T.length:Int)) then (IM n m (T.getD ((cells.getD x8.toNat 0).toNat) 0)).bind λk=> if 0+((cells.getD x8.toNat 0).toNat)<o0.length/\ AG (x8+1) then self (.l1 (x8+1) (o0.set (0+((cells.getD x8.toNat 0).toNat)) k)) else none else none else if T.length=o0.length then some o0 else none
def rt (n:Nat)(self:Z6 -> Option (Ω))(T cells:Ξ)(A2:Int):Option (Ω):= if ((T.length:Int):Int)=(T.length:Int)/\ 0<=(T.length:Int)/\ ((T.length:Int):Int)<=1000000000000 then self (.l1 0 (List.replicate T.length false)) else none
def SP (T cells:Ξ)(m:Int):Nat -> Z6 -> Option (Ω)
 | 0,_=>none
 | n+1,.l1 x8 o0=>Vi n (SP T cells m n) T cells m x8 o0
def PY (n:Nat)(T cells:Ξ)(m:Int):Option (Ω):=rt n (SP T cells m n) T cells m
def zEl (n B:Nat)(N:Yd 0)(T cells:Ξ)(m:Int)(r:Ω):Z6 -> Prop
 | .l1 x8 o0=>∀ f:Nat,n<=f -> TW B N (FQ Tryz.f74 0 (.bools r) []) (Ah f (An (AR Tryz.f74) 0 [])) ⟨AF 34 [(0,.ints T),(1,.ints cells),(2,.i m),(7,.msl 0 1 0 T.length),(8,.i x8)],[some (.bools o0)]⟩
def zEm (B:Nat)(N:Yd 0)(T cells:Ξ)(m:Int):Al (SP T cells m) (zEl · B N T cells m):=ia (λ_=>rfl) λn C b r h=>by
 cases b
 case l1 x8 o0=>
  intro f a;refine rd a λf a=>?_
  revert r;apply gO;exact bi 15 (jg zBG (gc (gn λq=>jg q (jg q (gn λo=>jg o (cf Kv [some (.bools o0)] λ_=>jg o (gc (gi (gw 17 (lG eK [0] (C _ _ · f a))))))))))) (gn λq=>lF λp=>ez eK [6] [0] p [0] (H0.g q))
def rq {r:Ω}(h:PY n T cells m=some r):EQ 74 [.ints T,.ints cells,.i m] [] (.bools r) [] true:=by
 refine ot Tryz.func74 λB N=>?_
 revert r;apply gO;exact gi (lN eK [0] ((zEm B N T cells m n) _ _ · n Nat.le.refl))
def vX (n:Nat)(t:List Ξ)(R:Ω):Option Bool:= (cO n t R).bind λk=> bif (k.2==0) then some (decide ((k.1.length:Int)<=1)) else some false
def XI (n:Nat)(t:List Ξ)(R:Ω):Option Bool:=vX n t R
variable {t:List Ξ}
def zKu (h:XI n t R=some r):EQ 73 [.sl 1 t.length (AK AP t),.bools R] [] (.bool r) [] true:=by
 unfold XI vX at h;refine ot Tryz.func73 λB N=>?_
 revert r;apply gO;exact cf vY [] λ_=>bi 14 (lE AC [4] []) (lE AC [4] [])
def sG (n:Nat)(t:List Ξ)(R:Ω):Option Bool:= (cO n t R).bind λk=> (Y8 n t R).bind λG=> bif (k.2==0) then bif (G.2==0) then bif ((k.1.length:Int)==0) then some true else some G.1 else some false else some false
def Vo (n:Nat)(t:List Ξ)(R:Ω):Option Bool:=sG n t R
def zE9 (h:Vo n t R=some r):EQ 75 [.sl 1 t.length (AK AP t),.bools R] [] (.bool r) [] true:=by
 unfold Vo sG at h;refine ot Tryz.func75 λB N=>?_
 revert r;apply gO;exact cf vY [] λ_=>cf zCb [] λ_=>bi 22 (bi 25 (bi 30 (lE AC [4] []) (lE AC [4] [])) (lE AC [4] [])) (lE AC [4] [])
def zBF:Ax (BA Tryz.f42 13) [([0,1,2,3,4,6,7],5),([],8)] [9] []:=by unfold Ax;kernel_rfl
def zBE:Ax (BA Tryz.f42 15) [([0,1,2,3,4,5,6,7,8,9,10,11,12,13,14,15,16,17,18,19,20,21,22,23],24)] [25] []:=by unfold Ax;kernel_rfl
def zBD:Ax (BA Tryz.f42 21) [([0,1,2,3,4,5,6],7),([],8)] [9] []:=by unfold Ax;kernel_rfl
def zBC:Ax (BA Tryz.f42 22) [([0,1,2,3,4,5,6],7),([],8)] [9] []:=by unfold Ax;kernel_rfl
def Lw:Be:=λi=>match i with
 | 13=>.ord [([0,1,2,3,4,6,7],5),([],8)] [9] []
 | 15=>.ord [([0,1,2,3,4,5,6,7,8,9,10,11,12,13,14,15,16,17,18,19,20,21,22,23],24)] [25] []
 | 21=>.ord [([0,1,2,3,4,5,6],7),([],8)] [9] []
 | 22=>.ord [([0,1,2,3,4,5,6],7),([],8)] [9] []
 | _=>.no
def K9 (n:Nat)(q:AA)(W:AD)(T:Ξ):Option Bool:= bif (W.kind==1) then (b9 n T W.cells).bind λk=> some k else bif (W.kind==2) then (cG n T W.cells W.set).bind λk=> bif (decide (W.lo<=k)) then some (decide (k<=W.hi)) else some false else bif (W.kind==3) then (YB n q.values T W.cells).bind λk=> bif (decide (W.lo<=k)) then some (decide (k<=W.hi)) else some false else bif (W.kind==4) then (Y7 n q.values T W.cells).bind λk=> some k else bif (W.kind==5) then (Yr n T W.cells W.set).bind λk=> (Rg n k W.runs).bind λG=> some G else bif (W.kind==6) then if ((0:Int)<=0/\ 0<(W.cells.length:Int))/\ (0<=(W.cells.getD 0 0)/\ (W.cells.getD 0 0)<(T.length:Int))/\ (0<=(T.getD ((W.cells.getD 0 0).toNat) 0)/\ (T.getD ((W.cells.getD 0 0).toNat) 0)<(q.values.length:Int))/\ ((0:Int)<=1/\ 1<(W.cells.length:Int))/\ (0<=(W.cells.getD 1 0)/\ (W.cells.getD 1 0)<(T.length:Int))/\ (0<=(T.getD ((W.cells.getD 1 0).toNat) 0)/\ (T.getD ((W.cells.getD 1 0).toNat) 0)<(q.values.length:Int)) then (fV n (q.values.getD ((T.getD ((W.cells.getD 0 0).toNat) 0).toNat) 0) (q.values.getD ((T.getD ((W.cells.getD 1 0).toNat) 0).toNat) 0) W.lo).bind λk=> some k else none else bif (W.kind==7) then if ((0:Int)<=0/\ 0<(W.cells.length:Int))/\ (0<=(W.cells.getD 0 0)/\ (W.cells.getD 0 0)<(T.length:Int))/\ ((0:Int)<=1/\ 1<(W.cells.length:Int))/\ (0<=(W.cells.getD 1 0)/\ (W.cells.getD 1 0)<(T.length:Int)) then (IM n W.set (T.getD ((W.cells.getD 0 0).toNat) 0)).bind λk=> bif k then (IM n W.other (T.getD ((W.cells.getD 1 0).toNat) 0)).bind λG=> bif (!G) then (IM n W.set (T.getD ((W.cells.getD 1 0).toNat) 0)).bind λy3=> bif y3 then (IM n W.other (T.getD ((W.cells.getD 0 0).toNat) 0)).bind λa=> some (!a) else some true else some false else (IM n W.set (T.getD ((W.cells.getD 1 0).toNat) 0)).bind λG=> bif G then (IM n W.other (T.getD ((W.cells.getD 0 0).toNat) 0)).bind λy3=> some (!y3) else some true else none else bif (W.kind==8) then (PY n T W.cells W.set).bind λk=> (XI n q.nbrs k).bind λG=> some G else (PY n T W.cells W.set).bind λk=> (Vo n q.nbrs k).bind λG=> some G
def GY (n:Nat)(q:AA)(W:AD)(T:Ξ):Option Bool:=K9 n q W T
variable {q:AA}
def zEj {W:AD}(h:GY n q W T=some r):EQ 42 [.agg 5 (L1 (AH q)),.agg 9 (L1 (BY W)),.ints T] [] (.bool r) [] true:=by
 refine ot Tryz.func42 λB N=>?_
 revert r;apply gO;exact bi 14 (cf zKN [oC (AH q),oC (BY W)] λ_=>lE AC [6] []) (bi 20 (cf zKd [oC (AH q),oC (BY W)] λ_=>bi 30 (lE AC [6] []) (lE AC [6] [])) (bi 38 (cf yo [oC (AH q),oC (BY W)] λ_=>bi 48 (lE AC [6] []) (lE AC [6] [])) (bi 56 (cf zCW [oC (AH q),oC (BY W)] λ_=>lE AC [6] []) (bi 64 (jg zBF (cf zBm [oC (AH q),oC (BY W)] λ_=>cf zAT [oC (AH q),oC (BY W)] λ_=>lE Lw [6] [])) (bi 75 (jg zBE (gc (gi (gc (gi (gc (gi (gc (gi (gc (gi (gi (cf zDH [oC (AH q),oC (BY W)] λ_=>lE Lw [6] []))))))))))))) (bi 102 (gc (gi (gc (gi (gc (gi (gi (cf Kv [oC (AH q),oC (BY W)] λ_=>bi 120 (cf Kv [oC (AH q),oC (BY W)] λ_=>bi 127 (cf Kv [oC (AH q),oC (BY W)] λ_=>bi 132 (cf Kv [oC (AH q),oC (BY W)] λ_=>lE Lw [6] []) (lE Lw [6] [])) (lE Lw [6] [])) (cf Kv [oC (AH q),oC (BY W)] λ_=>bi 132 (cf Kv [oC (AH q),oC (BY W)] λ_=>lE Lw [6] []) (lE Lw [6] [])))))))))) (bi 142 (jg zBD (cf rq [oC (AH q),oC (BY W)] λ_=>cf zKu [oC (AH q),oC (BY W)] λ_=>lE Lw [6] [])) (jg zBC (cf rq [oC (AH q),oC (BY W)] λ_=>cf zE9 [oC (AH q),oC (BY W)] λ_=>lE Lw [6] [])))))))))
inductive bZ where
 | l1 (x7:Int)
def Wk (n:Nat)(self:bZ -> Option Bool)(cells y:Int)(T:Ξ)(Z:Int):Option Bool:= bif (decide (Z<(T.length:Int))) then if 0<=Z/\ Z<(T.length:Int) then bif (decide ((T.getD Z.toNat 0)<0)) then some false else bif (decide ((T.getD Z.toNat 0)>=y)) then some false else if AG (Z+1) then self (.l1 (Z+1)) else none else none else some true
def um (n:Nat)(self:bZ -> Option Bool)(cells symbols:Int)(T:Ξ):Option Bool:= bif ((T.length:Int) != cells) then some false else self (.l1 0)
def TI (cells y:Int)(T:Ξ):Nat -> bZ -> Option Bool
 | 0,_=>none
 | n+1,.l1 Z=>Wk n (TI cells y T n) cells y T Z
def ba (n:Nat)(cells y:Int)(T:Ξ):Option Bool:=um n (TI cells y T n) cells y T
def zJY (n B:Nat)(N:Yd 0)(cells y:Int)(T:Ξ)(r:Bool):bZ -> Prop
 | .l1 Z=>∀ f:Nat,n<=f -> TW B N (FQ Tryz.f64 0 (.bool r) []) (Ah f (An (AR Tryz.f64) 0 [])) ⟨AF 31 [(1,.i y),(2,.ints T),(7,.i Z)],[]⟩
def zJZ (B:Nat)(N:Yd 0)(cells y:Int)(T:Ξ):Al (TI cells y T) (zJY · B N cells y T):=ia (λ_=>rfl) λn C b r h=>by
 cases b
 case l1 x7=>
  intro f a;refine rd a λf a=>?_
  revert r;apply gO;exact bi 15 (gn λq=>jg q (bi 22 (lE AC [6] []) (jg q (bi 29 (lE AC [6] []) (gw 17 (lG AC [] (C _ _ · f a))))))) (lE AC [6] [])
def zJX {cells y:Int}(h:ba n cells y T=some r):EQ 64 [.i cells,.i y,.ints T] [] (.bool r) [] true:=by
 refine ot Tryz.func64 λB N=>?_
 revert r;apply gO;exact bi 11 (lE AC [6] []) (lN AC [] ((zJZ B N cells y T n) _ _ · n Nat.le.refl))
def mj (n:Nat)(q:AA)(T:Ξ):Option Int:= (Ri n q).bind λk=> bif (k != 0) then some k else (ba n q.cells q.symbols T).bind λG=> bif (!G) then some 200 else some 0
def Xs (n:Nat)(q:AA)(T:Ξ):Option Int:=mj n q T
def xx {r:Int}(h:Xs n q T=some r):EQ 41 [.agg 5 (L1 (AH q)),.ints T] [] (.i r) [] true:=by
 unfold Xs mj at h;refine ot Tryz.func41 λB N=>?_
 revert r;apply gO;exact cf pM [oC (AH q)] λ_=>bi 9 (lE AC [4] []) (cf zJX [oC (AH q)] λ_=>bi 17 (lE AC [4] []) (lE AC [4] []))
def zAd:Ax (BA Tryz.f32 7) [([0,1,2,3,4,5,6],7)] [8] []:=by unfold Ax;kernel_rfl
def Ug:Be:=λi=>match i with
 | 7=>.ord [([0,1,2,3,4,5,6],7)] [8] []
 | _=>.no
inductive YG where
 | l1 (x7:Int)
def US (n:Nat)(self:YG -> Option (Bool×Int))(q:AA)(T:Ξ)(Z:Int):Option (Bool×Int):= bif (decide (Z<(q.cons.length:Int))) then if 0<=Z/\ Z<(q.cons.length:Int) then (GY n q (q.cons.getD Z.toNat default) T).bind λk=> bif (!k) then some (false,0) else if AG (Z+1) then self (.l1 (Z+1)) else none else none else some (true,0)
def zK (n:Nat)(self:YG -> Option (Bool×Int))(q:AA)(T:Ξ):Option (Bool×Int):= (Xs n q T).bind λk=> bif (k != 0) then some (false,k) else self (.l1 0)
def NA (q:AA)(T:Ξ):Nat -> YG -> Option (Bool×Int)
 | 0,_=>none
 | n+1,.l1 Z=>US n (NA q T n) q T Z
def Kl (n:Nat)(q:AA)(T:Ξ):Option (Bool×Int):=zK n (NA q T n) q T
def zM (n B:Nat)(N:Yd 0)(q:AA)(T:Ξ)(r:Bool×Int):YG -> Prop
 | .l1 Z=>∀ f:Nat,n<=f -> TW B N (FQ Tryz.f32 0 (.tup 2 (L1 [.bool r.1,.i r.2])) []) (Ah f (An (AR Tryz.f32) 0 [])) ⟨AF 30 [(1,.ints T),(2,.ref 0 0),(7,.i Z)],[oC (AH q)]⟩
def zN (B:Nat)(N:Yd 0)(q:AA)(T:Ξ):Al (NA q T) (zM · B N q T):=ia (λ_=>rfl) λn C b r h=>by
 cases b
 case l1 x7=>
  intro f a;refine rd a λf a=>?_
  revert r;apply gO;exact bi 18 (jg zAd (gi (cf zEj [oC (AH q)] λ_=>bi 29 (lE Ug [4,5] []) (gw 20 (lG Ug [0] (C _ _ · f a)))))) (lE Ug [4,5] [])
def du {r:Bool×Int}(h:Kl n q T=some r):EQ 32 [.agg 5 (L1 (AH q)),.ints T] [] (.tup 2 (L1 [.bool r.1,.i r.2])) [] true:=by
 refine ot Tryz.func32 λB N=>?_
 revert r;apply gO;exact cf xx [oC (AH q)] λ_=>bi 12 (lE Ug [4,5] []) (lN Ug [0] ((zN B N q T n) _ _ · n Nat.le.refl))
inductive YT where
 | l1 (x3 x4:Int)
def YS (n:Nat)(self:YT -> Option Int)(m:Int)(H K:Int):Option Int:= bif (decide (K<64)) then if (0<=IntKind.u64.wrap K/\ IntKind.u64.wrap K<=(IntKind.u64.bits:Int))/\ AG (H+(IntKind.i64.wrap (bits .and .u64 ((IntKind.u64.wrap m)/2 ^ (IntKind.u64.wrap K).toNat) 1)))/\ AG (K+1) then self (.l1 (H+(IntKind.i64.wrap (bits .and .u64 ((IntKind.u64.wrap m)/2 ^ (IntKind.u64.wrap K).toNat) 1))) (K+1)) else none else some H
def z7 (n:Nat)(self:YT -> Option Int)(A2:Int):Option Int:= self (.l1 0 0)
def RY (m:Int):Nat -> YT -> Option Int
 | 0,_=>none
 | n+1,.l1 H K=>YS n (RY m n) m H K
def YU (n:Nat)(m:Int):Option Int:=z7 n (RY m n) m
def zAA (n B:Nat)(N:Yd 0)(m:Int)(r:Int):YT -> Prop
 | .l1 H K=>∀ f:Nat,n<=f -> TW B N (FQ Tryz.f31 0 (.i r) []) (Ah f (An (AR Tryz.f31) 0 [])) ⟨AF 19 [(0,.i m),(3,.i H),(4,.i K)],[]⟩
def zAB (B:Nat)(N:Yd 0)(m:Int):Al (RY m) (zAA · B N m):=ia (λ_=>rfl) λn C b r h=>by
 cases b
 case l1 x3 x4=>
  intro f a;refine rd a λf a=>?_
  revert r;apply gO;exact bi 6 (gc (gi (gc (gw 17 (gw 8 (lG AC [] (C _ _ · f a))))))) (lE AC [2] [])
def z6 {r:Int}(h:YU n m=some r):EQ 31 [.i m] [] (.i r) [] true:=by
 refine ot Tryz.func31 λB N=>?_
 revert r;apply gO;exact lN AC [] ((zAB B N m n) _ _ · n Nat.le.refl)
inductive FY where
 | l1 (x6 Ik:Int)
 | l2 (x9:Nat) (Av:Int) (o1:List Ξ)
 | l3 (Ac Av:Int) (Ol:Nat) (B2:Int) (o1:List Ξ)
 | l4 (Ok:Nat) (DL:Int) (o1:List Ξ)
 | l5 (Ac:Int) (BS:Ξ) (A9 Av:Int) (CE:List Ξ) (B2 B4:Int)
 | l6 (x4:Nat) (Ca:List Ξ) (DL CD:Int) (o1:List Ξ)
 | l7 (Ca:List Ξ) (DL CD:Int)
 | l8 (Ac:Int) (A6:Nat) (BS:Ξ) (A9 Av:Int) (CE:List Ξ) (B2 B4:Int) (o1:List Ξ)
 | l9 (Ac Av:Int) (CE:List Ξ) (B2 B4:Int)
 | l10 (Ac:Int) (A6:Nat) (Av:Int) (CE:List Ξ) (B2 B4:Int) (o1:List Ξ)
 | l11 (Av:Int)
 | l12 (Ac Av:Int)
 | l13
def YM (n:Nat)(self:FY -> Option ((List Ξ)×Bool))(q:AA)(pos:Ξ)(J E:Int):Option ((List Ξ)×Bool):= bif (decide (E<(pos.length:Int))) then if 0<=E/\ E<(pos.length:Int) then (YU n (pos.getD E.toNat 0)).bind λk=> if AG (J*(if 1>k then 1 else k)) then bif (decide ((J*(if 1>k then 1 else k))>1024)) then some (([]:List Ξ),false) else if AG (E+1) then self (.l1 (J*(if 1>k then 1 else k)) (E+1)) else none else none else none else self (.l2 1 0 ([([]:Ξ)]:List Ξ))
def dz (n:Nat)(self:FY -> Option ((List Ξ)×Bool))(q:AA)(pos:Ξ)(K:Nat)(a:Int)(o1:List Ξ):Option ((List Ξ)×Bool):= bif (decide (a<(pos.length:Int))) then if 0<=a/\ a<(pos.length:Int) then self (.l3 (pos.getD a.toNat 0) a K (K:Int) o1) else none else self (.l4 K (K:Int) o1)
def dy (n:Nat)(self:FY -> Option ((List Ξ)×Bool))(q:AA)(pos:Ξ)(O a:Int)(S:Nat)(b:Int)(o1:List Ξ):Option ((List Ξ)×Bool):= bif (decide (0<b)) then if S=o1.length then if (0:Int)<=0/\ 0<(o1.length:Int) then self (.l5 O (o1.getD 0 []) 0 a o1 b 0) else none else none else if AG (a+1) then self (.l11 (a+1)) else none
def dx (n:Nat)(self:FY -> Option ((List Ξ)×Bool))(q:AA)(pos:Ξ)(T:Nat)(r:Int)(o1:List Ξ):Option ((List Ξ)×Bool):= bif (decide (0<r)) then if T=o1.length then if (0:Int)<=0/\ 0<(o1.length:Int) then (Kl n q (o1.getD 0 [])).bind λk=> bif k.1 then self (.l6 (([(o1.getD 0 [])]:List Ξ).length) o1 r 1 ([(o1.getD 0 [])]:List Ξ)) else self (.l7 o1 r 1) else none else none else some (([]:List Ξ),true)
def O5 (n:Nat)(self:FY -> Option ((List Ξ)×Bool))(q:AA)(pos:Ξ)(O:Int)(u:Ξ)(z a:Int)(L:List Ξ)(b v:Int):Option ((List Ξ)×Bool):= bif (decide (z<q.symbols)) then if 0<=IntKind.u64.wrap z/\ IntKind.u64.wrap z<=(IntKind.i64.bits:Int) then bif ((bits .and .i64 (O/2 ^ (IntKind.u64.wrap z).toNat) 1)==1) then if ((True)/\ (0=0/\ 0=([]:Ξ).length)/\ ([]:Ξ).length+u.length<=Ay)/\ (([]:Ξ)++u).length+([z]:Ξ).length=((([]:Ξ)++u)++([z]:Ξ)).length/\ ((0=0/\ 1=([z]:Ξ).length)/\ (0=0/\ ([]:Ξ).length+u.length=(([]:Ξ)++u).length)/\ (([]:Ξ)++u).length+([z]:Ξ).length<=Ay)/\ AG (z+1) then self (.l8 O (([(([]:Ξ)++u)++([z]:Ξ)]:List Ξ).length) u (z+1) a L b v ([(([]:Ξ)++u)++([z]:Ξ)]:List Ξ)) else none else if AG (z+1) then self (.l5 O u (z+1) a L b v) else none else none else if AG (v+1) then self (.l9 O a L b (v+1)) else none
def YK (n:Nat)(self:FY -> Option ((List Ξ)×Bool))(q:AA)(pos:Ξ)(K:Nat)(e:List Ξ)(r w:Int)(o1:List Ξ):Option ((List Ξ)×Bool):= bif (decide (w<r)) then if 0<=w/\ w<(e.length:Int) then (Kl n q (e.getD w.toNat [])).bind λk=> bif k.1 then if K=o1.length/\ o1.length+([(e.getD w.toNat [])]:List Ξ).length<=Ay/\ AG (w+1) then self (.l6 (o1.length+([(e.getD w.toNat [])]:List Ξ).length) e r (w+1) (o1++([(e.getD w.toNat [])]:List Ξ))) else none else if AG (w+1) then self (.l6 K e r (w+1) o1) else none else none else if K=o1.length then some (o1,true) else none
def YJ (n:Nat)(self:FY -> Option ((List Ξ)×Bool))(q:AA)(pos:Ξ)(e:List Ξ)(r w:Int):Option ((List Ξ)×Bool):= bif (decide (w<r)) then if 0<=w/\ w<(e.length:Int) then (Kl n q (e.getD w.toNat [])).bind λk=> bif k.1 then if AG (w+1) then self (.l6 (([(e.getD w.toNat [])]:List Ξ).length) e r (w+1) ([(e.getD w.toNat [])]:List Ξ)) else none else if AG (w+1) then self (.l7 e r (w+1)) else none else none else some (([]:List Ξ),true)
def O4 (n:Nat)(self:FY -> Option ((List Ξ)×Bool))(q:AA)(pos:Ξ)(O:Int)(C:Nat)(u:Ξ)(z a:Int)(L:List Ξ)(b v:Int)(o1:List Ξ):Option ((List Ξ)×Bool):= bif (decide (z<q.symbols)) then if 0<=IntKind.u64.wrap z/\ IntKind.u64.wrap z<=(IntKind.i64.bits:Int) then bif ((bits .and .i64 (O/2 ^ (IntKind.u64.wrap z).toNat) 1)==1) then if ((True)/\ (0=0/\ 0=([]:Ξ).length)/\ ([]:Ξ).length+u.length<=Ay)/\ (([]:Ξ)++u).length+([z]:Ξ).length=((([]:Ξ)++u)++([z]:Ξ)).length/\ ((0=0/\ 1=([z]:Ξ).length)/\ (0=0/\ ([]:Ξ).length+u.length=(([]:Ξ)++u).length)/\ (([]:Ξ)++u).length+([z]:Ξ).length<=Ay)/\ C=o1.length/\ o1.length+([(([]:Ξ)++u)++([z]:Ξ)]:List Ξ).length<=Ay/\ AG (z+1) then self (.l8 O (o1.length+([(([]:Ξ)++u)++([z]:Ξ)]:List Ξ).length) u (z+1) a L b v (o1++([(([]:Ξ)++u)++([z]:Ξ)]:List Ξ))) else none else if AG (z+1) then self (.l8 O C u (z+1) a L b v o1) else none else none else if AG (v+1) then self (.l10 O C a L b (v+1) o1) else none
def YI (n:Nat)(self:FY -> Option ((List Ξ)×Bool))(q:AA)(pos:Ξ)(O a:Int)(L:List Ξ)(b v:Int):Option ((List Ξ)×Bool):= bif (decide (v<b)) then if 0<=v/\ v<(L.length:Int) then self (.l5 O (L.getD v.toNat []) 0 a L b v) else none else if AG (a+1) then self (.l11 (a+1)) else none
def YL (n:Nat)(self:FY -> Option ((List Ξ)×Bool))(q:AA)(pos:Ξ)(O:Int)(C:Nat)(a:Int)(L:List Ξ)(b v:Int)(o1:List Ξ):Option ((List Ξ)×Bool):= bif (decide (v<b)) then if 0<=v/\ v<(L.length:Int) then self (.l8 O C (L.getD v.toNat []) 0 a L b v o1) else none else if AG (a+1) then self (.l2 C (a+1) o1) else none
def UY (n:Nat)(self:FY -> Option ((List Ξ)×Bool))(q:AA)(pos:Ξ)(a:Int):Option ((List Ξ)×Bool):= bif (decide (a<(pos.length:Int))) then if 0<=a/\ a<(pos.length:Int) then self (.l12 (pos.getD a.toNat 0) a) else none else self (.l13)
def d5 (n:Nat)(self:FY -> Option ((List Ξ)×Bool))(q:AA)(pos:Ξ)(Ac a:Int):Option ((List Ξ)×Bool):= if AG (a+1) then self (.l11 (a+1)) else none
def za (n:Nat)(self:FY -> Option ((List Ξ)×Bool))(q:AA)(pos:Ξ):Option ((List Ξ)×Bool):= some (([]:List Ξ),true)
def zb (n:Nat)(self:FY -> Option ((List Ξ)×Bool))(q:AA)(pos:Ξ):Option ((List Ξ)×Bool):= (bk n q).bind λk=> bif (!k) then some (([]:List Ξ),false) else (Uy n q pos).bind λG=> bif (G != 0) then some (([]:List Ξ),false) else self (.l1 1 0)
def Bu (q:AA)(pos:Ξ):Nat -> FY -> Option ((List Ξ)×Bool)
 | 0,_=>none
 | n+1,.l1 J E=>YM n (Bu q pos n) q pos J E
 | n+1,.l2 K a o1=>dz n (Bu q pos n) q pos K a o1
 | n+1,.l3 O a S b o1=>dy n (Bu q pos n) q pos O a S b o1
 | n+1,.l4 T r o1=>dx n (Bu q pos n) q pos T r o1
 | n+1,.l5 O u z a L b v=>O5 n (Bu q pos n) q pos O u z a L b v
 | n+1,.l6 c e r w o1=>YK n (Bu q pos n) q pos c e r w o1
 | n+1,.l7 e r w=>YJ n (Bu q pos n) q pos e r w
 | n+1,.l8 O C u z a L b v o1=>O4 n (Bu q pos n) q pos O C u z a L b v o1
 | n+1,.l9 O a L b v=>YI n (Bu q pos n) q pos O a L b v
 | n+1,.l10 O C a L b v o1=>YL n (Bu q pos n) q pos O C a L b v o1
 | n+1,.l11 a=>UY n (Bu q pos n) q pos a
 | n+1,.l12 O a=>d5 n (Bu q pos n) q pos O a
 | n+1,.l13=>za n (Bu q pos n) q pos
def d8 (n:Nat)(q:AA)(pos:Ξ):Option ((List Ξ)×Bool):=zb n (Bu q pos n) q pos
def zc (n B:Nat)(N:Yd 0)(q:AA)(pos:Ξ)(r:(List Ξ)×Bool):FY -> Prop
 | .l1 J d=>∀ f:Nat,n<=f -> TW B N (FQ Tryz.f18 0 (.tup 2 (L1 [.sl 1 r.1.length (AK AP r.1),.bool r.2])) []) (Ah f (An (AR Tryz.f18) 0 [])) ⟨AF 99 [(1,.ints pos),(2,.ref 0 0),(4,.nils),(6,.i J),(29,.ints pos),(30,.i (pos.length:Int)),(31,.i d)],[oC (AH q)]⟩
 | .l2 K a o1=>∀ f:Nat,n<=f -> TW B N (FQ Tryz.f18 0 (.tup 2 (L1 [.sl 1 r.1.length (AK AP r.1),.bool r.2])) []) (Ah f (An (AR Tryz.f18) 2 [])) ⟨AF 99 [(2,.ref 0 0),(4,.nils),(9,.msl 1 1 0 K),(44,.ints pos),(45,.i (pos.length:Int)),(46,.i a)],[oC (AH q),some (.arr 1 o1.length (AK AP o1))]⟩
 | .l3 O a S b o1=>∀ f V:Nat,n<=f -> n<=V -> TW B N (FQ Tryz.f18 0 (.tup 2 (L1 [.sl 1 r.1.length (AK AP r.1),.bool r.2])) []) (Ah V (An (AR Tryz.f18) 4 [f])) ⟨AF 99 [(2,.ref 0 0),(4,.nils),(11,.i O),(12,.nils),(44,.ints pos),(45,.i (pos.length:Int)),(46,.i a),(50,.msl 1 1 0 S),(51,.i b),(52,.i 0)],[oC (AH q),some (.arr 1 o1.length (AK AP o1))]⟩
 | .l4 T c o1=>∀ f:Nat,n<=f -> TW B N (FQ Tryz.f18 0 (.tup 2 (L1 [.sl 1 r.1.length (AK AP r.1),.bool r.2])) []) (Ah f (An (AR Tryz.f18) 8 [])) ⟨AF 99 [(2,.ref 0 0),(4,.nils),(80,.msl 1 1 0 T),(81,.i c),(82,.i 0)],[oC (AH q),some (.arr 1 o1.length (AK AP o1))]⟩
 | .l5 O u z a L b v=>∀ f V E:Nat,n<=f -> n<=V -> n<=E -> TW B N (FQ Tryz.f18 0 (.tup 2 (L1 [.sl 1 r.1.length (AK AP r.1),.bool r.2])) []) (Ah E (An (AR Tryz.f18) 6 [f,V])) ⟨AF 99 [(2,.ref 0 0),(4,.nils),(11,.i O),(12,.nils),(14,.ints u),(15,.i z),(44,.ints pos),(45,.i (pos.length:Int)),(46,.i a),(50,.sl 1 L.length (AK AP L)),(51,.i b),(52,.i v)],[oC (AH q)]⟩
 | .l6 g e c w o1=>∀ f:Nat,n<=f -> TW B N (FQ Tryz.f18 0 (.tup 2 (L1 [.sl 1 r.1.length (AK AP r.1),.bool r.2])) []) (Ah f (An (AR Tryz.f18) 8 [])) ⟨AF 99 [(2,.ref 0 0),(4,.msl 1 1 0 g),(80,.sl 1 e.length (AK AP e)),(81,.i c),(82,.i w)],[oC (AH q),some (.arr 1 o1.length (AK AP o1))]⟩
 | .l7 e c w=>∀ f:Nat,n<=f -> TW B N (FQ Tryz.f18 0 (.tup 2 (L1 [.sl 1 r.1.length (AK AP r.1),.bool r.2])) []) (Ah f (An (AR Tryz.f18) 8 [])) ⟨AF 99 [(2,.ref 0 0),(4,.nils),(80,.sl 1 e.length (AK AP e)),(81,.i c),(82,.i w)],[oC (AH q)]⟩
 | .l8 O C u z a L b v o1=>∀ f V E:Nat,n<=f -> n<=V -> n<=E -> TW B N (FQ Tryz.f18 0 (.tup 2 (L1 [.sl 1 r.1.length (AK AP r.1),.bool r.2])) []) (Ah E (An (AR Tryz.f18) 6 [f,V])) ⟨AF 99 [(2,.ref 0 0),(4,.nils),(11,.i O),(12,.msl 1 1 0 C),(14,.ints u),(15,.i z),(44,.ints pos),(45,.i (pos.length:Int)),(46,.i a),(50,.sl 1 L.length (AK AP L)),(51,.i b),(52,.i v)],[oC (AH q),some (.arr 1 o1.length (AK AP o1))]⟩
 | .l9 O a L b v=>∀ f V:Nat,n<=f -> n<=V -> TW B N (FQ Tryz.f18 0 (.tup 2 (L1 [.sl 1 r.1.length (AK AP r.1),.bool r.2])) []) (Ah V (An (AR Tryz.f18) 4 [f])) ⟨AF 99 [(2,.ref 0 0),(4,.nils),(11,.i O),(12,.nils),(44,.ints pos),(45,.i (pos.length:Int)),(46,.i a),(50,.sl 1 L.length (AK AP L)),(51,.i b),(52,.i v)],[oC (AH q)]⟩
 | .l10 O C a L b v o1=>∀ f V:Nat,n<=f -> n<=V -> TW B N (FQ Tryz.f18 0 (.tup 2 (L1 [.sl 1 r.1.length (AK AP r.1),.bool r.2])) []) (Ah V (An (AR Tryz.f18) 4 [f])) ⟨AF 99 [(2,.ref 0 0),(4,.nils),(11,.i O),(12,.msl 1 1 0 C),(44,.ints pos),(45,.i (pos.length:Int)),(46,.i a),(50,.sl 1 L.length (AK AP L)),(51,.i b),(52,.i v)],[oC (AH q),some (.arr 1 o1.length (AK AP o1))]⟩
 | .l11 a=>∀ f:Nat,n<=f -> TW B N (FQ Tryz.f18 0 (.tup 2 (L1 [.sl 1 r.1.length (AK AP r.1),.bool r.2])) []) (Ah f (An (AR Tryz.f18) 2 [])) ⟨AF 99 [(2,.ref 0 0),(4,.nils),(9,.nils),(44,.ints pos),(45,.i (pos.length:Int)),(46,.i a)],[oC (AH q)]⟩
 | .l12 O a=>∀ f V:Nat,n<=f -> n<=V -> TW B N (FQ Tryz.f18 0 (.tup 2 (L1 [.sl 1 r.1.length (AK AP r.1),.bool r.2])) []) (Ah V (An (AR Tryz.f18) 4 [f])) ⟨AF 99 [(2,.ref 0 0),(4,.nils),(11,.i O),(12,.nils),(44,.ints pos),(45,.i (pos.length:Int)),(46,.i a),(50,.nils),(51,.i 0),(52,.i 0)],[oC (AH q)]⟩
 | .l13=>∀ f:Nat,n<=f -> TW B N (FQ Tryz.f18 0 (.tup 2 (L1 [.sl 1 r.1.length (AK AP r.1),.bool r.2])) []) (Ah f (An (AR Tryz.f18) 8 [])) ⟨AF 99 [(2,.ref 0 0),(4,.nils),(80,.nils),(81,.i 0),(82,.i 0)],[oC (AH q)]⟩
def zd (B:Nat)(N:Yd 0)(q:AA)(pos:Ξ):Al (Bu q pos) (zc · B N q pos):=ia (λ_=>rfl) λn C d r h=>by
 cases d
 case l1 x6 Ik=>
  intro f a;refine rd a λf a=>?_
  revert r;apply gO;exact bi 32 (gi (cf z6 [oC (AH q)] λ_=>gw 39 (bi 41 (lF λp=>el AC [4,5] [] p [] H0 [.nils,.bool false] (AN.tupL (l:=[.nils,.bool false]) (l':=[.sl 1 (([]:List Ξ).length) (AK AP ([]:List Ξ)),.bool false]) rfl ⟨(AN.sl_nil _ _),Aw,trivial⟩)) (gw 42 (lG AC [0] (C _ _ · f a)))))) (ja 43 1 1 (El (c:=AP) (L:=([([]:Ξ)]:List Ξ)) (vals:=[.nils]) rfl ⟨⟨_,rfl,⟨AN.ints_nil,trivial⟩⟩,trivial⟩) (lN AC [0,1] (C _ _ · n Nat.le.refl)))
 case l2 x9 Av o1=>
  intro f a;refine rd a λf a=>?_
  revert r;apply gO;exact bi 47 (gi (lN AC [0,1] (C _ _ · f n a Nat.le.refl))) (lN AC [0,1] (C _ _ · n Nat.le.refl))
 case l3 Ac Av Ol B2 o1=>
  intro f V a x;have a:=zGV a;refine rd x λV x=>?_
  revert r;apply gO
  exact bi 53 (gn λb=>λp r h=>by
   refine gz (Ab 18 AC) [0,1] p [1] (H0.g b) (EP (AR Tryz.f18) 18 [f,V]) (AF 99 [(2,.ref 0 0),(4,.nils),(11,.i Ac),(12,.nils),(44,.ints pos),(45,.i (pos.length:Int)),(46,.i Av),(50,.sl 1 o1.length (AK AP o1)),(51,.i B2),(52,.i 0)]) [oC (AH q),none] ?_;revert r;apply gO;exact gi (lN AC [0] (C _ _ · f V n a x Nat.le.refl))) (gw 79 (lG AC [0] (C _ _ · f a)))
 case l4 Ok DL o1=>
  intro f a;refine rd a λf a=>?_
  revert r;apply gO
  exact bi 83 (gn λb=>λp r h=>by
   refine gz (Ab 29 AC) [0,1] p [1] (H0.g b) (EP (AR Tryz.f18) 29 [f]) (AF 99 [(2,.ref 0 0),(4,.nils),(80,.sl 1 o1.length (AK AP o1)),(81,.i DL),(82,.i 0)]) [oC (AH q),none] ?_;revert r;apply gO;exact gi (cf du [oC (AH q),none] λ_=>bi 90 (ja 95 2 1 (El (c:=AP) (L:=([(o1.getD 0 [])]:List Ξ)) (vals:=[.ints (o1.getD 0 [])]) rfl ⟨⟨_,rfl,⟨Aw,trivial⟩⟩,trivial⟩) (jg (And.intro (And.intro (And.intro (Eq.refl 0) (Eq.refl 1)) (IR AP ([(o1.getD 0 [])]:List Ξ) (([(o1.getD 0 [])]:List Ξ).length) 1 λ_=>⟨rfl,rfl⟩)) (And.intro (by decide:0<1) (by decide:1<=Ay))) (lG AC [0,3] (C _ _ · f a)))) (lG AC [0] (C _ _ · f a)))) (lF λp=>el AC [4,5] [] p [] H0 [.nils,.bool true] (AN.tupL (l:=[.nils,.bool true]) (l':=[.sl 1 (([]:List Ξ).length) (AK AP ([]:List Ξ)),.bool true]) rfl ⟨(AN.sl_nil _ _),Aw,trivial⟩))
 case l5 Ac BS A9 Av CE B2 B4=>
  intro f V E a x k;have a:=zGV a;have x:=zGV x;refine rd k λE k=>?_
  revert r;apply gO;exact bi 59 (gi (bi 67 (gc (gi (gc (gn λs=>gc (gi (jz 74 4 (jg s (ja 75 5 1 (El (c:=AP) (L:=([(([]:Ξ)++BS)++([A9]:Ξ)]:List Ξ)) (vals:=[.ints ((([]:Ξ)++BS)++([A9]:Ξ))]) rfl ⟨⟨_,rfl,⟨Aw,trivial⟩⟩,trivial⟩) (jg (And.intro (And.intro (And.intro (Eq.refl 0) (Eq.refl 1)) (IR AP ([(([]:Ξ)++BS)++([A9]:Ξ)]:List Ξ) (([(([]:Ξ)++BS)++([A9]:Ξ)]:List Ξ).length) 1 λ_=>⟨rfl,rfl⟩)) (And.intro (by decide:0<1) (by decide:1<=Ay))) (gw 61 (lG AC [0,6] (C _ _ · f V E a x k)))))))))))) (gw 61 (lG AC [0] (C _ _ · f V E a x k))))) (gw 77 (lG AC [0] (C _ _ · f V a x)))
 case l6 x4 Ca DL CD o1=>
  intro f a;refine rd a λf a=>?_
  revert r;apply gO;exact bi 83 (gi (cf du [oC (AH q),some (.arr 1 o1.length (AK AP o1))] λ_=>bi 90 (ja 95 2 1 (El (c:=AP) (L:=([(Ca.getD CD.toNat [])]:List Ξ)) (vals:=[.ints (Ca.getD CD.toNat [])]) rfl ⟨⟨_,rfl,⟨Aw,trivial⟩⟩,trivial⟩) (gc (gn λo=>gc (gn λs=>jg (And.intro (And.intro (And.intro (Eq.refl 0) (Eq.refl 1)) (IR AP ([(Ca.getD CD.toNat [])]:List Ξ) (([(Ca.getD CD.toNat [])]:List Ξ).length) 1 λ_=>⟨rfl,rfl⟩)) (And.intro (And.intro (Eq.refl 0) o) s)) (ja 96 3 1 (Rn (enc:=(TP AP)) (L:=o1) (L':=([(Ca.getD CD.toNat [])]:List Ξ)) rfl rfl λ_ _ _ _=>Aw) (gw 97 (lG AC [0,3] (C _ _ · f a)))))))) (gw 97 (lG AC [0,1] (C _ _ · f a))))) (gn λb=>lF λp=>ez AC [4,5] [1] p [0] (H0.g b))
 case l7 Ca DL CD=>
  intro f a;refine rd a λf a=>?_
  revert r;apply gO;exact bi 83 (gi (cf du [oC (AH q)] λ_=>bi 90 (ja 95 1 1 (El (c:=AP) (L:=([(Ca.getD CD.toNat [])]:List Ξ)) (vals:=[.ints (Ca.getD CD.toNat [])]) rfl ⟨⟨_,rfl,⟨Aw,trivial⟩⟩,trivial⟩) (jg (And.intro (And.intro (And.intro (Eq.refl 0) (Eq.refl 1)) (IR AP ([(Ca.getD CD.toNat [])]:List Ξ) (([(Ca.getD CD.toNat [])]:List Ξ).length) 1 λ_=>⟨rfl,rfl⟩)) (And.intro (by decide:0<1) (by decide:1<=Ay))) (gw 97 (lG AC [0,2] (C _ _ · f a))))) (gw 97 (lG AC [0] (C _ _ · f a))))) (lF λp=>el AC [4,5] [] p [] H0 [.nils,.bool true] (AN.tupL (l:=[.nils,.bool true]) (l':=[.sl 1 (([]:List Ξ).length) (AK AP ([]:List Ξ)),.bool true]) rfl ⟨(AN.sl_nil _ _),Aw,trivial⟩))
 case l8 Ac A6 BS A9 Av CE B2 B4 o1=>
  intro f V E a x k;have a:=zGV a;have x:=zGV x;refine rd k λE k=>?_
  revert r;apply gO;exact bi 59 (gi (bi 67 (gc (gi (gc (gn λs=>gc (gi (jz 74 5 (jg s (ja 75 6 1 (El (c:=AP) (L:=([(([]:Ξ)++BS)++([A9]:Ξ)]:List Ξ)) (vals:=[.ints ((([]:Ξ)++BS)++([A9]:Ξ))]) rfl ⟨⟨_,rfl,⟨Aw,trivial⟩⟩,trivial⟩) (gc (gn λe=>gc (gn λG=>jg (And.intro (And.intro (And.intro (Eq.refl 0) (Eq.refl 1)) (IR AP ([(([]:Ξ)++BS)++([A9]:Ξ)]:List Ξ) (([(([]:Ξ)++BS)++([A9]:Ξ)]:List Ξ).length) 1 λ_=>⟨rfl,rfl⟩)) (And.intro (And.intro (Eq.refl 0) e) G)) (ja 76 7 1 (Rn (enc:=(TP AP)) (L:=o1) (L':=([(([]:Ξ)++BS)++([A9]:Ξ)]:List Ξ)) rfl rfl λ_ _ _ _=>Aw) (gw 61 (lG AC [0,7] (C _ _ · f V E a x k))))))))))))))) (gw 61 (lG AC [0,1] (C _ _ · f V E a x k))))) (gw 77 (lG AC [0,1] (C _ _ · f V a x)))
 case l9 Ac Av CE B2 B4=>
  intro f V a x;have a:=zGV a;refine rd x λV x=>?_
  revert r;apply gO;exact bi 53 (gi (lN AC [0] (C _ _ · f V n a x Nat.le.refl))) (gw 79 (lG AC [0] (C _ _ · f a)))
 case l10 Ac A6 Av CE B2 B4 o1=>
  intro f V a x;have a:=zGV a;refine rd x λV x=>?_
  revert r;apply gO;exact bi 53 (gi (lN AC [0,1] (C _ _ · f V n a x Nat.le.refl))) (gw 79 (lG AC [0,1] (C _ _ · f a)))
 case l11 Av=>
  intro f a;refine rd a λf a=>?_
  revert r;apply gO;exact bi 47 (gi (lN AC [0] (C _ _ · f n a Nat.le.refl))) (lN AC [0] (C _ _ · n Nat.le.refl))
 case l12 Ac Av=>
  intro f V a x;have a:=zGV a;refine rd x λV x=>?_
  revert r;apply gO;exact gw 79 (lG AC [0] (C _ _ · f a))
 case l13=>
  intro f a;refine rd a λf a=>?_
  revert r;apply gO;exact lF λp=>el AC [4,5] [] p [] H0 [.nils,.bool true] (AN.tupL (l:=[.nils,.bool true]) (l':=[.sl 1 (([]:List Ξ).length) (AK AP ([]:List Ξ)),.bool true]) rfl ⟨(AN.sl_nil _ _),Aw,trivial⟩)
variable {pos:Ξ}
def zZ {r:(List Ξ)×Bool}(h:d8 n q pos=some r):EQ 18 [.agg 5 (L1 (AH q)),.ints pos] [] (.tup 2 (L1 [.sl 1 r.1.length (AK AP r.1),.bool r.2])) [] true:=by
 refine ot Tryz.func18 λB N=>?_
 revert r;apply gO;exact cf zJs [oC (AH q)] λ_=>bi 22 (lF λp=>el AC [4,5] [] p [] H0 [.nils,.bool false] (AN.tupL (l:=[.nils,.bool false]) (l':=[.sl 1 (([]:List Ξ).length) (AK AP ([]:List Ξ)),.bool false]) rfl ⟨(AN.sl_nil _ _),Aw,trivial⟩)) (cf zB9 [oC (AH q)] λ_=>bi 27 (lF λp=>el AC [4,5] [] p [] H0 [.nils,.bool false] (AN.tupL (l:=[.nils,.bool false]) (l':=[.sl 1 (([]:List Ξ).length) (AK AP ([]:List Ξ)),.bool false]) rfl ⟨(AN.sl_nil _ _),Aw,trivial⟩)) (lN AC [0] ((zd B N q pos n) _ _ · n Nat.le.refl)))
inductive aI where
 | l1 (x10 Ac A6 x13:Int)
def Vp (n:Nat)(self:aI -> Option Bool)(q:AA)(pos:Ξ)(cell:Int)(x10 O C x13:Int):Option Bool:= bif (decide (x13<q.symbols)) then (QZ n q pos (Int.tmod (IntKind.i64.wrap cell) (pos.length:Int)) x13).bind λk=> bif (k.2 != 0) then some false else (J3 n q k.1 2000 60000).bind λG=> bif (G.2 != 0) then some false else if AG (C+G.1)/\ AG (x13+1) then self (.l1 x10 O (C+G.1) (x13+1)) else none else bif (O==0) then some (x10==C) else some false
def zFO (n:Nat)(self:aI -> Option Bool)(q:AA)(pos:Ξ)(cell:Int):Option Bool:= (Um n).bind λk=> bif (!k) then some false else (d8 n q pos).bind λG=> bif (!G.2) then some true else bif ((pos.length:Int)==0) then some true else if (pos.length:Int)≠0 then (J3 n q pos 2000 60000).bind λy3=> self (.l1 y3.1 y3.2 0 0) else none
def Nn (q:AA)(pos:Ξ)(cell:Int):Nat -> aI -> Option Bool
 | 0,_=>none
 | n+1,.l1 x10 O C x13=>Vp n (Nn q pos cell n) q pos cell x10 O C x13
def sM (n:Nat)(q:AA)(pos:Ξ)(cell:Int):Option Bool:=zFO n (Nn q pos cell n) q pos cell
def zFP (n B:Nat)(N:Yd 0)(q:AA)(pos:Ξ)(cell:Int)(r:Bool):aI -> Prop
 | .l1 x10 O C x13=>∀ f:Nat,n<=f -> TW B N (FQ Tryz.f7 0 (.bool r) []) (Ah f (An (AR Tryz.f7) 0 [])) ⟨AF 78 [(1,.ints pos),(3,.ref 0 0),(9,.i (Int.tmod (IntKind.i64.wrap cell) (pos.length:Int))),(10,.i x10),(11,.i O),(12,.i C),(13,.i x13)],[oC (AH q)]⟩
def zFQ (B:Nat)(N:Yd 0)(q:AA)(pos:Ξ)(cell:Int):Al (Nn q pos cell) (zFP · B N q pos cell):=ia (λ_=>rfl) λn C b r h=>by
 cases b
 case l1 x10 Ac A6 x13=>
  intro f a;refine rd a λf a=>?_
  revert r;apply gO;exact bi 47 (cf uk [oC (AH q)] λ_=>bi 59 (lE AC [6] []) (cf ME [oC (AH q)] λ_=>bi 67 (lE AC [6] []) (gc (gw 70 (gw 49 (lG AC [0] (C _ _ · f a))))))) (bi 72 (lE AC [6] []) (lE AC [6] []))
def zFN {cell:Int}(h:sM n q pos cell=some r):EQ 7 [.agg 5 (L1 (AH q)),.ints pos,.int .u8 cell] [] (.bool r) [] true:=by
 refine ot Tryz.func7 λB N=>?_
 revert r;apply gO;exact cf zAI [oC (AH q)] λ_=>bi 19 (lE AC [6] []) (cf zZ [oC (AH q)] λ_=>bi 27 (lE AC [6] []) (bi 31 (lE AC [6] []) (gi (cf ME [oC (AH q)] λ_=>lN AC [0] ((zFQ B N q pos cell n) _ _ · n Nat.le.refl)))))
end
abbrev zMn:=@iff_of_false
abbrev zNb:=@decide_eq_decide
abbrev zNl:=@iff_of_true
section
variable {q:AA} {c:AD} {g:Ξ}
def Sv.gi (S:Sv q c g){a:Nat}(D:a<c.cells.length):g.getD (c.cells.getD a 0).toNat 0=((AT c g a:Nat):Int):=by
 have h1:=S.cell a D;have h2:=S.G.sym (c.cells.getD a 0).toNat (by omega);unfold AT;omega
def zKP (S:Sv q c g)(hl:c.cells.length<=256): ∃ r,Ev (λn=>b9 n g c.cells) r/\ (r=true↔∀ a b,a<c.cells.length -> b<c.cells.length -> AT c g a=AT c g b -> a=b):=by
 have inn: ∀ (k i j:Nat),i<c.cells.length -> j+k=i -> (∀ b,b<j -> AT c g b≠AT c g i) -> ((∃ b,b<i/\ AT c g b=AT c g i)/\ Ev (λn=>Hm g c.cells n (.l2 (i:Int) (j:Int))) false)∨((∀ b,b<i -> AT c g b≠AT c g i)/\ AV (Hm g c.cells) (.l2 (i:Int) (j:Int)) (.l1 ((i+1:Nat):Int))):=by
  intro k
  induction k with
  | zero=>
   intro i j hi e h;have e:j=i:=by omega
   subst e;refine .inr ⟨h,AV.one λn=>?_⟩
   show W5 n (Hm g c.cells n) g c.cells (j:Int) (j:Int)=_
   unfold W5;rw [zFd (by omega),zGF,zEZ (Aj.2 ⟨by omega,by omega⟩),show ((j+1:Nat):Int)=(j:Int)+1 by omega]
  | succ k U=>
   intro i j hi e h;have o:j<c.cells.length:=by omega
   have t:=S.cell i hi;have T:=S.cell j o
   have step: ∀ n,Hm g c.cells (n+1) (.l2 (i:Int) (j:Int))=bif decide (AT c g j=AT c g i) then some false else Hm g c.cells n (.l2 (i:Int) ((j+1:Nat):Int)):=λn=>by
    show W5 n (Hm g c.cells n) g c.cells (i:Int) (j:Int)=_
    unfold W5;rw [zEE (by omega),zFR,zCg,zCg,zEZ ⟨⟨by omega,by omega⟩,t,⟨by omega,by omega⟩,T⟩,S.gi hi,S.gi o,zEZ (Aj.2 ⟨by omega,by omega⟩),show ((j+1:Nat):Int)=(j:Int)+1 by omega]
    by_cases x:AT c g j=AT c g i
    ·rw [zEE x,x];simp
    ·rw [zFd x,show (((AT c g i:Nat):Int)==((AT c g j:Nat):Int))=false from zH4.2 (by omega)]
   by_cases x:AT c g j=AT c g i
   ·exact .inl ⟨⟨j,by omega,x⟩,Ev.one λn=>by grind⟩
   ·have p:AV (Hm g c.cells) (.l2 (i:Int) (j:Int)) (.l2 (i:Int) ((j+1:Nat):Int)):=AV.one λn=>by rw [step n,zFd x,zGF]
    rcases U i (j+1) hi (by omega) (λb d=>by
     rcases zGW.1 d with d | rfl
     ·exact h b d
     ·exact x) with ⟨f,l⟩ | ⟨f,l⟩
    ·exact .inl ⟨f,AV.ev p l⟩
    ·exact .inr ⟨f,p.trans l⟩
 have key: ∀ (k i:Nat),i+k=c.cells.length -> (∀ a b,a<i -> b<i -> AT c g a=AT c g b -> a=b) -> ∃ r,Ev (λn=>Hm g c.cells n (.l1 (i:Int))) r/\ (r=true↔∀ a b,a<c.cells.length -> b<c.cells.length -> AT c g a=AT c g b -> a=b):=by
  intro k
  induction k with
  | zero=>
   intro i e m;have e:i=c.cells.length:=by omega
   subst e;refine ⟨true,Ev.one λn=>?_,zNl rfl m⟩
   show W6 n (Hm g c.cells n) g c.cells (c.cells.length:Int)=_
   unfold W6;rw [zFd (by omega),zGF]
  | succ k U=>
   intro i e m;have hi:i<c.cells.length:=by omega
   have s:AV (Hm g c.cells) (.l1 (i:Int)) (.l2 (i:Int) ((0:Nat):Int)):=AV.one λn=>by
    show W6 n (Hm g c.cells n) g c.cells (i:Int)=_
    unfold W6;rw [zEE (by omega),zFR];rfl
   rcases inn i i 0 hi (by omega) (λb d=>absurd d (zGR b)) with ⟨⟨b,f,l⟩,u⟩ | ⟨f,l⟩
   ·refine ⟨false,AV.ev s u,zMn (by decide) λh=>?_⟩;have:=h b i (by omega) hi l;omega
   ·obtain ⟨r,v,y⟩:=U (i+1) (by omega) (λa b D d R=>by
     rcases zGW.1 D with D | rfl <;> rcases zGW.1 d with d | rfl
     ·exact m a b D d R
     ·exact absurd R (f a D)
     ·exact absurd R.symm (f b d)
     ·rfl)
    exact ⟨r,AV.ev (s.trans l) v,y⟩
 exact key c.cells.length 0 (by omega) λa b D=>absurd D (zGR a)
def zKf (S:Sv q c g)(hl:c.cells.length<=256):Ev (λn=>cG n g c.cells c.set) (cnt (λa=>tb c.set (AT c g a)) c.cells.length):=by
 have key: ∀ (k i:Nat),i+k=c.cells.length -> Ev (λn=>TV g c.cells c.set n (.l1 (cnt (λa=>tb c.set (AT c g a)) i) (i:Int))) (cnt (λa=>tb c.set (AT c g a)) c.cells.length):=by
  intro k
  induction k with
  | zero=>
   intro i e;have e:i=c.cells.length:=by omega
   subst e;refine Ev.one λn=>?_
   show XG n (TV g c.cells c.set n) g c.cells c.set _ (c.cells.length:Int)=_
   unfold XG;rw [zFd (by omega),zGF]
  | succ k U=>
   intro i e;have hi:i<c.cells.length:=by omega
   have l:=S.cell i hi;have b:=(S.lt hi).2;have hb:=cR (p:=λa=>tb c.set (AT c g a)) (i:=i);refine AV.ev (AV.one λn=>?_) (U (i+1) (by omega))
   show XG n (TV g c.cells c.set n) g c.cells c.set _ (i:Int)=_
   unfold XG;rw [zEE (by omega),zFR,zCg,zEZ ⟨⟨by omega,by omega⟩,l⟩,S.gi hi,NV b,zEb,Qf,show ((i+1:Nat):Int)=(i:Int)+1 by omega];cases tb c.set (AT c g i)
   ·rw [zGF,zEZ (Aj.2 ⟨by omega,by omega⟩)];simp
   ·rw [zFR,zEZ ⟨Aj.2 ⟨by omega,by omega⟩,Aj.2 ⟨by omega,by omega⟩⟩,zEZ rfl]
 exact key c.cells.length 0 (by omega)
def yq (S:Sv q c g)(V:Ee q q.symbols.toNat)(hl:c.cells.length<=256):Ev (λn=>YB n q.values g c.cells) (Ck (λa=>q.values.getD (AT c g a) 0) c.cells.length):=by
 have p: ∀ i,i<c.cells.length -> 0<=q.values.getD (AT c g i) 0/\ q.values.getD (AT c g i) 0<=99:=λi hi=>V.val _ (S.lt hi).1
 have key: ∀ (k i:Nat),i+k=c.cells.length -> Ev (λn=>RQ q.values g c.cells n (.l1 (Ck (λa=>q.values.getD (AT c g a) 0) i) (i:Int))) (Ck (λa=>q.values.getD (AT c g a) 0) c.cells.length):=by
  intro k
  induction k with
  | zero=>
   intro i e;have e:i=c.cells.length:=by omega
   subst e;refine Ev.one λn=>?_
   show UK n (RQ q.values g c.cells n) q.values g c.cells _ (c.cells.length:Int)=_
   unfold UK;rw [zFd (by omega),zGF]
  | succ k U=>
   intro i e;have hi:i<c.cells.length:=by omega
   have l:=S.cell i hi;have AU:=(S.lt hi).1;have G5:=V.len;have Do:=p i hi;have hb:=RH (f:=λa=>q.values.getD (AT c g a) 0) i λa ha=>by have:=p a (by omega);omega
   refine AV.ev (AV.one λn=>?_) (U (i+1) (by omega))
   show UK n (RQ q.values g c.cells n) q.values g c.cells _ (i:Int)=_
   unfold UK;rw [zEE (by omega),zFR,zCg,S.gi hi,zCg,zEZ ⟨⟨by omega,by omega⟩,l,⟨by omega,by omega⟩,Aj.2 ⟨by omega,by omega⟩,Aj.2 ⟨by omega,by omega⟩⟩,show ((i+1:Nat):Int)=(i:Int)+1 by omega];rfl
 exact key c.cells.length 0 (by omega)
def zCY (S:Sv q c g)(V:Ee q q.symbols.toNat)(hl:c.cells.length<=256): ∃ r,Ev (λn=>Y7 n q.values g c.cells) r/\ (r=true↔Ho q 0 c.cells.length (AT c g)):=by
 have key: ∀ (k i:Nat),(i+1)+k=c.cells.length∨c.cells.length=0/\ k=0/\ i=0 -> Ho q 0 (i+1) (AT c g) -> ∃ r,Ev (λn=>NM q.values g c.cells n (.l1 ((i+1:Nat):Int))) r/\ (r=true↔Ho q 0 c.cells.length (AT c g)):=by
  intro k
  induction k with
  | zero=>
   intro i e u;refine ⟨true,Ev.one λn=>?_,zNl rfl λb a AU=>u b a (by omega)⟩
   show U7 n (NM q.values g c.cells n) q.values g c.cells ((i+1:Nat):Int)=_
   unfold U7;rw [zFd (by omega),zGF]
  | succ k U=>
   intro i e u;have hi:i<c.cells.length:=by omega
   have K:i+1<c.cells.length:=by omega
   have d:=S.cell i hi;have w:=S.cell (i+1) K;have l0:=(S.lt hi).1;have l1:=(S.lt K).1;have vl:=V.len
   have step: ∀ n,NM q.values g c.cells (n+1) (.l1 ((i+1:Nat):Int))=bif decide (q.values.getD (AT c g i) 0>=q.values.getD (AT c g (i+1)) 0) then some false else NM q.values g c.cells n (.l1 ((i+1+1:Nat):Int)):=λn=>by
    show U7 n (NM q.values g c.cells n) q.values g c.cells ((i+1:Nat):Int)=_
    unfold U7;rw [show ((i+1:Nat):Int)-1=(i:Int) by omega];simp only [zCg,S.gi hi,S.gi K];rw [zEE (by omega),zFR,zEZ ⟨Aj.2 ⟨by omega,by omega⟩,⟨by omega,by omega⟩,d,⟨by omega,by omega⟩,⟨by omega,by omega⟩,w,by omega,by omega⟩,zEZ (Aj.2 ⟨by omega,by omega⟩),show ((i+1+1:Nat):Int)=((i+1:Nat):Int)+1 by omega]
   by_cases h:q.values.getD (AT c g i) 0>=q.values.getD (AT c g (i+1)) 0
   ·refine ⟨false,Ev.one λn=>by rw [step n,zEE h,zFR],zMn (by decide) λE=>?_⟩;have:=E i (zIG _) K;omega
   ·obtain ⟨r,l,y⟩:=U (i+1) (by omega) (λb j a=>by
     by_cases f:b=i
     ·subst f;omega
     ·exact u b j (by omega))
    exact ⟨r,AV.ev (AV.one λn=>by rw [step n,zFd h,zGF]) l,y⟩
 exact key (c.cells.length-1) 0 (by omega) λb _ h=>absurd h (by omega)
def zBo (S:Sv q c g)(hl:c.cells.length<=256): ∀ (m i:Nat) (l:Int) (o:Ξ),i+m=c.cells.length -> 0<=l/\ l<=(i:Int) -> o.length<=i -> Ev (λn=>F5 g c.cells c.set n (.l2 o.length l (i:Int) o)) (o++rl (λa=>tb c.set (AT c g a)) c.cells.length m l):=by
 have L:Ay=1000000000000:=rfl;intro m
 induction m with
 | zero=>
  intro i l o e Q x;have e:i=c.cells.length:=by omega
  subst e;refine Ev.one λn=>?_
  show Uq n (F5 g c.cells c.set n) g c.cells c.set o.length l (c.cells.length:Int) o=_
  unfold Uq rl;rw [zFd (by omega),zGF]
  by_cases h:l>0
  ·rw [zEE h,zFR,zEZ h,zEZ ⟨⟨rfl,rfl⟩,⟨rfl,rfl⟩,by simp;omega⟩,zEZ (by simp)]
  ·rw [zFd h,zGF,zGN h,zEZ rfl,zIs]
 | succ m U=>
  intro i l o e Q x;have hi:i<c.cells.length:=by omega
  have f:=S.cell i hi;have p:=(S.lt hi).2;have y:c.cells.length-1-m=i:=by omega
  have b:AG ((i:Int)+1):=Aj.2 ⟨by omega,by omega⟩
  have start: ∀ n,F5 g c.cells c.set (n+1) (.l2 o.length l (i:Int) o)=bif tb c.set (AT c g i) then F5 g c.cells c.set n (.l2 o.length (l+1) ((i+1:Nat):Int) o) else bif decide (l>0) then F5 g c.cells c.set n (.l2 (o++[l]).length 0 ((i+1:Nat):Int) (o++[l])) else F5 g c.cells c.set n (.l2 o.length 0 ((i+1:Nat):Int) o):=λn=>by
   show Uq n (F5 g c.cells c.set n) g c.cells c.set o.length l (i:Int) o=_
   unfold Uq;rw [zEE (by omega),zFR,zCg,zEZ ⟨⟨by omega,by omega⟩,f⟩,S.gi hi,NV p,zEb,show ((i+1:Nat):Int)=(i:Int)+1 by omega];cases tb c.set (AT c g i)
   ·rw [zGF,zGF,zEZ ⟨⟨⟨rfl,rfl⟩,⟨rfl,rfl⟩,by simp;omega⟩,b⟩,zEZ b,zGY]
   ·rw [zFR,zFR,zEZ ⟨Aj.2 ⟨by omega,by omega⟩,b⟩]
  unfold rl;rw [y];cases d:tb c.set (AT c g i) with
  | true=>exact AV.ev (AV.one λn=>by rw [start n,d,zFR]) (U (i+1) (l+1) o (by omega) (by omega) (by omega))
  | false=>
   rw [zGF]
   by_cases h:l>0
   ·have h0:=U (i+1) 0 (o++[l]) (by omega) (by omega) (by simp;omega);rw [zEZ h,show o++l::rl (λa=>tb c.set (AT c g a)) c.cells.length m 0=(o++[l])++rl (λa=>tb c.set (AT c g a)) c.cells.length m 0 by simp];exact AV.ev (AV.one λn=>by rw [start n,d,zGF,zEE h,zFR]) h0
   ·rw [zGN h];exact AV.ev (AV.one λn=>by rw [start n,d,zGF,zFd h,zGF]) (U (i+1) 0 o (by omega) (by omega) (by omega))
def zBp (S:Sv q c g)(f:c.cells.length<=256):Ev (λn=>Yr n g c.cells c.set) (rl (λa=>tb c.set (AT c g a)) c.cells.length c.cells.length 0):=by
 have L:Ay=1000000000000:=rfl
 have key: ∀ (m i:Nat) (l:Int),i+m=c.cells.length -> 0<=l/\ l<=(i:Int) -> Ev (λn=>F5 g c.cells c.set n (.l1 l (i:Int))) (rl (λa=>tb c.set (AT c g a)) c.cells.length m l):=by
  intro m
  induction m with
  | zero=>
   intro i l e Q;have e:i=c.cells.length:=by omega
   subst e;refine Ev.one λn=>?_
   show Ur n (F5 g c.cells c.set n) g c.cells c.set l (c.cells.length:Int)=_
   unfold Ur rl;rw [zFd (by omega),zGF]
   by_cases h:l>0
   ·rw [zEE h,zFR,zEZ h,zEZ ⟨⟨rfl,rfl⟩,by simp,by simp;omega⟩]
   ·rw [zFd h,zGF,zGN h]
  | succ m U=>
   intro i l e Q;have hi:i<c.cells.length:=by omega
   have j:=S.cell i hi;have p:=(S.lt hi).2;have y:c.cells.length-1-m=i:=by omega
   have b:AG ((i:Int)+1):=Aj.2 ⟨by omega,by omega⟩
   have start: ∀ n,F5 g c.cells c.set (n+1) (.l1 l (i:Int))=bif tb c.set (AT c g i) then F5 g c.cells c.set n (.l1 (l+1) ((i+1:Nat):Int)) else bif decide (l>0) then F5 g c.cells c.set n (.l2 ([l]:Ξ).length 0 ((i+1:Nat):Int) [l]) else F5 g c.cells c.set n (.l1 0 ((i+1:Nat):Int)):=λn=>by
    show Ur n (F5 g c.cells c.set n) g c.cells c.set l (i:Int)=_
    unfold Ur;rw [zEE (by omega),zFR,zCg,zEZ ⟨⟨by omega,by omega⟩,j⟩,S.gi hi,NV p,zEb,show ((i+1:Nat):Int)=(i:Int)+1 by omega];cases tb c.set (AT c g i)
    ·rw [zGF,zGF,zEZ ⟨⟨⟨rfl,rfl⟩,by simp,by simp;omega⟩,b⟩,zEZ b]
    ·rw [zFR,zFR,zEZ ⟨Aj.2 ⟨by omega,by omega⟩,b⟩]
   unfold rl;rw [y];cases d:tb c.set (AT c g i) with
   | true=>exact AV.ev (AV.one λn=>by rw [start n,d,zFR]) (U (i+1) (l+1) (by omega) (by omega))
   | false=>
    rw [zGF]
    by_cases h:l>0
    ·rw [zEZ h];exact AV.ev (AV.one λn=>by rw [start n,d,zGF,zEE h,zFR]) (zBo S f m (i+1) 0 [l] (by omega) (by omega) (by simp))
    ·rw [zGN h];exact AV.ev (AV.one λn=>by rw [start n,d,zGF,zFd h,zGF]) (U (i+1) 0 (by omega) (by omega))
 exact key c.cells.length 0 0 (by omega) ⟨zGl _,by omega⟩
def fH {b:Nat -> Bool}{N:Nat}: ∀ (m:Nat) (l:Int),(rl b N m l).length<=m+1
 | 0,l=>by unfold rl;split <;> simp
 | m+1,l=>by
  have h1:=fH (b:=b) (N:=N) m (l+1);have h2:=fH (b:=b) (N:=N) m 0;unfold rl;cases b (N-1-m)
  ·rw [zGF];split
   ·simp;omega
   ·omega
  ·rw [zFR];omega
def zFq {a b:Ξ}{n:Nat}(hl:a.length<=LB)(u:a.length<n):Rg n a b=some (decide (a=b)):=by
 have hb:LB<=9223372036854775806:=by decide
 unfold Rg pE
 by_cases N:a.length=b.length
 ·have e:((a.length:Int) != (b.length:Int))=false:=by rw [N];simp
  rw [e,zGF]
  have key: ∀ (k i n:Nat),i+k=a.length -> k+1<=n -> Rf a b n (.l1 (i:Int))=some (decide (a.drop i=b.drop i)):=by
   intro k
   induction k with
   | zero=>
    intro i n e u;obtain ⟨n,rfl⟩: ∃ k,n=k+1:=⟨n-1,by omega⟩
    show Un n (Rf a b n) a b (i:Int)=_
    unfold Un;rw [zFd (by omega),zGF,zJw (by omega),zJw (by omega)];rfl
   | succ k U=>
    intro i n e u;obtain ⟨n,rfl⟩: ∃ k,n=k+1:=⟨n-1,by omega⟩;have hi:i<a.length:=by omega
    have K:i<b.length:=by omega
    have d: ∀ {l:Ξ},i<l.length -> l.drop i=l.getD i 0::l.drop (i+1):=λ{l} h=>by
     rw [zGg h,zGH,zGU h];rfl
    have:=U (i+1) n (by omega) (by omega)
    show Un n (Rf a b n) a b (i:Int)=_
    unfold Un;rw [zEE (by omega),zFR,zEZ ⟨⟨by omega,by omega⟩,by omega,by omega⟩,zCg,d hi,d K]
    by_cases h:a.getD i 0=b.getD i 0
    ·rw [h,show (b.getD i 0 != b.getD i 0)=false by simp,zGF,zEZ (Aj.2 ⟨by omega,by omega⟩),show (i:Int)+1=((i+1:Nat):Int) by omega,this]
     congr 1
     rw [zNb];simp
    ·rw [show (a.getD i 0 != b.getD i 0)=true by simpa using h,zFR]
     congr 1
     exact (zFd λe=>h (List.cons.inj e).1).symm
  have:=key a.length 0 n (by omega) (by omega);rw [zJ5,zJ5] at this;exact this
 ·have e:((a.length:Int) != (b.length:Int))=true:=by simpa using λh=>N (by omega)
  rw [e,zFR]
  congr 1
  exact (zFd λh=>N (by rw [h])).symm
end
section
variable {g:List Ξ} {inn:Ω}
variable {v:Nat}
def zEc (G:H9 g)(p:v<g.length):(nb g v).Pairwise (· < ·)/\ (v:Int)∉nb g v:=by
 have h:=G.ok;unfold JR at h;rw [zEh,zGL] at h;have a:=h.2 v (zGQ.2 p);unfold IK at a;rw [zGL] at a;have e:nb g v=g.getD v []:=by unfold nb;rw [zCg]
 rw [e]
 generalize g.getD v []=l at a
 have E: ∀ k,k<l.length -> l.getD k 0≠v/\ (0<k -> l.getD (k-1) 0<l.getD k 0):=λk hk=>by
  have:=a k (zGQ.2 hk);unfold Gw at this;simp only [zEh,zJQ,ne_eq,zGq,zGr,zIJ,zGM] at this;exact ⟨this.1.1.2,λh=>this.1.2.resolve_left λu=>u h⟩
 have F: ∀ d i,i+d+1<l.length -> l.getD i 0<l.getD (i+d+1) 0:=by
  intro d
  induction d with
  | zero=>intro i hi;exact (E (i+1) hi).2 (by omega)
  | succ d U=>
   intro i hi;have h1:=U i (by omega);have b:=(E (i+(d+1)+1) hi).2 (by omega);rw [show i+(d+1)+1-1=i+d+1 by omega] at b;omega
 constructor
 ·rw [zMX];intro i j hi c WJ;have:=F (j-i-1) i (by omega);rw [show i+(j-i-1)+1=j by omega] at this;simpa [zGH,hi,c] using this
 ·intro f;obtain ⟨k,hk,e⟩:=zGt f;refine (E k hk).1 ?_;rw [zGH,zGU hk];exact e
def yP (G:H9 g)(p:v<g.length)(E:inn.getD v false=true)(r:Cc g inn v=2):3<=(List.range g.length).countP λx=>inn.getD x false:=by
 obtain ⟨j,u⟩:=zEc G p;have i:=G.gr.rng v (by omega) (by omega);have K:((nb g v).filter λx=>inn.getD x.toNat false).length=2:=by rw [←zIM];exact r
 have P:=j.filter (λx=>inn.getD x.toNat false);have c: ∀ x∈(nb g v).filter λx=>inn.getD x.toNat false,x∈nb g v/\ inn.getD x.toNat false=true:=λx d=>zI2.1 d
 generalize ((nb g v).filter λx=>inn.getD x.toNat false)=F at K P c
 match F,K with
 | [x,y],_=>
  have ic:x<y:=by
   rw [zNH] at P;exact P.1 y (by simp)
  obtain ⟨o,h⟩:=c x (by simp);obtain ⟨k,l⟩:=c y (by simp);have xr:=i x o;have yr:=i y k;have xv:x≠v:=λe=>u (e▸o)
  have yv:y≠v:=λe=>u (e▸k)
  have a1:=Mf (f:=λz=>inn.getD z false&&!(z==v)) (g:=λz=>inn.getD z false) (a:=v) (by simp) E (List.range g.length) (λz _ b=>by rw [zEh] at b;exact b.1) (zGQ.2 p);have a2:=Mf (f:=λz=>(inn.getD z false&&!(z==v))&&!(z==x.toNat)) (g:=λz=>inn.getD z false&&!(z==v)) (a:=x.toNat) (by simp) (by rw [h];simp;omega) (List.range g.length) (λz _ b=>by rw [zEh] at b;exact b.1) (zGQ.2 (by omega));have a3:=Mf (f:=λz=>((inn.getD z false&&!(z==v))&&!(z==x.toNat))&&!(z==y.toNat)) (g:=λz=>(inn.getD z false&&!(z==v))&&!(z==x.toNat)) (a:=y.toNat) (by simp) (by rw [l];simp;omega) (List.range g.length) (λz _ b=>by rw [zEh] at b;exact b.1) (zGQ.2 (by omega));omega
end
abbrev zJ9:=@List.range_succ
abbrev zMo:=@List.filter_eq_nil_iff
abbrev zMq:=@List.map_append
abbrev zNJ:=@List.Nodup.sublist
abbrev zNW:=@List.length_filter_le
section
open Classical
def CF (inn:Ω)(k:Nat):Ξ:=((List.range k).filter λi=>inn.getD i false).map λi:Nat=>(i:Int)
def UL (inn:Ω)(k:Nat):Rv:=if CF inn k= [] then .l1 (k:Int) else .l2 (CF inn k).length (k:Int) (CF inn k)
def kW {p:Nat -> Bool}: ∀ (n:Nat),(∃ i,i<n/\ p i=true) -> ∃ m,m<n/\ p m=true/\ (∀ v,v<m -> p v=false)/\ ∃ t,(List.range n).filter p=m::t
 | 0,⟨i,hi,_⟩=>absurd hi (zGR i)
 | n+1,⟨i,hi,g⟩=>by
  rw [zJ9,zMU]
  by_cases h: ∃ i,i<n/\ p i=true
  ·obtain ⟨m,h1,b,c,t,A⟩:=kW n h;exact ⟨m,by omega,b,c,t++[n].filter p,by rw [A];rfl⟩
  ·have all: ∀ v,v<n -> p v=false:=λv a=>by
    cases d:p v with
    | false=>rfl
    | true=>exact absurd ⟨v,a,d⟩ h
   have e:i=n:=by
    rcases zGW.1 hi with hi | hi
    ·rw [all i hi] at g;cases g
    ·exact hi
   subst e;refine ⟨i,Nat.lt_succ_self i,g,all,[],?_⟩;rw [zMo.2 λv a=>by rw [all v (zGQ.1 a)];decide];simp [g]
section
variable {q:AA} {c:AD} {AM:Ξ} {g:List Ξ} {inn:Ω} {s:Int}
variable {k:Nat}
def zEx :CF inn (k+1)=CF inn k++if inn.getD k false=true then [(k:Int)] else []:=by
 unfold CF;rw [zJ9,zMU,zMq]
 congr 1
 rw [zI9];cases inn.getD k false <;> rfl
def sB :(CF inn k).length<=k:=by
 unfold CF;rw [zGX];exact zGK (zNW _ _) (by simp)
def Z4 {v:Int}:v∈CF inn k↔0<=v/\ v<(k:Int)/\ inn.getD v.toNat false=true:=by
 unfold CF;rw [zIH];constructor
 ·rintro ⟨i,hi,rfl⟩;obtain ⟨a,b⟩:=zI2.1 hi;have:=zGQ.1 a;exact ⟨by omega,by omega,by rw [zCg];exact b⟩
 ·rintro ⟨a,b,h⟩;exact ⟨v.toNat,zI2.2 ⟨zGQ.2 (by omega),h⟩,by omega⟩
def zEy (hI:inn.length<=256){n:Nat}(hk:k<inn.length):Jt inn (n+1) (UL inn k)=Jt inn n (UL inn (k+1)):=by
 have L:Ay=1000000000000:=rfl;have l:AG ((k:Int)+1):=Aj.2 ⟨by omega,by omega⟩;have hl:=sB (inn:=inn) (k:=k);unfold UL;rw [zEx,show ((k+1:Nat):Int)=(k:Int)+1 by omega]
 by_cases h0:CF inn k= []
 ·rw [zEZ h0,h0]
  show VH n (Jt inn n) inn (k:Int)=_
  unfold VH;rw [zEE (by omega),zFR,zEZ ⟨by omega,by omega⟩,zCg];cases c:inn.getD k false with
  | false=>rw [zGF,zEZ l];simp
  | true=>rw [zFR,zEZ ⟨⟨⟨rfl,rfl⟩,by simp,by simp;omega⟩,l⟩];simp
 ·rw [zGN h0]
  show VG n (Jt inn n) inn (CF inn k).length (k:Int) (CF inn k)=_
  unfold VG;rw [zEE (by omega),zFR,zEZ ⟨by omega,by omega⟩,zCg];cases c:inn.getD k false with
  | false=>rw [zGF,zEZ l];simp [h0]
  | true=>rw [zFR,zEZ ⟨⟨⟨rfl,rfl⟩,⟨rfl,rfl⟩,by simp;omega⟩,l⟩];simp [h0]
def qR (u:inn.length<=256):Ev (λn=>NU n inn) (CF inn inn.length):=by
 have key: ∀ (k i:Nat),i+k=inn.length -> Ev (λn=>Jt inn n (UL inn i)) (CF inn inn.length):=by
  intro k
  induction k with
  | zero=>
   intro i e;have e:i=inn.length:=by omega
   subst e;refine Ev.one λn=>?_
   unfold UL
   by_cases h0:CF inn inn.length= []
   ·rw [zEZ h0,h0]
    show VH n (Jt inn n) inn (inn.length:Int)=_
    unfold VH;rw [zFd (by omega),zGF]
   ·rw [zGN h0]
    show VG n (Jt inn n) inn (CF inn inn.length).length (inn.length:Int) (CF inn inn.length)=_
    unfold VG;rw [zFd (by omega),zGF,zEZ rfl]
  | succ k U=>exact λi e=>AV.ev (AV.one λn=>zEy u (by omega)) (U (i+1) (by omega))
 exact (key inn.length 0 (by omega)).eq λn=>rfl
def qJ (G:Gr g)(u:inn.length=g.length)(h0:0<=s)(a:s<(g.length:Int)): ∃ o,Tq g inn s o/\ Ev (λn=>Ku n g inn s) o:=(zDB G u h0 a).ev λ_ _ h h'=>Tq.uniq h h'
def Ld (g:List Ξ)(inn:Ω)(i:Nat):Prop:=inn.getD i false=true/\ ∀ v,v<i -> ¬ Rc g inn (i:Int) (v:Int)
noncomputable def K8 (g:List Ξ)(inn:Ω)(k:Nat):Nat:=((List.range k).filter λi=>decide (Ld g inn i)).length
def gQ :K8 g inn (k+1)=K8 g inn k+if Ld g inn k then 1 else 0:=by
 unfold K8;rw [zJ9,zMU,zGY]
 by_cases h:Ld g inn k <;> simp [h]
def UM (i:Nat)(o:List Ξ):TX:=if o= [] then .l1 (i:Int) else .l2 o.length (i:Int) o
def cN (G:Gr g)(u:inn.length=g.length): ∀ (k i:Nat) (o:List Ξ),i+k=g.length -> o.length=K8 g inn i -> o.length<=i -> ∃ r,Ev (λn=>HB g inn n (UM i o)) r/\ r.2=0/\ r.1.length=K8 g inn g.length
 | 0,i,o,e,x,_=>by
  have e:i=g.length:=by omega
  subst e;refine ⟨(o,0),Ev.one λn=>?_,rfl,x⟩;unfold UM
  by_cases h0:o= []
  ·rw [zEZ h0,h0]
   show Mi n (HB g inn n) g inn (g.length:Int)=_
   unfold Mi;rw [zFd (by omega),zGF]
  ·rw [zGN h0]
   show Mh n (HB g inn n) g inn o.length (g.length:Int) o=_
   unfold Mh;rw [zFd (by omega),zGF,zEZ rfl]
 | k+1,i,o,e,x,hoi=>by
  have A:=G.len;have L:Ay=1000000000000:=rfl;have hi:i<g.length:=by omega
  have l:AG ((i:Int)+1):=Aj.2 ⟨by omega,by omega⟩;have U:((i+1:Nat):Int)=(i:Int)+1:=by omega
  cases c:inn.getD i false with
  | false=>
   have a: ¬ Ld g inn i:=λh=>by rw [h.1] at c;cases c
   obtain ⟨r,b,d⟩:=cN G u k (i+1) o (by omega) (by rw [gQ,zGN a];exact x) (by omega);refine ⟨r,AV.ev (m:=HB g inn) (AV.one λn=>?_) b,d⟩;unfold UM;rw [U]
   by_cases h0:o= []
   ·rw [zEZ h0,zEZ h0]
    show Mi n (HB g inn n) g inn (i:Int)=_
    unfold Mi;rw [zEE (by omega),zFR,zEZ ⟨by omega,by omega⟩,zCg,c,zIx,zFR,zEZ l]
   ·rw [zGN h0,zGN h0]
    show Mh n (HB g inn n) g inn o.length (i:Int) o=_
    unfold Mh;rw [zEE (by omega),zFR,zEZ ⟨by omega,by omega⟩,zCg,c,zIx,zFR,zEZ l]
  | true=>
   obtain ⟨m,j,N,X⟩:=qJ (s:=(i:Int)) G u (by omega) (by omega);obtain ⟨M,Y⟩:=qR (inn:=m) (by rw [j.1];exact A);have q:m.getD i false=true:=(j.2 i hi).2 .start;obtain ⟨f,f1,B,y,t,C⟩:=kW (p:=λi=>m.getD i false) m.length ⟨i,by rw [j.1];exact hi,q⟩;have V:CF m m.length=(f:Int)::t.map λi:Nat=>(i:Int):=by unfold CF;rw [C];rfl
   have X: ∀ n,N<=n -> Ku n g inn (i:Int)=some m:=X;have Y: ∀ n,M<=n -> NU n m=some ((f:Int)::t.map λi:Nat=>(i:Int)):=λn w=>by rw [←V];exact Y n w
   have QH:f<=i:=zM7 λh=>by
    rw [y i h] at q;cases q
   by_cases a:Ld g inn i
   ·have z:f=i:=by
     refine Classical.byContradiction λD=>a.2 f (by omega) ((j.2 f (by omega)).1 B)
    obtain ⟨r,b,d⟩:=cN G u k (i+1) (o++[(f:Int)::t.map λi:Nat=>(i:Int)]) (by omega) (by rw [gQ,zEZ a,zGY];simp;omega) (by rw [zGY];simp;omega);refine ⟨r,AV.ev (m:=HB g inn) (AV.oneN (max N M) λn w=>?_) b,d⟩;unfold UM;rw [U,zGN (show ¬ (o++[(f:Int)::t.map λi:Nat=>(i:Int)]= []) by simp)]
    by_cases h0:o= []
    ·rw [zEZ h0,h0]
     show Mi n (HB g inn n) g inn (i:Int)=_
     unfold Mi;rw [zEE (by omega),zFR,zEZ ⟨by omega,by omega⟩,zCg,c,zIA,zGF,X n (by omega),zEb,Y n (by omega),zEb,zEZ ⟨zGl _,by simp⟩,show (((f:Int)::t.map λi:Nat=>(i:Int)).getD 0 0==(i:Int))=true by simp [z],zFR,zEZ l];rfl
    ·rw [zGN h0]
     show Mh n (HB g inn n) g inn o.length (i:Int) o=_
     unfold Mh;rw [zEE (by omega),zFR,zEZ ⟨by omega,by omega⟩,zCg,c,zIA,zGF,X n (by omega),zEb,Y n (by omega),zEb,zEZ ⟨zGl _,by simp⟩,show (((f:Int)::t.map λi:Nat=>(i:Int)).getD 0 0==(i:Int))=true by simp [z],zFR,zEZ ⟨rfl,by simp;omega,l⟩,zGY]
   ·have z:f≠i:=λh=>a ⟨c,λv hv hR=>by
     have:=(j.2 v (by omega)).2 hR;rw [y v (by omega)] at this;cases this⟩
    obtain ⟨r,b,d⟩:=cN G u k (i+1) o (by omega) (by rw [gQ,zGN a];exact x) (by omega);refine ⟨r,AV.ev (m:=HB g inn) (AV.oneN (max N M) λn w=>?_) b,d⟩;unfold UM;rw [U]
    have D:(((f:Int)::t.map λi:Nat=>(i:Int)).getD 0 0==(i:Int))=false:=by
     show ((f:Int)==(i:Int))=false
     exact zH4.2 (by omega)
    by_cases h0:o= []
    ·rw [zEZ h0,zEZ h0]
     show Mi n (HB g inn n) g inn (i:Int)=_
     unfold Mi;rw [zEE (by omega),zFR,zEZ ⟨by omega,by omega⟩,zCg,c,zIA,zGF,X n (by omega),zEb,Y n (by omega),zEb,zEZ ⟨zGl _,by simp⟩,D,zGF,zEZ l]
    ·rw [zGN h0,zGN h0]
     show Mh n (HB g inn n) g inn o.length (i:Int) o=_
     unfold Mh;rw [zEE (by omega),zFR,zEZ ⟨by omega,by omega⟩,zCg,c,zIA,zGF,X n (by omega),zEb,Y n (by omega),zEb,zEZ ⟨zGl _,by simp⟩,D,zGF,zEZ l]
def vZ (G:H9 g)(u:inn.length=g.length): ∃ r,Ev (λn=>cO n g inn) r/\ r.2=0/\ r.1.length=K8 g inn g.length:=by
 obtain ⟨r,a,b⟩:=cN G.gr u g.length 0 [] (by omega) rfl (zGT _);refine ⟨r,Ev.bind (qM G) ?_,b⟩;refine a.eq λn=>?_
 show (bif ((0:Int) != 0) then _ else bif ((inn.length:Int) != (g.length:Int)) then _ else _)=_
 rw [u,show ((g.length:Int) != (g.length:Int))=false by simp];rfl
def g8 (G:Gr g){u:Nat}(q:u<g.length)(b:inn.getD u false=true): ∃ a,a<g.length/\ Ld g inn a/\ Rc g inn (u:Int) (a:Int):=by
 obtain ⟨a,c,d,e,_⟩:=kW (p:=λv=>decide (Rc g inn (u:Int) (v:Int))) g.length ⟨u,q,zEE .start⟩;have hR:Rc g inn (u:Int) (a:Int):=zIT d;refine ⟨a,c,⟨?_,λv f h=>?_⟩,hR⟩
 ·have:=hR.isIn (by rw [zCg];exact b)
  rwa [zCg] at this
 ·exact of_decide_eq_false (e v f) (hR.trans h)
def zEd (G:Gr g):K8 g inn g.length=0↔∀ v,v<g.length -> inn.getD v false=false:=by
 unfold K8;rw [zMf,zMo];constructor
 ·intro h v p;cases c:inn.getD v false with
  | false=>rfl
  | true=>
   obtain ⟨a,b,d,_⟩:=g8 G p c;exact absurd (zEE d) (h a (zGQ.2 b))
 ·intro h i hi r;have:=(zIT r).1;rw [h i (zGQ.1 hi)] at this;cases this
def zFI {l:Θ}(u:l.Nodup):l.length<=1↔∀ a∈l,∀ b∈l,a=b:=by
 match l,u with
 | [],_=>simp
 | [x],_=>simp
 | x::y::l,u=>
  refine zMn (by simp) λh=>?_
  have:=h x (by simp) y (by simp);subst this;simp at u
def zEe (G:Gr g):K8 g inn g.length<=1↔Mw g inn:=by
 unfold K8;rw [zFI (zNJ zMd zNY)];constructor
 ·intro h u v q p d E;obtain ⟨a,T,f,a3⟩:=g8 G q d;obtain ⟨b,r,z,s⟩:=g8 G p E;have e:=h a (zI2.2 ⟨zGQ.2 T,zEE f⟩) b (zI2.2 ⟨zGQ.2 r,zEE z⟩);subst e;exact a3.trans (s.symm G (by omega) (by omega) (by rw [zCg];exact E))
 ·intro c a D b i;obtain ⟨T,f⟩:=zI2.1 D;obtain ⟨r,z⟩:=zI2.1 i;have T:=zGQ.1 T;have r:=zGQ.1 r;have f:=zIT f;have z:=zIT z;rcases Nat.lt_trichotomy a b with h | h | h
  ·exact absurd (c b a r T z.1 f.1) (z.2 a h)
  ·exact h
  ·exact absurd (c a b T r f.1 z.1) (f.2 b h)
end
end
section
open Classical
section
variable {q:AA} {c:AD} {AM:Ξ} {g:List Ξ} {inn met:Ω} {s:Int} {l:Ξ}
def qD (G:Gr g)(u:inn.length=g.length){i:Nat}(hi:i<l.length)(h0:0<=l.getD i 0)(a:l.getD i 0<(g.length:Int)): ∀ (k j:Nat),j+k=(nb g (l.getD i 0)).length -> AV (HQ g inn) (.l2 l met (i:Int) ((((nb g (l.getD i 0)).take j).countP λx=>inn.getD x.toNat false:Nat):Int) (j:Int)) (.l2 l met (i:Int) ((Cc g inn (l.getD i 0):Nat):Int) ((nb g (l.getD i 0)).length:Int))
 | 0,j,e=>by
  have e:j=(nb g (l.getD i 0)).length:=by omega
  subst e;rw [zNa];exact AV.refl
 | k+1,j,e=>by
  have d:j<(nb g (l.getD i 0)).length:=by omega
  have p:=G.rng _ h0 a _ (QU d);have hw:=G.row _ h0 a;have hc:((nb g (l.getD i 0)).take j).countP (λx=>inn.getD x.toNat false)<=j:=zGK List.countP_le_length (by simp;omega);have b:g.getD (l.getD i 0).toNat []=nb g (l.getD i 0):=rfl
  have c: ∀ w:Ξ,j<w.length -> w.take (j+1)=w.take j++[w.getD j 0]:=λw d=>by
   rw [zGH,zGU d];exact (List.take_append_getElem d).symm
  refine (AV.one λn=>?_).trans (qD G u hi h0 a k (j+1) (by omega))
  show U8 n (HQ g inn n) g inn l met (i:Int) _ (j:Int)=_
  unfold U8;simp only [zCg,b];rw [zEZ ⟨⟨by omega,by omega⟩,h0,a⟩,zEE (by omega),zFR,zEZ ⟨⟨by omega,by omega⟩,p.1,by omega⟩,c _ d,List.countP_append,List.countP_singleton,show ((j+1:Nat):Int)=(j:Int)+1 by omega];cases inn.getD ((nb g (l.getD i 0)).getD j 0).toNat false with
  | false=>rw [zGF,zEZ (Aj.2 ⟨by omega,by omega⟩)];simp
  | true=>rw [zFR,zEZ ⟨Aj.2 ⟨by omega,by omega⟩,Aj.2 ⟨by omega,by omega⟩⟩];simp
def qE (G:Gr g)(u:inn.length=g.length)(f:met.length=g.length)(m: ∀ v∈l,0<=v/\ v<(g.length:Int))(q:l.length<=256): ∀ (k i:Nat),i+k=l.length -> ∃ r,Ev (λn=>HQ g inn n (.l1 l met (i:Int))) (r,0)/\ (r=true↔∀ a,i<=a -> a<l.length -> Cc g inn (l.getD a 0)=2/\ met.getD (l.getD a 0).toNat false=true)
 | 0,i,e=>by
  refine ⟨true,Ev.one λn=>?_,zNl rfl λa b c=>absurd c (by omega)⟩
  show U9 n (HQ g inn n) g inn l met (i:Int)=_
  unfold U9;rw [zFd (by omega),zGF]
 | k+1,i,e=>by
  have hi:i<l.length:=by omega
  obtain ⟨h0,b⟩:=m _ (QU hi);have hw:=G.row _ h0 b;have w:g.getD (l.getD i 0).toNat []=nb g (l.getD i 0):=rfl
  have A:AV (HQ g inn) (.l1 l met (i:Int)) (.l2 l met (i:Int) ((Cc g inn (l.getD i 0):Nat):Int) ((nb g (l.getD i 0)).length:Int)):=by
   refine (AV.one λn=>?_).trans (qD G u hi h0 b _ 0 (zGw _))
   show U9 n (HQ g inn n) g inn l met (i:Int)=_
   unfold U9;rw [zEE (by omega),zFR];rfl
  have step: ∀ n,HQ g inn (n+1) (.l2 l met (i:Int) ((Cc g inn (l.getD i 0):Nat):Int) ((nb g (l.getD i 0)).length:Int))=if Cc g inn (l.getD i 0)=2/\ met.getD (l.getD i 0).toNat false=true then HQ g inn n (.l1 l met ((i+1:Nat):Int)) else some (false,0):=λn=>by
   show U8 n (HQ g inn n) g inn l met (i:Int) _ _=_
   unfold U8;simp only [zCg,w];rw [zEZ ⟨⟨by omega,by omega⟩,h0,b⟩,zFd (by omega),zGF,zEZ ⟨h0,by omega⟩,zEZ (Aj.2 ⟨by omega,by omega⟩),show ((i+1:Nat):Int)=(i:Int)+1 by omega]
   by_cases d:Cc g inn (l.getD i 0)=2
   ·rw [d,show (((2:Nat):Int) != 2)=false from rfl,zGF];cases met.getD (l.getD i 0).toNat false with
    | true=>simp
    | false=>simp
   ·rw [show (((Cc g inn (l.getD i 0):Nat):Int) != 2)=true from zJQ.2 (by omega),zFR,zGN λh=>d h.1]
  by_cases x:Cc g inn (l.getD i 0)=2/\ met.getD (l.getD i 0).toNat false=true
  ·obtain ⟨r,j,y⟩:=qE G u f m q k (i+1) (by omega);refine ⟨r,AV.ev (A.trans (AV.one λn=>by rw [step n,zEZ x])) j,y.trans ⟨λh a b c=>?_,λh a b c=>h a (by omega) c⟩⟩
   by_cases W:a=i
   ·rw [W];exact x
   ·exact h a (by omega) c
  ·refine ⟨false,AV.ev A (Ev.one λn=>by rw [step n,zGN x]),zMn (by decide) λh=>x (h i (zGT _) hi)⟩
def zEz:(CF inn inn.length).length=(List.range inn.length).countP λx=>inn.getD x false:=by
 unfold CF;rw [zGX,zIM]
def zCd (G:H9 g)(c:inn.length=g.length): ∃ r,Ev (λn=>Y8 n g inn) (r,0)/\ (r=true↔(∀ v,v<g.length -> inn.getD v false=true -> Cc g inn v=2)/\ (∃ v,v<g.length/\ inn.getD v false=true)/\ Mw g inn):=by
 have Am:=G.gr.len;obtain ⟨M,Y⟩:=qR (inn:=inn) (by omega);have Y: ∀ n,M<=n -> NU n inn=some (CF inn inn.length):=Y
 have X: ∀ v∈CF inn inn.length,0<=v/\ v<(g.length:Int):=λv p=>by
  have:=Z4.1 p;omega
 have tT:=sB (inn:=inn) (k:=inn.length)
 have start: ∀ {f:Nat -> Option (Bool×Int)} {r:Bool×Int},Ev f r -> (∀ n,M<=n -> (bif (decide (((CF inn inn.length).length:Int)<3)) then some (false,0) else if (0:Int)<=0/\ 0<((CF inn inn.length).length:Int) then (Ku n g inn ((CF inn inn.length).getD 0 0)).bind λy3=>HQ g inn n (.l1 (CF inn inn.length) y3 0) else none)=f n) -> Ev (λn=>Y8 n g inn) r:=λ{f r} i J=>by
  obtain ⟨N,i⟩:=i;refine Ev.bind (qM G) ⟨max M N,λn hn=>?_⟩
  show (bif ((0:Int) != 0) then _ else bif ((inn.length:Int) != (g.length:Int)) then some (false,1) else (NU n inn).bind λy2=>_)=_
  rw [c,show ((g.length:Int) != (g.length:Int))=false by simp,zGF,Y n (by omega),zEb];exact (J n (by omega)).trans (i n (by omega))
 by_cases q:((CF inn inn.length).length:Int)<3
 ·refine ⟨false,start (f:=λ_=>some (false,0)) (Ev.now λn=>rfl) λn _=>by rw [zEE q,zFR],zMn (by decide) λ⟨j,⟨v,K,L⟩,_⟩=>?_⟩;have:=yP G K L (j v K L);rw [←c,←zEz] at this;omega
 ·have s:0<(CF inn inn.length).length:=by omega
  obtain ⟨t,w⟩:=X _ (QU s);have H:=(Z4.1 (QU s)).2.2;obtain ⟨m,d,C⟩:=qJ G.gr c t w;obtain ⟨r,z,A⟩:=qE (met:=m) G.gr c d.1 X (by omega) (CF inn inn.length).length 0 (by omega);refine ⟨r,start (f:=λn=>(Ku n g inn ((CF inn inn.length).getD 0 0)).bind λy3=>HQ g inn n (.l1 (CF inn inn.length) y3 0)) (Ev.bind C z) λn _=>by rw [zFd q,zGF,zEZ ⟨zGl _,by omega⟩],A.trans ?_⟩
  have l: ∀ v,v<g.length -> inn.getD v false=true -> ∃ a,a<(CF inn inn.length).length/\ (CF inn inn.length).getD a 0=(v:Int):=λv p E=>by
   obtain ⟨a,D,e⟩:=zGt (Z4.2 ⟨by omega,by omega,by rw [zCg];exact E⟩:(v:Int)∈CF inn inn.length);exact ⟨a,D,by rw [zGH,zGU D];exact e⟩
  constructor
  ·intro h;refine ⟨λv p E=>?_,⟨((CF inn inn.length).getD 0 0).toNat,by omega,H⟩,λu v x p B E=>?_⟩
   ·obtain ⟨a,T,o⟩:=l v p E;have:=(h a (zIG _) T).1
    rwa [o] at this
   ·obtain ⟨a,T,o⟩:=l u x B;obtain ⟨b,F,I⟩:=l v p E;have D:=(h a (zIG _) T).2;have y:=(h b (zIG _) F).2;rw [o,zCg] at D;rw [I,zCg] at y;exact ((d.2 u x).1 D |>.symm G.gr t w H).trans ((d.2 v p).1 y)
  ·rintro ⟨j,_,O⟩ a _ D;obtain ⟨v0,K,L⟩:=Z4.1 (QU D);have e:(CF inn inn.length).getD a 0=(((CF inn inn.length).getD a 0).toNat:Int):=by omega
   refine ⟨by rw [e];exact j _ (by omega) L,(d.2 _ (by omega)).2 ?_⟩;have:=O _ ((CF inn inn.length).getD a 0).toNat (show ((CF inn inn.length).getD 0 0).toNat<g.length by omega) (by omega) H L
   rwa [show ((((CF inn inn.length).getD 0 0).toNat:Nat):Int)=(CF inn inn.length).getD 0 0 by omega] at this
end
end
section
variable {q:AA} {pos:Ξ}
def zCA {n:Nat}(Q:DK q)(u:Dz q<=n)(hl:pos.length<=LB)(Hg:pos.length<n):Uy n q pos=some (Dm q pos):=by
 have hb:LB<=9223372036854775806:=by decide
 unfold Uy pd Dm;rw [pO Q u,zEb];cases c:CK q with
 | false=>rfl
 | true=>
  obtain ⟨_,j,_⟩:=DM c;obtain ⟨I,p2,G⟩:=ZO j.1 j.2
  have X:IntKind.u64.wrap q.symbols=q.symbols:=by
   show q.symbols % 18446744073709551616=q.symbols
   omega
  show (bif ((pos.length:Int) != q.cells) then some 250 else O9 q pos n (.l1 0))=some (if posOk q pos=true then 0 else 250)
  unfold posOk
  by_cases N:(pos.length:Int)=q.cells
  ·have a:((pos.length:Int) != q.cells)=false:=by simpa using N
   have b:((pos.length:Int)==q.cells)=true:=by simpa using N
   rw [a,zGF,b,zIy]
   have key: ∀ (k i n:Nat),i+k=pos.length -> k+1<=n -> O9 q pos n (.l1 (i:Int))=some (if ((pos.drop i).all λx=>decide (0<=x)&&decide (x<2 ^ q.symbols.toNat))=true then 0 else 250):=by
    intro k
    induction k with
    | zero=>
     intro i n e u;obtain ⟨n,rfl⟩: ∃ k,n=k+1:=⟨n-1,by omega⟩
     show Ux n (O9 q pos n) q pos (i:Int)=_
     unfold Ux;rw [zFd (by omega),zGF,zJw (by omega)];rfl
    | succ k U=>
     intro i n e u;obtain ⟨n,rfl⟩: ∃ k,n=k+1:=⟨n-1,by omega⟩;have hi:i<pos.length:=by omega
     have z:pos.drop i=pos.getD i 0::pos.drop (i+1):=by
      rw [zGg hi,zGH,zGU hi];rfl
     have:=U (i+1) n (by omega) (by omega)
     show Ux n (O9 q pos n) q pos (i:Int)=_
     unfold Ux;rw [zEE (by omega),zFR,zEZ ⟨by omega,by omega⟩,X,zEZ G,zEZ (Aj.2 ⟨by omega,by omega⟩),zCg,z,zMs,I]
     by_cases w:pos.getD i 0<0
     ·rw [zEE w,zFR,zFd (p:=0<=pos.getD i 0) (by omega)];rfl
     ·rw [zFd w,zGF,zEE (p:=0<=pos.getD i 0) (by omega),zIy]
      by_cases t:pos.getD i 0>=2 ^ q.symbols.toNat
      ·rw [zEE t,zFR,zFd (p:=pos.getD i 0<2 ^ q.symbols.toNat) (by omega)];rfl
      ·rw [zFd t,zGF,zEE (p:=pos.getD i 0<2 ^ q.symbols.toNat) (by omega),zIy];exact this
   exact key pos.length 0 n (by omega) (by omega)
  ·have a:((pos.length:Int) != q.cells)=true:=by simpa using N
   have b:((pos.length:Int)==q.cells)=false:=by simpa using N
   rw [a,zFR,b,zNk];rfl
end
section
variable {q:AA} {c:AD} {g:Ξ} {i:Int} {inn:Ω}
def zKv (G:H9 q.nbrs)(u:inn.length=q.nbrs.length): ∃ b,Ev (λn=>XI n q.nbrs inn) b/\ (b=true↔Mw q.nbrs inn):=by
 obtain ⟨r,a,c,h⟩:=vZ G u;refine ⟨decide ((r.1.length:Int)<=1),Ev.bind a (Ev.now λn=>by rw [c];rfl),?_⟩;rw [zGM,h,←zEe G.gr];omega
def zFA (G:H9 q.nbrs)(e:inn.length=q.nbrs.length): ∃ b,Ev (λn=>Vo n q.nbrs inn) b/\ (b=true↔Mw q.nbrs inn/\ ∀ v,v<q.nbrs.length -> inn.getD v false=true -> Cc q.nbrs inn v=2):=by
 obtain ⟨r,a,c,g⟩:=vZ G e;obtain ⟨b,l,y⟩:=zCd G e;have d:=zEd (inn:=inn) G.gr;rw [←g] at d;refine ⟨if r.1.length=0 then true else b,Ev.bind a (Ev.bind l (Ev.now λn=>?_)),?_⟩
 ·rw [c]
  show (bif ((r.1.length:Int)==0) then some true else some b)=_
  by_cases h0:r.1.length=0
  ·rw [zEZ h0,h0];rfl
  ·rw [zGN h0,zH4.2 (by omega),zGF]
 ·by_cases h0:r.1.length=0
  ·rw [zEZ h0];have h:=d.1 h0;exact zNl rfl ⟨λu v i _ f _=>(by rw [h u i] at f;cases f),λv p E=>(by rw [h v p] at E;cases E)⟩
  ·rw [zGN h0,y];constructor
   ·rintro ⟨a,_,c⟩;exact ⟨c,a⟩
   ·rintro ⟨a,c⟩;refine ⟨c,Classical.byContradiction λj=>h0 (d.2 λv p=>?_),a⟩;cases k:inn.getD v false with
    | false=>rfl
    | true=>exact absurd ⟨v,p,k⟩ j
def ru (S:Sv q c g)(W:FT c q (Ar g)):Ev (λn=>PY n g c.cells c.set) (Dn c g):=by
 have L:(1000000000000:Nat)=Ay:=rfl;have m:=W.len;have u:=W.l1;rw [Fn] at m u
 have key: ∀ (k j:Nat) (o:Ω),j+k=g.length -> o.length=g.length -> (∀ v,v<j -> o.getD v false=(Dn c g).getD v false) -> Ev (λn=>SP g c.cells c.set n (.l1 (j:Int) o)) (Dn c g):=by
  intro k
  induction k with
  | zero=>
   intro j o e x a
   have:o=Dn c g:=by
    refine zJA (by rw [x,PW]) λv b f=>?_
    have:=a v (by omega);simpa [zGH,b,f] using this
   subst this;refine Ev.one λn=>?_
   show Vi n (SP g c.cells c.set n) g c.cells c.set (j:Int) (Dn c g)=_
   unfold Vi;rw [zFd (by omega),zGF,zEZ x.symm]
  | succ k U=>
   intro j o e x a;have d:j<g.length:=by omega
   have hid:=W.id j (by rw [Fn];exact d);have V2:=S.G.lt S.v d;have LL:=S.G.sym j d;have i:g.getD j 0=(((g.getD j 0).toNat:Nat):Int):=by omega
   refine AV.ev (AV.one λn=>?_) (U (j+1) (o.set j (tb c.set (g.getD j 0).toNat)) (by omega) (by rw [zGZ];exact x) λv p=>?_)
   ·show Vi n (SP g c.cells c.set n) g c.cells c.set (j:Int) o=_
    unfold Vi;rw [zEE (by omega),zFR,zCg,hid,zEZ ⟨⟨by omega,by omega⟩,by omega,by omega⟩,zCg,i,NV (by omega),zEb,zEZ ⟨by omega,Aj.2 ⟨by omega,by omega⟩⟩,zGw,zCg,show ((j+1:Nat):Int)=(j:Int)+1 by omega]
   ·by_cases w:v=j
    ·subst w;rw [zGH,List.getElem?_set_self (by omega),zNX,gU d]
    ·rw [zGH,List.getElem?_set_ne (λh=>w h.symm),←zGH];exact a v (by omega)
 have:=key g.length 0 (List.replicate g.length false) (by omega) zH0 λv p=>absurd p (zGR v)
 refine Ev.eq this λn=>?_
 unfold PY rt;rw [zEZ ⟨rfl,by omega,by omega⟩];rfl
def zEk (C:Bq q i (Ar g))(G:Gd q g): ∃ b,Ev (λn=>GY n q (con q i) g) b/\ (b=true↔CI q (con q i) g):=by
 have S:=C.sv G;have v:BI (Ar g)=false:=FA.2 S.nz;have W:=C.work;have V:=C.vals;have o:=W.len
 have D: ∀ {k:Int} {f:Nat -> Option Bool} {b:Bool} {M:Prop},(con q i).kind=k -> (∀ n,GY n q (con q i) g=f n) -> Ev f b -> (b=true↔M) -> (CI q (con q i) g↔M) -> ∃ b,Ev (λn=>GY n q (con q i) g) b/\ (b=true↔CI q (con q i) g):=
  λ_ J x y Y=>⟨_,x.eq J,y.trans Y.symm⟩
 have z:=Pi (Ph C.kind)
 generalize l:con q i=c at*
 rcases z with hk | hk | hk | hk | hk | hk | hk | hk | hk
 ·obtain ⟨r,j,e⟩:=zKP S o;exact D (f:=λn=>(b9 n g c.cells).bind some) hk (λn=>by unfold GY K9;rw [hk];rfl) (Ev.bind j (Ev.now λn=>rfl)) e (by unfold CI;rw [hk];simp)
 ·refine D (f:=λn=>(cG n g c.cells c.set).bind λd=>bif decide (c.lo<=d) then some (decide (d<=c.hi)) else some false) (M:=c.lo<=cnt (λa=>tb c.set (AT c g a)) c.cells.length/\ cnt (λa=>tb c.set (AT c g a)) c.cells.length<=c.hi) (b:=decide (c.lo<=cnt (λa=>tb c.set (AT c g a)) c.cells.length)&&decide (cnt (λa=>tb c.set (AT c g a)) c.cells.length<=c.hi)) hk (λn=>by unfold GY K9;rw [hk];rfl) (Ev.bind (zKf S o) (Ev.now λn=>?_)) (by simp) (by unfold CI;rw [hk];simp);cases decide (c.lo<=cnt (λa=>tb c.set (AT c g a)) c.cells.length) <;> rfl
 ·refine D (f:=λn=>(YB n q.values g c.cells).bind λd=>bif decide (c.lo<=d) then some (decide (d<=c.hi)) else some false) (M:=c.lo<=Ck (λa=>q.values.getD (AT c g a) 0) c.cells.length/\ Ck (λa=>q.values.getD (AT c g a) 0) c.cells.length<=c.hi) (b:=decide (c.lo<=Ck (λa=>q.values.getD (AT c g a) 0) c.cells.length)&&decide (Ck (λa=>q.values.getD (AT c g a) 0) c.cells.length<=c.hi)) hk (λn=>by unfold GY K9;rw [hk];rfl) (Ev.bind (yq S V o) (Ev.now λn=>?_)) (by simp) (by unfold CI;rw [hk];simp);cases decide (c.lo<=Ck (λa=>q.values.getD (AT c g a) 0) c.cells.length) <;> rfl
 ·obtain ⟨r,j,e⟩:=zCY S V o;exact D (f:=λn=>(Y7 n q.values g c.cells).bind some) hk (λn=>by unfold GY K9;rw [hk];rfl) (Ev.bind j (Ev.now λn=>rfl)) e (by unfold CI;rw [hk];simp)
 ·have A:=fH (b:=λa=>tb c.set (AT c g a)) (N:=c.cells.length) c.cells.length 0;refine D (f:=λn=>(Yr n g c.cells c.set).bind λd=>(Rg n d c.runs).bind some) (M:=rl (λa=>tb c.set (AT c g a)) c.cells.length c.cells.length 0=c.runs) (b:=decide (rl (λa=>tb c.set (AT c g a)) c.cells.length c.cells.length 0=c.runs)) hk (λn=>by unfold GY K9;rw [hk];rfl) (Ev.bind (zBp S o) ⟨300,λn hn=>?_⟩) (by simp) (by unfold CI;rw [hk];simp)
  show (Rg n _ c.runs).bind some=_
  rw [zFq (zGK A (zGK (by omega:c.cells.length+1<=300) (by decide))) (by omega)];rfl
 ·have e:c.cells.length=2:=by rw [←l];exact C.two (.inl (by rw [l];exact hk))
  have s:=S.cell 0 (by omega);have w:=S.cell 1 (by omega);have t:=S.gi (a:=0) (by omega);have u:=S.gi (a:=1) (by omega);have l0:=(S.lt (a:=0) (by omega)).1;have p:=(S.lt (a:=1) (by omega)).1;have vl:=V.len;have v0:=V.val _ l0;have v1:=V.val _ p;refine D (f:=λn=>GY n q c g) (M:=I6 q c (AT c g 0) (AT c g 1)=true) (b:=I6 q c (AT c g 0) (AT c g 1)) hk (λn=>rfl) (Ev.now λn=>?_) Iff.rfl (by unfold CI;rw [hk];simp);unfold GY K9;rw [hk]
  show (if _ then _ else none)=_
  rw [t,u,zCg,zCg,zEZ ⟨⟨by omega,by omega⟩,s,⟨by omega,by omega⟩,⟨by omega,by omega⟩,w,by omega,by omega⟩];unfold fV qT I6;rw [zEZ (Aj.2 ⟨by omega,by omega⟩),zEZ (Aj.2 ⟨by omega,by omega⟩)]
  by_cases h:q.values.getD (AT c g 0) 0-q.values.getD (AT c g 1) 0>=c.lo
  ·rw [zEE h,zFR,zEb];refine congrArg some (zEE ?_).symm;split <;> omega
  ·rw [zFd h,zGF,zEb];refine congrArg some ?_;rw [zNb];split <;> omega
 ·have e:c.cells.length=2:=by rw [←l];exact C.two (.inr (by rw [l];exact hk))
  have s:=S.cell 0 (by omega);have w:=S.cell 1 (by omega);have t:=S.gi (a:=0) (by omega);have u:=S.gi (a:=1) (by omega);have l0:=(S.lt (a:=0) (by omega)).2;have p:=(S.lt (a:=1) (by omega)).2;refine D (f:=λn=>GY n q c g) (M:=IS c (AT c g 0) (AT c g 1)=true) (b:=IS c (AT c g 0) (AT c g 1)) hk (λn=>rfl) (Ev.now λn=>?_) Iff.rfl (by unfold CI;rw [hk];simp);unfold GY K9;rw [hk]
  show (if _ then _ else none)=_
  rw [t,u,zEZ ⟨⟨by omega,by omega⟩,s,⟨by omega,by omega⟩,w⟩,NV l0,NV p,NV l0,NV p];unfold IS;cases tb c.set (AT c g 0) <;> cases tb c.set (AT c g 1) <;> cases tb c.other (AT c g 0) <;> cases tb c.other (AT c g 1) <;> rfl
 ·have m:FT c q (Ar g):=by rw [←l];exact C.all (.inl (by rw [l];exact hk)) v
  have X:=m.gl;rw [Fn] at X;obtain ⟨r,j,e⟩:=zKv (inn:=Dn c g) m.g (by rw [PW];omega);exact D (f:=λn=>(PY n g c.cells c.set).bind λd=>(XI n q.nbrs d).bind some) hk (λn=>by unfold GY K9;rw [hk];rfl) (Ev.bind (ru S m) (Ev.bind j (Ev.now λn=>rfl))) e (by unfold CI;rw [hk];simp)
 ·have m:FT c q (Ar g):=by rw [←l];exact C.all (.inr (by rw [l];exact hk)) v
  have X:=m.gl;rw [Fn] at X;obtain ⟨r,j,e⟩:=zFA (inn:=Dn c g) m.g (by rw [PW];omega);rw [X] at e;exact D (f:=λn=>(PY n g c.cells c.set).bind λd=>(Vo n q.nbrs d).bind some) hk (λn=>by unfold GY K9;rw [hk];rfl) (Ev.bind (ru S m) (Ev.bind j (Ev.now λn=>rfl))) e (by unfold CI;rw [hk];simp)
def zJo (G:Gd q g)(p:CK q=true):Ev (λn=>ba n q.cells q.symbols g) true:=by
 have N:=G.len;have hc:=(DM p).1
 have key: ∀ (k j:Nat),j+k=g.length -> Ev (λn=>TI q.cells q.symbols g n (.l1 (j:Int))) true:=by
  intro k
  induction k with
  | zero=>
   intro j e;refine Ev.one λn=>?_
   show Wk n (TI q.cells q.symbols g n) q.cells q.symbols g (j:Int)=_
   unfold Wk;rw [zFd (by omega),zGF]
  | succ k U=>
   intro j e;have d:j<g.length:=by omega
   obtain ⟨s0,s1⟩:=G.sym j d;refine AV.ev (AV.one λn=>?_) (U (j+1) (by omega))
   show Wk n (TI q.cells q.symbols g n) q.cells q.symbols g (j:Int)=_
   unfold Wk;rw [zEE (by omega),zFR,zEZ ⟨by omega,by omega⟩,zCg,zFd (by omega),zGF,zFd (by omega),zGF,zEZ (Aj.2 ⟨by omega,by omega⟩),show ((j+1:Nat):Int)=(j:Int)+1 by omega]
 refine (key g.length 0 (by omega)).eq λn=>?_
 unfold ba um;rw [show ((g.length:Int) != q.cells)=false by simpa using N,zGF];rfl
def zL (Q:DK q)(p:CK q=true)(G:Gd q g)(BH:q.cons.length<=LB): ∃ b,Ev (λn=>Kl n q g) (b,0)/\ (b=true↔Kb q g):=by
 have hb:LB<=9223372036854775806:=by decide
 have key: ∀ (k j:Nat),j+k=q.cons.length -> (∀ i,0<=i -> i<(j:Int) -> CI q (con q i) g) -> ∃ b,Ev (λn=>NA q g n (.l1 (j:Int))) (b,0)/\ (b=true↔Kb q g):=by
  intro k
  induction k with
  | zero=>
   intro j e h;refine ⟨true,Ev.one λn=>?_,zNl rfl λi h0 a=>h i h0 (by omega)⟩
   show US n (NA q g n) q g (j:Int)=_
   unfold US;rw [zFd (by omega),zGF]
  | succ k U=>
   intro j e h;have hj:j<q.cons.length:=by omega
   obtain ⟨b,⟨N,X⟩,z⟩:=zEk (G.ctx Q p (i:=(j:Int)) (by omega) (by omega)) G;have V:con q (j:Int)=q.cons.getD j default:=by unfold con;rw [zCg]
   rw [V] at X;have X: ∀ n,N<=n -> GY n q (q.cons.getD j default) g=some b:=X
   have step: ∀ n,N<=n -> NA q g (n+1) (.l1 (j:Int))=bif !b then some (false,0) else NA q g n (.l1 ((j+1:Nat):Int)):=λn u=>by
    show US n (NA q g n) q g (j:Int)=_
    unfold US;rw [zEE (by omega),zFR,zEZ ⟨by omega,by omega⟩,zCg,X n u,zEb,zEZ (Aj.2 ⟨by omega,by omega⟩),show ((j+1:Nat):Int)=(j:Int)+1 by omega]
   cases b with
   | false=>
    refine ⟨false,Ev.oneN N λn u=>by rw [step n u];rfl,zMn (by decide) λc=>?_⟩;have:=z.2 (c (j:Int) (by omega) (by omega));cases this
   | true=>
    obtain ⟨r,l,y⟩:=U (j+1) (by omega) λi h0 a=>by
     by_cases w:i=(j:Int)
     ·rw [w];exact z.1 rfl
     ·exact h i h0 (by omega)
    exact ⟨r,AV.ev (AV.oneN N λn u=>by rw [step n u];rfl) l,y⟩
 obtain ⟨b,d,z⟩:=key q.cons.length 0 (by omega) λi h0 a=>absurd a (by omega)
 have B:Ev (λn=>Xs n q g) 0:=by
  refine Ev.bind (x:=0) ⟨Dz q,λn u=>by show Ri n q=_;rw [pO Q u,p];rfl⟩ ?_;exact Ev.eq (Ev.bind (zJo G p) (Ev.now λn=>rfl)) λn=>rfl
 exact ⟨b,Ev.bind B d,z⟩
end
structure A4 (q:AA)(p:Ξ):Prop where
 fit:DK q
 valid:CK q=true
 ok:posOk q p=true
def Le (a b:Ξ):Prop:=∀ j s,tb (a.getD j 0) s=true -> tb (b.getD j 0) s=true
def Up (q:AA)(level:Int)(i:Int):Prop:=0<=i/\ i<(q.cons.length:Int)/\ IT (con q i).kind<=level
def Ih (q:AA)(U:Int -> Prop)(p:Ξ):Prop:=∀ i,U i -> PR q (con q i) p p
inductive Dw (q:AA)(U:Int -> Prop):Ξ -> Ξ -> Prop
 | refl (p:Ξ):Dw q U p p
 | step {p x y:Ξ} {i:Int}:U i -> PR q (con q i) p x -> Dw q U x y -> Dw q U p y
section
variable {q:AA} {U:Int -> Prop} {p x y z:Ξ} {i level:Int}
def A4.ctx (h:A4 q p)(h0:0<=i)(a:i<(q.cons.length:Int)):Bq q i p:=⟨h.fit,h.valid,h0,a,h.ok⟩
def A4.len (h:A4 q p):(p.length:Int)=q.cells:=((I4 h.valid).1 h.ok).1
def A4.sm (h:A4 q p): ∀ j,j<p.length -> Sm q.symbols.toNat (p.getD j 0):=((I4 h.valid).1 h.ok).2
def A4.k (h:A4 q p):q.symbols.toNat<=16:=by have:=(DM h.valid).2.1;omega
def A4.len256 (h:A4 q p):0<p.length/\ p.length<=256:=by
 have h1:=(DM h.valid).1;have:=h.len;omega
def A4.in64 (h:A4 q p)(j:Nat):CB (p.getD j 0):=by
 by_cases d:j<p.length
 ·exact (h.sm j d).in64 (by have:=h.k;omega)
 ·rw [zGH,zI5 (by omega)];exact ⟨by decide,by decide⟩
def A4.pr (h:A4 q p)(h0:0<=i)(a:i<(q.cons.length:Int))(e:PR q (con q i) p x):A4 q x:=⟨h.fit,h.valid,e.posOk (h.ctx h0 a)⟩
def A4.eqlen (h:A4 q p)(h':A4 q x):x.length=p.length:=by have:=h.len;have:=h'.len;omega
theorem Le.refl (a:Ξ):Le a a:=λ_ _ h=>h
def Le.trans (h:Le x y)(h':Le y z):Le x z:=λj s a=>h' j s (h j s a)
def Le.eq (a:A4 q x)(hy:A4 q y)(h:Le x y)(h':Le y x):x=y:=by
 have e:x.length=y.length:=hy.eqlen a;refine zJA e λj b c=>?_
 have w:x.getD j 0=x[j]:=by simp [b]
 have z:y.getD j 0=y[j]:=by simp [c]
 rw [←w,←z];refine Kj (a.in64 j) (hy.in64 j) λs _=>?_
 rw [zIh];exact ⟨h j s,h' j s⟩
variable {c:AD}
def PR.le (h:PR q c p x):Le x p:=λ_ _ j=>(h.sub j).2
def Dw.pos (M: ∀ i,U i -> 0<=i/\ i<(q.cons.length:Int))(r:Dw q U p y):A4 q p -> A4 q y:=by
 induction r with
 | refl p=>exact id
 | step hi e _ a=>exact λh=>a (h.pr (M _ hi).1 (M _ hi).2 e)
def Dw.le (r:Dw q U p y):Le y p:=by
 induction r with
 | refl p=>exact Le.refl p
 | step hi e _ a=>exact a.trans e.le
def Dw.trans (h:Dw q U p x)(h':Dw q U x y):Dw q U p y:=by
 induction h with
 | refl p=>exact h'
 | step hi e _ a=>exact .step hi e (a h')
def Dw.one (hi:U i)(e:PR q (con q i) p x):Dw q U p x:=.step hi e (.refl x)
def Dw.above (b: ∀ i,U i -> 0<=i/\ i<(q.cons.length:Int))(r:Dw q U p y):A4 q p -> A4 q z -> Le z p -> Ih q U z -> Le z y:=by
 induction r with
 | refl p=>exact λ_ _ h _=>h
 | step hi e _ c=>
  intro g v l M;obtain ⟨h0,a⟩:=b _ hi;exact c (g.pr h0 a e) v (qf (g.ctx h0 a) (v.ctx h0 a) l e (M _ hi)) M
theorem Dw.uniq (M: ∀ i,U i -> 0<=i/\ i<(q.cons.length:Int))(g:A4 q p)(e:Dw q U p x)(hy:Dw q U p y)(Y:Ih q U x)(Z:Ih q U y):x=y:=
 Le.eq (e.pos M g) (hy.pos M g) (hy.above M g (e.pos M g) e.le Y) (e.above M g (hy.pos M g) hy.le Z)
def dV (i:Int)(h:Up q level i):0<=i/\ i<(q.cons.length:Int):=⟨h.1,h.2.1⟩
variable {m:Nat}
theorem qe (v:0<m):PR q c (List.replicate m 0) (List.replicate m 0):=by
 refine ⟨rfl,λA=>?_,λ_=>by simp⟩;have:=A.nz 0 (by simpa using v)
 grind
def kR (v:0<m):Ih q U (List.replicate m 0):=λ_ _=>qe v
def PR.zero (h:PR q c p x)(r:BI x=true):x=List.replicate p.length 0:=by
 refine Classical.byContradiction λD=>?_
 have A:Fj q c p:=Classical.byContradiction λA=>D (h.dead A)
 have: ¬ BI x=false:=by rw [r];exact λh=>by cases h
 refine this (FA.2 λj d=>?_);have a:j<p.length:=by rw [←h.len];exact d
 obtain ⟨s,b,e,f⟩:=A.left j a;exact (Ex (h.live A j a).1).2 ⟨s,b,((h.live A j a).2 s).2 ⟨e,f⟩⟩
def wt (p:Ξ):Nat:=(List.range (64*p.length)).countP λk=>tb (p.getD (k/64) 0) (k % 64)
def T6 (b:A4 q x)(g:A4 q p)(h:Le x p)(D:x≠p):wt x+1<=wt p:=by
 have e:x.length=p.length:=g.eqlen b
 obtain ⟨j,s,hj,c,d,f⟩: ∃ j s:Nat,j<p.length/\ s<64/\ tb (x.getD j 0) s=false/\ tb (p.getD j 0) s=true:=by
  refine Classical.byContradiction λhn=>D (Le.eq b g h λj s c=>?_)
  grind [tb]
 unfold wt;rw [e];have z:(64*j+s)/64=j:=by omega
 have es:(64*j+s) % 64=s:=by omega
 refine Mf (a:=64*j+s) (by rw [z,es];exact d) (by rw [z,es];exact f) _ (λk _ hk=>h _ _ hk) (zGQ.2 (by omega))
end
section
variable {q:AA} {level:Int} {p:Ξ}
def F2 (q:AA)(level:Int)(k:Nat):Ξ:=((List.range k).filter λi:Nat=>decide (IT (con q (i:Int)).kind<=level)).map λi:Nat=>(i:Int)
def Af (q:AA)(level:Int):Ξ:=F2 q level q.cons.length
variable {k:Nat}
def yA :F2 q level (k+1)=F2 q level k++if IT (con q (k:Int)).kind<=level then [(k:Int)] else []:=by
 unfold F2;rw [zJ9,zMU,zMq]
 grind
def UC :(F2 q level k).length<=k:=by
 grind [F2]
theorem LA {i:Int}:i∈Af q level↔Up q level i:=by
 unfold Af F2 Up;rw [zIH];constructor
 ·grind
 ·rintro ⟨h0,h1,h2⟩;refine ⟨i.toNat,?_,by omega⟩
  grind
def It (acc:Ξ)(k:Nat):RE:=if acc= [] then .l1 (k:Int) else .l2 acc.length (k:Int) acc
def sK (p:CK q=true)(hk:k<q.cons.length):MG q (k:Int)=(IT (con q (k:Int)).kind,0):=by
 unfold MG;rw [zGN (by rw [p];exact λh=>by cases h),zEZ ⟨by omega,by omega⟩];rfl
def yC (Q:DK q)(p:CK q=true){n:Nat}(u:Dz q<=n)(hk:k<q.cons.length):In q level (n+1) (It (F2 q level k) k)=In q level n (It (F2 q level (k+1)) (k+1)):=by
 have h4:=(DM p).2.2.2.2.1;have a:decide ((k:Int)<(q.cons.length:Int))=true:=zEE (by omega);have i:AG ((k:Int)+1):=Aj.2 ⟨by omega,by omega⟩;have ek:((k+1:Nat):Int)=(k:Int)+1:=by omega
 rw [yA]
 by_cases D:F2 q level k= []
 ·rw [D,zIg]
  show UE n (In q level n) q level (k:Int)=_
  unfold UE;rw [a,zFR,gv Q u,zEb,sK p hk]
  show (bif decide (IT (con q (k:Int)).kind<=level) then _ else _)=_
  by_cases m:IT (con q (k:Int)).kind<=level
  ·simp_all [Ay,It]
  simp_all [zFd,It]
 ·have Am:=UC (q:=q) (level:=level) (k:=k);have G:It (F2 q level k) k= .l2 (F2 q level k).length (k:Int) (F2 q level k):=by unfold It;rw [zGN D]
  rw [G]
  show Xv n (In q level n) q level (F2 q level k).length (k:Int) (F2 q level k)=_
  unfold Xv;rw [a,zFR,gv Q u,zEb,sK p hk]
  show (bif decide (IT (con q (k:Int)).kind<=level) then _ else _)=_
  by_cases m:IT (con q (k:Int)).kind<=level
  ·rw [zEE m,zFR,zEZ m,zEZ ⟨⟨⟨rfl,rfl⟩,⟨rfl,rfl⟩,by unfold Ay;simp;omega⟩,i⟩]
   simp_all [It]
  simp_all [zFd,zGN,It]
def mn (Q:DK q)(p:CK q=true):Ev (λn=>UF n q level) (Af q level):=by
 obtain ⟨_,_,h⟩:=LE (m:=In q level) (S:=Unit) (λk _=>It (F2 q level k) k) (λ_ _=>True) q.cons.length (λk s hk _=>⟨(),trivial,AV.oneN (Dz q) λn u=>yC Q p u hk⟩) q.cons.length 0 () (by omega) trivial;have h0:It (F2 q level 0) 0= .l1 0:=rfl;simp only [h0] at h;refine h.ev (Ev.one λn=>?_);have a:decide ((q.cons.length:Int)<(q.cons.length:Int))=false:=zFd (by omega)
 show In q level (n+1) (It (Af q level) q.cons.length)=some (Af q level)
 by_cases D:Af q level= []
 ·rw [D]
  show UE n (In q level n) q level (q.cons.length:Int)=_
  unfold UE;rw [a,zGF]
 simp_all [It,Xv,In]
end
structure QI (K:Nat)(ws:Ω)(Q:Ξ):Prop where
 len:ws.length=4096
 nd:Q.Nodup
 rng: ∀ i∈Q,0<=i/\ i<(K:Int)
 iff: ∀ i:Nat,i<4096 -> (ws.getD i false=true↔(i:Int)∈Q)
section
variable {K o n:Nat} {ws:Ω} {Q l qu:Ξ} {v:Int}
def QI.le (h:QI K ws Q):Q.length<=K:=SJ K Q h.nd h.rng
def QI.push (h:QI K ws Q)(hK:K<=4096)(h0:0<=v)(h1:v<(K:Int))(U:ws.getD v.toNat false=false):QI K (ws.set v.toNat true) (Q++[v]):=by
 have hv:v∉Q:=λc=>by
  have e:((v.toNat:Nat):Int)=v:=by omega
  have:=(h.iff v.toNat (by omega)).2 (by rw [e];exact c);rw [U] at this;cases this
 refine ⟨by rw [zGZ];exact h.len,zNQ.2 ⟨h.nd,by simp,λa ha b hb=>by grind⟩,λi hi=>?_,λi hi=>?_⟩
 ·rcases zIF.1 hi with hi | hi
  ·exact h.rng i hi
  grind
 ·rw [zIF,zGh,←h.iff i hi,zGH,zJB,zGH];have hl:v.toNat<ws.length:=by rw [h.len];omega
  grind
def QI.pop (h:QI K ws (v::Q))(hK:K<=4096):QI K (ws.set v.toNat false) Q:=by
 obtain ⟨hv,a⟩:=zNf.1 h.nd;have hr:=h.rng v (by simp);refine ⟨by rw [zGZ];exact h.len,a,λi hi=>h.rng i (by simp [hi]),λi hi=>?_⟩;have hl:v.toNat<ws.length:=by rw [h.len];omega
 rw [zGH,zJB]
 by_cases e:v.toNat=i
 ·grind
 ·rw [zGN e,←zGH,h.iff i hi,zIq]
  grind
structure MQ (K:Nat)(ws:Ω)(o n:Nat)(qu Q:Ξ):Prop where
 sum:o+n=qu.length
 eq:qu.drop o=Q
 qi:QI K ws Q
theorem MQ.cnt (h:MQ K ws o n qu Q):n=Q.length:=by rw [←h.eq,List.length_drop];have:=h.sum;omega
def zMH (f:K<=4096)(g: ∀ v∈l,0<=v/\ v<(K:Int))(N:l.length<=LB)(h:MQ K ws o n qu Q):
 ∃ a o' W F Q',Ev (λm=>Mo m l ws o n qu) (a,o',W,F)/\ MQ K a o' W F Q'/\ ∀ i,i∈Q'↔i∈Q∨i∈l:=by
 obtain ⟨⟨a,o',W,F,Q'⟩,⟨k,r⟩,t⟩:=LE (m:=Qt l ws o n qu) (S:=Ω×Nat×Nat×Ξ×Ξ) (λj s=>.l1 (j:Int) s.1 s.2.1 s.2.2.1 s.2.2.2.1) (λj s=>MQ K s.1 s.2.1 s.2.2.1 s.2.2.2.1 s.2.2.2.2/\ ∀ i,i∈s.2.2.2.2↔i∈Q∨i∈l.take j) l.length (λj s hj u=>by
  obtain ⟨c,o1,q,b,U⟩:=s;obtain ⟨Y,X⟩:=u;have Y:MQ K c o1 q b U:=Y;have X: ∀ i,i∈U↔i∈Q∨i∈l.take j:=X;have p:decide ((j:Int)<(l.length:Int))=true:=zEE (by omega);have w:AG ((j:Int)+1):=Aj.2 ⟨by omega,by unfold LB at N;omega⟩;have z:((j+1:Nat):Int)=(j:Int)+1:=by omega
  have x:l.getD j 0∈l:=by grind
  obtain ⟨y,L⟩:=g _ x;have su:l.take (j+1)=l.take j++[l.getD j 0]:=by simp_all
  have A:(0<=(j:Int)/\ (j:Int)<(l.length:Int))/\ (0<=l.getD ((j:Int)).toNat 0/\ l.getD ((j:Int)).toNat 0<((4096:Nat):Int))/\ 0+(l.getD ((j:Int)).toNat 0).toNat<c.length:=by
   rw [zCg,Y.qi.len];omega
  cases d:c.getD (l.getD j 0).toNat false with
  | false=>
   have BU:=Y.qi.le;have hn:=Y.cnt;refine ⟨(c.set (l.getD j 0).toNat true,0,q+1,U++[l.getD j 0],U++[l.getD j 0]),⟨⟨by simp;omega,rfl,Y.qi.push f y L d⟩,λi=>?_⟩,AV.one λm=>?_⟩
   ·grind
   ·show Xd m (Qt l ws o n qu m) l ws o n qu (j:Int) c o1 q b=_
    unfold Xd;rw [p,zFR,zEZ A,zCg,zGw,d,zIx,zFR,zEZ ⟨Y.sum,by unfold Ay;simp;omega,w⟩,Y.eq,z];rfl
  | true=>
   refine ⟨(c,o1,q,b,U),⟨Y,λi=>?_⟩,AV.one λm=>?_⟩
   ·show i∈U↔_
    have CS:l.getD j 0∈U:=by
     have e:(((l.getD j 0).toNat:Nat):Int)=l.getD j 0:=by omega
     have:=(Y.qi.iff (l.getD j 0).toNat (by omega)).1 d;rw [e] at this;exact this
    grind
   simp_all [Xd,Qt]) l.length 0 (ws,o,n,qu,Q) (by omega) ⟨h,λi=>by simp⟩
 refine ⟨a,o',W,F,Q',t.ev (Ev.one λm=>?_),k,λi=>by have:=r i;simpa using this⟩;have p:decide ((l.length:Int)<(l.length:Int))=false:=zFd (by omega)
 simp_all [Xd,Qt]
def Ji (j:Nat)(s:Ω×Ξ):To:=if s.2= [] then .l1 (j:Int) else .l2 (j:Int) s.1 s.2.length s.2
def xH (f:K<=4096)(g: ∀ v∈l,0<=v/\ v<(K:Int))(N:l.length<=LB)(h:QI K ws []):
 ∃ o Q',Ev (λm=>OZ m l ws) (o,0,Q'.length,Q',decide (Q'= []))/\ QI K o Q'/\ ∀ i,i∈Q'↔i∈l:=by
 obtain ⟨⟨o,Q'⟩,⟨k,b,A⟩,n⟩:=LE (m:=Ja l ws) (S:=Ω×Ξ) (λj s=>Ji j s) (λj s=>QI K s.1 s.2/\ (∀ i,i∈s.2↔i∈l.take j)/\ (s.2= [] -> s.1=ws)) l.length (λj s hj u=>by
  obtain ⟨c,U⟩:=s;obtain ⟨Y,X,I⟩:=u;have Y:QI K c U:=Y;have X: ∀ i,i∈U↔i∈l.take j:=X;have I:U= [] -> c=ws:=I;have p:decide ((j:Int)<(l.length:Int))=true:=zEE (by omega);have q:AG ((j:Int)+1):=Aj.2 ⟨by omega,by unfold LB at N;omega⟩;have ej:((j+1:Nat):Int)=(j:Int)+1:=by omega
  have r:l.getD j 0∈l:=by grind
  obtain ⟨y,t⟩:=g _ r;have su:l.take (j+1)=l.take j++[l.getD j 0]:=by simp_all
  have x:(0<=(j:Int)/\ (j:Int)<(l.length:Int))/\ (0<=l.getD ((j:Int)).toNat 0/\ l.getD ((j:Int)).toNat 0<((4096:Nat):Int))/\ 0+(l.getD ((j:Int)).toNat 0).toNat<c.length:=by
   rw [zCg,Y.len];omega
  have BU:=Y.le;cases d:c.getD (l.getD j 0).toNat false with
  | false=>
   refine ⟨(c.set (l.getD j 0).toNat true,U++[l.getD j 0]),⟨Y.push f y t d,λi=>?_,λe=>by simp at e⟩,AV.one λm=>?_⟩
   ·grind
   ·have z:Ji (j+1) (c.set (l.getD j 0).toNat true,U++[l.getD j 0])= .l2 ((j:Int)+1) (c.set (l.getD j 0).toNat true) (U.length+1) (U++[l.getD j 0]):=by
     simp_all [Ji]
    rw [z]
    by_cases L:U= []
    ·have w:Ji j (c,U)= .l1 (j:Int):=by unfold Ji;rw [zEZ L]
     simp_all [ly,Ja,Ay]
    ·have w:Ji j (c,U)= .l2 (j:Int) c U.length U:=by unfold Ji;rw [zGN L]
     rw [w]
     show Xc m (Ja l ws m) l ws (j:Int) c U.length U=_
     unfold Xc;rw [p,zFR,zEZ x,zCg,zGw,d,zIx,zFR,zEZ ⟨by omega,by unfold Ay;simp;omega,q⟩];rfl
  | true=>
   have D:l.getD j 0∈U:=by
    have e:(((l.getD j 0).toNat:Nat):Int)=l.getD j 0:=by omega
    have:=(Y.iff (l.getD j 0).toNat (by omega)).1 d;rw [e] at this;exact this
   have L:U≠[]:=λe=>by rw [e] at D;cases D
   refine ⟨(c,U),⟨Y,λi=>?_,I⟩,AV.one λm=>?_⟩
   ·grind
   simp_all [Ji,Xc,Ja]) l.length 0 (ws,[]) (by omega) ⟨h,λi=>by simp,λ_=>rfl⟩
 have b: ∀ i,i∈Q'↔i∈l:=λi=>by have:=b i;simpa using this
 have A:Q'= [] -> o=ws:=A;refine ⟨o,Q',?_,k,b⟩;have e0:Ja l ws=Ja l ws:=rfl;have p:decide ((l.length:Int)<(l.length:Int))=false:=zFd (by omega);refine AV.ev (a:=Ji 0 (ws,[])) n (Ev.one λm=>?_)
 by_cases L:Q'= []
 ·simp_all [Ji,ly,Ja]
 simp_all [Ji,Xc,Ja]
end
def IA (q:AA)(level:Int)(p g:Ξ):Prop:=(BI p=true/\ g=List.replicate p.length 0)∨(BI p=false/\ Dw q (Up q level) p g/\ Ih q (Up q level) g)
structure OF (q:AA)(level:Int)(f:Int -> Ξ)(T:Nat):Prop where
 snd: ∀ c i,i∈f c -> Up q level i
 len: ∀ c,(f c).length<=T
section
variable {q:AA} {level:Int} {p cells:Ξ} {f:Int -> Ξ}
variable {a:Nat}
def Xt (ha:a<(Af q level).length):Up q level ((Af q level).getD a 0):=by
 grind [LA,List.getElem_mem]
def zKw (p:CK q=true){i:Int}(h:Up q level i):(∀ x∈(con q i).cells,0<=x/\ x<q.cells)/\ (con q i).cells.length<=256:=by
 have v:con q i∈q.cons:=by
  have h0:=h.1;have a:=h.2.1
  grind [con]
 have M:=(DM p).2.2.2.2.2 _ v;unfold E8 at M;simp only [zEh] at M;obtain ⟨a,b,_⟩:=lI.1 M.1.1.1.1.1;have h3:=(DM p).1;refine ⟨a,?_⟩;have:=SJ q.cells.toNat _ b λx e=>by have:=a x e;omega
 omega
def zEB (e:CK q=true)(D:a<(Af q level).length){T:Nat}(hT:T<=2000000)(I:OF q level f T):
 ∃ W,AV (B5 q p cells level) (.l2 (Af q level) ((Af q level).getD a 0) (Af q level) ((Af q level).length:Int) (a:Int) (con q ((Af q level).getD a 0)).cells ((con q ((Af q level).getD a 0)).cells.length:Int) 0 f) (.l1 (Af q level) (Af q level) ((Af q level).length:Int) ((a+1:Nat):Int) W)/\
  OF q level W (T+256)/\ (∀ c i,i∈f c -> i∈W c)/\ ∀ c∈(con q ((Af q level).getD a 0)).cells,(Af q level).getD a 0∈W c:=by
 have M:=Xt D;obtain ⟨k,t⟩:=zKw e M;have Vz:(Af q level).length<=4096:=zGK UC (DM e).2.2.2.2.1
 generalize (Af q level).getD a 0=i at M k t ⊢
 generalize (con q i).cells=cs at k t ⊢
 obtain ⟨W,⟨n,s,u⟩,A⟩:=LE (m:=B5 q p cells level) (S:=Int -> Ξ) (λb f=>.l2 (Af q level) i (Af q level) ((Af q level).length:Int) (a:Int) cs (cs.length:Int) (b:Int) f) (λb g=>OF q level g (T+b)/\ (∀ c i,i∈f c -> i∈g c)/\ ∀ c∈cs.take b,i∈g c) cs.length (λb g hb v=>by
  obtain ⟨d,hs,hd⟩:=v;have o:decide ((b:Int)<(cs.length:Int))=true:=zEE (by omega);have r:AG ((b:Int)+1):=Aj.2 ⟨by omega,by omega⟩;have w:((b+1:Nat):Int)=(b:Int)+1:=by omega
  have su:cs.take (b+1)=cs.take b++[cs.getD b 0]:=by simp_all
  refine ⟨IE g (cs.getD b 0) (g (cs.getD b 0)++[i]),⟨⟨λc j hj=>?_,λc=>?_⟩,λc j hj=>?_,λc l=>?_⟩,AV.one λm=>?_⟩
  ·unfold IE at hj;split at hj
   ·rcases zIF.1 hj with hj | hj
    ·exact d.snd _ _ hj
    grind
   ·exact d.snd _ _ hj
  ·unfold IE;split
   ·rw [zGY,zIz];have:=d.len (cs.getD b 0);omega
   ·have:=d.len c;omega
  ·grind [IE]
  ·grind [IE]
  ·show ZM m (B5 q p cells level m) q p cells level (Af q level) i (Af q level) ((Af q level).length:Int) (a:Int) cs (cs.length:Int) (b:Int) g=_
   unfold ZM;rw [o,zFR,zCg,zEZ ⟨by omega,by have:=d.len (cs.getD b 0);unfold Ay;rw [zIz];omega,r⟩,w]) cs.length 0 f (by omega) ⟨I,λc i h=>h,λc l=>by simp at l⟩
 refine ⟨W,A.trans (AV.one λm=>?_),⟨n.snd,λc=>zGK (n.len c) (by omega)⟩,s,λc l=>u c (by simpa using l)⟩;have o:decide ((cs.length:Int)<(cs.length:Int))=false:=zFd (by omega);have r:AG ((a:Int)+1):=Aj.2 ⟨by omega,by omega⟩
 simp_all [ZM,B5]
def zEC (j:CK q=true):
 ∃ W,AV (B5 q p cells level) (.l1 (Af q level) (Af q level) ((Af q level).length:Int) 0 (λ_=>[])) (.l3 (Af q level) 0 W (List.replicate 4096 false))/\ OF q level W 2000000/\ ∀ i,Up q level i -> ∀ c∈(con q i).cells,i∈W c:=by
 have Vz:(Af q level).length<=4096:=zGK UC (DM j).2.2.2.2.1
 obtain ⟨W,⟨k,h2⟩,l⟩:=LE (m:=B5 q p cells level) (S:=Int -> Ξ) (λa f=>.l1 (Af q level) (Af q level) ((Af q level).length:Int) (a:Int) f) (λa g=>OF q level g (256*a)/\ ∀ b,b<a -> ∀ c∈(con q ((Af q level).getD b 0)).cells,(Af q level).getD b 0∈g c) (Af q level).length (λa g D u=>by
  obtain ⟨n,hd⟩:=u;obtain ⟨o,w,z,e3,e4⟩:=zEB (p:=p) (cells:=cells) j D (by omega) n;have M:=Xt D;have d:decide ((a:Int)<((Af q level).length:Int))=true:=zEE (by omega);refine ⟨o,⟨⟨z.snd,λc=>zGK (z.len c) (by omega)⟩,λb T c r=>?_⟩,AV.trans (AV.one λm=>?_) w⟩
  ·grind
  ·show VO m (B5 q p cells level m) q p cells level (Af q level) (Af q level) ((Af q level).length:Int) (a:Int) g=_
   unfold VO;rw [d,zFR,zCg,zEZ ⟨by omega,M.1,M.2.1⟩];rfl) (Af q level).length 0 (λ_=>[]) (by omega) ⟨⟨λc i h=>(by cases h),λc=>zGT 0⟩,λb T=>absurd T (zGR _)⟩
 refine ⟨W,l.trans (AV.one λm=>?_),⟨k.snd,λc=>zGK (k.len c) (by omega)⟩,λi hi c r=>?_⟩
 ·have d:decide (((Af q level).length:Int)<((Af q level).length:Int))=false:=zFd (by omega)
  show VO m (B5 q p cells level m) q p cells level (Af q level) (Af q level) ((Af q level).length:Int) ((Af q level).length:Int) W=_
  unfold VO;rw [d,zGF]
 ·obtain ⟨a,D,e⟩:=zGt (LA.2 hi);have e':(Af q level).getD a 0=i:=by grind
  grind
structure WQ (q:AA)(level:Int)(ws:Ω)(o n:Nat)(qu Q:Ξ):Prop where
 mq:MQ q.cons.length ws o n qu Q
 up: ∀ i∈Q,Up q level i
def oE (q:AA)(level:Int)(f:Int -> Ξ)(j:Nat)(s:Ω×Option (Nat×Nat×Ξ)):Jw:=match s.2 with
 | none=>.l3 (Af q level) (j:Int) f s.1
 | some (o,n,t)=>.l4 (Af q level) (j:Int) f s.1 o n t
def IC (q:AA)(level:Int)(s:Ω×Option (Nat×Nat×Ξ)):Prop:=match s.2 with
 | none=>QI q.cons.length s.1 []
 | some (o,n,t)=>∃ Q,WQ q level s.1 o n t Q
variable {l:Ξ}
def dT (h: ∀ i∈l,Up q level i): ∀ i∈l,0<=i/\ i<(q.cons.length:Int):=λi hi=>⟨(h i hi).1,(h i hi).2.1⟩
theorem WQ.add (j:q.cons.length<=4096){b:Ω}{o n:Nat}{t Q:Ξ}(h:WQ q level b o n t Q)(c: ∀ i∈l,Up q level i)(N:l.length<=LB):
 ∃ a o' W F Q',Ev (λm=>Mo m l b o n t) (a,o',W,F)/\ WQ q level a o' W F Q'/\ ∀ i,i∈Q'↔i∈Q∨i∈l:=by
 obtain ⟨a,o',W,F,Q',e,f,d⟩:=zMH j (dT c) N h.mq;exact ⟨a,o',W,F,Q',e,⟨f,λi hi=>((d i).1 hi).elim (h.up i) (c i)⟩,d⟩
def zLG (l:CK q=true)(T:cells.length<=LB)(I:OF q level f 2000000):
 ∃ c,IC q level c/\ AV (B5 q p cells level) (.l3 (Af q level) 0 f (List.replicate 4096 false)) (oE q level f cells.length c):=by
 have g:=(DM l).2.2.2.2.1
 obtain ⟨c,r,x⟩:=LE (m:=B5 q p cells level) (S:=Ω×Option (Nat×Nat×Ξ)) (oE q level f) (λ_ s=>IC q level s) cells.length (λj s hj u=>by
  have AU:decide ((j:Int)<(cells.length:Int))=true:=zEE (by omega);have hr:AG ((j:Int)+1):=Aj.2 ⟨by omega,by unfold LB at T;omega⟩;have ej:((j+1:Nat):Int)=(j:Int)+1:=by omega
  have v:(f (cells.getD j 0)).length<=LB:=zGK (I.len _) (by decide);have d: ∀ i∈f (cells.getD j 0),Up q level i:=λi hi=>I.snd _ i hi
  obtain ⟨b,st⟩:=s;cases st with
  | none=>
   have u:QI q.cons.length b []:=u;obtain ⟨a,Q',⟨N,w⟩,z,P⟩:=xH g (dT d) v u;have w: ∀ m,N<=m -> OZ m (f (cells.getD j 0)) b=some (a,0,Q'.length,Q',decide (Q'= [])):=w
   by_cases y:Q'= []
   ·refine ⟨(a,none),by rw [y] at z;exact z,AV.oneN N λm k=>?_⟩
    show L4 m (B5 q p cells level m) q p cells level (Af q level) (j:Int) f b=B5 q p cells level m (.l3 (Af q level) ((j+1:Nat):Int) f a)
    simp_all [L4]
   ·refine ⟨(a,some (0,Q'.length,Q')),⟨Q',⟨⟨by omega,rfl,z⟩,λi hi=>d i ((P i).1 hi)⟩⟩,AV.oneN N λm k=>?_⟩
    show L4 m (B5 q p cells level m) q p cells level (Af q level) (j:Int) f b=B5 q p cells level m (.l4 (Af q level) ((j+1:Nat):Int) f a 0 Q'.length Q')
    simp_all [L4]
  | some A=>
   obtain ⟨o,n,t⟩:=A;obtain ⟨Q,e⟩:=(u: ∃ Q,WQ q level b o n t Q);have e:WQ q level b o n t Q:=e;obtain ⟨a,o',W,F,Q',⟨N,w⟩,z,_⟩:=e.add g d v;have w: ∀ m,N<=m -> Mo m (f (cells.getD j 0)) b o n t=some (a,o',W,F):=w;refine ⟨(a,some (o',W,F)),⟨Q',z⟩,AV.oneN N λm k=>?_⟩
   show VN m (B5 q p cells level m) q p cells level (Af q level) (j:Int) f b o n t=B5 q p cells level m (.l4 (Af q level) ((j+1:Nat):Int) f a o' W F)
   simp_all [VN]) cells.length 0 (List.replicate 4096 false,none) (by omega) (by
  refine ⟨zH0,zNj,λi hi=>(by cases hi),λi hi=>⟨λh=>?_,λh=>(by cases h)⟩⟩
  grind)
 exact ⟨c,r,x⟩
def zLZ (g:CK q=true)(T:cells.length<=LB):
 ∃ f,OF q level f 2000000/\ (∀ i,Up q level i -> ∀ c∈(con q i).cells,i∈f c)/\ ((AV (B5 q p cells level) (.l1 (Af q level) (Af q level) ((Af q level).length:Int) 0 (λ_=>[])) (.l5 f (List.replicate 4096 false))∨
  (∃ a,AV (B5 q p cells level) (.l1 (Af q level) (Af q level) ((Af q level).length:Int) 0 (λ_=>[])) (.l5 f a)))/\ (∀ i,¬ Up q level i)∨
  ∃ a o n t Q,WQ q level a o n t Q/\ (∀ i,Up q level i -> i∈Q)/\ AV (B5 q p cells level) (.l1 (Af q level) (Af q level) ((Af q level).length:Int) 0 (λ_=>[])) (.l6 p f a o n t)):=by
 have j:=(DM g).2.2.2.2.1;obtain ⟨f,l,s,O⟩:=zEC (q:=q) (level:=level) (p:=p) (cells:=cells) g;obtain ⟨⟨a,st⟩,e,d⟩:=zLG (p:=p) g T s;have d:=l.trans d;have k:(Af q level).length<=LB:=zGK UC (zGK j (by decide));have AU:decide ((cells.length:Int)<(cells.length:Int))=false:=zFd (by omega);refine ⟨f,s,O,?_⟩;cases st with
 | none=>
  have e:QI q.cons.length a []:=e;obtain ⟨b,Q',⟨N,w⟩,z,P⟩:=xH j (dT λi hi=>LA.1 hi) k e;have w: ∀ m,N<=m -> OZ m (Af q level) a=some (b,0,Q'.length,Q',decide (Q'= [])):=w
  by_cases r:Q'= []
  ·refine .inl ⟨.inr ⟨b,d.trans (AV.oneN N λm v=>?_)⟩,λi hi=>by have:=(P i).2 (LA.2 hi);rw [r] at this;cases this⟩
   show L4 m (B5 q p cells level m) q p cells level (Af q level) (cells.length:Int) f a=_
   unfold L4
   grind
  ·refine .inr ⟨b,0,Q'.length,Q',Q',⟨⟨by omega,rfl,z⟩,λi hi=>LA.1 ((P i).1 hi)⟩,λi hi=>(P i).2 (LA.2 hi),d.trans (AV.oneN N λm v=>?_)⟩
   show L4 m (B5 q p cells level m) q p cells level (Af q level) (cells.length:Int) f a=_
   unfold L4
   grind
 | some u=>
  obtain ⟨o,n,t⟩:=u;obtain ⟨Q,h⟩:=(e: ∃ Q,WQ q level a o n t Q);have h:WQ q level a o n t Q:=h;obtain ⟨b,o',W,F,Q',⟨N,w⟩,z,P⟩:=h.add j (λi hi=>LA.1 hi) k;have w: ∀ m,N<=m -> Mo m (Af q level) a o n t=some (b,o',W,F):=w;refine .inr ⟨b,o',W,F,Q',z,λi hi=>(P i).2 (.inr (LA.2 hi)),d.trans (AV.oneN N λm v=>?_)⟩
  show VN m (B5 q p cells level m) q p cells level (Af q level) (cells.length:Int) f a o n t=_
  unfold VN
  grind
end
section
variable {q:AA} {level:Int} {pos p x cells:Ξ} {f:Int -> Ξ}
def zLD (v:CK q=true)(I:OF q level f 2000000)(hl:x.length=p.length)(hp:p.length<=256){l:Ω}{o n:Nat}{t Q:Ξ}(h:WQ q level l o n t Q):
 ∃ b o' W F Q',WQ q level b o' W F Q'/\ (∀ i∈Q,i∈Q')/\ (∀ c,c<p.length -> x.getD c 0≠p.getD c 0 -> ∀ i∈f (c:Int),i∈Q')/\ ((∀ c,c<p.length -> x.getD c 0=p.getD c 0) -> Q'=Q)/\
  AV (B5 q pos cells level) (.l7 p x (x.length:Int) 0 f l o n t) (.l6 x f b o' W F):=by
 have y:=(DM v).2.2.2.2.1
 obtain ⟨⟨b,o',W,F,Q'⟩,⟨z,A,B,C⟩,D⟩:=LE (m:=B5 q pos cells level) (S:=Ω×Nat×Nat×Ξ×Ξ) (λc s=>.l7 p x (x.length:Int) (c:Int) f s.1 s.2.1 s.2.2.1 s.2.2.2.1)
  (λc s=>WQ q level s.1 s.2.1 s.2.2.1 s.2.2.2.1 s.2.2.2.2/\ (∀ i∈Q,i∈s.2.2.2.2)/\ (∀ a,a<c -> x.getD a 0≠p.getD a 0 -> ∀ i∈f (a:Int),i∈s.2.2.2.2)/\ ((∀ a,a<c -> x.getD a 0=p.getD a 0) -> s.2.2.2.2=Q)) p.length (λc s hc E=>by
  obtain ⟨d,o1,e,g,U⟩:=s;obtain ⟨w,j,r,J⟩:=E;have w:WQ q level d o1 e g U:=w;have j: ∀ i∈Q,i∈U:=j;have r: ∀ a,a<c -> x.getD a 0≠p.getD a 0 -> ∀ i∈f (a:Int),i∈U:=r;have J:(∀ a,a<c -> x.getD a 0=p.getD a 0) -> U=Q:=J;have G:decide ((c:Int)<(x.length:Int))=true:=zEE (by omega);have hr:AG ((c:Int)+1):=Aj.2 ⟨by omega,by omega⟩;have ec:((c+1:Nat):Int)=(c:Int)+1:=by omega
  by_cases H:x.getD c 0=p.getD c 0
  ·refine ⟨(d,o1,e,g,U),⟨w,j,λa k K=>?_,λh=>J λa k=>h a (by omega)⟩,AV.one λm=>?_⟩
   ·grind
   simp_all [VL,B5]
  ·have L: ∀ i∈f (c:Int),Up q level i:=λi hi=>I.snd _ i hi
   obtain ⟨b,o',W,F,Q',⟨N,u⟩,M,P⟩:=w.add y L (zGK (I.len _) (by decide));have u: ∀ m,N<=m -> Mo m (f (c:Int)) d o1 e g=some (b,o',W,F):=u;refine ⟨(b,o',W,F,Q'),⟨M,λi hi=>(P i).2 (.inl (j i hi)),λa k K i hi=>?_,λh=>absurd (h c (by omega)) H⟩,AV.oneN N λm hm=>?_⟩
   ·grind
   ·show VL m (B5 q pos cells level m) q pos cells level p x (x.length:Int) (c:Int) f d o1 e g=B5 q pos cells level m (.l7 p x (x.length:Int) ((c+1:Nat):Int) f b o' W F)
    unfold VL
    grind) p.length 0 (l,o,n,t,Q) (by omega) ⟨h,λi hi=>hi,λa k=>absurd k (zGR _),λ_=>rfl⟩
 refine ⟨b,o',W,F,Q',z,A,B,C,D.trans (AV.one λm=>?_)⟩;have G:decide ((p.length:Int)<(x.length:Int))=false:=zFd (by omega)
 simp_all [VL,B5]
structure mF (q:AA)(level:Int)(p0 p:Ξ)(Q:Ξ):Prop where
 pos:A4 q p
 down:Dw q (Up q level) p0 p
 zero:BI p=true -> p=List.replicate p.length 0
 fix: ∀ i,Up q level i -> i∉Q -> PR q (con q i) p p
def PR.other {i:Int}(h:PR q (con q i) p x)(r:BI x=false)(C:Bq q i p){j:Nat}(d: ∀ k,k<(con q i).cells.length -> ((con q i).cells.getD k 0).toNat≠j):x.getD j 0=p.getD j 0:=by
 have A:Fj q (con q i) p:=Classical.byContradiction λA=>by
  have h0:=C.len256.1;have:=FA.1 r 0 (by rw [h.len];exact h0);rw [h.dead A,Q2] at this;exact this rfl
 by_cases T:j<p.length
 ·refine Kj (h.live A j T).1 ((C.sm j T).in64 (by have:=C.work.k;omega)) λs _=>?_
  rw [zIh,(h.live A j T).2];exact ⟨λb=>b.1,λb=>⟨b,λ⟨a,D,e,_⟩=>d a D e⟩⟩
 ·rw [zGH,zGH,zI5 (by rw [h.len];omega),zI5 (by omega)]
def zFG {a b:Ξ}(hl:a.length=b.length)(h: ∀ c,c<b.length -> a.getD c 0=b.getD c 0):a=b:=by
 grind [List.ext_getElem]
def zIo (hU: ∀ i,Up q level i -> ∀ c∈(con q i).cells,i∈f c){v:Int}{U Q':Ξ}(b:Up q level v)(h:mF q level pos p (v::U))(r:BI p=false)(a:PR q (con q v) p x)(hs: ∀ i∈U,i∈Q')(hc: ∀ c,c<p.length -> x.getD c 0≠p.getD c 0 -> ∀ i∈f (c:Int),i∈Q'):mF q level pos x Q':=by
 have F:A4 q x:=h.pos.pr b.1 b.2.1 a;have m:x.length=p.length:=a.len;refine ⟨F,h.down.trans (Dw.one b a),λN=>by rw [m];exact a.zero N,λi hi hn=>?_⟩
 by_cases d:x=p
 ·subst d
  by_cases e:i=v
  ·subst e;exact a
  ·refine h.fix i hi λg=>?_
   grind
 ·cases N:BI x with
  | true=>
   have:=a.zero N
   grind [qe]
  | false=>
   have J:=h.pos.ctx hi.1 hi.2.1
   have own: ∀ k,k<(con q i).cells.length -> x.getD ((con q i).cells.getD k 0).toNat 0=p.getD ((con q i).cells.getD k 0).toNat 0:=λk hk=>by
    refine Classical.byContradiction λD=>?_
    have hW:=J.work.cells k hk
    grind
   have D:i≠v:=by
    rintro rfl;refine d (zFG m λc BH=>?_)
    by_cases j: ∃ k,k<(con q i).cells.length/\ ((con q i).cells.getD k 0).toNat=c
    ·grind
    ·exact a.other N J λk hk e=>j ⟨k,hk,e⟩
   have l:PR q (con q i) p p:=h.fix i hi λg=>by
    grind
   exact zFB J (F.ctx hi.1 hi.2.1) own r N l
def zEu (I:OF q level f 2000000)(B: ∀ i,Up q level i -> ∀ c∈(con q i).cells,i∈f c): ∀ (M:Nat) {p:Ξ} {a:Ω} {o n:Nat} {t Q:Ξ},wt p*(q.cons.length+1)+n<=M -> WQ q level a o n t Q -> mF q level pos p Q ->
 ∃ g,Ev (λm=>B5 q pos cells level m (.l6 p f a o n t)) g/\ Dw q (Up q level) pos g/\ Ih q (Up q level) g:=by
 intro M
 induction M with
 | zero=>
  intro p a o n t Q Y w h;have u:n=0:=by omega
  subst u;have b:Q= []:=zI3 w.mq.cnt.symm;subst b;exact ⟨p,Ev.one λm=>rfl,h.down,λi hi=>h.fix i hi (by simp)⟩
 | succ M C=>
  intro p a o n t Q Y w h;have l:=h.pos.valid;have D:=(DM l).2.2.2.2.1;have s:=h.pos.len256.2
  by_cases u:n=0
  ·subst u;have b:Q= []:=zI3 w.mq.cnt.symm;subst b;exact ⟨p,Ev.one λm=>rfl,h.down,λi hi=>h.fix i hi (by simp)⟩
  have F:(n==0)=false:=by simpa using u
  have K:decide ((n:Int)>0)=true:=zEE (by omega);have G: ∀ m,300<=m -> Gz m p=some (BI p):=λm y=>No (zGK s (by decide)) (by omega)
  cases r:BI p with
  | true=>
   have H:=h.zero r;refine ⟨p,Ev.oneN 300 λm y=>?_,h.down,?_⟩
   ·show VM m (B5 q pos cells level m) q pos cells level p f a o n t=some p
    unfold VM
    grind
   ·rw [H];exact kR h.pos.len256.1
  | false=>
   cases b:Q with
   | nil=>exact absurd (by rw [w.mq.cnt,b];rfl) u
   | cons v z=>
    subst b;have L:Up q level v:=w.up v (by simp);obtain ⟨x,⟨N,d⟩,e⟩:=qa (h.pos.ctx L.1 L.2.1);have d: ∀ m,N<=m -> PG m q v p=some (x,0):=d;have iq:=w.mq.sum;have hdr:=w.mq.eq;have J:o<t.length:=by omega
    have j:t.getD (o+0) 0=v:=by
     rw [zNh,zGH,zGU J]
     grind [List.drop_eq_getElem_cons]
    have A:WQ q level (a.set v.toNat false) (o+1) (n-1) t z:=by
     refine ⟨⟨by omega,?_,w.mq.qi.pop D⟩,λi hi=>w.up i (by simp [hi])⟩
     grind [List.drop_eq_getElem_cons]
    obtain ⟨CJ,o',W,D4,Q',k,O,P,R,S⟩:=zLD (pos:=pos) (cells:=cells) l I e.len s A;have E:=zIo B L h r e O P
    have step:AV (B5 q pos cells level) (.l6 p f a o n t) (.l7 p x (x.length:Int) 0 f (a.set v.toNat false) (o+1) (n-1) t):=AV.oneN (max N 300) λm y=>by
     show VM m (B5 q pos cells level m) q pos cells level p f a o n t=_
     unfold VM;rw [F,zGF,K,zFR,G m (by omega),zEb,r,zIx,zFR,j,zEZ ⟨by omega,by omega,by omega,⟨L.1,by have:=L.2.1;omega⟩,by rw [w.mq.qi.len];have:=L.1;have:=L.2.1;omega⟩,d m (by omega),zEb,zGw];rfl
    have T:wt x*(q.cons.length+1)+W<=M:=by
     have P7:=k.mq.qi.le;have V:=k.mq.cnt
     by_cases U:x=p
     ·have:Q'=z:=R λc _=>by rw [U]
      rw [U];have h2:=A.mq.cnt;rw [this] at V;omega
     ·have X:=T6 E.pos h.pos e.le U;have h3:(wt x+1)*(q.cons.length+1)<=wt p*(q.cons.length+1):=zI0 _ X
      grind
    obtain ⟨g,Z,g2,g3⟩:=C T k E;exact ⟨g,(step.trans S).ev Z,g2,g3⟩
def zDJ (b:A4 q pos)(T:cells.length<=LB): ∃ g,Ev (λn=>fZ n q pos cells level) g/\ IA q level pos g:=by
 have e:=b.len256;have OC: ∀ m,300<=m -> Gz m pos=some (BI pos):=λm hm=>No (zGK e.2 (by decide)) (by omega)
 cases r:BI pos with
 | true=>
  refine ⟨List.replicate pos.length 0,⟨300,λn u=>?_⟩,.inl ⟨r,rfl⟩⟩
  show VP n (B5 q pos cells level n) q pos cells level=_
  unfold VP
  grind
 | false=>
  have H: ∃ g,Ev (λn=>B5 q pos cells level n (.l1 (Af q level) (Af q level) ((Af q level).length:Int) 0 (λ_=>[]))) g/\ Dw q (Up q level) pos g/\ Ih q (Up q level) g:=by
   obtain ⟨f,j,s,O⟩:=zLZ (q:=q) (level:=level) (p:=pos) (cells:=cells) b.valid T;rcases O with ⟨a,c⟩ | ⟨k,o,n,qu,Q,a,c,l⟩
   ·refine ⟨pos,?_,.refl pos,λi hi=>absurd hi (c i)⟩;rcases a with a | ⟨k,a⟩
    ·exact a.ev (Ev.one λm=>rfl)
    ·exact a.ev (Ev.one λm=>rfl)
   ·obtain ⟨g,w,z,P⟩:=zEu (pos:=pos) (cells:=cells) j s _ (zGT _) a (p:=pos) ⟨b,.refl pos,λh=>(by rw [r] at h;cases h),λi hi u=>absurd (c i hi) u⟩;exact ⟨g,l.ev w,z,P⟩
  obtain ⟨g,⟨N,a⟩,c⟩:=H;have a: ∀ n,N<=n -> B5 q pos cells level n (.l1 (Af q level) (Af q level) ((Af q level).length:Int) 0 (λ_=>[]))=some g:=a;obtain ⟨x,d⟩:=mn (level:=level) b.fit b.valid;have d: ∀ n,x<=n -> UF n q level=some (Af q level):=d;refine ⟨g,⟨max (max N x) 300,λn u=>?_⟩,.inr ⟨r,c⟩⟩
  show VP n (B5 q pos cells level n) q pos cells level=_
  unfold VP
  grind
end
def zJz {a b:Ξ}{n:Nat}(hl:a.length<=LB)(u:a.length<n):Ws n a b=some (decide (a=b)):=by
 have hb:LB<=9223372036854775806:=by decide
 unfold Ws u6
 by_cases N:a.length=b.length
 ·have e:((a.length:Int) != (b.length:Int))=false:=by rw [N];simp
  rw [e,zGF]
  have key: ∀ (k i n:Nat),i+k=a.length -> k+1<=n -> TM a b n (.l1 (i:Int))=some (decide (a.drop i=b.drop i)):=by
   intro k
   induction k with
   | zero=>
    intro i n e u;obtain ⟨n,rfl⟩: ∃ k,n=k+1:=⟨n-1,by omega⟩
    simp_all [bo,TM]
   | succ k U=>
    intro i n e u;obtain ⟨n,rfl⟩: ∃ k,n=k+1:=⟨n-1,by omega⟩;have hi:i<a.length:=by omega
    have K:i<b.length:=by omega
    have d: ∀ {l:Ξ},i<l.length -> l.drop i=l.getD i 0::l.drop (i+1):=λ{l} h=>by
     simp_all
    have:=U (i+1) n (by omega) (by omega)
    show bo n (TM a b n) a b (i:Int)=_
    unfold bo;rw [zEE (by omega),zFR,zEZ ⟨⟨by omega,by omega⟩,by omega,by omega⟩,zCg,zEZ (Aj.2 ⟨by omega,by omega⟩),d hi,d K]
    by_cases h:a.getD i 0=b.getD i 0
    ·have:(a.getD i 0 != b.getD i 0)=false:=by rw [h];simp
     rw [this,zGF];refine Eq.trans (by assumption) ?_;rw [h];simp
    ·have:(a.getD i 0 != b.getD i 0)=true:=by simpa using h
     rw [this,zFR,zFd λe=>h (List.cons.inj e).1]
  grind
 ·have e:((a.length:Int) != (b.length:Int))=true:=by simp;omega
  rw [e,zFR,zFd λh=>N (by rw [h])]
def Zo (q:AA)(cells:Ξ):Bool:=cells.any λc=>decide (c<0)||decide (c>=q.cells)
section
variable {q:AA} {level:Int} {pos p x cells:Ξ}
def rH {n:Nat}{c:Int}:Zh n c q=some (decide (c<0)||decide (c>=q.cells)):=by
 grind [Zh,rG]
variable {l:Ξ}
def zKB {f:Int -> Bool}{j:Nat}(d:j<l.length):(l.drop j).any f=(f (l.getD j 0)||(l.drop (j+1)).any f):=by
 rw [zGg d,List.any_cons,zGH,zGU d];rfl
def rI (m:cells.length<=LB): ∀ (k j:Nat),j+k=cells.length -> ∃ r:Int,Ev (λn=>MK cells q n (.l1 (j:Int))) r/\ decide (r>=0)=(cells.drop j).any λc=>decide (c<0)||decide (c>=q.cells)
 | 0,j,e=>⟨-1,Ev.one λn=>by
  simp_all [SW,MK],by grind⟩
 | k+1,j,e=>by
  have d:j<cells.length:=by omega
  have p:decide ((j:Int)<(cells.length:Int))=true:=zEE (by omega);have i:AG ((j:Int)+1):=Aj.2 ⟨by omega,by unfold LB at m;omega⟩;rw [zKB d];cases x:decide (cells.getD j 0<0)||decide (cells.getD j 0>=q.cells) with
  | true=>
   refine ⟨(j:Int),Ev.one λn=>?_,by grind⟩
   show SW n (MK cells q n) cells q (j:Int)=_
   unfold SW;rw [p,zFR,zEZ ⟨by omega,by omega⟩,zCg,rH,zEb,x,zFR]
  | false=>
   obtain ⟨r,a,b⟩:=rI m k (j+1) (by omega);refine ⟨r,AV.ev (AV.one λn=>?_) a,by rw [zMO];exact b⟩
   show SW n (MK cells q n) cells q (j:Int)=_
   unfold SW;rw [p,zFR,zEZ ⟨by omega,by omega⟩,zCg,rH,zEb,x,zGF,zEZ i,show ((j+1:Nat):Int)=(j:Int)+1 by omega]
def zKl (m:cells.length<=LB):Ev (λn=>cI n cells q) (Zo q cells):=by
 obtain ⟨r,⟨N,a⟩,b⟩:=rI (q:=q) m cells.length 0 (by omega);have a: ∀ n,N<=n -> MK cells q n (.l1 0)=some r:=a;refine ⟨N,λn u=>?_⟩
 show (MK cells q n (.l1 0)).bind (λk=>some (decide (k>=0)))=_
 rw [a n u,zEb,b];rfl
def fg (Q:DK q)(m:pos.length<=LB):Ev (λn=>GB n q pos) (Dm q pos):=⟨Dz q+pos.length+1,λn hn=>fh Q (by omega) m (by omega)⟩
def A4.of (Q:DK q)(h:Dm q pos=0):A4 q pos:=by
 unfold Dm at h
 by_cases p:CK q=true
 ·rw [zEZ p] at h
  by_cases g:posOk q pos=true
  ·exact ⟨Q,p,g⟩
  grind
 grind
def A4.check (h:A4 q pos):Dm q pos=0:=by
 unfold Dm;rw [zEZ h.valid,zEZ h.ok]
def xP (q:AA)(pos cells:Ξ)(level:Int)(r:Ξ×Int):Prop:= (Dm q pos≠0/\ r=([],Dm q pos))∨(Dm q pos=0/\ Zo q cells=true/\ r=([],1))∨(Dm q pos=0/\ Zo q cells=false/\ r.2=0/\ IA q level pos r.1)
def zMA (Q:DK q)(m:pos.length<=LB)(l:cells.length<=LB): ∃ r,Ev (λn=>cw n q pos cells level) r/\ xP q pos cells level r:=by
 have a:=fg Q m
 by_cases h0:Dm q pos=0
 ·have c:=A4.of Q h0;have b:=zKl (q:=q) l;cases x:Zo q cells with
  | true=>
   rw [x] at b;refine ⟨([],1),?_,.inr (.inl ⟨h0,x,rfl⟩)⟩;rw [h0] at a;exact Ev.bind a (Ev.bind b (Ev.now λn=>rfl))
  | false=>
   rw [x] at b;rw [h0] at a;obtain ⟨g,o,s⟩:=zDJ (level:=level) (cells:=cells) c l;exact ⟨(g,0),Ev.bind a (Ev.bind b (Ev.bind o (Ev.now λn=>rfl))),.inr (.inr ⟨h0,x,rfl,s⟩)⟩
 ·refine ⟨([],Dm q pos),Ev.bind a (Ev.now λn=>?_),.inl ⟨h0,rfl⟩⟩
  grind
def zL3 (Q:DK q)(m:pos.length<=LB): ∃ r,Ev (λn=>Tn n q pos level) r/\ xP q pos [] level r:=by
 obtain ⟨r,a,b⟩:=zMA (level:=level) (cells:=[]) Q m (by decide);exact ⟨r,Ev.bind a (Ev.now λn=>rfl),b⟩
inductive Gj (q:AA)(level:Int):Ξ -> Ξ -> Ξ -> Prop
 | done {p:Ξ}:Ih q (Up q level) p -> Gj q level p [] p
 | step {p x l g:Ξ} {i:Int}:Up q level i -> PR q (con q i) p x -> x≠p -> (∀ i',Up q level i' -> i'<i -> PR q (con q i') p p) -> Gj q level x l g -> Gj q level p (i::l) g
variable {g:Ξ}
theorem Gj.uniq {l' b:Ξ}(h:Gj q level p l g):Gj q level p l' b -> l=l'/\ g=b:=by
 induction h generalizing l' b with
 | done M=>
  intro h';cases h' with
  | done _=>exact ⟨rfl,rfl⟩
  | step hi a D _ _=>exact absurd ((M _ hi).uniq _ _ a) (λe=>D e.symm)
 | @step p x l g i hi a D hmin _ ih=>
  intro h';cases h' with
  | done M=>exact absurd (PR.uniq _ _ (M _ hi) a) (λe=>D e.symm)
  | @step _ x' l2 _ i' Bt JF hne' hmin' h2=>
   grind [PR.uniq]
def Gj.down (h:Gj q level p l g):Dw q (Up q level) p g/\ Ih q (Up q level) g:=by
 induction h with
 | done M=>exact ⟨.refl _,M⟩
 | step hi e _ _ _ U=>exact ⟨.step hi e U.1,U.2⟩
end
section
variable {q:AA} {level i:Int} {pos p x:Ξ}
theorem xy:(Af q level).Pairwise (· < ·):=by
 grind [Af,F2,List.pairwise_lt_range]
theorem xz {b:Nat}(hb:b<(Af q level).length)(hi:Up q level i)(AU:i<(Af q level).getD b 0): ∃ a,a<b/\ (Af q level).getD a 0=i:=by
 obtain ⟨a,ha,e⟩:=zGt (LA.2 hi)
 grind [Nat.lt_or_eq_of_le,List.pairwise_iff_getElem,xy]
def zLC (C:Bq q i p): ∃ x,Ev (λn=>XM n i q p) (decide (x≠p),x)/\ PR q (con q i) p x:=by
 obtain ⟨x,d,c⟩:=qa C;refine ⟨x,Ev.bind d ?_,c⟩;have m:x.length<=LB:=by rw [c.len];exact zGK C.len256.2 (by decide)
 refine Ev.eq (Ev.bind (a:=λn=>Ws n x p) (x:=decide (x=p)) ⟨x.length+1,λn hn=>zJz m (by omega)⟩ (b:=λn G=>bif G then some (false,p) else some (true,x)) (Ev.now λn=>?_)) (λn=>rfl)
 grind
def se (g:A4 q p): ∀ (k a:Nat),a+k=(Af q level).length -> (∀ c,c<a -> PR q (con q ((Af q level).getD c 0)) p p) ->
 (Ev (λn=>ML (Af q level) q p n (.l1 (a:Int) p)) (-1,p)/\ Ih q (Up q level) p)∨
 ∃ b x,Ev (λn=>ML (Af q level) q p n (.l1 (a:Int) p)) ((b:Nat),x)/\ b<(Af q level).length/\ PR q (con q ((Af q level).getD b 0)) p x/\ x≠p/\ ∀ c,c<b -> PR q (con q ((Af q level).getD c 0)) p p
 | 0,a,e,h=>by
  refine .inl ⟨Ev.one λn=>?_,λi hi=>?_⟩
  ·simp_all [SX,ML]
  ·obtain ⟨c,D,e1⟩:=zGt (LA.2 hi)
   grind
 | k+1,a,e,h=>by
  have D:a<(Af q level).length:=by omega
  have M:=Xt D;have Vz:(Af q level).length<=4096:=zGK UC (DM g.valid).2.2.2.2.1;have AU:decide ((a:Int)<((Af q level).length:Int))=true:=zEE (by omega);have hr:AG ((a:Int)+1):=Aj.2 ⟨by omega,by omega⟩;obtain ⟨x,⟨N,f⟩,j⟩:=zLC (g.ctx M.1 M.2.1);have f: ∀ n,N<=n -> XM n ((Af q level).getD a 0) q p=some (decide (x≠p),x):=f
  by_cases d:x=p
  ·have d:=d.symm;subst d
   have st:AV (ML (Af q level) q p) (.l1 (a:Int) p) (.l1 ((a+1:Nat):Int) p):=AV.oneN N λn u=>by
    show SX n (ML (Af q level) q p n) (Af q level) q p (a:Int) p=_
    unfold SX
    grind
   rcases se g k (a+1) (by omega) (λc QQ=>by
    grind) with ⟨o,s⟩ | ⟨b,y,o,s⟩
   ·exact .inl ⟨st.ev o,s⟩
   ·exact .inr ⟨b,y,st.ev o,s⟩
  ·refine .inr ⟨a,x,Ev.oneN N λn u=>?_,D,j,d,h⟩
   show SX n (ML (Af q level) q p n) (Af q level) q p (a:Int) p=_
   unfold SX
   grind
def zFt (g:A4 q p):(Ev (λn=>Pr n (Af q level) q p) (-1,p)/\ Ih q (Up q level) p)∨
 ∃ b x,Ev (λn=>Pr n (Af q level) q p) ((b:Nat),x)/\ b<(Af q level).length/\ Up q level ((Af q level).getD b 0)/\ PR q (con q ((Af q level).getD b 0)) p x/\ x≠p/\ ∀ v,Up q level v -> v<(Af q level).getD b 0 -> PR q (con q v) p p:=by
 rcases se (level:=level) g (Af q level).length 0 (by omega) (λa' T=>absurd T (zGR _)) with ⟨o,s⟩ | ⟨b,x,o,s,O,c,g5⟩
 ·exact .inl ⟨o,s⟩
 ·refine .inr ⟨b,x,o,s,Xt s,O,c,λv Bt AU=>?_⟩
  grind [xz]
def mM (g:A4 q p):wt p<=16384:=by
 have:=g.len256.2
 grind [wt,List.length_range]
def Ls (q:AA)(level:Int)(p acc:Ξ):SG:=if acc= [] then .l1 (Af q level) else .l2 acc.length (Af q level) p acc
variable {acc:Ξ}
def YE (h:acc≠[]):Ls q level p acc= .l2 acc.length (Af q level) p acc:=by unfold Ls;rw [zGN h]
def rM {M:Nat}{p:Ξ}(k: ∀ {p' acc':Ξ},wt p'<M -> A4 q p' -> (BI p'=true -> p'=List.replicate p'.length 0) -> acc'.length+wt p'<=20000 -> (acc'= [] -> p'=pos) -> ∃ l g,Ev (λn=>IQ q pos level n (Ls q level p' acc')) (acc'++l,0)/\ Gj q level p' l g) 
 (hM:wt p<=M) (a:A4 q p) (t:BI pos=false) (v:BI p=true -> p=List.replicate p.length 0) (hb:acc.length+wt p<=20000) (d:acc= [] -> p=pos):
 ∃ l g,Ev (λn=>IQ q pos level n (Ls q level p acc)) (acc++l,0)/\ Gj q level p l g:=by
 have f:=a.len256;have h: ∀ m,300<=m -> Gz m p=some (BI p):=λm hm=>No (zGK f.2 (by decide)) (by omega)
 cases r:BI p with
 | true=>
  have D:acc≠[]:=λe=>by rw [d e,t] at r;cases r
  refine ⟨[],p,?_,.done (by rw [v r];exact kR f.1)⟩;rw [YE D,zIs];refine Ev.oneN 300 λn u=>?_
  show PM n (IQ q pos level n) q pos level acc.length (Af q level) p acc=_
  unfold PM
  grind
 | false=>
  rcases zFt (level:=level) a with ⟨⟨N,o⟩,s⟩ | ⟨b,x,⟨N,o⟩,s,O,c,i,w⟩
  ·have o: ∀ n,N<=n -> Pr n (Af q level) q p=some (-1,p):=o;refine ⟨[],p,?_,.done s⟩;rw [zIs]
   by_cases D:acc= []
   ·have e:=d D;subst e;refine Ev.oneN (max N 300) λn u=>?_
    have G:Ls q level p acc= .l1 (Af q level):=by unfold Ls;rw [zEZ D]
    rw [G,D]
    show SE n (IQ q p level n) q p level (Af q level)=_
    unfold SE
    grind
   ·rw [YE D];refine Ev.oneN (max N 300) λn u=>?_
    show PM n (IQ q pos level n) q pos level acc.length (Af q level) p acc=_
    unfold PM
    grind
  ·have o: ∀ n,N<=n -> Pr n (Af q level) q p=some ((b:Int),x):=o;have F:=a.pr O.1 O.2.1 c;have hw:=T6 F a c.le i;have P:x.length=p.length:=c.len;have Q:decide ((b:Int)<0)=false:=zFd (by omega);obtain ⟨l,g,j,y⟩:=k (p':=x) (acc':=acc++[(Af q level).getD b 0]) (by omega) F (λz=>by rw [P];exact c.zero z) (by grind) (λe=>by simp at e);rw [YE (by simp),zNS,List.singleton_append] at j;refine ⟨(Af q level).getD b 0::l,g,AV.ev (AV.oneN (max N 300) λn u=>?_) j,.step O c i w y⟩
   by_cases D:acc= []
   ·have e:=d D;subst e;have G:Ls q level p acc= .l1 (Af q level):=by unfold Ls;rw [zEZ D]
    rw [G,D]
    show SE n (IQ q p level n) q p level (Af q level)=_
    unfold SE;rw [h n (by omega),zEb,r,zIx,zFR,o n (by omega),zEb]
    simp_all [decide,Ay]
   ·rw [YE D]
    show PM n (IQ q pos level n) q pos level acc.length (Af q level) p acc=_
    unfold PM;rw [h n (by omega),zEb,r,zIx,zFR,o n (by omega),zEb]
    show (bif decide ((b:Int)<0) then _ else _)=_
    rw [Q,zGF,zEZ ⟨⟨by omega,by omega⟩,⟨rfl,rfl⟩,⟨rfl,rfl⟩,by unfold Ay;rw [zIz];omega⟩,zCg,zGY]
def zD0: ∀ (M:Nat) {p acc:Ξ},wt p<=M -> A4 q p -> BI pos=false -> (BI p=true -> p=List.replicate p.length 0) -> acc.length+wt p<=20000 -> (acc= [] -> p=pos) ->
 ∃ l g,Ev (λn=>IQ q pos level n (Ls q level p acc)) (acc++l,0)/\ Gj q level p l g:=by
 intro M
 induction M with
 | zero=>exact λ{p acc} Y a d v c D=>rM (λ{p' acc'} h=>absurd h (by omega)) Y a d v c D
 | succ M U=>exact λ{p acc} Y a d v c D=>rM (λ{p' acc'} h b e f T=>U (by omega) b d e f T) Y a d v c D
def Qx (q:AA)(pos:Ξ)(level:Int)(r:Ξ×Int):Prop:= (Dm q pos≠0/\ r=([],Dm q pos))∨(Dm q pos=0/\ BI pos=true/\ r=([],0))∨(Dm q pos=0/\ BI pos=false/\ r.2=0/\ r.1.length<=20000/\ ∃ g,Gj q level pos r.1 g)
def Gj.len (a:A4 q p){l g:Ξ}(h:Gj q level p l g):l.length+wt g<=wt p:=by
 induction h with
 | done _=>simp
 | step hi e D _ _ U=>
  have F:=a.pr hi.1 hi.2.1 e;have h1:=U F;have h2:=T6 F a e.le D;rw [zGp];omega
def zD1 (Q:DK q)(e:pos.length<=LB): ∃ r,Ev (λn=>Zp n q pos level) r/\ Qx q pos level r:=by
 have b:=fg Q e
 by_cases h0:Dm q pos=0
 ·have a:=A4.of Q h0;rw [h0] at b;have d:=mn (level:=level) a.fit a.valid;cases c:BI pos with
  | true=>
   refine ⟨([],0),Ev.bind b (Ev.bind d ?_),.inr (.inl ⟨h0,c,rfl⟩)⟩;have f:=a.len256;have OC: ∀ m,300<=m -> Gz m pos=some (BI pos):=λm hm=>No (zGK f.2 (by decide)) (by omega)
   refine Ev.oneN 300 λn hn=>?_
   grind [SE,IQ]
  | false=>
   obtain ⟨l,g,o,s⟩:=zD0 (q:=q) (level:=level) (pos:=pos) (wt pos) (acc:=[]) (zGT _) a c (λh=>by rw [c] at h;cases h) (by have:=mM a;simp;omega) (λ_=>rfl);exact ⟨(l,0),Ev.bind b (Ev.bind d o),.inr (.inr ⟨h0,c,rfl,by have:=s.len a;have:=mM a;simp only;omega,g,s⟩)⟩
 ·refine ⟨([],Dm q pos),Ev.bind b (Ev.now λn=>?_),.inl ⟨h0,rfl⟩⟩
  grind
end
abbrev zMg:=@Go.IntKind.wrap_u64
abbrev zNU:=@List.mem_range'_1
section
def Bv (x:Int)(i:Nat):Θ:=(List.range' i (16-i)).filter λs=>tb x s
variable {x:Int}
def eG {i:Nat}(h:i<16):Bv x i=if tb x i then i::Bv x (i+1) else Bv x (i+1):=by
 unfold Bv;rw [show 16-i=(16-(i+1))+1 by omega,zNZ,zI9]
theorem Hd {s:Nat}:s∈Bv x 0↔s<16/\ tb x s=true:=by
 unfold Bv
 grind
def wH (a:Int):bits .and .u64 a 1=bits .and .i64 a 1:=by
 show IntKind.u64.wrap ((BitVec.ofInt 64 a&&& BitVec.ofInt 64 1).toNat:Int)=IntKind.i64.wrap ((BitVec.ofInt 64 a&&& BitVec.ofInt 64 1).toNat:Int)
 grind [IntKind.wrap_u64,IntKind.wrap_i64]
section
variable {x:Int}
def og (h:Sm 16 x){i:Nat}(h0:x/2 ^ i=0):Bv x i= []:=by
 have p:x<2 ^ i:=by
  have g:(0:Int)<2 ^ i:=Int.pow_pos (by decide);have:=Int.mul_ediv_add_emod x (2 ^ i);have hm:=Int.emod_lt_of_pos x g
  grind
 unfold Bv;rw [zMo];intro s j X;rw [zNU] at j;have:tb x s=false:=Sm.hi (k:=i) ⟨h.1,p⟩ j.1;rw [this] at X;cases X
def lv (h:Sm 16 x): ∀ (k i:Nat),i+k=16 -> Ev (λn=>JX x n (.l1 (i:Int))) ((Bv x i).map λ(s:Nat)=>(s:Int))
 | 0,i,e=>by
  have h0:x/2 ^ i=0:=by
   rw [show i=16 by omega];exact Int.ediv_eq_zero_of_lt h.1 h.2
  refine Ev.one λn=>?_
  show OY n (JX x n) x (i:Int)=_
  unfold OY;rw [zEZ ⟨by omega,by show (i:Int)<=((64:Nat):Int);omega⟩,zCg,h0,og h h0];rfl
 | k+1,i,e=>by
  have U:=lv h k (i+1) (by omega);have a:AG ((i:Int)+1):=Aj.2 ⟨by omega,by omega⟩;have g:(0:Int)<=(i:Int)/\ (i:Int)<=(IntKind.u64.bits:Int):=⟨by omega,by show (i:Int)<=((64:Nat):Int);omega⟩
  by_cases h0:x/2 ^ i=0
  ·simp_all [Ev.one,OY,JX,og]
  ·have step: ∀ n,JX x (n+1) (.l1 (i:Int))=bif tb x i then (JX x n (.l1 ((i+1:Nat):Int))).map (λl=>(i:Int)::l) else JX x n (.l1 ((i+1:Nat):Int)):=λn=>by
    show OY n (JX x n) x (i:Int)=_
    unfold OY;rw [zEZ g,zCg,zJQ.2 h0,zFR,zEE (by omega),zFR,wH,Ud h (by decide) (by omega),zEZ a,show ((i+1:Nat):Int)=(i:Int)+1 by omega]
    grind
   rw [eG (by omega)];obtain ⟨N,U⟩:=U;refine ⟨N+1,λn hn=>?_⟩;obtain ⟨n,rfl⟩: ∃ k,n=k+1:=⟨n-1,by omega⟩
   grind
def oa {n:Nat}: ∀ (l:Ξ) (k:Nat),k+l.length<=64 -> CO (YR n) l (.s0 (k:Int))=some (.s0 ((k+l.length:Nat):Int))
 | [],k,_=>rfl
 | a::l,k,h=>by
  rw [zGp] at h
  show (Ub n a (k:Int)).bind _=_
  unfold Ub;rw [zEZ (Aj.2 ⟨by omega,by omega⟩),zEb,show (k:Int)+1=((k+1:Nat):Int) by omega,oa l (k+1) (by omega),zGp]
  congr 3
  omega
def eH:(Bv x 0).length<=16:=by
 grind [Bv]
def zx (h:Sm 16 x):Ev (λn=>Uc n x) ((Bv x 0).length:Int):=by
 have e:IntKind.u64.wrap x=x:=by
  have h1:=h.1;have h2:x<65536:=h.2;rw [zMg];omega
 have hl:=eH (x:=x);refine Ev.eq (Ev.bind (lv h 16 0 (by omega)) (b:=λn k=>(CO (YR n) k (.s0 0)).bind λG=>match G with | .s0 y=>some y) (Ev.now λn=>?_)) λn=>?_
 ·have:=oa (n:=n) ((Bv x 0).map λ(s:Nat)=>(s:Int)) 0 (by rw [zGX];omega)
  grind
 ·show YQ n x=_
  unfold YQ;rw [e];rfl
end
end
section
variable {q:AA} {pos:Ξ}
def gF (x:Int):BitVec.ofInt 64 (IntKind.u64.wrap x)=BitVec.ofInt 64 x:=by
 grind [BitVec.toNat_ofInt,IntKind.wrap_u64]
variable {s:Nat}
def yR (a:Int)(hs:s<63)(t:Nat):tb (IntKind.i64.wrap (bits .and .u64 (IntKind.u64.wrap a) (IntKind.u64.wrap (1*2 ^ s)))) t=(tb a t&&decide (s=t)):=by
 rw [df]
 have e:tb (bits .and .u64 (IntKind.u64.wrap a) (IntKind.u64.wrap (1*2 ^ s))) t=(BitVec.ofInt 64 (IntKind.u64.wrap a)&&& BitVec.ofInt 64 (IntKind.u64.wrap (1*2 ^ s))).getLsbD t:=by
  show (BitVec.ofInt 64 (IntKind.u64.wrap ((BitVec.ofInt 64 (IntKind.u64.wrap a)&&& BitVec.ofInt 64 (IntKind.u64.wrap (1*2 ^ s))).toNat:Int))).getLsbD t=_
  rw [gF,Zw]
 rw [e,gF,gF,BitVec.getLsbD_and];have b:=Io (show s<64 by omega) t;rw [df] at b;have b:(BitVec.ofInt 64 (1*2 ^ s)).getLsbD t=decide (s=t):=b;rw [b];rfl
def Ed (y:Ξ)(j s:Nat):Ξ:=y.set j (IntKind.i64.wrap (bits .and .u64 (IntKind.u64.wrap (y.getD j 0)) (IntKind.u64.wrap (1*2 ^ s))))
def EC (y:Ξ)(j s:Nat):Ξ:=if BI (Ed y j s) then List.replicate y.length 0 else Ed y j s
variable {j:Nat}{y:Ξ}
def Wd (p:CK q=true)(hy:posOk q y=true)(d:j<y.length)(hs:s<q.symbols.toNat):(Ed y j s).length=y.length/\ ∀ l,l<y.length -> CB ((Ed y j s).getD l 0)/\ ∀ t,tb ((Ed y j s).getD l 0) t=(tb (y.getD l 0) t&&(!decide (l=j)||decide (t=s))):=by
 obtain ⟨h1,b⟩:=(I4 p).1 hy;obtain ⟨hc,V2,_⟩:=DM p;unfold Ed;refine ⟨zGZ,λl m=>?_⟩
 by_cases e:j=l
 ·subst e;rw [QW d];refine ⟨Q6 _,λt=>?_⟩;rw [yR _ (by omega),zEE rfl,zIA,zMO]
  grind
 ·rw [getD_set_ne e];refine ⟨(b l m).in64 (by omega),λt=>?_⟩
  grind
def mI (p:CK q=true)(hy:posOk q y=true):posOk q (List.replicate y.length 0)=true:=by
 obtain ⟨a,_⟩:=(I4 p).1 hy;refine (I4 p).2 ⟨by rw [zH0];exact a,λj hj=>?_⟩
 have:(List.replicate y.length (0:Int)).getD j 0=0:=by
  grind
 rw [this];exact ⟨zGl _,Int.pow_pos (by decide)⟩
def zJS (p:CK q=true)(hy:posOk q y=true)(d:j<y.length)(a:s<q.symbols.toNat):posOk q (EC y j s)=true:=by
 obtain ⟨b,c⟩:=(I4 p).1 hy;obtain ⟨hc,V2,_⟩:=DM p;obtain ⟨N,T⟩:=Wd p hy d a;unfold EC;split
 ·exact mI p hy
 ·refine (I4 p).2 ⟨by rw [N];exact b,λl hl=>?_⟩;obtain ⟨w,z⟩:=T l (by omega);refine YP (by omega) w λt X _=>?_
  rw [z,(c l (by omega)).hi X];rfl
variable {n:Nat}
def uj (Q:DK q)(p:CK q=true)(hy:posOk q y=true)(d:j<y.length)(hs:s<q.symbols.toNat)(u:Dz q+300<=n):QZ n q y j s=some (EC y j s,0):=by
 obtain ⟨h1,h2⟩:=(I4 p).1 hy;obtain ⟨hc,V2,_⟩:=DM p;have L:(1000000000000:Nat)=Ay:=rfl;have lb:(256:Nat)<=LB:=by decide
 have sy:((q.symbols.toNat:Nat):Int)=q.symbols:=by omega
 have R:GB n q y=some 0:=by
  rw [fh Q (by omega) (by omega) (by omega)]
  simp_all [Dm]
 unfold QZ kS cU lH;rw [R,zEb];simp only [zIg,zGw,zCg,zMp];rw [zFd (by omega),zFd (by omega),zFd (by omega),zFd (by omega)];simp only [bne_self_eq_false,zGF];rw [zEZ ⟨⟨trivial,⟨trivial,trivial⟩,by rw [←L];omega⟩,⟨by omega,by omega⟩,d⟩]
 have U:Zq n (IntKind.u64.wrap (y.getD j 0)) s=some (bits .and .u64 (IntKind.u64.wrap (y.getD j 0)) (IntKind.u64.wrap (1*2 ^ s))):=by
  unfold Zq rN;rw [zEZ ⟨by omega,by show (s:Int)<=((64:Nat):Int);omega⟩,zCg]
 rw [U,zEb,zEZ (by rw [zGZ])]
 show ((SI n (Ed y j s)).bind λy3=>some (y3,(0:Int))).bind _=_
 have S:(Ed y j s).length=y.length:=zGZ;unfold EC
 generalize Ed y j s=z at S ⊢
 have u:SI n z=some (if BI z then List.replicate y.length 0 else z):=by
  unfold SI gK;rw [vU (by omega) (by omega),zEb]
  grind
 rw [u];rfl
def EH:Ξ -> Option Ξ
 | []=>some []
 | x::l=>match Bv x 0 with
  | [s]=>(EH l).map λr=>(s:Int)::r
  | _=>none
def Ua: ∀ {p g:Ξ},EH p=some g -> g.length=p.length
 | [],g,h=>by cases h;rfl
 | x::p,g,h=>by
  unfold EH at h;split at h
  ·obtain ⟨r,i,rfl⟩:=zIO.1 h;rw [zGp,zGp,Ua i]
  ·cases h
variable {x10:Int}
def zo : ∀ (l:Θ),(∀ s∈l,s<16) -> Cj (UW n pos x10) (l.map λ(s:Nat)=>(s:Int)) (.s0 0)=some (match l with | []=>(.s0 0,0) | [s]=>(.s1 1 1 [(s:Int)],0) | _=>(.s0 2,1))
 | [],_=>rfl
 | s::l,h=>by
  have hs:=h s (by simp)
  have w:UW n pos x10 (s:Int) (.s0 0)=some (.s1 1 1 [(s:Int)],0):=by
   show UU n pos x10 (s:Int) 0=_
   unfold UU;rw [zEZ (by decide),zFd (by omega),zGF,zFd (by omega),zGF,zEZ ⟨⟨rfl,rfl⟩,by simp,by simp [Ay]⟩];rfl
  rw [zMN];simp only [Cj,w,zEb];cases l with
  | nil=>rfl
  | cons t l=>
   have e2:UW n pos x10 (t:Int) (.s1 1 1 [(s:Int)])=some (.s0 2,1):=by
    show UT n pos x10 (t:Int) 1 1 [(s:Int)]=_
    unfold UT;rw [zEZ (by decide),zEE (by omega),zFR];rfl
   grind [Cj]
def zn {m:Nat}{o:Ξ}(x:m=o.length)(hl:o.length<=300): ∀ (l:Θ),(∀ s∈l,s<16) -> Cj (UV n pos x10) (l.map λ(s:Nat)=>(s:Int)) (.s0 m 0 o)=some (match l with | []=>(.s0 m 0 o,0) | [s]=>(.s0 (m+1) 1 (o++[(s:Int)]),0) | _=>(.s1 2,1))
 | [],_=>rfl
 | s::l,h=>by
  have hs:=h s (by simp);have L:(1000000000000:Nat)=Ay:=rfl
  have w:UV n pos x10 (s:Int) (.s0 m 0 o)=some (.s0 (m+1) 1 (o++[(s:Int)]),0):=by
   show O3 n pos x10 (s:Int) m 0 o=_
   unfold O3;rw [zEZ (by decide),zFd (by omega),zGF,zFd (by omega),zGF,zEZ ⟨⟨rfl,rfl⟩,⟨rfl,x⟩,by rw [←L];simp;omega⟩,x];rfl
  rw [zMN];simp only [Cj,w,zEb];cases l with
  | nil=>rfl
  | cons t l=>
   have e2:UV n pos x10 (t:Int) (.s0 (m+1) 1 (o++[(s:Int)]))=some (.s1 2,1):=by
    show O3 n pos x10 (t:Int) (m+1) 1 (o++[(s:Int)])=_
    unfold O3;rw [zEZ (by decide),zEE (by omega),zFR];rfl
   grind [Cj]
def Jl (o:Ξ):Option Ξ -> Ξ×Bool
 | some r=>(o++r,true)
 | none=>([],false)
variable {x:Int}
def wo (h:Sm 16 x):Ev (λn=>Mn n (IntKind.u64.wrap x)) ((Bv x 0).map λ(s:Nat)=>(s:Int)):=by
 have e:IntKind.u64.wrap x=x:=by
  show x % 18446744073709551616=x
  have:=h.2;exact Int.emod_eq_of_lt h.1 (by omega)
 rw [e];exact lv h 16 0 (by omega)
def ov (h:s∈Bv x 0):s<16:=(Hd.1 h).1
def oR (b: ∀ j,j<pos.length -> Sm 16 (pos.getD j 0))(m:pos.length<=256): ∀ (k j:Nat) (o:Ξ),j+k=pos.length -> o.length<=256 -> o.length+k<=256 -> Ev (λn=>HM pos n (.l2 (j:Int) o.length o)) (Jl o (EH (pos.drop j)))
 | 0,j,o,e,x,_=>by
  simp_all [Ev.one,RT,HM,EH,Jl]
 | k+1,j,o,e,x,hk=>by
  have d:j<pos.length:=by omega
  have c:pos.drop j=pos.getD j 0::pos.drop (j+1):=by
   simp_all
  have A:=wo (b j d);have lb:AG ((j:Int)+1):=Aj.2 ⟨by omega,by omega⟩;have U:=λs:Nat=>oR b m k (j+1) (o++[(s:Int)]) (by omega) (by simp;omega) (by simp;omega)
  have start: ∀ n,HM pos (n+1) (.l2 (j:Int) o.length o)=RT n (HM pos n) pos (j:Int) o.length o:=λ_=>rfl
  obtain ⟨N,X⟩:=A;have X: ∀ n,N<=n -> Mn n (IntKind.u64.wrap (pos.getD j 0))=some ((Bv (pos.getD j 0) 0).map λ(s:Nat)=>(s:Int)):=X;have M:=λn=>zn (n:=n) (pos:=pos) (x10:=(j:Int)) (o:=o) rfl (by omega) (Bv (pos.getD j 0) 0) λs a=>ov a
  rw [c,EH];cases a:Bv (pos.getD j 0) 0 with
  | nil=>
   refine Ev.oneN N λn u=>?_
   rw [start];unfold RT;rw [zEE (by omega),zFR,zEZ ⟨by omega,by omega⟩,zCg,X n u,zEb,M n,a];rfl
  | cons s l=>
   cases l with
   | nil=>
    have g:AV (HM pos) (.l2 (j:Int) o.length o) (.l2 ((j+1:Nat):Int) (o++[(s:Int)]).length (o++[(s:Int)])):=AV.oneN N λn u=>by
     simp_all [RT]
    have:=g.ev (U s);simp only;cases i:EH (pos.drop (j+1)) with
    | none=>rw [i] at this;exact this
    | some r=>grind [Jl]
   | cons t l=>
    refine Ev.oneN N λn u=>?_
    rw [start];unfold RT;rw [zEE (by omega),zFR,zEZ ⟨by omega,by omega⟩,zCg,X n u,zEb,M n,a];rfl
def zW (b: ∀ j,j<pos.length -> Sm 16 (pos.getD j 0))(m:pos.length<=256):Ev (λn=>YH n pos) (Jl [] (EH pos)):=by
 cases pos with
 | nil=>
  refine Ev.eq (g:=λn=>HM [] n (.l1 0)) (Ev.one λn=>?_) λn=>rfl
  show O1 n (HM [] n) [] 0=_
  unfold O1;rfl
 | cons x p=>
  have e:=b 0 (by simp);have e:Sm 16 x:=by simpa using e
  obtain ⟨N,X⟩:=wo e;have X: ∀ n,N<=n -> Mn n (IntKind.u64.wrap x)=some ((Bv x 0).map λ(s:Nat)=>(s:Int)):=X;have M:=λn=>zo (n:=n) (pos:=x::p) (x10:=0) (Bv x 0) λs a=>ov a
  refine Ev.eq (g:=λn=>HM (x::p) n (.l1 0)) ?_ λn=>rfl
  have start: ∀ n,HM (x::p) (n+1) (.l1 0)=O1 n (HM (x::p) n) (x::p) 0:=λ_=>rfl
  have G:decide ((0:Int)<(((x::p).length:Nat):Int))=true:=zEE (by simp);have L:(x::p).getD (0:Int).toNat 0=x:=rfl;rw [EH];cases a:Bv x 0 with
  | nil=>
   refine Ev.oneN N λn u=>?_
   rw [start];unfold O1;rw [G,zFR,zEZ ⟨by omega,by simp⟩,L,X n u,zEb,M n,a];rfl
  | cons s l=>
   cases l with
   | nil=>
    have g:AV (HM (x::p)) (.l1 0) (.l2 ((1:Nat):Int) [(s:Int)].length [(s:Int)]):=AV.oneN N λn u=>by
     rw [start];unfold O1;rw [G,zFR,zEZ ⟨by omega,by simp⟩,L,X n u,zEb,M n,a];simp only [zEb,beq_self_eq_true,zFR];rw [show ((1:Int)==0)=false from rfl,zGF,zEZ (by decide)];rfl
    have:=g.ev (oR b m p.length 1 [(s:Int)] (by simp;omega) (by simp) (by simp at m ⊢;omega));simp only [List.drop_one,List.tail_cons] at this;simp only;cases i:EH p with
    | none=>rw [i] at this;exact this
    | some r=>grind [Jl]
   | cons t l=>
    refine Ev.oneN N λn u=>?_
    rw [start];unfold O1;rw [G,zFR,zEZ ⟨by omega,by simp⟩,L,X n u,zEb,M n,a];rfl
end
section
variable {k:Nat}{x:Int}
theorem ou (h:Sm k x):Bv x k= []:=by
 unfold Bv;rw [zMo];intro s j;have:=zNU.1 j;rw [h.hi this.1];decide
def zv (hk:k<=16)(h:Sm k x):Sm 16 x:=
 YP (by decide) (h.in64 (by omega)) λi hi _=>h.hi (by omega)
def eF {i:Nat}:(Bv x i).Nodup:=zNJ zMd List.nodup_range'
def FX (p:Ξ)(k:Nat):Nat:=(Bv (p.getD k 0) 0).length
def DP (p:Ξ):Nat -> Nat×Nat
 | 0=>(0,0)
 | k+1=>if 1<FX p k/\ (DP p k=(0,0)∨FX p k<(DP p k).1) then (FX p k,k) else DP p k
def PH (i:Int):Bc:=((1,i),[])
inductive Sr (q:AA):Option (Nat×Θ) -> Ξ -> List Bc -> Prop
 | dead {p x o:Ξ}:Qx q p 4 (o,0) -> IA q 4 p x -> BI x=true -> Sr q none p (o.map PH++[((3,0),[])])
 | done {p x o g:Ξ}:Qx q p 4 (o,0) -> IA q 4 p x -> BI x=false -> EH x=some g -> Sr q none p (o.map PH++[((4,0),g)])
 | split {p x o:Ξ} {c:Nat} {l:List Bc}:Qx q p 4 (o,0) -> IA q 4 p x -> BI x=false -> EH x=none -> c=(DP x x.length).2 -> c<x.length -> 2<=FX x c -> Sr q (some (c,Bv (x.getD c 0) 0)) x l -> Sr q none p (o.map PH++((2,(c:Int)),[])::l)
 | nil {x:Ξ} {c:Nat}:Sr q (some (c,[])) x []
 | cons {x:Ξ} {c s:Nat} {ss:Θ} {a b:List Bc}:Sr q none (EC x c s) a -> Sr q (some (c,ss)) x b -> Sr q (some (c,s::ss)) x (a++b)
section
variable {q:AA} {p x pos0 o:Ξ} {c s:Nat}
def A4.sm16 (h:A4 q x)(j:Nat)(d:j<x.length):Sm 16 (x.getD j 0):=zv h.k (h.sm j d)
theorem X4 (h:A4 q x){j:Nat}(d:j<x.length):0<FX x j↔x.getD j 0≠0:=by
 rw [Ex (h.in64 j),FX,List.length_pos_iff_exists_mem];constructor
 ·grind [Hd]
 ·rintro ⟨s,_,a⟩;refine ⟨s,Hd.2 ⟨zGa λl=>?_,a⟩⟩;rw [(h.sm16 j d).hi l] at a;cases a
def vn: ∀ k,(DP x k=(0,0)/\ ∀ j,j<k -> FX x j<=1)∨(2<=(DP x k).1/\ (DP x k).2<k/\ FX x (DP x k).2=(DP x k).1)
 | 0=>.inl ⟨rfl,λj d=>absurd d (zGR j)⟩
 | k+1=>by
  unfold DP;split
  ·grind
  ·rename_i h;rcases vn k with ⟨a,b⟩ | ⟨a,b,c⟩
   ·grind
   ·exact .inr ⟨a,by omega,c⟩
def oY: ∀ {l:Ξ},(∀ j,j<l.length -> FX l j=1) -> ∃ g,EH l=some g
 | [],_=>⟨[],rfl⟩
 | x::l,h=>by
  obtain ⟨g,hg⟩:=oY (l:=l) λj d=>h (j+1) (by simpa using d)
  have h0:=h 0 (by simp);have h0:(Bv x 0).length=1:=h0
  grind [List.length_eq_one_iff,EH]
def zK8 (h:A4 q x)(hd:BI x=false)(a:EH x=none):DP x x.length≠(0,0)/\ (DP x x.length).2<x.length/\ 2<=FX x (DP x x.length).2:=by
 rcases vn (x:=x) x.length with ⟨_,b⟩ | ⟨h1,b,h3⟩
 ·obtain ⟨g,c⟩:=oY (l:=x) λj hj=>by
   grind [X4,FA]
  rw [c] at a;cases a
 grind
def vi (h:A4 q x): ∀ (k j:Nat),j+k=x.length -> (∀ i,i<j -> x.getD i 0≠0) -> Ev (λn=>OU x n (.l1 (j:Int) ((DP x j).1:Int) ((DP x j).2:Int))) (if BI x then (0,false) else (((DP x x.length).2:Int),decide (DP x x.length≠(0,0))))
 | 0,j,e,v=>by
  have r:BI x=false:=FA.2 λi hi=>v i (by omega)
  refine Ev.one λn=>?_
  show Qh n (OU x n) x (j:Int) _ _=_
  unfold Qh;have e:j=x.length:=by omega
  rw [zFd (by omega),zGF,r,zGN (by decide),e]
  generalize DP x x.length=b
  obtain ⟨b1,b2⟩:=b
  congr 2
  grind
 | k+1,j,e,v=>by
  have d:j<x.length:=by omega
  have Ec:=h.len256;obtain ⟨N,X⟩:=zx (h.sm16 j d);have X: ∀ n,N<=n -> Uc n (x.getD j 0)=some ((FX x j:Nat):Int):=X;have WX:FX x j<=16:=eH
  by_cases h0:x.getD j 0=0
  ·have r:BI x=true:=by
    grind [FA]
   have a:FX x j=0:=Nat.eq_zero_of_not_pos λg=>(X4 h d).1 g h0
   refine Ev.oneN N λn u=>?_
   show Qh n (OU x n) x (j:Int) _ _=_
   unfold Qh
   grind
  ·have U:=vi h k (j+1) (by omega) λi hi=>by
    grind
   have a:FX x j≠0:=λa=>by
    grind [X4]
   refine AV.ev (m:=OU x) (AV.oneN N λn u=>?_) U
   show Qh n (OU x n) x (j:Int) _ _=_
   unfold Qh;rw [zEE (by omega),zFR,zEZ ⟨by omega,by omega⟩,zCg,X n u,zEb];rw [show (((FX x j:Nat):Int)==0)=false from zH4.2 (by omega),zGF];rw [show ((j+1:Nat):Int)=(j:Int)+1 by omega];simp only [zEZ (show AG ((j:Int)+1) from Aj.2 ⟨by omega,by omega⟩)]
   have V:(((DP x j).1:Int)==0&&(((DP x j).2:Int)==0&&true))=decide (DP x j=(0,0)):=by
    grind
   rw [V,show DP x (j+1)=if 1<FX x j/\ (DP x j=(0,0)∨FX x j<(DP x j).1) then (FX x j,j) else DP x j from rfl]
   grind
def zK4 (h:A4 q x):Ev (λn=>XL n x) (if BI x then (0,false) else (((DP x x.length).2:Int),decide (DP x x.length≠(0,0)))):=
 (vi h x.length 0 (by omega) λi hi=>absurd hi (zGR i)).eq λ_=>rfl
def uf (h:A4 q x)(a:c<x.length)(j:s<q.symbols.toNat){l t:Nat}(X:tb ((EC x c s).getD l 0) t=true):tb (x.getD l 0) t=true/\ (l=c -> t=s):=by
 obtain ⟨z1,z2⟩:=Wd h.valid h.ok a j;unfold EC at X;split at X
 ·grind [IG]
 grind
def A4.fx (h:A4 q x)(l:c<x.length)(j:s<q.symbols.toNat):A4 q (EC x c s):=⟨h.fit,h.valid,zJS h.valid h.ok l j⟩
def zJR (h:A4 q x)(d:c<x.length)(f:s<q.symbols.toNat)(g:2<=FX x c):wt (EC x c s)<wt x:=by
 refine T6 (h.fx d f) h (λj t X=>(uf h d f X).1) λe=>?_
 have all: ∀ t∈Bv (x.getD c 0) 0,t=s:=λt X=>by
  have:=(Hd.1 X).2;rw [←e] at this;exact (uf h d f this).2 rfl
 have nd:=eF (x:=x.getD c 0) (i:=0);unfold FX at g
 generalize Bv (x.getD c 0) 0=l at*
 match l,g with
 | a::b::l,_=>
  simp_all
def oL (h:A4 q x)(d:c<x.length)(U: ∀ s,s<q.symbols.toNat -> ∃ l,Sr q none (EC x c s) l/\ Ev (λn=>Dg n (EC x c s) q pos0) l):
 ∀ (k j:Nat),j+k=q.symbols.toNat -> ∃ l,Sr q (some (c,Bv (x.getD c 0) j)) x l/\ ∃ N,∀ n m,N<=n -> N<=m -> Ew (Dg m) p q pos0 n (.l2 x (c:Int) (j:Int))=some l
 | 0,j,e=>by
  have f:=h.sm c d;have hk:=h.k;refine ⟨[],?_,1,λn m u _=>?_⟩
  ·rw [show j=q.symbols.toNat by omega,ou f];exact .nil
  ·obtain ⟨n,rfl⟩: ∃ k,n=k+1:=⟨n-1,by omega⟩
   show Om n (Dg m) (Ew (Dg m) p q pos0 n) p q pos0 x (c:Int) (j:Int)=_
   unfold Om
   grind
 | k+1,j,e=>by
  have f:=h.sm c d;have hk:=h.k;obtain ⟨b,g,N,hN⟩:=oL h d U k (j+1) (by omega)
  have step: ∀ n m,Ew (Dg m) p q pos0 (n+1) (.l2 x (c:Int) (j:Int))=bif !tb (x.getD c 0) j then Ew (Dg m) p q pos0 n (.l2 x (c:Int) ((j+1:Nat):Int)) else (QZ n q x c j).bind λi=>wb (Dg m i.1 q pos0) (Ew (Dg m) p q pos0 n (.l2 x (c:Int) ((j+1:Nat):Int))):=λn m=>by
   show Om n (Dg m) (Ew (Dg m) p q pos0 n) p q pos0 x (c:Int) (j:Int)=_
   unfold Om;have o:AG ((j:Int)+1):=Aj.2 ⟨by omega,by omega⟩;rw [zEE (by omega),zFR,zEZ ⟨⟨by omega,by omega⟩,by omega,by show (j:Int)<=((64:Nat):Int);omega⟩,zCg,zCg,zAC f (by omega) (by omega)];simp only [zEZ o];rfl
  rw [eG (show j<16 by omega)];cases X:tb (x.getD c 0) j with
  | false=>
   rw [zGN (by decide)];refine ⟨b,g,N+1,λn m u v=>?_⟩;obtain ⟨n,rfl⟩: ∃ k,n=k+1:=⟨n-1,by omega⟩
   grind
  | true=>
   rw [zEZ rfl];obtain ⟨a,D,M,Y⟩:=U j (by omega);have Y: ∀ n,M<=n -> Dg n (EC x c j,(0:Int)).1 q pos0=some a:=Y;refine ⟨a++b,.cons D g,N+M+Dz q+301,λn m u v=>?_⟩;obtain ⟨n,rfl⟩: ∃ k,n=k+1:=⟨n-1,by omega⟩;rw [step,X,uj h.fit h.valid h.ok d (by omega) (show Dz q+300<=n by omega)]
   grind [wb]
def ul {t:List Bc}(x:o.length<=20000)(h: ∃ N,∀ n m,N<=n -> N<=m -> Ew (Dg m) p q pos0 n (.l1 o (o.length:Int) (o.length:Int))=some t):
 ∀ (k j:Nat),j+k=o.length -> ∃ N,∀ n m,N<=n -> N<=m -> Ew (Dg m) p q pos0 n (.l1 o (o.length:Int) (j:Int))=some ((o.drop j).map PH++t)
 | 0,j,e=>by
  simp_all
 | k+1,j,e=>by
  obtain ⟨N,X⟩:=ul x h k (j+1) (by omega);refine ⟨N+1,λn m hn hm=>?_⟩;obtain ⟨n,rfl⟩: ∃ k,n=k+1:=⟨n-1,by omega⟩;have d:j<o.length:=by omega
  show Oo n (Dg m) (Ew (Dg m) p q pos0 n) p q pos0 o (o.length:Int) (j:Int)=_
  unfold Oo;rw [zEE (by omega),zFR,zEZ ⟨by omega,by omega⟩,zEZ (Aj.2 ⟨by omega,by omega⟩),zCg,show (j:Int)+1=((j+1:Nat):Int) by omega,X n m (by omega) (by omega),zGg d];have:o.getD j 0=o[j]:=by simp [d]
  rw [this];rfl
variable {level:Int}
def Qx.zero (g:A4 q p){r:Ξ×Int}(h:Qx q p level r):r.2=0/\ r.1.length<=20000:=by
 rcases h with ⟨b,_⟩ | ⟨_,_,a⟩ | ⟨_,_,a,A,_⟩
 ·exact absurd g.check b
 ·rw [a];exact ⟨rfl,by decide⟩
 ·exact ⟨a,A⟩
def IA.posn (g:A4 q p)(h:IA q level p x):A4 q x/\ Le x p/\ wt x<=wt p:=by
 have key:A4 q x/\ Le x p:=by
  rcases h with ⟨_,rfl⟩ | ⟨_,a,_⟩
  ·exact ⟨⟨g.fit,g.valid,mI g.valid g.ok⟩,λj s hs=>by
    grind [IG]⟩
  ·exact ⟨a.pos dV g,a.le⟩
 refine ⟨key.1,key.2,?_⟩
 by_cases e:x=p
 ·rw [e];exact zGT _
 ·have:=T6 key.1 g key.2 e;omega
def zL2 (g:A4 q p): ∃ x,Ev (λn=>Tn n q p level) (x,0)/\ IA q level p x:=by
 obtain ⟨⟨x,e⟩,h1,b⟩:=zL3 (level:=level) g.fit (zGK g.len256.2 (by decide));rcases b with ⟨h,_⟩ | ⟨_,h,_⟩ | ⟨_,_,h,h4⟩
 ·exact absurd g.check h
 ·cases h
 grind
def xm: ∀ (M:Nat) {p:Ξ},wt p<=M -> A4 q p -> ∃ l,Sr q none p l/\ Ev (λn=>Dg n p q pos0) l:=by
 intro M
 induction M using Nat.strongRecOn with
 | ind M U=>
  intro p hM b;obtain ⟨⟨o,e⟩,o1,F⟩:=zD1 (level:=4) b.fit (zGK b.len256.2 (by decide));obtain ⟨J,c⟩:=F.zero b;have J:e=0:=J;subst J;have c:o.length<=20000:=c;obtain ⟨x,T,f⟩:=zL2 (level:=4) b;obtain ⟨a,Pw,hxw⟩:=f.posn b;obtain ⟨A,T⟩:=T;have h:=a.len256;have G: ∀ m,300<=m -> Gz m (x,(0:Int)).1=some (BI x):=λm v=>No (zGK h.2 (by decide)) (by show x.length<m;omega)
  obtain ⟨S,d⟩:=zW (pos:=x) a.sm16 h.2;have d: ∀ n,S<=n -> YH n (x,(0:Int)).1=some (Jl [] (EH x)):=d;obtain ⟨C,w⟩:=zK4 a;have w: ∀ n,C<=n -> XL n (x,(0:Int)).1=_:=w
  have key: ∃ t,Sr q none p (o.map PH++t)/\ ∃ N,∀ n m,N<=n -> N<=m -> Ew (Dg m) p q pos0 n (.l1 o (o.length:Int) (o.length:Int))=some t:=by
   have step: ∀ n m,A+300+S+C<=n -> Ew (Dg m) p q pos0 (n+1) (.l1 o (o.length:Int) (o.length:Int))=bif BI x then some [((3,0),[])] else bif (Jl [] (EH x)).2 then some [((4,0),(Jl [] (EH x)).1)] else wx ((2,((DP x x.length).2:Int)),[]) (Ew (Dg m) p q pos0 n (.l2 x ((DP x x.length).2:Int) 0)):=λn m u=>by
    show Oo n (Dg m) (Ew (Dg m) p q pos0 n) p q pos0 o (o.length:Int) (o.length:Int)=_
    unfold Oo;rw [zFd (by omega),zGF,show Tn n q p 4=some (x,0) from T n (by omega),zEb,G n (by omega),zEb];cases r:BI x with
    | true=>rfl
    | false=>
     rw [zGF,zGF,d n (by omega),zEb];cases j:(Jl [] (EH x)).2 with
     | true=>rfl
     | false=>
      grind
   cases r:BI x with
   | true=>
    refine ⟨_,.dead F f r,A+300+S+C+1,λn m u _=>?_⟩;obtain ⟨n,rfl⟩: ∃ k,n=k+1:=⟨n-1,by omega⟩;rw [step n m (by omega),r];rfl
   | false=>
    cases j:EH x with
    | some g=>
     refine ⟨_,.done F f r j,A+300+S+C+1,λn m u _=>?_⟩;obtain ⟨n,rfl⟩: ∃ k,n=k+1:=⟨n-1,by omega⟩
     grind [Jl]
    | none=>
     obtain ⟨_,Z,i⟩:=zK8 a r j;have y:=λs (j:s<q.symbols.toNat)=>U (wt (EC x (DP x x.length).2 s)) (by have:=zJR a Z j i;omega) (zGT _) (a.fx Z j)
     obtain ⟨l,z,N,B⟩:=oL (p:=p) (pos0:=pos0) a Z y q.symbols.toNat 0 (by omega);refine ⟨_,.split F f r j rfl Z i z,A+300+S+C+N+1,λn m u v=>?_⟩;obtain ⟨n,rfl⟩: ∃ k,n=k+1:=⟨n-1,by omega⟩;rw [step n m (by omega),r,j];have:=B n m (by omega) (by omega)
     simp_all [Jl,wx]
  obtain ⟨t,D,V⟩:=key;obtain ⟨N,hN⟩:=ul c V o.length 0 (by omega);obtain ⟨O,o1⟩:=o1;refine ⟨_,D,N+O+1,λn u=>?_⟩;obtain ⟨n,rfl⟩: ∃ k,n=k+1:=⟨n-1,by omega⟩
  show (Zp n q p 4).bind _=_
  grind
def zEO (g:A4 q p): ∃ l,Sr q none p l/\ Ev (λn=>J2 n q p) l:=by
 obtain ⟨l,a,N,b⟩:=xm (pos0:=p) (wt p) (zGT _) g;refine ⟨l,a,N,λn u=>?_⟩
 show wb (Dg n p q p) (some [])=_
 rw [show Dg n p q p=some l from b n u]
 show some (l++[])=_
 rw [zIs]
end
end
abbrev HR:=List Ξ×List (Δ)×Bool
def Fb (most:Int):List Bc -> List Ξ -> List (Δ) -> HR
 | [],gs,t=>(gs,t,false)
 | x::l,gs,t=>if x.1.1=4 then (if ((gs++[x.2]).length:Int)=most then (gs++[x.2],t++[x.1],true) else Fb most l (gs++[x.2]) (t++[x.1])) else Fb most l gs (t++[x.1])
def hst (fuel:Int)(f:Nat)(gs:List Ξ)(t:List (Δ)):HP:=if gs= [] then (if t= [] then .s0 else .s1 (f:Int) t.length t) else .s2 (f:Int) gs.length t.length false gs t
def ah {most:Int}: ∀ (l:List Bc) (gs:List Ξ) (t:List (Δ)),t.length<=(Fb most l gs t).2.1.length/\ (l≠[] -> t.length<(Fb most l gs t).2.1.length)
 | [],gs,t=>⟨zGT _,λh=>absurd rfl h⟩
 | x::l,gs,t=>by
  have h1:=(ah (most:=most) l (gs++[x.2]) (t++[x.1])).1;have h2:=(ah (most:=most) l gs (t++[x.1])).1
  grind [Fb]
section
variable {n:Nat} {most fuel:Int} {f:Nat} {gs:List Ξ} {t:List (Δ)} {x:Bc}
def stp (fuel most:Int)(x:Bc)(gs:List Ξ)(t:List (Δ)):Nat -> HP×Nat
 | 0=>(hst fuel 0 gs t,2)
 | f+1=>if x.1.1=4 then (if ((gs++[x.2]).length:Int)=most then (.s2 (f:Int) (gs++[x.2]).length (t++[x.1]).length true (gs++[x.2]) (t++[x.1]),1) else (hst fuel f (gs++[x.2]) (t++[x.1]),0)) else (hst fuel f gs (t++[x.1]),0)
def n8:stp fuel most x gs t (f+1)=if x.1.1=4 then (if ((gs++[x.2]).length:Int)=most then (.s2 (f:Int) (gs++[x.2]).length (t++[x.1]).length true (gs++[x.2]) (t++[x.1]),1) else (hst fuel f (gs++[x.2]) (t++[x.1]),0)) else (hst fuel f gs (t++[x.1]),0):=rfl
def zB7:I0 n most fuel x .s0=fD n most fuel x:=rfl
variable {b:Nat}{a:Int}
def zB6 {c:List (Δ)}:I0 n most fuel x (.s1 a b c)=fC n most fuel x a b c:=rfl
def zB5 {c:Nat}{d:Bool}{u:List Ξ}{v:List (Δ)}:I0 n most fuel x (.s2 a b c d u v)=fB n most fuel x a b c d u v:=rfl
theorem s6:hst fuel f [] []= .s0:=rfl
def iu (h:t≠[]):hst fuel f [] t= .s1 (f:Int) t.length t:=by unfold hst;rw [zEZ rfl,zGN h]
def ak (h:gs≠[]):hst fuel f gs t= .s2 (f:Int) gs.length t.length false gs t:=by unfold hst;rw [zGN h]
def zBt (hf:f<=16777216)(ht:t.length<=16777216)(hg:gs.length<=t.length)(h0:t= [] -> (f:Int)=fuel):I0 n most fuel x (hst fuel f gs t)=some (stp fuel most x gs t f):=by
 have L:(1000000000000:Nat)=Ay:=rfl
 have b4: ∀ {α:Type} (a b:α),(bif (x.1.1 != 4) then a else b)=if x.1.1=4 then b else a:=λa b=>by
  grind
 have b5: ∀ {α:Type} (k:Int) (a b:α),(bif (k==most) then a else b)=if k=most then a else b:=λk a b=>by
  grind
 have h:t++[x.1]≠[]:=by simp
 have T:gs++[x.2]≠[]:=by simp
 cases f with
 | zero=>
  show _=some (hst fuel 0 gs t,2)
  by_cases W:gs= []
  ·subst W
   by_cases q:t= []
   ·subst q;have c:=h0 rfl;subst c;rfl
   ·rw [iu q];rfl
  ·rw [ak W];rfl
 | succ f=>
  have r1:AG (((f+1:Nat):Int)-1):=Aj.2 ⟨by omega,by omega⟩;have r2:((f+1:Nat):Int)-1=(f:Int):=by omega
  have b1:(((f+1:Nat):Int)==0)=false:=zH4.2 (by omega);rw [n8,ak (f:=f) T]
  by_cases W:gs= []
  ·subst W;rw [iu (f:=f) h]
   by_cases q:t= []
   ·subst q;have c:=h0 rfl;subst c;rw [s6,zB7];unfold fD
    grind
   ·rw [iu q];rw [zB6];unfold fC
    grind
  ·rw [ak W,ak W];rw [zB5];unfold fB
   grind
theorem pS: ∀ (l:List Bc) {f:Nat} {gs:List Ξ} {t:List (Δ)},f<=16777216 -> t.length+f<=16777216 -> gs.length<=t.length -> (t= [] -> (f:Int)=fuel) ->
 (Cj (I0 n most fuel) l (hst fuel f gs t)).bind O8=some (if (Fb most l gs t).2.1.length<=t.length+f then some (Fb most l gs t) else none)
 | [],f,gs,t,M,U,j,h0=>by
  show O8 (hst fuel f gs t,0)=_
  rw [show Fb most [] gs t=(gs,t,false) from rfl,zEZ (by simp)]
  grind [hst,O8,fA]
 | x::l,f,gs,t,M,U,j,h0=>by
  have m:=ah (most:=most) (x::l) gs t;rw [show Cj (I0 n most fuel) (x::l) (hst fuel f gs t)=(I0 n most fuel x (hst fuel f gs t)).bind λr=>bif r.2==0 then Cj (I0 n most fuel) l r.1 else some r from rfl,zBt M (by omega) j h0,zEb];cases f with
  | zero=>
   have:=m.2 (by simp);rw [zGN (by omega)];rfl
  | succ f=>
   have a:=λ(u:List Ξ) (hg':u.length<=t.length+1)=>pS l (f:=f) (gs:=u) (t:=t++[x.1]) (by omega) (by grind) (by grind) λh=>by simp at h
   have e:(t++[x.1]).length+f=t.length+(f+1):=by grind
   rw [e] at a;rw [n8]
   by_cases A:x.1.1=4
   ·rw [zEZ A]
    by_cases h5:((gs++[x.2]).length:Int)=most
    ·simp_all [Fb,O8,fA]
    simp_all [Fb]
   ·rw [zGN A];have b:Fb most (x::l) gs t=Fb most l gs (t++[x.1]):=by rw [Fb,zGN A]
    rw [b];exact a _ (by omega)
def SD (most:Int)(l:List Bc)(f:Nat):Option HR:=if (Fb most l [] []).2.1.length<=f then some (Fb most l [] []) else none
theorem zBy {q:AA}{p:Ξ}{l:List Bc}(h:Ev (λn=>J2 n q p) l){f:Nat}(M:f<=16777216):Ev (λn=>Lx n q p most (f:Int)) (SD most l f):=by
 obtain ⟨N,X⟩:=h;refine ⟨N,λn u=>?_⟩
 show (J2 n q p).bind _=_
 rw [show J2 n q p=some l from X n u,zEb];have:=pS (n:=n) (most:=most) (fuel:=(f:Int)) l (f:=f) (gs:=[]) (t:=[]) M (by simpa using M) (by simp) (λ_=>rfl)
 grind [s6,SD]
def zEp {q:AA}{p:Ξ}{l:List Bc}(g:A4 q p)(h:Ev (λn=>J2 n q p) l)(hm:1<=most/\ most<=65536){f:Nat}(a:f<=16777216):Ev (λn=>J3 n q p most (f:Int)) (match SD most l f with | none=>(0,220) | some r=>((r.1.length:Int),0)):=by
 obtain ⟨M,Y⟩:=fg g.fit (zGK g.len256.2 (by decide));obtain ⟨N,X⟩:=zBy (most:=most) h (f:=f) a;rw [g.check] at Y;refine ⟨max M N,λn hn=>?_⟩
 show (GB n q p).bind _=_
 rw [show GB n q p=some 0 from Y n (by omega),zEb]
 show (bif decide (most<1) then _ else _)=_
 rw [zFd (by omega),zGF,zFd (by omega),zGF,zFd (by omega),zGF,zFd (by omega),zGF,show Lx n q p most (f:Int)=_ from X n (by omega)];cases SD most l f with
 | none=>rfl
 | some r=>rfl
end
section
variable {q:AA} {i:Int} {g pos x:Ξ}
def WI (g p:Ξ):Prop:=g.length=p.length/\ ∀ j,j<g.length -> (0<=g.getD j 0/\ g.getD j 0<=15)/\ tb (p.getD j 0) (g.getD j 0).toNat=true
def mY (G:Gd q g)(p:CK q=true):(∀ j s,tb ((Ar g).getD j 0) s=true -> tb (pos.getD j 0) s=true)↔∀ j,j<g.length -> tb (pos.getD j 0) (g.getD j 0).toNat=true:=by
 constructor
 ·intro h j d;exact h j _ (by rw [RU G p d,zEE rfl])
 ·intro h j s a
  by_cases d:j<g.length
  ·rw [RU G p d,zGM] at a;subst a;exact h j d
  ·rw [zGH,zI5 (by rw [Fn];omega)] at a;exact absurd a IG
def zF (C:Bq q i pos)(G:Gd q g)(Y:CI q (con q i) g)(w:WI g pos)(e:PR q (con q i) pos x):WI g x:=by
 have v:=G.ctx C.fit C.valid C.i0 C.i1;have:=qf C v ((mY G C.valid).2 λj d=>(w.2 j d).2) e (((rj v G).1 Y).2);have b:=(mY G C.valid).1 this;exact ⟨by rw [e.len];exact w.1,λj d=>⟨(w.2 j d).1,b j d⟩⟩
end
section
variable {q:AA} {pos p g:Ξ}
def WI.alive (h:WI g p)(a: ∀ j,j<p.length -> CB (p.getD j 0)):BI p=false:=
 FA.2 λj d=>(Ex (a j d)).2 ⟨(g.getD j 0).toNat,by have:=(h.2 j (by have:=h.1;omega)).1;omega,(h.2 j (by have:=h.1;omega)).2⟩
def mH (h:0<p.length){n:Nat}: ¬ WI g (List.replicate n 0)∨n=0:=by
 by_cases u:n=0
 ·exact .inr u
 ·refine .inl λw=>?_
  have a:=w.1;rw [zH0] at a;have:=(w.2 0 (by omega)).2
  have e:(List.replicate n (0:Int)).getD 0 0=0:=by
   rw [zGH,List.getElem?_replicate];split <;> rfl
  rw [e] at this;exact absurd this IG
def mZ (e:CK q=true)(f:posOk q p=true){c s:Nat}(l:c<p.length)(b:s<q.symbols.toNat):WI g (EC p c s)↔WI g p/\ (g.getD c 0).toNat=s:=by
 obtain ⟨Am,Cs⟩:=(I4 e).1 f;obtain ⟨N,T⟩:=Wd e f l b
 have v:WI g (Ed p c s)↔WI g p/\ (g.getD c 0).toNat=s:=by
  constructor
  ·intro h;have a:=h.1;rw [N] at a;have key:=λj (d:j<g.length)=>(h.2 j d).2
   refine ⟨⟨a,λj d=>⟨(h.2 j d).1,?_⟩⟩,?_⟩
   ·have:=key j d;rw [(T j (by omega)).2,zEh] at this;exact this.1
   ·have:=key c (by omega);rw [(T c l).2,zEh] at this;simpa using this.2
  ·rintro ⟨h,b⟩;have a:=h.1;refine ⟨by rw [N];exact a,λj d=>⟨(h.2 j d).1,?_⟩⟩;rw [(T j (by omega)).2,(h.2 j d).2,zIy]
   by_cases w:j=c
   ·subst w;rw [zEE b,Bool.or_true]
   ·simp [w]
 rw [←v];unfold EC;cases r:BI (Ed p c s) with
 | false=>rfl
 | true=>
  rw [zEZ rfl];refine ⟨λh=>?_,λh=>?_⟩
  ·rcases mH (g:=g) (p:=p) (by omega) (n:=p.length) with h0 | h0
   ·exact absurd h h0
   ·omega
  ·have:=h.alive λj d=>(T j (by omega)).1
   rw [r] at this;cases this
def xg {i:Int}{x:Ξ}(C:Bq q i p)(a:Nd q g)(e:PR q (con q i) p x):WI g x↔WI g p:=by
 constructor
 ·intro h;have b:=h.1;rw [e.len] at b;exact ⟨b,λj d=>⟨(h.2 j d).1,(e.sub (h.2 j d).2).2⟩⟩
 ·exact λh=>zF C a.1 (a.2 i C.i0 C.i1) h e
def YO: ∀ {p g:Ξ},EH p=some g -> ∀ j,j<p.length -> ∃ s:Nat,Bv (p.getD j 0) 0= [s]/\ g.getD j 0=(s:Int)
 | [],_,_,j,d=>by simp at d
 | x::p,g,h,j,d=>by
  unfold EH at h;split at h
  ·rename_i s a;obtain ⟨r,i,rfl⟩:=zIO.1 h;cases j with
   | zero=>exact ⟨s,by simpa using a,rfl⟩
   | succ j=>
    have:=YO i j (by simpa using d);simpa using this
  ·cases h
def oU (e:CK q=true)(k:posOk q p=true){a:Ξ}(f:EH p=some a)(h:WI g p):g=a/\ p=Ar g:=by
 obtain ⟨Am,i⟩:=(I4 e).1 k;obtain ⟨_,V2,_⟩:=DM e;have hl:=Ua f;have h1:=h.1
 have key: ∀ j,j<p.length -> Bv (p.getD j 0) 0= [(g.getD j 0).toNat]/\ g.getD j 0=a.getD j 0:=λj d=>by
  obtain ⟨s,w,z⟩:=YO f j d;have b:=h.2 j (by omega);have:(g.getD j 0).toNat∈Bv (p.getD j 0) 0:=Hd.2 ⟨by omega,b.2⟩;rw [w,zGh] at this;exact ⟨by rw [w,this],by rw [z];omega⟩
 refine ⟨zJA (by omega) λj b c=>?_,zJA (by rw [Fn];omega) λj b c=>?_⟩
 ·have:=(key j (by omega)).2;simpa [zGH,b,c] using this
 ·have d:j<p.length:=b;have w:p[j]=p.getD j 0:=by simp [b]
  have z:(Ar g)[j]=(Ar g).getD j 0:=by simp [c]
  have h4:=(h.2 j (by omega)).1;rw [w,z,RV (by omega)];refine Kj ((i j d).in64 (by omega)) (Q6 _) λt ht=>?_
  rw [Io (by omega)]
  by_cases l:t<16
  ·have:tb (p.getD j 0) t=decide (t∈Bv (p.getD j 0) 0):=by
    rw [zIh,zGM,Hd];exact ⟨λh=>⟨l,h⟩,λh=>h.2⟩
   rw [this,(key j d).1,zNb,zGh];exact eq_comm
  ·rw [(i j d).hi (by omega),zFd (by omega)]
def zf (hv:CK q=true)(hp:posOk q p=true)(a:EH p=some g):WI g p:=by
 have m:=Ua a;refine ⟨m,λj hj=>?_⟩;obtain ⟨s,w,z⟩:=YO a j (by omega);have:s∈Bv (p.getD j 0) 0:=by rw [w];exact zGh.2 rfl
 have:=Hd.1 this;rw [z];exact ⟨by omega,by rw [zCg];exact this.2⟩
end
abbrev zND:=@Nat.mul_assoc
def CZ (l:List Bc):List Ξ:=(l.filter λy=>y.1.1==4).map (·.2)
def bu {a b:List Bc}:CZ (a++b)=CZ a++CZ b:=by unfold CZ;rw [zMU,zMq]
def bs: ∀ o:Ξ,CZ (o.map PH)= []
 | []=>rfl
 | _::o=>bs o
def zKC {y:Bc}{l:List Bc}:CZ (y::l)=if y.1.1=4 then y.2::CZ l else CZ l:=by
 unfold CZ;rw [zI9]
 by_cases h:y.1.1=4
 ·rw [zEZ h,zEZ (by simpa using h)];rfl
 ·rw [zGN h,zGN (by simpa using h)]
def il {k:Nat}: ∀ (l:List Bc) (gs:List Ξ) (t:List (Δ)),gs.length<k -> (Fb (k:Int) l gs t).1=gs++(CZ l).take (k-gs.length)/\ (Fb (k:Int) l gs t).2.2=decide (k<=gs.length+(CZ l).length)/\ (Fb (k:Int) l gs t).2.1.length<=t.length+l.length
 | [],gs,t,h=>by
  refine ⟨?_,?_,zGT _⟩
  ·show gs=gs++([]:List Ξ).take _
   simp
  ·exact (zFd (by simp [CZ];omega)).symm
 | y::l,gs,t,h=>by
  rw [zKC];unfold Fb;have e0:(gs++[y.2]).length=gs.length+1:=by simp
  by_cases A:y.1.1=4
  ·rw [zEZ A,zEZ A]
   by_cases f:((gs++[y.2]).length:Int)=(k:Int)
   ·rw [zEZ f];have e:k-gs.length=1:=by omega
    refine ⟨by rw [e];rfl,(zEE (by simp;omega)).symm,by simp⟩
   ·rw [zGN f];obtain ⟨X,L,p⟩:=il (k:=k) l (gs++[y.2]) (t++[y.1]) (by omega);have e:k-gs.length=(k-(gs++[y.2]).length)+1:=by omega
    refine ⟨by rw [X,e,List.take_succ_cons,zNS];rfl,?_,by simp at p ⊢;omega⟩;rw [L,zNb];simp;omega
  ·rw [zGN A,zGN A];obtain ⟨X,L,p⟩:=il l gs (t++[y.1]) h;exact ⟨X,L,by simp at p ⊢;omega⟩
section
variable {q:AA} {p x g o:Ξ}
def Dw.wi {U:Int -> Prop}(M: ∀ i,U i -> 0<=i/\ i<(q.cons.length:Int))(j:Nd q g)(h:Dw q U p x):A4 q p -> (WI g x↔WI g p):=by
 induction h with
 | refl=>exact λ_=>Iff.rfl
 | step hi e _ b=>exact λa=>(b (a.pr (M _ hi).1 (M _ hi).2 e)).trans (xg (a.ctx (M _ hi).1 (M _ hi).2) j e)
def xf (h:0<p.length): ¬ WI g (List.replicate p.length 0):=by
 rcases mH (g:=g) h (n:=p.length) with h0 | h0
 ·exact h0
 ·omega
def WI.live (a:A4 q p)(h:WI g p):BI p=false:=h.alive λj _=>a.in64 j
def IA.wi (j:Nd q g)(a:A4 q p)(h:IA q 4 p x):WI g x↔WI g p:=by
 rcases h with ⟨r,rfl⟩ | ⟨_,h,_⟩
 ·refine zMn (xf a.len256.1) λw=>?_
  rw [w.live a] at r;cases r
 ·exact h.wi dV j a
def ki (h:0<p.length):BI (List.replicate p.length 0)=true:=by
 cases r:BI (List.replicate p.length (0:Int)) with
 | true=>rfl
 | false=>
  refine absurd ?_ (FA.1 r 0 (by simpa using h));rw [zGH,List.getElem?_replicate];split <;> rfl
def zJ7 (c:A4 q p)(h:IA q 4 p x)(r:BI x=false)(b:EH x=some g):Nd q g/\ WI g x:=by
 obtain ⟨a,_,_⟩:=h.posn c;have w:=zf a.valid a.ok b;have e:=(oU a.valid a.ok b w).2;have m:=Ua b
 have G:Gd q g:=⟨by rw [m];exact a.len,λj hj=>by
  obtain ⟨s,f,z⟩:=YO b j (by omega);have:s∈Bv (x.getD j 0) 0:=by rw [f];exact zGh.2 rfl
  have X:=(Hd.1 this).2
  have:s<q.symbols.toNat:=zGa λl=>by
   rw [(a.sm j (by omega)).hi l] at X;cases X
  rw [z];omega⟩
 have Q:Ih q (Up q 4) x:=by
  rcases h with ⟨_,rfl⟩ | ⟨_,_,M⟩
  ·rw [ki c.len256.1] at r;cases r
  ·exact M
 refine ⟨⟨G,λi h0 d=>Classical.byContradiction λv=>?_⟩,w⟩;have F:=Q i ⟨h0,d,zEv _⟩
 have A: ¬ Fj q (con q i) x:=by
  rw [e];exact (rj (G.ctx a.fit a.valid h0 d) G).2 v
 have k:=F.dead A;rw [k,ki a.len256.1] at r;cases r
variable {c:Nat}
def YY (e:A4 q x)(l:c<x.length): ∀ s∈Bv (x.getD c 0) 0,s<q.symbols.toNat:=λs j=>zGa λa=>by
 have:=(Hd.1 j).2;rw [(e.sm c l).hi a] at this;cases this
variable {l:List Bc}{m:Option (Nat×Θ)}
def Sr.sols (h:Sr q m p l):A4 q p -> (m=none -> (CZ l).Nodup/\ ∀ g,g∈CZ l↔Nd q g/\ WI g p)/\
 (∀ c ss,m=some (c,ss) -> c<p.length -> ss.Nodup -> (∀ s∈ss,s<q.symbols.toNat) -> (CZ l).Nodup/\ ∀ g,g∈CZ l↔Nd q g/\ WI g p/\ (g.getD c 0).toNat∈ss):=by
 induction h with
 | @dead p x o _ d h3=>
  refine λi=>⟨λ_=>?_,λ_ _ e=>(by cases e)⟩
  rw [bu,bs];refine ⟨zNj,λg=>zMn (by simp [CZ]) λ⟨n,w⟩=>?_⟩;have:=((d.wi n i).2 w).live (d.posn i).1;rw [h3] at this;cases this
 | @done p x o g j d h3 A=>
  refine λi=>⟨λ_=>?_,λ_ _ e=>(by cases e)⟩
  obtain ⟨z,Z⟩:=zJ7 i d h3 A;have k:=(d.posn i).1;rw [bu,bs]
  show ([g]:List Ξ).Nodup/\ ∀ B,B∈[g]↔_
  refine ⟨by simp,λB=>?_⟩;rw [zGh];constructor
  ·rintro rfl;exact ⟨z,(d.wi z i).1 Z⟩
  ·rintro ⟨n,w⟩;exact (oU k.valid k.ok A ((d.wi n i).2 w)).1
 | @split p x o c l j d h3 A h5 r h7 _ U=>
  refine λi=>⟨λ_=>?_,λ_ _ e=>(by cases e)⟩
  have k:=(d.posn i).1;obtain ⟨X,L⟩:=(U k).2 c _ rfl r eF (YY k r);rw [bu,bs]
  show (CZ l).Nodup/\ ∀ g,g∈CZ l↔_
  refine ⟨X,λg=>(L g).trans ?_⟩;constructor
  ·rintro ⟨n,w,_⟩;exact ⟨n,(d.wi n i).1 w⟩
  ·rintro ⟨n,w⟩;have w:=(d.wi n i).2 w;have:=w.2 c (by rw [w.1];exact r);exact ⟨n,w,Hd.2 ⟨by omega,this.2⟩⟩
 | nil=>
  refine λ_=>⟨λe=>(by cases e),λc ss e=>?_⟩
  cases e;exact λ_ _ _=>⟨zNj,λg=>by simp [CZ]⟩
 | @cons x c s ss a b _ _ E F=>
  refine λk=>⟨λe=>(by cases e),λc' oF e=>?_⟩
  cases e;intro t G y;obtain ⟨H,I⟩:=zNf.1 G;obtain ⟨T,C⟩:=(E (k.fx t (y s zIL))).1 rfl;obtain ⟨J,D⟩:=(F k).2 c ss rfl t I λs h=>y s (zH5 _ h)
  have f:=λg=>mZ (g:=g) k.valid k.ok t (y s zIL)
  rw [bu];refine ⟨zNQ.2 ⟨T,J,λu K v M e=>?_⟩,λg=>?_⟩
  ·subst e;have j:=((f u).1 ((C u).1 K).2).2;have d:=((D u).1 M).2.2;rw [j] at d;exact H d
  ·rw [zIF,C,D,f,zIq];constructor
   ·rintro (⟨j,d,h3⟩ | ⟨j,d,h3⟩)
    ·exact ⟨j,d,.inl h3⟩
    ·exact ⟨j,d,.inr h3⟩
   ·rintro ⟨j,d,h3 | h3⟩
    ·exact .inl ⟨j,d,h3⟩
    ·exact .inr ⟨j,d,h3⟩
def BX (x:Int):Nat:=(Bv x 0).length
def gp:Ξ -> Nat
 | []=>1
 | x::l=>max (BX x) 1*gp l
def QT: ∀ l:Ξ,1<=gp l
 | []=>zGT _
 | x::l=>Nat.mul_pos (by omega) (QT l)
def WZ: ∀ (l:Ξ) (c:Nat) (v:Int),c<l.length -> gp (l.set c v)*max (BX (l.getD c 0)) 1=gp l*max (BX v) 1
 | x::l,0,v,_=>by
  show max (BX v) 1*gp l*max (BX x) 1=max (BX x) 1*gp l*max (BX v) 1
  rw [zI7 (max (BX x) 1),zI7 (max (BX v) 1),zND,zND,zI7 (max (BX x) 1)]
 | x::l,c+1,v,h=>by
  have U:=WZ l c v (by simpa using h)
  show max (BX x) 1*gp (l.set c v)*max (BX (l.getD c 0)) 1=max (BX x) 1*gp l*max (BX v) 1
  rw [zND,U,zND]
def uS: ∀ (a b:Ξ),a.length=b.length -> (∀ j,j<a.length -> 1<=BX (a.getD j 0)/\ BX (a.getD j 0)<=BX (b.getD j 0)) -> gp a<=gp b/\ ((∃ j,j<a.length/\ BX (a.getD j 0)<BX (b.getD j 0)) -> gp a<gp b)
 | [],[],_,_=>⟨zGT _,λ⟨j,h,_⟩=>absurd h (zGR j)⟩
 | u::a,v::b,e,h=>by
  obtain ⟨X,L⟩:=uS a b (by simpa using e) λj d=>h (j+1) (by simpa using d)
  have h0:=h 0 (by simp);have h0:1<=BX u/\ BX u<=BX v:=h0;have f:=QT b;have c:max (BX u) 1<=max (BX v) 1:=by omega
  refine ⟨zNO c X,λ⟨j,d,p⟩=>?_⟩;cases j with
  | zero=>
   have p:BX u<BX v:=p;exact Nat.mul_lt_mul_of_lt_of_le (show max (BX u) 1<max (BX v) 1 by omega) X f
  | succ j=>exact Nat.mul_lt_mul_of_le_of_lt c (L ⟨j,by simpa using d,p⟩) (by omega)
variable {a b:Int}
def nu (h: ∀ s,tb a s=true -> tb b s=true):BX a<=BX b:=by
 unfold BX Bv;rw [←zIM,←zIM];exact List.countP_mono_left λs _=>h s
variable {s:Nat}
def yY (h: ∀ s,tb a s=true -> tb b s=true)(hs:s<16)(c:tb a s=false)(d:tb b s=true):BX a<BX b:=by
 unfold BX Bv;rw [←zIM,←zIM];exact Mf (a:=s) c d _ (λk _ hk=>h k hk) (zNU.2 ⟨by omega,by omega⟩)
def zJH (b:A4 q x)(g:A4 q p)(h:Le x p)(D:x≠p)(r:BI x=false):gp x<gp p:=by
 have e:x.length=p.length:=g.eqlen b;refine (uS x p e λj d=>⟨(X4 b d).2 (FA.1 r j d),nu λs a=>h j s a⟩).2 ?_;refine Classical.byContradiction λu=>D (Le.eq b g h λj s a=>?_)
 cases c:tb (x.getD j 0) s with
 | true=>rfl
 | false=>
  have d:j<x.length:=zGa λl=>by
   rw [zGH,zI5 (by omega)] at a;exact IG a
  have t:s<16:=zGa λl=>by
   rw [(g.sm16 j (by omega)).hi l] at a;cases a
  exact absurd ⟨j,d,yY (λs a=>h j s a) t c a⟩ u
def Gj.gp {l g:Ξ}(h:Gj q 4 p l g):A4 q p -> BI p=false -> (BI g=false -> l.length+gp g<=gp p)/\ l.length<=gp p:=by
 induction h with
 | done _=>exact λ_ _=>⟨λ_=>by simp,zIG _⟩
 | @step p x l g i hi e D _ b U=>
  intro a hd;have F:=a.pr hi.1 hi.2.1 e;cases N:BI x with
  | false=>
   obtain ⟨X,i2⟩:=U F N;have:=zJH F a e.le D N;exact ⟨λh=>by have:=X h;rw [zGp];omega,by rw [zGp];omega⟩
  | true=>
   have ez:=e.zero N;have M:Ih q (Up q 4) x:=by rw [ez];exact kR a.len256.1
   obtain ⟨w,z⟩:=b.uniq (.done M);subst w;subst z;exact ⟨λh=>(by rw [N] at h;cases h),QT p⟩
def f5 (a:A4 q p)(b:Qx q p 4 (o,0))(c:IA q 4 p x):(BI p=true/\ o= [])∨(BI p=false/\ Gj q 4 p o x):=by
 rcases b with ⟨h,_⟩ | ⟨_,h,e⟩ | ⟨_,h,_,_,g,j⟩
 ·exact absurd a.check h
 ·exact .inl ⟨h,congrArg Prod.fst e⟩
 ·refine .inr ⟨h,?_⟩;rcases c with ⟨r,_⟩ | ⟨_,d,A⟩
  ·rw [h] at r;cases r
  ·have e:x=g:=Dw.uniq dV a d j.down.1 A j.down.2;rw [e];exact j
def zD8: ∀ s:Nat,s<16 -> ((List.range' 0 16).filter λt=>decide (t=s)).length=1:=by decide
def zJJ (h:A4 q x)(l:c<x.length)(r:BI x=false)(a:s∈Bv (x.getD c 0) 0):gp (EC x c s)=gp (x.set c 1):=by
 have P:=YY h l s a;have hk:=h.k;obtain ⟨N,T⟩:=Wd h.valid h.ok l P
 have V:BI (Ed x c s)=false:=FA.2 λj d=>by
  rw [N] at d;refine (Ex (T j d).1).2 ?_
  by_cases e:j=c
  ·subst e;exact ⟨s,by omega,by rw [(T j d).2,(Hd.1 a).2];simp⟩
  ·obtain ⟨t,b,f⟩:=(Ex (h.in64 j)).1 (FA.1 r j d);exact ⟨t,b,by rw [(T j d).2,f,zFd e];rfl⟩
 have g:EC x c s=Ed x c s:=by unfold EC;rw [zGN (by rw [V];decide)]
 rw [g];have w:=WZ x c ((Ed x c s).getD c 0) l;have z:=WZ x c 1 l
 have w1:BX ((Ed x c s).getD c 0)=1:=by
  unfold BX Bv;rw [show (List.range' 0 (16-0))=List.range' 0 16 from rfl,List.filter_congr (q:=λt=>decide (t=s)) λt _=>?_]
  ·exact zD8 s (by omega)
  ·rw [(T c l).2,zEE rfl,zIA,zMO]
   by_cases e:t=s
   ·subst e;rw [(Hd.1 a).2];rfl
   ·rw [zFd e,zM1]
 have i:BX 1=1:=by decide
 have m:x.set c ((Ed x c s).getD c 0)=Ed x c s:=by
  unfold Ed;rw [QW l]
 rw [w1,m] at w;rw [i] at z;exact Nat.eq_of_mul_eq_mul_right (show 0<max (BX (x.getD c 0)) 1 by omega) (w.trans z.symm)
def Sr.size (h:Sr q m p l):A4 q p -> (m=none -> l.length+1<=3*gp p)/\
 (∀ c ss,m=some (c,ss) -> c<p.length -> BI p=false -> (∀ s∈ss,s∈Bv (p.getD c 0) 0) -> l.length+ss.length<=3*(ss.length*gp (p.set c 1))):=by
 induction h with
 | @dead p x o n f j=>
  refine λd=>⟨λ_=>?_,λ_ _ e=>(by cases e)⟩
  have:=QT p;rw [zGY,zGX,zIz];rcases f5 d n f with ⟨_,rfl⟩ | ⟨r,h⟩
  ·simp;omega
  ·have:=(h.gp d r).2;omega
 | @done p x o g n f j A=>
  refine λd=>⟨λ_=>?_,λ_ _ e=>(by cases e)⟩
  have:=QT p;rw [zGY,zGX,zIz];rcases f5 d n f with ⟨_,rfl⟩ | ⟨r,h⟩
  ·simp;omega
  ·have:=(h.gp d r).2;omega
 | @split p x o c l n f j A h5 v u _ U=>
  refine λd=>⟨λ_=>?_,λ_ _ e=>(by cases e)⟩
  have k:=(f.posn d).1;have i:=(U k).2 c _ rfl v j λs h=>h
  have z:=WZ x c 1 v;have y:BX 1=1:=by decide
  have u:2<=(Bv (x.getD c 0) 0).length:=u;have P:max (BX (x.getD c 0)) 1=(Bv (x.getD c 0) 0).length:=Nat.max_eq_left (zGK (by decide) u);rw [y,P,zI7,Nat.max_self,zIS] at z;rw [z] at i;rw [zGY,zGX,zGp];rcases f5 d n f with ⟨r,rfl⟩ | ⟨r,h⟩
  ·rcases f with ⟨_,rfl⟩ | ⟨C,_⟩
   ·rw [ki d.len256.1] at j;cases j
   ·rw [r] at C;cases C
  ·have:=(h.gp d r).1 j;omega
 | nil=>
  refine λ_=>⟨λe=>(by cases e),λc ss e=>?_⟩
  cases e;exact λ_ _ _=>by simp
 | @cons x c s ss a b _ _ B D=>
  refine λk=>⟨λe=>(by cases e),λc' oF e=>?_⟩
  cases e;intro t r w;have L:=w s zIL;have X:=(B (k.fx t (YY k t s L))).1 rfl;have i2:=(D k).2 c ss rfl t r λs h=>w s (zH5 _ h)
  rw [zJJ k t r L] at X;have e:(ss.length+1)*gp (x.set c 1)=ss.length*gp (x.set c 1)+gp (x.set c 1):=zMi _ _;rw [zGY,zGp,e];omega
end
abbrev zMr:=@Nat.zero_lt_one
abbrev zM2:=@List.mem_append_left
section
open Go.ChangeShapes Go.WideShapes Go.ChangeAt
def Mx (w:World)(cs:List Value)(l:List DV):Prop:=cs.length=l.length/\ ∀ j,j<l.length -> AJ (λ_=>False) w (l.getD j .any) [] (cs.getD j undef)
def Rd (P:Program)(t:TypeId)(m:Nat){α:Type}(c:α -> List DV):Prop:=(∀ x,(c x).length=m)/\ P.cellsOf t=m/\ ∀ {H:Type} (enc:TypeId×Value -> H) (w:World) (fuel:Nat) (cs:List Value) (x:DataW H×List MemPlace),DataW.trod enc P w 0 (λ_=>true) true fuel t cs=some x -> (∀ n∈x.1.weights P t,n<=reachBytes) -> ∃ y:α,Mx w cs (c y)
def mc {H:Type}{P:Program}{e:TypeId}: ∀ {l:List (DataW H)} {d:DataW H} {n:Nat},d∈l -> n∈d.weights P e -> n∈DataW.weightsAll P e l
 | [],_,_,h,_=>by cases h
 | a::l,d,n,h,u=>by
  unfold DataW.weightsAll;rcases zIq.1 h with rfl | h
  ·exact zM2 _ u
  ·exact zKA _ (mc h u)
section
variable {P:Program} {t e:TypeId} {m:Nat}
variable {v:Value}{w:World}
def Mx.one {d:DV}(h:AJ (λ_=>False) w d [] v):Mx w [v] [d]:=⟨rfl,λj hj=>by
 grind⟩
variable {cs:List Value}
def Mx.app {V:List Value}{l l':List DV}(h:Mx w cs l)(h':Mx w V l'):Mx w (cs++V) (l++l'):=by
 refine ⟨by simp [h.1,h'.1],λj d=>?_⟩;rcases zIW j l.length with hl | hl
 ·have:=h.2 j hl;have hc:j<cs.length:=by rw [h.1];exact hl
  grind
 ·have:=h'.2 (j-l.length) (by simp at d;omega);simp only [zGH] at this ⊢;rw [zH1 hl,zH1 (by rw [h.1];exact hl),h.1];exact this
theorem Rd.int {k:IntKind}(X:P.underlying t=some (.int k))(l:P.cellsOf t=1):Rd P t 1 (λn:Int=>[.int k n]):=⟨λ_=>rfl,l,λenc w fuel cs x h hw=>by
 obtain ⟨n,rfl,_⟩:=DataW.trod_int X h;exact ⟨n,.one rfl⟩⟩
variable {n:Nat}{a:Addr}
def vp (h:w.cells? 0 a n=some cs):cs.length=n/\ ∀ j,j<n -> w.cell? (a.add j)=some (cs.getD j undef):=by
 unfold World.cells? at h;rw [zEZ (zIG _)] at h;have m:cs.length=n:=by simpa using Lib.mapM_length h
 refine ⟨m,λj d=>?_⟩;obtain ⟨b,h1,h2⟩:=Lib.mapM_at h j j (by simp [d])
 grind
theorem zMC (h:w.cell? a=some v): ∃ b o,a=⟨b,o,none⟩:=by
 obtain ⟨b,o,r⟩:=a;cases r with
 | none=>exact ⟨b,o,rfl⟩
 | some r=>
  grind [World.cell?]
def xD (b o x:Nat):(⟨b,o,none⟩:Addr).add x=⟨b,o+x,none⟩:=by
 grind [Addr.add]
variable {α:Type}
def Rd.row [Inhabited α] {c:α -> List DV} (X:P.underlying t=some (.slice e)) (z:0<P.bytesOf e) (A:0<m) (J:Rd P e m c) {H:Type} (enc:TypeId×Value -> H) (w:World) (fuel:Nat) (cs:List Value) (x:DataW H×List MemPlace) (h:DataW.trod enc P w 0 (λ_=>true) true fuel t cs=some x) (U: ∀ n∈x.1.weights P t,n<=reachBytes):
 ∃ (L:List α) (a:Option Addr) (cap:Nat),cs= [.slice a L.length cap]/\ L.length<=cap/\ L.length<=LB/\ ∀ i j,i<L.length -> j<m -> ∃ b o u,a=some ⟨b,o,none⟩/\ w.cell? ⟨b,o+(i*m+j),none⟩=some u/\ AJ (λ_=>False) w ((c (L.getD i default)).getD j .any) [] u:=by
 rcases Deep.open_slice X h with ⟨rfl,_⟩ | ⟨a,len,cap,Z,n,D,Pl,rfl,_,V,QL,p,B,q⟩
 ·exact ⟨[],none,0,rfl,zGT _,zIG _,λi j hi=>absurd hi (zGR i)⟩
 ·simp only [zI6] at p;subst p;subst B
  have plain:0<len -> ∃ b o,a=⟨b,o,none⟩:=λh0=>by
   obtain ⟨r,g,_⟩:=q 0 (by omega);obtain ⟨C,s⟩:=vp g;have O:=s 0 (by rw [J.2.1];exact A)
   grind [Addr.add,zMC]
  have f: ∀ i,i<len -> ∃ y:α,∀ j,j<m -> ∃ b o u,a=⟨b,o,none⟩/\ w.cell? ⟨b,o+(i*m+j),none⟩=some u/\ AJ (λ_=>False) w ((c y).getD j .any) [] u:=λi hi=>by
   obtain ⟨r,g,E⟩:=q i (by omega)
   obtain ⟨y,h3,F⟩:=J.2.2 enc w n r _ E λk hk=>U k (by
    simp only [DataW.weights,X];refine zH5 _ (zM2 _ (mc (d:=D i) ?_ hk))
    grind)
   obtain ⟨C,s⟩:=vp g;obtain ⟨b,o,rfl⟩:=plain (by omega);refine ⟨y,λj l=>?_⟩;have O:=s j (by rw [J.2.1];exact l);refine ⟨b,o,_,rfl,?_,F j (by rw [J.1];exact l)⟩;rw [←O,J.2.1,xD,xD,zMc]
  have v: ∃ L:List α,L.length=len/\ ∀ i,i<len -> ∀ j,j<m -> ∃ b o u,a=⟨b,o,none⟩/\ w.cell? ⟨b,o+(i*m+j),none⟩=some u/\ AJ (λ_=>False) w ((c (L.getD i default)).getD j .any) [] u:=by
   refine ⟨(List.range len).map λi=>if hi:i<len then (f i hi).choose else default,by simp,λi hi=>?_⟩
   grind
  obtain ⟨L,rfl,v⟩:=v;refine ⟨L,some a,_,rfl,V,?_,λi j hi l=>?_⟩
  ·have hk:=U ((L.length+(Z-L.length))*P.bytesOf e) (by
    grind [DataW.weights])
   have g:=Nat.le_mul_of_pos_right (L.length+(Z-L.length)) z
   grind [reachBytes,LB]
  grind
def Rd.rows [Inhabited α] {c:α -> List DV} (X:P.underlying t=some (.slice e)) (l:P.cellsOf t=1) (b:0<P.bytesOf e) (v:0<m) (J:Rd P e m c):Rd P t 1 (λL:List α=>[.sl m L.length (AK c L)]):=⟨λ_=>rfl,l,λenc w fuel cs x h U=>by
 obtain ⟨L,a,cap,rfl,d,f,h3⟩:=Rd.row X b v J enc w fuel cs x h U;refine ⟨L,Mx.one ⟨a,cap,rfl,d,f,λi j hi hj=>?_⟩⟩
 grind⟩
def Rd.ints (X:P.underlying t=some (.slice e))(l:P.cellsOf t=1)(c:0<P.bytesOf e)(J:P.underlying e=some (.int .i64))(W:P.cellsOf e=1):Rd P t 1 AP:=⟨λ_=>rfl,l,λenc w fuel cs x h U=>by
 obtain ⟨L,a,cap,rfl,d,f,g⟩:=Rd.row X c (zMr) (Rd.int J W) enc w fuel cs x h U;refine ⟨L,.one ⟨a,cap,rfl,d,f,λj i=>?_⟩⟩;obtain ⟨b,o,u,k,s,O⟩:=g j 0 i zMr;refine ⟨b,o,k,λh=>h,?_⟩;have:u= .int .i64 (L.getD j 0):=O;rw [←this,←s];simp⟩
def FC (P:Program):List Field -> Nat -> Nat -> {α:Type} -> (α -> List DV) -> Prop:=λm o n {α} c=>∀ (H:Type) (enc:TypeId×Value -> H) (w:World) (fuel:Nat) (cs:List Value) (xs:List (DataW H×List MemPlace)),cs.length=n -> (m.mapM λf=>DataW.trod enc P w 0 (λ_=>true) true fuel f.type ((cs.drop f.offset).take (P.cellsOf f.type)))=some xs -> (∀ k∈DataW.weightsEach P (m.map (·.type)) (xs.map (·.1)),k<=reachBytes) -> ∃ y:α,Mx w (cs.drop o) (c y)
variable {o:Nat}
def FC.nil (ho:n=o):FC P [] o n (λ_:Unit=>[]):=λ_ enc w fuel cs xs hl _ _=>⟨(),by rw [List.drop_of_length_le (by omega)];exact ⟨rfl,λj d=>absurd d (zGR j)⟩⟩
variable {β:Type}
def FC.cons {c:α -> List DV}{S:β -> List DV}{f:Field}{b:List Field}(d:f.offset=o)(M:Rd P f.type m c)(j:FC P b (o+m) n S):FC P (f::b) o n (λx:α×β=>c x.1++S x.2):=λ_ enc w fuel cs xs g h U=>by
 rw [List.mapM_cons] at h;obtain ⟨a,D,h⟩:=Option.bind_eq_some_iff.1 h;obtain ⟨ys,X,e⟩:=Option.bind_eq_some_iff.1 h;cases e;obtain ⟨y,i⟩:=M.2.2 enc w fuel _ a D λk hk=>U k (by grind [DataW.weightsEach])
 obtain ⟨z,l⟩:=j _ enc w fuel cs ys g X λk hk=>U k (by grind [DataW.weightsEach])
 refine ⟨(y,z),?_⟩
 have:cs.drop o=(cs.drop f.offset).take (P.cellsOf f.type)++cs.drop (o+m):=by
  rw [d,M.2.1,←List.drop_drop]
  grind [List.take_append_drop]
 rw [this];exact i.app l
def Rd.struct {c:α -> List DV}{S:β -> List DV}{a:Array Field}(X:P.underlying t=some (.struct a))(l:P.cellsOf t=m)(j:FC P a.toList 0 m c)(g:α -> β)(hg: ∀ x,c x=S (g x))(v: ∀ x,(S x).length=m):Rd P t m S:=⟨v,l,λenc w fuel cs x h U=>by
 cases fuel with
 | zero=>simp [DataW.trod] at h
 | succ fuel=>
  unfold DataW.trod at h;rw [X] at h;simp only at h;split at h
  ·rename_i b;obtain ⟨xs,I,e⟩:=zIO.1 h;subst e;obtain ⟨y,hy⟩:=j _ enc w fuel cs xs (by rw [b,l]) I λk hk=>U k (by simp only [DataW.weights,X];exact hk)
   grind
  ·cases h⟩
end
end
section
open Go.ChangeShapes Go.WideShapes Go.ChangeAt
def Jd (P:Program)(t:TypeId){α:Type}(d:α -> DV):Prop:=∀ {H:Type} (enc:TypeId×Value -> H) (w:World) (u:Nat) (v:Value) (x:DataW H) (V:List MemPlace),Value.okWide P w .any u t v -> DataW.Trod enc P w 0 (λ_=>true) true t v x V -> (∀ n∈x.weights P t,n<=reachBytes) -> ∃ y:α,AJ (λ_=>False) w (d y) [] v
section
variable {P:Program} {t e:TypeId}
variable {α:Type}
def Jd.one {c:α -> List DV}(X:P.underlying t=some (.slice e))(h:Rd P t 1 c):Jd P t (λx=>(c x).getD 0 .any):=λenc w ED v x ps n ⟨fuel,b⟩ U=>by
 obtain ⟨a,len,cap,rfl⟩:=okWide_slice X n;obtain ⟨y,h1,d⟩:=h.2.2 enc w fuel _ _ b U;exact ⟨y,by simpa [Value.cells] using d 0 (by rw [h.1];exact zMr)⟩
def Jd.agg {m:Nat}{c:α -> List DV}{f:Array Field}(X:P.underlying t=some (.struct f))(h:Rd P t m c):Jd P t (λx=>.agg m (L1 (c x))):=λenc w ED v x ps n ⟨fuel,g⟩ U=>by
 obtain ⟨cs,rfl,EM⟩:=okWide_struct X n;obtain ⟨y,i,k⟩:=h.2.2 enc w fuel _ _ g U;have a:(c y).length=m:=h.1 y
 have b:cs.size=m:=by
  have:cs.toList.length=(c y).length:=i;simpa [a] using this
 refine ⟨y,cs,rfl,b,λj d=>?_⟩;have:=k j (by rw [a];exact d);refine ⟨cs[j]'(by omega),by simp [b,d],?_⟩
 have e:(Value.agg cs).cells.toList.getD j undef=cs[j]'(by omega):=by
  show cs.toList.getD j undef=_
  grind
 rw [e] at this;exact this
def Lj (P:Program)(d:List TypeId){α:Type}(ds:α -> List DV):Prop:=∀ {H:Type} (enc:TypeId×Value -> H) (w:World) (u:Nat) (vs:List Value) (xs:List (DataW H)) (V:List MemPlace),(∀ (j:Nat) t v,d[j]? =some t -> vs[j]? =some v -> Value.okWide P w .any u t v) -> DataW.TrodAll enc P w 0 (λ_=>true) true d vs xs V -> (∀ n∈DataW.weightsEach P d xs,n<=reachBytes) -> ∃ y:α,(ds y).length=vs.length/\ ∀ j,j<vs.length -> AJ (λ_=>False) w ((ds y).getD j .any) [] (vs.getD j undef)
def Lj.nil:Lj P [] (λ_:Unit=>[]):=λenc w ED vs xs ps _ h _=>by
 obtain ⟨rfl,_,_⟩:=trodAll_nil h
 simp_all
def Lj.cons {β:Type}{d:α -> DV}{ds:β -> List DV}{c:List TypeId}(h:Jd P t d)(f:Lj P c ds):Lj P (t::c) (λx:α×β=>d x.1::ds x.2):=λenc w u vs xs ps e h0 U=>by
 obtain ⟨v,g,x,i,p,q,rfl,rfl,rfl,k,l⟩:=trodAll_cons h0;obtain ⟨y,hy⟩:=h enc w u v x p (e 0 t v rfl rfl) k λn m=>U n (by grind [DataW.weightsEach])
 obtain ⟨z,o,hz2⟩:=f enc w u g i q (λj N r a b=>e (j+1) N r (by simpa using a) (by simpa using b)) l λn m=>U n (by grind [DataW.weightsEach])
 refine ⟨(y,z),by simp [o],λj hj=>?_⟩
 grind
variable {W o:World}{H:Type}
def my {enc:TypeId×Value -> H}(m:laidOutB P=true)(C:A0 W o): ∀ {d:List TypeId} {vs:List Value} {ds:List (DataW H)} {V:List MemPlace},(∀ t∈d,P.readableRec t=true/\ t<P.types.size) -> DataW.TrodAll enc P W 0 (λ_=>true) true d vs ds V -> (∀ x∈V,x.block<W.heap.size) -> DataW.TrodAll enc P o 0 (λb=>decide (b<W.heap.size)) true d vs ds V
 | [],_,_,_,_,h,_=>by
  obtain ⟨rfl,rfl,rfl⟩:=trodAll_nil h;rfl
 | t::d,_,_,_,i,h,a=>by
  obtain ⟨v,Bz,x,mL,p,q,rfl,rfl,rfl,c,f⟩:=trodAll_cons h;exact ⟨p,q,Below.trod m (i t (by simp)).1 (i t (by simp)).2 c C λx e=>a x (zM2 _ e),my m C (λt X=>i t (by simp [X])) f λx e=>a x (zKA _ e),rfl⟩
variable {tb:TypeId}{args:Array Value}{s:ChangeSpec}{f:Func}
def zDW {enc:TypeId×Value -> H}{ds gs:List (DataW H)}{b:List MemPlace}(m:laidOutB P=true)(i: ∀ t∈f.params.toList,P.readableRec t=true/\ t<P.types.size)(C:A0 W o) 
 (w:DataW.Whole enc P f.params.toList s.vars false W args.toList ds gs b) (a:s.vars= []) (j:s.fn H (ds++gs)= { results:=[.lit (.bool true)],args:=ds }) (Y:f.resultTypes= #[tb]) (Z:P.underlying tb=some .bool):
 s.post enc P f false true false false W args (.bool true) o:=by
 have v:=w;have c:=w.lt;obtain ⟨p,q,A,J,rfl,Hj,BB⟩:=w;rw [a] at J;obtain ⟨rfl,rfl⟩:=trodVars_none J;have d:=my m C i A λx e=>c x (zM2 _ e)
 refine ⟨ds,[],p++[],[],p,[],v,?_,?_,?_,World.keptBut_mono (λx e=>⟨e,.inr (.inl (by simpa using e))⟩) (Below.frame C (· ∈p++[])),λh=>by cases h⟩
 ·rw [j,Y];exact trodAll_mk1 (shut_bool Z true)
 ·rw [j];exact d
 ·rw [a,j];rfl
def zFL {enc:TypeId×Value -> H}{Γ:Au}{z:Nat}{u:Nat}{ds gs:List (DataW H)}{k:List MemPlace}{dv:α -> List DV}(m:laidOutB P=true)(l: ∀ t∈f.params.toList,P.readableRec t=true/\ t<P.types.size) 
 (c:Lj P f.params.toList dv) (r: ∀ (w:World) (y:α),(∀ j,AJ (λ_=>False) w ((dv y).getD j .any) [] (args.getD j undef)) -> ES P Γ z (dv y) [] (.bool true) [] true)
 (B: ∀ (j:Nat) t v,f.params[j]? =some t -> args[j]? =some v -> Value.okWide P W .any u t v) (h:DataW.Whole enc P f.params.toList s.vars false W args.toList ds gs k) (x:s.vars= []) (C:s.fn H (ds++gs)= { results:=[.lit (.bool true)],args:=ds }) (Y:f.resultTypes= #[tb]) (Z:P.underlying tb=some .bool)
 (BK:(DataW.weightsEach P f.params.toList ds).all (· <=reachBytes)=true) (D:Γ.gi W):Calls P z args W λe o=>∃ v,e= .returned v/\ s.post enc P f false true false false W args v o:=by
 have E:=h;obtain ⟨p,q,F,hV,rfl,Hj,BB⟩:=h
 obtain ⟨y,I,h2⟩:=c enc W u args.toList ds p (λj t v a b=>B j t v (by simpa using a) (by simpa using b)) F λn hn=>by
  grind
 have N:(dv y).length=args.size:=by simpa using I
 have A: ∀ j,AJ (λ_=>False) W ((dv y).getD j .any) [] (args.getD j undef):=λj=>by
  rcases zIW j args.size with hj | hj
  ·simp_all
  ·have:(dv y).getD j .any= .any:=by grind
   rw [this];trivial
 refine ((r W y A).2 (λ_=>False) [] W args (Sc (λb d=>d.elim) D) ⟨N,λi hi=>?_⟩).mono ?_
 ·exact AJ.out _ (D5 (λb d=>Qz.1 d) []) (A i)
 ·rintro e o ⟨v,rfl,G⟩;obtain ⟨ρ',_,g,_⟩:=G.ex;have g:v= .bool true:=g;subst g;exact ⟨_,rfl,zDW m l (G.ext rfl) E x C Y Z⟩
end
end
section
open Go.ChangeShapes Go.WideShapes Go.ChangeAt
def own:ownKnob Tryz.prog.godebug=none:=by kernel_rfl
def zFT:laidOutB Tryz.prog=true:=by kernel_rfl
def zLN:0<Tryz.prog.bytesOf 3:=zIa (by kernel_rfl)
def L2:Rd Tryz.prog 3 1 (λn:Int=>[.int .i64 n]):=Rd.int Tryz.underlying3 (by kernel_rfl)
def VD:Rd Tryz.prog 22 1 AP:=Rd.ints Tryz.underlying22 (by kernel_rfl) zLN Tryz.underlying3 (by kernel_rfl)
def zC1:Rd Tryz.prog 23 1 (λL:List Ξ=>[.sl 1 L.length (AK AP L)]):=Rd.rows Tryz.underlying23 (by kernel_rfl) (zIa (by kernel_rfl)) zMr VD
set_option maxRecDepth 100000 in
def zC4:Rd Tryz.prog 53 9 BY:=by
 refine Rd.struct Tryz.underlying53 (by kernel_rfl)
  (FC.cons rfl L2<|FC.cons rfl VD<|FC.cons rfl L2<|FC.cons rfl L2<|FC.cons rfl L2<|FC.cons rfl L2<|FC.cons rfl VD<|FC.cons rfl L2<|FC.cons rfl L2<|FC.nil rfl)
  (λx:Int×Ξ×Int×Int×Int×Int×Ξ×Int×Int×Unit=>(⟨x.1,x.2.1,x.2.2.1,x.2.2.2.1,x.2.2.2.2.1,x.2.2.2.2.2.1,x.2.2.2.2.2.2.1,x.2.2.2.2.2.2.2.1,x.2.2.2.2.2.2.2.2.1⟩:AD)) ?_ (λ_=>rfl)
 intro x;rfl
def zC3:Rd Tryz.prog 24 1 (λL:List AD=>[.sl 9 L.length (AK BY L)]):=Rd.rows Tryz.underlying24 (by kernel_rfl) (zIa (by kernel_rfl)) (by decide) zC4
set_option maxRecDepth 100000 in
def zC2:Rd Tryz.prog 26 5 AH:=by
 refine Rd.struct Tryz.underlying26 (by kernel_rfl)
  (FC.cons rfl L2<|FC.cons rfl L2<|FC.cons rfl VD<|FC.cons rfl zC1<|FC.cons rfl zC3<|FC.nil rfl)
  (λx:Int×Int×Ξ×List Ξ×List AD×Unit=>(⟨x.1,x.2.1,x.2.2.1,x.2.2.2.1,x.2.2.2.2.1⟩:AA)) ?_ (λ_=>rfl)
 intro x;rfl
def zBd:Jd Tryz.prog 26 (λq:AA=>.agg 5 (L1 (AH q))):=Jd.agg Tryz.underlying26 zC2
def zBe:Jd Tryz.prog 22 (λl:Ξ=>.ints l):=Jd.one Tryz.underlying22 VD
def DK.of {M:Ψ}{w:World}{ρ:List AI}{q:AA}{v:Value}(h:AJ M w (.agg 5 (L1 (AH q))) ρ v):DK q:=by
 obtain ⟨cs,_,_,l⟩:=h
 have row: ∀ {α:Type} [Inhabited α] {m:Nat} {c:α -> List DV} {L:List α} {u:Value},0<m -> AJ M w (.sl m L.length (AK c L)) ρ u -> ∀ x∈L,∀ j,j<m -> ∃ u,AJ M w ((c x).getD j .any) [] u:=by
  intro α _ m c L u hm ⟨a,cap,_,_,_,g⟩ x k j n;obtain ⟨i,hi,rfl⟩:=zGt k;obtain ⟨b,o,u,_,_,_,d⟩:=g i j hi n;refine ⟨u,?_⟩;have e:L.getD i default=L[i]:=by simp [hi]
  have d:AJ M w ((c (L.getD i default)).getD j .any) [] u:=d;rw [e] at d;exact d
 refine ⟨?_,λr d=>?_,λc f=>?_,λc f=>?_⟩
 ·obtain ⟨u,_,p⟩:=l 2 (by decide);exact Vr p
 ·obtain ⟨u,_,s⟩:=l 3 (by decide);obtain ⟨u,h⟩:=row (c:=AP) (L:=q.nbrs) zMr s r d 0 zMr;exact Vr h
 ·obtain ⟨u,_,A⟩:=l 4 (by decide);obtain ⟨u,h⟩:=row (c:=BY) (L:=q.cons) (by decide) A c f 1 (by decide);exact Vr h
 ·obtain ⟨u,_,A⟩:=l 4 (by decide);obtain ⟨u,h⟩:=row (c:=BY) (L:=q.cons) (by decide) A c f 6 (by decide);exact Vr h
def ud:Tryz.prog.globalNamed "math/bits.deBruijn64tab" =some 1:=by kernel_rfl
def zJP:(Tryz.prog.globals[1]?).map (·.type)=some 194:=by kernel_rfl
abbrev iA {H:Type}:List (String×DataW H):=[("math/bits.deBruijn32tab",Rows.laid_math_bits_deBruijn32tab),("math/bits.deBruijn64tab",Rows.laid_math_bits_deBruijn64tab)]
variable {W:World}
def yX (h:laidMetH Tryz.prog iA W):Lib.TabIs Tryz.prog W "math/bits.deBruijn64tab" .u8 (Lib.deBruijn64tab.map Int.ofNat):=
 Lib.tabIs_of_head (rest:=[]) ud zJP Tryz.underlying194 Tryz.underlying5 (by kernel_rfl) (by kernel_rfl) (laidMet.tail (show laidMet Tryz.prog iA W from h))
def yW (h:laidMetH Tryz.prog iA W):GG.gi W:=by
 have T:=yX h;have c: ∀ j,j<64 -> W.cell? ⟨1,j,none⟩=some (.int .u8 ((Lib.deBruijn64tab.map Int.ofNat).getD j 0)):=λj d=>T.cell ud j (by rw [zGX];exact d)
 refine ⟨λj d=>?_,?_⟩
 ·have d:j<64:=d;rw [c j d]
  have:(Lib.deBruijn64tab.map Int.ofNat).getD j 0=((Lib.deBruijn64tab.getD j 0:Nat):Int):=by
   have m:j<Lib.deBruijn64tab.length:=d;simp [zGH,m]
  rw [this]
 ·have:=zIb W _ (c 0 (by decide));exact this
def sL (l:Θ)(o:Obj):Obj:=match o with
 | .cells _ t frozen=>.cells (l.map λn=>Value.int .u8 (Int.ofNat n)).toArray t frozen
 | o=>o
noncomputable def g9 (os:Os):World:= { World.holding Tryz.prog os ⟨#[],#[],[]⟩ with heap:=((World.holding Tryz.prog os ⟨#[],#[],[]⟩).heap.modify 0 (sL Lib.deBruijn32tab)).modify 1 (sL Lib.deBruijn64tab) }
def ZN:Value:=.agg #[.int .i64 0,.int .i64 0,.slice none 0 0,.slice none 0 0,.slice none 0 0]
end
section
open Go.ChangeShapes Go.WideShapes Go.ChangeAt
def W8:Type:={n:Int//0<=n/\ n<256}
def Jd.u8 {P:Program}{t:TypeId}(X:P.underlying t=some (.int .u8)):Jd P t (λn:W8=>.int .u8 n.1):=λenc w ED v x ps a ⟨fuel,b⟩ hw=>by
 obtain ⟨n,rfl⟩:=okWide_int X a;obtain ⟨W,e,u⟩:=DataW.trod_int X b;have e:n=W:=by simpa [Value.cells] using e
 subst e;have u:(decide ((0:Int)<=n)&&decide (n<=255))=true:=u.2;simp only [zEh,zHx] at u;exact ⟨⟨n,by omega⟩,rfl⟩
structure Oh (q:AA):Prop where
 nbrs:q.nbrs.length<=LB
 cons:q.cons.length<=LB
def Oh.of {M:Ψ}{w:World}{ρ:List AI}{q:AA}{v:Value}(h:AJ M w (.agg 5 (L1 (AH q))) ρ v):Oh q:=by
 obtain ⟨cs,_,_,l⟩:=h;have row: ∀ {m k:Nat} {f:Nat -> Nat -> DV} {u:Value},AJ M w (.sl m k f) ρ u -> k<=LB:=λ⟨_,_,_,_,h,_⟩=>h
 obtain ⟨_,_,a⟩:=l 3 (by decide);obtain ⟨_,_,A⟩:=l 4 (by decide);exact ⟨row a,row A⟩
end
section
variable {q:AA}
def kX (Q:DK q)(a:Oh q): ∀ (k j:Nat) (x:Int),j+k=q.cons.length -> 0<=x -> x<=562949953421312 -> ∃ b,Ev (λn=>Gf q n (.l2 x (j:Int))) b/\ (b=true -> q.cells<=16/\ q.symbols<=4)
 | 0,j,x,e,h0,d=>by
  refine ⟨decide (x<200)&&(decide (q.cells<=16)&&decide (q.symbols<=4)),Ev.one λn=>?_,λh=>?_⟩
  ·show ON n (Gf q n) q x (j:Int)=_
   unfold ON
   grind
  grind
 | k+1,j,x,e,h0,d=>by
  have hj:j<q.cons.length:=by omega
  have hb:LB=140737488355328:=rfl;have hc:=a.cons
  have v:q.cons.getD j default∈q.cons:=by
   grind
  have c1:=Q.cells _ v;have c2:=Q.runs _ v
  by_cases c:x<200
  ·obtain ⟨b,i,W⟩:=kX Q a k (j+1) (x+((((q.cons.getD j default).cells.length:Nat):Int)+(((q.cons.getD j default).runs.length:Nat):Int))) (by omega) (by omega) (by omega)
   by_cases f:(q.cons.getD j default).kind=5/\ 9<(q.cons.getD j default).cells.length
   ·refine ⟨false,Ev.one λn=>?_,λh=>by cases h⟩
    show ON n (Gf q n) q x (j:Int)=_
    unfold ON;rw [zEE (by omega),zFR,zEE c,zFR];simp only [zCg];rw [zEZ (by grind [Aj]),show ((q.cons.getD j default).kind==5)=true from zGk.2 f.1,zFR,zEE (by omega),zFR]
   ·refine ⟨b,AV.ev (m:=Gf q) (AV.one λn=>?_) i,W⟩
    show ON n (Gf q n) q x (j:Int)=_
    unfold ON;rw [zEE (by omega),zFR,zEE c,zFR];simp only [zCg];rw [zEZ (by grind [Aj])];simp only [zEZ (show AG ((j:Int)+1) from Aj.2 ⟨by omega,by omega⟩)]
    grind
  simp_all [Ev.one,ON,Gf,zFd]
def uu (Q:DK q)(a:Oh q): ∀ (k j:Nat) (x:Int),j+k=q.nbrs.length -> 0<=x -> x<=562949953421312 -> ∃ b,Ev (λn=>Gf q n (.l1 x (j:Int))) b/\ (b=true -> q.cells<=16/\ q.symbols<=4)
 | 0,j,x,e,h0,c=>by
  obtain ⟨b,i,W⟩:=kX Q a q.cons.length 0 x (by omega) h0 c;refine ⟨b,AV.ev (m:=Gf q) (AV.one λn=>?_) i,W⟩
  simp_all [Wq,Gf]
 | k+1,j,x,e,h0,c=>by
  have hj:j<q.nbrs.length:=by omega
  have hb:LB=140737488355328:=rfl;have hc:=a.nbrs
  have v:q.nbrs.getD j []∈q.nbrs:=by
   grind
  have c1:=Q.nbrs _ v
  by_cases d:x<200
  ·obtain ⟨b,i,W⟩:=uu Q a k (j+1) (x+(((q.nbrs.getD j []).length:Nat):Int)) (by omega) (by omega) (by omega);refine ⟨b,AV.ev (m:=Gf q) (AV.one λn=>?_) i,W⟩
   show Wq n (Gf q n) q x (j:Int)=_
   unfold Wq;rw [zEE (by omega),zFR,zEE d,zFR];simp only [zCg];rw [zEZ (by grind [Aj]),show ((j+1:Nat):Int)=(j:Int)+1 by omega]
  ·obtain ⟨b,i,W⟩:=kX Q a q.cons.length 0 x (by omega) h0 c;refine ⟨b,AV.ev (m:=Gf q) (AV.one λn=>?_) i,W⟩
   simp_all [Wq,Gf,zFd]
def zJt (Q:DK q)(a:Oh q): ∃ b,Ev (λn=>bk n q) b/\ (b=true -> q.cells<=16/\ q.symbols<=4):=by
 have hb:LB=140737488355328:=rfl;have c1:=Q.values;have c2:=a.nbrs;have c3:=a.cons;obtain ⟨b,i,W⟩:=uu Q a q.nbrs.length 0 ((q.values.length:Int)+(q.nbrs.length:Int)+(q.cons.length:Int)) (by omega) (by omega) (by omega);refine ⟨b,i.eq λn=>?_,W⟩;unfold bk uw;rw [zEZ (by simp only [Aj];omega)];rfl
end
end Go.Proofs.YtodinaconebmdaaGreatDoor
