/- Part 7 of 8 of what the proofs of these laws stand on. -/
import Derived.Test.YtnkpdcmbppkkpaaGreatDoorPnF
set_option linter.all false
open And renaming intro->γ
open Bool renaming true->D,false->T
open Decidable renaming decide->C
open Eq renaming refl->φ
open Go renaming Program->ν
open Go.Fence renaming wide->η
open Go.Proofs.Tryz renaming prog->L
open Inhabited renaming default->ξ
open List renaming length->F,getD->H,replicate->d,range->θ
open Nat.le renaming refl->χ
open Option renaming none->A,some->Z
open _root_ renaming cond->B,Nat->E,Option->M,List->O,Int->U,ite->u,Bool->ζ,absurd->τ,Array->υ
namespace Go.Proofs.YtnkpdcmbppkkpaaGreatDoor
open Go.RowKit
section
set_option maxRecDepth 100000
set_option maxHeartbeats 40000000
def uD(n:E)(h V:U):X9:=u (0<=V/\V<=(IntKind.i64.bits:U)) (Z<|bits .and .i64 (h/2^(V).toNat) 1==1) A
def HQ(n:E)(h V:U):X9:=uD n h V
variable{V:U}{n:E}
def P5{a:U}{r:ζ}(h:HQ n a V=Z r):EQ 160 [.i a,.i V] [] (.bool r) [] D:=by
 refine ot Tryz.func160 λϜ N=>?_
 revert r;apply gO;exact gi<|lE AC [4] []
def tw(n:E)(lost:Ξ)(cell h:U):W6:=u ((True/\(0=0/\0=F ([]:Ξ))/\F ([]:Ξ)+F lost<=Aw)/\(0<=cell/\cell<((F ([]:Ξ)+F lost:E):U))/\0+cell.toNat<F (([]:Ξ)++lost)) (u (F ([]:Ξ)+F lost=F ((([]:Ξ)++lost).set (0+cell.toNat)<|bits .or .i64 (H (([]:Ξ)++lost) (0+cell.toNat) 0) h)) (Z<|(([]:Ξ)++lost).set (0+cell.toNat)<|bits .or .i64 (H (([]:Ξ)++lost) (0+cell.toNat) 0) h) A) A
def Fc(n:E)(lost:Ξ)(cell h:U):W6:=tw n lost cell h
variable{r:Ξ}{cell:U}
def Kt{lost:Ξ}{a:U}(h:Fc n lost cell a=Z r):EQ 157 [.ints lost,.i cell,.i a] [] (.ints r) [] D:=by
 refine ot Tryz.func157 λϜ N=>?_
 revert r;apply gO;exact gc<|gi<|gc<|gn λs=>jg s<|gn λy=>jg y<|jg s<|jg y<|gn λb=>lF λp=>ez AC [6] [1] p [0]<|H0.g b
def zDo:Ac (Ah Tryz.f121 11) [] (θ 16) []:=Z0
def zDn:Ac (Ah Tryz.f121 12) [([0,1,2,3,4,5,6,7],8)] [9] []:=Z0
def L8:BG:=λi=>match i with
 |11=>.ord [] (θ 16) []
 |12=>.ord [([0,1,2,3,4,5,6,7],8)] [9] []
 |_=>.no
inductive TB where
 |l1 (x7:Ξ) (x8:U)
 |l2 (x7:Ξ) (x8 x9:U)
 |l3 (x7:Ξ) (x8 x9 x10:U)
def kF(n:E)(self:TB->W6)(q:AA)(g:AD)(pos:Ξ)(J:Ξ)(x8:U):W6:=B (C<|x8<(F g.ce:U)) (self<|.l2 J x8 0)<|Z J
def bR(n:E)(self:TB->W6)(q:AA)(g:AD)(pos:Ξ)(J:Ξ)(x8 Y:U):W6:=B (C<|Y<(F g.ce:U)) (self<|.l3 J x8 Y 0)<|u (AG<|x8+1) (self<|.l1 J<|x8+1) A
def Nv(n:E)(self:TB->W6)(q:AA)(g:AD)(pos:Ξ)(J:Ξ)(x8 Y x10:U):W6:=B (C<|x10<q.sy) (B (x8 != Y) (u ((0<=Y/\Y<(F g.ce:U))/\(0<=H g.ce Y.toNat 0/\H g.ce Y.toNat 0<(F pos:U))/\(0<=x10/\x10<=(IntKind.i64.bits:U))) (B (H pos (H g.ce Y.toNat 0).toNat 0==(IntKind.i64.wrap<|1*2^(x10).toNat)) (u (0<=x8/\x8<(F g.ce:U)) ((Fc n J (H g.ce x8.toNat 0)<|IntKind.i64.wrap<|1*2^(x10).toNat).bind λe=>u (AG<|x10+1) (self<|.l3 e x8 Y<|x10+1) A) A)<|u (AG<|x10+1) (self<|.l3 J x8 Y<|x10+1) A) A)<|u (AG<|x10+1) (self<|.l3 J x8 Y<|x10+1) A)<|u (AG<|Y+1) (self<|.l2 J x8<|Y+1) A
def uJ(n:E)(self:TB->W6)(q:AA)(c_:AD)(pos:Ξ):W6:=u (F pos=F (d (F pos) (0:U))/\(((F pos:U):U)=(F pos:U)/\0<=(F pos:U)/\((F pos:U):U)<=1000000000000)) (self<|.l1 (d (F pos) (0:U)) 0) A
def Ff(q:AA)(g:AD)(pos:Ξ):E->TB->W6
 |0,_=>A
 |n+1,.l1 J x8=>kF n (Ff q g pos n) q g pos J x8
 |n+1,.l2 J x8 Y=>bR n (Ff q g pos n) q g pos J x8 Y
 |n+1,.l3 J x8 Y x10=>Nv n (Ff q g pos n) q g pos J x8 Y x10
def bT(n:E)(q:AA)(g:AD)(pos:Ξ):W6:=uJ n (Ff q g pos n) q g pos
def zHN(n Ϝ:E)(N:Yd 0)(q:AA)(g:AD)(pos:Ξ)(r:Ξ):TB->Prop:=px n Ϝ η N (FQ Tryz.f121 0 (.ints r) []) (Af Tryz.f121) λ
 | .l1 J x8=>(0,0,AI 60 [(2,.ints pos),(3,.ref 0 0),(4,.ref 1 0),(7,.ints J),(8,.i x8)],[oC<|AJ q,oC<|AW g])
 | .l2 J x8 Y=>(1,2,AI 60 [(2,.ints pos),(3,.ref 0 0),(4,.ref 1 0),(7,.ints J),(8,.i x8),(9,.i Y)],[oC<|AJ q,oC<|AW g])
 | .l3 J x8 Y x10=>(2,4,AI 60 [(2,.ints pos),(3,.ref 0 0),(4,.ref 1 0),(7,.ints J),(8,.i x8),(9,.i Y),(10,.i x10)],[oC<|AJ q,oC<|AW g])
def zHO(Ϝ:E)(N:Yd 0)(q:AA)(g:AD)(pos:Ξ):Al (Ff q g pos) (zHN · Ϝ N q g pos):=ia (λ_=>rfl) λn G s r h=>by
 cases s
 case l1 x7 x8=>
  intro o j;refine rd j λo j=>?_
  revert r;apply gO;exact bi 18 (lN L8 [0,1] (G _ _ · o n j χ))<|lE L8 [6] []
 case l2 x7 x8 x9=>
  intro o w j z;have j:=zCG j;refine rd z λw z=>?_
  revert r;apply gO;exact bi 25 (lN L8 [0,1] (G _ _ · o w n j z χ)) (gw 20 (lG L8 [0,1] (G _ _ · o j)))
 case l3 x7 x8 x9 x10=>
  intro o w y j z S;have j:=zCG j;have z:=zCG z;refine rd S λy S=>?_
  revert r;apply gO;exact bi 31 (jg zDo (bi 36 (gc (gi (gc (gi (gn λa=>jg a (bi 48 (jg zDn (gi (jg a (cf Kt [oC<|AJ q,oC<|AW g] λ_=>gw 33 (lG L8 [0,1] (G _ _ · o w y j z S)))))) (gw 33 (lG L8 [0,1] (G _ _ · o w y j z S))))))))) (gw 33 (lG L8 [0,1] (G _ _ · o w y j z S))))) (gw 27 (lG L8 [0,1] (G _ _ · o w j z)))
variable{pos:Ξ}{g:AD}{q:AA}
def zHL(h:bT n q g pos=Z r):EQ 121 [.agg 5<|L1<|AJ q,.agg 9<|L1<|AW g,.ints pos] [] (.ints r) [] D:=by
 refine ot Tryz.func121 λϜ N=>?_
 revert r;apply gO;exact gc (gn λj=>gi (jz 13 2 (jg j (lN L8 [0,1] ((zHO Ϝ N q g pos n) _ _ · n χ)))))
def zDq:Ac (Ah Tryz.f122 19) [([0,1,2,3,4,5,6,7,8,9],10)] [11] []:=Z0
def zDp:Ac (Ah Tryz.f122 21) [([0,1,2,3,4,5,6,7,8,9,10,11],12)] [13] []:=Z0
def GW:BG:=λi=>match i with
 |19=>.ord [([0,1,2,3,4,5,6,7,8,9],10)] [11] []
 |21=>.ord [([0,1,2,3,4,5,6,7,8,9,10,11],12)] [13] []
 |_=>.no
inductive ME where
 |l1 (x7 x8 x9:U)
 |l2 (x7 x8 x9 x10:U)
 |l3 (x6:Ξ) (x7 x8 AQ:U)
 |l4 (x7 x8 x9:U)
 |l5 (x6:Ξ) (x7 x8 AQ AT:U)
 |l6 (x6:Ξ) (x7 x8 AQ:U)
def TC(n:E)(self:ME->X7)(g:AD)(pos:Ξ)(J x8 Y:U):X7:=B (C<|Y<(F g.ce:U)) (u ((0<=Y/\Y<(F g.ce:U))/\(0<=H g.ce Y.toNat 0/\H g.ce Y.toNat 0<(F pos:U))) (B (bits .and .i64 (H pos (H g.ce Y.toNat 0).toNat 0) g.set==H pos (H g.ce Y.toNat 0).toNat 0) (u (AG<|J+1) (self<|.l2 (J+1) x8 Y<|H pos (H g.ce Y.toNat 0).toNat 0) A)<|self<|.l2 J x8 Y<|H pos (H g.ce Y.toNat 0).toNat 0) A)<|B (C<|J>g.hi) (Z (d (F pos) (0:U),T))<|B (C<|x8<g.lo) (Z (d (F pos) (0:U),T))<|self<|.l3 (d (F pos) (0:U)) J x8 0
def kH(n:E)(self:ME->X7)(g:AD)(pos:Ξ)(J x8 Y x10:U):X7:=B (bits .and .i64 x10 g.set != 0) (u (AG<|x8+1) (self<|.l4 J (x8+1) Y) A)<|self<|.l4 J x8 Y
def bV(n:E)(self:ME->X7)(g:AD)(pos:Ξ)(x6:Ξ)(J x8 k:U):X7:=B (C<|k<(F g.ce:U)) (u ((0<=k/\k<(F g.ce:U))/\(0<=H g.ce k.toNat 0/\H g.ce k.toNat 0<(F pos:U))) (B (J==g.hi) (B (bits .and .i64 (H pos (H g.ce k.toNat 0).toNat 0) g.set != H pos (H g.ce k.toNat 0).toNat 0) ((Fc n x6 (H g.ce k.toNat 0)<|bits .and .i64 (H pos (H g.ce k.toNat 0).toNat 0) g.set).bind λe=>self<|.l5 e J x8 k<|H pos (H g.ce k.toNat 0).toNat 0)<|self<|.l5 x6 J x8 k<|H pos (H g.ce k.toNat 0).toNat 0)<|self<|.l5 x6 J x8 k<|H pos (H g.ce k.toNat 0).toNat 0) A)<|Z (x6,D)
def uN(n:E)(self:ME->X7)(c_:AD)(pos:Ξ)(J x8 Y:U):X7:=u (AG<|Y+1) (self<|.l1 J x8<|Y+1) A
def kG(n:E)(self:ME->X7)(g:AD)(pos:Ξ)(x6:Ξ)(J x8 k G:U):X7:=B (x8==g.lo) (B (bits .and .i64 G g.set != 0) (u ((0<=k/\k<(F g.ce:U))/\AG (G-bits .and .i64 G g.set)) ((Fc n x6 (H g.ce k.toNat 0)<|G-bits .and .i64 G g.set).bind λe=>self<|.l6 e J x8 k) A)<|self<|.l6 x6 J x8 k)<|self<|.l6 x6 J x8 k
def uM(n:E)(self:ME->X7)(c_:AD)(pos:Ξ)(x6:Ξ)(J x8 k:U):X7:=u (AG<|k+1) (self<|.l3 x6 J x8<|k+1) A
def uO(n:E)(self:ME->X7)(c_:AD)(pos:Ξ):X7:=u (F pos=F (d (F pos) (0:U))/\(((F pos:U):U)=(F pos:U)/\0<=(F pos:U)/\((F pos:U):U)<=1000000000000)) (self<|.l1 0 0 0) A
def Cy(g:AD)(pos:Ξ):E->ME->X7
 |0,_=>A
 |n+1,.l1 J x8 Y=>TC n (Cy g pos n) g pos J x8 Y
 |n+1,.l2 J x8 Y x10=>kH n (Cy g pos n) g pos J x8 Y x10
 |n+1,.l3 x6 J x8 k=>bV n (Cy g pos n) g pos x6 J x8 k
 |n+1,.l4 J x8 Y=>uN n (Cy g pos n) g pos J x8 Y
 |n+1,.l5 x6 J x8 k G=>kG n (Cy g pos n) g pos x6 J x8 k G
 |n+1,.l6 x6 J x8 k=>uM n (Cy g pos n) g pos x6 J x8 k
def bW(n:E)(g:AD)(pos:Ξ):X7:=uO n (Cy g pos n) g pos
def zHU(n Ϝ:E)(N:Yd 0)(g:AD)(pos:Ξ)(r:Ξ×ζ):ME->Prop:=px n Ϝ η N (FQ Tryz.f122 0 (.tup 2<|L1 [.ints r.1,.bool r.2]) []) (Af Tryz.f122) λ
 | .l1 J x8 Y=>(0,0,AI 120 [(1,.ints pos),(2,.ref 0 0),(6,.ints<|d (F pos) (0:U)),(7,.i J),(8,.i x8),(9,.i Y)],[oC<|AW g])
 | .l2 J x8 Y x10=>(4,10,AI 120 [(1,.ints pos),(2,.ref 0 0),(6,.ints<|d (F pos) (0:U)),(7,.i J),(8,.i x8),(9,.i Y),(10,.i x10)],[oC<|AW g])
 | .l3 x6 J x8 k=>(0,2,AI 120 [(1,.ints pos),(2,.ref 0 0),(6,.ints x6),(7,.i J),(8,.i x8),(11,.i k)],[oC<|AW g])
 | .l4 J x8 Y=>(4,6,AI 120 [(1,.ints pos),(2,.ref 0 0),(6,.ints<|d (F pos) (0:U)),(7,.i J),(8,.i x8),(9,.i Y)],[oC<|AW g])
 | .l5 x6 J x8 k G=>(4,20,AI 120 [(1,.ints pos),(2,.ref 0 0),(6,.ints x6),(7,.i J),(8,.i x8),(11,.i k),(12,.i G)],[oC<|AW g])
 | .l6 x6 J x8 k=>(4,16,AI 120 [(1,.ints pos),(2,.ref 0 0),(6,.ints x6),(7,.i J),(8,.i x8),(11,.i k)],[oC<|AW g])
def zHV(Ϝ:E)(N:Yd 0)(g:AD)(pos:Ξ):Al (Cy g pos) (zHU · Ϝ N g pos):=ia (λ_=>rfl) λn G s r h=>by
 cases s
 case l1 x7 x8 x9=>
  intro o j;refine rd j λo j=>?_
  revert r;apply gO;exact bi 20 (gc (gi (gi (bi 36 (gw 38 (lG (AK 20<|AK 16<|AK 10<|AK 6 GW) [0] (G _ _ · o j))) (lG (AK 20<|AK 16<|AK 10<|AK 6 GW) [0] (G _ _ · o j)))))) (bi 49 (lE (AK 20<|AK 16<|AK 10<|AK 6 GW) [4,5] []) (bi 54 (lE (AK 20<|AK 16<|AK 10<|AK 6 GW) [4,5] []) (lN (AK 20<|AK 16<|AK 10<|AK 6 GW) [0] (G _ _ · n χ))))
 case l2 x7 x8 x9 x10=>
  intro o j;have j:=zCG j;revert r;apply gO;exact bi 43 (gw 45 (lG (AK 20<|AK 16<|AK 6 GW) [0] (G _ _ · o j))) (lG (AK 20<|AK 16<|AK 6 GW) [0] (G _ _ · o j))
 case l3 x6 x7 x8 AQ=>
  intro o j;refine rd j λo j=>?_
  revert r;apply gO;exact bi 61 (gc (gn λa=>jg a (gi (bi 75 (bi 82 (jg zDq (jg a (cf Kt [oC<|AW g] λ_=>lG (AK 20<|AK 16<|AK 10<|AK 6 GW) [0] (G _ _ · o j)))) (lG (AK 20<|AK 16<|AK 10<|AK 6 GW) [0] (G _ _ · o j))) (lG (AK 20<|AK 16<|AK 10<|AK 6 GW) [0] (G _ _ · o j))))))<|lE (AK 20<|AK 16<|AK 10<|AK 6 GW) [4,5] []
 case l4 x7 x8 x9=>
  intro o j;have j:=zCG j;revert r;apply gO;exact gw 22 (lG (AK 20<|AK 16<|AK 10 GW) [0] (G _ _ · o j))
 case l5 x6 x7 x8 AQ AT=>
  intro o j;have j:=zCG j;revert r;apply gO;exact bi 98 (bi 104 (jg zDp (gc (gi (gw 117 (cf Kt [oC<|AW g] λ_=>lG (AK 16<|AK 10<|AK 6 GW) [0] (G _ _ · o j)))))) (lG (AK 16<|AK 10<|AK 6 GW) [0] (G _ _ · o j))) (lG (AK 16<|AK 10<|AK 6 GW) [0] (G _ _ · o j))
 case l6 x6 x7 x8 AQ=>
  intro o j;have j:=zCG j;revert r;apply gO;exact gw 63 (lG (AK 20<|AK 10<|AK 6 GW) [0] (G _ _ · o j))
def zHS{r:Ξ×ζ}(h:bW n g pos=Z r):EQ 122 [.agg 9<|L1<|AW g,.ints pos] [] (.tup 2<|L1 [.ints r.1,.bool r.2]) [] D:=by
 refine ot Tryz.func122 λϜ N=>?_
 revert r;apply gO;exact gc (gn λj=>gi (jz 15 1 (jg j (lN (AK 20<|AK 16<|AK 10<|AK 6 GW) [0] ((zHV Ϝ N g pos n) _ _ · n χ)))))
inductive bM where
 |l1 (x5 x6:U)
def bL(n:E)(self:bM->W5)(q:AA)(h:U)(P x6:U):W5:=B (C<|x6<q.sy) ((HQ n h x6).bind λe=>B e (B (C<|P<0) (u ((0<=x6/\x6<(F q.va:U))/\AG (x6+1)) (self<|.l1 (H q.va x6.toNat 0)<|x6+1) A)<|u (0<=x6/\x6<(F q.va:U)) (B (C<|H q.va x6.toNat 0<P) (u (AG<|x6+1) (self<|.l1 (H q.va x6.toNat 0)<|x6+1) A)<|u (AG<|x6+1) (self<|.l1 P<|x6+1) A) A)<|u (AG<|x6+1) (self<|.l1 P<|x6+1) A)<|Z P
def zHC(n:E)(self:bM->W5)(q:AA)(AP:U):W5:=self<|.l1 (-1) 0
def Ju(q:AA)(h:U):E->bM->W5
 |0,_=>A
 |n+1,.l1 P x6=>bL n (Ju q h n) q h P x6
def S7(n:E)(q:AA)(h:U):W5:=zHC n (Ju q h n) q h
def zHD(n Ϝ:E)(N:Yd 0)(q:AA)(h:U)(r:U):bM->Prop:=px n Ϝ η N (FQ Tryz.f158 0 (.i r) []) (Af Tryz.f158) λ
 | .l1 P x6=>(0,0,AI 35 [(1,.i h),(2,.ref 0 0),(5,.i P),(6,.i x6)],[oC<|AJ q])
def zHE(Ϝ:E)(N:Yd 0)(q:AA)(a:U):Al (Ju q a) (zHD · Ϝ N q a):=ia (λ_=>rfl) λn G s r h=>by
 cases s
 case l1 x5 x6=>
  intro o j;refine rd j λo j=>?_
  revert r;apply gO;exact bi 10 (cf P5 [oC<|AJ q] λ_=>bi 15 (bi 18 (gc (gi (gw 12 (lG AC [0] (G _ _ · o j))))) (gn λb=>jg b (bi 26 (jg b (gw 12 (lG AC [0] (G _ _ · o j)))) (gw 12 (lG AC [0] (G _ _ · o j)))))) (gw 12 (lG AC [0] (G _ _ · o j))))<|lE AC [4] []
def uA{a:U}{r:U}(h:S7 n q a=Z r):EQ 158 [.agg 5<|L1<|AJ q,.i a] [] (.i r) [] D:=by
 refine ot Tryz.func158 λϜ N=>?_
 revert r;apply gO;exact lN AC [0] ((zHE Ϝ N q a n) _ _ · n χ)
inductive bO where
 |l1 (x5 x6:U)
def bN(n:E)(self:bO->W5)(q:AA)(h:U)(P x6:U):W5:=B (C<|x6<q.sy) ((HQ n h x6).bind λe=>B e (u (0<=x6/\x6<(F q.va:U)) (B (C<|H q.va x6.toNat 0>P) (u (AG<|x6+1) (self<|.l1 (H q.va x6.toNat 0)<|x6+1) A)<|u (AG<|x6+1) (self<|.l1 P<|x6+1) A) A)<|u (AG<|x6+1) (self<|.l1 P<|x6+1) A)<|Z P
def zHF(n:E)(self:bO->W5)(q:AA)(AP:U):W5:=self<|.l1 (-1) 0
def Kx(q:AA)(h:U):E->bO->W5
 |0,_=>A
 |n+1,.l1 P x6=>bN n (Kx q h n) q h P x6
def S8(n:E)(q:AA)(h:U):W5:=zHF n (Kx q h n) q h
def zHG(n Ϝ:E)(N:Yd 0)(q:AA)(h:U)(r:U):bO->Prop:=px n Ϝ η N (FQ Tryz.f159 0 (.i r) []) (Af Tryz.f159) λ
 | .l1 P x6=>(0,0,AI 31 [(1,.i h),(2,.ref 0 0),(5,.i P),(6,.i x6)],[oC<|AJ q])
def zHH(Ϝ:E)(N:Yd 0)(q:AA)(a:U):Al (Kx q a) (zHG · Ϝ N q a):=ia (λ_=>rfl) λn G s r h=>by
 cases s
 case l1 x5 x6=>
  intro o j;refine rd j λo j=>?_
  revert r;apply gO;exact bi 10 (cf P5 [oC<|AJ q] λ_=>bi 15 (gn λb=>jg b (bi 23 (jg b (gw 12 (lG AC [0] (G _ _ · o j)))) (gw 12 (lG AC [0] (G _ _ · o j))))) (gw 12 (lG AC [0] (G _ _ · o j))))<|lE AC [4] []
def uE{a:U}{r:U}(h:S8 n q a=Z r):EQ 159 [.agg 5<|L1<|AJ q,.i a] [] (.i r) [] D:=by
 refine ot Tryz.func159 λϜ N=>?_
 revert r;apply gO;exact lN AC [0] ((zHH Ϝ N q a n) _ _ · n χ)
def zDe:Ac (Ah Tryz.f123 7) [([0,1,2,3,4,5,6,7,8,9],10)] [11,12] []:=Z0
def zDd:Ac (Ah Tryz.f123 8) [([0,1,2,3,4,5,6,7,8,9],10)] [11,12] []:=Z0
def zDf:Ac (Ah Tryz.f123 18) [([0,1],2),([3,4,5,6,9,10,11,12,13,15,16],7),([8,14,17,18,19,20,21,24,25,26,27,28,30,31],22)] [23,29,32,33,34] []:=Z0
def sK:Ac (Ah Tryz.f123 19) [([0,1,2,3,4,5,6,7],8)] [9] []:=Z0
def IX:BG:=λi=>match i with
 |7=>.ord [([0,1,2,3,4,5,6,7,8,9],10)] [11,12] []
 |8=>.ord [([0,1,2,3,4,5,6,7,8,9],10)] [11,12] []
 |18=>.ord [([0,1],2),([3,4,5,6,9,10,11,12,13,15,16],7),([8,14,17,18,19,20,21,24,25,26,27,28,30,31],22)] [23,29,32,33,34] []
 |19=>.ord [([0,1,2,3,4,5,6,7],8)] [9] []
 |_=>.no
inductive Px where
 |l1 (x9 x10 AQ:U)
 |l2 (x8:Ξ) (x9 x10 AT:U)
 |l3 (x8:Ξ) (x9 x10 AT x13 A4:U)
 |l4 (x8:Ξ) (x9 x10 AT x13 A4:U)
def Sr(n:E)(self:Px->X7)(q:AA)(g:AD)(pos:Ξ)(Y x10 k:U):X7:=B (C<|k<(F g.ce:U)) (u ((0<=k/\k<(F g.ce:U))/\(0<=H g.ce k.toNat 0/\H g.ce k.toNat 0<(F pos:U))) ((S7 n q<|H pos (H g.ce k.toNat 0).toNat 0).bind λe=>u (AG<|Y+e) ((S8 n q<|H pos (H g.ce k.toNat 0).toNat 0).bind λr=>u (AG (x10+r)/\AG (k+1)) (self<|.l1 (Y+e) (x10+r)<|k+1) A) A) A)<|B (C<|Y>g.hi) (Z (d (F pos) (0:U),T))<|B (C<|x10<g.lo) (Z (d (F pos) (0:U),T))<|self<|.l2 (d (F pos) (0:U)) Y x10 0
def ax(n:E)(self:Px->X7)(q:AA)(g:AD)(pos:Ξ)(x8:Ξ)(Y x10 G:U):X7:=B (C<|G<(F g.ce:U)) (u ((0<=G/\G<(F g.ce:U))/\(0<=H g.ce G.toNat 0/\H g.ce G.toNat 0<(F pos:U))) (self<|.l3 x8 Y x10 G (H pos (H g.ce G.toNat 0).toNat 0) 0) A)<|Z (x8,D)
def V1(n:E)(self:Px->X7)(q:AA)(g:AD)(pos:Ξ)(x8:Ξ)(Y x10 G x13 a:U):X7:=B (C<|a<q.sy) ((HQ n x13 a).bind λe=>B e (u (0<=a/\a<(F q.va:U)) ((S7 n q x13).bind λr=>u (AG (Y-r)/\AG ((Y-r)+H q.va a.toNat 0)) (B (C<|((Y-r)+H q.va a.toNat 0)>g.hi) (u ((0<=G/\G<(F g.ce:U))/\(0<=a/\a<=(IntKind.i64.bits:U))) ((Fc n x8 (H g.ce G.toNat 0)<|IntKind.i64.wrap<|1*2^(a).toNat).bind λy3=>self<|.l4 y3 Y x10 G x13 a) A)<|(S8 n q x13).bind λy3=>u (AG (x10-y3)/\AG ((x10-y3)+H q.va a.toNat 0)) (B (C<|((x10-y3)+H q.va a.toNat 0)<g.lo) (u ((0<=G/\G<(F g.ce:U))/\(0<=a/\a<=(IntKind.i64.bits:U))) ((Fc n x8 (H g.ce G.toNat 0)<|IntKind.i64.wrap<|1*2^(a).toNat).bind λQ=>self<|.l4 Q Y x10 G x13 a) A)<|self<|.l4 x8 Y x10 G x13 a) A) A) A)<|self<|.l4 x8 Y x10 G x13 a)<|u (AG<|G+1) (self<|.l2 x8 Y x10<|G+1) A
def tS(n:E)(self:Px->X7)(q:AA)(c_:AD)(pos:Ξ)(x8:Ξ)(Y x10 G x13 a:U):X7:=u (AG<|a+1) (self<|.l3 x8 Y x10 G x13<|a+1) A
def tT(n:E)(self:Px->X7)(q:AA)(c_:AD)(pos:Ξ):X7:=u (F pos=F (d (F pos) (0:U))/\(((F pos:U):U)=(F pos:U)/\0<=(F pos:U)/\((F pos:U):U)<=1000000000000)) (self<|.l1 0 0 0) A
def EW(q:AA)(g:AD)(pos:Ξ):E->Px->X7
 |0,_=>A
 |n+1,.l1 Y x10 k=>Sr n (EW q g pos n) q g pos Y x10 k
 |n+1,.l2 x8 Y x10 G=>ax n (EW q g pos n) q g pos x8 Y x10 G
 |n+1,.l3 x8 Y x10 G x13 a=>V1 n (EW q g pos n) q g pos x8 Y x10 G x13 a
 |n+1,.l4 x8 Y x10 G x13 a=>tS n (EW q g pos n) q g pos x8 Y x10 G x13 a
def ay(n:E)(q:AA)(g:AD)(pos:Ξ):X7:=tT n (EW q g pos n) q g pos
def zGb(n Ϝ:E)(N:Yd 0)(q:AA)(g:AD)(pos:Ξ)(r:Ξ×ζ):Px->Prop:=px n Ϝ η N (FQ Tryz.f123 0 (.tup 2<|L1 [.ints r.1,.bool r.2]) []) (Af Tryz.f123) λ
 | .l1 Y x10 k=>(0,0,AI 126 [(2,.ints pos),(3,.ref 0 0),(4,.ref 1 0),(8,.ints<|d (F pos) (0:U)),(9,.i Y),(10,.i x10),(11,.i k)],[oC<|AJ q,oC<|AW g])
 | .l2 x8 Y x10 G=>(0,2,AI 126 [(2,.ints pos),(3,.ref 0 0),(4,.ref 1 0),(8,.ints x8),(9,.i Y),(10,.i x10),(12,.i G)],[oC<|AJ q,oC<|AW g])
 | .l3 x8 Y x10 G x13 a=>(1,4,AI 126 [(2,.ints pos),(3,.ref 0 0),(4,.ref 1 0),(8,.ints x8),(9,.i Y),(10,.i x10),(12,.i G),(13,.i x13),(14,.i a)],[oC<|AJ q,oC<|AW g])
 | .l4 x8 Y x10 G x13 a=>(5,17,AI 126 [(2,.ints pos),(3,.ref 0 0),(4,.ref 1 0),(8,.ints x8),(9,.i Y),(10,.i x10),(12,.i G),(13,.i x13),(14,.i a)],[oC<|AJ q,oC<|AW g])
def zGc(Ϝ:E)(N:Yd 0)(q:AA)(g:AD)(pos:Ξ):Al (EW q g pos) (zGb · Ϝ N q g pos):=ia (λ_=>rfl) λn G b r h=>by
 cases b
 case l1 x9 x10 AQ=>
  intro o j;refine rd j λo j=>?_
  revert r;apply gO;exact bi 22 (jg zDe (gc (gn λa=>jg a (gn λs=>jg s (cf uA [oC<|AJ q,oC<|AW g] λ_=>gw 36 (jg zDd (jg a (jg s (cf uE [oC<|AJ q,oC<|AW g] λ_=>gc (gw 48 (gw 24 (lG (AK 17 IX) [0,1] (G _ _ · o j))))))))))))) (bi 52 (lE (AK 17 IX) [6,7] []) (bi 57 (lE (AK 17 IX) [6,7] []) (lN (AK 17 IX) [0,1] (G _ _ · n χ))))
 case l2 x8 x9 x10 AT=>
  intro o j;refine rd j λo j=>?_
  revert r;apply gO;exact bi 64 (gc (gi (gi (lN (AK 17 IX) [0,1] (G _ _ · o n j χ)))))<|lE (AK 17 IX) [6,7] []
 case l3 x8 x9 x10 AT x13 A4=>
  intro o w j z;have j:=zCG j;refine rd z λw z=>?_
  revert r;apply gO;exact bi 78 (jg zDf (cf P5 [oC<|AJ q,oC<|AW g] λ_=>bi 83 (gn λa=>jg a (cf uA [oC<|AJ q,oC<|AW g] λ_=>gc (gw 89 (gw 95 (bi 98 (jg sK (gc (gi (gi (cf Kt [oC<|AJ q,oC<|AW g] λ_=>lG (AK 17 IX) [0,1] (G _ _ · o w j z)))))) (jg a (cf uE [oC<|AJ q,oC<|AW g] λ_=>gc (gw 104 (gw 110 (bi 113 (jg sK (gc (gi (gi (cf Kt [oC<|AJ q,oC<|AW g] λ_=>lG (AK 17 IX) [0,1] (G _ _ · o w j z)))))) (lG (AK 17 IX) [0,1] (G _ _ · o w j z)))))))))))) (lG (AK 17 IX) [0,1] (G _ _ · o w j z)))) (gw 66 (lG (AK 17 IX) [0,1] (G _ _ · o j)))
 case l4 x8 x9 x10 AT x13 A4=>
  intro o w j z;have j:=zCG j;have z:=zCG z;revert r;apply gO;exact gw 80 (lG IX [0,1] (G _ _ · o w j z))
def zGZ{r:Ξ×ζ}(h:ay n q g pos=Z r):EQ 123 [.agg 5<|L1<|AJ q,.agg 9<|L1<|AW g,.ints pos] [] (.tup 2<|L1 [.ints r.1,.bool r.2]) [] D:=by
 refine ot Tryz.func123 λϜ N=>?_
 revert r;apply gO;exact gc (gn λj=>gi (jz 17 2 (jg j (lN (AK 17 IX) [0,1] ((zGc Ϝ N q g pos n) _ _ · n χ)))))
def zDg:Ac (Ah Tryz.f166 6) [([0,1,2,3,4,5,6,7,8],9),([10,11,12,13,14,15,16,17,18,19,20,21,22,23,24,25,26,27,28,29,30,31,32,33,34,35,36,37,38,39,40,41],42)] [43] []:=Z0
def Jm:BG:=λi=>match i with
 |6=>.ord [([0,1,2,3,4,5,6,7,8],9),([10,11,12,13,14,15,16,17,18,19,20,21,22,23,24,25,26,27,28,29,30,31,32,33,34,35,36,37,38,39,40,41],42)] [43] []
 |_=>.no
inductive bC where
 |l1 (Au:U)
def V5(n:E)(J:AA->AD->Ξ->U->U->U->U->X9)(self:bC->X9)(q:AA)(g:AD)(pos:Ξ)(o W at_ V:U)(Y:U):X9:=B (C<|Y<q.sy) (u ((0<=o/\o<(F g.ce:U))/\(0<=H g.ce o.toNat 0/\H g.ce o.toNat 0<(F pos:U))) ((HQ n (H pos (H g.ce o.toNat 0).toNat 0) Y).bind λe=>B e (B (o != at_) (u (0<=Y/\Y<(F q.va:U)) (B (C<|H q.va Y.toNat 0>W) (u (AG<|o+1) ((J q g pos (o+1) (H q.va Y.toNat 0) at_ V).bind λr=>B r (Z D)<|u (AG<|Y+1) (self<|.l1<|Y+1) A) A)<|u (AG<|Y+1) (self<|.l1<|Y+1) A) A)<|B (Y==V) (u (0<=Y/\Y<(F q.va:U)) (B (C<|H q.va Y.toNat 0>W) (u (AG<|o+1) ((J q g pos (o+1) (H q.va Y.toNat 0) at_ V).bind λr=>B r (Z D)<|u (AG<|Y+1) (self<|.l1<|Y+1) A) A)<|u (AG<|Y+1) (self<|.l1<|Y+1) A) A)<|u (AG<|Y+1) (self<|.l1<|Y+1) A)<|u (AG<|Y+1) (self<|.l1<|Y+1) A) A)<|Z T
def V6(n:E)(Aa:AA->AD->Ξ->U->U->U->U->X9)(self:bC->X9)(q:AA)(g:AD)(pos:Ξ)(o value at_ s_:U):X9:=B (o==(F g.ce:U)) (Z D)<|self<|.l1 0
def Nr(J:AA->AD->Ξ->U->U->U->U->X9)(q:AA)(g:AD)(pos:Ξ)(o W at_ V:U):E->bC->X9
 |0,_=>A
 |n+1,.l1 Y=>V5 n J (Nr J q g pos o W at_ V n) q g pos o W at_ V Y
def Kq:E->AA->AD->Ξ->U->U->U->U->X9
 |0,_,_,_,_,_,_,_=>A
 |n+1,q,g,pos,o,W,at_,V=>V6 n (Kq n) (Nr (Kq n) q g pos o W at_ V n) q g pos o W at_ V
def zGl(n Ϝ:E)(N:Yd 0)(q:AA)(g:AD)(pos:Ξ)(o W at_ V:U)(r:ζ):bC->Prop:=px n Ϝ η N (FQ Tryz.f166 0 (.bool r) []) (Af Tryz.f166) λ
 | .l1 Y=>(0,0,AI 71 [(2,.ints pos),(3,.i o),(4,.i W),(5,.i at_),(6,.i V),(7,.ref 0 0),(8,.ref 1 0),(15,.i Y)],[oC<|AJ q,oC<|AW g])
def zGm(Ϝ:E)(N:Yd 0)(J:AA->AD->Ξ->U->U->U->U->X9)(w:∀{q:AA} {g:AD} {pos:Ξ} {a W at_ V:U} {r:ζ},J q g pos a W at_ V=Z r->EQ 166 [.agg 5<|L1<|AJ q,.agg 9<|L1<|AW g,.ints pos,.i a,.i W,.i at_,.i V] [] (.bool r) [] D)(q:AA)(g:AD)(pos:Ξ)(a W at_ V:U):Al (Nr J q g pos a W at_ V) (zGl · Ϝ N q g pos a W at_ V):=ia (λ_=>rfl) λn G s r h=>by
 cases s
 case l1 Au=>
  intro o j;refine rd j λo j=>?_
  revert r;apply gO;exact bi 24 (jg zDg (gc (gi (gi (cf P5 [oC<|AJ q,oC<|AW g] λ_=>bi 36 (bi 40 (gn λy=>jg y (bi 54 (gw 61 (jg y (cn λb K=>jc (fb (w K) [oC<|AJ q,oC<|AW g]) (bi 69 (lE Jm [14] []) (gw 26 (lG Jm [0,1] (G _ _ · o j))))))) (gw 26 (lG Jm [0,1] (G _ _ · o j))))) (bi 44 (gn λy=>jg y (bi 54 (gw 61 (jg y (cn λb K=>jc (fb (w K) [oC<|AJ q,oC<|AW g]) (bi 69 (lE Jm [14] []) (gw 26 (lG Jm [0,1] (G _ _ · o j))))))) (gw 26 (lG Jm [0,1] (G _ _ · o j))))) (gw 26 (lG Jm [0,1] (G _ _ · o j))))) (gw 26 (lG Jm [0,1] (G _ _ · o j))))))))<|lE Jm [14] []
def zGk :∀{q:AA} {g:AD} {pos:Ξ} {o W at_ V:U} {r:ζ} (h:Kq n q g pos o W at_ V=Z r),EQ 166 [.agg 5<|L1<|AJ q,.agg 9<|L1<|AW g,.ints pos,.i o,.i W,.i at_,.i V] [] (.bool r) [] D:=by
 induction n with
 |zero=>intro q g pos o W at_ V r h;cases h
 |succ n w=>
  intro q g pos o W at_ V r h;refine ot Tryz.func166 λϜ N=>?_
  revert r;apply gO;exact bi 20 (lE Jm [14] []) (lN Jm [0,1] ((zGm Ϝ N (Kq n) w q g pos o W at_ V n) _ _ · n χ))
inductive Pz where
 |l1
 |l2
 |l3
 |l4
def V4(n:E)(Aa:AD->Ξ->U->U->U->U->ζ->X9)(self:Pz->X9)(g:AD)(pos:Ξ)(o done a at_:U)(AH:ζ):X9:=B (o==(F g.ce:U)) (B (C<|a>0) (u (AG<|done+1) (B ((done+1)==(F g.ru:U)) (u (0<=done/\done<(F g.ru:U)) (Z<|a==H g.ru done.toNat 0) A)<|Z T) A)<|Z<|done==(F g.ru:U))<|self<|.l2
def j8(n:E)(J:AD->Ξ->U->U->U->U->ζ->X9)(self:Pz->X9)(g:AD)(pos:Ξ)(o done a at_:U)(N:ζ):X9:=u ((0<=o/\o<(F g.ce:U))/\(0<=H g.ce o.toNat 0/\H g.ce o.toNat 0<(F pos:U))) (B (bits .and .i64 (H pos (H g.ce o.toNat 0).toNat 0) g.set != 0) (B (o != at_) (u (AG (o+1)/\AG (a+1)) ((J g pos (o+1) done (a+1) at_ N).bind λe=>B e (Z D)<|self<|.l3) A)<|B N (u (AG (o+1)/\AG (a+1)) ((J g pos (o+1) done (a+1) at_ D).bind λe=>B e (Z D)<|self<|.l3) A)<|self<|.l3)<|self<|.l3) A
def j7(n:E)(Aa:AD->Ξ->U->U->U->U->ζ->X9)(self:Pz->X9)(g:AD)(pos:Ξ)(o done CH at_:U)(N:ζ):X9:=B (bits .and .i64 (H pos (H g.ce o.toNat 0).toNat 0) g.set==H pos (H g.ce o.toNat 0).toNat 0) (Z T)<|B (o==at_) (B N (Z T)<|self<|.l4)<|self<|.l4
def j0(n:E)(J:AD->Ξ->U->U->U->U->ζ->X9)(self:Pz->X9)(g:AD)(pos:Ξ)(o done a at_:U)(N:ζ):X9:=B (a==0) (u (AG<|o+1) ((J g pos (o+1) done 0 at_ N).bind λe=>Z e) A)<|u (0<=done/\done<(F g.ru:U)) (B (a==H g.ru done.toNat 0) (u (AG (o+1)/\AG (done+1)) ((J g pos (o+1) (done+1) 0 at_ N).bind λe=>Z e) A)<|Z T) A
def Py(n:E)(Aa:AD->Ξ->U->U->U->U->ζ->X9)(self:Pz->X9)(g:AD)(pos:Ξ)(A8 done a at_:U)(AH:ζ):X9:=B (C<|a>0) (B (C<|done>=(F g.ru:U)) (Z T)<|u (0<=done/\done<(F g.ru:U)) (B (C<|a>H g.ru done.toNat 0) (Z T)<|self<|.l1) A)<|self<|.l1
def HP(J:AD->Ξ->U->U->U->U->ζ->X9)(g:AD)(pos:Ξ)(o done a at_:U)(N:ζ):E->Pz->X9
 |0,_=>A
 |n+1,.l1=>V4 n J (HP J g pos o done a at_ N n) g pos o done a at_ N
 |n+1,.l2=>j8 n J (HP J g pos o done a at_ N n) g pos o done a at_ N
 |n+1,.l3=>j7 n J (HP J g pos o done a at_ N n) g pos o done a at_ N
 |n+1,.l4=>j0 n J (HP J g pos o done a at_ N n) g pos o done a at_ N
def Eh:E->AD->Ξ->U->U->U->U->ζ->X9
 |0,_,_,_,_,_,_,_=>A
 |n+1,g,pos,o,done,a,at_,N=>Py n (Eh n) (HP (Eh n) g pos o done a at_ N n) g pos o done a at_ N
def zGj(n Ϝ:E)(N:Yd 0)(g:AD)(pos:Ξ)(o done a at_:U)(b:ζ)(r:ζ):Pz->Prop:=px n Ϝ η N (FQ Tryz.f126 0 (.bool r) []) (Af Tryz.f126) λ
 | .l1=>(3,3,AI 136 [(1,.ints pos),(2,.i o),(3,.i done),(4,.i a),(5,.i at_),(6,.bool b),(7,.ref 0 0)],[oC<|AW g])
 | .l2=>(3,7,AI 136 [(1,.ints pos),(2,.i o),(3,.i done),(4,.i a),(5,.i at_),(6,.bool b),(7,.ref 0 0)],[oC<|AW g])
 | .l3=>(3,10,AI 136 [(1,.ints pos),(2,.i o),(3,.i done),(4,.i a),(5,.i at_),(6,.bool b),(7,.ref 0 0),(15,.i<|H pos (H g.ce o.toNat 0).toNat 0)],[oC<|AW g])
 | .l4=>(3,12,AI 136 [(1,.ints pos),(2,.i o),(3,.i done),(4,.i a),(5,.i at_),(6,.bool b),(7,.ref 0 0)],[oC<|AW g])
def te(Ϝ:E)(N:Yd 0)(J:AD->Ξ->U->U->U->U->ζ->X9)(w:∀{g:AD} {pos:Ξ} {o done a at_:U} {b:ζ} {r:ζ},J g pos o done a at_ b=Z r->EQ 126 [.agg 9<|L1<|AW g,.ints pos,.i o,.i done,.i a,.i at_,.bool b] [] (.bool r) [] D)(g:AD)(pos:Ξ)(o done a at_:U)(b:ζ):Al (HP J g pos o done a at_ b) (zGj · Ϝ N g pos o done a at_ b):=ia (λ_=>rfl) λn G s r h=>by
 cases s
 case l1=>
  revert r;apply gO;exact bi 38 (bi 40 (gw 42<|bi 46 (gi<|lE (AK 12<|AK 10<|AK 7 AC) [14] [])<|lE (AK 12<|AK 10<|AK 7 AC) [14] [])<|lE (AK 12<|AK 10<|AK 7 AC) [14] []) (lG (AK 12<|AK 10<|AK 7 AC) [0] (G _ _ ·))
 case l2=>
  revert r;apply gO;exact gc (gi (gi (bi 73 (bi 77 (gc (gw 86 (gw 89 (cn λe f=>jc (fb (w f) [oC<|AW g]) (bi 92 (lE (AK 12<|AK 10<|AK 3 AC) [14] []) (lG (AK 12<|AK 10<|AK 3 AC) [0] (G _ _ ·))))))) (bj 79 (λp=>gc (gw 86 (gw 89 (jb 91 p (cn λe f=>jc (fb (w f) [oC<|AW g]) (bi 92 (lE (AK 12<|AK 10<|AK 3 AC) [14] []) (lG (AK 12<|AK 10<|AK 3 AC) [0] (G _ _ ·)))))))) (λ_=>lG (AK 12<|AK 10<|AK 3 AC) [0] (G _ _ ·)))) (lG (AK 12<|AK 10<|AK 3 AC) [0] (G _ _ ·)))))
 case l3=>
  revert r;apply gO;exact bi 99 (lE (AK 12<|AK 7<|AK 3 AC) [14] []) (bi 103 (bi 105 (lE (AK 12<|AK 7<|AK 3 AC) [14] []) (lG (AK 12<|AK 7<|AK 3 AC) [0] (G _ _ ·))) (lG (AK 12<|AK 7<|AK 3 AC) [0] (G _ _ ·)))
 case l4=>
  revert r;apply gO;exact bi 109 (gw 113<|cn λe f=>jc (fb (w f) [oC<|AW g])<|lE (AK 10<|AK 7<|AK 3 AC) [14] [])<|gi<|bi 124 (gc<|gw 129<|gw 131<|cn λe f=>jc (fb (w f) [oC<|AW g])<|lE (AK 10<|AK 7<|AK 3 AC) [14] [])<|lE (AK 10<|AK 7<|AK 3 AC) [14] []
def tZ :∀{g:AD} {pos:Ξ} {o done a at_:U} {b:ζ} {r:ζ} (h:Eh n g pos o done a at_ b=Z r),EQ 126 [.agg 9<|L1<|AW g,.ints pos,.i o,.i done,.i a,.i at_,.bool b] [] (.bool r) [] D:=by
 induction n with
 |zero=>intro g pos o done a at_ b r h;cases h
 |succ n w=>
  intro g pos o done a at_ b r h;refine ot Tryz.func126 λϜ N=>?_
  revert r;apply gO;exact bi 17 (bi 23 (lE (AK 12<|AK 10<|AK 7<|AK 3 AC) [14] []) (gi (bi 31 (lE (AK 12<|AK 10<|AK 7<|AK 3 AC) [14] []) (lG (AK 12<|AK 10<|AK 7<|AK 3 AC) [0] ((te Ϝ N (Eh n) w g pos o done a at_ b n) _ _ ·))))) (lG (AK 12<|AK 10<|AK 7<|AK 3 AC) [0] ((te Ϝ N (Eh n) w g pos o done a at_ b n) _ _ ·))
def uC(n:E)(h v:U):X9:=B (C<|v>=0) (B (C<|v<16) (u (0<=v/\v<=(IntKind.i64.bits:U)) (Z<|(bits .and .i64 h<|IntKind.i64.wrap<|1*2^(v).toNat) != 0) A)<|Z T)<|Z T
def Fe(n:E)(h v:U):X9:=uC n h v
def Gw{a v:U}{r:ζ}(h:Fe n a v=Z r):EQ 75 [.i a,.i v] [] (.bool r) [] D:=by
 refine ot Tryz.func75 λϜ N=>?_
 revert r;apply gO;exact bi 6 (bi 9 (gi<|lE AC [4] [])<|lE AC [4] [])<|lE AC [4] []
def kM(n:E)(a b i:U):X9:=u (AG<|a-b) (B (C<|(a-b)>=i) (Z D)<|u (AG<|b-a) (Z<|C<|(b-a)>=i) A) A
def WG(n:E)(a b i:U):X9:=kM n a b i
def uY{a b c:U}{r:ζ}(h:WG n a b c=Z r):EQ 74 [.i a,.i b,.i c] [] (.bool r) [] D:=by
 refine ot Tryz.func74 λϜ N=>?_
 revert r;apply gO;exact gw 9<|bi 11 (lE AC [6] [])<|gw 15<|lE AC [6] []
def zDj:Ac (Ah Tryz.f50 15) [([0,1,2,3,4,5,6,7,8,9,10,11,12,13,14,15,16,17,18,19,20,21,22,23],24)] [25] []:=Z0
def SW:BG:=λi=>match i with
 |13=>.ord [([0,1,2,3,4,6,7],5),([],8)] [9] []
 |15=>.ord [([0,1,2,3,4,5,6,7,8,9,10,11,12,13,14,15,16,17,18,19,20,21,22,23],24)] [25] []
 |21=>.ord [([0,1,2,3,4,5,6],7),([],8)] [9] []
 |22=>.ord [([0,1,2,3,4,5,6],7),([],8)] [9] []
 |_=>.no
def tr(n:E)(q:AA)(g:AD)(v:Ξ):X9:=B (g.kind==1) A<|B (g.kind==2) A<|B (g.kind==3) A<|B (g.kind==4) A<|B (g.kind==5) A<|B (g.kind==6) (u (((0:U)<=0/\0<(F g.ce:U))/\(0<=H g.ce 0 0/\H g.ce 0 0<(F v:U))/\(0<=H v (H g.ce 0 0).toNat 0/\H v (H g.ce 0 0).toNat 0<(F q.va:U))/\((0:U)<=1/\1<(F g.ce:U))/\(0<=H g.ce 1 0/\H g.ce 1 0<(F v:U))/\(0<=H v (H g.ce 1 0).toNat 0/\H v (H g.ce 1 0).toNat 0<(F q.va:U))) ((WG n (H q.va (H v (H g.ce 0 0).toNat 0).toNat 0) (H q.va (H v (H g.ce 1 0).toNat 0).toNat 0) g.lo).bind λe=>Z e) A)<|B (g.kind==7) (u (((0:U)<=0/\0<(F g.ce:U))/\(0<=H g.ce 0 0/\H g.ce 0 0<(F v:U))/\((0:U)<=1/\1<(F g.ce:U))/\(0<=H g.ce 1 0/\H g.ce 1 0<(F v:U))) ((Fe n g.set<|H v (H g.ce 0 0).toNat 0).bind λe=>B e ((Fe n g.other<|H v (H g.ce 1 0).toNat 0).bind λr=>B (!r) ((Fe n g.set<|H v (H g.ce 1 0).toNat 0).bind λy3=>B y3 ((Fe n g.other<|H v (H g.ce 0 0).toNat 0).bind λQ=>Z<|!Q)<|Z D)<|Z T)<|(Fe n g.set<|H v (H g.ce 1 0).toNat 0).bind λr=>B r ((Fe n g.other<|H v (H g.ce 0 0).toNat 0).bind λy3=>Z<|!y3)<|Z D) A)<|B (g.kind==8) A A
def V9(n:E)(q:AA)(g:AD)(v:Ξ):X9:=tr n q g v
def zG0{v:Ξ}{r:ζ}(h:V9 n q g v=Z r):EQ 50 [.agg 5<|L1<|AJ q,.agg 9<|L1<|AW g,.ints v] [] (.bool r) [] D:=by
 refine ot Tryz.func50 λϜ N=>?_
 revert r;apply gO;exact bi 14 nO<|bi 20 nO<|bi 38 nO<|bi 56 nO<|bi 64 nO<|bi 75 (jg zDj<|gc<|gi<|gc<|gi<|gc<|gi<|gc<|gi<|gc<|gi<|gi<|cf uY [oC<|AJ q,oC<|AW g] λ_=>lE SW [6] [])<|bi 102 (gc<|gi<|gc<|gi<|gc<|gi<|gi<|cf Gw [oC<|AJ q,oC<|AW g] λ_=>bi 120 (cf Gw [oC<|AJ q,oC<|AW g] λ_=>bi 127 (cf Gw [oC<|AJ q,oC<|AW g] λ_=>bi 132 (cf Gw [oC<|AJ q,oC<|AW g] λ_=>lE SW [6] [])<|lE SW [6] [])<|lE SW [6] [])<|cf Gw [oC<|AJ q,oC<|AW g] λ_=>bi 132 (cf Gw [oC<|AJ q,oC<|AW g] λ_=>lE SW [6] [])<|lE SW [6] [])<|bn (λP=>nO) λP=>nO
def xG(q:AA)(g:AD)(a:Ξ)(at_ V x13:U):DH:=[oC<|AJ q,oC<|AW g,oI<|(a.set (0+(H g.ce at_.toNat 0).toNat) V).set (0+(H g.ce (1-at_).toNat 0).toNat) x13]
inductive ba where
 |l1 (x13:U) (o2:Ξ)
def WF(n:E)(self:ba->X9)(q:AA)(g:AD)(pos:Ξ)(at_ V:U)(x13:U)(a:Ξ):X9:=B (C<|x13<q.sy) (u ((0<=at_/\at_<(F g.ce:U))/\(0<=H g.ce at_.toNat 0/\H g.ce at_.toNat 0<(F pos:U))/\0+(H g.ce at_.toNat 0).toNat<F a/\(0<=H g.ce (1-at_).toNat 0/\H g.ce (1-at_).toNat 0<(F pos:U))/\0+(H g.ce (1-at_).toNat 0).toNat<F (a.set (0+(H g.ce at_.toNat 0).toNat) V)) ((HQ n (H pos (H g.ce (1-at_).toNat 0).toNat 0) x13).bind λe=>B e (u (F pos=F ((a.set (0+(H g.ce at_.toNat 0).toNat) V).set (0+(H g.ce (1-at_).toNat 0).toNat) x13)) ((V9 n q g<|(a.set (0+(H g.ce at_.toNat 0).toNat) V).set (0+(H g.ce (1-at_).toNat 0).toNat) x13).bind λr=>B r (Z D)<|u (AG<|x13+1) (self<|.l1 (x13+1)<|(a.set (0+(H g.ce at_.toNat 0).toNat) V).set (0+(H g.ce (1-at_).toNat 0).toNat) x13) A) A)<|u (AG<|x13+1) (self<|.l1 (x13+1)<|(a.set (0+(H g.ce at_.toNat 0).toNat) V).set (0+(H g.ce (1-at_).toNat 0).toNat) x13) A) A)<|Z T
def uS(n:E)(self:ba->X9)(q:AA)(g:AD)(pos:Ξ)(at_ s_:U):X9:=u ((((F pos:U):U)=(F pos:U)/\0<=(F pos:U)/\((F pos:U):U)<=1000000000000)/\AG (1-at_)/\((0:U)<=(1-at_)/\(1-at_)<(F g.ce:U))) (self<|.l1 0<|d (F pos) (0:U)) A
def QA(q:AA)(g:AD)(pos:Ξ)(at_ V:U):E->ba->X9
 |0,_=>A
 |n+1,.l1 x13 a=>WF n (QA q g pos at_ V n) q g pos at_ V x13 a
def TE(n:E)(q:AA)(g:AD)(pos:Ξ)(at_ V:U):X9:=uS n (QA q g pos at_ V n) q g pos at_ V
def zHg(n Ϝ:E)(N:Yd 0)(q:AA)(g:AD)(pos:Ξ)(at_ V:U)(r:ζ):ba->Prop:=px n Ϝ η N (FQ Tryz.f167 0 (.bool r) []) (Af Tryz.f167) λ
 | .l1 x13 a=>(0,0,AI 53 [(2,.ints pos),(3,.i at_),(4,.i V),(5,.ref 0 0),(6,.ref 1 0),(11,.msl 2 1 0<|F pos),(12,.i<|H g.ce (1-at_).toNat 0),(13,.i x13)],[oC<|AJ q,oC<|AW g,oI a])
def zHh(Ϝ:E)(N:Yd 0)(q:AA)(g:AD)(pos:Ξ)(at_ V:U):Al (QA q g pos at_ V) (zHg · Ϝ N q g pos at_ V):=ia (λ_=>rfl) λn G s r h=>by
 cases s
 case l1 x13 o2=>
  intro o j;refine rd j λo j=>?_
  revert r;apply gO;exact bi 26 (gc (gi (gc (gi (gc (gi (gc (gn λi=>jg i (gi (jg i (cf P5 (xG q g o2 at_ V x13) λ_=>bi 46 (gn λa=>cn λy2 K=>jc (sb [.agg 5<|L1<|AJ q,.agg 9<|L1<|AW g,.msl 2 1 0<|F pos] (zG0 K) (xG q g o2 at_ V x13) ⟨Am.plain Z5,Am.plain Z5,Am.ints rfl a,trivial⟩) (bi 51 (lE AC [10] []) (gw 28 (lG AC [0,1,2] (G _ _ · o j))))) (gw 28 (lG AC [0,1,2] (G _ _ · o j))))))))))))))<|lE AC [10] []
variable{at_:U}
def zHf{r:ζ}(h:TE n q g pos at_ V=Z r):EQ 167 [.agg 5<|L1<|AJ q,.agg 9<|L1<|AW g,.ints pos,.i at_,.i V] [] (.bool r) [] D:=by
 refine ot Tryz.func167 λϜ N=>?_
 revert r;apply gO;exact gc (gi (gc (gw 20 (gi (lN AC [0,1,2] ((zHh Ϝ N q g pos at_ V n) _ _ · n χ))))))
def zDt:Ac (Ah Tryz.f127 14) [([0,1,2,3,4,5],6),([],7)] [8] []:=Z0
def zDs:Ac (Ah Tryz.f127 16) [([0,1,2,3,4,5,6,7],8)] [9] []:=Z0
def Jn:BG:=λi=>match i with
 |14=>.ord [([0,1,2,3,4,5],6),([],7)] [8] []
 |16=>.ord [([0,1,2,3,4,5,6,7],8)] [9] []
 |_=>.no
inductive P9 where
 |l1 (x7:Ξ) (x8:U)
 |l2 (x7:Ξ) (x8 x9:U)
 |l3 (x7:Ξ) (x8 x9:U) (x10:ζ)
 |l4 (x7:Ξ) (x8 x9:U)
def kL(n:E)(self:P9->W6)(q:AA)(g:AD)(pos:Ξ)(J:Ξ)(x8:U):W6:=B (C<|x8<(F g.ce:U)) (self<|.l2 J x8 0)<|Z J
def WE(n:E)(self:P9->W6)(q:AA)(g:AD)(pos:Ξ)(J:Ξ)(x8 Y:U):W6:=B (C<|Y<q.sy) (B (g.kind==4) ((Kq n q g pos 0 (-1) x8 Y).bind λe=>self<|.l3 J x8 Y e)<|B (g.kind==5) ((HQ n g.set Y).bind λe=>(Eh n g pos 0 0 0 x8 e).bind λr=>self<|.l3 J x8 Y r)<|(TE n q g pos x8 Y).bind λe=>self<|.l3 J x8 Y e)<|u (AG<|x8+1) (self<|.l1 J<|x8+1) A
def kK(n:E)(self:P9->W6)(q:AA)(g:AD)(pos:Ξ)(J:Ξ)(x8 Y:U)(x10:ζ):W6:=u ((0<=x8/\x8<(F g.ce:U))/\(0<=H g.ce x8.toNat 0/\H g.ce x8.toNat 0<(F pos:U))) ((HQ n (H pos (H g.ce x8.toNat 0).toNat 0) Y).bind λe=>B e (B (!x10) (u (0<=Y/\Y<=(IntKind.i64.bits:U)) ((Fc n J (H g.ce x8.toNat 0)<|IntKind.i64.wrap<|1*2^(Y).toNat).bind λr=>self<|.l4 r x8 Y) A)<|self<|.l4 J x8 Y)<|self<|.l4 J x8 Y) A
def uQ(n:E)(self:P9->W6)(q:AA)(c_:AD)(pos:Ξ)(J:Ξ)(x8 Y:U):W6:=u (AG<|Y+1) (self<|.l2 J x8<|Y+1) A
def uR(n:E)(self:P9->W6)(q:AA)(c_:AD)(pos:Ξ):W6:=u (F pos=F (d (F pos) (0:U))/\(((F pos:U):U)=(F pos:U)/\0<=(F pos:U)/\((F pos:U):U)<=1000000000000)) (self<|.l1 (d (F pos) (0:U)) 0) A
def Fg(q:AA)(g:AD)(pos:Ξ):E->P9->W6
 |0,_=>A
 |n+1,.l1 J x8=>kL n (Fg q g pos n) q g pos J x8
 |n+1,.l2 J x8 Y=>WE n (Fg q g pos n) q g pos J x8 Y
 |n+1,.l3 J x8 Y x10=>kK n (Fg q g pos n) q g pos J x8 Y x10
 |n+1,.l4 J x8 Y=>uQ n (Fg q g pos n) q g pos J x8 Y
def TD(n:E)(q:AA)(g:AD)(pos:Ξ):W6:=uR n (Fg q g pos n) q g pos
def zHd(n Ϝ:E)(N:Yd 0)(q:AA)(g:AD)(pos:Ξ)(r:Ξ):P9->Prop:=px n Ϝ η N (FQ Tryz.f127 0 (.ints r) []) (Af Tryz.f127) λ
 | .l1 J x8=>(0,0,AI 77 [(2,.ints pos),(3,.ref 0 0),(4,.ref 1 0),(7,.ints J),(8,.i x8)],[oC<|AJ q,oC<|AW g])
 | .l2 J x8 Y=>(1,2,AI 77 [(2,.ints pos),(3,.ref 0 0),(4,.ref 1 0),(7,.ints J),(8,.i x8),(9,.i Y)],[oC<|AJ q,oC<|AW g])
 | .l3 J x8 Y x10=>(5,15,AI 77 [(2,.ints pos),(3,.ref 0 0),(4,.ref 1 0),(7,.ints J),(8,.i x8),(9,.i Y),(10,.bool x10)],[oC<|AJ q,oC<|AW g])
 | .l4 J x8 Y=>(5,7,AI 77 [(2,.ints pos),(3,.ref 0 0),(4,.ref 1 0),(7,.ints J),(8,.i x8),(9,.i Y)],[oC<|AJ q,oC<|AW g])
def zHe(Ϝ:E)(N:Yd 0)(q:AA)(g:AD)(pos:Ξ):Al (Fg q g pos) (zHd · Ϝ N q g pos):=ia (λ_=>rfl) λn G s r h=>by
 cases s
 case l1 x7 x8=>
  intro o j;refine rd j λo j=>?_
  revert r;apply gO;exact bi 18 (lN (AK 15<|AK 7 Jn) [0,1] (G _ _ · o n j χ))<|lE (AK 15<|AK 7 Jn) [6] []
 case l2 x7 x8 x9=>
  intro o w j z;have j:=zCG j;refine rd z λw z=>?_
  revert r;apply gO;exact bi 24 (bi 36 (cf zGk [oC<|AJ q,oC<|AW g] λ_=>lG (AK 15<|AK 7 Jn) [0,1] (G _ _ · o w j z)) (bi 44 (jg zDt (cf P5 [oC<|AJ q,oC<|AW g] λ_=>cf tZ [oC<|AJ q,oC<|AW g] λ_=>lG (AK 15<|AK 7 Jn) [0,1] (G _ _ · o w j z))) (cf zHf [oC<|AJ q,oC<|AW g] λ_=>lG (AK 15<|AK 7 Jn) [0,1] (G _ _ · o w j z)))) (gw 20 (lG (AK 15<|AK 7 Jn) [0,1] (G _ _ · o j)))
 case l3 x7 x8 x9 x10=>
  intro o w j z;have j:=zCG j;have z:=zCG z;revert r;apply gO;exact gc (gn λa=>jg a (gi (cf P5 [oC<|AJ q,oC<|AW g] λ_=>bi 62 (bi 65 (jg zDs (jg a (gi (cf Kt [oC<|AJ q,oC<|AW g] λ_=>lG (AK 7 Jn) [0,1] (G _ _ · o w j z))))) (lG (AK 7 Jn) [0,1] (G _ _ · o w j z))) (lG (AK 7 Jn) [0,1] (G _ _ · o w j z)))))
 case l4 x7 x8 x9=>
  intro o w j z;have j:=zCG j;have z:=zCG z;revert r;apply gO;exact gw 26 (lG (AK 15 Jn) [0,1] (G _ _ · o w j z))
def uP(h:TD n q g pos=Z r):EQ 127 [.agg 5<|L1<|AJ q,.agg 9<|L1<|AW g,.ints pos] [] (.ints r) [] D:=by
 refine ot Tryz.func127 λϜ N=>?_
 revert r;apply gO;exact gc (gn λj=>gi (jz 13 2 (jg j (lN (AK 15<|AK 7 Jn) [0,1] ((zHe Ϝ N q g pos n) _ _ · n χ)))))
def zDk:Ac (Ah Tryz.f161 6) [] (θ 24) [24]:=Z0
def VP:BG:=λi=>match i with
 |6=>.ord [] (θ 24) [24]
 |_=>.no
inductive bI where
 |l1 (x8:U) (o1:Ω)
def bG(n:E)(self:bI->W8)(g:AD)(pos:Ξ)(all:ζ)(x8:U)(o1:Ω):W8:=B (C<|x8<(F g.ce:U)) (u ((0<=x8/\x8<(F g.ce:U))/\(0<=H g.ce x8.toNat 0/\H g.ce x8.toNat 0<(F pos:U))) (B (bits .and .i64 (H pos (H g.ce x8.toNat 0).toNat 0) g.set != 0) (B (!all) (u (0+(H g.ce x8.toNat 0).toNat<F o1/\AG (x8+1)) (self<|.l1 (x8+1)<|o1.set (0+(H g.ce x8.toNat 0).toNat) D) A)<|u (0+(H g.ce x8.toNat 0).toNat<F o1/\AG (x8+1)) (self<|.l1 (x8+1)<|o1.set (0+(H g.ce x8.toNat 0).toNat)<|bits .and .i64 (H pos (H g.ce x8.toNat 0).toNat 0) g.set==H pos (H g.ce x8.toNat 0).toNat 0) A)<|u (0+(H g.ce x8.toNat 0).toNat<F o1/\AG (x8+1)) (self<|.l1 (x8+1)<|o1.set (0+(H g.ce x8.toNat 0).toNat) T) A) A)<|u (F pos=F o1) (Z o1) A
def tv(n:E)(self:bI->W8)(c_:AD)(pos:Ξ)(all:ζ):W8:=u (((F pos:U):U)=(F pos:U)/\0<=(F pos:U)/\((F pos:U):U)<=1000000000000) (self<|.l1 0<|d (F pos) T) A
def S0(g:AD)(pos:Ξ)(all:ζ):E->bI->W8
 |0,_=>A
 |n+1,.l1 x8 o1=>bG n (S0 g pos all n) g pos all x8 o1
def MD(n:E)(g:AD)(pos:Ξ)(all:ζ):W8:=tv n (S0 g pos all n) g pos all
def zG1(n Ϝ:E)(N:Yd 0)(g:AD)(pos:Ξ)(all:ζ)(r:Ω):bI->Prop:=px n Ϝ η N (FQ Tryz.f161 0 (.bools r) []) (Af Tryz.f161) λ
 | .l1 x8 o1=>(0,0,AI 53 [(1,.ints pos),(2,.bool all),(3,.ref 0 0),(7,.msl 1 1 0<|F pos),(8,.i x8)],[oC<|AW g,Z<|.bools o1])
def zG2(Ϝ:E)(N:Yd 0)(b:AD)(pos:Ξ)(all:ζ):Al (S0 b pos all) (zG1 · Ϝ N b pos all):=ia (λ_=>rfl) λn G c r h=>by
 cases c
 case l1 x8 o1=>
  intro o j;refine rd j λo j=>?_
  revert r;apply gO;exact bi 17 (gc (gn λa=>jg a (gn λs=>jg s (jg zDk (jg a (bi 38 (bi 41 (jg s (gc (gi (gw 19 (lG VP [0,1] (G _ _ · o j)))))) (jg s (gc (gi (gw 19 (lG VP [0,1] (G _ _ · o j))))))) (jg s (gc (gi (gw 19 (lG VP [0,1] (G _ _ · o j))))))))))))<|gn λa=>lF λp=>ez VP [6] [1] p [0]<|H0.g a
def bF{all:ζ}{r:Ω}(h:MD n g pos all=Z r):EQ 161 [.agg 9<|L1<|AW g,.ints pos,.bool all] [] (.bools r) [] D:=by
 refine ot Tryz.func161 λϜ N=>?_
 revert r;apply gO;exact gi (lN VP [0,1] ((zG2 Ϝ N g pos all n) _ _ · n χ))
inductive bQ where
 |l1 (x3:U)
def bP(n:E)(self:bQ->W5)(N:Ω)(S:U):W5:=B (C<|S<(F N:U)) (u (0<=S/\S<(F N:U)) (B (H N S.toNat T) (Z S)<|u (AG<|S+1) (self<|.l1<|S+1) A) A)<|Z<|-1
def zHI(n:E)(self:bQ->W5)(AH:Ω):W5:=self<|.l1 0
def Nu(N:Ω):E->bQ->W5
 |0,_=>A
 |n+1,.l1 S=>bP n (Nu N n) N S
def S9(n:E)(N:Ω):W5:=zHI n (Nu N n) N
def zHJ(n Ϝ:E)(N:Yd 0)(a:Ω)(r:U):bQ->Prop:=px n Ϝ η N (FQ Tryz.f162 0 (.i r) []) (Af Tryz.f162) λ
 | .l1 S=>(0,0,AI 15 [(0,.bools a),(3,.i S)],[])
def zHK(Ϝ:E)(N:Yd 0)(a:Ω):Al (Nu a) (zHJ · Ϝ N a):=ia (λ_=>rfl) λn G s r h=>by
 cases s
 case l1 x3=>
  intro o j;refine rd j λo j=>?_
  revert r;apply gO;exact bi 7 (gi (bi 13 (lE AC [2] []) (gw 9 (lG AC [] (G _ _ · o j)))))<|lE AC [2] []
variable{a:Ω}
def uG{r:U}(h:S9 n a=Z r):EQ 162 [.bools a] [] (.i r) [] D:=by
 refine ot Tryz.func162 λϜ N=>?_
 revert r;apply gO;exact lN AC [] ((zHK Ϝ N a n) _ _ · n χ)
inductive Sx where
 |l1 (x8:ζ) (o0:Ω)
 |l2 (x8:ζ) (x9:U) (o0:Ω)
 |l3 (x8:ζ) (x9 x10:U) (o0:Ω)
def kA(n:E)(self:Sx->W8)(I:O Ξ)(AH:Ω)(start:U)(x8:ζ)(o0:Ω):W8:=B x8 (self<|.l2 T 0 o0)<|u (F I=F o0) (Z o0) A
def j9(n:E)(self:Sx->W8)(I:O Ξ)(AH:Ω)(start:U)(x8:ζ)(Y:U)(o0:Ω):W8:=B (C<|Y<(F I:U)) (self<|.l3 x8 Y 0 o0)<|self<|.l1 x8 o0
def V7(n:E)(self:Sx->W8)(I:O Ξ)(N:Ω)(start:U)(x8:ζ)(Y x10:U)(o0:Ω):W8:=u (0<=Y/\Y<(F I:U)) (B (C<|x10<((F<|H I Y.toNat []:E):U)) (u (0+Y.toNat<F o0) (B (H o0 (0+Y.toNat) T) (u ((0<=x10/\x10<((F<|H I Y.toNat []:E):U))/\((0:U)<=H (H I Y.toNat []) x10.toNat 0/\H (H I Y.toNat []) x10.toNat 0<(F N:U))) (B (H N (H (H I Y.toNat []) x10.toNat 0).toNat T) (u (((0:U)<=H (H I Y.toNat []) x10.toNat 0/\H (H I Y.toNat []) x10.toNat 0<(F I:U))/\0+(H (H I Y.toNat []) x10.toNat 0).toNat<F o0) (B (!(H o0 (0+(H (H I Y.toNat []) x10.toNat 0).toNat) T)) (u (AG<|x10+1) (self<|.l3 D Y (x10+1)<|o0.set (0+(H (H I Y.toNat []) x10.toNat 0).toNat) D) A)<|u (AG<|x10+1) (self<|.l3 x8 Y (x10+1) o0) A) A)<|u (AG<|x10+1) (self<|.l3 x8 Y (x10+1) o0) A) A)<|u (AG<|x10+1) (self<|.l3 x8 Y (x10+1) o0) A) A)<|u (AG<|Y+1) (self<|.l2 x8 (Y+1) o0) A) A
def tm(n:E)(self:Sx->W8)(I:O Ξ)(AH:Ω)(start:U):W8:=u ((((F I:U):U)=(F I:U)/\0<=(F I:U)/\((F I:U):U)<=1000000000000)/\(0<=start/\start<(F I:U))/\0+start.toNat<F (d (F I) T)) (self<|.l1 D<|(d (F I) T).set (0+start.toNat) D) A
def GY(I:O Ξ)(N:Ω)(start:U):E->Sx->W8
 |0,_=>A
 |n+1,.l1 x8 o0=>kA n (GY I N start n) I N start x8 o0
 |n+1,.l2 x8 Y o0=>j9 n (GY I N start n) I N start x8 Y o0
 |n+1,.l3 x8 Y x10 o0=>V7 n (GY I N start n) I N start x8 Y x10 o0
def Gv(n:E)(I:O Ξ)(N:Ω)(start:U):W8:=tm n (GY I N start n) I N start
def zGp(n Ϝ:E)(N:Yd 0)(I:O Ξ)(a:Ω)(start:U)(r:Ω):Sx->Prop:=px n Ϝ η N (FQ Tryz.f130 0 (.bools r) []) (Af Tryz.f130) λ
 | .l1 x8 o0=>(0,0,AI 72 [(0,.sl 1 (F I)<|AM AS I),(1,.bools a),(7,.msl 0 1 0<|F I),(8,.bool x8)],[Z<|.bools o0])
 | .l2 x8 Y o0=>(1,2,AI 72 [(0,.sl 1 (F I)<|AM AS I),(1,.bools a),(7,.msl 0 1 0<|F I),(8,.bool x8),(9,.i Y)],[Z<|.bools o0])
 | .l3 x8 Y x10 o0=>(2,4,AI 72 [(0,.sl 1 (F I)<|AM AS I),(1,.bools a),(7,.msl 0 1 0<|F I),(8,.bool x8),(9,.i Y),(10,.i x10)],[Z<|.bools o0])
def zGq(Ϝ:E)(N:Yd 0)(I:O Ξ)(c:Ω)(start:U):Al (GY I c start) (zGp · Ϝ N I c start):=ia (λ_=>rfl) λn G s r h=>by
 cases s
 case l1 x8 o0=>
  intro o j;refine rd j λo j=>?_
  revert r;apply gO;exact bi 17 (lN AC [0] (G _ _ · o n j χ))<|gn λa=>lF λp=>ez AC [6] [0] p [0]<|H0.g a
 case l2 x8 x9 o0=>
  intro o w j z;have j:=zCG j;refine rd z λw z=>?_
  revert r;apply gO;exact bi 21 (lN AC [0] (G _ _ · o w n j z χ)) (lG AC [0] (G _ _ · o j))
 case l3 x8 x9 x10 o0=>
  intro o w y j z S;have j:=zCG j;have z:=zCG z;refine rd S λy S=>?_
  revert r;apply gO;exact gn λa=>jg a (bi 30 (jg a (gi (bi 36 (jg a (gc (gn λb=>jg b (gi (bi 47 (jg a (jg b (gc (gn λJ=>jg J (gn λV=>jg V (bi 60 (jg a (jg b (jg J (jg V (gw 32 (lG AC [0] (G _ _ · o w y j z S))))))) (gw 32 (lG AC [0] (G _ _ · o w y j z S))))))))) (gw 32 (lG AC [0] (G _ _ · o w y j z S)))))))) (gw 32 (lG AC [0] (G _ _ · o w y j z S)))))) (gw 23 (lG AC [0] (G _ _ · o w j z))))
variable{start:U}{I:O Ξ}
def Sw{r:Ω}(h:Gv n I a start=Z r):EQ 130 [.sl 1 (F I)<|AM AS I,.bools a,.i start] [] (.bools r) [] D:=by
 refine ot Tryz.func130 λϜ N=>?_
 revert r;apply gO;exact gc (gi (gc (gi (gi (lN AC [0] ((zGq Ϝ N I a start n) _ _ · n χ))))))
inductive S6 where
 |l1 (x4:U)
 |l2 (x3:E) (x4:U) (o0:Ξ)
def Kv(n:E)(self:S6->W6)(N:Ω)(f:U):W6:=B (C<|f<(F N:U)) (u (0<=f/\f<(F N:U)) (B (H N f.toNat T) (u (((0=0/\1=F ([f]:Ξ))/\0<F ([f]:Ξ)/\F ([f]:Ξ)<=Aw)/\AG (f+1)) (self<|.l2 (F ([f]:Ξ)) (f+1) ([f]:Ξ)) A)<|u (AG<|f+1) (self<|.l1<|f+1) A) A)<|Z ([]:Ξ)
def Ku(n:E)(self:S6->W6)(N:Ω)(S:E)(f:U)(o0:Ξ):W6:=B (C<|f<(F N:U)) (u (0<=f/\f<(F N:U)) (B (H N f.toNat T) (u (((0=0/\1=F ([f]:Ξ))/\(0=0/\S=F o0)/\F o0+F ([f]:Ξ)<=Aw)/\AG (f+1)) (self<|.l2 (F o0+F ([f]:Ξ)) (f+1)<|o0++([f]:Ξ)) A)<|u (AG<|f+1) (self<|.l2 S (f+1) o0) A) A)<|u (S=F o0) (Z o0) A
def zG9(n:E)(self:S6->W6)(AH:Ω):W6:=self<|.l1 0
def Fd(N:Ω):E->S6->W6
 |0,_=>A
 |n+1,.l1 f=>Kv n (Fd N n) N f
 |n+1,.l2 S f o0=>Ku n (Fd N n) N S f o0
def Kw(n:E)(N:Ω):W6:=zG9 n (Fd N n) N
def zHA(n Ϝ:E)(N:Yd 0)(a:Ω)(r:Ξ):S6->Prop:=px n Ϝ η N (FQ Tryz.f129 0 (.ints r) []) (Af Tryz.f129) λ
 | .l1 f=>(0,0,AI 20 [(0,.bools a),(3,.nils),(4,.i f)],[])
 | .l2 S f o0=>(0,0,AI 20 [(0,.bools a),(3,.msl 0 1 0 S),(4,.i f)],[oI o0])
def zHB(Ϝ:E)(N:Yd 0)(a:Ω):Al (Fd a) (zHA · Ϝ N a):=ia (λ_=>rfl) λn G s r h=>by
 cases s
 case l1 x4=>
  intro o j;refine rd j λo j=>?_
  revert r;apply gO;exact bi 8 (gi (bi 14 (gc (gi (gw 10 (lG AC [1] (G _ _ · o j))))) (gw 10 (lG AC [] (G _ _ · o j)))))<|lF λp=>el AC [2] [] p [] H0 [.nils] AO.ints_nil
 case l2 x3 x4 o0=>
  intro o j;refine rd j λo j=>?_
  revert r;apply gO;exact bi 8 (gi (bi 14 (gc (gi (gw 10 (lG AC [2] (G _ _ · o j))))) (gw 10 (lG AC [0] (G _ _ · o j)))))<|gn λb=>lF λp=>ez AC [2] [0] p [0]<|H0.g b
def bK(h:Kw n a=Z r):EQ 129 [.bools a] [] (.ints r) [] D:=by
 refine ot Tryz.func129 λϜ N=>?_
 revert r;apply gO;exact lN AC [] ((zHB Ϝ N a n) _ _ · n χ)
def kJ(n:E)(I:O Ξ)(N:Ω)(start:U):X8:=(Kp n I).bind λe=>B (e != 0) (Z (([]:Ξ),120))<|B ((F N:U) != (F I:U)) (Z (([]:Ξ),1))<|B (C<|start<0) (Z (([]:Ξ),1))<|B (C<|start>=(F I:U)) (Z (([]:Ξ),1))<|u (0<=start/\start<(F N:U)) (B (!(H N start.toNat T)) (Z (([]:Ξ),1))<|(Gv n I N start).bind λr=>(Kw n r).bind λy3=>Z (y3,0)) A
def WD(n:E)(I:O Ξ)(N:Ω)(start:U):X8:=kJ n I N start
def zHb{r:Ξ×U}(h:WD n I a start=Z r):EQ 187 [.sl 1 (F I)<|AM AS I,.bools a,.i start] [] (.tup 2<|L1 [.ints r.1,.i r.2]) [] D:=by
 unfold WD kJ at h;refine ot Tryz.func187 λϜ N=>?_
 revert r;apply gO;exact cf Vz [] λ_=>bi 10 (lF λp=>el AC [6,7] [] p [] H0 [.nils,.i 120]<|AO.tupL (l:=[.nils,.i 120]) (l':=[.ints ([]:Ξ),.i 120]) rfl ⟨AO.ints_nil,Ab,trivial⟩)<|bi 15 (lF λp=>el AC [6,7] [] p [] H0 [.nils,.i 1]<|AO.tupL (l:=[.nils,.i 1]) (l':=[.ints ([]:Ξ),.i 1]) rfl ⟨AO.ints_nil,Ab,trivial⟩)<|bi 18 (lF λp=>el AC [6,7] [] p [] H0 [.nils,.i 1]<|AO.tupL (l:=[.nils,.i 1]) (l':=[.ints ([]:Ξ),.i 1]) rfl ⟨AO.ints_nil,Ab,trivial⟩)<|bi 24 (lF λp=>el AC [6,7] [] p [] H0 [.nils,.i 1]<|AO.tupL (l:=[.nils,.i 1]) (l':=[.ints ([]:Ξ),.i 1]) rfl ⟨AO.ints_nil,Ab,trivial⟩)<|gi<|bi 31 (lF λp=>el AC [6,7] [] p [] H0 [.nils,.i 1]<|AO.tupL (l:=[.nils,.i 1]) (l':=[.ints ([]:Ξ),.i 1]) rfl ⟨AO.ints_nil,Ab,trivial⟩)<|cf Sw [] λ_=>cf bK [] λ_=>lE AC [6,7] []
def tR(n:E)(N:Ω)(at_:U):W8:=u ((True/\(0=0/\0=F ([]:Ω))/\F ([]:Ω)+F N<=Aw)/\(0<=at_/\at_<((F ([]:Ω)+F N:E):U))/\0+at_.toNat<F (([]:Ω)++N)) (u (F ([]:Ω)+F N=F ((([]:Ω)++N).set (0+at_.toNat) T)) (Z<|(([]:Ω)++N).set (0+at_.toNat) T) A) A
def aw(n:E)(N:Ω)(at_:U):W8:=tR n N at_
def zGX{r:Ω}(h:aw n a at_=Z r):EQ 188 [.bools a,.i at_] [] (.bools r) [] D:=by
 refine ot Tryz.func188 λϜ N=>?_
 revert r;apply gO;exact gc<|gi<|gc<|gi<|gi<|gn λb=>lF λp=>ez AC [4] [1] p [0]<|H0.g b
inductive V3 where
 |l1 (x10:U)
 |l2 (x10:U) (AQ AT:Ω) (x13:U)
def az(n:E)(self:V3->X4)(I:O Ξ)(N a:Ω)(at_:U)(x10:U):X4:=B (C<|x10<(F I:U)) (B (x10==at_) (u (AG<|x10+1) (self<|.l1<|x10+1) A)<|u (0<=x10/\x10<(F N:U)) (B (!(H N x10.toNat T)) (u (AG<|x10+1) (self<|.l1<|x10+1) A)<|u (0<=x10/\x10<(F a:U)) (B (!(H a x10.toNat T)) (u (AG<|x10+1) (self<|.l1<|x10+1) A)<|(Gv n I N x10).bind λe=>(aw n N at_).bind λr=>(Gv n I r x10).bind λy3=>self<|.l2 x10 e y3 0) A) A)<|Z (T,0)
def V2(n:E)(self:V3->X4)(I:O Ξ)(N a:Ω)(at_:U)(x10:U)(k G:Ω)(x13:U):X4:=B (C<|x13<(F I:U)) (B (x13 != at_) (u (0<=x13/\x13<(F N:U)) (B (H N x13.toNat T) (u (0<=x13/\x13<(F a:U)) (B (H a x13.toNat T) (u (0<=x13/\x13<(F k:U)) (B (H k x13.toNat T) (u (0<=x13/\x13<(F G:U)) (B (!(H G x13.toNat T)) (Z (D,0))<|u (AG<|x13+1) (self<|.l2 x10 k G<|x13+1) A) A)<|u (AG<|x13+1) (self<|.l2 x10 k G<|x13+1) A) A)<|u (AG<|x13+1) (self<|.l2 x10 k G<|x13+1) A) A)<|u (AG<|x13+1) (self<|.l2 x10 k G<|x13+1) A) A)<|u (AG<|x13+1) (self<|.l2 x10 k G<|x13+1) A)<|u (AG<|x10+1) (self<|.l1<|x10+1) A
def tU(n:E)(self:V3->X4)(I:O Ξ)(N a:Ω)(at_:U):X4:=(Kp n I).bind λe=>B (e != 0) (Z (T,120))<|B ((F N:U) != (F I:U)) (Z (T,1))<|B ((F a:U) != (F I:U)) (Z (T,1))<|B (C<|at_<0) (Z (T,1))<|B (C<|at_>=(F I:U)) (Z (T,1))<|u (0<=at_/\at_<(F N:U)) (B (!(H N at_.toNat T)) (Z (T,0))<|self<|.l1 0) A
def Fb(I:O Ξ)(N a:Ω)(at_:U):E->V3->X4
 |0,_=>A
 |n+1,.l1 x10=>az n (Fb I N a at_ n) I N a at_ x10
 |n+1,.l2 x10 k G x13=>V2 n (Fb I N a at_ n) I N a at_ x10 k G x13
def a7(n:E)(I:O Ξ)(N a:Ω)(at_:U):X4:=tU n (Fb I N a at_ n) I N a at_
def zGe(n Ϝ:E)(N:Yd 0)(I:O Ξ)(a b:Ω)(at_:U)(r:ζ×U):V3->Prop:=px n Ϝ η N (FQ Tryz.f164 0 (.tup 2<|L1 [.bool r.1,.i r.2]) []) (Af Tryz.f164) λ
 | .l1 x10=>(0,0,AI 111 [(0,.sl 1 (F I)<|AM AS I),(1,.bools a),(2,.bools b),(3,.i at_),(10,.i x10)],[])
 | .l2 x10 k G x13=>(1,2,AI 111 [(0,.sl 1 (F I)<|AM AS I),(1,.bools a),(2,.bools b),(3,.i at_),(10,.i x10),(11,.bools k),(12,.bools G),(13,.i x13)],[])
def zGf(Ϝ:E)(N:Yd 0)(I:O Ξ)(a b:Ω)(at_:U):Al (Fb I a b at_) (zGe · Ϝ N I a b at_):=ia (λ_=>rfl) λn G s r h=>by
 cases s
 case l1 x10=>
  intro o j;refine rd j λo j=>?_
  revert r;apply gO;exact bi 47 (bi 52 (gw 49 (lG AC [] (G _ _ · o j))) (gi (bi 58 (gw 49 (lG AC [] (G _ _ · o j))) (gi (bi 65 (gw 49 (lG AC [] (G _ _ · o j))) (cf Sw [] λ_=>cf zGX [] λ_=>cf Sw [] λ_=>lN AC [] (G _ _ · o n j χ)))))))<|lE AC [8,9] []
 case l2 x10 AQ AT x13=>
  intro o w j z;have j:=zCG j;refine rd z λw z=>?_
  revert r;apply gO;exact bi 80 (bi 85 (gi (bi 90 (gi (bi 96 (gi (bi 102 (gi (bi 109 (lE AC [8,9] []) (gw 82 (lG AC [] (G _ _ · o w j z))))) (gw 82 (lG AC [] (G _ _ · o w j z))))) (gw 82 (lG AC [] (G _ _ · o w j z))))) (gw 82 (lG AC [] (G _ _ · o w j z))))) (gw 82 (lG AC [] (G _ _ · o w j z)))) (gw 49 (lG AC [] (G _ _ · o j)))
def jx{b:Ω}{r:ζ×U}(h:a7 n I a b at_=Z r):EQ 164 [.sl 1 (F I)<|AM AS I,.bools a,.bools b,.i at_] [] (.tup 2<|L1 [.bool r.1,.i r.2]) [] D:=by
 refine ot Tryz.func164 λϜ N=>?_
 revert r;apply gO;exact cf Vz [] λ_=>bi 16 (lE AC [8,9] []) (bi 21 (lE AC [8,9] []) (bi 27 (lE AC [8,9] []) (bi 31 (lE AC [8,9] []) (bi 37 (lE AC [8,9] []) (gi (bi 43 (lE AC [8,9] []) (lN AC [] ((zGf Ϝ N I a b at_ n) _ _ · n χ))))))))
def zDu:Ac (Ah Tryz.f163 7) [([0,1,2,3,4,5,6,7,8],9)] [10] []:=Z0
def VQ:BG:=λi=>match i with
 |7=>.ord [([0,1,2,3,4,5,6,7,8],9)] [10] []
 |_=>.no
inductive be where
 |l1 (AQ AT:Ξ) (A4:U)
def bc(n:E)(self:be->W6)(q:AA)(g:AD)(pos:Ξ)(p:Ω)(start:U)(k G:Ξ)(a:U):W6:=B (C<|a<(F pos:U)) (u (0<=a/\a<(F p:U)) (B (H p a.toNat T) ((has n G a).bind λe=>B (!e) (u (0<=a/\a<(F pos:U)) ((Fc n k a<|bits .and .i64 (H pos a.toNat 0) g.set).bind λr=>u (AG<|a+1) (self<|.l1 r G<|a+1) A) A)<|u (AG<|a+1) (self<|.l1 k G<|a+1) A)<|u (AG<|a+1) (self<|.l1 k G<|a+1) A) A)<|Z k
def uW(n:E)(self:be->W6)(q:AA)(c_:AD)(pos:Ξ)(p:Ω)(start:U):W6:=u (F pos=F (d (F pos) (0:U))/\(((F pos:U):U)=(F pos:U)/\0<=(F pos:U)/\((F pos:U):U)<=1000000000000)) ((WD n q.nb p start).bind λe=>self<|.l1 (d (F pos) (0:U)) e.1 0) A
def Kz(q:AA)(g:AD)(pos:Ξ)(p:Ω)(start:U):E->be->W6
 |0,_=>A
 |n+1,.l1 k G a=>bc n (Kz q g pos p start n) q g pos p start k G a
def Ny(n:E)(q:AA)(g:AD)(pos:Ξ)(p:Ω)(start:U):W6:=uW n (Kz q g pos p start n) q g pos p start
def zHi(n Ϝ:E)(N:Yd 0)(q:AA)(g:AD)(pos:Ξ)(p:Ω)(start:U)(r:Ξ):be->Prop:=px n Ϝ η N (FQ Tryz.f163 0 (.ints r) []) (Af Tryz.f163) λ
 | .l1 k G a=>(0,0,AI 53 [(2,.ints pos),(3,.bools p),(6,.ref 0 0),(11,.ints k),(12,.ints G),(14,.i a)],[oC<|AW g])
def zHj(Ϝ:E)(N:Yd 0)(q:AA)(g:AD)(pos:Ξ)(p:Ω)(start:U):Al (Kz q g pos p start) (zHi · Ϝ N q g pos p start):=ia (λ_=>rfl) λn G s r h=>by
 cases s
 case l1 AQ AT A4=>
  intro o j;refine rd j λo j=>?_
  revert r;apply gO;exact bi 29 (gi (bi 35 (cf nD [oC<|AW g] λ_=>bi 40 (jg zDu (gi (cf Kt [oC<|AW g] λ_=>gw 31 (lG VQ [0] (G _ _ · o j))))) (gw 31 (lG VQ [0] (G _ _ · o j)))) (gw 31 (lG VQ [0] (G _ _ · o j)))))<|lE VQ [10] []
def uV{p:Ω}(h:Ny n q g pos p start=Z r):EQ 163 [.agg 5<|L1<|AJ q,.agg 9<|L1<|AW g,.ints pos,.bools p,.i start] [] (.ints r) [] D:=by
 refine ot Tryz.func163 λϜ N=>?_
 revert r;apply gO;exact gc (gn λj=>gi (jz 17 2 (jg j (cf zHb [oC<|AJ q,oC<|AW g,A] λ_=>lN VQ [1] ((zHj Ϝ N q g pos p start n) _ _ · n χ)))))
def zDr:Ac (Ah Tryz.f124 12) [([0,1,2,3,4,5,6,7,8,9,10,11,12,13],14)] [15] []:=Z0
def Pj:BG:=λi=>match i with
 |12=>.ord [([0,1,2,3,4,5,6,7,8,9,10,11,12,13],14)] [15] []
 |_=>.no
inductive bY where
 |l1 (x7 x8:Ω) (x10:Ξ) (AQ:U)
def bX(n:E)(self:bY->W6)(q:AA)(g:AD)(pos:Ξ)(J x8:Ω)(x10:Ξ)(k:U):W6:=B (C<|k<(F pos:U)) ((a7 n q.nb J x8 k).bind λe=>u (0<=k/\k<(F J:U)) (B (H J k.toNat T) (u (0<=k/\k<(F x8:U)) (B (!(H x8 k.toNat T)) (B e.1 (u ((0<=k/\k<(F pos:U))/\AG (H pos k.toNat 0-bits .and .i64 (H pos k.toNat 0) g.set)) ((Fc n x10 k<|H pos k.toNat 0-bits .and .i64 (H pos k.toNat 0) g.set).bind λr=>u (AG<|k+1) (self<|.l1 J x8 r<|k+1) A) A)<|u (AG<|k+1) (self<|.l1 J x8 x10<|k+1) A)<|u (AG<|k+1) (self<|.l1 J x8 x10<|k+1) A) A)<|u (AG<|k+1) (self<|.l1 J x8 x10<|k+1) A) A)<|Z x10
def zHX(n:E)(self:bY->W6)(q:AA)(g:AD)(pos:Ξ):W6:=(MD n g pos T).bind λe=>(MD n g pos D).bind λr=>(S9 n r).bind λy3=>B (C<|y3<0) (u (F pos=F (d (F pos) (0:U))/\(((F pos:U):U)=(F pos:U)/\0<=(F pos:U)/\((F pos:U):U)<=1000000000000)) (Z<|d (F pos) (0:U)) A)<|(Ny n q g pos e y3).bind λQ=>self<|.l1 e r Q 0
def Ky(q:AA)(g:AD)(pos:Ξ):E->bY->W6
 |0,_=>A
 |n+1,.l1 J x8 x10 k=>bX n (Ky q g pos n) q g pos J x8 x10 k
def kI(n:E)(q:AA)(g:AD)(pos:Ξ):W6:=zHX n (Ky q g pos n) q g pos
def zHZ(n Ϝ:E)(N:Yd 0)(q:AA)(g:AD)(pos:Ξ)(r:Ξ):bY->Prop:=px n Ϝ η N (FQ Tryz.f124 0 (.ints r) []) (Af Tryz.f124) λ
 | .l1 J x8 x10 k=>(0,0,AI 78 [(2,.ints pos),(3,.ref 0 0),(4,.ref 1 0),(7,.bools J),(8,.bools x8),(10,.ints x10),(11,.i k)],[oC<|AJ q,oC<|AW g])
def zHa(Ϝ:E)(N:Yd 0)(q:AA)(g:AD)(pos:Ξ):Al (Ky q g pos) (zHZ · Ϝ N q g pos):=ia (λ_=>rfl) λn G b r h=>by
 cases b
 case l1 x7 x8 x10 AQ=>
  intro o j;refine rd j λo j=>?_
  revert r;apply gO;exact bj 36 (λY=>cn λy1 f=>jc (fb (jx f) [oC<|AJ q,oC<|AW g]) (gn λa=>jg a (bj 51 (λQ=>gn λs=>jg s (bj 57 (λp=>bn (λJ=>rO (jb 36 Y (jc (fb (jx f) [oC<|AJ q,oC<|AW g]) (jb 46 J (jg a (jb 51 Q (jg s (jb 57 p (jg zDr (gc (gn λy=>jg y (jg y (gw 75 (cf Kt [oC<|AJ q,oC<|AW g] λ_=>gw 38 (lG Pj [0,1] (G _ _ · o j)))))))))))))))) (λJ=>rO (jb 36 Y (jc (fb (jx f) [oC<|AJ q,oC<|AW g]) (jb 46 J (jg a (jb 51 Q (jg s (jb 57 p (gw 38 (lG Pj [0,1] (G _ _ · o j)))))))))))) (λ_=>gw 38 (lG Pj [0,1] (G _ _ · o j))))) (λ_=>gw 38 (lG Pj [0,1] (G _ _ · o j)))))) λ_=>lE Pj [6] []
def zHW(h:kI n q g pos=Z r):EQ 124 [.agg 5<|L1<|AJ q,.agg 9<|L1<|AW g,.ints pos] [] (.ints r) [] D:=by
 refine ot Tryz.func124 λϜ N=>?_
 revert r;apply gO;exact cf bF [oC<|AJ q,oC<|AW g] λ_=>cf bF [oC<|AJ q,oC<|AW g] λ_=>cf uG [oC<|AJ q,oC<|AW g] λ_=>bi 23 (gc<|gn λj=>gi<|jz 26 2<|jg j<|lE Pj [6] []) (cf uV [oC<|AJ q,oC<|AW g] λ_=>lN Pj [0,1] ((zHa Ϝ N q g pos n) _ _ · n χ))
inductive bA where
 |l1 (x7:E) (x8:U) (o1:Ξ)
def a8(n:E)(self:bA->W6)(q:AA)(cell:U)(N:Ω)(J:E)(x8:U)(o1:Ξ):W6:=u (0<=cell/\cell<(F q.nb:U)) (B (C<|x8<((F<|H q.nb cell.toNat []:E):U)) (u ((0<=x8/\x8<((F<|H q.nb cell.toNat []:E):U))/\((0:U)<=H (H q.nb cell.toNat []) x8.toNat 0/\H (H q.nb cell.toNat []) x8.toNat 0<(F N:U))) (B (H N (H (H q.nb cell.toNat []) x8.toNat 0).toNat T) (u (((0=0/\1=F ([H (H q.nb cell.toNat []) x8.toNat 0]:Ξ))/\(0=0/\J=F o1)/\F o1+F ([H (H q.nb cell.toNat []) x8.toNat 0]:Ξ)<=Aw)/\AG (x8+1)) (self<|.l1 (F o1+F ([H (H q.nb cell.toNat []) x8.toNat 0]:Ξ)) (x8+1)<|o1++([H (H q.nb cell.toNat []) x8.toNat 0]:Ξ)) A)<|u (AG<|x8+1) (self<|.l1 J (x8+1) o1) A) A)<|u (J=F o1) (Z o1) A) A
def zGg(n:E)(self:bA->W6)(q:AA)(cell:U)(AH:Ω):W6:=self<|.l1 0 0 ([]:Ξ)
def Su(q:AA)(cell:U)(N:Ω):E->bA->W6
 |0,_=>A
 |n+1,.l1 J x8 o1=>a8 n (Su q cell N n) q cell N J x8 o1
def bB(n:E)(q:AA)(cell:U)(N:Ω):W6:=zGg n (Su q cell N n) q cell N
def zGh(n Ϝ:E)(N:Yd 0)(q:AA)(cell:U)(a:Ω)(r:Ξ):bA->Prop:=px n Ϝ η N (FQ Tryz.f165 0 (.ints r) []) (Af Tryz.f165) λ
 | .l1 J x8 o1=>(0,0,AI 43 [(1,.i cell),(2,.bools a),(3,.ref 0 0),(7,.msl 1 1 0 J),(8,.i x8)],[oC<|AJ q,oI o1])
def zGi(Ϝ:E)(N:Yd 0)(q:AA)(cell:U)(b:Ω):Al (Su q cell b) (zGh · Ϝ N q cell b):=ia (λ_=>rfl) λn G c r h=>by
 cases c
 case l1 x7 x8 o1=>
  intro o j;refine rd j λo j=>?_
  revert r;apply gO;exact gn λa=>jg a (bi 17 (jg a (gc (gn λs=>jg s (gi (bi 30 (jg a (jg s (gc (gi (gw 19 (lG AC [0,3] (G _ _ · o j))))))) (gw 19 (lG AC [0,1] (G _ _ · o j))))))))<|gn λs=>lF λp=>ez AC [6] [1] p [0]<|H0.g s)
def tX(h:bB n q cell a=Z r):EQ 165 [.agg 5<|L1<|AJ q,.i cell,.bools a] [] (.ints r) [] D:=by
 refine ot Tryz.func165 λϜ N=>?_
 revert r;apply gO;exact lN AC [0,1] ((zGi Ϝ N q cell a n) _ _ · n χ)
def zDm:Ac (Ah Tryz.f125 19) [([0,1,2,3,4,5,6,7,8,9,10,11,12,13,14,15,16,17,18,19,20,21,22],23)] [24] []:=Z0
def zDl:Ac (Ah Tryz.f125 21) [([0,1,2,3,4,5,6,7,8,9,10,11,12,13,14],15)] [16] []:=Z0
def Hx:BG:=λi=>match i with
 |19=>.ord [([0,1,2,3,4,5,6,7,8,9,10,11,12,13,14,15,16,17,18,19,20,21,22],23)] [24] []
 |21=>.ord [([0,1,2,3,4,5,6,7,8,9,10,11,12,13,14],15)] [16] []
 |_=>.no
inductive P4 where
 |l1 (x8 x9:Ω) (AQ:Ξ) (AT:U)
 |l2 (x8 x9:Ω) (AQ:Ξ) (AT:U) (x13 A4:Ξ) (Au:U)
 |l3 (x8 x9:Ω) (AQ:Ξ) (AT:U) (x13 A4:Ξ) (Au:U)
 |l4 (x8 x9:Ω) (AQ:Ξ) (AT:U) (x13 A4:Ξ) (Au:U)
def bJ(n:E)(self:P4->X7)(q:AA)(c_:AD)(pos:Ξ)(x8 Y:Ω)(k:Ξ)(G:U):X7:=B (C<|G<(F pos:U)) (u (0<=G/\G<(F Y:U)) (B (!(H Y G.toNat T)) (u (AG<|G+1) (self<|.l1 x8 Y k<|G+1) A)<|(bB n q G x8).bind λe=>(bB n q G Y).bind λr=>B (C<|(F e:U)<2) (Z (k,T))<|B (C<|(F r:U)>2) (Z (k,T))<|self<|.l2 x8 Y k G e r 0) A)<|Z (k,D)
def P0(n:E)(self:P4->X7)(q:AA)(g:AD)(pos:Ξ)(x8 a:Ω)(k:Ξ)(G:U)(x13 b:Ξ)(Y:U):X7:=B (C<|Y<(F x13:U)) (B ((F x13:U)==2) (u ((0<=Y/\Y<(F x13:U))/\(0<=H x13 Y.toNat 0/\H x13 Y.toNat 0<(F pos:U))/\AG (H pos (H x13 Y.toNat 0).toNat 0-bits .and .i64 (H pos (H x13 Y.toNat 0).toNat 0) g.set)) ((Fc n k (H x13 Y.toNat 0)<|H pos (H x13 Y.toNat 0).toNat 0-bits .and .i64 (H pos (H x13 Y.toNat 0).toNat 0) g.set).bind λe=>self<|.l3 x8 a e G x13 b Y) A)<|self<|.l3 x8 a k G x13 b Y)<|u (AG<|G+1) (self<|.l1 x8 a k<|G+1) A
def S5(n:E)(self:P4->X7)(q:AA)(g:AD)(pos:Ξ)(x8 a:Ω)(k:Ξ)(G:U)(x13 b:Ξ)(Y:U):X7:=B ((F b:U)==2) (u ((0<=Y/\Y<(F x13:U))/\(0<=H x13 Y.toNat 0/\H x13 Y.toNat 0<(F a:U))) (B (!(H a (H x13 Y.toNat 0).toNat T)) (u (0<=H x13 Y.toNat 0/\H x13 Y.toNat 0<(F pos:U)) ((Fc n k (H x13 Y.toNat 0)<|bits .and .i64 (H pos (H x13 Y.toNat 0).toNat 0) g.set).bind λe=>self<|.l4 x8 a e G x13 b Y) A)<|self<|.l4 x8 a k G x13 b Y) A)<|self<|.l4 x8 a k G x13 b Y
def tz(n:E)(self:P4->X7)(q:AA)(c_:AD)(pos:Ξ)(x8 a:Ω)(k:Ξ)(G:U)(x13 b:Ξ)(Y:U):X7:=u (AG<|Y+1) (self<|.l2 x8 a k G x13 b<|Y+1) A
def zG4(n:E)(self:P4->X7)(q:AA)(g:AD)(pos:Ξ):X7:=(MD n g pos T).bind λe=>(MD n g pos D).bind λr=>(S9 n r).bind λy3=>B (C<|y3<0) (u (F pos=F (d (F pos) (0:U))/\(((F pos:U):U)=(F pos:U)/\0<=(F pos:U)/\((F pos:U):U)<=1000000000000)) (Z (d (F pos) (0:U),D)) A)<|(Ny n q g pos e y3).bind λQ=>self<|.l1 e r Q 0
def D9(q:AA)(g:AD)(pos:Ξ):E->P4->X7
 |0,_=>A
 |n+1,.l1 x8 Y k G=>bJ n (D9 q g pos n) q g pos x8 Y k G
 |n+1,.l2 x8 Y k G x13 a b=>P0 n (D9 q g pos n) q g pos x8 Y k G x13 a b
 |n+1,.l3 x8 Y k G x13 a b=>S5 n (D9 q g pos n) q g pos x8 Y k G x13 a b
 |n+1,.l4 x8 Y k G x13 a b=>tz n (D9 q g pos n) q g pos x8 Y k G x13 a b
def kD(n:E)(q:AA)(g:AD)(pos:Ξ):X7:=zG4 n (D9 q g pos n) q g pos
def zG6(n Ϝ:E)(N:Yd 0)(q:AA)(g:AD)(pos:Ξ)(r:Ξ×ζ):P4->Prop:=px n Ϝ η N (FQ Tryz.f125 0 (.tup 2<|L1 [.ints r.1,.bool r.2]) []) (Af Tryz.f125) λ
 | .l1 x8 Y k G=>(0,0,AI 126 [(2,.ints pos),(3,.ref 0 0),(4,.ref 1 0),(8,.bools x8),(9,.bools Y),(11,.ints k),(12,.i G)],[oC<|AJ q,oC<|AW g])
 | .l2 x8 Y k G x13 a b=>(1,2,AI 126 [(2,.ints pos),(3,.ref 0 0),(4,.ref 1 0),(8,.bools x8),(9,.bools Y),(11,.ints k),(12,.i G),(13,.ints x13),(14,.ints a),(15,.i b)],[oC<|AJ q,oC<|AW g])
 | .l3 x8 Y k G x13 a b=>(5,20,AI 126 [(2,.ints pos),(3,.ref 0 0),(4,.ref 1 0),(8,.bools x8),(9,.bools Y),(11,.ints k),(12,.i G),(13,.ints x13),(14,.ints a),(15,.i b)],[oC<|AJ q,oC<|AW g])
 | .l4 x8 Y k G x13 a b=>(5,17,AI 126 [(2,.ints pos),(3,.ref 0 0),(4,.ref 1 0),(8,.bools x8),(9,.bools Y),(11,.ints k),(12,.i G),(13,.ints x13),(14,.ints a),(15,.i b)],[oC<|AJ q,oC<|AW g])
def zG8(Ϝ:E)(N:Yd 0)(q:AA)(g:AD)(pos:Ξ):Al (D9 q g pos) (zG6 · Ϝ N q g pos):=ia (λ_=>rfl) λn G b r h=>by
 cases b
 case l1 x8 x9 AQ AT=>
  intro o j;refine rd j λo j=>?_
  revert r;apply gO;exact bi 38 (gi (bi 45 (gw 40 (lG (AK 20<|AK 17 Hx) [0,1] (G _ _ · o j))) (cf tX [oC<|AJ q,oC<|AW g] λ_=>cf tX [oC<|AJ q,oC<|AW g] λ_=>bi 56 (lE (AK 20<|AK 17 Hx) [6,7] []) (bi 60 (lE (AK 20<|AK 17 Hx) [6,7] []) (lN (AK 20<|AK 17 Hx) [0,1] (G _ _ · o n j χ))))))<|lE (AK 20<|AK 17 Hx) [6,7] []
 case l2 x8 x9 AQ AT x13 A4 Au=>
  intro o w j z;have j:=zCG j;refine rd z λw z=>?_
  revert r;apply gO;exact bi 66 (bi 71 (jg zDm (gc (gn λa=>jg a (jg a (gc (gn λs=>jg s (jg a (jg s (gw 94 (cf Kt [oC<|AJ q,oC<|AW g] λ_=>lG (AK 20<|AK 17 Hx) [0,1] (G _ _ · o w j z))))))))))) (lG (AK 20<|AK 17 Hx) [0,1] (G _ _ · o w j z))) (gw 40 (lG (AK 20<|AK 17 Hx) [0,1] (G _ _ · o j)))
 case l3 x8 x9 AQ AT x13 A4 Au=>
  intro o w j z;have j:=zCG j;have z:=zCG z;revert r;apply gO;exact bi 98 (gc (gn λa=>jg a (gi (bi 107 (jg zDl (jg a (jg a (gi (cf Kt [oC<|AJ q,oC<|AW g] λ_=>lG (AK 17 Hx) [0,1] (G _ _ · o w j z)))))) (lG (AK 17 Hx) [0,1] (G _ _ · o w j z)))))) (lG (AK 17 Hx) [0,1] (G _ _ · o w j z))
 case l4 x8 x9 AQ AT x13 A4 Au=>
  intro o w j z;have j:=zCG j;have z:=zCG z;revert r;apply gO;exact gw 68 (lG (AK 20 Hx) [0,1] (G _ _ · o w j z))
def zG3{r:Ξ×ζ}(h:kD n q g pos=Z r):EQ 125 [.agg 5<|L1<|AJ q,.agg 9<|L1<|AW g,.ints pos] [] (.tup 2<|L1 [.ints r.1,.bool r.2]) [] D:=by
 refine ot Tryz.func125 λϜ N=>?_
 revert r;apply gO;exact cf bF [oC<|AJ q,oC<|AW g] λ_=>cf bF [oC<|AJ q,oC<|AW g] λ_=>cf uG [oC<|AJ q,oC<|AW g] λ_=>bi 25 (gc<|gn λj=>gi<|jz 28 2<|jg j<|lE (AK 20<|AK 17 Hx) [6,7] []) (cf uV [oC<|AJ q,oC<|AW g] λ_=>lN (AK 20<|AK 17 Hx) [0,1] ((zG8 Ϝ N q g pos n) _ _ · n χ))
def Kr(n:E)(q:AA)(g:AD)(pos:Ξ):X7:=B (g.kind==1) ((bT n q g pos).bind λe=>Z (e,D))<|B (g.kind==2) ((bW n g pos).bind λe=>Z (e.1,e.2))<|B (g.kind==3) ((ay n q g pos).bind λe=>Z (e.1,e.2))<|B (g.kind==8) ((kI n q g pos).bind λe=>Z (e,D))<|B (g.kind==9) ((kD n q g pos).bind λe=>Z (e.1,e.2))<|B (g.kind==5) ((Eh n g pos 0 0 0 (-1) D).bind λe=>B (!e) (Z (pos,T))<|(TD n q g pos).bind λr=>Z (r,D))<|(TD n q g pos).bind λe=>Z (e,D)
def I7(n:E)(q:AA)(g:AD)(pos:Ξ):X7:=Kr n q g pos
def zGn{r:Ξ×ζ}(h:I7 n q g pos=Z r):EQ 99 [.agg 5<|L1<|AJ q,.agg 9<|L1<|AW g,.ints pos] [] (.tup 2<|L1 [.ints r.1,.bool r.2]) [] D:=by
 refine ot Tryz.func99 λϜ N=>?_
 revert r;apply gO;exact bi 11 (cf zHL [oC<|AJ q,oC<|AW g] λ_=>lE AC [6,7] [])<|bi 17 (cf zHS [oC<|AJ q,oC<|AW g] λ_=>lE AC [6,7] [])<|bi 24 (cf zGZ [oC<|AJ q,oC<|AW g] λ_=>lE AC [6,7] [])<|bi 32 (cf zHW [oC<|AJ q,oC<|AW g] λ_=>lE AC [6,7] [])<|bi 38 (cf zG3 [oC<|AJ q,oC<|AW g] λ_=>lE AC [6,7] [])<|bi 47 (cf tZ [oC<|AJ q,oC<|AW g] λ_=>bi 52 (lE AC [6,7] [])<|cf uP [oC<|AJ q,oC<|AW g] λ_=>lE AC [6,7] [])<|cf uP [oC<|AJ q,oC<|AW g] λ_=>lE AC [6,7] []
inductive bU where
 |l1 (x3:U)
def WC(n:E)(self:bU->X9)(pos:Ξ)(S:U):X9:=B (C<|S<(F pos:U)) (u (0<=S/\S<(F pos:U)) (B (H pos S.toNat 0==0) (Z D)<|u (AG<|S+1) (self<|.l1<|S+1) A) A)<|Z T
def zHP(n:E)(self:bU->X9)(pos:Ξ):X9:=self<|.l1 0
def P7(pos:Ξ):E->bU->X9
 |0,_=>A
 |n+1,.l1 S=>WC n (P7 pos n) pos S
def Jv(n:E)(pos:Ξ):X9:=zHP n (P7 pos n) pos
def zHQ(n Ϝ:E)(N:Yd 0)(pos:Ξ)(r:ζ):bU->Prop:=px n Ϝ η N (FQ Tryz.f58 0 (.bool r) []) (Af Tryz.f58) λ
 | .l1 S=>(0,0,AI 15 [(0,.ints pos),(3,.i S)],[])
def zHR(Ϝ:E)(N:Yd 0)(pos:Ξ):Al (P7 pos) (zHQ · Ϝ N pos):=ia (λ_=>rfl) λn G s r h=>by
 cases s
 case l1 x3=>
  intro o j;refine rd j λo j=>?_
  revert r;apply gO;exact bi 7 (gi (bi 14 (lE AC [2] []) (gw 9 (lG AC [] (G _ _ · o j)))))<|lE AC [2] []
def WB{r:ζ}(h:Jv n pos=Z r):EQ 58 [.ints pos] [] (.bool r) [] D:=by
 refine ot Tryz.func58 λϜ N=>?_
 revert r;apply gO;exact lN AC [] ((zHR Ϝ N pos n) _ _ · n χ)
def zDV:Ac (Ah Tryz.f33 9) [] (θ 16) []:=Z0
def Pi:BG:=λi=>match i with
 |9=>.ord [] (θ 16) []
 |_=>.no
inductive aQ where
 |l1 (x6:U)
def Ve(n:E)(self:aQ->W5)(q:AA)(pos:Ξ)(x6:U):W5:=B (C<|x6<(F pos:U)) (u (0<=x6/\x6<(F pos:U)) (B (C<|H pos x6.toNat 0<0) (Z 250)<|u (0<=IntKind.u64.wrap q.sy/\IntKind.u64.wrap q.sy<=(IntKind.i64.bits:U)) (B (C<|H pos x6.toNat 0>=(IntKind.i64.wrap<|1*2^(IntKind.u64.wrap q.sy).toNat)) (Z 250)<|u (AG<|x6+1) (self<|.l1<|x6+1) A) A) A)<|Z 0
def sd(n:E)(self:aQ->W5)(q:AA)(pos:Ξ):W5:=(Nb n q).bind λe=>B (e != 0) (Z e)<|B ((F pos:U) != q.ce) (Z 250)<|self<|.l1 0
def Po(q:AA)(pos:Ξ):E->aQ->W5
 |0,_=>A
 |n+1,.l1 x6=>Ve n (Po q pos n) q pos x6
def Pp(n:E)(q:AA)(pos:Ξ):W5:=sd n (Po q pos n) q pos
def zFK(n Ϝ:E)(N:Yd 0)(q:AA)(pos:Ξ)(r:U):aQ->Prop:=px n Ϝ η N (FQ Tryz.f33 0 (.i r) []) (Af Tryz.f33) λ
 | .l1 x6=>(0,0,AI 39 [(1,.ints pos),(2,.ref 0 0),(6,.i x6)],[oC<|AJ q])
def zFL(Ϝ:E)(N:Yd 0)(q:AA)(pos:Ξ):Al (Po q pos) (zFK · Ϝ N q pos):=ia (λ_=>rfl) λn G s r h=>by
 cases s
 case l1 x6=>
  intro o j;refine rd j λo j=>?_
  revert r;apply gO;exact bi 20 (jg zDV (gn λa=>jg a (bi 27 (lE Pi [4] []) (jg a (gi (bi 37 (lE Pi [4] []) (gw 22 (lG Pi [0] (G _ _ · o j)))))))))<|lE Pi [4] []
def jX{r:U}(h:Pp n q pos=Z r):EQ 33 [.agg 5<|L1<|AJ q,.ints pos] [] (.i r) [] D:=by
 refine ot Tryz.func33 λϜ N=>?_
 revert r;apply gO;exact cf aG [oC<|AJ q] λ_=>bi 10 (lE Pi [4] []) (bi 16 (lE Pi [4] []) (lN Pi [0] ((zFL Ϝ N q pos n) _ _ · n χ)))
def zDh:Ac (Ah Tryz.f61 11) [([0,1,2,3,4,5,6,7,8,9,10,11,12,13,14],15)] [] [16,17]:=Z0
def SV:BG:=λi=>match i with
 |11=>.ord [([0,1,2,3,4,5,6,7,8,9,10,11,12,13,14],15)] [] [16,17]
 |_=>.no
inductive bE where
 |l1 (x8:Ξ) (x10:E) (AQ:U) (o0:Ξ)
def V8(n:E)(self:bE->W6)(q:AA)(c_:AD)(pos:Ξ)(x8:Ξ)(x10:E)(k:U)(o0:Ξ):W6:=B (C<|k<(F pos:U)) (u ((0<=k/\k<(F pos:U))/\(0<=k/\k<(F x8:U))/\AG (H pos k.toNat 0-(bits .and .i64 (H pos k.toNat 0)<|H x8 k.toNat 0))/\((0=0/\1=F ([H pos k.toNat 0-(bits .and .i64 (H pos k.toNat 0)<|H x8 k.toNat 0)]:Ξ))/\(0=0/\x10=F o0)/\F o0+F ([H pos k.toNat 0-(bits .and .i64 (H pos k.toNat 0)<|H x8 k.toNat 0)]:Ξ)<=Aw)/\AG (k+1)) (self<|.l1 x8 (F o0+F ([H pos k.toNat 0-(bits .and .i64 (H pos k.toNat 0)<|H x8 k.toNat 0)]:Ξ)) (k+1)<|o0++([H pos k.toNat 0-(bits .and .i64 (H pos k.toNat 0)<|H x8 k.toNat 0)]:Ξ)) A)<|u (x10=F o0) ((Jv n o0).bind λe=>B e (Z<|d (F pos) (0:U))<|Z o0) A
def kC(n:E)(self:bE->W6)(q:AA)(g:AD)(pos:Ξ):W6:=u (F pos=F (d (F pos) (0:U))/\(((F pos:U):U)=(F pos:U)/\0<=(F pos:U)/\((F pos:U):U)<=1000000000000)) ((Jv n pos).bind λe=>B e (Z<|d (F pos) (0:U))<|(I7 n q g pos).bind λr=>B (!r.2) (Z<|d (F pos) (0:U))<|self<|.l1 r.1 0 0 ([]:Ξ)) A
def Ns(q:AA)(g:AD)(pos:Ξ):E->bE->W6
 |0,_=>A
 |n+1,.l1 x8 x10 k o0=>V8 n (Ns q g pos n) q g pos x8 x10 k o0
def Ks(n:E)(q:AA)(g:AD)(pos:Ξ):W6:=kC n (Ns q g pos n) q g pos
def zGx(n Ϝ:E)(N:Yd 0)(q:AA)(c_:AD)(pos:Ξ)(r:Ξ):bE->Prop:=px n Ϝ η N (FQ Tryz.f61 0 (.ints r) []) (Af Tryz.f61) λ
 | .l1 x8 x10 k o0=>(0,0,AI 56 [(2,.ints pos),(7,.ints<|d (F pos) (0:U)),(8,.ints x8),(10,.msl 0 1 0 x10),(11,.i k)],[oI o0])
def zGy(Ϝ:E)(N:Yd 0)(q:AA)(b:AD)(pos:Ξ):Al (Ns q b pos) (zGx · Ϝ N q b pos):=ia (λ_=>rfl) λn G s r h=>by
 cases s
 case l1 x8 x10 AQ o0=>
  intro o a;refine rd a λo a=>?_
  revert r;apply gO;exact bi 32 (jg zDh (gc (gn λj=>jg j (jg j (gc (gi (gc (gw 49 (gc (gi (gw 34 (lG SV [2] (G _ _ · o a)))))))))))))<|gn λj=>cn λy1 f=>jc (sb [.msl 0 1 0 x10] (WB f) [oI o0] ⟨Am.ints rfl j,trivial⟩)<|bi 53 (lE SV [6] [])<|lF λp=>ez SV [6] [0] p [0]<|H0.g j
def zGv(h:Ks n q g pos=Z r):EQ 61 [.agg 5<|L1<|AJ q,.agg 9<|L1<|AW g,.ints pos] [] (.ints r) [] D:=by
 refine ot Tryz.func61 λϜ N=>?_
 revert r;apply gO;exact gc (gn λj=>gi (jz 14 2 (jg j (cf WB [oC<|AJ q,oC<|AW g,A] λ_=>bi 16 (lE SV [6] []) (cf zGn [oC<|AJ q,oC<|AW g,A] λ_=>bi 26 (lE SV [6] []) (lN SV [3] ((zGy Ϝ N q g pos n) _ _ · n χ)))))))
def kB(n:E)(q:AA)(i:U)(pos:Ξ):W5:=(Vj n q i).bind λe=>B (e.2 != 0) (Z e.2)<|(Pp n q pos).bind λr=>Z r
def Sy(n:E)(q:AA)(i:U)(pos:Ξ):W5:=kB n q i pos
variable{i:U}
def zGr{r:U}(h:Sy n q i pos=Z r):EQ 60 [.agg 5<|L1<|AJ q,.i i,.ints pos] [] (.i r) [] D:=by
 unfold Sy kB at h;refine ot Tryz.func60 λϜ N=>?_
 revert r;apply gO;exact cf zFS [oC<|AJ q] λ_=>bi 16 (lE AC [6] [])<|cf jX [oC<|AJ q] λ_=>lE AC [6] []
def zDi:Ac (Ah Tryz.f45 4) [([0,1,2,3,4,5,6],7)] [8,9] []:=Z0
def zCy:BG:=λi=>match i with
 |4=>.ord [([0,1,2,3,4,5,6],7)] [8,9] []
 |_=>.no
def tq(n:E)(q:AA)(i:U)(pos:Ξ):X8:=(Sy n q i pos).bind λe=>B (e != 0) (Z (([]:Ξ),e))<|u (0<=i/\i<(F q.cons:U)) ((Ks n q (H q.cons i.toNat ξ) pos).bind λr=>Z (r,0)) A
def Nt(n:E)(q:AA)(i:U)(pos:Ξ):X8:=tq n q i pos
def tn{r:Ξ×U}(h:Nt n q i pos=Z r):EQ 45 [.agg 5<|L1<|AJ q,.i i,.ints pos] [] (.tup 2<|L1 [.ints r.1,.i r.2]) [] D:=by
 unfold Nt tq at h;refine ot Tryz.func45 λϜ N=>?_
 revert r;apply gO;exact cf zGr [oC<|AJ q] λe=>bi 14 (lF λp=>el AC [6,7] [] p [] H0 [.nils,.i e]<|AO.tupL (l:=[.nils,.i e]) (l':=[.ints ([]:Ξ),.i e]) rfl ⟨AO.ints_nil,Ab,trivial⟩)<|jg zDi<|gi<|cf zGv [oC<|AJ q] λ_=>lE zCy [6,7] []
end
abbrev zNb:=@List.drop_eq_nil_of_le
section
variable{q:AA}{pos:Ξ}
def uL{n:E}(q:F pos<=256):∀(k j n:E),j+k=F pos->k<n->P7 pos n (.l1 (j:U))=Z ((pos.drop j).any (· ==0))
 |0,j,n+1,e,_=>by
  show WC n (P7 pos n) pos (j:U)=_
  unfold WC;rw[zAE Z2,zAD,zNb Z2];rfl
 |k+1,j,n+1,e,hn=>by
  have l:j<F pos:=Z2
  have X:pos.drop j=H pos j 0::pos.drop (j+1):=by
   rw[zK3 l,zBD,zKA l];rfl
  have a:=uL (n:=n) q k (j+1) n Z2 Z2;have a:P7 pos n (.l1<|(j:U)+1)=_:=a
  show WC n (P7 pos n) pos (j:U)=_
  unfold WC;rw[zAB Z2,zAG,zAF ⟨Z2,Z2⟩,zAF<|AZ.2 ⟨Z2,Z2⟩,u8,a,X,List.any_cons];cases(H pos j 0==0) <;> rfl
variable{n:E}
def P8(q:F pos<=256)(a:F pos<n):Jv n pos=Z (DG pos):=uL (n:=n) q (F pos) 0 n Z2 a
def jY(l:DK q)(a:CX q<=n)(hl:F pos<=LB)(G8:F pos<n):Pp n q pos=Z (JA q pos):=by
 have hb:LB<=9223372036854775806:=Z6
 unfold Pp sd JA;rw[aI l a,zAC];cases t:CN q with
 |false=>rfl
 |true=>
  obtain⟨_,f,_⟩:=ER t;obtain⟨s,p2,j⟩:=bp f.1 f.2
  have h:IntKind.u64.wrap q.sy=q.sy:=by
   show q.sy%18446744073709551616=q.sy
   omega
  show(B ((F pos:U) != q.ce) (Z 250)<|Po q pos n<|.l1 0)=Z (u (posOk q pos=D) 0 250)
  unfold posOk
  by_cases r:(F pos:U)=q.ce
  ·have b:((F pos:U) != q.ce)=T:=by simpa using r
   have c:((F pos:U)==q.ce)=D:=by simpa using r
   rw[b,zAD,c,zM4]
   have key:∀(k i n:E),i+k=F pos->k+1<=n->Po q pos n (.l1 (i:U))=Z (u (((pos.drop i).all λx=>decide (0<=x)&&C (x<2^q.sy.toNat))=D) 0 250):=by
    intro k
    induction k with
    |zero=>
     intro i n e a;obtain⟨n,rfl⟩:∃k,n=k+1:=⟨n-1,Z2⟩
     show Ve n (Po q pos n) q pos (i:U)=_
     unfold Ve;rw[zAE Z2,zAD,zNb Z2];rfl
    |succ k m=>
     intro i n e a;obtain⟨n,rfl⟩:∃k,n=k+1:=⟨n-1,Z2⟩;have hi:i<F pos:=Z2
     have X:pos.drop i=H pos i 0::pos.drop (i+1):=by
      rw[zK3 hi,zBD,zKA hi];rfl
     have:=m (i+1) n Z2 Z2
     show Ve n (Po q pos n) q pos (i:U)=_
     unfold Ve;rw[zAB Z2,zAG,zAF ⟨Z2,Z2⟩,h,zAF j,zAF<|AZ.2 ⟨Z2,Z2⟩,u8,X,zN0,s]
     by_cases Q:H pos i 0<0
     ·rw[zAB Q,zAG,zAE (p:=0<=H pos i 0) Z2];rfl
     ·rw[zAE Q,zAD,zAB (p:=0<=H pos i 0) Z2,zM4]
      by_cases g:H pos i 0>=2^q.sy.toNat
      ·rw[zAB g,zAG,zAE (p:=H pos i 0<2^q.sy.toNat) Z2];rfl
      ·rw[zAE g,zAD,zAB (p:=H pos i 0<2^q.sy.toNat) Z2,zM4];exact this
   exact key (F pos) 0 n Z2 Z2
  ·have b:((F pos:U) != q.ce)=D:=by simpa using r
   have c:((F pos:U)==q.ce)=T:=by simpa using r
   rw[b,zAG,c,zSR];rfl
end
structure Eu(q:AA)(p:Ξ):Prop where
 fit:DK q
 valid:CN q=D
 ok:posOk q p=D
section
variable{q:AA}{ε:U->Prop}{p x y z:Ξ}{i Wo:U}
def Eu.len(h:Eu q p):(F p:U)=q.ce:=((K7 h.valid).1 h.ok).1
def Eu.sm(h:Eu q p):∀j,j<F p->Sm q.sy.toNat (H p j 0):=((K7 h.valid).1 h.ok).2
def Eu.k(h:Eu q p):q.sy.toNat<=16:=by have:=(ER h.valid).2.1;omega
def Eu.len256(h:Eu q p):0<F p/\F p<=256:=by
 have h1:=(ER h.valid).1;have:=h.len;omega
theorem Eu.in64(h:Eu q p)(j:E):CB<|H p j 0:=by
 by_cases l:j<F p
 ·exact(h.sm j l).in64 (by have:=h.k;omega)
 grind[CB]
end
section
variable{q:AA}{Wo:U}{pos p x cells:Ξ}
def Eu.check(h:Eu q pos):JA q pos=0:=by
 unfold JA;rw[zAF h.valid,zAF h.ok]
end
section
variable{x:U}
def zCk{k:E}(hk:k<=16)(h:Sm k x):Sm 16 x:=
 NR Z6 (h.in64 Z2) λi hi _=>h.hi Z2
def zCv{i:E}:(Bz x i).Nodup:=List.Nodup.sublist zSL List.nodup_range'
section
variable{q:AA}{p x pos0 o:Ξ}{c s:E}
def Eu.sm16(h:Eu q x)(j:E)(l:j<F x):Sm 16<|H x j 0:=zCk h.k<|h.sm j l
end
end
theorem P6{k s n:E}{x:U}(h:Sm k x)(f:k<=62)(p:s<64):HQ n x (s:U)=Z (tb x s):=by
 unfold HQ uD;rw[zAF ⟨Z2,by show(s:U)<=((64:E):U);omega⟩,u8,Zr h f p]
def RL(pos:Ξ)(ϒ:E->Ψ)(l:Ξ):Prop:=(F l=F pos/\∀j,CB<|H l j 0)/\∀j s,tb (H l j 0) s=D↔ϒ j s
section
variable{q:AA}{c:AD}{pos l:Ξ}{ϒ D':E->Ψ}{k:E}
theorem RL.zero(pos:Ξ):RL pos (λ_ _=>False)<|d (F pos) 0:=⟨⟨Jc,Yw⟩,λj s=>by grind[NK]⟩
def RL.congr(h:RL pos ϒ l)(a:∀j s,D' j s↔ϒ j s):RL pos D' l:=⟨h.1,λj s=>(h.2 j s).trans (a j s).symm⟩
theorem RL.lose(h:RL pos ϒ l)(h256:F pos<=256){cell ss:U}(h0:0<=cell)(h1:cell<(F pos:U)):∃l',(∀n,Fc n l cell ss=Z l')/\RL pos (λj s=>ϒ j s∨((j:U)=cell/\tb ss s=D)) l':=by
 have ϙ:(1000000000000:E)=Aw:=rfl;have q:=h.1.1;refine⟨l.set cell.toNat<|bits .or .i64 (H l cell.toNat 0) ss,λn=>?_,⟨by rw[zKy];exact q,jF h.1.2<|D5 _ _ _⟩,λj s=>?_⟩
 ·unfold Fc tw
  grind
 ·by_cases e:cell.toNat=j
  ·subst e;rw[Mr Z2,Ke,zKu,h.2]
   grind
  ·rw[getD_set_ne e,h.2]
   grind
structure RW(q:AA)(c:AD)(pos:Ξ):Prop where
 W:Ca c q.sy.toNat pos
 V:D6 q q.sy.toNat
 sy:1<=q.sy/\q.sy<=16
 vlen:(F q.va:U)=q.sy
 h0:0<F pos
 h256:F pos<=256
 nz:∀j,j<F pos->H pos j 0≠0
variable{s:E}
def RW.sym(ϗ:RW q c pos)(hs:s<q.sy.toNat):((s:U)<q.sy)/\s<16/\((0:U)<=(s:U)/\(s:U)<=((IntKind.i64.bits:E):U)):=by
 have:=ϗ.sy;exact⟨Z2,Z2,Z2,by show(s:U)<=((64:E):U);omega⟩
variable{x:U}
def RW.low(ϗ:RW q c pos)(i:Sm q.sy.toNat x)(h:tb x s=D):s<q.sy.toNat:=zK4 λK=>by rw[i.hi K]at h;cases h
theorem ul(hs:s<62)(hx:CB x):x=IntKind.i64.wrap (1*2^s)↔∀t,tb x t=C (s=t):=by
 constructor
 ·rintro rfl t;exact Hu Z2 t
 grind[Iz,Rt,Hu]
def bS(c:AD)(pos:Ξ)(k:E)(j t:E):Prop:=∃a b,a<F c.ce/\b<F c.ce/\a≠b/\t<k/\AY c pos b=IntKind.i64.wrap (1*2^t)/\(H c.ce a 0).toNat=j
theorem zHM(ϗ:RW q c pos):Ag (λn=>bT n q c pos) λl=>RL pos (bS c pos q.sy.toNat) l:=by
 have W:=ϗ.W;have Ap:=W.len;have He:=ϗ.sy;have ek:((q.sy.toNat:E):U)=q.sy:=Z2
 have y:∀(ϒ:E->Ψ) (a b:E) (l:Ξ),a<F c.ce->b<F c.ce->RL pos ϒ l->∃l',RL pos (λj t=>ϒ j t∨(t<q.sy.toNat/\a≠b/\AY c pos b=IntKind.i64.wrap (1*2^t)/\(H c.ce a 0).toNat=j)) l'/\AR (Ff q c pos) (.l3 l a b 0) (.l3 l' a b q.sy):=by
  intro ϒ a b l k r hR;have:=Fl (m:=Ff q c pos) (λs (l:Ξ)=>.l3 l (a:U) (b:U) (s:U)) (λs l=>RL pos (λj t=>ϒ j t∨(t<s/\a≠b/\AY c pos b=IntKind.i64.wrap (1*2^t)/\(H c.ce a 0).toNat=j)) l) q.sy.toNat (λs l z i=>?_) q.sy.toNat 0 l Z2<|hR.congr λj t=>⟨λh=>h.elim id λh=>τ h.1<|zBT t,.inl⟩
  ·grind
  ·obtain⟨s1,s2,s3⟩:=ϗ.sym z;have hcb:=W.ce b r;have w:=W.ce a k;have r1:AG<|(s:U)+1:=AZ.2 ⟨Z2,Z2⟩
   have skip:(∀j,¬(a≠b/\AY c pos b=IntKind.i64.wrap (1*2^s)/\(H c.ce a 0).toNat=j))->RL pos (λj t=>ϒ j t∨(t<s+1/\a≠b/\AY c pos b=IntKind.i64.wrap (1*2^t)/\(H c.ce a 0).toNat=j)) l:=λI=>i.congr λj t=>by
    constructor
    ·rintro(h|⟨h,f⟩)
     ·exact .inl h
     ·rcases zIY.1 h with h|rfl
      ·exact .inr ⟨h,f⟩
      ·exact τ f<|I j
    grind
   have es:AY c pos b=H pos (H c.ce b 0).toNat 0:=rfl
   by_cases J:a=b
   ·refine⟨l,skip λj h=>h.1 J,AR.one λn=>?_⟩
    simp_all[Nv,Ff]
   ·have e:((a:U) != (b:U))=D:=Z7
    by_cases x:AY c pos b=IntKind.i64.wrap (1*2^s)
    ·obtain⟨l',g,f⟩:=i.lose ϗ.h256 (ss:=IntKind.i64.wrap<|1*2^s) w.1 w.2;refine⟨l',f.congr λj t=>?_,AR.one λn=>?_⟩
     ·rw[Hu Z2,zKv]
      grind
     ·show Nv n (Ff q c pos n) q c pos l (a:U) (b:U) (s:U)=_
      unfold Nv
      grind
    ·refine⟨l,skip λj h=>x h.2.1,AR.one λn=>?_⟩;have e2:(AY c pos b==IntKind.i64.wrap (1*2^s))=T:=zBE.2 x
     show Nv n (Ff q c pos n) q c pos l (a:U) (b:U) (s:U)=_
     unfold Nv
     grind
 have K:∀(ϒ:E->Ψ) (a:E) (l:Ξ),a<F c.ce->RL pos ϒ l->∃l',RL pos (λj t=>ϒ j t∨∃b,b<F c.ce/\t<q.sy.toNat/\a≠b/\AY c pos b=IntKind.i64.wrap (1*2^t)/\(H c.ce a 0).toNat=j) l'/\AR (Ff q c pos) (.l2 l a 0) (.l1 l'<|(a:U)+1):=by
  intro ϒ a l k hR
  obtain⟨l',g,f⟩:=Fl (m:=Ff q c pos) (λb (l:Ξ)=>.l2 l (a:U) (b:U)) (λb l=>RL pos (λj t=>ϒ j t∨∃o,o<b/\t<q.sy.toNat/\a≠o/\AY c pos o=IntKind.i64.wrap (1*2^t)/\(H c.ce a 0).toNat=j) l) (F c.ce) (λb l r i=>by
   obtain⟨l',g,f⟩:=y _ a b l k r i;refine⟨l',g.congr λj t=>?_,(AR.one λn=>?_).trans<|f.trans<|AR.one λn=>?_⟩
   ·grind
   ·simp_all[bR,Ff]
   ·show Nv n (Ff q c pos n) q c pos l' (a:U) (b:U) q.sy=_
    unfold Nv;rw[zAE Z2,zAD,zAF<|AZ.2 ⟨Z2,Z2⟩];rfl) (F c.ce) 0 l Z2<|hR.congr λj t=>⟨λh=>h.elim id λ⟨o,h,_⟩=>τ h<|zBT o,.inl⟩
  refine⟨l',g,f.trans<|AR.one λn=>?_⟩
  show bR n (Ff q c pos n) q c pos l' (a:U) (F c.ce:U)=_
  unfold bR;rw[zAE Z2,zAD,zAF<|AZ.2 ⟨Z2,Z2⟩]
 obtain⟨l',g,f⟩:=Fl (m:=Ff q c pos) (λa (l:Ξ)=>.l1 l (a:U)) (λa l=>RL pos (λj t=>∃a',a'<a/\∃b,b<F c.ce/\t<q.sy.toNat/\a'≠b/\AY c pos b=IntKind.i64.wrap (1*2^t)/\(H c.ce a' 0).toNat=j) l) (F c.ce) (λa l k i=>by
  obtain⟨l',g,f⟩:=K _ a l k i;refine⟨l',g.congr λj t=>?_,(AR.one λn=>?_).trans f⟩
  ·simp_all[zIY]
  simp_all[kF,Ff]) (F c.ce) 0 (d (F pos) 0) Z2<|(RL.zero pos).congr λj t=>⟨λ⟨a',h,_⟩=>τ h<|zBT a',λh=>h.elim⟩
 have N:Ev (λn=>Ff q c pos n<|.l1 (d (F pos) 0) 0) l':=f.ev (Ev.one λn=>by
  simp_all[kF,Ff])
 have h256:=ϗ.h256;refine(N.p<|g.congr λj t=>?_).eq λn=>?_
 ·exact⟨λ⟨a,b,G,Y,S,v,P,x6⟩=>⟨a,G,b,Y,v,S,P,x6⟩,λ⟨a,G,b,Y,v,S,P,x6⟩=>⟨a,b,G,Y,S,v,P,x6⟩⟩
 ·unfold bT uJ
  grind
variable{a:E}
theorem uK(ϗ:RW q c pos)(i:a<F c.ce)(p:tb (AY c pos a) s=D)(A5:c.ce.Nodup):bS c pos q.sy.toNat (H c.ce a 0).toNat s↔O1 c pos a s:=by
 have W:=ϗ.W;have Ij:=W.k
 have one:∀b,b<F c.ce->(AY c pos b=IntKind.i64.wrap (1*2^s)↔Sg c pos b s):=λb l=>by
  have j:=W.at l;have hsk:=ϗ.low (W.at i) p;constructor
  ·intro e;have X:=(ul (s:=s) Z2<|j.in64 Z2).1 e;refine⟨?_,by rw[X];simp⟩;unfold NT;rw[zKq]
   have n:AY c pos b=((2^s:E):U):=by
    refine Iz (j.in64 Z2) ?_ λt o=>?_
    ·have:=j.2;have Xg:=K6 (k:=s) Z2;have r:((2^s:E):U)=(2:U)^s:=Z3
     rw[r];have:(0:U)<2^s:=Int.pow_pos Z6;exact⟨Z2,Z2⟩
    ·rw[X,PX o]
   rw[n];refine(NJ<|D5 _ _ _).2 λt o=>?_
   have JO:0<2^s:=Nat.two_pow_pos s;have v:((2^s:E):U)-1=((2^s-1:E):U):=Z2
   rw[FG,PX o,v,Je _ _ o,Nat.testBit_two_pow_sub_one]
   grind
  ·rintro⟨f,g⟩;refine(ul (s:=s) Z2<|j.in64 Z2).2 λt=>?_
   grind[zCu]
 constructor
 ·rintro⟨a',b,f,g,m,_,w,h5⟩
  have e:a'=a:=by
   have c1:=W.ce a' f;have c2:=W.ce a i
   grind[List.pairwise_iff_getElem]
  subst e;exact⟨b,g,λh=>m h.symm,(one b g).1 w⟩
 ·rintro⟨b,f,g,m⟩;exact⟨a,b,i,f,λh=>g h.symm,ϗ.low (W.at i) p,(one b f).2 m,rfl⟩
theorem PZ{S:U}(b:Sm k x)(f:k<=62):x-bits .and .i64 x S=bits .andNot .i64 x S:=by
 have Xg:=K6 f;have c:Sm k<|bits .and .i64 x S:=NR f (D5 _ _ _) λi a _=>by rw[FG,b.hi a];rfl
 have e:Sm k<|bits .andNot .i64 x S:=NR f (D5 _ _ _) λi a _=>by rw[IT,b.hi a];rfl
 have h0:BitVec.ofInt 64 (bits .and .i64 x S)&&& BitVec.ofInt 64 (bits .andNot .i64 x S)=0#64:=by
  apply zRu;intro i hi;rw[BitVec.getLsbD_and]
  show(tb (bits .and .i64 x S) i&&tb (bits .andNot .i64 x S) i)=_
  grind[FG,IT]
 have a:=BitVec.add_eq_or_of_and_eq_zero _ _ h0
 have g:BitVec.ofInt 64 (bits .and .i64 x S)|||BitVec.ofInt 64 (bits .andNot .i64 x S)=BitVec.ofInt 64 x:=by
  apply zRu;intro i hi;rw[BitVec.getLsbD_or]
  show(tb (bits .and .i64 x S) i||tb (bits .andNot .i64 x S) i)=tb x i
  grind[FG,IT]
 rw[g]at a;have m:=congrArg BitVec.toNat a;rw[BitVec.toNat_add,zNS,zNS,zNS]at m;obtain⟨a0,a1⟩:=c;obtain⟨b0,b1⟩:=e;obtain⟨x0,x1⟩:=b;omega
theorem vk(ϗ:RW q c pos)(b:a<F c.ce):(bits .and .i64 (AY c pos a) c.set==AY c pos a)=Cn c pos a:=by
 have i:=ϗ.W.at b;have Ij:=ϗ.W.k;unfold Cn;rw[zLX,zKq,zKq];constructor
 ·intro h;refine(NJ<|D5 _ _ _).2 λs _=>?_
  have:=congrArg (λy=>tb y s) h
  grind[FG,IT]
 ·intro h;refine Iz (D5 _ _ _) (i.in64 Z2) λs _=>?_
  grind[FG,lr]
def RW.nzAt(ϗ:RW q c pos)(b:a<F c.ce):∃s,tb (AY c pos a) s=D:=by
 have hc:=ϗ.W.ce a b;have Ij:=ϗ.W.k;obtain⟨s,_,h⟩:=(Lw<|(ϗ.W.at b).in64 Z2).1<|ϗ.nz (H c.ce a 0).toNat Z2;exact⟨s,h⟩
def vp(ϗ:RW q c pos)(b:a<F c.ce):(bits .and .i64 (AY c pos a) c.set != 0)=EZ c pos a:=by
 unfold EZ;cases P:Cn c pos a
 ·rw[zRN]
 ·rw[Bool.true_or,zM8];obtain⟨s,p⟩:=ϗ.nzAt b;unfold Cn at P;rw[zKq]at P;exact zQ4 p<|lr P p
def Nw(c:AD)(pos:Ξ)(i j s:E):Prop:=∃a,a<i/\(H c.ce a 0).toNat=j/\((cnt (Cn c pos) (F c.ce)=c.hi/\Cn c pos a=T/\tb (AY c pos a) s=D/\tb c.set s=D)∨(cnt (EZ c pos) (F c.ce)=c.lo/\EZ c pos a=D/\tb (AY c pos a) s=D/\tb c.set s=T))
def KR(q:AA)(c:AD)(pos:Ξ)(ϒ:E->Ψ)(ok:Prop)(x:Ξ×ζ):Prop:=(x.2=D↔ok)/\(x.2=D->RL pos ϒ x.1)
theorem zHT(ϗ:RW q c pos):Ag (λn=>bW n c pos)<|KR q c pos (Nw c pos<|F c.ce)<|O2 c pos=D:=by
 have W:=ϗ.W;have Ap:=W.len;have t:=ϗ.h256;have Ij:=W.k
 obtain⟨⟨J,x8⟩,⟨G,I⟩,g1⟩:=Fl (m:=Cy c pos) (λi (s:Δ)=>.l1 s.1 s.2 (i:U)) (λi s=>s.1=cnt (Cn c pos) i/\s.2=cnt (EZ c pos) i) (F c.ce) (λi s hi y=>by
  obtain⟨K,z⟩:=s;obtain⟨o,g⟩:=y;have o:K=cnt (Cn c pos) i:=o;have g:z=cnt (EZ c pos) i:=g;have hc:=W.ce i hi;have v:=RF (p:=Cn c pos) (i:=i);have b2:=RF (p:=EZ c pos) (i:=i);have r1:AG<|K+1:=AZ.2 ⟨Z2,Z2⟩;have r2:AG<|z+1:=AZ.2 ⟨Z2,Z2⟩;have r3:AG<|(i:U)+1:=AZ.2 ⟨Z2,Z2⟩;have em:=vk ϗ hi;have N:=vp ϗ hi;refine⟨(cnt (Cn c pos)<|i+1,cnt (EZ c pos)<|i+1),⟨rfl,rfl⟩,(AR.one (b:=.l2 (cnt (Cn c pos)<|i+1) z (i:U)<|AY c pos i) λn=>?_).trans<|(AR.one (b:=.l4 (cnt (Cn c pos)<|i+1) (cnt (EZ c pos)<|i+1) (i:U)) λn=>?_).trans<|AR.one λn=>?_⟩
  ·show TC n (Cy c pos n) c pos K z (i:U)=_
   unfold TC;simp only[u8];rw[zAB Z2,zAG,zAF ⟨⟨Z2,Z2⟩,hc⟩];have e:(bits .and .i64 (H pos (H c.ce i 0).toNat 0) c.set==H pos (H c.ce i 0).toNat 0)=Cn c pos i:=em;rw[e,O5];cases Cn c pos i
   ·rw[zAD,o];simp only[zLV,zRK,Int.add_zero];rfl
   ·rw[zAG,zAF r1,o];simp only[zMt];rfl
  ·show kH n (Cy c pos n) c pos (cnt (Cn c pos)<|i+1) z (i:U) (AY c pos i)=_
   unfold kH;rw[N,O5 (p:=EZ c pos)]
   grind
  simp_all[uN,Cy]) (F c.ce) 0 (0,0) Z2 ⟨rfl,rfl⟩
 have G:J=cnt (Cn c pos) (F c.ce):=G;have I:x8=cnt (EZ c pos) (F c.ce):=I
 suffices X:Ag (λn=>Cy c pos n<|.l1 J x8 (F c.ce:U)) (KR q c pos (Nw c pos<|F c.ce)<|O2 c pos=D) by
  refine(g1.pev X).eq λn=>?_
  unfold bW uO
  grind
 have ok:O2 c pos=(!C (J>c.hi)&&!C (x8<c.lo)):=by rw[G,I];rfl
 by_cases c1:J>c.hi
 ·refine Ev.p (r:=(d (F pos) 0,T)) (Ev.one λn=>?_) ⟨⟨λh=>(by cases h),λh=>?_⟩,λh=>by cases h⟩
  ·simp_all[TC,Cy]
  grind
 by_cases c2:x8<c.lo
 ·refine Ev.p (r:=(d (F pos) 0,T)) (Ev.one λn=>?_) ⟨⟨λh=>(by cases h),λh=>?_⟩,λh=>by cases h⟩
  ·simp_all[TC,Cy]
  grind
 obtain⟨l,hl,g2⟩:=Fl (m:=Cy c pos) (λi (l:Ξ)=>.l3 l J x8 (i:U)) (λi l=>RL pos (Nw c pos i) l) (F c.ce) (λi l hi y=>by
  have hc:=W.ce i hi;have r3:AG<|(i:U)+1:=AZ.2 ⟨Z2,Z2⟩;have em:=vk ϗ hi;have N:=vp ϗ hi;have V:=W.at hi
  have ο:∃R,RL pos (λj s=>Nw c pos i j s∨((H c.ce i 0).toNat=j/\cnt (Cn c pos) (F c.ce)=c.hi/\Cn c pos i=T/\tb (AY c pos i) s=D/\tb c.set s=D)) R/\AR (Cy c pos) (.l3 l J x8 (i:U)) (.l5 R J x8 (i:U)<|AY c pos i):=by
   have e:(bits .and .i64 (H pos (H c.ce i 0).toNat 0) c.set != H pos (H c.ce i 0).toNat 0)= !Cn c pos i:=by rw[←em];rfl
   have ε:∀n,Cy c pos (n+1) (.l3 l J x8 (i:U))=B (J==c.hi) (B (!Cn c pos i) ((Fc n l (H c.ce i 0)<|bits .and .i64 (AY c pos i) c.set).bind λP=>Cy c pos n<|.l5 P J x8 (i:U)<|AY c pos i)<|Cy c pos n<|.l5 l J x8 (i:U)<|AY c pos i) (Cy c pos n<|.l5 l J x8 (i:U)<|AY c pos i):=λn=>by
    show bV n (Cy c pos n) c pos l J x8 (i:U)=_
    unfold bV;simp only[u8];rw[zAB Z2,zAG,zAF ⟨⟨Z2,Z2⟩,hc⟩,e];rfl
   by_cases w:J=c.hi
   ·have v:(J==c.hi)=D:=zKq.2 w;cases Y:Cn c pos i
    ·obtain⟨R,f1,Q⟩:=y.lose t (ss:=bits .and .i64 (AY c pos i) c.set) hc.1 hc.2;refine⟨R,Q.congr λj s=>?_,AR.one λn=>Z4⟩;rw[FG,zAx]
     grind
    ·refine⟨l,y.congr λj s=>⟨λh=>h.elim id λh=>(by cases h.2.2.1),.inl⟩,AR.one λn=>Z4⟩
   ·have v:(J==c.hi)=T:=zBE.2 w;exact⟨l,y.congr λj s=>⟨λh=>h.elim id λh=>τ Z2 w,.inl⟩,AR.one λn=>by rw[ε,v,zAD]⟩
  obtain⟨R,S,ga⟩:=ο
  have Ϝ:∃f,RL pos (Nw c pos<|i+1) f/\AR (Cy c pos) (.l5 R J x8 (i:U)<|AY c pos i) (.l6 f J x8 (i:U)):=by
   have rr:AG<|AY c pos i-bits .and .i64 (AY c pos i) c.set:=by
    rw[PZ V Z2];have:=D5 .andNot (AY c pos i) c.set;exact AZ.2 this
   have ε:∀n,Cy c pos (n+1) (.l5 R J x8 (i:U)<|AY c pos i)=B (x8==c.lo) (B (EZ c pos i) ((Fc n R (H c.ce i 0)<|bits .andNot .i64 (AY c pos i) c.set).bind λP=>Cy c pos n<|.l6 P J x8 (i:U))<|Cy c pos n<|.l6 R J x8 (i:U)) (Cy c pos n<|.l6 R J x8 (i:U)):=λn=>by
    show kG n (Cy c pos n) c pos R J x8 (i:U) (AY c pos i)=_
    unfold kG;simp only[u8];rw[N,zAF ⟨⟨Z2,Z2⟩,rr⟩,PZ V Z2]
   have key:∀f,RL pos (λj s=>(Nw c pos i j s∨((H c.ce i 0).toNat=j/\cnt (Cn c pos) (F c.ce)=c.hi/\Cn c pos i=T/\tb (AY c pos i) s=D/\tb c.set s=D))∨((H c.ce i 0).toNat=j/\cnt (EZ c pos) (F c.ce)=c.lo/\EZ c pos i=D/\tb (AY c pos i) s=D/\tb c.set s=T)) f->RL pos (Nw c pos<|i+1) f:=λf h=>h.congr λj s=>by
    constructor
    ·rintro⟨a,o,g,x⟩;rcases zIY.1 o with o|rfl
     ·exact .inl<|.inl ⟨a,o,g,x⟩
     grind
    ·rintro((⟨a,o,g,x⟩|⟨g,x⟩)|⟨g,x⟩)
     ·exact⟨a,Z2,g,x⟩
     ·exact⟨i,Z2,g,.inl x⟩
     ·exact⟨i,Z2,g,.inr x⟩
   by_cases w:x8=c.lo
   ·have v:(x8==c.lo)=D:=zKq.2 w;cases Y:EZ c pos i
    ·exact⟨R,key R<|S.congr λj s=>⟨λh=>h.elim id λh=>Z4,.inl⟩,AR.one λn=>by rw[ε,v,Y,zAG,zAD]⟩
    ·obtain⟨f,f2,Q⟩:=S.lose t (ss:=bits .andNot .i64 (AY c pos i) c.set) hc.1 hc.2;refine⟨f,key f<|Q.congr λj s=>?_,AR.one λn=>Z4⟩;rw[IT,zAx,zKr]
     grind
   ·have v:(x8==c.lo)=T:=zBE.2 w;exact⟨R,key R<|S.congr λj s=>⟨λh=>h.elim id λh=>τ Z2 w,.inl⟩,AR.one λn=>by rw[ε,v,zAD]⟩
  obtain⟨f,nL,gb⟩:=Ϝ;refine⟨f,nL,ga.trans<|gb.trans<|AR.one λn=>?_⟩
  simp_all[uM,Cy]) (F c.ce) 0 (d (F pos) 0) Z2<|(RL.zero pos).congr λj s=>⟨λ⟨a,h,_⟩=>τ h<|zBT a,λh=>h.elim⟩
 have g0:AR (Cy c pos) (.l1 J x8 (F c.ce:U))<|.l3 (d (F pos) 0) J x8 0:=AR.one λn=>by
  simp_all[TC,Cy,zAE]
 refine((g0.trans g2).ev<|Ev.one (r:=(l,D)) λn=>?_).p ⟨⟨λ_=>?_,λ_=>rfl⟩,λ_=>hl⟩
 ·simp_all[bV,Cy]
 grind
theorem wD:∀(l:Ξ) (a:U),l.foldl (H6 q) a=a∨∃e∈l,H q.va e.toNat 0=l.foldl (H6 q) a
 |[],a=>.inl rfl
 |e::l,a=>by
  rw[zLY];rcases wD l (H6 q a e)with h|⟨x,h1,h2⟩
  ·rw[h];unfold H6
   grind
  grind
theorem xW:∀(l:Ξ) (a:U),l.foldl (ID q) a=a∨∃e∈l,H q.va e.toNat 0=l.foldl (ID q) a
 |[],a=>.inl rfl
 |e::l,a=>by
  rw[zLY];rcases xW l (ID q a e)with h|⟨x,h1,h2⟩
  ·rw[h];unfold ID
   grind
  grind
variable{r:U}
theorem zJW(V:D6 q k)(f:k<=16)(i:Sm k x)(Ay:∃s,tb x s=D)(a:∃s,tb x s=D/\H q.va s 0=r)(h2:∀s,tb x s=D->r<=H q.va s 0):r=Cp q x:=by
 have n:=λe=>Fk i (zIX f (by decide:(16:E)<=62)) (e:=e)
 have low:∀{s},tb x s=D->s<k:=λ{s} h=>zK4 λK=>by rw[i.hi K]at h;cases h
 obtain⟨s,p,rfl⟩:=a;have g:=(wE (q:=q) (By x) 100).1<|zKw _;have y:=g.2 (s:U)<|(n _).2 ⟨s,rfl,low p,p⟩;rw[u8]at y;have y:Cp q x<=H q.va s 0:=y;have hv:=V.val s<|low p;rcases wD (q:=q) (By x) 100 with h|⟨e,b,h⟩
 ·have h:Cp q x=100:=h;omega
 ·obtain⟨t,rfl,_,ht⟩:=(n e).1 b
  grind[Cp]
theorem zM1(V:D6 q k)(f:k<=16)(i:Sm k x)(a:∃s,tb x s=D/\H q.va s 0=r)(h2:∀s,tb x s=D->H q.va s 0<=r):r=Cq q x:=by
 have n:=λe=>Fk i (zIX f (by decide:(16:E)<=62)) (e:=e)
 have low:∀{s},tb x s=D->s<k:=λ{s} h=>zK4 λK=>by rw[i.hi K]at h;cases h
 obtain⟨s,p,rfl⟩:=a;have g:=(xX (q:=q) (By x)<|-1).1<|zKw _;have y:=g.2 (s:U)<|(n _).2 ⟨s,rfl,low p,p⟩;rw[u8]at y;have y:H q.va s 0<=Cq q x:=y;have hv:=V.val s<|low p;rcases xW (q:=q) (By x) (-1)with h|⟨e,b,h⟩
 ·have h:Cq q x= -1:=h;omega
 ·obtain⟨t,rfl,_,ht⟩:=(n e).1 b
  grind[Cq]
theorem uB(ϗ:RW q c pos)(i:Sm q.sy.toNat x)(Q:∃s,tb x s=D):Ev (λn=>S7 n q x)<|Cp q x:=by
 have w:=ϗ.W.k;have He:=ϗ.sy;have ek:((q.sy.toNat:E):U)=q.sy:=Z2
 have Fn:=ϗ.vlen
 obtain⟨r,y,g⟩:=Fl (m:=Ju q x) (λs (r:U)=>.l1 r (s:U)) (λs r=>(r= -1/\∀t,t<s->tb x t=T)∨((∃t,t<s/\tb x t=D/\H q.va t 0=r)/\∀t,t<s->tb x t=D->r<=H q.va t 0)) q.sy.toNat (λs r p e=>by
  obtain⟨z,s2,s3⟩:=ϗ.sym p;have b:AG<|(s:U)+1:=AZ.2 ⟨Z2,Z2⟩;have hv:=ϗ.V.val s p
  have ε:∀n,Ju q x (n+1) (.l1 r (s:U))=B (tb x s) (B (C<|r<0) (Ju q x n<|.l1 (H q.va s 0)<|(s:U)+1)<|B (C<|H q.va s 0<r) (Ju q x n<|.l1 (H q.va s 0)<|(s:U)+1)<|Ju q x n<|.l1 r<|(s:U)+1) (Ju q x n<|.l1 r<|(s:U)+1):=λn=>by
   show bL n (Ju q x n) q x r (s:U)=_
   unfold bL;rw[zAB z,zAG,P6 i Z2 Z2,zAC,zAF ⟨⟨Z2,Z2⟩,b⟩,zAF ⟨Z2,Z2⟩,zAF b,zAF b,u8]
  cases f:tb x s
  ·refine⟨r,?_,AR.one λn=>by rw[ε,f,zAD];rfl⟩
   grind
  ·by_cases c1:r<0
   ·refine⟨H q.va s 0,?_,AR.one λn=>Z4⟩;refine .inr ⟨⟨s,Z2,f,rfl⟩,λt o j=>?_⟩;rcases zIY.1 o with o|rfl
    ·rcases e with⟨G,a⟩|⟨⟨ϛ,G,a,l⟩,v⟩
     ·rw[a t o]at j;cases j
     ·have:=ϗ.V.val ϛ Z2;omega
    ·exact zKw _
   ·have Me:(∃t,t<s/\tb x t=D/\H q.va t 0=r)/\∀t,t<s->tb x t=D->r<=H q.va t 0:=e.elim (λh=>τ h.1 Z2) id
    by_cases c2:H q.va s 0<r
    ·refine⟨H q.va s 0,?_,AR.one λn=>Z4⟩
     grind
    ·refine⟨r,?_,AR.one λn=>Z4⟩
     grind) q.sy.toNat 0 (-1) Z2<|.inl ⟨rfl,λt o=>τ o<|zBT t⟩
 have I:r=Cp q x:=by
  rcases y with⟨_,a⟩|⟨⟨t,_,l,v⟩,K⟩
  ·obtain⟨s,p⟩:=Q;rw[a s<|ϗ.low i p]at p;cases p
  ·exact zJW ϗ.V w i Q ⟨t,l,v⟩ λs p=>K s (ϗ.low i p) p
 subst I;refine Ev.eq (g.ev<|Ev.one (r:=Cp q x) λn=>?_) λn=>rfl
 simp_all[bL,Ju]
theorem uF(ϗ:RW q c pos)(i:Sm q.sy.toNat x)(Q:∃s,tb x s=D):Ev (λn=>S8 n q x)<|Cq q x:=by
 have l:=ϗ.W.k;have He:=ϗ.sy;have ek:((q.sy.toNat:E):U)=q.sy:=Z2
 have Fn:=ϗ.vlen
 obtain⟨r,a,g⟩:=Fl (m:=Kx q x) (λs (r:U)=>.l1 r (s:U)) (λs r=>-1<=r/\((r= -1/\∀t,t<s->tb x t=T)∨(∃t,t<s/\tb x t=D/\H q.va t 0=r))/\∀t,t<s->tb x t=D->H q.va t 0<=r) q.sy.toNat (λs r p b=>by
  obtain⟨v,s2,s3⟩:=ϗ.sym p;have e:AG<|(s:U)+1:=AZ.2 ⟨Z2,Z2⟩;have hv:=ϗ.V.val s p;obtain⟨h0,b,f⟩:=b
  have ε:∀n,Kx q x (n+1) (.l1 r (s:U))=B (tb x s) (B (C<|H q.va s 0>r) (Kx q x n<|.l1 (H q.va s 0)<|(s:U)+1)<|Kx q x n<|.l1 r<|(s:U)+1) (Kx q x n<|.l1 r<|(s:U)+1):=λn=>by
   show bN n (Kx q x n) q x r (s:U)=_
   unfold bN;rw[zAB v,zAG,P6 i Z2 Z2,zAC,zAF ⟨Z2,Z2⟩,zAF e,zAF e,u8]
  cases h:tb x s
  ·refine⟨r,⟨h0,?_,λt o j=>?_⟩,AR.one λn=>by rw[ε,h,zAD];rfl⟩
   ·grind
   grind
  ·by_cases c2:H q.va s 0>r
   ·refine⟨H q.va s 0,⟨Z2,.inr ⟨s,Z2,h,rfl⟩,λt o j=>?_⟩,AR.one λn=>Z4⟩
    grind
   ·refine⟨r,⟨h0,?_,λt o j=>?_⟩,AR.one λn=>Z4⟩
    ·grind
    grind) q.sy.toNat 0 (-1) Z2 ⟨zKw _,.inl ⟨rfl,λt o=>τ o<|zBT t⟩,λt o=>τ o<|zBT t⟩
 have w:r=Cq q x:=by
  obtain⟨_,a,K⟩:=a;rcases a with⟨_,y⟩|⟨t,_,z,f⟩
  ·obtain⟨s,p⟩:=Q;rw[y s<|ϗ.low i p]at p;cases p
  ·exact zM1 ϗ.V l i ⟨t,z,f⟩ λs p=>K s (ϗ.low i p) p
 subst w;refine Ev.eq (g.ev<|Ev.one (r:=Cq q x) λn=>?_) λn=>rfl
 simp_all[bN,Kx]
def Ss(q:AA)(c:AD)(pos:Ξ)(i j s:E):Prop:=∃a,a<i/\(H c.ce a 0).toNat=j/\s<q.sy.toNat/\tb (AY c pos a) s=D/\Hv q c pos a s=D
theorem ic{f:E->U}{lo hi:U}(N:lo<=0)(W:0<=hi):∀{m:E},(∀a,a<m->lo<=f a/\f a<=hi)->(m:U)*lo<=B5 f m/\B5 f m<=(m:U)*hi
 |0,_=>by simp[B5]
 |m+1,h=>by
  have ih:=ic N W (m:=m) λa ha=>h a Z2
  have hm:=h m Z2;have e:B5 f (m+1)=B5 f m+f m:=rfl
  grind
theorem zGa(ϗ:RW q c pos):Ag (λn=>ay n q c pos)<|KR q c pos (Ss q c pos<|F c.ce)<|NL q c pos=D:=by
 have W:=ϗ.W;have Ap:=W.len;have w:=ϗ.h256;have S:=W.k;have He:=ϗ.sy;have Fn:=ϗ.vlen;have ek:((q.sy.toNat:E):U)=q.sy:=Z2
 have K:∀a,a<F c.ce->(0<=Cp q (AY c pos a)/\Cp q (AY c pos a)<=100)/\(-1<=Cq q (AY c pos a)/\Cq q (AY c pos a)<=99):=λa x=>⟨ϗ.V.lo S<|W.at x,ϗ.V.hi S<|W.at x⟩
 have tl:∀i,i<=F c.ce->0<=B5 (λa=>Cp q<|AY c pos a) i/\B5 (λa=>Cp q<|AY c pos a) i<=25600:=λi hi=>by
  have:=ic (f:=λa=>Cp q<|AY c pos a) (lo:=0) (hi:=100) (zKw _) Z6 (m:=i) λa x=>(K a Z2).1
  omega
 have th:∀i,i<=F c.ce->-256<=B5 (λa=>Cq q<|AY c pos a) i/\B5 (λa=>Cq q<|AY c pos a) i<=25600:=λi hi=>by
  have:=ic (f:=λa=>Cq q<|AY c pos a) (lo:=-1) (hi:=100) Z6 Z6 (m:=i) λa x=>by have:=(K a Z2).2;omega
  omega
 have ts:∀(f:E->U) (i:E),B5 f (i+1)=B5 f i+f i:=λ_ _=>rfl
 obtain⟨⟨Y,x10⟩,⟨z,G⟩,g1⟩:=Fl (m:=EW q c pos) (λi (s:Δ)=>.l1 s.1 s.2 (i:U)) (λi s=>s.1=B5 (λa=>Cp q<|AY c pos a) i/\s.2=B5 (λa=>Cq q<|AY c pos a) i) (F c.ce) (λi s hi o=>by
  obtain⟨m1,m2⟩:=s;obtain⟨g,e⟩:=o;have g:m1=B5 (λa=>Cp q<|AY c pos a) i:=g;have e:m2=B5 (λa=>Cq q<|AY c pos a) i:=e;have hc:=W.ce i hi;obtain⟨N,J⟩:=uB ϗ (W.at hi)<|ϗ.nzAt hi;obtain⟨ϕ,P⟩:=uF ϗ (W.at hi)<|ϗ.nzAt hi;have b1:=K i hi;have b2:=tl i Z2;have b3:=th i Z2;refine⟨(B5 (λa=>Cp q<|AY c pos a)<|i+1,B5 (λa=>Cq q<|AY c pos a)<|i+1),⟨rfl,rfl⟩,AR.oneN (max N ϕ) λn I=>?_⟩;have R:S7 n q (H pos (H c.ce i 0).toNat 0)=Z (Cp q<|AY c pos i):=J n Z2;have e2:S8 n q (H pos (H c.ce i 0).toNat 0)=Z (Cq q<|AY c pos i):=P n Z2
  show Sr n (EW q c pos n) q c pos m1 m2 (i:U)=_
  unfold Sr;simp only[u8];rw[zAB Z2,zAG,zAF ⟨⟨Z2,Z2⟩,hc⟩,R,zAC,zAF<|AZ.2 ⟨Z2,Z2⟩,e2,zAC,zAF ⟨AZ.2 ⟨Z2,Z2⟩,AZ.2 ⟨Z2,Z2⟩⟩,g,e];rfl) (F c.ce) 0 (0,0) Z2 ⟨rfl,rfl⟩
 have z:Y=MR q c pos:=z;have G:x10=Mi q c pos:=G;have bx9:0<=Y/\Y<=25600:=Z4
 have bx10:-256<=x10/\x10<=25600:=Z4
 suffices X:Ag (λn=>EW q c pos n<|.l1 Y x10 (F c.ce:U)) (KR q c pos (Ss q c pos<|F c.ce)<|NL q c pos=D) by
  refine(g1.pev X).eq λn=>?_
  unfold ay tT
  grind
 have ok:NL q c pos=(!C (Y>c.hi)&&!C (x10<c.lo)):=by rw[z,G];rfl
 by_cases c1:Y>c.hi
 ·refine Ev.p (r:=(d (F pos) 0,T)) (Ev.one λn=>?_) ⟨⟨λh=>(by cases h),λh=>?_⟩,λh=>by cases h⟩
  ·simp_all[Sr,EW]
  grind
 by_cases c2:x10<c.lo
 ·refine Ev.p (r:=(d (F pos) 0,T)) (Ev.one λn=>?_) ⟨⟨λh=>(by cases h),λh=>?_⟩,λh=>by cases h⟩
  ·simp_all[Sr,EW]
  grind
 obtain⟨l,hl,g2⟩:=Fl (m:=EW q c pos) (λi (l:Ξ)=>.l2 l Y x10 (i:U)) (λi l=>RL pos (Ss q c pos i) l) (F c.ce) (λi l hi o=>by
  have hc:=W.ce i hi;have Q:=W.at hi;have b1:=K i hi;obtain⟨N,J⟩:=uB ϗ Q<|ϗ.nzAt hi;obtain⟨ϕ,P⟩:=uF ϗ Q<|ϗ.nzAt hi
  obtain⟨l',EF,g3⟩:=Fl (m:=EW q c pos) (λs (l:Ξ)=>.l3 l Y x10 (i:U) (AY c pos i) (s:U)) (λs l=>RL pos (λj t=>Ss q c pos i j t∨((H c.ce i 0).toNat=j/\t<s/\tb (AY c pos i) t=D/\Hv q c pos i t=D)) l) q.sy.toNat (λs l hs o=>by
   obtain⟨s1,s2,s3⟩:=ϗ.sym hs;have hv:=ϗ.V.val s hs;have r1:AG<|(s:U)+1:=AZ.2 ⟨Z2,Z2⟩;have ra:AG (Y-Cp q (AY c pos i))/\AG ((Y-Cp q (AY c pos i))+H q.va s 0):=⟨AZ.2 ⟨Z2,Z2⟩,AZ.2 ⟨Z2,Z2⟩⟩;have rb:AG (x10-Cq q (AY c pos i))/\AG ((x10-Cq q (AY c pos i))+H q.va s 0):=⟨AZ.2 ⟨Z2,Z2⟩,AZ.2 ⟨Z2,Z2⟩⟩;have X:Hv q c pos i s=(C (Y-Cp q (AY c pos i)+H q.va s 0>c.hi)||C (x10-Cq q (AY c pos i)+H q.va s 0<c.lo)):=by rw[z,G];rfl
   have ε:∀n,max N ϕ<=n->EW q c pos (n+1) (.l3 l Y x10 (i:U) (AY c pos i) (s:U))=B (tb (AY c pos i) s&&Hv q c pos i s) ((Fc n l (H c.ce i 0)<|IntKind.i64.wrap<|1*2^s).bind λy=>EW q c pos n<|.l4 y Y x10 (i:U) (AY c pos i) (s:U)) (EW q c pos n<|.l4 l Y x10 (i:U) (AY c pos i) (s:U)):=λn I=>by
    have R:S7 n q (AY c pos i)=Z (Cp q<|AY c pos i):=J n Z2;have e2:S8 n q (AY c pos i)=Z (Cq q<|AY c pos i):=P n Z2
    show V1 n (EW q c pos n) q c pos l Y x10 (i:U) (AY c pos i) (s:U)=_
    unfold V1;simp only[u8];rw[zAB s1,zAG,P6 Q Z2 Z2,zAC];cases hb:tb (AY c pos i) s
    ·grind
    ·rw[zAG,zM4,zAF ⟨Z2,Z2⟩,R,zAC,zAF ra,X]
     grind
   have G4:∀l',AR (EW q c pos) (.l4 l' Y x10 (i:U) (AY c pos i) (s:U))<|.l3 l' Y x10 (i:U) (AY c pos i) ((s+1:E):U):=λl'=>AR.one λn=>by
    simp_all[tS,EW]
   cases hB:tb (AY c pos i) s&&Hv q c pos i s
   ·refine⟨l,o.congr λj t=>?_,(AR.oneN (max N ϕ) λn I=>by rw[ε n I,hB,zAD]).trans<|G4 l⟩
    grind
   ·obtain⟨l1,f1,Gl⟩:=o.lose w (ss:=IntKind.i64.wrap<|1*2^s) hc.1 hc.2;rw[zAx]at hB;refine⟨l1,Gl.congr λj t=>?_,(AR.oneN (max N ϕ) λn I=>Z4).trans<|G4 l1⟩;rw[Hu Z2,zKv];constructor
    ·grind
    grind) q.sy.toNat 0 l Z2<|o.congr λj t=>⟨λh=>h.elim id λh=>τ h.2.1<|zBT t,.inl⟩
  refine⟨l',EF.congr λj s=>?_,(AR.one (b:=.l3 l Y x10 (i:U) (AY c pos i) ((0:E):U)) λn=>?_).trans<|g3.trans<|AR.one λn=>?_⟩
  ·constructor
   ·rintro⟨a,g,e,v,h4,h5⟩;rcases zIY.1 g with g|rfl
    ·exact .inl ⟨a,g,e,v,h4,h5⟩
    ·exact .inr ⟨e,v,h4,h5⟩
   ·rintro(⟨a,g,e,v⟩|⟨e,v⟩)
    ·exact⟨a,Z2,e,v⟩
    ·exact⟨i,Z2,e,v⟩
  ·show ax n (EW q c pos n) q c pos l Y x10 (i:U)=_
   unfold ax;simp only[u8];rw[zAB Z2,zAG,zAF ⟨⟨Z2,Z2⟩,hc⟩];rfl
  ·show V1 n (EW q c pos n) q c pos l' Y x10 (i:U) (AY c pos i) ((q.sy.toNat:E):U)=_
   unfold V1;rw[ek,zAE Z2,zAD,zAF<|AZ.2 ⟨Z2,Z2⟩];rfl) (F c.ce) 0 (d (F pos) 0) Z2<|(RL.zero pos).congr λj s=>⟨λ⟨a,h,_⟩=>τ h<|zBT a,λh=>h.elim⟩
 have g0:AR (EW q c pos) (.l1 Y x10 (F c.ce:U))<|.l2 (d (F pos) 0) Y x10 0:=AR.one λn=>by
  simp_all[Sr,EW,zAE]
 refine((g0.trans g2).ev<|Ev.one (r:=(l,D)) λn=>?_).p ⟨⟨λ_=>?_,λ_=>rfl⟩,λ_=>hl⟩
 ·simp_all[ax,EW]
 grind
end
section
open Classical
def It(f:E->ζ):E->E->ζ
 |0,_=>T
 |k+1,t=>f t||It f k (t+1)
theorem pI{f:E->ζ}:∀(k t:E),It f k t=D↔∃ϛ,t<=ϛ/\ϛ<t+k/\f ϛ=D
 |0,t=>⟨λh=>(by cases h),λ⟨ϛ,h1,c,_⟩=>τ c Z2⟩
 |k+1,t=>by
  show(f t||It f k (t+1))=D↔_
  rw[zKu,pI k<|t+1]
  grind
section
variable{q:AA}{c:AD}{pos l:Ξ}{k:E}
def RE(q:AA)(c:AD)(pos:Ξ)(a s:E):E->U->Prop
 |0,_=>True
 |m+1,v=>∃t,tb (AY c pos<|F c.ce-1-m) t=D/\(F c.ce-1-m=a->t=s)/\v<H q.va t 0/\RE q c pos a s m (H q.va t 0)
theorem tf(ϗ:RW q c pos){J:AA->AD->Ξ->U->U->U->U->X9}{i a s:E}{v:U}{ϒ:E->ζ}(hi:i<F c.ce)
 (j:∀t,t<q.sy.toNat->J q c pos ((i:U)+1) (H q.va t 0) (a:U) (s:U)=Z (ϒ t)):∀(k t n:E),t+k=q.sy.toNat->k<n->
 Nr J q c pos (i:U) v (a:U) (s:U) n (.l1 (t:U))=Z (It (λt=>tb (AY c pos i) t&&C (i=a->t=s)&&C (v<H q.va t 0)&&ϒ t) k t)
 |0,t,n+1,e,_=>by
  have:=ϗ.sy
  show V5 n J (Nr J q c pos i v a s n) q c pos i v a s (t:U)=_
  unfold V5
  grind[It]
 |k+1,t,n+1,e,hn=>by
  have He:=ϗ.sy;have Fn:=ϗ.vlen;have Ap:=ϗ.W.len;obtain⟨f,s2,s3⟩:=ϗ.sym (s:=t) Z2;have b:=tf ϗ (v:=v) hi j k (t+1) n Z2 Z2;have b:Nr J q c pos (i:U) v (a:U) (s:U) n (.l1<|(t:U)+1)=_:=b;have hc:=ϗ.W.ce i hi;have g:=ϗ.W.at hi;have r:AG<|(t:U)+1:=AZ.2 ⟨Z2,Z2⟩;have G:AG<|(i:U)+1:=AZ.2 ⟨Z2,Z2⟩;have Ij:=ϗ.W.k
  show V5 n J (Nr J q c pos i v a s n) q c pos i v a s (t:U)=_
  have h:HQ n (H pos (H c.ce i 0).toNat 0) (t:U)=Z (tb (AY c pos i) t):=P6 g Z2 Z2
  have R:((i:U) != (a:U))= !C (i=a):=by
   grind
  have X:((t:U)==(s:U))=C (t=s):=by
   grind
  unfold V5;simp only[u8];rw[zAB f,zAG,zAF ⟨⟨Z2,Z2⟩,hc⟩,h,zAC,zAF r,b,R,X,zAF (⟨Z2,Z2⟩:0<=(t:U)/\(t:U)<(F q.va:U)),zAF G,j t Z2,zAC]
  grind[It]
theorem tj(ϗ:RW q c pos){a s:E}:∀(m:E),m<=F c.ce->∀v:U,Ev (λn=>Kq n q c pos ((F c.ce-m:E):U) v (a:U) (s:U))<|C<|RE q c pos a s m v
 |0,_,v=>⟨1,λn g=>by
  obtain⟨n,rfl⟩:∃k,n=k+1:=⟨n-1,Z2⟩
  show V6 n _ _ q c pos _ v a s=_
  unfold V6;rw[show((F c.ce-0:E):U)=(F c.ce:U)from rfl,zMn,zAG,zAB (p:=RE q c pos a s 0 v) trivial]⟩
 |m+1,hm,v=>by
  obtain⟨N,h⟩:=Ag.range (ϖ:=λt n=>Kq n q c pos ((F c.ce-m:E):U) (H q.va t 0) (a:U) (s:U)) (ο:=λt b=>b=C (RE q c pos a s m<|H q.va t 0)) q.sy.toNat λt _=>(tj ϗ m Z2<|H q.va t 0).p rfl
  refine⟨N+q.sy.toNat+2,λn g=>?_⟩;obtain⟨n,rfl⟩:∃k,n=k+1:=⟨n-1,Z2⟩;have X:F c.ce-(m+1)=F c.ce-1-m:=Z2
  have ej:((F c.ce-m:E):U)=((F c.ce-1-m:E):U)+1:=Z2
  show V6 n (Kq n) (Nr (Kq n) q c pos ((F c.ce-(m+1):E):U) v a s n) q c pos ((F c.ce-(m+1):E):U) v a s=_
  unfold V6;rw[show(((F c.ce-(m+1):E):U)==(F c.ce:U))=T by simp;omega,zAD,X];refine(tf ϗ (i:=F c.ce-1-m) (a:=a) (s:=s) (v:=v) (ϒ:=λt=>decide (RE q c pos a s m<|H q.va t 0)) Z2 (λt o=>?_) q.sy.toNat 0 n Z2 Z2).trans<|congrArg Z ?_
  ·obtain⟨r,e,f⟩:=h n Z2 t o
   grind
  ·rw[zLX,pI,zKv];simp only[zAx,zKv];constructor
   ·grind[RE]
   ·rintro⟨t,e,f,j,l⟩;exact⟨t,zK5 _,by have:=ϗ.low (ϗ.W.at Z2) e;omega,⟨⟨e,f⟩,j⟩,l⟩
variable{a s:E}
theorem js :∀(m:E),m<=F c.ce->∀v:U,RE q c pos a s m v↔∃g,Lq c pos (F c.ce-m) (F c.ce) g/\GR q (F c.ce-m) (F c.ce) g/\(F c.ce-m<=a->a<F c.ce->g a=s)/\(0<m->v<H q.va (g<|F c.ce-m) 0)
 |0,_,v=>⟨λ_=>⟨λ_=>s,λb i k=>τ i Z2,λb i k=>τ i Z2,λi k=>τ i Z2,λh=>τ h<|Nat.lt_irrefl 0⟩,λ_=>trivial⟩
 |m+1,hm,v=>by
  have X:F c.ce-(m+1)=F c.ce-1-m:=Z2
  have ej:F c.ce-m=F c.ce-1-m+1:=Z2
  constructor
  ·rintro⟨t,i,k,h3,W⟩;obtain⟨g,l,y,n,J⟩:=(js m Z2 _).1 W;refine⟨λb=>u (b=F c.ce-1-m) t<|g b,λb j f=>?_,λb j f=>?_,λj f=>?_,λ_=>?_⟩
   ·dsimp only
    by_cases e:b=F c.ce-1-m
    ·grind
    grind[Lq]
   ·dsimp only
    rw[zJz (by omega:¬b+1=F c.ce-1-m)]
    by_cases e:b=F c.ce-1-m
    ·grind
    grind[GR]
   ·grind
   grind
  ·rw[X];rintro⟨g,l,y,n,J⟩;refine⟨g<|F c.ce-1-m,l _ (zI1 _) Z2,λe=>?_,J Z2,(js m Z2 _).2 ⟨g,λb j f=>l b Z2 f,λb j f=>y b Z2 f,λj f=>n Z2 f,λAB=>?_⟩⟩
   ·grind
   grind[GR]
theorem zGL(ϗ:RW q c pos)(e:a<F c.ce)(p:tb (AY c pos a) s=D):RE q c pos a s (F c.ce) (-1)↔Jr q c pos a s=T:=by
 rw[js _<|zI1 _,zFW ϗ.W ϗ.V e p,Nat.sub_self];constructor
 ·grind
 ·rintro⟨g,b,y,i⟩;refine⟨g,b,y,λ_ _=>i,λh=>?_⟩;have:=ϗ.V.val (g 0)<|ϗ.low (ϗ.W.at h)<|b 0 (zI1 _) h;omega
theorem zKJ(ϗ:RW q c pos){i:E}(hi:i<F c.ce):(bits .and .i64 (AY c pos i) c.set==AY c pos i)= !kd c pos i T:=by
 have h:=PZ (S:=c.set) (ϗ.W.at hi)<|zIX ϗ.W.k Z6
 grind[kd]
variable{Ϛ:U}
theorem jN{l:U}(hp:∀j,j<F c.ru->1<=H c.ru j 0)(h:FV c Ϛ l):iI c (Ϛ,l)↔(u (l>0) (Ϛ+1=(F c.ru:U)/\l=H c.ru Ϛ.toNat 0)<|Ϛ=(F c.ru:U)):=by
 obtain⟨h1,h2,h3,h4⟩:=h;unfold iI
 grind
def iF(c:AD):Prop:=∀j,j<F c.ru->1<=H c.ru j 0
def RY(c:AD)(pos:Ξ)(a:E)(inn:ζ)(m:E)(Ϛ l:U):Prop:=FV c Ϛ l/\Hs c pos a inn m (Ϛ,l)
variable{inn:ζ}
theorem zEj{m:E}{l:U}(p:FV c Ϛ l):RY c pos a inn (m+1) Ϛ l↔
 (kd c pos (F c.ce-1-m) D=D/\(F c.ce-1-m=a->inn=D)/\RY c pos a inn m Ϛ (l+1))∨
 (kd c pos (F c.ce-1-m) T=D/\(F c.ce-1-m=a->inn=T)/\((l=0/\RY c pos a inn m Ϛ 0)∨(l≠0/\l=H c.ru Ϛ.toNat 0/\RY c pos a inn m (Ϛ+1) 0))):=by
 constructor
 ·rintro⟨_,b,ϛ,e,f,g,W⟩;have hu:=vQ p g;cases b
  ·grind[RY,nx]
  grind[RY,nx]
 ·rintro(⟨e,f,g,W⟩|⟨e,f,⟨K,g,W⟩|⟨K,h6,g,W⟩⟩)
  ·refine⟨p,D,(Ϛ,l+1),e,λh=>(f h).symm,?_,W⟩;have:=g.open' (by have:=p.l0;omega)
   grind[nx]
  ·refine⟨p,T,(Ϛ,0),e,λh=>(f h).symm,?_,W⟩
   simp_all[nx]
  ·refine⟨p,T,(Ϛ+1,0),e,λh=>(f h).symm,?_,W⟩
   simp_all[nx]
theorem tc(ϗ:RW q c pos)(R:Hq c)(w:iF c){at_:U}(hat:∀i,i<F c.ce->((i:U)=at_↔i=a)):∀(m:E),m<=F c.ce->∀Ϛ l:U,0<=Ϛ->Ϛ<=(F c.ru:U)->0<=l->l<=257->
 Ev (λn=>Eh n c pos ((F c.ce-m:E):U) Ϛ l at_ inn) (C<|RY c pos a inn m Ϛ l):=by
 intro m
 induction m with
 |zero=>
  intro _ Ϛ l f j r z;refine⟨2,λn s=>?_⟩;obtain⟨n,rfl⟩:∃k,n=k+2:=⟨n-2,Z2⟩;have I:=R.1
  show Py (n+1) _ (HP (Eh<|n+1) c pos (F c.ce:U) Ϛ l at_ inn<|n+1) c pos (F c.ce:U) Ϛ l at_ inn=_
  have ι:FV c Ϛ l->HP (Eh<|n+1) c pos (F c.ce:U) Ϛ l at_ inn (n+1) .l1=Z (C<|RY c pos a inn 0 Ϛ l):=λp=>by
   show V4 n _ _ c pos _ Ϛ l at_ inn=_
   unfold V4;have e:RY c pos a inn 0 Ϛ l↔(u (l>0) (Ϛ+1=(F c.ru:U)/\l=H c.ru Ϛ.toNat 0)<|Ϛ=(F c.ru:U)):=⟨λh=>(jN w p).1 h.2,λh=>⟨p,(jN w p).2 h⟩⟩
   by_cases b:l>0
   ·rw[zAB b,zAG,zAF<|AZ.2 ⟨Z2,Z2⟩]
    grind
   grind
  unfold Py
  by_cases b:l>0
  ·rw[zAB b,zAG]
   by_cases K:Ϛ>=(F c.ru:U)
   ·rw[zAB K,zAG,zAE λh:RY c pos a inn 0 Ϛ l=>by have:=h.1.open' b;omega]
   ·rw[zAE K,zAD,zAF ⟨f,Z2⟩]
    by_cases v:l>H c.ru Ϛ.toNat 0
    ·rw[zAB v,zAG,zAE λh:RY c pos a inn 0 Ϛ l=>by have:=h.1.open' b;omega]
    ·rw[zAE v,zAD,ι ⟨f,j,r,λ_=>⟨Z2,Z2⟩⟩]
  ·rw[zAE b,zAD,ι ⟨f,j,r,λh=>τ h b⟩]
 |succ m o=>
  intro hm Ϛ l f j r z;have Ap:=ϗ.W.len;have I:=R.1;have J:F c.ce-(m+1)=F c.ce-1-m:=Z2
  have P:((F c.ce-m:E):U)=((F c.ce-1-m:E):U)+1:=Z2
  have o:=o Z2;rw[P]at o;rw[J]
  generalize hi:F c.ce-1-m=i at o⊢
  have Q:i<F c.ce:=Z2
  have hc:=ϗ.W.ce i Q;have S:AG<|(i:U)+1:=AZ.2 ⟨Z2,Z2⟩
  have G:FV c Ϛ l->∃N,∀n,N<=n->∀k,HP (Eh n) c pos (i:U) Ϛ l at_ inn (k+4) .l1=Z (C<|RY c pos a inn (m+1) Ϛ l):=λp=>by
   have b:l<=256:=by
    by_cases h:0<l
    ·have K:=p.open' h
     grind[Hq]
    ·omega
   obtain⟨Y,t⟩:=o Ϛ (l+1) f j Z2 Z2;obtain⟨V,y⟩:=o Ϛ 0 f j (zKw _) Z6
   obtain⟨N3,x⟩:∃N,∀n,N<=n->l≠0->Eh n c pos ((i:U)+1) (Ϛ+1) 0 at_ inn=Z (C<|RY c pos a inn m (Ϛ+1) 0):=by
    by_cases h:l=0
    ·simp_all
    ·have K:=p.open' Z2;obtain⟨N,g⟩:=o (Ϛ+1) 0 Z2 Z2 (zKw _) Z6;exact⟨N,λn s _=>g n s⟩
   refine⟨max Y<|max V N3,λn s k=>?_⟩;have t:Eh n c pos ((i:U)+1) Ϛ (l+1) at_ inn=_:=t n Z2;have y:Eh n c pos ((i:U)+1) Ϛ 0 at_ inn=_:=y n Z2;have x:=x n Z2
   have ca:((i:U)==at_)=C (i=a):=by
    grind
   have cb:((i:U) != at_)= !C (i=a):=by
    grind
   have r2:AG<|l+1:=AZ.2 ⟨Z2,Z2⟩;have r3:AG<|Ϛ+1:=AZ.2 ⟨Z2,Z2⟩;have es:H pos (H c.ce i 0).toNat 0=AY c pos i:=rfl
   have L4:HP (Eh n) c pos (i:U) Ϛ l at_ inn (k+1) .l4=Z (C<|(l=0/\RY c pos a inn m Ϛ 0)∨(l≠0/\l=H c.ru Ϛ.toNat 0/\RY c pos a inn m (Ϛ+1) 0)):=by
    show j0 k _ _ c pos _ Ϛ l at_ inn=_
    unfold j0
    by_cases K:l=0
    ·grind
    ·have ho:=p.open' Z2
     grind
   have L3:HP (Eh n) c pos (i:U) Ϛ l at_ inn (k+2) .l3=Z (C<|kd c pos i T=D/\(i=a->inn=T)/\((l=0/\RY c pos a inn m Ϛ 0)∨(l≠0/\l=H c.ru Ϛ.toNat 0/\RY c pos a inn m (Ϛ+1) 0))):=by
    show j7 (k+1) _ (HP (Eh n) c pos (i:U) Ϛ l at_ inn<|k+1) c pos _ Ϛ l at_ inn=_
    unfold j7
    grind[Int.toNat_natCast,zKJ]
   show V4 (k+3) _ (HP (Eh n) c pos (i:U) Ϛ l at_ inn<|k+3) c pos _ Ϛ l at_ inn=_
   unfold V4;rw[show((i:U)==(F c.ce:U))=T by grind,zAD]
   show j8 (k+2) _ (HP (Eh n) c pos (i:U) Ϛ l at_ inn<|k+2) c pos _ Ϛ l at_ inn=_
   unfold j8;simp only[u8];have gt:inn=D->Eh n c pos ((i:U)+1) Ϛ (l+1) at_ D=Z (C<|RY c pos a inn m Ϛ<|l+1):=λh=>by rw[←t,h]
   rw[zAF ⟨⟨Z2,Z2⟩,hc⟩,es,cb,L3,zAF ⟨S,r2⟩,t,zAC];have ek:(bits .and .i64 (AY c pos i) c.set != 0)=kd c pos i D:=rfl;rw[ek];have X:=zEj (pos:=pos) (a:=a) (m:=m) (inn:=inn) p
   grind
  by_cases p:FV c Ϛ l
  ·obtain⟨N,hN⟩:=G p;refine⟨N+5,λn s=>?_⟩;obtain⟨n,rfl⟩:∃k,n=k+5:=⟨n-5,Z2⟩
   show Py (n+4) _ (HP (Eh<|n+4) c pos (i:U) Ϛ l at_ inn<|n+4) c pos (i:U) Ϛ l at_ inn=_
   unfold Py;rw[hN (n+4) Z2 n]
   by_cases b:l>0
   ·have ho:=p.open' b
    grind
   grind
  ·refine⟨1,λn s=>?_⟩;obtain⟨n,rfl⟩:∃k,n=k+1:=⟨n-1,Z2⟩;rw[zAE λh:RY c pos a inn (m+1) Ϛ l=>p h.1]
   show Py n _ _ c pos (i:U) Ϛ l at_ inn=_
   unfold Py
   by_cases b:l>0
   ·rw[zAB b,zAG]
    by_cases K:Ϛ>=(F c.ru:U)
    ·grind
    ·rw[zAE K,zAD,zAF ⟨f,Z2⟩]
     by_cases v:l>H c.ru Ϛ.toNat 0
     ·grind
     ·exact τ ⟨f,j,r,λ_=>⟨Z2,Z2⟩⟩ p
   ·exact τ ⟨f,j,r,λh=>τ h b⟩ p
theorem sN{a a':E}{inn inn':ζ}:∀(m:E),m<=F c.ce->(∀i,F c.ce-m<=i->i<F c.ce->i≠a/\i≠a')->∀t,Hs c pos a inn m t↔Hs c pos a' inn' m t
 |0,_,_,t=>Iff.rfl
 |m+1,hm,h,t=>by
  have ih:=sN (a:=a) (a':=a') (inn:=inn) (inn':=inn') m Z2 λi h1 b=>h i Z2 b
  grind[Hs]
theorem FV.zero:FV c 0 0:=⟨zKw _,Z2,zKw _,λh=>τ h<|zSD _⟩
theorem sL(X:iF c):RY c pos (F c.ce) inn (F c.ce) 0 0↔(F c.ce=0->F c.ru=0)/\(0<F c.ce->Is c pos 0 D∨Is c pos 0 T):=by
 by_cases h0:F c.ce=0
 ·rw[h0];have e:=jN (c:=c) (Ϛ:=0) (l:=0) X FV.zero;rw[zJz<|zSD 0]at e;constructor
  ·rintro⟨_,h⟩
   grind[Hs]
  ·rintro⟨h,_⟩;exact⟨FV.zero,e.2 Z2⟩
 ·obtain⟨m,P⟩:∃m,F c.ce=m+1:=⟨F c.ce-1,Z2⟩;have w:0<F c.ce:=Z2
  have e0:F c.ce-1-m=0:=Z2
  rw[oX w,oX w];have ϖ:∀(inn':ζ) (ϛ:Δ),Hs c pos (F c.ce) inn m ϛ↔Hs c pos 0 inn' m ϛ:=λinn'=>sN m Z2 λi h1 h2=>⟨Z2,Z2⟩
  constructor
  ·rintro⟨_,h⟩;refine⟨λh=>τ h h0,λ_=>?_⟩;have h:Hs c pos (F c.ce) inn (m+1) (0,0):=by rw[←P];exact h
   grind[Hs]
  grind[FV.zero,Hs,RY]
theorem zEk(ha:a<F c.ce):RY c pos a inn (F c.ce) 0 0↔Is c pos a inn:=by
 grind[oX,FV.zero,RY]
theorem sU :Jq c pos a s↔¬Is c pos a (tb c.set s):=by
 unfold Jq;cases tb c.set s <;> simp
end
end
section
open Classical
section
variable{q:AA}{c:AD}{pos l:Ξ}{k:E}
variable{s n:E}
theorem I8{x:U}(hs:s<16):Fe n x (s:U)=Z (tb x s):=by
 unfold Fe uC;rw[zAB Z2,zAG,zAB Z2,zAG,zAF ⟨Z2,by show(s:U)<=((64:E):U);omega⟩,u8];refine congrArg Z ?_;have h:=Ue (s:=s) Z2 x
 have e:bits .and .i64 x (IntKind.i64.wrap<|1*2^s)=bits .and .i64 (IntKind.i64.wrap<|1*2^s) x:=by
  grind[Iz,D5,FG]
 grind
def J3(q:AA)(c:AD)(s t:E):ζ:=B (c.kind==6) (Ge q c s t)<|GC c s t
theorem tu(ϗ:RW q c pos){g:Ξ}{t:E}(hk:c.kind=6∨c.kind=7)(h2:F c.ce=2)(hg:F g=F pos)(p:s<q.sy.toNat)(o:t<q.sy.toNat)
 (gs:H g (H c.ce 0 0).toNat 0=(s:U)) (w:H g (H c.ce 1 0).toNat 0=(t:U)):V9 n q c g=Z (J3 q c s t):=by
 have Y:=ϗ.W.ce 0 Z2;have Q:=ϗ.W.ce 1 Z2;have Fn:=ϗ.vlen;obtain⟨s1,R,s3⟩:=ϗ.sym p;obtain⟨t1,N,t3⟩:=ϗ.sym o;have v1:=ϗ.V.val s p;have v2:=ϗ.V.val t o;unfold V9 tr J3;rw[gs,w];rcases hk with hk|hk
 ·rw[hk];rw[zAF ⟨⟨zKw _,Z2⟩,⟨Y.1,Z2⟩,⟨Z2,Z2⟩,⟨Z6,Z2⟩,⟨Q.1,Z2⟩,Z2,Z2⟩,u8,u8];unfold WG kM Ge;rw[zAF<|AZ.2 ⟨Z2,Z2⟩,zAF<|AZ.2 ⟨Z2,Z2⟩]
  show _=Z (C _)
  by_cases h:H q.va s 0-H q.va t 0>=c.lo
  ·rw[zAB h,zAG,zAC];refine congrArg Z (zAB ?_).symm;split <;> omega
  ·rw[zAE h,zAD,zAC];refine congrArg Z ?_
   grind
 ·rw[hk]
  show u _ _ A=_
  rw[zAF ⟨⟨zKw _,Z2⟩,⟨Y.1,Z2⟩,⟨Z6,Z2⟩,Q.1,Z2⟩,I8 R,I8 N,I8 N,I8 R]
  grind[GC]
variable{a:E}
theorem zQF{b:E}(A5:c.ce.Nodup)(W:Ca c k pos)(f:a<F c.ce)(g:b<F c.ce)(h:a≠b):(H c.ce a 0).toNat≠(H c.ce b 0).toNat:=by
 intro e;have c1:=W.ce a f;have c2:=W.ce b g
 grind[List.pairwise_iff_getElem]
def QO(q:AA)(c:AD)(pos:Ξ)(a s:E)(t:E):ζ:=tb (AY c pos<|1-a) t&&(u (a=0) (J3 q c s t)<|J3 q c t s)
theorem uT(ϗ:RW q c pos)(j:c.kind=6∨c.kind=7)(l:F c.ce=2)(h:c.ce.Nodup){a s:E}(m:a<2)(p:s<q.sy.toNat):∀(k t n:E) (g:Ξ),t+k=q.sy.toNat->k<n->F g=F pos->
 QA q c pos (a:U) (s:U) n (.l1 (t:U) g)=Z (It (QO q c pos a s) k t)
 |0,t,n+1,g,e,_,_=>by
  have:=ϗ.sy
  show WF n (QA q c pos a s n) q c pos a s (t:U) g=_
  unfold WF
  grind[It]
 |k+1,t,n+1,g,e,hn,hg=>by
  have He:=ϗ.sy;have o:t<q.sy.toNat:=Z2
  obtain⟨r,t2,t3⟩:=ϗ.sym o;have Ij:=ϗ.W.k;have x:=ϗ.W.ce a Z2;have X:=ϗ.W.ce (1-a) Z2;have v:=ϗ.W.at (a:=1-a) Z2;have w:(1-(a:U)).toNat=1-a:=Z2
  have Ay:=zQF (a:=a) (b:=1-a) h ϗ.W Z2 Z2 Z2;have y:AG<|(t:U)+1:=AZ.2 ⟨Z2,Z2⟩
  show WF n (QA q c pos a s n) q c pos a s (t:U) g=_
  unfold WF;simp only[u8,w,zKx]
  generalize hg':(g.set (H c.ce a 0).toNat (s:U)).set (H c.ce (1-a) 0).toNat (t:U)=R
  have i:F R=F pos:=Z4
  have ga:H R (H c.ce a 0).toNat 0=(s:U):=Z4
  have gb:H R (H c.ce (1-a) 0).toNat 0=(t:U):=Z4
  have f:=uT ϗ j l h m p k (t+1) n R Z2 Z2 i;have f:QA q c pos (a:U) (s:U) n (.l1 ((t:U)+1) R)=_:=f;have J:HQ n (H pos (H c.ce (1-a) 0).toNat 0) (t:U)=Z (tb (AY c pos<|1-a) t):=P6 v Z2 Z2
  have em:V9 n q c R=Z (u (a=0) (J3 q c s t)<|J3 q c t s):=by
   by_cases h0:a=0
   ·subst h0;rw[zAF rfl]
    grind[tu]
   ·have:a=1:=Z2
    subst this;rw[zJz h0]
    grind[tu]
  rw[zAB r,zAG,zAF ⟨⟨Z2,Z2⟩,x,Z2,X,by rw[zKy];omega⟩,J,zAC,zAF i.symm,em,zAC,zAF y,f]
  grind[It,QO]
theorem uU(ϗ:RW q c pos)(hk:c.kind=6∨c.kind=7)(h2:F c.ce=2)(A5:c.ce.Nodup)(ha:a<2)(hs:s<q.sy.toNat):Ev (λn=>TE n q c pos (a:U) (s:U))<|It (QO q c pos a s) q.sy.toNat 0:=by
 have h256:=ϗ.h256;refine⟨q.sy.toNat+1,λn hn=>?_⟩
 show TE n q c pos (a:U) (s:U)=_
 unfold TE uS;rw[zAF ⟨⟨rfl,Z2,Z2⟩,AZ.2 ⟨Z2,Z2⟩,Z2,Z2⟩]
 grind[uT]
theorem vq(ϗ:RW q c pos)(h2:F c.ce=2)(ha:a<2):It (QO q c pos a s) q.sy.toNat 0=T↔HZ (J3 q c) c pos a s:=by
 rw[←zNB,pI];unfold HZ QO;simp only[zAx]
 by_cases h0:a=0
 ·subst h0;refine not_congr ⟨λ⟨t,_,_,m,b⟩=>⟨t,m,Z4⟩,λ⟨t,m,b⟩=>⟨t,zK5 _,by have:=ϗ.low (ϗ.W.at Z2) m;omega,m,by exact b⟩⟩
 ·have:a=1:=Z2
  subst this;refine not_congr ⟨λ⟨t,_,_,m,b⟩=>⟨t,m,Z4⟩,λ⟨t,m,b⟩=>⟨t,zK5 _,by have:=ϗ.low (ϗ.W.at Z2) m;omega,m,by exact b⟩⟩
def Rb(n:E)(q:AA)(c:AD)(pos:Ξ)(a s:U):X9:=B (c.kind==4) (Kq n q c pos 0 (-1) a s)<|B (c.kind==5) ((HQ n c.set s).bind λe=>Eh n c pos 0 0 0 a e)<|TE n q c pos a s
def Nx(q:AA)(c:AD)(pos:Ξ)(ϖ:E->E->ζ)(i j s:E):Prop:=∃a,a<i/\(H c.ce a 0).toNat=j/\s<q.sy.toNat/\tb (AY c pos a) s=D/\ϖ a s=T
theorem bZ(ϗ:RW q c pos){ϖ:E->E->ζ}(x:∀a s,a<F c.ce->s<q.sy.toNat->Ev (λn=>Rb n q c pos (a:U) (s:U)) (ϖ a s)):Ag (λn=>TD n q c pos)<|RL pos<|Nx q c pos ϖ<|F c.ce:=by
 have W:=ϗ.W;have Ap:=W.len;have e:=ϗ.h256;have He:=ϗ.sy;have Y:((q.sy.toNat:E):U)=q.sy:=Z2
 obtain⟨l,z,g⟩:=Fl (m:=Fg q c pos) (λi (l:Ξ)=>.l1 l (i:U)) (λi l=>RL pos (Nx q c pos ϖ i) l) (F c.ce) (λi l hi f=>by
  have hc:=W.ce i hi;have G:=W.at hi
  obtain⟨l',X,I⟩:=Fl (m:=Fg q c pos) (λs (l:Ξ)=>.l2 l (i:U) (s:U)) (λs l=>RL pos (λj t=>Nx q c pos ϖ i j t∨((H c.ce i 0).toNat=j/\t<s/\tb (AY c pos i) t=D/\ϖ i t=T)) l) q.sy.toNat (λs l k f=>by
   obtain⟨J,s2,s3⟩:=ϗ.sym k;have r1:AG<|(s:U)+1:=AZ.2 ⟨Z2,Z2⟩;obtain⟨N,K⟩:=x i s hi k
   have v:∀l,AR (Fg q c pos) (.l2 l (i:U) (s:U))<|.l3 l (i:U) (s:U)<|ϖ i s:=λl=>AR.oneN N λn P=>by
    have h:=K n P;have h:Rb n q c pos (i:U) (s:U)=_:=h;unfold Rb at h
    show WE n (Fg q c pos n) q c pos l (i:U) (s:U)=_
    unfold WE;rw[zAB J,zAG];cases Q:c.kind==4
    ·rw[Q,zAD]at h;rw[zAD];cases S:c.kind==5
     ·grind
     ·rw[S,zAG]at h;rw[zAG];cases V:HQ n c.set (s:U)with
      |none=>rw[V]at h;cases h
      |some b=>grind
    grind
   have ε:∀n,Fg q c pos (n+1) (.l3 l (i:U) (s:U)<|ϖ i s)=B (tb (AY c pos i) s&&!ϖ i s) ((Fc n l (H c.ce i 0)<|IntKind.i64.wrap<|1*2^s).bind λy=>Fg q c pos n<|.l4 y (i:U) (s:U)) (Fg q c pos n<|.l4 l (i:U) (s:U)):=λn=>by
    have e0:HQ n (H pos (H c.ce i 0).toNat 0) (s:U)=Z (tb (AY c pos i) s):=P6 G Z2 Z2
    show kK n (Fg q c pos n) q c pos l (i:U) (s:U) (ϖ i s)=_
    unfold kK;simp only[u8]
    grind
   have o:∀l',AR (Fg q c pos) (.l4 l' (i:U) (s:U))<|.l2 l' (i:U) ((s+1:E):U):=λl'=>AR.one λn=>by
    simp_all[uQ,Fg]
   cases w:tb (AY c pos i) s&&!ϖ i s
   ·refine⟨l,f.congr λj t=>?_,(v l).trans<|(AR.one λn=>by rw[ε n,w,zAD]).trans<|o l⟩
    grind
   ·obtain⟨R,f1,Gl⟩:=f.lose e (ss:=IntKind.i64.wrap<|1*2^s) hc.1 hc.2;have eS:=w;rw[zAx,zKr]at eS;refine⟨R,Gl.congr λj t=>?_,(v l).trans<|(AR.one λn=>Z4).trans<|o R⟩;rw[Hu Z2,zKv]
    grind) q.sy.toNat 0 l Z2<|f.congr λj t=>⟨λh=>h.elim id λh=>τ h.2.1<|zBT t,.inl⟩
  refine⟨l',X.congr λj s=>?_,(AR.one (b:=.l2 l (i:U) ((0:E):U)) λn=>?_).trans<|I.trans<|AR.one λn=>?_⟩
  ·grind[Nx]
  ·simp_all[kL,Fg]
  ·show WE n (Fg q c pos n) q c pos l' (i:U) ((q.sy.toNat:E):U)=_
   unfold WE;rw[Y,zAE Z2,zAD,zAF<|AZ.2 ⟨Z2,Z2⟩];rfl) (F c.ce) 0 (d (F pos) 0) Z2<|(RL.zero pos).congr λj s=>⟨λ⟨a,h,_⟩=>τ h<|zBT a,λh=>h.elim⟩
 refine((g.ev<|Ev.one (r:=l) λn=>?_).p z).eq λn=>?_
 ·simp_all[kL,Fg]
 ·unfold TD uR
  grind
end
end
section
variable{q:AA}{c:AD}{pos l:Ξ}{g:O Ξ}{inn:Ω}{s:U}
theorem LX{l:Ξ}{j:E}(hj:j<F l):H l j 0∈l:=by
 grind
structure Mk(g:O Ξ)(inn:Ω)(s:U)(o:Ω):Prop where
 len:F o=F g
 start:H o s.toNat T=D
 sub:∀v:E,v<F g->H o v T=D->Rc g inn s v
def Cl(g:O Ξ)(inn o:Ω)(ϛ:E):Prop:=H o ϛ T=D->∀v∈nb g ϛ,H inn v.toNat T=D->H o v.toNat T=D
def Ps(g:O Ξ)(inn:Ω)(s:U)(o0:Ω)(Ϙ:Ω->Prop)(x:ζ×Ω):Prop:=Mk g inn s x.2/\(x.1=T->x.2=o0/\Ϙ o0)/\(x.1=D->Et x.2<Et o0)
theorem us(G:Gr g)(hI:F inn=F g){o0:Ω}(J:Mk g inn s o0):∃x:ζ×Ω,Ps g inn s o0 (λo=>∀ϛ,ϛ<F g->Cl g inn o ϛ) x/\AR (GY g inn s) (.l1 D o0) (.l1 x.1 x.2):=by
 have Ap:=G.len
 obtain⟨x,a,N⟩:=Fl (m:=GY g inn s) (λi (x:ζ×Ω)=>.l2 x.1 (i:U) x.2) (λi x=>Ps g inn s o0 (λo=>∀ϛ,ϛ<i->Cl g inn o ϛ) x) (F g) (λi x hi a=>by
  have IA:=G.row i Z2 Z2
  obtain⟨x',S,P⟩:=Fl (m:=GY g inn s) (λj (x:ζ×Ω)=>.l3 x.1 (i:U) (j:U) x.2) (λj x=>Ps g inn s o0 (λo=>(∀ϛ,ϛ<i->Cl g inn o ϛ)/\(H o i T=D->∀K,K<j->H inn (H (nb g i) K 0).toNat T=D->H o (H (nb g i) K 0).toNat T=D)) x) (F<|nb g i) (λj x l a=>by
   obtain⟨b,o⟩:=x;obtain⟨c,r,k⟩:=a;have c:Mk g inn s o:=c;have r:b=T->o=o0/\_:=r;have k:b=D->Et o<Et o0:=k;have t:=G.rng i Z2 Z2 _<|LX l;have Q:=c.len;have r1:AG<|(j:U)+1:=AZ.2 ⟨Z2,Z2⟩;have R:nb g (i:U)=H g i []:=by unfold nb;rw[u8]
   have ε:∀n,GY g inn s (n+1) (.l3 b (i:U) (j:U) o)=B (H o i T&&H inn (H (nb g i) j 0).toNat T&&!H o (H (nb g i) j 0).toNat T) (GY g inn s n<|.l3 D (i:U) ((j:U)+1)<|o.set (H (nb g i) j 0).toNat D) (GY g inn s n<|.l3 b (i:U) ((j:U)+1) o):=λn=>by
    show V7 n (GY g inn s n) g inn s b (i:U) (j:U) o=_
    unfold V7
    grind
   cases p:H o i T&&H inn (H (nb g i) j 0).toNat T&&!H o (H (nb g i) j 0).toNat T
   ·refine⟨(b,o),⟨c,λw=>?_,k⟩,AR.one λn=>by rw[ε n,p,zAD];rfl⟩
    grind
   ·rw[zAx,zAx,zKr]at p;obtain⟨⟨y,z⟩,I⟩:=p;refine⟨(D,o.set (H (nb g i) j 0).toNat D),⟨⟨by rw[zKy];exact Q,?_,λv Fn q=>?_⟩,λw=>(by cases w),λ_=>?_⟩,AR.one λn=>by rw[ε n,y,z,I];rfl⟩
    ·rw[Yb Z2];split
     ·rfl
     ·exact c.start
    ·rw[Yb Z2]at q;split at q
     ·rename_i e;have FO:=Rc.step (c.sub i hi y) (LX l) z
      grind
     ·exact c.sub v Fn q
    ·have:=oO o (H (nb g i) j 0).toNat Z2 I
     grind) (F<|nb g i) 0 x Z2 ⟨a.1,λh=>⟨(a.2.1 h).1,(a.2.1 h).2,λ_ K V=>τ V<|zBT K⟩,a.2.2⟩
  have R:nb g (i:U)=H g i []:=by unfold nb;rw[u8]
  refine⟨x',⟨S.1,λh=>⟨(S.2.1 h).1,λϛ f=>?_⟩,S.2.2⟩,(AR.one (b:=.l3 x.1 (i:U) ((0:E):U) x.2) λn=>?_).trans<|P.trans<|AR.one λn=>?_⟩
  ·obtain⟨h4,W,h6⟩:=S.2.1 h;rcases zIY.1 f with f|rfl
   ·exact W ϛ f
   ·intro ho v t Dm;obtain⟨j,l,rfl⟩:=zLD t
    grind
  ·simp_all[j9,GY]
  ·show V7 n (GY g inn s n) g inn s x'.1 (i:U) (F<|nb g i:U) x'.2=_
   unfold V7;rw[zAF ⟨Z2,Z2⟩,zAE (by rw[u8,←R];omega),zAD,zAF<|AZ.2 ⟨Z2,Z2⟩];rfl) (F g) 0 (T,o0) Z2 ⟨J,λ_=>⟨rfl,λϛ f=>τ f<|zBT ϛ⟩,λh=>by cases h⟩
 refine⟨x,a,(AR.one (b:=.l2 T ((0:E):U) o0) λn=>rfl).trans<|N.trans<|AR.one λn=>?_⟩
 simp_all[j9,GY]
theorem zGH(G:Gr g)(m:F inn=F g):∀(z:E) (o0:Ω),Et o0<=z->Mk g inn s o0->∃o,(Mk g inn s o/\∀ϛ,ϛ<F g->Cl g inn o ϛ)/\AR (GY g inn s) (.l1 D o0) (.l1 T o):=by
 intro z
 induction z with
 |zero=>
  intro o0 a t;obtain⟨⟨b,o⟩,i,c⟩:=us G m t;cases b
  ·obtain⟨e,h⟩:=i.2.1 rfl
   grind
  ·have:Et o<Et o0:=i.2.2 rfl;omega
 |succ z n=>
  intro o0 a t;obtain⟨⟨b,o⟩,i,c⟩:=us G m t;cases b
  ·obtain⟨e,h⟩:=i.2.1 rfl
   grind
  ·have:Et o<Et o0:=i.2.2 rfl;obtain⟨o',f,W⟩:=n o Z2 i.1;exact⟨o',f,c.trans W⟩
def Ln(g:O Ξ)(inn:Ω)(s:U)(o:Ω):Prop:=F o=F g/\∀v:E,v<F g->(H o v T=D↔Rc g inn s v)
theorem bD(G:Gr g)(m:F inn=F g)(h0:0<=s)(b:s<(F g:U)):Ag (λn=>Gv n g inn s)<|Ln g inn s:=by
 have Ap:=G.len
 have e:Mk g inn s<|(d (F g) T).set s.toNat D:=by
  refine⟨Z3,?_,λv t a=>?_⟩
  ·grind
  ·rw[Yb Z7]at a;split at a
   ·rw[show((v:E):U)=s by omega];exact .start
   grind
 obtain⟨o,⟨c,f⟩,W⟩:=zGH G m _ _ (zI1 _) e
 have all:∀v:U,Rc g inn s v->H o v.toNat T=D:=λv t=>by
  induction t with
  |start=>exact c.start
  |step h hb hi i=>
   have hr:=h.rng G h0 b;refine f _ Z2 i _ ?_ hi
   grind
 refine((W.ev<|Ev.one (r:=o) λn=>?_).p ⟨c.len,λv t=>⟨c.sub v t,λh=>Z4⟩⟩).eq λn=>?_
 ·show kA n (GY g inn s n) g inn s T o=_
  unfold kA;rw[zAD,zAF c.len.symm]
 ·unfold Gv tm
  grind
theorem kE(a:F inn<=256):∀(k i:E) (o:Ξ),i+k=F inn->F o<=i->o≠[]->∃l,(F l<=F inn/\∀v:U,v∈l↔v∈o∨((i:U)<=v/\v<(F inn:U)/\H inn v.toNat T=D))/\∀n,k<n->Fd inn n (.l2 (F o) (i:U) o)=Z l
 |0,i,o,e,K,_=>by
  refine⟨o,⟨Z2,λv=>⟨.inl,λh=>h.elim id λh=>τ h.1 Z2⟩⟩,λn b=>?_⟩;obtain⟨n,rfl⟩:∃m,n=m+1:=⟨n-1,Z2⟩
  simp_all[Ku,Fd]
 |k+1,i,o,e,K,Q=>by
  have ϙ:Aw=1000000000000:=rfl;have r1:AG<|(i:U)+1:=AZ.2 ⟨Z2,Z2⟩;cases hb:H inn i T
  ·obtain⟨l,⟨c,g⟩,f⟩:=kE a k (i+1) o Z2 Z2 Q;refine⟨l,⟨c,λv=>?_⟩,λn b=>?_⟩
   ·grind
   ·obtain⟨n,rfl⟩:∃m,n=m+1:=⟨n-1,Z2⟩
    show Ku n (Fd inn n) inn (F o) (i:U) o=_
    unfold Ku
    grind
  ·obtain⟨l,⟨c,g⟩,f⟩:=kE a k (i+1) (o++[(i:U)]) Z2 Z7 Z3;rw[zKp]at f;refine⟨l,⟨c,λv=>?_⟩,λn b=>?_⟩
   ·grind
   ·obtain⟨n,rfl⟩:∃m,n=m+1:=⟨n-1,Z2⟩
    show Ku n (Fd inn n) inn (F o) (i:U) o=_
    unfold Ku
    grind
theorem t7(a:F inn<=256):∀(k i:E),i+k=F inn->∃l,(F l<=F inn/\∀v:U,v∈l↔((i:U)<=v/\v<(F inn:U)/\H inn v.toNat T=D))/\∀n,k<n->Fd inn n (.l1 (i:U))=Z l
 |0,i,e=>by
  refine⟨[],⟨Z3,λv=>⟨λh=>(by cases h),λh=>τ h.1 Z2⟩⟩,λn b=>?_⟩;obtain⟨n,rfl⟩:∃m,n=m+1:=⟨n-1,Z2⟩
  simp_all[Kv,Fd]
 |k+1,i,e=>by
  have ϙ:Aw=1000000000000:=rfl;have r1:AG<|(i:U)+1:=AZ.2 ⟨Z2,Z2⟩;cases hb:H inn i T
  ·obtain⟨l,⟨c,f⟩,g⟩:=t7 a k (i+1) Z2;refine⟨l,⟨c,λv=>?_⟩,λn b=>?_⟩
   ·grind
   ·obtain⟨n,rfl⟩:∃m,n=m+1:=⟨n-1,Z2⟩
    show Kv n (Fd inn n) inn (i:U)=_
    unfold Kv
    grind
  ·obtain⟨l,⟨c,f⟩,g⟩:=kE a k (i+1) [(i:U)] Z2 Z3 Z3;refine⟨l,⟨c,λv=>?_⟩,λn b=>?_⟩
   ·grind
   ·obtain⟨n,rfl⟩:∃m,n=m+1:=⟨n-1,Z2⟩
    show Kv n (Fd inn n) inn (i:U)=_
    unfold Kv
    grind
def av(G:Fw g):Ev (λn=>Kp n g) 0:=⟨2*FX g+1,λn a=>by
 show Kp n g=_
 rw[tO G.row a,G.ok];rfl⟩
def Ln.uniq{x x':Ω}(h:Ln g inn s x)(h':Ln g inn s x'):x=x':=
 ny (h.1.trans h'.1.symm) λj l=>by rw[zLX,h.2 j (by rw[←h.1];exact l),h'.2 j<|by rw[←h.1];exact l]
theorem zHc(G:Fw g)(m:F inn=F g)(h0:0<=s)(a:s<(F g:U))(hs:H inn s.toNat T=D):∃l,Ev (λn=>WD n g inn s) (l,0)/\F l<=256/\∀v,v∈l↔Rc g inn s v:=by
 have Ap:=G.gr.len;obtain⟨r,⟨hl,hy⟩,e⟩:=(bD G.gr m h0 a).ev λ_ _ h h'=>h.uniq h'
 obtain⟨l,⟨h4,K⟩,c⟩:=t7 (inn:=r) Z2 (F r) 0 Z2;refine⟨l,?_,Z2,λv=>?_⟩
 ·show Ev (λn=>kJ n g inn s) _
  refine Ev.bind (b:=λn (f:U)=>B (f != 0) (Z (([]:Ξ),120)) _) (av G) ?_;refine Ev.eq (g:=λn=>(Gv n g inn s).bind λr=>(Kw n r).bind λy3=>Z (y3,(0:U))) (Ev.bind e<|Ev.bind (x:=l) ⟨F r+1,λn hn=>c n Z2⟩<|Ev.now λn=>rfl) λn=>?_
  grind
 ·rw[K];constructor
  ·grind
  ·intro h;have hr:=h.rng G.gr h0 a
   grind
theorem zGY{n:E}(hI:F inn<=256){a:E}(ha:a<F inn):aw n inn (a:U)=Z (inn.set a T):=by
 have ϙ:Aw=1000000000000:=rfl;unfold aw tR
 grind
def iD(g:O Ξ)(inn some':Ω)(a ϛ v:E):Prop:=ϛ<F g/\v<F g/\ϛ≠a/\v≠a/\H inn ϛ T=D/\H some' ϛ T=D/\H inn v T=D/\H some' v T=D/\Rc g inn ϛ v/\¬Rc g (inn.set a T) ϛ v
variable{some':Ω}
variable{a:E}
theorem tV(G:Gr g)(s:F inn=F g)(w:F some'=F g){i:E}{x y:Ω}(hi:i<F g)(J:i≠a)(o:H inn i T=D)(q:H some' i T=D)(f:Ln g inn i x)(hy:Ln g (inn.set a T) i y){P:Prop}
 (t:Ag (λn=>Fb g inn some' (a:U) n<|.l1<|(i:U)+1) λr=>r.1=D↔P):∀(k j:E),j+k=F g->Ag (λn=>Fb g inn some' (a:U) n<|.l2 (i:U) x y (j:U)) λr=>r.1=D↔(∃v,j<=v/\iD g inn some' a i v)∨P
 |0,j,e=>by
  have z:=G.len;refine Ag.step 1 (λn=>?_)<|t.mono λr l=>l.trans ⟨.inr,λh=>h.elim (λ⟨v,b,c⟩=>τ c.2.1 Z2) id⟩
  show V2 n (Fb g inn some' (a:U) n) g inn some' (a:U) (i:U) x y (j:U)=_
  unfold V2;rw[zAE Z2,zAD,zAF<|AZ.2 ⟨Z2,Z2⟩]
 |k+1,j,e=>by
  have z:=G.len;have I:=tV G s w hi J o q f hy t k (j+1) Z2;have r1:AG<|(j:U)+1:=AZ.2 ⟨Z2,Z2⟩;have hxl:=f.1;have hyl:=hy.1
  have ε:∀n,Fb g inn some' (a:U) (n+1) (.l2 (i:U) x y (j:U))=B (!C (j=a)&&H inn j T&&H some' j T&&H x j T&&!H y j T) (Z (D,0)) (Fb g inn some' (a:U) n<|.l2 (i:U) x y ((j+1:E):U)):=λn=>by
   show V2 n (Fb g inn some' (a:U) n) g inn some' (a:U) (i:U) x y (j:U)=_
   have e2:((j:U) != (a:U))= !C (j=a):=by
    grind
   unfold V2
   grind
  have X:(!C (j=a)&&H inn j T&&H some' j T&&H x j T&&!H y j T)=D↔iD g inn some' a i j:=by
   simp only[zAx,zKr,zM9];rw[f.2 j Z2,←zNB,hy.2 j Z2];exact⟨λh=>⟨hi,Z2,J,h.1.1.1.1,o,q,h.1.1.1.2,h.1.1.2,h.1.2,h.2⟩,λ⟨_,_,_,b,_,_,c,K,W,N⟩=>⟨⟨⟨⟨b,c⟩,K⟩,W⟩,N⟩⟩
  cases m:!C (j=a)&&H inn j T&&H some' j T&&H x j T&&!H y j T
  ·refine Ag.step 1 (λn=>by rw[ε n,m,zAD])<|I.mono λr l=>l.trans<|zSE ⟨λ⟨v,b,c⟩=>⟨v,Z2,c⟩,λ⟨v,b,c⟩=>⟨v,?_,c⟩⟩ Iff.rfl
   grind
  ·exact(Ev.one (r:=(D,0)) λn=>by rw[ε n,m,zAG]).p ⟨λ_=>.inl ⟨j,zI1 _,X.1 m⟩,λ_=>rfl⟩
theorem tW(G:Gr g)(m:F inn=F g)(b:F some'=F g)(N:a<F g):∀(k i:E),i+k=F g->Ag (λn=>Fb g inn some' (a:U) n<|.l1 (i:U)) (λr=>r.1=D↔∃ϛ v,i<=ϛ/\iD g inn some' a ϛ v)
 |0,i,e=>(Ev.one (r:=(T,0)) λn=>by
  simp_all[az,Fb]).p ⟨λh=>(by cases h),λ⟨ϛ,v,f,c⟩=>τ c.1 Z2⟩
 |k+1,i,e=>by
  have Ap:=G.len;have j:=tW G m b N k (i+1) Z2;have P:AG<|(i:U)+1:=AZ.2 ⟨Z2,Z2⟩
  have X:((i:U)==(a:U))=C (i=a):=by
   grind
  have ε:∀n,Fb g inn some' (a:U) (n+1) (.l1 (i:U))=B (!C (i=a)&&H inn i T&&H some' i T) ((Gv n g inn (i:U)).bind λQ=>(Gv n g (inn.set a T) (i:U)).bind λy3=>Fb g inn some' (a:U) n<|.l2 (i:U) Q y3 0) (Fb g inn some' (a:U) n<|.l1 ((i+1:E):U)):=λn=>by
   show az n (Fb g inn some' (a:U) n) g inn some' (a:U) (i:U)=_
   unfold az;rw[zAB Z2,zAG,X,zAF P,zAF ⟨Z2,Z2⟩,zAF ⟨Z2,Z2⟩,u8,zGY Z2 Z2]
   grind
  cases l:!C (i=a)&&H inn i T&&H some' i T
  ·refine Ag.step 1 (λn=>by rw[ε n,l,zAD]) (j.mono λr o=>o.trans ⟨λ⟨ϛ,v,f,c⟩=>⟨ϛ,v,Z2,c⟩,λ⟨ϛ,v,f,c⟩=>⟨ϛ,v,?_,c⟩⟩)
   by_cases R:ϛ=i
   ·subst R;obtain⟨_,_,q,_,t,w,_⟩:=c
    grind
   ·omega
  ·have z:=l;simp only[zAx,zKr,zM9]at z;obtain⟨⟨q,t⟩,w⟩:=z;obtain⟨Y,I⟩:=bD (s:=(i:U)) G m Z2 Z2;obtain⟨J,V⟩:=bD (s:=(i:U)) (inn:=inn.set a T) G (by rw[zKy];exact m) Z2 Z2;obtain⟨x,_,K⟩:=I Y<|zI1 _;obtain⟨y,_,hy⟩:=V J<|zI1 _;have ϙ:=tV G m b Z2 q t w K hy j (F g) 0 Z2;obtain⟨S,W⟩:=ϙ;refine⟨max Y (max J S)+1,λn hn=>?_⟩;obtain⟨n,rfl⟩:∃k,n=k+1:=⟨n-1,Z2⟩;obtain⟨x',q1,Il⟩:=I n Z2;obtain⟨y',q2,lz⟩:=V n Z2;have:=Ln.uniq Il K;subst this;have:=Ln.uniq lz hy;subst this;obtain⟨r,q3,o⟩:=W n Z2
   grind
theorem zB3(G:Gr g)(hI:F inn=F g)(ha:a<F g)(J:H inn a T=D):(∃ϛ v,iD g inn some' a ϛ v)↔Sp g inn some' (a:U):=by
 constructor
 ·rintro⟨ϛ,v,c,e,m,W,K,p,q,f,i,l⟩
  have Y:Rc g inn ϛ a:=Classical.byContradiction λh=>l (by
   grind[zQl,Int.toNat_natCast])
  have z:=Y.symm G Z2 Z2 (by rw[u8];exact K);exact⟨ϛ,v,Z2,Z2,by rw[u8];exact p,by rw[u8];exact f,z,z.trans i,by rw[u8];exact l⟩
 ·rintro⟨ϛ,v,c,e,m,W,K,p,q⟩;have hu:=K.rng G Z2 Z2;have hv:=p.rng G Z2 Z2;have b:H inn (a:U).toNat T=D:=by rw[u8];exact J
  have o:=K.isIn b;have j:=p.isIn b;refine⟨ϛ.toNat,v.toNat,Z2,Z2,Z2,Z2,o,m,j,W,?_,?_⟩
  ·rw[show((ϛ.toNat:E):U)=ϛ by omega,show((v.toNat:E):U)=v by omega];exact(K.symm G Z2 Z2 b).trans p
  grind
theorem zGd(G:Fw g)(m:F inn=F g)(e:F some'=F g)(c:a<F g):Ag (λn=>a7 n g inn some' (a:U)) λr=>r.1=D↔H inn a T=D/\Sp g inn some' (a:U):=by
 have Ap:=G.gr.len
 show Ag (λn=>tU n (Fb g inn some' (a:U) n) g inn some' (a:U)) _
 refine Ag.bind (b:=λn (f:U)=>B (f != 0) (Z (T,120)) _) (av G) ?_;refine Ag.eq (g:=λn=>B (!H inn a T) (Z (T,(0:U)))<|Fb g inn some' (a:U) n<|.l1 0) ?_ λn=>?_
 ·cases i:H inn a T
  ·exact(Ev.now (r:=(T,(0:U))) λn=>rfl).p ⟨λh=>(by cases h),λh=>by cases h.1⟩
  ·refine Ag.eq (g:=λn=>Fb g inn some' (a:U) n<|.l1 ((0:E):U)) ((tW G.gr m e c (F g) 0 Z2).mono λr k=>k.trans ?_) λn=>rfl
   rw[←zB3 G.gr m c i]
   grind
 grind
end
section
set_option maxRecDepth 100000
set_option maxHeartbeats 40000000
def zEb:Ac (Ah Tryz.f69 7) [] (θ 15) []:=Z0
def SY:BG:=λi=>match i with
 |7=>.ord [] (θ 15) []
 |_=>.no
inductive YL where
 |l1 (x5:U)
 |l2 (x5 x6:U)
def YK(n:E)(self:YL->X9)(AE cells:Ξ)(P:U):X9:=B (C<|P<(F cells:U)) (self<|.l2 P 0)<|Z D
def YJ(n:E)(self:YL->X9)(v cells:Ξ)(P x6:U):X9:=B (C<|x6<P) (u ((0<=P/\P<(F cells:U))/\(0<=H cells P.toNat 0/\H cells P.toNat 0<(F v:U))/\(0<=x6/\x6<(F cells:U))/\(0<=H cells x6.toNat 0/\H cells x6.toNat 0<(F v:U))) (B (H v (H cells P.toNat 0).toNat 0==H v (H cells x6.toNat 0).toNat 0) (Z T)<|u (AG<|x6+1) (self<|.l2 P<|x6+1) A) A)<|u (AG<|P+1) (self<|.l1<|P+1) A
def zO8(n:E)(self:YL->X9)(AE cells:Ξ):X9:=self<|.l1 0
def Hl(v cells:Ξ):E->YL->X9
 |0,_=>A
 |n+1,.l1 P=>YK n (Hl v cells n) v cells P
 |n+1,.l2 P x6=>YJ n (Hl v cells n) v cells P x6
def ff(n:E)(v cells:Ξ):X9:=zO8 n (Hl v cells n) v cells
def zPA(n Ϝ:E)(N:Yd 0)(v cells:Ξ)(r:ζ):YL->Prop:=px n Ϝ η N (FQ Tryz.f69 0 (.bool r) []) (Af Tryz.f69) λ
 | .l1 P=>(0,0,AI 33 [(0,.ints v),(1,.ints cells),(5,.i P)],[])
 | .l2 P x6=>(1,2,AI 33 [(0,.ints v),(1,.ints cells),(5,.i P),(6,.i x6)],[])
def zPB(Ϝ:E)(N:Yd 0)(v cells:Ξ):Al (Hl v cells) (zPA · Ϝ N v cells):=ia (λ_=>rfl) λn G s r h=>by
 cases s
 case l1 x5=>
  intro o j;refine rd j λo j=>?_
  revert r;apply gO;exact bi 10 (lN SY [] (G _ _ · o n j χ))<|lE SY [4] []
 case l2 x5 x6=>
  intro o w j z;have j:=zCG j;refine rd z λw z=>?_
  revert r;apply gO;exact bi 15 (jg zEb (gc (gi (gc (gi (gc (gi (gi (bi 32 (lE SY [4] []) (gw 17 (lG SY [] (G _ _ · o w j z)))))))))))) (gw 12 (lG SY [] (G _ _ · o j)))
variable{r:ζ}{v cells:Ξ}{n:E}
def zO7(h:ff n v cells=Z r):EQ 69 [.ints v,.ints cells] [] (.bool r) [] D:=by
 refine ot Tryz.func69 λϜ N=>?_
 revert r;apply gO;exact lN SY [] ((zPB Ϝ N v cells n) _ _ · n χ)
inductive fv where
 |l1 (x7 x8:U)
def YW(n:E)(self:fv->W5)(v cells:Ξ)(h:U)(J x8:U):W5:=B (C<|x8<(F cells:U)) (u ((0<=x8/\x8<(F cells:U))/\(0<=H cells x8.toNat 0/\H cells x8.toNat 0<(F v:U))) ((Fe n h<|H v (H cells x8.toNat 0).toNat 0).bind λe=>B e (u (AG (J+1)/\AG (x8+1)) (self<|.l1 (J+1)<|x8+1) A)<|u (AG<|x8+1) (self<|.l1 J<|x8+1) A) A)<|Z J
def zPb(n:E)(self:fv->W5)(AE cells:Ξ)(AP:U):W5:=self<|.l1 0 0
def UX(v cells:Ξ)(h:U):E->fv->W5
 |0,_=>A
 |n+1,.l1 J x8=>YW n (UX v cells h n) v cells h J x8
def fw(n:E)(v cells:Ξ)(h:U):W5:=zPb n (UX v cells h n) v cells h
def zPd(n Ϝ:E)(N:Yd 0)(v cells:Ξ)(h:U)(r:U):fv->Prop:=px n Ϝ η N (FQ Tryz.f70 0 (.i r) []) (Af Tryz.f70) λ
 | .l1 J x8=>(0,0,AI 27 [(0,.ints v),(1,.ints cells),(2,.i h),(7,.i J),(8,.i x8)],[])
def zPe(Ϝ:E)(N:Yd 0)(v cells:Ξ)(a:U):Al (UX v cells a) (zPd · Ϝ N v cells a):=ia (λ_=>rfl) λn G s r h=>by
 cases s
 case l1 x7 x8=>
  intro o j;refine rd j λo j=>?_
  revert r;apply gO;exact bi 12 (gc (gi (gi (cf Gw [] λ_=>bi 23 (gc (gw 25 (gw 14 (lG AC [] (G _ _ · o j))))) (gw 14 (lG AC [] (G _ _ · o j)))))))<|lE AC [6] []
variable{a:U}
def zPa{r:U}(h:fw n v cells a=Z r):EQ 70 [.ints v,.ints cells,.i a] [] (.i r) [] D:=by
 refine ot Tryz.func70 λϜ N=>?_
 revert r;apply gO;exact lN AC [] ((zPe Ϝ N v cells a n) _ _ · n χ)
inductive ZZ where
 |l1 (x7 x8:U)
def U0(n:E)(self:ZZ->W5)(z v cells:Ξ)(J x8:U):W5:=B (C<|x8<(F cells:U)) (u ((0<=x8/\x8<(F cells:U))/\(0<=H cells x8.toNat 0/\H cells x8.toNat 0<(F v:U))/\(0<=H v (H cells x8.toNat 0).toNat 0/\H v (H cells x8.toNat 0).toNat 0<(F z:U))/\AG (J+H z (H v (H cells x8.toNat 0).toNat 0).toNat 0)/\AG (x8+1)) (self<|.l1 (J+H z (H v (H cells x8.toNat 0).toNat 0).toNat 0)<|x8+1) A)<|Z J
def zBx(n:E)(self:ZZ->W5)(BE AE cells:Ξ):W5:=self<|.l1 0 0
def SJ(z v cells:Ξ):E->ZZ->W5
 |0,_=>A
 |n+1,.l1 J x8=>U0 n (SJ z v cells n) z v cells J x8
def Za(n:E)(z v cells:Ξ):W5:=zBx n (SJ z v cells n) z v cells
def zBz(n Ϝ:E)(N:Yd 0)(z v cells:Ξ)(r:U):ZZ->Prop:=px n Ϝ η N (FQ Tryz.f71 0 (.i r) []) (Af Tryz.f71) λ
 | .l1 J x8=>(0,0,AI 28 [(0,.ints z),(1,.ints v),(2,.ints cells),(7,.i J),(8,.i x8)],[])
def zB0(Ϝ:E)(N:Yd 0)(z v cells:Ξ):Al (SJ z v cells) (zBz · Ϝ N z v cells):=ia (λ_=>rfl) λn G s r h=>by
 cases s
 case l1 x7 x8=>
  intro o j;refine rd j λo j=>?_
  revert r;apply gO;exact bi 12 (gc (gi (gc (gi (gc (gi (gc (gw 26 (gw 14 (lG AC [] (G _ _ · o j)))))))))))<|lE AC [6] []
variable{z:Ξ}
def zBw{r:U}(h:Za n z v cells=Z r):EQ 71 [.ints z,.ints v,.ints cells] [] (.i r) [] D:=by
 refine ot Tryz.func71 λϜ N=>?_
 revert r;apply gO;exact lN AC [] ((zB0 Ϝ N z v cells n) _ _ · n χ)
def zDb:Ac (Ah Tryz.f72 4) [] (θ 22) []:=Z0
def Zw:BG:=λi=>match i with
 |4=>.ord [] (θ 22) []
 |_=>.no
inductive ab where
 |l1 (x7:U)
def Vq(n:E)(self:ab->X9)(z v cells:Ξ)(J:U):X9:=B (C<|J<(F cells:U)) (u (AG (J-1)/\(0<=(J-1)/\(J-1)<(F cells:U))/\(0<=H cells (J-1).toNat 0/\H cells (J-1).toNat 0<(F v:U))/\(0<=H v (H cells (J-1).toNat 0).toNat 0/\H v (H cells (J-1).toNat 0).toNat 0<(F z:U))/\(0<=J/\J<(F cells:U))/\(0<=H cells J.toNat 0/\H cells J.toNat 0<(F v:U))/\(0<=H v (H cells J.toNat 0).toNat 0/\H v (H cells J.toNat 0).toNat 0<(F z:U))) (B (C<|H z (H v (H cells (J-1).toNat 0).toNat 0).toNat 0>=H z (H v (H cells J.toNat 0).toNat 0).toNat 0) (Z T)<|u (AG<|J+1) (self<|.l1<|J+1) A) A)<|Z D
def zFk(n:E)(self:ab->X9)(BE AE cells:Ξ):X9:=self<|.l1 1
def Nk(z v cells:Ξ):E->ab->X9
 |0,_=>A
 |n+1,.l1 J=>Vq n (Nk z v cells n) z v cells J
def ac(n:E)(z v cells:Ξ):X9:=zFk n (Nk z v cells n) z v cells
def zFm(n Ϝ:E)(N:Yd 0)(z v cells:Ξ)(r:ζ):ab->Prop:=px n Ϝ η N (FQ Tryz.f72 0 (.bool r) []) (Af Tryz.f72) λ
 | .l1 J=>(0,0,AI 36 [(0,.ints z),(1,.ints v),(2,.ints cells),(7,.i J)],[])
def zFn(Ϝ:E)(N:Yd 0)(z v cells:Ξ):Al (Nk z v cells) (zFm · Ϝ N z v cells):=ia (λ_=>rfl) λn G s r h=>by
 cases s
 case l1 x7=>
  intro o j;refine rd j λo j=>?_
  revert r;apply gO;exact bi 11 (jg zDb (gc (gw 18 (gc (gi (gc (gi (gc (gi (gc (gi (gc (gi (gi (bi 35 (lE Zw [6] []) (gw 13 (lG Zw [] (G _ _ · o j))))))))))))))))))<|lE Zw [6] []
def zFj(h:ac n z v cells=Z r):EQ 72 [.ints z,.ints v,.ints cells] [] (.bool r) [] D:=by
 refine ot Tryz.func72 λϜ N=>?_
 revert r;apply gO;exact lN Zw [] ((zFn Ϝ N z v cells n) _ _ · n χ)
def zDQ:Ac (Ah Tryz.f26 6) [] (θ 9) []:=Z0
def VN:BG:=λi=>match i with
 |6=>.ord [] (θ 9) []
 |_=>.no
inductive aB where
 |l1 (x5:U)
def VV(n:E)(self:aB->X9)(a b:Ξ)(P:U):X9:=B (C<|P<(F a:U)) (u ((0<=P/\P<(F a:U))/\(0<=P/\P<(F b:U))) (B (H a P.toNat 0 != H b P.toNat 0) (Z T)<|u (AG<|P+1) (self<|.l1<|P+1) A) A)<|Z D
def sD(n:E)(self:aB->X9)(a b:Ξ):X9:=B ((F a:U) != (F b:U)) (Z T)<|self<|.l1 0
def Sa(a b:Ξ):E->aB->X9
 |0,_=>A
 |n+1,.l1 P=>VV n (Sa a b n) a b P
def Kj(n:E)(a b:Ξ):X9:=sD n (Sa a b n) a b
def zC9(n Ϝ:E)(N:Yd 0)(a b:Ξ)(r:ζ):aB->Prop:=px n Ϝ η N (FQ Tryz.f26 0 (.bool r) []) (Af Tryz.f26) λ
 | .l1 P=>(0,0,AI 26 [(0,.ints a),(1,.ints b),(5,.i P)],[])
def zDA(Ϝ:E)(N:Yd 0)(a b:Ξ):Al (Sa a b) (zC9 · Ϝ N a b):=ia (λ_=>rfl) λn G s r h=>by
 cases s
 case l1 x5=>
  intro o j;refine rd j λo j=>?_
  revert r;apply gO;exact bi 14 (jg zDQ (gc (gi (gi (bi 25 (lE VN [4] []) (gw 16 (lG VN [] (G _ _ · o j))))))))<|lE VN [4] []
def sC{a b:Ξ}(h:Kj n a b=Z r):EQ 26 [.ints a,.ints b] [] (.bool r) [] D:=by
 refine ot Tryz.func26 λϜ N=>?_
 revert r;apply gO;exact bi 10 (lE VN [4] []) (lN VN [] ((zDA Ϝ N a b n) _ _ · n χ))
inductive Va where
 |l1 (x8 x9:U)
 |l2 (x7:E) (x8 x9:U) (o0:Ξ)
def VZ(n:E)(self:Va->W6)(v cells:Ξ)(h:U)(x8 Y:U):W6:=B (C<|Y<(F cells:U)) (u ((0<=Y/\Y<(F cells:U))/\(0<=H cells Y.toNat 0/\H cells Y.toNat 0<(F v:U))) ((Fe n h<|H v (H cells Y.toNat 0).toNat 0).bind λe=>B e (u (AG (x8+1)/\AG (Y+1)) (self<|.l1 (x8+1)<|Y+1) A)<|B (C<|x8>0) (u (((0=0/\1=F ([x8]:Ξ))/\0<F ([x8]:Ξ)/\F ([x8]:Ξ)<=Aw)/\AG (Y+1)) (self<|.l2 (F ([x8]:Ξ)) 0 (Y+1) ([x8]:Ξ)) A)<|u (AG<|Y+1) (self<|.l1 0<|Y+1) A) A)<|B (C<|x8>0) (u ((0=0/\1=F ([x8]:Ξ))/\0<F ([x8]:Ξ)/\F ([x8]:Ξ)<=Aw) (Z ([x8]:Ξ)) A)<|Z ([]:Ξ)
def VY(n:E)(self:Va->W6)(v cells:Ξ)(h:U)(J:E)(x8 Y:U)(o0:Ξ):W6:=B (C<|Y<(F cells:U)) (u ((0<=Y/\Y<(F cells:U))/\(0<=H cells Y.toNat 0/\H cells Y.toNat 0<(F v:U))) ((Fe n h<|H v (H cells Y.toNat 0).toNat 0).bind λe=>B e (u (AG (x8+1)/\AG (Y+1)) (self<|.l2 J (x8+1) (Y+1) o0) A)<|B (C<|x8>0) (u (((0=0/\1=F ([x8]:Ξ))/\(0=0/\J=F o0)/\F o0+F ([x8]:Ξ)<=Aw)/\AG (Y+1)) (self<|.l2 (F o0+F ([x8]:Ξ)) 0 (Y+1)<|o0++([x8]:Ξ)) A)<|u (AG<|Y+1) (self<|.l2 J 0 (Y+1) o0) A) A)<|B (C<|x8>0) (u ((0=0/\1=F ([x8]:Ξ))/\(0=0/\J=F o0)/\F o0+F ([x8]:Ξ)<=Aw) (u (F o0+F ([x8]:Ξ)=F (o0++([x8]:Ξ))) (Z<|o0++([x8]:Ξ)) A) A)<|u (J=F o0) (Z o0) A
def zE6(n:E)(self:Va->W6)(AE cells:Ξ)(AP:U):W6:=self<|.l1 0 0
def GA(v cells:Ξ)(h:U):E->Va->W6
 |0,_=>A
 |n+1,.l1 x8 Y=>VZ n (GA v cells h n) v cells h x8 Y
 |n+1,.l2 J x8 Y o0=>VY n (GA v cells h n) v cells h J x8 Y o0
def aM(n:E)(v cells:Ξ)(h:U):W6:=zE6 n (GA v cells h n) v cells h
def zE9(n Ϝ:E)(N:Yd 0)(v cells:Ξ)(h:U)(r:Ξ):Va->Prop:=px n Ϝ η N (FQ Tryz.f73 0 (.ints r) []) (Af Tryz.f73) λ
 | .l1 x8 Y=>(0,0,AI 40 [(0,.ints v),(1,.ints cells),(2,.i h),(7,.nils),(8,.i x8),(9,.i Y)],[])
 | .l2 J x8 Y o0=>(0,0,AI 40 [(0,.ints v),(1,.ints cells),(2,.i h),(7,.msl 0 1 0 J),(8,.i x8),(9,.i Y)],[oI o0])
def zFA(Ϝ:E)(N:Yd 0)(v cells:Ξ)(a:U):Al (GA v cells a) (zE9 · Ϝ N v cells a):=ia (λ_=>rfl) λn G s r h=>by
 cases s
 case l1 x8 x9=>
  intro o j;refine rd j λo j=>?_
  revert r;apply gO;exact bi 13 (gc (gi (gi (cf Gw [] λ_=>bi 24 (gc (gw 26 (gw 15 (lG AC [] (G _ _ · o j))))) (bi 28 (gc (gi (gw 15 (lG AC [1] (G _ _ · o j))))) (gw 15 (lG AC [] (G _ _ · o j))))))))<|bi 34 (gi<|lF λp=>ez AC [6] [1] p [0]<|H0.g<|φ<|F ([x8]:Ξ))<|lF λp=>el AC [6] [] p [] H0 [.nils] AO.ints_nil
 case l2 x7 x8 x9 o0=>
  intro o j;refine rd j λo j=>?_
  revert r;apply gO;exact bi 13 (gc (gi (gi (cf Gw [oI o0] λ_=>bi 24 (gc (gw 26 (gw 15 (lG AC [0] (G _ _ · o j))))) (bi 28 (gc (gi (gw 15 (lG AC [2] (G _ _ · o j))))) (gw 15 (lG AC [0] (G _ _ · o j))))))))<|bi 34 (gi<|gn λb=>lF λp=>ez AC [6] [2] p [0]<|H0.g b)<|gn λc=>lF λp=>ez AC [6] [0] p [0]<|H0.g c
def zE5{r:Ξ}(h:aM n v cells a=Z r):EQ 73 [.ints v,.ints cells,.i a] [] (.ints r) [] D:=by
 refine ot Tryz.func73 λϜ N=>?_
 revert r;apply gO;exact lN AC [] ((zFA Ϝ N v cells a n) _ _ · n χ)
inductive UY where
 |l1 (x7:U)
 |l2 (x6:E) (x7:U) (o0:O Ξ)
def Mx(n:E)(self:UY->X0)(I:O Ξ)(N:Ω)(J:U):X0:=B (C<|J<(F I:U)) (u (0<=J/\J<(F N:U)) (B (!(H N J.toNat T)) (u (AG<|J+1) (self<|.l1<|J+1) A)<|(Gv n I N J).bind λe=>(Kw n e).bind λr=>u ((0:U)<=0/\0<(F r:U)) (B (H r 0 0==J) (u (AG<|J+1) (self<|.l2 (F ([r]:O Ξ)) (J+1) ([r]:O Ξ)) A)<|u (AG<|J+1) (self<|.l1<|J+1) A) A) A)<|Z (([]:O Ξ),0)
def Mw(n:E)(self:UY->X0)(I:O Ξ)(N:Ω)(x6:E)(J:U)(o0:O Ξ):X0:=B (C<|J<(F I:U)) (u (0<=J/\J<(F N:U)) (B (!(H N J.toNat T)) (u (AG<|J+1) (self<|.l2 x6 (J+1) o0) A)<|(Gv n I N J).bind λe=>(Kw n e).bind λr=>u ((0:U)<=0/\0<(F r:U)) (B (H r 0 0==J) (u (x6=F o0/\F o0+F ([r]:O Ξ)<=Aw/\AG (J+1)) (self<|.l2 (F o0+F ([r]:O Ξ)) (J+1)<|o0++([r]:O Ξ)) A)<|u (AG<|J+1) (self<|.l2 x6 (J+1) o0) A) A) A)<|u (x6=F o0) (Z (o0,0)) A
def zPr(n:E)(self:UY->X0)(I:O Ξ)(N:Ω):X0:=(Kp n I).bind λe=>B (e != 0) (Z (([]:O Ξ),120))<|B ((F N:U) != (F I:U)) (Z (([]:O Ξ),1))<|self<|.l1 0
def HE(I:O Ξ)(N:Ω):E->UY->X0
 |0,_=>A
 |n+1,.l1 J=>Mx n (HE I N n) I N J
 |n+1,.l2 x6 J o0=>Mw n (HE I N n) I N x6 J o0
def gF(n:E)(I:O Ξ)(N:Ω):X0:=zPr n (HE I N n) I N
def zPs(n Ϝ:E)(N:Yd 0)(I:O Ξ)(a:Ω)(r:(O Ξ)×U):UY->Prop:=px n Ϝ η N (FQ Tryz.f103 0 (.tup 2<|L1 [.sl 1 (F r.1)<|AM AS r.1,.i r.2]) []) (Af Tryz.f103) λ
 | .l1 J=>(0,0,AI 43 [(0,.sl 1 (F I)<|AM AS I),(1,.bools a),(6,.nils),(7,.i J)],[])
 | .l2 x6 J o0=>(0,0,AI 43 [(0,.sl 1 (F I)<|AM AS I),(1,.bools a),(6,.msl 0 1 0 x6),(7,.i J)],[Z<|.arr 1 (F o0)<|AM AS o0])
def zPt(Ϝ:E)(N:Yd 0)(I:O Ξ)(b:Ω):Al (HE I b) (zPs · Ϝ N I b):=ia (λ_=>rfl) λn G s r h=>by
 cases s
 case l1 x7=>
  intro o j;refine rd j λo j=>?_
  revert r;apply gO;exact bi 20 (gi (bi 27 (gw 22 (lG AC [] (G _ _ · o j))) (cf Sw [] λ_=>cf bK [] λa=>gi (bi 37 (ja 40 0 1 (E4 (c:=AS) (ϙ:=([a]:O Ξ)) (vals:=[.ints a]) rfl ⟨⟨_,rfl,⟨Ab,trivial⟩⟩,trivial⟩) (jg (γ (γ (γ (φ 0)<|φ 1)<|OD AS ([a]:O Ξ) (F ([a]:O Ξ)) 1 λ_=>⟨rfl,rfl⟩)<|γ (by decide:0<1) (by decide:1<=Aw)) (gw 22 (lG AC [1] (G _ _ · o j))))) (gw 22 (lG AC [] (G _ _ · o j)))))))<|lF λp=>el AC [4,5] [] p [] H0 [.nils,.i 0]<|AO.tupL (l:=[.nils,.i 0]) (l':=[.sl 1 (F ([]:O Ξ))<|AM AS ([]:O Ξ),.i 0]) rfl ⟨AO.sl_nil _ _,Ab,trivial⟩
 case l2 x6 x7 o0=>
  intro o j;refine rd j λo j=>?_
  revert r;apply gO;exact bi 20 (gi (bi 27 (gw 22 (lG AC [0] (G _ _ · o j))) (cf Sw [Z<|.arr 1 (F o0)<|AM AS o0] λ_=>cf bK [Z<|.arr 1 (F o0)<|AM AS o0] λa=>gi (bi 37 (ja 40 1 1 (E4 (c:=AS) (ϙ:=([a]:O Ξ)) (vals:=[.ints a]) rfl ⟨⟨_,rfl,⟨Ab,trivial⟩⟩,trivial⟩) (gc (gn λy=>gc (gn λe=>jg (γ (γ (γ (φ 0)<|φ 1)<|OD AS ([a]:O Ξ) (F ([a]:O Ξ)) 1 λ_=>⟨rfl,rfl⟩)<|γ (γ (φ 0) y) e) (ja 41 2 1 (Vf (enc:=YD AS) (ϙ:=o0) (L':=([a]:O Ξ)) rfl rfl λ_ _ _ _=>Ab) (gw 22 (lG AC [2] (G _ _ · o j)))))))) (gw 22 (lG AC [0] (G _ _ · o j)))))))<|gn λf=>lF λp=>ez AC [4,5] [0] p [0]<|H0.g f
variable{I:O Ξ}
def zn{a:Ω}{r:(O Ξ)×U}(h:gF n I a=Z r):EQ 103 [.sl 1 (F I)<|AM AS I,.bools a] [] (.tup 2<|L1 [.sl 1 (F r.1)<|AM AS r.1,.i r.2]) [] D:=by
 refine ot Tryz.func103 λϜ N=>?_
 revert r;apply gO;exact cf Vz [] λ_=>bi 11 (lF λp=>el AC [4,5] [] p [] H0 [.nils,.i 120]<|AO.tupL (l:=[.nils,.i 120]) (l':=[.sl 1 (F ([]:O Ξ))<|AM AS ([]:O Ξ),.i 120]) rfl ⟨AO.sl_nil _ _,Ab,trivial⟩) (bi 16 (lF λp=>el AC [4,5] [] p [] H0 [.nils,.i 1]<|AO.tupL (l:=[.nils,.i 1]) (l':=[.sl 1 (F ([]:O Ξ))<|AM AS ([]:O Ξ),.i 1]) rfl ⟨AO.sl_nil _ _,Ab,trivial⟩) (lN AC [] ((zPt Ϝ N I a n) _ _ · n χ)))
inductive Vu where
 |l1 (x6:Ξ) (x7:Ω) (x8:U)
 |l2 (x6:Ξ) (x7:Ω) (x8 x9 x10:U)
def Vt(n:E)(self:Vu->X4)(g_:O Ξ)(AH:Ω)(x6:Ξ)(J:Ω)(x8:U):X4:=B (C<|x8<(F x6:U)) (self<|.l2 x6 J x8 0 0)<|Z (D,0)
def Vs(n:E)(self:Vu->X4)(I:O Ξ)(N:Ω)(x6:Ξ)(J:Ω)(x8 Y x10:U):X4:=u ((0<=x8/\x8<(F x6:U))/\(0<=H x6 x8.toNat 0/\H x6 x8.toNat 0<(F I:U))) (B (C<|x10<((F<|H I (H x6 x8.toNat 0).toNat []:E):U)) (u ((0<=x10/\x10<((F<|H I (H x6 x8.toNat 0).toNat []:E):U))/\((0:U)<=H (H I (H x6 x8.toNat 0).toNat []) x10.toNat 0/\H (H I (H x6 x8.toNat 0).toNat []) x10.toNat 0<(F N:U))) (B (H N (H (H I (H x6 x8.toNat 0).toNat []) x10.toNat 0).toNat T) (u (AG (Y+1)/\AG (x10+1)) (self<|.l2 x6 J x8 (Y+1)<|x10+1) A)<|u (AG<|x10+1) (self<|.l2 x6 J x8 Y<|x10+1) A) A)<|B (Y != 2) (Z (T,0))<|u (0<=H x6 x8.toNat 0/\H x6 x8.toNat 0<(F J:U)) (B (!(H J (H x6 x8.toNat 0).toNat T)) (Z (T,0))<|u (AG<|x8+1) (self<|.l1 x6 J<|x8+1) A) A) A
def zFu(n:E)(self:Vu->X4)(I:O Ξ)(N:Ω):X4:=(Kp n I).bind λe=>B (e != 0) (Z (T,120))<|B ((F N:U) != (F I:U)) (Z (T,1))<|(Kw n N).bind λr=>B (C<|(F r:U)<3) (Z (T,0))<|u ((0:U)<=0/\0<(F r:U)) ((Gv n I N<|H r 0 0).bind λy3=>self<|.l1 r y3 0) A
def HO(I:O Ξ)(N:Ω):E->Vu->X4
 |0,_=>A
 |n+1,.l1 x6 J x8=>Vt n (HO I N n) I N x6 J x8
 |n+1,.l2 x6 J x8 Y x10=>Vs n (HO I N n) I N x6 J x8 Y x10
def ae(n:E)(I:O Ξ)(N:Ω):X4:=zFu n (HO I N n) I N
def zFw(n Ϝ:E)(N:Yd 0)(I:O Ξ)(a:Ω)(r:ζ×U):Vu->Prop:=px n Ϝ η N (FQ Tryz.f104 0 (.tup 2<|L1 [.bool r.1,.i r.2]) []) (Af Tryz.f104) λ
 | .l1 x6 J x8=>(0,0,AI 75 [(0,.sl 1 (F I)<|AM AS I),(1,.bools a),(6,.ints x6),(7,.bools J),(8,.i x8)],[])
 | .l2 x6 J x8 Y x10=>(1,2,AI 75 [(0,.sl 1 (F I)<|AM AS I),(1,.bools a),(6,.ints x6),(7,.bools J),(8,.i x8),(9,.i Y),(10,.i x10)],[])
def zFx(Ϝ:E)(N:Yd 0)(I:O Ξ)(b:Ω):Al (HO I b) (zFw · Ϝ N I b):=ia (λ_=>rfl) λn G c r h=>by
 cases c
 case l1 x6 x7 x8=>
  intro o j;refine rd j λo j=>?_
  revert r;apply gO;exact bi 33 (lN AC [] (G _ _ · o n j χ))<|lE AC [4,5] []
 case l2 x6 x7 x8 x9 x10=>
  intro o w j z;have j:=zCG j;refine rd z λw z=>?_
  revert r;apply gO;exact gc (gn λa=>jg a (gn λs=>jg s (bi 45 (jg a (jg s (gc (gi (gi (bi 60 (gc (gw 62 (gw 47 (lG AC [] (G _ _ · o w j z))))) (gw 47 (lG AC [] (G _ _ · o w j z))))))))) (bi 64 (lE AC [4,5] []) (jg a (gi (bi 73 (lE AC [4,5] []) (gw 35 (lG AC [] (G _ _ · o j))))))))))
def zFt{a:Ω}{r:ζ×U}(h:ae n I a=Z r):EQ 104 [.sl 1 (F I)<|AM AS I,.bools a] [] (.tup 2<|L1 [.bool r.1,.i r.2]) [] D:=by
 refine ot Tryz.func104 λϜ N=>?_
 revert r;apply gO;exact cf Vz [] λ_=>bi 13 (lE AC [4,5] []) (bi 18 (lE AC [4,5] []) (cf bK [] λ_=>bi 23 (lE AC [4,5] []) (gi (cf Sw [] λ_=>lN AC [] ((zFx Ϝ N I a n) _ _ · n χ)))))
def zEN:Ac (Ah Tryz.f77 5) [([0,1,2,3,4,5,6,7,8,9,10,11,12],13)] [14] [15]:=Z0
def jJ:BG:=λi=>match i with
 |5=>.ord [([0,1,2,3,4,5,6,7,8,9,10,11,12],13)] [14] [15]
 |_=>.no
inductive cv where
 |l1 (x8:U) (o0:Ω)
def Wh(n:E)(self:cv->W8)(v cells:Ξ)(h:U)(x8:U)(o0:Ω):W8:=B (C<|x8<(F cells:U)) (u ((0<=x8/\x8<(F cells:U))/\(0<=H cells x8.toNat 0/\H cells x8.toNat 0<(F v:U))) ((Fe n h<|H v (H cells x8.toNat 0).toNat 0).bind λe=>u (0+(H cells x8.toNat 0).toNat<F o0/\AG (x8+1)) (self<|.l1 (x8+1)<|o0.set (0+(H cells x8.toNat 0).toNat) e) A) A)<|u (F v=F o0) (Z o0) A
def vt(n:E)(self:cv->W8)(v cells:Ξ)(AP:U):W8:=u (((F v:U):U)=(F v:U)/\0<=(F v:U)/\((F v:U):U)<=1000000000000) (self<|.l1 0<|d (F v) T) A
def Ta(v cells:Ξ)(h:U):E->cv->W8
 |0,_=>A
 |n+1,.l1 x8 o0=>Wh n (Ta v cells h n) v cells h x8 o0
def QP(n:E)(v cells:Ξ)(h:U):W8:=vt n (Ta v cells h n) v cells h
def zJB(n Ϝ:E)(N:Yd 0)(v cells:Ξ)(h:U)(r:Ω):cv->Prop:=px n Ϝ η N (FQ Tryz.f77 0 (.bools r) []) (Af Tryz.f77) λ
 | .l1 x8 o0=>(0,0,AI 34 [(0,.ints v),(1,.ints cells),(2,.i h),(7,.msl 0 1 0<|F v),(8,.i x8)],[Z<|.bools o0])
def zJC(Ϝ:E)(N:Yd 0)(v cells:Ξ)(b:U):Al (Ta v cells b) (zJB · Ϝ N v cells b):=ia (λ_=>rfl) λn G c r h=>by
 cases c
 case l1 x8 o0=>
  intro o a;refine rd a λo a=>?_
  revert r;apply gO;exact bi 15 (jg zEN (gc (gn λj=>jg j (jg j (gn λs=>jg s (cf Gw [Z<|.bools o0] λ_=>jg s (gc (gi (gw 17 (lG jJ [0] (G _ _ · o a)))))))))))<|gn λj=>lF λp=>ez jJ [6] [0] p [0]<|H0.g j
def vr{r:Ω}(h:QP n v cells a=Z r):EQ 77 [.ints v,.ints cells,.i a] [] (.bools r) [] D:=by
 refine ot Tryz.func77 λϜ N=>?_
 revert r;apply gO;exact gi (lN jJ [0] ((zJC Ϝ N v cells a n) _ _ · n χ))
def zm(n:E)(y:O Ξ)(N:Ω):X9:=(gF n y N).bind λe=>B (e.2==0) (Z<|C<|(F e.1:U)<=1)<|Z T
def YX(n:E)(y:O Ξ)(N:Ω):X9:=zm n y N
variable{y:O Ξ}
def zPp{a:Ω}(h:YX n y a=Z r):EQ 76 [.sl 1 (F y)<|AM AS y,.bools a] [] (.bool r) [] D:=by
 unfold YX zm at h;refine ot Tryz.func76 λϜ N=>?_
 revert r;apply gO;exact cf zn [] λ_=>bi 14 (lE AC [4] [])<|lE AC [4] []
def wB(n:E)(y:O Ξ)(N:Ω):X9:=(gF n y N).bind λe=>(ae n y N).bind λr=>B (e.2==0) (B (r.2==0) (B ((F e.1:U)==0) (Z D)<|Z r.1)<|Z T)<|Z T
def Wl(n:E)(y:O Ξ)(N:Ω):X9:=wB n y N
def zJT{a:Ω}(h:Wl n y a=Z r):EQ 78 [.sl 1 (F y)<|AM AS y,.bools a] [] (.bool r) [] D:=by
 unfold Wl wB at h;refine ot Tryz.func78 λϜ N=>?_
 revert r;apply gO;exact cf zn [] λ_=>cf zFt [] λ_=>bi 22 (bi 25 (bi 30 (lE AC [4] [])<|lE AC [4] [])<|lE AC [4] [])<|lE AC [4] []
def zEI:Ac (Ah Tryz.f50 13) [([0,1,2,3,4,6,7],5),([],8)] [9] []:=Z0
def zEH:Ac (Ah Tryz.f50 15) [([0,1,2,3,4,5,6,7,8,9,10,11,12,13,14,15,16,17,18,19,20,21,22,23],24)] [25] []:=Z0
def zEG:Ac (Ah Tryz.f50 21) [([0,1,2,3,4,5,6],7),([],8)] [9] []:=Z0
def zEF:Ac (Ah Tryz.f50 22) [([0,1,2,3,4,5,6],7),([],8)] [9] []:=Z0
def L9:BG:=λi=>match i with
 |13=>.ord [([0,1,2,3,4,6,7],5),([],8)] [9] []
 |15=>.ord [([0,1,2,3,4,5,6,7,8,9,10,11,12,13,14,15,16,17,18,19,20,21,22,23],24)] [25] []
 |21=>.ord [([0,1,2,3,4,5,6],7),([],8)] [9] []
 |22=>.ord [([0,1,2,3,4,5,6],7),([],8)] [9] []
 |_=>.no
def LF(n:E)(q:AA)(g:AD)(v:Ξ):X9:=B (g.kind==1) ((ff n v g.ce).bind λe=>Z e)<|B (g.kind==2) ((fw n v g.ce g.set).bind λe=>B (C<|g.lo<=e) (Z<|C<|e<=g.hi)<|Z T)<|B (g.kind==3) ((Za n q.va v g.ce).bind λe=>B (C<|g.lo<=e) (Z<|C<|e<=g.hi)<|Z T)<|B (g.kind==4) ((ac n q.va v g.ce).bind λe=>Z e)<|B (g.kind==5) ((aM n v g.ce g.set).bind λe=>(Kj n e g.ru).bind λr=>Z r)<|B (g.kind==6) (u (((0:U)<=0/\0<(F g.ce:U))/\(0<=H g.ce 0 0/\H g.ce 0 0<(F v:U))/\(0<=H v (H g.ce 0 0).toNat 0/\H v (H g.ce 0 0).toNat 0<(F q.va:U))/\((0:U)<=1/\1<(F g.ce:U))/\(0<=H g.ce 1 0/\H g.ce 1 0<(F v:U))/\(0<=H v (H g.ce 1 0).toNat 0/\H v (H g.ce 1 0).toNat 0<(F q.va:U))) ((WG n (H q.va (H v (H g.ce 0 0).toNat 0).toNat 0) (H q.va (H v (H g.ce 1 0).toNat 0).toNat 0) g.lo).bind λe=>Z e) A)<|B (g.kind==7) (u (((0:U)<=0/\0<(F g.ce:U))/\(0<=H g.ce 0 0/\H g.ce 0 0<(F v:U))/\((0:U)<=1/\1<(F g.ce:U))/\(0<=H g.ce 1 0/\H g.ce 1 0<(F v:U))) ((Fe n g.set<|H v (H g.ce 0 0).toNat 0).bind λe=>B e ((Fe n g.other<|H v (H g.ce 1 0).toNat 0).bind λr=>B (!r) ((Fe n g.set<|H v (H g.ce 1 0).toNat 0).bind λy3=>B y3 ((Fe n g.other<|H v (H g.ce 0 0).toNat 0).bind λQ=>Z<|!Q)<|Z D)<|Z T)<|(Fe n g.set<|H v (H g.ce 1 0).toNat 0).bind λr=>B r ((Fe n g.other<|H v (H g.ce 0 0).toNat 0).bind λy3=>Z<|!y3)<|Z D) A)<|B (g.kind==8) ((QP n v g.ce g.set).bind λe=>(YX n q.nb e).bind λr=>Z r)<|(QP n v g.ce g.set).bind λe=>(Wl n q.nb e).bind λr=>Z r
def Gf(n:E)(q:AA)(g:AD)(v:Ξ):X9:=LF n q g v
variable{q:AA}
def zI3{g:AD}(h:Gf n q g v=Z r):EQ 50 [.agg 5<|L1<|AJ q,.agg 9<|L1<|AW g,.ints v] [] (.bool r) [] D:=by
 refine ot Tryz.func50 λϜ N=>?_
 revert r;apply gO;exact bi 14 (cf zO7 [oC<|AJ q,oC<|AW g] λ_=>lE AC [6] [])<|bi 20 (cf zPa [oC<|AJ q,oC<|AW g] λ_=>bi 30 (lE AC [6] [])<|lE AC [6] [])<|bi 38 (cf zBw [oC<|AJ q,oC<|AW g] λ_=>bi 48 (lE AC [6] [])<|lE AC [6] [])<|bi 56 (cf zFj [oC<|AJ q,oC<|AW g] λ_=>lE AC [6] [])<|bi 64 (jg zEI<|cf zE5 [oC<|AJ q,oC<|AW g] λ_=>cf sC [oC<|AJ q,oC<|AW g] λ_=>lE L9 [6] [])<|bi 75 (jg zEH<|gc<|gi<|gc<|gi<|gc<|gi<|gc<|gi<|gc<|gi<|gi<|cf uY [oC<|AJ q,oC<|AW g] λ_=>lE L9 [6] [])<|bi 102 (gc<|gi<|gc<|gi<|gc<|gi<|gi<|cf Gw [oC<|AJ q,oC<|AW g] λ_=>bi 120 (cf Gw [oC<|AJ q,oC<|AW g] λ_=>bi 127 (cf Gw [oC<|AJ q,oC<|AW g] λ_=>bi 132 (cf Gw [oC<|AJ q,oC<|AW g] λ_=>lE L9 [6] [])<|lE L9 [6] [])<|lE L9 [6] [])<|cf Gw [oC<|AJ q,oC<|AW g] λ_=>bi 132 (cf Gw [oC<|AJ q,oC<|AW g] λ_=>lE L9 [6] [])<|lE L9 [6] [])<|bi 142 (jg zEG<|cf vr [oC<|AJ q,oC<|AW g] λ_=>cf zPp [oC<|AJ q,oC<|AW g] λ_=>lE L9 [6] [])<|jg zEF<|cf vr [oC<|AJ q,oC<|AW g] λ_=>cf zJT [oC<|AJ q,oC<|AW g] λ_=>lE L9 [6] []
inductive fH where
 |l1 (x7:U)
def Xw(n:E)(self:fH->X9)(cells p:U)(v:Ξ)(J:U):X9:=B (C<|J<(F v:U)) (u (0<=J/\J<(F v:U)) (B (C<|H v J.toNat 0<0) (Z T)<|B (C<|H v J.toNat 0>=p) (Z T)<|u (AG<|J+1) (self<|.l1<|J+1) A) A)<|Z D
def yn(n:E)(self:fH->X9)(cells Bt:U)(v:Ξ):X9:=B ((F v:U) != cells) (Z T)<|self<|.l1 0
def UI(cells p:U)(v:Ξ):E->fH->X9
 |0,_=>A
 |n+1,.l1 J=>Xw n (UI cells p v n) cells p v J
def fI(n:E)(cells p:U)(v:Ξ):X9:=yn n (UI cells p v n) cells p v
def zOI(n Ϝ:E)(N:Yd 0)(cells p:U)(v:Ξ)(r:ζ):fH->Prop:=px n Ϝ η N (FQ Tryz.f68 0 (.bool r) []) (Af Tryz.f68) λ
 | .l1 J=>(0,0,AI 31 [(1,.i p),(2,.ints v),(7,.i J)],[])
def zOJ(Ϝ:E)(N:Yd 0)(cells p:U)(v:Ξ):Al (UI cells p v) (zOI · Ϝ N cells p v):=ia (λ_=>rfl) λn G s r h=>by
 cases s
 case l1 x7=>
  intro o j;refine rd j λo j=>?_
  revert r;apply gO;exact bi 15 (gn λa=>jg a (bi 22 (lE AC [6] []) (jg a (bi 29 (lE AC [6] []) (gw 17 (lG AC [] (G _ _ · o j)))))))<|lE AC [6] []
def zOH{cells p:U}(h:fI n cells p v=Z r):EQ 68 [.i cells,.i p,.ints v] [] (.bool r) [] D:=by
 refine ot Tryz.func68 λϜ N=>?_
 revert r;apply gO;exact bi 11 (lE AC [6] []) (lN AC [] ((zOJ Ϝ N cells p v n) _ _ · n χ))
def pr(n:E)(q:AA)(v:Ξ):W5:=(Nb n q).bind λe=>B (e != 0) (Z e)<|(fI n q.ce q.sy v).bind λr=>B (!r) (Z 200)<|Z 0
def ZI(n:E)(q:AA)(v:Ξ):W5:=pr n q v
def zBG{r:U}(h:ZI n q v=Z r):EQ 49 [.agg 5<|L1<|AJ q,.ints v] [] (.i r) [] D:=by
 unfold ZI pr at h;refine ot Tryz.func49 λϜ N=>?_
 revert r;apply gO;exact cf aG [oC<|AJ q] λ_=>bi 9 (lE AC [4] [])<|cf zOH [oC<|AJ q] λ_=>bi 17 (lE AC [4] [])<|lE AC [4] []
def zDO:Ac (Ah Tryz.f35 7) [([0,1,2,3,4,5,6],7)] [8] []:=Z0
def VL:BG:=λi=>match i with
 |7=>.ord [([0,1,2,3,4,5,6],7)] [8] []
 |_=>.no
inductive Zg where
 |l1 (x7:U)
def U9(n:E)(self:Zg->X4)(q:AA)(v:Ξ)(J:U):X4:=B (C<|J<(F q.cons:U)) (u (0<=J/\J<(F q.cons:U)) ((Gf n q (H q.cons J.toNat ξ) v).bind λe=>B (!e) (Z (T,0))<|u (AG<|J+1) (self<|.l1<|J+1) A) A)<|Z (D,0)
def zCO(n:E)(self:Zg->X4)(q:AA)(v:Ξ):X4:=(ZI n q v).bind λe=>B (e != 0) (Z (T,e))<|self<|.l1 0
def NQ(q:AA)(v:Ξ):E->Zg->X4
 |0,_=>A
 |n+1,.l1 J=>U9 n (NQ q v n) q v J
def SQ(n:E)(q:AA)(v:Ξ):X4:=zCO n (NQ q v n) q v
def zCQ(n Ϝ:E)(N:Yd 0)(q:AA)(v:Ξ)(r:ζ×U):Zg->Prop:=px n Ϝ η N (FQ Tryz.f35 0 (.tup 2<|L1 [.bool r.1,.i r.2]) []) (Af Tryz.f35) λ
 | .l1 J=>(0,0,AI 30 [(1,.ints v),(2,.ref 0 0),(7,.i J)],[oC<|AJ q])
def zCR(Ϝ:E)(N:Yd 0)(q:AA)(v:Ξ):Al (NQ q v) (zCQ · Ϝ N q v):=ia (λ_=>rfl) λn G s r h=>by
 cases s
 case l1 x7=>
  intro o j;refine rd j λo j=>?_
  revert r;apply gO;exact bi 18 (jg zDO (gi (cf zI3 [oC<|AJ q] λ_=>bi 29 (lE VL [4,5] []) (gw 20 (lG VL [0] (G _ _ · o j))))))<|lE VL [4,5] []
def zCN{r:ζ×U}(h:SQ n q v=Z r):EQ 35 [.agg 5<|L1<|AJ q,.ints v] [] (.tup 2<|L1 [.bool r.1,.i r.2]) [] D:=by
 refine ot Tryz.func35 λϜ N=>?_
 revert r;apply gO;exact cf zBG [oC<|AJ q] λ_=>bi 12 (lE VL [4,5] []) (lN VL [0] ((zCR Ϝ N q v n) _ _ · n χ))
inductive Zq where
 |l1 (x3 x4:U)
def Zo(n:E)(self:Zq->W5)(h:U)(S f:U):W5:=B (C<|f<64) (u ((0<=IntKind.u64.wrap f/\IntKind.u64.wrap f<=(IntKind.u64.bits:U))/\AG (S+(IntKind.i64.wrap<|bits .and .u64 (IntKind.u64.wrap h/2^(IntKind.u64.wrap f).toNat) 1))/\AG (f+1)) (self<|.l1 (S+(IntKind.i64.wrap<|bits .and .u64 (IntKind.u64.wrap h/2^(IntKind.u64.wrap f).toNat) 1))<|f+1) A)<|Z S
def zCq(n:E)(self:Zq->W5)(AP:U):W5:=self<|.l1 0 0
def SU(h:U):E->Zq->W5
 |0,_=>A
 |n+1,.l1 S f=>Zo n (SU h n) h S f
def VI(n:E)(h:U):W5:=zCq n (SU h n) h
def zCs(n Ϝ:E)(N:Yd 0)(h:U)(r:U):Zq->Prop:=px n Ϝ η N (FQ Tryz.f34 0 (.i r) []) (Af Tryz.f34) λ
 | .l1 S f=>(0,0,AI 19 [(0,.i h),(3,.i S),(4,.i f)],[])
def zCt(Ϝ:E)(N:Yd 0)(a:U):Al (SU a) (zCs · Ϝ N a):=ia (λ_=>rfl) λn G s r h=>by
 cases s
 case l1 x3 x4=>
  intro o j;refine rd j λo j=>?_
  revert r;apply gO;exact bi 6 (gc (gi (gc (gw 17 (gw 8 (lG AC [] (G _ _ · o j)))))))<|lE AC [2] []
def zCp{r:U}(h:VI n a=Z r):EQ 34 [.i a] [] (.i r) [] D:=by
 refine ot Tryz.func34 λϜ N=>?_
 revert r;apply gO;exact lN AC [] ((zCt Ϝ N a n) _ _ · n χ)
end
section
variable{q:AA}{c:AD}{g:Ξ}
theorem zO9(S:Sv q c g)(hl:F c.ce<=256):∃r,Ev (λn=>ff n g c.ce) r/\(r=D↔∀a b,a<F c.ce->b<F c.ce->Ae c g a=Ae c g b->a=b):=by
 have inn:∀(k i j:E),i<F c.ce->j+k=i->(∀b,b<j->Ae c g b≠Ae c g i)->((∃b,b<i/\Ae c g b=Ae c g i)/\Ev (λn=>Hl g c.ce n<|.l2 (i:U) (j:U)) T)∨((∀b,b<i->Ae c g b≠Ae c g i)/\AR (Hl g c.ce) (.l2 (i:U) (j:U)) (.l1 ((i+1:E):U))):=by
  intro k
  induction k with
  |zero=>
   intro i j hi e h;have e:j=i:=Z2
   subst e;refine .inr ⟨h,AR.one λn=>?_⟩
   show YJ n (Hl g c.ce n) g c.ce (j:U) (j:U)=_
   unfold YJ;rw[zAE Z2,zAD,zAF<|AZ.2 ⟨Z2,Z2⟩,show((j+1:E):U)=(j:U)+1 by omega]
  |succ k p=>
   intro i j hi e h;have v:j<F c.ce:=Z2
   have y:=S.cell i hi;have G:=S.cell j v
   have step:∀n,Hl g c.ce (n+1) (.l2 (i:U) (j:U))=B (C<|Ae c g j=Ae c g i) (Z T) (Hl g c.ce n<|.l2 (i:U) ((j+1:E):U)):=λn=>by
    show YJ n (Hl g c.ce n) g c.ce (i:U) (j:U)=_
    unfold YJ;rw[zAB Z2,zAG,u8,u8,zAF ⟨⟨Z2,Z2⟩,y,⟨Z2,Z2⟩,G⟩,S.gi hi,S.gi v,zAF<|AZ.2 ⟨Z2,Z2⟩,show((j+1:E):U)=(j:U)+1 by omega]
    by_cases s:Ae c g j=Ae c g i
    ·rw[zAB s,s];simp
    ·rw[zAE s,show(((Ae c g i:E):U)==((Ae c g j:E):U))=T from zBE.2 Z2]
   by_cases s:Ae c g j=Ae c g i
   ·exact .inl ⟨⟨j,Z2,s⟩,Ev.one λn=>Z4⟩
   ·have w:AR (Hl g c.ce) (.l2 (i:U) (j:U))<|.l2 (i:U) ((j+1:E):U):=AR.one λn=>by rw[step n,zAE s,zAD]
    rcases p i (j+1) hi Z2 (λb f=>by
     rcases zIY.1 f with f|rfl
     ·exact h b f
     ·exact s)with⟨l,m⟩|⟨l,m⟩
    ·exact .inl ⟨l,AR.ev w m⟩
    ·exact .inr ⟨l,w.trans m⟩
 have key:∀(k i:E),i+k=F c.ce->(∀a b,a<i->b<i->Ae c g a=Ae c g b->a=b)->∃r,Ev (λn=>Hl g c.ce n<|.l1 (i:U)) r/\(r=D↔∀a b,a<F c.ce->b<F c.ce->Ae c g a=Ae c g b->a=b):=by
  intro k
  induction k with
  |zero=>
   intro i e z;have e:i=F c.ce:=Z2
   subst e;refine⟨D,Ev.one λn=>?_,zNm rfl z⟩
   show YK n (Hl g c.ce n) g c.ce (F c.ce:U)=_
   unfold YK;rw[zAE Z2,zAD]
  |succ k p=>
   intro i e z;have hi:i<F c.ce:=Z2
   have x:AR (Hl g c.ce) (.l1 (i:U))<|.l2 (i:U) ((0:E):U):=AR.one λn=>by
    show YK n (Hl g c.ce n) g c.ce (i:U)=_
    unfold YK;rw[zAB Z2,zAG];rfl
   rcases inn i i 0 hi Z2 (λb f=>τ f<|zBT b)with⟨⟨b,l,m⟩,I⟩|⟨l,m⟩
   ·refine⟨T,AR.ev x I,zM5 Z6 λh=>?_⟩;have:=h b i Z2 hi m;omega
   ·obtain⟨r,J,K⟩:=p (i+1) Z2 (λa b o f t=>by
     rcases zIY.1 o with o|rfl <;> rcases zIY.1 f with f|rfl
     ·exact z a b o f t
     ·exact τ t<|l a o
     ·exact τ t.symm<|l b f
     ·rfl)
    exact⟨r,AR.ev (x.trans m) J,K⟩
 exact key (F c.ce) 0 Z2 λa b o=>τ o<|zBT a
def zPc(S:Sv q c g)(hl:F c.ce<=256):Ev (λn=>fw n g c.ce c.set)<|cnt (λa=>tb c.set<|Ae c g a)<|F c.ce:=by
 have key:∀(k i:E),i+k=F c.ce->Ev (λn=>UX g c.ce c.set n<|.l1 (cnt (λa=>tb c.set<|Ae c g a) i) (i:U)) (cnt (λa=>tb c.set<|Ae c g a)<|F c.ce):=by
  intro k
  induction k with
  |zero=>
   intro i e;have e:i=F c.ce:=Z2
   subst e;refine Ev.one λn=>?_
   show YW n (UX g c.ce c.set n) g c.ce c.set _ (F c.ce:U)=_
   unfold YW;rw[zAE Z2,zAD]
  |succ k b=>
   intro i e;have hi:i<F c.ce:=Z2
   have hc:=S.cell i hi;have f:=(S.lt hi).2;have hb:=RF (p:=λa=>tb c.set<|Ae c g a) (i:=i);refine AR.ev (AR.one λn=>?_)<|b (i+1) Z2
   show YW n (UX g c.ce c.set n) g c.ce c.set _ (i:U)=_
   unfold YW;rw[zAB Z2,zAG,u8,zAF ⟨⟨Z2,Z2⟩,hc⟩,S.gi hi,I8 f,zAC,O5,show((i+1:E):U)=(i:U)+1 by omega];cases tb c.set (Ae c g i)
   ·rw[zAD,zAF<|AZ.2 ⟨Z2,Z2⟩];simp
   ·rw[zAG,zAF ⟨AZ.2 ⟨Z2,Z2⟩,AZ.2 ⟨Z2,Z2⟩⟩,zAF rfl]
 exact key (F c.ce) 0 Z2
def zBy(S:Sv q c g)(V:D6 q q.sy.toNat)(hl:F c.ce<=256):Ev (λn=>Za n q.va g c.ce)<|B5 (λa=>H q.va (Ae c g a) 0)<|F c.ce:=by
 have t:∀i,i<F c.ce->0<=H q.va (Ae c g i) 0/\H q.va (Ae c g i) 0<=99:=λi hi=>V.val _ (S.lt hi).1
 have key:∀(k i:E),i+k=F c.ce->Ev (λn=>SJ q.va g c.ce n<|.l1 (B5 (λa=>H q.va (Ae c g a) 0) i) (i:U)) (B5 (λa=>H q.va (Ae c g a) 0)<|F c.ce):=by
  intro k
  induction k with
  |zero=>
   intro i e;have e:i=F c.ce:=Z2
   subst e;refine Ev.one λn=>?_
   show U0 n (SJ q.va g c.ce n) q.va g c.ce _ (F c.ce:U)=_
   unfold U0;rw[zAE Z2,zAD]
  |succ k b=>
   intro i e;have hi:i<F c.ce:=Z2
   have hc:=S.cell i hi;have Ao:=(S.lt hi).1;have Fn:=V.len;have Dj:=t i hi;have hb:=PU (f:=λa=>H q.va (Ae c g a) 0) i λa ha=>by have:=t a Z2;omega
   refine AR.ev (AR.one λn=>?_)<|b (i+1) Z2
   show U0 n (SJ q.va g c.ce n) q.va g c.ce _ (i:U)=_
   unfold U0;rw[zAB Z2,zAG,u8,S.gi hi,u8,zAF ⟨⟨Z2,Z2⟩,hc,⟨Z2,Z2⟩,AZ.2 ⟨Z2,Z2⟩,AZ.2 ⟨Z2,Z2⟩⟩,show((i+1:E):U)=(i:U)+1 by omega];rfl
 exact key (F c.ce) 0 Z2
def zFl(S:Sv q c g)(V:D6 q q.sy.toNat)(hl:F c.ce<=256):∃r,Ev (λn=>ac n q.va g c.ce) r/\(r=D↔GR q 0 (F c.ce) (Ae c g)):=by
 have key:∀(k i:E),(i+1)+k=F c.ce∨F c.ce=0/\k=0/\i=0->GR q 0 (i+1) (Ae c g)->∃r,Ev (λn=>Nk q.va g c.ce n<|.l1 ((i+1:E):U)) r/\(r=D↔GR q 0 (F c.ce) (Ae c g)):=by
  intro k
  induction k with
  |zero=>
   intro i e m;refine⟨D,Ev.one λn=>?_,zNm rfl λb f Ao=>m b f Z2⟩
   show Vq n (Nk q.va g c.ce n) q.va g c.ce ((i+1:E):U)=_
   unfold Vq;rw[zAE Z2,zAD]
  |succ k j=>
   intro i e m;have hi:i<F c.ce:=Z2
   have a:i+1<F c.ce:=Z2
   have Y:=S.cell i hi;have Q:=S.cell (i+1) a;have l0:=(S.lt hi).1;have l1:=(S.lt a).1;have vl:=V.len
   have step:∀n,Nk q.va g c.ce (n+1) (.l1 ((i+1:E):U))=B (C<|H q.va (Ae c g i) 0>=H q.va (Ae c g<|i+1) 0) (Z T) (Nk q.va g c.ce n<|.l1 ((i+1+1:E):U)):=λn=>by
    show Vq n (Nk q.va g c.ce n) q.va g c.ce ((i+1:E):U)=_
    unfold Vq;rw[show((i+1:E):U)-1=(i:U) by omega];simp only[u8,S.gi hi,S.gi a];rw[zAB Z2,zAG,zAF ⟨AZ.2 ⟨Z2,Z2⟩,⟨Z2,Z2⟩,Y,⟨Z2,Z2⟩,⟨Z2,Z2⟩,Q,Z2,Z2⟩,zAF<|AZ.2 ⟨Z2,Z2⟩,show((i+1+1:E):U)=((i+1:E):U)+1 by omega]
   by_cases h:H q.va (Ae c g i) 0>=H q.va (Ae c g<|i+1) 0
   ·refine⟨T,Ev.one λn=>by rw[step n,zAB h,zAG],zM5 Z6 λP=>?_⟩;have:=P i (zK5 _) a;omega
   ·obtain⟨r,l,G⟩:=j (i+1) Z2 (λb o f=>by
     by_cases R:b=i
     ·subst R;omega
     ·exact m b o Z2)
    exact⟨r,AR.ev (AR.one λn=>by rw[step n,zAE h,zAD]) l,G⟩
 exact key (F c.ce-1) 0 Z2 λb _ h=>τ h Z2
def zE7(S:Sv q c g)(hl:F c.ce<=256):∀(m i:E) (l:U) (o:Ξ),i+m=F c.ce->0<=l/\l<=(i:U)->F o<=i->Ev (λn=>GA g c.ce c.set n<|.l2 (F o) l (i:U) o) (o++rl (λa=>tb c.set<|Ae c g a) (F c.ce) m l):=by
 have ϙ:Aw=1000000000000:=rfl;intro m
 induction m with
 |zero=>
  intro i l o e Y K;have e:i=F c.ce:=Z2
  subst e;refine Ev.one λn=>?_
  show VY n (GA g c.ce c.set n) g c.ce c.set (F o) l (F c.ce:U) o=_
  unfold VY rl;rw[zAE Z2,zAD]
  by_cases h:l>0
  ·rw[zAB h,zAG,zAF h,zAF ⟨⟨rfl,rfl⟩,⟨rfl,rfl⟩,Z7⟩,zAF Z3]
  ·rw[zAE h,zAD,zJz h,zAF rfl,zNL]
 |succ m b=>
  intro i l o e Y K;have hi:i<F c.ce:=Z2
  have hc:=S.cell i hi;have j:=(S.lt hi).2;have X:F c.ce-1-m=i:=Z2
  have r:AG<|(i:U)+1:=AZ.2 ⟨Z2,Z2⟩
  have start:∀n,GA g c.ce c.set (n+1) (.l2 (F o) l (i:U) o)=B (tb c.set<|Ae c g i) (GA g c.ce c.set n<|.l2 (F o) (l+1) ((i+1:E):U) o) (B (C<|l>0) (GA g c.ce c.set n<|.l2 (F<|o++[l]) 0 ((i+1:E):U)<|o++[l])<|GA g c.ce c.set n<|.l2 (F o) 0 ((i+1:E):U) o):=λn=>by
   show VY n (GA g c.ce c.set n) g c.ce c.set (F o) l (i:U) o=_
   unfold VY;rw[zAB Z2,zAG,u8,zAF ⟨⟨Z2,Z2⟩,hc⟩,S.gi hi,I8 j,zAC,show((i+1:E):U)=(i:U)+1 by omega];cases tb c.set (Ae c g i)
   ·rw[zAD,zAD,zAF ⟨⟨⟨rfl,rfl⟩,⟨rfl,rfl⟩,Z7⟩,r⟩,zAF r,zKp]
   ·rw[zAG,zAG,zAF ⟨AZ.2 ⟨Z2,Z2⟩,r⟩]
  unfold rl;rw[X];cases f:tb c.set (Ae c g i)with
  |true=>exact AR.ev (AR.one λn=>by rw[start n,f,zAG])<|b (i+1) (l+1) o Z2 Z2 Z2
  |false=>
   rw[zAD]
   by_cases h:l>0
   ·have h0:=b (i+1) 0 (o++[l]) Z2 Z2 Z7;rw[zAF h,show o++l::rl (λa=>tb c.set<|Ae c g a) (F c.ce) m 0=(o++[l])++rl (λa=>tb c.set<|Ae c g a) (F c.ce) m 0 by simp];exact AR.ev (AR.one λn=>by rw[start n,f,zAD,zAB h,zAG]) h0
   ·rw[zJz h];exact AR.ev (AR.one λn=>by rw[start n,f,zAD,zAE h,zAD])<|b (i+1) 0 o Z2 Z2 Z2
def zE8(S:Sv q c g)(j:F c.ce<=256):Ev (λn=>aM n g c.ce c.set)<|rl (λa=>tb c.set<|Ae c g a) (F c.ce) (F c.ce) 0:=by
 have ϙ:Aw=1000000000000:=rfl
 have key:∀(m i:E) (l:U),i+m=F c.ce->0<=l/\l<=(i:U)->Ev (λn=>GA g c.ce c.set n<|.l1 l (i:U)) (rl (λa=>tb c.set<|Ae c g a) (F c.ce) m l):=by
  intro m
  induction m with
  |zero=>
   intro i l e Y;have e:i=F c.ce:=Z2
   subst e;refine Ev.one λn=>?_
   show VZ n (GA g c.ce c.set n) g c.ce c.set l (F c.ce:U)=_
   unfold VZ rl;rw[zAE Z2,zAD]
   by_cases h:l>0
   ·rw[zAB h,zAG,zAF h,zAF ⟨⟨rfl,rfl⟩,Z3,Z7⟩]
   ·rw[zAE h,zAD,zJz h]
  |succ m f=>
   intro i l e Y;have hi:i<F c.ce:=Z2
   have hc:=S.cell i hi;have k:=(S.lt hi).2;have X:F c.ce-1-m=i:=Z2
   have r:AG<|(i:U)+1:=AZ.2 ⟨Z2,Z2⟩
   have start:∀n,GA g c.ce c.set (n+1) (.l1 l (i:U))=B (tb c.set<|Ae c g i) (GA g c.ce c.set n<|.l1 (l+1) ((i+1:E):U)) (B (C<|l>0) (GA g c.ce c.set n<|.l2 (F ([l]:Ξ)) 0 ((i+1:E):U) [l])<|GA g c.ce c.set n<|.l1 0 ((i+1:E):U)):=λn=>by
    show VZ n (GA g c.ce c.set n) g c.ce c.set l (i:U)=_
    unfold VZ;rw[zAB Z2,zAG,u8,zAF ⟨⟨Z2,Z2⟩,hc⟩,S.gi hi,I8 k,zAC,show((i+1:E):U)=(i:U)+1 by omega];cases tb c.set (Ae c g i)
    ·rw[zAD,zAD,zAF ⟨⟨⟨rfl,rfl⟩,Z3,Z7⟩,r⟩,zAF r]
    ·rw[zAG,zAG,zAF ⟨AZ.2 ⟨Z2,Z2⟩,r⟩]
   unfold rl;rw[X];cases b:tb c.set (Ae c g i)with
   |true=>exact AR.ev (AR.one λn=>by rw[start n,b,zAG])<|f (i+1) (l+1) Z2 Z2
   |false=>
    rw[zAD]
    by_cases h:l>0
    ·rw[zAF h];exact AR.ev (AR.one λn=>by rw[start n,b,zAD,zAB h,zAG])<|zE7 S j m (i+1) 0 [l] Z2 Z2 Z3
    ·rw[zJz h];exact AR.ev (AR.one λn=>by rw[start n,b,zAD,zAE h,zAD])<|f (i+1) 0 Z2 Z2
 exact key (F c.ce) 0 0 Z2 ⟨zKw _,Z2⟩
def wf{a b:Ξ}{n:E}(hl:F a<=LB)(c:F a<n):Kj n a b=Z (C<|a=b):=by
 have hb:LB<=9223372036854775806:=Z6
 unfold Kj sD
 by_cases r:F a=F b
 ·have e:((F a:U) != (F b:U))=T:=by rw[r];simp
  rw[e,zAD]
  have key:∀(k i n:E),i+k=F a->k+1<=n->Sa a b n (.l1 (i:U))=Z (C<|a.drop i=b.drop i):=by
   intro k
   induction k with
   |zero=>
    intro i n e c;obtain⟨n,rfl⟩:∃k,n=k+1:=⟨n-1,Z2⟩
    show VV n (Sa a b n) a b (i:U)=_
    unfold VV;rw[zAE Z2,zAD,zNb Z2,zNb Z2];rfl
   |succ k f=>
    intro i n e c;obtain⟨n,rfl⟩:∃k,n=k+1:=⟨n-1,Z2⟩;have hi:i<F a:=Z2
    have S:i<F b:=Z2
    have Ϛ:∀{l:Ξ},i<F l->l.drop i=H l i 0::l.drop (i+1):=λ{l} h=>by
     rw[zK3 h,zBD,zKA h];rfl
    have:=f (i+1) n Z2 Z2
    show VV n (Sa a b n) a b (i:U)=_
    unfold VV;rw[zAB Z2,zAG,zAF ⟨⟨Z2,Z2⟩,Z2,Z2⟩,u8,Ϛ hi,Ϛ S]
    by_cases h:H a i 0=H b i 0
    ·rw[h,show(H b i 0 != H b i 0)=T by simp,zAD,zAF<|AZ.2 ⟨Z2,Z2⟩,show(i:U)+1=((i+1:E):U) by omega,this]
     congr 1
     rw[decide_eq_decide];simp
    ·rw[show(H a i 0 != H b i 0)=D by simpa using h,zAG]
     congr 1
     exact(zAE λe=>h (List.cons.inj e).1).symm
  have:=key (F a) 0 n Z2 Z2;rw[zNZ,zNZ]at this;exact this
 ·have e:((F a:U) != (F b:U))=D:=by simpa using λh=>r Z2
  rw[e,zAG]
  congr 1
  exact(zAE λh=>r<|by rw[h]).symm
end
end Go.Proofs.YtnkpdcmbppkkpaaGreatDoor
