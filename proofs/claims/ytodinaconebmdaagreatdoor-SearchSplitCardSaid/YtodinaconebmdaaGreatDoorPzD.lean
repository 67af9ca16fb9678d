/- Part 4 of 8 of what the proofs of these laws stand on. -/
import Derived.Test.YtodinaconebmdaaGreatDoorPzC
import Derived.Laws.BitsLemmas
import Derived.Shelf.Sort.Plain
set_option linter.all false
namespace Go.Proofs.YtodinaconebmdaaGreatDoor
open Go.RowKit
section
set_option maxRecDepth 100000
set_option maxHeartbeats 40000000
def yc (n:Nat)(A2:Int):Option Unit:= some ()
def yd (n:Nat)(m:Int):Option Unit:=yc n m
variable {n:Nat}
def yb (m:Int){r:Unit}(h:yd n m=some r):EQ 123 [.i m] [] (.fn 133 1 (L1 [.ref 0 0])) [oC [.i m]] true:=by
 refine ot Tryz.func123 λB N=>?_
 revert r;apply gO;exact lE AC [2] [0]
def Lp {x:Int}(e:0<=x/\ x<9223372036854775808)(h:DH):EQ 123 [.i x] h (.it h.length) (h++[some (.iter ((Bj x).map Bw))]) true:=by
 refine ES.iterOf (yb (n:=0) x (r:=()) rfl) rfl (by kernel_rfl) (λargs W=>?_) (λw b o u j d c l a=>yZ e w b o u j d c l a) rfl (λb c=>?_) h
 ·exact JT Tryz.func133 (by kernel_rfl) (by kernel_rfl) args W
 ·rw [c];decide
def nt:ST:=.rd 0 (.rd 1 (.rd 2 (.rd 3 (.rd 4 (.rd 5 (.rd 6 (.rd 7 (.rd 8 (.rd 9 (.rd 10 (.rd 11 (.rd 12 (.rd 13 (.rd 14 (.rd 15 (.rd 16 (.rd 17 (.rd 18 (.rd 19 (.ef 20 (.ef 21 (.fin [] [4,5]) (.no)) (.no)))))))))))))))))))))
def zBP:B3 (BA Tryz.f122 4) [20] nt:=by unfold B3;kernel_rfl
def ns:ST:=.rd 0 (.rd 1 (.ef 2 (.ef 3 (.fin [] [4,5]) (.no)) (.no)))
def zBO:B3 (BA Tryz.f122 5) [2] ns:=by unfold B3;kernel_rfl
def Ye:Be:=λi=>match i with
 | 4=>.tre [20] nt
 | 5=>.tre [2] ns
 | _=>.no
def zHv (c:AD)(q:AA)(pos:Ξ)(ln:Nat)(lost:Ξ):DH:=[oW c q pos 1 ln,oI lost,oC [.ref 0 0],oC [.i 100],oC [.i (-1)]]
def zHu (c:AD)(q:AA)(pos:Ξ)(ln:Nat)(lost:Ξ)(ss:Int):DH:=[oW c q pos 1 ln,oI lost,oC [.ref 0 0],oC [.i 100],oC [.i (-1)],some (.iter ((Bj ss).map Bw))]
def nP (c:AD)(q:AA)(pos:Ξ)(ln:Nat)(lost:Ξ)(W X:Int):St:=⟨(AF 32 [(4,.ref 3 0),(5,.ref 4 0)]),([oW c q pos 1 ln,oI lost,oC [.ref 0 0],oC [.i W],oC [.i X],none]:DH)⟩
def zHt (c:AD)(q:AA)(pos:Ξ)(ln:Nat)(lost:Ξ)(E F:Int):DH:=[oW c q pos 1 ln,oI lost,oC [.ref 0 0],oC [.i E],oC [.i F],none]
def nN (c:AD)(q:AA)(pos:Ξ)(ln:Nat)(lost:Ξ)(j E F:Int):St:=⟨(AF 32 [(4,.ref 3 0),(5,.ref 4 0)]),([oW c q pos 1 ln,oI lost,oC [.ref 0 0],oC [.i (if (q.values.getD j.toNat 0)<E then (q.values.getD j.toNat 0) else E)],oC [.i (if (q.values.getD j.toNat 0)>F then (q.values.getD j.toNat 0) else F)],none]:DH)⟩
inductive OQ where
 | s0 (Gq Gp:Int)
def vG (c:AD)(q:AA)(pos:Ξ)(ln:Nat)(lost:Ξ):OQ -> DH
 | .s0 E F=>[oW c q pos 1 ln,oI lost,oC [.ref 0 0],oC [.i E],oC [.i F],none]
def vE (n:Nat)(c:AD)(q:AA)(pos:Ξ)(ln:Nat)(lost:Ξ)(j:Int)(E F:Int):Option OQ:= if 0<=j/\ j<(q.values.length:Int) then some (.s0 (if (q.values.getD j.toNat 0)<E then (q.values.getD j.toNat 0) else E) (if (q.values.getD j.toNat 0)>F then (q.values.getD j.toNat 0) else F)) else none
def vD (n:Nat)(c:AD)(q:AA)(pos:Ξ)(ln:Nat)(lost:Ξ)(j:Int):OQ -> Option OQ
 | .s0 E F=>vE n c q pos ln lost j E F
def Wu (n:Nat)(c:AD)(q:AA)(pos:Ξ)(ln:Nat)(lost:Ξ)(j:Int)(s:OQ):Option OQ:=vD n c q pos ln lost j s
def zJ6 (n:Nat)(c:AD)(q:AA)(pos:Ξ)(ln:Nat)(lost:Ξ)(l B:Nat)(N:Yd 6)(j:Int)(s:OQ)(r:OQ)(h:Wu n c q pos ln lost j s=some r):TA l B N (C1 6 [] 0 (vG c q pos ln lost r)) Tryz.f122 8 ⟨AF 32 [(2,.ref 2 0),(4,.ref 3 0),(5,.ref 4 0),(8,.it 5),(9,.i j)],vG c q pos ln lost s⟩:=by
 cases s with
 | s0 E F=>
  refine ag Ye [0,1,2,3,4,5] H0 (AF 32 [(2,.ref 2 0),(4,.ref 3 0),(5,.ref 4 0),(6,.i j)]) (zHt c q pos ln lost E F) λN=>?_
  revert r;apply gO;exact jg zBP (gn λa=>jg a (jg a (jt (jt (jg (Eq.refl (nN c q pos ln lost j E F)) (lF λp=>rr (tg:=[([(20,3)],(nN c q pos ln lost j E F))]) Ye [0,1,2,3,4,5] rfl p))))))
def vC (n:Nat)(ss:Int)(c:AD)(q:AA)(pos:Ξ)(ln:Nat)(lost:Ξ):Option (Int×Int×Ξ):=
 if 0<=ss/\ ss<9223372036854775808 then
  (CO (Wu n c q pos ln lost) (Bj ss) (.s0 100 (-1))).bind λk=>
   match k with
   | .s0 W X=>
    some (W,X,lost)
 else none
def Wv (n:Nat)(ss:Int)(c:AD)(q:AA)(pos:Ξ)(ln:Nat)(lost:Ξ):Option (Int×Int×Ξ):=vC n ss c q pos ln lost
variable {lost pos:Ξ}{ln:Nat}{q:AA}{c:AD}
def TN {ss:Int}{r:Int×Int×Ξ}(h:Wv n ss c q pos ln lost=some r):EQ 122 [.ref 0 0,.i ss] [oW c q pos 1 ln,oI lost] (.tup 2 (L1 [.i r.1,.i r.2.1])) [oW c q pos 1 ln,oI r.2.2] false:=by
 refine ot Tryz.func122 λB N=>?_
 revert r;apply gO
 exact jt (jt (gn λa=>jc (Lp a (zHv c q pos ln lost)) (cn λk s=>λp r h=>by
  refine gs Ye [0,1,2,3,4,5] p (HE (AR Tryz.f122) 8 []) (AF 32 [(2,.ref 2 0),(4,.ref 3 0),(5,.ref 4 0),(8,.it 5)]) (zHu c q pos ln lost ss) ?_;refine r0 5 8 #[9] Bw 6 s (zJ6 n c q pos ln lost) ?_;cases k with
  | s0 W X=>
   dsimp only at h
   revert r;apply gO;exact jg zBO (jt (jt (jg (Eq.refl (nP c q pos ln lost W X)) (lE (tg:=[([(2,3)],(nP c q pos ln lost W X))]) Ye [4,5] [0,1,3,4])))))))
def nT:ST:=.rd 0 (.rd 1 (.rd 2 (.rd 3 (.rd 4 (.rd 5 (.rd 6 (.rd 7 (.ef 8 (.rd 9 (.rd 10 (.rd 11 (.rd 12 (.rd 13 (.fin [] [1,3,4,7,8,19,20,21,90])))))) (.no)))))))))
def zAY:B3 (BA Tryz.f108 5) [] nT:=by unfold B3;kernel_rfl
def nS:ST:=.rd 0 (.rd 1 (.rd 2 (.rd 3 (.rd 4 (.rd 5 (.ef 6 (.ef 7 (.fin [] [1,3,4,19,20,21,90]) (.no)) (.no)))))))
def zAX:B3 (BA Tryz.f108 6) [6] nS:=by unfold B3;kernel_rfl
def zAW:Ax (BA Tryz.f108 8) [] (List.range 16) []:=by unfold Ax;kernel_rfl
def nV:ST:=.rd 0 (.rd 1 (.rd 2 (.rd 3 (.rd 4 (.rd 5 (.rd 6 (.rd 7 (.ef 8 (.rd 9 (.rd 10 (.rd 11 (.ef 12 (.ef 13 (.ef 14 (.ef 15 (.fin [0,1] [1,3,4,10,11,12,64,65,66,90]) (.no)) (.no)) (.no)) (.ef 13 (.ef 12 (.ef 14 (.ef 15 (.fin [1,0] [1,3,4,10,11,12,64,65,66,90]) (.no)) (.no)) (.no)) (.no)))))) (.ef 12 (.ef 8 (.rd 9 (.rd 10 (.rd 11 (.ef 13 (.ef 14 (.ef 15 (.fin [0,1] [1,3,4,10,11,12,64,65,66,90]) (.no)) (.no)) (.no))))) (.ef 13 (.ef 8 (.rd 9 (.rd 10 (.rd 11 (.ef 14 (.ef 15 (.fin [0,1] [1,3,4,10,11,12,64,65,66,90]) (.no)) (.no))))) (.no)) (.no))) (.ef 13 (.ef 8 (.rd 9 (.rd 10 (.rd 11 (.ef 12 (.ef 14 (.ef 15 (.fin [1,0] [1,3,4,10,11,12,64,65,66,90]) (.no)) (.no)) (.no))))) (.ef 12 (.ef 8 (.rd 9 (.rd 10 (.rd 11 (.ef 14 (.ef 15 (.fin [1,0] [1,3,4,10,11,12,64,65,66,90]) (.no)) (.no))))) (.no)) (.no))) (.no)))))))))))
def zAb:B3 (BA Tryz.f108 13) [12,13,14] nV:=by unfold B3;kernel_rfl
def zAa:Ax (BA Tryz.f108 14) [([0,1,2,3,4,5,6],7)] [] []:=by unfold Ax;kernel_rfl
def zAZ:Ax (BA Tryz.f108 17) [] (List.range 24) []:=by unfold Ax;kernel_rfl
def nU:ST:=.rd 0 (.rd 1 (.rd 2 (.rd 3 (.ef 4 (.fin [] [2]) (.no)))))
def pF:B3 (BA Tryz.f108 18) [] nU:=by unfold B3;kernel_rfl
def Iy:Be:=λi=>match i with
 | 5=>.tre [] nT
 | 6=>.tre [6] nS
 | 8=>.ord [] (List.range 16) []
 | 13=>.tre [12,13,14] nV
 | 14=>.ord [([0,1,2,3,4,5,6],7)] [] []
 | 17=>.ord [] (List.range 24) []
 | 18=>.tre [] nU
 | _=>.no
def zG0 (c:AD)(q:AA)(pos:Ξ)(ln:Nat)(o1:Ξ)(G g:Int):DH:=[oW c q pos 1 ln,oI o1,oC [.ref 0 0],oC [.i G],oC [.i g]]
def m6 (k:Int×Int×Ξ)(c:AD)(x21:Int)(q:AA)(pos:Ξ)(ln:Nat)(G g:Int):St:=⟨(AF 129 [(1,.ref 2 0),(3,.ref 3 0),(4,.ref 4 0),(7,.i k.1),(8,.i k.2.1),(19,.ints c.cells),(20,.i (c.cells.length:Int)),(21,.i x21)]),([oW c q pos 1 ln,oI k.2.2,oC [.ref 0 0],oC [.i G],oC [.i g]]:DH)⟩
def m5 (c:AD)(x21:Int)(q:AA)(pos:Ξ)(ln:Nat)(k:Int×Int×Ξ)(G g:Int):St:=⟨(AF 129 [(1,.ref 2 0),(3,.ref 3 0),(4,.ref 4 0),(19,.ints c.cells),(20,.i (c.cells.length:Int)),(21,.i x21)]),([oW c q pos 1 ln,oI k.2.2,oC [.ref 0 0],oC [.i (G+k.1)],oC [.i (g+k.2.1)]]:DH)⟩
def zGz (c:AD)(q:AA)(pos:Ξ)(ln:Nat)(o1:Ξ)(G g a:Int):DH:=[oW c q pos 1 ln,oI o1,oC [.ref 0 0],oC [.i G],oC [.i g],oC [.i (c.cells.getD a.toNat 0)]]
def Ot (c:AD)(a:Int)(q:AA)(pos:Ξ)(ln:Nat)(k:Int×Int×Ξ)(G g:Int):St:=⟨(AF 129 [(1,.ref 2 0),(3,.ref 3 0),(4,.ref 4 0),(10,.ref 5 0),(11,.ref 6 0),(12,.ref 7 0),(64,.ints c.cells),(65,.i (c.cells.length:Int)),(66,.i a)]),([oW c q pos 1 ln,oI k.2.2,oC [.ref 0 0],oC [.i G],oC [.i g],oC [.i (c.cells.getD a.toNat 0)],oC [.i k.1],oC [.i k.2.1]]:DH)⟩
def tF (c:AD)(q:AA)(pos:Ξ)(ln:Nat)(o1:Ξ)(G g a:Int):DH:=[oW c q pos 1 ln,oI o1,oC [.ref 0 0],oC [.i G],oC [.i g],oC [.i (c.cells.getD a.toNat 0)],oC [.i 0]]
def tE (c:AD)(q:AA)(pos:Ξ)(ln:Nat)(o1:Ξ)(G g a:Int):DH:=[oW c q pos 1 ln,oI o1,oC [.ref 0 0],oC [.i G],oC [.i g],oC [.i (c.cells.getD a.toNat 0)],oC [.i 0],oC [.i 0]]
def zGy (c:AD)(q:AA)(pos:Ξ)(ln:Nat)(k:Int×Int×Ξ)(G g a:Int):DH:=[oW c q pos 1 ln,oI k.2.2,oC [.ref 0 0],oC [.i G],oC [.i g],oC [.i (c.cells.getD a.toNat 0)],oC [.i k.1],oC [.i k.2.1]]
def zGx (c:AD)(q:AA)(pos:Ξ)(ln:Nat)(k:Int×Int×Ξ)(G g a:Int):DH:=[oW c q pos 1 ln,oI k.2.2,oC [.ref 0 0],oC [.i G],oC [.i g],oC [.i (c.cells.getD a.toNat 0)],oC [.i k.1],oC [.i k.2.1],some (.iter ((Bj (pos.getD ((c.cells.getD a.toNat 0).toNat) 0)).map Bw))]
def i8 (c:AD)(q:AA)(pos:Ξ)(ln:Nat)(Q:Ξ)(G g a:Int)(k:Int×Int×Ξ):DH:=[oW c q pos 1 ln,oI Q,oC [.ref 0 0],oC [.i G],oC [.i g],oC [.i (c.cells.getD a.toNat 0)],oC [.i k.1],oC [.i k.2.1],none]
def Xz (c:AD)(q:AA)(pos:Ξ)(ln:Nat)(r:Ξ)(G g a:Int)(k:Int×Int×Ξ):St:=⟨(AF 129 []),([oW c q pos 1 ln,oI r,oC [.ref 0 0],oC [.i G],oC [.i g],oC [.i (c.cells.getD a.toNat 0)],oC [.i k.1],oC [.i k.2.1],none]:DH)⟩
inductive Lq where
 | s0 (HU:Ξ)
def n7 (c:AD)(a:Int)(q:AA)(pos:Ξ)(ln:Nat)(G g:Int)(k:Int×Int×Ξ):Lq -> DH
 | .s0 Q=>[oW c q pos 1 ln,oI Q,oC [.ref 0 0],oC [.i G],oC [.i g],oC [.i (c.cells.getD a.toNat 0)],oC [.i k.1],oC [.i k.2.1],none]
def X8 (n:Nat)(c:AD)(a:Int)(q:AA)(pos:Ξ)(ln:Nat)(G g:Int)(k:Int×Int×Ξ)(N:Int)(Q:Ξ):Option Lq:= if (0<=N/\ N<(q.values.length:Int))/\ AG (G-k.1)/\ AG ((G-k.1)+(q.values.getD N.toNat 0)) then bif (decide (((G-k.1)+(q.values.getD N.toNat 0))>c.hi)) then if 0<=N/\ N<=(IntKind.i64.bits:Int) then (D8 n (c.cells.getD a.toNat 0) (IntKind.i64.wrap (1*2 ^ (N).toNat)) c q pos ln Q).bind λr=> some (.s0 r) else none else if AG (g-k.2.1)/\ AG ((g-k.2.1)+(q.values.getD N.toNat 0)) then bif (decide (((g-k.2.1)+(q.values.getD N.toNat 0))<c.lo)) then if 0<=N/\ N<=(IntKind.i64.bits:Int) then (D8 n (c.cells.getD a.toNat 0) (IntKind.i64.wrap (1*2 ^ (N).toNat)) c q pos ln Q).bind λr=> some (.s0 r) else none else some (.s0 Q) else none else none
def n6 (n:Nat)(c:AD)(a:Int)(q:AA)(pos:Ξ)(ln:Nat)(G g:Int)(k:Int×Int×Ξ)(N:Int):Lq -> Option Lq
 | .s0 Q=>X8 n c a q pos ln G g k N Q
def X9 (n:Nat)(c:AD)(a:Int)(q:AA)(pos:Ξ)(ln:Nat)(G g:Int)(k:Int×Int×Ξ)(N:Int)(s:Lq):Option Lq:=n6 n c a q pos ln G g k N s
def yk (n:Nat)(c:AD)(a:Int)(q:AA)(pos:Ξ)(ln:Nat)(G g:Int)(k:Int×Int×Ξ)(l B:Nat)(N:Yd 9)(d:Int)(s:Lq)(r:Lq)(h:X9 n c a q pos ln G g k d s=some r):TA l B N (C1 9 [] 0 (n7 c a q pos ln G g k r)) Tryz.f108 89 ⟨AF 129 [(1,.ref 2 0),(3,.ref 3 0),(4,.ref 4 0),(10,.ref 5 0),(11,.ref 6 0),(12,.ref 7 0),(64,.ints c.cells),(65,.i (c.cells.length:Int)),(66,.i a),(89,.it 8),(90,.i d)],n7 c a q pos ln G g k s⟩:=by
 cases s with
 | s0 Q=>
  replace h:X8 n c a q pos ln G g k d Q=some r:=h;unfold X8 at h;refine ag Iy [0,1,2,3,4,5,6,7,8] H0 (AF 129 [(1,.ref 2 0),(3,.ref 3 0),(4,.ref 4 0),(10,.ref 5 0),(11,.ref 6 0),(12,.ref 7 0),(13,.i d)]) (i8 c q pos ln Q G g a k) λN=>?_
  revert r;apply gO;exact gc (gi (jg zAZ (gc (gw 101 (gw 103 (bi 109 (jg pF (gi (ce Gy [0,1] (i8 c q pos ln Q G g a k) λb=>jg (Eq.refl (Xz c q pos ln b G g a k)) (lF λp=>rr (tg:=[([],(Xz c q pos ln b G g a k))]) Iy [0,1,2,3,4,5,6,7,8] rfl p)))) (gc (gw 113 (gw 115 (bi 121 (jg pF (gi (ce Gy [0,1] (i8 c q pos ln Q G g a k) λb=>jg (Eq.refl (Xz c q pos ln b G g a k)) (lF λp=>rr (tg:=[([],(Xz c q pos ln b G g a k))]) Iy [0,1,2,3,4,5,6,7,8] rfl p)))) (lF λp=>rr Iy [0,1,2,3,4,5,6,7,8] rfl p)))))))))))
inductive UJ where
 | l1 (x21:Int) (o1:Ξ) (Aa As:Int)
 | l2 (Ap:Int) (o1:Ξ) (Aa As:Int)
def UI (n:Nat)(self:UJ -> Option (Bool×Ξ))(c:AD)(q:AA)(pos:Ξ)(ln:Nat)(lost:Ξ)(x21:Int)(o1:Ξ)(G g:Int):Option (Bool×Ξ):= bif (decide (x21<(c.cells.length:Int))) then if (0<=x21/\ x21<(c.cells.length:Int))/\ (0<=(c.cells.getD x21.toNat 0)/\ (c.cells.getD x21.toNat 0)<(pos.length:Int)) then (Wv n (pos.getD ((c.cells.getD x21.toNat 0).toNat) 0) c q pos ln o1).bind λk=> if AG (G+k.1)/\ AG (g+k.2.1)/\ AG (x21+1) then self (.l1 (x21+1) k.2.2 (G+k.1) (g+k.2.1)) else none else none else bif (decide (G>c.hi)) then some (false,o1) else bif (decide (g<c.lo)) then some (false,o1) else self (.l2 0 o1 G g)
def X7 (n:Nat)(self:UJ -> Option (Bool×Ξ))(c:AD)(q:AA)(pos:Ξ)(ln:Nat)(lost:Ξ)(a:Int)(o1:Ξ)(G g:Int):Option (Bool×Ξ):=
 bif (decide (a<(c.cells.length:Int))) then
  if (0<=a/\ a<(c.cells.length:Int))/\ (0<=(c.cells.getD a.toNat 0)/\ (c.cells.getD a.toNat 0)<(pos.length:Int)) then
   (Wv n (pos.getD ((c.cells.getD a.toNat 0).toNat) 0) c q pos ln o1).bind λk=>
    if 0<=(pos.getD ((c.cells.getD a.toNat 0).toNat) 0)/\ (pos.getD ((c.cells.getD a.toNat 0).toNat) 0)<9223372036854775808 then
     (CO (X9 n c a q pos ln G g k) (Bj (pos.getD ((c.cells.getD a.toNat 0).toNat) 0)) (.s0 k.2.2)).bind λb=>
      match b with
      | .s0 x=>
       if AG (a+1) then
        self (.l2 (a+1) x G g)
       else none
    else none
  else none
 else
  some (true,o1)
def yj (n:Nat)(self:UJ -> Option (Bool×Ξ))(c:AD)(q:AA)(pos:Ξ)(ln:Nat)(lost:Ξ):Option (Bool×Ξ):= self (.l1 0 lost 0 0)
def Jh (c:AD)(q:AA)(pos:Ξ)(ln:Nat)(lost:Ξ):Nat -> UJ -> Option (Bool×Ξ)
 | 0,_=>none
 | n+1,.l1 x21 o1 G g=>UI n (Jh c q pos ln lost n) c q pos ln lost x21 o1 G g
 | n+1,.l2 a o1 G g=>X7 n (Jh c q pos ln lost n) c q pos ln lost a o1 G g
def RP (n:Nat)(c:AD)(q:AA)(pos:Ξ)(ln:Nat)(lost:Ξ):Option (Bool×Ξ):=yj n (Jh c q pos ln lost n) c q pos ln lost
def ym (n B:Nat)(N:Yd 2)(c:AD)(q:AA)(pos:Ξ)(ln:Nat)(lost:Ξ)(r:Bool×Ξ):UJ -> Prop
 | .l1 x21 o1 G g=>∀ f:Nat,n<=f -> TW B N (FQ Tryz.f108 2 (.bool r.1) [oW c q pos 1 ln,oI r.2]) (Ah f (An (AR Tryz.f108) 0 [])) ⟨AF 129 [(1,.ref 2 0),(3,.ref 3 0),(4,.ref 4 0),(19,.ints c.cells),(20,.i (c.cells.length:Int)),(21,.i x21)],[oW c q pos 1 ln,oI o1,oC [.ref 0 0],oC [.i G],oC [.i g]]⟩
 | .l2 a o1 G g=>∀ f:Nat,n<=f -> TW B N (FQ Tryz.f108 2 (.bool r.1) [oW c q pos 1 ln,oI r.2]) (Ah f (An (AR Tryz.f108) 2 [])) ⟨AF 129 [(1,.ref 2 0),(3,.ref 3 0),(4,.ref 4 0),(64,.ints c.cells),(65,.i (c.cells.length:Int)),(66,.i a)],[oW c q pos 1 ln,oI o1,oC [.ref 0 0],oC [.i G],oC [.i g]]⟩
def yn (B:Nat)(N:Yd 2)(c:AD)(q:AA)(pos:Ξ)(ln:Nat)(lost:Ξ):Al (Jh c q pos ln lost) (ym · B N c q pos ln lost):=ia (λ_=>rfl) λn C b r h=>by
 cases b
 case l1 x21 o1 Aa As=>
  intro f a;refine rd a λf a=>?_
  revert r;apply gO;exact bi 22 (gc (gi (jg zAY (gi (ce TN [0,1] (zG0 c q pos ln o1 Aa As) λk=>jg (Eq.refl (m6 k c x21 q pos ln Aa As)) (jg zAX (gc (gw 39 (gc (gw 42 (jt (jt (jg (Eq.refl (m5 c x21 q pos ln k Aa As)) (gw 43 (lG (tg:=[([],(m6 k c x21 q pos ln Aa As)),([(6,3)],(m5 c x21 q pos ln k Aa As))]) Iy [0,1,2,3,4] (C _ _ · f a)))))))))))))))) (jg zAW (bi 50 (lE Iy [2] [0,1]) (bi 58 (lE Iy [2] [0,1]) (lN Iy [0,1,2,3,4] (C _ _ · n Nat.le.refl)))))
 case l2 Ap o1 Aa As=>
  intro f a;refine rd a λf a=>?_
  revert r;apply gO
  exact bi 67 (gc (gi (jt (jg zAb (gn λo=>jg o (cn λk s=>jc (em (TN s) [0,1] (zGz c q pos ln o1 Aa As Ap)) (jt (jt (jg (Eq.refl (Ot c Ap q pos ln k Aa As)) (jt (jt (jg (Eq.refl (Ot c Ap q pos ln k Aa As)) (jc (em (TN s) [0,1] (tF c q pos ln o1 Aa As Ap)) (jt (jt (jg (Eq.refl (Ot c Ap q pos ln k Aa As)) (jc (em (TN s) [0,1] (tE c q pos ln o1 Aa As Ap)) (jt (jt (jg (Eq.refl (Ot c Ap q pos ln k Aa As)) (jc (em (TN s) [0,1] (tF c q pos ln o1 Aa As Ap)) (jt (jt (jg (Eq.refl (Ot c Ap q pos ln k Aa As)) (jc (em (TN s) [0,1] (tE c q pos ln o1 Aa As Ap)) (jt (jt (jg (Eq.refl (Ot c Ap q pos ln k Aa As)) (jg zAa (jg o (gn λd=>jc (Lp d (zGy c q pos ln k Aa As Ap)) (cn λG j=>λp r h=>by
   refine gs (tg:=[([],(Ot c Ap q pos ln k Aa As))]) Iy [0,1,2,3,4,5,6,7,8] p (HE (AR Tryz.f108) 89 [f]) (AF 129 [(1,.ref 2 0),(3,.ref 3 0),(4,.ref 4 0),(10,.ref 5 0),(11,.ref 6 0),(12,.ref 7 0),(64,.ints c.cells),(65,.i (c.cells.length:Int)),(66,.i Ap),(89,.it 8)]) (zGx c q pos ln k Aa As Ap) ?_;refine r0 8 89 #[90] Bw 9 j (yk n c Ap q pos ln Aa As k) ?_;cases G with
   | s0 Es=>
    dsimp only at h
    revert r;apply gO;exact gw 128 (lG Iy [0,1,2,3,4] (C _ _ · f a)))))))))))))))))))))))))))))))))) (lE Iy [2] [0,1])
def yi {r:Bool×Ξ}(h:RP n c q pos ln lost=some r):EQ 108 [.ref 0 0] [oW c q pos 1 ln,oI lost] (.bool r.1) [oW c q pos 1 ln,oI r.2] false:=by
 refine ot Tryz.func108 λB N=>?_
 revert r;apply gO;exact jt (jt (lN Iy [0,1,2,3,4] ((yn B N c q pos ln lost n) _ _ · n Nat.le.refl)))
end
section
set_option maxRecDepth 100000
set_option maxHeartbeats 40000000
def zBW:Ax (BA Tryz.f128 1) [] (List.range 18) []:=by unfold Ax;kernel_rfl
def zAG:Be:=λi=>match i with
 | 1=>.ord [] (List.range 18) []
 | _=>.no
def wh (n:Nat)(N Y:Int)(c:AD)(q:AA)(pos:Ξ)(ln:Nat)(lost:Ξ):Option (Bool×Ξ):= if (0<=N/\ N<(q.values.length:Int))/\ (0<=Y/\ Y<(q.values.length:Int))/\ AG ((q.values.getD N.toNat 0)-(q.values.getD Y.toNat 0))/\ AG (0-((q.values.getD N.toNat 0)-(q.values.getD Y.toNat 0))) then some ((decide ((if (0-((q.values.getD N.toNat 0)-(q.values.getD Y.toNat 0)))>((q.values.getD N.toNat 0)-(q.values.getD Y.toNat 0)) then (0-((q.values.getD N.toNat 0)-(q.values.getD Y.toNat 0))) else ((q.values.getD N.toNat 0)-(q.values.getD Y.toNat 0)))>=c.lo)),lost) else none
def cu (n:Nat)(N Y:Int)(c:AD)(q:AA)(pos:Ξ)(ln:Nat)(lost:Ξ):Option (Bool×Ξ):=wh n N Y c q pos ln lost
variable {r:Bool×Ξ}{lost pos:Ξ}{ln n:Nat}{q:AA}{c:AD}{a Y:Int}
def zLx (h:cu n a Y c q pos ln lost=some r):EQ 128 [.i a,.i Y,.ref 0 0] [oC [.ref 1 0],oW c q pos 2 ln,oI lost] (.bool r.1) [oC [.ref 1 0],oW c q pos 2 ln,oI r.2] false:=by
 refine ot Tryz.func128 λB N=>?_
 revert r;apply gO;exact jg zBW (gc (gi (gc (gi (gc (gw 23 (gw 26 (lE zAG [5] [0,1,2]))))))))
def zA7:Ax (BA Tryz.f129 1) [] (List.range 6) []:=by unfold Ax;kernel_rfl
def Uk:Be:=λi=>match i with
 | 1=>.ord [] (List.range 6) []
 | _=>.no
def rT (n:Nat)(N Y:Int)(c:AD)(q:AA)(pos:Ξ)(ln:Nat)(lost:Ξ):Option (Bool×Ξ):= if (0<=N/\ N<=(IntKind.i64.bits:Int))/\ (0<=Y/\ Y<=(IntKind.i64.bits:Int)) then bif ((bits .and .i64 (IntKind.i64.wrap (1*2 ^ (N).toNat)) c.set)==0) then bif ((bits .and .i64 (IntKind.i64.wrap (1*2 ^ (Y).toNat)) c.set)==0) then some (true,lost) else some (((bits .and .i64 (IntKind.i64.wrap (1*2 ^ (N).toNat)) c.other)==0),lost) else bif ((bits .and .i64 (IntKind.i64.wrap (1*2 ^ (Y).toNat)) c.other)==0) then bif ((bits .and .i64 (IntKind.i64.wrap (1*2 ^ (Y).toNat)) c.set)==0) then some (true,lost) else some (((bits .and .i64 (IntKind.i64.wrap (1*2 ^ (N).toNat)) c.other)==0),lost) else some (false,lost) else none
def Zy (n:Nat)(N Y:Int)(c:AD)(q:AA)(pos:Ξ)(ln:Nat)(lost:Ξ):Option (Bool×Ξ):=rT n N Y c q pos ln lost
def zEK (h:Zy n a Y c q pos ln lost=some r):EQ 129 [.i a,.i Y,.ref 0 0] [oC [.ref 1 0],oW c q pos 2 ln,oI lost] (.bool r.1) [oC [.ref 1 0],oW c q pos 2 ln,oI r.2] false:=by
 refine ot Tryz.func129 λB N=>?_
 revert r;apply gO;exact jg zA7 (gc (gi (gi (bi 19 (bi 38 (lE Uk [5] [0,1,2]) (lE Uk [5] [0,1,2])) (bi 28 (bi 38 (lE Uk [5] [0,1,2]) (lE Uk [5] [0,1,2])) (lE Uk [5] [0,1,2]))))))
def zA5:Ax (BA Tryz.f127 1) [] (List.range 16) []:=by unfold Ax;kernel_rfl
def zA3:Ax (BA Tryz.f127 2) [([0,1,2,3,4,5,6,7,8,9,10,11,12,13],14)] [15] [16]:=by unfold Ax;kernel_rfl
def zA2:Ax (BA Tryz.f127 9) [] [0,1,2,3] [4]:=by unfold Ax;kernel_rfl
def zA4:Ax (BA Tryz.f127 10) [] [0,1,2,3] [4]:=by unfold Ax;kernel_rfl
def NF:Be:=λi=>match i with
 | 1=>.ord [] (List.range 16) []
 | 2=>.ord [([0,1,2,3,4,5,6,7,8,9,10,11,12,13],14)] [15] [16]
 | 9=>.ord [] [0,1,2,3] [4]
 | 10=>.ord [] [0,1,2,3] [4]
 | _=>.no
def zHs (c:AD)(q:AA)(pos:Ξ)(ln:Nat)(lost:Ξ):DH:=[oC [.ref 1 0],oW c q pos 2 ln,oI lost,oC [.fn 128 1 (L1 [.ref 0 0])],oC [.i (pos.getD ((c.cells.getD 1 0).toNat) 0)],oC [.i 0],oC [.i 0]]
def zHr (c:AD)(q:AA)(pos:Ξ)(ln:Nat)(lost:Ξ):DH:=[oC [.ref 1 0],oW c q pos 2 ln,oI lost,oC [.fn 128 1 (L1 [.ref 0 0])],oC [.i (pos.getD ((c.cells.getD 1 0).toNat) 0)],oC [.i 0],oC [.i 0],some (.iter ((Bj (pos.getD ((c.cells.getD 0 0).toNat) 0)).map Bw))]
def zHq (c:AD)(q:AA)(pos:Ξ)(ln:Nat)(W:Ξ)(X V:Int):DH:=[oC [.ref 1 0],oW c q pos 2 ln,oI W,oC [.fn 128 1 (L1 [.ref 0 0])],oC [.i (pos.getD ((c.cells.getD 1 0).toNat) 0)],oC [.i X],oC [.i V],none]
def zHp (c:AD)(q:AA)(pos:Ξ)(ln:Nat)(G:Ξ)(X V:Int):DH:=[oC [.ref 1 0],oW c q pos 2 ln,oI G,oC [.fn 128 1 (L1 [.ref 0 0])],oC [.i (pos.getD ((c.cells.getD 1 0).toNat) 0)],oC [.i X],oC [.i V],none]
def tN (c:AD)(q:AA)(pos:Ξ)(ln:Nat)(W:Ξ)(X Y M:Int):DH:=[oC [.ref 1 0],oW c q pos 2 ln,oI W,oC [.fn 128 1 (L1 [.ref 0 0])],oC [.i (pos.getD ((c.cells.getD 1 0).toNat) 0)],oC [.i X],oC [.i Y],none,oC [.i M]]
def zHo (c:AD)(q:AA)(pos:Ξ)(ln:Nat)(W:Ξ)(X Y M:Int):DH:=[oC [.ref 1 0],oW c q pos 2 ln,oI W,oC [.fn 128 1 (L1 [.ref 0 0])],oC [.i (pos.getD ((c.cells.getD 1 0).toNat) 0)],oC [.i X],oC [.i Y],none,oC [.i M],some (.iter ((Bj (pos.getD ((c.cells.getD 1 0).toNat) 0)).map Bw))]
def tM (c:AD)(q:AA)(pos:Ξ)(ln:Nat)(l:Ξ)(L M a:Int):DH:=[oC [.ref 1 0],oW c q pos 2 ln,oI l,oC [.fn 128 1 (L1 [.ref 0 0])],oC [.i (pos.getD ((c.cells.getD 1 0).toNat) 0)],oC [.i L],oC [.i M],none,oC [.i a],none]
inductive L9 where
 | s0 (EJ:Ξ) (Dl Dk:Int)
def rB (c:AD)(q:AA)(pos:Ξ)(ln:Nat)(M:Int):L9 -> DH
 | .s0 l L a=>[oC [.ref 1 0],oW c q pos 2 ln,oI l,oC [.fn 128 1 (L1 [.ref 0 0])],oC [.i (pos.getD ((c.cells.getD 1 0).toNat) 0)],oC [.i L],oC [.i a],none,oC [.i M],none]
def Zc (n:Nat)(c:AD)(q:AA)(pos:Ξ)(ln:Nat)(M o:Int)(l:Ξ)(L a:Int):Option L9:= (cu n M o c q pos ln l).bind λC=> bif C.1 then if (0<=M/\ M<=(IntKind.i64.bits:Int))/\ (0<=o/\ o<=(IntKind.i64.bits:Int)) then some (.s0 C.2 (bits .or .i64 L (IntKind.i64.wrap (1*2 ^ (M).toNat))) (bits .or .i64 a (IntKind.i64.wrap (1*2 ^ (o).toNat)))) else none else some (.s0 C.2 L a)
def rA (n:Nat)(c:AD)(q:AA)(pos:Ξ)(ln:Nat)(M o:Int):L9 -> Option L9
 | .s0 l L a=>Zc n c q pos ln M o l L a
def Zd (n:Nat)(c:AD)(q:AA)(pos:Ξ)(ln:Nat)(M o:Int)(s:L9):Option L9:=rA n c q pos ln M o s
def zDq (n:Nat)(c:AD)(q:AA)(pos:Ξ)(ln:Nat)(M:Int)(l B:Nat)(N:Yd 10)(o:Int)(s:L9)(r:L9)(h:Zd n c q pos ln M o s=some r):TA l B N (C1 10 [] 0 (rB c q pos ln M r)) Tryz.f127 45 ⟨AF 69 [(3,.ref 3 0),(9,.ref 5 0),(10,.ref 6 0),(11,.ref 8 0),(45,.it 9),(46,.i o)],rB c q pos ln M s⟩:=by
 cases s with
 | s0 a L b=>
  replace h:Zc n c q pos ln M o a L b=some r:=h;unfold Zc at h;refine ag NF [0,1,2,3,4,5,6,7,8,9] H0 (AF 69 [(3,.ref 3 0),(9,.ref 5 0),(10,.ref 6 0),(11,.ref 8 0),(12,.i o)]) (tM c q pos ln a L b M) λN=>?_
  revert r;apply gO;exact ce zLx [0,1,2] (tM c q pos ln a L b M) λ_=>bi 50 (jg zA2 (gc (gi (jt (jg zA4 (gi (jt (lF λp=>rr NF [0,1,2,3,4,5,6,7,8,9] rfl p)))))))) (lF λp=>rr NF [0,1,2,3,4,5,6,7,8,9] rfl p)
inductive MA where
 | s0 (DB:Ξ) (DA C9:Int)
def rC (c:AD)(q:AA)(pos:Ξ)(ln:Nat):MA -> DH
 | .s0 W X Y=>[oC [.ref 1 0],oW c q pos 2 ln,oI W,oC [.fn 128 1 (L1 [.ref 0 0])],oC [.i (pos.getD ((c.cells.getD 1 0).toNat) 0)],oC [.i X],oC [.i Y],none]
def Zb (n:Nat)(c:AD)(q:AA)(pos:Ξ)(ln:Nat)(M:Int)(W:Ξ)(X Y:Int):Option MA:=
 if 0<=(pos.getD ((c.cells.getD 1 0).toNat) 0)/\ (pos.getD ((c.cells.getD 1 0).toNat) 0)<9223372036854775808 then
  (CO (Zd n c q pos ln M) (Bj (pos.getD ((c.cells.getD 1 0).toNat) 0)) (.s0 W X Y)).bind λD=>
   match D with
   | .s0 N O P=>
    some (.s0 N O P)
 else none
def q9 (n:Nat)(c:AD)(q:AA)(pos:Ξ)(ln:Nat)(M:Int):MA -> Option MA
 | .s0 W X Y=>Zb n c q pos ln M W X Y
def Ze (n:Nat)(c:AD)(q:AA)(pos:Ξ)(ln:Nat)(M:Int)(s:MA):Option MA:=q9 n c q pos ln M s
def zDp (n:Nat)(c:AD)(q:AA)(pos:Ξ)(ln:Nat)(l B:Nat)(N:Yd 8)(M:Int)(s:MA)(r:MA)(h:Ze n c q pos ln M s=some r):TA l B N (C1 8 [] 0 (rC c q pos ln r)) Tryz.f127 42 ⟨AF 69 [(0,.ref 1 0),(3,.ref 3 0),(5,.i (c.cells.getD 0 0)),(6,.i (c.cells.getD 1 0)),(8,.ref 4 0),(9,.ref 5 0),(10,.ref 6 0),(42,.it 7),(43,.i M)],rC c q pos ln s⟩:=by
 cases s with
 | s0 W X Y=>
  replace h:Zb n c q pos ln M W X Y=some r:=h;unfold Zb at h;refine ag NF [0,1,2,3,4,5,6,7,8] (H0.t) (AF 69 [(3,.ref 3 0),(8,.ref 4 0),(9,.ref 5 0),(10,.ref 6 0),(11,.ref 8 0)]) (tN c q pos ln W X Y M) λN=>?_
  revert r;apply gO
  exact gn λQ=>jc (Lp Q (tN c q pos ln W X Y M)) (cn λD R=>λp r h=>by
   refine gs NF [0,1,2,3,4,5,6,7,8,9] p (HE (PD Tryz.f127 42) 45 []) (AF 69 [(3,.ref 3 0),(9,.ref 5 0),(10,.ref 6 0),(11,.ref 8 0),(45,.it 9)]) (zHo c q pos ln W X Y M) ?_;refine r0 9 45 #[46] Bw 10 R (zDq n c q pos ln M) ?_;cases D with
   | s0 XX XW XV=>
    dsimp only at h
    revert r;apply gO;exact lF λp=>rr NF [0,1,2,3,4,5,6,7] rfl p)
def q8 (n:Nat)(c:AD)(q:AA)(pos:Ξ)(ln:Nat)(lost:Ξ):Option (Bool×Ξ):=
 if ((0:Int)<=0/\ 0<(c.cells.length:Int))/\ ((0:Int)<=1/\ 1<(c.cells.length:Int))/\ (0<=(c.cells.getD 0 0)/\ (c.cells.getD 0 0)<(pos.length:Int))/\ (0<=(c.cells.getD 1 0)/\ (c.cells.getD 1 0)<(pos.length:Int))/\ (0<=(pos.getD ((c.cells.getD 0 0).toNat) 0)/\ (pos.getD ((c.cells.getD 0 0).toNat) 0)<9223372036854775808) then
  (CO (Ze n c q pos ln) (Bj (pos.getD ((c.cells.getD 0 0).toNat) 0)) (.s0 lost 0 0)).bind λk=>
   match k with
   | .s0 W X V=>
    (D8 n (c.cells.getD 0 0) (bits .xor .i64 (-1) X) c q pos ln W).bind λG=>
     (D8 n (c.cells.getD 1 0) (bits .xor .i64 (-1) V) c q pos ln G).bind λy3=>
      some (true,y3)
 else none
def fl (n:Nat)(c:AD)(q:AA)(pos:Ξ)(ln:Nat)(lost:Ξ):Option (Bool×Ξ):=q8 n c q pos ln lost
def zDo (h:fl n c q pos ln lost=some r):EQ 127 [.ref 1 0,.fn 128 1 (L1 [.ref 0 0])] [oC [.ref 1 0],oW c q pos 2 ln,oI lost] (.bool r.1) [oC [.ref 1 0],oW c q pos 2 ln,oI r.2] false:=by
 refine ot Tryz.func127 λB N=>?_
 revert r;apply gO
 exact jg zA5 (gc (gi (gc (gi (jg zA3 (gc (gi (gc (gi (jt (gn λa=>jc (Lp a (zHs c q pos ln lost)) (cn λk s=>λp r h=>by
  refine gs NF [0,1,2,3,4,5,6,7] p (HE (AR Tryz.f127) 42 []) (AF 69 [(0,.ref 1 0),(3,.ref 3 0),(5,.i (c.cells.getD 0 0)),(6,.i (c.cells.getD 1 0)),(8,.ref 4 0),(9,.ref 5 0),(10,.ref 6 0),(42,.it 7)]) (zHr c q pos ln lost) ?_;refine r0 7 42 #[43] Bw 8 s (zDp n c q pos ln) ?_;cases k with
  | s0 W X V=>
   dsimp only at h
   revert r;apply gO;exact ce Gy [1,2] (zHq c q pos ln W X V) λG=>ce Gy [1,2] (zHp c q pos ln G X V) λ_=>lE NF [4] [0,1,2]))))))))))))
def zA1:Ax (BA Tryz.f127 1) [] (List.range 16) []:=by unfold Ax;kernel_rfl
def zAz:Ax (BA Tryz.f127 2) [([0,1,2,3,4,5,6,7,8,9,10,11,12,13],14)] [15] [16]:=by unfold Ax;kernel_rfl
def zAy:Ax (BA Tryz.f127 9) [] [0,1,2,3] [4]:=by unfold Ax;kernel_rfl
def zA0:Ax (BA Tryz.f127 10) [] [0,1,2,3] [4]:=by unfold Ax;kernel_rfl
def NE:Be:=λi=>match i with
 | 1=>.ord [] (List.range 16) []
 | 2=>.ord [([0,1,2,3,4,5,6,7,8,9,10,11,12,13],14)] [15] [16]
 | 9=>.ord [] [0,1,2,3] [4]
 | 10=>.ord [] [0,1,2,3] [4]
 | _=>.no
def zHn (c:AD)(q:AA)(pos:Ξ)(ln:Nat)(lost:Ξ):DH:=[oC [.ref 1 0],oW c q pos 2 ln,oI lost,oC [.fn 129 1 (L1 [.ref 0 0])],oC [.i (pos.getD ((c.cells.getD 1 0).toNat) 0)],oC [.i 0],oC [.i 0]]
def zHm (c:AD)(q:AA)(pos:Ξ)(ln:Nat)(lost:Ξ):DH:=[oC [.ref 1 0],oW c q pos 2 ln,oI lost,oC [.fn 129 1 (L1 [.ref 0 0])],oC [.i (pos.getD ((c.cells.getD 1 0).toNat) 0)],oC [.i 0],oC [.i 0],some (.iter ((Bj (pos.getD ((c.cells.getD 0 0).toNat) 0)).map Bw))]
def zHl (c:AD)(q:AA)(pos:Ξ)(ln:Nat)(W:Ξ)(X V:Int):DH:=[oC [.ref 1 0],oW c q pos 2 ln,oI W,oC [.fn 129 1 (L1 [.ref 0 0])],oC [.i (pos.getD ((c.cells.getD 1 0).toNat) 0)],oC [.i X],oC [.i V],none]
def zHk (c:AD)(q:AA)(pos:Ξ)(ln:Nat)(G:Ξ)(X V:Int):DH:=[oC [.ref 1 0],oW c q pos 2 ln,oI G,oC [.fn 129 1 (L1 [.ref 0 0])],oC [.i (pos.getD ((c.cells.getD 1 0).toNat) 0)],oC [.i X],oC [.i V],none]
def tL (c:AD)(q:AA)(pos:Ξ)(ln:Nat)(W:Ξ)(X Y M:Int):DH:=[oC [.ref 1 0],oW c q pos 2 ln,oI W,oC [.fn 129 1 (L1 [.ref 0 0])],oC [.i (pos.getD ((c.cells.getD 1 0).toNat) 0)],oC [.i X],oC [.i Y],none,oC [.i M]]
def zHj (c:AD)(q:AA)(pos:Ξ)(ln:Nat)(W:Ξ)(X Y M:Int):DH:=[oC [.ref 1 0],oW c q pos 2 ln,oI W,oC [.fn 129 1 (L1 [.ref 0 0])],oC [.i (pos.getD ((c.cells.getD 1 0).toNat) 0)],oC [.i X],oC [.i Y],none,oC [.i M],some (.iter ((Bj (pos.getD ((c.cells.getD 1 0).toNat) 0)).map Bw))]
def tK (c:AD)(q:AA)(pos:Ξ)(ln:Nat)(l:Ξ)(L M a:Int):DH:=[oC [.ref 1 0],oW c q pos 2 ln,oI l,oC [.fn 129 1 (L1 [.ref 0 0])],oC [.i (pos.getD ((c.cells.getD 1 0).toNat) 0)],oC [.i L],oC [.i M],none,oC [.i a],none]
inductive L7 where
 | s0 (EJ:Ξ) (Dl Dk:Int)
def qy (c:AD)(q:AA)(pos:Ξ)(ln:Nat)(M:Int):L7 -> DH
 | .s0 l L a=>[oC [.ref 1 0],oW c q pos 2 ln,oI l,oC [.fn 129 1 (L1 [.ref 0 0])],oC [.i (pos.getD ((c.cells.getD 1 0).toNat) 0)],oC [.i L],oC [.i a],none,oC [.i M],none]
def ZY (n:Nat)(c:AD)(q:AA)(pos:Ξ)(ln:Nat)(M o:Int)(l:Ξ)(L a:Int):Option L7:= (Zy n M o c q pos ln l).bind λC=> bif C.1 then if (0<=M/\ M<=(IntKind.i64.bits:Int))/\ (0<=o/\ o<=(IntKind.i64.bits:Int)) then some (.s0 C.2 (bits .or .i64 L (IntKind.i64.wrap (1*2 ^ (M).toNat))) (bits .or .i64 a (IntKind.i64.wrap (1*2 ^ (o).toNat)))) else none else some (.s0 C.2 L a)
def qx (n:Nat)(c:AD)(q:AA)(pos:Ξ)(ln:Nat)(M o:Int):L7 -> Option L7
 | .s0 l L a=>ZY n c q pos ln M o l L a
def ZZ (n:Nat)(c:AD)(q:AA)(pos:Ξ)(ln:Nat)(M o:Int)(s:L7):Option L7:=qx n c q pos ln M o s
def zDn (n:Nat)(c:AD)(q:AA)(pos:Ξ)(ln:Nat)(M:Int)(l B:Nat)(N:Yd 10)(o:Int)(s:L7)(r:L7)(h:ZZ n c q pos ln M o s=some r):TA l B N (C1 10 [] 0 (qy c q pos ln M r)) Tryz.f127 45 ⟨AF 69 [(3,.ref 3 0),(9,.ref 5 0),(10,.ref 6 0),(11,.ref 8 0),(45,.it 9),(46,.i o)],qy c q pos ln M s⟩:=by
 cases s with
 | s0 a L b=>
  replace h:ZY n c q pos ln M o a L b=some r:=h;unfold ZY at h;refine ag NE [0,1,2,3,4,5,6,7,8,9] H0 (AF 69 [(3,.ref 3 0),(9,.ref 5 0),(10,.ref 6 0),(11,.ref 8 0),(12,.i o)]) (tK c q pos ln a L b M) λN=>?_
  revert r;apply gO;exact ce zEK [0,1,2] (tK c q pos ln a L b M) λ_=>bi 50 (jg zAy (gc (gi (jt (jg zA0 (gi (jt (lF λp=>rr NE [0,1,2,3,4,5,6,7,8,9] rfl p)))))))) (lF λp=>rr NE [0,1,2,3,4,5,6,7,8,9] rfl p)
inductive L8 where
 | s0 (DB:Ξ) (DA C9:Int)
def qz (c:AD)(q:AA)(pos:Ξ)(ln:Nat):L8 -> DH
 | .s0 W X Y=>[oC [.ref 1 0],oW c q pos 2 ln,oI W,oC [.fn 129 1 (L1 [.ref 0 0])],oC [.i (pos.getD ((c.cells.getD 1 0).toNat) 0)],oC [.i X],oC [.i Y],none]
def ZX (n:Nat)(c:AD)(q:AA)(pos:Ξ)(ln:Nat)(M:Int)(W:Ξ)(X Y:Int):Option L8:=
 if 0<=(pos.getD ((c.cells.getD 1 0).toNat) 0)/\ (pos.getD ((c.cells.getD 1 0).toNat) 0)<9223372036854775808 then
  (CO (ZZ n c q pos ln M) (Bj (pos.getD ((c.cells.getD 1 0).toNat) 0)) (.s0 W X Y)).bind λD=>
   match D with
   | .s0 N O P=>
    some (.s0 N O P)
 else none
def qw (n:Nat)(c:AD)(q:AA)(pos:Ξ)(ln:Nat)(M:Int):L8 -> Option L8
 | .s0 W X Y=>ZX n c q pos ln M W X Y
def Za (n:Nat)(c:AD)(q:AA)(pos:Ξ)(ln:Nat)(M:Int)(s:L8):Option L8:=qw n c q pos ln M s
def zDm (n:Nat)(c:AD)(q:AA)(pos:Ξ)(ln:Nat)(l B:Nat)(N:Yd 8)(M:Int)(s:L8)(r:L8)(h:Za n c q pos ln M s=some r):TA l B N (C1 8 [] 0 (qz c q pos ln r)) Tryz.f127 42 ⟨AF 69 [(0,.ref 1 0),(3,.ref 3 0),(5,.i (c.cells.getD 0 0)),(6,.i (c.cells.getD 1 0)),(8,.ref 4 0),(9,.ref 5 0),(10,.ref 6 0),(42,.it 7),(43,.i M)],qz c q pos ln s⟩:=by
 cases s with
 | s0 W X Y=>
  replace h:ZX n c q pos ln M W X Y=some r:=h;unfold ZX at h;refine ag NE [0,1,2,3,4,5,6,7,8] (H0.t) (AF 69 [(3,.ref 3 0),(8,.ref 4 0),(9,.ref 5 0),(10,.ref 6 0),(11,.ref 8 0)]) (tL c q pos ln W X Y M) λN=>?_
  revert r;apply gO
  exact gn λQ=>jc (Lp Q (tL c q pos ln W X Y M)) (cn λD R=>λp r h=>by
   refine gs NE [0,1,2,3,4,5,6,7,8,9] p (HE (PD Tryz.f127 42) 45 []) (AF 69 [(3,.ref 3 0),(9,.ref 5 0),(10,.ref 6 0),(11,.ref 8 0),(45,.it 9)]) (zHj c q pos ln W X Y M) ?_;refine r0 9 45 #[46] Bw 10 R (zDn n c q pos ln M) ?_;cases D with
   | s0 XX XW XV=>
    dsimp only at h
    revert r;apply gO;exact lF λp=>rr NE [0,1,2,3,4,5,6,7] rfl p)
def qv (n:Nat)(c:AD)(q:AA)(pos:Ξ)(ln:Nat)(lost:Ξ):Option (Bool×Ξ):=
 if ((0:Int)<=0/\ 0<(c.cells.length:Int))/\ ((0:Int)<=1/\ 1<(c.cells.length:Int))/\ (0<=(c.cells.getD 0 0)/\ (c.cells.getD 0 0)<(pos.length:Int))/\ (0<=(c.cells.getD 1 0)/\ (c.cells.getD 1 0)<(pos.length:Int))/\ (0<=(pos.getD ((c.cells.getD 0 0).toNat) 0)/\ (pos.getD ((c.cells.getD 0 0).toNat) 0)<9223372036854775808) then
  (CO (Za n c q pos ln) (Bj (pos.getD ((c.cells.getD 0 0).toNat) 0)) (.s0 lost 0 0)).bind λk=>
   match k with
   | .s0 W X V=>
    (D8 n (c.cells.getD 0 0) (bits .xor .i64 (-1) X) c q pos ln W).bind λG=>
     (D8 n (c.cells.getD 1 0) (bits .xor .i64 (-1) V) c q pos ln G).bind λy3=>
      some (true,y3)
 else none
def fk (n:Nat)(c:AD)(q:AA)(pos:Ξ)(ln:Nat)(lost:Ξ):Option (Bool×Ξ):=qv n c q pos ln lost
def zDl (h:fk n c q pos ln lost=some r):EQ 127 [.ref 1 0,.fn 129 1 (L1 [.ref 0 0])] [oC [.ref 1 0],oW c q pos 2 ln,oI lost] (.bool r.1) [oC [.ref 1 0],oW c q pos 2 ln,oI r.2] false:=by
 refine ot Tryz.func127 λB N=>?_
 revert r;apply gO
 exact jg zA1 (gc (gi (gc (gi (jg zAz (gc (gi (gc (gi (jt (gn λa=>jc (Lp a (zHn c q pos ln lost)) (cn λk s=>λp r h=>by
  refine gs NE [0,1,2,3,4,5,6,7] p (HE (AR Tryz.f127) 42 []) (AF 69 [(0,.ref 1 0),(3,.ref 3 0),(5,.i (c.cells.getD 0 0)),(6,.i (c.cells.getD 1 0)),(8,.ref 4 0),(9,.ref 5 0),(10,.ref 6 0),(42,.it 7)]) (zHm c q pos ln lost) ?_;refine r0 7 42 #[43] Bw 8 s (zDm n c q pos ln) ?_;cases k with
  | s0 W X V=>
   dsimp only at h
   revert r;apply gO;exact ce Gy [1,2] (zHl c q pos ln W X V) λG=>ce Gy [1,2] (zHk c q pos ln G X V) λ_=>lE NE [4] [0,1,2]))))))))))))
def lj (n:Nat)(c:AD)(q:AA)(pos:Ξ)(ln:Nat)(lost:Ξ):Option (Bool×Ξ):= (fl n c q pos ln lost).bind λk=> some (k.1,k.2)
def Qs (n:Nat)(c:AD)(q:AA)(pos:Ξ)(ln:Nat)(lost:Ξ):Option (Bool×Ξ):=lj n c q pos ln lost
def zLw (h:Qs n c q pos ln lost=some r):EQ 111 [.ref 0 0] [oW c q pos 1 ln,oI lost] (.bool r.1) [oW c q pos 1 ln,oI r.2] false:=by
 unfold Qs lj at h;refine ot Tryz.func111 λB N=>?_
 revert r;apply gO;exact ce zDo [2,0,1] [oW c q pos 1 ln,oI lost,oC [.ref 0 0]] λ_=>lE AC [2] [0,1]
def gJ (n:Nat)(c:AD)(q:AA)(pos:Ξ)(ln:Nat)(lost:Ξ):Option (Bool×Ξ):= (fk n c q pos ln lost).bind λk=> some (k.1,k.2)
def PP (n:Nat)(c:AD)(q:AA)(pos:Ξ)(ln:Nat)(lost:Ξ):Option (Bool×Ξ):=gJ n c q pos ln lost
def zEJ (h:PP n c q pos ln lost=some r):EQ 112 [.ref 0 0] [oW c q pos 1 ln,oI lost] (.bool r.1) [oW c q pos 1 ln,oI r.2] false:=by
 unfold PP gJ at h;refine ot Tryz.func112 λB N=>?_
 revert r;apply gO;exact ce zDl [2,0,1] [oW c q pos 1 ln,oI lost,oC [.ref 0 0]] λ_=>lE AC [2] [0,1]
end
abbrev zJ5:=@List.drop_zero
section
set_option maxRecDepth 100000
set_option maxHeartbeats 40000000
def zLg (n:Nat)(s_:Ξ):Option Unit:= some ()
def zLi (n:Nat)(N:Ξ):Option Unit:=zLg n N
variable {n:Nat}
def zLf (a:Ξ){r:Unit}(h:zLi n a=some r):EQ 124 [.ints a] [] (.fn 135 1 (L1 [.ref 0 0])) [oC [.ints a]] true:=by
 refine ot Tryz.func124 λB N=>?_
 revert r;apply gO;exact lE AC [2] [0]
inductive Th where
 | l1 (x3:Int)
def Qn (n:Nat)(self:Th -> Option (List (Δ)))(N:Ξ)(H:Int):Option (List (Δ)):= bif (decide (H>=0)) then if 0<=H/\ H<(N.length:Int) then Option.map (λl=>(H,N.getD H.toNat 0)::l) (if AG (H-1) then self (.l1 (H-1)) else none) else none else some []
def lP (n:Nat)(self:Th -> Option (List (Δ)))(N:Ξ):Option (List (Δ)):= if AG ((N.length:Int)-1) then self (.l1 ((N.length:Int)-1)) else none
def OW (N:Ξ):Nat -> Th -> Option (List (Δ))
 | 0,_=>none
 | n+1,.l1 H=>Qn n (OW N n) N H
def back (n:Nat)(N:Ξ):Option (List (Δ)):=lP n (OW N n) N
def lQ (C:Du Tryz.prog)(n:Nat)(N:Ξ)(r:List (Δ)):Th -> Prop
 | .l1 H=>∀ f:Nat,n<=f -> ∀ i:Nat,i<=C.encs.length -> C.encs.drop i=r.map Qc -> A1 Tryz.prog GG Fence.wide none 1 (C.Y GG 1 i) (C.Q GG 1) (Ah f (An (AR Tryz.f135) 0 [])) ⟨AF 19 [(0,.yl C.l),(1,.ref 0 0),(3,.i H)],[oC [.ints N]]⟩
def zLc (C:Du Tryz.prog)(n:Nat)(self:Th -> Option (List (Δ)))(N:Ξ)(k: ∀ B r,self B=some r -> lQ C n N r B)(H:Int)(r:List (Δ))(h:Qn n self N H=some r):lQ C (n+1) N r (.l1 H):=by
 intro f c;intro i hi a;refine rd c λf c=>?_
 unfold Qn at h;have p:=H0;rcases DQ h with ⟨d,h⟩ | ⟨d,h⟩
 ·have p:=H0.b 8 d;refine gs (Ab 3 AC) [0] p (EP (AR Tryz.f135) 3 [f]) (AF 19 [(0,.yl C.l),(1,.ref 0 0),(3,.i H)]) [oC [.ints N]] ?_;obtain ⟨q,h⟩:=DI h;have p:=H0.g q;obtain ⟨r,j,rfl⟩:=SQ h;clear h;have h:=j;clear j;obtain ⟨m,hi,a⟩:=ke a;refine A1.y (ops:=BA Tryz.f135 3) HC.x 6 [0,1,3,18] [0] p (x:=Qc (H,N.getD H.toNat 0)) (AF 19 [(0,.yl C.l),(1,.ref 0 0),(3,.i H),(18,.bool false)]) [oC [.ints N]] (AF 19 [(0,.yl C.l),(1,.ref 0 0),(3,.i H),(18,.bool true)]) [oC [.ints N]] (by kernel_rfl) (by kernel_rfl) (by kernel_rfl) m (by kernel_rfl) ?_ ?_
  ·generalize i+1=i at hi a ⊢
   obtain ⟨o,h⟩:=DI h;have p:=H0.w 10 o;exact gg AC [0] p (k _ _ h f c i hi a)
  ·exact TrI.e HC.x AC 6 H0 (by kernel_rfl) (.inr rfl)
 ·have p:=H0.b 8 d;cases h;exact TrI.e HC.x AC 10 p (by kernel_rfl) (.inl (by rw [Wz hi a]))
def wP (C:Du Tryz.prog)(N:Ξ): ∀ (n:Nat) (B:Th) (r:List (Δ)),OW N n B=some r -> lQ C n N r B
 | 0,_,_,h=>by cases h
 | n+1,.l1 H,r,h=>zLc C n (OW N n) N (wP C N n) H r h
variable {r:List (Δ)}
def zLd (N:Ξ)(h:back n N=some r)(C:Du Tryz.prog)(T:C.encs=r.map Qc):A1 Tryz.prog GG Fence.wide none 1 (C.Y GG 1 0) (C.Q GG 1) [.code (AR Tryz.f135)] ⟨AF 19 [(0,.yl C.l),(1,.ref 0 0)],[oC [.ints N]]⟩:=by
 suffices H: ∀ i:Nat,i<=C.encs.length -> C.encs.drop i=r.map Qc -> A1 Tryz.prog GG Fence.wide none 1 (C.Y GG 1 i) (C.Q GG 1) [.code (AR Tryz.f135)] ⟨AF 19 [(0,.yl C.l),(1,.ref 0 0)],[oC [.ints N]]⟩ from H 0 (zIG _) (by rw [zJ5];exact T)
 intro i hi b;have a:=wP C N n;unfold back at h
 generalize OW N n=self at h a
 unfold lP at h;obtain ⟨q,h⟩:=DI h;have p:=H0.w 6 q;exact gg AC [0] p (en n (a _ _ h n Nat.le.refl i hi b))
def zLh {N:Ξ}(h:back n N=some r)(H:DH):EQ 124 [.ints N] H (.it H.length) (H++[some (.iter (r.map Qc))]) true:=by
 refine ES.iterN (c:=L1 [.ref 0 0]) (h0:=[oC [.ints N]]) (fn:=Tryz.f135) (zLf (n:=0) N (r:=()) rfl) (by kernel_rfl) Tryz.func135 (by kernel_rfl) (by kernel_rfl) (by kernel_rfl) (λC T=>?_) H;have e:DV.yl C.l::(List.range 1).map (L1 [.ref 0 0])++List.replicate (Tryz.f135.ntmps-(1+1)) .any=AF 19 [(0,.yl C.l),(1,.ref 0 0)]:=by kernel_rfl
 rw [e];exact zLd N h C T
end
abbrev zI4:=@LawfulBEq.eq_of_beq
section
set_option maxRecDepth 100000
set_option maxHeartbeats 40000000
def zCz (n:Nat)(g_:List Ξ)(AL:Ω)(start:Int):Option Unit:= some ()
def zC0 (n:Nat)(E:List Ξ)(R:Ω)(start:Int):Option Unit:=zCz n E R start
variable {n:Nat}
def zCy (E:List Ξ)(R:Ω)(start:Int){r:Unit}(h:zC0 n E R start=some r):EQ 142 [.sl 1 E.length (AK AP E),.bools R,.i start] [] (.fn 153 3 (L1 [.ref 0 0,.ref 1 0,.ref 2 0])) [oC [.sl 1 E.length (AK AP E)],oC [.i start],oC [.bools R]] true:=by
 refine ot Tryz.func142 λB N=>?_
 revert r;apply gO;exact lE AC [6] [0,2,1]
def zAt:Ax (BA Tryz.f153 6) [] (List.range 8) []:=by unfold Ax;kernel_rfl
def Jn:Be:=λi=>match i with
 | 6=>.ord [] (List.range 8) []
 | _=>.no
def ap (g:List Ξ)(start:Int)(inn t:Ω)(o4:Ξ):DH:=[oC [.sl 1 g.length (AK AP g)],oC [.i start],oC [.bools inn],some (.bools t),oI o4]
inductive Kt where
 | l1 (x6:Nat) (o3:Ω) (o4:Ξ)
 | l2 (x6:Nat) (By:Ξ) (C3 Bm:Int) (o3:Ω) (o4:Ξ)
 | l3 (o3:Ω)
def Rr (n:Nat)(self:Kt -> Option Ξ)(g:List Ξ)(start:Int)(inn:Ω)(J:Nat)(t:Ω)(o4:Ξ):Option Ξ:= bif (decide ((J:Int)>0)) then if ((0:Int)<=0/\ 0<(J:Int))/\ 0+0<o4.length then Option.map (λl=>(o4.getD (0+0) 0)::l) (if ((0:Int)<=0/\ 0<(J:Int))/\ 0+0<o4.length/\ (0<=(o4.getD (0+0) 0)/\ (o4.getD (0+0) 0)<(g.length:Int)) then self (.l2 J (g.getD ((o4.getD (0+0) 0).toNat) []) (((g.getD ((o4.getD (0+0) 0).toNat) []).length:Nat):Int) 0 t o4) else none) else none else some []
def NS (n:Nat)(self:Kt -> Option Ξ)(g:List Ξ)(start:Int)(inn:Ω)(J:Nat)(f:Ξ)(Z O:Int)(t:Ω)(o4:Ξ):Option Ξ:= bif (decide (O<Z)) then if (0<=O/\ O<(f.length:Int))/\ (0<=(f.getD O.toNat 0)/\ (f.getD O.toNat 0)<(inn.length:Int)) then bif (inn.getD ((f.getD O.toNat 0).toNat) false) then if (0<=(f.getD O.toNat 0)/\ (f.getD O.toNat 0)<(g.length:Int))/\ 0+((f.getD O.toNat 0).toNat)<t.length then bif (!(t.getD (0+((f.getD O.toNat 0).toNat)) false)) then if ((0=0/\ 1=([f.getD O.toNat 0]:Ξ).length)/\ (0=0/\ J=o4.length)/\ o4.length+([f.getD O.toNat 0]:Ξ).length<=Ay)/\ AG (O+1) then self (.l2 (o4.length+([f.getD O.toNat 0]:Ξ).length) f Z (O+1) (t.set (0+((f.getD O.toNat 0).toNat)) true) (o4++([f.getD O.toNat 0]:Ξ))) else none else if AG (O+1) then self (.l2 J f Z (O+1) t o4) else none else none else if AG (O+1) then self (.l2 J f Z (O+1) t o4) else none else none else bif ((J-1)==0) then if (0:Int)<=1/\ (1:Int)<=(J:Int)/\ (J:Int)<=(J:Int) then self (.l3 t) else none else if (0:Int)<=1/\ (1:Int)<=(J:Int)/\ (J:Int)<=(J:Int) then if 1<=o4.length then self (.l1 (J-1) t (o4.drop 1)) else none else none
def fI (n:Nat)(self:Kt -> Option Ξ)(g:List Ξ)(start:Int)(inn:Ω)(o3:Ω):Option Ξ:= some []
def fJ (n:Nat)(self:Kt -> Option Ξ)(g:List Ξ)(start:Int)(inn:Ω):Option Ξ:= if (((g.length:Int):Int)=(g.length:Int)/\ 0<=(g.length:Int)/\ ((g.length:Int):Int)<=1000000000000)/\ (0<=start/\ start<(g.length:Int))/\ 0+start.toNat<(List.replicate g.length false).length then self (.l1 1 ((List.replicate g.length false).set (0+start.toNat) true) ([start]:Ξ)) else none
def FI (g:List Ξ)(start:Int)(inn:Ω):Nat -> Kt -> Option Ξ
 | 0,_=>none
 | n+1,.l1 J t o4=>Rr n (FI g start inn n) g start inn J t o4
 | n+1,.l2 J f Z O t o4=>NS n (FI g start inn n) g start inn J f Z O t o4
 | n+1,.l3 t=>fI n (FI g start inn n) g start inn t
def HT (n:Nat)(g:List Ξ)(start:Int)(inn:Ω):Option Ξ:=fJ n (FI g start inn n) g start inn
def PF (C:Du Tryz.prog)(n:Nat)(g:List Ξ)(start:Int)(inn:Ω)(r:Ξ):Kt -> Prop
 | .l1 J t o4=>∀ f:Nat,n<=f -> ∀ i:Nat,i<=C.encs.length -> C.encs.drop i=r.map Bw -> A1 Tryz.prog GG Fence.wide none 3 (C.Y GG 3 i) (C.Q GG 3) (Ah f (An (AR Tryz.f153) 0 [])) ⟨AF 58 [(0,.yl C.l),(1,.ref 0 0),(3,.ref 2 0),(5,.msl 3 1 0 g.length),(6,.msl 4 1 0 J)],[oC [.sl 1 g.length (AK AP g)],oC [.i start],oC [.bools inn],some (.bools t),oI o4]⟩
 | .l2 J a Z O t o4=>∀ f V:Nat,n<=f -> n<=V -> ∀ i:Nat,i<=C.encs.length -> C.encs.drop i=r.map Bw -> A1 Tryz.prog GG Fence.wide none 3 (C.Y GG 3 i) (C.Q GG 3) (Ah V (An (AR Tryz.f153) 2 [f])) ⟨AF 58 [(0,.yl C.l),(1,.ref 0 0),(3,.ref 2 0),(5,.msl 3 1 0 g.length),(6,.msl 4 1 0 J),(33,.ints a),(34,.i Z),(35,.i O)],[oC [.sl 1 g.length (AK AP g)],oC [.i start],oC [.bools inn],some (.bools t),oI o4]⟩
 | .l3 t=>∀ f:Nat,n<=f -> ∀ i:Nat,i<=C.encs.length -> C.encs.drop i=r.map Bw -> A1 Tryz.prog GG Fence.wide none 3 (C.Y GG 3 i) (C.Q GG 3) (Ah f (An (AR Tryz.f153) 0 [])) ⟨AF 58 [(0,.yl C.l),(1,.ref 0 0),(3,.ref 2 0),(5,.msl 3 1 0 g.length),(6,.ints ([]:Ξ))],[oC [.sl 1 g.length (AK AP g)],oC [.i start],oC [.bools inn],some (.bools t)]⟩
def zCt (C:Du Tryz.prog)(n:Nat)(self:Kt -> Option Ξ)(g:List Ξ)(start:Int)(inn:Ω)(k: ∀ B r,self B=some r -> PF C n g start inn r B)(J:Nat)(t:Ω)(o4:Ξ)(r:Ξ)(h:Rr n self g start inn J t o4=some r):PF C (n+1) g start inn r (.l1 J t o4):=by
 intro f c;intro i hi a;refine rd c λf c=>?_
 unfold Rr at h;have p:=H0;rcases DQ h with ⟨d,h⟩ | ⟨d,h⟩
 ·have p:=H0.b 19 d;refine gs (Ab 5 Jn) [0,1,2,3,4] p (EP (AR Tryz.f153) 5 [f]) (AF 58 [(0,.yl C.l),(1,.ref 0 0),(3,.ref 2 0),(5,.msl 3 1 0 g.length),(6,.msl 4 1 0 J)]) (ap g start inn t o4) ?_;obtain ⟨⟨q,o⟩,h⟩:=DI h;have p:=H0.g q |>.g o
  obtain ⟨r,j,rfl⟩:=SQ h;clear h;have h:=j;clear j;obtain ⟨m,hi,a⟩:=ke a;refine A1.y (ops:=BA Tryz.f153 5) HC.x 4 [0,1,3,5,6,27] [0,1,2,3,4] p (x:=Bw (o4.getD (0+0) 0)) (AF 58 [(0,.yl C.l),(1,.ref 0 0),(3,.ref 2 0),(5,.msl 3 1 0 g.length),(6,.msl 4 1 0 J),(27,.bool false)]) (ap g start inn t o4) (AF 58 [(0,.yl C.l),(1,.ref 0 0),(3,.ref 2 0),(5,.msl 3 1 0 g.length),(6,.msl 4 1 0 J),(27,.bool true)]) (ap g start inn t o4) (by kernel_rfl) (by kernel_rfl) (by kernel_rfl) m (by kernel_rfl) ?_ ?_
  ·generalize i+1=i at hi a ⊢
   obtain ⟨⟨s,O,u⟩,h⟩:=DI h;have p:=H0.g zAt |>.g s |>.g O |>.g u
   exact gg Jn [0,1,2,3,4] p (en n (k _ _ h f n c Nat.le.refl i hi a))
  ·exact TrI.e HC.x Jn 6 H0 (by kernel_rfl) (.inr rfl)
 ·have p:=H0.b 19 d;cases h;exact TrI.e HC.x Jn 10 p (by kernel_rfl) (.inl (by rw [Wz hi a]))
def zCs (C:Du Tryz.prog)(n:Nat)(self:Kt -> Option Ξ)(g:List Ξ)(start:Int)(inn:Ω)(d: ∀ B r,self B=some r -> PF C n g start inn r B)(J:Nat)(z:Ξ)(Z O:Int)(t:Ω)(o4:Ξ)(r:Ξ)(h:NS n self g start inn J z Z O t o4=some r):PF C (n+1) g start inn r (.l2 J z Z O t o4):=by
 intro f V a x;intro i hi e;have a:=zGV a;refine rd x λV x=>?_
 unfold NS at h;have p:=H0;rcases DQ h with ⟨j,h⟩ | ⟨j,h⟩
 ·obtain ⟨⟨q,u⟩,h⟩:=DI h;have p:=H0.b 36 j |>.g q |>.g u
  rcases DQ h with ⟨c,h⟩ | ⟨c,h⟩
  ·obtain ⟨⟨s,A⟩,h⟩:=DI h;have p:=p.b 42 c |>.g s |>.g A
   rcases DQ h with ⟨v,h⟩ | ⟨v,h⟩
   ·obtain ⟨⟨y,G⟩,h⟩:=DI h;have p:=p.b 48 v |>.g s |>.g A |>.g y |>.w 57 G
    exact gg Jn [0,1,2,3,6] p (d _ _ h f V a x i hi e)
   ·obtain ⟨y,h⟩:=DI h;have p:=p.b 48 v |>.w 57 y
    exact gg Jn [0,1,2,3,4] p (d _ _ h f V a x i hi e)
  ·obtain ⟨s,h⟩:=DI h;have p:=p.b 42 c |>.w 57 s
   exact gg Jn [0,1,2,3,4] p (d _ _ h f V a x i hi e)
 ·have p:=H0.b 36 j;rcases DQ h with ⟨c,h⟩ | ⟨c,h⟩
  ·obtain ⟨q,h⟩:=DI h;have p:=p.g q |>.o 21 (AN.mse_nil (k:=4) (m:=1) (o:=1) (zI4 c))
   exact gg Jn [0,1,2,3] p (d _ _ h f a i hi e)
  ·obtain ⟨q,h⟩:=DI h;have p:=p.g q |>.o 21 (AN.mse_msl (k:=4) (m:=1) (o:=1) (ZR c) rfl)
   obtain ⟨u,h⟩:=DI h;refine gs Jn [0,1,2,3,4] p (Ah f (An (AR Tryz.f153) 0 [])) (AF 58 [(0,.yl C.l),(1,.ref 0 0),(3,.ref 2 0),(5,.msl 3 1 0 g.length),(6,.msl 4 1 1 (J-1))]) (ap g start inn t o4) ?_;refine Bi.le (A8.rootE 4 1 ⟨AF 58 [(0,.yl C.l),(1,.ref 0 0),(3,.ref 2 0),(5,.msl 3 1 0 g.length),(6,.msl 5 1 0 (J-1))],[oC [.sl 1 g.length (AK AP g)],oC [.i start],oC [.bools inn],some (.bools t),none,oI (o4.drop 1)]⟩ [1<=o4.length] (by kernel_rfl) ⟨u,trivial⟩) (by kernel_rfl) ?_;refine Bi.le (A8.compE [0,1,2,3,5] (by kernel_rfl)) (by kernel_rfl) ?_;exact d _ _ h f a i hi e
def zCr (C:Du Tryz.prog)(n:Nat)(self:Kt -> Option Ξ)(g:List Ξ)(start:Int)(inn:Ω)(AE: ∀ B r,self B=some r -> PF C n g start inn r B)(t:Ω)(r:Ξ)(h:fI n self g start inn t=some r):PF C (n+1) g start inn r (.l3 t):=by
 intro f a;intro i hi b;refine rd a λf a=>?_
 unfold fI at h;have p:=H0;cases h;exact TrI.e HC.x Jn 10 p (by kernel_rfl) (.inl (by rw [Wz hi b]))
def ZE (C:Du Tryz.prog)(g:List Ξ)(start:Int)(inn:Ω): ∀ (n:Nat) (B:Kt) (r:Ξ),FI g start inn n B=some r -> PF C n g start inn r B
 | 0,_,_,h=>by cases h
 | n+1,.l1 J t o4,r,h=>zCt C n (FI g start inn n) g start inn (ZE C g start inn n) J t o4 r h
 | n+1,.l2 J f Z O t o4,r,h=>zCs C n (FI g start inn n) g start inn (ZE C g start inn n) J f Z O t o4 r h
 | n+1,.l3 t,r,h=>zCr C n (FI g start inn n) g start inn (ZE C g start inn n) t r h
variable {r:Ξ}
def zCw (g:List Ξ)(start:Int)(inn:Ω)(h:HT n g start inn=some r)(C:Du Tryz.prog)(T:C.encs=r.map Bw):A1 Tryz.prog GG Fence.wide none 3 (C.Y GG 3 0) (C.Q GG 3) [.code (AR Tryz.f153)] ⟨AF 58 [(0,.yl C.l),(1,.ref 0 0),(2,.ref 1 0),(3,.ref 2 0)],[oC [.sl 1 g.length (AK AP g)],oC [.i start],oC [.bools inn]]⟩:=by
 suffices H: ∀ i:Nat,i<=C.encs.length -> C.encs.drop i=r.map Bw -> A1 Tryz.prog GG Fence.wide none 3 (C.Y GG 3 i) (C.Q GG 3) [.code (AR Tryz.f153)] ⟨AF 58 [(0,.yl C.l),(1,.ref 0 0),(2,.ref 1 0),(3,.ref 2 0)],[oC [.sl 1 g.length (AK AP g)],oC [.i start],oC [.bools inn]]⟩ from H 0 (zIG _) (by rw [zJ5];exact T)
 intro i hi b;have a:=ZE C g start inn n;unfold HT at h
 generalize FI g start inn n=self at h a
 unfold fJ at h;obtain ⟨⟨q,o,s⟩,h⟩:=DI h;have p:=H0.g q |>.g o |>.g s
 exact gg Jn [0,1,2,3,4] p (en n (a _ _ h n Nat.le.refl i hi b))
def fL {E:List Ξ}{R:Ω}{start:Int}(h:HT n E start R=some r)(H:DH):EQ 142 [.sl 1 E.length (AK AP E),.bools R,.i start] H (.it H.length) (H++[some (.iter (r.map Bw))]) true:=by
 refine ES.iterN (c:=L1 [.ref 0 0,.ref 1 0,.ref 2 0]) (h0:=[oC [.sl 1 E.length (AK AP E)],oC [.i start],oC [.bools R]]) (fn:=Tryz.f153) (zCy (n:=0) E R start (r:=()) rfl) (by kernel_rfl) Tryz.func153 (by kernel_rfl) (by kernel_rfl) (by kernel_rfl) (λC T=>?_) H;have e:DV.yl C.l::(List.range 3).map (L1 [.ref 0 0,.ref 1 0,.ref 2 0])++List.replicate (Tryz.f153.ntmps-(3+1)) .any=AF 58 [(0,.yl C.l),(1,.ref 0 0),(2,.ref 1 0),(3,.ref 2 0)]:=by kernel_rfl
 rw [e];exact zCw E start R h C T
end
abbrev zGM:=@decide_eq_true_iff
abbrev zIx:=@Bool.not_false
abbrev zIz:=@List.length_singleton
abbrev zKA:=@List.mem_append_right
abbrev zM1:=@Bool.and_false
abbrev zNS:=@List.append_assoc
def nb (g:List Ξ)(v:Int):Ξ:=g.getD v.toNat []
structure Gr (g:List Ξ):Prop where
 len:g.length<=256
 row: ∀ v,0<=v -> v<(g.length:Int) -> (nb g v).length<=256
 rng: ∀ v,0<=v -> v<(g.length:Int) -> ∀ u∈nb g v,0<=u/\ u<(g.length:Int)
 sym: ∀ v,0<=v -> v<(g.length:Int) -> ∀ u∈nb g v,v∈nb g u
def Gr.of {g:List Ξ}(h:JR g=true)(hr: ∀ r∈g,r.length<=LB):Gr g:=by
 unfold JR at h;rw [zEh,zGM,zGL] at h
 have key: ∀ v,0<=v -> v<(g.length:Int) -> ∀ u∈nb g v,(0<=u/\ u<(g.length:Int))/\ v∈nb g u:=by
  intro v h0 c u q;have b:=h.2 v.toNat (zGQ.2 (by omega));unfold IK at b;rw [zGL] at b;obtain ⟨j,f,e⟩:=zGt q;have a:=b j (zGQ.2 f);unfold Gw at a
  have z:(g.getD v.toNat []).getD j 0=u:=by
   grind [nb]
  simp only [z,zEh,zGM,zMW] at a;have P:((v.toNat:Nat):Int)=v:=by omega
  rw [P] at a;exact ⟨⟨a.1.1.1.1,a.1.1.1.2⟩,a.2⟩
 have grow: ∀ v,0<=v -> v<(g.length:Int) -> ∀ k,k<(nb g v).length -> (k:Int)<=(nb g v).getD k 0:=by
  intro v h0 c k;have b:=h.2 v.toNat (zGQ.2 (by omega));unfold IK at b;rw [zGL] at b
  induction k with
  | zero=>
   grind
  | succ k ih=>
   intro hk;have a:=b (k+1) (zGQ.2 hk);unfold Gw at a;have d:decide (0<k+1)=true:=zEE (by omega);simp only [zEh,zGM,d,zIA,zMO,Nat.add_sub_cancel] at a
   grind [nb]
 exact ⟨h.1,λv h0 c=>by
  grind [List.getElem_mem],λv h0 c u q=>(key v h0 c u q).1,λv h0 c u q=>(key v h0 c u q).2⟩
inductive Rc (g:List Ξ)(inn:Ω)(s:Int):Int -> Prop
 | start:Rc g inn s s
 | step {a b:Int} (h:Rc g inn s a) (hb:b∈nb g a) (hi:inn.getD b.toNat false=true):Rc g inn s b
section
variable {g:List Ξ} {inn:Ω} {s:Int}
variable {v:Int}
def Rc.rng (G:Gr g)(h0:0<=s)(a:s<(g.length:Int))(h:Rc g inn s v):0<=v/\ v<(g.length:Int):=by
 induction h with
 | start=>exact ⟨h0,a⟩
 | step h c hi U=>exact G.rng _ U.1 U.2 _ c
def Rc.isIn (j:inn.getD s.toNat false=true)(h:Rc g inn s v):inn.getD v.toNat false=true:=by
 cases h with
 | start=>exact j
 | step h hb hi=>exact hi
def Rc.trans {a b:Int}(h:Rc g inn s a)(c:Rc g inn a b):Rc g inn s b:=by
 induction c with
 | start=>exact h
 | step _ d hi U=>exact .step U d hi
def Rc.symm (G:Gr g)(h0:0<=s)(a:s<(g.length:Int))(j:inn.getD s.toNat false=true)(h:Rc g inn s v):Rc g inn v s:=by
 induction h with
 | start=>exact .start
 | step h c hi U=>
  have i:=h.rng G h0 a;exact (Rc.step Rc.start (G.sym _ i.1 i.2 _ c) (h.isIn j)).trans U
theorem Rc.mono {t:Ω}(a: ∀ v:Int,inn.getD v.toNat false=true -> t.getD v.toNat false=true)(h:Rc g inn s v):Rc g t s v:=by
 induction h with
 | start=>exact .start
 | step h c hi U=>exact .step U c (a _ hi)
def FB (l:Ω):Nat:=l.countP λb=>!b
def kz: ∀ (l:Ω) (i:Nat),i<l.length -> l.getD i false=false -> FB (l.set i true)+1=FB l
 | b::l,0,_,h=>by
  grind [FB]
 | b::l,i+1,hi,h=>by
  grind [FB]
def FP (inn:Ω)(st:Ω×Ξ)(v:Int):Ω×Ξ:=bif inn.getD v.toNat false&&!st.1.getD v.toNat false then (st.1.set v.toNat true,st.2++[v]) else st
structure Bf (g:List Ξ)(inn:Ω)(s:Int)(met:Ω)(Q P:Ξ):Prop where
 len:met.length=g.length
 cnt:Q.length+FB met<=g.length
 nd:(P++Q).Nodup
 rc: ∀ v∈P++Q,Rc g inn s v
 rng: ∀ v∈P++Q,0<=v/\ v<(g.length:Int)
 met: ∀ v:Int,0<=v -> v<(g.length:Int) -> (met.getD v.toNat false=true↔v∈P++Q)
 cl: ∀ p∈P,∀ b∈nb g p,inn.getD b.toNat false=true -> b∈P++Q
 st:s∈P++Q
variable {Q P:Ξ}{met:Ω}
def Bf.ex (G:Gr g)(h:Bf g inn s met Q P){u:Int}(f:v∈Q)(q:u∈nb g v):
 Bf g inn s (FP inn (met,Q) u).1 (FP inn (met,Q) u).2 P/\ (∃ t,(FP inn (met,Q) u).2=Q++t)/\ (inn.getD u.toNat false=true -> u∈P++(FP inn (met,Q) u).2)/\ 2*FB (FP inn (met,Q) u).1+(FP inn (met,Q) u).2.length<=2*FB met+Q.length:=by
 have i:=h.rng v (zKA _ f);have c:=G.rng v i.1 i.2 u q;unfold FP
 dsimp only
 cases hi:inn.getD u.toNat false
 ·simp_all
 ·cases d:met.getD u.toNat false
  ·rw [zIx,Bool.and_true,zFR];have hn:u∉P++Q:=λk=>by rw [(h.met u c.1 c.2).2 k] at d;cases d
   have m:=h.len;have hc:=kz met u.toNat (by omega) d;have hcnt:=h.cnt;have X: ∀ x,x∈P++(Q++[u])↔x∈P++Q∨x=u:=λx=>by simp [or_assoc]
   refine ⟨⟨by rw [zGZ];exact m,by grind,?_,λx e=>?_,λx e=>?_,λx D B=>?_,λp l b j S=>(X b).2 (.inl (h.cl p l b j S)),(X s).2 (.inl h.st)⟩,⟨[u],rfl⟩,λ_=>(X u).2 (.inr rfl),by grind⟩
   ·rw [←zNS,zNQ];exact ⟨h.nd,by simp,λa ha b j=>by grind⟩
   ·rcases (X x).1 e with e | rfl
    ·exact h.rc x e
    ·exact .step (h.rc v (zKA _ f)) q hi
   ·rcases (X x).1 e with e | rfl
    ·exact h.rng x e
    ·exact c
   ·rw [X,←h.met x D B]
    grind
  ·rw [zIA,zM1,zGF];exact ⟨h,⟨[],by simp⟩,λ_=>(h.met u c.1 c.2).1 d,zGT _⟩
def Bf.exs (G:Gr g): ∀ (l:Ξ) {met:Ω} {Q:Ξ},Bf g inn s met Q P -> v∈Q -> (∀ u∈l,u∈nb g v) ->
 Bf g inn s (l.foldl (FP inn) (met,Q)).1 (l.foldl (FP inn) (met,Q)).2 P/\ (∃ t,(l.foldl (FP inn) (met,Q)).2=Q++t)/\ (∀ u∈l,inn.getD u.toNat false=true -> u∈P++(l.foldl (FP inn) (met,Q)).2)/\ 2*FB (l.foldl (FP inn) (met,Q)).1+(l.foldl (FP inn) (met,Q)).2.length<=2*FB met+Q.length
 | [],met,Q,h,p,m=>⟨h,⟨[],by simp⟩,λu q=>absurd q zMe,zGT _⟩
 | u::l,met,Q,h,p,m=>by
  obtain ⟨a,⟨t,ht⟩,h2,h3⟩:=h.ex G p (m u zIL);obtain ⟨h4,⟨t',s5⟩,h5,h6⟩:=Bf.exs G l a (by grind) λx e=>m x (zH5 _ e)
  grind
variable {l:Ξ}
def zFc {n j:Nat}(hI:inn.length=g.length)(hG:g.length<=256)(hm:met.length=g.length)(hQ:Q.length+FB met<=g.length)(hj:j<l.length)(hl:l.length<=256)(hr:0<=l.getD j 0/\ l.getD j 0<(g.length:Int)):
 FI g s inn (n+1) (.l2 Q.length l (l.length:Int) (j:Int) met Q)=FI g s inn n (.l2 (FP inn (met,Q) (l.getD j 0)).2.length l (l.length:Int) ((j:Int)+1) (FP inn (met,Q) (l.getD j 0)).1 (FP inn (met,Q) (l.getD j 0)).2):=by
 have r1:AG ((j:Int)+1):=Aj.2 ⟨by omega,by omega⟩;have L:(1000000000000:Nat)=Ay:=rfl
 show NS n (FI g s inn n) g s inn Q.length l (l.length:Int) (j:Int) met Q=_
 unfold NS FP
 grind
def sN (a:inn.length=g.length)(G:Gr g)(m:l.length<=256)(T: ∀ u∈l,u∈nb g v): ∀ (k j n:Nat) {met:Ω} {Q:Ξ},j+k=l.length -> Bf g inn s met Q P -> v∈Q ->
 FI g s inn (n+k) (.l2 Q.length l (l.length:Int) (j:Int) met Q)=FI g s inn n (.l2 ((l.drop j).foldl (FP inn) (met,Q)).2.length l (l.length:Int) (l.length:Int) ((l.drop j).foldl (FP inn) (met,Q)).1 ((l.drop j).foldl (FP inn) (met,Q)).2)
 | 0,j,n,met,Q,e,h,p=>by
  grind
 | k+1,j,n,met,Q,e,h,p=>by
  have d:j<l.length:=by omega
  have q:l.getD j 0∈l:=by grind
  have b:=h.rng v (zKA _ p);have i:=G.rng v b.1 b.2 _ (T _ q);obtain ⟨c,⟨t,ht⟩,_,_⟩:=h.ex G p (T _ q);rw [←zMc,zFc a G.len h.len h.cnt d m i];have:=sN a G m T k (j+1) n (by omega) c (by grind)
  grind [List.drop_eq_getElem_cons]
def Oj (g:List Ξ)(inn:Ω)(s:Int)(P l:Ξ):Prop:=(P++l).Nodup/\ (∀ v,v∈P++l↔Rc g inn s v)
def Bf.done (h:Bf g inn s met [] P):Oj g inn s P []:=by
 refine ⟨h.nd,λv=>⟨h.rc v,λp=>?_⟩⟩
 induction p with
 | start=>exact h.st
 | step _ c hi U=>exact h.cl _ (by simpa using U) _ c hi
def At.map {R:Type}{f:Nat -> Option R}{Q:R -> Prop}{Q':R -> Prop}{m:R -> R}(h:At f Q)(hq: ∀ r,Q r -> Q' (m r)):At (λn=>(f n).map m) Q':=by
 obtain ⟨N,h⟩:=h;refine ⟨N,λn hn=>?_⟩
 grind
def zLW (G:Gr g)(l:inn.length=g.length): ∀ (z:Nat) (met:Ω) (Q P:Ξ),2*FB met+Q.length=z -> Bf g inn s met Q P -> At (λn=>FI g s inn n (.l1 Q.length met Q)) (Oj g inn s P):=by
 intro z
 induction z using Nat.strongRecOn with
 | _ z U=>
  intro met Q P hz h;cases Q with
  | nil=>
   refine Ev.p (r:=[]) ⟨1,λn x=>?_⟩ h.done;obtain ⟨n,rfl⟩: ∃ k,n=k+1:=⟨n-1,by omega⟩
   simp_all [Rr,FI]
  | cons v q=>
   have f:v∈v::q:=zIL;have i:=h.rng v (zKA _ f);obtain ⟨c,⟨t,X⟩,y,A⟩:=h.exs G (nb g v) f (λu j=>j);have B:=G.row v i.1 i.2
   generalize hst:(nb g v).foldl (FP inn) (met,v::q)=st at c X y A
   obtain ⟨d,Q'⟩:=st;have X:Q'=v::(q++t):=X;subst X
   have H:Bf g inn s d (q++t) (P++[v]):=by
    have e:P++[v]++(q++t)=P++(v::(q++t)):=by simp
    have C:=c.cnt;simp only [zGp] at C;refine ⟨c.len,by omega,by rw [e];exact c.nd,by rw [e];exact c.rc,by rw [e];exact c.rng,by rw [e];exact c.met,?_,by rw [e];exact c.st⟩;intro p hp b D hi;rw [e];rcases zIF.1 hp with hp | hp
    ·exact c.cl p hp b D hi
    grind
   have E:2*FB d+(q++t).length<z:=by
    grind
   have V:=U _ E d (q++t) (P++[v]) rfl H
   have key:At (λn=>FI g s inn n (.l2 (v::(q++t)).length (nb g v) ((nb g v).length:Int) ((nb g v).length:Int) d (v::(q++t)))) (Oj g inn s (P++[v])):=by
    have g0:(0:Int)<=1/\ (1:Int)<=(((v::(q++t)).length:Nat):Int)/\ (((v::(q++t)).length:Nat):Int)<=(((v::(q++t)).length:Nat):Int):=⟨by omega,by rw [zGp];omega,zGl _⟩;cases w:q++t with
    | nil=>
     rw [w] at H;refine Ev.p (r:=[]) ⟨2,λn x=>?_⟩ H.done;obtain ⟨n,rfl⟩: ∃ k,n=k+2:=⟨n-2,by omega⟩
     show NS (n+1) (FI g s inn (n+1)) g s inn 1 (nb g v) ((nb g v).length:Int) ((nb g v).length:Int) d [v]=_
     unfold NS;rw [zFd (by omega),zGF];rfl
    | cons a r=>
     rw [←w];refine At.step 1 (λn=>?_) V
     simp_all [NS,FI]
   have W:At (λn=>FI g s inn n (.l2 (v::q).length (nb g v) ((nb g v).length:Int) 0 met (v::q))) (Oj g inn s (P++[v])):=by
    refine At.step (nb g v).length (λn=>?_) key;have:=sN l G B (λu j=>j) (nb g v).length 0 n (by omega) h f
    grind
   have m: ∀ r:Ξ,Oj g inn s (P++[v]) r -> Oj g inn s P (v::r):=λr hr=>by
    grind [Oj]
   refine At.step 1 (λn=>?_) (At.map W m)
   show Rr n (FI g s inn n) g s inn (v::q).length met (v::q)=_
   unfold Rr;have o:((0:Int)<=0/\ 0<(((v::q).length:Nat):Int))/\ 0+0<(v::q).length:=by rw [zGp];omega
   rw [zEE (by rw [zGp];omega),zFR,zEZ o];have F:(v::q).getD (0+0) 0=v:=rfl;rw [F,zEZ ⟨o.1,o.2,i⟩];rfl
def fK (G:Gr g)(u:inn.length=g.length)(h0:0<=s)(h1:s<(g.length:Int)):At (λn=>HT n g s inn) (λl=>l.Nodup/\ ∀ v,v∈l↔Rc g inn s v):=by
 have N:((List.replicate g.length false).set s.toNat true).length=g.length:=by simp
 have hG:=G.len;have hc:=kz (List.replicate g.length false) s.toNat (by rw [zH0];omega) (by grind)
 have MY:FB (List.replicate g.length false)<=g.length:=by
  have:=List.countP_le_length (p:=λb=>!b) (l:=List.replicate g.length false);rw [zH0] at this;exact this
 have H:Bf g inn s ((List.replicate g.length false).set s.toNat true) [s] []:=by
  refine ⟨N,by rw [zIz];omega,by simp,λv a=>?_,λv a=>?_,λv JH Bs=>?_,λp c=>absurd c zMe,by simp⟩
  ·have:v=s:=by simpa using a
   subst this;exact .start
  ·grind
  grind
 have:=zLW G u _ _ _ _ rfl H;refine (At.mono (Q':=λl=>l.Nodup/\ ∀ v,v∈l↔Rc g inn s v) this (λl (m:Oj g inn s [] l)=>(⟨m.1,m.2⟩:l.Nodup/\ ∀ v,v∈l↔Rc g inn s v))).eq λn=>?_
 unfold HT fJ
 grind
end
abbrev zNG:=@BitVec.toNat_ofInt
abbrev zNd:=@Nat.pow_le_pow_right
abbrev zNg:=@Nat.testBit_two_pow
abbrev zNk:=@Bool.false_and
end Go.Proofs.YtodinaconebmdaaGreatDoor
namespace Go.Proofs.YtodinaconebmdaaGreatDoor
def tb (x:Int)(i:Nat):Bool:=(BitVec.ofInt 64 x).getLsbD i
def CB (x:Int):Prop:=-9223372036854775808<=x/\ x<=9223372036854775807
theorem Vb (x:Int):BitVec.ofInt 64 (IntKind.i64.wrap x)=BitVec.ofInt 64 x:=by
 grind [BitVec.eq_of_toNat_eq,BitVec.toNat_ofInt,IntKind.wrap_i64]
def Zw (y:BitVec 64):BitVec.ofInt 64 (y.toNat:Int)=y:=by
 rw [BitVec.ofInt_natCast];simp
def Q6 (x:Int):CB (IntKind.i64.wrap x):=by
 rw [zM5];constructor <;> omega
theorem GO (S:BinOp)(a b:Int):CB (bits S .i64 a b):=Q6 _
def Ou (a b:Int)(i:Nat):tb (bits .or .i64 a b) i=(tb a i||tb b i):=by
 show (BitVec.ofInt 64 (IntKind.i64.wrap ((BitVec.ofInt 64 a||| BitVec.ofInt 64 b).toNat:Int))).getLsbD i=_
 rw [Vb,Zw,BitVec.getLsbD_or];rfl
theorem Iq (a b:Int)(i:Nat):tb (bits .and .i64 a b) i=(tb a i&&tb b i):=by
 show (BitVec.ofInt 64 (IntKind.i64.wrap ((BitVec.ofInt 64 a&&& BitVec.ofInt 64 b).toNat:Int))).getLsbD i=_
 rw [Vb,Zw,BitVec.getLsbD_and];rfl
variable {i:Nat}{x:Int}
theorem Ln (h:64<=i):tb x i=false:=BitVec.getLsbD_of_ge _ _ h
theorem Lo (a b:Int)(i:Nat):tb (bits .andNot .i64 a b) i=(tb a i&&!tb b i):=by
 show (BitVec.ofInt 64 (IntKind.i64.wrap ((BitVec.ofInt 64 a&&& ~~~ BitVec.ofInt 64 b).toNat:Int))).getLsbD i=_
 grind [Vb,tb]
def X1 (a:Int)(h:i<64):tb (bits .xor .i64 (-1) a) i= !tb a i:=by
 show (BitVec.ofInt 64 (IntKind.i64.wrap ((BitVec.ofInt 64 (-1) ^^^ BitVec.ofInt 64 a).toNat:Int))).getLsbD i=_
 rw [Vb,Zw,BitVec.getLsbD_xor];have:BitVec.ofInt 64 (-1)=BitVec.allOnes 64:=by decide
 rw [this,BitVec.getLsbD_allOnes];simp [h,tb]
def de (i:Nat):tb 0 i=false:=by
 simp_all [tb]
theorem IG : ¬ tb 0 i=true:=by rw [de];decide
def Kj {y:Int}(hx:CB x)(hy:CB y)(h: ∀ i,i<64 -> tb x i=tb y i):x=y:=by
 have e:BitVec.ofInt 64 x=BitVec.ofInt 64 y:=BitVec.eq_of_getLsbD_eq λi hi=>h i hi
 have e2:=congrArg BitVec.toNat e
 grind [BitVec.toNat_ofInt,CB]
theorem Ki (m i:Nat)(hi:i<64):tb (m:Int) i=m.testBit i:=by
 grind [tb,BitVec.getLsbD_ofNat]
def Sm (k:Nat)(x:Int):Prop:=0<=x/\ x<2 ^ k
variable {k:Nat}
def NZ (hk:k<=62):(2:Int) ^ k<=4611686018427387904:=by
 have:(2:Nat) ^ k<=2 ^ 62:=zNd (by decide) hk
 grind
def Sm.in64 (hk:k<=62)(h:Sm k x):CB x:=by
 have:=NZ hk;obtain ⟨h1,h2⟩:=h;constructor <;> omega
def Sm.hi (h:Sm k x)(hi:k<=i):tb x i=false:=by
 rcases zIW i 64 with S6 | S6
 ·obtain ⟨m,rfl⟩:=zMM h.1;rw [Ki m i S6];apply Nat.testBit_lt_two_pow;have b:(m:Int)<2 ^ k:=h.2;have h3:m<2 ^ k:=by exact_mod_cast b
  grind [Nat.lt_of_lt_of_le,Nat.pow_le_pow_right]
 ·exact Ln S6
def YP (hk:k<=62)(hx:CB x)(h: ∀ i,k<=i -> i<64 -> tb x i=false):Sm k x:=by
 have hy:(BitVec.ofInt 64 x).toNat<2 ^ k:=by
  apply Nat.lt_pow_two_of_testBit
  grind [tb,BitVec.getLsbD]
 rw [zNG] at hy;have h1:=NZ hk
 grind [CB,Sm]
variable {s:Nat}
theorem yQ (hi:i<64):tb ((2 ^ s:Nat):Int) i=decide (s=i):=by
 rw [Ki _ _ hi,zNg]
def M6 (e:CB x):x=0↔∀ i,i<64 -> tb x i=false:=
 ⟨λh i _=>by rw [h];exact de i,λh=>Kj e ⟨by decide,by decide⟩ λi hi=>by rw [h i hi,de]⟩
theorem Ex (e:CB x):x≠0↔∃ i,i<64/\ tb x i=true:=by
 rw [ne_eq,M6 e]
 grind
theorem eB (h:Sm k x)(hk:k<=62)(j:s<64):bits .and .i64 (x/2 ^ s) 1=if tb x s then 1 else 0:=by
 obtain ⟨m,rfl⟩:=zMM h.1;have hm:=h.2;have kG:=NZ hk;have e:(m:Int)/2 ^ s=((m/2 ^ s:Nat):Int):=by simp
 have key: ∀ t,t<64 -> tb (bits .and .i64 ((m:Int)/2 ^ s) 1) t=(decide (t=0)&&tb (m:Int) s):=λt X=>by
  rw [Iq,e,Ki _ _ X,Ki m s j,show (1:Int)=((1:Nat):Int) from rfl,Ki 1 t X,Nat.testBit_div_two_pow]
  by_cases h0:t=0
  ·subst h0;simp
  ·rw [zFd h0,zNk]
   have:Nat.testBit 1 t=false:=by
    rw [show (1:Nat)=2 ^ 0 from rfl,zNg];simpa using λh=>h0 h.symm
   rw [this,zM1]
 cases c:tb (m:Int) s with
 | true=>
  rw [zEZ rfl];refine Kj (GO _ _ _) ⟨by decide,by decide⟩ λt X=>?_
  rw [key t X,c,show (1:Int)=((1:Nat):Int) from rfl,Ki 1 t X,Bool.and_true]
  by_cases h0:t=0
  ·subst h0;rfl
  ·rw [zFd h0];rw [show (1:Nat)=2 ^ 0 from rfl,zNg];symm;simpa using λh=>h0 h.symm
 | false=>
  simp_all [M6,GO]
def Ud (h:Sm k x)(hk:k<=62)(hs:s<64):(bits .and .i64 (x/2 ^ s) 1==1)=tb x s:=by
 grind [eB]
def zAC (h:Sm k x)(hk:k<=62)(hs:s<64):(bits .and .i64 (x/2 ^ s) 1==0)= !tb x s:=by
 grind [eB]
end Go.Proofs.YtodinaconebmdaaGreatDoor
namespace Go.Proofs.YtodinaconebmdaaGreatDoor
open Go.RowKit
section
variable {S R:Type}
def Z9 (m:Nat -> S -> Int -> Option R)(len b:Nat)(Inv:Nat -> S -> Prop) 
 (h: ∀ (n i:Nat) (s:S),b<=n -> i<len -> Inv i s -> ∃ a,m (n+1) s (i:Int)=m n a ((i:Int)+1)/\ Inv (i+1) a):
 ∀ (k i n:Nat) (s:S),i+k=len -> b<=n -> Inv i s -> ∃ a,m (n+k) s (i:Int)=m n a (len:Int)/\ Inv len a
 | 0,i,n,s,e,_,u=>by
  grind
 | k+1,i,n,s,e,c,u=>by
  obtain ⟨a,h1,d⟩:=h (n+k) i s (by omega) (by omega) u;obtain ⟨s2,h3,h4⟩:=Z9 m len b Inv h k (i+1) n a (by omega) c d
  grind
def IU (m:Nat -> S -> Int -> Option R)(len b:Nat)(Inv:Nat -> S -> Prop) 
 (h: ∀ (n i:Nat) (s:S),b<=n -> i<len -> Inv i s -> ∃ a,m (n+1) s (i:Int)=m n a ((i:Int)+1)/\ Inv (i+1) a)
 {n:Nat} {s:S} (hn:b+len<=n) (u:Inv 0 s): ∃ W a,b<=W/\ W+len=n/\ m n s 0=m W a (len:Int)/\ Inv len a:=by
 obtain ⟨a,h1,h2⟩:=Z9 m len b Inv h len 0 (n-len) s (by omega) (by omega) u
 grind
structure B7 (c:AD)(k:Nat)(pos:Ξ):Prop where
 cells: ∀ a,a<c.cells.length -> 0<=c.cells.getD a 0/\ c.cells.getD a 0<(pos.length:Int)
 len:c.cells.length<=256
 sm: ∀ i,i<pos.length -> Sm k (pos.getD i 0)
 k:k<=16
def Ad (c:AD)(pos:Ξ)(a:Nat):Int:=pos.getD (c.cells.getD a 0).toNat 0
def NC (x:Int):Bool:=bits .and .i64 x (x-1)==0
section
variable {c:AD} {k:Nat} {pos lost:Ξ} {q:AA}
variable {a:Nat}
def B7.at (W:B7 c k pos)(D:a<c.cells.length):Sm k (Ad c pos a):=by
 have:=W.cells a D;exact W.sm _ (by omega)
def B7.r64 (W:B7 c k pos)(D:a<c.cells.length):AG (Ad c pos a-1)/\ AG ((a:Int)+1):=by
 have h:=W.at D;have h2:=NZ (k:=k) (zGK W.k (by decide));have h3:=W.len;obtain ⟨h0,h1⟩:=h
 grind [Aj]
variable {cell:Int}{n:Nat}
def MF {ss:Int}(h0:0<=cell)(h1:cell<(pos.length:Int))(m:lost.length=pos.length):
 ∃ l',D8 n cell ss c q pos pos.length lost=some l'/\ l'.length=pos.length/\ ∀ j s,tb (l'.getD j 0) s=(tb (lost.getD j 0) s||(decide (j=cell.toNat)&&(tb (pos.getD j 0) s&&tb ss s))):=by
 refine ⟨lost.set cell.toNat (bits .or .i64 (lost.getD cell.toNat 0) (bits .and .i64 (pos.getD cell.toNat 0) ss)),?_,by rw [zGZ];exact m,λj s=>?_⟩
 ·simp_all [D8,gh]
 ·by_cases hj:j=cell.toNat
  ·simp_all [Ou,Iq]
  grind
def gB (h0:0<=cell)(h1:cell<(pos.length:Int))(m:lost.length=pos.length):
 ∃ l',Hc n cell c q pos pos.length lost=some l'/\ l'.length=pos.length/\ ∀ j s,tb (l'.getD j 0) s=(tb (lost.getD j 0) s||(decide (j=cell.toNat)&&(tb (pos.getD j 0) s&&!tb c.set s))):=by
 refine ⟨lost.set cell.toNat (bits .or .i64 (lost.getD cell.toNat 0) (bits .andNot .i64 (pos.getD cell.toNat 0) c.set)),?_,by rw [zGZ];exact m,λj s=>?_⟩
 ·simp_all [Hc,gD]
 ·by_cases hj:j=cell.toNat
  ·simp_all [Ou,Lo]
  grind
def Sg (c:AD)(pos:Ξ)(a s:Nat):Prop:=NC (Ad c pos a)=true/\ tb (Ad c pos a) s=true
def CL (c:AD)(pos lost:Ξ)(i:Nat)(D:Nat -> Ψ)(l:Ξ):Prop:= l.length=pos.length/\ ∀ j s,tb (l.getD j 0) s=true↔tb (lost.getD j 0) s=true∨∃ a,a<i/\ (c.cells.getD a 0).toNat=j/\ tb (Ad c pos a) s=true/\ D a s
variable {D:Nat -> Ψ}
def CL.step {i:Nat}{l l':Ξ}(h:CL c pos lost i D l)(m:l'.length=pos.length) 
 (a: ∀ j s,tb (l'.getD j 0) s=true↔tb (l.getD j 0) s=true∨((c.cells.getD i 0).toNat=j/\ tb (Ad c pos i) s=true/\ D i s)):CL c pos lost (i+1) D l':=by
 refine ⟨m,λj s=>?_⟩;rw [a,h.2]
 grind
def CL.zero (m:lost.length=pos.length):CL c pos lost 0 D lost:=
 ⟨m,λj s=>⟨.inl,λh=>h.elim id λ⟨a,b,_⟩=>absurd b (zGR a)⟩⟩
def Qe (c:AD)(pos:Ξ)(a s:Nat):Prop:=∃ b,b<c.cells.length/\ b≠a/\ Sg c pos b s
def zKH (W:B7 c k pos)(F:lost.length=pos.length)(hn:2*c.cells.length+2<=n):
 ∃ l,TS n c q pos pos.length lost=some (true,l)/\ CL c pos lost c.cells.length (Qe c pos) l:=by
 have G: ∀ i,i<c.cells.length -> ((i:Nat):Int)<((c.cells.length:Nat):Int):=λi hi=>by omega
 have S:=IU (λn (s:Δ) i=>Me c q pos pos.length lost n (.l1 s.1 s.2 i)) c.cells.length (c.cells.length+2)
  (λi s=>(∀ j,tb s.1 j=true↔∃ a,a<i/\ Sg c pos a j)/\ (∀ j,tb s.2 j=true↔∃ a b,a<b/\ b<i/\ Sg c pos a j/\ Sg c pos b j))
  (λn i s _ hi v=>?_) (n:=n) (s:=(0,0)) (by omega) ?_
 ·obtain ⟨z,⟨o,t⟩,Hh,_,e1,H,X⟩:=S;obtain ⟨w,rfl⟩: ∃ w,z=w+1:=⟨z-1,by omega⟩
  have T:=IU (λn (s:Ξ) i=>Me c q pos pos.length lost n (.l2 o t i s)) c.cells.length 1
   (λi s=>CL c pos lost i (Qe c pos) s) (λn i s GJ hi v=>?_) (n:=w) (s:=lost) (by omega) (CL.zero F)
  ·obtain ⟨B,l,N6,_,e2,hL⟩:=T;obtain ⟨C,rfl⟩: ∃ C,B=C+1:=⟨B-1,by omega⟩
   simp_all [TS,vQ,b7,Me,b6]
  ·have p:=W.cells i hi;have r:=W.r64 hi
   show ∃ I,b6 n (Me c q pos pos.length lost n) c q pos pos.length lost o t (i:Int) s=_/\ _
   unfold b6;rw [zEE (G i hi),zFR];simp only [zCg];rw [zEZ ⟨⟨by omega,G i hi⟩,p,r.1⟩];have Y:(bits .and .i64 (pos.getD (c.cells.getD i 0).toNat 0) (pos.getD (c.cells.getD i 0).toNat 0-1)==0)=NC (Ad c pos i):=rfl;rw [Y];cases f:NC (Ad c pos i)
   ·rw [zGF];obtain ⟨l',g,u,m⟩:=MF (n:=n) (ss:=o) (c:=c) (q:=q) p.1 p.2 v.1;rw [g,zEb,zEZ r.2];refine ⟨l',rfl,v.step u λj x=>?_⟩;rw [m,zGq,zEh,zEh,zGM,H];constructor
    ·rintro (h | ⟨rfl,A,b,d,h5⟩)
     ·exact .inl h
     ·refine .inr ⟨rfl,A,b,d,?_,h5⟩;rintro rfl;rw [h5.1] at f;cases f
    ·rintro (h | ⟨rfl,A,b,d,_,h5⟩)
     ·exact .inl h
     ·exact .inr ⟨rfl,A,b,d,h5⟩
   ·rw [zFR];obtain ⟨l',g,u,m⟩:=MF (n:=n) (ss:=bits .or .i64 (bits .andNot .i64 o (pos.getD (c.cells.getD i 0).toNat 0)) t) (c:=c) (q:=q) p.1 p.2 v.1;rw [g,zEb,zEZ r.2];refine ⟨l',rfl,v.step u λj x=>?_⟩;rw [m,zGq,zEh,zEh,zGM,Ou,Lo,zGq,zEh,X];constructor
    ·rintro (h | ⟨rfl,A,⟨_,h5⟩ | ⟨E,J,y,K,U,L⟩⟩)
     ·exact .inl h
     ·rw [A] at h5;cases h5
     ·refine .inr ⟨rfl,A,?_⟩
      by_cases e:E=i
      ·exact ⟨J,K,by omega,L⟩
      ·exact ⟨E,by omega,e,U⟩
    ·rintro (h | ⟨rfl,A,b,d,h5,y⟩)
     ·exact .inl h
     ·refine .inr ⟨rfl,A,.inr ?_⟩;rcases Nat.lt_or_gt_of_ne h5 with h5 | h5
      ·exact ⟨b,i,h5,hi,y,f,A⟩
      ·exact ⟨i,b,h5,d,⟨f,A⟩,y⟩
 ·obtain ⟨o,t⟩:=s;obtain ⟨g,u⟩:=v;simp only at g u;have p:=W.cells i hi;have r:=W.r64 hi
  show ∃ I,b7 n (Me c q pos pos.length lost n) c q pos pos.length lost o t (i:Int)=_/\ _
  unfold b7;rw [zEE (G i hi),zFR];simp only [zCg];rw [zEZ ⟨⟨by omega,G i hi⟩,p,r.1⟩];have Y:(bits .and .i64 (pos.getD (c.cells.getD i 0).toNat 0) (pos.getD (c.cells.getD i 0).toNat 0-1)==0)=NC (Ad c pos i):=rfl;rw [Y];cases f:NC (Ad c pos i)
  ·rw [zGF,zEZ r.2];refine ⟨(o,t),rfl,λj=>?_,λj=>?_⟩
   ·rw [g];constructor
    ·grind
    ·rintro ⟨a,D,h⟩;rcases zGW.1 D with D | rfl
     ·exact ⟨a,D,h⟩
     ·rw [h.1] at f;cases f
   ·rw [u];constructor
    ·rintro ⟨a,b,LT,d,h⟩;exact ⟨a,b,LT,by omega,h⟩
    ·rintro ⟨a,b,LT,d,h⟩;rcases zGW.1 d with d | rfl
     ·exact ⟨a,b,LT,d,h⟩
     ·rw [h.2.1] at f;cases f
  ·rw [zFR,zEZ r.2];refine ⟨(bits .or .i64 o (Ad c pos i),bits .or .i64 t (bits .and .i64 o (Ad c pos i))),rfl,λj=>?_,λj=>?_⟩
   ·rw [Ou,zGq,g];constructor
    ·rintro (⟨a,D,h⟩ | h)
     ·exact ⟨a,by omega,h⟩
     ·exact ⟨i,by omega,f,h⟩
    ·rintro ⟨a,D,h⟩;rcases zGW.1 D with D | rfl
     ·exact .inl ⟨a,D,h⟩
     ·exact .inr h.2
   ·rw [Ou,Iq,zGq,zEh,g,u];constructor
    ·rintro (⟨a,b,LT,d,h⟩ | ⟨⟨a,D,h⟩,m⟩)
     ·exact ⟨a,b,LT,by omega,h⟩
     ·exact ⟨a,i,D,by omega,h,f,m⟩
    ·rintro ⟨a,b,LT,d,h,m⟩;rcases zGW.1 d with d | rfl
     ·exact .inl ⟨a,b,LT,d,h,m⟩
     ·exact .inr ⟨⟨a,LT,h⟩,m.2⟩
 simp_all [IG]
end
end
end Go.Proofs.YtodinaconebmdaaGreatDoor
namespace Go.Proofs
open Go.Shelf
def Tryz.lays189_ren:Go.Shelf.Ren:=⟨λ| 189=>166 | 125=>171 | 257=>170 | 128=>181 | 129=>182 | 294=>172 | 295=>173 | 296=>174 | 297=>175 | 298=>176 | 299=>177 | 216=>178 | 300=>179 | 301=>180 | 328=>183 | 329=>184 | 330=>185 | 331=>186 | 332=>187 | 215=>188 | 343=>189 | n=>n,λ| 28=>22 | 3=>3 | 46=>66 | 0=>0 | 51=>181 | 53=>73 | 4=>4 | 183=>200 | 182=>199 | 131=>63 | 5=>5 | 9=>9 | 218=>204 | 222=>208 | 228=>210 | 229=>150 | n=>n,λ| n=>n⟩
def Tryz.lays189:Go.Proofs.Lays.n189 Tryz.prog Tryz.lays189_ren:={
 mixed:=by kernel_rfl
 f125:=Tryz.func171.trans (congrArg some (by kernel_rfl))
 f128:=Tryz.func181.trans (congrArg some (by kernel_rfl))
 f129:=Tryz.func182.trans (congrArg some (by kernel_rfl))
 f189:=Tryz.func166.trans (congrArg some (by kernel_rfl))
 f215:=Tryz.func188.trans (congrArg some (by kernel_rfl))
 f216:=Tryz.func178.trans (congrArg some (by kernel_rfl))
 f257:=Tryz.func170.trans (congrArg some (by kernel_rfl))
 f294:=Tryz.func172.trans (congrArg some (by kernel_rfl))
 f295:=Tryz.func173.trans (congrArg some (by kernel_rfl))
 f296:=Tryz.func174.trans (congrArg some (by kernel_rfl))
 f297:=Tryz.func175.trans (congrArg some (by kernel_rfl))
 f298:=Tryz.func176.trans (congrArg some (by kernel_rfl))
 f299:=Tryz.func177.trans (congrArg some (by kernel_rfl))
 f300:=Tryz.func179.trans (congrArg some (by kernel_rfl))
 f301:=Tryz.func180.trans (congrArg some (by kernel_rfl))
 f328:=Tryz.func183.trans (congrArg some (by kernel_rfl))
 f329:=Tryz.func184.trans (congrArg some (by kernel_rfl))
 f330:=Tryz.func185.trans (congrArg some (by kernel_rfl))
 f331:=Tryz.func186.trans (congrArg some (by kernel_rfl))
 f332:=Tryz.func187.trans (congrArg some (by kernel_rfl))
 f343:=Tryz.func189.trans (congrArg some (by kernel_rfl))
 t0:=Tryz.underlying0
 a0:=Tryz.isAgg0
 z0:=Tryz.sizeOf0
 v0:=Tryz.zeroValue0
 t3:=Tryz.underlying3
 a3:=Tryz.isAgg3
 z3:=Tryz.sizeOf3
 v3:=Tryz.zeroValue3
 t4:=Tryz.underlying4
 a4:=Tryz.isAgg4
 z4:=Tryz.sizeOf4
 v4:=Tryz.zeroValue4
 t5:=Tryz.underlying5
 a5:=Tryz.isAgg5
 z5:=Tryz.sizeOf5
 v5:=Tryz.zeroValue5
 t9:=Tryz.underlying9
 a9:=Tryz.isAgg9
 z9:=Tryz.sizeOf9
 v9:=Tryz.zeroValue9
 t28:=Tryz.underlying22
 a28:=Tryz.isAgg22
 z28:=Tryz.sizeOf22
 v28:=Tryz.zeroValue22
 t46:=Tryz.underlying66
 a46:=Tryz.isAgg66
 z46:=Tryz.sizeOf66
 v46:=Tryz.zeroValue66
 t51:=Tryz.underlying181
 a51:=Tryz.isAgg181
 z51:=Tryz.sizeOf181
 v51:=Tryz.zeroValue181
 t53:=Tryz.underlying73
 a53:=Tryz.isAgg73
 z53:=Tryz.sizeOf73
 v53:=Tryz.zeroValue73
 t131:=Tryz.underlying63
 a131:=Tryz.isAgg63
 z131:=Tryz.sizeOf63
 v131:=Tryz.zeroValue63
 t182:=Tryz.underlying199
 a182:=Tryz.isAgg199
 z182:=Tryz.sizeOf199
 v182:=Tryz.zeroValue199
 t183:=Tryz.underlying200
 a183:=Tryz.isAgg200
 z183:=Tryz.sizeOf200
 v183:=Tryz.zeroValue200
 t218:=Tryz.underlying204
 a218:=Tryz.isAgg204
 z218:=Tryz.sizeOf204
 v218:=Tryz.zeroValue204
 t222:=Tryz.underlying208
 a222:=Tryz.isAgg208
 z222:=Tryz.sizeOf208
 v222:=Tryz.zeroValue208
 t228:=Tryz.underlying210
 a228:=Tryz.isAgg210
 z228:=Tryz.sizeOf210
 v228:=Tryz.zeroValue210
 t229:=Tryz.underlying150
 a229:=Tryz.isAgg150
 z229:=Tryz.sizeOf150
 v229:=Tryz.zeroValue150 }
open Go.Sort Go.RowKit in
def Tryz.slices_Sort_int (blk off cap:Nat)(V:List Int)(w:World)(E:Holds (Value.int .i64) w blk off V.toArray)(U:blk<w.heap.size)(b:V.length<4611686018427387904):
 Calls Tryz.prog 166 #[.slice (some ⟨blk,off,none⟩) V.length cap] w λe w'=>
  e= .returned (.tuple #[])/\ ∃ n a,w'=grow (putRow (Value.int .i64) (Sort.ahead w n) blk off (V.mergeSort λx y=>decide (x<=y)).toArray) a:=Any.slices_Sort_int Tryz.lays189 blk off cap V w E U b
end Go.Proofs
namespace Go.Proofs.YtodinaconebmdaaGreatDoor
open Go.RowKit
abbrev zNH:=@List.pairwise_cons
section
def SV (a:Int):Ξ -> Ξ
 | []=>[a]
 | b::l=>if a<=b then a::b::l else b::SV a l
def Iv:Ξ -> Ξ
 | []=>[]
 | a::l=>SV a (Iv l)
def iJ (a:Int): ∀ l:Ξ,(SV a l).Perm (a::l)
 | []=>zNP _
 | b::l=>by
  unfold SV;split
  ·exact zNP _
  ·exact ((iJ a l).cons b).trans (List.Perm.swap a b l)
theorem YF: ∀ l:Ξ,(Iv l).Perm l
 | []=>zNP _
 | a::l=>(iJ a _).trans ((YF l).cons a)
def sc (a:Int): ∀ l:Ξ,l.Pairwise (· <= ·) -> (SV a l).Pairwise (· <= ·)
 | [],_=>List.pairwise_singleton _ _
 | b::l,h=>by
  have h':=zNH.1 h;unfold SV;split
  ·rename_i LT;refine zNH.2 ⟨λx hx=>?_,h⟩
   grind
  ·rename_i LT;refine zNH.2 ⟨λx hx=>?_,sc a l h'.2⟩;rcases zIq.1 ((iJ a l).mem_iff.1 hx) with rfl | hx
   ·omega
   ·exact h'.1 x hx
theorem oO: ∀ l:Ξ,(Iv l).Pairwise (· <= ·)
 | []=>List.Pairwise.nil
 | a::l=>sc a _ (oO l)
def zJ (l:Ξ):(l.mergeSort λx y=>decide (x<=y))=Iv l:=by
 grind [List.Perm.eq_of_pairwise,oO,List.mergeSort_perm,YF,List.pairwise_mergeSort]
def UR (l:Ξ):(Iv l).length=l.length:=(YF l).length_eq
variable {b o:Nat}{w:World}
def zIY {l l':Ξ}{cs:Array Value}{t:TypeId}{z:Nat×Nat}(h:w.heap[b]? =some (.cells cs t z))(hl:l.length=l'.length)(n:Nat)(E:Array Obj):
 ∃ V,(Sort.grow (Sort.putRow (Value.int .i64) (Sort.ahead w n) b o l'.toArray) E).heap[b]? =some (.cells V t z)/\ V.size=cs.size/\ ∀ j,j<l.length -> o+j<cs.size -> V[o+j]? =some (.int .i64 (l'.getD j 0)):=by
 have c:b<w.heap.size:=(zGI.1 h).1;refine ⟨Sort.putCells (Value.int .i64) o l'.toArray cs,?_,by simp [Sort.putCells],λj hj hs=>?_⟩
 ·simp only [Sort.grow,Sort.putRow,Sort.mapBlock,Sort.ahead];rw [Array.getElem?_append_left (by simpa using c),zMv,zEZ rfl,h];rfl
 simp_all [Sort.putCells]
theorem yB (hb:b<w.heap.size)(d:Array Int)(n:Nat)(E:Array Obj):AQ (λk=>k=b) w (Sort.grow (Sort.putRow (Value.int .i64) (Sort.ahead w n) b o d) E):=by
 refine ⟨rfl,rfl,rfl,by simp [Sort.ahead],λk hk AY=>?_⟩;simp only [Sort.grow,Sort.putRow,Sort.mapBlock,Sort.ahead]
 grind
def zI (l:Ξ){n:Nat}(r:n=l.length)(g:l.length<=Ay):ES Tryz.prog GG 166 [.msl 0 1 0 n] [some (.ints l)] (.tup 0 λj=>([]:List DV).getD j .any) [some (.ints (Iv l))] false:=by
 subst r;refine ⟨⟨_,Tryz.func166,by decide,rfl⟩,λN ρ w args HR C=>?_⟩;obtain ⟨p,i,a⟩:=HR.obj 0 _ rfl;have a:AX w p l.length λj u=>u= .int .i64 (l.getD j 0):=a
 have h0:=C.2 0 (by simp);obtain ⟨p',cap,U,hv,QL,Sl,Nx⟩:=h0;have s:p'=p:=zGJ (U.symm.trans i);subst s;have x:args.size=1:=by have:=C.1;simpa using this.symm
 have D:args= #[.slice (some ⟨p'.blk,p'.off,none⟩) l.length cap]:=by
  apply Array.ext
  ·simp [x]
  simp_all
 have y:Sort.Holds (Value.int .i64) w p'.blk p'.off l.toArray:=λj d=>by
  have d:j<l.length:=by simpa using d
  obtain ⟨u,c1,c2⟩:=a.cell d;refine ⟨by grind,a.frozen _⟩
 obtain ⟨k,cs,t,J,B,P,_⟩:=a;have f:p'.blk<w.heap.size:=(zGI.1 J).1;subst D;refine (Tryz.slices_Sort_int p'.blk p'.off cap l w y f (by unfold Ay at g;omega)).mono ?_;rintro e w' ⟨rfl,m,E,rfl⟩;rw [zJ];obtain ⟨V,A,Z,F⟩:=zIY (o:=p'.off) J (UR l).symm m E;have q:AQ p'.foot w (Sort.grow (Sort.putRow (Value.int .i64) (Sort.ahead w m) p'.blk p'.off (Iv l).toArray) E):=by grind [yB]
 show ∃ v,Ending.returned (.tuple #[])=Ending.returned v/\ CC Tryz.prog GG N _ ρ w false _ _ v (Sort.grow (Sort.putRow (Value.int .i64) (Sort.ahead w m) p'.blk p'.off (Iv l).toArray) E)
 refine ⟨_,rfl,⟨⟨ρ,HR.write (o':=.ints (Iv l)) rfl i q (λb f=>?_) ?_,⟨#[],rfl,rfl,λj d=>absurd d (zGR j)⟩,A3.write rfl i q,λ_ _ h=>h⟩,λh=>by cases h⟩⟩
 ·rw [k] at f;exact .cells (c:=V) (t:=t) (z:=(0,0)) (by rw [show b=p'.blk from f];exact A)
 ·refine ⟨k,V,t,A,by rw [Z,UR];exact B,by rw [Z];exact P,λj d=>?_⟩;rw [UR] at d;exact ⟨_,F j d (by omega),rfl⟩
end
section
set_option maxRecDepth 100000
set_option maxHeartbeats 40000000
inductive Ml where
 | s0
 | s1 (L3:Nat) (I3:Ξ)
def we:Ml -> DH
 | .s0=>[none,oC [.nils]]
 | .s1 x s=>[none,oC [.msl 2 1 0 x],oI s]
def cr (n:Nat)(B:Int):Option Ml:= if (0=0/\ 1=([B]:Ξ).length)/\ 0<([B]:Ξ).length/\ ([B]:Ξ).length<=Ay then some (.s1 (([B]:Ξ).length) ([B]:Ξ)) else none
def cq (n:Nat)(B:Int)(x:Nat)(s:Ξ):Option Ml:= if (0=0/\ 1=([B]:Ξ).length)/\ (0=0/\ x=s.length)/\ s.length+([B]:Ξ).length<=Ay then some (.s1 (s.length+([B]:Ξ).length) (s++([B]:Ξ))) else none
def li (n:Nat)(B:Int):Ml -> Option Ml
 | .s0=>cr n B
 | .s1 x s=>cq n B x s
def Mm (n:Nat)(B:Int)(s:Ml):Option Ml:=li n B s
def zLr (n:Nat)(l B:Nat)(N:Yd 2)(a:Int)(s:Ml)(r:Ml)(h:Mm n a s=some r):TA l B N (C1 2 [] 0 (we r)) Tryz.f169 6 ⟨AF 13 [(2,.ref 1 0),(6,.it 0),(7,.i a)],we s⟩:=by
 cases s with
 | s0=>
  replace h:cr n a=some r:=h;unfold cr at h;refine ag AC [0,1] H0 (AF 13 [(2,.ref 1 0),(5,.i a)]) [none,oC [.nils]] λN=>?_
  revert r;apply gO;exact gi (jt (lF λp=>rr AC [0,1,3] rfl p))
 | s1 x b=>
  replace h:cq n a x b=some r:=h;unfold cq at h;refine ag AC [0,1,2] H0 (AF 13 [(2,.ref 1 0),(5,.i a)]) [none,oC [.msl 2 1 0 x],oI b] λN=>?_
  revert r;apply gO;exact gi (jt (lF λp=>rr AC [0,1,4] rfl p))
def lh (n:Nat)(l:Ξ):Option (Ξ):=
 (CO (Mm n) l (.s0)).bind λk=>
  match k with
  | .s0=>
   none
  | .s1 b c=>
   if b=c.length then
    some c
   else none
def XZ (n:Nat)(l:Ξ):Option (Ξ):=lh n l
variable {r l:Ξ}{n:Nat}
def zLq (h:XZ n l=some r):EQ 169 [.nils,.it 0] [some (.iter ((l).map Bw))] (.msl 1 1 0 r.length) [none,oI r] false:=by
 unfold XZ lh at h;refine ot Tryz.func169 λB N=>?_
 revert r;apply gO
 exact cn λk s=>λp r h=>by
  refine gs AC [0,1] p (HE (AR Tryz.f169) 6 []) (AF 13 [(2,.ref 1 0),(6,.it 0)]) [some (.iter ((l).map Bw)),oC [.nils]] ?_;refine r0 0 6 #[7] Bw 2 s (zLr n) ?_;cases k with
  | s0=>
   dsimp only at h
   revert r;apply gO;exact nO
  | s1 b dH=>
   dsimp only at h
   revert r;apply gO;exact gn λq=>lF λp=>el AC [4] [0,2] p [] H0 [.msl 1 1 0 b] (AN.mslN q)
def kr (n:Nat)(l:Ξ):Option (Ξ):= (XZ n l).bind λk=> some k
def cP (n:Nat)(l:Ξ):Option (Ξ):=kr n l
def zK2 (h:cP n l=some r):EQ 165 [.it 0] [some (.iter ((l).map Bw))] (.msl 1 1 0 r.length) [none,oI r] false:=by
 unfold cP kr at h;refine ot Tryz.func165 λB N=>?_
 revert r;apply gO;exact ce zLq [0] [some (.iter ((l).map Bw))] λk=>lF λp=>el AC [2] [0,1] p [] H0 [.msl 1 1 0 k.length] (AN.mslN rfl)
def dt (n:Nat)(l:Ξ):Option (Ξ):= (cP n l).bind λk=> if k.length<=Ay then if k.length=(Iv k).length then some (Iv k) else none else none
def O0 (n:Nat)(l:Ξ):Option (Ξ):=dt n l
def zG (h:O0 n l=some r):EQ 152 [.it 0] [some (.iter ((l).map Bw))] (.msl 1 1 0 r.length) [none,oI r] false:=by
 unfold O0 dt at h;refine ot Tryz.func152 λB N=>?_
 revert r;apply gO;exact ce zK2 [0] [some (.iter ((l).map Bw))] λk=>gn λq=>jc (em (zI k (n:=k.length) (Eq.refl k.length) q) [1] [none,oI k]) (gn λo=>lF λp=>el AC [2] [0,1] p [] H0 [.msl 1 1 0 k.length] (AN.mslN o))
def va (n:Nat)(E:List Ξ)(R:Ω)(start:Int):Option (Ξ×Int):= (OG n E ([R]:List Ω)).bind λk=> bif (k != 0) then some (([]:Ξ),k) else bif (decide (start<0)) then some (([]:Ξ),1) else bif (decide (start>=(E.length:Int))) then some (([]:Ξ),1) else if 0<=start/\ start<(R.length:Int) then bif (!(R.getD start.toNat false)) then some (([]:Ξ),1) else (HT n E start R).bind λG=> (O0 n G).bind λy3=> some (y3,0) else none
def TY (n:Nat)(E:List Ξ)(R:Ω)(start:Int):Option (Ξ×Int):=va n E R start
variable {R:Ω}{E:List Ξ}
def zK0 {start:Int}{r:Ξ×Int}(h:TY n E R start=some r):EQ 138 [.sl 1 E.length (AK AP E),.bools R,.i start] [] (.tup 2 (L1 [.ints r.1,.i r.2])) [] true:=by
 refine ot Tryz.func138 λB N=>?_
 revert r;apply gO;exact ja 10 0 1 (El (c:=cc) (L:=([R]:List Ω)) (vals:=[.bools R]) rfl ⟨⟨_,rfl,⟨Aw,trivial⟩⟩,trivial⟩) (jz 10 0 (jg (Eq.refl 1) (cf uN [none] λk=>bi 13 (lF λp=>el AC [6,7] [] p [] H0 [.nils,.i k] (AN.tupL (l:=[.nils,.i k]) (l':=[.ints ([]:Ξ),.i k]) rfl ⟨AN.ints_nil,Aw,trivial⟩)) (bi 16 (lF λp=>el AC [6,7] [] p [] H0 [.nils,.i 1] (AN.tupL (l:=[.nils,.i 1]) (l':=[.ints ([]:Ξ),.i 1]) rfl ⟨AN.ints_nil,Aw,trivial⟩)) (bi 21 (lF λp=>el AC [6,7] [] p [] H0 [.nils,.i 1] (AN.tupL (l:=[.nils,.i 1]) (l':=[.ints ([]:Ξ),.i 1]) rfl ⟨AN.ints_nil,Aw,trivial⟩)) (gi (bi 28 (lF λp=>el AC [6,7] [] p [] H0 [.nils,.i 1] (AN.tupL (l:=[.nils,.i 1]) (l':=[.ints ([]:Ξ),.i 1]) rfl ⟨AN.ints_nil,Aw,trivial⟩)) (cn λG j=>jc (fL j [none]) (ce zG [1] [none,some (.iter ((G).map Bw))] λy3=>lF λp=>ez AC [6,7] [2] p [0] (H0.g (Eq.refl y3.length)))))))))))
def nk:ST:=.rd 0 (.rd 1 (.ef 2 (.ef 3 (.fin [] [4,5]) (.no)) (.no)))
def zAx:B3 (BA Tryz.f141 11) [2] nk:=by unfold B3;kernel_rfl
def ND:Be:=λi=>match i with
 | 11=>.tre [2] nk
 | _=>.no
def zHi (E:List Ξ)(p:Int)(k o1:Ξ):DH:=[oC [.msl 3 1 0 E.length],oC [.i (p+1)],some (.iter ((k).map Bw)),oI o1]
def nI (E:List Ξ)(o1:Ξ)(p:Int):St:=⟨(AF 42 [(4,.ref 0 0),(5,.ref 2 0)]),([oC [.msl 1 1 0 E.length],oI o1,oC [.i p]]:DH)⟩
inductive Na where
 | s0 (Kx:Ξ)
def qo (E:List Ξ)(AL:Ω)(x13 p:Int):Na -> DH
 | .s0 F=>[oC [.msl 3 1 0 E.length],oC [.i (p+1)],none,oI F]
def ZV (n:Nat)(E:List Ξ)(AL:Ω)(x13 p h:Int)(F:Ξ):Option Na:= if (0<=h/\ h<(E.length:Int))/\ 0+h.toNat<F.length then some (.s0 (F.set (0+h.toNat) (p+1))) else none
def qn (n:Nat)(E:List Ξ)(R:Ω)(x13 p h:Int):Na -> Option Na
 | .s0 F=>ZV n E R x13 p h F
def VW (n:Nat)(E:List Ξ)(R:Ω)(x13 p h:Int)(s:Na):Option Na:=qn n E R x13 p h s
def zDh (n:Nat)(E:List Ξ)(R:Ω)(x13 a:Int)(l B:Nat)(N:Yd 3)(b:Int)(s:Na)(r:Na)(h:VW n E R x13 a b s=some r):TA l B N (C1 3 [] 0 (qo E R x13 a r)) Tryz.f141 33 ⟨AF 42 [(0,.sl 1 E.length (AK AP E)),(1,.bools R),(4,.ref 0 0),(5,.ref 1 0),(12,.i (E.length:Int)),(13,.i x13),(33,.it 2),(34,.i b)],qo E R x13 a s⟩:=by
 cases s with
 | s0 F=>
  replace h:ZV n E R x13 a b F=some r:=h;unfold ZV at h;refine ag ND [0,1,2,3] H0 (AF 42 [(4,.ref 0 0),(5,.ref 1 0),(7,.i b)]) [oC [.msl 3 1 0 E.length],oC [.i (a+1)],none,oI F] λN=>?_
  revert r;apply gO;exact gc (gi (gi (lF λp=>rr ND [0,1,2,3] rfl p)))
inductive ZW where
 | l1 (x13:Int) (o1:Ξ) (Cn:Int)
def VV (n:Nat)(self:ZW -> Option (Ξ×Int))(E:List Ξ)(R:Ω)(x13:Int)(o1:Ξ)(p:Int):Option (Ξ×Int):=
 bif (decide (x13<(E.length:Int))) then
  if 0<=x13/\ x13<(R.length:Int) then
   bif (!(R.getD x13.toNat false)) then
    if AG (x13+1) then
     self (.l1 (x13+1) o1 p)
    else none
   else
    if (0<=x13/\ x13<(E.length:Int))/\ 0+x13.toNat<o1.length then
     bif (decide ((o1.getD (0+x13.toNat) 0)>0)) then
      if AG (x13+1) then
       self (.l1 (x13+1) o1 p)
      else none
     else
      if AG (p+1) then
       (HT n E x13 R).bind λk=>
        (CO (VW n E R x13 p) k (.s0 o1)).bind λG=>
         match G with
         | .s0 x=>
          if AG (x13+1) then
           self (.l1 (x13+1) x (p+1))
          else none
      else none
    else none
  else none
 else
  if E.length=o1.length then
   some (o1,p)
  else none
def qm (n:Nat)(self:ZW -> Option (Ξ×Int))(E:List Ξ)(AL:Ω):Option (Ξ×Int):= if ((E.length:Int):Int)=(E.length:Int)/\ 0<=(E.length:Int)/\ ((E.length:Int):Int)<=1000000000000 then self (.l1 0 (List.replicate E.length (0:Int)) 0) else none
def SB (E:List Ξ)(R:Ω):Nat -> ZW -> Option (Ξ×Int)
 | 0,_=>none
 | n+1,.l1 x13 o1 p=>VV n (SB E R n) E R x13 o1 p
def parts (n:Nat)(E:List Ξ)(R:Ω):Option (Ξ×Int):=qm n (SB E R n) E R
def zDi (n B:Nat)(N:Yd 0)(E:List Ξ)(R:Ω)(r:Ξ×Int):ZW -> Prop
 | .l1 x13 o1 p=>∀ f:Nat,n<=f -> TW B N (FQ Tryz.f141 0 (.tup 2 (L1 [.ints r.1,.i r.2])) []) (Ah f (An (AR Tryz.f141) 0 [])) ⟨AF 42 [(0,.sl 1 E.length (AK AP E)),(1,.bools R),(4,.ref 0 0),(5,.ref 2 0),(12,.i (E.length:Int)),(13,.i x13)],[oC [.msl 1 1 0 E.length],oI o1,oC [.i p]]⟩
def zDj (B:Nat)(N:Yd 0)(E:List Ξ)(R:Ω):Al (SB E R) (zDi · B N E R):=ia (λ_=>rfl) λn C b r h=>by
 cases b
 case l1 x13 o1 Cn=>
  intro f a;refine rd a λf a=>?_
  revert r;apply gO
  exact bi 14 (gi (bi 20 (gw 39 (lG ND [0,1,2] (C _ _ · f a))) (gc (gi (gi (bi 26 (gw 39 (lG ND [0,1,2] (C _ _ · f a))) (gw 29 (jt (cn λk s=>jc (fL s [oC [.msl 1 1 0 E.length],oI o1,oC [.i (Cn+1)]]) (cn λG j=>λp r h=>by
   refine gs ND [0,2,3,1] p (HE (AR Tryz.f141) 33 [f]) (AF 42 [(0,.sl 1 E.length (AK AP E)),(1,.bools R),(4,.ref 0 0),(5,.ref 1 0),(12,.i (E.length:Int)),(13,.i x13),(33,.it 2)]) (zHi E Cn k o1) ?_;refine r0 2 33 #[34] Bw 3 j (zDh n E R x13 Cn) ?_;cases G with
   | s0 Es=>
    dsimp only at h
    revert r;apply gO;exact gw 39 (lG ND [0,3,1] (C _ _ · f a)))))))))))) (jg zAx (jt (jt (jg (Eq.refl (nI E o1 Cn)) (gn λq=>lF λp=>ez (tg:=[([(2,0)],(nI E o1 Cn))]) ND [4,5] [0,1,2] p [1] (H0.g q))))))
def zDf {r:Ξ×Int}(h:parts n E R=some r):EQ 141 [.sl 1 E.length (AK AP E),.bools R] [] (.tup 2 (L1 [.ints r.1,.i r.2])) [] true:=by
 refine ot Tryz.func141 λB N=>?_
 revert r;apply gO;exact gi (jt (lN ND [0,2,1] ((zDj B N E R n) _ _ · n Nat.le.refl)))
end
section
set_option maxRecDepth 100000
set_option maxHeartbeats 40000000
def dN (n:Nat)(N:Int)(inn:Ω):Option (Ω):= (Qg n inn).bind λk=> if (0<=N/\ N<(k.length:Int))/\ 0+N.toNat<k.length then if k.length=(k.set (0+N.toNat) false).length then some (k.set (0+N.toNat) false) else none else none
def T7 (n:Nat)(N:Int)(inn:Ω):Option (Ω):=dN n N inn
variable {n:Nat}
def xe {a:Int}{inn:Ω}{r:Ω}(h:T7 n a inn=some r):EQ 140 [.i a,.fp 1 (L1 [.bools inn])] [] (.msl 0 1 0 r.length) [some (.bools r)] true:=by
 unfold T7 dN at h;refine ot Tryz.func140 λB N=>?_
 revert r;apply gO;exact cn λk s=>jc (ES.snapNew (ds:=[.bools inn]) (vh s) [] (lq (by kernel_rfl)) rfl) (gc (gi (gi (gn λb=>lF λp=>el AC [3] [0] p [] H0 [.msl 0 1 0 k.length] (AN.mslN b)))))
def zAc:Ax (BA Tryz.f131 16) [] (List.range 7) []:=by unfold Ax;kernel_rfl
def II:Be:=λi=>match i with
 | 16=>.ord [] (List.range 7) []
 | _=>.no
def tG (R K:Ω)(E:Int):DH:=[oC [.bools R],oC [.bools K],oC [.i E],oC [.bool false],none]
def zG4 (R K:Ω)(E:Int):DH:=[oC [.bools R],oC [.bools K],oC [.i E],oC [.bool false],none,none]
def zG3 (R K:Ω)(E:Int)(y3:Ξ×Int):DH:=[oC [.bools R],oC [.bools K],oC [.i E],oC [.bool false],none,none,oC [.ints y3.1],oC [.i 0]]
def zG2 (K:Ω)(E:Int)(y3:Ξ×Int)(q:Ξ):DH:=[oC [.bools K],oC [.i E],oC [.bool false],oC [.ints y3.1],oC [.i 0],some (.iter ((q).map Bw))]
def zG1 (K:Ω)(E:Int)(H:Bool)(y3:Ξ×Int)(R:Int):DH:=[oC [.bools K],oC [.i E],oC [.bool H],oC [.ints y3.1],oC [.i R],none]
inductive M9 where
 | s0 (IN:Bool) (HV:Int)
def oJ (K:Ω)(E:Int)(y3:Ξ×Int):M9 -> DH
 | .s0 H R=>[oC [.bools K],oC [.i E],oC [.bool H],oC [.ints y3.1],oC [.i R],none]
def UQ (n:Nat)(K:Ω)(E:Int)(y3:Ξ×Int)(G:Int)(H:Bool)(R:Int):Option (M9×Nat):= bif (G==E) then some (.s0 H R,0) else if 0<=G/\ G<(K.length:Int) then bif (!(K.getD G.toNat false)) then some (.s0 H R,0) else bif (R==0) then if 0<=G/\ G<(y3.1.length:Int) then some (.s0 H (y3.1.getD G.toNat 0),0) else none else if 0<=G/\ G<(y3.1.length:Int) then bif ((y3.1.getD G.toNat 0) != R) then some (.s0 true R,1) else some (.s0 H R,0) else none else none
def zD (n:Nat)(K:Ω)(E:Int)(y3:Ξ×Int)(G:Int):M9 -> Option (M9×Nat)
 | .s0 H R=>UQ n K E y3 G H R
def Iu (n:Nat)(K:Ω)(E:Int)(y3:Ξ×Int)(G:Int)(s:M9):Option (M9×Nat):=zD n K E y3 G s
def zC (n:Nat)(K:Ω)(E:Int)(y3:Ξ×Int)(l B:Nat)(N:Yd 6)(G:Int)(s:M9)(r:M9×Nat)(h:Iu n K E y3 G s=some r):TA l B N (C1 6 [.exit 0] r.2 (oJ K E y3 r.1)) Tryz.f131 48 ⟨AF 76 [(6,.ref 0 0),(7,.ref 1 0),(8,.ref 2 0),(11,.ref 3 0),(13,.ref 4 0),(48,.it 5),(49,.i G)],oJ K E y3 s⟩:=by
 cases s with
 | s0 H R=>
  refine ag II [0,1,2,3,4,5] H0 (AF 76 [(6,.ref 0 0),(7,.ref 1 0),(8,.ref 2 0),(11,.ref 3 0),(13,.ref 4 0),(14,.i G)]) (zG1 K E H y3 R) λN=>?_
  revert r;apply gO;exact bi 53 (lF λp=>rr II [0,1,2,3,4,5] rfl p) (gi (bi 59 (lF λp=>rr II [0,1,2,3,4,5] rfl p) (bi 63 (gi (jt (lF λp=>rr II [0,1,2,3,4,5] rfl p))) (jg zAc (gi (bi 74 (jt (lF λp=>rr II [0,1,2,3,4,5] rfl p)) (lF λp=>rr II [0,1,2,3,4,5] rfl p)))))))
def oH (n:Nat)(a:List Ξ)(R K:Ω)(E:Int):Option (Bool×Int):=
 (OG n a ([R,K]:List Ω)).bind λk=>
  bif (k != 0) then
   some (false,k)
  else
   bif (decide (E<0)) then
    some (false,1)
   else
    bif (decide (E>=(a.length:Int))) then
     some (false,1)
    else
     if 0<=E/\ E<(R.length:Int) then
      bif (!(R.getD E.toNat false)) then
       some (false,0)
      else
       (T7 n E R).bind λG=>
        (parts n a G).bind λy3=>
         (HT n a E R).bind λq=>
          (Cj (Iu n K E y3) q (.s0 false 0)).bind λb=>
           bif b.2==0 then
            match b.1 with
            | .s0 c d=>
             some (c,0)
           else
            bif b.2==1 then
             match b.1 with
             | .s0 c d=>
              some (c,0)
            else
             none
     else none
def Oy (n:Nat)(E:List Ξ)(R K:Ω)(a:Int):Option (Bool×Int):=oH n E R K a
def zA {a:List Ξ}{R K:Ω}{E:Int}{r:Bool×Int}(h:Oy n a R K E=some r):EQ 131 [.sl 1 a.length (AK AP a),.bools R,.bools K,.i E] [] (.tup 2 (L1 [.bool r.1,.i r.2])) [] true:=by
 refine ot Tryz.func131 λB N=>?_
 revert r;apply gO
 exact ja 18 4 1 (El (c:=cc) (L:=([R,K]:List Ω)) (vals:=[.bools R,.bools K]) rfl ⟨⟨_,rfl,⟨Aw,trivial⟩⟩,⟨_,rfl,⟨Aw,trivial⟩⟩,trivial⟩) (jz 18 4 (jg (Eq.refl 2) (cf uN (tG R K E) λ_=>bi 21 (jt (lE II [8,9] [3])) (bi 24 (jt (lE II [8,9] [3])) (bi 29 (jt (lE II [8,9] [3])) (gi (bi 35 (jt (lE II [8,9] [3])) (cn λG j=>jc (ES.snapNew (ds:=[.i E,.ref 0 0]) (xe j) (tG R K E) ⟨Az.plain (by kernel_rfl),(Az.refL (l:=[.bools R]) (l0:=[.bools R]) rfl ⟨Az.plain (by kernel_rfl),trivial⟩),trivial⟩ rfl) (jz 41 5 (jg (Eq.refl G.length) (cf zDf (zG4 R K E) λy3=>jt (jt (cn λq d=>jc (fL d (zG3 R K E y3)) (cn λb f=>λp r h=>by
  refine gs II [1,2,3,6,7,8] p (HE (AR Tryz.f131) 48 []) (AF 76 [(6,.ref 0 0),(7,.ref 1 0),(8,.ref 2 0),(11,.ref 3 0),(13,.ref 4 0),(48,.it 5)]) (zG2 K E y3 q) ?_;refine rx [.exit 0] 5 48 #[49] Bw 6 f (zC n K E y3) λe J=>?_
  replace h:=DQ h;rcases h with ⟨S,h⟩ | ⟨S,h⟩
  ·rw [zI4 S] at J;cases J;revert h;cases b.1 with
   | s0 g k=>
    intro h
    dsimp only at h
    revert r;apply gO;exact jt (lE II [8,9] [2])
  ·replace h:=DQ h;rcases h with ⟨S,h⟩ | ⟨S,h⟩
   ·rw [zI4 S] at J;cases J;refine BF.exitTo (by kernel_rfl) ?_;revert h;cases b.1 with
    | s0 g k=>
     intro h
     dsimp only at h
     revert r;apply gO;exact jt (lE II [8,9] [2])
   ·cases h))))))))))))))
end
abbrev zIs:=@List.append_nil
def At.bindU {R T:Type}{a:Nat -> Option T}{b:Nat -> T -> Option R}{A:T -> Prop}{Q:R -> Prop}(D:At a A)(c: ∃ M,∀ n,M<=n -> ∀ x,A x -> ∃ r,b n x=some r/\ Q r):At (λn=>(a n).bind (b n)) Q:=by
 obtain ⟨N,D⟩:=D;obtain ⟨M,c⟩:=c;refine ⟨max N M,λn hn=>?_⟩;obtain ⟨x,h1,d⟩:=D n (by omega);obtain ⟨r,h3,h4⟩:=c n (by omega) x d
 grind
structure H9 (g:List Ξ):Prop where
 ok:JR g=true
 row: ∀ r∈g,r.length<=LB
def H9.gr {g:List Ξ}(h:H9 g):Gr g:=Gr.of h.ok h.row
section
variable {g:List Ξ} {inn some':Ω} {s:Int}
variable {d:List Ω}
def uO (j: ∀ x∈d,x.length=g.length)(m:d.length<=256): ∀ (k i n:Nat),i+k=d.length -> k+1<=n -> S8 g d n (.l1 (i:Int))=some 0
 | 0,i,n,e,u=>by
  obtain ⟨n,rfl⟩: ∃ k,n=k+1:=⟨n-1,by omega⟩
  simp_all [bP,S8]
 | k+1,i,n,e,u=>by
  obtain ⟨n,rfl⟩: ∃ k,n=k+1:=⟨n-1,by omega⟩;have hi:i<d.length:=by omega
  have v:d.getD i []∈d:=by grind
  have z:(((d.getD i []).length:Int) != (g.length:Int))=false:=by rw [j _ v];simp
  have:=uO j m k (i+1) n (by omega) (by omega)
  show bP n (S8 g d n) g d i=_
  unfold bP;rw [zEE (by omega),zFR,zEZ ⟨by omega,by omega⟩,zCg,z,zGF,zEZ (Aj.2 ⟨by omega,by omega⟩)];exact this
def uQ (G:H9 g)(j: ∀ x∈d,x.length=g.length)(m:d.length<=256):Ev (λn=>OG n g d) 0:=by
 refine ⟨2*Fl g+1+d.length+1,λn hn=>?_⟩
 show OG n g d=some 0
 unfold OG uP;rw [ub G.row (by omega),G.ok];exact uO j m d.length 0 n (by omega) (by omega)
variable {n:Nat}
def wg : ∀ (l x:Ξ),(x++l).length<=Ay -> CO (Mm n) l (.s1 x.length x)=some (.s1 (x++l).length (x++l))
 | [],x,h=>by rw [zIs];rfl
 | a::l,x,h=>by
  have e:x++a::l=x++[a]++l:=by simp
  rw [e] at h ⊢;have h2:x.length+1<=Ay:=by grind
  have w:Mm n a (.s1 x.length x)=some (.s1 (x++[a]).length (x++[a])):=by
   unfold Mm li cq
   grind
  show (Mm n a (.s1 x.length x)).bind (CO (Mm n) l)=_
  rw [w,zEb];exact wg l (x++[a]) h
variable {l:Ξ}
def zH (h0:l≠[])(hl:l.length<=256):O0 n l=some (Iv l):=by
 have L:(1000000000000:Nat)=Ay:=rfl;cases l with
 | nil=>exact absurd rfl h0
 | cons a l=>
  have e1:Mm n a .s0=some (.s1 [a].length [a]):=by
   unfold Mm li cr
   grind
  have e2:=wg (n:=n) l [a] (by grind)
  have P:XZ n (a::l)=some (a::l):=by
   simp_all [XZ,lh,CO]
  unfold O0 dt cP kr;rw [P,zEb,zEb,zEZ (by rw [←L];omega),zEZ (UR _).symm]
def zCu (h: ∀ v,v∈l↔Rc g inn s v):l≠[]:=λe=>by
 have:=(h s).2 .start;rw [e] at this;cases this
def zCv (G:Gr g)(h0:0<=s)(a:s<(g.length:Int))(u:l.Nodup)(h: ∀ v,v∈l↔Rc g inn s v):l.length<=256:=
 zGK (SJ g.length l u λx e=>((h x).1 e).rng G h0 a) G.len
def zK1 (G:H9 g)(u:inn.length=g.length)(h0:0<=s)(b:s<(g.length:Int))(hs:inn.getD s.toNat false=true):
 At (λn=>TY n g inn s) (λr=>r.2=0/\ r.1.length<=256/\ ∀ v,v∈r.1↔Rc g inn s v):=by
 have e: ∀ n,TY n g inn s=(OG n g [inn]).bind λk=>bif (k != 0) then some (([]:Ξ),k) else (HT n g s inn).bind λa=>(O0 n a).bind λy3=>some (y3,0):=λn=>by
  simp_all [TY,va,zFd]
 refine At.eq ?_ e;refine At.bind (uQ G (λx c=>by rw [zGh.1 c];exact u) (by simp)) ?_
 show At (λn=>(HT n g s inn).bind λa=>(O0 n a).bind λy3=>some (y3,0)) _
 refine At.bindU (fK G.gr u h0 b) ⟨0,λn _ l m=>?_⟩;have N:=zCv G.gr h0 b m.1 m.2;rw [zH (zCu m.2) N,zEb];exact ⟨_,rfl,rfl,by rw [UR];exact N,λv=>by grind [YF]⟩
structure Pt (g:List Ξ)(inn:Ω)(i:Nat)(part:Ξ)(FJ:Int):Prop where
 len:part.length=g.length
 m0:0<=FJ
 m1:FJ<=(i:Int)
 lo: ∀ v,v<g.length -> 0<=part.getD v 0/\ part.getD v 0<=FJ
 isIn: ∀ v,v<g.length -> 0<part.getD v 0 -> inn.getD v false=true
 same: ∀ u v:Nat,u<g.length -> v<g.length -> 0<part.getD u 0 -> Rc g inn u v -> part.getD v 0=part.getD u 0
 con: ∀ u v:Nat,u<g.length -> v<g.length -> 0<part.getD u 0 -> part.getD v 0=part.getD u 0 -> Rc g inn u v
 all: ∀ v,v<i -> v<g.length -> inn.getD v false=true -> 0<part.getD v 0
 sur: ∀ m,0<m -> m<=FJ -> ∃ v,v<g.length/\ part.getD v 0=m
def qp {n:Nat}{x13 m:Int}: ∀ (l:Ξ) (part:Ξ),part.length=g.length -> (∀ v∈l,0<=v/\ v<(g.length:Int)) ->
 ∃ i,CO (VW n g inn x13 m) l (.s0 part)=some (.s0 i)/\ i.length=g.length/\ ∀ v:Nat,i.getD v 0=if (v:Int)∈l/\ v<g.length then m+1 else part.getD v 0
 | [],part,b,_=>⟨part,rfl,b,λv=>by simp⟩
 | a::l,part,b,c=>by
  have ha:=c a zIL
  have e1:VW n g inn x13 m a (.s0 part)=some (.s0 (part.set a.toNat (m+1))):=by
   simp_all [VW,qn,ZV]
  obtain ⟨i,h1,d,h⟩:=qp (n:=n) (x13:=x13) (m:=m) l (part.set a.toNat (m+1)) (by rw [zGZ];exact b) λv p=>c v (zH5 _ p)
  refine ⟨i,?_,d,λv=>?_⟩
  ·grind [CO]
  ·rw [h]
   grind
def Pt.go (G:Gr g){i:Nat}{part d:Ξ}{j:Int}(h:Pt g inn i part j)(hi:i<g.length)(D:inn.getD i false=true)(h0: ¬ part.getD i 0>0)(o: ∀ v,v∈l↔Rc g inn i v)(N:d.length=g.length) 
 (r: ∀ v:Nat,d.getD v 0=if (v:Int)∈l/\ v<g.length then j+1 else part.getD v 0):Pt g inn (i+1) d (j+1):=by
 have m0:=h.m0;have m1:=h.m1;have F: ∀ v:Nat,v<g.length -> Rc g inn i v -> d.getD v 0=j+1:=λv p a=>by rw [r,zEZ ⟨(o v).2 a,p⟩]
 have f: ∀ v:Nat,¬ Rc g inn i v -> d.getD v 0=part.getD v 0:=λv a=>by grind
 have sym: ∀ u v:Nat,u<g.length -> inn.getD u false=true -> Rc g inn u v -> Rc g inn v u:=λu v q k a=>a.symm G (by omega) (by omega) (by rw [zCg];exact k)
 refine ⟨N,by omega,by omega,λv p=>?_,λv p X=>?_,λu v q p X a=>?_,λu v q p X J=>?_,λv p n s=>?_,λm b c=>?_⟩
 ·have:=h.lo v p
  grind
 ·by_cases a:Rc g inn i v
  ·have:=a.isIn (by rw [zCg];exact D)
   rwa [zCg] at this
  ·rw [f v a] at X;exact h.isIn v p X
 ·by_cases b:Rc g inn i u
  ·rw [F u q b,F v p (b.trans a)]
  ·rw [f u b] at X ⊢;have c: ¬ Rc g inn i v:=λc=>b (c.trans (sym u v q (h.isIn u q X) a))
   rw [f v c];exact h.same u v q p X a
 ·have t:=(h.lo v p).2
  by_cases b:Rc g inn i u
  ·rw [F u q b] at J
   by_cases c:Rc g inn i v
   ·exact (sym i u hi D b).trans c
   ·rw [f v c] at J;omega
  ·rw [f u b] at X J;have t:=(h.lo u q).2
   by_cases c:Rc g inn i v
   ·rw [F v p c] at J;omega
   ·rw [f v c] at J;exact h.con u v q p X J
 ·rcases zGW.1 p with p | rfl
  ·have:=h.all v p n s
   grind
  ·rw [F v n .start];omega
 ·by_cases e:m=j+1
  ·exact ⟨i,hi,by rw [F i hi .start,e]⟩
  ·obtain ⟨v,p,L⟩:=h.sur m b (by omega);refine ⟨v,p,?_⟩;rw [f v λa=>h0 ?_,L];have:=h.same v i p hi (by omega) (sym i v hi D a);omega
def PtP (g:List Ξ)(inn:Ω)(r:Ξ×Int):Prop:=r.1.length=g.length/\ (∀ v,v<g.length -> inn.getD v false=true -> 0<r.1.getD v 0)/\ ∀ u v:Nat,u<g.length -> v<g.length -> inn.getD u false=true -> (r.1.getD v 0=r.1.getD u 0↔Rc g inn u v)
def zDe (G:Gr g)(o:inn.length=g.length):At (λn=>parts n g inn) (λr=>Pt g inn g.length r.1 r.2):=by
 have hG:=G.len;obtain ⟨N,X⟩:=At.range (F:=λ(i:Nat) n=>HT n g i inn) (A:=λi l=>l.Nodup/\ ∀ v,v∈l↔Rc g inn i v) g.length λi hi=>fK G o (by omega) (by omega)
 have X: ∀ n,N<=n -> ∀ i:Nat,i<g.length -> ∃ l,HT n g i inn=some l/\ l.Nodup/\ ∀ v,v∈l↔Rc g inn i v:=X;refine ⟨N+g.length+1,λn hn=>?_⟩;have S:=IU (λn (s:Ξ×Int) i=>SB g inn n (.l1 i s.1 s.2)) g.length (N+1) (λi s=>Pt g inn i s.1 s.2) (λn i s GJ hi a=>?_) (n:=n) (s:=(List.replicate g.length 0,0)) (by omega) ?_
 ·obtain ⟨q,⟨part,b⟩,Hh,_,w,a⟩:=S;obtain ⟨f,rfl⟩: ∃ f,q=f+1:=⟨q-1,by omega⟩;refine ⟨(part,b),?_,a⟩
  show parts n g inn=some (part,b)
  unfold parts qm;rw [zEZ ⟨rfl,by omega,by omega⟩];refine Eq.trans w ?_
  show VV f (SB g inn f) g inn (g.length:Int) part b=_
  unfold VV;rw [zFd (by omega),zGF,zEZ a.len.symm]
 ·obtain ⟨part,b⟩:=s;have a:Pt g inn i part b:=a;have c:AG ((i:Int)+1):=Aj.2 ⟨by omega,by omega⟩
  show ∃ s',VV n (SB g inn n) g inn (i:Int) part b=_/\ _
  unfold VV;simp only [zCg,zGw];rw [zEE (by omega),zFR,zEZ ⟨by omega,by omega⟩];cases D:inn.getD i false
  ·rw [zIx,zFR,zEZ c];have V:=a.m1;refine ⟨(part,b),rfl,a.len,a.m0,by grind,a.lo,a.isIn,a.same,a.con,λv p d k=>?_,a.sur⟩;rcases zGW.1 p with p | rfl
   ·exact a.all v p d k
   ·rw [D] at k;cases k
  ·have Am:=a.len;rw [zIA,zGF,zEZ ⟨⟨by omega,by omega⟩,by omega⟩]
   by_cases h0:part.getD i 0>0
   ·rw [zEE h0,zFR,zEZ c];have V:=a.m1;refine ⟨(part,b),rfl,a.len,a.m0,by grind,a.lo,a.isIn,a.same,a.con,λv p d k=>?_,a.sur⟩;rcases zGW.1 p with p | rfl
    ·exact a.all v p d k
    ·exact h0
   ·obtain ⟨l,t,BB,e⟩:=X n (by omega) i hi;obtain ⟨x,P,y,B⟩:=qp (n:=n) (inn:=inn) (x13:=(i:Int)) (m:=b) l part a.len λv p=>((e v).1 p).rng G (by omega) (by omega)
    have m0:=a.m0;have V:=a.m1;rw [zFd h0,zGF,zEZ (Aj.2 ⟨by omega,by omega⟩),t,zEb,P,zEb]
    dsimp only
    rw [zEZ c];exact ⟨(x,b+1),rfl,a.go G hi D h0 e y B⟩
 ·have z: ∀ v:Nat,(List.replicate g.length (0:Int)).getD v 0=0:=λv=>by
   grind
  exact ⟨by simp,zGl _,zGl _,λv _=>by grind,λv _ h=>by rw [z] at h;omega,λu v _ _ h=>by rw [z] at h;omega,λu v _ _ h=>by rw [z] at h;omega,λv p=>absurd p (zGR v),λm h1 j=>by have j:m<=0:=j;omega⟩
def zDg (G:Gr g)(a:inn.length=g.length):At (λn=>parts n g inn) (PtP g inn):=(zDe G a).mono λr F=>⟨F.len,λv p hi=>F.all v p p hi,λu v q p hi=>by
 have E:=F.all u q q hi;exact ⟨F.con u v q p E,F.same u v q p E⟩⟩
def Sp (g:List Ξ)(inn some':Ω)(a:Int):Prop:=∃ u v:Int,u≠a/\ v≠a/\ some'.getD u.toNat false=true/\ some'.getD v.toNat false=true/\ Rc g inn a u/\ Rc g inn a v/\ ¬ Rc g (inn.set a.toNat false) u v
variable {y3:Ξ×Int}
def oM {n:Nat}{a f:Int}(h:some'.length=g.length)(hy:y3.1.length=g.length)(M:f≠0): ∀ (l:Ξ),(∀ v∈l,0<=v/\ v<(g.length:Int)) ->
 ∃ b W c,Cj (Iu n some' a y3) l (.s0 false f)=some (.s0 b W,c)/\ (c=0∨c=1)/\ (b=true↔∃ v∈l,v≠a/\ some'.getD v.toNat false=true/\ y3.1.getD v.toNat 0≠f)
 | [],_=>⟨false,f,0,rfl,.inl rfl,by simp⟩
 | x::l,m=>by
  have hx:=m x zIL;obtain ⟨b,W,c,h1,d,h3⟩:=oM (n:=n) (a:=a) h hy M l λv p=>m v (zH5 _ p)
  have skip:Iu n some' a y3 x (.s0 false f)=some (.s0 false f,0) -> ¬ (x≠a/\ some'.getD x.toNat false=true/\ y3.1.getD x.toNat 0≠f) -> ∃ b W c,Cj (Iu n some' a y3) (x::l) (.s0 false f)=some (.s0 b W,c)/\ (c=0∨c=1)/\ (b=true↔∃ v∈x::l,v≠a/\ some'.getD v.toNat false=true/\ y3.1.getD v.toNat 0≠f):=by
   intro e hn;refine ⟨b,W,c,?_,d,?_⟩
   ·grind [Cj]
   grind
  have y:(f==0)=false:=zH4.2 M;have U:Iu n some' a y3 x (.s0 false f)=UQ n some' a y3 x false f:=rfl;unfold UQ at U
  by_cases w:x=a
  ·grind
  ·have:(x==a)=false:=zH4.2 w;rw [this,zGF,zEZ ⟨by omega,by omega⟩] at U;cases z:some'.getD x.toNat false
   ·grind
   ·rw [z,zIA,zGF,y,zGF,zEZ ⟨by omega,by omega⟩] at U
    by_cases P:y3.1.getD x.toNat 0=f
    ·grind
    ·have A:(y3.1.getD x.toNat 0 != f)=true:=by simpa using P
     rw [A,zFR] at U;refine ⟨true,f,1,?_,.inr rfl,?_⟩
     ·grind [Cj]
     grind
def oN {n:Nat}{a:Int}(h:some'.length=g.length)(hy:y3.1.length=g.length): ∀ (l:Ξ),(∀ v∈l,0<=v/\ v<(g.length:Int)) -> (∀ v∈l,v≠a -> y3.1.getD v.toNat 0≠0) ->
 ∃ b W c,Cj (Iu n some' a y3) l (.s0 false 0)=some (.s0 b W,c)/\ (c=0∨c=1)/\ (b=true↔∃ u∈l,∃ v∈l,u≠a/\ v≠a/\ some'.getD u.toNat false=true/\ some'.getD v.toNat false=true/\ y3.1.getD v.toNat 0≠y3.1.getD u.toNat 0)
 | [],_,_=>⟨false,0,0,rfl,.inl rfl,by simp⟩
 | x::l,m,f=>by
  have hx:=m x zIL;have i: ∀ v∈l,0<=v/\ v<(g.length:Int):=λv p=>m v (zH5 _ p)
  have skip:Iu n some' a y3 x (.s0 false 0)=some (.s0 false 0,0) -> ¬ (x≠a/\ some'.getD x.toNat false=true) -> ∃ b W c,Cj (Iu n some' a y3) (x::l) (.s0 false 0)=some (.s0 b W,c)/\ (c=0∨c=1)/\ (b=true↔∃ u∈x::l,∃ v∈x::l,u≠a/\ v≠a/\ some'.getD u.toNat false=true/\ some'.getD v.toNat false=true/\ y3.1.getD v.toNat 0≠y3.1.getD u.toNat 0):=by
   intro e hn;obtain ⟨b,W,c,j,d,k⟩:=oN (n:=n) (a:=a) h hy l i λv p=>f v (zH5 _ p)
   refine ⟨b,W,c,?_,d,?_⟩
   ·grind [Cj]
   grind
  have U:Iu n some' a y3 x (.s0 false 0)=UQ n some' a y3 x false 0:=rfl;unfold UQ at U
  by_cases w:x=a
  ·grind
  ·have:(x==a)=false:=zH4.2 w;rw [this,zGF,zEZ ⟨by omega,by omega⟩] at U;cases z:some'.getD x.toNat false
   ·grind
   ·have z0:((0:Int)==0)=true:=rfl;rw [z,zIA,zGF,z0,zFR,zEZ ⟨by omega,by omega⟩] at U;obtain ⟨b,W,c,j,d,k⟩:=oM (n:=n) (a:=a) h hy (f x zIL w) l i;refine ⟨b,W,c,?_,d,?_⟩
    ·grind [Cj]
    grind
theorem zB (G:H9 g)(w:inn.length=g.length)(H:some'.length=g.length){a:Nat}(ha:a<g.length)(k:inn.getD a false=true):
 At (λn=>Oy n g inn some' (a:Int)) (λr=>r.2=0/\ (r.1=true↔Sp g inn some' (a:Int))):=by
 have hG:=G.gr.len;have L:(1000000000000:Nat)=Ay:=rfl
 have hw: ∀ n,T7 n (a:Int) inn=some (inn.set a false):=λn=>by
  unfold T7 dN Qg k7;rw [zEZ ⟨by omega,trivial,⟨rfl,rfl⟩,by grind⟩,zEZ (by simp),zEb,zIg,zEZ ⟨⟨by omega,by omega⟩,by omega⟩,zEZ (by simp),zGw,zCg]
 have m:(inn.set a false).length=g.length:=by rw [zGZ];exact w
 have e: ∀ n,Oy n g inn some' (a:Int)=(OG n g [inn,some']).bind λy=>bif (y != 0) then some (false,y) else (parts n g (inn.set a false)).bind λy3=>(HT n g a inn).bind λo=>(Cj (Iu n some' a y3) o (.s0 false 0)).bind λd=>bif d.2==0 then (match d.1 with | .s0 b _=>some (b,0)) else bif d.2==1 then (match d.1 with | .s0 b _=>some (b,0)) else none:=λn=>by
  simp_all [Oy,oH,zFd]
 refine At.eq ?_ e
 refine At.bind (uQ G (λx hx=>by
  grind) (by simp)) ?_
 show At (R:=Bool×Int) (λn=>(parts n g (inn.set a false)).bind λy3=>(HT n g a inn).bind λo=>(Cj (Iu n some' a y3) o (.s0 false 0)).bind λd=>bif d.2==0 then (match d.1 with | .s0 b _=>some (b,0)) else bif d.2==1 then (match d.1 with | .s0 b _=>some (b,0)) else none) _
 obtain ⟨N,X⟩:=fK G.gr w (s:=(a:Int)) (by omega) (by omega);refine At.bindU (zDg G.gr m) ⟨N,λn I y3 hy=>?_⟩;obtain ⟨l,t,BB,f⟩:=X n I;have t:HT n g (a:Int) inn=some l:=t;have i: ∀ v∈l,0<=v/\ v<(g.length:Int):=λv p=>((f v).1 p).rng G.gr (by omega) (by omega)
 have z: ∀ v∈l,v≠(a:Int) -> (inn.set a false).getD v.toNat false=true:=λv p D=>by
  have j:=i v p;rw [zGH,List.getElem?_set_ne (by omega),←zGH];exact ((f v).1 p).isIn (by rw [zCg];exact k)
 obtain ⟨b,f',c,j,B,J⟩:=oN (n:=n) (some':=some') (a:=(a:Int)) (y3:=y3) H hy.1 l i λv p D=>by
  have j:=i v p;have:=hy.2.1 v.toNat (by omega) (z v p D);omega
 rw [t,zEb,j,zEb];refine ⟨(b,0),?_,rfl,?_⟩
 ·rcases B with rfl | rfl <;> rfl
 ·show b=true↔_
  rw [J]
  have key: ∀ u v:Int,u∈l -> v∈l -> u≠a -> (y3.1.getD v.toNat 0=y3.1.getD u.toNat 0↔Rc g (inn.set a false) u v):=λu v q p D=>by
   have j:=i u q;have B:=i v p;have:=hy.2.2 u.toNat v.toNat (by omega) (by omega) (z u q D)
   grind
  constructor
  ·rintro ⟨u,q,v,p,A,C,E,F,U⟩;exact ⟨u,v,A,C,E,F,(f u).1 q,(f v).1 p,λh=>U ((key u v q p A).2 h)⟩
  ·rintro ⟨u,v,A,C,E,F,U,h9,bO⟩
   grind
end
section
def EZ (c:AD)(pos:Ξ)(a:Nat):Bool:=bits .andNot .i64 (Ad c pos a) c.set==0
def Fa (c:AD)(pos:Ξ)(a:Nat):Bool:=EZ c pos a||(bits .and .i64 (Ad c pos a) c.set != 0)
def cnt (p:Nat -> Bool)(i:Nat):Int:=(((List.range i).countP p:Nat):Int)
variable {i:Nat}{p:Nat -> Bool}
def Qf :cnt p (i+1)=cnt p i+(if p i then 1 else 0):=by
 grind [cnt,List.range_succ]
def cR :0<=cnt p i/\ cnt p i<=i:=by
 grind [cnt,List.length_range]
def Mg (c:AD)(pos:Ξ):Bool:=!decide (cnt (EZ c pos) c.cells.length>c.hi)&&!decide (cnt (Fa c pos) c.cells.length<c.lo)
def JU (c:AD)(pos:Ξ)(a s:Nat):Bool:= ((cnt (EZ c pos) c.cells.length==c.hi)&&(bits .andNot .i64 (Ad c pos a) c.set != 0)&&tb c.set s)||((cnt (Fa c pos) c.cells.length==c.lo)&&(bits .and .i64 (Ad c pos a) c.set != 0)&&!tb c.set s)
section
variable {c:AD} {k:Nat} {pos lost:Ξ} {q:AA}
variable {n:Nat}
def zKW {H K:Int}(W:B7 c k pos)(m:lost.length=pos.length)(e:H=cnt (EZ c pos) c.cells.length)(A:K=cnt (Fa c pos) c.cells.length)(hn:c.cells.length+1<=n):
 ∃ l,KU c q pos pos.length lost n (.l2 H K 0 lost)=some (true,l)/\ CL c pos lost c.cells.length (λa s=>JU c pos a s=true) l:=by
 have G: ∀ i,i<c.cells.length -> ((i:Nat):Int)<((c.cells.length:Nat):Int):=λi hi=>by omega
 have T:=IU (λn (s:Ξ) i=>KU c q pos pos.length lost n (.l2 H K i s)) c.cells.length 1
  (λi s=>CL c pos lost i (λa s=>JU c pos a s=true) s) (λn i s GJ hi u=>?_) (n:=n) (s:=lost) (by omega) (CL.zero m)
 ·obtain ⟨t,l,N6,_,z,hL⟩:=T;obtain ⟨d,rfl⟩: ∃ d,t=d+1:=⟨t-1,by omega⟩
  simp_all [cE,KU]
 ·have b:=W.cells i hi;have f:=W.r64 hi
  have key: ∀ l':Ξ,l'.length=pos.length -> (∀ j x,tb (l'.getD j 0) x=(tb (s.getD j 0) x||(decide (j=(c.cells.getD i 0).toNat)&&(tb (pos.getD j 0) x&&JU c pos i x)))) -> CL c pos lost (i+1) (λa s=>JU c pos a s=true) l':=by
   intro l' g o;refine u.step g λj x=>?_
   rw [o,zGq,zEh,zEh,zGM];constructor
   ·rintro (h | ⟨rfl,h⟩)
    ·exact .inl h
    ·exact .inr ⟨rfl,h⟩
   ·rintro (h | ⟨rfl,h⟩)
    ·exact .inl h
    ·exact .inr ⟨rfl,h⟩
  obtain ⟨S,w,p,f1⟩:=MF (lost:=s) (n:=n) (ss:=c.set) (c:=c) (q:=q) b.1 b.2 u.1;obtain ⟨l2,z,n2,f2⟩:=gB (lost:=S) (n:=n) (c:=c) (q:=q) b.1 b.2 p;obtain ⟨l3,P,t,f3⟩:=gB (lost:=s) (n:=n) (c:=c) (q:=q) b.1 b.2 u.1;have C:decide ((i:Int)<((c.cells.length:Nat):Int))=true:=zEE (G i hi);have r:(0:Int)<=(i:Int)/\ (i:Int)<((c.cells.length:Nat):Int):=⟨by omega,G i hi⟩
  show ∃ s',cE n (KU c q pos pos.length lost n) c q pos pos.length lost H K (i:Int) s=_/\ _
  unfold cE;rw [C,zFR,zEZ r];simp only [zCg];have X: ∀ x,JU c pos i x=(((H==c.hi)&&(bits .andNot .i64 (pos.getD (c.cells.getD i 0).toNat 0) c.set != 0)&&tb c.set x)||((K==c.lo)&&(bits .and .i64 (pos.getD (c.cells.getD i 0).toNat 0) c.set != 0)&&!tb c.set x)):=λx=>by rw [e,A];rfl
  cases v:(H==c.hi) <;> cases y:(K==c.lo) <;> cases B:(bits .andNot .i64 (pos.getD (c.cells.getD i 0).toNat 0) c.set != 0) <;> cases D:(bits .and .i64 (pos.getD (c.cells.getD i 0).toNat 0) c.set != 0) <;>
   simp only [v,B,y,D,zIy,zNk,zM1,Bool.and_true,Bool.or_false,zMO] at X <;>
   simp only [zFR,zGF,zEZ b,w,z,P,zEb,zEZ f.2]
  all_goals first
   | exact ⟨s,rfl,key s u.1 λj x=>by rw [X,zM1,zM1,Bool.or_false]⟩
   | grind
   | grind
   | grind
def zKX (W:B7 c k pos)(m:lost.length=pos.length)(hn:2*c.cells.length+3<=n):
 ∃ l,TU n c q pos pos.length lost=some (Mg c pos,l)/\ (Mg c pos=true -> CL c pos lost c.cells.length (λa s=>JU c pos a s=true) l):=by
 have G: ∀ i,i<c.cells.length -> ((i:Nat):Int)<((c.cells.length:Nat):Int):=λi hi=>by omega
 have S:=IU (λn (s:Δ) i=>KU c q pos pos.length lost n (.l1 s.1 s.2 i)) c.cells.length (c.cells.length+3)
  (λi s=>s.1=cnt (EZ c pos) i/\ s.2=cnt (Fa c pos) i) (λn i s _ hi u=>?_) (n:=n) (s:=(0,0)) (by omega) ⟨rfl,rfl⟩
 ·obtain ⟨b,⟨H,K⟩,Hh,_,w,h,A⟩:=S;obtain ⟨f,rfl⟩: ∃ f,b=f+1:=⟨b-1,by omega⟩;have z:TU n c q pos pos.length lost=XD f (KU c q pos pos.length lost f) c q pos pos.length lost H K (c.cells.length:Int):=w;have h:H=cnt (EZ c pos) c.cells.length:=h;have A:K=cnt (Fa c pos) c.cells.length:=A;unfold XD at z;rw [zFd (by omega),zGF] at z;unfold Mg;rw [←h,←A];cases h5:decide (H>c.hi)
  ·cases h6:decide (K<c.lo)
   ·obtain ⟨l,e3,hL⟩:=zKW (q:=q) (n:=f) W m h A (by omega)
    grind
   grind
  grind
 ·obtain ⟨H,K⟩:=s;obtain ⟨h,A⟩:=u;simp only at h A;have d:=W.cells i hi;have hr:=W.r64 hi;have b3:=cR (p:=EZ c pos) (i:=i);have b4:=cR (p:=Fa c pos) (i:=i);have Am:=W.len;have r3:AG (H+1):=Aj.2 ⟨by omega,by omega⟩;have r4:AG (K+1):=Aj.2 ⟨by omega,by omega⟩
  show ∃ s',XD n (KU c q pos pos.length lost n) c q pos pos.length lost H K (i:Int)=_/\ _
  unfold XD;rw [zEE (G i hi),zFR];simp only [zCg];rw [zEZ ⟨⟨by omega,G i hi⟩,d⟩];have V:(bits .andNot .i64 (pos.getD (c.cells.getD i 0).toNat 0) c.set==0)=EZ c pos i:=rfl;have E:(EZ c pos i||(bits .and .i64 (pos.getD (c.cells.getD i 0).toNat 0) c.set != 0))=Fa c pos i:=rfl;rw [V];cases v:EZ c pos i
  ·rw [v,zMO] at E;rw [zGF,E];cases hy:Fa c pos i
   ·simp_all [Qf]
   simp_all [Qf]
  simp_all [Qf]
end
end
abbrev zGa:=@Nat.lt_of_not_le
abbrev zI2:=@List.mem_filter
def df (x:Int)(i:Nat):tb (IntKind.i64.wrap x) i=tb x i:=by unfold tb;rw [Vb]
def Io {s:Nat}(hs:s<64)(i:Nat):tb (IntKind.i64.wrap (1*2 ^ s)) i=decide (s=i):=by
 rw [df,Int.one_mul]
 grind [yQ,Ln]
def Fq {k:Nat}{x:Int}(h:Sm k x)(hk:k<=62){e:Int}:e∈Bj x↔∃ s:Nat,e=(s:Int)/\ s<k/\ tb x s=true:=by
 obtain ⟨m,rfl⟩:=zMM h.1;unfold Bj Fm;simp only [zIH,zI2,zGQ,zCg];constructor
 ·rintro ⟨s,⟨b,c⟩,rfl⟩;have a:tb (m:Int) s=true:=by rw [Ki m s b];exact c
  refine ⟨s,rfl,?_,a⟩;refine zGa λl=>?_
  rw [h.hi l] at a;cases a
 ·rintro ⟨s,rfl,b,c⟩;exact ⟨s,⟨by omega,by grind [Ki]⟩,rfl⟩
def bX {α σ:Type}{f:α -> σ -> Option σ}(Inv:List α -> σ -> Prop): ∀ (l pre:List α) (s:σ),Inv pre s -> (∀ pre x s,x∈l -> Inv pre s -> ∃ i,f x s=some i/\ Inv (pre++[x]) i) -> ∃ i,CO f l s=some i/\ Inv (pre++l) i
 | [],pre,s,h,_=>⟨s,rfl,by rw [zIs];exact h⟩
 | x::l,pre,s,h,j=>by
  obtain ⟨i,h1,b⟩:=j pre x s (.head _) h;obtain ⟨s2,h3,h4⟩:=bX Inv l (pre++[x]) i b λpre y s hy=>j pre y s (.tail _ hy)
  grind [CO]
structure Ee (q:AA)(k:Nat):Prop where
 len:k<=q.values.length
 val: ∀ s,s<k -> 0<=q.values.getD s 0/\ q.values.getD s 0<=99
def LF (q:AA)(a e:Int):Int:=if q.values.getD e.toNat 0<a then q.values.getD e.toNat 0 else a
def LQ (q:AA)(a e:Int):Int:=if q.values.getD e.toNat 0>a then q.values.getD e.toNat 0 else a
def FK (q:AA)(x:Int):Int:=(Bj x).foldl (LF q) 100
def FM (q:AA)(x:Int):Int:=(Bj x).foldl (LQ q) (-1)
section
variable {c:AD} {k:Nat} {pos lost:Ξ} {q:AA}
def sI: ∀ (l:Ξ) (a:Int),(∀ e∈l,0<=q.values.getD e.toNat 0/\ q.values.getD e.toNat 0<=99) -> 0<=a/\ a<=100 -> 0<=l.foldl (LF q) a/\ l.foldl (LF q) a<=100
 | [],_,_,h=>h
 | e::l,a,p,h=>by
  have:=p e (.head _);refine sI l (LF q a e) (λe J=>p e (.tail _ J)) ?_;unfold LF;split <;> omega
def tY: ∀ (l:Ξ) (a:Int),(∀ e∈l,0<=q.values.getD e.toNat 0/\ q.values.getD e.toNat 0<=99) -> -1<=a/\ a<=99 -> -1<=l.foldl (LQ q) a/\ l.foldl (LQ q) a<=99
 | [],_,_,h=>h
 | e::l,a,p,h=>by
  have:=p e (.head _);refine tY l (LQ q a e) (λe J=>p e (.tail _ J)) ?_;unfold LQ;split <;> omega
variable {x:Int}
def Ee.sym (V:Ee q k)(hk:k<=16)(h:Sm k x): ∀ e∈Bj x,(0<=e/\ e<((q.values.length:Nat):Int))/\ 0<=q.values.getD e.toNat 0/\ q.values.getD e.toNat 0<=99:=by
 intro e J;obtain ⟨s,rfl,a,_⟩:=(Fq h (zGK hk (by decide))).1 J;have:=V.len;rw [zCg];exact ⟨by omega,V.val s a⟩
def Ee.lo (V:Ee q k)(hk:k<=16)(h:Sm k x):0<=FK q x/\ FK q x<=100:=sI _ _ (λe J=>(V.sym hk h e J).2) (by decide)
def Ee.hi (V:Ee q k)(hk:k<=16)(h:Sm k x): -1<=FM q x/\ FM q x<=99:=tY _ _ (λe J=>(V.sym hk h e J).2) (by decide)
variable {n ln:Nat}
def vB : ∀ (l:Ξ) (a b:Int),(∀ e∈l,0<=e/\ e<((q.values.length:Nat):Int)) -> CO (Wu n c q pos ln lost) l (.s0 a b)=some (.s0 (l.foldl (LF q) a) (l.foldl (LQ q) b))
 | [],_,_,_=>rfl
 | e::l,a,b,h=>by
  have w:Wu n c q pos ln lost e (.s0 a b)=some (.s0 (LF q a e) (LQ q b e)):=by
   unfold Wu vD vE
   dsimp only
   rw [zEZ (h e (.head _))];rfl
  simp only [CO];rw [w,zEb,vB l _ _ λe J=>h e (.tail _ J)];rfl
def vA (V:Ee q k)(hk:k<=16)(h:Sm k x):Wv n x c q pos ln lost=some (FK q x,FM q x,lost):=by
 have kG:=NZ (k:=k) (zGK hk (by decide));have h2:=h.2;unfold Wv vC;rw [zEZ ⟨h.1,by omega⟩,vB (Bj x) 100 (-1) λe J=>(V.sym hk h e J).1];rfl
def Ck (f:Nat -> Int):Nat -> Int
 | 0=>0
 | i+1=>Ck f i+f i
def RH {f:Nat -> Int}: ∀ (i:Nat),(∀ a,a<i -> -1<=f a/\ f a<=100) -> -(i:Int)<=Ck f i/\ Ck f i<=100*(i:Int)
 | 0,_=>by simp [Ck]
 | i+1,h=>by
  have h1:=RH i λa ha=>h a (by omega)
  grind [Ck]
def LD (q:AA)(c:AD)(pos:Ξ):Int:=Ck (λa=>FK q (Ad c pos a)) c.cells.length
def LP (q:AA)(c:AD)(pos:Ξ):Int:=Ck (λa=>FM q (Ad c pos a)) c.cells.length
def Lr (q:AA)(c:AD)(pos:Ξ):Bool:=!decide (LD q c pos>c.hi)&&!decide (LP q c pos<c.lo)
def Is (q:AA)(c:AD)(pos:Ξ)(a s:Nat):Bool:= decide (LD q c pos-FK q (Ad c pos a)+q.values.getD s 0>c.hi)||decide (LP q c pos-FM q (Ad c pos a)+q.values.getD s 0<c.lo)
variable {i:Nat}
def sD {T:Type}(W:B7 c k pos)(hi:i<c.cells.length)(r:lost.length=pos.length)(a:Ξ -> T)(f:Int -> T -> Option T)(X:Nat -> Bool) 
 (M: ∀ (s:Nat) (l:Ξ),s<k -> l.length=pos.length -> f (s:Int) (a l)=bif X s then (D8 n (c.cells.getD i 0) (IntKind.i64.wrap (1*2 ^ s)) c q pos pos.length l).map a else some (a l)):
 ∃ l',CO f (Bj (Ad c pos i)) (a lost)=some (a l')/\ l'.length=pos.length/\
  ∀ j s,tb (l'.getD j 0) s=true↔tb (lost.getD j 0) s=true∨((c.cells.getD i 0).toNat=j/\ tb (Ad c pos i) s=true/\ X s=true):=by
 have p:=W.cells i hi;have m:=W.at hi;have hk:=W.k
 have key:=bX (f:=f)
  (λpre s=>∃ l',s=a l'/\ l'.length=pos.length/\ ∀ j s,tb (l'.getD j 0) s=true↔tb (lost.getD j 0) s=true∨((c.cells.getD i 0).toNat=j/\ tb (Ad c pos i) s=true/\ (s:Int)∈pre/\ X s=true))
  (Bj (Ad c pos i)) [] (a lost) ⟨lost,rfl,r,λj s=>⟨.inl,λh=>h.elim id λh=>(by cases h.2.2.1)⟩⟩ ?_
 ·obtain ⟨_,t,l',rfl,d,o⟩:=key;refine ⟨l',t,d,λj s=>?_⟩;rw [o,zIg];constructor
  ·grind
  ·rintro (h | ⟨g,b,a3⟩)
   ·exact .inl h
   ·refine .inr ⟨g,b,(Fq m (zGK hk (by decide))).2 ⟨s,rfl,zGa λu=>?_,b⟩,a3⟩;rw [m.hi u] at b;cases b
 ·rintro pre e _ J ⟨l',rfl,d,o⟩;obtain ⟨s,rfl,v,hbit⟩:=(Fq m (zGK hk (by decide))).1 J;rw [M s l' v d];cases hx:X s
  ·grind
  ·obtain ⟨w,z,y,A⟩:=MF (lost:=l') (n:=n) (ss:=IntKind.i64.wrap (1*2 ^ s)) (c:=c) (q:=q) p.1 p.2 d;rw [zFR,z,zID];refine ⟨_,rfl,w,rfl,y,λj x=>?_⟩;rw [A,zGq,zEh,zEh,zGM,o,Io (by omega),zGM];constructor
   ·grind
   ·rintro (h | ⟨g,b,a3,a4⟩)
    ·exact .inl (.inl h)
    ·rcases zIF.1 a3 with a3 | a3
     ·exact .inl (.inr ⟨g,b,a3,a4⟩)
     ·have:x=s:=by have:=zGh.1 a3;omega
      subst this;subst g;exact .inr ⟨rfl,b,rfl⟩
def yh (W:B7 c k pos)(V:Ee q k)(hi:i<c.cells.length){low high:Int}(C:low=LD q c pos)(y:high=LP q c pos)(m:lost.length=pos.length):
 ∃ l',CO (X9 n c (i:Int) q pos pos.length low high (FK q (Ad c pos i),FM q (Ad c pos i),lost)) (Bj (Ad c pos i)) (.s0 lost)=some (.s0 l')/\ l'.length=pos.length/\
  ∀ j s,tb (l'.getD j 0) s=true↔tb (lost.getD j 0) s=true∨((c.cells.getD i 0).toNat=j/\ tb (Ad c pos i) s=true/\ Is q c pos i s=true):=by
 have b:=W.cells i hi;have d:=W.at hi;have hk:=W.k;have Am:=W.len;have bl:=V.lo hk d;have bh:=V.hi hk d;have z:=RH (f:=λa=>FK q (Ad c pos a)) c.cells.length λa D=>by have:=V.lo hk (W.at D);omega
 have A:=RH (f:=λa=>FM q (Ad c pos a)) c.cells.length λa D=>by have:=V.hi hk (W.at D);omega
 have z: -(c.cells.length:Int)<=low/\ low<=100*(c.cells.length:Int):=by rw [C];exact z
 have A: -(c.cells.length:Int)<=high/\ high<=100*(c.cells.length:Int):=by rw [y];exact A
 refine sD (n:=n) (q:=q) W hi m Lq.s0 _ (Is q c pos i) λs l e m=>?_
 have hv:=V.val s e;have G5:=V.len;have r1:AG (low-FK q (Ad c pos i)):=Aj.2 ⟨by omega,by omega⟩;have r2:AG (low-FK q (Ad c pos i)+q.values.getD s 0):=Aj.2 ⟨by omega,by omega⟩;have r3:AG (high-FM q (Ad c pos i)):=Aj.2 ⟨by omega,by omega⟩;have r4:AG (high-FM q (Ad c pos i)+q.values.getD s 0):=Aj.2 ⟨by omega,by omega⟩;have g1:(0:Int)<=(s:Int)/\ (s:Int)<((q.values.length:Nat):Int):=by omega
 have g2:(0:Int)<=(s:Int)/\ (s:Int)<=((IntKind.i64.bits:Nat):Int):=⟨by omega,by show (s:Int)<=64;omega⟩;obtain ⟨l2,e2,_,_⟩:=MF (lost:=l) (n:=n) (ss:=IntKind.i64.wrap (1*2 ^ s)) (c:=c) (q:=q) b.1 b.2 m;have X:Is q c pos i s=(decide (low-FK q (Ad c pos i)+q.values.getD s 0>c.hi)||decide (high-FM q (Ad c pos i)+q.values.getD s 0<c.lo)):=by rw [C,y];rfl
 rw [X];unfold X9 n6 X8
 grind
def ye (W:B7 c k pos)(V:Ee q k)(m:lost.length=pos.length)(hn:c.cells.length+1<=n):
 ∃ l,Jh c q pos pos.length lost n (.l2 0 lost (LD q c pos) (LP q c pos))=some (true,l)/\ CL c pos lost c.cells.length (λa s=>Is q c pos a s=true) l:=by
 have G: ∀ i,i<c.cells.length -> ((i:Nat):Int)<((c.cells.length:Nat):Int):=λi hi=>by omega
 have T:=IU (λn (s:Ξ) i=>Jh c q pos pos.length lost n (.l2 i s (LD q c pos) (LP q c pos))) c.cells.length 1
  (λi s=>CL c pos lost i (λa s=>Is q c pos a s=true) s) (λn i s GJ hi u=>?_) (n:=n) (s:=lost) (by omega) (CL.zero m)
 ·obtain ⟨t,l,N6,_,e2,hL⟩:=T;obtain ⟨d,rfl⟩: ∃ d,t=d+1:=⟨t-1,by omega⟩
  simp_all [X7,Jh]
 ·have e:=W.cells i hi;have hr:=W.r64 hi;have b:=W.at hi;have kG:=NZ (k:=k) (zGK W.k (by decide));have Ga:=b.2;obtain ⟨l',e1,f,v⟩:=yh (n:=n) W V hi rfl rfl u.1
  show ∃ s',X7 n (Jh c q pos pos.length lost n) c q pos pos.length lost (i:Int) s _ _=_/\ _
  unfold X7;rw [zEE (G i hi),zFR];simp only [zCg];have g:pos.getD (c.cells.getD i 0).toNat 0=Ad c pos i:=rfl;rw [zEZ ⟨⟨by omega,G i hi⟩,e⟩,g,vA V W.k b,zEb,zEZ ⟨b.1,by show Ad c pos i<_;omega⟩];refine ⟨l',?_,u.step f v⟩
  grind
def yf (W:B7 c k pos)(V:Ee q k)(m:lost.length=pos.length)(hn:2*c.cells.length+3<=n):
 ∃ l,RP n c q pos pos.length lost=some (Lr q c pos,l)/\ (Lr q c pos=true -> CL c pos lost c.cells.length (λa s=>Is q c pos a s=true) l):=by
 have G: ∀ i,i<c.cells.length -> ((i:Nat):Int)<((c.cells.length:Nat):Int):=λi hi=>by omega
 have S:=IU (λn (s:Ξ×Δ) i=>Jh c q pos pos.length lost n (.l1 i s.1 s.2.1 s.2.2)) c.cells.length (c.cells.length+3)
  (λi s=>s.1=lost/\ s.2.1=Ck (λa=>FK q (Ad c pos a)) i/\ s.2.2=Ck (λa=>FM q (Ad c pos a)) i) (λn i s _ hi u=>?_) (n:=n) (s:=(lost,0,0)) (by omega) ⟨rfl,rfl,rfl⟩
 ·obtain ⟨e,⟨l0,H,K⟩,Hh,_,w,h0,h,A⟩:=S;obtain ⟨b,rfl⟩: ∃ b,e=b+1:=⟨e-1,by omega⟩;obtain rfl:l0=lost:=h0;obtain rfl:H=LD q c pos:=h;obtain rfl:K=LP q c pos:=A;have z:RP n c q pos pos.length l0=UI b (Jh c q pos pos.length l0 b) c q pos pos.length l0 (c.cells.length:Int) l0 (LD q c pos) (LP q c pos):=w;unfold UI at z;rw [zFd (by omega),zGF] at z;unfold Lr;cases h5:decide (LD q c pos>c.hi)
  ·cases h6:decide (LP q c pos<c.lo)
   ·obtain ⟨l,e3,hL⟩:=ye (n:=b) W V m (by omega)
    grind
   grind
  grind
 ·obtain ⟨l0,H,K⟩:=s;obtain ⟨h0,h,A⟩:=u;simp only at h0 h A;have g:=W.cells i hi;have j:=W.r64 hi;have d:=W.at hi;have o:=RH (f:=λa=>FK q (Ad c pos a)) i λa D=>by have:=V.lo W.k (W.at (Nat.lt_trans D hi));omega
  have p:=RH (f:=λa=>FM q (Ad c pos a)) i λa D=>by have:=V.hi W.k (W.at (Nat.lt_trans D hi));omega
  have bl:=V.lo W.k d;have bh:=V.hi W.k d;have Am:=W.len;rw [←h] at o;rw [←A] at p;have r:AG (H+FK q (Ad c pos i)):=Aj.2 ⟨by omega,by omega⟩;have t:AG (K+FM q (Ad c pos i)):=Aj.2 ⟨by omega,by omega⟩
  show ∃ s',UI n (Jh c q pos pos.length lost n) c q pos pos.length lost (i:Int) l0 H K=_/\ _
  unfold UI;rw [zEE (G i hi),zFR];simp only [zCg];have v:pos.getD (c.cells.getD i 0).toNat 0=Ad c pos i:=rfl;rw [zEZ ⟨⟨by omega,G i hi⟩,g⟩,v,vA V W.k d,zEb,zEZ ⟨r,t,j.2⟩];exact ⟨(l0,H+FK q (Ad c pos i),K+FM q (Ad c pos i)),rfl,h0,by simp only [Ck];rw [h],by simp only [Ck];rw [A]⟩
end
section
set_option maxRecDepth 100000
set_option maxHeartbeats 40000000
def nj:ST:=.rd 0 (.rd 1 (.rd 3 (.rd 4 (.ef 2 (.ef 5 (.ef 6 (.ef 7 (.ef 8 (.ef 9 (.fin [0,1,2,3] [1,3,4,5,58,91,92,104,148]) (.no)) (.no)) (.no)) (.ef 7 (.ef 6 (.ef 8 (.ef 9 (.fin [0,1,3,2] [1,3,4,5,58,91,92,104,148]) (.no)) (.no)) (.no)) (.no))) (.ef 6 (.ef 5 (.ef 7 (.ef 8 (.ef 9 (.fin [0,2,1,3] [1,3,4,5,58,91,92,104,148]) (.no)) (.no)) (.no)) (.ef 7 (.ef 5 (.ef 8 (.ef 9 (.fin [0,3,1,2] [1,3,4,5,58,91,92,104,148]) (.no)) (.no)) (.ef 8 (.ef 5 (.ef 9 (.fin [0,3,1,2] [1,3,4,5,58,91,92,104,148]) (.no)) (.no)) (.no))) (.no))) (.ef 7 (.ef 5 (.ef 6 (.ef 8 (.ef 9 (.fin [0,2,3,1] [1,3,4,5,58,91,92,104,148]) (.no)) (.no)) (.no)) (.ef 6 (.ef 5 (.ef 8 (.ef 9 (.fin [0,3,2,1] [1,3,4,5,58,91,92,104,148]) (.no)) (.no)) (.ef 8 (.ef 5 (.ef 9 (.fin [0,3,2,1] [1,3,4,5,58,91,92,104,148]) (.no)) (.no)) (.no))) (.no))) (.no)))) (.ef 5 (.ef 2 (.ef 6 (.ef 7 (.ef 8 (.ef 9 (.fin [1,0,2,3] [1,3,4,5,58,91,92,104,148]) (.no)) (.no)) (.no)) (.ef 7 (.ef 6 (.ef 8 (.ef 9 (.fin [1,0,3,2] [1,3,4,5,58,91,92,104,148]) (.no)) (.no)) (.no)) (.no))) (.ef 6 (.ef 2 (.ef 7 (.ef 8 (.ef 9 (.fin [2,0,1,3] [1,3,4,5,58,91,92,104,148]) (.no)) (.no)) (.no)) (.ef 7 (.ef 2 (.ef 8 (.ef 9 (.fin [3,0,1,2] [1,3,4,5,58,91,92,104,148]) (.no)) (.no)) (.no)) (.no))) (.ef 7 (.ef 2 (.ef 6 (.ef 8 (.ef 9 (.fin [2,0,3,1] [1,3,4,5,58,91,92,104,148]) (.no)) (.no)) (.no)) (.ef 6 (.ef 2 (.ef 8 (.ef 9 (.fin [3,0,2,1] [1,3,4,5,58,91,92,104,148]) (.no)) (.no)) (.no)) (.no))) (.no)))) (.ef 6 (.ef 2 (.ef 5 (.ef 7 (.ef 8 (.ef 9 (.fin [1,2,0,3] [1,3,4,5,58,91,92,104,148]) (.no)) (.no)) (.no)) (.ef 7 (.ef 5 (.ef 8 (.ef 9 (.fin [1,3,0,2] [1,3,4,5,58,91,92,104,148]) (.no)) (.no)) (.ef 8 (.ef 5 (.ef 9 (.fin [1,3,0,2] [1,3,4,5,58,91,92,104,148]) (.no)) (.no)) (.no))) (.no))) (.ef 5 (.ef 2 (.ef 7 (.ef 8 (.ef 9 (.fin [2,1,0,3] [1,3,4,5,58,91,92,104,148]) (.no)) (.no)) (.no)) (.ef 7 (.ef 2 (.ef 8 (.ef 9 (.fin [3,1,0,2] [1,3,4,5,58,91,92,104,148]) (.no)) (.no)) (.no)) (.no))) (.ef 7 (.ef 2 (.ef 5 (.ef 8 (.ef 9 (.fin [2,3,0,1] [1,3,4,5,58,91,92,104,148]) (.no)) (.no)) (.ef 8 (.ef 5 (.ef 9 (.fin [2,3,0,1] [1,3,4,5,58,91,92,104,148]) (.no)) (.no)) (.no))) (.ef 5 (.ef 2 (.ef 8 (.ef 9 (.fin [3,2,0,1] [1,3,4,5,58,91,92,104,148]) (.no)) (.no)) (.no)) (.no))) (.no)))) (.ef 7 (.ef 2 (.ef 5 (.ef 6 (.ef 8 (.ef 9 (.fin [1,2,3,0] [1,3,4,5,58,91,92,104,148]) (.no)) (.no)) (.no)) (.ef 6 (.ef 5 (.ef 8 (.ef 9 (.fin [1,3,2,0] [1,3,4,5,58,91,92,104,148]) (.no)) (.no)) (.ef 8 (.ef 5 (.ef 9 (.fin [1,3,2,0] [1,3,4,5,58,91,92,104,148]) (.no)) (.no)) (.no))) (.no))) (.ef 5 (.ef 2 (.ef 6 (.ef 8 (.ef 9 (.fin [2,1,3,0] [1,3,4,5,58,91,92,104,148]) (.no)) (.no)) (.no)) (.ef 6 (.ef 2 (.ef 8 (.ef 9 (.fin [3,1,2,0] [1,3,4,5,58,91,92,104,148]) (.no)) (.no)) (.no)) (.no))) (.ef 6 (.ef 2 (.ef 5 (.ef 8 (.ef 9 (.fin [2,3,1,0] [1,3,4,5,58,91,92,104,148]) (.no)) (.no)) (.ef 8 (.ef 5 (.ef 9 (.fin [2,3,1,0] [1,3,4,5,58,91,92,104,148]) (.no)) (.no)) (.no))) (.ef 5 (.ef 2 (.ef 8 (.ef 9 (.fin [3,2,1,0] [1,3,4,5,58,91,92,104,148]) (.no)) (.no)) (.no)) (.no))) (.no)))) (.no))))))))
def zAq:B3 (BA Tryz.f109 2) [2,5,6,7,8] nj:=by unfold B3;kernel_rfl
def ni:ST:=.rd 0 (.rd 1 (.rd 2 (.rd 3 (.ef 4 (.rd 5 (.ef 6 (.fin [] [1,4,5,58,91,92,104,148]) (.no))) (.no)))))
def zAn:B3 (BA Tryz.f109 3) [4] ni:=by unfold B3;kernel_rfl
def zAr:Ax (BA Tryz.f109 12) [] (List.range 11) [11]:=by unfold Ax;kernel_rfl
def zAp:Ax (BA Tryz.f109 22) [] (List.range 9) [9]:=by unfold Ax;kernel_rfl
def zAo:Ax (BA Tryz.f109 26) [([0,1,2,3,4,5,6],7)] [] []:=by unfold Ax;kernel_rfl
def nh:ST:=.rd 0 (.rd 1 (.rd 2 (.rd 3 (.ef 4 (.fin [] [2]) (.no)))))
def pH:B3 (BA Tryz.f109 30) [] nh:=by unfold B3;kernel_rfl
def FF:Be:=λi=>match i with
 | 2=>.tre [2,5,6,7,8] nj
 | 3=>.tre [4] ni
 | 12=>.ord [] (List.range 11) [11]
 | 22=>.ord [] (List.range 9) [9]
 | 26=>.ord [([0,1,2,3,4,5,6],7)] [] []
 | 30=>.tre [] nh
 | _=>.no
def C8 (c:AD)(q:AA)(pos:Ξ)(ln:Nat)(lost:Ξ):St:=⟨(AF 178 [(1,.ref 2 0),(3,.i (c.cells.length:Int)),(4,.ref 5 0),(5,.ref 6 0)]),([oW c q pos 1 ln,oI lost,oC [.ref 0 0],oI (List.replicate ((((c.cells.length:Int)+1)).toNat) (0:Int)),oI (List.replicate ((((c.cells.length:Int)+1)).toNat) (0:Int)),oC [.msl 3 1 0 ((((c.cells.length:Int)+1)).toNat)],oC [.msl 4 1 0 ((((c.cells.length:Int)+1)).toNat)]]:DH)⟩
def nH (c:AD)(q:AA)(pos:Ξ)(ln:Nat)(lost:Ξ):St:=⟨(AF 178 [(1,.ref 2 0),(4,.ref 5 0),(5,.ref 6 0)]),([oW c q pos 1 ln,oI lost,oC [.ref 0 0],oI ((List.replicate ((((c.cells.length:Int)+1)).toNat) (0:Int)).set (0+0) (-1)),oI ((List.replicate ((((c.cells.length:Int)+1)).toNat) (0:Int)).set (0+c.cells.length) 100),oC [.msl 3 1 0 ((((c.cells.length:Int)+1)).toNat)],oC [.msl 4 1 0 ((((c.cells.length:Int)+1)).toNat)]]:DH)⟩
def zHY (c:AD)(q:AA)(pos:Ξ)(ln:Nat)(lost o4:Ξ)(z:Int):DH:=[oW c q pos 1 ln,oI lost,oC [.ref 0 0],oC [.msl 4 1 0 ((((c.cells.length:Int)+1)).toNat)],oI (o4.set (0+(((z+1)).toNat)) 100),oC [.msl 6 1 0 ((((c.cells.length:Int)+1)).toNat)],oI ((List.replicate ((((c.cells.length:Int)+1)).toNat) (0:Int)).set (0+c.cells.length) 100),oC [.i z]]
def zHX (c:AD)(q:AA)(pos:Ξ)(ln:Nat)(lost:Ξ)(z:Int)(o4:Ξ):DH:=[oW c q pos 1 ln,oI lost,oC [.ref 0 0],oC [.msl 7 1 0 ((((c.cells.length:Int)+1)).toNat)],oC [.msl 8 1 0 ((((c.cells.length:Int)+1)).toNat)],oC [.i z],some (.iter ((Bj (pos.getD ((c.cells.getD z.toNat 0).toNat) 0)).map Bw)),oI (o4.set (0+(((z+1)).toNat)) 100),oI ((List.replicate ((((c.cells.length:Int)+1)).toNat) (0:Int)).set (0+c.cells.length) 100)]
def zHW (c:AD)(q:AA)(pos:Ξ)(ln:Nat)(lost o4:Ξ):DH:=[oW c q pos 1 ln,oI lost,oC [.ref 0 0],oC [.msl 4 1 0 ((((c.cells.length:Int)+1)).toNat)],oI o4,oC [.msl 6 1 0 ((((c.cells.length:Int)+1)).toNat)],oI ((List.replicate ((((c.cells.length:Int)+1)).toNat) (0:Int)).set (0+c.cells.length) 100)]
def zHV (c:AD)(q:AA)(pos:Ξ)(ln:Nat)(lost:Ξ)(k:List (Δ))(o4:Ξ):DH:=[oW c q pos 1 ln,oI lost,oC [.ref 0 0],oC [.msl 6 1 0 ((((c.cells.length:Int)+1)).toNat)],oC [.msl 7 1 0 ((((c.cells.length:Int)+1)).toNat)],some (.iter ((k).map Qc)),oI o4,oI ((List.replicate ((((c.cells.length:Int)+1)).toNat) (0:Int)).set (0+c.cells.length) 100)]
def zHU (c:AD)(q:AA)(pos:Ξ)(ln:Nat)(o1 o4 d:Ξ)(h:Int):DH:=[oW c q pos 1 ln,oI o1,oC [.ref 0 0],oC [.msl 4 1 0 ((((c.cells.length:Int)+1)).toNat)],oI o4,oC [.msl 6 1 0 ((((c.cells.length:Int)+1)).toNat)],oI d,oC [.i h],oC [.i (c.cells.getD h.toNat 0)]]
def zHT (c:AD)(q:AA)(pos:Ξ)(ln:Nat)(o1:Ξ)(h:Int)(o4 d:Ξ):DH:=[oW c q pos 1 ln,oI o1,oC [.ref 0 0],oC [.msl 8 1 0 ((((c.cells.length:Int)+1)).toNat)],oC [.msl 9 1 0 ((((c.cells.length:Int)+1)).toNat)],oC [.i h],oC [.i (c.cells.getD h.toNat 0)],some (.iter ((Bj (pos.getD ((c.cells.getD h.toNat 0).toNat) 0)).map Bw)),oI o4,oI d]
def zHS (c:AD)(q:AA)(pos:Ξ)(ln:Nat)(lost:Ξ)(z:Int)(n:Ξ):DH:=[oW c q pos 1 ln,oI lost,oC [.ref 0 0],oC [.msl 7 1 0 ((((c.cells.length:Int)+1)).toNat)],oC [.msl 8 1 0 ((((c.cells.length:Int)+1)).toNat)],oC [.i z],none,oI n,oI ((List.replicate ((((c.cells.length:Int)+1)).toNat) (0:Int)).set (0+c.cells.length) 100)]
def zHR (c:AD)(q:AA)(pos:Ξ)(ln:Nat)(lost o4 W:Ξ)(A:Δ):DH:=[oW c q pos 1 ln,oI lost,oC [.ref 0 0],oC [.msl 6 1 0 ((((c.cells.length:Int)+1)).toNat)],oC [.msl 7 1 0 ((((c.cells.length:Int)+1)).toNat)],none,oI o4,oI W,oC [.i A.1]]
def zHb (c:AD)(q:AA)(pos:Ξ)(ln:Nat)(lost o4 W:Ξ)(A:Δ):DH:=[oW c q pos 1 ln,oI lost,oC [.ref 0 0],oC [.msl 6 1 0 ((((c.cells.length:Int)+1)).toNat)],oC [.msl 7 1 0 ((((c.cells.length:Int)+1)).toNat)],none,oI o4,oI (W.set (0+((A.1).toNat)) (-1)),oC [.i A.1]]
def zHa (c:AD)(q:AA)(pos:Ξ)(ln:Nat)(lost:Ξ)(A:Δ)(o4 W:Ξ):DH:=[oW c q pos 1 ln,oI lost,oC [.ref 0 0],oC [.msl 8 1 0 ((((c.cells.length:Int)+1)).toNat)],oC [.msl 9 1 0 ((((c.cells.length:Int)+1)).toNat)],none,oC [.i A.1],some (.iter ((Bj (pos.getD ((A.2).toNat) 0)).map Bw)),oI o4,oI (W.set (0+((A.1).toNat)) (-1))]
def jI (c:AD)(q:AA)(pos:Ξ)(ln:Nat)(S:Ξ)(h:Int)(o4 d:Ξ):DH:=[oW c q pos 1 ln,oI S,oC [.ref 0 0],oC [.msl 8 1 0 ((((c.cells.length:Int)+1)).toNat)],oC [.msl 9 1 0 ((((c.cells.length:Int)+1)).toNat)],oC [.i h],oC [.i (c.cells.getD h.toNat 0)],none,oI o4,oI d]
def X0 (c:AD)(q:AA)(pos:Ξ)(ln:Nat)(t:Ξ)(h:Int)(o4 d:Ξ):St:=⟨(AF 178 []),([oW c q pos 1 ln,oI t,oC [.ref 0 0],oC [.msl 8 1 0 ((((c.cells.length:Int)+1)).toNat)],oC [.msl 9 1 0 ((((c.cells.length:Int)+1)).toNat)],oC [.i h],oC [.i (c.cells.getD h.toNat 0)],none,oI o4,oI d]:DH)⟩
def zHZ (c:AD)(q:AA)(pos:Ξ)(ln:Nat)(lost:Ξ)(A:Δ)(o4 o:Ξ):DH:=[oW c q pos 1 ln,oI lost,oC [.ref 0 0],oC [.msl 8 1 0 ((((c.cells.length:Int)+1)).toNat)],oC [.msl 9 1 0 ((((c.cells.length:Int)+1)).toNat)],none,oC [.i A.1],none,oI o4,oI o]
inductive NI where
 | s0 (GW:Ξ)
def p4 (c:AD)(q:AA)(pos:Ξ)(ln:Nat)(lost:Ξ)(A:Δ)(o4:Ξ):NI -> DH
 | .s0 o=>[oW c q pos 1 ln,oI lost,oC [.ref 0 0],oC [.msl 8 1 0 ((((c.cells.length:Int)+1)).toNat)],oC [.msl 9 1 0 ((((c.cells.length:Int)+1)).toNat)],none,oC [.i A.1],none,oI o4,oI o]
def Y0 (n:Nat)(c:AD)(q:AA)(pos:Ξ)(ln:Nat)(lost:Ξ)(A:Δ)(o4:Ξ)(T:Int)(o:Ξ):Option NI:= if (0<=T/\ T<(q.values.length:Int))/\ AG (A.1+1)/\ (0<=(A.1+1)/\ (A.1+1)<(((((c.cells.length:Int)+1)).toNat:Nat):Int))/\ 0+(((A.1+1)).toNat)<o.length then bif (decide ((q.values.getD T.toNat 0)<(o.getD (0+(((A.1+1)).toNat)) 0))) then if (0<=A.1/\ A.1<(((((c.cells.length:Int)+1)).toNat:Nat):Int))/\ 0+((A.1).toNat)<o.length then some (.s0 (o.set (0+((A.1).toNat)) (if (q.values.getD T.toNat 0)>(o.getD (0+((A.1).toNat)) 0) then (q.values.getD T.toNat 0) else (o.getD (0+((A.1).toNat)) 0)))) else none else some (.s0 o) else none
def pz (n:Nat)(c:AD)(q:AA)(pos:Ξ)(ln:Nat)(lost:Ξ)(A:Δ)(o4:Ξ)(T:Int):NI -> Option NI
 | .s0 o=>Y0 n c q pos ln lost A o4 T o
def U3 (n:Nat)(c:AD)(q:AA)(pos:Ξ)(ln:Nat)(lost:Ξ)(A:Δ)(o4:Ξ)(T:Int)(s:NI):Option NI:=pz n c q pos ln lost A o4 T s
def zCR (n:Nat)(c:AD)(q:AA)(pos:Ξ)(ln:Nat)(lost:Ξ)(A:Δ)(o4:Ξ)(l B:Nat)(N:Yd 8)(T:Int)(s:NI)(r:NI)(h:U3 n c q pos ln lost A o4 T s=some r):TA l B N (C1 8 [] 0 (p4 c q pos ln lost A o4 r)) Tryz.f109 103 ⟨AF 178 [(1,.ref 2 0),(5,.ref 4 0),(10,.ref 6 0),(103,.it 7),(104,.i T)],p4 c q pos ln lost A o4 s⟩:=by
 cases s with
 | s0 o=>
  replace h:Y0 n c q pos ln lost A o4 T o=some r:=h;unfold Y0 at h;refine ag FF [0,1,2,3,4,5,6,7,8,9] H0 (AF 178 [(1,.ref 2 0),(5,.ref 4 0),(10,.ref 6 0),(12,.i T)]) (zHZ c q pos ln lost A o4 o) λN=>?_
  revert r;apply gO;exact gc (gi (gc (gw 116 (gc (gi (gi (bi 119 (jg zAp (gc (gn λa=>jg a (gn λC=>jg C (jg a (jg C (lF λp=>rr FF [0,1,2,3,4,5,6,7,8,9] rfl p))))))) (lF λp=>rr FF [0,1,2,3,4,5,6,7,8,9] rfl p))))))))
inductive Ly where
 | s0 (Hb:Ξ)
def qC (c:AD)(h:Int)(q:AA)(pos:Ξ)(ln:Nat)(o4 d:Ξ):Ly -> DH
 | .s0 S=>[oW c q pos 1 ln,oI S,oC [.ref 0 0],oC [.msl 8 1 0 ((((c.cells.length:Int)+1)).toNat)],oC [.msl 9 1 0 ((((c.cells.length:Int)+1)).toNat)],oC [.i h],oC [.i (c.cells.getD h.toNat 0)],none,oI o4,oI d]
def Y4 (n:Nat)(c:AD)(h:Int)(q:AA)(pos:Ξ)(ln:Nat)(o4 d:Ξ)(w:Int)(S:Ξ):Option Ly:= if (0<=w/\ w<(q.values.length:Int))/\ (0<=h/\ h<(((((c.cells.length:Int)+1)).toNat:Nat):Int))/\ 0+h.toNat<o4.length then bif (decide ((q.values.getD w.toNat 0)<=(o4.getD (0+h.toNat) 0))) then if 0<=w/\ w<=(IntKind.i64.bits:Int) then (D8 n (c.cells.getD h.toNat 0) (IntKind.i64.wrap (1*2 ^ (w).toNat)) c q pos ln S).bind λt=> some (.s0 t) else none else if AG (h+1)/\ (0<=(h+1)/\ (h+1)<(((((c.cells.length:Int)+1)).toNat:Nat):Int))/\ 0+(((h+1)).toNat)<d.length then bif (decide ((q.values.getD w.toNat 0)>=(d.getD (0+(((h+1)).toNat)) 0))) then if 0<=w/\ w<=(IntKind.i64.bits:Int) then (D8 n (c.cells.getD h.toNat 0) (IntKind.i64.wrap (1*2 ^ (w).toNat)) c q pos ln S).bind λt=> some (.s0 t) else none else some (.s0 S) else none else none
def qB (n:Nat)(c:AD)(h:Int)(q:AA)(pos:Ξ)(ln:Nat)(o4 d:Ξ)(w:Int):Ly -> Option Ly
 | .s0 S=>Y4 n c h q pos ln o4 d w S
def Y5 (n:Nat)(c:AD)(h:Int)(q:AA)(pos:Ξ)(ln:Nat)(o4 d:Ξ)(w:Int)(s:Ly):Option Ly:=qB n c h q pos ln o4 d w s
def zCT (n:Nat)(c:AD)(a:Int)(q:AA)(pos:Ξ)(ln:Nat)(o4 d:Ξ)(l B:Nat)(N:Yd 8)(w:Int)(s:Ly)(r:Ly)(h:Y5 n c a q pos ln o4 d w s=some r):TA l B N (C1 8 [] 0 (qC c a q pos ln o4 d r)) Tryz.f109 147 ⟨AF 178 [(1,.ref 2 0),(4,.ref 3 0),(5,.ref 4 0),(14,.ref 5 0),(15,.ref 6 0),(133,.ints c.cells),(134,.i (c.cells.length:Int)),(135,.i a),(147,.it 7),(148,.i w)],qC c a q pos ln o4 d s⟩:=by
 cases s with
 | s0 S=>
  replace h:Y4 n c a q pos ln o4 d w S=some r:=h;unfold Y4 at h;refine ag FF [0,1,2,3,4,5,6,7,8,9] H0 (AF 178 [(1,.ref 2 0),(4,.ref 3 0),(5,.ref 4 0),(14,.ref 5 0),(15,.ref 6 0),(16,.i w)]) (jI c q pos ln S a o4 d) λN=>?_
  revert r;apply gO;exact gc (gi (gc (gi (gi (bi 162 (jg pH (gi (ce Gy [0,1] (jI c q pos ln S a o4 d) λt=>jg (Eq.refl (X0 c q pos ln t a o4 d)) (lF λp=>rr (tg:=[([],(X0 c q pos ln t a o4 d))]) FF [0,1,2,3,4,5,6,7,8,9] rfl p)))) (gc (gw 167 (gc (gi (gi (bi 170 (jg pH (gi (ce Gy [0,1] (jI c q pos ln S a o4 d) λt=>jg (Eq.refl (X0 c q pos ln t a o4 d)) (lF λp=>rr (tg:=[([],(X0 c q pos ln t a o4 d))]) FF [0,1,2,3,4,5,6,7,8,9] rfl p)))) (lF λp=>rr FF [0,1,2,3,4,5,6,7,8,9] rfl p))))))))))))
inductive NJ where
 | s0 (F6:Ξ)
def p7 (c:AD)(q:AA)(pos:Ξ)(ln:Nat)(lost o4:Ξ):NJ -> DH
 | .s0 W=>[oW c q pos 1 ln,oI lost,oC [.ref 0 0],oC [.msl 6 1 0 ((((c.cells.length:Int)+1)).toNat)],oC [.msl 7 1 0 ((((c.cells.length:Int)+1)).toNat)],none,oI o4,oI W]
def Yz (n:Nat)(c:AD)(q:AA)(pos:Ξ)(ln:Nat)(lost o4:Ξ)(A:Δ)(W:Ξ):Option NJ:=
 if (0<=A.1/\ A.1<(((((c.cells.length:Int)+1)).toNat:Nat):Int))/\ 0+((A.1).toNat)<W.length/\ (0<=A.2/\ A.2<(pos.length:Int))/\ (0<=(pos.getD ((A.2).toNat) 0)/\ (pos.getD ((A.2).toNat) 0)<9223372036854775808) then
  (CO (U3 n c q pos ln lost A o4) (Bj (pos.getD ((A.2).toNat) 0)) (.s0 (W.set (0+((A.1).toNat)) (-1)))).bind λl=>
   match l with
   | .s0 D=>
    some (.s0 D)
 else none
def py (n:Nat)(c:AD)(q:AA)(pos:Ξ)(ln:Nat)(lost o4:Ξ)(A:Δ):NJ -> Option NJ
 | .s0 W=>Yz n c q pos ln lost o4 A W
def U4 (n:Nat)(c:AD)(q:AA)(pos:Ξ)(ln:Nat)(lost o4:Ξ)(A:Δ)(s:NJ):Option NJ:=py n c q pos ln lost o4 A s
def zCQ (n:Nat)(c:AD)(q:AA)(pos:Ξ)(ln:Nat)(lost o4:Ξ)(l B:Nat)(N:Yd 6)(A:Δ)(s:NJ)(r:NJ)(h:U4 n c q pos ln lost o4 A s=some r):TA l B N (C1 6 [] 0 (p7 c q pos ln lost o4 r)) Tryz.f109 90 ⟨AF 178 [(1,.ref 2 0),(4,.ref 3 0),(5,.ref 4 0),(90,.it 5),(91,.i A.1),(92,.i A.2)],p7 c q pos ln lost o4 s⟩:=by
 cases s with
 | s0 W=>
  replace h:Yz n c q pos ln lost o4 A W=some r:=h;unfold Yz at h;refine ag FF [0,1,2,3,4,5,6,7,8] (H0.t) (AF 178 [(1,.ref 2 0),(5,.ref 4 0),(10,.ref 8 0),(11,.i A.2)]) (zHR c q pos ln lost o4 W A) λN=>?_
  revert r;apply gO
  exact gc (gi (gc (gi (gc (gi (gn λm=>jc (Lp m (zHb c q pos ln lost o4 W A)) (cn λb a=>λp r h=>by
   refine gs FF [0,1,2,3,4,5,8,9,6,7] p (HE (PD Tryz.f109 90) 103 []) (AF 178 [(1,.ref 2 0),(5,.ref 4 0),(10,.ref 6 0),(103,.it 7)]) (zHa c q pos ln lost A o4 W) ?_;refine r0 7 103 #[104] Bw 8 a (zCR n c q pos ln lost A o4) ?_;cases b with
   | s0 wQ=>
    dsimp only at h
    revert r;apply gO;exact lF λp=>rr FF [0,1,2,3,4,5,8,9] rfl p)))))))
inductive NK where
 | s0 (GV:Ξ)
def qA (c:AD)(z:Int)(q:AA)(pos:Ξ)(ln:Nat)(lost:Ξ):NK -> DH
 | .s0 n=>[oW c q pos 1 ln,oI lost,oC [.ref 0 0],oC [.msl 7 1 0 ((((c.cells.length:Int)+1)).toNat)],oC [.msl 8 1 0 ((((c.cells.length:Int)+1)).toNat)],oC [.i z],none,oI n,oI ((List.replicate ((((c.cells.length:Int)+1)).toNat) (0:Int)).set (0+c.cells.length) 100)]
def Y1 (n:Nat)(c:AD)(z:Int)(q:AA)(pos:Ξ)(ln:Nat)(lost:Ξ)(U:Int)(a:Ξ):Option NK:= if (0<=U/\ U<(q.values.length:Int))/\ (0<=z/\ z<(((((c.cells.length:Int)+1)).toNat:Nat):Int))/\ 0+z.toNat<a.length then bif (decide ((q.values.getD U.toNat 0)>(a.getD (0+z.toNat) 0))) then if AG (z+1)/\ (0<=(z+1)/\ (z+1)<(((((c.cells.length:Int)+1)).toNat:Nat):Int))/\ 0+(((z+1)).toNat)<a.length then some (.s0 (a.set (0+(((z+1)).toNat)) (if (q.values.getD U.toNat 0)<(a.getD (0+(((z+1)).toNat)) 0) then (q.values.getD U.toNat 0) else (a.getD (0+(((z+1)).toNat)) 0)))) else none else some (.s0 a) else none
def p8 (n:Nat)(c:AD)(z:Int)(q:AA)(pos:Ξ)(ln:Nat)(lost:Ξ)(U:Int):NK -> Option NK
 | .s0 a=>Y1 n c z q pos ln lost U a
def U5 (n:Nat)(c:AD)(z:Int)(q:AA)(pos:Ξ)(ln:Nat)(lost:Ξ)(U:Int)(s:NK):Option NK:=p8 n c z q pos ln lost U s
def zCS (n:Nat)(c:AD)(z:Int)(q:AA)(pos:Ξ)(ln:Nat)(lost:Ξ)(l B:Nat)(N:Yd 7)(U:Int)(s:NK)(r:NK)(h:U5 n c z q pos ln lost U s=some r):TA l B N (C1 7 [] 0 (qA c z q pos ln lost r)) Tryz.f109 57 ⟨AF 178 [(1,.ref 2 0),(4,.ref 3 0),(5,.ref 4 0),(6,.ref 5 0),(39,.ints c.cells),(40,.i (c.cells.length:Int)),(41,.i z),(57,.it 6),(58,.i U)],qA c z q pos ln lost s⟩:=by
 cases s with
 | s0 a=>
  replace h:Y1 n c z q pos ln lost U a=some r:=h;unfold Y1 at h;refine ag FF [0,1,2,3,4,5,6,7,8] H0 (AF 178 [(1,.ref 2 0),(4,.ref 3 0),(6,.ref 5 0),(8,.i U)]) (zHS c q pos ln lost z a) λN=>?_
  revert r;apply gO;exact gc (gi (gc (gi (gi (bi 72 (jg zAr (gc (gn λE=>jw 75 E (jw 78 E (gc (gn λF=>jg F (gn λG=>jg G (jg F (jg G (lF λp=>rr FF [0,1,2,3,4,5,6,7,8] rfl p)))))))))) (lF λp=>rr FF [0,1,2,3,4,5,6,7,8] rfl p))))))
inductive U6 where
 | l1 (BZ:Int) (o4:Ξ)
 | l2 (BO:Int) (o1 o4 o6:Ξ)
def U1 (n:Nat)(self:U6 -> Option (Bool×Ξ))(c:AD)(q:AA)(pos:Ξ)(ln:Nat)(lost:Ξ)(z:Int)(o4:Ξ):Option (Bool×Ξ):=
 bif (decide (z<(c.cells.length:Int))) then
  if (0<=z/\ z<(c.cells.length:Int))/\ AG (z+1)/\ (0<=(z+1)/\ (z+1)<(((((c.cells.length:Int)+1)).toNat:Nat):Int))/\ 0+(((z+1)).toNat)<o4.length/\ (0<=(c.cells.getD z.toNat 0)/\ (c.cells.getD z.toNat 0)<(pos.length:Int))/\ (0<=(pos.getD ((c.cells.getD z.toNat 0).toNat) 0)/\ (pos.getD ((c.cells.getD z.toNat 0).toNat) 0)<9223372036854775808) then
   (CO (U5 n c z q pos ln lost) (Bj (pos.getD ((c.cells.getD z.toNat 0).toNat) 0)) (.s0 (o4.set (0+(((z+1)).toNat)) 100))).bind λk=>
    match k with
    | .s0 W=>
     if AG (z+1) then
      self (.l1 (z+1) W)
     else none
  else none
 else
  (back n c.cells).bind λk=>
   (CO (U4 n c q pos ln lost o4) k (.s0 ((List.replicate ((((c.cells.length:Int)+1)).toNat) (0:Int)).set (0+c.cells.length) 100))).bind λG=>
    match G with
    | .s0 x=>
     self (.l2 0 lost o4 x)
def Yy (n:Nat)(self:U6 -> Option (Bool×Ξ))(c:AD)(q:AA)(pos:Ξ)(ln:Nat)(lost:Ξ)(h:Int)(o1 o4 d:Ξ):Option (Bool×Ξ):=
 bif (decide (h<(c.cells.length:Int))) then
  if (0<=h/\ h<(c.cells.length:Int))/\ (0<=(c.cells.getD h.toNat 0)/\ (c.cells.getD h.toNat 0)<(pos.length:Int))/\ (0<=(pos.getD ((c.cells.getD h.toNat 0).toNat) 0)/\ (pos.getD ((c.cells.getD h.toNat 0).toNat) 0)<9223372036854775808) then
   (CO (Y5 n c h q pos ln o4 d) (Bj (pos.getD ((c.cells.getD h.toNat 0).toNat) 0)) (.s0 o1)).bind λk=>
    match k with
    | .s0 W=>
     if AG (h+1) then
      self (.l2 (h+1) W o4 d)
     else none
  else none
 else
  some (true,o1)
def px (n:Nat)(self:U6 -> Option (Bool×Ξ))(c:AD)(q:AA)(pos:Ξ)(ln:Nat)(lost:Ξ):Option (Bool×Ξ):= if AG ((c.cells.length:Int)+1)/\ ((((c.cells.length:Int)+1):Int)=((c.cells.length:Int)+1)/\ (0:Int)<=((c.cells.length:Int)+1)/\ (((c.cells.length:Int)+1):Int)<=1000000000000)/\ ((0:Int)<=0/\ 0<(((((c.cells.length:Int)+1)).toNat:Nat):Int))/\ 0+0<(List.replicate ((((c.cells.length:Int)+1)).toNat) (0:Int)).length/\ (0<=(c.cells.length:Int)/\ (c.cells.length:Int)<(((((c.cells.length:Int)+1)).toNat:Nat):Int))/\ 0+c.cells.length<(List.replicate ((((c.cells.length:Int)+1)).toNat) (0:Int)).length then self (.l1 0 ((List.replicate ((((c.cells.length:Int)+1)).toNat) (0:Int)).set (0+0) (-1))) else none
def I2 (c:AD)(q:AA)(pos:Ξ)(ln:Nat)(lost:Ξ):Nat -> U6 -> Option (Bool×Ξ)
 | 0,_=>none
 | n+1,.l1 z o4=>U1 n (I2 c q pos ln lost n) c q pos ln lost z o4
 | n+1,.l2 h o1 o4 d=>Yy n (I2 c q pos ln lost n) c q pos ln lost h o1 o4 d
def NL (n:Nat)(c:AD)(q:AA)(pos:Ξ)(ln:Nat)(lost:Ξ):Option (Bool×Ξ):=px n (I2 c q pos ln lost n) c q pos ln lost
def zCU (n B:Nat)(N:Yd 2)(c:AD)(q:AA)(pos:Ξ)(ln:Nat)(lost:Ξ)(r:Bool×Ξ):U6 -> Prop
 | .l1 z o4=>∀ f:Nat,n<=f -> TW B N (FQ Tryz.f109 2 (.bool r.1) [oW c q pos 1 ln,oI r.2]) (Ah f (An (AR Tryz.f109) 0 [])) ⟨AF 178 [(1,.ref 2 0),(4,.ref 3 0),(5,.ref 5 0),(39,.ints c.cells),(40,.i (c.cells.length:Int)),(41,.i z)],[oW c q pos 1 ln,oI lost,oC [.ref 0 0],oC [.msl 4 1 0 ((((c.cells.length:Int)+1)).toNat)],oI o4,oC [.msl 6 1 0 ((((c.cells.length:Int)+1)).toNat)],oI ((List.replicate ((((c.cells.length:Int)+1)).toNat) (0:Int)).set (0+c.cells.length) 100)]⟩
 | .l2 h o1 o4 d=>∀ f:Nat,n<=f -> TW B N (FQ Tryz.f109 2 (.bool r.1) [oW c q pos 1 ln,oI r.2]) (Ah f (An (AR Tryz.f109) 8 [])) ⟨AF 178 [(1,.ref 2 0),(4,.ref 3 0),(5,.ref 5 0),(133,.ints c.cells),(134,.i (c.cells.length:Int)),(135,.i h)],[oW c q pos 1 ln,oI o1,oC [.ref 0 0],oC [.msl 4 1 0 ((((c.cells.length:Int)+1)).toNat)],oI o4,oC [.msl 6 1 0 ((((c.cells.length:Int)+1)).toNat)],oI d]⟩
def zCV (B:Nat)(N:Yd 2)(c:AD)(q:AA)(pos:Ξ)(ln:Nat)(lost:Ξ):Al (I2 c q pos ln lost) (zCU · B N c q pos ln lost):=ia (λ_=>rfl) λn C b r h=>by
 cases b
 case l1 BZ o4=>
  intro f a;refine rd a λf a=>?_
  revert r;apply gO
  exact bi 42 (gc (gi (jt (gc (gw 48 (gc (gi (gc (gi (gc (gi (gn λG=>jc (Lp G (zHY c q pos ln lost o4 BZ)) (cn λk s=>λp r h=>by
   refine gs FF [0,1,2,3,5,7,8,4,6] p (HE (AR Tryz.f109) 57 [f]) (AF 178 [(1,.ref 2 0),(4,.ref 3 0),(5,.ref 4 0),(6,.ref 5 0),(39,.ints c.cells),(40,.i (c.cells.length:Int)),(41,.i BZ),(57,.it 6)]) (zHX c q pos ln lost BZ o4) ?_;refine r0 6 57 #[58] Bw 7 s (zCS n c BZ q pos ln lost) ?_;cases k with
   | s0 W=>
    dsimp only at h
    revert r;apply gO;exact gw 84 (lG FF [0,1,2,3,7,4,8] (C _ _ · f a))))))))))))))) (cn λk s=>jc (zLh s (zHW c q pos ln lost o4)) (cn λd j=>λp r h=>by
   refine gs FF [0,1,2,3,5,7,4,6] p (HE (AR Tryz.f109) 90 []) (AF 178 [(1,.ref 2 0),(4,.ref 3 0),(5,.ref 4 0),(90,.it 5)]) (zHV c q pos ln lost k o4) ?_;refine r0 5 90 #[91,92] Qc 6 j (zCQ n c q pos ln lost o4) ?_;cases d with
   | s0 Es=>
    dsimp only at h
    revert r;apply gO;exact lN FF [0,1,2,3,6,4,7] (C _ _ · n Nat.le.refl)))
 case l2 BO o1 o4 o6=>
  intro f a;refine rd a λf a=>?_
  revert r;apply gO
  exact bi 136 (gc (gi (jt (jt (jg zAo (gc (gi (gn λe=>jc (Lp e (zHU c q pos ln o1 o4 o6 BO)) (cn λk s=>λp r h=>by
   refine gs FF [0,1,2,3,5,7,8,9,4,6] p (HE (AR Tryz.f109) 147 [f]) (AF 178 [(1,.ref 2 0),(4,.ref 3 0),(5,.ref 4 0),(14,.ref 5 0),(15,.ref 6 0),(133,.ints c.cells),(134,.i (c.cells.length:Int)),(135,.i BO),(147,.it 7)]) (zHT c q pos ln o1 BO o4 o6) ?_;refine r0 7 147 #[148] Bw 8 s (zCT n c BO q pos ln o4 o6) ?_;cases k with
   | s0 W=>
    dsimp only at h
    revert r;apply gO;exact gw 177 (lG FF [0,1,2,3,8,4,9] (C _ _ · f a))))))))))) (lE FF [2] [0,1])
def zCP {n:Nat}{c:AD}{q:AA}{pos:Ξ}{ln:Nat}{lost:Ξ}{r:Bool×Ξ}(h:NL n c q pos ln lost=some r):EQ 109 [.ref 0 0] [oW c q pos 1 ln,oI lost] (.bool r.1) [oW c q pos 1 ln,oI r.2] false:=by
 refine ot Tryz.func109 λB N=>?_
 revert r;apply gO;exact jg zAq (gc (gn λa=>jw 25 a (jw 28 a (gc (gn λo=>jg o (jg o (jt (jt (jg (Eq.refl (C8 c q pos ln lost)) (jt (jt (jg (Eq.refl (C8 c q pos ln lost)) (jg o (jt (jt (jg (Eq.refl (C8 c q pos ln lost)) (jg o (jt (jt (jg (Eq.refl (C8 c q pos ln lost)) (jt (jg o (jt (jg (Eq.refl (C8 c q pos ln lost)) (jg o (jt (jt (jg (Eq.refl (C8 c q pos ln lost)) (jg o (jt (jt (jg (Eq.refl (C8 c q pos ln lost)) (jt (jg o (jt (jg (Eq.refl (C8 c q pos ln lost)) (jg o (jg o (jt (jt (jg (Eq.refl (C8 c q pos ln lost)) (jt (jt (jg (Eq.refl (C8 c q pos ln lost)) (jg o (jt (jt (jg (Eq.refl (C8 c q pos ln lost)) (jg o (jt (jt (jg (Eq.refl (C8 c q pos ln lost)) (jg o (jt (jt (jg (Eq.refl (C8 c q pos ln lost)) (jg o (jt (jt (jg (Eq.refl (C8 c q pos ln lost)) (jg o (jg o (jt (jt (jg (Eq.refl (C8 c q pos ln lost)) (jg o (jt (jt (jg (Eq.refl (C8 c q pos ln lost)) (jt (jg o (jt (jg (Eq.refl (C8 c q pos ln lost)) (jg o (jg o (jt (jt (jg (Eq.refl (C8 c q pos ln lost)) (jg o (jt (jt (jg (Eq.refl (C8 c q pos ln lost)) (jg o (jg o (jt (jt (jg (Eq.refl (C8 c q pos ln lost)) (jt (jg o (jt (jg (Eq.refl (C8 c q pos ln lost)) (jg o (jg o (jt (jt (jg (Eq.refl (C8 c q pos ln lost)) (jg o (jg o (jt (jt (jg (Eq.refl (C8 c q pos ln lost)) (jg o (jt (jt (jg (Eq.refl (C8 c q pos ln lost)) (jt (jg o (jt (jg (Eq.refl (C8 c q pos ln lost)) (jg o (jg o (jt (jt (jg (Eq.refl (C8 c q pos ln lost)) (jg o (jt (jt (jg (Eq.refl (C8 c q pos ln lost)) (jg o (jg o (jt (jt (jg (Eq.refl (C8 c q pos ln lost)) (jt (jg o (jt (jg (Eq.refl (C8 c q pos ln lost)) (jg o (jg o (jt (jt (jg (Eq.refl (C8 c q pos ln lost)) (jg zAn (gc (gi (gc (gi (gc (gi (gi (jg (Eq.refl (nH c q pos ln lost)) (lN (tg:=[([],(C8 c q pos ln lost)),([(4,3)],(nH c q pos ln lost))]) FF [0,1,2,5,3,6,4] ((zCV B N c q pos ln lost n) _ _ · n Nat.le.refl)))))))))))))))))))))))))))))))))))))))))))))))))))))))))))))))))))))))))))))))))))))))))))))))))))))))))))))))))))))))))))))))))))))))))))))))
end
section
variable {a:Int}{i:Nat}{l:Ξ}
def QW (h:i<l.length):(l.set i a).getD i 0=a:=by
 grind
theorem getD_set_ne {j:Nat}(h:i≠j):(l.set i a).getD j 0=l.getD j 0:=by
 grind
def Kh (q:AA)(b a e:Int):Int:=if q.values.getD e.toNat 0>b then (if q.values.getD e.toNat 0<a then q.values.getD e.toNat 0 else a) else a
def KQ (q:AA)(b a e:Int):Int:=if q.values.getD e.toNat 0<b then (if q.values.getD e.toNat 0>a then q.values.getD e.toNat 0 else a) else a
def Gh (q:AA)(c:AD)(pos:Ξ):Nat -> Int
 | 0=>-1
 | i+1=>(Bj (Ad c pos i)).foldl (Kh q (Gh q c pos i)) 100
def H8 (q:AA)(c:AD)(pos:Ξ):Nat -> Int
 | 0=>100
 | m+1=>(Bj (Ad c pos (c.cells.length-1-m))).foldl (KQ q (H8 q c pos m)) (-1)
def KY (q:AA)(c:AD)(pos:Ξ)(i:Nat):Int:=H8 q c pos (c.cells.length-i)
def IL (q:AA)(c:AD)(pos:Ξ)(a s:Nat):Bool:=decide (q.values.getD s 0<=Gh q c pos a)||decide (q.values.getD s 0>=KY q c pos (a+1))
def XU (l:Ξ):Nat -> List (Δ)
 | 0=>[]
 | m+1=>((m:Int),l.getD m 0)::XU l m
def wM : ∀ (m n:Nat),m<=l.length -> l.length<=LB -> m+1<=n -> OW l n (.l1 ((m:Int)-1))=some (XU l m)
 | 0,n,_,_,u=>by
  obtain ⟨n,rfl⟩: ∃ k,n=k+1:=⟨n-1,by omega⟩
  show Qn n (OW l n) l _=_
  unfold Qn;rw [zFd (by omega),zGF];rfl
 | m+1,n,hm,a,u=>by
  obtain ⟨n,rfl⟩: ∃ k,n=k+1:=⟨n-1,by omega⟩;have e:((m+1:Nat):Int)-1=(m:Int):=by omega
  have hb:LB<=9223372036854775807:=by decide
  rw [e]
  show Qn n (OW l n) l _=_
  unfold Qn;rw [zEE (by omega),zFR,zEZ ⟨by omega,by omega⟩,zEZ (Aj.2 ⟨by omega,by omega⟩),wM m n (by omega) a (by omega),zCg];rfl
def zLe {n:Nat}(m:l.length<=LB)(u:l.length+1<=n):back n l=some (XU l l.length):=by
 have hb:LB<=9223372036854775807:=by decide
 unfold back lP;rw [zEZ (Aj.2 ⟨by omega,by omega⟩),wM l.length n (zGT _) m u]
section
variable {c:AD} {k:Nat} {pos lost:Ξ} {q:AA}
variable {o:Ξ}{n ln:Nat}
def pp {i:Nat}(N:c.cells.length<=256)(hi:i<c.cells.length)(x:o.length=c.cells.length+1): ∀ (l:Ξ) (a:Int),(∀ e∈l,0<=e/\ e<((q.values.length:Nat):Int)) ->
 CO (U5 n c (i:Int) q pos ln lost) l (.s0 (o.set (i+1) a))=some (.s0 (o.set (i+1) (l.foldl (Kh q (o.getD i 0)) a)))
 | [],_,_=>rfl
 | e::l,a,h=>by
  have s:((((c.cells.length:Nat):Int)+1).toNat:Nat)=c.cells.length+1:=by omega
  have V:(((i:Int)+1).toNat:Nat)=i+1:=by omega
  have w:U5 n c (i:Int) q pos ln lost e (.s0 (o.set (i+1) a))=some (.s0 (o.set (i+1) (Kh q (o.getD i 0) a e))):=by
   unfold U5 p8 Y1
   dsimp only
   simp only [zCg,s,V,zGw,zGZ,x];rw [zEZ ⟨h e (.head _),by omega,by omega⟩,getD_set_ne (by omega),QW (by omega),List.set_set];unfold Kh
   by_cases A:q.values.getD e.toNat 0>o.getD i 0
   ·rw [zEE A,zFR,zEZ ⟨Aj.2 ⟨by omega,by omega⟩,by omega,by omega⟩,zEZ A]
   grind
  simp only [CO];rw [w,zEb,pp N hi x l _ λe J=>h e (.tail _ J)];rfl
variable {o4:Ξ}{x:Int}
def pq {i:Nat}(N:c.cells.length<=256)(hi:i<c.cells.length)(b:o.length=c.cells.length+1): ∀ (l:Ξ) (a:Int),(∀ e∈l,0<=e/\ e<((q.values.length:Nat):Int)) ->
 CO (U3 n c q pos ln lost ((i:Int),x) o4) l (.s0 (o.set i a))=some (.s0 (o.set i (l.foldl (KQ q (o.getD (i+1) 0)) a)))
 | [],_,_=>rfl
 | e::l,a,h=>by
  have s:((((c.cells.length:Nat):Int)+1).toNat:Nat)=c.cells.length+1:=by omega
  have V:(((i:Int)+1).toNat:Nat)=i+1:=by omega
  have w:U3 n c q pos ln lost ((i:Int),x) o4 e (.s0 (o.set i a))=some (.s0 (o.set i (KQ q (o.getD (i+1) 0) a e))):=by
   unfold U3 pz Y0
   dsimp only
   simp only [zCg,s,V,zGw,zGZ,b];rw [zEZ ⟨h e (.head _),Aj.2 ⟨by omega,by omega⟩,by omega,by omega⟩,getD_set_ne (by omega),QW (by omega),List.set_set];unfold KQ
   grind
  simp only [CO];rw [w,zEb,pq N hi b l _ λe J=>h e (.tail _ J)];rfl
def Sm.i63 (hk:k<=16)(h:Sm k x):0<=x/\ x<9223372036854775808:=by
 have h1:=NZ (k:=k) (zGK hk (by decide));obtain ⟨h2,h3⟩:=h;omega
def pw (W:B7 c k pos)(V:Ee q k): ∀ (m:Nat) (o:Ξ),m<=c.cells.length -> o.length=c.cells.length+1 -> (∀ j,m<=j -> j<=c.cells.length -> o.getD j 0=KY q c pos j) ->
 ∃ o',CO (U4 n c q pos pos.length lost o4) (XU c.cells m) (.s0 o)=some (.s0 o')/\ o'.length=c.cells.length+1/\ ∀ j,j<=c.cells.length -> o'.getD j 0=KY q c pos j
 | 0,o,_,x,h=>⟨o,rfl,x,λj d=>h j (zIG _) d⟩
 | m+1,o,v,x,h=>by
  have l:=W.cells m (by omega);have i:=W.at (a:=m) (by omega);have N:=W.len;have s:((((c.cells.length:Nat):Int)+1).toNat:Nat)=c.cells.length+1:=by omega
  have w:U4 n c q pos pos.length lost o4 ((m:Int),c.cells.getD m 0) (.s0 o)=some (.s0 (o.set m (KY q c pos m))):=by
   unfold U4 py Yz
   dsimp only
   simp only [zCg,s,zGw];rw [zEZ ⟨by omega,by omega,l,i.i63 W.k⟩];refine (congrArg (λz=>Option.bind z _) (pq N (by omega) x (Bj (Ad c pos m)) (-1) λe J=>(V.sym W.k i e J).1)).trans ?_;rw [zEb]
   have b:KY q c pos m=(Bj (Ad c pos m)).foldl (KQ q (o.getD (m+1) 0)) (-1):=by
    rw [h (m+1) (zGT _) v];unfold KY;rw [show c.cells.length-m=c.cells.length-(m+1)+1 by omega]
    grind [H8]
   rw [b]
  obtain ⟨o',f,g,p⟩:=pw W V m (o.set m (KY q c pos m)) (by omega) (by rw [zGZ];exact x) λj d WH=>by
   grind
  refine ⟨o',?_,g,p⟩;simp only [XU,CO];rw [w,zEb,f]
def zCL {d:Ξ}(W:B7 c k pos)(V:Ee q k)(A:o4.length=c.cells.length+1)(f:d.length=c.cells.length+1)(hb: ∀ j,j<=c.cells.length -> o4.getD j 0=Gh q c pos j)(ha: ∀ j,j<=c.cells.length -> d.getD j 0=KY q c pos j)(m:lost.length=pos.length)(hn:c.cells.length+1<=n):
 ∃ l,I2 c q pos pos.length lost n (.l2 0 lost o4 d)=some (true,l)/\ CL c pos lost c.cells.length (λa s=>IL q c pos a s=true) l:=by
 have G: ∀ i,i<c.cells.length -> ((i:Nat):Int)<((c.cells.length:Nat):Int):=λi hi=>by omega
 have g:((((c.cells.length:Nat):Int)+1).toNat:Nat)=c.cells.length+1:=by omega
 have Am:=W.len
 have T:=IU (λn (s:Ξ) i=>I2 c q pos pos.length lost n (.l2 i s o4 d)) c.cells.length 1
  (λi s=>CL c pos lost i (λa s=>IL q c pos a s=true) s) (λn i s GJ hi u=>?_) (n:=n) (s:=lost) (by omega) (CL.zero m)
 ·obtain ⟨t,l,N6,_,h,hL⟩:=T;obtain ⟨e,rfl⟩: ∃ e,t=e+1:=⟨t-1,by omega⟩
  simp_all [Yy,I2]
 ·have b:=W.cells i hi;have hr:=W.r64 hi;have o:=W.at hi;have p:(((i:Int)+1).toNat:Nat)=i+1:=by omega
  obtain ⟨l',w,r,v⟩:=sD (n:=n) (q:=q) W hi u.1 Ly.s0 (Y5 n c (i:Int) q pos pos.length o4 d) (IL q c pos i) λs l hs m=>by
   have G5:=V.len;have g1:(0:Int)<=(s:Int)/\ (s:Int)<((q.values.length:Nat):Int):=by omega
   have hk:=W.k;have g2:(0:Int)<=(s:Int)/\ (s:Int)<=((IntKind.i64.bits:Nat):Int):=⟨by omega,by show (s:Int)<=64;omega⟩;obtain ⟨l2,h,_,_⟩:=MF (lost:=l) (n:=n) (ss:=IntKind.i64.wrap (1*2 ^ s)) (c:=c) (q:=q) b.1 b.2 m;unfold IL Y5 qB Y4
   dsimp only
   simp only [zCg,g,p,zGw,A,f]
   grind
  show ∃ s',Yy n (I2 c q pos pos.length lost n) c q pos pos.length lost (i:Int) s o4 d=_/\ _
  unfold Yy;rw [zEE (G i hi),zFR];simp only [zCg];rw [zEZ ⟨⟨by omega,G i hi⟩,b,o.i63 W.k⟩];refine ⟨l',?_,u.step r v⟩;refine (congrArg (λz=>Option.bind z _) w).trans ?_
  grind
def zCM (W:B7 c k pos)(V:Ee q k)(r:lost.length=pos.length)(hn:2*c.cells.length+3<=n):
 ∃ l,NL n c q pos pos.length lost=some (true,l)/\ CL c pos lost c.cells.length (λa s=>IL q c pos a s=true) l:=by
 have G: ∀ i,i<c.cells.length -> ((i:Nat):Int)<((c.cells.length:Nat):Int):=λi hi=>by omega
 have g:((((c.cells.length:Nat):Int)+1).toNat:Nat)=c.cells.length+1:=by omega
 have N:=W.len
 have S:=IU (λn (s:Ξ) i=>I2 c q pos pos.length lost n (.l1 i s)) c.cells.length (c.cells.length+3)
  (λi s=>s.length=c.cells.length+1/\ ∀ j,j<=i -> s.getD j 0=Gh q c pos j) (λn i s _ hi u=>?_) (n:=n) (s:=(List.replicate (c.cells.length+1) (0:Int)).set 0 (-1)) (by omega) ⟨by simp,λj d=>?_⟩
 ·obtain ⟨m,o4,Hh,_,w,A,h⟩:=S;obtain ⟨f,rfl⟩: ∃ f,m=f+1:=⟨m-1,by omega⟩
  have t:NL n c q pos pos.length lost=I2 c q pos pos.length lost n (.l1 0 ((List.replicate (c.cells.length+1) (0:Int)).set 0 (-1))):=by
   unfold NL px;simp only [g,zGw,zH0];rw [zEZ ⟨Aj.2 ⟨by omega,by omega⟩,⟨trivial,by omega,by omega⟩,⟨by omega,by omega⟩,by omega,⟨by omega,by omega⟩,by omega⟩]
  have b:NL n c q pos pos.length lost=U1 f (I2 c q pos pos.length lost f) c q pos pos.length lost (c.cells.length:Int) o4:=t.trans w;unfold U1 at b;rw [zFd (by omega),zGF,zLe (zGK N (by decide)) (by omega),zEb] at b;simp only [g,zGw] at b
  obtain ⟨o6,P,v,D⟩:=pw (lost:=lost) (n:=f) (o4:=o4) W V c.cells.length ((List.replicate (c.cells.length+1) (0:Int)).set c.cells.length 100) (zGT _) (by simp) λj d WH=>by
   obtain rfl:j=c.cells.length:=by omega
   rw [QW (by simp)];unfold KY;rw [Nat.sub_self];rfl
  rw [P,zEb] at b;obtain ⟨l,x,y⟩:=zCL (n:=f) W V A v (λj d=>h j d) D r (by omega);exact ⟨l,b.trans x,y⟩
 ·obtain ⟨A,h⟩:=u;have B:=W.cells i hi;have o:=W.r64 hi;have p:=W.at hi;have C:(((i:Int)+1).toNat:Nat)=i+1:=by omega
  show ∃ s',U1 n (I2 c q pos pos.length lost n) c q pos pos.length lost (i:Int) s=_/\ _
  unfold U1;rw [zEE (G i hi),zFR];simp only [zCg,g,C,zGw];rw [zEZ ⟨⟨by omega,G i hi⟩,o.2,by omega,by omega,B,p.i63 W.k⟩];refine ⟨s.set (i+1) (Gh q c pos (i+1)),?_,by rw [zGZ];exact A,λj d=>?_⟩
  ·refine (congrArg (λz=>Option.bind z _) (pp N hi A (Bj (Ad c pos i)) 100 λe J=>(V.sym W.k p e J).1)).trans ?_;rw [zEb];simp only;rw [zEZ o.2,h i (zGT _)];rfl
  grind
 ·obtain rfl:j=0:=by omega
  rw [QW (by simp)];rfl
end
end
section
variable {k:Nat}
def qs {o p:Type}(G:Ξ -> Int -> Int -> o)(H:Ξ -> Int -> Int -> p)(v:Int -> Int -> o -> Option o)(m:Int -> p -> Option p)(ok:Nat -> Nat -> Bool){a b:Int}(D:Sm k a)(d:Sm k b)(hk:k<=16) 
 (C: ∀ (s t:Nat) (l:Ξ) (x y:Int),s<k -> t<k -> v s t (G l x y)=some (bif ok s t then G l (bits .or .i64 x (IntKind.i64.wrap (1*2 ^ s))) (bits .or .i64 y (IntKind.i64.wrap (1*2 ^ t))) else G l x y))
 (h2: ∀ (s:Nat) (l:Ξ) (x y x' B:Int),s<k -> CO (v s) (Bj b) (G l x y)=some (G l x' B) -> m s (H l x y)=some (H l x' B)) (l:Ξ):
 ∃ x y,CO m (Bj a) (H l 0 0)=some (H l x y)/\ (∀ u,tb x u=true↔tb a u=true/\ ∃ t,tb b t=true/\ ok u t=true)/\ (∀ u,tb y u=true↔tb b u=true/\ ∃ s,tb a s=true/\ ok s u=true):=by
 have Z:k<=62:=zGK hk (by decide)
 have q: ∀ (s:Nat) (x y:Int),s<k -> ∃ x' B,CO (v s) (Bj b) (G l x y)=some (G l x' B)/\ (∀ u,tb x' u=true↔tb x u=true∨(u=s/\ ∃ t,tb b t=true/\ ok s t=true))/\ (∀ u,tb B u=true↔tb y u=true∨(tb b u=true/\ ok s u=true)):=by
  intro s x y j
  have key:=bX (f:=v s) (λpre st=>∃ x' B,st=G l x' B/\ (∀ u,tb x' u=true↔tb x u=true∨(u=s/\ ∃ t:Nat,(t:Int)∈pre/\ ok s t=true))/\ (∀ u:Nat,tb B u=true↔tb y u=true∨((u:Int)∈pre/\ ok s u=true)))
   (Bj b) [] (G l x y) ⟨x,y,rfl,λu=>⟨.inl,λh=>h.elim id λ⟨_,t,h,_⟩=>(by cases h)⟩,λu=>⟨.inl,λh=>h.elim id λ⟨h,_⟩=>(by cases h)⟩⟩ ?_
  ·obtain ⟨st,e,x',B,rfl,g,hy⟩:=key;refine ⟨x',B,e,λu=>?_,λu=>?_⟩
   ·rw [g,zIg];constructor
    ·rintro (h | ⟨w,t,h,c⟩)
     ·exact .inl h
     ·obtain ⟨N,z,_,A⟩:=(Fq d Z).1 h;have:t=N:=by omega
      grind
    ·rintro (h | ⟨w,t,h,c⟩)
     ·exact .inl h
     ·exact .inr ⟨w,t,(Fq d Z).2 ⟨t,rfl,zGa λi=>(by rw [d.hi i] at h;cases h),h⟩,c⟩
   ·rw [hy,zIg];constructor
    ·rintro (h | ⟨h,c⟩)
     ·exact .inl h
     ·obtain ⟨N,z,_,A⟩:=(Fq d Z).1 h;have:u=N:=by omega
      grind
    ·rintro (h | ⟨h,c⟩)
     ·exact .inl h
     ·exact .inr ⟨(Fq d Z).2 ⟨u,rfl,zGa λi=>(by rw [d.hi i] at h;cases h),h⟩,c⟩
  ·rintro pre e _ J ⟨x',B,rfl,g,hy⟩;obtain ⟨t,rfl,X,_⟩:=(Fq d Z).1 J;rw [C s t l x' B j X];cases ho:ok s t
   ·grind
   ·rw [zFR];refine ⟨_,rfl,_,_,rfl,λu=>?_,λu=>?_⟩
    ·rw [Ou,zGq,g,Io (by omega),zGM]
     grind
    ·rw [Ou,zGq,hy,Io (by omega),zGM]
     grind
 have key:=bX (f:=m) (λpre st=>∃ x y,st=H l x y/\ (∀ u:Nat,tb x u=true↔(u:Int)∈pre/\ ∃ t,tb b t=true/\ ok u t=true)/\ (∀ u,tb y u=true↔tb b u=true/\ ∃ s:Nat,(s:Int)∈pre/\ ok s u=true))
  (Bj a) [] (H l 0 0) ⟨0,0,rfl,λu=>⟨λh=>absurd h IG,λ⟨h,_⟩=>(by cases h)⟩,λu=>⟨λh=>absurd h IG,λ⟨_,s,h,_⟩=>(by cases h)⟩⟩ ?_
 ·obtain ⟨st,e,x,y,rfl,g,hy⟩:=key;refine ⟨x,y,e,λu=>?_,λu=>?_⟩
  ·rw [g,zIg];constructor
   ·rintro ⟨h,h2⟩;obtain ⟨N,z,_,A⟩:=(Fq D Z).1 h;have:u=N:=by omega
    subst this;exact ⟨A,h2⟩
   ·rintro ⟨h,h2⟩;exact ⟨(Fq D Z).2 ⟨u,rfl,zGa λi=>(by rw [D.hi i] at h;cases h),h⟩,h2⟩
  ·rw [hy,zIg];constructor
   ·rintro ⟨h0,s,h,c⟩;obtain ⟨N,z,_,A⟩:=(Fq D Z).1 h;have:s=N:=by omega
    grind
   ·rintro ⟨h0,s,h,c⟩;exact ⟨h0,s,(Fq D Z).2 ⟨s,rfl,zGa λi=>(by rw [D.hi i] at h;cases h),h⟩,c⟩
 ·rintro pre e _ J ⟨x,y,rfl,g,hy⟩;obtain ⟨s,rfl,j,_⟩:=(Fq D Z).1 J;obtain ⟨x',B,w,E,r⟩:=q s x y j;refine ⟨_,h2 s l x y x' B j w,x',B,rfl,λu=>?_,λu=>?_⟩
  ·rw [E,g];constructor
   ·grind
   ·rintro ⟨h,h2⟩;rcases zIF.1 h with h | h
    ·exact .inl ⟨h,h2⟩
    ·have:u=s:=by have:=zGh.1 h;omega
     grind
  ·rw [r,hy];constructor
   ·grind
   ·rintro ⟨h,n,h2,c⟩;rcases zIF.1 h2 with h2 | h2
    ·exact .inl ⟨h,n,h2,c⟩
    ·have:n=s:=by have:=zGh.1 h2;omega
     grind
end
def Te {s:Nat}(j:s<64)(x:Int):(bits .and .i64 (IntKind.i64.wrap (1*2 ^ s)) x==0)= !tb x s:=by
 rw [zIh,zGk,M6 (GO _ _ _)];constructor
 ·intro h;have:=h s j;rw [Iq,Io j,zEE rfl,zIy] at this;rw [this];rfl
 ·intro h i hi;rw [Iq,Io j]
  grind
def I6 (q:AA)(c:AD)(s t:Nat):Bool:=decide ((if 0-(q.values.getD s 0-q.values.getD t 0)>q.values.getD s 0-q.values.getD t 0 then 0-(q.values.getD s 0-q.values.getD t 0) else q.values.getD s 0-q.values.getD t 0)>=c.lo)
def IS (c:AD)(s t:Nat):Bool:=(!tb c.set s|| !tb c.other t)&&(!tb c.set t|| !tb c.other s)
def Gs (ok:Nat -> Nat -> Bool)(c:AD)(pos:Ξ)(a s:Nat):Prop:= if a=0 then ¬ ∃ t,tb (Ad c pos 1) t=true/\ ok s t=true else ¬ ∃ t,tb (Ad c pos 0) t=true/\ ok t s=true
section
variable {c:AD} {k:Nat} {pos lost:Ξ} {q:AA}
variable {s t n ln:Nat}
def zLu (V:Ee q k)(j:s<k)(X:t<k):cu n s t c q pos ln lost=some (I6 q c s t,lost):=by
 have h1:=V.val s j;have h2:=V.val t X;have h3:=V.len;unfold cu wh;simp only [zCg];rw [zEZ ⟨by omega,by omega,Aj.2 ⟨by omega,by omega⟩,Aj.2 ⟨by omega,by omega⟩⟩];rfl
def zEH (j:s<64)(X:t<64):Zy n s t c q pos ln lost=some (IS c s t,lost):=by
 have g: ∀ s:Nat,s<64 -> (0:Int)<=(s:Int)/\ (s:Int)<=((IntKind.i64.bits:Nat):Int):=λs j=>⟨by omega,by show (s:Int)<=64;omega⟩
 unfold Zy rT;simp only [zCg];rw [zEZ ⟨g s j,g t X⟩,Te j,Te j,Te X,Te X]
 grind [IS]
def qt (W:B7 c k pos)(e:c.cells.length=2)(m:lost.length=pos.length)(ok:Nat -> Nat -> Bool){x y:Int} 
 (o: ∀ u,tb x u=true↔tb (Ad c pos 0) u=true/\ ∃ t,tb (Ad c pos 1) t=true/\ ok u t=true) (hy: ∀ u,tb y u=true↔tb (Ad c pos 1) u=true/\ ∃ s,tb (Ad c pos 0) s=true/\ ok s u=true):
 ∃ S l,D8 n (c.cells.getD 0 0) (bits .xor .i64 (-1) x) c q pos pos.length lost=some S/\ D8 n (c.cells.getD 1 0) (bits .xor .i64 (-1) y) c q pos pos.length S=some l/\ CL c pos lost c.cells.length (Gs ok c pos) l:=by
 have g:=W.cells 0 (by omega);have w:=W.cells 1 (by omega);obtain ⟨S,p,d,v⟩:=MF (lost:=lost) (n:=n) (ss:=bits .xor .i64 (-1) x) (c:=c) (q:=q) g.1 g.2 m;obtain ⟨l,z,r,B⟩:=MF (lost:=S) (n:=n) (ss:=bits .xor .i64 (-1) y) (c:=c) (q:=q) w.1 w.2 d;refine ⟨S,l,p,z,?_⟩;have G: ∀ {a:Nat} {s:Nat},a<c.cells.length -> tb (Ad c pos a) s=true -> s<64:=λ{a s} ha h=>zGa λC=>by rw [Ln C] at h;cases h
 rw [e];refine CL.step (i:=1) (l:=S) (CL.step (i:=0) (l:=lost) (CL.zero m) d λj s=>?_) r λj s=>?_
 ·rw [v,zGq,zEh,zEh,zGM];constructor
  ·rintro (h | ⟨rfl,b,A⟩)
   ·exact .inl h
   ·refine .inr ⟨rfl,b,?_⟩;rw [X1 _ (G (a:=0) (by omega) b)] at A;unfold Gs;rw [zEZ rfl];intro f;rw [(o s).2 ⟨b,f⟩] at A;cases A
  ·rintro (h | ⟨rfl,b,A⟩)
   ·exact .inl h
   ·refine .inr ⟨rfl,b,?_⟩;rw [X1 _ (G (a:=0) (by omega) b)];unfold Gs at A
    grind
 ·rw [B,zGq,zEh,zEh,zGM];constructor
  ·rintro (h | ⟨rfl,b,A⟩)
   ·exact .inl h
   ·refine .inr ⟨rfl,b,?_⟩;rw [X1 _ (G (a:=1) (by omega) b)] at A;unfold Gs;rw [zGN (by decide)];intro f;rw [(hy s).2 ⟨b,f⟩] at A;cases A
  ·rintro (h | ⟨rfl,b,A⟩)
   ·exact .inl h
   ·refine .inr ⟨rfl,b,?_⟩;rw [X1 _ (G (a:=1) (by omega) b)];unfold Gs at A
    grind
def zLv (W:B7 c k pos)(V:Ee q k)(d:c.cells.length=2)(m:lost.length=pos.length):
 ∃ l,Qs n c q pos pos.length lost=some (true,l)/\ CL c pos lost c.cells.length (Gs (I6 q c) c pos) l:=by
 have f:=W.cells 0 (by omega);have w:=W.cells 1 (by omega);have F:=W.at (a:=0) (by omega);have b:=W.at (a:=1) (by omega);have hk:=W.k;have g: ∀ s:Nat,s<k -> (0:Int)<=(s:Int)/\ (s:Int)<=((IntKind.i64.bits:Nat):Int):=λs j=>⟨by omega,by show (s:Int)<=64;omega⟩
 obtain ⟨x,y,e,h,hy⟩:=qs L9.s0 MA.s0 (Zd n c q pos pos.length) (Ze n c q pos pos.length) (I6 q c) F b hk
  (λs t l x y j X=>by
   unfold Zd rA Zc
   dsimp only
   rw [zLu V j X,zEb]
   grind)
  (λs l x y x' y' j J=>by
   unfold Ze q9 Zb
   dsimp only
   rw [zEZ (show 0<=pos.getD (c.cells.getD 1 0).toNat 0/\ pos.getD (c.cells.getD 1 0).toNat 0<9223372036854775808 from b.i63 hk)];refine (congrArg (λz=>Option.bind z _) J).trans ?_;rfl) lost
 obtain ⟨l1,l,e1,e2,i⟩:=qt (n:=n) (q:=q) W d m (I6 q c) h hy;refine ⟨l,?_,i⟩;unfold Qs lj fl q8;rw [zEZ ⟨by omega,by omega,f,w,F.i63 hk⟩];refine (congrArg (λz=>Option.bind (Option.bind z _) _) e).trans ?_
 grind
def zEI (W:B7 c k pos)(d:c.cells.length=2)(m:lost.length=pos.length):
 ∃ l,PP n c q pos pos.length lost=some (true,l)/\ CL c pos lost c.cells.length (Gs (IS c) c pos) l:=by
 have f:=W.cells 0 (by omega);have w:=W.cells 1 (by omega);have F:=W.at (a:=0) (by omega);have b:=W.at (a:=1) (by omega);have hk:=W.k;have g: ∀ s:Nat,s<k -> (0:Int)<=(s:Int)/\ (s:Int)<=((IntKind.i64.bits:Nat):Int):=λs j=>⟨by omega,by show (s:Int)<=64;omega⟩
 obtain ⟨x,y,e,h,hy⟩:=qs L7.s0 L8.s0 (ZZ n c q pos pos.length) (Za n c q pos pos.length) (IS c) F b hk
  (λs t l x y j ht=>by
   unfold ZZ qx ZY
   dsimp only
   rw [zEH (by omega) (by omega),zEb]
   grind)
  (λs l x y x' y' j J=>by
   unfold Za qw ZX
   dsimp only
   rw [zEZ (show 0<=pos.getD (c.cells.getD 1 0).toNat 0/\ pos.getD (c.cells.getD 1 0).toNat 0<9223372036854775808 from b.i63 hk)];refine (congrArg (λz=>Option.bind z _) J).trans ?_;rfl) lost
 obtain ⟨l1,l,e1,e2,i⟩:=qt (n:=n) (q:=q) W d m (IS c) h hy;refine ⟨l,?_,i⟩;unfold PP gJ fk qv;rw [zEZ ⟨by omega,by omega,f,w,F.i63 hk⟩];refine (congrArg (λz=>Option.bind (Option.bind z _) _) e).trans ?_
 grind
end
section
set_option maxRecDepth 100000
set_option maxHeartbeats 40000000
def nm:ST:=.rd 0 (.rd 1 (.rd 2 (.rd 3 (.rd 4 (.rd 6 (.rd 7 (.rd 8 (.rd 9 (.rd 10 (.ef 5 (.rd 12 (.ef 11 (.rd 13 (.fin [0,1] [0,2,3])) (.no))) (.ef 11 (.ef 5 (.rd 12 (.rd 13 (.fin [1,0] [0,2,3]))) (.no)) (.no))))))))))))
def zA9:B3 (BA Tryz.f130 1) [5,11] nm:=by unfold B3;kernel_rfl
def nl:ST:=.rd 0 (.rd 1 (.rd 2 (.rd 3 (.rd 4 (.rd 5 (.rd 6 (.rd 7 (.rd 8 (.rd 9 (.rd 10 (.rd 11 (.rd 12 (.rd 13 (.rd 14 (.rd 15 (.rd 16 (.rd 17 (.rd 18 (.rd 19 (.rd 20 (.rd 21 (.rd 22 (.rd 23 (.rd 24 (.rd 25 (.rd 26 (.rd 27 (.rd 28 (.rd 29 (.rd 30 (.rd 31 (.rd 32 (.ef 33 (.rd 34 (.ef 35 (.fin [] [0,2,3,30,31,32]) (.no))) (.no))))))))))))))))))))))))))))))))))
def zA8:B3 (BA Tryz.f130 5) [33] nl:=by unfold B3;kernel_rfl
def Kn:Be:=λi=>match i with
 | 1=>.tre [5,11] nm
 | 5=>.tre [33] nl
 | _=>.no
def db (pos:Ξ)(c:AD)(q:AA)(ln:Nat)(lost:Ξ):St:=⟨(AF 120 [(0,.ref 0 0),(2,.msl 2 1 0 pos.length),(3,.msl 3 1 0 pos.length)]),([oW c q pos 1 ln,oI lost,some (.bools (List.replicate pos.length false)),some (.bools (List.replicate pos.length false))]:DH)⟩
def nJ (pos:Ξ)(c:AD)(D:Int)(q:AA)(ln:Nat)(lost:Ξ)(F t:Ω):St:=⟨(AF 120 [(0,.ref 0 0),(2,.msl 2 1 0 pos.length),(3,.msl 3 1 0 pos.length),(30,.ints c.cells),(31,.i (c.cells.length:Int)),(32,.i D)]),([oW c q pos 1 ln,oI lost,some (.bools (F.set (0+((c.cells.getD D.toNat 0).toNat)) ((bits .and .i64 (pos.getD ((c.cells.getD D.toNat 0).toNat) 0) c.set) != 0))),some (.bools (t.set (0+((c.cells.getD D.toNat 0).toNat)) ((bits .andNot .i64 (pos.getD ((c.cells.getD D.toNat 0).toNat) 0) c.set)==0)))]:DH)⟩
def tP (c:AD)(q:AA)(pos:Ξ)(ln:Nat)(lost:Ξ)(F t:Ω):DH:=[oW c q pos 1 ln,oI lost,some (.bools F),some (.bools t)]
def tO (c:AD)(q:AA)(pos:Ξ)(ln:Nat)(lost:Ξ)(t:Ω)(G:Ω):DH:=[oW c q pos 1 ln,oI lost,none,some (.bools t),some (.bools G)]
inductive SL where
 | l1 (Df:Int) (o2 o3:Ω)
 | l2 (Fy:Ω) (x8:Nat) (Ii:Ξ) (Mz HK:Int) (o2 o3:Ω)
 | l3 (Fy:Ω) (x8:Nat) (Ll Dx:Int) (o1:Ξ) (o2 o3:Ω)
def Z0 (n:Nat)(self:SL -> Option (Ω×Ω×Bool×Ξ))(c:AD)(q:AA)(pos:Ξ)(ln:Nat)(lost:Ξ)(D:Int)(F t:Ω):Option (Ω×Ω×Bool×Ξ):= bif (decide (D<(c.cells.length:Int))) then if (0<=D/\ D<(c.cells.length:Int))/\ (0<=(c.cells.getD D.toNat 0)/\ (c.cells.getD D.toNat 0)<(pos.length:Int))/\ 0+((c.cells.getD D.toNat 0).toNat)<F.length/\ 0+((c.cells.getD D.toNat 0).toNat)<t.length/\ AG (D+1) then self (.l1 (D+1) (F.set (0+((c.cells.getD D.toNat 0).toNat)) ((bits .and .i64 (pos.getD ((c.cells.getD D.toNat 0).toNat) 0) c.set) != 0)) (t.set (0+((c.cells.getD D.toNat 0).toNat)) ((bits .andNot .i64 (pos.getD ((c.cells.getD D.toNat 0).toNat) 0) c.set)==0))) else none else if pos.length=t.length then (ae n t true).bind λk=> bif (decide (k<0)) then if pos.length=F.length then some (F,t,false,lost) else none else if pos.length=F.length then (Qg n F).bind λG=> (TY n q.nbrs F k).bind λy3=> self (.l2 F G.length y3.1 (y3.1.length:Int) 0 t G) else none else none
def Vd (n:Nat)(self:SL -> Option (Ω×Ω×Bool×Ξ))(c:AD)(q:AA)(pos:Ξ)(ln:Nat)(lost:Ξ)(p:Ω)(x8:Nat)(u:Ξ)(E V:Int)(F t:Ω):Option (Ω×Ω×Bool×Ξ):= bif (decide (V<E)) then if (0<=V/\ V<(u.length:Int))/\ (0<=(u.getD V.toNat 0)/\ (u.getD V.toNat 0)<(x8:Int))/\ 0+((u.getD V.toNat 0).toNat)<t.length/\ AG (V+1) then self (.l2 p x8 u E (V+1) F (t.set (0+((u.getD V.toNat 0).toNat)) false)) else none else self (.l3 p x8 (x8:Int) 0 lost F t)
def Zz (n:Nat)(self:SL -> Option (Ω×Ω×Bool×Ξ))(c:AD)(q:AA)(pos:Ξ)(ln:Nat)(lost:Ξ)(p:Ω)(x8:Nat)(y Z:Int)(o1:Ξ)(F t:Ω):Option (Ω×Ω×Bool×Ξ):= bif (decide (Z<y)) then if (0<=Z/\ Z<(x8:Int))/\ 0+Z.toNat<t.length then bif (t.getD (0+Z.toNat) false) then (D8 n Z c.set c q pos ln o1).bind λk=> if AG (Z+1) then self (.l3 p x8 y (Z+1) k F t) else none else if AG (Z+1) then self (.l3 p x8 y (Z+1) o1 F t) else none else none else if pos.length=F.length then some (p,F,true,o1) else none
def rX (n:Nat)(self:SL -> Option (Ω×Ω×Bool×Ξ))(c:AD)(q:AA)(pos:Ξ)(ln:Nat)(lost:Ξ):Option (Ω×Ω×Bool×Ξ):= if ((pos.length:Int):Int)=(pos.length:Int)/\ 0<=(pos.length:Int)/\ ((pos.length:Int):Int)<=1000000000000 then self (.l1 0 (List.replicate pos.length false) (List.replicate pos.length false)) else none
def FZ (c:AD)(q:AA)(pos:Ξ)(ln:Nat)(lost:Ξ):Nat -> SL -> Option (Ω×Ω×Bool×Ξ)
 | 0,_=>none
 | n+1,.l1 D F t=>Z0 n (FZ c q pos ln lost n) c q pos ln lost D F t
 | n+1,.l2 p x8 u E V F t=>Vd n (FZ c q pos ln lost n) c q pos ln lost p x8 u E V F t
 | n+1,.l3 p x8 y Z o1 F t=>Zz n (FZ c q pos ln lost n) c q pos ln lost p x8 y Z o1 F t
def PS (n:Nat)(c:AD)(q:AA)(pos:Ξ)(ln:Nat)(lost:Ξ):Option (Ω×Ω×Bool×Ξ):=rX n (FZ c q pos ln lost n) c q pos ln lost
def zES (n B:Nat)(N:Yd 2)(c:AD)(q:AA)(pos:Ξ)(ln:Nat)(lost:Ξ)(r:Ω×Ω×Bool×Ξ):SL -> Prop
 | .l1 D F t=>∀ f:Nat,n<=f -> TW B N (FQ Tryz.f130 2 (.tup 3 (L1 [.bools r.1,.bools r.2.1,.bool r.2.2.1])) [oW c q pos 1 ln,oI r.2.2.2]) (Ah f (An (AR Tryz.f130) 0 [])) ⟨AF 120 [(0,.ref 0 0),(2,.msl 2 1 0 pos.length),(3,.msl 3 1 0 pos.length),(30,.ints c.cells),(31,.i (c.cells.length:Int)),(32,.i D)],[oW c q pos 1 ln,oI lost,some (.bools F),some (.bools t)]⟩
 | .l2 p x8 u E V F t=>∀ f:Nat,n<=f -> TW B N (FQ Tryz.f130 2 (.tup 3 (L1 [.bools r.1,.bools r.2.1,.bool r.2.2.1])) [oW c q pos 1 ln,oI r.2.2.2]) (Ah f (An (AR Tryz.f130) 2 [])) ⟨AF 120 [(0,.ref 0 0),(2,.bools p),(3,.msl 2 1 0 pos.length),(8,.msl 3 1 0 x8),(90,.ints u),(91,.i E),(92,.i V)],[oW c q pos 1 ln,oI lost,some (.bools F),some (.bools t)]⟩
 | .l3 p x8 y Z o1 F t=>∀ f:Nat,n<=f -> TW B N (FQ Tryz.f130 2 (.tup 3 (L1 [.bools r.1,.bools r.2.1,.bool r.2.2.1])) [oW c q pos 1 ln,oI r.2.2.2]) (Ah f (An (AR Tryz.f130) 4 [])) ⟨AF 120 [(0,.ref 0 0),(2,.bools p),(3,.msl 2 1 0 pos.length),(8,.msl 3 1 0 x8),(101,.i y),(102,.i Z)],[oW c q pos 1 ln,oI o1,some (.bools F),some (.bools t)]⟩
def zET (B:Nat)(N:Yd 2)(c:AD)(q:AA)(pos:Ξ)(ln:Nat)(lost:Ξ):Al (FZ c q pos ln lost) (zES · B N c q pos ln lost):=ia (λ_=>rfl) λn C d r h=>by
 cases d
 case l1 Df o2 o3=>
  intro f a;refine rd a λf a=>?_
  revert r;apply gO
  exact bi 33 (gc (gi (jg zA8 (gc (gn λo=>jg o (jg o (jg o (gc (gi (jg o (gc (gi (jg (Eq.refl (nJ pos c Df q ln lost o2 o3)) (gw 70 (lG (tg:=[([(33,2)],(nJ pos c Df q ln lost o2 o3))]) Kn [0,1,2,3] (C _ _ · f a)))))))))))))))) (gn λb=>cn λk s=>jc (sb [.msl 3 1 0 pos.length,.bool true] (zGB s) (tP c q pos ln lost o2 o3) ⟨Az.bools rfl b,Az.plain (by kernel_rfl),trivial⟩) (bi 74 (gn λo=>lF λp=>ez Kn [2,3,4] [0,1,2,3] p [2,3] (H0.g o |>.g b)) (gn λo=>cn λG j=>jc (ES.snapNew (ds:=[.msl 2 1 0 pos.length]) (vh j) (tP c q pos ln lost o2 o3) ⟨Az.bools rfl o,trivial⟩ rfl) (λp r h=>by
   refine gz (Ab 11 Kn) [0,1,2,3,4] p [2] (H0.g o) (EP (AR Tryz.f130) 11 []) (AF 120 [(0,.ref 0 0),(2,.bools o2),(3,.msl 3 1 0 pos.length),(7,.i k),(8,.msl 4 1 0 G.length)]) (tO c q pos ln lost o3 G) ?_;revert r;apply gO;exact cf zK0 (tO c q pos ln lost o3 G) λ_=>lN Kn [0,1,3,4] (C _ _ · n Nat.le.refl)))))
 case l2 Fy x8 Ii Mz HK o2 o3=>
  intro f a;refine rd a λf a=>?_
  revert r;apply gO;exact bi 93 (gc (gi (gc (gi (gc (gi (gw 99 (lG Kn [0,1,2,3] (C _ _ · f a))))))))) (lN Kn [0,1,2,3] (C _ _ · n Nat.le.refl))
 case l3 Fy x8 Ll Dx o1 o2 o3=>
  intro f a;refine rd a λf a=>?_
  revert r;apply gO;exact bi 103 (gc (gi (gi (bi 108 (ce Gy [0,1] [oW c q pos 1 ln,oI o1,some (.bools o2),some (.bools o3)] λ_=>gw 117 (lG Kn [0,1,2,3] (C _ _ · f a))) (gw 117 (lG Kn [0,1,2,3] (C _ _ · f a))))))) (gn λb=>lF λp=>ez Kn [2,3,4] [0,1,2] p [2] (H0.g b))
variable {lost pos:Ξ}{ln n:Nat}{q:AA}{c:AD}
def rW {r:Ω×Ω×Bool×Ξ}(h:PS n c q pos ln lost=some r):EQ 130 [.ref 0 0] [oW c q pos 1 ln,oI lost] (.tup 3 (L1 [.bools r.1,.bools r.2.1,.bool r.2.2.1])) [oW c q pos 1 ln,oI r.2.2.2] false:=by
 refine ot Tryz.func130 λB N=>?_
 revert r;apply gO;exact jg zA9 (gn λa=>jg a (jg a (jg (Eq.refl (db pos c q ln lost)) (jg a (jg a (jg (Eq.refl (db pos c q ln lost)) (lN (tg:=[([],(db pos c q ln lost))]) Kn [0,1,2,3] ((zET B N c q pos ln lost n) _ _ · n Nat.le.refl))))))))
inductive cK where
 | l1 (x3 x4:Ω) (x5:Bool) (Ae BN:Int) (o1:Ξ)
def XH (n:Nat)(self:cK -> Option (Bool×Ξ))(c:AD)(q:AA)(pos:Ξ)(ln:Nat)(lost:Ξ)(H K:Ω)(Q:Bool)(L m:Int)(o1:Ξ):Option (Bool×Ξ):= bif (decide (m<L)) then bif (!Q) then if AG (m+1) then self (.l1 H K Q L (m+1) o1) else none else if 0<=m/\ m<(H.length:Int) then bif (!(H.getD m.toNat false)) then if AG (m+1) then self (.l1 H K Q L (m+1) o1) else none else if 0<=m/\ m<(K.length:Int) then bif (K.getD m.toNat false) then if AG (m+1) then self (.l1 H K Q L (m+1) o1) else none else (Oy n q.nbrs H K m).bind λk=> bif k.1 then (Hc n m c q pos ln o1).bind λG=> if AG (m+1) then self (.l1 H K Q L (m+1) G) else none else if AG (m+1) then self (.l1 H K Q L (m+1) o1) else none else none else none else some (true,o1)
def zKr (n:Nat)(self:cK -> Option (Bool×Ξ))(c:AD)(q:AA)(pos:Ξ)(ln:Nat)(lost:Ξ):Option (Bool×Ξ):= (PS n c q pos ln lost).bind λk=> self (.l1 k.1 k.2.1 k.2.2.1 (k.1.length:Int) 0 k.2.2.2)
def OT (c:AD)(q:AA)(pos:Ξ)(ln:Nat)(lost:Ξ):Nat -> cK -> Option (Bool×Ξ)
 | 0,_=>none
 | n+1,.l1 H K Q L m o1=>XH n (OT c q pos ln lost n) c q pos ln lost H K Q L m o1
def cL (n:Nat)(c:AD)(q:AA)(pos:Ξ)(ln:Nat)(lost:Ξ):Option (Bool×Ξ):=zKr n (OT c q pos ln lost n) c q pos ln lost
def zKs (n B:Nat)(N:Yd 2)(c:AD)(q:AA)(pos:Ξ)(ln:Nat)(lost:Ξ)(r:Bool×Ξ):cK -> Prop
 | .l1 H K Q L m o1=>∀ f:Nat,n<=f -> TW B N (FQ Tryz.f113 2 (.bool r.1) [oW c q pos 1 ln,oI r.2]) (Ah f (An (AR Tryz.f113) 0 [])) ⟨AF 52 [(0,.ref 0 0),(3,.bools H),(4,.bools K),(5,.bool Q),(16,.i L),(17,.i m)],[oW c q pos 1 ln,oI o1]⟩
def zKt (B:Nat)(N:Yd 2)(c:AD)(q:AA)(pos:Ξ)(ln:Nat)(lost:Ξ):Al (OT c q pos ln lost) (zKs · B N c q pos ln lost):=ia (λ_=>rfl) λn C b r h=>by
 cases b
 case l1 x3 x4 x5 Ae BN o1=>
  intro f a;refine rd a λf a=>?_
  revert r;apply gO;exact bi 18 (bi 21 (gw 51 (lG AC [0,1] (C _ _ · f a))) (gi (bi 27 (gw 51 (lG AC [0,1] (C _ _ · f a))) (gi (bi 33 (gw 51 (lG AC [0,1] (C _ _ · f a))) (cf zA [oW c q pos 1 ln,oI o1] λ_=>bi 45 (ce Nc [0,1] [oW c q pos 1 ln,oI o1] λ_=>gw 51 (lG AC [0,1] (C _ _ · f a))) (gw 51 (lG AC [0,1] (C _ _ · f a))))))))) (lE AC [2] [0,1])
variable {r:Bool×Ξ}
def zKq (h:cL n c q pos ln lost=some r):EQ 113 [.ref 0 0] [oW c q pos 1 ln,oI lost] (.bool r.1) [oW c q pos 1 ln,oI r.2] false:=by
 refine ot Tryz.func113 λB N=>?_
 revert r;apply gO;exact ce rW [0,1] [oW c q pos 1 ln,oI lost] λ_=>lN AC [0,1] ((zKt B N c q pos ln lost n) _ _ · n Nat.le.refl)
inductive Nj where
 | l1 (x3 x4:Ω) (x20 x21:Int) (o1:Ξ)
 | l2 (x3 x4:Ω) (x8 x20 x21:Int) (Br:Ξ) (Ei BM:Int) (o1:Ξ)
 | l3 (x3 x4:Ω) (x7:Nat) (x8 x20 x21:Int) (Br:Ξ) (Ei BM:Int) (o1 o2:Ξ)
 | l4 (x3 x4:Ω) (x7:Nat) (x8 x20 x21:Int) (ID:Nat) (IB Ap:Int) (o1 o2:Ξ)
def Z7 (n:Nat)(self:Nj -> Option (Bool×Ξ))(c:AD)(q:AA)(pos:Ξ)(ln:Nat)(lost:Ξ)(H K:Ω)(x20 x21:Int)(o1:Ξ):Option (Bool×Ξ):= bif (decide (x21<x20)) then if 0<=x21/\ x21<(K.length:Int) then bif (!(K.getD x21.toNat false)) then if AG (x21+1) then self (.l1 H K x20 (x21+1) o1) else none else if 0<=x21/\ x21<(q.nbrs.length:Int) then self (.l2 H K 0 x20 x21 (q.nbrs.getD x21.toNat []) (((q.nbrs.getD x21.toNat []).length:Nat):Int) 0 o1) else none else none else some (true,o1)
def Vn (n:Nat)(self:Nj -> Option (Bool×Ξ))(c:AD)(q:AA)(pos:Ξ)(ln:Nat)(lost:Ξ)(H K:Ω)(x8 x20 x21:Int)(R:Ξ)(O j:Int)(o1:Ξ):Option (Bool×Ξ):= bif (decide (j<O)) then if (0<=j/\ j<(R.length:Int))/\ (0<=(R.getD j.toNat 0)/\ (R.getD j.toNat 0)<(H.length:Int)) then bif (H.getD ((R.getD j.toNat 0).toNat) false) then if ((0=0/\ 1=([R.getD j.toNat 0]:Ξ).length)/\ 0<([R.getD j.toNat 0]:Ξ).length/\ ([R.getD j.toNat 0]:Ξ).length<=Ay)/\ (0<=(R.getD j.toNat 0)/\ (R.getD j.toNat 0)<(K.length:Int)) then bif (K.getD ((R.getD j.toNat 0).toNat) false) then if AG (x8+1)/\ AG (j+1) then self (.l3 H K (([R.getD j.toNat 0]:Ξ).length) (x8+1) x20 x21 R O (j+1) o1 ([R.getD j.toNat 0]:Ξ)) else none else if AG (j+1) then self (.l3 H K (([R.getD j.toNat 0]:Ξ).length) x8 x20 x21 R O (j+1) o1 ([R.getD j.toNat 0]:Ξ)) else none else none else if 0<=(R.getD j.toNat 0)/\ (R.getD j.toNat 0)<(K.length:Int) then bif (K.getD ((R.getD j.toNat 0).toNat) false) then if AG (x8+1)/\ AG (j+1) then self (.l2 H K (x8+1) x20 x21 R O (j+1) o1) else none else if AG (j+1) then self (.l2 H K x8 x20 x21 R O (j+1) o1) else none else none else none else some (false,o1)
def Pc (n:Nat)(self:Nj -> Option (Bool×Ξ))(c:AD)(q:AA)(pos:Ξ)(ln:Nat)(lost:Ξ)(H K:Ω)(Z:Nat)(x8 x20 x21:Int)(R:Ξ)(O j:Int)(o1 F:Ξ):Option (Bool×Ξ):= bif (decide (j<O)) then if (0<=j/\ j<(R.length:Int))/\ (0<=(R.getD j.toNat 0)/\ (R.getD j.toNat 0)<(H.length:Int)) then bif (H.getD ((R.getD j.toNat 0).toNat) false) then if ((0=0/\ 1=([R.getD j.toNat 0]:Ξ).length)/\ (0=0/\ Z=F.length)/\ F.length+([R.getD j.toNat 0]:Ξ).length<=Ay)/\ (0<=(R.getD j.toNat 0)/\ (R.getD j.toNat 0)<(K.length:Int)) then bif (K.getD ((R.getD j.toNat 0).toNat) false) then if AG (x8+1)/\ AG (j+1) then self (.l3 H K (F.length+([R.getD j.toNat 0]:Ξ).length) (x8+1) x20 x21 R O (j+1) o1 (F++([R.getD j.toNat 0]:Ξ))) else none else if AG (j+1) then self (.l3 H K (F.length+([R.getD j.toNat 0]:Ξ).length) x8 x20 x21 R O (j+1) o1 (F++([R.getD j.toNat 0]:Ξ))) else none else none else if 0<=(R.getD j.toNat 0)/\ (R.getD j.toNat 0)<(K.length:Int) then bif (K.getD ((R.getD j.toNat 0).toNat) false) then if AG (x8+1)/\ AG (j+1) then self (.l3 H K Z (x8+1) x20 x21 R O (j+1) o1 F) else none else if AG (j+1) then self (.l3 H K Z x8 x20 x21 R O (j+1) o1 F) else none else none else none else bif (decide ((Z:Int)<2)) then some (false,o1) else bif (decide (x8>2)) then some (false,o1) else self (.l4 H K Z x8 x20 x21 Z (Z:Int) 0 o1 F)
def Vm (n:Nat)(self:Nj -> Option (Bool×Ξ))(c:AD)(q:AA)(pos:Ξ)(ln:Nat)(lost:Ξ)(H K:Ω)(Z:Nat)(x8 x20 x21:Int)(J:Nat)(b a:Int)(o1 F:Ξ):Option (Bool×Ξ):= bif (decide (a<b)) then if (0<=a/\ a<(J:Int))/\ 0+a.toNat<F.length then bif ((Z:Int)==2) then (Hc n (F.getD (0+a.toNat) 0) c q pos ln o1).bind λk=> bif (x8==2) then if 0<=(F.getD (0+a.toNat) 0)/\ (F.getD (0+a.toNat) 0)<(K.length:Int) then bif (!(K.getD ((F.getD (0+a.toNat) 0).toNat) false)) then (D8 n (F.getD (0+a.toNat) 0) c.set c q pos ln k).bind λG=> if AG (a+1) then self (.l4 H K Z x8 x20 x21 J b (a+1) G F) else none else if AG (a+1) then self (.l4 H K Z x8 x20 x21 J b (a+1) k F) else none else none else if AG (a+1) then self (.l4 H K Z x8 x20 x21 J b (a+1) k F) else none else bif (x8==2) then if 0<=(F.getD (0+a.toNat) 0)/\ (F.getD (0+a.toNat) 0)<(K.length:Int) then bif (!(K.getD ((F.getD (0+a.toNat) 0).toNat) false)) then (D8 n (F.getD (0+a.toNat) 0) c.set c q pos ln o1).bind λk=> if AG (a+1) then self (.l4 H K Z x8 x20 x21 J b (a+1) k F) else none else if AG (a+1) then self (.l4 H K Z x8 x20 x21 J b (a+1) o1 F) else none else none else if AG (a+1) then self (.l4 H K Z x8 x20 x21 J b (a+1) o1 F) else none else none else if AG (x21+1) then self (.l1 H K x20 (x21+1) o1) else none
def zE6 (n:Nat)(self:Nj -> Option (Bool×Ξ))(c:AD)(q:AA)(pos:Ξ)(ln:Nat)(lost:Ξ):Option (Bool×Ξ):= (PS n c q pos ln lost).bind λk=> self (.l1 k.1 k.2.1 (k.2.1.length:Int) 0 k.2.2.2)
def C6 (c:AD)(q:AA)(pos:Ξ)(ln:Nat)(lost:Ξ):Nat -> Nj -> Option (Bool×Ξ)
 | 0,_=>none
 | n+1,.l1 H K x20 x21 o1=>Z7 n (C6 c q pos ln lost n) c q pos ln lost H K x20 x21 o1
 | n+1,.l2 H K x8 x20 x21 R O j o1=>Vn n (C6 c q pos ln lost n) c q pos ln lost H K x8 x20 x21 R O j o1
 | n+1,.l3 H K Z x8 x20 x21 R O j o1 F=>Pc n (C6 c q pos ln lost n) c q pos ln lost H K Z x8 x20 x21 R O j o1 F
 | n+1,.l4 H K Z x8 x20 x21 J a b o1 F=>Vm n (C6 c q pos ln lost n) c q pos ln lost H K Z x8 x20 x21 J a b o1 F
def Z8 (n:Nat)(c:AD)(q:AA)(pos:Ξ)(ln:Nat)(lost:Ξ):Option (Bool×Ξ):=zE6 n (C6 c q pos ln lost n) c q pos ln lost
def zE7 (n B:Nat)(N:Yd 2)(c:AD)(q:AA)(pos:Ξ)(ln:Nat)(lost:Ξ)(r:Bool×Ξ):Nj -> Prop
 | .l1 H K x20 x21 o1=>∀ f:Nat,n<=f -> TW B N (FQ Tryz.f114 2 (.bool r.1) [oW c q pos 1 ln,oI r.2]) (Ah f (An (AR Tryz.f114) 0 [])) ⟨AF 95 [(0,.ref 0 0),(3,.bools H),(4,.bools K),(20,.i x20),(21,.i x21)],[oW c q pos 1 ln,oI o1]⟩
 | .l2 H K x8 x20 x21 R O j o1=>∀ f V:Nat,n<=f -> n<=V -> TW B N (FQ Tryz.f114 2 (.bool r.1) [oW c q pos 1 ln,oI r.2]) (Ah V (An (AR Tryz.f114) 2 [f])) ⟨AF 95 [(0,.ref 0 0),(3,.bools H),(4,.bools K),(7,.nils),(8,.i x8),(20,.i x20),(21,.i x21),(36,.ints R),(37,.i O),(38,.i j)],[oW c q pos 1 ln,oI o1]⟩
 | .l3 H K Z x8 x20 x21 R O j o1 F=>∀ f V:Nat,n<=f -> n<=V -> TW B N (FQ Tryz.f114 2 (.bool r.1) [oW c q pos 1 ln,oI r.2]) (Ah V (An (AR Tryz.f114) 2 [f])) ⟨AF 95 [(0,.ref 0 0),(3,.bools H),(4,.bools K),(7,.msl 2 1 0 Z),(8,.i x8),(20,.i x20),(21,.i x21),(36,.ints R),(37,.i O),(38,.i j)],[oW c q pos 1 ln,oI o1,oI F]⟩
 | .l4 H K Z x8 x20 x21 J a b o1 F=>∀ f V:Nat,n<=f -> n<=V -> TW B N (FQ Tryz.f114 2 (.bool r.1) [oW c q pos 1 ln,oI r.2]) (Ah V (An (AR Tryz.f114) 4 [f])) ⟨AF 95 [(0,.ref 0 0),(3,.bools H),(4,.bools K),(7,.msl 2 1 0 Z),(8,.i x8),(20,.i x20),(21,.i x21),(64,.msl 2 1 0 J),(65,.i a),(66,.i b)],[oW c q pos 1 ln,oI o1,oI F]⟩
def zE8 (B:Nat)(N:Yd 2)(c:AD)(q:AA)(pos:Ξ)(ln:Nat)(lost:Ξ):Al (C6 c q pos ln lost) (zE7 · B N c q pos ln lost):=ia (λ_=>rfl) λn C b r h=>by
 cases b
 case l1 x3 x4 x20 x21 o1=>
  intro f a;refine rd a λf a=>?_
  revert r;apply gO;exact bi 22 (gi (bi 28 (gw 94 (lG AC [0,1] (C _ _ · f a))) (gi (lN AC [0,1] (C _ _ · f n a Nat.le.refl))))) (lE AC [2] [0,1])
 case l2 x3 x4 x8 x20 x21 Br Ei BM o1=>
  intro f V a x;have a:=zGV a;refine rd x λV x=>?_
  revert r;apply gO;exact bi 39 (gc (gi (gi (bi 45 (gc (gi (gi (bi 53 (gc (gw 55 (gw 56 (lG AC [0,1,3] (C _ _ · f V a x))))) (gw 56 (lG AC [0,1,3] (C _ _ · f V a x))))))) (gi (bi 53 (gc (gw 55 (gw 56 (lG AC [0,1] (C _ _ · f V a x))))) (gw 56 (lG AC [0,1] (C _ _ · f V a x))))))))) (lE AC [2] [0,1])
 case l3 x3 x4 x7 x8 x20 x21 Br Ei BM o1 o2=>
  intro f V a x;have a:=zGV a;refine rd x λV x=>?_
  revert r;apply gO;exact bi 39 (gc (gi (gi (bi 45 (gc (gi (gi (bi 53 (gc (gw 55 (gw 56 (lG AC [0,1,4] (C _ _ · f V a x))))) (gw 56 (lG AC [0,1,4] (C _ _ · f V a x))))))) (gi (bi 53 (gc (gw 55 (gw 56 (lG AC [0,1,2] (C _ _ · f V a x))))) (gw 56 (lG AC [0,1,2] (C _ _ · f V a x))))))))) (bi 59 (lE AC [2] [0,1]) (bi 62 (lE AC [2] [0,1]) (lN AC [0,1,2] (C _ _ · f n a Nat.le.refl))))
 case l4 x3 x4 x7 x8 x20 x21 ID IB Ap o1 o2=>
  intro f V a x;have a:=zGV a;refine rd x λV x=>?_
  revert r;apply gO;exact bi 67 (gc (gi (gi (bi 72 (ce Nc [0,1] [oW c q pos 1 ln,oI o1,oI o2] λk=>bi 77 (gi (bi 83 (ce Gy [0,1] [oW c q pos 1 ln,oI k,oI o2] λ_=>gw 93 (lG AC [0,1,2] (C _ _ · f V a x))) (gw 93 (lG AC [0,1,2] (C _ _ · f V a x))))) (gw 93 (lG AC [0,1,2] (C _ _ · f V a x)))) (bi 77 (gi (bi 83 (ce Gy [0,1] [oW c q pos 1 ln,oI o1,oI o2] λ_=>gw 93 (lG AC [0,1,2] (C _ _ · f V a x))) (gw 93 (lG AC [0,1,2] (C _ _ · f V a x))))) (gw 93 (lG AC [0,1,2] (C _ _ · f V a x)))))))) (gw 94 (lG AC [0,1] (C _ _ · f a)))
def zE5 (h:Z8 n c q pos ln lost=some r):EQ 114 [.ref 0 0] [oW c q pos 1 ln,oI lost] (.bool r.1) [oW c q pos 1 ln,oI r.2] false:=by
 refine ot Tryz.func114 λB N=>?_
 revert r;apply gO;exact ce rW [0,1] [oW c q pos 1 ln,oI lost] λ_=>lN AC [0,1] ((zE8 B N c q pos ln lost n) _ _ · n Nat.le.refl)
end
end Go.Proofs.YtodinaconebmdaaGreatDoor
