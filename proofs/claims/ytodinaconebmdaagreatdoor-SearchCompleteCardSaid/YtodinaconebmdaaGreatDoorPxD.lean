/- Part 4 of 8 of what the proofs of these laws stand on. -/
import Derived.Test.YtodinaconebmdaaGreatDoorPxC
import Derived.Laws.BitsLemmas
import Derived.Shelf.Sort.Plain
set_option linter.all false
namespace Go.Proofs.YtodinaconebmdaaGreatDoor
open Go.RowKit
section
set_option maxRecDepth 100000
set_option maxHeartbeats 40000000
def yj (n:Nat)(A2:Int):Option Unit:= some ()
def yk (n:Nat)(a:Int):Option Unit:=yj n a
variable {n:Nat}
def yi (a:Int){r:Unit}(h:yk n a=some r):EQ 123 [.i a] [] (.fn 133 1 (L1 [.ref 0 0])) [oC [.i a]] true:=by
 refine ot Tryz.func123 λB N=>?_
 revert r;apply gO;exact lE AC [2] [0]
def Lt {x:Int}(d:0<=x/\ x<9223372036854775808)(h:DH):EQ 123 [.i x] h (.it h.length) (h++[some (.iter ((Bj x).map Bw))]) true:=by
 refine ES.iterOf (yi (n:=0) x (r:=()) rfl) rfl (by kernel_rfl) (λargs W=>?_) (λw b o u j a c l e=>yg d w b o u j a c l e) rfl (λb c=>?_) h
 ·exact JV Tryz.func133 (by kernel_rfl) (by kernel_rfl) args W
 ·rw [c];decide
def n9:ST:=.rd 0 (.rd 1 (.rd 2 (.rd 3 (.rd 4 (.rd 5 (.rd 6 (.rd 7 (.rd 8 (.rd 9 (.rd 10 (.rd 11 (.rd 12 (.rd 13 (.rd 14 (.rd 15 (.rd 16 (.rd 17 (.rd 18 (.rd 19 (.ef 20 (.ef 21 (.fin [] [4,5]) (.no)) (.no)))))))))))))))))))))
def zBV:B3 (A9 Tryz.f122 4) [20] n9:=by unfold B3;kernel_rfl
def n8:ST:=.rd 0 (.rd 1 (.ef 2 (.ef 3 (.fin [] [4,5]) (.no)) (.no)))
def zBU:B3 (A9 Tryz.f122 5) [2] n8:=by unfold B3;kernel_rfl
def Yg:BX:=λi=>match i with
 | 4=>.tre [20] n9
 | 5=>.tre [2] n8
 | _=>.no
def zH5 (c:AD)(q:AA)(pos:Ξ)(ln:Nat)(lost:Ξ):DH:=[oW c q pos 1 ln,oI lost,oC [.ref 0 0],oC [.i 100],oC [.i (-1)]]
def zH4 (c:AD)(q:AA)(pos:Ξ)(ln:Nat)(lost:Ξ)(ss:Int):DH:=[oW c q pos 1 ln,oI lost,oC [.ref 0 0],oC [.i 100],oC [.i (-1)],some (.iter ((Bj ss).map Bw))]
def nX (c:AD)(q:AA)(pos:Ξ)(ln:Nat)(lost:Ξ)(X Y:Int):St:=⟨(AF 32 [(4,.ref 3 0),(5,.ref 4 0)]),([oW c q pos 1 ln,oI lost,oC [.ref 0 0],oC [.i X],oC [.i Y],none]:DH)⟩
def zH3 (c:AD)(q:AA)(pos:Ξ)(ln:Nat)(lost:Ξ)(D E:Int):DH:=[oW c q pos 1 ln,oI lost,oC [.ref 0 0],oC [.i D],oC [.i E],none]
def nW (c:AD)(q:AA)(pos:Ξ)(ln:Nat)(lost:Ξ)(a D E:Int):St:=⟨(AF 32 [(4,.ref 3 0),(5,.ref 4 0)]),([oW c q pos 1 ln,oI lost,oC [.ref 0 0],oC [.i (if (q.values.getD a.toNat 0)<D then (q.values.getD a.toNat 0) else D)],oC [.i (if (q.values.getD a.toNat 0)>E then (q.values.getD a.toNat 0) else E)],none]:DH)⟩
inductive OV where
 | s0 (Gq Gp:Int)
def vL (c:AD)(q:AA)(pos:Ξ)(ln:Nat)(lost:Ξ):OV -> DH
 | .s0 D E=>[oW c q pos 1 ln,oI lost,oC [.ref 0 0],oC [.i D],oC [.i E],none]
def vK (n:Nat)(c:AD)(q:AA)(pos:Ξ)(ln:Nat)(lost:Ξ)(i:Int)(D E:Int):Option OV:= if 0<=i/\ i<(q.values.length:Int) then some (.s0 (if (q.values.getD i.toNat 0)<D then (q.values.getD i.toNat 0) else D) (if (q.values.getD i.toNat 0)>E then (q.values.getD i.toNat 0) else E)) else none
def vJ (n:Nat)(c:AD)(q:AA)(pos:Ξ)(ln:Nat)(lost:Ξ)(i:Int):OV -> Option OV
 | .s0 D E=>vK n c q pos ln lost i D E
def Ww (n:Nat)(c:AD)(q:AA)(pos:Ξ)(ln:Nat)(lost:Ξ)(i:Int)(s:OV):Option OV:=vJ n c q pos ln lost i s
def zKK (n:Nat)(c:AD)(q:AA)(pos:Ξ)(ln:Nat)(lost:Ξ)(l B:Nat)(N:Yd 6)(a:Int)(s:OV)(r:OV)(h:Ww n c q pos ln lost a s=some r):TA l B N (C0 6 [] 0 (vL c q pos ln lost r)) Tryz.f122 8 ⟨AF 32 [(2,.ref 2 0),(4,.ref 3 0),(5,.ref 4 0),(8,.it 5),(9,.i a)],vL c q pos ln lost s⟩:=by
 cases s with
 | s0 D E=>
  refine ag Yg [0,1,2,3,4,5] H0 (AF 32 [(2,.ref 2 0),(4,.ref 3 0),(5,.ref 4 0),(6,.i a)]) (zH3 c q pos ln lost D E) λN=>?_
  revert r;apply gO;exact jg zBV (gn λx=>jg x (jg x (jt (jt (jg (Eq.refl (nW c q pos ln lost a D E)) (lF λp=>rr (tg:=[([(20,3)],(nW c q pos ln lost a D E))]) Yg [0,1,2,3,4,5] rfl p))))))
def vI (n:Nat)(ss:Int)(c:AD)(q:AA)(pos:Ξ)(ln:Nat)(lost:Ξ):Option (Int×Int×Ξ):=
 if 0<=ss/\ ss<9223372036854775808 then
  (CO (Ww n c q pos ln lost) (Bj ss) (.s0 100 (-1))).bind λj=>
   match j with
   | .s0 X Y=>
    some (X,Y,lost)
 else none
def Wx (n:Nat)(ss:Int)(c:AD)(q:AA)(pos:Ξ)(ln:Nat)(lost:Ξ):Option (Int×Int×Ξ):=vI n ss c q pos ln lost
variable {lost pos:Ξ}{ln:Nat}{q:AA}{c:AD}
def TS {ss:Int}{r:Int×Int×Ξ}(h:Wx n ss c q pos ln lost=some r):EQ 122 [.ref 0 0,.i ss] [oW c q pos 1 ln,oI lost] (.tup 2 (L1 [.i r.1,.i r.2.1])) [oW c q pos 1 ln,oI r.2.2] false:=by
 refine ot Tryz.func122 λB N=>?_
 revert r;apply gO
 exact jt (jt (gn λa=>jc (Lt a (zH5 c q pos ln lost)) (cn λj u=>λp r h=>by
  refine gs Yg [0,1,2,3,4,5] p (HE (AR Tryz.f122) 8 []) (AF 32 [(2,.ref 2 0),(4,.ref 3 0),(5,.ref 4 0),(8,.it 5)]) (zH4 c q pos ln lost ss) ?_;refine r0 5 8 #[9] Bw 6 u (zKK n c q pos ln lost) ?_;cases j with
  | s0 X Y=>
   dsimp only at h
   revert r;apply gO;exact jg zBU (jt (jt (jg (Eq.refl (nX c q pos ln lost X Y)) (lE (tg:=[([(2,3)],(nX c q pos ln lost X Y))]) Yg [4,5] [0,1,3,4])))))))
def nf:ST:=.rd 0 (.rd 1 (.rd 2 (.rd 3 (.rd 4 (.rd 5 (.rd 6 (.rd 7 (.ef 8 (.rd 9 (.rd 10 (.rd 11 (.rd 12 (.rd 13 (.fin [] [1,3,4,7,8,19,20,21,90])))))) (.no)))))))))
def zAd:B3 (A9 Tryz.f108 5) [] nf:=by unfold B3;kernel_rfl
def na:ST:=.rd 0 (.rd 1 (.rd 2 (.rd 3 (.rd 4 (.rd 5 (.ef 6 (.ef 7 (.fin [] [1,3,4,19,20,21,90]) (.no)) (.no)))))))
def zAc:B3 (A9 Tryz.f108 6) [6] na:=by unfold B3;kernel_rfl
def zAb:Au (A9 Tryz.f108 8) [] (List.range 16) []:=by unfold Au;kernel_rfl
def ni:ST:=.rd 0 (.rd 1 (.rd 2 (.rd 3 (.rd 4 (.rd 5 (.rd 6 (.rd 7 (.ef 8 (.rd 9 (.rd 10 (.rd 11 (.ef 12 (.ef 13 (.ef 14 (.ef 15 (.fin [0,1] [1,3,4,10,11,12,64,65,66,90]) (.no)) (.no)) (.no)) (.ef 13 (.ef 12 (.ef 14 (.ef 15 (.fin [1,0] [1,3,4,10,11,12,64,65,66,90]) (.no)) (.no)) (.no)) (.no)))))) (.ef 12 (.ef 8 (.rd 9 (.rd 10 (.rd 11 (.ef 13 (.ef 14 (.ef 15 (.fin [0,1] [1,3,4,10,11,12,64,65,66,90]) (.no)) (.no)) (.no))))) (.ef 13 (.ef 8 (.rd 9 (.rd 10 (.rd 11 (.ef 14 (.ef 15 (.fin [0,1] [1,3,4,10,11,12,64,65,66,90]) (.no)) (.no))))) (.no)) (.no))) (.ef 13 (.ef 8 (.rd 9 (.rd 10 (.rd 11 (.ef 12 (.ef 14 (.ef 15 (.fin [1,0] [1,3,4,10,11,12,64,65,66,90]) (.no)) (.no)) (.no))))) (.ef 12 (.ef 8 (.rd 9 (.rd 10 (.rd 11 (.ef 14 (.ef 15 (.fin [1,0] [1,3,4,10,11,12,64,65,66,90]) (.no)) (.no))))) (.no)) (.no))) (.no)))))))))))
def zAg:B3 (A9 Tryz.f108 13) [12,13,14] ni:=by unfold B3;kernel_rfl
def zAf:Au (A9 Tryz.f108 14) [([0,1,2,3,4,5,6],7)] [] []:=by unfold Au;kernel_rfl
def zAe:Au (A9 Tryz.f108 17) [] (List.range 24) []:=by unfold Au;kernel_rfl
def nh:ST:=.rd 0 (.rd 1 (.rd 2 (.rd 3 (.ef 4 (.fin [] [2]) (.no)))))
def pM:B3 (A9 Tryz.f108 18) [] nh:=by unfold B3;kernel_rfl
def I0:BX:=λi=>match i with
 | 5=>.tre [] nf
 | 6=>.tre [6] na
 | 8=>.ord [] (List.range 16) []
 | 13=>.tre [12,13,14] ni
 | 14=>.ord [([0,1,2,3,4,5,6],7)] [] []
 | 17=>.ord [] (List.range 24) []
 | 18=>.tre [] nh
 | _=>.no
def zHA (c:AD)(q:AA)(pos:Ξ)(ln:Nat)(o1:Ξ)(H f:Int):DH:=[oW c q pos 1 ln,oI o1,oC [.ref 0 0],oC [.i H],oC [.i f]]
def nE (j:Int×Int×Ξ)(c:AD)(x21:Int)(q:AA)(pos:Ξ)(ln:Nat)(H f:Int):St:=⟨(AF 129 [(1,.ref 2 0),(3,.ref 3 0),(4,.ref 4 0),(7,.i j.1),(8,.i j.2.1),(19,.ints c.cells),(20,.i (c.cells.length:Int)),(21,.i x21)]),([oW c q pos 1 ln,oI j.2.2,oC [.ref 0 0],oC [.i H],oC [.i f]]:DH)⟩
def nD (c:AD)(x21:Int)(q:AA)(pos:Ξ)(ln:Nat)(j:Int×Int×Ξ)(H f:Int):St:=⟨(AF 129 [(1,.ref 2 0),(3,.ref 3 0),(4,.ref 4 0),(19,.ints c.cells),(20,.i (c.cells.length:Int)),(21,.i x21)]),([oW c q pos 1 ln,oI j.2.2,oC [.ref 0 0],oC [.i (H+j.1)],oC [.i (f+j.2.1)]]:DH)⟩
def zG9 (c:AD)(q:AA)(pos:Ξ)(ln:Nat)(o1:Ξ)(H f a:Int):DH:=[oW c q pos 1 ln,oI o1,oC [.ref 0 0],oC [.i H],oC [.i f],oC [.i (c.cells.getD a.toNat 0)]]
def Oy (c:AD)(a:Int)(q:AA)(pos:Ξ)(ln:Nat)(j:Int×Int×Ξ)(H f:Int):St:=⟨(AF 129 [(1,.ref 2 0),(3,.ref 3 0),(4,.ref 4 0),(10,.ref 5 0),(11,.ref 6 0),(12,.ref 7 0),(64,.ints c.cells),(65,.i (c.cells.length:Int)),(66,.i a)]),([oW c q pos 1 ln,oI j.2.2,oC [.ref 0 0],oC [.i H],oC [.i f],oC [.i (c.cells.getD a.toNat 0)],oC [.i j.1],oC [.i j.2.1]]:DH)⟩
def tN (c:AD)(q:AA)(pos:Ξ)(ln:Nat)(o1:Ξ)(H f a:Int):DH:=[oW c q pos 1 ln,oI o1,oC [.ref 0 0],oC [.i H],oC [.i f],oC [.i (c.cells.getD a.toNat 0)],oC [.i 0]]
def tM (c:AD)(q:AA)(pos:Ξ)(ln:Nat)(o1:Ξ)(H f a:Int):DH:=[oW c q pos 1 ln,oI o1,oC [.ref 0 0],oC [.i H],oC [.i f],oC [.i (c.cells.getD a.toNat 0)],oC [.i 0],oC [.i 0]]
def zG8 (c:AD)(q:AA)(pos:Ξ)(ln:Nat)(j:Int×Int×Ξ)(H f a:Int):DH:=[oW c q pos 1 ln,oI j.2.2,oC [.ref 0 0],oC [.i H],oC [.i f],oC [.i (c.cells.getD a.toNat 0)],oC [.i j.1],oC [.i j.2.1]]
def zG7 (c:AD)(q:AA)(pos:Ξ)(ln:Nat)(j:Int×Int×Ξ)(H f a:Int):DH:=[oW c q pos 1 ln,oI j.2.2,oC [.ref 0 0],oC [.i H],oC [.i f],oC [.i (c.cells.getD a.toNat 0)],oC [.i j.1],oC [.i j.2.1],some (.iter ((Bj (pos.getD ((c.cells.getD a.toNat 0).toNat) 0)).map Bw))]
def jH (c:AD)(q:AA)(pos:Ξ)(ln:Nat)(O:Ξ)(H f a:Int)(j:Int×Int×Ξ):DH:=[oW c q pos 1 ln,oI O,oC [.ref 0 0],oC [.i H],oC [.i f],oC [.i (c.cells.getD a.toNat 0)],oC [.i j.1],oC [.i j.2.1],none]
def X1 (c:AD)(q:AA)(pos:Ξ)(ln:Nat)(s:Ξ)(H f a:Int)(j:Int×Int×Ξ):St:=⟨(AF 129 []),([oW c q pos 1 ln,oI s,oC [.ref 0 0],oC [.i H],oC [.i f],oC [.i (c.cells.getD a.toNat 0)],oC [.i j.1],oC [.i j.2.1],none]:DH)⟩
inductive Lu where
 | s0 (HU:Ξ)
def oF (c:AD)(a:Int)(q:AA)(pos:Ξ)(ln:Nat)(H f:Int)(j:Int×Int×Ξ):Lu -> DH
 | .s0 O=>[oW c q pos 1 ln,oI O,oC [.ref 0 0],oC [.i H],oC [.i f],oC [.i (c.cells.getD a.toNat 0)],oC [.i j.1],oC [.i j.2.1],none]
def YA (n:Nat)(c:AD)(a:Int)(q:AA)(pos:Ξ)(ln:Nat)(H f:Int)(j:Int×Int×Ξ)(N:Int)(O:Ξ):Option Lu:= if (0<=N/\ N<(q.values.length:Int))/\ AG (H-j.1)/\ AG ((H-j.1)+(q.values.getD N.toNat 0)) then bif (decide (((H-j.1)+(q.values.getD N.toNat 0))>c.hi)) then if 0<=N/\ N<=(IntKind.i64.bits:Int) then (D7 n (c.cells.getD a.toNat 0) (IntKind.i64.wrap (1*2 ^ (N).toNat)) c q pos ln O).bind λs=> some (.s0 s) else none else if AG (f-j.2.1)/\ AG ((f-j.2.1)+(q.values.getD N.toNat 0)) then bif (decide (((f-j.2.1)+(q.values.getD N.toNat 0))<c.lo)) then if 0<=N/\ N<=(IntKind.i64.bits:Int) then (D7 n (c.cells.getD a.toNat 0) (IntKind.i64.wrap (1*2 ^ (N).toNat)) c q pos ln O).bind λs=> some (.s0 s) else none else some (.s0 O) else none else none
def oE (n:Nat)(c:AD)(a:Int)(q:AA)(pos:Ξ)(ln:Nat)(H f:Int)(j:Int×Int×Ξ)(N:Int):Lu -> Option Lu
 | .s0 O=>YA n c a q pos ln H f j N O
def YB (n:Nat)(c:AD)(a:Int)(q:AA)(pos:Ξ)(ln:Nat)(H f:Int)(j:Int×Int×Ξ)(N:Int)(s:Lu):Option Lu:=oE n c a q pos ln H f j N s
def yu (n:Nat)(c:AD)(a:Int)(q:AA)(pos:Ξ)(ln:Nat)(H f:Int)(j:Int×Int×Ξ)(l B:Nat)(N:Yd 9)(d:Int)(s:Lu)(r:Lu)(h:YB n c a q pos ln H f j d s=some r):TA l B N (C0 9 [] 0 (oF c a q pos ln H f j r)) Tryz.f108 89 ⟨AF 129 [(1,.ref 2 0),(3,.ref 3 0),(4,.ref 4 0),(10,.ref 5 0),(11,.ref 6 0),(12,.ref 7 0),(64,.ints c.cells),(65,.i (c.cells.length:Int)),(66,.i a),(89,.it 8),(90,.i d)],oF c a q pos ln H f j s⟩:=by
 cases s with
 | s0 O=>
  replace h:YA n c a q pos ln H f j d O=some r:=h;unfold YA at h;refine ag I0 [0,1,2,3,4,5,6,7,8] H0 (AF 129 [(1,.ref 2 0),(3,.ref 3 0),(4,.ref 4 0),(10,.ref 5 0),(11,.ref 6 0),(12,.ref 7 0),(13,.i d)]) (jH c q pos ln O H f a j) λN=>?_
  revert r;apply gO;exact gc (gi (jg zAe (gc (gw 101 (gw 103 (bi 109 (jg pM (gi (ce Gy [0,1] (jH c q pos ln O H f a j) λb=>jg (Eq.refl (X1 c q pos ln b H f a j)) (lF λp=>rr (tg:=[([],(X1 c q pos ln b H f a j))]) I0 [0,1,2,3,4,5,6,7,8] rfl p)))) (gc (gw 113 (gw 115 (bi 121 (jg pM (gi (ce Gy [0,1] (jH c q pos ln O H f a j) λb=>jg (Eq.refl (X1 c q pos ln b H f a j)) (lF λp=>rr (tg:=[([],(X1 c q pos ln b H f a j))]) I0 [0,1,2,3,4,5,6,7,8] rfl p)))) (lF λp=>rr I0 [0,1,2,3,4,5,6,7,8] rfl p)))))))))))
inductive UP where
 | l1 (x21:Int) (o1:Ξ) (Aa As:Int)
 | l2 (Ap:Int) (o1:Ξ) (Aa As:Int)
def UO (n:Nat)(self:UP -> Option (Bool×Ξ))(c:AD)(q:AA)(pos:Ξ)(ln:Nat)(lost:Ξ)(x21:Int)(o1:Ξ)(H f:Int):Option (Bool×Ξ):= bif (decide (x21<(c.cells.length:Int))) then if (0<=x21/\ x21<(c.cells.length:Int))/\ (0<=(c.cells.getD x21.toNat 0)/\ (c.cells.getD x21.toNat 0)<(pos.length:Int)) then (Wx n (pos.getD ((c.cells.getD x21.toNat 0).toNat) 0) c q pos ln o1).bind λj=> if AG (H+j.1)/\ AG (f+j.2.1)/\ AG (x21+1) then self (.l1 (x21+1) j.2.2 (H+j.1) (f+j.2.1)) else none else none else bif (decide (H>c.hi)) then some (false,o1) else bif (decide (f<c.lo)) then some (false,o1) else self (.l2 0 o1 H f)
def X9 (n:Nat)(self:UP -> Option (Bool×Ξ))(c:AD)(q:AA)(pos:Ξ)(ln:Nat)(lost:Ξ)(a:Int)(o1:Ξ)(H f:Int):Option (Bool×Ξ):=
 bif (decide (a<(c.cells.length:Int))) then
  if (0<=a/\ a<(c.cells.length:Int))/\ (0<=(c.cells.getD a.toNat 0)/\ (c.cells.getD a.toNat 0)<(pos.length:Int)) then
   (Wx n (pos.getD ((c.cells.getD a.toNat 0).toNat) 0) c q pos ln o1).bind λj=>
    if 0<=(pos.getD ((c.cells.getD a.toNat 0).toNat) 0)/\ (pos.getD ((c.cells.getD a.toNat 0).toNat) 0)<9223372036854775808 then
     (CO (YB n c a q pos ln H f j) (Bj (pos.getD ((c.cells.getD a.toNat 0).toNat) 0)) (.s0 j.2.2)).bind λG=>
      match G with
      | .s0 x=>
       if AG (a+1) then
        self (.l2 (a+1) x H f)
       else none
    else none
  else none
 else
  some (true,o1)
def yt (n:Nat)(self:UP -> Option (Bool×Ξ))(c:AD)(q:AA)(pos:Ξ)(ln:Nat)(lost:Ξ):Option (Bool×Ξ):= self (.l1 0 lost 0 0)
def Jk (c:AD)(q:AA)(pos:Ξ)(ln:Nat)(lost:Ξ):Nat -> UP -> Option (Bool×Ξ)
 | 0,_=>none
 | n+1,.l1 x21 o1 H f=>UO n (Jk c q pos ln lost n) c q pos ln lost x21 o1 H f
 | n+1,.l2 a o1 H f=>X9 n (Jk c q pos ln lost n) c q pos ln lost a o1 H f
def RR (n:Nat)(c:AD)(q:AA)(pos:Ξ)(ln:Nat)(lost:Ξ):Option (Bool×Ξ):=yt n (Jk c q pos ln lost n) c q pos ln lost
def yw (n B:Nat)(N:Yd 2)(c:AD)(q:AA)(pos:Ξ)(ln:Nat)(lost:Ξ)(r:Bool×Ξ):UP -> Prop
 | .l1 x21 o1 H a=>∀ f:Nat,n<=f -> TW B N (FQ Tryz.f108 2 (.bool r.1) [oW c q pos 1 ln,oI r.2]) (Ag f (An (AR Tryz.f108) 0 [])) ⟨AF 129 [(1,.ref 2 0),(3,.ref 3 0),(4,.ref 4 0),(19,.ints c.cells),(20,.i (c.cells.length:Int)),(21,.i x21)],[oW c q pos 1 ln,oI o1,oC [.ref 0 0],oC [.i H],oC [.i a]]⟩
 | .l2 b o1 H a=>∀ f:Nat,n<=f -> TW B N (FQ Tryz.f108 2 (.bool r.1) [oW c q pos 1 ln,oI r.2]) (Ag f (An (AR Tryz.f108) 2 [])) ⟨AF 129 [(1,.ref 2 0),(3,.ref 3 0),(4,.ref 4 0),(64,.ints c.cells),(65,.i (c.cells.length:Int)),(66,.i b)],[oW c q pos 1 ln,oI o1,oC [.ref 0 0],oC [.i H],oC [.i a]]⟩
def yx (B:Nat)(N:Yd 2)(c:AD)(q:AA)(pos:Ξ)(ln:Nat)(lost:Ξ):Al (Jk c q pos ln lost) (yw · B N c q pos ln lost):=ia (λ_=>rfl) λn C A r h=>by
 cases A
 case l1 x21 o1 Aa As=>
  intro f a;refine rd a λf a=>?_
  revert r;apply gO;exact bi 22 (gc (gi (jg zAd (gi (ce TS [0,1] (zHA c q pos ln o1 Aa As) λj=>jg (Eq.refl (nE j c x21 q pos ln Aa As)) (jg zAc (gc (gw 39 (gc (gw 42 (jt (jt (jg (Eq.refl (nD c x21 q pos ln j Aa As)) (gw 43 (lG (tg:=[([],(nE j c x21 q pos ln Aa As)),([(6,3)],(nD c x21 q pos ln j Aa As))]) I0 [0,1,2,3,4] (C _ _ · f a)))))))))))))))) (jg zAb (bi 50 (lE I0 [2] [0,1]) (bi 58 (lE I0 [2] [0,1]) (lN I0 [0,1,2,3,4] (C _ _ · n Nat.le.refl)))))
 case l2 Ap o1 Aa As=>
  intro f a;refine rd a λf a=>?_
  revert r;apply gO
  exact bi 67 (gc (gi (jt (jg zAg (gn λo=>jg o (cn λj u=>jc (em (TS u) [0,1] (zG9 c q pos ln o1 Aa As Ap)) (jt (jt (jg (Eq.refl (Oy c Ap q pos ln j Aa As)) (jt (jt (jg (Eq.refl (Oy c Ap q pos ln j Aa As)) (jc (em (TS u) [0,1] (tN c q pos ln o1 Aa As Ap)) (jt (jt (jg (Eq.refl (Oy c Ap q pos ln j Aa As)) (jc (em (TS u) [0,1] (tM c q pos ln o1 Aa As Ap)) (jt (jt (jg (Eq.refl (Oy c Ap q pos ln j Aa As)) (jc (em (TS u) [0,1] (tN c q pos ln o1 Aa As Ap)) (jt (jt (jg (Eq.refl (Oy c Ap q pos ln j Aa As)) (jc (em (TS u) [0,1] (tM c q pos ln o1 Aa As Ap)) (jt (jt (jg (Eq.refl (Oy c Ap q pos ln j Aa As)) (jg zAf (jg o (gn λs=>jc (Lt s (zG8 c q pos ln j Aa As Ap)) (cn λG k=>λp r h=>by
   refine gs (tg:=[([],(Oy c Ap q pos ln j Aa As))]) I0 [0,1,2,3,4,5,6,7,8] p (HE (AR Tryz.f108) 89 [f]) (AF 129 [(1,.ref 2 0),(3,.ref 3 0),(4,.ref 4 0),(10,.ref 5 0),(11,.ref 6 0),(12,.ref 7 0),(64,.ints c.cells),(65,.i (c.cells.length:Int)),(66,.i Ap),(89,.it 8)]) (zG7 c q pos ln j Aa As Ap) ?_;refine r0 8 89 #[90] Bw 9 k (yu n c Ap q pos ln Aa As j) ?_;cases G with
   | s0 Ep=>
    dsimp only at h
    revert r;apply gO;exact gw 128 (lG I0 [0,1,2,3,4] (C _ _ · f a)))))))))))))))))))))))))))))))))) (lE I0 [2] [0,1])
def yq {r:Bool×Ξ}(h:RR n c q pos ln lost=some r):EQ 108 [.ref 0 0] [oW c q pos 1 ln,oI lost] (.bool r.1) [oW c q pos 1 ln,oI r.2] false:=by
 refine ot Tryz.func108 λB N=>?_
 revert r;apply gO;exact jt (jt (lN I0 [0,1,2,3,4] ((yx B N c q pos ln lost n) _ _ · n Nat.le.refl)))
end
section
set_option maxRecDepth 100000
set_option maxHeartbeats 40000000
def zBc:Au (A9 Tryz.f128 1) [] (List.range 18) []:=by unfold Au;kernel_rfl
def zAO:BX:=λi=>match i with
 | 1=>.ord [] (List.range 18) []
 | _=>.no
def wo (n:Nat)(N Z:Int)(c:AD)(q:AA)(pos:Ξ)(ln:Nat)(lost:Ξ):Option (Bool×Ξ):= if (0<=N/\ N<(q.values.length:Int))/\ (0<=Z/\ Z<(q.values.length:Int))/\ AG ((q.values.getD N.toNat 0)-(q.values.getD Z.toNat 0))/\ AG (0-((q.values.getD N.toNat 0)-(q.values.getD Z.toNat 0))) then some ((decide ((if (0-((q.values.getD N.toNat 0)-(q.values.getD Z.toNat 0)))>((q.values.getD N.toNat 0)-(q.values.getD Z.toNat 0)) then (0-((q.values.getD N.toNat 0)-(q.values.getD Z.toNat 0))) else ((q.values.getD N.toNat 0)-(q.values.getD Z.toNat 0)))>=c.lo)),lost) else none
def dG (n:Nat)(N Z:Int)(c:AD)(q:AA)(pos:Ξ)(ln:Nat)(lost:Ξ):Option (Bool×Ξ):=wo n N Z c q pos ln lost
variable {r:Bool×Ξ}{lost pos:Ξ}{ln n:Nat}{q:AA}{c:AD}{a Z:Int}
def zMB (h:dG n a Z c q pos ln lost=some r):EQ 128 [.i a,.i Z,.ref 0 0] [oC [.ref 1 0],oW c q pos 2 ln,oI lost] (.bool r.1) [oC [.ref 1 0],oW c q pos 2 ln,oI r.2] false:=by
 refine ot Tryz.func128 λB N=>?_
 revert r;apply gO;exact jg zBc (gc (gi (gc (gi (gc (gw 23 (gw 26 (lE zAO [5] [0,1,2]))))))))
def zBC:Au (A9 Tryz.f129 1) [] (List.range 6) []:=by unfold Au;kernel_rfl
def Ur:BX:=λi=>match i with
 | 1=>.ord [] (List.range 6) []
 | _=>.no
def re (n:Nat)(N Z:Int)(c:AD)(q:AA)(pos:Ξ)(ln:Nat)(lost:Ξ):Option (Bool×Ξ):= if (0<=N/\ N<=(IntKind.i64.bits:Int))/\ (0<=Z/\ Z<=(IntKind.i64.bits:Int)) then bif ((bits .and .i64 (IntKind.i64.wrap (1*2 ^ (N).toNat)) c.set)==0) then bif ((bits .and .i64 (IntKind.i64.wrap (1*2 ^ (Z).toNat)) c.set)==0) then some (true,lost) else some (((bits .and .i64 (IntKind.i64.wrap (1*2 ^ (N).toNat)) c.other)==0),lost) else bif ((bits .and .i64 (IntKind.i64.wrap (1*2 ^ (Z).toNat)) c.other)==0) then bif ((bits .and .i64 (IntKind.i64.wrap (1*2 ^ (Z).toNat)) c.set)==0) then some (true,lost) else some (((bits .and .i64 (IntKind.i64.wrap (1*2 ^ (N).toNat)) c.other)==0),lost) else some (false,lost) else none
def Z2 (n:Nat)(N Z:Int)(c:AD)(q:AA)(pos:Ξ)(ln:Nat)(lost:Ξ):Option (Bool×Ξ):=re n N Z c q pos ln lost
def zEO (h:Z2 n a Z c q pos ln lost=some r):EQ 129 [.i a,.i Z,.ref 0 0] [oC [.ref 1 0],oW c q pos 2 ln,oI lost] (.bool r.1) [oC [.ref 1 0],oW c q pos 2 ln,oI r.2] false:=by
 refine ot Tryz.func129 λB N=>?_
 revert r;apply gO;exact jg zBC (gc (gi (gi (bi 19 (bi 38 (lE Ur [5] [0,1,2]) (lE Ur [5] [0,1,2])) (bi 28 (bi 38 (lE Ur [5] [0,1,2]) (lE Ur [5] [0,1,2])) (lE Ur [5] [0,1,2]))))))
def zBA:Au (A9 Tryz.f127 1) [] (List.range 16) []:=by unfold Au;kernel_rfl
def zA8:Au (A9 Tryz.f127 2) [([0,1,2,3,4,5,6,7,8,9,10,11,12,13],14)] [15] [16]:=by unfold Au;kernel_rfl
def zA7:Au (A9 Tryz.f127 9) [] [0,1,2,3] [4]:=by unfold Au;kernel_rfl
def zA9:Au (A9 Tryz.f127 10) [] [0,1,2,3] [4]:=by unfold Au;kernel_rfl
def NK:BX:=λi=>match i with
 | 1=>.ord [] (List.range 16) []
 | 2=>.ord [([0,1,2,3,4,5,6,7,8,9,10,11,12,13],14)] [15] [16]
 | 9=>.ord [] [0,1,2,3] [4]
 | 10=>.ord [] [0,1,2,3] [4]
 | _=>.no
def zH2 (c:AD)(q:AA)(pos:Ξ)(ln:Nat)(lost:Ξ):DH:=[oC [.ref 1 0],oW c q pos 2 ln,oI lost,oC [.fn 128 1 (L1 [.ref 0 0])],oC [.i (pos.getD ((c.cells.getD 1 0).toNat) 0)],oC [.i 0],oC [.i 0]]
def zH1 (c:AD)(q:AA)(pos:Ξ)(ln:Nat)(lost:Ξ):DH:=[oC [.ref 1 0],oW c q pos 2 ln,oI lost,oC [.fn 128 1 (L1 [.ref 0 0])],oC [.i (pos.getD ((c.cells.getD 1 0).toNat) 0)],oC [.i 0],oC [.i 0],some (.iter ((Bj (pos.getD ((c.cells.getD 0 0).toNat) 0)).map Bw))]
def zH0 (c:AD)(q:AA)(pos:Ξ)(ln:Nat)(X:Ξ)(Y V:Int):DH:=[oC [.ref 1 0],oW c q pos 2 ln,oI X,oC [.fn 128 1 (L1 [.ref 0 0])],oC [.i (pos.getD ((c.cells.getD 1 0).toNat) 0)],oC [.i Y],oC [.i V],none]
def zHz (c:AD)(q:AA)(pos:Ξ)(ln:Nat)(G:Ξ)(Y V:Int):DH:=[oC [.ref 1 0],oW c q pos 2 ln,oI G,oC [.fn 128 1 (L1 [.ref 0 0])],oC [.i (pos.getD ((c.cells.getD 1 0).toNat) 0)],oC [.i Y],oC [.i V],none]
def tV (c:AD)(q:AA)(pos:Ξ)(ln:Nat)(W:Ξ)(X Y L:Int):DH:=[oC [.ref 1 0],oW c q pos 2 ln,oI W,oC [.fn 128 1 (L1 [.ref 0 0])],oC [.i (pos.getD ((c.cells.getD 1 0).toNat) 0)],oC [.i X],oC [.i Y],none,oC [.i L]]
def zHy (c:AD)(q:AA)(pos:Ξ)(ln:Nat)(W:Ξ)(X Y L:Int):DH:=[oC [.ref 1 0],oW c q pos 2 ln,oI W,oC [.fn 128 1 (L1 [.ref 0 0])],oC [.i (pos.getD ((c.cells.getD 1 0).toNat) 0)],oC [.i X],oC [.i Y],none,oC [.i L],some (.iter ((Bj (pos.getD ((c.cells.getD 1 0).toNat) 0)).map Bw))]
def tU (c:AD)(q:AA)(pos:Ξ)(ln:Nat)(k:Ξ)(M N L:Int):DH:=[oC [.ref 1 0],oW c q pos 2 ln,oI k,oC [.fn 128 1 (L1 [.ref 0 0])],oC [.i (pos.getD ((c.cells.getD 1 0).toNat) 0)],oC [.i M],oC [.i N],none,oC [.i L],none]
inductive MC where
 | s0 (EJ:Ξ) (Dk Dj:Int)
def rK (c:AD)(q:AA)(pos:Ξ)(ln:Nat)(L:Int):MC -> DH
 | .s0 k M N=>[oC [.ref 1 0],oW c q pos 2 ln,oI k,oC [.fn 128 1 (L1 [.ref 0 0])],oC [.i (pos.getD ((c.cells.getD 1 0).toNat) 0)],oC [.i M],oC [.i N],none,oC [.i L],none]
def Zg (n:Nat)(c:AD)(q:AA)(pos:Ξ)(ln:Nat)(L o:Int)(k:Ξ)(M N:Int):Option MC:= (dG n L o c q pos ln k).bind λG=> bif G.1 then if (0<=L/\ L<=(IntKind.i64.bits:Int))/\ (0<=o/\ o<=(IntKind.i64.bits:Int)) then some (.s0 G.2 (bits .or .i64 M (IntKind.i64.wrap (1*2 ^ (L).toNat))) (bits .or .i64 N (IntKind.i64.wrap (1*2 ^ (o).toNat)))) else none else some (.s0 G.2 M N)
def rJ (n:Nat)(c:AD)(q:AA)(pos:Ξ)(ln:Nat)(L o:Int):MC -> Option MC
 | .s0 k M N=>Zg n c q pos ln L o k M N
def Zh (n:Nat)(c:AD)(q:AA)(pos:Ξ)(ln:Nat)(L o:Int)(s:MC):Option MC:=rJ n c q pos ln L o s
def zDv (n:Nat)(c:AD)(q:AA)(pos:Ξ)(ln:Nat)(L:Int)(l B:Nat)(N:Yd 10)(o:Int)(s:MC)(r:MC)(h:Zh n c q pos ln L o s=some r):TA l B N (C0 10 [] 0 (rK c q pos ln L r)) Tryz.f127 45 ⟨AF 69 [(3,.ref 3 0),(9,.ref 5 0),(10,.ref 6 0),(11,.ref 8 0),(45,.it 9),(46,.i o)],rK c q pos ln L s⟩:=by
 cases s with
 | s0 k M a=>
  replace h:Zg n c q pos ln L o k M a=some r:=h;unfold Zg at h;refine ag NK [0,1,2,3,4,5,6,7,8,9] H0 (AF 69 [(3,.ref 3 0),(9,.ref 5 0),(10,.ref 6 0),(11,.ref 8 0),(12,.i o)]) (tU c q pos ln k M a L) λN=>?_
  revert r;apply gO;exact ce zMB [0,1,2] (tU c q pos ln k M a L) λ_=>bi 50 (jg zA7 (gc (gi (jt (jg zA9 (gi (jt (lF λp=>rr NK [0,1,2,3,4,5,6,7,8,9] rfl p)))))))) (lF λp=>rr NK [0,1,2,3,4,5,6,7,8,9] rfl p)
inductive MD where
 | s0 (DA:Ξ) (C9 C8:Int)
def rL (c:AD)(q:AA)(pos:Ξ)(ln:Nat):MD -> DH
 | .s0 W X Y=>[oC [.ref 1 0],oW c q pos 2 ln,oI W,oC [.fn 128 1 (L1 [.ref 0 0])],oC [.i (pos.getD ((c.cells.getD 1 0).toNat) 0)],oC [.i X],oC [.i Y],none]
def Zf (n:Nat)(c:AD)(q:AA)(pos:Ξ)(ln:Nat)(L:Int)(W:Ξ)(X Y:Int):Option MD:=
 if 0<=(pos.getD ((c.cells.getD 1 0).toNat) 0)/\ (pos.getD ((c.cells.getD 1 0).toNat) 0)<9223372036854775808 then
  (CO (Zh n c q pos ln L) (Bj (pos.getD ((c.cells.getD 1 0).toNat) 0)) (.s0 W X Y)).bind λH=>
   match H with
   | .s0 P Q R=>
    some (.s0 P Q R)
 else none
def rI (n:Nat)(c:AD)(q:AA)(pos:Ξ)(ln:Nat)(L:Int):MD -> Option MD
 | .s0 W X Y=>Zf n c q pos ln L W X Y
def Zj (n:Nat)(c:AD)(q:AA)(pos:Ξ)(ln:Nat)(L:Int)(s:MD):Option MD:=rI n c q pos ln L s
def zDu (n:Nat)(c:AD)(q:AA)(pos:Ξ)(ln:Nat)(l B:Nat)(N:Yd 8)(L:Int)(s:MD)(r:MD)(h:Zj n c q pos ln L s=some r):TA l B N (C0 8 [] 0 (rL c q pos ln r)) Tryz.f127 42 ⟨AF 69 [(0,.ref 1 0),(3,.ref 3 0),(5,.i (c.cells.getD 0 0)),(6,.i (c.cells.getD 1 0)),(8,.ref 4 0),(9,.ref 5 0),(10,.ref 6 0),(42,.it 7),(43,.i L)],rL c q pos ln s⟩:=by
 cases s with
 | s0 W X Y=>
  replace h:Zf n c q pos ln L W X Y=some r:=h;unfold Zf at h;refine ag NK [0,1,2,3,4,5,6,7,8] (H0.t) (AF 69 [(3,.ref 3 0),(8,.ref 4 0),(9,.ref 5 0),(10,.ref 6 0),(11,.ref 8 0)]) (tV c q pos ln W X Y L) λN=>?_
  revert r;apply gO
  exact gn λa=>jc (Lt a (tV c q pos ln W X Y L)) (cn λH b=>λp r h=>by
   refine gs NK [0,1,2,3,4,5,6,7,8,9] p (HE (PI Tryz.f127 42) 45 []) (AF 69 [(3,.ref 3 0),(9,.ref 5 0),(10,.ref 6 0),(11,.ref 8 0),(45,.it 9)]) (zHy c q pos ln W X Y L) ?_;refine r0 9 45 #[46] Bw 10 b (zDv n c q pos ln L) ?_;cases H with
   | s0 XY XX XW=>
    dsimp only at h
    revert r;apply gO;exact lF λp=>rr NK [0,1,2,3,4,5,6,7] rfl p)
def rH (n:Nat)(c:AD)(q:AA)(pos:Ξ)(ln:Nat)(lost:Ξ):Option (Bool×Ξ):=
 if ((0:Int)<=0/\ 0<(c.cells.length:Int))/\ ((0:Int)<=1/\ 1<(c.cells.length:Int))/\ (0<=(c.cells.getD 0 0)/\ (c.cells.getD 0 0)<(pos.length:Int))/\ (0<=(c.cells.getD 1 0)/\ (c.cells.getD 1 0)<(pos.length:Int))/\ (0<=(pos.getD ((c.cells.getD 0 0).toNat) 0)/\ (pos.getD ((c.cells.getD 0 0).toNat) 0)<9223372036854775808) then
  (CO (Zj n c q pos ln) (Bj (pos.getD ((c.cells.getD 0 0).toNat) 0)) (.s0 lost 0 0)).bind λj=>
   match j with
   | .s0 X Y V=>
    (D7 n (c.cells.getD 0 0) (bits .xor .i64 (-1) Y) c q pos ln X).bind λG=>
     (D7 n (c.cells.getD 1 0) (bits .xor .i64 (-1) V) c q pos ln G).bind λy3=>
      some (true,y3)
 else none
def gC (n:Nat)(c:AD)(q:AA)(pos:Ξ)(ln:Nat)(lost:Ξ):Option (Bool×Ξ):=rH n c q pos ln lost
def zDt (h:gC n c q pos ln lost=some r):EQ 127 [.ref 1 0,.fn 128 1 (L1 [.ref 0 0])] [oC [.ref 1 0],oW c q pos 2 ln,oI lost] (.bool r.1) [oC [.ref 1 0],oW c q pos 2 ln,oI r.2] false:=by
 refine ot Tryz.func127 λB N=>?_
 revert r;apply gO
 exact jg zBA (gc (gi (gc (gi (jg zA8 (gc (gi (gc (gi (jt (gn λa=>jc (Lt a (zH2 c q pos ln lost)) (cn λj u=>λp r h=>by
  refine gs NK [0,1,2,3,4,5,6,7] p (HE (AR Tryz.f127) 42 []) (AF 69 [(0,.ref 1 0),(3,.ref 3 0),(5,.i (c.cells.getD 0 0)),(6,.i (c.cells.getD 1 0)),(8,.ref 4 0),(9,.ref 5 0),(10,.ref 6 0),(42,.it 7)]) (zH1 c q pos ln lost) ?_;refine r0 7 42 #[43] Bw 8 u (zDu n c q pos ln) ?_;cases j with
  | s0 X Y V=>
   dsimp only at h
   revert r;apply gO;exact ce Gy [1,2] (zH0 c q pos ln X Y V) λG=>ce Gy [1,2] (zHz c q pos ln G Y V) λ_=>lE NK [4] [0,1,2]))))))))))))
def zA6:Au (A9 Tryz.f127 1) [] (List.range 16) []:=by unfold Au;kernel_rfl
def zA4:Au (A9 Tryz.f127 2) [([0,1,2,3,4,5,6,7,8,9,10,11,12,13],14)] [15] [16]:=by unfold Au;kernel_rfl
def zA3:Au (A9 Tryz.f127 9) [] [0,1,2,3] [4]:=by unfold Au;kernel_rfl
def zA5:Au (A9 Tryz.f127 10) [] [0,1,2,3] [4]:=by unfold Au;kernel_rfl
def NJ:BX:=λi=>match i with
 | 1=>.ord [] (List.range 16) []
 | 2=>.ord [([0,1,2,3,4,5,6,7,8,9,10,11,12,13],14)] [15] [16]
 | 9=>.ord [] [0,1,2,3] [4]
 | 10=>.ord [] [0,1,2,3] [4]
 | _=>.no
def zHx (c:AD)(q:AA)(pos:Ξ)(ln:Nat)(lost:Ξ):DH:=[oC [.ref 1 0],oW c q pos 2 ln,oI lost,oC [.fn 129 1 (L1 [.ref 0 0])],oC [.i (pos.getD ((c.cells.getD 1 0).toNat) 0)],oC [.i 0],oC [.i 0]]
def zHw (c:AD)(q:AA)(pos:Ξ)(ln:Nat)(lost:Ξ):DH:=[oC [.ref 1 0],oW c q pos 2 ln,oI lost,oC [.fn 129 1 (L1 [.ref 0 0])],oC [.i (pos.getD ((c.cells.getD 1 0).toNat) 0)],oC [.i 0],oC [.i 0],some (.iter ((Bj (pos.getD ((c.cells.getD 0 0).toNat) 0)).map Bw))]
def zHv (c:AD)(q:AA)(pos:Ξ)(ln:Nat)(X:Ξ)(Y V:Int):DH:=[oC [.ref 1 0],oW c q pos 2 ln,oI X,oC [.fn 129 1 (L1 [.ref 0 0])],oC [.i (pos.getD ((c.cells.getD 1 0).toNat) 0)],oC [.i Y],oC [.i V],none]
def zHu (c:AD)(q:AA)(pos:Ξ)(ln:Nat)(G:Ξ)(Y V:Int):DH:=[oC [.ref 1 0],oW c q pos 2 ln,oI G,oC [.fn 129 1 (L1 [.ref 0 0])],oC [.i (pos.getD ((c.cells.getD 1 0).toNat) 0)],oC [.i Y],oC [.i V],none]
def tT (c:AD)(q:AA)(pos:Ξ)(ln:Nat)(W:Ξ)(X Y L:Int):DH:=[oC [.ref 1 0],oW c q pos 2 ln,oI W,oC [.fn 129 1 (L1 [.ref 0 0])],oC [.i (pos.getD ((c.cells.getD 1 0).toNat) 0)],oC [.i X],oC [.i Y],none,oC [.i L]]
def zHt (c:AD)(q:AA)(pos:Ξ)(ln:Nat)(W:Ξ)(X Y L:Int):DH:=[oC [.ref 1 0],oW c q pos 2 ln,oI W,oC [.fn 129 1 (L1 [.ref 0 0])],oC [.i (pos.getD ((c.cells.getD 1 0).toNat) 0)],oC [.i X],oC [.i Y],none,oC [.i L],some (.iter ((Bj (pos.getD ((c.cells.getD 1 0).toNat) 0)).map Bw))]
def tS (c:AD)(q:AA)(pos:Ξ)(ln:Nat)(k:Ξ)(M N L:Int):DH:=[oC [.ref 1 0],oW c q pos 2 ln,oI k,oC [.fn 129 1 (L1 [.ref 0 0])],oC [.i (pos.getD ((c.cells.getD 1 0).toNat) 0)],oC [.i M],oC [.i N],none,oC [.i L],none]
inductive MA where
 | s0 (EJ:Ξ) (Dk Dj:Int)
def rF (c:AD)(q:AA)(pos:Ξ)(ln:Nat)(L:Int):MA -> DH
 | .s0 k M N=>[oC [.ref 1 0],oW c q pos 2 ln,oI k,oC [.fn 129 1 (L1 [.ref 0 0])],oC [.i (pos.getD ((c.cells.getD 1 0).toNat) 0)],oC [.i M],oC [.i N],none,oC [.i L],none]
def Zc (n:Nat)(c:AD)(q:AA)(pos:Ξ)(ln:Nat)(L o:Int)(k:Ξ)(M N:Int):Option MA:= (Z2 n L o c q pos ln k).bind λG=> bif G.1 then if (0<=L/\ L<=(IntKind.i64.bits:Int))/\ (0<=o/\ o<=(IntKind.i64.bits:Int)) then some (.s0 G.2 (bits .or .i64 M (IntKind.i64.wrap (1*2 ^ (L).toNat))) (bits .or .i64 N (IntKind.i64.wrap (1*2 ^ (o).toNat)))) else none else some (.s0 G.2 M N)
def rD (n:Nat)(c:AD)(q:AA)(pos:Ξ)(ln:Nat)(L o:Int):MA -> Option MA
 | .s0 k M N=>Zc n c q pos ln L o k M N
def Zd (n:Nat)(c:AD)(q:AA)(pos:Ξ)(ln:Nat)(L o:Int)(s:MA):Option MA:=rD n c q pos ln L o s
def zDs (n:Nat)(c:AD)(q:AA)(pos:Ξ)(ln:Nat)(L:Int)(l B:Nat)(N:Yd 10)(o:Int)(s:MA)(r:MA)(h:Zd n c q pos ln L o s=some r):TA l B N (C0 10 [] 0 (rF c q pos ln L r)) Tryz.f127 45 ⟨AF 69 [(3,.ref 3 0),(9,.ref 5 0),(10,.ref 6 0),(11,.ref 8 0),(45,.it 9),(46,.i o)],rF c q pos ln L s⟩:=by
 cases s with
 | s0 k M a=>
  replace h:Zc n c q pos ln L o k M a=some r:=h;unfold Zc at h;refine ag NJ [0,1,2,3,4,5,6,7,8,9] H0 (AF 69 [(3,.ref 3 0),(9,.ref 5 0),(10,.ref 6 0),(11,.ref 8 0),(12,.i o)]) (tS c q pos ln k M a L) λN=>?_
  revert r;apply gO;exact ce zEO [0,1,2] (tS c q pos ln k M a L) λ_=>bi 50 (jg zA3 (gc (gi (jt (jg zA5 (gi (jt (lF λp=>rr NJ [0,1,2,3,4,5,6,7,8,9] rfl p)))))))) (lF λp=>rr NJ [0,1,2,3,4,5,6,7,8,9] rfl p)
inductive MB where
 | s0 (DA:Ξ) (C9 C8:Int)
def rG (c:AD)(q:AA)(pos:Ξ)(ln:Nat):MB -> DH
 | .s0 W X Y=>[oC [.ref 1 0],oW c q pos 2 ln,oI W,oC [.fn 129 1 (L1 [.ref 0 0])],oC [.i (pos.getD ((c.cells.getD 1 0).toNat) 0)],oC [.i X],oC [.i Y],none]
def Zb (n:Nat)(c:AD)(q:AA)(pos:Ξ)(ln:Nat)(L:Int)(W:Ξ)(X Y:Int):Option MB:=
 if 0<=(pos.getD ((c.cells.getD 1 0).toNat) 0)/\ (pos.getD ((c.cells.getD 1 0).toNat) 0)<9223372036854775808 then
  (CO (Zd n c q pos ln L) (Bj (pos.getD ((c.cells.getD 1 0).toNat) 0)) (.s0 W X Y)).bind λH=>
   match H with
   | .s0 P Q R=>
    some (.s0 P Q R)
 else none
def rC (n:Nat)(c:AD)(q:AA)(pos:Ξ)(ln:Nat)(L:Int):MB -> Option MB
 | .s0 W X Y=>Zb n c q pos ln L W X Y
def Ze (n:Nat)(c:AD)(q:AA)(pos:Ξ)(ln:Nat)(L:Int)(s:MB):Option MB:=rC n c q pos ln L s
def zDr (n:Nat)(c:AD)(q:AA)(pos:Ξ)(ln:Nat)(l B:Nat)(N:Yd 8)(L:Int)(s:MB)(r:MB)(h:Ze n c q pos ln L s=some r):TA l B N (C0 8 [] 0 (rG c q pos ln r)) Tryz.f127 42 ⟨AF 69 [(0,.ref 1 0),(3,.ref 3 0),(5,.i (c.cells.getD 0 0)),(6,.i (c.cells.getD 1 0)),(8,.ref 4 0),(9,.ref 5 0),(10,.ref 6 0),(42,.it 7),(43,.i L)],rG c q pos ln s⟩:=by
 cases s with
 | s0 W X Y=>
  replace h:Zb n c q pos ln L W X Y=some r:=h;unfold Zb at h;refine ag NJ [0,1,2,3,4,5,6,7,8] (H0.t) (AF 69 [(3,.ref 3 0),(8,.ref 4 0),(9,.ref 5 0),(10,.ref 6 0),(11,.ref 8 0)]) (tT c q pos ln W X Y L) λN=>?_
  revert r;apply gO
  exact gn λa=>jc (Lt a (tT c q pos ln W X Y L)) (cn λH b=>λp r h=>by
   refine gs NJ [0,1,2,3,4,5,6,7,8,9] p (HE (PI Tryz.f127 42) 45 []) (AF 69 [(3,.ref 3 0),(9,.ref 5 0),(10,.ref 6 0),(11,.ref 8 0),(45,.it 9)]) (zHt c q pos ln W X Y L) ?_;refine r0 9 45 #[46] Bw 10 b (zDs n c q pos ln L) ?_;cases H with
   | s0 XY XX XW=>
    dsimp only at h
    revert r;apply gO;exact lF λp=>rr NJ [0,1,2,3,4,5,6,7] rfl p)
def rB (n:Nat)(c:AD)(q:AA)(pos:Ξ)(ln:Nat)(lost:Ξ):Option (Bool×Ξ):=
 if ((0:Int)<=0/\ 0<(c.cells.length:Int))/\ ((0:Int)<=1/\ 1<(c.cells.length:Int))/\ (0<=(c.cells.getD 0 0)/\ (c.cells.getD 0 0)<(pos.length:Int))/\ (0<=(c.cells.getD 1 0)/\ (c.cells.getD 1 0)<(pos.length:Int))/\ (0<=(pos.getD ((c.cells.getD 0 0).toNat) 0)/\ (pos.getD ((c.cells.getD 0 0).toNat) 0)<9223372036854775808) then
  (CO (Ze n c q pos ln) (Bj (pos.getD ((c.cells.getD 0 0).toNat) 0)) (.s0 lost 0 0)).bind λj=>
   match j with
   | .s0 X Y V=>
    (D7 n (c.cells.getD 0 0) (bits .xor .i64 (-1) Y) c q pos ln X).bind λG=>
     (D7 n (c.cells.getD 1 0) (bits .xor .i64 (-1) V) c q pos ln G).bind λy3=>
      some (true,y3)
 else none
def gB (n:Nat)(c:AD)(q:AA)(pos:Ξ)(ln:Nat)(lost:Ξ):Option (Bool×Ξ):=rB n c q pos ln lost
def zDq (h:gB n c q pos ln lost=some r):EQ 127 [.ref 1 0,.fn 129 1 (L1 [.ref 0 0])] [oC [.ref 1 0],oW c q pos 2 ln,oI lost] (.bool r.1) [oC [.ref 1 0],oW c q pos 2 ln,oI r.2] false:=by
 refine ot Tryz.func127 λB N=>?_
 revert r;apply gO
 exact jg zA6 (gc (gi (gc (gi (jg zA4 (gc (gi (gc (gi (jt (gn λa=>jc (Lt a (zHx c q pos ln lost)) (cn λj u=>λp r h=>by
  refine gs NJ [0,1,2,3,4,5,6,7] p (HE (AR Tryz.f127) 42 []) (AF 69 [(0,.ref 1 0),(3,.ref 3 0),(5,.i (c.cells.getD 0 0)),(6,.i (c.cells.getD 1 0)),(8,.ref 4 0),(9,.ref 5 0),(10,.ref 6 0),(42,.it 7)]) (zHw c q pos ln lost) ?_;refine r0 7 42 #[43] Bw 8 u (zDr n c q pos ln) ?_;cases j with
  | s0 X Y V=>
   dsimp only at h
   revert r;apply gO;exact ce Gy [1,2] (zHv c q pos ln X Y V) λG=>ce Gy [1,2] (zHu c q pos ln G Y V) λ_=>lE NJ [4] [0,1,2]))))))))))))
def ly (n:Nat)(c:AD)(q:AA)(pos:Ξ)(ln:Nat)(lost:Ξ):Option (Bool×Ξ):= (gC n c q pos ln lost).bind λj=> some (j.1,j.2)
def Qu (n:Nat)(c:AD)(q:AA)(pos:Ξ)(ln:Nat)(lost:Ξ):Option (Bool×Ξ):=ly n c q pos ln lost
def zMA (h:Qu n c q pos ln lost=some r):EQ 111 [.ref 0 0] [oW c q pos 1 ln,oI lost] (.bool r.1) [oW c q pos 1 ln,oI r.2] false:=by
 unfold Qu ly at h;refine ot Tryz.func111 λB N=>?_
 revert r;apply gO;exact ce zDt [2,0,1] [oW c q pos 1 ln,oI lost,oC [.ref 0 0]] λ_=>lE AC [2] [0,1]
def gW (n:Nat)(c:AD)(q:AA)(pos:Ξ)(ln:Nat)(lost:Ξ):Option (Bool×Ξ):= (gB n c q pos ln lost).bind λj=> some (j.1,j.2)
def PV (n:Nat)(c:AD)(q:AA)(pos:Ξ)(ln:Nat)(lost:Ξ):Option (Bool×Ξ):=gW n c q pos ln lost
def zEN (h:PV n c q pos ln lost=some r):EQ 112 [.ref 0 0] [oW c q pos 1 ln,oI lost] (.bool r.1) [oW c q pos 1 ln,oI r.2] false:=by
 unfold PV gW at h;refine ot Tryz.func112 λB N=>?_
 revert r;apply gO;exact ce zDq [2,0,1] [oW c q pos 1 ln,oI lost,oC [.ref 0 0]] λ_=>lE AC [2] [0,1]
end
abbrev zJb:=@List.drop_zero
section
set_option maxRecDepth 100000
set_option maxHeartbeats 40000000
def zLu (n:Nat)(s_:Ξ):Option Unit:= some ()
def zLw (n:Nat)(N:Ξ):Option Unit:=zLu n N
variable {n:Nat}
def zLt (a:Ξ){r:Unit}(h:zLw n a=some r):EQ 124 [.ints a] [] (.fn 135 1 (L1 [.ref 0 0])) [oC [.ints a]] true:=by
 refine ot Tryz.func124 λB N=>?_
 revert r;apply gO;exact lE AC [2] [0]
inductive Tn where
 | l1 (x3:Int)
def Qp (n:Nat)(self:Tn -> Option (List (Δ)))(N:Ξ)(H:Int):Option (List (Δ)):= bif (decide (H>=0)) then if 0<=H/\ H<(N.length:Int) then Option.map (λl=>(H,N.getD H.toNat 0)::l) (if AG (H-1) then self (.l1 (H-1)) else none) else none else some []
def lY (n:Nat)(self:Tn -> Option (List (Δ)))(N:Ξ):Option (List (Δ)):= if AG ((N.length:Int)-1) then self (.l1 ((N.length:Int)-1)) else none
def Ob (N:Ξ):Nat -> Tn -> Option (List (Δ))
 | 0,_=>none
 | n+1,.l1 H=>Qp n (Ob N n) N H
def back (n:Nat)(N:Ξ):Option (List (Δ)):=lY n (Ob N n) N
def lZ (C:Du Tryz.prog)(n:Nat)(N:Ξ)(r:List (Δ)):Tn -> Prop
 | .l1 H=>∀ f:Nat,n<=f -> ∀ i:Nat,i<=C.encs.length -> C.encs.drop i=r.map Qe -> A1 Tryz.prog GG Fence.wide none 1 (C.Y GG 1 i) (C.Q GG 1) (Ag f (An (AR Tryz.f135) 0 [])) ⟨AF 19 [(0,.yl C.l),(1,.ref 0 0),(3,.i H)],[oC [.ints N]]⟩
def zLq (C:Du Tryz.prog)(n:Nat)(self:Tn -> Option (List (Δ)))(N:Ξ)(k: ∀ A r,self A=some r -> lZ C n N r A)(H:Int)(r:List (Δ))(h:Qp n self N H=some r):lZ C (n+1) N r (.l1 H):=by
 intro f c;intro i hi a;refine rd c λf c=>?_
 unfold Qp at h;have p:=H0;rcases DN h with ⟨d,h⟩ | ⟨d,h⟩
 ·have p:=H0.b 8 d;refine gs (Ab 3 AC) [0] p (EP (AR Tryz.f135) 3 [f]) (AF 19 [(0,.yl C.l),(1,.ref 0 0),(3,.i H)]) [oC [.ints N]] ?_;obtain ⟨q,h⟩:=DG h;have p:=H0.g q;obtain ⟨r,j,rfl⟩:=SS h;clear h;have h:=j;clear j;obtain ⟨m,hi,a⟩:=kr a;refine A1.y (ops:=A9 Tryz.f135 3) HC.x 6 [0,1,3,18] [0] p (x:=Qe (H,N.getD H.toNat 0)) (AF 19 [(0,.yl C.l),(1,.ref 0 0),(3,.i H),(18,.bool false)]) [oC [.ints N]] (AF 19 [(0,.yl C.l),(1,.ref 0 0),(3,.i H),(18,.bool true)]) [oC [.ints N]] (by kernel_rfl) (by kernel_rfl) (by kernel_rfl) m (by kernel_rfl) ?_ ?_
  ·generalize i+1=i at hi a ⊢
   obtain ⟨o,h⟩:=DG h;have p:=H0.w 10 o;exact gg AC [0] p (k _ _ h f c i hi a)
  ·exact TrI.e HC.x AC 6 H0 (by kernel_rfl) (.inr rfl)
 ·have p:=H0.b 8 d;cases h;exact TrI.e HC.x AC 10 p (by kernel_rfl) (.inl (by rw [W0 hi a]))
def wV (C:Du Tryz.prog)(N:Ξ): ∀ (n:Nat) (A:Tn) (r:List (Δ)),Ob N n A=some r -> lZ C n N r A
 | 0,_,_,h=>by cases h
 | n+1,.l1 H,r,h=>zLq C n (Ob N n) N (wV C N n) H r h
variable {r:List (Δ)}
def zLr (N:Ξ)(h:back n N=some r)(C:Du Tryz.prog)(U:C.encs=r.map Qe):A1 Tryz.prog GG Fence.wide none 1 (C.Y GG 1 0) (C.Q GG 1) [.code (AR Tryz.f135)] ⟨AF 19 [(0,.yl C.l),(1,.ref 0 0)],[oC [.ints N]]⟩:=by
 suffices H: ∀ i:Nat,i<=C.encs.length -> C.encs.drop i=r.map Qe -> A1 Tryz.prog GG Fence.wide none 1 (C.Y GG 1 i) (C.Q GG 1) [.code (AR Tryz.f135)] ⟨AF 19 [(0,.yl C.l),(1,.ref 0 0)],[oC [.ints N]]⟩ from H 0 (zIR _) (by rw [zJb];exact U)
 intro i hi b;have a:=wV C N n;unfold back at h
 generalize Ob N n=self at h a
 unfold lY at h;obtain ⟨q,h⟩:=DG h;have p:=H0.w 6 q;exact gg AC [0] p (en n (a _ _ h n Nat.le.refl i hi b))
def zLv {N:Ξ}(h:back n N=some r)(H:DH):EQ 124 [.ints N] H (.it H.length) (H++[some (.iter (r.map Qe))]) true:=by
 refine ES.iterN (c:=L1 [.ref 0 0]) (h0:=[oC [.ints N]]) (fn:=Tryz.f135) (zLt (n:=0) N (r:=()) rfl) (by kernel_rfl) Tryz.func135 (by kernel_rfl) (by kernel_rfl) (by kernel_rfl) (λC U=>?_) H;have e:DV.yl C.l::(List.range 1).map (L1 [.ref 0 0])++List.replicate (Tryz.f135.ntmps-(1+1)) .any=AF 19 [(0,.yl C.l),(1,.ref 0 0)]:=by kernel_rfl
 rw [e];exact zLr N h C U
end
abbrev zJF:=@LawfulBEq.eq_of_beq
section
set_option maxRecDepth 100000
set_option maxHeartbeats 40000000
def zC4 (n:Nat)(g_:List Ξ)(AM:Ω)(start:Int):Option Unit:= some ()
def zC5 (n:Nat)(E:List Ξ)(S:Ω)(start:Int):Option Unit:=zC4 n E S start
variable {n:Nat}
def zC3 (E:List Ξ)(S:Ω)(start:Int){r:Unit}(h:zC5 n E S start=some r):EQ 142 [.sl 1 E.length (AK AO E),.bools S,.i start] [] (.fn 153 3 (L1 [.ref 0 0,.ref 1 0,.ref 2 0])) [oC [.sl 1 E.length (AK AO E)],oC [.i start],oC [.bools S]] true:=by
 refine ot Tryz.func142 λB N=>?_
 revert r;apply gO;exact lE AC [6] [0,2,1]
def zAy:Au (A9 Tryz.f153 6) [] (List.range 8) []:=by unfold Au;kernel_rfl
def Jq:BX:=λi=>match i with
 | 6=>.ord [] (List.range 8) []
 | _=>.no
def az (g:List Ξ)(start:Int)(inn t:Ω)(o4:Ξ):DH:=[oC [.sl 1 g.length (AK AO g)],oC [.i start],oC [.bools inn],some (.bools t),oI o4]
inductive Kx where
 | l1 (x6:Nat) (o3:Ω) (o4:Ξ)
 | l2 (x6:Nat) (By:Ξ) (C1 Bl:Int) (o3:Ω) (o4:Ξ)
 | l3 (o3:Ω)
def Ru (n:Nat)(self:Kx -> Option Ξ)(g:List Ξ)(start:Int)(inn:Ω)(K:Nat)(t:Ω)(o4:Ξ):Option Ξ:= bif (decide ((K:Int)>0)) then if ((0:Int)<=0/\ 0<(K:Int))/\ 0+0<o4.length then Option.map (λl=>(o4.getD (0+0) 0)::l) (if ((0:Int)<=0/\ 0<(K:Int))/\ 0+0<o4.length/\ (0<=(o4.getD (0+0) 0)/\ (o4.getD (0+0) 0)<(g.length:Int)) then self (.l2 K (g.getD ((o4.getD (0+0) 0).toNat) []) (((g.getD ((o4.getD (0+0) 0).toNat) []).length:Nat):Int) 0 t o4) else none) else none else some []
def NY (n:Nat)(self:Kx -> Option Ξ)(g:List Ξ)(start:Int)(inn:Ω)(K:Nat)(f:Ξ)(Z O:Int)(t:Ω)(o4:Ξ):Option Ξ:= bif (decide (O<Z)) then if (0<=O/\ O<(f.length:Int))/\ (0<=(f.getD O.toNat 0)/\ (f.getD O.toNat 0)<(inn.length:Int)) then bif (inn.getD ((f.getD O.toNat 0).toNat) false) then if (0<=(f.getD O.toNat 0)/\ (f.getD O.toNat 0)<(g.length:Int))/\ 0+((f.getD O.toNat 0).toNat)<t.length then bif (!(t.getD (0+((f.getD O.toNat 0).toNat)) false)) then if ((0=0/\ 1=([f.getD O.toNat 0]:Ξ).length)/\ (0=0/\ K=o4.length)/\ o4.length+([f.getD O.toNat 0]:Ξ).length<=Ay)/\ AG (O+1) then self (.l2 (o4.length+([f.getD O.toNat 0]:Ξ).length) f Z (O+1) (t.set (0+((f.getD O.toNat 0).toNat)) true) (o4++([f.getD O.toNat 0]:Ξ))) else none else if AG (O+1) then self (.l2 K f Z (O+1) t o4) else none else none else if AG (O+1) then self (.l2 K f Z (O+1) t o4) else none else none else bif ((K-1)==0) then if (0:Int)<=1/\ (1:Int)<=(K:Int)/\ (K:Int)<=(K:Int) then self (.l3 t) else none else if (0:Int)<=1/\ (1:Int)<=(K:Int)/\ (K:Int)<=(K:Int) then if 1<=o4.length then self (.l1 (K-1) t (o4.drop 1)) else none else none
def fT (n:Nat)(self:Kx -> Option Ξ)(g:List Ξ)(start:Int)(inn:Ω)(o3:Ω):Option Ξ:= some []
def fU (n:Nat)(self:Kx -> Option Ξ)(g:List Ξ)(start:Int)(inn:Ω):Option Ξ:= if (((g.length:Int):Int)=(g.length:Int)/\ 0<=(g.length:Int)/\ ((g.length:Int):Int)<=1000000000000)/\ (0<=start/\ start<(g.length:Int))/\ 0+start.toNat<(List.replicate g.length false).length then self (.l1 1 ((List.replicate g.length false).set (0+start.toNat) true) ([start]:Ξ)) else none
def FG (g:List Ξ)(start:Int)(inn:Ω):Nat -> Kx -> Option Ξ
 | 0,_=>none
 | n+1,.l1 K t o4=>Ru n (FG g start inn n) g start inn K t o4
 | n+1,.l2 K f Z O t o4=>NY n (FG g start inn n) g start inn K f Z O t o4
 | n+1,.l3 t=>fT n (FG g start inn n) g start inn t
def HT (n:Nat)(g:List Ξ)(start:Int)(inn:Ω):Option Ξ:=fU n (FG g start inn n) g start inn
def PK (C:Du Tryz.prog)(n:Nat)(g:List Ξ)(start:Int)(inn:Ω)(r:Ξ):Kx -> Prop
 | .l1 K t o4=>∀ f:Nat,n<=f -> ∀ i:Nat,i<=C.encs.length -> C.encs.drop i=r.map Bw -> A1 Tryz.prog GG Fence.wide none 3 (C.Y GG 3 i) (C.Q GG 3) (Ag f (An (AR Tryz.f153) 0 [])) ⟨AF 58 [(0,.yl C.l),(1,.ref 0 0),(3,.ref 2 0),(5,.msl 3 1 0 g.length),(6,.msl 4 1 0 K)],[oC [.sl 1 g.length (AK AO g)],oC [.i start],oC [.bools inn],some (.bools t),oI o4]⟩
 | .l2 K b Z O t o4=>∀ f a:Nat,n<=f -> n<=a -> ∀ i:Nat,i<=C.encs.length -> C.encs.drop i=r.map Bw -> A1 Tryz.prog GG Fence.wide none 3 (C.Y GG 3 i) (C.Q GG 3) (Ag a (An (AR Tryz.f153) 2 [f])) ⟨AF 58 [(0,.yl C.l),(1,.ref 0 0),(3,.ref 2 0),(5,.msl 3 1 0 g.length),(6,.msl 4 1 0 K),(33,.ints b),(34,.i Z),(35,.i O)],[oC [.sl 1 g.length (AK AO g)],oC [.i start],oC [.bools inn],some (.bools t),oI o4]⟩
 | .l3 t=>∀ f:Nat,n<=f -> ∀ i:Nat,i<=C.encs.length -> C.encs.drop i=r.map Bw -> A1 Tryz.prog GG Fence.wide none 3 (C.Y GG 3 i) (C.Q GG 3) (Ag f (An (AR Tryz.f153) 0 [])) ⟨AF 58 [(0,.yl C.l),(1,.ref 0 0),(3,.ref 2 0),(5,.msl 3 1 0 g.length),(6,.ints ([]:Ξ))],[oC [.sl 1 g.length (AK AO g)],oC [.i start],oC [.bools inn],some (.bools t)]⟩
def zCy (C:Du Tryz.prog)(n:Nat)(self:Kx -> Option Ξ)(g:List Ξ)(start:Int)(inn:Ω)(k: ∀ A r,self A=some r -> PK C n g start inn r A)(K:Nat)(t:Ω)(o4:Ξ)(r:Ξ)(h:Ru n self g start inn K t o4=some r):PK C (n+1) g start inn r (.l1 K t o4):=by
 intro f c;intro i hi a;refine rd c λf c=>?_
 unfold Ru at h;have p:=H0;rcases DN h with ⟨d,h⟩ | ⟨d,h⟩
 ·have p:=H0.b 19 d;refine gs (Ab 5 Jq) [0,1,2,3,4] p (EP (AR Tryz.f153) 5 [f]) (AF 58 [(0,.yl C.l),(1,.ref 0 0),(3,.ref 2 0),(5,.msl 3 1 0 g.length),(6,.msl 4 1 0 K)]) (az g start inn t o4) ?_;obtain ⟨⟨q,o⟩,h⟩:=DG h;have p:=H0.g q |>.g o
  obtain ⟨r,j,rfl⟩:=SS h;clear h;have h:=j;clear j;obtain ⟨m,hi,a⟩:=kr a;refine A1.y (ops:=A9 Tryz.f153 5) HC.x 4 [0,1,3,5,6,27] [0,1,2,3,4] p (x:=Bw (o4.getD (0+0) 0)) (AF 58 [(0,.yl C.l),(1,.ref 0 0),(3,.ref 2 0),(5,.msl 3 1 0 g.length),(6,.msl 4 1 0 K),(27,.bool false)]) (az g start inn t o4) (AF 58 [(0,.yl C.l),(1,.ref 0 0),(3,.ref 2 0),(5,.msl 3 1 0 g.length),(6,.msl 4 1 0 K),(27,.bool true)]) (az g start inn t o4) (by kernel_rfl) (by kernel_rfl) (by kernel_rfl) m (by kernel_rfl) ?_ ?_
  ·generalize i+1=i at hi a ⊢
   obtain ⟨⟨s,P,u⟩,h⟩:=DG h;have p:=H0.g zAy |>.g s |>.g P |>.g u
   exact gg Jq [0,1,2,3,4] p (en n (k _ _ h f n c Nat.le.refl i hi a))
  ·exact TrI.e HC.x Jq 6 H0 (by kernel_rfl) (.inr rfl)
 ·have p:=H0.b 19 d;cases h;exact TrI.e HC.x Jq 10 p (by kernel_rfl) (.inl (by rw [W0 hi a]))
def zCx (C:Du Tryz.prog)(n:Nat)(self:Kx -> Option Ξ)(g:List Ξ)(start:Int)(inn:Ω)(d: ∀ A r,self A=some r -> PK C n g start inn r A)(K:Nat)(z:Ξ)(Z O:Int)(t:Ω)(o4:Ξ)(r:Ξ)(h:NY n self g start inn K z Z O t o4=some r):PK C (n+1) g start inn r (.l2 K z Z O t o4):=by
 intro f Y a x;intro i hi e;have a:=zGf a;refine rd x λY x=>?_
 unfold NY at h;have p:=H0;rcases DN h with ⟨j,h⟩ | ⟨j,h⟩
 ·obtain ⟨⟨q,u⟩,h⟩:=DG h;have p:=H0.b 36 j |>.g q |>.g u
  rcases DN h with ⟨c,h⟩ | ⟨c,h⟩
  ·obtain ⟨⟨s,P⟩,h⟩:=DG h;have p:=p.b 42 c |>.g s |>.g P
   rcases DN h with ⟨v,h⟩ | ⟨v,h⟩
   ·obtain ⟨⟨y,H⟩,h⟩:=DG h;have p:=p.b 48 v |>.g s |>.g P |>.g y |>.w 57 H
    exact gg Jq [0,1,2,3,6] p (d _ _ h f Y a x i hi e)
   ·obtain ⟨y,h⟩:=DG h;have p:=p.b 48 v |>.w 57 y
    exact gg Jq [0,1,2,3,4] p (d _ _ h f Y a x i hi e)
  ·obtain ⟨s,h⟩:=DG h;have p:=p.b 42 c |>.w 57 s
   exact gg Jq [0,1,2,3,4] p (d _ _ h f Y a x i hi e)
 ·have p:=H0.b 36 j;rcases DN h with ⟨c,h⟩ | ⟨c,h⟩
  ·obtain ⟨q,h⟩:=DG h;have p:=p.g q |>.o 21 (AN.mse_nil (k:=4) (m:=1) (o:=1) (zJF c))
   exact gg Jq [0,1,2,3] p (d _ _ h f a i hi e)
  ·obtain ⟨q,h⟩:=DG h;have p:=p.g q |>.o 21 (AN.mse_msl (k:=4) (m:=1) (o:=1) (ZU c) rfl)
   obtain ⟨u,h⟩:=DG h;refine gs Jq [0,1,2,3,4] p (Ag f (An (AR Tryz.f153) 0 [])) (AF 58 [(0,.yl C.l),(1,.ref 0 0),(3,.ref 2 0),(5,.msl 3 1 0 g.length),(6,.msl 4 1 1 (K-1))]) (az g start inn t o4) ?_;refine Bi.le (A7.rootE 4 1 ⟨AF 58 [(0,.yl C.l),(1,.ref 0 0),(3,.ref 2 0),(5,.msl 3 1 0 g.length),(6,.msl 5 1 0 (K-1))],[oC [.sl 1 g.length (AK AO g)],oC [.i start],oC [.bools inn],some (.bools t),none,oI (o4.drop 1)]⟩ [1<=o4.length] (by kernel_rfl) ⟨u,trivial⟩) (by kernel_rfl) ?_;refine Bi.le (A7.compE [0,1,2,3,5] (by kernel_rfl)) (by kernel_rfl) ?_;exact d _ _ h f a i hi e
def zCw (C:Du Tryz.prog)(n:Nat)(self:Kx -> Option Ξ)(g:List Ξ)(start:Int)(inn:Ω)(AE: ∀ A r,self A=some r -> PK C n g start inn r A)(t:Ω)(r:Ξ)(h:fT n self g start inn t=some r):PK C (n+1) g start inn r (.l3 t):=by
 intro f a;intro i hi b;refine rd a λf a=>?_
 unfold fT at h;have p:=H0;cases h;exact TrI.e HC.x Jq 10 p (by kernel_rfl) (.inl (by rw [W0 hi b]))
def ZH (C:Du Tryz.prog)(g:List Ξ)(start:Int)(inn:Ω): ∀ (n:Nat) (A:Kx) (r:Ξ),FG g start inn n A=some r -> PK C n g start inn r A
 | 0,_,_,h=>by cases h
 | n+1,.l1 K t o4,r,h=>zCy C n (FG g start inn n) g start inn (ZH C g start inn n) K t o4 r h
 | n+1,.l2 K f Z O t o4,r,h=>zCx C n (FG g start inn n) g start inn (ZH C g start inn n) K f Z O t o4 r h
 | n+1,.l3 t,r,h=>zCw C n (FG g start inn n) g start inn (ZH C g start inn n) t r h
variable {r:Ξ}
def zC1 (g:List Ξ)(start:Int)(inn:Ω)(h:HT n g start inn=some r)(C:Du Tryz.prog)(U:C.encs=r.map Bw):A1 Tryz.prog GG Fence.wide none 3 (C.Y GG 3 0) (C.Q GG 3) [.code (AR Tryz.f153)] ⟨AF 58 [(0,.yl C.l),(1,.ref 0 0),(2,.ref 1 0),(3,.ref 2 0)],[oC [.sl 1 g.length (AK AO g)],oC [.i start],oC [.bools inn]]⟩:=by
 suffices H: ∀ i:Nat,i<=C.encs.length -> C.encs.drop i=r.map Bw -> A1 Tryz.prog GG Fence.wide none 3 (C.Y GG 3 i) (C.Q GG 3) [.code (AR Tryz.f153)] ⟨AF 58 [(0,.yl C.l),(1,.ref 0 0),(2,.ref 1 0),(3,.ref 2 0)],[oC [.sl 1 g.length (AK AO g)],oC [.i start],oC [.bools inn]]⟩ from H 0 (zIR _) (by rw [zJb];exact U)
 intro i hi b;have a:=ZH C g start inn n;unfold HT at h
 generalize FG g start inn n=self at h a
 unfold fU at h;obtain ⟨⟨q,o,s⟩,h⟩:=DG h;have p:=H0.g q |>.g o |>.g s
 exact gg Jq [0,1,2,3,4] p (en n (a _ _ h n Nat.le.refl i hi b))
def fW {E:List Ξ}{S:Ω}{start:Int}(h:HT n E start S=some r)(H:DH):EQ 142 [.sl 1 E.length (AK AO E),.bools S,.i start] H (.it H.length) (H++[some (.iter (r.map Bw))]) true:=by
 refine ES.iterN (c:=L1 [.ref 0 0,.ref 1 0,.ref 2 0]) (h0:=[oC [.sl 1 E.length (AK AO E)],oC [.i start],oC [.bools S]]) (fn:=Tryz.f153) (zC3 (n:=0) E S start (r:=()) rfl) (by kernel_rfl) Tryz.func153 (by kernel_rfl) (by kernel_rfl) (by kernel_rfl) (λC U=>?_) H;have e:DV.yl C.l::(List.range 3).map (L1 [.ref 0 0,.ref 1 0,.ref 2 0])++List.replicate (Tryz.f153.ntmps-(3+1)) .any=AF 58 [(0,.yl C.l),(1,.ref 0 0),(2,.ref 1 0),(3,.ref 2 0)]:=by kernel_rfl
 rw [e];exact zC1 E start S h C U
end
abbrev zGe:=@decide_eq_true_iff
abbrev zI8:=@Bool.not_false
abbrev zJA:=@List.length_singleton
abbrev zKA:=@List.mem_append_right
abbrev zND:=@Bool.and_false
abbrev zNf:=@List.append_assoc
def nb (g:List Ξ)(v:Int):Ξ:=g.getD v.toNat []
structure Gr (g:List Ξ):Prop where
 len:g.length<=256
 row: ∀ v,0<=v -> v<(g.length:Int) -> (nb g v).length<=256
 rng: ∀ v,0<=v -> v<(g.length:Int) -> ∀ u∈nb g v,0<=u/\ u<(g.length:Int)
 sym: ∀ v,0<=v -> v<(g.length:Int) -> ∀ u∈nb g v,v∈nb g u
def Gr.of {g:List Ξ}(h:JT g=true)(hr: ∀ r∈g,r.length<=LB):Gr g:=by
 unfold JT at h;rw [zFW,zGe,zGV] at h
 have key: ∀ v,0<=v -> v<(g.length:Int) -> ∀ u∈nb g v,(0<=u/\ u<(g.length:Int))/\ v∈nb g u:=by
  intro v h0 c u q;have b:=h.2 v.toNat (zGX.2 (by omega));unfold IL at b;rw [zGV] at b;obtain ⟨j,f,e⟩:=zG2 q;have a:=b j (zGX.2 f);unfold Gw at a
  have z:(g.getD v.toNat []).getD j 0=u:=by
   grind [nb]
  simp only [z,zFW,zGe,zMi] at a;have Q:((v.toNat:Nat):Int)=v:=by omega
  rw [Q] at a;exact ⟨⟨a.1.1.1.1,a.1.1.1.2⟩,a.2⟩
 have grow: ∀ v,0<=v -> v<(g.length:Int) -> ∀ k,k<(nb g v).length -> (k:Int)<=(nb g v).getD k 0:=by
  intro v h0 c k;have b:=h.2 v.toNat (zGX.2 (by omega));unfold IL at b;rw [zGV] at b
  induction k with
  | zero=>
   grind
  | succ k ih=>
   intro hk;have a:=b (k+1) (zGX.2 hk);unfold Gw at a;have d:decide (0<k+1)=true:=zEI (by omega);simp only [zFW,zGe,d,zIF,zMa,Nat.add_sub_cancel] at a
   grind [nb]
 exact ⟨h.1,λv h0 c=>by
  grind [List.getElem_mem],λv h0 c u q=>(key v h0 c u q).1,λv h0 c u q=>(key v h0 c u q).2⟩
inductive Rc (g:List Ξ)(inn:Ω)(s:Int):Int -> Prop
 | start:Rc g inn s s
 | step {a b:Int} (h:Rc g inn s a) (hb:b∈nb g a) (hi:inn.getD b.toNat false=true):Rc g inn s b
section
variable {g:List Ξ} {inn:Ω} {s:Int}
variable {v:Int}
def Rc.rng (G:Gr g)(h0:0<=s)(a:s<(g.length:Int))(h:Rc g inn s v):0<=v/\ v<(g.length:Int):=by
 induction h with
 | start=>exact ⟨h0,a⟩
 | step h c hi V=>exact G.rng _ V.1 V.2 _ c
def Rc.isIn (k:inn.getD s.toNat false=true)(h:Rc g inn s v):inn.getD v.toNat false=true:=by
 cases h with
 | start=>exact k
 | step h hb hi=>exact hi
def Rc.trans {a b:Int}(h:Rc g inn s a)(c:Rc g inn a b):Rc g inn s b:=by
 induction c with
 | start=>exact h
 | step _ d hi V=>exact .step V d hi
def Rc.symm (G:Gr g)(h0:0<=s)(a:s<(g.length:Int))(k:inn.getD s.toNat false=true)(h:Rc g inn s v):Rc g inn v s:=by
 induction h with
 | start=>exact .start
 | step h c hi V=>
  have i:=h.rng G h0 a;exact (Rc.step Rc.start (G.sym _ i.1 i.2 _ c) (h.isIn k)).trans V
theorem Rc.mono {y:Ω}(a: ∀ v:Int,inn.getD v.toNat false=true -> y.getD v.toNat false=true)(h:Rc g inn s v):Rc g y s v:=by
 induction h with
 | start=>exact .start
 | step h c hi V=>exact .step V c (a _ hi)
def E9 (l:Ω):Nat:=l.countP λb=>!b
def lJ: ∀ (l:Ω) (i:Nat),i<l.length -> l.getD i false=false -> E9 (l.set i true)+1=E9 l
 | b::l,0,_,h=>by
  grind [E9]
 | b::l,i+1,hi,h=>by
  grind [E9]
def FN (inn:Ω)(st:Ω×Ξ)(v:Int):Ω×Ξ:=bif inn.getD v.toNat false&&!st.1.getD v.toNat false then (st.1.set v.toNat true,st.2++[v]) else st
structure Bf (g:List Ξ)(inn:Ω)(s:Int)(met:Ω)(Q P:Ξ):Prop where
 len:met.length=g.length
 cnt:Q.length+E9 met<=g.length
 nd:(P++Q).Nodup
 rc: ∀ v∈P++Q,Rc g inn s v
 rng: ∀ v∈P++Q,0<=v/\ v<(g.length:Int)
 met: ∀ v:Int,0<=v -> v<(g.length:Int) -> (met.getD v.toNat false=true↔v∈P++Q)
 cl: ∀ p∈P,∀ b∈nb g p,inn.getD b.toNat false=true -> b∈P++Q
 st:s∈P++Q
variable {Q P:Ξ}{met:Ω}
def Bf.ex (G:Gr g)(h:Bf g inn s met Q P){u:Int}(e:v∈Q)(q:u∈nb g v):
 Bf g inn s (FN inn (met,Q) u).1 (FN inn (met,Q) u).2 P/\ (∃ t,(FN inn (met,Q) u).2=Q++t)/\ (inn.getD u.toNat false=true -> u∈P++(FN inn (met,Q) u).2)/\ 2*E9 (FN inn (met,Q) u).1+(FN inn (met,Q) u).2.length<=2*E9 met+Q.length:=by
 have f:=h.rng v (zKA _ e);have Y:=G.rng v f.1 f.2 u q;unfold FN
 dsimp only
 cases hi:inn.getD u.toNat false
 ·simp_all
 ·cases c:met.getD u.toNat false
  ·rw [zI8,Bool.and_true,zFi];have hn:u∉P++Q:=λy=>by rw [(h.met u Y.1 Y.2).2 y] at c;cases c
   have m:=h.len;have hc:=lJ met u.toNat (by omega) c;have hcnt:=h.cnt;have E: ∀ x,x∈P++(Q++[u])↔x∈P++Q∨x=u:=λx=>by simp [or_assoc]
   refine ⟨⟨by rw [zGj];exact m,by grind,?_,λx d=>?_,λx d=>?_,λx C F=>?_,λp j b i Z=>(E b).2 (.inl (h.cl p j b i Z)),(E s).2 (.inl h.st)⟩,⟨[u],rfl⟩,λ_=>(E u).2 (.inr rfl),by grind⟩
   ·rw [←zNf,zNd];exact ⟨h.nd,by simp,λa ha b i=>by grind⟩
   ·rcases (E x).1 d with d | rfl
    ·exact h.rc x d
    ·exact .step (h.rc v (zKA _ e)) q hi
   ·rcases (E x).1 d with d | rfl
    ·exact h.rng x d
    ·exact Y
   ·rw [E,←h.met x C F]
    grind
  ·rw [zIF,zND,zGK];exact ⟨h,⟨[],by simp⟩,λ_=>(h.met u Y.1 Y.2).1 c,zGd _⟩
def Bf.exs (G:Gr g): ∀ (l:Ξ) {met:Ω} {Q:Ξ},Bf g inn s met Q P -> v∈Q -> (∀ u∈l,u∈nb g v) ->
 Bf g inn s (l.foldl (FN inn) (met,Q)).1 (l.foldl (FN inn) (met,Q)).2 P/\ (∃ t,(l.foldl (FN inn) (met,Q)).2=Q++t)/\ (∀ u∈l,inn.getD u.toNat false=true -> u∈P++(l.foldl (FN inn) (met,Q)).2)/\ 2*E9 (l.foldl (FN inn) (met,Q)).1+(l.foldl (FN inn) (met,Q)).2.length<=2*E9 met+Q.length
 | [],met,Q,h,p,m=>⟨h,⟨[],by simp⟩,λu q=>absurd q zMp,zGd _⟩
 | u::l,met,Q,h,p,m=>by
  obtain ⟨a,⟨t,ht⟩,h2,h3⟩:=h.ex G p (m u zIV);obtain ⟨h4,⟨t',tE⟩,h5,h6⟩:=Bf.exs G l a (by grind) λx d=>m x (zIG _ d)
  grind
variable {l:Ξ}
def zFh {n j:Nat}(hI:inn.length=g.length)(hG:g.length<=256)(hm:met.length=g.length)(hQ:Q.length+E9 met<=g.length)(hj:j<l.length)(hl:l.length<=256)(hr:0<=l.getD j 0/\ l.getD j 0<(g.length:Int)):
 FG g s inn (n+1) (.l2 Q.length l (l.length:Int) (j:Int) met Q)=FG g s inn n (.l2 (FN inn (met,Q) (l.getD j 0)).2.length l (l.length:Int) ((j:Int)+1) (FN inn (met,Q) (l.getD j 0)).1 (FN inn (met,Q) (l.getD j 0)).2):=by
 have r1:AG ((j:Int)+1):=Ah.2 ⟨by omega,by omega⟩;have L:(1000000000000:Nat)=Ay:=rfl
 show NY n (FG g s inn n) g s inn Q.length l (l.length:Int) (j:Int) met Q=_
 unfold NY FN
 grind
def sV (b:inn.length=g.length)(G:Gr g)(m:l.length<=256)(a: ∀ u∈l,u∈nb g v): ∀ (k j n:Nat) {met:Ω} {Q:Ξ},j+k=l.length -> Bf g inn s met Q P -> v∈Q ->
 FG g s inn (n+k) (.l2 Q.length l (l.length:Int) (j:Int) met Q)=FG g s inn n (.l2 ((l.drop j).foldl (FN inn) (met,Q)).2.length l (l.length:Int) (l.length:Int) ((l.drop j).foldl (FN inn) (met,Q)).1 ((l.drop j).foldl (FN inn) (met,Q)).2)
 | 0,j,n,met,Q,e,h,p=>by
  grind
 | k+1,j,n,met,Q,e,h,p=>by
  have d:j<l.length:=by omega
  have q:l.getD j 0∈l:=by grind
  have c:=h.rng v (zKA _ p);have i:=G.rng v c.1 c.2 _ (a _ q);obtain ⟨f,⟨t,ht⟩,_,_⟩:=h.ex G p (a _ q);rw [←zMo,zFh b G.len h.len h.cnt d m i];have:=sV b G m a k (j+1) n (by omega) f (by grind)
  grind [List.drop_eq_getElem_cons]
def Oq (g:List Ξ)(inn:Ω)(s:Int)(P l:Ξ):Prop:=(P++l).Nodup/\ (∀ v,v∈P++l↔Rc g inn s v)
def Bf.done (h:Bf g inn s met [] P):Oq g inn s P []:=by
 refine ⟨h.nd,λv=>⟨h.rc v,λp=>?_⟩⟩
 induction p with
 | start=>exact h.st
 | step _ c hi V=>exact h.cl _ (by simpa using V) _ c hi
def At.map {R:Type}{f:Nat -> Option R}{Q:R -> Prop}{Q':R -> Prop}{m:R -> R}(h:At f Q)(hq: ∀ r,Q r -> Q' (m r)):At (λn=>(f n).map m) Q':=by
 obtain ⟨N,h⟩:=h;refine ⟨N,λn hn=>?_⟩
 grind
def zLk (G:Gr g)(w:inn.length=g.length): ∀ (z:Nat) (met:Ω) (Q P:Ξ),2*E9 met+Q.length=z -> Bf g inn s met Q P -> At (λn=>FG g s inn n (.l1 Q.length met Q)) (Oq g inn s P):=by
 intro z
 induction z using Nat.strongRecOn with
 | _ z V=>
  intro met Q P hz h;cases Q with
  | nil=>
   refine Ev.p (r:=[]) ⟨1,λn x=>?_⟩ h.done;obtain ⟨n,rfl⟩: ∃ k,n=k+1:=⟨n-1,by omega⟩
   simp_all [Ru,FG]
  | cons v q=>
   have f:v∈v::q:=zIV;have i:=h.rng v (zKA _ f);obtain ⟨c,⟨t,d⟩,y,A⟩:=h.exs G (nb g v) f (λu j=>j);have C:=G.row v i.1 i.2
   generalize hst:(nb g v).foldl (FN inn) (met,v::q)=st at c d y A
   obtain ⟨S,Q'⟩:=st;have d:Q'=v::(q++t):=d;subst d
   have I:Bf g inn s S (q++t) (P++[v]):=by
    have e:P++[v]++(q++t)=P++(v::(q++t)):=by simp
    have D:=c.cnt;simp only [zIN] at D;refine ⟨c.len,by omega,by rw [e];exact c.nd,by rw [e];exact c.rc,by rw [e];exact c.rng,by rw [e];exact c.met,?_,by rw [e];exact c.st⟩;intro p hp b E hi;rw [e];rcases zIQ.1 hp with hp | hp
    ·exact c.cl p hp b E hi
    grind
   have F:2*E9 S+(q++t).length<z:=by
    grind
   have H:=V _ F S (q++t) (P++[v]) rfl I
   have key:At (λn=>FG g s inn n (.l2 (v::(q++t)).length (nb g v) ((nb g v).length:Int) ((nb g v).length:Int) S (v::(q++t)))) (Oq g inn s (P++[v])):=by
    have g0:(0:Int)<=1/\ (1:Int)<=(((v::(q++t)).length:Nat):Int)/\ (((v::(q++t)).length:Nat):Int)<=(((v::(q++t)).length:Nat):Int):=⟨by omega,by rw [zIN];omega,zGv _⟩;cases B:q++t with
    | nil=>
     rw [B] at I;refine Ev.p (r:=[]) ⟨2,λn x=>?_⟩ I.done;obtain ⟨n,rfl⟩: ∃ k,n=k+2:=⟨n-2,by omega⟩
     show NY (n+1) (FG g s inn (n+1)) g s inn 1 (nb g v) ((nb g v).length:Int) ((nb g v).length:Int) S [v]=_
     unfold NY;rw [zEl (by omega),zGK];rfl
    | cons a r=>
     rw [←B];refine At.step 1 (λn=>?_) H
     simp_all [NY,FG]
   have l:At (λn=>FG g s inn n (.l2 (v::q).length (nb g v) ((nb g v).length:Int) 0 met (v::q))) (Oq g inn s (P++[v])):=by
    refine At.step (nb g v).length (λn=>?_) key;have:=sV w G C (λu j=>j) (nb g v).length 0 n (by omega) h f
    grind
   have m: ∀ r:Ξ,Oq g inn s (P++[v]) r -> Oq g inn s P (v::r):=λr hr=>by
    grind [Oq]
   refine At.step 1 (λn=>?_) (At.map l m)
   show Ru n (FG g s inn n) g s inn (v::q).length met (v::q)=_
   unfold Ru;have o:((0:Int)<=0/\ 0<(((v::q).length:Nat):Int))/\ 0+0<(v::q).length:=by rw [zIN];omega
   rw [zEI (by rw [zIN];omega),zFi,zEd o];have J:(v::q).getD (0+0) 0=v:=rfl;rw [J,zEd ⟨o.1,o.2,i⟩];rfl
def fV (G:Gr g)(u:inn.length=g.length)(h0:0<=s)(h1:s<(g.length:Int)):At (λn=>HT n g s inn) (λl=>l.Nodup/\ ∀ v,v∈l↔Rc g inn s v):=by
 have M:((List.replicate g.length false).set s.toNat true).length=g.length:=by simp
 have hG:=G.len;have hc:=lJ (List.replicate g.length false) s.toNat (by rw [zIA];omega) (by grind)
 have Md:E9 (List.replicate g.length false)<=g.length:=by
  have:=List.countP_le_length (p:=λb=>!b) (l:=List.replicate g.length false);rw [zIA] at this;exact this
 have I:Bf g inn s ((List.replicate g.length false).set s.toNat true) [s] []:=by
  refine ⟨M,by rw [zJA];omega,by simp,λv a=>?_,λv a=>?_,λv JJ Bt=>?_,λp c=>absurd c zMp,by simp⟩
  ·have:v=s:=by simpa using a
   subst this;exact .start
  ·grind
  grind
 have:=zLk G u _ _ _ _ rfl I;refine (At.mono (Q':=λl=>l.Nodup/\ ∀ v,v∈l↔Rc g inn s v) this (λl (m:Oq g inn s [] l)=>(⟨m.1,m.2⟩:l.Nodup/\ ∀ v,v∈l↔Rc g inn s v))).eq λn=>?_
 unfold HT fU
 grind
end
abbrev zNT:=@BitVec.toNat_ofInt
abbrev zNp:=@Nat.pow_le_pow_right
abbrev zNs:=@Nat.testBit_two_pow
abbrev zNw:=@Bool.false_and
end Go.Proofs.YtodinaconebmdaaGreatDoor
namespace Go.Proofs.YtodinaconebmdaaGreatDoor
def tb (x:Int)(i:Nat):Bool:=(BitVec.ofInt 64 x).getLsbD i
def CB (x:Int):Prop:=-9223372036854775808<=x/\ x<=9223372036854775807
theorem Vh (x:Int):BitVec.ofInt 64 (IntKind.i64.wrap x)=BitVec.ofInt 64 x:=by
 grind [BitVec.eq_of_toNat_eq,BitVec.toNat_ofInt,IntKind.wrap_i64]
def Z0 (y:BitVec 64):BitVec.ofInt 64 (y.toNat:Int)=y:=by
 rw [BitVec.ofInt_natCast];simp
def Q8 (x:Int):CB (IntKind.i64.wrap x):=by
 rw [zNH];constructor <;> omega
theorem GO (S:BinOp)(a b:Int):CB (bits S .i64 a b):=Q8 _
def Oz (a b:Int)(i:Nat):tb (bits .or .i64 a b) i=(tb a i||tb b i):=by
 show (BitVec.ofInt 64 (IntKind.i64.wrap ((BitVec.ofInt 64 a||| BitVec.ofInt 64 b).toNat:Int))).getLsbD i=_
 rw [Vh,Z0,BitVec.getLsbD_or];rfl
theorem Is (a b:Int)(i:Nat):tb (bits .and .i64 a b) i=(tb a i&&tb b i):=by
 show (BitVec.ofInt 64 (IntKind.i64.wrap ((BitVec.ofInt 64 a&&& BitVec.ofInt 64 b).toNat:Int))).getLsbD i=_
 rw [Vh,Z0,BitVec.getLsbD_and];rfl
variable {i:Nat}{x:Int}
theorem Lr (h:64<=i):tb x i=false:=BitVec.getLsbD_of_ge _ _ h
theorem Ls (a b:Int)(i:Nat):tb (bits .andNot .i64 a b) i=(tb a i&&!tb b i):=by
 show (BitVec.ofInt 64 (IntKind.i64.wrap ((BitVec.ofInt 64 a&&& ~~~ BitVec.ofInt 64 b).toNat:Int))).getLsbD i=_
 grind [Vh,tb]
def X3 (a:Int)(h:i<64):tb (bits .xor .i64 (-1) a) i= !tb a i:=by
 show (BitVec.ofInt 64 (IntKind.i64.wrap ((BitVec.ofInt 64 (-1) ^^^ BitVec.ofInt 64 a).toNat:Int))).getLsbD i=_
 rw [Vh,Z0,BitVec.getLsbD_xor];have:BitVec.ofInt 64 (-1)=BitVec.allOnes 64:=by decide
 rw [this,BitVec.getLsbD_allOnes];simp [h,tb]
def du (i:Nat):tb 0 i=false:=by
 simp_all [tb]
theorem IG : ¬ tb 0 i=true:=by rw [du];decide
def Km {y:Int}(hx:CB x)(hy:CB y)(h: ∀ i,i<64 -> tb x i=tb y i):x=y:=by
 have e:BitVec.ofInt 64 x=BitVec.ofInt 64 y:=BitVec.eq_of_getLsbD_eq λi hi=>h i hi
 have e2:=congrArg BitVec.toNat e
 grind [BitVec.toNat_ofInt,CB]
theorem Kl (m i:Nat)(hi:i<64):tb (m:Int) i=m.testBit i:=by
 grind [tb,BitVec.getLsbD_ofNat]
def Sm (k:Nat)(x:Int):Prop:=0<=x/\ x<2 ^ k
variable {k:Nat}
def Nf (hk:k<=62):(2:Int) ^ k<=4611686018427387904:=by
 have:(2:Nat) ^ k<=2 ^ 62:=zNp (by decide) hk
 grind
def Sm.in64 (hk:k<=62)(h:Sm k x):CB x:=by
 have:=Nf hk;obtain ⟨h1,h2⟩:=h;constructor <;> omega
def Sm.hi (h:Sm k x)(hi:k<=i):tb x i=false:=by
 rcases zIg i 64 with S7 | S7
 ·obtain ⟨m,rfl⟩:=zLp h.1;rw [Kl m i S7];apply Nat.testBit_lt_two_pow;have b:(m:Int)<2 ^ k:=h.2;have h3:m<2 ^ k:=by exact_mod_cast b
  grind [Nat.lt_of_lt_of_le,Nat.pow_le_pow_right]
 ·exact Lr S7
def YR (hk:k<=62)(hx:CB x)(h: ∀ i,k<=i -> i<64 -> tb x i=false):Sm k x:=by
 have hy:(BitVec.ofInt 64 x).toNat<2 ^ k:=by
  apply Nat.lt_pow_two_of_testBit
  grind [tb,BitVec.getLsbD]
 rw [zNT] at hy;have h1:=Nf hk
 grind [CB,Sm]
variable {s:Nat}
theorem yW (hi:i<64):tb ((2 ^ s:Nat):Int) i=decide (s=i):=by
 rw [Kl _ _ hi,zNs]
def NB (d:CB x):x=0↔∀ i,i<64 -> tb x i=false:=
 ⟨λh i _=>by rw [h];exact du i,λh=>Km d ⟨by decide,by decide⟩ λi hi=>by rw [h i hi,du]⟩
theorem Eu (d:CB x):x≠0↔∃ i,i<64/\ tb x i=true:=by
 rw [ne_eq,NB d]
 grind
theorem eP (h:Sm k x)(hk:k<=62)(b:s<64):bits .and .i64 (x/2 ^ s) 1=if tb x s then 1 else 0:=by
 obtain ⟨m,rfl⟩:=zLp h.1;have hm:=h.2;have kP:=Nf hk;have e:(m:Int)/2 ^ s=((m/2 ^ s:Nat):Int):=by simp
 have key: ∀ t,t<64 -> tb (bits .and .i64 ((m:Int)/2 ^ s) 1) t=(decide (t=0)&&tb (m:Int) s):=λt a=>by
  rw [Is,e,Kl _ _ a,Kl m s b,show (1:Int)=((1:Nat):Int) from rfl,Kl 1 t a,Nat.testBit_div_two_pow]
  by_cases h0:t=0
  ·subst h0;simp
  ·rw [zEl h0,zNw]
   have:Nat.testBit 1 t=false:=by
    rw [show (1:Nat)=2 ^ 0 from rfl,zNs];simpa using λh=>h0 h.symm
   rw [this,zND]
 cases c:tb (m:Int) s with
 | true=>
  rw [zEd rfl];refine Km (GO _ _ _) ⟨by decide,by decide⟩ λt a=>?_
  rw [key t a,c,show (1:Int)=((1:Nat):Int) from rfl,Kl 1 t a,Bool.and_true]
  by_cases h0:t=0
  ·subst h0;rfl
  ·rw [zEl h0];rw [show (1:Nat)=2 ^ 0 from rfl,zNs];symm;simpa using λh=>h0 h.symm
 | false=>
  simp_all [NB,GO]
def Uj (h:Sm k x)(hk:k<=62)(hs:s<64):(bits .and .i64 (x/2 ^ s) 1==1)=tb x s:=by
 grind [eP]
def zAK (h:Sm k x)(hk:k<=62)(hs:s<64):(bits .and .i64 (x/2 ^ s) 1==0)= !tb x s:=by
 grind [eP]
end Go.Proofs.YtodinaconebmdaaGreatDoor
namespace Go.Proofs.YtodinaconebmdaaGreatDoor
open Go.RowKit
section
variable {S R:Type}
def aD (m:Nat -> S -> Int -> Option R)(len b:Nat)(Inv:Nat -> S -> Prop) 
 (h: ∀ (n i:Nat) (s:S),b<=n -> i<len -> Inv i s -> ∃ a,m (n+1) s (i:Int)=m n a ((i:Int)+1)/\ Inv (i+1) a):
 ∀ (k i n:Nat) (s:S),i+k=len -> b<=n -> Inv i s -> ∃ a,m (n+k) s (i:Int)=m n a (len:Int)/\ Inv len a
 | 0,i,n,s,e,_,u=>by
  grind
 | k+1,i,n,s,e,c,u=>by
  obtain ⟨a,h1,d⟩:=h (n+k) i s (by omega) (by omega) u;obtain ⟨s2,h3,h4⟩:=aD m len b Inv h k (i+1) n a (by omega) c d
  grind
def IV (m:Nat -> S -> Int -> Option R)(len b:Nat)(Inv:Nat -> S -> Prop) 
 (h: ∀ (n i:Nat) (s:S),b<=n -> i<len -> Inv i s -> ∃ a,m (n+1) s (i:Int)=m n a ((i:Int)+1)/\ Inv (i+1) a)
 {n:Nat} {s:S} (hn:b+len<=n) (u:Inv 0 s): ∃ W a,b<=W/\ W+len=n/\ m n s 0=m W a (len:Int)/\ Inv len a:=by
 obtain ⟨a,h1,h2⟩:=aD m len b Inv h len 0 (n-len) s (by omega) (by omega) u
 grind
structure B7 (c:AD)(k:Nat)(pos:Ξ):Prop where
 cells: ∀ a,a<c.cells.length -> 0<=c.cells.getD a 0/\ c.cells.getD a 0<(pos.length:Int)
 len:c.cells.length<=256
 sm: ∀ i,i<pos.length -> Sm k (pos.getD i 0)
 k:k<=16
def Ac (c:AD)(pos:Ξ)(a:Nat):Int:=pos.getD (c.cells.getD a 0).toNat 0
def NH (x:Int):Bool:=bits .and .i64 x (x-1)==0
section
variable {c:AD} {k:Nat} {pos lost:Ξ} {q:AA}
variable {a:Nat}
def B7.at (W:B7 c k pos)(D:a<c.cells.length):Sm k (Ac c pos a):=by
 have:=W.cells a D;exact W.sm _ (by omega)
def B7.r64 (W:B7 c k pos)(D:a<c.cells.length):AG (Ac c pos a-1)/\ AG ((a:Int)+1):=by
 have h:=W.at D;have h2:=Nf (k:=k) (zGU W.k (by decide));have h3:=W.len;obtain ⟨h0,h1⟩:=h
 grind [Ah]
variable {cell:Int}{n:Nat}
def MK {ss:Int}(h0:0<=cell)(h1:cell<(pos.length:Int))(m:lost.length=pos.length):
 ∃ l',D7 n cell ss c q pos pos.length lost=some l'/\ l'.length=pos.length/\ ∀ j s,tb (l'.getD j 0) s=(tb (lost.getD j 0) s||(decide (j=cell.toNat)&&(tb (pos.getD j 0) s&&tb ss s))):=by
 refine ⟨lost.set cell.toNat (bits .or .i64 (lost.getD cell.toNat 0) (bits .and .i64 (pos.getD cell.toNat 0) ss)),?_,by rw [zGj];exact m,λj s=>?_⟩
 ·simp_all [D7,iA]
 ·by_cases hj:j=cell.toNat
  ·simp_all [Oz,Is]
  grind
def gL (h0:0<=cell)(h1:cell<(pos.length:Int))(m:lost.length=pos.length):
 ∃ l',Hc n cell c q pos pos.length lost=some l'/\ l'.length=pos.length/\ ∀ j s,tb (l'.getD j 0) s=(tb (lost.getD j 0) s||(decide (j=cell.toNat)&&(tb (pos.getD j 0) s&&!tb c.set s))):=by
 refine ⟨lost.set cell.toNat (bits .or .i64 (lost.getD cell.toNat 0) (bits .andNot .i64 (pos.getD cell.toNat 0) c.set)),?_,by rw [zGj];exact m,λj s=>?_⟩
 ·simp_all [Hc,gN]
 ·by_cases hj:j=cell.toNat
  ·simp_all [Oz,Ls]
  grind
def Sg (c:AD)(pos:Ξ)(a s:Nat):Prop:=NH (Ac c pos a)=true/\ tb (Ac c pos a) s=true
def CL (c:AD)(pos lost:Ξ)(i:Nat)(D:Nat -> Ψ)(l:Ξ):Prop:= l.length=pos.length/\ ∀ j s,tb (l.getD j 0) s=true↔tb (lost.getD j 0) s=true∨∃ a,a<i/\ (c.cells.getD a 0).toNat=j/\ tb (Ac c pos a) s=true/\ D a s
variable {D:Nat -> Ψ}
def CL.step {i:Nat}{l l':Ξ}(h:CL c pos lost i D l)(m:l'.length=pos.length) 
 (a: ∀ j s,tb (l'.getD j 0) s=true↔tb (l.getD j 0) s=true∨((c.cells.getD i 0).toNat=j/\ tb (Ac c pos i) s=true/\ D i s)):CL c pos lost (i+1) D l':=by
 refine ⟨m,λj s=>?_⟩;rw [a,h.2]
 grind
def CL.zero (m:lost.length=pos.length):CL c pos lost 0 D lost:=
 ⟨m,λj s=>⟨.inl,λh=>h.elim id λ⟨a,b,_⟩=>absurd b (zGa a)⟩⟩
def Qg (c:AD)(pos:Ξ)(a s:Nat):Prop:=∃ b,b<c.cells.length/\ b≠a/\ Sg c pos b s
def zKV (W:B7 c k pos)(I:lost.length=pos.length)(hn:2*c.cells.length+2<=n):
 ∃ l,TZ n c q pos pos.length lost=some (true,l)/\ CL c pos lost c.cells.length (Qg c pos) l:=by
 have G: ∀ i,i<c.cells.length -> ((i:Nat):Int)<((c.cells.length:Nat):Int):=λi hi=>by omega
 have S:=IV (λn (s:Δ) i=>Mj c q pos pos.length lost n (.l1 s.1 s.2 i)) c.cells.length (c.cells.length+2)
  (λi s=>(∀ j,tb s.1 j=true↔∃ a,a<i/\ Sg c pos a j)/\ (∀ j,tb s.2 j=true↔∃ a b,a<b/\ b<i/\ Sg c pos a j/\ Sg c pos b j))
  (λn i s _ hi w=>?_) (n:=n) (s:=(0,0)) (by omega) ?_
 ·obtain ⟨C,⟨o,t⟩,Hh,_,e1,J,K⟩:=S;obtain ⟨y,rfl⟩: ∃ y,C=y+1:=⟨C-1,by omega⟩
  have T:=IV (λn (s:Ξ) i=>Mj c q pos pos.length lost n (.l2 o t i s)) c.cells.length 1
   (λi s=>CL c pos lost i (Qg c pos) s) (λn i s GH hi w=>?_) (n:=y) (s:=lost) (by omega) (CL.zero I)
  ·obtain ⟨E,l,OC,_,e2,hL⟩:=T;obtain ⟨F,rfl⟩: ∃ F,E=F+1:=⟨E-1,by omega⟩
   simp_all [TZ,vW,cK,Mj,cJ]
  ·have r:=W.cells i hi;have u:=W.r64 hi
   show ∃ L,cJ n (Mj c q pos pos.length lost n) c q pos pos.length lost o t (i:Int) s=_/\ _
   unfold cJ;rw [zEI (G i hi),zFi];simp only [zCl];rw [zEd ⟨⟨by omega,G i hi⟩,r,u.1⟩];have z:(bits .and .i64 (pos.getD (c.cells.getD i 0).toNat 0) (pos.getD (c.cells.getD i 0).toNat 0-1)==0)=NH (Ac c pos i):=rfl;rw [z];cases f:NH (Ac c pos i)
   ·rw [zGK];obtain ⟨l',g,v,m⟩:=MK (n:=n) (ss:=o) (c:=c) (q:=q) r.1 r.2 w.1;rw [g,zEf,zEd u.2];refine ⟨l',rfl,w.step v λj x=>?_⟩;rw [m,zGz,zFW,zFW,zGe,J];constructor
    ·rintro (h | ⟨rfl,A,b,d,h5⟩)
     ·exact .inl h
     ·refine .inr ⟨rfl,A,b,d,?_,h5⟩;rintro rfl;rw [h5.1] at f;cases f
    ·rintro (h | ⟨rfl,A,b,d,_,h5⟩)
     ·exact .inl h
     ·exact .inr ⟨rfl,A,b,d,h5⟩
   ·rw [zFi];obtain ⟨l',g,v,m⟩:=MK (n:=n) (ss:=bits .or .i64 (bits .andNot .i64 o (pos.getD (c.cells.getD i 0).toNat 0)) t) (c:=c) (q:=q) r.1 r.2 w.1;rw [g,zEf,zEd u.2];refine ⟨l',rfl,w.step v λj x=>?_⟩;rw [m,zGz,zFW,zFW,zGe,Oz,Ls,zGz,zFW,K];constructor
    ·rintro (h | ⟨rfl,A,⟨_,h5⟩ | ⟨H,M,B,N,U,Z⟩⟩)
     ·exact .inl h
     ·rw [A] at h5;cases h5
     ·refine .inr ⟨rfl,A,?_⟩
      by_cases e:H=i
      ·exact ⟨M,N,by omega,Z⟩
      ·exact ⟨H,by omega,e,U⟩
    ·rintro (h | ⟨rfl,A,b,d,h5,B⟩)
     ·exact .inl h
     ·refine .inr ⟨rfl,A,.inr ?_⟩;rcases Nat.lt_or_gt_of_ne h5 with h5 | h5
      ·exact ⟨b,i,h5,hi,B,f,A⟩
      ·exact ⟨i,b,h5,d,⟨f,A⟩,B⟩
 ·obtain ⟨o,t⟩:=s;obtain ⟨g,v⟩:=w;simp only at g v;have r:=W.cells i hi;have u:=W.r64 hi
  show ∃ L,cK n (Mj c q pos pos.length lost n) c q pos pos.length lost o t (i:Int)=_/\ _
  unfold cK;rw [zEI (G i hi),zFi];simp only [zCl];rw [zEd ⟨⟨by omega,G i hi⟩,r,u.1⟩];have z:(bits .and .i64 (pos.getD (c.cells.getD i 0).toNat 0) (pos.getD (c.cells.getD i 0).toNat 0-1)==0)=NH (Ac c pos i):=rfl;rw [z];cases f:NH (Ac c pos i)
  ·rw [zGK,zEd u.2];refine ⟨(o,t),rfl,λj=>?_,λj=>?_⟩
   ·rw [g];constructor
    ·grind
    ·rintro ⟨a,D,h⟩;rcases zGg.1 D with D | rfl
     ·exact ⟨a,D,h⟩
     ·rw [h.1] at f;cases f
   ·rw [v];constructor
    ·rintro ⟨a,b,p,d,h⟩;exact ⟨a,b,p,by omega,h⟩
    ·rintro ⟨a,b,p,d,h⟩;rcases zGg.1 d with d | rfl
     ·exact ⟨a,b,p,d,h⟩
     ·rw [h.2.1] at f;cases f
  ·rw [zFi,zEd u.2];refine ⟨(bits .or .i64 o (Ac c pos i),bits .or .i64 t (bits .and .i64 o (Ac c pos i))),rfl,λj=>?_,λj=>?_⟩
   ·rw [Oz,zGz,g];constructor
    ·rintro (⟨a,D,h⟩ | h)
     ·exact ⟨a,by omega,h⟩
     ·exact ⟨i,by omega,f,h⟩
    ·rintro ⟨a,D,h⟩;rcases zGg.1 D with D | rfl
     ·exact .inl ⟨a,D,h⟩
     ·exact .inr h.2
   ·rw [Oz,Is,zGz,zFW,g,v];constructor
    ·rintro (⟨a,b,p,d,h⟩ | ⟨⟨a,D,h⟩,m⟩)
     ·exact ⟨a,b,p,by omega,h⟩
     ·exact ⟨a,i,D,by omega,h,f,m⟩
    ·rintro ⟨a,b,p,d,h,m⟩;rcases zGg.1 d with d | rfl
     ·exact .inl ⟨a,b,p,d,h,m⟩
     ·exact .inr ⟨⟨a,p,h⟩,m.2⟩
 simp_all [IG]
end
end
end Go.Proofs.YtodinaconebmdaaGreatDoor
namespace Go.Proofs
open Go.Shelf
def Tryz.lays189_ren:Go.Shelf.Ren:=⟨λ| 189=>166 | 125=>171 | 257=>170 | 128=>181 | 129=>182 | 294=>172 | 295=>173 | 296=>174 | 297=>175 | 298=>176 | 299=>177 | 216=>178 | 300=>179 | 301=>180 | 328=>183 | 329=>184 | 330=>185 | 331=>186 | 332=>187 | 215=>188 | 343=>189 | n=>n,λ| 28=>22 | 3=>3 | 46=>66 | 0=>0 | 51=>181 | 53=>73 | 4=>4 | 183=>200 | 182=>199 | 131=>63 | 5=>5 | 9=>9 | 218=>204 | 222=>208 | 228=>210 | 229=>150 | n=>n,λ| n=>n⟩
def Tryz.lays189:Go.Proofs.Lays.n189 Tryz.prog Tryz.lays189_ren:={
 mixed:=by kernel_rfl
 f125:=Tryz.func171.trans (congrArg some (by kernel_rfl))
 f128:=Tryz.func181.trans (congrArg some (by kernel_rfl))
 f129:=Tryz.func182.trans (congrArg some (by kernel_rfl))
 f189:=Tryz.func166.trans (congrArg some (by kernel_rfl))
 f215:=Tryz.func188.trans (congrArg some (by kernel_rfl))
 f216:=Tryz.func178.trans (congrArg some (by kernel_rfl))
 f257:=Tryz.func170.trans (congrArg some (by kernel_rfl))
 f294:=Tryz.func172.trans (congrArg some (by kernel_rfl))
 f295:=Tryz.func173.trans (congrArg some (by kernel_rfl))
 f296:=Tryz.func174.trans (congrArg some (by kernel_rfl))
 f297:=Tryz.func175.trans (congrArg some (by kernel_rfl))
 f298:=Tryz.func176.trans (congrArg some (by kernel_rfl))
 f299:=Tryz.func177.trans (congrArg some (by kernel_rfl))
 f300:=Tryz.func179.trans (congrArg some (by kernel_rfl))
 f301:=Tryz.func180.trans (congrArg some (by kernel_rfl))
 f328:=Tryz.func183.trans (congrArg some (by kernel_rfl))
 f329:=Tryz.func184.trans (congrArg some (by kernel_rfl))
 f330:=Tryz.func185.trans (congrArg some (by kernel_rfl))
 f331:=Tryz.func186.trans (congrArg some (by kernel_rfl))
 f332:=Tryz.func187.trans (congrArg some (by kernel_rfl))
 f343:=Tryz.func189.trans (congrArg some (by kernel_rfl))
 t0:=Tryz.underlying0
 a0:=Tryz.isAgg0
 z0:=Tryz.sizeOf0
 v0:=Tryz.zeroValue0
 t3:=Tryz.underlying3
 a3:=Tryz.isAgg3
 z3:=Tryz.sizeOf3
 v3:=Tryz.zeroValue3
 t4:=Tryz.underlying4
 a4:=Tryz.isAgg4
 z4:=Tryz.sizeOf4
 v4:=Tryz.zeroValue4
 t5:=Tryz.underlying5
 a5:=Tryz.isAgg5
 z5:=Tryz.sizeOf5
 v5:=Tryz.zeroValue5
 t9:=Tryz.underlying9
 a9:=Tryz.isAgg9
 z9:=Tryz.sizeOf9
 v9:=Tryz.zeroValue9
 t28:=Tryz.underlying22
 a28:=Tryz.isAgg22
 z28:=Tryz.sizeOf22
 v28:=Tryz.zeroValue22
 t46:=Tryz.underlying66
 a46:=Tryz.isAgg66
 z46:=Tryz.sizeOf66
 v46:=Tryz.zeroValue66
 t51:=Tryz.underlying181
 a51:=Tryz.isAgg181
 z51:=Tryz.sizeOf181
 v51:=Tryz.zeroValue181
 t53:=Tryz.underlying73
 a53:=Tryz.isAgg73
 z53:=Tryz.sizeOf73
 v53:=Tryz.zeroValue73
 t131:=Tryz.underlying63
 a131:=Tryz.isAgg63
 z131:=Tryz.sizeOf63
 v131:=Tryz.zeroValue63
 t182:=Tryz.underlying199
 a182:=Tryz.isAgg199
 z182:=Tryz.sizeOf199
 v182:=Tryz.zeroValue199
 t183:=Tryz.underlying200
 a183:=Tryz.isAgg200
 z183:=Tryz.sizeOf200
 v183:=Tryz.zeroValue200
 t218:=Tryz.underlying204
 a218:=Tryz.isAgg204
 z218:=Tryz.sizeOf204
 v218:=Tryz.zeroValue204
 t222:=Tryz.underlying208
 a222:=Tryz.isAgg208
 z222:=Tryz.sizeOf208
 v222:=Tryz.zeroValue208
 t228:=Tryz.underlying210
 a228:=Tryz.isAgg210
 z228:=Tryz.sizeOf210
 v228:=Tryz.zeroValue210
 t229:=Tryz.underlying150
 a229:=Tryz.isAgg150
 z229:=Tryz.sizeOf150
 v229:=Tryz.zeroValue150 }
open Go.Sort Go.RowKit in
def Tryz.slices_Sort_int (blk off cap:Nat)(W:List Int)(w:World)(I:Holds (Value.int .i64) w blk off W.toArray)(a:blk<w.heap.size)(b:W.length<4611686018427387904):
 Calls Tryz.prog 166 #[.slice (some ⟨blk,off,none⟩) W.length cap] w λe w'=>
  e= .returned (.tuple #[])/\ ∃ n F,w'=grow (putRow (Value.int .i64) (Sort.ahead w n) blk off (W.mergeSort λx y=>decide (x<=y)).toArray) F:=Any.slices_Sort_int Tryz.lays189 blk off cap W w I a b
end Go.Proofs
namespace Go.Proofs.YtodinaconebmdaaGreatDoor
open Go.RowKit
abbrev zNU:=@List.pairwise_cons
section
def SX (a:Int):Ξ -> Ξ
 | []=>[a]
 | b::l=>if a<=b then a::b::l else b::SX a l
def Iy:Ξ -> Ξ
 | []=>[]
 | a::l=>SX a (Iy l)
def iT (a:Int): ∀ l:Ξ,(SX a l).Perm (a::l)
 | []=>zNc _
 | b::l=>by
  unfold SX;split
  ·exact zNc _
  ·exact ((iT a l).cons b).trans (List.Perm.swap a b l)
theorem YH: ∀ l:Ξ,(Iy l).Perm l
 | []=>zNc _
 | a::l=>(iT a _).trans ((YH l).cons a)
def sq (a:Int): ∀ l:Ξ,l.Pairwise (· <= ·) -> (SX a l).Pairwise (· <= ·)
 | [],_=>List.pairwise_singleton _ _
 | b::l,h=>by
  have h':=zNU.1 h;unfold SX;split
  ·rename_i c;refine zNU.2 ⟨λx hx=>?_,h⟩
   grind
  ·rename_i c;refine zNU.2 ⟨λx hx=>?_,sq a l h'.2⟩;rcases zIn.1 ((iT a l).mem_iff.1 hx) with rfl | hx
   ·omega
   ·exact h'.1 x hx
theorem oT: ∀ l:Ξ,(Iy l).Pairwise (· <= ·)
 | []=>List.Pairwise.nil
 | a::l=>sq a _ (oT l)
def zR (l:Ξ):(l.mergeSort λx y=>decide (x<=y))=Iy l:=by
 grind [List.Perm.eq_of_pairwise,oT,List.mergeSort_perm,YH,List.pairwise_mergeSort]
def UX (l:Ξ):(Iy l).length=l.length:=(YH l).length_eq
variable {b o:Nat}{w:World}
def zIk {l l':Ξ}{cs:Array Value}{t:TypeId}{z:Nat×Nat}(h:w.heap[b]? =some (.cells cs t z))(hl:l.length=l'.length)(n:Nat)(F:Array Obj):
 ∃ W,(Sort.grow (Sort.putRow (Value.int .i64) (Sort.ahead w n) b o l'.toArray) F).heap[b]? =some (.cells W t z)/\ W.size=cs.size/\ ∀ j,j<l.length -> o+j<cs.size -> W[o+j]? =some (.int .i64 (l'.getD j 0)):=by
 have c:b<w.heap.size:=(zGS.1 h).1;refine ⟨Sort.putCells (Value.int .i64) o l'.toArray cs,?_,by simp [Sort.putCells],λj hj hs=>?_⟩
 ·simp only [Sort.grow,Sort.putRow,Sort.mapBlock,Sort.ahead];rw [Array.getElem?_append_left (by simpa using c),zM7,zEd rfl,h];rfl
 simp_all [Sort.putCells]
theorem yH (hb:b<w.heap.size)(d:Array Int)(n:Nat)(F:Array Obj):AQ (λk=>k=b) w (Sort.grow (Sort.putRow (Value.int .i64) (Sort.ahead w n) b o d) F):=by
 refine ⟨rfl,rfl,rfl,by simp [Sort.ahead],λk hk AY=>?_⟩;simp only [Sort.grow,Sort.putRow,Sort.mapBlock,Sort.ahead]
 grind
def zQ (l:Ξ){n:Nat}(r:n=l.length)(g:l.length<=Ay):ES Tryz.prog GG 166 [.msl 0 1 0 n] [some (.ints l)] (.tup 0 λj=>([]:List DV).getD j .any) [some (.ints (Iy l))] false:=by
 subst r;refine ⟨⟨_,Tryz.func166,by decide,rfl⟩,λN ρ w args HR C=>?_⟩;obtain ⟨p,i,d⟩:=HR.obj 0 _ rfl;have d:AX w p l.length λj u=>u= .int .i64 (l.getD j 0):=d
 have h0:=C.2 0 (by simp);obtain ⟨p',cap,S,hv,QR,So,N5⟩:=h0;have y:p'=p:=zGT (S.symm.trans i);subst y;have s:args.size=1:=by have:=C.1;simpa using this.symm
 have D:args= #[.slice (some ⟨p'.blk,p'.off,none⟩) l.length cap]:=by
  apply Array.ext
  ·simp [s]
  simp_all
 have I:Sort.Holds (Value.int .i64) w p'.blk p'.off l.toArray:=λj a=>by
  have a:j<l.length:=by simpa using a
  obtain ⟨u,c1,c2⟩:=d.cell a;refine ⟨by grind,d.frozen _⟩
 obtain ⟨k,cs,t,K,x,P,_⟩:=d;have f:p'.blk<w.heap.size:=(zGS.1 K).1;subst D;refine (Tryz.slices_Sort_int p'.blk p'.off cap l w I f (by unfold Ay at g;omega)).mono ?_;rintro e w' ⟨rfl,m,F,rfl⟩;rw [zR];obtain ⟨W,B,Y,A⟩:=zIk (o:=p'.off) K (UX l).symm m F;have q:AQ p'.foot w (Sort.grow (Sort.putRow (Value.int .i64) (Sort.ahead w m) p'.blk p'.off (Iy l).toArray) F):=by grind [yH]
 show ∃ v,Ending.returned (.tuple #[])=Ending.returned v/\ CC Tryz.prog GG N _ ρ w false _ _ v (Sort.grow (Sort.putRow (Value.int .i64) (Sort.ahead w m) p'.blk p'.off (Iy l).toArray) F)
 refine ⟨_,rfl,⟨⟨ρ,HR.write (o':=.ints (Iy l)) rfl i q (λb f=>?_) ?_,⟨#[],rfl,rfl,λj a=>absurd a (zGa j)⟩,A3.write rfl i q,λ_ _ h=>h⟩,λh=>by cases h⟩⟩
 ·rw [k] at f;exact .cells (c:=W) (t:=t) (z:=(0,0)) (by rw [show b=p'.blk from f];exact B)
 ·refine ⟨k,W,t,B,by rw [Y,UX];exact x,by rw [Y];exact P,λj a=>?_⟩;rw [UX] at a;exact ⟨_,A j a (by omega),rfl⟩
end
section
set_option maxRecDepth 100000
set_option maxHeartbeats 40000000
inductive Mq where
 | s0
 | s1 (L6:Nat) (I5:Ξ)
def wl:Mq -> DH
 | .s0=>[none,oC [.nils]]
 | .s1 B t=>[none,oC [.msl 2 1 0 B],oI t]
def dE (n:Nat)(B:Int):Option Mq:= if (0=0/\ 1=([B]:Ξ).length)/\ 0<([B]:Ξ).length/\ ([B]:Ξ).length<=Ay then some (.s1 (([B]:Ξ).length) ([B]:Ξ)) else none
def dD (n:Nat)(B:Int)(a:Nat)(t:Ξ):Option Mq:= if (0=0/\ 1=([B]:Ξ).length)/\ (0=0/\ a=t.length)/\ t.length+([B]:Ξ).length<=Ay then some (.s1 (t.length+([B]:Ξ).length) (t++([B]:Ξ))) else none
def lx (n:Nat)(B:Int):Mq -> Option Mq
 | .s0=>dE n B
 | .s1 a t=>dD n B a t
def Mr (n:Nat)(B:Int)(s:Mq):Option Mq:=lx n B s
def zL5 (n:Nat)(l B:Nat)(N:Yd 2)(a:Int)(s:Mq)(r:Mq)(h:Mr n a s=some r):TA l B N (C0 2 [] 0 (wl r)) Tryz.f169 6 ⟨AF 13 [(2,.ref 1 0),(6,.it 0),(7,.i a)],wl s⟩:=by
 cases s with
 | s0=>
  replace h:dE n a=some r:=h;unfold dE at h;refine ag AC [0,1] H0 (AF 13 [(2,.ref 1 0),(5,.i a)]) [none,oC [.nils]] λN=>?_
  revert r;apply gO;exact gi (jt (lF λp=>rr AC [0,1,3] rfl p))
 | s1 b t=>
  replace h:dD n a b t=some r:=h;unfold dD at h;refine ag AC [0,1,2] H0 (AF 13 [(2,.ref 1 0),(5,.i a)]) [none,oC [.msl 2 1 0 b],oI t] λN=>?_
  revert r;apply gO;exact gi (jt (lF λp=>rr AC [0,1,4] rfl p))
def lw (n:Nat)(l:Ξ):Option (Ξ):=
 (CO (Mr n) l (.s0)).bind λa=>
  match a with
  | .s0=>
   none
  | .s1 i j=>
   if i=j.length then
    some j
   else none
def Xa (n:Nat)(l:Ξ):Option (Ξ):=lw n l
variable {r l:Ξ}{n:Nat}
def zL4 (h:Xa n l=some r):EQ 169 [.nils,.it 0] [some (.iter ((l).map Bw))] (.msl 1 1 0 r.length) [none,oI r] false:=by
 unfold Xa lw at h;refine ot Tryz.func169 λB N=>?_
 revert r;apply gO
 exact cn λj u=>λp r h=>by
  refine gs AC [0,1] p (HE (AR Tryz.f169) 6 []) (AF 13 [(2,.ref 1 0),(6,.it 0)]) [some (.iter ((l).map Bw)),oC [.nils]] ?_;refine r0 0 6 #[7] Bw 2 u (zL5 n) ?_;cases j with
  | s0=>
   dsimp only at h
   revert r;apply gO;exact nO
  | s1 i dT=>
   dsimp only at h
   revert r;apply gO;exact gn λq=>lF λp=>el AC [4] [0,2] p [] H0 [.msl 1 1 0 i] (AN.mslN q)
def lH (n:Nat)(l:Ξ):Option (Ξ):= (Xa n l).bind λj=> some j
def ca (n:Nat)(l:Ξ):Option (Ξ):=lH n l
def zLG (h:ca n l=some r):EQ 165 [.it 0] [some (.iter ((l).map Bw))] (.msl 1 1 0 r.length) [none,oI r] false:=by
 unfold ca lH at h;refine ot Tryz.func165 λB N=>?_
 revert r;apply gO;exact ce zL4 [0] [some (.iter ((l).map Bw))] λj=>lF λp=>el AC [2] [0,1] p [] H0 [.msl 1 1 0 j.length] (AN.mslN rfl)
def eD (n:Nat)(l:Ξ):Option (Ξ):= (ca n l).bind λj=> if j.length<=Ay then if j.length=(Iy j).length then some (Iy j) else none else none
def O6 (n:Nat)(l:Ξ):Option (Ξ):=eD n l
def zO (h:O6 n l=some r):EQ 152 [.it 0] [some (.iter ((l).map Bw))] (.msl 1 1 0 r.length) [none,oI r] false:=by
 unfold O6 eD at h;refine ot Tryz.func152 λB N=>?_
 revert r;apply gO;exact ce zLG [0] [some (.iter ((l).map Bw))] λj=>gn λq=>jc (em (zQ j (n:=j.length) (Eq.refl j.length) q) [1] [none,oI j]) (gn λo=>lF λp=>el AC [2] [0,1] p [] H0 [.msl 1 1 0 j.length] (AN.mslN o))
def vg (n:Nat)(E:List Ξ)(S:Ω)(start:Int):Option (Ξ×Int):= (OL n E ([S]:List Ω)).bind λj=> bif (j != 0) then some (([]:Ξ),j) else bif (decide (start<0)) then some (([]:Ξ),1) else bif (decide (start>=(E.length:Int))) then some (([]:Ξ),1) else if 0<=start/\ start<(S.length:Int) then bif (!(S.getD start.toNat false)) then some (([]:Ξ),1) else (HT n E start S).bind λG=> (O6 n G).bind λy3=> some (y3,0) else none
def Te (n:Nat)(E:List Ξ)(S:Ω)(start:Int):Option (Ξ×Int):=vg n E S start
variable {S:Ω}{E:List Ξ}
def zLE {start:Int}{r:Ξ×Int}(h:Te n E S start=some r):EQ 138 [.sl 1 E.length (AK AO E),.bools S,.i start] [] (.tup 2 (L1 [.ints r.1,.i r.2])) [] true:=by
 refine ot Tryz.func138 λB N=>?_
 revert r;apply gO;exact ja 10 0 1 (Ej (c:=cx) (L:=([S]:List Ω)) (vals:=[.bools S]) rfl ⟨⟨_,rfl,⟨Ax,trivial⟩⟩,trivial⟩) (jz 10 0 (jg (Eq.refl 1) (cf uU [none] λj=>bi 13 (lF λp=>el AC [6,7] [] p [] H0 [.nils,.i j] (AN.tupL (l:=[.nils,.i j]) (l':=[.ints ([]:Ξ),.i j]) rfl ⟨AN.ints_nil,Ax,trivial⟩)) (bi 16 (lF λp=>el AC [6,7] [] p [] H0 [.nils,.i 1] (AN.tupL (l:=[.nils,.i 1]) (l':=[.ints ([]:Ξ),.i 1]) rfl ⟨AN.ints_nil,Ax,trivial⟩)) (bi 21 (lF λp=>el AC [6,7] [] p [] H0 [.nils,.i 1] (AN.tupL (l:=[.nils,.i 1]) (l':=[.ints ([]:Ξ),.i 1]) rfl ⟨AN.ints_nil,Ax,trivial⟩)) (gi (bi 28 (lF λp=>el AC [6,7] [] p [] H0 [.nils,.i 1] (AN.tupL (l:=[.nils,.i 1]) (l':=[.ints ([]:Ξ),.i 1]) rfl ⟨AN.ints_nil,Ax,trivial⟩)) (cn λG k=>jc (fW k [none]) (ce zO [1] [none,some (.iter ((G).map Bw))] λy3=>lF λp=>ez AC [6,7] [2] p [0] (H0.g (Eq.refl y3.length)))))))))))
def nu:ST:=.rd 0 (.rd 1 (.ef 2 (.ef 3 (.fin [] [4,5]) (.no)) (.no)))
def zA2:B3 (A9 Tryz.f141 11) [2] nu:=by unfold B3;kernel_rfl
def NI:BX:=λi=>match i with
 | 11=>.tre [2] nu
 | _=>.no
def zHs (E:List Ξ)(q:Int)(j o1:Ξ):DH:=[oC [.msl 3 1 0 E.length],oC [.i (q+1)],some (.iter ((j).map Bw)),oI o1]
def nR (E:List Ξ)(o1:Ξ)(q:Int):St:=⟨(AF 42 [(4,.ref 0 0),(5,.ref 2 0)]),([oC [.msl 1 1 0 E.length],oI o1,oC [.i q]]:DH)⟩
inductive Ng where
 | s0 (K1:Ξ)
def qx (E:List Ξ)(AM:Ω)(x13 q:Int):Ng -> DH
 | .s0 H=>[oC [.msl 3 1 0 E.length],oC [.i (q+1)],none,oI H]
def ZZ (n:Nat)(E:List Ξ)(AM:Ω)(x13 q h:Int)(H:Ξ):Option Ng:= if (0<=h/\ h<(E.length:Int))/\ 0+h.toNat<H.length then some (.s0 (H.set (0+h.toNat) (q+1))) else none
def qw (n:Nat)(E:List Ξ)(S:Ω)(x13 q h:Int):Ng -> Option Ng
 | .s0 H=>ZZ n E S x13 q h H
def Vc (n:Nat)(E:List Ξ)(S:Ω)(x13 q h:Int)(s:Ng):Option Ng:=qw n E S x13 q h s
def zDm (n:Nat)(E:List Ξ)(S:Ω)(x13 q:Int)(l B:Nat)(N:Yd 3)(a:Int)(s:Ng)(r:Ng)(h:Vc n E S x13 q a s=some r):TA l B N (C0 3 [] 0 (qx E S x13 q r)) Tryz.f141 33 ⟨AF 42 [(0,.sl 1 E.length (AK AO E)),(1,.bools S),(4,.ref 0 0),(5,.ref 1 0),(12,.i (E.length:Int)),(13,.i x13),(33,.it 2),(34,.i a)],qx E S x13 q s⟩:=by
 cases s with
 | s0 H=>
  replace h:ZZ n E S x13 q a H=some r:=h;unfold ZZ at h;refine ag NI [0,1,2,3] H0 (AF 42 [(4,.ref 0 0),(5,.ref 1 0),(7,.i a)]) [oC [.msl 3 1 0 E.length],oC [.i (q+1)],none,oI H] λN=>?_
  revert r;apply gO;exact gc (gi (gi (lF λp=>rr NI [0,1,2,3] rfl p)))
inductive Za where
 | l1 (x13:Int) (o1:Ξ) (Cm:Int)
def Vb (n:Nat)(self:Za -> Option (Ξ×Int))(E:List Ξ)(S:Ω)(x13:Int)(o1:Ξ)(q:Int):Option (Ξ×Int):=
 bif (decide (x13<(E.length:Int))) then
  if 0<=x13/\ x13<(S.length:Int) then
   bif (!(S.getD x13.toNat false)) then
    if AG (x13+1) then
     self (.l1 (x13+1) o1 q)
    else none
   else
    if (0<=x13/\ x13<(E.length:Int))/\ 0+x13.toNat<o1.length then
     bif (decide ((o1.getD (0+x13.toNat) 0)>0)) then
      if AG (x13+1) then
       self (.l1 (x13+1) o1 q)
      else none
     else
      if AG (q+1) then
       (HT n E x13 S).bind λj=>
        (CO (Vc n E S x13 q) j (.s0 o1)).bind λG=>
         match G with
         | .s0 x=>
          if AG (x13+1) then
           self (.l1 (x13+1) x (q+1))
          else none
      else none
    else none
  else none
 else
  if E.length=o1.length then
   some (o1,q)
  else none
def qv (n:Nat)(self:Za -> Option (Ξ×Int))(E:List Ξ)(AM:Ω):Option (Ξ×Int):= if ((E.length:Int):Int)=(E.length:Int)/\ 0<=(E.length:Int)/\ ((E.length:Int):Int)<=1000000000000 then self (.l1 0 (List.replicate E.length (0:Int)) 0) else none
def SE (E:List Ξ)(S:Ω):Nat -> Za -> Option (Ξ×Int)
 | 0,_=>none
 | n+1,.l1 x13 o1 q=>Vb n (SE E S n) E S x13 o1 q
def parts (n:Nat)(E:List Ξ)(S:Ω):Option (Ξ×Int):=qv n (SE E S n) E S
def zDn (n B:Nat)(N:Yd 0)(E:List Ξ)(S:Ω)(r:Ξ×Int):Za -> Prop
 | .l1 x13 o1 q=>∀ f:Nat,n<=f -> TW B N (FQ Tryz.f141 0 (.tup 2 (L1 [.ints r.1,.i r.2])) []) (Ag f (An (AR Tryz.f141) 0 [])) ⟨AF 42 [(0,.sl 1 E.length (AK AO E)),(1,.bools S),(4,.ref 0 0),(5,.ref 2 0),(12,.i (E.length:Int)),(13,.i x13)],[oC [.msl 1 1 0 E.length],oI o1,oC [.i q]]⟩
def zDo (B:Nat)(N:Yd 0)(E:List Ξ)(S:Ω):Al (SE E S) (zDn · B N E S):=ia (λ_=>rfl) λn C A r h=>by
 cases A
 case l1 x13 o1 Cm=>
  intro f a;refine rd a λf a=>?_
  revert r;apply gO
  exact bi 14 (gi (bi 20 (gw 39 (lG NI [0,1,2] (C _ _ · f a))) (gc (gi (gi (bi 26 (gw 39 (lG NI [0,1,2] (C _ _ · f a))) (gw 29 (jt (cn λj u=>jc (fW u [oC [.msl 1 1 0 E.length],oI o1,oC [.i (Cm+1)]]) (cn λG k=>λp r h=>by
   refine gs NI [0,2,3,1] p (HE (AR Tryz.f141) 33 [f]) (AF 42 [(0,.sl 1 E.length (AK AO E)),(1,.bools S),(4,.ref 0 0),(5,.ref 1 0),(12,.i (E.length:Int)),(13,.i x13),(33,.it 2)]) (zHs E Cm j o1) ?_;refine r0 2 33 #[34] Bw 3 k (zDm n E S x13 Cm) ?_;cases G with
   | s0 Ep=>
    dsimp only at h
    revert r;apply gO;exact gw 39 (lG NI [0,3,1] (C _ _ · f a)))))))))))) (jg zA2 (jt (jt (jg (Eq.refl (nR E o1 Cm)) (gn λq=>lF λp=>ez (tg:=[([(2,0)],(nR E o1 Cm))]) NI [4,5] [0,1,2] p [1] (H0.g q))))))
def zDk {r:Ξ×Int}(h:parts n E S=some r):EQ 141 [.sl 1 E.length (AK AO E),.bools S] [] (.tup 2 (L1 [.ints r.1,.i r.2])) [] true:=by
 refine ot Tryz.func141 λB N=>?_
 revert r;apply gO;exact gi (jt (lN NI [0,2,1] ((zDo B N E S n) _ _ · n Nat.le.refl)))
end
section
set_option maxRecDepth 100000
set_option maxHeartbeats 40000000
def dZ (n:Nat)(N:Int)(inn:Ω):Option (Ω):= (Qi n inn).bind λj=> if (0<=N/\ N<(j.length:Int))/\ 0+N.toNat<j.length then if j.length=(j.set (0+N.toNat) false).length then some (j.set (0+N.toNat) false) else none else none
def UD (n:Nat)(N:Int)(inn:Ω):Option (Ω):=dZ n N inn
variable {n:Nat}
def xk {a:Int}{inn:Ω}{r:Ω}(h:UD n a inn=some r):EQ 140 [.i a,.fp 1 (L1 [.bools inn])] [] (.msl 0 1 0 r.length) [some (.bools r)] true:=by
 unfold UD dZ at h;refine ot Tryz.func140 λB N=>?_
 revert r;apply gO;exact cn λj u=>jc (ES.snapNew (ds:=[.bools inn]) (vn u) [] (mB (by kernel_rfl)) rfl) (gc (gi (gi (gn λs=>lF λp=>el AC [3] [0] p [] H0 [.msl 0 1 0 j.length] (AN.mslN s)))))
def zAh:Au (A9 Tryz.f131 16) [] (List.range 7) []:=by unfold Au;kernel_rfl
def II:BX:=λi=>match i with
 | 16=>.ord [] (List.range 7) []
 | _=>.no
def tO (S L:Ω)(E:Int):DH:=[oC [.bools S],oC [.bools L],oC [.i E],oC [.bool false],none]
def zHE (S L:Ω)(E:Int):DH:=[oC [.bools S],oC [.bools L],oC [.i E],oC [.bool false],none,none]
def zHD (S L:Ω)(E:Int)(y3:Ξ×Int):DH:=[oC [.bools S],oC [.bools L],oC [.i E],oC [.bool false],none,none,oC [.ints y3.1],oC [.i 0]]
def zHC (L:Ω)(E:Int)(y3:Ξ×Int)(r:Ξ):DH:=[oC [.bools L],oC [.i E],oC [.bool false],oC [.ints y3.1],oC [.i 0],some (.iter ((r).map Bw))]
def zHB (L:Ω)(E:Int)(J:Bool)(y3:Ξ×Int)(P:Int):DH:=[oC [.bools L],oC [.i E],oC [.bool J],oC [.ints y3.1],oC [.i P],none]
inductive NE where
 | s0 (IP:Bool) (HV:Int)
def oP (L:Ω)(E:Int)(y3:Ξ×Int):NE -> DH
 | .s0 J P=>[oC [.bools L],oC [.i E],oC [.bool J],oC [.ints y3.1],oC [.i P],none]
def UW (n:Nat)(L:Ω)(E:Int)(y3:Ξ×Int)(G:Int)(J:Bool)(P:Int):Option (NE×Nat):= bif (G==E) then some (.s0 J P,0) else if 0<=G/\ G<(L.length:Int) then bif (!(L.getD G.toNat false)) then some (.s0 J P,0) else bif (P==0) then if 0<=G/\ G<(y3.1.length:Int) then some (.s0 J (y3.1.getD G.toNat 0),0) else none else if 0<=G/\ G<(y3.1.length:Int) then bif ((y3.1.getD G.toNat 0) != P) then some (.s0 true P,1) else some (.s0 J P,0) else none else none
def zL (n:Nat)(L:Ω)(E:Int)(y3:Ξ×Int)(G:Int):NE -> Option (NE×Nat)
 | .s0 J P=>UW n L E y3 G J P
def Iw (n:Nat)(L:Ω)(E:Int)(y3:Ξ×Int)(G:Int)(s:NE):Option (NE×Nat):=zL n L E y3 G s
def zK (n:Nat)(L:Ω)(E:Int)(y3:Ξ×Int)(l B:Nat)(N:Yd 6)(G:Int)(s:NE)(r:NE×Nat)(h:Iw n L E y3 G s=some r):TA l B N (C0 6 [.exit 0] r.2 (oP L E y3 r.1)) Tryz.f131 48 ⟨AF 76 [(6,.ref 0 0),(7,.ref 1 0),(8,.ref 2 0),(11,.ref 3 0),(13,.ref 4 0),(48,.it 5),(49,.i G)],oP L E y3 s⟩:=by
 cases s with
 | s0 J P=>
  refine ag II [0,1,2,3,4,5] H0 (AF 76 [(6,.ref 0 0),(7,.ref 1 0),(8,.ref 2 0),(11,.ref 3 0),(13,.ref 4 0),(14,.i G)]) (zHB L E J y3 P) λN=>?_
  revert r;apply gO;exact bi 53 (lF λp=>rr II [0,1,2,3,4,5] rfl p) (gi (bi 59 (lF λp=>rr II [0,1,2,3,4,5] rfl p) (bi 63 (gi (jt (lF λp=>rr II [0,1,2,3,4,5] rfl p))) (jg zAh (gi (bi 74 (jt (lF λp=>rr II [0,1,2,3,4,5] rfl p)) (lF λp=>rr II [0,1,2,3,4,5] rfl p)))))))
def oO (n:Nat)(a:List Ξ)(S L:Ω)(E:Int):Option (Bool×Int):=
 (OL n a ([S,L]:List Ω)).bind λj=>
  bif (j != 0) then
   some (false,j)
  else
   bif (decide (E<0)) then
    some (false,1)
   else
    bif (decide (E>=(a.length:Int))) then
     some (false,1)
    else
     if 0<=E/\ E<(S.length:Int) then
      bif (!(S.getD E.toNat false)) then
       some (false,0)
      else
       (UD n E S).bind λG=>
        (parts n a G).bind λy3=>
         (HT n a E S).bind λr=>
          (Ch (Iw n L E y3) r (.s0 false 0)).bind λb=>
           bif b.2==0 then
            match b.1 with
            | .s0 T k=>
             some (T,0)
           else
            bif b.2==1 then
             match b.1 with
             | .s0 T k=>
              some (T,0)
            else
             none
     else none
def O4 (n:Nat)(E:List Ξ)(S L:Ω)(a:Int):Option (Bool×Int):=oO n E S L a
def zI {b:List Ξ}{S a:Ω}{E:Int}{r:Bool×Int}(h:O4 n b S a E=some r):EQ 131 [.sl 1 b.length (AK AO b),.bools S,.bools a,.i E] [] (.tup 2 (L1 [.bool r.1,.i r.2])) [] true:=by
 refine ot Tryz.func131 λB N=>?_
 revert r;apply gO
 exact ja 18 4 1 (Ej (c:=cx) (L:=([S,a]:List Ω)) (vals:=[.bools S,.bools a]) rfl ⟨⟨_,rfl,⟨Ax,trivial⟩⟩,⟨_,rfl,⟨Ax,trivial⟩⟩,trivial⟩) (jz 18 4 (jg (Eq.refl 2) (cf uU (tO S a E) λ_=>bi 21 (jt (lE II [8,9] [3])) (bi 24 (jt (lE II [8,9] [3])) (bi 29 (jt (lE II [8,9] [3])) (gi (bi 35 (jt (lE II [8,9] [3])) (cn λG k=>jc (ES.snapNew (ds:=[.i E,.ref 0 0]) (xk k) (tO S a E) ⟨Az.plain (by kernel_rfl),(Az.refL (l:=[.bools S]) (l0:=[.bools S]) rfl ⟨Az.plain (by kernel_rfl),trivial⟩),trivial⟩ rfl) (jz 41 5 (jg (Eq.refl G.length) (cf zDk (zHE S a E) λy3=>jt (jt (cn λf g=>jc (fW g (zHD S a E y3)) (cn λd m=>λp r h=>by
  refine gs II [1,2,3,6,7,8] p (HE (AR Tryz.f131) 48 []) (AF 76 [(6,.ref 0 0),(7,.ref 1 0),(8,.ref 2 0),(11,.ref 3 0),(13,.ref 4 0),(48,.it 5)]) (zHC a E y3 f) ?_;refine rx [.exit 0] 5 48 #[49] Bw 6 m (zK n a E y3) λe I=>?_
  replace h:=DN h;rcases h with ⟨U,h⟩ | ⟨U,h⟩
  ·rw [zJF U] at I;cases I;revert h;cases d.1 with
   | s0 T j=>
    intro h
    dsimp only at h
    revert r;apply gO;exact jt (lE II [8,9] [2])
  ·replace h:=DN h;rcases h with ⟨U,h⟩ | ⟨U,h⟩
   ·rw [zJF U] at I;cases I;refine BF.exitTo (by kernel_rfl) ?_;revert h;cases d.1 with
    | s0 T j=>
     intro h
     dsimp only at h
     revert r;apply gO;exact jt (lE II [8,9] [2])
   ·cases h))))))))))))))
end
abbrev zI3:=@List.append_nil
def At.bindU {R T:Type}{a:Nat -> Option T}{b:Nat -> T -> Option R}{A:T -> Prop}{Q:R -> Prop}(D:At a A)(c: ∃ M,∀ n,M<=n -> ∀ x,A x -> ∃ r,b n x=some r/\ Q r):At (λn=>(a n).bind (b n)) Q:=by
 obtain ⟨N,D⟩:=D;obtain ⟨M,c⟩:=c;refine ⟨max N M,λn hn=>?_⟩;obtain ⟨x,h1,d⟩:=D n (by omega);obtain ⟨r,h3,h4⟩:=c n (by omega) x d
 grind
structure H9 (g:List Ξ):Prop where
 ok:JT g=true
 row: ∀ r∈g,r.length<=LB
def H9.gr {g:List Ξ}(h:H9 g):Gr g:=Gr.of h.ok h.row
section
variable {g:List Ξ} {inn some':Ω} {s:Int}
variable {d:List Ω}
def uV (a: ∀ x∈d,x.length=g.length)(m:d.length<=256): ∀ (k i n:Nat),i+k=d.length -> k+1<=n -> S9 g d n (.l1 (i:Int))=some 0
 | 0,i,n,e,u=>by
  obtain ⟨n,rfl⟩: ∃ k,n=k+1:=⟨n-1,by omega⟩
  simp_all [bY,S9]
 | k+1,i,n,e,u=>by
  obtain ⟨n,rfl⟩: ∃ k,n=k+1:=⟨n-1,by omega⟩;have hi:i<d.length:=by omega
  have v:d.getD i []∈d:=by grind
  have z:(((d.getD i []).length:Int) != (g.length:Int))=false:=by rw [a _ v];simp
  have:=uV a m k (i+1) n (by omega) (by omega)
  show bY n (S9 g d n) g d i=_
  unfold bY;rw [zEI (by omega),zFi,zEd ⟨by omega,by omega⟩,zCl,z,zGK,zEd (Ah.2 ⟨by omega,by omega⟩)];exact this
def uX (G:H9 g)(k: ∀ x∈d,x.length=g.length)(m:d.length<=256):Ev (λn=>OL n g d) 0:=by
 refine ⟨2*Fk g+1+d.length+1,λn hn=>?_⟩
 show OL n g d=some 0
 unfold OL uW;rw [ui G.row (by omega),G.ok];exact uV k m d.length 0 n (by omega) (by omega)
variable {n:Nat}
def wn : ∀ (l x:Ξ),(x++l).length<=Ay -> CO (Mr n) l (.s1 x.length x)=some (.s1 (x++l).length (x++l))
 | [],x,h=>by rw [zI3];rfl
 | a::l,x,h=>by
  have e:x++a::l=x++[a]++l:=by simp
  rw [e] at h ⊢;have h2:x.length+1<=Ay:=by grind
  have w:Mr n a (.s1 x.length x)=some (.s1 (x++[a]).length (x++[a])):=by
   unfold Mr lx dD
   grind
  show (Mr n a (.s1 x.length x)).bind (CO (Mr n) l)=_
  rw [w,zEf];exact wn l (x++[a]) h
variable {l:Ξ}
def zP (h0:l≠[])(hl:l.length<=256):O6 n l=some (Iy l):=by
 have L:(1000000000000:Nat)=Ay:=rfl;cases l with
 | nil=>exact absurd rfl h0
 | cons a l=>
  have e1:Mr n a .s0=some (.s1 [a].length [a]):=by
   unfold Mr lx dE
   grind
  have e2:=wn (n:=n) l [a] (by grind)
  have Q:Xa n (a::l)=some (a::l):=by
   simp_all [Xa,lw,CO]
  unfold O6 eD ca lH;rw [Q,zEf,zEf,zEd (by rw [←L];omega),zEd (UX _).symm]
def zCz (h: ∀ v,v∈l↔Rc g inn s v):l≠[]:=λe=>by
 have:=(h s).2 .start;rw [e] at this;cases this
def zC0 (G:Gr g)(h0:0<=s)(a:s<(g.length:Int))(u:l.Nodup)(h: ∀ v,v∈l↔Rc g inn s v):l.length<=256:=
 zGU (SL g.length l u λx d=>((h x).1 d).rng G h0 a) G.len
def zLF (G:H9 g)(u:inn.length=g.length)(h0:0<=s)(b:s<(g.length:Int))(hs:inn.getD s.toNat false=true):
 At (λn=>Te n g inn s) (λr=>r.2=0/\ r.1.length<=256/\ ∀ v,v∈r.1↔Rc g inn s v):=by
 have e: ∀ n,Te n g inn s=(OL n g [inn]).bind λj=>bif (j != 0) then some (([]:Ξ),j) else (HT n g s inn).bind λa=>(O6 n a).bind λy3=>some (y3,0):=λn=>by
  simp_all [Te,vg,zEl]
 refine At.eq ?_ e;refine At.bind (uX G (λx d=>by rw [zGu.1 d];exact u) (by simp)) ?_
 show At (λn=>(HT n g s inn).bind λa=>(O6 n a).bind λy3=>some (y3,0)) _
 refine At.bindU (fV G.gr u h0 b) ⟨0,λn _ l m=>?_⟩;have M:=zC0 G.gr h0 b m.1 m.2;rw [zP (zCz m.2) M,zEf];exact ⟨_,rfl,rfl,by rw [UX];exact M,λv=>by grind [YH]⟩
structure Pt (g:List Ξ)(inn:Ω)(i:Nat)(part:Ξ)(FH:Int):Prop where
 len:part.length=g.length
 m0:0<=FH
 m1:FH<=(i:Int)
 lo: ∀ v,v<g.length -> 0<=part.getD v 0/\ part.getD v 0<=FH
 isIn: ∀ v,v<g.length -> 0<part.getD v 0 -> inn.getD v false=true
 same: ∀ u v:Nat,u<g.length -> v<g.length -> 0<part.getD u 0 -> Rc g inn u v -> part.getD v 0=part.getD u 0
 con: ∀ u v:Nat,u<g.length -> v<g.length -> 0<part.getD u 0 -> part.getD v 0=part.getD u 0 -> Rc g inn u v
 all: ∀ v,v<i -> v<g.length -> inn.getD v false=true -> 0<part.getD v 0
 sur: ∀ m,0<m -> m<=FH -> ∃ v,v<g.length/\ part.getD v 0=m
def qy {n:Nat}{x13 m:Int}: ∀ (l:Ξ) (part:Ξ),part.length=g.length -> (∀ v∈l,0<=v/\ v<(g.length:Int)) ->
 ∃ i,CO (Vc n g inn x13 m) l (.s0 part)=some (.s0 i)/\ i.length=g.length/\ ∀ v:Nat,i.getD v 0=if (v:Int)∈l/\ v<g.length then m+1 else part.getD v 0
 | [],part,b,_=>⟨part,rfl,b,λv=>by simp⟩
 | a::l,part,b,c=>by
  have ha:=c a zIV
  have e1:Vc n g inn x13 m a (.s0 part)=some (.s0 (part.set a.toNat (m+1))):=by
   simp_all [Vc,qw,ZZ]
  obtain ⟨i,h1,d,h⟩:=qy (n:=n) (x13:=x13) (m:=m) l (part.set a.toNat (m+1)) (by rw [zGj];exact b) λv p=>c v (zIG _ p)
  refine ⟨i,?_,d,λv=>?_⟩
  ·grind [CO]
  ·rw [h]
   grind
def Pt.go (G:Gr g){i:Nat}{part f:Ξ}{j:Int}(h:Pt g inn i part j)(hi:i<g.length)(D:inn.getD i false=true)(h0: ¬ part.getD i 0>0)(o: ∀ v,v∈l↔Rc g inn i v)(M:f.length=g.length) 
 (r: ∀ v:Nat,f.getD v 0=if (v:Int)∈l/\ v<g.length then j+1 else part.getD v 0):Pt g inn (i+1) f (j+1):=by
 have m0:=h.m0;have m1:=h.m1;have J: ∀ v:Nat,v<g.length -> Rc g inn i v -> f.getD v 0=j+1:=λv p a=>by rw [r,zEd ⟨(o v).2 a,p⟩]
 have d: ∀ v:Nat,¬ Rc g inn i v -> f.getD v 0=part.getD v 0:=λv a=>by grind
 have sym: ∀ u v:Nat,u<g.length -> inn.getD u false=true -> Rc g inn u v -> Rc g inn v u:=λu v q n a=>a.symm G (by omega) (by omega) (by rw [zCl];exact n)
 refine ⟨M,by omega,by omega,λv p=>?_,λv p Y=>?_,λu v q p Y a=>?_,λu v q p Y I=>?_,λv p k s=>?_,λm b c=>?_⟩
 ·have:=h.lo v p
  grind
 ·by_cases a:Rc g inn i v
  ·have:=a.isIn (by rw [zCl];exact D)
   rwa [zCl] at this
  ·rw [d v a] at Y;exact h.isIn v p Y
 ·by_cases b:Rc g inn i u
  ·rw [J u q b,J v p (b.trans a)]
  ·rw [d u b] at Y ⊢;have c: ¬ Rc g inn i v:=λc=>b (c.trans (sym u v q (h.isIn u q Y) a))
   rw [d v c];exact h.same u v q p Y a
 ·have t:=(h.lo v p).2
  by_cases b:Rc g inn i u
  ·rw [J u q b] at I
   by_cases c:Rc g inn i v
   ·exact (sym i u hi D b).trans c
   ·rw [d v c] at I;omega
  ·rw [d u b] at Y I;have t:=(h.lo u q).2
   by_cases c:Rc g inn i v
   ·rw [J v p c] at I;omega
   ·rw [d v c] at I;exact h.con u v q p Y I
 ·rcases zGg.1 p with p | rfl
  ·have:=h.all v p k s
   grind
  ·rw [J v k .start];omega
 ·by_cases e:m=j+1
  ·exact ⟨i,hi,by rw [J i hi .start,e]⟩
  ·obtain ⟨v,p,K⟩:=h.sur m b (by omega);refine ⟨v,p,?_⟩;rw [d v λa=>h0 ?_,K];have:=h.same v i p hi (by omega) (sym i v hi D a);omega
def PtP (g:List Ξ)(inn:Ω)(r:Ξ×Int):Prop:=r.1.length=g.length/\ (∀ v,v<g.length -> inn.getD v false=true -> 0<r.1.getD v 0)/\ ∀ u v:Nat,u<g.length -> v<g.length -> inn.getD u false=true -> (r.1.getD v 0=r.1.getD u 0↔Rc g inn u v)
def zDj (G:Gr g)(q:inn.length=g.length):At (λn=>parts n g inn) (λr=>Pt g inn g.length r.1 r.2):=by
 have hG:=G.len;obtain ⟨N,R⟩:=At.range (F:=λ(i:Nat) n=>HT n g i inn) (A:=λi l=>l.Nodup/\ ∀ v,v∈l↔Rc g inn i v) g.length λi hi=>fV G q (by omega) (by omega)
 have R: ∀ n,N<=n -> ∀ i:Nat,i<g.length -> ∃ l,HT n g i inn=some l/\ l.Nodup/\ ∀ v,v∈l↔Rc g inn i v:=R;refine ⟨N+g.length+1,λn hn=>?_⟩;have S:=IV (λn (s:Ξ×Int) i=>SE g inn n (.l1 i s.1 s.2)) g.length (N+1) (λi s=>Pt g inn i s.1 s.2) (λn i s GH hi a=>?_) (n:=n) (s:=(List.replicate g.length 0,0)) (by omega) ?_
 ·obtain ⟨d,⟨part,b⟩,Hh,_,w,a⟩:=S;obtain ⟨e,rfl⟩: ∃ e,d=e+1:=⟨d-1,by omega⟩;refine ⟨(part,b),?_,a⟩
  show parts n g inn=some (part,b)
  unfold parts qv;rw [zEd ⟨rfl,by omega,by omega⟩];refine Eq.trans w ?_
  show Vb e (SE g inn e) g inn (g.length:Int) part b=_
  unfold Vb;rw [zEl (by omega),zGK,zEd a.len.symm]
 ·obtain ⟨part,b⟩:=s;have a:Pt g inn i part b:=a;have c:AG ((i:Int)+1):=Ah.2 ⟨by omega,by omega⟩
  show ∃ s',Vb n (SE g inn n) g inn (i:Int) part b=_/\ _
  unfold Vb;simp only [zCl,zG4];rw [zEI (by omega),zFi,zEd ⟨by omega,by omega⟩];cases D:inn.getD i false
  ·rw [zI8,zFi,zEd c];have Y:=a.m1;refine ⟨(part,b),rfl,a.len,a.m0,by grind,a.lo,a.isIn,a.same,a.con,λv p f k=>?_,a.sur⟩;rcases zGg.1 p with p | rfl
   ·exact a.all v p f k
   ·rw [D] at k;cases k
  ·have Aj:=a.len;rw [zIF,zGK,zEd ⟨⟨by omega,by omega⟩,by omega⟩]
   by_cases h0:part.getD i 0>0
   ·rw [zEI h0,zFi,zEd c];have Y:=a.m1;refine ⟨(part,b),rfl,a.len,a.m0,by grind,a.lo,a.isIn,a.same,a.con,λv p f k=>?_,a.sur⟩;rcases zGg.1 p with p | rfl
    ·exact a.all v p f k
    ·exact h0
   ·obtain ⟨l,t,BA,j⟩:=R n (by omega) i hi;obtain ⟨x,Q,y,B⟩:=qy (n:=n) (inn:=inn) (x13:=(i:Int)) (m:=b) l part a.len λv p=>((j v).1 p).rng G (by omega) (by omega)
    have m0:=a.m0;have Y:=a.m1;rw [zEl h0,zGK,zEd (Ah.2 ⟨by omega,by omega⟩),t,zEf,Q,zEf]
    dsimp only
    rw [zEd c];exact ⟨(x,b+1),rfl,a.go G hi D h0 j y B⟩
 ·have z: ∀ v:Nat,(List.replicate g.length (0:Int)).getD v 0=0:=λv=>by
   grind
  exact ⟨by simp,zGv _,zGv _,λv _=>by grind,λv _ h=>by rw [z] at h;omega,λu v _ _ h=>by rw [z] at h;omega,λu v _ _ h=>by rw [z] at h;omega,λv p=>absurd p (zGa v),λm h1 o=>by have o:m<=0:=o;omega⟩
def zDl (G:Gr g)(b:inn.length=g.length):At (λn=>parts n g inn) (PtP g inn):=(zDj G b).mono λr a=>⟨a.len,λv p hi=>a.all v p p hi,λu v q p hi=>by
 have E:=a.all u q q hi;exact ⟨a.con u v q p E,a.same u v q p E⟩⟩
def Sp (g:List Ξ)(inn some':Ω)(a:Int):Prop:=∃ u v:Int,u≠a/\ v≠a/\ some'.getD u.toNat false=true/\ some'.getD v.toNat false=true/\ Rc g inn a u/\ Rc g inn a v/\ ¬ Rc g (inn.set a.toNat false) u v
variable {y3:Ξ×Int}
def oR {n:Nat}{a f:Int}(h:some'.length=g.length)(hy:y3.1.length=g.length)(M:f≠0): ∀ (l:Ξ),(∀ v∈l,0<=v/\ v<(g.length:Int)) ->
 ∃ b V c,Ch (Iw n some' a y3) l (.s0 false f)=some (.s0 b V,c)/\ (c=0∨c=1)/\ (b=true↔∃ v∈l,v≠a/\ some'.getD v.toNat false=true/\ y3.1.getD v.toNat 0≠f)
 | [],_=>⟨false,f,0,rfl,.inl rfl,by simp⟩
 | x::l,m=>by
  have hx:=m x zIV;obtain ⟨b,V,c,h1,d,h3⟩:=oR (n:=n) (a:=a) h hy M l λv p=>m v (zIG _ p)
  have skip:Iw n some' a y3 x (.s0 false f)=some (.s0 false f,0) -> ¬ (x≠a/\ some'.getD x.toNat false=true/\ y3.1.getD x.toNat 0≠f) -> ∃ b V c,Ch (Iw n some' a y3) (x::l) (.s0 false f)=some (.s0 b V,c)/\ (c=0∨c=1)/\ (b=true↔∃ v∈x::l,v≠a/\ some'.getD v.toNat false=true/\ y3.1.getD v.toNat 0≠f):=by
   intro e hn;refine ⟨b,V,c,?_,d,?_⟩
   ·grind [Ch]
   grind
  have E:(f==0)=false:=zIC.2 M;have U:Iw n some' a y3 x (.s0 false f)=UW n some' a y3 x false f:=rfl;unfold UW at U
  by_cases w:x=a
  ·grind
  ·have:(x==a)=false:=zIC.2 w;rw [this,zGK,zEd ⟨by omega,by omega⟩] at U;cases z:some'.getD x.toNat false
   ·grind
   ·rw [z,zIF,zGK,E,zGK,zEd ⟨by omega,by omega⟩] at U
    by_cases Q:y3.1.getD x.toNat 0=f
    ·grind
    ·have Z:(y3.1.getD x.toNat 0 != f)=true:=by simpa using Q
     rw [Z,zFi] at U;refine ⟨true,f,1,?_,.inr rfl,?_⟩
     ·grind [Ch]
     grind
def oS {n:Nat}{a:Int}(h:some'.length=g.length)(hy:y3.1.length=g.length): ∀ (l:Ξ),(∀ v∈l,0<=v/\ v<(g.length:Int)) -> (∀ v∈l,v≠a -> y3.1.getD v.toNat 0≠0) ->
 ∃ b V c,Ch (Iw n some' a y3) l (.s0 false 0)=some (.s0 b V,c)/\ (c=0∨c=1)/\ (b=true↔∃ u∈l,∃ v∈l,u≠a/\ v≠a/\ some'.getD u.toNat false=true/\ some'.getD v.toNat false=true/\ y3.1.getD v.toNat 0≠y3.1.getD u.toNat 0)
 | [],_,_=>⟨false,0,0,rfl,.inl rfl,by simp⟩
 | x::l,m,z=>by
  have hx:=m x zIV;have f: ∀ v∈l,0<=v/\ v<(g.length:Int):=λv p=>m v (zIG _ p)
  have skip:Iw n some' a y3 x (.s0 false 0)=some (.s0 false 0,0) -> ¬ (x≠a/\ some'.getD x.toNat false=true) -> ∃ b V c,Ch (Iw n some' a y3) (x::l) (.s0 false 0)=some (.s0 b V,c)/\ (c=0∨c=1)/\ (b=true↔∃ u∈x::l,∃ v∈x::l,u≠a/\ v≠a/\ some'.getD u.toNat false=true/\ some'.getD v.toNat false=true/\ y3.1.getD v.toNat 0≠y3.1.getD u.toNat 0):=by
   intro e hn;obtain ⟨b,V,c,i,d,j⟩:=oS (n:=n) (a:=a) h hy l f λv p=>z v (zIG _ p)
   refine ⟨b,V,c,?_,d,?_⟩
   ·grind [Ch]
   grind
  have U:Iw n some' a y3 x (.s0 false 0)=UW n some' a y3 x false 0:=rfl;unfold UW at U
  by_cases w:x=a
  ·grind
  ·have:(x==a)=false:=zIC.2 w;rw [this,zGK,zEd ⟨by omega,by omega⟩] at U;cases k:some'.getD x.toNat false
   ·grind
   ·have z0:((0:Int)==0)=true:=rfl;rw [k,zIF,zGK,z0,zFi,zEd ⟨by omega,by omega⟩] at U;obtain ⟨b,V,c,i,d,j⟩:=oR (n:=n) (a:=a) h hy (z x zIV w) l f;refine ⟨b,V,c,?_,d,?_⟩
    ·grind [Ch]
    grind
theorem zJ (G:H9 g)(w:inn.length=g.length)(H:some'.length=g.length){a:Nat}(ha:a<g.length)(o:inn.getD a false=true):
 At (λn=>O4 n g inn some' (a:Int)) (λr=>r.2=0/\ (r.1=true↔Sp g inn some' (a:Int))):=by
 have hG:=G.gr.len;have L:(1000000000000:Nat)=Ay:=rfl
 have hw: ∀ n,UD n (a:Int) inn=some (inn.set a false):=λn=>by
  unfold UD dZ Qi lL;rw [zEd ⟨by omega,trivial,⟨rfl,rfl⟩,by grind⟩,zEd (by simp),zEf,zIs,zEd ⟨⟨by omega,by omega⟩,by omega⟩,zEd (by simp),zG4,zCl]
 have k:(inn.set a false).length=g.length:=by rw [zGj];exact w
 have e: ∀ n,O4 n g inn some' (a:Int)=(OL n g [inn,some']).bind λy=>bif (y != 0) then some (false,y) else (parts n g (inn.set a false)).bind λy3=>(HT n g a inn).bind λm=>(Ch (Iw n some' a y3) m (.s0 false 0)).bind λd=>bif d.2==0 then (match d.1 with | .s0 b _=>some (b,0)) else bif d.2==1 then (match d.1 with | .s0 b _=>some (b,0)) else none:=λn=>by
  simp_all [O4,oO,zEl]
 refine At.eq ?_ e
 refine At.bind (uX G (λx hx=>by
  grind) (by simp)) ?_
 show At (R:=Bool×Int) (λn=>(parts n g (inn.set a false)).bind λy3=>(HT n g a inn).bind λm=>(Ch (Iw n some' a y3) m (.s0 false 0)).bind λd=>bif d.2==0 then (match d.1 with | .s0 b _=>some (b,0)) else bif d.2==1 then (match d.1 with | .s0 b _=>some (b,0)) else none) _
 obtain ⟨N,I⟩:=fV G.gr w (s:=(a:Int)) (by omega) (by omega);refine At.bindU (zDl G.gr k) ⟨N,λn J y3 hy=>?_⟩;obtain ⟨l,t,BA,f⟩:=I n J;have t:HT n g (a:Int) inn=some l:=t;have i: ∀ v∈l,0<=v/\ v<(g.length:Int):=λv p=>((f v).1 p).rng G.gr (by omega) (by omega)
 have z: ∀ v∈l,v≠(a:Int) -> (inn.set a false).getD v.toNat false=true:=λv p D=>by
  have j:=i v p;rw [zGR,List.getElem?_set_ne (by omega),←zGR];exact ((f v).1 p).isIn (by rw [zCl];exact o)
 obtain ⟨b,f',c,j,B,K⟩:=oS (n:=n) (some':=some') (a:=(a:Int)) (y3:=y3) H hy.1 l i λv p D=>by
  have j:=i v p;have:=hy.2.1 v.toNat (by omega) (z v p D);omega
 rw [t,zEf,j,zEf];refine ⟨(b,0),?_,rfl,?_⟩
 ·rcases B with rfl | rfl <;> rfl
 ·show b=true↔_
  rw [K]
  have key: ∀ u v:Int,u∈l -> v∈l -> u≠a -> (y3.1.getD v.toNat 0=y3.1.getD u.toNat 0↔Rc g (inn.set a false) u v):=λu v q p D=>by
   have j:=i u q;have B:=i v p;have:=hy.2.2 u.toNat v.toNat (by omega) (by omega) (z u q D)
   grind
  constructor
  ·rintro ⟨u,q,v,p,A,C,E,F,U⟩;exact ⟨u,v,A,C,E,F,(f u).1 q,(f v).1 p,λh=>U ((key u v q p A).2 h)⟩
  ·rintro ⟨u,v,A,C,E,F,U,h9,bX⟩
   grind
end
section
def EZ (c:AD)(pos:Ξ)(a:Nat):Bool:=bits .andNot .i64 (Ac c pos a) c.set==0
def FZ (c:AD)(pos:Ξ)(a:Nat):Bool:=EZ c pos a||(bits .and .i64 (Ac c pos a) c.set != 0)
def cnt (p:Nat -> Bool)(i:Nat):Int:=(((List.range i).countP p:Nat):Int)
variable {i:Nat}{p:Nat -> Bool}
def Qh :cnt p (i+1)=cnt p i+(if p i then 1 else 0):=by
 grind [cnt,List.range_succ]
def cd :0<=cnt p i/\ cnt p i<=i:=by
 grind [cnt,List.length_range]
def Mm (c:AD)(pos:Ξ):Bool:=!decide (cnt (EZ c pos) c.cells.length>c.hi)&&!decide (cnt (FZ c pos) c.cells.length<c.lo)
def JW (c:AD)(pos:Ξ)(a s:Nat):Bool:= ((cnt (EZ c pos) c.cells.length==c.hi)&&(bits .andNot .i64 (Ac c pos a) c.set != 0)&&tb c.set s)||((cnt (FZ c pos) c.cells.length==c.lo)&&(bits .and .i64 (Ac c pos a) c.set != 0)&&!tb c.set s)
section
variable {c:AD} {k:Nat} {pos lost:Ξ} {q:AA}
variable {n:Nat}
def zKk {H K:Int}(W:B7 c k pos)(m:lost.length=pos.length)(e:H=cnt (EZ c pos) c.cells.length)(A:K=cnt (FZ c pos) c.cells.length)(hn:c.cells.length+1<=n):
 ∃ l,KW c q pos pos.length lost n (.l2 H K 0 lost)=some (true,l)/\ CL c pos lost c.cells.length (λa s=>JW c pos a s=true) l:=by
 have G: ∀ i,i<c.cells.length -> ((i:Nat):Int)<((c.cells.length:Nat):Int):=λi hi=>by omega
 have T:=IV (λn (s:Ξ) i=>KW c q pos pos.length lost n (.l2 H K i s)) c.cells.length 1
  (λi s=>CL c pos lost i (λa s=>JW c pos a s=true) s) (λn i s GH hi u=>?_) (n:=n) (s:=lost) (by omega) (CL.zero m)
 ·obtain ⟨d,l,OC,_,z,hL⟩:=T;obtain ⟨v,rfl⟩: ∃ v,d=v+1:=⟨d-1,by omega⟩
  simp_all [cP,KW]
 ·have b:=W.cells i hi;have f:=W.r64 hi
  have key: ∀ l':Ξ,l'.length=pos.length -> (∀ j x,tb (l'.getD j 0) x=(tb (s.getD j 0) x||(decide (j=(c.cells.getD i 0).toNat)&&(tb (pos.getD j 0) x&&JW c pos i x)))) -> CL c pos lost (i+1) (λa s=>JW c pos a s=true) l':=by
   intro l' g o;refine u.step g λj x=>?_
   rw [o,zGz,zFW,zFW,zGe];constructor
   ·rintro (h | ⟨rfl,h⟩)
    ·exact .inl h
    ·exact .inr ⟨rfl,h⟩
   ·rintro (h | ⟨rfl,h⟩)
    ·exact .inl h
    ·exact .inr ⟨rfl,h⟩
  obtain ⟨O,w,p,f1⟩:=MK (lost:=s) (n:=n) (ss:=c.set) (c:=c) (q:=q) b.1 b.2 u.1;obtain ⟨l2,z,n2,f2⟩:=gL (lost:=O) (n:=n) (c:=c) (q:=q) b.1 b.2 p;obtain ⟨l3,Q,d,f3⟩:=gL (lost:=s) (n:=n) (c:=c) (q:=q) b.1 b.2 u.1;have C:decide ((i:Int)<((c.cells.length:Nat):Int))=true:=zEI (G i hi);have r:(0:Int)<=(i:Int)/\ (i:Int)<((c.cells.length:Nat):Int):=⟨by omega,G i hi⟩
  show ∃ s',cP n (KW c q pos pos.length lost n) c q pos pos.length lost H K (i:Int) s=_/\ _
  unfold cP;rw [C,zFi,zEd r];simp only [zCl];have X: ∀ x,JW c pos i x=(((H==c.hi)&&(bits .andNot .i64 (pos.getD (c.cells.getD i 0).toNat 0) c.set != 0)&&tb c.set x)||((K==c.lo)&&(bits .and .i64 (pos.getD (c.cells.getD i 0).toNat 0) c.set != 0)&&!tb c.set x)):=λx=>by rw [e,A];rfl
  cases t:(H==c.hi) <;> cases U:(K==c.lo) <;> cases I:(bits .andNot .i64 (pos.getD (c.cells.getD i 0).toNat 0) c.set != 0) <;> cases F:(bits .and .i64 (pos.getD (c.cells.getD i 0).toNat 0) c.set != 0) <;>
   simp only [t,I,U,F,zI9,zNw,zND,Bool.and_true,Bool.or_false,zMa] at X <;>
   simp only [zFi,zGK,zEd b,w,z,Q,zEf,zEd f.2]
  all_goals first
   | exact ⟨s,rfl,key s u.1 λj x=>by rw [X,zND,zND,Bool.or_false]⟩
   | grind
   | grind
   | grind
def zKl (W:B7 c k pos)(m:lost.length=pos.length)(hn:2*c.cells.length+3<=n):
 ∃ l,Tb n c q pos pos.length lost=some (Mm c pos,l)/\ (Mm c pos=true -> CL c pos lost c.cells.length (λa s=>JW c pos a s=true) l):=by
 have G: ∀ i,i<c.cells.length -> ((i:Nat):Int)<((c.cells.length:Nat):Int):=λi hi=>by omega
 have S:=IV (λn (s:Δ) i=>KW c q pos pos.length lost n (.l1 s.1 s.2 i)) c.cells.length (c.cells.length+3)
  (λi s=>s.1=cnt (EZ c pos) i/\ s.2=cnt (FZ c pos) i) (λn i s _ hi u=>?_) (n:=n) (s:=(0,0)) (by omega) ⟨rfl,rfl⟩
 ·obtain ⟨b,⟨H,K⟩,Hh,_,w,h,A⟩:=S;obtain ⟨e,rfl⟩: ∃ e,b=e+1:=⟨b-1,by omega⟩;have z:Tb n c q pos pos.length lost=XE e (KW c q pos pos.length lost e) c q pos pos.length lost H K (c.cells.length:Int):=w;have h:H=cnt (EZ c pos) c.cells.length:=h;have A:K=cnt (FZ c pos) c.cells.length:=A;unfold XE at z;rw [zEl (by omega),zGK] at z;unfold Mm;rw [←h,←A];cases h5:decide (H>c.hi)
  ·cases h6:decide (K<c.lo)
   ·obtain ⟨l,e3,hL⟩:=zKk (q:=q) (n:=e) W m h A (by omega)
    grind
   grind
  grind
 ·obtain ⟨H,K⟩:=s;obtain ⟨h,A⟩:=u;simp only at h A;have d:=W.cells i hi;have hr:=W.r64 hi;have b3:=cd (p:=EZ c pos) (i:=i);have b4:=cd (p:=FZ c pos) (i:=i);have Aj:=W.len;have r3:AG (H+1):=Ah.2 ⟨by omega,by omega⟩;have r4:AG (K+1):=Ah.2 ⟨by omega,by omega⟩
  show ∃ s',XE n (KW c q pos pos.length lost n) c q pos pos.length lost H K (i:Int)=_/\ _
  unfold XE;rw [zEI (G i hi),zFi];simp only [zCl];rw [zEd ⟨⟨by omega,G i hi⟩,d⟩];have Y:(bits .andNot .i64 (pos.getD (c.cells.getD i 0).toNat 0) c.set==0)=EZ c pos i:=rfl;have E:(EZ c pos i||(bits .and .i64 (pos.getD (c.cells.getD i 0).toNat 0) c.set != 0))=FZ c pos i:=rfl;rw [Y];cases v:EZ c pos i
  ·rw [v,zMa] at E;rw [zGK,E];cases hy:FZ c pos i
   ·simp_all [Qh]
   simp_all [Qh]
  simp_all [Qh]
end
end
abbrev zGk:=@Nat.lt_of_not_le
abbrev zJJ:=@List.mem_filter
def dw (x:Int)(i:Nat):tb (IntKind.i64.wrap x) i=tb x i:=by unfold tb;rw [Vh]
def Ir {s:Nat}(hs:s<64)(i:Nat):tb (IntKind.i64.wrap (1*2 ^ s)) i=decide (s=i):=by
 rw [dw,Int.one_mul]
 grind [yW,Lr]
def Fp {k:Nat}{x:Int}(h:Sm k x)(hk:k<=62){e:Int}:e∈Bj x↔∃ s:Nat,e=(s:Int)/\ s<k/\ tb x s=true:=by
 obtain ⟨m,rfl⟩:=zLp h.1;unfold Bj Fl;simp only [zIS,zJJ,zGX,zCl];constructor
 ·rintro ⟨s,⟨b,c⟩,rfl⟩;have a:tb (m:Int) s=true:=by rw [Kl m s b];exact c
  refine ⟨s,rfl,?_,a⟩;refine zGk λz=>?_
  rw [h.hi z] at a;cases a
 ·rintro ⟨s,rfl,b,c⟩;exact ⟨s,⟨by omega,by grind [Kl]⟩,rfl⟩
def bq {α σ:Type}{f:α -> σ -> Option σ}(Inv:List α -> σ -> Prop): ∀ (l pre:List α) (s:σ),Inv pre s -> (∀ pre x s,x∈l -> Inv pre s -> ∃ a,f x s=some a/\ Inv (pre++[x]) a) -> ∃ a,CO f l s=some a/\ Inv (pre++l) a
 | [],pre,s,h,_=>⟨s,rfl,by rw [zI3];exact h⟩
 | x::l,pre,s,h,k=>by
  obtain ⟨a,h1,b⟩:=k pre x s (.head _) h;obtain ⟨s2,h3,h4⟩:=bq Inv l (pre++[x]) a b λpre y s hy=>k pre y s (.tail _ hy)
  grind [CO]
structure Ec (q:AA)(k:Nat):Prop where
 len:k<=q.values.length
 val: ∀ s,s<k -> 0<=q.values.getD s 0/\ q.values.getD s 0<=99
def LJ (q:AA)(a e:Int):Int:=if q.values.getD e.toNat 0<a then q.values.getD e.toNat 0 else a
def LT (q:AA)(a e:Int):Int:=if q.values.getD e.toNat 0>a then q.values.getD e.toNat 0 else a
def FI (q:AA)(x:Int):Int:=(Bj x).foldl (LJ q) 100
def FK (q:AA)(x:Int):Int:=(Bj x).foldl (LT q) (-1)
section
variable {c:AD} {k:Nat} {pos lost:Ξ} {q:AA}
def sQ: ∀ (l:Ξ) (a:Int),(∀ e∈l,0<=q.values.getD e.toNat 0/\ q.values.getD e.toNat 0<=99) -> 0<=a/\ a<=100 -> 0<=l.foldl (LJ q) a/\ l.foldl (LJ q) a<=100
 | [],_,_,h=>h
 | e::l,a,p,h=>by
  have:=p e (.head _);refine sQ l (LJ q a e) (λe I=>p e (.tail _ I)) ?_;unfold LJ;split <;> omega
def tm: ∀ (l:Ξ) (a:Int),(∀ e∈l,0<=q.values.getD e.toNat 0/\ q.values.getD e.toNat 0<=99) -> -1<=a/\ a<=99 -> -1<=l.foldl (LT q) a/\ l.foldl (LT q) a<=99
 | [],_,_,h=>h
 | e::l,a,p,h=>by
  have:=p e (.head _);refine tm l (LT q a e) (λe I=>p e (.tail _ I)) ?_;unfold LT;split <;> omega
variable {x:Int}
def Ec.sym (V:Ec q k)(hk:k<=16)(h:Sm k x): ∀ e∈Bj x,(0<=e/\ e<((q.values.length:Nat):Int))/\ 0<=q.values.getD e.toNat 0/\ q.values.getD e.toNat 0<=99:=by
 intro e I;obtain ⟨s,rfl,a,_⟩:=(Fp h (zGU hk (by decide))).1 I;have:=V.len;rw [zCl];exact ⟨by omega,V.val s a⟩
def Ec.lo (V:Ec q k)(hk:k<=16)(h:Sm k x):0<=FI q x/\ FI q x<=100:=sQ _ _ (λe I=>(V.sym hk h e I).2) (by decide)
def Ec.hi (V:Ec q k)(hk:k<=16)(h:Sm k x): -1<=FK q x/\ FK q x<=99:=tm _ _ (λe I=>(V.sym hk h e I).2) (by decide)
variable {n ln:Nat}
def vH : ∀ (l:Ξ) (a b:Int),(∀ e∈l,0<=e/\ e<((q.values.length:Nat):Int)) -> CO (Ww n c q pos ln lost) l (.s0 a b)=some (.s0 (l.foldl (LJ q) a) (l.foldl (LT q) b))
 | [],_,_,_=>rfl
 | e::l,a,b,h=>by
  have w:Ww n c q pos ln lost e (.s0 a b)=some (.s0 (LJ q a e) (LT q b e)):=by
   unfold Ww vJ vK
   dsimp only
   rw [zEd (h e (.head _))];rfl
  simp only [CO];rw [w,zEf,vH l _ _ λe I=>h e (.tail _ I)];rfl
def vG (V:Ec q k)(hk:k<=16)(h:Sm k x):Wx n x c q pos ln lost=some (FI q x,FK q x,lost):=by
 have kP:=Nf (k:=k) (zGU hk (by decide));have h2:=h.2;unfold Wx vI;rw [zEd ⟨h.1,by omega⟩,vH (Bj x) 100 (-1) λe I=>(V.sym hk h e I).1];rfl
def Cj (f:Nat -> Int):Nat -> Int
 | 0=>0
 | i+1=>Cj f i+f i
def RM {f:Nat -> Int}: ∀ (i:Nat),(∀ a,a<i -> -1<=f a/\ f a<=100) -> -(i:Int)<=Cj f i/\ Cj f i<=100*(i:Int)
 | 0,_=>by simp [Cj]
 | i+1,h=>by
  have h1:=RM i λa ha=>h a (by omega)
  grind [Cj]
def LH (q:AA)(c:AD)(pos:Ξ):Int:=Cj (λa=>FI q (Ac c pos a)) c.cells.length
def LS (q:AA)(c:AD)(pos:Ξ):Int:=Cj (λa=>FK q (Ac c pos a)) c.cells.length
def Lv (q:AA)(c:AD)(pos:Ξ):Bool:=!decide (LH q c pos>c.hi)&&!decide (LS q c pos<c.lo)
def Iu (q:AA)(c:AD)(pos:Ξ)(a s:Nat):Bool:= decide (LH q c pos-FI q (Ac c pos a)+q.values.getD s 0>c.hi)||decide (LS q c pos-FK q (Ac c pos a)+q.values.getD s 0<c.lo)
variable {i:Nat}
def sM {T:Type}(W:B7 c k pos)(hi:i<c.cells.length)(p:lost.length=pos.length)(a:Ξ -> T)(f:Int -> T -> Option T)(X:Nat -> Bool) 
 (M: ∀ (s:Nat) (l:Ξ),s<k -> l.length=pos.length -> f (s:Int) (a l)=bif X s then (D7 n (c.cells.getD i 0) (IntKind.i64.wrap (1*2 ^ s)) c q pos pos.length l).map a else some (a l)):
 ∃ l',CO f (Bj (Ac c pos i)) (a lost)=some (a l')/\ l'.length=pos.length/\
  ∀ j s,tb (l'.getD j 0) s=true↔tb (lost.getD j 0) s=true∨((c.cells.getD i 0).toNat=j/\ tb (Ac c pos i) s=true/\ X s=true):=by
 have o:=W.cells i hi;have d:=W.at hi;have hk:=W.k
 have key:=bq (f:=f)
  (λpre s=>∃ l',s=a l'/\ l'.length=pos.length/\ ∀ j s,tb (l'.getD j 0) s=true↔tb (lost.getD j 0) s=true∨((c.cells.getD i 0).toNat=j/\ tb (Ac c pos i) s=true/\ (s:Int)∈pre/\ X s=true))
  (Bj (Ac c pos i)) [] (a lost) ⟨lost,rfl,p,λj s=>⟨.inl,λh=>h.elim id λh=>(by cases h.2.2.1)⟩⟩ ?_
 ·obtain ⟨_,r,l',rfl,b,m⟩:=key;refine ⟨l',r,b,λj s=>?_⟩;rw [m,zIs];constructor
  ·grind
  ·rintro (h | ⟨U,g,a3⟩)
   ·exact .inl h
   ·refine .inr ⟨U,g,(Fp d (zGU hk (by decide))).2 ⟨s,rfl,zGk λz=>?_,g⟩,a3⟩;rw [d.hi z] at g;cases g
 ·rintro pre e _ I ⟨l',rfl,b,m⟩;obtain ⟨s,rfl,t,hbit⟩:=(Fp d (zGU hk (by decide))).1 I;rw [M s l' t b];cases hx:X s
  ·grind
  ·obtain ⟨F,u,v,w⟩:=MK (lost:=l') (n:=n) (ss:=IntKind.i64.wrap (1*2 ^ s)) (c:=c) (q:=q) o.1 o.2 b;rw [zFi,u,zIO];refine ⟨_,rfl,F,rfl,v,λj x=>?_⟩;rw [w,zGz,zFW,zFW,zGe,m,Ir (by omega),zGe];constructor
   ·grind
   ·rintro (h | ⟨U,g,a3,a4⟩)
    ·exact .inl (.inl h)
    ·rcases zIQ.1 a3 with a3 | a3
     ·exact .inl (.inr ⟨U,g,a3,a4⟩)
     ·have:x=s:=by have:=zGu.1 a3;omega
      subst this;subst U;exact .inr ⟨rfl,g,rfl⟩
def yp (W:B7 c k pos)(V:Ec q k)(hi:i<c.cells.length){low high:Int}(I:low=LH q c pos)(b:high=LS q c pos)(m:lost.length=pos.length):
 ∃ l',CO (YB n c (i:Int) q pos pos.length low high (FI q (Ac c pos i),FK q (Ac c pos i),lost)) (Bj (Ac c pos i)) (.s0 lost)=some (.s0 l')/\ l'.length=pos.length/\
  ∀ j s,tb (l'.getD j 0) s=true↔tb (lost.getD j 0) s=true∨((c.cells.getD i 0).toNat=j/\ tb (Ac c pos i) s=true/\ Iu q c pos i s=true):=by
 have d:=W.cells i hi;have e:=W.at hi;have hk:=W.k;have Aj:=W.len;have bl:=V.lo hk e;have bh:=V.hi hk e;have E:=RM (f:=λa=>FI q (Ac c pos a)) c.cells.length λa D=>by have:=V.lo hk (W.at D);omega
 have F:=RM (f:=λa=>FK q (Ac c pos a)) c.cells.length λa D=>by have:=V.hi hk (W.at D);omega
 have E: -(c.cells.length:Int)<=low/\ low<=100*(c.cells.length:Int):=by rw [I];exact E
 have F: -(c.cells.length:Int)<=high/\ high<=100*(c.cells.length:Int):=by rw [b];exact F
 refine sM (n:=n) (q:=q) W hi m Lu.s0 _ (Iu q c pos i) λs l g m=>?_
 have hv:=V.val s g;have G5:=V.len;have r1:AG (low-FI q (Ac c pos i)):=Ah.2 ⟨by omega,by omega⟩;have r2:AG (low-FI q (Ac c pos i)+q.values.getD s 0):=Ah.2 ⟨by omega,by omega⟩;have r3:AG (high-FK q (Ac c pos i)):=Ah.2 ⟨by omega,by omega⟩;have r4:AG (high-FK q (Ac c pos i)+q.values.getD s 0):=Ah.2 ⟨by omega,by omega⟩;have g1:(0:Int)<=(s:Int)/\ (s:Int)<((q.values.length:Nat):Int):=by omega
 have g2:(0:Int)<=(s:Int)/\ (s:Int)<=((IntKind.i64.bits:Nat):Int):=⟨by omega,by show (s:Int)<=64;omega⟩;obtain ⟨l2,e2,_,_⟩:=MK (lost:=l) (n:=n) (ss:=IntKind.i64.wrap (1*2 ^ s)) (c:=c) (q:=q) d.1 d.2 m;have X:Iu q c pos i s=(decide (low-FI q (Ac c pos i)+q.values.getD s 0>c.hi)||decide (high-FK q (Ac c pos i)+q.values.getD s 0<c.lo)):=by rw [I,b];rfl
 rw [X];unfold YB oE YA
 grind
def ym (W:B7 c k pos)(V:Ec q k)(m:lost.length=pos.length)(hn:c.cells.length+1<=n):
 ∃ l,Jk c q pos pos.length lost n (.l2 0 lost (LH q c pos) (LS q c pos))=some (true,l)/\ CL c pos lost c.cells.length (λa s=>Iu q c pos a s=true) l:=by
 have G: ∀ i,i<c.cells.length -> ((i:Nat):Int)<((c.cells.length:Nat):Int):=λi hi=>by omega
 have T:=IV (λn (s:Ξ) i=>Jk c q pos pos.length lost n (.l2 i s (LH q c pos) (LS q c pos))) c.cells.length 1
  (λi s=>CL c pos lost i (λa s=>Iu q c pos a s=true) s) (λn i s GH hi u=>?_) (n:=n) (s:=lost) (by omega) (CL.zero m)
 ·obtain ⟨b,l,OC,_,e2,hL⟩:=T;obtain ⟨v,rfl⟩: ∃ v,b=v+1:=⟨b-1,by omega⟩
  simp_all [X9,Jk]
 ·have d:=W.cells i hi;have hr:=W.r64 hi;have j:=W.at hi;have kP:=Nf (k:=k) (zGU W.k (by decide));have Ga:=j.2;obtain ⟨l',e1,p,w⟩:=yp (n:=n) W V hi rfl rfl u.1
  show ∃ s',X9 n (Jk c q pos pos.length lost n) c q pos pos.length lost (i:Int) s _ _=_/\ _
  unfold X9;rw [zEI (G i hi),zFi];simp only [zCl];have r:pos.getD (c.cells.getD i 0).toNat 0=Ac c pos i:=rfl;rw [zEd ⟨⟨by omega,G i hi⟩,d⟩,r,vG V W.k j,zEf,zEd ⟨j.1,by show Ac c pos i<_;omega⟩];refine ⟨l',?_,u.step p w⟩
  grind
def yn (W:B7 c k pos)(V:Ec q k)(m:lost.length=pos.length)(hn:2*c.cells.length+3<=n):
 ∃ l,RR n c q pos pos.length lost=some (Lv q c pos,l)/\ (Lv q c pos=true -> CL c pos lost c.cells.length (λa s=>Iu q c pos a s=true) l):=by
 have G: ∀ i,i<c.cells.length -> ((i:Nat):Int)<((c.cells.length:Nat):Int):=λi hi=>by omega
 have S:=IV (λn (s:Ξ×Δ) i=>Jk c q pos pos.length lost n (.l1 i s.1 s.2.1 s.2.2)) c.cells.length (c.cells.length+3)
  (λi s=>s.1=lost/\ s.2.1=Cj (λa=>FI q (Ac c pos a)) i/\ s.2.2=Cj (λa=>FK q (Ac c pos a)) i) (λn i s _ hi u=>?_) (n:=n) (s:=(lost,0,0)) (by omega) ⟨rfl,rfl,rfl⟩
 ·obtain ⟨p,⟨l0,H,K⟩,Hh,_,w,h0,h,A⟩:=S;obtain ⟨e,rfl⟩: ∃ e,p=e+1:=⟨p-1,by omega⟩;obtain rfl:l0=lost:=h0;obtain rfl:H=LH q c pos:=h;obtain rfl:K=LS q c pos:=A;have z:RR n c q pos pos.length l0=UO e (Jk c q pos pos.length l0 e) c q pos pos.length l0 (c.cells.length:Int) l0 (LH q c pos) (LS q c pos):=w;unfold UO at z;rw [zEl (by omega),zGK] at z;unfold Lv;cases h5:decide (LH q c pos>c.hi)
  ·cases h6:decide (LS q c pos<c.lo)
   ·obtain ⟨l,e3,hL⟩:=ym (n:=e) W V m (by omega)
    grind
   grind
  grind
 ·obtain ⟨l0,H,K⟩:=s;obtain ⟨h0,h,A⟩:=u;simp only at h0 h A;have b:=W.cells i hi;have d:=W.r64 hi;have j:=W.at hi;have g:=RM (f:=λa=>FI q (Ac c pos a)) i λa D=>by have:=V.lo W.k (W.at (Nat.lt_trans D hi));omega
  have o:=RM (f:=λa=>FK q (Ac c pos a)) i λa D=>by have:=V.hi W.k (W.at (Nat.lt_trans D hi));omega
  have bl:=V.lo W.k j;have bh:=V.hi W.k j;have Aj:=W.len;rw [←h] at g;rw [←A] at o;have r:AG (H+FI q (Ac c pos i)):=Ah.2 ⟨by omega,by omega⟩;have t:AG (K+FK q (Ac c pos i)):=Ah.2 ⟨by omega,by omega⟩
  show ∃ s',UO n (Jk c q pos pos.length lost n) c q pos pos.length lost (i:Int) l0 H K=_/\ _
  unfold UO;rw [zEI (G i hi),zFi];simp only [zCl];have v:pos.getD (c.cells.getD i 0).toNat 0=Ac c pos i:=rfl;rw [zEd ⟨⟨by omega,G i hi⟩,b⟩,v,vG V W.k j,zEf,zEd ⟨r,t,d.2⟩];exact ⟨(l0,H+FI q (Ac c pos i),K+FK q (Ac c pos i)),rfl,h0,by simp only [Cj];rw [h],by simp only [Cj];rw [A]⟩
end
section
set_option maxRecDepth 100000
set_option maxHeartbeats 40000000
def nt:ST:=.rd 0 (.rd 1 (.rd 3 (.rd 4 (.ef 2 (.ef 5 (.ef 6 (.ef 7 (.ef 8 (.ef 9 (.fin [0,1,2,3] [1,3,4,5,58,91,92,104,148]) (.no)) (.no)) (.no)) (.ef 7 (.ef 6 (.ef 8 (.ef 9 (.fin [0,1,3,2] [1,3,4,5,58,91,92,104,148]) (.no)) (.no)) (.no)) (.no))) (.ef 6 (.ef 5 (.ef 7 (.ef 8 (.ef 9 (.fin [0,2,1,3] [1,3,4,5,58,91,92,104,148]) (.no)) (.no)) (.no)) (.ef 7 (.ef 5 (.ef 8 (.ef 9 (.fin [0,3,1,2] [1,3,4,5,58,91,92,104,148]) (.no)) (.no)) (.ef 8 (.ef 5 (.ef 9 (.fin [0,3,1,2] [1,3,4,5,58,91,92,104,148]) (.no)) (.no)) (.no))) (.no))) (.ef 7 (.ef 5 (.ef 6 (.ef 8 (.ef 9 (.fin [0,2,3,1] [1,3,4,5,58,91,92,104,148]) (.no)) (.no)) (.no)) (.ef 6 (.ef 5 (.ef 8 (.ef 9 (.fin [0,3,2,1] [1,3,4,5,58,91,92,104,148]) (.no)) (.no)) (.ef 8 (.ef 5 (.ef 9 (.fin [0,3,2,1] [1,3,4,5,58,91,92,104,148]) (.no)) (.no)) (.no))) (.no))) (.no)))) (.ef 5 (.ef 2 (.ef 6 (.ef 7 (.ef 8 (.ef 9 (.fin [1,0,2,3] [1,3,4,5,58,91,92,104,148]) (.no)) (.no)) (.no)) (.ef 7 (.ef 6 (.ef 8 (.ef 9 (.fin [1,0,3,2] [1,3,4,5,58,91,92,104,148]) (.no)) (.no)) (.no)) (.no))) (.ef 6 (.ef 2 (.ef 7 (.ef 8 (.ef 9 (.fin [2,0,1,3] [1,3,4,5,58,91,92,104,148]) (.no)) (.no)) (.no)) (.ef 7 (.ef 2 (.ef 8 (.ef 9 (.fin [3,0,1,2] [1,3,4,5,58,91,92,104,148]) (.no)) (.no)) (.no)) (.no))) (.ef 7 (.ef 2 (.ef 6 (.ef 8 (.ef 9 (.fin [2,0,3,1] [1,3,4,5,58,91,92,104,148]) (.no)) (.no)) (.no)) (.ef 6 (.ef 2 (.ef 8 (.ef 9 (.fin [3,0,2,1] [1,3,4,5,58,91,92,104,148]) (.no)) (.no)) (.no)) (.no))) (.no)))) (.ef 6 (.ef 2 (.ef 5 (.ef 7 (.ef 8 (.ef 9 (.fin [1,2,0,3] [1,3,4,5,58,91,92,104,148]) (.no)) (.no)) (.no)) (.ef 7 (.ef 5 (.ef 8 (.ef 9 (.fin [1,3,0,2] [1,3,4,5,58,91,92,104,148]) (.no)) (.no)) (.ef 8 (.ef 5 (.ef 9 (.fin [1,3,0,2] [1,3,4,5,58,91,92,104,148]) (.no)) (.no)) (.no))) (.no))) (.ef 5 (.ef 2 (.ef 7 (.ef 8 (.ef 9 (.fin [2,1,0,3] [1,3,4,5,58,91,92,104,148]) (.no)) (.no)) (.no)) (.ef 7 (.ef 2 (.ef 8 (.ef 9 (.fin [3,1,0,2] [1,3,4,5,58,91,92,104,148]) (.no)) (.no)) (.no)) (.no))) (.ef 7 (.ef 2 (.ef 5 (.ef 8 (.ef 9 (.fin [2,3,0,1] [1,3,4,5,58,91,92,104,148]) (.no)) (.no)) (.ef 8 (.ef 5 (.ef 9 (.fin [2,3,0,1] [1,3,4,5,58,91,92,104,148]) (.no)) (.no)) (.no))) (.ef 5 (.ef 2 (.ef 8 (.ef 9 (.fin [3,2,0,1] [1,3,4,5,58,91,92,104,148]) (.no)) (.no)) (.no)) (.no))) (.no)))) (.ef 7 (.ef 2 (.ef 5 (.ef 6 (.ef 8 (.ef 9 (.fin [1,2,3,0] [1,3,4,5,58,91,92,104,148]) (.no)) (.no)) (.no)) (.ef 6 (.ef 5 (.ef 8 (.ef 9 (.fin [1,3,2,0] [1,3,4,5,58,91,92,104,148]) (.no)) (.no)) (.ef 8 (.ef 5 (.ef 9 (.fin [1,3,2,0] [1,3,4,5,58,91,92,104,148]) (.no)) (.no)) (.no))) (.no))) (.ef 5 (.ef 2 (.ef 6 (.ef 8 (.ef 9 (.fin [2,1,3,0] [1,3,4,5,58,91,92,104,148]) (.no)) (.no)) (.no)) (.ef 6 (.ef 2 (.ef 8 (.ef 9 (.fin [3,1,2,0] [1,3,4,5,58,91,92,104,148]) (.no)) (.no)) (.no)) (.no))) (.ef 6 (.ef 2 (.ef 5 (.ef 8 (.ef 9 (.fin [2,3,1,0] [1,3,4,5,58,91,92,104,148]) (.no)) (.no)) (.ef 8 (.ef 5 (.ef 9 (.fin [2,3,1,0] [1,3,4,5,58,91,92,104,148]) (.no)) (.no)) (.no))) (.ef 5 (.ef 2 (.ef 8 (.ef 9 (.fin [3,2,1,0] [1,3,4,5,58,91,92,104,148]) (.no)) (.no)) (.no)) (.no))) (.no)))) (.no))))))))
def zAv:B3 (A9 Tryz.f109 2) [2,5,6,7,8] nt:=by unfold B3;kernel_rfl
def ns:ST:=.rd 0 (.rd 1 (.rd 2 (.rd 3 (.ef 4 (.rd 5 (.ef 6 (.fin [] [1,4,5,58,91,92,104,148]) (.no))) (.no)))))
def zAs:B3 (A9 Tryz.f109 3) [4] ns:=by unfold B3;kernel_rfl
def zAw:Au (A9 Tryz.f109 12) [] (List.range 11) [11]:=by unfold Au;kernel_rfl
def zAu:Au (A9 Tryz.f109 22) [] (List.range 9) [9]:=by unfold Au;kernel_rfl
def zAt:Au (A9 Tryz.f109 26) [([0,1,2,3,4,5,6],7)] [] []:=by unfold Au;kernel_rfl
def nr:ST:=.rd 0 (.rd 1 (.rd 2 (.rd 3 (.ef 4 (.fin [] [2]) (.no)))))
def pO:B3 (A9 Tryz.f109 30) [] nr:=by unfold B3;kernel_rfl
def FD:BX:=λi=>match i with
 | 2=>.tre [2,5,6,7,8] nt
 | 3=>.tre [4] ns
 | 12=>.ord [] (List.range 11) [11]
 | 22=>.ord [] (List.range 9) [9]
 | 26=>.ord [([0,1,2,3,4,5,6],7)] [] []
 | 30=>.tre [] nr
 | _=>.no
def C7 (c:AD)(q:AA)(pos:Ξ)(ln:Nat)(lost:Ξ):St:=⟨(AF 178 [(1,.ref 2 0),(3,.i (c.cells.length:Int)),(4,.ref 5 0),(5,.ref 6 0)]),([oW c q pos 1 ln,oI lost,oC [.ref 0 0],oI (List.replicate ((((c.cells.length:Int)+1)).toNat) (0:Int)),oI (List.replicate ((((c.cells.length:Int)+1)).toNat) (0:Int)),oC [.msl 3 1 0 ((((c.cells.length:Int)+1)).toNat)],oC [.msl 4 1 0 ((((c.cells.length:Int)+1)).toNat)]]:DH)⟩
def nQ (c:AD)(q:AA)(pos:Ξ)(ln:Nat)(lost:Ξ):St:=⟨(AF 178 [(1,.ref 2 0),(4,.ref 5 0),(5,.ref 6 0)]),([oW c q pos 1 ln,oI lost,oC [.ref 0 0],oI ((List.replicate ((((c.cells.length:Int)+1)).toNat) (0:Int)).set (0+0) (-1)),oI ((List.replicate ((((c.cells.length:Int)+1)).toNat) (0:Int)).set (0+c.cells.length) 100),oC [.msl 3 1 0 ((((c.cells.length:Int)+1)).toNat)],oC [.msl 4 1 0 ((((c.cells.length:Int)+1)).toNat)]]:DH)⟩
def zHi (c:AD)(q:AA)(pos:Ξ)(ln:Nat)(lost o4:Ξ)(A:Int):DH:=[oW c q pos 1 ln,oI lost,oC [.ref 0 0],oC [.msl 4 1 0 ((((c.cells.length:Int)+1)).toNat)],oI (o4.set (0+(((A+1)).toNat)) 100),oC [.msl 6 1 0 ((((c.cells.length:Int)+1)).toNat)],oI ((List.replicate ((((c.cells.length:Int)+1)).toNat) (0:Int)).set (0+c.cells.length) 100),oC [.i A]]
def zHh (c:AD)(q:AA)(pos:Ξ)(ln:Nat)(lost:Ξ)(A:Int)(o4:Ξ):DH:=[oW c q pos 1 ln,oI lost,oC [.ref 0 0],oC [.msl 7 1 0 ((((c.cells.length:Int)+1)).toNat)],oC [.msl 8 1 0 ((((c.cells.length:Int)+1)).toNat)],oC [.i A],some (.iter ((Bj (pos.getD ((c.cells.getD A.toNat 0).toNat) 0)).map Bw)),oI (o4.set (0+(((A+1)).toNat)) 100),oI ((List.replicate ((((c.cells.length:Int)+1)).toNat) (0:Int)).set (0+c.cells.length) 100)]
def zHg (c:AD)(q:AA)(pos:Ξ)(ln:Nat)(lost o4:Ξ):DH:=[oW c q pos 1 ln,oI lost,oC [.ref 0 0],oC [.msl 4 1 0 ((((c.cells.length:Int)+1)).toNat)],oI o4,oC [.msl 6 1 0 ((((c.cells.length:Int)+1)).toNat)],oI ((List.replicate ((((c.cells.length:Int)+1)).toNat) (0:Int)).set (0+c.cells.length) 100)]
def zHf (c:AD)(q:AA)(pos:Ξ)(ln:Nat)(lost:Ξ)(j:List (Δ))(o4:Ξ):DH:=[oW c q pos 1 ln,oI lost,oC [.ref 0 0],oC [.msl 6 1 0 ((((c.cells.length:Int)+1)).toNat)],oC [.msl 7 1 0 ((((c.cells.length:Int)+1)).toNat)],some (.iter ((j).map Qe)),oI o4,oI ((List.replicate ((((c.cells.length:Int)+1)).toNat) (0:Int)).set (0+c.cells.length) 100)]
def zHe (c:AD)(q:AA)(pos:Ξ)(ln:Nat)(o1 o4 d:Ξ)(g:Int):DH:=[oW c q pos 1 ln,oI o1,oC [.ref 0 0],oC [.msl 4 1 0 ((((c.cells.length:Int)+1)).toNat)],oI o4,oC [.msl 6 1 0 ((((c.cells.length:Int)+1)).toNat)],oI d,oC [.i g],oC [.i (c.cells.getD g.toNat 0)]]
def zHd (c:AD)(q:AA)(pos:Ξ)(ln:Nat)(o1:Ξ)(g:Int)(o4 d:Ξ):DH:=[oW c q pos 1 ln,oI o1,oC [.ref 0 0],oC [.msl 8 1 0 ((((c.cells.length:Int)+1)).toNat)],oC [.msl 9 1 0 ((((c.cells.length:Int)+1)).toNat)],oC [.i g],oC [.i (c.cells.getD g.toNat 0)],some (.iter ((Bj (pos.getD ((c.cells.getD g.toNat 0).toNat) 0)).map Bw)),oI o4,oI d]
def zHc (c:AD)(q:AA)(pos:Ξ)(ln:Nat)(lost:Ξ)(A:Int)(m:Ξ):DH:=[oW c q pos 1 ln,oI lost,oC [.ref 0 0],oC [.msl 7 1 0 ((((c.cells.length:Int)+1)).toNat)],oC [.msl 8 1 0 ((((c.cells.length:Int)+1)).toNat)],oC [.i A],none,oI m,oI ((List.replicate ((((c.cells.length:Int)+1)).toNat) (0:Int)).set (0+c.cells.length) 100)]
def zHb (c:AD)(q:AA)(pos:Ξ)(ln:Nat)(lost o4 W:Ξ)(B:Δ):DH:=[oW c q pos 1 ln,oI lost,oC [.ref 0 0],oC [.msl 6 1 0 ((((c.cells.length:Int)+1)).toNat)],oC [.msl 7 1 0 ((((c.cells.length:Int)+1)).toNat)],none,oI o4,oI W,oC [.i B.1]]
def zHl (c:AD)(q:AA)(pos:Ξ)(ln:Nat)(lost o4 W:Ξ)(B:Δ):DH:=[oW c q pos 1 ln,oI lost,oC [.ref 0 0],oC [.msl 6 1 0 ((((c.cells.length:Int)+1)).toNat)],oC [.msl 7 1 0 ((((c.cells.length:Int)+1)).toNat)],none,oI o4,oI (W.set (0+((B.1).toNat)) (-1)),oC [.i B.1]]
def zHk (c:AD)(q:AA)(pos:Ξ)(ln:Nat)(lost:Ξ)(B:Δ)(o4 W:Ξ):DH:=[oW c q pos 1 ln,oI lost,oC [.ref 0 0],oC [.msl 8 1 0 ((((c.cells.length:Int)+1)).toNat)],oC [.msl 9 1 0 ((((c.cells.length:Int)+1)).toNat)],none,oC [.i B.1],some (.iter ((Bj (pos.getD ((B.2).toNat) 0)).map Bw)),oI o4,oI (W.set (0+((B.1).toNat)) (-1))]
def jR (c:AD)(q:AA)(pos:Ξ)(ln:Nat)(Q:Ξ)(g:Int)(o4 d:Ξ):DH:=[oW c q pos 1 ln,oI Q,oC [.ref 0 0],oC [.msl 8 1 0 ((((c.cells.length:Int)+1)).toNat)],oC [.msl 9 1 0 ((((c.cells.length:Int)+1)).toNat)],oC [.i g],oC [.i (c.cells.getD g.toNat 0)],none,oI o4,oI d]
def X2 (c:AD)(q:AA)(pos:Ξ)(ln:Nat)(u:Ξ)(g:Int)(o4 d:Ξ):St:=⟨(AF 178 []),([oW c q pos 1 ln,oI u,oC [.ref 0 0],oC [.msl 8 1 0 ((((c.cells.length:Int)+1)).toNat)],oC [.msl 9 1 0 ((((c.cells.length:Int)+1)).toNat)],oC [.i g],oC [.i (c.cells.getD g.toNat 0)],none,oI o4,oI d]:DH)⟩
def zHj (c:AD)(q:AA)(pos:Ξ)(ln:Nat)(lost:Ξ)(B:Δ)(o4 n:Ξ):DH:=[oW c q pos 1 ln,oI lost,oC [.ref 0 0],oC [.msl 8 1 0 ((((c.cells.length:Int)+1)).toNat)],oC [.msl 9 1 0 ((((c.cells.length:Int)+1)).toNat)],none,oC [.i B.1],none,oI o4,oI n]
inductive NN where
 | s0 (GW:Ξ)
def qF (c:AD)(q:AA)(pos:Ξ)(ln:Nat)(lost:Ξ)(B:Δ)(o4:Ξ):NN -> DH
 | .s0 n=>[oW c q pos 1 ln,oI lost,oC [.ref 0 0],oC [.msl 8 1 0 ((((c.cells.length:Int)+1)).toNat)],oC [.msl 9 1 0 ((((c.cells.length:Int)+1)).toNat)],none,oC [.i B.1],none,oI o4,oI n]
def Y5 (n:Nat)(c:AD)(q:AA)(pos:Ξ)(ln:Nat)(lost:Ξ)(B:Δ)(o4:Ξ)(R:Int)(a:Ξ):Option NN:= if (0<=R/\ R<(q.values.length:Int))/\ AG (B.1+1)/\ (0<=(B.1+1)/\ (B.1+1)<(((((c.cells.length:Int)+1)).toNat:Nat):Int))/\ 0+(((B.1+1)).toNat)<a.length then bif (decide ((q.values.getD R.toNat 0)<(a.getD (0+(((B.1+1)).toNat)) 0))) then if (0<=B.1/\ B.1<(((((c.cells.length:Int)+1)).toNat:Nat):Int))/\ 0+((B.1).toNat)<a.length then some (.s0 (a.set (0+((B.1).toNat)) (if (q.values.getD R.toNat 0)>(a.getD (0+((B.1).toNat)) 0) then (q.values.getD R.toNat 0) else (a.getD (0+((B.1).toNat)) 0)))) else none else some (.s0 a) else none
def qE (n:Nat)(c:AD)(q:AA)(pos:Ξ)(ln:Nat)(lost:Ξ)(B:Δ)(o4:Ξ)(R:Int):NN -> Option NN
 | .s0 a=>Y5 n c q pos ln lost B o4 R a
def U9 (n:Nat)(c:AD)(q:AA)(pos:Ξ)(ln:Nat)(lost:Ξ)(B:Δ)(o4:Ξ)(R:Int)(s:NN):Option NN:=qE n c q pos ln lost B o4 R s
def zCW (n:Nat)(c:AD)(q:AA)(pos:Ξ)(ln:Nat)(lost:Ξ)(a:Δ)(o4:Ξ)(l B:Nat)(N:Yd 8)(R:Int)(s:NN)(r:NN)(h:U9 n c q pos ln lost a o4 R s=some r):TA l B N (C0 8 [] 0 (qF c q pos ln lost a o4 r)) Tryz.f109 103 ⟨AF 178 [(1,.ref 2 0),(5,.ref 4 0),(10,.ref 6 0),(103,.it 7),(104,.i R)],qF c q pos ln lost a o4 s⟩:=by
 cases s with
 | s0 b=>
  replace h:Y5 n c q pos ln lost a o4 R b=some r:=h;unfold Y5 at h;refine ag FD [0,1,2,3,4,5,6,7,8,9] H0 (AF 178 [(1,.ref 2 0),(5,.ref 4 0),(10,.ref 6 0),(12,.i R)]) (zHj c q pos ln lost a o4 b) λN=>?_
  revert r;apply gO;exact gc (gi (gc (gw 116 (gc (gi (gi (bi 119 (jg zAu (gc (gn λG=>jg G (gn λH=>jg H (jg G (jg H (lF λp=>rr FD [0,1,2,3,4,5,6,7,8,9] rfl p))))))) (lF λp=>rr FD [0,1,2,3,4,5,6,7,8,9] rfl p))))))))
inductive L3 where
 | s0 (Hb:Ξ)
def qK (c:AD)(g:Int)(q:AA)(pos:Ξ)(ln:Nat)(o4 d:Ξ):L3 -> DH
 | .s0 Q=>[oW c q pos 1 ln,oI Q,oC [.ref 0 0],oC [.msl 8 1 0 ((((c.cells.length:Int)+1)).toNat)],oC [.msl 9 1 0 ((((c.cells.length:Int)+1)).toNat)],oC [.i g],oC [.i (c.cells.getD g.toNat 0)],none,oI o4,oI d]
def Y7 (n:Nat)(c:AD)(g:Int)(q:AA)(pos:Ξ)(ln:Nat)(o4 d:Ξ)(x:Int)(Q:Ξ):Option L3:= if (0<=x/\ x<(q.values.length:Int))/\ (0<=g/\ g<(((((c.cells.length:Int)+1)).toNat:Nat):Int))/\ 0+g.toNat<o4.length then bif (decide ((q.values.getD x.toNat 0)<=(o4.getD (0+g.toNat) 0))) then if 0<=x/\ x<=(IntKind.i64.bits:Int) then (D7 n (c.cells.getD g.toNat 0) (IntKind.i64.wrap (1*2 ^ (x).toNat)) c q pos ln Q).bind λu=> some (.s0 u) else none else if AG (g+1)/\ (0<=(g+1)/\ (g+1)<(((((c.cells.length:Int)+1)).toNat:Nat):Int))/\ 0+(((g+1)).toNat)<d.length then bif (decide ((q.values.getD x.toNat 0)>=(d.getD (0+(((g+1)).toNat)) 0))) then if 0<=x/\ x<=(IntKind.i64.bits:Int) then (D7 n (c.cells.getD g.toNat 0) (IntKind.i64.wrap (1*2 ^ (x).toNat)) c q pos ln Q).bind λu=> some (.s0 u) else none else some (.s0 Q) else none else none
def qJ (n:Nat)(c:AD)(g:Int)(q:AA)(pos:Ξ)(ln:Nat)(o4 d:Ξ)(x:Int):L3 -> Option L3
 | .s0 Q=>Y7 n c g q pos ln o4 d x Q
def Y8 (n:Nat)(c:AD)(g:Int)(q:AA)(pos:Ξ)(ln:Nat)(o4 d:Ξ)(x:Int)(s:L3):Option L3:=qJ n c g q pos ln o4 d x s
def zCY (n:Nat)(c:AD)(g:Int)(q:AA)(pos:Ξ)(ln:Nat)(o4 d:Ξ)(l B:Nat)(N:Yd 8)(x:Int)(s:L3)(r:L3)(h:Y8 n c g q pos ln o4 d x s=some r):TA l B N (C0 8 [] 0 (qK c g q pos ln o4 d r)) Tryz.f109 147 ⟨AF 178 [(1,.ref 2 0),(4,.ref 3 0),(5,.ref 4 0),(14,.ref 5 0),(15,.ref 6 0),(133,.ints c.cells),(134,.i (c.cells.length:Int)),(135,.i g),(147,.it 7),(148,.i x)],qK c g q pos ln o4 d s⟩:=by
 cases s with
 | s0 Q=>
  replace h:Y7 n c g q pos ln o4 d x Q=some r:=h;unfold Y7 at h;refine ag FD [0,1,2,3,4,5,6,7,8,9] H0 (AF 178 [(1,.ref 2 0),(4,.ref 3 0),(5,.ref 4 0),(14,.ref 5 0),(15,.ref 6 0),(16,.i x)]) (jR c q pos ln Q g o4 d) λN=>?_
  revert r;apply gO;exact gc (gi (gc (gi (gi (bi 162 (jg pO (gi (ce Gy [0,1] (jR c q pos ln Q g o4 d) λu=>jg (Eq.refl (X2 c q pos ln u g o4 d)) (lF λp=>rr (tg:=[([],(X2 c q pos ln u g o4 d))]) FD [0,1,2,3,4,5,6,7,8,9] rfl p)))) (gc (gw 167 (gc (gi (gi (bi 170 (jg pO (gi (ce Gy [0,1] (jR c q pos ln Q g o4 d) λu=>jg (Eq.refl (X2 c q pos ln u g o4 d)) (lF λp=>rr (tg:=[([],(X2 c q pos ln u g o4 d))]) FD [0,1,2,3,4,5,6,7,8,9] rfl p)))) (lF λp=>rr FD [0,1,2,3,4,5,6,7,8,9] rfl p))))))))))))
inductive NO where
 | s0 (F5:Ξ)
def qG (c:AD)(q:AA)(pos:Ξ)(ln:Nat)(lost o4:Ξ):NO -> DH
 | .s0 W=>[oW c q pos 1 ln,oI lost,oC [.ref 0 0],oC [.msl 6 1 0 ((((c.cells.length:Int)+1)).toNat)],oC [.msl 7 1 0 ((((c.cells.length:Int)+1)).toNat)],none,oI o4,oI W]
def Y4 (n:Nat)(c:AD)(q:AA)(pos:Ξ)(ln:Nat)(lost o4:Ξ)(B:Δ)(W:Ξ):Option NO:=
 if (0<=B.1/\ B.1<(((((c.cells.length:Int)+1)).toNat:Nat):Int))/\ 0+((B.1).toNat)<W.length/\ (0<=B.2/\ B.2<(pos.length:Int))/\ (0<=(pos.getD ((B.2).toNat) 0)/\ (pos.getD ((B.2).toNat) 0)<9223372036854775808) then
  (CO (U9 n c q pos ln lost B o4) (Bj (pos.getD ((B.2).toNat) 0)) (.s0 (W.set (0+((B.1).toNat)) (-1)))).bind λs=>
   match s with
   | .s0 I=>
    some (.s0 I)
 else none
def qD (n:Nat)(c:AD)(q:AA)(pos:Ξ)(ln:Nat)(lost o4:Ξ)(B:Δ):NO -> Option NO
 | .s0 W=>Y4 n c q pos ln lost o4 B W
def VA (n:Nat)(c:AD)(q:AA)(pos:Ξ)(ln:Nat)(lost o4:Ξ)(B:Δ)(s:NO):Option NO:=qD n c q pos ln lost o4 B s
def zCV (n:Nat)(c:AD)(q:AA)(pos:Ξ)(ln:Nat)(lost o4:Ξ)(l B:Nat)(N:Yd 6)(a:Δ)(s:NO)(r:NO)(h:VA n c q pos ln lost o4 a s=some r):TA l B N (C0 6 [] 0 (qG c q pos ln lost o4 r)) Tryz.f109 90 ⟨AF 178 [(1,.ref 2 0),(4,.ref 3 0),(5,.ref 4 0),(90,.it 5),(91,.i a.1),(92,.i a.2)],qG c q pos ln lost o4 s⟩:=by
 cases s with
 | s0 W=>
  replace h:Y4 n c q pos ln lost o4 a W=some r:=h;unfold Y4 at h;refine ag FD [0,1,2,3,4,5,6,7,8] (H0.t) (AF 178 [(1,.ref 2 0),(5,.ref 4 0),(10,.ref 8 0),(11,.i a.2)]) (zHb c q pos ln lost o4 W a) λN=>?_
  revert r;apply gO
  exact gc (gi (gc (gi (gc (gi (gn λb=>jc (Lt b (zHl c q pos ln lost o4 W a)) (cn λd u=>λp r h=>by
   refine gs FD [0,1,2,3,4,5,8,9,6,7] p (HE (PI Tryz.f109 90) 103 []) (AF 178 [(1,.ref 2 0),(5,.ref 4 0),(10,.ref 6 0),(103,.it 7)]) (zHk c q pos ln lost a o4 W) ?_;refine r0 7 103 #[104] Bw 8 u (zCW n c q pos ln lost a o4) ?_;cases d with
   | s0 wW=>
    dsimp only at h
    revert r;apply gO;exact lF λp=>rr FD [0,1,2,3,4,5,8,9] rfl p)))))))
inductive NQ where
 | s0 (GV:Ξ)
def qI (c:AD)(A:Int)(q:AA)(pos:Ξ)(ln:Nat)(lost:Ξ):NQ -> DH
 | .s0 m=>[oW c q pos 1 ln,oI lost,oC [.ref 0 0],oC [.msl 7 1 0 ((((c.cells.length:Int)+1)).toNat)],oC [.msl 8 1 0 ((((c.cells.length:Int)+1)).toNat)],oC [.i A],none,oI m,oI ((List.replicate ((((c.cells.length:Int)+1)).toNat) (0:Int)).set (0+c.cells.length) 100)]
def Y6 (n:Nat)(c:AD)(A:Int)(q:AA)(pos:Ξ)(ln:Nat)(lost:Ξ)(S:Int)(m:Ξ):Option NQ:= if (0<=S/\ S<(q.values.length:Int))/\ (0<=A/\ A<(((((c.cells.length:Int)+1)).toNat:Nat):Int))/\ 0+A.toNat<m.length then bif (decide ((q.values.getD S.toNat 0)>(m.getD (0+A.toNat) 0))) then if AG (A+1)/\ (0<=(A+1)/\ (A+1)<(((((c.cells.length:Int)+1)).toNat:Nat):Int))/\ 0+(((A+1)).toNat)<m.length then some (.s0 (m.set (0+(((A+1)).toNat)) (if (q.values.getD S.toNat 0)<(m.getD (0+(((A+1)).toNat)) 0) then (q.values.getD S.toNat 0) else (m.getD (0+(((A+1)).toNat)) 0)))) else none else some (.s0 m) else none
def qH (n:Nat)(c:AD)(A:Int)(q:AA)(pos:Ξ)(ln:Nat)(lost:Ξ)(S:Int):NQ -> Option NQ
 | .s0 m=>Y6 n c A q pos ln lost S m
def VB (n:Nat)(c:AD)(A:Int)(q:AA)(pos:Ξ)(ln:Nat)(lost:Ξ)(S:Int)(s:NQ):Option NQ:=qH n c A q pos ln lost S s
def zCX (n:Nat)(c:AD)(A:Int)(q:AA)(pos:Ξ)(ln:Nat)(lost:Ξ)(l B:Nat)(N:Yd 7)(S:Int)(s:NQ)(r:NQ)(h:VB n c A q pos ln lost S s=some r):TA l B N (C0 7 [] 0 (qI c A q pos ln lost r)) Tryz.f109 57 ⟨AF 178 [(1,.ref 2 0),(4,.ref 3 0),(5,.ref 4 0),(6,.ref 5 0),(39,.ints c.cells),(40,.i (c.cells.length:Int)),(41,.i A),(57,.it 6),(58,.i S)],qI c A q pos ln lost s⟩:=by
 cases s with
 | s0 m=>
  replace h:Y6 n c A q pos ln lost S m=some r:=h;unfold Y6 at h;refine ag FD [0,1,2,3,4,5,6,7,8] H0 (AF 178 [(1,.ref 2 0),(4,.ref 3 0),(6,.ref 5 0),(8,.i S)]) (zHc c q pos ln lost A m) λN=>?_
  revert r;apply gO;exact gc (gi (gc (gi (gi (bi 72 (jg zAw (gc (gn λJ=>jw 75 J (jw 78 J (gc (gn λK=>jg K (gn λL=>jg L (jg K (jg L (lF λp=>rr FD [0,1,2,3,4,5,6,7,8] rfl p)))))))))) (lF λp=>rr FD [0,1,2,3,4,5,6,7,8] rfl p))))))
inductive VC where
 | l1 (BY:Int) (o4:Ξ)
 | l2 (BN:Int) (o1 o4 o6:Ξ)
def U8 (n:Nat)(self:VC -> Option (Bool×Ξ))(c:AD)(q:AA)(pos:Ξ)(ln:Nat)(lost:Ξ)(A:Int)(o4:Ξ):Option (Bool×Ξ):=
 bif (decide (A<(c.cells.length:Int))) then
  if (0<=A/\ A<(c.cells.length:Int))/\ AG (A+1)/\ (0<=(A+1)/\ (A+1)<(((((c.cells.length:Int)+1)).toNat:Nat):Int))/\ 0+(((A+1)).toNat)<o4.length/\ (0<=(c.cells.getD A.toNat 0)/\ (c.cells.getD A.toNat 0)<(pos.length:Int))/\ (0<=(pos.getD ((c.cells.getD A.toNat 0).toNat) 0)/\ (pos.getD ((c.cells.getD A.toNat 0).toNat) 0)<9223372036854775808) then
   (CO (VB n c A q pos ln lost) (Bj (pos.getD ((c.cells.getD A.toNat 0).toNat) 0)) (.s0 (o4.set (0+(((A+1)).toNat)) 100))).bind λj=>
    match j with
    | .s0 X=>
     if AG (A+1) then
      self (.l1 (A+1) X)
     else none
  else none
 else
  (back n c.cells).bind λj=>
   (CO (VA n c q pos ln lost o4) j (.s0 ((List.replicate ((((c.cells.length:Int)+1)).toNat) (0:Int)).set (0+c.cells.length) 100))).bind λG=>
    match G with
    | .s0 x=>
     self (.l2 0 lost o4 x)
def Y1 (n:Nat)(self:VC -> Option (Bool×Ξ))(c:AD)(q:AA)(pos:Ξ)(ln:Nat)(lost:Ξ)(g:Int)(o1 o4 d:Ξ):Option (Bool×Ξ):=
 bif (decide (g<(c.cells.length:Int))) then
  if (0<=g/\ g<(c.cells.length:Int))/\ (0<=(c.cells.getD g.toNat 0)/\ (c.cells.getD g.toNat 0)<(pos.length:Int))/\ (0<=(pos.getD ((c.cells.getD g.toNat 0).toNat) 0)/\ (pos.getD ((c.cells.getD g.toNat 0).toNat) 0)<9223372036854775808) then
   (CO (Y8 n c g q pos ln o4 d) (Bj (pos.getD ((c.cells.getD g.toNat 0).toNat) 0)) (.s0 o1)).bind λj=>
    match j with
    | .s0 X=>
     if AG (g+1) then
      self (.l2 (g+1) X o4 d)
     else none
  else none
 else
  some (true,o1)
def qC (n:Nat)(self:VC -> Option (Bool×Ξ))(c:AD)(q:AA)(pos:Ξ)(ln:Nat)(lost:Ξ):Option (Bool×Ξ):= if AG ((c.cells.length:Int)+1)/\ ((((c.cells.length:Int)+1):Int)=((c.cells.length:Int)+1)/\ (0:Int)<=((c.cells.length:Int)+1)/\ (((c.cells.length:Int)+1):Int)<=1000000000000)/\ ((0:Int)<=0/\ 0<(((((c.cells.length:Int)+1)).toNat:Nat):Int))/\ 0+0<(List.replicate ((((c.cells.length:Int)+1)).toNat) (0:Int)).length/\ (0<=(c.cells.length:Int)/\ (c.cells.length:Int)<(((((c.cells.length:Int)+1)).toNat:Nat):Int))/\ 0+c.cells.length<(List.replicate ((((c.cells.length:Int)+1)).toNat) (0:Int)).length then self (.l1 0 ((List.replicate ((((c.cells.length:Int)+1)).toNat) (0:Int)).set (0+0) (-1))) else none
def I4 (c:AD)(q:AA)(pos:Ξ)(ln:Nat)(lost:Ξ):Nat -> VC -> Option (Bool×Ξ)
 | 0,_=>none
 | n+1,.l1 A o4=>U8 n (I4 c q pos ln lost n) c q pos ln lost A o4
 | n+1,.l2 g o1 o4 d=>Y1 n (I4 c q pos ln lost n) c q pos ln lost g o1 o4 d
def NR (n:Nat)(c:AD)(q:AA)(pos:Ξ)(ln:Nat)(lost:Ξ):Option (Bool×Ξ):=qC n (I4 c q pos ln lost n) c q pos ln lost
def zCZ (n B:Nat)(N:Yd 2)(c:AD)(q:AA)(pos:Ξ)(ln:Nat)(lost:Ξ)(r:Bool×Ξ):VC -> Prop
 | .l1 A o4=>∀ f:Nat,n<=f -> TW B N (FQ Tryz.f109 2 (.bool r.1) [oW c q pos 1 ln,oI r.2]) (Ag f (An (AR Tryz.f109) 0 [])) ⟨AF 178 [(1,.ref 2 0),(4,.ref 3 0),(5,.ref 5 0),(39,.ints c.cells),(40,.i (c.cells.length:Int)),(41,.i A)],[oW c q pos 1 ln,oI lost,oC [.ref 0 0],oC [.msl 4 1 0 ((((c.cells.length:Int)+1)).toNat)],oI o4,oC [.msl 6 1 0 ((((c.cells.length:Int)+1)).toNat)],oI ((List.replicate ((((c.cells.length:Int)+1)).toNat) (0:Int)).set (0+c.cells.length) 100)]⟩
 | .l2 g o1 o4 d=>∀ f:Nat,n<=f -> TW B N (FQ Tryz.f109 2 (.bool r.1) [oW c q pos 1 ln,oI r.2]) (Ag f (An (AR Tryz.f109) 8 [])) ⟨AF 178 [(1,.ref 2 0),(4,.ref 3 0),(5,.ref 5 0),(133,.ints c.cells),(134,.i (c.cells.length:Int)),(135,.i g)],[oW c q pos 1 ln,oI o1,oC [.ref 0 0],oC [.msl 4 1 0 ((((c.cells.length:Int)+1)).toNat)],oI o4,oC [.msl 6 1 0 ((((c.cells.length:Int)+1)).toNat)],oI d]⟩
def zCa (B:Nat)(N:Yd 2)(c:AD)(q:AA)(pos:Ξ)(ln:Nat)(lost:Ξ):Al (I4 c q pos ln lost) (zCZ · B N c q pos ln lost):=ia (λ_=>rfl) λn C A r h=>by
 cases A
 case l1 BY o4=>
  intro f a;refine rd a λf a=>?_
  revert r;apply gO
  exact bi 42 (gc (gi (jt (gc (gw 48 (gc (gi (gc (gi (gc (gi (gn λH=>jc (Lt H (zHi c q pos ln lost o4 BY)) (cn λj u=>λp r h=>by
   refine gs FD [0,1,2,3,5,7,8,4,6] p (HE (AR Tryz.f109) 57 [f]) (AF 178 [(1,.ref 2 0),(4,.ref 3 0),(5,.ref 4 0),(6,.ref 5 0),(39,.ints c.cells),(40,.i (c.cells.length:Int)),(41,.i BY),(57,.it 6)]) (zHh c q pos ln lost BY o4) ?_;refine r0 6 57 #[58] Bw 7 u (zCX n c BY q pos ln lost) ?_;cases j with
   | s0 X=>
    dsimp only at h
    revert r;apply gO;exact gw 84 (lG FD [0,1,2,3,7,4,8] (C _ _ · f a))))))))))))))) (cn λj u=>jc (zLv u (zHg c q pos ln lost o4)) (cn λG k=>λp r h=>by
   refine gs FD [0,1,2,3,5,7,4,6] p (HE (AR Tryz.f109) 90 []) (AF 178 [(1,.ref 2 0),(4,.ref 3 0),(5,.ref 4 0),(90,.it 5)]) (zHf c q pos ln lost j o4) ?_;refine r0 5 90 #[91,92] Qe 6 k (zCV n c q pos ln lost o4) ?_;cases G with
   | s0 Ep=>
    dsimp only at h
    revert r;apply gO;exact lN FD [0,1,2,3,6,4,7] (C _ _ · n Nat.le.refl)))
 case l2 BN o1 o4 o6=>
  intro f a;refine rd a λf a=>?_
  revert r;apply gO
  exact bi 136 (gc (gi (jt (jt (jg zAt (gc (gi (gn λs=>jc (Lt s (zHe c q pos ln o1 o4 o6 BN)) (cn λj u=>λp r h=>by
   refine gs FD [0,1,2,3,5,7,8,9,4,6] p (HE (AR Tryz.f109) 147 [f]) (AF 178 [(1,.ref 2 0),(4,.ref 3 0),(5,.ref 4 0),(14,.ref 5 0),(15,.ref 6 0),(133,.ints c.cells),(134,.i (c.cells.length:Int)),(135,.i BN),(147,.it 7)]) (zHd c q pos ln o1 BN o4 o6) ?_;refine r0 7 147 #[148] Bw 8 u (zCY n c BN q pos ln o4 o6) ?_;cases j with
   | s0 X=>
    dsimp only at h
    revert r;apply gO;exact gw 177 (lG FD [0,1,2,3,8,4,9] (C _ _ · f a))))))))))) (lE FD [2] [0,1])
def zCU {n:Nat}{c:AD}{q:AA}{pos:Ξ}{ln:Nat}{lost:Ξ}{r:Bool×Ξ}(h:NR n c q pos ln lost=some r):EQ 109 [.ref 0 0] [oW c q pos 1 ln,oI lost] (.bool r.1) [oW c q pos 1 ln,oI r.2] false:=by
 refine ot Tryz.func109 λB N=>?_
 revert r;apply gO;exact jg zAv (gc (gn λa=>jw 25 a (jw 28 a (gc (gn λo=>jg o (jg o (jt (jt (jg (Eq.refl (C7 c q pos ln lost)) (jt (jt (jg (Eq.refl (C7 c q pos ln lost)) (jg o (jt (jt (jg (Eq.refl (C7 c q pos ln lost)) (jg o (jt (jt (jg (Eq.refl (C7 c q pos ln lost)) (jt (jg o (jt (jg (Eq.refl (C7 c q pos ln lost)) (jg o (jt (jt (jg (Eq.refl (C7 c q pos ln lost)) (jg o (jt (jt (jg (Eq.refl (C7 c q pos ln lost)) (jt (jg o (jt (jg (Eq.refl (C7 c q pos ln lost)) (jg o (jg o (jt (jt (jg (Eq.refl (C7 c q pos ln lost)) (jt (jt (jg (Eq.refl (C7 c q pos ln lost)) (jg o (jt (jt (jg (Eq.refl (C7 c q pos ln lost)) (jg o (jt (jt (jg (Eq.refl (C7 c q pos ln lost)) (jg o (jt (jt (jg (Eq.refl (C7 c q pos ln lost)) (jg o (jt (jt (jg (Eq.refl (C7 c q pos ln lost)) (jg o (jg o (jt (jt (jg (Eq.refl (C7 c q pos ln lost)) (jg o (jt (jt (jg (Eq.refl (C7 c q pos ln lost)) (jt (jg o (jt (jg (Eq.refl (C7 c q pos ln lost)) (jg o (jg o (jt (jt (jg (Eq.refl (C7 c q pos ln lost)) (jg o (jt (jt (jg (Eq.refl (C7 c q pos ln lost)) (jg o (jg o (jt (jt (jg (Eq.refl (C7 c q pos ln lost)) (jt (jg o (jt (jg (Eq.refl (C7 c q pos ln lost)) (jg o (jg o (jt (jt (jg (Eq.refl (C7 c q pos ln lost)) (jg o (jg o (jt (jt (jg (Eq.refl (C7 c q pos ln lost)) (jg o (jt (jt (jg (Eq.refl (C7 c q pos ln lost)) (jt (jg o (jt (jg (Eq.refl (C7 c q pos ln lost)) (jg o (jg o (jt (jt (jg (Eq.refl (C7 c q pos ln lost)) (jg o (jt (jt (jg (Eq.refl (C7 c q pos ln lost)) (jg o (jg o (jt (jt (jg (Eq.refl (C7 c q pos ln lost)) (jt (jg o (jt (jg (Eq.refl (C7 c q pos ln lost)) (jg o (jg o (jt (jt (jg (Eq.refl (C7 c q pos ln lost)) (jg zAs (gc (gi (gc (gi (gc (gi (gi (jg (Eq.refl (nQ c q pos ln lost)) (lN (tg:=[([],(C7 c q pos ln lost)),([(4,3)],(nQ c q pos ln lost))]) FD [0,1,2,5,3,6,4] ((zCa B N c q pos ln lost n) _ _ · n Nat.le.refl)))))))))))))))))))))))))))))))))))))))))))))))))))))))))))))))))))))))))))))))))))))))))))))))))))))))))))))))))))))))))))))))))))))))))))))))
end
section
variable {a:Int}{i:Nat}{l:Ξ}
def TF (h:i<l.length):(l.set i a).getD i 0=a:=by
 grind
theorem getD_set_ne {j:Nat}(h:i≠j):(l.set i a).getD j 0=l.getD j 0:=by
 grind
def Kk (q:AA)(b a e:Int):Int:=if q.values.getD e.toNat 0>b then (if q.values.getD e.toNat 0<a then q.values.getD e.toNat 0 else a) else a
def KT (q:AA)(b a e:Int):Int:=if q.values.getD e.toNat 0<b then (if q.values.getD e.toNat 0>a then q.values.getD e.toNat 0 else a) else a
def Gh (q:AA)(c:AD)(pos:Ξ):Nat -> Int
 | 0=>-1
 | i+1=>(Bj (Ac c pos i)).foldl (Kk q (Gh q c pos i)) 100
def H8 (q:AA)(c:AD)(pos:Ξ):Nat -> Int
 | 0=>100
 | m+1=>(Bj (Ac c pos (c.cells.length-1-m))).foldl (KT q (H8 q c pos m)) (-1)
def Ka (q:AA)(c:AD)(pos:Ξ)(i:Nat):Int:=H8 q c pos (c.cells.length-i)
def IM (q:AA)(c:AD)(pos:Ξ)(a s:Nat):Bool:=decide (q.values.getD s 0<=Gh q c pos a)||decide (q.values.getD s 0>=Ka q c pos (a+1))
def XV (l:Ξ):Nat -> List (Δ)
 | 0=>[]
 | m+1=>((m:Int),l.getD m 0)::XV l m
def wT : ∀ (m n:Nat),m<=l.length -> l.length<=LB -> m+1<=n -> Ob l n (.l1 ((m:Int)-1))=some (XV l m)
 | 0,n,_,_,u=>by
  obtain ⟨n,rfl⟩: ∃ k,n=k+1:=⟨n-1,by omega⟩
  show Qp n (Ob l n) l _=_
  unfold Qp;rw [zEl (by omega),zGK];rfl
 | m+1,n,hm,a,u=>by
  obtain ⟨n,rfl⟩: ∃ k,n=k+1:=⟨n-1,by omega⟩;have e:((m+1:Nat):Int)-1=(m:Int):=by omega
  have hb:LB<=9223372036854775807:=by decide
  rw [e]
  show Qp n (Ob l n) l _=_
  unfold Qp;rw [zEI (by omega),zFi,zEd ⟨by omega,by omega⟩,zEd (Ah.2 ⟨by omega,by omega⟩),wT m n (by omega) a (by omega),zCl];rfl
def zLs {n:Nat}(m:l.length<=LB)(u:l.length+1<=n):back n l=some (XV l l.length):=by
 have hb:LB<=9223372036854775807:=by decide
 unfold back lY;rw [zEd (Ah.2 ⟨by omega,by omega⟩),wT l.length n (zGd _) m u]
section
variable {c:AD} {k:Nat} {pos lost:Ξ} {q:AA}
variable {o:Ξ}{n ln:Nat}
def p8 {i:Nat}(M:c.cells.length<=256)(hi:i<c.cells.length)(x:o.length=c.cells.length+1): ∀ (l:Ξ) (a:Int),(∀ e∈l,0<=e/\ e<((q.values.length:Nat):Int)) ->
 CO (VB n c (i:Int) q pos ln lost) l (.s0 (o.set (i+1) a))=some (.s0 (o.set (i+1) (l.foldl (Kk q (o.getD i 0)) a)))
 | [],_,_=>rfl
 | e::l,a,h=>by
  have t:((((c.cells.length:Nat):Int)+1).toNat:Nat)=c.cells.length+1:=by omega
  have W:(((i:Int)+1).toNat:Nat)=i+1:=by omega
  have w:VB n c (i:Int) q pos ln lost e (.s0 (o.set (i+1) a))=some (.s0 (o.set (i+1) (Kk q (o.getD i 0) a e))):=by
   unfold VB qH Y6
   dsimp only
   simp only [zCl,t,W,zG4,zGj,x];rw [zEd ⟨h e (.head _),by omega,by omega⟩,getD_set_ne (by omega),TF (by omega),List.set_set];unfold Kk
   by_cases C:q.values.getD e.toNat 0>o.getD i 0
   ·rw [zEI C,zFi,zEd ⟨Ah.2 ⟨by omega,by omega⟩,by omega,by omega⟩,zEd C]
   grind
  simp only [CO];rw [w,zEf,p8 M hi x l _ λe I=>h e (.tail _ I)];rfl
variable {o4:Ξ}{x:Int}
def qA {i:Nat}(M:c.cells.length<=256)(hi:i<c.cells.length)(b:o.length=c.cells.length+1): ∀ (l:Ξ) (a:Int),(∀ e∈l,0<=e/\ e<((q.values.length:Nat):Int)) ->
 CO (U9 n c q pos ln lost ((i:Int),x) o4) l (.s0 (o.set i a))=some (.s0 (o.set i (l.foldl (KT q (o.getD (i+1) 0)) a)))
 | [],_,_=>rfl
 | e::l,a,h=>by
  have t:((((c.cells.length:Nat):Int)+1).toNat:Nat)=c.cells.length+1:=by omega
  have W:(((i:Int)+1).toNat:Nat)=i+1:=by omega
  have w:U9 n c q pos ln lost ((i:Int),x) o4 e (.s0 (o.set i a))=some (.s0 (o.set i (KT q (o.getD (i+1) 0) a e))):=by
   unfold U9 qE Y5
   dsimp only
   simp only [zCl,t,W,zG4,zGj,b];rw [zEd ⟨h e (.head _),Ah.2 ⟨by omega,by omega⟩,by omega,by omega⟩,getD_set_ne (by omega),TF (by omega),List.set_set];unfold KT
   grind
  simp only [CO];rw [w,zEf,qA M hi b l _ λe I=>h e (.tail _ I)];rfl
def Sm.i63 (hk:k<=16)(h:Sm k x):0<=x/\ x<9223372036854775808:=by
 have h1:=Nf (k:=k) (zGU hk (by decide));obtain ⟨h2,h3⟩:=h;omega
def qB (W:B7 c k pos)(V:Ec q k): ∀ (m:Nat) (o:Ξ),m<=c.cells.length -> o.length=c.cells.length+1 -> (∀ j,m<=j -> j<=c.cells.length -> o.getD j 0=Ka q c pos j) ->
 ∃ o',CO (VA n c q pos pos.length lost o4) (XV c.cells m) (.s0 o)=some (.s0 o')/\ o'.length=c.cells.length+1/\ ∀ j,j<=c.cells.length -> o'.getD j 0=Ka q c pos j
 | 0,o,_,x,h=>⟨o,rfl,x,λj b=>h j (zIR _) b⟩
 | m+1,o,v,x,h=>by
  have l:=W.cells m (by omega);have d:=W.at (a:=m) (by omega);have M:=W.len;have t:((((c.cells.length:Nat):Int)+1).toNat:Nat)=c.cells.length+1:=by omega
  have w:VA n c q pos pos.length lost o4 ((m:Int),c.cells.getD m 0) (.s0 o)=some (.s0 (o.set m (Ka q c pos m))):=by
   unfold VA qD Y4
   dsimp only
   simp only [zCl,t,zG4];rw [zEd ⟨by omega,by omega,l,d.i63 W.k⟩];refine (congrArg (λz=>Option.bind z _) (qA M (by omega) x (Bj (Ac c pos m)) (-1) λe I=>(V.sym W.k d e I).1)).trans ?_;rw [zEf]
   have f:Ka q c pos m=(Bj (Ac c pos m)).foldl (KT q (o.getD (m+1) 0)) (-1):=by
    rw [h (m+1) (zGd _) v];unfold Ka;rw [show c.cells.length-m=c.cells.length-(m+1)+1 by omega]
    grind [H8]
   rw [f]
  obtain ⟨o',g,i,p⟩:=qB W V m (o.set m (Ka q c pos m)) (by omega) (by rw [zGj];exact x) λj b WN=>by
   grind
  refine ⟨o',?_,i,p⟩;simp only [XV,CO];rw [w,zEf,g]
def zCQ {d:Ξ}(W:B7 c k pos)(V:Ec q k)(A:o4.length=c.cells.length+1)(f:d.length=c.cells.length+1)(hb: ∀ j,j<=c.cells.length -> o4.getD j 0=Gh q c pos j)(ha: ∀ j,j<=c.cells.length -> d.getD j 0=Ka q c pos j)(m:lost.length=pos.length)(hn:c.cells.length+1<=n):
 ∃ l,I4 c q pos pos.length lost n (.l2 0 lost o4 d)=some (true,l)/\ CL c pos lost c.cells.length (λa s=>IM q c pos a s=true) l:=by
 have G: ∀ i,i<c.cells.length -> ((i:Nat):Int)<((c.cells.length:Nat):Int):=λi hi=>by omega
 have t:((((c.cells.length:Nat):Int)+1).toNat:Nat)=c.cells.length+1:=by omega
 have Aj:=W.len
 have T:=IV (λn (s:Ξ) i=>I4 c q pos pos.length lost n (.l2 i s o4 d)) c.cells.length 1
  (λi s=>CL c pos lost i (λa s=>IM q c pos a s=true) s) (λn i s GH hi u=>?_) (n:=n) (s:=lost) (by omega) (CL.zero m)
 ·obtain ⟨e,l,OC,_,g,hL⟩:=T;obtain ⟨v,rfl⟩: ∃ v,e=v+1:=⟨e-1,by omega⟩
  simp_all [Y1,I4]
 ·have b:=W.cells i hi;have hr:=W.r64 hi;have h:=W.at hi;have o:(((i:Int)+1).toNat:Nat)=i+1:=by omega
  obtain ⟨l',w,p,r⟩:=sM (n:=n) (q:=q) W hi u.1 L3.s0 (Y8 n c (i:Int) q pos pos.length o4 d) (IM q c pos i) λs l hs m=>by
   have G5:=V.len;have g1:(0:Int)<=(s:Int)/\ (s:Int)<((q.values.length:Nat):Int):=by omega
   have hk:=W.k;have g2:(0:Int)<=(s:Int)/\ (s:Int)<=((IntKind.i64.bits:Nat):Int):=⟨by omega,by show (s:Int)<=64;omega⟩;obtain ⟨l2,g,_,_⟩:=MK (lost:=l) (n:=n) (ss:=IntKind.i64.wrap (1*2 ^ s)) (c:=c) (q:=q) b.1 b.2 m;unfold IM Y8 qJ Y7
   dsimp only
   simp only [zCl,t,o,zG4,A,f]
   grind
  show ∃ s',Y1 n (I4 c q pos pos.length lost n) c q pos pos.length lost (i:Int) s o4 d=_/\ _
  unfold Y1;rw [zEI (G i hi),zFi];simp only [zCl];rw [zEd ⟨⟨by omega,G i hi⟩,b,h.i63 W.k⟩];refine ⟨l',?_,u.step p r⟩;refine (congrArg (λz=>Option.bind z _) w).trans ?_
  grind
def zCR (W:B7 c k pos)(V:Ec q k)(o:lost.length=pos.length)(hn:2*c.cells.length+3<=n):
 ∃ l,NR n c q pos pos.length lost=some (true,l)/\ CL c pos lost c.cells.length (λa s=>IM q c pos a s=true) l:=by
 have G: ∀ i,i<c.cells.length -> ((i:Nat):Int)<((c.cells.length:Nat):Int):=λi hi=>by omega
 have t:((((c.cells.length:Nat):Int)+1).toNat:Nat)=c.cells.length+1:=by omega
 have M:=W.len
 have S:=IV (λn (s:Ξ) i=>I4 c q pos pos.length lost n (.l1 i s)) c.cells.length (c.cells.length+3)
  (λi s=>s.length=c.cells.length+1/\ ∀ j,j<=i -> s.getD j 0=Gh q c pos j) (λn i s _ hi u=>?_) (n:=n) (s:=(List.replicate (c.cells.length+1) (0:Int)).set 0 (-1)) (by omega) ⟨by simp,λj f=>?_⟩
 ·obtain ⟨p,o4,Hh,_,w,A,g⟩:=S;obtain ⟨b,rfl⟩: ∃ b,p=b+1:=⟨p-1,by omega⟩
  have K:NR n c q pos pos.length lost=I4 c q pos pos.length lost n (.l1 0 ((List.replicate (c.cells.length+1) (0:Int)).set 0 (-1))):=by
   unfold NR qC;simp only [t,zG4,zIA];rw [zEd ⟨Ah.2 ⟨by omega,by omega⟩,⟨trivial,by omega,by omega⟩,⟨by omega,by omega⟩,by omega,⟨by omega,by omega⟩,by omega⟩]
  have d:NR n c q pos pos.length lost=U8 b (I4 c q pos pos.length lost b) c q pos pos.length lost (c.cells.length:Int) o4:=K.trans w;unfold U8 at d;rw [zEl (by omega),zGK,zLs (zGU M (by decide)) (by omega),zEf] at d;simp only [t,zG4] at d
  obtain ⟨o6,Q,r,D⟩:=qB (lost:=lost) (n:=b) (o4:=o4) W V c.cells.length ((List.replicate (c.cells.length+1) (0:Int)).set c.cells.length 100) (zGd _) (by simp) λj f WN=>by
   obtain rfl:j=c.cells.length:=by omega
   rw [TF (by simp)];unfold Ka;rw [Nat.sub_self];rfl
  rw [Q,zEf] at d;obtain ⟨l,Z,v⟩:=zCQ (n:=b) W V A r (λj f=>g j f) D o (by omega);exact ⟨l,d.trans Z,v⟩
 ·obtain ⟨A,g⟩:=u;have x:=W.cells i hi;have h:=W.r64 hi;have m:=W.at hi;have y:(((i:Int)+1).toNat:Nat)=i+1:=by omega
  show ∃ s',U8 n (I4 c q pos pos.length lost n) c q pos pos.length lost (i:Int) s=_/\ _
  unfold U8;rw [zEI (G i hi),zFi];simp only [zCl,t,y,zG4];rw [zEd ⟨⟨by omega,G i hi⟩,h.2,by omega,by omega,x,m.i63 W.k⟩];refine ⟨s.set (i+1) (Gh q c pos (i+1)),?_,by rw [zGj];exact A,λj f=>?_⟩
  ·refine (congrArg (λz=>Option.bind z _) (p8 M hi A (Bj (Ac c pos i)) 100 λe I=>(V.sym W.k m e I).1)).trans ?_;rw [zEf];simp only;rw [zEd h.2,g i (zGd _)];rfl
  grind
 ·obtain rfl:j=0:=by omega
  rw [TF (by simp)];rfl
end
end
section
variable {k:Nat}
def q9 {v n:Type}(I:Ξ -> Int -> Int -> v)(L:Ξ -> Int -> Int -> n)(w:Int -> Int -> v -> Option v)(o:Int -> n -> Option n)(ok:Nat -> Nat -> Bool){a b:Int}(D:Sm k a)(g:Sm k b)(hk:k<=16) 
 (F: ∀ (s t:Nat) (l:Ξ) (x y:Int),s<k -> t<k -> w s t (I l x y)=some (bif ok s t then I l (bits .or .i64 x (IntKind.i64.wrap (1*2 ^ s))) (bits .or .i64 y (IntKind.i64.wrap (1*2 ^ t))) else I l x y))
 (h2: ∀ (s:Nat) (l:Ξ) (x y x' B:Int),s<k -> CO (w s) (Bj b) (I l x y)=some (I l x' B) -> o s (L l x y)=some (L l x' B)) (l:Ξ):
 ∃ x y,CO o (Bj a) (L l 0 0)=some (L l x y)/\ (∀ u,tb x u=true↔tb a u=true/\ ∃ t,tb b t=true/\ ok u t=true)/\ (∀ u,tb y u=true↔tb b u=true/\ ∃ s,tb a s=true/\ ok s u=true):=by
 have c:k<=62:=zGU hk (by decide)
 have p: ∀ (s:Nat) (x y:Int),s<k -> ∃ x' B,CO (w s) (Bj b) (I l x y)=some (I l x' B)/\ (∀ u,tb x' u=true↔tb x u=true∨(u=s/\ ∃ t,tb b t=true/\ ok s t=true))/\ (∀ u,tb B u=true↔tb y u=true∨(tb b u=true/\ ok s u=true)):=by
  intro s x y j
  have key:=bq (f:=w s) (λpre st=>∃ x' B,st=I l x' B/\ (∀ u,tb x' u=true↔tb x u=true∨(u=s/\ ∃ t:Nat,(t:Int)∈pre/\ ok s t=true))/\ (∀ u:Nat,tb B u=true↔tb y u=true∨((u:Int)∈pre/\ ok s u=true)))
   (Bj b) [] (I l x y) ⟨x,y,rfl,λu=>⟨.inl,λh=>h.elim id λ⟨_,t,h,_⟩=>(by cases h)⟩,λu=>⟨.inl,λh=>h.elim id λ⟨h,_⟩=>(by cases h)⟩⟩ ?_
  ·obtain ⟨st,e,x',B,rfl,i,hy⟩:=key;refine ⟨x',B,e,λu=>?_,λu=>?_⟩
   ·rw [i,zIs];constructor
    ·rintro (h | ⟨m,t,h,d⟩)
     ·exact .inl h
     ·obtain ⟨O,q,_,A⟩:=(Fp g c).1 h;have:t=O:=by omega
      grind
    ·rintro (h | ⟨m,t,h,d⟩)
     ·exact .inl h
     ·exact .inr ⟨m,t,(Fp g c).2 ⟨t,rfl,zGk λz=>(by rw [g.hi z] at h;cases h),h⟩,d⟩
   ·rw [hy,zIs];constructor
    ·rintro (h | ⟨h,d⟩)
     ·exact .inl h
     ·obtain ⟨O,q,_,A⟩:=(Fp g c).1 h;have:u=O:=by omega
      grind
    ·rintro (h | ⟨h,d⟩)
     ·exact .inl h
     ·exact .inr ⟨(Fp g c).2 ⟨u,rfl,zGk λz=>(by rw [g.hi z] at h;cases h),h⟩,d⟩
  ·rintro pre e _ r ⟨x',B,rfl,i,hy⟩;obtain ⟨t,rfl,G,_⟩:=(Fp g c).1 r;rw [F s t l x' B j G];cases ho:ok s t
   ·grind
   ·rw [zFi];refine ⟨_,rfl,_,_,rfl,λu=>?_,λu=>?_⟩
    ·rw [Oz,zGz,i,Ir (by omega),zGe]
     grind
    ·rw [Oz,zGz,hy,Ir (by omega),zGe]
     grind
 have key:=bq (f:=o) (λpre st=>∃ x y,st=L l x y/\ (∀ u:Nat,tb x u=true↔(u:Int)∈pre/\ ∃ t,tb b t=true/\ ok u t=true)/\ (∀ u,tb y u=true↔tb b u=true/\ ∃ s:Nat,(s:Int)∈pre/\ ok s u=true))
  (Bj a) [] (L l 0 0) ⟨0,0,rfl,λu=>⟨λh=>absurd h IG,λ⟨h,_⟩=>(by cases h)⟩,λu=>⟨λh=>absurd h IG,λ⟨_,s,h,_⟩=>(by cases h)⟩⟩ ?_
 ·obtain ⟨st,e,x,y,rfl,i,hy⟩:=key;refine ⟨x,y,e,λu=>?_,λu=>?_⟩
  ·rw [i,zIs];constructor
   ·rintro ⟨h,h2⟩;obtain ⟨O,q,_,A⟩:=(Fp D c).1 h;have:u=O:=by omega
    subst this;exact ⟨A,h2⟩
   ·rintro ⟨h,h2⟩;exact ⟨(Fp D c).2 ⟨u,rfl,zGk λz=>(by rw [D.hi z] at h;cases h),h⟩,h2⟩
  ·rw [hy,zIs];constructor
   ·rintro ⟨h0,s,h,d⟩;obtain ⟨O,q,_,A⟩:=(Fp D c).1 h;have:s=O:=by omega
    grind
   ·rintro ⟨h0,s,h,d⟩;exact ⟨h0,s,(Fp D c).2 ⟨s,rfl,zGk λz=>(by rw [D.hi z] at h;cases h),h⟩,d⟩
 ·rintro pre e _ r ⟨x,y,rfl,i,hy⟩;obtain ⟨s,rfl,j,_⟩:=(Fp D c).1 r;obtain ⟨x',B,m,H,C⟩:=p s x y j;refine ⟨_,h2 s l x y x' B j m,x',B,rfl,λu=>?_,λu=>?_⟩
  ·rw [H,i];constructor
   ·grind
   ·rintro ⟨h,h2⟩;rcases zIQ.1 h with h | h
    ·exact .inl ⟨h,h2⟩
    ·have:u=s:=by have:=zGu.1 h;omega
     grind
  ·rw [C,hy];constructor
   ·grind
   ·rintro ⟨h,E,h2,d⟩;rcases zIQ.1 h2 with h2 | h2
    ·exact .inl ⟨h,E,h2,d⟩
    ·have:E=s:=by have:=zGu.1 h2;omega
     grind
end
def Tk {s:Nat}(k:s<64)(x:Int):(bits .and .i64 (IntKind.i64.wrap (1*2 ^ s)) x==0)= !tb x s:=by
 rw [zIt,zGo,NB (GO _ _ _)];constructor
 ·intro h;have:=h s k;rw [Is,Ir k,zEI rfl,zI9] at this;rw [this];rfl
 ·intro h i hi;rw [Is,Ir k]
  grind
def I8 (q:AA)(c:AD)(s t:Nat):Bool:=decide ((if 0-(q.values.getD s 0-q.values.getD t 0)>q.values.getD s 0-q.values.getD t 0 then 0-(q.values.getD s 0-q.values.getD t 0) else q.values.getD s 0-q.values.getD t 0)>=c.lo)
def IT (c:AD)(s t:Nat):Bool:=(!tb c.set s|| !tb c.other t)&&(!tb c.set t|| !tb c.other s)
def Gs (ok:Nat -> Nat -> Bool)(c:AD)(pos:Ξ)(a s:Nat):Prop:= if a=0 then ¬ ∃ t,tb (Ac c pos 1) t=true/\ ok s t=true else ¬ ∃ t,tb (Ac c pos 0) t=true/\ ok t s=true
section
variable {c:AD} {k:Nat} {pos lost:Ξ} {q:AA}
variable {s t n ln:Nat}
def zL8 (V:Ec q k)(a:s<k)(b:t<k):dG n s t c q pos ln lost=some (I8 q c s t,lost):=by
 have h1:=V.val s a;have h2:=V.val t b;have h3:=V.len;unfold dG wo;simp only [zCl];rw [zEd ⟨by omega,by omega,Ah.2 ⟨by omega,by omega⟩,Ah.2 ⟨by omega,by omega⟩⟩];rfl
def zEL (k:s<64)(a:t<64):Z2 n s t c q pos ln lost=some (IT c s t,lost):=by
 have g: ∀ s:Nat,s<64 -> (0:Int)<=(s:Int)/\ (s:Int)<=((IntKind.i64.bits:Nat):Int):=λs k=>⟨by omega,by show (s:Int)<=64;omega⟩
 unfold Z2 re;simp only [zCl];rw [zEd ⟨g s k,g t a⟩,Tk k,Tk k,Tk a,Tk a]
 grind [IT]
def rA (W:B7 c k pos)(e:c.cells.length=2)(m:lost.length=pos.length)(ok:Nat -> Nat -> Bool){x y:Int} 
 (g: ∀ u,tb x u=true↔tb (Ac c pos 0) u=true/\ ∃ t,tb (Ac c pos 1) t=true/\ ok u t=true) (hy: ∀ u,tb y u=true↔tb (Ac c pos 1) u=true/\ ∃ s,tb (Ac c pos 0) s=true/\ ok s u=true):
 ∃ O l,D7 n (c.cells.getD 0 0) (bits .xor .i64 (-1) x) c q pos pos.length lost=some O/\ D7 n (c.cells.getD 1 0) (bits .xor .i64 (-1) y) c q pos pos.length O=some l/\ CL c pos lost c.cells.length (Gs ok c pos) l:=by
 have d:=W.cells 0 (by omega);have w:=W.cells 1 (by omega);obtain ⟨O,o,p,r⟩:=MK (lost:=lost) (n:=n) (ss:=bits .xor .i64 (-1) x) (c:=c) (q:=q) d.1 d.2 m;obtain ⟨l,z,v,B⟩:=MK (lost:=O) (n:=n) (ss:=bits .xor .i64 (-1) y) (c:=c) (q:=q) w.1 w.2 p;refine ⟨O,l,o,z,?_⟩;have G: ∀ {a:Nat} {s:Nat},a<c.cells.length -> tb (Ac c pos a) s=true -> s<64:=λ{a s} ha h=>zGk λC=>by rw [Lr C] at h;cases h
 rw [e];refine CL.step (i:=1) (l:=O) (CL.step (i:=0) (l:=lost) (CL.zero m) p λj s=>?_) v λj s=>?_
 ·rw [r,zGz,zFW,zFW,zGe];constructor
  ·rintro (h | ⟨rfl,b,A⟩)
   ·exact .inl h
   ·refine .inr ⟨rfl,b,?_⟩;rw [X3 _ (G (a:=0) (by omega) b)] at A;unfold Gs;rw [zEd rfl];intro f;rw [(g s).2 ⟨b,f⟩] at A;cases A
  ·rintro (h | ⟨rfl,b,A⟩)
   ·exact .inl h
   ·refine .inr ⟨rfl,b,?_⟩;rw [X3 _ (G (a:=0) (by omega) b)];unfold Gs at A
    grind
 ·rw [B,zGz,zFW,zFW,zGe];constructor
  ·rintro (h | ⟨rfl,b,A⟩)
   ·exact .inl h
   ·refine .inr ⟨rfl,b,?_⟩;rw [X3 _ (G (a:=1) (by omega) b)] at A;unfold Gs;rw [zGW (by decide)];intro f;rw [(hy s).2 ⟨b,f⟩] at A;cases A
  ·rintro (h | ⟨rfl,b,A⟩)
   ·exact .inl h
   ·refine .inr ⟨rfl,b,?_⟩;rw [X3 _ (G (a:=1) (by omega) b)];unfold Gs at A
    grind
def zL9 (W:B7 c k pos)(V:Ec q k)(f:c.cells.length=2)(m:lost.length=pos.length):
 ∃ l,Qu n c q pos pos.length lost=some (true,l)/\ CL c pos lost c.cells.length (Gs (I8 q c) c pos) l:=by
 have h:=W.cells 0 (by omega);have w:=W.cells 1 (by omega);have G:=W.at (a:=0) (by omega);have d:=W.at (a:=1) (by omega);have hk:=W.k;have g: ∀ s:Nat,s<k -> (0:Int)<=(s:Int)/\ (s:Int)<=((IntKind.i64.bits:Nat):Int):=λs b=>⟨by omega,by show (s:Int)<=64;omega⟩
 obtain ⟨x,y,e,i,hy⟩:=q9 MC.s0 MD.s0 (Zh n c q pos pos.length) (Zj n c q pos pos.length) (I8 q c) G d hk
  (λs t l x y b j=>by
   unfold Zh rJ Zg
   dsimp only
   rw [zL8 V b j,zEf]
   grind)
  (λs l x y x' y' b I=>by
   unfold Zj rI Zf
   dsimp only
   rw [zEd (show 0<=pos.getD (c.cells.getD 1 0).toNat 0/\ pos.getD (c.cells.getD 1 0).toNat 0<9223372036854775808 from d.i63 hk)];refine (congrArg (λz=>Option.bind z _) I).trans ?_;rfl) lost
 obtain ⟨l1,l,e1,e2,o⟩:=rA (n:=n) (q:=q) W f m (I8 q c) i hy;refine ⟨l,?_,o⟩;unfold Qu ly gC rH;rw [zEd ⟨by omega,by omega,h,w,G.i63 hk⟩];refine (congrArg (λz=>Option.bind (Option.bind z _) _) e).trans ?_
 grind
def zEM (W:B7 c k pos)(f:c.cells.length=2)(m:lost.length=pos.length):
 ∃ l,PV n c q pos pos.length lost=some (true,l)/\ CL c pos lost c.cells.length (Gs (IT c) c pos) l:=by
 have h:=W.cells 0 (by omega);have w:=W.cells 1 (by omega);have G:=W.at (a:=0) (by omega);have b:=W.at (a:=1) (by omega);have hk:=W.k;have g: ∀ s:Nat,s<k -> (0:Int)<=(s:Int)/\ (s:Int)<=((IntKind.i64.bits:Nat):Int):=λs d=>⟨by omega,by show (s:Int)<=64;omega⟩
 obtain ⟨x,y,e,i,hy⟩:=q9 MA.s0 MB.s0 (Zd n c q pos pos.length) (Ze n c q pos pos.length) (IT c) G b hk
  (λs t l x y d ht=>by
   unfold Zd rD Zc
   dsimp only
   rw [zEL (by omega) (by omega),zEf]
   grind)
  (λs l x y x' y' d I=>by
   unfold Ze rC Zb
   dsimp only
   rw [zEd (show 0<=pos.getD (c.cells.getD 1 0).toNat 0/\ pos.getD (c.cells.getD 1 0).toNat 0<9223372036854775808 from b.i63 hk)];refine (congrArg (λz=>Option.bind z _) I).trans ?_;rfl) lost
 obtain ⟨l1,l,e1,e2,j⟩:=rA (n:=n) (q:=q) W f m (IT c) i hy;refine ⟨l,?_,j⟩;unfold PV gW gB rB;rw [zEd ⟨by omega,by omega,h,w,G.i63 hk⟩];refine (congrArg (λz=>Option.bind (Option.bind z _) _) e).trans ?_
 grind
end
section
set_option maxRecDepth 100000
set_option maxHeartbeats 40000000
def n0:ST:=.rd 0 (.rd 1 (.rd 2 (.rd 3 (.rd 4 (.rd 6 (.rd 7 (.rd 8 (.rd 9 (.rd 10 (.ef 5 (.rd 12 (.ef 11 (.rd 13 (.fin [0,1] [0,2,3])) (.no))) (.ef 11 (.ef 5 (.rd 12 (.rd 13 (.fin [1,0] [0,2,3]))) (.no)) (.no))))))))))))
def zBE:B3 (A9 Tryz.f130 1) [5,11] n0:=by unfold B3;kernel_rfl
def ny:ST:=.rd 0 (.rd 1 (.rd 2 (.rd 3 (.rd 4 (.rd 5 (.rd 6 (.rd 7 (.rd 8 (.rd 9 (.rd 10 (.rd 11 (.rd 12 (.rd 13 (.rd 14 (.rd 15 (.rd 16 (.rd 17 (.rd 18 (.rd 19 (.rd 20 (.rd 21 (.rd 22 (.rd 23 (.rd 24 (.rd 25 (.rd 26 (.rd 27 (.rd 28 (.rd 29 (.rd 30 (.rd 31 (.rd 32 (.ef 33 (.rd 34 (.ef 35 (.fin [] [0,2,3,30,31,32]) (.no))) (.no))))))))))))))))))))))))))))))))))
def zBD:B3 (A9 Tryz.f130 5) [33] ny:=by unfold B3;kernel_rfl
def Kq:BX:=λi=>match i with
 | 1=>.tre [5,11] n0
 | 5=>.tre [33] ny
 | _=>.no
def dq (pos:Ξ)(c:AD)(q:AA)(ln:Nat)(lost:Ξ):St:=⟨(AF 120 [(0,.ref 0 0),(2,.msl 2 1 0 pos.length),(3,.msl 3 1 0 pos.length)]),([oW c q pos 1 ln,oI lost,some (.bools (List.replicate pos.length false)),some (.bools (List.replicate pos.length false))]:DH)⟩
def nS (pos:Ξ)(c:AD)(D:Int)(q:AA)(ln:Nat)(lost:Ξ)(F t:Ω):St:=⟨(AF 120 [(0,.ref 0 0),(2,.msl 2 1 0 pos.length),(3,.msl 3 1 0 pos.length),(30,.ints c.cells),(31,.i (c.cells.length:Int)),(32,.i D)]),([oW c q pos 1 ln,oI lost,some (.bools (F.set (0+((c.cells.getD D.toNat 0).toNat)) ((bits .and .i64 (pos.getD ((c.cells.getD D.toNat 0).toNat) 0) c.set) != 0))),some (.bools (t.set (0+((c.cells.getD D.toNat 0).toNat)) ((bits .andNot .i64 (pos.getD ((c.cells.getD D.toNat 0).toNat) 0) c.set)==0)))]:DH)⟩
def tX (c:AD)(q:AA)(pos:Ξ)(ln:Nat)(lost:Ξ)(F t:Ω):DH:=[oW c q pos 1 ln,oI lost,some (.bools F),some (.bools t)]
def tW (c:AD)(q:AA)(pos:Ξ)(ln:Nat)(lost:Ξ)(t:Ω)(G:Ω):DH:=[oW c q pos 1 ln,oI lost,none,some (.bools t),some (.bools G)]
inductive SN where
 | l1 (De:Int) (o2 o3:Ω)
 | l2 (Fx:Ω) (x8:Nat) (Ij:Ξ) (M4 HK:Int) (o2 o3:Ω)
 | l3 (Fx:Ω) (x8:Nat) (Lp Dx:Int) (o1:Ξ) (o2 o3:Ω)
def Z4 (n:Nat)(self:SN -> Option (Ω×Ω×Bool×Ξ))(c:AD)(q:AA)(pos:Ξ)(ln:Nat)(lost:Ξ)(D:Int)(F t:Ω):Option (Ω×Ω×Bool×Ξ):= bif (decide (D<(c.cells.length:Int))) then if (0<=D/\ D<(c.cells.length:Int))/\ (0<=(c.cells.getD D.toNat 0)/\ (c.cells.getD D.toNat 0)<(pos.length:Int))/\ 0+((c.cells.getD D.toNat 0).toNat)<F.length/\ 0+((c.cells.getD D.toNat 0).toNat)<t.length/\ AG (D+1) then self (.l1 (D+1) (F.set (0+((c.cells.getD D.toNat 0).toNat)) ((bits .and .i64 (pos.getD ((c.cells.getD D.toNat 0).toNat) 0) c.set) != 0)) (t.set (0+((c.cells.getD D.toNat 0).toNat)) ((bits .andNot .i64 (pos.getD ((c.cells.getD D.toNat 0).toNat) 0) c.set)==0))) else none else if pos.length=t.length then (ak n t true).bind λj=> bif (decide (j<0)) then if pos.length=F.length then some (F,t,false,lost) else none else if pos.length=F.length then (Qi n F).bind λG=> (Te n q.nbrs F j).bind λy3=> self (.l2 F G.length y3.1 (y3.1.length:Int) 0 t G) else none else none
def Vj (n:Nat)(self:SN -> Option (Ω×Ω×Bool×Ξ))(c:AD)(q:AA)(pos:Ξ)(ln:Nat)(lost:Ξ)(o:Ω)(x8:Nat)(v:Ξ)(I T:Int)(F t:Ω):Option (Ω×Ω×Bool×Ξ):= bif (decide (T<I)) then if (0<=T/\ T<(v.length:Int))/\ (0<=(v.getD T.toNat 0)/\ (v.getD T.toNat 0)<(x8:Int))/\ 0+((v.getD T.toNat 0).toNat)<t.length/\ AG (T+1) then self (.l2 o x8 v I (T+1) F (t.set (0+((v.getD T.toNat 0).toNat)) false)) else none else self (.l3 o x8 (x8:Int) 0 lost F t)
def Z3 (n:Nat)(self:SN -> Option (Ω×Ω×Bool×Ξ))(c:AD)(q:AA)(pos:Ξ)(ln:Nat)(lost:Ξ)(o:Ω)(x8:Nat)(C a:Int)(o1:Ξ)(F t:Ω):Option (Ω×Ω×Bool×Ξ):= bif (decide (a<C)) then if (0<=a/\ a<(x8:Int))/\ 0+a.toNat<t.length then bif (t.getD (0+a.toNat) false) then (D7 n a c.set c q pos ln o1).bind λj=> if AG (a+1) then self (.l3 o x8 C (a+1) j F t) else none else if AG (a+1) then self (.l3 o x8 C (a+1) o1 F t) else none else none else if pos.length=F.length then some (o,F,true,o1) else none
def rj (n:Nat)(self:SN -> Option (Ω×Ω×Bool×Ξ))(c:AD)(q:AA)(pos:Ξ)(ln:Nat)(lost:Ξ):Option (Ω×Ω×Bool×Ξ):= if ((pos.length:Int):Int)=(pos.length:Int)/\ 0<=(pos.length:Int)/\ ((pos.length:Int):Int)<=1000000000000 then self (.l1 0 (List.replicate pos.length false) (List.replicate pos.length false)) else none
def FY (c:AD)(q:AA)(pos:Ξ)(ln:Nat)(lost:Ξ):Nat -> SN -> Option (Ω×Ω×Bool×Ξ)
 | 0,_=>none
 | n+1,.l1 D F t=>Z4 n (FY c q pos ln lost n) c q pos ln lost D F t
 | n+1,.l2 o x8 v I T F t=>Vj n (FY c q pos ln lost n) c q pos ln lost o x8 v I T F t
 | n+1,.l3 o x8 C a o1 F t=>Z3 n (FY c q pos ln lost n) c q pos ln lost o x8 C a o1 F t
def PX (n:Nat)(c:AD)(q:AA)(pos:Ξ)(ln:Nat)(lost:Ξ):Option (Ω×Ω×Bool×Ξ):=rj n (FY c q pos ln lost n) c q pos ln lost
def zEW (n B:Nat)(N:Yd 2)(c:AD)(q:AA)(pos:Ξ)(ln:Nat)(lost:Ξ)(r:Ω×Ω×Bool×Ξ):SN -> Prop
 | .l1 D F t=>∀ f:Nat,n<=f -> TW B N (FQ Tryz.f130 2 (.tup 3 (L1 [.bools r.1,.bools r.2.1,.bool r.2.2.1])) [oW c q pos 1 ln,oI r.2.2.2]) (Ag f (An (AR Tryz.f130) 0 [])) ⟨AF 120 [(0,.ref 0 0),(2,.msl 2 1 0 pos.length),(3,.msl 3 1 0 pos.length),(30,.ints c.cells),(31,.i (c.cells.length:Int)),(32,.i D)],[oW c q pos 1 ln,oI lost,some (.bools F),some (.bools t)]⟩
 | .l2 o x8 v I T F t=>∀ f:Nat,n<=f -> TW B N (FQ Tryz.f130 2 (.tup 3 (L1 [.bools r.1,.bools r.2.1,.bool r.2.2.1])) [oW c q pos 1 ln,oI r.2.2.2]) (Ag f (An (AR Tryz.f130) 2 [])) ⟨AF 120 [(0,.ref 0 0),(2,.bools o),(3,.msl 2 1 0 pos.length),(8,.msl 3 1 0 x8),(90,.ints v),(91,.i I),(92,.i T)],[oW c q pos 1 ln,oI lost,some (.bools F),some (.bools t)]⟩
 | .l3 o x8 C a o1 F t=>∀ f:Nat,n<=f -> TW B N (FQ Tryz.f130 2 (.tup 3 (L1 [.bools r.1,.bools r.2.1,.bool r.2.2.1])) [oW c q pos 1 ln,oI r.2.2.2]) (Ag f (An (AR Tryz.f130) 4 [])) ⟨AF 120 [(0,.ref 0 0),(2,.bools o),(3,.msl 2 1 0 pos.length),(8,.msl 3 1 0 x8),(101,.i C),(102,.i a)],[oW c q pos 1 ln,oI o1,some (.bools F),some (.bools t)]⟩
def zEX (B:Nat)(N:Yd 2)(c:AD)(q:AA)(pos:Ξ)(ln:Nat)(lost:Ξ):Al (FY c q pos ln lost) (zEW · B N c q pos ln lost):=ia (λ_=>rfl) λn C A r h=>by
 cases A
 case l1 De o2 o3=>
  intro f a;refine rd a λf a=>?_
  revert r;apply gO
  exact bi 33 (gc (gi (jg zBD (gc (gn λo=>jg o (jg o (jg o (gc (gi (jg o (gc (gi (jg (Eq.refl (nS pos c De q ln lost o2 o3)) (gw 70 (lG (tg:=[([(33,2)],(nS pos c De q ln lost o2 o3))]) Kq [0,1,2,3] (C _ _ · f a)))))))))))))))) (gn λb=>cn λj u=>jc (sb [.msl 3 1 0 pos.length,.bool true] (zGG u) (tX c q pos ln lost o2 o3) ⟨Az.bools rfl b,Az.plain (by kernel_rfl),trivial⟩) (bi 74 (gn λo=>lF λp=>ez Kq [2,3,4] [0,1,2,3] p [2,3] (H0.g o |>.g b)) (gn λo=>cn λG k=>jc (ES.snapNew (ds:=[.msl 2 1 0 pos.length]) (vn k) (tX c q pos ln lost o2 o3) ⟨Az.bools rfl o,trivial⟩ rfl) (λp r h=>by
   refine gz (Ab 11 Kq) [0,1,2,3,4] p [2] (H0.g o) (EP (AR Tryz.f130) 11 []) (AF 120 [(0,.ref 0 0),(2,.bools o2),(3,.msl 3 1 0 pos.length),(7,.i j),(8,.msl 4 1 0 G.length)]) (tW c q pos ln lost o3 G) ?_;revert r;apply gO;exact cf zLE (tW c q pos ln lost o3 G) λ_=>lN Kq [0,1,3,4] (C _ _ · n Nat.le.refl)))))
 case l2 Fx x8 Ij M4 HK o2 o3=>
  intro f a;refine rd a λf a=>?_
  revert r;apply gO;exact bi 93 (gc (gi (gc (gi (gc (gi (gw 99 (lG Kq [0,1,2,3] (C _ _ · f a))))))))) (lN Kq [0,1,2,3] (C _ _ · n Nat.le.refl))
 case l3 Fx x8 Lp Dx o1 o2 o3=>
  intro f a;refine rd a λf a=>?_
  revert r;apply gO;exact bi 103 (gc (gi (gi (bi 108 (ce Gy [0,1] [oW c q pos 1 ln,oI o1,some (.bools o2),some (.bools o3)] λ_=>gw 117 (lG Kq [0,1,2,3] (C _ _ · f a))) (gw 117 (lG Kq [0,1,2,3] (C _ _ · f a))))))) (gn λb=>lF λp=>ez Kq [2,3,4] [0,1,2] p [2] (H0.g b))
variable {lost pos:Ξ}{ln n:Nat}{q:AA}{c:AD}
def ri {r:Ω×Ω×Bool×Ξ}(h:PX n c q pos ln lost=some r):EQ 130 [.ref 0 0] [oW c q pos 1 ln,oI lost] (.tup 3 (L1 [.bools r.1,.bools r.2.1,.bool r.2.2.1])) [oW c q pos 1 ln,oI r.2.2.2] false:=by
 refine ot Tryz.func130 λB N=>?_
 revert r;apply gO;exact jg zBE (gn λa=>jg a (jg a (jg (Eq.refl (dq pos c q ln lost)) (jg a (jg a (jg (Eq.refl (dq pos c q ln lost)) (lN (tg:=[([],(dq pos c q ln lost))]) Kq [0,1,2,3] ((zEX B N c q pos ln lost n) _ _ · n Nat.le.refl))))))))
inductive cV where
 | l1 (x3 x4:Ω) (x5:Bool) (Ad BM:Int) (o1:Ξ)
def XI (n:Nat)(self:cV -> Option (Bool×Ξ))(c:AD)(q:AA)(pos:Ξ)(ln:Nat)(lost:Ξ)(H K:Ω)(P:Bool)(L l:Int)(o1:Ξ):Option (Bool×Ξ):= bif (decide (l<L)) then bif (!P) then if AG (l+1) then self (.l1 H K P L (l+1) o1) else none else if 0<=l/\ l<(H.length:Int) then bif (!(H.getD l.toNat false)) then if AG (l+1) then self (.l1 H K P L (l+1) o1) else none else if 0<=l/\ l<(K.length:Int) then bif (K.getD l.toNat false) then if AG (l+1) then self (.l1 H K P L (l+1) o1) else none else (O4 n q.nbrs H K l).bind λj=> bif j.1 then (Hc n l c q pos ln o1).bind λG=> if AG (l+1) then self (.l1 H K P L (l+1) G) else none else if AG (l+1) then self (.l1 H K P L (l+1) o1) else none else none else none else some (true,o1)
def zK5 (n:Nat)(self:cV -> Option (Bool×Ξ))(c:AD)(q:AA)(pos:Ξ)(ln:Nat)(lost:Ξ):Option (Bool×Ξ):= (PX n c q pos ln lost).bind λj=> self (.l1 j.1 j.2.1 j.2.2.1 (j.1.length:Int) 0 j.2.2.2)
def OY (c:AD)(q:AA)(pos:Ξ)(ln:Nat)(lost:Ξ):Nat -> cV -> Option (Bool×Ξ)
 | 0,_=>none
 | n+1,.l1 H K P L l o1=>XI n (OY c q pos ln lost n) c q pos ln lost H K P L l o1
def cW (n:Nat)(c:AD)(q:AA)(pos:Ξ)(ln:Nat)(lost:Ξ):Option (Bool×Ξ):=zK5 n (OY c q pos ln lost n) c q pos ln lost
def zK6 (n B:Nat)(N:Yd 2)(c:AD)(q:AA)(pos:Ξ)(ln:Nat)(lost:Ξ)(r:Bool×Ξ):cV -> Prop
 | .l1 H K P L l o1=>∀ f:Nat,n<=f -> TW B N (FQ Tryz.f113 2 (.bool r.1) [oW c q pos 1 ln,oI r.2]) (Ag f (An (AR Tryz.f113) 0 [])) ⟨AF 52 [(0,.ref 0 0),(3,.bools H),(4,.bools K),(5,.bool P),(16,.i L),(17,.i l)],[oW c q pos 1 ln,oI o1]⟩
def zK7 (B:Nat)(N:Yd 2)(c:AD)(q:AA)(pos:Ξ)(ln:Nat)(lost:Ξ):Al (OY c q pos ln lost) (zK6 · B N c q pos ln lost):=ia (λ_=>rfl) λn C A r h=>by
 cases A
 case l1 x3 x4 x5 Ad BM o1=>
  intro f a;refine rd a λf a=>?_
  revert r;apply gO;exact bi 18 (bi 21 (gw 51 (lG AC [0,1] (C _ _ · f a))) (gi (bi 27 (gw 51 (lG AC [0,1] (C _ _ · f a))) (gi (bi 33 (gw 51 (lG AC [0,1] (C _ _ · f a))) (cf zI [oW c q pos 1 ln,oI o1] λ_=>bi 45 (ce Ni [0,1] [oW c q pos 1 ln,oI o1] λ_=>gw 51 (lG AC [0,1] (C _ _ · f a))) (gw 51 (lG AC [0,1] (C _ _ · f a))))))))) (lE AC [2] [0,1])
variable {r:Bool×Ξ}
def zK4 (h:cW n c q pos ln lost=some r):EQ 113 [.ref 0 0] [oW c q pos 1 ln,oI lost] (.bool r.1) [oW c q pos 1 ln,oI r.2] false:=by
 refine ot Tryz.func113 λB N=>?_
 revert r;apply gO;exact ce ri [0,1] [oW c q pos 1 ln,oI lost] λ_=>lN AC [0,1] ((zK7 B N c q pos ln lost n) _ _ · n Nat.le.refl)
inductive Nn where
 | l1 (x3 x4:Ω) (x20 x21:Int) (o1:Ξ)
 | l2 (x3 x4:Ω) (x8 x20 x21:Int) (Bs:Ξ) (Eg BL:Int) (o1:Ξ)
 | l3 (x3 x4:Ω) (x7:Nat) (x8 x20 x21:Int) (Bs:Ξ) (Eg BL:Int) (o1 o2:Ξ)
 | l4 (x3 x4:Ω) (x7:Nat) (x8 x20 x21:Int) (ID:Nat) (IB Ap:Int) (o1 o2:Ξ)
def aB (n:Nat)(self:Nn -> Option (Bool×Ξ))(c:AD)(q:AA)(pos:Ξ)(ln:Nat)(lost:Ξ)(H K:Ω)(x20 x21:Int)(o1:Ξ):Option (Bool×Ξ):= bif (decide (x21<x20)) then if 0<=x21/\ x21<(K.length:Int) then bif (!(K.getD x21.toNat false)) then if AG (x21+1) then self (.l1 H K x20 (x21+1) o1) else none else if 0<=x21/\ x21<(q.nbrs.length:Int) then self (.l2 H K 0 x20 x21 (q.nbrs.getD x21.toNat []) (((q.nbrs.getD x21.toNat []).length:Nat):Int) 0 o1) else none else none else some (true,o1)
def Vt (n:Nat)(self:Nn -> Option (Bool×Ξ))(c:AD)(q:AA)(pos:Ξ)(ln:Nat)(lost:Ξ)(H K:Ω)(x8 x20 x21:Int)(R:Ξ)(O i:Int)(o1:Ξ):Option (Bool×Ξ):= bif (decide (i<O)) then if (0<=i/\ i<(R.length:Int))/\ (0<=(R.getD i.toNat 0)/\ (R.getD i.toNat 0)<(H.length:Int)) then bif (H.getD ((R.getD i.toNat 0).toNat) false) then if ((0=0/\ 1=([R.getD i.toNat 0]:Ξ).length)/\ 0<([R.getD i.toNat 0]:Ξ).length/\ ([R.getD i.toNat 0]:Ξ).length<=Ay)/\ (0<=(R.getD i.toNat 0)/\ (R.getD i.toNat 0)<(K.length:Int)) then bif (K.getD ((R.getD i.toNat 0).toNat) false) then if AG (x8+1)/\ AG (i+1) then self (.l3 H K (([R.getD i.toNat 0]:Ξ).length) (x8+1) x20 x21 R O (i+1) o1 ([R.getD i.toNat 0]:Ξ)) else none else if AG (i+1) then self (.l3 H K (([R.getD i.toNat 0]:Ξ).length) x8 x20 x21 R O (i+1) o1 ([R.getD i.toNat 0]:Ξ)) else none else none else if 0<=(R.getD i.toNat 0)/\ (R.getD i.toNat 0)<(K.length:Int) then bif (K.getD ((R.getD i.toNat 0).toNat) false) then if AG (x8+1)/\ AG (i+1) then self (.l2 H K (x8+1) x20 x21 R O (i+1) o1) else none else if AG (i+1) then self (.l2 H K x8 x20 x21 R O (i+1) o1) else none else none else none else some (false,o1)
def Ph (n:Nat)(self:Nn -> Option (Bool×Ξ))(c:AD)(q:AA)(pos:Ξ)(ln:Nat)(lost:Ξ)(H K:Ω)(U:Nat)(x8 x20 x21:Int)(R:Ξ)(O i:Int)(o1 F:Ξ):Option (Bool×Ξ):= bif (decide (i<O)) then if (0<=i/\ i<(R.length:Int))/\ (0<=(R.getD i.toNat 0)/\ (R.getD i.toNat 0)<(H.length:Int)) then bif (H.getD ((R.getD i.toNat 0).toNat) false) then if ((0=0/\ 1=([R.getD i.toNat 0]:Ξ).length)/\ (0=0/\ U=F.length)/\ F.length+([R.getD i.toNat 0]:Ξ).length<=Ay)/\ (0<=(R.getD i.toNat 0)/\ (R.getD i.toNat 0)<(K.length:Int)) then bif (K.getD ((R.getD i.toNat 0).toNat) false) then if AG (x8+1)/\ AG (i+1) then self (.l3 H K (F.length+([R.getD i.toNat 0]:Ξ).length) (x8+1) x20 x21 R O (i+1) o1 (F++([R.getD i.toNat 0]:Ξ))) else none else if AG (i+1) then self (.l3 H K (F.length+([R.getD i.toNat 0]:Ξ).length) x8 x20 x21 R O (i+1) o1 (F++([R.getD i.toNat 0]:Ξ))) else none else none else if 0<=(R.getD i.toNat 0)/\ (R.getD i.toNat 0)<(K.length:Int) then bif (K.getD ((R.getD i.toNat 0).toNat) false) then if AG (x8+1)/\ AG (i+1) then self (.l3 H K U (x8+1) x20 x21 R O (i+1) o1 F) else none else if AG (i+1) then self (.l3 H K U x8 x20 x21 R O (i+1) o1 F) else none else none else none else bif (decide ((U:Int)<2)) then some (false,o1) else bif (decide (x8>2)) then some (false,o1) else self (.l4 H K U x8 x20 x21 U (U:Int) 0 o1 F)
def Vs (n:Nat)(self:Nn -> Option (Bool×Ξ))(c:AD)(q:AA)(pos:Ξ)(ln:Nat)(lost:Ξ)(H K:Ω)(U:Nat)(x8 x20 x21:Int)(b:Nat)(L a:Int)(o1 F:Ξ):Option (Bool×Ξ):= bif (decide (a<L)) then if (0<=a/\ a<(b:Int))/\ 0+a.toNat<F.length then bif ((U:Int)==2) then (Hc n (F.getD (0+a.toNat) 0) c q pos ln o1).bind λj=> bif (x8==2) then if 0<=(F.getD (0+a.toNat) 0)/\ (F.getD (0+a.toNat) 0)<(K.length:Int) then bif (!(K.getD ((F.getD (0+a.toNat) 0).toNat) false)) then (D7 n (F.getD (0+a.toNat) 0) c.set c q pos ln j).bind λG=> if AG (a+1) then self (.l4 H K U x8 x20 x21 b L (a+1) G F) else none else if AG (a+1) then self (.l4 H K U x8 x20 x21 b L (a+1) j F) else none else none else if AG (a+1) then self (.l4 H K U x8 x20 x21 b L (a+1) j F) else none else bif (x8==2) then if 0<=(F.getD (0+a.toNat) 0)/\ (F.getD (0+a.toNat) 0)<(K.length:Int) then bif (!(K.getD ((F.getD (0+a.toNat) 0).toNat) false)) then (D7 n (F.getD (0+a.toNat) 0) c.set c q pos ln o1).bind λj=> if AG (a+1) then self (.l4 H K U x8 x20 x21 b L (a+1) j F) else none else if AG (a+1) then self (.l4 H K U x8 x20 x21 b L (a+1) o1 F) else none else none else if AG (a+1) then self (.l4 H K U x8 x20 x21 b L (a+1) o1 F) else none else none else if AG (x21+1) then self (.l1 H K x20 (x21+1) o1) else none
def zFB (n:Nat)(self:Nn -> Option (Bool×Ξ))(c:AD)(q:AA)(pos:Ξ)(ln:Nat)(lost:Ξ):Option (Bool×Ξ):= (PX n c q pos ln lost).bind λj=> self (.l1 j.1 j.2.1 (j.2.1.length:Int) 0 j.2.2.2)
def C5 (c:AD)(q:AA)(pos:Ξ)(ln:Nat)(lost:Ξ):Nat -> Nn -> Option (Bool×Ξ)
 | 0,_=>none
 | n+1,.l1 H K x20 x21 o1=>aB n (C5 c q pos ln lost n) c q pos ln lost H K x20 x21 o1
 | n+1,.l2 H K x8 x20 x21 R O i o1=>Vt n (C5 c q pos ln lost n) c q pos ln lost H K x8 x20 x21 R O i o1
 | n+1,.l3 H K U x8 x20 x21 R O i o1 F=>Ph n (C5 c q pos ln lost n) c q pos ln lost H K U x8 x20 x21 R O i o1 F
 | n+1,.l4 H K U x8 x20 x21 a L b o1 F=>Vs n (C5 c q pos ln lost n) c q pos ln lost H K U x8 x20 x21 a L b o1 F
def aC (n:Nat)(c:AD)(q:AA)(pos:Ξ)(ln:Nat)(lost:Ξ):Option (Bool×Ξ):=zFB n (C5 c q pos ln lost n) c q pos ln lost
def zFC (n B:Nat)(N:Yd 2)(c:AD)(q:AA)(pos:Ξ)(ln:Nat)(lost:Ξ)(r:Bool×Ξ):Nn -> Prop
 | .l1 H K x20 x21 o1=>∀ f:Nat,n<=f -> TW B N (FQ Tryz.f114 2 (.bool r.1) [oW c q pos 1 ln,oI r.2]) (Ag f (An (AR Tryz.f114) 0 [])) ⟨AF 95 [(0,.ref 0 0),(3,.bools H),(4,.bools K),(20,.i x20),(21,.i x21)],[oW c q pos 1 ln,oI o1]⟩
 | .l2 H K x8 x20 x21 R O a o1=>∀ f Y:Nat,n<=f -> n<=Y -> TW B N (FQ Tryz.f114 2 (.bool r.1) [oW c q pos 1 ln,oI r.2]) (Ag Y (An (AR Tryz.f114) 2 [f])) ⟨AF 95 [(0,.ref 0 0),(3,.bools H),(4,.bools K),(7,.nils),(8,.i x8),(20,.i x20),(21,.i x21),(36,.ints R),(37,.i O),(38,.i a)],[oW c q pos 1 ln,oI o1]⟩
 | .l3 H K U x8 x20 x21 R O a o1 F=>∀ f Y:Nat,n<=f -> n<=Y -> TW B N (FQ Tryz.f114 2 (.bool r.1) [oW c q pos 1 ln,oI r.2]) (Ag Y (An (AR Tryz.f114) 2 [f])) ⟨AF 95 [(0,.ref 0 0),(3,.bools H),(4,.bools K),(7,.msl 2 1 0 U),(8,.i x8),(20,.i x20),(21,.i x21),(36,.ints R),(37,.i O),(38,.i a)],[oW c q pos 1 ln,oI o1,oI F]⟩
 | .l4 H K U x8 x20 x21 b L d o1 F=>∀ f Y:Nat,n<=f -> n<=Y -> TW B N (FQ Tryz.f114 2 (.bool r.1) [oW c q pos 1 ln,oI r.2]) (Ag Y (An (AR Tryz.f114) 4 [f])) ⟨AF 95 [(0,.ref 0 0),(3,.bools H),(4,.bools K),(7,.msl 2 1 0 U),(8,.i x8),(20,.i x20),(21,.i x21),(64,.msl 2 1 0 b),(65,.i L),(66,.i d)],[oW c q pos 1 ln,oI o1,oI F]⟩
def zFD (B:Nat)(N:Yd 2)(c:AD)(q:AA)(pos:Ξ)(ln:Nat)(lost:Ξ):Al (C5 c q pos ln lost) (zFC · B N c q pos ln lost):=ia (λ_=>rfl) λn C A r h=>by
 cases A
 case l1 x3 x4 x20 x21 o1=>
  intro f a;refine rd a λf a=>?_
  revert r;apply gO;exact bi 22 (gi (bi 28 (gw 94 (lG AC [0,1] (C _ _ · f a))) (gi (lN AC [0,1] (C _ _ · f n a Nat.le.refl))))) (lE AC [2] [0,1])
 case l2 x3 x4 x8 x20 x21 Bs Eg BL o1=>
  intro f Y a x;have a:=zGf a;refine rd x λY x=>?_
  revert r;apply gO;exact bi 39 (gc (gi (gi (bi 45 (gc (gi (gi (bi 53 (gc (gw 55 (gw 56 (lG AC [0,1,3] (C _ _ · f Y a x))))) (gw 56 (lG AC [0,1,3] (C _ _ · f Y a x))))))) (gi (bi 53 (gc (gw 55 (gw 56 (lG AC [0,1] (C _ _ · f Y a x))))) (gw 56 (lG AC [0,1] (C _ _ · f Y a x))))))))) (lE AC [2] [0,1])
 case l3 x3 x4 x7 x8 x20 x21 Bs Eg BL o1 o2=>
  intro f Y a x;have a:=zGf a;refine rd x λY x=>?_
  revert r;apply gO;exact bi 39 (gc (gi (gi (bi 45 (gc (gi (gi (bi 53 (gc (gw 55 (gw 56 (lG AC [0,1,4] (C _ _ · f Y a x))))) (gw 56 (lG AC [0,1,4] (C _ _ · f Y a x))))))) (gi (bi 53 (gc (gw 55 (gw 56 (lG AC [0,1,2] (C _ _ · f Y a x))))) (gw 56 (lG AC [0,1,2] (C _ _ · f Y a x))))))))) (bi 59 (lE AC [2] [0,1]) (bi 62 (lE AC [2] [0,1]) (lN AC [0,1,2] (C _ _ · f n a Nat.le.refl))))
 case l4 x3 x4 x7 x8 x20 x21 ID IB Ap o1 o2=>
  intro f Y a x;have a:=zGf a;refine rd x λY x=>?_
  revert r;apply gO;exact bi 67 (gc (gi (gi (bi 72 (ce Ni [0,1] [oW c q pos 1 ln,oI o1,oI o2] λj=>bi 77 (gi (bi 83 (ce Gy [0,1] [oW c q pos 1 ln,oI j,oI o2] λ_=>gw 93 (lG AC [0,1,2] (C _ _ · f Y a x))) (gw 93 (lG AC [0,1,2] (C _ _ · f Y a x))))) (gw 93 (lG AC [0,1,2] (C _ _ · f Y a x)))) (bi 77 (gi (bi 83 (ce Gy [0,1] [oW c q pos 1 ln,oI o1,oI o2] λ_=>gw 93 (lG AC [0,1,2] (C _ _ · f Y a x))) (gw 93 (lG AC [0,1,2] (C _ _ · f Y a x))))) (gw 93 (lG AC [0,1,2] (C _ _ · f Y a x)))))))) (gw 94 (lG AC [0,1] (C _ _ · f a)))
def zFA (h:aC n c q pos ln lost=some r):EQ 114 [.ref 0 0] [oW c q pos 1 ln,oI lost] (.bool r.1) [oW c q pos 1 ln,oI r.2] false:=by
 refine ot Tryz.func114 λB N=>?_
 revert r;apply gO;exact ce ri [0,1] [oW c q pos 1 ln,oI lost] λ_=>lN AC [0,1] ((zFD B N c q pos ln lost n) _ _ · n Nat.le.refl)
end
end Go.Proofs.YtodinaconebmdaaGreatDoor
