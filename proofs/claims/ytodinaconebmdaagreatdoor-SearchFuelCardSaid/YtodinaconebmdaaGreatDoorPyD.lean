/- Part 4 of 7 of what the proofs of these laws stand on. -/
import Derived.Test.YtodinaconebmdaaGreatDoorPyC
import Derived.Laws.BitsLemmas
import Derived.Shelf.Sort.Plain
set_option linter.all false
namespace Go.Proofs.YtodinaconebmdaaGreatDoor
open Go.RowKit
set_option maxRecDepth 100000
set_option maxHeartbeats 40000000
theorem uz:Az (A4 Tryz.f128 1) [] (List.range 18) []:=by unfold Az;kernel_rfl
def tX:Bi:=fun i=>match i with
 | 1=>.ord [] (List.range 18) []
 | _=>.no
def qj (n:Nat)(s_ t_:Int)(c:AB)(q:AA)(pos:List Int)(ln:Nat)(lost:List Int):Option (Bool×(List Int)):= if (0<=s_/\ s_<(q.values.length:Int))/\ (0<=t_/\ t_<(q.values.length:Int))/\ AH ((q.values.getD ((s_).toNat) 0)-(q.values.getD ((t_).toNat) 0))/\ AH (0-((q.values.getD ((s_).toNat) 0)-(q.values.getD ((t_).toNat) 0))) then some ((decide ((if (0-((q.values.getD ((s_).toNat) 0)-(q.values.getD ((t_).toNat) 0)))>((q.values.getD ((s_).toNat) 0)-(q.values.getD ((t_).toNat) 0)) then (0-((q.values.getD ((s_).toNat) 0)-(q.values.getD ((t_).toNat) 0))) else ((q.values.getD ((s_).toNat) 0)-(q.values.getD ((t_).toNat) 0)))>=c.lo)),lost) else none
def ZS (n:Nat)(s_ t_:Int)(c:AB)(q:AA)(pos:List Int)(ln:Nat)(lost:List Int):Option (Bool×(List Int)):=qj n s_ t_ c q pos ln lost
theorem zE5 {n:Nat}{s_ t_:Int}{c:AB}{q:AA}{pos:List Int}{ln:Nat}{lost:List Int}{r:Bool×(List Int)}(h:ZS n s_ t_ c q pos ln lost=some r):EQ 128 [.i s_,.i t_,.ref 0 0] [oC [.ref 1 0],oW c q pos 2 ln,oI lost] (.bool r.1) [oC [.ref 1 0],oW c q pos 2 ln,oI r.2] false:=by
 refine ot Tryz.func128 fun B N=>?_
 revert r;apply gO;exact jg uz (gc (gi (gc (gi (gc (gw 23 (gw 26 (lE tX [5] [0,1,2]))))))))
theorem ue:Az (A4 Tryz.f129 1) [] (List.range 6) []:=by unfold Az;kernel_rfl
def TK:Bi:=fun i=>match i with
 | 1=>.ord [] (List.range 6) []
 | _=>.no
def ly (n:Nat)(s_ t_:Int)(c:AB)(q:AA)(pos:List Int)(ln:Nat)(lost:List Int):Option (Bool×(List Int)):= if (0<=s_/\ s_<=(IntKind.i64.bits:Int))/\ (0<=t_/\ t_<=(IntKind.i64.bits:Int)) then bif ((bits .and .i64 (IntKind.i64.wrap (1*2 ^ (s_).toNat)) c.set)==0) then bif ((bits .and .i64 (IntKind.i64.wrap (1*2 ^ (t_).toNat)) c.set)==0) then some (true,lost) else some (((bits .and .i64 (IntKind.i64.wrap (1*2 ^ (s_).toNat)) c.other)==0),lost) else bif ((bits .and .i64 (IntKind.i64.wrap (1*2 ^ (t_).toNat)) c.other)==0) then bif ((bits .and .i64 (IntKind.i64.wrap (1*2 ^ (t_).toNat)) c.set)==0) then some (true,lost) else some (((bits .and .i64 (IntKind.i64.wrap (1*2 ^ (s_).toNat)) c.other)==0),lost) else some (false,lost) else none
def Xd (n:Nat)(s_ t_:Int)(c:AB)(q:AA)(pos:List Int)(ln:Nat)(lost:List Int):Option (Bool×(List Int)):=ly n s_ t_ c q pos ln lost
theorem xg {n:Nat}{s_ t_:Int}{c:AB}{q:AA}{pos:List Int}{ln:Nat}{lost:List Int}{r:Bool×(List Int)}(h:Xd n s_ t_ c q pos ln lost=some r):EQ 129 [.i s_,.i t_,.ref 0 0] [oC [.ref 1 0],oW c q pos 2 ln,oI lost] (.bool r.1) [oC [.ref 1 0],oW c q pos 2 ln,oI r.2] false:=by
 refine ot Tryz.func129 fun B N=>?_
 revert r;apply gO;exact jg ue (gc (gi (gi (bi 19 (bi 38 (lE TK [5] [0,1,2]) (lE TK [5] [0,1,2])) (bi 28 (bi 38 (lE TK [5] [0,1,2]) (lE TK [5] [0,1,2])) (lE TK [5] [0,1,2]))))))
theorem uc:Az (A4 Tryz.f127 1) [] (List.range 16) []:=by unfold Az;kernel_rfl
theorem uZ:Az (A4 Tryz.f127 2) [([0,1,2,3,4,5,6,7,8,9,10,11,12,13],14)] [15] [16]:=by unfold Az;kernel_rfl
theorem uY:Az (A4 Tryz.f127 9) [] [0,1,2,3] [4]:=by unfold Az;kernel_rfl
theorem ub:Az (A4 Tryz.f127 10) [] [0,1,2,3] [4]:=by unfold Az;kernel_rfl
def MU:Bi:=fun i=>match i with
 | 1=>.ord [] (List.range 16) []
 | 2=>.ord [([0,1,2,3,4,5,6,7,8,9,10,11,12,13],14)] [15] [16]
 | 9=>.ord [] [0,1,2,3] [4]
 | 10=>.ord [] [0,1,2,3] [4]
 | _=>.no
def zBW (c:AB)(q:AA)(pos:List Int)(ln:Nat)(lost:List Int):DH:=[oC [.ref 1 0],oW c q pos 2 ln,oI lost,oC [.fn 128 1 (L1 [.ref 0 0])],oC [.i (pos.getD ((c.cells.getD 1 0).toNat) 0)],oC [.i 0],oC [.i 0]]
def zBV (c:AB)(q:AA)(pos:List Int)(ln:Nat)(lost:List Int):DH:=[oC [.ref 1 0],oW c q pos 2 ln,oI lost,oC [.fn 128 1 (L1 [.ref 0 0])],oC [.i (pos.getD ((c.cells.getD 1 0).toNat) 0)],oC [.i 0],oC [.i 0],some (.iter ((Be (pos.getD ((c.cells.getD 0 0).toNat) 0)).map Bj))]
def zBU (c:AB)(q:AA)(pos:List Int)(ln:Nat)(D7:List Int)(D6 Fm:Int):DH:=[oC [.ref 1 0],oW c q pos 2 ln,oI D7,oC [.fn 128 1 (L1 [.ref 0 0])],oC [.i (pos.getD ((c.cells.getD 1 0).toNat) 0)],oC [.i D6],oC [.i Fm],none]
def zBT (c:AB)(q:AA)(pos:List Int)(ln:Nat)(y2:(List Int))(D6 Fm:Int):DH:=[oC [.ref 1 0],oW c q pos 2 ln,oI y2,oC [.fn 128 1 (L1 [.ref 0 0])],oC [.i (pos.getD ((c.cells.getD 1 0).toNat) 0)],oC [.i D6],oC [.i Fm],none]
def nX (c:AB)(q:AA)(pos:List Int)(ln:Nat)(Cq:List Int)(Cp Co A2:Int):DH:=[oC [.ref 1 0],oW c q pos 2 ln,oI Cq,oC [.fn 128 1 (L1 [.ref 0 0])],oC [.i (pos.getD ((c.cells.getD 1 0).toNat) 0)],oC [.i Cp],oC [.i Co],none,oC [.i A2]]
def zBS (c:AB)(q:AA)(pos:List Int)(ln:Nat)(Cq:List Int)(Cp Co A2:Int):DH:=[oC [.ref 1 0],oW c q pos 2 ln,oI Cq,oC [.fn 128 1 (L1 [.ref 0 0])],oC [.i (pos.getD ((c.cells.getD 1 0).toNat) 0)],oC [.i Cp],oC [.i Co],none,oC [.i A2],some (.iter ((Be (pos.getD ((c.cells.getD 1 0).toNat) 0)).map Bj))]
def nW (c:AB)(q:AA)(pos:List Int)(ln:Nat)(Du:List Int)(DZ DY A2:Int):DH:=[oC [.ref 1 0],oW c q pos 2 ln,oI Du,oC [.fn 128 1 (L1 [.ref 0 0])],oC [.i (pos.getD ((c.cells.getD 1 0).toNat) 0)],oC [.i DZ],oC [.i DY],none,oC [.i A2],none]
inductive LH where
 | s0 (Du:List Int) (DZ DY:Int)
def lY (c:AB)(q:AA)(pos:List Int)(ln:Nat)(A2:Int):LH -> DH
 | .s0 Du DZ DY=>[oC [.ref 1 0],oW c q pos 2 ln,oI Du,oC [.fn 128 1 (L1 [.ref 0 0])],oC [.i (pos.getD ((c.cells.getD 1 0).toNat) 0)],oC [.i DZ],oC [.i DY],none,oC [.i A2],none]
def XM (n:Nat)(c:AB)(q:AA)(pos:List Int)(ln:Nat)(A2 Dc:Int)(Du:List Int)(DZ DY:Int):Option LH:= (ZS n A2 Dc c q pos ln Du).bind fun Pr=> bif Pr.1 then if (0<=A2/\ A2<=(IntKind.i64.bits:Int))/\ (0<=Dc/\ Dc<=(IntKind.i64.bits:Int)) then some (.s0 Pr.2 (bits .or .i64 DZ (IntKind.i64.wrap (1*2 ^ (A2).toNat))) (bits .or .i64 DY (IntKind.i64.wrap (1*2 ^ (Dc).toNat)))) else none else some (.s0 Pr.2 DZ DY)
def lX (n:Nat)(c:AB)(q:AA)(pos:List Int)(ln:Nat)(A2 Dc:Int):LH -> Option LH
 | .s0 Du DZ DY=>XM n c q pos ln A2 Dc Du DZ DY
def XN (n:Nat)(c:AB)(q:AA)(pos:List Int)(ln:Nat)(A2 Dc:Int)(s:LH):Option LH:=lX n c q pos ln A2 Dc s
theorem xE (n:Nat)(c:AB)(q:AA)(pos:List Int)(ln:Nat)(A2:Int)(l B:Nat)(N:Yd 10)(Dc:Int)(s:LH)(r:LH)(h:XN n c q pos ln A2 Dc s=some r):TA l B N (Cf 10 [] 0 (lY c q pos ln A2 r)) Tryz.f127 45 ⟨AF 69 [(3,.ref 3 0),(9,.ref 5 0),(10,.ref 6 0),(11,.ref 8 0),(45,.it 9),(46,.i Dc)],lY c q pos ln A2 s⟩:=by
 cases s with
 | s0 Du DZ DY=>
  replace h:XM n c q pos ln A2 Dc Du DZ DY=some r:=h;unfold XM at h;refine ag MU [0,1,2,3,4,5,6,7,8,9] H0 (AF 69 [(3,.ref 3 0),(9,.ref 5 0),(10,.ref 6 0),(11,.ref 8 0),(12,.i Dc)]) (nW c q pos ln Du DZ DY A2) fun N=>?_
  revert r;apply gO;exact ce zE5 [0,1,2] (nW c q pos ln Du DZ DY A2) fun _=>bi 50 (jg uY (gc (gi (jt (jg ub (gi (jt (lF fun p=>rr MU [0,1,2,3,4,5,6,7,8,9] rfl p)))))))) (lF fun p=>rr MU [0,1,2,3,4,5,6,7,8,9] rfl p)
inductive LI where
 | s0 (Cq:List Int) (Cp Co:Int)
def lZ (c:AB)(q:AA)(pos:List Int)(ln:Nat):LI -> DH
 | .s0 Cq Cp Co=>[oC [.ref 1 0],oW c q pos 2 ln,oI Cq,oC [.fn 128 1 (L1 [.ref 0 0])],oC [.i (pos.getD ((c.cells.getD 1 0).toNat) 0)],oC [.i Cp],oC [.i Co],none]
def XL (n:Nat)(c:AB)(q:AA)(pos:List Int)(ln:Nat)(A2:Int)(Cq:List Int)(Cp Co:Int):Option LI:=
 if 0<=(pos.getD ((c.cells.getD 1 0).toNat) 0)/\ (pos.getD ((c.cells.getD 1 0).toNat) 0)<9223372036854775808 then
  (B9 (XN n c q pos ln A2) (Be (pos.getD ((c.cells.getD 1 0).toNat) 0)) (.s0 Cq Cp Co)).bind fun Ps=>
   match Ps with
   | .s0 Vx Vw Vv=>
    some (.s0 Vx Vw Vv)
 else none
def lW (n:Nat)(c:AB)(q:AA)(pos:List Int)(ln:Nat)(A2:Int):LI -> Option LI
 | .s0 Cq Cp Co=>XL n c q pos ln A2 Cq Cp Co
def XO (n:Nat)(c:AB)(q:AA)(pos:List Int)(ln:Nat)(A2:Int)(s:LI):Option LI:=lW n c q pos ln A2 s
theorem xD (n:Nat)(c:AB)(q:AA)(pos:List Int)(ln:Nat)(l B:Nat)(N:Yd 8)(A2:Int)(s:LI)(r:LI)(h:XO n c q pos ln A2 s=some r):TA l B N (Cf 8 [] 0 (lZ c q pos ln r)) Tryz.f127 42 ⟨AF 69 [(0,.ref 1 0),(3,.ref 3 0),(5,.i (c.cells.getD 0 0)),(6,.i (c.cells.getD 1 0)),(8,.ref 4 0),(9,.ref 5 0),(10,.ref 6 0),(42,.it 7),(43,.i A2)],lZ c q pos ln s⟩:=by
 cases s with
 | s0 Cq Cp Co=>
  replace h:XL n c q pos ln A2 Cq Cp Co=some r:=h;unfold XL at h;refine ag MU [0,1,2,3,4,5,6,7,8] (H0.t) (AF 69 [(3,.ref 3 0),(8,.ref 4 0),(9,.ref 5 0),(10,.ref 6 0),(11,.ref 8 0)]) (nX c q pos ln Cq Cp Co A2) fun N=>?_
  revert r;apply gO
  exact gn fun fS=>jc (Kv fS (nX c q pos ln Cq Cp Co A2)) (cn fun Ps dx=>fun p r h=>by
   refine gs MU [0,1,2,3,4,5,6,7,8,9] p (GZ (OL Tryz.f127 42) 45 []) (AF 69 [(3,.ref 3 0),(9,.ref 5 0),(10,.ref 6 0),(11,.ref 8 0),(45,.it 9)]) (zBS c q pos ln Cq Cp Co A2) ?_;refine r0 9 45 #[46] Bj 10 dx (xE n c q pos ln A2) ?_;cases Ps with
   | s0 Vx Vw Vv=>
    dsimp only at h
    revert r;apply gO;exact lF fun p=>rr MU [0,1,2,3,4,5,6,7] rfl p)
def lV (n:Nat)(c:AB)(q:AA)(pos:List Int)(ln:Nat)(lost:List Int):Option (Bool×(List Int)):=
 if ((0:Int)<=0/\ 0<(c.cells.length:Int))/\ ((0:Int)<=1/\ 1<(c.cells.length:Int))/\ (0<=(c.cells.getD 0 0)/\ (c.cells.getD 0 0)<(pos.length:Int))/\ (0<=(c.cells.getD 1 0)/\ (c.cells.getD 1 0)<(pos.length:Int))/\ (0<=(pos.getD ((c.cells.getD 0 0).toNat) 0)/\ (pos.getD ((c.cells.getD 0 0).toNat) 0)<9223372036854775808) then
  (B9 (XO n c q pos ln) (Be (pos.getD ((c.cells.getD 0 0).toNat) 0)) (.s0 lost 0 0)).bind fun y1=>
   match y1 with
   | .s0 D7 D6 Fm=>
    (Dn n (c.cells.getD 0 0) (bits .xor .i64 (-1) D6) c q pos ln D7).bind fun y2=>
     (Dn n (c.cells.getD 1 0) (bits .xor .i64 (-1) Fm) c q pos ln y2).bind fun y3=>
      some (true,y3)
 else none
def aw (n:Nat)(c:AB)(q:AA)(pos:List Int)(ln:Nat)(lost:List Int):Option (Bool×(List Int)):=lV n c q pos ln lost
theorem xC {n:Nat}{c:AB}{q:AA}{pos:List Int}{ln:Nat}{lost:List Int}{r:Bool×(List Int)}(h:aw n c q pos ln lost=some r):EQ 127 [.ref 1 0,.fn 128 1 (L1 [.ref 0 0])] [oC [.ref 1 0],oW c q pos 2 ln,oI lost] (.bool r.1) [oC [.ref 1 0],oW c q pos 2 ln,oI r.2] false:=by
 refine ot Tryz.func127 fun B N=>?_
 revert r;apply gO
 exact jg uc (gc (gi (gc (gi (jg uZ (gc (gi (gc (gi (jt (gn fun g4=>jc (Kv g4 (zBW c q pos ln lost)) (cn fun y1 Au=>fun p r h=>by
  refine gs MU [0,1,2,3,4,5,6,7] p (GZ (AY Tryz.f127) 42 []) (AF 69 [(0,.ref 1 0),(3,.ref 3 0),(5,.i (c.cells.getD 0 0)),(6,.i (c.cells.getD 1 0)),(8,.ref 4 0),(9,.ref 5 0),(10,.ref 6 0),(42,.it 7)]) (zBV c q pos ln lost) ?_;refine r0 7 42 #[43] Bj 8 Au (xD n c q pos ln) ?_;cases y1 with
  | s0 D7 D6 Fm=>
   dsimp only at h
   revert r;apply gO;exact ce GN [1,2] (zBU c q pos ln D7 D6 Fm) fun y2=>ce GN [1,2] (zBT c q pos ln y2 D6 Fm) fun _=>lE MU [4] [0,1,2]))))))))))))
theorem uX:Az (A4 Tryz.f127 1) [] (List.range 16) []:=by unfold Az;kernel_rfl
theorem uV:Az (A4 Tryz.f127 2) [([0,1,2,3,4,5,6,7,8,9,10,11,12,13],14)] [15] [16]:=by unfold Az;kernel_rfl
theorem uU:Az (A4 Tryz.f127 9) [] [0,1,2,3] [4]:=by unfold Az;kernel_rfl
theorem uW:Az (A4 Tryz.f127 10) [] [0,1,2,3] [4]:=by unfold Az;kernel_rfl
def MR:Bi:=fun i=>match i with
 | 1=>.ord [] (List.range 16) []
 | 2=>.ord [([0,1,2,3,4,5,6,7,8,9,10,11,12,13],14)] [15] [16]
 | 9=>.ord [] [0,1,2,3] [4]
 | 10=>.ord [] [0,1,2,3] [4]
 | _=>.no
def zBR (c:AB)(q:AA)(pos:List Int)(ln:Nat)(lost:List Int):DH:=[oC [.ref 1 0],oW c q pos 2 ln,oI lost,oC [.fn 129 1 (L1 [.ref 0 0])],oC [.i (pos.getD ((c.cells.getD 1 0).toNat) 0)],oC [.i 0],oC [.i 0]]
def zBQ (c:AB)(q:AA)(pos:List Int)(ln:Nat)(lost:List Int):DH:=[oC [.ref 1 0],oW c q pos 2 ln,oI lost,oC [.fn 129 1 (L1 [.ref 0 0])],oC [.i (pos.getD ((c.cells.getD 1 0).toNat) 0)],oC [.i 0],oC [.i 0],some (.iter ((Be (pos.getD ((c.cells.getD 0 0).toNat) 0)).map Bj))]
def zBP (c:AB)(q:AA)(pos:List Int)(ln:Nat)(D7:List Int)(D6 Fm:Int):DH:=[oC [.ref 1 0],oW c q pos 2 ln,oI D7,oC [.fn 129 1 (L1 [.ref 0 0])],oC [.i (pos.getD ((c.cells.getD 1 0).toNat) 0)],oC [.i D6],oC [.i Fm],none]
def zBO (c:AB)(q:AA)(pos:List Int)(ln:Nat)(y2:(List Int))(D6 Fm:Int):DH:=[oC [.ref 1 0],oW c q pos 2 ln,oI y2,oC [.fn 129 1 (L1 [.ref 0 0])],oC [.i (pos.getD ((c.cells.getD 1 0).toNat) 0)],oC [.i D6],oC [.i Fm],none]
def nV (c:AB)(q:AA)(pos:List Int)(ln:Nat)(Cq:List Int)(Cp Co A2:Int):DH:=[oC [.ref 1 0],oW c q pos 2 ln,oI Cq,oC [.fn 129 1 (L1 [.ref 0 0])],oC [.i (pos.getD ((c.cells.getD 1 0).toNat) 0)],oC [.i Cp],oC [.i Co],none,oC [.i A2]]
def zBN (c:AB)(q:AA)(pos:List Int)(ln:Nat)(Cq:List Int)(Cp Co A2:Int):DH:=[oC [.ref 1 0],oW c q pos 2 ln,oI Cq,oC [.fn 129 1 (L1 [.ref 0 0])],oC [.i (pos.getD ((c.cells.getD 1 0).toNat) 0)],oC [.i Cp],oC [.i Co],none,oC [.i A2],some (.iter ((Be (pos.getD ((c.cells.getD 1 0).toNat) 0)).map Bj))]
def nU (c:AB)(q:AA)(pos:List Int)(ln:Nat)(Du:List Int)(DZ DY A2:Int):DH:=[oC [.ref 1 0],oW c q pos 2 ln,oI Du,oC [.fn 129 1 (L1 [.ref 0 0])],oC [.i (pos.getD ((c.cells.getD 1 0).toNat) 0)],oC [.i DZ],oC [.i DY],none,oC [.i A2],none]
inductive LF where
 | s0 (Du:List Int) (DZ DY:Int)
def lT (c:AB)(q:AA)(pos:List Int)(ln:Nat)(A2:Int):LF -> DH
 | .s0 Du DZ DY=>[oC [.ref 1 0],oW c q pos 2 ln,oI Du,oC [.fn 129 1 (L1 [.ref 0 0])],oC [.i (pos.getD ((c.cells.getD 1 0).toNat) 0)],oC [.i DZ],oC [.i DY],none,oC [.i A2],none]
def XI (n:Nat)(c:AB)(q:AA)(pos:List Int)(ln:Nat)(A2 Dc:Int)(Du:List Int)(DZ DY:Int):Option LF:= (Xd n A2 Dc c q pos ln Du).bind fun Pr=> bif Pr.1 then if (0<=A2/\ A2<=(IntKind.i64.bits:Int))/\ (0<=Dc/\ Dc<=(IntKind.i64.bits:Int)) then some (.s0 Pr.2 (bits .or .i64 DZ (IntKind.i64.wrap (1*2 ^ (A2).toNat))) (bits .or .i64 DY (IntKind.i64.wrap (1*2 ^ (Dc).toNat)))) else none else some (.s0 Pr.2 DZ DY)
def lS (n:Nat)(c:AB)(q:AA)(pos:List Int)(ln:Nat)(A2 Dc:Int):LF -> Option LF
 | .s0 Du DZ DY=>XI n c q pos ln A2 Dc Du DZ DY
def XJ (n:Nat)(c:AB)(q:AA)(pos:List Int)(ln:Nat)(A2 Dc:Int)(s:LF):Option LF:=lS n c q pos ln A2 Dc s
theorem xB (n:Nat)(c:AB)(q:AA)(pos:List Int)(ln:Nat)(A2:Int)(l B:Nat)(N:Yd 10)(Dc:Int)(s:LF)(r:LF)(h:XJ n c q pos ln A2 Dc s=some r):TA l B N (Cf 10 [] 0 (lT c q pos ln A2 r)) Tryz.f127 45 ⟨AF 69 [(3,.ref 3 0),(9,.ref 5 0),(10,.ref 6 0),(11,.ref 8 0),(45,.it 9),(46,.i Dc)],lT c q pos ln A2 s⟩:=by
 cases s with
 | s0 Du DZ DY=>
  replace h:XI n c q pos ln A2 Dc Du DZ DY=some r:=h;unfold XI at h;refine ag MR [0,1,2,3,4,5,6,7,8,9] H0 (AF 69 [(3,.ref 3 0),(9,.ref 5 0),(10,.ref 6 0),(11,.ref 8 0),(12,.i Dc)]) (nU c q pos ln Du DZ DY A2) fun N=>?_
  revert r;apply gO;exact ce xg [0,1,2] (nU c q pos ln Du DZ DY A2) fun _=>bi 50 (jg uU (gc (gi (jt (jg uW (gi (jt (lF fun p=>rr MR [0,1,2,3,4,5,6,7,8,9] rfl p)))))))) (lF fun p=>rr MR [0,1,2,3,4,5,6,7,8,9] rfl p)
inductive LG where
 | s0 (Cq:List Int) (Cp Co:Int)
def lU (c:AB)(q:AA)(pos:List Int)(ln:Nat):LG -> DH
 | .s0 Cq Cp Co=>[oC [.ref 1 0],oW c q pos 2 ln,oI Cq,oC [.fn 129 1 (L1 [.ref 0 0])],oC [.i (pos.getD ((c.cells.getD 1 0).toNat) 0)],oC [.i Cp],oC [.i Co],none]
def XH (n:Nat)(c:AB)(q:AA)(pos:List Int)(ln:Nat)(A2:Int)(Cq:List Int)(Cp Co:Int):Option LG:=
 if 0<=(pos.getD ((c.cells.getD 1 0).toNat) 0)/\ (pos.getD ((c.cells.getD 1 0).toNat) 0)<9223372036854775808 then
  (B9 (XJ n c q pos ln A2) (Be (pos.getD ((c.cells.getD 1 0).toNat) 0)) (.s0 Cq Cp Co)).bind fun Ps=>
   match Ps with
   | .s0 Vx Vw Vv=>
    some (.s0 Vx Vw Vv)
 else none
def lR (n:Nat)(c:AB)(q:AA)(pos:List Int)(ln:Nat)(A2:Int):LG -> Option LG
 | .s0 Cq Cp Co=>XH n c q pos ln A2 Cq Cp Co
def XK (n:Nat)(c:AB)(q:AA)(pos:List Int)(ln:Nat)(A2:Int)(s:LG):Option LG:=lR n c q pos ln A2 s
theorem xA (n:Nat)(c:AB)(q:AA)(pos:List Int)(ln:Nat)(l B:Nat)(N:Yd 8)(A2:Int)(s:LG)(r:LG)(h:XK n c q pos ln A2 s=some r):TA l B N (Cf 8 [] 0 (lU c q pos ln r)) Tryz.f127 42 ⟨AF 69 [(0,.ref 1 0),(3,.ref 3 0),(5,.i (c.cells.getD 0 0)),(6,.i (c.cells.getD 1 0)),(8,.ref 4 0),(9,.ref 5 0),(10,.ref 6 0),(42,.it 7),(43,.i A2)],lU c q pos ln s⟩:=by
 cases s with
 | s0 Cq Cp Co=>
  replace h:XH n c q pos ln A2 Cq Cp Co=some r:=h;unfold XH at h;refine ag MR [0,1,2,3,4,5,6,7,8] (H0.t) (AF 69 [(3,.ref 3 0),(8,.ref 4 0),(9,.ref 5 0),(10,.ref 6 0),(11,.ref 8 0)]) (nV c q pos ln Cq Cp Co A2) fun N=>?_
  revert r;apply gO
  exact gn fun fS=>jc (Kv fS (nV c q pos ln Cq Cp Co A2)) (cn fun Ps dx=>fun p r h=>by
   refine gs MR [0,1,2,3,4,5,6,7,8,9] p (GZ (OL Tryz.f127 42) 45 []) (AF 69 [(3,.ref 3 0),(9,.ref 5 0),(10,.ref 6 0),(11,.ref 8 0),(45,.it 9)]) (zBN c q pos ln Cq Cp Co A2) ?_;refine r0 9 45 #[46] Bj 10 dx (xB n c q pos ln A2) ?_;cases Ps with
   | s0 Vx Vw Vv=>
    dsimp only at h
    revert r;apply gO;exact lF fun p=>rr MR [0,1,2,3,4,5,6,7] rfl p)
def lQ (n:Nat)(c:AB)(q:AA)(pos:List Int)(ln:Nat)(lost:List Int):Option (Bool×(List Int)):=
 if ((0:Int)<=0/\ 0<(c.cells.length:Int))/\ ((0:Int)<=1/\ 1<(c.cells.length:Int))/\ (0<=(c.cells.getD 0 0)/\ (c.cells.getD 0 0)<(pos.length:Int))/\ (0<=(c.cells.getD 1 0)/\ (c.cells.getD 1 0)<(pos.length:Int))/\ (0<=(pos.getD ((c.cells.getD 0 0).toNat) 0)/\ (pos.getD ((c.cells.getD 0 0).toNat) 0)<9223372036854775808) then
  (B9 (XK n c q pos ln) (Be (pos.getD ((c.cells.getD 0 0).toNat) 0)) (.s0 lost 0 0)).bind fun y1=>
   match y1 with
   | .s0 D7 D6 Fm=>
    (Dn n (c.cells.getD 0 0) (bits .xor .i64 (-1) D6) c q pos ln D7).bind fun y2=>
     (Dn n (c.cells.getD 1 0) (bits .xor .i64 (-1) Fm) c q pos ln y2).bind fun y3=>
      some (true,y3)
 else none
def av (n:Nat)(c:AB)(q:AA)(pos:List Int)(ln:Nat)(lost:List Int):Option (Bool×(List Int)):=lQ n c q pos ln lost
theorem w6 {n:Nat}{c:AB}{q:AA}{pos:List Int}{ln:Nat}{lost:List Int}{r:Bool×(List Int)}(h:av n c q pos ln lost=some r):EQ 127 [.ref 1 0,.fn 129 1 (L1 [.ref 0 0])] [oC [.ref 1 0],oW c q pos 2 ln,oI lost] (.bool r.1) [oC [.ref 1 0],oW c q pos 2 ln,oI r.2] false:=by
 refine ot Tryz.func127 fun B N=>?_
 revert r;apply gO
 exact jg uX (gc (gi (gc (gi (jg uV (gc (gi (gc (gi (jt (gn fun g4=>jc (Kv g4 (zBR c q pos ln lost)) (cn fun y1 Au=>fun p r h=>by
  refine gs MR [0,1,2,3,4,5,6,7] p (GZ (AY Tryz.f127) 42 []) (AF 69 [(0,.ref 1 0),(3,.ref 3 0),(5,.i (c.cells.getD 0 0)),(6,.i (c.cells.getD 1 0)),(8,.ref 4 0),(9,.ref 5 0),(10,.ref 6 0),(42,.it 7)]) (zBQ c q pos ln lost) ?_;refine r0 7 42 #[43] Bj 8 Au (xA n c q pos ln) ?_;cases y1 with
  | s0 D7 D6 Fm=>
   dsimp only at h
   revert r;apply gO;exact ce GN [1,2] (zBP c q pos ln D7 D6 Fm) fun y2=>ce GN [1,2] (zBO c q pos ln y2 D6 Fm) fun _=>lE MR [4] [0,1,2]))))))))))))
def fh (n:Nat)(c:AB)(q:AA)(pos:List Int)(ln:Nat)(lost:List Int):Option (Bool×(List Int)):= (aw n c q pos ln lost).bind fun y1=> some (y1.1,y1.2)
def Pw (n:Nat)(c:AB)(q:AA)(pos:List Int)(ln:Nat)(lost:List Int):Option (Bool×(List Int)):=fh n c q pos ln lost
theorem zE4 {n:Nat}{c:AB}{q:AA}{pos:List Int}{ln:Nat}{lost:List Int}{r:Bool×(List Int)}(h:Pw n c q pos ln lost=some r):EQ 111 [.ref 0 0] [oW c q pos 1 ln,oI lost] (.bool r.1) [oW c q pos 1 ln,oI r.2] false:=by
 unfold Pw fh at h;refine ot Tryz.func111 fun B N=>?_
 revert r;apply gO;exact ce xC [2,0,1] [oW c q pos 1 ln,oI lost,oC [.ref 0 0]] fun _=>lE AD [2] [0,1]
def bL (n:Nat)(c:AB)(q:AA)(pos:List Int)(ln:Nat)(lost:List Int):Option (Bool×(List Int)):= (av n c q pos ln lost).bind fun y1=> some (y1.1,y1.2)
def Od (n:Nat)(c:AB)(q:AA)(pos:List Int)(ln:Nat)(lost:List Int):Option (Bool×(List Int)):=bL n c q pos ln lost
theorem xf {n:Nat}{c:AB}{q:AA}{pos:List Int}{ln:Nat}{lost:List Int}{r:Bool×(List Int)}(h:Od n c q pos ln lost=some r):EQ 112 [.ref 0 0] [oW c q pos 1 ln,oI lost] (.bool r.1) [oW c q pos 1 ln,oI r.2] false:=by
 unfold Od bL at h;refine ot Tryz.func112 fun B N=>?_
 revert r;apply gO;exact ce w6 [2,0,1] [oW c q pos 1 ln,oI lost,oC [.ref 0 0]] fun _=>lE AD [2] [0,1]
end Go.Proofs.YtodinaconebmdaaGreatDoor
namespace Go.Proofs.YtodinaconebmdaaGreatDoor
abbrev zFt:=@List.drop_zero
open Go.RowKit
set_option maxRecDepth 100000
set_option maxHeartbeats 40000000
def zEp (n:Nat)(s_:List Int):Option Unit:= some ()
def zEr (n:Nat)(s_:List Int):Option Unit:=zEp n s_
theorem zEo {n:Nat}(s_:List Int){r:Unit}(h:zEr n s_=some r):EQ 124 [.ints s_] [] (.fn 135 1 (L1 [.ref 0 0])) [oC [.ints s_]] true:=by
 refine ot Tryz.func124 fun B N=>?_
 revert r;apply gO;exact lE AD [2] [0]
inductive SG where
 | l1 (x3:Int)
def Pq (n:Nat)(self:SG -> Option (List (Int×Int)))(s_:List Int)(x3:Int):Option (List (Int×Int)):= bif (decide (x3>=0)) then if 0<=x3/\ x3<(s_.length:Int) then Option.map (fun l=>(x3,s_.getD ((x3).toNat) 0)::l) (if AH (x3-1) then self (.l1 (x3-1)) else none) else none else some []
def fP (n:Nat)(self:SG -> Option (List (Int×Int)))(s_:List Int):Option (List (Int×Int)):= if AH ((s_.length:Int)-1) then self (.l1 ((s_.length:Int)-1)) else none
def Nb (s_:List Int):Nat -> SG -> Option (List (Int×Int))
 | 0,_=>none
 | n+1,.l1 x3=>Pq n (Nb s_ n) s_ x3
def back (n:Nat)(s_:List Int):Option (List (Int×Int)):=fP n (Nb s_ n) s_
def fQ (C:Df Tryz.prog)(n:Nat)(s_:List Int)(r:List (Int×Int)):SG -> Prop
 | .l1 x3=>∀ m0:Nat,n<=m0 -> ∀ i:Nat,i<=C.encs.length -> C.encs.drop i=r.map Pg -> An Tryz.prog GG Fence.wide none 1 (C.Y GG 1 i) (C.Q GG 1) (Ax m0 (A7 (AY Tryz.f135) 0 [])) ⟨AF 19 [(0,.yl C.l),(1,.ref 0 0),(3,.i x3)],[oC [.ints s_]]⟩
theorem zEl (C:Df Tryz.prog)(n:Nat)(self:SG -> Option (List (Int×Int)))(s_:List Int)(AJ: ∀ pt r,self pt=some r -> fQ C n s_ r pt)(x3:Int)(r:List (Int×Int))(h:Pq n self s_ x3=some r):fQ C (n+1) s_ r (.l1 x3):=by
 intro m0 AC;intro i hi hd;refine rd AC fun m0 AC=>?_
 unfold Pq at h;have p:=H0;rcases C8 h with ⟨c0,h⟩ | ⟨c0,h⟩
 ·have p:=H0.b 8 c0;refine gs (AX 3 AD) [0] p (EU (AY Tryz.f135) 3 [m0]) (AF 19 [(0,.yl C.l),(1,.ref 0 0),(3,.i x3)]) [oC [.ints s_]] ?_;obtain ⟨g0,h⟩:=C1 h;have p:=H0.g g0;obtain ⟨r,h2,rfl⟩:=Qx h;clear h;have h:=h2;clear h2;obtain ⟨hx,hi,hd⟩:=er hd;refine An.y (ops:=A4 Tryz.f135 3) HC.x 6 [0,1,3,18] [0] p (x:=Pg (x3,s_.getD ((x3).toNat) 0)) (AF 19 [(0,.yl C.l),(1,.ref 0 0),(3,.i x3),(18,.bool false)]) [oC [.ints s_]] (AF 19 [(0,.yl C.l),(1,.ref 0 0),(3,.i x3),(18,.bool true)]) [oC [.ints s_]] (by kernel_rfl) (by kernel_rfl) (by kernel_rfl) hx (by kernel_rfl) ?_ ?_
  ·generalize i+1=i at hi hd ⊢
   obtain ⟨g1,h⟩:=C1 h;have p:=H0.w 10 g1;exact gg AD [0] p (AJ _ _ h m0 AC i hi hd)
  ·exact TrI.e HC.x AD 6 H0 (by kernel_rfl) (.inr rfl)
 ·have p:=H0.b 8 c0;cases h;exact TrI.e HC.x AD 10 p (by kernel_rfl) (.inl (by rw [VU hi hd]))
theorem qT (C:Df Tryz.prog)(s_:List Int): ∀ (n:Nat) (pt:SG) (r:List (Int×Int)),Nb s_ n pt=some r -> fQ C n s_ r pt
 | 0,_,_,h=>by cases h
 | n+1,.l1 x3,r,h=>zEl C n (Nb s_ n) s_ (qT C s_ n) x3 r h
theorem zEm {n:Nat}(s_:List Int){r:List (Int×Int)}(h:back n s_=some r)(C:Df Tryz.prog)(hC:C.encs=r.map Pg):An Tryz.prog GG Fence.wide none 1 (C.Y GG 1 0) (C.Q GG 1) [.code (AY Tryz.f135)] ⟨AF 19 [(0,.yl C.l),(1,.ref 0 0)],[oC [.ints s_]]⟩:=by
 suffices H: ∀ i:Nat,i<=C.encs.length -> C.encs.drop i=r.map Pg -> An Tryz.prog GG Fence.wide none 1 (C.Y GG 1 i) (C.Q GG 1) [.code (AY Tryz.f135)] ⟨AF 19 [(0,.yl C.l),(1,.ref 0 0)],[oC [.ints s_]]⟩ from H 0 (zFo _) (by rw [zFt];exact hC)
 intro i hi hd;have AJ:=qT C s_ n;unfold back at h
 generalize Nb s_ n=self at h AJ
 unfold fP at h;obtain ⟨g0,h⟩:=C1 h;have p:=H0.w 6 g0;exact gg AD [0] p (en n (AJ _ _ h n Nat.le.refl i hi hd))
theorem zEq {n:Nat}{s_:List Int}{r:List (Int×Int)}(h:back n s_=some r)(H:DH):EQ 124 [.ints s_] H (.it H.length) (H++[some (.iter (r.map Pg))]) true:=by
 refine ES.iterN (c:=L1 [.ref 0 0]) (h0:=[oC [.ints s_]]) (fn:=Tryz.f135) (zEo (n:=0) s_ (r:=()) rfl) (by kernel_rfl) Tryz.func135 (by kernel_rfl) (by kernel_rfl) (by kernel_rfl) (fun C hC=>?_) H;have e:DV.yl C.l::(List.range 1).map (L1 [.ref 0 0])++List.replicate (Tryz.f135.ntmps-(1+1)) .any=AF 19 [(0,.yl C.l),(1,.ref 0 0)]:=by kernel_rfl
 rw [e];exact zEm s_ h C hC
end Go.Proofs.YtodinaconebmdaaGreatDoor
namespace Go.Proofs.YtodinaconebmdaaGreatDoor
open Go.RowKit
set_option maxRecDepth 100000
set_option maxHeartbeats 40000000
def wH (n:Nat)(g_:List (List Int))(Ak:List Bool)(start:Int):Option Unit:= some ()
def wI (n:Nat)(g_:List (List Int))(Ak:List Bool)(start:Int):Option Unit:=wH n g_ Ak start
theorem wG {n:Nat}(g_:List (List Int))(Ak:List Bool)(start:Int){r:Unit}(h:wI n g_ Ak start=some r):EQ 142 [.sl 1 g_.length (AO Ac g_),.bools Ak,.i start] [] (.fn 153 3 (L1 [.ref 0 0,.ref 1 0,.ref 2 0])) [oC [.sl 1 g_.length (AO Ac g_)],oC [.i start],oC [.bools Ak]] true:=by
 refine ot Tryz.func142 fun B N=>?_
 revert r;apply gO;exact lE AD [6] [0,2,1]
theorem uP:Az (A4 Tryz.f153 6) [] (List.range 8) []:=by unfold Az;kernel_rfl
def JG:Bi:=fun i=>match i with
 | 6=>.ord [] (List.range 8) []
 | _=>.no
def YK (g:List (List Int))(start:Int)(inn o3:List Bool)(o4:List Int):DH:=[oC [.sl 1 g.length (AO Ac g)],oC [.i start],oC [.bools inn],some (.bools o3),oI o4]
inductive KC where
 | l1 (x6:Nat) (o3:List Bool) (o4:List Int)
 | l2 (x6:Nat) (Bo:List Int) (Cg BW:Int) (o3:List Bool) (o4:List Int)
 | l3 (o3:List Bool)
def ON (n:Nat)(self:KC -> Option (List Int))(g:List (List Int))(start:Int)(inn:List Bool)(x6:Nat)(o3:List Bool)(o4:List Int):Option (List Int):= bif (decide ((x6:Int)>0)) then if ((0:Int)<=0/\ 0<(x6:Int))/\ 0+0<o4.length then Option.map (fun l=>(o4.getD (0+0) 0)::l) (if ((0:Int)<=0/\ 0<(x6:Int))/\ 0+0<o4.length/\ (0<=(o4.getD (0+0) 0)/\ (o4.getD (0+0) 0)<(g.length:Int)) then self (.l2 x6 (g.getD ((o4.getD (0+0) 0).toNat) []) (((g.getD ((o4.getD (0+0) 0).toNat) []).length:Nat):Int) 0 o3 o4) else none) else none else some []
def K7 (n:Nat)(self:KC -> Option (List Int))(g:List (List Int))(start:Int)(inn:List Bool)(x6:Nat)(Bo:List Int)(Cg BW:Int)(o3:List Bool)(o4:List Int):Option (List Int):= bif (decide (BW<Cg)) then if (0<=BW/\ BW<(Bo.length:Int))/\ (0<=(Bo.getD ((BW).toNat) 0)/\ (Bo.getD ((BW).toNat) 0)<(inn.length:Int)) then bif (inn.getD ((Bo.getD ((BW).toNat) 0).toNat) false) then if (0<=(Bo.getD ((BW).toNat) 0)/\ (Bo.getD ((BW).toNat) 0)<(g.length:Int))/\ 0+((Bo.getD ((BW).toNat) 0).toNat)<o3.length then bif (!(o3.getD (0+((Bo.getD ((BW).toNat) 0).toNat)) false)) then if ((0=0/\ 1=([Bo.getD ((BW).toNat) 0]:List Int).length)/\ (0=0/\ x6=o4.length)/\ o4.length+([Bo.getD ((BW).toNat) 0]:List Int).length<=A3)/\ AH (BW+1) then self (.l2 (o4.length+([Bo.getD ((BW).toNat) 0]:List Int).length) Bo Cg (BW+1) (o3.set (0+((Bo.getD ((BW).toNat) 0).toNat)) true) (o4++([Bo.getD ((BW).toNat) 0]:List Int))) else none else if AH (BW+1) then self (.l2 x6 Bo Cg (BW+1) o3 o4) else none else none else if AH (BW+1) then self (.l2 x6 Bo Cg (BW+1) o3 o4) else none else none else bif ((x6-1)==0) then if (0:Int)<=1/\ (1:Int)<=(x6:Int)/\ (x6:Int)<=(x6:Int) then self (.l3 o3) else none else if (0:Int)<=1/\ (1:Int)<=(x6:Int)/\ (x6:Int)<=(x6:Int) then if 1<=o4.length then self (.l1 (x6-1) o3 (o4.drop 1)) else none else none
def aV (n:Nat)(self:KC -> Option (List Int))(g:List (List Int))(start:Int)(inn:List Bool)(o3:List Bool):Option (List Int):= some []
def aW (n:Nat)(self:KC -> Option (List Int))(g:List (List Int))(start:Int)(inn:List Bool):Option (List Int):= if (((g.length:Int):Int)=(g.length:Int)/\ 0<=(g.length:Int)/\ ((g.length:Int):Int)<=1000000000000)/\ (0<=start/\ start<(g.length:Int))/\ 0+((start).toNat)<(List.replicate g.length false).length then self (.l1 1 ((List.replicate g.length false).set (0+((start).toNat)) true) ([start]:List Int)) else none
def Eu (g:List (List Int))(start:Int)(inn:List Bool):Nat -> KC -> Option (List Int)
 | 0,_=>none
 | n+1,.l1 x6 o3 o4=>ON n (Eu g start inn n) g start inn x6 o3 o4
 | n+1,.l2 x6 Bo Cg BW o3 o4=>K7 n (Eu g start inn n) g start inn x6 Bo Cg BW o3 o4
 | n+1,.l3 o3=>aV n (Eu g start inn n) g start inn o3
def Gq (n:Nat)(g:List (List Int))(start:Int)(inn:List Bool):Option (List Int):=aW n (Eu g start inn n) g start inn
def OO (C:Df Tryz.prog)(n:Nat)(g:List (List Int))(start:Int)(inn:List Bool)(r:List Int):KC -> Prop
 | .l1 x6 o3 o4=>∀ m0:Nat,n<=m0 -> ∀ i:Nat,i<=C.encs.length -> C.encs.drop i=r.map Bj -> An Tryz.prog GG Fence.wide none 3 (C.Y GG 3 i) (C.Q GG 3) (Ax m0 (A7 (AY Tryz.f153) 0 [])) ⟨AF 58 [(0,.yl C.l),(1,.ref 0 0),(3,.ref 2 0),(5,.msl 3 1 0 g.length),(6,.msl 4 1 0 x6)],[oC [.sl 1 g.length (AO Ac g)],oC [.i start],oC [.bools inn],some (.bools o3),oI o4]⟩
 | .l2 x6 Bo Cg BW o3 o4=>∀ m0 m1:Nat,n<=m0 -> n<=m1 -> ∀ i:Nat,i<=C.encs.length -> C.encs.drop i=r.map Bj -> An Tryz.prog GG Fence.wide none 3 (C.Y GG 3 i) (C.Q GG 3) (Ax m1 (A7 (AY Tryz.f153) 2 [m0])) ⟨AF 58 [(0,.yl C.l),(1,.ref 0 0),(3,.ref 2 0),(5,.msl 3 1 0 g.length),(6,.msl 4 1 0 x6),(33,.ints Bo),(34,.i Cg),(35,.i BW)],[oC [.sl 1 g.length (AO Ac g)],oC [.i start],oC [.bools inn],some (.bools o3),oI o4]⟩
 | .l3 o3=>∀ m0:Nat,n<=m0 -> ∀ i:Nat,i<=C.encs.length -> C.encs.drop i=r.map Bj -> An Tryz.prog GG Fence.wide none 3 (C.Y GG 3 i) (C.Q GG 3) (Ax m0 (A7 (AY Tryz.f153) 0 [])) ⟨AF 58 [(0,.yl C.l),(1,.ref 0 0),(3,.ref 2 0),(5,.msl 3 1 0 g.length),(6,.ints ([]:List Int))],[oC [.sl 1 g.length (AO Ac g)],oC [.i start],oC [.bools inn],some (.bools o3)]⟩
theorem v8 (C:Df Tryz.prog)(n:Nat)(self:KC -> Option (List Int))(g:List (List Int))(start:Int)(inn:List Bool)(AJ: ∀ pt r,self pt=some r -> OO C n g start inn r pt)(x6:Nat)(o3:List Bool)(o4:List Int)(r:List Int)(h:ON n self g start inn x6 o3 o4=some r):OO C (n+1) g start inn r (.l1 x6 o3 o4):=by
 intro m0 AC;intro i hi hd;refine rd AC fun m0 AC=>?_
 unfold ON at h;have p:=H0;rcases C8 h with ⟨c0,h⟩ | ⟨c0,h⟩
 ·have p:=H0.b 19 c0;refine gs (AX 5 JG) [0,1,2,3,4] p (EU (AY Tryz.f153) 5 [m0]) (AF 58 [(0,.yl C.l),(1,.ref 0 0),(3,.ref 2 0),(5,.msl 3 1 0 g.length),(6,.msl 4 1 0 x6)]) (YK g start inn o3 o4) ?_;obtain ⟨⟨g0,g1⟩,h⟩:=C1 h;have p:=H0.g g0 |>.g g1
  obtain ⟨r,h2,rfl⟩:=Qx h;clear h;have h:=h2;clear h2;obtain ⟨hx,hi,hd⟩:=er hd;refine An.y (ops:=A4 Tryz.f153 5) HC.x 4 [0,1,3,5,6,27] [0,1,2,3,4] p (x:=Bj (o4.getD (0+0) 0)) (AF 58 [(0,.yl C.l),(1,.ref 0 0),(3,.ref 2 0),(5,.msl 3 1 0 g.length),(6,.msl 4 1 0 x6),(27,.bool false)]) (YK g start inn o3 o4) (AF 58 [(0,.yl C.l),(1,.ref 0 0),(3,.ref 2 0),(5,.msl 3 1 0 g.length),(6,.msl 4 1 0 x6),(27,.bool true)]) (YK g start inn o3 o4) (by kernel_rfl) (by kernel_rfl) (by kernel_rfl) hx (by kernel_rfl) ?_ ?_
  ·generalize i+1=i at hi hd ⊢
   obtain ⟨⟨g2,g3,g4⟩,h⟩:=C1 h;have p:=H0.g uP |>.g g2 |>.g g3 |>.g g4
   exact gg JG [0,1,2,3,4] p (en n (AJ _ _ h m0 n AC Nat.le.refl i hi hd))
  ·exact TrI.e HC.x JG 6 H0 (by kernel_rfl) (.inr rfl)
 ·have p:=H0.b 19 c0;cases h;exact TrI.e HC.x JG 10 p (by kernel_rfl) (.inl (by rw [VU hi hd]))
theorem v7 (C:Df Tryz.prog)(n:Nat)(self:KC -> Option (List Int))(g:List (List Int))(start:Int)(inn:List Bool)(AJ: ∀ pt r,self pt=some r -> OO C n g start inn r pt)(x6:Nat)(Bo:List Int)(Cg BW:Int)(o3:List Bool)(o4:List Int)(r:List Int)(h:K7 n self g start inn x6 Bo Cg BW o3 o4=some r):OO C (n+1) g start inn r (.l2 x6 Bo Cg BW o3 o4):=by
 intro m0 m1 AC Ar;intro i hi hd;have AC:=zCz AC;refine rd Ar fun m1 Ar=>?_
 unfold K7 at h;have p:=H0;rcases C8 h with ⟨c0,h⟩ | ⟨c0,h⟩
 ·obtain ⟨⟨g0,g1⟩,h⟩:=C1 h;have p:=H0.b 36 c0 |>.g g0 |>.g g1
  rcases C8 h with ⟨c1,h⟩ | ⟨c1,h⟩
  ·obtain ⟨⟨g2,g3⟩,h⟩:=C1 h;have p:=p.b 42 c1 |>.g g2 |>.g g3
   rcases C8 h with ⟨c2,h⟩ | ⟨c2,h⟩
   ·obtain ⟨⟨g4,g5⟩,h⟩:=C1 h;have p:=p.b 48 c2 |>.g g2 |>.g g3 |>.g g4 |>.w 57 g5
    exact gg JG [0,1,2,3,6] p (AJ _ _ h m0 m1 AC Ar i hi hd)
   ·obtain ⟨g4,h⟩:=C1 h;have p:=p.b 48 c2 |>.w 57 g4
    exact gg JG [0,1,2,3,4] p (AJ _ _ h m0 m1 AC Ar i hi hd)
  ·obtain ⟨g2,h⟩:=C1 h;have p:=p.b 42 c1 |>.w 57 g2
   exact gg JG [0,1,2,3,4] p (AJ _ _ h m0 m1 AC Ar i hi hd)
 ·have p:=H0.b 36 c0;rcases C8 h with ⟨c1,h⟩ | ⟨c1,h⟩
  ·obtain ⟨g0,h⟩:=C1 h;have p:=p.g g0 |>.o 21 (AL.mse_nil (k:=4) (m:=1) (o:=1) (eq_of_beq c1))
   exact gg JG [0,1,2,3] p (AJ _ _ h m0 AC i hi hd)
  ·obtain ⟨g0,h⟩:=C1 h;have p:=p.g g0 |>.o 21 (AL.mse_msl (k:=4) (m:=1) (o:=1) (XC c1) rfl)
   obtain ⟨g1,h⟩:=C1 h;refine gs JG [0,1,2,3,4] p (Ax m0 (A7 (AY Tryz.f153) 0 [])) (AF 58 [(0,.yl C.l),(1,.ref 0 0),(3,.ref 2 0),(5,.msl 3 1 0 g.length),(6,.msl 4 1 1 (x6-1))]) (YK g start inn o3 o4) ?_;refine BU.le (At.rootE 4 1 ⟨AF 58 [(0,.yl C.l),(1,.ref 0 0),(3,.ref 2 0),(5,.msl 3 1 0 g.length),(6,.msl 5 1 0 (x6-1))],[oC [.sl 1 g.length (AO Ac g)],oC [.i start],oC [.bools inn],some (.bools o3),none,oI (o4.drop 1)]⟩ [1<=o4.length] (by kernel_rfl) ⟨g1,trivial⟩) (by kernel_rfl) ?_;refine BU.le (At.compE [0,1,2,3,5] (by kernel_rfl)) (by kernel_rfl) ?_;exact AJ _ _ h m0 AC i hi hd
theorem v6 (C:Df Tryz.prog)(n:Nat)(self:KC -> Option (List Int))(g:List (List Int))(start:Int)(inn:List Bool)(AJ: ∀ pt r,self pt=some r -> OO C n g start inn r pt)(o3:List Bool)(r:List Int)(h:aV n self g start inn o3=some r):OO C (n+1) g start inn r (.l3 o3):=by
 intro m0 AC;intro i hi hd;refine rd AC fun m0 AC=>?_
 unfold aV at h;have p:=H0;cases h;exact TrI.e HC.x JG 10 p (by kernel_rfl) (.inl (by rw [VU hi hd]))
theorem Wz (C:Df Tryz.prog)(g:List (List Int))(start:Int)(inn:List Bool): ∀ (n:Nat) (pt:KC) (r:List Int),Eu g start inn n pt=some r -> OO C n g start inn r pt
 | 0,_,_,h=>by cases h
 | n+1,.l1 x6 o3 o4,r,h=>v8 C n (Eu g start inn n) g start inn (Wz C g start inn n) x6 o3 o4 r h
 | n+1,.l2 x6 Bo Cg BW o3 o4,r,h=>v7 C n (Eu g start inn n) g start inn (Wz C g start inn n) x6 Bo Cg BW o3 o4 r h
 | n+1,.l3 o3,r,h=>v6 C n (Eu g start inn n) g start inn (Wz C g start inn n) o3 r h
theorem wD {n:Nat}(g:List (List Int))(start:Int)(inn:List Bool){r:List Int}(h:Gq n g start inn=some r)(C:Df Tryz.prog)(hC:C.encs=r.map Bj):An Tryz.prog GG Fence.wide none 3 (C.Y GG 3 0) (C.Q GG 3) [.code (AY Tryz.f153)] ⟨AF 58 [(0,.yl C.l),(1,.ref 0 0),(2,.ref 1 0),(3,.ref 2 0)],[oC [.sl 1 g.length (AO Ac g)],oC [.i start],oC [.bools inn]]⟩:=by
 suffices H: ∀ i:Nat,i<=C.encs.length -> C.encs.drop i=r.map Bj -> An Tryz.prog GG Fence.wide none 3 (C.Y GG 3 i) (C.Q GG 3) [.code (AY Tryz.f153)] ⟨AF 58 [(0,.yl C.l),(1,.ref 0 0),(2,.ref 1 0),(3,.ref 2 0)],[oC [.sl 1 g.length (AO Ac g)],oC [.i start],oC [.bools inn]]⟩ from H 0 (zFo _) (by rw [zFt];exact hC)
 intro i hi hd;have AJ:=Wz C g start inn n;unfold Gq at h
 generalize Eu g start inn n=self at h AJ
 unfold aW at h;obtain ⟨⟨g0,g1,g2⟩,h⟩:=C1 h;have p:=H0.g g0 |>.g g1 |>.g g2
 exact gg JG [0,1,2,3,4] p (en n (AJ _ _ h n Nat.le.refl i hi hd))
theorem aY {n:Nat}{g_:List (List Int)}{Ak:List Bool}{start:Int}{r:List Int}(h:Gq n g_ start Ak=some r)(H:DH):EQ 142 [.sl 1 g_.length (AO Ac g_),.bools Ak,.i start] H (.it H.length) (H++[some (.iter (r.map Bj))]) true:=by
 refine ES.iterN (c:=L1 [.ref 0 0,.ref 1 0,.ref 2 0]) (h0:=[oC [.sl 1 g_.length (AO Ac g_)],oC [.i start],oC [.bools Ak]]) (fn:=Tryz.f153) (wG (n:=0) g_ Ak start (r:=()) rfl) (by kernel_rfl) Tryz.func153 (by kernel_rfl) (by kernel_rfl) (by kernel_rfl) (fun C hC=>?_) H;have e:DV.yl C.l::(List.range 3).map (L1 [.ref 0 0,.ref 1 0,.ref 2 0])++List.replicate (Tryz.f153.ntmps-(3+1)) .any=AF 58 [(0,.yl C.l),(1,.ref 0 0),(2,.ref 1 0),(3,.ref 2 0)]:=by kernel_rfl
 rw [e];exact wD g_ start Ak h C hC
end Go.Proofs.YtodinaconebmdaaGreatDoor
namespace Go.Proofs.YtodinaconebmdaaGreatDoor
abbrev zBq:=@decide_eq_true_iff
abbrev zB7:=@List.length_singleton
abbrev zCT:=@List.mem_append_left
abbrev zCh:=@List.mem_append_right
abbrev zFj:=@List.getElem?_set_self
abbrev zFu:=@Bool.false_and
abbrev zF1:=@List.append_nil
abbrev zGA:=@List.append_assoc
abbrev zGH:=@List.countP_cons
abbrev zGe:=@Bool.and_false
abbrev zHI:=@List.countP_le_length
open Go.RowKit
def nb (g:List (List Int))(v:Int):List Int:=g.getD v.toNat []
structure Gr (g:List (List Int)):Prop where
 len:g.length<=256
 row: ∀ v,0<=v -> v<(g.length:Int) -> (nb g v).length<=256
 rng: ∀ v,0<=v -> v<(g.length:Int) -> ∀ u∈nb g v,0<=u/\ u<(g.length:Int)
 sym: ∀ v,0<=v -> v<(g.length:Int) -> ∀ u∈nb g v,v∈nb g u
theorem Gr.of {g:List (List Int)}(h:NJ g=true)(hr: ∀ r∈g,r.length<=LB):Gr g:=by
 unfold NJ at h;rw [zAO,zBq,zAX] at h
 have key: ∀ v,0<=v -> v<(g.length:Int) -> ∀ u∈nb g v,(0<=u/\ u<(g.length:Int))/\ v∈nb g u:=by
  intro v h0 h1 u hu;have h2:=h.2 v.toNat (zBf.2 (by omega));unfold K4 at h2;rw [zAX] at h2;obtain ⟨j,hj,e⟩:=zEk hu;have h3:=h2 j (zBf.2 hj);unfold Ia at h3
  have e2:(g.getD v.toNat []).getD j 0=u:=by
   show (nb g v).getD j 0=u
   rw [u8,zAE hj];exact e
  simp only [e2,zAO,zBq,zGO] at h3;have e3:((v.toNat:Nat):Int)=v:=by omega
  rw [e3] at h3;exact ⟨⟨h3.1.1.1.1,h3.1.1.1.2⟩,h3.2⟩
 have grow: ∀ v,0<=v -> v<(g.length:Int) -> ∀ k,k<(nb g v).length -> (k:Int)<=(nb g v).getD k 0:=by
  intro v h0 h1 k;have h2:=h.2 v.toNat (zBf.2 (by omega));unfold K4 at h2;rw [zAX] at h2
  induction k with
  | zero=>
   intro hk;have h3:=h2 0 (zBf.2 hk);unfold Ia at h3;simp only [zAO,zBq] at h3;exact h3.1.1.1.1
  | succ k ih=>
   intro hk;have h3:=h2 (k+1) (zBf.2 hk);unfold Ia at h3;have d:decide (0<k+1)=true:=zAU (by omega);simp only [zAO,zBq,d,zCX,zFq,Nat.add_sub_cancel] at h3;have h4:(nb g v).getD k 0<(nb g v).getD (k+1) 0:=h3.1.2;have:=ih (by omega);omega
 exact ⟨h.1,fun v h0 h1=>by
  refine zF3 fun hl=>?_
  have h2:=grow v h0 h1 256 hl;have h3:(nb g v).getD 256 0∈nb g v:=by rw [u8,zAE hl];exact zB0 hl
  have h4:=(key v h0 h1 _ h3).1;have:=h.1;omega,fun v h0 h1 u hu=>(key v h0 h1 u hu).1,fun v h0 h1 u hu=>(key v h0 h1 u hu).2⟩
inductive Rc (g:List (List Int))(inn:List Bool)(s:Int):Int -> Prop
 | start:Rc g inn s s
 | step {a b:Int} (h:Rc g inn s a) (hb:b∈nb g a) (hi:inn.getD b.toNat false=true):Rc g inn s b
section
variable {g:List (List Int)} {inn:List Bool} {s:Int}
theorem Rc.rng (G:Gr g)(h0:0<=s)(h1:s<(g.length:Int)){v:Int}(h:Rc g inn s v):0<=v/\ v<(g.length:Int):=by
 induction h with
 | start=>exact ⟨h0,h1⟩
 | step h hb hi ih=>exact G.rng _ ih.1 ih.2 _ hb
theorem Rc.isIn (hs:inn.getD s.toNat false=true){v:Int}(h:Rc g inn s v):inn.getD v.toNat false=true:=by
 cases h with
 | start=>exact hs
 | step h hb hi=>exact hi
theorem Rc.trans {a b:Int}(h:Rc g inn s a)(h2:Rc g inn a b):Rc g inn s b:=by
 induction h2 with
 | start=>exact h
 | step _ hb hi ih=>exact .step ih hb hi
theorem Rc.symm (G:Gr g)(h0:0<=s)(h1:s<(g.length:Int))(hs:inn.getD s.toNat false=true){v:Int}(h:Rc g inn s v):Rc g inn v s:=by
 induction h with
 | start=>exact .start
 | step h hb hi ih=>
  have hr:=h.rng G h0 h1;exact (Rc.step Rc.start (G.sym _ hr.1 hr.2 _ hb) (h.isIn hs)).trans ih
theorem Rc.mono {my:List Bool}(hm: ∀ v:Int,inn.getD v.toNat false=true -> my.getD v.toNat false=true){v:Int}(h:Rc g inn s v):Rc g my s v:=by
 induction h with
 | start=>exact .start
 | step h hb hi ih=>exact .step ih hb (hm _ hi)
def F6 (l:List Bool):Nat:=l.countP fun b=>!b
theorem ZD: ∀ (l:List Bool) (i:Nat),i<l.length -> l.getD i false=false -> F6 (l.set i true)+1=F6 l
 | b::l,0,_,h=>by
  have h:b=false:=h;subst h;simp [F6,zGH]
 | b::l,i+1,hi,h=>by
  have:=ZD l i (Nat.lt_of_succ_lt_succ hi) (by simpa using h)
  show F6 (b::l.set i true)+1=F6 (b::l)
  unfold F6 at this ⊢;rw [zGH,zGH];omega
def D0 (inn:List Bool)(st:List Bool×List Int)(v:Int):List Bool×List Int:=bif inn.getD v.toNat false&&!st.1.getD v.toNat false then (st.1.set v.toNat true,st.2++[v]) else st
structure Bf (g:List (List Int))(inn:List Bool)(s:Int)(met:List Bool)(Q P:List Int):Prop where
 len:met.length=g.length
 cnt:Q.length+F6 met<=g.length
 nd:(P++Q).Nodup
 rc: ∀ v∈P++Q,Rc g inn s v
 rng: ∀ v∈P++Q,0<=v/\ v<(g.length:Int)
 met: ∀ v:Int,0<=v -> v<(g.length:Int) -> (met.getD v.toNat false=true↔v∈P++Q)
 cl: ∀ p∈P,∀ b∈nb g p,inn.getD b.toNat false=true -> b∈P++Q
 st:s∈P++Q
theorem Bf.ex (G:Gr g){met:List Bool}{Q P:List Int}(h:Bf g inn s met Q P){v u:Int}(hv:v∈Q)(hu:u∈nb g v):
 Bf g inn s (D0 inn (met,Q) u).1 (D0 inn (met,Q) u).2 P/\ (∃ t,(D0 inn (met,Q) u).2=Q++t)/\ (inn.getD u.toNat false=true -> u∈P++(D0 inn (met,Q) u).2)/\ 2*F6 (D0 inn (met,Q) u).1+(D0 inn (met,Q) u).2.length<=2*F6 met+Q.length:=by
 have G9:=h.rng v (zCh _ hv);have KW:=G.rng v G9.1 G9.2 u hu;unfold D0
 dsimp only
 cases hi:inn.getD u.toNat false
 ·rw [zFu,zAC];exact ⟨h,⟨[],(zF1 _).symm⟩,fun h=>(by cases h),zBl _⟩
 ·cases hm:met.getD u.toNat false
  ·rw [zCa,Bool.and_true,zAK];have hn:u∉P++Q:=fun hh=>by rw [(h.met u KW.1 KW.2).2 hh] at hm;cases hm
   have hl:=h.len;have hc:=ZD met u.toNat (by omega) hm;have hcnt:=h.cnt;have CS: ∀ x,x∈P++(Q++[u])↔x∈P++Q∨x=u:=fun x=>by simp [or_assoc]
   refine ⟨⟨by rw [zCG];exact hl,by show (Q++[u]).length+F6 (met.set u.toNat true)<=_;rw [zBe,zB7];omega,?_,fun x hx=>?_,fun x hx=>?_,fun x GQ O9=>?_,fun p hp b hb hbi=>(CS b).2 (.inl (h.cl p hp b hb hbi)),(CS s).2 (.inl h.st)⟩,⟨[u],rfl⟩,fun _=>(CS u).2 (.inr rfl),by show 2*F6 (met.set u.toNat true)+(Q++[u]).length<=_;rw [zBe,zB7];omega⟩
   ·rw [←zGA,List.nodup_append];exact ⟨h.nd,by simp,fun a ha b hb=>by rw [zBv] at hb;subst hb;exact fun e=>hn (e▸ha)⟩
   ·rcases (CS x).1 hx with hx | rfl
    ·exact h.rc x hx
    ·exact .step (h.rc v (zCh _ hv)) hu hi
   ·rcases (CS x).1 hx with hx | rfl
    ·exact h.rng x hx
    ·exact KW
   ·rw [CS,←h.met x GQ O9]
    by_cases e:x=u
    ·subst e;rw [u8,zFj (by omega)];exact ⟨fun _=>.inr rfl,fun _=>rfl⟩
    ·rw [u8,zFU (by omega),←u8];exact ⟨.inl,fun h=>h.elim id fun h=>absurd h e⟩
  ·rw [zCX,zGe,zAC];exact ⟨h,⟨[],by simp⟩,fun _=>(h.met u KW.1 KW.2).1 hm,zBl _⟩
theorem Bf.exs (G:Gr g){v:Int}{P:List Int}: ∀ (l:List Int) {met:List Bool} {Q:List Int},Bf g inn s met Q P -> v∈Q -> (∀ u∈l,u∈nb g v) ->
 Bf g inn s (l.foldl (D0 inn) (met,Q)).1 (l.foldl (D0 inn) (met,Q)).2 P/\ (∃ t,(l.foldl (D0 inn) (met,Q)).2=Q++t)/\ (∀ u∈l,inn.getD u.toNat false=true -> u∈P++(l.foldl (D0 inn) (met,Q)).2)/\ 2*F6 (l.foldl (D0 inn) (met,Q)).1+(l.foldl (D0 inn) (met,Q)).2.length<=2*F6 met+Q.length
 | [],met,Q,h,hv,hl=>⟨h,⟨[],by simp⟩,fun u hu=>absurd hu zGG,zBl _⟩
 | u::l,met,Q,h,hv,hl=>by
  obtain ⟨h1,⟨t,ht⟩,h2,h3⟩:=h.ex G hv (hl u zCn);obtain ⟨h4,⟨t',YE⟩,h5,h6⟩:=Bf.exs G l h1 (by rw [ht];exact zCT _ hv) fun x hx=>hl x (zCS _ hx)
  refine ⟨h4,⟨t++t',?_⟩,fun x hx hi=>?_,zAa h6 h3⟩
  ·show (List.foldl (D0 inn) (D0 inn (met,Q) u) l).2=_
   rw [YE,ht,zGA]
  ·rcases zCC.1 hx with rfl | hx
   ·show x∈P++(List.foldl (D0 inn) (D0 inn (met,Q) x) l).2
    rw [YE,←zGA];exact zCT _ (h2 hi)
   ·exact h5 x hx hi
theorem yx {n j:Nat}{l:List Int}{met:List Bool}{Q:List Int}(hI:inn.length=g.length)(hG:g.length<=256)(hm:met.length=g.length)(hQ:Q.length+F6 met<=g.length)(hj:j<l.length)(hl:l.length<=256)(hr:0<=l.getD j 0/\ l.getD j 0<(g.length:Int)):
 Eu g s inn (n+1) (.l2 Q.length l (l.length:Int) (j:Int) met Q)=Eu g s inn n (.l2 (D0 inn (met,Q) (l.getD j 0)).2.length l (l.length:Int) ((j:Int)+1) (D0 inn (met,Q) (l.getD j 0)).1 (D0 inn (met,Q) (l.getD j 0)).2):=by
 have r1:AH ((j:Int)+1):=Aw.2 ⟨by omega,by omega⟩;have L:(1000000000000:Nat)=A3:=rfl
 show K7 n (Eu g s inn n) g s inn Q.length l (l.length:Int) (j:Int) met Q=_
 unfold K7 D0;simp only [zAP,zBy];rw [zAU (by omega),zAK,zAA ⟨⟨by omega,by omega⟩,by omega,by omega⟩];cases hi:inn.getD (l.getD j 0).toNat false
 ·rw [zAC,zFu,zAC,zAA r1]
 ·rw [zAK,zCj,zAA ⟨hr,by omega⟩];cases ht:met.getD (l.getD j 0).toNat false
  ·have hc:=ZD met (l.getD j 0).toNat (by omega) ht;rw [zCa,zAK,zAK,zAA ⟨⟨⟨trivial,rfl⟩,⟨trivial,trivial⟩,by rw [zB7,←L];omega⟩,r1⟩,zBe]
  ·rw [zCX,zAC,zAC,zAA r1]
theorem md (hI:inn.length=g.length)(G:Gr g){v:Int}{P:List Int}{l:List Int}(hl:l.length<=256)(dQ: ∀ u∈l,u∈nb g v): ∀ (k j n:Nat) {met:List Bool} {Q:List Int},j+k=l.length -> Bf g inn s met Q P -> v∈Q ->
 Eu g s inn (n+k) (.l2 Q.length l (l.length:Int) (j:Int) met Q)=Eu g s inn n (.l2 ((l.drop j).foldl (D0 inn) (met,Q)).2.length l (l.length:Int) (l.length:Int) ((l.drop j).foldl (D0 inn) (met,Q)).1 ((l.drop j).foldl (D0 inn) (met,Q)).2)
 | 0,j,n,met,Q,e,h,hv=>by
  have e:j=l.length:=by omega
  subst e;rw [zGp];rfl
 | k+1,j,n,met,Q,e,h,hv=>by
  have hj:j<l.length:=by omega
  have hu:l.getD j 0∈l:=by rw [u8,zAE hj];exact zB0 hj
  have G9:=h.rng v (zCh _ hv);have hr:=G.rng v G9.1 G9.2 _ (dQ _ hu);obtain ⟨h1,⟨t,ht⟩,_,_⟩:=h.ex G hv (dQ _ hu);rw [←zCd,yx hI G.len h.len h.cnt hj hl hr];have:=md hI G hl dQ k (j+1) n (by omega) h1 (by rw [ht];exact zCT _ hv);have e1:(((j+1:Nat)):Int)=(j:Int)+1:=by omega
  rw [e1] at this;rw [this]
  have e2:l.drop j=l.getD j 0::l.drop (j+1):=by
   rw [zBw hj,u8,zAE hj];rfl
  rw [e2];rfl
def No (g:List (List Int))(inn:List Bool)(s:Int)(P l:List Int):Prop:=(P++l).Nodup/\ (∀ v,v∈P++l↔Rc g inn s v)
theorem Bf.done {met:List Bool}{P:List Int}(h:Bf g inn s met [] P):No g inn s P []:=by
 refine ⟨h.nd,fun v=>⟨h.rc v,fun hv=>?_⟩⟩
 induction hv with
 | start=>exact h.st
 | step _ hb hi ih=>exact h.cl _ (by simpa using ih) _ hb hi
theorem Ai.map {R:Type}{f:Nat -> Option R}{Q:R -> Prop}{Q':R -> Prop}{m:R -> R}(h:Ai f Q)(hq: ∀ r,Q r -> Q' (m r)):Ai (fun n=>(f n).map m) Q':=by
 obtain ⟨N,h⟩:=h;refine ⟨N,fun n hn=>?_⟩;obtain ⟨r,h1,h2⟩:=h n hn;exact ⟨m r,by show (f n).map m=_;rw [h1];rfl,hq r h2⟩
theorem zEi (G:Gr g)(hI:inn.length=g.length): ∀ (z:Nat) (met:List Bool) (Q P:List Int),2*F6 met+Q.length=z -> Bf g inn s met Q P -> Ai (fun n=>Eu g s inn n (.l1 Q.length met Q)) (No g inn s P):=by
 intro z
 induction z using Nat.strongRecOn with
 | _ z ih=>
  intro met Q P hz h;cases Q with
  | nil=>
   refine Ev.p (r:=[]) ⟨1,fun n hn=>?_⟩ h.done;obtain ⟨n,rfl⟩: ∃ k,n=k+1:=⟨n-1,by omega⟩
   show ON n (Eu g s inn n) g s inn 0 met []=_
   unfold ON;rw [zAI (by omega),zAC]
  | cons v q=>
   have hv:v∈v::q:=zCn;have G9:=h.rng v (zCh _ hv);obtain ⟨h1,⟨t,ht⟩,h2,h3⟩:=h.exs G (nb g v) hv (fun u hu=>hu);have hl:=G.row v G9.1 G9.2
   generalize hst:(nb g v).foldl (D0 inn) (met,v::q)=st at h1 ht h2 h3
   obtain ⟨Qv,Q'⟩:=st;have ht:Q'=v::(q++t):=ht;subst ht
   have hB:Bf g inn s Qv (q++t) (P++[v]):=by
    have e:P++[v]++(q++t)=P++(v::(q++t)):=by simp
    have hc:=h1.cnt;simp only [zCl] at hc;refine ⟨h1.len,by omega,by rw [e];exact h1.nd,by rw [e];exact h1.rc,by rw [e];exact h1.rng,by rw [e];exact h1.met,?_,by rw [e];exact h1.st⟩;intro p hp b hb hi;rw [e];rcases zB3.1 hp with hp | hp
    ·exact h1.cl p hp b hb hi
    ·rw [zBv] at hp;subst hp;exact h2 b hb hi
   have cK:2*F6 Qv+(q++t).length<z:=by
    simp only [zCl] at h3;simp only [zBe] at h3 ⊢;have:(v::q).length=q.length+1:=rfl;omega
   have IH:=ih _ cK Qv (q++t) (P++[v]) rfl hB
   have key:Ai (fun n=>Eu g s inn n (.l2 (v::(q++t)).length (nb g v) ((nb g v).length:Int) ((nb g v).length:Int) Qv (v::(q++t)))) (No g inn s (P++[v])):=by
    have g0:(0:Int)<=1/\ (1:Int)<=(((v::(q++t)).length:Nat):Int)/\ (((v::(q++t)).length:Nat):Int)<=(((v::(q++t)).length:Nat):Int):=⟨by omega,by rw [zCl];omega,zFZ _⟩;cases cu:q++t with
    | nil=>
     rw [cu] at hB;refine Ev.p (r:=[]) ⟨2,fun n hn=>?_⟩ hB.done;obtain ⟨n,rfl⟩: ∃ k,n=k+2:=⟨n-2,by omega⟩
     show K7 (n+1) (Eu g s inn (n+1)) g s inn 1 (nb g v) ((nb g v).length:Int) ((nb g v).length:Int) Qv [v]=_
     unfold K7;rw [zAI (by omega),zAC];rfl
    | cons a r=>
     rw [←cu];refine Ai.step 1 (fun n=>?_) IH
     show K7 n (Eu g s inn n) g s inn (v::(q++t)).length (nb g v) ((nb g v).length:Int) ((nb g v).length:Int) Qv (v::(q++t))=_
     unfold K7;have e0:((v::(q++t)).length-1==0)=false:=by rw [cu];rfl
     rw [zAI (by omega),zAC,e0,zAC,zAA g0,zAA (by rw [zCl];omega)];rfl
   have zG:Ai (fun n=>Eu g s inn n (.l2 (v::q).length (nb g v) ((nb g v).length:Int) 0 met (v::q))) (No g inn s (P++[v])):=by
    refine Ai.step (nb g v).length (fun n=>?_) key;have:=md hI G hl (fun u hu=>hu) (nb g v).length 0 n (by omega) h hv;rw [zFt,hst] at this;exact this
   have m: ∀ r:List Int,No g inn s (P++[v]) r -> No g inn s P (v::r):=fun r hr=>by
    have e:P++[v]++r=P++(v::r):=by simp
    unfold No at hr ⊢;rw [e] at hr;exact hr
   refine Ai.step 1 (fun n=>?_) (Ai.map zG m)
   show ON n (Eu g s inn n) g s inn (v::q).length met (v::q)=_
   unfold ON;have g1:((0:Int)<=0/\ 0<(((v::q).length:Nat):Int))/\ 0+0<(v::q).length:=by rw [zCl];omega
   rw [zAU (by rw [zCl];omega),zAK,zAA g1];have e1:(v::q).getD (0+0) 0=v:=rfl;rw [e1,zAA ⟨g1.1,g1.2,G9⟩];rfl
theorem aX (G:Gr g)(hI:inn.length=g.length)(h0:0<=s)(h1:s<(g.length:Int)):Ai (fun n=>Gq n g s inn) (fun l=>l.Nodup/\ ∀ v,v∈l↔Rc g inn s v):=by
 have Af:((List.replicate g.length false).set s.toNat true).length=g.length:=by simp
 have hG:=G.len;have hc:=ZD (List.replicate g.length false) s.toNat (by rw [zB1];omega) (by simp [u8,zCe];split <;> rfl)
 have It:F6 (List.replicate g.length false)<=g.length:=by
  have:=zHI (p:=fun b=>!b) (l:=List.replicate g.length false);rw [zB1] at this;exact this
 have hB:Bf g inn s ((List.replicate g.length false).set s.toNat true) [s] []:=by
  refine ⟨Af,by rw [zB7];omega,by simp,fun v hv=>?_,fun v hv=>?_,fun v Il Bb=>?_,fun p hp=>absurd hp zGG,by simp⟩
  ·have:v=s:=by simpa using hv
   subst this;exact .start
  ·have:v=s:=by simpa using hv
   subst this;exact ⟨h0,h1⟩
  ·by_cases e:v=s
   ·subst e;rw [u8,zFj (by rw [zB1];omega)];simp
   ·rw [u8,zFU (by omega),zCe];simp only [zFe,zBv,e,iff_false];split <;> simp
 have:=zEi G hI _ _ _ _ rfl hB;refine (Ai.mono (Q':=fun l=>l.Nodup/\ ∀ v,v∈l↔Rc g inn s v) this (fun l (hl:No g inn s [] l)=>(⟨hl.1,hl.2⟩:l.Nodup/\ ∀ v,v∈l↔Rc g inn s v))).eq fun n=>?_
 unfold Gq aW;rw [zAA ⟨⟨rfl,by omega,by omega⟩,⟨h0,h1⟩,by simp only [zB1];omega⟩,zBy];rfl
end
abbrev zF4:=@BitVec.toNat_ofInt
abbrev zGf:=@Nat.pow_le_pow_right
abbrev zHD:=@Nat.testBit_lt_two_pow
abbrev zHQ:=@Nat.testBit_two_pow
end Go.Proofs.YtodinaconebmdaaGreatDoor
namespace Go.Proofs.YtodinaconebmdaaGreatDoor
def tb (x:Int)(i:Nat):Bool:=(BitVec.ofInt 64 x).getLsbD i
def B4 (x:Int):Prop:=-9223372036854775808<=x/\ x<=9223372036854775807
theorem T8 (x:Int):BitVec.ofInt 64 (IntKind.i64.wrap x)=BitVec.ofInt 64 x:=by
 apply BitVec.eq_of_toNat_eq;rw [zF4,zF4,zGo]
 congr 1
 omega
theorem T9 (y:BitVec 64):BitVec.ofInt 64 (y.toNat:Int)=y:=by
 rw [zGd];simp
theorem gL (x:Int):B4 (IntKind.i64.wrap x):=by
 rw [zGo];constructor <;> omega
theorem HO (op:BinOp)(a b:Int):B4 (bits op .i64 a b):=gL _
theorem Nu (a b:Int)(i:Nat):tb (bits .or .i64 a b) i=(tb a i||tb b i):=by
 show (BitVec.ofInt 64 (IntKind.i64.wrap ((BitVec.ofInt 64 a||| BitVec.ofInt 64 b).toNat:Int))).getLsbD i=_
 rw [T8,T9,BitVec.getLsbD_or];rfl
theorem J3 (a b:Int)(i:Nat):tb (bits .and .i64 a b) i=(tb a i&&tb b i):=by
 show (BitVec.ofInt 64 (IntKind.i64.wrap ((BitVec.ofInt 64 a&&& BitVec.ofInt 64 b).toNat:Int))).getLsbD i=_
 rw [T8,T9,BitVec.getLsbD_and];rfl
theorem JA {x:Int}{i:Nat}(h:64<=i):tb x i=false:=BitVec.getLsbD_of_ge _ _ h
theorem Nw (a b:Int)(i:Nat):tb (bits .andNot .i64 a b) i=(tb a i&&!tb b i):=by
 show (BitVec.ofInt 64 (IntKind.i64.wrap ((BitVec.ofInt 64 a&&& ~~~ BitVec.ofInt 64 b).toNat:Int))).getLsbD i=_
 rw [T8,T9,BitVec.getLsbD_and,BitVec.getLsbD_not]
 by_cases h:i<64
 ·simp [h,tb]
 ·have h:64<=i:=by omega
  have:=JA (x:=a) h;unfold tb at*;rw [this];simp
theorem WN (a:Int){i:Nat}(h:i<64):tb (bits .xor .i64 (-1) a) i= !tb a i:=by
 show (BitVec.ofInt 64 (IntKind.i64.wrap ((BitVec.ofInt 64 (-1) ^^^ BitVec.ofInt 64 a).toNat:Int))).getLsbD i=_
 rw [T8,T9,BitVec.getLsbD_xor];have:BitVec.ofInt 64 (-1)=BitVec.allOnes 64:=by decide
 rw [this,BitVec.getLsbD_allOnes];simp [h,tb]
theorem Zy (i:Nat):tb 0 i=false:=by
 unfold tb;rw [show BitVec.ofInt 64 0=0#64 from rfl];simp
theorem IK {i:Nat}: ¬ tb 0 i=true:=by rw [Zy];decide
theorem MH {x y:Int}(hx:B4 x)(hy:B4 y)(h: ∀ i,i<64 -> tb x i=tb y i):x=y:=by
 have e:BitVec.ofInt 64 x=BitVec.ofInt 64 y:=BitVec.eq_of_getLsbD_eq fun i hi=>h i hi
 have e2:=congrArg BitVec.toNat e;rw [zF4,zF4] at e2;unfold B4 at*;omega
theorem I9 (m i:Nat)(hi:i<64):tb (m:Int) i=m.testBit i:=by
 unfold tb;rw [zGd,BitVec.getLsbD_ofNat];simp [hi]
def Sm (k:Nat)(x:Int):Prop:=0<=x/\ x<2 ^ k
theorem Mg {k:Nat}(hk:k<=62):(2:Int) ^ k<=4611686018427387904:=by
 have:(2:Nat) ^ k<=2 ^ 62:=zGf (by decide) hk;have h:((2 ^ k:Nat):Int)<=((2 ^ 62:Nat):Int):=by exact_mod_cast this
 simpa using h
theorem Sm.in64 {k:Nat}{x:Int}(hk:k<=62)(h:Sm k x):B4 x:=by
 have:=Mg hk;obtain ⟨h1,h2⟩:=h;constructor <;> omega
theorem Sm.hi {k:Nat}{x:Int}(h:Sm k x){i:Nat}(hi:k<=i):tb x i=false:=by
 rcases zCb i 64 with H7 | H7
 ·obtain ⟨m,rfl⟩:=zF9 h.1;rw [I9 m i H7];apply zHD;have h2:(m:Int)<2 ^ k:=h.2;have h3:m<2 ^ k:=by exact_mod_cast h2
  exact zBa h3 (zGf (by decide) hi)
 ·exact JA H7
theorem aA {k:Nat}(hk:k<=62){x:Int}(hx:B4 x)(h: ∀ i,k<=i -> i<64 -> tb x i=false):Sm k x:=by
 have hy:(BitVec.ofInt 64 x).toNat<2 ^ k:=by
  apply Nat.lt_pow_two_of_testBit;intro i hi;rcases zCb i 64 with H7 | H7
  ·have:=h i hi H7;unfold tb at this
   rwa [BitVec.getLsbD] at this
  ·exact zHD (zBa (BitVec.isLt _) (zGf (by decide) H7))
 rw [zF4] at hy;have h1:=Mg hk;have h2:((2 ^ k:Nat):Int)=(2:Int) ^ k:=by simp
 unfold B4 at hx;unfold Sm;omega
theorem sL {s i:Nat}(hi:i<64):tb ((2 ^ s:Nat):Int) i=decide (s=i):=by
 rw [I9 _ _ hi,zHQ]
theorem Nv {x:Int}(hx:B4 x):x=0↔∀ i,i<64 -> tb x i=false:=
 ⟨fun h i _=>by rw [h];exact Zy i,fun h=>MH hx ⟨by decide,by decide⟩ fun i hi=>by rw [h i hi,Zy]⟩
theorem GD {x:Int}(hx:B4 x):x≠0↔∃ i,i<64/\ tb x i=true:=by
 rw [ne_eq,Nv hx];constructor
 ·intro h;refine Classical.byContradiction fun h2=>h fun i hi=>?_
  cases hb:tb x i with
  | false=>rfl
  | true=>exact absurd ⟨i,hi,hb⟩ h2
 ·rintro ⟨i,hi,hb⟩ h;rw [h i hi] at hb;cases hb
theorem jZ {k s:Nat}{x:Int}(h:Sm k x)(hk:k<=62)(hs:s<64):bits .and .i64 (x/2 ^ s) 1=if tb x s then 1 else 0:=by
 obtain ⟨m,rfl⟩:=zF9 h.1;have hm:=h.2;have eB:=Mg hk;have e:(m:Int)/2 ^ s=((m/2 ^ s:Nat):Int):=by simp
 have key: ∀ t,t<64 -> tb (bits .and .i64 ((m:Int)/2 ^ s) 1) t=(decide (t=0)&&tb (m:Int) s):=fun t ht=>by
  rw [J3,e,I9 _ _ ht,I9 m s hs,show (1:Int)=((1:Nat):Int) from rfl,I9 1 t ht,Nat.testBit_div_two_pow]
  by_cases h0:t=0
  ·subst h0;simp
  ·rw [zAI h0,zFu]
   have:Nat.testBit 1 t=false:=by
    rw [show (1:Nat)=2 ^ 0 from rfl,zHQ];simpa using fun h=>h0 h.symm
   rw [this,zGe]
 cases hb:tb (m:Int) s with
 | true=>
  rw [zAA rfl];refine MH (HO _ _ _) ⟨by decide,by decide⟩ fun t ht=>?_
  rw [key t ht,hb,show (1:Int)=((1:Nat):Int) from rfl,I9 1 t ht,Bool.and_true]
  by_cases h0:t=0
  ·subst h0;rfl
  ·rw [zAI h0];rw [show (1:Nat)=2 ^ 0 from rfl,zHQ];symm;simpa using fun h=>h0 h.symm
 | false=>
  rw [zAY zGJ];exact (Nv (HO _ _ _)).2 fun t ht=>by rw [key t ht,hb,zGe]
theorem tR {k s:Nat}{x:Int}(h:Sm k x)(hk:k<=62)(hs:s<64):(bits .and .i64 (x/2 ^ s) 1==1)=tb x s:=by
 rw [jZ h hk hs];cases tb x s <;> rfl
theorem tQ {k s:Nat}{x:Int}(h:Sm k x)(hk:k<=62)(hs:s<64):(bits .and .i64 (x/2 ^ s) 1==0)= !tb x s:=by
 rw [jZ h hk hs];cases tb x s <;> rfl
open Go.RowKit
theorem Xh {S R:Type}(m:Nat -> S -> Int -> Option R)(len N0:Nat)(Inv:Nat -> S -> Prop) 
 (h: ∀ (n i:Nat) (s:S),N0<=n -> i<len -> Inv i s -> ∃ s',m (n+1) s (i:Int)=m n s' ((i:Int)+1)/\ Inv (i+1) s'):
 ∀ (k i n:Nat) (s:S),i+k=len -> N0<=n -> Inv i s -> ∃ s',m (n+k) s (i:Int)=m n s' (len:Int)/\ Inv len s'
 | 0,i,n,s,e,_,hI=>by
  have:i=len:=by omega
  subst this;exact ⟨s,rfl,hI⟩
 | k+1,i,n,s,e,hn,hI=>by
  obtain ⟨s',h1,h2⟩:=h (n+k) i s (by omega) (by omega) hI;obtain ⟨s2,h3,h4⟩:=Xh m len N0 Inv h k (i+1) n s' (by omega) hn h2;refine ⟨s2,?_,h4⟩;rw [show n+(k+1)=n+k+1 by omega,h1,←h3];rfl
theorem Hy {S R:Type}(m:Nat -> S -> Int -> Option R)(len N0:Nat)(Inv:Nat -> S -> Prop) 
 (h: ∀ (n i:Nat) (s:S),N0<=n -> i<len -> Inv i s -> ∃ s',m (n+1) s (i:Int)=m n s' ((i:Int)+1)/\ Inv (i+1) s')
 {n:Nat} {s:S} (hn:N0+len<=n) (hI:Inv 0 s): ∃ n' s',N0<=n'/\ n'+len=n/\ m n s 0=m n' s' (len:Int)/\ Inv len s':=by
 obtain ⟨s',h1,h2⟩:=Xh m len N0 Inv h len 0 (n-len) s (by omega) (by omega) hI;rw [show n-len+len=n by omega] at h1;exact ⟨n-len,s',by omega,by omega,h1,h2⟩
structure CI (c:AB)(k:Nat)(pos:List Int):Prop where
 cells: ∀ a,a<c.cells.length -> 0<=c.cells.getD a 0/\ c.cells.getD a 0<(pos.length:Int)
 len:c.cells.length<=256
 sm: ∀ i,i<pos.length -> Sm k (pos.getD i 0)
 k:k<=16
def Ab (c:AB)(pos:List Int)(a:Nat):Int:=pos.getD (c.cells.getD a 0).toNat 0
def OB (x:Int):Bool:=bits .and .i64 x (x-1)==0
section
variable {c:AB} {k:Nat} {pos lost:List Int} {q:AA}
theorem CI.at (W:CI c k pos){a:Nat}(ha:a<c.cells.length):Sm k (Ab c pos a):=by
 have:=W.cells a ha;exact W.sm _ (by omega)
theorem CI.r64 (W:CI c k pos){a:Nat}(ha:a<c.cells.length):AH (Ab c pos a-1)/\ AH ((a:Int)+1):=by
 have h:=W.at ha;have h2:=Mg (k:=k) (zAa W.k (by decide));have h3:=W.len;obtain ⟨h0,h1⟩:=h;exact ⟨Aw.2 ⟨by omega,by omega⟩,Aw.2 ⟨by omega,by omega⟩⟩
theorem LP {n:Nat}{cell ss:Int}(h0:0<=cell)(h1:cell<(pos.length:Int))(hl:lost.length=pos.length):
 ∃ l',Dn n cell ss c q pos pos.length lost=some l'/\ l'.length=pos.length/\ ∀ j s,tb (l'.getD j 0) s=(tb (lost.getD j 0) s||(decide (j=cell.toNat)&&(tb (pos.getD j 0) s&&tb ss s))):=by
 refine ⟨lost.set cell.toNat (bits .or .i64 (lost.getD cell.toNat 0) (bits .and .i64 (pos.getD cell.toNat 0) ss)),?_,by rw [zCG];exact hl,fun j s=>?_⟩
 ·unfold Dn bY;simp only [zBy];rw [zAA ⟨⟨h0,h1⟩,by omega,h0,h1⟩]
 ·by_cases hj:j=cell.toNat
  ·subst hj;rw [u8,zFj (by omega),zGF,Nu,J3,zAU rfl,zCj]
  ·rw [u8,zFU (fun e=>hj e.symm),←u8,zAI hj,zFu,zFs]
theorem bD {n:Nat}{cell:Int}(h0:0<=cell)(h1:cell<(pos.length:Int))(hl:lost.length=pos.length):
 ∃ l',Gy n cell c q pos pos.length lost=some l'/\ l'.length=pos.length/\ ∀ j s,tb (l'.getD j 0) s=(tb (lost.getD j 0) s||(decide (j=cell.toNat)&&(tb (pos.getD j 0) s&&!tb c.set s))):=by
 refine ⟨lost.set cell.toNat (bits .or .i64 (lost.getD cell.toNat 0) (bits .andNot .i64 (pos.getD cell.toNat 0) c.set)),?_,by rw [zCG];exact hl,fun j s=>?_⟩
 ·unfold Gy bF;simp only [zBy];rw [zAA ⟨⟨h0,h1⟩,by omega,h0,h1⟩]
 ·by_cases hj:j=cell.toNat
  ·subst hj;rw [u8,zFj (by omega),zGF,Nu,Nw,zAU rfl,zCj]
  ·rw [u8,zFU (fun e=>hj e.symm),←u8,zAI hj,zFu,zFs]
def Sg (c:AB)(pos:List Int)(a s:Nat):Prop:=OB (Ab c pos a)=true/\ tb (Ab c pos a) s=true
def B5 (c:AB)(pos lost:List Int)(i:Nat)(D:Nat -> Nat -> Prop)(l:List Int):Prop:= l.length=pos.length/\ ∀ j s,tb (l.getD j 0) s=true↔tb (lost.getD j 0) s=true∨∃ a,a<i/\ (c.cells.getD a 0).toNat=j/\ tb (Ab c pos a) s=true/\ D a s
theorem B5.step {D:Nat -> Nat -> Prop}{i:Nat}{l l':List Int}(h:B5 c pos lost i D l)(hl:l'.length=pos.length) 
 (h1: ∀ j s,tb (l'.getD j 0) s=true↔tb (l.getD j 0) s=true∨((c.cells.getD i 0).toNat=j/\ tb (Ab c pos i) s=true/\ D i s)):B5 c pos lost (i+1) D l':=by
 refine ⟨hl,fun j s=>?_⟩;rw [h1,h.2];constructor
 ·rintro ((h | ⟨a,ha,h⟩) | h)
  ·exact .inl h
  ·exact .inr ⟨a,by omega,h⟩
  ·exact .inr ⟨i,by omega,h⟩
 ·rintro (h3 | ⟨a,ha,h3⟩)
  ·exact .inl (.inl h3)
  ·rcases zBj.1 ha with ha | rfl
   ·exact .inl (.inr ⟨a,ha,h3⟩)
   ·exact .inr h3
theorem B5.zero {D:Nat -> Nat -> Prop}(hl:lost.length=pos.length):B5 c pos lost 0 D lost:=
 ⟨hl,fun j s=>⟨.inl,fun h=>h.elim id fun ⟨a,ha,_⟩=>absurd ha (zBk a)⟩⟩
def Rs (c:AB)(pos:List Int)(a s:Nat):Prop:=∃ b,b<c.cells.length/\ b≠a/\ Sg c pos b s
theorem zDk {n:Nat}(W:CI c k pos)(hl:lost.length=pos.length)(hn:2*c.cells.length+2<=n):
 ∃ l,Rr n c q pos pos.length lost=some (true,l)/\ B5 c pos lost c.cells.length (Rs c pos) l:=by
 have lt: ∀ i,i<c.cells.length -> ((i:Nat):Int)<((c.cells.length:Nat):Int):=fun i hi=>by omega
 have S:=Hy (fun n (s:Int×Int) i=>Kn c q pos pos.length lost n (.l1 s.1 s.2 i)) c.cells.length (c.cells.length+2)
  (fun i s=>(∀ j,tb s.1 j=true↔∃ a,a<i/\ Sg c pos a j)/\ (∀ j,tb s.2 j=true↔∃ a b,a<b/\ b<i/\ Sg c pos a j/\ Sg c pos b j))
  (fun n i s _ hi hI=>?_) (n:=n) (s:=(0,0)) (by omega) ?_
 ·obtain ⟨n1,⟨o,t⟩,HD,_,e1,ho,ht⟩:=S;obtain ⟨n2,rfl⟩: ∃ n2,n1=n2+1:=⟨n1-1,by omega⟩
  have T:=Hy (fun n (s:List Int) i=>Kn c q pos pos.length lost n (.l2 o t i s)) c.cells.length 1
   (fun i s=>B5 c pos lost i (Rs c pos) s) (fun n i s Fw hi hI=>?_) (n:=n2) (s:=lost) (by omega) (B5.zero hl)
  ·obtain ⟨n3,l,M8,_,e2,hL⟩:=T;obtain ⟨n4,rfl⟩: ∃ n4,n3=n4+1:=⟨n3-1,by omega⟩;refine ⟨l,?_,hL⟩;unfold Rr pZ;refine e1.trans ?_
   show VW n2 (Kn c q pos pos.length lost n2) c q pos pos.length lost o t (c.cells.length:Int)=_
   unfold VW;rw [zAI (by omega),zAC];refine e2.trans ?_
   show VV n4 (Kn c q pos pos.length lost n4) c q pos pos.length lost o t (c.cells.length:Int) l=_
   unfold VV;rw [zAI (by omega),zAC]
  ·have hc:=W.cells i hi;have hr:=W.r64 hi
   show ∃ s',VV n (Kn c q pos pos.length lost n) c q pos pos.length lost o t (i:Int) s=_/\ _
   unfold VV;rw [zAU (lt i hi),zAK];simp only [zAP];rw [zAA ⟨⟨by omega,lt i hi⟩,hc,hr.1⟩];have sg:(bits .and .i64 (pos.getD (c.cells.getD i 0).toNat 0) (pos.getD (c.cells.getD i 0).toNat 0-1)==0)=OB (Ab c pos i):=rfl;rw [sg];cases hs:OB (Ab c pos i)
   ·rw [zAC];obtain ⟨l',h1,h2,h3⟩:=LP (n:=n) (ss:=o) (c:=c) (q:=q) hc.1 hc.2 hI.1;rw [h1,zAB,zAA hr.2];refine ⟨l',rfl,hI.step h2 fun j x=>?_⟩;rw [h3,zCL,zAO,zAO,zBq,ho];constructor
    ·rintro (h | ⟨rfl,h4,b,hb,h5⟩)
     ·exact .inl h
     ·refine .inr ⟨rfl,h4,b,hb,?_,h5⟩;rintro rfl;rw [h5.1] at hs;cases hs
    ·rintro (h | ⟨rfl,h4,b,hb,_,h5⟩)
     ·exact .inl h
     ·exact .inr ⟨rfl,h4,b,hb,h5⟩
   ·rw [zAK];obtain ⟨l',h1,h2,h3⟩:=LP (n:=n) (ss:=bits .or .i64 (bits .andNot .i64 o (pos.getD (c.cells.getD i 0).toNat 0)) t) (c:=c) (q:=q) hc.1 hc.2 hI.1;rw [h1,zAB,zAA hr.2];refine ⟨l',rfl,hI.step h2 fun j x=>?_⟩;rw [h3,zCL,zAO,zAO,zBq,Nu,Nw,zCL,zAO,ht];constructor
    ·rintro (h | ⟨rfl,h4,⟨_,h5⟩ | ⟨x1,y1,h6,h7,h8,h9⟩⟩)
     ·exact .inl h
     ·rw [h4] at h5;cases h5
     ·refine .inr ⟨rfl,h4,?_⟩
      by_cases e:x1=i
      ·exact ⟨y1,h7,by omega,h9⟩
      ·exact ⟨x1,by omega,e,h8⟩
    ·rintro (h | ⟨rfl,h4,b,hb,h5,h6⟩)
     ·exact .inl h
     ·refine .inr ⟨rfl,h4,.inr ?_⟩;rcases Nat.lt_or_gt_of_ne h5 with h5 | h5
      ·exact ⟨b,i,h5,hi,h6,hs,h4⟩
      ·exact ⟨i,b,h5,hb,⟨hs,h4⟩,h6⟩
 ·obtain ⟨o,t⟩:=s;obtain ⟨h1,h2⟩:=hI;simp only at h1 h2;have hc:=W.cells i hi;have hr:=W.r64 hi
  show ∃ s',VW n (Kn c q pos pos.length lost n) c q pos pos.length lost o t (i:Int)=_/\ _
  unfold VW;rw [zAU (lt i hi),zAK];simp only [zAP];rw [zAA ⟨⟨by omega,lt i hi⟩,hc,hr.1⟩];have sg:(bits .and .i64 (pos.getD (c.cells.getD i 0).toNat 0) (pos.getD (c.cells.getD i 0).toNat 0-1)==0)=OB (Ab c pos i):=rfl;rw [sg];cases hs:OB (Ab c pos i)
  ·rw [zAC,zAA hr.2];refine ⟨(o,t),rfl,fun j=>?_,fun j=>?_⟩
   ·rw [h1];constructor
    ·rintro ⟨a,ha,h⟩;exact ⟨a,by omega,h⟩
    ·rintro ⟨a,ha,h⟩;rcases zBj.1 ha with ha | rfl
     ·exact ⟨a,ha,h⟩
     ·rw [h.1] at hs;cases hs
   ·rw [h2];constructor
    ·rintro ⟨a,b,Iv,hb,h⟩;exact ⟨a,b,Iv,by omega,h⟩
    ·rintro ⟨a,b,Iv,hb,h⟩;rcases zBj.1 hb with hb | rfl
     ·exact ⟨a,b,Iv,hb,h⟩
     ·rw [h.2.1] at hs;cases hs
  ·rw [zAK,zAA hr.2];refine ⟨(bits .or .i64 o (Ab c pos i),bits .or .i64 t (bits .and .i64 o (Ab c pos i))),rfl,fun j=>?_,fun j=>?_⟩
   ·rw [Nu,zCL,h1];constructor
    ·rintro (⟨a,ha,h⟩ | h)
     ·exact ⟨a,by omega,h⟩
     ·exact ⟨i,by omega,hs,h⟩
    ·rintro ⟨a,ha,h⟩;rcases zBj.1 ha with ha | rfl
     ·exact .inl ⟨a,ha,h⟩
     ·exact .inr h.2
   ·rw [Nu,J3,zCL,zAO,h1,h2];constructor
    ·rintro (⟨a,b,Iv,hb,h⟩ | ⟨⟨a,ha,h⟩,h3⟩)
     ·exact ⟨a,b,Iv,by omega,h⟩
     ·exact ⟨a,i,ha,by omega,h,hs,h3⟩
    ·rintro ⟨a,b,Iv,hb,h,h3⟩;rcases zBj.1 hb with hb | rfl
     ·exact .inl ⟨a,b,Iv,hb,h,h3⟩
     ·exact .inr ⟨⟨a,Iv,h⟩,h3.2⟩
 ·exact ⟨fun j=>⟨fun h=>absurd h IK,fun ⟨a,ha,_⟩=>absurd ha (zBk a)⟩,fun j=>⟨fun h=>absurd h IK,fun ⟨a,b,_,hb,_⟩=>absurd hb (zBk b)⟩⟩
end
end Go.Proofs.YtodinaconebmdaaGreatDoor
namespace Go.Proofs
open Go.Shelf
def Tryz.lays189_ren:Go.Shelf.Ren:=⟨fun | 189=>166 | 125=>171 | 257=>170 | 128=>181 | 129=>182 | 294=>172 | 295=>173 | 296=>174 | 297=>175 | 298=>176 | 299=>177 | 216=>178 | 300=>179 | 301=>180 | 328=>183 | 329=>184 | 330=>185 | 331=>186 | 332=>187 | 215=>188 | 343=>189 | n=>n,fun | 28=>22 | 3=>3 | 46=>66 | 0=>0 | 51=>181 | 53=>73 | 4=>4 | 183=>200 | 182=>199 | 131=>63 | 5=>5 | 9=>9 | 218=>204 | 222=>208 | 228=>210 | 229=>150 | n=>n,fun | n=>n⟩
theorem Tryz.lays189:Go.Proofs.Lays.n189 Tryz.prog Tryz.lays189_ren:={
 mixed:=by kernel_rfl
 f125:=Tryz.func171.trans (congrArg some (by kernel_rfl))
 f128:=Tryz.func181.trans (congrArg some (by kernel_rfl))
 f129:=Tryz.func182.trans (congrArg some (by kernel_rfl))
 f189:=Tryz.func166.trans (congrArg some (by kernel_rfl))
 f215:=Tryz.func188.trans (congrArg some (by kernel_rfl))
 f216:=Tryz.func178.trans (congrArg some (by kernel_rfl))
 f257:=Tryz.func170.trans (congrArg some (by kernel_rfl))
 f294:=Tryz.func172.trans (congrArg some (by kernel_rfl))
 f295:=Tryz.func173.trans (congrArg some (by kernel_rfl))
 f296:=Tryz.func174.trans (congrArg some (by kernel_rfl))
 f297:=Tryz.func175.trans (congrArg some (by kernel_rfl))
 f298:=Tryz.func176.trans (congrArg some (by kernel_rfl))
 f299:=Tryz.func177.trans (congrArg some (by kernel_rfl))
 f300:=Tryz.func179.trans (congrArg some (by kernel_rfl))
 f301:=Tryz.func180.trans (congrArg some (by kernel_rfl))
 f328:=Tryz.func183.trans (congrArg some (by kernel_rfl))
 f329:=Tryz.func184.trans (congrArg some (by kernel_rfl))
 f330:=Tryz.func185.trans (congrArg some (by kernel_rfl))
 f331:=Tryz.func186.trans (congrArg some (by kernel_rfl))
 f332:=Tryz.func187.trans (congrArg some (by kernel_rfl))
 f343:=Tryz.func189.trans (congrArg some (by kernel_rfl))
 t0:=Tryz.underlying0
 a0:=Tryz.isAgg0
 z0:=Tryz.sizeOf0
 v0:=Tryz.zeroValue0
 t3:=Tryz.underlying3
 a3:=Tryz.isAgg3
 z3:=Tryz.sizeOf3
 v3:=Tryz.zeroValue3
 t4:=Tryz.underlying4
 a4:=Tryz.isAgg4
 z4:=Tryz.sizeOf4
 v4:=Tryz.zeroValue4
 t5:=Tryz.underlying5
 a5:=Tryz.isAgg5
 z5:=Tryz.sizeOf5
 v5:=Tryz.zeroValue5
 t9:=Tryz.underlying9
 a9:=Tryz.isAgg9
 z9:=Tryz.sizeOf9
 v9:=Tryz.zeroValue9
 t28:=Tryz.underlying22
 a28:=Tryz.isAgg22
 z28:=Tryz.sizeOf22
 v28:=Tryz.zeroValue22
 t46:=Tryz.underlying66
 a46:=Tryz.isAgg66
 z46:=Tryz.sizeOf66
 v46:=Tryz.zeroValue66
 t51:=Tryz.underlying181
 a51:=Tryz.isAgg181
 z51:=Tryz.sizeOf181
 v51:=Tryz.zeroValue181
 t53:=Tryz.underlying73
 a53:=Tryz.isAgg73
 z53:=Tryz.sizeOf73
 v53:=Tryz.zeroValue73
 t131:=Tryz.underlying63
 a131:=Tryz.isAgg63
 z131:=Tryz.sizeOf63
 v131:=Tryz.zeroValue63
 t182:=Tryz.underlying199
 a182:=Tryz.isAgg199
 z182:=Tryz.sizeOf199
 v182:=Tryz.zeroValue199
 t183:=Tryz.underlying200
 a183:=Tryz.isAgg200
 z183:=Tryz.sizeOf200
 v183:=Tryz.zeroValue200
 t218:=Tryz.underlying204
 a218:=Tryz.isAgg204
 z218:=Tryz.sizeOf204
 v218:=Tryz.zeroValue204
 t222:=Tryz.underlying208
 a222:=Tryz.isAgg208
 z222:=Tryz.sizeOf208
 v222:=Tryz.zeroValue208
 t228:=Tryz.underlying210
 a228:=Tryz.isAgg210
 z228:=Tryz.sizeOf210
 v228:=Tryz.zeroValue210
 t229:=Tryz.underlying150
 a229:=Tryz.isAgg150
 z229:=Tryz.sizeOf150
 v229:=Tryz.zeroValue150 }
open Go.Sort Go.RowKit in
theorem Tryz.slices_Sort_int (blk off cap:Nat)(zs:List Int)(w:World)(hH:Holds (Value.int .i64) w blk off zs.toArray)(dw:blk<w.heap.size)(Av:zs.length<4611686018427387904):
 Calls Tryz.prog 166 #[.slice (some ⟨blk,off,none⟩) zs.length cap] w fun e w'=>
  e= .returned (.tuple #[])/\ ∃ n os,w'=grow (putRow (Value.int .i64) (Sort.ahead w n) blk off (zs.mergeSort fun x y=>decide (x<=y)).toArray) os:=Any.slices_Sort_int Tryz.lays189 blk off cap zs w hH dw Av
end Go.Proofs
namespace Go.Proofs.YtodinaconebmdaaGreatDoor
open Go.RowKit
def Q3 (a:Int):List Int -> List Int
 | []=>[a]
 | b::l=>if a<=b then a::b::l else b::Q3 a l
def Ht:List Int -> List Int
 | []=>[]
 | a::l=>Q3 a (Ht l)
theorem b9 (a:Int): ∀ l:List Int,(Q3 a l).Perm (a::l)
 | []=>zG9 _
 | b::l=>by
  unfold Q3;split
  ·exact zG9 _
  ·exact ((b9 a l).cons b).trans (List.Perm.swap a b l)
theorem WX: ∀ l:List Int,(Ht l).Perm l
 | []=>zG9 _
 | a::l=>(b9 a _).trans ((WX l).cons a)
theorem mx (a:Int): ∀ l:List Int,l.Pairwise (· <= ·) -> (Q3 a l).Pairwise (· <= ·)
 | [],_=>List.pairwise_singleton _ _
 | b::l,h=>by
  have h':=List.pairwise_cons.1 h;unfold Q3;split
  ·rename_i Iv;refine List.pairwise_cons.2 ⟨fun x hx=>?_,h⟩;rcases zCC.1 hx with rfl | hx
   ·exact Iv
   ·exact Int.le_trans Iv (h'.1 x hx)
  ·rename_i Iv;refine List.pairwise_cons.2 ⟨fun x hx=>?_,mx a l h'.2⟩;rcases zCC.1 ((b9 a l).mem_iff.1 hx) with rfl | hx
   ·omega
   ·exact h'.1 x hx
theorem jM: ∀ l:List Int,(Ht l).Pairwise (· <= ·)
 | []=>List.Pairwise.nil
 | a::l=>mx a _ (jM l)
theorem s7 (l:List Int):(l.mergeSort fun x y=>decide (x<=y))=Ht l:=by
 refine List.Perm.eq_of_pairwise (le:=(· <= ·)) (fun a b _ _ h1 h2=>Int.le_antisymm h1 h2) ?_ (jM l) ((List.mergeSort_perm l _).trans (WX l).symm);have:=List.pairwise_mergeSort (le:=fun x y:Int=>decide (x<=y)) (fun a b c h1 h2=>by simp at h1 h2 ⊢;omega) (fun a b=>by simp;omega) l;exact this.imp fun h=>by simpa using h
theorem S5 (l:List Int):(Ht l).length=l.length:=(WX l).length_eq
theorem zCE {w:World}{b o:Nat}{l l':List Int}{cs:Array Value}{t:TypeId}{z:Nat×Nat}(h:w.heap[b]? =some (.cells cs t z))(hl:l.length=l'.length)(n:Nat)(os:Array Obj):
 ∃ El,(Sort.grow (Sort.putRow (Value.int .i64) (Sort.ahead w n) b o l'.toArray) os).heap[b]? =some (.cells El t z)/\ El.size=cs.size/\ ∀ j,j<l.length -> o+j<cs.size -> El[o+j]? =some (.int .i64 (l'.getD j 0)):=by
 have hb:b<w.heap.size:=(zAL.1 h).1;refine ⟨Sort.putCells (Value.int .i64) o l'.toArray cs,?_,by simp [Sort.putCells],fun j hj hs=>?_⟩
 ·simp only [Sort.grow,Sort.putRow,Sort.mapBlock,Sort.ahead];rw [zFz (by simpa using hb),zGN,zAA rfl,h];rfl
 ·simp only [Sort.putCells,Array.getElem?_mapIdx];rw [zCV hs];simp only [zCA];rw [zAA ⟨by omega,by simp;omega⟩];have:o+j-o=j:=by omega
  rw [this];have BM:j<l'.length:=by omega
  simp [BM,u8]
theorem ru {w:World}{b o:Nat}(hb:b<w.heap.size)(d:Array Int)(n:Nat)(os:Array Obj):AN (fun k=>k=b) w (Sort.grow (Sort.putRow (Value.int .i64) (Sort.ahead w n) b o d) os):=by
 refine ⟨rfl,rfl,rfl,by simp [Sort.ahead],fun k hk AR=>?_⟩;simp only [Sort.grow,Sort.putRow,Sort.mapBlock,Sort.ahead];rw [zFz (by simpa using hk),zGN,zAY (fun e=>AR e.symm)]
theorem s6 (l:List Int){n:Nat}(hn:n=l.length)(zBm:l.length<=A3):ES Tryz.prog GG 166 [.msl 0 1 0 n] [some (.ints l)] (.tup 0 fun j=>([]:List DV).getD j .any) [some (.ints (Ht l))] false:=by
 subst hn;refine ⟨⟨_,Tryz.func166,by decide,rfl⟩,fun N ρ w args HR CD=>?_⟩;obtain ⟨p,hp,DN⟩:=HR.obj 0 _ rfl;have DN:AQ w p l.length fun j u=>u= .int .i64 (l.getD j 0):=DN
 have h0:=CD.2 0 (by simp);obtain ⟨p',cap,A5,hv,NE,M9,Mz⟩:=h0;have ep:p'=p:=zAV (A5.symm.trans hp);subst ep;have Av:args.size=1:=by have:=CD.1;simpa using this.symm
 have ha:args= #[.slice (some ⟨p'.blk,p'.off,none⟩) l.length cap]:=by
  apply Array.ext
  ·simp [Av]
  ·intro i h1 h2;have:i=0:=by omega
   subst this;have e:args.getD 0 undef=args[0]:=by simp [Array.getD,Av]
   rw [e] at hv;rw [hv];simp
 have hH:Sort.Holds (Value.int .i64) w p'.blk p'.off l.toArray:=fun j hj=>by
  have hj:j<l.length:=by simpa using hj
  obtain ⟨u,c1,c2⟩:=DN.cell hj;refine ⟨by rw [c1,c2];simp [hj,u8],DN.frozen _⟩
 obtain ⟨FK,cs,t,Do,Cx,JT,_⟩:=DN;have hb:p'.blk<w.heap.size:=(zAL.1 Do).1;subst ha;refine (Tryz.slices_Sort_int p'.blk p'.off cap l w hH hb (by unfold A3 at zBm;omega)).mono ?_;rintro e w' ⟨rfl,m,os,rfl⟩;rw [s7];obtain ⟨El,k1,k2,k3⟩:=zCE (o:=p'.off) Do (S5 l).symm m os;have hu:AN p'.foot w (Sort.grow (Sort.putRow (Value.int .i64) (Sort.ahead w m) p'.blk p'.off (Ht l).toArray) os):=by rw [FK];exact ru (o:=p'.off) hb (Ht l).toArray m os
 show ∃ v,Ending.returned (.tuple #[])=Ending.returned v/\ B1 Tryz.prog GG N _ ρ w false _ _ v (Sort.grow (Sort.putRow (Value.int .i64) (Sort.ahead w m) p'.blk p'.off (Ht l).toArray) os)
 refine ⟨_,rfl,⟨⟨ρ,HR.write (o':=.ints (Ht l)) rfl hp hu (fun b hb=>?_) ?_,⟨#[],rfl,rfl,fun j hj=>absurd hj (zBk j)⟩,Ap.write rfl hp hu,fun _ _ h=>h⟩,fun h=>by cases h⟩⟩
 ·rw [FK] at hb;exact .cells (c:=El) (t:=t) (z:=(0,0)) (by rw [show b=p'.blk from hb];exact k1)
 ·refine ⟨FK,El,t,k1,by rw [k2,S5];exact Cx,by rw [k2];exact JT,fun j hj=>?_⟩;rw [S5] at hj;exact ⟨_,k3 j hj (by omega),rfl⟩
set_option maxRecDepth 100000
set_option maxHeartbeats 40000000
inductive Lv where
 | s0
 | s1 (K9:Nat) (IU:List Int)
def qf:Lv -> DH
 | .s0=>[none,oC [.nils]]
 | .s1 K9 IU=>[none,oC [.msl 2 1 0 K9],oI IU]
def ZQ (n:Nat)(e6:Int):Option Lv:= if (0=0/\ 1=([e6]:List Int).length)/\ 0<([e6]:List Int).length/\ ([e6]:List Int).length<=A3 then some (.s1 (([e6]:List Int).length) ([e6]:List Int)) else none
def ZP (n:Nat)(e6:Int)(K9:Nat)(IU:List Int):Option Lv:= if (0=0/\ 1=([e6]:List Int).length)/\ (0=0/\ K9=IU.length)/\ IU.length+([e6]:List Int).length<=A3 then some (.s1 (IU.length+([e6]:List Int).length) (IU++([e6]:List Int))) else none
def fg (n:Nat)(e6:Int):Lv -> Option Lv
 | .s0=>ZQ n e6
 | .s1 K9 IU=>ZP n e6 K9 IU
def Jr (n:Nat)(e6:Int)(s:Lv):Option Lv:=fg n e6 s
theorem zEz (n:Nat)(l B:Nat)(N:Yd 2)(e6:Int)(s:Lv)(r:Lv)(h:Jr n e6 s=some r):TA l B N (Cf 2 [] 0 (qf r)) Tryz.f169 6 ⟨AF 13 [(2,.ref 1 0),(6,.it 0),(7,.i e6)],qf s⟩:=by
 cases s with
 | s0=>
  replace h:ZQ n e6=some r:=h;unfold ZQ at h;refine ag AD [0,1] H0 (AF 13 [(2,.ref 1 0),(5,.i e6)]) [none,oC [.nils]] fun N=>?_
  revert r;apply gO;exact gi (jt (lF fun p=>rr AD [0,1,3] rfl p))
 | s1 K9 IU=>
  replace h:ZP n e6 K9 IU=some r:=h;unfold ZP at h;refine ag AD [0,1,2] H0 (AF 13 [(2,.ref 1 0),(5,.i e6)]) [none,oC [.msl 2 1 0 K9],oI IU] fun N=>?_
  revert r;apply gO;exact gi (jt (lF fun p=>rr AD [0,1,4] rfl p))
def ff (n:Nat)(l:List Int):Option ((List Int)):=
 (B9 (Jr n) l (.s0)).bind fun y1=>
  match y1 with
  | .s0=>
   none
  | .s1 Ze Zd=>
   if Ze=Zd.length then
    some Zd
   else none
def V0 (n:Nat)(l:List Int):Option ((List Int)):=ff n l
theorem zEy {n:Nat}{l:List Int}{r:(List Int)}(h:V0 n l=some r):EQ 169 [.nils,.it 0] [some (.iter ((l).map Bj))] (.msl 1 1 0 r.length) [none,oI r] false:=by
 unfold V0 ff at h;refine ot Tryz.func169 fun B N=>?_
 revert r;apply gO
 exact cn fun y1 Au=>fun p r h=>by
  refine gs AD [0,1] p (GZ (AY Tryz.f169) 6 []) (AF 13 [(2,.ref 1 0),(6,.it 0)]) [some (.iter ((l).map Bj)),oC [.nils]] ?_;refine r0 0 6 #[7] Bj 2 Au (zEz n) ?_;cases y1 with
  | s0=>
   dsimp only at h
   revert r;apply gO;exact nO
  | s1 Ze Zd=>
   dsimp only at h
   revert r;apply gO;exact gn fun g0=>lF fun p=>el AD [4] [0,2] p [] H0 [.msl 1 1 0 Ze] (AL.mslN g0)
def fG (n:Nat)(l:List Int):Option ((List Int)):= (V0 n l).bind fun y1=> some y1
def ZC (n:Nat)(l:List Int):Option ((List Int)):=fG n l
theorem zEF {n:Nat}{l:List Int}{r:(List Int)}(h:ZC n l=some r):EQ 165 [.it 0] [some (.iter ((l).map Bj))] (.msl 1 1 0 r.length) [none,oI r] false:=by
 unfold ZC fG at h;refine ot Tryz.func165 fun B N=>?_
 revert r;apply gO;exact ce zEy [0] [some (.iter ((l).map Bj))] fun y1=>lF fun p=>el AD [2] [0,1] p [] H0 [.msl 1 1 0 y1.length] (AL.mslN rfl)
def Z8 (n:Nat)(l:List Int):Option ((List Int)):= (ZC n l).bind fun y1=> if y1.length<=A3 then if y1.length=(Ht y1).length then some (Ht y1) else none else none
def N6 (n:Nat)(l:List Int):Option ((List Int)):=Z8 n l
theorem s3 {n:Nat}{l:List Int}{r:(List Int)}(h:N6 n l=some r):EQ 152 [.it 0] [some (.iter ((l).map Bj))] (.msl 1 1 0 r.length) [none,oI r] false:=by
 unfold N6 Z8 at h;refine ot Tryz.func152 fun B N=>?_
 revert r;apply gO;exact ce zEF [0] [some (.iter ((l).map Bj))] fun y1=>gn fun g0=>jc (em (s6 y1 (n:=y1.length) (Eq.refl y1.length) g0) [1] [none,oI y1]) (gn fun g1=>lF fun p=>el AD [2] [0,1] p [] H0 [.msl 1 1 0 y1.length] (AL.mslN g1))
def pi (n:Nat)(g_:List (List Int))(Ak:List Bool)(start:Int):Option ((List Int)×Int):= (NI n g_ ([Ak]:List (List Bool))).bind fun y1=> bif (y1 != 0) then some (([]:List Int),y1) else bif (decide (start<0)) then some (([]:List Int),1) else bif (decide (start>=(g_.length:Int))) then some (([]:List Int),1) else if 0<=start/\ start<(Ak.length:Int) then bif (!(Ak.getD ((start).toNat) false)) then some (([]:List Int),1) else (Gq n g_ start Ak).bind fun y2=> (N6 n y2).bind fun y3=> some (y3,0) else none
def Rv (n:Nat)(g_:List (List Int))(Ak:List Bool)(start:Int):Option ((List Int)×Int):=pi n g_ Ak start
theorem zED {n:Nat}{g_:List (List Int)}{Ak:List Bool}{start:Int}{r:(List Int)×Int}(h:Rv n g_ Ak start=some r):EQ 138 [.sl 1 g_.length (AO Ac g_),.bools Ak,.i start] [] (.tup 2 (L1 [.ints r.1,.i r.2])) [] true:=by
 refine ot Tryz.func138 fun B N=>?_
 revert r;apply gO;exact ja 10 0 1 (Gp (c:=ZK) (L:=([Ak]:List (List Bool))) (vals:=[.bools Ak]) rfl ⟨⟨_,rfl,⟨Ay,trivial⟩⟩,trivial⟩) (jz 10 0 (jg (Eq.refl 1) (cf oS [none] fun y1=>bi 13 (lF fun p=>el AD [6,7] [] p [] H0 [.nils,.i y1] (AL.tupL (l:=[.nils,.i y1]) (l':=[.ints ([]:List Int),.i y1]) rfl ⟨AL.ints_nil,Ay,trivial⟩)) (bi 16 (lF fun p=>el AD [6,7] [] p [] H0 [.nils,.i 1] (AL.tupL (l:=[.nils,.i 1]) (l':=[.ints ([]:List Int),.i 1]) rfl ⟨AL.ints_nil,Ay,trivial⟩)) (bi 21 (lF fun p=>el AD [6,7] [] p [] H0 [.nils,.i 1] (AL.tupL (l:=[.nils,.i 1]) (l':=[.ints ([]:List Int),.i 1]) rfl ⟨AL.ints_nil,Ay,trivial⟩)) (gi (bi 28 (lF fun p=>el AD [6,7] [] p [] H0 [.nils,.i 1] (AL.tupL (l:=[.nils,.i 1]) (l':=[.ints ([]:List Int),.i 1]) rfl ⟨AL.ints_nil,Ay,trivial⟩)) (cn fun y2 Cd=>jc (aY Cd [none]) (ce s3 [1] [none,some (.iter ((y2).map Bj))] fun y3=>lF fun p=>ez AD [6,7] [2] p [0] (H0.g (Eq.refl y3.length)))))))))))
def ir:ST:=.rd 0 (.rd 1 (.ef 2 (.ef 3 (.fin [] [4,5]) (.no)) (.no)))
theorem uT:Bs (A4 Tryz.f141 11) [2] ir:=by unfold Bs;kernel_rfl
def MP:Bi:=fun i=>match i with
 | 11=>.tre [2] ir
 | _=>.no
def zBM (g_:List (List Int))(CQ:Int)(y1 o1:List Int):DH:=[oC [.msl 3 1 0 g_.length],oC [.i (CQ+1)],some (.iter ((y1).map Bj)),oI o1]
def iP (g_:List (List Int))(o1:List Int)(CQ:Int):St:=⟨(AF 42 [(4,.ref 0 0),(5,.ref 2 0)]),([oC [.msl 1 1 0 g_.length],oI o1,oC [.i CQ]]:DH)⟩
inductive Mh where
 | s0 (KE:List Int)
def lK (g_:List (List Int))(Ak:List Bool)(x13 CQ:Int):Mh -> DH
 | .s0 KE=>[oC [.msl 3 1 0 g_.length],oC [.i (CQ+1)],none,oI KE]
def XF (n:Nat)(g_:List (List Int))(Ak:List Bool)(x13 CQ H9:Int)(KE:List Int):Option Mh:= if (0<=H9/\ H9<(g_.length:Int))/\ 0+((H9).toNat)<KE.length then some (.s0 (KE.set (0+((H9).toNat)) (CQ+1))) else none
def lJ (n:Nat)(g_:List (List Int))(Ak:List Bool)(x13 CQ H9:Int):Mh -> Option Mh
 | .s0 KE=>XF n g_ Ak x13 CQ H9 KE
def OV (n:Nat)(g_:List (List Int))(Ak:List Bool)(x13 CQ H9:Int)(s:Mh):Option Mh:=lJ n g_ Ak x13 CQ H9 s
theorem ww (n:Nat)(g_:List (List Int))(Ak:List Bool)(x13 CQ:Int)(l B:Nat)(N:Yd 3)(H9:Int)(s:Mh)(r:Mh)(h:OV n g_ Ak x13 CQ H9 s=some r):TA l B N (Cf 3 [] 0 (lK g_ Ak x13 CQ r)) Tryz.f141 33 ⟨AF 42 [(0,.sl 1 g_.length (AO Ac g_)),(1,.bools Ak),(4,.ref 0 0),(5,.ref 1 0),(12,.i (g_.length:Int)),(13,.i x13),(33,.it 2),(34,.i H9)],lK g_ Ak x13 CQ s⟩:=by
 cases s with
 | s0 KE=>
  replace h:XF n g_ Ak x13 CQ H9 KE=some r:=h;unfold XF at h;refine ag MP [0,1,2,3] H0 (AF 42 [(4,.ref 0 0),(5,.ref 1 0),(7,.i H9)]) [oC [.msl 3 1 0 g_.length],oC [.i (CQ+1)],none,oI KE] fun N=>?_
  revert r;apply gO;exact gc (gi (gi (lF fun p=>rr MP [0,1,2,3] rfl p)))
inductive XG where
 | l1 (x13:Int) (o1:List Int) (CQ:Int)
def Ty (n:Nat)(self:XG -> Option ((List Int)×Int))(g_:List (List Int))(Ak:List Bool)(x13:Int)(o1:List Int)(CQ:Int):Option ((List Int)×Int):=
 bif (decide (x13<(g_.length:Int))) then
  if 0<=x13/\ x13<(Ak.length:Int) then
   bif (!(Ak.getD ((x13).toNat) false)) then
    if AH (x13+1) then
     self (.l1 (x13+1) o1 CQ)
    else none
   else
    if (0<=x13/\ x13<(g_.length:Int))/\ 0+((x13).toNat)<o1.length then
     bif (decide ((o1.getD (0+((x13).toNat)) 0)>0)) then
      if AH (x13+1) then
       self (.l1 (x13+1) o1 CQ)
      else none
     else
      if AH (CQ+1) then
       (Gq n g_ x13 Ak).bind fun y1=>
        (B9 (OV n g_ Ak x13 CQ) y1 (.s0 o1)).bind fun y2=>
         match y2 with
         | .s0 EV=>
          if AH (x13+1) then
           self (.l1 (x13+1) EV (CQ+1))
          else none
      else none
    else none
  else none
 else
  if g_.length=o1.length then
   some (o1,CQ)
  else none
def lI (n:Nat)(self:XG -> Option ((List Int)×Int))(g_:List (List Int))(Ak:List Bool):Option ((List Int)×Int):= if ((g_.length:Int):Int)=(g_.length:Int)/\ 0<=(g_.length:Int)/\ ((g_.length:Int):Int)<=1000000000000 then self (.l1 0 (List.replicate g_.length (0:Int)) 0) else none
def Ql (g_:List (List Int))(Ak:List Bool):Nat -> XG -> Option ((List Int)×Int)
 | 0,_=>none
 | n+1,.l1 x13 o1 CQ=>Ty n (Ql g_ Ak n) g_ Ak x13 o1 CQ
def parts (n:Nat)(g_:List (List Int))(Ak:List Bool):Option ((List Int)×Int):=lI n (Ql g_ Ak n) g_ Ak
def wy (n B:Nat)(N:Yd 0)(g_:List (List Int))(Ak:List Bool)(r:(List Int)×Int):XG -> Prop
 | .l1 x13 o1 CQ=>∀ m0:Nat,n<=m0 -> TW B N (FQ Tryz.f141 0 (.tup 2 (L1 [.ints r.1,.i r.2])) []) (Ax m0 (A7 (AY Tryz.f141) 0 [])) ⟨AF 42 [(0,.sl 1 g_.length (AO Ac g_)),(1,.bools Ak),(4,.ref 0 0),(5,.ref 2 0),(12,.i (g_.length:Int)),(13,.i x13)],[oC [.msl 1 1 0 g_.length],oI o1,oC [.i CQ]]⟩
theorem wz (B:Nat)(N:Yd 0)(g_:List (List Int))(Ak:List Bool):Al (Ql g_ Ak) (wy · B N g_ Ak):=ia (fun _=>rfl) fun n AJ pt r h=>by
 cases pt
 case l1 x13 o1 CQ=>
  intro m0 AC;refine rd AC fun m0 AC=>?_
  revert r;apply gO
  exact bi 14 (gi (bi 20 (gw 39 (lG MP [0,1,2] (AJ _ _ · m0 AC))) (gc (gi (gi (bi 26 (gw 39 (lG MP [0,1,2] (AJ _ _ · m0 AC))) (gw 29 (jt (cn fun y1 Au=>jc (aY Au [oC [.msl 1 1 0 g_.length],oI o1,oC [.i (CQ+1)]]) (cn fun y2 Cd=>fun p r h=>by
   refine gs MP [0,2,3,1] p (GZ (AY Tryz.f141) 33 [m0]) (AF 42 [(0,.sl 1 g_.length (AO Ac g_)),(1,.bools Ak),(4,.ref 0 0),(5,.ref 1 0),(12,.i (g_.length:Int)),(13,.i x13),(33,.it 2)]) (zBM g_ CQ y1 o1) ?_;refine r0 2 33 #[34] Bj 3 Cd (ww n g_ Ak x13 CQ) ?_;cases y2 with
   | s0 EV=>
    dsimp only at h
    revert r;apply gO;exact gw 39 (lG MP [0,3,1] (AJ _ _ · m0 AC)))))))))))) (jg uT (jt (jt (jg (Eq.refl (iP g_ o1 CQ)) (gn fun g0=>lF fun p=>ez (tg:=[([(2,0)],(iP g_ o1 CQ))]) MP [4,5] [0,1,2] p [1] (H0.g g0))))))
theorem wu {n:Nat}{g_:List (List Int)}{Ak:List Bool}{r:(List Int)×Int}(h:parts n g_ Ak=some r):EQ 141 [.sl 1 g_.length (AO Ac g_),.bools Ak] [] (.tup 2 (L1 [.ints r.1,.i r.2])) [] true:=by
 refine ot Tryz.func141 fun B N=>?_
 revert r;apply gO;exact gi (jt (lN MP [0,2,1] ((wz B N g_ Ak n) _ _ · n Nat.le.refl)))
end Go.Proofs.YtodinaconebmdaaGreatDoor
namespace Go.Proofs.YtodinaconebmdaaGreatDoor
open Go.RowKit
set_option maxRecDepth 100000
set_option maxHeartbeats 40000000
def Zj (n:Nat)(n_:Int)(inn:List Bool):Option ((List Bool)):= (Pj n inn).bind fun y1=> if (0<=n_/\ n_<(y1.length:Int))/\ 0+((n_).toNat)<y1.length then if y1.length=(y1.set (0+((n_).toNat)) false).length then some (y1.set (0+((n_).toNat)) false) else none else none
def Sc (n:Nat)(n_:Int)(inn:List Bool):Option ((List Bool)):=Zj n n_ inn
theorem rW {n:Nat}{n_:Int}{inn:List Bool}{r:(List Bool)}(h:Sc n n_ inn=some r):EQ 140 [.i n_,.fp 1 (L1 [.bools inn])] [] (.msl 0 1 0 r.length) [some (.bools r)] true:=by
 unfold Sc Zj at h;refine ot Tryz.func140 fun B N=>?_
 revert r;apply gO;exact cn fun y1 Au=>jc (ES.snapNew (ds:=[.bools inn]) (pq Au) [] (fl (by kernel_rfl)) rfl) (gc (gi (gi (gn fun g2=>lF fun p=>el AD [3] [0] p [] H0 [.msl 0 1 0 y1.length] (AL.mslN g2)))))
theorem uC:Az (A4 Tryz.f131 16) [] (List.range 7) []:=by unfold Az;kernel_rfl
def Hu:Bi:=fun i=>match i with
 | 16=>.ord [] (List.range 7) []
 | _=>.no
def nQ (Ak CF:List Bool)(Bq:Int):DH:=[oC [.bools Ak],oC [.bools CF],oC [.i Bq],oC [.bool false],none]
def zAi (Ak CF:List Bool)(Bq:Int):DH:=[oC [.bools Ak],oC [.bools CF],oC [.i Bq],oC [.bool false],none,none]
def zAh (Ak CF:List Bool)(Bq:Int)(y3:(List Int)×Int):DH:=[oC [.bools Ak],oC [.bools CF],oC [.i Bq],oC [.bool false],none,none,oC [.ints y3.1],oC [.i 0]]
def zAg (CF:List Bool)(Bq:Int)(y3:(List Int)×Int)(y4:List Int):DH:=[oC [.bools CF],oC [.i Bq],oC [.bool false],oC [.ints y3.1],oC [.i 0],some (.iter ((y4).map Bj))]
def zAf (CF:List Bool)(Bq:Int)(Hv:Bool)(y3:(List Int)×Int)(Gu:Int):DH:=[oC [.bools CF],oC [.i Bq],oC [.bool Hv],oC [.ints y3.1],oC [.i Gu],none]
inductive MM where
 | s0 (Hv:Bool) (Gu:Int)
def jH (CF:List Bool)(Bq:Int)(y3:(List Int)×Int):MM -> DH
 | .s0 Hv Gu=>[oC [.bools CF],oC [.i Bq],oC [.bool Hv],oC [.ints y3.1],oC [.i Gu],none]
def S0 (n:Nat)(CF:List Bool)(Bq:Int)(y3:(List Int)×Int)(Fh:Int)(Hv:Bool)(Gu:Int):Option (MM×Nat):= bif (Fh==Bq) then some (.s0 Hv Gu,0) else if 0<=Fh/\ Fh<(CF.length:Int) then bif (!(CF.getD ((Fh).toNat) false)) then some (.s0 Hv Gu,0) else bif (Gu==0) then if 0<=Fh/\ Fh<(y3.1.length:Int) then some (.s0 Hv (y3.1.getD ((Fh).toNat) 0),0) else none else if 0<=Fh/\ Fh<(y3.1.length:Int) then bif ((y3.1.getD ((Fh).toNat) 0) != Gu) then some (.s0 true Gu,1) else some (.s0 Hv Gu,0) else none else none
def sw (n:Nat)(CF:List Bool)(Bq:Int)(y3:(List Int)×Int)(Fh:Int):MM -> Option (MM×Nat)
 | .s0 Hv Gu=>S0 n CF Bq y3 Fh Hv Gu
def IM (n:Nat)(CF:List Bool)(Bq:Int)(y3:(List Int)×Int)(Fh:Int)(s:MM):Option (MM×Nat):=sw n CF Bq y3 Fh s
theorem sv (n:Nat)(CF:List Bool)(Bq:Int)(y3:(List Int)×Int)(l B:Nat)(N:Yd 6)(Fh:Int)(s:MM)(r:MM×Nat)(h:IM n CF Bq y3 Fh s=some r):TA l B N (Cf 6 [.exit 0] r.2 (jH CF Bq y3 r.1)) Tryz.f131 48 ⟨AF 76 [(6,.ref 0 0),(7,.ref 1 0),(8,.ref 2 0),(11,.ref 3 0),(13,.ref 4 0),(48,.it 5),(49,.i Fh)],jH CF Bq y3 s⟩:=by
 cases s with
 | s0 Hv Gu=>
  refine ag Hu [0,1,2,3,4,5] H0 (AF 76 [(6,.ref 0 0),(7,.ref 1 0),(8,.ref 2 0),(11,.ref 3 0),(13,.ref 4 0),(14,.i Fh)]) (zAf CF Bq Hv y3 Gu) fun N=>?_
  revert r;apply gO;exact bi 53 (lF fun p=>rr Hu [0,1,2,3,4,5] rfl p) (gi (bi 59 (lF fun p=>rr Hu [0,1,2,3,4,5] rfl p) (bi 63 (gi (jt (lF fun p=>rr Hu [0,1,2,3,4,5] rfl p))) (jg uC (gi (bi 74 (jt (lF fun p=>rr Hu [0,1,2,3,4,5] rfl p)) (lF fun p=>rr Hu [0,1,2,3,4,5] rfl p)))))))
def jG (n:Nat)(g_:List (List Int))(Ak CF:List Bool)(Bq:Int):Option (Bool×Int):=
 (NI n g_ ([Ak,CF]:List (List Bool))).bind fun y1=>
  bif (y1 != 0) then
   some (false,y1)
  else
   bif (decide (Bq<0)) then
    some (false,1)
   else
    bif (decide (Bq>=(g_.length:Int))) then
     some (false,1)
    else
     if 0<=Bq/\ Bq<(Ak.length:Int) then
      bif (!(Ak.getD ((Bq).toNat) false)) then
       some (false,0)
      else
       (Sc n Bq Ak).bind fun y2=>
        (parts n g_ y2).bind fun y3=>
         (Gq n g_ Bq Ak).bind fun y4=>
          (CN (IM n CF Bq y3) y4 (.s0 false 0)).bind fun y5=>
           bif y5.2==0 then
            match y5.1 with
            | .s0 SZ Zc=>
             some (SZ,0)
           else
            bif y5.2==1 then
             match y5.1 with
             | .s0 SZ Zc=>
              some (SZ,0)
            else
             none
     else none
def N4 (n:Nat)(g_:List (List Int))(Ak CF:List Bool)(Bq:Int):Option (Bool×Int):=jG n g_ Ak CF Bq
theorem sr {n:Nat}{g_:List (List Int)}{Ak CF:List Bool}{Bq:Int}{r:Bool×Int}(h:N4 n g_ Ak CF Bq=some r):EQ 131 [.sl 1 g_.length (AO Ac g_),.bools Ak,.bools CF,.i Bq] [] (.tup 2 (L1 [.bool r.1,.i r.2])) [] true:=by
 refine ot Tryz.func131 fun B N=>?_
 revert r;apply gO
 exact ja 18 4 1 (Gp (c:=ZK) (L:=([Ak,CF]:List (List Bool))) (vals:=[.bools Ak,.bools CF]) rfl ⟨⟨_,rfl,⟨Ay,trivial⟩⟩,⟨_,rfl,⟨Ay,trivial⟩⟩,trivial⟩) (jz 18 4 (jg (Eq.refl 2) (cf oS (nQ Ak CF Bq) fun _=>bi 21 (jt (lE Hu [8,9] [3])) (bi 24 (jt (lE Hu [8,9] [3])) (bi 29 (jt (lE Hu [8,9] [3])) (gi (bi 35 (jt (lE Hu [8,9] [3])) (cn fun y2 Cd=>jc (ES.snapNew (ds:=[.i Bq,.ref 0 0]) (rW Cd) (nQ Ak CF Bq) ⟨Aq.plain (by kernel_rfl),(Aq.refL (l:=[.bools Ak]) (l0:=[.bools Ak]) rfl ⟨Aq.plain (by kernel_rfl),trivial⟩),trivial⟩ rfl) (jz 41 5 (jg (Eq.refl y2.length) (cf wu (zAi Ak CF Bq) fun y3=>jt (jt (cn fun y4 cN=>jc (aY cN (zAh Ak CF Bq y3)) (cn fun y5 cM=>fun p r h=>by
  refine gs Hu [1,2,3,6,7,8] p (GZ (AY Tryz.f131) 48 []) (AF 76 [(6,.ref 0 0),(7,.ref 1 0),(8,.ref 2 0),(11,.ref 3 0),(13,.ref 4 0),(48,.it 5)]) (zAg CF Bq y3 y4) ?_;refine rx [.exit 0] 5 48 #[49] Bj 6 cM (sv n CF Bq y3) fun e he=>?_
  replace h:=C8 h;rcases h with ⟨SY,h⟩ | ⟨SY,h⟩
  ·rw [eq_of_beq SY] at he;cases he;revert h;cases y5.1 with
   | s0 SZ Zc=>
    intro h
    dsimp only at h
    revert r;apply gO;exact jt (lE Hu [8,9] [2])
  ·replace h:=C8 h;rcases h with ⟨SY,h⟩ | ⟨SY,h⟩
   ·rw [eq_of_beq SY] at he;cases he;refine A6.exitTo (by kernel_rfl) ?_;revert h;cases y5.1 with
    | s0 SZ Zc=>
     intro h
     dsimp only at h
     revert r;apply gO;exact jt (lE Hu [8,9] [2])
   ·cases h))))))))))))))
end Go.Proofs.YtodinaconebmdaaGreatDoor
namespace Go.Proofs.YtodinaconebmdaaGreatDoor
open Go.RowKit
theorem Ai.bindU {R T:Type}{a:Nat -> Option T}{b:Nat -> T -> Option R}{A:T -> Prop}{Q:R -> Prop}(ha:Ai a A)(hb: ∃ M,∀ n,M<=n -> ∀ x,A x -> ∃ r,b n x=some r/\ Q r):Ai (fun n=>(a n).bind (b n)) Q:=by
 obtain ⟨N,ha⟩:=ha;obtain ⟨M,hb⟩:=hb;refine ⟨max N M,fun n hn=>?_⟩;obtain ⟨x,h1,h2⟩:=ha n (by omega);obtain ⟨r,h3,h4⟩:=hb n (by omega) x h2;exact ⟨r,by show (a n).bind (b n)=_;rw [h1,zAB];exact h3,h4⟩
structure P8 (g:List (List Int)):Prop where
 ok:NJ g=true
 row: ∀ r∈g,r.length<=LB
theorem P8.gr {g:List (List Int)}(h:P8 g):Gr g:=Gr.of h.ok h.row
section
variable {g:List (List Int)} {inn some':List Bool} {s:Int}
theorem oT {sets:List (List Bool)}(hs: ∀ x∈sets,x.length=g.length)(hl:sets.length<=256): ∀ (k i n:Nat),i+k=sets.length -> k+1<=n -> RU g sets n (.l1 (i:Int))=some 0
 | 0,i,n,e,hn=>by
  obtain ⟨n,rfl⟩: ∃ k,n=k+1:=⟨n-1,by omega⟩
  show U8 n (RU g sets n) g sets i=_
  unfold U8;rw [zAI (by omega),zAC]
 | k+1,i,n,e,hn=>by
  obtain ⟨n,rfl⟩: ∃ k,n=k+1:=⟨n-1,by omega⟩;have hi:i<sets.length:=by omega
  have hm:sets.getD i []∈sets:=by rw [u8,zAE hi];exact zB0 hi
  have e2:(((sets.getD i []).length:Int) != (g.length:Int))=false:=by rw [hs _ hm];simp
  have:=oT hs hl k (i+1) n (by omega) (by omega)
  show U8 n (RU g sets n) g sets i=_
  unfold U8;rw [zAU (by omega),zAK,zAA ⟨by omega,by omega⟩,zAP,e2,zAC,zAA (Aw.2 ⟨by omega,by omega⟩)];exact this
theorem oV (G:P8 g){sets:List (List Bool)}(hs: ∀ x∈sets,x.length=g.length)(hl:sets.length<=256):Ev (fun n=>NI n g sets) 0:=by
 refine ⟨2*Hq g+1+sets.length+1,fun n hn=>?_⟩
 show NI n g sets=some 0
 unfold NI oU;rw [od G.row (by omega),G.ok];exact oT hs hl sets.length 0 n (by omega) (by omega)
theorem qh {n:Nat}: ∀ (l x:List Int),(x++l).length<=A3 -> B9 (Jr n) l (.s1 x.length x)=some (.s1 (x++l).length (x++l))
 | [],x,h=>by rw [zF1];rfl
 | a::l,x,h=>by
  have e:x++a::l=x++[a]++l:=by simp
  rw [e] at h ⊢;have h2:x.length+1<=A3:=by simp only [zBe,zB7] at h;omega
  have e1:Jr n a (.s1 x.length x)=some (.s1 (x++[a]).length (x++[a])):=by
   unfold Jr fg ZP
   dsimp only
   rw [zAA ⟨⟨rfl,rfl⟩,⟨rfl,rfl⟩,by simpa using h2⟩,zBe]
  show (Jr n a (.s1 x.length x)).bind (B9 (Jr n) l)=_
  rw [e1,zAB];exact qh l (x++[a]) h
theorem s5 {n:Nat}{l:List Int}(h0:l≠[])(hl:l.length<=256):N6 n l=some (Ht l):=by
 have L:(1000000000000:Nat)=A3:=rfl;cases l with
 | nil=>exact absurd rfl h0
 | cons a l=>
  have e1:Jr n a .s0=some (.s1 [a].length [a]):=by
   unfold Jr fg ZQ
   dsimp only
   rw [zAA ⟨⟨rfl,rfl⟩,by simp,by rw [←L];simp⟩]
  have e2:=qh (n:=n) l [a] (by rw [←L];simp only [List.singleton_append];omega)
  have e3:V0 n (a::l)=some (a::l):=by
   unfold V0 ff
   show ((Jr n a .s0).bind (B9 (Jr n) l)).bind _=_
   rw [e1,zAB,e2,zAB]
   dsimp only
   rw [zAA rfl];rfl
  unfold N6 Z8 ZC fG;rw [e3,zAB,zAB,zAA (by rw [←L];omega),zAA (S5 _).symm]
theorem wA {l:List Int}(h: ∀ v,v∈l↔Rc g inn s v):l≠[]:=fun e=>by
 have:=(h s).2 .start;rw [e] at this;cases this
theorem wB (G:Gr g)(h0:0<=s)(h1:s<(g.length:Int)){l:List Int}(hn:l.Nodup)(h: ∀ v,v∈l↔Rc g inn s v):l.length<=256:=
 zAa (UB g.length l hn fun x hx=>((h x).1 hx).rng G h0 h1) G.len
theorem zEE (G:P8 g)(hI:inn.length=g.length)(h0:0<=s)(h1:s<(g.length:Int))(hs:inn.getD s.toNat false=true):
 Ai (fun n=>Rv n g inn s) (fun r=>r.2=0/\ r.1.length<=256/\ ∀ v,v∈r.1↔Rc g inn s v):=by
 have e: ∀ n,Rv n g inn s=(NI n g [inn]).bind fun y1=>bif (y1 != 0) then some (([]:List Int),y1) else (Gq n g s inn).bind fun y2=>(N6 n y2).bind fun y3=>some (y3,0):=fun n=>by
  unfold Rv pi
  congr 1
  funext y1
  rw [zAI (by omega),zAC,zAI (by omega),zAC,zAA ⟨by omega,by omega⟩,hs,zCX,zAC]
 refine Ai.eq ?_ e;refine Ai.bind (oV G (fun x hx=>by rw [zBv.1 hx];exact hI) (by simp)) ?_
 show Ai (fun n=>(Gq n g s inn).bind fun y2=>(N6 n y2).bind fun y3=>some (y3,0)) _
 refine Ai.bindU (aX G.gr hI h0 h1) ⟨0,fun n _ l hl=>?_⟩;have Af:=wB G.gr h0 h1 hl.1 hl.2;rw [s5 (wA hl.2) Af,zAB];exact ⟨_,rfl,rfl,by rw [S5];exact Af,fun v=>by rw [(WX l).mem_iff];exact hl.2 v⟩
structure Pt (g:List (List Int))(inn:List Bool)(i:Nat)(part:List Int)(EJ:Int):Prop where
 len:part.length=g.length
 m0:0<=EJ
 m1:EJ<=(i:Int)
 lo: ∀ v,v<g.length -> 0<=part.getD v 0/\ part.getD v 0<=EJ
 isIn: ∀ v,v<g.length -> 0<part.getD v 0 -> inn.getD v false=true
 same: ∀ u v:Nat,u<g.length -> v<g.length -> 0<part.getD u 0 -> Rc g inn u v -> part.getD v 0=part.getD u 0
 con: ∀ u v:Nat,u<g.length -> v<g.length -> 0<part.getD u 0 -> part.getD v 0=part.getD u 0 -> Rc g inn u v
 all: ∀ v,v<i -> v<g.length -> inn.getD v false=true -> 0<part.getD v 0
 sur: ∀ m,0<m -> m<=EJ -> ∃ v,v<g.length/\ part.getD v 0=m
theorem lL {n:Nat}{x13 m:Int}: ∀ (l:List Int) (part:List Int),part.length=g.length -> (∀ v∈l,0<=v/\ v<(g.length:Int)) ->
 ∃ Hw,B9 (OV n g inn x13 m) l (.s0 part)=some (.s0 Hw)/\ Hw.length=g.length/\ ∀ v:Nat,Hw.getD v 0=if (v:Int)∈l/\ v<g.length then m+1 else part.getD v 0
 | [],part,hp,_=>⟨part,rfl,hp,fun v=>by simp⟩
 | a::l,part,hp,hl=>by
  have ha:=hl a zCn
  have e1:OV n g inn x13 m a (.s0 part)=some (.s0 (part.set a.toNat (m+1))):=by
   unfold OV lJ XF
   dsimp only
   rw [zAA ⟨ha,by omega⟩,zBy]
  obtain ⟨Hw,h1,h2,h3⟩:=lL (n:=n) (x13:=x13) (m:=m) l (part.set a.toNat (m+1)) (by rw [zCG];exact hp) fun v hv=>hl v (zCS _ hv)
  refine ⟨Hw,?_,h2,fun v=>?_⟩
  ·show (OV n g inn x13 m a (.s0 part)).bind (B9 (OV n g inn x13 m) l)=_
   rw [e1,zAB];exact h1
  ·rw [h3]
   by_cases hv:(v:Int)∈l/\ v<g.length
   ·rw [zAA hv,zAA ⟨zCS _ hv.1,hv.2⟩]
   ·rw [zAY hv]
    by_cases e:(v:Int)=a
    ·subst e;rw [zAA ⟨zCn,by omega⟩,zAP,u8,zFj (by omega)];rfl
    ·rw [zAY (fun h=>by
      rcases zCC.1 h.1 with h4 | h4
      ·exact e h4
      ·exact hv ⟨h4,h.2⟩),u8,zFU (by omega),←u8]
theorem Pt.go (G:Gr g){i:Nat}{part Hw:List Int}{EJ:Int}(h:Pt g inn i part EJ)(hi:i<g.length)(B8:inn.getD i false=true)(h0: ¬ part.getD i 0>0){l:List Int}(hl: ∀ v,v∈l↔Rc g inn i v)(Af:Hw.length=g.length) 
 (hp: ∀ v:Nat,Hw.getD v 0=if (v:Int)∈l/\ v<g.length then EJ+1 else part.getD v 0):Pt g inn (i+1) Hw (EJ+1):=by
 have m0:=h.m0;have m1:=h.m1;have L9: ∀ v:Nat,v<g.length -> Rc g inn i v -> Hw.getD v 0=EJ+1:=fun v hv hr=>by rw [hp,zAA ⟨(hl v).2 hr,hv⟩]
 have no: ∀ v:Nat,¬ Rc g inn i v -> Hw.getD v 0=part.getD v 0:=fun v hr=>by rw [hp,zAY (fun h=>hr ((hl v).1 h.1))]
 have sym: ∀ u v:Nat,u<g.length -> inn.getD u false=true -> Rc g inn u v -> Rc g inn v u:=fun u v hu z7 hr=>hr.symm G (by omega) (by omega) (by rw [zAP];exact z7)
 refine ⟨Af,by omega,by omega,fun v hv=>?_,fun v hv JV=>?_,fun u v hu hv JV hr=>?_,fun u v hu hv JV he=>?_,fun v hv GS C6=>?_,fun m h1 h2=>?_⟩
 ·have:=h.lo v hv
  by_cases hr:Rc g inn i v
  ·rw [L9 v hv hr];omega
  ·rw [no v hr];omega
 ·by_cases hr:Rc g inn i v
  ·have:=hr.isIn (by rw [zAP];exact B8)
   rwa [zAP] at this
  ·rw [no v hr] at JV;exact h.isIn v hv JV
 ·by_cases h1:Rc g inn i u
  ·rw [L9 u hu h1,L9 v hv (h1.trans hr)]
  ·rw [no u h1] at JV ⊢;have h2: ¬ Rc g inn i v:=fun h2=>h1 (h2.trans (sym u v hu (h.isIn u hu JV) hr))
   rw [no v h2];exact h.same u v hu hv JV hr
 ·have hb:=(h.lo v hv).2
  by_cases h1:Rc g inn i u
  ·rw [L9 u hu h1] at he
   by_cases h2:Rc g inn i v
   ·exact (sym i u hi B8 h1).trans h2
   ·rw [no v h2] at he;omega
  ·rw [no u h1] at JV he;have hb:=(h.lo u hu).2
   by_cases h2:Rc g inn i v
   ·rw [L9 v hv h2] at he;omega
   ·rw [no v h2] at he;exact h.con u v hu hv JV he
 ·rcases zBj.1 hv with hv | rfl
  ·have:=h.all v hv GS C6
   by_cases hr:Rc g inn i v
   ·rw [L9 v GS hr];omega
   ·rw [no v hr];exact this
  ·rw [L9 v GS .start];omega
 ·by_cases e:m=EJ+1
  ·exact ⟨i,hi,by rw [L9 i hi .start,e]⟩
  ·obtain ⟨v,hv,PB⟩:=h.sur m h1 (by omega);refine ⟨v,hv,?_⟩;rw [no v fun hr=>h0 ?_,PB];have:=h.same v i hv hi (by omega) (sym i v hi B8 hr);omega
def PtP (g:List (List Int))(inn:List Bool)(r:List Int×Int):Prop:=r.1.length=g.length/\ (∀ v,v<g.length -> inn.getD v false=true -> 0<r.1.getD v 0)/\ ∀ u v:Nat,u<g.length -> v<g.length -> inn.getD u false=true -> (r.1.getD v 0=r.1.getD u 0↔Rc g inn u v)
theorem wq (G:Gr g)(hI:inn.length=g.length):Ai (fun n=>parts n g inn) (fun r=>Pt g inn g.length r.1 r.2):=by
 have hG:=G.len;obtain ⟨N,hN⟩:=Ai.range (F:=fun (i:Nat) n=>Gq n g i inn) (A:=fun i l=>l.Nodup/\ ∀ v,v∈l↔Rc g inn i v) g.length fun i hi=>aX G hI (by omega) (by omega)
 have hN: ∀ n,N<=n -> ∀ i:Nat,i<g.length -> ∃ l,Gq n g i inn=some l/\ l.Nodup/\ ∀ v,v∈l↔Rc g inn i v:=hN;refine ⟨N+g.length+1,fun n hn=>?_⟩;have S:=Hy (fun n (s:List Int×Int) i=>Ql g inn n (.l1 i s.1 s.2)) g.length (N+1) (fun i s=>Pt g inn i s.1 s.2) (fun n i s Fw hi hP=>?_) (n:=n) (s:=(List.replicate g.length 0,0)) (by omega) ?_
 ·obtain ⟨n1,⟨part,EJ⟩,HD,_,e1,hP⟩:=S;obtain ⟨n2,rfl⟩: ∃ n2,n1=n2+1:=⟨n1-1,by omega⟩;refine ⟨(part,EJ),?_,hP⟩
  show parts n g inn=some (part,EJ)
  unfold parts lI;rw [zAA ⟨rfl,by omega,by omega⟩];refine Eq.trans e1 ?_
  show Ty n2 (Ql g inn n2) g inn (g.length:Int) part EJ=_
  unfold Ty;rw [zAI (by omega),zAC,zAA hP.len.symm]
 ·obtain ⟨part,EJ⟩:=s;have hP:Pt g inn i part EJ:=hP;have r1:AH ((i:Int)+1):=Aw.2 ⟨by omega,by omega⟩
  show ∃ s',Ty n (Ql g inn n) g inn (i:Int) part EJ=_/\ _
  unfold Ty;simp only [zAP,zBy];rw [zAU (by omega),zAK,zAA ⟨by omega,by omega⟩];cases B8:inn.getD i false
  ·rw [zCa,zAK,zAA r1];have m1:=hP.m1;refine ⟨(part,EJ),rfl,hP.len,hP.m0,by show EJ<=((i+1:Nat):Int);omega,hP.lo,hP.isIn,hP.same,hP.con,fun v hv GS C6=>?_,hP.sur⟩;rcases zBj.1 hv with hv | rfl
   ·exact hP.all v hv GS C6
   ·rw [B8] at C6;cases C6
  ·have Af:=hP.len;rw [zCX,zAC,zAA ⟨⟨by omega,by omega⟩,by omega⟩]
   by_cases h0:part.getD i 0>0
   ·rw [zAU h0,zAK,zAA r1];have m1:=hP.m1;refine ⟨(part,EJ),rfl,hP.len,hP.m0,by show EJ<=((i+1:Nat):Int);omega,hP.lo,hP.isIn,hP.same,hP.con,fun v hv GS C6=>?_,hP.sur⟩;rcases zBj.1 hv with hv | rfl
    ·exact hP.all v hv GS C6
    ·exact h0
   ·obtain ⟨l,e2,As,hl⟩:=hN n (by omega) i hi;obtain ⟨Hw,e3,h3,h4⟩:=lL (n:=n) (inn:=inn) (x13:=(i:Int)) (m:=EJ) l part hP.len fun v hv=>((hl v).1 hv).rng G (by omega) (by omega)
    have m0:=hP.m0;have m1:=hP.m1;rw [zAI h0,zAC,zAA (Aw.2 ⟨by omega,by omega⟩),e2,zAB,e3,zAB]
    dsimp only
    rw [zAA r1];exact ⟨(Hw,EJ+1),rfl,hP.go G hi B8 h0 hl h3 h4⟩
 ·have z: ∀ v:Nat,(List.replicate g.length (0:Int)).getD v 0=0:=fun v=>by
   rw [u8,zCe];split <;> rfl
  exact ⟨by simp,zFZ _,zFZ _,fun v _=>by rw [z];exact ⟨zFZ _,zFZ _⟩,fun v _ h=>by rw [z] at h;omega,fun u v _ _ h=>by rw [z] at h;omega,fun u v _ _ h=>by rw [z] at h;omega,fun v hv=>absurd hv (zBk v),fun m h1 h2=>by have h2:m<=0:=h2;omega⟩
theorem wv (G:Gr g)(hI:inn.length=g.length):Ai (fun n=>parts n g inn) (PtP g inn):=(wq G hI).mono fun r hP=>⟨hP.len,fun v hv hi=>hP.all v hv hv hi,fun u v hu hv hi=>by
 have Bh:=hP.all u hu hu hi;exact ⟨hP.con u v hu hv Bh,hP.same u v hu hv Bh⟩⟩
def Sp (g:List (List Int))(inn some':List Bool)(a:Int):Prop:=∃ u v:Int,u≠a/\ v≠a/\ some'.getD u.toNat false=true/\ some'.getD v.toNat false=true/\ Rc g inn a u/\ Rc g inn a v/\ ¬ Rc g (inn.set a.toNat false) u v
theorem jJ {n:Nat}{a f:Int}{y3:List Int×Int}(hS:some'.length=g.length)(hy:y3.1.length=g.length)(hf:f≠0): ∀ (l:List Int),(∀ v∈l,0<=v/\ v<(g.length:Int)) ->
 ∃ b f' c,CN (IM n some' a y3) l (.s0 false f)=some (.s0 b f',c)/\ (c=0∨c=1)/\ (b=true↔∃ v∈l,v≠a/\ some'.getD v.toNat false=true/\ y3.1.getD v.toNat 0≠f)
 | [],_=>⟨false,f,0,rfl,.inl rfl,by simp⟩
 | x::l,hl=>by
  have hx:=hl x zCn;obtain ⟨b,f',c,h1,h2,h3⟩:=jJ (n:=n) (a:=a) hS hy hf l fun v hv=>hl v (zCS _ hv)
  have skip:IM n some' a y3 x (.s0 false f)=some (.s0 false f,0) -> ¬ (x≠a/\ some'.getD x.toNat false=true/\ y3.1.getD x.toNat 0≠f) -> ∃ b f' c,CN (IM n some' a y3) (x::l) (.s0 false f)=some (.s0 b f',c)/\ (c=0∨c=1)/\ (b=true↔∃ v∈x::l,v≠a/\ some'.getD v.toNat false=true/\ y3.1.getD v.toNat 0≠f):=by
   intro e hn;refine ⟨b,f',c,?_,h2,?_⟩
   ·unfold CN;rw [e,zAB];exact h1
   ·rw [h3];constructor
    ·rintro ⟨v,hv,h⟩;exact ⟨v,zCS _ hv,h⟩
    ·rintro ⟨v,hv,h⟩;rcases zCC.1 hv with rfl | hv
     ·exact absurd h hn
     ·exact ⟨v,hv,h⟩
  have f0:(f==0)=false:=zCf.2 hf;have U:IM n some' a y3 x (.s0 false f)=S0 n some' a y3 x false f:=rfl;unfold S0 at U
  by_cases e1:x=a
  ·have:(x==a)=true:=zCR.2 e1;rw [this,zAK] at U;exact skip U fun h=>h.1 e1
  ·have:(x==a)=false:=zCf.2 e1;rw [this,zAC,zAA ⟨by omega,by omega⟩] at U;cases e2:some'.getD x.toNat false
   ·rw [e2,zCa,zAK] at U;exact skip U fun h=>by rw [e2] at h;cases h.2.1
   ·rw [e2,zCX,zAC,f0,zAC,zAA ⟨by omega,by omega⟩] at U
    by_cases e3:y3.1.getD x.toNat 0=f
    ·have e4:(y3.1.getD x.toNat 0 != f)=false:=by rw [e3];simp
     rw [e4,zAC] at U;exact skip U fun h=>h.2.2 e3
    ·have e4:(y3.1.getD x.toNat 0 != f)=true:=by simpa using e3
     rw [e4,zAK] at U;refine ⟨true,f,1,?_,.inr rfl,?_⟩
     ·unfold CN;rw [U,zAB];rfl
     ·exact ⟨fun _=>⟨x,zCn,e1,e2,e3⟩,fun _=>rfl⟩
theorem jK {n:Nat}{a:Int}{y3:List Int×Int}(hS:some'.length=g.length)(hy:y3.1.length=g.length): ∀ (l:List Int),(∀ v∈l,0<=v/\ v<(g.length:Int)) -> (∀ v∈l,v≠a -> y3.1.getD v.toNat 0≠0) ->
 ∃ b f' c,CN (IM n some' a y3) l (.s0 false 0)=some (.s0 b f',c)/\ (c=0∨c=1)/\ (b=true↔∃ u∈l,∃ v∈l,u≠a/\ v≠a/\ some'.getD u.toNat false=true/\ some'.getD v.toNat false=true/\ y3.1.getD v.toNat 0≠y3.1.getD u.toNat 0)
 | [],_,_=>⟨false,0,0,rfl,.inl rfl,by simp⟩
 | x::l,hl,hz=>by
  have hx:=hl x zCn;have Eh: ∀ v∈l,0<=v/\ v<(g.length:Int):=fun v hv=>hl v (zCS _ hv)
  have skip:IM n some' a y3 x (.s0 false 0)=some (.s0 false 0,0) -> ¬ (x≠a/\ some'.getD x.toNat false=true) -> ∃ b f' c,CN (IM n some' a y3) (x::l) (.s0 false 0)=some (.s0 b f',c)/\ (c=0∨c=1)/\ (b=true↔∃ u∈x::l,∃ v∈x::l,u≠a/\ v≠a/\ some'.getD u.toNat false=true/\ some'.getD v.toNat false=true/\ y3.1.getD v.toNat 0≠y3.1.getD u.toNat 0):=by
   intro e hn;obtain ⟨b,f',c,h1,h2,h3⟩:=jK (n:=n) (a:=a) hS hy l Eh fun v hv=>hz v (zCS _ hv)
   refine ⟨b,f',c,?_,h2,?_⟩
   ·unfold CN;rw [e,zAB];exact h1
   ·rw [h3];constructor
    ·rintro ⟨u,hu,v,hv,h⟩;exact ⟨u,zCS _ hu,v,zCS _ hv,h⟩
    ·rintro ⟨u,hu,v,hv,h4,h5,h6,h7,h8⟩;rcases zCC.1 hu with rfl | hu
     ·exact absurd ⟨h4,h6⟩ hn
     ·rcases zCC.1 hv with rfl | hv
      ·exact absurd ⟨h5,h7⟩ hn
      ·exact ⟨u,hu,v,hv,h4,h5,h6,h7,h8⟩
  have U:IM n some' a y3 x (.s0 false 0)=S0 n some' a y3 x false 0:=rfl;unfold S0 at U
  by_cases e1:x=a
  ·have:(x==a)=true:=zCR.2 e1;rw [this,zAK] at U;exact skip U fun h=>h.1 e1
  ·have:(x==a)=false:=zCf.2 e1;rw [this,zAC,zAA ⟨by omega,by omega⟩] at U;cases e2:some'.getD x.toNat false
   ·rw [e2,zCa,zAK] at U;exact skip U fun h=>by rw [e2] at h;cases h.2
   ·have z0:((0:Int)==0)=true:=rfl;rw [e2,zCX,zAC,z0,zAK,zAA ⟨by omega,by omega⟩] at U;obtain ⟨b,f',c,h1,h2,h3⟩:=jJ (n:=n) (a:=a) hS hy (hz x zCn e1) l Eh;refine ⟨b,f',c,?_,h2,?_⟩
    ·unfold CN;rw [U,zAB];exact h1
    ·rw [h3];constructor
     ·rintro ⟨v,hv,h4,h5,h6⟩;exact ⟨x,zCn,v,zCS _ hv,e1,h4,e2,h5,h6⟩
     ·rintro ⟨u,hu,v,hv,h4,h5,h6,h7,h8⟩
      by_cases e3:y3.1.getD u.toNat 0=y3.1.getD x.toNat 0
      ·rcases zCC.1 hv with rfl | hv
       ·exact absurd e3.symm h8
       ·exact ⟨v,hv,h5,h7,fun e=>h8 (e.trans e3.symm)⟩
      ·rcases zCC.1 hu with rfl | hu
       ·exact absurd rfl e3
       ·exact ⟨u,hu,h4,h6,e3⟩
theorem su (G:P8 g)(hI:inn.length=g.length)(hS:some'.length=g.length){a:Nat}(ha:a<g.length)(nl:inn.getD a false=true):
 Ai (fun n=>N4 n g inn some' (a:Int)) (fun r=>r.2=0/\ (r.1=true↔Sp g inn some' (a:Int))):=by
 have hG:=G.gr.len;have L:(1000000000000:Nat)=A3:=rfl
 have hw: ∀ n,Sc n (a:Int) inn=some (inn.set a false):=fun n=>by
  unfold Sc Zj Pj fI;rw [zAA ⟨by omega,trivial,⟨rfl,rfl⟩,by rw [←L];simp only [zFd];omega⟩,zAA (by simp),zAB,zFe,zAA ⟨⟨by omega,by omega⟩,by omega⟩,zAA (by simp),zBy,zAP]
 have hI':(inn.set a false).length=g.length:=by rw [zCG];exact hI
 have e: ∀ n,N4 n g inn some' (a:Int)=(NI n g [inn,some']).bind fun y1=>bif (y1 != 0) then some (false,y1) else (parts n g (inn.set a false)).bind fun y3=>(Gq n g a inn).bind fun y4=>(CN (IM n some' a y3) y4 (.s0 false 0)).bind fun y5=>bif y5.2==0 then (match y5.1 with | .s0 b _=>some (b,0)) else bif y5.2==1 then (match y5.1 with | .s0 b _=>some (b,0)) else none:=fun n=>by
  unfold N4 jG
  congr 1
  funext y1
  rw [zAI (by omega),zAC,zAI (by omega),zAC,zAA ⟨by omega,by omega⟩,zAP,nl,zCX,zAC,hw,zAB]
 refine Ai.eq ?_ e
 refine Ai.bind (oV G (fun x hx=>by
  rcases zCC.1 hx with rfl | hx
  ·exact hI
  ·rw [zBv.1 hx];exact hS) (by simp)) ?_
 show Ai (R:=Bool×Int) (fun n=>(parts n g (inn.set a false)).bind fun y3=>(Gq n g a inn).bind fun y4=>(CN (IM n some' a y3) y4 (.s0 false 0)).bind fun y5=>bif y5.2==0 then (match y5.1 with | .s0 b _=>some (b,0)) else bif y5.2==1 then (match y5.1 with | .s0 b _=>some (b,0)) else none) _
 obtain ⟨N,hN⟩:=aX G.gr hI (s:=(a:Int)) (by omega) (by omega);refine Ai.bindU (wv G.gr hI') ⟨N,fun n hn y3 hy=>?_⟩;obtain ⟨l,hl,As,RM⟩:=hN n hn;have hl:Gq n g (a:Int) inn=some l:=hl;have hr: ∀ v∈l,0<=v/\ v<(g.length:Int):=fun v hv=>((RM v).1 hv).rng G.gr (by omega) (by omega)
 have B8: ∀ v∈l,v≠(a:Int) -> (inn.set a false).getD v.toNat false=true:=fun v hv AR=>by
  have h1:=hr v hv;rw [u8,zFU (by omega),←u8];exact ((RM v).1 hv).isIn (by rw [zAP];exact nl)
 obtain ⟨b,f',c,h1,h2,h3⟩:=jK (n:=n) (some':=some') (a:=(a:Int)) (y3:=y3) hS hy.1 l hr fun v hv AR=>by
  have h1:=hr v hv;have:=hy.2.1 v.toNat (by omega) (B8 v hv AR);omega
 rw [hl,zAB,h1,zAB];refine ⟨(b,0),?_,rfl,?_⟩
 ·rcases h2 with rfl | rfl <;> rfl
 ·show b=true↔_
  rw [h3]
  have key: ∀ u v:Int,u∈l -> v∈l -> u≠a -> (y3.1.getD v.toNat 0=y3.1.getD u.toNat 0↔Rc g (inn.set a false) u v):=fun u v hu hv AR=>by
   have h1:=hr u hu;have h2:=hr v hv;have:=hy.2.2 u.toNat v.toNat (by omega) (by omega) (B8 u hu AR)
   rwa [Int.toNat_of_nonneg h1.1,Int.toNat_of_nonneg h2.1] at this
  constructor
  ·rintro ⟨u,hu,v,hv,h4,h5,h6,h7,h8⟩;exact ⟨u,v,h4,h5,h6,h7,(RM u).1 hu,(RM v).1 hv,fun h=>h8 ((key u v hu hv h4).2 h)⟩
  ·rintro ⟨u,v,h4,h5,h6,h7,h8,h9,Pd⟩;have hu:=(RM u).2 h8;have hv:=(RM v).2 h9;exact ⟨u,hu,v,hv,h4,h5,h6,h7,fun h=>Pd ((key u v hu hv h4).1 h)⟩
end
def Ex (c:AB)(pos:List Int)(a:Nat):Bool:=bits .andNot .i64 (Ab c pos a) c.set==0
def Fc (c:AB)(pos:List Int)(a:Nat):Bool:=Ex c pos a||(bits .and .i64 (Ab c pos a) c.set != 0)
def cnt (p:Nat -> Bool)(i:Nat):Int:=(((List.range i).countP p:Nat):Int)
theorem Rx {p:Nat -> Bool}{i:Nat}:cnt p (i+1)=cnt p i+(if p i then 1 else 0):=by
 unfold cnt;rw [List.range_succ,List.countP_append,List.countP_singleton];split <;> simp
theorem pn {p:Nat -> Bool}{i:Nat}:0<=cnt p i/\ cnt p i<=i:=by
 unfold cnt;have:=zHI (p:=p) (l:=List.range i);rw [zF8] at this;omega
def NW (c:AB)(pos:List Int):Bool:=!decide (cnt (Ex c pos) c.cells.length>c.hi)&&!decide (cnt (Fc c pos) c.cells.length<c.lo)
def Jk (c:AB)(pos:List Int)(a s:Nat):Bool:= ((cnt (Ex c pos) c.cells.length==c.hi)&&(bits .andNot .i64 (Ab c pos a) c.set != 0)&&tb c.set s)||((cnt (Fc c pos) c.cells.length==c.lo)&&(bits .and .i64 (Ab c pos a) c.set != 0)&&!tb c.set s)
section
variable {c:AB} {k:Nat} {pos lost:List Int} {q:AA}
theorem zDt {n:Nat}{x3 x4:Int}(W:CI c k pos)(hl:lost.length=pos.length)(h3:x3=cnt (Ex c pos) c.cells.length)(h4:x4=cnt (Fc c pos) c.cells.length)(hn:c.cells.length+1<=n):
 ∃ l,Jl c q pos pos.length lost n (.l2 x3 x4 0 lost)=some (true,l)/\ B5 c pos lost c.cells.length (fun a s=>Jk c pos a s=true) l:=by
 have lt: ∀ i,i<c.cells.length -> ((i:Nat):Int)<((c.cells.length:Nat):Int):=fun i hi=>by omega
 have T:=Hy (fun n (s:List Int) i=>Jl c q pos pos.length lost n (.l2 x3 x4 i s)) c.cells.length 1
  (fun i s=>B5 c pos lost i (fun a s=>Jk c pos a s=true) s) (fun n i s Fw hi hI=>?_) (n:=n) (s:=lost) (by omega) (B5.zero hl)
 ·obtain ⟨n3,l,M8,_,e2,hL⟩:=T;obtain ⟨n4,rfl⟩: ∃ n4,n3=n4+1:=⟨n3-1,by omega⟩;refine ⟨l,e2.trans ?_,hL⟩
  show Vd n4 (Jl c q pos pos.length lost n4) c q pos pos.length lost x3 x4 (c.cells.length:Int) l=_
  unfold Vd;rw [zAI (by omega),zAC]
 ·have hc:=W.cells i hi;have hr:=W.r64 hi
  have key: ∀ l':List Int,l'.length=pos.length -> (∀ j x,tb (l'.getD j 0) x=(tb (s.getD j 0) x||(decide (j=(c.cells.getD i 0).toNat)&&(tb (pos.getD j 0) x&&Jk c pos i x)))) -> B5 c pos lost (i+1) (fun a s=>Jk c pos a s=true) l':=by
   intro l' h1 h2;refine hI.step h1 fun j x=>?_
   rw [h2,zCL,zAO,zAO,zBq];constructor
   ·rintro (h | ⟨rfl,h⟩)
    ·exact .inl h
    ·exact .inr ⟨rfl,h⟩
   ·rintro (h | ⟨rfl,h⟩)
    ·exact .inl h
    ·exact .inr ⟨rfl,h⟩
  obtain ⟨l1,e1,n1,f1⟩:=LP (lost:=s) (n:=n) (ss:=c.set) (c:=c) (q:=q) hc.1 hc.2 hI.1;obtain ⟨l2,e2,n2,f2⟩:=bD (lost:=l1) (n:=n) (c:=c) (q:=q) hc.1 hc.2 n1;obtain ⟨l3,e3,n3,f3⟩:=bD (lost:=s) (n:=n) (c:=c) (q:=q) hc.1 hc.2 hI.1;have d0:decide ((i:Int)<((c.cells.length:Nat):Int))=true:=zAU (lt i hi);have g0:(0:Int)<=(i:Int)/\ (i:Int)<((c.cells.length:Nat):Int):=⟨by omega,lt i hi⟩
  show ∃ s',Vd n (Jl c q pos pos.length lost n) c q pos pos.length lost x3 x4 (i:Int) s=_/\ _
  unfold Vd;rw [d0,zAK,zAA g0];simp only [zAP];have X: ∀ x,Jk c pos i x=(((x3==c.hi)&&(bits .andNot .i64 (pos.getD (c.cells.getD i 0).toNat 0) c.set != 0)&&tb c.set x)||((x4==c.lo)&&(bits .and .i64 (pos.getD (c.cells.getD i 0).toNat 0) c.set != 0)&&!tb c.set x)):=fun x=>by rw [h3,h4];rfl
  cases hA:(x3==c.hi) <;> cases hC:(x4==c.lo) <;> cases hB:(bits .andNot .i64 (pos.getD (c.cells.getD i 0).toNat 0) c.set != 0) <;> cases hE:(bits .and .i64 (pos.getD (c.cells.getD i 0).toNat 0) c.set != 0) <;>
   simp only [hA,hB,hC,hE,zCj,zFu,zGe,Bool.and_true,zFs,zFq] at X <;>
   simp only [zAK,zAC,zAA hc,e1,e2,e3,zAB,zAA hr.2]
  all_goals first
   | exact ⟨s,rfl,key s hI.1 fun j x=>by rw [X,zGe,zGe,zFs]⟩
   | exact ⟨l1,rfl,key l1 n1 fun j x=>by rw [f1,X]⟩
   | exact ⟨l3,rfl,key l3 n3 fun j x=>by rw [f3,X]⟩
   | exact ⟨l2,rfl,key l2 n2 fun j x=>by
    rw [f2,f1,X];cases tb (s.getD j 0) x <;> cases decide (j=(c.cells.getD i 0).toNat) <;> cases tb (pos.getD j 0) x <;> cases tb c.set x <;> rfl⟩
theorem zDu {n:Nat}(W:CI c k pos)(hl:lost.length=pos.length)(hn:2*c.cells.length+3<=n):
 ∃ l,Ru n c q pos pos.length lost=some (NW c pos,l)/\ (NW c pos=true -> B5 c pos lost c.cells.length (fun a s=>Jk c pos a s=true) l):=by
 have lt: ∀ i,i<c.cells.length -> ((i:Nat):Int)<((c.cells.length:Nat):Int):=fun i hi=>by omega
 have S:=Hy (fun n (s:Int×Int) i=>Jl c q pos pos.length lost n (.l1 s.1 s.2 i)) c.cells.length (c.cells.length+3)
  (fun i s=>s.1=cnt (Ex c pos) i/\ s.2=cnt (Fc c pos) i) (fun n i s _ hi hI=>?_) (n:=n) (s:=(0,0)) (by omega) ⟨rfl,rfl⟩
 ·obtain ⟨n1,⟨x3,x4⟩,HD,_,e1,h3,h4⟩:=S;obtain ⟨n2,rfl⟩: ∃ n2,n1=n2+1:=⟨n1-1,by omega⟩;have e2:Ru n c q pos pos.length lost=Ve n2 (Jl c q pos pos.length lost n2) c q pos pos.length lost x3 x4 (c.cells.length:Int):=e1;have h3:x3=cnt (Ex c pos) c.cells.length:=h3;have h4:x4=cnt (Fc c pos) c.cells.length:=h4;unfold Ve at e2;rw [zAI (by omega),zAC] at e2;unfold NW;rw [←h3,←h4];cases h5:decide (x3>c.hi)
  ·cases h6:decide (x4<c.lo)
   ·obtain ⟨l,e3,hL⟩:=zDt (q:=q) (n:=n2) W hl h3 h4 (by omega);rw [h5,h6,zAC,zAC,e3] at e2;exact ⟨l,e2,fun _=>hL⟩
   ·rw [h5,h6,zAC,zAK] at e2;exact ⟨lost,e2,fun h=>by cases h⟩
  ·rw [h5,zAK] at e2;exact ⟨lost,e2,fun h=>by cases h⟩
 ·obtain ⟨x3,x4⟩:=s;obtain ⟨h3,h4⟩:=hI;simp only at h3 h4;have hc:=W.cells i hi;have hr:=W.r64 hi;have b3:=pn (p:=Ex c pos) (i:=i);have b4:=pn (p:=Fc c pos) (i:=i);have Af:=W.len;have r3:AH (x3+1):=Aw.2 ⟨by omega,by omega⟩;have r4:AH (x4+1):=Aw.2 ⟨by omega,by omega⟩
  show ∃ s',Ve n (Jl c q pos pos.length lost n) c q pos pos.length lost x3 x4 (i:Int)=_/\ _
  unfold Ve;rw [zAU (lt i hi),zAK];simp only [zAP];rw [zAA ⟨⟨by omega,lt i hi⟩,hc⟩];have m1:(bits .andNot .i64 (pos.getD (c.cells.getD i 0).toNat 0) c.set==0)=Ex c pos i:=rfl;have m2:(Ex c pos i||(bits .and .i64 (pos.getD (c.cells.getD i 0).toNat 0) c.set != 0))=Fc c pos i:=rfl;rw [m1];cases hm:Ex c pos i
  ·rw [hm,zFq] at m2;rw [zAC,m2];cases hy:Fc c pos i
   ·rw [zAC,zAA hr.2];exact ⟨(x3,x4),rfl,by rw [Rx,hm];simpa using h3,by rw [Rx,hy];simpa using h4⟩
   ·rw [zAK,zAA ⟨r4,hr.2⟩];exact ⟨(x3,x4+1),rfl,by rw [Rx,hm];simpa using h3,by rw [Rx,hy];simpa using h4⟩
  ·have hy:Fc c pos i=true:=by rw [←m2,hm];rfl
   rw [zAK,zAA ⟨r3,r4,hr.2⟩];exact ⟨(x3+1,x4+1),rfl,by rw [Rx,hm];simpa using h3,by rw [Rx,hy];simpa using h4⟩
end
abbrev zCi:=@Nat.lt_of_not_le
theorem Zz (x:Int)(i:Nat):tb (IntKind.i64.wrap x) i=tb x i:=by unfold tb;rw [T8]
theorem QT {s:Nat}(hs:s<64)(i:Nat):tb (IntKind.i64.wrap (1*2 ^ s)) i=decide (s=i):=by
 rw [Zz,Int.one_mul];rcases zCb i 64 with h | h
 ·have e:((2 ^ s:Nat):Int)=(2:Int) ^ s:=by simp
  rw [←e];exact sL h
 ·rw [JA h,zAI (by omega)]
theorem G5 {k:Nat}{x:Int}(h:Sm k x)(hk:k<=62){e:Int}:e∈Be x↔∃ s:Nat,e=(s:Int)/\ s<k/\ tb x s=true:=by
 obtain ⟨m,rfl⟩:=zF9 h.1;unfold Be E5;simp only [zDi,zGB,zBf,zAP];constructor
 ·rintro ⟨s,⟨h1,h2⟩,rfl⟩;have h3:tb (m:Int) s=true:=by rw [I9 m s h1];exact h2
  refine ⟨s,rfl,?_,h3⟩;refine zCi fun B2=>?_
  rw [h.hi B2] at h3;cases h3
 ·rintro ⟨s,rfl,h1,h2⟩;exact ⟨s,⟨by omega,by rw [I9 m s (by omega)] at h2;exact h2⟩,rfl⟩
theorem Yq {α σ:Type}{f:α -> σ -> Option σ}(Inv:List α -> σ -> Prop): ∀ (l pre:List α) (s:σ),Inv pre s -> (∀ pre x s,x∈l -> Inv pre s -> ∃ s',f x s=some s'/\ Inv (pre++[x]) s') -> ∃ s',B9 f l s=some s'/\ Inv (pre++l) s'
 | [],pre,s,h,_=>⟨s,rfl,by rw [zF1];exact h⟩
 | x::l,pre,s,h,hs=>by
  obtain ⟨s',h1,h2⟩:=hs pre x s (.head _) h;obtain ⟨s2,h3,h4⟩:=Yq Inv l (pre++[x]) s' h2 fun pre y s hy=>hs pre y s (.tail _ hy)
  refine ⟨s2,?_,by rw [zGA] at h4;exact h4⟩;simp only [B9];rw [h1,zAB,h3]
structure Ga (q:AA)(k:Nat):Prop where
 len:k<=q.values.length
 val: ∀ s,s<k -> 0<=q.values.getD s 0/\ q.values.getD s 0<=99
def LQ (q:AA)(a e:Int):Int:=if q.values.getD e.toNat 0<a then q.values.getD e.toNat 0 else a
def Ld (q:AA)(a e:Int):Int:=if q.values.getD e.toNat 0>a then q.values.getD e.toNat 0 else a
def E8 (q:AA)(x:Int):Int:=(Be x).foldl (LQ q) 100
def FA (q:AA)(x:Int):Int:=(Be x).foldl (Ld q) (-1)
section
variable {c:AB} {k:Nat} {pos lost:List Int} {q:AA}
theorem mX: ∀ (l:List Int) (a:Int),(∀ e∈l,0<=q.values.getD e.toNat 0/\ q.values.getD e.toNat 0<=99) -> 0<=a/\ a<=100 -> 0<=l.foldl (LQ q) a/\ l.foldl (LQ q) a<=100
 | [],_,_,h=>h
 | e::l,a,hv,h=>by
  have:=hv e (.head _);refine mX l (LQ q a e) (fun e he=>hv e (.tail _ he)) ?_;unfold LQ;split <;> omega
theorem nm: ∀ (l:List Int) (a:Int),(∀ e∈l,0<=q.values.getD e.toNat 0/\ q.values.getD e.toNat 0<=99) -> -1<=a/\ a<=99 -> -1<=l.foldl (Ld q) a/\ l.foldl (Ld q) a<=99
 | [],_,_,h=>h
 | e::l,a,hv,h=>by
  have:=hv e (.head _);refine nm l (Ld q a e) (fun e he=>hv e (.tail _ he)) ?_;unfold Ld;split <;> omega
theorem Ga.sym (V:Ga q k)(hk:k<=16){x:Int}(h:Sm k x): ∀ e∈Be x,(0<=e/\ e<((q.values.length:Nat):Int))/\ 0<=q.values.getD e.toNat 0/\ q.values.getD e.toNat 0<=99:=by
 intro e he;obtain ⟨s,rfl,h1,_⟩:=(G5 h (zAa hk (by decide))).1 he;have:=V.len;rw [zAP];exact ⟨by omega,V.val s h1⟩
theorem Ga.lo (V:Ga q k)(hk:k<=16){x:Int}(h:Sm k x):0<=E8 q x/\ E8 q x<=100:=mX _ _ (fun e he=>(V.sym hk h e he).2) (by decide)
theorem Ga.hi (V:Ga q k)(hk:k<=16){x:Int}(h:Sm k x): -1<=FA q x/\ FA q x<=99:=nm _ _ (fun e he=>(V.sym hk h e he).2) (by decide)
theorem pP {n ln:Nat}: ∀ (l:List Int) (a b:Int),(∀ e∈l,0<=e/\ e<((q.values.length:Nat):Int)) -> B9 (VQ n c q pos ln lost) l (.s0 a b)=some (.s0 (l.foldl (LQ q) a) (l.foldl (Ld q) b))
 | [],_,_,_=>rfl
 | e::l,a,b,h=>by
  have e1:VQ n c q pos ln lost e (.s0 a b)=some (.s0 (LQ q a e) (Ld q b e)):=by
   unfold VQ pR pS
   dsimp only
   rw [zAA (h e (.head _))];rfl
  simp only [B9];rw [e1,zAB,pP l _ _ fun e he=>h e (.tail _ he)];rfl
theorem pO {n ln:Nat}(V:Ga q k)(hk:k<=16){x:Int}(h:Sm k x):VR n x c q pos ln lost=some (E8 q x,FA q x,lost):=by
 have eB:=Mg (k:=k) (zAa hk (by decide));have h2:=h.2;unfold VR pQ;rw [zAA ⟨h.1,by omega⟩,pP (Be x) 100 (-1) fun e he=>(V.sym hk h e he).1];rfl
def FI (f:Nat -> Int):Nat -> Int
 | 0=>0
 | i+1=>FI f i+f i
theorem So {f:Nat -> Int}: ∀ (i:Nat),(∀ a,a<i -> -1<=f a/\ f a<=100) -> -(i:Int)<=FI f i/\ FI f i<=100*(i:Int)
 | 0,_=>by simp [FI]
 | i+1,h=>by
  have h1:=So i fun a ha=>h a (by omega)
  have h2:=h i (by omega);simp only [FI];omega
def LO (q:AA)(c:AB)(pos:List Int):Int:=FI (fun a=>E8 q (Ab c pos a)) c.cells.length
def Lc (q:AA)(c:AB)(pos:List Int):Int:=FI (fun a=>FA q (Ab c pos a)) c.cells.length
def MI (q:AA)(c:AB)(pos:List Int):Bool:=!decide (LO q c pos>c.hi)&&!decide (Lc q c pos<c.lo)
def JB (q:AA)(c:AB)(pos:List Int)(a s:Nat):Bool:= decide (LO q c pos-E8 q (Ab c pos a)+q.values.getD s 0>c.hi)||decide (Lc q c pos-FA q (Ab c pos a)+q.values.getD s 0<c.lo)
theorem mU {T:Type}{n:Nat}(W:CI c k pos){i:Nat}(hi:i<c.cells.length)(hl:lost.length=pos.length)(mk:List Int -> T)(f:Int -> T -> Option T)(X:Nat -> Bool) 
 (hf: ∀ (s:Nat) (l:List Int),s<k -> l.length=pos.length -> f (s:Int) (mk l)=bif X s then (Dn n (c.cells.getD i 0) (IntKind.i64.wrap (1*2 ^ s)) c q pos pos.length l).map mk else some (mk l)):
 ∃ l',B9 f (Be (Ab c pos i)) (mk lost)=some (mk l')/\ l'.length=pos.length/\
  ∀ j s,tb (l'.getD j 0) s=true↔tb (lost.getD j 0) s=true∨((c.cells.getD i 0).toNat=j/\ tb (Ab c pos i) s=true/\ X s=true):=by
 have hc:=W.cells i hi;have Cw:=W.at hi;have hk:=W.k
 have key:=Yq (f:=f)
  (fun pre s=>∃ l',s=mk l'/\ l'.length=pos.length/\ ∀ j s,tb (l'.getD j 0) s=true↔tb (lost.getD j 0) s=true∨((c.cells.getD i 0).toNat=j/\ tb (Ab c pos i) s=true/\ (s:Int)∈pre/\ X s=true))
  (Be (Ab c pos i)) [] (mk lost) ⟨lost,rfl,hl,fun j s=>⟨.inl,fun h=>h.elim id fun h=>(by cases h.2.2.1)⟩⟩ ?_
 ·obtain ⟨_,h1,l',rfl,h2,h3⟩:=key;refine ⟨l',h1,h2,fun j s=>?_⟩;rw [h3,zFe];constructor
  ·rintro (h | ⟨a1,a2,_,a3⟩)
   ·exact .inl h
   ·exact .inr ⟨a1,a2,a3⟩
  ·rintro (h | ⟨a1,a2,a3⟩)
   ·exact .inl h
   ·refine .inr ⟨a1,a2,(G5 Cw (zAa hk (by decide))).2 ⟨s,rfl,zCi fun B2=>?_,a2⟩,a3⟩;rw [Cw.hi B2] at a2;cases a2
 ·rintro pre e _ he ⟨l',rfl,h2,h3⟩;obtain ⟨s,rfl,hs,hbit⟩:=(G5 Cw (zAa hk (by decide))).1 he;rw [hf s l' hs h2];cases hx:X s
  ·rw [zAC];refine ⟨_,rfl,l',rfl,h2,fun j x=>?_⟩;rw [h3];constructor
   ·rintro (h | ⟨a1,a2,a3,a4⟩)
    ·exact .inl h
    ·exact .inr ⟨a1,a2,zCT _ a3,a4⟩
   ·rintro (h | ⟨a1,a2,a3,a4⟩)
    ·exact .inl h
    ·rcases zB3.1 a3 with a3 | a3
     ·exact .inr ⟨a1,a2,a3,a4⟩
     ·have:x=s:=by have:=zBv.1 a3;omega
      subst this;rw [hx] at a4;cases a4
  ·obtain ⟨l2,e2,n2,f2⟩:=LP (lost:=l') (n:=n) (ss:=IntKind.i64.wrap (1*2 ^ s)) (c:=c) (q:=q) hc.1 hc.2 h2;rw [zAK,e2,zCA];refine ⟨_,rfl,l2,rfl,n2,fun j x=>?_⟩;rw [f2,zCL,zAO,zAO,zBq,h3,QT (by omega),zBq];constructor
   ·rintro ((h | ⟨a1,a2,a3,a4⟩) | ⟨rfl,a2,rfl⟩)
    ·exact .inl h
    ·exact .inr ⟨a1,a2,zCT _ a3,a4⟩
    ·exact .inr ⟨rfl,a2,zCh _ (.head _),hx⟩
   ·rintro (h | ⟨a1,a2,a3,a4⟩)
    ·exact .inl (.inl h)
    ·rcases zB3.1 a3 with a3 | a3
     ·exact .inl (.inr ⟨a1,a2,a3,a4⟩)
     ·have:x=s:=by have:=zBv.1 a3;omega
      subst this;subst a1;exact .inr ⟨rfl,a2,rfl⟩
theorem sc {n:Nat}(W:CI c k pos)(V:Ga q k){i:Nat}(hi:i<c.cells.length){low high:Int}(YM:low=LO q c pos)(nn:high=Lc q c pos)(hl:lost.length=pos.length):
 ∃ l',B9 (WT n c (i:Int) q pos pos.length low high (E8 q (Ab c pos i),FA q (Ab c pos i),lost)) (Be (Ab c pos i)) (.s0 lost)=some (.s0 l')/\ l'.length=pos.length/\
  ∀ j s,tb (l'.getD j 0) s=true↔tb (lost.getD j 0) s=true∨((c.cells.getD i 0).toNat=j/\ tb (Ab c pos i) s=true/\ JB q c pos i s=true):=by
 have hc:=W.cells i hi;have Cw:=W.at hi;have hk:=W.k;have Af:=W.len;have bl:=V.lo hk Cw;have bh:=V.hi hk Cw;have tl:=So (f:=fun a=>E8 q (Ab c pos a)) c.cells.length fun a ha=>by have:=V.lo hk (W.at ha);omega
 have th:=So (f:=fun a=>FA q (Ab c pos a)) c.cells.length fun a ha=>by have:=V.hi hk (W.at ha);omega
 have tl: -(c.cells.length:Int)<=low/\ low<=100*(c.cells.length:Int):=by rw [YM];exact tl
 have th: -(c.cells.length:Int)<=high/\ high<=100*(c.cells.length:Int):=by rw [nn];exact th
 refine mU (n:=n) (q:=q) W hi hl Kw.s0 _ (JB q c pos i) fun s l hs hl=>?_
 have hv:=V.val s hs;have GS:=V.len;have r1:AH (low-E8 q (Ab c pos i)):=Aw.2 ⟨by omega,by omega⟩;have r2:AH (low-E8 q (Ab c pos i)+q.values.getD s 0):=Aw.2 ⟨by omega,by omega⟩;have r3:AH (high-FA q (Ab c pos i)):=Aw.2 ⟨by omega,by omega⟩;have r4:AH (high-FA q (Ab c pos i)+q.values.getD s 0):=Aw.2 ⟨by omega,by omega⟩;have g1:(0:Int)<=(s:Int)/\ (s:Int)<((q.values.length:Nat):Int):=by omega
 have g2:(0:Int)<=(s:Int)/\ (s:Int)<=((IntKind.i64.bits:Nat):Int):=⟨by omega,by show (s:Int)<=64;omega⟩;obtain ⟨l2,e2,_,_⟩:=LP (lost:=l) (n:=n) (ss:=IntKind.i64.wrap (1*2 ^ s)) (c:=c) (q:=q) hc.1 hc.2 hl;have X:JB q c pos i s=(decide (low-E8 q (Ab c pos i)+q.values.getD s 0>c.hi)||decide (high-FA q (Ab c pos i)+q.values.getD s 0<c.lo)):=by rw [YM,nn];rfl
 rw [X];unfold WT i8 WS
 dsimp only
 simp only [zAP];rw [zAA ⟨g1,r1,r2⟩];cases hA:decide (low-E8 q (Ab c pos i)+q.values.getD s 0>c.hi)
 ·rw [zAC,zAA ⟨r3,r4⟩,zFq];cases hB:decide (high-FA q (Ab c pos i)+q.values.getD s 0<c.lo)
  ·rfl
  ·rw [zAK,zAK,zAA g2,e2];rfl
 ·rw [zAK,Bool.true_or,zAK,zAA g2,e2];rfl
theorem sX {n:Nat}(W:CI c k pos)(V:Ga q k)(hl:lost.length=pos.length)(hn:c.cells.length+1<=n):
 ∃ l,JC c q pos pos.length lost n (.l2 0 lost (LO q c pos) (Lc q c pos))=some (true,l)/\ B5 c pos lost c.cells.length (fun a s=>JB q c pos a s=true) l:=by
 have lt: ∀ i,i<c.cells.length -> ((i:Nat):Int)<((c.cells.length:Nat):Int):=fun i hi=>by omega
 have T:=Hy (fun n (s:List Int) i=>JC c q pos pos.length lost n (.l2 i s (LO q c pos) (Lc q c pos))) c.cells.length 1
  (fun i s=>B5 c pos lost i (fun a s=>JB q c pos a s=true) s) (fun n i s Fw hi hI=>?_) (n:=n) (s:=lost) (by omega) (B5.zero hl)
 ·obtain ⟨n3,l,M8,_,e2,hL⟩:=T;obtain ⟨n4,rfl⟩: ∃ n4,n3=n4+1:=⟨n3-1,by omega⟩;refine ⟨l,e2.trans ?_,hL⟩
  show Su n4 (JC c q pos pos.length lost n4) c q pos pos.length lost (c.cells.length:Int) l _ _=_
  unfold Su;rw [zAI (by omega),zAC]
 ·have hc:=W.cells i hi;have hr:=W.r64 hi;have Cw:=W.at hi;have eB:=Mg (k:=k) (zAa W.k (by decide));have JT:=Cw.2;obtain ⟨l',e1,n1,f1⟩:=sc (n:=n) W V hi rfl rfl hI.1
  show ∃ s',Su n (JC c q pos pos.length lost n) c q pos pos.length lost (i:Int) s _ _=_/\ _
  unfold Su;rw [zAU (lt i hi),zAK];simp only [zAP];have sa:pos.getD (c.cells.getD i 0).toNat 0=Ab c pos i:=rfl;rw [zAA ⟨⟨by omega,lt i hi⟩,hc⟩,sa,pO V W.k Cw,zAB,zAA ⟨Cw.1,by show Ab c pos i<_;omega⟩];refine ⟨l',?_,hI.step n1 f1⟩;refine (congrArg (fun z=>Option.bind z _) e1).trans ?_;rw [zAB];simp only;rw [zAA hr.2]
theorem sY {n:Nat}(W:CI c k pos)(V:Ga q k)(hl:lost.length=pos.length)(hn:2*c.cells.length+3<=n):
 ∃ l,QV n c q pos pos.length lost=some (MI q c pos,l)/\ (MI q c pos=true -> B5 c pos lost c.cells.length (fun a s=>JB q c pos a s=true) l):=by
 have lt: ∀ i,i<c.cells.length -> ((i:Nat):Int)<((c.cells.length:Nat):Int):=fun i hi=>by omega
 have S:=Hy (fun n (s:List Int×Int×Int) i=>JC c q pos pos.length lost n (.l1 i s.1 s.2.1 s.2.2)) c.cells.length (c.cells.length+3)
  (fun i s=>s.1=lost/\ s.2.1=FI (fun a=>E8 q (Ab c pos a)) i/\ s.2.2=FI (fun a=>FA q (Ab c pos a)) i) (fun n i s _ hi hI=>?_) (n:=n) (s:=(lost,0,0)) (by omega) ⟨rfl,rfl,rfl⟩
 ·obtain ⟨n1,⟨l0,x3,x4⟩,HD,_,e1,h0,h3,h4⟩:=S;obtain ⟨n2,rfl⟩: ∃ n2,n1=n2+1:=⟨n1-1,by omega⟩;obtain rfl:l0=lost:=h0;obtain rfl:x3=LO q c pos:=h3;obtain rfl:x4=Lc q c pos:=h4;have e2:QV n c q pos pos.length l0=Sv n2 (JC c q pos pos.length l0 n2) c q pos pos.length l0 (c.cells.length:Int) l0 (LO q c pos) (Lc q c pos):=e1;unfold Sv at e2;rw [zAI (by omega),zAC] at e2;unfold MI;cases h5:decide (LO q c pos>c.hi)
  ·cases h6:decide (Lc q c pos<c.lo)
   ·obtain ⟨l,e3,hL⟩:=sX (n:=n2) W V hl (by omega);rw [h5,h6,zAC,zAC,e3] at e2;exact ⟨l,e2,fun _=>hL⟩
   ·rw [h5,h6,zAC,zAK] at e2;exact ⟨l0,e2,fun h=>by cases h⟩
  ·rw [h5,zAK] at e2;exact ⟨l0,e2,fun h=>by cases h⟩
 ·obtain ⟨l0,x3,x4⟩:=s;obtain ⟨h0,h3,h4⟩:=hI;simp only at h0 h3 h4;have hc:=W.cells i hi;have hr:=W.r64 hi;have Cw:=W.at hi;have b3:=So (f:=fun a=>E8 q (Ab c pos a)) i fun a ha=>by have:=V.lo W.k (W.at (Nat.lt_trans ha hi));omega
  have b4:=So (f:=fun a=>FA q (Ab c pos a)) i fun a ha=>by have:=V.hi W.k (W.at (Nat.lt_trans ha hi));omega
  have bl:=V.lo W.k Cw;have bh:=V.hi W.k Cw;have Af:=W.len;rw [←h3] at b3;rw [←h4] at b4;have r3:AH (x3+E8 q (Ab c pos i)):=Aw.2 ⟨by omega,by omega⟩;have r4:AH (x4+FA q (Ab c pos i)):=Aw.2 ⟨by omega,by omega⟩
  show ∃ s',Sv n (JC c q pos pos.length lost n) c q pos pos.length lost (i:Int) l0 x3 x4=_/\ _
  unfold Sv;rw [zAU (lt i hi),zAK];simp only [zAP];have sa:pos.getD (c.cells.getD i 0).toNat 0=Ab c pos i:=rfl;rw [zAA ⟨⟨by omega,lt i hi⟩,hc⟩,sa,pO V W.k Cw,zAB,zAA ⟨r3,r4,hr.2⟩];exact ⟨(l0,x3+E8 q (Ab c pos i),x4+FA q (Ab c pos i)),rfl,h0,by simp only [FI];rw [h3],by simp only [FI];rw [h4]⟩
end
set_option maxRecDepth 100000
set_option maxHeartbeats 40000000
def iq:ST:=.rd 0 (.rd 1 (.rd 3 (.rd 4 (.ef 2 (.ef 5 (.ef 6 (.ef 7 (.ef 8 (.ef 9 (.fin [0,1,2,3] [1,3,4,5,58,91,92,104,148]) (.no)) (.no)) (.no)) (.ef 7 (.ef 6 (.ef 8 (.ef 9 (.fin [0,1,3,2] [1,3,4,5,58,91,92,104,148]) (.no)) (.no)) (.no)) (.no))) (.ef 6 (.ef 5 (.ef 7 (.ef 8 (.ef 9 (.fin [0,2,1,3] [1,3,4,5,58,91,92,104,148]) (.no)) (.no)) (.no)) (.ef 7 (.ef 5 (.ef 8 (.ef 9 (.fin [0,3,1,2] [1,3,4,5,58,91,92,104,148]) (.no)) (.no)) (.ef 8 (.ef 5 (.ef 9 (.fin [0,3,1,2] [1,3,4,5,58,91,92,104,148]) (.no)) (.no)) (.no))) (.no))) (.ef 7 (.ef 5 (.ef 6 (.ef 8 (.ef 9 (.fin [0,2,3,1] [1,3,4,5,58,91,92,104,148]) (.no)) (.no)) (.no)) (.ef 6 (.ef 5 (.ef 8 (.ef 9 (.fin [0,3,2,1] [1,3,4,5,58,91,92,104,148]) (.no)) (.no)) (.ef 8 (.ef 5 (.ef 9 (.fin [0,3,2,1] [1,3,4,5,58,91,92,104,148]) (.no)) (.no)) (.no))) (.no))) (.no)))) (.ef 5 (.ef 2 (.ef 6 (.ef 7 (.ef 8 (.ef 9 (.fin [1,0,2,3] [1,3,4,5,58,91,92,104,148]) (.no)) (.no)) (.no)) (.ef 7 (.ef 6 (.ef 8 (.ef 9 (.fin [1,0,3,2] [1,3,4,5,58,91,92,104,148]) (.no)) (.no)) (.no)) (.no))) (.ef 6 (.ef 2 (.ef 7 (.ef 8 (.ef 9 (.fin [2,0,1,3] [1,3,4,5,58,91,92,104,148]) (.no)) (.no)) (.no)) (.ef 7 (.ef 2 (.ef 8 (.ef 9 (.fin [3,0,1,2] [1,3,4,5,58,91,92,104,148]) (.no)) (.no)) (.no)) (.no))) (.ef 7 (.ef 2 (.ef 6 (.ef 8 (.ef 9 (.fin [2,0,3,1] [1,3,4,5,58,91,92,104,148]) (.no)) (.no)) (.no)) (.ef 6 (.ef 2 (.ef 8 (.ef 9 (.fin [3,0,2,1] [1,3,4,5,58,91,92,104,148]) (.no)) (.no)) (.no)) (.no))) (.no)))) (.ef 6 (.ef 2 (.ef 5 (.ef 7 (.ef 8 (.ef 9 (.fin [1,2,0,3] [1,3,4,5,58,91,92,104,148]) (.no)) (.no)) (.no)) (.ef 7 (.ef 5 (.ef 8 (.ef 9 (.fin [1,3,0,2] [1,3,4,5,58,91,92,104,148]) (.no)) (.no)) (.ef 8 (.ef 5 (.ef 9 (.fin [1,3,0,2] [1,3,4,5,58,91,92,104,148]) (.no)) (.no)) (.no))) (.no))) (.ef 5 (.ef 2 (.ef 7 (.ef 8 (.ef 9 (.fin [2,1,0,3] [1,3,4,5,58,91,92,104,148]) (.no)) (.no)) (.no)) (.ef 7 (.ef 2 (.ef 8 (.ef 9 (.fin [3,1,0,2] [1,3,4,5,58,91,92,104,148]) (.no)) (.no)) (.no)) (.no))) (.ef 7 (.ef 2 (.ef 5 (.ef 8 (.ef 9 (.fin [2,3,0,1] [1,3,4,5,58,91,92,104,148]) (.no)) (.no)) (.ef 8 (.ef 5 (.ef 9 (.fin [2,3,0,1] [1,3,4,5,58,91,92,104,148]) (.no)) (.no)) (.no))) (.ef 5 (.ef 2 (.ef 8 (.ef 9 (.fin [3,2,0,1] [1,3,4,5,58,91,92,104,148]) (.no)) (.no)) (.no)) (.no))) (.no)))) (.ef 7 (.ef 2 (.ef 5 (.ef 6 (.ef 8 (.ef 9 (.fin [1,2,3,0] [1,3,4,5,58,91,92,104,148]) (.no)) (.no)) (.no)) (.ef 6 (.ef 5 (.ef 8 (.ef 9 (.fin [1,3,2,0] [1,3,4,5,58,91,92,104,148]) (.no)) (.no)) (.ef 8 (.ef 5 (.ef 9 (.fin [1,3,2,0] [1,3,4,5,58,91,92,104,148]) (.no)) (.no)) (.no))) (.no))) (.ef 5 (.ef 2 (.ef 6 (.ef 8 (.ef 9 (.fin [2,1,3,0] [1,3,4,5,58,91,92,104,148]) (.no)) (.no)) (.no)) (.ef 6 (.ef 2 (.ef 8 (.ef 9 (.fin [3,1,2,0] [1,3,4,5,58,91,92,104,148]) (.no)) (.no)) (.no)) (.no))) (.ef 6 (.ef 2 (.ef 5 (.ef 8 (.ef 9 (.fin [2,3,1,0] [1,3,4,5,58,91,92,104,148]) (.no)) (.no)) (.ef 8 (.ef 5 (.ef 9 (.fin [2,3,1,0] [1,3,4,5,58,91,92,104,148]) (.no)) (.no)) (.no))) (.ef 5 (.ef 2 (.ef 8 (.ef 9 (.fin [3,2,1,0] [1,3,4,5,58,91,92,104,148]) (.no)) (.no)) (.no)) (.no))) (.no)))) (.no))))))))
theorem uN:Bs (A4 Tryz.f109 2) [2,5,6,7,8] iq:=by unfold Bs;kernel_rfl
def ip:ST:=.rd 0 (.rd 1 (.rd 2 (.rd 3 (.ef 4 (.rd 5 (.ef 6 (.fin [] [1,4,5,58,91,92,104,148]) (.no))) (.no)))))
theorem uK:Bs (A4 Tryz.f109 3) [4] ip:=by unfold Bs;kernel_rfl
theorem uO:Az (A4 Tryz.f109 12) [] (List.range 11) [11]:=by unfold Az;kernel_rfl
theorem uM:Az (A4 Tryz.f109 22) [] (List.range 9) [9]:=by unfold Az;kernel_rfl
theorem uL:Az (A4 Tryz.f109 26) [([0,1,2,3,4,5,6],7)] [] []:=by unfold Az;kernel_rfl
def io:ST:=.rd 0 (.rd 1 (.rd 2 (.rd 3 (.ef 4 (.fin [] [2]) (.no)))))
theorem j7:Bs (A4 Tryz.f109 30) [] io:=by unfold Bs;kernel_rfl
def Ep:Bi:=fun i=>match i with
 | 2=>.tre [2,5,6,7,8] iq
 | 3=>.tre [4] ip
 | 12=>.ord [] (List.range 11) [11]
 | 22=>.ord [] (List.range 9) [9]
 | 26=>.ord [([0,1,2,3,4,5,6],7)] [] []
 | 30=>.tre [] io
 | _=>.no
def Cm (c:AB)(q:AA)(pos:List Int)(ln:Nat)(lost:List Int):St:=⟨(AF 178 [(1,.ref 2 0),(3,.i (c.cells.length:Int)),(4,.ref 5 0),(5,.ref 6 0)]),([oW c q pos 1 ln,oI lost,oC [.ref 0 0],oI (List.replicate ((((c.cells.length:Int)+1)).toNat) (0:Int)),oI (List.replicate ((((c.cells.length:Int)+1)).toNat) (0:Int)),oC [.msl 3 1 0 ((((c.cells.length:Int)+1)).toNat)],oC [.msl 4 1 0 ((((c.cells.length:Int)+1)).toNat)]]:DH)⟩
def iO (c:AB)(q:AA)(pos:List Int)(ln:Nat)(lost:List Int):St:=⟨(AF 178 [(1,.ref 2 0),(4,.ref 5 0),(5,.ref 6 0)]),([oW c q pos 1 ln,oI lost,oC [.ref 0 0],oI ((List.replicate ((((c.cells.length:Int)+1)).toNat) (0:Int)).set (0+0) (-1)),oI ((List.replicate ((((c.cells.length:Int)+1)).toNat) (0:Int)).set (0+c.cells.length) 100),oC [.msl 3 1 0 ((((c.cells.length:Int)+1)).toNat)],oC [.msl 4 1 0 ((((c.cells.length:Int)+1)).toNat)]]:DH)⟩
def zBC (c:AB)(q:AA)(pos:List Int)(ln:Nat)(lost o4:List Int)(BQ:Int):DH:=[oW c q pos 1 ln,oI lost,oC [.ref 0 0],oC [.msl 4 1 0 ((((c.cells.length:Int)+1)).toNat)],oI (o4.set (0+(((BQ+1)).toNat)) 100),oC [.msl 6 1 0 ((((c.cells.length:Int)+1)).toNat)],oI ((List.replicate ((((c.cells.length:Int)+1)).toNat) (0:Int)).set (0+c.cells.length) 100),oC [.i BQ]]
def zBB (c:AB)(q:AA)(pos:List Int)(ln:Nat)(lost:List Int)(BQ:Int)(o4:List Int):DH:=[oW c q pos 1 ln,oI lost,oC [.ref 0 0],oC [.msl 7 1 0 ((((c.cells.length:Int)+1)).toNat)],oC [.msl 8 1 0 ((((c.cells.length:Int)+1)).toNat)],oC [.i BQ],some (.iter ((Be (pos.getD ((c.cells.getD ((BQ).toNat) 0).toNat) 0)).map Bj)),oI (o4.set (0+(((BQ+1)).toNat)) 100),oI ((List.replicate ((((c.cells.length:Int)+1)).toNat) (0:Int)).set (0+c.cells.length) 100)]
def zBA (c:AB)(q:AA)(pos:List Int)(ln:Nat)(lost o4:List Int):DH:=[oW c q pos 1 ln,oI lost,oC [.ref 0 0],oC [.msl 4 1 0 ((((c.cells.length:Int)+1)).toNat)],oI o4,oC [.msl 6 1 0 ((((c.cells.length:Int)+1)).toNat)],oI ((List.replicate ((((c.cells.length:Int)+1)).toNat) (0:Int)).set (0+c.cells.length) 100)]
def zA9 (c:AB)(q:AA)(pos:List Int)(ln:Nat)(lost:List Int)(y1:List (Int×Int))(o4:List Int):DH:=[oW c q pos 1 ln,oI lost,oC [.ref 0 0],oC [.msl 6 1 0 ((((c.cells.length:Int)+1)).toNat)],oC [.msl 7 1 0 ((((c.cells.length:Int)+1)).toNat)],some (.iter ((y1).map Pg)),oI o4,oI ((List.replicate ((((c.cells.length:Int)+1)).toNat) (0:Int)).set (0+c.cells.length) 100)]
def zA8 (c:AB)(q:AA)(pos:List Int)(ln:Nat)(o1 o4 o6:List Int)(BE:Int):DH:=[oW c q pos 1 ln,oI o1,oC [.ref 0 0],oC [.msl 4 1 0 ((((c.cells.length:Int)+1)).toNat)],oI o4,oC [.msl 6 1 0 ((((c.cells.length:Int)+1)).toNat)],oI o6,oC [.i BE],oC [.i (c.cells.getD ((BE).toNat) 0)]]
def zA7 (c:AB)(q:AA)(pos:List Int)(ln:Nat)(o1:List Int)(BE:Int)(o4 o6:List Int):DH:=[oW c q pos 1 ln,oI o1,oC [.ref 0 0],oC [.msl 8 1 0 ((((c.cells.length:Int)+1)).toNat)],oC [.msl 9 1 0 ((((c.cells.length:Int)+1)).toNat)],oC [.i BE],oC [.i (c.cells.getD ((BE).toNat) 0)],some (.iter ((Be (pos.getD ((c.cells.getD ((BE).toNat) 0).toNat) 0)).map Bj)),oI o4,oI o6]
def zA6 (c:AB)(q:AA)(pos:List Int)(ln:Nat)(lost:List Int)(BQ:Int)(Fq:List Int):DH:=[oW c q pos 1 ln,oI lost,oC [.ref 0 0],oC [.msl 7 1 0 ((((c.cells.length:Int)+1)).toNat)],oC [.msl 8 1 0 ((((c.cells.length:Int)+1)).toNat)],oC [.i BQ],none,oI Fq,oI ((List.replicate ((((c.cells.length:Int)+1)).toNat) (0:Int)).set (0+c.cells.length) 100)]
def zA5 (c:AB)(q:AA)(pos:List Int)(ln:Nat)(lost o4 FV:List Int)(BT:Int×Int):DH:=[oW c q pos 1 ln,oI lost,oC [.ref 0 0],oC [.msl 6 1 0 ((((c.cells.length:Int)+1)).toNat)],oC [.msl 7 1 0 ((((c.cells.length:Int)+1)).toNat)],none,oI o4,oI FV,oC [.i BT.1]]
def zBF (c:AB)(q:AA)(pos:List Int)(ln:Nat)(lost o4 FV:List Int)(BT:Int×Int):DH:=[oW c q pos 1 ln,oI lost,oC [.ref 0 0],oC [.msl 6 1 0 ((((c.cells.length:Int)+1)).toNat)],oC [.msl 7 1 0 ((((c.cells.length:Int)+1)).toNat)],none,oI o4,oI (FV.set (0+((BT.1).toNat)) (-1)),oC [.i BT.1]]
def zBE (c:AB)(q:AA)(pos:List Int)(ln:Nat)(lost:List Int)(BT:Int×Int)(o4 FV:List Int):DH:=[oW c q pos 1 ln,oI lost,oC [.ref 0 0],oC [.msl 8 1 0 ((((c.cells.length:Int)+1)).toNat)],oC [.msl 9 1 0 ((((c.cells.length:Int)+1)).toNat)],none,oC [.i BT.1],some (.iter ((Be (pos.getD ((BT.2).toNat) 0)).map Bj)),oI o4,oI (FV.set (0+((BT.1).toNat)) (-1))]
def dJ (c:AB)(q:AA)(pos:List Int)(ln:Nat)(Gx:List Int)(BE:Int)(o4 o6:List Int):DH:=[oW c q pos 1 ln,oI Gx,oC [.ref 0 0],oC [.msl 8 1 0 ((((c.cells.length:Int)+1)).toNat)],oC [.msl 9 1 0 ((((c.cells.length:Int)+1)).toNat)],oC [.i BE],oC [.i (c.cells.getD ((BE).toNat) 0)],none,oI o4,oI o6]
def WM (c:AB)(q:AA)(pos:List Int)(ln:Nat)(Jq:(List Int))(BE:Int)(o4 o6:List Int):St:=⟨(AF 178 []),([oW c q pos 1 ln,oI Jq,oC [.ref 0 0],oC [.msl 8 1 0 ((((c.cells.length:Int)+1)).toNat)],oC [.msl 9 1 0 ((((c.cells.length:Int)+1)).toNat)],oC [.i BE],oC [.i (c.cells.getD ((BE).toNat) 0)],none,oI o4,oI o6]:DH)⟩
def zBD (c:AB)(q:AA)(pos:List Int)(ln:Nat)(lost:List Int)(BT:Int×Int)(o4 Fr:List Int):DH:=[oW c q pos 1 ln,oI lost,oC [.ref 0 0],oC [.msl 8 1 0 ((((c.cells.length:Int)+1)).toNat)],oC [.msl 9 1 0 ((((c.cells.length:Int)+1)).toNat)],none,oC [.i BT.1],none,oI o4,oI Fr]
inductive MZ where
 | s0 (Fr:List Int)
def kY (c:AB)(q:AA)(pos:List Int)(ln:Nat)(lost:List Int)(BT:Int×Int)(o4:List Int):MZ -> DH
 | .s0 Fr=>[oW c q pos 1 ln,oI lost,oC [.ref 0 0],oC [.msl 8 1 0 ((((c.cells.length:Int)+1)).toNat)],oC [.msl 9 1 0 ((((c.cells.length:Int)+1)).toNat)],none,oC [.i BT.1],none,oI o4,oI Fr]
def Ws (n:Nat)(c:AB)(q:AA)(pos:List Int)(ln:Nat)(lost:List Int)(BT:Int×Int)(o4:List Int)(Hk:Int)(Fr:List Int):Option MZ:= if (0<=Hk/\ Hk<(q.values.length:Int))/\ AH (BT.1+1)/\ (0<=(BT.1+1)/\ (BT.1+1)<(((((c.cells.length:Int)+1)).toNat:Nat):Int))/\ 0+(((BT.1+1)).toNat)<Fr.length then bif (decide ((q.values.getD ((Hk).toNat) 0)<(Fr.getD (0+(((BT.1+1)).toNat)) 0))) then if (0<=BT.1/\ BT.1<(((((c.cells.length:Int)+1)).toNat:Nat):Int))/\ 0+((BT.1).toNat)<Fr.length then some (.s0 (Fr.set (0+((BT.1).toNat)) (if (q.values.getD ((Hk).toNat) 0)>(Fr.getD (0+((BT.1).toNat)) 0) then (q.values.getD ((Hk).toNat) 0) else (Fr.getD (0+((BT.1).toNat)) 0)))) else none else some (.s0 Fr) else none
def kX (n:Nat)(c:AB)(q:AA)(pos:List Int)(ln:Nat)(lost:List Int)(BT:Int×Int)(o4:List Int)(Hk:Int):MZ -> Option MZ
 | .s0 Fr=>Ws n c q pos ln lost BT o4 Hk Fr
def Tc (n:Nat)(c:AB)(q:AA)(pos:List Int)(ln:Nat)(lost:List Int)(BT:Int×Int)(o4:List Int)(Hk:Int)(s:MZ):Option MZ:=kX n c q pos ln lost BT o4 Hk s
theorem vn (n:Nat)(c:AB)(q:AA)(pos:List Int)(ln:Nat)(lost:List Int)(BT:Int×Int)(o4:List Int)(l B:Nat)(N:Yd 8)(Hk:Int)(s:MZ)(r:MZ)(h:Tc n c q pos ln lost BT o4 Hk s=some r):TA l B N (Cf 8 [] 0 (kY c q pos ln lost BT o4 r)) Tryz.f109 103 ⟨AF 178 [(1,.ref 2 0),(5,.ref 4 0),(10,.ref 6 0),(103,.it 7),(104,.i Hk)],kY c q pos ln lost BT o4 s⟩:=by
 cases s with
 | s0 Fr=>
  replace h:Ws n c q pos ln lost BT o4 Hk Fr=some r:=h;unfold Ws at h;refine ag Ep [0,1,2,3,4,5,6,7,8,9] H0 (AF 178 [(1,.ref 2 0),(5,.ref 4 0),(10,.ref 6 0),(12,.i Hk)]) (zBD c q pos ln lost BT o4 Fr) fun N=>?_
  revert r;apply gO;exact gc (gi (gc (gw 116 (gc (gi (gi (bi 119 (jg uM (gc (gn fun qa=>jg qa (gn fun qZ=>jg qZ (jg qa (jg qZ (lF fun p=>rr Ep [0,1,2,3,4,5,6,7,8,9] rfl p))))))) (lF fun p=>rr Ep [0,1,2,3,4,5,6,7,8,9] rfl p))))))))
inductive K5 where
 | s0 (Gx:List Int)
def kf (c:AB)(BE:Int)(q:AA)(pos:List Int)(ln:Nat)(o4 o6:List Int):K5 -> DH
 | .s0 Gx=>[oW c q pos 1 ln,oI Gx,oC [.ref 0 0],oC [.msl 8 1 0 ((((c.cells.length:Int)+1)).toNat)],oC [.msl 9 1 0 ((((c.cells.length:Int)+1)).toNat)],oC [.i BE],oC [.i (c.cells.getD ((BE).toNat) 0)],none,oI o4,oI o6]
def Wu (n:Nat)(c:AB)(BE:Int)(q:AA)(pos:List Int)(ln:Nat)(o4 o6:List Int)(FM:Int)(Gx:List Int):Option K5:= if (0<=FM/\ FM<(q.values.length:Int))/\ (0<=BE/\ BE<(((((c.cells.length:Int)+1)).toNat:Nat):Int))/\ 0+((BE).toNat)<o4.length then bif (decide ((q.values.getD ((FM).toNat) 0)<=(o4.getD (0+((BE).toNat)) 0))) then if 0<=FM/\ FM<=(IntKind.i64.bits:Int) then (Dn n (c.cells.getD ((BE).toNat) 0) (IntKind.i64.wrap (1*2 ^ (FM).toNat)) c q pos ln Gx).bind fun Jq=> some (.s0 Jq) else none else if AH (BE+1)/\ (0<=(BE+1)/\ (BE+1)<(((((c.cells.length:Int)+1)).toNat:Nat):Int))/\ 0+(((BE+1)).toNat)<o6.length then bif (decide ((q.values.getD ((FM).toNat) 0)>=(o6.getD (0+(((BE+1)).toNat)) 0))) then if 0<=FM/\ FM<=(IntKind.i64.bits:Int) then (Dn n (c.cells.getD ((BE).toNat) 0) (IntKind.i64.wrap (1*2 ^ (FM).toNat)) c q pos ln Gx).bind fun Jq=> some (.s0 Jq) else none else some (.s0 Gx) else none else none
def ke (n:Nat)(c:AB)(BE:Int)(q:AA)(pos:List Int)(ln:Nat)(o4 o6:List Int)(FM:Int):K5 -> Option K5
 | .s0 Gx=>Wu n c BE q pos ln o4 o6 FM Gx
def Wv (n:Nat)(c:AB)(BE:Int)(q:AA)(pos:List Int)(ln:Nat)(o4 o6:List Int)(FM:Int)(s:K5):Option K5:=ke n c BE q pos ln o4 o6 FM s
theorem vp (n:Nat)(c:AB)(BE:Int)(q:AA)(pos:List Int)(ln:Nat)(o4 o6:List Int)(l B:Nat)(N:Yd 8)(FM:Int)(s:K5)(r:K5)(h:Wv n c BE q pos ln o4 o6 FM s=some r):TA l B N (Cf 8 [] 0 (kf c BE q pos ln o4 o6 r)) Tryz.f109 147 ⟨AF 178 [(1,.ref 2 0),(4,.ref 3 0),(5,.ref 4 0),(14,.ref 5 0),(15,.ref 6 0),(133,.ints c.cells),(134,.i (c.cells.length:Int)),(135,.i BE),(147,.it 7),(148,.i FM)],kf c BE q pos ln o4 o6 s⟩:=by
 cases s with
 | s0 Gx=>
  replace h:Wu n c BE q pos ln o4 o6 FM Gx=some r:=h;unfold Wu at h;refine ag Ep [0,1,2,3,4,5,6,7,8,9] H0 (AF 178 [(1,.ref 2 0),(4,.ref 3 0),(5,.ref 4 0),(14,.ref 5 0),(15,.ref 6 0),(16,.i FM)]) (dJ c q pos ln Gx BE o4 o6) fun N=>?_
  revert r;apply gO;exact gc (gi (gc (gi (gi (bi 162 (jg j7 (gi (ce GN [0,1] (dJ c q pos ln Gx BE o4 o6) fun Jq=>jg (Eq.refl (WM c q pos ln Jq BE o4 o6)) (lF fun p=>rr (tg:=[([],(WM c q pos ln Jq BE o4 o6))]) Ep [0,1,2,3,4,5,6,7,8,9] rfl p)))) (gc (gw 167 (gc (gi (gi (bi 170 (jg j7 (gi (ce GN [0,1] (dJ c q pos ln Gx BE o4 o6) fun Jq=>jg (Eq.refl (WM c q pos ln Jq BE o4 o6)) (lF fun p=>rr (tg:=[([],(WM c q pos ln Jq BE o4 o6))]) Ep [0,1,2,3,4,5,6,7,8,9] rfl p)))) (lF fun p=>rr Ep [0,1,2,3,4,5,6,7,8,9] rfl p))))))))))))
inductive Ma where
 | s0 (FV:List Int)
def kZ (c:AB)(q:AA)(pos:List Int)(ln:Nat)(lost o4:List Int):Ma -> DH
 | .s0 FV=>[oW c q pos 1 ln,oI lost,oC [.ref 0 0],oC [.msl 6 1 0 ((((c.cells.length:Int)+1)).toNat)],oC [.msl 7 1 0 ((((c.cells.length:Int)+1)).toNat)],none,oI o4,oI FV]
def Wr (n:Nat)(c:AB)(q:AA)(pos:List Int)(ln:Nat)(lost o4:List Int)(BT:Int×Int)(FV:List Int):Option Ma:=
 if (0<=BT.1/\ BT.1<(((((c.cells.length:Int)+1)).toNat:Nat):Int))/\ 0+((BT.1).toNat)<FV.length/\ (0<=BT.2/\ BT.2<(pos.length:Int))/\ (0<=(pos.getD ((BT.2).toNat) 0)/\ (pos.getD ((BT.2).toNat) 0)<9223372036854775808) then
  (B9 (Tc n c q pos ln lost BT o4) (Be (pos.getD ((BT.2).toNat) 0)) (.s0 (FV.set (0+((BT.1).toNat)) (-1)))).bind fun fR=>
   match fR with
   | .s0 qU=>
    some (.s0 qU)
 else none
def kW (n:Nat)(c:AB)(q:AA)(pos:List Int)(ln:Nat)(lost o4:List Int)(BT:Int×Int):Ma -> Option Ma
 | .s0 FV=>Wr n c q pos ln lost o4 BT FV
def Td (n:Nat)(c:AB)(q:AA)(pos:List Int)(ln:Nat)(lost o4:List Int)(BT:Int×Int)(s:Ma):Option Ma:=kW n c q pos ln lost o4 BT s
theorem vm (n:Nat)(c:AB)(q:AA)(pos:List Int)(ln:Nat)(lost o4:List Int)(l B:Nat)(N:Yd 6)(BT:Int×Int)(s:Ma)(r:Ma)(h:Td n c q pos ln lost o4 BT s=some r):TA l B N (Cf 6 [] 0 (kZ c q pos ln lost o4 r)) Tryz.f109 90 ⟨AF 178 [(1,.ref 2 0),(4,.ref 3 0),(5,.ref 4 0),(90,.it 5),(91,.i BT.1),(92,.i BT.2)],kZ c q pos ln lost o4 s⟩:=by
 cases s with
 | s0 FV=>
  replace h:Wr n c q pos ln lost o4 BT FV=some r:=h;unfold Wr at h;refine ag Ep [0,1,2,3,4,5,6,7,8] (H0.t) (AF 178 [(1,.ref 2 0),(5,.ref 4 0),(10,.ref 8 0),(11,.i BT.2)]) (zA5 c q pos ln lost o4 FV BT) fun N=>?_
  revert r;apply gO
  exact gc (gi (gc (gi (gc (gi (gn fun zEs=>jc (Kv zEs (zBF c q pos ln lost o4 FV BT)) (cn fun fR zCN=>fun p r h=>by
   refine gs Ep [0,1,2,3,4,5,8,9,6,7] p (GZ (OL Tryz.f109 90) 103 []) (AF 178 [(1,.ref 2 0),(5,.ref 4 0),(10,.ref 6 0),(103,.it 7)]) (zBE c q pos ln lost BT o4 FV) ?_;refine r0 7 103 #[104] Bj 8 zCN (vn n c q pos ln lost BT o4) ?_;cases fR with
   | s0 qU=>
    dsimp only at h
    revert r;apply gO;exact lF fun p=>rr Ep [0,1,2,3,4,5,8,9] rfl p)))))))
inductive Mb where
 | s0 (Fq:List Int)
def kb (c:AB)(BQ:Int)(q:AA)(pos:List Int)(ln:Nat)(lost:List Int):Mb -> DH
 | .s0 Fq=>[oW c q pos 1 ln,oI lost,oC [.ref 0 0],oC [.msl 7 1 0 ((((c.cells.length:Int)+1)).toNat)],oC [.msl 8 1 0 ((((c.cells.length:Int)+1)).toNat)],oC [.i BQ],none,oI Fq,oI ((List.replicate ((((c.cells.length:Int)+1)).toNat) (0:Int)).set (0+c.cells.length) 100)]
def Wt (n:Nat)(c:AB)(BQ:Int)(q:AA)(pos:List Int)(ln:Nat)(lost:List Int)(Hj:Int)(Fq:List Int):Option Mb:= if (0<=Hj/\ Hj<(q.values.length:Int))/\ (0<=BQ/\ BQ<(((((c.cells.length:Int)+1)).toNat:Nat):Int))/\ 0+((BQ).toNat)<Fq.length then bif (decide ((q.values.getD ((Hj).toNat) 0)>(Fq.getD (0+((BQ).toNat)) 0))) then if AH (BQ+1)/\ (0<=(BQ+1)/\ (BQ+1)<(((((c.cells.length:Int)+1)).toNat:Nat):Int))/\ 0+(((BQ+1)).toNat)<Fq.length then some (.s0 (Fq.set (0+(((BQ+1)).toNat)) (if (q.values.getD ((Hj).toNat) 0)<(Fq.getD (0+(((BQ+1)).toNat)) 0) then (q.values.getD ((Hj).toNat) 0) else (Fq.getD (0+(((BQ+1)).toNat)) 0)))) else none else some (.s0 Fq) else none
def ka (n:Nat)(c:AB)(BQ:Int)(q:AA)(pos:List Int)(ln:Nat)(lost:List Int)(Hj:Int):Mb -> Option Mb
 | .s0 Fq=>Wt n c BQ q pos ln lost Hj Fq
def Te (n:Nat)(c:AB)(BQ:Int)(q:AA)(pos:List Int)(ln:Nat)(lost:List Int)(Hj:Int)(s:Mb):Option Mb:=ka n c BQ q pos ln lost Hj s
theorem vo (n:Nat)(c:AB)(BQ:Int)(q:AA)(pos:List Int)(ln:Nat)(lost:List Int)(l B:Nat)(N:Yd 7)(Hj:Int)(s:Mb)(r:Mb)(h:Te n c BQ q pos ln lost Hj s=some r):TA l B N (Cf 7 [] 0 (kb c BQ q pos ln lost r)) Tryz.f109 57 ⟨AF 178 [(1,.ref 2 0),(4,.ref 3 0),(5,.ref 4 0),(6,.ref 5 0),(39,.ints c.cells),(40,.i (c.cells.length:Int)),(41,.i BQ),(57,.it 6),(58,.i Hj)],kb c BQ q pos ln lost s⟩:=by
 cases s with
 | s0 Fq=>
  replace h:Wt n c BQ q pos ln lost Hj Fq=some r:=h;unfold Wt at h;refine ag Ep [0,1,2,3,4,5,6,7,8] H0 (AF 178 [(1,.ref 2 0),(4,.ref 3 0),(6,.ref 5 0),(8,.i Hj)]) (zA6 c q pos ln lost BQ Fq) fun N=>?_
  revert r;apply gO;exact gc (gi (gc (gi (gi (bi 72 (jg uO (gc (gn fun qY=>jw 75 qY (jw 78 qY (gc (gn fun qX=>jg qX (gn fun qW=>jg qW (jg qX (jg qW (lF fun p=>rr Ep [0,1,2,3,4,5,6,7,8] rfl p)))))))))) (lF fun p=>rr Ep [0,1,2,3,4,5,6,7,8] rfl p))))))
inductive Tf where
 | l1 (BQ:Int) (o4:List Int)
 | l2 (BE:Int) (o1 o4 o6:List Int)
def Tb (n:Nat)(self:Tf -> Option (Bool×(List Int)))(c:AB)(q:AA)(pos:List Int)(ln:Nat)(lost:List Int)(BQ:Int)(o4:List Int):Option (Bool×(List Int)):=
 bif (decide (BQ<(c.cells.length:Int))) then
  if (0<=BQ/\ BQ<(c.cells.length:Int))/\ AH (BQ+1)/\ (0<=(BQ+1)/\ (BQ+1)<(((((c.cells.length:Int)+1)).toNat:Nat):Int))/\ 0+(((BQ+1)).toNat)<o4.length/\ (0<=(c.cells.getD ((BQ).toNat) 0)/\ (c.cells.getD ((BQ).toNat) 0)<(pos.length:Int))/\ (0<=(pos.getD ((c.cells.getD ((BQ).toNat) 0).toNat) 0)/\ (pos.getD ((c.cells.getD ((BQ).toNat) 0).toNat) 0)<9223372036854775808) then
   (B9 (Te n c BQ q pos ln lost) (Be (pos.getD ((c.cells.getD ((BQ).toNat) 0).toNat) 0)) (.s0 (o4.set (0+(((BQ+1)).toNat)) 100))).bind fun y1=>
    match y1 with
    | .s0 D7=>
     if AH (BQ+1) then
      self (.l1 (BQ+1) D7)
     else none
  else none
 else
  (back n c.cells).bind fun y1=>
   (B9 (Td n c q pos ln lost o4) y1 (.s0 ((List.replicate ((((c.cells.length:Int)+1)).toNat) (0:Int)).set (0+c.cells.length) 100))).bind fun y2=>
    match y2 with
    | .s0 EV=>
     self (.l2 0 lost o4 EV)
def Ta (n:Nat)(self:Tf -> Option (Bool×(List Int)))(c:AB)(q:AA)(pos:List Int)(ln:Nat)(lost:List Int)(BE:Int)(o1 o4 o6:List Int):Option (Bool×(List Int)):=
 bif (decide (BE<(c.cells.length:Int))) then
  if (0<=BE/\ BE<(c.cells.length:Int))/\ (0<=(c.cells.getD ((BE).toNat) 0)/\ (c.cells.getD ((BE).toNat) 0)<(pos.length:Int))/\ (0<=(pos.getD ((c.cells.getD ((BE).toNat) 0).toNat) 0)/\ (pos.getD ((c.cells.getD ((BE).toNat) 0).toNat) 0)<9223372036854775808) then
   (B9 (Wv n c BE q pos ln o4 o6) (Be (pos.getD ((c.cells.getD ((BE).toNat) 0).toNat) 0)) (.s0 o1)).bind fun y1=>
    match y1 with
    | .s0 D7=>
     if AH (BE+1) then
      self (.l2 (BE+1) D7 o4 o6)
     else none
  else none
 else
  some (true,o1)
def kV (n:Nat)(self:Tf -> Option (Bool×(List Int)))(c:AB)(q:AA)(pos:List Int)(ln:Nat)(lost:List Int):Option (Bool×(List Int)):= if AH ((c.cells.length:Int)+1)/\ ((((c.cells.length:Int)+1):Int)=((c.cells.length:Int)+1)/\ (0:Int)<=((c.cells.length:Int)+1)/\ (((c.cells.length:Int)+1):Int)<=1000000000000)/\ ((0:Int)<=0/\ 0<(((((c.cells.length:Int)+1)).toNat:Nat):Int))/\ 0+0<(List.replicate ((((c.cells.length:Int)+1)).toNat) (0:Int)).length/\ (0<=(c.cells.length:Int)/\ (c.cells.length:Int)<(((((c.cells.length:Int)+1)).toNat:Nat):Int))/\ 0+c.cells.length<(List.replicate ((((c.cells.length:Int)+1)).toNat) (0:Int)).length then self (.l1 0 ((List.replicate ((((c.cells.length:Int)+1)).toNat) (0:Int)).set (0+0) (-1))) else none
def IT (c:AB)(q:AA)(pos:List Int)(ln:Nat)(lost:List Int):Nat -> Tf -> Option (Bool×(List Int))
 | 0,_=>none
 | n+1,.l1 BQ o4=>Tb n (IT c q pos ln lost n) c q pos ln lost BQ o4
 | n+1,.l2 BE o1 o4 o6=>Ta n (IT c q pos ln lost n) c q pos ln lost BE o1 o4 o6
def Mc (n:Nat)(c:AB)(q:AA)(pos:List Int)(ln:Nat)(lost:List Int):Option (Bool×(List Int)):=kV n (IT c q pos ln lost n) c q pos ln lost
def vq (n B:Nat)(N:Yd 2)(c:AB)(q:AA)(pos:List Int)(ln:Nat)(lost:List Int)(r:Bool×(List Int)):Tf -> Prop
 | .l1 BQ o4=>∀ m0:Nat,n<=m0 -> TW B N (FQ Tryz.f109 2 (.bool r.1) [oW c q pos 1 ln,oI r.2]) (Ax m0 (A7 (AY Tryz.f109) 0 [])) ⟨AF 178 [(1,.ref 2 0),(4,.ref 3 0),(5,.ref 5 0),(39,.ints c.cells),(40,.i (c.cells.length:Int)),(41,.i BQ)],[oW c q pos 1 ln,oI lost,oC [.ref 0 0],oC [.msl 4 1 0 ((((c.cells.length:Int)+1)).toNat)],oI o4,oC [.msl 6 1 0 ((((c.cells.length:Int)+1)).toNat)],oI ((List.replicate ((((c.cells.length:Int)+1)).toNat) (0:Int)).set (0+c.cells.length) 100)]⟩
 | .l2 BE o1 o4 o6=>∀ m0:Nat,n<=m0 -> TW B N (FQ Tryz.f109 2 (.bool r.1) [oW c q pos 1 ln,oI r.2]) (Ax m0 (A7 (AY Tryz.f109) 8 [])) ⟨AF 178 [(1,.ref 2 0),(4,.ref 3 0),(5,.ref 5 0),(133,.ints c.cells),(134,.i (c.cells.length:Int)),(135,.i BE)],[oW c q pos 1 ln,oI o1,oC [.ref 0 0],oC [.msl 4 1 0 ((((c.cells.length:Int)+1)).toNat)],oI o4,oC [.msl 6 1 0 ((((c.cells.length:Int)+1)).toNat)],oI o6]⟩
theorem vr (B:Nat)(N:Yd 2)(c:AB)(q:AA)(pos:List Int)(ln:Nat)(lost:List Int):Al (IT c q pos ln lost) (vq · B N c q pos ln lost):=ia (fun _=>rfl) fun n AJ pt r h=>by
 cases pt
 case l1 BQ o4=>
  intro m0 AC;refine rd AC fun m0 AC=>?_
  revert r;apply gO
  exact bi 42 (gc (gi (jt (gc (gw 48 (gc (gi (gc (gi (gc (gi (gn fun g5=>jc (Kv g5 (zBC c q pos ln lost o4 BQ)) (cn fun y1 Au=>fun p r h=>by
   refine gs Ep [0,1,2,3,5,7,8,4,6] p (GZ (AY Tryz.f109) 57 [m0]) (AF 178 [(1,.ref 2 0),(4,.ref 3 0),(5,.ref 4 0),(6,.ref 5 0),(39,.ints c.cells),(40,.i (c.cells.length:Int)),(41,.i BQ),(57,.it 6)]) (zBB c q pos ln lost BQ o4) ?_;refine r0 6 57 #[58] Bj 7 Au (vo n c BQ q pos ln lost) ?_;cases y1 with
   | s0 D7=>
    dsimp only at h
    revert r;apply gO;exact gw 84 (lG Ep [0,1,2,3,7,4,8] (AJ _ _ · m0 AC))))))))))))))) (cn fun y1 Au=>jc (zEq Au (zBA c q pos ln lost o4)) (cn fun y2 Cd=>fun p r h=>by
   refine gs Ep [0,1,2,3,5,7,4,6] p (GZ (AY Tryz.f109) 90 []) (AF 178 [(1,.ref 2 0),(4,.ref 3 0),(5,.ref 4 0),(90,.it 5)]) (zA9 c q pos ln lost y1 o4) ?_;refine r0 5 90 #[91,92] Pg 6 Cd (vm n c q pos ln lost o4) ?_;cases y2 with
   | s0 EV=>
    dsimp only at h
    revert r;apply gO;exact lN Ep [0,1,2,3,6,4,7] (AJ _ _ · n Nat.le.refl)))
 case l2 BE o1 o4 o6=>
  intro m0 AC;refine rd AC fun m0 AC=>?_
  revert r;apply gO
  exact bi 136 (gc (gi (jt (jt (jg uL (gc (gi (gn fun g2=>jc (Kv g2 (zA8 c q pos ln o1 o4 o6 BE)) (cn fun y1 Au=>fun p r h=>by
   refine gs Ep [0,1,2,3,5,7,8,9,4,6] p (GZ (AY Tryz.f109) 147 [m0]) (AF 178 [(1,.ref 2 0),(4,.ref 3 0),(5,.ref 4 0),(14,.ref 5 0),(15,.ref 6 0),(133,.ints c.cells),(134,.i (c.cells.length:Int)),(135,.i BE),(147,.it 7)]) (zA7 c q pos ln o1 BE o4 o6) ?_;refine r0 7 147 #[148] Bj 8 Au (vp n c BE q pos ln o4 o6) ?_;cases y1 with
   | s0 D7=>
    dsimp only at h
    revert r;apply gO;exact gw 177 (lG Ep [0,1,2,3,8,4,9] (AJ _ _ · m0 AC))))))))))) (lE Ep [2] [0,1])
theorem vl {n:Nat}{c:AB}{q:AA}{pos:List Int}{ln:Nat}{lost:List Int}{r:Bool×(List Int)}(h:Mc n c q pos ln lost=some r):EQ 109 [.ref 0 0] [oW c q pos 1 ln,oI lost] (.bool r.1) [oW c q pos 1 ln,oI r.2] false:=by
 refine ot Tryz.func109 fun B N=>?_
 revert r;apply gO;exact jg uN (gc (gn fun g0=>jw 25 g0 (jw 28 g0 (gc (gn fun g1=>jg g1 (jg g1 (jt (jt (jg (Eq.refl (Cm c q pos ln lost)) (jt (jt (jg (Eq.refl (Cm c q pos ln lost)) (jg g1 (jt (jt (jg (Eq.refl (Cm c q pos ln lost)) (jg g1 (jt (jt (jg (Eq.refl (Cm c q pos ln lost)) (jt (jg g1 (jt (jg (Eq.refl (Cm c q pos ln lost)) (jg g1 (jt (jt (jg (Eq.refl (Cm c q pos ln lost)) (jg g1 (jt (jt (jg (Eq.refl (Cm c q pos ln lost)) (jt (jg g1 (jt (jg (Eq.refl (Cm c q pos ln lost)) (jg g1 (jg g1 (jt (jt (jg (Eq.refl (Cm c q pos ln lost)) (jt (jt (jg (Eq.refl (Cm c q pos ln lost)) (jg g1 (jt (jt (jg (Eq.refl (Cm c q pos ln lost)) (jg g1 (jt (jt (jg (Eq.refl (Cm c q pos ln lost)) (jg g1 (jt (jt (jg (Eq.refl (Cm c q pos ln lost)) (jg g1 (jt (jt (jg (Eq.refl (Cm c q pos ln lost)) (jg g1 (jg g1 (jt (jt (jg (Eq.refl (Cm c q pos ln lost)) (jg g1 (jt (jt (jg (Eq.refl (Cm c q pos ln lost)) (jt (jg g1 (jt (jg (Eq.refl (Cm c q pos ln lost)) (jg g1 (jg g1 (jt (jt (jg (Eq.refl (Cm c q pos ln lost)) (jg g1 (jt (jt (jg (Eq.refl (Cm c q pos ln lost)) (jg g1 (jg g1 (jt (jt (jg (Eq.refl (Cm c q pos ln lost)) (jt (jg g1 (jt (jg (Eq.refl (Cm c q pos ln lost)) (jg g1 (jg g1 (jt (jt (jg (Eq.refl (Cm c q pos ln lost)) (jg g1 (jg g1 (jt (jt (jg (Eq.refl (Cm c q pos ln lost)) (jg g1 (jt (jt (jg (Eq.refl (Cm c q pos ln lost)) (jt (jg g1 (jt (jg (Eq.refl (Cm c q pos ln lost)) (jg g1 (jg g1 (jt (jt (jg (Eq.refl (Cm c q pos ln lost)) (jg g1 (jt (jt (jg (Eq.refl (Cm c q pos ln lost)) (jg g1 (jg g1 (jt (jt (jg (Eq.refl (Cm c q pos ln lost)) (jt (jg g1 (jt (jg (Eq.refl (Cm c q pos ln lost)) (jg g1 (jg g1 (jt (jt (jg (Eq.refl (Cm c q pos ln lost)) (jg uK (gc (gi (gc (gi (gc (gi (gi (jg (Eq.refl (iO c q pos ln lost)) (lN (tg:=[([],(Cm c q pos ln lost)),([(4,3)],(iO c q pos ln lost))]) Ep [0,1,2,5,3,6,4] ((vr B N c q pos ln lost n) _ _ · n Nat.le.refl)))))))))))))))))))))))))))))))))))))))))))))))))))))))))))))))))))))))))))))))))))))))))))))))))))))))))))))))))))))))))))))))))))))))))))))))
end Go.Proofs.YtodinaconebmdaaGreatDoor
namespace Go.Proofs.YtodinaconebmdaaGreatDoor
open Go.RowKit
theorem Lp {l:List Int}{i:Nat}{a:Int}(h:i<l.length):(l.set i a).getD i 0=a:=by
 rw [u8,zFj h];rfl
theorem getD_set_ne {l:List Int}{i j:Nat}{a:Int}(h:i≠j):(l.set i a).getD j 0=l.getD j 0:=by
 rw [u8,zFU h,←u8]
def QP (q:AA)(b a e:Int):Int:=if q.values.getD e.toNat 0>b then (if q.values.getD e.toNat 0<a then q.values.getD e.toNat 0 else a) else a
def Pi (q:AA)(b a e:Int):Int:=if q.values.getD e.toNat 0<b then (if q.values.getD e.toNat 0>a then q.values.getD e.toNat 0 else a) else a
def Lu (q:AA)(c:AB)(pos:List Int):Nat -> Int
 | 0=>-1
 | i+1=>(Be (Ab c pos i)).foldl (QP q (Lu q c pos i)) 100
def SN (q:AA)(c:AB)(pos:List Int):Nat -> Int
 | 0=>100
 | m+1=>(Be (Ab c pos (c.cells.length-1-m))).foldl (Pi q (SN q c pos m)) (-1)
def Js (q:AA)(c:AB)(pos:List Int)(i:Nat):Int:=SN q c pos (c.cells.length-i)
def J9 (q:AA)(c:AB)(pos:List Int)(a s:Nat):Bool:=decide (q.values.getD s 0<=Lu q c pos a)||decide (q.values.getD s 0>=Js q c pos (a+1))
def Vu (l:List Int):Nat -> List (Int×Int)
 | 0=>[]
 | m+1=>((m:Int),l.getD m 0)::Vu l m
theorem qR {l:List Int}: ∀ (m n:Nat),m<=l.length -> l.length<=LB -> m+1<=n -> Nb l n (.l1 ((m:Int)-1))=some (Vu l m)
 | 0,n,_,_,hn=>by
  obtain ⟨n,rfl⟩: ∃ k,n=k+1:=⟨n-1,by omega⟩
  show Pq n (Nb l n) l _=_
  unfold Pq;rw [zAI (by omega),zAC];rfl
 | m+1,n,hm,hl,hn=>by
  obtain ⟨n,rfl⟩: ∃ k,n=k+1:=⟨n-1,by omega⟩;have e:((m+1:Nat):Int)-1=(m:Int):=by omega
  have hb:LB<=9223372036854775807:=by decide
  rw [e]
  show Pq n (Nb l n) l _=_
  unfold Pq;rw [zAU (by omega),zAK,zAA ⟨by omega,by omega⟩,zAA (Aw.2 ⟨by omega,by omega⟩),qR m n (by omega) hl (by omega),zAP];rfl
theorem zEn {l:List Int}{n:Nat}(hl:l.length<=LB)(hn:l.length+1<=n):back n l=some (Vu l l.length):=by
 have hb:LB<=9223372036854775807:=by decide
 unfold back fP;rw [zAA (Aw.2 ⟨by omega,by omega⟩),qR l.length n (zBl _) hl hn]
section
variable {c:AB} {k:Nat} {pos lost:List Int} {q:AA}
theorem kS {n ln i:Nat}(Af:c.cells.length<=256)(hi:i<c.cells.length){o:List Int}(ho:o.length=c.cells.length+1): ∀ (l:List Int) (a:Int),(∀ e∈l,0<=e/\ e<((q.values.length:Nat):Int)) ->
 B9 (Te n c (i:Int) q pos ln lost) l (.s0 (o.set (i+1) a))=some (.s0 (o.set (i+1) (l.foldl (QP q (o.getD i 0)) a)))
 | [],_,_=>rfl
 | e::l,a,h=>by
  have t1:((((c.cells.length:Nat):Int)+1).toNat:Nat)=c.cells.length+1:=by omega
  have t2:(((i:Int)+1).toNat:Nat)=i+1:=by omega
  have e1:Te n c (i:Int) q pos ln lost e (.s0 (o.set (i+1) a))=some (.s0 (o.set (i+1) (QP q (o.getD i 0) a e))):=by
   unfold Te ka Wt
   dsimp only
   simp only [zAP,t1,t2,zBy,zCG,ho];rw [zAA ⟨h e (.head _),by omega,by omega⟩,getD_set_ne (by omega),Lp (by omega),List.set_set];unfold QP
   by_cases hA:q.values.getD e.toNat 0>o.getD i 0
   ·rw [zAU hA,zAK,zAA ⟨Aw.2 ⟨by omega,by omega⟩,by omega,by omega⟩,zAA hA]
   ·rw [zAI hA,zAC,zAY hA]
  simp only [B9];rw [e1,zAB,kS Af hi ho l _ fun e he=>h e (.tail _ he)];rfl
theorem kT {n ln i:Nat}{x:Int}{o4:List Int}(Af:c.cells.length<=256)(hi:i<c.cells.length){o:List Int}(ho:o.length=c.cells.length+1): ∀ (l:List Int) (a:Int),(∀ e∈l,0<=e/\ e<((q.values.length:Nat):Int)) ->
 B9 (Tc n c q pos ln lost ((i:Int),x) o4) l (.s0 (o.set i a))=some (.s0 (o.set i (l.foldl (Pi q (o.getD (i+1) 0)) a)))
 | [],_,_=>rfl
 | e::l,a,h=>by
  have t1:((((c.cells.length:Nat):Int)+1).toNat:Nat)=c.cells.length+1:=by omega
  have t2:(((i:Int)+1).toNat:Nat)=i+1:=by omega
  have e1:Tc n c q pos ln lost ((i:Int),x) o4 e (.s0 (o.set i a))=some (.s0 (o.set i (Pi q (o.getD (i+1) 0) a e))):=by
   unfold Tc kX Ws
   dsimp only
   simp only [zAP,t1,t2,zBy,zCG,ho];rw [zAA ⟨h e (.head _),Aw.2 ⟨by omega,by omega⟩,by omega,by omega⟩,getD_set_ne (by omega),Lp (by omega),List.set_set];unfold Pi
   by_cases hA:q.values.getD e.toNat 0<o.getD (i+1) 0
   ·rw [zAU hA,zAK,zAA ⟨by omega,by omega⟩,zAA hA]
   ·rw [zAI hA,zAC,zAY hA]
  simp only [B9];rw [e1,zAB,kT Af hi ho l _ fun e he=>h e (.tail _ he)];rfl
theorem Sm.i63 (hk:k<=16){x:Int}(h:Sm k x):0<=x/\ x<9223372036854775808:=by
 have h1:=Mg (k:=k) (zAa hk (by decide));obtain ⟨h2,h3⟩:=h;omega
theorem kU {n:Nat}{o4:List Int}(W:CI c k pos)(V:Ga q k): ∀ (m:Nat) (o:List Int),m<=c.cells.length -> o.length=c.cells.length+1 -> (∀ j,m<=j -> j<=c.cells.length -> o.getD j 0=Js q c pos j) ->
 ∃ o',B9 (Td n c q pos pos.length lost o4) (Vu c.cells m) (.s0 o)=some (.s0 o')/\ o'.length=c.cells.length+1/\ ∀ j,j<=c.cells.length -> o'.getD j 0=Js q c pos j
 | 0,o,_,ho,h=>⟨o,rfl,ho,fun j hj=>h j (zFo _) hj⟩
 | m+1,o,hm,ho,h=>by
  have hc:=W.cells m (by omega);have Cw:=W.at (a:=m) (by omega);have Af:=W.len;have t1:((((c.cells.length:Nat):Int)+1).toNat:Nat)=c.cells.length+1:=by omega
  have e1:Td n c q pos pos.length lost o4 ((m:Int),c.cells.getD m 0) (.s0 o)=some (.s0 (o.set m (Js q c pos m))):=by
   unfold Td kW Wr
   dsimp only
   simp only [zAP,t1,zBy];rw [zAA ⟨by omega,by omega,hc,Cw.i63 W.k⟩];refine (congrArg (fun z=>Option.bind z _) (kT Af (by omega) ho (Be (Ab c pos m)) (-1) fun e he=>(V.sym W.k Cw e he).1)).trans ?_;rw [zAB]
   have e2:Js q c pos m=(Be (Ab c pos m)).foldl (Pi q (o.getD (m+1) 0)) (-1):=by
    rw [h (m+1) (zBl _) hm];unfold Js;rw [show c.cells.length-m=c.cells.length-(m+1)+1 by omega];simp only [SN];rw [show c.cells.length-1-(c.cells.length-(m+1))=m by omega]
   rw [e2]
  obtain ⟨o',h1,h2,h3⟩:=kU W V m (o.set m (Js q c pos m)) (by omega) (by rw [zCG];exact ho) fun j hj Hg=>by
   by_cases e:m=j
   ·subst e;exact Lp (by omega)
   ·rw [getD_set_ne e];exact h j (by omega) Hg
  refine ⟨o',?_,h2,h3⟩;simp only [Vu,B9];rw [e1,zAB,h1]
theorem vi {n:Nat}{o4 o6:List Int}(W:CI c k pos)(V:Ga q k)(h4:o4.length=c.cells.length+1)(h6:o6.length=c.cells.length+1)(hb: ∀ j,j<=c.cells.length -> o4.getD j 0=Lu q c pos j)(ha: ∀ j,j<=c.cells.length -> o6.getD j 0=Js q c pos j)(hl:lost.length=pos.length)(hn:c.cells.length+1<=n):
 ∃ l,IT c q pos pos.length lost n (.l2 0 lost o4 o6)=some (true,l)/\ B5 c pos lost c.cells.length (fun a s=>J9 q c pos a s=true) l:=by
 have lt: ∀ i,i<c.cells.length -> ((i:Nat):Int)<((c.cells.length:Nat):Int):=fun i hi=>by omega
 have t1:((((c.cells.length:Nat):Int)+1).toNat:Nat)=c.cells.length+1:=by omega
 have Af:=W.len
 have T:=Hy (fun n (s:List Int) i=>IT c q pos pos.length lost n (.l2 i s o4 o6)) c.cells.length 1
  (fun i s=>B5 c pos lost i (fun a s=>J9 q c pos a s=true) s) (fun n i s Fw hi hI=>?_) (n:=n) (s:=lost) (by omega) (B5.zero hl)
 ·obtain ⟨n3,l,M8,_,e2,hL⟩:=T;obtain ⟨n4,rfl⟩: ∃ n4,n3=n4+1:=⟨n3-1,by omega⟩;refine ⟨l,e2.trans ?_,hL⟩
  show Ta n4 (IT c q pos pos.length lost n4) c q pos pos.length lost (c.cells.length:Int) l o4 o6=_
  unfold Ta;rw [zAI (by omega),zAC]
 ·have hc:=W.cells i hi;have hr:=W.r64 hi;have Cw:=W.at hi;have t2:(((i:Int)+1).toNat:Nat)=i+1:=by omega
  obtain ⟨l',e1,n1,f1⟩:=mU (n:=n) (q:=q) W hi hI.1 K5.s0 (Wv n c (i:Int) q pos pos.length o4 o6) (J9 q c pos i) fun s l hs hl=>by
   have GS:=V.len;have g1:(0:Int)<=(s:Int)/\ (s:Int)<((q.values.length:Nat):Int):=by omega
   have hk:=W.k;have g2:(0:Int)<=(s:Int)/\ (s:Int)<=((IntKind.i64.bits:Nat):Int):=⟨by omega,by show (s:Int)<=64;omega⟩;obtain ⟨l2,e2,_,_⟩:=LP (lost:=l) (n:=n) (ss:=IntKind.i64.wrap (1*2 ^ s)) (c:=c) (q:=q) hc.1 hc.2 hl;unfold J9 Wv ke Wu
   dsimp only
   simp only [zAP,t1,t2,zBy,h4,h6];rw [zAA ⟨g1,by omega,by omega⟩,hb i (by omega),ha (i+1) (by omega)];cases hA:decide (q.values.getD s 0<=Lu q c pos i)
   ·rw [zAC,zAA ⟨Aw.2 ⟨by omega,by omega⟩,by omega,by omega⟩,zFq];cases hB:decide (q.values.getD s 0>=Js q c pos (i+1))
    ·rfl
    ·rw [zAK,zAK,zAA g2,e2];rfl
   ·rw [zAK,Bool.true_or,zAK,zAA g2,e2];rfl
  show ∃ s',Ta n (IT c q pos pos.length lost n) c q pos pos.length lost (i:Int) s o4 o6=_/\ _
  unfold Ta;rw [zAU (lt i hi),zAK];simp only [zAP];rw [zAA ⟨⟨by omega,lt i hi⟩,hc,Cw.i63 W.k⟩];refine ⟨l',?_,hI.step n1 f1⟩;refine (congrArg (fun z=>Option.bind z _) e1).trans ?_;rw [zAB];simp only;rw [zAA hr.2]
theorem vj {n:Nat}(W:CI c k pos)(V:Ga q k)(hl:lost.length=pos.length)(hn:2*c.cells.length+3<=n):
 ∃ l,Mc n c q pos pos.length lost=some (true,l)/\ B5 c pos lost c.cells.length (fun a s=>J9 q c pos a s=true) l:=by
 have lt: ∀ i,i<c.cells.length -> ((i:Nat):Int)<((c.cells.length:Nat):Int):=fun i hi=>by omega
 have t1:((((c.cells.length:Nat):Int)+1).toNat:Nat)=c.cells.length+1:=by omega
 have Af:=W.len
 have S:=Hy (fun n (s:List Int) i=>IT c q pos pos.length lost n (.l1 i s)) c.cells.length (c.cells.length+3)
  (fun i s=>s.length=c.cells.length+1/\ ∀ j,j<=i -> s.getD j 0=Lu q c pos j) (fun n i s _ hi hI=>?_) (n:=n) (s:=(List.replicate (c.cells.length+1) (0:Int)).set 0 (-1)) (by omega) ⟨by simp,fun j hj=>?_⟩
 ·obtain ⟨n1,o4,HD,_,e1,h4,hb⟩:=S;obtain ⟨n2,rfl⟩: ∃ n2,n1=n2+1:=⟨n1-1,by omega⟩
  have e0:Mc n c q pos pos.length lost=IT c q pos pos.length lost n (.l1 0 ((List.replicate (c.cells.length+1) (0:Int)).set 0 (-1))):=by
   unfold Mc kV;simp only [t1,zBy,zB1];rw [zAA ⟨Aw.2 ⟨by omega,by omega⟩,⟨trivial,by omega,by omega⟩,⟨by omega,by omega⟩,by omega,⟨by omega,by omega⟩,by omega⟩]
  have e2:Mc n c q pos pos.length lost=Tb n2 (IT c q pos pos.length lost n2) c q pos pos.length lost (c.cells.length:Int) o4:=e0.trans e1;unfold Tb at e2;rw [zAI (by omega),zAC,zEn (zAa Af (by decide)) (by omega),zAB] at e2;simp only [t1,zBy] at e2
  obtain ⟨o6,e3,h6,ha⟩:=kU (lost:=lost) (n:=n2) (o4:=o4) W V c.cells.length ((List.replicate (c.cells.length+1) (0:Int)).set c.cells.length 100) (zBl _) (by simp) fun j hj Hg=>by
   obtain rfl:j=c.cells.length:=by omega
   rw [Lp (by simp)];unfold Js;rw [Nat.sub_self];rfl
  rw [e3,zAB] at e2;obtain ⟨l,e4,hL⟩:=vi (n:=n2) W V h4 h6 (fun j hj=>hb j hj) ha hl (by omega);exact ⟨l,e2.trans e4,hL⟩
 ·obtain ⟨h4,hb⟩:=hI;have hc:=W.cells i hi;have hr:=W.r64 hi;have Cw:=W.at hi;have t2:(((i:Int)+1).toNat:Nat)=i+1:=by omega
  show ∃ s',Tb n (IT c q pos pos.length lost n) c q pos pos.length lost (i:Int) s=_/\ _
  unfold Tb;rw [zAU (lt i hi),zAK];simp only [zAP,t1,t2,zBy];rw [zAA ⟨⟨by omega,lt i hi⟩,hr.2,by omega,by omega,hc,Cw.i63 W.k⟩];refine ⟨s.set (i+1) (Lu q c pos (i+1)),?_,by rw [zCG];exact h4,fun j hj=>?_⟩
  ·refine (congrArg (fun z=>Option.bind z _) (kS Af hi h4 (Be (Ab c pos i)) 100 fun e he=>(V.sym W.k Cw e he).1)).trans ?_;rw [zAB];simp only;rw [zAA hr.2,hb i (zBl _)];rfl
  ·by_cases e:i+1=j
   ·subst e;exact Lp (by omega)
   ·rw [getD_set_ne e];exact hb j (by omega)
 ·obtain rfl:j=0:=by omega
  rw [Lp (by simp)];rfl
end
section
variable {k:Nat}
theorem lO {T1 T2:Type}(LN:List Int -> Int -> Int -> T1)(Qu:List Int -> Int -> Int -> T2)(f1:Int -> Int -> T1 -> Option T1)(f2:Int -> T2 -> Option T2)(ok:Nat -> Nat -> Bool){a b:Int}(ha:Sm k a)(hb:Sm k b)(hk:k<=16) 
 (h1: ∀ (s t:Nat) (l:List Int) (x y:Int),s<k -> t<k -> f1 s t (LN l x y)=some (bif ok s t then LN l (bits .or .i64 x (IntKind.i64.wrap (1*2 ^ s))) (bits .or .i64 y (IntKind.i64.wrap (1*2 ^ t))) else LN l x y))
 (h2: ∀ (s:Nat) (l:List Int) (x y x' y':Int),s<k -> B9 (f1 s) (Be b) (LN l x y)=some (LN l x' y') -> f2 s (Qu l x y)=some (Qu l x' y')) (l:List Int):
 ∃ x y,B9 f2 (Be a) (Qu l 0 0)=some (Qu l x y)/\ (∀ u,tb x u=true↔tb a u=true/\ ∃ t,tb b t=true/\ ok u t=true)/\ (∀ u,tb y u=true↔tb b u=true/\ ∃ s,tb a s=true/\ ok s u=true):=by
 have KV:k<=62:=zAa hk (by decide)
 have zO: ∀ (s:Nat) (x y:Int),s<k -> ∃ x' y',B9 (f1 s) (Be b) (LN l x y)=some (LN l x' y')/\ (∀ u,tb x' u=true↔tb x u=true∨(u=s/\ ∃ t,tb b t=true/\ ok s t=true))/\ (∀ u,tb y' u=true↔tb y u=true∨(tb b u=true/\ ok s u=true)):=by
  intro s x y hs
  have key:=Yq (f:=f1 s) (fun pre st=>∃ x' y',st=LN l x' y'/\ (∀ u,tb x' u=true↔tb x u=true∨(u=s/\ ∃ t:Nat,(t:Int)∈pre/\ ok s t=true))/\ (∀ u:Nat,tb y' u=true↔tb y u=true∨((u:Int)∈pre/\ ok s u=true)))
   (Be b) [] (LN l x y) ⟨x,y,rfl,fun u=>⟨.inl,fun h=>h.elim id fun ⟨_,t,h,_⟩=>(by cases h)⟩,fun u=>⟨.inl,fun h=>h.elim id fun ⟨h,_⟩=>(by cases h)⟩⟩ ?_
  ·obtain ⟨st,e,x',y',rfl,hx,hy⟩:=key;refine ⟨x',y',e,fun u=>?_,fun u=>?_⟩
   ·rw [hx,zFe];constructor
    ·rintro (h | ⟨e1,t,h,h3⟩)
     ·exact .inl h
     ·obtain ⟨t',e2,_,h4⟩:=(G5 hb KV).1 h;have:t=t':=by omega
      subst this;exact .inr ⟨e1,t,h4,h3⟩
    ·rintro (h | ⟨e1,t,h,h3⟩)
     ·exact .inl h
     ·exact .inr ⟨e1,t,(G5 hb KV).2 ⟨t,rfl,zCi fun B2=>(by rw [hb.hi B2] at h;cases h),h⟩,h3⟩
   ·rw [hy,zFe];constructor
    ·rintro (h | ⟨h,h3⟩)
     ·exact .inl h
     ·obtain ⟨t',e2,_,h4⟩:=(G5 hb KV).1 h;have:u=t':=by omega
      subst this;exact .inr ⟨h4,h3⟩
    ·rintro (h | ⟨h,h3⟩)
     ·exact .inl h
     ·exact .inr ⟨(G5 hb KV).2 ⟨u,rfl,zCi fun B2=>(by rw [hb.hi B2] at h;cases h),h⟩,h3⟩
  ·rintro pre e _ he ⟨x',y',rfl,hx,hy⟩;obtain ⟨t,rfl,ht,_⟩:=(G5 hb KV).1 he;rw [h1 s t l x' y' hs ht];cases ho:ok s t
   ·rw [zAC];refine ⟨_,rfl,x',y',rfl,fun u=>?_,fun u=>?_⟩
    ·rw [hx];constructor
     ·rintro (h | ⟨e1,t',h,h3⟩)
      ·exact .inl h
      ·exact .inr ⟨e1,t',zCT _ h,h3⟩
     ·rintro (h | ⟨e1,t',h,h3⟩)
      ·exact .inl h
      ·rcases zB3.1 h with h | h
       ·exact .inr ⟨e1,t',h,h3⟩
       ·have:t'=t:=by have:=zBv.1 h;omega
        subst this;rw [ho] at h3;cases h3
    ·rw [hy];constructor
     ·rintro (h | ⟨h,h3⟩)
      ·exact .inl h
      ·exact .inr ⟨zCT _ h,h3⟩
     ·rintro (h | ⟨h,h3⟩)
      ·exact .inl h
      ·rcases zB3.1 h with h | h
       ·exact .inr ⟨h,h3⟩
       ·have:u=t:=by have:=zBv.1 h;omega
        subst this;rw [ho] at h3;cases h3
   ·rw [zAK];refine ⟨_,rfl,_,_,rfl,fun u=>?_,fun u=>?_⟩
    ·rw [Nu,zCL,hx,QT (by omega),zBq];constructor
     ·rintro ((h | ⟨e1,t',h,h3⟩) | rfl)
      ·exact .inl h
      ·exact .inr ⟨e1,t',zCT _ h,h3⟩
      ·exact .inr ⟨rfl,t,zCh _ (.head _),ho⟩
     ·rintro (h | ⟨e1,t',h,h3⟩)
      ·exact .inl (.inl h)
      ·exact .inr e1.symm
    ·rw [Nu,zCL,hy,QT (by omega),zBq];constructor
     ·rintro ((h | ⟨h,h3⟩) | rfl)
      ·exact .inl h
      ·exact .inr ⟨zCT _ h,h3⟩
      ·exact .inr ⟨zCh _ (.head _),ho⟩
     ·rintro (h | ⟨h,h3⟩)
      ·exact .inl (.inl h)
      ·rcases zB3.1 h with h | h
       ·exact .inl (.inr ⟨h,h3⟩)
       ·exact .inr (by have:=zBv.1 h;omega)
 have key:=Yq (f:=f2) (fun pre st=>∃ x y,st=Qu l x y/\ (∀ u:Nat,tb x u=true↔(u:Int)∈pre/\ ∃ t,tb b t=true/\ ok u t=true)/\ (∀ u,tb y u=true↔tb b u=true/\ ∃ s:Nat,(s:Int)∈pre/\ ok s u=true))
  (Be a) [] (Qu l 0 0) ⟨0,0,rfl,fun u=>⟨fun h=>absurd h IK,fun ⟨h,_⟩=>(by cases h)⟩,fun u=>⟨fun h=>absurd h IK,fun ⟨_,s,h,_⟩=>(by cases h)⟩⟩ ?_
 ·obtain ⟨st,e,x,y,rfl,hx,hy⟩:=key;refine ⟨x,y,e,fun u=>?_,fun u=>?_⟩
  ·rw [hx,zFe];constructor
   ·rintro ⟨h,h2⟩;obtain ⟨t',e2,_,h4⟩:=(G5 ha KV).1 h;have:u=t':=by omega
    subst this;exact ⟨h4,h2⟩
   ·rintro ⟨h,h2⟩;exact ⟨(G5 ha KV).2 ⟨u,rfl,zCi fun B2=>(by rw [ha.hi B2] at h;cases h),h⟩,h2⟩
  ·rw [hy,zFe];constructor
   ·rintro ⟨h0,s,h,h3⟩;obtain ⟨t',e2,_,h4⟩:=(G5 ha KV).1 h;have:s=t':=by omega
    subst this;exact ⟨h0,s,h4,h3⟩
   ·rintro ⟨h0,s,h,h3⟩;exact ⟨h0,s,(G5 ha KV).2 ⟨s,rfl,zCi fun B2=>(by rw [ha.hi B2] at h;cases h),h⟩,h3⟩
 ·rintro pre e _ he ⟨x,y,rfl,hx,hy⟩;obtain ⟨s,rfl,hs,_⟩:=(G5 ha KV).1 he;obtain ⟨x',y',e1,Mv,zr⟩:=zO s x y hs;refine ⟨_,h2 s l x y x' y' hs e1,x',y',rfl,fun u=>?_,fun u=>?_⟩
  ·rw [Mv,hx];constructor
   ·rintro (⟨h,h2⟩ | ⟨rfl,h2⟩)
    ·exact ⟨zCT _ h,h2⟩
    ·exact ⟨zCh _ (.head _),h2⟩
   ·rintro ⟨h,h2⟩;rcases zB3.1 h with h | h
    ·exact .inl ⟨h,h2⟩
    ·have:u=s:=by have:=zBv.1 h;omega
     subst this;exact .inr ⟨rfl,h2⟩
  ·rw [zr,hy];constructor
   ·rintro (⟨h,s',h2,h3⟩ | ⟨h,h2⟩)
    ·exact ⟨h,s',zCT _ h2,h3⟩
    ·exact ⟨h,s,zCh _ (.head _),h2⟩
   ·rintro ⟨h,s',h2,h3⟩;rcases zB3.1 h2 with h2 | h2
    ·exact .inl ⟨h,s',h2,h3⟩
    ·have:s'=s:=by have:=zBv.1 h2;omega
     subst this;exact .inr ⟨h,h3⟩
end
theorem ZL {s:Nat}(hs:s<64)(x:Int):(bits .and .i64 (IntKind.i64.wrap (1*2 ^ s)) x==0)= !tb x s:=by
 rw [zFk,zCR,Nv (HO _ _ _)];constructor
 ·intro h;have:=h s hs;rw [J3,QT hs,zAU rfl,zCj] at this;rw [this];rfl
 ·intro h i hi;rw [J3,QT hs]
  by_cases e:s=i
  ·subst e;rw [zAU rfl,zCj];cases hx:tb x s
   ·rfl
   ·rw [hx] at h;cases h
  ·rw [zAI e,zFu]
def Ob (q:AA)(c:AB)(s t:Nat):Bool:=decide ((if 0-(q.values.getD s 0-q.values.getD t 0)>q.values.getD s 0-q.values.getD t 0 then 0-(q.values.getD s 0-q.values.getD t 0) else q.values.getD s 0-q.values.getD t 0)>=c.lo)
def Mk (c:AB)(s t:Nat):Bool:=(!tb c.set s|| !tb c.other t)&&(!tb c.set t|| !tb c.other s)
def Hb (ok:Nat -> Nat -> Bool)(c:AB)(pos:List Int)(a s:Nat):Prop:= if a=0 then ¬ ∃ t,tb (Ab c pos 1) t=true/\ ok s t=true else ¬ ∃ t,tb (Ab c pos 0) t=true/\ ok t s=true
section
variable {c:AB} {k:Nat} {pos lost:List Int} {q:AA}
theorem zE2 {n ln:Nat}(V:Ga q k){s t:Nat}(hs:s<k)(ht:t<k):ZS n s t c q pos ln lost=some (Ob q c s t,lost):=by
 have h1:=V.val s hs;have h2:=V.val t ht;have h3:=V.len;unfold ZS qj;simp only [zAP];rw [zAA ⟨by omega,by omega,Aw.2 ⟨by omega,by omega⟩,Aw.2 ⟨by omega,by omega⟩⟩];rfl
theorem xd {n ln:Nat}{s t:Nat}(hs:s<64)(ht:t<64):Xd n s t c q pos ln lost=some (Mk c s t,lost):=by
 have g: ∀ s:Nat,s<64 -> (0:Int)<=(s:Int)/\ (s:Int)<=((IntKind.i64.bits:Nat):Int):=fun s hs=>⟨by omega,by show (s:Int)<=64;omega⟩
 unfold Xd ly;simp only [zAP];rw [zAA ⟨g s hs,g t ht⟩,ZL hs,ZL hs,ZL ht,ZL ht];unfold Mk;cases tb c.set s <;> cases tb c.set t <;> cases tb c.other s <;> cases tb c.other t <;> rfl
theorem lP {n:Nat}(W:CI c k pos)(h2:c.cells.length=2)(hl:lost.length=pos.length)(ok:Nat -> Nat -> Bool){x y:Int} 
 (hx: ∀ u,tb x u=true↔tb (Ab c pos 0) u=true/\ ∃ t,tb (Ab c pos 1) t=true/\ ok u t=true) (hy: ∀ u,tb y u=true↔tb (Ab c pos 1) u=true/\ ∃ s,tb (Ab c pos 0) s=true/\ ok s u=true):
 ∃ l1 l,Dn n (c.cells.getD 0 0) (bits .xor .i64 (-1) x) c q pos pos.length lost=some l1/\ Dn n (c.cells.getD 1 0) (bits .xor .i64 (-1) y) c q pos pos.length l1=some l/\ B5 c pos lost c.cells.length (Hb ok c pos) l:=by
 have c0:=W.cells 0 (by omega);have c1:=W.cells 1 (by omega);obtain ⟨l1,e1,n1,f1⟩:=LP (lost:=lost) (n:=n) (ss:=bits .xor .i64 (-1) x) (c:=c) (q:=q) c0.1 c0.2 hl;obtain ⟨l,e2,n2,f2⟩:=LP (lost:=l1) (n:=n) (ss:=bits .xor .i64 (-1) y) (c:=c) (q:=q) c1.1 c1.2 n1;refine ⟨l1,l,e1,e2,?_⟩;have lt: ∀ {a:Nat} {s:Nat},a<c.cells.length -> tb (Ab c pos a) s=true -> s<64:=fun {a s} ha h=>zCi fun B2=>by rw [JA B2] at h;cases h
 rw [h2];refine B5.step (i:=1) (l:=l1) (B5.step (i:=0) (l:=lost) (B5.zero hl) n1 fun j s=>?_) n2 fun j s=>?_
 ·rw [f1,zCL,zAO,zAO,zBq];constructor
  ·rintro (h | ⟨rfl,h3,h4⟩)
   ·exact .inl h
   ·refine .inr ⟨rfl,h3,?_⟩;rw [WN _ (lt (a:=0) (by omega) h3)] at h4;unfold Hb;rw [zAA rfl];intro h5;rw [(hx s).2 ⟨h3,h5⟩] at h4;cases h4
  ·rintro (h | ⟨rfl,h3,h4⟩)
   ·exact .inl h
   ·refine .inr ⟨rfl,h3,?_⟩;rw [WN _ (lt (a:=0) (by omega) h3)];unfold Hb at h4;rw [zAA rfl] at h4;cases hb:tb x s
    ·rfl
    ·exact absurd ((hx s).1 hb).2 h4
 ·rw [f2,zCL,zAO,zAO,zBq];constructor
  ·rintro (h | ⟨rfl,h3,h4⟩)
   ·exact .inl h
   ·refine .inr ⟨rfl,h3,?_⟩;rw [WN _ (lt (a:=1) (by omega) h3)] at h4;unfold Hb;rw [zAY (by decide)];intro h5;rw [(hy s).2 ⟨h3,h5⟩] at h4;cases h4
  ·rintro (h | ⟨rfl,h3,h4⟩)
   ·exact .inl h
   ·refine .inr ⟨rfl,h3,?_⟩;rw [WN _ (lt (a:=1) (by omega) h3)];unfold Hb at h4;rw [zAY (by decide)] at h4;cases hb:tb y s
    ·rfl
    ·exact absurd ((hy s).1 hb).2 h4
theorem zE3 {n:Nat}(W:CI c k pos)(V:Ga q k)(h2:c.cells.length=2)(hl:lost.length=pos.length):
 ∃ l,Pw n c q pos pos.length lost=some (true,l)/\ B5 c pos lost c.cells.length (Hb (Ob q c) c pos) l:=by
 have c0:=W.cells 0 (by omega);have c1:=W.cells 1 (by omega);have s0:=W.at (a:=0) (by omega);have s1:=W.at (a:=1) (by omega);have hk:=W.k;have g: ∀ s:Nat,s<k -> (0:Int)<=(s:Int)/\ (s:Int)<=((IntKind.i64.bits:Nat):Int):=fun s hs=>⟨by omega,by show (s:Int)<=64;omega⟩
 obtain ⟨x,y,e,hx,hy⟩:=lO LH.s0 LI.s0 (XN n c q pos pos.length) (XO n c q pos pos.length) (Ob q c) s0 s1 hk
  (fun s t l x y hs ht=>by
   unfold XN lX XM
   dsimp only
   rw [zE2 V hs ht,zAB];cases Ob q c s t
   ·rfl
   ·simp only [zAK,zAP];rw [zAA ⟨g s hs,g t ht⟩])
  (fun s l x y x' y' hs he=>by
   unfold XO lW XL
   dsimp only
   rw [zAA (show 0<=pos.getD (c.cells.getD 1 0).toNat 0/\ pos.getD (c.cells.getD 1 0).toNat 0<9223372036854775808 from s1.i63 hk)];refine (congrArg (fun z=>Option.bind z _) he).trans ?_;rfl) lost
 obtain ⟨l1,l,e1,e2,hL⟩:=lP (n:=n) (q:=q) W h2 hl (Ob q c) hx hy;refine ⟨l,?_,hL⟩;unfold Pw fh aw lV;rw [zAA ⟨by omega,by omega,c0,c1,s0.i63 hk⟩];refine (congrArg (fun z=>Option.bind (Option.bind z _) _) e).trans ?_;rw [zAB];simp only;rw [e1,zAB,e2];rfl
theorem xe {n:Nat}(W:CI c k pos)(h2:c.cells.length=2)(hl:lost.length=pos.length):
 ∃ l,Od n c q pos pos.length lost=some (true,l)/\ B5 c pos lost c.cells.length (Hb (Mk c) c pos) l:=by
 have c0:=W.cells 0 (by omega);have c1:=W.cells 1 (by omega);have s0:=W.at (a:=0) (by omega);have s1:=W.at (a:=1) (by omega);have hk:=W.k;have g: ∀ s:Nat,s<k -> (0:Int)<=(s:Int)/\ (s:Int)<=((IntKind.i64.bits:Nat):Int):=fun s hs=>⟨by omega,by show (s:Int)<=64;omega⟩
 obtain ⟨x,y,e,hx,hy⟩:=lO LF.s0 LG.s0 (XJ n c q pos pos.length) (XK n c q pos pos.length) (Mk c) s0 s1 hk
  (fun s t l x y hs ht=>by
   unfold XJ lS XI
   dsimp only
   rw [xd (by omega) (by omega),zAB];cases Mk c s t
   ·rfl
   ·simp only [zAK,zAP];rw [zAA ⟨g s hs,g t ht⟩])
  (fun s l x y x' y' hs he=>by
   unfold XK lR XH
   dsimp only
   rw [zAA (show 0<=pos.getD (c.cells.getD 1 0).toNat 0/\ pos.getD (c.cells.getD 1 0).toNat 0<9223372036854775808 from s1.i63 hk)];refine (congrArg (fun z=>Option.bind z _) he).trans ?_;rfl) lost
 obtain ⟨l1,l,e1,e2,hL⟩:=lP (n:=n) (q:=q) W h2 hl (Mk c) hx hy;refine ⟨l,?_,hL⟩;unfold Od bL av lQ;rw [zAA ⟨by omega,by omega,c0,c1,s0.i63 hk⟩];refine (congrArg (fun z=>Option.bind (Option.bind z _) _) e).trans ?_;rw [zAB];simp only;rw [e1,zAB,e2];rfl
end
set_option maxRecDepth 100000
set_option maxHeartbeats 40000000
def iv:ST:=.rd 0 (.rd 1 (.rd 2 (.rd 3 (.rd 4 (.rd 6 (.rd 7 (.rd 8 (.rd 9 (.rd 10 (.ef 5 (.rd 12 (.ef 11 (.rd 13 (.fin [0,1] [0,2,3])) (.no))) (.ef 11 (.ef 5 (.rd 12 (.rd 13 (.fin [1,0] [0,2,3]))) (.no)) (.no))))))))))))
theorem ug:Bs (A4 Tryz.f130 1) [5,11] iv:=by unfold Bs;kernel_rfl
def iu:ST:=.rd 0 (.rd 1 (.rd 2 (.rd 3 (.rd 4 (.rd 5 (.rd 6 (.rd 7 (.rd 8 (.rd 9 (.rd 10 (.rd 11 (.rd 12 (.rd 13 (.rd 14 (.rd 15 (.rd 16 (.rd 17 (.rd 18 (.rd 19 (.rd 20 (.rd 21 (.rd 22 (.rd 23 (.rd 24 (.rd 25 (.rd 26 (.rd 27 (.rd 28 (.rd 29 (.rd 30 (.rd 31 (.rd 32 (.ef 33 (.rd 34 (.ef 35 (.fin [] [0,2,3,30,31,32]) (.no))) (.no))))))))))))))))))))))))))))))))))
theorem uf:Bs (A4 Tryz.f130 5) [33] iu:=by unfold Bs;kernel_rfl
def J6:Bi:=fun i=>match i with
 | 1=>.tre [5,11] iv
 | 5=>.tre [33] iu
 | _=>.no
def Zw (pos:List Int)(c:AB)(q:AA)(ln:Nat)(lost:List Int):St:=⟨(AF 120 [(0,.ref 0 0),(2,.msl 2 1 0 pos.length),(3,.msl 3 1 0 pos.length)]),([oW c q pos 1 ln,oI lost,some (.bools (List.replicate pos.length false)),some (.bools (List.replicate pos.length false))]:DH)⟩
def iQ (pos:List Int)(c:AB)(DS:Int)(q:AA)(ln:Nat)(lost:List Int)(o2 o3:List Bool):St:=⟨(AF 120 [(0,.ref 0 0),(2,.msl 2 1 0 pos.length),(3,.msl 3 1 0 pos.length),(30,.ints c.cells),(31,.i (c.cells.length:Int)),(32,.i DS)]),([oW c q pos 1 ln,oI lost,some (.bools (o2.set (0+((c.cells.getD ((DS).toNat) 0).toNat)) ((bits .and .i64 (pos.getD ((c.cells.getD ((DS).toNat) 0).toNat) 0) c.set) != 0))),some (.bools (o3.set (0+((c.cells.getD ((DS).toNat) 0).toNat)) ((bits .andNot .i64 (pos.getD ((c.cells.getD ((DS).toNat) 0).toNat) 0) c.set)==0)))]:DH)⟩
def nZ (c:AB)(q:AA)(pos:List Int)(ln:Nat)(lost:List Int)(o2 o3:List Bool):DH:=[oW c q pos 1 ln,oI lost,some (.bools o2),some (.bools o3)]
def nY (c:AB)(q:AA)(pos:List Int)(ln:Nat)(lost:List Int)(o3:List Bool)(y2:(List Bool)):DH:=[oW c q pos 1 ln,oI lost,none,some (.bools o3),some (.bools y2)]
inductive Qr where
 | l1 (DS:Int) (o2 o3:List Bool)
 | l2 (FS:List Bool) (x8:Nat) (IF:List Int) (MB Gf:Int) (o2 o3:List Bool)
 | l3 (FS:List Bool) (x8:Nat) (Kt Dh:Int) (o1:List Int) (o2 o3:List Bool)
def UE (n:Nat)(self:Qr -> Option ((List Bool)×(List Bool)×Bool×(List Int)))(c:AB)(q:AA)(pos:List Int)(ln:Nat)(lost:List Int)(DS:Int)(o2 o3:List Bool):Option ((List Bool)×(List Bool)×Bool×(List Int)):= bif (decide (DS<(c.cells.length:Int))) then if (0<=DS/\ DS<(c.cells.length:Int))/\ (0<=(c.cells.getD ((DS).toNat) 0)/\ (c.cells.getD ((DS).toNat) 0)<(pos.length:Int))/\ 0+((c.cells.getD ((DS).toNat) 0).toNat)<o2.length/\ 0+((c.cells.getD ((DS).toNat) 0).toNat)<o3.length/\ AH (DS+1) then self (.l1 (DS+1) (o2.set (0+((c.cells.getD ((DS).toNat) 0).toNat)) ((bits .and .i64 (pos.getD ((c.cells.getD ((DS).toNat) 0).toNat) 0) c.set) != 0)) (o3.set (0+((c.cells.getD ((DS).toNat) 0).toNat)) ((bits .andNot .i64 (pos.getD ((c.cells.getD ((DS).toNat) 0).toNat) 0) c.set)==0))) else none else if pos.length=o3.length then (YA n o3 true).bind fun y1=> bif (decide (y1<0)) then if pos.length=o2.length then some (o2,o3,false,lost) else none else if pos.length=o2.length then (Pj n o2).bind fun y2=> (Rv n q.nbrs o2 y1).bind fun y3=> self (.l2 o2 y2.length y3.1 (y3.1.length:Int) 0 o3 y2) else none else none
def UD (n:Nat)(self:Qr -> Option ((List Bool)×(List Bool)×Bool×(List Int)))(c:AB)(q:AA)(pos:List Int)(ln:Nat)(lost:List Int)(FS:List Bool)(x8:Nat)(IF:List Int)(MB Gf:Int)(o2 o3:List Bool):Option ((List Bool)×(List Bool)×Bool×(List Int)):= bif (decide (Gf<MB)) then if (0<=Gf/\ Gf<(IF.length:Int))/\ (0<=(IF.getD ((Gf).toNat) 0)/\ (IF.getD ((Gf).toNat) 0)<(x8:Int))/\ 0+((IF.getD ((Gf).toNat) 0).toNat)<o3.length/\ AH (Gf+1) then self (.l2 FS x8 IF MB (Gf+1) o2 (o3.set (0+((IF.getD ((Gf).toNat) 0).toNat)) false)) else none else self (.l3 FS x8 (x8:Int) 0 lost o2 o3)
def UC (n:Nat)(self:Qr -> Option ((List Bool)×(List Bool)×Bool×(List Int)))(c:AB)(q:AA)(pos:List Int)(ln:Nat)(lost:List Int)(FS:List Bool)(x8:Nat)(Kt Dh:Int)(o1:List Int)(o2 o3:List Bool):Option ((List Bool)×(List Bool)×Bool×(List Int)):= bif (decide (Dh<Kt)) then if (0<=Dh/\ Dh<(x8:Int))/\ 0+((Dh).toNat)<o3.length then bif (o3.getD (0+((Dh).toNat)) false) then (Dn n Dh c.set c q pos ln o1).bind fun y1=> if AH (Dh+1) then self (.l3 FS x8 Kt (Dh+1) y1 o2 o3) else none else if AH (Dh+1) then self (.l3 FS x8 Kt (Dh+1) o1 o2 o3) else none else none else if pos.length=o2.length then some (FS,o2,true,o1) else none
def mB (n:Nat)(self:Qr -> Option ((List Bool)×(List Bool)×Bool×(List Int)))(c:AB)(q:AA)(pos:List Int)(ln:Nat)(lost:List Int):Option ((List Bool)×(List Bool)×Bool×(List Int)):= if ((pos.length:Int):Int)=(pos.length:Int)/\ 0<=(pos.length:Int)/\ ((pos.length:Int):Int)<=1000000000000 then self (.l1 0 (List.replicate pos.length false) (List.replicate pos.length false)) else none
def E7 (c:AB)(q:AA)(pos:List Int)(ln:Nat)(lost:List Int):Nat -> Qr -> Option ((List Bool)×(List Bool)×Bool×(List Int))
 | 0,_=>none
 | n+1,.l1 DS o2 o3=>UE n (E7 c q pos ln lost n) c q pos ln lost DS o2 o3
 | n+1,.l2 FS x8 IF MB Gf o2 o3=>UD n (E7 c q pos ln lost n) c q pos ln lost FS x8 IF MB Gf o2 o3
 | n+1,.l3 FS x8 Kt Dh o1 o2 o3=>UC n (E7 c q pos ln lost n) c q pos ln lost FS x8 Kt Dh o1 o2 o3
def Of (n:Nat)(c:AB)(q:AA)(pos:List Int)(ln:Nat)(lost:List Int):Option ((List Bool)×(List Bool)×Bool×(List Int)):=mB n (E7 c q pos ln lost n) c q pos ln lost
def xq (n B:Nat)(N:Yd 2)(c:AB)(q:AA)(pos:List Int)(ln:Nat)(lost:List Int)(r:(List Bool)×(List Bool)×Bool×(List Int)):Qr -> Prop
 | .l1 DS o2 o3=>∀ m0:Nat,n<=m0 -> TW B N (FQ Tryz.f130 2 (.tup 3 (L1 [.bools r.1,.bools r.2.1,.bool r.2.2.1])) [oW c q pos 1 ln,oI r.2.2.2]) (Ax m0 (A7 (AY Tryz.f130) 0 [])) ⟨AF 120 [(0,.ref 0 0),(2,.msl 2 1 0 pos.length),(3,.msl 3 1 0 pos.length),(30,.ints c.cells),(31,.i (c.cells.length:Int)),(32,.i DS)],[oW c q pos 1 ln,oI lost,some (.bools o2),some (.bools o3)]⟩
 | .l2 FS x8 IF MB Gf o2 o3=>∀ m0:Nat,n<=m0 -> TW B N (FQ Tryz.f130 2 (.tup 3 (L1 [.bools r.1,.bools r.2.1,.bool r.2.2.1])) [oW c q pos 1 ln,oI r.2.2.2]) (Ax m0 (A7 (AY Tryz.f130) 2 [])) ⟨AF 120 [(0,.ref 0 0),(2,.bools FS),(3,.msl 2 1 0 pos.length),(8,.msl 3 1 0 x8),(90,.ints IF),(91,.i MB),(92,.i Gf)],[oW c q pos 1 ln,oI lost,some (.bools o2),some (.bools o3)]⟩
 | .l3 FS x8 Kt Dh o1 o2 o3=>∀ m0:Nat,n<=m0 -> TW B N (FQ Tryz.f130 2 (.tup 3 (L1 [.bools r.1,.bools r.2.1,.bool r.2.2.1])) [oW c q pos 1 ln,oI r.2.2.2]) (Ax m0 (A7 (AY Tryz.f130) 4 [])) ⟨AF 120 [(0,.ref 0 0),(2,.bools FS),(3,.msl 2 1 0 pos.length),(8,.msl 3 1 0 x8),(101,.i Kt),(102,.i Dh)],[oW c q pos 1 ln,oI o1,some (.bools o2),some (.bools o3)]⟩
theorem xr (B:Nat)(N:Yd 2)(c:AB)(q:AA)(pos:List Int)(ln:Nat)(lost:List Int):Al (E7 c q pos ln lost) (xq · B N c q pos ln lost):=ia (fun _=>rfl) fun n AJ pt r h=>by
 cases pt
 case l1 DS o2 o3=>
  intro m0 AC;refine rd AC fun m0 AC=>?_
  revert r;apply gO
  exact bi 33 (gc (gi (jg uf (gc (gn fun g1=>jg g1 (jg g1 (jg g1 (gc (gi (jg g1 (gc (gi (jg (Eq.refl (iQ pos c DS q ln lost o2 o3)) (gw 70 (lG (tg:=[([(33,2)],(iQ pos c DS q ln lost o2 o3))]) J6 [0,1,2,3] (AJ _ _ · m0 AC)))))))))))))))) (gn fun g0=>cn fun y1 Au=>jc (sb [.msl 3 1 0 pos.length,.bool true] (zh Au) (nZ c q pos ln lost o2 o3) ⟨Aq.bools rfl g0,Aq.plain (by kernel_rfl),trivial⟩) (bi 74 (gn fun g1=>lF fun p=>ez J6 [2,3,4] [0,1,2,3] p [2,3] (H0.g g1 |>.g g0)) (gn fun g1=>cn fun y2 Cd=>jc (ES.snapNew (ds:=[.msl 2 1 0 pos.length]) (pq Cd) (nZ c q pos ln lost o2 o3) ⟨Aq.bools rfl g1,trivial⟩ rfl) (fun p r h=>by
   refine gz (AX 11 J6) [0,1,2,3,4] p [2] (H0.g g1) (EU (AY Tryz.f130) 11 []) (AF 120 [(0,.ref 0 0),(2,.bools o2),(3,.msl 3 1 0 pos.length),(7,.i y1),(8,.msl 4 1 0 y2.length)]) (nY c q pos ln lost o3 y2) ?_;revert r;apply gO;exact cf zED (nY c q pos ln lost o3 y2) fun _=>lN J6 [0,1,3,4] (AJ _ _ · n Nat.le.refl)))))
 case l2 FS x8 IF MB Gf o2 o3=>
  intro m0 AC;refine rd AC fun m0 AC=>?_
  revert r;apply gO;exact bi 93 (gc (gi (gc (gi (gc (gi (gw 99 (lG J6 [0,1,2,3] (AJ _ _ · m0 AC))))))))) (lN J6 [0,1,2,3] (AJ _ _ · n Nat.le.refl))
 case l3 FS x8 Kt Dh o1 o2 o3=>
  intro m0 AC;refine rd AC fun m0 AC=>?_
  revert r;apply gO;exact bi 103 (gc (gi (gi (bi 108 (ce GN [0,1] [oW c q pos 1 ln,oI o1,some (.bools o2),some (.bools o3)] fun _=>gw 117 (lG J6 [0,1,2,3] (AJ _ _ · m0 AC))) (gw 117 (lG J6 [0,1,2,3] (AJ _ _ · m0 AC))))))) (gn fun g0=>lF fun p=>ez J6 [2,3,4] [0,1,2] p [2] (H0.g g0))
theorem mA {n:Nat}{c:AB}{q:AA}{pos:List Int}{ln:Nat}{lost:List Int}{r:(List Bool)×(List Bool)×Bool×(List Int)}(h:Of n c q pos ln lost=some r):EQ 130 [.ref 0 0] [oW c q pos 1 ln,oI lost] (.tup 3 (L1 [.bools r.1,.bools r.2.1,.bool r.2.2.1])) [oW c q pos 1 ln,oI r.2.2.2] false:=by
 refine ot Tryz.func130 fun B N=>?_
 revert r;apply gO;exact jg ug (gn fun g0=>jg g0 (jg g0 (jg (Eq.refl (Zw pos c q ln lost)) (jg g0 (jg g0 (jg (Eq.refl (Zw pos c q ln lost)) (lN (tg:=[([],(Zw pos c q ln lost))]) J6 [0,1,2,3] ((xr B N c q pos ln lost n) _ _ · n Nat.le.refl))))))))
inductive Y9 where
 | l1 (x3 x4:List Bool) (x5:Bool) (AW BD:Int) (o1:List Int)
def Vi (n:Nat)(self:Y9 -> Option (Bool×(List Int)))(c:AB)(q:AA)(pos:List Int)(ln:Nat)(lost:List Int)(x3 x4:List Bool)(x5:Bool)(AW BD:Int)(o1:List Int):Option (Bool×(List Int)):= bif (decide (BD<AW)) then bif (!x5) then if AH (BD+1) then self (.l1 x3 x4 x5 AW (BD+1) o1) else none else if 0<=BD/\ BD<(x3.length:Int) then bif (!(x3.getD ((BD).toNat) false)) then if AH (BD+1) then self (.l1 x3 x4 x5 AW (BD+1) o1) else none else if 0<=BD/\ BD<(x4.length:Int) then bif (x4.getD ((BD).toNat) false) then if AH (BD+1) then self (.l1 x3 x4 x5 AW (BD+1) o1) else none else (N4 n q.nbrs x3 x4 BD).bind fun y1=> bif y1.1 then (Gy n BD c q pos ln o1).bind fun y2=> if AH (BD+1) then self (.l1 x3 x4 x5 AW (BD+1) y2) else none else if AH (BD+1) then self (.l1 x3 x4 x5 AW (BD+1) o1) else none else none else none else some (true,o1)
def zD9 (n:Nat)(self:Y9 -> Option (Bool×(List Int)))(c:AB)(q:AA)(pos:List Int)(ln:Nat)(lost:List Int):Option (Bool×(List Int)):= (Of n c q pos ln lost).bind fun y1=> self (.l1 y1.1 y1.2.1 y1.2.2.1 (y1.1.length:Int) 0 y1.2.2.2)
def NZ (c:AB)(q:AA)(pos:List Int)(ln:Nat)(lost:List Int):Nat -> Y9 -> Option (Bool×(List Int))
 | 0,_=>none
 | n+1,.l1 x3 x4 x5 AW BD o1=>Vi n (NZ c q pos ln lost n) c q pos ln lost x3 x4 x5 AW BD o1
def ZA (n:Nat)(c:AB)(q:AA)(pos:List Int)(ln:Nat)(lost:List Int):Option (Bool×(List Int)):=zD9 n (NZ c q pos ln lost n) c q pos ln lost
def zEA (n B:Nat)(N:Yd 2)(c:AB)(q:AA)(pos:List Int)(ln:Nat)(lost:List Int)(r:Bool×(List Int)):Y9 -> Prop
 | .l1 x3 x4 x5 AW BD o1=>∀ m0:Nat,n<=m0 -> TW B N (FQ Tryz.f113 2 (.bool r.1) [oW c q pos 1 ln,oI r.2]) (Ax m0 (A7 (AY Tryz.f113) 0 [])) ⟨AF 52 [(0,.ref 0 0),(3,.bools x3),(4,.bools x4),(5,.bool x5),(16,.i AW),(17,.i BD)],[oW c q pos 1 ln,oI o1]⟩
theorem zEB (B:Nat)(N:Yd 2)(c:AB)(q:AA)(pos:List Int)(ln:Nat)(lost:List Int):Al (NZ c q pos ln lost) (zEA · B N c q pos ln lost):=ia (fun _=>rfl) fun n AJ pt r h=>by
 cases pt
 case l1 x3 x4 x5 AW BD o1=>
  intro m0 AC;refine rd AC fun m0 AC=>?_
  revert r;apply gO;exact bi 18 (bi 21 (gw 51 (lG AD [0,1] (AJ _ _ · m0 AC))) (gi (bi 27 (gw 51 (lG AD [0,1] (AJ _ _ · m0 AC))) (gi (bi 33 (gw 51 (lG AD [0,1] (AJ _ _ · m0 AC))) (cf sr [oW c q pos 1 ln,oI o1] fun _=>bi 45 (ce Mj [0,1] [oW c q pos 1 ln,oI o1] fun _=>gw 51 (lG AD [0,1] (AJ _ _ · m0 AC))) (gw 51 (lG AD [0,1] (AJ _ _ · m0 AC))))))))) (lE AD [2] [0,1])
theorem zD8 {n:Nat}{c:AB}{q:AA}{pos:List Int}{ln:Nat}{lost:List Int}{r:Bool×(List Int)}(h:ZA n c q pos ln lost=some r):EQ 113 [.ref 0 0] [oW c q pos 1 ln,oI lost] (.bool r.1) [oW c q pos 1 ln,oI r.2] false:=by
 refine ot Tryz.func113 fun B N=>?_
 revert r;apply gO;exact ce mA [0,1] [oW c q pos 1 ln,oI lost] fun _=>lN AD [0,1] ((zEB B N c q pos ln lost n) _ _ · n Nat.le.refl)
inductive Mp where
 | l1 (x3 x4:List Bool) (x20 x21:Int) (o1:List Int)
 | l2 (x3 x4:List Bool) (x8 x20 x21:Int) (Ba:List Int) (EE BC:Int) (o1:List Int)
 | l3 (x3 x4:List Bool) (x7:Nat) (x8 x20 x21:Int) (Ba:List Int) (EE BC:Int) (o1 o2:List Int)
 | l4 (x3 x4:List Bool) (x7:Nat) (x8 x20 x21:Int) (Hp:Nat) (Ho Ae:Int) (o1 o2:List Int)
def UO (n:Nat)(self:Mp -> Option (Bool×(List Int)))(c:AB)(q:AA)(pos:List Int)(ln:Nat)(lost:List Int)(x3 x4:List Bool)(x20 x21:Int)(o1:List Int):Option (Bool×(List Int)):= bif (decide (x21<x20)) then if 0<=x21/\ x21<(x4.length:Int) then bif (!(x4.getD ((x21).toNat) false)) then if AH (x21+1) then self (.l1 x3 x4 x20 (x21+1) o1) else none else if 0<=x21/\ x21<(q.nbrs.length:Int) then self (.l2 x3 x4 0 x20 x21 (q.nbrs.getD ((x21).toNat) []) (((q.nbrs.getD ((x21).toNat) []).length:Nat):Int) 0 o1) else none else none else some (true,o1)
def UN (n:Nat)(self:Mp -> Option (Bool×(List Int)))(c:AB)(q:AA)(pos:List Int)(ln:Nat)(lost:List Int)(x3 x4:List Bool)(x8 x20 x21:Int)(Ba:List Int)(EE BC:Int)(o1:List Int):Option (Bool×(List Int)):= bif (decide (BC<EE)) then if (0<=BC/\ BC<(Ba.length:Int))/\ (0<=(Ba.getD ((BC).toNat) 0)/\ (Ba.getD ((BC).toNat) 0)<(x3.length:Int)) then bif (x3.getD ((Ba.getD ((BC).toNat) 0).toNat) false) then if ((0=0/\ 1=([Ba.getD ((BC).toNat) 0]:List Int).length)/\ 0<([Ba.getD ((BC).toNat) 0]:List Int).length/\ ([Ba.getD ((BC).toNat) 0]:List Int).length<=A3)/\ (0<=(Ba.getD ((BC).toNat) 0)/\ (Ba.getD ((BC).toNat) 0)<(x4.length:Int)) then bif (x4.getD ((Ba.getD ((BC).toNat) 0).toNat) false) then if AH (x8+1)/\ AH (BC+1) then self (.l3 x3 x4 (([Ba.getD ((BC).toNat) 0]:List Int).length) (x8+1) x20 x21 Ba EE (BC+1) o1 ([Ba.getD ((BC).toNat) 0]:List Int)) else none else if AH (BC+1) then self (.l3 x3 x4 (([Ba.getD ((BC).toNat) 0]:List Int).length) x8 x20 x21 Ba EE (BC+1) o1 ([Ba.getD ((BC).toNat) 0]:List Int)) else none else none else if 0<=(Ba.getD ((BC).toNat) 0)/\ (Ba.getD ((BC).toNat) 0)<(x4.length:Int) then bif (x4.getD ((Ba.getD ((BC).toNat) 0).toNat) false) then if AH (x8+1)/\ AH (BC+1) then self (.l2 x3 x4 (x8+1) x20 x21 Ba EE (BC+1) o1) else none else if AH (BC+1) then self (.l2 x3 x4 x8 x20 x21 Ba EE (BC+1) o1) else none else none else none else some (false,o1)
def Oq (n:Nat)(self:Mp -> Option (Bool×(List Int)))(c:AB)(q:AA)(pos:List Int)(ln:Nat)(lost:List Int)(x3 x4:List Bool)(x7:Nat)(x8 x20 x21:Int)(Ba:List Int)(EE BC:Int)(o1 o2:List Int):Option (Bool×(List Int)):= bif (decide (BC<EE)) then if (0<=BC/\ BC<(Ba.length:Int))/\ (0<=(Ba.getD ((BC).toNat) 0)/\ (Ba.getD ((BC).toNat) 0)<(x3.length:Int)) then bif (x3.getD ((Ba.getD ((BC).toNat) 0).toNat) false) then if ((0=0/\ 1=([Ba.getD ((BC).toNat) 0]:List Int).length)/\ (0=0/\ x7=o2.length)/\ o2.length+([Ba.getD ((BC).toNat) 0]:List Int).length<=A3)/\ (0<=(Ba.getD ((BC).toNat) 0)/\ (Ba.getD ((BC).toNat) 0)<(x4.length:Int)) then bif (x4.getD ((Ba.getD ((BC).toNat) 0).toNat) false) then if AH (x8+1)/\ AH (BC+1) then self (.l3 x3 x4 (o2.length+([Ba.getD ((BC).toNat) 0]:List Int).length) (x8+1) x20 x21 Ba EE (BC+1) o1 (o2++([Ba.getD ((BC).toNat) 0]:List Int))) else none else if AH (BC+1) then self (.l3 x3 x4 (o2.length+([Ba.getD ((BC).toNat) 0]:List Int).length) x8 x20 x21 Ba EE (BC+1) o1 (o2++([Ba.getD ((BC).toNat) 0]:List Int))) else none else none else if 0<=(Ba.getD ((BC).toNat) 0)/\ (Ba.getD ((BC).toNat) 0)<(x4.length:Int) then bif (x4.getD ((Ba.getD ((BC).toNat) 0).toNat) false) then if AH (x8+1)/\ AH (BC+1) then self (.l3 x3 x4 x7 (x8+1) x20 x21 Ba EE (BC+1) o1 o2) else none else if AH (BC+1) then self (.l3 x3 x4 x7 x8 x20 x21 Ba EE (BC+1) o1 o2) else none else none else none else bif (decide ((x7:Int)<2)) then some (false,o1) else bif (decide (x8>2)) then some (false,o1) else self (.l4 x3 x4 x7 x8 x20 x21 x7 (x7:Int) 0 o1 o2)
def UM (n:Nat)(self:Mp -> Option (Bool×(List Int)))(c:AB)(q:AA)(pos:List Int)(ln:Nat)(lost:List Int)(x3 x4:List Bool)(x7:Nat)(x8 x20 x21:Int)(Hp:Nat)(Ho Ae:Int)(o1 o2:List Int):Option (Bool×(List Int)):= bif (decide (Ae<Ho)) then if (0<=Ae/\ Ae<(Hp:Int))/\ 0+((Ae).toNat)<o2.length then bif ((x7:Int)==2) then (Gy n (o2.getD (0+((Ae).toNat)) 0) c q pos ln o1).bind fun y1=> bif (x8==2) then if 0<=(o2.getD (0+((Ae).toNat)) 0)/\ (o2.getD (0+((Ae).toNat)) 0)<(x4.length:Int) then bif (!(x4.getD ((o2.getD (0+((Ae).toNat)) 0).toNat) false)) then (Dn n (o2.getD (0+((Ae).toNat)) 0) c.set c q pos ln y1).bind fun y2=> if AH (Ae+1) then self (.l4 x3 x4 x7 x8 x20 x21 Hp Ho (Ae+1) y2 o2) else none else if AH (Ae+1) then self (.l4 x3 x4 x7 x8 x20 x21 Hp Ho (Ae+1) y1 o2) else none else none else if AH (Ae+1) then self (.l4 x3 x4 x7 x8 x20 x21 Hp Ho (Ae+1) y1 o2) else none else bif (x8==2) then if 0<=(o2.getD (0+((Ae).toNat)) 0)/\ (o2.getD (0+((Ae).toNat)) 0)<(x4.length:Int) then bif (!(x4.getD ((o2.getD (0+((Ae).toNat)) 0).toNat) false)) then (Dn n (o2.getD (0+((Ae).toNat)) 0) c.set c q pos ln o1).bind fun y1=> if AH (Ae+1) then self (.l4 x3 x4 x7 x8 x20 x21 Hp Ho (Ae+1) y1 o2) else none else if AH (Ae+1) then self (.l4 x3 x4 x7 x8 x20 x21 Hp Ho (Ae+1) o1 o2) else none else none else if AH (Ae+1) then self (.l4 x3 x4 x7 x8 x20 x21 Hp Ho (Ae+1) o1 o2) else none else none else if AH (x21+1) then self (.l1 x3 x4 x20 (x21+1) o1) else none
def yU (n:Nat)(self:Mp -> Option (Bool×(List Int)))(c:AB)(q:AA)(pos:List Int)(ln:Nat)(lost:List Int):Option (Bool×(List Int)):= (Of n c q pos ln lost).bind fun y1=> self (.l1 y1.1 y1.2.1 (y1.2.1.length:Int) 0 y1.2.2.2)
def Cc (c:AB)(q:AA)(pos:List Int)(ln:Nat)(lost:List Int):Nat -> Mp -> Option (Bool×(List Int))
 | 0,_=>none
 | n+1,.l1 x3 x4 x20 x21 o1=>UO n (Cc c q pos ln lost n) c q pos ln lost x3 x4 x20 x21 o1
 | n+1,.l2 x3 x4 x8 x20 x21 Ba EE BC o1=>UN n (Cc c q pos ln lost n) c q pos ln lost x3 x4 x8 x20 x21 Ba EE BC o1
 | n+1,.l3 x3 x4 x7 x8 x20 x21 Ba EE BC o1 o2=>Oq n (Cc c q pos ln lost n) c q pos ln lost x3 x4 x7 x8 x20 x21 Ba EE BC o1 o2
 | n+1,.l4 x3 x4 x7 x8 x20 x21 Hp Ho Ae o1 o2=>UM n (Cc c q pos ln lost n) c q pos ln lost x3 x4 x7 x8 x20 x21 Hp Ho Ae o1 o2
def Xg (n:Nat)(c:AB)(q:AA)(pos:List Int)(ln:Nat)(lost:List Int):Option (Bool×(List Int)):=yU n (Cc c q pos ln lost n) c q pos ln lost
def yV (n B:Nat)(N:Yd 2)(c:AB)(q:AA)(pos:List Int)(ln:Nat)(lost:List Int)(r:Bool×(List Int)):Mp -> Prop
 | .l1 x3 x4 x20 x21 o1=>∀ m0:Nat,n<=m0 -> TW B N (FQ Tryz.f114 2 (.bool r.1) [oW c q pos 1 ln,oI r.2]) (Ax m0 (A7 (AY Tryz.f114) 0 [])) ⟨AF 95 [(0,.ref 0 0),(3,.bools x3),(4,.bools x4),(20,.i x20),(21,.i x21)],[oW c q pos 1 ln,oI o1]⟩
 | .l2 x3 x4 x8 x20 x21 Ba EE BC o1=>∀ m0 m1:Nat,n<=m0 -> n<=m1 -> TW B N (FQ Tryz.f114 2 (.bool r.1) [oW c q pos 1 ln,oI r.2]) (Ax m1 (A7 (AY Tryz.f114) 2 [m0])) ⟨AF 95 [(0,.ref 0 0),(3,.bools x3),(4,.bools x4),(7,.nils),(8,.i x8),(20,.i x20),(21,.i x21),(36,.ints Ba),(37,.i EE),(38,.i BC)],[oW c q pos 1 ln,oI o1]⟩
 | .l3 x3 x4 x7 x8 x20 x21 Ba EE BC o1 o2=>∀ m0 m1:Nat,n<=m0 -> n<=m1 -> TW B N (FQ Tryz.f114 2 (.bool r.1) [oW c q pos 1 ln,oI r.2]) (Ax m1 (A7 (AY Tryz.f114) 2 [m0])) ⟨AF 95 [(0,.ref 0 0),(3,.bools x3),(4,.bools x4),(7,.msl 2 1 0 x7),(8,.i x8),(20,.i x20),(21,.i x21),(36,.ints Ba),(37,.i EE),(38,.i BC)],[oW c q pos 1 ln,oI o1,oI o2]⟩
 | .l4 x3 x4 x7 x8 x20 x21 Hp Ho Ae o1 o2=>∀ m0 m1:Nat,n<=m0 -> n<=m1 -> TW B N (FQ Tryz.f114 2 (.bool r.1) [oW c q pos 1 ln,oI r.2]) (Ax m1 (A7 (AY Tryz.f114) 4 [m0])) ⟨AF 95 [(0,.ref 0 0),(3,.bools x3),(4,.bools x4),(7,.msl 2 1 0 x7),(8,.i x8),(20,.i x20),(21,.i x21),(64,.msl 2 1 0 Hp),(65,.i Ho),(66,.i Ae)],[oW c q pos 1 ln,oI o1,oI o2]⟩
theorem yW (B:Nat)(N:Yd 2)(c:AB)(q:AA)(pos:List Int)(ln:Nat)(lost:List Int):Al (Cc c q pos ln lost) (yV · B N c q pos ln lost):=ia (fun _=>rfl) fun n AJ pt r h=>by
 cases pt
 case l1 x3 x4 x20 x21 o1=>
  intro m0 AC;refine rd AC fun m0 AC=>?_
  revert r;apply gO;exact bi 22 (gi (bi 28 (gw 94 (lG AD [0,1] (AJ _ _ · m0 AC))) (gi (lN AD [0,1] (AJ _ _ · m0 n AC Nat.le.refl))))) (lE AD [2] [0,1])
 case l2 x3 x4 x8 x20 x21 Ba EE BC o1=>
  intro m0 m1 AC Ar;have AC:=zCz AC;refine rd Ar fun m1 Ar=>?_
  revert r;apply gO;exact bi 39 (gc (gi (gi (bi 45 (gc (gi (gi (bi 53 (gc (gw 55 (gw 56 (lG AD [0,1,3] (AJ _ _ · m0 m1 AC Ar))))) (gw 56 (lG AD [0,1,3] (AJ _ _ · m0 m1 AC Ar))))))) (gi (bi 53 (gc (gw 55 (gw 56 (lG AD [0,1] (AJ _ _ · m0 m1 AC Ar))))) (gw 56 (lG AD [0,1] (AJ _ _ · m0 m1 AC Ar))))))))) (lE AD [2] [0,1])
 case l3 x3 x4 x7 x8 x20 x21 Ba EE BC o1 o2=>
  intro m0 m1 AC Ar;have AC:=zCz AC;refine rd Ar fun m1 Ar=>?_
  revert r;apply gO;exact bi 39 (gc (gi (gi (bi 45 (gc (gi (gi (bi 53 (gc (gw 55 (gw 56 (lG AD [0,1,4] (AJ _ _ · m0 m1 AC Ar))))) (gw 56 (lG AD [0,1,4] (AJ _ _ · m0 m1 AC Ar))))))) (gi (bi 53 (gc (gw 55 (gw 56 (lG AD [0,1,2] (AJ _ _ · m0 m1 AC Ar))))) (gw 56 (lG AD [0,1,2] (AJ _ _ · m0 m1 AC Ar))))))))) (bi 59 (lE AD [2] [0,1]) (bi 62 (lE AD [2] [0,1]) (lN AD [0,1,2] (AJ _ _ · m0 n AC Nat.le.refl))))
 case l4 x3 x4 x7 x8 x20 x21 Hp Ho Ae o1 o2=>
  intro m0 m1 AC Ar;have AC:=zCz AC;refine rd Ar fun m1 Ar=>?_
  revert r;apply gO;exact bi 67 (gc (gi (gi (bi 72 (ce Mj [0,1] [oW c q pos 1 ln,oI o1,oI o2] fun y1=>bi 77 (gi (bi 83 (ce GN [0,1] [oW c q pos 1 ln,oI y1,oI o2] fun _=>gw 93 (lG AD [0,1,2] (AJ _ _ · m0 m1 AC Ar))) (gw 93 (lG AD [0,1,2] (AJ _ _ · m0 m1 AC Ar))))) (gw 93 (lG AD [0,1,2] (AJ _ _ · m0 m1 AC Ar)))) (bi 77 (gi (bi 83 (ce GN [0,1] [oW c q pos 1 ln,oI o1,oI o2] fun _=>gw 93 (lG AD [0,1,2] (AJ _ _ · m0 m1 AC Ar))) (gw 93 (lG AD [0,1,2] (AJ _ _ · m0 m1 AC Ar))))) (gw 93 (lG AD [0,1,2] (AJ _ _ · m0 m1 AC Ar)))))))) (gw 94 (lG AD [0,1] (AJ _ _ · m0 AC)))
theorem yT {n:Nat}{c:AB}{q:AA}{pos:List Int}{ln:Nat}{lost:List Int}{r:Bool×(List Int)}(h:Xg n c q pos ln lost=some r):EQ 114 [.ref 0 0] [oW c q pos 1 ln,oI lost] (.bool r.1) [oW c q pos 1 ln,oI r.2] false:=by
 refine ot Tryz.func114 fun B N=>?_
 revert r;apply gO;exact ce mA [0,1] [oW c q pos 1 ln,oI lost] fun _=>lN AD [0,1] ((yW B N c q pos ln lost n) _ _ · n Nat.le.refl)
end Go.Proofs.YtodinaconebmdaaGreatDoor
