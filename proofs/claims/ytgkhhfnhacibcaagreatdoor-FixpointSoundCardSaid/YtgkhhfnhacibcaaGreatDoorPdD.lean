/- Part 4 of 7 of what the proofs of these laws stand on. -/
import Derived.Test.YtgkhhfnhacibcaaGreatDoorPdC
import Derived.Laws.BitsLemmas
import Derived.Shelf.Sort.Plain
set_option linter.all false
namespace Go.Proofs.YtgkhhfnhacibcaaGreatDoor
open Go.RowKit
set_option maxRecDepth 100000
set_option maxHeartbeats 40000000
theorem qP:At (BA Tryz.f106 1) [] (List.range 18) []:=by unfold At;kernel_rfl
def pI:Bb:=fun i=>match i with
 | 1=>.ord [] (List.range 18) []
 | _=>.no
def mQ (n:Nat) (s_ t_:Int) (c:AB) (q:AA) (pos:List Int) (ln:Nat) (lost:List Int):Option (Bool×(List Int)):=
 if (0<=s_/\ s_<(q.values.length:Int))/\ (0<=t_/\ t_<(q.values.length:Int))/\ AI ((q.values.getD ((s_).toNat) 0)-(q.values.getD ((t_).toNat) 0))/\ AI (0-((q.values.getD ((s_).toNat) 0)-(q.values.getD ((t_).toNat) 0))) then
  some ((decide ((if (0-((q.values.getD ((s_).toNat) 0)-(q.values.getD ((t_).toNat) 0)))>((q.values.getD ((s_).toNat) 0)-(q.values.getD ((t_).toNat) 0)) then (0-((q.values.getD ((s_).toNat) 0)-(q.values.getD ((t_).toNat) 0))) else ((q.values.getD ((s_).toNat) 0)-(q.values.getD ((t_).toNat) 0)))>=c.lo)),lost)
 else none
def Wy (n:Nat) (s_ t_:Int) (c:AB) (q:AA) (pos:List Int) (ln:Nat) (lost:List Int):Option (Bool×(List Int)):=mQ n s_ t_ c q pos ln lost
theorem zCO {n:Nat} {s_ t_:Int} {c:AB} {q:AA} {pos:List Int} {ln:Nat} {lost:List Int} {r:Bool×(List Int)} (h:Wy n s_ t_ c q pos ln lost=some r):EQ 106 [.i s_,.i t_,.ref 0 0] [some (.cells [.ref 1 0]),some (.cells (AH c++AD q++[.ints pos,.msl 2 1 0 ln])),some (.ints lost)] (.bool r.1) [some (.cells [.ref 1 0]),some (.cells (AH c++AD q++[.ints pos,.msl 2 1 0 ln])),some (.ints r.2)] false:=by
 refine ot Tryz.func106 fun B N=>?_
 revert r;apply gO;exact jg qP (gc (gi (gc (gi (gc (gw 23 (gw 26 (lE pI [5] [0,1,2]))))))))
theorem p5:At (BA Tryz.f107 1) [] (List.range 6) []:=by unfold At;kernel_rfl
def QN:Bb:=fun i=>match i with
 | 1=>.ord [] (List.range 6) []
 | _=>.no
def gW (n:Nat) (s_ t_:Int) (c:AB) (q:AA) (pos:List Int) (ln:Nat) (lost:List Int):Option (Bool×(List Int)):=
 if (0<=s_/\ s_<=(IntKind.i64.bits:Int))/\ (0<=t_/\ t_<=(IntKind.i64.bits:Int)) then
  bif ((bits .and .i64 (IntKind.i64.wrap (1*2 ^ (s_).toNat)) c.set)==0) then
   bif ((bits .and .i64 (IntKind.i64.wrap (1*2 ^ (t_).toNat)) c.set)==0) then
    some (true,lost)
   else
    some (((bits .and .i64 (IntKind.i64.wrap (1*2 ^ (s_).toNat)) c.other)==0),lost)
  else
   bif ((bits .and .i64 (IntKind.i64.wrap (1*2 ^ (t_).toNat)) c.other)==0) then
    bif ((bits .and .i64 (IntKind.i64.wrap (1*2 ^ (t_).toNat)) c.set)==0) then
     some (true,lost)
    else
     some (((bits .and .i64 (IntKind.i64.wrap (1*2 ^ (s_).toNat)) c.other)==0),lost)
   else
    some (false,lost)
 else none
def Uw (n:Nat) (s_ t_:Int) (c:AB) (q:AA) (pos:List Int) (ln:Nat) (lost:List Int):Option (Bool×(List Int)):=gW n s_ t_ c q pos ln lost
theorem tq {n:Nat} {s_ t_:Int} {c:AB} {q:AA} {pos:List Int} {ln:Nat} {lost:List Int} {r:Bool×(List Int)} (h:Uw n s_ t_ c q pos ln lost=some r):EQ 107 [.i s_,.i t_,.ref 0 0] [some (.cells [.ref 1 0]),some (.cells (AH c++AD q++[.ints pos,.msl 2 1 0 ln])),some (.ints lost)] (.bool r.1) [some (.cells [.ref 1 0]),some (.cells (AH c++AD q++[.ints pos,.msl 2 1 0 ln])),some (.ints r.2)] false:=by
 refine ot Tryz.func107 fun B N=>?_
 revert r;apply gO;exact jg p5 (gc (gi (gi (bi 19 (bi 38 (lE QN [5] [0,1,2]) (lE QN [5] [0,1,2])) (bi 28 (bi 38 (lE QN [5] [0,1,2]) (lE QN [5] [0,1,2])) (lE QN [5] [0,1,2]))))))
theorem py:At (BA Tryz.f105 1) [] (List.range 16) []:=by unfold At;kernel_rfl
theorem pw:At (BA Tryz.f105 2) [([0,1,2,3,4,5,6,7,8,9,10,11,12,13],14)] [15] [16]:=by unfold At;kernel_rfl
theorem pv:At (BA Tryz.f105 9) [] [0,1,2,3] [4]:=by unfold At;kernel_rfl
theorem px:At (BA Tryz.f105 10) [] [0,1,2,3] [4]:=by unfold At;kernel_rfl
def Ky:Bb:=fun i=>match i with
 | 1=>.ord [] (List.range 16) []
 | 2=>.ord [([0,1,2,3,4,5,6,7,8,9,10,11,12,13],14)] [15] [16]
 | 9=>.ord [] [0,1,2,3] [4]
 | 10=>.ord [] [0,1,2,3] [4]
 | _=>.no
def yB (c:AB) (q:AA) (pos:List Int) (ln:Nat) (lost:List Int):DH:=[some (.cells [.ref 1 0]),some (.cells (AH c++AD q++[.ints pos,.msl 2 1 0 ln])),some (.ints lost),some (.cells [.fn 106 1 (L1 [.ref 0 0])]),some (.cells [.i (pos.getD ((c.cells.getD 1 0).toNat) 0)]),some (.cells [.i 0]),some (.cells [.i 0])]
def yA (c:AB) (q:AA) (pos:List Int) (ln:Nat) (lost:List Int):DH:=[some (.cells [.ref 1 0]),some (.cells (AH c++AD q++[.ints pos,.msl 2 1 0 ln])),some (.ints lost),some (.cells [.fn 106 1 (L1 [.ref 0 0])]),some (.cells [.i (pos.getD ((c.cells.getD 1 0).toNat) 0)]),some (.cells [.i 0]),some (.cells [.i 0]),some (.iter ((BN (pos.getD ((c.cells.getD 0 0).toNat) 0)).map Bg))]
def xz (c:AB) (q:AA) (pos:List Int) (ln:Nat) (Dh:List Int) (Dg FP:Int):DH:=[some (.cells [.ref 1 0]),some (.cells (AH c++AD q++[.ints pos,.msl 2 1 0 ln])),some (.ints Dh),some (.cells [.fn 106 1 (L1 [.ref 0 0])]),some (.cells [.i (pos.getD ((c.cells.getD 1 0).toNat) 0)]),some (.cells [.i Dg]),some (.cells [.i FP]),none]
def xy (c:AB) (q:AA) (pos:List Int) (ln:Nat) (y2:(List Int)) (Dg FP:Int):DH:=[some (.cells [.ref 1 0]),some (.cells (AH c++AD q++[.ints pos,.msl 2 1 0 ln])),some (.ints y2),some (.cells [.fn 106 1 (L1 [.ref 0 0])]),some (.cells [.i (pos.getD ((c.cells.getD 1 0).toNat) 0)]),some (.cells [.i Dg]),some (.cells [.i FP]),none]
def jJ (c:AB) (q:AA) (pos:List Int) (ln:Nat) (Cm:List Int) (Cl Ck Ay:Int):DH:=[some (.cells [.ref 1 0]),some (.cells (AH c++AD q++[.ints pos,.msl 2 1 0 ln])),some (.ints Cm),some (.cells [.fn 106 1 (L1 [.ref 0 0])]),some (.cells [.i (pos.getD ((c.cells.getD 1 0).toNat) 0)]),some (.cells [.i Cl]),some (.cells [.i Ck]),none,some (.cells [.i Ay])]
def xx (c:AB) (q:AA) (pos:List Int) (ln:Nat) (Cm:List Int) (Cl Ck Ay:Int):DH:=[some (.cells [.ref 1 0]),some (.cells (AH c++AD q++[.ints pos,.msl 2 1 0 ln])),some (.ints Cm),some (.cells [.fn 106 1 (L1 [.ref 0 0])]),some (.cells [.i (pos.getD ((c.cells.getD 1 0).toNat) 0)]),some (.cells [.i Cl]),some (.cells [.i Ck]),none,some (.cells [.i Ay]),some (.iter ((BN (pos.getD ((c.cells.getD 1 0).toNat) 0)).map Bg))]
def jI (c:AB) (q:AA) (pos:List Int) (ln:Nat) (Da:List Int) (DB DA Ay:Int):DH:=[some (.cells [.ref 1 0]),some (.cells (AH c++AD q++[.ints pos,.msl 2 1 0 ln])),some (.ints Da),some (.cells [.fn 106 1 (L1 [.ref 0 0])]),some (.cells [.i (pos.getD ((c.cells.getD 1 0).toNat) 0)]),some (.cells [.i DB]),some (.cells [.i DA]),none,some (.cells [.i Ay]),none]
inductive J1 where
 | s0 (Da:List Int) (DB DA:Int)
def gJ (c:AB) (q:AA) (pos:List Int) (ln:Nat) (Ay:Int):J1 -> DH
 | .s0 Da DB DA=>[some (.cells [.ref 1 0]),some (.cells (AH c++AD q++[.ints pos,.msl 2 1 0 ln])),some (.ints Da),some (.cells [.fn 106 1 (L1 [.ref 0 0])]),some (.cells [.i (pos.getD ((c.cells.getD 1 0).toNat) 0)]),some (.cells [.i DB]),some (.cells [.i DA]),none,some (.cells [.i Ay]),none]
def Uj (n:Nat) (c:AB) (q:AA) (pos:List Int) (ln:Nat) (Ay DF:Int) (Da:List Int) (DB DA:Int):Option J1:=
 (Wy n Ay DF c q pos ln Da).bind fun Nd=>
  bif Nd.1 then
   if (0<=Ay/\ Ay<=(IntKind.i64.bits:Int))/\ (0<=DF/\ DF<=(IntKind.i64.bits:Int)) then
    some (.s0 Nd.2 (bits .or .i64 DB (IntKind.i64.wrap (1*2 ^ (Ay).toNat))) (bits .or .i64 DA (IntKind.i64.wrap (1*2 ^ (DF).toNat))))
   else none
  else
   some (.s0 Nd.2 DB DA)
def gI (n:Nat) (c:AB) (q:AA) (pos:List Int) (ln:Nat) (Ay DF:Int):J1 -> Option J1
 | .s0 Da DB DA=>Uj n c q pos ln Ay DF Da DB DA
def Uk (n:Nat) (c:AB) (q:AA) (pos:List Int) (ln:Nat) (Ay DF:Int) (s:J1):Option J1:=gI n c q pos ln Ay DF s
theorem tI (n:Nat) (c:AB) (q:AA) (pos:List Int) (ln:Nat) (Ay:Int) (l B:Nat) (N:Yd 10) (DF:Int) (s:J1) (r:J1) (h:Uk n c q pos ln Ay DF s=some r):TA l B N (DT 10 [] 0 (gJ c q pos ln Ay r)) Tryz.f105 45 ⟨AM 69 [(3,.ref 3 0),(9,.ref 5 0),(10,.ref 6 0),(11,.ref 8 0),(45,.it 9),(46,.i DF)],gJ c q pos ln Ay s⟩:=by
 cases s with
 | s0 Da DB DA=>
  replace h:Uj n c q pos ln Ay DF Da DB DA=some r:=h;unfold Uj at h;refine ag Ky [0,1,2,3,4,5,6,7,8,9] H0 (AM 69 [(3,.ref 3 0),(9,.ref 5 0),(10,.ref 6 0),(11,.ref 8 0),(12,.i DF)]) (jI c q pos ln Da DB DA Ay) fun N=>?_
  revert r;apply gO;exact ce zCO [0,1,2] (jI c q pos ln Da DB DA Ay) fun _=>bi 50 (jg pv (gc (gi (jt (jg px (gi (jt (lF fun p=>rr Ky [0,1,2,3,4,5,6,7,8,9] rfl p)))))))) (lF fun p=>rr Ky [0,1,2,3,4,5,6,7,8,9] rfl p)
inductive J2 where
 | s0 (Cm:List Int) (Cl Ck:Int)
def gK (c:AB) (q:AA) (pos:List Int) (ln:Nat):J2 -> DH
 | .s0 Cm Cl Ck=>[some (.cells [.ref 1 0]),some (.cells (AH c++AD q++[.ints pos,.msl 2 1 0 ln])),some (.ints Cm),some (.cells [.fn 106 1 (L1 [.ref 0 0])]),some (.cells [.i (pos.getD ((c.cells.getD 1 0).toNat) 0)]),some (.cells [.i Cl]),some (.cells [.i Ck]),none]
def Ui (n:Nat) (c:AB) (q:AA) (pos:List Int) (ln:Nat) (Ay:Int) (Cm:List Int) (Cl Ck:Int):Option J2:=
 if 0<=(pos.getD ((c.cells.getD 1 0).toNat) 0)/\ (pos.getD ((c.cells.getD 1 0).toNat) 0)<9223372036854775808 then
  (B6 (Uk n c q pos ln Ay) (BN (pos.getD ((c.cells.getD 1 0).toNat) 0)) (.s0 Cm Cl Ck)).bind fun Nf=>
   match Nf with
   | .s0 TC TB S9=>
    some (.s0 TC TB S9)
 else none
def gH (n:Nat) (c:AB) (q:AA) (pos:List Int) (ln:Nat) (Ay:Int):J2 -> Option J2
 | .s0 Cm Cl Ck=>Ui n c q pos ln Ay Cm Cl Ck
def Ul (n:Nat) (c:AB) (q:AA) (pos:List Int) (ln:Nat) (Ay:Int) (s:J2):Option J2:=gH n c q pos ln Ay s
theorem tH (n:Nat) (c:AB) (q:AA) (pos:List Int) (ln:Nat) (l B:Nat) (N:Yd 8) (Ay:Int) (s:J2) (r:J2) (h:Ul n c q pos ln Ay s=some r):TA l B N (DT 8 [] 0 (gK c q pos ln r)) Tryz.f105 42 ⟨AM 69 [(0,.ref 1 0),(3,.ref 3 0),(5,.i (c.cells.getD 0 0)),(6,.i (c.cells.getD 1 0)),(8,.ref 4 0),(9,.ref 5 0),(10,.ref 6 0),(42,.it 7),(43,.i Ay)],gK c q pos ln s⟩:=by
 cases s with
 | s0 Cm Cl Ck=>
  replace h:Ui n c q pos ln Ay Cm Cl Ck=some r:=h;unfold Ui at h;refine ag Ky [0,1,2,3,4,5,6,7,8] (H0.t) (AM 69 [(3,.ref 3 0),(8,.ref 4 0),(9,.ref 5 0),(10,.ref 6 0),(11,.ref 8 0)]) (jJ c q pos ln Cm Cl Ck Ay) fun N=>?_
  revert r;apply gO
  exact gn fun bZ=>jc (Jk bZ (jJ c q pos ln Cm Cl Ck Ay)) (cn fun Nf aS=>fun p r h=>by
   refine gs Ky [0,1,2,3,4,5,6,7,8,9] p (Gi (UF Tryz.f105 42) 45 []) (AM 69 [(3,.ref 3 0),(9,.ref 5 0),(10,.ref 6 0),(11,.ref 8 0),(45,.it 9)]) (xx c q pos ln Cm Cl Ck Ay) ?_;refine r0 9 45 #[46] Bg 10 aS (tI n c q pos ln Ay) ?_;cases Nf with
   | s0 TC TB S9=>
    dsimp only at h
    revert r;apply gO;exact lF fun p=>rr Ky [0,1,2,3,4,5,6,7] rfl p)
def gG (n:Nat) (c:AB) (q:AA) (pos:List Int) (ln:Nat) (lost:List Int):Option (Bool×(List Int)):=
 if ((0:Int)<=0/\ 0<(c.cells.length:Int))/\ ((0:Int)<=1/\ 1<(c.cells.length:Int))/\ (0<=(c.cells.getD 0 0)/\ (c.cells.getD 0 0)<(pos.length:Int))/\ (0<=(c.cells.getD 1 0)/\ (c.cells.getD 1 0)<(pos.length:Int))/\ (0<=(pos.getD ((c.cells.getD 0 0).toNat) 0)/\ (pos.getD ((c.cells.getD 0 0).toNat) 0)<9223372036854775808) then
  (B6 (Ul n c q pos ln) (BN (pos.getD ((c.cells.getD 0 0).toNat) 0)) (.s0 lost 0 0)).bind fun y1=>
   match y1 with
   | .s0 Dh Dg FP=>
    (DP n (c.cells.getD 0 0) (bits .xor .i64 (-1) Dg) c q pos ln Dh).bind fun y2=>
     (DP n (c.cells.getD 1 0) (bits .xor .i64 (-1) FP) c q pos ln y2).bind fun y3=>
      some (true,y3)
 else none
def YR (n:Nat) (c:AB) (q:AA) (pos:List Int) (ln:Nat) (lost:List Int):Option (Bool×(List Int)):=gG n c q pos ln lost
theorem tG {n:Nat} {c:AB} {q:AA} {pos:List Int} {ln:Nat} {lost:List Int} {r:Bool×(List Int)} (h:YR n c q pos ln lost=some r):EQ 105 [.ref 1 0,.fn 106 1 (L1 [.ref 0 0])] [some (.cells [.ref 1 0]),some (.cells (AH c++AD q++[.ints pos,.msl 2 1 0 ln])),some (.ints lost)] (.bool r.1) [some (.cells [.ref 1 0]),some (.cells (AH c++AD q++[.ints pos,.msl 2 1 0 ln])),some (.ints r.2)] false:=by
 refine ot Tryz.func105 fun B N=>?_
 revert r;apply gO
 exact jg py (gc (gi (gc (gi (jg pw (gc (gi (gc (gi (jt (gn fun g4=>jc (Jk g4 (yB c q pos ln lost)) (cn fun y1 A0=>fun p r h=>by
  refine gs Ky [0,1,2,3,4,5,6,7] p (Gi (AZ Tryz.f105) 42 []) (AM 69 [(0,.ref 1 0),(3,.ref 3 0),(5,.i (c.cells.getD 0 0)),(6,.i (c.cells.getD 1 0)),(8,.ref 4 0),(9,.ref 5 0),(10,.ref 6 0),(42,.it 7)]) (yA c q pos ln lost) ?_;refine r0 7 42 #[43] Bg 8 A0 (tH n c q pos ln) ?_;cases y1 with
  | s0 Dh Dg FP=>
   dsimp only at h
   revert r;apply gO;exact ce Fs [1,2] (xz c q pos ln Dh Dg FP) fun y2=>ce Fs [1,2] (xy c q pos ln y2 Dg FP) fun _=>lE Ky [4] [0,1,2]))))))))))))
theorem pq:At (BA Tryz.f105 1) [] (List.range 16) []:=by unfold At;kernel_rfl
theorem po:At (BA Tryz.f105 2) [([0,1,2,3,4,5,6,7,8,9,10,11,12,13],14)] [15] [16]:=by unfold At;kernel_rfl
theorem pn:At (BA Tryz.f105 9) [] [0,1,2,3] [4]:=by unfold At;kernel_rfl
theorem pp:At (BA Tryz.f105 10) [] [0,1,2,3] [4]:=by unfold At;kernel_rfl
def Kx:Bb:=fun i=>match i with
 | 1=>.ord [] (List.range 16) []
 | 2=>.ord [([0,1,2,3,4,5,6,7,8,9,10,11,12,13],14)] [15] [16]
 | 9=>.ord [] [0,1,2,3] [4]
 | 10=>.ord [] [0,1,2,3] [4]
 | _=>.no
def xw (c:AB) (q:AA) (pos:List Int) (ln:Nat) (lost:List Int):DH:=[some (.cells [.ref 1 0]),some (.cells (AH c++AD q++[.ints pos,.msl 2 1 0 ln])),some (.ints lost),some (.cells [.fn 107 1 (L1 [.ref 0 0])]),some (.cells [.i (pos.getD ((c.cells.getD 1 0).toNat) 0)]),some (.cells [.i 0]),some (.cells [.i 0])]
def xu (c:AB) (q:AA) (pos:List Int) (ln:Nat) (lost:List Int):DH:=[some (.cells [.ref 1 0]),some (.cells (AH c++AD q++[.ints pos,.msl 2 1 0 ln])),some (.ints lost),some (.cells [.fn 107 1 (L1 [.ref 0 0])]),some (.cells [.i (pos.getD ((c.cells.getD 1 0).toNat) 0)]),some (.cells [.i 0]),some (.cells [.i 0]),some (.iter ((BN (pos.getD ((c.cells.getD 0 0).toNat) 0)).map Bg))]
def xt (c:AB) (q:AA) (pos:List Int) (ln:Nat) (Dh:List Int) (Dg FP:Int):DH:=[some (.cells [.ref 1 0]),some (.cells (AH c++AD q++[.ints pos,.msl 2 1 0 ln])),some (.ints Dh),some (.cells [.fn 107 1 (L1 [.ref 0 0])]),some (.cells [.i (pos.getD ((c.cells.getD 1 0).toNat) 0)]),some (.cells [.i Dg]),some (.cells [.i FP]),none]
def xq (c:AB) (q:AA) (pos:List Int) (ln:Nat) (y2:(List Int)) (Dg FP:Int):DH:=[some (.cells [.ref 1 0]),some (.cells (AH c++AD q++[.ints pos,.msl 2 1 0 ln])),some (.ints y2),some (.cells [.fn 107 1 (L1 [.ref 0 0])]),some (.cells [.i (pos.getD ((c.cells.getD 1 0).toNat) 0)]),some (.cells [.i Dg]),some (.cells [.i FP]),none]
def jH (c:AB) (q:AA) (pos:List Int) (ln:Nat) (Cm:List Int) (Cl Ck Ay:Int):DH:=[some (.cells [.ref 1 0]),some (.cells (AH c++AD q++[.ints pos,.msl 2 1 0 ln])),some (.ints Cm),some (.cells [.fn 107 1 (L1 [.ref 0 0])]),some (.cells [.i (pos.getD ((c.cells.getD 1 0).toNat) 0)]),some (.cells [.i Cl]),some (.cells [.i Ck]),none,some (.cells [.i Ay])]
def xp (c:AB) (q:AA) (pos:List Int) (ln:Nat) (Cm:List Int) (Cl Ck Ay:Int):DH:=[some (.cells [.ref 1 0]),some (.cells (AH c++AD q++[.ints pos,.msl 2 1 0 ln])),some (.ints Cm),some (.cells [.fn 107 1 (L1 [.ref 0 0])]),some (.cells [.i (pos.getD ((c.cells.getD 1 0).toNat) 0)]),some (.cells [.i Cl]),some (.cells [.i Ck]),none,some (.cells [.i Ay]),some (.iter ((BN (pos.getD ((c.cells.getD 1 0).toNat) 0)).map Bg))]
def jG (c:AB) (q:AA) (pos:List Int) (ln:Nat) (Da:List Int) (DB DA Ay:Int):DH:=[some (.cells [.ref 1 0]),some (.cells (AH c++AD q++[.ints pos,.msl 2 1 0 ln])),some (.ints Da),some (.cells [.fn 107 1 (L1 [.ref 0 0])]),some (.cells [.i (pos.getD ((c.cells.getD 1 0).toNat) 0)]),some (.cells [.i DB]),some (.cells [.i DA]),none,some (.cells [.i Ay]),none]
inductive Jz where
 | s0 (Da:List Int) (DB DA:Int)
def gE (c:AB) (q:AA) (pos:List Int) (ln:Nat) (Ay:Int):Jz -> DH
 | .s0 Da DB DA=>[some (.cells [.ref 1 0]),some (.cells (AH c++AD q++[.ints pos,.msl 2 1 0 ln])),some (.ints Da),some (.cells [.fn 107 1 (L1 [.ref 0 0])]),some (.cells [.i (pos.getD ((c.cells.getD 1 0).toNat) 0)]),some (.cells [.i DB]),some (.cells [.i DA]),none,some (.cells [.i Ay]),none]
def Uf (n:Nat) (c:AB) (q:AA) (pos:List Int) (ln:Nat) (Ay DF:Int) (Da:List Int) (DB DA:Int):Option Jz:=
 (Uw n Ay DF c q pos ln Da).bind fun Nd=>
  bif Nd.1 then
   if (0<=Ay/\ Ay<=(IntKind.i64.bits:Int))/\ (0<=DF/\ DF<=(IntKind.i64.bits:Int)) then
    some (.s0 Nd.2 (bits .or .i64 DB (IntKind.i64.wrap (1*2 ^ (Ay).toNat))) (bits .or .i64 DA (IntKind.i64.wrap (1*2 ^ (DF).toNat))))
   else none
  else
   some (.s0 Nd.2 DB DA)
def gD (n:Nat) (c:AB) (q:AA) (pos:List Int) (ln:Nat) (Ay DF:Int):Jz -> Option Jz
 | .s0 Da DB DA=>Uf n c q pos ln Ay DF Da DB DA
def Ug (n:Nat) (c:AB) (q:AA) (pos:List Int) (ln:Nat) (Ay DF:Int) (s:Jz):Option Jz:=gD n c q pos ln Ay DF s
theorem tF (n:Nat) (c:AB) (q:AA) (pos:List Int) (ln:Nat) (Ay:Int) (l B:Nat) (N:Yd 10) (DF:Int) (s:Jz) (r:Jz) (h:Ug n c q pos ln Ay DF s=some r):TA l B N (DT 10 [] 0 (gE c q pos ln Ay r)) Tryz.f105 45 ⟨AM 69 [(3,.ref 3 0),(9,.ref 5 0),(10,.ref 6 0),(11,.ref 8 0),(45,.it 9),(46,.i DF)],gE c q pos ln Ay s⟩:=by
 cases s with
 | s0 Da DB DA=>
  replace h:Uf n c q pos ln Ay DF Da DB DA=some r:=h;unfold Uf at h;refine ag Kx [0,1,2,3,4,5,6,7,8,9] H0 (AM 69 [(3,.ref 3 0),(9,.ref 5 0),(10,.ref 6 0),(11,.ref 8 0),(12,.i DF)]) (jG c q pos ln Da DB DA Ay) fun N=>?_
  revert r;apply gO;exact ce tq [0,1,2] (jG c q pos ln Da DB DA Ay) fun _=>bi 50 (jg pn (gc (gi (jt (jg pp (gi (jt (lF fun p=>rr Kx [0,1,2,3,4,5,6,7,8,9] rfl p)))))))) (lF fun p=>rr Kx [0,1,2,3,4,5,6,7,8,9] rfl p)
inductive J0 where
 | s0 (Cm:List Int) (Cl Ck:Int)
def gF (c:AB) (q:AA) (pos:List Int) (ln:Nat):J0 -> DH
 | .s0 Cm Cl Ck=>[some (.cells [.ref 1 0]),some (.cells (AH c++AD q++[.ints pos,.msl 2 1 0 ln])),some (.ints Cm),some (.cells [.fn 107 1 (L1 [.ref 0 0])]),some (.cells [.i (pos.getD ((c.cells.getD 1 0).toNat) 0)]),some (.cells [.i Cl]),some (.cells [.i Ck]),none]
def Ue (n:Nat) (c:AB) (q:AA) (pos:List Int) (ln:Nat) (Ay:Int) (Cm:List Int) (Cl Ck:Int):Option J0:=
 if 0<=(pos.getD ((c.cells.getD 1 0).toNat) 0)/\ (pos.getD ((c.cells.getD 1 0).toNat) 0)<9223372036854775808 then
  (B6 (Ug n c q pos ln Ay) (BN (pos.getD ((c.cells.getD 1 0).toNat) 0)) (.s0 Cm Cl Ck)).bind fun Nf=>
   match Nf with
   | .s0 TC TB S9=>
    some (.s0 TC TB S9)
 else none
def gC (n:Nat) (c:AB) (q:AA) (pos:List Int) (ln:Nat) (Ay:Int):J0 -> Option J0
 | .s0 Cm Cl Ck=>Ue n c q pos ln Ay Cm Cl Ck
def Uh (n:Nat) (c:AB) (q:AA) (pos:List Int) (ln:Nat) (Ay:Int) (s:J0):Option J0:=gC n c q pos ln Ay s
theorem tE (n:Nat) (c:AB) (q:AA) (pos:List Int) (ln:Nat) (l B:Nat) (N:Yd 8) (Ay:Int) (s:J0) (r:J0) (h:Uh n c q pos ln Ay s=some r):TA l B N (DT 8 [] 0 (gF c q pos ln r)) Tryz.f105 42 ⟨AM 69 [(0,.ref 1 0),(3,.ref 3 0),(5,.i (c.cells.getD 0 0)),(6,.i (c.cells.getD 1 0)),(8,.ref 4 0),(9,.ref 5 0),(10,.ref 6 0),(42,.it 7),(43,.i Ay)],gF c q pos ln s⟩:=by
 cases s with
 | s0 Cm Cl Ck=>
  replace h:Ue n c q pos ln Ay Cm Cl Ck=some r:=h;unfold Ue at h;refine ag Kx [0,1,2,3,4,5,6,7,8] (H0.t) (AM 69 [(3,.ref 3 0),(8,.ref 4 0),(9,.ref 5 0),(10,.ref 6 0),(11,.ref 8 0)]) (jH c q pos ln Cm Cl Ck Ay) fun N=>?_
  revert r;apply gO
  exact gn fun bZ=>jc (Jk bZ (jH c q pos ln Cm Cl Ck Ay)) (cn fun Nf aS=>fun p r h=>by
   refine gs Kx [0,1,2,3,4,5,6,7,8,9] p (Gi (UF Tryz.f105 42) 45 []) (AM 69 [(3,.ref 3 0),(9,.ref 5 0),(10,.ref 6 0),(11,.ref 8 0),(45,.it 9)]) (xp c q pos ln Cm Cl Ck Ay) ?_;refine r0 9 45 #[46] Bg 10 aS (tF n c q pos ln Ay) ?_;cases Nf with
   | s0 TC TB S9=>
    dsimp only at h
    revert r;apply gO;exact lF fun p=>rr Kx [0,1,2,3,4,5,6,7] rfl p)
def gB (n:Nat) (c:AB) (q:AA) (pos:List Int) (ln:Nat) (lost:List Int):Option (Bool×(List Int)):=
 if ((0:Int)<=0/\ 0<(c.cells.length:Int))/\ ((0:Int)<=1/\ 1<(c.cells.length:Int))/\ (0<=(c.cells.getD 0 0)/\ (c.cells.getD 0 0)<(pos.length:Int))/\ (0<=(c.cells.getD 1 0)/\ (c.cells.getD 1 0)<(pos.length:Int))/\ (0<=(pos.getD ((c.cells.getD 0 0).toNat) 0)/\ (pos.getD ((c.cells.getD 0 0).toNat) 0)<9223372036854775808) then
  (B6 (Uh n c q pos ln) (BN (pos.getD ((c.cells.getD 0 0).toNat) 0)) (.s0 lost 0 0)).bind fun y1=>
   match y1 with
   | .s0 Dh Dg FP=>
    (DP n (c.cells.getD 0 0) (bits .xor .i64 (-1) Dg) c q pos ln Dh).bind fun y2=>
     (DP n (c.cells.getD 1 0) (bits .xor .i64 (-1) FP) c q pos ln y2).bind fun y3=>
      some (true,y3)
 else none
def YQ (n:Nat) (c:AB) (q:AA) (pos:List Int) (ln:Nat) (lost:List Int):Option (Bool×(List Int)):=gB n c q pos ln lost
theorem tD {n:Nat} {c:AB} {q:AA} {pos:List Int} {ln:Nat} {lost:List Int} {r:Bool×(List Int)} (h:YQ n c q pos ln lost=some r):EQ 105 [.ref 1 0,.fn 107 1 (L1 [.ref 0 0])] [some (.cells [.ref 1 0]),some (.cells (AH c++AD q++[.ints pos,.msl 2 1 0 ln])),some (.ints lost)] (.bool r.1) [some (.cells [.ref 1 0]),some (.cells (AH c++AD q++[.ints pos,.msl 2 1 0 ln])),some (.ints r.2)] false:=by
 refine ot Tryz.func105 fun B N=>?_
 revert r;apply gO
 exact jg pq (gc (gi (gc (gi (jg po (gc (gi (gc (gi (jt (gn fun g4=>jc (Jk g4 (xw c q pos ln lost)) (cn fun y1 A0=>fun p r h=>by
  refine gs Kx [0,1,2,3,4,5,6,7] p (Gi (AZ Tryz.f105) 42 []) (AM 69 [(0,.ref 1 0),(3,.ref 3 0),(5,.i (c.cells.getD 0 0)),(6,.i (c.cells.getD 1 0)),(8,.ref 4 0),(9,.ref 5 0),(10,.ref 6 0),(42,.it 7)]) (xu c q pos ln lost) ?_;refine r0 7 42 #[43] Bg 8 A0 (tE n c q pos ln) ?_;cases y1 with
  | s0 Dh Dg FP=>
   dsimp only at h
   revert r;apply gO;exact ce Fs [1,2] (xt c q pos ln Dh Dg FP) fun y2=>ce Fs [1,2] (xq c q pos ln y2 Dg FP) fun _=>lE Kx [4] [0,1,2]))))))))))))
def bs (n:Nat) (c:AB) (q:AA) (pos:List Int) (ln:Nat) (lost:List Int):Option (Bool×(List Int)):=
 (YR n c q pos ln lost).bind fun y1=>
  some (y1.1,y1.2)
def Nh (n:Nat) (c:AB) (q:AA) (pos:List Int) (ln:Nat) (lost:List Int):Option (Bool×(List Int)):=bs n c q pos ln lost
theorem zCM {n:Nat} {c:AB} {q:AA} {pos:List Int} {ln:Nat} {lost:List Int} {r:Bool×(List Int)} (h:Nh n c q pos ln lost=some r):EQ 73 [.ref 0 0] [some (.cells (AH c++AD q++[.ints pos,.msl 1 1 0 ln])),some (.ints lost)] (.bool r.1) [some (.cells (AH c++AD q++[.ints pos,.msl 1 1 0 ln])),some (.ints r.2)] false:=by
 unfold Nh bs at h;refine ot Tryz.func73 fun B N=>?_
 revert r;apply gO;exact ce tG [2,0,1] [some (.cells (AH c++AD q++[.ints pos,.msl 1 1 0 ln])),some (.ints lost),some (.cells [.ref 0 0])] fun _=>lE AE [2] [0,1]
def Ye (n:Nat) (c:AB) (q:AA) (pos:List Int) (ln:Nat) (lost:List Int):Option (Bool×(List Int)):=
 (YQ n c q pos ln lost).bind fun y1=>
  some (y1.1,y1.2)
def Mh (n:Nat) (c:AB) (q:AA) (pos:List Int) (ln:Nat) (lost:List Int):Option (Bool×(List Int)):=Ye n c q pos ln lost
theorem tp {n:Nat} {c:AB} {q:AA} {pos:List Int} {ln:Nat} {lost:List Int} {r:Bool×(List Int)} (h:Mh n c q pos ln lost=some r):EQ 74 [.ref 0 0] [some (.cells (AH c++AD q++[.ints pos,.msl 1 1 0 ln])),some (.ints lost)] (.bool r.1) [some (.cells (AH c++AD q++[.ints pos,.msl 1 1 0 ln])),some (.ints r.2)] false:=by
 unfold Mh Ye at h;refine ot Tryz.func74 fun B N=>?_
 revert r;apply gO;exact ce tD [2,0,1] [some (.cells (AH c++AD q++[.ints pos,.msl 1 1 0 ln])),some (.ints lost),some (.cells [.ref 0 0])] fun _=>lE AE [2] [0,1]
end Go.Proofs.YtgkhhfnhacibcaaGreatDoor
namespace Go.Proofs.YtgkhhfnhacibcaaGreatDoor
abbrev zEt:=@List.drop_zero
end Go.Proofs.YtgkhhfnhacibcaaGreatDoor
namespace Go.Proofs.YtgkhhfnhacibcaaGreatDoor
open Go.RowKit
set_option maxRecDepth 100000
set_option maxHeartbeats 40000000
def zB8 (n:Nat) (s_:List Int):Option Unit:=
 some ()
def zCA (n:Nat) (s_:List Int):Option Unit:=zB8 n s_
theorem zB7 {n:Nat} (s_:List Int) {r:Unit} (h:zCA n s_=some r):EQ 102 [.ints s_] [] (.fn 120 1 (L1 [.ref 0 0])) [some (.cells [.ints s_])] true:=by
 refine ot Tryz.func102 fun B N=>?_
 revert r;apply gO;exact lE AE [2] [0]
inductive Pg where
 | l1 (x3:Int)
def Nc (n:Nat) (self:Pg -> Option (List (Int×Int))) (s_:List Int) (x3:Int):Option (List (Int×Int)):=
 bif (decide (x3>=0)) then
  if 0<=x3/\ x3<(s_.length:Int) then
   Option.map (fun l=>(x3,s_.getD ((x3).toNat) 0)::l) (
    if AI (x3-1) then
     self (.l1 (x3-1))
    else none)
  else none
 else
  some []
def bW (n:Nat) (self:Pg -> Option (List (Int×Int))) (s_:List Int):Option (List (Int×Int)):=
 if AI ((s_.length:Int)-1) then
  self (.l1 ((s_.length:Int)-1))
 else none
def Lr (s_:List Int):Nat -> Pg -> Option (List (Int×Int))
 | 0,_=>none
 | n+1,.l1 x3=>Nc n (Lr s_ n) s_ x3
def back (n:Nat) (s_:List Int):Option (List (Int×Int)):=bW n (Lr s_ n) s_
def bX (C:DI Tryz.prog GG) (n:Nat) (s_:List Int) (r:List (Int×Int)):Pg -> Prop
 | .l1 x3=>∀ m0:Nat,n<=m0 -> ∀ i:Nat,i<=C.encs.length -> C.encs.drop i=r.map NS -> Av Tryz.prog GG Fence.wide none 1 (C.Y 1 i) (C.Q 1) (Ak m0 (Au (AZ Tryz.f120) 0 [])) ⟨AM 19 [(0,.yl C.l),(1,.ref 0 0),(3,.i x3)],[some (.cells [.ints s_])]⟩
theorem zB4 (C:DI Tryz.prog GG) (n:Nat) (self:Pg -> Option (List (Int×Int))) (s_:List Int) (AG: ∀ pt r,self pt=some r -> bX C n s_ r pt) (x3:Int) (r:List (Int×Int)) (h:Nc n self s_ x3=some r):bX C (n+1) s_ r (.l1 x3):=by
 intro m0 AC;intro i hi hd;refine rd AC fun m0 AC=>?_
 unfold Nc at h;have p:=H0;rcases Gh h with ⟨c0,h⟩ | ⟨c0,h⟩
 ·have p:=H0.b 8 c0;refine gs (BS 3 AE) [0] p (GQ (AZ Tryz.f120) 3 [m0]) (AM 19 [(0,.yl C.l),(1,.ref 0 0),(3,.i x3)]) [some (.cells [.ints s_])] ?_;obtain ⟨g0,h⟩:=EI h;have p:=H0.g g0;obtain ⟨r,h2,rfl⟩:=U1 h;clear h;have h:=h2;clear h2;obtain ⟨hx,hi,hd⟩:=WO hd;refine Av.y (ops:=BA Tryz.f120 3) HC.x 6 [0,1,3,18] [0] p (x:=NS (x3,s_.getD ((x3).toNat) 0)) (AM 19 [(0,.yl C.l),(1,.ref 0 0),(3,.i x3),(18,.bool false)]) [some (.cells [.ints s_])] (AM 19 [(0,.yl C.l),(1,.ref 0 0),(3,.i x3),(18,.bool true)]) [some (.cells [.ints s_])] (by kernel_rfl) (by kernel_rfl) (by kernel_rfl) hx (by kernel_rfl) ?_ ?_
  ·generalize i+1=i at hi hd ⊢
   obtain ⟨g1,h⟩:=EI h;have p:=H0.w 10 g1;exact gg AE [0] p (AG _ _ h m0 AC i hi hd)
  ·exact TrI.e HC.x AE 6 H0 (by kernel_rfl) (.inr rfl)
 ·have p:=H0.b 8 c0;cases h;exact TrI.e HC.x AE 10 p (by kernel_rfl) (.inl (by rw [SZ hi hd]))
theorem lz (C:DI Tryz.prog GG) (s_:List Int): ∀ (n:Nat) (pt:Pg) (r:List (Int×Int)),Lr s_ n pt=some r -> bX C n s_ r pt
 | 0,_,_,h=>by cases h
 | n+1,.l1 x3,r,h=>zB4 C n (Lr s_ n) s_ (lz C s_ n) x3 r h
theorem zB5 {n:Nat} (s_:List Int) {r:List (Int×Int)} (h:back n s_=some r) (C:DI Tryz.prog GG) (hC:C.encs=r.map NS):Av Tryz.prog GG Fence.wide none 1 (C.Y 1 0) (C.Q 1) [.code (AZ Tryz.f120)] ⟨AM 19 [(0,.yl C.l),(1,.ref 0 0)],[some (.cells [.ints s_])]⟩:=by
 suffices H: ∀ i:Nat,i<=C.encs.length -> C.encs.drop i=r.map NS -> Av Tryz.prog GG Fence.wide none 1 (C.Y 1 i) (C.Q 1) [.code (AZ Tryz.f120)] ⟨AM 19 [(0,.yl C.l),(1,.ref 0 0)],[some (.cells [.ints s_])]⟩ from H 0 (zD0 _) (by rw [zEt];exact hC)
 intro i hi hd;have AG:=lz C s_ n;unfold back at h
 generalize Lr s_ n=self at h AG
 unfold bW at h;obtain ⟨g0,h⟩:=EI h;have p:=H0.w 6 g0;exact gg AE [0] p (en n (AG _ _ h n Nat.le.refl i hi hd))
theorem zB9 {n:Nat} {s_:List Int} {r:List (Int×Int)} (h:back n s_=some r) (H:DH):EQ 102 [.ints s_] H (.it H.length) (H++[some (.iter (r.map NS))]) true:=by
 refine ES.iterN (c:=L1 [.ref 0 0]) (h0:=[some (.cells [.ints s_])]) (fn:=Tryz.f120) (zB7 (n:=0) s_ (r:=()) rfl) (by kernel_rfl) Tryz.func120 (by kernel_rfl) (by kernel_rfl) (by kernel_rfl) (fun C hC=>?_) H;have e:DV.yl C.l::(List.range 1).map (L1 [.ref 0 0])++List.replicate (Tryz.f120.ntmps-(1+1)) .any=AM 19 [(0,.yl C.l),(1,.ref 0 0)]:=by kernel_rfl
 rw [e];exact zB5 s_ h C hC
end Go.Proofs.YtgkhhfnhacibcaaGreatDoor
namespace Go.Proofs.YtgkhhfnhacibcaaGreatDoor
open Go.RowKit
set_option maxRecDepth 100000
set_option maxHeartbeats 40000000
def sI (n:Nat) (g_:List (List Int)) (AP:List Bool) (start:Int):Option Unit:=
 some ()
def sJ (n:Nat) (g_:List (List Int)) (AP:List Bool) (start:Int):Option Unit:=sI n g_ AP start
theorem sH {n:Nat} (g_:List (List Int)) (AP:List Bool) (start:Int) {r:Unit} (h:sJ n g_ AP start=some r):EQ 127 [.sl 1 g_.length (As A4 g_),.bools AP,.i start] [] (.fn 132 3 (L1 [.ref 0 0,.ref 1 0,.ref 2 0])) [some (.cells [.sl 1 g_.length (As A4 g_)]),some (.cells [.i start]),some (.cells [.bools AP])] true:=by
 refine ot Tryz.func127 fun B N=>?_
 revert r;apply gO;exact lE AE [6] [0,2,1]
theorem ph:At (BA Tryz.f132 6) [] (List.range 8) []:=by unfold At;kernel_rfl
def IG:Bb:=fun i=>match i with
 | 6=>.ord [] (List.range 8) []
 | _=>.no
def Vh (g:List (List Int)) (start:Int) (inn o3:List Bool) (o4:List Int):DH:=[some (.cells [.sl 1 g.length (As A4 g)]),some (.cells [.i start]),some (.cells [.bools inn]),some (.bools o3),some (.ints o4)]
inductive I7 where
 | l1 (x6:Nat) (o3:List Bool) (o4:List Int)
 | l2 (x6:Nat) (Bn:List Int) (CX A6:Int) (o3:List Bool) (o4:List Int)
 | l3 (o3:List Bool)
def MU (n:Nat) (self:I7 -> Option (List Int)) (g:List (List Int)) (start:Int) (inn:List Bool) (x6:Nat) (o3:List Bool) (o4:List Int):Option (List Int):=
 bif (decide ((x6:Int)>0)) then
  if ((0:Int)<=0/\ 0<(x6:Int))/\ 0+0<o4.length then
   Option.map (fun l=>(o4.getD (0+0) 0)::l) (
    if ((0:Int)<=0/\ 0<(x6:Int))/\ 0+0<o4.length/\ (0<=(o4.getD (0+0) 0)/\ (o4.getD (0+0) 0)<(g.length:Int)) then
     self (.l2 x6 (g.getD ((o4.getD (0+0) 0).toNat) []) (((g.getD ((o4.getD (0+0) 0).toNat) []).length:Nat):Int) 0 o3 o4)
    else none)
  else none
 else
  some []
def Jv (n:Nat) (self:I7 -> Option (List Int)) (g:List (List Int)) (start:Int) (inn:List Bool) (x6:Nat) (Bn:List Int) (CX A6:Int) (o3:List Bool) (o4:List Int):Option (List Int):=
 bif (decide (A6<CX)) then
  if (0<=A6/\ A6<(Bn.length:Int))/\ (0<=(Bn.getD ((A6).toNat) 0)/\ (Bn.getD ((A6).toNat) 0)<(inn.length:Int)) then
   bif (inn.getD ((Bn.getD ((A6).toNat) 0).toNat) false) then
    if (0<=(Bn.getD ((A6).toNat) 0)/\ (Bn.getD ((A6).toNat) 0)<(g.length:Int))/\ 0+((Bn.getD ((A6).toNat) 0).toNat)<o3.length then
     bif (!(o3.getD (0+((Bn.getD ((A6).toNat) 0).toNat)) false)) then
      if ((0=0/\ 1=([Bn.getD ((A6).toNat) 0]:List Int).length)/\ (0=0/\ x6=o4.length)/\ o4.length+([Bn.getD ((A6).toNat) 0]:List Int).length<=BE)/\ AI (A6+1) then
       self (.l2 (o4.length+([Bn.getD ((A6).toNat) 0]:List Int).length) Bn CX (A6+1) (o3.set (0+((Bn.getD ((A6).toNat) 0).toNat)) true) (o4++([Bn.getD ((A6).toNat) 0]:List Int)))
      else none
     else
      if AI (A6+1) then
       self (.l2 x6 Bn CX (A6+1) o3 o4)
      else none
    else none
   else
    if AI (A6+1) then
     self (.l2 x6 Bn CX (A6+1) o3 o4)
    else none
  else none
 else
  bif ((x6-1)==0) then
   if (0:Int)<=1/\ (1:Int)<=(x6:Int)/\ (x6:Int)<=(x6:Int) then
    self (.l3 o3)
   else none
  else
   if (0:Int)<=1/\ (1:Int)<=(x6:Int)/\ (x6:Int)<=(x6:Int) then
    if 1<=o4.length then
     self (.l1 (x6-1) o3 (o4.drop 1))
    else none
   else none
def X5 (n:Nat) (self:I7 -> Option (List Int)) (g:List (List Int)) (start:Int) (inn:List Bool) (o3:List Bool):Option (List Int):=
 some []
def X6 (n:Nat) (self:I7 -> Option (List Int)) (g:List (List Int)) (start:Int) (inn:List Bool):Option (List Int):=
 if (((g.length:Int):Int)=(g.length:Int)/\ 0<=(g.length:Int)/\ ((g.length:Int):Int)<=1000000000000)/\ (0<=start/\ start<(g.length:Int))/\ 0+((start).toNat)<(List.replicate g.length false).length then
  self (.l1 1 ((List.replicate g.length false).set (0+((start).toNat)) true) ([start]:List Int))
 else none
def EW (g:List (List Int)) (start:Int) (inn:List Bool):Nat -> I7 -> Option (List Int)
 | 0,_=>none
 | n+1,.l1 x6 o3 o4=>MU n (EW g start inn n) g start inn x6 o3 o4
 | n+1,.l2 x6 Bn CX A6 o3 o4=>Jv n (EW g start inn n) g start inn x6 Bn CX A6 o3 o4
 | n+1,.l3 o3=>X5 n (EW g start inn n) g start inn o3
def F9 (n:Nat) (g:List (List Int)) (start:Int) (inn:List Bool):Option (List Int):=X6 n (EW g start inn n) g start inn
def MV (C:DI Tryz.prog GG) (n:Nat) (g:List (List Int)) (start:Int) (inn:List Bool) (r:List Int):I7 -> Prop
 | .l1 x6 o3 o4=>∀ m0:Nat,n<=m0 -> ∀ i:Nat,i<=C.encs.length -> C.encs.drop i=r.map Bg -> Av Tryz.prog GG Fence.wide none 3 (C.Y 3 i) (C.Q 3) (Ak m0 (Au (AZ Tryz.f132) 0 [])) ⟨AM 58 [(0,.yl C.l),(1,.ref 0 0),(3,.ref 2 0),(5,.msl 3 1 0 g.length),(6,.msl 4 1 0 x6)],[some (.cells [.sl 1 g.length (As A4 g)]),some (.cells [.i start]),some (.cells [.bools inn]),some (.bools o3),some (.ints o4)]⟩
 | .l2 x6 Bn CX A6 o3 o4=>∀ m0 m1:Nat,n<=m0 -> n<=m1 -> ∀ i:Nat,i<=C.encs.length -> C.encs.drop i=r.map Bg -> Av Tryz.prog GG Fence.wide none 3 (C.Y 3 i) (C.Q 3) (Ak m1 (Au (AZ Tryz.f132) 2 [m0])) ⟨AM 58 [(0,.yl C.l),(1,.ref 0 0),(3,.ref 2 0),(5,.msl 3 1 0 g.length),(6,.msl 4 1 0 x6),(33,.ints Bn),(34,.i CX),(35,.i A6)],[some (.cells [.sl 1 g.length (As A4 g)]),some (.cells [.i start]),some (.cells [.bools inn]),some (.bools o3),some (.ints o4)]⟩
 | .l3 o3=>∀ m0:Nat,n<=m0 -> ∀ i:Nat,i<=C.encs.length -> C.encs.drop i=r.map Bg -> Av Tryz.prog GG Fence.wide none 3 (C.Y 3 i) (C.Q 3) (Ak m0 (Au (AZ Tryz.f132) 0 [])) ⟨AM 58 [(0,.yl C.l),(1,.ref 0 0),(3,.ref 2 0),(5,.msl 3 1 0 g.length),(6,.ints ([]:List Int))],[some (.cells [.sl 1 g.length (As A4 g)]),some (.cells [.i start]),some (.cells [.bools inn]),some (.bools o3)]⟩
theorem sC (C:DI Tryz.prog GG) (n:Nat) (self:I7 -> Option (List Int)) (g:List (List Int)) (start:Int) (inn:List Bool) (AG: ∀ pt r,self pt=some r -> MV C n g start inn r pt) (x6:Nat) (o3:List Bool) (o4:List Int) (r:List Int) (h:MU n self g start inn x6 o3 o4=some r):MV C (n+1) g start inn r (.l1 x6 o3 o4):=by
 intro m0 AC;intro i hi hd;refine rd AC fun m0 AC=>?_
 unfold MU at h;have p:=H0;rcases Gh h with ⟨c0,h⟩ | ⟨c0,h⟩
 ·have p:=H0.b 19 c0;refine gs (BS 5 IG) [0,1,2,3,4] p (GQ (AZ Tryz.f132) 5 [m0]) (AM 58 [(0,.yl C.l),(1,.ref 0 0),(3,.ref 2 0),(5,.msl 3 1 0 g.length),(6,.msl 4 1 0 x6)]) (Vh g start inn o3 o4) ?_;obtain ⟨⟨g0,g1⟩,h⟩:=EI h;have p:=H0.g g0 |>.g g1
  obtain ⟨r,h2,rfl⟩:=U1 h;clear h;have h:=h2;clear h2;obtain ⟨hx,hi,hd⟩:=WO hd;refine Av.y (ops:=BA Tryz.f132 5) HC.x 4 [0,1,3,5,6,27] [0,1,2,3,4] p (x:=Bg (o4.getD (0+0) 0)) (AM 58 [(0,.yl C.l),(1,.ref 0 0),(3,.ref 2 0),(5,.msl 3 1 0 g.length),(6,.msl 4 1 0 x6),(27,.bool false)]) (Vh g start inn o3 o4) (AM 58 [(0,.yl C.l),(1,.ref 0 0),(3,.ref 2 0),(5,.msl 3 1 0 g.length),(6,.msl 4 1 0 x6),(27,.bool true)]) (Vh g start inn o3 o4) (by kernel_rfl) (by kernel_rfl) (by kernel_rfl) hx (by kernel_rfl) ?_ ?_
  ·generalize i+1=i at hi hd ⊢
   obtain ⟨⟨g2,g3,g4⟩,h⟩:=EI h;have p:=H0.g ph |>.g g2 |>.g g3 |>.g g4
   exact gg IG [0,1,2,3,4] p (en n (AG _ _ h m0 n AC Nat.le.refl i hi hd))
  ·exact TrI.e HC.x IG 6 H0 (by kernel_rfl) (.inr rfl)
 ·have p:=H0.b 19 c0;cases h;exact TrI.e HC.x IG 10 p (by kernel_rfl) (.inl (by rw [SZ hi hd]))
theorem sB (C:DI Tryz.prog GG) (n:Nat) (self:I7 -> Option (List Int)) (g:List (List Int)) (start:Int) (inn:List Bool) (AG: ∀ pt r,self pt=some r -> MV C n g start inn r pt) (x6:Nat) (Bn:List Int) (CX A6:Int) (o3:List Bool) (o4:List Int) (r:List Int) (h:Jv n self g start inn x6 Bn CX A6 o3 o4=some r):MV C (n+1) g start inn r (.l2 x6 Bn CX A6 o3 o4):=by
 intro m0 m1 AC Am;intro i hi hd;have AC:=zDW AC;refine rd Am fun m1 Am=>?_
 unfold Jv at h;have p:=H0;rcases Gh h with ⟨c0,h⟩ | ⟨c0,h⟩
 ·obtain ⟨⟨g0,g1⟩,h⟩:=EI h;have p:=H0.b 36 c0 |>.g g0 |>.g g1
  rcases Gh h with ⟨c1,h⟩ | ⟨c1,h⟩
  ·obtain ⟨⟨g2,g3⟩,h⟩:=EI h;have p:=p.b 42 c1 |>.g g2 |>.g g3
   rcases Gh h with ⟨c2,h⟩ | ⟨c2,h⟩
   ·obtain ⟨⟨g4,g5⟩,h⟩:=EI h;have p:=p.b 48 c2 |>.g g2 |>.g g3 |>.g g4 |>.w 57 g5
    exact gg IG [0,1,2,3,6] p (AG _ _ h m0 m1 AC Am i hi hd)
   ·obtain ⟨g4,h⟩:=EI h;have p:=p.b 48 c2 |>.w 57 g4
    exact gg IG [0,1,2,3,4] p (AG _ _ h m0 m1 AC Am i hi hd)
  ·obtain ⟨g2,h⟩:=EI h;have p:=p.b 42 c1 |>.w 57 g2
   exact gg IG [0,1,2,3,4] p (AG _ _ h m0 m1 AC Am i hi hd)
 ·have p:=H0.b 36 c0;rcases Gh h with ⟨c1,h⟩ | ⟨c1,h⟩
  ·obtain ⟨g0,h⟩:=EI h;have p:=p.g g0 |>.o 21 (AQ.mse_nil (k:=4) (m:=1) (o:=1) (eq_of_beq c1))
   exact gg IG [0,1,2,3] p (AG _ _ h m0 AC i hi hd)
  ·obtain ⟨g0,h⟩:=EI h;have p:=p.g g0 |>.o 21 (AQ.mse_msl (k:=4) (m:=1) (o:=1) (UZ c1) rfl)
   obtain ⟨g1,h⟩:=EI h;refine gs IG [0,1,2,3,4] p (Ak m0 (Au (AZ Tryz.f132) 0 [])) (AM 58 [(0,.yl C.l),(1,.ref 0 0),(3,.ref 2 0),(5,.msl 3 1 0 g.length),(6,.msl 4 1 1 (x6-1))]) (Vh g start inn o3 o4) ?_;refine BU.le (BO.rootE 4 1 ⟨AM 58 [(0,.yl C.l),(1,.ref 0 0),(3,.ref 2 0),(5,.msl 3 1 0 g.length),(6,.msl 5 1 0 (x6-1))],[some (.cells [.sl 1 g.length (As A4 g)]),some (.cells [.i start]),some (.cells [.bools inn]),some (.bools o3),none,some (.ints (o4.drop 1))]⟩ [1<=o4.length] (by kernel_rfl) ⟨g1,trivial⟩) (by kernel_rfl) ?_;refine BU.le (BO.compE [0,1,2,3,5] (by kernel_rfl)) (by kernel_rfl) ?_;exact AG _ _ h m0 AC i hi hd
theorem sA (C:DI Tryz.prog GG) (n:Nat) (self:I7 -> Option (List Int)) (g:List (List Int)) (start:Int) (inn:List Bool) (AG: ∀ pt r,self pt=some r -> MV C n g start inn r pt) (o3:List Bool) (r:List Int) (h:X5 n self g start inn o3=some r):MV C (n+1) g start inn r (.l3 o3):=by
 intro m0 AC;intro i hi hd;refine rd AC fun m0 AC=>?_
 unfold X5 at h;have p:=H0;cases h;exact TrI.e HC.x IG 10 p (by kernel_rfl) (.inl (by rw [SZ hi hd]))
theorem UM (C:DI Tryz.prog GG) (g:List (List Int)) (start:Int) (inn:List Bool): ∀ (n:Nat) (pt:I7) (r:List Int),EW g start inn n pt=some r -> MV C n g start inn r pt
 | 0,_,_,h=>by cases h
 | n+1,.l1 x6 o3 o4,r,h=>sC C n (EW g start inn n) g start inn (UM C g start inn n) x6 o3 o4 r h
 | n+1,.l2 x6 Bn CX A6 o3 o4,r,h=>sB C n (EW g start inn n) g start inn (UM C g start inn n) x6 Bn CX A6 o3 o4 r h
 | n+1,.l3 o3,r,h=>sA C n (EW g start inn n) g start inn (UM C g start inn n) o3 r h
theorem sG {n:Nat} (g:List (List Int)) (start:Int) (inn:List Bool) {r:List Int} (h:F9 n g start inn=some r) (C:DI Tryz.prog GG) (hC:C.encs=r.map Bg):Av Tryz.prog GG Fence.wide none 3 (C.Y 3 0) (C.Q 3) [.code (AZ Tryz.f132)] ⟨AM 58 [(0,.yl C.l),(1,.ref 0 0),(2,.ref 1 0),(3,.ref 2 0)],[some (.cells [.sl 1 g.length (As A4 g)]),some (.cells [.i start]),some (.cells [.bools inn])]⟩:=by
 suffices H: ∀ i:Nat,i<=C.encs.length -> C.encs.drop i=r.map Bg -> Av Tryz.prog GG Fence.wide none 3 (C.Y 3 i) (C.Q 3) [.code (AZ Tryz.f132)] ⟨AM 58 [(0,.yl C.l),(1,.ref 0 0),(2,.ref 1 0),(3,.ref 2 0)],[some (.cells [.sl 1 g.length (As A4 g)]),some (.cells [.i start]),some (.cells [.bools inn])]⟩ from H 0 (zD0 _) (by rw [zEt];exact hC)
 intro i hi hd;have AG:=UM C g start inn n;unfold F9 at h
 generalize EW g start inn n=self at h AG
 unfold X6 at h;obtain ⟨⟨g0,g1,g2⟩,h⟩:=EI h;have p:=H0.g g0 |>.g g1 |>.g g2
 exact gg IG [0,1,2,3,4] p (en n (AG _ _ h n Nat.le.refl i hi hd))
theorem X8 {n:Nat} {g_:List (List Int)} {AP:List Bool} {start:Int} {r:List Int} (h:F9 n g_ start AP=some r) (H:DH):EQ 127 [.sl 1 g_.length (As A4 g_),.bools AP,.i start] H (.it H.length) (H++[some (.iter (r.map Bg))]) true:=by
 refine ES.iterN (c:=L1 [.ref 0 0,.ref 1 0,.ref 2 0]) (h0:=[some (.cells [.sl 1 g_.length (As A4 g_)]),some (.cells [.i start]),some (.cells [.bools AP])]) (fn:=Tryz.f132) (sH (n:=0) g_ AP start (r:=()) rfl) (by kernel_rfl) Tryz.func132 (by kernel_rfl) (by kernel_rfl) (by kernel_rfl) (fun C hC=>?_) H;have e:DV.yl C.l::(List.range 3).map (L1 [.ref 0 0,.ref 1 0,.ref 2 0])++List.replicate (Tryz.f132.ntmps-(3+1)) .any=AM 58 [(0,.yl C.l),(1,.ref 0 0),(2,.ref 1 0),(3,.ref 2 0)]:=by kernel_rfl
 rw [e];exact sG g_ start AP h C hC
end Go.Proofs.YtgkhhfnhacibcaaGreatDoor
namespace Go.Proofs.YtgkhhfnhacibcaaGreatDoor
abbrev zCw:=@decide_eq_true_iff
abbrev zDL:=@List.mem_append_left
abbrev zDM:=@List.length_singleton
abbrev zDX:=@List.mem_append_right
abbrev zDs:=@List.getElem?_set_self
abbrev zD6:=@Bool.false_and
abbrev zEQ:=@List.countP_cons
abbrev zEX:=@List.append_nil
abbrev zEo:=@List.countP_le_length
abbrev zEp:=@List.append_assoc
abbrev zEu:=@Bool.and_false
end Go.Proofs.YtgkhhfnhacibcaaGreatDoor
namespace Go.Proofs.YtgkhhfnhacibcaaGreatDoor
open Go.RowKit
def nb (g:List (List Int)) (v:Int):List Int:=g.getD v.toNat []
structure Gr (g:List (List Int)):Prop where
 len:g.length<=256
 row: ∀ v,0<=v -> v<(g.length:Int) -> (nb g v).length<=256
 rng: ∀ v,0<=v -> v<(g.length:Int) -> ∀ u∈nb g v,0<=u/\ u<(g.length:Int)
 sym: ∀ v,0<=v -> v<(g.length:Int) -> ∀ u∈nb g v,v∈nb g u
theorem Gr.of {g:List (List Int)} (h:Hu g=true) (hr: ∀ r∈g,r.length<=LB):Gr g:=by
 unfold Hu at h;rw [zCp,zCw,zCs] at h
 have key: ∀ v,0<=v -> v<(g.length:Int) -> ∀ u∈nb g v,(0<=u/\ u<(g.length:Int))/\ v∈nb g u:=by
  intro v h0 h1 u hu;have h2:=h.2 v.toNat (zCy.2 (by omega));unfold Gv at h2;rw [zCs] at h2;obtain ⟨j,hj,e⟩:=zDq hu;have h3:=h2 j (zCy.2 hj);unfold Ey at h3
  have e2:(g.getD v.toNat []).getD j 0=u:=by
   show (nb g v).getD j 0=u
   rw [u8,zAe hj];exact e
  simp only [e2,zCp,zCw,zEH] at h3;have e3:((v.toNat:Nat):Int)=v:=by omega
  rw [e3] at h3;exact ⟨⟨h3.1.1.1.1,h3.1.1.1.2⟩,h3.2⟩
 have grow: ∀ v,0<=v -> v<(g.length:Int) -> ∀ k,k<(nb g v).length -> (k:Int)<=(nb g v).getD k 0:=by
  intro v h0 h1 k;have h2:=h.2 v.toNat (zCy.2 (by omega));unfold Gv at h2;rw [zCs] at h2
  induction k with
  | zero=>
   intro hk;have h3:=h2 0 (zCy.2 hk);unfold Ey at h3;simp only [zCp,zCw] at h3;exact h3.1.1.1.1
  | succ k ih=>
   intro hk;have h3:=h2 (k+1) (zCy.2 hk);unfold Ey at h3;have d:decide (0<k+1)=true:=zCm (by omega);simp only [zCp,zCw,d,zDR,zEC,Nat.add_sub_cancel] at h3;have h4:(nb g v).getD k 0<(nb g v).getD (k+1) 0:=h3.1.2;have:=ih (by omega);omega
 exact ⟨h.1,fun v h0 h1=>by
  refine zFN fun hl=>?_
  have h2:=grow v h0 h1 256 hl;have h3:(nb g v).getD 256 0∈nb g v:=by rw [u8,zAe hl];exact zC5 hl
  have h4:=(key v h0 h1 _ h3).1;have:=h.1;omega,fun v h0 h1 u hu=>(key v h0 h1 u hu).1,fun v h0 h1 u hu=>(key v h0 h1 u hu).2⟩
inductive Rc (g:List (List Int)) (inn:List Bool) (s:Int):Int -> Prop
 | start:Rc g inn s s
 | step {a b:Int} (h:Rc g inn s a) (hb:b∈nb g a) (hi:inn.getD b.toNat false=true):Rc g inn s b
section
variable {g:List (List Int)} {inn:List Bool} {s:Int}
theorem Rc.rng (G:Gr g) (h0:0<=s) (h1:s<(g.length:Int)) {v:Int} (h:Rc g inn s v):0<=v/\ v<(g.length:Int):=by
 induction h with
 | start=>exact ⟨h0,h1⟩
 | step h hb hi ih=>exact G.rng _ ih.1 ih.2 _ hb
theorem Rc.isIn (hs:inn.getD s.toNat false=true) {v:Int} (h:Rc g inn s v):inn.getD v.toNat false=true:=by
 cases h with
 | start=>exact hs
 | step h hb hi=>exact hi
theorem Rc.trans {a b:Int} (h:Rc g inn s a) (h2:Rc g inn a b):Rc g inn s b:=by
 induction h2 with
 | start=>exact h
 | step _ hb hi ih=>exact .step ih hb hi
theorem Rc.symm (G:Gr g) (h0:0<=s) (h1:s<(g.length:Int)) (hs:inn.getD s.toNat false=true) {v:Int} (h:Rc g inn s v):Rc g inn v s:=by
 induction h with
 | start=>exact .start
 | step h hb hi ih=>
  have hr:=h.rng G h0 h1;exact (Rc.step Rc.start (G.sym _ hr.1 hr.2 _ hb) (h.isIn hs)).trans ih
theorem Rc.mono {ij:List Bool} (hm: ∀ v:Int,inn.getD v.toNat false=true -> ij.getD v.toNat false=true) {v:Int} (h:Rc g inn s v):Rc g ij s v:=by
 induction h with
 | start=>exact .start
 | step h hb hi ih=>exact .step ih hb (hm _ hi)
def Fh (l:List Bool):Nat:=l.countP fun b=>!b
theorem Wk: ∀ (l:List Bool) (i:Nat),i<l.length -> l.getD i false=false -> Fh (l.set i true)+1=Fh l
 | b::l,0,_,h=>by
  have h:b=false:=h;subst h;simp [Fh,zEQ]
 | b::l,i+1,hi,h=>by
  have:=Wk l i (Nat.lt_of_succ_lt_succ hi) (by simpa using h)
  show Fh (b::l.set i true)+1=Fh (b::l)
  unfold Fh at this ⊢;rw [zEQ,zEQ];omega
def De (inn:List Bool) (st:List Bool×List Int) (v:Int):List Bool×List Int:=bif inn.getD v.toNat false&&!st.1.getD v.toNat false then (st.1.set v.toNat true,st.2++[v]) else st
structure Bf (g:List (List Int)) (inn:List Bool) (s:Int) (met:List Bool) (Q P:List Int):Prop where
 len:met.length=g.length
 cnt:Q.length+Fh met<=g.length
 nd:(P++Q).Nodup
 rc: ∀ v∈P++Q,Rc g inn s v
 rng: ∀ v∈P++Q,0<=v/\ v<(g.length:Int)
 met: ∀ v:Int,0<=v -> v<(g.length:Int) -> (met.getD v.toNat false=true↔v∈P++Q)
 cl: ∀ p∈P,∀ b∈nb g p,inn.getD b.toNat false=true -> b∈P++Q
 st:s∈P++Q
theorem Bf.ex (G:Gr g) {met:List Bool} {Q P:List Int} (h:Bf g inn s met Q P) {v u:Int} (hv:v∈Q) (hu:u∈nb g v):
 Bf g inn s (De inn (met,Q) u).1 (De inn (met,Q) u).2 P/\ (∃ t,(De inn (met,Q) u).2=Q++t)/\ (inn.getD u.toNat false=true -> u∈P++(De inn (met,Q) u).2)/\ 2*Fh (De inn (met,Q) u).1+(De inn (met,Q) u).2.length<=2*Fh met+Q.length:=by
 have GL:=h.rng v (zDX _ hv);have JM:=G.rng v GL.1 GL.2 u hu;unfold De
 dsimp only
 cases hi:inn.getD u.toNat false
 ·rw [zD6,zAc];exact ⟨h,⟨[],(zEX _).symm⟩,fun h=>(by cases h),zC6 _⟩
 ·cases hm:met.getD u.toNat false
  ·rw [zDd,Bool.and_true,zCk];have hn:u∉P++Q:=fun hh=>by rw [(h.met u JM.1 JM.2).2 hh] at hm;cases hm
   have hl:=h.len;have hc:=Wk met u.toNat (by omega) hm;have hcnt:=h.cnt;have CD: ∀ x,x∈P++(Q++[u])↔x∈P++Q∨x=u:=fun x=>by simp [or_assoc]
   refine ⟨⟨by rw [zDE];exact hl,by show (Q++[u]).length+Fh (met.set u.toNat true)<=_;rw [zDC,zDM];omega,?_,fun x hx=>?_,fun x hx=>?_,fun x Fu M0=>?_,fun p hp b hb zE=>(CD b).2 (.inl (h.cl p hp b hb zE)),(CD s).2 (.inl h.st)⟩,⟨[u],rfl⟩,fun _=>(CD u).2 (.inr rfl),by show 2*Fh (met.set u.toNat true)+(Q++[u]).length<=_;rw [zDC,zDM];omega⟩
   ·rw [←zEp,List.nodup_append];exact ⟨h.nd,by simp,fun a ha b hb=>by rw [zC2] at hb;subst hb;exact fun e=>hn (e▸ha)⟩
   ·rcases (CD x).1 hx with hx | rfl
    ·exact h.rc x hx
    ·exact .step (h.rc v (zDX _ hv)) hu hi
   ·rcases (CD x).1 hx with hx | rfl
    ·exact h.rng x hx
    ·exact JM
   ·rw [CD,←h.met x Fu M0]
    by_cases e:x=u
    ·subst e;rw [u8,zDs (by omega)];exact ⟨fun _=>.inr rfl,fun _=>rfl⟩
    ·rw [u8,zDi (by omega),←u8];exact ⟨.inl,fun h=>h.elim id fun h=>absurd h e⟩
  ·rw [zDR,zEu,zAc];exact ⟨h,⟨[],by simp⟩,fun _=>(h.met u JM.1 JM.2).1 hm,zC6 _⟩
theorem Bf.exs (G:Gr g) {v:Int} {P:List Int}: ∀ (l:List Int) {met:List Bool} {Q:List Int},Bf g inn s met Q P -> v∈Q -> (∀ u∈l,u∈nb g v) ->
 Bf g inn s (l.foldl (De inn) (met,Q)).1 (l.foldl (De inn) (met,Q)).2 P/\ (∃ t,(l.foldl (De inn) (met,Q)).2=Q++t)/\ (∀ u∈l,inn.getD u.toNat false=true -> u∈P++(l.foldl (De inn) (met,Q)).2)/\ 2*Fh (l.foldl (De inn) (met,Q)).1+(l.foldl (De inn) (met,Q)).2.length<=2*Fh met+Q.length
 | [],met,Q,h,hv,hl=>⟨h,⟨[],by simp⟩,fun u hu=>absurd hu zEP,zC6 _⟩
 | u::l,met,Q,h,hv,hl=>by
  obtain ⟨h1,⟨t,ht⟩,h2,h3⟩:=h.ex G hv (hl u zDh);obtain ⟨h4,⟨t',Vc⟩,h5,h6⟩:=Bf.exs G l h1 (by rw [ht];exact zDL _ hv) fun x hx=>hl x (zDK _ hx)
  refine ⟨h4,⟨t++t',?_⟩,fun x hx hi=>?_,zCv h6 h3⟩
  ·show (List.foldl (De inn) (De inn (met,Q) u) l).2=_
   rw [Vc,ht,zEp]
  ·rcases zDF.1 hx with rfl | hx
   ·show x∈P++(List.foldl (De inn) (De inn (met,Q) x) l).2
    rw [Vc,←zEp];exact zDL _ (h2 hi)
   ·exact h5 x hx hi
theorem u0 {n j:Nat} {l:List Int} {met:List Bool} {Q:List Int} (hI:inn.length=g.length) (hG:g.length<=256) (hm:met.length=g.length) (hQ:Q.length+Fh met<=g.length) (hj:j<l.length) (hl:l.length<=256) (hr:0<=l.getD j 0/\ l.getD j 0<(g.length:Int)):
 EW g s inn (n+1) (.l2 Q.length l (l.length:Int) (j:Int) met Q)=EW g s inn n (.l2 (De inn (met,Q) (l.getD j 0)).2.length l (l.length:Int) ((j:Int)+1) (De inn (met,Q) (l.getD j 0)).1 (De inn (met,Q) (l.getD j 0)).2):=by
 have r1:AI ((j:Int)+1):=An.2 ⟨by omega,by omega⟩;have L:(1000000000000:Nat)=BE:=rfl
 show Jv n (EW g s inn n) g s inn Q.length l (l.length:Int) (j:Int) met Q=_
 unfold Jv De;simp only [zCi,zC4];rw [zCm (by omega),zCk,zB3 ⟨⟨by omega,by omega⟩,by omega,by omega⟩];cases hi:inn.getD (l.getD j 0).toNat false
 ·rw [zAc,zD6,zAc,zB3 r1]
 ·rw [zCk,zDG,zB3 ⟨hr,by omega⟩];cases ht:met.getD (l.getD j 0).toNat false
  ·have hc:=Wk met (l.getD j 0).toNat (by omega) ht;rw [zDd,zCk,zCk,zB3 ⟨⟨⟨trivial,rfl⟩,⟨trivial,trivial⟩,by rw [zDM,←L];omega⟩,r1⟩,zDC]
  ·rw [zDR,zAc,zAc,zB3 r1]
theorem iP (hI:inn.length=g.length) (G:Gr g) {v:Int} {P:List Int} {l:List Int} (hl:l.length<=256) (Rv: ∀ u∈l,u∈nb g v): ∀ (k j n:Nat) {met:List Bool} {Q:List Int},j+k=l.length -> Bf g inn s met Q P -> v∈Q ->
 EW g s inn (n+k) (.l2 Q.length l (l.length:Int) (j:Int) met Q)=EW g s inn n (.l2 ((l.drop j).foldl (De inn) (met,Q)).2.length l (l.length:Int) (l.length:Int) ((l.drop j).foldl (De inn) (met,Q)).1 ((l.drop j).foldl (De inn) (met,Q)).2)
 | 0,j,n,met,Q,e,h,hv=>by
  have e:j=l.length:=by omega
  subst e;rw [List.drop_length];rfl
 | k+1,j,n,met,Q,e,h,hv=>by
  have hj:j<l.length:=by omega
  have hu:l.getD j 0∈l:=by rw [u8,zAe hj];exact zC5 hj
  have GL:=h.rng v (zDX _ hv);have hr:=G.rng v GL.1 GL.2 _ (Rv _ hu);obtain ⟨h1,⟨t,ht⟩,_,_⟩:=h.ex G hv (Rv _ hu);rw [←zDb,u0 hI G.len h.len h.cnt hj hl hr];have:=iP hI G hl Rv k (j+1) n (by omega) h1 (by rw [ht];exact zDL _ hv);have e1:(((j+1:Nat)):Int)=(j:Int)+1:=by omega
  rw [e1] at this;rw [this]
  have e2:l.drop j=l.getD j 0::l.drop (j+1):=by
   rw [zDD hj,u8,zAe hj];rfl
  rw [e2];rfl
def L3 (g:List (List Int)) (inn:List Bool) (s:Int) (P l:List Int):Prop:=(P++l).Nodup/\ (∀ v,v∈P++l↔Rc g inn s v)
theorem Bf.done {met:List Bool} {P:List Int} (h:Bf g inn s met [] P):L3 g inn s P []:=by
 refine ⟨h.nd,fun v=>⟨h.rc v,fun hv=>?_⟩⟩
 induction hv with
 | start=>exact h.st
 | step _ hb hi ih=>exact h.cl _ (by simpa using ih) _ hb hi
theorem Ad.map {R:Type} {f:Nat -> Option R} {Q:R -> Prop} {Q':R -> Prop} {m:R -> R} (h:Ad f Q) (hq: ∀ r,Q r -> Q' (m r)):Ad (fun n=>(f n).map m) Q':=by
 obtain ⟨N,h⟩:=h;refine ⟨N,fun n hn=>?_⟩;obtain ⟨r,h1,h2⟩:=h n hn;exact ⟨m r,by show (f n).map m=_;rw [h1];rfl,hq r h2⟩
theorem zBy (G:Gr g) (hI:inn.length=g.length): ∀ (z:Nat) (met:List Bool) (Q P:List Int),2*Fh met+Q.length=z -> Bf g inn s met Q P -> Ad (fun n=>EW g s inn n (.l1 Q.length met Q)) (L3 g inn s P):=by
 intro z
 induction z using Nat.strongRecOn with
 | _ z ih=>
  intro met Q P hz h;cases Q with
  | nil=>
   refine Ev.p (r:=[]) ⟨1,fun n hn=>?_⟩ h.done;obtain ⟨n,rfl⟩: ∃ k,n=k+1:=⟨n-1,by omega⟩
   show MU n (EW g s inn n) g s inn 0 met []=_
   unfold MU;rw [zAZ (by omega),zAc]
  | cons v q=>
   have hv:v∈v::q:=zDh;have GL:=h.rng v (zDX _ hv);obtain ⟨h1,⟨t,ht⟩,h2,h3⟩:=h.exs G (nb g v) hv (fun u hu=>hu);have hl:=G.row v GL.1 GL.2
   generalize EY:(nb g v).foldl (De inn) (met,v::q)=st at h1 ht h2 h3
   obtain ⟨OZ,Q'⟩:=st;have ht:Q'=v::(q++t):=ht;subst ht
   have hB:Bf g inn s OZ (q++t) (P++[v]):=by
    have e:P++[v]++(q++t)=P++(v::(q++t)):=by simp
    have hc:=h1.cnt;simp only [zDn] at hc;refine ⟨h1.len,by omega,by rw [e];exact h1.nd,by rw [e];exact h1.rc,by rw [e];exact h1.rng,by rw [e];exact h1.met,?_,by rw [e];exact h1.st⟩;intro p hp b hb hi;rw [e];rcases zC9.1 hp with hp | hp
    ·exact h1.cl p hp b hb hi
    ·rw [zC2] at hp;subst hp;exact h2 b hb hi
   have wB:2*Fh OZ+(q++t).length<z:=by
    simp only [zDn] at h3;simp only [zDC] at h3 ⊢;have:(v::q).length=q.length+1:=rfl;omega
   have IH:=ih _ wB OZ (q++t) (P++[v]) rfl hB
   have key:Ad (fun n=>EW g s inn n (.l2 (v::(q++t)).length (nb g v) ((nb g v).length:Int) ((nb g v).length:Int) OZ (v::(q++t)))) (L3 g inn s (P++[v])):=by
    have g0:(0:Int)<=1/\ (1:Int)<=(((v::(q++t)).length:Nat):Int)/\ (((v::(q++t)).length:Nat):Int)<=(((v::(q++t)).length:Nat):Int):=⟨by omega,by rw [zDn];omega,zDZ _⟩;cases Zk:q++t with
    | nil=>
     rw [Zk] at hB;refine Ev.p (r:=[]) ⟨2,fun n hn=>?_⟩ hB.done;obtain ⟨n,rfl⟩: ∃ k,n=k+2:=⟨n-2,by omega⟩
     show Jv (n+1) (EW g s inn (n+1)) g s inn 1 (nb g v) ((nb g v).length:Int) ((nb g v).length:Int) OZ [v]=_
     unfold Jv;rw [zAZ (by omega),zAc];rfl
    | cons a r=>
     rw [←Zk];refine Ad.step 1 (fun n=>?_) IH
     show Jv n (EW g s inn n) g s inn (v::(q++t)).length (nb g v) ((nb g v).length:Int) ((nb g v).length:Int) OZ (v::(q++t))=_
     unfold Jv;have e0:((v::(q++t)).length-1==0)=false:=by rw [Zk];rfl
     rw [zAZ (by omega),zAc,e0,zAc,zB3 g0,zB3 (by rw [zDn];omega)];rfl
   have vB:Ad (fun n=>EW g s inn n (.l2 (v::q).length (nb g v) ((nb g v).length:Int) 0 met (v::q))) (L3 g inn s (P++[v])):=by
    refine Ad.step (nb g v).length (fun n=>?_) key;have:=iP hI G hl (fun u hu=>hu) (nb g v).length 0 n (by omega) h hv;rw [zEt,EY] at this;exact this
   have m: ∀ r:List Int,L3 g inn s (P++[v]) r -> L3 g inn s P (v::r):=fun r hr=>by
    have e:P++[v]++r=P++(v::r):=by simp
    unfold L3 at hr ⊢;rw [e] at hr;exact hr
   refine Ad.step 1 (fun n=>?_) (Ad.map vB m)
   show MU n (EW g s inn n) g s inn (v::q).length met (v::q)=_
   unfold MU;have g1:((0:Int)<=0/\ 0<(((v::q).length:Nat):Int))/\ 0+0<(v::q).length:=by rw [zDn];omega
   rw [zCm (by rw [zDn];omega),zCk,zB3 g1];have e1:(v::q).getD (0+0) 0=v:=rfl;rw [e1,zB3 ⟨g1.1,g1.2,GL⟩];rfl
theorem X7 (G:Gr g) (hI:inn.length=g.length) (h0:0<=s) (h1:s<(g.length:Int)):Ad (fun n=>F9 n g s inn) (fun l=>l.Nodup/\ ∀ v,v∈l↔Rc g inn s v):=by
 have Ah:((List.replicate g.length false).set s.toNat true).length=g.length:=by simp
 have hG:=G.len;have hc:=Wk (List.replicate g.length false) s.toNat (by rw [zC0];omega) (by simp [u8,zDc];split <;> rfl)
 have Id:Fh (List.replicate g.length false)<=g.length:=by
  have:=zEo (p:=fun b=>!b) (l:=List.replicate g.length false);rw [zC0] at this;exact this
 have hB:Bf g inn s ((List.replicate g.length false).set s.toNat true) [s] []:=by
  refine ⟨Ah,by rw [zDM];omega,by simp,fun v hv=>?_,fun v hv=>?_,fun v Hm BZ=>?_,fun p hp=>absurd hp zEP,by simp⟩
  ·have:v=s:=by simpa using hv
   subst this;exact .start
  ·have:v=s:=by simpa using hv
   subst this;exact ⟨h0,h1⟩
  ·by_cases e:v=s
   ·subst e;rw [u8,zDs (by rw [zC0];omega)];simp
   ·rw [u8,zDi (by omega),zDc];simp only [zD2,zC2,e,iff_false];split <;> simp
 have:=zBy G hI _ _ _ _ rfl hB;refine (Ad.mono (Q':=fun l=>l.Nodup/\ ∀ v,v∈l↔Rc g inn s v) this (fun l (hl:L3 g inn s [] l)=>(⟨hl.1,hl.2⟩:l.Nodup/\ ∀ v,v∈l↔Rc g inn s v))).eq fun n=>?_
 unfold F9 X6;rw [zB3 ⟨⟨rfl,by omega,by omega⟩,⟨h0,h1⟩,by simp only [zC0];omega⟩,zC4];rfl
end
end Go.Proofs.YtgkhhfnhacibcaaGreatDoor
namespace Go.Proofs.YtgkhhfnhacibcaaGreatDoor
abbrev zEh:=@BitVec.toNat_ofInt
abbrev zEv:=@Nat.pow_le_pow_right
abbrev zFJ:=@Nat.testBit_lt_two_pow
abbrev zFV:=@Nat.testBit_two_pow
end Go.Proofs.YtgkhhfnhacibcaaGreatDoor
namespace Go.Proofs.YtgkhhfnhacibcaaGreatDoor
def tb (x:Int) (i:Nat):Bool:=(BitVec.ofInt 64 x).getLsbD i
def B4 (x:Int):Prop:=-9223372036854775808<=x/\ x<=9223372036854775807
theorem RB (x:Int):BitVec.ofInt 64 (IntKind.i64.wrap x)=BitVec.ofInt 64 x:=by
 apply BitVec.eq_of_toNat_eq;rw [zEh,zEh,zFO]
 congr 1
 omega
theorem Uu (y:BitVec 64):BitVec.ofInt 64 (y.toNat:Int)=y:=by
 rw [zEs];simp
theorem Pr (x:Int):B4 (IntKind.i64.wrap x):=by
 rw [zFO];constructor <;> omega
theorem E5 (op:BinOp) (a b:Int):B4 (bits op .i64 a b):=Pr _
theorem Jh (a b:Int) (i:Nat):tb (bits .or .i64 a b) i=(tb a i||tb b i):=by
 show (BitVec.ofInt 64 (IntKind.i64.wrap ((BitVec.ofInt 64 a||| BitVec.ofInt 64 b).toNat:Int))).getLsbD i=_
 rw [RB,Uu,BitVec.getLsbD_or];rfl
theorem HT (a b:Int) (i:Nat):tb (bits .and .i64 a b) i=(tb a i&&tb b i):=by
 show (BitVec.ofInt 64 (IntKind.i64.wrap ((BitVec.ofInt 64 a&&& BitVec.ofInt 64 b).toNat:Int))).getLsbD i=_
 rw [RB,Uu,BitVec.getLsbD_and];rfl
theorem H9 {x:Int} {i:Nat} (h:64<=i):tb x i=false:=BitVec.getLsbD_of_ge _ _ h
theorem Jj (a b:Int) (i:Nat):tb (bits .andNot .i64 a b) i=(tb a i&&!tb b i):=by
 show (BitVec.ofInt 64 (IntKind.i64.wrap ((BitVec.ofInt 64 a&&& ~~~ BitVec.ofInt 64 b).toNat:Int))).getLsbD i=_
 rw [RB,Uu,BitVec.getLsbD_and,BitVec.getLsbD_not]
 by_cases h:i<64
 ·simp [h,tb]
 ·have h:64<=i:=by omega
  have:=H9 (x:=a) h;unfold tb at*;rw [this];simp
theorem Te (a:Int) {i:Nat} (h:i<64):tb (bits .xor .i64 (-1) a) i= !tb a i:=by
 show (BitVec.ofInt 64 (IntKind.i64.wrap ((BitVec.ofInt 64 (-1) ^^^ BitVec.ofInt 64 a).toNat:Int))).getLsbD i=_
 rw [RB,Uu,BitVec.getLsbD_xor];have:BitVec.ofInt 64 (-1)=BitVec.allOnes 64:=by decide
 rw [this,BitVec.getLsbD_allOnes];simp [h,tb]
theorem Td (i:Nat):tb 0 i=false:=by
 unfold tb;rw [show BitVec.ofInt 64 0=0#64 from rfl];simp
theorem Gp {i:Nat}: ¬ tb 0 i=true:=by rw [Td];decide
theorem Ji {x y:Int} (hx:B4 x) (hy:B4 y) (h: ∀ i,i<64 -> tb x i=tb y i):x=y:=by
 have e:BitVec.ofInt 64 x=BitVec.ofInt 64 y:=BitVec.eq_of_getLsbD_eq fun i hi=>h i hi
 have e2:=congrArg BitVec.toNat e;rw [zEh,zEh] at e2;unfold B4 at*;omega
theorem H8 (m i:Nat) (hi:i<64):tb (m:Int) i=m.testBit i:=by
 unfold tb;rw [zEs,BitVec.getLsbD_ofNat];simp [hi]
def Sm (k:Nat) (x:Int):Prop:=0<=x/\ x<2 ^ k
theorem LA {k:Nat} (hk:k<=62):(2:Int) ^ k<=4611686018427387904:=by
 have:(2:Nat) ^ k<=2 ^ 62:=zEv (by decide) hk;have h:((2 ^ k:Nat):Int)<=((2 ^ 62:Nat):Int):=by exact_mod_cast this
 simpa using h
theorem Sm.in64 {k:Nat} {x:Int} (hk:k<=62) (h:Sm k x):B4 x:=by
 have:=LA hk;obtain ⟨h1,h2⟩:=h;constructor <;> omega
theorem Sm.hi {k:Nat} {x:Int} (h:Sm k x) {i:Nat} (hi:k<=i):tb x i=false:=by
 rcases zD3 i 64 with HD | HD
 ·obtain ⟨m,rfl⟩:=zEN h.1;rw [H8 m i HD];apply zFJ;have h2:(m:Int)<2 ^ k:=h.2;have h3:m<2 ^ k:=by exact_mod_cast h2
  exact zCu h3 (zEv (by decide) hi)
 ·exact H9 HD
theorem Xj {k:Nat} (hk:k<=62) {x:Int} (hx:B4 x) (h: ∀ i,k<=i -> i<64 -> tb x i=false):Sm k x:=by
 have hy:(BitVec.ofInt 64 x).toNat<2 ^ k:=by
  apply Nat.lt_pow_two_of_testBit;intro i hi;rcases zD3 i 64 with HD | HD
  ·have:=h i hi HD;unfold tb at this
   rwa [BitVec.getLsbD] at this
  ·exact zFJ (zCu (BitVec.isLt _) (zEv (by decide) HD))
 rw [zEh] at hy;have h1:=LA hk;have h2:((2 ^ k:Nat):Int)=(2:Int) ^ k:=by simp
 unfold B4 at hx;unfold Sm;omega
theorem np {s i:Nat} (hi:i<64):tb ((2 ^ s:Nat):Int) i=decide (s=i):=by
 rw [H8 _ _ hi,zFV]
theorem Kq {x:Int} (hx:B4 x):x=0↔∀ i,i<64 -> tb x i=false:=
 ⟨fun h i _=>by rw [h];exact Td i,fun h=>Ji hx ⟨by decide,by decide⟩ fun i hi=>by rw [h i hi,Td]⟩
theorem D6 {x:Int} (hx:B4 x):x≠0↔∃ i,i<64/\ tb x i=true:=by
 rw [ne_eq,Kq hx];constructor
 ·intro h;refine Classical.byContradiction fun h2=>h fun i hi=>?_
  cases hb:tb x i with
  | false=>rfl
  | true=>exact absurd ⟨i,hi,hb⟩ h2
 ·rintro ⟨i,hi,hb⟩ h;rw [h i hi] at hb;cases hb
theorem pC {k s:Nat} {x:Int} (h:Sm k x) (hk:k<=62) (hs:s<64):bits .and .i64 (x/2 ^ s) 1=if tb x s then 1 else 0:=by
 obtain ⟨m,rfl⟩:=zEN h.1;have hm:=h.2;have ae:=LA hk;have e:(m:Int)/2 ^ s=((m/2 ^ s:Nat):Int):=by simp
 have key: ∀ t,t<64 -> tb (bits .and .i64 ((m:Int)/2 ^ s) 1) t=(decide (t=0)&&tb (m:Int) s):=fun t ht=>by
  rw [HT,e,H8 _ _ ht,H8 m s hs,show (1:Int)=((1:Nat):Int) from rfl,H8 1 t ht,Nat.testBit_div_two_pow]
  by_cases h0:t=0
  ·subst h0;simp
  ·rw [zAZ h0,zD6]
   have:Nat.testBit 1 t=false:=by
    rw [show (1:Nat)=2 ^ 0 from rfl,zFV];simpa using fun h=>h0 h.symm
   rw [this,zEu]
 cases hb:tb (m:Int) s with
 | true=>
  rw [zB3 rfl];refine Ji (E5 _ _ _) ⟨by decide,by decide⟩ fun t ht=>?_
  rw [key t ht,hb,show (1:Int)=((1:Nat):Int) from rfl,H8 1 t ht,Bool.and_true]
  by_cases h0:t=0
  ·subst h0;rfl
  ·rw [zAZ h0];rw [show (1:Nat)=2 ^ 0 from rfl,zFV];symm;simpa using fun h=>h0 h.symm
 | false=>
  rw [zCt zET];exact (Kq (E5 _ _ _)).2 fun t ht=>by rw [key t ht,hb,zEu]
theorem pD {k s:Nat} {x:Int} (h:Sm k x) (hk:k<=62) (hs:s<64):(bits .and .i64 (x/2 ^ s) 1==1)=tb x s:=by
 rw [pC h hk hs];cases tb x s <;> rfl
end Go.Proofs.YtgkhhfnhacibcaaGreatDoor
namespace Go.Proofs.YtgkhhfnhacibcaaGreatDoor
open Go.RowKit
theorem U4 {S R:Type} (m:Nat -> S -> Int -> Option R) (len N0:Nat) (Inv:Nat -> S -> Prop)
 (h: ∀ (n i:Nat) (s:S),N0<=n -> i<len -> Inv i s -> ∃ s',m (n+1) s (i:Int)=m n s' ((i:Int)+1)/\ Inv (i+1) s'):
 ∀ (k i n:Nat) (s:S),i+k=len -> N0<=n -> Inv i s -> ∃ s',m (n+k) s (i:Int)=m n s' (len:Int)/\ Inv len s'
 | 0,i,n,s,e,_,hI=>by
  have:i=len:=by omega
  subst this;exact ⟨s,rfl,hI⟩
 | k+1,i,n,s,e,hn,hI=>by
  obtain ⟨s',h1,h2⟩:=h (n+k) i s (by omega) (by omega) hI;obtain ⟨s2,h3,h4⟩:=U4 m len N0 Inv h k (i+1) n s' (by omega) hn h2;refine ⟨s2,?_,h4⟩;rw [show n+(k+1)=n+k+1 by omega,h1,←h3];rfl
theorem G6 {S R:Type} (m:Nat -> S -> Int -> Option R) (len N0:Nat) (Inv:Nat -> S -> Prop)
 (h: ∀ (n i:Nat) (s:S),N0<=n -> i<len -> Inv i s -> ∃ s',m (n+1) s (i:Int)=m n s' ((i:Int)+1)/\ Inv (i+1) s')
 {n:Nat} {s:S} (hn:N0+len<=n) (hI:Inv 0 s): ∃ n' s',N0<=n'/\ n'+len=n/\ m n s 0=m n' s' (len:Int)/\ Inv len s':=by
 obtain ⟨s',h1,h2⟩:=U4 m len N0 Inv h len 0 (n-len) s (by omega) (by omega) hI;rw [show n-len+len=n by omega] at h1;exact ⟨n-len,s',by omega,by omega,h1,h2⟩
structure Bv (c:AB) (k:Nat) (pos:List Int):Prop where
 cells: ∀ a,a<c.cells.length -> 0<=c.cells.getD a 0/\ c.cells.getD a 0<(pos.length:Int)
 len:c.cells.length<=256
 sm: ∀ i,i<pos.length -> Sm k (pos.getD i 0)
 k:k<=16
def AT (c:AB) (pos:List Int) (a:Nat):Int:=pos.getD (c.cells.getD a 0).toNat 0
def Kv (x:Int):Bool:=bits .and .i64 x (x-1)==0
section
variable {c:AB} {k:Nat} {pos lost:List Int} {q:AA}
theorem Bv.at (W:Bv c k pos) {a:Nat} (ha:a<c.cells.length):Sm k (AT c pos a):=by
 have:=W.cells a ha;exact W.sm _ (by omega)
theorem Bv.r64 (W:Bv c k pos) {a:Nat} (ha:a<c.cells.length):AI (AT c pos a-1)/\ AI ((a:Int)+1):=by
 have h:=W.at ha;have h2:=LA (k:=k) (zCv W.k (by decide));have h3:=W.len;obtain ⟨h0,h1⟩:=h;exact ⟨An.2 ⟨by omega,by omega⟩,An.2 ⟨by omega,by omega⟩⟩
theorem J6 {n:Nat} {cell ss:Int} (h0:0<=cell) (h1:cell<(pos.length:Int)) (hl:lost.length=pos.length):
 ∃ l',DP n cell ss c q pos pos.length lost=some l'/\ l'.length=pos.length/\ ∀ j s,tb (l'.getD j 0) s=(tb (lost.getD j 0) s||(decide (j=cell.toNat)&&(tb (pos.getD j 0) s&&tb ss s))):=by
 refine ⟨lost.set cell.toNat (bits .or .i64 (lost.getD cell.toNat 0) (bits .and .i64 (pos.getD cell.toNat 0) ss)),?_,by rw [zDE];exact hl,fun j s=>?_⟩
 ·unfold DP Yr;simp only [zC4];rw [zB3 ⟨⟨h0,h1⟩,by omega,h0,h1⟩]
 ·by_cases hj:j=cell.toNat
  ·subst hj;rw [u8,zDs (by omega),zEB,Jh,HT,zCm rfl,zDG]
  ·rw [u8,zDi (fun e=>hj e.symm),←u8,zAZ hj,zD6,zD9]
theorem YW {n:Nat} {cell:Int} (h0:0<=cell) (h1:cell<(pos.length:Int)) (hl:lost.length=pos.length):
 ∃ l',GD n cell c q pos pos.length lost=some l'/\ l'.length=pos.length/\ ∀ j s,tb (l'.getD j 0) s=(tb (lost.getD j 0) s||(decide (j=cell.toNat)&&(tb (pos.getD j 0) s&&!tb c.set s))):=by
 refine ⟨lost.set cell.toNat (bits .or .i64 (lost.getD cell.toNat 0) (bits .andNot .i64 (pos.getD cell.toNat 0) c.set)),?_,by rw [zDE];exact hl,fun j s=>?_⟩
 ·unfold GD YY;simp only [zC4];rw [zB3 ⟨⟨h0,h1⟩,by omega,h0,h1⟩]
 ·by_cases hj:j=cell.toNat
  ·subst hj;rw [u8,zDs (by omega),zEB,Jh,Jj,zCm rfl,zDG]
  ·rw [u8,zDi (fun e=>hj e.symm),←u8,zAZ hj,zD6,zD9]
def Sg (c:AB) (pos:List Int) (a s:Nat):Prop:=Kv (AT c pos a)=true/\ tb (AT c pos a) s=true
def B3 (c:AB) (pos lost:List Int) (i:Nat) (D:Nat -> Nat -> Prop) (l:List Int):Prop:=
 l.length=pos.length/\ ∀ j s,tb (l.getD j 0) s=true↔tb (lost.getD j 0) s=true∨∃ a,a<i/\ (c.cells.getD a 0).toNat=j/\ tb (AT c pos a) s=true/\ D a s
theorem B3.step {D:Nat -> Nat -> Prop} {i:Nat} {l l':List Int} (h:B3 c pos lost i D l) (hl:l'.length=pos.length)
 (h1: ∀ j s,tb (l'.getD j 0) s=true↔tb (l.getD j 0) s=true∨((c.cells.getD i 0).toNat=j/\ tb (AT c pos i) s=true/\ D i s)):B3 c pos lost (i+1) D l':=by
 refine ⟨hl,fun j s=>?_⟩;rw [h1,h.2];constructor
 ·rintro ((h | ⟨a,ha,h⟩) | h)
  ·exact .inl h
  ·exact .inr ⟨a,by omega,h⟩
  ·exact .inr ⟨i,by omega,h⟩
 ·rintro (h3 | ⟨a,ha,h3⟩)
  ·exact .inl (.inl h3)
  ·rcases zCx.1 ha with ha | rfl
   ·exact .inl (.inr ⟨a,ha,h3⟩)
   ·exact .inr h3
theorem B3.zero {D:Nat -> Nat -> Prop} (hl:lost.length=pos.length):B3 c pos lost 0 D lost:=
 ⟨hl,fun j s=>⟨.inl,fun h=>h.elim id fun ⟨a,ha,_⟩=>absurd ha (zCz a)⟩⟩
def NU (c:AB) (pos:List Int) (a s:Nat):Prop:=∃ b,b<c.cells.length/\ b≠a/\ Sg c pos b s
theorem zAp {n:Nat} (W:Bv c k pos) (hl:lost.length=pos.length) (hn:2*c.cells.length+2<=n):
 ∃ l,PU n c q pos pos.length lost=some (true,l)/\ B3 c pos lost c.cells.length (NU c pos) l:=by
 have lt: ∀ i,i<c.cells.length -> ((i:Nat):Int)<((c.cells.length:Nat):Int):=fun i hi=>by omega
 have S:=G6 (fun n (s:Int×Int) i=>JY c q pos pos.length lost n (.l1 s.1 s.2 i)) c.cells.length (c.cells.length+2)
  (fun i s=>(∀ j,tb s.1 j=true↔∃ a,a<i/\ Sg c pos a j)/\ (∀ j,tb s.2 j=true↔∃ a b,a<b/\ b<i/\ Sg c pos a j/\ Sg c pos b j))
  (fun n i s _ hi hI=>?_) (n:=n) (s:=(0,0)) (by omega) ?_
 ·obtain ⟨n1,⟨o,t⟩,GN,_,e1,ho,ht⟩:=S;obtain ⟨n2,rfl⟩: ∃ n2,n1=n2+1:=⟨n1-1,by omega⟩
  have T:=G6 (fun n (s:List Int) i=>JY c q pos pos.length lost n (.l2 o t i s)) c.cells.length 1
   (fun i s=>B3 c pos lost i (NU c pos) s) (fun n i s Fd hi hI=>?_) (n:=n2) (s:=lost) (by omega) (B3.zero hl)
  ·obtain ⟨n3,l,Ru,_,e2,hL⟩:=T;obtain ⟨n4,rfl⟩: ∃ n4,n3=n4+1:=⟨n3-1,by omega⟩;refine ⟨l,?_,hL⟩;unfold PU lC;refine e1.trans ?_
   show Sc n2 (JY c q pos pos.length lost n2) c q pos pos.length lost o t (c.cells.length:Int)=_
   unfold Sc;rw [zAZ (by omega),zAc];refine e2.trans ?_
   show Sb n4 (JY c q pos pos.length lost n4) c q pos pos.length lost o t (c.cells.length:Int) l=_
   unfold Sb;rw [zAZ (by omega),zAc]
  ·have hc:=W.cells i hi;have hr:=W.r64 hi
   show ∃ s',Sb n (JY c q pos pos.length lost n) c q pos pos.length lost o t (i:Int) s=_/\ _
   unfold Sb;rw [zCm (lt i hi),zCk];simp only [zCi];rw [zB3 ⟨⟨by omega,lt i hi⟩,hc,hr.1⟩];have sg:(bits .and .i64 (pos.getD (c.cells.getD i 0).toNat 0) (pos.getD (c.cells.getD i 0).toNat 0-1)==0)=Kv (AT c pos i):=rfl;rw [sg];cases hs:Kv (AT c pos i)
   ·rw [zAc];obtain ⟨l',h1,h2,h3⟩:=J6 (n:=n) (ss:=o) (c:=c) (q:=q) hc.1 hc.2 hI.1;rw [h1,zCj,zB3 hr.2];refine ⟨l',rfl,hI.step h2 fun j x=>?_⟩;rw [h3,zC7,zCp,zCp,zCw,ho];constructor
    ·rintro (h | ⟨rfl,h4,b,hb,h5⟩)
     ·exact .inl h
     ·refine .inr ⟨rfl,h4,b,hb,?_,h5⟩;rintro rfl;rw [h5.1] at hs;cases hs
    ·rintro (h | ⟨rfl,h4,b,hb,_,h5⟩)
     ·exact .inl h
     ·exact .inr ⟨rfl,h4,b,hb,h5⟩
   ·rw [zCk];obtain ⟨l',h1,h2,h3⟩:=J6 (n:=n) (ss:=bits .or .i64 (bits .andNot .i64 o (pos.getD (c.cells.getD i 0).toNat 0)) t) (c:=c) (q:=q) hc.1 hc.2 hI.1;rw [h1,zCj,zB3 hr.2];refine ⟨l',rfl,hI.step h2 fun j x=>?_⟩;rw [h3,zC7,zCp,zCp,zCw,Jh,Jj,zC7,zCp,ht];constructor
    ·rintro (h | ⟨rfl,h4,⟨_,h5⟩ | ⟨x1,y1,h6,h7,h8,h9⟩⟩)
     ·exact .inl h
     ·rw [h4] at h5;cases h5
     ·refine .inr ⟨rfl,h4,?_⟩
      by_cases e:x1=i
      ·exact ⟨y1,h7,by omega,h9⟩
      ·exact ⟨x1,by omega,e,h8⟩
    ·rintro (h | ⟨rfl,h4,b,hb,h5,h6⟩)
     ·exact .inl h
     ·refine .inr ⟨rfl,h4,.inr ?_⟩;rcases Nat.lt_or_gt_of_ne h5 with h5 | h5
      ·exact ⟨b,i,h5,hi,h6,hs,h4⟩
      ·exact ⟨i,b,h5,hb,⟨hs,h4⟩,h6⟩
 ·obtain ⟨o,t⟩:=s;obtain ⟨h1,h2⟩:=hI;simp only at h1 h2;have hc:=W.cells i hi;have hr:=W.r64 hi
  show ∃ s',Sc n (JY c q pos pos.length lost n) c q pos pos.length lost o t (i:Int)=_/\ _
  unfold Sc;rw [zCm (lt i hi),zCk];simp only [zCi];rw [zB3 ⟨⟨by omega,lt i hi⟩,hc,hr.1⟩];have sg:(bits .and .i64 (pos.getD (c.cells.getD i 0).toNat 0) (pos.getD (c.cells.getD i 0).toNat 0-1)==0)=Kv (AT c pos i):=rfl;rw [sg];cases hs:Kv (AT c pos i)
  ·rw [zAc,zB3 hr.2];refine ⟨(o,t),rfl,fun j=>?_,fun j=>?_⟩
   ·rw [h1];constructor
    ·rintro ⟨a,ha,h⟩;exact ⟨a,by omega,h⟩
    ·rintro ⟨a,ha,h⟩;rcases zCx.1 ha with ha | rfl
     ·exact ⟨a,ha,h⟩
     ·rw [h.1] at hs;cases hs
   ·rw [h2];constructor
    ·rintro ⟨a,b,Ht,hb,h⟩;exact ⟨a,b,Ht,by omega,h⟩
    ·rintro ⟨a,b,Ht,hb,h⟩;rcases zCx.1 hb with hb | rfl
     ·exact ⟨a,b,Ht,hb,h⟩
     ·rw [h.2.1] at hs;cases hs
  ·rw [zCk,zB3 hr.2];refine ⟨(bits .or .i64 o (AT c pos i),bits .or .i64 t (bits .and .i64 o (AT c pos i))),rfl,fun j=>?_,fun j=>?_⟩
   ·rw [Jh,zC7,h1];constructor
    ·rintro (⟨a,ha,h⟩ | h)
     ·exact ⟨a,by omega,h⟩
     ·exact ⟨i,by omega,hs,h⟩
    ·rintro ⟨a,ha,h⟩;rcases zCx.1 ha with ha | rfl
     ·exact .inl ⟨a,ha,h⟩
     ·exact .inr h.2
   ·rw [Jh,HT,zC7,zCp,h1,h2];constructor
    ·rintro (⟨a,b,Ht,hb,h⟩ | ⟨⟨a,ha,h⟩,h3⟩)
     ·exact ⟨a,b,Ht,by omega,h⟩
     ·exact ⟨a,i,ha,by omega,h,hs,h3⟩
    ·rintro ⟨a,b,Ht,hb,h,h3⟩;rcases zCx.1 hb with hb | rfl
     ·exact .inl ⟨a,b,Ht,hb,h,h3⟩
     ·exact .inr ⟨⟨a,Ht,h⟩,h3.2⟩
 ·exact ⟨fun j=>⟨fun h=>absurd h Gp,fun ⟨a,ha,_⟩=>absurd ha (zCz a)⟩,fun j=>⟨fun h=>absurd h Gp,fun ⟨a,b,_,hb,_⟩=>absurd hb (zCz b)⟩⟩
end
end Go.Proofs.YtgkhhfnhacibcaaGreatDoor
namespace Go.Proofs
open Go.Shelf
def Tryz.lays189_ren:Go.Shelf.Ren:=⟨fun | 189=>133 | 125=>135 | 257=>134 | 128=>145 | 129=>146 | 294=>136 | 295=>137 | 296=>138 | 297=>139 | 298=>140 | 299=>141 | 216=>142 | 300=>143 | 301=>144 | 328=>147 | 329=>148 | 330=>149 | 331=>150 | 332=>151 | 215=>152 | 343=>153 | n=>n,fun | 28=>22 | 3=>3 | 46=>41 | 0=>0 | 51=>149 | 53=>66 | 4=>4 | 183=>158 | 182=>157 | 131=>161 | 5=>5 | 9=>9 | 218=>163 | 222=>167 | 228=>169 | 229=>116 | n=>n,fun | n=>n⟩
theorem Tryz.lays189:Go.Proofs.Lays.n189 Tryz.prog Tryz.lays189_ren:={
 mixed:=by kernel_rfl
 f125:=Tryz.func135.trans (congrArg some (by kernel_rfl))
 f128:=Tryz.func145.trans (congrArg some (by kernel_rfl))
 f129:=Tryz.func146.trans (congrArg some (by kernel_rfl))
 f189:=Tryz.func133.trans (congrArg some (by kernel_rfl))
 f215:=Tryz.func152.trans (congrArg some (by kernel_rfl))
 f216:=Tryz.func142.trans (congrArg some (by kernel_rfl))
 f257:=Tryz.func134.trans (congrArg some (by kernel_rfl))
 f294:=Tryz.func136.trans (congrArg some (by kernel_rfl))
 f295:=Tryz.func137.trans (congrArg some (by kernel_rfl))
 f296:=Tryz.func138.trans (congrArg some (by kernel_rfl))
 f297:=Tryz.func139.trans (congrArg some (by kernel_rfl))
 f298:=Tryz.func140.trans (congrArg some (by kernel_rfl))
 f299:=Tryz.func141.trans (congrArg some (by kernel_rfl))
 f300:=Tryz.func143.trans (congrArg some (by kernel_rfl))
 f301:=Tryz.func144.trans (congrArg some (by kernel_rfl))
 f328:=Tryz.func147.trans (congrArg some (by kernel_rfl))
 f329:=Tryz.func148.trans (congrArg some (by kernel_rfl))
 f330:=Tryz.func149.trans (congrArg some (by kernel_rfl))
 f331:=Tryz.func150.trans (congrArg some (by kernel_rfl))
 f332:=Tryz.func151.trans (congrArg some (by kernel_rfl))
 f343:=Tryz.func153.trans (congrArg some (by kernel_rfl))
 t0:=Tryz.underlying0
 a0:=Tryz.isAgg0
 z0:=Tryz.sizeOf0
 v0:=Tryz.zeroValue0
 t3:=Tryz.underlying3
 a3:=Tryz.isAgg3
 z3:=Tryz.sizeOf3
 v3:=Tryz.zeroValue3
 t4:=Tryz.underlying4
 a4:=Tryz.isAgg4
 z4:=Tryz.sizeOf4
 v4:=Tryz.zeroValue4
 t5:=Tryz.underlying5
 a5:=Tryz.isAgg5
 z5:=Tryz.sizeOf5
 v5:=Tryz.zeroValue5
 t9:=Tryz.underlying9
 a9:=Tryz.isAgg9
 z9:=Tryz.sizeOf9
 v9:=Tryz.zeroValue9
 t28:=Tryz.underlying22
 a28:=Tryz.isAgg22
 z28:=Tryz.sizeOf22
 v28:=Tryz.zeroValue22
 t46:=Tryz.underlying41
 a46:=Tryz.isAgg41
 z46:=Tryz.sizeOf41
 v46:=Tryz.zeroValue41
 t51:=Tryz.underlying149
 a51:=Tryz.isAgg149
 z51:=Tryz.sizeOf149
 v51:=Tryz.zeroValue149
 t53:=Tryz.underlying66
 a53:=Tryz.isAgg66
 z53:=Tryz.sizeOf66
 v53:=Tryz.zeroValue66
 t131:=Tryz.underlying161
 a131:=Tryz.isAgg161
 z131:=Tryz.sizeOf161
 v131:=Tryz.zeroValue161
 t182:=Tryz.underlying157
 a182:=Tryz.isAgg157
 z182:=Tryz.sizeOf157
 v182:=Tryz.zeroValue157
 t183:=Tryz.underlying158
 a183:=Tryz.isAgg158
 z183:=Tryz.sizeOf158
 v183:=Tryz.zeroValue158
 t218:=Tryz.underlying163
 a218:=Tryz.isAgg163
 z218:=Tryz.sizeOf163
 v218:=Tryz.zeroValue163
 t222:=Tryz.underlying167
 a222:=Tryz.isAgg167
 z222:=Tryz.sizeOf167
 v222:=Tryz.zeroValue167
 t228:=Tryz.underlying169
 a228:=Tryz.isAgg169
 z228:=Tryz.sizeOf169
 v228:=Tryz.zeroValue169
 t229:=Tryz.underlying116
 a229:=Tryz.isAgg116
 z229:=Tryz.sizeOf116
 v229:=Tryz.zeroValue116 }
open Go.Sort Go.RowKit in
theorem Tryz.slices_Sort_int (blk off cap:Nat) (zs:List Int) (w:World) (hH:Holds (Value.int .i64) w blk off zs.toArray) (aR:blk<w.heap.size) (Az:zs.length<4611686018427387904):
 Calls Tryz.prog 133 #[.slice (some ⟨blk,off,none⟩) zs.length cap] w fun e w'=>
  e= .returned (.tuple #[])/\ ∃ n os,w'=grow (putRow (Value.int .i64) (Sort.ahead w n) blk off (zs.mergeSort fun x y=>decide (x<=y)).toArray) os:=Any.slices_Sort_int Tryz.lays189 blk off cap zs w hH aR Az
end Go.Proofs
namespace Go.Proofs.YtgkhhfnhacibcaaGreatDoor
abbrev zFB:=@List.pairwise_cons
end Go.Proofs.YtgkhhfnhacibcaaGreatDoor
namespace Go.Proofs.YtgkhhfnhacibcaaGreatDoor
open Go.RowKit
def Oh (a:Int):List Int -> List Int
 | []=>[a]
 | b::l=>if a<=b then a::b::l else b::Oh a l
def Gq:List Int -> List Int
 | []=>[]
 | a::l=>Oh a (Gq l)
theorem ZI (a:Int): ∀ l:List Int,(Oh a l).Perm (a::l)
 | []=>zFI _
 | b::l=>by
  unfold Oh;split
  ·exact zFI _
  ·exact ((ZI a l).cons b).trans (List.Perm.swap a b l)
theorem Tn: ∀ l:List Int,(Gq l).Perm l
 | []=>zFI _
 | a::l=>(ZI a _).trans ((Tn l).cons a)
theorem ii (a:Int): ∀ l:List Int,l.Pairwise (· <= ·) -> (Oh a l).Pairwise (· <= ·)
 | [],_=>List.pairwise_singleton _ _
 | b::l,h=>by
  have h':=zFB.1 h;unfold Oh;split
  ·rename_i Ht;refine zFB.2 ⟨fun x hx=>?_,h⟩;rcases zDF.1 hx with rfl | hx
   ·exact Ht
   ·exact Int.le_trans Ht (h'.1 x hx)
  ·rename_i Ht;refine zFB.2 ⟨fun x hx=>?_,ii a l h'.2⟩;rcases zDF.1 ((ZI a l).mem_iff.1 hx) with rfl | hx
   ·omega
   ·exact h'.1 x hx
theorem dy: ∀ l:List Int,(Gq l).Pairwise (· <= ·)
 | []=>List.Pairwise.nil
 | a::l=>ii a _ (dy l)
theorem oV (l:List Int):(l.mergeSort fun x y=>decide (x<=y))=Gq l:=by
 refine List.Perm.eq_of_pairwise (le:=(· <= ·)) (fun a b _ _ h1 h2=>Int.le_antisymm h1 h2) ?_ (dy l) ((List.mergeSort_perm l _).trans (Tn l).symm);have:=List.pairwise_mergeSort (le:=fun x y:Int=>decide (x<=y)) (fun a b c h1 h2=>by simp at h1 h2 ⊢;omega) (fun a b=>by simp;omega) l;exact this.imp fun h=>by simpa using h
theorem QG (l:List Int):(Gq l).length=l.length:=(Tn l).length_eq
theorem yw {w:World} {b o:Nat} {l l':List Int} {cs:Array Value} {t:TypeId} {z:Nat×Nat} (h:w.heap[b]? =some (.cells cs t z)) (hl:l.length=l'.length) (n:Nat) (os:Array Obj):
 ∃ EM,(Sort.grow (Sort.putRow (Value.int .i64) (Sort.ahead w n) b o l'.toArray) os).heap[b]? =some (.cells EM t z)/\ EM.size=cs.size/\ ∀ j,j<l.length -> o+j<cs.size -> EM[o+j]? =some (.int .i64 (l'.getD j 0)):=by
 have hb:b<w.heap.size:=(zCl.1 h).1;refine ⟨Sort.putCells (Value.int .i64) o l'.toArray cs,?_,by simp [Sort.putCells],fun j hj hs=>?_⟩
 ·simp only [Sort.grow,Sort.putRow,Sort.mapBlock,Sort.ahead];rw [zED (by simpa using hb),zEW,zB3 rfl,h];rfl
 ·simp only [Sort.putCells,Array.getElem?_mapIdx];rw [zDQ hs];simp only [zDI];rw [zB3 ⟨by omega,by simp;omega⟩];have:o+j-o=j:=by omega
  rw [this];have A3:j<l'.length:=by omega
  simp [A3,u8]
theorem nN {w:World} {b o:Nat} (hb:b<w.heap.size) (d:Array Int) (n:Nat) (os:Array Obj):AO (fun k=>k=b) w (Sort.grow (Sort.putRow (Value.int .i64) (Sort.ahead w n) b o d) os):=by
 refine ⟨rfl,rfl,rfl,by simp [Sort.ahead],fun k hk AY=>?_⟩;simp only [Sort.grow,Sort.putRow,Sort.mapBlock,Sort.ahead];rw [zED (by simpa using hk),zEW,zCt (fun e=>AY e.symm)]
theorem oU (l:List Int) {n:Nat} (hn:n=l.length) (yT:l.length<=BE):ES Tryz.prog GG 133 [.msl 0 1 0 n] [some (.ints l)] (.tup 0 fun j=>([]:List DV).getD j .any) [some (.ints (Gq l))] false:=by
 subst hn;refine ⟨⟨_,Tryz.func133,by decide,rfl⟩,fun N ρ w args HR Ce=>?_⟩;obtain ⟨p,hp,DC⟩:=HR.obj 0 _ rfl;have DC:Ab w p l.length fun j u=>u= .int .i64 (l.getD j 0):=DC
 have h0:=Ce.2 0 (by simp);obtain ⟨p',cap,A2,hv,La,Vn,Ve⟩:=h0;have ep:p'=p:=zCq (A2.symm.trans hp);subst ep;have Az:args.size=1:=by have:=Ce.1;simpa using this.symm
 have ha:args= #[.slice (some ⟨p'.blk,p'.off,none⟩) l.length cap]:=by
  apply Array.ext
  ·simp [Az]
  ·intro i h1 h2;have:i=0:=by omega
   subst this;have e:args.getD 0 undef=args[0]:=by simp [Array.getD,Az]
   rw [e] at hv;rw [hv];simp
 have hH:Sort.Holds (Value.int .i64) w p'.blk p'.off l.toArray:=fun j hj=>by
  have hj:j<l.length:=by simpa using hj
  obtain ⟨u,c1,c2⟩:=DC.cell hj;refine ⟨by rw [c1,c2];simp [hj,u8],DC.frozen _⟩
 obtain ⟨E1,cs,t,DR,Co,Ho,_⟩:=DC;have hb:p'.blk<w.heap.size:=(zCl.1 DR).1;subst ha;refine (Tryz.slices_Sort_int p'.blk p'.off cap l w hH hb (by unfold BE at yT;omega)).mono ?_;rintro e w' ⟨rfl,m,os,rfl⟩;rw [oV];obtain ⟨EM,k1,k2,k3⟩:=yw (o:=p'.off) DR (QG l).symm m os;have hu:AO p'.foot w (Sort.grow (Sort.putRow (Value.int .i64) (Sort.ahead w m) p'.blk p'.off (Gq l).toArray) os):=by rw [E1];exact nN (o:=p'.off) hb (Gq l).toArray m os
 show ∃ v,Ending.returned (.tuple #[])=Ending.returned v/\ DJ Tryz.prog GG N _ ρ w false _ _ v (Sort.grow (Sort.putRow (Value.int .i64) (Sort.ahead w m) p'.blk p'.off (Gq l).toArray) os)
 refine ⟨_,rfl,⟨⟨ρ,HR.write (o':=.ints (Gq l)) rfl hp hu (fun b hb=>?_) ?_,⟨#[],rfl,rfl,fun j hj=>absurd hj (zCz j)⟩,BH.write rfl hp hu,fun _ _ h=>h⟩,fun h=>by cases h⟩⟩
 ·rw [E1] at hb;exact .cells (c:=EM) (t:=t) (z:=(0,0)) (by rw [show b=p'.blk from hb];exact k1)
 ·refine ⟨E1,EM,t,k1,by rw [k2,QG];exact Co,by rw [k2];exact Ho,fun j hj=>?_⟩;rw [QG] at hj;exact ⟨_,k3 j hj (by omega),rfl⟩
end Go.Proofs.YtgkhhfnhacibcaaGreatDoor
namespace Go.Proofs.YtgkhhfnhacibcaaGreatDoor
open Go.RowKit
set_option maxRecDepth 100000
set_option maxHeartbeats 40000000
inductive Ka where
 | s0
 | s1 (Ex:Nat) (DZ:List Int)
def mL:Ka -> DH
 | .s0=>[none,some (.cells [.nils])]
 | .s1 Ex DZ=>[none,some (.cells [.msl 2 1 0 Ex]),some (.ints DZ)]
def Wv (n:Nat) (e6:Int):Option Ka:=
 if (0=0/\ 1=([e6]:List Int).length)/\ 0<([e6]:List Int).length/\ ([e6]:List Int).length<=BE then
  some (.s1 (([e6]:List Int).length) ([e6]:List Int))
 else none
def Wu (n:Nat) (e6:Int) (Ex:Nat) (DZ:List Int):Option Ka:=
 if (0=0/\ 1=([e6]:List Int).length)/\ (0=0/\ Ex=DZ.length)/\ DZ.length+([e6]:List Int).length<=BE then
  some (.s1 (DZ.length+([e6]:List Int).length) (DZ++([e6]:List Int)))
 else none
def bp (n:Nat) (e6:Int):Ka -> Option Ka
 | .s0=>Wv n e6
 | .s1 Ex DZ=>Wu n e6 Ex DZ
def It (n:Nat) (e6:Int) (s:Ka):Option Ka:=bp n e6 s
theorem zCF (n:Nat) (l B:Nat) (N:Yd 2) (e6:Int) (s:Ka) (r:Ka) (h:It n e6 s=some r):TA l B N (DT 2 [] 0 (mL r)) Tryz.f113 6 ⟨AM 13 [(2,.ref 1 0),(6,.it 0),(7,.i e6)],mL s⟩:=by
 cases s with
 | s0=>
  replace h:Wv n e6=some r:=h;unfold Wv at h;refine ag AE [0,1] H0 (AM 13 [(2,.ref 1 0),(5,.i e6)]) [none,some (.cells [.nils])] fun N=>?_
  revert r;apply gO;exact gi (jt (lF fun p=>rr AE [0,1,3] rfl p))
 | s1 Ex DZ=>
  replace h:Wu n e6 Ex DZ=some r:=h;unfold Wu at h;refine ag AE [0,1,2] H0 (AM 13 [(2,.ref 1 0),(5,.i e6)]) [none,some (.cells [.msl 2 1 0 Ex]),some (.ints DZ)] fun N=>?_
  revert r;apply gO;exact gi (jt (lF fun p=>rr AE [0,1,4] rfl p))
def bo (n:Nat) (l:List Int):Option ((List Int)):=
 (B6 (It n) l (.s0)).bind fun y1=>
  match y1 with
  | .s0=>
   none
  | .s1 Nq L6=>
   if Nq=L6.length then
    some L6
   else none
def TH (n:Nat) (l:List Int):Option ((List Int)):=bo n l
theorem zCE {n:Nat} {l:List Int} {r:(List Int)} (h:TH n l=some r):EQ 113 [.nils,.it 0] [some (.iter ((l).map Bg))] (.msl 1 1 0 r.length) [none,some (.ints r)] false:=by
 unfold TH bo at h;refine ot Tryz.func113 fun B N=>?_
 revert r;apply gO
 exact cn fun y1 A0=>fun p r h=>by
  refine gs AE [0,1] p (Gi (AZ Tryz.f113) 6 []) (AM 13 [(2,.ref 1 0),(6,.it 0)]) [some (.iter ((l).map Bg)),some (.cells [.nils])] ?_;refine r0 0 6 #[7] Bg 2 A0 (zCF n) ?_;cases y1 with
  | s0=>
   dsimp only at h
   revert r;apply gO;exact nO
  | s1 Nq L6=>
   dsimp only at h
   revert r;apply gO;exact gn fun g0=>lF fun p=>el AE [4] [0,2] p [] H0 [.msl 1 1 0 Nq] (AQ.mslN g0)
def bI (n:Nat) (l:List Int):Option ((List Int)):=
 (TH n l).bind fun y1=>
  some y1
def Wi (n:Nat) (l:List Int):Option ((List Int)):=bI n l
theorem zBa {n:Nat} {l:List Int} {r:(List Int)} (h:Wi n l=some r):EQ 86 [.it 0] [some (.iter ((l).map Bg))] (.msl 1 1 0 r.length) [none,some (.ints r)] false:=by
 unfold Wi bI at h;refine ot Tryz.func86 fun B N=>?_
 revert r;apply gO;exact ce zCE [0] [some (.iter ((l).map Bg))] fun y1=>lF fun p=>el AE [2] [0,1] p [] H0 [.msl 1 1 0 y1.length] (AQ.mslN rfl)
def Xg (n:Nat) (l:List Int):Option ((List Int)):=
 (Wi n l).bind fun y1=>
  if y1.length<=BE then
   if y1.length=(Gq y1).length then
    some (Gq y1)
   else none
  else none
def ME (n:Nat) (l:List Int):Option ((List Int)):=Xg n l
theorem oS {n:Nat} {l:List Int} {r:(List Int)} (h:ME n l=some r):EQ 131 [.it 0] [some (.iter ((l).map Bg))] (.msl 1 1 0 r.length) [none,some (.ints r)] false:=by
 unfold ME Xg at h;refine ot Tryz.func131 fun B N=>?_
 revert r;apply gO;exact ce zBa [0] [some (.iter ((l).map Bg))] fun y1=>gn fun g0=>jc (em (oU y1 (n:=y1.length) (Eq.refl y1.length) g0) [1] [none,some (.ints y1)]) (gn fun g1=>lF fun p=>el AE [2] [0,1] p [] H0 [.msl 1 1 0 y1.length] (AQ.mslN g1))
def lL (n:Nat) (g_:List (List Int)) (AP:List Bool) (start:Int):Option ((List Int)×Int):=
 (JW n g_ ([AP]:List (List Bool))).bind fun y1=>
  bif (y1 != 0) then
   some (([]:List Int),y1)
  else
   bif (decide (start<0)) then
    some (([]:List Int),1)
   else
    bif (decide (start>=(g_.length:Int))) then
     some (([]:List Int),1)
    else
     if 0<=start/\ start<(AP.length:Int) then
      bif (!(AP.getD ((start).toNat) false)) then
       some (([]:List Int),1)
      else
       (F9 n g_ start AP).bind fun y2=>
        (ME n y2).bind fun y3=>
         some (y3,0)
     else none
def PY (n:Nat) (g_:List (List Int)) (AP:List Bool) (start:Int):Option ((List Int)×Int):=lL n g_ AP start
theorem zBY {n:Nat} {g_:List (List Int)} {AP:List Bool} {start:Int} {r:(List Int)×Int} (h:PY n g_ AP start=some r):EQ 123 [.sl 1 g_.length (As A4 g_),.bools AP,.i start] [] (.tup 2 (L1 [.ints r.1,.i r.2])) [] true:=by
 refine ot Tryz.func123 fun B N=>?_
 revert r;apply gO;exact ja 10 0 1 (Qa (c:=Pb) (L:=([AP]:List (List Bool))) (vals:=[.bools AP]) rfl ⟨⟨_,rfl,⟨Bh,trivial⟩⟩,trivial⟩) (jz 10 0 (jg (Eq.refl 1) (cf Vy [none] fun y1=>bi 13 (lF fun p=>el AE [6,7] [] p [] H0 [.nils,.i y1] (AQ.tupL (l:=[.nils,.i y1]) (l':=[.ints ([]:List Int),.i y1]) rfl ⟨AQ.ints_nil,Bh,trivial⟩)) (bi 16 (lF fun p=>el AE [6,7] [] p [] H0 [.nils,.i 1] (AQ.tupL (l:=[.nils,.i 1]) (l':=[.ints ([]:List Int),.i 1]) rfl ⟨AQ.ints_nil,Bh,trivial⟩)) (bi 21 (lF fun p=>el AE [6,7] [] p [] H0 [.nils,.i 1] (AQ.tupL (l:=[.nils,.i 1]) (l':=[.ints ([]:List Int),.i 1]) rfl ⟨AQ.ints_nil,Bh,trivial⟩)) (gi (bi 28 (lF fun p=>el AE [6,7] [] p [] H0 [.nils,.i 1] (AQ.tupL (l:=[.nils,.i 1]) (l':=[.ints ([]:List Int),.i 1]) rfl ⟨AQ.ints_nil,Bh,trivial⟩)) (cn fun y2 Bt=>jc (X8 Bt [none]) (ce oS [1] [none,some (.iter ((y2).map Bg))] fun y3=>lF fun p=>ez AE [6,7] [2] p [0] (H0.g (Eq.refl y3.length)))))))))))
def dX:ST:=.rd 0 (.rd 1 (.ef 2 (.ef 3 (.fin [] [4,5]) (.no)) (.no)))
theorem pm:CQ (BA Tryz.f126 11) [2] dX:=by unfold CQ;kernel_rfl
def Kw:Bb:=fun i=>match i with
 | 11=>.tre [2] dX
 | _=>.no
def xo (g_:List (List Int)) (CP:Int) (y1 o1:List Int):DH:=[some (.cells [.msl 3 1 0 g_.length]),some (.cells [.i (CP+1)]),some (.iter ((y1).map Bg)),some (.ints o1)]
def dE (g_:List (List Int)) (o1:List Int) (CP:Int):St:=⟨(AM 42 [(4,.ref 0 0),(5,.ref 2 0)]),([some (.cells [.msl 1 1 0 g_.length]),some (.ints o1),some (.cells [.i CP])]:DH)⟩
inductive LD where
 | s0 (I8:List Int)
def fw (g_:List (List Int)) (AP:List Bool) (x13 CP:Int):LD -> DH
 | .s0 I8=>[some (.cells [.msl 3 1 0 g_.length]),some (.cells [.i (CP+1)]),none,some (.ints I8)]
def Uc (n:Nat) (g_:List (List Int)) (AP:List Bool) (x13 CP HG:Int) (I8:List Int):Option LD:=
 if (0<=HG/\ HG<(g_.length:Int))/\ 0+((HG).toNat)<I8.length then
  some (.s0 (I8.set (0+((HG).toNat)) (CP+1)))
 else none
def fv (n:Nat) (g_:List (List Int)) (AP:List Bool) (x13 CP HG:Int):LD -> Option LD
 | .s0 I8=>Uc n g_ AP x13 CP HG I8
def Mc (n:Nat) (g_:List (List Int)) (AP:List Bool) (x13 CP HG:Int) (s:LD):Option LD:=fv n g_ AP x13 CP HG s
theorem tA (n:Nat) (g_:List (List Int)) (AP:List Bool) (x13 CP:Int) (l B:Nat) (N:Yd 3) (HG:Int) (s:LD) (r:LD) (h:Mc n g_ AP x13 CP HG s=some r):TA l B N (DT 3 [] 0 (fw g_ AP x13 CP r)) Tryz.f126 33 ⟨AM 42 [(0,.sl 1 g_.length (As A4 g_)),(1,.bools AP),(4,.ref 0 0),(5,.ref 1 0),(12,.i (g_.length:Int)),(13,.i x13),(33,.it 2),(34,.i HG)],fw g_ AP x13 CP s⟩:=by
 cases s with
 | s0 I8=>
  replace h:Uc n g_ AP x13 CP HG I8=some r:=h;unfold Uc at h;refine ag Kw [0,1,2,3] H0 (AM 42 [(4,.ref 0 0),(5,.ref 1 0),(7,.i HG)]) [some (.cells [.msl 3 1 0 g_.length]),some (.cells [.i (CP+1)]),none,some (.ints I8)] fun N=>?_
  revert r;apply gO;exact gc (gi (gi (lF fun p=>rr Kw [0,1,2,3] rfl p)))
inductive Ud where
 | l1 (x13:Int) (o1:List Int) (CP:Int)
def Q4 (n:Nat) (self:Ud -> Option ((List Int)×Int)) (g_:List (List Int)) (AP:List Bool) (x13:Int) (o1:List Int) (CP:Int):Option ((List Int)×Int):=
 bif (decide (x13<(g_.length:Int))) then
  if 0<=x13/\ x13<(AP.length:Int) then
   bif (!(AP.getD ((x13).toNat) false)) then
    if AI (x13+1) then
     self (.l1 (x13+1) o1 CP)
    else none
   else
    if (0<=x13/\ x13<(g_.length:Int))/\ 0+((x13).toNat)<o1.length then
     bif (decide ((o1.getD (0+((x13).toNat)) 0)>0)) then
      if AI (x13+1) then
       self (.l1 (x13+1) o1 CP)
      else none
     else
      if AI (CP+1) then
       (F9 n g_ x13 AP).bind fun y1=>
        (B6 (Mc n g_ AP x13 CP) y1 (.s0 o1)).bind fun y2=>
         match y2 with
         | .s0 Kk=>
          if AI (x13+1) then
           self (.l1 (x13+1) Kk (CP+1))
          else none
      else none
    else none
  else none
 else
  if g_.length=o1.length then
   some (o1,CP)
  else none
def fu (n:Nat) (self:Ud -> Option ((List Int)×Int)) (g_:List (List Int)) (AP:List Bool):Option ((List Int)×Int):=
 if ((g_.length:Int):Int)=(g_.length:Int)/\ 0<=(g_.length:Int)/\ ((g_.length:Int):Int)<=1000000000000 then
  self (.l1 0 (List.replicate g_.length (0:Int)) 0)
 else none
def OP (g_:List (List Int)) (AP:List Bool):Nat -> Ud -> Option ((List Int)×Int)
 | 0,_=>none
 | n+1,.l1 x13 o1 CP=>Q4 n (OP g_ AP n) g_ AP x13 o1 CP
def parts (n:Nat) (g_:List (List Int)) (AP:List Bool):Option ((List Int)×Int):=fu n (OP g_ AP n) g_ AP
def tB (n B:Nat) (N:Yd 0) (g_:List (List Int)) (AP:List Bool) (r:(List Int)×Int):Ud -> Prop
 | .l1 x13 o1 CP=>∀ m0:Nat,n<=m0 -> TW B N (FQ Tryz.f126 0 (.tup 2 (L1 [.ints r.1,.i r.2])) []) (Ak m0 (Au (AZ Tryz.f126) 0 [])) ⟨AM 42 [(0,.sl 1 g_.length (As A4 g_)),(1,.bools AP),(4,.ref 0 0),(5,.ref 2 0),(12,.i (g_.length:Int)),(13,.i x13)],[some (.cells [.msl 1 1 0 g_.length]),some (.ints o1),some (.cells [.i CP])]⟩
theorem tC (B:Nat) (N:Yd 0) (g_:List (List Int)) (AP:List Bool):Al (OP g_ AP) (tB · B N g_ AP):=ia (fun _=>rfl) fun n AG pt r h=>by
 cases pt
 case l1 x13 o1 CP=>
  intro m0 AC;refine rd AC fun m0 AC=>?_
  revert r;apply gO
  exact bi 14 (gi (bi 20 (gw 39 (lG Kw [0,1,2] (AG _ _ · m0 AC))) (gc (gi (gi (bi 26 (gw 39 (lG Kw [0,1,2] (AG _ _ · m0 AC))) (gw 29 (jt (cn fun y1 A0=>jc (X8 A0 [some (.cells [.msl 1 1 0 g_.length]),some (.ints o1),some (.cells [.i (CP+1)])]) (cn fun y2 Bt=>fun p r h=>by
   refine gs Kw [0,2,3,1] p (Gi (AZ Tryz.f126) 33 [m0]) (AM 42 [(0,.sl 1 g_.length (As A4 g_)),(1,.bools AP),(4,.ref 0 0),(5,.ref 1 0),(12,.i (g_.length:Int)),(13,.i x13),(33,.it 2)]) (xo g_ CP y1 o1) ?_;refine r0 2 33 #[34] Bg 3 Bt (tA n g_ AP x13 CP) ?_;cases y2 with
   | s0 Kk=>
    dsimp only at h
    revert r;apply gO;exact gw 39 (lG Kw [0,3,1] (AG _ _ · m0 AC)))))))))))) (jg pm (jt (jt (jg (Eq.refl (dE g_ o1 CP)) (gn fun g0=>lF fun p=>ez (tg:=[([(2,0)],(dE g_ o1 CP))]) Kw [4,5] [0,1,2] p [1] (H0.g g0))))))
theorem YP {n:Nat} {g_:List (List Int)} {AP:List Bool} {r:(List Int)×Int} (h:parts n g_ AP=some r):EQ 126 [.sl 1 g_.length (As A4 g_),.bools AP] [] (.tup 2 (L1 [.ints r.1,.i r.2])) [] true:=by
 refine ot Tryz.func126 fun B N=>?_
 revert r;apply gO;exact gi (jt (lN Kw [0,2,1] ((tC B N g_ AP n) _ _ · n Nat.le.refl)))
end Go.Proofs.YtgkhhfnhacibcaaGreatDoor
namespace Go.Proofs.YtgkhhfnhacibcaaGreatDoor
open Go.RowKit
set_option maxRecDepth 100000
set_option maxHeartbeats 40000000
def XF (n:Nat) (n_:Int) (inn:List Bool):Option ((List Bool)):=
 (NY n inn).bind fun y1=>
  if (0<=n_/\ n_<(y1.length:Int))/\ 0+((n_).toNat)<y1.length then
   if y1.length=(y1.set (0+((n_).toNat)) false).length then
    some (y1.set (0+((n_).toNat)) false)
   else none
  else none
def Ps (n:Nat) (n_:Int) (inn:List Bool):Option ((List Bool)):=XF n n_ inn
theorem nE {n:Nat} {n_:Int} {inn:List Bool} {r:(List Bool)} (h:Ps n n_ inn=some r):EQ 125 [.i n_,.fp 1 (L1 [.bools inn])] [] (.msl 0 1 0 r.length) [some (.bools r)] true:=by
 unfold Ps XF at h;refine ot Tryz.func125 fun B N=>?_
 revert r;apply gO;exact cn fun y1 A0=>jc (ES.snapNew (ds:=[.bools inn]) (lR A0) [] (bz (by kernel_rfl)) rfl) (gc (gi (gi (gn fun g2=>lF fun p=>el AE [3] [0] p [] H0 [.msl 0 1 0 y1.length] (AQ.mslN g2)))))
theorem pV:At (BA Tryz.f109 16) [] (List.range 7) []:=by unfold At;kernel_rfl
def Gs:Bb:=fun i=>match i with
 | 16=>.ord [] (List.range 7) []
 | _=>.no
def jC (AP CC:List Bool) (Ba:Int):DH:=[some (.cells [.bools AP]),some (.cells [.bools CC]),some (.cells [.i Ba]),some (.cells [.bool false]),none]
def xE (AP CC:List Bool) (Ba:Int):DH:=[some (.cells [.bools AP]),some (.cells [.bools CC]),some (.cells [.i Ba]),some (.cells [.bool false]),none,none]
def xD (AP CC:List Bool) (Ba:Int) (y3:(List Int)×Int):DH:=[some (.cells [.bools AP]),some (.cells [.bools CC]),some (.cells [.i Ba]),some (.cells [.bool false]),none,none,some (.cells [.ints y3.1]),some (.cells [.i 0])]
def xC (CC:List Bool) (Ba:Int) (y3:(List Int)×Int) (y4:List Int):DH:=[some (.cells [.bools CC]),some (.cells [.i Ba]),some (.cells [.bool false]),some (.cells [.ints y3.1]),some (.cells [.i 0]),some (.iter ((y4).map Bg))]
def xB (CC:List Bool) (Ba:Int) (Gy:Bool) (y3:(List Int)×Int) (GB:Int):DH:=[some (.cells [.bools CC]),some (.cells [.i Ba]),some (.cells [.bool Gy]),some (.cells [.ints y3.1]),some (.cells [.i GB]),none]
inductive Kt where
 | s0 (Gy:Bool) (GB:Int)
def du (CC:List Bool) (Ba:Int) (y3:(List Int)×Int):Kt -> DH
 | .s0 Gy GB=>[some (.cells [.bools CC]),some (.cells [.i Ba]),some (.cells [.bool Gy]),some (.cells [.ints y3.1]),some (.cells [.i GB]),none]
def QF (n:Nat) (CC:List Bool) (Ba:Int) (y3:(List Int)×Int) (FM:Int) (Gy:Bool) (GB:Int):Option (Kt×Nat):=
 bif (FM==Ba) then
  some (.s0 Gy GB,0)
 else
  if 0<=FM/\ FM<(CC.length:Int) then
   bif (!(CC.getD ((FM).toNat) false)) then
    some (.s0 Gy GB,0)
   else
    bif (GB==0) then
     if 0<=FM/\ FM<(y3.1.length:Int) then
      some (.s0 Gy (y3.1.getD ((FM).toNat) 0),0)
     else none
    else
     if 0<=FM/\ FM<(y3.1.length:Int) then
      bif ((y3.1.getD ((FM).toNat) 0) != GB) then
       some (.s0 true GB,1)
      else
       some (.s0 Gy GB,0)
     else none
  else none
def oR (n:Nat) (CC:List Bool) (Ba:Int) (y3:(List Int)×Int) (FM:Int):Kt -> Option (Kt×Nat)
 | .s0 Gy GB=>QF n CC Ba y3 FM Gy GB
def HV (n:Nat) (CC:List Bool) (Ba:Int) (y3:(List Int)×Int) (FM:Int) (s:Kt):Option (Kt×Nat):=oR n CC Ba y3 FM s
theorem oQ (n:Nat) (CC:List Bool) (Ba:Int) (y3:(List Int)×Int) (l B:Nat) (N:Yd 6) (FM:Int) (s:Kt) (r:Kt×Nat) (h:HV n CC Ba y3 FM s=some r):TA l B N (DT 6 [.exit 0] r.2 (du CC Ba y3 r.1)) Tryz.f109 48 ⟨AM 76 [(6,.ref 0 0),(7,.ref 1 0),(8,.ref 2 0),(11,.ref 3 0),(13,.ref 4 0),(48,.it 5),(49,.i FM)],du CC Ba y3 s⟩:=by
 cases s with
 | s0 Gy GB=>
  refine ag Gs [0,1,2,3,4,5] H0 (AM 76 [(6,.ref 0 0),(7,.ref 1 0),(8,.ref 2 0),(11,.ref 3 0),(13,.ref 4 0),(14,.i FM)]) (xB CC Ba Gy y3 GB) fun N=>?_
  revert r;apply gO;exact bi 53 (lF fun p=>rr Gs [0,1,2,3,4,5] rfl p) (gi (bi 59 (lF fun p=>rr Gs [0,1,2,3,4,5] rfl p) (bi 63 (gi (jt (lF fun p=>rr Gs [0,1,2,3,4,5] rfl p))) (jg pV (gi (bi 74 (jt (lF fun p=>rr Gs [0,1,2,3,4,5] rfl p)) (lF fun p=>rr Gs [0,1,2,3,4,5] rfl p)))))))
def dt (n:Nat) (g_:List (List Int)) (AP CC:List Bool) (Ba:Int):Option (Bool×Int):=
 (JW n g_ ([AP,CC]:List (List Bool))).bind fun y1=>
  bif (y1 != 0) then
   some (false,y1)
  else
   bif (decide (Ba<0)) then
    some (false,1)
   else
    bif (decide (Ba>=(g_.length:Int))) then
     some (false,1)
    else
     if 0<=Ba/\ Ba<(AP.length:Int) then
      bif (!(AP.getD ((Ba).toNat) false)) then
       some (false,0)
      else
       (Ps n Ba AP).bind fun y2=>
        (parts n g_ y2).bind fun y3=>
         (F9 n g_ Ba AP).bind fun y4=>
          (Em (HV n CC Ba y3) y4 (.s0 false 0)).bind fun y5=>
           bif y5.2==0 then
            match y5.1 with
            | .s0 Pp XB=>
             some (Pp,0)
           else
            bif y5.2==1 then
             match y5.1 with
             | .s0 Pp XB=>
              some (Pp,0)
            else
             none
     else none
def MC (n:Nat) (g_:List (List Int)) (AP CC:List Bool) (Ba:Int):Option (Bool×Int):=dt n g_ AP CC Ba
theorem oO {n:Nat} {g_:List (List Int)} {AP CC:List Bool} {Ba:Int} {r:Bool×Int} (h:MC n g_ AP CC Ba=some r):EQ 109 [.sl 1 g_.length (As A4 g_),.bools AP,.bools CC,.i Ba] [] (.tup 2 (L1 [.bool r.1,.i r.2])) [] true:=by
 refine ot Tryz.func109 fun B N=>?_
 revert r;apply gO
 exact ja 18 4 1 (Qa (c:=Pb) (L:=([AP,CC]:List (List Bool))) (vals:=[.bools AP,.bools CC]) rfl ⟨⟨_,rfl,⟨Bh,trivial⟩⟩,⟨_,rfl,⟨Bh,trivial⟩⟩,trivial⟩) (jz 18 4 (jg (Eq.refl 2) (cf Vy (jC AP CC Ba) fun _=>bi 21 (jt (lE Gs [8,9] [3])) (bi 24 (jt (lE Gs [8,9] [3])) (bi 29 (jt (lE Gs [8,9] [3])) (gi (bi 35 (jt (lE Gs [8,9] [3])) (cn fun y2 Bt=>jc (ES.snapNew (ds:=[.i Ba,.ref 0 0]) (nE Bt) (jC AP CC Ba) ⟨AR.plain (by kernel_rfl),(AR.refL (l:=[.bools AP]) (l0:=[.bools AP]) rfl ⟨AR.plain (by kernel_rfl),trivial⟩),trivial⟩ rfl) (jz 41 5 (jg (Eq.refl y2.length) (cf YP (xE AP CC Ba) fun y3=>jt (jt (cn fun y4 KA=>jc (X8 KA (xD AP CC Ba y3)) (cn fun y5 Rl=>fun p r h=>by
  refine gs Gs [1,2,3,6,7,8] p (Gi (AZ Tryz.f109) 48 []) (AM 76 [(6,.ref 0 0),(7,.ref 1 0),(8,.ref 2 0),(11,.ref 3 0),(13,.ref 4 0),(48,.it 5)]) (xC CC Ba y3 y4) ?_;refine rx [.exit 0] 5 48 #[49] Bg 6 Rl (oQ n CC Ba y3) fun e he=>?_
  replace h:=Gh h;rcases h with ⟨Po,h⟩ | ⟨Po,h⟩
  ·rw [eq_of_beq Po] at he;cases he;revert h;cases y5.1 with
   | s0 Pp XB=>
    intro h
    dsimp only at h
    revert r;apply gO;exact jt (lE Gs [8,9] [2])
  ·replace h:=Gh h;rcases h with ⟨Po,h⟩ | ⟨Po,h⟩
   ·rw [eq_of_beq Po] at he;cases he;refine Dp.exitTo (by kernel_rfl) ?_;revert h;cases y5.1 with
    | s0 Pp XB=>
     intro h
     dsimp only at h
     revert r;apply gO;exact jt (lE Gs [8,9] [2])
   ·cases h))))))))))))))
end Go.Proofs.YtgkhhfnhacibcaaGreatDoor
namespace Go.Proofs.YtgkhhfnhacibcaaGreatDoor
open Go.RowKit
theorem Ad.bindU {R T:Type} {a:Nat -> Option T} {b:Nat -> T -> Option R} {A:T -> Prop} {Q:R -> Prop} (ha:Ad a A) (hb: ∃ M,∀ n,M<=n -> ∀ x,A x -> ∃ r,b n x=some r/\ Q r):Ad (fun n=>(a n).bind (b n)) Q:=by
 obtain ⟨N,ha⟩:=ha;obtain ⟨M,hb⟩:=hb;refine ⟨max N M,fun n hn=>?_⟩;obtain ⟨x,h1,h2⟩:=ha n (by omega);obtain ⟨r,h3,h4⟩:=hb n (by omega) x h2;exact ⟨r,by show (a n).bind (b n)=_;rw [h1,zCj];exact h3,h4⟩
structure H6 (g:List (List Int)):Prop where
 ok:Hu g=true
 row: ∀ r∈g,r.length<=LB
theorem H6.gr {g:List (List Int)} (h:H6 g):Gr g:=Gr.of h.ok h.row
section
variable {g:List (List Int)} {inn some':List Bool} {s:Int}
theorem kB {sets:List (List Bool)} (hs: ∀ x∈sets,x.length=g.length) (hl:sets.length<=256): ∀ (k i n:Nat),i+k=sets.length -> k+1<=n -> PA g sets n (.l1 (i:Int))=some 0
 | 0,i,n,e,hn=>by
  obtain ⟨n,rfl⟩: ∃ k,n=k+1:=⟨n-1,by omega⟩
  show SG n (PA g sets n) g sets i=_
  unfold SG;rw [zAZ (by omega),zAc]
 | k+1,i,n,e,hn=>by
  obtain ⟨n,rfl⟩: ∃ k,n=k+1:=⟨n-1,by omega⟩;have hi:i<sets.length:=by omega
  have hm:sets.getD i []∈sets:=by rw [u8,zAe hi];exact zC5 hi
  have e2:(((sets.getD i []).length:Int) != (g.length:Int))=false:=by rw [hs _ hm];simp
  have:=kB hs hl k (i+1) n (by omega) (by omega)
  show SG n (PA g sets n) g sets i=_
  unfold SG;rw [zCm (by omega),zCk,zB3 ⟨by omega,by omega⟩,zCi,e2,zAc,zB3 (An.2 ⟨by omega,by omega⟩)];exact this
theorem Vz (G:H6 g) {sets:List (List Bool)} (hs: ∀ x∈sets,x.length=g.length) (hl:sets.length<=256):Ev (fun n=>JW n g sets) 0:=by
 refine ⟨2*FB g+1+sets.length+1,fun n hn=>?_⟩
 show JW n g sets=some 0
 unfold JW kC;rw [kI G.row (by omega),G.ok];exact kB hs hl sets.length 0 n (by omega) (by omega)
theorem mN {n:Nat}: ∀ (l x:List Int),(x++l).length<=BE -> B6 (It n) l (.s1 x.length x)=some (.s1 (x++l).length (x++l))
 | [],x,h=>by rw [zEX];rfl
 | a::l,x,h=>by
  have e:x++a::l=x++[a]++l:=by simp
  rw [e] at h ⊢;have h2:x.length+1<=BE:=by simp only [zDC,zDM] at h;omega
  have e1:It n a (.s1 x.length x)=some (.s1 (x++[a]).length (x++[a])):=by
   unfold It bp Wu
   dsimp only
   rw [zB3 ⟨⟨rfl,rfl⟩,⟨rfl,rfl⟩,by simpa using h2⟩,zDC]
  show (It n a (.s1 x.length x)).bind (B6 (It n) l)=_
  rw [e1,zCj];exact mN l (x++[a]) h
theorem oT {n:Nat} {l:List Int} (h0:l≠[]) (hl:l.length<=256):ME n l=some (Gq l):=by
 have L:(1000000000000:Nat)=BE:=rfl;cases l with
 | nil=>exact absurd rfl h0
 | cons a l=>
  have e1:It n a .s0=some (.s1 [a].length [a]):=by
   unfold It bp Wv
   dsimp only
   rw [zB3 ⟨⟨rfl,rfl⟩,by simp,by rw [←L];simp⟩]
  have e2:=mN (n:=n) l [a] (by rw [←L];simp only [List.singleton_append];omega)
  have e3:TH n (a::l)=some (a::l):=by
   unfold TH bo
   show ((It n a .s0).bind (B6 (It n) l)).bind _=_
   rw [e1,zCj,e2,zCj]
   dsimp only
   rw [zB3 rfl];rfl
  unfold ME Xg Wi bI;rw [e3,zCj,zCj,zB3 (by rw [←L];omega),zB3 (QG _).symm]
theorem sD {l:List Int} (h: ∀ v,v∈l↔Rc g inn s v):l≠[]:=fun e=>by
 have:=(h s).2 .start;rw [e] at this;cases this
theorem sF (G:Gr g) (h0:0<=s) (h1:s<(g.length:Int)) {l:List Int} (hn:l.Nodup) (h: ∀ v,v∈l↔Rc g inn s v):l.length<=256:=
 zCv (OT g.length l hn fun x hx=>((h x).1 hx).rng G h0 h1) G.len
theorem zBZ (G:H6 g) (hI:inn.length=g.length) (h0:0<=s) (h1:s<(g.length:Int)) (hs:inn.getD s.toNat false=true):
 Ad (fun n=>PY n g inn s) (fun r=>r.2=0/\ r.1.length<=256/\ ∀ v,v∈r.1↔Rc g inn s v):=by
 have e: ∀ n,PY n g inn s=(JW n g [inn]).bind fun y1=>bif (y1 != 0) then some (([]:List Int),y1) else (F9 n g s inn).bind fun y2=>(ME n y2).bind fun y3=>some (y3,0):=fun n=>by
  unfold PY lL
  congr 1
  funext y1
  rw [zAZ (by omega),zAc,zAZ (by omega),zAc,zB3 ⟨by omega,by omega⟩,hs,zDR,zAc]
 refine Ad.eq ?_ e;refine Ad.bind (Vz G (fun x hx=>by rw [zC2.1 hx];exact hI) (by simp)) ?_
 show Ad (fun n=>(F9 n g s inn).bind fun y2=>(ME n y2).bind fun y3=>some (y3,0)) _
 refine Ad.bindU (X7 G.gr hI h0 h1) ⟨0,fun n _ l hl=>?_⟩;have Ah:=sF G.gr h0 h1 hl.1 hl.2;rw [oT (sD hl.2) Ah,zCj];exact ⟨_,rfl,rfl,by rw [QG];exact Ah,fun v=>by rw [(Tn l).mem_iff];exact hl.2 v⟩
structure Pt (g:List (List Int)) (inn:List Bool) (i:Nat) (part:List Int) (Bq:Int):Prop where
 len:part.length=g.length
 m0:0<=Bq
 m1:Bq<=(i:Int)
 lo: ∀ v,v<g.length -> 0<=part.getD v 0/\ part.getD v 0<=Bq
 isIn: ∀ v,v<g.length -> 0<part.getD v 0 -> inn.getD v false=true
 same: ∀ u v:Nat,u<g.length -> v<g.length -> 0<part.getD u 0 -> Rc g inn u v -> part.getD v 0=part.getD u 0
 con: ∀ u v:Nat,u<g.length -> v<g.length -> 0<part.getD u 0 -> part.getD v 0=part.getD u 0 -> Rc g inn u v
 all: ∀ v,v<i -> v<g.length -> inn.getD v false=true -> 0<part.getD v 0
 sur: ∀ m,0<m -> m<=Bq -> ∃ v,v<g.length/\ part.getD v 0=m
theorem f5 {n:Nat} {x13 m:Int}: ∀ (l:List Int) (part:List Int),part.length=g.length -> (∀ v∈l,0<=v/\ v<(g.length:Int)) ->
 ∃ Gz,B6 (Mc n g inn x13 m) l (.s0 part)=some (.s0 Gz)/\ Gz.length=g.length/\ ∀ v:Nat,Gz.getD v 0=if (v:Int)∈l/\ v<g.length then m+1 else part.getD v 0
 | [],part,hp,_=>⟨part,rfl,hp,fun v=>by simp⟩
 | a::l,part,hp,hl=>by
  have ha:=hl a zDh
  have e1:Mc n g inn x13 m a (.s0 part)=some (.s0 (part.set a.toNat (m+1))):=by
   unfold Mc fv Uc
   dsimp only
   rw [zB3 ⟨ha,by omega⟩,zC4]
  obtain ⟨Gz,h1,h2,h3⟩:=f5 (n:=n) (x13:=x13) (m:=m) l (part.set a.toNat (m+1)) (by rw [zDE];exact hp) fun v hv=>hl v (zDK _ hv)
  refine ⟨Gz,?_,h2,fun v=>?_⟩
  ·show (Mc n g inn x13 m a (.s0 part)).bind (B6 (Mc n g inn x13 m) l)=_
   rw [e1,zCj];exact h1
  ·rw [h3]
   by_cases hv:(v:Int)∈l/\ v<g.length
   ·rw [zB3 hv,zB3 ⟨zDK _ hv.1,hv.2⟩]
   ·rw [zCt hv]
    by_cases e:(v:Int)=a
    ·subst e;rw [zB3 ⟨zDh,by omega⟩,zCi,u8,zDs (by omega)];rfl
    ·rw [zCt (fun h=>by
      rcases zDF.1 h.1 with h4 | h4
      ·exact e h4
      ·exact hv ⟨h4,h.2⟩),u8,zDi (by omega),←u8]
theorem Pt.go (G:Gr g) {i:Nat} {part Gz:List Int} {Bq:Int} (h:Pt g inn i part Bq) (hi:i<g.length) (CH:inn.getD i false=true) (h0: ¬ part.getD i 0>0) {l:List Int} (hl: ∀ v,v∈l↔Rc g inn i v) (Ah:Gz.length=g.length)
 (hp: ∀ v:Nat,Gz.getD v 0=if (v:Int)∈l/\ v<g.length then Bq+1 else part.getD v 0):Pt g inn (i+1) Gz (Bq+1):=by
 have m0:=h.m0;have m1:=h.m1;have Kj: ∀ v:Nat,v<g.length -> Rc g inn i v -> Gz.getD v 0=Bq+1:=fun v hv hr=>by rw [hp,zB3 ⟨(hl v).2 hr,hv⟩]
 have no: ∀ v:Nat,¬ Rc g inn i v -> Gz.getD v 0=part.getD v 0:=fun v hr=>by rw [hp,zCt (fun h=>hr ((hl v).1 h.1))]
 have sym: ∀ u v:Nat,u<g.length -> inn.getD u false=true -> Rc g inn u v -> Rc g inn v u:=fun u v hu wU hr=>hr.symm G (by omega) (by omega) (by rw [zCi];exact wU)
 refine ⟨Ah,by omega,by omega,fun v hv=>?_,fun v hv Ia=>?_,fun u v hu hv Ia hr=>?_,fun u v hu hv Ia he=>?_,fun v hv FJ Cc=>?_,fun m h1 h2=>?_⟩
 ·have:=h.lo v hv
  by_cases hr:Rc g inn i v
  ·rw [Kj v hv hr];omega
  ·rw [no v hr];omega
 ·by_cases hr:Rc g inn i v
  ·have:=hr.isIn (by rw [zCi];exact CH)
   rwa [zCi] at this
  ·rw [no v hr] at Ia;exact h.isIn v hv Ia
 ·by_cases h1:Rc g inn i u
  ·rw [Kj u hu h1,Kj v hv (h1.trans hr)]
  ·rw [no u h1] at Ia ⊢;have h2: ¬ Rc g inn i v:=fun h2=>h1 (h2.trans (sym u v hu (h.isIn u hu Ia) hr))
   rw [no v h2];exact h.same u v hu hv Ia hr
 ·have hb:=(h.lo v hv).2
  by_cases h1:Rc g inn i u
  ·rw [Kj u hu h1] at he
   by_cases h2:Rc g inn i v
   ·exact (sym i u hi CH h1).trans h2
   ·rw [no v h2] at he;omega
  ·rw [no u h1] at Ia he;have hb:=(h.lo u hu).2
   by_cases h2:Rc g inn i v
   ·rw [Kj v hv h2] at he;omega
   ·rw [no v h2] at he;exact h.con u v hu hv Ia he
 ·rcases zCx.1 hv with hv | rfl
  ·have:=h.all v hv FJ Cc
   by_cases hr:Rc g inn i v
   ·rw [Kj v FJ hr];omega
   ·rw [no v hr];exact this
  ·rw [Kj v FJ .start];omega
 ·by_cases e:m=Bq+1
  ·exact ⟨i,hi,by rw [Kj i hi .start,e]⟩
  ·obtain ⟨v,hv,M2⟩:=h.sur m h1 (by omega);refine ⟨v,hv,?_⟩;rw [no v fun hr=>h0 ?_,M2];have:=h.same v i hv hi (by omega) (sym i v hi CH hr);omega
def PtP (g:List (List Int)) (inn:List Bool) (r:List Int×Int):Prop:=r.1.length=g.length/\ (∀ v,v<g.length -> inn.getD v false=true -> 0<r.1.getD v 0)/\ ∀ u v:Nat,u<g.length -> v<g.length -> inn.getD u false=true -> (r.1.getD v 0=r.1.getD u 0↔Rc g inn u v)
theorem YO (G:Gr g) (hI:inn.length=g.length):Ad (fun n=>parts n g inn) (fun r=>Pt g inn g.length r.1 r.2):=by
 have hG:=G.len;obtain ⟨N,hN⟩:=Ad.range (F:=fun (i:Nat) n=>F9 n g i inn) (A:=fun i l=>l.Nodup/\ ∀ v,v∈l↔Rc g inn i v) g.length fun i hi=>X7 G hI (by omega) (by omega)
 have hN: ∀ n,N<=n -> ∀ i:Nat,i<g.length -> ∃ l,F9 n g i inn=some l/\ l.Nodup/\ ∀ v,v∈l↔Rc g inn i v:=hN;refine ⟨N+g.length+1,fun n hn=>?_⟩;have S:=G6 (fun n (s:List Int×Int) i=>OP g inn n (.l1 i s.1 s.2)) g.length (N+1) (fun i s=>Pt g inn i s.1 s.2) (fun n i s Fd hi hP=>?_) (n:=n) (s:=(List.replicate g.length 0,0)) (by omega) ?_
 ·obtain ⟨n1,⟨part,Bq⟩,GN,_,e1,hP⟩:=S;obtain ⟨n2,rfl⟩: ∃ n2,n1=n2+1:=⟨n1-1,by omega⟩;refine ⟨(part,Bq),?_,hP⟩
  show parts n g inn=some (part,Bq)
  unfold parts fu;rw [zB3 ⟨rfl,by omega,by omega⟩];refine Eq.trans e1 ?_
  show Q4 n2 (OP g inn n2) g inn (g.length:Int) part Bq=_
  unfold Q4;rw [zAZ (by omega),zAc,zB3 hP.len.symm]
 ·obtain ⟨part,Bq⟩:=s;have hP:Pt g inn i part Bq:=hP;have r1:AI ((i:Int)+1):=An.2 ⟨by omega,by omega⟩
  show ∃ s',Q4 n (OP g inn n) g inn (i:Int) part Bq=_/\ _
  unfold Q4;simp only [zCi,zC4];rw [zCm (by omega),zCk,zB3 ⟨by omega,by omega⟩];cases CH:inn.getD i false
  ·rw [zDd,zCk,zB3 r1];have m1:=hP.m1;refine ⟨(part,Bq),rfl,hP.len,hP.m0,by show Bq<=((i+1:Nat):Int);omega,hP.lo,hP.isIn,hP.same,hP.con,fun v hv FJ Cc=>?_,hP.sur⟩;rcases zCx.1 hv with hv | rfl
   ·exact hP.all v hv FJ Cc
   ·rw [CH] at Cc;cases Cc
  ·have Ah:=hP.len;rw [zDR,zAc,zB3 ⟨⟨by omega,by omega⟩,by omega⟩]
   by_cases h0:part.getD i 0>0
   ·rw [zCm h0,zCk,zB3 r1];have m1:=hP.m1;refine ⟨(part,Bq),rfl,hP.len,hP.m0,by show Bq<=((i+1:Nat):Int);omega,hP.lo,hP.isIn,hP.same,hP.con,fun v hv FJ Cc=>?_,hP.sur⟩;rcases zCx.1 hv with hv | rfl
    ·exact hP.all v hv FJ Cc
    ·exact h0
   ·obtain ⟨l,e2,A5,hl⟩:=hN n (by omega) i hi;obtain ⟨Gz,e3,h3,h4⟩:=f5 (n:=n) (inn:=inn) (x13:=(i:Int)) (m:=Bq) l part hP.len fun v hv=>((hl v).1 hv).rng G (by omega) (by omega)
    have m0:=hP.m0;have m1:=hP.m1;rw [zAZ h0,zAc,zB3 (An.2 ⟨by omega,by omega⟩),e2,zCj,e3,zCj]
    dsimp only
    rw [zB3 r1];exact ⟨(Gz,Bq+1),rfl,hP.go G hi CH h0 hl h3 h4⟩
 ·have z: ∀ v:Nat,(List.replicate g.length (0:Int)).getD v 0=0:=fun v=>by
   rw [u8,zDc];split <;> rfl
  exact ⟨by simp,zDZ _,zDZ _,fun v _=>by rw [z];exact ⟨zDZ _,zDZ _⟩,fun v _ h=>by rw [z] at h;omega,fun u v _ _ h=>by rw [z] at h;omega,fun u v _ _ h=>by rw [z] at h;omega,fun v hv=>absurd hv (zCz v),fun m h1 h2=>by have h2:m<=0:=h2;omega⟩
theorem s9 (G:Gr g) (hI:inn.length=g.length):Ad (fun n=>parts n g inn) (PtP g inn):=(YO G hI).mono fun r hP=>⟨hP.len,fun v hv hi=>hP.all v hv hv hi,fun u v hu hv hi=>by
 have Be:=hP.all u hu hu hi;exact ⟨hP.con u v hu hv Be,hP.same u v hu hv Be⟩⟩
def Sp (g:List (List Int)) (inn some':List Bool) (a:Int):Prop:=∃ u v:Int,u≠a/\ v≠a/\ some'.getD u.toNat false=true/\ some'.getD v.toNat false=true/\ Rc g inn a u/\ Rc g inn a v/\ ¬ Rc g (inn.set a.toNat false) u v
theorem dw {n:Nat} {a f:Int} {y3:List Int×Int} (hS:some'.length=g.length) (hy:y3.1.length=g.length) (hf:f≠0): ∀ (l:List Int),(∀ v∈l,0<=v/\ v<(g.length:Int)) ->
 ∃ b f' c,Em (HV n some' a y3) l (.s0 false f)=some (.s0 b f',c)/\ (c=0∨c=1)/\ (b=true↔∃ v∈l,v≠a/\ some'.getD v.toNat false=true/\ y3.1.getD v.toNat 0≠f)
 | [],_=>⟨false,f,0,rfl,.inl rfl,by simp⟩
 | x::l,hl=>by
  have hx:=hl x zDh;obtain ⟨b,f',c,h1,h2,h3⟩:=dw (n:=n) (a:=a) hS hy hf l fun v hv=>hl v (zDK _ hv)
  have skip:HV n some' a y3 x (.s0 false f)=some (.s0 false f,0) -> ¬ (x≠a/\ some'.getD x.toNat false=true/\ y3.1.getD x.toNat 0≠f) -> ∃ b f' c,Em (HV n some' a y3) (x::l) (.s0 false f)=some (.s0 b f',c)/\ (c=0∨c=1)/\ (b=true↔∃ v∈x::l,v≠a/\ some'.getD v.toNat false=true/\ y3.1.getD v.toNat 0≠f):=by
   intro e hn;refine ⟨b,f',c,?_,h2,?_⟩
   ·unfold Em;rw [e,zCj];exact h1
   ·rw [h3];constructor
    ·rintro ⟨v,hv,h⟩;exact ⟨v,zDK _ hv,h⟩
    ·rintro ⟨v,hv,h⟩;rcases zDF.1 hv with rfl | hv
     ·exact absurd h hn
     ·exact ⟨v,hv,h⟩
  have f0:(f==0)=false:=zDV.2 hf;have U:HV n some' a y3 x (.s0 false f)=QF n some' a y3 x false f:=rfl;unfold QF at U
  by_cases e1:x=a
  ·have:(x==a)=true:=zDB.2 e1;rw [this,zCk] at U;exact skip U fun h=>h.1 e1
  ·have:(x==a)=false:=zDV.2 e1;rw [this,zAc,zB3 ⟨by omega,by omega⟩] at U;cases e2:some'.getD x.toNat false
   ·rw [e2,zDd,zCk] at U;exact skip U fun h=>by rw [e2] at h;cases h.2.1
   ·rw [e2,zDR,zAc,f0,zAc,zB3 ⟨by omega,by omega⟩] at U
    by_cases e3:y3.1.getD x.toNat 0=f
    ·have e4:(y3.1.getD x.toNat 0 != f)=false:=by rw [e3];simp
     rw [e4,zAc] at U;exact skip U fun h=>h.2.2 e3
    ·have e4:(y3.1.getD x.toNat 0 != f)=true:=by simpa using e3
     rw [e4,zCk] at U;refine ⟨true,f,1,?_,.inr rfl,?_⟩
     ·unfold Em;rw [U,zCj];rfl
     ·exact ⟨fun _=>⟨x,zDh,e1,e2,e3⟩,fun _=>rfl⟩
theorem dx {n:Nat} {a:Int} {y3:List Int×Int} (hS:some'.length=g.length) (hy:y3.1.length=g.length): ∀ (l:List Int),(∀ v∈l,0<=v/\ v<(g.length:Int)) -> (∀ v∈l,v≠a -> y3.1.getD v.toNat 0≠0) ->
 ∃ b f' c,Em (HV n some' a y3) l (.s0 false 0)=some (.s0 b f',c)/\ (c=0∨c=1)/\ (b=true↔∃ u∈l,∃ v∈l,u≠a/\ v≠a/\ some'.getD u.toNat false=true/\ some'.getD v.toNat false=true/\ y3.1.getD v.toNat 0≠y3.1.getD u.toNat 0)
 | [],_,_=>⟨false,0,0,rfl,.inl rfl,by simp⟩
 | x::l,hl,hz=>by
  have hx:=hl x zDh;have Dv: ∀ v∈l,0<=v/\ v<(g.length:Int):=fun v hv=>hl v (zDK _ hv)
  have skip:HV n some' a y3 x (.s0 false 0)=some (.s0 false 0,0) -> ¬ (x≠a/\ some'.getD x.toNat false=true) -> ∃ b f' c,Em (HV n some' a y3) (x::l) (.s0 false 0)=some (.s0 b f',c)/\ (c=0∨c=1)/\ (b=true↔∃ u∈x::l,∃ v∈x::l,u≠a/\ v≠a/\ some'.getD u.toNat false=true/\ some'.getD v.toNat false=true/\ y3.1.getD v.toNat 0≠y3.1.getD u.toNat 0):=by
   intro e hn;obtain ⟨b,f',c,h1,h2,h3⟩:=dx (n:=n) (a:=a) hS hy l Dv fun v hv=>hz v (zDK _ hv)
   refine ⟨b,f',c,?_,h2,?_⟩
   ·unfold Em;rw [e,zCj];exact h1
   ·rw [h3];constructor
    ·rintro ⟨u,hu,v,hv,h⟩;exact ⟨u,zDK _ hu,v,zDK _ hv,h⟩
    ·rintro ⟨u,hu,v,hv,h4,h5,h6,h7,h8⟩;rcases zDF.1 hu with rfl | hu
     ·exact absurd ⟨h4,h6⟩ hn
     ·rcases zDF.1 hv with rfl | hv
      ·exact absurd ⟨h5,h7⟩ hn
      ·exact ⟨u,hu,v,hv,h4,h5,h6,h7,h8⟩
  have U:HV n some' a y3 x (.s0 false 0)=QF n some' a y3 x false 0:=rfl;unfold QF at U
  by_cases e1:x=a
  ·have:(x==a)=true:=zDB.2 e1;rw [this,zCk] at U;exact skip U fun h=>h.1 e1
  ·have:(x==a)=false:=zDV.2 e1;rw [this,zAc,zB3 ⟨by omega,by omega⟩] at U;cases e2:some'.getD x.toNat false
   ·rw [e2,zDd,zCk] at U;exact skip U fun h=>by rw [e2] at h;cases h.2
   ·have z0:((0:Int)==0)=true:=rfl;rw [e2,zDR,zAc,z0,zCk,zB3 ⟨by omega,by omega⟩] at U;obtain ⟨b,f',c,h1,h2,h3⟩:=dw (n:=n) (a:=a) hS hy (hz x zDh e1) l Dv;refine ⟨b,f',c,?_,h2,?_⟩
    ·unfold Em;rw [U,zCj];exact h1
    ·rw [h3];constructor
     ·rintro ⟨v,hv,h4,h5,h6⟩;exact ⟨x,zDh,v,zDK _ hv,e1,h4,e2,h5,h6⟩
     ·rintro ⟨u,hu,v,hv,h4,h5,h6,h7,h8⟩
      by_cases e3:y3.1.getD u.toNat 0=y3.1.getD x.toNat 0
      ·rcases zDF.1 hv with rfl | hv
       ·exact absurd e3.symm h8
       ·exact ⟨v,hv,h5,h7,fun e=>h8 (e.trans e3.symm)⟩
      ·rcases zDF.1 hu with rfl | hu
       ·exact absurd rfl e3
       ·exact ⟨u,hu,h4,h6,e3⟩
theorem oP (G:H6 g) (hI:inn.length=g.length) (hS:some'.length=g.length) {a:Nat} (ha:a<g.length) (jT:inn.getD a false=true):
 Ad (fun n=>MC n g inn some' (a:Int)) (fun r=>r.2=0/\ (r.1=true↔Sp g inn some' (a:Int))):=by
 have hG:=G.gr.len;have L:(1000000000000:Nat)=BE:=rfl
 have hw: ∀ n,Ps n (a:Int) inn=some (inn.set a false):=fun n=>by
  unfold Ps XF NY bN;rw [zB3 ⟨by omega,trivial,⟨rfl,rfl⟩,by rw [←L];simp only [zDx];omega⟩,zB3 (by simp),zCj,zD2,zB3 ⟨⟨by omega,by omega⟩,by omega⟩,zB3 (by simp),zC4,zCi]
 have za:(inn.set a false).length=g.length:=by rw [zDE];exact hI
 have e: ∀ n,MC n g inn some' (a:Int)=(JW n g [inn,some']).bind fun y1=>bif (y1 != 0) then some (false,y1) else (parts n g (inn.set a false)).bind fun y3=>(F9 n g a inn).bind fun y4=>(Em (HV n some' a y3) y4 (.s0 false 0)).bind fun y5=>bif y5.2==0 then (match y5.1 with | .s0 b _=>some (b,0)) else bif y5.2==1 then (match y5.1 with | .s0 b _=>some (b,0)) else none:=fun n=>by
  unfold MC dt
  congr 1
  funext y1
  rw [zAZ (by omega),zAc,zAZ (by omega),zAc,zB3 ⟨by omega,by omega⟩,zCi,jT,zDR,zAc,hw,zCj]
 refine Ad.eq ?_ e
 refine Ad.bind (Vz G (fun x hx=>by
  rcases zDF.1 hx with rfl | hx
  ·exact hI
  ·rw [zC2.1 hx];exact hS) (by simp)) ?_
 show Ad (R:=Bool×Int) (fun n=>(parts n g (inn.set a false)).bind fun y3=>(F9 n g a inn).bind fun y4=>(Em (HV n some' a y3) y4 (.s0 false 0)).bind fun y5=>bif y5.2==0 then (match y5.1 with | .s0 b _=>some (b,0)) else bif y5.2==1 then (match y5.1 with | .s0 b _=>some (b,0)) else none) _
 obtain ⟨N,hN⟩:=X7 G.gr hI (s:=(a:Int)) (by omega) (by omega);refine Ad.bindU (s9 G.gr za) ⟨N,fun n hn y3 hy=>?_⟩;obtain ⟨l,hl,A5,Oz⟩:=hN n hn;have hl:F9 n g (a:Int) inn=some l:=hl;have hr: ∀ v∈l,0<=v/\ v<(g.length:Int):=fun v hv=>((Oz v).1 hv).rng G.gr (by omega) (by omega)
 have CH: ∀ v∈l,v≠(a:Int) -> (inn.set a false).getD v.toNat false=true:=fun v hv AY=>by
  have h1:=hr v hv;rw [u8,zDi (by omega),←u8];exact ((Oz v).1 hv).isIn (by rw [zCi];exact jT)
 obtain ⟨b,f',c,h1,h2,h3⟩:=dx (n:=n) (some':=some') (a:=(a:Int)) (y3:=y3) hS hy.1 l hr fun v hv AY=>by
  have h1:=hr v hv;have:=hy.2.1 v.toNat (by omega) (CH v hv AY);omega
 rw [hl,zCj,h1,zCj];refine ⟨(b,0),?_,rfl,?_⟩
 ·rcases h2 with rfl | rfl <;> rfl
 ·show b=true↔_
  rw [h3]
  have key: ∀ u v:Int,u∈l -> v∈l -> u≠a -> (y3.1.getD v.toNat 0=y3.1.getD u.toNat 0↔Rc g (inn.set a false) u v):=fun u v hu hv AY=>by
   have h1:=hr u hu;have h2:=hr v hv;have:=hy.2.2 u.toNat v.toNat (by omega) (by omega) (CH u hu AY)
   rwa [Int.toNat_of_nonneg h1.1,Int.toNat_of_nonneg h2.1] at this
  constructor
  ·rintro ⟨u,hu,v,hv,h4,h5,h6,h7,h8⟩;exact ⟨u,v,h4,h5,h6,h7,(Oz u).1 hu,(Oz v).1 hv,fun h=>h8 ((key u v hu hv h4).2 h)⟩
  ·rintro ⟨u,v,h4,h5,h6,h7,h8,h9,NN⟩;have hu:=(Oz u).2 h8;have hv:=(Oz v).2 h9;exact ⟨u,hu,v,hv,h4,h5,h6,h7,fun h=>NN ((key u v hu hv h4).1 h)⟩
end
end Go.Proofs.YtgkhhfnhacibcaaGreatDoor
namespace Go.Proofs.YtgkhhfnhacibcaaGreatDoor
abbrev zFM:=@List.countP_singleton
end Go.Proofs.YtgkhhfnhacibcaaGreatDoor
namespace Go.Proofs.YtgkhhfnhacibcaaGreatDoor
open Go.RowKit
def Dm (c:AB) (pos:List Int) (a:Nat):Bool:=bits .andNot .i64 (AT c pos a) c.set==0
def EX (c:AB) (pos:List Int) (a:Nat):Bool:=Dm c pos a||(bits .and .i64 (AT c pos a) c.set != 0)
def cnt (p:Nat -> Bool) (i:Nat):Int:=(((List.range i).countP p:Nat):Int)
theorem KZ {p:Nat -> Bool} {i:Nat}:cnt p (i+1)=cnt p i+(if p i then 1 else 0):=by
 unfold cnt;rw [List.range_succ,List.countP_append,zFM];split <;> simp
theorem bK {p:Nat -> Bool} {i:Nat}:0<=cnt p i/\ cnt p i<=i:=by
 unfold cnt;have:=zEo (p:=p) (l:=List.range i);rw [zEM] at this;omega
def KX (c:AB) (pos:List Int):Bool:=!decide (cnt (Dm c pos) c.cells.length>c.hi)&&!decide (cnt (EX c pos) c.cells.length<c.lo)
def Hw (c:AB) (pos:List Int) (a s:Nat):Bool:=
 ((cnt (Dm c pos) c.cells.length==c.hi)&&(bits .andNot .i64 (AT c pos a) c.set != 0)&&tb c.set s)||((cnt (EX c pos) c.cells.length==c.lo)&&(bits .and .i64 (AT c pos a) c.set != 0)&&!tb c.set s)
section
variable {c:AB} {k:Nat} {pos lost:List Int} {q:AA}
theorem zA2 {n:Nat} {x3 x4:Int} (W:Bv c k pos) (hl:lost.length=pos.length) (h3:x3=cnt (Dm c pos) c.cells.length) (h4:x4=cnt (EX c pos) c.cells.length) (hn:c.cells.length+1<=n):
 ∃ l,Io c q pos pos.length lost n (.l2 x3 x4 0 lost)=some (true,l)/\ B3 c pos lost c.cells.length (fun a s=>Hw c pos a s=true) l:=by
 have lt: ∀ i,i<c.cells.length -> ((i:Nat):Int)<((c.cells.length:Nat):Int):=fun i hi=>by omega
 have T:=G6 (fun n (s:List Int) i=>Io c q pos pos.length lost n (.l2 x3 x4 i s)) c.cells.length 1
  (fun i s=>B3 c pos lost i (fun a s=>Hw c pos a s=true) s) (fun n i s Fd hi hI=>?_) (n:=n) (s:=lost) (by omega) (B3.zero hl)
 ·obtain ⟨n3,l,Ru,_,e2,hL⟩:=T;obtain ⟨n4,rfl⟩: ∃ n4,n3=n4+1:=⟨n3-1,by omega⟩;refine ⟨l,e2.trans ?_,hL⟩
  show Si n4 (Io c q pos pos.length lost n4) c q pos pos.length lost x3 x4 (c.cells.length:Int) l=_
  unfold Si;rw [zAZ (by omega),zAc]
 ·have hc:=W.cells i hi;have hr:=W.r64 hi
  have key: ∀ l':List Int,l'.length=pos.length -> (∀ j x,tb (l'.getD j 0) x=(tb (s.getD j 0) x||(decide (j=(c.cells.getD i 0).toNat)&&(tb (pos.getD j 0) x&&Hw c pos i x)))) -> B3 c pos lost (i+1) (fun a s=>Hw c pos a s=true) l':=by
   intro l' h1 h2;refine hI.step h1 fun j x=>?_
   rw [h2,zC7,zCp,zCp,zCw];constructor
   ·rintro (h | ⟨rfl,h⟩)
    ·exact .inl h
    ·exact .inr ⟨rfl,h⟩
   ·rintro (h | ⟨rfl,h⟩)
    ·exact .inl h
    ·exact .inr ⟨rfl,h⟩
  obtain ⟨l1,e1,n1,f1⟩:=J6 (lost:=s) (n:=n) (ss:=c.set) (c:=c) (q:=q) hc.1 hc.2 hI.1;obtain ⟨l2,e2,n2,f2⟩:=YW (lost:=l1) (n:=n) (c:=c) (q:=q) hc.1 hc.2 n1;obtain ⟨l3,e3,n3,f3⟩:=YW (lost:=s) (n:=n) (c:=c) (q:=q) hc.1 hc.2 hI.1;have d0:decide ((i:Int)<((c.cells.length:Nat):Int))=true:=zCm (lt i hi);have g0:(0:Int)<=(i:Int)/\ (i:Int)<((c.cells.length:Nat):Int):=⟨by omega,lt i hi⟩
  show ∃ s',Si n (Io c q pos pos.length lost n) c q pos pos.length lost x3 x4 (i:Int) s=_/\ _
  unfold Si;rw [d0,zCk,zB3 g0];simp only [zCi];have X: ∀ x,Hw c pos i x=(((x3==c.hi)&&(bits .andNot .i64 (pos.getD (c.cells.getD i 0).toNat 0) c.set != 0)&&tb c.set x)||((x4==c.lo)&&(bits .and .i64 (pos.getD (c.cells.getD i 0).toNat 0) c.set != 0)&&!tb c.set x)):=fun x=>by rw [h3,h4];rfl
  cases hA:(x3==c.hi) <;> cases hC:(x4==c.lo) <;> cases hB:(bits .andNot .i64 (pos.getD (c.cells.getD i 0).toNat 0) c.set != 0) <;> cases hE:(bits .and .i64 (pos.getD (c.cells.getD i 0).toNat 0) c.set != 0) <;>
   simp only [hA,hB,hC,hE,zDG,zD6,zEu,Bool.and_true,zD9,zEC] at X <;>
   simp only [zCk,zAc,zB3 hc,e1,e2,e3,zCj,zB3 hr.2]
  all_goals first
   | exact ⟨s,rfl,key s hI.1 fun j x=>by rw [X,zEu,zEu,zD9]⟩
   | exact ⟨l1,rfl,key l1 n1 fun j x=>by rw [f1,X]⟩
   | exact ⟨l3,rfl,key l3 n3 fun j x=>by rw [f3,X]⟩
   | exact ⟨l2,rfl,key l2 n2 fun j x=>by
    rw [f2,f1,X];cases tb (s.getD j 0) x <;> cases decide (j=(c.cells.getD i 0).toNat) <;> cases tb (pos.getD j 0) x <;> cases tb c.set x <;> rfl⟩
theorem zA3 {n:Nat} (W:Bv c k pos) (hl:lost.length=pos.length) (hn:2*c.cells.length+3<=n):
 ∃ l,PW n c q pos pos.length lost=some (KX c pos,l)/\ (KX c pos=true -> B3 c pos lost c.cells.length (fun a s=>Hw c pos a s=true) l):=by
 have lt: ∀ i,i<c.cells.length -> ((i:Nat):Int)<((c.cells.length:Nat):Int):=fun i hi=>by omega
 have S:=G6 (fun n (s:Int×Int) i=>Io c q pos pos.length lost n (.l1 s.1 s.2 i)) c.cells.length (c.cells.length+3)
  (fun i s=>s.1=cnt (Dm c pos) i/\ s.2=cnt (EX c pos) i) (fun n i s _ hi hI=>?_) (n:=n) (s:=(0,0)) (by omega) ⟨rfl,rfl⟩
 ·obtain ⟨n1,⟨x3,x4⟩,GN,_,e1,h3,h4⟩:=S;obtain ⟨n2,rfl⟩: ∃ n2,n1=n2+1:=⟨n1-1,by omega⟩;have e2:PW n c q pos pos.length lost=Sj n2 (Io c q pos pos.length lost n2) c q pos pos.length lost x3 x4 (c.cells.length:Int):=e1;have h3:x3=cnt (Dm c pos) c.cells.length:=h3;have h4:x4=cnt (EX c pos) c.cells.length:=h4;unfold Sj at e2;rw [zAZ (by omega),zAc] at e2;unfold KX;rw [←h3,←h4];cases h5:decide (x3>c.hi)
  ·cases h6:decide (x4<c.lo)
   ·obtain ⟨l,e3,hL⟩:=zA2 (q:=q) (n:=n2) W hl h3 h4 (by omega);rw [h5,h6,zAc,zAc,e3] at e2;exact ⟨l,e2,fun _=>hL⟩
   ·rw [h5,h6,zAc,zCk] at e2;exact ⟨lost,e2,fun h=>by cases h⟩
  ·rw [h5,zCk] at e2;exact ⟨lost,e2,fun h=>by cases h⟩
 ·obtain ⟨x3,x4⟩:=s;obtain ⟨h3,h4⟩:=hI;simp only at h3 h4;have hc:=W.cells i hi;have hr:=W.r64 hi;have b3:=bK (p:=Dm c pos) (i:=i);have b4:=bK (p:=EX c pos) (i:=i);have Ah:=W.len;have r3:AI (x3+1):=An.2 ⟨by omega,by omega⟩;have r4:AI (x4+1):=An.2 ⟨by omega,by omega⟩
  show ∃ s',Sj n (Io c q pos pos.length lost n) c q pos pos.length lost x3 x4 (i:Int)=_/\ _
  unfold Sj;rw [zCm (lt i hi),zCk];simp only [zCi];rw [zB3 ⟨⟨by omega,lt i hi⟩,hc⟩];have m1:(bits .andNot .i64 (pos.getD (c.cells.getD i 0).toNat 0) c.set==0)=Dm c pos i:=rfl;have m2:(Dm c pos i||(bits .and .i64 (pos.getD (c.cells.getD i 0).toNat 0) c.set != 0))=EX c pos i:=rfl;rw [m1];cases hm:Dm c pos i
  ·rw [hm,zEC] at m2;rw [zAc,m2];cases hy:EX c pos i
   ·rw [zAc,zB3 hr.2];exact ⟨(x3,x4),rfl,by rw [KZ,hm];simpa using h3,by rw [KZ,hy];simpa using h4⟩
   ·rw [zCk,zB3 ⟨r4,hr.2⟩];exact ⟨(x3,x4+1),rfl,by rw [KZ,hm];simpa using h3,by rw [KZ,hy];simpa using h4⟩
  ·have hy:EX c pos i=true:=by rw [←m2,hm];rfl
   rw [zCk,zB3 ⟨r3,r4,hr.2⟩];exact ⟨(x3+1,x4+1),rfl,by rw [KZ,hm];simpa using h3,by rw [KZ,hy];simpa using h4⟩
end
end Go.Proofs.YtgkhhfnhacibcaaGreatDoor
namespace Go.Proofs.YtgkhhfnhacibcaaGreatDoor
abbrev zDS:=@Nat.lt_of_not_le
end Go.Proofs.YtgkhhfnhacibcaaGreatDoor
namespace Go.Proofs.YtgkhhfnhacibcaaGreatDoor
open Go.RowKit
theorem nn (x:Int) (i:Nat):tb (IntKind.i64.wrap x) i=tb x i:=by unfold tb;rw [RB]
theorem H7 {s:Nat} (hs:s<64) (i:Nat):tb (IntKind.i64.wrap (1*2 ^ s)) i=decide (s=i):=by
 rw [nn,Int.one_mul];rcases zD3 i 64 with h | h
 ·have e:((2 ^ s:Nat):Int)=(2:Int) ^ s:=by simp
  rw [←e];exact np h
 ·rw [H9 h,zAZ (by omega)]
theorem E0 {k:Nat} {x:Int} (h:Sm k x) (hk:k<=62) {e:Int}:e∈BN x↔∃ s:Nat,e=(s:Int)/\ s<k/\ tb x s=true:=by
 obtain ⟨m,rfl⟩:=zEN h.1;unfold BN Eg;simp only [zDr,zEG,zCy,zCi];constructor
 ·rintro ⟨s,⟨h1,h2⟩,rfl⟩;have h3:tb (m:Int) s=true:=by rw [H8 m s h1];exact h2
  refine ⟨s,rfl,?_,h3⟩;refine zDS fun Bx=>?_
  rw [h.hi Bx] at h3;cases h3
 ·rintro ⟨s,rfl,h1,h2⟩;exact ⟨s,⟨by omega,by rw [H8 m s (by omega)] at h2;exact h2⟩,rfl⟩
theorem WB {α σ:Type} {f:α -> σ -> Option σ} (Inv:List α -> σ -> Prop): ∀ (l pre:List α) (s:σ),Inv pre s -> (∀ pre x s,x∈l -> Inv pre s -> ∃ s',f x s=some s'/\ Inv (pre++[x]) s') -> ∃ s',B6 f l s=some s'/\ Inv (pre++l) s'
 | [],pre,s,h,_=>⟨s,rfl,by rw [zEX];exact h⟩
 | x::l,pre,s,h,hs=>by
  obtain ⟨s',h1,h2⟩:=hs pre x s (.head _) h;obtain ⟨s2,h3,h4⟩:=WB Inv l (pre++[x]) s' h2 fun pre y s hy=>hs pre y s (.tail _ hy)
  refine ⟨s2,?_,by rw [zEp] at h4;exact h4⟩;simp only [B6];rw [h1,zCj,h3]
structure Do (q:AA) (k:Nat):Prop where
 len:k<=q.values.length
 val: ∀ s,s<k -> 0<=q.values.getD s 0/\ q.values.getD s 0<=99
def JJ (q:AA) (a e:Int):Int:=if q.values.getD e.toNat 0<a then q.values.getD e.toNat 0 else a
def JP (q:AA) (a e:Int):Int:=if q.values.getD e.toNat 0>a then q.values.getD e.toNat 0 else a
def EE (q:AA) (x:Int):Int:=(BN x).foldl (JJ q) 100
def EH (q:AA) (x:Int):Int:=(BN x).foldl (JP q) (-1)
section
variable {c:AB} {k:Nat} {pos lost:List Int} {q:AA}
theorem iI: ∀ (l:List Int) (a:Int),(∀ e∈l,0<=q.values.getD e.toNat 0/\ q.values.getD e.toNat 0<=99) -> 0<=a/\ a<=100 -> 0<=l.foldl (JJ q) a/\ l.foldl (JJ q) a<=100
 | [],_,_,h=>h
 | e::l,a,hv,h=>by
  have:=hv e (.head _);refine iI l (JJ q a e) (fun e he=>hv e (.tail _ he)) ?_;unfold JJ;split <;> omega
theorem jU: ∀ (l:List Int) (a:Int),(∀ e∈l,0<=q.values.getD e.toNat 0/\ q.values.getD e.toNat 0<=99) -> -1<=a/\ a<=99 -> -1<=l.foldl (JP q) a/\ l.foldl (JP q) a<=99
 | [],_,_,h=>h
 | e::l,a,hv,h=>by
  have:=hv e (.head _);refine jU l (JP q a e) (fun e he=>hv e (.tail _ he)) ?_;unfold JP;split <;> omega
theorem Do.sym (V:Do q k) (hk:k<=16) {x:Int} (h:Sm k x): ∀ e∈BN x,(0<=e/\ e<((q.values.length:Nat):Int))/\ 0<=q.values.getD e.toNat 0/\ q.values.getD e.toNat 0<=99:=by
 intro e he;obtain ⟨s,rfl,h1,_⟩:=(E0 h (zCv hk (by decide))).1 he;have:=V.len;rw [zCi];exact ⟨by omega,V.val s h1⟩
theorem Do.lo (V:Do q k) (hk:k<=16) {x:Int} (h:Sm k x):0<=EE q x/\ EE q x<=100:=iI _ _ (fun e he=>(V.sym hk h e he).2) (by decide)
theorem Do.hi (V:Do q k) (hk:k<=16) {x:Int} (h:Sm k x): -1<=EH q x/\ EH q x<=99:=jU _ _ (fun e he=>(V.sym hk h e he).2) (by decide)
theorem kg {n ln:Nat}: ∀ (l:List Int) (a b:Int),(∀ e∈l,0<=e/\ e<((q.values.length:Nat):Int)) -> B6 (SV n c q pos ln lost) l (.s0 a b)=some (.s0 (l.foldl (JJ q) a) (l.foldl (JP q) b))
 | [],_,_,_=>rfl
 | e::l,a,b,h=>by
  have e1:SV n c q pos ln lost e (.s0 a b)=some (.s0 (JJ q a e) (JP q b e)):=by
   unfold SV kj km
   dsimp only
   rw [zB3 (h e (.head _))];rfl
  simp only [B6];rw [e1,zCj,kg l _ _ fun e he=>h e (.tail _ he)];rfl
theorem kf {n ln:Nat} (V:Do q k) (hk:k<=16) {x:Int} (h:Sm k x):SW n x c q pos ln lost=some (EE q x,EH q x,lost):=by
 have ae:=LA (k:=k) (zCv hk (by decide));have h2:=h.2;unfold SW ki;rw [zB3 ⟨h.1,by omega⟩,kg (BN x) 100 (-1) fun e he=>(V.sym hk h e he).1];rfl
def CM (f:Nat -> Int):Nat -> Int
 | 0=>0
 | i+1=>CM f i+f i
theorem Nw {f:Nat -> Int}: ∀ (i:Nat),(∀ a,a<i -> -1<=f a/\ f a<=100) -> -(i:Int)<=CM f i/\ CM f i<=100*(i:Int)
 | 0,_=>by simp [CM]
 | i+1,h=>by
  have h1:=Nw i fun a ha=>h a (by omega)
  have h2:=h i (by omega);simp only [CM];omega
def JI (q:AA) (c:AB) (pos:List Int):Int:=CM (fun a=>EE q (AT c pos a)) c.cells.length
def JO (q:AA) (c:AB) (pos:List Int):Int:=CM (fun a=>EH q (AT c pos a)) c.cells.length
def Jm (q:AA) (c:AB) (pos:List Int):Bool:=!decide (JI q c pos>c.hi)&&!decide (JO q c pos<c.lo)
def HU (q:AA) (c:AB) (pos:List Int) (a s:Nat):Bool:=
 decide (JI q c pos-EE q (AT c pos a)+q.values.getD s 0>c.hi)||decide (JO q c pos-EH q (AT c pos a)+q.values.getD s 0<c.lo)
theorem iF {T:Type} {n:Nat} (W:Bv c k pos) {i:Nat} (hi:i<c.cells.length) (hl:lost.length=pos.length) (mk:List Int -> T) (f:Int -> T -> Option T) (X:Nat -> Bool)
 (hf: ∀ (s:Nat) (l:List Int),s<k -> l.length=pos.length -> f (s:Int) (mk l)=bif X s then (DP n (c.cells.getD i 0) (IntKind.i64.wrap (1*2 ^ s)) c q pos pos.length l).map mk else some (mk l)):
 ∃ l',B6 f (BN (AT c pos i)) (mk lost)=some (mk l')/\ l'.length=pos.length/\
  ∀ j s,tb (l'.getD j 0) s=true↔tb (lost.getD j 0) s=true∨((c.cells.getD i 0).toNat=j/\ tb (AT c pos i) s=true/\ X s=true):=by
 have hc:=W.cells i hi;have Cn:=W.at hi;have hk:=W.k
 have key:=WB (f:=f)
  (fun pre s=>∃ l',s=mk l'/\ l'.length=pos.length/\ ∀ j s,tb (l'.getD j 0) s=true↔tb (lost.getD j 0) s=true∨((c.cells.getD i 0).toNat=j/\ tb (AT c pos i) s=true/\ (s:Int)∈pre/\ X s=true))
  (BN (AT c pos i)) [] (mk lost) ⟨lost,rfl,hl,fun j s=>⟨.inl,fun h=>h.elim id fun h=>(by cases h.2.2.1)⟩⟩ ?_
 ·obtain ⟨_,h1,l',rfl,h2,h3⟩:=key;refine ⟨l',h1,h2,fun j s=>?_⟩;rw [h3,zD2];constructor
  ·rintro (h | ⟨a1,a2,_,a3⟩)
   ·exact .inl h
   ·exact .inr ⟨a1,a2,a3⟩
  ·rintro (h | ⟨a1,a2,a3⟩)
   ·exact .inl h
   ·refine .inr ⟨a1,a2,(E0 Cn (zCv hk (by decide))).2 ⟨s,rfl,zDS fun Bx=>?_,a2⟩,a3⟩;rw [Cn.hi Bx] at a2;cases a2
 ·rintro pre e _ he ⟨l',rfl,h2,h3⟩;obtain ⟨s,rfl,hs,jp⟩:=(E0 Cn (zCv hk (by decide))).1 he;rw [hf s l' hs h2];cases hx:X s
  ·rw [zAc];refine ⟨_,rfl,l',rfl,h2,fun j x=>?_⟩;rw [h3];constructor
   ·rintro (h | ⟨a1,a2,a3,a4⟩)
    ·exact .inl h
    ·exact .inr ⟨a1,a2,zDL _ a3,a4⟩
   ·rintro (h | ⟨a1,a2,a3,a4⟩)
    ·exact .inl h
    ·rcases zC9.1 a3 with a3 | a3
     ·exact .inr ⟨a1,a2,a3,a4⟩
     ·have:x=s:=by have:=zC2.1 a3;omega
      subst this;rw [hx] at a4;cases a4
  ·obtain ⟨l2,e2,n2,f2⟩:=J6 (lost:=l') (n:=n) (ss:=IntKind.i64.wrap (1*2 ^ s)) (c:=c) (q:=q) hc.1 hc.2 h2;rw [zCk,e2,zDI];refine ⟨_,rfl,l2,rfl,n2,fun j x=>?_⟩;rw [f2,zC7,zCp,zCp,zCw,h3,H7 (by omega),zCw];constructor
   ·rintro ((h | ⟨a1,a2,a3,a4⟩) | ⟨rfl,a2,rfl⟩)
    ·exact .inl h
    ·exact .inr ⟨a1,a2,zDL _ a3,a4⟩
    ·exact .inr ⟨rfl,a2,zDX _ (.head _),hx⟩
   ·rintro (h | ⟨a1,a2,a3,a4⟩)
    ·exact .inl (.inl h)
    ·rcases zC9.1 a3 with a3 | a3
     ·exact .inl (.inr ⟨a1,a2,a3,a4⟩)
     ·have:x=s:=by have:=zC2.1 a3;omega
      subst this;subst a1;exact .inr ⟨rfl,a2,rfl⟩
theorem oB {n:Nat} (W:Bv c k pos) (V:Do q k) {i:Nat} (hi:i<c.cells.length) {low high:Int} (Vl:low=JI q c pos) (jV:high=JO q c pos) (hl:lost.length=pos.length):
 ∃ l',B6 (Tj n c (i:Int) q pos pos.length low high (EE q (AT c pos i),EH q (AT c pos i),lost)) (BN (AT c pos i)) (.s0 lost)=some (.s0 l')/\ l'.length=pos.length/\
  ∀ j s,tb (l'.getD j 0) s=true↔tb (lost.getD j 0) s=true∨((c.cells.getD i 0).toNat=j/\ tb (AT c pos i) s=true/\ HU q c pos i s=true):=by
 have hc:=W.cells i hi;have Cn:=W.at hi;have hk:=W.k;have Ah:=W.len;have bl:=V.lo hk Cn;have bh:=V.hi hk Cn;have tl:=Nw (f:=fun a=>EE q (AT c pos a)) c.cells.length fun a ha=>by have:=V.lo hk (W.at ha);omega
 have th:=Nw (f:=fun a=>EH q (AT c pos a)) c.cells.length fun a ha=>by have:=V.hi hk (W.at ha);omega
 have tl: -(c.cells.length:Int)<=low/\ low<=100*(c.cells.length:Int):=by rw [Vl];exact tl
 have th: -(c.cells.length:Int)<=high/\ high<=100*(c.cells.length:Int):=by rw [jV];exact th
 refine iF (n:=n) (q:=q) W hi hl Jl.s0 _ (HU q c pos i) fun s l hs hl=>?_
 have hv:=V.val s hs;have FJ:=V.len;have r1:AI (low-EE q (AT c pos i)):=An.2 ⟨by omega,by omega⟩;have r2:AI (low-EE q (AT c pos i)+q.values.getD s 0):=An.2 ⟨by omega,by omega⟩;have r3:AI (high-EH q (AT c pos i)):=An.2 ⟨by omega,by omega⟩;have r4:AI (high-EH q (AT c pos i)+q.values.getD s 0):=An.2 ⟨by omega,by omega⟩;have g1:(0:Int)<=(s:Int)/\ (s:Int)<((q.values.length:Nat):Int):=by omega
 have g2:(0:Int)<=(s:Int)/\ (s:Int)<=((IntKind.i64.bits:Nat):Int):=⟨by omega,by show (s:Int)<=64;omega⟩;obtain ⟨l2,e2,_,_⟩:=J6 (lost:=l) (n:=n) (ss:=IntKind.i64.wrap (1*2 ^ s)) (c:=c) (q:=q) hc.1 hc.2 hl;have X:HU q c pos i s=(decide (low-EE q (AT c pos i)+q.values.getD s 0>c.hi)||decide (high-EH q (AT c pos i)+q.values.getD s 0<c.lo)):=by rw [Vl,jV];rfl
 rw [X];unfold Tj di Ti
 dsimp only
 simp only [zCi];rw [zB3 ⟨g1,r1,r2⟩];cases hA:decide (low-EE q (AT c pos i)+q.values.getD s 0>c.hi)
 ·rw [zAc,zB3 ⟨r3,r4⟩,zEC];cases hB:decide (high-EH q (AT c pos i)+q.values.getD s 0<c.lo)
  ·rfl
  ·rw [zCk,zCk,zB3 g2,e2];rfl
 ·rw [zCk,Bool.true_or,zCk,zB3 g2,e2];rfl
theorem n7 {n:Nat} (W:Bv c k pos) (V:Do q k) (hl:lost.length=pos.length) (hn:c.cells.length+1<=n):
 ∃ l,IB c q pos pos.length lost n (.l2 0 lost (JI q c pos) (JO q c pos))=some (true,l)/\ B3 c pos lost c.cells.length (fun a s=>HU q c pos a s=true) l:=by
 have lt: ∀ i,i<c.cells.length -> ((i:Nat):Int)<((c.cells.length:Nat):Int):=fun i hi=>by omega
 have T:=G6 (fun n (s:List Int) i=>IB c q pos pos.length lost n (.l2 i s (JI q c pos) (JO q c pos))) c.cells.length 1
  (fun i s=>B3 c pos lost i (fun a s=>HU q c pos a s=true) s) (fun n i s Fd hi hI=>?_) (n:=n) (s:=lost) (by omega) (B3.zero hl)
 ·obtain ⟨n3,l,Ru,_,e2,hL⟩:=T;obtain ⟨n4,rfl⟩: ∃ n4,n3=n4+1:=⟨n3-1,by omega⟩;refine ⟨l,e2.trans ?_,hL⟩
  show P7 n4 (IB c q pos pos.length lost n4) c q pos pos.length lost (c.cells.length:Int) l _ _=_
  unfold P7;rw [zAZ (by omega),zAc]
 ·have hc:=W.cells i hi;have hr:=W.r64 hi;have Cn:=W.at hi;have ae:=LA (k:=k) (zCv W.k (by decide));have Ho:=Cn.2;obtain ⟨l',e1,n1,f1⟩:=oB (n:=n) W V hi rfl rfl hI.1
  show ∃ s',P7 n (IB c q pos pos.length lost n) c q pos pos.length lost (i:Int) s _ _=_/\ _
  unfold P7;rw [zCm (lt i hi),zCk];simp only [zCi];have sa:pos.getD (c.cells.getD i 0).toNat 0=AT c pos i:=rfl;rw [zB3 ⟨⟨by omega,lt i hi⟩,hc⟩,sa,kf V W.k Cn,zCj,zB3 ⟨Cn.1,by show AT c pos i<_;omega⟩];refine ⟨l',?_,hI.step n1 f1⟩;refine (congrArg (fun z=>Option.bind z _) e1).trans ?_;rw [zCj];simp only;rw [zB3 hr.2]
theorem n8 {n:Nat} (W:Bv c k pos) (V:Do q k) (hl:lost.length=pos.length) (hn:2*c.cells.length+3<=n):
 ∃ l,Nz n c q pos pos.length lost=some (Jm q c pos,l)/\ (Jm q c pos=true -> B3 c pos lost c.cells.length (fun a s=>HU q c pos a s=true) l):=by
 have lt: ∀ i,i<c.cells.length -> ((i:Nat):Int)<((c.cells.length:Nat):Int):=fun i hi=>by omega
 have S:=G6 (fun n (s:List Int×Int×Int) i=>IB c q pos pos.length lost n (.l1 i s.1 s.2.1 s.2.2)) c.cells.length (c.cells.length+3)
  (fun i s=>s.1=lost/\ s.2.1=CM (fun a=>EE q (AT c pos a)) i/\ s.2.2=CM (fun a=>EH q (AT c pos a)) i) (fun n i s _ hi hI=>?_) (n:=n) (s:=(lost,0,0)) (by omega) ⟨rfl,rfl,rfl⟩
 ·obtain ⟨n1,⟨l0,x3,x4⟩,GN,_,e1,h0,h3,h4⟩:=S;obtain ⟨n2,rfl⟩: ∃ n2,n1=n2+1:=⟨n1-1,by omega⟩;obtain rfl:l0=lost:=h0;obtain rfl:x3=JI q c pos:=h3;obtain rfl:x4=JO q c pos:=h4;have e2:Nz n c q pos pos.length l0=P8 n2 (IB c q pos pos.length l0 n2) c q pos pos.length l0 (c.cells.length:Int) l0 (JI q c pos) (JO q c pos):=e1;unfold P8 at e2;rw [zAZ (by omega),zAc] at e2;unfold Jm;cases h5:decide (JI q c pos>c.hi)
  ·cases h6:decide (JO q c pos<c.lo)
   ·obtain ⟨l,e3,hL⟩:=n7 (n:=n2) W V hl (by omega);rw [h5,h6,zAc,zAc,e3] at e2;exact ⟨l,e2,fun _=>hL⟩
   ·rw [h5,h6,zAc,zCk] at e2;exact ⟨l0,e2,fun h=>by cases h⟩
  ·rw [h5,zCk] at e2;exact ⟨l0,e2,fun h=>by cases h⟩
 ·obtain ⟨l0,x3,x4⟩:=s;obtain ⟨h0,h3,h4⟩:=hI;simp only at h0 h3 h4;have hc:=W.cells i hi;have hr:=W.r64 hi;have Cn:=W.at hi;have b3:=Nw (f:=fun a=>EE q (AT c pos a)) i fun a ha=>by have:=V.lo W.k (W.at (Nat.lt_trans ha hi));omega
  have b4:=Nw (f:=fun a=>EH q (AT c pos a)) i fun a ha=>by have:=V.hi W.k (W.at (Nat.lt_trans ha hi));omega
  have bl:=V.lo W.k Cn;have bh:=V.hi W.k Cn;have Ah:=W.len;rw [←h3] at b3;rw [←h4] at b4;have r3:AI (x3+EE q (AT c pos i)):=An.2 ⟨by omega,by omega⟩;have r4:AI (x4+EH q (AT c pos i)):=An.2 ⟨by omega,by omega⟩
  show ∃ s',P8 n (IB c q pos pos.length lost n) c q pos pos.length lost (i:Int) l0 x3 x4=_/\ _
  unfold P8;rw [zCm (lt i hi),zCk];simp only [zCi];have sa:pos.getD (c.cells.getD i 0).toNat 0=AT c pos i:=rfl;rw [zB3 ⟨⟨by omega,lt i hi⟩,hc⟩,sa,kf V W.k Cn,zCj,zB3 ⟨r3,r4,hr.2⟩];exact ⟨(l0,x3+EE q (AT c pos i),x4+EH q (AT c pos i)),rfl,h0,by simp only [CM];rw [h3],by simp only [CM];rw [h4]⟩
end
end Go.Proofs.YtgkhhfnhacibcaaGreatDoor
namespace Go.Proofs.YtgkhhfnhacibcaaGreatDoor
open Go.RowKit
set_option maxRecDepth 100000
set_option maxHeartbeats 40000000
def dW:ST:=.rd 0 (.rd 1 (.rd 3 (.rd 4 (.ef 2 (.ef 5 (.ef 6 (.ef 7 (.ef 8 (.ef 9 (.fin [0,1,2,3] [1,3,4,5,58,91,92,104,148]) (.no)) (.no)) (.no)) (.ef 7 (.ef 6 (.ef 8 (.ef 9 (.fin [0,1,3,2] [1,3,4,5,58,91,92,104,148]) (.no)) (.no)) (.no)) (.no))) (.ef 6 (.ef 5 (.ef 7 (.ef 8 (.ef 9 (.fin [0,2,1,3] [1,3,4,5,58,91,92,104,148]) (.no)) (.no)) (.no)) (.ef 7 (.ef 5 (.ef 8 (.ef 9 (.fin [0,3,1,2] [1,3,4,5,58,91,92,104,148]) (.no)) (.no)) (.ef 8 (.ef 5 (.ef 9 (.fin [0,3,1,2] [1,3,4,5,58,91,92,104,148]) (.no)) (.no)) (.no))) (.no))) (.ef 7 (.ef 5 (.ef 6 (.ef 8 (.ef 9 (.fin [0,2,3,1] [1,3,4,5,58,91,92,104,148]) (.no)) (.no)) (.no)) (.ef 6 (.ef 5 (.ef 8 (.ef 9 (.fin [0,3,2,1] [1,3,4,5,58,91,92,104,148]) (.no)) (.no)) (.ef 8 (.ef 5 (.ef 9 (.fin [0,3,2,1] [1,3,4,5,58,91,92,104,148]) (.no)) (.no)) (.no))) (.no))) (.no)))) (.ef 5 (.ef 2 (.ef 6 (.ef 7 (.ef 8 (.ef 9 (.fin [1,0,2,3] [1,3,4,5,58,91,92,104,148]) (.no)) (.no)) (.no)) (.ef 7 (.ef 6 (.ef 8 (.ef 9 (.fin [1,0,3,2] [1,3,4,5,58,91,92,104,148]) (.no)) (.no)) (.no)) (.no))) (.ef 6 (.ef 2 (.ef 7 (.ef 8 (.ef 9 (.fin [2,0,1,3] [1,3,4,5,58,91,92,104,148]) (.no)) (.no)) (.no)) (.ef 7 (.ef 2 (.ef 8 (.ef 9 (.fin [3,0,1,2] [1,3,4,5,58,91,92,104,148]) (.no)) (.no)) (.no)) (.no))) (.ef 7 (.ef 2 (.ef 6 (.ef 8 (.ef 9 (.fin [2,0,3,1] [1,3,4,5,58,91,92,104,148]) (.no)) (.no)) (.no)) (.ef 6 (.ef 2 (.ef 8 (.ef 9 (.fin [3,0,2,1] [1,3,4,5,58,91,92,104,148]) (.no)) (.no)) (.no)) (.no))) (.no)))) (.ef 6 (.ef 2 (.ef 5 (.ef 7 (.ef 8 (.ef 9 (.fin [1,2,0,3] [1,3,4,5,58,91,92,104,148]) (.no)) (.no)) (.no)) (.ef 7 (.ef 5 (.ef 8 (.ef 9 (.fin [1,3,0,2] [1,3,4,5,58,91,92,104,148]) (.no)) (.no)) (.ef 8 (.ef 5 (.ef 9 (.fin [1,3,0,2] [1,3,4,5,58,91,92,104,148]) (.no)) (.no)) (.no))) (.no))) (.ef 5 (.ef 2 (.ef 7 (.ef 8 (.ef 9 (.fin [2,1,0,3] [1,3,4,5,58,91,92,104,148]) (.no)) (.no)) (.no)) (.ef 7 (.ef 2 (.ef 8 (.ef 9 (.fin [3,1,0,2] [1,3,4,5,58,91,92,104,148]) (.no)) (.no)) (.no)) (.no))) (.ef 7 (.ef 2 (.ef 5 (.ef 8 (.ef 9 (.fin [2,3,0,1] [1,3,4,5,58,91,92,104,148]) (.no)) (.no)) (.ef 8 (.ef 5 (.ef 9 (.fin [2,3,0,1] [1,3,4,5,58,91,92,104,148]) (.no)) (.no)) (.no))) (.ef 5 (.ef 2 (.ef 8 (.ef 9 (.fin [3,2,0,1] [1,3,4,5,58,91,92,104,148]) (.no)) (.no)) (.no)) (.no))) (.no)))) (.ef 7 (.ef 2 (.ef 5 (.ef 6 (.ef 8 (.ef 9 (.fin [1,2,3,0] [1,3,4,5,58,91,92,104,148]) (.no)) (.no)) (.no)) (.ef 6 (.ef 5 (.ef 8 (.ef 9 (.fin [1,3,2,0] [1,3,4,5,58,91,92,104,148]) (.no)) (.no)) (.ef 8 (.ef 5 (.ef 9 (.fin [1,3,2,0] [1,3,4,5,58,91,92,104,148]) (.no)) (.no)) (.no))) (.no))) (.ef 5 (.ef 2 (.ef 6 (.ef 8 (.ef 9 (.fin [2,1,3,0] [1,3,4,5,58,91,92,104,148]) (.no)) (.no)) (.no)) (.ef 6 (.ef 2 (.ef 8 (.ef 9 (.fin [3,1,2,0] [1,3,4,5,58,91,92,104,148]) (.no)) (.no)) (.no)) (.no))) (.ef 6 (.ef 2 (.ef 5 (.ef 8 (.ef 9 (.fin [2,3,1,0] [1,3,4,5,58,91,92,104,148]) (.no)) (.no)) (.ef 8 (.ef 5 (.ef 9 (.fin [2,3,1,0] [1,3,4,5,58,91,92,104,148]) (.no)) (.no)) (.no))) (.ef 5 (.ef 2 (.ef 8 (.ef 9 (.fin [3,2,1,0] [1,3,4,5,58,91,92,104,148]) (.no)) (.no)) (.no)) (.no))) (.no)))) (.no))))))))
theorem pf:CQ (BA Tryz.f71 2) [2,5,6,7,8] dW:=by unfold CQ;kernel_rfl
def dV:ST:=.rd 0 (.rd 1 (.rd 2 (.rd 3 (.ef 4 (.rd 5 (.ef 6 (.fin [] [1,4,5,58,91,92,104,148]) (.no))) (.no)))))
theorem pb:CQ (BA Tryz.f71 3) [4] dV:=by unfold CQ;kernel_rfl
theorem pg:At (BA Tryz.f71 12) [] (List.range 11) [11]:=by unfold At;kernel_rfl
theorem pd:At (BA Tryz.f71 22) [] (List.range 9) [9]:=by unfold At;kernel_rfl
theorem pc:At (BA Tryz.f71 26) [([0,1,2,3,4,5,6],7)] [] []:=by unfold At;kernel_rfl
def dU:ST:=.rd 0 (.rd 1 (.rd 2 (.rd 3 (.ef 4 (.fin [] [2]) (.no)))))
theorem eN:CQ (BA Tryz.f71 30) [] dU:=by unfold CQ;kernel_rfl
def ET:Bb:=fun i=>match i with
 | 2=>.tre [2,5,6,7,8] dW
 | 3=>.tre [4] dV
 | 12=>.ord [] (List.range 11) [11]
 | 22=>.ord [] (List.range 9) [9]
 | 26=>.ord [([0,1,2,3,4,5,6],7)] [] []
 | 30=>.tre [] dU
 | _=>.no
def Ch (c:AB) (q:AA) (pos:List Int) (ln:Nat) (lost:List Int):St:=⟨(AM 178 [(1,.ref 2 0),(3,.i (c.cells.length:Int)),(4,.ref 5 0),(5,.ref 6 0)]),([some (.cells (AH c++AD q++[.ints pos,.msl 1 1 0 ln])),some (.ints lost),some (.cells [.ref 0 0]),some (.ints (List.replicate ((((c.cells.length:Int)+1)).toNat) (0:Int))),some (.ints (List.replicate ((((c.cells.length:Int)+1)).toNat) (0:Int))),some (.cells [.msl 3 1 0 ((((c.cells.length:Int)+1)).toNat)]),some (.cells [.msl 4 1 0 ((((c.cells.length:Int)+1)).toNat)])]:DH)⟩
def dD (c:AB) (q:AA) (pos:List Int) (ln:Nat) (lost:List Int):St:=⟨(AM 178 [(1,.ref 2 0),(4,.ref 5 0),(5,.ref 6 0)]),([some (.cells (AH c++AD q++[.ints pos,.msl 1 1 0 ln])),some (.ints lost),some (.cells [.ref 0 0]),some (.ints ((List.replicate ((((c.cells.length:Int)+1)).toNat) (0:Int)).set (0+0) (-1))),some (.ints ((List.replicate ((((c.cells.length:Int)+1)).toNat) (0:Int)).set (0+c.cells.length) 100)),some (.cells [.msl 3 1 0 ((((c.cells.length:Int)+1)).toNat)]),some (.cells [.msl 4 1 0 ((((c.cells.length:Int)+1)).toNat)])]:DH)⟩
def xd (c:AB) (q:AA) (pos:List Int) (ln:Nat) (lost o4:List Int) (BI:Int):DH:=[some (.cells (AH c++AD q++[.ints pos,.msl 1 1 0 ln])),some (.ints lost),some (.cells [.ref 0 0]),some (.cells [.msl 4 1 0 ((((c.cells.length:Int)+1)).toNat)]),some (.ints (o4.set (0+(((BI+1)).toNat)) 100)),some (.cells [.msl 6 1 0 ((((c.cells.length:Int)+1)).toNat)]),some (.ints ((List.replicate ((((c.cells.length:Int)+1)).toNat) (0:Int)).set (0+c.cells.length) 100)),some (.cells [.i BI])]
def xc (c:AB) (q:AA) (pos:List Int) (ln:Nat) (lost:List Int) (BI:Int) (o4:List Int):DH:=[some (.cells (AH c++AD q++[.ints pos,.msl 1 1 0 ln])),some (.ints lost),some (.cells [.ref 0 0]),some (.cells [.msl 7 1 0 ((((c.cells.length:Int)+1)).toNat)]),some (.cells [.msl 8 1 0 ((((c.cells.length:Int)+1)).toNat)]),some (.cells [.i BI]),some (.iter ((BN (pos.getD ((c.cells.getD ((BI).toNat) 0).toNat) 0)).map Bg)),some (.ints (o4.set (0+(((BI+1)).toNat)) 100)),some (.ints ((List.replicate ((((c.cells.length:Int)+1)).toNat) (0:Int)).set (0+c.cells.length) 100))]
def xb (c:AB) (q:AA) (pos:List Int) (ln:Nat) (lost o4:List Int):DH:=[some (.cells (AH c++AD q++[.ints pos,.msl 1 1 0 ln])),some (.ints lost),some (.cells [.ref 0 0]),some (.cells [.msl 4 1 0 ((((c.cells.length:Int)+1)).toNat)]),some (.ints o4),some (.cells [.msl 6 1 0 ((((c.cells.length:Int)+1)).toNat)]),some (.ints ((List.replicate ((((c.cells.length:Int)+1)).toNat) (0:Int)).set (0+c.cells.length) 100))]
def xa (c:AB) (q:AA) (pos:List Int) (ln:Nat) (lost:List Int) (y1:List (Int×Int)) (o4:List Int):DH:=[some (.cells (AH c++AD q++[.ints pos,.msl 1 1 0 ln])),some (.ints lost),some (.cells [.ref 0 0]),some (.cells [.msl 6 1 0 ((((c.cells.length:Int)+1)).toNat)]),some (.cells [.msl 7 1 0 ((((c.cells.length:Int)+1)).toNat)]),some (.iter ((y1).map NS)),some (.ints o4),some (.ints ((List.replicate ((((c.cells.length:Int)+1)).toNat) (0:Int)).set (0+c.cells.length) 100))]
def xZ (c:AB) (q:AA) (pos:List Int) (ln:Nat) (o1 o4 o6:List Int) (A9:Int):DH:=[some (.cells (AH c++AD q++[.ints pos,.msl 1 1 0 ln])),some (.ints o1),some (.cells [.ref 0 0]),some (.cells [.msl 4 1 0 ((((c.cells.length:Int)+1)).toNat)]),some (.ints o4),some (.cells [.msl 6 1 0 ((((c.cells.length:Int)+1)).toNat)]),some (.ints o6),some (.cells [.i A9]),some (.cells [.i (c.cells.getD ((A9).toNat) 0)])]
def xY (c:AB) (q:AA) (pos:List Int) (ln:Nat) (o1:List Int) (A9:Int) (o4 o6:List Int):DH:=[some (.cells (AH c++AD q++[.ints pos,.msl 1 1 0 ln])),some (.ints o1),some (.cells [.ref 0 0]),some (.cells [.msl 8 1 0 ((((c.cells.length:Int)+1)).toNat)]),some (.cells [.msl 9 1 0 ((((c.cells.length:Int)+1)).toNat)]),some (.cells [.i A9]),some (.cells [.i (c.cells.getD ((A9).toNat) 0)]),some (.iter ((BN (pos.getD ((c.cells.getD ((A9).toNat) 0).toNat) 0)).map Bg)),some (.ints o4),some (.ints o6)]
def xX (c:AB) (q:AA) (pos:List Int) (ln:Nat) (lost:List Int) (BI:Int) (FW:List Int):DH:=[some (.cells (AH c++AD q++[.ints pos,.msl 1 1 0 ln])),some (.ints lost),some (.cells [.ref 0 0]),some (.cells [.msl 7 1 0 ((((c.cells.length:Int)+1)).toNat)]),some (.cells [.msl 8 1 0 ((((c.cells.length:Int)+1)).toNat)]),some (.cells [.i BI]),none,some (.ints FW),some (.ints ((List.replicate ((((c.cells.length:Int)+1)).toNat) (0:Int)).set (0+c.cells.length) 100))]
def xW (c:AB) (q:AA) (pos:List Int) (ln:Nat) (lost o4 FC:List Int) (BL:Int×Int):DH:=[some (.cells (AH c++AD q++[.ints pos,.msl 1 1 0 ln])),some (.ints lost),some (.cells [.ref 0 0]),some (.cells [.msl 6 1 0 ((((c.cells.length:Int)+1)).toNat)]),some (.cells [.msl 7 1 0 ((((c.cells.length:Int)+1)).toNat)]),none,some (.ints o4),some (.ints FC),some (.cells [.i BL.1])]
def xg (c:AB) (q:AA) (pos:List Int) (ln:Nat) (lost o4 FC:List Int) (BL:Int×Int):DH:=[some (.cells (AH c++AD q++[.ints pos,.msl 1 1 0 ln])),some (.ints lost),some (.cells [.ref 0 0]),some (.cells [.msl 6 1 0 ((((c.cells.length:Int)+1)).toNat)]),some (.cells [.msl 7 1 0 ((((c.cells.length:Int)+1)).toNat)]),none,some (.ints o4),some (.ints (FC.set (0+((BL.1).toNat)) (-1))),some (.cells [.i BL.1])]
def xf (c:AB) (q:AA) (pos:List Int) (ln:Nat) (lost:List Int) (BL:Int×Int) (o4 FC:List Int):DH:=[some (.cells (AH c++AD q++[.ints pos,.msl 1 1 0 ln])),some (.ints lost),some (.cells [.ref 0 0]),some (.cells [.msl 8 1 0 ((((c.cells.length:Int)+1)).toNat)]),some (.cells [.msl 9 1 0 ((((c.cells.length:Int)+1)).toNat)]),none,some (.cells [.i BL.1]),some (.iter ((BN (pos.getD ((BL.2).toNat) 0)).map Bg)),some (.ints o4),some (.ints (FC.set (0+((BL.1).toNat)) (-1)))]
def Z2 (c:AB) (q:AA) (pos:List Int) (ln:Nat) (GC:List Int) (A9:Int) (o4 o6:List Int):DH:=[some (.cells (AH c++AD q++[.ints pos,.msl 1 1 0 ln])),some (.ints GC),some (.cells [.ref 0 0]),some (.cells [.msl 8 1 0 ((((c.cells.length:Int)+1)).toNat)]),some (.cells [.msl 9 1 0 ((((c.cells.length:Int)+1)).toNat)]),some (.cells [.i A9]),some (.cells [.i (c.cells.getD ((A9).toNat) 0)]),none,some (.ints o4),some (.ints o6)]
def Tc (c:AB) (q:AA) (pos:List Int) (ln:Nat) (Is:(List Int)) (A9:Int) (o4 o6:List Int):St:=⟨(AM 178 []),([some (.cells (AH c++AD q++[.ints pos,.msl 1 1 0 ln])),some (.ints Is),some (.cells [.ref 0 0]),some (.cells [.msl 8 1 0 ((((c.cells.length:Int)+1)).toNat)]),some (.cells [.msl 9 1 0 ((((c.cells.length:Int)+1)).toNat)]),some (.cells [.i A9]),some (.cells [.i (c.cells.getD ((A9).toNat) 0)]),none,some (.ints o4),some (.ints o6)]:DH)⟩
def xe (c:AB) (q:AA) (pos:List Int) (ln:Nat) (lost:List Int) (BL:Int×Int) (o4 FX:List Int):DH:=[some (.cells (AH c++AD q++[.ints pos,.msl 1 1 0 ln])),some (.ints lost),some (.cells [.ref 0 0]),some (.cells [.msl 8 1 0 ((((c.cells.length:Int)+1)).toNat)]),some (.cells [.msl 9 1 0 ((((c.cells.length:Int)+1)).toNat)]),none,some (.cells [.i BL.1]),none,some (.ints o4),some (.ints FX)]
inductive K3 where
 | s0 (FX:List Int)
def fI (c:AB) (q:AA) (pos:List Int) (ln:Nat) (lost:List Int) (BL:Int×Int) (o4:List Int):K3 -> DH
 | .s0 FX=>[some (.cells (AH c++AD q++[.ints pos,.msl 1 1 0 ln])),some (.ints lost),some (.cells [.ref 0 0]),some (.cells [.msl 8 1 0 ((((c.cells.length:Int)+1)).toNat)]),some (.cells [.msl 9 1 0 ((((c.cells.length:Int)+1)).toNat)]),none,some (.cells [.i BL.1]),none,some (.ints o4),some (.ints FX)]
def T9 (n:Nat) (c:AB) (q:AA) (pos:List Int) (ln:Nat) (lost:List Int) (BL:Int×Int) (o4:List Int) (Gg:Int) (FX:List Int):Option K3:=
 if (0<=Gg/\ Gg<(q.values.length:Int))/\ AI (BL.1+1)/\ (0<=(BL.1+1)/\ (BL.1+1)<(((((c.cells.length:Int)+1)).toNat:Nat):Int))/\ 0+(((BL.1+1)).toNat)<FX.length then
  bif (decide ((q.values.getD ((Gg).toNat) 0)<(FX.getD (0+(((BL.1+1)).toNat)) 0))) then
   if (0<=BL.1/\ BL.1<(((((c.cells.length:Int)+1)).toNat:Nat):Int))/\ 0+((BL.1).toNat)<FX.length then
    some (.s0 (FX.set (0+((BL.1).toNat)) (if (q.values.getD ((Gg).toNat) 0)>(FX.getD (0+((BL.1).toNat)) 0) then (q.values.getD ((Gg).toNat) 0) else (FX.getD (0+((BL.1).toNat)) 0))))
   else none
  else
   some (.s0 FX)
 else none
def fH (n:Nat) (c:AB) (q:AA) (pos:List Int) (ln:Nat) (lost:List Int) (BL:Int×Int) (o4:List Int) (Gg:Int):K3 -> Option K3
 | .s0 FX=>T9 n c q pos ln lost BL o4 Gg FX
def Qf (n:Nat) (c:AB) (q:AA) (pos:List Int) (ln:Nat) (lost:List Int) (BL:Int×Int) (o4:List Int) (Gg:Int) (s:K3):Option K3:=fH n c q pos ln lost BL o4 Gg s
theorem rP (n:Nat) (c:AB) (q:AA) (pos:List Int) (ln:Nat) (lost:List Int) (BL:Int×Int) (o4:List Int) (l B:Nat) (N:Yd 8) (Gg:Int) (s:K3) (r:K3) (h:Qf n c q pos ln lost BL o4 Gg s=some r):TA l B N (DT 8 [] 0 (fI c q pos ln lost BL o4 r)) Tryz.f71 103 ⟨AM 178 [(1,.ref 2 0),(5,.ref 4 0),(10,.ref 6 0),(103,.it 7),(104,.i Gg)],fI c q pos ln lost BL o4 s⟩:=by
 cases s with
 | s0 FX=>
  replace h:T9 n c q pos ln lost BL o4 Gg FX=some r:=h;unfold T9 at h;refine ag ET [0,1,2,3,4,5,6,7,8,9] H0 (AM 178 [(1,.ref 2 0),(5,.ref 4 0),(10,.ref 6 0),(12,.i Gg)]) (xe c q pos ln lost BL o4 FX) fun N=>?_
  revert r;apply gO;exact gc (gi (gc (gw 116 (gc (gi (gi (bi 119 (jg pd (gc (gn fun mG=>jg mG (gn fun mF=>jg mF (jg mG (jg mF (lF fun p=>rr ET [0,1,2,3,4,5,6,7,8,9] rfl p))))))) (lF fun p=>rr ET [0,1,2,3,4,5,6,7,8,9] rfl p))))))))
inductive Js where
 | s0 (GC:List Int)
def fN (c:AB) (A9:Int) (q:AA) (pos:List Int) (ln:Nat) (o4 o6:List Int):Js -> DH
 | .s0 GC=>[some (.cells (AH c++AD q++[.ints pos,.msl 1 1 0 ln])),some (.ints GC),some (.cells [.ref 0 0]),some (.cells [.msl 8 1 0 ((((c.cells.length:Int)+1)).toNat)]),some (.cells [.msl 9 1 0 ((((c.cells.length:Int)+1)).toNat)]),some (.cells [.i A9]),some (.cells [.i (c.cells.getD ((A9).toNat) 0)]),none,some (.ints o4),some (.ints o6)]
def UB (n:Nat) (c:AB) (A9:Int) (q:AA) (pos:List Int) (ln:Nat) (o4 o6:List Int) (E4:Int) (GC:List Int):Option Js:=
 if (0<=E4/\ E4<(q.values.length:Int))/\ (0<=A9/\ A9<(((((c.cells.length:Int)+1)).toNat:Nat):Int))/\ 0+((A9).toNat)<o4.length then
  bif (decide ((q.values.getD ((E4).toNat) 0)<=(o4.getD (0+((A9).toNat)) 0))) then
   if 0<=E4/\ E4<=(IntKind.i64.bits:Int) then
    (DP n (c.cells.getD ((A9).toNat) 0) (IntKind.i64.wrap (1*2 ^ (E4).toNat)) c q pos ln GC).bind fun Is=>
     some (.s0 Is)
   else none
  else
   if AI (A9+1)/\ (0<=(A9+1)/\ (A9+1)<(((((c.cells.length:Int)+1)).toNat:Nat):Int))/\ 0+(((A9+1)).toNat)<o6.length then
    bif (decide ((q.values.getD ((E4).toNat) 0)>=(o6.getD (0+(((A9+1)).toNat)) 0))) then
     if 0<=E4/\ E4<=(IntKind.i64.bits:Int) then
      (DP n (c.cells.getD ((A9).toNat) 0) (IntKind.i64.wrap (1*2 ^ (E4).toNat)) c q pos ln GC).bind fun Is=>
       some (.s0 Is)
     else none
    else
     some (.s0 GC)
   else none
 else none
def fM (n:Nat) (c:AB) (A9:Int) (q:AA) (pos:List Int) (ln:Nat) (o4 o6:List Int) (E4:Int):Js -> Option Js
 | .s0 GC=>UB n c A9 q pos ln o4 o6 E4 GC
def UC (n:Nat) (c:AB) (A9:Int) (q:AA) (pos:List Int) (ln:Nat) (o4 o6:List Int) (E4:Int) (s:Js):Option Js:=fM n c A9 q pos ln o4 o6 E4 s
theorem rR (n:Nat) (c:AB) (A9:Int) (q:AA) (pos:List Int) (ln:Nat) (o4 o6:List Int) (l B:Nat) (N:Yd 8) (E4:Int) (s:Js) (r:Js) (h:UC n c A9 q pos ln o4 o6 E4 s=some r):TA l B N (DT 8 [] 0 (fN c A9 q pos ln o4 o6 r)) Tryz.f71 147 ⟨AM 178 [(1,.ref 2 0),(4,.ref 3 0),(5,.ref 4 0),(14,.ref 5 0),(15,.ref 6 0),(133,.ints c.cells),(134,.i (c.cells.length:Int)),(135,.i A9),(147,.it 7),(148,.i E4)],fN c A9 q pos ln o4 o6 s⟩:=by
 cases s with
 | s0 GC=>
  replace h:UB n c A9 q pos ln o4 o6 E4 GC=some r:=h;unfold UB at h;refine ag ET [0,1,2,3,4,5,6,7,8,9] H0 (AM 178 [(1,.ref 2 0),(4,.ref 3 0),(5,.ref 4 0),(14,.ref 5 0),(15,.ref 6 0),(16,.i E4)]) (Z2 c q pos ln GC A9 o4 o6) fun N=>?_
  revert r;apply gO;exact gc (gi (gc (gi (gi (bi 162 (jg eN (gi (ce Fs [0,1] (Z2 c q pos ln GC A9 o4 o6) fun Is=>jg (Eq.refl (Tc c q pos ln Is A9 o4 o6)) (lF fun p=>rr (tg:=[([],(Tc c q pos ln Is A9 o4 o6))]) ET [0,1,2,3,4,5,6,7,8,9] rfl p)))) (gc (gw 167 (gc (gi (gi (bi 170 (jg eN (gi (ce Fs [0,1] (Z2 c q pos ln GC A9 o4 o6) fun Is=>jg (Eq.refl (Tc c q pos ln Is A9 o4 o6)) (lF fun p=>rr (tg:=[([],(Tc c q pos ln Is A9 o4 o6))]) ET [0,1,2,3,4,5,6,7,8,9] rfl p)))) (lF fun p=>rr ET [0,1,2,3,4,5,6,7,8,9] rfl p))))))))))))
inductive K4 where
 | s0 (FC:List Int)
def fJ (c:AB) (q:AA) (pos:List Int) (ln:Nat) (lost o4:List Int):K4 -> DH
 | .s0 FC=>[some (.cells (AH c++AD q++[.ints pos,.msl 1 1 0 ln])),some (.ints lost),some (.cells [.ref 0 0]),some (.cells [.msl 6 1 0 ((((c.cells.length:Int)+1)).toNat)]),some (.cells [.msl 7 1 0 ((((c.cells.length:Int)+1)).toNat)]),none,some (.ints o4),some (.ints FC)]
def T8 (n:Nat) (c:AB) (q:AA) (pos:List Int) (ln:Nat) (lost o4:List Int) (BL:Int×Int) (FC:List Int):Option K4:=
 if (0<=BL.1/\ BL.1<(((((c.cells.length:Int)+1)).toNat:Nat):Int))/\ 0+((BL.1).toNat)<FC.length/\ (0<=BL.2/\ BL.2<(pos.length:Int))/\ (0<=(pos.getD ((BL.2).toNat) 0)/\ (pos.getD ((BL.2).toNat) 0)<9223372036854775808) then
  (B6 (Qf n c q pos ln lost BL o4) (BN (pos.getD ((BL.2).toNat) 0)) (.s0 (FC.set (0+((BL.1).toNat)) (-1)))).bind fun bY=>
   match bY with
   | .s0 mA=>
    some (.s0 mA)
 else none
def fG (n:Nat) (c:AB) (q:AA) (pos:List Int) (ln:Nat) (lost o4:List Int) (BL:Int×Int):K4 -> Option K4
 | .s0 FC=>T8 n c q pos ln lost o4 BL FC
def Qg (n:Nat) (c:AB) (q:AA) (pos:List Int) (ln:Nat) (lost o4:List Int) (BL:Int×Int) (s:K4):Option K4:=fG n c q pos ln lost o4 BL s
theorem rN (n:Nat) (c:AB) (q:AA) (pos:List Int) (ln:Nat) (lost o4:List Int) (l B:Nat) (N:Yd 6) (BL:Int×Int) (s:K4) (r:K4) (h:Qg n c q pos ln lost o4 BL s=some r):TA l B N (DT 6 [] 0 (fJ c q pos ln lost o4 r)) Tryz.f71 90 ⟨AM 178 [(1,.ref 2 0),(4,.ref 3 0),(5,.ref 4 0),(90,.it 5),(91,.i BL.1),(92,.i BL.2)],fJ c q pos ln lost o4 s⟩:=by
 cases s with
 | s0 FC=>
  replace h:T8 n c q pos ln lost o4 BL FC=some r:=h;unfold T8 at h;refine ag ET [0,1,2,3,4,5,6,7,8] (H0.t) (AM 178 [(1,.ref 2 0),(5,.ref 4 0),(10,.ref 8 0),(11,.i BL.2)]) (xW c q pos ln lost o4 FC BL) fun N=>?_
  revert r;apply gO
  exact gc (gi (gc (gi (gc (gi (gn fun zCB=>jc (Jk zCB (xg c q pos ln lost o4 FC BL)) (cn fun bY zG=>fun p r h=>by
   refine gs ET [0,1,2,3,4,5,8,9,6,7] p (Gi (UF Tryz.f71 90) 103 []) (AM 178 [(1,.ref 2 0),(5,.ref 4 0),(10,.ref 6 0),(103,.it 7)]) (xf c q pos ln lost BL o4 FC) ?_;refine r0 7 103 #[104] Bg 8 zG (rP n c q pos ln lost BL o4) ?_;cases bY with
   | s0 mA=>
    dsimp only at h
    revert r;apply gO;exact lF fun p=>rr ET [0,1,2,3,4,5,8,9] rfl p)))))))
inductive K5 where
 | s0 (FW:List Int)
def fL (c:AB) (BI:Int) (q:AA) (pos:List Int) (ln:Nat) (lost:List Int):K5 -> DH
 | .s0 FW=>[some (.cells (AH c++AD q++[.ints pos,.msl 1 1 0 ln])),some (.ints lost),some (.cells [.ref 0 0]),some (.cells [.msl 7 1 0 ((((c.cells.length:Int)+1)).toNat)]),some (.cells [.msl 8 1 0 ((((c.cells.length:Int)+1)).toNat)]),some (.cells [.i BI]),none,some (.ints FW),some (.ints ((List.replicate ((((c.cells.length:Int)+1)).toNat) (0:Int)).set (0+c.cells.length) 100))]
def UA (n:Nat) (c:AB) (BI:Int) (q:AA) (pos:List Int) (ln:Nat) (lost:List Int) (Gf:Int) (FW:List Int):Option K5:=
 if (0<=Gf/\ Gf<(q.values.length:Int))/\ (0<=BI/\ BI<(((((c.cells.length:Int)+1)).toNat:Nat):Int))/\ 0+((BI).toNat)<FW.length then
  bif (decide ((q.values.getD ((Gf).toNat) 0)>(FW.getD (0+((BI).toNat)) 0))) then
   if AI (BI+1)/\ (0<=(BI+1)/\ (BI+1)<(((((c.cells.length:Int)+1)).toNat:Nat):Int))/\ 0+(((BI+1)).toNat)<FW.length then
    some (.s0 (FW.set (0+(((BI+1)).toNat)) (if (q.values.getD ((Gf).toNat) 0)<(FW.getD (0+(((BI+1)).toNat)) 0) then (q.values.getD ((Gf).toNat) 0) else (FW.getD (0+(((BI+1)).toNat)) 0))))
   else none
  else
   some (.s0 FW)
 else none
def fK (n:Nat) (c:AB) (BI:Int) (q:AA) (pos:List Int) (ln:Nat) (lost:List Int) (Gf:Int):K5 -> Option K5
 | .s0 FW=>UA n c BI q pos ln lost Gf FW
def Qh (n:Nat) (c:AB) (BI:Int) (q:AA) (pos:List Int) (ln:Nat) (lost:List Int) (Gf:Int) (s:K5):Option K5:=fK n c BI q pos ln lost Gf s
theorem rQ (n:Nat) (c:AB) (BI:Int) (q:AA) (pos:List Int) (ln:Nat) (lost:List Int) (l B:Nat) (N:Yd 7) (Gf:Int) (s:K5) (r:K5) (h:Qh n c BI q pos ln lost Gf s=some r):TA l B N (DT 7 [] 0 (fL c BI q pos ln lost r)) Tryz.f71 57 ⟨AM 178 [(1,.ref 2 0),(4,.ref 3 0),(5,.ref 4 0),(6,.ref 5 0),(39,.ints c.cells),(40,.i (c.cells.length:Int)),(41,.i BI),(57,.it 6),(58,.i Gf)],fL c BI q pos ln lost s⟩:=by
 cases s with
 | s0 FW=>
  replace h:UA n c BI q pos ln lost Gf FW=some r:=h;unfold UA at h;refine ag ET [0,1,2,3,4,5,6,7,8] H0 (AM 178 [(1,.ref 2 0),(4,.ref 3 0),(6,.ref 5 0),(8,.i Gf)]) (xX c q pos ln lost BI FW) fun N=>?_
  revert r;apply gO;exact gc (gi (gc (gi (gi (bi 72 (jg pg (gc (gn fun mE=>jw 75 mE (jw 78 mE (gc (gn fun mD=>jg mD (gn fun mC=>jg mC (jg mD (jg mC (lF fun p=>rr ET [0,1,2,3,4,5,6,7,8] rfl p)))))))))) (lF fun p=>rr ET [0,1,2,3,4,5,6,7,8] rfl p))))))
inductive Qi where
 | l1 (BI:Int) (o4:List Int)
 | l2 (A9:Int) (o1 o4 o6:List Int)
def Qe (n:Nat) (self:Qi -> Option (Bool×(List Int))) (c:AB) (q:AA) (pos:List Int) (ln:Nat) (lost:List Int) (BI:Int) (o4:List Int):Option (Bool×(List Int)):=
 bif (decide (BI<(c.cells.length:Int))) then
  if (0<=BI/\ BI<(c.cells.length:Int))/\ AI (BI+1)/\ (0<=(BI+1)/\ (BI+1)<(((((c.cells.length:Int)+1)).toNat:Nat):Int))/\ 0+(((BI+1)).toNat)<o4.length/\ (0<=(c.cells.getD ((BI).toNat) 0)/\ (c.cells.getD ((BI).toNat) 0)<(pos.length:Int))/\ (0<=(pos.getD ((c.cells.getD ((BI).toNat) 0).toNat) 0)/\ (pos.getD ((c.cells.getD ((BI).toNat) 0).toNat) 0)<9223372036854775808) then
   (B6 (Qh n c BI q pos ln lost) (BN (pos.getD ((c.cells.getD ((BI).toNat) 0).toNat) 0)) (.s0 (o4.set (0+(((BI+1)).toNat)) 100))).bind fun y1=>
    match y1 with
    | .s0 Dh=>
     if AI (BI+1) then
      self (.l1 (BI+1) Dh)
     else none
  else none
 else
  (back n c.cells).bind fun y1=>
   (B6 (Qg n c q pos ln lost o4) y1 (.s0 ((List.replicate ((((c.cells.length:Int)+1)).toNat) (0:Int)).set (0+c.cells.length) 100))).bind fun y2=>
    match y2 with
    | .s0 Kk=>
     self (.l2 0 lost o4 Kk)
def Qd (n:Nat) (self:Qi -> Option (Bool×(List Int))) (c:AB) (q:AA) (pos:List Int) (ln:Nat) (lost:List Int) (A9:Int) (o1 o4 o6:List Int):Option (Bool×(List Int)):=
 bif (decide (A9<(c.cells.length:Int))) then
  if (0<=A9/\ A9<(c.cells.length:Int))/\ (0<=(c.cells.getD ((A9).toNat) 0)/\ (c.cells.getD ((A9).toNat) 0)<(pos.length:Int))/\ (0<=(pos.getD ((c.cells.getD ((A9).toNat) 0).toNat) 0)/\ (pos.getD ((c.cells.getD ((A9).toNat) 0).toNat) 0)<9223372036854775808) then
   (B6 (UC n c A9 q pos ln o4 o6) (BN (pos.getD ((c.cells.getD ((A9).toNat) 0).toNat) 0)) (.s0 o1)).bind fun y1=>
    match y1 with
    | .s0 Dh=>
     if AI (A9+1) then
      self (.l2 (A9+1) Dh o4 o6)
     else none
  else none
 else
  some (true,o1)
def fF (n:Nat) (self:Qi -> Option (Bool×(List Int))) (c:AB) (q:AA) (pos:List Int) (ln:Nat) (lost:List Int):Option (Bool×(List Int)):=
 if AI ((c.cells.length:Int)+1)/\ ((((c.cells.length:Int)+1):Int)=((c.cells.length:Int)+1)/\ (0:Int)<=((c.cells.length:Int)+1)/\ (((c.cells.length:Int)+1):Int)<=1000000000000)/\ ((0:Int)<=0/\ 0<(((((c.cells.length:Int)+1)).toNat:Nat):Int))/\ 0+0<(List.replicate ((((c.cells.length:Int)+1)).toNat) (0:Int)).length/\ (0<=(c.cells.length:Int)/\ (c.cells.length:Int)<(((((c.cells.length:Int)+1)).toNat:Nat):Int))/\ 0+c.cells.length<(List.replicate ((((c.cells.length:Int)+1)).toNat) (0:Int)).length then
  self (.l1 0 ((List.replicate ((((c.cells.length:Int)+1)).toNat) (0:Int)).set (0+0) (-1)))
 else none
def Hd (c:AB) (q:AA) (pos:List Int) (ln:Nat) (lost:List Int):Nat -> Qi -> Option (Bool×(List Int))
 | 0,_=>none
 | n+1,.l1 BI o4=>Qe n (Hd c q pos ln lost n) c q pos ln lost BI o4
 | n+1,.l2 A9 o1 o4 o6=>Qd n (Hd c q pos ln lost n) c q pos ln lost A9 o1 o4 o6
def K6 (n:Nat) (c:AB) (q:AA) (pos:List Int) (ln:Nat) (lost:List Int):Option (Bool×(List Int)):=fF n (Hd c q pos ln lost n) c q pos ln lost
def rS (n B:Nat) (N:Yd 2) (c:AB) (q:AA) (pos:List Int) (ln:Nat) (lost:List Int) (r:Bool×(List Int)):Qi -> Prop
 | .l1 BI o4=>∀ m0:Nat,n<=m0 -> TW B N (FQ Tryz.f71 2 (.bool r.1) [some (.cells (AH c++AD q++[.ints pos,.msl 1 1 0 ln])),some (.ints r.2)]) (Ak m0 (Au (AZ Tryz.f71) 0 [])) ⟨AM 178 [(1,.ref 2 0),(4,.ref 3 0),(5,.ref 5 0),(39,.ints c.cells),(40,.i (c.cells.length:Int)),(41,.i BI)],[some (.cells (AH c++AD q++[.ints pos,.msl 1 1 0 ln])),some (.ints lost),some (.cells [.ref 0 0]),some (.cells [.msl 4 1 0 ((((c.cells.length:Int)+1)).toNat)]),some (.ints o4),some (.cells [.msl 6 1 0 ((((c.cells.length:Int)+1)).toNat)]),some (.ints ((List.replicate ((((c.cells.length:Int)+1)).toNat) (0:Int)).set (0+c.cells.length) 100))]⟩
 | .l2 A9 o1 o4 o6=>∀ m0:Nat,n<=m0 -> TW B N (FQ Tryz.f71 2 (.bool r.1) [some (.cells (AH c++AD q++[.ints pos,.msl 1 1 0 ln])),some (.ints r.2)]) (Ak m0 (Au (AZ Tryz.f71) 8 [])) ⟨AM 178 [(1,.ref 2 0),(4,.ref 3 0),(5,.ref 5 0),(133,.ints c.cells),(134,.i (c.cells.length:Int)),(135,.i A9)],[some (.cells (AH c++AD q++[.ints pos,.msl 1 1 0 ln])),some (.ints o1),some (.cells [.ref 0 0]),some (.cells [.msl 4 1 0 ((((c.cells.length:Int)+1)).toNat)]),some (.ints o4),some (.cells [.msl 6 1 0 ((((c.cells.length:Int)+1)).toNat)]),some (.ints o6)]⟩
theorem rT (B:Nat) (N:Yd 2) (c:AB) (q:AA) (pos:List Int) (ln:Nat) (lost:List Int):Al (Hd c q pos ln lost) (rS · B N c q pos ln lost):=ia (fun _=>rfl) fun n AG pt r h=>by
 cases pt
 case l1 BI o4=>
  intro m0 AC;refine rd AC fun m0 AC=>?_
  revert r;apply gO
  exact bi 42 (gc (gi (jt (gc (gw 48 (gc (gi (gc (gi (gc (gi (gn fun g5=>jc (Jk g5 (xd c q pos ln lost o4 BI)) (cn fun y1 A0=>fun p r h=>by
   refine gs ET [0,1,2,3,5,7,8,4,6] p (Gi (AZ Tryz.f71) 57 [m0]) (AM 178 [(1,.ref 2 0),(4,.ref 3 0),(5,.ref 4 0),(6,.ref 5 0),(39,.ints c.cells),(40,.i (c.cells.length:Int)),(41,.i BI),(57,.it 6)]) (xc c q pos ln lost BI o4) ?_;refine r0 6 57 #[58] Bg 7 A0 (rQ n c BI q pos ln lost) ?_;cases y1 with
   | s0 Dh=>
    dsimp only at h
    revert r;apply gO;exact gw 84 (lG ET [0,1,2,3,7,4,8] (AG _ _ · m0 AC))))))))))))))) (cn fun y1 A0=>jc (zB9 A0 (xb c q pos ln lost o4)) (cn fun y2 Bt=>fun p r h=>by
   refine gs ET [0,1,2,3,5,7,4,6] p (Gi (AZ Tryz.f71) 90 []) (AM 178 [(1,.ref 2 0),(4,.ref 3 0),(5,.ref 4 0),(90,.it 5)]) (xa c q pos ln lost y1 o4) ?_;refine r0 5 90 #[91,92] NS 6 Bt (rN n c q pos ln lost o4) ?_;cases y2 with
   | s0 Kk=>
    dsimp only at h
    revert r;apply gO;exact lN ET [0,1,2,3,6,4,7] (AG _ _ · n Nat.le.refl)))
 case l2 A9 o1 o4 o6=>
  intro m0 AC;refine rd AC fun m0 AC=>?_
  revert r;apply gO
  exact bi 136 (gc (gi (jt (jt (jg pc (gc (gi (gn fun g2=>jc (Jk g2 (xZ c q pos ln o1 o4 o6 A9)) (cn fun y1 A0=>fun p r h=>by
   refine gs ET [0,1,2,3,5,7,8,9,4,6] p (Gi (AZ Tryz.f71) 147 [m0]) (AM 178 [(1,.ref 2 0),(4,.ref 3 0),(5,.ref 4 0),(14,.ref 5 0),(15,.ref 6 0),(133,.ints c.cells),(134,.i (c.cells.length:Int)),(135,.i A9),(147,.it 7)]) (xY c q pos ln o1 A9 o4 o6) ?_;refine r0 7 147 #[148] Bg 8 A0 (rR n c A9 q pos ln o4 o6) ?_;cases y1 with
   | s0 Dh=>
    dsimp only at h
    revert r;apply gO;exact gw 177 (lG ET [0,1,2,3,8,4,9] (AG _ _ · m0 AC))))))))))) (lE ET [2] [0,1])
theorem rM {n:Nat} {c:AB} {q:AA} {pos:List Int} {ln:Nat} {lost:List Int} {r:Bool×(List Int)} (h:K6 n c q pos ln lost=some r):EQ 71 [.ref 0 0] [some (.cells (AH c++AD q++[.ints pos,.msl 1 1 0 ln])),some (.ints lost)] (.bool r.1) [some (.cells (AH c++AD q++[.ints pos,.msl 1 1 0 ln])),some (.ints r.2)] false:=by
 refine ot Tryz.func71 fun B N=>?_
 revert r;apply gO;exact jg pf (gc (gn fun g0=>jw 25 g0 (jw 28 g0 (gc (gn fun g1=>jg g1 (jg g1 (jt (jt (jg (Eq.refl (Ch c q pos ln lost)) (jt (jt (jg (Eq.refl (Ch c q pos ln lost)) (jg g1 (jt (jt (jg (Eq.refl (Ch c q pos ln lost)) (jg g1 (jt (jt (jg (Eq.refl (Ch c q pos ln lost)) (jt (jg g1 (jt (jg (Eq.refl (Ch c q pos ln lost)) (jg g1 (jt (jt (jg (Eq.refl (Ch c q pos ln lost)) (jg g1 (jt (jt (jg (Eq.refl (Ch c q pos ln lost)) (jt (jg g1 (jt (jg (Eq.refl (Ch c q pos ln lost)) (jg g1 (jg g1 (jt (jt (jg (Eq.refl (Ch c q pos ln lost)) (jt (jt (jg (Eq.refl (Ch c q pos ln lost)) (jg g1 (jt (jt (jg (Eq.refl (Ch c q pos ln lost)) (jg g1 (jt (jt (jg (Eq.refl (Ch c q pos ln lost)) (jg g1 (jt (jt (jg (Eq.refl (Ch c q pos ln lost)) (jg g1 (jt (jt (jg (Eq.refl (Ch c q pos ln lost)) (jg g1 (jg g1 (jt (jt (jg (Eq.refl (Ch c q pos ln lost)) (jg g1 (jt (jt (jg (Eq.refl (Ch c q pos ln lost)) (jt (jg g1 (jt (jg (Eq.refl (Ch c q pos ln lost)) (jg g1 (jg g1 (jt (jt (jg (Eq.refl (Ch c q pos ln lost)) (jg g1 (jt (jt (jg (Eq.refl (Ch c q pos ln lost)) (jg g1 (jg g1 (jt (jt (jg (Eq.refl (Ch c q pos ln lost)) (jt (jg g1 (jt (jg (Eq.refl (Ch c q pos ln lost)) (jg g1 (jg g1 (jt (jt (jg (Eq.refl (Ch c q pos ln lost)) (jg g1 (jg g1 (jt (jt (jg (Eq.refl (Ch c q pos ln lost)) (jg g1 (jt (jt (jg (Eq.refl (Ch c q pos ln lost)) (jt (jg g1 (jt (jg (Eq.refl (Ch c q pos ln lost)) (jg g1 (jg g1 (jt (jt (jg (Eq.refl (Ch c q pos ln lost)) (jg g1 (jt (jt (jg (Eq.refl (Ch c q pos ln lost)) (jg g1 (jg g1 (jt (jt (jg (Eq.refl (Ch c q pos ln lost)) (jt (jg g1 (jt (jg (Eq.refl (Ch c q pos ln lost)) (jg g1 (jg g1 (jt (jt (jg (Eq.refl (Ch c q pos ln lost)) (jg pb (gc (gi (gc (gi (gc (gi (gi (jg (Eq.refl (dD c q pos ln lost)) (lN (tg:=[([],(Ch c q pos ln lost)),([(4,3)],(dD c q pos ln lost))]) ET [0,1,2,5,3,6,4] ((rT B N c q pos ln lost n) _ _ · n Nat.le.refl)))))))))))))))))))))))))))))))))))))))))))))))))))))))))))))))))))))))))))))))))))))))))))))))))))))))))))))))))))))))))))))))))))))))))))))))
end Go.Proofs.YtgkhhfnhacibcaaGreatDoor
namespace Go.Proofs.YtgkhhfnhacibcaaGreatDoor
open Go.RowKit
theorem KQ {l:List Int} {i:Nat} {a:Int} (h:i<l.length):(l.set i a).getD i 0=a:=by
 rw [u8,zDs h];rfl
theorem getD_set_ne {l:List Int} {i j:Nat} {a:Int} (h:i≠j):(l.set i a).getD j 0=l.getD j 0:=by
 rw [u8,zDi h,←u8]
def I0 (q:AA) (b a e:Int):Int:=if q.values.getD e.toNat 0>b then (if q.values.getD e.toNat 0<a then q.values.getD e.toNat 0 else a) else a
def Il (q:AA) (b a e:Int):Int:=if q.values.getD e.toNat 0<b then (if q.values.getD e.toNat 0>a then q.values.getD e.toNat 0 else a) else a
def FO (q:AA) (c:AB) (pos:List Int):Nat -> Int
 | 0=>-1
 | i+1=>(BN (AT c pos i)).foldl (I0 q (FO q c pos i)) 100
def Gj (q:AA) (c:AB) (pos:List Int):Nat -> Int
 | 0=>100
 | m+1=>(BN (AT c pos (c.cells.length-1-m))).foldl (Il q (Gj q c pos m)) (-1)
def Hy (q:AA) (c:AB) (pos:List Int) (i:Nat):Int:=Gj q c pos (c.cells.length-i)
def Gw (q:AA) (c:AB) (pos:List Int) (a s:Nat):Bool:=decide (q.values.getD s 0<=FO q c pos a)||decide (q.values.getD s 0>=Hy q c pos (a+1))
def S8 (l:List Int):Nat -> List (Int×Int)
 | 0=>[]
 | m+1=>((m:Int),l.getD m 0)::S8 l m
theorem lx {l:List Int}: ∀ (m n:Nat),m<=l.length -> l.length<=LB -> m+1<=n -> Lr l n (.l1 ((m:Int)-1))=some (S8 l m)
 | 0,n,_,_,hn=>by
  obtain ⟨n,rfl⟩: ∃ k,n=k+1:=⟨n-1,by omega⟩
  show Nc n (Lr l n) l _=_
  unfold Nc;rw [zAZ (by omega),zAc];rfl
 | m+1,n,hm,hl,hn=>by
  obtain ⟨n,rfl⟩: ∃ k,n=k+1:=⟨n-1,by omega⟩;have e:((m+1:Nat):Int)-1=(m:Int):=by omega
  have hb:LB<=9223372036854775807:=by decide
  rw [e]
  show Nc n (Lr l n) l _=_
  unfold Nc;rw [zCm (by omega),zCk,zB3 ⟨by omega,by omega⟩,zB3 (An.2 ⟨by omega,by omega⟩),lx m n (by omega) hl (by omega),zCi];rfl
theorem zB6 {l:List Int} {n:Nat} (hl:l.length<=LB) (hn:l.length+1<=n):back n l=some (S8 l l.length):=by
 have hb:LB<=9223372036854775807:=by decide
 unfold back bW;rw [zB3 (An.2 ⟨by omega,by omega⟩),lx l.length n (zC6 _) hl hn]
section
variable {c:AB} {k:Nat} {pos lost:List Int} {q:AA}
theorem fC {n ln i:Nat} (Ah:c.cells.length<=256) (hi:i<c.cells.length) {o:List Int} (ho:o.length=c.cells.length+1): ∀ (l:List Int) (a:Int),(∀ e∈l,0<=e/\ e<((q.values.length:Nat):Int)) ->
 B6 (Qh n c (i:Int) q pos ln lost) l (.s0 (o.set (i+1) a))=some (.s0 (o.set (i+1) (l.foldl (I0 q (o.getD i 0)) a)))
 | [],_,_=>rfl
 | e::l,a,h=>by
  have t1:((((c.cells.length:Nat):Int)+1).toNat:Nat)=c.cells.length+1:=by omega
  have t2:(((i:Int)+1).toNat:Nat)=i+1:=by omega
  have e1:Qh n c (i:Int) q pos ln lost e (.s0 (o.set (i+1) a))=some (.s0 (o.set (i+1) (I0 q (o.getD i 0) a e))):=by
   unfold Qh fK UA
   dsimp only
   simp only [zCi,t1,t2,zC4,zDE,ho];rw [zB3 ⟨h e (.head _),by omega,by omega⟩,getD_set_ne (by omega),KQ (by omega),List.set_set];unfold I0
   by_cases hA:q.values.getD e.toNat 0>o.getD i 0
   ·rw [zCm hA,zCk,zB3 ⟨An.2 ⟨by omega,by omega⟩,by omega,by omega⟩,zB3 hA]
   ·rw [zAZ hA,zAc,zCt hA]
  simp only [B6];rw [e1,zCj,fC Ah hi ho l _ fun e he=>h e (.tail _ he)];rfl
theorem fD {n ln i:Nat} {x:Int} {o4:List Int} (Ah:c.cells.length<=256) (hi:i<c.cells.length) {o:List Int} (ho:o.length=c.cells.length+1): ∀ (l:List Int) (a:Int),(∀ e∈l,0<=e/\ e<((q.values.length:Nat):Int)) ->
 B6 (Qf n c q pos ln lost ((i:Int),x) o4) l (.s0 (o.set i a))=some (.s0 (o.set i (l.foldl (Il q (o.getD (i+1) 0)) a)))
 | [],_,_=>rfl
 | e::l,a,h=>by
  have t1:((((c.cells.length:Nat):Int)+1).toNat:Nat)=c.cells.length+1:=by omega
  have t2:(((i:Int)+1).toNat:Nat)=i+1:=by omega
  have e1:Qf n c q pos ln lost ((i:Int),x) o4 e (.s0 (o.set i a))=some (.s0 (o.set i (Il q (o.getD (i+1) 0) a e))):=by
   unfold Qf fH T9
   dsimp only
   simp only [zCi,t1,t2,zC4,zDE,ho];rw [zB3 ⟨h e (.head _),An.2 ⟨by omega,by omega⟩,by omega,by omega⟩,getD_set_ne (by omega),KQ (by omega),List.set_set];unfold Il
   by_cases hA:q.values.getD e.toNat 0<o.getD (i+1) 0
   ·rw [zCm hA,zCk,zB3 ⟨by omega,by omega⟩,zB3 hA]
   ·rw [zAZ hA,zAc,zCt hA]
  simp only [B6];rw [e1,zCj,fD Ah hi ho l _ fun e he=>h e (.tail _ he)];rfl
theorem Sm.i63 (hk:k<=16) {x:Int} (h:Sm k x):0<=x/\ x<9223372036854775808:=by
 have h1:=LA (k:=k) (zCv hk (by decide));obtain ⟨h2,h3⟩:=h;omega
theorem fE {n:Nat} {o4:List Int} (W:Bv c k pos) (V:Do q k): ∀ (m:Nat) (o:List Int),m<=c.cells.length -> o.length=c.cells.length+1 -> (∀ j,m<=j -> j<=c.cells.length -> o.getD j 0=Hy q c pos j) ->
 ∃ o',B6 (Qg n c q pos pos.length lost o4) (S8 c.cells m) (.s0 o)=some (.s0 o')/\ o'.length=c.cells.length+1/\ ∀ j,j<=c.cells.length -> o'.getD j 0=Hy q c pos j
 | 0,o,_,ho,h=>⟨o,rfl,ho,fun j hj=>h j (zD0 _) hj⟩
 | m+1,o,hm,ho,h=>by
  have hc:=W.cells m (by omega);have Cn:=W.at (a:=m) (by omega);have Ah:=W.len;have t1:((((c.cells.length:Nat):Int)+1).toNat:Nat)=c.cells.length+1:=by omega
  have e1:Qg n c q pos pos.length lost o4 ((m:Int),c.cells.getD m 0) (.s0 o)=some (.s0 (o.set m (Hy q c pos m))):=by
   unfold Qg fG T8
   dsimp only
   simp only [zCi,t1,zC4];rw [zB3 ⟨by omega,by omega,hc,Cn.i63 W.k⟩];refine (congrArg (fun z=>Option.bind z _) (fD Ah (by omega) ho (BN (AT c pos m)) (-1) fun e he=>(V.sym W.k Cn e he).1)).trans ?_;rw [zCj]
   have e2:Hy q c pos m=(BN (AT c pos m)).foldl (Il q (o.getD (m+1) 0)) (-1):=by
    rw [h (m+1) (zC6 _) hm];unfold Hy;rw [show c.cells.length-m=c.cells.length-(m+1)+1 by omega];simp only [Gj];rw [show c.cells.length-1-(c.cells.length-(m+1))=m by omega]
   rw [e2]
  obtain ⟨o',h1,h2,h3⟩:=fE W V m (o.set m (Hy q c pos m)) (by omega) (by rw [zDE];exact ho) fun j hj Fy=>by
   by_cases e:m=j
   ·subst e;exact KQ (by omega)
   ·rw [getD_set_ne e];exact h j (by omega) Fy
  refine ⟨o',?_,h2,h3⟩;simp only [S8,B6];rw [e1,zCj,h1]
theorem rH {n:Nat} {o4 o6:List Int} (W:Bv c k pos) (V:Do q k) (h4:o4.length=c.cells.length+1) (h6:o6.length=c.cells.length+1) (hb: ∀ j,j<=c.cells.length -> o4.getD j 0=FO q c pos j) (ha: ∀ j,j<=c.cells.length -> o6.getD j 0=Hy q c pos j) (hl:lost.length=pos.length) (hn:c.cells.length+1<=n):
 ∃ l,Hd c q pos pos.length lost n (.l2 0 lost o4 o6)=some (true,l)/\ B3 c pos lost c.cells.length (fun a s=>Gw q c pos a s=true) l:=by
 have lt: ∀ i,i<c.cells.length -> ((i:Nat):Int)<((c.cells.length:Nat):Int):=fun i hi=>by omega
 have t1:((((c.cells.length:Nat):Int)+1).toNat:Nat)=c.cells.length+1:=by omega
 have Ah:=W.len
 have T:=G6 (fun n (s:List Int) i=>Hd c q pos pos.length lost n (.l2 i s o4 o6)) c.cells.length 1
  (fun i s=>B3 c pos lost i (fun a s=>Gw q c pos a s=true) s) (fun n i s Fd hi hI=>?_) (n:=n) (s:=lost) (by omega) (B3.zero hl)
 ·obtain ⟨n3,l,Ru,_,e2,hL⟩:=T;obtain ⟨n4,rfl⟩: ∃ n4,n3=n4+1:=⟨n3-1,by omega⟩;refine ⟨l,e2.trans ?_,hL⟩
  show Qd n4 (Hd c q pos pos.length lost n4) c q pos pos.length lost (c.cells.length:Int) l o4 o6=_
  unfold Qd;rw [zAZ (by omega),zAc]
 ·have hc:=W.cells i hi;have hr:=W.r64 hi;have Cn:=W.at hi;have t2:(((i:Int)+1).toNat:Nat)=i+1:=by omega
  obtain ⟨l',e1,n1,f1⟩:=iF (n:=n) (q:=q) W hi hI.1 Js.s0 (UC n c (i:Int) q pos pos.length o4 o6) (Gw q c pos i) fun s l hs hl=>by
   have FJ:=V.len;have g1:(0:Int)<=(s:Int)/\ (s:Int)<((q.values.length:Nat):Int):=by omega
   have hk:=W.k;have g2:(0:Int)<=(s:Int)/\ (s:Int)<=((IntKind.i64.bits:Nat):Int):=⟨by omega,by show (s:Int)<=64;omega⟩;obtain ⟨l2,e2,_,_⟩:=J6 (lost:=l) (n:=n) (ss:=IntKind.i64.wrap (1*2 ^ s)) (c:=c) (q:=q) hc.1 hc.2 hl;unfold Gw UC fM UB
   dsimp only
   simp only [zCi,t1,t2,zC4,h4,h6];rw [zB3 ⟨g1,by omega,by omega⟩,hb i (by omega),ha (i+1) (by omega)];cases hA:decide (q.values.getD s 0<=FO q c pos i)
   ·rw [zAc,zB3 ⟨An.2 ⟨by omega,by omega⟩,by omega,by omega⟩,zEC];cases hB:decide (q.values.getD s 0>=Hy q c pos (i+1))
    ·rfl
    ·rw [zCk,zCk,zB3 g2,e2];rfl
   ·rw [zCk,Bool.true_or,zCk,zB3 g2,e2];rfl
  show ∃ s',Qd n (Hd c q pos pos.length lost n) c q pos pos.length lost (i:Int) s o4 o6=_/\ _
  unfold Qd;rw [zCm (lt i hi),zCk];simp only [zCi];rw [zB3 ⟨⟨by omega,lt i hi⟩,hc,Cn.i63 W.k⟩];refine ⟨l',?_,hI.step n1 f1⟩;refine (congrArg (fun z=>Option.bind z _) e1).trans ?_;rw [zCj];simp only;rw [zB3 hr.2]
theorem rI {n:Nat} (W:Bv c k pos) (V:Do q k) (hl:lost.length=pos.length) (hn:2*c.cells.length+3<=n):
 ∃ l,K6 n c q pos pos.length lost=some (true,l)/\ B3 c pos lost c.cells.length (fun a s=>Gw q c pos a s=true) l:=by
 have lt: ∀ i,i<c.cells.length -> ((i:Nat):Int)<((c.cells.length:Nat):Int):=fun i hi=>by omega
 have t1:((((c.cells.length:Nat):Int)+1).toNat:Nat)=c.cells.length+1:=by omega
 have Ah:=W.len
 have S:=G6 (fun n (s:List Int) i=>Hd c q pos pos.length lost n (.l1 i s)) c.cells.length (c.cells.length+3)
  (fun i s=>s.length=c.cells.length+1/\ ∀ j,j<=i -> s.getD j 0=FO q c pos j) (fun n i s _ hi hI=>?_) (n:=n) (s:=(List.replicate (c.cells.length+1) (0:Int)).set 0 (-1)) (by omega) ⟨by simp,fun j hj=>?_⟩
 ·obtain ⟨n1,o4,GN,_,e1,h4,hb⟩:=S;obtain ⟨n2,rfl⟩: ∃ n2,n1=n2+1:=⟨n1-1,by omega⟩
  have e0:K6 n c q pos pos.length lost=Hd c q pos pos.length lost n (.l1 0 ((List.replicate (c.cells.length+1) (0:Int)).set 0 (-1))):=by
   unfold K6 fF;simp only [t1,zC4,zC0];rw [zB3 ⟨An.2 ⟨by omega,by omega⟩,⟨trivial,by omega,by omega⟩,⟨by omega,by omega⟩,by omega,⟨by omega,by omega⟩,by omega⟩]
  have e2:K6 n c q pos pos.length lost=Qe n2 (Hd c q pos pos.length lost n2) c q pos pos.length lost (c.cells.length:Int) o4:=e0.trans e1;unfold Qe at e2;rw [zAZ (by omega),zAc,zB6 (zCv Ah (by decide)) (by omega),zCj] at e2;simp only [t1,zC4] at e2
  obtain ⟨o6,e3,h6,ha⟩:=fE (lost:=lost) (n:=n2) (o4:=o4) W V c.cells.length ((List.replicate (c.cells.length+1) (0:Int)).set c.cells.length 100) (zC6 _) (by simp) fun j hj Fy=>by
   obtain rfl:j=c.cells.length:=by omega
   rw [KQ (by simp)];unfold Hy;rw [Nat.sub_self];rfl
  rw [e3,zCj] at e2;obtain ⟨l,e4,hL⟩:=rH (n:=n2) W V h4 h6 (fun j hj=>hb j hj) ha hl (by omega);exact ⟨l,e2.trans e4,hL⟩
 ·obtain ⟨h4,hb⟩:=hI;have hc:=W.cells i hi;have hr:=W.r64 hi;have Cn:=W.at hi;have t2:(((i:Int)+1).toNat:Nat)=i+1:=by omega
  show ∃ s',Qe n (Hd c q pos pos.length lost n) c q pos pos.length lost (i:Int) s=_/\ _
  unfold Qe;rw [zCm (lt i hi),zCk];simp only [zCi,t1,t2,zC4];rw [zB3 ⟨⟨by omega,lt i hi⟩,hr.2,by omega,by omega,hc,Cn.i63 W.k⟩];refine ⟨s.set (i+1) (FO q c pos (i+1)),?_,by rw [zDE];exact h4,fun j hj=>?_⟩
  ·refine (congrArg (fun z=>Option.bind z _) (fC Ah hi h4 (BN (AT c pos i)) 100 fun e he=>(V.sym W.k Cn e he).1)).trans ?_;rw [zCj];simp only;rw [zB3 hr.2,hb i (zC6 _)];rfl
  ·by_cases e:i+1=j
   ·subst e;exact KQ (by omega)
   ·rw [getD_set_ne e];exact hb j (by omega)
 ·obtain rfl:j=0:=by omega
  rw [KQ (by simp)];rfl
end
end Go.Proofs.YtgkhhfnhacibcaaGreatDoor
namespace Go.Proofs.YtgkhhfnhacibcaaGreatDoor
open Go.RowKit
section
variable {k:Nat}
theorem f8 {T1 T2:Type} (J5:List Int -> Int -> Int -> T1) (OY:List Int -> Int -> Int -> T2) (f1:Int -> Int -> T1 -> Option T1) (f2:Int -> T2 -> Option T2) (ok:Nat -> Nat -> Bool) {a b:Int} (ha:Sm k a) (hb:Sm k b) (hk:k<=16)
 (h1: ∀ (s t:Nat) (l:List Int) (x y:Int),s<k -> t<k -> f1 s t (J5 l x y)=some (bif ok s t then J5 l (bits .or .i64 x (IntKind.i64.wrap (1*2 ^ s))) (bits .or .i64 y (IntKind.i64.wrap (1*2 ^ t))) else J5 l x y))
 (h2: ∀ (s:Nat) (l:List Int) (x y x' y':Int),s<k -> B6 (f1 s) (BN b) (J5 l x y)=some (J5 l x' y') -> f2 s (OY l x y)=some (OY l x' y')) (l:List Int):
 ∃ x y,B6 f2 (BN a) (OY l 0 0)=some (OY l x y)/\ (∀ u,tb x u=true↔tb a u=true/\ ∃ t,tb b t=true/\ ok u t=true)/\ (∀ u,tb y u=true↔tb b u=true/\ ∃ s,tb a s=true/\ ok s u=true):=by
 have JK:k<=62:=zCv hk (by decide)
 have vN: ∀ (s:Nat) (x y:Int),s<k -> ∃ x' y',B6 (f1 s) (BN b) (J5 l x y)=some (J5 l x' y')/\ (∀ u,tb x' u=true↔tb x u=true∨(u=s/\ ∃ t,tb b t=true/\ ok s t=true))/\ (∀ u,tb y' u=true↔tb y u=true∨(tb b u=true/\ ok s u=true)):=by
  intro s x y hs
  have key:=WB (f:=f1 s) (fun pre st=>∃ x' y',st=J5 l x' y'/\ (∀ u,tb x' u=true↔tb x u=true∨(u=s/\ ∃ t:Nat,(t:Int)∈pre/\ ok s t=true))/\ (∀ u:Nat,tb y' u=true↔tb y u=true∨((u:Int)∈pre/\ ok s u=true)))
   (BN b) [] (J5 l x y) ⟨x,y,rfl,fun u=>⟨.inl,fun h=>h.elim id fun ⟨_,t,h,_⟩=>(by cases h)⟩,fun u=>⟨.inl,fun h=>h.elim id fun ⟨h,_⟩=>(by cases h)⟩⟩ ?_
  ·obtain ⟨st,e,x',y',rfl,hx,hy⟩:=key;refine ⟨x',y',e,fun u=>?_,fun u=>?_⟩
   ·rw [hx,zD2];constructor
    ·rintro (h | ⟨e1,t,h,h3⟩)
     ·exact .inl h
     ·obtain ⟨t',e2,_,h4⟩:=(E0 hb JK).1 h;have:t=t':=by omega
      subst this;exact .inr ⟨e1,t,h4,h3⟩
    ·rintro (h | ⟨e1,t,h,h3⟩)
     ·exact .inl h
     ·exact .inr ⟨e1,t,(E0 hb JK).2 ⟨t,rfl,zDS fun Bx=>(by rw [hb.hi Bx] at h;cases h),h⟩,h3⟩
   ·rw [hy,zD2];constructor
    ·rintro (h | ⟨h,h3⟩)
     ·exact .inl h
     ·obtain ⟨t',e2,_,h4⟩:=(E0 hb JK).1 h;have:u=t':=by omega
      subst this;exact .inr ⟨h4,h3⟩
    ·rintro (h | ⟨h,h3⟩)
     ·exact .inl h
     ·exact .inr ⟨(E0 hb JK).2 ⟨u,rfl,zDS fun Bx=>(by rw [hb.hi Bx] at h;cases h),h⟩,h3⟩
  ·rintro pre e _ he ⟨x',y',rfl,hx,hy⟩;obtain ⟨t,rfl,ht,_⟩:=(E0 hb JK).1 he;rw [h1 s t l x' y' hs ht];cases ho:ok s t
   ·rw [zAc];refine ⟨_,rfl,x',y',rfl,fun u=>?_,fun u=>?_⟩
    ·rw [hx];constructor
     ·rintro (h | ⟨e1,t',h,h3⟩)
      ·exact .inl h
      ·exact .inr ⟨e1,t',zDL _ h,h3⟩
     ·rintro (h | ⟨e1,t',h,h3⟩)
      ·exact .inl h
      ·rcases zC9.1 h with h | h
       ·exact .inr ⟨e1,t',h,h3⟩
       ·have:t'=t:=by have:=zC2.1 h;omega
        subst this;rw [ho] at h3;cases h3
    ·rw [hy];constructor
     ·rintro (h | ⟨h,h3⟩)
      ·exact .inl h
      ·exact .inr ⟨zDL _ h,h3⟩
     ·rintro (h | ⟨h,h3⟩)
      ·exact .inl h
      ·rcases zC9.1 h with h | h
       ·exact .inr ⟨h,h3⟩
       ·have:u=t:=by have:=zC2.1 h;omega
        subst this;rw [ho] at h3;cases h3
   ·rw [zCk];refine ⟨_,rfl,_,_,rfl,fun u=>?_,fun u=>?_⟩
    ·rw [Jh,zC7,hx,H7 (by omega),zCw];constructor
     ·rintro ((h | ⟨e1,t',h,h3⟩) | rfl)
      ·exact .inl h
      ·exact .inr ⟨e1,t',zDL _ h,h3⟩
      ·exact .inr ⟨rfl,t,zDX _ (.head _),ho⟩
     ·rintro (h | ⟨e1,t',h,h3⟩)
      ·exact .inl (.inl h)
      ·exact .inr e1.symm
    ·rw [Jh,zC7,hy,H7 (by omega),zCw];constructor
     ·rintro ((h | ⟨h,h3⟩) | rfl)
      ·exact .inl h
      ·exact .inr ⟨zDL _ h,h3⟩
      ·exact .inr ⟨zDX _ (.head _),ho⟩
     ·rintro (h | ⟨h,h3⟩)
      ·exact .inl (.inl h)
      ·rcases zC9.1 h with h | h
       ·exact .inl (.inr ⟨h,h3⟩)
       ·exact .inr (by have:=zC2.1 h;omega)
 have key:=WB (f:=f2) (fun pre st=>∃ x y,st=OY l x y/\ (∀ u:Nat,tb x u=true↔(u:Int)∈pre/\ ∃ t,tb b t=true/\ ok u t=true)/\ (∀ u,tb y u=true↔tb b u=true/\ ∃ s:Nat,(s:Int)∈pre/\ ok s u=true))
  (BN a) [] (OY l 0 0) ⟨0,0,rfl,fun u=>⟨fun h=>absurd h Gp,fun ⟨h,_⟩=>(by cases h)⟩,fun u=>⟨fun h=>absurd h Gp,fun ⟨_,s,h,_⟩=>(by cases h)⟩⟩ ?_
 ·obtain ⟨st,e,x,y,rfl,hx,hy⟩:=key;refine ⟨x,y,e,fun u=>?_,fun u=>?_⟩
  ·rw [hx,zD2];constructor
   ·rintro ⟨h,h2⟩;obtain ⟨t',e2,_,h4⟩:=(E0 ha JK).1 h;have:u=t':=by omega
    subst this;exact ⟨h4,h2⟩
   ·rintro ⟨h,h2⟩;exact ⟨(E0 ha JK).2 ⟨u,rfl,zDS fun Bx=>(by rw [ha.hi Bx] at h;cases h),h⟩,h2⟩
  ·rw [hy,zD2];constructor
   ·rintro ⟨h0,s,h,h3⟩;obtain ⟨t',e2,_,h4⟩:=(E0 ha JK).1 h;have:s=t':=by omega
    subst this;exact ⟨h0,s,h4,h3⟩
   ·rintro ⟨h0,s,h,h3⟩;exact ⟨h0,s,(E0 ha JK).2 ⟨s,rfl,zDS fun Bx=>(by rw [ha.hi Bx] at h;cases h),h⟩,h3⟩
 ·rintro pre e _ he ⟨x,y,rfl,hx,hy⟩;obtain ⟨s,rfl,hs,_⟩:=(E0 ha JK).1 he;obtain ⟨x',y',e1,VY,wL⟩:=vN s x y hs;refine ⟨_,h2 s l x y x' y' hs e1,x',y',rfl,fun u=>?_,fun u=>?_⟩
  ·rw [VY,hx];constructor
   ·rintro (⟨h,h2⟩ | ⟨rfl,h2⟩)
    ·exact ⟨zDL _ h,h2⟩
    ·exact ⟨zDX _ (.head _),h2⟩
   ·rintro ⟨h,h2⟩;rcases zC9.1 h with h | h
    ·exact .inl ⟨h,h2⟩
    ·have:u=s:=by have:=zC2.1 h;omega
     subst this;exact .inr ⟨rfl,h2⟩
  ·rw [wL,hy];constructor
   ·rintro (⟨h,s',h2,h3⟩ | ⟨h,h2⟩)
    ·exact ⟨h,s',zDL _ h2,h3⟩
    ·exact ⟨h,s,zDX _ (.head _),h2⟩
   ·rintro ⟨h,s',h2,h3⟩;rcases zC9.1 h2 with h2 | h2
    ·exact .inl ⟨h,s',h2,h3⟩
    ·have:s'=s:=by have:=zC2.1 h2;omega
     subst this;exact .inr ⟨h,h3⟩
end
theorem Pd {s:Nat} (hs:s<64) (x:Int):(bits .and .i64 (IntKind.i64.wrap (1*2 ^ s)) x==0)= !tb x s:=by
 rw [zDp,zDB,Kq (E5 _ _ _)];constructor
 ·intro h;have:=h s hs;rw [HT,H7 hs,zCm rfl,zDG] at this;rw [this];rfl
 ·intro h i hi;rw [HT,H7 hs]
  by_cases e:s=i
  ·subst e;rw [zCm rfl,zDG];cases hx:tb x s
   ·rfl
   ·rw [hx] at h;cases h
  ·rw [zAZ e,zD6]
def G4 (q:AA) (c:AB) (s t:Nat):Bool:=decide ((if 0-(q.values.getD s 0-q.values.getD t 0)>q.values.getD s 0-q.values.getD t 0 then 0-(q.values.getD s 0-q.values.getD t 0) else q.values.getD s 0-q.values.getD t 0)>=c.lo)
def GY (c:AB) (s t:Nat):Bool:=(!tb c.set s|| !tb c.other t)&&(!tb c.set t|| !tb c.other s)
def Fr (ok:Nat -> Nat -> Bool) (c:AB) (pos:List Int) (a s:Nat):Prop:=
 if a=0 then ¬ ∃ t,tb (AT c pos 1) t=true/\ ok s t=true else ¬ ∃ t,tb (AT c pos 0) t=true/\ ok t s=true
section
variable {c:AB} {k:Nat} {pos lost:List Int} {q:AA}
theorem zCK {n ln:Nat} (V:Do q k) {s t:Nat} (hs:s<k) (ht:t<k):Wy n s t c q pos ln lost=some (G4 q c s t,lost):=by
 have h1:=V.val s hs;have h2:=V.val t ht;have h3:=V.len;unfold Wy mQ;simp only [zCi];rw [zB3 ⟨by omega,by omega,An.2 ⟨by omega,by omega⟩,An.2 ⟨by omega,by omega⟩⟩];rfl
theorem tm {n ln:Nat} {s t:Nat} (hs:s<64) (ht:t<64):Uw n s t c q pos ln lost=some (GY c s t,lost):=by
 have g: ∀ s:Nat,s<64 -> (0:Int)<=(s:Int)/\ (s:Int)<=((IntKind.i64.bits:Nat):Int):=fun s hs=>⟨by omega,by show (s:Int)<=64;omega⟩
 unfold Uw gW;simp only [zCi];rw [zB3 ⟨g s hs,g t ht⟩,Pd hs,Pd hs,Pd ht,Pd ht];unfold GY;cases tb c.set s <;> cases tb c.set t <;> cases tb c.other s <;> cases tb c.other t <;> rfl
theorem gA {n:Nat} (W:Bv c k pos) (h2:c.cells.length=2) (hl:lost.length=pos.length) (ok:Nat -> Nat -> Bool) {x y:Int}
 (hx: ∀ u,tb x u=true↔tb (AT c pos 0) u=true/\ ∃ t,tb (AT c pos 1) t=true/\ ok u t=true) (hy: ∀ u,tb y u=true↔tb (AT c pos 1) u=true/\ ∃ s,tb (AT c pos 0) s=true/\ ok s u=true):
 ∃ l1 l,DP n (c.cells.getD 0 0) (bits .xor .i64 (-1) x) c q pos pos.length lost=some l1/\ DP n (c.cells.getD 1 0) (bits .xor .i64 (-1) y) c q pos pos.length l1=some l/\ B3 c pos lost c.cells.length (Fr ok c pos) l:=by
 have c0:=W.cells 0 (by omega);have c1:=W.cells 1 (by omega);obtain ⟨l1,e1,n1,f1⟩:=J6 (lost:=lost) (n:=n) (ss:=bits .xor .i64 (-1) x) (c:=c) (q:=q) c0.1 c0.2 hl;obtain ⟨l,e2,n2,f2⟩:=J6 (lost:=l1) (n:=n) (ss:=bits .xor .i64 (-1) y) (c:=c) (q:=q) c1.1 c1.2 n1;refine ⟨l1,l,e1,e2,?_⟩;have lt: ∀ {a:Nat} {s:Nat},a<c.cells.length -> tb (AT c pos a) s=true -> s<64:=fun {a s} ha h=>zDS fun Bx=>by rw [H9 Bx] at h;cases h
 rw [h2];refine B3.step (i:=1) (l:=l1) (B3.step (i:=0) (l:=lost) (B3.zero hl) n1 fun j s=>?_) n2 fun j s=>?_
 ·rw [f1,zC7,zCp,zCp,zCw];constructor
  ·rintro (h | ⟨rfl,h3,h4⟩)
   ·exact .inl h
   ·refine .inr ⟨rfl,h3,?_⟩;rw [Te _ (lt (a:=0) (by omega) h3)] at h4;unfold Fr;rw [zB3 rfl];intro h5;rw [(hx s).2 ⟨h3,h5⟩] at h4;cases h4
  ·rintro (h | ⟨rfl,h3,h4⟩)
   ·exact .inl h
   ·refine .inr ⟨rfl,h3,?_⟩;rw [Te _ (lt (a:=0) (by omega) h3)];unfold Fr at h4;rw [zB3 rfl] at h4;cases hb:tb x s
    ·rfl
    ·exact absurd ((hx s).1 hb).2 h4
 ·rw [f2,zC7,zCp,zCp,zCw];constructor
  ·rintro (h | ⟨rfl,h3,h4⟩)
   ·exact .inl h
   ·refine .inr ⟨rfl,h3,?_⟩;rw [Te _ (lt (a:=1) (by omega) h3)] at h4;unfold Fr;rw [zCt (by decide)];intro h5;rw [(hy s).2 ⟨h3,h5⟩] at h4;cases h4
  ·rintro (h | ⟨rfl,h3,h4⟩)
   ·exact .inl h
   ·refine .inr ⟨rfl,h3,?_⟩;rw [Te _ (lt (a:=1) (by omega) h3)];unfold Fr at h4;rw [zCt (by decide)] at h4;cases hb:tb y s
    ·rfl
    ·exact absurd ((hy s).1 hb).2 h4
theorem zCL {n:Nat} (W:Bv c k pos) (V:Do q k) (h2:c.cells.length=2) (hl:lost.length=pos.length):
 ∃ l,Nh n c q pos pos.length lost=some (true,l)/\ B3 c pos lost c.cells.length (Fr (G4 q c) c pos) l:=by
 have c0:=W.cells 0 (by omega);have c1:=W.cells 1 (by omega);have s0:=W.at (a:=0) (by omega);have s1:=W.at (a:=1) (by omega);have hk:=W.k;have g: ∀ s:Nat,s<k -> (0:Int)<=(s:Int)/\ (s:Int)<=((IntKind.i64.bits:Nat):Int):=fun s hs=>⟨by omega,by show (s:Int)<=64;omega⟩
 obtain ⟨x,y,e,hx,hy⟩:=f8 J1.s0 J2.s0 (Uk n c q pos pos.length) (Ul n c q pos pos.length) (G4 q c) s0 s1 hk
  (fun s t l x y hs ht=>by
   unfold Uk gI Uj
   dsimp only
   rw [zCK V hs ht,zCj];cases G4 q c s t
   ·rfl
   ·simp only [zCk,zCi];rw [zB3 ⟨g s hs,g t ht⟩])
  (fun s l x y x' y' hs he=>by
   unfold Ul gH Ui
   dsimp only
   rw [zB3 (show 0<=pos.getD (c.cells.getD 1 0).toNat 0/\ pos.getD (c.cells.getD 1 0).toNat 0<9223372036854775808 from s1.i63 hk)];refine (congrArg (fun z=>Option.bind z _) he).trans ?_;rfl) lost
 obtain ⟨l1,l,e1,e2,hL⟩:=gA (n:=n) (q:=q) W h2 hl (G4 q c) hx hy;refine ⟨l,?_,hL⟩;unfold Nh bs YR gG;rw [zB3 ⟨by omega,by omega,c0,c1,s0.i63 hk⟩];refine (congrArg (fun z=>Option.bind (Option.bind z _) _) e).trans ?_;rw [zCj];simp only;rw [e1,zCj,e2];rfl
theorem tn {n:Nat} (W:Bv c k pos) (h2:c.cells.length=2) (hl:lost.length=pos.length):
 ∃ l,Mh n c q pos pos.length lost=some (true,l)/\ B3 c pos lost c.cells.length (Fr (GY c) c pos) l:=by
 have c0:=W.cells 0 (by omega);have c1:=W.cells 1 (by omega);have s0:=W.at (a:=0) (by omega);have s1:=W.at (a:=1) (by omega);have hk:=W.k;have g: ∀ s:Nat,s<k -> (0:Int)<=(s:Int)/\ (s:Int)<=((IntKind.i64.bits:Nat):Int):=fun s hs=>⟨by omega,by show (s:Int)<=64;omega⟩
 obtain ⟨x,y,e,hx,hy⟩:=f8 Jz.s0 J0.s0 (Ug n c q pos pos.length) (Uh n c q pos pos.length) (GY c) s0 s1 hk
  (fun s t l x y hs ht=>by
   unfold Ug gD Uf
   dsimp only
   rw [tm (by omega) (by omega),zCj];cases GY c s t
   ·rfl
   ·simp only [zCk,zCi];rw [zB3 ⟨g s hs,g t ht⟩])
  (fun s l x y x' y' hs he=>by
   unfold Uh gC Ue
   dsimp only
   rw [zB3 (show 0<=pos.getD (c.cells.getD 1 0).toNat 0/\ pos.getD (c.cells.getD 1 0).toNat 0<9223372036854775808 from s1.i63 hk)];refine (congrArg (fun z=>Option.bind z _) he).trans ?_;rfl) lost
 obtain ⟨l1,l,e1,e2,hL⟩:=gA (n:=n) (q:=q) W h2 hl (GY c) hx hy;refine ⟨l,?_,hL⟩;unfold Mh Ye YQ gB;rw [zB3 ⟨by omega,by omega,c0,c1,s0.i63 hk⟩];refine (congrArg (fun z=>Option.bind (Option.bind z _) _) e).trans ?_;rw [zCj];simp only;rw [e1,zCj,e2];rfl
end
end Go.Proofs.YtgkhhfnhacibcaaGreatDoor
namespace Go.Proofs.YtgkhhfnhacibcaaGreatDoor
open Go.RowKit
set_option maxRecDepth 100000
set_option maxHeartbeats 40000000
def dZ:ST:=.rd 0 (.rd 1 (.rd 2 (.rd 3 (.rd 4 (.rd 6 (.rd 7 (.rd 8 (.rd 9 (.rd 10 (.ef 5 (.rd 12 (.ef 11 (.rd 13 (.fin [0,1] [0,2,3])) (.no))) (.ef 11 (.ef 5 (.rd 12 (.rd 13 (.fin [1,0] [0,2,3]))) (.no)) (.no))))))))))))
theorem p7:CQ (BA Tryz.f108 1) [5,11] dZ:=by unfold CQ;kernel_rfl
def dY:ST:=.rd 0 (.rd 1 (.rd 2 (.rd 3 (.rd 4 (.rd 5 (.rd 6 (.rd 7 (.rd 8 (.rd 9 (.rd 10 (.rd 11 (.rd 12 (.rd 13 (.rd 14 (.rd 15 (.rd 16 (.rd 17 (.rd 18 (.rd 19 (.rd 20 (.rd 21 (.rd 22 (.rd 23 (.rd 24 (.rd 25 (.rd 26 (.rd 27 (.rd 28 (.rd 29 (.rd 30 (.rd 31 (.rd 32 (.ef 33 (.rd 34 (.ef 35 (.fin [] [0,2,3,30,31,32]) (.no))) (.no))))))))))))))))))))))))))))))))))
theorem p6:CQ (BA Tryz.f108 5) [33] dY:=by unfold CQ;kernel_rfl
def I2:Bb:=fun i=>match i with
 | 1=>.tre [5,11] dZ
 | 5=>.tre [33] dY
 | _=>.no
def XV (pos:List Int) (c:AB) (q:AA) (ln:Nat) (lost:List Int):St:=⟨(AM 120 [(0,.ref 0 0),(2,.msl 2 1 0 pos.length),(3,.msl 3 1 0 pos.length)]),([some (.cells (AH c++AD q++[.ints pos,.msl 1 1 0 ln])),some (.ints lost),some (.bools (List.replicate pos.length false)),some (.bools (List.replicate pos.length false))]:DH)⟩
def dF (pos:List Int) (c:AB) (C7:Int) (q:AA) (ln:Nat) (lost:List Int) (o2 o3:List Bool):St:=⟨(AM 120 [(0,.ref 0 0),(2,.msl 2 1 0 pos.length),(3,.msl 3 1 0 pos.length),(30,.ints c.cells),(31,.i (c.cells.length:Int)),(32,.i C7)]),([some (.cells (AH c++AD q++[.ints pos,.msl 1 1 0 ln])),some (.ints lost),some (.bools (o2.set (0+((c.cells.getD ((C7).toNat) 0).toNat)) ((bits .and .i64 (pos.getD ((c.cells.getD ((C7).toNat) 0).toNat) 0) c.set) != 0))),some (.bools (o3.set (0+((c.cells.getD ((C7).toNat) 0).toNat)) ((bits .andNot .i64 (pos.getD ((c.cells.getD ((C7).toNat) 0).toNat) 0) c.set)==0)))]:DH)⟩
def jL (c:AB) (q:AA) (pos:List Int) (ln:Nat) (lost:List Int) (o2 o3:List Bool):DH:=[some (.cells (AH c++AD q++[.ints pos,.msl 1 1 0 ln])),some (.ints lost),some (.bools o2),some (.bools o3)]
def jK (c:AB) (q:AA) (pos:List Int) (ln:Nat) (lost:List Int) (o3:List Bool) (y2:(List Bool)):DH:=[some (.cells (AH c++AD q++[.ints pos,.msl 1 1 0 ln])),some (.ints lost),none,some (.bools o3),some (.bools y2)]
inductive OU where
 | l1 (C7:Int) (o2 o3:List Bool)
 | l2 (FA:List Bool) (x8:Nat) (HO:List Int) (Kl F5:Int) (o2 o3:List Bool)
 | l3 (FA:List Bool) (x8:Nat) (Je DL:Int) (o1:List Int) (o2 o3:List Bool)
def RF (n:Nat) (self:OU -> Option ((List Bool)×(List Bool)×Bool×(List Int))) (c:AB) (q:AA) (pos:List Int) (ln:Nat) (lost:List Int) (C7:Int) (o2 o3:List Bool):Option ((List Bool)×(List Bool)×Bool×(List Int)):=
 bif (decide (C7<(c.cells.length:Int))) then
  if (0<=C7/\ C7<(c.cells.length:Int))/\ (0<=(c.cells.getD ((C7).toNat) 0)/\ (c.cells.getD ((C7).toNat) 0)<(pos.length:Int))/\ 0+((c.cells.getD ((C7).toNat) 0).toNat)<o2.length/\ 0+((c.cells.getD ((C7).toNat) 0).toNat)<o3.length/\ AI (C7+1) then
   self (.l1 (C7+1) (o2.set (0+((c.cells.getD ((C7).toNat) 0).toNat)) ((bits .and .i64 (pos.getD ((c.cells.getD ((C7).toNat) 0).toNat) 0) c.set) != 0)) (o3.set (0+((c.cells.getD ((C7).toNat) 0).toNat)) ((bits .andNot .i64 (pos.getD ((c.cells.getD ((C7).toNat) 0).toNat) 0) c.set)==0)))
  else none
 else
  if pos.length=o3.length then
   (VV n o3 true).bind fun y1=>
    bif (decide (y1<0)) then
     if pos.length=o2.length then
      some (o2,o3,false,lost)
     else none
    else
     if pos.length=o2.length then
      (NY n o2).bind fun y2=>
       (PY n q.nbrs o2 y1).bind fun y3=>
        self (.l2 o2 y2.length y3.1 (y3.1.length:Int) 0 o3 y2)
     else none
  else none
def RE (n:Nat) (self:OU -> Option ((List Bool)×(List Bool)×Bool×(List Int))) (c:AB) (q:AA) (pos:List Int) (ln:Nat) (lost:List Int) (FA:List Bool) (x8:Nat) (HO:List Int) (Kl F5:Int) (o2 o3:List Bool):Option ((List Bool)×(List Bool)×Bool×(List Int)):=
 bif (decide (F5<Kl)) then
  if (0<=F5/\ F5<(HO.length:Int))/\ (0<=(HO.getD ((F5).toNat) 0)/\ (HO.getD ((F5).toNat) 0)<(x8:Int))/\ 0+((HO.getD ((F5).toNat) 0).toNat)<o3.length/\ AI (F5+1) then
   self (.l2 FA x8 HO Kl (F5+1) o2 (o3.set (0+((HO.getD ((F5).toNat) 0).toNat)) false))
  else none
 else
  self (.l3 FA x8 (x8:Int) 0 lost o2 o3)
def RD (n:Nat) (self:OU -> Option ((List Bool)×(List Bool)×Bool×(List Int))) (c:AB) (q:AA) (pos:List Int) (ln:Nat) (lost:List Int) (FA:List Bool) (x8:Nat) (Je DL:Int) (o1:List Int) (o2 o3:List Bool):Option ((List Bool)×(List Bool)×Bool×(List Int)):=
 bif (decide (DL<Je)) then
  if (0<=DL/\ DL<(x8:Int))/\ 0+((DL).toNat)<o3.length then
   bif (o3.getD (0+((DL).toNat)) false) then
    (DP n DL c.set c q pos ln o1).bind fun y1=>
     if AI (DL+1) then
      self (.l3 FA x8 Je (DL+1) y1 o2 o3)
     else none
   else
    if AI (DL+1) then
     self (.l3 FA x8 Je (DL+1) o1 o2 o3)
    else none
  else none
 else
  if pos.length=o2.length then
   some (FA,o2,true,o1)
  else none
def ga (n:Nat) (self:OU -> Option ((List Bool)×(List Bool)×Bool×(List Int))) (c:AB) (q:AA) (pos:List Int) (ln:Nat) (lost:List Int):Option ((List Bool)×(List Bool)×Bool×(List Int)):=
 if ((pos.length:Int):Int)=(pos.length:Int)/\ 0<=(pos.length:Int)/\ ((pos.length:Int):Int)<=1000000000000 then
  self (.l1 0 (List.replicate pos.length false) (List.replicate pos.length false))
 else none
def Ej (c:AB) (q:AA) (pos:List Int) (ln:Nat) (lost:List Int):Nat -> OU -> Option ((List Bool)×(List Bool)×Bool×(List Int))
 | 0,_=>none
 | n+1,.l1 C7 o2 o3=>RF n (Ej c q pos ln lost n) c q pos ln lost C7 o2 o3
 | n+1,.l2 FA x8 HO Kl F5 o2 o3=>RE n (Ej c q pos ln lost n) c q pos ln lost FA x8 HO Kl F5 o2 o3
 | n+1,.l3 FA x8 Je DL o1 o2 o3=>RD n (Ej c q pos ln lost n) c q pos ln lost FA x8 Je DL o1 o2 o3
def Mj (n:Nat) (c:AB) (q:AA) (pos:List Int) (ln:Nat) (lost:List Int):Option ((List Bool)×(List Bool)×Bool×(List Int)):=ga n (Ej c q pos ln lost n) c q pos ln lost
def tu (n B:Nat) (N:Yd 2) (c:AB) (q:AA) (pos:List Int) (ln:Nat) (lost:List Int) (r:(List Bool)×(List Bool)×Bool×(List Int)):OU -> Prop
 | .l1 C7 o2 o3=>∀ m0:Nat,n<=m0 -> TW B N (FQ Tryz.f108 2 (.tup 3 (L1 [.bools r.1,.bools r.2.1,.bool r.2.2.1])) [some (.cells (AH c++AD q++[.ints pos,.msl 1 1 0 ln])),some (.ints r.2.2.2)]) (Ak m0 (Au (AZ Tryz.f108) 0 [])) ⟨AM 120 [(0,.ref 0 0),(2,.msl 2 1 0 pos.length),(3,.msl 3 1 0 pos.length),(30,.ints c.cells),(31,.i (c.cells.length:Int)),(32,.i C7)],[some (.cells (AH c++AD q++[.ints pos,.msl 1 1 0 ln])),some (.ints lost),some (.bools o2),some (.bools o3)]⟩
 | .l2 FA x8 HO Kl F5 o2 o3=>∀ m0:Nat,n<=m0 -> TW B N (FQ Tryz.f108 2 (.tup 3 (L1 [.bools r.1,.bools r.2.1,.bool r.2.2.1])) [some (.cells (AH c++AD q++[.ints pos,.msl 1 1 0 ln])),some (.ints r.2.2.2)]) (Ak m0 (Au (AZ Tryz.f108) 2 [])) ⟨AM 120 [(0,.ref 0 0),(2,.bools FA),(3,.msl 2 1 0 pos.length),(8,.msl 3 1 0 x8),(90,.ints HO),(91,.i Kl),(92,.i F5)],[some (.cells (AH c++AD q++[.ints pos,.msl 1 1 0 ln])),some (.ints lost),some (.bools o2),some (.bools o3)]⟩
 | .l3 FA x8 Je DL o1 o2 o3=>∀ m0:Nat,n<=m0 -> TW B N (FQ Tryz.f108 2 (.tup 3 (L1 [.bools r.1,.bools r.2.1,.bool r.2.2.1])) [some (.cells (AH c++AD q++[.ints pos,.msl 1 1 0 ln])),some (.ints r.2.2.2)]) (Ak m0 (Au (AZ Tryz.f108) 4 [])) ⟨AM 120 [(0,.ref 0 0),(2,.bools FA),(3,.msl 2 1 0 pos.length),(8,.msl 3 1 0 x8),(101,.i Je),(102,.i DL)],[some (.cells (AH c++AD q++[.ints pos,.msl 1 1 0 ln])),some (.ints o1),some (.bools o2),some (.bools o3)]⟩
theorem tv (B:Nat) (N:Yd 2) (c:AB) (q:AA) (pos:List Int) (ln:Nat) (lost:List Int):Al (Ej c q pos ln lost) (tu · B N c q pos ln lost):=ia (fun _=>rfl) fun n AG pt r h=>by
 cases pt
 case l1 C7 o2 o3=>
  intro m0 AC;refine rd AC fun m0 AC=>?_
  revert r;apply gO
  exact bi 33 (gc (gi (jg p6 (gc (gn fun g1=>jg g1 (jg g1 (jg g1 (gc (gi (jg g1 (gc (gi (jg (Eq.refl (dF pos c C7 q ln lost o2 o3)) (gw 70 (lG (tg:=[([(33,2)],(dF pos c C7 q ln lost o2 o3))]) I2 [0,1,2,3] (AG _ _ · m0 AC)))))))))))))))) (gn fun g0=>cn fun y1 A0=>jc (sb [.msl 3 1 0 pos.length,.bool true] (vr A0) (jL c q pos ln lost o2 o3) ⟨AR.bools rfl g0,AR.plain (by kernel_rfl),trivial⟩) (bi 74 (gn fun g1=>lF fun p=>ez I2 [2,3,4] [0,1,2,3] p [2,3] (H0.g g1 |>.g g0)) (gn fun g1=>cn fun y2 Bt=>jc (ES.snapNew (ds:=[.msl 2 1 0 pos.length]) (lR Bt) (jL c q pos ln lost o2 o3) ⟨AR.bools rfl g1,trivial⟩ rfl) (fun p r h=>by
   refine gz (BS 11 I2) [0,1,2,3,4] p [2] (H0.g g1) (GQ (AZ Tryz.f108) 11 []) (AM 120 [(0,.ref 0 0),(2,.bools o2),(3,.msl 3 1 0 pos.length),(7,.i y1),(8,.msl 4 1 0 y2.length)]) (jK c q pos ln lost o3 y2) ?_;revert r;apply gO;exact cf zBY (jK c q pos ln lost o3 y2) fun _=>lN I2 [0,1,3,4] (AG _ _ · n Nat.le.refl)))))
 case l2 FA x8 HO Kl F5 o2 o3=>
  intro m0 AC;refine rd AC fun m0 AC=>?_
  revert r;apply gO;exact bi 93 (gc (gi (gc (gi (gc (gi (gw 99 (lG I2 [0,1,2,3] (AG _ _ · m0 AC))))))))) (lN I2 [0,1,2,3] (AG _ _ · n Nat.le.refl))
 case l3 FA x8 Je DL o1 o2 o3=>
  intro m0 AC;refine rd AC fun m0 AC=>?_
  revert r;apply gO;exact bi 103 (gc (gi (gi (bi 108 (ce Fs [0,1] [some (.cells (AH c++AD q++[.ints pos,.msl 1 1 0 ln])),some (.ints o1),some (.bools o2),some (.bools o3)] fun _=>gw 117 (lG I2 [0,1,2,3] (AG _ _ · m0 AC))) (gw 117 (lG I2 [0,1,2,3] (AG _ _ · m0 AC))))))) (gn fun g0=>lF fun p=>ez I2 [2,3,4] [0,1,2] p [2] (H0.g g0))
theorem gZ {n:Nat} {c:AB} {q:AA} {pos:List Int} {ln:Nat} {lost:List Int} {r:(List Bool)×(List Bool)×Bool×(List Int)} (h:Mj n c q pos ln lost=some r):EQ 108 [.ref 0 0] [some (.cells (AH c++AD q++[.ints pos,.msl 1 1 0 ln])),some (.ints lost)] (.tup 3 (L1 [.bools r.1,.bools r.2.1,.bool r.2.2.1])) [some (.cells (AH c++AD q++[.ints pos,.msl 1 1 0 ln])),some (.ints r.2.2.2)] false:=by
 refine ot Tryz.func108 fun B N=>?_
 revert r;apply gO;exact jg p7 (gn fun g0=>jg g0 (jg g0 (jg (Eq.refl (XV pos c q ln lost)) (jg g0 (jg g0 (jg (Eq.refl (XV pos c q ln lost)) (lN (tg:=[([],(XV pos c q ln lost))]) I2 [0,1,2,3] ((tv B N c q pos ln lost n) _ _ · n Nat.le.refl))))))))
inductive We where
 | l1 (x3 x4:List Bool) (x5:Bool) (AU A8:Int) (o1:List Int)
def So (n:Nat) (self:We -> Option (Bool×(List Int))) (c:AB) (q:AA) (pos:List Int) (ln:Nat) (lost:List Int) (x3 x4:List Bool) (x5:Bool) (AU A8:Int) (o1:List Int):Option (Bool×(List Int)):=
 bif (decide (A8<AU)) then
  bif (!x5) then
   if AI (A8+1) then
    self (.l1 x3 x4 x5 AU (A8+1) o1)
   else none
  else
   if 0<=A8/\ A8<(x3.length:Int) then
    bif (!(x3.getD ((A8).toNat) false)) then
     if AI (A8+1) then
      self (.l1 x3 x4 x5 AU (A8+1) o1)
     else none
    else
     if 0<=A8/\ A8<(x4.length:Int) then
      bif (x4.getD ((A8).toNat) false) then
       if AI (A8+1) then
        self (.l1 x3 x4 x5 AU (A8+1) o1)
       else none
      else
       (MC n q.nbrs x3 x4 A8).bind fun y1=>
        bif y1.1 then
         (GD n A8 c q pos ln o1).bind fun y2=>
          if AI (A8+1) then
           self (.l1 x3 x4 x5 AU (A8+1) y2)
          else none
        else
         if AI (A8+1) then
          self (.l1 x3 x4 x5 AU (A8+1) o1)
         else none
     else none
   else none
 else
  some (true,o1)
def zBP (n:Nat) (self:We -> Option (Bool×(List Int))) (c:AB) (q:AA) (pos:List Int) (ln:Nat) (lost:List Int):Option (Bool×(List Int)):=
 (Mj n c q pos ln lost).bind fun y1=>
  self (.l1 y1.1 y1.2.1 y1.2.2.1 (y1.1.length:Int) 0 y1.2.2.2)
def Lp (c:AB) (q:AA) (pos:List Int) (ln:Nat) (lost:List Int):Nat -> We -> Option (Bool×(List Int))
 | 0,_=>none
 | n+1,.l1 x3 x4 x5 AU A8 o1=>So n (Lp c q pos ln lost n) c q pos ln lost x3 x4 x5 AU A8 o1
def Wf (n:Nat) (c:AB) (q:AA) (pos:List Int) (ln:Nat) (lost:List Int):Option (Bool×(List Int)):=zBP n (Lp c q pos ln lost n) c q pos ln lost
def zBQ (n B:Nat) (N:Yd 2) (c:AB) (q:AA) (pos:List Int) (ln:Nat) (lost:List Int) (r:Bool×(List Int)):We -> Prop
 | .l1 x3 x4 x5 AU A8 o1=>∀ m0:Nat,n<=m0 -> TW B N (FQ Tryz.f75 2 (.bool r.1) [some (.cells (AH c++AD q++[.ints pos,.msl 1 1 0 ln])),some (.ints r.2)]) (Ak m0 (Au (AZ Tryz.f75) 0 [])) ⟨AM 52 [(0,.ref 0 0),(3,.bools x3),(4,.bools x4),(5,.bool x5),(16,.i AU),(17,.i A8)],[some (.cells (AH c++AD q++[.ints pos,.msl 1 1 0 ln])),some (.ints o1)]⟩
theorem zBR (B:Nat) (N:Yd 2) (c:AB) (q:AA) (pos:List Int) (ln:Nat) (lost:List Int):Al (Lp c q pos ln lost) (zBQ · B N c q pos ln lost):=ia (fun _=>rfl) fun n AG pt r h=>by
 cases pt
 case l1 x3 x4 x5 AU A8 o1=>
  intro m0 AC;refine rd AC fun m0 AC=>?_
  revert r;apply gO;exact bi 18 (bi 21 (gw 51 (lG AE [0,1] (AG _ _ · m0 AC))) (gi (bi 27 (gw 51 (lG AE [0,1] (AG _ _ · m0 AC))) (gi (bi 33 (gw 51 (lG AE [0,1] (AG _ _ · m0 AC))) (cf oO [some (.cells (AH c++AD q++[.ints pos,.msl 1 1 0 ln])),some (.ints o1)] fun _=>bi 45 (ce LF [0,1] [some (.cells (AH c++AD q++[.ints pos,.msl 1 1 0 ln])),some (.ints o1)] fun _=>gw 51 (lG AE [0,1] (AG _ _ · m0 AC))) (gw 51 (lG AE [0,1] (AG _ _ · m0 AC))))))))) (lE AE [2] [0,1])
theorem zBO {n:Nat} {c:AB} {q:AA} {pos:List Int} {ln:Nat} {lost:List Int} {r:Bool×(List Int)} (h:Wf n c q pos ln lost=some r):EQ 75 [.ref 0 0] [some (.cells (AH c++AD q++[.ints pos,.msl 1 1 0 ln])),some (.ints lost)] (.bool r.1) [some (.cells (AH c++AD q++[.ints pos,.msl 1 1 0 ln])),some (.ints r.2)] false:=by
 refine ot Tryz.func75 fun B N=>?_
 revert r;apply gO;exact ce gZ [0,1] [some (.cells (AH c++AD q++[.ints pos,.msl 1 1 0 ln])),some (.ints lost)] fun _=>lN AE [0,1] ((zBR B N c q pos ln lost n) _ _ · n Nat.le.refl)
inductive LJ where
 | l1 (x3 x4:List Bool) (x20 x21:Int) (o1:List Int)
 | l2 (x3 x4:List Bool) (x8 x20 x21:Int) (BB:List Int) (B8 A7:Int) (o1:List Int)
 | l3 (x3 x4:List Bool) (x7:Nat) (x8 x20 x21:Int) (BB:List Int) (B8 A7:Int) (o1 o2:List Int)
 | l4 (x3 x4:List Bool) (x7:Nat) (x8 x20 x21:Int) (Gm:Nat) (Gl Ag:Int) (o1 o2:List Int)
def RP (n:Nat) (self:LJ -> Option (Bool×(List Int))) (c:AB) (q:AA) (pos:List Int) (ln:Nat) (lost:List Int) (x3 x4:List Bool) (x20 x21:Int) (o1:List Int):Option (Bool×(List Int)):=
 bif (decide (x21<x20)) then
  if 0<=x21/\ x21<(x4.length:Int) then
   bif (!(x4.getD ((x21).toNat) false)) then
    if AI (x21+1) then
     self (.l1 x3 x4 x20 (x21+1) o1)
    else none
   else
    if 0<=x21/\ x21<(q.nbrs.length:Int) then
     self (.l2 x3 x4 0 x20 x21 (q.nbrs.getD ((x21).toNat) []) (((q.nbrs.getD ((x21).toNat) []).length:Nat):Int) 0 o1)
    else none
  else none
 else
  some (true,o1)
def RO (n:Nat) (self:LJ -> Option (Bool×(List Int))) (c:AB) (q:AA) (pos:List Int) (ln:Nat) (lost:List Int) (x3 x4:List Bool) (x8 x20 x21:Int) (BB:List Int) (B8 A7:Int) (o1:List Int):Option (Bool×(List Int)):=
 bif (decide (A7<B8)) then
  if (0<=A7/\ A7<(BB.length:Int))/\ (0<=(BB.getD ((A7).toNat) 0)/\ (BB.getD ((A7).toNat) 0)<(x3.length:Int)) then
   bif (x3.getD ((BB.getD ((A7).toNat) 0).toNat) false) then
    if ((0=0/\ 1=([BB.getD ((A7).toNat) 0]:List Int).length)/\ 0<([BB.getD ((A7).toNat) 0]:List Int).length/\ ([BB.getD ((A7).toNat) 0]:List Int).length<=BE)/\ (0<=(BB.getD ((A7).toNat) 0)/\ (BB.getD ((A7).toNat) 0)<(x4.length:Int)) then
     bif (x4.getD ((BB.getD ((A7).toNat) 0).toNat) false) then
      if AI (x8+1)/\ AI (A7+1) then
       self (.l3 x3 x4 (([BB.getD ((A7).toNat) 0]:List Int).length) (x8+1) x20 x21 BB B8 (A7+1) o1 ([BB.getD ((A7).toNat) 0]:List Int))
      else none
     else
      if AI (A7+1) then
       self (.l3 x3 x4 (([BB.getD ((A7).toNat) 0]:List Int).length) x8 x20 x21 BB B8 (A7+1) o1 ([BB.getD ((A7).toNat) 0]:List Int))
      else none
    else none
   else
    if 0<=(BB.getD ((A7).toNat) 0)/\ (BB.getD ((A7).toNat) 0)<(x4.length:Int) then
     bif (x4.getD ((BB.getD ((A7).toNat) 0).toNat) false) then
      if AI (x8+1)/\ AI (A7+1) then
       self (.l2 x3 x4 (x8+1) x20 x21 BB B8 (A7+1) o1)
      else none
     else
      if AI (A7+1) then
       self (.l2 x3 x4 x8 x20 x21 BB B8 (A7+1) o1)
      else none
    else none
  else none
 else
  some (false,o1)
def Mo (n:Nat) (self:LJ -> Option (Bool×(List Int))) (c:AB) (q:AA) (pos:List Int) (ln:Nat) (lost:List Int) (x3 x4:List Bool) (x7:Nat) (x8 x20 x21:Int) (BB:List Int) (B8 A7:Int) (o1 o2:List Int):Option (Bool×(List Int)):=
 bif (decide (A7<B8)) then
  if (0<=A7/\ A7<(BB.length:Int))/\ (0<=(BB.getD ((A7).toNat) 0)/\ (BB.getD ((A7).toNat) 0)<(x3.length:Int)) then
   bif (x3.getD ((BB.getD ((A7).toNat) 0).toNat) false) then
    if ((0=0/\ 1=([BB.getD ((A7).toNat) 0]:List Int).length)/\ (0=0/\ x7=o2.length)/\ o2.length+([BB.getD ((A7).toNat) 0]:List Int).length<=BE)/\ (0<=(BB.getD ((A7).toNat) 0)/\ (BB.getD ((A7).toNat) 0)<(x4.length:Int)) then
     bif (x4.getD ((BB.getD ((A7).toNat) 0).toNat) false) then
      if AI (x8+1)/\ AI (A7+1) then
       self (.l3 x3 x4 (o2.length+([BB.getD ((A7).toNat) 0]:List Int).length) (x8+1) x20 x21 BB B8 (A7+1) o1 (o2++([BB.getD ((A7).toNat) 0]:List Int)))
      else none
     else
      if AI (A7+1) then
       self (.l3 x3 x4 (o2.length+([BB.getD ((A7).toNat) 0]:List Int).length) x8 x20 x21 BB B8 (A7+1) o1 (o2++([BB.getD ((A7).toNat) 0]:List Int)))
      else none
    else none
   else
    if 0<=(BB.getD ((A7).toNat) 0)/\ (BB.getD ((A7).toNat) 0)<(x4.length:Int) then
     bif (x4.getD ((BB.getD ((A7).toNat) 0).toNat) false) then
      if AI (x8+1)/\ AI (A7+1) then
       self (.l3 x3 x4 x7 (x8+1) x20 x21 BB B8 (A7+1) o1 o2)
      else none
     else
      if AI (A7+1) then
       self (.l3 x3 x4 x7 x8 x20 x21 BB B8 (A7+1) o1 o2)
      else none
    else none
  else none
 else
  bif (decide ((x7:Int)<2)) then
   some (false,o1)
  else
   bif (decide (x8>2)) then
    some (false,o1)
   else
    self (.l4 x3 x4 x7 x8 x20 x21 x7 (x7:Int) 0 o1 o2)
def RN (n:Nat) (self:LJ -> Option (Bool×(List Int))) (c:AB) (q:AA) (pos:List Int) (ln:Nat) (lost:List Int) (x3 x4:List Bool) (x7:Nat) (x8 x20 x21:Int) (Gm:Nat) (Gl Ag:Int) (o1 o2:List Int):Option (Bool×(List Int)):=
 bif (decide (Ag<Gl)) then
  if (0<=Ag/\ Ag<(Gm:Int))/\ 0+((Ag).toNat)<o2.length then
   bif ((x7:Int)==2) then
    (GD n (o2.getD (0+((Ag).toNat)) 0) c q pos ln o1).bind fun y1=>
     bif (x8==2) then
      if 0<=(o2.getD (0+((Ag).toNat)) 0)/\ (o2.getD (0+((Ag).toNat)) 0)<(x4.length:Int) then
       bif (!(x4.getD ((o2.getD (0+((Ag).toNat)) 0).toNat) false)) then
        (DP n (o2.getD (0+((Ag).toNat)) 0) c.set c q pos ln y1).bind fun y2=>
         if AI (Ag+1) then
          self (.l4 x3 x4 x7 x8 x20 x21 Gm Gl (Ag+1) y2 o2)
         else none
       else
        if AI (Ag+1) then
         self (.l4 x3 x4 x7 x8 x20 x21 Gm Gl (Ag+1) y1 o2)
        else none
      else none
     else
      if AI (Ag+1) then
       self (.l4 x3 x4 x7 x8 x20 x21 Gm Gl (Ag+1) y1 o2)
      else none
   else
    bif (x8==2) then
     if 0<=(o2.getD (0+((Ag).toNat)) 0)/\ (o2.getD (0+((Ag).toNat)) 0)<(x4.length:Int) then
      bif (!(x4.getD ((o2.getD (0+((Ag).toNat)) 0).toNat) false)) then
       (DP n (o2.getD (0+((Ag).toNat)) 0) c.set c q pos ln o1).bind fun y1=>
        if AI (Ag+1) then
         self (.l4 x3 x4 x7 x8 x20 x21 Gm Gl (Ag+1) y1 o2)
        else none
      else
       if AI (Ag+1) then
        self (.l4 x3 x4 x7 x8 x20 x21 Gm Gl (Ag+1) o1 o2)
       else none
     else none
    else
     if AI (Ag+1) then
      self (.l4 x3 x4 x7 x8 x20 x21 Gm Gl (Ag+1) o1 o2)
     else none
  else none
 else
  if AI (x21+1) then
   self (.l1 x3 x4 x20 (x21+1) o1)
  else none
def uT (n:Nat) (self:LJ -> Option (Bool×(List Int))) (c:AB) (q:AA) (pos:List Int) (ln:Nat) (lost:List Int):Option (Bool×(List Int)):=
 (Mj n c q pos ln lost).bind fun y1=>
  self (.l1 y1.1 y1.2.1 (y1.2.1.length:Int) 0 y1.2.2.2)
def CV (c:AB) (q:AA) (pos:List Int) (ln:Nat) (lost:List Int):Nat -> LJ -> Option (Bool×(List Int))
 | 0,_=>none
 | n+1,.l1 x3 x4 x20 x21 o1=>RP n (CV c q pos ln lost n) c q pos ln lost x3 x4 x20 x21 o1
 | n+1,.l2 x3 x4 x8 x20 x21 BB B8 A7 o1=>RO n (CV c q pos ln lost n) c q pos ln lost x3 x4 x8 x20 x21 BB B8 A7 o1
 | n+1,.l3 x3 x4 x7 x8 x20 x21 BB B8 A7 o1 o2=>Mo n (CV c q pos ln lost n) c q pos ln lost x3 x4 x7 x8 x20 x21 BB B8 A7 o1 o2
 | n+1,.l4 x3 x4 x7 x8 x20 x21 Gm Gl Ag o1 o2=>RN n (CV c q pos ln lost n) c q pos ln lost x3 x4 x7 x8 x20 x21 Gm Gl Ag o1 o2
def U3 (n:Nat) (c:AB) (q:AA) (pos:List Int) (ln:Nat) (lost:List Int):Option (Bool×(List Int)):=uT n (CV c q pos ln lost n) c q pos ln lost
def uU (n B:Nat) (N:Yd 2) (c:AB) (q:AA) (pos:List Int) (ln:Nat) (lost:List Int) (r:Bool×(List Int)):LJ -> Prop
 | .l1 x3 x4 x20 x21 o1=>∀ m0:Nat,n<=m0 -> TW B N (FQ Tryz.f76 2 (.bool r.1) [some (.cells (AH c++AD q++[.ints pos,.msl 1 1 0 ln])),some (.ints r.2)]) (Ak m0 (Au (AZ Tryz.f76) 0 [])) ⟨AM 95 [(0,.ref 0 0),(3,.bools x3),(4,.bools x4),(20,.i x20),(21,.i x21)],[some (.cells (AH c++AD q++[.ints pos,.msl 1 1 0 ln])),some (.ints o1)]⟩
 | .l2 x3 x4 x8 x20 x21 BB B8 A7 o1=>∀ m0 m1:Nat,n<=m0 -> n<=m1 -> TW B N (FQ Tryz.f76 2 (.bool r.1) [some (.cells (AH c++AD q++[.ints pos,.msl 1 1 0 ln])),some (.ints r.2)]) (Ak m1 (Au (AZ Tryz.f76) 2 [m0])) ⟨AM 95 [(0,.ref 0 0),(3,.bools x3),(4,.bools x4),(7,.nils),(8,.i x8),(20,.i x20),(21,.i x21),(36,.ints BB),(37,.i B8),(38,.i A7)],[some (.cells (AH c++AD q++[.ints pos,.msl 1 1 0 ln])),some (.ints o1)]⟩
 | .l3 x3 x4 x7 x8 x20 x21 BB B8 A7 o1 o2=>∀ m0 m1:Nat,n<=m0 -> n<=m1 -> TW B N (FQ Tryz.f76 2 (.bool r.1) [some (.cells (AH c++AD q++[.ints pos,.msl 1 1 0 ln])),some (.ints r.2)]) (Ak m1 (Au (AZ Tryz.f76) 2 [m0])) ⟨AM 95 [(0,.ref 0 0),(3,.bools x3),(4,.bools x4),(7,.msl 2 1 0 x7),(8,.i x8),(20,.i x20),(21,.i x21),(36,.ints BB),(37,.i B8),(38,.i A7)],[some (.cells (AH c++AD q++[.ints pos,.msl 1 1 0 ln])),some (.ints o1),some (.ints o2)]⟩
 | .l4 x3 x4 x7 x8 x20 x21 Gm Gl Ag o1 o2=>∀ m0 m1:Nat,n<=m0 -> n<=m1 -> TW B N (FQ Tryz.f76 2 (.bool r.1) [some (.cells (AH c++AD q++[.ints pos,.msl 1 1 0 ln])),some (.ints r.2)]) (Ak m1 (Au (AZ Tryz.f76) 4 [m0])) ⟨AM 95 [(0,.ref 0 0),(3,.bools x3),(4,.bools x4),(7,.msl 2 1 0 x7),(8,.i x8),(20,.i x20),(21,.i x21),(64,.msl 2 1 0 Gm),(65,.i Gl),(66,.i Ag)],[some (.cells (AH c++AD q++[.ints pos,.msl 1 1 0 ln])),some (.ints o1),some (.ints o2)]⟩
theorem uV (B:Nat) (N:Yd 2) (c:AB) (q:AA) (pos:List Int) (ln:Nat) (lost:List Int):Al (CV c q pos ln lost) (uU · B N c q pos ln lost):=ia (fun _=>rfl) fun n AG pt r h=>by
 cases pt
 case l1 x3 x4 x20 x21 o1=>
  intro m0 AC;refine rd AC fun m0 AC=>?_
  revert r;apply gO;exact bi 22 (gi (bi 28 (gw 94 (lG AE [0,1] (AG _ _ · m0 AC))) (gi (lN AE [0,1] (AG _ _ · m0 n AC Nat.le.refl))))) (lE AE [2] [0,1])
 case l2 x3 x4 x8 x20 x21 BB B8 A7 o1=>
  intro m0 m1 AC Am;have AC:=zDW AC;refine rd Am fun m1 Am=>?_
  revert r;apply gO;exact bi 39 (gc (gi (gi (bi 45 (gc (gi (gi (bi 53 (gc (gw 55 (gw 56 (lG AE [0,1,3] (AG _ _ · m0 m1 AC Am))))) (gw 56 (lG AE [0,1,3] (AG _ _ · m0 m1 AC Am))))))) (gi (bi 53 (gc (gw 55 (gw 56 (lG AE [0,1] (AG _ _ · m0 m1 AC Am))))) (gw 56 (lG AE [0,1] (AG _ _ · m0 m1 AC Am))))))))) (lE AE [2] [0,1])
 case l3 x3 x4 x7 x8 x20 x21 BB B8 A7 o1 o2=>
  intro m0 m1 AC Am;have AC:=zDW AC;refine rd Am fun m1 Am=>?_
  revert r;apply gO;exact bi 39 (gc (gi (gi (bi 45 (gc (gi (gi (bi 53 (gc (gw 55 (gw 56 (lG AE [0,1,4] (AG _ _ · m0 m1 AC Am))))) (gw 56 (lG AE [0,1,4] (AG _ _ · m0 m1 AC Am))))))) (gi (bi 53 (gc (gw 55 (gw 56 (lG AE [0,1,2] (AG _ _ · m0 m1 AC Am))))) (gw 56 (lG AE [0,1,2] (AG _ _ · m0 m1 AC Am))))))))) (bi 59 (lE AE [2] [0,1]) (bi 62 (lE AE [2] [0,1]) (lN AE [0,1,2] (AG _ _ · m0 n AC Nat.le.refl))))
 case l4 x3 x4 x7 x8 x20 x21 Gm Gl Ag o1 o2=>
  intro m0 m1 AC Am;have AC:=zDW AC;refine rd Am fun m1 Am=>?_
  revert r;apply gO;exact bi 67 (gc (gi (gi (bi 72 (ce LF [0,1] [some (.cells (AH c++AD q++[.ints pos,.msl 1 1 0 ln])),some (.ints o1),some (.ints o2)] fun y1=>bi 77 (gi (bi 83 (ce Fs [0,1] [some (.cells (AH c++AD q++[.ints pos,.msl 1 1 0 ln])),some (.ints y1),some (.ints o2)] fun _=>gw 93 (lG AE [0,1,2] (AG _ _ · m0 m1 AC Am))) (gw 93 (lG AE [0,1,2] (AG _ _ · m0 m1 AC Am))))) (gw 93 (lG AE [0,1,2] (AG _ _ · m0 m1 AC Am)))) (bi 77 (gi (bi 83 (ce Fs [0,1] [some (.cells (AH c++AD q++[.ints pos,.msl 1 1 0 ln])),some (.ints o1),some (.ints o2)] fun _=>gw 93 (lG AE [0,1,2] (AG _ _ · m0 m1 AC Am))) (gw 93 (lG AE [0,1,2] (AG _ _ · m0 m1 AC Am))))) (gw 93 (lG AE [0,1,2] (AG _ _ · m0 m1 AC Am)))))))) (gw 94 (lG AE [0,1] (AG _ _ · m0 AC)))
theorem uS {n:Nat} {c:AB} {q:AA} {pos:List Int} {ln:Nat} {lost:List Int} {r:Bool×(List Int)} (h:U3 n c q pos ln lost=some r):EQ 76 [.ref 0 0] [some (.cells (AH c++AD q++[.ints pos,.msl 1 1 0 ln])),some (.ints lost)] (.bool r.1) [some (.cells (AH c++AD q++[.ints pos,.msl 1 1 0 ln])),some (.ints r.2)] false:=by
 refine ot Tryz.func76 fun B N=>?_
 revert r;apply gO;exact ce gZ [0,1] [some (.cells (AH c++AD q++[.ints pos,.msl 1 1 0 ln])),some (.ints lost)] fun _=>lN AE [0,1] ((uV B N c q pos ln lost n) _ _ · n Nat.le.refl)
end Go.Proofs.YtgkhhfnhacibcaaGreatDoor
