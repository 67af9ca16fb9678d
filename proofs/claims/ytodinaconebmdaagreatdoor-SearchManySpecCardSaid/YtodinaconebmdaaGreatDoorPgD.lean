/- Part 4 of 8 of what the proofs of these laws stand on. -/
import Derived.Test.YtodinaconebmdaaGreatDoorPgC
import Derived.Laws.BitsLemmas
import Derived.Shelf.Sort.Plain
set_option linter.all false
namespace Go.Proofs.YtodinaconebmdaaGreatDoor
open Go.RowKit
section
set_option maxRecDepth 100000
set_option maxHeartbeats 40000000
def zEN:Ae (A0 Tryz.f128 1) [] (List.range 18) []:=Z0
def zCs:BF:=λi=>match i with
 | 1=>.ord [] (List.range 18) []
 | _=>.no
def zAh (n:Nat)(G a:Int)(c:AC)(q:AA)(pos:Ξ)(ln:Nat)(lost:Ξ):W0:= if (0<=G/\ G<(q.va.length:Int))/\ (0<=a/\ a<(q.va.length:Int))/\ AG ((q.va.getD G.toNat 0)-(q.va.getD a.toNat 0))/\ AG (0-((q.va.getD G.toNat 0)-(q.va.getD a.toNat 0))) then some ((decide ((if (0-((q.va.getD G.toNat 0)-(q.va.getD a.toNat 0)))>((q.va.getD G.toNat 0)-(q.va.getD a.toNat 0)) then (0-((q.va.getD G.toNat 0)-(q.va.getD a.toNat 0))) else ((q.va.getD G.toNat 0)-(q.va.getD a.toNat 0)))>=c.lo)),lost) else none
def fq (n:Nat)(G a:Int)(c:AC)(q:AA)(pos:Ξ)(ln:Nat)(lost:Ξ):W0:=zAh n G a c q pos ln lost
variable {r:Bool×Ξ}{lost pos:Ξ}{ln n:Nat}{q:AA}{c:AC}{G a:Int}
def zPH (h:fq n G a c q pos ln lost=some r):EQ 128 [.i G,.i a,.ref 0 0] [oC [.ref 1 0],oW c q pos 2 ln,oI lost] (.bool r.1) [oC [.ref 1 0],oW c q pos 2 ln,oI r.2] false:=by
 refine ot Tryz.func128 λB N=>?_
 revert r;apply gO;exact jg zEN (gc (gi (gc (gi (gc (gw 23 (gw 26 (lE zCs [5] [0,1,2]))))))))
def zD1:Ae (A0 Tryz.f129 1) [] (List.range 6) []:=Z0
def VU:BF:=λi=>match i with
 | 1=>.ord [] (List.range 6) []
 | _=>.no
def vn (n:Nat)(G a:Int)(c:AC)(q:AA)(pos:Ξ)(ln:Nat)(lost:Ξ):W0:= if (0<=G/\ G<=(IntKind.i64.bits:Int))/\ (0<=a/\ a<=(IntKind.i64.bits:Int)) then bif ((bits .and .i64 (IntKind.i64.wrap (1*2 ^ (G).toNat)) c.set)==0) then bif ((bits .and .i64 (IntKind.i64.wrap (1*2 ^ (a).toNat)) c.set)==0) then some (true,lost) else some (((bits .and .i64 (IntKind.i64.wrap (1*2 ^ (G).toNat)) c.other)==0),lost) else bif ((bits .and .i64 (IntKind.i64.wrap (1*2 ^ (a).toNat)) c.other)==0) then bif ((bits .and .i64 (IntKind.i64.wrap (1*2 ^ (a).toNat)) c.set)==0) then some (true,lost) else some (((bits .and .i64 (IntKind.i64.wrap (1*2 ^ (G).toNat)) c.other)==0),lost) else some (false,lost) else none
def cF (n:Nat)(G a:Int)(c:AC)(q:AA)(pos:Ξ)(ln:Nat)(lost:Ξ):W0:=vn n G a c q pos ln lost
def zH7 (h:cF n G a c q pos ln lost=some r):EQ 129 [.i G,.i a,.ref 0 0] [oC [.ref 1 0],oW c q pos 2 ln,oI lost] (.bool r.1) [oC [.ref 1 0],oW c q pos 2 ln,oI r.2] false:=by
 refine ot Tryz.func129 λB N=>?_
 revert r;apply gO;exact jg zD1 (gc (gi (gi (bi 19 (bi 38 (lE VU [5] [0,1,2]) (lE VU [5] [0,1,2])) (bi 28 (bi 38 (lE VU [5] [0,1,2]) (lE VU [5] [0,1,2])) (lE VU [5] [0,1,2]))))))
def zDz:Ae (A0 Tryz.f127 1) [] (List.range 16) []:=Z0
def zDx:Ae (A0 Tryz.f127 2) [([0,1,2,3,4,5,6,7,8,9,10,11,12,13],14)] [15] [16]:=Z0
def zDw:Ae (A0 Tryz.f127 9) [] [0,1,2,3] [4]:=Z0
def zDy:Ae (A0 Tryz.f127 10) [] [0,1,2,3] [4]:=Z0
def Nl:BF:=λi=>match i with
 | 1=>.ord [] (List.range 16) []
 | 2=>.ord [([0,1,2,3,4,5,6,7,8,9,10,11,12,13],14)] [15] [16]
 | 9=>.ord [] [0,1,2,3] [4]
 | 10=>.ord [] [0,1,2,3] [4]
 | _=>.no
def zLP (c:AC)(q:AA)(pos:Ξ)(ln:Nat)(lost:Ξ):DH:=[oC [.ref 1 0],oW c q pos 2 ln,oI lost,oC [.fn 128 1 (L1 [.ref 0 0])],oC [.i (pos.getD ((c.ce.getD 1 0).toNat) 0)],oC [.i 0],oC [.i 0]]
def zLO (c:AC)(q:AA)(pos:Ξ)(ln:Nat)(lost:Ξ):DH:=[oC [.ref 1 0],oW c q pos 2 ln,oI lost,oC [.fn 128 1 (L1 [.ref 0 0])],oC [.i (pos.getD ((c.ce.getD 1 0).toNat) 0)],oC [.i 0],oC [.i 0],some (.iter ((BY (pos.getD ((c.ce.getD 0 0).toNat) 0)).map Br))]
def zLN (c:AC)(q:AA)(pos:Ξ)(ln:Nat)(a:Ξ)(b d:Int):DH:=[oC [.ref 1 0],oW c q pos 2 ln,oI a,oC [.fn 128 1 (L1 [.ref 0 0])],oC [.i (pos.getD ((c.ce.getD 1 0).toNat) 0)],oC [.i b],oC [.i d],none]
def zLM (c:AC)(q:AA)(pos:Ξ)(ln:Nat)(x:Ξ)(b a:Int):DH:=[oC [.ref 1 0],oW c q pos 2 ln,oI x,oC [.fn 128 1 (L1 [.ref 0 0])],oC [.i (pos.getD ((c.ce.getD 1 0).toNat) 0)],oC [.i b],oC [.i a],none]
def xb (c:AC)(q:AA)(pos:Ξ)(ln:Nat)(S:Ξ)(T U K:Int):DH:=[oC [.ref 1 0],oW c q pos 2 ln,oI S,oC [.fn 128 1 (L1 [.ref 0 0])],oC [.i (pos.getD ((c.ce.getD 1 0).toNat) 0)],oC [.i T],oC [.i U],none,oC [.i K]]
def zLL (c:AC)(q:AA)(pos:Ξ)(ln:Nat)(S:Ξ)(T U K:Int):DH:=[oC [.ref 1 0],oW c q pos 2 ln,oI S,oC [.fn 128 1 (L1 [.ref 0 0])],oC [.i (pos.getD ((c.ce.getD 1 0).toNat) 0)],oC [.i T],oC [.i U],none,oC [.i K],some (.iter ((BY (pos.getD ((c.ce.getD 1 0).toNat) 0)).map Br))]
def xa (c:AC)(q:AA)(pos:Ξ)(ln:Nat)(o:Ξ)(J K a:Int):DH:=[oC [.ref 1 0],oW c q pos 2 ln,oI o,oC [.fn 128 1 (L1 [.ref 0 0])],oC [.i (pos.getD ((c.ce.getD 1 0).toNat) 0)],oC [.i J],oC [.i K],none,oC [.i a],none]
inductive Mc where
 | s0 (EE:Ξ) (Dn Dm:Int)
def vP (c:AC)(q:AA)(pos:Ξ)(ln:Nat)(K:Int):Mc -> DH
 | .s0 o J a=>[oC [.ref 1 0],oW c q pos 2 ln,oI o,oC [.fn 128 1 (L1 [.ref 0 0])],oC [.i (pos.getD ((c.ce.getD 1 0).toNat) 0)],oC [.i J],oC [.i a],none,oC [.i K],none]
def bf (n:Nat)(c:AC)(q:AA)(pos:Ξ)(ln:Nat)(K m:Int)(o:Ξ)(J a:Int):Option Mc:= (fq n K m c q pos ln o).bind λx=> bif x.1 then if (0<=K/\ K<=(IntKind.i64.bits:Int))/\ (0<=m/\ m<=(IntKind.i64.bits:Int)) then some (.s0 x.2 (bits .or .i64 J (IntKind.i64.wrap (1*2 ^ (K).toNat))) (bits .or .i64 a (IntKind.i64.wrap (1*2 ^ (m).toNat)))) else none else some (.s0 x.2 J a)
def vO (n:Nat)(c:AC)(q:AA)(pos:Ξ)(ln:Nat)(K m:Int):Mc -> Option Mc
 | .s0 o J a=>bf n c q pos ln K m o J a
def bg (n:Nat)(c:AC)(q:AA)(pos:Ξ)(ln:Nat)(K m:Int)(s:Mc):Option Mc:=vO n c q pos ln K m s
def zHa (n:Nat)(c:AC)(q:AA)(pos:Ξ)(ln:Nat)(K:Int)(l B:Nat)(N:Yd 10)(m:Int)(s:Mc)(r:Mc)(h:bg n c q pos ln K m s=some r):TA l B N (Cx 10 [] 0 (vP c q pos ln K r)) Tryz.f127 45 ⟨AH 69 [(3,.ref 3 0),(9,.ref 5 0),(10,.ref 6 0),(11,.ref 8 0),(45,.it 9),(46,.i m)],vP c q pos ln K s⟩:=by
 cases s with
 | s0 o J a=>
  replace h:bf n c q pos ln K m o J a=some r:=h;unfold bf at h;refine ag Nl [0,1,2,3,4,5,6,7,8,9] H0 (AH 69 [(3,.ref 3 0),(9,.ref 5 0),(10,.ref 6 0),(11,.ref 8 0),(12,.i m)]) (xa c q pos ln o J a K) λN=>?_
  revert r;apply gO;exact ce zPH [0,1,2] (xa c q pos ln o J a K) λ_=>bi 50 (jg zDw (gc (gi (jt (jg zDy (gi (jt (lF λp=>rr Nl [0,1,2,3,4,5,6,7,8,9] rfl p)))))))) (lF λp=>rr Nl [0,1,2,3,4,5,6,7,8,9] rfl p)
inductive Md where
 | s0 (DA:Ξ) (C9 C8:Int)
def vQ (c:AC)(q:AA)(pos:Ξ)(ln:Nat):Md -> DH
 | .s0 S T U=>[oC [.ref 1 0],oW c q pos 2 ln,oI S,oC [.fn 128 1 (L1 [.ref 0 0])],oC [.i (pos.getD ((c.ce.getD 1 0).toNat) 0)],oC [.i T],oC [.i U],none]
def be (n:Nat)(c:AC)(q:AA)(pos:Ξ)(ln:Nat)(K:Int)(S:Ξ)(T U:Int):Option Md:=
 if 0<=(pos.getD ((c.ce.getD 1 0).toNat) 0)/\ (pos.getD ((c.ce.getD 1 0).toNat) 0)<9223372036854775808 then
  (CK (bg n c q pos ln K) (BY (pos.getD ((c.ce.getD 1 0).toNat) 0)) (.s0 S T U)).bind λy=>
   match y with
   | .s0 a L M=>
    some (.s0 a L M)
 else none
def vN (n:Nat)(c:AC)(q:AA)(pos:Ξ)(ln:Nat)(K:Int):Md -> Option Md
 | .s0 S T U=>be n c q pos ln K S T U
def bk (n:Nat)(c:AC)(q:AA)(pos:Ξ)(ln:Nat)(K:Int)(s:Md):Option Md:=vN n c q pos ln K s
def zHZ (n:Nat)(c:AC)(q:AA)(pos:Ξ)(ln:Nat)(l B:Nat)(N:Yd 8)(K:Int)(s:Md)(r:Md)(h:bk n c q pos ln K s=some r):TA l B N (Cx 8 [] 0 (vQ c q pos ln r)) Tryz.f127 42 ⟨AH 69 [(0,.ref 1 0),(3,.ref 3 0),(5,.i (c.ce.getD 0 0)),(6,.i (c.ce.getD 1 0)),(8,.ref 4 0),(9,.ref 5 0),(10,.ref 6 0),(42,.it 7),(43,.i K)],vQ c q pos ln s⟩:=by
 cases s with
 | s0 S T U=>
  replace h:be n c q pos ln K S T U=some r:=h;unfold be at h;refine ag Nl [0,1,2,3,4,5,6,7,8] (H0.t) (AH 69 [(3,.ref 3 0),(8,.ref 4 0),(9,.ref 5 0),(10,.ref 6 0),(11,.ref 8 0)]) (xb c q pos ln S T U K) λN=>?_
  revert r;apply gO
  exact gn λa=>jc (MB a (xb c q pos ln S T U K)) (cn λy b=>λp r h=>by
   refine gs Nl [0,1,2,3,4,5,6,7,8,9] p (HI (Pk Tryz.f127 42) 45 []) (AH 69 [(3,.ref 3 0),(9,.ref 5 0),(10,.ref 6 0),(11,.ref 8 0),(45,.it 9)]) (zLL c q pos ln S T U K) ?_;refine r0 9 45 #[46] Br 10 b (zHa n c q pos ln K) ?_;cases y with
   | s0 YZ YY YX=>
    dsimp only at h
    revert r;apply gO;exact lF λp=>rr Nl [0,1,2,3,4,5,6,7] rfl p)
def vM (n:Nat)(c:AC)(q:AA)(pos:Ξ)(ln:Nat)(lost:Ξ):W0:=
 if ((0:Int)<=0/\ 0<(c.ce.length:Int))/\ ((0:Int)<=1/\ 1<(c.ce.length:Int))/\ (0<=(c.ce.getD 0 0)/\ (c.ce.getD 0 0)<(pos.length:Int))/\ (0<=(c.ce.getD 1 0)/\ (c.ce.getD 1 0)<(pos.length:Int))/\ (0<=(pos.getD ((c.ce.getD 0 0).toNat) 0)/\ (pos.getD ((c.ce.getD 0 0).toNat) 0)<9223372036854775808) then
  (CK (bk n c q pos ln) (BY (pos.getD ((c.ce.getD 0 0).toNat) 0)) (.s0 lost 0 0)).bind λe=>
   match e with
   | .s0 a b d=>
    (D5 n (c.ce.getD 0 0) (bits .xor .i64 (-1) b) c q pos ln a).bind λx=>
     (D5 n (c.ce.getD 1 0) (bits .xor .i64 (-1) d) c q pos ln x).bind λy3=>
      some (true,y3)
 else none
def jp (n:Nat)(c:AC)(q:AA)(pos:Ξ)(ln:Nat)(lost:Ξ):W0:=vM n c q pos ln lost
def zHY (h:jp n c q pos ln lost=some r):EQ 127 [.ref 1 0,.fn 128 1 (L1 [.ref 0 0])] [oC [.ref 1 0],oW c q pos 2 ln,oI lost] (.bool r.1) [oC [.ref 1 0],oW c q pos 2 ln,oI r.2] false:=by
 refine ot Tryz.func127 λB N=>?_
 revert r;apply gO
 exact jg zDz (gc (gi (gc (gi (jg zDx (gc (gi (gc (gi (jt (gn λU=>jc (MB U (zLP c q pos ln lost)) (cn λe d=>λp r h=>by
  refine gs Nl [0,1,2,3,4,5,6,7] p (HI (Ac Tryz.f127) 42 []) (AH 69 [(0,.ref 1 0),(3,.ref 3 0),(5,.i (c.ce.getD 0 0)),(6,.i (c.ce.getD 1 0)),(8,.ref 4 0),(9,.ref 5 0),(10,.ref 6 0),(42,.it 7)]) (zLO c q pos ln lost) ?_;refine r0 7 42 #[43] Br 8 d (zHZ n c q pos ln) ?_;cases e with
  | s0 f b a=>
   dsimp only at h
   revert r;apply gO;exact ce G8 [1,2] (zLN c q pos ln f b a) λx=>ce G8 [1,2] (zLM c q pos ln x b a) λ_=>lE Nl [4] [0,1,2]))))))))))))
def zDv:Ae (A0 Tryz.f127 1) [] (List.range 16) []:=Z0
def zDt:Ae (A0 Tryz.f127 2) [([0,1,2,3,4,5,6,7,8,9,10,11,12,13],14)] [15] [16]:=Z0
def zDs:Ae (A0 Tryz.f127 9) [] [0,1,2,3] [4]:=Z0
def zDu:Ae (A0 Tryz.f127 10) [] [0,1,2,3] [4]:=Z0
def Nk:BF:=λi=>match i with
 | 1=>.ord [] (List.range 16) []
 | 2=>.ord [([0,1,2,3,4,5,6,7,8,9,10,11,12,13],14)] [15] [16]
 | 9=>.ord [] [0,1,2,3] [4]
 | 10=>.ord [] [0,1,2,3] [4]
 | _=>.no
def zLK (c:AC)(q:AA)(pos:Ξ)(ln:Nat)(lost:Ξ):DH:=[oC [.ref 1 0],oW c q pos 2 ln,oI lost,oC [.fn 129 1 (L1 [.ref 0 0])],oC [.i (pos.getD ((c.ce.getD 1 0).toNat) 0)],oC [.i 0],oC [.i 0]]
def zLJ (c:AC)(q:AA)(pos:Ξ)(ln:Nat)(lost:Ξ):DH:=[oC [.ref 1 0],oW c q pos 2 ln,oI lost,oC [.fn 129 1 (L1 [.ref 0 0])],oC [.i (pos.getD ((c.ce.getD 1 0).toNat) 0)],oC [.i 0],oC [.i 0],some (.iter ((BY (pos.getD ((c.ce.getD 0 0).toNat) 0)).map Br))]
def zLI (c:AC)(q:AA)(pos:Ξ)(ln:Nat)(a:Ξ)(b d:Int):DH:=[oC [.ref 1 0],oW c q pos 2 ln,oI a,oC [.fn 129 1 (L1 [.ref 0 0])],oC [.i (pos.getD ((c.ce.getD 1 0).toNat) 0)],oC [.i b],oC [.i d],none]
def zLH (c:AC)(q:AA)(pos:Ξ)(ln:Nat)(x:Ξ)(b a:Int):DH:=[oC [.ref 1 0],oW c q pos 2 ln,oI x,oC [.fn 129 1 (L1 [.ref 0 0])],oC [.i (pos.getD ((c.ce.getD 1 0).toNat) 0)],oC [.i b],oC [.i a],none]
def xZ (c:AC)(q:AA)(pos:Ξ)(ln:Nat)(S:Ξ)(T U K:Int):DH:=[oC [.ref 1 0],oW c q pos 2 ln,oI S,oC [.fn 129 1 (L1 [.ref 0 0])],oC [.i (pos.getD ((c.ce.getD 1 0).toNat) 0)],oC [.i T],oC [.i U],none,oC [.i K]]
def zLG (c:AC)(q:AA)(pos:Ξ)(ln:Nat)(S:Ξ)(T U K:Int):DH:=[oC [.ref 1 0],oW c q pos 2 ln,oI S,oC [.fn 129 1 (L1 [.ref 0 0])],oC [.i (pos.getD ((c.ce.getD 1 0).toNat) 0)],oC [.i T],oC [.i U],none,oC [.i K],some (.iter ((BY (pos.getD ((c.ce.getD 1 0).toNat) 0)).map Br))]
def xY (c:AC)(q:AA)(pos:Ξ)(ln:Nat)(o:Ξ)(J K a:Int):DH:=[oC [.ref 1 0],oW c q pos 2 ln,oI o,oC [.fn 129 1 (L1 [.ref 0 0])],oC [.i (pos.getD ((c.ce.getD 1 0).toNat) 0)],oC [.i J],oC [.i K],none,oC [.i a],none]
inductive Ma where
 | s0 (EE:Ξ) (Dn Dm:Int)
def vK (c:AC)(q:AA)(pos:Ξ)(ln:Nat)(K:Int):Ma -> DH
 | .s0 o J a=>[oC [.ref 1 0],oW c q pos 2 ln,oI o,oC [.fn 129 1 (L1 [.ref 0 0])],oC [.i (pos.getD ((c.ce.getD 1 0).toNat) 0)],oC [.i J],oC [.i a],none,oC [.i K],none]
def bZ (n:Nat)(c:AC)(q:AA)(pos:Ξ)(ln:Nat)(K m:Int)(o:Ξ)(J a:Int):Option Ma:= (cF n K m c q pos ln o).bind λx=> bif x.1 then if (0<=K/\ K<=(IntKind.i64.bits:Int))/\ (0<=m/\ m<=(IntKind.i64.bits:Int)) then some (.s0 x.2 (bits .or .i64 J (IntKind.i64.wrap (1*2 ^ (K).toNat))) (bits .or .i64 a (IntKind.i64.wrap (1*2 ^ (m).toNat)))) else none else some (.s0 x.2 J a)
def vJ (n:Nat)(c:AC)(q:AA)(pos:Ξ)(ln:Nat)(K m:Int):Ma -> Option Ma
 | .s0 o J a=>bZ n c q pos ln K m o J a
def ba (n:Nat)(c:AC)(q:AA)(pos:Ξ)(ln:Nat)(K m:Int)(s:Ma):Option Ma:=vJ n c q pos ln K m s
def zHX (n:Nat)(c:AC)(q:AA)(pos:Ξ)(ln:Nat)(K:Int)(l B:Nat)(N:Yd 10)(m:Int)(s:Ma)(r:Ma)(h:ba n c q pos ln K m s=some r):TA l B N (Cx 10 [] 0 (vK c q pos ln K r)) Tryz.f127 45 ⟨AH 69 [(3,.ref 3 0),(9,.ref 5 0),(10,.ref 6 0),(11,.ref 8 0),(45,.it 9),(46,.i m)],vK c q pos ln K s⟩:=by
 cases s with
 | s0 o J a=>
  replace h:bZ n c q pos ln K m o J a=some r:=h;unfold bZ at h;refine ag Nk [0,1,2,3,4,5,6,7,8,9] H0 (AH 69 [(3,.ref 3 0),(9,.ref 5 0),(10,.ref 6 0),(11,.ref 8 0),(12,.i m)]) (xY c q pos ln o J a K) λN=>?_
  revert r;apply gO;exact ce zH7 [0,1,2] (xY c q pos ln o J a K) λ_=>bi 50 (jg zDs (gc (gi (jt (jg zDu (gi (jt (lF λp=>rr Nk [0,1,2,3,4,5,6,7,8,9] rfl p)))))))) (lF λp=>rr Nk [0,1,2,3,4,5,6,7,8,9] rfl p)
inductive Mb where
 | s0 (DA:Ξ) (C9 C8:Int)
def vL (c:AC)(q:AA)(pos:Ξ)(ln:Nat):Mb -> DH
 | .s0 S T U=>[oC [.ref 1 0],oW c q pos 2 ln,oI S,oC [.fn 129 1 (L1 [.ref 0 0])],oC [.i (pos.getD ((c.ce.getD 1 0).toNat) 0)],oC [.i T],oC [.i U],none]
def bY (n:Nat)(c:AC)(q:AA)(pos:Ξ)(ln:Nat)(K:Int)(S:Ξ)(T U:Int):Option Mb:=
 if 0<=(pos.getD ((c.ce.getD 1 0).toNat) 0)/\ (pos.getD ((c.ce.getD 1 0).toNat) 0)<9223372036854775808 then
  (CK (ba n c q pos ln K) (BY (pos.getD ((c.ce.getD 1 0).toNat) 0)) (.s0 S T U)).bind λy=>
   match y with
   | .s0 a L M=>
    some (.s0 a L M)
 else none
def vI (n:Nat)(c:AC)(q:AA)(pos:Ξ)(ln:Nat)(K:Int):Mb -> Option Mb
 | .s0 S T U=>bY n c q pos ln K S T U
def bc (n:Nat)(c:AC)(q:AA)(pos:Ξ)(ln:Nat)(K:Int)(s:Mb):Option Mb:=vI n c q pos ln K s
def zHW (n:Nat)(c:AC)(q:AA)(pos:Ξ)(ln:Nat)(l B:Nat)(N:Yd 8)(K:Int)(s:Mb)(r:Mb)(h:bc n c q pos ln K s=some r):TA l B N (Cx 8 [] 0 (vL c q pos ln r)) Tryz.f127 42 ⟨AH 69 [(0,.ref 1 0),(3,.ref 3 0),(5,.i (c.ce.getD 0 0)),(6,.i (c.ce.getD 1 0)),(8,.ref 4 0),(9,.ref 5 0),(10,.ref 6 0),(42,.it 7),(43,.i K)],vL c q pos ln s⟩:=by
 cases s with
 | s0 S T U=>
  replace h:bY n c q pos ln K S T U=some r:=h;unfold bY at h;refine ag Nk [0,1,2,3,4,5,6,7,8] (H0.t) (AH 69 [(3,.ref 3 0),(8,.ref 4 0),(9,.ref 5 0),(10,.ref 6 0),(11,.ref 8 0)]) (xZ c q pos ln S T U K) λN=>?_
  revert r;apply gO
  exact gn λa=>jc (MB a (xZ c q pos ln S T U K)) (cn λy b=>λp r h=>by
   refine gs Nk [0,1,2,3,4,5,6,7,8,9] p (HI (Pk Tryz.f127 42) 45 []) (AH 69 [(3,.ref 3 0),(9,.ref 5 0),(10,.ref 6 0),(11,.ref 8 0),(45,.it 9)]) (zLG c q pos ln S T U K) ?_;refine r0 9 45 #[46] Br 10 b (zHX n c q pos ln K) ?_;cases y with
   | s0 YZ YY YX=>
    dsimp only at h
    revert r;apply gO;exact lF λp=>rr Nk [0,1,2,3,4,5,6,7] rfl p)
def vH (n:Nat)(c:AC)(q:AA)(pos:Ξ)(ln:Nat)(lost:Ξ):W0:=
 if ((0:Int)<=0/\ 0<(c.ce.length:Int))/\ ((0:Int)<=1/\ 1<(c.ce.length:Int))/\ (0<=(c.ce.getD 0 0)/\ (c.ce.getD 0 0)<(pos.length:Int))/\ (0<=(c.ce.getD 1 0)/\ (c.ce.getD 1 0)<(pos.length:Int))/\ (0<=(pos.getD ((c.ce.getD 0 0).toNat) 0)/\ (pos.getD ((c.ce.getD 0 0).toNat) 0)<9223372036854775808) then
  (CK (bc n c q pos ln) (BY (pos.getD ((c.ce.getD 0 0).toNat) 0)) (.s0 lost 0 0)).bind λe=>
   match e with
   | .s0 a b d=>
    (D5 n (c.ce.getD 0 0) (bits .xor .i64 (-1) b) c q pos ln a).bind λx=>
     (D5 n (c.ce.getD 1 0) (bits .xor .i64 (-1) d) c q pos ln x).bind λy3=>
      some (true,y3)
 else none
def jm (n:Nat)(c:AC)(q:AA)(pos:Ξ)(ln:Nat)(lost:Ξ):W0:=vH n c q pos ln lost
def zHV (h:jm n c q pos ln lost=some r):EQ 127 [.ref 1 0,.fn 129 1 (L1 [.ref 0 0])] [oC [.ref 1 0],oW c q pos 2 ln,oI lost] (.bool r.1) [oC [.ref 1 0],oW c q pos 2 ln,oI r.2] false:=by
 refine ot Tryz.func127 λB N=>?_
 revert r;apply gO
 exact jg zDv (gc (gi (gc (gi (jg zDt (gc (gi (gc (gi (jt (gn λU=>jc (MB U (zLK c q pos ln lost)) (cn λe d=>λp r h=>by
  refine gs Nk [0,1,2,3,4,5,6,7] p (HI (Ac Tryz.f127) 42 []) (AH 69 [(0,.ref 1 0),(3,.ref 3 0),(5,.i (c.ce.getD 0 0)),(6,.i (c.ce.getD 1 0)),(8,.ref 4 0),(9,.ref 5 0),(10,.ref 6 0),(42,.it 7)]) (zLJ c q pos ln lost) ?_;refine r0 7 42 #[43] Br 8 d (zHW n c q pos ln) ?_;cases e with
  | s0 f b a=>
   dsimp only at h
   revert r;apply gO;exact ce G8 [1,2] (zLI c q pos ln f b a) λx=>ce G8 [1,2] (zLH c q pos ln x b a) λ_=>lE Nk [4] [0,1,2]))))))))))))
def oa (n:Nat)(c:AC)(q:AA)(pos:Ξ)(ln:Nat)(lost:Ξ):W0:= (jp n c q pos ln lost).bind λe=> some (e.1,e.2)
def RS (n:Nat)(c:AC)(q:AA)(pos:Ξ)(ln:Nat)(lost:Ξ):W0:=oa n c q pos ln lost
def zPG (h:RS n c q pos ln lost=some r):EQ 111 [.ref 0 0] [oW c q pos 1 ln,oI lost] (.bool r.1) [oW c q pos 1 ln,oI r.2] false:=by
 unfold RS oa at h;refine ot Tryz.func111 λB N=>?_
 revert r;apply gO;exact ce zHY [2,0,1] [oW c q pos 1 ln,oI lost,oC [.ref 0 0]] λ_=>lE AD [2] [0,1]
def kC (n:Nat)(c:AC)(q:AA)(pos:Ξ)(ln:Nat)(lost:Ξ):W0:= (jm n c q pos ln lost).bind λe=> some (e.1,e.2)
def QF (n:Nat)(c:AC)(q:AA)(pos:Ξ)(ln:Nat)(lost:Ξ):W0:=kC n c q pos ln lost
def zH6 (h:QF n c q pos ln lost=some r):EQ 112 [.ref 0 0] [oW c q pos 1 ln,oI lost] (.bool r.1) [oW c q pos 1 ln,oI r.2] false:=by
 unfold QF kC at h;refine ot Tryz.func112 λB N=>?_
 revert r;apply gO;exact ce zHV [2,0,1] [oW c q pos 1 ln,oI lost,oC [.ref 0 0]] λ_=>lE AD [2] [0,1]
end
abbrev zQF:=@List.drop_zero
section
set_option maxRecDepth 100000
set_option maxHeartbeats 40000000
def zO0 (n:Nat)(s_:Ξ):Option Unit:= some ()
def zO2 (n:Nat)(G:Ξ):Option Unit:=zO0 n G
variable {n:Nat}
def zOz (G:Ξ){r:Unit}(h:zO2 n G=some r):EQ 124 [.ints G] [] (.fn 135 1 (L1 [.ref 0 0])) [oC [.ints G]] true:=by
 refine ot Tryz.func124 λB N=>?_
 revert r;apply gO;exact lE AD [2] [0]
inductive UZ where
 | l1 (x3:Int)
def UY (n:Nat)(self:UZ -> X6)(G:Ξ)(D:Int):X6:= bif (decide (D>=0)) then if 0<=D/\ D<(G.length:Int) then Option.map (λl=>(D,G.getD D.toNat 0)::l) (if AG (D-1) then self (.l1 (D-1)) else none) else none else some []
def oL (n:Nat)(self:UZ -> X6)(G:Ξ):X6:= if AG ((G.length:Int)-1) then self (.l1 ((G.length:Int)-1)) else none
def PD (G:Ξ):Nat -> UZ -> X6
 | 0,_=>none
 | n+1,.l1 D=>UY n (PD G n) G D
def back (n:Nat)(G:Ξ):X6:=oL n (PD G n) G
def oM (C:Dt Tryz.prog)(n:Nat)(G:Ξ)(r:List (Δ)):UZ -> Prop
 | .l1 D=>∀ m:Nat,n<=m -> ∀ i:Nat,i<=C.encs.length -> C.encs.drop i=r.map RB -> A5 Tryz.prog GG Fence.wide none 1 (C.Y GG 1 i) (C.Q GG 1) (Dx m (Fk (Ac Tryz.f135) 0 [])) ⟨AH 19 [(0,.yl C.l),(1,.ref 0 0),(3,.i D)],[oC [.ints G]]⟩
def zOw (C:Dt Tryz.prog)(n:Nat)(self:UZ -> X6)(G:Ξ)(f: ∀ c r,self c=some r -> oM C n G r c)(D:Int)(r:List (Δ))(h:UY n self G D=some r):oM C (n+1) G r (.l1 D):=by
 intro m k;intro i hi v;refine rd k λm k=>?_
 unfold UY at h;have p:=H0;rcases DN h with ⟨a,h⟩ | ⟨a,h⟩
 ·have p:=H0.b 8 a;refine gs (AJ 3 AD) [0] p (Dr (Ac Tryz.f135) 3 [m]) (AH 19 [(0,.yl C.l),(1,.ref 0 0),(3,.i D)]) [oC [.ints G]] ?_;obtain ⟨W,h⟩:=DE h;have p:=H0.g W;obtain ⟨r,d,rfl⟩:=TO h;clear h;have h:=d;clear d;obtain ⟨j,hi,v⟩:=nk v;refine A5.y (ops:=A0 Tryz.f135 3) HC.x 6 [0,1,3,18] [0] p (x:=RB (D,G.getD D.toNat 0)) (AH 19 [(0,.yl C.l),(1,.ref 0 0),(3,.i D),(18,.bool false)]) [oC [.ints G]] (AH 19 [(0,.yl C.l),(1,.ref 0 0),(3,.i D),(18,.bool true)]) [oC [.ints G]] Z5 Z5 Z5 j Z5 ?_ ?_
  ·generalize i+1=i at hi v ⊢
   obtain ⟨o,h⟩:=DE h;have p:=H0.w 10 o;exact gg AD [0] p (f _ _ h m k i hi v)
  ·exact TrI.e HC.x AD 6 H0 Z5 (.inr rfl)
 ·have p:=H0.b 8 a;cases h;exact TrI.e HC.x AD 10 p Z5 (.inl (by rw [Xy hi v]))
def zAQ (C:Dt Tryz.prog)(G:Ξ): ∀ (n:Nat) (m:UZ) (r:List (Δ)),PD G n m=some r -> oM C n G r m
 | 0,_,_,h=>by cases h
 | n+1,.l1 D,r,h=>zOw C n (PD G n) G (zAQ C G n) D r h
variable {r:List (Δ)}
def zOx (G:Ξ)(h:back n G=some r)(C:Dt Tryz.prog)(U:C.encs=r.map RB):A5 Tryz.prog GG Fence.wide none 1 (C.Y GG 1 0) (C.Q GG 1) [.code (Ac Tryz.f135)] ⟨AH 19 [(0,.yl C.l),(1,.ref 0 0)],[oC [.ints G]]⟩:=by
 suffices H: ∀ i:Nat,i<=C.encs.length -> C.encs.drop i=r.map RB -> A5 Tryz.prog GG Fence.wide none 1 (C.Y GG 1 i) (C.Q GG 1) [.code (Ac Tryz.f135)] ⟨AH 19 [(0,.yl C.l),(1,.ref 0 0)],[oC [.ints G]]⟩ from H 0 (zJs _) (by rw [zQF];exact U)
 intro i hi v;have a:=zAQ C G n;unfold back at h
 generalize PD G n=self at h a
 unfold oL at h;obtain ⟨W,h⟩:=DE h;have p:=H0.w 6 W;exact gg AD [0] p (en n (a _ _ h n Nat.le.refl i hi v))
def zO1 {G:Ξ}(h:back n G=some r)(H:DH):EQ 124 [.ints G] H (.it H.length) (H++[some (.iter (r.map RB))]) true:=by
 refine ES.iterN (c:=L1 [.ref 0 0]) (h0:=[oC [.ints G]]) (fn:=Tryz.f135) (zOz (n:=0) G (r:=()) rfl) Z5 Tryz.func135 Z5 Z5 Z5 (λC U=>?_) H;have e:DV.yl C.l::(List.range 1).map (L1 [.ref 0 0])++List.replicate (Tryz.f135.ntmps-(1+1)) .any=AH 19 [(0,.yl C.l),(1,.ref 0 0)]:=Z5
 rw [e];exact zOx G h C U
end
abbrev zLx:=@LawfulBEq.eq_of_beq
section
set_option maxRecDepth 100000
set_option maxHeartbeats 40000000
def zFg (n:Nat)(g_:List Ξ)(AL:Ω)(start:Int):Option Unit:= some ()
def zFh (n:Nat)(H:List Ξ)(J:Ω)(start:Int):Option Unit:=zFg n H J start
variable {n:Nat}
def zFf (H:List Ξ)(J:Ω)(start:Int){r:Unit}(h:zFh n H J start=some r):EQ 142 [.sl 1 H.length (AO AW H),.bools J,.i start] [] (.fn 153 3 (L1 [.ref 0 0,.ref 1 0,.ref 2 0])) [oC [.sl 1 H.length (AO AW H)],oC [.i start],oC [.bools J]] true:=by
 refine ot Tryz.func142 λB N=>?_
 revert r;apply gO;exact lE AD [6] [0,2,1]
def zDW:Ae (A0 Tryz.f153 6) [] (List.range 8) []:=Z0
def J0:BF:=λi=>match i with
 | 6=>.ord [] (List.range 8) []
 | _=>.no
def dU (g:List Ξ)(start:Int)(inn q:Ω)(o4:Ξ):DH:=[oC [.sl 1 g.length (AO AW g)],oC [.i start],oC [.bools inn],some (.bools q),oI o4]
inductive LH where
 | l1 (x6:Nat) (o3:Ω) (o4:Ξ)
 | l2 (x6:Nat) (Bu:Ξ) (Cy Bi:Int) (o3:Ω) (o4:Ξ)
 | l3 (o3:Ω)
def Vo (n:Nat)(self:LH -> Option Ξ)(g:List Ξ)(start:Int)(inn:Ω)(c:Nat)(q:Ω)(o4:Ξ):Option Ξ:= bif (decide ((c:Int)>0)) then if ((0:Int)<=0/\ 0<(c:Int))/\ 0+0<o4.length then Option.map (λl=>(o4.getD (0+0) 0)::l) (if ((0:Int)<=0/\ 0<(c:Int))/\ 0+0<o4.length/\ (0<=(o4.getD (0+0) 0)/\ (o4.getD (0+0) 0)<(g.length:Int)) then self (.l2 c (g.getD ((o4.getD (0+0) 0).toNat) []) (((g.getD ((o4.getD (0+0) 0).toNat) []).length:Nat):Int) 0 q o4) else none) else none else some []
def N5 (n:Nat)(self:LH -> Option Ξ)(g:List Ξ)(start:Int)(inn:Ω)(c:Nat)(o:Ξ)(V Q:Int)(q:Ω)(o4:Ξ):Option Ξ:= bif (decide (Q<V)) then if (0<=Q/\ Q<(o.length:Int))/\ (0<=(o.getD Q.toNat 0)/\ (o.getD Q.toNat 0)<(inn.length:Int)) then bif (inn.getD ((o.getD Q.toNat 0).toNat) false) then if (0<=(o.getD Q.toNat 0)/\ (o.getD Q.toNat 0)<(g.length:Int))/\ 0+((o.getD Q.toNat 0).toNat)<q.length then bif (!(q.getD (0+((o.getD Q.toNat 0).toNat)) false)) then if ((0=0/\ 1=([o.getD Q.toNat 0]:Ξ).length)/\ (0=0/\ c=o4.length)/\ o4.length+([o.getD Q.toNat 0]:Ξ).length<=Av)/\ AG (Q+1) then self (.l2 (o4.length+([o.getD Q.toNat 0]:Ξ).length) o V (Q+1) (q.set (0+((o.getD Q.toNat 0).toNat)) true) (o4++([o.getD Q.toNat 0]:Ξ))) else none else if AG (Q+1) then self (.l2 c o V (Q+1) q o4) else none else none else if AG (Q+1) then self (.l2 c o V (Q+1) q o4) else none else none else bif ((c-1)==0) then if (0:Int)<=1/\ (1:Int)<=(c:Int)/\ (c:Int)<=(c:Int) then self (.l3 q) else none else if (0:Int)<=1/\ (1:Int)<=(c:Int)/\ (c:Int)<=(c:Int) then if 1<=o4.length then self (.l1 (c-1) q (o4.drop 1)) else none else none
def iz (n:Nat)(self:LH -> Option Ξ)(g:List Ξ)(start:Int)(inn:Ω)(o3:Ω):Option Ξ:= some []
def i4 (n:Nat)(self:LH -> Option Ξ)(g:List Ξ)(start:Int)(inn:Ω):Option Ξ:= if (((g.length:Int):Int)=(g.length:Int)/\ 0<=(g.length:Int)/\ ((g.length:Int):Int)<=1000000000000)/\ (0<=start/\ start<(g.length:Int))/\ 0+start.toNat<(List.replicate g.length false).length then self (.l1 1 ((List.replicate g.length false).set (0+start.toNat) true) ([start]:Ξ)) else none
def FL (g:List Ξ)(start:Int)(inn:Ω):Nat -> LH -> Option Ξ
 | 0,_=>none
 | n+1,.l1 c q o4=>Vo n (FL g start inn n) g start inn c q o4
 | n+1,.l2 c o V Q q o4=>N5 n (FL g start inn n) g start inn c o V Q q o4
 | n+1,.l3 q=>iz n (FL g start inn n) g start inn q
def Ia (n:Nat)(g:List Ξ)(start:Int)(inn:Ω):Option Ξ:=i4 n (FL g start inn n) g start inn
def Po (C:Dt Tryz.prog)(n:Nat)(g:List Ξ)(start:Int)(inn:Ω)(r:Ξ):LH -> Prop
 | .l1 c q o4=>∀ m:Nat,n<=m -> ∀ i:Nat,i<=C.encs.length -> C.encs.drop i=r.map Br -> A5 Tryz.prog GG Fence.wide none 3 (C.Y GG 3 i) (C.Q GG 3) (Dx m (Fk (Ac Tryz.f153) 0 [])) ⟨AH 58 [(0,.yl C.l),(1,.ref 0 0),(3,.ref 2 0),(5,.msl 3 1 0 g.length),(6,.msl 4 1 0 c)],[oC [.sl 1 g.length (AO AW g)],oC [.i start],oC [.bools inn],some (.bools q),oI o4]⟩
 | .l2 c o V b q o4=>∀ m a:Nat,n<=m -> n<=a -> ∀ i:Nat,i<=C.encs.length -> C.encs.drop i=r.map Br -> A5 Tryz.prog GG Fence.wide none 3 (C.Y GG 3 i) (C.Q GG 3) (Dx a (Fk (Ac Tryz.f153) 2 [m])) ⟨AH 58 [(0,.yl C.l),(1,.ref 0 0),(3,.ref 2 0),(5,.msl 3 1 0 g.length),(6,.msl 4 1 0 c),(33,.ints o),(34,.i V),(35,.i b)],[oC [.sl 1 g.length (AO AW g)],oC [.i start],oC [.bools inn],some (.bools q),oI o4]⟩
 | .l3 q=>∀ m:Nat,n<=m -> ∀ i:Nat,i<=C.encs.length -> C.encs.drop i=r.map Br -> A5 Tryz.prog GG Fence.wide none 3 (C.Y GG 3 i) (C.Q GG 3) (Dx m (Fk (Ac Tryz.f153) 0 [])) ⟨AH 58 [(0,.yl C.l),(1,.ref 0 0),(3,.ref 2 0),(5,.msl 3 1 0 g.length),(6,.ints ([]:Ξ))],[oC [.sl 1 g.length (AO AW g)],oC [.i start],oC [.bools inn],some (.bools q)]⟩
def zFa (C:Dt Tryz.prog)(n:Nat)(self:LH -> Option Ξ)(g:List Ξ)(start:Int)(inn:Ω)(w: ∀ d r,self d=some r -> Po C n g start inn r d)(c:Nat)(q:Ω)(o4:Ξ)(r:Ξ)(h:Vo n self g start inn c q o4=some r):Po C (n+1) g start inn r (.l1 c q o4):=by
 intro m k;intro i hi v;refine rd k λm k=>?_
 unfold Vo at h;have p:=H0;rcases DN h with ⟨a,h⟩ | ⟨a,h⟩
 ·have p:=H0.b 19 a;refine gs (AJ 5 J0) [0,1,2,3,4] p (Dr (Ac Tryz.f153) 5 [m]) (AH 58 [(0,.yl C.l),(1,.ref 0 0),(3,.ref 2 0),(5,.msl 3 1 0 g.length),(6,.msl 4 1 0 c)]) (dU g start inn q o4) ?_;obtain ⟨⟨W,j⟩,h⟩:=DE h;have p:=H0.g W |>.g j
  obtain ⟨r,f,rfl⟩:=TO h;clear h;have h:=f;clear f;obtain ⟨o,hi,v⟩:=nk v;refine A5.y (ops:=A0 Tryz.f153 5) HC.x 4 [0,1,3,5,6,27] [0,1,2,3,4] p (x:=Br (o4.getD (0+0) 0)) (AH 58 [(0,.yl C.l),(1,.ref 0 0),(3,.ref 2 0),(5,.msl 3 1 0 g.length),(6,.msl 4 1 0 c),(27,.bool false)]) (dU g start inn q o4) (AH 58 [(0,.yl C.l),(1,.ref 0 0),(3,.ref 2 0),(5,.msl 3 1 0 g.length),(6,.msl 4 1 0 c),(27,.bool true)]) (dU g start inn q o4) Z5 Z5 Z5 o Z5 ?_ ?_
  ·generalize i+1=i at hi v ⊢
   obtain ⟨⟨s,R,U⟩,h⟩:=DE h;have p:=H0.g zDW |>.g s |>.g R |>.g U
   exact gg J0 [0,1,2,3,4] p (en n (w _ _ h m n k Nat.le.refl i hi v))
  ·exact TrI.e HC.x J0 6 H0 Z5 (.inr rfl)
 ·have p:=H0.b 19 a;cases h;exact TrI.e HC.x J0 10 p Z5 (.inl (by rw [Xy hi v]))
def zFZ (C:Dt Tryz.prog)(n:Nat)(self:LH -> Option Ξ)(g:List Ξ)(start:Int)(inn:Ω)(e: ∀ z r,self z=some r -> Po C n g start inn r z)(f:Nat)(A:Ξ)(V Q:Int)(q:Ω)(o4:Ξ)(r:Ξ)(h:N5 n self g start inn f A V Q q o4=some r):Po C (n+1) g start inn r (.l2 f A V Q q o4):=by
 intro d s a j;intro i hi v;have a:=zBR a;refine rd j λs j=>?_
 unfold N5 at h;have p:=H0;rcases DN h with ⟨u,h⟩ | ⟨u,h⟩
 ·obtain ⟨⟨W,x⟩,h⟩:=DE h;have p:=H0.b 36 u |>.g W |>.g x
  rcases DN h with ⟨c,h⟩ | ⟨c,h⟩
  ·obtain ⟨⟨t,R⟩,h⟩:=DE h;have p:=p.b 42 c |>.g t |>.g R
   rcases DN h with ⟨y,h⟩ | ⟨y,h⟩
   ·obtain ⟨⟨U,D⟩,h⟩:=DE h;have p:=p.b 48 y |>.g t |>.g R |>.g U |>.w 57 D
    exact gg J0 [0,1,2,3,6] p (e _ _ h d s a j i hi v)
   ·obtain ⟨U,h⟩:=DE h;have p:=p.b 48 y |>.w 57 U
    exact gg J0 [0,1,2,3,4] p (e _ _ h d s a j i hi v)
  ·obtain ⟨t,h⟩:=DE h;have p:=p.b 42 c |>.w 57 t
   exact gg J0 [0,1,2,3,4] p (e _ _ h d s a j i hi v)
 ·have p:=H0.b 36 u;rcases DN h with ⟨c,h⟩ | ⟨c,h⟩
  ·obtain ⟨W,h⟩:=DE h;have p:=p.g W |>.o 21 (AM.mse_nil (k:=4) (m:=1) (o:=1) (zLx c))
   exact gg J0 [0,1,2,3] p (e _ _ h d a i hi v)
  ·obtain ⟨W,h⟩:=DE h;have p:=p.g W |>.o 21 (AM.mse_msl (k:=4) (m:=1) (o:=1) (bT c) rfl)
   obtain ⟨x,h⟩:=DE h;refine gs J0 [0,1,2,3,4] p (Dx d (Fk (Ac Tryz.f153) 0 [])) (AH 58 [(0,.yl C.l),(1,.ref 0 0),(3,.ref 2 0),(5,.msl 3 1 0 g.length),(6,.msl 4 1 1 (f-1))]) (dU g start inn q o4) ?_;refine BI.le (A7.rootE 4 1 ⟨AH 58 [(0,.yl C.l),(1,.ref 0 0),(3,.ref 2 0),(5,.msl 3 1 0 g.length),(6,.msl 5 1 0 (f-1))],[oC [.sl 1 g.length (AO AW g)],oC [.i start],oC [.bools inn],some (.bools q),none,oI (o4.drop 1)]⟩ [1<=o4.length] Z5 ⟨x,trivial⟩) Z5 ?_;refine BI.le (A7.compE [0,1,2,3,5] Z5) Z5 ?_;exact e _ _ h d a i hi v
def zFY (C:Dt Tryz.prog)(n:Nat)(self:LH -> Option Ξ)(g:List Ξ)(start:Int)(inn:Ω)(AF: ∀ m r,self m=some r -> Po C n g start inn r m)(q:Ω)(r:Ξ)(h:iz n self g start inn q=some r):Po C (n+1) g start inn r (.l3 q):=by
 intro a k;intro i hi v;refine rd k λa k=>?_
 unfold iz at h;have p:=H0;cases h;exact TrI.e HC.x J0 10 p Z5 (.inl (by rw [Xy hi v]))
def aT (C:Dt Tryz.prog)(g:List Ξ)(start:Int)(inn:Ω): ∀ (n:Nat) (m:LH) (r:Ξ),FL g start inn n m=some r -> Po C n g start inn r m
 | 0,_,_,h=>by cases h
 | n+1,.l1 c q o4,r,h=>zFa C n (FL g start inn n) g start inn (aT C g start inn n) c q o4 r h
 | n+1,.l2 c o V Q q o4,r,h=>zFZ C n (FL g start inn n) g start inn (aT C g start inn n) c o V Q q o4 r h
 | n+1,.l3 q,r,h=>zFY C n (FL g start inn n) g start inn (aT C g start inn n) q r h
variable {r:Ξ}
def zFd (g:List Ξ)(start:Int)(inn:Ω)(h:Ia n g start inn=some r)(C:Dt Tryz.prog)(U:C.encs=r.map Br):A5 Tryz.prog GG Fence.wide none 3 (C.Y GG 3 0) (C.Q GG 3) [.code (Ac Tryz.f153)] ⟨AH 58 [(0,.yl C.l),(1,.ref 0 0),(2,.ref 1 0),(3,.ref 2 0)],[oC [.sl 1 g.length (AO AW g)],oC [.i start],oC [.bools inn]]⟩:=by
 suffices H: ∀ i:Nat,i<=C.encs.length -> C.encs.drop i=r.map Br -> A5 Tryz.prog GG Fence.wide none 3 (C.Y GG 3 i) (C.Q GG 3) [.code (Ac Tryz.f153)] ⟨AH 58 [(0,.yl C.l),(1,.ref 0 0),(2,.ref 1 0),(3,.ref 2 0)],[oC [.sl 1 g.length (AO AW g)],oC [.i start],oC [.bools inn]]⟩ from H 0 (zJs _) (by rw [zQF];exact U)
 intro i hi v;have w:=aT C g start inn n;unfold Ia at h
 generalize FL g start inn n=self at h w
 unfold i4 at h;obtain ⟨⟨W,a,b⟩,h⟩:=DE h;have p:=H0.g W |>.g a |>.g b
 exact gg J0 [0,1,2,3,4] p (en n (w _ _ h n Nat.le.refl i hi v))
def i6 {a:List Ξ}{J:Ω}{start:Int}(h:Ia n a start J=some r)(H:DH):EQ 142 [.sl 1 a.length (AO AW a),.bools J,.i start] H (.it H.length) (H++[some (.iter (r.map Br))]) true:=by
 refine ES.iterN (c:=L1 [.ref 0 0,.ref 1 0,.ref 2 0]) (h0:=[oC [.sl 1 a.length (AO AW a)],oC [.i start],oC [.bools J]]) (fn:=Tryz.f153) (zFf (n:=0) a J start (r:=()) rfl) Z5 Tryz.func153 Z5 Z5 Z5 (λC U=>?_) H;have e:DV.yl C.l::(List.range 3).map (L1 [.ref 0 0,.ref 1 0,.ref 2 0])++List.replicate (Tryz.f153.ntmps-(3+1)) .any=AH 58 [(0,.yl C.l),(1,.ref 0 0),(2,.ref 1 0),(3,.ref 2 0)]:=Z5
 rw [e];exact zFd a start J h C U
end
abbrev zJz:=@decide_eq_true_iff
abbrev zLd:=@Bool.not_false
abbrev zMH:=@List.mem_append_right
def nb (g:List Ξ)(v:Int):Ξ:=g.getD v.toNat []
structure Gr (g:List Ξ):Prop where
 len:g.length<=256
 row: ∀ v,0<=v -> v<(g.length:Int) -> (nb g v).length<=256
 rng: ∀ v,0<=v -> v<(g.length:Int) -> ∀ u∈nb g v,0<=u/\ u<(g.length:Int)
 sym: ∀ v,0<=v -> v<(g.length:Int) -> ∀ u∈nb g v,v∈nb g u
theorem Gr.of {g:List Ξ}(h:Lq g=true)(hr: ∀ r∈g,r.length<=LB):Gr g:=by
 unfold Lq at h;rw [zAD,zJz,zBk] at h
 have key: ∀ v,0<=v -> v<(g.length:Int) -> ∀ u∈nb g v,(0<=u/\ u<(g.length:Int))/\ v∈nb g u:=by
  intro v h0 a u t;have b:=h.2 v.toNat (zIN.2 Z2);unfold JD at b;rw [zBk] at b;obtain ⟨j,i,e⟩:=zJ3 t;have c:=b j (zIN.2 i);unfold Hi at c
  have e2:(g.getD v.toNat []).getD j 0=u:=by
   grind [nb]
  grind [nb]
 have grow: ∀ v,0<=v -> v<(g.length:Int) -> ∀ k,k<(nb g v).length -> (k:Int)<=(nb g v).getD k 0:=by
  intro v h0 a k;have b:=h.2 v.toNat (zIN.2 Z2);unfold JD at b;rw [zBk] at b
  induction k with
  | zero=>
   grind
  | succ k ih=>
   intro hk;have c:=b (k+1) (zIN.2 hk);unfold Hi at c
   grind [nb]
 exact ⟨h.1,λv h0 a=>by
  grind [List.getElem_mem],λv h0 a u t=>(key v h0 a u t).1,λv h0 a u t=>(key v h0 a u t).2⟩
inductive Rc (g:List Ξ)(inn:Ω)(s:Int):Int -> Prop
 | start:Rc g inn s s
 | step {a b:Int} (h:Rc g inn s a) (hb:b∈nb g a) (hi:inn.getD b.toNat false=true):Rc g inn s b
section
variable {g:List Ξ} {inn:Ω} {s:Int}
variable {v:Int}
def Rc.rng (G:Gr g)(h0:0<=s)(a:s<(g.length:Int))(h:Rc g inn s v):0<=v/\ v<(g.length:Int):=by
 induction h with
 | start=>exact ⟨h0,a⟩
 | step h c hi b=>exact G.rng _ b.1 b.2 _ c
def Rc.isIn (l:inn.getD s.toNat false=true)(h:Rc g inn s v):inn.getD v.toNat false=true:=by
 cases h with
 | start=>exact l
 | step h hb hi=>exact hi
def Rc.trans {a b:Int}(h:Rc g inn s a)(c:Rc g inn a b):Rc g inn s b:=by
 induction c with
 | start=>exact h
 | step _ d hi e=>exact .step e d hi
def Rc.symm (G:Gr g)(h0:0<=s)(a:s<(g.length:Int))(l:inn.getD s.toNat false=true)(h:Rc g inn s v):Rc g inn v s:=by
 induction h with
 | start=>exact .start
 | step h c hi b=>
  have j:=h.rng G h0 a;exact (Rc.step Rc.start (G.sym _ j.1 j.2 _ c) (h.isIn l)).trans b
theorem Rc.mono {inn':Ω}(z: ∀ v:Int,inn.getD v.toNat false=true -> inn'.getD v.toNat false=true)(h:Rc g inn s v):Rc g inn' s v:=by
 induction h with
 | start=>exact .start
 | step h c hi b=>exact .step b c (z _ hi)
def Ey (l:Ω):Nat:=l.countP λb=>!b
theorem n0: ∀ (l:Ω) (i:Nat),i<l.length -> l.getD i false=false -> Ey (l.set i true)+1=Ey l
 | b::l,0,_,h=>by
  grind [Ey]
 | b::l,i+1,hi,h=>by
  grind [Ey]
def FV (inn:Ω)(st:Ω×Ξ)(v:Int):Ω×Ξ:=bif inn.getD v.toNat false&&!st.1.getD v.toNat false then (st.1.set v.toNat true,st.2++[v]) else st
structure Bf (g:List Ξ)(inn:Ω)(s:Int)(met:Ω)(Q P:Ξ):Prop where
 len:met.length=g.length
 cnt:Q.length+Ey met<=g.length
 nd:(P++Q).Nodup
 rc: ∀ v∈P++Q,Rc g inn s v
 rng: ∀ v∈P++Q,0<=v/\ v<(g.length:Int)
 met: ∀ v:Int,0<=v -> v<(g.length:Int) -> (met.getD v.toNat false=true↔v∈P++Q)
 cl: ∀ p∈P,∀ b∈nb g p,inn.getD b.toNat false=true -> b∈P++Q
 st:s∈P++Q
variable {Q P:Ξ}{q:Ω}
theorem Bf.ex (G:Gr g)(h:Bf g inn s q Q P){u:Int}(e:v∈Q)(f:u∈nb g v):
 Bf g inn s (FV inn (q,Q) u).1 (FV inn (q,Q) u).2 P/\ (∃ t,(FV inn (q,Q) u).2=Q++t)/\ (inn.getD u.toNat false=true -> u∈P++(FV inn (q,Q) u).2)/\ 2*Ey (FV inn (q,Q) u).1+(FV inn (q,Q) u).2.length<=2*Ey q+Q.length:=by
 have i:=h.rng v (zMH _ e);have c:=G.rng v i.1 i.2 u f;unfold FV;cases hi:inn.getD u.toNat false
 ·simp_all
 ·cases z:q.getD u.toNat false
  ·rw [zLd,Bool.and_true,zAG];have hn:u∉P++Q:=λW=>by rw [(h.met u c.1 c.2).2 W] at z;cases z
   have hl:=h.len;have hc:=n0 q u.toNat Z2 z;have hcnt:=h.cnt;have R: ∀ x,x∈P++(Q++[u])↔x∈P++Q∨x=u:=λx=>by simp [or_assoc]
   refine ⟨⟨Z4,Z4,?_,λx d=>?_,λx d=>?_,λx B w=>?_,λp k b j U=>(R b).2 (.inl (h.cl p k b j U)),(R s).2 (.inl h.st)⟩,⟨[u],rfl⟩,λ_=>(R u).2 (.inr rfl),Z4⟩
   ·rw [←List.append_assoc,List.nodup_append];exact ⟨h.nd,Z3,λa ha b j=>Z4⟩
   ·rcases (R x).1 d with d | rfl
    ·exact h.rc x d
    ·exact .step (h.rc v (zMH _ e)) f hi
   ·rcases (R x).1 d with d | rfl
    ·exact h.rng x d
    ·exact c
   ·rw [R,←h.met x B w]
    grind
  ·exact ⟨h,⟨[],Z3⟩,λ_=>(h.met u c.1 c.2).1 z,zBT _⟩
theorem Bf.exs (G:Gr g): ∀ (l:Ξ) {q:Ω} {Q:Ξ},Bf g inn s q Q P -> v∈Q -> (∀ u∈l,u∈nb g v) ->
 Bf g inn s (l.foldl (FV inn) (q,Q)).1 (l.foldl (FV inn) (q,Q)).2 P/\ (∃ t,(l.foldl (FV inn) (q,Q)).2=Q++t)/\ (∀ u∈l,inn.getD u.toNat false=true -> u∈P++(l.foldl (FV inn) (q,Q)).2)/\ 2*Ey (l.foldl (FV inn) (q,Q)).1+(l.foldl (FV inn) (q,Q)).2.length<=2*Ey q+Q.length
 | [],q,Q,h,a,o=>⟨h,⟨[],Z3⟩,λu b=>absurd b zMP,zBT _⟩
 | u::l,q,Q,h,a,o=>by
  obtain ⟨c,⟨t,ht⟩,h2,h3⟩:=h.ex G a (o u zLb);obtain ⟨h4,⟨t',dM⟩,h5,h6⟩:=Bf.exs G l c Z4 λx d=>o x (zKA _ d)
  grind
variable {l:Ξ}
theorem zJA {n j:Nat}(hI:inn.length=g.length)(hG:g.length<=256)(hm:q.length=g.length)(hQ:Q.length+Ey q<=g.length)(hj:j<l.length)(hl:l.length<=256)(hr:0<=l.getD j 0/\ l.getD j 0<(g.length:Int)):
 FL g s inn (n+1) (.l2 Q.length l (l.length:Int) (j:Int) q Q)=FL g s inn n (.l2 (FV inn (q,Q) (l.getD j 0)).2.length l (l.length:Int) ((j:Int)+1) (FV inn (q,Q) (l.getD j 0)).1 (FV inn (q,Q) (l.getD j 0)).2):=by
 have r1:AG ((j:Int)+1):=Aa.2 ⟨Z2,Z2⟩;have L:(1000000000000:Nat)=Av:=rfl
 show N5 n (FL g s inn n) g s inn Q.length l (l.length:Int) (j:Int) q Q=_
 unfold N5 FV
 grind
theorem wf (b:inn.length=g.length)(G:Gr g)(o:l.length<=256)(V: ∀ u∈l,u∈nb g v): ∀ (k j n:Nat) {q:Ω} {Q:Ξ},j+k=l.length -> Bf g inn s q Q P -> v∈Q ->
 FL g s inn (n+k) (.l2 Q.length l (l.length:Int) (j:Int) q Q)=FL g s inn n (.l2 ((l.drop j).foldl (FV inn) (q,Q)).2.length l (l.length:Int) (l.length:Int) ((l.drop j).foldl (FV inn) (q,Q)).1 ((l.drop j).foldl (FV inn) (q,Q)).2)
 | 0,j,n,q,Q,e,h,a=>by
  grind
 | k+1,j,n,q,Q,e,h,a=>by
  have i:j<l.length:=Z2
  have c:l.getD j 0∈l:=Z4
  have z:=h.rng v (zMH _ a);have d:=G.rng v z.1 z.2 _ (V _ c);obtain ⟨f,⟨t,ht⟩,_,_⟩:=h.ex G a (V _ c);rw [←zQP,zJA b G.len h.len h.cnt i o d];have:=wf b G o V k (j+1) n Z2 f Z4
  grind [List.drop_eq_getElem_cons]
def PQ (g:List Ξ)(inn:Ω)(s:Int)(P l:Ξ):Prop:=(P++l).Nodup/\ (∀ v,v∈P++l↔Rc g inn s v)
def Bf.done (h:Bf g inn s q [] P):PQ g inn s P []:=by
 refine ⟨h.nd,λv=>⟨h.rc v,λa=>?_⟩⟩
 induction a with
 | start=>exact h.st
 | step _ c hi b=>exact h.cl _ (by simpa using b) _ c hi
theorem AZ.map {R:Type}{f:Nat -> Option R}{Q:R -> Prop}{Y:R -> Prop}{m:R -> R}(h:AZ f Q)(hq: ∀ r,Q r -> Y (m r)):AZ (λn=>(f n).map m) Y:=by
 obtain ⟨N,h⟩:=h;refine ⟨N,λn hn=>?_⟩
 grind
theorem zOq (G:Gr g)(l:inn.length=g.length): ∀ (z:Nat) (c:Ω) (Q P:Ξ),2*Ey c+Q.length=z -> Bf g inn s c Q P -> AZ (λn=>FL g s inn n (.l1 Q.length c Q)) (PQ g inn s P):=by
 intro z
 induction z using Nat.strongRecOn with
 | _ z o=>
  intro c Q P hz h;cases Q with
  | nil=>
   refine Ev.p (r:=[]) ⟨1,λn w=>?_⟩ h.done;obtain ⟨n,rfl⟩: ∃ k,n=k+1:=⟨n-1,Z2⟩
   simp_all [Vo,FL]
  | cons v q=>
   have f:v∈v::q:=zLb;have j:=h.rng v (zMH _ f);obtain ⟨d,⟨t,V⟩,x,y⟩:=h.exs G (nb g v) f (λu i=>i);have A:=G.row v j.1 j.2
   generalize hst:(nb g v).foldl (FV inn) (c,v::q)=st at d V x y
   obtain ⟨N,B⟩:=st;have V:B=v::(q++t):=V;subst V
   have H:Bf g inn s N (q++t) (P++[v]):=by
    have e:P++[v]++(q++t)=P++(v::(q++t)):=Z3
    have C:=d.cnt;simp only [zMQ] at C;refine ⟨d.len,Z2,by rw [e];exact d.nd,by rw [e];exact d.rc,by rw [e];exact d.rng,by rw [e];exact d.met,?_,by rw [e];exact d.st⟩;intro p hp b D hi;rw [e];rcases zLW.1 hp with hp | hp
    ·exact d.cl p hp b D hi
    grind
   have W:2*Ey N+(q++t).length<z:=by
    grind
   have X:=o _ W N (q++t) (P++[v]) rfl H
   have key:AZ (λn=>FL g s inn n (.l2 (v::(q++t)).length (nb g v) ((nb g v).length:Int) ((nb g v).length:Int) N (v::(q++t)))) (PQ g inn s (P++[v])):=by
    have g0:(0:Int)<=1/\ (1:Int)<=(((v::(q++t)).length:Nat):Int)/\ (((v::(q++t)).length:Nat):Int)<=(((v::(q++t)).length:Nat):Int):=⟨Z2,by rw [zMQ];omega,zJB _⟩;cases Y:q++t with
    | nil=>
     rw [Y] at H;refine Ev.p (r:=[]) ⟨2,λn w=>?_⟩ H.done;obtain ⟨n,rfl⟩: ∃ k,n=k+2:=⟨n-2,Z2⟩
     show N5 (n+1) (FL g s inn (n+1)) g s inn 1 (nb g v) ((nb g v).length:Int) ((nb g v).length:Int) N [v]=_
     unfold N5;rw [zAF Z2,zAz];rfl
    | cons a r=>
     refine AZ.step 1 (λn=>?_) X
     simp_all [N5,FL]
   have Z:AZ (λn=>FL g s inn n (.l2 (v::q).length (nb g v) ((nb g v).length:Int) 0 c (v::q))) (PQ g inn s (P++[v])):=by
    refine AZ.step (nb g v).length (λn=>?_) key;have:=wf l G A (λu i=>i) (nb g v).length 0 n Z2 h f
    grind
   have m: ∀ r:Ξ,PQ g inn s (P++[v]) r -> PQ g inn s P (v::r):=λr hr=>by
    grind [PQ]
   refine AZ.step 1 (λn=>?_) (AZ.map Z m)
   simp_all [Vo,FL,nb]
theorem i5 (G:Gr g)(h:inn.length=g.length)(h0:0<=s)(h1:s<(g.length:Int)):AZ (λn=>Ia n g s inn) (λl=>l.Nodup/\ ∀ v,v∈l↔Rc g inn s v):=by
 have b:((List.replicate g.length false).set s.toNat true).length=g.length:=Z3
 have hG:=G.len;have hc:=n0 (List.replicate g.length false) s.toNat Z4 Z4
 have M5:Ey (List.replicate g.length false)<=g.length:=by
  grind [Ey]
 have H:Bf g inn s ((List.replicate g.length false).set s.toNat true) [s] []:=by
  refine ⟨b,Z4,Z3,λv a=>?_,λv a=>?_,λv JS Bp=>?_,λp f=>absurd f zMP,Z3⟩
  ·have:v=s:=by simpa using a
   subst this;exact .start
  ·grind
  grind
 have:=zOq G h _ _ _ _ rfl H
 grind [AZ.mono,PQ,Ia,i4]
end
abbrev zMR:=@BitVec.toNat_ofInt
abbrev zQC:=@BitVec.eq_of_getLsbD_eq
abbrev zQT:=@Nat.pow_le_pow_right
abbrev zQV:=@Nat.testBit_two_pow
abbrev zQY:=@Bool.false_and
end Go.Proofs.YtodinaconebmdaaGreatDoor
namespace Go.Proofs.YtodinaconebmdaaGreatDoor
def tb (x:Int)(i:Nat):Bool:=(BitVec.ofInt 64 x).getLsbD i
def Bt (x:Int):Prop:=-9223372036854775808<=x/\ x<=9223372036854775807
theorem WS (x:Int):BitVec.ofInt 64 (IntKind.i64.wrap x)=BitVec.ofInt 64 x:=by
 grind [BitVec.eq_of_toNat_eq,BitVec.toNat_ofInt,IntKind.wrap_i64]
def j8 (y:BitVec 64):BitVec.ofInt 64 (y.toNat:Int)=y:=by
 rw [BitVec.ofInt_natCast];simp
theorem Yv (x:Int):Bt (IntKind.i64.wrap x):=by
 rw [zQK];constructor <;> omega
theorem Dh (c:BinOp)(a b:Int):Bt (bits c .i64 a b):=Yv _
theorem Nb (a b:Int)(i:Nat):tb (bits .or .i64 a b) i=(tb a i||tb b i):=by
 show (BitVec.ofInt 64 (IntKind.i64.wrap ((BitVec.ofInt 64 a||| BitVec.ofInt 64 b).toNat:Int))).getLsbD i=_
 rw [WS,j8,BitVec.getLsbD_or];rfl
theorem FE (a b:Int)(i:Nat):tb (bits .and .i64 a b) i=(tb a i&&tb b i):=by
 show (BitVec.ofInt 64 (IntKind.i64.wrap ((BitVec.ofInt 64 a&&& BitVec.ofInt 64 b).toNat:Int))).getLsbD i=_
 rw [WS,j8,BitVec.getLsbD_and];rfl
variable {i:Nat}{x:Int}
theorem Rz (h:64<=i):tb x i=false:=BitVec.getLsbD_of_ge _ _ h
theorem HN (a b:Int)(i:Nat):tb (bits .andNot .i64 a b) i=(tb a i&&!tb b i):=by
 show (BitVec.ofInt 64 (IntKind.i64.wrap ((BitVec.ofInt 64 a&&& ~~~ BitVec.ofInt 64 b).toNat:Int))).getLsbD i=_
 grind [WS,tb]
theorem ZL (a:Int)(h:i<64):tb (bits .xor .i64 (-1) a) i= !tb a i:=by
 show (BitVec.ofInt 64 (IntKind.i64.wrap ((BitVec.ofInt 64 (-1) ^^^ BitVec.ofInt 64 a).toNat:Int))).getLsbD i=_
 rw [WS,j8,BitVec.getLsbD_xor];have:BitVec.ofInt 64 (-1)=BitVec.allOnes 64:=Z6
 rw [this,BitVec.getLsbD_allOnes];simp [h,tb]
theorem gu (i:Nat):tb 0 i=false:=by
 simp_all [tb]
theorem Js : ¬ tb 0 i=true:=by rw [gu];decide
theorem Hw {y:Int}(hx:Bt x)(hy:Bt y)(h: ∀ i,i<64 -> tb x i=tb y i):x=y:=by
 have e:BitVec.ofInt 64 x=BitVec.ofInt 64 y:=zQC λi hi=>h i hi
 have e2:=congrArg BitVec.toNat e
 grind [BitVec.toNat_ofInt,Bt]
theorem Jr (m i:Nat)(hi:i<64):tb (m:Int) i=m.testBit i:=by
 grind [tb,BitVec.getLsbD_ofNat]
def Sm (k:Nat)(x:Int):Prop:=0<=x/\ x<2 ^ k
variable {k:Nat}
theorem LT (hk:k<=62):(2:Int) ^ k<=4611686018427387904:=by
 have:(2:Nat) ^ k<=2 ^ 62:=zQT Z6 hk
 grind
def Sm.in64 (hk:k<=62)(h:Sm k x):Bt x:=by
 have:=LT hk;obtain ⟨h1,h2⟩:=h;constructor <;> omega
theorem Sm.hi (h:Sm k x)(hi:k<=i):tb x i=false:=by
 rcases zKL i 64 with XS | XS
 ·obtain ⟨m,rfl⟩:=zL7 h.1;rw [Jr m i XS];apply Nat.testBit_lt_two_pow;have b:(m:Int)<2 ^ k:=h.2;have h3:m<2 ^ k:=by exact_mod_cast b
  grind [Nat.lt_of_lt_of_le,Nat.pow_le_pow_right]
 ·exact Rz XS
theorem VI (hk:k<=62)(hx:Bt x)(h: ∀ i,k<=i -> i<64 -> tb x i=false):Sm k x:=by
 have hy:(BitVec.ofInt 64 x).toNat<2 ^ k:=by
  apply Nat.lt_pow_two_of_testBit
  grind [tb,BitVec.getLsbD]
 rw [zMR] at hy;have h1:=LT hk
 grind [Bt,Sm]
variable {s:Nat}
theorem PX (hi:i<64):tb ((2 ^ s:Nat):Int) i=decide (s=i):=by
 rw [Jr _ _ hi,zQV]
theorem MA (d:Bt x):x=0↔∀ i,i<64 -> tb x i=false:=
 ⟨λh i _=>by rw [h];exact gu i,λh=>Hw d ⟨Z6,Z6⟩ λi hi=>by rw [h i hi,gu]⟩
theorem GC (d:Bt x):x≠0↔∃ i,i<64/\ tb x i=true:=by
 rw [ne_eq,MA d]
 grind
theorem iO (h:Sm k x)(hk:k<=62)(l:s<64):bits .and .i64 (x/2 ^ s) 1=if tb x s then 1 else 0:=by
 obtain ⟨m,rfl⟩:=zL7 h.1;have hm:=h.2;have XT:=LT hk;have e:(m:Int)/2 ^ s=((m/2 ^ s:Nat):Int):=Z3
 have key: ∀ t,t<64 -> tb (bits .and .i64 ((m:Int)/2 ^ s) 1) t=(decide (t=0)&&tb (m:Int) s):=λt V=>by
  rw [FE,e,Jr _ _ V,Jr m s l,show (1:Int)=((1:Nat):Int) from rfl,Jr 1 t V,Nat.testBit_div_two_pow]
  by_cases h0:t=0
  ·subst h0;simp
  ·rw [zAF h0,zQY]
   have:Nat.testBit 1 t=false:=by
    rw [show (1:Nat)=2 ^ 0 from rfl,zQV];simpa using λh=>h0 h.symm
   rw [this,Bool.and_false]
 cases c:tb (m:Int) s with
 | true=>
  rw [zAE rfl];refine Hw (Dh _ _ _) ⟨Z6,Z6⟩ λt V=>?_
  rw [key t V,c,show (1:Int)=((1:Nat):Int) from rfl,Jr 1 t V,Bool.and_true]
  by_cases h0:t=0
  ·subst h0;rfl
  ·rw [zAF h0];rw [show (1:Nat)=2 ^ 0 from rfl,zQV];symm;simpa using λh=>h0 h.symm
 | false=>
  simp_all [MA,Dh]
theorem ri (h:Sm k x)(hk:k<=62)(hs:s<64):(bits .and .i64 (x/2 ^ s) 1==1)=tb x s:=by
 grind [iO]
theorem rh (h:Sm k x)(hk:k<=62)(hs:s<64):(bits .and .i64 (x/2 ^ s) 1==0)= !tb x s:=by
 grind [iO]
end Go.Proofs.YtodinaconebmdaaGreatDoor
namespace Go.Proofs.YtodinaconebmdaaGreatDoor
open Go.RowKit
section
variable {S R:Type}
theorem cS (m:Nat -> S -> Int -> Option R)(len a:Nat)(Inv:Nat -> S -> Prop) 
 (h: ∀ (n i:Nat) (s:S),a<=n -> i<len -> Inv i s -> ∃ q,m (n+1) s (i:Int)=m n q ((i:Int)+1)/\ Inv (i+1) q):
 ∀ (k i n:Nat) (s:S),i+k=len -> a<=n -> Inv i s -> ∃ q,m (n+k) s (i:Int)=m n q (len:Int)/\ Inv len q
 | 0,i,n,s,e,_,b=>by
  grind
 | k+1,i,n,s,e,u,b=>by
  obtain ⟨q,h1,c⟩:=h (n+k) i s Z2 Z2 b;obtain ⟨s2,h3,h4⟩:=cS m len a Inv h k (i+1) n q Z2 u c
  grind
theorem Ii (m:Nat -> S -> Int -> Option R)(len e:Nat)(Inv:Nat -> S -> Prop) 
 (h: ∀ (n i:Nat) (s:S),e<=n -> i<len -> Inv i s -> ∃ q,m (n+1) s (i:Int)=m n q ((i:Int)+1)/\ Inv (i+1) q)
 {n:Nat} {s:S} (hn:e+len<=n) (b:Inv 0 s): ∃ a q,e<=a/\ a+len=n/\ m n s 0=m a q (len:Int)/\ Inv len q:=by
 obtain ⟨q,h1,h2⟩:=cS m len e Inv h len 0 (n-len) s Z2 Z2 b
 grind
structure B5 (c:AC)(k:Nat)(pos:Ξ):Prop where
 ce: ∀ a,a<c.ce.length -> 0<=c.ce.getD a 0/\ c.ce.getD a 0<(pos.length:Int)
 len:c.ce.length<=256
 sm: ∀ i,i<pos.length -> Sm k (pos.getD i 0)
 k:k<=16
def AP (c:AC)(pos:Ξ)(a:Nat):Int:=pos.getD (c.ce.getD a 0).toNat 0
def Ni (x:Int):Bool:=bits .and .i64 x (x-1)==0
section
variable {c:AC} {k:Nat} {pos lost:Ξ} {q:AA}
variable {a:Nat}
def B5.at (W:B5 c k pos)(K:a<c.ce.length):Sm k (AP c pos a):=by
 have:=W.ce a K;exact W.sm _ Z2
theorem B5.r64 (W:B5 c k pos)(K:a<c.ce.length):AG (AP c pos a-1)/\ AG ((a:Int)+1):=by
 have h:=W.at K;have h2:=LT (k:=k) (zA4 W.k Z6);have h3:=W.len
 grind [Aa,Sm]
variable {cell:Int}{n:Nat}
theorem Ml {ss:Int}(h0:0<=cell)(h1:cell<(pos.length:Int))(hl:lost.length=pos.length):
 ∃ l',D5 n cell ss c q pos pos.length lost=some l'/\ l'.length=pos.length/\ ∀ j s,tb (l'.getD j 0) s=(tb (lost.getD j 0) s||(decide (j=cell.toNat)&&(tb (pos.getD j 0) s&&tb ss s))):=by
 refine ⟨lost.set cell.toNat (bits .or .i64 (lost.getD cell.toNat 0) (bits .and .i64 (pos.getD cell.toNat 0) ss)),?_,Z4,λj s=>?_⟩
 ·simp_all [D5,kR]
 grind [Nb,FE]
theorem jx (h0:0<=cell)(h1:cell<(pos.length:Int))(hl:lost.length=pos.length):
 ∃ l',Hg n cell c q pos pos.length lost=some l'/\ l'.length=pos.length/\ ∀ j s,tb (l'.getD j 0) s=(tb (lost.getD j 0) s||(decide (j=cell.toNat)&&(tb (pos.getD j 0) s&&!tb c.set s))):=by
 refine ⟨lost.set cell.toNat (bits .or .i64 (lost.getD cell.toNat 0) (bits .andNot .i64 (pos.getD cell.toNat 0) c.set)),?_,Z4,λj s=>?_⟩
 ·simp_all [Hg,j0]
 grind [Nb,HN]
def Sg (c:AC)(pos:Ξ)(a s:Nat):Prop:=Ni (AP c pos a)=true/\ tb (AP c pos a) s=true
def B3 (c:AC)(pos lost:Ξ)(i:Nat)(D:Nat -> Ψ)(l:Ξ):Prop:= l.length=pos.length/\ ∀ j s,tb (l.getD j 0) s=true↔tb (lost.getD j 0) s=true∨∃ a,a<i/\ (c.ce.getD a 0).toNat=j/\ tb (AP c pos a) s=true/\ D a s
variable {D:Nat -> Ψ}
theorem B3.step {i:Nat}{l l':Ξ}(h:B3 c pos lost i D l)(hl:l'.length=pos.length) 
 (h1: ∀ j s,tb (l'.getD j 0) s=true↔tb (l.getD j 0) s=true∨((c.ce.getD i 0).toNat=j/\ tb (AP c pos i) s=true/\ D i s)):B3 c pos lost (i+1) D l':=by
 grind [B3]
theorem B3.zero (o:lost.length=pos.length):B3 c pos lost 0 D lost:=
 ⟨o,λj s=>⟨.inl,λh=>h.elim id λ⟨a,K,_⟩=>absurd K (zA6 a)⟩⟩
def Ly (c:AC)(pos:Ξ)(a s:Nat):Prop:=∃ b,b<c.ce.length/\ b≠a/\ Sg c pos b s
theorem zNr (W:B5 c k pos)(D:lost.length=pos.length)(hn:2*c.ce.length+2<=n):
 ∃ l,UJ n c q pos pos.length lost=some (true,l)/\ B3 c pos lost c.ce.length (Ly c pos) l:=by
 have w: ∀ i,i<c.ce.length -> ((i:Nat):Int)<((c.ce.length:Nat):Int):=λi hi=>Z2
 have S:=Ii (λn (s:Δ) i=>ND c q pos pos.length lost n (.l1 s.1 s.2 i)) c.ce.length (c.ce.length+2)
  (λi s=>(∀ j,tb s.1 j=true↔∃ a,a<i/\ Sg c pos a j)/\ (∀ j,tb s.2 j=true↔∃ a b,a<b/\ b<i/\ Sg c pos a j/\ Sg c pos b j))
  (λn i s _ hi p=>?_) (n:=n) (s:=(0,0)) Z2 ?_
 ·obtain ⟨E,⟨o,t⟩,Hl,_,e1,ho,F⟩:=S;obtain ⟨V,rfl⟩: ∃ V,E=V+1:=⟨E-1,Z2⟩
  have T:=Ii (λn (s:Ξ) i=>ND c q pos pos.length lost n (.l2 o t i s)) c.ce.length 1
   (λi s=>B3 c pos lost i (Ly c pos) s) (λn i s GM hi p=>?_) (n:=V) (s:=lost) Z2 (B3.zero D)
  ·obtain ⟨z,l,Ol,_,e2,hL⟩:=T;obtain ⟨B,rfl⟩: ∃ B,z=B+1:=⟨z-1,Z2⟩
   simp_all [UJ,zZ,eZ,ND,eY]
  ·have e:=W.ce i hi;have f:=W.r64 hi
   show ∃ G,eY n (ND c q pos pos.length lost n) c q pos pos.length lost o t (i:Int) s=_/\ _
   unfold eY;rw [zAC (w i hi),zAG];simp only [u8];rw [zAE ⟨⟨Z2,w i hi⟩,e,f.1⟩];have y:(bits .and .i64 (pos.getD (c.ce.getD i 0).toNat 0) (pos.getD (c.ce.getD i 0).toNat 0-1)==0)=Ni (AP c pos i):=rfl;rw [y];cases u:Ni (AP c pos i)
   ·rw [zAz];obtain ⟨l',g,m,v⟩:=Ml (n:=n) (ss:=o) (c:=c) (q:=q) e.1 e.2 p.1;rw [g,zAB,zAE f.2];refine ⟨l',rfl,p.step m λj x=>?_⟩
    grind [AP,Ly,Sg]
   ·obtain ⟨l',g,m,v⟩:=Ml (n:=n) (ss:=bits .or .i64 (bits .andNot .i64 o (pos.getD (c.ce.getD i 0).toNat 0)) t) (c:=c) (q:=q) e.1 e.2 p.1;rw [g,zAB,zAE f.2];refine ⟨l',rfl,p.step m λj x=>?_⟩;rw [v,zJo,zAD,zAD,zJz,Nb,HN,zJo,zAD,F];constructor
    ·grind [AP,Ly]
    ·rintro (h | ⟨rfl,A,b,d,h5,C⟩)
     ·exact .inl h
     ·refine .inr ⟨rfl,A,.inr ?_⟩;rcases Nat.lt_or_gt_of_ne h5 with h5 | h5
      ·exact ⟨b,i,h5,hi,C,u,A⟩
      ·exact ⟨i,b,h5,d,⟨u,A⟩,C⟩
 ·obtain ⟨o,t⟩:=s;obtain ⟨g,m⟩:=p;simp only at g m;have e:=W.ce i hi;have f:=W.r64 hi
  show ∃ G,eZ n (ND c q pos pos.length lost n) c q pos pos.length lost o t (i:Int)=_/\ _
  unfold eZ;rw [zAC (w i hi),zAG];simp only [u8];rw [zAE ⟨⟨Z2,w i hi⟩,e,f.1⟩];have y:(bits .and .i64 (pos.getD (c.ce.getD i 0).toNat 0) (pos.getD (c.ce.getD i 0).toNat 0-1)==0)=Ni (AP c pos i):=rfl;rw [y];cases u:Ni (AP c pos i)
  ·rw [zAz,zAE f.2];refine ⟨(o,t),rfl,λj=>?_,λj=>?_⟩
   ·grind [Sg]
   ·rw [m];constructor
    ·rintro ⟨a,b,r,d,h⟩;exact ⟨a,b,r,Z2,h⟩
    ·rintro ⟨a,b,r,d,h⟩;rcases zIR.1 d with d | rfl
     ·exact ⟨a,b,r,d,h⟩
     ·rw [h.2.1] at u;cases u
  ·rw [zAG,zAE f.2];refine ⟨(bits .or .i64 o (AP c pos i),bits .or .i64 t (bits .and .i64 o (AP c pos i))),rfl,λj=>?_,λj=>?_⟩
   ·rw [Nb,zJo,g];constructor
    ·rintro (⟨a,K,h⟩ | h)
     ·exact ⟨a,Z2,h⟩
     ·exact ⟨i,Z2,u,h⟩
    grind [Sg]
   ·rw [Nb,FE,zJo,zAD,g,m];constructor
    ·rintro (⟨a,b,r,d,h⟩ | ⟨⟨a,K,h⟩,v⟩)
     ·exact ⟨a,b,r,Z2,h⟩
     grind [Sg]
    ·rintro ⟨a,b,r,d,h,v⟩;rcases zIR.1 d with d | rfl
     ·exact .inl ⟨a,b,r,d,h,v⟩
     grind [Sg]
 simp_all [Js]
end
end
end Go.Proofs.YtodinaconebmdaaGreatDoor
namespace Go.Proofs
open Go.Shelf
def Tryz.lays189_ren:Go.Shelf.Ren:=⟨λ| 189=>166 | 125=>171 | 257=>170 | 128=>181 | 129=>182 | 294=>172 | 295=>173 | 296=>174 | 297=>175 | 298=>176 | 299=>177 | 216=>178 | 300=>179 | 301=>180 | 328=>183 | 329=>184 | 330=>185 | 331=>186 | 332=>187 | 215=>188 | 343=>189 | n=>n,λ| 28=>22 | 3=>3 | 46=>66 | 0=>0 | 51=>181 | 53=>73 | 4=>4 | 183=>200 | 182=>199 | 131=>63 | 5=>5 | 9=>9 | 218=>204 | 222=>208 | 228=>210 | 229=>150 | n=>n,λ| n=>n⟩
def Tryz.lays189:Go.Proofs.Lays.n189 Tryz.prog Tryz.lays189_ren:={
 mixed:=by kernel_rfl
 f125:=Tryz.func171.trans (congrArg some (by kernel_rfl))
 f128:=Tryz.func181.trans (congrArg some (by kernel_rfl))
 f129:=Tryz.func182.trans (congrArg some (by kernel_rfl))
 f189:=Tryz.func166.trans (congrArg some (by kernel_rfl))
 f215:=Tryz.func188.trans (congrArg some (by kernel_rfl))
 f216:=Tryz.func178.trans (congrArg some (by kernel_rfl))
 f257:=Tryz.func170.trans (congrArg some (by kernel_rfl))
 f294:=Tryz.func172.trans (congrArg some (by kernel_rfl))
 f295:=Tryz.func173.trans (congrArg some (by kernel_rfl))
 f296:=Tryz.func174.trans (congrArg some (by kernel_rfl))
 f297:=Tryz.func175.trans (congrArg some (by kernel_rfl))
 f298:=Tryz.func176.trans (congrArg some (by kernel_rfl))
 f299:=Tryz.func177.trans (congrArg some (by kernel_rfl))
 f300:=Tryz.func179.trans (congrArg some (by kernel_rfl))
 f301:=Tryz.func180.trans (congrArg some (by kernel_rfl))
 f328:=Tryz.func183.trans (congrArg some (by kernel_rfl))
 f329:=Tryz.func184.trans (congrArg some (by kernel_rfl))
 f330:=Tryz.func185.trans (congrArg some (by kernel_rfl))
 f331:=Tryz.func186.trans (congrArg some (by kernel_rfl))
 f332:=Tryz.func187.trans (congrArg some (by kernel_rfl))
 f343:=Tryz.func189.trans (congrArg some (by kernel_rfl))
 t0:=Tryz.underlying0
 a0:=Tryz.isAgg0
 z0:=Tryz.sizeOf0
 v0:=Tryz.zeroValue0
 t3:=Tryz.underlying3
 a3:=Tryz.isAgg3
 z3:=Tryz.sizeOf3
 v3:=Tryz.zeroValue3
 t4:=Tryz.underlying4
 a4:=Tryz.isAgg4
 z4:=Tryz.sizeOf4
 v4:=Tryz.zeroValue4
 t5:=Tryz.underlying5
 a5:=Tryz.isAgg5
 z5:=Tryz.sizeOf5
 v5:=Tryz.zeroValue5
 t9:=Tryz.underlying9
 a9:=Tryz.isAgg9
 z9:=Tryz.sizeOf9
 v9:=Tryz.zeroValue9
 t28:=Tryz.underlying22
 a28:=Tryz.isAgg22
 z28:=Tryz.sizeOf22
 v28:=Tryz.zeroValue22
 t46:=Tryz.underlying66
 a46:=Tryz.isAgg66
 z46:=Tryz.sizeOf66
 v46:=Tryz.zeroValue66
 t51:=Tryz.underlying181
 a51:=Tryz.isAgg181
 z51:=Tryz.sizeOf181
 v51:=Tryz.zeroValue181
 t53:=Tryz.underlying73
 a53:=Tryz.isAgg73
 z53:=Tryz.sizeOf73
 v53:=Tryz.zeroValue73
 t131:=Tryz.underlying63
 a131:=Tryz.isAgg63
 z131:=Tryz.sizeOf63
 v131:=Tryz.zeroValue63
 t182:=Tryz.underlying199
 a182:=Tryz.isAgg199
 z182:=Tryz.sizeOf199
 v182:=Tryz.zeroValue199
 t183:=Tryz.underlying200
 a183:=Tryz.isAgg200
 z183:=Tryz.sizeOf200
 v183:=Tryz.zeroValue200
 t218:=Tryz.underlying204
 a218:=Tryz.isAgg204
 z218:=Tryz.sizeOf204
 v218:=Tryz.zeroValue204
 t222:=Tryz.underlying208
 a222:=Tryz.isAgg208
 z222:=Tryz.sizeOf208
 v222:=Tryz.zeroValue208
 t228:=Tryz.underlying210
 a228:=Tryz.isAgg210
 z228:=Tryz.sizeOf210
 v228:=Tryz.zeroValue210
 t229:=Tryz.underlying150
 a229:=Tryz.isAgg150
 z229:=Tryz.sizeOf150
 v229:=Tryz.zeroValue150 }
open Go.Sort Go.RowKit in
def Tryz.slices_Sort_int (blk off cap:Nat)(Z:List Int)(w:World)(B:Holds (Value.int .i64) w blk off Z.toArray)(a:blk<w.heap.size)(f:Z.length<4611686018427387904):
 Calls Tryz.prog 166 #[.slice (some ⟨blk,off,none⟩) Z.length cap] w λe w'=>
  e= .returned (.tuple #[])/\ ∃ n W,w'=grow (putRow (Value.int .i64) (Sort.ahead w n) blk off (Z.mergeSort λx y=>decide (x<=y)).toArray) W:=Any.slices_Sort_int Tryz.lays189 blk off cap Z w B a f
end Go.Proofs
namespace Go.Proofs.YtodinaconebmdaaGreatDoor
open Go.RowKit
section
def TY (a:Int):Ξ -> Ξ
 | []=>[a]
 | b::l=>if a<=b then a::b::l else b::TY a l
def I5:Ξ -> Ξ
 | []=>[]
 | a::l=>TY a (I5 l)
def kw (a:Int): ∀ l:Ξ,(TY a l).Perm (a::l)
 | []=>zQD _
 | b::l=>by
  unfold TY;split
  ·exact zQD _
  ·exact ((kw a l).cons b).trans (List.Perm.swap a b l)
theorem ZU: ∀ l:Ξ,(I5 l).Perm l
 | []=>zQD _
 | a::l=>(kw a _).trans ((ZU l).cons a)
theorem wy (a:Int): ∀ l:Ξ,l.Pairwise (· <= ·) -> (TY a l).Pairwise (· <= ·)
 | [],_=>List.pairwise_singleton _ _
 | b::l,h=>by
  have h':=List.pairwise_cons.1 h;unfold TY;split
  ·rename_i r;refine List.pairwise_cons.2 ⟨λx hx=>?_,h⟩
   grind
  ·rename_i r;refine List.pairwise_cons.2 ⟨λx hx=>?_,wy a l h'.2⟩;rcases zKP.1 ((kw a l).mem_iff.1 hx) with rfl | hx
   ·omega
   ·exact h'.1 x hx
theorem rH: ∀ l:Ξ,(I5 l).Pairwise (· <= ·)
 | []=>List.Pairwise.nil
 | a::l=>wy a _ (rH l)
theorem zCH (l:Ξ):(l.mergeSort λx y=>decide (x<=y))=I5 l:=by
 grind [List.Perm.eq_of_pairwise,rH,List.mergeSort_perm,ZU,List.pairwise_mergeSort]
def VB (l:Ξ):(I5 l).length=l.length:=(ZU l).length_eq
variable {b o:Nat}{w:World}
theorem zL6 {l l':Ξ}{cs:Array Value}{t:TypeId}{z:Nat×Nat}(h:w.heap[b]? =some (.cells cs t z))(hl:l.length=l'.length)(n:Nat)(W:Array Obj):
 ∃ v,(Sort.grow (Sort.putRow (Value.int .i64) (Sort.ahead w n) b o l'.toArray) W).heap[b]? =some (.cells v t z)/\ v.size=cs.size/\ ∀ j,j<l.length -> o+j<cs.size -> v[o+j]? =some (.int .i64 (l'.getD j 0)):=by
 have c:b<w.heap.size:=(zA0.1 h).1;refine ⟨Sort.putCells (Value.int .i64) o l'.toArray cs,?_,by simp [Sort.putCells],λj hj hs=>?_⟩
 ·simp only [Sort.grow,Sort.putRow,Sort.mapBlock,Sort.ahead];rw [Array.getElem?_append_left (by simpa using c),zQH,zAE rfl,h];rfl
 simp_all [Sort.putCells]
theorem zBX (hb:b<w.heap.size)(d:Array Int)(n:Nat)(W:Array Obj):AS (λk=>k=b) w (Sort.grow (Sort.putRow (Value.int .i64) (Sort.ahead w n) b o d) W):=by
 refine ⟨rfl,rfl,rfl,by simp [Sort.ahead],λk hk Ah=>?_⟩;simp only [Sort.grow,Sort.putRow,Sort.mapBlock,Sort.ahead]
 grind
theorem zCG (l:Ξ){n:Nat}(y:n=l.length)(d:l.length<=Av):ES Tryz.prog GG 166 [.msl 0 1 0 n] [some (.ints l)] (.tup 0 λj=>([]:List DV).getD j .any) [some (.ints (I5 l))] false:=by
 subst y;refine ⟨⟨_,Tryz.func166,Z6,rfl⟩,λN ρ w args HR F=>?_⟩;obtain ⟨p,f,g⟩:=HR.obj 0 _ rfl;have g:AY w p l.length λj u=>u= .int .i64 (l.getD j 0):=g
 have h0:=F.2 0 Z3;obtain ⟨p',cap,L,hv,Qy,Ts,Oh⟩:=h0;have Z:p'=p:=zA2 (L.symm.trans f);subst Z;have A:args.size=1:=by have:=F.1;simpa using this.symm
 have K:args= #[.slice (some ⟨p'.blk,p'.off,none⟩) l.length cap]:=by
  apply Array.ext
  ·simp [A]
  simp_all
 have B:Sort.Holds (Value.int .i64) w p'.blk p'.off l.toArray:=λj i=>by
  have i:j<l.length:=by simpa using i
  obtain ⟨u,c1,c2⟩:=g.cell i;refine ⟨Z4,g.frozen _⟩
 obtain ⟨k,cs,t,R,G,C,_⟩:=g;have a:p'.blk<w.heap.size:=(zA0.1 R).1;subst K;refine (Tryz.slices_Sort_int p'.blk p'.off cap l w B a (by unfold Av at d;omega)).mono ?_;rintro e w' ⟨rfl,m,W,rfl⟩;rw [zCH];obtain ⟨q,r,s,D⟩:=zL6 (o:=p'.off) R (VB l).symm m W;have x:AS p'.foot w (Sort.grow (Sort.putRow (Value.int .i64) (Sort.ahead w m) p'.blk p'.off (I5 l).toArray) W):=by grind [zBX]
 show ∃ v,Ending.returned (.tuple #[])=Ending.returned v/\ B8 Tryz.prog GG N _ ρ w false _ _ v (Sort.grow (Sort.putRow (Value.int .i64) (Sort.ahead w m) p'.blk p'.off (I5 l).toArray) W)
 refine ⟨_,rfl,⟨⟨ρ,HR.write (o':=.ints (I5 l)) rfl f x (λb a=>?_) ?_,⟨#[],rfl,rfl,λj i=>absurd i (zA6 j)⟩,A3.write rfl f x,λ_ _ h=>h⟩,λh=>by cases h⟩⟩
 ·rw [k] at a;exact .cells (c:=q) (t:=t) (z:=(0,0)) (by rw [show b=p'.blk from a];exact r)
 ·refine ⟨k,q,t,r,by rw [s,VB];exact G,by rw [s];exact C,λj i=>?_⟩;rw [VB] at i;exact ⟨_,D j i Z2,rfl⟩
end
section
set_option maxRecDepth 100000
set_option maxHeartbeats 40000000
inductive NG where
 | s0
 | s1 (MW:Nat) (JH:Ξ)
def zAe:NG -> DH
 | .s0=>[none,oC [.nils]]
 | .s1 H s=>[none,oC [.msl 2 1 0 H],oI s]
def fl (n:Nat)(j:Int):Option NG:= if (0=0/\ 1=([j]:Ξ).length)/\ 0<([j]:Ξ).length/\ ([j]:Ξ).length<=Av then some (.s1 (([j]:Ξ).length) ([j]:Ξ)) else none
def fk (n:Nat)(j:Int)(H:Nat)(s:Ξ):Option NG:= if (0=0/\ 1=([j]:Ξ).length)/\ (0=0/\ H=s.length)/\ s.length+([j]:Ξ).length<=Av then some (.s1 (s.length+([j]:Ξ).length) (s++([j]:Ξ))) else none
def oZ (n:Nat)(j:Int):NG -> Option NG
 | .s0=>fl n j
 | .s1 H s=>fk n j H s
def NH (n:Nat)(j:Int)(s:NG):Option NG:=oZ n j s
def zPB (n:Nat)(l B:Nat)(N:Yd 2)(j:Int)(s:NG)(r:NG)(h:NH n j s=some r):TA l B N (Cx 2 [] 0 (zAe r)) Tryz.f169 6 ⟨AH 13 [(2,.ref 1 0),(6,.it 0),(7,.i j)],zAe s⟩:=by
 cases s with
 | s0=>
  replace h:fl n j=some r:=h;unfold fl at h;refine ag AD [0,1] H0 (AH 13 [(2,.ref 1 0),(5,.i j)]) [none,oC [.nils]] λN=>?_
  revert r;apply gO;exact gi (jt (lF λp=>rr AD [0,1,3] rfl p))
 | s1 H a=>
  replace h:fk n j H a=some r:=h;unfold fk at h;refine ag AD [0,1,2] H0 (AH 13 [(2,.ref 1 0),(5,.i j)]) [none,oC [.msl 2 1 0 H],oI a] λN=>?_
  revert r;apply gO;exact gi (jt (lF λp=>rr AD [0,1,4] rfl p))
def oY (n:Nat)(l:Ξ):Option Ξ:=
 (CK (NH n) l (.s0)).bind λa=>
  match a with
  | .s0=>
   none
  | .s1 d e=>
   if d=e.length then
    some e
   else none
def Yb (n:Nat)(l:Ξ):Option Ξ:=oY n l
variable {r l:Ξ}{n:Nat}
def zPA (h:Yb n l=some r):EQ 169 [.nils,.it 0] [some (.iter ((l).map Br))] (.msl 1 1 0 r.length) [none,oI r] false:=by
 unfold Yb oY at h;refine ot Tryz.func169 λB N=>?_
 revert r;apply gO
 exact cn λe a=>λp r h=>by
  refine gs AD [0,1] p (HI (Ac Tryz.f169) 6 []) (AH 13 [(2,.ref 1 0),(6,.it 0)]) [some (.iter ((l).map Br)),oC [.nils]] ?_;refine r0 0 6 #[7] Br 2 a (zPB n) ?_;cases e with
  | s0=>
   dsimp only at h
   revert r;apply gO;exact nO
  | s1 d gH=>
   dsimp only at h
   revert r;apply gO;exact gn λW=>lF λp=>el AD [4] [0,2] p [] H0 [.msl 1 1 0 d] (AM.mslN W)
def ny (n:Nat)(l:Ξ):Option Ξ:= (Yb n l).bind λe=> some e
def fL (n:Nat)(l:Ξ):Option Ξ:=ny n l
def zOM (h:fL n l=some r):EQ 165 [.it 0] [some (.iter ((l).map Br))] (.msl 1 1 0 r.length) [none,oI r] false:=by
 unfold fL ny at h;refine ot Tryz.func165 λB N=>?_
 revert r;apply gO;exact ce zPA [0] [some (.iter ((l).map Br))] λe=>lF λp=>el AD [2] [0,1] p [] H0 [.msl 1 1 0 e.length] (AM.mslN rfl)
def iG (n:Nat)(l:Ξ):Option Ξ:= (fL n l).bind λe=> if e.length<=Av then if e.length=(I5 e).length then some (I5 e) else none else none
def SI (n:Nat)(l:Ξ):Option Ξ:=iG n l
def zCE (h:SI n l=some r):EQ 152 [.it 0] [some (.iter ((l).map Br))] (.msl 1 1 0 r.length) [none,oI r] false:=by
 unfold SI iG at h;refine ot Tryz.func152 λB N=>?_
 revert r;apply gO;exact ce zOM [0] [some (.iter ((l).map Br))] λe=>gn λW=>jc (em (zCG e (n:=e.length) (Eq.refl e.length) W) [1] [none,oI e]) (gn λa=>lF λp=>el AD [2] [0,1] p [] H0 [.msl 1 1 0 e.length] (AM.mslN a))
def zg (n:Nat)(H:List Ξ)(J:Ω)(start:Int):W6:= (Ow n H ([J]:List Ω)).bind λe=> bif (e != 0) then some (([]:Ξ),e) else bif (decide (start<0)) then some (([]:Ξ),1) else bif (decide (start>=(H.length:Int))) then some (([]:Ξ),1) else if 0<=start/\ start<(J.length:Int) then bif (!(J.getD start.toNat false)) then some (([]:Ξ),1) else (Ia n H start J).bind λx=> (SI n x).bind λy3=> some (y3,0) else none
def UM (n:Nat)(H:List Ξ)(J:Ω)(start:Int):W6:=zg n H J start
variable {J:Ω}{H:List Ξ}
def zOK {start:Int}{r:Ξ×Int}(h:UM n H J start=some r):EQ 138 [.sl 1 H.length (AO AW H),.bools J,.i start] [] (.tup 2 (L1 [.ints r.1,.i r.2])) [] true:=by
 refine ot Tryz.func138 λB N=>?_
 revert r;apply gO;exact ja 10 0 1 (Gb (c:=fZ) (L:=([J]:List Ω)) (vals:=[.bools J]) rfl ⟨⟨_,rfl,⟨Ar,trivial⟩⟩,trivial⟩) (jz 10 0 (jg (Eq.refl 1) (cf yT [none] λe=>bi 13 (lF λp=>el AD [6,7] [] p [] H0 [.nils,.i e] (AM.tupL (l:=[.nils,.i e]) (l':=[.ints ([]:Ξ),.i e]) rfl ⟨AM.ints_nil,Ar,trivial⟩)) (bi 16 (lF λp=>el AD [6,7] [] p [] H0 [.nils,.i 1] (AM.tupL (l:=[.nils,.i 1]) (l':=[.ints ([]:Ξ),.i 1]) rfl ⟨AM.ints_nil,Ar,trivial⟩)) (bi 21 (lF λp=>el AD [6,7] [] p [] H0 [.nils,.i 1] (AM.tupL (l:=[.nils,.i 1]) (l':=[.ints ([]:Ξ),.i 1]) rfl ⟨AM.ints_nil,Ar,trivial⟩)) (gi (bi 28 (lF λp=>el AD [6,7] [] p [] H0 [.nils,.i 1] (AM.tupL (l:=[.nils,.i 1]) (l':=[.ints ([]:Ξ),.i 1]) rfl ⟨AM.ints_nil,Ar,trivial⟩)) (cn λx A=>jc (i6 A [none]) (ce zCE [1] [none,some (.iter ((x).map Br))] λy3=>lF λp=>ez AD [6,7] [2] p [0] (H0.g (Eq.refl y3.length)))))))))))
def qj:ST:=.rd 0 (.rd 1 (.ef 2 (.ef 3 (.fin [] [4,5]) (.no)) (.no)))
def zDr:B2 (A0 Tryz.f141 11) [2] qj:=Z1
def Nj:BF:=λi=>match i with
 | 11=>.tre [2] qj
 | _=>.no
def zLF (H:List Ξ)(f:Int)(e o1:Ξ):DH:=[oC [.msl 3 1 0 H.length],oC [.i (f+1)],some (.iter ((e).map Br)),oI o1]
def qK (H:List Ξ)(o1:Ξ)(f:Int):St:=⟨(AH 42 [(4,.ref 0 0),(5,.ref 2 0)]),([oC [.msl 1 1 0 H.length],oI o1,oC [.i f]]:DH)⟩
inductive OI where
 | s0 (LR:Ξ)
def vA (H:List Ξ)(AL:Ω)(x13 f:Int):OI -> DH
 | .s0 M=>[oC [.msl 3 1 0 H.length],oC [.i (f+1)],none,oI M]
def bW (n:Nat)(H:List Ξ)(AL:Ω)(x13 f i:Int)(M:Ξ):Option OI:= if (0<=i/\ i<(H.length:Int))/\ 0+i.toNat<M.length then some (.s0 (M.set (0+i.toNat) (f+1))) else none
def u9 (n:Nat)(H:List Ξ)(J:Ω)(x13 f i:Int):OI -> Option OI
 | .s0 M=>bW n H J x13 f i M
def WJ (n:Nat)(H:List Ξ)(J:Ω)(x13 f i:Int)(s:OI):Option OI:=u9 n H J x13 f i s
def zHR (n:Nat)(H:List Ξ)(J:Ω)(x13 f:Int)(l B:Nat)(N:Yd 3)(a:Int)(s:OI)(r:OI)(h:WJ n H J x13 f a s=some r):TA l B N (Cx 3 [] 0 (vA H J x13 f r)) Tryz.f141 33 ⟨AH 42 [(0,.sl 1 H.length (AO AW H)),(1,.bools J),(4,.ref 0 0),(5,.ref 1 0),(12,.i (H.length:Int)),(13,.i x13),(33,.it 2),(34,.i a)],vA H J x13 f s⟩:=by
 cases s with
 | s0 M=>
  replace h:bW n H J x13 f a M=some r:=h;unfold bW at h;refine ag Nj [0,1,2,3] H0 (AH 42 [(4,.ref 0 0),(5,.ref 1 0),(7,.i a)]) [oC [.msl 3 1 0 H.length],oC [.i (f+1)],none,oI M] λN=>?_
  revert r;apply gO;exact gc (gi (gi (lF λp=>rr Nj [0,1,2,3] rfl p)))
inductive bX where
 | l1 (x13:Int) (o1:Ξ) (Cg:Int)
def WI (n:Nat)(self:bX -> W6)(H:List Ξ)(J:Ω)(x13:Int)(o1:Ξ)(f:Int):W6:=
 bif (decide (x13<(H.length:Int))) then
  if 0<=x13/\ x13<(J.length:Int) then
   bif (!(J.getD x13.toNat false)) then
    if AG (x13+1) then
     self (.l1 (x13+1) o1 f)
    else none
   else
    if (0<=x13/\ x13<(H.length:Int))/\ 0+x13.toNat<o1.length then
     bif (decide ((o1.getD (0+x13.toNat) 0)>0)) then
      if AG (x13+1) then
       self (.l1 (x13+1) o1 f)
      else none
     else
      if AG (f+1) then
       (Ia n H x13 J).bind λe=>
        (CK (WJ n H J x13 f) e (.s0 o1)).bind λx=>
         match x with
         | .s0 a=>
          if AG (x13+1) then
           self (.l1 (x13+1) a (f+1))
          else none
      else none
    else none
  else none
 else
  if H.length=o1.length then
   some (o1,f)
  else none
def u7 (n:Nat)(self:bX -> W6)(H:List Ξ)(AL:Ω):W6:= if ((H.length:Int):Int)=(H.length:Int)/\ 0<=(H.length:Int)/\ ((H.length:Int):Int)<=1000000000000 then self (.l1 0 (List.replicate H.length (0:Int)) 0) else none
def TE (H:List Ξ)(J:Ω):Nat -> bX -> W6
 | 0,_=>none
 | n+1,.l1 x13 o1 f=>WI n (TE H J n) H J x13 o1 f
def parts (n:Nat)(H:List Ξ)(J:Ω):W6:=u7 n (TE H J n) H J
def zHS (n B:Nat)(N:Yd 0)(H:List Ξ)(J:Ω)(r:Ξ×Int):bX -> Prop:=px n B Fence.wide N (FQ Tryz.f141 0 (.tup 2 (L1 [.ints r.1,.i r.2])) []) (Ac Tryz.f141) λ
 | .l1 x13 o1 f=>(0,0,AH 42 [(0,.sl 1 H.length (AO AW H)),(1,.bools J),(4,.ref 0 0),(5,.ref 2 0),(12,.i (H.length:Int)),(13,.i x13)],[oC [.msl 1 1 0 H.length],oI o1,oC [.i f]])
def zHT (B:Nat)(N:Yd 0)(H:List Ξ)(J:Ω):Al (TE H J) (zHS · B N H J):=ia (λ_=>rfl) λn w a r h=>by
 cases a
 case l1 x13 o1 Cg=>
  intro m k;refine rd k λm k=>?_
  revert r;apply gO
  exact bi 14 (gi (bi 20 (gw 39 (lG Nj [0,1,2] (w _ _ · m k))) (gc (gi (gi (bi 26 (gw 39 (lG Nj [0,1,2] (w _ _ · m k))) (gw 29 (jt (cn λe b=>jc (i6 b [oC [.msl 1 1 0 H.length],oI o1,oC [.i (Cg+1)]]) (cn λx A=>λp r h=>by
   refine gs Nj [0,2,3,1] p (HI (Ac Tryz.f141) 33 [m]) (AH 42 [(0,.sl 1 H.length (AO AW H)),(1,.bools J),(4,.ref 0 0),(5,.ref 1 0),(12,.i (H.length:Int)),(13,.i x13),(33,.it 2)]) (zLF H Cg e o1) ?_;refine r0 2 33 #[34] Br 3 A (zHR n H J x13 Cg) ?_;cases x with
   | s0 Ez=>
    dsimp only at h
    revert r;apply gO;exact gw 39 (lG Nj [0,3,1] (w _ _ · m k)))))))))))) (jg zDr (jt (jt (jg (Eq.refl (qK H o1 Cg)) (gn λW=>lF λp=>ez (tg:=[([(2,0)],(qK H o1 Cg))]) Nj [4,5] [0,1,2] p [1] (H0.g W))))))
def zHP {r:Ξ×Int}(h:parts n H J=some r):EQ 141 [.sl 1 H.length (AO AW H),.bools J] [] (.tup 2 (L1 [.ints r.1,.i r.2])) [] true:=by
 refine ot Tryz.func141 λB N=>?_
 revert r;apply gO;exact gi (jt (lN Nj [0,2,1] ((zHT B N H J n) _ _ · n Nat.le.refl)))
end
section
set_option maxRecDepth 100000
set_option maxHeartbeats 40000000
def gN (n:Nat)(P:Int)(inn:Ω):Option Ω:= (RD n inn).bind λe=> if (0<=P/\ P<(e.length:Int))/\ 0+P.toNat<e.length then if e.length=(e.set (0+P.toNat) false).length then some (e.set (0+P.toNat) false) else none else none
def Ut (n:Nat)(P:Int)(inn:Ω):Option Ω:=gN n P inn
variable {n:Nat}
def zBI {P:Int}{inn:Ω}{r:Ω}(h:Ut n P inn=some r):EQ 140 [.i P,.fp 1 (L1 [.bools inn])] [] (.msl 0 1 0 r.length) [some (.bools r)] true:=by
 unfold Ut gN at h;refine ot Tryz.func140 λB N=>?_
 revert r;apply gO;exact cn λe a=>jc (ES.snapNew (ds:=[.bools inn]) (zm a) [] (oh Z5) rfl) (gc (gi (gi (gn λb=>lF λp=>el AD [3] [0] p [] H0 [.msl 0 1 0 e.length] (AM.mslN b)))))
def zDF:Ae (A0 Tryz.f131 16) [] (List.range 7) []:=Z0
def IV:BF:=λi=>match i with
 | 16=>.ord [] (List.range 7) []
 | _=>.no
def xQ (J a:Ω)(at_:Int):DH:=[oC [.bools J],oC [.bools a],oC [.i at_],oC [.bool false],none]
def zKZ (J a:Ω)(at_:Int):DH:=[oC [.bools J],oC [.bools a],oC [.i at_],oC [.bool false],none,none]
def zKY (J a:Ω)(at_:Int)(y3:Ξ×Int):DH:=[oC [.bools J],oC [.bools a],oC [.i at_],oC [.bool false],none,none,oC [.ints y3.1],oC [.i 0]]
def zKX (a:Ω)(at_:Int)(y3:Ξ×Int)(m:Ξ):DH:=[oC [.bools a],oC [.i at_],oC [.bool false],oC [.ints y3.1],oC [.i 0],some (.iter ((m).map Br))]
def zKW (a:Ω)(at_:Int)(F:Bool)(y3:Ξ×Int)(Q:Int):DH:=[oC [.bools a],oC [.i at_],oC [.bool F],oC [.ints y3.1],oC [.i Q],none]
inductive Ng where
 | s0 (Ib:Bool) (Hc:Int)
def rC (a:Ω)(at_:Int)(y3:Ξ×Int):Ng -> DH
 | .s0 F Q=>[oC [.bools a],oC [.i at_],oC [.bool F],oC [.ints y3.1],oC [.i Q],none]
def VA (n:Nat)(i:Ω)(at_:Int)(y3:Ξ×Int)(N:Int)(F:Bool)(Q:Int):Option (Ng×Nat):= bif (N==at_) then some (.s0 F Q,0) else if 0<=N/\ N<(i.length:Int) then bif (!(i.getD N.toNat false)) then some (.s0 F Q,0) else bif (Q==0) then if 0<=N/\ N<(y3.1.length:Int) then some (.s0 F (y3.1.getD N.toNat 0),0) else none else if 0<=N/\ N<(y3.1.length:Int) then bif ((y3.1.getD N.toNat 0) != Q) then some (.s0 true Q,1) else some (.s0 F Q,0) else none else none
def zCC (n:Nat)(i:Ω)(at_:Int)(y3:Ξ×Int)(N:Int):Ng -> Option (Ng×Nat)
 | .s0 F Q=>VA n i at_ y3 N F Q
def I4 (n:Nat)(i:Ω)(at_:Int)(y3:Ξ×Int)(N:Int)(s:Ng):Option (Ng×Nat):=zCC n i at_ y3 N s
def zCB (n:Nat)(a:Ω)(at_:Int)(y3:Ξ×Int)(l B:Nat)(N:Yd 6)(b:Int)(s:Ng)(r:Ng×Nat)(h:I4 n a at_ y3 b s=some r):TA l B N (Cx 6 [.exit 0] r.2 (rC a at_ y3 r.1)) Tryz.f131 48 ⟨AH 76 [(6,.ref 0 0),(7,.ref 1 0),(8,.ref 2 0),(11,.ref 3 0),(13,.ref 4 0),(48,.it 5),(49,.i b)],rC a at_ y3 s⟩:=by
 cases s with
 | s0 F Q=>
  refine ag IV [0,1,2,3,4,5] H0 (AH 76 [(6,.ref 0 0),(7,.ref 1 0),(8,.ref 2 0),(11,.ref 3 0),(13,.ref 4 0),(14,.i b)]) (zKW a at_ F y3 Q) λN=>?_
  revert r;apply gO;exact bi 53 (lF λp=>rr IV [0,1,2,3,4,5] rfl p) (gi (bi 59 (lF λp=>rr IV [0,1,2,3,4,5] rfl p) (bi 63 (gi (jt (lF λp=>rr IV [0,1,2,3,4,5] rfl p))) (jg zDF (gi (bi 74 (jt (lF λp=>rr IV [0,1,2,3,4,5] rfl p)) (lF λp=>rr IV [0,1,2,3,4,5] rfl p)))))))
def rB (n:Nat)(H:List Ξ)(J i:Ω)(at_:Int):X7:=
 (Ow n H ([J,i]:List Ω)).bind λe=>
  bif (e != 0) then
   some (false,e)
  else
   bif (decide (at_<0)) then
    some (false,1)
   else
    bif (decide (at_>=(H.length:Int))) then
     some (false,1)
    else
     if 0<=at_/\ at_<(J.length:Int) then
      bif (!(J.getD at_.toNat false)) then
       some (false,0)
      else
       (Ut n at_ J).bind λx=>
        (parts n H x).bind λy3=>
         (Ia n H at_ J).bind λm=>
          (CY (I4 n i at_ y3) m (.s0 false 0)).bind λR=>
           bif R.2==0 then
            match R.1 with
            | .s0 Q f=>
             some (Q,0)
           else
            bif R.2==1 then
             match R.1 with
             | .s0 Q f=>
              some (Q,0)
            else
             none
     else none
def SH (n:Nat)(H:List Ξ)(J i:Ω)(at_:Int):X7:=rB n H J i at_
def zB9 {H:List Ξ}{J a:Ω}{at_:Int}{r:Bool×Int}(h:SH n H J a at_=some r):EQ 131 [.sl 1 H.length (AO AW H),.bools J,.bools a,.i at_] [] (.tup 2 (L1 [.bool r.1,.i r.2])) [] true:=by
 refine ot Tryz.func131 λB N=>?_
 revert r;apply gO
 exact ja 18 4 1 (Gb (c:=fZ) (L:=([J,a]:List Ω)) (vals:=[.bools J,.bools a]) rfl ⟨⟨_,rfl,⟨Ar,trivial⟩⟩,⟨_,rfl,⟨Ar,trivial⟩⟩,trivial⟩) (jz 18 4 (jg (Eq.refl 2) (cf yT (xQ J a at_) λ_=>bi 21 (jt (lE IV [8,9] [3])) (bi 24 (jt (lE IV [8,9] [3])) (bi 29 (jt (lE IV [8,9] [3])) (gi (bi 35 (jt (lE IV [8,9] [3])) (cn λx A=>jc (ES.snapNew (ds:=[.i at_,.ref 0 0]) (zBI A) (xQ J a at_) ⟨Ax.plain Z5,(Ax.refL (l:=[.bools J]) (l0:=[.bools J]) rfl ⟨Ax.plain Z5,trivial⟩),trivial⟩ rfl) (jz 41 5 (jg (Eq.refl x.length) (cf zHP (zKZ J a at_) λy3=>jt (jt (cn λm g=>jc (i6 g (zKY J a at_ y3)) (cn λd b=>λp r h=>by
  refine gs IV [1,2,3,6,7,8] p (HI (Ac Tryz.f131) 48 []) (AH 76 [(6,.ref 0 0),(7,.ref 1 0),(8,.ref 2 0),(11,.ref 3 0),(13,.ref 4 0),(48,.it 5)]) (zKX a at_ y3 m) ?_;refine rx [.exit 0] 5 48 #[49] Br 6 b (zCB n a at_ y3) λe M=>?_
  replace h:=DN h;rcases h with ⟨R,h⟩ | ⟨R,h⟩
  ·rw [zLx R] at M;cases M;revert h;cases d.1 with
   | s0 Q f=>
    intro h
    dsimp only at h
    revert r;apply gO;exact jt (lE IV [8,9] [2])
  ·replace h:=DN h;rcases h with ⟨R,h⟩ | ⟨R,h⟩
   ·rw [zLx R] at M;cases M;refine BG.exitTo Z5 ?_;revert h;cases d.1 with
    | s0 Q f=>
     intro h
     dsimp only at h
     revert r;apply gO;exact jt (lE IV [8,9] [2])
   ·cases h))))))))))))))
end
abbrev zMU:=@List.append_nil
theorem AZ.bindU {R T:Type}{a:Nat -> Option T}{b:Nat -> T -> Option R}{A:T -> Prop}{Q:R -> Prop}(K:AZ a A)(c: ∃ M,∀ n,M<=n -> ∀ x,A x -> ∃ r,b n x=some r/\ Q r):AZ (λn=>(a n).bind (b n)) Q:=by
 obtain ⟨N,K⟩:=K;obtain ⟨M,c⟩:=c;refine ⟨max N M,λn hn=>?_⟩;obtain ⟨x,h1,d⟩:=K n Z2;obtain ⟨r,h3,h4⟩:=c n Z2 x d
 grind
structure L5 (g:List Ξ):Prop where
 ok:Lq g=true
 row: ∀ r∈g,r.length<=LB
def L5.gr {g:List Ξ}(h:L5 g):Gr g:=Gr.of h.ok h.row
section
variable {g:List Ξ} {inn some':Ω} {s:Int}
variable {f:List Ω}
theorem yU (l: ∀ x∈f,x.length=g.length)(o:f.length<=256): ∀ (k i n:Nat),i+k=f.length -> k+1<=n -> T0 g f n (.l1 (i:Int))=some 0
 | 0,i,n,e,u=>by
  obtain ⟨n,rfl⟩: ∃ k,n=k+1:=⟨n-1,Z2⟩
  simp_all [d5,T0]
 | k+1,i,n,e,u=>by
  obtain ⟨n,rfl⟩: ∃ k,n=k+1:=⟨n-1,Z2⟩;have z:f.getD i []∈f:=Z4
  have F:(((f.getD i []).length:Int) != (g.length:Int))=false:=by rw [l _ z];simp
  have:=yU l o k (i+1) n Z2 Z2
  show d5 n (T0 g f n) g f i=_
  unfold d5;rw [zAC Z2,zAG,zAE ⟨Z2,Z2⟩,u8,F,zAz,zAE (Aa.2 ⟨Z2,Z2⟩)];exact this
def yW (G:L5 g)(l: ∀ x∈f,x.length=g.length)(o:f.length<=256):Ev (λn=>Ow n g f) 0:=by
 refine ⟨2*Fo g+1+f.length+1,λn hn=>?_⟩
 show Ow n g f=some 0
 unfold Ow yV;rw [yc G.row Z2,G.ok];exact yU l o f.length 0 n Z2 Z2
variable {n:Nat}
theorem zAg : ∀ (l x:Ξ),(x++l).length<=Av -> CK (NH n) l (.s1 x.length x)=some (.s1 (x++l).length (x++l))
 | [],x,h=>by rw [zMU];rfl
 | a::l,x,h=>by
  have e:x++a::l=x++[a]++l:=Z3
  rw [e] at h ⊢
  have B:NH n a (.s1 x.length x)=some (.s1 (x++[a]).length (x++[a])):=by
   grind [NH,oZ,fk]
  show (NH n a (.s1 x.length x)).bind (CK (NH n) l)=_
  rw [B,zAB];exact zAg l (x++[a]) h
variable {l:Ξ}
theorem zCF (h0:l≠[])(hl:l.length<=256):SI n l=some (I5 l):=by
 have L:(1000000000000:Nat)=Av:=rfl;cases l with
 | nil=>exact absurd rfl h0
 | cons a l=>
  have e1:NH n a .s0=some (.s1 [a].length [a]):=by
   grind [NH,oZ,fl]
  have e2:=zAg (n:=n) l [a] Z4
  have S:Yb n (a::l)=some (a::l):=by
   simp_all [Yb,oY,CK]
  unfold SI iG fL ny;rw [S,zAB,zAB,zAE Z2,zAE (VB _).symm]
def zFb (h: ∀ v,v∈l↔Rc g inn s v):l≠[]:=λe=>by
 have:=(h s).2 .start;rw [e] at this;cases this
def zFc (G:Gr g)(h0:0<=s)(a:s<(g.length:Int))(u:l.Nodup)(h: ∀ v,v∈l↔Rc g inn s v):l.length<=256:=
 zA4 (TI g.length l u λx d=>((h x).1 d).rng G h0 a) G.len
theorem zOL (G:L5 g)(h:inn.length=g.length)(h0:0<=s)(a:s<(g.length:Int))(hs:inn.getD s.toNat false=true):
 AZ (λn=>UM n g inn s) (λr=>r.2=0/\ r.1.length<=256/\ ∀ v,v∈r.1↔Rc g inn s v):=by
 have e: ∀ n,UM n g inn s=(Ow n g [inn]).bind λb=>bif (b != 0) then some (([]:Ξ),b) else (Ia n g s inn).bind λd=>(SI n d).bind λy3=>some (y3,0):=λn=>by
  grind [UM,zg]
 refine AZ.eq ?_ e;refine AZ.bind (yW G (λx hx=>Z4) Z3) ?_;refine AZ.bindU (i5 G.gr h h0 a) ⟨0,λn _ l o=>?_⟩;have c:=zFc G.gr h0 a o.1 o.2;rw [zCF (zFb o.2) c,zAB];exact ⟨_,rfl,rfl,by rw [VB];exact c,λv=>by grind [ZU]⟩
structure Pt (g:List Ξ)(inn:Ω)(i:Nat)(part:Ξ)(FN:Int):Prop where
 len:part.length=g.length
 m0:0<=FN
 m1:FN<=(i:Int)
 lo: ∀ v,v<g.length -> 0<=part.getD v 0/\ part.getD v 0<=FN
 isIn: ∀ v,v<g.length -> 0<part.getD v 0 -> inn.getD v false=true
 same: ∀ u v:Nat,u<g.length -> v<g.length -> 0<part.getD u 0 -> Rc g inn u v -> part.getD v 0=part.getD u 0
 con: ∀ u v:Nat,u<g.length -> v<g.length -> 0<part.getD u 0 -> part.getD v 0=part.getD u 0 -> Rc g inn u v
 all: ∀ v,v<i -> v<g.length -> inn.getD v false=true -> 0<part.getD v 0
 sur: ∀ m,0<m -> m<=FN -> ∃ v,v<g.length/\ part.getD v 0=m
theorem vB {n:Nat}{x13 m:Int}: ∀ (l:Ξ) (part:Ξ),part.length=g.length -> (∀ v∈l,0<=v/\ v<(g.length:Int)) ->
 ∃ j,CK (WJ n g inn x13 m) l (.s0 part)=some (.s0 j)/\ j.length=g.length/\ ∀ v:Nat,j.getD v 0=if (v:Int)∈l/\ v<g.length then m+1 else part.getD v 0
 | [],part,f,_=>⟨part,rfl,f,λv=>Z3⟩
 | a::l,part,f,o=>by
  have ha:=o a zLb
  have e1:WJ n g inn x13 m a (.s0 part)=some (.s0 (part.set a.toNat (m+1))):=by
   simp_all [WJ,u9,bW]
  obtain ⟨j,h1,b,h⟩:=vB (n:=n) (x13:=x13) (m:=m) l (part.set a.toNat (m+1)) Z4 λv s=>o v (zKA _ s)
  refine ⟨j,?_,b,λv=>?_⟩
  ·grind [CK]
  ·rw [h]
   grind
theorem Pt.go (G:Gr g){i:Nat}{part d:Ξ}{p:Int}(h:Pt g inn i part p)(hi:i<g.length)(I:inn.getD i false=true)(h0: ¬ part.getD i 0>0)(hl: ∀ v,v∈l↔Rc g inn i v)(f:d.length=g.length) 
 (hp: ∀ v:Nat,d.getD v 0=if (v:Int)∈l/\ v<g.length then p+1 else part.getD v 0):Pt g inn (i+1) d (p+1):=by
 have m0:=h.m0;have m1:=h.m1;have C: ∀ v:Nat,v<g.length -> Rc g inn i v -> d.getD v 0=p+1:=λv s j=>Z4
 have no: ∀ v:Nat,¬ Rc g inn i v -> d.getD v 0=part.getD v 0:=λv j=>Z4
 have sym: ∀ u v:Nat,u<g.length -> inn.getD u false=true -> Rc g inn u v -> Rc g inn v u:=λu v t hui j=>j.symm G Z2 Z2 (by simp_all)
 refine ⟨f,Z2,Z2,λv s=>?_,λv s c=>?_,λu v t s c j=>?_,λu v t s c M=>?_,λv s Z k=>?_,λm a b=>?_⟩
 ·have:=h.lo v s
  grind
 ·by_cases j:Rc g inn i v
  ·have:=j.isIn (by simp_all)
   simp_all
  ·rw [no v j] at c;exact h.isIn v s c
 ·by_cases a:Rc g inn i u
  ·rw [C u t a,C v s (a.trans j)]
  ·rw [no u a] at c ⊢;have b: ¬ Rc g inn i v:=λb=>a (b.trans (sym u v t (h.isIn u t c) j))
   rw [no v b];exact h.same u v t s c j
 ·have n:=(h.lo v s).2
  by_cases a:Rc g inn i u
  ·rw [C u t a] at M
   by_cases b:Rc g inn i v
   ·exact (sym i u hi I a).trans b
   ·rw [no v b] at M;omega
  ·rw [no u a] at c M;have n:=(h.lo u t).2
   by_cases b:Rc g inn i v
   ·rw [C v s b] at M;omega
   ·rw [no v b] at M;exact h.con u v t s c M
 ·rcases zIR.1 s with s | rfl
  ·have:=h.all v s Z k
   grind
  ·rw [C v Z .start];omega
 ·by_cases e:m=p+1
  ·exact ⟨i,hi,by rw [C i hi .start,e]⟩
  ·obtain ⟨v,s,J⟩:=h.sur m a Z2;refine ⟨v,s,?_⟩;rw [no v λj=>h0 ?_,J];have:=h.same v i s hi Z2 (sym i v hi I j);omega
def PtP (g:List Ξ)(inn:Ω)(r:Ξ×Int):Prop:=r.1.length=g.length/\ (∀ v,v<g.length -> inn.getD v false=true -> 0<r.1.getD v 0)/\ ∀ u v:Nat,u<g.length -> v<g.length -> inn.getD u false=true -> (r.1.getD v 0=r.1.getD u 0↔Rc g inn u v)
theorem zHO (G:Gr g)(e:inn.length=g.length):AZ (λn=>parts n g inn) (λr=>Pt g inn g.length r.1 r.2):=by
 have hG:=G.len;obtain ⟨N,W⟩:=AZ.range (F:=λ(i:Nat) n=>Ia n g i inn) (A:=λi l=>l.Nodup/\ ∀ v,v∈l↔Rc g inn i v) g.length λi hi=>i5 G e Z2 Z2
 refine ⟨N+g.length+1,λn hn=>?_⟩;have S:=Ii (λn (s:Ξ×Int) i=>TE g inn n (.l1 i s.1 s.2)) g.length (N+1) (λi s=>Pt g inn i s.1 s.2) (λn i s GM hi p=>?_) (n:=n) (s:=(List.replicate g.length 0,0)) Z2 ?_
 ·obtain ⟨E,⟨part,b⟩,Hl,_,B,p⟩:=S;obtain ⟨V,rfl⟩: ∃ V,E=V+1:=⟨E-1,Z2⟩;refine ⟨(part,b),?_,p⟩
  show parts n g inn=some (part,b)
  unfold parts u7;rw [zAE ⟨rfl,Z2,Z2⟩];refine Eq.trans B ?_
  show WI V (TE g inn V) g inn (g.length:Int) part b=_
  unfold WI;rw [zAF Z2,zAz,zAE p.len.symm]
 ·obtain ⟨part,b⟩:=s;have p:Pt g inn i part b:=p;have c:AG ((i:Int)+1):=Aa.2 ⟨Z2,Z2⟩
  show ∃ s',WI n (TE g inn n) g inn (i:Int) part b=_/\ _
  unfold WI;simp only [u8,zJv];rw [zAC Z2,zAG,zAE ⟨Z2,Z2⟩];cases I:inn.getD i false
  ·rw [zLd,zAG,zAE c];have d:=p.m1;refine ⟨(part,b),rfl,p.len,p.m0,Z4,p.lo,p.isIn,p.same,p.con,λv a Z t=>?_,p.sur⟩;rcases zIR.1 a with a | rfl
   ·exact p.all v a Z t
   ·rw [I] at t;cases t
  ·have Ag:=p.len;rw [zLa,zAz,zAE ⟨⟨Z2,Z2⟩,Z2⟩]
   by_cases h0:part.getD i 0>0
   ·rw [zAC h0,zAG,zAE c];have d:=p.m1;refine ⟨(part,b),rfl,p.len,p.m0,Z4,p.lo,p.isIn,p.same,p.con,λv a Z t=>?_,p.sur⟩;rcases zIR.1 a with a | rfl
    ·exact p.all v a Z t
    ·exact h0
   ·obtain ⟨l,f,A8,o⟩:=W n Z2 i hi;obtain ⟨j,k,q,w⟩:=vB (n:=n) (inn:=inn) (x13:=(i:Int)) (m:=b) l part p.len λv a=>((o v).1 a).rng G Z2 Z2
    have m0:=p.m0;have d:=p.m1;rw [zAF h0,zAz,zAE (Aa.2 ⟨Z2,Z2⟩),f,zAB,k,zAB];rw [zAE c];exact ⟨(j,b+1),rfl,p.go G hi I h0 o q w⟩
 ·have z: ∀ v:Nat,(List.replicate g.length (0:Int)).getD v 0=0:=λv=>by
   grind
  exact ⟨Z3,zJB _,zJB _,λv _=>Z4,λv _ h=>by rw [z] at h;omega,λu v _ _ h=>by rw [z] at h;omega,λu v _ _ h=>by rw [z] at h;omega,λv a=>absurd a (zA6 v),λm h1 h2=>Z4⟩
def zHQ (G:Gr g)(h:inn.length=g.length):AZ (λn=>parts n g inn) (PtP g inn):=(zHO G h).mono λr p=>⟨p.len,λv s hi=>p.all v s s hi,λu v t s hi=>by
 have D:=p.all u t t hi;exact ⟨p.con u v t s D,p.same u v t s D⟩⟩
def Sp (g:List Ξ)(inn some':Ω)(a:Int):Prop:=∃ u v:Int,u≠a/\ v≠a/\ some'.getD u.toNat false=true/\ some'.getD v.toNat false=true/\ Rc g inn a u/\ Rc g inn a v/\ ¬ Rc g (inn.set a.toNat false) u v
variable {y3:Ξ×Int}
theorem rF {n:Nat}{a f:Int}(i:some'.length=g.length)(hy:y3.1.length=g.length)(O:f≠0): ∀ (l:Ξ),(∀ v∈l,0<=v/\ v<(g.length:Int)) ->
 ∃ b L c,CY (I4 n some' a y3) l (.s0 false f)=some (.s0 b L,c)/\ (c=0∨c=1)/\ (b=true↔∃ v∈l,v≠a/\ some'.getD v.toNat false=true/\ y3.1.getD v.toNat 0≠f)
 | [],_=>⟨false,f,0,rfl,.inl rfl,Z3⟩
 | x::l,o=>by
  have hx:=o x zLb;obtain ⟨b,L,c,h1,h2,h3⟩:=rF (n:=n) (a:=a) i hy O l λv s=>o v (zKA _ s)
  have skip:I4 n some' a y3 x (.s0 false f)=some (.s0 false f,0) -> ¬ (x≠a/\ some'.getD x.toNat false=true/\ y3.1.getD x.toNat 0≠f) -> ∃ b L c,CY (I4 n some' a y3) (x::l) (.s0 false f)=some (.s0 b L,c)/\ (c=0∨c=1)/\ (b=true↔∃ v∈x::l,v≠a/\ some'.getD v.toNat false=true/\ y3.1.getD v.toNat 0≠f):=by
   grind [CY]
  have f0:(f==0)=false:=zJ8.2 O;have U:I4 n some' a y3 x (.s0 false f)=VA n some' a y3 x false f:=rfl;unfold VA at U
  by_cases B:x=a
  ·grind
  ·have:(x==a)=false:=zJ8.2 B;rw [this,zAz,zAE ⟨Z2,Z2⟩] at U;cases e2:some'.getD x.toNat false
   ·grind
   ·by_cases e3:y3.1.getD x.toNat 0=f
    ·grind
    ·refine ⟨true,f,1,?_,.inr rfl,?_⟩
     ·grind [CY]
     grind
theorem rG {n:Nat}{a:Int}(i:some'.length=g.length)(hy:y3.1.length=g.length): ∀ (l:Ξ),(∀ v∈l,0<=v/\ v<(g.length:Int)) -> (∀ v∈l,v≠a -> y3.1.getD v.toNat 0≠0) ->
 ∃ b L c,CY (I4 n some' a y3) l (.s0 false 0)=some (.s0 b L,c)/\ (c=0∨c=1)/\ (b=true↔∃ u∈l,∃ v∈l,u≠a/\ v≠a/\ some'.getD u.toNat false=true/\ some'.getD v.toNat false=true/\ y3.1.getD v.toNat 0≠y3.1.getD u.toNat 0)
 | [],_,_=>⟨false,0,0,rfl,.inl rfl,Z3⟩
 | x::l,o,P=>by
  have hx:=o x zLb;have Y: ∀ v∈l,0<=v/\ v<(g.length:Int):=λv s=>o v (zKA _ s)
  have skip:I4 n some' a y3 x (.s0 false 0)=some (.s0 false 0,0) -> ¬ (x≠a/\ some'.getD x.toNat false=true) -> ∃ b L c,CY (I4 n some' a y3) (x::l) (.s0 false 0)=some (.s0 b L,c)/\ (c=0∨c=1)/\ (b=true↔∃ u∈x::l,∃ v∈x::l,u≠a/\ v≠a/\ some'.getD u.toNat false=true/\ some'.getD v.toNat false=true/\ y3.1.getD v.toNat 0≠y3.1.getD u.toNat 0):=by
   intro e hn;obtain ⟨b,L,c,f,d,h⟩:=rG (n:=n) (a:=a) i hy l Y λv s=>P v (zKA _ s)
   refine ⟨b,L,c,?_,d,?_⟩
   ·grind [CY]
   grind
  have U:I4 n some' a y3 x (.s0 false 0)=VA n some' a y3 x false 0:=rfl;unfold VA at U
  by_cases B:x=a
  ·grind
  ·cases e2:some'.getD x.toNat false
   ·grind
   ·obtain ⟨b,L,c,f,d,h⟩:=rF (n:=n) (a:=a) i hy (P x zLb B) l Y;refine ⟨b,L,c,?_,d,?_⟩
    ·grind [CY]
    grind
theorem zCA (G:L5 g)(B:inn.length=g.length)(C:some'.length=g.length){a:Nat}(ha:a<g.length)(XG:inn.getD a false=true):
 AZ (λn=>SH n g inn some' (a:Int)) (λr=>r.2=0/\ (r.1=true↔Sp g inn some' (a:Int))):=by
 have hG:=G.gr.len;have L:(1000000000000:Nat)=Av:=rfl
 have hw: ∀ n,Ut n (a:Int) inn=some (inn.set a false):=λn=>by
  unfold Ut gN RD n6;rw [zAE ⟨Z2,trivial,⟨rfl,rfl⟩,Z4⟩,zAE Z3,zAB,zLn,zAE ⟨⟨Z2,Z2⟩,Z2⟩,zAE Z3,zJv,u8]
 have k:(inn.set a false).length=g.length:=Z4
 have e: ∀ n,SH n g inn some' (a:Int)=(Ow n g [inn,some']).bind λp=>bif (p != 0) then some (false,p) else (parts n g (inn.set a false)).bind λy3=>(Ia n g a inn).bind λm=>(CY (I4 n some' a y3) m (.s0 false 0)).bind λf=>bif f.2==0 then (match f.1 with | .s0 b _=>some (b,0)) else bif f.2==1 then (match f.1 with | .s0 b _=>some (b,0)) else none:=λn=>by
  grind [SH,rB]
 refine AZ.eq ?_ e
 refine AZ.bind (yW G (λx hx=>by
  grind) Z3) ?_
 show AZ (R:=Bool×Int) (λn=>(parts n g (inn.set a false)).bind λy3=>(Ia n g a inn).bind λm=>(CY (I4 n some' a y3) m (.s0 false 0)).bind λf=>bif f.2==0 then (match f.1 with | .s0 b _=>some (b,0)) else bif f.2==1 then (match f.1 with | .s0 b _=>some (b,0)) else none) _
 obtain ⟨N,W⟩:=i5 G.gr B (s:=(a:Int)) Z2 Z2;refine AZ.bindU (zHQ G.gr k) ⟨N,λn D y3 hy=>?_⟩;obtain ⟨l,o,A8,y⟩:=W n D;have o:Ia n g (a:Int) inn=some l:=o;have j: ∀ v∈l,0<=v/\ v<(g.length:Int):=λv d=>((y v).1 d).rng G.gr Z2 Z2
 have I: ∀ v∈l,v≠(a:Int) -> (inn.set a false).getD v.toNat false=true:=λv d K=>by
  have i:=j v d;rw [zBS,List.getElem?_set_ne Z2,←zBS];exact ((y v).1 d).isIn Z4
 obtain ⟨b,f',c,i,E,F⟩:=rG (n:=n) (some':=some') (a:=(a:Int)) (y3:=y3) C hy.1 l j λv d K=>by
  have i:=j v d;have:=hy.2.1 v.toNat Z2 (I v d K);omega
 rw [o,zAB,i,zAB];refine ⟨(b,0),?_,rfl,?_⟩
 ·grind
 ·show b=true↔_
  rw [F]
  have key: ∀ u v:Int,u∈l -> v∈l -> u≠a -> (y3.1.getD v.toNat 0=y3.1.getD u.toNat 0↔Rc g (inn.set a false) u v):=λu v t d K=>by
   have i:=j u t;have E:=j v d;have:=hy.2.2 u.toNat v.toNat Z2 Z2 (I u t K)
   grind
  constructor
  ·rintro ⟨u,t,v,d,A,q,w,Z,z⟩;exact ⟨u,v,A,q,w,Z,(y u).1 t,(y v).1 d,λh=>z ((key u v t d A).2 h)⟩
  ·rintro ⟨u,v,A,q,w,Z,z,h9,Jb⟩
   grind
end
section
def B6 (c:AC)(pos:Ξ)(a:Nat):Bool:=bits .andNot .i64 (AP c pos a) c.set==0
def Cu (c:AC)(pos:Ξ)(a:Nat):Bool:=B6 c pos a||(bits .and .i64 (AP c pos a) c.set != 0)
def cnt (p:Nat -> Bool)(i:Nat):Int:=(((List.range i).countP p:Nat):Int)
variable {i:Nat}{p:Nat -> Bool}
theorem UN :cnt p (i+1)=cnt p i+(if p i then 1 else 0):=by
 grind [cnt,List.range_succ]
theorem YK :0<=cnt p i/\ cnt p i<=i:=by
 grind [cnt,List.length_range]
def Ko (c:AC)(pos:Ξ):Bool:=!decide (cnt (B6 c pos) c.ce.length>c.hi)&&!decide (cnt (Cu c pos) c.ce.length<c.lo)
def IM (c:AC)(pos:Ξ)(a s:Nat):Bool:= ((cnt (B6 c pos) c.ce.length==c.hi)&&(bits .andNot .i64 (AP c pos a) c.set != 0)&&tb c.set s)||((cnt (Cu c pos) c.ce.length==c.lo)&&(bits .and .i64 (AP c pos a) c.set != 0)&&!tb c.set s)
section
variable {c:AC} {k:Nat} {pos lost:Ξ} {q:AA}
variable {n:Nat}
theorem zN1 {D I:Int}(W:B5 c k pos)(o:lost.length=pos.length)(e:D=cnt (B6 c pos) c.ce.length)(f:I=cnt (Cu c pos) c.ce.length)(hn:c.ce.length+1<=n):
 ∃ l,Kn c q pos pos.length lost n (.l2 D I 0 lost)=some (true,l)/\ B3 c pos lost c.ce.length (λa s=>IM c pos a s=true) l:=by
 have v: ∀ i,i<c.ce.length -> ((i:Nat):Int)<((c.ce.length:Nat):Int):=λi hi=>Z2
 have T:=Ii (λn (s:Ξ) i=>Kn c q pos pos.length lost n (.l2 D I i s)) c.ce.length 1
  (λi s=>B3 c pos lost i (λa s=>IM c pos a s=true) s) (λn i s GM hi h=>?_) (n:=n) (s:=lost) Z2 (B3.zero o)
 ·obtain ⟨A,l,Ol,_,F,hL⟩:=T;obtain ⟨d,rfl⟩: ∃ d,A=d+1:=⟨A-1,Z2⟩
  simp_all [fD,Kn]
 ·have b:=W.ce i hi;have g:=W.r64 hi
  have key: ∀ l':Ξ,l'.length=pos.length -> (∀ j x,tb (l'.getD j 0) x=(tb (s.getD j 0) x||(decide (j=(c.ce.getD i 0).toNat)&&(tb (pos.getD j 0) x&&IM c pos i x)))) -> B3 c pos lost (i+1) (λa s=>IM c pos a s=true) l':=by
   intro l' m h2;refine h.step m λj x=>?_
   grind [AP]
  obtain ⟨u,B,E,f1⟩:=Ml (lost:=s) (n:=n) (ss:=c.set) (c:=c) (q:=q) b.1 b.2 h.1;obtain ⟨l2,F,n2,f2⟩:=jx (lost:=u) (n:=n) (c:=c) (q:=q) b.1 b.2 E;obtain ⟨l3,S,A,f3⟩:=jx (lost:=s) (n:=n) (c:=c) (q:=q) b.1 b.2 h.1;have p:decide ((i:Int)<((c.ce.length:Nat):Int))=true:=zAC (v i hi);have r:(0:Int)<=(i:Int)/\ (i:Int)<((c.ce.length:Nat):Int):=⟨Z2,v i hi⟩
  show ∃ s',fD n (Kn c q pos pos.length lost n) c q pos pos.length lost D I (i:Int) s=_/\ _
  unfold fD;rw [p,zAG,zAE r];simp only [u8];have X: ∀ x,IM c pos i x=(((D==c.hi)&&(bits .andNot .i64 (pos.getD (c.ce.getD i 0).toNat 0) c.set != 0)&&tb c.set x)||((I==c.lo)&&(bits .and .i64 (pos.getD (c.ce.getD i 0).toNat 0) c.set != 0)&&!tb c.set x)):=λx=>by rw [e,f];rfl
  cases t:(D==c.hi) <;> cases U:(I==c.lo) <;> cases H:(bits .andNot .i64 (pos.getD (c.ce.getD i 0).toNat 0) c.set != 0) <;> cases w:(bits .and .i64 (pos.getD (c.ce.getD i 0).toNat 0) c.set != 0) <;>
   simp only [t,H,U,w,zMB,zQY,Bool.and_false,Bool.and_true,Bool.or_false,zNg] at X <;>
   simp only [zAG,zAz,zAE b,B,F,S,zAB,zAE g.2]
  all_goals grind [B3]
theorem zN2 (W:B5 c k pos)(o:lost.length=pos.length)(hn:2*c.ce.length+3<=n):
 ∃ l,UL n c q pos pos.length lost=some (Ko c pos,l)/\ (Ko c pos=true -> B3 c pos lost c.ce.length (λa s=>IM c pos a s=true) l):=by
 have v: ∀ i,i<c.ce.length -> ((i:Nat):Int)<((c.ce.length:Nat):Int):=λi hi=>Z2
 have S:=Ii (λn (s:Δ) i=>Kn c q pos pos.length lost n (.l1 s.1 s.2 i)) c.ce.length (c.ce.length+3)
  (λi s=>s.1=cnt (B6 c pos) i/\ s.2=cnt (Cu c pos) i) (λn i s _ hi d=>?_) (n:=n) (s:=(0,0)) Z2 ⟨rfl,rfl⟩
 ·obtain ⟨E,⟨D,I⟩,Hl,_,B,h,A⟩:=S;obtain ⟨V,rfl⟩: ∃ V,E=V+1:=⟨E-1,Z2⟩;have F:UL n c q pos pos.length lost=YE V (Kn c q pos pos.length lost V) c q pos pos.length lost D I (c.ce.length:Int):=B;unfold YE at F;unfold Ko;cases h5:decide (D>c.hi)
  ·cases h6:decide (I<c.lo)
   ·obtain ⟨l,e3,hL⟩:=zN1 (q:=q) (n:=V) W o h A Z2
    grind
   grind
  grind
 ·obtain ⟨D,I⟩:=s;obtain ⟨h,A⟩:=d;simp only at h A;have e:=W.ce i hi;have hr:=W.r64 hi;have b3:=YK (p:=B6 c pos) (i:=i);have b4:=YK (p:=Cu c pos) (i:=i);have Ag:=W.len;have r3:AG (D+1):=Aa.2 ⟨Z2,Z2⟩;have r4:AG (I+1):=Aa.2 ⟨Z2,Z2⟩
  show ∃ s',YE n (Kn c q pos pos.length lost n) c q pos pos.length lost D I (i:Int)=_/\ _
  unfold YE;rw [zAC (v i hi),zAG];simp only [u8];rw [zAE ⟨⟨Z2,v i hi⟩,e⟩];have g:(bits .andNot .i64 (pos.getD (c.ce.getD i 0).toNat 0) c.set==0)=B6 c pos i:=rfl;have b:(B6 c pos i||(bits .and .i64 (pos.getD (c.ce.getD i 0).toNat 0) c.set != 0))=Cu c pos i:=rfl;rw [g];cases z:B6 c pos i
  ·rw [z,zNg] at b;rw [zAz,b];cases hy:Cu c pos i
   ·simp_all [UN]
   simp_all [UN]
  simp_all [UN]
end
end
abbrev zJq:=@Nat.lt_of_not_le
theorem gv (x:Int)(i:Nat):tb (IntKind.i64.wrap x) i=tb x i:=by unfold tb;rw [WS]
theorem Jq {s:Nat}(hs:s<64)(i:Nat):tb (IntKind.i64.wrap (1*2 ^ s)) i=decide (s=i):=by
 rw [gv,Int.one_mul]
 grind [PX,Rz]
theorem FM {k:Nat}{x:Int}(h:Sm k x)(hk:k<=62){e:Int}:e∈BY x↔∃ s:Nat,e=(s:Int)/\ s<k/\ tb x s=true:=by
 obtain ⟨m,rfl⟩:=zL7 h.1;unfold BY Fp;simp only [zL1,List.mem_filter,zIN,u8];constructor
 ·rintro ⟨s,⟨b,c⟩,rfl⟩;have a:tb (m:Int) s=true:=by rw [Jr m s b];exact c
  refine ⟨s,rfl,?_,a⟩;refine zJq λw=>?_
  rw [h.hi w] at a;cases a
 ·rintro ⟨s,rfl,b,c⟩;exact ⟨s,⟨Z2,by grind [Jr]⟩,rfl⟩
theorem eG {α σ:Type}{f:α -> σ -> Option σ}(Inv:List α -> σ -> Prop): ∀ (l pre:List α) (s:σ),Inv pre s -> (∀ pre x s,x∈l -> Inv pre s -> ∃ q,f x s=some q/\ Inv (pre++[x]) q) -> ∃ q,CK f l s=some q/\ Inv (pre++l) q
 | [],pre,s,h,_=>⟨s,rfl,by rw [zMU];exact h⟩
 | x::l,pre,s,h,a=>by
  obtain ⟨q,h1,b⟩:=a pre x s (.head _) h;obtain ⟨s2,h3,h4⟩:=eG Inv l (pre++[x]) q b λpre y s hy=>a pre y s (.tail _ hy)
  grind [CK]
structure FA (q:AA)(k:Nat):Prop where
 len:k<=q.va.length
 val: ∀ s,s<k -> 0<=q.va.getD s 0/\ q.va.getD s 0<=99
def H6 (q:AA)(a e:Int):Int:=if q.va.getD e.toNat 0<a then q.va.getD e.toNat 0 else a
def IF (q:AA)(a e:Int):Int:=if q.va.getD e.toNat 0>a then q.va.getD e.toNat 0 else a
def CR (q:AA)(x:Int):Int:=(BY x).foldl (H6 q) 100
def CU (q:AA)(x:Int):Int:=(BY x).foldl (IF q) (-1)
section
variable {c:AC} {k:Nat} {pos lost:Ξ} {q:AA}
def wV: ∀ (l:Ξ) (a:Int),(∀ e∈l,0<=q.va.getD e.toNat 0/\ q.va.getD e.toNat 0<=99) -> 0<=a/\ a<=100 -> 0<=l.foldl (H6 q) a/\ l.foldl (H6 q) a<=100
 | [],_,_,h=>h
 | e::l,a,s,h=>by
  have:=s e (.head _);refine wV l (H6 q a e) (λe M=>s e (.tail _ M)) ?_;unfold H6;split <;> omega
def xm: ∀ (l:Ξ) (a:Int),(∀ e∈l,0<=q.va.getD e.toNat 0/\ q.va.getD e.toNat 0<=99) -> -1<=a/\ a<=99 -> -1<=l.foldl (IF q) a/\ l.foldl (IF q) a<=99
 | [],_,_,h=>h
 | e::l,a,s,h=>by
  have:=s e (.head _);refine xm l (IF q a e) (λe M=>s e (.tail _ M)) ?_;unfold IF;split <;> omega
variable {x:Int}
def FA.sym (V:FA q k)(hk:k<=16)(h:Sm k x): ∀ e∈BY x,(0<=e/\ e<((q.va.length:Nat):Int))/\ 0<=q.va.getD e.toNat 0/\ q.va.getD e.toNat 0<=99:=by
 intro e M;obtain ⟨s,rfl,a,_⟩:=(FM h (zA4 hk Z6)).1 M;have:=V.len;exact ⟨Z2,V.val s a⟩
def FA.lo (V:FA q k)(hk:k<=16)(h:Sm k x):0<=CR q x/\ CR q x<=100:=wV _ _ (λe M=>(V.sym hk h e M).2) Z6
def FA.hi (V:FA q k)(hk:k<=16)(h:Sm k x): -1<=CU q x/\ CU q x<=99:=xm _ _ (λe M=>(V.sym hk h e M).2) Z6
variable {n ln:Nat}
theorem zK : ∀ (l:Ξ) (a b:Int),(∀ e∈l,0<=e/\ e<((q.va.length:Nat):Int)) -> CK (Xt n c q pos ln lost) l (.s0 a b)=some (.s0 (l.foldl (H6 q) a) (l.foldl (IF q) b))
 | [],_,_,_=>rfl
 | e::l,a,b,h=>by
  have B:Xt n c q pos ln lost e (.s0 a b)=some (.s0 (H6 q a e) (IF q b e)):=by
   simp_all [Xt,zM,zN,H6,IF]
  simp only [CK];rw [B,zAB,zK l _ _ λe M=>h e (.tail _ M)];rfl
def zJ (V:FA q k)(hk:k<=16)(h:Sm k x):Xu n x c q pos ln lost=some (CR q x,CU q x,lost):=by
 have XT:=LT (k:=k) (zA4 hk Z6);have h2:=h.2;unfold Xu zL;rw [zAE ⟨h.1,Z2⟩,zK (BY x) 100 (-1) λe M=>(V.sym hk h e M).1];rfl
def Cc (f:Nat -> Int):Nat -> Int
 | 0=>0
 | i+1=>Cc f i+f i
theorem U1 {f:Nat -> Int}: ∀ (i:Nat),(∀ a,a<i -> -1<=f a/\ f a<=100) -> -(i:Int)<=Cc f i/\ Cc f i<=100*(i:Int)
 | 0,_=>by simp [Cc]
 | i+1,h=>by
  have h1:=U1 i λa ha=>h a Z2
  grind [Cc]
def Lb (q:AA)(c:AC)(pos:Ξ):Int:=Cc (λa=>CR q (AP c pos a)) c.ce.length
def Ll (q:AA)(c:AC)(pos:Ξ):Int:=Cc (λa=>CU q (AP c pos a)) c.ce.length
def Ju (q:AA)(c:AC)(pos:Ξ):Bool:=!decide (Lb q c pos>c.hi)&&!decide (Ll q c pos<c.lo)
def GX (q:AA)(c:AC)(pos:Ξ)(a s:Nat):Bool:= decide (Lb q c pos-CR q (AP c pos a)+q.va.getD s 0>c.hi)||decide (Ll q c pos-CU q (AP c pos a)+q.va.getD s 0<c.lo)
variable {i:Nat}
theorem wQ {T:Type}(W:B5 c k pos)(hi:i<c.ce.length)(o:lost.length=pos.length)(d:Ξ -> T)(f:Int -> T -> Option T)(X:Nat -> Bool) 
 (O: ∀ (s:Nat) (l:Ξ),s<k -> l.length=pos.length -> f (s:Int) (d l)=bif X s then (D5 n (c.ce.getD i 0) (IntKind.i64.wrap (1*2 ^ s)) c q pos pos.length l).map d else some (d l)):
 ∃ l',CK f (BY (AP c pos i)) (d lost)=some (d l')/\ l'.length=pos.length/\
  ∀ j s,tb (l'.getD j 0) s=true↔tb (lost.getD j 0) s=true∨((c.ce.getD i 0).toNat=j/\ tb (AP c pos i) s=true/\ X s=true):=by
 have g:=W.ce i hi;have E:=W.at hi;have hk:=W.k
 have key:=eG (f:=f)
  (λpre s=>∃ l',s=d l'/\ l'.length=pos.length/\ ∀ j s,tb (l'.getD j 0) s=true↔tb (lost.getD j 0) s=true∨((c.ce.getD i 0).toNat=j/\ tb (AP c pos i) s=true/\ (s:Int)∈pre/\ X s=true))
  (BY (AP c pos i)) [] (d lost) ⟨lost,rfl,o,λj s=>⟨.inl,λh=>h.elim id λh=>(by cases h.2.2.1)⟩⟩ ?_
 ·obtain ⟨_,m,l',rfl,b,a⟩:=key;refine ⟨l',m,b,λj s=>?_⟩;rw [a,zLn];constructor
  ·grind
  ·rintro (h | ⟨p,P,a3⟩)
   ·exact .inl h
   ·refine .inr ⟨p,P,(FM E (zA4 hk Z6)).2 ⟨s,rfl,zJq λw=>?_,P⟩,a3⟩;rw [E.hi w] at P;cases P
 ·rintro pre e _ M ⟨l',rfl,b,a⟩;obtain ⟨s,rfl,r,hbit⟩:=(FM E (zA4 hk Z6)).1 M;rw [O s l' r b];cases hx:X s
  ·grind
  ·obtain ⟨t,F,V,u⟩:=Ml (lost:=l') (n:=n) (ss:=IntKind.i64.wrap (1*2 ^ s)) (c:=c) (q:=q) g.1 g.2 b;rw [zAG,F,zLo];refine ⟨_,rfl,t,rfl,V,λj x=>?_⟩;rw [u,zJo,zAD,zAD,zJz,a,Jq Z2,zJz];constructor
   ·grind
   grind [AP]
theorem zBz (W:B5 c k pos)(V:FA q k)(hi:i<c.ce.length){low high:Int}(D:low=Lb q c pos)(H:high=Ll q c pos)(o:lost.length=pos.length):
 ∃ l',CK (ZQ n c (i:Int) q pos pos.length low high (CR q (AP c pos i),CU q (AP c pos i),lost)) (BY (AP c pos i)) (.s0 lost)=some (.s0 l')/\ l'.length=pos.length/\
  ∀ j s,tb (l'.getD j 0) s=true↔tb (lost.getD j 0) s=true∨((c.ce.getD i 0).toNat=j/\ tb (AP c pos i) s=true/\ GX q c pos i s=true):=by
 have b:=W.ce i hi;have E:=W.at hi;have hk:=W.k;have Ag:=W.len;have bl:=V.lo hk E;have bh:=V.hi hk E;have z:=U1 (f:=λa=>CR q (AP c pos a)) c.ce.length λa K=>by have:=V.lo hk (W.at K);omega
 have A:=U1 (f:=λa=>CU q (AP c pos a)) c.ce.length λa K=>by have:=V.hi hk (W.at K);omega
 have z: -(c.ce.length:Int)<=low/\ low<=100*(c.ce.length:Int):=by rw [D];exact z
 have A: -(c.ce.length:Int)<=high/\ high<=100*(c.ce.length:Int):=by rw [H];exact A
 refine wQ (n:=n) (q:=q) W hi o MC.s0 _ (GX q c pos i) λs l d o=>?_
 have hv:=V.val s d;have Ff:=V.len;have r1:AG (low-CR q (AP c pos i)):=Aa.2 ⟨Z2,Z2⟩;have r2:AG (low-CR q (AP c pos i)+q.va.getD s 0):=Aa.2 ⟨Z2,Z2⟩;have r3:AG (high-CU q (AP c pos i)):=Aa.2 ⟨Z2,Z2⟩;have r4:AG (high-CU q (AP c pos i)+q.va.getD s 0):=Aa.2 ⟨Z2,Z2⟩;have g1:(0:Int)<=(s:Int)/\ (s:Int)<((q.va.length:Nat):Int):=Z2
 have g2:(0:Int)<=(s:Int)/\ (s:Int)<=((IntKind.i64.bits:Nat):Int):=⟨Z2,by show (s:Int)<=64;omega⟩;obtain ⟨l2,e2,_,_⟩:=Ml (lost:=l) (n:=n) (ss:=IntKind.i64.wrap (1*2 ^ s)) (c:=c) (q:=q) b.1 b.2 o;have X:GX q c pos i s=(decide (low-CR q (AP c pos i)+q.va.getD s 0>c.hi)||decide (high-CU q (AP c pos i)+q.va.getD s 0<c.lo)):=by rw [D,H];rfl
 rw [X];unfold ZQ qv ZP
 grind
theorem zBw (W:B5 c k pos)(V:FA q k)(o:lost.length=pos.length)(hn:c.ce.length+1<=n):
 ∃ l,Jt c q pos pos.length lost n (.l2 0 lost (Lb q c pos) (Ll q c pos))=some (true,l)/\ B3 c pos lost c.ce.length (λa s=>GX q c pos a s=true) l:=by
 have v: ∀ i,i<c.ce.length -> ((i:Nat):Int)<((c.ce.length:Nat):Int):=λi hi=>Z2
 have T:=Ii (λn (s:Ξ) i=>Jt c q pos pos.length lost n (.l2 i s (Lb q c pos) (Ll q c pos))) c.ce.length 1
  (λi s=>B3 c pos lost i (λa s=>GX q c pos a s=true) s) (λn i s GM hi h=>?_) (n:=n) (s:=lost) Z2 (B3.zero o)
 ·obtain ⟨A,l,Ol,_,e2,hL⟩:=T;obtain ⟨b,rfl⟩: ∃ b,A=b+1:=⟨A-1,Z2⟩
  simp_all [ZO,Jt]
 ·have d:=W.ce i hi;have hr:=W.r64 hi;have E:=W.at hi;have XT:=LT (k:=k) (zA4 W.k Z6);have KQ:=E.2;obtain ⟨l',e1,e,L⟩:=zBz (n:=n) W V hi rfl rfl h.1
  show ∃ s',ZO n (Jt c q pos pos.length lost n) c q pos pos.length lost (i:Int) s _ _=_/\ _
  unfold ZO;simp only [u8];have j:pos.getD (c.ce.getD i 0).toNat 0=AP c pos i:=rfl;rw [zAE ⟨⟨Z2,v i hi⟩,d⟩,j,zJ V W.k E,zAB,zAE ⟨E.1,Z2⟩];refine ⟨l',?_,h.step e L⟩
  grind
theorem zBx (W:B5 c k pos)(V:FA q k)(o:lost.length=pos.length)(hn:2*c.ce.length+3<=n):
 ∃ l,SD n c q pos pos.length lost=some (Ju q c pos,l)/\ (Ju q c pos=true -> B3 c pos lost c.ce.length (λa s=>GX q c pos a s=true) l):=by
 have v: ∀ i,i<c.ce.length -> ((i:Nat):Int)<((c.ce.length:Nat):Int):=λi hi=>Z2
 have S:=Ii (λn (s:Ξ×Δ) i=>Jt c q pos pos.length lost n (.l1 i s.1 s.2.1 s.2.2)) c.ce.length (c.ce.length+3)
  (λi s=>s.1=lost/\ s.2.1=Cc (λa=>CR q (AP c pos a)) i/\ s.2.2=Cc (λa=>CU q (AP c pos a)) i) (λn i s _ hi e=>?_) (n:=n) (s:=(lost,0,0)) Z2 ⟨rfl,rfl,rfl⟩
 ·obtain ⟨d,⟨l0,D,I⟩,Hl,_,B,h0,h,A⟩:=S;obtain ⟨b,rfl⟩: ∃ b,d=b+1:=⟨d-1,Z2⟩;obtain rfl:l0=lost:=h0;obtain rfl:D=Lb q c pos:=h;obtain rfl:I=Ll q c pos:=A;have F:SD n c q pos pos.length l0=U5 b (Jt c q pos pos.length l0 b) c q pos pos.length l0 (c.ce.length:Int) l0 (Lb q c pos) (Ll q c pos):=B;unfold U5 at F;unfold Ju;cases h5:decide (Lb q c pos>c.hi)
  ·cases h6:decide (Ll q c pos<c.lo)
   ·obtain ⟨l,e3,hL⟩:=zBw (n:=b) W V o Z2
    grind
   grind
  grind
 ·obtain ⟨l0,D,I⟩:=s;obtain ⟨h0,h,A⟩:=e;simp only at h0 h A;have g:=W.ce i hi;have j:=W.r64 hi;have E:=W.at hi;have y:=U1 (f:=λa=>CR q (AP c pos a)) i λa K=>by have:=V.lo W.k (W.at (Nat.lt_trans K hi));omega
  have m:=U1 (f:=λa=>CU q (AP c pos a)) i λa K=>by have:=V.hi W.k (W.at (Nat.lt_trans K hi));omega
  have bl:=V.lo W.k E;have bh:=V.hi W.k E;have Ag:=W.len;rw [←h] at y;rw [←A] at m;have p:AG (D+CR q (AP c pos i)):=Aa.2 ⟨Z2,Z2⟩;have r:AG (I+CU q (AP c pos i)):=Aa.2 ⟨Z2,Z2⟩
  show ∃ s',U5 n (Jt c q pos pos.length lost n) c q pos pos.length lost (i:Int) l0 D I=_/\ _
  unfold U5;rw [zAC (v i hi),zAG];simp only [u8];have t:pos.getD (c.ce.getD i 0).toNat 0=AP c pos i:=rfl;rw [zAE ⟨⟨Z2,v i hi⟩,g⟩,t,zJ V W.k E,zAB,zAE ⟨p,r,j.2⟩];exact ⟨(l0,D+CR q (AP c pos i),I+CU q (AP c pos i)),rfl,h0,by simp only [Cc];rw [h],by simp only [Cc];rw [A]⟩
end
section
set_option maxRecDepth 100000
set_option maxHeartbeats 40000000
def qh:ST:=.rd 0 (.rd 1 (.rd 3 (.rd 4 (.ef 2 (.ef 5 (.ef 6 (.ef 7 (.ef 8 (.ef 9 (.fin [0,1,2,3] [1,3,4,5,58,91,92,104,148]) (.no)) (.no)) (.no)) (.ef 7 (.ef 6 (.ef 8 (.ef 9 (.fin [0,1,3,2] [1,3,4,5,58,91,92,104,148]) (.no)) (.no)) (.no)) (.no))) (.ef 6 (.ef 5 (.ef 7 (.ef 8 (.ef 9 (.fin [0,2,1,3] [1,3,4,5,58,91,92,104,148]) (.no)) (.no)) (.no)) (.ef 7 (.ef 5 (.ef 8 (.ef 9 (.fin [0,3,1,2] [1,3,4,5,58,91,92,104,148]) (.no)) (.no)) (.ef 8 (.ef 5 (.ef 9 (.fin [0,3,1,2] [1,3,4,5,58,91,92,104,148]) (.no)) (.no)) (.no))) (.no))) (.ef 7 (.ef 5 (.ef 6 (.ef 8 (.ef 9 (.fin [0,2,3,1] [1,3,4,5,58,91,92,104,148]) (.no)) (.no)) (.no)) (.ef 6 (.ef 5 (.ef 8 (.ef 9 (.fin [0,3,2,1] [1,3,4,5,58,91,92,104,148]) (.no)) (.no)) (.ef 8 (.ef 5 (.ef 9 (.fin [0,3,2,1] [1,3,4,5,58,91,92,104,148]) (.no)) (.no)) (.no))) (.no))) (.no)))) (.ef 5 (.ef 2 (.ef 6 (.ef 7 (.ef 8 (.ef 9 (.fin [1,0,2,3] [1,3,4,5,58,91,92,104,148]) (.no)) (.no)) (.no)) (.ef 7 (.ef 6 (.ef 8 (.ef 9 (.fin [1,0,3,2] [1,3,4,5,58,91,92,104,148]) (.no)) (.no)) (.no)) (.no))) (.ef 6 (.ef 2 (.ef 7 (.ef 8 (.ef 9 (.fin [2,0,1,3] [1,3,4,5,58,91,92,104,148]) (.no)) (.no)) (.no)) (.ef 7 (.ef 2 (.ef 8 (.ef 9 (.fin [3,0,1,2] [1,3,4,5,58,91,92,104,148]) (.no)) (.no)) (.no)) (.no))) (.ef 7 (.ef 2 (.ef 6 (.ef 8 (.ef 9 (.fin [2,0,3,1] [1,3,4,5,58,91,92,104,148]) (.no)) (.no)) (.no)) (.ef 6 (.ef 2 (.ef 8 (.ef 9 (.fin [3,0,2,1] [1,3,4,5,58,91,92,104,148]) (.no)) (.no)) (.no)) (.no))) (.no)))) (.ef 6 (.ef 2 (.ef 5 (.ef 7 (.ef 8 (.ef 9 (.fin [1,2,0,3] [1,3,4,5,58,91,92,104,148]) (.no)) (.no)) (.no)) (.ef 7 (.ef 5 (.ef 8 (.ef 9 (.fin [1,3,0,2] [1,3,4,5,58,91,92,104,148]) (.no)) (.no)) (.ef 8 (.ef 5 (.ef 9 (.fin [1,3,0,2] [1,3,4,5,58,91,92,104,148]) (.no)) (.no)) (.no))) (.no))) (.ef 5 (.ef 2 (.ef 7 (.ef 8 (.ef 9 (.fin [2,1,0,3] [1,3,4,5,58,91,92,104,148]) (.no)) (.no)) (.no)) (.ef 7 (.ef 2 (.ef 8 (.ef 9 (.fin [3,1,0,2] [1,3,4,5,58,91,92,104,148]) (.no)) (.no)) (.no)) (.no))) (.ef 7 (.ef 2 (.ef 5 (.ef 8 (.ef 9 (.fin [2,3,0,1] [1,3,4,5,58,91,92,104,148]) (.no)) (.no)) (.ef 8 (.ef 5 (.ef 9 (.fin [2,3,0,1] [1,3,4,5,58,91,92,104,148]) (.no)) (.no)) (.no))) (.ef 5 (.ef 2 (.ef 8 (.ef 9 (.fin [3,2,0,1] [1,3,4,5,58,91,92,104,148]) (.no)) (.no)) (.no)) (.no))) (.no)))) (.ef 7 (.ef 2 (.ef 5 (.ef 6 (.ef 8 (.ef 9 (.fin [1,2,3,0] [1,3,4,5,58,91,92,104,148]) (.no)) (.no)) (.no)) (.ef 6 (.ef 5 (.ef 8 (.ef 9 (.fin [1,3,2,0] [1,3,4,5,58,91,92,104,148]) (.no)) (.no)) (.ef 8 (.ef 5 (.ef 9 (.fin [1,3,2,0] [1,3,4,5,58,91,92,104,148]) (.no)) (.no)) (.no))) (.no))) (.ef 5 (.ef 2 (.ef 6 (.ef 8 (.ef 9 (.fin [2,1,3,0] [1,3,4,5,58,91,92,104,148]) (.no)) (.no)) (.no)) (.ef 6 (.ef 2 (.ef 8 (.ef 9 (.fin [3,1,2,0] [1,3,4,5,58,91,92,104,148]) (.no)) (.no)) (.no)) (.no))) (.ef 6 (.ef 2 (.ef 5 (.ef 8 (.ef 9 (.fin [2,3,1,0] [1,3,4,5,58,91,92,104,148]) (.no)) (.no)) (.ef 8 (.ef 5 (.ef 9 (.fin [2,3,1,0] [1,3,4,5,58,91,92,104,148]) (.no)) (.no)) (.no))) (.ef 5 (.ef 2 (.ef 8 (.ef 9 (.fin [3,2,1,0] [1,3,4,5,58,91,92,104,148]) (.no)) (.no)) (.no)) (.no))) (.no)))) (.no))))))))
def zDU:B2 (A0 Tryz.f109 2) [2,5,6,7,8] qh:=Z1
def qg:ST:=.rd 0 (.rd 1 (.rd 2 (.rd 3 (.ef 4 (.rd 5 (.ef 6 (.fin [] [1,4,5,58,91,92,104,148]) (.no))) (.no)))))
def zDR:B2 (A0 Tryz.f109 3) [4] qg:=Z1
def zDV:Ae (A0 Tryz.f109 12) [] (List.range 11) [11]:=Z0
def zDT:Ae (A0 Tryz.f109 22) [] (List.range 9) [9]:=Z0
def zDS:Ae (A0 Tryz.f109 26) [([0,1,2,3,4,5,6],7)] [] []:=Z0
def qf:ST:=.rd 0 (.rd 1 (.rd 2 (.rd 3 (.ef 4 (.fin [] [2]) (.no)))))
def sM:B2 (A0 Tryz.f109 30) [] qf:=Z1
def FI:BF:=λi=>match i with
 | 2=>.tre [2,5,6,7,8] qh
 | 3=>.tre [4] qg
 | 12=>.ord [] (List.range 11) [11]
 | 22=>.ord [] (List.range 9) [9]
 | 26=>.ord [([0,1,2,3,4,5,6],7)] [] []
 | 30=>.tre [] qf
 | _=>.no
def C5 (c:AC)(q:AA)(pos:Ξ)(ln:Nat)(lost:Ξ):St:=⟨(AH 178 [(1,.ref 2 0),(3,.i (c.ce.length:Int)),(4,.ref 5 0),(5,.ref 6 0)]),([oW c q pos 1 ln,oI lost,oC [.ref 0 0],oI (List.replicate ((((c.ce.length:Int)+1)).toNat) (0:Int)),oI (List.replicate ((((c.ce.length:Int)+1)).toNat) (0:Int)),oC [.msl 3 1 0 ((((c.ce.length:Int)+1)).toNat)],oC [.msl 4 1 0 ((((c.ce.length:Int)+1)).toNat)]]:DH)⟩
def qJ (c:AC)(q:AA)(pos:Ξ)(ln:Nat)(lost:Ξ):St:=⟨(AH 178 [(1,.ref 2 0),(4,.ref 5 0),(5,.ref 6 0)]),([oW c q pos 1 ln,oI lost,oC [.ref 0 0],oI ((List.replicate ((((c.ce.length:Int)+1)).toNat) (0:Int)).set (0+0) (-1)),oI ((List.replicate ((((c.ce.length:Int)+1)).toNat) (0:Int)).set (0+c.ce.length) 100),oC [.msl 3 1 0 ((((c.ce.length:Int)+1)).toNat)],oC [.msl 4 1 0 ((((c.ce.length:Int)+1)).toNat)]]:DH)⟩
def zK5 (c:AC)(q:AA)(pos:Ξ)(ln:Nat)(lost o4:Ξ)(x:Int):DH:=[oW c q pos 1 ln,oI lost,oC [.ref 0 0],oC [.msl 4 1 0 ((((c.ce.length:Int)+1)).toNat)],oI (o4.set (0+(((x+1)).toNat)) 100),oC [.msl 6 1 0 ((((c.ce.length:Int)+1)).toNat)],oI ((List.replicate ((((c.ce.length:Int)+1)).toNat) (0:Int)).set (0+c.ce.length) 100),oC [.i x]]
def zK4 (c:AC)(q:AA)(pos:Ξ)(ln:Nat)(lost:Ξ)(x:Int)(o4:Ξ):DH:=[oW c q pos 1 ln,oI lost,oC [.ref 0 0],oC [.msl 7 1 0 ((((c.ce.length:Int)+1)).toNat)],oC [.msl 8 1 0 ((((c.ce.length:Int)+1)).toNat)],oC [.i x],some (.iter ((BY (pos.getD ((c.ce.getD x.toNat 0).toNat) 0)).map Br)),oI (o4.set (0+(((x+1)).toNat)) 100),oI ((List.replicate ((((c.ce.length:Int)+1)).toNat) (0:Int)).set (0+c.ce.length) 100)]
def zK3 (c:AC)(q:AA)(pos:Ξ)(ln:Nat)(lost o4:Ξ):DH:=[oW c q pos 1 ln,oI lost,oC [.ref 0 0],oC [.msl 4 1 0 ((((c.ce.length:Int)+1)).toNat)],oI o4,oC [.msl 6 1 0 ((((c.ce.length:Int)+1)).toNat)],oI ((List.replicate ((((c.ce.length:Int)+1)).toNat) (0:Int)).set (0+c.ce.length) 100)]
def zK2 (c:AC)(q:AA)(pos:Ξ)(ln:Nat)(lost:Ξ)(e:List (Δ))(o4:Ξ):DH:=[oW c q pos 1 ln,oI lost,oC [.ref 0 0],oC [.msl 6 1 0 ((((c.ce.length:Int)+1)).toNat)],oC [.msl 7 1 0 ((((c.ce.length:Int)+1)).toNat)],some (.iter ((e).map RB)),oI o4,oI ((List.replicate ((((c.ce.length:Int)+1)).toNat) (0:Int)).set (0+c.ce.length) 100)]
def zK1 (c:AC)(q:AA)(pos:Ξ)(ln:Nat)(o1 o4 m:Ξ)(j:Int):DH:=[oW c q pos 1 ln,oI o1,oC [.ref 0 0],oC [.msl 4 1 0 ((((c.ce.length:Int)+1)).toNat)],oI o4,oC [.msl 6 1 0 ((((c.ce.length:Int)+1)).toNat)],oI m,oC [.i j],oC [.i (c.ce.getD j.toNat 0)]]
def zK0 (c:AC)(q:AA)(pos:Ξ)(ln:Nat)(o1:Ξ)(j:Int)(o4 m:Ξ):DH:=[oW c q pos 1 ln,oI o1,oC [.ref 0 0],oC [.msl 8 1 0 ((((c.ce.length:Int)+1)).toNat)],oC [.msl 9 1 0 ((((c.ce.length:Int)+1)).toNat)],oC [.i j],oC [.i (c.ce.getD j.toNat 0)],some (.iter ((BY (pos.getD ((c.ce.getD j.toNat 0).toNat) 0)).map Br)),oI o4,oI m]
def zKz (c:AC)(q:AA)(pos:Ξ)(ln:Nat)(lost:Ξ)(x:Int)(a:Ξ):DH:=[oW c q pos 1 ln,oI lost,oC [.ref 0 0],oC [.msl 7 1 0 ((((c.ce.length:Int)+1)).toNat)],oC [.msl 8 1 0 ((((c.ce.length:Int)+1)).toNat)],oC [.i x],none,oI a,oI ((List.replicate ((((c.ce.length:Int)+1)).toNat) (0:Int)).set (0+c.ce.length) 100)]
def zKy (c:AC)(q:AA)(pos:Ξ)(ln:Nat)(lost o4 d:Ξ)(y:Δ):DH:=[oW c q pos 1 ln,oI lost,oC [.ref 0 0],oC [.msl 6 1 0 ((((c.ce.length:Int)+1)).toNat)],oC [.msl 7 1 0 ((((c.ce.length:Int)+1)).toNat)],none,oI o4,oI d,oC [.i y.1]]
def zK8 (c:AC)(q:AA)(pos:Ξ)(ln:Nat)(lost o4 d:Ξ)(y:Δ):DH:=[oW c q pos 1 ln,oI lost,oC [.ref 0 0],oC [.msl 6 1 0 ((((c.ce.length:Int)+1)).toNat)],oC [.msl 7 1 0 ((((c.ce.length:Int)+1)).toNat)],none,oI o4,oI (d.set (0+((y.1).toNat)) (-1)),oC [.i y.1]]
def zK7 (c:AC)(q:AA)(pos:Ξ)(ln:Nat)(lost:Ξ)(y:Δ)(o4 d:Ξ):DH:=[oW c q pos 1 ln,oI lost,oC [.ref 0 0],oC [.msl 8 1 0 ((((c.ce.length:Int)+1)).toNat)],oC [.msl 9 1 0 ((((c.ce.length:Int)+1)).toNat)],none,oC [.i y.1],some (.iter ((BY (pos.getD ((y.2).toNat) 0)).map Br)),oI o4,oI (d.set (0+((y.1).toNat)) (-1))]
def mH (c:AC)(q:AA)(pos:Ξ)(ln:Nat)(R:Ξ)(j:Int)(o4 m:Ξ):DH:=[oW c q pos 1 ln,oI R,oC [.ref 0 0],oC [.msl 8 1 0 ((((c.ce.length:Int)+1)).toNat)],oC [.msl 9 1 0 ((((c.ce.length:Int)+1)).toNat)],oC [.i j],oC [.i (c.ce.getD j.toNat 0)],none,oI o4,oI m]
def ZK (c:AC)(q:AA)(pos:Ξ)(ln:Nat)(t:Ξ)(j:Int)(o4 m:Ξ):St:=⟨(AH 178 []),([oW c q pos 1 ln,oI t,oC [.ref 0 0],oC [.msl 8 1 0 ((((c.ce.length:Int)+1)).toNat)],oC [.msl 9 1 0 ((((c.ce.length:Int)+1)).toNat)],oC [.i j],oC [.i (c.ce.getD j.toNat 0)],none,oI o4,oI m]:DH)⟩
def zK6 (c:AC)(q:AA)(pos:Ξ)(ln:Nat)(lost:Ξ)(y:Δ)(o4 r:Ξ):DH:=[oW c q pos 1 ln,oI lost,oC [.ref 0 0],oC [.msl 8 1 0 ((((c.ce.length:Int)+1)).toNat)],oC [.msl 9 1 0 ((((c.ce.length:Int)+1)).toNat)],none,oC [.i y.1],none,oI o4,oI r]
inductive Nt where
 | s0 (Ge:Ξ)
def tM (c:AC)(q:AA)(pos:Ξ)(ln:Nat)(lost:Ξ)(y:Δ)(o4:Ξ):Nt -> DH
 | .s0 r=>[oW c q pos 1 ln,oI lost,oC [.ref 0 0],oC [.msl 8 1 0 ((((c.ce.length:Int)+1)).toNat)],oC [.msl 9 1 0 ((((c.ce.length:Int)+1)).toNat)],none,oC [.i y.1],none,oI o4,oI r]
def aJ (n:Nat)(c:AC)(q:AA)(pos:Ξ)(ln:Nat)(lost:Ξ)(y:Δ)(o4:Ξ)(S:Int)(r:Ξ):Option Nt:= if (0<=S/\ S<(q.va.length:Int))/\ AG (y.1+1)/\ (0<=(y.1+1)/\ (y.1+1)<(((((c.ce.length:Int)+1)).toNat:Nat):Int))/\ 0+(((y.1+1)).toNat)<r.length then bif (decide ((q.va.getD S.toNat 0)<(r.getD (0+(((y.1+1)).toNat)) 0))) then if (0<=y.1/\ y.1<(((((c.ce.length:Int)+1)).toNat:Nat):Int))/\ 0+((y.1).toNat)<r.length then some (.s0 (r.set (0+((y.1).toNat)) (if (q.va.getD S.toNat 0)>(r.getD (0+((y.1).toNat)) 0) then (q.va.getD S.toNat 0) else (r.getD (0+((y.1).toNat)) 0)))) else none else some (.s0 r) else none
def tL (n:Nat)(c:AC)(q:AA)(pos:Ξ)(ln:Nat)(lost:Ξ)(y:Δ)(o4:Ξ)(S:Int):Nt -> Option Nt
 | .s0 r=>aJ n c q pos ln lost y o4 S r
def Vj (n:Nat)(c:AC)(q:AA)(pos:Ξ)(ln:Nat)(lost:Ξ)(y:Δ)(o4:Ξ)(S:Int)(s:Nt):Option Nt:=tL n c q pos ln lost y o4 S s
def zFI (n:Nat)(c:AC)(q:AA)(pos:Ξ)(ln:Nat)(lost:Ξ)(y:Δ)(o4:Ξ)(l B:Nat)(N:Yd 8)(S:Int)(s:Nt)(r:Nt)(h:Vj n c q pos ln lost y o4 S s=some r):TA l B N (Cx 8 [] 0 (tM c q pos ln lost y o4 r)) Tryz.f109 103 ⟨AH 178 [(1,.ref 2 0),(5,.ref 4 0),(10,.ref 6 0),(103,.it 7),(104,.i S)],tM c q pos ln lost y o4 s⟩:=by
 cases s with
 | s0 a=>
  replace h:aJ n c q pos ln lost y o4 S a=some r:=h;unfold aJ at h;refine ag FI [0,1,2,3,4,5,6,7,8,9] H0 (AH 178 [(1,.ref 2 0),(5,.ref 4 0),(10,.ref 6 0),(12,.i S)]) (zK6 c q pos ln lost y o4 a) λN=>?_
  revert r;apply gO;exact gc (gi (gc (gw 116 (gc (gi (gi (bi 119 (jg zDT (gc (gn λU=>jg U (gn λV=>jg V (jg U (jg V (lF λp=>rr FI [0,1,2,3,4,5,6,7,8,9] rfl p))))))) (lF λp=>rr FI [0,1,2,3,4,5,6,7,8,9] rfl p))))))))
inductive MJ where
 | s0 (Hf:Ξ)
def tR (c:AC)(j:Int)(q:AA)(pos:Ξ)(ln:Nat)(o4 m:Ξ):MJ -> DH
 | .s0 R=>[oW c q pos 1 ln,oI R,oC [.ref 0 0],oC [.msl 8 1 0 ((((c.ce.length:Int)+1)).toNat)],oC [.msl 9 1 0 ((((c.ce.length:Int)+1)).toNat)],oC [.i j],oC [.i (c.ce.getD j.toNat 0)],none,oI o4,oI m]
def aL (n:Nat)(c:AC)(j:Int)(q:AA)(pos:Ξ)(ln:Nat)(o4 m:Ξ)(B:Int)(R:Ξ):Option MJ:= if (0<=B/\ B<(q.va.length:Int))/\ (0<=j/\ j<(((((c.ce.length:Int)+1)).toNat:Nat):Int))/\ 0+j.toNat<o4.length then bif (decide ((q.va.getD B.toNat 0)<=(o4.getD (0+j.toNat) 0))) then if 0<=B/\ B<=(IntKind.i64.bits:Int) then (D5 n (c.ce.getD j.toNat 0) (IntKind.i64.wrap (1*2 ^ (B).toNat)) c q pos ln R).bind λt=> some (.s0 t) else none else if AG (j+1)/\ (0<=(j+1)/\ (j+1)<(((((c.ce.length:Int)+1)).toNat:Nat):Int))/\ 0+(((j+1)).toNat)<m.length then bif (decide ((q.va.getD B.toNat 0)>=(m.getD (0+(((j+1)).toNat)) 0))) then if 0<=B/\ B<=(IntKind.i64.bits:Int) then (D5 n (c.ce.getD j.toNat 0) (IntKind.i64.wrap (1*2 ^ (B).toNat)) c q pos ln R).bind λt=> some (.s0 t) else none else some (.s0 R) else none else none
def tQ (n:Nat)(c:AC)(j:Int)(q:AA)(pos:Ξ)(ln:Nat)(o4 m:Ξ)(B:Int):MJ -> Option MJ
 | .s0 R=>aL n c j q pos ln o4 m B R
def aM (n:Nat)(c:AC)(j:Int)(q:AA)(pos:Ξ)(ln:Nat)(o4 m:Ξ)(B:Int)(s:MJ):Option MJ:=tQ n c j q pos ln o4 m B s
def zFK (n:Nat)(c:AC)(j:Int)(q:AA)(pos:Ξ)(ln:Nat)(o4 m:Ξ)(l B:Nat)(N:Yd 8)(a:Int)(s:MJ)(r:MJ)(h:aM n c j q pos ln o4 m a s=some r):TA l B N (Cx 8 [] 0 (tR c j q pos ln o4 m r)) Tryz.f109 147 ⟨AH 178 [(1,.ref 2 0),(4,.ref 3 0),(5,.ref 4 0),(14,.ref 5 0),(15,.ref 6 0),(133,.ints c.ce),(134,.i (c.ce.length:Int)),(135,.i j),(147,.it 7),(148,.i a)],tR c j q pos ln o4 m s⟩:=by
 cases s with
 | s0 R=>
  replace h:aL n c j q pos ln o4 m a R=some r:=h;unfold aL at h;refine ag FI [0,1,2,3,4,5,6,7,8,9] H0 (AH 178 [(1,.ref 2 0),(4,.ref 3 0),(5,.ref 4 0),(14,.ref 5 0),(15,.ref 6 0),(16,.i a)]) (mH c q pos ln R j o4 m) λN=>?_
  revert r;apply gO;exact gc (gi (gc (gi (gi (bi 162 (jg sM (gi (ce G8 [0,1] (mH c q pos ln R j o4 m) λt=>jg (Eq.refl (ZK c q pos ln t j o4 m)) (lF λp=>rr (tg:=[([],(ZK c q pos ln t j o4 m))]) FI [0,1,2,3,4,5,6,7,8,9] rfl p)))) (gc (gw 167 (gc (gi (gi (bi 170 (jg sM (gi (ce G8 [0,1] (mH c q pos ln R j o4 m) λt=>jg (Eq.refl (ZK c q pos ln t j o4 m)) (lF λp=>rr (tg:=[([],(ZK c q pos ln t j o4 m))]) FI [0,1,2,3,4,5,6,7,8,9] rfl p)))) (lF λp=>rr FI [0,1,2,3,4,5,6,7,8,9] rfl p))))))))))))
inductive Nu where
 | s0 (GE:Ξ)
def tN (c:AC)(q:AA)(pos:Ξ)(ln:Nat)(lost o4:Ξ):Nu -> DH
 | .s0 d=>[oW c q pos 1 ln,oI lost,oC [.ref 0 0],oC [.msl 6 1 0 ((((c.ce.length:Int)+1)).toNat)],oC [.msl 7 1 0 ((((c.ce.length:Int)+1)).toNat)],none,oI o4,oI d]
def aI (n:Nat)(c:AC)(q:AA)(pos:Ξ)(ln:Nat)(lost o4:Ξ)(y:Δ)(d:Ξ):Option Nu:=
 if (0<=y.1/\ y.1<(((((c.ce.length:Int)+1)).toNat:Nat):Int))/\ 0+((y.1).toNat)<d.length/\ (0<=y.2/\ y.2<(pos.length:Int))/\ (0<=(pos.getD ((y.2).toNat) 0)/\ (pos.getD ((y.2).toNat) 0)<9223372036854775808) then
  (CK (Vj n c q pos ln lost y o4) (BY (pos.getD ((y.2).toNat) 0)) (.s0 (d.set (0+((y.1).toNat)) (-1)))).bind λk=>
   match k with
   | .s0 W=>
    some (.s0 W)
 else none
def tK (n:Nat)(c:AC)(q:AA)(pos:Ξ)(ln:Nat)(lost o4:Ξ)(y:Δ):Nu -> Option Nu
 | .s0 d=>aI n c q pos ln lost o4 y d
def Vk (n:Nat)(c:AC)(q:AA)(pos:Ξ)(ln:Nat)(lost o4:Ξ)(y:Δ)(s:Nu):Option Nu:=tK n c q pos ln lost o4 y s
def zFH (n:Nat)(c:AC)(q:AA)(pos:Ξ)(ln:Nat)(lost o4:Ξ)(l B:Nat)(N:Yd 6)(y:Δ)(s:Nu)(r:Nu)(h:Vk n c q pos ln lost o4 y s=some r):TA l B N (Cx 6 [] 0 (tN c q pos ln lost o4 r)) Tryz.f109 90 ⟨AH 178 [(1,.ref 2 0),(4,.ref 3 0),(5,.ref 4 0),(90,.it 5),(91,.i y.1),(92,.i y.2)],tN c q pos ln lost o4 s⟩:=by
 cases s with
 | s0 d=>
  replace h:aI n c q pos ln lost o4 y d=some r:=h;unfold aI at h;refine ag FI [0,1,2,3,4,5,6,7,8] (H0.t) (AH 178 [(1,.ref 2 0),(5,.ref 4 0),(10,.ref 8 0),(11,.i y.2)]) (zKy c q pos ln lost o4 d y) λN=>?_
  revert r;apply gO
  exact gc (gi (gc (gi (gc (gi (gn λa=>jc (MB a (zK8 c q pos ln lost o4 d y)) (cn λk m=>λp r h=>by
   refine gs FI [0,1,2,3,4,5,8,9,6,7] p (HI (Pk Tryz.f109 90) 103 []) (AH 178 [(1,.ref 2 0),(5,.ref 4 0),(10,.ref 6 0),(103,.it 7)]) (zK7 c q pos ln lost y o4 d) ?_;refine r0 7 103 #[104] Br 8 m (zFI n c q pos ln lost y o4) ?_;cases k with
   | s0 zAR=>
    dsimp only at h
    revert r;apply gO;exact lF λp=>rr FI [0,1,2,3,4,5,8,9] rfl p)))))))
inductive Nv where
 | s0 (Gd:Ξ)
def tP (c:AC)(x:Int)(q:AA)(pos:Ξ)(ln:Nat)(lost:Ξ):Nv -> DH
 | .s0 a=>[oW c q pos 1 ln,oI lost,oC [.ref 0 0],oC [.msl 7 1 0 ((((c.ce.length:Int)+1)).toNat)],oC [.msl 8 1 0 ((((c.ce.length:Int)+1)).toNat)],oC [.i x],none,oI a,oI ((List.replicate ((((c.ce.length:Int)+1)).toNat) (0:Int)).set (0+c.ce.length) 100)]
def aK (n:Nat)(c:AC)(x:Int)(q:AA)(pos:Ξ)(ln:Nat)(lost:Ξ)(T:Int)(a:Ξ):Option Nv:= if (0<=T/\ T<(q.va.length:Int))/\ (0<=x/\ x<(((((c.ce.length:Int)+1)).toNat:Nat):Int))/\ 0+x.toNat<a.length then bif (decide ((q.va.getD T.toNat 0)>(a.getD (0+x.toNat) 0))) then if AG (x+1)/\ (0<=(x+1)/\ (x+1)<(((((c.ce.length:Int)+1)).toNat:Nat):Int))/\ 0+(((x+1)).toNat)<a.length then some (.s0 (a.set (0+(((x+1)).toNat)) (if (q.va.getD T.toNat 0)<(a.getD (0+(((x+1)).toNat)) 0) then (q.va.getD T.toNat 0) else (a.getD (0+(((x+1)).toNat)) 0)))) else none else some (.s0 a) else none
def tO (n:Nat)(c:AC)(x:Int)(q:AA)(pos:Ξ)(ln:Nat)(lost:Ξ)(T:Int):Nv -> Option Nv
 | .s0 a=>aK n c x q pos ln lost T a
def Vl (n:Nat)(c:AC)(x:Int)(q:AA)(pos:Ξ)(ln:Nat)(lost:Ξ)(T:Int)(s:Nv):Option Nv:=tO n c x q pos ln lost T s
def zFJ (n:Nat)(c:AC)(x:Int)(q:AA)(pos:Ξ)(ln:Nat)(lost:Ξ)(l B:Nat)(N:Yd 7)(T:Int)(s:Nv)(r:Nv)(h:Vl n c x q pos ln lost T s=some r):TA l B N (Cx 7 [] 0 (tP c x q pos ln lost r)) Tryz.f109 57 ⟨AH 178 [(1,.ref 2 0),(4,.ref 3 0),(5,.ref 4 0),(6,.ref 5 0),(39,.ints c.ce),(40,.i (c.ce.length:Int)),(41,.i x),(57,.it 6),(58,.i T)],tP c x q pos ln lost s⟩:=by
 cases s with
 | s0 a=>
  replace h:aK n c x q pos ln lost T a=some r:=h;unfold aK at h;refine ag FI [0,1,2,3,4,5,6,7,8] H0 (AH 178 [(1,.ref 2 0),(4,.ref 3 0),(6,.ref 5 0),(8,.i T)]) (zKz c q pos ln lost x a) λN=>?_
  revert r;apply gO;exact gc (gi (gc (gi (gi (bi 72 (jg zDV (gc (gn λX=>jw 75 X (jw 78 X (gc (gn λY=>jg Y (gn λZ=>jg Z (jg Y (jg Z (lF λp=>rr FI [0,1,2,3,4,5,6,7,8] rfl p)))))))))) (lF λp=>rr FI [0,1,2,3,4,5,6,7,8] rfl p))))))
inductive Vm where
 | l1 (BZ:Int) (o4:Ξ)
 | l2 (BO:Int) (o1 o4 o6:Ξ)
def Vi (n:Nat)(self:Vm -> W0)(c:AC)(q:AA)(pos:Ξ)(ln:Nat)(lost:Ξ)(x:Int)(o4:Ξ):W0:=
 bif (decide (x<(c.ce.length:Int))) then
  if (0<=x/\ x<(c.ce.length:Int))/\ AG (x+1)/\ (0<=(x+1)/\ (x+1)<(((((c.ce.length:Int)+1)).toNat:Nat):Int))/\ 0+(((x+1)).toNat)<o4.length/\ (0<=(c.ce.getD x.toNat 0)/\ (c.ce.getD x.toNat 0)<(pos.length:Int))/\ (0<=(pos.getD ((c.ce.getD x.toNat 0).toNat) 0)/\ (pos.getD ((c.ce.getD x.toNat 0).toNat) 0)<9223372036854775808) then
   (CK (Vl n c x q pos ln lost) (BY (pos.getD ((c.ce.getD x.toNat 0).toNat) 0)) (.s0 (o4.set (0+(((x+1)).toNat)) 100))).bind λe=>
    match e with
    | .s0 a=>
     if AG (x+1) then
      self (.l1 (x+1) a)
     else none
  else none
 else
  (back n c.ce).bind λe=>
   (CK (Vk n c q pos ln lost o4) e (.s0 ((List.replicate ((((c.ce.length:Int)+1)).toNat) (0:Int)).set (0+c.ce.length) 100))).bind λb=>
    match b with
    | .s0 d=>
     self (.l2 0 lost o4 d)
def aH (n:Nat)(self:Vm -> W0)(c:AC)(q:AA)(pos:Ξ)(ln:Nat)(lost:Ξ)(j:Int)(o1 o4 m:Ξ):W0:=
 bif (decide (j<(c.ce.length:Int))) then
  if (0<=j/\ j<(c.ce.length:Int))/\ (0<=(c.ce.getD j.toNat 0)/\ (c.ce.getD j.toNat 0)<(pos.length:Int))/\ (0<=(pos.getD ((c.ce.getD j.toNat 0).toNat) 0)/\ (pos.getD ((c.ce.getD j.toNat 0).toNat) 0)<9223372036854775808) then
   (CK (aM n c j q pos ln o4 m) (BY (pos.getD ((c.ce.getD j.toNat 0).toNat) 0)) (.s0 o1)).bind λe=>
    match e with
    | .s0 a=>
     if AG (j+1) then
      self (.l2 (j+1) a o4 m)
     else none
  else none
 else
  some (true,o1)
def tJ (n:Nat)(self:Vm -> W0)(c:AC)(q:AA)(pos:Ξ)(ln:Nat)(lost:Ξ):W0:= if AG ((c.ce.length:Int)+1)/\ ((((c.ce.length:Int)+1):Int)=((c.ce.length:Int)+1)/\ (0:Int)<=((c.ce.length:Int)+1)/\ (((c.ce.length:Int)+1):Int)<=1000000000000)/\ ((0:Int)<=0/\ 0<(((((c.ce.length:Int)+1)).toNat:Nat):Int))/\ 0+0<(List.replicate ((((c.ce.length:Int)+1)).toNat) (0:Int)).length/\ (0<=(c.ce.length:Int)/\ (c.ce.length:Int)<(((((c.ce.length:Int)+1)).toNat:Nat):Int))/\ 0+c.ce.length<(List.replicate ((((c.ce.length:Int)+1)).toNat) (0:Int)).length then self (.l1 0 ((List.replicate ((((c.ce.length:Int)+1)).toNat) (0:Int)).set (0+0) (-1))) else none
def JE (c:AC)(q:AA)(pos:Ξ)(ln:Nat)(lost:Ξ):Nat -> Vm -> W0
 | 0,_=>none
 | n+1,.l1 x o4=>Vi n (JE c q pos ln lost n) c q pos ln lost x o4
 | n+1,.l2 j o1 o4 m=>aH n (JE c q pos ln lost n) c q pos ln lost j o1 o4 m
def Nw (n:Nat)(c:AC)(q:AA)(pos:Ξ)(ln:Nat)(lost:Ξ):W0:=tJ n (JE c q pos ln lost n) c q pos ln lost
def zFL (n B:Nat)(N:Yd 2)(c:AC)(q:AA)(pos:Ξ)(ln:Nat)(lost:Ξ)(r:Bool×Ξ):Vm -> Prop:=px n B Fence.wide N (FQ Tryz.f109 2 (.bool r.1) [oW c q pos 1 ln,oI r.2]) (Ac Tryz.f109) λ
 | .l1 x o4=>(0,0,AH 178 [(1,.ref 2 0),(4,.ref 3 0),(5,.ref 5 0),(39,.ints c.ce),(40,.i (c.ce.length:Int)),(41,.i x)],[oW c q pos 1 ln,oI lost,oC [.ref 0 0],oC [.msl 4 1 0 ((((c.ce.length:Int)+1)).toNat)],oI o4,oC [.msl 6 1 0 ((((c.ce.length:Int)+1)).toNat)],oI ((List.replicate ((((c.ce.length:Int)+1)).toNat) (0:Int)).set (0+c.ce.length) 100)])
 | .l2 j o1 o4 m=>(0,8,AH 178 [(1,.ref 2 0),(4,.ref 3 0),(5,.ref 5 0),(133,.ints c.ce),(134,.i (c.ce.length:Int)),(135,.i j)],[oW c q pos 1 ln,oI o1,oC [.ref 0 0],oC [.msl 4 1 0 ((((c.ce.length:Int)+1)).toNat)],oI o4,oC [.msl 6 1 0 ((((c.ce.length:Int)+1)).toNat)],oI m])
def zFM (B:Nat)(N:Yd 2)(c:AC)(q:AA)(pos:Ξ)(ln:Nat)(lost:Ξ):Al (JE c q pos ln lost) (zFL · B N c q pos ln lost):=ia (λ_=>rfl) λn w b r h=>by
 cases b
 case l1 BZ o4=>
  intro m k;refine rd k λm k=>?_
  revert r;apply gO
  exact bi 42 (gc (gi (jt (gc (gw 48 (gc (gi (gc (gi (gc (gi (gn λD=>jc (MB D (zK5 c q pos ln lost o4 BZ)) (cn λe a=>λp r h=>by
   refine gs FI [0,1,2,3,5,7,8,4,6] p (HI (Ac Tryz.f109) 57 [m]) (AH 178 [(1,.ref 2 0),(4,.ref 3 0),(5,.ref 4 0),(6,.ref 5 0),(39,.ints c.ce),(40,.i (c.ce.length:Int)),(41,.i BZ),(57,.it 6)]) (zK4 c q pos ln lost BZ o4) ?_;refine r0 6 57 #[58] Br 7 a (zFJ n c BZ q pos ln lost) ?_;cases e with
   | s0 d=>
    dsimp only at h
    revert r;apply gO;exact gw 84 (lG FI [0,1,2,3,7,4,8] (w _ _ · m k))))))))))))))) (cn λe a=>jc (zO1 a (zK3 c q pos ln lost o4)) (cn λx A=>λp r h=>by
   refine gs FI [0,1,2,3,5,7,4,6] p (HI (Ac Tryz.f109) 90 []) (AH 178 [(1,.ref 2 0),(4,.ref 3 0),(5,.ref 4 0),(90,.it 5)]) (zK2 c q pos ln lost e o4) ?_;refine r0 5 90 #[91,92] RB 6 A (zFH n c q pos ln lost o4) ?_;cases x with
   | s0 Ez=>
    dsimp only at h
    revert r;apply gO;exact lN FI [0,1,2,3,6,4,7] (w _ _ · n Nat.le.refl)))
 case l2 BO o1 o4 o6=>
  intro m k;refine rd k λm k=>?_
  revert r;apply gO
  exact bi 136 (gc (gi (jt (jt (jg zDS (gc (gi (gn λf=>jc (MB f (zK1 c q pos ln o1 o4 o6 BO)) (cn λe a=>λp r h=>by
   refine gs FI [0,1,2,3,5,7,8,9,4,6] p (HI (Ac Tryz.f109) 147 [m]) (AH 178 [(1,.ref 2 0),(4,.ref 3 0),(5,.ref 4 0),(14,.ref 5 0),(15,.ref 6 0),(133,.ints c.ce),(134,.i (c.ce.length:Int)),(135,.i BO),(147,.it 7)]) (zK0 c q pos ln o1 BO o4 o6) ?_;refine r0 7 147 #[148] Br 8 a (zFK n c BO q pos ln o4 o6) ?_;cases e with
   | s0 d=>
    dsimp only at h
    revert r;apply gO;exact gw 177 (lG FI [0,1,2,3,8,4,9] (w _ _ · m k))))))))))) (lE FI [2] [0,1])
def zFG {n:Nat}{c:AC}{q:AA}{pos:Ξ}{ln:Nat}{lost:Ξ}{r:Bool×Ξ}(h:Nw n c q pos ln lost=some r):EQ 109 [.ref 0 0] [oW c q pos 1 ln,oI lost] (.bool r.1) [oW c q pos 1 ln,oI r.2] false:=by
 refine ot Tryz.func109 λB N=>?_
 revert r;apply gO;exact jg zDU (gc (gn λW=>jw 25 W (jw 28 W (gc (gn λp=>jg p (jg p (jt (jt (jg (Eq.refl (C5 c q pos ln lost)) (jt (jt (jg (Eq.refl (C5 c q pos ln lost)) (jg p (jt (jt (jg (Eq.refl (C5 c q pos ln lost)) (jg p (jt (jt (jg (Eq.refl (C5 c q pos ln lost)) (jt (jg p (jt (jg (Eq.refl (C5 c q pos ln lost)) (jg p (jt (jt (jg (Eq.refl (C5 c q pos ln lost)) (jg p (jt (jt (jg (Eq.refl (C5 c q pos ln lost)) (jt (jg p (jt (jg (Eq.refl (C5 c q pos ln lost)) (jg p (jg p (jt (jt (jg (Eq.refl (C5 c q pos ln lost)) (jt (jt (jg (Eq.refl (C5 c q pos ln lost)) (jg p (jt (jt (jg (Eq.refl (C5 c q pos ln lost)) (jg p (jt (jt (jg (Eq.refl (C5 c q pos ln lost)) (jg p (jt (jt (jg (Eq.refl (C5 c q pos ln lost)) (jg p (jt (jt (jg (Eq.refl (C5 c q pos ln lost)) (jg p (jg p (jt (jt (jg (Eq.refl (C5 c q pos ln lost)) (jg p (jt (jt (jg (Eq.refl (C5 c q pos ln lost)) (jt (jg p (jt (jg (Eq.refl (C5 c q pos ln lost)) (jg p (jg p (jt (jt (jg (Eq.refl (C5 c q pos ln lost)) (jg p (jt (jt (jg (Eq.refl (C5 c q pos ln lost)) (jg p (jg p (jt (jt (jg (Eq.refl (C5 c q pos ln lost)) (jt (jg p (jt (jg (Eq.refl (C5 c q pos ln lost)) (jg p (jg p (jt (jt (jg (Eq.refl (C5 c q pos ln lost)) (jg p (jg p (jt (jt (jg (Eq.refl (C5 c q pos ln lost)) (jg p (jt (jt (jg (Eq.refl (C5 c q pos ln lost)) (jt (jg p (jt (jg (Eq.refl (C5 c q pos ln lost)) (jg p (jg p (jt (jt (jg (Eq.refl (C5 c q pos ln lost)) (jg p (jt (jt (jg (Eq.refl (C5 c q pos ln lost)) (jg p (jg p (jt (jt (jg (Eq.refl (C5 c q pos ln lost)) (jt (jg p (jt (jg (Eq.refl (C5 c q pos ln lost)) (jg p (jg p (jt (jt (jg (Eq.refl (C5 c q pos ln lost)) (jg zDR (gc (gi (gc (gi (gc (gi (gi (jg (Eq.refl (qJ c q pos ln lost)) (lN (tg:=[([],(C5 c q pos ln lost)),([(4,3)],(qJ c q pos ln lost))]) FI [0,1,2,5,3,6,4] ((zFM B N c q pos ln lost n) _ _ · n Nat.le.refl)))))))))))))))))))))))))))))))))))))))))))))))))))))))))))))))))))))))))))))))))))))))))))))))))))))))))))))))))))))))))))))))))))))))))))))))
end
section
variable {a:Int}{i:Nat}{l:Ξ}
theorem T5 (h:i<l.length):(l.set i a).getD i 0=a:=by
 grind
theorem getD_set_ne {j:Nat}(h:i≠j):(l.set i a).getD j 0=l.getD j 0:=by
 grind
def K4 (q:AA)(b a e:Int):Int:=if q.va.getD e.toNat 0>b then (if q.va.getD e.toNat 0<a then q.va.getD e.toNat 0 else a) else a
def Kl (q:AA)(b a e:Int):Int:=if q.va.getD e.toNat 0<b then (if q.va.getD e.toNat 0>a then q.va.getD e.toNat 0 else a) else a
def Gs (q:AA)(c:AC)(pos:Ξ):Nat -> Int
 | 0=>-1
 | i+1=>(BY (AP c pos i)).foldl (K4 q (Gs q c pos i)) 100
def IN (q:AA)(c:AC)(pos:Ξ):Nat -> Int
 | 0=>100
 | m+1=>(BY (AP c pos (c.ce.length-1-m))).foldl (Kl q (IN q c pos m)) (-1)
def Ku (q:AA)(c:AC)(pos:Ξ)(i:Nat):Int:=IN q c pos (c.ce.length-i)
def Hy (q:AA)(c:AC)(pos:Ξ)(a s:Nat):Bool:=decide (q.va.getD s 0<=Gs q c pos a)||decide (q.va.getD s 0>=Ku q c pos (a+1))
def Ua (l:Ξ):Nat -> List (Δ)
 | 0=>[]
 | m+1=>((m:Int),l.getD m 0)::Ua l m
theorem zAO : ∀ (m n:Nat),m<=l.length -> l.length<=LB -> m+1<=n -> PD l n (.l1 ((m:Int)-1))=some (Ua l m)
 | 0,n,_,_,u=>by
  obtain ⟨n,rfl⟩: ∃ k,n=k+1:=⟨n-1,Z2⟩
  simp_all [UY,PD,Ua]
 | m+1,n,hm,o,u=>by
  obtain ⟨n,rfl⟩: ∃ k,n=k+1:=⟨n-1,Z2⟩;have e:((m+1:Nat):Int)-1=(m:Int):=Z2
  have hb:LB<=9223372036854775807:=Z6
  rw [e]
  show UY n (PD l n) l _=_
  unfold UY;rw [zAC Z2,zAG,zAE ⟨Z2,Z2⟩,zAE (Aa.2 ⟨Z2,Z2⟩),zAO m n Z2 o Z2,u8];rfl
def zOy {n:Nat}(o:l.length<=LB)(u:l.length+1<=n):back n l=some (Ua l l.length):=by
 have hb:LB<=9223372036854775807:=Z6
 unfold back oL;rw [zAE (Aa.2 ⟨Z2,Z2⟩),zAO l.length n (zBT _) o u]
section
variable {c:AC} {k:Nat} {pos lost:Ξ} {q:AA}
variable {o:Ξ}{n ln:Nat}
theorem tG {i:Nat}(G:c.ce.length<=256)(hi:i<c.ce.length)(y:o.length=c.ce.length+1): ∀ (l:Ξ) (a:Int),(∀ e∈l,0<=e/\ e<((q.va.length:Nat):Int)) ->
 CK (Vl n c (i:Int) q pos ln lost) l (.s0 (o.set (i+1) a))=some (.s0 (o.set (i+1) (l.foldl (K4 q (o.getD i 0)) a)))
 | [],_,_=>rfl
 | e::l,a,h=>by
  have v:((((c.ce.length:Nat):Int)+1).toNat:Nat)=c.ce.length+1:=Z2
  have b:(((i:Int)+1).toNat:Nat)=i+1:=Z2
  have B:Vl n c (i:Int) q pos ln lost e (.s0 (o.set (i+1) a))=some (.s0 (o.set (i+1) (K4 q (o.getD i 0) a e))):=by
   unfold Vl tO aK
   dsimp only
   simp only [u8,v,b,zJv,zJy,y];rw [zAE ⟨h e (.head _),Z2,Z2⟩,getD_set_ne Z2,T5 Z2,List.set_set];unfold K4
   by_cases E:q.va.getD e.toNat 0>o.getD i 0
   ·rw [zAC E,zAG,zAE ⟨Aa.2 ⟨Z2,Z2⟩,Z2,Z2⟩,zAE E]
   grind
  simp only [CK];rw [B,zAB,tG G hi y l _ λe M=>h e (.tail _ M)];rfl
variable {o4:Ξ}{x:Int}
theorem tH {i:Nat}(G:c.ce.length<=256)(hi:i<c.ce.length)(y:o.length=c.ce.length+1): ∀ (l:Ξ) (a:Int),(∀ e∈l,0<=e/\ e<((q.va.length:Nat):Int)) ->
 CK (Vj n c q pos ln lost ((i:Int),x) o4) l (.s0 (o.set i a))=some (.s0 (o.set i (l.foldl (Kl q (o.getD (i+1) 0)) a)))
 | [],_,_=>rfl
 | e::l,a,h=>by
  have v:((((c.ce.length:Nat):Int)+1).toNat:Nat)=c.ce.length+1:=Z2
  have E:(((i:Int)+1).toNat:Nat)=i+1:=Z2
  have B:Vj n c q pos ln lost ((i:Int),x) o4 e (.s0 (o.set i a))=some (.s0 (o.set i (Kl q (o.getD (i+1) 0) a e))):=by
   unfold Vj tL aJ
   dsimp only
   simp only [u8,v,E,zJv,zJy,y];rw [zAE ⟨h e (.head _),Aa.2 ⟨Z2,Z2⟩,Z2,Z2⟩,getD_set_ne Z2,T5 Z2,List.set_set];unfold Kl
   grind
  simp only [CK];rw [B,zAB,tH G hi y l _ λe M=>h e (.tail _ M)];rfl
theorem Sm.i63 (hk:k<=16)(h:Sm k x):0<=x/\ x<9223372036854775808:=by
 have h1:=LT (k:=k) (zA4 hk Z6)
 grind [Sm]
theorem tI (W:B5 c k pos)(V:FA q k): ∀ (m:Nat) (o:Ξ),m<=c.ce.length -> o.length=c.ce.length+1 -> (∀ j,m<=j -> j<=c.ce.length -> o.getD j 0=Ku q c pos j) ->
 ∃ o',CK (Vk n c q pos pos.length lost o4) (Ua c.ce m) (.s0 o)=some (.s0 o')/\ o'.length=c.ce.length+1/\ ∀ j,j<=c.ce.length -> o'.getD j 0=Ku q c pos j
 | 0,o,_,y,h=>⟨o,rfl,y,λj i=>h j (zJs _) i⟩
 | m+1,o,b,y,h=>by
  have d:=W.ce m Z2;have E:=W.at (a:=m) Z2;have G:=W.len;have v:((((c.ce.length:Nat):Int)+1).toNat:Nat)=c.ce.length+1:=Z2
  have B:Vk n c q pos pos.length lost o4 ((m:Int),c.ce.getD m 0) (.s0 o)=some (.s0 (o.set m (Ku q c pos m))):=by
   unfold Vk tK aI
   dsimp only
   simp only [u8,v,zJv];rw [zAE ⟨Z2,Z2,d,E.i63 W.k⟩];refine (congrArg (λz=>Option.bind z _) (tH G Z2 y (BY (AP c pos m)) (-1) λe M=>(V.sym W.k E e M).1)).trans ?_;rw [zAB]
   have F:Ku q c pos m=(BY (AP c pos m)).foldl (Kl q (o.getD (m+1) 0)) (-1):=by
    rw [h (m+1) (zBT _) b];unfold Ku;rw [show c.ce.length-m=c.ce.length-(m+1)+1 by omega]
    grind [IN]
   rw [F]
  obtain ⟨o',f,g,l⟩:=tI W V m (o.set m (Ku q c pos m)) Z2 (by rw [zJy];exact y) λj i XE=>by
   grind
  refine ⟨o',?_,g,l⟩;simp only [Ua,CK];rw [B,zAB,f]
theorem zFC {m:Ξ}(W:B5 c k pos)(V:FA q k)(e:o4.length=c.ce.length+1)(r:m.length=c.ce.length+1)(hb: ∀ j,j<=c.ce.length -> o4.getD j 0=Gs q c pos j)(ha: ∀ j,j<=c.ce.length -> m.getD j 0=Ku q c pos j)(o:lost.length=pos.length)(hn:c.ce.length+1<=n):
 ∃ l,JE c q pos pos.length lost n (.l2 0 lost o4 m)=some (true,l)/\ B3 c pos lost c.ce.length (λa s=>Hy q c pos a s=true) l:=by
 have v: ∀ i,i<c.ce.length -> ((i:Nat):Int)<((c.ce.length:Nat):Int):=λi hi=>Z2
 have f:((((c.ce.length:Nat):Int)+1).toNat:Nat)=c.ce.length+1:=Z2
 have Ag:=W.len
 have T:=Ii (λn (s:Ξ) i=>JE c q pos pos.length lost n (.l2 i s o4 m)) c.ce.length 1
  (λi s=>B3 c pos lost i (λa s=>Hy q c pos a s=true) s) (λn i s GM hi h=>?_) (n:=n) (s:=lost) Z2 (B3.zero o)
 ·obtain ⟨A,l,Ol,_,F,hL⟩:=T;obtain ⟨d,rfl⟩: ∃ d,A=d+1:=⟨A-1,Z2⟩
  simp_all [aH,JE]
 ·have b:=W.ce i hi;have hr:=W.r64 hi;have E:=W.at hi;have g:(((i:Int)+1).toNat:Nat)=i+1:=Z2
  obtain ⟨l',B,p,L⟩:=wQ (n:=n) (q:=q) W hi h.1 MJ.s0 (aM n c (i:Int) q pos pos.length o4 m) (Hy q c pos i) λs l hs o=>by
   have Ff:=V.len;have g1:(0:Int)<=(s:Int)/\ (s:Int)<((q.va.length:Nat):Int):=Z2
   have hk:=W.k;have g2:(0:Int)<=(s:Int)/\ (s:Int)<=((IntKind.i64.bits:Nat):Int):=⟨Z2,by show (s:Int)<=64;omega⟩;obtain ⟨l2,F,_,_⟩:=Ml (lost:=l) (n:=n) (ss:=IntKind.i64.wrap (1*2 ^ s)) (c:=c) (q:=q) b.1 b.2 o;unfold Hy aM tQ aL
   dsimp only
   simp only [u8,f,g,zJv,e,r]
   grind
  show ∃ s',aH n (JE c q pos pos.length lost n) c q pos pos.length lost (i:Int) s o4 m=_/\ _
  unfold aH;rw [zAC (v i hi),zAG];simp only [u8];rw [zAE ⟨⟨Z2,v i hi⟩,b,E.i63 W.k⟩];refine ⟨l',?_,h.step p L⟩;refine (congrArg (λz=>Option.bind z _) B).trans ?_
  grind
theorem zFD (W:B5 c k pos)(V:FA q k)(o:lost.length=pos.length)(hn:2*c.ce.length+3<=n):
 ∃ l,Nw n c q pos pos.length lost=some (true,l)/\ B3 c pos lost c.ce.length (λa s=>Hy q c pos a s=true) l:=by
 have g: ∀ i,i<c.ce.length -> ((i:Nat):Int)<((c.ce.length:Nat):Int):=λi hi=>Z2
 have v:((((c.ce.length:Nat):Int)+1).toNat:Nat)=c.ce.length+1:=Z2
 have G:=W.len
 have S:=Ii (λn (s:Ξ) i=>JE c q pos pos.length lost n (.l1 i s)) c.ce.length (c.ce.length+3)
  (λi s=>s.length=c.ce.length+1/\ ∀ j,j<=i -> s.getD j 0=Gs q c pos j) (λn i s _ hi p=>?_) (n:=n) (s:=(List.replicate (c.ce.length+1) (0:Int)).set 0 (-1)) Z2 ⟨Z3,λj d=>?_⟩
 ·obtain ⟨E,o4,Hl,_,B,A,f⟩:=S;obtain ⟨b,rfl⟩: ∃ b,E=b+1:=⟨E-1,Z2⟩
  have N:Nw n c q pos pos.length lost=JE c q pos pos.length lost n (.l1 0 ((List.replicate (c.ce.length+1) (0:Int)).set 0 (-1))):=by
   unfold Nw tJ;simp only [v,zJv,zKM];rw [zAE ⟨Aa.2 ⟨Z2,Z2⟩,⟨trivial,Z2,Z2⟩,⟨Z2,Z2⟩,Z2,⟨Z2,Z2⟩,Z2⟩]
  have F:Nw n c q pos pos.length lost=Vi b (JE c q pos pos.length lost b) c q pos pos.length lost (c.ce.length:Int) o4:=N.trans B;unfold Vi at F;rw [zAF Z2,zAz,zOy (zA4 G Z6) Z2,zAB] at F;simp only [v,zJv] at F
  obtain ⟨o6,r,t,K⟩:=tI (lost:=lost) (n:=b) (o4:=o4) W V c.ce.length ((List.replicate (c.ce.length+1) (0:Int)).set c.ce.length 100) (zBT _) Z3 λj d XE=>by
   obtain rfl:j=c.ce.length:=Z2
   rw [T5 Z3];unfold Ku;rw [Nat.sub_self];rfl
  rw [r,zAB] at F;obtain ⟨l,C,u⟩:=zFC (n:=b) W V A t (λj d=>f j d) K o Z2;exact ⟨l,F.trans C,u⟩
 ·obtain ⟨A,f⟩:=p;have w:=W.ce i hi;have h:=W.r64 hi;have m:=W.at hi;have x:(((i:Int)+1).toNat:Nat)=i+1:=Z2
  show ∃ s',Vi n (JE c q pos pos.length lost n) c q pos pos.length lost (i:Int) s=_/\ _
  unfold Vi;rw [zAC (g i hi),zAG];simp only [u8,v,x,zJv];rw [zAE ⟨⟨Z2,g i hi⟩,h.2,Z2,Z2,w,m.i63 W.k⟩];refine ⟨s.set (i+1) (Gs q c pos (i+1)),?_,by rw [zJy];exact A,λj d=>?_⟩
  ·refine (congrArg (λz=>Option.bind z _) (tG G hi A (BY (AP c pos i)) 100 λe M=>(V.sym W.k m e M).1)).trans ?_;rw [zAB];simp only;rw [zAE h.2,f i (zBT _)];rfl
  grind
 ·obtain rfl:j=0:=Z2
  rw [T5 Z3];rfl
end
end
section
variable {k:Nat}
theorem vE {n o:Type}(N:Ξ -> Int -> Int -> n)(E:Ξ -> Int -> Int -> o)(L:Int -> Int -> n -> Option n)(p:Int -> o -> Option o)(ok:Nat -> Nat -> Bool){a b:Int}(K:Sm k a)(i:Sm k b)(hk:k<=16) 
 (r: ∀ (s t:Nat) (l:Ξ) (x y:Int),s<k -> t<k -> L s t (N l x y)=some (bif ok s t then N l (bits .or .i64 x (IntKind.i64.wrap (1*2 ^ s))) (bits .or .i64 y (IntKind.i64.wrap (1*2 ^ t))) else N l x y))
 (h2: ∀ (s:Nat) (l:Ξ) (x y x' c:Int),s<k -> CK (L s) (BY b) (N l x y)=some (N l x' c) -> p s (E l x y)=some (E l x' c)) (l:Ξ):
 ∃ x y,CK p (BY a) (E l 0 0)=some (E l x y)/\ (∀ u,tb x u=true↔tb a u=true/\ ∃ t,tb b t=true/\ ok u t=true)/\ (∀ u,tb y u=true↔tb b u=true/\ ∃ s,tb a s=true/\ ok s u=true):=by
 have d:k<=62:=zA4 hk Z6
 have q: ∀ (s:Nat) (x y:Int),s<k -> ∃ x' c,CK (L s) (BY b) (N l x y)=some (N l x' c)/\ (∀ u,tb x' u=true↔tb x u=true∨(u=s/\ ∃ t,tb b t=true/\ ok s t=true))/\ (∀ u,tb c u=true↔tb y u=true∨(tb b u=true/\ ok s u=true)):=by
  intro s x y m
  have key:=eG (f:=L s) (λpre st=>∃ x' c,st=N l x' c/\ (∀ u,tb x' u=true↔tb x u=true∨(u=s/\ ∃ t:Nat,(t:Int)∈pre/\ ok s t=true))/\ (∀ u:Nat,tb c u=true↔tb y u=true∨((u:Int)∈pre/\ ok s u=true)))
   (BY b) [] (N l x y) ⟨x,y,rfl,λu=>⟨.inl,λh=>h.elim id λ⟨_,t,h,_⟩=>(by cases h)⟩,λu=>⟨.inl,λh=>h.elim id λ⟨h,_⟩=>(by cases h)⟩⟩ ?_
  ·obtain ⟨st,e,x',c,rfl,j,hy⟩:=key;refine ⟨x',c,e,λu=>?_,λu=>?_⟩
   ·rw [j,zLn];constructor
    ·rintro (h | ⟨B,t,h,g⟩)
     ·exact .inl h
     ·obtain ⟨T,F,_,A⟩:=(FM i d).1 h;have:t=T:=Z2
      grind
    ·rintro (h | ⟨B,t,h,g⟩)
     ·exact .inl h
     ·exact .inr ⟨B,t,(FM i d).2 ⟨t,rfl,zJq λw=>(by rw [i.hi w] at h;cases h),h⟩,g⟩
   ·rw [hy,zLn];constructor
    ·rintro (h | ⟨h,g⟩)
     ·exact .inl h
     ·obtain ⟨T,F,_,A⟩:=(FM i d).1 h;have:u=T:=Z2
      grind
    ·rintro (h | ⟨h,g⟩)
     ·exact .inl h
     ·exact .inr ⟨(FM i d).2 ⟨u,rfl,zJq λw=>(by rw [i.hi w] at h;cases h),h⟩,g⟩
  ·rintro pre e _ M ⟨x',c,rfl,j,hy⟩;obtain ⟨t,rfl,V,_⟩:=(FM i d).1 M;rw [r s t l x' c m V];cases ho:ok s t
   ·grind
   ·refine ⟨_,rfl,_,_,rfl,λu=>?_,λu=>?_⟩
    ·rw [Nb,zJo,j,Jq Z2,zJz]
     grind
    ·rw [Nb,zJo,hy,Jq Z2,zJz]
     grind
 have key:=eG (f:=p) (λpre st=>∃ x y,st=E l x y/\ (∀ u:Nat,tb x u=true↔(u:Int)∈pre/\ ∃ t,tb b t=true/\ ok u t=true)/\ (∀ u,tb y u=true↔tb b u=true/\ ∃ s:Nat,(s:Int)∈pre/\ ok s u=true))
  (BY a) [] (E l 0 0) ⟨0,0,rfl,λu=>⟨λh=>absurd h Js,λ⟨h,_⟩=>(by cases h)⟩,λu=>⟨λh=>absurd h Js,λ⟨_,s,h,_⟩=>(by cases h)⟩⟩ ?_
 ·obtain ⟨st,e,x,y,rfl,j,hy⟩:=key;refine ⟨x,y,e,λu=>?_,λu=>?_⟩
  ·rw [j,zLn];constructor
   ·rintro ⟨h,h2⟩;obtain ⟨T,F,_,A⟩:=(FM K d).1 h;have:u=T:=Z2
    grind
   ·rintro ⟨h,h2⟩;exact ⟨(FM K d).2 ⟨u,rfl,zJq λw=>(by rw [K.hi w] at h;cases h),h⟩,h2⟩
  ·rw [hy,zLn];constructor
   ·rintro ⟨h0,s,h,g⟩;obtain ⟨T,F,_,A⟩:=(FM K d).1 h;have:s=T:=Z2
    grind
   ·rintro ⟨h0,s,h,g⟩;exact ⟨h0,s,(FM K d).2 ⟨s,rfl,zJq λw=>(by rw [K.hi w] at h;cases h),h⟩,g⟩
 ·rintro pre e _ M ⟨x,y,rfl,j,hy⟩;obtain ⟨s,rfl,m,_⟩:=(FM K d).1 M;obtain ⟨x',c,B,O,v⟩:=q s x y m;refine ⟨_,h2 s l x y x' c m B,x',c,rfl,λu=>?_,λu=>?_⟩
  ·rw [O,j];constructor
   ·grind
   ·rintro ⟨h,h2⟩;rcases zLW.1 h with h | h
    ·exact .inl ⟨h,h2⟩
    ·have:u=s:=Z4
     grind
  ·rw [v,hy];constructor
   ·grind
   ·rintro ⟨h,z,h2,g⟩;rcases zLW.1 h2 with h2 | h2
    ·grind
    ·have:z=s:=Z4
     grind
end
theorem YS {s:Nat}(l:s<64)(x:Int):(bits .and .i64 (IntKind.i64.wrap (1*2 ^ s)) x==0)= !tb x s:=by
 rw [zLs,zH2,MA (Dh _ _ _)];constructor
 ·intro h;have:=h s l;rw [FE,Jq l,zAC rfl,zMB] at this;rw [this];rfl
 grind [FE,Jq]
def LV (q:AA)(c:AC)(s t:Nat):Bool:=decide ((if 0-(q.va.getD s 0-q.va.getD t 0)>q.va.getD s 0-q.va.getD t 0 then 0-(q.va.getD s 0-q.va.getD t 0) else q.va.getD s 0-q.va.getD t 0)>=c.lo)
def KH (c:AC)(s t:Nat):Bool:=(!tb c.set s|| !tb c.other t)&&(!tb c.set t|| !tb c.other s)
def GF (ok:Nat -> Nat -> Bool)(c:AC)(pos:Ξ)(a s:Nat):Prop:= if a=0 then ¬ ∃ t,tb (AP c pos 1) t=true/\ ok s t=true else ¬ ∃ t,tb (AP c pos 0) t=true/\ ok t s=true
section
variable {c:AC} {k:Nat} {pos lost:Ξ} {q:AA}
variable {s t n ln:Nat}
theorem zPE (V:FA q k)(l:s<k)(a:t<k):fq n s t c q pos ln lost=some (LV q c s t,lost):=by
 have h1:=V.val s l;have h2:=V.val t a;have h3:=V.len;unfold fq zAh;simp only [u8];rw [zAE ⟨Z2,Z2,Aa.2 ⟨Z2,Z2⟩,Aa.2 ⟨Z2,Z2⟩⟩];rfl
theorem zH4 (l:s<64)(V:t<64):cF n s t c q pos ln lost=some (KH c s t,lost):=by
 have g: ∀ s:Nat,s<64 -> (0:Int)<=(s:Int)/\ (s:Int)<=((IntKind.i64.bits:Nat):Int):=λs l=>⟨Z2,by show (s:Int)<=64;omega⟩
 unfold cF vn;simp only [u8];rw [zAE ⟨g s l,g t V⟩,YS l,YS l,YS V,YS V]
 grind [KH]
theorem vG (W:B5 c k pos)(f:c.ce.length=2)(o:lost.length=pos.length)(ok:Nat -> Nat -> Bool){x y:Int} 
 (hx: ∀ u,tb x u=true↔tb (AP c pos 0) u=true/\ ∃ t,tb (AP c pos 1) t=true/\ ok u t=true) (hy: ∀ u,tb y u=true↔tb (AP c pos 1) u=true/\ ∃ s,tb (AP c pos 0) s=true/\ ok s u=true):
 ∃ d l,D5 n (c.ce.getD 0 0) (bits .xor .i64 (-1) x) c q pos pos.length lost=some d/\ D5 n (c.ce.getD 1 0) (bits .xor .i64 (-1) y) c q pos pos.length d=some l/\ B3 c pos lost c.ce.length (GF ok c pos) l:=by
 have e:=W.ce 0 Z2;have w:=W.ce 1 Z2;obtain ⟨d,B,E,L⟩:=Ml (lost:=lost) (n:=n) (ss:=bits .xor .i64 (-1) x) (c:=c) (q:=q) e.1 e.2 o;obtain ⟨l,F,V,p⟩:=Ml (lost:=d) (n:=n) (ss:=bits .xor .i64 (-1) y) (c:=c) (q:=q) w.1 w.2 E;refine ⟨d,l,B,F,?_⟩;have v: ∀ {a:Nat} {s:Nat},a<c.ce.length -> tb (AP c pos a) s=true -> s<64:=λ{a s} ha h=>zJq λg=>by rw [Rz g] at h;cases h
 rw [f];refine B3.step (i:=1) (l:=d) (B3.step (i:=0) (l:=lost) (B3.zero o) E λj s=>?_) V λj s=>?_
 ·rw [L,zJo,zAD,zAD,zJz];constructor
  ·rintro (h | ⟨rfl,b,A⟩)
   ·exact .inl h
   ·refine .inr ⟨rfl,b,?_⟩;rw [ZL _ (v (a:=0) Z2 b)] at A;unfold GF
    grind [AP]
  ·rintro (h | ⟨rfl,b,A⟩)
   ·exact .inl h
   ·refine .inr ⟨rfl,b,?_⟩
    grind [ZL,GF]
 ·rw [p,zJo,zAD,zAD,zJz];constructor
  ·rintro (h | ⟨rfl,b,A⟩)
   ·exact .inl h
   ·refine .inr ⟨rfl,b,?_⟩;rw [ZL _ (v (a:=1) Z2 b)] at A;unfold GF
    grind [AP]
  ·rintro (h | ⟨rfl,b,A⟩)
   ·exact .inl h
   ·refine .inr ⟨rfl,b,?_⟩
    grind [ZL,GF]
theorem zPF (W:B5 c k pos)(V:FA q k)(d:c.ce.length=2)(o:lost.length=pos.length):
 ∃ l,RS n c q pos pos.length lost=some (true,l)/\ B3 c pos lost c.ce.length (GF (LV q c) c pos) l:=by
 have h:=W.ce 0 Z2;have w:=W.ce 1 Z2;have H:=W.at (a:=0) Z2;have B:=W.at (a:=1) Z2;have hk:=W.k;have g: ∀ s:Nat,s<k -> (0:Int)<=(s:Int)/\ (s:Int)<=((IntKind.i64.bits:Nat):Int):=λs b=>⟨Z2,by show (s:Int)<=64;omega⟩
 obtain ⟨x,y,e,f,hy⟩:=vE Mc.s0 Md.s0 (bg n c q pos pos.length) (bk n c q pos pos.length) (LV q c) H B hk
  (λs t l x y b ht=>by
   grind [bg,vO,bf,zPE])
  (λs l x y x' y' b he=>by
   unfold bk vN be
   dsimp only
   rw [zAE (show 0<=pos.getD (c.ce.getD 1 0).toNat 0/\ pos.getD (c.ce.getD 1 0).toNat 0<9223372036854775808 from B.i63 hk)]
   grind [AP]) lost
 obtain ⟨l1,l,e1,e2,j⟩:=vG (n:=n) (q:=q) W d o (LV q c) f hy;refine ⟨l,?_,j⟩;unfold RS oa jp vM;rw [zAE ⟨Z2,Z2,h,w,H.i63 hk⟩];refine (congrArg (λz=>Option.bind (Option.bind z _) _) e).trans ?_
 grind
theorem zH5 (W:B5 c k pos)(d:c.ce.length=2)(o:lost.length=pos.length):
 ∃ l,QF n c q pos pos.length lost=some (true,l)/\ B3 c pos lost c.ce.length (GF (KH c) c pos) l:=by
 have h:=W.ce 0 Z2;have w:=W.ce 1 Z2;have H:=W.at (a:=0) Z2;have B:=W.at (a:=1) Z2;have hk:=W.k;have g: ∀ s:Nat,s<k -> (0:Int)<=(s:Int)/\ (s:Int)<=((IntKind.i64.bits:Nat):Int):=λs b=>⟨Z2,by show (s:Int)<=64;omega⟩
 obtain ⟨x,y,e,f,hy⟩:=vE Ma.s0 Mb.s0 (ba n c q pos pos.length) (bc n c q pos pos.length) (KH c) H B hk
  (λs t l x y b ht=>by
   grind [ba,vJ,bZ,zH4])
  (λs l x y x' y' b he=>by
   unfold bc vI bY
   dsimp only
   rw [zAE (show 0<=pos.getD (c.ce.getD 1 0).toNat 0/\ pos.getD (c.ce.getD 1 0).toNat 0<9223372036854775808 from B.i63 hk)]
   grind [AP]) lost
 obtain ⟨l1,l,e1,e2,j⟩:=vG (n:=n) (q:=q) W d o (KH c) f hy;refine ⟨l,?_,j⟩;unfold QF kC jm vH;rw [zAE ⟨Z2,Z2,h,w,H.i63 hk⟩];refine (congrArg (λz=>Option.bind (Option.bind z _) _) e).trans ?_
 grind
end
section
set_option maxRecDepth 100000
set_option maxHeartbeats 40000000
def ql:ST:=.rd 0 (.rd 1 (.rd 2 (.rd 3 (.rd 4 (.rd 6 (.rd 7 (.rd 8 (.rd 9 (.rd 10 (.ef 5 (.rd 12 (.ef 11 (.rd 13 (.fin [0,1] [0,2,3])) (.no))) (.ef 11 (.ef 5 (.rd 12 (.rd 13 (.fin [1,0] [0,2,3]))) (.no)) (.no))))))))))))
def zD3:B2 (A0 Tryz.f130 1) [5,11] ql:=Z1
def qk:ST:=.rd 0 (.rd 1 (.rd 2 (.rd 3 (.rd 4 (.rd 5 (.rd 6 (.rd 7 (.rd 8 (.rd 9 (.rd 10 (.rd 11 (.rd 12 (.rd 13 (.rd 14 (.rd 15 (.rd 16 (.rd 17 (.rd 18 (.rd 19 (.rd 20 (.rd 21 (.rd 22 (.rd 23 (.rd 24 (.rd 25 (.rd 26 (.rd 27 (.rd 28 (.rd 29 (.rd 30 (.rd 31 (.rd 32 (.ef 33 (.rd 34 (.ef 35 (.fin [] [0,2,3,30,31,32]) (.no))) (.no))))))))))))))))))))))))))))))))))
def zD2:B2 (A0 Tryz.f130 5) [33] qk:=Z1
def K8:BF:=λi=>match i with
 | 1=>.tre [5,11] ql
 | 5=>.tre [33] qk
 | _=>.no
def gp (pos:Ξ)(c:AC)(q:AA)(ln:Nat)(lost:Ξ):St:=⟨(AH 120 [(0,.ref 0 0),(2,.msl 2 1 0 pos.length),(3,.msl 3 1 0 pos.length)]),([oW c q pos 1 ln,oI lost,some (.bools (List.replicate pos.length false)),some (.bools (List.replicate pos.length false))]:DH)⟩
def qL (pos:Ξ)(c:AC)(w:Int)(q:AA)(ln:Nat)(lost:Ξ)(E a:Ω):St:=⟨(AH 120 [(0,.ref 0 0),(2,.msl 2 1 0 pos.length),(3,.msl 3 1 0 pos.length),(30,.ints c.ce),(31,.i (c.ce.length:Int)),(32,.i w)]),([oW c q pos 1 ln,oI lost,some (.bools (E.set (0+((c.ce.getD w.toNat 0).toNat)) ((bits .and .i64 (pos.getD ((c.ce.getD w.toNat 0).toNat) 0) c.set) != 0))),some (.bools (a.set (0+((c.ce.getD w.toNat 0).toNat)) ((bits .andNot .i64 (pos.getD ((c.ce.getD w.toNat 0).toNat) 0) c.set)==0)))]:DH)⟩
def xd (c:AC)(q:AA)(pos:Ξ)(ln:Nat)(lost:Ξ)(E a:Ω):DH:=[oW c q pos 1 ln,oI lost,some (.bools E),some (.bools a)]
def xc (c:AC)(q:AA)(pos:Ξ)(ln:Nat)(lost:Ξ)(a:Ω)(x:Ω):DH:=[oW c q pos 1 ln,oI lost,none,some (.bools a),some (.bools x)]
inductive TK where
 | l1 (Dk:Int) (o2 o3:Ω)
 | l2 (GB:Ω) (x8:Nat) (Iz:Ξ) (NU HL:Int) (o2 o3:Ω)
 | l3 (GB:Ω) (x8:Nat) (L8 Dv:Int) (o1:Ξ) (o2 o3:Ω)
def cJ (n:Nat)(self:TK -> X5)(c:AC)(q:AA)(pos:Ξ)(ln:Nat)(lost:Ξ)(w:Int)(E a:Ω):X5:= bif (decide (w<(c.ce.length:Int))) then if (0<=w/\ w<(c.ce.length:Int))/\ (0<=(c.ce.getD w.toNat 0)/\ (c.ce.getD w.toNat 0)<(pos.length:Int))/\ 0+((c.ce.getD w.toNat 0).toNat)<E.length/\ 0+((c.ce.getD w.toNat 0).toNat)<a.length/\ AG (w+1) then self (.l1 (w+1) (E.set (0+((c.ce.getD w.toNat 0).toNat)) ((bits .and .i64 (pos.getD ((c.ce.getD w.toNat 0).toNat) 0) c.set) != 0)) (a.set (0+((c.ce.getD w.toNat 0).toNat)) ((bits .andNot .i64 (pos.getD ((c.ce.getD w.toNat 0).toNat) 0) c.set)==0))) else none else if pos.length=a.length then (dJ n a true).bind λe=> bif (decide (e<0)) then if pos.length=E.length then some (E,a,false,lost) else none else if pos.length=E.length then (RD n E).bind λx=> (UM n q.nb E e).bind λy3=> self (.l2 E x.length y3.1 (y3.1.length:Int) 0 a x) else none else none
def WU (n:Nat)(self:TK -> X5)(c:AC)(q:AA)(pos:Ξ)(ln:Nat)(lost:Ξ)(s:Ω)(x8:Nat)(u:Ξ)(z U:Int)(E a:Ω):X5:= bif (decide (U<z)) then if (0<=U/\ U<(u.length:Int))/\ (0<=(u.getD U.toNat 0)/\ (u.getD U.toNat 0)<(x8:Int))/\ 0+((u.getD U.toNat 0).toNat)<a.length/\ AG (U+1) then self (.l2 s x8 u z (U+1) E (a.set (0+((u.getD U.toNat 0).toNat)) false)) else none else self (.l3 s x8 (x8:Int) 0 lost E a)
def cI (n:Nat)(self:TK -> X5)(c:AC)(q:AA)(pos:Ξ)(ln:Nat)(lost:Ξ)(s:Ω)(x8:Nat)(I d:Int)(o1:Ξ)(E a:Ω):X5:= bif (decide (d<I)) then if (0<=d/\ d<(x8:Int))/\ 0+d.toNat<a.length then bif (a.getD (0+d.toNat) false) then (D5 n d c.set c q pos ln o1).bind λe=> if AG (d+1) then self (.l3 s x8 I (d+1) e E a) else none else if AG (d+1) then self (.l3 s x8 I (d+1) o1 E a) else none else none else if pos.length=E.length then some (s,E,true,o1) else none
def vt (n:Nat)(self:TK -> X5)(c:AC)(q:AA)(pos:Ξ)(ln:Nat)(lost:Ξ):X5:= if ((pos.length:Int):Int)=(pos.length:Int)/\ 0<=(pos.length:Int)/\ ((pos.length:Int):Int)<=1000000000000 then self (.l1 0 (List.replicate pos.length false) (List.replicate pos.length false)) else none
def Fe (c:AC)(q:AA)(pos:Ξ)(ln:Nat)(lost:Ξ):Nat -> TK -> X5
 | 0,_=>none
 | n+1,.l1 w E a=>cJ n (Fe c q pos ln lost n) c q pos ln lost w E a
 | n+1,.l2 s x8 u z U E a=>WU n (Fe c q pos ln lost n) c q pos ln lost s x8 u z U E a
 | n+1,.l3 s x8 I d o1 E a=>cI n (Fe c q pos ln lost n) c q pos ln lost s x8 I d o1 E a
def QH (n:Nat)(c:AC)(q:AA)(pos:Ξ)(ln:Nat)(lost:Ξ):X5:=vt n (Fe c q pos ln lost n) c q pos ln lost
def zIF (n B:Nat)(N:Yd 2)(c:AC)(q:AA)(pos:Ξ)(ln:Nat)(lost:Ξ)(r:Ω×Ω×Bool×Ξ):TK -> Prop:=px n B Fence.wide N (FQ Tryz.f130 2 (.tup 3 (L1 [.bools r.1,.bools r.2.1,.bool r.2.2.1])) [oW c q pos 1 ln,oI r.2.2.2]) (Ac Tryz.f130) λ
 | .l1 w E a=>(0,0,AH 120 [(0,.ref 0 0),(2,.msl 2 1 0 pos.length),(3,.msl 3 1 0 pos.length),(30,.ints c.ce),(31,.i (c.ce.length:Int)),(32,.i w)],[oW c q pos 1 ln,oI lost,some (.bools E),some (.bools a)])
 | .l2 s x8 u z U E a=>(0,2,AH 120 [(0,.ref 0 0),(2,.bools s),(3,.msl 2 1 0 pos.length),(8,.msl 3 1 0 x8),(90,.ints u),(91,.i z),(92,.i U)],[oW c q pos 1 ln,oI lost,some (.bools E),some (.bools a)])
 | .l3 s x8 I d o1 E a=>(0,4,AH 120 [(0,.ref 0 0),(2,.bools s),(3,.msl 2 1 0 pos.length),(8,.msl 3 1 0 x8),(101,.i I),(102,.i d)],[oW c q pos 1 ln,oI o1,some (.bools E),some (.bools a)])
def zIG (B:Nat)(N:Yd 2)(c:AC)(q:AA)(pos:Ξ)(ln:Nat)(lost:Ξ):Al (Fe c q pos ln lost) (zIF · B N c q pos ln lost):=ia (λ_=>rfl) λn w b r h=>by
 cases b
 case l1 Dk o2 o3=>
  intro m k;refine rd k λm k=>?_
  revert r;apply gO
  exact bi 33 (gc (gi (jg zD2 (gc (gn λa=>jg a (jg a (jg a (gc (gi (jg a (gc (gi (jg (Eq.refl (qL pos c Dk q ln lost o2 o3)) (gw 70 (lG (tg:=[([(33,2)],(qL pos c Dk q ln lost o2 o3))]) K8 [0,1,2,3] (w _ _ · m k)))))))))))))))) (gn λW=>cn λe d=>jc (sb [.msl 3 1 0 pos.length,.bool true] (zJk d) (xd c q pos ln lost o2 o3) ⟨Ax.bools rfl W,Ax.plain Z5,trivial⟩) (bi 74 (gn λa=>lF λp=>ez K8 [2,3,4] [0,1,2,3] p [2,3] (H0.g a |>.g W)) (gn λa=>cn λx A=>jc (ES.snapNew (ds:=[.msl 2 1 0 pos.length]) (zm A) (xd c q pos ln lost o2 o3) ⟨Ax.bools rfl a,trivial⟩ rfl) (λp r h=>by
   refine gz (AJ 11 K8) [0,1,2,3,4] p [2] (H0.g a) (Dr (Ac Tryz.f130) 11 []) (AH 120 [(0,.ref 0 0),(2,.bools o2),(3,.msl 3 1 0 pos.length),(7,.i e),(8,.msl 4 1 0 x.length)]) (xc c q pos ln lost o3 x) ?_;revert r;apply gO;exact cf zOK (xc c q pos ln lost o3 x) λ_=>lN K8 [0,1,3,4] (w _ _ · n Nat.le.refl)))))
 case l2 GB x8 Iz NU HL o2 o3=>
  intro m k;refine rd k λm k=>?_
  revert r;apply gO;exact bi 93 (gc (gi (gc (gi (gc (gi (gw 99 (lG K8 [0,1,2,3] (w _ _ · m k))))))))) (lN K8 [0,1,2,3] (w _ _ · n Nat.le.refl))
 case l3 GB x8 L8 Dv o1 o2 o3=>
  intro m k;refine rd k λm k=>?_
  revert r;apply gO;exact bi 103 (gc (gi (gi (bi 108 (ce G8 [0,1] [oW c q pos 1 ln,oI o1,some (.bools o2),some (.bools o3)] λ_=>gw 117 (lG K8 [0,1,2,3] (w _ _ · m k))) (gw 117 (lG K8 [0,1,2,3] (w _ _ · m k))))))) (gn λW=>lF λp=>ez K8 [2,3,4] [0,1,2] p [2] (H0.g W))
variable {lost pos:Ξ}{ln n:Nat}{q:AA}{c:AC}
def vr {r:Ω×Ω×Bool×Ξ}(h:QH n c q pos ln lost=some r):EQ 130 [.ref 0 0] [oW c q pos 1 ln,oI lost] (.tup 3 (L1 [.bools r.1,.bools r.2.1,.bool r.2.2.1])) [oW c q pos 1 ln,oI r.2.2.2] false:=by
 refine ot Tryz.func130 λB N=>?_
 revert r;apply gO;exact jg zD3 (gn λW=>jg W (jg W (jg (Eq.refl (gp pos c q ln lost)) (jg W (jg W (jg (Eq.refl (gp pos c q ln lost)) (lN (tg:=[([],(gp pos c q ln lost))]) K8 [0,1,2,3] ((zIG B N c q pos ln lost n) _ _ · n Nat.le.refl))))))))
inductive fI where
 | l1 (x3 x4:Ω) (x5:Bool) (Ai BN:Int) (o1:Ξ)
def fH (n:Nat)(self:fI -> W0)(c:AC)(q:AA)(pos:Ξ)(ln:Nat)(lost:Ξ)(D I:Ω)(l:Bool)(O o:Int)(o1:Ξ):W0:= bif (decide (o<O)) then bif (!l) then if AG (o+1) then self (.l1 D I l O (o+1) o1) else none else if 0<=o/\ o<(D.length:Int) then bif (!(D.getD o.toNat false)) then if AG (o+1) then self (.l1 D I l O (o+1) o1) else none else if 0<=o/\ o<(I.length:Int) then bif (I.getD o.toNat false) then if AG (o+1) then self (.l1 D I l O (o+1) o1) else none else (SH n q.nb D I o).bind λe=> bif e.1 then (Hg n o c q pos ln o1).bind λx=> if AG (o+1) then self (.l1 D I l O (o+1) x) else none else if AG (o+1) then self (.l1 D I l O (o+1) o1) else none else none else none else some (true,o1)
def zOG (n:Nat)(self:fI -> W0)(c:AC)(q:AA)(pos:Ξ)(ln:Nat)(lost:Ξ):W0:= (QH n c q pos ln lost).bind λe=> self (.l1 e.1 e.2.1 e.2.2.1 (e.1.length:Int) 0 e.2.2.2)
def O9 (c:AC)(q:AA)(pos:Ξ)(ln:Nat)(lost:Ξ):Nat -> fI -> W0
 | 0,_=>none
 | n+1,.l1 D I l O o o1=>fH n (O9 c q pos ln lost n) c q pos ln lost D I l O o o1
def fJ (n:Nat)(c:AC)(q:AA)(pos:Ξ)(ln:Nat)(lost:Ξ):W0:=zOG n (O9 c q pos ln lost n) c q pos ln lost
def zOH (n B:Nat)(N:Yd 2)(c:AC)(q:AA)(pos:Ξ)(ln:Nat)(lost:Ξ)(r:Bool×Ξ):fI -> Prop:=px n B Fence.wide N (FQ Tryz.f113 2 (.bool r.1) [oW c q pos 1 ln,oI r.2]) (Ac Tryz.f113) λ
 | .l1 D I l O o o1=>(0,0,AH 52 [(0,.ref 0 0),(3,.bools D),(4,.bools I),(5,.bool l),(16,.i O),(17,.i o)],[oW c q pos 1 ln,oI o1])
def zOI (B:Nat)(N:Yd 2)(c:AC)(q:AA)(pos:Ξ)(ln:Nat)(lost:Ξ):Al (O9 c q pos ln lost) (zOH · B N c q pos ln lost):=ia (λ_=>rfl) λn w a r h=>by
 cases a
 case l1 x3 x4 x5 Ai BN o1=>
  intro m k;refine rd k λm k=>?_
  revert r;apply gO;exact bi 18 (bi 21 (gw 51 (lG AD [0,1] (w _ _ · m k))) (gi (bi 27 (gw 51 (lG AD [0,1] (w _ _ · m k))) (gi (bi 33 (gw 51 (lG AD [0,1] (w _ _ · m k))) (cf zB9 [oW c q pos 1 ln,oI o1] λ_=>bi 45 (ce OK [0,1] [oW c q pos 1 ln,oI o1] λ_=>gw 51 (lG AD [0,1] (w _ _ · m k))) (gw 51 (lG AD [0,1] (w _ _ · m k))))))))) (lE AD [2] [0,1])
variable {r:Bool×Ξ}
def zOF (h:fJ n c q pos ln lost=some r):EQ 113 [.ref 0 0] [oW c q pos 1 ln,oI lost] (.bool r.1) [oW c q pos 1 ln,oI r.2] false:=by
 refine ot Tryz.func113 λB N=>?_
 revert r;apply gO;exact ce vr [0,1] [oW c q pos 1 ln,oI lost] λ_=>lN AD [0,1] ((zOI B N c q pos ln lost n) _ _ · n Nat.le.refl)
inductive OV where
 | l1 (x3 x4:Ω) (x20 x21:Int) (o1:Ξ)
 | l2 (x3 x4:Ω) (x8 x20 x21:Int) (Bm:Ξ) (Ek BM:Int) (o1:Ξ)
 | l3 (x3 x4:Ω) (x7:Nat) (x8 x20 x21:Int) (Bm:Ξ) (Ek BM:Int) (o1 o2:Ξ)
 | l4 (x3 x4:Ω) (x7:Nat) (x8 x20 x21:Int) (IR:Nat) (IQ At:Int) (o1 o2:Ξ)
def cQ (n:Nat)(self:OV -> W0)(c:AC)(q:AA)(pos:Ξ)(ln:Nat)(lost:Ξ)(D I:Ω)(x20 x21:Int)(o1:Ξ):W0:= bif (decide (x21<x20)) then if 0<=x21/\ x21<(I.length:Int) then bif (!(I.getD x21.toNat false)) then if AG (x21+1) then self (.l1 D I x20 (x21+1) o1) else none else if 0<=x21/\ x21<(q.nb.length:Int) then self (.l2 D I 0 x20 x21 (q.nb.getD x21.toNat []) (((q.nb.getD x21.toNat []).length:Nat):Int) 0 o1) else none else none else some (true,o1)
def cP (n:Nat)(self:OV -> W0)(c:AC)(q:AA)(pos:Ξ)(ln:Nat)(lost:Ξ)(D I:Ω)(x8 x20 x21:Int)(X:Ξ)(T l:Int)(o1:Ξ):W0:= bif (decide (l<T)) then if (0<=l/\ l<(X.length:Int))/\ (0<=(X.getD l.toNat 0)/\ (X.getD l.toNat 0)<(D.length:Int)) then bif (D.getD ((X.getD l.toNat 0).toNat) false) then if ((0=0/\ 1=([X.getD l.toNat 0]:Ξ).length)/\ 0<([X.getD l.toNat 0]:Ξ).length/\ ([X.getD l.toNat 0]:Ξ).length<=Av)/\ (0<=(X.getD l.toNat 0)/\ (X.getD l.toNat 0)<(I.length:Int)) then bif (I.getD ((X.getD l.toNat 0).toNat) false) then if AG (x8+1)/\ AG (l+1) then self (.l3 D I (([X.getD l.toNat 0]:Ξ).length) (x8+1) x20 x21 X T (l+1) o1 ([X.getD l.toNat 0]:Ξ)) else none else if AG (l+1) then self (.l3 D I (([X.getD l.toNat 0]:Ξ).length) x8 x20 x21 X T (l+1) o1 ([X.getD l.toNat 0]:Ξ)) else none else none else if 0<=(X.getD l.toNat 0)/\ (X.getD l.toNat 0)<(I.length:Int) then bif (I.getD ((X.getD l.toNat 0).toNat) false) then if AG (x8+1)/\ AG (l+1) then self (.l2 D I (x8+1) x20 x21 X T (l+1) o1) else none else if AG (l+1) then self (.l2 D I x8 x20 x21 X T (l+1) o1) else none else none else none else some (false,o1)
def cO (n:Nat)(self:OV -> W0)(c:AC)(q:AA)(pos:Ξ)(ln:Nat)(lost:Ξ)(D I:Ω)(P:Nat)(x8 x20 x21:Int)(X:Ξ)(T l:Int)(o1 E:Ξ):W0:= bif (decide (l<T)) then if (0<=l/\ l<(X.length:Int))/\ (0<=(X.getD l.toNat 0)/\ (X.getD l.toNat 0)<(D.length:Int)) then bif (D.getD ((X.getD l.toNat 0).toNat) false) then if ((0=0/\ 1=([X.getD l.toNat 0]:Ξ).length)/\ (0=0/\ P=E.length)/\ E.length+([X.getD l.toNat 0]:Ξ).length<=Av)/\ (0<=(X.getD l.toNat 0)/\ (X.getD l.toNat 0)<(I.length:Int)) then bif (I.getD ((X.getD l.toNat 0).toNat) false) then if AG (x8+1)/\ AG (l+1) then self (.l3 D I (E.length+([X.getD l.toNat 0]:Ξ).length) (x8+1) x20 x21 X T (l+1) o1 (E++([X.getD l.toNat 0]:Ξ))) else none else if AG (l+1) then self (.l3 D I (E.length+([X.getD l.toNat 0]:Ξ).length) x8 x20 x21 X T (l+1) o1 (E++([X.getD l.toNat 0]:Ξ))) else none else none else if 0<=(X.getD l.toNat 0)/\ (X.getD l.toNat 0)<(I.length:Int) then bif (I.getD ((X.getD l.toNat 0).toNat) false) then if AG (x8+1)/\ AG (l+1) then self (.l3 D I P (x8+1) x20 x21 X T (l+1) o1 E) else none else if AG (l+1) then self (.l3 D I P x8 x20 x21 X T (l+1) o1 E) else none else none else none else bif (decide ((P:Int)<2)) then some (false,o1) else bif (decide (x8>2)) then some (false,o1) else self (.l4 D I P x8 x20 x21 P (P:Int) 0 o1 E)
def Wc (n:Nat)(self:OV -> W0)(c:AC)(q:AA)(pos:Ξ)(ln:Nat)(lost:Ξ)(D I:Ω)(P:Nat)(x8 x20 x21:Int)(H:Nat)(a Z:Int)(o1 E:Ξ):W0:= bif (decide (Z<a)) then if (0<=Z/\ Z<(H:Int))/\ 0+Z.toNat<E.length then bif ((P:Int)==2) then (Hg n (E.getD (0+Z.toNat) 0) c q pos ln o1).bind λe=> bif (x8==2) then if 0<=(E.getD (0+Z.toNat) 0)/\ (E.getD (0+Z.toNat) 0)<(I.length:Int) then bif (!(I.getD ((E.getD (0+Z.toNat) 0).toNat) false)) then (D5 n (E.getD (0+Z.toNat) 0) c.set c q pos ln e).bind λx=> if AG (Z+1) then self (.l4 D I P x8 x20 x21 H a (Z+1) x E) else none else if AG (Z+1) then self (.l4 D I P x8 x20 x21 H a (Z+1) e E) else none else none else if AG (Z+1) then self (.l4 D I P x8 x20 x21 H a (Z+1) e E) else none else bif (x8==2) then if 0<=(E.getD (0+Z.toNat) 0)/\ (E.getD (0+Z.toNat) 0)<(I.length:Int) then bif (!(I.getD ((E.getD (0+Z.toNat) 0).toNat) false)) then (D5 n (E.getD (0+Z.toNat) 0) c.set c q pos ln o1).bind λe=> if AG (Z+1) then self (.l4 D I P x8 x20 x21 H a (Z+1) e E) else none else if AG (Z+1) then self (.l4 D I P x8 x20 x21 H a (Z+1) o1 E) else none else none else if AG (Z+1) then self (.l4 D I P x8 x20 x21 H a (Z+1) o1 E) else none else none else if AG (x21+1) then self (.l1 D I x20 (x21+1) o1) else none
def zIk (n:Nat)(self:OV -> W0)(c:AC)(q:AA)(pos:Ξ)(ln:Nat)(lost:Ξ):W0:= (QH n c q pos ln lost).bind λe=> self (.l1 e.1 e.2.1 (e.2.1.length:Int) 0 e.2.2.2)
def C2 (c:AC)(q:AA)(pos:Ξ)(ln:Nat)(lost:Ξ):Nat -> OV -> W0
 | 0,_=>none
 | n+1,.l1 D I x20 x21 o1=>cQ n (C2 c q pos ln lost n) c q pos ln lost D I x20 x21 o1
 | n+1,.l2 D I x8 x20 x21 X T l o1=>cP n (C2 c q pos ln lost n) c q pos ln lost D I x8 x20 x21 X T l o1
 | n+1,.l3 D I P x8 x20 x21 X T l o1 E=>cO n (C2 c q pos ln lost n) c q pos ln lost D I P x8 x20 x21 X T l o1 E
 | n+1,.l4 D I P x8 x20 x21 H a Z o1 E=>Wc n (C2 c q pos ln lost n) c q pos ln lost D I P x8 x20 x21 H a Z o1 E
def cR (n:Nat)(c:AC)(q:AA)(pos:Ξ)(ln:Nat)(lost:Ξ):W0:=zIk n (C2 c q pos ln lost n) c q pos ln lost
def zIl (n B:Nat)(N:Yd 2)(c:AC)(q:AA)(pos:Ξ)(ln:Nat)(lost:Ξ)(r:Bool×Ξ):OV -> Prop:=px n B Fence.wide N (FQ Tryz.f114 2 (.bool r.1) [oW c q pos 1 ln,oI r.2]) (Ac Tryz.f114) λ
 | .l1 D I x20 x21 o1=>(0,0,AH 95 [(0,.ref 0 0),(3,.bools D),(4,.bools I),(20,.i x20),(21,.i x21)],[oW c q pos 1 ln,oI o1])
 | .l2 D I x8 x20 x21 X T l o1=>(1,2,AH 95 [(0,.ref 0 0),(3,.bools D),(4,.bools I),(7,.nils),(8,.i x8),(20,.i x20),(21,.i x21),(36,.ints X),(37,.i T),(38,.i l)],[oW c q pos 1 ln,oI o1])
 | .l3 D I P x8 x20 x21 X T l o1 E=>(1,2,AH 95 [(0,.ref 0 0),(3,.bools D),(4,.bools I),(7,.msl 2 1 0 P),(8,.i x8),(20,.i x20),(21,.i x21),(36,.ints X),(37,.i T),(38,.i l)],[oW c q pos 1 ln,oI o1,oI E])
 | .l4 D I P x8 x20 x21 H a Z o1 E=>(1,4,AH 95 [(0,.ref 0 0),(3,.bools D),(4,.bools I),(7,.msl 2 1 0 P),(8,.i x8),(20,.i x20),(21,.i x21),(64,.msl 2 1 0 H),(65,.i a),(66,.i Z)],[oW c q pos 1 ln,oI o1,oI E])
def zIm (B:Nat)(N:Yd 2)(c:AC)(q:AA)(pos:Ξ)(ln:Nat)(lost:Ξ):Al (C2 c q pos ln lost) (zIl · B N c q pos ln lost):=ia (λ_=>rfl) λn w a r h=>by
 cases a
 case l1 x3 x4 x20 x21 o1=>
  intro m k;refine rd k λm k=>?_
  revert r;apply gO;exact bi 22 (gi (bi 28 (gw 94 (lG AD [0,1] (w _ _ · m k))) (gi (lN AD [0,1] (w _ _ · m n k Nat.le.refl))))) (lE AD [2] [0,1])
 case l2 x3 x4 x8 x20 x21 Bm Ek BM o1=>
  intro m g k j;have k:=zBR k;refine rd j λg j=>?_
  revert r;apply gO;exact bi 39 (gc (gi (gi (bi 45 (gc (gi (gi (bi 53 (gc (gw 55 (gw 56 (lG AD [0,1,3] (w _ _ · m g k j))))) (gw 56 (lG AD [0,1,3] (w _ _ · m g k j))))))) (gi (bi 53 (gc (gw 55 (gw 56 (lG AD [0,1] (w _ _ · m g k j))))) (gw 56 (lG AD [0,1] (w _ _ · m g k j))))))))) (lE AD [2] [0,1])
 case l3 x3 x4 x7 x8 x20 x21 Bm Ek BM o1 o2=>
  intro m g k j;have k:=zBR k;refine rd j λg j=>?_
  revert r;apply gO;exact bi 39 (gc (gi (gi (bi 45 (gc (gi (gi (bi 53 (gc (gw 55 (gw 56 (lG AD [0,1,4] (w _ _ · m g k j))))) (gw 56 (lG AD [0,1,4] (w _ _ · m g k j))))))) (gi (bi 53 (gc (gw 55 (gw 56 (lG AD [0,1,2] (w _ _ · m g k j))))) (gw 56 (lG AD [0,1,2] (w _ _ · m g k j))))))))) (bi 59 (lE AD [2] [0,1]) (bi 62 (lE AD [2] [0,1]) (lN AD [0,1,2] (w _ _ · m n k Nat.le.refl))))
 case l4 x3 x4 x7 x8 x20 x21 IR IQ At o1 o2=>
  intro m g k j;have k:=zBR k;refine rd j λg j=>?_
  revert r;apply gO;exact bi 67 (gc (gi (gi (bi 72 (ce OK [0,1] [oW c q pos 1 ln,oI o1,oI o2] λe=>bi 77 (gi (bi 83 (ce G8 [0,1] [oW c q pos 1 ln,oI e,oI o2] λ_=>gw 93 (lG AD [0,1,2] (w _ _ · m g k j))) (gw 93 (lG AD [0,1,2] (w _ _ · m g k j))))) (gw 93 (lG AD [0,1,2] (w _ _ · m g k j)))) (bi 77 (gi (bi 83 (ce G8 [0,1] [oW c q pos 1 ln,oI o1,oI o2] λ_=>gw 93 (lG AD [0,1,2] (w _ _ · m g k j))) (gw 93 (lG AD [0,1,2] (w _ _ · m g k j))))) (gw 93 (lG AD [0,1,2] (w _ _ · m g k j)))))))) (gw 94 (lG AD [0,1] (w _ _ · m k)))
def zIj (h:cR n c q pos ln lost=some r):EQ 114 [.ref 0 0] [oW c q pos 1 ln,oI lost] (.bool r.1) [oW c q pos 1 ln,oI r.2] false:=by
 refine ot Tryz.func114 λB N=>?_
 revert r;apply gO;exact ce vr [0,1] [oW c q pos 1 ln,oI lost] λ_=>lN AD [0,1] ((zIm B N c q pos ln lost n) _ _ · n Nat.le.refl)
end
section
set_option maxRecDepth 100000
set_option maxHeartbeats 40000000
def qn:ST:=.rd 0 (.rd 1 (.rd 2 (.rd 3 (.rd 4 (.rd 5 (.rd 6 (.rd 7 (.rd 8 (.rd 9 (.rd 10 (.rd 11 (.rd 12 (.rd 13 (.rd 14 (.rd 15 (.rd 16 (.rd 17 (.rd 18 (.rd 19 (.rd 20 (.rd 21 (.rd 22 (.rd 23 (.rd 24 (.rd 25 (.rd 26 (.rd 27 (.rd 28 (.ef 29 (.rd 30 (.fin [] [5,6])) (.no))))))))))))))))))))))))))))))
def zD5:B2 (A0 Tryz.f125 2) [29] qn:=Z1
def qm:ST:=.rd 0 (.rd 1 (.rd 2 (.rd 3 (.rd 4 (.rd 5 (.rd 6 (.rd 7 (.rd 8 (.rd 9 (.rd 10 (.rd 11 (.rd 12 (.rd 13 (.rd 14 (.rd 15 (.ef 16 (.rd 17 (.fin [] [5,6])) (.no)))))))))))))))))
def zD4:B2 (A0 Tryz.f125 5) [16] qm:=Z1
def Zh:BF:=λi=>match i with
 | 2=>.tre [29] qn
 | 5=>.tre [16] qm
 | _=>.no
def qO (G:Δ)(c:AC)(q:AA)(pos:Ξ)(ln:Nat)(lost:Ξ):St:=⟨(AH 59 [(5,.ref 4 0),(6,.bool (decide (G.2<(c.ru.getD ((G.1).toNat) 0))))]),([oC [.ref 1 0],oW c q pos 2 ln,oI lost,oC [.i G.1,.i G.2],oC [.i G.1,.i (G.2+1)]]:DH)⟩
def qN (c:AC)(q:AA)(pos:Ξ)(ln:Nat)(lost:Ξ)(G:Δ):St:=⟨(AH 59 [(5,.ref 4 0),(6,.bool false)]),([oC [.ref 1 0],oW c q pos 2 ln,oI lost,oC [.i G.1,.i G.2],oC [.i G.1,.i (G.2+1)]]:DH)⟩
def qM (G:Δ)(c:AC)(q:AA)(pos:Ξ)(ln:Nat)(lost:Ξ):St:=⟨(AH 59 [(5,.ref 4 0),(6,.bool (G.2==(c.ru.getD ((G.1).toNat) 0)))]),([oC [.ref 1 0],oW c q pos 2 ln,oI lost,oC [.i G.1,.i G.2],oC [.i (G.1+1),.i 0]]:DH)⟩
def vw (n:Nat)(G:Δ)(J:Bool)(c:AC)(q:AA)(pos:Ξ)(ln:Nat)(lost:Ξ):Option ((Δ)×Bool×Ξ):= bif J then if AG (G.2+1) then bif (decide (G.1<(c.ru.length:Int))) then if 0<=G.1/\ G.1<(c.ru.length:Int) then some ((G.1,(G.2+1)),(decide (G.2<(c.ru.getD ((G.1).toNat) 0))),lost) else none else some ((G.1,(G.2+1)),false,lost) else none else bif (G.2==0) then some ((G.1,G.2),true,lost) else if AG (G.1+1)/\ (0<=G.1/\ G.1<(c.ru.length:Int)) then some (((G.1+1),0),(G.2==(c.ru.getD ((G.1).toNat) 0)),lost) else none
def WW (n:Nat)(G:Δ)(J:Bool)(c:AC)(q:AA)(pos:Ξ)(ln:Nat)(lost:Ξ):Option ((Δ)×Bool×Ξ):=vw n G J c q pos ln lost
variable {lost pos:Ξ}{ln n:Nat}{q:AA}{c:AC}{J:Bool}
def OR {G:Δ}{r:(Δ)×Bool×Ξ}(h:WW n G J c q pos ln lost=some r):EQ 125 [.agg 2 (L1 [.i G.1,.i G.2]),.bool J,.ref 0 0] [oC [.ref 1 0],oW c q pos 2 ln,oI lost] (.tup 2 (L1 [.agg 2 (L1 [.i r.1.1,.i r.1.2]),.bool r.2.1])) [oC [.ref 1 0],oW c q pos 2 ln,oI r.2.2] false:=by
 refine ot Tryz.func125 λB N=>?_
 revert r;apply gO;exact bi 8 (jg zD5 (gw 13 (bi 23 (gi (jt (jg (Eq.refl (qO G c q pos ln lost)) (lE (tg:=[([(29,4)],(qO G c q pos ln lost))]) Zh [5,6] [0,1,2,4])))) (jt (jg (Eq.refl (qN c q pos ln lost G)) (lE (tg:=[([(29,4)],(qN c q pos ln lost G))]) Zh [5,6] [0,1,2,4])))))) (bi 41 (jt (lE Zh [5,6] [0,1,2,4])) (jg zD4 (gc (gw 45 (gi (jt (jg (Eq.refl (qM G c q pos ln lost)) (lE (tg:=[([(16,4)],(qM G c q pos ln lost))]) Zh [5,6] [0,1,2,4]))))))))
def zD8:Ae (A0 Tryz.f126 2) [] (List.range 22) []:=Z0
def zD7:Ae (A0 Tryz.f126 3) [] (List.range 22) []:=Z0
def rz:BF:=λi=>match i with
 | 2=>.ord [] (List.range 22) []
 | 3=>.ord [] (List.range 22) []
 | _=>.no
def wj (n:Nat)(y:Int)(J:Bool)(c:AC)(q:AA)(pos:Ξ)(ln:Nat)(lost:Ξ):W0:= bif J then if (0<=y/\ y<(c.ce.length:Int))/\ (0<=(c.ce.getD y.toNat 0)/\ (c.ce.getD y.toNat 0)<(pos.length:Int)) then some (((bits .and .i64 (pos.getD ((c.ce.getD y.toNat 0).toNat) 0) c.set) != 0),lost) else none else if (0<=y/\ y<(c.ce.length:Int))/\ (0<=(c.ce.getD y.toNat 0)/\ (c.ce.getD y.toNat 0)<(pos.length:Int)) then some (((bits .andNot .i64 (pos.getD ((c.ce.getD y.toNat 0).toNat) 0) c.set) != 0),lost) else none
def We (n:Nat)(y:Int)(J:Bool)(c:AC)(q:AA)(pos:Ξ)(ln:Nat)(lost:Ξ):W0:=wj n y J c q pos ln lost
variable {r:Bool×Ξ}
def cj {y:Int}(h:We n y J c q pos ln lost=some r):EQ 126 [.i y,.bool J,.ref 0 0] [oC [.ref 1 0],oW c q pos 2 ln,oI lost] (.bool r.1) [oC [.ref 1 0],oW c q pos 2 ln,oI r.2] false:=by
 refine ot Tryz.func126 λB N=>?_
 revert r;apply gO;exact bi 6 (jg zD8 (gc (gi (gi (lE rz [5] [0,1,2]))))) (jg zD7 (gc (gi (gi (lE rz [5] [0,1,2])))))
def zDM:Ae (A0 Tryz.f110 24) [] (List.range 6) [6]:=Z0
def qa:ST:=.rd 0 (.rd 1 (.rd 2 (.rd 3 (.rd 4 (.rd 5 (.rd 6 (.rd 7 (.rd 8 (.rd 9 (.rd 10 (.rd 11 (.rd 12 (.rd 13 (.ef 14 (.fin [] [1,3,5,7,14,16,18]) (.no)))))))))))))))
def sL:B2 (A0 Tryz.f110 49) [] qa:=Z1
def qZ:ST:=.rd 0 (.rd 1 (.rd 2 (.rd 3 (.rd 4 (.rd 5 (.rd 6 (.rd 7 (.rd 8 (.ef 9 (.fin [] [1,3,5,7,14,16]) (.no))))))))))
def iW:B2 (A0 Tryz.f110 51) [] qZ:=Z1
def Cd:BF:=λi=>match i with
 | 24=>.ord [] (List.range 6) [6]
 | 49=>.tre [] qa
 | 51=>.tre [] qZ
 | _=>.no
def mG (c:AC)(q:AA)(pos:Ξ)(ln:Nat)(o1:Ξ)(a:List (Option KS)):DH:=[oW c q pos 1 ln,oI o1,oC [.ref 0 0],some (.mo (.sets 2 a none))]
def zKo (c:AC)(q:AA)(pos:Ξ)(ln:Nat)(o1:Ξ)(a:List (Option KS))(C:Int)(t:LK):DH:=[oW c q pos 1 ln,oI o1,oC [.ref 0 0],some (.mo (.sets 2 a (some (0+C.toNat,t))))]
def zKi (c:AC)(q:AA)(pos:Ξ)(ln:Nat)(o1:Ξ)(a:List (Option KS))(b:Nat)(t:LK)(o4:KS):DH:=[oW c q pos 1 ln,oI o1,oC [.ref 0 0],some (.mo (.sets 2 a (some (b,t)))),some (.mo (.mit 2 t.1 t.2.1 t.2.2 o4 none))]
def xT (c:AC)(q:AA)(pos:Ξ)(ln:Nat)(o1:Ξ)(a:List (Option KS))(b:Nat)(t:LK)(o4:KS)(e:Ξ):DH:=[oW c q pos 1 ln,oI o1,oC [.ref 0 0],some (.mo (.sets 2 a (some (b,t)))),some (.mo (.mit 2 t.1 t.2.1 t.2.2 (o4.erase e) (some e)))]
def mD (c:AC)(q:AA)(pos:Ξ)(ln:Nat)(o1:Ξ)(a:List (Option KS))(o4:KS):DH:=[oW c q pos 1 ln,oI o1,oC [.ref 0 0],some (.mo (.sets 2 a none)),some (.mo (.set 2 o4)),some (.mo (.set 2 ([]:KS))),oC [.bool false,.bool false]]
def zKg (c:AC)(q:AA)(pos:Ξ)(ln:Nat)(o1:Ξ)(a:List (Option KS))(O:Int)(t:LK)(o4:KS):DH:=[oW c q pos 1 ln,oI o1,oC [.ref 0 0],some (.mo (.sets 2 a (some (0+O.toNat,t)))),some (.mo (.set 2 o4)),some (.mo (.set 2 ([]:KS))),oC [.bool false,.bool false]]
def mC (c:AC)(q:AA)(pos:Ξ)(ln:Nat)(o1:Ξ)(a:List (Option KS))(b:Nat)(t:LK)(d e:Int)(D:KS)(f:Ξ):DH:=[oW c q pos 1 ln,oI o1,oC [.ref 0 0],some (.mo (.sets 2 a (some (b,t)))),oC [.i d,.i e],some (.mo (.mit 2 t.1 t.2.1 t.2.2 D (some f))),some (.bools ([false,true]:Ω))]
def zKf (c:AC)(q:AA)(pos:Ξ)(ln:Nat)(e:(Δ)×Bool×Ξ)(a:List (Option KS))(b:Nat)(t:LK)(d f:Int)(D:KS)(g:Ξ):DH:=[oW c q pos 1 ln,oI e.2.2,oC [.ref 0 0],some (.mo (.sets 2 a (some (b,t)))),oC [.i d,.i f],some (.mo (.mit 2 t.1 t.2.1 t.2.2 D (some g))),some (.bools ([false,true]:Ω)),oC [.i e.1.1,.i e.1.2]]
def zKe (c:AC)(q:AA)(pos:Ξ)(ln:Nat)(o1:Ξ)(a:List (Option KS))(b:Nat)(t:LK)(o4 u:KS):DH:=[oW c q pos 1 ln,oI o1,oC [.ref 0 0],some (.mo (.sets 2 a (some (b,t)))),some (.mo (.set 2 o4)),some (.mo (.set 2 ([]:KS))),oC [.bool false,.bool false],some (.mo (.mit 2 t.1 t.2.1 t.2.2 u none))]
def p9 (c:AC)(O:Int)(q:AA)(pos:Ξ)(ln:Nat)(x:Ξ)(a:List (Option KS))(o4:KS):St:=⟨(AH 208 [(1,.ref 2 0),(3,.fn 125 1 (L1 [.ref 2 0])),(5,.msl 3 1 0 ((((c.ce.length:Int)+1)).toNat)),(7,.fn 126 1 (L1 [.ref 2 0])),(14,.it 5),(16,.i O),(18,.ref 6 0)]),([oW c q pos 1 ln,oI x,oC [.ref 0 0],some (.mo (.sets 2 a none)),some (.mo (.set 2 o4)),some (.mo (.set 2 ([]:KS))),oC [.bool false,.bool false]]:DH)⟩
def zKn (c:AC)(q:AA)(pos:Ξ)(ln:Nat)(x:Ξ)(a:List (Option KS))(o4:KS):DH:=[oW c q pos 1 ln,oI x,oC [.ref 0 0],some (.mo (.sets 2 a none)),some (.mo (.set 2 o4)),some (.mo (.set 2 ([]:KS))),oC [.bool false,.bool false]]
def qC (c:AC)(O:Int)(q:AA)(pos:Ξ)(ln:Nat)(y3:Ξ)(a:List (Option KS))(o4:KS):St:=⟨(AH 208 [(1,.ref 2 0),(3,.fn 125 1 (L1 [.ref 2 0])),(5,.msl 3 1 0 ((((c.ce.length:Int)+1)).toNat)),(7,.fn 126 1 (L1 [.ref 2 0])),(14,.it 5),(16,.i O)]),([oW c q pos 1 ln,oI y3,oC [.ref 0 0],some (.mo (.sets 2 a none)),some (.mo (.set 2 o4)),some (.mo (.set 2 ([]:KS))),oC [.bool false,.bool false]]:DH)⟩
def zKm (c:AC)(q:AA)(pos:Ξ)(ln:Nat)(o1:Ξ)(a:List (Option KS))(b:Nat)(t:LK)(o4 u:KS)(e:Ξ):DH:=[oW c q pos 1 ln,oI o1,oC [.ref 0 0],some (.mo (.sets 2 a (some (b,t)))),some (.mo (.set 2 o4)),some (.mo (.set 2 ([]:KS))),oC [.bool false,.bool false],some (.mo (.mit 2 t.1 t.2.1 t.2.2 (u.erase e) (some e)))]
def Ws (c:AC)(q:AA)(pos:Ξ)(ln:Nat)(o1:Ξ)(a:List (Option KS))(b:Nat)(t:LK)(o4 D:KS)(C F:Bool)(M N:Int)(g:KS)(d:Ξ):DH:=[oW c q pos 1 ln,oI o1,oC [.ref 0 0],some (.mo (.sets 2 a (some (b,t)))),some (.mo (.set 2 o4)),some (.mo (.set 2 D)),oC [.bool C,.bool F],oC [.i M,.i N],some (.mo (.mit 2 t.1 t.2.1 t.2.2 g (some d))),some (.bools ([false,true]:Ω))]
def mF (c:AC)(q:AA)(pos:Ξ)(ln:Nat)(e:(Δ)×Bool×Ξ)(a:List (Option KS))(b:Nat)(t:LK)(o4 D:KS)(C F:Bool)(M N:Int)(g:KS)(d:Ξ):DH:=[oW c q pos 1 ln,oI e.2.2,oC [.ref 0 0],some (.mo (.sets 2 a (some (b,t)))),some (.mo (.set 2 o4)),some (.mo (.set 2 D)),oC [.bool C,.bool F],oC [.i M,.i N],some (.mo (.mit 2 t.1 t.2.1 t.2.2 g (some d))),some (.bools ([false,true]:Ω)),oC [.i e.1.1,.i e.1.2]]
def zKl (c:AC)(q:AA)(pos:Ξ)(ln:Nat)(o1:Ξ)(a:List (Option KS))(b:Nat)(t:LK)(o4:KS)(P:Ξ):DH:=[oW c q pos 1 ln,oI o1,oC [.ref 0 0],some (.mo (.sets 2 a (some (b,t)))),some (.mo (.mit 2 t.1 t.2.1 t.2.2 o4 (some P)))]
def zKk (c:AC)(q:AA)(pos:Ξ)(ln:Nat)(o1:Ξ)(a:List (Option KS))(b:Nat)(t:LK)(o4 D:KS)(C F:Bool)(u:KS)(Q:Ξ):DH:=[oW c q pos 1 ln,oI o1,oC [.ref 0 0],some (.mo (.sets 2 a (some (b,t)))),some (.mo (.set 2 o4)),some (.mo (.set 2 D)),oC [.bool C,.bool F],some (.mo (.mit 2 t.1 t.2.1 t.2.2 u (some Q)))]
def mE (c:AC)(q:AA)(pos:Ξ)(ln:Nat)(o1:Ξ)(a:List (Option KS))(o4 D:KS)(C F:Bool):DH:=[oW c q pos 1 ln,oI o1,oC [.ref 0 0],some (.mo (.sets 2 a none)),some (.mo (.set 2 o4)),some (.mo (.set 2 D)),oC [.bool C,.bool F]]
def gm (c:AC)(O:Int)(q:AA)(pos:Ξ)(ln:Nat)(x:Ξ)(a:List (Option KS))(o4 D:KS)(C F:Bool):St:=⟨(AH 208 [(1,.ref 2 0),(3,.fn 125 1 (L1 [.ref 2 0])),(5,.msl 3 1 0 ((((c.ce.length:Int)+1)).toNat)),(7,.fn 126 1 (L1 [.ref 2 0])),(14,.it 5),(16,.i O),(18,.ref 6 0)]),([oW c q pos 1 ln,oI x,oC [.ref 0 0],some (.mo (.sets 2 a none)),some (.mo (.set 2 o4)),some (.mo (.set 2 D)),oC [.bool C,.bool F]]:DH)⟩
def zKj (c:AC)(q:AA)(pos:Ξ)(ln:Nat)(x:Ξ)(a:List (Option KS))(o4 D:KS)(C F:Bool):DH:=[oW c q pos 1 ln,oI x,oC [.ref 0 0],some (.mo (.sets 2 a none)),some (.mo (.set 2 o4)),some (.mo (.set 2 D)),oC [.bool C,.bool F]]
def qB (c:AC)(O:Int)(q:AA)(pos:Ξ)(ln:Nat)(y3:Ξ)(a:List (Option KS))(o4 D:KS)(C F:Bool):St:=⟨(AH 208 [(1,.ref 2 0),(3,.fn 125 1 (L1 [.ref 2 0])),(5,.msl 3 1 0 ((((c.ce.length:Int)+1)).toNat)),(7,.fn 126 1 (L1 [.ref 2 0])),(14,.it 5),(16,.i O)]),([oW c q pos 1 ln,oI y3,oC [.ref 0 0],some (.mo (.sets 2 a none)),some (.mo (.set 2 o4)),some (.mo (.set 2 D)),oC [.bool C,.bool F]]:DH)⟩
def qA (c:AC)(O:Int)(q:AA)(pos:Ξ)(ln:Nat)(x:Ξ)(a:List (Option KS))(o4 D:KS)(C F:Bool):St:=⟨(AH 208 [(1,.ref 2 0),(3,.fn 125 1 (L1 [.ref 2 0])),(5,.msl 3 1 0 ((((c.ce.length:Int)+1)).toNat)),(7,.fn 126 1 (L1 [.ref 2 0])),(14,.it 5),(16,.i O)]),([oW c q pos 1 ln,oI x,oC [.ref 0 0],some (.mo (.sets 2 a none)),some (.mo (.set 2 o4)),some (.mo (.set 2 D)),oC [.bool C,.bool F]]:DH)⟩
def zKh (c:AC)(q:AA)(pos:Ξ)(ln:Nat)(o1:Ξ)(a:List (Option KS))(b:Nat)(t:LK)(o4 D:KS)(C F:Bool)(u:KS)(e:Ξ):DH:=[oW c q pos 1 ln,oI o1,oC [.ref 0 0],some (.mo (.sets 2 a (some (b,t)))),some (.mo (.set 2 o4)),some (.mo (.set 2 D)),oC [.bool C,.bool F],some (.mo (.mit 2 t.1 t.2.1 t.2.2 (u.erase e) (some e)))]
inductive JA where
 | l1 (Dj:Int) (o3:List (Option KS))
 | l2 (A9:Int) (o1:Ξ) (o3:List (Option KS))
 | l3 (x8 A9:Int) (o1:Ξ) (o3:List (Option KS)) (Ap:Nat) (o4:KS)
 | l4 (Ai:Int) (o1:Ξ) (o3:List (Option KS)) (o4:KS)
 | l5 (x8 A9 GA:Int) (o1:Ξ) (o3:List (Option KS)) (Ap:Nat) (Aw GJ:Int) (o5:KS) (GI:Ξ)
 | l6 (Ai:Int) (o1:Ξ) (o3:List (Option KS)) (Ap:Nat) (o4 o7:KS)
 | l7 (Ai ET:Int) (o1:Ξ) (o3:List (Option KS)) (Ap:Nat) (o4 o5:KS) (Ba Bb:Bool) (D0 Dz:Int) (o8:KS) (Eb:Ξ)
 | l8 (x8 A9:Int) (o1:Ξ) (o3:List (Option KS)) (Ap:Nat) (o4:KS) (LY:Ξ)
 | l9 (Ai:Int) (o1:Ξ) (o3:List (Option KS)) (Ap:Nat) (o4 o5:KS) (Ba Bb:Bool) (o7:KS) (LX:Ξ)
def Zz (n:Nat)(self:JA -> W0)(c:AC)(q:AA)(pos:Ξ)(ln:Nat)(lost:Ξ)(O:Int)(a:List (Option KS)):W0:= bif (decide (O<(((((c.ce.length:Int)+1)).toNat:Nat):Int))) then if (0<=O/\ O<(((((c.ce.length:Int)+1)).toNat:Nat):Int))/\ 0+O.toNat<a.length/\ AG (O+1) then self (.l1 (O+1) (a.set (0+O.toNat) (some ([]:KS)))) else none else if ((0:Int)<=0/\ 0<(((((c.ce.length:Int)+1)).toNat:Nat):Int))/\ 0+0<a.length/\ (a.getD (0+0) none).isSome=true then self (.l2 0 lost (a.set (0+0) (some (Co [0,0] ((a.getD (0+0) none).getD []))))) else none
def SZ (n:Nat)(self:JA -> W0)(c:AC)(q:AA)(pos:Ξ)(ln:Nat)(lost:Ξ)(C:Int)(o1:Ξ)(a:List (Option KS)):W0:= bif (decide (C<(c.ce.length:Int))) then if (a.getD (0+C.toNat) none).isSome=true then if (0<=C/\ C<(((((c.ce.length:Int)+1)).toNat:Nat):Int))/\ 0+C.toNat<a.length/\ (a.getD (0+C.toNat) none).isSome=true then self (.l3 C C o1 a (0+C.toNat) ((a.getD (0+C.toNat) none).getD [])) else none else none else bif (decide ((c.ru.length:Int)>0)) then if AG ((c.ru.length:Int)-1)/\ ((0:Int)<=((c.ru.length:Int)-1)/\ ((c.ru.length:Int)-1)<(c.ru.length:Int))/\ AG ((c.ce.length:Int)-1) then self (.l4 ((c.ce.length:Int)-1) o1 a (Co [((c.ru.length:Int)-1),c.ru.getD ((((c.ru.length:Int)-1)).toNat) 0] (Co [(c.ru.length:Int),0] ([]:KS)))) else none else if AG ((c.ce.length:Int)-1) then self (.l4 ((c.ce.length:Int)-1) o1 a (Co [(c.ru.length:Int),0] ([]:KS))) else none
def zEd (n:Nat)(self:JA -> W0)(c:AC)(q:AA)(pos:Ξ)(ln:Nat)(lost:Ξ)(x8 C:Int)(o1:Ξ)(a:List (Option KS))(b:Nat)(o4:KS):W0:= if (a.getD b none).isSome=true then If o4 (if AG (C+1) then self (.l2 (C+1) o1 a) else none) λe=> if (a.getD b none).isSome=true then self (.l5 x8 C 0 o1 a b (e.getD 0 0) (e.getD 1 0) (o4.erase e) e) else none else none
def Zy (n:Nat)(self:JA -> W0)(c:AC)(q:AA)(pos:Ξ)(ln:Nat)(lost:Ξ)(O:Int)(o1:Ξ)(a:List (Option KS))(o4:KS):W0:= bif (decide (O>=0)) then if (a.getD (0+O.toNat) none).isSome=true then if (0<=O/\ O<(((((c.ce.length:Int)+1)).toNat:Nat):Int))/\ 0+O.toNat<a.length/\ (a.getD (0+O.toNat) none).isSome=true then self (.l6 O o1 a (0+O.toNat) o4 ((a.getD (0+O.toNat) none).getD [])) else none else none else some (true,o1)
def SY (n:Nat)(self:JA -> W0)(c:AC)(q:AA)(pos:Ξ)(ln:Nat)(lost:Ξ)(x8 C g:Int)(o1:Ξ)(a:List (Option KS))(b:Nat)(i d:Int)(D:KS)(f:Ξ):W0:= bif (decide (g<2)) then if (0<=g/\ g<((2:Nat):Int))/\ 0+g.toNat<([false,true]:Ω).length then (WW n (i,d) (([false,true]:Ω).getD (0+g.toNat) false) c q pos ln o1).bind λe=> bif e.2.1 then (We n x8 (([false,true]:Ω).getD (0+g.toNat) false) c q pos ln e.2.2).bind λx=> bif x.1 then if AG (x8+1)/\ (0<=(x8+1)/\ (x8+1)<(((((c.ce.length:Int)+1)).toNat:Nat):Int))/\ 0+(((x8+1)).toNat)<a.length/\ b≠0+(((x8+1)).toNat)/\ (a.getD (0+(((x8+1)).toNat)) none).isSome=true/\ AG (g+1) then self (.l5 x8 C (g+1) x.2 (a.set (0+(((x8+1)).toNat)) (some (Co [e.1.1,e.1.2] ((a.getD (0+(((x8+1)).toNat)) none).getD [])))) b i d D f) else none else if AG (g+1) then self (.l5 x8 C (g+1) x.2 a b i d D f) else none else if AG (g+1) then self (.l5 x8 C (g+1) e.2.2 a b i d D f) else none else none else self (.l8 x8 C o1 a b D f)
def zEc (n:Nat)(self:JA -> W0)(c:AC)(q:AA)(pos:Ξ)(ln:Nat)(lost:Ξ)(O:Int)(o1:Ξ)(a:List (Option KS))(b:Nat)(o4 u:KS):W0:= if (a.getD b none).isSome=true then If u (if 0<=O/\ O<(c.ce.length:Int) then (D5 n (c.ce.getD O.toNat 0) c.set c q pos ln o1).bind λx=> (Hg n (c.ce.getD O.toNat 0) c q pos ln x).bind λy3=> if AG (O-1) then self (.l4 (O-1) y3 a ([]:KS)) else none else none) λe=> if (a.getD b none).isSome=true then self (.l7 O 0 o1 a b o4 ([]:KS) false false (e.getD 0 0) (e.getD 1 0) (u.erase e) e) else none else none
def SX (n:Nat)(self:JA -> W0)(c:AC)(q:AA)(pos:Ξ)(ln:Nat)(lost:Ξ)(O r:Int)(o1:Ξ)(a:List (Option KS))(b:Nat)(o4 D:KS)(C F:Bool)(M N:Int)(g:KS)(d:Ξ):W0:= bif (decide (r<2)) then if (0<=r/\ r<((2:Nat):Int))/\ 0+r.toNat<([false,true]:Ω).length then (WW n (M,N) (([false,true]:Ω).getD (0+r.toNat) false) c q pos ln o1).bind λe=> bif e.2.1 then (We n O (([false,true]:Ω).getD (0+r.toNat) false) c q pos ln e.2.2).bind λx=> bif x.1 then bif (o4.contains [e.1.1,e.1.2]) then bif (r==0) then if AG (r+1) then self (.l7 O (r+1) x.2 a b o4 (Co [M,N] D) true F M N g d) else none else bif (r==1) then if AG (r+1) then self (.l7 O (r+1) x.2 a b o4 (Co [M,N] D) C true M N g d) else none else none else if AG (r+1) then self (.l7 O (r+1) x.2 a b o4 D C F M N g d) else none else if AG (r+1) then self (.l7 O (r+1) x.2 a b o4 D C F M N g d) else none else if AG (r+1) then self (.l7 O (r+1) e.2.2 a b o4 D C F M N g d) else none else none else self (.l9 O o1 a b o4 D C F g d)
def ii (n:Nat)(self:JA -> W0)(c:AC)(q:AA)(pos:Ξ)(ln:Nat)(lost:Ξ)(x8 C:Int)(o1:Ξ)(a:List (Option KS))(b:Nat)(o4:KS)(LY:Ξ):W0:= if (a.getD b none).isSome=true then If o4 (if AG (C+1) then self (.l2 (C+1) o1 a) else none) λe=> if (a.getD b none).isSome=true then self (.l5 x8 C 0 o1 a b (e.getD 0 0) (e.getD 1 0) (o4.erase e) e) else none else none
def VZ (n:Nat)(self:JA -> W0)(c:AC)(q:AA)(pos:Ξ)(ln:Nat)(lost:Ξ)(O:Int)(o1:Ξ)(a:List (Option KS))(b:Nat)(o4 D:KS)(C F:Bool)(u:KS)(LX:Ξ):W0:= if (a.getD b none).isSome=true then If u (bif (!F) then if 0<=O/\ O<(c.ce.length:Int) then (D5 n (c.ce.getD O.toNat 0) c.set c q pos ln o1).bind λx=> bif (!C) then (Hg n (c.ce.getD O.toNat 0) c q pos ln x).bind λy3=> if AG (O-1) then self (.l4 (O-1) y3 a D) else none else if AG (O-1) then self (.l4 (O-1) x a D) else none else none else bif (!C) then if 0<=O/\ O<(c.ce.length:Int) then (Hg n (c.ce.getD O.toNat 0) c q pos ln o1).bind λx=> if AG (O-1) then self (.l4 (O-1) x a D) else none else none else if AG (O-1) then self (.l4 (O-1) o1 a D) else none) λe=> if (a.getD b none).isSome=true then self (.l7 O 0 o1 a b o4 D C F (e.getD 0 0) (e.getD 1 0) (u.erase e) e) else none else none
def ij (n:Nat)(self:JA -> W0)(c:AC)(q:AA)(pos:Ξ)(ln:Nat)(lost:Ξ):W0:= bif ((c.ce.length:Int)==0) then some (((c.ru.length:Int)==0),lost) else if AG ((c.ce.length:Int)+1)/\ ((((c.ce.length:Int)+1):Int)=((c.ce.length:Int)+1)/\ (0:Int)<=((c.ce.length:Int)+1)/\ (((c.ce.length:Int)+1):Int)<=1000000000000) then self (.l1 0 (List.replicate ((((c.ce.length:Int)+1)).toNat) (none:Option KS))) else none
def BU (c:AC)(q:AA)(pos:Ξ)(ln:Nat)(lost:Ξ):Nat -> JA -> W0
 | 0,_=>none
 | n+1,.l1 e a=>Zz n (BU c q pos ln lost n) c q pos ln lost e a
 | n+1,.l2 C o1 a=>SZ n (BU c q pos ln lost n) c q pos ln lost C o1 a
 | n+1,.l3 x8 C o1 a b o4=>zEd n (BU c q pos ln lost n) c q pos ln lost x8 C o1 a b o4
 | n+1,.l4 O o1 a o4=>Zy n (BU c q pos ln lost n) c q pos ln lost O o1 a o4
 | n+1,.l5 x8 C g o1 a b i f D h=>SY n (BU c q pos ln lost n) c q pos ln lost x8 C g o1 a b i f D h
 | n+1,.l6 O o1 a b o4 u=>zEc n (BU c q pos ln lost n) c q pos ln lost O o1 a b o4 u
 | n+1,.l7 O r o1 a b o4 D d F M N j k=>SX n (BU c q pos ln lost n) c q pos ln lost O r o1 a b o4 D d F M N j k
 | n+1,.l8 x8 C o1 a b o4 P=>ii n (BU c q pos ln lost n) c q pos ln lost x8 C o1 a b o4 P
 | n+1,.l9 O o1 a b o4 D d F u Q=>VZ n (BU c q pos ln lost n) c q pos ln lost O o1 a b o4 D d F u Q
def Sa (n:Nat)(c:AC)(q:AA)(pos:Ξ)(ln:Nat)(lost:Ξ):W0:=ij n (BU c q pos ln lost n) c q pos ln lost
def zEe (n B:Nat)(N:Yd 2)(c:AC)(q:AA)(pos:Ξ)(ln:Nat)(lost:Ξ)(r:Bool×Ξ):JA -> Prop
 | .l1 e a=>∀ m:Nat,n<=m -> TW B N (FQ Tryz.f110 2 (.bool r.1) [oW c q pos 1 ln,oI r.2]) (Dx m (Fk (Ac Tryz.f110) 0 [])) ⟨AH 208 [(1,.ref 2 0),(3,.fn 125 1 (L1 [.ref 2 0])),(4,.i (c.ce.length:Int)),(5,.msl 3 1 0 ((((c.ce.length:Int)+1)).toNat)),(44,.i (((((c.ce.length:Int)+1)).toNat:Nat):Int)),(45,.i e)],[oW c q pos 1 ln,oI lost,oC [.ref 0 0],some (.mo (.sets 2 a none))]⟩
 | .l2 C o1 a=>∀ m:Nat,n<=m -> TW B N (FQ Tryz.f110 2 (.bool r.1) [oW c q pos 1 ln,oI r.2]) (Dx m (Fk (Ac Tryz.f110) 2 [])) ⟨AH 208 [(1,.ref 2 0),(3,.fn 125 1 (L1 [.ref 2 0])),(4,.i (c.ce.length:Int)),(5,.msl 3 1 0 ((((c.ce.length:Int)+1)).toNat)),(7,.fn 126 1 (L1 [.ref 2 0])),(58,.i (c.ce.length:Int)),(59,.i C)],[oW c q pos 1 ln,oI o1,oC [.ref 0 0],some (.mo (.sets 2 a none))]⟩
 | .l3 x8 C o1 a b o4=>∀ m g:Nat,n<=m -> n<=g -> ∀ t:LK,TW B N (FQ Tryz.f110 2 (.bool r.1) [oW c q pos 1 ln,oI r.2]) (Dx g (Fk (Ac Tryz.f110) 4 [m])) ⟨AH 208 [(1,.ref 2 0),(3,.fn 125 1 (L1 [.ref 2 0])),(4,.i (c.ce.length:Int)),(5,.msl 3 1 0 ((((c.ce.length:Int)+1)).toNat)),(7,.fn 126 1 (L1 [.ref 2 0])),(8,.i x8),(58,.i (c.ce.length:Int)),(59,.i C),(66,.it 4)],[oW c q pos 1 ln,oI o1,oC [.ref 0 0],some (.mo (.sets 2 a (some (b,t)))),some (.mo (.mit 2 t.1 t.2.1 t.2.2 o4 none))]⟩
 | .l4 O o1 a o4=>∀ m:Nat,n<=m -> TW B N (FQ Tryz.f110 2 (.bool r.1) [oW c q pos 1 ln,oI r.2]) (Dx m (Fk (Ac Tryz.f110) 8 [])) ⟨AH 208 [(1,.ref 2 0),(3,.fn 125 1 (L1 [.ref 2 0])),(5,.msl 3 1 0 ((((c.ce.length:Int)+1)).toNat)),(7,.fn 126 1 (L1 [.ref 2 0])),(14,.it 4),(16,.i O)],[oW c q pos 1 ln,oI o1,oC [.ref 0 0],some (.mo (.sets 2 a none)),some (.mo (.set 2 o4))]⟩
 | .l5 x8 C f o1 a b h j D k=>∀ m g p:Nat,n<=m -> n<=g -> n<=p -> ∀ t:LK,TW B N (FQ Tryz.f110 2 (.bool r.1) [oW c q pos 1 ln,oI r.2]) (Dx p (Fk (Ac Tryz.f110) 6 [m,g])) ⟨AH 208 [(1,.ref 2 0),(3,.fn 125 1 (L1 [.ref 2 0])),(4,.i (c.ce.length:Int)),(5,.msl 3 1 0 ((((c.ce.length:Int)+1)).toNat)),(7,.fn 126 1 (L1 [.ref 2 0])),(8,.i x8),(9,.ref 4 0),(58,.i (c.ce.length:Int)),(59,.i C),(66,.it 5),(71,.msl 6 1 0 2),(72,.i 2),(73,.i f)],[oW c q pos 1 ln,oI o1,oC [.ref 0 0],some (.mo (.sets 2 a (some (b,t)))),oC [.i h,.i j],some (.mo (.mit 2 t.1 t.2.1 t.2.2 D (some k))),some (.bools ([false,true]:Ω))]⟩
 | .l6 O o1 a b o4 u=>∀ m g:Nat,n<=m -> n<=g -> ∀ t:LK,TW B N (FQ Tryz.f110 2 (.bool r.1) [oW c q pos 1 ln,oI r.2]) (Dx g (Fk (Ac Tryz.f110) 10 [m])) ⟨AH 208 [(1,.ref 2 0),(3,.fn 125 1 (L1 [.ref 2 0])),(5,.msl 3 1 0 ((((c.ce.length:Int)+1)).toNat)),(7,.fn 126 1 (L1 [.ref 2 0])),(14,.it 4),(16,.i O),(17,.it 5),(18,.ref 6 0),(140,.it 7)],[oW c q pos 1 ln,oI o1,oC [.ref 0 0],some (.mo (.sets 2 a (some (b,t)))),some (.mo (.set 2 o4)),some (.mo (.set 2 ([]:KS))),oC [.bool false,.bool false],some (.mo (.mit 2 t.1 t.2.1 t.2.2 u none))]⟩
 | .l7 O l o1 a b o4 D d F M o s v=>∀ m g p:Nat,n<=m -> n<=g -> n<=p -> ∀ t:LK,TW B N (FQ Tryz.f110 2 (.bool r.1) [oW c q pos 1 ln,oI r.2]) (Dx p (Fk (Ac Tryz.f110) 12 [m,g])) ⟨AH 208 [(1,.ref 2 0),(3,.fn 125 1 (L1 [.ref 2 0])),(5,.msl 3 1 0 ((((c.ce.length:Int)+1)).toNat)),(7,.fn 126 1 (L1 [.ref 2 0])),(14,.it 4),(16,.i O),(17,.it 5),(18,.ref 6 0),(19,.ref 7 0),(140,.it 8),(145,.msl 9 1 0 2),(146,.i 2),(147,.i l)],[oW c q pos 1 ln,oI o1,oC [.ref 0 0],some (.mo (.sets 2 a (some (b,t)))),some (.mo (.set 2 o4)),some (.mo (.set 2 D)),oC [.bool d,.bool F],oC [.i M,.i o],some (.mo (.mit 2 t.1 t.2.1 t.2.2 s (some v))),some (.bools ([false,true]:Ω))]⟩
 | .l8 x8 C o1 a b o4 P=>∀ m g:Nat,n<=m -> n<=g -> ∀ t:LK,TW B N (FQ Tryz.f110 2 (.bool r.1) [oW c q pos 1 ln,oI r.2]) (Dx g (Fk (Ac Tryz.f110) 4 [m])) ⟨AH 208 [(1,.ref 2 0),(3,.fn 125 1 (L1 [.ref 2 0])),(4,.i (c.ce.length:Int)),(5,.msl 3 1 0 ((((c.ce.length:Int)+1)).toNat)),(7,.fn 126 1 (L1 [.ref 2 0])),(8,.i x8),(58,.i (c.ce.length:Int)),(59,.i C),(66,.it 4)],[oW c q pos 1 ln,oI o1,oC [.ref 0 0],some (.mo (.sets 2 a (some (b,t)))),some (.mo (.mit 2 t.1 t.2.1 t.2.2 o4 (some P)))]⟩
 | .l9 O o1 a b o4 D d F u Q=>∀ m g:Nat,n<=m -> n<=g -> ∀ t:LK,TW B N (FQ Tryz.f110 2 (.bool r.1) [oW c q pos 1 ln,oI r.2]) (Dx g (Fk (Ac Tryz.f110) 10 [m])) ⟨AH 208 [(1,.ref 2 0),(3,.fn 125 1 (L1 [.ref 2 0])),(5,.msl 3 1 0 ((((c.ce.length:Int)+1)).toNat)),(7,.fn 126 1 (L1 [.ref 2 0])),(14,.it 4),(16,.i O),(17,.it 5),(18,.ref 6 0),(140,.it 7)],[oW c q pos 1 ln,oI o1,oC [.ref 0 0],some (.mo (.sets 2 a (some (b,t)))),some (.mo (.set 2 o4)),some (.mo (.set 2 D)),oC [.bool d,.bool F],some (.mo (.mit 2 t.1 t.2.1 t.2.2 u (some Q)))]⟩
def zEf (B:Nat)(N:Yd 2)(c:AC)(q:AA)(pos:Ξ)(ln:Nat)(lost:Ξ):Al (BU c q pos ln lost) (zEe · B N c q pos ln lost):=ia (λ_=>rfl) λn w C r h=>by
 cases C
 case l1 Dj o3=>
  intro m a;refine rd a λm a=>?_
  revert r;apply gO;exact bi 46 (gc (gi (gc (gi (gw 52 (lG Cd [0,1,2,5] (w _ _ · m a))))))) (gc (gi (gc (gi (gi (jg (zIr (i:=0+0)) (lN Cd [0,1,2,3] (w _ _ · n Nat.le.refl))))))))
 case l2 A9 o1 o3=>
  intro m a;refine rd a λm a=>?_
  revert r;apply gO
  exact bi 60 (gn λW=>λp r h=>by
   refine gs (AJ 16 Cd) [0,1,2,3] p (Dr (Ac Tryz.f110) 16 [m]) (AH 208 [(1,.ref 2 0),(3,.fn 125 1 (L1 [.ref 2 0])),(4,.i (c.ce.length:Int)),(5,.msl 3 1 0 ((((c.ce.length:Int)+1)).toNat)),(7,.fn 126 1 (L1 [.ref 2 0])),(8,.i A9),(58,.i (c.ce.length:Int)),(59,.i A9)]) (mG c q pos ln o1 o3) ?_;refine BI.lock 3 (0+A9.toNat) 2 Z5 W Z5 (λt=>(zKo c q pos ln o1 o3 A9 t)) Z5 λt=>?_
   revert r;apply gO;exact gc (gi (gc (gi (gi (jg (Eq.refl (0+A9.toNat)) (lN Cd [0,1,2,3,4] (w _ _ · m n a Nat.le.refl t)))))))) (bi 115 (gc (gn λW=>jw 118 W (jw 125 W (gc (gi (gw 130 (lN Cd [0,1,2,3,4] (w _ _ · n Nat.le.refl)))))))) (gw 130 (lN Cd [0,1,2,3,4] (w _ _ · n Nat.le.refl))))
 case l3 x8 A9 o1 o3 Ap o4=>
  intro m b a j t;have a:=zBR a;refine rd j λb j=>?_
  have p:=H0;refine gs (AJ 17 Cd) [0,1,2,3,4] p (Dr (Ac Tryz.f110) 17 [m,b]) (AH 208 [(1,.ref 2 0),(3,.fn 125 1 (L1 [.ref 2 0])),(4,.i (c.ce.length:Int)),(5,.msl 3 1 0 ((((c.ce.length:Int)+1)).toNat)),(7,.fn 126 1 (L1 [.ref 2 0])),(8,.i x8),(58,.i (c.ce.length:Int)),(59,.i A9),(66,.it 4)]) (zKi c q pos ln o1 o3 Ap t o4) ?_;revert r;apply gO
  exact gn λW=>λp r h=>by
   replace h:=cC h;refine A5.nx (ops:=A0 Tryz.f110 17) HC.x Z5 Z5 4 3 Ap 2 o3 t o4 none [1,3,4,5,7,8,58,59,66,68] [0,1,2,3] (AH 208 [(1,.ref 2 0),(3,.fn 125 1 (L1 [.ref 2 0])),(4,.i (c.ce.length:Int)),(5,.msl 3 1 0 ((((c.ce.length:Int)+1)).toNat)),(7,.fn 126 1 (L1 [.ref 2 0])),(8,.i x8),(58,.i (c.ce.length:Int)),(59,.i A9),(68,.bool false)]) (mG c q pos ln o1 o3) [0,1,2,3,4] (λe=>AH 208 [(1,.ref 2 0),(3,.fn 125 1 (L1 [.ref 2 0])),(4,.i (c.ce.length:Int)),(5,.msl 3 1 0 ((((c.ce.length:Int)+1)).toNat)),(7,.fn 126 1 (L1 [.ref 2 0])),(8,.i x8),(58,.i (c.ce.length:Int)),(59,.i A9),(66,.it 4),(68,.bool true)]) (λe=>(xT c q pos ln o1 o3 Ap t o4 e)) Z5 Z5 Z5 Z6 W Z5 Z5 (λ_=>Z5) (λM=>?_) (λe M=>?_)
   ·replace h:=h.1 M;revert r;apply gO;exact gw 98 (lG Cd [0,1,2,3] (w _ _ · m a))
   ·replace h:=h.2 e M;revert r;apply gO;exact gi (jg (Eq.refl t.1) (jg (Eq.refl t.2.1) (jg (Eq.refl t.2.2) (jt (lN Cd [0,1,2,3,5,4,6] (w _ _ · m b n a j Nat.le.refl t))))))
 case l4 Ai o1 o3 o4=>
  intro m a;refine rd a λm a=>?_
  revert r;apply gO
  exact bi 132 (gn λW=>λp r h=>by
   refine gs (AJ 36 Cd) [0,1,2,3,4,5,6] p (Dr (Ac Tryz.f110) 36 [m]) (AH 208 [(1,.ref 2 0),(3,.fn 125 1 (L1 [.ref 2 0])),(5,.msl 3 1 0 ((((c.ce.length:Int)+1)).toNat)),(7,.fn 126 1 (L1 [.ref 2 0])),(14,.it 4),(16,.i Ai),(17,.it 5),(18,.ref 6 0)]) (mD c q pos ln o1 o3 o4) ?_;refine BI.lock 3 (0+Ai.toNat) 2 Z5 W Z5 (λt=>(zKg c q pos ln o1 o3 Ai t o4)) Z5 λt=>?_
   revert r;apply gO;exact gc (gi (gc (gi (gi (jg (Eq.refl (0+Ai.toNat)) (lN Cd [0,1,2,3,4,5,6,7] (w _ _ · m n a Nat.le.refl t)))))))) (lE Cd [2] [0,1])
 case l5 x8 A9 GA o1 o3 Ap Aw GJ o5 GI=>
  intro m b l a j G t;have a:=zBR a;have j:=zBR j;refine rd G λl G=>?_
  revert r;apply gO;exact bj 74 (λu=>gc (gn λW=>jg W (gn λd=>jg d (cn λe o=>jc (em (OR o) [2,0,1] (mC c q pos ln o1 o3 Ap t Aw GJ o5 GI)) (jt (bn (λs=>rO (jb 74 u (jg W (jg d (jc (em (OR o) [2,0,1] (mC c q pos ln o1 o3 Ap t Aw GJ o5 GI)) (jb 83 s (jt (ce cj [2,0,1] (zKf c q pos ln e o3 Ap t Aw GJ o5 GI) λ_=>bi 89 (jg zDM (gc (gw 93 (gc (gi (gc (gi (gc (gn λD=>gc (gi (jg (zIq (g:=t) D) (gw 97 (lG Cd [0,1,2,3,4,5,6] (w _ _ · m b l a j G t)))))))))))))) (gw 97 (lG Cd [0,1,2,3,4,5,6] (w _ _ · m b l a j G t))))))))))) (λs=>rO (jb 74 u (jg W (jg d (jc (em (OR o) [2,0,1] (mC c q pos ln o1 o3 Ap t Aw GJ o5 GI)) (jb 83 s (jt (gw 97 (lG Cd [0,1,2,3,4,5,6] (w _ _ · m b l a j G t)))))))))))))))) (λ_=>lG Cd [0,1,2,3,5] (w _ _ · m b a j t))
 case l6 Ai o1 o3 Ap o4 o7=>
  intro m b a j t;have a:=zBR a;refine rd j λb j=>?_
  have p:=H0;refine gs (AJ 37 Cd) [0,1,2,3,4,5,6,7] p (Dr (Ac Tryz.f110) 37 [m,b]) (AH 208 [(1,.ref 2 0),(3,.fn 125 1 (L1 [.ref 2 0])),(5,.msl 3 1 0 ((((c.ce.length:Int)+1)).toNat)),(7,.fn 126 1 (L1 [.ref 2 0])),(14,.it 4),(16,.i Ai),(17,.it 5),(18,.ref 6 0),(140,.it 7)]) (zKe c q pos ln o1 o3 Ap t o4 o7) ?_;revert r;apply gO
  exact gn λW=>λp r h=>by
   replace h:=cC h;refine A5.nx (ops:=A0 Tryz.f110 37) HC.x Z5 Z5 7 3 Ap 2 o3 t o7 none [1,3,5,7,14,16,17,18,140,142] [0,1,2,3,4,5,6] (AH 208 [(1,.ref 2 0),(3,.fn 125 1 (L1 [.ref 2 0])),(5,.msl 3 1 0 ((((c.ce.length:Int)+1)).toNat)),(7,.fn 126 1 (L1 [.ref 2 0])),(14,.it 4),(16,.i Ai),(17,.it 5),(18,.ref 6 0),(142,.bool false)]) (mD c q pos ln o1 o3 o4) [0,1,2,3,4,5,6,7] (λe=>AH 208 [(1,.ref 2 0),(3,.fn 125 1 (L1 [.ref 2 0])),(5,.msl 3 1 0 ((((c.ce.length:Int)+1)).toNat)),(7,.fn 126 1 (L1 [.ref 2 0])),(14,.it 4),(16,.i Ai),(17,.it 5),(18,.ref 6 0),(140,.it 7),(142,.bool true)]) (λe=>(zKm c q pos ln o1 o3 Ap t o4 o7 e)) Z5 Z5 Z5 Z6 W Z5 Z5 (λ_=>Z5) (λM=>?_) (λe M=>?_)
   ·replace h:=h.1 M;revert r;apply gO;exact jg (by decide:(0:Int)<=1/\ 1<((2:Nat):Int)) (jg sL (gn λd=>jg d (ce G8 [0,1] (mD c q pos ln o1 o3 o4) λf=>jg (Eq.refl (p9 c Ai q pos ln f o3 o4)) (jg (by decide:(0:Int)<=0/\ 0<((2:Nat):Int)) (jg iW (jg d (ce OK [0,1] (zKn c q pos ln f o3 o4) λy3=>jg (Eq.refl (qC c Ai q pos ln y3 o3 o4)) (gw 134 (lG (tg:=[([],(p9 c Ai q pos ln f o3 o4)),([],(qC c Ai q pos ln y3 o3 o4))]) Cd [0,1,2,3,5] (w _ _ · m a))))))))))
   ·replace h:=h.2 e M;revert r;apply gO;exact gi (jg (Eq.refl t.1) (jg (Eq.refl t.2.1) (jg (Eq.refl t.2.2) (jt (lN Cd [0,1,2,3,4,5,6,8,7,9] (w _ _ · m b n a j Nat.le.refl t))))))
 case l7 Ai ET o1 o3 Ap o4 o5 Ba Bb D0 Dz o8 Eb=>
  intro m b l a j G t;have a:=zBR a;have j:=zBR j;refine rd G λl G=>?_
  revert r;apply gO;exact bj 148 (λu=>gc (gn λW=>jg W (gn λd=>jg d (cn λe o=>jc (em (OR o) [2,0,1] (Ws c q pos ln o1 o3 Ap t o4 o5 Ba Bb D0 Dz o8 Eb)) (jt (bn (λs=>rO (jb 148 u (jg W (jg d (jc (em (OR o) [2,0,1] (Ws c q pos ln o1 o3 Ap t o4 o5 Ba Bb D0 Dz o8 Eb)) (jb 158 s (jt (cn λf A=>jc (em (cj A) [2,0,1] (mF c q pos ln e o3 Ap t o4 o5 Ba Bb D0 Dz o8 Eb)) (bj 164 (λv=>bj 169 (λE=>bn (λy=>rO (jb 148 u (jo 149 (AM.int (k:=.i64) (zLx y)) (jg W (jg d (jc (em (OR o) [2,0,1] (Ws c q pos ln o1 o3 Ap t o4 o5 Ba Bb D0 Dz o8 Eb)) (jb 158 s (jt (jc (em (cj A) [2,0,1] (mF c q pos ln e o3 Ap t o4 o5 Ba Bb D0 Dz o8 Eb)) (jb 164 v (jb 169 E (jg (by decide:(0:Int)<=0/\ 0<((2:Nat):Int)) (jt (gw 175 (lG Cd [0,1,2,3,4,5,6,7,8,9] (w _ _ · m b l a j G t)))))))))))))))) (λy=>bn (λz=>rO (jb 148 u (jo 149 (AM.int (k:=.i64) (zLx z)) (jg W (jg d (jc (em (OR o) [2,0,1] (Ws c q pos ln o1 o3 Ap t o4 o5 Ba Bb D0 Dz o8 Eb)) (jb 158 s (jt (jc (em (cj A) [2,0,1] (mF c q pos ln e o3 Ap t o4 o5 Ba Bb D0 Dz o8 Eb)) (jb 164 v (jb 169 E (jg (by decide:(0:Int)<=1/\ 1<((2:Nat):Int)) (jt (gw 175 (lG Cd [0,1,2,3,4,5,6,7,8,9] (w _ _ · m b l a j G t)))))))))))))))) (λz=>nO))) (λ_=>gw 175 (lG Cd [0,1,2,3,4,5,6,7,8,9] (w _ _ · m b l a j G t)))) (λ_=>gw 175 (lG Cd [0,1,2,3,4,5,6,7,8,9] (w _ _ · m b l a j G t)))))))))))) (λs=>rO (jb 148 u (jg W (jg d (jc (em (OR o) [2,0,1] (Ws c q pos ln o1 o3 Ap t o4 o5 Ba Bb D0 Dz o8 Eb)) (jb 158 s (jt (gw 175 (lG Cd [0,1,2,3,4,5,6,7,8,9] (w _ _ · m b l a j G t)))))))))))))))) (λ_=>lG Cd [0,1,2,3,4,5,6,8] (w _ _ · m b a j t))
 case l8 x8 A9 o1 o3 Ap o4 LY=>
  intro m b a j t;have a:=zBR a;refine rd j λb j=>?_
  have p:=H0;refine gs (AJ 17 Cd) [0,1,2,3,4] p (Dr (Ac Tryz.f110) 17 [m,b]) (AH 208 [(1,.ref 2 0),(3,.fn 125 1 (L1 [.ref 2 0])),(4,.i (c.ce.length:Int)),(5,.msl 3 1 0 ((((c.ce.length:Int)+1)).toNat)),(7,.fn 126 1 (L1 [.ref 2 0])),(8,.i x8),(58,.i (c.ce.length:Int)),(59,.i A9),(66,.it 4)]) (zKl c q pos ln o1 o3 Ap t o4 LY) ?_;revert r;apply gO
  exact gn λW=>λp r h=>by
   replace h:=cC h;refine A5.nx (ops:=A0 Tryz.f110 17) HC.x Z5 Z5 4 3 Ap 2 o3 t o4 (some LY) [1,3,4,5,7,8,58,59,66,68] [0,1,2,3] (AH 208 [(1,.ref 2 0),(3,.fn 125 1 (L1 [.ref 2 0])),(4,.i (c.ce.length:Int)),(5,.msl 3 1 0 ((((c.ce.length:Int)+1)).toNat)),(7,.fn 126 1 (L1 [.ref 2 0])),(8,.i x8),(58,.i (c.ce.length:Int)),(59,.i A9),(68,.bool false)]) (mG c q pos ln o1 o3) [0,1,2,3,4] (λe=>AH 208 [(1,.ref 2 0),(3,.fn 125 1 (L1 [.ref 2 0])),(4,.i (c.ce.length:Int)),(5,.msl 3 1 0 ((((c.ce.length:Int)+1)).toNat)),(7,.fn 126 1 (L1 [.ref 2 0])),(8,.i x8),(58,.i (c.ce.length:Int)),(59,.i A9),(66,.it 4),(68,.bool true)]) (λe=>(xT c q pos ln o1 o3 Ap t o4 e)) Z5 Z5 Z5 Z6 W Z5 Z5 (λ_=>Z5) (λM=>?_) (λe M=>?_)
   ·replace h:=h.1 M;revert r;apply gO;exact gw 98 (lG Cd [0,1,2,3] (w _ _ · m a))
   ·replace h:=h.2 e M;revert r;apply gO;exact gi (jg (Eq.refl t.1) (jg (Eq.refl t.2.1) (jg (Eq.refl t.2.2) (jt (lN Cd [0,1,2,3,5,4,6] (w _ _ · m b n a j Nat.le.refl t))))))
 case l9 Ai o1 o3 Ap o4 o5 Ba Bb o7 LX=>
  intro m b a j t;have a:=zBR a;refine rd j λb j=>?_
  have p:=H0;refine gs (AJ 37 Cd) [0,1,2,3,4,5,6,7] p (Dr (Ac Tryz.f110) 37 [m,b]) (AH 208 [(1,.ref 2 0),(3,.fn 125 1 (L1 [.ref 2 0])),(5,.msl 3 1 0 ((((c.ce.length:Int)+1)).toNat)),(7,.fn 126 1 (L1 [.ref 2 0])),(14,.it 4),(16,.i Ai),(17,.it 5),(18,.ref 6 0),(140,.it 7)]) (zKk c q pos ln o1 o3 Ap t o4 o5 Ba Bb o7 LX) ?_;revert r;apply gO
  exact gn λW=>λp r h=>by
   replace h:=cC h;refine A5.nx (ops:=A0 Tryz.f110 37) HC.x Z5 Z5 7 3 Ap 2 o3 t o7 (some LX) [1,3,5,7,14,16,17,18,140,142] [0,1,2,3,4,5,6] (AH 208 [(1,.ref 2 0),(3,.fn 125 1 (L1 [.ref 2 0])),(5,.msl 3 1 0 ((((c.ce.length:Int)+1)).toNat)),(7,.fn 126 1 (L1 [.ref 2 0])),(14,.it 4),(16,.i Ai),(17,.it 5),(18,.ref 6 0),(142,.bool false)]) (mE c q pos ln o1 o3 o4 o5 Ba Bb) [0,1,2,3,4,5,6,7] (λe=>AH 208 [(1,.ref 2 0),(3,.fn 125 1 (L1 [.ref 2 0])),(5,.msl 3 1 0 ((((c.ce.length:Int)+1)).toNat)),(7,.fn 126 1 (L1 [.ref 2 0])),(14,.it 4),(16,.i Ai),(17,.it 5),(18,.ref 6 0),(140,.it 7),(142,.bool true)]) (λe=>(zKh c q pos ln o1 o3 Ap t o4 o5 Ba Bb o7 e)) Z5 Z5 Z5 Z6 W Z5 Z5 (λ_=>Z5) (λM=>?_) (λe M=>?_)
   ·replace h:=h.1 M;revert r;apply gO;exact jg (by decide:(0:Int)<=1/\ 1<((2:Nat):Int)) (bi 179 (jg sL (gn λd=>jg d (ce G8 [0,1] (mE c q pos ln o1 o3 o4 o5 Ba Bb) λf=>jg (Eq.refl (gm c Ai q pos ln f o3 o4 o5 Ba Bb)) (jg (by decide:(0:Int)<=0/\ 0<((2:Nat):Int)) (bi 197 (jg iW (jg d (ce OK [0,1] (zKj c q pos ln f o3 o4 o5 Ba Bb) λy3=>jg (Eq.refl (qB c Ai q pos ln y3 o3 o4 o5 Ba Bb)) (gw 134 (lG (tg:=[([],(gm c Ai q pos ln f o3 o4 o5 Ba Bb)),([],(qB c Ai q pos ln y3 o3 o4 o5 Ba Bb))]) Cd [0,1,2,3,5] (w _ _ · m a)))))) (gw 134 (lG (tg:=[([],(gm c Ai q pos ln f o3 o4 o5 Ba Bb))]) Cd [0,1,2,3,5] (w _ _ · m a)))))))) (jg (by decide:(0:Int)<=0/\ 0<((2:Nat):Int)) (bi 197 (jg iW (gi (ce OK [0,1] (mE c q pos ln o1 o3 o4 o5 Ba Bb) λf=>jg (Eq.refl (qA c Ai q pos ln f o3 o4 o5 Ba Bb)) (gw 134 (lG (tg:=[([],(qA c Ai q pos ln f o3 o4 o5 Ba Bb))]) Cd [0,1,2,3,5] (w _ _ · m a)))))) (gw 134 (lG Cd [0,1,2,3,5] (w _ _ · m a))))))
   ·replace h:=h.2 e M;revert r;apply gO;exact gi (jg (Eq.refl t.1) (jg (Eq.refl t.2.1) (jg (Eq.refl t.2.2) (jt (lN Cd [0,1,2,3,4,5,6,8,7,9] (w _ _ · m b n a j Nat.le.refl t))))))
def zEb (h:Sa n c q pos ln lost=some r):EQ 110 [.ref 0 0] [oW c q pos 1 ln,oI lost] (.bool r.1) [oW c q pos 1 ln,oI r.2] false:=by
 refine ot Tryz.func110 λB N=>?_
 revert r;apply gO;exact bi 32 (lE Cd [2] [0,1]) (gc (gw 41 (gi (lN Cd [0,1,2,3] ((zEf B N c q pos ln lost n) _ _ · n Nat.le.refl)))))
end
end Go.Proofs.YtodinaconebmdaaGreatDoor
