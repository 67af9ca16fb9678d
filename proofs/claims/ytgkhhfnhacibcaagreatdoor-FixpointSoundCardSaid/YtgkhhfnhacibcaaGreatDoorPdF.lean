/- Part 6 of 7 of what the proofs of these laws stand on. -/
import Derived.Test.YtgkhhfnhacibcaaGreatDoorPdE
set_option linter.all false
namespace Go.Proofs.YtgkhhfnhacibcaaGreatDoor
open Go.RowKit
set_option maxRecDepth 100000
set_option maxHeartbeats 40000000
inductive Wg where
 | l1 (x4:Nat) (Cf:List Int) (Jc Di:Int) (o0:List (List Int))
def NV (n:Nat) (self:Wg -> Option ((List (List Int))×Int)) (g_:List (List Int)) (AP:List Bool) (x4:Nat) (Cf:List Int) (Jc Di:Int) (o0:List (List Int)):Option ((List (List Int))×Int):=
 bif (decide (Di<Jc)) then
  if 0<=Di/\ Di<(Cf.length:Int) then
   bif (decide ((Cf.getD ((Di).toNat) 0)>0)) then
    if AI ((Cf.getD ((Di).toNat) 0)-1)/\ ((0:Int)<=((Cf.getD ((Di).toNat) 0)-1)/\ ((Cf.getD ((Di).toNat) 0)-1)<(x4:Int))/\ 0+((((Cf.getD ((Di).toNat) 0)-1)).toNat)<o0.length/\ (o0.getD (0+((((Cf.getD ((Di).toNat) 0)-1)).toNat)) default).length+([Di]:List Int).length<=BE/\ AI (Di+1) then
     self (.l1 x4 Cf Jc (Di+1) (o0.set (0+((((Cf.getD ((Di).toNat) 0)-1)).toNat)) ((o0.getD (0+((((Cf.getD ((Di).toNat) 0)-1)).toNat)) default)++([Di]:List Int))))
    else none
   else
    if AI (Di+1) then
     self (.l1 x4 Cf Jc (Di+1) o0)
    else none
  else none
 else
  if x4=o0.length then
   some (o0,0)
  else none
def zBU (n:Nat) (self:Wg -> Option ((List (List Int))×Int)) (g_:List (List Int)) (AP:List Bool):Option ((List (List Int))×Int):=
 (JW n g_ ([AP]:List (List Bool))).bind fun y1=>
  bif (y1 != 0) then
   some (([]:List (List Int)),y1)
  else
   (parts n g_ AP).bind fun y2=>
    if (y2.2:Int)=y2.2/\ 0<=y2.2/\ (y2.2:Int)<=1000000000000 then
     self (.l1 ((y2.2).toNat) y2.1 (y2.1.length:Int) 0 (List.replicate ((y2.2).toNat) ([]:List Int)))
    else none
def KY (g_:List (List Int)) (AP:List Bool):Nat -> Wg -> Option ((List (List Int))×Int)
 | 0,_=>none
 | n+1,.l1 x4 Cf Jc Di o0=>NV n (KY g_ AP n) g_ AP x4 Cf Jc Di o0
def Wh (n:Nat) (g_:List (List Int)) (AP:List Bool):Option ((List (List Int))×Int):=zBU n (KY g_ AP n) g_ AP
def zBW (n B:Nat) (N:Yd 0) (g_:List (List Int)) (AP:List Bool) (r:(List (List Int))×Int):Wg -> Prop
 | .l1 x4 Cf Jc Di o0=>∀ m0:Nat,n<=m0 -> TW B N (FQ Tryz.f116 0 (.tup 2 (L1 [.sl 1 r.1.length (As A4 r.1),.i r.2])) []) (Ak m0 (Au (AZ Tryz.f116) 0 [])) ⟨AM 48 [(4,.msl 0 1 0 x4),(25,.ints Cf),(26,.i Jc),(27,.i Di)],[some (.mo (.rws o0 none))]⟩
theorem zBX (B:Nat) (N:Yd 0) (g_:List (List Int)) (AP:List Bool):Al (KY g_ AP) (zBW · B N g_ AP):=ia (fun _=>rfl) fun n AG pt r h=>by
 cases pt
 case l1 x4 Cf Jc Di o0=>
  intro m0 AC;refine rd AC fun m0 AC=>?_
  revert r;apply gO;exact bi 28 (gi (bi 33 (gc (gn fun g1=>jw 36 g1 (jw 39 g1 (gc (gn fun g2=>jg g2 (gc (gn fun g3=>jg g3 (jg (And.intro (Eq.refl 0) (Eq.refl 1)) (jg (by decide:0<1) (jg g3 (gc (gi (jg g2 (jg (Eq.refl (0+((((Cf.getD ((Di).toNat) 0)-1)).toNat))) (jg g3 (gw 46 (lG AE [3] (AG _ _ · m0 AC)))))))))))))))))) (gw 46 (lG AE [0] (AG _ _ · m0 AC))))) (gn fun g0=>lF fun p=>ez AE [4,5] [0] p [0] (H0.g g0))
theorem zBT {n:Nat} {g_:List (List Int)} {AP:List Bool} {r:(List (List Int))×Int} (h:Wh n g_ AP=some r):EQ 116 [.sl 1 g_.length (As A4 g_),.bools AP] [] (.tup 2 (L1 [.sl 1 r.1.length (As A4 r.1),.i r.2])) [] true:=by
 refine ot Tryz.func116 fun B N=>?_
 revert r;apply gO;exact ja 12 0 1 (Qa (c:=Pb) (L:=([AP]:List (List Bool))) (vals:=[.bools AP]) rfl ⟨⟨_,rfl,⟨Bh,trivial⟩⟩,trivial⟩) (jz 12 0 (jg (Eq.refl 1) (cf Vy [none] fun y1=>bi 15 (lF fun p=>el AE [4,5] [] p [] H0 [.nils,.i y1] (AQ.tupL (l:=[.nils,.i y1]) (l':=[.sl 1 (([]:List (List Int)).length) (As A4 ([]:List (List Int))),.i y1]) rfl ⟨(AQ.sl_nil _ _),Bh,trivial⟩)) (cf YP [none] fun _=>gi (jk 24 (lN AE [1] ((zBX B N g_ AP n) _ _ · n Nat.le.refl)))))))
inductive Qk where
 | l1 (x6 x23:Int)
 | l2 (x6 x9 x23:Int) (A6:List Int) (BB B8:Int)
def MP (n:Nat) (self:Qk -> Option (Bool×Int)) (g_:List (List Int)) (AP:List Bool) (x6 x23:Int):Option (Bool×Int):=
 bif (decide (x23<(g_.length:Int))) then
  if (0<=x23/\ x23<(g_.length:Int))/\ (0<=x23/\ x23<(AP.length:Int)) then
   bif (!(AP.getD ((x23).toNat) false)) then
    if AI (x23+1) then
     self (.l1 x6 (x23+1))
    else none
   else
    if AI (x6+1) then
     self (.l2 (x6+1) 0 x23 (g_.getD ((x23).toNat) []) (((g_.getD ((x23).toNat) []).length:Nat):Int) 0)
    else none
  else none
 else
  (parts n g_ AP).bind fun y1=>
   bif (decide (x6>=3)) then
    some ((y1.2==1),0)
   else
    some (false,0)
def MN (n:Nat) (self:Qk -> Option (Bool×Int)) (g_:List (List Int)) (AP:List Bool) (x6 x9 x23:Int) (A6:List Int) (BB B8:Int):Option (Bool×Int):=
 bif (decide (B8<BB)) then
  if (0<=B8/\ B8<(A6.length:Int))/\ (0<=(A6.getD ((B8).toNat) 0)/\ (A6.getD ((B8).toNat) 0)<(AP.length:Int)) then
   bif (AP.getD ((A6.getD ((B8).toNat) 0).toNat) false) then
    if AI (x9+1)/\ AI (B8+1) then
     self (.l2 x6 (x9+1) x23 A6 BB (B8+1))
    else none
   else
    if AI (B8+1) then
     self (.l2 x6 x9 x23 A6 BB (B8+1))
    else none
  else none
 else
  bif (x9 != 2) then
   some (false,0)
  else
   if AI (x23+1) then
    self (.l1 x6 (x23+1))
   else none
def rZ (n:Nat) (self:Qk -> Option (Bool×Int)) (g_:List (List Int)) (AP:List Bool):Option (Bool×Int):=
 (JW n g_ ([AP]:List (List Bool))).bind fun y1=>
  bif (y1 != 0) then
   some (false,y1)
  else
   self (.l1 0 0)
def Gx (g_:List (List Int)) (AP:List Bool):Nat -> Qk -> Option (Bool×Int)
 | 0,_=>none
 | n+1,.l1 x6 x23=>MP n (Gx g_ AP n) g_ AP x6 x23
 | n+1,.l2 x6 x9 x23 A6 BB B8=>MN n (Gx g_ AP n) g_ AP x6 x9 x23 A6 BB B8
def OG (n:Nat) (g_:List (List Int)) (AP:List Bool):Option (Bool×Int):=rZ n (Gx g_ AP n) g_ AP
def rb (n B:Nat) (N:Yd 0) (g_:List (List Int)) (AP:List Bool) (r:Bool×Int):Qk -> Prop
 | .l1 x6 x23=>∀ m0:Nat,n<=m0 -> TW B N (FQ Tryz.f117 0 (.tup 2 (L1 [.bool r.1,.i r.2])) []) (Ak m0 (Au (AZ Tryz.f117) 0 [])) ⟨AM 63 [(0,.sl 1 g_.length (As A4 g_)),(1,.bools AP),(6,.i x6),(21,.sl 1 g_.length (As A4 g_)),(22,.i (g_.length:Int)),(23,.i x23)],[]⟩
 | .l2 x6 x9 x23 A6 BB B8=>∀ m0 m1:Nat,n<=m0 -> n<=m1 -> TW B N (FQ Tryz.f117 0 (.tup 2 (L1 [.bool r.1,.i r.2])) []) (Ak m1 (Au (AZ Tryz.f117) 2 [m0])) ⟨AM 63 [(0,.sl 1 g_.length (As A4 g_)),(1,.bools AP),(6,.i x6),(9,.i x9),(21,.sl 1 g_.length (As A4 g_)),(22,.i (g_.length:Int)),(23,.i x23),(35,.ints A6),(36,.i BB),(37,.i B8)],[]⟩
theorem re (B:Nat) (N:Yd 0) (g_:List (List Int)) (AP:List Bool):Al (Gx g_ AP) (rb · B N g_ AP):=ia (fun _=>rfl) fun n AG pt r h=>by
 cases pt
 case l1 x6 x23=>
  intro m0 AC;refine rd AC fun m0 AC=>?_
  revert r;apply gO;exact bi 24 (gc (gi (gi (bi 32 (gw 50 (lG AE [] (AG _ _ · m0 AC))) (gw 34 (lN AE [] (AG _ _ · m0 n AC Nat.le.refl))))))) (cf YP [] fun _=>bi 58 (lE AE [4,5] []) (lE AE [4,5] []))
 case l2 x6 x9 x23 A6 BB B8=>
  intro m0 m1 AC Am;have AC:=zDW AC;refine rd Am fun m1 Am=>?_
  revert r;apply gO;exact bi 38 (gc (gi (gi (bi 44 (gc (gw 46 (gw 47 (lG AE [] (AG _ _ · m0 m1 AC Am))))) (gw 47 (lG AE [] (AG _ _ · m0 m1 AC Am))))))) (bi 49 (lE AE [4,5] []) (gw 50 (lG AE [] (AG _ _ · m0 AC))))
theorem rY {n:Nat} {g_:List (List Int)} {AP:List Bool} {r:Bool×Int} (h:OG n g_ AP=some r):EQ 117 [.sl 1 g_.length (As A4 g_),.bools AP] [] (.tup 2 (L1 [.bool r.1,.i r.2])) [] true:=by
 refine ot Tryz.func117 fun B N=>?_
 revert r;apply gO;exact ja 16 0 1 (Qa (c:=Pb) (L:=([AP]:List (List Bool))) (vals:=[.bools AP]) rfl ⟨⟨_,rfl,⟨Bh,trivial⟩⟩,trivial⟩) (jz 16 0 (jg (Eq.refl 1) (cf Vy [none] fun _=>bi 19 (lE AE [4,5] []) (lN AE [] ((re B N g_ AP n) _ _ · n Nat.le.refl)))))
def iu (n:Nat) (Ai Eu:Int):Option Bool:=
 if 0<=Eu/\ Eu<=(IntKind.i64.bits:Int) then
  some ((bits .and .i64 (Ai/2 ^ (Eu).toNat) 1)==1)
 else none
def G7 (n:Nat) (Ai Eu:Int):Option Bool:=iu n Ai Eu
theorem JL {n:Nat} {Ai Eu:Int} {r:Bool} (h:G7 n Ai Eu=some r):EQ 89 [.i Ai,.i Eu] [] (.bool r) [] true:=by
 refine ot Tryz.func89 fun B N=>?_
 revert r;apply gO;exact gi (lE AE [4] [])
def qj (n:Nat) (AF cells:List Int) (Ai:Int):Option Unit:=
 some ()
def ql (n:Nat) (AF cells:List Int) (Ai:Int):Option Unit:=qj n AF cells Ai
theorem qh {n:Nat} (AF cells:List Int) (Ai:Int) {r:Unit} (h:ql n AF cells Ai=some r):EQ 87 [.ints AF,.ints cells,.i Ai] [] (.fn 114 3 (L1 [.ref 0 0,.ref 1 0,.ref 2 0])) [some (.cells [.ints cells]),some (.cells [.i Ai]),some (.cells [.ints AF])] true:=by
 refine ot Tryz.func87 fun B N=>?_
 revert r;apply gO;exact lE AE [6] [1,2,0]
theorem pZ:At (BA Tryz.f114 4) [([0,1,2,3,4],5)] [] []:=by unfold At;kernel_rfl
def Jr:Bb:=fun i=>match i with
 | 4=>.ord [([0,1,2,3,4],5)] [] []
 | _=>.no
inductive OB where
 | l1 (x5 BR:Int)
def MK (n:Nat) (self:OB -> Option (List Int)) (B1:List Int) (Ai:Int) (AF:List Int) (x5 BR:Int):Option (List Int):=
 bif (decide (BR<(B1.length:Int))) then
  if (0<=BR/\ BR<(B1.length:Int))/\ (0<=(B1.getD ((BR).toNat) 0)/\ (B1.getD ((BR).toNat) 0)<(AF.length:Int)) then
   (G7 n Ai (AF.getD ((B1.getD ((BR).toNat) 0).toNat) 0)).bind fun y1=>
    bif y1 then
     if AI (x5+1)/\ AI (BR+1) then
      self (.l1 (x5+1) (BR+1))
     else none
    else
     bif (decide (x5>0)) then
      bif (decide (x5>0)) then
       Option.map (fun l=>x5::l) (
        if AI (BR+1) then
         self (.l1 0 (BR+1))
        else none)
      else
       if AI (BR+1) then
        self (.l1 0 (BR+1))
       else none
     else
      if AI (BR+1) then
       self (.l1 0 (BR+1))
      else none
  else none
 else
  bif (decide (x5>0)) then
   Option.map (fun l=>x5::l) (some [])
  else
   some []
def eX (n:Nat) (self:OB -> Option (List Int)) (B1:List Int) (Ai:Int) (AF:List Int):Option (List Int):=
 self (.l1 0 0)
def GW (B1:List Int) (Ai:Int) (AF:List Int):Nat -> OB -> Option (List Int)
 | 0,_=>none
 | n+1,.l1 x5 BR=>MK n (GW B1 Ai AF n) B1 Ai AF x5 BR
def OC (n:Nat) (B1:List Int) (Ai:Int) (AF:List Int):Option (List Int):=eX n (GW B1 Ai AF n) B1 Ai AF
def Xw (C:DI Tryz.prog GG) (n:Nat) (B1:List Int) (Ai:Int) (AF:List Int) (r:List Int):OB -> Prop
 | .l1 x5 BR=>∀ m0:Nat,n<=m0 -> ∀ i:Nat,i<=C.encs.length -> C.encs.drop i=r.map Bg -> Av Tryz.prog GG Fence.wide none 3 (C.Y 3 i) (C.Q 3) (Ak m0 (Au (AZ Tryz.f114) 0 [])) ⟨AM 36 [(0,.yl C.l),(2,.ref 1 0),(3,.ref 2 0),(5,.i x5),(8,.ints B1),(9,.i (B1.length:Int)),(10,.i BR)],[some (.cells [.ints B1]),some (.cells [.i Ai]),some (.cells [.ints AF])]⟩
theorem qm (C:DI Tryz.prog GG) (n:Nat) (self:OB -> Option (List Int)) (B1:List Int) (Ai:Int) (AF:List Int) (AG: ∀ pt r,self pt=some r -> Xw C n B1 Ai AF r pt) (x5 BR:Int) (r:List Int) (h:MK n self B1 Ai AF x5 BR=some r):Xw C (n+1) B1 Ai AF r (.l1 x5 BR):=by
 intro m0 AC;intro i hi hd;refine rd AC fun m0 AC=>?_
 unfold MK at h;have p:=H0;rcases Gh h with ⟨c0,h⟩ | ⟨c0,h⟩
 ·obtain ⟨⟨g0,g1⟩,h⟩:=EI h;obtain ⟨y1,A0,h⟩:=bT h;have p:=H0.b 11 c0 |>.g g0 |>.g pZ |>.g g1 |>.c (fb (JL A0) [some (.cells [.ints B1]),some (.cells [.i Ai]),some (.cells [.ints AF])])
  rcases Gh h with ⟨c1,h⟩ | ⟨c1,h⟩
  ·obtain ⟨⟨g2,g3⟩,h⟩:=EI h;have p:=p.b 19 c1 |>.w 21 g2 |>.w 30 g3
   exact gg Jr [0,1,2] p (AG _ _ h m0 AC i hi hd)
  ·have p:=p.b 19 c1;rcases Gh h with ⟨c2,h⟩ | ⟨c2,h⟩
   ·refine gs (BS 6 Jr) [0,1,2] p (GQ (AZ Tryz.f114) 6 [m0]) (AM 36 [(0,.yl C.l),(2,.ref 1 0),(3,.ref 2 0),(5,.i x5),(8,.ints B1),(9,.i (B1.length:Int)),(10,.i BR)]) [some (.cells [.ints B1]),some (.cells [.i Ai]),some (.cells [.ints AF])] ?_;have p:=H0;rcases Gh h with ⟨c0,h⟩ | ⟨c0,h⟩
    ·have p:=H0.b 23 c0;obtain ⟨r,h2,rfl⟩:=U1 h;clear h;have h:=h2;clear h2;obtain ⟨hx,hi,hd⟩:=WO hd;refine Av.y (ops:=BA Tryz.f114 6) HC.x 5 [0,2,3,8,9,10,29] [0,1,2] p (x:=Bg x5) (AM 36 [(0,.yl C.l),(2,.ref 1 0),(3,.ref 2 0),(8,.ints B1),(9,.i (B1.length:Int)),(10,.i BR),(29,.bool false)]) [some (.cells [.ints B1]),some (.cells [.i Ai]),some (.cells [.ints AF])] (AM 36 [(0,.yl C.l),(2,.ref 1 0),(3,.ref 2 0),(8,.ints B1),(9,.i (B1.length:Int)),(10,.i BR),(29,.bool true)]) [some (.cells [.ints B1]),some (.cells [.i Ai]),some (.cells [.ints AF])] (by kernel_rfl) (by kernel_rfl) (by kernel_rfl) hx (by kernel_rfl) ?_ ?_
     ·generalize i+1=i at hi hd ⊢
      obtain ⟨g2,h⟩:=EI h;have p:=H0.w 30 g2;exact gg Jr [0,1,2] p (AG _ _ h m0 AC i hi hd)
     ·exact TrI.e HC.x Jr 6 H0 (by kernel_rfl) (.inr rfl)
    ·obtain ⟨g2,h⟩:=EI h;have p:=H0.b 23 c0 |>.w 30 g2
     exact gg Jr [0,1,2] p (AG _ _ h m0 AC i hi hd)
   ·obtain ⟨g2,h⟩:=EI h;have p:=p.b 23 c2 |>.w 30 g2
    exact gg Jr [0,1,2] p (AG _ _ h m0 AC i hi hd)
 ·have p:=H0.b 11 c0;rcases Gh h with ⟨c1,h⟩ | ⟨c1,h⟩
  ·have p:=p.b 32 c1;refine gs (BS 10 Jr) [0,1,2] p (GQ (AZ Tryz.f114) 10 []) (AM 36 [(0,.yl C.l),(5,.i x5)]) [some (.cells [.ints B1]),some (.cells [.i Ai]),some (.cells [.ints AF])] ?_;have p:=H0;obtain ⟨r,h2,rfl⟩:=U1 h;cases h2;obtain ⟨hx,hi,hd⟩:=WO hd;exact Av.yE (ops:=BA Tryz.f114 10) HC.x 2 p (x:=Bg x5) (by kernel_rfl) (by kernel_rfl) (by kernel_rfl) hx (SZ hi hd)
  ·have p:=p.b 32 c1;cases h;exact TrI.e HC.x Jr 14 p (by kernel_rfl) (.inl (by rw [SZ hi hd]))
theorem eY (C:DI Tryz.prog GG) (B1:List Int) (Ai:Int) (AF:List Int): ∀ (n:Nat) (pt:OB) (r:List Int),GW B1 Ai AF n pt=some r -> Xw C n B1 Ai AF r pt
 | 0,_,_,h=>by cases h
 | n+1,.l1 x5 BR,r,h=>qm C n (GW B1 Ai AF n) B1 Ai AF (eY C B1 Ai AF n) x5 BR r h
theorem qn {n:Nat} (B1:List Int) (Ai:Int) (AF:List Int) {r:List Int} (h:OC n B1 Ai AF=some r) (C:DI Tryz.prog GG) (hC:C.encs=r.map Bg):Av Tryz.prog GG Fence.wide none 3 (C.Y 3 0) (C.Q 3) [.code (AZ Tryz.f114)] ⟨AM 36 [(0,.yl C.l),(1,.ref 0 0),(2,.ref 1 0),(3,.ref 2 0)],[some (.cells [.ints B1]),some (.cells [.i Ai]),some (.cells [.ints AF])]⟩:=by
 suffices H: ∀ i:Nat,i<=C.encs.length -> C.encs.drop i=r.map Bg -> Av Tryz.prog GG Fence.wide none 3 (C.Y 3 i) (C.Q 3) [.code (AZ Tryz.f114)] ⟨AM 36 [(0,.yl C.l),(1,.ref 0 0),(2,.ref 1 0),(3,.ref 2 0)],[some (.cells [.ints B1]),some (.cells [.i Ai]),some (.cells [.ints AF])]⟩ from H 0 (zD0 _) (by rw [zEt];exact hC)
 intro i hi hd;have AG:=eY C B1 Ai AF n;unfold OC at h
 generalize GW B1 Ai AF n=self at h AG
 unfold eX at h;have p:=H0;exact gg Jr [0,1,2] p (en n (AG _ _ h n Nat.le.refl i hi hd))
theorem qk {n:Nat} {AF:List Int} {cells:List Int} {Ai:Int} {r:List Int} (h:OC n cells Ai AF=some r) (H:DH):EQ 87 [.ints AF,.ints cells,.i Ai] H (.it H.length) (H++[some (.iter (r.map Bg))]) true:=by
 refine ES.iterN (c:=L1 [.ref 0 0,.ref 1 0,.ref 2 0]) (h0:=[some (.cells [.ints cells]),some (.cells [.i Ai]),some (.cells [.ints AF])]) (fn:=Tryz.f114) (qh (n:=0) AF cells Ai (r:=()) rfl) (by kernel_rfl) Tryz.func114 (by kernel_rfl) (by kernel_rfl) (by kernel_rfl) (fun C hC=>?_) H;have e:DV.yl C.l::(List.range 3).map (L1 [.ref 0 0,.ref 1 0,.ref 2 0])++List.replicate (Tryz.f114.ntmps-(3+1)) .any=AM 36 [(0,.yl C.l),(1,.ref 0 0),(2,.ref 1 0),(3,.ref 2 0)]:=by kernel_rfl
 rw [e];exact qn cells Ai AF h C hC
inductive Kb where
 | s0
 | s1 (Ex:Nat) (DZ:List Int)
def mM:Kb -> DH
 | .s0=>[none,some (.cells [.nils])]
 | .s1 Ex DZ=>[none,some (.cells [.msl 2 1 0 Ex]),some (.ints DZ)]
def TG (n:Nat) (e6:Int):Option Kb:=
 if (0=0/\ 1=([e6]:List Int).length)/\ 0<([e6]:List Int).length/\ ([e6]:List Int).length<=BE then
  some (.s1 (([e6]:List Int).length) ([e6]:List Int))
 else none
def TF (n:Nat) (e6:Int) (Ex:Nat) (DZ:List Int):Option Kb:=
 if (0=0/\ 1=([e6]:List Int).length)/\ (0=0/\ Ex=DZ.length)/\ DZ.length+([e6]:List Int).length<=BE then
  some (.s1 (DZ.length+([e6]:List Int).length) (DZ++([e6]:List Int)))
 else none
def zCI (n:Nat) (e6:Int):Kb -> Option Kb
 | .s0=>TG n e6
 | .s1 Ex DZ=>TF n e6 Ex DZ
def Ww (n:Nat) (e6:Int) (s:Kb):Option Kb:=zCI n e6 s
theorem zCH (n:Nat) (l B:Nat) (N:Yd 2) (e6:Int) (s:Kb) (r:Kb) (h:Ww n e6 s=some r):TA l B N (DT 2 [] 0 (mM r)) Tryz.f113 6 ⟨AM 13 [(2,.ref 1 0),(6,.it 0),(7,.i e6)],mM s⟩:=by
 cases s with
 | s0=>
  replace h:TG n e6=some r:=h;unfold TG at h;refine ag AE [0,1] H0 (AM 13 [(2,.ref 1 0),(5,.i e6)]) [none,some (.cells [.nils])] fun N=>?_
  revert r;apply gO;exact gi (jt (lF fun p=>rr AE [0,1,3] rfl p))
 | s1 Ex DZ=>
  replace h:TF n e6 Ex DZ=some r:=h;unfold TF at h;refine ag AE [0,1,2] H0 (AM 13 [(2,.ref 1 0),(5,.i e6)]) [none,some (.cells [.msl 2 1 0 Ex]),some (.ints DZ)] fun N=>?_
  revert r;apply gO;exact gi (jt (lF fun p=>rr AE [0,1,4] rfl p))
def bq (n:Nat) (l:List Int):Option ((List Int)):=
 (B6 (Ww n) l (.s0)).bind fun y1=>
  match y1 with
  | .s0=>
   some ([]:List Int)
  | .s1 Nq L6=>
   if Nq=L6.length then
    some L6
   else none
def Wx (n:Nat) (l:List Int):Option ((List Int)):=bq n l
theorem zCG {n:Nat} {l:List Int} {r:(List Int)} (h:Wx n l=some r):EQ 113 [.nils,.it 0] [some (.iter ((l).map Bg))] (.ints r) [none] false:=by
 unfold Wx bq at h;refine ot Tryz.func113 fun B N=>?_
 revert r;apply gO
 exact cn fun y1 A0=>fun p r h=>by
  refine gs AE [0,1] p (Gi (AZ Tryz.f113) 6 []) (AM 13 [(2,.ref 1 0),(6,.it 0)]) [some (.iter ((l).map Bg)),some (.cells [.nils])] ?_;refine r0 0 6 #[7] Bg 2 A0 (zCH n) ?_;cases y1 with
  | s0=>
   dsimp only at h
   revert r;apply gO;exact lF fun p=>el AE [4] [0] p [] H0 [.nils] AQ.ints_nil
  | s1 Nq L6=>
   dsimp only at h
   revert r;apply gO;exact gn fun g0=>lF fun p=>ez AE [4] [0,2] p [1] (H0.g g0)
def bJ (n:Nat) (l:List Int):Option ((List Int)):=
 (Wx n l).bind fun y1=>
  some y1
def NW (n:Nat) (l:List Int):Option ((List Int)):=bJ n l
theorem zBb {n:Nat} {l:List Int} {r:(List Int)} (h:NW n l=some r):EQ 86 [.it 0] [some (.iter ((l).map Bg))] (.ints r) [none] false:=by
 unfold NW bJ at h;refine ot Tryz.func86 fun B N=>?_
 revert r;apply gO;exact ce zCG [0] [some (.iter ((l).map Bg))] fun _=>lE AE [2] [0]
inductive WT where
 | l1 (x5 BR:Int)
def Sa (n:Nat) (self:WT -> Option Bool) (AF cells:List Int) (x5 BR:Int):Option Bool:=
 bif (decide (BR<(cells.length:Int))) then
  if (0<=BR/\ BR<(cells.length:Int))/\ (0<=(cells.getD ((BR).toNat) 0)/\ (cells.getD ((BR).toNat) 0)<(AF.length:Int)) then
   (G7 n x5 (AF.getD ((cells.getD ((BR).toNat) 0).toNat) 0)).bind fun y1=>
    bif y1 then
     some false
    else
     if (0<=AF.getD ((cells.getD ((BR).toNat) 0).toNat) 0/\ AF.getD ((cells.getD ((BR).toNat) 0).toNat) 0<=(IntKind.i64.bits:Int))/\ AI (BR+1) then
      self (.l1 (bits .or .i64 x5 (IntKind.i64.wrap (1*2 ^ (AF.getD ((cells.getD ((BR).toNat) 0).toNat) 0).toNat))) (BR+1))
     else none
  else none
 else
  some true
def zAm (n:Nat) (self:WT -> Option Bool) (AF cells:List Int):Option Bool:=
 self (.l1 0 0)
def Lm (AF cells:List Int):Nat -> WT -> Option Bool
 | 0,_=>none
 | n+1,.l1 x5 BR=>Sa n (Lm AF cells n) AF cells x5 BR
def WU (n:Nat) (AF cells:List Int):Option Bool:=zAm n (Lm AF cells n) AF cells
def zAn (n B:Nat) (N:Yd 0) (AF cells:List Int) (r:Bool):WT -> Prop
 | .l1 x5 BR=>∀ m0:Nat,n<=m0 -> TW B N (FQ Tryz.f82 0 (.bool r) []) (Ak m0 (Au (AZ Tryz.f82) 0 [])) ⟨AM 28 [(0,.ints AF),(5,.i x5),(8,.ints cells),(9,.i (cells.length:Int)),(10,.i BR)],[]⟩
theorem zAo (B:Nat) (N:Yd 0) (AF cells:List Int):Al (Lm AF cells) (zAn · B N AF cells):=ia (fun _=>rfl) fun n AG pt r h=>by
 cases pt
 case l1 x5 BR=>
  intro m0 AC;refine rd AC fun m0 AC=>?_
  revert r;apply gO;exact bi 11 (gc (gi (gn fun g1=>jg g1 (cf JL [] fun _=>bi 19 (lE AE [4] []) (jg g1 (gc (gi (gw 27 (lG AE [] (AG _ _ · m0 AC)))))))))) (lE AE [4] [])
theorem zAl {n:Nat} {AF cells:List Int} {r:Bool} (h:WU n AF cells=some r):EQ 82 [.ints AF,.ints cells] [] (.bool r) [] true:=by
 refine ot Tryz.func82 fun B N=>?_
 revert r;apply gO;exact lN AE [] ((zAo B N AF cells n) _ _ · n Nat.le.refl)
inductive WZ where
 | l1 (x6 Af:Int)
def Sn (n:Nat) (self:WZ -> Option Int) (AF cells:List Int) (Ai:Int) (x6 Af:Int):Option Int:=
 bif (decide (Af<(cells.length:Int))) then
  if (0<=Af/\ Af<(cells.length:Int))/\ (0<=(cells.getD ((Af).toNat) 0)/\ (cells.getD ((Af).toNat) 0)<(AF.length:Int)) then
   (G7 n Ai (AF.getD ((cells.getD ((Af).toNat) 0).toNat) 0)).bind fun y1=>
    bif y1 then
     if AI (x6+1)/\ AI (Af+1) then
      self (.l1 (x6+1) (Af+1))
     else none
    else
     if AI (Af+1) then
      self (.l1 x6 (Af+1))
     else none
  else none
 else
  some x6
def zBB (n:Nat) (self:WZ -> Option Int) (AF cells:List Int) (Ai:Int):Option Int:=
 self (.l1 0 0)
def PX (AF cells:List Int) (Ai:Int):Nat -> WZ -> Option Int
 | 0,_=>none
 | n+1,.l1 x6 Af=>Sn n (PX AF cells Ai n) AF cells Ai x6 Af
def Wa (n:Nat) (AF cells:List Int) (Ai:Int):Option Int:=zBB n (PX AF cells Ai n) AF cells Ai
def zBC (n B:Nat) (N:Yd 0) (AF cells:List Int) (Ai:Int) (r:Int):WZ -> Prop
 | .l1 x6 Af=>∀ m0:Nat,n<=m0 -> TW B N (FQ Tryz.f83 0 (.i r) []) (Ak m0 (Au (AZ Tryz.f83) 0 [])) ⟨AM 25 [(0,.ints AF),(2,.i Ai),(6,.i x6),(9,.ints cells),(10,.i (cells.length:Int)),(11,.i Af)],[]⟩
theorem zBD (B:Nat) (N:Yd 0) (AF cells:List Int) (Ai:Int):Al (PX AF cells Ai) (zBC · B N AF cells Ai):=ia (fun _=>rfl) fun n AG pt r h=>by
 cases pt
 case l1 x6 Af=>
  intro m0 AC;refine rd AC fun m0 AC=>?_
  revert r;apply gO;exact bi 12 (gc (gi (gi (cf JL [] fun _=>bi 20 (gc (gw 22 (gw 23 (lG AE [] (AG _ _ · m0 AC))))) (gw 23 (lG AE [] (AG _ _ · m0 AC))))))) (lE AE [6] [])
theorem zBA {n:Nat} {AF cells:List Int} {Ai:Int} {r:Int} (h:Wa n AF cells Ai=some r):EQ 83 [.ints AF,.ints cells,.i Ai] [] (.i r) [] true:=by
 refine ot Tryz.func83 fun B N=>?_
 revert r;apply gO;exact lN AE [] ((zBD B N AF cells Ai n) _ _ · n Nat.le.refl)
inductive Tk where
 | l1 (x6 Af:Int)
def QA (n:Nat) (self:Tk -> Option Int) (values AF cells:List Int) (x6 Af:Int):Option Int:=
 bif (decide (Af<(cells.length:Int))) then
  if (0<=Af/\ Af<(cells.length:Int))/\ (0<=(cells.getD ((Af).toNat) 0)/\ (cells.getD ((Af).toNat) 0)<(AF.length:Int))/\ (0<=(AF.getD ((cells.getD ((Af).toNat) 0).toNat) 0)/\ (AF.getD ((cells.getD ((Af).toNat) 0).toNat) 0)<(values.length:Int))/\ AI (x6+(values.getD ((AF.getD ((cells.getD ((Af).toNat) 0).toNat) 0).toNat) 0))/\ AI (Af+1) then
   self (.l1 (x6+(values.getD ((AF.getD ((cells.getD ((Af).toNat) 0).toNat) 0).toNat) 0)) (Af+1))
  else none
 else
  some x6
def oI (n:Nat) (self:Tk -> Option Int) (values AF cells:List Int):Option Int:=
 self (.l1 0 0)
def N4 (values AF cells:List Int):Nat -> Tk -> Option Int
 | 0,_=>none
 | n+1,.l1 x6 Af=>QA n (N4 values AF cells n) values AF cells x6 Af
def Tl (n:Nat) (values AF cells:List Int):Option Int:=oI n (N4 values AF cells n) values AF cells
def oJ (n B:Nat) (N:Yd 0) (values AF cells:List Int) (r:Int):Tk -> Prop
 | .l1 x6 Af=>∀ m0:Nat,n<=m0 -> TW B N (FQ Tryz.f84 0 (.i r) []) (Ak m0 (Au (AZ Tryz.f84) 0 [])) ⟨AM 26 [(0,.ints values),(1,.ints AF),(6,.i x6),(9,.ints cells),(10,.i (cells.length:Int)),(11,.i Af)],[]⟩
theorem oK (B:Nat) (N:Yd 0) (values AF cells:List Int):Al (N4 values AF cells) (oJ · B N values AF cells):=ia (fun _=>rfl) fun n AG pt r h=>by
 cases pt
 case l1 x6 Af=>
  intro m0 AC;refine rd AC fun m0 AC=>?_
  revert r;apply gO;exact bi 12 (gc (gi (gc (gi (gc (gi (gc (gw 23 (gw 24 (lG AE [] (AG _ _ · m0 AC))))))))))) (lE AE [6] [])
theorem oH {n:Nat} {values AF cells:List Int} {r:Int} (h:Tl n values AF cells=some r):EQ 84 [.ints values,.ints AF,.ints cells] [] (.i r) [] true:=by
 refine ot Tryz.func84 fun B N=>?_
 revert r;apply gO;exact lN AE [] ((oK B N values AF cells n) _ _ · n Nat.le.refl)
inductive UD where
 | l1 (x7 BX:Int)
def Qj (n:Nat) (self:UD -> Option Bool) (values AF cells:List Int) (x7 BX:Int):Option Bool:=
 bif (decide (BX<(cells.length:Int))) then
  if (0<=BX/\ BX<(cells.length:Int))/\ (0<=(cells.getD ((BX).toNat) 0)/\ (cells.getD ((BX).toNat) 0)<(AF.length:Int))/\ (0<=(AF.getD ((cells.getD ((BX).toNat) 0).toNat) 0)/\ (AF.getD ((cells.getD ((BX).toNat) 0).toNat) 0)<(values.length:Int)) then
   bif (decide ((values.getD ((AF.getD ((cells.getD ((BX).toNat) 0).toNat) 0).toNat) 0)<=x7)) then
    some false
   else
    if AI (BX+1) then
     self (.l1 (values.getD ((AF.getD ((cells.getD ((BX).toNat) 0).toNat) 0).toNat) 0) (BX+1))
    else none
  else none
 else
  some true
def rV (n:Nat) (self:UD -> Option Bool) (values AF cells:List Int):Option Bool:=
 self (.l1 (-1) 0)
def K7 (values AF cells:List Int):Nat -> UD -> Option Bool
 | 0,_=>none
 | n+1,.l1 x7 BX=>Qj n (K7 values AF cells n) values AF cells x7 BX
def UE (n:Nat) (values AF cells:List Int):Option Bool:=rV n (K7 values AF cells n) values AF cells
def rW (n B:Nat) (N:Yd 0) (values AF cells:List Int) (r:Bool):UD -> Prop
 | .l1 x7 BX=>∀ m0:Nat,n<=m0 -> TW B N (FQ Tryz.f85 0 (.bool r) []) (Ak m0 (Au (AZ Tryz.f85) 0 [])) ⟨AM 33 [(0,.ints values),(1,.ints AF),(7,.i x7),(10,.ints cells),(11,.i (cells.length:Int)),(12,.i BX)],[]⟩
theorem rX (B:Nat) (N:Yd 0) (values AF cells:List Int):Al (K7 values AF cells) (rW · B N values AF cells):=ia (fun _=>rfl) fun n AG pt r h=>by
 cases pt
 case l1 x7 BX=>
  intro m0 AC;refine rd AC fun m0 AC=>?_
  revert r;apply gO;exact bi 13 (gc (gi (gc (gn fun g1=>jg g1 (gn fun g2=>jg g2 (bi 24 (lE AE [6] []) (jg g1 (jg g2 (gw 32 (lG AE [] (AG _ _ · m0 AC))))))))))) (lE AE [6] [])
theorem rU {n:Nat} {values AF cells:List Int} {r:Bool} (h:UE n values AF cells=some r):EQ 85 [.ints values,.ints AF,.ints cells] [] (.bool r) [] true:=by
 refine ot Tryz.func85 fun B N=>?_
 revert r;apply gO;exact lN AE [] ((rX B N values AF cells n) _ _ · n Nat.le.refl)
def mP (n:Nat) (a b_ n_:Int):Option Bool:=
 if AI (a-b_)/\ AI (b_-a) then
  some (decide ((if (b_-a)>(a-b_) then (b_-a) else (a-b_))>=n_))
 else none
def bu (n:Nat) (a b_ n_:Int):Option Bool:=mP n a b_ n_
theorem zCN {n:Nat} {a b_ n_:Int} {r:Bool} (h:bu n a b_ n_=some r):EQ 88 [.i a,.i b_,.i n_] [] (.bool r) [] true:=by
 refine ot Tryz.func88 fun B N=>?_
 revert r;apply gO;exact gc (gw 9 (gw 12 (lE AE [6] [])))
theorem qD:At (BA Tryz.f115 0) [([0,1,2,3,4,5,6],7)] [8] [9]:=by unfold At;kernel_rfl
def pG:Bb:=fun i=>match i with
 | 0=>.ord [([0,1,2,3,4,5,6],7)] [8] [9]
 | _=>.no
def iA (n:Nat) (c_ Ai:Int) (AF:List Int) (ln:Nat) (mk:List Bool):Option ((List Bool)):=
 if 0<=c_/\ c_<(AF.length:Int) then
  (G7 n Ai (AF.getD ((c_).toNat) 0)).bind fun y1=>
   if (0<=c_/\ c_<(ln:Int))/\ 0+((c_).toNat)<mk.length then
    some (mk.set (0+((c_).toNat)) y1)
   else none
 else none
def Yn (n:Nat) (c_ Ai:Int) (AF:List Int) (ln:Nat) (mk:List Bool):Option ((List Bool)):=iA n c_ Ai AF ln mk
theorem uG {n:Nat} {c_ Ai:Int} {AF:List Int} {ln:Nat} {mk:List Bool} {r:(List Bool)} (h:Yn n c_ Ai AF ln mk=some r):EQ 115 [.i c_,.ref 0 0,.ref 1 0,.ref 2 0] [some (.cells [.i Ai]),some (.cells [.ints AF]),some (.cells [.msl 3 1 0 ln]),some (.bools mk)] (.tup 0 (fun j=>([]:List DV).getD j .any)) [some (.cells [.i Ai]),some (.cells [.ints AF]),some (.cells [.msl 3 1 0 ln]),some (.bools r)] false:=by
 refine ot Tryz.func115 fun B N=>?_
 revert r;apply gO;exact jg qD (gi (cf JL [some (.cells [.i Ai]),some (.cells [.ints AF]),some (.cells [.msl 3 1 0 ln]),some (.bools mk)] fun _=>gc (gi (gi (lE pG [] [0,1,2,3])))))
inductive VG where
 | l1 (Cf:Int) (o1:List Bool)
def RU (n:Nat) (self:VG -> Option Bool) (ED:List (List Int)) (AF cells:List Int) (Ai:Int) (loop:Bool) (Cf:Int) (o1:List Bool):Option Bool:=
 bif (decide (Cf<(cells.length:Int))) then
  if 0<=Cf/\ Cf<(cells.length:Int) then
   (Yn n (cells.getD ((Cf).toNat) 0) Ai AF AF.length o1).bind fun y1=>
    if AI (Cf+1) then
     self (.l1 (Cf+1) y1)
    else none
  else none
 else
  if AF.length=o1.length then
   (Wh n ED o1).bind fun y1=>
    bif (!loop) then
     some (decide ((y1.1.length:Int)<=1))
    else
     bif ((y1.1.length:Int)==0) then
      some (decide ((y1.1.length:Int)<=1))
     else
      (OG n ED o1).bind fun y2=>
       some y2.1
  else none
def iX (n:Nat) (self:VG -> Option Bool) (ED:List (List Int)) (AF cells:List Int) (Ai:Int) (loop:Bool):Option Bool:=
 if ((AF.length:Int):Int)=(AF.length:Int)/\ 0<=(AF.length:Int)/\ ((AF.length:Int):Int)<=1000000000000 then
  self (.l1 0 (List.replicate AF.length false))
 else none
def Od (ED:List (List Int)) (AF cells:List Int) (Ai:Int) (loop:Bool):Nat -> VG -> Option Bool
 | 0,_=>none
 | n+1,.l1 Cf o1=>RU n (Od ED AF cells Ai loop n) ED AF cells Ai loop Cf o1
def Oe (n:Nat) (ED:List (List Int)) (AF cells:List Int) (Ai:Int) (loop:Bool):Option Bool:=iX n (Od ED AF cells Ai loop n) ED AF cells Ai loop
def vH (n B:Nat) (N:Yd 0) (ED:List (List Int)) (AF cells:List Int) (Ai:Int) (loop:Bool) (r:Bool):VG -> Prop
 | .l1 Cf o1=>∀ m0:Nat,n<=m0 -> TW B N (FQ Tryz.f90 0 (.bool r) []) (Ak m0 (Au (AZ Tryz.f90) 0 [])) ⟨AM 56 [(0,.sl 1 ED.length (As A4 ED)),(4,.bool loop),(11,.ref 0 0),(12,.fn 115 3 (L1 [.ref 2 0,.ref 3 0,.ref 0 0])),(23,.ints cells),(24,.i (cells.length:Int)),(25,.i Cf)],[some (.cells [.msl 1 1 0 AF.length]),some (.bools o1),some (.cells [.i Ai]),some (.cells [.ints AF])]⟩
theorem vI (B:Nat) (N:Yd 0) (ED:List (List Int)) (AF cells:List Int) (Ai:Int) (loop:Bool):Al (Od ED AF cells Ai loop) (vH · B N ED AF cells Ai loop):=ia (fun _=>rfl) fun n AG pt r h=>by
 cases pt
 case l1 Cf o1=>
  intro m0 AC;refine rd AC fun m0 AC=>?_
  revert r;apply gO
  exact bi 26 (gi (ce uG [2,3,0,1] [some (.cells [.msl 1 1 0 AF.length]),some (.bools o1),some (.cells [.i Ai]),some (.cells [.ints AF])] fun _=>gw 32 (lG AE [0,1,2,3] (AG _ _ · m0 AC)))) (gn fun g0=>fun p r h=>by
   refine gz (BS 8 AE) [0,1] p [1] (H0.g g0) (GQ (AZ Tryz.f90) 8 []) (AM 56 [(0,.sl 1 ED.length (As A4 ED)),(4,.bool loop),(11,.ref 0 0)]) [some (.cells [.bools o1]),none] ?_;revert r;apply gO;exact cf zBT [some (.cells [.bools o1]),none] fun _=>bi 40 (lE AE [10] []) (bi 44 (lE AE [10] []) (cf rY [some (.cells [.bools o1]),none] fun _=>lE AE [10] [])))
theorem vG {n:Nat} {ED:List (List Int)} {AF cells:List Int} {Ai:Int} {loop:Bool} {r:Bool} (h:Oe n ED AF cells Ai loop=some r):EQ 90 [.sl 1 ED.length (As A4 ED),.ints AF,.ints cells,.i Ai,.bool loop] [] (.bool r) [] true:=by
 refine ot Tryz.func90 fun B N=>?_
 revert r;apply gO;exact gi (jt (lN AE [3,2,1,0] ((vI B N ED AF cells Ai loop n) _ _ · n Nat.le.refl)))
def bV (n:Nat) (v:Int) (c:AB):Option Bool:=
 bif (decide (c.lo<=v)) then
  some (decide (v<=c.hi))
 else
  some false
def Na (n:Nat) (v:Int) (c:AB):Option Bool:=bV n v c
theorem lq {n:Nat} {v:Int} {c:AB} {r:Bool} (h:Na n v c=some r):EQ 81 [.i v,.fp 9 (L1 (AH c))] [] (.bool r) [] true:=by
 refine ot Tryz.func81 fun B N=>?_
 revert r;apply gO;exact bi 7 (lE AE [3] []) (lE AE [3] [])
theorem qC:At (BA Tryz.f58 12) [([0,1,2,3,4,7,8],5),([],6),([],9)] [10] []:=by unfold At;kernel_rfl
theorem qB:At (BA Tryz.f58 14) [([0,1,2,3,4,5,6,7,8,9,10,11,12,13,14,15,16,17,18,19,20,21,22,23],24)] [25] []:=by unfold At;kernel_rfl
theorem qA:At (BA Tryz.f58 16) [] (List.range 16) []:=by unfold At;kernel_rfl
def Kz:Bb:=fun i=>match i with
 | 12=>.ord [([0,1,2,3,4,7,8],5),([],6),([],9)] [10] []
 | 14=>.ord [([0,1,2,3,4,5,6,7,8,9,10,11,12,13,14,15,16,17,18,19,20,21,22,23],24)] [25] []
 | 16=>.ord [] (List.range 16) []
 | _=>.no
def JH (n:Nat) (q:AA) (c_:AB) (AF:List Int):Option Bool:=
 bif (c_.kind==1) then
  (WU n AF c_.cells).bind fun y1=>
   some y1
 else
  bif (c_.kind==2) then
   (Wa n AF c_.cells c_.set).bind fun y1=>
    (Na n y1 c_).bind fun y2=>
     some y2
  else
   bif (c_.kind==3) then
    (Tl n q.values AF c_.cells).bind fun y1=>
     (Na n y1 c_).bind fun y2=>
      some y2
   else
    bif (c_.kind==4) then
     (UE n q.values AF c_.cells).bind fun y1=>
      some y1
    else
     bif (c_.kind==5) then
      (OC n c_.cells c_.set AF).bind fun y1=>
       (NW n y1).bind fun y2=>
        (NR n y2 c_.runs).bind fun y3=>
         some y3
     else
      bif (c_.kind==6) then
       if ((0:Int)<=0/\ 0<(c_.cells.length:Int))/\ (0<=(c_.cells.getD 0 0)/\ (c_.cells.getD 0 0)<(AF.length:Int))/\ (0<=(AF.getD ((c_.cells.getD 0 0).toNat) 0)/\ (AF.getD ((c_.cells.getD 0 0).toNat) 0)<(q.values.length:Int))/\ ((0:Int)<=1/\ 1<(c_.cells.length:Int))/\ (0<=(c_.cells.getD 1 0)/\ (c_.cells.getD 1 0)<(AF.length:Int))/\ (0<=(AF.getD ((c_.cells.getD 1 0).toNat) 0)/\ (AF.getD ((c_.cells.getD 1 0).toNat) 0)<(q.values.length:Int)) then
        (bu n (q.values.getD ((AF.getD ((c_.cells.getD 0 0).toNat) 0).toNat) 0) (q.values.getD ((AF.getD ((c_.cells.getD 1 0).toNat) 0).toNat) 0) c_.lo).bind fun y1=>
         some y1
       else none
      else
       bif (c_.kind==7) then
        if ((0:Int)<=0/\ 0<(c_.cells.length:Int))/\ (0<=(c_.cells.getD 0 0)/\ (c_.cells.getD 0 0)<(AF.length:Int))/\ ((0:Int)<=1/\ 1<(c_.cells.length:Int))/\ (0<=(c_.cells.getD 1 0)/\ (c_.cells.getD 1 0)<(AF.length:Int)) then
         (G7 n c_.set (AF.getD ((c_.cells.getD 0 0).toNat) 0)).bind fun y1=>
          bif y1 then
           (G7 n c_.other (AF.getD ((c_.cells.getD 1 0).toNat) 0)).bind fun y2=>
            bif y2 then
             some false
            else
             (G7 n c_.set (AF.getD ((c_.cells.getD 1 0).toNat) 0)).bind fun y3=>
              bif y3 then
               (G7 n c_.other (AF.getD ((c_.cells.getD 0 0).toNat) 0)).bind fun y4=>
                some (!y4)
              else
               some true
          else
           (G7 n c_.set (AF.getD ((c_.cells.getD 1 0).toNat) 0)).bind fun y2=>
            bif y2 then
             (G7 n c_.other (AF.getD ((c_.cells.getD 0 0).toNat) 0)).bind fun y3=>
              some (!y3)
            else
             some true
        else none
       else
        (Oe n q.nbrs AF c_.cells c_.set (c_.kind==9)).bind fun y1=>
         some y1
def Fb (n:Nat) (q:AA) (c_:AB) (AF:List Int):Option Bool:=JH n q c_ AF
theorem uF {n:Nat} {q:AA} {c_:AB} {AF:List Int} {r:Bool} (h:Fb n q c_ AF=some r):EQ 58 [.agg 5 (L1 (AD q)),.agg 9 (L1 (AH c_)),.ints AF] [] (.bool r) [] true:=by
 refine ot Tryz.func58 fun B N=>?_
 revert r;apply gO;exact bi 14 (cf zAl [some (.cells (AD q)),some (.cells (AH c_))] fun _=>lE AE [6] []) (bi 20 (cf zBA [some (.cells (AD q)),some (.cells (AH c_))] fun y1=>cn fun y2 Bt=>jc (sb [.i y1,.ref 1 0] (lq Bt) [some (.cells (AD q)),some (.cells (AH c_))] ⟨AR.plain (by kernel_rfl),(AR.refL (l:=(AH c_)) (l0:=(AH c_)) rfl ⟨AR.plain (by kernel_rfl),AR.plain (by kernel_rfl),AR.plain (by kernel_rfl),AR.plain (by kernel_rfl),AR.plain (by kernel_rfl),AR.plain (by kernel_rfl),AR.plain (by kernel_rfl),AR.plain (by kernel_rfl),AR.plain (by kernel_rfl),trivial⟩),trivial⟩) (lE AE [6] [])) (bi 30 (cf oH [some (.cells (AD q)),some (.cells (AH c_))] fun y1=>cn fun y2 Bt=>jc (sb [.i y1,.ref 1 0] (lq Bt) [some (.cells (AD q)),some (.cells (AH c_))] ⟨AR.plain (by kernel_rfl),(AR.refL (l:=(AH c_)) (l0:=(AH c_)) rfl ⟨AR.plain (by kernel_rfl),AR.plain (by kernel_rfl),AR.plain (by kernel_rfl),AR.plain (by kernel_rfl),AR.plain (by kernel_rfl),AR.plain (by kernel_rfl),AR.plain (by kernel_rfl),AR.plain (by kernel_rfl),AR.plain (by kernel_rfl),trivial⟩),trivial⟩) (lE AE [6] [])) (bi 40 (cf rU [some (.cells (AD q)),some (.cells (AH c_))] fun _=>lE AE [6] []) (bi 48 (jg qC (cn fun y1 A0=>jc (qk A0 [some (.cells (AD q)),some (.cells (AH c_))]) (cn fun y2 Bt=>jq (eu (zBb Bt) [2] [some (.cells (AD q)),some (.cells (AH c_)),some (.iter ((y1).map Bg))] 2) (cf ax [some (.cells (AD q)),some (.cells (AH c_)),none] fun _=>lE Kz [6] [])))) (bi 60 (jg qB (gc (gi (gc (gi (gc (gi (gc (gi (gc (gi (gi (cf zCN [some (.cells (AD q)),some (.cells (AH c_))] fun _=>lE Kz [6] []))))))))))))) (bi 87 (jg qA (gc (gi (gc (gi (gc (gi (gi (cf JL [some (.cells (AD q)),some (.cells (AH c_))] fun _=>bi 105 (cf JL [some (.cells (AD q)),some (.cells (AH c_))] fun _=>bi 110 (lE Kz [6] []) (cf JL [some (.cells (AD q)),some (.cells (AH c_))] fun _=>bi 116 (cf JL [some (.cells (AD q)),some (.cells (AH c_))] fun _=>lE Kz [6] []) (lE Kz [6] []))) (cf JL [some (.cells (AD q)),some (.cells (AH c_))] fun _=>bi 116 (cf JL [some (.cells (AD q)),some (.cells (AH c_))] fun _=>lE Kz [6] []) (lE Kz [6] []))))))))))) (cf vG [some (.cells (AD q)),some (.cells (AH c_))] fun _=>lE Kz [6] [])))))))
def cq (n:Nat) (v Cj:Int):Option Bool:=
 bif (decide (v<0)) then
  some true
 else
  some (decide (v>=Cj))
def TY (n:Nat) (v Cj:Int):Option Bool:=cq n v Cj
theorem na {n:Nat} {v Cj:Int} {r:Bool} (h:TY n v Cj=some r):EQ 112 [.i v,.fp 1 (L1 [.i Cj])] [] (.bool r) [] true:=by
 refine ot Tryz.func112 fun B N=>?_
 revert r;apply gO;exact bi 5 (lE AE [3] []) (lE AE [3] [])
inductive VN where
 | l1 (x8:Int)
def Rg (n:Nat) (self:VN -> Option Int) (l:List Int) (Cj:Int) (x8:Int):Option Int:=
 bif (decide (x8<(l.length:Int))) then
  if 0<=x8/\ x8<(l.length:Int) then
   (TY n (l.getD ((x8).toNat) 0) Cj).bind fun y1=>
    bif y1 then
     some x8
    else
     if AI (x8+1) then
      self (.l1 (x8+1))
     else none
  else none
 else
  some (-1)
def vX (n:Nat) (self:VN -> Option Int) (l:List Int) (Cj:Int):Option Int:=
 self (.l1 0)
def LQ (l:List Int) (Cj:Int):Nat -> VN -> Option Int
 | 0,_=>none
 | n+1,.l1 x8=>Rg n (LQ l Cj n) l Cj x8
def im (n:Nat) (l:List Int) (Cj:Int):Option Int:=vX n (LQ l Cj n) l Cj
def vY (n B:Nat) (N:Yd 0) (l:List Int) (Cj:Int) (r:Int):VN -> Prop
 | .l1 x8=>∀ m0:Nat,n<=m0 -> TW B N (FQ Tryz.f41 0 (.i r) []) (Ak m0 (Au (AZ Tryz.f41) 0 [])) ⟨AM 19 [(0,.ints l),(1,.fn 112 1 (L1 [.fp 1 (L1 [.i Cj])])),(7,.i (l.length:Int)),(8,.i x8)],[]⟩
theorem vZ (B:Nat) (N:Yd 0) (l:List Int) (Cj:Int):Al (LQ l Cj) (vY · B N l Cj):=ia (fun _=>rfl) fun n AG pt r h=>by
 cases pt
 case l1 x8=>
  intro m0 AC;refine rd AC fun m0 AC=>?_
  revert r;apply gO;exact bi 9 (gi (cf na [] fun _=>bi 16 (lE AE [4] []) (gw 18 (lG AE [] (AG _ _ · m0 AC))))) (lE AE [4] [])
theorem vW {n:Nat} {l:List Int} {Cj:Int} {r:Int} (h:im n l Cj=some r):EQ 41 [.ints l,.fn 112 1 (L1 [.fp 1 (L1 [.i Cj])])] [] (.i r) [] true:=by
 refine ot Tryz.func41 fun B N=>?_
 revert r;apply gO;exact lN AE [] ((vZ B N l Cj n) _ _ · n Nat.le.refl)
def lI (n:Nat) (l:List Int) (Cj:Int):Option Bool:=
 (im n l Cj).bind fun y1=>
  some (decide (y1>=0))
def bE (n:Nat) (l:List Int) (Cj:Int):Option Bool:=lI n l Cj
theorem zBH {n:Nat} {l:List Int} {Cj:Int} {r:Bool} (h:bE n l Cj=some r):EQ 48 [.ints l,.fn 112 1 (L1 [.fp 1 (L1 [.i Cj])])] [] (.bool r) [] true:=by
 unfold bE lI at h;refine ot Tryz.func48 fun B N=>?_
 revert r;apply gO;exact cf vW [] fun _=>lE AE [4] []
def ap (n:Nat) (cells symbols:Int) (AF:List Int):Option Bool:=
 bif ((AF.length:Int)==cells) then
  (bE n AF symbols).bind fun y1=>
   some (!y1)
 else
  some false
def SN (n:Nat) (cells symbols:Int) (AF:List Int):Option Bool:=ap n cells symbols AF
theorem z7 {n:Nat} {cells symbols:Int} {AF:List Int} {r:Bool} (h:SN n cells symbols AF=some r):EQ 80 [.i cells,.i symbols,.ints AF] [] (.bool r) [] true:=by
 refine ot Tryz.func80 fun B N=>?_
 revert r;apply gO;exact bi 10 (cn fun y1 A0=>jc (sb [.ints AF,.fn 112 1 (L1 [.ref 0 0])] (zBH A0) [some (.cells [.i symbols])] ⟨AR.plain (by kernel_rfl),(AR.fnL (l:=[.ref 0 0]) (l0:=[.fp 1 (L1 [.i symbols])]) ⟨(AR.refL (l:=[.i symbols]) (l0:=[.i symbols]) rfl ⟨AR.plain (by kernel_rfl),trivial⟩),trivial⟩),trivial⟩) (lE AE [6] [])) (lE AE [6] [])
def fU (n:Nat) (q:AA) (AF:List Int):Option Int:=
 (valid n q).bind fun y1=>
  bif (y1 != 0) then
   some y1
  else
   (SN n q.cells q.symbols AF).bind fun y2=>
    bif (!y2) then
     some 200
    else
     some 0
def UL (n:Nat) (q:AA) (AF:List Int):Option Int:=fU n q AF
theorem r7 {n:Nat} {q:AA} {AF:List Int} {r:Int} (h:UL n q AF=some r):EQ 57 [.agg 5 (L1 (AD q)),.ints AF] [] (.i r) [] true:=by
 unfold UL fU at h;refine ot Tryz.func57 fun B N=>?_
 revert r;apply gO;exact cf XJ [some (.cells (AD q))] fun _=>bi 8 (lE AE [4] []) (cf z7 [some (.cells (AD q))] fun _=>bi 16 (lE AE [4] []) (lE AE [4] []))
end Go.Proofs.YtgkhhfnhacibcaaGreatDoor
namespace Go.Proofs.YtgkhhfnhacibcaaGreatDoor
abbrev zEY:=@Nat.zero_lt_one
abbrev zEi:=@iff_of_false
abbrev zFT:=@iff_of_true
end Go.Proofs.YtgkhhfnhacibcaaGreatDoor
namespace Go.Proofs.YtgkhhfnhacibcaaGreatDoor
open Go.RowKit
theorem LR {k s n:Nat} {x:Int} (h:Sm k x) (hk:k<=62) (hs:s<64):G7 n x (s:Int)=some (tb x s):=by
 unfold G7 iu;rw [zB3 ⟨by omega,by show (s:Int)<=((64:Nat):Int);omega⟩,zCi,pD h hk hs]
section
variable {q:AA} {g:List Int} {c:AB}
theorem Sv.gi (S:Sv q c g) {a:Nat} (ha:a<c.cells.length):g.getD (c.cells.getD a 0).toNat 0=((AN c g a:Nat):Int):=by
 have h:=S.cell a ha;have:=S.G.sym (c.cells.getD a 0).toNat (by omega);unfold AN;omega
theorem pA {k:Nat} {x y:Int} (hk:k<=62) (hx:Sm k x) (hy:Sm k y):Sm k (bits .or .i64 x y):=
 Xj hk (E5 _ _ _) fun i hi _=>by rw [Jh,hx.hi hi,hy.hi hi];rfl
theorem zAs (S:Sv q c g) (hl:c.cells.length<=256): ∃ r,Ev (fun n=>WU n g c.cells) r/\ (r=true↔∀ a b,a<c.cells.length -> b<c.cells.length -> AN c g a=AN c g b -> a=b):=by
 have key: ∀ (k i:Nat) (x:Int),i+k=c.cells.length -> Sm 16 x -> (∀ s,tb x s=true↔∃ b,b<i/\ AN c g b=s) -> (∀ a b,a<i -> b<i -> AN c g a=AN c g b -> a=b) ->
  ∃ r,Ev (fun n=>Lm g c.cells n (.l1 x (i:Int))) r/\ (r=true↔∀ a b,a<c.cells.length -> b<c.cells.length -> AN c g a=AN c g b -> a=b):=by
  intro k
  induction k with
  | zero=>
   intro i x e hx hs hd;have e:i=c.cells.length:=by omega
   subst e;refine ⟨true,Ev.one fun n=>?_,zFT rfl hd⟩
   show Sa n (Lm g c.cells n) g c.cells x (c.cells.length:Int)=_
   unfold Sa;rw [zAZ (by omega),zAc]
  | succ k ih=>
   intro i x e hx hs hd;have hi:i<c.cells.length:=by omega
   have hc:=S.cell i hi;have AL:=(S.lt hi).2
   have step: ∀ n,Lm g c.cells (n+1) (.l1 x (i:Int))=bif tb x (AN c g i) then some false else Lm g c.cells n (.l1 (bits .or .i64 x (IntKind.i64.wrap (1*2 ^ AN c g i))) ((i+1:Nat):Int)):=fun n=>by
    show Sa n (Lm g c.cells n) g c.cells x (i:Int)=_
    unfold Sa;rw [zCm (by omega),zCk,zCi,zB3 ⟨⟨by omega,by omega⟩,hc⟩,S.gi hi,LR hx (by decide) (by omega),zCj];cases tb x (AN c g i)
    ·rw [zAc,zAc,zB3 ⟨⟨by omega,by show ((AN c g i:Nat):Int)<=((64:Nat):Int);omega⟩,An.2 ⟨by omega,by omega⟩⟩,zCi,show ((i+1:Nat):Int)=(i:Int)+1 by omega]
    ·rfl
   cases hb:tb x (AN c g i) with
   | true=>
    obtain ⟨b,h1,h2⟩:=(hs _).1 hb;refine ⟨false,Ev.one fun n=>by rw [step n,hb,zCk],zEi (by decide) fun h=>?_⟩;have:=h b i (by omega) hi h2;omega
   | false=>
    have no: ∀ b,b<i -> AN c g b≠AN c g i:=fun b C4 e=>by
     rw [(hs _).2 ⟨b,C4,e⟩] at hb;cases hb
    obtain ⟨r,h1,h2⟩:=ih (i+1) (bits .or .i64 x (IntKind.i64.wrap (1*2 ^ AN c g i))) (by omega) (pA (by decide) hx (fk (by decide) AL)) (fun s=>by
     rw [Jh,H7 (by omega),zC7,hs,zCw];constructor
     ·rintro (⟨b,h1,h2⟩ | h)
      ·exact ⟨b,by omega,h2⟩
      ·exact ⟨i,by omega,h⟩
     ·rintro ⟨b,h1,h2⟩;rcases zCx.1 h1 with h | rfl
      ·exact .inl ⟨b,h,h2⟩
      ·exact .inr h2) (fun a b ha hb e'=>by
     rcases zCx.1 ha with ha | rfl <;> rcases zCx.1 hb with hb | rfl
     ·exact hd a b ha hb e'
     ·exact absurd e' (no a ha)
     ·exact absurd e'.symm (no b hb)
     ·rfl)
    exact ⟨r,Aw.ev (Aw.one fun n=>by rw [step n,hb,zAc]) h1,h2⟩
 exact key c.cells.length 0 0 (by omega) ⟨by decide,by decide⟩ (fun s=>by rw [Td];simp) fun a b ha=>absurd ha (zCz a)
theorem zA5 (S:Sv q c g) (hl:c.cells.length<=256) {k:Nat} (hs:Sm k c.set) (hk:k<=16):Ev (fun n=>Wa n g c.cells c.set) (cnt (fun a=>tb c.set (AN c g a)) c.cells.length):=by
 have key: ∀ (k i:Nat),i+k=c.cells.length -> Ev (fun n=>PX g c.cells c.set n (.l1 (cnt (fun a=>tb c.set (AN c g a)) i) (i:Int))) (cnt (fun a=>tb c.set (AN c g a)) c.cells.length):=by
  intro k
  induction k with
  | zero=>
   intro i e;have e:i=c.cells.length:=by omega
   subst e;refine Ev.one fun n=>?_
   show Sn n (PX g c.cells c.set n) g c.cells c.set _ (c.cells.length:Int)=_
   unfold Sn;rw [zAZ (by omega),zAc]
  | succ k ih=>
   intro i e;have hi:i<c.cells.length:=by omega
   have hc:=S.cell i hi;have AL:=(S.lt hi).2;have hb:=bK (p:=fun a=>tb c.set (AN c g a)) (i:=i);refine Aw.ev (Aw.one fun n=>?_) (ih (i+1) (by omega))
   show Sn n (PX g c.cells c.set n) g c.cells c.set _ (i:Int)=_
   unfold Sn;rw [zCm (by omega),zCk,zCi,zB3 ⟨⟨by omega,by omega⟩,hc⟩,S.gi hi,LR hs (by omega) (by omega),zCj,KZ,show ((i+1:Nat):Int)=(i:Int)+1 by omega];cases tb c.set (AN c g i)
   ·rw [zAc,zB3 (An.2 ⟨by omega,by omega⟩)];simp
   ·rw [zCk,zB3 ⟨An.2 ⟨by omega,by omega⟩,An.2 ⟨by omega,by omega⟩⟩,zB3 rfl]
 exact key c.cells.length 0 (by omega)
theorem oA (S:Sv q c g) (V:Do q q.symbols.toNat) (hl:c.cells.length<=256):Ev (fun n=>Tl n q.values g c.cells) (CM (fun a=>q.values.getD (AN c g a) 0) c.cells.length):=by
 have hv: ∀ i,i<c.cells.length -> 0<=q.values.getD (AN c g i) 0/\ q.values.getD (AN c g i) 0<=99:=fun i hi=>V.val _ (S.lt hi).1
 have key: ∀ (k i:Nat),i+k=c.cells.length -> Ev (fun n=>N4 q.values g c.cells n (.l1 (CM (fun a=>q.values.getD (AN c g a) 0) i) (i:Int))) (CM (fun a=>q.values.getD (AN c g a) 0) c.cells.length):=by
  intro k
  induction k with
  | zero=>
   intro i e;have e:i=c.cells.length:=by omega
   subst e;refine Ev.one fun n=>?_
   show QA n (N4 q.values g c.cells n) q.values g c.cells _ (c.cells.length:Int)=_
   unfold QA;rw [zAZ (by omega),zAc]
  | succ k ih=>
   intro i e;have hi:i<c.cells.length:=by omega
   have hc:=S.cell i hi;have AL:=(S.lt hi).1;have FJ:=V.len;have Cc:=hv i hi;have hb:=Nw (f:=fun a=>q.values.getD (AN c g a) 0) i fun a ha=>by have:=hv a (by omega);omega
   refine Aw.ev (Aw.one fun n=>?_) (ih (i+1) (by omega))
   show QA n (N4 q.values g c.cells n) q.values g c.cells _ (i:Int)=_
   unfold QA;rw [zCm (by omega),zCk,zCi,S.gi hi,zCi,zB3 ⟨⟨by omega,by omega⟩,hc,⟨by omega,by omega⟩,An.2 ⟨by omega,by omega⟩,An.2 ⟨by omega,by omega⟩⟩,show ((i+1:Nat):Int)=(i:Int)+1 by omega];rfl
 exact key c.cells.length 0 (by omega)
theorem rL (S:Sv q c g) (V:Do q q.symbols.toNat) (hl:c.cells.length<=256): ∃ r,Ev (fun n=>UE n q.values g c.cells) r/\ (r=true↔GS q 0 c.cells.length (AN c g)):=by
 have hv: ∀ i,i<c.cells.length -> 0<=q.values.getD (AN c g i) 0/\ q.values.getD (AN c g i) 0<=99:=fun i hi=>V.val _ (S.lt hi).1
 have key: ∀ (k i:Nat) (x:Int),i+k=c.cells.length -> (i=0 -> x= -1) -> (0<i -> x=q.values.getD (AN c g (i-1)) 0) -> GS q 0 i (AN c g) ->
  ∃ r,Ev (fun n=>K7 q.values g c.cells n (.l1 x (i:Int))) r/\ (r=true↔GS q 0 c.cells.length (AN c g)):=by
  intro k
  induction k with
  | zero=>
   intro i x e h0 h1 hI;have e:i=c.cells.length:=by omega
   subst e;refine ⟨true,Ev.one fun n=>?_,zFT rfl hI⟩
   show Qj n (K7 q.values g c.cells n) q.values g c.cells x (c.cells.length:Int)=_
   unfold Qj;rw [zAZ (by omega),zAc]
  | succ k ih=>
   intro i x e h0 h1 hI;have hi:i<c.cells.length:=by omega
   have hc:=S.cell i hi;have AL:=(S.lt hi).1;have FJ:=V.len;have Cc:=hv i hi
   have step: ∀ n,K7 q.values g c.cells (n+1) (.l1 x (i:Int))=bif decide (q.values.getD (AN c g i) 0<=x) then some false else K7 q.values g c.cells n (.l1 (q.values.getD (AN c g i) 0) ((i+1:Nat):Int)):=fun n=>by
    show Qj n (K7 q.values g c.cells n) q.values g c.cells x (i:Int)=_
    unfold Qj;rw [zCm (by omega),zCk,zCi,S.gi hi,zCi,zB3 ⟨⟨by omega,by omega⟩,hc,by omega,by omega⟩,zB3 (An.2 ⟨by omega,by omega⟩),show ((i+1:Nat):Int)=(i:Int)+1 by omega]
   by_cases h:q.values.getD (AN c g i) 0<=x
   ·refine ⟨false,Ev.one fun n=>by rw [step n,zCm h,zCk],zEi (by decide) fun zZ=>?_⟩;rcases zEJ i with e0 | e0
    ·have:=h0 e0;omega
    ·have h2:=zZ (i-1) (zD0 _) (by omega);rw [←h1 e0,show i-1+1=i by omega] at h2;omega
   ·obtain ⟨r,r1,r2⟩:=ih (i+1) (q.values.getD (AN c g i) 0) (by omega) (fun h=>absurd h (by omega)) (fun _=>by rw [Nat.add_sub_cancel]) (fun b aT hb=>by
     by_cases e1:b+1=i
     ·rw [e1,show b=i-1 by omega,←h1 (by omega)];omega
     ·exact hI b aT (by omega))
    exact ⟨r,Aw.ev (Aw.one fun n=>by rw [step n,zAZ h,zAc]) r1,r2⟩
 exact key c.cells.length 0 (-1) (by omega) (fun _=>rfl) (fun h=>absurd h (Nat.lt_irrefl 0)) fun b _ h=>absurd h (zCz _)
theorem qa (S:Sv q c g) (hl:c.cells.length<=256) {k:Nat} (hs:Sm k c.set) (hk:k<=16):Ev (fun n=>OC n c.cells c.set g) (rl (fun a=>tb c.set (AN c g a)) c.cells.length c.cells.length 0):=by
 have key: ∀ (m i:Nat) (l:Int),i+m=c.cells.length -> 0<=l/\ l<=(i:Int) -> Ev (fun n=>GW c.cells c.set g n (.l1 l (i:Int))) (rl (fun a=>tb c.set (AN c g a)) c.cells.length m l):=by
  intro m
  induction m with
  | zero=>
   intro i l e Cd;have e:i=c.cells.length:=by omega
   subst e;refine Ev.one fun n=>?_
   show MK n (GW c.cells c.set g n) c.cells c.set g l (c.cells.length:Int)=_
   unfold MK rl;rw [zAZ (by omega),zAc]
   by_cases h:l>0
   ·rw [zCm h,zCk,zB3 h];rfl
   ·rw [zAZ h,zAc,zCt h]
  | succ m ih=>
   intro i l e Cd;have hi:i<c.cells.length:=by omega
   have hc:=S.cell i hi;have AL:=(S.lt hi).2;have ei:c.cells.length-1-m=i:=by omega
   have start: ∀ n,GW c.cells c.set g (n+1) (.l1 l (i:Int))=bif tb c.set (AN c g i) then GW c.cells c.set g n (.l1 (l+1) ((i+1:Nat):Int)) else bif decide (l>0) then (GW c.cells c.set g n (.l1 0 ((i+1:Nat):Int))).map (fun r=>l::r) else GW c.cells c.set g n (.l1 0 ((i+1:Nat):Int)):=fun n=>by
    have r1:AI ((i:Int)+1):=An.2 ⟨by omega,by omega⟩
    show MK n (GW c.cells c.set g n) c.cells c.set g l (i:Int)=_
    unfold MK;rw [zCm (by omega),zCk,zCi,zB3 ⟨⟨by omega,by omega⟩,hc⟩,S.gi hi,LR hs (by omega) (by omega),zCj,show ((i+1:Nat):Int)=(i:Int)+1 by omega];cases tb c.set (AN c g i)
    ·rw [zAc,zAc,zB3 r1];cases decide (l>0) <;> rfl
    ·rw [zCk,zCk,zB3 ⟨An.2 ⟨by omega,by omega⟩,r1⟩]
   unfold rl;rw [ei];cases hb:tb c.set (AN c g i) with
   | true=>exact Aw.ev (Aw.one fun n=>by rw [start n,hb,zCk]) (ih (i+1) (l+1) (by omega) (by omega))
   | false=>
    have h0:=ih (i+1) 0 (by omega) (by omega)
    by_cases h:l>0
    ·obtain ⟨N,h0⟩:=h0;refine ⟨N+1,fun n hn=>?_⟩;obtain ⟨n,rfl⟩: ∃ k,n=k+1:=⟨n-1,by omega⟩
     show GW c.cells c.set g (n+1) (.l1 l (i:Int))=_
     rw [start n,hb,zAc,zCm h,zCk,show GW c.cells c.set g n (.l1 0 ((i+1:Nat):Int))=_ from h0 n (by omega),zAc,zB3 h];rfl
    ·rw [zAc,zCt h];exact Aw.ev (Aw.one fun n=>by rw [start n,hb,zAc,zAZ h,zAc]) h0
 exact key c.cells.length 0 0 (by omega) ⟨zDZ _,by omega⟩
theorem X3 {b:Nat -> Bool} {N:Nat}: ∀ (m:Nat) (l:Int),(rl b N m l).length<=m+1
 | 0,l=>by unfold rl;split <;> simp
 | m+1,l=>by
  unfold rl;cases b (N-1-m)
  ·rw [zAc];have:=X3 (b:=b) (N:=N) m 0;split
   ·simp;omega
   ·omega
  ·rw [zCk];have:=X3 (b:=b) (N:=N) m (l+1);omega
theorem mO {n:Nat}: ∀ (l x:List Int),(x++l).length<=BE -> B6 (Ww n) l (.s1 x.length x)=some (.s1 (x++l).length (x++l))
 | [],x,h=>by rw [zEX];rfl
 | a::l,x,h=>by
  have e:x++a::l=x++[a]++l:=by simp
  have hl:x.length+([a]:List Int).length<=BE:=by simp only [zDC,zDn] at h;simp only [zDM];omega
  show (TF n a x.length x).bind _=_
  unfold TF;rw [zB3 ⟨⟨rfl,rfl⟩,⟨rfl,rfl⟩,hl⟩,zCj,e,←zDC];exact mO l (x++[a]) (by rw [←e];exact h)
theorem zBc {n:Nat} {l:List Int} (hl:l.length<=300):NW n l=some l:=by
 have L:(1000000000000:Nat)=BE:=rfl;unfold NW bJ Wx bq;cases l with
 | nil=>rfl
 | cons a l=>
  have e:B6 (Ww n) (a::l) .s0=some (.s1 ([a]++l).length ([a]++l)):=by
   show (TG n a).bind _=_
   unfold TG;rw [zB3 ⟨⟨rfl,rfl⟩,zEY,by rw [←L];show 1<=_;omega⟩,zCj];exact mO l [a] (by rw [←L];simp only [zDC,zDn,zDx] at hl ⊢;omega)
  rw [e,zCj]
  show (if ([a]++l).length=([a]++l).length then some ([a]++l) else none).bind _=_
  rw [zB3 rfl];rfl
end
end Go.Proofs.YtgkhhfnhacibcaaGreatDoor
namespace Go.Proofs.YtgkhhfnhacibcaaGreatDoor
abbrev zEl:=@forall_congr'
end Go.Proofs.YtgkhhfnhacibcaaGreatDoor
namespace Go.Proofs.YtgkhhfnhacibcaaGreatDoor
open Go.RowKit
section
variable {q:AA} {i:Int} {g:List Int} {c:AB}
def RY (c:AB) (b:Nat -> Bool):Nat -> Int×Int -> Prop
 | 0,t=>TQ c t
 | m+1,s=>∃ u,nx c s.1 s.2 (b (c.cells.length-1-m))=some u/\ RY c b m u
theorem d7 (S:Sv q c g) {a:Nat} (ha:a<c.cells.length) {inn:Bool}:kd c (AW g) a inn=true↔inn=tb c.set (AN c g a):=by
 have hs:AN c g a<64:=by have:=S.lt ha;omega
 unfold kd;rw [S.set ha];cases inn
 ·rw [zAc,bne,UX hs];cases tb c.set (AN c g a) <;> simp
 ·rw [zCk,UY hs];cases tb c.set (AN c g a) <;> simp
theorem Xr (S:Sv q c g) {a:Nat} {inn:Bool} (ha:a<c.cells.length): ∀ (m:Nat) (s:Int×Int),m<=c.cells.length -> (RX c (AW g) a inn m s↔RY c (fun a=>tb c.set (AN c g a)) m s/\ (c.cells.length<=a+m -> inn=tb c.set (AN c g a)))
 | 0,s,_=>⟨fun h=>⟨h,fun h=>by omega⟩,fun h=>h.1⟩
 | m+1,s,hm=>by
  constructor
  ·rintro ⟨b,u,h1,h2,h3,h4⟩;obtain rfl:=(d7 S (by omega)).1 h1;obtain ⟨h5,h6⟩:=(Xr S ha m u (by omega)).1 h4;refine ⟨⟨u,h3,h5⟩,fun h=>?_⟩
   by_cases e:c.cells.length-1-m=a
   ·rw [←h2 e,e]
   ·exact h6 (by omega)
  ·rintro ⟨⟨u,h3,h5⟩,h6⟩;refine ⟨tb c.set (AN c g (c.cells.length-1-m)),u,(d7 S (by omega)).2 rfl,fun e=>?_,h3,(Xr S ha m u (by omega)).2 ⟨h5,fun h=>h6 (by omega)⟩⟩;rw [h6 (by omega),e]
theorem lV (S:Sv q c g) {a:Nat} {inn:Bool} (ha:a<c.cells.length):Iq c (AW g) a inn↔RY c (fun a=>tb c.set (AN c g a)) c.cells.length (0,0)/\ inn=tb c.set (AN c g a):=by
 rw [zBl ha,Xr S ha _ _ (zC6 _)];exact ⟨fun h=>⟨h.1,h.2 (by omega)⟩,fun h=>⟨h.1,fun _=>h.2⟩⟩
theorem fB {b:Nat -> Bool} {n:Nat}: ∀ (m:Nat) (l:Int),0<l -> ∃ x r,rl b n m l=x::r/\ l<=x
 | 0,l,h=>⟨l,[],by unfold rl;rw [zB3 h],zDZ _⟩
 | m+1,l,h=>by
  unfold rl;cases b (n-1-m)
  ·rw [zAc,zB3 h];exact ⟨l,_,rfl,zDZ _⟩
  ·rw [zCk];obtain ⟨x,r,h1,h2⟩:=fB m (l+1) (by omega);exact ⟨x,r,h1,by omega⟩
theorem kr {l:List Int} {d:Nat}:l.drop d= []↔l.length<=d:=List.drop_eq_nil_iff
theorem az {l:List Int} {d:Nat} (h:d<l.length):l.drop d=l.getD d 0::l.drop (d+1):=by
 rw [zDD h,u8,zAe h];rfl
theorem Tw {b:Nat -> Bool} (h1: ∀ x∈c.runs,1<=x): ∀ (m:Nat) (d l:Int),Ke c d l -> (RY c b m (d,l)↔rl b c.cells.length m l=c.runs.drop d.toNat)
 | 0,d,l,h=>by
  obtain ⟨d0,d1,l0,ho⟩:=h;have pos: ∀ j,j<c.runs.length -> 1<=c.runs.getD j 0:=fun j hj=>h1 _ (by rw [u8,zAe hj];exact zC5 hj)
  show TQ c (d,l)↔_
  unfold TQ rl;simp only [zD7]
  by_cases hl:l>0
  ·obtain ⟨o1,o2⟩:=ho hl;rw [zB3 hl,az (by omega)];constructor
   ·rintro (⟨_,e⟩ | ⟨_,e1,e2⟩)
    ·omega
    ·rw [show d.toNat=c.runs.length-1 by omega,←e2,zDg (by omega)]
   ·intro e;injection e with e1 e2
    have:=kr.1 e2.symm;exact .inr ⟨by omega,by omega,by rw [e1,show d.toNat=c.runs.length-1 by omega]⟩
  ·have:l=0:=by omega
   subst this;rw [zCt hl,@eq_comm _ ([]:List Int),kr];constructor
   ·rintro (⟨e,_⟩ | ⟨e0,e1,e2⟩)
    ·omega
    ·have:=pos (c.runs.length-1) (by omega);omega
   ·intro e;exact .inl ⟨by omega,rfl⟩
 | m+1,d,l,h=>by
  have h':=h;obtain ⟨d0,d1,l0,ho⟩:=h;have pos: ∀ j,j<c.runs.length -> 1<=c.runs.getD j 0:=fun j hj=>h1 _ (by rw [u8,zAe hj];exact zC5 hj)
  show (∃ u,nx c d l (b (c.cells.length-1-m))=some u/\ RY c b m u)↔_
  unfold rl;cases hb:b (c.cells.length-1-m) with
  | true=>
   rw [zCk];unfold nx;rw [zCk]
   by_cases e:d<(c.runs.length:Int)/\ l<c.runs.getD d.toNat 0
   ·rw [zB3 e,←Tw h1 m d (l+1) ⟨d0,d1,by omega,fun _=>⟨e.1,by omega⟩⟩];exact ⟨fun ⟨u,e1,e2⟩=>by cases e1;exact e2,fun h=>⟨_,rfl,h⟩⟩
   ·rw [zCt e];refine ⟨fun ⟨u,e1,_⟩=>by (cases e1),fun hx=>?_⟩;obtain ⟨x,r,e1,e2⟩:=fB (b:=b) (n:=c.cells.length) m (l+1) (by omega);rw [e1] at hx
    by_cases hd:d.toNat<c.runs.length
    ·rw [az hd] at hx;injection hx with hx _
     exact absurd ⟨by omega,by omega⟩ e
    ·rw [zDg (by omega)] at hx;cases hx
  | false=>
   rw [zAc];unfold nx;rw [zAc]
   by_cases hl:l>0
   ·obtain ⟨o1,o2⟩:=ho hl;rw [zCt (by omega),zB3 hl,az (by omega)]
    by_cases e:l=c.runs.getD d.toNat 0
    ·rw [zB3 e,←e];have:=Tw (b:=b) h1 m (d+1) 0 ⟨by omega,by omega,zDZ _,fun h=>by omega⟩;rw [show (d+1).toNat=d.toNat+1 by omega] at this;constructor
     ·rintro ⟨u,e1,e2⟩;cases e1;rw [this.1 e2]
     ·intro hx;injection hx with _ hx
      exact ⟨_,rfl,this.2 hx⟩
    ·rw [zCt e];refine ⟨fun ⟨u,e1,_⟩=>by (cases e1),fun hx=>?_⟩;injection hx with hx _
     exact absurd hx e
   ·have:l=0:=by omega
    subst this;rw [zB3 rfl,zCt hl,←Tw h1 m d 0 h'];exact ⟨fun ⟨u,e1,e2⟩=>by cases e1;exact e2,fun h=>⟨_,rfl,h⟩⟩
theorem oZ (S:Sv q c g) (h1: ∀ x∈c.runs,1<=x) (hk:c.kind=5):B2 q c g↔CR q c (AW g)/\ ∀ a,a<c.cells.length -> ¬ BT q c (AW g) a (AN c g a):=by
 have key:=Tw (b:=fun a=>tb c.set (AN c g a)) h1 c.cells.length 0 0 ⟨zDZ _,by omega,zDZ _,fun h=>by omega⟩;refine Uz (M:=rl (fun a=>tb c.set (AN c g a)) c.cells.length c.cells.length 0=c.runs) (A:=I3 c=true) (B:=RY c (fun a=>tb c.set (AN c g a)) c.cells.length (0,0)) hk ?_ ?_ (fun a ha=>?_) ?_
 ·unfold B2;rw [hk];simp
 ·unfold CR;rw [hk];simp
 ·have e:BT q c (AW g) a (AN c g a)↔IK c (AW g) a (AN c g a):=by unfold BT;rw [hk];simp
  rw [e];unfold IK;rw [lV S ha,lV S ha];cases tb c.set (AN c g a) <;> simp
 ·rw [key];unfold I3
  show _↔_/\ (_ -> rl _ _ _ _=c.runs.drop 0)
  rw [zEt];rcases zEJ c.cells.length with e | e
  ·rw [e]
   show ([]:List Int)=c.runs↔(c.runs.length==0)=true/\ _
   rw [zDB,List.length_eq_zero_iff];exact ⟨fun h=>⟨h.symm,fun h=>absurd h (Nat.lt_irrefl 0)⟩,fun h=>h.1.symm⟩
  ·rw [zDz.2 (by omega:c.cells.length≠0)];exact ⟨fun h=>⟨rfl,fun _=>h⟩,fun h=>h.2 e⟩
theorem Xi (S:Sv q c g):pB c (AW g)=B9 c g/\ cB c (AW g)=B9 c g:=by
 have h: ∀ s∈g,s.toNat<64:=fun s hs=>by
  obtain ⟨j,hj,rfl⟩:=zDq hs;have:=S.G.lt S.v hj;rw [u8,zAe hj] at this;have:g[j].toNat<16:=this.2;omega
 unfold pB cB B9 AW;rw [List.map_map,List.map_map];exact ⟨List.map_congr_left fun s hs=>UY (h s hs) _,List.map_congr_left fun s hs=>UX (h s hs) _⟩
theorem mS (W:Ec c q (AW g)) {a:Nat} (ha:a<g.length):AN c g a=(g.getD a 0).toNat:=by
 unfold AN;rw [W.id a (by rw [Dr];exact ha),zCi]
theorem kW (S:Sv q c g) (W:Ec c q (AW g)):(∀ a,a<c.cells.length -> ¬ E3 c q (AW g) a (AN c g a))↔HN q.nbrs (B9 c g):=by
 obtain ⟨m1,m2⟩:=Xi S;have hl:=W.len;have DQ:=W.gl;have hG:=W.g.gr;rw [Dr] at hl DQ;unfold E3;rw [m1,m2];constructor
 ·intro h u v hu hv mu mv;obtain ⟨r,_,hr⟩:=Ri (l:=B9 c g) (by rw [OX];have:=W.l1;rw [Dr] at this;exact this);have Cy:=hr;rcases hr with ⟨_,h0⟩ | ⟨h0,h1,h2,_⟩
  ·have:=h0 u (by rw [OX];omega);rw [mu] at this;cases this
  ·rw [OX] at h1;have go: ∀ w:Nat,w<q.nbrs.length -> (B9 c g).getD w false=true -> Rc q.nbrs (B9 c g) r w:=fun w hw mw=>Classical.byContradiction fun hn=>h w (by omega) ⟨mw,by rw [mS W (by omega),←Yi (by omega)];exact mw,r,h0,Cy,hn⟩
   exact ((go u hu mu).symm hG h0 (by omega) h2).trans (go v hv mv)
 ·rintro h a ha ⟨h1,_,r,h0,hr,hn⟩;rcases hr with ⟨e,_⟩ | ⟨_,r1,r2,_⟩
  ·omega
  ·rw [OX] at r1;have:=h r.toNat a (by omega) (by omega) r2 h1;rw [show ((r.toNat:Nat):Int)=r by omega] at this;exact hn this
theorem ou (S:Sv q c g) (W:Ec c q (AW g)) (hk:c.kind=8):B2 q c g↔CR q c (AW g)/\ ∀ a,a<c.cells.length -> ¬ BT q c (AW g) a (AN c g a):=by
 obtain ⟨m1,m2⟩:=Xi S;have hM:B2 q c g↔HN q.nbrs (B9 c g):=by unfold B2;rw [hk];simp
 have hO:CR q c (AW g):=by unfold CR;rw [hk];simp
 rw [hM,←kW S W,and_iff_right hO];refine zEl fun a=>zEl fun ha=>not_congr ?_
 have e:BT q c (AW g) a (AN c g a)↔HH c q (AW g) a (AN c g a):=by unfold BT;rw [hk];simp
 rw [e];unfold HH;refine ⟨.inl,fun h=>h.elim id fun ⟨h1,h2,_⟩=>?_⟩;rw [m1] at h1;rw [m2,h1] at h2;cases h2
theorem og (S:Sv q c g) (W:Ec c q (AW g)) (hk:c.kind=9):B2 q c g↔CR q c (AW g)/\ ∀ a,a<c.cells.length -> ¬ BT q c (AW g) a (AN c g a):=by
 obtain ⟨m1,m2⟩:=Xi S;have hl:=W.len;rw [Dr] at hl;have hM:B2 q c g↔HN q.nbrs (B9 c g)/\ ∀ v,v<g.length -> (B9 c g).getD v false=true -> CI q.nbrs (B9 c g) v=2:=by unfold B2;rw [hk];simp
 have hO:CR q c (AW g)↔∀ v,v<g.length -> (B9 c g).getD v false=true -> CI q.nbrs (B9 c g) v=2:=by
  have:CR q c (AW g)↔Mp c q (AW g):=by unfold CR;rw [hk];simp
  rw [this];unfold Mp;rw [m1,m2,Dr];refine zEl fun v=>zEl fun _=>zEl fun _=>by omega
 rw [hM,hO,←kW S W,and_comm];refine and_congr Iff.rfl (zEl fun a=>zEl fun ha=>not_congr ?_);have e:BT q c (AW g) a (AN c g a)↔LM c q (AW g) a (AN c g a):=by unfold BT;rw [hk];simp
 rw [e];unfold LM Yh;refine ⟨.inl,fun h=>h.elim id ?_⟩;rintro ⟨v,_,_,_,h1,⟨_,h2⟩ | ⟨_,h2,_⟩⟩
 ·rw [m1,Yi (by omega),←mS W (by omega),h2] at h1;cases h1
 ·rw [m1] at h1;rw [m2,h1] at h2;cases h2
theorem gy (C:BW q i (AW g)) (G:Gd q g):(B2 q (con q i) g -> E8 q (con q i) (AW g)/\ PR q (con q i) (AW g) (AW g))/\ (¬ B2 q (con q i) g -> ¬ E8 q (con q i) (AW g)):=by
 have S:=C.sv G;have hd:B0 (AW g)=false:=FN.2 S.nz;refine oh S ?_;rcases LN (Mt C.kind) with hk | hk | hk | hk | hk | hk | hk | hk | hk
 ·exact om S hk
 ·exact oq S hk
 ·exact oY S C.vals hk
 ·exact oa S C.work C.vals hk
 ·refine oZ S (fun x hx=>?_) hk;have h:=C.fine;unfold DE at h;simp only [zCp,zCw] at h;exact (Pu.1 h.2 x hx).1
 ·exact oz S (C.two (.inl hk)) hk
 ·exact oc S (C.two (.inr hk)) hk
 ·exact ou S (C.all (.inl hk) hd) hk
 ·exact og S (C.all (.inr hk) hd) hk
end
end Go.Proofs.YtgkhhfnhacibcaaGreatDoor
namespace Go.Proofs.YtgkhhfnhacibcaaGreatDoor
open Go.RowKit
section
variable {g:List (List Int)} {inn:List Bool}
def zCo (g:List (List Int)) (inn:List Bool) (r:List (List Int)×Int):Prop:=r.2=0/\ (r.1.length=0↔∀ v,v<g.length -> inn.getD v false=false)/\ (r.1.length<=1↔HN g inn)
theorem YG {part:List Int} {Bq:Int} (h:Pt g inn g.length part Bq):(Bq=0↔∀ v,v<g.length -> inn.getD v false=false)/\ (Bq<=1↔HN g inn):=by
 have m0:=h.m0;constructor
 ·constructor
  ·intro e v hv;cases hb:inn.getD v false with
   | false=>rfl
   | true=>
    have:=h.all v hv hv hb;have:=(h.lo v hv).2;omega
  ·intro hn;refine Classical.byContradiction fun AY=>?_
   obtain ⟨v,h1,h2⟩:=h.sur 1 (by decide) (by omega);have:=h.isIn v h1 (by omega);rw [hn v h1] at this;cases this
 ·constructor
  ·intro e u v hu hv mu mv;have a1:=h.all u hu hu mu;have a2:=h.all v hv hv mv;have b1:=(h.lo u hu).2;have b2:=(h.lo v hv).2;exact h.con u v hu hv a1 (by omega)
  ·intro hC;refine Classical.byContradiction fun AY=>?_
   obtain ⟨u,u1,u2⟩:=h.sur 1 (by decide) (by omega);obtain ⟨v,v1,v2⟩:=h.sur 2 (by decide) (by omega);have:=h.same u v u1 v1 (by omega) (hC u v u1 v1 (h.isIn u u1 (by omega)) (h.isIn v v1 (by omega)));omega
theorem bH (G:Gr g) {part:List Int} {Bq:Int} (hP:Pt g inn g.length part Bq): ∀ (k j:Nat) (o:List (List Int)) (n:Nat),j+k=part.length -> o.length=Bq.toNat -> (∀ r,(o.getD r default).length<=j) -> k+1<=n ->
 ∃ o',KY g inn n (.l1 Bq.toNat part (part.length:Int) (j:Int) o)=some (o',0)/\ o'.length=Bq.toNat
 | 0,j,o,n,e,ho,hr,hn=>by
  obtain ⟨n,rfl⟩: ∃ k,n=k+1:=⟨n-1,by omega⟩;refine ⟨o,?_,ho⟩
  show NV n (KY g inn n) g inn Bq.toNat part (part.length:Int) (j:Int) o=_
  unfold NV;rw [zAZ (by omega),zAc,zB3 ho.symm]
 | k+1,j,o,n,e,ho,hr,hn=>by
  obtain ⟨n,rfl⟩: ∃ k,n=k+1:=⟨n-1,by omega⟩;have Ah:=hP.len;have hG:=G.len;have hlo:=hP.lo j (by omega);have L:(1000000000000:Nat)=BE:=rfl;have r1:AI ((j:Int)+1):=An.2 ⟨by omega,by omega⟩;have hm:=hP.m1
  by_cases h0:part.getD j 0>0
  ·have hrj:=hr (0+(part.getD j 0-1).toNat)
   have key:=bH G hP k (j+1) (o.set (0+(part.getD j 0-1).toNat) (o.getD (0+(part.getD j 0-1).toNat) default++[(j:Int)])) n (by omega) (by rw [zDE];exact ho) (fun r=>by
    by_cases er:0+(part.getD j 0-1).toNat=r
    ·subst er;rw [u8,zDs (by omega),zEB,zDC,zDM];omega
    ·have:=hr r;rw [u8,zDi er,←u8];omega) (by omega)
   obtain ⟨o',h1,h2⟩:=key;refine ⟨o',?_,h2⟩;rw [←h1]
   show NV n (KY g inn n) g inn Bq.toNat part (part.length:Int) (j:Int) o=_
   unfold NV;rw [zCm (by omega),zCk,zB3 ⟨by omega,by omega⟩,zCi,zCm h0,zCk,zB3 ⟨An.2 ⟨by omega,by omega⟩,⟨by omega,by omega⟩,by omega,by rw [zDM,←L];omega,r1⟩,show ((j+1:Nat):Int)=(j:Int)+1 by omega]
  ·obtain ⟨o',h1,h2⟩:=bH G hP k (j+1) o n (by omega) ho (fun r=>by have:=hr r;omega) (by omega);refine ⟨o',?_,h2⟩;rw [←h1]
   show NV n (KY g inn n) g inn Bq.toNat part (part.length:Int) (j:Int) o=_
   unfold NV;rw [zCm (by omega),zCk,zB3 ⟨by omega,by omega⟩,zCi,zAZ h0,zAc,zB3 r1,show ((j+1:Nat):Int)=(j:Int)+1 by omega]
theorem zBV (G:H6 g) (hI:inn.length=g.length):Ad (fun n=>Wh n g inn) (zCo g inn):=by
 have hG:=G.gr.len;have h0:=Vz G (sets:=[inn]) (fun x hx=>by rw [zC2] at hx;rw [hx,hI]) (by simp);refine Ad.bind h0 (b:=fun n y1=>bif (y1 != 0) then some (([]:List (List Int)),y1) else (parts n g inn).bind fun y2=>if (y2.2:Int)=y2.2/\ 0<=y2.2/\ (y2.2:Int)<=1000000000000 then KY g inn n (.l1 y2.2.toNat y2.1 (y2.1.length:Int) 0 (List.replicate y2.2.toNat [])) else none) ?_;refine Ad.bindU (YO G.gr hI) (b:=fun n y2=>if (y2.2:Int)=y2.2/\ 0<=y2.2/\ (y2.2:Int)<=1000000000000 then KY g inn n (.l1 y2.2.toNat y2.1 (y2.1.length:Int) 0 (List.replicate y2.2.toNat [])) else none) ⟨g.length+1,fun n hn r hP=>?_⟩;obtain ⟨part,Bq⟩:=r;have hP:Pt g inn g.length part Bq:=hP;have m0:=hP.m0;have m1:=hP.m1;have Ah:=hP.len
 obtain ⟨o',h1,h2⟩:=bH G.gr hP part.length 0 (List.replicate Bq.toNat []) n (by omega) zC0 (fun r=>by
  rw [u8,zDc];split <;> exact zC6 0) (by omega)
 refine ⟨(o',0),?_,rfl,?_,?_⟩
 ·rw [zB3 ⟨rfl,m0,by show Bq<=_;omega⟩];exact h1
 ·rw [←(YG hP).1,h2];omega
 ·rw [←(YG hP).2,h2];omega
/-! ### Rings-/
theorem uA (G:H6 g) {v:Nat} (hv:v<g.length):(nb g v).Pairwise (· < ·)/\ (v:Int)∉nb g v:=by
 have h:=G.ok;unfold Hu at h;rw [zCp,zCs] at h;have hr:=h.2 v (zCy.2 hv);unfold Gv at hr;rw [zCs] at hr;have e:nb g v=g.getD v []:=by unfold nb;rw [zCi]
 rw [e]
 generalize g.getD v []=l at hr
 have Ba: ∀ k,k<l.length -> l.getD k 0≠v/\ (0<k -> l.getD (k-1) 0<l.getD k 0):=fun k hk=>by
  have:=hr k (zCy.2 hk);unfold Ey at this;simp only [zCp,zDz,ne_eq,zC7,zDT,zDo,zCw] at this;exact ⟨this.1.1.2,fun h=>this.1.2.resolve_left fun hn=>hn h⟩
 have vw: ∀ d i,i+d+1<l.length -> l.getD i 0<l.getD (i+d+1) 0:=by
  intro d
  induction d with
  | zero=>intro i hi;exact (Ba (i+1) hi).2 (by omega)
  | succ d ih=>
   intro i hi;have h1:=ih i (by omega);have h2:=(Ba (i+(d+1)+1) hi).2 (by omega);rw [show i+(d+1)+1-1=i+d+1 by omega] at h2;omega
 constructor
 ·rw [zE4];intro i j hi hj O1;have:=vw (j-i-1) i (by omega);rw [show i+(j-i-1)+1=j by omega] at this;simpa [u8,hi,hj] using this
 ·intro hm;obtain ⟨k,hk,e⟩:=zDq hm;refine (Ba k hk).1 ?_;rw [u8,zAe hk];exact e
theorem nm (G:H6 g) {v:Nat} (hv:v<g.length) (mv:inn.getD v false=true) (hd:CI g inn v=2):3<=(List.range g.length).countP fun x=>inn.getD x false:=by
 obtain ⟨hs,hn⟩:=uA G hv;have hr:=G.gr.rng v (by omega) (by omega);have dP:((nb g v).filter fun x=>inn.getD x.toNat false).length=2:=by rw [←List.countP_eq_length_filter];exact hd
 have Ho:=hs.filter (fun x=>inn.getD x.toNat false);have hm: ∀ x∈(nb g v).filter fun x=>inn.getD x.toNat false,x∈nb g v/\ inn.getD x.toNat false=true:=fun x hx=>zEG.1 hx
 generalize ((nb g v).filter fun x=>inn.getD x.toNat false)=F at dP Ho hm
 match F,dP with
 | [x,y],_=>
  have VW:x<y:=by
   rw [zFB] at Ho;exact Ho.1 y (by simp)
  obtain ⟨x1,x2⟩:=hm x (by simp);obtain ⟨y1,y2⟩:=hm y (by simp);have xr:=hr x x1;have yr:=hr y y1;have xv:x≠v:=fun e=>hn (e▸x1)
  have yv:y≠v:=fun e=>hn (e▸y1)
  have a1:=Ln (f:=fun z=>inn.getD z false&&!(z==v)) (g:=fun z=>inn.getD z false) (a:=v) (by simp) mv (List.range g.length) (fun z _ hz=>by rw [zCp] at hz;exact hz.1) (zCy.2 hv);have a2:=Ln (f:=fun z=>(inn.getD z false&&!(z==v))&&!(z==x.toNat)) (g:=fun z=>inn.getD z false&&!(z==v)) (a:=x.toNat) (by simp) (by rw [x2];simp;omega) (List.range g.length) (fun z _ hz=>by rw [zCp] at hz;exact hz.1) (zCy.2 (by omega));have a3:=Ln (f:=fun z=>((inn.getD z false&&!(z==v))&&!(z==x.toNat))&&!(z==y.toNat)) (g:=fun z=>(inn.getD z false&&!(z==v))&&!(z==x.toNat)) (a:=y.toNat) (by simp) (by rw [y2];simp;omega) (List.range g.length) (fun z _ hz=>by rw [zCp] at hz;exact hz.1) (zCy.2 (by omega));omega
def mm (g:List (List Int)) (inn:List Bool) (r:Bool×Int):Prop:=r.2=0/\ (r.1=true↔(∀ v,v<g.length -> inn.getD v false=true -> CI g inn v=2)/\ (∃ v,v<g.length/\ inn.getD v false=true)/\ HN g inn)
theorem fO (hI:inn.length=g.length) {x6 x23:Int} {row:List Int} (hr: ∀ u∈row,0<=u/\ u<(g.length:Int)) (hl:row.length<=256): ∀ (k j:Nat),j+k=row.length -> Aw (Gx g inn) (.l2 x6 (((row.take j).countP fun x=>inn.getD x.toNat false:Nat):Int) x23 row (row.length:Int) (j:Int)) (.l2 x6 ((row.countP fun x=>inn.getD x.toNat false:Nat):Int) x23 row (row.length:Int) (row.length:Int))
 | 0,j,e=>by
  have:j=row.length:=by omega
  subst this;rw [List.take_length];exact Aw.refl
 | k+1,j,e=>by
  have hj:j<row.length:=by omega
  have hm:=hr (row.getD j 0) (by rw [u8,zAe hj];exact zC5 hj);have hc:=zEo (p:=fun x:Int=>inn.getD x.toNat false) (l:=row.take j);rw [List.length_take] at hc;have tk:row.take (j+1)=row.take j++[row.getD j 0]:=by rw [zDv hj];simp [hj]
  have ih:=fO hI (x6:=x6) (x23:=x23) hr hl k (j+1) (by omega);rw [tk,List.countP_append,zFM] at ih;refine Aw.trans (Aw.one fun n=>?_) ih
  show MN n (Gx g inn n) g inn x6 _ x23 row (row.length:Int) (j:Int)=_
  unfold MN;rw [zCm (by omega),zCk,zCi,zB3 ⟨⟨by omega,by omega⟩,hm.1,by omega⟩,show ((j+1:Nat):Int)=(j:Int)+1 by omega];cases inn.getD (row.getD j 0).toNat false
  ·rw [zAc,zB3 (An.2 ⟨by omega,by omega⟩)];simp
  ·rw [zCk,zB3 ⟨An.2 ⟨by omega,by omega⟩,An.2 ⟨by omega,by omega⟩⟩];simp
theorem X4 (G:H6 g) (hI:inn.length=g.length): ∀ (k v:Nat),v+k=g.length -> (∀ u,u<v -> inn.getD u false=true -> CI g inn u=2) -> Ad (fun n=>Gx g inn n (.l1 (((List.range v).countP fun x=>inn.getD x false:Nat):Int) (v:Int))) (mm g inn)
 | 0,v,e,hd=>by
  have:v=g.length:=by omega
  subst this;refine Ad.step 1 (g:=fun n=>(parts n g inn).bind fun y1=>bif decide ((((List.range g.length).countP fun x=>inn.getD x false:Nat):Int)>=3) then some ((y1.2==1),(0:Int)) else some (false,0)) (fun n=>?_) ?_
  ·show MP n (Gx g inn n) g inn _ (g.length:Int)=_
   unfold MP;rw [zAZ (by omega),zAc]
  ·refine Ad.bindU (YO G.gr hI) (b:=fun n y1=>bif decide ((((List.range g.length).countP fun x=>inn.getD x false:Nat):Int)>=3) then some ((y1.2==1),(0:Int)) else some (false,0)) ⟨0,fun n _ r hP=>?_⟩;obtain ⟨part,Bq⟩:=r;obtain ⟨p1,p2⟩:=YG hP;have m0:=hP.m0
   by_cases h3:(((List.range g.length).countP fun x=>inn.getD x false:Nat):Int)>=3
   ·rw [zCm h3,zCk];refine ⟨_,rfl,rfl,?_⟩
    show (Bq==1)=true↔_
    rw [zDB];constructor
    ·intro e1;refine ⟨hd,?_,p2.1 (by omega)⟩;refine Classical.byContradiction fun hn=>?_
     have:=p1.2 fun v hv=>by
      cases hb:inn.getD v false with
      | false=>rfl
      | true=>exact absurd ⟨v,hv,hb⟩ hn
     have m0:0<=Bq:=m0;have:Bq=0:=this;omega
    ·rintro ⟨_,⟨v,hv,mv⟩,hC⟩;have h1:=p2.2 hC
     have h0: ¬ Bq=0:=fun e=>by
      have:=p1.1 e v hv;rw [mv] at this;cases this
     have m0:0<=Bq:=m0;have h1:Bq<=1:=h1;omega
   ·rw [zAZ h3,zAc];refine ⟨_,rfl,rfl,?_⟩;refine zEi (by decide) ?_;rintro ⟨yz,⟨v,hv,mv⟩,_⟩;have:=nm G hv mv (yz v hv mv);omega
 | k+1,v,e,hd=>by
  have hv:v<g.length:=by omega
  have hG:=G.gr.len;have r1:AI ((v:Int)+1):=An.2 ⟨by omega,by omega⟩
  have ec:(((List.range (v+1)).countP fun x=>inn.getD x false:Nat):Int)=(((List.range v).countP fun x=>inn.getD x false:Nat):Int)+(if inn.getD v false then 1 else 0):=by
   rw [List.range_succ,List.countP_append,zFM];split <;> simp
  have BQ:=zEo (p:=fun x=>inn.getD x false) (l:=List.range v);rw [zEM] at BQ;cases hb:inn.getD v false with
  | false=>
   have ih:=X4 G hI k (v+1) (by omega) fun u hu mu=>by
    rcases zCx.1 hu with hu | rfl
    ·exact hd u hu mu
    ·rw [hb] at mu;cases mu
   rw [ec,hb] at ih;refine Aw.pev (Aw.one fun n=>?_) ih
   show MP n (Gx g inn n) g inn _ (v:Int)=_
   unfold MP;rw [zCm (by omega),zCk,zB3 ⟨⟨by omega,by omega⟩,by omega,by omega⟩,zCi,hb,zDd,zCk,zB3 r1,show ((v+1:Nat):Int)=(v:Int)+1 by omega];simp
  | true=>
   have M5:=G.gr.row v (by omega) (by omega);have Oq:=G.gr.rng v (by omega) (by omega);have en:nb g v=g.getD v []:=by unfold nb;rw [zCi]
   refine Aw.pev (Aw.one (b:=.l2 ((((List.range v).countP fun x=>inn.getD x false:Nat):Int)+1) 0 (v:Int) (nb g v) ((nb g v).length:Int) 0) fun n=>?_) ?_
   ·show MP n (Gx g inn n) g inn _ (v:Int)=_
    unfold MP;rw [zCm (by omega),zCk,zB3 ⟨⟨by omega,by omega⟩,by omega,by omega⟩,zCi,hb,zDR,zAc,zB3 (An.2 ⟨by omega,by omega⟩),en]
   ·have jm:=fO hI (x6:=(((List.range v).countP fun x=>inn.getD x false:Nat):Int)+1) (x23:=(v:Int)) Oq M5 (nb g v).length 0 (by omega);rw [List.take_zero,List.countP_nil] at jm;refine Aw.pev jm ?_
    by_cases h2:CI g inn v=2
    ·have ih:=X4 G hI k (v+1) (by omega) fun u hu mu=>by
      rcases zCx.1 hu with hu | rfl
      ·exact hd u hu mu
      ·exact h2
     rw [ec,hb,zB3 rfl] at ih;refine Aw.pev (Aw.one fun n=>?_) ih
     show MN n (Gx g inn n) g inn _ ((CI g inn v:Nat):Int) (v:Int) (nb g v) ((nb g v).length:Int) ((nb g v).length:Int)=_
     unfold MN;rw [zAZ (by omega),zAc,h2]
     show (if AI ((v:Int)+1) then _ else _)=_
     rw [zB3 r1,show ((v+1:Nat):Int)=(v:Int)+1 by omega]
    ·refine Ev.p (Ev.one (r:=(false,0)) fun n=>?_) ⟨rfl,zEi (by decide) fun h=>h2 (h.1 v hv hb)⟩
     show MN n (Gx g inn n) g inn _ ((CI g inn v:Nat):Int) (v:Int) (nb g v) ((nb g v).length:Int) ((nb g v).length:Int)=_
     unfold MN;rw [zAZ (by omega),zAc,zDz.2 (by omega:((CI g inn v:Nat):Int)≠2),zCk]
theorem ra (G:H6 g) (hI:inn.length=g.length):Ad (fun n=>OG n g inn) (mm g inn):=by
 have h0:=Vz G (sets:=[inn]) (fun x hx=>by rw [zC2] at hx;rw [hx,hI]) (by simp);refine Ad.bind h0 (b:=fun n y1=>bif (y1 != 0) then some (false,y1) else Gx g inn n (.l1 0 0)) ?_;exact X4 G hI g.length 0 (by omega) fun u hu=>absurd hu (zCz u)
end
end Go.Proofs.YtgkhhfnhacibcaaGreatDoor
namespace Go.Proofs.YtgkhhfnhacibcaaGreatDoor
open Go.RowKit
structure BF (q:AA) (p:List Int):Prop where
 fit:CW q
 valid:Bp q=true
 ok:posOk q p=true
def Le (a b:List Int):Prop:=∀ j s,tb (a.getD j 0) s=true -> tb (b.getD j 0) s=true
def Up (q:AA) (level:Int) (i:Int):Prop:=0<=i/\ i<(q.cons.length:Int)/\ GZ (con q i).kind<=level
def Kg (q:AA) (U:Int -> Prop) (p:List Int):Prop:=∀ i,U i -> PR q (con q i) p p
inductive DK (q:AA) (U:Int -> Prop):List Int -> List Int -> Prop
 | refl (p:List Int):DK q U p p
 | step {p x y:List Int} {i:Int}:U i -> PR q (con q i) p x -> DK q U x y -> DK q U p y
section
variable {q:AA} {U:Int -> Prop} {p x y z:List Int} {i level:Int}
theorem BF.ctx (h:BF q p) (h0:0<=i) (h1:i<(q.cons.length:Int)):BW q i p:=⟨h.fit,h.valid,h0,h1,h.ok⟩
theorem BF.len (h:BF q p):(p.length:Int)=q.cells:=((Qy h.valid).1 h.ok).1
theorem BF.sm (h:BF q p): ∀ j,j<p.length -> Sm q.symbols.toNat (p.getD j 0):=((Qy h.valid).1 h.ok).2
theorem BF.k (h:BF q p):q.symbols.toNat<=16:=by have:=(DX h.valid).2.1;omega
theorem BF.len256 (h:BF q p):0<p.length/\ p.length<=256:=by
 have h1:=(DX h.valid).1;have:=h.len;omega
theorem BF.in64 (h:BF q p) (j:Nat):B4 (p.getD j 0):=by
 by_cases hj:j<p.length
 ·exact (h.sm j hj).in64 (by have:=h.k;omega)
 ·rw [u8,zDO (by omega)];exact ⟨by decide,by decide⟩
theorem BF.pr (h:BF q p) (h0:0<=i) (h1:i<(q.cons.length:Int)) (hx:PR q (con q i) p x):BF q x:=⟨h.fit,h.valid,hx.posOk (h.ctx h0 h1)⟩
theorem BF.eqlen (h:BF q p) (h':BF q x):x.length=p.length:=by have:=h.len;have:=h'.len;omega
theorem Le.refl (a:List Int):Le a a:=fun _ _ h=>h
theorem Le.trans (h:Le x y) (h':Le y z):Le x z:=fun j s hs=>h' j s (h j s hs)
theorem Le.eq (hx:BF q x) (hy:BF q y) (h:Le x y) (h':Le y x):x=y:=by
 have e:x.length=y.length:=hy.eqlen hx;refine zEK e fun j h1 h2=>?_
 have e1:x.getD j 0=x[j]:=by simp [h1]
 have e2:y.getD j 0=y[j]:=by simp [h2]
 rw [←e1,←e2];refine Ji (hx.in64 j) (hy.in64 j) fun s _=>?_
 rw [zDp];exact ⟨h j s,h' j s⟩
theorem PR.le {c:AB} (h:PR q c p x):Le x p:=fun _ _ hs=>(h.sub hs).2
theorem DK.pos (hU: ∀ i,U i -> 0<=i/\ i<(q.cons.length:Int)) (hd:DK q U p y):BF q p -> BF q y:=by
 induction hd with
 | refl p=>exact id
 | step hi hx _ ih=>exact fun h=>ih (h.pr (hU _ hi).1 (hU _ hi).2 hx)
theorem DK.le (hd:DK q U p y):Le y p:=by
 induction hd with
 | refl p=>exact Le.refl p
 | step hi hx _ ih=>exact ih.trans hx.le
theorem DK.trans (h:DK q U p x) (h':DK q U x y):DK q U p y:=by
 induction h with
 | refl p=>exact h'
 | step hi hx _ ih=>exact .step hi hx (ih h')
theorem DK.one (hi:U i) (hx:PR q (con q i) p x):DK q U p x:=.step hi hx (.refl x)
theorem DK.above (hU: ∀ i,U i -> 0<=i/\ i<(q.cons.length:Int)) (hd:DK q U p y):BF q p -> BF q z -> Le z p -> Kg q U z -> Le z y:=by
 induction hd with
 | refl p=>exact fun _ _ h _=>h
 | step hi hx _ ih=>
  intro hp hz Bx hf;obtain ⟨h0,h1⟩:=hU _ hi;exact ih (hp.pr h0 h1 hx) hz (sk (hp.ctx h0 h1) (hz.ctx h0 h1) Bx hx (hf _ hi)) hf
theorem DK.uniq (hU: ∀ i,U i -> 0<=i/\ i<(q.cons.length:Int)) (hp:BF q p) (hx:DK q U p x) (hy:DK q U p y) (fx:Kg q U x) (fy:Kg q U y):x=y:=
 Le.eq (hx.pos hU hp) (hy.pos hU hp) (hy.above hU hp (hx.pos hU hp) hx.le fx) (hx.above hU hp (hy.pos hU hp) hy.le fy)
theorem TT (i:Int) (h:Up q level i):0<=i/\ i<(q.cons.length:Int):=⟨h.1,h.2.1⟩
theorem fj {c:AB} {m:Nat} (hm:0<m):PR q c (List.replicate m 0) (List.replicate m 0):=by
 refine ⟨rfl,fun hA=>?_,fun _=>by simp⟩;have:=hA.nz 0 (by simpa using hm);exact absurd (L4 (pos:=List.replicate m 0) 0) (by simpa [zC0] using this)
theorem kO {m:Nat} (hm:0<m):Kg q U (List.replicate m 0):=fun _ _=>fj hm
theorem PR.zero {c:AB} (h:PR q c p x) (hd:B0 x=true):x=List.replicate p.length 0:=by
 refine Classical.byContradiction fun AY=>?_
 have hA:E8 q c p:=Classical.byContradiction fun hA=>AY (h.dead hA)
 have: ¬ B0 x=false:=by rw [hd];exact fun h=>by cases h
 refine this (FN.2 fun j hj=>?_);have A3:j<p.length:=by rw [←h.len];exact hj
 obtain ⟨s,h1,h2,h3⟩:=hA.left j A3;exact (D6 (h.live hA j A3).1).2 ⟨s,h1,((h.live hA j A3).2 s).2 ⟨h2,h3⟩⟩
def wt (p:List Int):Nat:=(List.range (64*p.length)).countP fun k=>tb (p.getD (k/64) 0) (k % 64)
theorem m5 (hx:BF q x) (hp:BF q p) (h:Le x p) (AY:x≠p):wt x+1<=wt p:=by
 have e:x.length=p.length:=hp.eqlen hx
 obtain ⟨j,s,hj,hs,h1,h2⟩: ∃ j s:Nat,j<p.length/\ s<64/\ tb (x.getD j 0) s=false/\ tb (p.getD j 0) s=true:=by
  refine Classical.byContradiction fun hn=>AY (Le.eq hx hp h fun j s hs=>?_)
  have wj:s<64:=zDS fun h=>by rw [H9 h] at hs;cases hs
  have hj:j<p.length:=zDS fun Bx=>by
   rw [u8,zDO Bx] at hs;exact Gp hs
  cases hb:tb (x.getD j 0) s with
  | true=>rfl
  | false=>exact absurd ⟨j,s,hj,wj,hb,hs⟩ hn
 unfold wt;rw [e];have ej:(64*j+s)/64=j:=by omega
 have es:(64*j+s) % 64=s:=by omega
 refine Ln (a:=64*j+s) (by rw [ej,es];exact h1) (by rw [ej,es];exact h2) _ (fun k _ hk=>h _ _ hk) (zCy.2 (by omega))
end
end Go.Proofs.YtgkhhfnhacibcaaGreatDoor
namespace Go.Proofs.YtgkhhfnhacibcaaGreatDoor
open Go.RowKit
set_option maxRecDepth 100000
set_option maxHeartbeats 40000000
end Go.Proofs.YtgkhhfnhacibcaaGreatDoor
namespace Go.Proofs.YtgkhhfnhacibcaaGreatDoor
open Go.RowKit
set_option maxRecDepth 100000
set_option maxHeartbeats 40000000
theorem pa:At (BA Tryz.f36 9) [] (List.range 16) []:=by unfold At;kernel_rfl
def MG:Bb:=fun i=>match i with
 | 9=>.ord [] (List.range 16) []
 | _=>.no
inductive T4 where
 | l1 (x6:Int)
def QZ (n:Nat) (self:T4 -> Option Int) (q:AA) (pos:List Int) (x6:Int):Option Int:=
 bif (decide (x6<(pos.length:Int))) then
  if 0<=x6/\ x6<(pos.length:Int) then
   bif (decide ((pos.getD ((x6).toNat) 0)<0)) then
    some 250
   else
    if 0<=IntKind.u64.wrap q.symbols/\ IntKind.u64.wrap q.symbols<=(IntKind.i64.bits:Int) then
     bif (decide ((pos.getD ((x6).toNat) 0)>=(IntKind.i64.wrap (1*2 ^ (IntKind.u64.wrap q.symbols).toNat)))) then
      some 250
     else
      if AI (x6+1) then
       self (.l1 (x6+1))
      else none
    else none
  else none
 else
  some 0
def ea (n:Nat) (self:T4 -> Option Int) (q:AA) (pos:List Int):Option Int:=
 (QR n q).bind fun y1=>
  bif (y1 != 0) then
   some y1
  else
   bif ((pos.length:Int) != q.cells) then
    some 250
   else
    self (.l1 0)
def ML (q:AA) (pos:List Int):Nat -> T4 -> Option Int
 | 0,_=>none
 | n+1,.l1 x6=>QZ n (ML q pos n) q pos x6
def T5 (n:Nat) (q:AA) (pos:List Int):Option Int:=ea n (ML q pos n) q pos
def q9 (n B:Nat) (N:Yd 0) (q:AA) (pos:List Int) (r:Int):T4 -> Prop
 | .l1 x6=>∀ m0:Nat,n<=m0 -> TW B N (FQ Tryz.f36 0 (.i r) []) (Ak m0 (Au (AZ Tryz.f36) 0 [])) ⟨AM 39 [(1,.ints pos),(2,.ref 0 0),(6,.i x6)],[some (.cells (AD q))]⟩
theorem rA (B:Nat) (N:Yd 0) (q:AA) (pos:List Int):Al (ML q pos) (q9 · B N q pos):=ia (fun _=>rfl) fun n AG pt r h=>by
 cases pt
 case l1 x6=>
  intro m0 AC;refine rd AC fun m0 AC=>?_
  revert r;apply gO;exact bi 20 (jg pa (gn fun g0=>jg g0 (bi 27 (lE MG [4] []) (jg g0 (gi (bi 37 (lE MG [4] []) (gw 22 (lG MG [0] (AG _ _ · m0 AC))))))))) (lE MG [4] [])
theorem q7 {n:Nat} {q:AA} {pos:List Int} {r:Int} (h:T5 n q pos=some r):EQ 36 [.agg 5 (L1 (AD q)),.ints pos] [] (.i r) [] true:=by
 refine ot Tryz.func36 fun B N=>?_
 revert r;apply gO;exact cf eT [some (.cells (AD q))] fun _=>bi 10 (lE MG [4] []) (bi 16 (lE MG [4] []) (lN MG [0] ((rA B N q pos n) _ _ · n Nat.le.refl)))
end Go.Proofs.YtgkhhfnhacibcaaGreatDoor
namespace Go.Proofs.YtgkhhfnhacibcaaGreatDoor
open Go.RowKit
set_option maxRecDepth 100000
set_option maxHeartbeats 40000000
theorem pW:At (BA Tryz.f17 6) [] (List.range 9) []:=by unfold At;kernel_rfl
def QM:Bb:=fun i=>match i with
 | 6=>.ord [] (List.range 9) []
 | _=>.no
inductive Tv where
 | l1 (x5:Int)
def QQ (n:Nat) (self:Tv -> Option Bool) (a b_:List Int) (x5:Int):Option Bool:=
 bif (decide (x5<(a.length:Int))) then
  if (0<=x5/\ x5<(a.length:Int))/\ (0<=x5/\ x5<(b_.length:Int)) then
   bif ((a.getD ((x5).toNat) 0) != (b_.getD ((x5).toNat) 0)) then
    some false
   else
    if AI (x5+1) then
     self (.l1 (x5+1))
    else none
  else none
 else
  some true
def eK (n:Nat) (self:Tv -> Option Bool) (a b_:List Int):Option Bool:=
 bif ((a.length:Int) != (b_.length:Int)) then
  some false
 else
  self (.l1 0)
def N8 (a b_:List Int):Nat -> Tv -> Option Bool
 | 0,_=>none
 | n+1,.l1 x5=>QQ n (N8 a b_ n) a b_ x5
def Fn (n:Nat) (a b_:List Int):Option Bool:=eK n (N8 a b_ n) a b_
def pN (n B:Nat) (N:Yd 0) (a b_:List Int) (r:Bool):Tv -> Prop
 | .l1 x5=>∀ m0:Nat,n<=m0 -> TW B N (FQ Tryz.f17 0 (.bool r) []) (Ak m0 (Au (AZ Tryz.f17) 0 [])) ⟨AM 26 [(0,.ints a),(1,.ints b_),(5,.i x5)],[]⟩
theorem pO (B:Nat) (N:Yd 0) (a b_:List Int):Al (N8 a b_) (pN · B N a b_):=ia (fun _=>rfl) fun n AG pt r h=>by
 cases pt
 case l1 x5=>
  intro m0 AC;refine rd AC fun m0 AC=>?_
  revert r;apply gO;exact bi 14 (jg pW (gc (gi (gi (bi 25 (lE QM [4] []) (gw 16 (lG QM [] (AG _ _ · m0 AC)))))))) (lE QM [4] [])
theorem K0 {n:Nat} {a b_:List Int} {r:Bool} (h:Fn n a b_=some r):EQ 17 [.ints a,.ints b_] [] (.bool r) [] true:=by
 refine ot Tryz.func17 fun B N=>?_
 revert r;apply gO;exact bi 10 (lE QM [4] []) (lN QM [] ((pO B N a b_ n) _ _ · n Nat.le.refl))
def ar (n:Nat) (q:AA) (pos:List Int):Option Bool:=
 (SQ n q pos).bind fun y1=>
  bif y1 then
   some (decide ((q.cons.length:Int)<=100))
  else
   some false
def SP (n:Nat) (q:AA) (pos:List Int):Option Bool:=ar n q pos
theorem zAR {n:Nat} {q:AA} {pos:List Int} {r:Bool} (h:SP n q pos=some r):EQ 34 [.agg 5 (L1 (AD q)),.ints pos] [] (.bool r) [] true:=by
 unfold SP ar at h;refine ot Tryz.func34 fun B N=>?_
 revert r;apply gO;exact cf zAL [some (.cells (AD q))] fun _=>bi 7 (lE AE [4] []) (lE AE [4] [])
end Go.Proofs.YtgkhhfnhacibcaaGreatDoor
namespace Go.Proofs.YtgkhhfnhacibcaaGreatDoor
open Go.RowKit
set_option maxRecDepth 100000
set_option maxHeartbeats 40000000
inductive Nu where
 | l1 (Af:Int)
 | l2 (x4:Nat) (Af:Int) (o1:List Int)
def Pz (n:Nat) (self:Nu -> Option ((List Int))) (q:AA) (level:Int) (Af:Int):Option ((List Int)):=
 bif (decide (Af<(q.cons.length:Int))) then
  (Ms n q Af).bind fun y1=>
   bif (y1.2==0) then
    bif (decide (y1.1<=level)) then
     if ((0=0/\ 1=([Af]:List Int).length)/\ 0<([Af]:List Int).length/\ ([Af]:List Int).length<=BE)/\ AI (Af+1) then
      self (.l2 (([Af]:List Int).length) (Af+1) ([Af]:List Int))
     else none
    else
     if AI (Af+1) then
      self (.l1 (Af+1))
     else none
   else
    if AI (Af+1) then
     self (.l1 (Af+1))
    else none
 else
  some ([]:List Int)
def Py (n:Nat) (self:Nu -> Option ((List Int))) (q:AA) (level:Int) (x4:Nat) (Af:Int) (o1:List Int):Option ((List Int)):=
 bif (decide (Af<(q.cons.length:Int))) then
  (Ms n q Af).bind fun y1=>
   bif (y1.2==0) then
    bif (decide (y1.1<=level)) then
     if ((0=0/\ 1=([Af]:List Int).length)/\ (0=0/\ x4=o1.length)/\ o1.length+([Af]:List Int).length<=BE)/\ AI (Af+1) then
      self (.l2 (o1.length+([Af]:List Int).length) (Af+1) (o1++([Af]:List Int)))
     else none
    else
     if AI (Af+1) then
      self (.l2 x4 (Af+1) o1)
     else none
   else
    if AI (Af+1) then
     self (.l2 x4 (Af+1) o1)
    else none
 else
  if x4=o1.length then
   some o1
  else none
def nR (n:Nat) (self:Nu -> Option ((List Int))) (q:AA) (level:Int):Option ((List Int)):=
 self (.l1 0)
def GT (q:AA) (level:Int):Nat -> Nu -> Option ((List Int))
 | 0,_=>none
 | n+1,.l1 Af=>Pz n (GT q level n) q level Af
 | n+1,.l2 x4 Af o1=>Py n (GT q level n) q level x4 Af o1
def P0 (n:Nat) (q:AA) (level:Int):Option ((List Int)):=nR n (GT q level n) q level
def nS (n B:Nat) (N:Yd 0) (q:AA) (level:Int) (r:(List Int)):Nu -> Prop
 | .l1 Af=>∀ m0:Nat,n<=m0 -> TW B N (FQ Tryz.f38 0 (.ints r) []) (Ak m0 (Au (AZ Tryz.f38) 0 [])) ⟨AM 33 [(1,.i level),(2,.ref 0 0),(4,.nils),(10,.i (q.cons.length:Int)),(11,.i Af)],[some (.cells (AD q))]⟩
 | .l2 x4 Af o1=>∀ m0:Nat,n<=m0 -> TW B N (FQ Tryz.f38 0 (.ints r) []) (Ak m0 (Au (AZ Tryz.f38) 0 [])) ⟨AM 33 [(1,.i level),(2,.ref 0 0),(4,.msl 1 1 0 x4),(10,.i (q.cons.length:Int)),(11,.i Af)],[some (.cells (AD q)),some (.ints o1)]⟩
theorem nT (B:Nat) (N:Yd 0) (q:AA) (level:Int):Al (GT q level) (nS · B N q level):=ia (fun _=>rfl) fun n AG pt r h=>by
 cases pt
 case l1 Af=>
  intro m0 AC;refine rd AC fun m0 AC=>?_
  revert r;apply gO;exact bi 12 (cf Yv [some (.cells (AD q))] fun _=>bi 21 (bi 25 (gc (gi (gw 31 (lG AE [0,2] (AG _ _ · m0 AC))))) (gw 31 (lG AE [0] (AG _ _ · m0 AC)))) (gw 31 (lG AE [0] (AG _ _ · m0 AC)))) (lF fun p=>el AE [4] [] p [] H0 [.nils] AQ.ints_nil)
 case l2 x4 Af o1=>
  intro m0 AC;refine rd AC fun m0 AC=>?_
  revert r;apply gO;exact bi 12 (cf Yv [some (.cells (AD q)),some (.ints o1)] fun _=>bi 21 (bi 25 (gc (gi (gw 31 (lG AE [0,3] (AG _ _ · m0 AC))))) (gw 31 (lG AE [0,1] (AG _ _ · m0 AC)))) (gw 31 (lG AE [0,1] (AG _ _ · m0 AC)))) (gn fun g0=>lF fun p=>ez AE [4] [1] p [0] (H0.g g0))
theorem cm {n:Nat} {q:AA} {level:Int} {r:(List Int)} (h:P0 n q level=some r):EQ 38 [.agg 5 (L1 (AD q)),.i level] [] (.ints r) [] true:=by
 refine ot Tryz.func38 fun B N=>?_
 revert r;apply gO;exact lN AE [0] ((nT B N q level n) _ _ · n Nat.le.refl)
inductive Pi where
 | l1 (x8:Int)
 | l2 (x8:Int) (o0:List Bool) (CU:Nat) (o2:List Int)
def TN (n:Nat) (self:Pi -> Option ((List Bool)×Nat×Nat×(List Int)×Bool)) (l:List Int) (ws:List Bool) (x8:Int):Option ((List Bool)×Nat×Nat×(List Int)×Bool):=
 bif (decide (x8<(l.length:Int))) then
  if (0<=x8/\ x8<(l.length:Int))/\ (0<=(l.getD ((x8).toNat) 0)/\ (l.getD ((x8).toNat) 0)<((4096:Nat):Int))/\ 0+((l.getD ((x8).toNat) 0).toNat)<ws.length then
   bif (!(ws.getD (0+((l.getD ((x8).toNat) 0).toNat)) false)) then
    if ((0=0/\ 1=([l.getD ((x8).toNat) 0]:List Int).length)/\ 0<([l.getD ((x8).toNat) 0]:List Int).length/\ ([l.getD ((x8).toNat) 0]:List Int).length<=BE)/\ AI (x8+1) then
     self (.l2 (x8+1) (ws.set (0+((l.getD ((x8).toNat) 0).toNat)) true) (([l.getD ((x8).toNat) 0]:List Int).length) ([l.getD ((x8).toNat) 0]:List Int))
    else none
   else
    if AI (x8+1) then
     self (.l1 (x8+1))
    else none
  else none
 else
  some (ws,0,0,([]:List Int),true)
def Ni (n:Nat) (self:Pi -> Option ((List Bool)×Nat×Nat×(List Int)×Bool)) (l:List Int) (ws:List Bool) (x8:Int) (o0:List Bool) (CU:Nat) (o2:List Int):Option ((List Bool)×Nat×Nat×(List Int)×Bool):=
 bif (decide (x8<(l.length:Int))) then
  if (0<=x8/\ x8<(l.length:Int))/\ (0<=(l.getD ((x8).toNat) 0)/\ (l.getD ((x8).toNat) 0)<((4096:Nat):Int))/\ 0+((l.getD ((x8).toNat) 0).toNat)<o0.length then
   bif (!(o0.getD (0+((l.getD ((x8).toNat) 0).toNat)) false)) then
    if 0+CU=o2.length/\ CU+([l.getD ((x8).toNat) 0]:List Int).length<=BE/\ AI (x8+1) then
     self (.l2 (x8+1) (o0.set (0+((l.getD ((x8).toNat) 0).toNat)) true) (CU+([l.getD ((x8).toNat) 0]:List Int).length) (o2++([l.getD ((x8).toNat) 0]:List Int)))
    else none
   else
    if AI (x8+1) then
     self (.l2 (x8+1) o0 CU o2)
    else none
  else none
 else
  some (o0,0,CU,o2,false)
def zCZ (n:Nat) (self:Pi -> Option ((List Bool)×Nat×Nat×(List Int)×Bool)) (l:List Int) (ws:List Bool):Option ((List Bool)×Nat×Nat×(List Int)×Bool):=
 self (.l1 0)
def Hz (l:List Int) (ws:List Bool):Nat -> Pi -> Option ((List Bool)×Nat×Nat×(List Int)×Bool)
 | 0,_=>none
 | n+1,.l1 x8=>TN n (Hz l ws n) l ws x8
 | n+1,.l2 x8 o0 CU o2=>Ni n (Hz l ws n) l ws x8 o0 CU o2
def Lv (n:Nat) (l:List Int) (ws:List Bool):Option ((List Bool)×Nat×Nat×(List Int)×Bool):=zCZ n (Hz l ws n) l ws
def zCa (n B:Nat) (N:Yd 2) (l:List Int) (ws:List Bool) (r:(List Bool)×Nat×Nat×(List Int)×Bool):Pi -> Prop
 | .l1 x8=>∀ m0:Nat,n<=m0 -> TW B N (FQ Tryz.f78 2 (.tup 0 (fun j=>([]:List DV).getD j .any)) (bif r.2.2.2.2 then [some (.bools r.1),some (.cells [.nils])] else [some (.bools r.1),some (.cells [.mse 2 1 r.2.1 r.2.2.1]),some (.ints r.2.2.2.1)])) (Ak m0 (Au (AZ Tryz.f78) 0 [])) ⟨AM 23 [(1,.mp 0 1 0 0),(2,.ref 1 0),(6,.ints l),(7,.i (l.length:Int)),(8,.i x8)],[some (.bools ws),some (.cells [.nils])]⟩
 | .l2 x8 o0 CU o2=>∀ m0:Nat,n<=m0 -> TW B N (FQ Tryz.f78 2 (.tup 0 (fun j=>([]:List DV).getD j .any)) (bif r.2.2.2.2 then [some (.bools r.1),some (.cells [.nils])] else [some (.bools r.1),some (.cells [.mse 2 1 r.2.1 r.2.2.1]),some (.ints r.2.2.2.1)])) (Ak m0 (Au (AZ Tryz.f78) 0 [])) ⟨AM 23 [(1,.mp 0 1 0 0),(2,.ref 1 0),(6,.ints l),(7,.i (l.length:Int)),(8,.i x8)],[some (.bools o0),some (.cells [.mse 2 1 0 CU]),some (.ints o2)]⟩
theorem zCb (B:Nat) (N:Yd 2) (l:List Int) (ws:List Bool):Al (Hz l ws) (zCa · B N l ws):=ia (fun _=>rfl) fun n AG pt r h=>by
 cases pt
 case l1 x8=>
  intro m0 AC;refine rd AC fun m0 AC=>?_
  revert r;apply gO;exact bi 9 (gc (gi (gc (gn fun g1=>jg g1 (gn fun g2=>jg g2 (bi 15 (jg g1 (jg g2 (gc (gi (jo 21 (AQ.msl_mse (k:=3) (m:=1) (o:=0) (n:=([l.getD ((x8).toNat) 0]:List Int).length)) (jt (gw 22 (lG AE [0,1,3] (AG _ _ · m0 AC))))))))) (gw 22 (lG AE [0,1] (AG _ _ · m0 AC))))))))) (lE AE [] [0,1])
 case l2 x8 o0 CU o2=>
  intro m0 AC;refine rd AC fun m0 AC=>?_
  revert r;apply gO;exact bi 9 (gc (gi (gc (gn fun g1=>jg g1 (gn fun g2=>jg g2 (bi 15 (jg g1 (jg g2 (jg (And.intro (Eq.refl 0) (Eq.refl 1)) (jg (by decide:0<1) (gc (gi (gc (gi (jt (gw 22 (lG AE [0,1,4] (AG _ _ · m0 AC)))))))))))) (gw 22 (lG AE [0,1,2] (AG _ _ · m0 AC))))))))) (lE AE [] [0,1,2])
theorem mi {n:Nat} {l:List Int} {ws:List Bool} {r:(List Bool)×Nat×Nat×(List Int)×Bool} (h:Lv n l ws=some r):EQ 78 [.ints l,.mp 0 1 0 0,.ref 1 0] [some (.bools ws),some (.cells [.nils])] (.tup 0 (fun j=>([]:List DV).getD j .any)) (bif r.2.2.2.2 then [some (.bools r.1),some (.cells [.nils])] else [some (.bools r.1),some (.cells [.mse 2 1 r.2.1 r.2.2.1]),some (.ints r.2.2.2.1)]) false:=by
 refine ot Tryz.func78 (hni:=by cases r.2.2.2.2 <;> rfl) fun B N=>?_
 revert r;apply gO;exact lN AE [0,1] ((zCb B N l ws n) _ _ · n Nat.le.refl)
theorem mh {n:Nat} {l:List Int} {ws:List Bool} {r:(List Bool)×Nat×Nat×(List Int)×Bool} (h:Lv n l ws=some r) (c:r.2.2.2.2=true):EQ 78 [.ints l,.mp 0 1 0 0,.ref 1 0] [some (.bools ws),some (.cells [.nils])] (.tup 0 (fun j=>([]:List DV).getD j .any)) [some (.bools r.1),some (.cells [.nils])] false:=by
 have:=mi h;rw [c] at this;exact this
theorem mg {n:Nat} {l:List Int} {ws:List Bool} {r:(List Bool)×Nat×Nat×(List Int)×Bool} (h:Lv n l ws=some r) (c:r.2.2.2.2=false):EQ 78 [.ints l,.mp 0 1 0 0,.ref 1 0] [some (.bools ws),some (.cells [.nils])] (.tup 0 (fun j=>([]:List DV).getD j .any)) [some (.bools r.1),some (.cells [.mse 2 1 r.2.1 r.2.2.1]),some (.ints r.2.2.2.1)] false:=by
 have:=mi h;rw [c] at this;exact this
inductive W6 where
 | l1 (x8:Int) (o0:List Bool) (JE CU:Nat) (o3:List Int)
def Nk (n:Nat) (self:W6 -> Option ((List Bool)×Nat×Nat×(List Int))) (l:List Int) (ws:List Bool) (o_ n_:Nat) (qu:List Int) (x8:Int) (o0:List Bool) (JE CU:Nat) (o3:List Int):Option ((List Bool)×Nat×Nat×(List Int)):=
 bif (decide (x8<(l.length:Int))) then
  if (0<=x8/\ x8<(l.length:Int))/\ (0<=(l.getD ((x8).toNat) 0)/\ (l.getD ((x8).toNat) 0)<((4096:Nat):Int))/\ 0+((l.getD ((x8).toNat) 0).toNat)<o0.length then
   bif (!(o0.getD (0+((l.getD ((x8).toNat) 0).toNat)) false)) then
    if JE+CU=o3.length/\ CU+([l.getD ((x8).toNat) 0]:List Int).length<=BE/\ AI (x8+1) then
     self (.l1 (x8+1) (o0.set (0+((l.getD ((x8).toNat) 0).toNat)) true) 0 (CU+([l.getD ((x8).toNat) 0]:List Int).length) ((o3.drop JE)++([l.getD ((x8).toNat) 0]:List Int)))
    else none
   else
    if AI (x8+1) then
     self (.l1 (x8+1) o0 JE CU o3)
    else none
  else none
 else
  some (o0,JE,CU,o3)
def zCc (n:Nat) (self:W6 -> Option ((List Bool)×Nat×Nat×(List Int))) (l:List Int) (ws:List Bool) (o_ n_:Nat) (qu:List Int):Option ((List Bool)×Nat×Nat×(List Int)):=
 self (.l1 0 ws o_ n_ qu)
def Nj (l:List Int) (ws:List Bool) (o_ n_:Nat) (qu:List Int):Nat -> W6 -> Option ((List Bool)×Nat×Nat×(List Int))
 | 0,_=>none
 | n+1,.l1 x8 o0 JE CU o3=>Nk n (Nj l ws o_ n_ qu n) l ws o_ n_ qu x8 o0 JE CU o3
def Kd (n:Nat) (l:List Int) (ws:List Bool) (o_ n_:Nat) (qu:List Int):Option ((List Bool)×Nat×Nat×(List Int)):=zCc n (Nj l ws o_ n_ qu n) l ws o_ n_ qu
def zCe (n B:Nat) (N:Yd 3) (l:List Int) (ws:List Bool) (o_ n_:Nat) (qu:List Int) (r:(List Bool)×Nat×Nat×(List Int)):W6 -> Prop
 | .l1 x8 o0 JE CU o3=>∀ m0:Nat,n<=m0 -> TW B N (FQ Tryz.f78 3 (.tup 0 (fun j=>([]:List DV).getD j .any)) [some (.bools r.1),some (.cells [.mse 3 1 r.2.1 r.2.2.1]),none,some (.ints r.2.2.2)]) (Ak m0 (Au (AZ Tryz.f78) 0 [])) ⟨AM 23 [(1,.mp 0 1 0 0),(2,.ref 1 0),(6,.ints l),(7,.i (l.length:Int)),(8,.i x8)],[some (.bools o0),some (.cells [.mse 3 1 JE CU]),none,some (.ints o3)]⟩
theorem zCf (B:Nat) (N:Yd 3) (l:List Int) (ws:List Bool) (o_ n_:Nat) (qu:List Int):Al (Nj l ws o_ n_ qu) (zCe · B N l ws o_ n_ qu):=ia (fun _=>rfl) fun n AG pt r h=>by
 cases pt
 case l1 x8 o0 JE CU o3=>
  intro m0 AC;refine rd AC fun m0 AC=>?_
  revert r;apply gO;exact bi 9 (gc (gi (gc (gn fun g1=>jg g1 (gn fun g2=>jg g2 (bi 15 (jg g1 (jg g2 (jg (And.intro (Eq.refl 0) (Eq.refl 1)) (jg (by decide:0<1) (gc (gi (gc (gi (jt (gw 22 (lG AE [0,1,2,5] (AG _ _ · m0 AC)))))))))))) (gw 22 (lG AE [0,1,2,3] (AG _ _ · m0 AC))))))))) (lE AE [] [0,1,2,3])
theorem b9 {n:Nat} {l:List Int} {ws:List Bool} {o_ n_:Nat} {qu:List Int} {r:(List Bool)×Nat×Nat×(List Int)} (h:Kd n l ws o_ n_ qu=some r):EQ 78 [.ints l,.mp 0 1 0 0,.ref 1 0] [some (.bools ws),some (.cells [.mse 2 1 o_ n_]),some (.ints qu)] (.tup 0 (fun j=>([]:List DV).getD j .any)) [some (.bools r.1),some (.cells [.mse 3 1 r.2.1 r.2.2.1]),none,some (.ints r.2.2.2)] false:=by
 refine ot Tryz.func78 fun B N=>?_
 refine BU.le (BO.moveE 2 ⟨AM 23 [(0,.ints l),(1,.mp 0 1 0 0),(2,.ref 1 0)],[some (.bools ws),some (.cells [.mse 3 1 o_ n_]),none,some (.ints qu)]⟩ (by kernel_rfl)) (by kernel_rfl) ?_;revert r;apply gO;exact lN AE [0,1,2,3] ((zCf B N l ws o_ n_ qu n) _ _ · n Nat.le.refl)
def gN (n:Nat) (c:Int) (q:AA):Option Bool:=
 bif (decide (c<0)) then
  some true
 else
  some (decide (c>=q.cells))
def Un (n:Nat) (c:Int) (q:AA):Option Bool:=gN n c q
theorem tM {n:Nat} {c:Int} {q:AA} {r:Bool} (h:Un n c q=some r):EQ 49 [.i c,.fp 5 (L1 (AD q))] [] (.bool r) [] true:=by
 refine ot Tryz.func49 fun B N=>?_
 revert r;apply gO;exact bi 5 (lE AE [3] []) (lE AE [3] [])
inductive VP where
 | l1 (x8:Int)
def Mx (n:Nat) (self:VP -> Option Int) (l:List Int) (q:AA) (x8:Int):Option Int:=
 bif (decide (x8<(l.length:Int))) then
  if 0<=x8/\ x8<(l.length:Int) then
   (Un n (l.getD ((x8).toNat) 0) q).bind fun y1=>
    bif y1 then
     some x8
    else
     if AI (x8+1) then
      self (.l1 (x8+1))
     else none
  else none
 else
  some (-1)
def vg (n:Nat) (self:VP -> Option Int) (l:List Int) (q:AA):Option Int:=
 self (.l1 0)
def J8 (l:List Int) (q:AA):Nat -> VP -> Option Int
 | 0,_=>none
 | n+1,.l1 x8=>Mx n (J8 l q n) l q x8
def ip (n:Nat) (l:List Int) (q:AA):Option Int:=vg n (J8 l q n) l q
def vh (n B:Nat) (N:Yd 0) (l:List Int) (q:AA) (r:Int):VP -> Prop
 | .l1 x8=>∀ m0:Nat,n<=m0 -> TW B N (FQ Tryz.f41 0 (.i r) []) (Ak m0 (Au (AZ Tryz.f41) 0 [])) ⟨AM 19 [(0,.ints l),(1,.fn 49 1 (L1 [.fp 5 (L1 (AD q))])),(7,.i (l.length:Int)),(8,.i x8)],[]⟩
theorem vi (B:Nat) (N:Yd 0) (l:List Int) (q:AA):Al (J8 l q) (vh · B N l q):=ia (fun _=>rfl) fun n AG pt r h=>by
 cases pt
 case l1 x8=>
  intro m0 AC;refine rd AC fun m0 AC=>?_
  revert r;apply gO;exact bi 9 (gi (cf tM [] fun _=>bi 16 (lE AE [4] []) (gw 18 (lG AE [] (AG _ _ · m0 AC))))) (lE AE [4] [])
theorem vf {n:Nat} {l:List Int} {q:AA} {r:Int} (h:ip n l q=some r):EQ 41 [.ints l,.fn 49 1 (L1 [.fp 5 (L1 (AD q))])] [] (.i r) [] true:=by
 refine ot Tryz.func41 fun B N=>?_
 revert r;apply gO;exact lN AE [] ((vi B N l q n) _ _ · n Nat.le.refl)
def lJ (n:Nat) (l:List Int) (q:AA):Option Bool:=
 (ip n l q).bind fun y1=>
  some (decide (y1>=0))
def Wc (n:Nat) (l:List Int) (q:AA):Option Bool:=lJ n l q
theorem zBK {n:Nat} {l:List Int} {q:AA} {r:Bool} (h:Wc n l q=some r):EQ 48 [.ints l,.fn 49 1 (L1 [.fp 5 (L1 (AD q))])] [] (.bool r) [] true:=by
 unfold Wc lJ at h;refine ot Tryz.func48 fun B N=>?_
 revert r;apply gO;exact cf vf [] fun _=>lE AE [4] []
theorem pi:At (BA Tryz.f50 32) [] (List.range 9) []:=by unfold At;kernel_rfl
def EU:Bb:=fun i=>match i with
 | 32=>.ord [] (List.range 9) []
 | _=>.no
def jF (cells:List Int) (q:AA) (o2:List Bool) (o1:Int -> List Int) (CJ:Int):DH:=[some (.cells (AD q)),none,some (.bools o2),some (.cells [.nils]),some (.mo (.rows o1 (some (cells.getD ((CJ).toNat) 0,o1 (cells.getD ((CJ).toNat) 0),false))))]
def xk (cells:List Int) (q:AA) (o2:List Bool) (Bl AS:Nat) (o4:List Int) (o1:Int -> List Int) (CJ:Int):DH:=[some (.cells (AD q)),none,some (.bools o2),some (.cells [.mse 4 1 Bl AS]),some (.ints o4),some (.mo (.rows o1 (some (cells.getD ((CJ).toNat) 0,o1 (cells.getD ((CJ).toNat) 0),false))))]
def jE (cells:List Int) (q:AA) (o1:Int -> List Int) (o2:List Bool) (Bl AS:Nat) (o4:List Int):DH:=[some (.cells (AD q)),some (.mo (.rows o1 none)),some (.bools o2),some (.cells [.mse 4 1 Bl AS]),some (.ints o4)]
def xj (cells:List Int) (q:AA) (o1:Int -> List Int) (o2:List Bool) (o4:List Int) (Bl AS:Nat):DH:=[some (.cells (AD q)),some (.mo (.rows o1 none)),some (.bools (o2.set (0+((o4.getD (Bl+0) 0).toNat)) false)),some (.cells [.mse 4 1 (Bl+1) (AS-1)]),some (.ints o4)]
def xh (cells:List Int) (q:AA) (o2:List Bool) (Bl AS:Nat) (o4:List Int) (o1:Int -> List Int) (D5:Int):DH:=[some (.cells (AD q)),none,some (.bools o2),some (.cells [.mse 4 1 Bl AS]),some (.ints o4),some (.mo (.rows o1 (some (D5,o1 D5,false))))]
inductive IM where
 | l1 (x9 Bn:List Int) (CX A6:Int) (o1:Int -> List Int)
 | l2 (x9:List Int) (BX:Int) (Bn:List Int) (CX A6:Int) (HP:List Int) (C6 F6:Int) (o1:Int -> List Int)
 | l3 (x9:List Int) (CJ:Int) (o1:Int -> List Int) (o2:List Bool)
 | l4 (x9:List Int) (CJ:Int) (o1:Int -> List Int) (o2:List Bool) (Bl AS:Nat) (o4:List Int)
 | l5 (o1:Int -> List Int) (o2:List Bool)
 | l6 (x1:List Int) (o1:Int -> List Int) (o2:List Bool) (Bl AS:Nat) (o4:List Int)
 | l7 (x1 x21:List Int) (DL D5:Int) (o1:Int -> List Int) (o2:List Bool) (Bl AS:Nat) (o4:List Int)
def Qu (n:Nat) (self:IM -> Option ((List Int))) (q:AA) (pos cells:List Int) (level:Int) (x9 Bn:List Int) (CX A6:Int) (o1:Int -> List Int):Option ((List Int)):=
 bif (decide (A6<CX)) then
  if (0<=A6/\ A6<(Bn.length:Int))/\ (0<=(Bn.getD ((A6).toNat) 0)/\ (Bn.getD ((A6).toNat) 0)<(q.cons.length:Int)) then
   self (.l2 x9 (Bn.getD ((A6).toNat) 0) Bn CX A6 ((q.cons.getD ((Bn.getD ((A6).toNat) 0).toNat) default).cells) ((((q.cons.getD ((Bn.getD ((A6).toNat) 0).toNat) default).cells).length:Nat):Int) 0 o1)
  else none
 else
  self (.l3 x9 0 o1 (List.replicate 4096 false))
def Qt (n:Nat) (self:IM -> Option ((List Int))) (q:AA) (pos cells:List Int) (level:Int) (x9:List Int) (BX:Int) (Bn:List Int) (CX A6:Int) (HP:List Int) (C6 F6:Int) (o1:Int -> List Int):Option ((List Int)):=
 bif (decide (F6<C6)) then
  if (0<=F6/\ F6<(HP.length:Int))/\ (o1 (HP.getD ((F6).toNat) 0)).length+([BX]:List Int).length<=BE/\ AI (F6+1) then
   self (.l2 x9 BX Bn CX A6 HP C6 (F6+1) (Gn o1 (HP.getD ((F6).toNat) 0) ((o1 (HP.getD ((F6).toNat) 0))++([BX]:List Int))))
  else none
 else
  if AI (A6+1) then
   self (.l1 x9 Bn CX (A6+1) o1)
  else none
def Jy (n:Nat) (self:IM -> Option ((List Int))) (q:AA) (pos cells:List Int) (level:Int) (x9:List Int) (CJ:Int) (o1:Int -> List Int) (o2:List Bool):Option ((List Int)):=
 bif (decide (CJ<(cells.length:Int))) then
  if 0<=CJ/\ CJ<(cells.length:Int) then
   (Lv n (o1 (cells.getD ((CJ).toNat) 0)) o2).bind fun y1=>
    bif y1.2.2.2.2 then
     if AI (CJ+1) then
      self (.l3 x9 (CJ+1) o1 y1.1)
     else none
    else
     if AI (CJ+1) then
      self (.l4 x9 (CJ+1) o1 y1.1 y1.2.1 y1.2.2.1 y1.2.2.2.1)
     else none
  else none
 else
  (Lv n x9 o2).bind fun y1=>
   bif y1.2.2.2.2 then
    self (.l5 o1 y1.1)
   else
    self (.l6 pos o1 y1.1 y1.2.1 y1.2.2.1 y1.2.2.2.1)
def Qs (n:Nat) (self:IM -> Option ((List Int))) (q:AA) (pos cells:List Int) (level:Int) (x9:List Int) (CJ:Int) (o1:Int -> List Int) (o2:List Bool) (Bl AS:Nat) (o4:List Int):Option ((List Int)):=
 bif (decide (CJ<(cells.length:Int))) then
  if 0<=CJ/\ CJ<(cells.length:Int) then
   (Kd n (o1 (cells.getD ((CJ).toNat) 0)) o2 Bl AS o4).bind fun y1=>
    if AI (CJ+1) then
     self (.l4 x9 (CJ+1) o1 y1.1 y1.2.1 y1.2.2.1 y1.2.2.2)
    else none
  else none
 else
  (Kd n x9 o2 Bl AS o4).bind fun y1=>
   self (.l6 pos o1 y1.1 y1.2.1 y1.2.2.1 y1.2.2.2)
def sY (n:Nat) (self:IM -> Option ((List Int))) (q:AA) (pos cells:List Int) (level:Int) (o1:Int -> List Int) (o2:List Bool):Option ((List Int)):=
 some pos
def Qr (n:Nat) (self:IM -> Option ((List Int))) (q:AA) (pos cells:List Int) (level:Int) (x1:List Int) (o1:Int -> List Int) (o2:List Bool) (Bl AS:Nat) (o4:List Int):Option ((List Int)):=
 bif (AS==0) then
  some x1
 else
  bif (decide ((AS:Int)>0)) then
   (Hj n x1).bind fun y1=>
    bif (!y1) then
     if ((0:Int)<=0/\ 0<(AS:Int))/\ Bl+0<o4.length/\ ((0:Int)<=1/\ (1:Int)<=(AS:Int)/\ (AS:Int)<=(AS:Int))/\ (0<=(o4.getD (Bl+0) 0)/\ (o4.getD (Bl+0) 0)<((4096:Nat):Int))/\ 0+((o4.getD (Bl+0) 0).toNat)<o2.length then
      (MY n q (o4.getD (Bl+0) 0) x1).bind fun y2=>
       bif (y2.2 != 0) then
        some x1
       else
        self (.l7 x1 y2.1 (y2.1.length:Int) 0 o1 (o2.set (0+((o4.getD (Bl+0) 0).toNat)) false) (Bl+1) (AS-1) o4)
     else none
    else
     some x1
  else
   some x1
def MW (n:Nat) (self:IM -> Option ((List Int))) (q:AA) (pos cells:List Int) (level:Int) (x1 x21:List Int) (DL D5:Int) (o1:Int -> List Int) (o2:List Bool) (Bl AS:Nat) (o4:List Int):Option ((List Int)):=
 bif (decide (D5<DL)) then
  if (0<=D5/\ D5<(x21.length:Int))/\ (0<=D5/\ D5<(x1.length:Int)) then
   bif ((x21.getD ((D5).toNat) 0) != (x1.getD ((D5).toNat) 0)) then
    (Kd n (o1 D5) o2 Bl AS o4).bind fun y1=>
     if AI (D5+1) then
      self (.l7 x1 x21 DL (D5+1) o1 y1.1 y1.2.1 y1.2.2.1 y1.2.2.2)
     else none
   else
    if AI (D5+1) then
     self (.l7 x1 x21 DL (D5+1) o1 o2 Bl AS o4)
    else none
  else none
 else
  self (.l6 x21 o1 o2 Bl AS o4)
def Qv (n:Nat) (self:IM -> Option ((List Int))) (q:AA) (pos cells:List Int) (level:Int):Option ((List Int)):=
 (Hj n pos).bind fun y1=>
  bif y1 then
   if ((pos.length:Int):Int)=(pos.length:Int)/\ 0<=(pos.length:Int)/\ ((pos.length:Int):Int)<=1000000000000 then
    if pos.length=(List.replicate pos.length (0:Int)).length then
     some (List.replicate pos.length (0:Int))
    else none
   else none
  else
   (P0 n q level).bind fun y2=>
    self (.l1 y2 y2 (y2.length:Int) 0 (fun _=>[]))
def Bs (q:AA) (pos cells:List Int) (level:Int):Nat -> IM -> Option ((List Int))
 | 0,_=>none
 | n+1,.l1 x9 Bn CX A6 o1=>Qu n (Bs q pos cells level n) q pos cells level x9 Bn CX A6 o1
 | n+1,.l2 x9 BX Bn CX A6 HP C6 F6 o1=>Qt n (Bs q pos cells level n) q pos cells level x9 BX Bn CX A6 HP C6 F6 o1
 | n+1,.l3 x9 CJ o1 o2=>Jy n (Bs q pos cells level n) q pos cells level x9 CJ o1 o2
 | n+1,.l4 x9 CJ o1 o2 Bl AS o4=>Qs n (Bs q pos cells level n) q pos cells level x9 CJ o1 o2 Bl AS o4
 | n+1,.l5 o1 o2=>sY n (Bs q pos cells level n) q pos cells level o1 o2
 | n+1,.l6 x1 o1 o2 Bl AS o4=>Qr n (Bs q pos cells level n) q pos cells level x1 o1 o2 Bl AS o4
 | n+1,.l7 x1 x21 DL D5 o1 o2 Bl AS o4=>MW n (Bs q pos cells level n) q pos cells level x1 x21 DL D5 o1 o2 Bl AS o4
def YH (n:Nat) (q:AA) (pos cells:List Int) (level:Int):Option ((List Int)):=Qv n (Bs q pos cells level n) q pos cells level
def sZ (n B:Nat) (N:Yd 0) (q:AA) (pos cells:List Int) (level:Int) (r:(List Int)):IM -> Prop
 | .l1 x9 Bn CX A6 o1=>∀ m0:Nat,n<=m0 -> TW B N (FQ Tryz.f50 0 (.ints r) []) (Ak m0 (Au (AZ Tryz.f50) 0 [])) ⟨AM 123 [(1,.ints pos),(2,.ints cells),(4,.ref 0 0),(9,.ints x9),(10,.mri 1 0),(33,.ints Bn),(34,.i CX),(35,.i A6)],[some (.cells (AD q)),some (.mo (.rows o1 none))]⟩
 | .l2 x9 BX Bn CX A6 HP C6 F6 o1=>∀ m0 m1:Nat,n<=m0 -> n<=m1 -> TW B N (FQ Tryz.f50 0 (.ints r) []) (Ak m1 (Au (AZ Tryz.f50) 2 [m0])) ⟨AM 123 [(1,.ints pos),(2,.ints cells),(4,.ref 0 0),(9,.ints x9),(10,.mri 1 0),(12,.i BX),(33,.ints Bn),(34,.i CX),(35,.i A6),(44,.ints HP),(45,.i C6),(46,.i F6)],[some (.cells (AD q)),some (.mo (.rows o1 none))]⟩
 | .l3 x9 CJ o1 o2=>∀ m0:Nat,n<=m0 -> TW B N (FQ Tryz.f50 0 (.ints r) []) (Ak m0 (Au (AZ Tryz.f50) 4 [])) ⟨AM 123 [(1,.ints pos),(4,.ref 0 0),(9,.ints x9),(10,.mri 1 0),(15,.mp 2 1 0 0),(16,.ref 3 0),(17,.fn 78 2 (L1 [.mp 2 1 0 0,.ref 3 0])),(61,.ints cells),(62,.i (cells.length:Int)),(63,.i CJ)],[some (.cells (AD q)),some (.mo (.rows o1 none)),some (.bools o2),some (.cells [.nils])]⟩
 | .l4 x9 CJ o1 o2 Bl AS o4=>∀ m0:Nat,n<=m0 -> TW B N (FQ Tryz.f50 0 (.ints r) []) (Ak m0 (Au (AZ Tryz.f50) 4 [])) ⟨AM 123 [(1,.ints pos),(4,.ref 0 0),(9,.ints x9),(10,.mri 1 0),(15,.mp 2 1 0 0),(16,.ref 3 0),(17,.fn 78 2 (L1 [.mp 2 1 0 0,.ref 3 0])),(61,.ints cells),(62,.i (cells.length:Int)),(63,.i CJ)],[some (.cells (AD q)),some (.mo (.rows o1 none)),some (.bools o2),some (.cells [.mse 4 1 Bl AS]),some (.ints o4)]⟩
 | .l5 o1 o2=>∀ m0:Nat,n<=m0 -> TW B N (FQ Tryz.f50 0 (.ints r) []) (Ak m0 (Au (AZ Tryz.f50) 6 [])) ⟨AM 123 [(1,.ints pos),(4,.ref 0 0),(10,.mri 1 0),(15,.mp 2 1 0 0),(16,.ref 3 0),(17,.fn 78 2 (L1 [.mp 2 1 0 0,.ref 3 0]))],[some (.cells (AD q)),some (.mo (.rows o1 none)),some (.bools o2),some (.cells [.nils])]⟩
 | .l6 x1 o1 o2 Bl AS o4=>∀ m0:Nat,n<=m0 -> TW B N (FQ Tryz.f50 0 (.ints r) []) (Ak m0 (Au (AZ Tryz.f50) 6 [])) ⟨AM 123 [(1,.ints x1),(4,.ref 0 0),(10,.mri 1 0),(15,.mp 2 1 0 0),(16,.ref 3 0),(17,.fn 78 2 (L1 [.mp 2 1 0 0,.ref 3 0]))],[some (.cells (AD q)),some (.mo (.rows o1 none)),some (.bools o2),some (.cells [.mse 4 1 Bl AS]),some (.ints o4)]⟩
 | .l7 x1 x21 DL D5 o1 o2 Bl AS o4=>∀ m0 m1:Nat,n<=m0 -> n<=m1 -> TW B N (FQ Tryz.f50 0 (.ints r) []) (Ak m1 (Au (AZ Tryz.f50) 8 [m0])) ⟨AM 123 [(1,.ints x1),(4,.ref 0 0),(10,.mri 1 0),(15,.mp 2 1 0 0),(16,.ref 3 0),(17,.fn 78 2 (L1 [.mp 2 1 0 0,.ref 3 0])),(21,.ints x21),(102,.i DL),(103,.i D5)],[some (.cells (AD q)),some (.mo (.rows o1 none)),some (.bools o2),some (.cells [.mse 4 1 Bl AS]),some (.ints o4)]⟩
theorem sc (B:Nat) (N:Yd 0) (q:AA) (pos cells:List Int) (level:Int):Al (Bs q pos cells level) (sZ · B N q pos cells level):=ia (fun _=>rfl) fun n AG pt r h=>by
 cases pt
 case l1 x9 Bn CX A6 o1=>
  intro m0 AC;refine rd AC fun m0 AC=>?_
  revert r;apply gO;exact bi 36 (gc (gi (gi (lN EU [0,1] (AG _ _ · m0 n AC Nat.le.refl))))) (lN EU [0,1,2,3] (AG _ _ · n Nat.le.refl))
 case l2 x9 BX Bn CX A6 HP C6 F6 o1=>
  intro m0 m1 AC Am;have AC:=zDW AC;refine rd Am fun m1 Am=>?_
  revert r;apply gO;exact bi 47 (gc (gi (jg (And.intro (Eq.refl 0) (Eq.refl 1)) (jg (by decide:0<1) (gc (gi (jg (Eq.refl (HP.getD ((F6).toNat) 0)) (gw 58 (lG EU [0,4] (AG _ _ · m0 m1 AC Am)))))))))) (gw 59 (lG EU [0,1] (AG _ _ · m0 AC)))
 case l3 x9 CJ o1 o2=>
  intro m0 AC;refine rd AC fun m0 AC=>?_
  revert r;apply gO;exact bi 64 (gi (cn fun y1 A0=>bn (fun c1=>jc (es (mh A0 c1) [2,3] (jF cells q o2 o1 CJ) [.mri 4 1,.mp 2 1 0 0,.ref 3 0] ⟨(.inr (Kf.own rfl rfl)),(.inl rfl),(.inl rfl),trivial⟩) (ju 71 4 (gw 72 (lG EU [0,4,2,3] (AG _ _ · m0 AC))))) (fun c1=>jc (es (mg A0 c1) [2,3] (jF cells q o2 o1 CJ) [.mri 4 1,.mp 2 1 0 0,.ref 3 0] ⟨(.inr (Kf.own rfl rfl)),(.inl rfl),(.inl rfl),trivial⟩) (ju 71 4 (gw 72 (lG EU [0,4,2,3,5] (AG _ _ · m0 AC))))))) (cn fun y1 A0=>bn (fun c1=>jc (em (mh A0 c1) [2,3] [some (.cells (AD q)),some (.mo (.rows o1 none)),some (.bools o2),some (.cells [.nils])]) (lN EU [0,1,2,3] (AG _ _ · n Nat.le.refl))) (fun c1=>jc (em (mg A0 c1) [2,3] [some (.cells (AD q)),some (.mo (.rows o1 none)),some (.bools o2),some (.cells [.nils])]) (lN EU [0,1,2,3,4] (AG _ _ · n Nat.le.refl))))
 case l4 x9 CJ o1 o2 Bl AS o4=>
  intro m0 AC;refine rd AC fun m0 AC=>?_
  revert r;apply gO;exact bi 64 (gi (cn fun y1 A0=>jc (es (b9 A0) [2,3,4] (xk cells q o2 Bl AS o4 o1 CJ) [.mri 5 1,.mp 2 1 0 0,.ref 3 0] ⟨(.inr (Kf.own rfl rfl)),(.inl rfl),(.inl rfl),trivial⟩) (ju 71 5 (gw 72 (lG EU [0,5,2,3,6] (AG _ _ · m0 AC)))))) (ce b9 [2,3,4] (jE cells q o1 o2 Bl AS o4) fun _=>lN EU [0,1,2,3,5] (AG _ _ · n Nat.le.refl))
 case l5 o1 o2=>
  intro m0 AC;refine rd AC fun m0 AC=>?_
  revert r;apply gO;exact lE EU [8] []
 case l6 x1 o1 o2 Bl AS o4=>
  intro m0 AC;refine rd AC fun m0 AC=>?_
  revert r;apply gO;exact bn (fun c0=>jo 76 (AQ.mse_nil (k:=4) (m:=1) (o:=Bl) (eq_of_beq c0)) (lE EU [8] [])) (fun c0=>jo 76 (AQ.mse_msl (k:=4) (m:=1) (o:=Bl) (UZ c0) rfl) (bi 78 (cf Of (jE cells q o1 o2 Bl AS o4) fun _=>bi 82 (jo 84 (AQ.mse_msl (k:=4) (m:=1) (o:=Bl) (UZ c0) rfl) (gc (gi (gc (gi (jo 87 (AQ.mse_msl (k:=4) (m:=1) (o:=Bl) (UZ c0) rfl) (gc (gi (jt (gc (gi (gi (cf fg (xj cells q o1 o2 o4 Bl AS) fun _=>bi 99 (lE EU [8] []) (lN EU [0,1,2,3,4] (AG _ _ · m0 n AC Nat.le.refl))))))))))))))) (lE EU [8] [])) (lE EU [8] [])))
 case l7 x1 x21 DL D5 o1 o2 Bl AS o4=>
  intro m0 m1 AC Am;have AC:=zDW AC;refine rd Am fun m1 Am=>?_
  revert r;apply gO;exact bi 104 (jg pi (gc (gi (gi (bi 114 (cn fun y1 A0=>jc (es (b9 A0) [2,3,4] (xh cells q o2 Bl AS o4 o1 D5) [.mri 5 1,.mp 2 1 0 0,.ref 3 0] ⟨(.inr (Kf.own rfl rfl)),(.inl rfl),(.inl rfl),trivial⟩) (ju 119 5 (gw 120 (lG EU [0,5,2,3,6] (AG _ _ · m0 m1 AC Am))))) (gw 120 (lG EU [0,1,2,3,4] (AG _ _ · m0 m1 AC Am)))))))) (lG EU [0,1,2,3,4] (AG _ _ · m0 AC))
theorem sX {n:Nat} {q:AA} {pos cells:List Int} {level:Int} {r:(List Int)} (h:YH n q pos cells level=some r):EQ 50 [.agg 5 (L1 (AD q)),.ints pos,.ints cells,.i level] [] (.ints r) [] true:=by
 refine ot Tryz.func50 fun B N=>?_
 revert r;apply gO;exact cf Of [some (.cells (AD q))] fun _=>bi 25 (gi (gn fun g1=>lF fun p=>ez EU [8] [1] p [0] (H0.g g1))) (cf cm [some (.cells (AD q))] fun _=>lN EU [0,1] ((sc B N q pos cells level n) _ _ · n Nat.le.refl))
def ma (n:Nat) (q:AA) (pos cells:List Int) (level:Int):Option ((List Int)×Int):=
 (Mb n q pos).bind fun y1=>
  bif (y1 != 0) then
   some (([]:List Int),y1)
  else
   (Wc n cells q).bind fun y2=>
    bif y2 then
     some (([]:List Int),1)
    else
     (YH n q pos cells level).bind fun y3=>
      some (y3,0)
def TM (n:Nat) (q:AA) (pos cells:List Int) (level:Int):Option ((List Int)×Int):=ma n q pos cells level
theorem W5 {n:Nat} {q:AA} {pos cells:List Int} {level:Int} {r:(List Int)×Int} (h:TM n q pos cells level=some r):EQ 21 [.agg 5 (L1 (AD q)),.ints pos,.ints cells,.i level] [] (.tup 2 (L1 [.ints r.1,.i r.2])) [] true:=by
 unfold TM ma at h;refine ot Tryz.func21 fun B N=>?_
 revert r;apply gO;exact cf YN [some (.cells (AD q))] fun y1=>bi 14 (lF fun p=>el AE [8,9] [] p [] H0 [.nils,.i y1] (AQ.tupL (l:=[.nils,.i y1]) (l':=[.ints ([]:List Int),.i y1]) rfl ⟨AQ.ints_nil,Bh,trivial⟩)) (cn fun y2 Bt=>jc (sb [.ints cells,.fn 49 1 (L1 [.ref 0 0])] (zBK Bt) [some (.cells (AD q))] ⟨AR.plain (by kernel_rfl),(AR.fnL (l:=[.ref 0 0]) (l0:=[.fp 5 (L1 (AD q))]) ⟨(AR.refL (l:=(AD q)) (l0:=(AD q)) rfl ⟨AR.plain (by kernel_rfl),AR.plain (by kernel_rfl),AR.plain (by kernel_rfl),AR.plain (by kernel_rfl),AR.plain (by kernel_rfl),trivial⟩),trivial⟩),trivial⟩) (bi 18 (lF fun p=>el AE [8,9] [] p [] H0 [.nils,.i 1] (AQ.tupL (l:=[.nils,.i 1]) (l':=[.ints ([]:List Int),.i 1]) rfl ⟨AQ.ints_nil,Bh,trivial⟩)) (cf sX [some (.cells (AD q))] fun _=>lE AE [8,9] [])))
def mW (n:Nat) (q:AA) (pos:List Int) (level:Int):Option ((List Int)×Int):=
 (TM n q pos ([]:List Int) level).bind fun y1=>
  some (y1.1,y1.2)
def HJ (n:Nat) (q:AA) (pos:List Int) (level:Int):Option ((List Int)×Int):=mW n q pos level
theorem Fi {n:Nat} {q:AA} {pos:List Int} {level:Int} {r:(List Int)×Int} (h:HJ n q pos level=some r):EQ 13 [.agg 5 (L1 (AD q)),.ints pos,.i level] [] (.tup 2 (L1 [.ints r.1,.i r.2])) [] true:=by
 unfold HJ mW at h;refine ot Tryz.func13 fun B N=>?_
 revert r;apply gO;exact cn fun y1 A0=>jc (fb (ES.argsLe (ds:=[.agg 5 (L1 (AD q)),.ints pos,.nils,.i level]) (W5 A0) ⟨Bh,Bh,AQ.ints_nil,Bh,trivial⟩) [some (.cells (AD q))]) (lE AE [6,7] [])
def lS (n:Nat) (i_:Int) (q:AA) (pos:List Int):Option (Bool×(List Int)):=
 (MY n q i_ pos).bind fun y1=>
  bif (y1.2 != 0) then
   some (false,pos)
  else
   (NR n y1.1 pos).bind fun y2=>
    bif y2 then
     some (false,pos)
    else
     some (true,y1.1)
def bP (n:Nat) (i_:Int) (q:AA) (pos:List Int):Option (Bool×(List Int)):=lS n i_ q pos
theorem zBh {n:Nat} {i_:Int} {q:AA} {pos:List Int} {r:Bool×(List Int)} (h:bP n i_ q pos=some r):EQ 39 [.i i_,.ref 0 0,.ref 1 0] [some (.cells (AD q)),some (.cells [.ints pos])] (.bool r.1) [some (.cells (AD q)),some (.cells [.ints r.2])] false:=by
 unfold bP lS at h;refine ot Tryz.func39 fun B N=>?_
 revert r;apply gO;exact cf fg [some (.cells (AD q)),some (.cells [.ints pos])] fun _=>bi 15 (lE AE [4] [0,1]) (cf ax [some (.cells (AD q)),some (.cells [.ints pos])] fun _=>bi 19 (lE AE [4] [0,1]) (jt (lE AE [4] [0,1])))
inductive VT where
 | l1 (x8:Int) (CU:List Int)
def vn (n:Nat) (self:VT -> Option (Int×(List Int))) (l:List Int) (q:AA) (pos:List Int) (x8:Int) (CU:List Int):Option (Int×(List Int)):=
 bif (decide (x8<(l.length:Int))) then
  if 0<=x8/\ x8<(l.length:Int) then
   (bP n (l.getD ((x8).toNat) 0) q CU).bind fun y1=>
    bif y1.1 then
     some (x8,y1.2)
    else
     if AI (x8+1) then
      self (.l1 (x8+1) y1.2)
     else none
  else none
 else
  some ((-1),CU)
def vo (n:Nat) (self:VT -> Option (Int×(List Int))) (l:List Int) (q:AA) (pos:List Int):Option (Int×(List Int)):=
 self (.l1 0 pos)
def ZL (l:List Int) (q:AA) (pos:List Int):Nat -> VT -> Option (Int×(List Int))
 | 0,_=>none
 | n+1,.l1 x8 CU=>vn n (ZL l q pos n) l q pos x8 CU
def ZM (n:Nat) (l:List Int) (q:AA) (pos:List Int):Option (Int×(List Int)):=vo n (ZL l q pos n) l q pos
def vp (n B:Nat) (N:Yd 2) (l:List Int) (q:AA) (pos:List Int) (r:Int×(List Int)):VT -> Prop
 | .l1 x8 CU=>∀ m0:Nat,n<=m0 -> TW B N (FQ Tryz.f41 2 (.i r.1) [some (.cells (AD q)),some (.cells [.ints r.2])]) (Ak m0 (Au (AZ Tryz.f41) 0 [])) ⟨AM 19 [(0,.ints l),(1,.fn 39 2 (L1 [.ref 0 0,.ref 1 0])),(7,.i (l.length:Int)),(8,.i x8)],[some (.cells (AD q)),some (.cells [.ints CU])]⟩
theorem vq (B:Nat) (N:Yd 2) (l:List Int) (q:AA) (pos:List Int):Al (ZL l q pos) (vp · B N l q pos):=ia (fun _=>rfl) fun n AG pt r h=>by
 cases pt
 case l1 x8 CU=>
  intro m0 AC;refine rd AC fun m0 AC=>?_
  revert r;apply gO;exact bi 9 (gi (ce zBh [0,1] [some (.cells (AD q)),some (.cells [.ints CU])] fun _=>bi 16 (lE AE [4] [0,1]) (gw 18 (lG AE [0,1] (AG _ _ · m0 AC))))) (lE AE [4] [0,1])
theorem ir {n:Nat} {l:List Int} {q:AA} {pos:List Int} {r:Int×(List Int)} (h:ZM n l q pos=some r):EQ 41 [.ints l,.fn 39 2 (L1 [.ref 0 0,.ref 1 0])] [some (.cells (AD q)),some (.cells [.ints pos])] (.i r.1) [some (.cells (AD q)),some (.cells [.ints r.2])] false:=by
 refine ot Tryz.func41 fun B N=>?_
 revert r;apply gO;exact lN AE [0,1] ((vq B N l q pos n) _ _ · n Nat.le.refl)
inductive Q8 where
 | l1 (x8:List Int)
 | l2 (x6:Nat) (x8 JF o1:List Int)
def tQ (n:Nat) (self:Q8 -> Option ((List Int)×Int)) (q:AA) (pos:List Int) (level:Int) (x8:List Int):Option ((List Int)×Int):=
 (Hj n pos).bind fun y1=>
  bif (!y1) then
   (ZM n x8 q pos).bind fun y2=>
    bif (decide (y2.1<0)) then
     some (([]:List Int),0)
    else
     if (0<=y2.1/\ y2.1<(x8.length:Int))/\ ((0=0/\ 1=([x8.getD ((y2.1).toNat) 0]:List Int).length)/\ 0<([x8.getD ((y2.1).toNat) 0]:List Int).length/\ ([x8.getD ((y2.1).toNat) 0]:List Int).length<=BE) then
      self (.l2 (([x8.getD ((y2.1).toNat) 0]:List Int).length) x8 y2.2 ([x8.getD ((y2.1).toNat) 0]:List Int))
     else none
  else
   some (([]:List Int),0)
def tP (n:Nat) (self:Q8 -> Option ((List Int)×Int)) (q:AA) (pos:List Int) (level:Int) (x6:Nat) (x8 JF o1:List Int):Option ((List Int)×Int):=
 (Hj n JF).bind fun y1=>
  bif (!y1) then
   (ZM n x8 q JF).bind fun y2=>
    bif (decide (y2.1<0)) then
     if x6=o1.length then
      some (o1,0)
     else none
    else
     if (0<=y2.1/\ y2.1<(x8.length:Int))/\ ((0=0/\ 1=([x8.getD ((y2.1).toNat) 0]:List Int).length)/\ (0=0/\ x6=o1.length)/\ o1.length+([x8.getD ((y2.1).toNat) 0]:List Int).length<=BE) then
      self (.l2 (o1.length+([x8.getD ((y2.1).toNat) 0]:List Int).length) x8 y2.2 (o1++([x8.getD ((y2.1).toNat) 0]:List Int)))
     else none
  else
   if x6=o1.length then
    some (o1,0)
   else none
def tR (n:Nat) (self:Q8 -> Option ((List Int)×Int)) (q:AA) (pos:List Int) (level:Int):Option ((List Int)×Int):=
 (Mb n q pos).bind fun y1=>
  bif (y1 != 0) then
   some (([]:List Int),y1)
  else
   (P0 n q level).bind fun y2=>
    self (.l1 y2)
def Ur (q:AA) (pos:List Int) (level:Int):Nat -> Q8 -> Option ((List Int)×Int)
 | 0,_=>none
 | n+1,.l1 x8=>tQ n (Ur q pos level n) q pos level x8
 | n+1,.l2 x6 x8 JF o1=>tP n (Ur q pos level n) q pos level x6 x8 JF o1
def YU (n:Nat) (q:AA) (pos:List Int) (level:Int):Option ((List Int)×Int):=tR n (Ur q pos level n) q pos level
def tS (n B:Nat) (N:Yd 0) (q:AA) (pos:List Int) (level:Int) (r:(List Int)×Int):Q8 -> Prop
 | .l1 x8=>∀ m0:Nat,n<=m0 -> TW B N (FQ Tryz.f12 0 (.tup 2 (L1 [.ints r.1,.i r.2])) []) (Ak m0 (Au (AZ Tryz.f12) 0 [])) ⟨AM 37 [(4,.ref 0 0),(6,.nils),(8,.ints x8),(9,.fn 39 2 (L1 [.ref 1 0,.ref 0 0]))],[some (.cells [.ints pos]),some (.cells (AD q))]⟩
 | .l2 x6 x8 JF o1=>∀ m0:Nat,n<=m0 -> TW B N (FQ Tryz.f12 0 (.tup 2 (L1 [.ints r.1,.i r.2])) []) (Ak m0 (Au (AZ Tryz.f12) 0 [])) ⟨AM 37 [(4,.ref 0 0),(6,.msl 1 1 0 x6),(8,.ints x8),(9,.fn 39 2 (L1 [.ref 2 0,.ref 0 0]))],[some (.cells [.ints JF]),some (.ints o1),some (.cells (AD q))]⟩
theorem tT (B:Nat) (N:Yd 0) (q:AA) (pos:List Int) (level:Int):Al (Ur q pos level) (tS · B N q pos level):=ia (fun _=>rfl) fun n AG pt r h=>by
 cases pt
 case l1 x8=>
  intro m0 AC;refine rd AC fun m0 AC=>?_
  revert r;apply gO;exact cf Of [some (.cells [.ints pos]),some (.cells (AD q))] fun _=>bi 23 (ce ir [1,0] [some (.cells [.ints pos]),some (.cells (AD q))] fun _=>bi 28 (lF fun p=>el AE [6,7] [] p [] H0 [.nils,.i 0] (AQ.tupL (l:=[.nils,.i 0]) (l':=[.ints ([]:List Int),.i 0]) rfl ⟨AQ.ints_nil,Bh,trivial⟩)) (gc (gi (gi (lG AE [0,3,1] (AG _ _ · m0 AC)))))) (lF fun p=>el AE [6,7] [] p [] H0 [.nils,.i 0] (AQ.tupL (l:=[.nils,.i 0]) (l':=[.ints ([]:List Int),.i 0]) rfl ⟨AQ.ints_nil,Bh,trivial⟩))
 case l2 x6 x8 JF o1=>
  intro m0 AC;refine rd AC fun m0 AC=>?_
  revert r;apply gO;exact cf Of [some (.cells [.ints JF]),some (.ints o1),some (.cells (AD q))] fun _=>bi 23 (ce ir [2,0] [some (.cells [.ints JF]),some (.ints o1),some (.cells (AD q))] fun _=>bi 28 (gn fun g0=>lF fun p=>ez AE [6,7] [1] p [0] (H0.g g0)) (gc (gi (gi (lG AE [0,4,2] (AG _ _ · m0 AC)))))) (gn fun g0=>lF fun p=>ez AE [6,7] [1] p [0] (H0.g g0))
theorem OQ {n:Nat} {q:AA} {pos:List Int} {level:Int} {r:(List Int)×Int} (h:YU n q pos level=some r):EQ 12 [.agg 5 (L1 (AD q)),.ints pos,.i level] [] (.tup 2 (L1 [.ints r.1,.i r.2])) [] true:=by
 refine ot Tryz.func12 fun B N=>?_
 revert r;apply gO;exact cf YN [some (.cells (AD q)),some (.cells [.ints pos])] fun y1=>bi 15 (lF fun p=>el AE [6,7] [] p [] H0 [.nils,.i y1] (AQ.tupL (l:=[.nils,.i y1]) (l':=[.ints ([]:List Int),.i y1]) rfl ⟨AQ.ints_nil,Bh,trivial⟩)) (cf cm [some (.cells (AD q)),some (.cells [.ints pos])] fun _=>lN AE [1,0] ((tT B N q pos level n) _ _ · n Nat.le.refl))
def kP (n:Nat) (q:AA) (pos:List Int) (level:Int):Option (Bool×Int):=
 (HJ n q pos level).bind fun y1=>
  bif (y1.2==0) then
   (NR n y1.1 pos).bind fun y2=>
    some (y2,y1.2)
  else
   some (false,y1.2)
def WD (n:Nat) (q:AA) (pos:List Int) (level:Int):Option (Bool×Int):=kP n q pos level
theorem PK {n:Nat} {q:AA} {pos:List Int} {level:Int} {r:Bool×Int} (h:WD n q pos level=some r):EQ 33 [.agg 5 (L1 (AD q)),.ints pos,.i level] [] (.tup 2 (L1 [.bool r.1,.i r.2])) [] true:=by
 unfold WD kP at h;refine ot Tryz.func33 fun B N=>?_
 revert r;apply gO;exact cf Fi [some (.cells (AD q))] fun _=>bi 17 (cf ax [some (.cells (AD q))] fun _=>lE AE [6,7] []) (lE AE [6,7] [])
end Go.Proofs.YtgkhhfnhacibcaaGreatDoor
namespace Go.Proofs.YtgkhhfnhacibcaaGreatDoor
open Go.RowKit
section
variable {q:AA} {level:Int} {p:List Int}
def FT (q:AA) (level:Int) (k:Nat):List Int:=((List.range k).filter fun i:Nat=>decide (GZ (con q (i:Int)).kind<=level)).map fun i:Nat=>(i:Int)
def Ap (q:AA) (level:Int):List Int:=FT q level q.cons.length
theorem nM {k:Nat}:FT q level (k+1)=FT q level k++if GZ (con q (k:Int)).kind<=level then [(k:Int)] else []:=by
 unfold FT;rw [List.range_succ,List.filter_append,List.map_append]
 congr 1
 by_cases h:GZ (con q (k:Int)).kind<=level
 ·rw [zB3 h];simp [h]
 ·rw [zCt h];simp [h]
theorem TS {k:Nat}:(FT q level k).length<=k:=by
 unfold FT;rw [zDe];exact zCv (List.length_filter_le _ _) (zFW zEM)
theorem LI {i:Int}:i∈Ap q level↔Up q level i:=by
 unfold Ap FT Up;rw [zDr];constructor
 ·rintro ⟨k,h,rfl⟩;rw [zEG,zCy,zCw] at h;exact ⟨by omega,by omega,h.2⟩
 ·rintro ⟨h0,h1,h2⟩;refine ⟨i.toNat,?_,by omega⟩;rw [zEG,zCy,zCw];have e:((i.toNat:Nat):Int)=i:=by omega
  exact ⟨by omega,by rw [e];exact h2⟩
def F8 (cC:List Int) (k:Nat):Nu:=if cC= [] then .l1 (k:Int) else .l2 cC.length (k:Int) cC
theorem iK (hv:Bp q=true) {k:Nat} (hk:k<q.cons.length):Hi q (k:Int)=(GZ (con q (k:Int)).kind,0):=by
 unfold Hi;rw [zCt (by rw [hv];exact fun h=>by cases h),zB3 ⟨by omega,by omega⟩];rfl
theorem nP (hF:CW q) (hv:Bp q=true) {n k:Nat} (hn:D7 q<=n) (hk:k<q.cons.length):GT q level (n+1) (F8 (FT q level k) k)=GT q level n (F8 (FT q level (k+1)) (k+1)):=by
 have h4:=(DX hv).2.2.2.2.1;have AL:decide ((k:Int)<(q.cons.length:Int))=true:=zCm (by omega);have hr:AI ((k:Int)+1):=An.2 ⟨by omega,by omega⟩;have ek:((k+1:Nat):Int)=(k:Int)+1:=by omega
 rw [nM]
 by_cases ha:FT q level k= []
 ·rw [ha,zD2]
  show Pz n (GT q level n) q level (k:Int)=_
  unfold Pz;rw [AL,zCk,Yx hF hn,zCj,iK hv hk]
  show (bif decide (GZ (con q (k:Int)).kind<=level) then _ else _)=_
  by_cases hl:GZ (con q (k:Int)).kind<=level
  ·rw [zCm hl,zCk,zB3 hl,zB3 ⟨⟨⟨rfl,rfl⟩,Nat.one_pos,by unfold BE;simp⟩,hr⟩]
   show _=GT q level n (F8 [(k:Int)] (k+1))
   unfold F8;rw [zCt (by simp),ek]
  ·rw [zAZ hl,zAc,zCt hl,zB3 hr]
   show _=GT q level n (F8 [] (k+1))
   unfold F8;rw [zB3 rfl,ek]
 ·have Ah:=TS (q:=q) (level:=level) (k:=k);have e0:F8 (FT q level k) k= .l2 (FT q level k).length (k:Int) (FT q level k):=by unfold F8;rw [zCt ha]
  rw [e0]
  show Py n (GT q level n) q level (FT q level k).length (k:Int) (FT q level k)=_
  unfold Py;rw [AL,zCk,Yx hF hn,zCj,iK hv hk]
  show (bif decide (GZ (con q (k:Int)).kind<=level) then _ else _)=_
  by_cases hl:GZ (con q (k:Int)).kind<=level
  ·rw [zCm hl,zCk,zB3 hl,zB3 ⟨⟨⟨rfl,rfl⟩,⟨rfl,rfl⟩,by unfold BE;simp;omega⟩,hr⟩];unfold F8;rw [zCt (by simp),ek,zDC]
  ·rw [zAZ hl,zAc,zCt hl,zB3 hr,zEX];unfold F8;rw [zCt ha,ek]
theorem nQ (hF:CW q) (hv:Bp q=true):Ev (fun n=>P0 n q level) (Ap q level):=by
 obtain ⟨_,_,h⟩:=LL (m:=GT q level) (S:=Unit) (fun k _=>F8 (FT q level k) k) (fun _ _=>True) q.cons.length (fun k s hk _=>⟨(),trivial,Aw.oneN (D7 q) fun n hn=>nP hF hv hn hk⟩) q.cons.length 0 () (by omega) trivial;have h0:F8 (FT q level 0) 0= .l1 0:=rfl;simp only [h0] at h;refine h.ev (Ev.one fun n=>?_);have AL:decide ((q.cons.length:Int)<(q.cons.length:Int))=false:=zAZ (by omega)
 show GT q level (n+1) (F8 (Ap q level) q.cons.length)=some (Ap q level)
 by_cases ha:Ap q level= []
 ·rw [ha]
  show Pz n (GT q level n) q level (q.cons.length:Int)=_
  unfold Pz;rw [AL,zAc]
 ·have e0:F8 (Ap q level) q.cons.length= .l2 (Ap q level).length (q.cons.length:Int) (Ap q level):=by unfold F8;rw [zCt ha]
  rw [e0]
  show Py n (GT q level n) q level (Ap q level).length (q.cons.length:Int) (Ap q level)=_
  unfold Py;rw [AL,zAc,zB3 rfl]
end
structure QI (K:Nat) (ws:List Bool) (Q:List Int):Prop where
 len:ws.length=4096
 nd:Q.Nodup
 rng: ∀ i∈Q,0<=i/\ i<(K:Int)
 iff: ∀ i:Nat,i<4096 -> (ws.getD i false=true↔(i:Int)∈Q)
section
variable {K o n:Nat} {ws:List Bool} {Q l qu:List Int} {v:Int}
theorem QI.le (h:QI K ws Q):Q.length<=K:=OT K Q h.nd h.rng
theorem QI.push (h:QI K ws Q) (hK:K<=4096) (h0:0<=v) (h1:v<(K:Int)) (hw:ws.getD v.toNat false=false):QI K (ws.set v.toNat true) (Q++[v]):=by
 have hv:v∉Q:=fun hm=>by
  have e:((v.toNat:Nat):Int)=v:=by omega
  have:=(h.iff v.toNat (by omega)).2 (by rw [e];exact hm);rw [hw] at this;cases this
 refine ⟨by rw [zDE];exact h.len,List.nodup_append.2 ⟨h.nd,by simp,fun a ha b hb=>by rintro rfl;simp at hb;subst hb;exact hv ha⟩,fun i hi=>?_,fun i hi=>?_⟩
 ·rcases zC9.1 hi with hi | hi
  ·exact h.rng i hi
  ·simp at hi;subst hi;exact ⟨h0,h1⟩
 ·rw [zC9,zC2,←h.iff i hi,u8,zDP,u8];have hl:v.toNat<ws.length:=by rw [h.len];omega
  by_cases e:v.toNat=i
  ·rw [zB3 e,zB3 hl];constructor
   ·intro _;exact .inr (by omega)
   ·intro _;rfl
  ·rw [zCt e];constructor
   ·exact .inl
   ·rintro (h | h)
    ·exact h
    ·omega
theorem QI.pop (h:QI K ws (v::Q)) (hK:K<=4096):QI K (ws.set v.toNat false) Q:=by
 obtain ⟨hv,A5⟩:=zFA.1 h.nd;have hr:=h.rng v (by simp);refine ⟨by rw [zDE];exact h.len,A5,fun i hi=>h.rng i (by simp [hi]),fun i hi=>?_⟩;have hl:v.toNat<ws.length:=by rw [h.len];omega
 rw [u8,zDP]
 by_cases e:v.toNat=i
 ·rw [zB3 e,zB3 hl];constructor
  ·intro hx;cases hx
  ·intro hx;have:((i:Nat):Int)=v:=by omega
   rw [this] at hx;exact absurd hx hv
 ·rw [zCt e,←u8,h.iff i hi,zDF];constructor
  ·rintro (hx | hx)
   ·omega
   ·exact hx
  ·exact .inr
structure MQ (K:Nat) (ws:List Bool) (o n:Nat) (qu Q:List Int):Prop where
 sum:o+n=qu.length
 eq:qu.drop o=Q
 qi:QI K ws Q
theorem MQ.cnt (h:MQ K ws o n qu Q):n=Q.length:=by rw [←h.eq,zE2];have:=h.sum;omega
theorem zCd (hK:K<=4096) (hl: ∀ v∈l,0<=v/\ v<(K:Int)) (Ah:l.length<=LB) (h:MQ K ws o n qu Q):
 ∃ Bj o' n' C2 Q',Ev (fun m=>Kd m l ws o n qu) (Bj,o',n',C2)/\ MQ K Bj o' n' C2 Q'/\ ∀ i,i∈Q'↔i∈Q∨i∈l:=by
 obtain ⟨⟨Bj,o',n',C2,Q'⟩,⟨h1,h2⟩,h3⟩:=LL (m:=Nj l ws o n qu) (S:=List Bool×Nat×Nat×List Int×List Int) (fun j s=>.l1 (j:Int) s.1 s.2.1 s.2.2.1 s.2.2.2.1) (fun j s=>MQ K s.1 s.2.1 s.2.2.1 s.2.2.2.1 s.2.2.2.2/\ ∀ i,i∈s.2.2.2.2↔i∈Q∨i∈l.take j) l.length (fun j s hj hI=>by
  obtain ⟨CT,o1,n1,I9,Q1⟩:=s;obtain ⟨hM,CD⟩:=hI;have hM:MQ K CT o1 n1 I9 Q1:=hM;have CD: ∀ i,i∈Q1↔i∈Q∨i∈l.take j:=CD;have AL:decide ((j:Int)<(l.length:Int))=true:=zCm (by omega);have hr:AI ((j:Int)+1):=An.2 ⟨by omega,by unfold LB at Ah;omega⟩;have ej:((j+1:Nat):Int)=(j:Int)+1:=by omega
  have FJ:l.getD j 0∈l:=by rw [u8,zAe hj];exact zC5 hj
  obtain ⟨Hm,BZ⟩:=hl _ FJ;have M4:l.take (j+1)=l.take j++[l.getD j 0]:=by rw [zDv hj];simp [hj]
  have hg:(0<=(j:Int)/\ (j:Int)<(l.length:Int))/\ (0<=l.getD ((j:Int)).toNat 0/\ l.getD ((j:Int)).toNat 0<((4096:Nat):Int))/\ 0+(l.getD ((j:Int)).toNat 0).toNat<CT.length:=by
   rw [zCi,hM.qi.len];omega
  cases hw:CT.getD (l.getD j 0).toNat false with
  | false=>
   have Bx:=hM.qi.le;have hn:=hM.cnt;refine ⟨(CT.set (l.getD j 0).toNat true,0,n1+1,Q1++[l.getD j 0],Q1++[l.getD j 0]),⟨⟨by simp;omega,rfl,hM.qi.push hK Hm BZ hw⟩,fun i=>?_⟩,Aw.one fun m=>?_⟩
   ·show i∈Q1++[l.getD j 0]↔_
    rw [M4,zC9,zC9,CD i];constructor
    ·rintro ((h | h) | h)
     ·exact .inl h
     ·exact .inr (.inl h)
     ·exact .inr (.inr h)
    ·rintro (h | h | h)
     ·exact .inl (.inl h)
     ·exact .inl (.inr h)
     ·exact .inr h
   ·show Nk m (Nj l ws o n qu m) l ws o n qu (j:Int) CT o1 n1 I9=_
    unfold Nk;rw [AL,zCk,zB3 hg,zCi,zC4,hw,zDd,zCk,zB3 ⟨hM.sum,by unfold BE;simp;omega,hr⟩,hM.eq,ej];rfl
  | true=>
   refine ⟨(CT,o1,n1,I9,Q1),⟨hM,fun i=>?_⟩,Aw.one fun m=>?_⟩
   ·show i∈Q1↔_
    have CH:l.getD j 0∈Q1:=by
     have e:(((l.getD j 0).toNat:Nat):Int)=l.getD j 0:=by omega
     have:=(hM.qi.iff (l.getD j 0).toNat (by omega)).1 hw;rw [e] at this;exact this
    rw [M4,zC9,CD i];constructor
    ·rintro (h | h)
     ·exact .inl h
     ·exact .inr (.inl h)
    ·rintro (h | h | h)
     ·exact .inl h
     ·exact .inr h
     ·rw [zC2] at h;subst h;exact (CD _).1 CH
   ·show Nk m (Nj l ws o n qu m) l ws o n qu (j:Int) CT o1 n1 I9=_
    unfold Nk;rw [AL,zCk,zB3 hg,zCi,zC4,hw,zDR,zAc,zB3 hr,ej]) l.length 0 (ws,o,n,qu,Q) (by omega) ⟨h,fun i=>by simp⟩
 refine ⟨Bj,o',n',C2,Q',h3.ev (Ev.one fun m=>?_),h1,fun i=>by have:=h2 i;simpa using this⟩;have AL:decide ((l.length:Int)<(l.length:Int))=false:=zAZ (by omega)
 show Nk m (Nj l ws o n qu m) l ws o n qu (l.length:Int) Bj o' n' C2=_
 unfold Nk;rw [AL,zAc]
def Fm (j:Nat) (s:List Bool×List Int):Pi:=if s.2= [] then .l1 (j:Int) else .l2 (j:Int) s.1 s.2.length s.2
theorem mj (hK:K<=4096) (hl: ∀ v∈l,0<=v/\ v<(K:Int)) (Ah:l.length<=LB) (h:QI K ws []):
 ∃ Bj Q',Ev (fun m=>Lv m l ws) (Bj,0,Q'.length,Q',decide (Q'= []))/\ QI K Bj Q'/\ ∀ i,i∈Q'↔i∈l:=by
 obtain ⟨⟨Bj,Q'⟩,⟨h1,h2,h4⟩,h3⟩:=LL (m:=Hz l ws) (S:=List Bool×List Int) (fun j s=>Fm j s) (fun j s=>QI K s.1 s.2/\ (∀ i,i∈s.2↔i∈l.take j)/\ (s.2= [] -> s.1=ws)) l.length (fun j s hj hI=>by
  obtain ⟨CT,Q1⟩:=s;obtain ⟨hM,CD,VZ⟩:=hI;have hM:QI K CT Q1:=hM;have CD: ∀ i,i∈Q1↔i∈l.take j:=CD;have VZ:Q1= [] -> CT=ws:=VZ;have AL:decide ((j:Int)<(l.length:Int))=true:=zCm (by omega);have hr:AI ((j:Int)+1):=An.2 ⟨by omega,by unfold LB at Ah;omega⟩;have ej:((j+1:Nat):Int)=(j:Int)+1:=by omega
  have FJ:l.getD j 0∈l:=by rw [u8,zAe hj];exact zC5 hj
  obtain ⟨Hm,BZ⟩:=hl _ FJ;have M4:l.take (j+1)=l.take j++[l.getD j 0]:=by rw [zDv hj];simp [hj]
  have hg:(0<=(j:Int)/\ (j:Int)<(l.length:Int))/\ (0<=l.getD ((j:Int)).toNat 0/\ l.getD ((j:Int)).toNat 0<((4096:Nat):Int))/\ 0+(l.getD ((j:Int)).toNat 0).toNat<CT.length:=by
   rw [zCi,hM.len];omega
  have Bx:=hM.le;cases hw:CT.getD (l.getD j 0).toNat false with
  | false=>
   refine ⟨(CT.set (l.getD j 0).toNat true,Q1++[l.getD j 0]),⟨hM.push hK Hm BZ hw,fun i=>?_,fun e=>by simp at e⟩,Aw.one fun m=>?_⟩
   ·show i∈Q1++[l.getD j 0]↔_
    rw [M4,zC9,zC9,CD i]
   ·have e2:Fm (j+1) (CT.set (l.getD j 0).toNat true,Q1++[l.getD j 0])= .l2 ((j:Int)+1) (CT.set (l.getD j 0).toNat true) (Q1.length+1) (Q1++[l.getD j 0]):=by
     unfold Fm;rw [zCt (by simp),ej,zDC];rfl
    rw [e2]
    by_cases hq:Q1= []
    ·have e1:Fm j (CT,Q1)= .l1 (j:Int):=by unfold Fm;rw [zB3 hq]
     rw [e1];have:=VZ hq;subst this;subst hq
     show TN m (Hz l CT m) l CT (j:Int)=_
     unfold TN;rw [AL,zCk,zB3 hg,zCi,zC4,hw,zDd,zCk,zB3 ⟨⟨⟨rfl,rfl⟩,Nat.one_pos,by unfold BE;simp⟩,hr⟩];rfl
    ·have e1:Fm j (CT,Q1)= .l2 (j:Int) CT Q1.length Q1:=by unfold Fm;rw [zCt hq]
     rw [e1]
     show Ni m (Hz l ws m) l ws (j:Int) CT Q1.length Q1=_
     unfold Ni;rw [AL,zCk,zB3 hg,zCi,zC4,hw,zDd,zCk,zB3 ⟨by omega,by unfold BE;simp;omega,hr⟩];rfl
  | true=>
   have CH:l.getD j 0∈Q1:=by
    have e:(((l.getD j 0).toNat:Nat):Int)=l.getD j 0:=by omega
    have:=(hM.iff (l.getD j 0).toNat (by omega)).1 hw;rw [e] at this;exact this
   have hq:Q1≠[]:=fun e=>by rw [e] at CH;cases CH
   refine ⟨(CT,Q1),⟨hM,fun i=>?_,VZ⟩,Aw.one fun m=>?_⟩
   ·show i∈Q1↔_
    rw [M4,zC9,←CD i];constructor
    ·exact .inl
    ·rintro (h | h)
     ·exact h
     ·rw [zC2] at h;subst h;exact CH
   ·have e1:Fm j (CT,Q1)= .l2 (j:Int) CT Q1.length Q1:=by unfold Fm;rw [zCt hq]
    have e2:Fm (j+1) (CT,Q1)= .l2 ((j:Int)+1) CT Q1.length Q1:=by unfold Fm;rw [zCt hq,ej]
    rw [e1,e2]
    show Ni m (Hz l ws m) l ws (j:Int) CT Q1.length Q1=_
    unfold Ni;rw [AL,zCk,zB3 hg,zCi,zC4,hw,zDR,zAc,zB3 hr]) l.length 0 (ws,[]) (by omega) ⟨h,fun i=>by simp,fun _=>rfl⟩
 have h2: ∀ i,i∈Q'↔i∈l:=fun i=>by have:=h2 i;simpa using this
 have h4:Q'= [] -> Bj=ws:=h4;refine ⟨Bj,Q',?_,h1,h2⟩;have e0:Hz l ws=Hz l ws:=rfl;have AL:decide ((l.length:Int)<(l.length:Int))=false:=zAZ (by omega);refine Aw.ev (a:=Fm 0 (ws,[])) h3 (Ev.one fun m=>?_)
 by_cases hq:Q'= []
 ·have e1:Fm l.length (Bj,Q')= .l1 (l.length:Int):=by unfold Fm;rw [zB3 hq]
  have:=h4 hq;subst this;rw [e1,hq]
  show TN m (Hz l Bj m) l Bj (l.length:Int)=_
  unfold TN;rw [AL,zAc];rfl
 ·have e1:Fm l.length (Bj,Q')= .l2 (l.length:Int) Bj Q'.length Q':=by unfold Fm;rw [zCt hq]
  rw [e1,zAZ hq]
  show Ni m (Hz l ws m) l ws (l.length:Int) Bj Q'.length Q'=_
  unfold Ni;rw [AL,zAc]
end
end Go.Proofs.YtgkhhfnhacibcaaGreatDoor
namespace Go.Proofs.YtgkhhfnhacibcaaGreatDoor
open Go.RowKit
def EO (q:AA) (level:Int) (p g:List Int):Prop:=(B0 p=true/\ g=List.replicate p.length 0)∨(B0 p=false/\ DK q (Up q level) p g/\ Kg q (Up q level) g)
structure OF (q:AA) (level:Int) (f:Int -> List Int) (T:Nat):Prop where
 snd: ∀ c i,i∈f c -> Up q level i
 len: ∀ c,(f c).length<=T
section
variable {q:AA} {level:Int} {p cells:List Int} {f:Int -> List Int}
theorem EO.uniq (hp:BF q p) {g g':List Int} (h:EO q level p g) (h':EO q level p g'):g=g':=by
 rcases h with ⟨h1,h2⟩ | ⟨h1,h2,h3⟩
 ·rcases h' with ⟨h4,h5⟩ | ⟨h4,_,_⟩
  ·rw [h2,h5]
  ·rw [h1] at h4;cases h4
 ·rcases h' with ⟨h4,_⟩ | ⟨_,h5,h6⟩
  ·rw [h1] at h4;cases h4
  ·exact DK.uniq TT hp h2 h5 h3 h6
theorem ci {a:Nat} (ha:a<(Ap q level).length):Up q level ((Ap q level).getD a 0):=by
 refine LI.1 ?_;rw [u8,zAe ha];exact zC5 ha
theorem zBS (hv:Bp q=true) {i:Int} (h:Up q level i):(∀ x∈(con q i).cells,0<=x/\ x<q.cells)/\ (con q i).cells.length<=256:=by
 have hm:con q i∈q.cons:=by
  have h0:=h.1;have h1:=h.2.1;unfold con;rw [u8,zAe (by omega)];exact zC5 _
 have hf:=(DX hv).2.2.2.2.2 _ hm;unfold DE at hf;simp only [zCp] at hf;obtain ⟨h1,h2,_⟩:=bQ.1 hf.1.1.1.1.1;have h3:=(DX hv).1;refine ⟨h1,?_⟩;have:=OT q.cells.toNat _ h2 fun x hx=>by have:=h1 x hx;omega
 omega
theorem tY (hv:Bp q=true) {a:Nat} (ha:a<(Ap q level).length) {T:Nat} (hT:T<=2000000) (hO:OF q level f T):
 ∃ f',Aw (Bs q p cells level) (.l2 (Ap q level) ((Ap q level).getD a 0) (Ap q level) ((Ap q level).length:Int) (a:Int) (con q ((Ap q level).getD a 0)).cells ((con q ((Ap q level).getD a 0)).cells.length:Int) 0 f) (.l1 (Ap q level) (Ap q level) ((Ap q level).length:Int) ((a+1:Nat):Int) f')/\
  OF q level f' (T+256)/\ (∀ c i,i∈f c -> i∈f' c)/\ ∀ c∈(con q ((Ap q level).getD a 0)).cells,(Ap q level).getD a 0∈f' c:=by
 have hU:=ci ha;obtain ⟨Vu,Id⟩:=zBS hv hU;have Va:(Ap q level).length<=4096:=zCv TS (DX hv).2.2.2.2.1
 generalize (Ap q level).getD a 0=i at hU Vu Id ⊢
 generalize (con q i).cells=cs at Vu Id ⊢
 obtain ⟨f',⟨h1,h2,h3⟩,h4⟩:=LL (m:=Bs q p cells level) (S:=Int -> List Int) (fun b f=>.l2 (Ap q level) i (Ap q level) ((Ap q level).length:Int) (a:Int) cs (cs.length:Int) (b:Int) f) (fun b g=>OF q level g (T+b)/\ (∀ c i,i∈f c -> i∈g c)/\ ∀ c∈cs.take b,i∈g c) cs.length (fun b g hb hI=>by
  obtain ⟨hg,hs,hd⟩:=hI;have AL:decide ((b:Int)<(cs.length:Int))=true:=zCm (by omega);have hr:AI ((b:Int)+1):=An.2 ⟨by omega,by omega⟩;have eb:((b+1:Nat):Int)=(b:Int)+1:=by omega
  have M4:cs.take (b+1)=cs.take b++[cs.getD b 0]:=by rw [zDv hb];simp [hb]
  refine ⟨Gn g (cs.getD b 0) (g (cs.getD b 0)++[i]),⟨⟨fun c j hj=>?_,fun c=>?_⟩,fun c j hj=>?_,fun c hc=>?_⟩,Aw.one fun m=>?_⟩
  ·unfold Gn at hj;split at hj
   ·rcases zC9.1 hj with hj | hj
    ·exact hg.snd _ _ hj
    ·rw [zC2] at hj;subst hj;exact hU
   ·exact hg.snd _ _ hj
  ·unfold Gn;split
   ·rw [zDC,zDM];have:=hg.len (cs.getD b 0);omega
   ·have:=hg.len c;omega
  ·unfold Gn;split
   ·rename_i e;subst e;exact zDL _ (hs _ _ hj)
   ·exact hs _ _ hj
  ·rw [M4,zC9,zC2] at hc;unfold Gn;split
   ·exact zDX _ (by simp)
   ·rename_i AY;rcases hc with hc | hc
    ·exact hd c hc
    ·exact absurd hc AY
  ·show Qt m (Bs q p cells level m) q p cells level (Ap q level) i (Ap q level) ((Ap q level).length:Int) (a:Int) cs (cs.length:Int) (b:Int) g=_
   unfold Qt;rw [AL,zCk,zCi,zB3 ⟨by omega,by have:=hg.len (cs.getD b 0);unfold BE;rw [zDM];omega,hr⟩,eb]) cs.length 0 f (by omega) ⟨hO,fun c i h=>h,fun c hc=>by simp at hc⟩
 refine ⟨f',h4.trans (Aw.one fun m=>?_),⟨h1.snd,fun c=>zCv (h1.len c) (by omega)⟩,h2,fun c hc=>h3 c (by simpa using hc)⟩;have AL:decide ((cs.length:Int)<(cs.length:Int))=false:=zAZ (by omega);have hr:AI ((a:Int)+1):=An.2 ⟨by omega,by omega⟩
 show Qt m (Bs q p cells level m) q p cells level (Ap q level) i (Ap q level) ((Ap q level).length:Int) (a:Int) cs (cs.length:Int) (cs.length:Int) f'=_
 unfold Qt;rw [AL,zAc,zB3 hr,show ((a+1:Nat):Int)=(a:Int)+1 by omega]
theorem tZ (hv:Bp q=true):
 ∃ f',Aw (Bs q p cells level) (.l1 (Ap q level) (Ap q level) ((Ap q level).length:Int) 0 (fun _=>[])) (.l3 (Ap q level) 0 f' (List.replicate 4096 false))/\ OF q level f' 2000000/\ ∀ i,Up q level i -> ∀ c∈(con q i).cells,i∈f' c:=by
 have Va:(Ap q level).length<=4096:=zCv TS (DX hv).2.2.2.2.1
 obtain ⟨f',⟨h1,h2⟩,h3⟩:=LL (m:=Bs q p cells level) (S:=Int -> List Int) (fun a f=>.l1 (Ap q level) (Ap q level) ((Ap q level).length:Int) (a:Int) f) (fun a g=>OF q level g (256*a)/\ ∀ a',a'<a -> ∀ c∈(con q ((Ap q level).getD a' 0)).cells,(Ap q level).getD a' 0∈g c) (Ap q level).length (fun a g ha hI=>by
  obtain ⟨hg,hd⟩:=hI;obtain ⟨g',e1,e2,e3,e4⟩:=tY (p:=p) (cells:=cells) hv ha (by omega) hg;have hU:=ci ha;have AL:decide ((a:Int)<((Ap q level).length:Int))=true:=zCm (by omega);refine ⟨g',⟨⟨e2.snd,fun c=>zCv (e2.len c) (by omega)⟩,fun a' jx c hc=>?_⟩,Aw.trans (Aw.one fun m=>?_) e1⟩
  ·by_cases e:a'=a
   ·subst e;exact e4 c hc
   ·exact e3 _ _ (hd a' (by omega) c hc)
  ·show Qu m (Bs q p cells level m) q p cells level (Ap q level) (Ap q level) ((Ap q level).length:Int) (a:Int) g=_
   unfold Qu;rw [AL,zCk,zCi,zB3 ⟨by omega,hU.1,hU.2.1⟩];rfl) (Ap q level).length 0 (fun _=>[]) (by omega) ⟨⟨fun c i h=>(by cases h),fun c=>zC6 0⟩,fun a' jx=>absurd jx (zCz _)⟩
 refine ⟨f',h3.trans (Aw.one fun m=>?_),⟨h1.snd,fun c=>zCv (h1.len c) (by omega)⟩,fun i hi c hc=>?_⟩
 ·have AL:decide (((Ap q level).length:Int)<((Ap q level).length:Int))=false:=zAZ (by omega)
  show Qu m (Bs q p cells level m) q p cells level (Ap q level) (Ap q level) ((Ap q level).length:Int) ((Ap q level).length:Int) f'=_
  unfold Qu;rw [AL,zAc]
 ·obtain ⟨a,ha,e⟩:=zDq (LI.2 hi);have e':(Ap q level).getD a 0=i:=by rw [u8,zAe ha];exact e
  have:=h2 a ha c (by rw [e'];exact hc);rw [e'] at this;exact this
structure WQ (q:AA) (level:Int) (ws:List Bool) (o n:Nat) (qu Q:List Int):Prop where
 mq:MQ q.cons.length ws o n qu Q
 up: ∀ i∈Q,Up q level i
def dq (q:AA) (level:Int) (f:Int -> List Int) (j:Nat) (s:List Bool×Option (Nat×Nat×List Int)):IM:=match s.2 with
 | none=>.l3 (Ap q level) (j:Int) f s.1
 | some (o,n,qu)=>.l4 (Ap q level) (j:Int) f s.1 o n qu
def IC (q:AA) (level:Int) (s:List Bool×Option (Nat×Nat×List Int)):Prop:=match s.2 with
 | none=>QI q.cons.length s.1 []
 | some (o,n,qu)=>∃ Q,WQ q level s.1 o n qu Q
theorem XN {l:List Int} (h: ∀ i∈l,Up q level i): ∀ i∈l,0<=i/\ i<(q.cons.length:Int):=fun i hi=>⟨(h i hi).1,(h i hi).2.1⟩
theorem WQ.add (hK:q.cons.length<=4096) {ws:List Bool} {o n:Nat} {qu Q l:List Int} (h:WQ q level ws o n qu Q) (hl: ∀ i∈l,Up q level i) (Ah:l.length<=LB):
 ∃ Bj o' n' C2 Q',Ev (fun m=>Kd m l ws o n qu) (Bj,o',n',C2)/\ WQ q level Bj o' n' C2 Q'/\ ∀ i,i∈Q'↔i∈Q∨i∈l:=by
 obtain ⟨Bj,o',n',C2,Q',h1,h2,h3⟩:=zCd hK (XN hl) Ah h.mq;exact ⟨Bj,o',n',C2,Q',h1,⟨h2,fun i hi=>((h3 i).1 hi).elim (h.up i) (hl i)⟩,h3⟩
theorem zBk (hv:Bp q=true) (BQ:cells.length<=LB) (hO:OF q level f 2000000):
 ∃ s',IC q level s'/\ Aw (Bs q p cells level) (.l3 (Ap q level) 0 f (List.replicate 4096 false)) (dq q level f cells.length s'):=by
 have hK:=(DX hv).2.2.2.2.1
 obtain ⟨s',h1,h2⟩:=LL (m:=Bs q p cells level) (S:=List Bool×Option (Nat×Nat×List Int)) (dq q level f) (fun _ s=>IC q level s) cells.length (fun j s hj hI=>by
  have AL:decide ((j:Int)<(cells.length:Int))=true:=zCm (by omega);have hr:AI ((j:Int)+1):=An.2 ⟨by omega,by unfold LB at BQ;omega⟩;have ej:((j+1:Nat):Int)=(j:Int)+1:=by omega
  have aG:(f (cells.getD j 0)).length<=LB:=zCv (hO.len _) (by decide);have LY: ∀ i∈f (cells.getD j 0),Up q level i:=fun i hi=>hO.snd _ i hi
  obtain ⟨ws,st⟩:=s;cases st with
  | none=>
   have hI:QI q.cons.length ws []:=hI;obtain ⟨Bj,Q',⟨N,e1⟩,e2,e3⟩:=mj hK (XN LY) aG hI;have e1: ∀ m,N<=m -> Lv m (f (cells.getD j 0)) ws=some (Bj,0,Q'.length,Q',decide (Q'= [])):=e1
   by_cases hQ:Q'= []
   ·refine ⟨(Bj,none),by rw [hQ] at e2;exact e2,Aw.oneN N fun m hm=>?_⟩
    show Jy m (Bs q p cells level m) q p cells level (Ap q level) (j:Int) f ws=Bs q p cells level m (.l3 (Ap q level) ((j+1:Nat):Int) f Bj)
    unfold Jy;rw [AL,zCk,zB3 (by omega),zCi,e1 m hm,zCj,zCm hQ]
    show (if AI ((j:Int)+1) then _ else _)=_
    rw [zB3 hr,ej]
   ·refine ⟨(Bj,some (0,Q'.length,Q')),⟨Q',⟨⟨by omega,rfl,e2⟩,fun i hi=>LY i ((e3 i).1 hi)⟩⟩,Aw.oneN N fun m hm=>?_⟩
    show Jy m (Bs q p cells level m) q p cells level (Ap q level) (j:Int) f ws=Bs q p cells level m (.l4 (Ap q level) ((j+1:Nat):Int) f Bj 0 Q'.length Q')
    unfold Jy;rw [AL,zCk,zB3 (by omega),zCi,e1 m hm,zCj,zAZ hQ]
    show (if AI ((j:Int)+1) then _ else _)=_
    rw [zB3 hr,ej]
  | some s1=>
   obtain ⟨o,n,qu⟩:=s1;obtain ⟨Q,hW⟩:=(hI: ∃ Q,WQ q level ws o n qu Q);have hW:WQ q level ws o n qu Q:=hW;obtain ⟨Bj,o',n',C2,Q',⟨N,e1⟩,e2,_⟩:=hW.add hK LY aG;have e1: ∀ m,N<=m -> Kd m (f (cells.getD j 0)) ws o n qu=some (Bj,o',n',C2):=e1;refine ⟨(Bj,some (o',n',C2)),⟨Q',e2⟩,Aw.oneN N fun m hm=>?_⟩
   show Qs m (Bs q p cells level m) q p cells level (Ap q level) (j:Int) f ws o n qu=Bs q p cells level m (.l4 (Ap q level) ((j+1:Nat):Int) f Bj o' n' C2)
   unfold Qs;rw [AL,zCk,zB3 (by omega),zCi,e1 m hm,zCj]
   show (if AI ((j:Int)+1) then _ else _)=_
   rw [zB3 hr,ej]) cells.length 0 (List.replicate 4096 false,none) (by omega) (by
  refine ⟨zC0,List.nodup_nil,fun i hi=>(by cases hi),fun i hi=>⟨fun h=>?_,fun h=>(by cases h)⟩⟩;rw [u8,zDc,zB3 hi] at h;cases h)
 exact ⟨s',h1,h2⟩
theorem zB1 (hv:Bp q=true) (BQ:cells.length<=LB):
 ∃ f,OF q level f 2000000/\ (∀ i,Up q level i -> ∀ c∈(con q i).cells,i∈f c)/\ ((Aw (Bs q p cells level) (.l1 (Ap q level) (Ap q level) ((Ap q level).length:Int) 0 (fun _=>[])) (.l5 f (List.replicate 4096 false))∨
  (∃ ws,Aw (Bs q p cells level) (.l1 (Ap q level) (Ap q level) ((Ap q level).length:Int) 0 (fun _=>[])) (.l5 f ws)))/\ (∀ i,¬ Up q level i)∨
  ∃ ws o n qu Q,WQ q level ws o n qu Q/\ (∀ i,Up q level i -> i∈Q)/\ Aw (Bs q p cells level) (.l1 (Ap q level) (Ap q level) ((Ap q level).length:Int) 0 (fun _=>[])) (.l6 p f ws o n qu)):=by
 have hK:=(DX hv).2.2.2.2.1;obtain ⟨f,g1,g2,g3⟩:=tZ (q:=q) (level:=level) (p:=p) (cells:=cells) hv;obtain ⟨⟨ws,st⟩,h1,h2⟩:=zBk (p:=p) hv BQ g2;have h2:=g1.trans h2;have Va:(Ap q level).length<=LB:=zCv TS (zCv hK (by decide));have AL:decide ((cells.length:Int)<(cells.length:Int))=false:=zAZ (by omega);refine ⟨f,g2,g3,?_⟩;cases st with
 | none=>
  have h1:QI q.cons.length ws []:=h1;obtain ⟨Bj,Q',⟨N,e1⟩,e2,e3⟩:=mj hK (XN fun i hi=>LI.1 hi) Va h1;have e1: ∀ m,N<=m -> Lv m (Ap q level) ws=some (Bj,0,Q'.length,Q',decide (Q'= [])):=e1
  by_cases hQ:Q'= []
  ·refine .inl ⟨.inr ⟨Bj,h2.trans (Aw.oneN N fun m hm=>?_)⟩,fun i hi=>by have:=(e3 i).2 (LI.2 hi);rw [hQ] at this;cases this⟩
   show Jy m (Bs q p cells level m) q p cells level (Ap q level) (cells.length:Int) f ws=_
   unfold Jy;rw [AL,zAc,e1 m hm,zCj,zCm hQ];rfl
  ·refine .inr ⟨Bj,0,Q'.length,Q',Q',⟨⟨by omega,rfl,e2⟩,fun i hi=>LI.1 ((e3 i).1 hi)⟩,fun i hi=>(e3 i).2 (LI.2 hi),h2.trans (Aw.oneN N fun m hm=>?_)⟩
   show Jy m (Bs q p cells level m) q p cells level (Ap q level) (cells.length:Int) f ws=_
   unfold Jy;rw [AL,zAc,e1 m hm,zCj,zAZ hQ];rfl
 | some s1=>
  obtain ⟨o,n,qu⟩:=s1;obtain ⟨Q,hW⟩:=(h1: ∃ Q,WQ q level ws o n qu Q);have hW:WQ q level ws o n qu Q:=hW;obtain ⟨Bj,o',n',C2,Q',⟨N,e1⟩,e2,e3⟩:=hW.add hK (fun i hi=>LI.1 hi) Va;have e1: ∀ m,N<=m -> Kd m (Ap q level) ws o n qu=some (Bj,o',n',C2):=e1;refine .inr ⟨Bj,o',n',C2,Q',e2,fun i hi=>(e3 i).2 (.inr (LI.2 hi)),h2.trans (Aw.oneN N fun m hm=>?_)⟩
  show Qs m (Bs q p cells level m) q p cells level (Ap q level) (cells.length:Int) f ws o n qu=_
  unfold Qs;rw [AL,zAc,e1 m hm,zCj]
end
end Go.Proofs.YtgkhhfnhacibcaaGreatDoor
namespace Go.Proofs.YtgkhhfnhacibcaaGreatDoor
open Go.RowKit
section
variable {q:AA} {level:Int} {pos p x cells:List Int} {f:Int -> List Int}
theorem zBi (hv:Bp q=true) (hO:OF q level f 2000000) (hl:x.length=p.length) (hp:p.length<=256) {ws:List Bool} {o n:Nat} {qu Q:List Int} (h:WQ q level ws o n qu Q):
 ∃ Bj o' n' C2 Q',WQ q level Bj o' n' C2 Q'/\ (∀ i∈Q,i∈Q')/\ (∀ c,c<p.length -> x.getD c 0≠p.getD c 0 -> ∀ i∈f (c:Int),i∈Q')/\ ((∀ c,c<p.length -> x.getD c 0=p.getD c 0) -> Q'=Q)/\
  Aw (Bs q pos cells level) (.l7 p x (x.length:Int) 0 f ws o n qu) (.l6 x f Bj o' n' C2):=by
 have hK:=(DX hv).2.2.2.2.1
 obtain ⟨⟨Bj,o',n',C2,Q'⟩,⟨h1,h2,h3,h4⟩,h5⟩:=LL (m:=Bs q pos cells level) (S:=List Bool×Nat×Nat×List Int×List Int) (fun c s=>.l7 p x (x.length:Int) (c:Int) f s.1 s.2.1 s.2.2.1 s.2.2.2.1)
  (fun c s=>WQ q level s.1 s.2.1 s.2.2.1 s.2.2.2.1 s.2.2.2.2/\ (∀ i∈Q,i∈s.2.2.2.2)/\ (∀ c',c'<c -> x.getD c' 0≠p.getD c' 0 -> ∀ i∈f (c':Int),i∈s.2.2.2.2)/\ ((∀ c',c'<c -> x.getD c' 0=p.getD c' 0) -> s.2.2.2.2=Q)) p.length (fun c s hc hI=>by
  obtain ⟨CT,o1,n1,I9,Q1⟩:=s;obtain ⟨hW,hs,hd,he⟩:=hI;have hW:WQ q level CT o1 n1 I9 Q1:=hW;have hs: ∀ i∈Q,i∈Q1:=hs;have hd: ∀ c',c'<c -> x.getD c' 0≠p.getD c' 0 -> ∀ i∈f (c':Int),i∈Q1:=hd;have he:(∀ c',c'<c -> x.getD c' 0=p.getD c' 0) -> Q1=Q:=he;have AL:decide ((c:Int)<(x.length:Int))=true:=zCm (by omega);have hr:AI ((c:Int)+1):=An.2 ⟨by omega,by omega⟩;have ec:((c+1:Nat):Int)=(c:Int)+1:=by omega
  by_cases hx:x.getD c 0=p.getD c 0
  ·refine ⟨(CT,o1,n1,I9,Q1),⟨hW,hs,fun c' Hr AY=>?_,fun h=>he fun c' Hr=>h c' (by omega)⟩,Aw.one fun m=>?_⟩
   ·by_cases e:c'=c
    ·subst e;exact absurd hx AY
    ·exact hd c' (by omega) AY
   ·show MW m (Bs q pos cells level m) q pos cells level p x (x.length:Int) (c:Int) f CT o1 n1 I9=_
    unfold MW;have hb:(x.getD c 0 != p.getD c 0)=false:=by rw [hx];simp
    rw [AL,zCk,zB3 ⟨by omega,by omega⟩,zCi,hb,zAc,zB3 hr,ec]
  ·have LY: ∀ i∈f (c:Int),Up q level i:=fun i hi=>hO.snd _ i hi
   obtain ⟨Bj,o',n',C2,Q',⟨N,e1⟩,e2,e3⟩:=hW.add hK LY (zCv (hO.len _) (by decide));have e1: ∀ m,N<=m -> Kd m (f (c:Int)) CT o1 n1 I9=some (Bj,o',n',C2):=e1;refine ⟨(Bj,o',n',C2,Q'),⟨e2,fun i hi=>(e3 i).2 (.inl (hs i hi)),fun c' Hr AY i hi=>?_,fun h=>absurd (h c (by omega)) hx⟩,Aw.oneN N fun m hm=>?_⟩
   ·by_cases e:c'=c
    ·subst e;exact (e3 i).2 (.inr hi)
    ·exact (e3 i).2 (.inl (hd c' (by omega) AY i hi))
   ·show MW m (Bs q pos cells level m) q pos cells level p x (x.length:Int) (c:Int) f CT o1 n1 I9=Bs q pos cells level m (.l7 p x (x.length:Int) ((c+1:Nat):Int) f Bj o' n' C2)
    unfold MW;have hb:(x.getD c 0 != p.getD c 0)=true:=by simpa using hx
    rw [AL,zCk,zB3 ⟨by omega,by omega⟩,zCi,hb,zCk,e1 m hm,zCj]
    show (if AI ((c:Int)+1) then _ else _)=_
    rw [zB3 hr,ec]) p.length 0 (ws,o,n,qu,Q) (by omega) ⟨h,fun i hi=>hi,fun c' Hr=>absurd Hr (zCz _),fun _=>rfl⟩
 refine ⟨Bj,o',n',C2,Q',h1,h2,h3,h4,h5.trans (Aw.one fun m=>?_)⟩;have AL:decide ((p.length:Int)<(x.length:Int))=false:=zAZ (by omega)
 show MW m (Bs q pos cells level m) q pos cells level p x (x.length:Int) (p.length:Int) f Bj o' n' C2=_
 unfold MW;rw [AL,zAc]
structure cF (q:AA) (level:Int) (p0 p:List Int) (Q:List Int):Prop where
 pos:BF q p
 down:DK q (Up q level) p0 p
 zero:B0 p=true -> p=List.replicate p.length 0
 fix: ∀ i,Up q level i -> i∉Q -> PR q (con q i) p p
theorem PR.other {i:Int} (h:PR q (con q i) p x) (hd:B0 x=false) (C:BW q i p) {j:Nat} (hj: ∀ k,k<(con q i).cells.length -> ((con q i).cells.getD k 0).toNat≠j):x.getD j 0=p.getD j 0:=by
 have hA:E8 q (con q i) p:=Classical.byContradiction fun hA=>by
  have h0:=C.len256.1;have:=FN.1 hd 0 (by rw [h.len];exact h0);rw [h.dead hA,L4] at this;exact this rfl
 by_cases Rz:j<p.length
 ·refine Ji (h.live hA j Rz).1 ((C.sm j Rz).in64 (by have:=C.work.k;omega)) fun s _=>?_
  rw [zDp,(h.live hA j Rz).2];exact ⟨fun hx=>hx.1,fun hx=>⟨hx,fun ⟨a,ha,e,_⟩=>hj a ha e⟩⟩
 ·rw [u8,u8,zDO (by rw [h.len];omega),zDO (by omega)]
theorem uc {a b:List Int} (hl:a.length=b.length) (h: ∀ c,c<b.length -> a.getD c 0=b.getD c 0):a=b:=by
 refine zEK hl fun j h1 h2=>?_
 have:=h j h2;simpa [h1,h2] using this
theorem zN (hU: ∀ i,Up q level i -> ∀ c∈(con q i).cells,i∈f c) {v:Int} {Q1 Q':List Int} (hv:Up q level v) (h:cF q level pos p (v::Q1)) (hd:B0 p=false) (hx:PR q (con q v) p x) (hs: ∀ i∈Q1,i∈Q') (hc: ∀ c,c<p.length -> x.getD c 0≠p.getD c 0 -> ∀ i∈f (c:Int),i∈Q'):cF q level pos x Q':=by
 have i9:BF q x:=h.pos.pr hv.1 hv.2.1 hx;have hl:x.length=p.length:=hx.len;refine ⟨i9,h.down.trans (DK.one hv hx),fun R9=>by rw [hl];exact hx.zero R9,fun i hi hn=>?_⟩
 by_cases Oj:x=p
 ·subst Oj
  by_cases e:i=v
  ·subst e;exact hx
  ·refine h.fix i hi fun hm=>?_
   rcases zDF.1 hm with hm | hm
   ·exact e hm
   ·exact hn (hs i hm)
 ·cases R9:B0 x with
  | true=>
   have:=hx.zero R9;rw [this];exact fj h.pos.len256.1
  | false=>
   have Ci:=h.pos.ctx hi.1 hi.2.1
   have own: ∀ k,k<(con q i).cells.length -> x.getD ((con q i).cells.getD k 0).toNat 0=p.getD ((con q i).cells.getD k 0).toNat 0:=fun k hk=>by
    refine Classical.byContradiction fun AY=>?_
    have hW:=Ci.work.cells k hk;have hm:(con q i).cells.getD k 0∈(con q i).cells:=by rw [u8,zAe hk];exact zC5 hk
    have e:((((con q i).cells.getD k 0).toNat:Nat):Int)=(con q i).cells.getD k 0:=by omega
    refine hn (hc ((con q i).cells.getD k 0).toNat (by omega) AY i ?_);rw [e];exact hU i hi _ hm
   have AY:i≠v:=by
    rintro rfl;refine Oj (uc hl fun c BQ=>?_)
    by_cases KF: ∃ k,k<(con q i).cells.length/\ ((con q i).cells.getD k 0).toNat=c
    ·obtain ⟨k,hk,rfl⟩:=KF;exact own k hk
    ·exact hx.other R9 Ci fun k hk e=>KF ⟨k,hk,e⟩
   have hp:PR q (con q i) p p:=h.fix i hi fun hm=>by
    rcases zDF.1 hm with hm | hm
    ·exact AY hm
    ·exact hn (hs i hm)
   exact uW Ci (i9.ctx hi.1 hi.2.1) own hd R9 hp
theorem uK (hO:OF q level f 2000000) (hU: ∀ i,Up q level i -> ∀ c∈(con q i).cells,i∈f c): ∀ (M:Nat) {p:List Int} {ws:List Bool} {o n:Nat} {qu Q:List Int},wt p*(q.cons.length+1)+n<=M -> WQ q level ws o n qu Q -> cF q level pos p Q ->
 ∃ g,Ev (fun m=>Bs q pos cells level m (.l6 p f ws o n qu)) g/\ DK q (Up q level) pos g/\ Kg q (Up q level) g:=by
 intro M
 induction M with
 | zero=>
  intro p ws o n qu Q hM hW h;have hn:n=0:=by omega
  subst hn;have hQ:Q= []:=zDl hW.mq.cnt.symm;subst hQ;exact ⟨p,Ev.one fun m=>rfl,h.down,fun i hi=>h.fix i hi (by simp)⟩
 | succ M ih=>
  intro p ws o n qu Q hM hW h;have hv:=h.pos.valid;have hK:=(DX hv).2.2.2.2.1;have HE:=h.pos.len256.2
  by_cases hn:n=0
  ·subst hn;have hQ:Q= []:=zDl hW.mq.cnt.symm;subst hQ;exact ⟨p,Ev.one fun m=>rfl,h.down,fun i hi=>h.fix i hi (by simp)⟩
  have Fd:(n==0)=false:=by simpa using hn
  have jX:decide ((n:Int)>0)=true:=zCm (by omega);have SB: ∀ m,300<=m -> Hj m p=some (B0 p):=fun m hm=>RV (zCv HE (by decide)) (by omega)
  cases hd:B0 p with
  | true=>
   have hz:=h.zero hd;refine ⟨p,Ev.oneN 300 fun m hm=>?_,h.down,?_⟩
   ·show Qr m (Bs q pos cells level m) q pos cells level p f ws o n qu=some p
    unfold Qr;rw [Fd,zAc,jX,zCk,SB m hm,zCj,hd];rfl
   ·rw [hz];exact kO h.pos.len256.1
  | false=>
   cases hQ:Q with
   | nil=>exact absurd (by rw [hW.mq.cnt,hQ];rfl) hn
   | cons v Q1=>
    subst hQ;have BZ:Up q level v:=hW.up v (by simp);obtain ⟨x,⟨N,aH⟩,hx⟩:=si (h.pos.ctx BZ.1 BZ.2.1);have aH: ∀ m,N<=m -> MY m q v p=some (x,0):=aH;have hsum:=hW.mq.sum;have Vr:=hW.mq.eq;have Ib:o<qu.length:=by omega
    have yi:qu.getD (o+0) 0=v:=by
     rw [zEZ,u8,zAe Ib];rw [zDD Ib] at Vr;exact (List.cons.inj Vr).1
    have Ie:WQ q level (ws.set v.toNat false) (o+1) (n-1) qu Q1:=by
     refine ⟨⟨by omega,?_,hW.mq.qi.pop hK⟩,fun i hi=>hW.up i (by simp [hi])⟩;rw [zDD Ib] at Vr;exact (List.cons.inj Vr).2
    obtain ⟨Bj,o',n',C2,Q',e1,e2,e3,e4,e5⟩:=zBi (pos:=pos) (cells:=cells) hv hO hx.len HE Ie;have hH:=zN hU BZ h hd hx e2 e3
    have step:Aw (Bs q pos cells level) (.l6 p f ws o n qu) (.l7 p x (x.length:Int) 0 f (ws.set v.toNat false) (o+1) (n-1) qu):=Aw.oneN (max N 300) fun m hm=>by
     show Qr m (Bs q pos cells level m) q pos cells level p f ws o n qu=_
     unfold Qr;rw [Fd,zAc,jX,zCk,SB m (by omega),zCj,hd,zDd,zCk,yi,zB3 ⟨by omega,by omega,by omega,⟨BZ.1,by have:=BZ.2.1;omega⟩,by rw [hW.mq.qi.len];have:=BZ.1;have:=BZ.2.1;omega⟩,aH m (by omega),zCj,zC4];rfl
    have AL:wt x*(q.cons.length+1)+n'<=M:=by
     have M6:=e1.mq.qi.le;have Oy:=e1.mq.cnt
     by_cases Oj:x=p
     ·have:Q'=Q1:=e4 fun c _=>by rw [Oj]
      rw [Oj];have h2:=Ie.mq.cnt;rw [this] at Oy;omega
     ·have hw:=m5 hH.pos h.pos hx.le Oj;have h3:(wt x+1)*(q.cons.length+1)<=wt p*(q.cons.length+1):=zD5 _ hw;rw [zEF] at h3;omega
    obtain ⟨g,g1,g2,g3⟩:=ih AL e1 hH;exact ⟨g,(step.trans e5).ev g1,g2,g3⟩
theorem sW (hp:BF q pos) (BQ:cells.length<=LB): ∃ g,Ev (fun n=>YH n q pos cells level) g/\ EO q level pos g:=by
 have HE:=hp.len256;have SB: ∀ m,300<=m -> Hj m pos=some (B0 pos):=fun m hm=>RV (zCv HE.2 (by decide)) (by omega)
 cases hd:B0 pos with
 | true=>
  refine ⟨List.replicate pos.length 0,⟨300,fun n hn=>?_⟩,.inl ⟨hd,rfl⟩⟩
  show Qv n (Bs q pos cells level n) q pos cells level=_
  unfold Qv;rw [SB n hn,zCj,hd,zCk,zB3 ⟨rfl,by omega,by omega⟩,zB3 zC0.symm]
 | false=>
  have H: ∃ g,Ev (fun n=>Bs q pos cells level n (.l1 (Ap q level) (Ap q level) ((Ap q level).length:Int) 0 (fun _=>[]))) g/\ DK q (Up q level) pos g/\ Kg q (Up q level) g:=by
   obtain ⟨f,g1,g2,g3⟩:=zB1 (q:=q) (level:=level) (p:=pos) (cells:=cells) hp.valid BQ;rcases g3 with ⟨h1,h2⟩ | ⟨ws,o,n,qu,Q,h1,h2,h3⟩
   ·refine ⟨pos,?_,.refl pos,fun i hi=>absurd hi (h2 i)⟩;rcases h1 with h1 | ⟨ws,h1⟩
    ·exact h1.ev (Ev.one fun m=>rfl)
    ·exact h1.ev (Ev.one fun m=>rfl)
   ·obtain ⟨g,e1,e2,e3⟩:=uK (pos:=pos) (cells:=cells) g1 g2 _ (zC6 _) h1 (p:=pos) ⟨hp,.refl pos,fun h=>(by rw [hd] at h;cases h),fun i hi hn=>absurd (h2 i hi) hn⟩;exact ⟨g,h3.ev e1,e2,e3⟩
  obtain ⟨g,⟨N,h1⟩,h2⟩:=H;have h1: ∀ n,N<=n -> Bs q pos cells level n (.l1 (Ap q level) (Ap q level) ((Ap q level).length:Int) 0 (fun _=>[]))=some g:=h1;obtain ⟨N2,hu⟩:=nQ (level:=level) hp.fit hp.valid;have hu: ∀ n,N2<=n -> P0 n q level=some (Ap q level):=hu;refine ⟨g,⟨max (max N N2) 300,fun n hn=>?_⟩,.inr ⟨hd,h2⟩⟩
  show Qv n (Bs q pos cells level n) q pos cells level=_
  unfold Qv;rw [SB n (by omega),zCj,hd,zAc,hu n (by omega),zCj];exact h1 n (by omega)
end
end Go.Proofs.YtgkhhfnhacibcaaGreatDoor
namespace Go.Proofs.YtgkhhfnhacibcaaGreatDoor
open Go.RowKit
theorem zAT {a b:List Int} {n:Nat} (hl:a.length<=LB) (hn:a.length<n):NR n a b=some (decide (a=b)):=by
 have hb:LB<=9223372036854775806:=by decide
 unfold NR ka
 by_cases Ah:a.length=b.length
 ·have e:((a.length:Int) != (b.length:Int))=false:=by rw [Ah];simp
  rw [e,zAc]
  have key: ∀ (k i n:Nat),i+k=a.length -> k+1<=n -> PO a b n (.l1 (i:Int))=some (decide (a.drop i=b.drop i)):=by
   intro k
   induction k with
   | zero=>
    intro i n e hn;obtain ⟨n,rfl⟩: ∃ k,n=k+1:=⟨n-1,by omega⟩
    show SS n (PO a b n) a b (i:Int)=_
    unfold SS;rw [zAZ (by omega),zAc,zDg (by omega),zDg (by omega)];rfl
   | succ k ih=>
    intro i n e hn;obtain ⟨n,rfl⟩: ∃ k,n=k+1:=⟨n-1,by omega⟩;have hi:i<a.length:=by omega
    have BD:i<b.length:=by omega
    have d: ∀ {l:List Int},i<l.length -> l.drop i=l.getD i 0::l.drop (i+1):=fun {l} h=>by
     rw [zDD h,u8,zAe h];rfl
    have:=ih (i+1) n (by omega) (by omega)
    show SS n (PO a b n) a b (i:Int)=_
    unfold SS;rw [zCm (by omega),zCk,zB3 ⟨⟨by omega,by omega⟩,by omega,by omega⟩,zCi,zB3 (An.2 ⟨by omega,by omega⟩),d hi,d BD]
    by_cases h:a.getD i 0=b.getD i 0
    ·have:(a.getD i 0 != b.getD i 0)=false:=by rw [h];simp
     rw [this,zAc];refine Eq.trans (by assumption) ?_;rw [h];simp
    ·have:(a.getD i 0 != b.getD i 0)=true:=by simpa using h
     rw [this,zCk,zAZ fun e=>h (List.cons.inj e).1]
  exact key a.length 0 n (by omega) (by omega)
 ·have e:((a.length:Int) != (b.length:Int))=true:=by simp;omega
  rw [e,zCk,zAZ fun h=>Ah (by rw [h])]
def Uq (q:AA) (cells:List Int):Bool:=cells.any fun c=>decide (c<0)||decide (c>=q.cells)
section
variable {q:AA} {level:Int} {pos p x cells:List Int}
theorem gP {n:Nat} {c:Int}:Un n c q=some (decide (c<0)||decide (c>=q.cells)):=by
 unfold Un gN
 by_cases h:c<0
 ·rw [zCm h];rfl
 ·rw [zAZ h];rfl
theorem zAf {f:Int -> Bool} {l:List Int} {j:Nat} (hj:j<l.length):(l.drop j).any f=(f (l.getD j 0)||(l.drop (j+1)).any f):=by
 rw [zDD hj,List.any_cons,u8,zAe hj];rfl
theorem gQ (hl:cells.length<=LB): ∀ (k j:Nat),j+k=cells.length -> ∃ r:Int,Ev (fun n=>J8 cells q n (.l1 (j:Int))) r/\ decide (r>=0)=(cells.drop j).any fun c=>decide (c<0)||decide (c>=q.cells)
 | 0,j,e=>⟨-1,Ev.one fun n=>by
  show Mx n (J8 cells q n) cells q (j:Int)=_
  unfold Mx;rw [zAZ (by omega),zAc],by rw [zDg (by omega)];rfl⟩
 | k+1,j,e=>by
  have hj:j<cells.length:=by omega
  have AL:decide ((j:Int)<(cells.length:Int))=true:=zCm (by omega);have hr:AI ((j:Int)+1):=An.2 ⟨by omega,by unfold LB at hl;omega⟩;rw [zAf hj];cases ho:decide (cells.getD j 0<0)||decide (cells.getD j 0>=q.cells) with
  | true=>
   refine ⟨(j:Int),Ev.one fun n=>?_,by rw [Bool.true_or];exact zCm (by omega)⟩
   show Mx n (J8 cells q n) cells q (j:Int)=_
   unfold Mx;rw [AL,zCk,zB3 ⟨by omega,by omega⟩,zCi,gP,zCj,ho,zCk]
  | false=>
   obtain ⟨r,h1,h2⟩:=gQ hl k (j+1) (by omega);refine ⟨r,Aw.ev (Aw.one fun n=>?_) h1,by rw [zEC];exact h2⟩
   show Mx n (J8 cells q n) cells q (j:Int)=_
   unfold Mx;rw [AL,zCk,zB3 ⟨by omega,by omega⟩,zCi,gP,zCj,ho,zAc,zB3 hr,show ((j+1:Nat):Int)=(j:Int)+1 by omega]
theorem zBJ (hl:cells.length<=LB):Ev (fun n=>Wc n cells q) (Uq q cells):=by
 obtain ⟨r,⟨N,h1⟩,h2⟩:=gQ (q:=q) hl cells.length 0 (by omega);have h1: ∀ n,N<=n -> J8 cells q n (.l1 0)=some r:=h1;refine ⟨N,fun n hn=>?_⟩
 show (J8 cells q n (.l1 0)).bind (fun y1=>some (decide (y1>=0)))=_
 rw [h1 n hn,zCj,h2];rfl
theorem s6 (hF:CW q) (hl:pos.length<=LB):Ev (fun n=>Mb n q pos) (Ei q pos):=⟨D7 q+pos.length+1,fun n hn=>ft hF (by omega) hl (by omega)⟩
theorem BF.of (hF:CW q) (h:Ei q pos=0):BF q pos:=by
 unfold Ei at h
 by_cases hv:Bp q=true
 ·rw [zB3 hv] at h
  by_cases hp:posOk q pos=true
  ·exact ⟨hF,hv,hp⟩
  ·rw [zCt hp] at h;exact absurd h (by decide)
 ·rw [zCt hv] at h;exact absurd h (by decide)
theorem BF.check (h:BF q pos):Ei q pos=0:=by
 unfold Ei;rw [zB3 h.valid,zB3 h.ok]
def my (q:AA) (pos cells:List Int) (level:Int) (r:List Int×Int):Prop:=
 (Ei q pos≠0/\ r=([],Ei q pos))∨(Ei q pos=0/\ Uq q cells=true/\ r=([],1))∨(Ei q pos=0/\ Uq q cells=false/\ r.2=0/\ EO q level pos r.1)
theorem zCX (hF:CW q) (hl:pos.length<=LB) (hc:cells.length<=LB): ∃ r,Ev (fun n=>TM n q pos cells level) r/\ my q pos cells level r:=by
 have h1:=s6 hF hl
 by_cases h0:Ei q pos=0
 ·have hp:=BF.of hF h0;have h2:=zBJ (q:=q) hc;cases ho:Uq q cells with
  | true=>
   rw [ho] at h2;refine ⟨([],1),?_,.inr (.inl ⟨h0,ho,rfl⟩)⟩;rw [h0] at h1;exact Ev.bind h1 (Ev.bind h2 (Ev.now fun n=>rfl))
  | false=>
   rw [ho] at h2;rw [h0] at h1;obtain ⟨g,g1,g2⟩:=sW (level:=level) (cells:=cells) hp hc;exact ⟨(g,0),Ev.bind h1 (Ev.bind h2 (Ev.bind g1 (Ev.now fun n=>rfl))),.inr (.inr ⟨h0,ho,rfl,g2⟩)⟩
 ·refine ⟨([],Ei q pos),Ev.bind h1 (Ev.now fun n=>?_),.inl ⟨h0,rfl⟩⟩;have:(Ei q pos != 0)=true:=by simpa using h0
  show (bif (Ei q pos != 0) then _ else _)=_
  rw [this];rfl
theorem zCT (hF:CW q) (hl:pos.length<=LB): ∃ r,Ev (fun n=>HJ n q pos level) r/\ my q pos [] level r:=by
 obtain ⟨r,h1,h2⟩:=zCX (level:=level) (cells:=[]) hF hl (by decide);exact ⟨r,Ev.bind h1 (Ev.now fun n=>rfl),h2⟩
end
end Go.Proofs.YtgkhhfnhacibcaaGreatDoor
namespace Go.Proofs.YtgkhhfnhacibcaaGreatDoor
open Go.RowKit
set_option maxRecDepth 100000
set_option maxHeartbeats 40000000
def XP (n:Nat) (c:AB) (q:AA) (AF:List Int):Option Bool:=
 (Fb n q c AF).bind fun y1=>
  some (!y1)
def TV (n:Nat) (c:AB) (q:AA) (AF:List Int):Option Bool:=XP n c q AF
theorem nV {n:Nat} {c:AB} {q:AA} {AF:List Int} {r:Bool} (h:TV n c q AF=some r):EQ 62 [.agg 9 (L1 (AH c)),.fp 5 (L1 (AD q)),.fp 1 (L1 [.ints AF])] [] (.bool r) [] true:=by
 unfold TV XP at h;refine ot Tryz.func62 fun B N=>?_
 revert r;apply gO;exact cf uF [some (.cells (AH c))] fun _=>lE AE [4] []
inductive VJ where
 | l1 (x8:Int)
def Rf (n:Nat) (self:VJ -> Option Int) (l:List AB) (q:AA) (AF:List Int) (x8:Int):Option Int:=
 bif (decide (x8<(l.length:Int))) then
  if 0<=x8/\ x8<(l.length:Int) then
   (TV n (l.getD ((x8).toNat) default) q AF).bind fun y1=>
    bif y1 then
     some x8
    else
     if AI (x8+1) then
      self (.l1 (x8+1))
     else none
  else none
 else
  some (-1)
def vP (n:Nat) (self:VJ -> Option Int) (l:List AB) (q:AA) (AF:List Int):Option Int:=
 self (.l1 0)
def LO (l:List AB) (q:AA) (AF:List Int):Nat -> VJ -> Option Int
 | 0,_=>none
 | n+1,.l1 x8=>Rf n (LO l q AF n) l q AF x8
def ik (n:Nat) (l:List AB) (q:AA) (AF:List Int):Option Int:=vP n (LO l q AF n) l q AF
def vQ (n B:Nat) (N:Yd 0) (l:List AB) (q:AA) (AF:List Int) (r:Int):VJ -> Prop
 | .l1 x8=>∀ m0:Nat,n<=m0 -> TW B N (FQ Tryz.f92 0 (.i r) []) (Ak m0 (Au (AZ Tryz.f92) 0 [])) ⟨AM 19 [(0,.sl 9 l.length (As AH l)),(1,.fn 62 2 (L1 [.fp 5 (L1 (AD q)),.fp 1 (L1 [.ints AF])])),(7,.i (l.length:Int)),(8,.i x8)],[]⟩
theorem vR (B:Nat) (N:Yd 0) (l:List AB) (q:AA) (AF:List Int):Al (LO l q AF) (vQ · B N l q AF):=ia (fun _=>rfl) fun n AG pt r h=>by
 cases pt
 case l1 x8=>
  intro m0 AC;refine rd AC fun m0 AC=>?_
  revert r;apply gO;exact bi 9 (gi (cf nV [] fun _=>bi 16 (lE AE [4] []) (gw 18 (lG AE [] (AG _ _ · m0 AC))))) (lE AE [4] [])
theorem vO {n:Nat} {l:List AB} {q:AA} {AF:List Int} {r:Int} (h:ik n l q AF=some r):EQ 92 [.sl 9 l.length (As AH l),.fn 62 2 (L1 [.fp 5 (L1 (AD q)),.fp 1 (L1 [.ints AF])])] [] (.i r) [] true:=by
 refine ot Tryz.func92 fun B N=>?_
 revert r;apply gO;exact lN AE [] ((vR B N l q AF n) _ _ · n Nat.le.refl)
def lH (n:Nat) (l:List AB) (q:AA) (AF:List Int):Option Bool:=
 (ik n l q AF).bind fun y1=>
  some (decide (y1>=0))
def bC (n:Nat) (l:List AB) (q:AA) (AF:List Int):Option Bool:=lH n l q AF
theorem zBF {n:Nat} {l:List AB} {q:AA} {AF:List Int} {r:Bool} (h:bC n l q AF=some r):EQ 61 [.sl 9 l.length (As AH l),.fn 62 2 (L1 [.fp 5 (L1 (AD q)),.fp 1 (L1 [.ints AF])])] [] (.bool r) [] true:=by
 unfold bC lH at h;refine ot Tryz.func61 fun B N=>?_
 revert r;apply gO;exact cf vO [] fun _=>lE AE [4] []
def dz (n:Nat) (q:AA) (AF:List Int):Option (Bool×Int):=
 (UL n q AF).bind fun y1=>
  bif (y1 != 0) then
   some (false,y1)
  else
   (bC n q.cons q AF).bind fun y2=>
    some ((!y2),0)
def QH (n:Nat) (q:AA) (AF:List Int):Option (Bool×Int):=dz n q AF
theorem Xh {n:Nat} {q:AA} {AF:List Int} {r:Bool×Int} (h:QH n q AF=some r):EQ 30 [.agg 5 (L1 (AD q)),.ints AF] [] (.tup 2 (L1 [.bool r.1,.i r.2])) [] true:=by
 unfold QH dz at h;refine ot Tryz.func30 fun B N=>?_
 revert r;apply gO;exact cf r7 [some (.cells (AD q)),some (.cells [.ints AF])] fun _=>bi 10 (lE AE [4,5] []) (cn fun y2 Bt=>jc (sb [.sl 9 q.cons.length (As AH q.cons),.fn 62 2 (L1 [.ref 0 0,.ref 1 0])] (zBF Bt) [some (.cells (AD q)),some (.cells [.ints AF])] ⟨AR.plain (by kernel_rfl),(AR.fnL (l:=[.ref 0 0,.ref 1 0]) (l0:=[.fp 5 (L1 (AD q)),.fp 1 (L1 [.ints AF])]) ⟨(AR.refL (l:=(AD q)) (l0:=(AD q)) rfl ⟨AR.plain (by kernel_rfl),AR.plain (by kernel_rfl),AR.plain (by kernel_rfl),AR.plain (by kernel_rfl),AR.plain (by kernel_rfl),trivial⟩),(AR.refL (l:=[.ints AF]) (l0:=[.ints AF]) rfl ⟨AR.plain (by kernel_rfl),trivial⟩),trivial⟩),trivial⟩) (lE AE [4,5] []))
end Go.Proofs.YtgkhhfnhacibcaaGreatDoor
namespace Go.Proofs.YtgkhhfnhacibcaaGreatDoor
open Go.RowKit
section
variable {q:AA} {i:Int} {g:List Int} {c:AB}
theorem BW.sets (C:BW q i (AW g)):Sm q.symbols.toNat (con q i).set/\ Sm q.symbols.toNat (con q i).other:=by
 have h:=C.fine;unfold DE at h;simp only [zCp] at h;have h2:=Pu.1 h.1.1.1.2;have a:=h2 (con q i).set (by simp);have b:=h2 (con q i).other (by simp);exact ⟨⟨a.1,by omega⟩,b.1,by omega⟩
theorem iW (S:Sv q c g) (W:Ec c q (AW g)) {k:Nat} (hs:Sm k c.set) (hk:k<=16) {loop:Bool} {M:Prop} (hM:M↔if loop=true then (∀ v,v<g.length -> (B9 c g).getD v false=false)∨((∀ v,v<g.length -> (B9 c g).getD v false=true -> CI q.nbrs (B9 c g) v=2)/\ HN q.nbrs (B9 c g)) else HN q.nbrs (B9 c g)):
 ∃ r,Ev (fun n=>Oe n q.nbrs g c.cells c.set loop) r/\ (r=true↔M):=by
 have L:(1000000000000:Nat)=BE:=rfl;have hl:=W.len;have FL:=W.l1;have DQ:=W.gl;rw [Dr] at hl FL DQ;have hI:(B9 c g).length=q.nbrs.length:=by rw [OX];omega
 have fin: ∃ r,Ev (fun n=>(Wh n q.nbrs (B9 c g)).bind fun y1=>bif (!loop) then some (decide ((y1.1.length:Int)<=1)) else bif ((y1.1.length:Int)==0) then some (decide ((y1.1.length:Int)<=1)) else (OG n q.nbrs (B9 c g)).bind fun y2=>some y2.1) r/\ (r=true↔M):=by
  obtain ⟨N2,hR⟩:=ra W.g hI;have:=Ad.bindU (zBV W.g hI) (b:=fun n y1=>bif (!loop) then some (decide ((y1.1.length:Int)<=1)) else bif ((y1.1.length:Int)==0) then some (decide ((y1.1.length:Int)<=1)) else (OG n q.nbrs (B9 c g)).bind fun y2=>some y2.1) (Q:=fun r=>r=true↔M) ⟨N2,fun n hn x hx=>?_⟩
  ·obtain ⟨r,h1,h2⟩:=this.ev fun r r' h h'=>by
    rw [zDp,h,h']
   exact ⟨r,h2,h1⟩
  ·obtain ⟨x1,x2,x3⟩:=hx;have e1:decide ((x.1.length:Int)<=1)=true↔HN q.nbrs (B9 c g):=by rw [zCw,←x3];omega
   cases loop with
   | false=>
    refine ⟨_,rfl,?_⟩;rw [e1,hM];simp
   | true=>
    rw [zB3 rfl] at hM
    by_cases h0:x.1.length=0
    ·have hz:=x2.1 h0;rw [DQ] at hz;refine ⟨true,?_,zFT rfl (hM.2 (.inl hz))⟩
     show (bif ((x.1.length:Int)==0) then some (decide ((x.1.length:Int)<=1)) else _)=_
     rw [h0];rfl
    ·obtain ⟨y,y1,y2,y3⟩:=hR n hn;refine ⟨y.1,?_,?_⟩
     ·show (bif ((x.1.length:Int)==0) then some (decide ((x.1.length:Int)<=1)) else _)=_
      rw [zDV.2 (by omega),zAc,show OG n q.nbrs (B9 c g)=some y from y1];rfl
     ·rw [y3,hM,DQ];have hz: ¬ ∀ v,v<g.length -> (B9 c g).getD v false=false:=fun h=>h0 (x2.2 (by rw [DQ];exact h))
      constructor
      ·rintro ⟨h1,_,h3⟩;exact .inr ⟨h1,h3⟩
      ·rintro (h | ⟨h1,h3⟩)
       ·exact absurd h hz
       ·refine ⟨h1,Classical.byContradiction fun hn=>hz fun v hv=>?_,h3⟩;cases hb:(B9 c g).getD v false with
        | false=>rfl
        | true=>exact absurd ⟨v,hv,hb⟩ hn
 obtain ⟨r,hr,wx⟩:=fin;refine ⟨r,?_,wx⟩
 have key: ∀ (k j:Nat) (o:List Bool),j+k=g.length -> o.length=g.length -> (∀ v,v<j -> o.getD v false=(B9 c g).getD v false) -> Ev (fun n=>Od q.nbrs g c.cells c.set loop n (.l1 (j:Int) o)) r:=by
  intro k
  induction k with
  | zero=>
   intro j o e ho hm
   have:o=B9 c g:=by
    refine zEK (by rw [ho,OX]) fun v h1 h2=>?_
    have:=hm v (by omega);simpa [u8,h1,h2] using this
   subst this;obtain ⟨N,hr⟩:=hr;refine Ev.oneN N fun n hn=>?_
   show RU n (Od q.nbrs g c.cells c.set loop n) q.nbrs g c.cells c.set loop (j:Int) (B9 c g)=_
   unfold RU;rw [zAZ (by omega),zAc,zB3 ho.symm];exact hr n hn
  | succ k ih=>
   intro j o e ho hm;have hj:j<g.length:=by omega
   have hid:=W.id j (by rw [Dr];exact hj);have hsy:=S.G.lt S.v hj;have IZ:=S.G.sym j hj;have eg:g.getD j 0=(((g.getD j 0).toNat:Nat):Int):=by omega
   refine Aw.ev (Aw.one fun n=>?_) (ih (j+1) (o.set j (tb c.set (g.getD j 0).toNat)) (by omega) (by rw [zDE];exact ho) fun v hv=>?_)
   ·show RU n (Od q.nbrs g c.cells c.set loop n) q.nbrs g c.cells c.set loop (j:Int) o=_
    unfold RU;rw [zCm (by omega),zCk,zB3 ⟨by omega,by omega⟩,zCi,hid];unfold Yn iA;rw [zB3 ⟨by omega,by omega⟩,zCi,eg,LR hs (by omega) (by omega),zCj,zB3 ⟨⟨by omega,by omega⟩,by omega⟩,zCj,zB3 (An.2 ⟨by omega,by omega⟩),zC4,zCi,show ((j+1:Nat):Int)=(j:Int)+1 by omega]
   ·by_cases e1:v=j
    ·subst e1;rw [u8,zDs (by omega),zEB,Yi hj]
    ·rw [u8,zDi (fun h=>e1 h.symm),←u8];exact hm v (by omega)
 have:=key g.length 0 (List.replicate g.length false) (by omega) zC0 fun v hv=>absurd hv (zCz v)
 refine Ev.eq this fun n=>?_
 unfold Oe iX;rw [zB3 ⟨rfl,by omega,by omega⟩];rfl
theorem uE (C:BW q i (AW g)) (G:Gd q g): ∃ b,Ev (fun n=>Fb n q (con q i) g) b/\ (b=true↔B2 q (con q i) g):=by
 have S:=C.sv G;have hd:B0 (AW g)=false:=FN.2 S.nz;have W:=C.work;have V:=C.vals;have hl:=W.len;have Vo:=W.k;obtain ⟨hs,ho⟩:=C.sets;have two:(con q i).cells.length=2 -> ∀ a,a<2 -> ((con q i).cells.getD a 0).toNat=((con q i).cells.getD a 0).toNat:=fun _ _ _=>rfl
 have D: ∀ {k:Int} {f:Nat -> Option Bool} {b:Bool} {M:Prop},(con q i).kind=k -> (∀ n,Fb n q (con q i) g=f n) -> Ev f b -> (b=true↔M) -> (B2 q (con q i) g↔M) -> ∃ b,Ev (fun n=>Fb n q (con q i) g) b/\ (b=true↔B2 q (con q i) g):=
  fun _ he hf hb hM=>⟨_,hf.eq he,hb.trans hM.symm⟩
 have kc:=LN (Mt C.kind)
 generalize hc:con q i=c at*
 rcases kc with hk | hk | hk | hk | hk | hk | hk | hk | hk
 ·obtain ⟨r,h1,h2⟩:=zAs S hl;exact D (f:=fun n=>(WU n g c.cells).bind some) hk (fun n=>by unfold Fb JH;rw [hk];rfl) (Ev.bind h1 (Ev.now fun n=>rfl)) h2 (by unfold B2;rw [hk];simp)
 ·refine D (f:=fun n=>(Wa n g c.cells c.set).bind fun y1=>(Na n y1 c).bind some) (M:=c.lo<=cnt (fun a=>tb c.set (AN c g a)) c.cells.length/\ cnt (fun a=>tb c.set (AN c g a)) c.cells.length<=c.hi) (b:=decide (c.lo<=cnt (fun a=>tb c.set (AN c g a)) c.cells.length)&&decide (cnt (fun a=>tb c.set (AN c g a)) c.cells.length<=c.hi)) hk (fun n=>by unfold Fb JH;rw [hk];rfl) (Ev.bind (zA5 S hl hs Vo) (Ev.now fun n=>?_)) (by simp) (by unfold B2;rw [hk];simp);unfold Na bV;cases decide (c.lo<=cnt (fun a=>tb c.set (AN c g a)) c.cells.length) <;> rfl
 ·refine D (f:=fun n=>(Tl n q.values g c.cells).bind fun y1=>(Na n y1 c).bind some) (M:=c.lo<=CM (fun a=>q.values.getD (AN c g a) 0) c.cells.length/\ CM (fun a=>q.values.getD (AN c g a) 0) c.cells.length<=c.hi) (b:=decide (c.lo<=CM (fun a=>q.values.getD (AN c g a) 0) c.cells.length)&&decide (CM (fun a=>q.values.getD (AN c g a) 0) c.cells.length<=c.hi)) hk (fun n=>by unfold Fb JH;rw [hk];rfl) (Ev.bind (oA S V hl) (Ev.now fun n=>?_)) (by simp) (by unfold B2;rw [hk];simp);unfold Na bV;cases decide (c.lo<=CM (fun a=>q.values.getD (AN c g a) 0) c.cells.length) <;> rfl
 ·obtain ⟨r,h1,h2⟩:=rL S V hl;exact D (f:=fun n=>(UE n q.values g c.cells).bind some) hk (fun n=>by unfold Fb JH;rw [hk];rfl) (Ev.bind h1 (Ev.now fun n=>rfl)) h2 (by unfold B2;rw [hk];simp)
 ·have hr:=X3 (b:=fun a=>tb c.set (AN c g a)) (N:=c.cells.length) c.cells.length 0;refine D (f:=fun n=>(OC n c.cells c.set g).bind fun y1=>(NW n y1).bind fun y2=>(NR n y2 c.runs).bind some) (M:=rl (fun a=>tb c.set (AN c g a)) c.cells.length c.cells.length 0=c.runs) (b:=decide (rl (fun a=>tb c.set (AN c g a)) c.cells.length c.cells.length 0=c.runs)) hk (fun n=>by unfold Fb JH;rw [hk];rfl) (Ev.bind (qa S hl hs Vo) ⟨300,fun n hn=>?_⟩) (by simp) (by unfold B2;rw [hk];simp)
  show (NW n _).bind _=_
  rw [zBc (by omega),zCj,zAT (zCv hr (zCv (by omega:c.cells.length+1<=300) (by decide))) (by omega)];rfl
 ·have h2:c.cells.length=2:=by rw [←hc];exact C.two (.inl (by rw [hc];exact hk))
  have c0:=S.cell 0 (by omega);have c1:=S.cell 1 (by omega);have g0:=S.gi (a:=0) (by omega);have g1:=S.gi (a:=1) (by omega);have l0:=(S.lt (a:=0) (by omega)).1;have l1:=(S.lt (a:=1) (by omega)).1;have vl:=V.len;have v0:=V.val _ l0;have v1:=V.val _ l1;refine D (f:=fun n=>Fb n q c g) (M:=G4 q c (AN c g 0) (AN c g 1)=true) (b:=G4 q c (AN c g 0) (AN c g 1)) hk (fun n=>rfl) (Ev.now fun n=>?_) Iff.rfl (by unfold B2;rw [hk];simp);unfold Fb JH;rw [hk]
  show (if _ then _ else none)=_
  rw [g0,g1,zCi,zCi,zB3 ⟨⟨by omega,by omega⟩,c0,⟨by omega,by omega⟩,⟨by omega,by omega⟩,c1,by omega,by omega⟩];unfold bu mP G4;rw [zB3 ⟨An.2 ⟨by omega,by omega⟩,An.2 ⟨by omega,by omega⟩⟩,zCj,show q.values.getD (AN c g 1) 0-q.values.getD (AN c g 0) 0=0-(q.values.getD (AN c g 0) 0-q.values.getD (AN c g 1) 0) by omega]
 ·have h2:c.cells.length=2:=by rw [←hc];exact C.two (.inr (by rw [hc];exact hk))
  have c0:=S.cell 0 (by omega);have c1:=S.cell 1 (by omega);have g0:=S.gi (a:=0) (by omega);have g1:=S.gi (a:=1) (by omega);have l0:=(S.lt (a:=0) (by omega)).2;have l1:=(S.lt (a:=1) (by omega)).2;refine D (f:=fun n=>Fb n q c g) (M:=GY c (AN c g 0) (AN c g 1)=true) (b:=GY c (AN c g 0) (AN c g 1)) hk (fun n=>rfl) (Ev.now fun n=>?_) Iff.rfl (by unfold B2;rw [hk];simp);unfold Fb JH;rw [hk]
  show (if _ then _ else none)=_
  rw [g0,g1,zB3 ⟨⟨by omega,by omega⟩,c0,⟨by omega,by omega⟩,c1⟩,LR hs (by omega) (by omega),LR hs (by omega) (by omega),LR ho (by omega) (by omega),LR ho (by omega) (by omega)];unfold GY;cases tb c.set (AN c g 0) <;> cases tb c.set (AN c g 1) <;> cases tb c.other (AN c g 0) <;> cases tb c.other (AN c g 1) <;> rfl
 ·have WA:Ec c q (AW g):=by rw [←hc];exact C.all (.inl (by rw [hc];exact hk)) hd
  obtain ⟨r,h1,h2⟩:=iW (loop:=false) (M:=HN q.nbrs (B9 c g)) S WA hs Vo (by simp);exact D (f:=fun n=>(Oe n q.nbrs g c.cells c.set false).bind some) hk (fun n=>by unfold Fb JH;rw [hk];rfl) (Ev.bind h1 (Ev.now fun n=>rfl)) h2 (by unfold B2;rw [hk];simp)
 ·have WA:Ec c q (AW g):=by rw [←hc];exact C.all (.inr (by rw [hc];exact hk)) hd
  obtain ⟨r,h1,h2⟩:=iW (loop:=true) (M:=HN q.nbrs (B9 c g)/\ ∀ v,v<g.length -> (B9 c g).getD v false=true -> CI q.nbrs (B9 c g) v=2) S WA hs Vo (by
   rw [zB3 rfl];have gl:=WA.gl;rw [Dr] at gl;constructor
   ·rintro ⟨h1,h2⟩;exact .inr ⟨h2,h1⟩
   ·rintro (h | ⟨h1,h2⟩)
    ·exact ⟨fun u v hu _ mu _=>(by rw [h u (by omega)] at mu;cases mu),fun v hv mv=>(by rw [h v hv] at mv;cases mv)⟩
    ·exact ⟨h2,h1⟩)
  exact D (f:=fun n=>(Oe n q.nbrs g c.cells c.set true).bind some) hk (fun n=>by unfold Fb JH;rw [hk];rfl) (Ev.bind h1 (Ev.now fun n=>rfl)) h2 (by unfold B2;rw [hk];simp)
/-! ### Finished grids-/
theorem nZ {s:Int} {l:List Int} (hl:l.length<=LB): ∀ (k j:Nat),j+k=l.length -> (∀ j',j'<j -> 0<=l.getD j' 0/\ l.getD j' 0<s) -> ∃ r:Int,Ev (fun n=>LQ l s n (.l1 (j:Int))) r/\ (decide (r>=0)=false↔∀ j,j<l.length -> 0<=l.getD j 0/\ l.getD j 0<s):=by
 have hb:LB<=9223372036854775806:=by decide
 intro k
 induction k with
 | zero=>
  intro j e h;refine ⟨-1,Ev.one fun n=>?_,zFT (by decide) fun j' A3=>h j' (by omega)⟩
  show Rg n (LQ l s n) l s (j:Int)=_
  unfold Rg;rw [zAZ (by omega),zAc]
 | succ k ih=>
  intro j e h;have hj:j<l.length:=by omega
  have u: ∀ n,TY n (l.getD j 0) s=some (decide (¬ (0<=l.getD j 0/\ l.getD j 0<s))):=fun n=>by
   unfold TY cq
   by_cases h0:l.getD j 0<0
   ·rw [zCm h0,zCk,zCm (by omega)]
   ·rw [zAZ h0,zAc];exact congrArg some (decide_eq_decide.2 (by omega))
  have step: ∀ n,LQ l s (n+1) (.l1 (j:Int))=bif decide (¬ (0<=l.getD j 0/\ l.getD j 0<s)) then some (j:Int) else LQ l s n (.l1 ((j+1:Nat):Int)):=fun n=>by
   show Rg n (LQ l s n) l s (j:Int)=_
   unfold Rg;rw [zCm (by omega),zCk,zB3 ⟨by omega,by omega⟩,zCi,u,zCj,zB3 (An.2 ⟨by omega,by omega⟩),show ((j+1:Nat):Int)=(j:Int)+1 by omega]
  by_cases hh:0<=l.getD j 0/\ l.getD j 0<s
  ·obtain ⟨r,h1,h2⟩:=ih (j+1) (by omega) fun j' A3=>by
    rcases zCx.1 A3 with A3 | rfl
    ·exact h j' A3
    ·exact hh
   exact ⟨r,Aw.ev (Aw.one fun n=>by rw [step n,zAZ (fun h=>h hh),zAc]) h1,h2⟩
  ·refine ⟨(j:Int),Ev.one fun n=>by rw [step n,zCm hh,zCk],zEi (by rw [zCm (by omega)];decide) fun h=>hh (h j hj)⟩
theorem rz (hF:CW q) (hl:g.length<=LB): ∃ e,Ev (fun n=>UL n q g) e/\ (e=0↔Bp q=true/\ Gd q g):=by
 have hV:Ev (fun n=>valid n q) (Cq (Bp q) 191):=⟨D7 q,fun n hn=>XK hF hn⟩;cases hv:Bp q with
 | false=>
  rw [hv] at hV;exact ⟨191,Ev.bind hV (Ev.now fun n=>rfl),by simp⟩
 | true=>
  rw [hv] at hV
  by_cases Ah:(g.length:Int)=q.cells
  ·obtain ⟨r,h1,h2⟩:=nZ (s:=q.symbols) hl g.length 0 (by omega) fun j hj=>absurd hj (zCz j)
   refine ⟨if decide (r>=0)=true then 200 else 0,Ev.bind hV (Ev.eq (Ev.bind (Ev.eq (Ev.bind (Ev.bind h1 (b:=fun n y=>some (decide (y>=0))) (Ev.now fun n=>rfl)) (b:=fun n y=>some (!y)) (Ev.now fun n=>rfl)) fun n=>?_) (b:=fun n y2=>bif (!y2) then some 200 else some 0) (Ev.now fun n=>?_)) fun n=>rfl),?_⟩
   ·unfold SN ap;rw [zDB.2 Ah,zCk];rfl
   ·cases decide (r>=0) <;> rfl
   ·have:(if decide (r>=0)=true then (200:Int) else 0)=0↔decide (r>=0)=false:=by cases decide (r>=0) <;> simp
    rw [this,h2];exact ⟨fun h=>⟨rfl,Ah,h⟩,fun h=>h.2.sym⟩
  ·refine ⟨200,Ev.bind hV (Ev.now fun n=>?_),zEi (by decide) fun h=>Ah h.2.len⟩
   show (bif ((0:Int) != 0) then _ else (SN n q.cells q.symbols g).bind _)=_
   unfold SN ap;rw [zDV.2 Ah];rfl
theorem Gd.ctx (G:Gd q g) (hF:CW q) (hv:Bp q=true) (h0:0<=i) (h1:i<(q.cons.length:Int)):BW q i (AW g):=⟨hF,hv,h0,h1,G.pos hv⟩
def Nl (q:AA) (g:List Int):Prop:=∀ i,0<=i -> i<(q.cons.length:Int) -> B2 q (con q i) g
def SvP (q:AA) (g:List Int) (r:Bool×Int):Prop:=(r.2=0↔Bp q=true/\ Gd q g)/\ (r.2=0 -> (r.1=true↔Nl q g))
theorem nW (hF:CW q) (hv:Bp q=true) (G:Gd q g): ∀ (k j:Nat),j+k=q.cons.length -> (∀ i,0<=i -> i<(j:Int) -> B2 q (con q i) g) -> ∃ r:Int,Ev (fun n=>LO q.cons q g n (.l1 (j:Int))) r/\ (decide (r>=0)=false↔Nl q g):=by
 have BQ:q.cons.length<=4096:=by have:=(DX hv);omega
 intro k
 induction k with
 | zero=>
  intro j e h;refine ⟨-1,Ev.one fun n=>?_,zFT (by decide) fun i h0 h1=>h i h0 (by omega)⟩
  show Rf n (LO q.cons q g n) q.cons q g (j:Int)=_
  unfold Rf;rw [zAZ (by omega),zAc]
 | succ k ih=>
  intro j e h;have hj:j<q.cons.length:=by omega
  obtain ⟨b,⟨N,b1⟩,b2⟩:=uE (G.ctx hF hv (i:=(j:Int)) (by omega) (by omega)) G
  have step: ∀ n,N<=n -> LO q.cons q g (n+1) (.l1 (j:Int))=bif !b then some (j:Int) else LO q.cons q g n (.l1 ((j+1:Nat):Int)):=fun n hn=>by
   have e1:Fb n q (q.cons.getD (j:Int).toNat default) g=some b:=b1 n hn
   show Rf n (LO q.cons q g n) q.cons q g (j:Int)=_
   unfold Rf TV XP;rw [zCm (by omega),zCk,zB3 ⟨by omega,by omega⟩,e1,zCj,zCj,zB3 (An.2 ⟨by omega,by omega⟩),show ((j+1:Nat):Int)=(j:Int)+1 by omega]
  cases b with
  | true=>
   obtain ⟨r,h1,h2⟩:=ih (j+1) (by omega) fun i h0 h1=>by
    by_cases e:i=(j:Int)
    ·rw [e];exact b2.1 rfl
    ·exact h i h0 (by omega)
   exact ⟨r,Aw.ev (Aw.oneN N fun n hn=>by rw [step n hn];rfl) h1,h2⟩
  | false=>
   refine ⟨(j:Int),Ev.oneN N fun n hn=>by rw [step n hn];rfl,zEi (by rw [zCm (by omega)];decide) fun h=>?_⟩;have:=b2.2 (h (j:Int) (by omega) (by omega));cases this
theorem oW (hF:CW q) (hl:g.length<=LB): ∃ r,Ev (fun n=>QH n q g) r/\ SvP q g r:=by
 obtain ⟨e,h1,h2⟩:=rz hF hl
 by_cases h0:e=0
 ·subst h0;obtain ⟨hv,G⟩:=h2.1 rfl;obtain ⟨r,r1,r2⟩:=nW hF hv G q.cons.length 0 (by omega) fun i h0 h1=>by omega
  refine ⟨(!decide (r>=0),0),Ev.bind h1 (Ev.eq (Ev.bind (Ev.bind r1 (b:=fun n y1=>some (decide (y1>=0))) (Ev.now fun n=>rfl)) (b:=fun n y2=>some ((!y2),(0:Int))) (Ev.now fun n=>rfl)) fun n=>rfl),⟨fun _=>⟨hv,G⟩,fun _=>rfl⟩,fun _=>?_⟩;rw [←r2]
  show (!decide (r>=0))=true↔_
  cases decide (r>=0) <;> simp
 ·refine ⟨(false,e),Ev.bind h1 (Ev.now fun n=>by rw [zDz.2 h0];rfl),⟨fun h=>absurd h h0,fun h=>absurd (h2.2 h) h0⟩,fun h=>absurd h h0⟩
end
end Go.Proofs.YtgkhhfnhacibcaaGreatDoor
namespace Go.Proofs.YtgkhhfnhacibcaaGreatDoor
open Go.RowKit
section
variable {q:AA} {i:Int} {pos x:List Int}
end
end Go.Proofs.YtgkhhfnhacibcaaGreatDoor
namespace Go.Proofs.YtgkhhfnhacibcaaGreatDoor
open Go.RowKit
set_option maxRecDepth 100000
set_option maxHeartbeats 40000000
end Go.Proofs.YtgkhhfnhacibcaaGreatDoor
namespace Go.Proofs.YtgkhhfnhacibcaaGreatDoor
open Go.RowKit
section
variable {q:AA} {i:Int} {g pos x:List Int}
theorem nF (G:Gd q g) (hv:Bp q=true):(∀ j s,tb ((AW g).getD j 0) s=true -> tb (pos.getD j 0) s=true)↔∀ j,j<g.length -> tb (pos.getD j 0) (g.getD j 0).toNat=true:=by
 constructor
 ·intro h j hj;exact h j _ (by rw [Ku G hv hj,zCm rfl])
 ·intro h j s hs
  by_cases hj:j<g.length
  ·rw [Ku G hv hj,zCw] at hs;subst hs;exact h j hj
  ·rw [u8,zDO (by rw [Dr];omega)] at hs;exact absurd hs Gp
end
end Go.Proofs.YtgkhhfnhacibcaaGreatDoor
namespace Go.Proofs.YtgkhhfnhacibcaaGreatDoor
open Go.RowKit
section
variable {q:AA} {level i:Int} {pos p x:List Int}
end
end Go.Proofs.YtgkhhfnhacibcaaGreatDoor
namespace Go.Proofs.YtgkhhfnhacibcaaGreatDoor
open Go.RowKit
section
variable {q:AA} {pos:List Int}
theorem q8 {n:Nat} (hF:CW q) (hn:D7 q<=n) (hl:pos.length<=LB) (Hq:pos.length<n):T5 n q pos=some (Ei q pos):=by
 have hb:LB<=9223372036854775806:=by decide
 unfold T5 ea Ei;rw [eV hF hn,zCj];cases hv:Bp q with
 | false=>rfl
 | true=>
  obtain ⟨_,hs,_⟩:=DX hv;obtain ⟨p1,p2,p3⟩:=UW hs.1 hs.2
  have wu:IntKind.u64.wrap q.symbols=q.symbols:=by
   show q.symbols % 18446744073709551616=q.symbols
   omega
  show (bif ((pos.length:Int) != q.cells) then some 250 else ML q pos n (.l1 0))=some (if posOk q pos=true then 0 else 250)
  unfold posOk
  by_cases Ah:(pos.length:Int)=q.cells
  ·have h1:((pos.length:Int) != q.cells)=false:=by simpa using Ah
   have h2:((pos.length:Int)==q.cells)=true:=by simpa using Ah
   rw [h1,zAc,h2,zDG]
   have key: ∀ (k i n:Nat),i+k=pos.length -> k+1<=n -> ML q pos n (.l1 (i:Int))=some (if ((pos.drop i).all fun x=>decide (0<=x)&&decide (x<2 ^ q.symbols.toNat))=true then 0 else 250):=by
    intro k
    induction k with
    | zero=>
     intro i n e hn;obtain ⟨n,rfl⟩: ∃ k,n=k+1:=⟨n-1,by omega⟩
     show QZ n (ML q pos n) q pos (i:Int)=_
     unfold QZ;rw [zAZ (by omega),zAc,zDg (by omega)];rfl
    | succ k ih=>
     intro i n e hn;obtain ⟨n,rfl⟩: ∃ k,n=k+1:=⟨n-1,by omega⟩;have hi:i<pos.length:=by omega
     have e2:pos.drop i=pos.getD i 0::pos.drop (i+1):=by
      rw [zDD hi,u8,zAe hi];rfl
     have:=ih (i+1) n (by omega) (by omega)
     show QZ n (ML q pos n) q pos (i:Int)=_
     unfold QZ;rw [zCm (by omega),zCk,zB3 ⟨by omega,by omega⟩,wu,zB3 p3,zB3 (An.2 ⟨by omega,by omega⟩),zCi,e2,zEk,p1]
     by_cases c1:pos.getD i 0<0
     ·rw [zCm c1,zCk,zAZ (p:=0<=pos.getD i 0) (by omega)];rfl
     ·rw [zAZ c1,zAc,zCm (p:=0<=pos.getD i 0) (by omega),zDG]
      by_cases c2:pos.getD i 0>=2 ^ q.symbols.toNat
      ·rw [zCm c2,zCk,zAZ (p:=pos.getD i 0<2 ^ q.symbols.toNat) (by omega)];rfl
      ·rw [zAZ c2,zAc,zCm (p:=pos.getD i 0<2 ^ q.symbols.toNat) (by omega),zDG];exact this
   exact key pos.length 0 n (by omega) (by omega)
  ·have h1:((pos.length:Int) != q.cells)=true:=by simpa using Ah
   have h2:((pos.length:Int)==q.cells)=false:=by simpa using Ah
   rw [h1,zCk,h2,zD6];rfl
end
end Go.Proofs.YtgkhhfnhacibcaaGreatDoor
namespace Go.Proofs.YtgkhhfnhacibcaaGreatDoor
open Go.RowKit
theorem pM {a b:List Int} {n:Nat} (hl:a.length<=LB) (hn:a.length<n):Fn n a b=some (decide (a=b)):=by
 have hb:LB<=9223372036854775806:=by decide
 unfold Fn eK
 by_cases Ah:a.length=b.length
 ·have e:((a.length:Int) != (b.length:Int))=false:=by rw [Ah];simp
  rw [e,zAc]
  have key: ∀ (k i n:Nat),i+k=a.length -> k+1<=n -> N8 a b n (.l1 (i:Int))=some (decide (a.drop i=b.drop i)):=by
   intro k
   induction k with
   | zero=>
    intro i n e hn;obtain ⟨n,rfl⟩: ∃ k,n=k+1:=⟨n-1,by omega⟩
    show QQ n (N8 a b n) a b (i:Int)=_
    unfold QQ;rw [zAZ (by omega),zAc,zDg (by omega),zDg (by omega)];rfl
   | succ k ih=>
    intro i n e hn;obtain ⟨n,rfl⟩: ∃ k,n=k+1:=⟨n-1,by omega⟩;have hi:i<a.length:=by omega
    have BD:i<b.length:=by omega
    have d: ∀ {l:List Int},i<l.length -> l.drop i=l.getD i 0::l.drop (i+1):=fun {l} h=>by
     rw [zDD h,u8,zAe h];rfl
    have:=ih (i+1) n (by omega) (by omega)
    show QQ n (N8 a b n) a b (i:Int)=_
    unfold QQ;rw [zCm (by omega),zCk,zB3 ⟨⟨by omega,by omega⟩,by omega,by omega⟩,zCi,zB3 (An.2 ⟨by omega,by omega⟩),d hi,d BD]
    by_cases h:a.getD i 0=b.getD i 0
    ·have:(a.getD i 0 != b.getD i 0)=false:=by rw [h];simp
     rw [this,zAc];refine Eq.trans (by assumption) ?_;rw [h];simp
    ·have:(a.getD i 0 != b.getD i 0)=true:=by simpa using h
     rw [this,zCk,zAZ fun e=>h (List.cons.inj e).1]
  exact key a.length 0 n (by omega) (by omega)
 ·have e:((a.length:Int) != (b.length:Int))=true:=by simp;omega
  rw [e,zCk,zAZ fun h=>Ah (by rw [h])]
section
variable {q:AA} {pos:List Int}
end
end Go.Proofs.YtgkhhfnhacibcaaGreatDoor
namespace Go.Proofs.YtgkhhfnhacibcaaGreatDoor
open Go.RowKit
set_option maxRecDepth 100000
set_option maxHeartbeats 40000000
def zAk (n:Nat) (cells:Int):Option AA:=
 if ((cells:Int)=cells/\ 0<=cells/\ (cells:Int)<=1000000000000)/\ ((0:Int)<=0/\ 0<=cells/\ cells<=((([0,1,2]:List Int).length:Nat):Int)) then
  if (cells).toNat=(List.replicate ((cells).toNat) ([]:List Int)).length then
   some (⟨cells,3,([1,2,3]:List Int),(List.replicate ((cells).toNat) ([]:List Int)),([(⟨1,(([0,1,2]:List Int).take ((cells).toNat)).drop 0,0,0,0,0,([]:List Int),0,0⟩:AB)]:List AB)⟩:AA)
  else none
 else none
def WS (n:Nat) (cells:Int):Option AA:=zAk n cells
theorem KW {n:Nat} {cells:Int} {r:AA} (h:WS n cells=some r):EQ 32 [.i cells] [] (.agg 5 (L1 (AD r))) [] true:=by
 refine ot Tryz.func32 fun B N=>?_
 revert r;apply gO;exact gc (gi (ja 7 2 1 (rC (c:=A4) (x:=([]:List Int)) (n:=(cells).toNat) (l:=[.nils]) ⟨AQ.ints_nil,trivial⟩) (jt (jz 9 4 (jg (by decide:3=([0,1,2]:List Int).length) (gi (ja 13 5 9 (Qa (c:=AH) (L:=([(⟨1,(([0,1,2]:List Int).take ((cells).toNat)).drop 0,0,0,0,0,([]:List Int),0,0⟩:AB)]:List AB)) (vals:=[.agg 9 (L1 [.i 1,.ints ((([0,1,2]:List Int).take ((cells).toNat)).drop 0),.i 0,.i 0,.i 0,.i 0,.nils,.i 0,.i 0])]) rfl ⟨⟨_,rfl,⟨Bh,Bh,Bh,Bh,Bh,Bh,AQ.ints_nil,Bh,Bh,trivial⟩⟩,trivial⟩) (jt (jt (gn fun g2=>lF fun p=>ez AE [2] [0,1,2,5] p [1,2,3] (H0.g (by decide:3=([1,2,3]:List Int).length) |>.g g2 |>.g (Eq.refl 1))))))))))))
def Zw (y1 y2 y3:AA):DH:=[some (.cells (AD y1)),some (.cells (AD y2)),some (.cells [.i y3.cells,.i y3.symbols,.ints y3.values,.sl 1 y3.nbrs.length (As A4 y3.nbrs),.nils]),none]
def Zv (y1 y2 y3:AA):DH:=[some (.cells (AD y1)),some (.cells (AD y2)),some (.cells [.i y3.cells,.i y3.symbols,.ints y3.values,.sl 1 y3.nbrs.length (As A4 y3.nbrs),.nils]),none,none]
def Zu (y1 y2 y3:AA):DH:=[some (.cells (AD y1)),some (.cells (AD y2)),some (.cells [.i y3.cells,.i y3.symbols,.ints y3.values,.sl 1 y3.nbrs.length (As A4 y3.nbrs),.nils]),none,none,none]
def Zt (y1 y2 y3:AA):DH:=[some (.cells (AD y1)),some (.cells (AD y2)),some (.cells [.i y3.cells,.i y3.symbols,.ints y3.values,.sl 1 y3.nbrs.length (As A4 y3.nbrs),.nils]),none,none,none,none]
def Zr (y1 y2 y3:AA):DH:=[some (.cells (AD y1)),some (.cells (AD y2)),some (.cells [.i y3.cells,.i y3.symbols,.ints y3.values,.sl 1 y3.nbrs.length (As A4 y3.nbrs),.nils]),none,none,none,none,none]
def Zq (y1 y2 y3:AA):DH:=[some (.cells (AD y1)),some (.cells (AD y2)),some (.cells [.i y3.cells,.i y3.symbols,.ints y3.values,.sl 1 y3.nbrs.length (As A4 y3.nbrs),.nils]),none,none,none,none,none,none]
def Ow (y1 y2 y3:AA):DH:=[some (.cells (AD y1)),some (.cells (AD y2)),some (.cells [.i y3.cells,.i y3.symbols,.ints y3.values,.sl 1 y3.nbrs.length (As A4 y3.nbrs),.nils]),none,none,none,none,none,none,none,none]
def Zp (y1 y2 y3:AA):DH:=[some (.cells (AD y1)),some (.cells (AD y2)),some (.cells [.i y3.cells,.i y3.symbols,.ints y3.values,.sl 1 y3.nbrs.length (As A4 y3.nbrs),.nils]),none,none,none,none,none,none,none,none,some (.ints ([1,2]:List Int))]
def xG (y1 y2 y3:AA):DH:=[some (.cells (AD y1)),some (.cells (AD y2)),some (.cells [.i y3.cells,.i y3.symbols,.ints y3.values,.sl 1 y3.nbrs.length (As A4 y3.nbrs),.nils]),none,none,none,none,none,none,none,none,some (.ints ([1,2]:List Int)),some (.ints ([1,2,4]:List Int))]
def xF (y1 y2 y3:AA):DH:=[some (.cells (AD y1)),some (.cells (AD y2)),some (.cells [.i y3.cells,.i y3.symbols,.ints y3.values,.sl 1 y3.nbrs.length (As A4 y3.nbrs),.nils]),none,none,none,none,none,none,none,none,some (.ints ([1,2]:List Int)),some (.ints ([1,2,4]:List Int)),some (.ints ([0,0]:List Int))]
def xK (y1 y2 y3:AA):DH:=[some (.cells (AD y1)),some (.cells (AD y2)),some (.cells [.i y3.cells,.i y3.symbols,.ints y3.values,.sl 1 y3.nbrs.length (As A4 y3.nbrs),.nils]),none,none,none,none,none,none,none,none,some (.ints ([1,2]:List Int)),some (.ints ([1,2,4]:List Int)),some (.ints ([0,0]:List Int)),some (.ints ([1,1]:List Int))]
def xJ (y1 y2 y3:AA):DH:=[some (.cells (AD y1)),some (.cells (AD y2)),some (.cells [.i y3.cells,.i y3.symbols,.ints y3.values,.sl 1 y3.nbrs.length (As A4 y3.nbrs),.nils]),none,none,none,none,none,none,none,none,some (.ints ([1,2]:List Int)),some (.ints ([1,2,4]:List Int)),some (.ints ([0,0]:List Int)),some (.ints ([1,1]:List Int)),some (.ints ([0,0]:List Int))]
def xI (y1 y2 y3:AA):DH:=[some (.cells (AD y1)),some (.cells (AD y2)),some (.cells [.i y3.cells,.i y3.symbols,.ints y3.values,.sl 1 y3.nbrs.length (As A4 y3.nbrs),.nils]),none,none,none,none,none,none,none,none,some (.ints ([1,2]:List Int)),some (.ints ([1,2,4]:List Int)),some (.ints ([0,0]:List Int)),some (.ints ([1,1]:List Int)),some (.ints ([0,0]:List Int)),some (.ints ([0,0]:List Int))]
def xH (y1 y2 y3:AA):DH:=[some (.cells (AD y1)),some (.cells (AD y2)),some (.cells [.i y3.cells,.i y3.symbols,.ints y3.values,.sl 1 y3.nbrs.length (As A4 y3.nbrs),.nils]),none,none,none,none,none,none,none,none,some (.ints ([1,2]:List Int)),some (.ints ([1,2,4]:List Int)),some (.ints ([0,0]:List Int)),some (.ints ([1,1]:List Int)),some (.ints ([0,0]:List Int)),some (.ints ([0,0]:List Int)),some (.ints ([0]:List Int))]
def eJ (n:Nat):Option Bool:=
 (WS n 3).bind fun y1=>
  (WS n 2).bind fun y2=>
   (WS n 2).bind fun y3=>
    (HJ n y1 ([1,3,7]:List Int) 1).bind fun y4=>
     (YU n y1 ([1,3,7]:List Int) 4).bind fun y5=>
      (HJ n y2 ([1,1]:List Int) 0).bind fun y6=>
       (HJ n y2 ([1,1]:List Int) 1).bind fun y7=>
        (HJ n (⟨y3.cells,y3.symbols,y3.values,y3.nbrs,([]:List AB)⟩:AA) ([3,0]:List Int) 4).bind fun y8=>
         (YU n y2 ([1,3]:List Int) 1).bind fun y9=>
          (TM n y2 ([1,1]:List Int) ([2]:List Int) 1).bind fun cP=>
           (WD n (⟨0,0,([]:List Int),([]:List (List Int)),([]:List AB)⟩:AA) ([]:List Int) 1).bind fun cO=>
            (WD n y2 ([1,2]:List Int) 1).bind fun XC=>
             bif (y4.2==0) then
              bif (y5.2==0) then
               bif (y6.2==0) then
                bif (y7.2==0) then
                 bif (y8.2==0) then
                  bif (y9.2==0) then
                   bif (cP.2==1) then
                    bif (cO.2==191) then
                     bif (XC.2==0) then
                      bif XC.1 then
                       (Fn n y4.1 ([1,2,4]:List Int)).bind fun cN=>
                        bif cN then
                         (Fn n y5.1 ([0,0]:List Int)).bind fun cM=>
                          bif cM then
                           (Fn n y6.1 ([1,1]:List Int)).bind fun cL=>
                            bif cL then
                             (Fn n y7.1 ([0,0]:List Int)).bind fun cK=>
                              bif cK then
                               (Fn n y8.1 ([0,0]:List Int)).bind fun cJ=>
                                bif cJ then
                                 (Fn n y9.1 ([0]:List Int)).bind fun cI=>
                                  some cI
                                else
                                 some false
                              else
                               some false
                            else
                             some false
                          else
                           some false
                        else
                         some false
                      else
                       some false
                     else
                      some false
                    else
                     some false
                   else
                    some false
                  else
                   some false
                 else
                  some false
                else
                 some false
               else
                some false
              else
               some false
             else
              some false
def N7 (n:Nat):Option Bool:=eJ n
theorem Xn {n:Nat} {r:Bool} (h:N7 n=some r):EQ 10 [] [] (.bool r) [] true:=by
 unfold N7 eJ at h;refine ot Tryz.func10 fun B N=>?_
 revert r;apply gO;exact cn fun y1 A0=>jc (fb (KW A0) []) (cn fun y2 Bt=>jc (fb (KW Bt) []) (cn fun y3 KB=>jc (fb (KW KB) []) (jt (jt (jt (jt (jz 29 3 (jg (by decide:3=([1,3,7]:List Int).length) (cn fun y4 KA=>jc (fb (Fi KA) (Zw y1 y2 y3)) (jz 35 4 (jg (by decide:3=([1,3,7]:List Int).length) (cn fun y5 Rl=>jc (fb (OQ Rl) (Zv y1 y2 y3)) (jz 41 5 (jg (by decide:2=([1,1]:List Int).length) (cn fun y6 ZV=>jc (fb (Fi ZV) (Zu y1 y2 y3)) (jz 47 6 (jg (by decide:2=([1,1]:List Int).length) (cn fun y7 ZU=>jc (fb (Fi ZU) (Zt y1 y2 y3)) (jz 53 7 (jg (by decide:2=([3,0]:List Int).length) (cn fun y8 ZT=>jc (fb (ES.argsLe (ds:=[.agg 5 (L1 [.i y3.cells,.i y3.symbols,.ints y3.values,.sl 1 y3.nbrs.length (As A4 y3.nbrs),.nils]),.ints ([3,0]:List Int),.i 4]) (Fi ZT) ⟨(AQ.aggL (l:=[.i y3.cells,.i y3.symbols,.ints y3.values,.sl 1 y3.nbrs.length (As A4 y3.nbrs),.nils]) (l':=[.i y3.cells,.i y3.symbols,.ints y3.values,.sl 1 y3.nbrs.length (As A4 y3.nbrs),.sl 9 (([]:List AB).length) (As AH ([]:List AB))]) rfl ⟨Bh,Bh,Bh,Bh,(AQ.sl_nil _ _),trivial⟩),Bh,Bh,trivial⟩) (Zr y1 y2 y3)) (jz 59 8 (jg (by decide:2=([1,3]:List Int).length) (cn fun y9 ZS=>jc (fb (OQ ZS) (Zq y1 y2 y3)) (jz 65 9 (jg (by decide:2=([1,1]:List Int).length) (jz 66 10 (jg (by decide:1=([2]:List Int).length) (cn fun cP ZY=>jc (fb (W5 ZY) (Ow y1 y2 y3)) (cn fun cO ZX=>jc (sb [.agg 5 (L1 [.i 0,.i 0,.nils,.nils,.nils]),.nils,.i 1] (PK ZX) (Ow y1 y2 y3) ⟨(AR.dle (by kernel_rfl) (AQ.aggL (l:=[.i 0,.i 0,.nils,.nils,.nils]) (l':=[.i 0,.i 0,.ints ([]:List Int),.sl 1 (([]:List (List Int)).length) (As A4 ([]:List (List Int))),.sl 9 (([]:List AB).length) (As AH ([]:List AB))]) rfl ⟨Bh,Bh,AQ.ints_nil,(AQ.sl_nil _ _),(AQ.sl_nil _ _),trivial⟩)),AR.nils,AR.plain (by kernel_rfl),trivial⟩) (cn fun XC ZW=>jc (sb [.agg 5 (L1 (AD y2)),.msl 11 1 0 2,.i 1] (PK ZW) (Zp y1 y2 y3) ⟨AR.plain (by kernel_rfl),AR.ints rfl (by decide:2=([1,2]:List Int).length),AR.plain (by kernel_rfl),trivial⟩) (bj 82 (fun c0=>bj 85 (fun c1=>bj 89 (fun c2=>bj 93 (fun c3=>bj 97 (fun c4=>bj 101 (fun c5=>bj 105 (fun c6=>bj 109 (fun c7=>bj 113 (fun c8=>bn (fun c9=>rO (jc (fb (KW A0) []) (jc (fb (KW Bt) []) (jc (fb (KW KB) []) (jt (jt (jt (jt (jz 29 3 (jg (by decide:3=([1,3,7]:List Int).length) (jc (fb (Fi KA) (Zw y1 y2 y3)) (jz 35 4 (jg (by decide:3=([1,3,7]:List Int).length) (jc (fb (OQ Rl) (Zv y1 y2 y3)) (jz 41 5 (jg (by decide:2=([1,1]:List Int).length) (jc (fb (Fi ZV) (Zu y1 y2 y3)) (jz 47 6 (jg (by decide:2=([1,1]:List Int).length) (jc (fb (Fi ZU) (Zt y1 y2 y3)) (jz 53 7 (jg (by decide:2=([3,0]:List Int).length) (jc (fb (ES.argsLe (ds:=[.agg 5 (L1 [.i y3.cells,.i y3.symbols,.ints y3.values,.sl 1 y3.nbrs.length (As A4 y3.nbrs),.nils]),.ints ([3,0]:List Int),.i 4]) (Fi ZT) ⟨(AQ.aggL (l:=[.i y3.cells,.i y3.symbols,.ints y3.values,.sl 1 y3.nbrs.length (As A4 y3.nbrs),.nils]) (l':=[.i y3.cells,.i y3.symbols,.ints y3.values,.sl 1 y3.nbrs.length (As A4 y3.nbrs),.sl 9 (([]:List AB).length) (As AH ([]:List AB))]) rfl ⟨Bh,Bh,Bh,Bh,(AQ.sl_nil _ _),trivial⟩),Bh,Bh,trivial⟩) (Zr y1 y2 y3)) (jz 59 8 (jg (by decide:2=([1,3]:List Int).length) (jc (fb (OQ ZS) (Zq y1 y2 y3)) (jz 65 9 (jg (by decide:2=([1,1]:List Int).length) (jz 66 10 (jg (by decide:1=([2]:List Int).length) (jc (fb (W5 ZY) (Ow y1 y2 y3)) (jc (sb [.agg 5 (L1 [.i 0,.i 0,.nils,.nils,.nils]),.nils,.i 1] (PK ZX) (Ow y1 y2 y3) ⟨(AR.dle (by kernel_rfl) (AQ.aggL (l:=[.i 0,.i 0,.nils,.nils,.nils]) (l':=[.i 0,.i 0,.ints ([]:List Int),.sl 1 (([]:List (List Int)).length) (As A4 ([]:List (List Int))),.sl 9 (([]:List AB).length) (As AH ([]:List AB))]) rfl ⟨Bh,Bh,AQ.ints_nil,(AQ.sl_nil _ _),(AQ.sl_nil _ _),trivial⟩)),AR.nils,AR.plain (by kernel_rfl),trivial⟩) (jc (sb [.agg 5 (L1 (AD y2)),.msl 11 1 0 2,.i 1] (PK ZW) (Zp y1 y2 y3) ⟨AR.plain (by kernel_rfl),AR.ints rfl (by decide:2=([1,2]:List Int).length),AR.plain (by kernel_rfl),trivial⟩) (jb 79 c9 (jb 82 c0 (jb 85 c1 (jb 89 c2 (jb 93 c3 (jb 97 c4 (jb 101 c5 (jb 105 c6 (jb 109 c7 (jb 113 c8 (cn fun cN wJ=>jc (sb [.ints y4.1,.msl 12 1 0 3] (K0 wJ) (xG y1 y2 y3) ⟨AR.plain (by kernel_rfl),AR.ints rfl (by decide:3=([1,2,4]:List Int).length),trivial⟩) (bi 122 (cn fun cM wI=>jc (sb [.ints y5.1,.msl 13 1 0 2] (K0 wI) (xF y1 y2 y3) ⟨AR.plain (by kernel_rfl),AR.ints rfl (by decide:2=([0,0]:List Int).length),trivial⟩) (bi 127 (cn fun cL wH=>jc (sb [.ints y6.1,.msl 14 1 0 2] (K0 wH) (xK y1 y2 y3) ⟨AR.plain (by kernel_rfl),AR.ints rfl (by decide:2=([1,1]:List Int).length),trivial⟩) (bi 132 (cn fun cK wG=>jc (sb [.ints y7.1,.msl 15 1 0 2] (K0 wG) (xJ y1 y2 y3) ⟨AR.plain (by kernel_rfl),AR.ints rfl (by decide:2=([0,0]:List Int).length),trivial⟩) (bi 137 (cn fun cJ wF=>jc (sb [.ints y8.1,.msl 16 1 0 2] (K0 wF) (xI y1 y2 y3) ⟨AR.plain (by kernel_rfl),AR.ints rfl (by decide:2=([0,0]:List Int).length),trivial⟩) (bi 142 (cn fun cI wE=>jc (sb [.ints y9.1,.msl 17 1 0 1] (K0 wE) (xH y1 y2 y3) ⟨AR.plain (by kernel_rfl),AR.ints rfl (by decide:1=([0]:List Int).length),trivial⟩) (lE AE [0] [])) (lE AE [0] []))) (lE AE [0] []))) (lE AE [0] []))) (lE AE [0] []))) (lE AE [0] [])))))))))))))))))))))))))))))))))))))))))))))) (fun c9=>rO (jc (fb (KW A0) []) (jc (fb (KW Bt) []) (jc (fb (KW KB) []) (jt (jt (jt (jt (jz 29 3 (jg (by decide:3=([1,3,7]:List Int).length) (jc (fb (Fi KA) (Zw y1 y2 y3)) (jz 35 4 (jg (by decide:3=([1,3,7]:List Int).length) (jc (fb (OQ Rl) (Zv y1 y2 y3)) (jz 41 5 (jg (by decide:2=([1,1]:List Int).length) (jc (fb (Fi ZV) (Zu y1 y2 y3)) (jz 47 6 (jg (by decide:2=([1,1]:List Int).length) (jc (fb (Fi ZU) (Zt y1 y2 y3)) (jz 53 7 (jg (by decide:2=([3,0]:List Int).length) (jc (fb (ES.argsLe (ds:=[.agg 5 (L1 [.i y3.cells,.i y3.symbols,.ints y3.values,.sl 1 y3.nbrs.length (As A4 y3.nbrs),.nils]),.ints ([3,0]:List Int),.i 4]) (Fi ZT) ⟨(AQ.aggL (l:=[.i y3.cells,.i y3.symbols,.ints y3.values,.sl 1 y3.nbrs.length (As A4 y3.nbrs),.nils]) (l':=[.i y3.cells,.i y3.symbols,.ints y3.values,.sl 1 y3.nbrs.length (As A4 y3.nbrs),.sl 9 (([]:List AB).length) (As AH ([]:List AB))]) rfl ⟨Bh,Bh,Bh,Bh,(AQ.sl_nil _ _),trivial⟩),Bh,Bh,trivial⟩) (Zr y1 y2 y3)) (jz 59 8 (jg (by decide:2=([1,3]:List Int).length) (jc (fb (OQ ZS) (Zq y1 y2 y3)) (jz 65 9 (jg (by decide:2=([1,1]:List Int).length) (jz 66 10 (jg (by decide:1=([2]:List Int).length) (jc (fb (W5 ZY) (Ow y1 y2 y3)) (jc (sb [.agg 5 (L1 [.i 0,.i 0,.nils,.nils,.nils]),.nils,.i 1] (PK ZX) (Ow y1 y2 y3) ⟨(AR.dle (by kernel_rfl) (AQ.aggL (l:=[.i 0,.i 0,.nils,.nils,.nils]) (l':=[.i 0,.i 0,.ints ([]:List Int),.sl 1 (([]:List (List Int)).length) (As A4 ([]:List (List Int))),.sl 9 (([]:List AB).length) (As AH ([]:List AB))]) rfl ⟨Bh,Bh,AQ.ints_nil,(AQ.sl_nil _ _),(AQ.sl_nil _ _),trivial⟩)),AR.nils,AR.plain (by kernel_rfl),trivial⟩) (jc (sb [.agg 5 (L1 (AD y2)),.msl 11 1 0 2,.i 1] (PK ZW) (Zp y1 y2 y3) ⟨AR.plain (by kernel_rfl),AR.ints rfl (by decide:2=([1,2]:List Int).length),AR.plain (by kernel_rfl),trivial⟩) (jb 79 c9 (jb 82 c0 (jb 85 c1 (jb 89 c2 (jb 93 c3 (jb 97 c4 (jb 101 c5 (jb 105 c6 (jb 109 c7 (jb 113 c8 (lE AE [0] []))))))))))))))))))))))))))))))))))))))))))))) (fun _=>lE AE [0] [])) (fun _=>lE AE [0] [])) (fun _=>lE AE [0] [])) (fun _=>lE AE [0] [])) (fun _=>lE AE [0] [])) (fun _=>lE AE [0] [])) (fun _=>lE AE [0] [])) (fun _=>lE AE [0] [])) (fun _=>lE AE [0] [])))))))))))))))))))))))))))))))))
end Go.Proofs.YtgkhhfnhacibcaaGreatDoor
namespace Go.Proofs.YtgkhhfnhacibcaaGreatDoor
open Go.RowKit
section
variable {q:AA} {pos cells:List Int} {level:Int}
theorem pK:Ev N7 true:=⟨300,fun n hn=>by
 obtain ⟨k,rfl⟩: ∃ k,n=k+300:=⟨n-300,by omega⟩
 show N7 (k+300)=some true
 kernel_rfl⟩
end
end Go.Proofs.YtgkhhfnhacibcaaGreatDoor
namespace Go.Proofs.YtgkhhfnhacibcaaGreatDoor
open Go.RowKit
set_option maxRecDepth 100000
set_option maxHeartbeats 40000000
def XM (n:Nat) (q:AA) (pos:List Int):Option Bool:=
 (SP n q pos).bind fun y1=>
  bif y1 then
   (QR n q).bind fun y2=>
    bif (y2==0) then
     (T5 n q pos).bind fun y3=>
      some (y3==0)
    else
     some false
  else
   some false
def Jg (n:Nat) (q:AA) (pos:List Int):Option Bool:=XM n q pos
theorem XL {n:Nat} {q:AA} {pos:List Int} {r:Bool} (h:Jg n q pos=some r):EQ 11 [.agg 5 (L1 (AD q)),.ints pos] [] (.bool r) [] true:=by
 unfold Jg XM at h;refine ot Tryz.func11 fun B N=>?_
 revert r;apply gO;exact cf zAR [some (.cells (AD q))] fun _=>bi 7 (cf eT [some (.cells (AD q))] fun _=>bi 11 (cf q7 [some (.cells (AD q))] fun _=>lE AE [4] []) (lE AE [4] [])) (lE AE [4] [])
end Go.Proofs.YtgkhhfnhacibcaaGreatDoor
namespace Go.Proofs.YtgkhhfnhacibcaaGreatDoor
open Go.RowKit
section
variable {q:AA} {pos tU w b x y:List Int} {level i:Int}
theorem zAQ {n:Nat} (hn:q.cons.length<n): ∃ b,SP n q pos=some b:=by
 obtain ⟨b,hb⟩:=zAK (q:=q) (pos:=pos) hn;unfold SP ar;rw [hb,zCj];cases b with
 | false=>exact ⟨_,rfl⟩
 | true=>exact ⟨_,rfl⟩
theorem nL (hF:CW q) (hl:pos.length<=LB):Ad (fun n=>Jg n q pos) (fun b=>b=true -> BF q pos):=by
 refine ⟨D7 q+pos.length+q.cons.length+1,fun n hn=>?_⟩
 show ∃ b,Jg n q pos=some b/\ _
 unfold Jg XM;obtain ⟨b,hb⟩:=zAQ (q:=q) (pos:=pos) (n:=n) (by omega);rw [hb,zCj];cases b with
 | false=>exact ⟨false,rfl,fun h=>by cases h⟩
 | true=>
  rw [zCk,eV hF (by omega),zCj];cases (Cq (Bp q) 191==0) with
  | false=>exact ⟨false,rfl,fun h=>by cases h⟩
  | true=>
   rw [zCk,q8 hF (by omega) hl (by omega),zCj];exact ⟨_,rfl,fun h=>BF.of hF (by simpa using h)⟩
theorem nK {n:Nat -> Option Bool} {f:Nat -> Option Bool} (h: ∀ m,n m=(N7 m).bind fun y1=>bif (!y1) then some false else (Jg m q pos).bind fun y2=>bif (!y2) then some true else f m) (hF:CW q) (hl:pos.length<=LB) (hf:BF q pos -> Ev f true):Ev n true:=by
 obtain ⟨N1,h1⟩:=pK;obtain ⟨N2,h2⟩:=nL hF hl
 have hf: ∃ N,∀ m,N<=m -> BF q pos -> f m=some true:=by
  by_cases hp:BF q pos
  ·obtain ⟨N,h⟩:=hf hp;exact ⟨N,fun m hm _=>h m hm⟩
  ·exact ⟨0,fun m _ h=>absurd h hp⟩
 obtain ⟨N3,h3⟩:=hf;refine ⟨max N1 (max N2 N3),fun m hm=>?_⟩;obtain ⟨b,hb,zH⟩:=h2 m (by omega);have hb:Jg m q pos=some b:=hb;rw [h m,h1 m (by omega),zCj]
 show ((Jg m q pos).bind fun y2=>bif (!y2) then some true else f m)=_
 rw [hb,zCj];cases b with
 | false=>rfl
 | true=>exact h3 m (by omega) (zH rfl)
def nrm (p:List Int):List Int:=if B0 p=true then List.replicate p.length 0 else p
theorem BF.zero (hp:BF q pos):BF q (List.replicate pos.length 0):=by
 refine ⟨hp.fit,hp.valid,(Qy hp.valid).2 ⟨by rw [zC0];exact hp.len,fun j _=>?_⟩⟩
 have e:(List.replicate pos.length (0:Int)).getD j 0=0:=by
  rw [u8,zDc];split <;> rfl
 rw [e];exact ⟨by omega,Int.pow_pos (by decide)⟩
theorem BF.nrm (hp:BF q pos):BF q (nrm pos):=by
 unfold Proofs.YtgkhhfnhacibcaaGreatDoor.nrm;split
 ·exact hp.zero
 ·exact hp
theorem EO.nrm (hp:BF q pos) {g:List Int} (h:EO q level pos g):DK q (Up q level) (nrm pos) g/\ Kg q (Up q level) g:=by
 unfold Proofs.YtgkhhfnhacibcaaGreatDoor.nrm;rcases h with ⟨h1,rfl⟩ | ⟨h1,h2,h3⟩
 ·rw [zB3 h1];exact ⟨.refl _,kO hp.len256.1⟩
 ·rw [zCt (by rw [h1];exact fun h=>by cases h)];exact ⟨h2,h3⟩
theorem DK.zero {U:Int -> Prop} (h:DK q U x y):(B0 x=true -> x=List.replicate x.length 0) -> B0 y=true -> y=List.replicate y.length 0:=by
 induction h with
 | refl p=>exact id
 | step hi hx _ ih=>exact fun _=>ih fun hd=>by rw [hx.len];exact hx.zero hd
theorem mT (hp:BF q pos): ∃ g,Ev (fun n=>HJ n q pos level) (g,0)/\ EO q level pos g/\ BF q g:=by
 obtain ⟨a,a1,a2⟩:=zCT (level:=level) hp.fit (zCv hp.len256.2 (by decide))
 have hE:a.2=0/\ EO q level pos a.1:=by
  rcases a2 with ⟨h,_⟩ | ⟨_,h,_⟩ | ⟨_,_,h,h'⟩
  ·exact absurd hp.check h
  ·cases h
  ·exact ⟨h,h'⟩
 obtain ⟨g,e⟩:=a;obtain ⟨rfl,h2⟩:=hE;exact ⟨g,a1,h2,(h2.nrm hp).1.pos TT hp.nrm⟩
end
end Go.Proofs.YtgkhhfnhacibcaaGreatDoor
namespace Go.Proofs.YtgkhhfnhacibcaaGreatDoor
open Go.RowKit
section
variable {q:AA} {p p' g g':List Int} {level U8:Int}
theorem zn (m j:Nat):(List.replicate m (0:Int)).getD j 0=0:=by
 rw [u8,zDc];split <;> rfl
theorem cH (m:Nat) (a:List Int):Le (List.replicate m 0) a:=fun j s hs=>by
 rw [zn] at hs;exact absurd hs Gp
theorem EO.le (h:EO q level p g):Le g p:=by
 rcases h with ⟨_,rfl⟩ | ⟨_,h,_⟩
 ·exact cH _ _
 ·exact h.le
theorem EO.pos (hp:BF q p) (h:EO q level p g):BF q g:=(h.nrm hp).1.pos TT hp.nrm
theorem Le.dead (hp:BF q p) (A2:BF q p') (h:Le p' p) (hd:B0 p=true):B0 p'=true:=by
 cases e:B0 p' with
 | true=>rfl
 | false=>
  have:B0 p=false:=FN.2 fun j hj=>by
   have A3:j<p'.length:=by rw [hp.eqlen A2];exact hj
   obtain ⟨s,h1,h2⟩:=(D6 (A2.in64 j)).1 (FN.1 e j A3);exact (D6 (hp.in64 j)).2 ⟨s,h1,h _ _ h2⟩
  rw [this] at hd;cases hd
theorem Up.mono (h:level<=U8) {i:Int} (hi:Up q level i):Up q U8 i:=⟨hi.1,hi.2.1,Int.le_trans hi.2.2 h⟩
theorem EO.mono (hp:BF q p) (A2:BF q p') (h:Le p' p) (hl:level<=U8) (e:EO q level p g) (e':EO q U8 p' g'):Le g' g:=by
 have hf:=(e'.nrm A2).2;have R6:=e'.pos A2;rcases e with ⟨h1,rfl⟩ | ⟨h1,h2,h3⟩
 ·have hd:=Le.dead hp A2 h h1;rcases e' with ⟨_,rfl⟩ | ⟨g1,_⟩
  ·exact cH _ _
  ·rw [hd] at g1;cases g1
 ·exact h2.above TT hp R6 (e'.le.trans h) fun i hi=>hf i (hi.mono hl)
end
end Go.Proofs.YtgkhhfnhacibcaaGreatDoor
namespace Go.Proofs.YtgkhhfnhacibcaaGreatDoor
open Go.RowKit
end Go.Proofs.YtgkhhfnhacibcaaGreatDoor
namespace Go.Proofs.YtgkhhfnhacibcaaGreatDoor
open Go.RowKit
section
variable {q:AA} {i:Int} {pos x:List Int}
theorem mz {m:Nat} (h:0<m):B0 (List.replicate m (0:Int))=true:=by
 cases m with
 | zero=>omega
 | succ m=>rfl
end
end Go.Proofs.YtgkhhfnhacibcaaGreatDoor
namespace Go.Proofs.YtgkhhfnhacibcaaGreatDoor
open Go.RowKit
set_option maxRecDepth 100000
set_option maxHeartbeats 40000000
end Go.Proofs.YtgkhhfnhacibcaaGreatDoor
namespace Go.Proofs.YtgkhhfnhacibcaaGreatDoor
open Go.RowKit
section
variable {q:AA} {a b x y p:List Int} {level other:Int}
theorem pL (hx:BF q x):Ev (fun n=>Fn n x x) true:=⟨x.length+1,fun n hn=>by
 show Fn n x x=_
 rw [pM (zCv hx.len256.2 (by decide)) (by omega),zCm rfl]⟩
theorem EO.zero (hp:BF q p) {g:List Int} (h:EO q level p g):B0 g=true -> g=List.replicate g.length 0:=fun hd=>by
 rcases h with ⟨_,rfl⟩ | ⟨h1,h2,_⟩
 ·rw [zC0]
 ·exact h2.zero (fun h=>by rw [h1] at h;cases h) hd
end
end Go.Proofs.YtgkhhfnhacibcaaGreatDoor
namespace Go.Proofs.YtgkhhfnhacibcaaGreatDoor
open Go.RowKit
set_option maxRecDepth 100000
set_option maxHeartbeats 40000000
def ll (n:Nat) (Eu:Int):Option Int:=
 bif (decide (Eu<0)) then
  some 0
 else
  bif (decide (Eu>=16)) then
   some 0
  else
   if 0<=IntKind.u64.wrap Eu/\ IntKind.u64.wrap Eu<=(IntKind.i64.bits:Int) then
    some (IntKind.i64.wrap (1*2 ^ (IntKind.u64.wrap Eu).toNat))
   else none
def Wp (n:Nat) (Eu:Int):Option Int:=ll n Eu
theorem zBw {n:Nat} {Eu:Int} {r:Int} (h:Wp n Eu=some r):EQ 63 [.i Eu] [] (.i r) [] true:=by
 refine ot Tryz.func63 fun B N=>?_
 revert r;apply gO;exact bi 4 (lE AE [2] []) (bi 7 (lE AE [2] []) (gi (lE AE [2] [])))
theorem qQ:At (BA Tryz.f31 6) [([0,1,2,3,4,5,6,7],8)] [9,10] []:=by unfold At;kernel_rfl
def QP:Bb:=fun i=>match i with
 | 6=>.ord [([0,1,2,3,4,5,6,7],8)] [9,10] []
 | _=>.no
inductive W4 where
 | l1 (x5:Int)
def TK (n:Nat) (self:W4 -> Option Bool) (pos AF:List Int) (x5:Int):Option Bool:=
 bif (decide (x5<(pos.length:Int))) then
  if (0<=x5/\ x5<(pos.length:Int))/\ (0<=x5/\ x5<(AF.length:Int)) then
   (Wp n (AF.getD ((x5).toNat) 0)).bind fun y1=>
    bif ((bits .and .i64 (pos.getD ((x5).toNat) 0) y1)==0) then
     some false
    else
     if AI (x5+1) then
      self (.l1 (x5+1))
     else none
  else none
 else
  some true
def mZ (n:Nat) (self:W4 -> Option Bool) (pos AF:List Int):Option Bool:=
 bif ((pos.length:Int) != (AF.length:Int)) then
  some false
 else
  self (.l1 0)
def Lt (pos AF:List Int):Nat -> W4 -> Option Bool
 | 0,_=>none
 | n+1,.l1 x5=>TK n (Lt pos AF n) pos AF x5
def Lu (n:Nat) (pos AF:List Int):Option Bool:=mZ n (Lt pos AF n) pos AF
def zCV (n B:Nat) (N:Yd 0) (pos AF:List Int) (r:Bool):W4 -> Prop
 | .l1 x5=>∀ m0:Nat,n<=m0 -> TW B N (FQ Tryz.f31 0 (.bool r) []) (Ak m0 (Au (AZ Tryz.f31) 0 [])) ⟨AM 28 [(0,.ints pos),(1,.ints AF),(5,.i x5)],[]⟩
theorem zCW (B:Nat) (N:Yd 0) (pos AF:List Int):Al (Lt pos AF) (zCV · B N pos AF):=ia (fun _=>rfl) fun n AG pt r h=>by
 cases pt
 case l1 x5=>
  intro m0 AC;refine rd AC fun m0 AC=>?_
  revert r;apply gO;exact bi 14 (jg qQ (gc (gi (gi (cf zBw [] fun _=>bi 27 (lE QP [4] []) (gw 16 (lG QP [] (AG _ _ · m0 AC)))))))) (lE QP [4] [])
theorem mY {n:Nat} {pos AF:List Int} {r:Bool} (h:Lu n pos AF=some r):EQ 31 [.ints pos,.ints AF] [] (.bool r) [] true:=by
 refine ot Tryz.func31 fun B N=>?_
 revert r;apply gO;exact bi 10 (lE QP [4] []) (lN QP [] ((zCW B N pos AF n) _ _ · n Nat.le.refl))
inductive VB where
 | l1 (Af:Bool) (EP:Int) (o1:List Int)
def RR (n:Nat) (self:VB -> Option Bool) (q:AA) (pos AF:List Int) (level:Int) (Af:Bool) (EP:Int) (o1:List Int):Option Bool:=
 bif (decide (EP<(AF.length:Int))) then
  if 0<=EP/\ EP<(AF.length:Int) then
   bif (decide ((AF.getD ((EP).toNat) 0)<0)) then
    some false
   else
    bif (decide ((AF.getD ((EP).toNat) 0)>=q.symbols)) then
     some false
    else
     bif (decide (EP>=q.cells)) then
      some false
     else
      if (0<=AF.getD ((EP).toNat) 0/\ AF.getD ((EP).toNat) 0<=(IntKind.i64.bits:Int))/\ (0<=EP/\ EP<(((q.cells).toNat:Nat):Int))/\ 0+((EP).toNat)<o1.length/\ AI (EP+1) then
       self (.l1 Af (EP+1) (o1.set (0+((EP).toNat)) (IntKind.i64.wrap (1*2 ^ (AF.getD ((EP).toNat) 0).toNat))))
      else none
  else none
 else
  if (q.cells).toNat=o1.length then
   if AI (4+(IntKind.i64.wrap (Int.tmod (IntKind.u64.wrap level) 5))) then
    (HJ n q o1 (4+(IntKind.i64.wrap (Int.tmod (IntKind.u64.wrap level) 5)))).bind fun y1=>
     bif (y1.2 != 0) then
      some false
     else
      bif Af then
       (Fn n y1.1 o1).bind fun y2=>
        some y2
      else
       if ((q.cells:Int)=q.cells/\ 0<=q.cells/\ (q.cells:Int)<=1000000000000)/\ (q.cells).toNat=(List.replicate ((q.cells).toNat) (0:Int)).length then
        (Fn n y1.1 (List.replicate ((q.cells).toNat) (0:Int))).bind fun y2=>
         some y2
       else none
   else none
  else none
def uj (n:Nat) (self:VB -> Option Bool) (q:AA) (pos AF:List Int) (level:Int):Option Bool:=
 (N7 n).bind fun y1=>
  bif (!y1) then
   some false
  else
   (Jg n q pos).bind fun y2=>
    bif (!y2) then
     some true
    else
     bif (decide ((AF.length:Int)>20)) then
      some true
     else
      (HJ n q pos level).bind fun y3=>
       (QH n q AF).bind fun y4=>
        bif (y3.2 != 0) then
         some false
        else
         bif (y4.2==0) then
          bif y4.1 then
           (Lu n pos AF).bind fun y5=>
            bif y5 then
             (Lu n y3.1 AF).bind fun y6=>
              bif (!y6) then
               some false
              else
               bif (y4.2 != 0) then
                some true
               else
                if (q.cells:Int)=q.cells/\ 0<=q.cells/\ (q.cells:Int)<=1000000000000 then
                 self (.l1 true 0 (List.replicate ((q.cells).toNat) (0:Int)))
                else none
            else
             bif (y4.2 != 0) then
              some true
             else
              if (q.cells:Int)=q.cells/\ 0<=q.cells/\ (q.cells:Int)<=1000000000000 then
               self (.l1 true 0 (List.replicate ((q.cells).toNat) (0:Int)))
              else none
          else
           bif (y4.2 != 0) then
            some true
           else
            if (q.cells:Int)=q.cells/\ 0<=q.cells/\ (q.cells:Int)<=1000000000000 then
             self (.l1 false 0 (List.replicate ((q.cells).toNat) (0:Int)))
            else none
         else
          bif (y4.2 != 0) then
           some true
          else
           if (q.cells:Int)=q.cells/\ 0<=q.cells/\ (q.cells:Int)<=1000000000000 then
            self (.l1 y4.1 0 (List.replicate ((q.cells).toNat) (0:Int)))
           else none
def GH (q:AA) (pos AF:List Int) (level:Int):Nat -> VB -> Option Bool
 | 0,_=>none
 | n+1,.l1 Af EP o1=>RR n (GH q pos AF level n) q pos AF level Af EP o1
def iO (n:Nat) (q:AA) (pos AF:List Int) (level:Int):Option Bool:=uj n (GH q pos AF level n) q pos AF level
def uk (n B:Nat) (N:Yd 0) (q:AA) (pos AF:List Int) (level:Int) (r:Bool):VB -> Prop
 | .l1 Af EP o1=>∀ m0:Nat,n<=m0 -> TW B N (FQ Tryz.f9 0 (.bool r) []) (Ak m0 (Au (AZ Tryz.f9) 0 [])) ⟨AM 114 [(3,.i level),(4,.ref 0 0),(11,.bool Af),(13,.msl 1 1 0 ((q.cells).toNat)),(65,.ints AF),(66,.i (AF.length:Int)),(67,.i EP)],[some (.cells (AD q)),some (.ints o1)]⟩
theorem ul (B:Nat) (N:Yd 0) (q:AA) (pos AF:List Int) (level:Int):Al (GH q pos AF level) (uk · B N q pos AF level):=ia (fun _=>rfl) fun n AG pt r h=>by
 cases pt
 case l1 Af EP o1=>
  intro m0 AC;refine rd AC fun m0 AC=>?_
  revert r;apply gO
  exact bi 68 (gi (bi 73 (lE AE [8] []) (bi 78 (lE AE [8] []) (bi 84 (lE AE [8] []) (gc (gi (gc (gi (gc (gi (gw 91 (lG AE [0,1] (AG _ _ · m0 AC))))))))))))) (gn fun g0=>fun p r h=>by
   refine gz (BS 21 AE) [0,1] p [1] (H0.g g0) (GQ (AZ Tryz.f9) 21 []) (AM 114 [(3,.i level),(4,.ref 0 0),(11,.bool Af),(13,.ints o1)]) [some (.cells (AD q)),none] ?_;revert r;apply gO;exact jg (by decide:(5:Int)≠0) (gw 99 (cf Fi [some (.cells (AD q)),none] fun y1=>bi 104 (lE AE [8] []) (bi 105 (cf K0 [some (.cells (AD q)),none] fun _=>lE AE [8] []) (gc (gi (gn fun g3=>cn fun y2 Bt=>jc (sb [.ints y1.1,.msl 2 1 0 ((q.cells).toNat)] (K0 Bt) [some (.cells (AD q)),none,some (.ints (List.replicate ((q.cells).toNat) (0:Int)))] ⟨AR.plain (by kernel_rfl),AR.ints rfl g3,trivial⟩) (lE AE [8] []))))))))
theorem ui {n:Nat} {q:AA} {pos AF:List Int} {level:Int} {r:Bool} (h:iO n q pos AF level=some r):EQ 9 [.agg 5 (L1 (AD q)),.ints pos,.ints AF,.i level] [] (.bool r) [] true:=by
 have AG:=fun B N=>(ul B N q pos AF level n)
 refine ot Tryz.func9 fun B N=>?_
 revert r;apply gO;exact cn fun y1 A0=>jc (fb (Xn A0) [some (.cells (AD q))]) (bj 19 (fun _=>lE AE [8] []) (fun c0=>cn fun y2 Bt=>jc (fb (XL Bt) [some (.cells (AD q))]) (bj 23 (fun _=>lE AE [8] []) (fun c1=>bj 27 (fun _=>lE AE [8] []) (fun c2=>cn fun y3 KB=>jc (fb (Fi KB) [some (.cells (AD q))]) (cn fun y4 KA=>jc (fb (Xh KA) [some (.cells (AD q))]) (bj 43 (fun _=>lE AE [8] []) (fun c3=>bj 45 (fun c4=>bn (fun c5=>rO (jc (fb (Xn A0) [some (.cells (AD q))]) (jb 19 c0 (jc (fb (XL Bt) [some (.cells (AD q))]) (jb 23 c1 (jb 27 c2 (jc (fb (Fi KB) [some (.cells (AD q))]) (jc (fb (Xh KA) [some (.cells (AD q))]) (jb 40 c5 (jb 43 c3 (jb 45 c4 (cf mY [some (.cells (AD q))] fun _=>bi 52 (cf mY [some (.cells (AD q))] fun _=>bi 58 (lE AE [8] []) (bi 61 (lE AE [8] []) (gi (lN AE [0,1] ((AG B N) _ _ · n Nat.le.refl))))) (bi 61 (lE AE [8] []) (gi (lN AE [0,1] ((AG B N) _ _ · n Nat.le.refl)))))))))))))))) (fun c5=>rO (jc (fb (Xn A0) [some (.cells (AD q))]) (jb 19 c0 (jc (fb (XL Bt) [some (.cells (AD q))]) (jb 23 c1 (jb 27 c2 (jc (fb (Fi KB) [some (.cells (AD q))]) (jc (fb (Xh KA) [some (.cells (AD q))]) (jb 40 c5 (jb 43 c3 (jb 45 c4 (bi 61 (lE AE [8] []) (gi (lN AE [0,1] ((AG B N) _ _ · n Nat.le.refl)))))))))))))))) (fun _=>bi 61 (lE AE [8] []) (gi (lN AE [0,1] ((AG B N) _ _ · n Nat.le.refl))))))))))))
end Go.Proofs.YtgkhhfnhacibcaaGreatDoor
namespace Go.Proofs.YtgkhhfnhacibcaaGreatDoor
open Go.RowKit
section
variable {q:AA} {g pos x p:List Int} {level:Int}
theorem Gd.position (G:Gd q g) (hF:CW q) (hv:Bp q=true):BF q (AW g):=⟨hF,hv,G.pos hv⟩
theorem od (G:Gd q g) (hv:Bp q=true):B0 (AW g)=false:=FN.2 fun j hj=>by
 rw [Dr] at hj;refine (D6 (by rw [MF hj];exact Pr _)).2 ⟨(g.getD j 0).toNat,by have:=G.lt hv hj;omega,?_⟩;rw [Ku G hv hj,zCm rfl]
theorem ol (G:Gd q g) (hF:CW q) (hv:Bp q=true) (hs:Nl q g):Kg q (Up q level) (AW g):=fun i hi=>
 ((gy (G.ctx hF hv hi.1 hi.2.1) G).1 (hs i hi.1 hi.2.1)).2
theorem d8 (G:Gd q g) (hF:CW q) (hv:Bp q=true) (hs:Nl q g):EO q level (AW g) (AW g):=.inr ⟨od G hv,.refl _,ol G hF hv hs⟩
theorem ov (G:Gd q g) (hv:Bp q=true) (hx:BF q x) (hp:BF q (AW g)) (h:Le x (AW g)) (hd:B0 x=false):x=AW g:=by
 refine Le.eq hx hp h fun j s hs=>?_
 by_cases hj:j<g.length
 ·have Fy:j<x.length:=by rw [hp.eqlen hx,Dr];exact hj
  obtain ⟨t,_,ht⟩:=(D6 (hx.in64 j)).1 (FN.1 hd j Fy);have h1:=h j t ht;rw [Ku G hv hj,zCw] at h1 hs;rw [←hs,h1];exact ht
 ·rw [u8,zDO (by rw [Dr];omega)] at hs;exact absurd hs Gp
theorem uL (k:Int):GZ k<=4:=by
 unfold GZ;split
 ·decide
 ·split
  ·decide
  ·split <;> decide
theorem ow (G:Gd q g) (hF:CW q) (hv:Bp q=true) (hn: ¬ Nl q g) (hl:4<=level) {y:List Int} (hE:EO q level (AW g) y) (hy:BF q y):y=List.replicate g.length 0:=by
 have hp:=G.position hF hv;have wD:y.length=g.length:=by rw [hp.eqlen hy,Dr]
 cases hd:B0 y with
 | true=>rw [hE.zero hp hd,wD]
 | false=>
  refine absurd (fun i h0 h1=>?_) hn;have e:=ov G hv hy hp hE.le hd;subst e;have hP:=(hE.nrm hp).2 i ⟨h0,h1,Int.le_trans (uL _) hl⟩;refine Classical.byContradiction fun hm=>?_
  have:=hP.dead ((gy (G.ctx hF hv h0 h1) G).2 hm);have hz:B0 (AW g)=true:=by rw [this];exact mz hp.len256.1
  rw [hz] at hd;cases hd
theorem mX (G:Gd q g) (hv:Bp q=true) (hp:BF q p): ∃ b,Ev (fun n=>Lu n p g) b/\ (b=true↔Le (AW g) p):=by
 have Ah:p.length=g.length:=by have:=hp.len;have:=G.len;omega
 have HE:=hp.len256;have Bx:Le (AW g) p↔∀ j,j<g.length -> tb (p.getD j 0) (g.getD j 0).toNat=true:=nF G hv
 have key: ∀ (k j:Nat),j+k=p.length -> (∀ j',j'<j -> tb (p.getD j' 0) (g.getD j' 0).toNat=true) -> ∃ b,Ev (fun n=>Lt p g n (.l1 (j:Int))) b/\ (b=true↔Le (AW g) p):=by
  intro k
  induction k with
  | zero=>
   intro j e h;refine ⟨true,Ev.one fun n=>?_,zFT rfl (Bx.2 fun j' A3=>h j' (by omega))⟩
   show TK n (Lt p g n) p g (j:Int)=_
   unfold TK;rw [zAZ (by omega),zAc]
  | succ k ih=>
   intro j e h;have hj:j<g.length:=by omega
   have hs:=G.lt hv hj;have IZ:=G.sym j hj
   have jp: ∀ n,Wp n (g.getD j 0)=some (IntKind.i64.wrap (1*2 ^ (g.getD j 0).toNat)):=fun n=>by
    have e:IntKind.u64.wrap (g.getD j 0)=g.getD j 0:=by
     show g.getD j 0 % 18446744073709551616=g.getD j 0
     exact Int.emod_eq_of_lt (by omega) (by omega)
    unfold Wp ll;rw [zAZ (by omega),zAc,zAZ (by omega),zAc,e,zB3 ⟨IZ.1,by show g.getD j 0<=((64:Nat):Int);omega⟩]
   have hb:(bits .and .i64 (p.getD j 0) (IntKind.i64.wrap (1*2 ^ (g.getD j 0).toNat))==0)= !tb (p.getD j 0) (g.getD j 0).toNat:=by
    have e:bits .and .i64 (p.getD j 0) (IntKind.i64.wrap (1*2 ^ (g.getD j 0).toNat))=bits .and .i64 (IntKind.i64.wrap (1*2 ^ (g.getD j 0).toNat)) (p.getD j 0):=Ji (E5 _ _ _) (E5 _ _ _) fun t _=>by rw [HT,HT,Bool.and_comm]
    rw [e,Pd (by omega)]
   have step: ∀ n,Lt p g (n+1) (.l1 (j:Int))=bif !tb (p.getD j 0) (g.getD j 0).toNat then some false else Lt p g n (.l1 ((j+1:Nat):Int)):=fun n=>by
    show TK n (Lt p g n) p g (j:Int)=_
    unfold TK;rw [zCm (by omega),zCk,zB3 ⟨⟨by omega,by omega⟩,by omega,by omega⟩,zCi,jp,zCj,hb,zB3 (An.2 ⟨by omega,by omega⟩),show ((j+1:Nat):Int)=(j:Int)+1 by omega]
   cases ht:tb (p.getD j 0) (g.getD j 0).toNat with
   | true=>
    obtain ⟨b,h1,h2⟩:=ih (j+1) (by omega) fun j' A3=>by
     rcases zCx.1 A3 with A3 | rfl
     ·exact h j' A3
     ·exact ht
    exact ⟨b,Aw.ev (Aw.one fun n=>by rw [step n,ht];rfl) h1,h2⟩
   | false=>
    refine ⟨false,Ev.one fun n=>by rw [step n,ht];rfl,zEi (by decide) fun hW=>?_⟩;rw [Bx.1 hW j hj] at ht;cases ht
 obtain ⟨b,h1,h2⟩:=key p.length 0 (by omega) fun j hj=>absurd hj (zCz j)
 refine ⟨b,h1.eq fun n=>?_,h2⟩;unfold Lu mZ;rw [show ((p.length:Int) != (g.length:Int))=false by rw [Ah];simp,zAc];rfl
theorem zu (G:Gd q g) (hF:CW q) (hv:Bp q=true) {b:Bool} (hb:b=true↔Nl q g):Ev (fun n=>GH q pos g level n (.l1 b 0 (List.replicate q.cells.toNat 0))) true:=by
 have hp:=G.position hF hv;have Ah:=G.len;have hc:=(DX hv).1
 have hw:0<=IntKind.i64.wrap (Int.tmod (IntKind.u64.wrap level) 5)/\ IntKind.i64.wrap (Int.tmod (IntKind.u64.wrap level) 5)<5:=by
  have h0:0<=IntKind.u64.wrap level:=Int.emod_nonneg _ (by decide);have a1:=Int.tmod_nonneg 5 h0;have a2:=Int.tmod_lt_of_pos (IntKind.u64.wrap level) (by decide:(0:Int)<5);rw [zFO];omega
 generalize Rv:IntKind.i64.wrap (Int.tmod (IntKind.u64.wrap level) 5)=lv at hw
 have fin:Ev (fun n=>GH q pos g level n (.l1 b (g.length:Int) (AW g))) true:=by
  obtain ⟨y,y1,y2,y3⟩:=mT (level:=4+lv) hp;obtain ⟨N,y1⟩:=y1;obtain ⟨M,hs⟩:=pL y3;refine Ev.oneN (max N M) fun n hn=>?_
  show RR n (GH q pos g level n) q pos g level b (g.length:Int) (AW g)=_
  unfold RR;rw [zAZ (by omega),zAc,Rv,zB3 (by rw [Dr];omega),zB3 (An.2 ⟨by omega,by omega⟩),show HJ n q (AW g) (4+lv)=some (y,0) from y1 n (by omega),zCj];have hs:Fn n y y=some true:=hs n (by omega);cases b with
  | true=>
   have:y=AW g:=EO.uniq hp y2 (d8 G hF hv (hb.1 rfl));subst this
   show (Fn n (AW g) (AW g)).bind _=_
   rw [hs];rfl
  | false=>
   have:y=List.replicate g.length 0:=ow G hF hv (fun h=>by have:=hb.2 h;cases this) (by omega) y2 y3
   show (if _ then (Fn n y (List.replicate q.cells.toNat 0)).bind _ else none)=_
   rw [zB3 ⟨⟨rfl,by omega,by omega⟩,zC0.symm⟩,show q.cells.toNat=g.length by omega,←this,hs];rfl
 have key: ∀ (k j:Nat) (o:List Int),j+k=g.length -> o.length=g.length -> (∀ v,v<j -> o.getD v 0=(AW g).getD v 0) -> Ev (fun n=>GH q pos g level n (.l1 b (j:Int) o)) true:=by
  intro k
  induction k with
  | zero=>
   intro j o e ho hm;have ej:j=g.length:=by omega
   have:o=AW g:=by
    refine zEK (by rw [ho,Dr]) fun v h1 h2=>?_
    have:=hm v (by omega);simpa [u8,h1,h2] using this
   subst this;rw [ej];exact fin
  | succ k ih=>
   intro j o e ho hm;have hj:j<g.length:=by omega
   have hs:=G.lt hv hj;have IZ:=G.sym j hj;refine Aw.ev (Aw.one fun n=>?_) (ih (j+1) (o.set j (IntKind.i64.wrap (1*2 ^ (g.getD j 0).toNat))) (by omega) (by rw [zDE];exact ho) fun v hvj=>?_)
   ·show RR n (GH q pos g level n) q pos g level b (j:Int) o=_
    unfold RR;rw [zCm (by omega),zCk,zB3 ⟨by omega,by omega⟩,zCi,zAZ (by omega),zAc,zAZ (by omega),zAc,zAZ (by omega),zAc,zB3 ⟨⟨IZ.1,by show g.getD j 0<=((64:Nat):Int);omega⟩,⟨by omega,by omega⟩,by omega,An.2 ⟨by omega,by omega⟩⟩,zC4,show ((j+1:Nat):Int)=(j:Int)+1 by omega]
   ·by_cases e1:v=j
    ·subst e1;rw [KQ (by omega),MF hj]
    ·rw [getD_set_ne (fun h=>e1 h.symm)];exact hm v (by omega)
 exact key g.length 0 (List.replicate q.cells.toNat 0) (by omega) (by rw [zC0];omega) fun v hv=>absurd hv (zCz v)
theorem uh (q:AA) (pos g:List Int) (level:Int) (hF:CW q) (hl:pos.length<=LB) (hg:g.length<=LB):Ev (fun n=>iO n q pos g level) true:=by
 refine nK (q:=q) (pos:=pos) (f:=fun n=>bif (decide ((g.length:Int)>20)) then some true else (HJ n q pos level).bind fun y3=>(QH n q g).bind fun y4=>
  bif (y3.2 != 0) then some false else
   bif (y4.2==0) then
    bif y4.1 then (Lu n pos g).bind fun y5=>bif y5 then (Lu n y3.1 g).bind fun y6=>bif (!y6) then some false else bif (y4.2 != 0) then some true else
     (if (q.cells:Int)=q.cells/\ 0<=q.cells/\ (q.cells:Int)<=1000000000000 then GH q pos g level n (.l1 true 0 (List.replicate ((q.cells).toNat) (0:Int))) else none)
     else bif (y4.2 != 0) then some true else
      (if (q.cells:Int)=q.cells/\ 0<=q.cells/\ (q.cells:Int)<=1000000000000 then GH q pos g level n (.l1 true 0 (List.replicate ((q.cells).toNat) (0:Int))) else none)
    else bif (y4.2 != 0) then some true else
     (if (q.cells:Int)=q.cells/\ 0<=q.cells/\ (q.cells:Int)<=1000000000000 then GH q pos g level n (.l1 false 0 (List.replicate ((q.cells).toNat) (0:Int))) else none)
   else bif (y4.2 != 0) then some true else
    (if (q.cells:Int)=q.cells/\ 0<=q.cells/\ (q.cells:Int)<=1000000000000 then GH q pos g level n (.l1 y4.1 0 (List.replicate ((q.cells).toNat) (0:Int))) else none)) (fun n=>rfl) hF hl fun hp=>?_
 by_cases kA:(g.length:Int)>20
 ·exact Ev.now fun n=>by rw [zCm kA];rfl
 refine Ev.eq ?_ (fun n=>by rw [zAZ kA,zAc]);obtain ⟨x,x1,x2,x3⟩:=mT (level:=level) hp;obtain ⟨⟨b,e⟩,r1,r2,r3⟩:=oW hF hg;refine Ev.bind x1 (Ev.bind r1 ?_)
 by_cases he:e=0
 ·subst he;obtain ⟨hv,G⟩:=r2.1 rfl;have hb:b=true↔Nl q g:=r3 rfl;have hc:=(DX hv).1;have R:=zu (pos:=pos) (level:=level) G hF hv hb;have cc:(q.cells:Int)=q.cells/\ 0<=q.cells/\ (q.cells:Int)<=1000000000000:=⟨rfl,by omega,by omega⟩;cases b with
  | false=>
   refine R.eq fun n=>?_
   show (if _ then _ else none)=_
   rw [zB3 cc]
  | true=>
   have hS:=hb.1 rfl;obtain ⟨b5,a1,a2⟩:=mX G hv hp;refine Ev.eq (Ev.bind a1 (b:=fun n y5=>bif y5 then (Lu n x g).bind fun y6=>bif (!y6) then some false else (if (q.cells:Int)=q.cells/\ 0<=q.cells/\ (q.cells:Int)<=1000000000000 then GH q pos g level n (.l1 true 0 (List.replicate ((q.cells).toNat) (0:Int))) else none) else (if (q.cells:Int)=q.cells/\ 0<=q.cells/\ (q.cells:Int)<=1000000000000 then GH q pos g level n (.l1 true 0 (List.replicate ((q.cells).toNat) (0:Int))) else none)) ?_) fun n=>rfl
   cases b5 with
   | false=>exact R.eq fun n=>by rw [zAc,zB3 cc]
   | true=>
    have Bx:=a2.1 rfl;have hx:Le (AW g) x:=EO.mono hp (G.position hF hv) Bx (zDZ _) x2 (d8 G hF hv hS);obtain ⟨b6,c1,c2⟩:=mX G hv x3;rw [c2.2 hx] at c1;refine Ev.eq (Ev.bind c1 (b:=fun n y6=>bif (!y6) then some false else (if (q.cells:Int)=q.cells/\ 0<=q.cells/\ (q.cells:Int)<=1000000000000 then GH q pos g level n (.l1 true 0 (List.replicate ((q.cells).toNat) (0:Int))) else none)) ?_) fun n=>rfl
    exact R.eq fun n=>by rw [zDR,zAc,zB3 cc]
 ·exact Ev.now fun n=>by
   show (bif (e==0) then _ else bif (e != 0) then some true else _)=_
   rw [zDV.2 he,zDz.2 he];rfl
end
end Go.Proofs.YtgkhhfnhacibcaaGreatDoor
