/- Part 4 of 7 of what the proofs of these laws stand on. -/
import Derived.Test.YtkjbblkieglmlaaGreatDoorPtC
import Derived.Laws.BitsLemmas
import Derived.Shelf.Sort.Plain
set_option linter.all false
namespace Go.Proofs.YtkjbblkieglmlaaGreatDoor
abbrev zFD:=@List.drop_zero
end Go.Proofs.YtkjbblkieglmlaaGreatDoor
namespace Go.Proofs.YtkjbblkieglmlaaGreatDoor
open Go.RowKit
set_option maxRecDepth 100000
set_option maxHeartbeats 40000000
def zDO (n:Nat) (s_:List Int):Option Unit:=
 some ()
def zDQ (n:Nat) (s_:List Int):Option Unit:=zDO n s_
theorem zDN {n:Nat} (s_:List Int) {r:Unit} (h:zDQ n s_=some r):EQ 162 [.ints s_] [] (.fn 176 1 (L1 [.ref 0 0])) [some (.cells [.ints s_])] true:=by
 refine ot Tryz.func162 fun B N=>?_
 revert r;apply gO;exact lE AB [2] [0]
inductive QR where
 | l1 (x3:Int)
def OR (n:Nat) (self:QR -> Option (List (Int×Int))) (s_:List Int) (x3:Int):Option (List (Int×Int)):=
 bif (decide (x3>=0)) then
  if 0<=x3/\ x3<(s_.length:Int) then
   Option.map (fun l=>(x3,s_.getD ((x3).toNat) 0)::l) (
    if AL (x3-1) then
     self (.l1 (x3-1))
    else none)
  else none
 else
  some []
def cw (n:Nat) (self:QR -> Option (List (Int×Int))) (s_:List Int):Option (List (Int×Int)):=
 if AL ((s_.length:Int)-1) then
  self (.l1 ((s_.length:Int)-1))
 else none
def ML (s_:List Int):Nat -> QR -> Option (List (Int×Int))
 | 0,_=>none
 | n+1,.l1 x3=>OR n (ML s_ n) s_ x3
def back (n:Nat) (s_:List Int):Option (List (Int×Int)):=cw n (ML s_ n) s_
def cx (C:Ba Tryz.prog) (n:Nat) (s_:List Int) (r:List (Int×Int)):QR -> Prop
 | .l1 x3=>∀ m0:Nat,n<=m0 -> ∀ i:Nat,i<=C.encs.length -> C.encs.drop i=r.map OF -> Ap Tryz.prog GG Fence.wide none 1 (C.Y GG 1 i) (C.Q GG 1) (A3 m0 (BB (AW Tryz.f176) 0 [])) ⟨AG 19 [(0,.yl C.l),(1,.ref 0 0),(3,.i x3)],[some (.cells [.ints s_])]⟩
theorem zDK (C:Ba Tryz.prog) (n:Nat) (self:QR -> Option (List (Int×Int))) (s_:List Int) (AJ: ∀ pt r,self pt=some r -> cx C n s_ r pt) (x3:Int) (r:List (Int×Int)) (h:OR n self s_ x3=some r):cx C (n+1) s_ r (.l1 x3):=by
 intro m0 AE;intro i hi hd;refine rd AE fun m0 AE=>?_
 unfold OR at h;have p:=H0;rcases Br h with ⟨c0,h⟩ | ⟨c0,h⟩
 ·have p:=H0.b 8 c0;refine gs (AV 3 AB) [0] p (Cc (AW Tryz.f176) 3 [m0]) (AG 19 [(0,.yl C.l),(1,.ref 0 0),(3,.i x3)]) [some (.cells [.ints s_])] ?_;obtain ⟨g0,h⟩:=Bs h;have p:=H0.g g0;obtain ⟨r,h2,rfl⟩:=KJ h;clear h;have h:=h2;clear h2;obtain ⟨hx,hi,hd⟩:=Tf hd;refine Ap.y (ops:=Ah Tryz.f176 3) HC.x 6 [0,1,3,18] [0] p (x:=OF (x3,s_.getD ((x3).toNat) 0)) (AG 19 [(0,.yl C.l),(1,.ref 0 0),(3,.i x3),(18,.bool false)]) [some (.cells [.ints s_])] (AG 19 [(0,.yl C.l),(1,.ref 0 0),(3,.i x3),(18,.bool true)]) [some (.cells [.ints s_])] (by kernel_rfl) (by kernel_rfl) (by kernel_rfl) hx (by kernel_rfl) ?_ ?_
  ·generalize i+1=i at hi hd ⊢
   obtain ⟨g1,h⟩:=Bs h;have p:=H0.w 10 g1;exact gg AB [0] p (AJ _ _ h m0 AE i hi hd)
  ·exact TrI.e HC.x AB 6 H0 (by kernel_rfl) (.inr rfl)
 ·have p:=H0.b 8 c0;cases h;exact TrI.e HC.x AB 10 p (by kernel_rfl) (.inl (by rw [OH hi hd]))
theorem ns (C:Ba Tryz.prog) (s_:List Int): ∀ (n:Nat) (pt:QR) (r:List (Int×Int)),ML s_ n pt=some r -> cx C n s_ r pt
 | 0,_,_,h=>by cases h
 | n+1,.l1 x3,r,h=>zDK C n (ML s_ n) s_ (ns C s_ n) x3 r h
theorem zDL {n:Nat} (s_:List Int) {r:List (Int×Int)} (h:back n s_=some r) (C:Ba Tryz.prog) (hC:C.encs=r.map OF):Ap Tryz.prog GG Fence.wide none 1 (C.Y GG 1 0) (C.Q GG 1) [.code (AW Tryz.f176)] ⟨AG 19 [(0,.yl C.l),(1,.ref 0 0)],[some (.cells [.ints s_])]⟩:=by
 suffices H: ∀ i:Nat,i<=C.encs.length -> C.encs.drop i=r.map OF -> Ap Tryz.prog GG Fence.wide none 1 (C.Y GG 1 i) (C.Q GG 1) [.code (AW Tryz.f176)] ⟨AG 19 [(0,.yl C.l),(1,.ref 0 0)],[some (.cells [.ints s_])]⟩ from H 0 (zEj _) (by rw [zFD];exact hC)
 intro i hi hd;have AJ:=ns C s_ n;unfold back at h
 generalize ML s_ n=self at h AJ
 unfold cw at h;obtain ⟨g0,h⟩:=Bs h;have p:=H0.w 6 g0;exact gg AB [0] p (en n (AJ _ _ h n Nat.le.refl i hi hd))
theorem zDP {n:Nat} {s_:List Int} {r:List (Int×Int)} (h:back n s_=some r) (H:DH):EQ 162 [.ints s_] H (.it H.length) (H++[some (.iter (r.map OF))]) true:=by
 refine ES.iterN (c:=L1 [.ref 0 0]) (h0:=[some (.cells [.ints s_])]) (fn:=Tryz.f176) (zDN (n:=0) s_ (r:=()) rfl) (by kernel_rfl) Tryz.func176 (by kernel_rfl) (by kernel_rfl) (by kernel_rfl) (fun C hC=>?_) H;have e:DV.yl C.l::(List.range 1).map (L1 [.ref 0 0])++List.replicate (Tryz.f176.ntmps-(1+1)) .any=AG 19 [(0,.yl C.l),(1,.ref 0 0)]:=by kernel_rfl
 rw [e];exact zDL s_ h C hC
end Go.Proofs.YtkjbblkieglmlaaGreatDoor
namespace Go.Proofs.YtkjbblkieglmlaaGreatDoor
open Go.RowKit
set_option maxRecDepth 100000
set_option maxHeartbeats 40000000
def tf (n:Nat) (g_:List (List Int)) (AT:List Bool) (start:Int):Option Unit:=
 some ()
def tj (n:Nat) (g_:List (List Int)) (AT:List Bool) (start:Int):Option Unit:=tf n g_ AT start
theorem te {n:Nat} (g_:List (List Int)) (AT:List Bool) (start:Int) {r:Unit} (h:tj n g_ AT start=some r):EQ 130 [.sl 1 g_.length (AQ BS g_),.bools AT,.i start] [] (.fn 157 3 (L1 [.ref 0 0,.ref 1 0,.ref 2 0])) [some (.cells [.sl 1 g_.length (AQ BS g_)]),some (.cells [.i start]),some (.cells [.bools AT])] true:=by
 refine ot Tryz.func130 fun B N=>?_
 revert r;apply gO;exact lE AB [6] [0,2,1]
theorem rC:Av (Ah Tryz.f157 6) [] (List.range 8) []:=by unfold Av;kernel_rfl
def IF:Bi:=fun i=>match i with
 | 6=>.ord [] (List.range 8) []
 | _=>.no
def WX (g:List (List Int)) (start:Int) (inn o3:List Bool) (o4:List Int):DH:=[some (.cells [.sl 1 g.length (AQ BS g)]),some (.cells [.i start]),some (.cells [.bools inn]),some (.bools o3),some (.ints o4)]
inductive I3 where
 | l1 (x6:Nat) (o3:List Bool) (o4:List Int)
 | l2 (x6:Nat) (DP:List Int) (GY Bu:Int) (o3:List Bool) (o4:List Int)
 | l3 (o3:List Bool)
def NA (n:Nat) (self:I3 -> Option (List Int)) (g:List (List Int)) (start:Int) (inn:List Bool) (x6:Nat) (o3:List Bool) (o4:List Int):Option (List Int):=
 bif (decide ((x6:Int)>0)) then
  if ((0:Int)<=0/\ 0<(x6:Int))/\ 0+0<o4.length then
   Option.map (fun l=>(o4.getD (0+0) 0)::l) (
    if ((0:Int)<=0/\ 0<(x6:Int))/\ 0+0<o4.length/\ (0<=(o4.getD (0+0) 0)/\ (o4.getD (0+0) 0)<(g.length:Int)) then
     self (.l2 x6 (g.getD ((o4.getD (0+0) 0).toNat) []) (((g.getD ((o4.getD (0+0) 0).toNat) []).length:Nat):Int) 0 o3 o4)
    else none)
  else none
 else
  some []
def J7 (n:Nat) (self:I3 -> Option (List Int)) (g:List (List Int)) (start:Int) (inn:List Bool) (x6:Nat) (DP:List Int) (GY Bu:Int) (o3:List Bool) (o4:List Int):Option (List Int):=
 bif (decide (Bu<GY)) then
  if (0<=Bu/\ Bu<(DP.length:Int))/\ (0<=(DP.getD ((Bu).toNat) 0)/\ (DP.getD ((Bu).toNat) 0)<(inn.length:Int)) then
   bif (inn.getD ((DP.getD ((Bu).toNat) 0).toNat) false) then
    if (0<=(DP.getD ((Bu).toNat) 0)/\ (DP.getD ((Bu).toNat) 0)<(g.length:Int))/\ 0+((DP.getD ((Bu).toNat) 0).toNat)<o3.length then
     bif (!(o3.getD (0+((DP.getD ((Bu).toNat) 0).toNat)) false)) then
      if ((0=0/\ 1=([DP.getD ((Bu).toNat) 0]:List Int).length)/\ (0=0/\ x6=o4.length)/\ o4.length+([DP.getD ((Bu).toNat) 0]:List Int).length<=BA)/\ AL (Bu+1) then
       self (.l2 (o4.length+([DP.getD ((Bu).toNat) 0]:List Int).length) DP GY (Bu+1) (o3.set (0+((DP.getD ((Bu).toNat) 0).toNat)) true) (o4++([DP.getD ((Bu).toNat) 0]:List Int)))
      else none
     else
      if AL (Bu+1) then
       self (.l2 x6 DP GY (Bu+1) o3 o4)
      else none
    else none
   else
    if AL (Bu+1) then
     self (.l2 x6 DP GY (Bu+1) o3 o4)
    else none
  else none
 else
  bif ((x6-1)==0) then
   if (0:Int)<=1/\ (1:Int)<=(x6:Int)/\ (x6:Int)<=(x6:Int) then
    self (.l3 o3)
   else none
  else
   if (0:Int)<=1/\ (1:Int)<=(x6:Int)/\ (x6:Int)<=(x6:Int) then
    if 1<=o4.length then
     self (.l1 (x6-1) o3 (o4.drop 1))
    else none
   else none
def ZC (n:Nat) (self:I3 -> Option (List Int)) (g:List (List Int)) (start:Int) (inn:List Bool) (o3:List Bool):Option (List Int):=
 some []
def ZD (n:Nat) (self:I3 -> Option (List Int)) (g:List (List Int)) (start:Int) (inn:List Bool):Option (List Int):=
 if (((g.length:Int):Int)=(g.length:Int)/\ 0<=(g.length:Int)/\ ((g.length:Int):Int)<=1000000000000)/\ (0<=start/\ start<(g.length:Int))/\ 0+((start).toNat)<(List.replicate g.length false).length then
  self (.l1 1 ((List.replicate g.length false).set (0+((start).toNat)) true) ([start]:List Int))
 else none
def ER (g:List (List Int)) (start:Int) (inn:List Bool):Nat -> I3 -> Option (List Int)
 | 0,_=>none
 | n+1,.l1 x6 o3 o4=>NA n (ER g start inn n) g start inn x6 o3 o4
 | n+1,.l2 x6 DP GY Bu o3 o4=>J7 n (ER g start inn n) g start inn x6 DP GY Bu o3 o4
 | n+1,.l3 o3=>ZC n (ER g start inn n) g start inn o3
def GC (n:Nat) (g:List (List Int)) (start:Int) (inn:List Bool):Option (List Int):=ZD n (ER g start inn n) g start inn
def NB (C:Ba Tryz.prog) (n:Nat) (g:List (List Int)) (start:Int) (inn:List Bool) (r:List Int):I3 -> Prop
 | .l1 x6 o3 o4=>∀ m0:Nat,n<=m0 -> ∀ i:Nat,i<=C.encs.length -> C.encs.drop i=r.map BP -> Ap Tryz.prog GG Fence.wide none 3 (C.Y GG 3 i) (C.Q GG 3) (A3 m0 (BB (AW Tryz.f157) 0 [])) ⟨AG 58 [(0,.yl C.l),(1,.ref 0 0),(3,.ref 2 0),(5,.msl 3 1 0 g.length),(6,.msl 4 1 0 x6)],[some (.cells [.sl 1 g.length (AQ BS g)]),some (.cells [.i start]),some (.cells [.bools inn]),some (.bools o3),some (.ints o4)]⟩
 | .l2 x6 DP GY Bu o3 o4=>∀ m0 m1:Nat,n<=m0 -> n<=m1 -> ∀ i:Nat,i<=C.encs.length -> C.encs.drop i=r.map BP -> Ap Tryz.prog GG Fence.wide none 3 (C.Y GG 3 i) (C.Q GG 3) (A3 m1 (BB (AW Tryz.f157) 2 [m0])) ⟨AG 58 [(0,.yl C.l),(1,.ref 0 0),(3,.ref 2 0),(5,.msl 3 1 0 g.length),(6,.msl 4 1 0 x6),(33,.ints DP),(34,.i GY),(35,.i Bu)],[some (.cells [.sl 1 g.length (AQ BS g)]),some (.cells [.i start]),some (.cells [.bools inn]),some (.bools o3),some (.ints o4)]⟩
 | .l3 o3=>∀ m0:Nat,n<=m0 -> ∀ i:Nat,i<=C.encs.length -> C.encs.drop i=r.map BP -> Ap Tryz.prog GG Fence.wide none 3 (C.Y GG 3 i) (C.Q GG 3) (A3 m0 (BB (AW Tryz.f157) 0 [])) ⟨AG 58 [(0,.yl C.l),(1,.ref 0 0),(3,.ref 2 0),(5,.msl 3 1 0 g.length),(6,.ints ([]:List Int))],[some (.cells [.sl 1 g.length (AQ BS g)]),some (.cells [.i start]),some (.cells [.bools inn]),some (.bools o3)]⟩
theorem tX (C:Ba Tryz.prog) (n:Nat) (self:I3 -> Option (List Int)) (g:List (List Int)) (start:Int) (inn:List Bool) (AJ: ∀ pt r,self pt=some r -> NB C n g start inn r pt) (x6:Nat) (o3:List Bool) (o4:List Int) (r:List Int) (h:NA n self g start inn x6 o3 o4=some r):NB C (n+1) g start inn r (.l1 x6 o3 o4):=by
 intro m0 AE;intro i hi hd;refine rd AE fun m0 AE=>?_
 unfold NA at h;have p:=H0;rcases Br h with ⟨c0,h⟩ | ⟨c0,h⟩
 ·have p:=H0.b 19 c0;refine gs (AV 5 IF) [0,1,2,3,4] p (Cc (AW Tryz.f157) 5 [m0]) (AG 58 [(0,.yl C.l),(1,.ref 0 0),(3,.ref 2 0),(5,.msl 3 1 0 g.length),(6,.msl 4 1 0 x6)]) (WX g start inn o3 o4) ?_;obtain ⟨⟨g0,g1⟩,h⟩:=Bs h;have p:=H0.g g0 |>.g g1
  obtain ⟨r,h2,rfl⟩:=KJ h;clear h;have h:=h2;clear h2;obtain ⟨hx,hi,hd⟩:=Tf hd;refine Ap.y (ops:=Ah Tryz.f157 5) HC.x 4 [0,1,3,5,6,27] [0,1,2,3,4] p (x:=BP (o4.getD (0+0) 0)) (AG 58 [(0,.yl C.l),(1,.ref 0 0),(3,.ref 2 0),(5,.msl 3 1 0 g.length),(6,.msl 4 1 0 x6),(27,.bool false)]) (WX g start inn o3 o4) (AG 58 [(0,.yl C.l),(1,.ref 0 0),(3,.ref 2 0),(5,.msl 3 1 0 g.length),(6,.msl 4 1 0 x6),(27,.bool true)]) (WX g start inn o3 o4) (by kernel_rfl) (by kernel_rfl) (by kernel_rfl) hx (by kernel_rfl) ?_ ?_
  ·generalize i+1=i at hi hd ⊢
   obtain ⟨⟨g2,g3,g4⟩,h⟩:=Bs h;have p:=H0.g rC |>.g g2 |>.g g3 |>.g g4
   exact gg IF [0,1,2,3,4] p (en n (AJ _ _ h m0 n AE Nat.le.refl i hi hd))
  ·exact TrI.e HC.x IF 6 H0 (by kernel_rfl) (.inr rfl)
 ·have p:=H0.b 19 c0;cases h;exact TrI.e HC.x IF 10 p (by kernel_rfl) (.inl (by rw [OH hi hd]))
theorem tW (C:Ba Tryz.prog) (n:Nat) (self:I3 -> Option (List Int)) (g:List (List Int)) (start:Int) (inn:List Bool) (AJ: ∀ pt r,self pt=some r -> NB C n g start inn r pt) (x6:Nat) (DP:List Int) (GY Bu:Int) (o3:List Bool) (o4:List Int) (r:List Int) (h:J7 n self g start inn x6 DP GY Bu o3 o4=some r):NB C (n+1) g start inn r (.l2 x6 DP GY Bu o3 o4):=by
 intro m0 m1 AE Aw;intro i hi hd;have AE:=zEB AE;refine rd Aw fun m1 Aw=>?_
 unfold J7 at h;have p:=H0;rcases Br h with ⟨c0,h⟩ | ⟨c0,h⟩
 ·obtain ⟨⟨g0,g1⟩,h⟩:=Bs h;have p:=H0.b 36 c0 |>.g g0 |>.g g1
  rcases Br h with ⟨c1,h⟩ | ⟨c1,h⟩
  ·obtain ⟨⟨g2,g3⟩,h⟩:=Bs h;have p:=p.b 42 c1 |>.g g2 |>.g g3
   rcases Br h with ⟨c2,h⟩ | ⟨c2,h⟩
   ·obtain ⟨⟨g4,g5⟩,h⟩:=Bs h;have p:=p.b 48 c2 |>.g g2 |>.g g3 |>.g g4 |>.w 57 g5
    exact gg IF [0,1,2,3,6] p (AJ _ _ h m0 m1 AE Aw i hi hd)
   ·obtain ⟨g4,h⟩:=Bs h;have p:=p.b 48 c2 |>.w 57 g4
    exact gg IF [0,1,2,3,4] p (AJ _ _ h m0 m1 AE Aw i hi hd)
  ·obtain ⟨g2,h⟩:=Bs h;have p:=p.b 42 c1 |>.w 57 g2
   exact gg IF [0,1,2,3,4] p (AJ _ _ h m0 m1 AE Aw i hi hd)
 ·have p:=H0.b 36 c0;rcases Br h with ⟨c1,h⟩ | ⟨c1,h⟩
  ·obtain ⟨g0,h⟩:=Bs h;have p:=p.g g0 |>.o 21 (AR.mse_nil (k:=4) (m:=1) (o:=1) (eq_of_beq c1))
   exact gg IF [0,1,2,3] p (AJ _ _ h m0 AE i hi hd)
  ·obtain ⟨g0,h⟩:=Bs h;have p:=p.g g0 |>.o 21 (AR.mse_msl (k:=4) (m:=1) (o:=1) (uM c1) rfl)
   obtain ⟨g1,h⟩:=Bs h;refine gs IF [0,1,2,3,4] p (A3 m0 (BB (AW Tryz.f157) 0 [])) (AG 58 [(0,.yl C.l),(1,.ref 0 0),(3,.ref 2 0),(5,.msl 3 1 0 g.length),(6,.msl 4 1 1 (x6-1))]) (WX g start inn o3 o4) ?_;refine Be.le (Az.rootE 4 1 ⟨AG 58 [(0,.yl C.l),(1,.ref 0 0),(3,.ref 2 0),(5,.msl 3 1 0 g.length),(6,.msl 5 1 0 (x6-1))],[some (.cells [.sl 1 g.length (AQ BS g)]),some (.cells [.i start]),some (.cells [.bools inn]),some (.bools o3),none,some (.ints (o4.drop 1))]⟩ [1<=o4.length] (by kernel_rfl) ⟨g1,trivial⟩) (by kernel_rfl) ?_;refine Be.le (Az.compE [0,1,2,3,5] (by kernel_rfl)) (by kernel_rfl) ?_;exact AJ _ _ h m0 AE i hi hd
theorem tV (C:Ba Tryz.prog) (n:Nat) (self:I3 -> Option (List Int)) (g:List (List Int)) (start:Int) (inn:List Bool) (AJ: ∀ pt r,self pt=some r -> NB C n g start inn r pt) (o3:List Bool) (r:List Int) (h:ZC n self g start inn o3=some r):NB C (n+1) g start inn r (.l3 o3):=by
 intro m0 AE;intro i hi hd;refine rd AE fun m0 AE=>?_
 unfold ZC at h;have p:=H0;cases h;exact TrI.e HC.x IF 10 p (by kernel_rfl) (.inl (by rw [OH hi hd]))
theorem VL (C:Ba Tryz.prog) (g:List (List Int)) (start:Int) (inn:List Bool): ∀ (n:Nat) (pt:I3) (r:List Int),ER g start inn n pt=some r -> NB C n g start inn r pt
 | 0,_,_,h=>by cases h
 | n+1,.l1 x6 o3 o4,r,h=>tX C n (ER g start inn n) g start inn (VL C g start inn n) x6 o3 o4 r h
 | n+1,.l2 x6 DP GY Bu o3 o4,r,h=>tW C n (ER g start inn n) g start inn (VL C g start inn n) x6 DP GY Bu o3 o4 r h
 | n+1,.l3 o3,r,h=>tV C n (ER g start inn n) g start inn (VL C g start inn n) o3 r h
theorem tc {n:Nat} (g:List (List Int)) (start:Int) (inn:List Bool) {r:List Int} (h:GC n g start inn=some r) (C:Ba Tryz.prog) (hC:C.encs=r.map BP):Ap Tryz.prog GG Fence.wide none 3 (C.Y GG 3 0) (C.Q GG 3) [.code (AW Tryz.f157)] ⟨AG 58 [(0,.yl C.l),(1,.ref 0 0),(2,.ref 1 0),(3,.ref 2 0)],[some (.cells [.sl 1 g.length (AQ BS g)]),some (.cells [.i start]),some (.cells [.bools inn])]⟩:=by
 suffices H: ∀ i:Nat,i<=C.encs.length -> C.encs.drop i=r.map BP -> Ap Tryz.prog GG Fence.wide none 3 (C.Y GG 3 i) (C.Q GG 3) [.code (AW Tryz.f157)] ⟨AG 58 [(0,.yl C.l),(1,.ref 0 0),(2,.ref 1 0),(3,.ref 2 0)],[some (.cells [.sl 1 g.length (AQ BS g)]),some (.cells [.i start]),some (.cells [.bools inn])]⟩ from H 0 (zEj _) (by rw [zFD];exact hC)
 intro i hi hd;have AJ:=VL C g start inn n;unfold GC at h
 generalize ER g start inn n=self at h AJ
 unfold ZD at h;obtain ⟨⟨g0,g1,g2⟩,h⟩:=Bs h;have p:=H0.g g0 |>.g g1 |>.g g2
 exact gg IF [0,1,2,3,4] p (en n (AJ _ _ h n Nat.le.refl i hi hd))
theorem ZF {n:Nat} {g_:List (List Int)} {AT:List Bool} {start:Int} {r:List Int} (h:GC n g_ start AT=some r) (H:DH):EQ 130 [.sl 1 g_.length (AQ BS g_),.bools AT,.i start] H (.it H.length) (H++[some (.iter (r.map BP))]) true:=by
 refine ES.iterN (c:=L1 [.ref 0 0,.ref 1 0,.ref 2 0]) (h0:=[some (.cells [.sl 1 g_.length (AQ BS g_)]),some (.cells [.i start]),some (.cells [.bools AT])]) (fn:=Tryz.f157) (te (n:=0) g_ AT start (r:=()) rfl) (by kernel_rfl) Tryz.func157 (by kernel_rfl) (by kernel_rfl) (by kernel_rfl) (fun C hC=>?_) H;have e:DV.yl C.l::(List.range 3).map (L1 [.ref 0 0,.ref 1 0,.ref 2 0])++List.replicate (Tryz.f157.ntmps-(3+1)) .any=AG 58 [(0,.yl C.l),(1,.ref 0 0),(2,.ref 1 0),(3,.ref 2 0)]:=by kernel_rfl
 rw [e];exact tc g_ start AT h C hC
end Go.Proofs.YtkjbblkieglmlaaGreatDoor
namespace Go.Proofs.YtkjbblkieglmlaaGreatDoor
abbrev zAv:=@decide_eq_true_iff
abbrev zA6:=@List.mem_append_left
abbrev zDv:=@List.length_singleton
abbrev zD3:=@List.mem_append_right
abbrev zEJ:=@List.getElem?_set_self
abbrev zEg:=@Bool.false_and
abbrev zEk:=@List.append_nil
abbrev zEx:=@List.countP_cons
abbrev zE7:=@List.append_assoc
abbrev zFK:=@List.countP_le_length
abbrev zFQ:=@Bool.and_false
end Go.Proofs.YtkjbblkieglmlaaGreatDoor
namespace Go.Proofs.YtkjbblkieglmlaaGreatDoor
open Go.RowKit
def nb (g:List (List Int)) (v:Int):List Int:=g.getD v.toNat []
structure Gr (g:List (List Int)):Prop where
 len:g.length<=256
 row: ∀ v,0<=v -> v<(g.length:Int) -> (nb g v).length<=256
 rng: ∀ v,0<=v -> v<(g.length:Int) -> ∀ u∈nb g v,0<=u/\ u<(g.length:Int)
 sym: ∀ v,0<=v -> v<(g.length:Int) -> ∀ u∈nb g v,v∈nb g u
theorem Gr.of {g:List (List Int)} (h:Kk g=true) (hr: ∀ r∈g,r.length<=LB):Gr g:=by
 unfold Kk at h;rw [zAN,zAv,zAT] at h
 have key: ∀ v,0<=v -> v<(g.length:Int) -> ∀ u∈nb g v,(0<=u/\ u<(g.length:Int))/\ v∈nb g u:=by
  intro v h0 h1 u hu;have h2:=h.2 v.toNat (zAi.2 (by omega));unfold I1 at h2;rw [zAT] at h2;obtain ⟨j,hj,e⟩:=zEQ hu;have h3:=h2 j (zAi.2 hj);unfold HJ at h3
  have e2:(g.getD v.toNat []).getD j 0=u:=by
   show (nb g v).getD j 0=u
   rw [u8,zAM hj];exact e
  simp only [e2,zAN,zAv,zFJ] at h3;have e3:((v.toNat:Nat):Int)=v:=by omega
  rw [e3] at h3;exact ⟨⟨h3.1.1.1.1,h3.1.1.1.2⟩,h3.2⟩
 have grow: ∀ v,0<=v -> v<(g.length:Int) -> ∀ k,k<(nb g v).length -> (k:Int)<=(nb g v).getD k 0:=by
  intro v h0 h1 k;have h2:=h.2 v.toNat (zAi.2 (by omega));unfold I1 at h2;rw [zAT] at h2
  induction k with
  | zero=>
   intro hk;have h3:=h2 0 (zAi.2 hk);unfold HJ at h3;simp only [zAN,zAv] at h3;exact h3.1.1.1.1
  | succ k ih=>
   intro hk;have h3:=h2 (k+1) (zAi.2 hk);unfold HJ at h3;have d:decide (0<k+1)=true:=zAJ (by omega);simp only [zAN,zAv,d,zD7,zEa,Nat.add_sub_cancel] at h3;have h4:(nb g v).getD k 0<(nb g v).getD (k+1) 0:=h3.1.2;have:=ih (by omega);omega
 exact ⟨h.1,fun v h0 h1=>by
  refine zEv fun hl=>?_
  have h2:=grow v h0 h1 256 hl;have h3:(nb g v).getD 256 0∈nb g v:=by rw [u8,zAM hl];exact zA7 hl
  have h4:=(key v h0 h1 _ h3).1;have:=h.1;omega,fun v h0 h1 u hu=>(key v h0 h1 u hu).1,fun v h0 h1 u hu=>(key v h0 h1 u hu).2⟩
inductive Rc (g:List (List Int)) (inn:List Bool) (s:Int):Int -> Prop
 | start:Rc g inn s s
 | step {a b:Int} (h:Rc g inn s a) (hb:b∈nb g a) (hi:inn.getD b.toNat false=true):Rc g inn s b
section
variable {g:List (List Int)} {inn:List Bool} {s:Int}
theorem Rc.rng (G:Gr g) (h0:0<=s) (h1:s<(g.length:Int)) {v:Int} (h:Rc g inn s v):0<=v/\ v<(g.length:Int):=by
 induction h with
 | start=>exact ⟨h0,h1⟩
 | step h hb hi ih=>exact G.rng _ ih.1 ih.2 _ hb
theorem Rc.isIn (hs:inn.getD s.toNat false=true) {v:Int} (h:Rc g inn s v):inn.getD v.toNat false=true:=by
 cases h with
 | start=>exact hs
 | step h hb hi=>exact hi
theorem Rc.trans {a b:Int} (h:Rc g inn s a) (h2:Rc g inn a b):Rc g inn s b:=by
 induction h2 with
 | start=>exact h
 | step _ hb hi ih=>exact .step ih hb hi
theorem Rc.symm (G:Gr g) (h0:0<=s) (h1:s<(g.length:Int)) (hs:inn.getD s.toNat false=true) {v:Int} (h:Rc g inn s v):Rc g inn v s:=by
 induction h with
 | start=>exact .start
 | step h hb hi ih=>
  have hr:=h.rng G h0 h1;exact (Rc.step Rc.start (G.sym _ hr.1 hr.2 _ hb) (h.isIn hs)).trans ih
def Ff (l:List Bool):Nat:=l.countP fun b=>!b
theorem Xf: ∀ (l:List Bool) (i:Nat),i<l.length -> l.getD i false=false -> Ff (l.set i true)+1=Ff l
 | b::l,0,_,h=>by
  have h:b=false:=h;subst h;simp [Ff,zEx]
 | b::l,i+1,hi,h=>by
  have:=Xf l i (Nat.lt_of_succ_lt_succ hi) (by simpa using h)
  show Ff (b::l.set i true)+1=Ff (b::l)
  unfold Ff at this ⊢;rw [zEx,zEx];omega
def Dk (inn:List Bool) (st:List Bool×List Int) (v:Int):List Bool×List Int:=bif inn.getD v.toNat false&&!st.1.getD v.toNat false then (st.1.set v.toNat true,st.2++[v]) else st
structure Bf (g:List (List Int)) (inn:List Bool) (s:Int) (met:List Bool) (Q P:List Int):Prop where
 len:met.length=g.length
 cnt:Q.length+Ff met<=g.length
 nd:(P++Q).Nodup
 rc: ∀ v∈P++Q,Rc g inn s v
 rng: ∀ v∈P++Q,0<=v/\ v<(g.length:Int)
 met: ∀ v:Int,0<=v -> v<(g.length:Int) -> (met.getD v.toNat false=true↔v∈P++Q)
 cl: ∀ p∈P,∀ b∈nb g p,inn.getD b.toNat false=true -> b∈P++Q
 st:s∈P++Q
theorem Bf.ex (G:Gr g) {met:List Bool} {Q P:List Int} (h:Bf g inn s met Q P) {v u:Int} (hv:v∈Q) (hu:u∈nb g v):
 Bf g inn s (Dk inn (met,Q) u).1 (Dk inn (met,Q) u).2 P/\ (∃ t,(Dk inn (met,Q) u).2=Q++t)/\ (inn.getD u.toNat false=true -> u∈P++(Dk inn (met,Q) u).2)/\ 2*Ff (Dk inn (met,Q) u).1+(Dk inn (met,Q) u).2.length<=2*Ff met+Q.length:=by
 have HO:=h.rng v (zD3 _ hv);have Ss:=G.rng v HO.1 HO.2 u hu;unfold Dk
 dsimp only
 cases hi:inn.getD u.toNat false
 ·rw [zEg,zAH];exact ⟨h,⟨[],(zEk _).symm⟩,fun h=>(by cases h),zAp _⟩
 ·cases hm:met.getD u.toNat false
  ·rw [zEG,Bool.and_true,zAI];have hn:u∉P++Q:=fun hh=>by rw [(h.met u Ss.1 Ss.2).2 hh] at hm;cases hm
   have hl:=h.len;have hc:=Xf met u.toNat (by omega) hm;have hcnt:=h.cnt;have Dv: ∀ x,x∈P++(Q++[u])↔x∈P++Q∨x=u:=fun x=>by simp [or_assoc]
   refine ⟨⟨by rw [zAn];exact hl,by show (Q++[u]).length+Ff (met.set u.toNat true)<=_;rw [zAm,zDv];omega,?_,fun x hx=>?_,fun x hx=>?_,fun x Fs KU=>?_,fun p hp b hb hbi=>(Dv b).2 (.inl (h.cl p hp b hb hbi)),(Dv s).2 (.inl h.st)⟩,⟨[u],rfl⟩,fun _=>(Dv u).2 (.inr rfl),by show 2*Ff (met.set u.toNat true)+(Q++[u]).length<=_;rw [zAm,zDv];omega⟩
   ·rw [←zE7,List.nodup_append];exact ⟨h.nd,by simp,fun a ha b hb=>by rw [zAu] at hb;subst hb;exact fun e=>hn (e▸ha)⟩
   ·rcases (Dv x).1 hx with hx | rfl
    ·exact h.rc x hx
    ·exact .step (h.rc v (zD3 _ hv)) hu hi
   ·rcases (Dv x).1 hx with hx | rfl
    ·exact h.rng x hx
    ·exact Ss
   ·rw [Dv,←h.met x Fs KU]
    by_cases e:x=u
    ·subst e;rw [u8,zEJ (by omega)];exact ⟨fun _=>.inr rfl,fun _=>rfl⟩
    ·rw [u8,zEF (by omega),←u8];exact ⟨.inl,fun h=>h.elim id fun h=>absurd h e⟩
  ·rw [zD7,zFQ,zAH];exact ⟨h,⟨[],by simp⟩,fun _=>(h.met u Ss.1 Ss.2).1 hm,zAp _⟩
theorem Bf.exs (G:Gr g) {v:Int} {P:List Int}: ∀ (l:List Int) {met:List Bool} {Q:List Int},Bf g inn s met Q P -> v∈Q -> (∀ u∈l,u∈nb g v) ->
 Bf g inn s (l.foldl (Dk inn) (met,Q)).1 (l.foldl (Dk inn) (met,Q)).2 P/\ (∃ t,(l.foldl (Dk inn) (met,Q)).2=Q++t)/\ (∀ u∈l,inn.getD u.toNat false=true -> u∈P++(l.foldl (Dk inn) (met,Q)).2)/\ 2*Ff (l.foldl (Dk inn) (met,Q)).1+(l.foldl (Dk inn) (met,Q)).2.length<=2*Ff met+Q.length
 | [],met,Q,h,hv,hl=>⟨h,⟨[],by simp⟩,fun u hu=>absurd hu zEd,zAp _⟩
 | u::l,met,Q,h,hv,hl=>by
  obtain ⟨h1,⟨t,ht⟩,h2,h3⟩:=h.ex G hv (hl u zED);obtain ⟨h4,⟨t',kb⟩,h5,h6⟩:=Bf.exs G l h1 (by rw [ht];exact zA6 _ hv) fun x hx=>hl x (zA5 _ hx)
  refine ⟨h4,⟨t++t',?_⟩,fun x hx hi=>?_,zAt h6 h3⟩
  ·show (List.foldl (Dk inn) (Dk inn (met,Q) u) l).2=_
   rw [kb,ht,zE7]
  ·rcases zA3.1 hx with rfl | hx
   ·show x∈P++(List.foldl (Dk inn) (Dk inn (met,Q) x) l).2
    rw [kb,←zE7];exact zA6 _ (h2 hi)
   ·exact h5 x hx hi
theorem wa {n j:Nat} {l:List Int} {met:List Bool} {Q:List Int} (hI:inn.length=g.length) (hG:g.length<=256) (hm:met.length=g.length) (hQ:Q.length+Ff met<=g.length) (hj:j<l.length) (hl:l.length<=256) (hr:0<=l.getD j 0/\ l.getD j 0<(g.length:Int)):
 ER g s inn (n+1) (.l2 Q.length l (l.length:Int) (j:Int) met Q)=ER g s inn n (.l2 (Dk inn (met,Q) (l.getD j 0)).2.length l (l.length:Int) ((j:Int)+1) (Dk inn (met,Q) (l.getD j 0)).1 (Dk inn (met,Q) (l.getD j 0)).2):=by
 have r1:AL ((j:Int)+1):=As.2 ⟨by omega,by omega⟩;have L:(1000000000000:Nat)=BA:=rfl
 show J7 n (ER g s inn n) g s inn Q.length l (l.length:Int) (j:Int) met Q=_
 unfold J7 Dk;simp only [zAL,zAs];rw [zAJ (by omega),zAI,zAE ⟨⟨by omega,by omega⟩,by omega,by omega⟩];cases hi:inn.getD (l.getD j 0).toNat false
 ·rw [zAH,zEg,zAH,zAE r1]
 ·rw [zAI,zD9,zAE ⟨hr,by omega⟩];cases ht:met.getD (l.getD j 0).toNat false
  ·have hc:=Xf met (l.getD j 0).toNat (by omega) ht;rw [zEG,zAI,zAI,zAE ⟨⟨⟨trivial,rfl⟩,⟨trivial,trivial⟩,by rw [zDv,←L];omega⟩,r1⟩,zAm]
  ·rw [zD7,zAH,zAH,zAE r1]
theorem j8 (hI:inn.length=g.length) (G:Gr g) {v:Int} {P:List Int} {l:List Int} (hl:l.length<=256) (bC: ∀ u∈l,u∈nb g v): ∀ (k j n:Nat) {met:List Bool} {Q:List Int},j+k=l.length -> Bf g inn s met Q P -> v∈Q ->
 ER g s inn (n+k) (.l2 Q.length l (l.length:Int) (j:Int) met Q)=ER g s inn n (.l2 ((l.drop j).foldl (Dk inn) (met,Q)).2.length l (l.length:Int) (l.length:Int) ((l.drop j).foldl (Dk inn) (met,Q)).1 ((l.drop j).foldl (Dk inn) (met,Q)).2)
 | 0,j,n,met,Q,e,h,hv=>by
  have e:j=l.length:=by omega
  subst e;rw [zF1];rfl
 | k+1,j,n,met,Q,e,h,hv=>by
  have hj:j<l.length:=by omega
  have hu:l.getD j 0∈l:=by rw [u8,zAM hj];exact zA7 hj
  have HO:=h.rng v (zD3 _ hv);have hr:=G.rng v HO.1 HO.2 _ (bC _ hu);obtain ⟨h1,⟨t,ht⟩,_,_⟩:=h.ex G hv (bC _ hu);rw [←zDw,wa hI G.len h.len h.cnt hj hl hr];have:=j8 hI G hl bC k (j+1) n (by omega) h1 (by rw [ht];exact zA6 _ hv);have e1:(((j+1:Nat)):Int)=(j:Int)+1:=by omega
  rw [e1] at this;rw [this]
  have e2:l.drop j=l.getD j 0::l.drop (j+1):=by
   rw [zBx hj,u8,zAM hj];rfl
  rw [e2];rfl
def Ma (g:List (List Int)) (inn:List Bool) (s:Int) (P l:List Int):Prop:=(P++l).Nodup/\ (∀ v,v∈P++l↔Rc g inn s v)
theorem Bf.done {met:List Bool} {P:List Int} (h:Bf g inn s met [] P):Ma g inn s P []:=by
 refine ⟨h.nd,fun v=>⟨h.rc v,fun hv=>?_⟩⟩
 induction hv with
 | start=>exact h.st
 | step _ hb hi ih=>exact h.cl _ (by simpa using ih) _ hb hi
theorem Ae.map {R:Type} {f:Nat -> Option R} {Q:R -> Prop} {Q':R -> Prop} {m:R -> R} (h:Ae f Q) (hq: ∀ r,Q r -> Q' (m r)):Ae (fun n=>(f n).map m) Q':=by
 obtain ⟨N,h⟩:=h;refine ⟨N,fun n hn=>?_⟩;obtain ⟨r,h1,h2⟩:=h n hn;exact ⟨m r,by show (f n).map m=_;rw [h1];rfl,hq r h2⟩
theorem zDI (G:Gr g) (hI:inn.length=g.length): ∀ (z:Nat) (met:List Bool) (Q P:List Int),2*Ff met+Q.length=z -> Bf g inn s met Q P -> Ae (fun n=>ER g s inn n (.l1 Q.length met Q)) (Ma g inn s P):=by
 intro z
 induction z using Nat.strongRecOn with
 | _ z ih=>
  intro met Q P hz h;cases Q with
  | nil=>
   refine Ev.p (r:=[]) ⟨1,fun n hn=>?_⟩ h.done;obtain ⟨n,rfl⟩: ∃ k,n=k+1:=⟨n-1,by omega⟩
   show NA n (ER g s inn n) g s inn 0 met []=_
   unfold NA;rw [zAC (by omega),zAH]
  | cons v q=>
   have hv:v∈v::q:=zED;have HO:=h.rng v (zD3 _ hv);obtain ⟨h1,⟨t,ht⟩,h2,h3⟩:=h.exs G (nb g v) hv (fun u hu=>hu);have hl:=G.row v HO.1 HO.2
   generalize Dg:(nb g v).foldl (Dk inn) (met,v::q)=st at h1 ht h2 h3
   obtain ⟨PJ,Q'⟩:=st;have ht:Q'=v::(q++t):=ht;subst ht
   have hB:Bf g inn s PJ (q++t) (P++[v]):=by
    have e:P++[v]++(q++t)=P++(v::(q++t)):=by simp
    have hc:=h1.cnt;simp only [zAw] at hc;refine ⟨h1.len,by omega,by rw [e];exact h1.nd,by rw [e];exact h1.rc,by rw [e];exact h1.rng,by rw [e];exact h1.met,?_,by rw [e];exact h1.st⟩;intro p hp b hb hi;rw [e];rcases zD5.1 hp with hp | hp
    ·exact h1.cl p hp b hb hi
    ·rw [zAu] at hp;subst hp;exact h2 b hb hi
   have xW:2*Ff PJ+(q++t).length<z:=by
    simp only [zAw] at h3;simp only [zAm] at h3 ⊢;have:(v::q).length=q.length+1:=rfl;omega
   have IH:=ih _ xW PJ (q++t) (P++[v]) rfl hB
   have key:Ae (fun n=>ER g s inn n (.l2 (v::(q++t)).length (nb g v) ((nb g v).length:Int) ((nb g v).length:Int) PJ (v::(q++t)))) (Ma g inn s (P++[v])):=by
    have g0:(0:Int)<=1/\ (1:Int)<=(((v::(q++t)).length:Nat):Int)/\ (((v::(q++t)).length:Nat):Int)<=(((v::(q++t)).length:Nat):Int):=⟨by omega,by rw [zAw];omega,zEK _⟩;cases ak:q++t with
    | nil=>
     rw [ak] at hB;refine Ev.p (r:=[]) ⟨2,fun n hn=>?_⟩ hB.done;obtain ⟨n,rfl⟩: ∃ k,n=k+2:=⟨n-2,by omega⟩
     show J7 (n+1) (ER g s inn (n+1)) g s inn 1 (nb g v) ((nb g v).length:Int) ((nb g v).length:Int) PJ [v]=_
     unfold J7;rw [zAC (by omega),zAH];rfl
    | cons a r=>
     rw [←ak];refine Ae.step 1 (fun n=>?_) IH
     show J7 n (ER g s inn n) g s inn (v::(q++t)).length (nb g v) ((nb g v).length:Int) ((nb g v).length:Int) PJ (v::(q++t))=_
     unfold J7;have e0:((v::(q++t)).length-1==0)=false:=by rw [ak];rfl
     rw [zAC (by omega),zAH,e0,zAH,zAE g0,zAE (by rw [zAw];omega)];rfl
   have wj:Ae (fun n=>ER g s inn n (.l2 (v::q).length (nb g v) ((nb g v).length:Int) 0 met (v::q))) (Ma g inn s (P++[v])):=by
    refine Ae.step (nb g v).length (fun n=>?_) key;have:=j8 hI G hl (fun u hu=>hu) (nb g v).length 0 n (by omega) h hv;rw [zFD,Dg] at this;exact this
   have m: ∀ r:List Int,Ma g inn s (P++[v]) r -> Ma g inn s P (v::r):=fun r hr=>by
    have e:P++[v]++r=P++(v::r):=by simp
    unfold Ma at hr ⊢;rw [e] at hr;exact hr
   refine Ae.step 1 (fun n=>?_) (Ae.map wj m)
   show NA n (ER g s inn n) g s inn (v::q).length met (v::q)=_
   unfold NA;have g1:((0:Int)<=0/\ 0<(((v::q).length:Nat):Int))/\ 0+0<(v::q).length:=by rw [zAw];omega
   rw [zAJ (by rw [zAw];omega),zAI,zAE g1];have e1:(v::q).getD (0+0) 0=v:=rfl;rw [e1,zAE ⟨g1.1,g1.2,HO⟩];rfl
theorem ZE (G:Gr g) (hI:inn.length=g.length) (h0:0<=s) (h1:s<(g.length:Int)):Ae (fun n=>GC n g s inn) (fun l=>l.Nodup/\ ∀ v,v∈l↔Rc g inn s v):=by
 have Ao:((List.replicate g.length false).set s.toNat true).length=g.length:=by simp
 have hG:=G.len;have hc:=Xf (List.replicate g.length false) s.toNat (by rw [zAl];omega) (by simp [u8,zEA];split <;> rfl)
 have Kf:Ff (List.replicate g.length false)<=g.length:=by
  have:=zFK (p:=fun b=>!b) (l:=List.replicate g.length false);rw [zAl] at this;exact this
 have hB:Bf g inn s ((List.replicate g.length false).set s.toNat true) [s] []:=by
  refine ⟨Ao,by rw [zDv];omega,by simp,fun v hv=>?_,fun v hv=>?_,fun v PX B0=>?_,fun p hp=>absurd hp zEd,by simp⟩
  ·have:v=s:=by simpa using hv
   subst this;exact .start
  ·have:v=s:=by simpa using hv
   subst this;exact ⟨h0,h1⟩
  ·by_cases e:v=s
   ·subst e;rw [u8,zEJ (by rw [zAl];omega)];simp
   ·rw [u8,zEF (by omega),zEA];simp only [zEN,zAu,e,iff_false];split <;> simp
 have:=zDI G hI _ _ _ _ rfl hB;refine (Ae.mono (Q':=fun l=>l.Nodup/\ ∀ v,v∈l↔Rc g inn s v) this (fun l (hl:Ma g inn s [] l)=>(⟨hl.1,hl.2⟩:l.Nodup/\ ∀ v,v∈l↔Rc g inn s v))).eq fun n=>?_
 unfold GC ZD;rw [zAE ⟨⟨rfl,by omega,by omega⟩,⟨h0,h1⟩,by simp only [zAl];omega⟩,zAs];rfl
end
end Go.Proofs.YtkjbblkieglmlaaGreatDoor
namespace Go.Proofs.YtkjbblkieglmlaaGreatDoor
abbrev zEp:=@BitVec.toNat_ofInt
abbrev zE8:=@Nat.pow_le_pow_right
abbrev zGA:=@Nat.testBit_two_pow
end Go.Proofs.YtkjbblkieglmlaaGreatDoor
namespace Go.Proofs.YtkjbblkieglmlaaGreatDoor
def tb (x:Int) (i:Nat):Bool:=(BitVec.ofInt 64 x).getLsbD i
def CF (x:Int):Prop:=-9223372036854775808<=x/\ x<=9223372036854775807
theorem Ru (x:Int):BitVec.ofInt 64 (IntKind.i64.wrap x)=BitVec.ofInt 64 x:=by
 apply BitVec.eq_of_toNat_eq;rw [zEp,zEp,zF0]
 congr 1
 omega
theorem Rv (y:BitVec 64):BitVec.ofInt 64 (y.toNat:Int)=y:=by
 rw [zFP];simp
theorem UQ (x:Int):CF (IntKind.i64.wrap x):=by
 rw [zF0];constructor <;> omega
theorem Ks (op:BinOp) (a b:Int):CF (bits op .i64 a b):=UQ _
theorem Jt (a b:Int) (i:Nat):tb (bits .or .i64 a b) i=(tb a i||tb b i):=by
 show (BitVec.ofInt 64 (IntKind.i64.wrap ((BitVec.ofInt 64 a||| BitVec.ofInt 64 b).toNat:Int))).getLsbD i=_
 rw [Ru,Rv,BitVec.getLsbD_or];rfl
theorem Ok (a b:Int) (i:Nat):tb (bits .and .i64 a b) i=(tb a i&&tb b i):=by
 show (BitVec.ofInt 64 (IntKind.i64.wrap ((BitVec.ofInt 64 a&&& BitVec.ofInt 64 b).toNat:Int))).getLsbD i=_
 rw [Ru,Rv,BitVec.getLsbD_and];rfl
theorem Uf {x:Int} {i:Nat} (h:64<=i):tb x i=false:=BitVec.getLsbD_of_ge _ _ h
theorem Uh (a b:Int) (i:Nat):tb (bits .andNot .i64 a b) i=(tb a i&&!tb b i):=by
 show (BitVec.ofInt 64 (IntKind.i64.wrap ((BitVec.ofInt 64 a&&& ~~~ BitVec.ofInt 64 b).toNat:Int))).getLsbD i=_
 rw [Ru,Rv,BitVec.getLsbD_and,BitVec.getLsbD_not]
 by_cases h:i<64
 ·simp [h,tb]
 ·have h:64<=i:=by omega
  have:=Uf (x:=a) h;unfold tb at*;rw [this];simp
theorem Ue (a:Int) {i:Nat} (h:i<64):tb (bits .xor .i64 (-1) a) i= !tb a i:=by
 show (BitVec.ofInt 64 (IntKind.i64.wrap ((BitVec.ofInt 64 (-1) ^^^ BitVec.ofInt 64 a).toNat:Int))).getLsbD i=_
 rw [Ru,Rv,BitVec.getLsbD_xor];have:BitVec.ofInt 64 (-1)=BitVec.allOnes 64:=by decide
 rw [this,BitVec.getLsbD_allOnes];simp [h,tb]
theorem Ud (i:Nat):tb 0 i=false:=by
 unfold tb;rw [show BitVec.ofInt 64 0=0#64 from rfl];simp
theorem Mi {i:Nat}: ¬ tb 0 i=true:=by rw [Ud];decide
theorem Qj {x y:Int} (hx:CF x) (hy:CF y) (h: ∀ i,i<64 -> tb x i=tb y i):x=y:=by
 have e:BitVec.ofInt 64 x=BitVec.ofInt 64 y:=BitVec.eq_of_getLsbD_eq fun i hi=>h i hi
 have e2:=congrArg BitVec.toNat e;rw [zEp,zEp] at e2;unfold CF at*;omega
theorem K8 (m i:Nat) (hi:i<64):tb (m:Int) i=m.testBit i:=by
 unfold tb;rw [zFP,BitVec.getLsbD_ofNat];simp [hi]
def Sm (k:Nat) (x:Int):Prop:=0<=x/\ x<2 ^ k
theorem NC {k:Nat} (hk:k<=62):(2:Int) ^ k<=4611686018427387904:=by
 have:(2:Nat) ^ k<=2 ^ 62:=zE8 (by decide) hk;have h:((2 ^ k:Nat):Int)<=((2 ^ 62:Nat):Int):=by exact_mod_cast this
 simpa using h
theorem Sm.in64 {k:Nat} {x:Int} (hk:k<=62) (h:Sm k x):CF x:=by
 have:=NC hk;obtain ⟨h1,h2⟩:=h;constructor <;> omega
theorem Sm.hi {k:Nat} {x:Int} (h:Sm k x) {i:Nat} (hi:k<=i):tb x i=false:=by
 rcases zBG i 64 with OA | OA
 ·obtain ⟨m,rfl⟩:=zFC h.1;rw [K8 m i OA];apply Nat.testBit_lt_two_pow;have h2:(m:Int)<2 ^ k:=h.2;have h3:m<2 ^ k:=by exact_mod_cast h2
  exact zAW h3 (zE8 (by decide) hi)
 ·exact Uf OA
theorem Q0 {k:Nat} (hk:k<=62) {x:Int} (hx:CF x) (h: ∀ i,k<=i -> i<64 -> tb x i=false):Sm k x:=by
 have hy:(BitVec.ofInt 64 x).toNat<2 ^ k:=by
  apply Nat.lt_pow_two_of_testBit;intro i hi;rcases zBG i 64 with OA | OA
  ·have:=h i hi OA;unfold tb at this
   rwa [BitVec.getLsbD] at this
  ·exact Nat.testBit_lt_two_pow (zAW (BitVec.isLt _) (zE8 (by decide) OA))
 rw [zEp] at hy;have h1:=NC hk;have h2:((2 ^ k:Nat):Int)=(2:Int) ^ k:=by simp
 unfold CF at hx;unfold Sm;omega
theorem pK {s i:Nat} (hi:i<64):tb ((2 ^ s:Nat):Int) i=decide (s=i):=by
 rw [K8 _ _ hi,zGA]
theorem Ug {x:Int} (hx:CF x):x=0↔∀ i,i<64 -> tb x i=false:=
 ⟨fun h i _=>by rw [h];exact Ud i,fun h=>Qj hx ⟨by decide,by decide⟩ fun i hi=>by rw [h i hi,Ud]⟩
theorem Qi {x:Int} (hx:CF x):x≠0↔∃ i,i<64/\ tb x i=true:=by
 rw [ne_eq,Ug hx];constructor
 ·intro h;refine Classical.byContradiction fun h2=>h fun i hi=>?_
  cases hb:tb x i with
  | false=>rfl
  | true=>exact absurd ⟨i,hi,hb⟩ h2
 ·rintro ⟨i,hi,hb⟩ h;rw [h i hi] at hb;cases hb
theorem qS {k s:Nat} {x:Int} (h:Sm k x) (hk:k<=62) (hs:s<64):bits .and .i64 (x/2 ^ s) 1=if tb x s then 1 else 0:=by
 obtain ⟨m,rfl⟩:=zFC h.1;have hm:=h.2;have mD:=NC hk;have e:(m:Int)/2 ^ s=((m/2 ^ s:Nat):Int):=by simp
 have key: ∀ t,t<64 -> tb (bits .and .i64 ((m:Int)/2 ^ s) 1) t=(decide (t=0)&&tb (m:Int) s):=fun t ht=>by
  rw [Ok,e,K8 _ _ ht,K8 m s hs,show (1:Int)=((1:Nat):Int) from rfl,K8 1 t ht,Nat.testBit_div_two_pow]
  by_cases h0:t=0
  ·subst h0;simp
  ·rw [zAC h0,zEg]
   have:Nat.testBit 1 t=false:=by
    rw [show (1:Nat)=2 ^ 0 from rfl,zGA];simpa using fun h=>h0 h.symm
   rw [this,zFQ]
 cases hb:tb (m:Int) s with
 | true=>
  rw [zAE rfl];refine Qj (Ks _ _ _) ⟨by decide,by decide⟩ fun t ht=>?_
  rw [key t ht,hb,show (1:Int)=((1:Nat):Int) from rfl,K8 1 t ht,Bool.and_true]
  by_cases h0:t=0
  ·subst h0;rfl
  ·rw [zAC h0];rw [show (1:Nat)=2 ^ 0 from rfl,zGA];symm;simpa using fun h=>h0 h.symm
 | false=>
  rw [zAU zE0];exact (Ug (Ks _ _ _)).2 fun t ht=>by rw [key t ht,hb,zFQ]
theorem Yh {k s:Nat} {x:Int} (h:Sm k x) (hk:k<=62) (hs:s<64):(bits .and .i64 (x/2 ^ s) 1==1)=tb x s:=by
 rw [qS h hk hs];cases tb x s <;> rfl
end Go.Proofs.YtkjbblkieglmlaaGreatDoor
namespace Go.Proofs.YtkjbblkieglmlaaGreatDoor
open Go.RowKit
theorem Vw {S R:Type} (m:Nat -> S -> Int -> Option R) (len N0:Nat) (Inv:Nat -> S -> Prop)
 (h: ∀ (n i:Nat) (s:S),N0<=n -> i<len -> Inv i s -> ∃ s',m (n+1) s (i:Int)=m n s' ((i:Int)+1)/\ Inv (i+1) s'):
 ∀ (k i n:Nat) (s:S),i+k=len -> N0<=n -> Inv i s -> ∃ s',m (n+k) s (i:Int)=m n s' (len:Int)/\ Inv len s'
 | 0,i,n,s,e,_,hI=>by
  have:i=len:=by omega
  subst this;exact ⟨s,rfl,hI⟩
 | k+1,i,n,s,e,hn,hI=>by
  obtain ⟨s',h1,h2⟩:=h (n+k) i s (by omega) (by omega) hI;obtain ⟨s2,h3,h4⟩:=Vw m len N0 Inv h k (i+1) n s' (by omega) hn h2;refine ⟨s2,?_,h4⟩;rw [show n+(k+1)=n+k+1 by omega,h1,←h3];rfl
theorem HM {S R:Type} (m:Nat -> S -> Int -> Option R) (len N0:Nat) (Inv:Nat -> S -> Prop)
 (h: ∀ (n i:Nat) (s:S),N0<=n -> i<len -> Inv i s -> ∃ s',m (n+1) s (i:Int)=m n s' ((i:Int)+1)/\ Inv (i+1) s')
 {n:Nat} {s:S} (hn:N0+len<=n) (hI:Inv 0 s): ∃ n' s',N0<=n'/\ n'+len=n/\ m n s 0=m n' s' (len:Int)/\ Inv len s':=by
 obtain ⟨s',h1,h2⟩:=Vw m len N0 Inv h len 0 (n-len) s (by omega) (by omega) hI;rw [show n-len+len=n by omega] at h1;exact ⟨n-len,s',by omega,by omega,h1,h2⟩
structure C2 (c:AC) (k:Nat) (pos:List Int):Prop where
 cells: ∀ a,a<c.cells.length -> 0<=c.cells.getD a 0/\ c.cells.getD a 0<(pos.length:Int)
 len:c.cells.length<=256
 sm: ∀ i,i<pos.length -> Sm k (pos.getD i 0)
 k:k<=16
def BN (c:AC) (pos:List Int) (a:Nat):Int:=pos.getD (c.cells.getD a 0).toNat 0
def Q3 (x:Int):Bool:=bits .and .i64 x (x-1)==0
section
variable {c:AC} {k:Nat} {pos lost:List Int} {q:AA}
theorem C2.at (W:C2 c k pos) {a:Nat} (ha:a<c.cells.length):Sm k (BN c pos a):=by
 have:=W.cells a ha;exact W.sm _ (by omega)
theorem C2.r64 (W:C2 c k pos) {a:Nat} (ha:a<c.cells.length):AL (BN c pos a-1)/\ AL ((a:Int)+1):=by
 have h:=W.at ha;have h2:=NC (k:=k) (zAt W.k (by decide));have h3:=W.len;obtain ⟨h0,h1⟩:=h;exact ⟨As.2 ⟨by omega,by omega⟩,As.2 ⟨by omega,by omega⟩⟩
theorem KL {n:Nat} {cell ss:Int} (h0:0<=cell) (h1:cell<(pos.length:Int)) (hl:lost.length=pos.length):
 ∃ l',DU n cell ss c q pos pos.length lost=some l'/\ l'.length=pos.length/\ ∀ j s,tb (l'.getD j 0) s=(tb (lost.getD j 0) s||(decide (j=cell.toNat)&&(tb (pos.getD j 0) s&&tb ss s))):=by
 refine ⟨lost.set cell.toNat (bits .or .i64 (lost.getD cell.toNat 0) (bits .and .i64 (pos.getD cell.toNat 0) ss)),?_,by rw [zAn];exact hl,fun j s=>?_⟩
 ·unfold DU Z5;simp only [zAs];rw [zAE ⟨⟨h0,h1⟩,by omega,h0,h1⟩]
 ·by_cases hj:j=cell.toNat
  ·subst hj;rw [u8,zEJ (by omega),zEc,Jt,Ok,zAJ rfl,zD9]
  ·rw [u8,zEF (fun e=>hj e.symm),←u8,zAC hj,zEg,zEb]
theorem Zf {n:Nat} {cell:Int} (h0:0<=cell) (h1:cell<(pos.length:Int)) (hl:lost.length=pos.length):
 ∃ l',GI n cell c q pos pos.length lost=some l'/\ l'.length=pos.length/\ ∀ j s,tb (l'.getD j 0) s=(tb (lost.getD j 0) s||(decide (j=cell.toNat)&&(tb (pos.getD j 0) s&&!tb c.set s))):=by
 refine ⟨lost.set cell.toNat (bits .or .i64 (lost.getD cell.toNat 0) (bits .andNot .i64 (pos.getD cell.toNat 0) c.set)),?_,by rw [zAn];exact hl,fun j s=>?_⟩
 ·unfold GI Zh;simp only [zAs];rw [zAE ⟨⟨h0,h1⟩,by omega,h0,h1⟩]
 ·by_cases hj:j=cell.toNat
  ·subst hj;rw [u8,zEJ (by omega),zEc,Jt,Uh,zAJ rfl,zD9]
  ·rw [u8,zEF (fun e=>hj e.symm),←u8,zAC hj,zEg,zEb]
def Sg (c:AC) (pos:List Int) (a s:Nat):Prop:=Q3 (BN c pos a)=true/\ tb (BN c pos a) s=true
def B3 (c:AC) (pos lost:List Int) (i:Nat) (D:Nat -> Nat -> Prop) (l:List Int):Prop:=
 l.length=pos.length/\ ∀ j s,tb (l.getD j 0) s=true↔tb (lost.getD j 0) s=true∨∃ a,a<i/\ (c.cells.getD a 0).toNat=j/\ tb (BN c pos a) s=true/\ D a s
theorem B3.step {D:Nat -> Nat -> Prop} {i:Nat} {l l':List Int} (h:B3 c pos lost i D l) (hl:l'.length=pos.length)
 (h1: ∀ j s,tb (l'.getD j 0) s=true↔tb (l.getD j 0) s=true∨((c.cells.getD i 0).toNat=j/\ tb (BN c pos i) s=true/\ D i s)):B3 c pos lost (i+1) D l':=by
 refine ⟨hl,fun j s=>?_⟩;rw [h1,h.2];constructor
 ·rintro ((h | ⟨a,ha,h⟩) | h)
  ·exact .inl h
  ·exact .inr ⟨a,by omega,h⟩
  ·exact .inr ⟨i,by omega,h⟩
 ·rintro (h3 | ⟨a,ha,h3⟩)
  ·exact .inl (.inl h3)
  ·rcases zAc.1 ha with ha | rfl
   ·exact .inl (.inr ⟨a,ha,h3⟩)
   ·exact .inr h3
theorem B3.zero {D:Nat -> Nat -> Prop} (hl:lost.length=pos.length):B3 c pos lost 0 D lost:=
 ⟨hl,fun j s=>⟨.inl,fun h=>h.elim id fun ⟨a,ha,_⟩=>absurd ha (zAo a)⟩⟩
def XO (c:AC) (pos:List Int) (a s:Nat):Prop:=∃ b,b<c.cells.length/\ b≠a/\ Sg c pos b s
theorem zB6 {n:Nat} (W:C2 c k pos) (hl:lost.length=pos.length) (hn:2*c.cells.length+2<=n):
 ∃ l,QB n c q pos pos.length lost=some (true,l)/\ B3 c pos lost c.cells.length (XO c pos) l:=by
 have lt: ∀ i,i<c.cells.length -> ((i:Nat):Int)<((c.cells.length:Nat):Int):=fun i hi=>by omega
 have S:=HM (fun n (s:Int×Int) i=>Jd c q pos pos.length lost n (.l1 s.1 s.2 i)) c.cells.length (c.cells.length+2)
  (fun i s=>(∀ j,tb s.1 j=true↔∃ a,a<i/\ Sg c pos a j)/\ (∀ j,tb s.2 j=true↔∃ a b,a<b/\ b<i/\ Sg c pos a j/\ Sg c pos b j))
  (fun n i s _ hi hI=>?_) (n:=n) (s:=(0,0)) (by omega) ?_
 ·obtain ⟨n1,⟨o,t⟩,GP,_,e1,ho,ht⟩:=S;obtain ⟨n2,rfl⟩: ∃ n2,n1=n2+1:=⟨n1-1,by omega⟩
  have T:=HM (fun n (s:List Int) i=>Jd c q pos pos.length lost n (.l2 o t i s)) c.cells.length 1
   (fun i s=>B3 c pos lost i (XO c pos) s) (fun n i s Gl hi hI=>?_) (n:=n2) (s:=lost) (by omega) (B3.zero hl)
  ·obtain ⟨n3,l,Lu,_,e2,hL⟩:=T;obtain ⟨n4,rfl⟩: ∃ n4,n3=n4+1:=⟨n3-1,by omega⟩;refine ⟨l,?_,hL⟩;unfold QB nB;refine e1.trans ?_
   show Tj n2 (Jd c q pos pos.length lost n2) c q pos pos.length lost o t (c.cells.length:Int)=_
   unfold Tj;rw [zAC (by omega),zAH];refine e2.trans ?_
   show Ti n4 (Jd c q pos pos.length lost n4) c q pos pos.length lost o t (c.cells.length:Int) l=_
   unfold Ti;rw [zAC (by omega),zAH]
  ·have hc:=W.cells i hi;have hr:=W.r64 hi
   show ∃ s',Ti n (Jd c q pos pos.length lost n) c q pos pos.length lost o t (i:Int) s=_/\ _
   unfold Ti;rw [zAJ (lt i hi),zAI];simp only [zAL];rw [zAE ⟨⟨by omega,lt i hi⟩,hc,hr.1⟩];have sg:(bits .and .i64 (pos.getD (c.cells.getD i 0).toNat 0) (pos.getD (c.cells.getD i 0).toNat 0-1)==0)=Q3 (BN c pos i):=rfl;rw [sg];cases hs:Q3 (BN c pos i)
   ·rw [zAH];obtain ⟨l',h1,h2,h3⟩:=KL (n:=n) (ss:=o) (c:=c) (q:=q) hc.1 hc.2 hI.1;rw [h1,zAF,zAE hr.2];refine ⟨l',rfl,hI.step h2 fun j x=>?_⟩;rw [h3,zAz,zAN,zAN,zAv,ho];constructor
    ·rintro (h | ⟨rfl,h4,b,hb,h5⟩)
     ·exact .inl h
     ·refine .inr ⟨rfl,h4,b,hb,?_,h5⟩;rintro rfl;rw [h5.1] at hs;cases hs
    ·rintro (h | ⟨rfl,h4,b,hb,_,h5⟩)
     ·exact .inl h
     ·exact .inr ⟨rfl,h4,b,hb,h5⟩
   ·rw [zAI];obtain ⟨l',h1,h2,h3⟩:=KL (n:=n) (ss:=bits .or .i64 (bits .andNot .i64 o (pos.getD (c.cells.getD i 0).toNat 0)) t) (c:=c) (q:=q) hc.1 hc.2 hI.1;rw [h1,zAF,zAE hr.2];refine ⟨l',rfl,hI.step h2 fun j x=>?_⟩;rw [h3,zAz,zAN,zAN,zAv,Jt,Uh,zAz,zAN,ht];constructor
    ·rintro (h | ⟨rfl,h4,⟨_,h5⟩ | ⟨x1,y1,h6,h7,h8,h9⟩⟩)
     ·exact .inl h
     ·rw [h4] at h5;cases h5
     ·refine .inr ⟨rfl,h4,?_⟩
      by_cases e:x1=i
      ·exact ⟨y1,h7,by omega,h9⟩
      ·exact ⟨x1,by omega,e,h8⟩
    ·rintro (h | ⟨rfl,h4,b,hb,h5,h6⟩)
     ·exact .inl h
     ·refine .inr ⟨rfl,h4,.inr ?_⟩;rcases Nat.lt_or_gt_of_ne h5 with h5 | h5
      ·exact ⟨b,i,h5,hi,h6,hs,h4⟩
      ·exact ⟨i,b,h5,hb,⟨hs,h4⟩,h6⟩
 ·obtain ⟨o,t⟩:=s;obtain ⟨h1,h2⟩:=hI;simp only at h1 h2;have hc:=W.cells i hi;have hr:=W.r64 hi
  show ∃ s',Tj n (Jd c q pos pos.length lost n) c q pos pos.length lost o t (i:Int)=_/\ _
  unfold Tj;rw [zAJ (lt i hi),zAI];simp only [zAL];rw [zAE ⟨⟨by omega,lt i hi⟩,hc,hr.1⟩];have sg:(bits .and .i64 (pos.getD (c.cells.getD i 0).toNat 0) (pos.getD (c.cells.getD i 0).toNat 0-1)==0)=Q3 (BN c pos i):=rfl;rw [sg];cases hs:Q3 (BN c pos i)
  ·rw [zAH,zAE hr.2];refine ⟨(o,t),rfl,fun j=>?_,fun j=>?_⟩
   ·rw [h1];constructor
    ·rintro ⟨a,ha,h⟩;exact ⟨a,by omega,h⟩
    ·rintro ⟨a,ha,h⟩;rcases zAc.1 ha with ha | rfl
     ·exact ⟨a,ha,h⟩
     ·rw [h.1] at hs;cases hs
   ·rw [h2];constructor
    ·rintro ⟨a,b,H4,hb,h⟩;exact ⟨a,b,H4,by omega,h⟩
    ·rintro ⟨a,b,H4,hb,h⟩;rcases zAc.1 hb with hb | rfl
     ·exact ⟨a,b,H4,hb,h⟩
     ·rw [h.2.1] at hs;cases hs
  ·rw [zAI,zAE hr.2];refine ⟨(bits .or .i64 o (BN c pos i),bits .or .i64 t (bits .and .i64 o (BN c pos i))),rfl,fun j=>?_,fun j=>?_⟩
   ·rw [Jt,zAz,h1];constructor
    ·rintro (⟨a,ha,h⟩ | h)
     ·exact ⟨a,by omega,h⟩
     ·exact ⟨i,by omega,hs,h⟩
    ·rintro ⟨a,ha,h⟩;rcases zAc.1 ha with ha | rfl
     ·exact .inl ⟨a,ha,h⟩
     ·exact .inr h.2
   ·rw [Jt,Ok,zAz,zAN,h1,h2];constructor
    ·rintro (⟨a,b,H4,hb,h⟩ | ⟨⟨a,ha,h⟩,h3⟩)
     ·exact ⟨a,b,H4,by omega,h⟩
     ·exact ⟨a,i,ha,by omega,h,hs,h3⟩
    ·rintro ⟨a,b,H4,hb,h,h3⟩;rcases zAc.1 hb with hb | rfl
     ·exact .inl ⟨a,b,H4,hb,h,h3⟩
     ·exact .inr ⟨⟨a,H4,h⟩,h3.2⟩
 ·exact ⟨fun j=>⟨fun h=>absurd h Mi,fun ⟨a,ha,_⟩=>absurd ha (zAo a)⟩,fun j=>⟨fun h=>absurd h Mi,fun ⟨a,b,_,hb,_⟩=>absurd hb (zAo b)⟩⟩
end
end Go.Proofs.YtkjbblkieglmlaaGreatDoor
namespace Go.Proofs
open Go.Shelf
def Tryz.lays189_ren:Go.Shelf.Ren:=⟨fun | 189=>184 | 125=>186 | 257=>185 | 128=>196 | 129=>197 | 294=>187 | 295=>188 | 296=>189 | 297=>190 | 298=>191 | 299=>192 | 216=>193 | 300=>194 | 301=>195 | 328=>198 | 329=>199 | 330=>200 | 331=>201 | 332=>202 | 215=>203 | 343=>204 | n=>n,fun | 28=>22 | 3=>3 | 46=>115 | 0=>0 | 51=>184 | 53=>127 | 4=>4 | 183=>192 | 182=>191 | 131=>195 | 5=>5 | 9=>9 | 218=>197 | 222=>201 | 228=>203 | 229=>58 | n=>n,fun | n=>n⟩
theorem Tryz.lays189:Go.Proofs.Lays.n189 Tryz.prog Tryz.lays189_ren:={
 mixed:=by kernel_rfl
 f125:=Tryz.func186.trans (congrArg some (by kernel_rfl))
 f128:=Tryz.func196.trans (congrArg some (by kernel_rfl))
 f129:=Tryz.func197.trans (congrArg some (by kernel_rfl))
 f189:=Tryz.func184.trans (congrArg some (by kernel_rfl))
 f215:=Tryz.func203.trans (congrArg some (by kernel_rfl))
 f216:=Tryz.func193.trans (congrArg some (by kernel_rfl))
 f257:=Tryz.func185.trans (congrArg some (by kernel_rfl))
 f294:=Tryz.func187.trans (congrArg some (by kernel_rfl))
 f295:=Tryz.func188.trans (congrArg some (by kernel_rfl))
 f296:=Tryz.func189.trans (congrArg some (by kernel_rfl))
 f297:=Tryz.func190.trans (congrArg some (by kernel_rfl))
 f298:=Tryz.func191.trans (congrArg some (by kernel_rfl))
 f299:=Tryz.func192.trans (congrArg some (by kernel_rfl))
 f300:=Tryz.func194.trans (congrArg some (by kernel_rfl))
 f301:=Tryz.func195.trans (congrArg some (by kernel_rfl))
 f328:=Tryz.func198.trans (congrArg some (by kernel_rfl))
 f329:=Tryz.func199.trans (congrArg some (by kernel_rfl))
 f330:=Tryz.func200.trans (congrArg some (by kernel_rfl))
 f331:=Tryz.func201.trans (congrArg some (by kernel_rfl))
 f332:=Tryz.func202.trans (congrArg some (by kernel_rfl))
 f343:=Tryz.func204.trans (congrArg some (by kernel_rfl))
 t0:=Tryz.underlying0
 a0:=Tryz.isAgg0
 z0:=Tryz.sizeOf0
 v0:=Tryz.zeroValue0
 t3:=Tryz.underlying3
 a3:=Tryz.isAgg3
 z3:=Tryz.sizeOf3
 v3:=Tryz.zeroValue3
 t4:=Tryz.underlying4
 a4:=Tryz.isAgg4
 z4:=Tryz.sizeOf4
 v4:=Tryz.zeroValue4
 t5:=Tryz.underlying5
 a5:=Tryz.isAgg5
 z5:=Tryz.sizeOf5
 v5:=Tryz.zeroValue5
 t9:=Tryz.underlying9
 a9:=Tryz.isAgg9
 z9:=Tryz.sizeOf9
 v9:=Tryz.zeroValue9
 t28:=Tryz.underlying22
 a28:=Tryz.isAgg22
 z28:=Tryz.sizeOf22
 v28:=Tryz.zeroValue22
 t46:=Tryz.underlying115
 a46:=Tryz.isAgg115
 z46:=Tryz.sizeOf115
 v46:=Tryz.zeroValue115
 t51:=Tryz.underlying184
 a51:=Tryz.isAgg184
 z51:=Tryz.sizeOf184
 v51:=Tryz.zeroValue184
 t53:=Tryz.underlying127
 a53:=Tryz.isAgg127
 z53:=Tryz.sizeOf127
 v53:=Tryz.zeroValue127
 t131:=Tryz.underlying195
 a131:=Tryz.isAgg195
 z131:=Tryz.sizeOf195
 v131:=Tryz.zeroValue195
 t182:=Tryz.underlying191
 a182:=Tryz.isAgg191
 z182:=Tryz.sizeOf191
 v182:=Tryz.zeroValue191
 t183:=Tryz.underlying192
 a183:=Tryz.isAgg192
 z183:=Tryz.sizeOf192
 v183:=Tryz.zeroValue192
 t218:=Tryz.underlying197
 a218:=Tryz.isAgg197
 z218:=Tryz.sizeOf197
 v218:=Tryz.zeroValue197
 t222:=Tryz.underlying201
 a222:=Tryz.isAgg201
 z222:=Tryz.sizeOf201
 v222:=Tryz.zeroValue201
 t228:=Tryz.underlying203
 a228:=Tryz.isAgg203
 z228:=Tryz.sizeOf203
 v228:=Tryz.zeroValue203
 t229:=Tryz.underlying58
 a229:=Tryz.isAgg58
 z229:=Tryz.sizeOf58
 v229:=Tryz.zeroValue58 }
open Go.Sort Go.RowKit in
theorem Tryz.slices_Sort_int (blk off cap:Nat) (zs:List Int) (w:World) (hH:Holds (Value.int .i64) w blk off zs.toArray) (bT:blk<w.heap.size) (Ay:zs.length<4611686018427387904):
 Calls Tryz.prog 184 #[.slice (some ⟨blk,off,none⟩) zs.length cap] w fun e w'=>
  e= .returned (.tuple #[])/\ ∃ n os,w'=grow (putRow (Value.int .i64) (Sort.ahead w n) blk off (zs.mergeSort fun x y=>decide (x<=y)).toArray) os:=Any.slices_Sort_int Tryz.lays189 blk off cap zs w hH bT Ay
end Go.Proofs
namespace Go.Proofs.YtkjbblkieglmlaaGreatDoor
abbrev zFi:=@List.pairwise_cons
end Go.Proofs.YtkjbblkieglmlaaGreatDoor
namespace Go.Proofs.YtkjbblkieglmlaaGreatDoor
open Go.RowKit
def PW (a:Int):List Int -> List Int
 | []=>[a]
 | b::l=>if a<=b then a::b::l else b::PW a l
def HB:List Int -> List Int
 | []=>[]
 | a::l=>PW a (HB l)
theorem aN (a:Int): ∀ l:List Int,(PW a l).Perm (a::l)
 | []=>zFp _
 | b::l=>by
  unfold PW;split
  ·exact zFp _
  ·exact ((aN a l).cons b).trans (List.Perm.swap a b l)
theorem Ur: ∀ l:List Int,(HB l).Perm l
 | []=>zFp _
 | a::l=>(aN a _).trans ((Ur l).cons a)
theorem kO (a:Int): ∀ l:List Int,l.Pairwise (· <= ·) -> (PW a l).Pairwise (· <= ·)
 | [],_=>List.pairwise_singleton _ _
 | b::l,h=>by
  have h':=zFi.1 h;unfold PW;split
  ·rename_i H4;refine zFi.2 ⟨fun x hx=>?_,h⟩;rcases zA3.1 hx with rfl | hx
   ·exact H4
   ·exact Int.le_trans H4 (h'.1 x hx)
  ·rename_i H4;refine zFi.2 ⟨fun x hx=>?_,kO a l h'.2⟩;rcases zA3.1 ((aN a l).mem_iff.1 hx) with rfl | hx
   ·omega
   ·exact h'.1 x hx
theorem fm: ∀ l:List Int,(HB l).Pairwise (· <= ·)
 | []=>List.Pairwise.nil
 | a::l=>kO a _ (fm l)
theorem p9 (l:List Int):(l.mergeSort fun x y=>decide (x<=y))=HB l:=by
 refine List.Perm.eq_of_pairwise (le:=(· <= ·)) (fun a b _ _ h1 h2=>Int.le_antisymm h1 h2) ?_ (fm l) ((List.mergeSort_perm l _).trans (Ur l).symm);have:=List.pairwise_mergeSort (le:=fun x y:Int=>decide (x<=y)) (fun a b c h1 h2=>by simp at h1 h2 ⊢;omega) (fun a b=>by simp;omega) l;exact this.imp fun h=>by simpa using h
theorem Qt (l:List Int):(HB l).length=l.length:=(Ur l).length_eq
theorem zAY {w:World} {b o:Nat} {l l':List Int} {cs:Array Value} {t:TypeId} {z:Nat×Nat} (h:w.heap[b]? =some (.cells cs t z)) (hl:l.length=l'.length) (n:Nat) (os:Array Obj):
 ∃ EJ,(Sort.grow (Sort.putRow (Value.int .i64) (Sort.ahead w n) b o l'.toArray) os).heap[b]? =some (.cells EJ t z)/\ EJ.size=cs.size/\ ∀ j,j<l.length -> o+j<cs.size -> EJ[o+j]? =some (.int .i64 (l'.getD j 0)):=by
 have hb:b<w.heap.size:=(zAK.1 h).1;refine ⟨Sort.putCells (Value.int .i64) o l'.toArray cs,?_,by simp [Sort.putCells],fun j hj hs=>?_⟩
 ·simp only [Sort.grow,Sort.putRow,Sort.mapBlock,Sort.ahead];rw [zEX (by simpa using hb),zE2,zAE rfl,h];rfl
 ·simp only [Sort.putCells,Array.getElem?_mapIdx];rw [zA0 hs];simp only [zA2];rw [zAE ⟨by omega,by simp;omega⟩];have:o+j-o=j:=by omega
  rw [this];have BT:j<l'.length:=by omega
  simp [BT,u8]
theorem om {w:World} {b o:Nat} (hb:b<w.heap.size) (d:Array Int) (n:Nat) (os:Array Obj):AP (fun k=>k=b) w (Sort.grow (Sort.putRow (Value.int .i64) (Sort.ahead w n) b o d) os):=by
 refine ⟨rfl,rfl,rfl,by simp [Sort.ahead],fun k hk Am=>?_⟩;simp only [Sort.grow,Sort.putRow,Sort.mapBlock,Sort.ahead];rw [zEX (by simpa using hk),zE2,zAU (fun e=>Am e.symm)]
theorem p8 (l:List Int) {n:Nat} (hn:n=l.length) (z8:l.length<=BA):ES Tryz.prog GG 184 [.msl 0 1 0 n] [some (.ints l)] (.tup 0 fun j=>([]:List DV).getD j .any) [some (.ints (HB l))] false:=by
 subst hn;refine ⟨⟨_,Tryz.func184,by decide,rfl⟩,fun N ρ w args HR Cb=>?_⟩;obtain ⟨p,hp,C8⟩:=HR.obj 0 _ rfl;have C8:AX w p l.length fun j u=>u= .int .i64 (l.getD j 0):=C8
 have h0:=Cb.2 0 (by simp);obtain ⟨p',cap,BF,hv,L2,Lv,WU⟩:=h0;have ep:p'=p:=zAR (BF.symm.trans hp);subst ep;have Ay:args.size=1:=by have:=Cb.1;simpa using this.symm
 have ha:args= #[.slice (some ⟨p'.blk,p'.off,none⟩) l.length cap]:=by
  apply Array.ext
  ·simp [Ay]
  ·intro i h1 h2;have:i=0:=by omega
   subst this;have e:args.getD 0 undef=args[0]:=by simp [Array.getD,Ay]
   rw [e] at hv;rw [hv];simp
 have hH:Sort.Holds (Value.int .i64) w p'.blk p'.off l.toArray:=fun j hj=>by
  have hj:j<l.length:=by simpa using hj
  obtain ⟨u,c1,c2⟩:=C8.cell hj;refine ⟨by rw [c1,c2];simp [hj,u8],C8.frozen _⟩
 obtain ⟨Ey,cs,t,DW,Cp,Hz,_⟩:=C8;have hb:p'.blk<w.heap.size:=(zAK.1 DW).1;subst ha;refine (Tryz.slices_Sort_int p'.blk p'.off cap l w hH hb (by unfold BA at z8;omega)).mono ?_;rintro e w' ⟨rfl,m,os,rfl⟩;rw [p9];obtain ⟨EJ,k1,k2,k3⟩:=zAY (o:=p'.off) DW (Qt l).symm m os;have hu:AP p'.foot w (Sort.grow (Sort.putRow (Value.int .i64) (Sort.ahead w m) p'.blk p'.off (HB l).toArray) os):=by rw [Ey];exact om (o:=p'.off) hb (HB l).toArray m os
 show ∃ v,Ending.returned (.tuple #[])=Ending.returned v/\ CV Tryz.prog GG N _ ρ w false _ _ v (Sort.grow (Sort.putRow (Value.int .i64) (Sort.ahead w m) p'.blk p'.off (HB l).toArray) os)
 refine ⟨_,rfl,⟨⟨ρ,HR.write (o':=.ints (HB l)) rfl hp hu (fun b hb=>?_) ?_,⟨#[],rfl,rfl,fun j hj=>absurd hj (zAo j)⟩,A6.write rfl hp hu,fun _ _ h=>h⟩,fun h=>by cases h⟩⟩
 ·rw [Ey] at hb;exact .cells (c:=EJ) (t:=t) (z:=(0,0)) (by rw [show b=p'.blk from hb];exact k1)
 ·refine ⟨Ey,EJ,t,k1,by rw [k2,Qt];exact Cp,by rw [k2];exact Hz,fun j hj=>?_⟩;rw [Qt] at hj;exact ⟨_,k3 j hj (by omega),rfl⟩
end Go.Proofs.YtkjbblkieglmlaaGreatDoor
namespace Go.Proofs.YtkjbblkieglmlaaGreatDoor
open Go.RowKit
set_option maxRecDepth 100000
set_option maxHeartbeats 40000000
inductive Kt where
 | s0
 | s1 (En:Nat) (De:List Int)
def oC:Kt -> DH
 | .s0=>[none,some (.cells [.nils])]
 | .s1 En De=>[none,some (.cells [.msl 2 1 0 En]),some (.ints De)]
def Xq (n:Nat) (e6:Int):Option Kt:=
 if (0=0/\ 1=([e6]:List Int).length)/\ 0<([e6]:List Int).length/\ ([e6]:List Int).length<=BA then
  some (.s1 (([e6]:List Int).length) ([e6]:List Int))
 else none
def Xp (n:Nat) (e6:Int) (En:Nat) (De:List Int):Option Kt:=
 if (0=0/\ 1=([e6]:List Int).length)/\ (0=0/\ En=De.length)/\ De.length+([e6]:List Int).length<=BA then
  some (.s1 (De.length+([e6]:List Int).length) (De++([e6]:List Int)))
 else none
def dJ (n:Nat) (e6:Int):Kt -> Option Kt
 | .s0=>Xq n e6
 | .s1 En De=>Xp n e6 En De
def In (n:Nat) (e6:Int) (s:Kt):Option Kt:=dJ n e6 s
theorem zDX (n:Nat) (l B:Nat) (N:Yd 2) (e6:Int) (s:Kt) (r:Kt) (h:In n e6 s=some r):TA l B N (Cd 2 [] 0 (oC r)) Tryz.f76 6 ⟨AG 13 [(2,.ref 1 0),(6,.it 0),(7,.i e6)],oC s⟩:=by
 cases s with
 | s0=>
  replace h:Xq n e6=some r:=h;unfold Xq at h;refine ag AB [0,1] H0 (AG 13 [(2,.ref 1 0),(5,.i e6)]) [none,some (.cells [.nils])] fun N=>?_
  revert r;apply gO;exact gi (jt (lF fun p=>rr AB [0,1,3] rfl p))
 | s1 En De=>
  replace h:Xp n e6 En De=some r:=h;unfold Xp at h;refine ag AB [0,1,2] H0 (AG 13 [(2,.ref 1 0),(5,.i e6)]) [none,some (.cells [.msl 2 1 0 En]),some (.ints De)] fun N=>?_
  revert r;apply gO;exact gi (jt (lF fun p=>rr AB [0,1,4] rfl p))
def dI (n:Nat) (l:List Int):Option ((List Int)):=
 (Bl (In n) l (.s0)).bind fun y1=>
  match y1 with
  | .s0=>
   none
  | .s1 Of Mc=>
   if Of=Mc.length then
    some Mc
   else none
def UE (n:Nat) (l:List Int):Option ((List Int)):=dI n l
theorem zDW {n:Nat} {l:List Int} {r:(List Int)} (h:UE n l=some r):EQ 76 [.nils,.it 0] [some (.iter ((l).map BP))] (.msl 1 1 0 r.length) [none,some (.ints r)] false:=by
 unfold UE dI at h;refine ot Tryz.func76 fun B N=>?_
 revert r;apply gO
 exact cn fun y1 A8=>fun p r h=>by
  refine gs AB [0,1] p (Fg (AW Tryz.f76) 6 []) (AG 13 [(2,.ref 1 0),(6,.it 0)]) [some (.iter ((l).map BP)),some (.cells [.nils])] ?_;refine r0 0 6 #[7] BP 2 A8 (zDX n) ?_;cases y1 with
  | s0=>
   dsimp only at h
   revert r;apply gO;exact nO
  | s1 Of Mc=>
   dsimp only at h
   revert r;apply gO;exact gn fun g0=>lF fun p=>el AB [4] [0,2] p [] H0 [.msl 1 1 0 Of] (AR.mslN g0)
def cZ (n:Nat) (l:List Int):Option ((List Int)):=
 (UE n l).bind fun y1=>
  some y1
def Xc (n:Nat) (l:List Int):Option ((List Int)):=cZ n l
theorem zCq {n:Nat} {l:List Int} {r:(List Int)} (h:Xc n l=some r):EQ 50 [.it 0] [some (.iter ((l).map BP))] (.msl 1 1 0 r.length) [none,some (.ints r)] false:=by
 unfold Xc cZ at h;refine ot Tryz.func50 fun B N=>?_
 revert r;apply gO;exact ce zDW [0] [some (.iter ((l).map BP))] fun y1=>lF fun p=>el AB [2] [0,1] p [] H0 [.msl 1 1 0 y1.length] (AR.mslN rfl)
def Ye (n:Nat) (l:List Int):Option ((List Int)):=
 (Xc n l).bind fun y1=>
  if y1.length<=BA then
   if y1.length=(HB y1).length then
    some (HB y1)
   else none
  else none
def Mq (n:Nat) (l:List Int):Option ((List Int)):=Ye n l
theorem p6 {n:Nat} {l:List Int} {r:(List Int)} (h:Mq n l=some r):EQ 183 [.it 0] [some (.iter ((l).map BP))] (.msl 1 1 0 r.length) [none,some (.ints r)] false:=by
 unfold Mq Ye at h;refine ot Tryz.func183 fun B N=>?_
 revert r;apply gO;exact ce zCq [0] [some (.iter ((l).map BP))] fun y1=>gn fun g0=>jc (em (p8 y1 (n:=y1.length) (Eq.refl y1.length) g0) [1] [none,some (.ints y1)]) (gn fun g1=>lF fun p=>el AB [2] [0,1] p [] H0 [.msl 1 1 0 y1.length] (AR.mslN g1))
def nN (n:Nat) (g_:List (List Int)) (AT:List Bool) (start:Int):Option ((List Int)×Int):=
 (JX n g_ ([AT]:List (List Bool))).bind fun y1=>
  bif (y1 != 0) then
   some (([]:List Int),y1)
  else
   bif (decide (start<0)) then
    some (([]:List Int),1)
   else
    bif (decide (start>=(g_.length:Int))) then
     some (([]:List Int),1)
    else
     if 0<=start/\ start<(AT.length:Int) then
      bif (!(AT.getD ((start).toNat) false)) then
       some (([]:List Int),1)
      else
       (GC n g_ start AT).bind fun y2=>
        (Mq n y2).bind fun y3=>
         some (y3,0)
     else none
def QJ (n:Nat) (g_:List (List Int)) (AT:List Bool) (start:Int):Option ((List Int)×Int):=nN n g_ AT start
theorem zCo {n:Nat} {g_:List (List Int)} {AT:List Bool} {start:Int} {r:(List Int)×Int} (h:QJ n g_ AT start=some r):EQ 179 [.sl 1 g_.length (AQ BS g_),.bools AT,.i start] [] (.tup 2 (L1 [.ints r.1,.i r.2])) [] true:=by
 refine ot Tryz.func179 fun B N=>?_
 revert r;apply gO;exact ja 10 0 1 (Fj (c:=QO) (L:=([AT]:List (List Bool))) (vals:=[.bools AT]) rfl ⟨⟨_,rfl,⟨A5,trivial⟩⟩,trivial⟩) (jz 10 0 (jg (Eq.refl 1) (cf Ws [none] fun y1=>bi 13 (lF fun p=>el AB [6,7] [] p [] H0 [.nils,.i y1] (AR.tupL (l:=[.nils,.i y1]) (l':=[.ints ([]:List Int),.i y1]) rfl ⟨AR.ints_nil,A5,trivial⟩)) (bi 16 (lF fun p=>el AB [6,7] [] p [] H0 [.nils,.i 1] (AR.tupL (l:=[.nils,.i 1]) (l':=[.ints ([]:List Int),.i 1]) rfl ⟨AR.ints_nil,A5,trivial⟩)) (bi 21 (lF fun p=>el AB [6,7] [] p [] H0 [.nils,.i 1] (AR.tupL (l:=[.nils,.i 1]) (l':=[.ints ([]:List Int),.i 1]) rfl ⟨AR.ints_nil,A5,trivial⟩)) (gi (bi 28 (lF fun p=>el AB [6,7] [] p [] H0 [.nils,.i 1] (AR.tupL (l:=[.nils,.i 1]) (l':=[.ints ([]:List Int),.i 1]) rfl ⟨AR.ints_nil,A5,trivial⟩)) (cn fun y2 Bx=>jc (ZF Bx [none]) (ce p6 [1] [none,some (.iter ((y2).map BP))] fun y3=>lF fun p=>ez AB [6,7] [2] p [0] (H0.g (Eq.refl y3.length)))))))))))
def fF:ST:=.rd 0 (.rd 1 (.ef 2 (.ef 3 (.fin [] [4,5]) (.no)) (.no)))
theorem rH:Bp (Ah Tryz.f103 11) [2] fF:=by unfold Bp;kernel_rfl
def LI:Bi:=fun i=>match i with
 | 11=>.tre [2] fF
 | _=>.no
def zY (g_:List (List Int)) (CO:Int) (y1 o1:List Int):DH:=[some (.cells [.msl 3 1 0 g_.length]),some (.cells [.i (CO+1)]),some (.iter ((y1).map BP)),some (.ints o1)]
def eL (g_:List (List Int)) (o1:List Int) (CO:Int):St:=⟨(AG 42 [(4,.ref 0 0),(5,.ref 2 0)]),([some (.cells [.msl 1 1 0 g_.length]),some (.ints o1),some (.cells [.i CO])]:DH)⟩
inductive LZ where
 | s0 (I5:List Int)
def im (g_:List (List Int)) (AT:List Bool) (x13 CO:Int):LZ -> DH
 | .s0 I5=>[some (.cells [.msl 3 1 0 g_.length]),some (.cells [.i (CO+1)]),none,some (.ints I5)]
def VS (n:Nat) (g_:List (List Int)) (AT:List Bool) (x13 CO HU:Int) (I5:List Int):Option LZ:=
 if (0<=HU/\ HU<(g_.length:Int))/\ 0+((HU).toNat)<I5.length then
  some (.s0 (I5.set (0+((HU).toNat)) (CO+1)))
 else none
def il (n:Nat) (g_:List (List Int)) (AT:List Bool) (x13 CO HU:Int):LZ -> Option LZ
 | .s0 I5=>VS n g_ AT x13 CO HU I5
def NI (n:Nat) (g_:List (List Int)) (AT:List Bool) (x13 CO HU:Int) (s:LZ):Option LZ:=il n g_ AT x13 CO HU s
theorem uV (n:Nat) (g_:List (List Int)) (AT:List Bool) (x13 CO:Int) (l B:Nat) (N:Yd 3) (HU:Int) (s:LZ) (r:LZ) (h:NI n g_ AT x13 CO HU s=some r):TA l B N (Cd 3 [] 0 (im g_ AT x13 CO r)) Tryz.f103 33 ⟨AG 42 [(0,.sl 1 g_.length (AQ BS g_)),(1,.bools AT),(4,.ref 0 0),(5,.ref 1 0),(12,.i (g_.length:Int)),(13,.i x13),(33,.it 2),(34,.i HU)],im g_ AT x13 CO s⟩:=by
 cases s with
 | s0 I5=>
  replace h:VS n g_ AT x13 CO HU I5=some r:=h;unfold VS at h;refine ag LI [0,1,2,3] H0 (AG 42 [(4,.ref 0 0),(5,.ref 1 0),(7,.i HU)]) [some (.cells [.msl 3 1 0 g_.length]),some (.cells [.i (CO+1)]),none,some (.ints I5)] fun N=>?_
  revert r;apply gO;exact gc (gi (gi (lF fun p=>rr LI [0,1,2,3] rfl p)))
inductive VT where
 | l1 (x13:Int) (o1:List Int) (CO:Int)
def Ro (n:Nat) (self:VT -> Option ((List Int)×Int)) (g_:List (List Int)) (AT:List Bool) (x13:Int) (o1:List Int) (CO:Int):Option ((List Int)×Int):=
 bif (decide (x13<(g_.length:Int))) then
  if 0<=x13/\ x13<(AT.length:Int) then
   bif (!(AT.getD ((x13).toNat) false)) then
    if AL (x13+1) then
     self (.l1 (x13+1) o1 CO)
    else none
   else
    if (0<=x13/\ x13<(g_.length:Int))/\ 0+((x13).toNat)<o1.length then
     bif (decide ((o1.getD (0+((x13).toNat)) 0)>0)) then
      if AL (x13+1) then
       self (.l1 (x13+1) o1 CO)
      else none
     else
      if AL (CO+1) then
       (GC n g_ x13 AT).bind fun y1=>
        (Bl (NI n g_ AT x13 CO) y1 (.s0 o1)).bind fun y2=>
         match y2 with
         | .s0 EB=>
          if AL (x13+1) then
           self (.l1 (x13+1) EB (CO+1))
          else none
      else none
    else none
  else none
 else
  if g_.length=o1.length then
   some (o1,CO)
  else none
def ik (n:Nat) (self:VT -> Option ((List Int)×Int)) (g_:List (List Int)) (AT:List Bool):Option ((List Int)×Int):=
 if ((g_.length:Int):Int)=(g_.length:Int)/\ 0<=(g_.length:Int)/\ ((g_.length:Int):Int)<=1000000000000 then
  self (.l1 0 (List.replicate g_.length (0:Int)) 0)
 else none
def PB (g_:List (List Int)) (AT:List Bool):Nat -> VT -> Option ((List Int)×Int)
 | 0,_=>none
 | n+1,.l1 x13 o1 CO=>Ro n (PB g_ AT n) g_ AT x13 o1 CO
def parts (n:Nat) (g_:List (List Int)) (AT:List Bool):Option ((List Int)×Int):=ik n (PB g_ AT n) g_ AT
def uW (n B:Nat) (N:Yd 0) (g_:List (List Int)) (AT:List Bool) (r:(List Int)×Int):VT -> Prop
 | .l1 x13 o1 CO=>∀ m0:Nat,n<=m0 -> TW B N (FQ Tryz.f103 0 (.tup 2 (L1 [.ints r.1,.i r.2])) []) (A3 m0 (BB (AW Tryz.f103) 0 [])) ⟨AG 42 [(0,.sl 1 g_.length (AQ BS g_)),(1,.bools AT),(4,.ref 0 0),(5,.ref 2 0),(12,.i (g_.length:Int)),(13,.i x13)],[some (.cells [.msl 1 1 0 g_.length]),some (.ints o1),some (.cells [.i CO])]⟩
theorem uX (B:Nat) (N:Yd 0) (g_:List (List Int)) (AT:List Bool):Al (PB g_ AT) (uW · B N g_ AT):=ia (fun _=>rfl) fun n AJ pt r h=>by
 cases pt
 case l1 x13 o1 CO=>
  intro m0 AE;refine rd AE fun m0 AE=>?_
  revert r;apply gO
  exact bi 14 (gi (bi 20 (gw 39 (lG LI [0,1,2] (AJ _ _ · m0 AE))) (gc (gi (gi (bi 26 (gw 39 (lG LI [0,1,2] (AJ _ _ · m0 AE))) (gw 29 (jt (cn fun y1 A8=>jc (ZF A8 [some (.cells [.msl 1 1 0 g_.length]),some (.ints o1),some (.cells [.i (CO+1)])]) (cn fun y2 Bx=>fun p r h=>by
   refine gs LI [0,2,3,1] p (Fg (AW Tryz.f103) 33 [m0]) (AG 42 [(0,.sl 1 g_.length (AQ BS g_)),(1,.bools AT),(4,.ref 0 0),(5,.ref 1 0),(12,.i (g_.length:Int)),(13,.i x13),(33,.it 2)]) (zY g_ CO y1 o1) ?_;refine r0 2 33 #[34] BP 3 Bx (uV n g_ AT x13 CO) ?_;cases y2 with
   | s0 EB=>
    dsimp only at h
    revert r;apply gO;exact gw 39 (lG LI [0,3,1] (AJ _ _ · m0 AE)))))))))))) (jg rH (jt (jt (jg (Eq.refl (eL g_ o1 CO)) (gn fun g0=>lF fun p=>ez (tg:=[([(2,0)],(eL g_ o1 CO))]) LI [4,5] [0,1,2] p [1] (H0.g g0))))))
theorem ZX {n:Nat} {g_:List (List Int)} {AT:List Bool} {r:(List Int)×Int} (h:parts n g_ AT=some r):EQ 103 [.sl 1 g_.length (AQ BS g_),.bools AT] [] (.tup 2 (L1 [.ints r.1,.i r.2])) [] true:=by
 refine ot Tryz.func103 fun B N=>?_
 revert r;apply gO;exact gi (jt (lN LI [0,2,1] ((uX B N g_ AT n) _ _ · n Nat.le.refl)))
end Go.Proofs.YtkjbblkieglmlaaGreatDoor
namespace Go.Proofs.YtkjbblkieglmlaaGreatDoor
open Go.RowKit
set_option maxRecDepth 100000
set_option maxHeartbeats 40000000
def X8 (n:Nat) (n_:Int) (inn:List Bool):Option ((List Bool)):=
 (ON n inn).bind fun y1=>
  if (0<=n_/\ n_<(y1.length:Int))/\ 0+((n_).toNat)<y1.length then
   if y1.length=(y1.set (0+((n_).toNat)) false).length then
    some (y1.set (0+((n_).toNat)) false)
   else none
  else none
def Qe (n:Nat) (n_:Int) (inn:List Bool):Option ((List Bool)):=X8 n n_ inn
theorem oa {n:Nat} {n_:Int} {inn:List Bool} {r:(List Bool)} (h:Qe n n_ inn=some r):EQ 180 [.i n_,.fp 1 (L1 [.bools inn])] [] (.msl 0 1 0 r.length) [some (.bools r)] true:=by
 unfold Qe X8 at h;refine ot Tryz.func180 fun B N=>?_
 revert r;apply gO;exact cn fun y1 A8=>jc (ES.snapNew (ds:=[.bools inn]) (nR A8) [] (dO (by kernel_rfl)) rfl) (gc (gi (gi (gn fun g2=>lF fun p=>el AB [3] [0] p [] H0 [.msl 0 1 0 y1.length] (AR.mslN g2)))))
theorem qt:Av (Ah Tryz.f169 16) [] (List.range 7) []:=by unfold Av;kernel_rfl
def HD:Bi:=fun i=>match i with
 | 16=>.ord [] (List.range 7) []
 | _=>.no
def kq (AT CC:List Bool) (AF:Int):DH:=[some (.cells [.bools AT]),some (.cells [.bools CC]),some (.cells [.i AF]),some (.cells [.bool false]),none]
def yk (AT CC:List Bool) (AF:Int):DH:=[some (.cells [.bools AT]),some (.cells [.bools CC]),some (.cells [.i AF]),some (.cells [.bool false]),none,none]
def yj (AT CC:List Bool) (AF:Int) (y3:(List Int)×Int):DH:=[some (.cells [.bools AT]),some (.cells [.bools CC]),some (.cells [.i AF]),some (.cells [.bool false]),none,none,some (.cells [.ints y3.1]),some (.cells [.i 0])]
def yi (CC:List Bool) (AF:Int) (y3:(List Int)×Int) (y4:List Int):DH:=[some (.cells [.bools CC]),some (.cells [.i AF]),some (.cells [.bool false]),some (.cells [.ints y3.1]),some (.cells [.i 0]),some (.iter ((y4).map BP))]
def yh (CC:List Bool) (AF:Int) (HG:Bool) (y3:(List Int)×Int) (GE:Int):DH:=[some (.cells [.bools CC]),some (.cells [.i AF]),some (.cells [.bool HG]),some (.cells [.ints y3.1]),some (.cells [.i GE]),none]
inductive LD where
 | s0 (HG:Bool) (GE:Int)
def ff (CC:List Bool) (AF:Int) (y3:(List Int)×Int):LD -> DH
 | .s0 HG GE=>[some (.cells [.bools CC]),some (.cells [.i AF]),some (.cells [.bool HG]),some (.cells [.ints y3.1]),some (.cells [.i GE]),none]
def Qs (n:Nat) (CC:List Bool) (AF:Int) (y3:(List Int)×Int) (FM:Int) (HG:Bool) (GE:Int):Option (LD×Nat):=
 bif (FM==AF) then
  some (.s0 HG GE,0)
 else
  if 0<=FM/\ FM<(CC.length:Int) then
   bif (!(CC.getD ((FM).toNat) false)) then
    some (.s0 HG GE,0)
   else
    bif (GE==0) then
     if 0<=FM/\ FM<(y3.1.length:Int) then
      some (.s0 HG (y3.1.getD ((FM).toNat) 0),0)
     else none
    else
     if 0<=FM/\ FM<(y3.1.length:Int) then
      bif ((y3.1.getD ((FM).toNat) 0) != GE) then
       some (.s0 true GE,1)
      else
       some (.s0 HG GE,0)
     else none
  else none
def pr (n:Nat) (CC:List Bool) (AF:Int) (y3:(List Int)×Int) (FM:Int):LD -> Option (LD×Nat)
 | .s0 HG GE=>Qs n CC AF y3 FM HG GE
def Hf (n:Nat) (CC:List Bool) (AF:Int) (y3:(List Int)×Int) (FM:Int) (s:LD):Option (LD×Nat):=pr n CC AF y3 FM s
theorem pq (n:Nat) (CC:List Bool) (AF:Int) (y3:(List Int)×Int) (l B:Nat) (N:Yd 6) (FM:Int) (s:LD) (r:LD×Nat) (h:Hf n CC AF y3 FM s=some r):TA l B N (Cd 6 [.exit 0] r.2 (ff CC AF y3 r.1)) Tryz.f169 48 ⟨AG 76 [(6,.ref 0 0),(7,.ref 1 0),(8,.ref 2 0),(11,.ref 3 0),(13,.ref 4 0),(48,.it 5),(49,.i FM)],ff CC AF y3 s⟩:=by
 cases s with
 | s0 HG GE=>
  refine ag HD [0,1,2,3,4,5] H0 (AG 76 [(6,.ref 0 0),(7,.ref 1 0),(8,.ref 2 0),(11,.ref 3 0),(13,.ref 4 0),(14,.i FM)]) (yh CC AF HG y3 GE) fun N=>?_
  revert r;apply gO;exact bi 53 (lF fun p=>rr HD [0,1,2,3,4,5] rfl p) (gi (bi 59 (lF fun p=>rr HD [0,1,2,3,4,5] rfl p) (bi 63 (gi (jt (lF fun p=>rr HD [0,1,2,3,4,5] rfl p))) (jg qt (gi (bi 74 (jt (lF fun p=>rr HD [0,1,2,3,4,5] rfl p)) (lF fun p=>rr HD [0,1,2,3,4,5] rfl p)))))))
def fe (n:Nat) (g_:List (List Int)) (AT CC:List Bool) (AF:Int):Option (Bool×Int):=
 (JX n g_ ([AT,CC]:List (List Bool))).bind fun y1=>
  bif (y1 != 0) then
   some (false,y1)
  else
   bif (decide (AF<0)) then
    some (false,1)
   else
    bif (decide (AF>=(g_.length:Int))) then
     some (false,1)
    else
     if 0<=AF/\ AF<(AT.length:Int) then
      bif (!(AT.getD ((AF).toNat) false)) then
       some (false,0)
      else
       (Qe n AF AT).bind fun y2=>
        (parts n g_ y2).bind fun y3=>
         (GC n g_ AF AT).bind fun y4=>
          (DB (Hf n CC AF y3) y4 (.s0 false 0)).bind fun y5=>
           bif y5.2==0 then
            match y5.1 with
            | .s0 Qc X3=>
             some (Qc,0)
           else
            bif y5.2==1 then
             match y5.1 with
             | .s0 Qc X3=>
              some (Qc,0)
            else
             none
     else none
def Mn (n:Nat) (g_:List (List Int)) (AT CC:List Bool) (AF:Int):Option (Bool×Int):=fe n g_ AT CC AF
theorem po {n:Nat} {g_:List (List Int)} {AT CC:List Bool} {AF:Int} {r:Bool×Int} (h:Mn n g_ AT CC AF=some r):EQ 169 [.sl 1 g_.length (AQ BS g_),.bools AT,.bools CC,.i AF] [] (.tup 2 (L1 [.bool r.1,.i r.2])) [] true:=by
 refine ot Tryz.func169 fun B N=>?_
 revert r;apply gO
 exact ja 18 4 1 (Fj (c:=QO) (L:=([AT,CC]:List (List Bool))) (vals:=[.bools AT,.bools CC]) rfl ⟨⟨_,rfl,⟨A5,trivial⟩⟩,⟨_,rfl,⟨A5,trivial⟩⟩,trivial⟩) (jz 18 4 (jg (Eq.refl 2) (cf Ws (kq AT CC AF) fun _=>bi 21 (jt (lE HD [8,9] [3])) (bi 24 (jt (lE HD [8,9] [3])) (bi 29 (jt (lE HD [8,9] [3])) (gi (bi 35 (jt (lE HD [8,9] [3])) (cn fun y2 Bx=>jc (ES.snapNew (ds:=[.i AF,.ref 0 0]) (oa Bx) (kq AT CC AF) ⟨Ac.plain (by kernel_rfl),(Ac.refL (l:=[.bools AT]) (l0:=[.bools AT]) rfl ⟨Ac.plain (by kernel_rfl),trivial⟩),trivial⟩ rfl) (jz 41 5 (jg (Eq.refl y2.length) (cf ZX (yk AT CC AF) fun y3=>jt (jt (cn fun y4 aW=>jc (ZF aW (yj AT CC AF y3)) (cn fun y5 aV=>fun p r h=>by
  refine gs HD [1,2,3,6,7,8] p (Fg (AW Tryz.f169) 48 []) (AG 76 [(6,.ref 0 0),(7,.ref 1 0),(8,.ref 2 0),(11,.ref 3 0),(13,.ref 4 0),(48,.it 5)]) (yi CC AF y3 y4) ?_;refine rx [.exit 0] 5 48 #[49] BP 6 aV (pq n CC AF y3) fun e he=>?_
  replace h:=Br h;rcases h with ⟨Qb,h⟩ | ⟨Qb,h⟩
  ·rw [eq_of_beq Qb] at he;cases he;revert h;cases y5.1 with
   | s0 Qc X3=>
    intro h
    dsimp only at h
    revert r;apply gO;exact jt (lE HD [8,9] [2])
  ·replace h:=Br h;rcases h with ⟨Qb,h⟩ | ⟨Qb,h⟩
   ·rw [eq_of_beq Qb] at he;cases he;refine Da.exitTo (by kernel_rfl) ?_;revert h;cases y5.1 with
    | s0 Qc X3=>
     intro h
     dsimp only at h
     revert r;apply gO;exact jt (lE HD [8,9] [2])
   ·cases h))))))))))))))
end Go.Proofs.YtkjbblkieglmlaaGreatDoor
namespace Go.Proofs.YtkjbblkieglmlaaGreatDoor
open Go.RowKit
theorem Ae.bindU {R T:Type} {a:Nat -> Option T} {b:Nat -> T -> Option R} {A:T -> Prop} {Q:R -> Prop} (ha:Ae a A) (hb: ∃ M,∀ n,M<=n -> ∀ x,A x -> ∃ r,b n x=some r/\ Q r):Ae (fun n=>(a n).bind (b n)) Q:=by
 obtain ⟨N,ha⟩:=ha;obtain ⟨M,hb⟩:=hb;refine ⟨max N M,fun n hn=>?_⟩;obtain ⟨x,h1,h2⟩:=ha n (by omega);obtain ⟨r,h3,h4⟩:=hb n (by omega) x h2;exact ⟨r,by show (a n).bind (b n)=_;rw [h1,zAF];exact h3,h4⟩
structure IA (g:List (List Int)):Prop where
 ok:Kk g=true
 row: ∀ r∈g,r.length<=LB
theorem IA.gr {g:List (List Int)} (h:IA g):Gr g:=Gr.of h.ok h.row
section
variable {g:List (List Int)} {inn some':List Bool} {s:Int}
theorem mG {sets:List (List Bool)} (hs: ∀ x∈sets,x.length=g.length) (hl:sets.length<=256): ∀ (k i n:Nat),i+k=sets.length -> k+1<=n -> Pp g sets n (.l1 (i:Int))=some 0
 | 0,i,n,e,hn=>by
  obtain ⟨n,rfl⟩: ∃ k,n=k+1:=⟨n-1,by omega⟩
  show TK n (Pp g sets n) g sets i=_
  unfold TK;rw [zAC (by omega),zAH]
 | k+1,i,n,e,hn=>by
  obtain ⟨n,rfl⟩: ∃ k,n=k+1:=⟨n-1,by omega⟩;have hi:i<sets.length:=by omega
  have hm:sets.getD i []∈sets:=by rw [u8,zAM hi];exact zA7 hi
  have e2:(((sets.getD i []).length:Int) != (g.length:Int))=false:=by rw [hs _ hm];simp
  have:=mG hs hl k (i+1) n (by omega) (by omega)
  show TK n (Pp g sets n) g sets i=_
  unfold TK;rw [zAJ (by omega),zAI,zAE ⟨by omega,by omega⟩,zAL,e2,zAH,zAE (As.2 ⟨by omega,by omega⟩)];exact this
theorem Wt (G:IA g) {sets:List (List Bool)} (hs: ∀ x∈sets,x.length=g.length) (hl:sets.length<=256):Ev (fun n=>JX n g sets) 0:=by
 refine ⟨2*G8 g+1+sets.length+1,fun n hn=>?_⟩
 show JX n g sets=some 0
 unfold JX mH;rw [mO G.row (by omega),G.ok];exact mG hs hl sets.length 0 n (by omega) (by omega)
theorem oE {n:Nat}: ∀ (l x:List Int),(x++l).length<=BA -> Bl (In n) l (.s1 x.length x)=some (.s1 (x++l).length (x++l))
 | [],x,h=>by rw [zEk];rfl
 | a::l,x,h=>by
  have e:x++a::l=x++[a]++l:=by simp
  rw [e] at h ⊢;have h2:x.length+1<=BA:=by simp only [zAm,zDv] at h;omega
  have e1:In n a (.s1 x.length x)=some (.s1 (x++[a]).length (x++[a])):=by
   unfold In dJ Xp
   dsimp only
   rw [zAE ⟨⟨rfl,rfl⟩,⟨rfl,rfl⟩,by simpa using h2⟩,zAm]
  show (In n a (.s1 x.length x)).bind (Bl (In n) l)=_
  rw [e1,zAF];exact oE l (x++[a]) h
theorem p7 {n:Nat} {l:List Int} (h0:l≠[]) (hl:l.length<=256):Mq n l=some (HB l):=by
 have L:(1000000000000:Nat)=BA:=rfl;cases l with
 | nil=>exact absurd rfl h0
 | cons a l=>
  have e1:In n a .s0=some (.s1 [a].length [a]):=by
   unfold In dJ Xq
   dsimp only
   rw [zAE ⟨⟨rfl,rfl⟩,by simp,by rw [←L];simp⟩]
  have e2:=oE (n:=n) l [a] (by rw [←L];simp only [List.singleton_append];omega)
  have e3:UE n (a::l)=some (a::l):=by
   unfold UE dI
   show ((In n a .s0).bind (Bl (In n) l)).bind _=_
   rw [e1,zAF,e2,zAF]
   dsimp only
   rw [zAE rfl];rfl
  unfold Mq Ye Xc cZ;rw [e3,zAF,zAF,zAE (by rw [←L];omega),zAE (Qt _).symm]
theorem tY {l:List Int} (h: ∀ v,v∈l↔Rc g inn s v):l≠[]:=fun e=>by
 have:=(h s).2 .start;rw [e] at this;cases this
theorem tZ (G:Gr g) (h0:0<=s) (h1:s<(g.length:Int)) {l:List Int} (hn:l.Nodup) (h: ∀ v,v∈l↔Rc g inn s v):l.length<=256:=
 zAt (Zp g.length l hn fun x hx=>((h x).1 hx).rng G h0 h1) G.len
theorem zCp (G:IA g) (hI:inn.length=g.length) (h0:0<=s) (h1:s<(g.length:Int)) (hs:inn.getD s.toNat false=true):
 Ae (fun n=>QJ n g inn s) (fun r=>r.2=0/\ r.1.length<=256/\ ∀ v,v∈r.1↔Rc g inn s v):=by
 have e: ∀ n,QJ n g inn s=(JX n g [inn]).bind fun y1=>bif (y1 != 0) then some (([]:List Int),y1) else (GC n g s inn).bind fun y2=>(Mq n y2).bind fun y3=>some (y3,0):=fun n=>by
  unfold QJ nN
  congr 1
  funext y1
  rw [zAC (by omega),zAH,zAC (by omega),zAH,zAE ⟨by omega,by omega⟩,hs,zD7,zAH]
 refine Ae.eq ?_ e;refine Ae.bind (Wt G (fun x hx=>by rw [zAu.1 hx];exact hI) (by simp)) ?_
 show Ae (fun n=>(GC n g s inn).bind fun y2=>(Mq n y2).bind fun y3=>some (y3,0)) _
 refine Ae.bindU (ZE G.gr hI h0 h1) ⟨0,fun n _ l hl=>?_⟩;have Ao:=tZ G.gr h0 h1 hl.1 hl.2;rw [p7 (tY hl.2) Ao,zAF];exact ⟨_,rfl,rfl,by rw [Qt];exact Ao,fun v=>by rw [(Ur l).mem_iff];exact hl.2 v⟩
structure Pt (g:List (List Int)) (inn:List Bool) (i:Nat) (part:List Int) (Bq:Int):Prop where
 len:part.length=g.length
 m0:0<=Bq
 m1:Bq<=(i:Int)
 lo: ∀ v,v<g.length -> 0<=part.getD v 0/\ part.getD v 0<=Bq
 isIn: ∀ v,v<g.length -> 0<part.getD v 0 -> inn.getD v false=true
 same: ∀ u v:Nat,u<g.length -> v<g.length -> 0<part.getD u 0 -> Rc g inn u v -> part.getD v 0=part.getD u 0
 con: ∀ u v:Nat,u<g.length -> v<g.length -> 0<part.getD u 0 -> part.getD v 0=part.getD u 0 -> Rc g inn u v
 all: ∀ v,v<i -> v<g.length -> inn.getD v false=true -> 0<part.getD v 0
 sur: ∀ m,0<m -> m<=Bq -> ∃ v,v<g.length/\ part.getD v 0=m
theorem io {n:Nat} {x13 m:Int}: ∀ (l:List Int) (part:List Int),part.length=g.length -> (∀ v∈l,0<=v/\ v<(g.length:Int)) ->
 ∃ HI,Bl (NI n g inn x13 m) l (.s0 part)=some (.s0 HI)/\ HI.length=g.length/\ ∀ v:Nat,HI.getD v 0=if (v:Int)∈l/\ v<g.length then m+1 else part.getD v 0
 | [],part,hp,_=>⟨part,rfl,hp,fun v=>by simp⟩
 | a::l,part,hp,hl=>by
  have ha:=hl a zED
  have e1:NI n g inn x13 m a (.s0 part)=some (.s0 (part.set a.toNat (m+1))):=by
   unfold NI il VS
   dsimp only
   rw [zAE ⟨ha,by omega⟩,zAs]
  obtain ⟨HI,h1,h2,h3⟩:=io (n:=n) (x13:=x13) (m:=m) l (part.set a.toNat (m+1)) (by rw [zAn];exact hp) fun v hv=>hl v (zA5 _ hv)
  refine ⟨HI,?_,h2,fun v=>?_⟩
  ·show (NI n g inn x13 m a (.s0 part)).bind (Bl (NI n g inn x13 m) l)=_
   rw [e1,zAF];exact h1
  ·rw [h3]
   by_cases hv:(v:Int)∈l/\ v<g.length
   ·rw [zAE hv,zAE ⟨zA5 _ hv.1,hv.2⟩]
   ·rw [zAU hv]
    by_cases e:(v:Int)=a
    ·subst e;rw [zAE ⟨zED,by omega⟩,zAL,u8,zEJ (by omega)];rfl
    ·rw [zAU (fun h=>by
      rcases zA3.1 h.1 with h4 | h4
      ·exact e h4
      ·exact hv ⟨h4,h.2⟩),u8,zEF (by omega),←u8]
theorem Pt.go (G:Gr g) {i:Nat} {part HI:List Int} {Bq:Int} (h:Pt g inn i part Bq) (hi:i<g.length) (Ef:inn.getD i false=true) (h0: ¬ part.getD i 0>0) {l:List Int} (hl: ∀ v,v∈l↔Rc g inn i v) (Ao:HI.length=g.length)
 (hp: ∀ v:Nat,HI.getD v 0=if (v:Int)∈l/\ v<g.length then Bq+1 else part.getD v 0):Pt g inn (i+1) HI (Bq+1):=by
 have m0:=h.m0;have m1:=h.m1;have K3: ∀ v:Nat,v<g.length -> Rc g inn i v -> HI.getD v 0=Bq+1:=fun v hv hr=>by rw [hp,zAE ⟨(hl v).2 hr,hv⟩]
 have no: ∀ v:Nat,¬ Rc g inn i v -> HI.getD v 0=part.getD v 0:=fun v hr=>by rw [hp,zAU (fun h=>hr ((hl v).1 h.1))]
 have sym: ∀ u v:Nat,u<g.length -> inn.getD u false=true -> Rc g inn u v -> Rc g inn v u:=fun u v hu xm hr=>hr.symm G (by omega) (by omega) (by rw [zAL];exact xm)
 refine ⟨Ao,by omega,by omega,fun v hv=>?_,fun v hv Ft=>?_,fun u v hu hv Ft hr=>?_,fun u v hu hv Ft he=>?_,fun v hv Gj Cr=>?_,fun m h1 h2=>?_⟩
 ·have:=h.lo v hv
  by_cases hr:Rc g inn i v
  ·rw [K3 v hv hr];omega
  ·rw [no v hr];omega
 ·by_cases hr:Rc g inn i v
  ·have:=hr.isIn (by rw [zAL];exact Ef)
   rwa [zAL] at this
  ·rw [no v hr] at Ft;exact h.isIn v hv Ft
 ·by_cases h1:Rc g inn i u
  ·rw [K3 u hu h1,K3 v hv (h1.trans hr)]
  ·rw [no u h1] at Ft ⊢;have h2: ¬ Rc g inn i v:=fun h2=>h1 (h2.trans (sym u v hu (h.isIn u hu Ft) hr))
   rw [no v h2];exact h.same u v hu hv Ft hr
 ·have hb:=(h.lo v hv).2
  by_cases h1:Rc g inn i u
  ·rw [K3 u hu h1] at he
   by_cases h2:Rc g inn i v
   ·exact (sym i u hi Ef h1).trans h2
   ·rw [no v h2] at he;omega
  ·rw [no u h1] at Ft he;have hb:=(h.lo u hu).2
   by_cases h2:Rc g inn i v
   ·rw [K3 v hv h2] at he;omega
   ·rw [no v h2] at he;exact h.con u v hu hv Ft he
 ·rcases zAc.1 hv with hv | rfl
  ·have:=h.all v hv Gj Cr
   by_cases hr:Rc g inn i v
   ·rw [K3 v Gj hr];omega
   ·rw [no v hr];exact this
  ·rw [K3 v Gj .start];omega
 ·by_cases e:m=Bq+1
  ·exact ⟨i,hi,by rw [K3 i hi .start,e]⟩
  ·obtain ⟨v,hv,Nj⟩:=h.sur m h1 (by omega);refine ⟨v,hv,?_⟩;rw [no v fun hr=>h0 ?_,Nj];have:=h.same v i hv hi (by omega) (sym i v hi Ef hr);omega
def PtP (g:List (List Int)) (inn:List Bool) (r:List Int×Int):Prop:=r.1.length=g.length/\ (∀ v,v<g.length -> inn.getD v false=true -> 0<r.1.getD v 0)/\ ∀ u v:Nat,u<g.length -> v<g.length -> inn.getD u false=true -> (r.1.getD v 0=r.1.getD u 0↔Rc g inn u v)
theorem ZW (G:Gr g) (hI:inn.length=g.length):Ae (fun n=>parts n g inn) (fun r=>Pt g inn g.length r.1 r.2):=by
 have hG:=G.len;obtain ⟨N,hN⟩:=Ae.range (F:=fun (i:Nat) n=>GC n g i inn) (A:=fun i l=>l.Nodup/\ ∀ v,v∈l↔Rc g inn i v) g.length fun i hi=>ZE G hI (by omega) (by omega)
 have hN: ∀ n,N<=n -> ∀ i:Nat,i<g.length -> ∃ l,GC n g i inn=some l/\ l.Nodup/\ ∀ v,v∈l↔Rc g inn i v:=hN;refine ⟨N+g.length+1,fun n hn=>?_⟩;have S:=HM (fun n (s:List Int×Int) i=>PB g inn n (.l1 i s.1 s.2)) g.length (N+1) (fun i s=>Pt g inn i s.1 s.2) (fun n i s Gl hi hP=>?_) (n:=n) (s:=(List.replicate g.length 0,0)) (by omega) ?_
 ·obtain ⟨n1,⟨part,Bq⟩,GP,_,e1,hP⟩:=S;obtain ⟨n2,rfl⟩: ∃ n2,n1=n2+1:=⟨n1-1,by omega⟩;refine ⟨(part,Bq),?_,hP⟩
  show parts n g inn=some (part,Bq)
  unfold parts ik;rw [zAE ⟨rfl,by omega,by omega⟩];refine Eq.trans e1 ?_
  show Ro n2 (PB g inn n2) g inn (g.length:Int) part Bq=_
  unfold Ro;rw [zAC (by omega),zAH,zAE hP.len.symm]
 ·obtain ⟨part,Bq⟩:=s;have hP:Pt g inn i part Bq:=hP;have r1:AL ((i:Int)+1):=As.2 ⟨by omega,by omega⟩
  show ∃ s',Ro n (PB g inn n) g inn (i:Int) part Bq=_/\ _
  unfold Ro;simp only [zAL,zAs];rw [zAJ (by omega),zAI,zAE ⟨by omega,by omega⟩];cases Ef:inn.getD i false
  ·rw [zEG,zAI,zAE r1];have m1:=hP.m1;refine ⟨(part,Bq),rfl,hP.len,hP.m0,by show Bq<=((i+1:Nat):Int);omega,hP.lo,hP.isIn,hP.same,hP.con,fun v hv Gj Cr=>?_,hP.sur⟩;rcases zAc.1 hv with hv | rfl
   ·exact hP.all v hv Gj Cr
   ·rw [Ef] at Cr;cases Cr
  ·have Ao:=hP.len;rw [zD7,zAH,zAE ⟨⟨by omega,by omega⟩,by omega⟩]
   by_cases h0:part.getD i 0>0
   ·rw [zAJ h0,zAI,zAE r1];have m1:=hP.m1;refine ⟨(part,Bq),rfl,hP.len,hP.m0,by show Bq<=((i+1:Nat):Int);omega,hP.lo,hP.isIn,hP.same,hP.con,fun v hv Gj Cr=>?_,hP.sur⟩;rcases zAc.1 hv with hv | rfl
    ·exact hP.all v hv Gj Cr
    ·exact h0
   ·obtain ⟨l,e2,Au,hl⟩:=hN n (by omega) i hi;obtain ⟨HI,e3,h3,h4⟩:=io (n:=n) (inn:=inn) (x13:=(i:Int)) (m:=Bq) l part hP.len fun v hv=>((hl v).1 hv).rng G (by omega) (by omega)
    have m0:=hP.m0;have m1:=hP.m1;rw [zAC h0,zAH,zAE (As.2 ⟨by omega,by omega⟩),e2,zAF,e3,zAF]
    dsimp only
    rw [zAE r1];exact ⟨(HI,Bq+1),rfl,hP.go G hi Ef h0 hl h3 h4⟩
 ·have z: ∀ v:Nat,(List.replicate g.length (0:Int)).getD v 0=0:=fun v=>by
   rw [u8,zEA];split <;> rfl
  exact ⟨by simp,zEK _,zEK _,fun v _=>by rw [z];exact ⟨zEK _,zEK _⟩,fun v _ h=>by rw [z] at h;omega,fun u v _ _ h=>by rw [z] at h;omega,fun u v _ _ h=>by rw [z] at h;omega,fun v hv=>absurd hv (zAo v),fun m h1 h2=>by have h2:m<=0:=h2;omega⟩
theorem uU (G:Gr g) (hI:inn.length=g.length):Ae (fun n=>parts n g inn) (PtP g inn):=(ZW G hI).mono fun r hP=>⟨hP.len,fun v hv hi=>hP.all v hv hv hi,fun u v hu hv hi=>by
 have Bo:=hP.all u hu hu hi;exact ⟨hP.con u v hu hv Bo,hP.same u v hu hv Bo⟩⟩
def Sp (g:List (List Int)) (inn some':List Bool) (a:Int):Prop:=∃ u v:Int,u≠a/\ v≠a/\ some'.getD u.toNat false=true/\ some'.getD v.toNat false=true/\ Rc g inn a u/\ Rc g inn a v/\ ¬ Rc g (inn.set a.toNat false) u v
theorem fj {n:Nat} {a f:Int} {y3:List Int×Int} (hS:some'.length=g.length) (hy:y3.1.length=g.length) (hf:f≠0): ∀ (l:List Int),(∀ v∈l,0<=v/\ v<(g.length:Int)) ->
 ∃ b f' c,DB (Hf n some' a y3) l (.s0 false f)=some (.s0 b f',c)/\ (c=0∨c=1)/\ (b=true↔∃ v∈l,v≠a/\ some'.getD v.toNat false=true/\ y3.1.getD v.toNat 0≠f)
 | [],_=>⟨false,f,0,rfl,.inl rfl,by simp⟩
 | x::l,hl=>by
  have hx:=hl x zED;obtain ⟨b,f',c,h1,h2,h3⟩:=fj (n:=n) (a:=a) hS hy hf l fun v hv=>hl v (zA5 _ hv)
  have skip:Hf n some' a y3 x (.s0 false f)=some (.s0 false f,0) -> ¬ (x≠a/\ some'.getD x.toNat false=true/\ y3.1.getD x.toNat 0≠f) -> ∃ b f' c,DB (Hf n some' a y3) (x::l) (.s0 false f)=some (.s0 b f',c)/\ (c=0∨c=1)/\ (b=true↔∃ v∈x::l,v≠a/\ some'.getD v.toNat false=true/\ y3.1.getD v.toNat 0≠f):=by
   intro e hn;refine ⟨b,f',c,?_,h2,?_⟩
   ·unfold DB;rw [e,zAF];exact h1
   ·rw [h3];constructor
    ·rintro ⟨v,hv,h⟩;exact ⟨v,zA5 _ hv,h⟩
    ·rintro ⟨v,hv,h⟩;rcases zA3.1 hv with rfl | hv
     ·exact absurd h hn
     ·exact ⟨v,hv,h⟩
  have f0:(f==0)=false:=zBj.2 hf;have U:Hf n some' a y3 x (.s0 false f)=Qs n some' a y3 x false f:=rfl;unfold Qs at U
  by_cases e1:x=a
  ·have:(x==a)=true:=zDu.2 e1;rw [this,zAI] at U;exact skip U fun h=>h.1 e1
  ·have:(x==a)=false:=zBj.2 e1;rw [this,zAH,zAE ⟨by omega,by omega⟩] at U;cases e2:some'.getD x.toNat false
   ·rw [e2,zEG,zAI] at U;exact skip U fun h=>by rw [e2] at h;cases h.2.1
   ·rw [e2,zD7,zAH,f0,zAH,zAE ⟨by omega,by omega⟩] at U
    by_cases e3:y3.1.getD x.toNat 0=f
    ·have e4:(y3.1.getD x.toNat 0 != f)=false:=by rw [e3];simp
     rw [e4,zAH] at U;exact skip U fun h=>h.2.2 e3
    ·have e4:(y3.1.getD x.toNat 0 != f)=true:=by simpa using e3
     rw [e4,zAI] at U;refine ⟨true,f,1,?_,.inr rfl,?_⟩
     ·unfold DB;rw [U,zAF];rfl
     ·exact ⟨fun _=>⟨x,zED,e1,e2,e3⟩,fun _=>rfl⟩
theorem fk {n:Nat} {a:Int} {y3:List Int×Int} (hS:some'.length=g.length) (hy:y3.1.length=g.length): ∀ (l:List Int),(∀ v∈l,0<=v/\ v<(g.length:Int)) -> (∀ v∈l,v≠a -> y3.1.getD v.toNat 0≠0) ->
 ∃ b f' c,DB (Hf n some' a y3) l (.s0 false 0)=some (.s0 b f',c)/\ (c=0∨c=1)/\ (b=true↔∃ u∈l,∃ v∈l,u≠a/\ v≠a/\ some'.getD u.toNat false=true/\ some'.getD v.toNat false=true/\ y3.1.getD v.toNat 0≠y3.1.getD u.toNat 0)
 | [],_,_=>⟨false,0,0,rfl,.inl rfl,by simp⟩
 | x::l,hl,hz=>by
  have hx:=hl x zED;have Ew: ∀ v∈l,0<=v/\ v<(g.length:Int):=fun v hv=>hl v (zA5 _ hv)
  have skip:Hf n some' a y3 x (.s0 false 0)=some (.s0 false 0,0) -> ¬ (x≠a/\ some'.getD x.toNat false=true) -> ∃ b f' c,DB (Hf n some' a y3) (x::l) (.s0 false 0)=some (.s0 b f',c)/\ (c=0∨c=1)/\ (b=true↔∃ u∈x::l,∃ v∈x::l,u≠a/\ v≠a/\ some'.getD u.toNat false=true/\ some'.getD v.toNat false=true/\ y3.1.getD v.toNat 0≠y3.1.getD u.toNat 0):=by
   intro e hn;obtain ⟨b,f',c,h1,h2,h3⟩:=fk (n:=n) (a:=a) hS hy l Ew fun v hv=>hz v (zA5 _ hv)
   refine ⟨b,f',c,?_,h2,?_⟩
   ·unfold DB;rw [e,zAF];exact h1
   ·rw [h3];constructor
    ·rintro ⟨u,hu,v,hv,h⟩;exact ⟨u,zA5 _ hu,v,zA5 _ hv,h⟩
    ·rintro ⟨u,hu,v,hv,h4,h5,h6,h7,h8⟩;rcases zA3.1 hu with rfl | hu
     ·exact absurd ⟨h4,h6⟩ hn
     ·rcases zA3.1 hv with rfl | hv
      ·exact absurd ⟨h5,h7⟩ hn
      ·exact ⟨u,hu,v,hv,h4,h5,h6,h7,h8⟩
  have U:Hf n some' a y3 x (.s0 false 0)=Qs n some' a y3 x false 0:=rfl;unfold Qs at U
  by_cases e1:x=a
  ·have:(x==a)=true:=zDu.2 e1;rw [this,zAI] at U;exact skip U fun h=>h.1 e1
  ·have:(x==a)=false:=zBj.2 e1;rw [this,zAH,zAE ⟨by omega,by omega⟩] at U;cases e2:some'.getD x.toNat false
   ·rw [e2,zEG,zAI] at U;exact skip U fun h=>by rw [e2] at h;cases h.2
   ·have z0:((0:Int)==0)=true:=rfl;rw [e2,zD7,zAH,z0,zAI,zAE ⟨by omega,by omega⟩] at U;obtain ⟨b,f',c,h1,h2,h3⟩:=fj (n:=n) (a:=a) hS hy (hz x zED e1) l Ew;refine ⟨b,f',c,?_,h2,?_⟩
    ·unfold DB;rw [U,zAF];exact h1
    ·rw [h3];constructor
     ·rintro ⟨v,hv,h4,h5,h6⟩;exact ⟨x,zED,v,zA5 _ hv,e1,h4,e2,h5,h6⟩
     ·rintro ⟨u,hu,v,hv,h4,h5,h6,h7,h8⟩
      by_cases e3:y3.1.getD u.toNat 0=y3.1.getD x.toNat 0
      ·rcases zA3.1 hv with rfl | hv
       ·exact absurd e3.symm h8
       ·exact ⟨v,hv,h5,h7,fun e=>h8 (e.trans e3.symm)⟩
      ·rcases zA3.1 hu with rfl | hu
       ·exact absurd rfl e3
       ·exact ⟨u,hu,h4,h6,e3⟩
theorem pp (G:IA g) (hI:inn.length=g.length) (hS:some'.length=g.length) {a:Nat} (ha:a<g.length) (lL:inn.getD a false=true):
 Ae (fun n=>Mn n g inn some' (a:Int)) (fun r=>r.2=0/\ (r.1=true↔Sp g inn some' (a:Int))):=by
 have hG:=G.gr.len;have L:(1000000000000:Nat)=BA:=rfl
 have hw: ∀ n,Qe n (a:Int) inn=some (inn.set a false):=fun n=>by
  unfold Qe X8 ON cg;rw [zAE ⟨by omega,trivial,⟨rfl,rfl⟩,by rw [←L];simp only [zEE];omega⟩,zAE (by simp),zAF,zEN,zAE ⟨⟨by omega,by omega⟩,by omega⟩,zAE (by simp),zAs,zAL]
 have hI':(inn.set a false).length=g.length:=by rw [zAn];exact hI
 have e: ∀ n,Mn n g inn some' (a:Int)=(JX n g [inn,some']).bind fun y1=>bif (y1 != 0) then some (false,y1) else (parts n g (inn.set a false)).bind fun y3=>(GC n g a inn).bind fun y4=>(DB (Hf n some' a y3) y4 (.s0 false 0)).bind fun y5=>bif y5.2==0 then (match y5.1 with | .s0 b _=>some (b,0)) else bif y5.2==1 then (match y5.1 with | .s0 b _=>some (b,0)) else none:=fun n=>by
  unfold Mn fe
  congr 1
  funext y1
  rw [zAC (by omega),zAH,zAC (by omega),zAH,zAE ⟨by omega,by omega⟩,zAL,lL,zD7,zAH,hw,zAF]
 refine Ae.eq ?_ e
 refine Ae.bind (Wt G (fun x hx=>by
  rcases zA3.1 hx with rfl | hx
  ·exact hI
  ·rw [zAu.1 hx];exact hS) (by simp)) ?_
 show Ae (R:=Bool×Int) (fun n=>(parts n g (inn.set a false)).bind fun y3=>(GC n g a inn).bind fun y4=>(DB (Hf n some' a y3) y4 (.s0 false 0)).bind fun y5=>bif y5.2==0 then (match y5.1 with | .s0 b _=>some (b,0)) else bif y5.2==1 then (match y5.1 with | .s0 b _=>some (b,0)) else none) _
 obtain ⟨N,hN⟩:=ZE G.gr hI (s:=(a:Int)) (by omega) (by omega);refine Ae.bindU (uU G.gr hI') ⟨N,fun n hn y3 hy=>?_⟩;obtain ⟨l,hl,Au,Pe⟩:=hN n hn;have hl:GC n g (a:Int) inn=some l:=hl;have hr: ∀ v∈l,0<=v/\ v<(g.length:Int):=fun v hv=>((Pe v).1 hv).rng G.gr (by omega) (by omega)
 have Ef: ∀ v∈l,v≠(a:Int) -> (inn.set a false).getD v.toNat false=true:=fun v hv Am=>by
  have h1:=hr v hv;rw [u8,zEF (by omega),←u8];exact ((Pe v).1 hv).isIn (by rw [zAL];exact lL)
 obtain ⟨b,f',c,h1,h2,h3⟩:=fk (n:=n) (some':=some') (a:=(a:Int)) (y3:=y3) hS hy.1 l hr fun v hv Am=>by
  have h1:=hr v hv;have:=hy.2.1 v.toNat (by omega) (Ef v hv Am);omega
 rw [hl,zAF,h1,zAF];refine ⟨(b,0),?_,rfl,?_⟩
 ·rcases h2 with rfl | rfl <;> rfl
 ·show b=true↔_
  rw [h3]
  have key: ∀ u v:Int,u∈l -> v∈l -> u≠a -> (y3.1.getD v.toNat 0=y3.1.getD u.toNat 0↔Rc g (inn.set a false) u v):=fun u v hu hv Am=>by
   have h1:=hr u hu;have h2:=hr v hv;have:=hy.2.2 u.toNat v.toNat (by omega) (by omega) (Ef u hu Am)
   rwa [Int.toNat_of_nonneg h1.1,Int.toNat_of_nonneg h2.1] at this
  constructor
  ·rintro ⟨u,hu,v,hv,h4,h5,h6,h7,h8⟩;exact ⟨u,v,h4,h5,h6,h7,(Pe u).1 hu,(Pe v).1 hv,fun h=>h8 ((key u v hu hv h4).2 h)⟩
  ·rintro ⟨u,v,h4,h5,h6,h7,h8,h9,bo⟩;have hu:=(Pe u).2 h8;have hv:=(Pe v).2 h9;exact ⟨u,hu,v,hv,h4,h5,h6,h7,fun h=>bo ((key u v hu hv h4).1 h)⟩
end
end Go.Proofs.YtkjbblkieglmlaaGreatDoor
namespace Go.Proofs.YtkjbblkieglmlaaGreatDoor
abbrev zFy:=@List.countP_singleton
end Go.Proofs.YtkjbblkieglmlaaGreatDoor
namespace Go.Proofs.YtkjbblkieglmlaaGreatDoor
open Go.RowKit
def JD (c:AC) (pos:List Int) (a:Nat):Bool:=bits .andNot .i64 (BN c pos a) c.set==0
def KH (c:AC) (pos:List Int) (a:Nat):Bool:=JD c pos a||(bits .and .i64 (BN c pos a) c.set != 0)
def cnt (p:Nat -> Bool) (i:Nat):Int:=(((List.range i).countP p:Nat):Int)
theorem FO {p:Nat -> Bool} {i:Nat}:cnt p (i+1)=cnt p i+(if p i then 1 else 0):=by
 unfold cnt;rw [List.range_succ,List.countP_append,zFy];split <;> simp
theorem QK {p:Nat -> Bool} {i:Nat}:0<=cnt p i/\ cnt p i<=i:=by
 unfold cnt;have:=zFK (p:=p) (l:=List.range i);rw [zFL] at this;omega
def Tw (c:AC) (pos:List Int):Bool:=!decide (cnt (JD c pos) c.cells.length>c.hi)&&!decide (cnt (KH c pos) c.cells.length<c.lo)
def MH (c:AC) (pos:List Int) (a s:Nat):Bool:=
 ((cnt (JD c pos) c.cells.length==c.hi)&&(bits .andNot .i64 (BN c pos a) c.set != 0)&&tb c.set s)||((cnt (KH c pos) c.cells.length==c.lo)&&(bits .and .i64 (BN c pos a) c.set != 0)&&!tb c.set s)
section
variable {c:AC} {k:Nat} {pos lost:List Int} {q:AA}
theorem zCO {n:Nat} {x3 x4:Int} (W:C2 c k pos) (hl:lost.length=pos.length) (h3:x3=cnt (JD c pos) c.cells.length) (h4:x4=cnt (KH c pos) c.cells.length) (hn:c.cells.length+1<=n):
 ∃ l,Ij c q pos pos.length lost n (.l2 x3 x4 0 lost)=some (true,l)/\ B3 c pos lost c.cells.length (fun a s=>MH c pos a s=true) l:=by
 have lt: ∀ i,i<c.cells.length -> ((i:Nat):Int)<((c.cells.length:Nat):Int):=fun i hi=>by omega
 have T:=HM (fun n (s:List Int) i=>Ij c q pos pos.length lost n (.l2 x3 x4 i s)) c.cells.length 1
  (fun i s=>B3 c pos lost i (fun a s=>MH c pos a s=true) s) (fun n i s Gl hi hI=>?_) (n:=n) (s:=lost) (by omega) (B3.zero hl)
 ·obtain ⟨n3,l,Lu,_,e2,hL⟩:=T;obtain ⟨n4,rfl⟩: ∃ n4,n3=n4+1:=⟨n3-1,by omega⟩;refine ⟨l,e2.trans ?_,hL⟩
  show Tt n4 (Ij c q pos pos.length lost n4) c q pos pos.length lost x3 x4 (c.cells.length:Int) l=_
  unfold Tt;rw [zAC (by omega),zAH]
 ·have hc:=W.cells i hi;have hr:=W.r64 hi
  have key: ∀ l':List Int,l'.length=pos.length -> (∀ j x,tb (l'.getD j 0) x=(tb (s.getD j 0) x||(decide (j=(c.cells.getD i 0).toNat)&&(tb (pos.getD j 0) x&&MH c pos i x)))) -> B3 c pos lost (i+1) (fun a s=>MH c pos a s=true) l':=by
   intro l' h1 h2;refine hI.step h1 fun j x=>?_
   rw [h2,zAz,zAN,zAN,zAv];constructor
   ·rintro (h | ⟨rfl,h⟩)
    ·exact .inl h
    ·exact .inr ⟨rfl,h⟩
   ·rintro (h | ⟨rfl,h⟩)
    ·exact .inl h
    ·exact .inr ⟨rfl,h⟩
  obtain ⟨l1,e1,n1,f1⟩:=KL (lost:=s) (n:=n) (ss:=c.set) (c:=c) (q:=q) hc.1 hc.2 hI.1;obtain ⟨l2,e2,n2,f2⟩:=Zf (lost:=l1) (n:=n) (c:=c) (q:=q) hc.1 hc.2 n1;obtain ⟨l3,e3,n3,f3⟩:=Zf (lost:=s) (n:=n) (c:=c) (q:=q) hc.1 hc.2 hI.1;have d0:decide ((i:Int)<((c.cells.length:Nat):Int))=true:=zAJ (lt i hi);have g0:(0:Int)<=(i:Int)/\ (i:Int)<((c.cells.length:Nat):Int):=⟨by omega,lt i hi⟩
  show ∃ s',Tt n (Ij c q pos pos.length lost n) c q pos pos.length lost x3 x4 (i:Int) s=_/\ _
  unfold Tt;rw [d0,zAI,zAE g0];simp only [zAL];have X: ∀ x,MH c pos i x=(((x3==c.hi)&&(bits .andNot .i64 (pos.getD (c.cells.getD i 0).toNat 0) c.set != 0)&&tb c.set x)||((x4==c.lo)&&(bits .and .i64 (pos.getD (c.cells.getD i 0).toNat 0) c.set != 0)&&!tb c.set x)):=fun x=>by rw [h3,h4];rfl
  cases hA:(x3==c.hi) <;> cases hC:(x4==c.lo) <;> cases hB:(bits .andNot .i64 (pos.getD (c.cells.getD i 0).toNat 0) c.set != 0) <;> cases hE:(bits .and .i64 (pos.getD (c.cells.getD i 0).toNat 0) c.set != 0) <;>
   simp only [hA,hB,hC,hE,zD9,zEg,zFQ,Bool.and_true,zEb,zEa] at X <;>
   simp only [zAI,zAH,zAE hc,e1,e2,e3,zAF,zAE hr.2]
  all_goals first
   | exact ⟨s,rfl,key s hI.1 fun j x=>by rw [X,zFQ,zFQ,zEb]⟩
   | exact ⟨l1,rfl,key l1 n1 fun j x=>by rw [f1,X]⟩
   | exact ⟨l3,rfl,key l3 n3 fun j x=>by rw [f3,X]⟩
   | exact ⟨l2,rfl,key l2 n2 fun j x=>by
    rw [f2,f1,X];cases tb (s.getD j 0) x <;> cases decide (j=(c.cells.getD i 0).toNat) <;> cases tb (pos.getD j 0) x <;> cases tb c.set x <;> rfl⟩
theorem zCP {n:Nat} (W:C2 c k pos) (hl:lost.length=pos.length) (hn:2*c.cells.length+3<=n):
 ∃ l,QH n c q pos pos.length lost=some (Tw c pos,l)/\ (Tw c pos=true -> B3 c pos lost c.cells.length (fun a s=>MH c pos a s=true) l):=by
 have lt: ∀ i,i<c.cells.length -> ((i:Nat):Int)<((c.cells.length:Nat):Int):=fun i hi=>by omega
 have S:=HM (fun n (s:Int×Int) i=>Ij c q pos pos.length lost n (.l1 s.1 s.2 i)) c.cells.length (c.cells.length+3)
  (fun i s=>s.1=cnt (JD c pos) i/\ s.2=cnt (KH c pos) i) (fun n i s _ hi hI=>?_) (n:=n) (s:=(0,0)) (by omega) ⟨rfl,rfl⟩
 ·obtain ⟨n1,⟨x3,x4⟩,GP,_,e1,h3,h4⟩:=S;obtain ⟨n2,rfl⟩: ∃ n2,n1=n2+1:=⟨n1-1,by omega⟩;have e2:QH n c q pos pos.length lost=Tu n2 (Ij c q pos pos.length lost n2) c q pos pos.length lost x3 x4 (c.cells.length:Int):=e1;have h3:x3=cnt (JD c pos) c.cells.length:=h3;have h4:x4=cnt (KH c pos) c.cells.length:=h4;unfold Tu at e2;rw [zAC (by omega),zAH] at e2;unfold Tw;rw [←h3,←h4];cases h5:decide (x3>c.hi)
  ·cases h6:decide (x4<c.lo)
   ·obtain ⟨l,e3,hL⟩:=zCO (q:=q) (n:=n2) W hl h3 h4 (by omega);rw [h5,h6,zAH,zAH,e3] at e2;exact ⟨l,e2,fun _=>hL⟩
   ·rw [h5,h6,zAH,zAI] at e2;exact ⟨lost,e2,fun h=>by cases h⟩
  ·rw [h5,zAI] at e2;exact ⟨lost,e2,fun h=>by cases h⟩
 ·obtain ⟨x3,x4⟩:=s;obtain ⟨h3,h4⟩:=hI;simp only at h3 h4;have hc:=W.cells i hi;have hr:=W.r64 hi;have b3:=QK (p:=JD c pos) (i:=i);have b4:=QK (p:=KH c pos) (i:=i);have Ao:=W.len;have r3:AL (x3+1):=As.2 ⟨by omega,by omega⟩;have r4:AL (x4+1):=As.2 ⟨by omega,by omega⟩
  show ∃ s',Tu n (Ij c q pos pos.length lost n) c q pos pos.length lost x3 x4 (i:Int)=_/\ _
  unfold Tu;rw [zAJ (lt i hi),zAI];simp only [zAL];rw [zAE ⟨⟨by omega,lt i hi⟩,hc⟩];have m1:(bits .andNot .i64 (pos.getD (c.cells.getD i 0).toNat 0) c.set==0)=JD c pos i:=rfl;have m2:(JD c pos i||(bits .and .i64 (pos.getD (c.cells.getD i 0).toNat 0) c.set != 0))=KH c pos i:=rfl;rw [m1];cases hm:JD c pos i
  ·rw [hm,zEa] at m2;rw [zAH,m2];cases hy:KH c pos i
   ·rw [zAH,zAE hr.2];exact ⟨(x3,x4),rfl,by rw [FO,hm];simpa using h3,by rw [FO,hy];simpa using h4⟩
   ·rw [zAI,zAE ⟨r4,hr.2⟩];exact ⟨(x3,x4+1),rfl,by rw [FO,hm];simpa using h3,by rw [FO,hy];simpa using h4⟩
  ·have hy:KH c pos i=true:=by rw [←m2,hm];rfl
   rw [zAI,zAE ⟨r3,r4,hr.2⟩];exact ⟨(x3+1,x4+1),rfl,by rw [FO,hm];simpa using h3,by rw [FO,hy];simpa using h4⟩
end
end Go.Proofs.YtkjbblkieglmlaaGreatDoor
namespace Go.Proofs.YtkjbblkieglmlaaGreatDoor
abbrev zEq:=@Nat.lt_of_not_le
end Go.Proofs.YtkjbblkieglmlaaGreatDoor
namespace Go.Proofs.YtkjbblkieglmlaaGreatDoor
open Go.RowKit
theorem YN (x:Int) (i:Nat):tb (IntKind.i64.wrap x) i=tb x i:=by unfold tb;rw [Ru]
theorem Js {s:Nat} (hs:s<64) (i:Nat):tb (IntKind.i64.wrap (1*2 ^ s)) i=decide (s=i):=by
 rw [YN,Int.one_mul];rcases zBG i 64 with h | h
 ·have e:((2 ^ s:Nat):Int)=(2:Int) ^ s:=by simp
  rw [←e];exact pK h
 ·rw [Uf h,zAC (by omega)]
theorem HK {k:Nat} {x:Int} (h:Sm k x) (hk:k<=62) {e:Int}:e∈B5 x↔∃ s:Nat,e=(s:Int)/\ s<k/\ tb x s=true:=by
 obtain ⟨m,rfl⟩:=zFC h.1;unfold B5 FB;simp only [zEI,zE3,zAi,zAL];constructor
 ·rintro ⟨s,⟨h1,h2⟩,rfl⟩;have h3:tb (m:Int) s=true:=by rw [K8 m s h1];exact h2
  refine ⟨s,rfl,?_,h3⟩;refine zEq fun Cu=>?_
  rw [h.hi Cu] at h3;cases h3
 ·rintro ⟨s,rfl,h1,h2⟩;exact ⟨s,⟨by omega,by rw [K8 m s (by omega)] at h2;exact h2⟩,rfl⟩
theorem W6 {α σ:Type} {f:α -> σ -> Option σ} (Inv:List α -> σ -> Prop): ∀ (l pre:List α) (s:σ),Inv pre s -> (∀ pre x s,x∈l -> Inv pre s -> ∃ s',f x s=some s'/\ Inv (pre++[x]) s') -> ∃ s',Bl f l s=some s'/\ Inv (pre++l) s'
 | [],pre,s,h,_=>⟨s,rfl,by rw [zEk];exact h⟩
 | x::l,pre,s,h,hs=>by
  obtain ⟨s',h1,h2⟩:=hs pre x s (.head _) h;obtain ⟨s2,h3,h4⟩:=W6 Inv l (pre++[x]) s' h2 fun pre y s hy=>hs pre y s (.tail _ hy)
  refine ⟨s2,?_,by rw [zE7] at h4;exact h4⟩;simp only [Bl];rw [h1,zAF,h3]
structure FS (q:AA) (k:Nat):Prop where
 len:k<=q.values.length
 val: ∀ s,s<k -> 0<=q.values.getD s 0/\ q.values.getD s 0<=99
def NW (q:AA) (a e:Int):Int:=if q.values.getD e.toNat 0<a then q.values.getD e.toNat 0 else a
def Nv (q:AA) (a e:Int):Int:=if q.values.getD e.toNat 0>a then q.values.getD e.toNat 0 else a
def GK (q:AA) (x:Int):Int:=(B5 x).foldl (NW q) 100
def GR (q:AA) (x:Int):Int:=(B5 x).foldl (Nv q) (-1)
section
variable {c:AC} {k:Nat} {pos lost:List Int} {q:AA}
theorem jl: ∀ (l:List Int) (a:Int),(∀ e∈l,0<=q.values.getD e.toNat 0/\ q.values.getD e.toNat 0<=99) -> 0<=a/\ a<=100 -> 0<=l.foldl (NW q) a/\ l.foldl (NW q) a<=100
 | [],_,_,h=>h
 | e::l,a,hv,h=>by
  have:=hv e (.head _);refine jl l (NW q a e) (fun e he=>hv e (.tail _ he)) ?_;unfold NW;split <;> omega
theorem lM: ∀ (l:List Int) (a:Int),(∀ e∈l,0<=q.values.getD e.toNat 0/\ q.values.getD e.toNat 0<=99) -> -1<=a/\ a<=99 -> -1<=l.foldl (Nv q) a/\ l.foldl (Nv q) a<=99
 | [],_,_,h=>h
 | e::l,a,hv,h=>by
  have:=hv e (.head _);refine lM l (Nv q a e) (fun e he=>hv e (.tail _ he)) ?_;unfold Nv;split <;> omega
theorem FS.sym (V:FS q k) (hk:k<=16) {x:Int} (h:Sm k x): ∀ e∈B5 x,(0<=e/\ e<((q.values.length:Nat):Int))/\ 0<=q.values.getD e.toNat 0/\ q.values.getD e.toNat 0<=99:=by
 intro e he;obtain ⟨s,rfl,h1,_⟩:=(HK h (zAt hk (by decide))).1 he;have:=V.len;rw [zAL];exact ⟨by omega,V.val s h1⟩
theorem FS.lo (V:FS q k) (hk:k<=16) {x:Int} (h:Sm k x):0<=GK q x/\ GK q x<=100:=jl _ _ (fun e he=>(V.sym hk h e he).2) (by decide)
theorem FS.hi (V:FS q k) (hk:k<=16) {x:Int} (h:Sm k x): -1<=GR q x/\ GR q x<=99:=lM _ _ (fun e he=>(V.sym hk h e he).2) (by decide)
theorem mq {n ln:Nat}: ∀ (l:List Int) (a b:Int),(∀ e∈l,0<=e/\ e<((q.values.length:Nat):Int)) -> Bl (Tc n c q pos ln lost) l (.s0 a b)=some (.s0 (l.foldl (NW q) a) (l.foldl (Nv q) b))
 | [],_,_,_=>rfl
 | e::l,a,b,h=>by
  have e1:Tc n c q pos ln lost e (.s0 a b)=some (.s0 (NW q a e) (Nv q b e)):=by
   unfold Tc mw my
   dsimp only
   rw [zAE (h e (.head _))];rfl
  simp only [Bl];rw [e1,zAF,mq l _ _ fun e he=>h e (.tail _ he)];rfl
theorem mn {n ln:Nat} (V:FS q k) (hk:k<=16) {x:Int} (h:Sm k x):Td n x c q pos ln lost=some (GK q x,GR q x,lost):=by
 have mD:=NC (k:=k) (zAt hk (by decide));have h2:=h.2;unfold Td mr;rw [zAE ⟨h.1,by omega⟩,mq (B5 x) 100 (-1) fun e he=>(V.sym hk h e he).1];rfl
def EM (f:Nat -> Int):Nat -> Int
 | 0=>0
 | i+1=>EM f i+f i
theorem Oj {f:Nat -> Int}: ∀ (i:Nat),(∀ a,a<i -> -1<=f a/\ f a<=100) -> -(i:Int)<=EM f i/\ EM f i<=100*(i:Int)
 | 0,_=>by simp [EM]
 | i+1,h=>by
  have h1:=Oj i fun a ha=>h a (by omega)
  have h2:=h i (by omega);simp only [EM];omega
def Lf (q:AA) (c:AC) (pos:List Int):Int:=EM (fun a=>GK q (BN c pos a)) c.cells.length
def Lz (q:AA) (c:AC) (pos:List Int):Int:=EM (fun a=>GR q (BN c pos a)) c.cells.length
def Qo (q:AA) (c:AC) (pos:List Int):Bool:=!decide (Lf q c pos>c.hi)&&!decide (Lz q c pos<c.lo)
def K9 (q:AA) (c:AC) (pos:List Int) (a s:Nat):Bool:=
 decide (Lf q c pos-GK q (BN c pos a)+q.values.getD s 0>c.hi)||decide (Lz q c pos-GR q (BN c pos a)+q.values.getD s 0<c.lo)
theorem je {T:Type} {n:Nat} (W:C2 c k pos) {i:Nat} (hi:i<c.cells.length) (hl:lost.length=pos.length) (mk:List Int -> T) (f:Int -> T -> Option T) (X:Nat -> Bool)
 (hf: ∀ (s:Nat) (l:List Int),s<k -> l.length=pos.length -> f (s:Int) (mk l)=bif X s then (DU n (c.cells.getD i 0) (IntKind.i64.wrap (1*2 ^ s)) c q pos pos.length l).map mk else some (mk l)):
 ∃ l',Bl f (B5 (BN c pos i)) (mk lost)=some (mk l')/\ l'.length=pos.length/\
  ∀ j s,tb (l'.getD j 0) s=true↔tb (lost.getD j 0) s=true∨((c.cells.getD i 0).toNat=j/\ tb (BN c pos i) s=true/\ X s=true):=by
 have hc:=W.cells i hi;have CT:=W.at hi;have hk:=W.k
 have key:=W6 (f:=f)
  (fun pre s=>∃ l',s=mk l'/\ l'.length=pos.length/\ ∀ j s,tb (l'.getD j 0) s=true↔tb (lost.getD j 0) s=true∨((c.cells.getD i 0).toNat=j/\ tb (BN c pos i) s=true/\ (s:Int)∈pre/\ X s=true))
  (B5 (BN c pos i)) [] (mk lost) ⟨lost,rfl,hl,fun j s=>⟨.inl,fun h=>h.elim id fun h=>(by cases h.2.2.1)⟩⟩ ?_
 ·obtain ⟨_,h1,l',rfl,h2,h3⟩:=key;refine ⟨l',h1,h2,fun j s=>?_⟩;rw [h3,zEN];constructor
  ·rintro (h | ⟨a1,a2,_,a3⟩)
   ·exact .inl h
   ·exact .inr ⟨a1,a2,a3⟩
  ·rintro (h | ⟨a1,a2,a3⟩)
   ·exact .inl h
   ·refine .inr ⟨a1,a2,(HK CT (zAt hk (by decide))).2 ⟨s,rfl,zEq fun Cu=>?_,a2⟩,a3⟩;rw [CT.hi Cu] at a2;cases a2
 ·rintro pre e _ he ⟨l',rfl,h2,h3⟩;obtain ⟨s,rfl,hs,hbit⟩:=(HK CT (zAt hk (by decide))).1 he;rw [hf s l' hs h2];cases hx:X s
  ·rw [zAH];refine ⟨_,rfl,l',rfl,h2,fun j x=>?_⟩;rw [h3];constructor
   ·rintro (h | ⟨a1,a2,a3,a4⟩)
    ·exact .inl h
    ·exact .inr ⟨a1,a2,zA6 _ a3,a4⟩
   ·rintro (h | ⟨a1,a2,a3,a4⟩)
    ·exact .inl h
    ·rcases zD5.1 a3 with a3 | a3
     ·exact .inr ⟨a1,a2,a3,a4⟩
     ·have:x=s:=by have:=zAu.1 a3;omega
      subst this;rw [hx] at a4;cases a4
  ·obtain ⟨l2,e2,n2,f2⟩:=KL (lost:=l') (n:=n) (ss:=IntKind.i64.wrap (1*2 ^ s)) (c:=c) (q:=q) hc.1 hc.2 h2;rw [zAI,e2,zA2];refine ⟨_,rfl,l2,rfl,n2,fun j x=>?_⟩;rw [f2,zAz,zAN,zAN,zAv,h3,Js (by omega),zAv];constructor
   ·rintro ((h | ⟨a1,a2,a3,a4⟩) | ⟨rfl,a2,rfl⟩)
    ·exact .inl h
    ·exact .inr ⟨a1,a2,zA6 _ a3,a4⟩
    ·exact .inr ⟨rfl,a2,zD3 _ (.head _),hx⟩
   ·rintro (h | ⟨a1,a2,a3,a4⟩)
    ·exact .inl (.inl h)
    ·rcases zD5.1 a3 with a3 | a3
     ·exact .inl (.inr ⟨a1,a2,a3,a4⟩)
     ·have:x=s:=by have:=zAu.1 a3;omega
      subst this;subst a1;exact .inr ⟨rfl,a2,rfl⟩
theorem pa {n:Nat} (W:C2 c k pos) (V:FS q k) {i:Nat} (hi:i<c.cells.length) {low high:Int} (Wc:low=Lf q c pos) (lO:high=Lz q c pos) (hl:lost.length=pos.length):
 ∃ l',Bl (Um n c (i:Int) q pos pos.length low high (GK q (BN c pos i),GR q (BN c pos i),lost)) (B5 (BN c pos i)) (.s0 lost)=some (.s0 l')/\ l'.length=pos.length/\
  ∀ j s,tb (l'.getD j 0) s=true↔tb (lost.getD j 0) s=true∨((c.cells.getD i 0).toNat=j/\ tb (BN c pos i) s=true/\ K9 q c pos i s=true):=by
 have hc:=W.cells i hi;have CT:=W.at hi;have hk:=W.k;have Ao:=W.len;have bl:=V.lo hk CT;have bh:=V.hi hk CT;have tl:=Oj (f:=fun a=>GK q (BN c pos a)) c.cells.length fun a ha=>by have:=V.lo hk (W.at ha);omega
 have th:=Oj (f:=fun a=>GR q (BN c pos a)) c.cells.length fun a ha=>by have:=V.hi hk (W.at ha);omega
 have tl: -(c.cells.length:Int)<=low/\ low<=100*(c.cells.length:Int):=by rw [Wc];exact tl
 have th: -(c.cells.length:Int)<=high/\ high<=100*(c.cells.length:Int):=by rw [lO];exact th
 refine je (n:=n) (q:=q) W hi hl Jw.s0 _ (K9 q c pos i) fun s l hs hl=>?_
 have hv:=V.val s hs;have Gj:=V.len;have r1:AL (low-GK q (BN c pos i)):=As.2 ⟨by omega,by omega⟩;have r2:AL (low-GK q (BN c pos i)+q.values.getD s 0):=As.2 ⟨by omega,by omega⟩;have r3:AL (high-GR q (BN c pos i)):=As.2 ⟨by omega,by omega⟩;have r4:AL (high-GR q (BN c pos i)+q.values.getD s 0):=As.2 ⟨by omega,by omega⟩;have g1:(0:Int)<=(s:Int)/\ (s:Int)<((q.values.length:Nat):Int):=by omega
 have g2:(0:Int)<=(s:Int)/\ (s:Int)<=((IntKind.i64.bits:Nat):Int):=⟨by omega,by show (s:Int)<=64;omega⟩;obtain ⟨l2,e2,_,_⟩:=KL (lost:=l) (n:=n) (ss:=IntKind.i64.wrap (1*2 ^ s)) (c:=c) (q:=q) hc.1 hc.2 hl;have X:K9 q c pos i s=(decide (low-GK q (BN c pos i)+q.values.getD s 0>c.hi)||decide (high-GR q (BN c pos i)+q.values.getD s 0<c.lo)):=by rw [Wc,lO];rfl
 rw [X];unfold Um fS Ul
 dsimp only
 simp only [zAL];rw [zAE ⟨g1,r1,r2⟩];cases hA:decide (low-GK q (BN c pos i)+q.values.getD s 0>c.hi)
 ·rw [zAH,zAE ⟨r3,r4⟩,zEa];cases hB:decide (high-GR q (BN c pos i)+q.values.getD s 0<c.lo)
  ·rfl
  ·rw [zAI,zAI,zAE g2,e2];rfl
 ·rw [zAI,Bool.true_or,zAI,zAE g2,e2];rfl
theorem pX {n:Nat} (W:C2 c k pos) (V:FS q k) (hl:lost.length=pos.length) (hn:c.cells.length+1<=n):
 ∃ l,IC c q pos pos.length lost n (.l2 0 lost (Lf q c pos) (Lz q c pos))=some (true,l)/\ B3 c pos lost c.cells.length (fun a s=>K9 q c pos a s=true) l:=by
 have lt: ∀ i,i<c.cells.length -> ((i:Nat):Int)<((c.cells.length:Nat):Int):=fun i hi=>by omega
 have T:=HM (fun n (s:List Int) i=>IC c q pos pos.length lost n (.l2 i s (Lf q c pos) (Lz q c pos))) c.cells.length 1
  (fun i s=>B3 c pos lost i (fun a s=>K9 q c pos a s=true) s) (fun n i s Gl hi hI=>?_) (n:=n) (s:=lost) (by omega) (B3.zero hl)
 ·obtain ⟨n3,l,Lu,_,e2,hL⟩:=T;obtain ⟨n4,rfl⟩: ∃ n4,n3=n4+1:=⟨n3-1,by omega⟩;refine ⟨l,e2.trans ?_,hL⟩
  show Ql n4 (IC c q pos pos.length lost n4) c q pos pos.length lost (c.cells.length:Int) l _ _=_
  unfold Ql;rw [zAC (by omega),zAH]
 ·have hc:=W.cells i hi;have hr:=W.r64 hi;have CT:=W.at hi;have mD:=NC (k:=k) (zAt W.k (by decide));have Hz:=CT.2;obtain ⟨l',e1,n1,f1⟩:=pa (n:=n) W V hi rfl rfl hI.1
  show ∃ s',Ql n (IC c q pos pos.length lost n) c q pos pos.length lost (i:Int) s _ _=_/\ _
  unfold Ql;rw [zAJ (lt i hi),zAI];simp only [zAL];have sa:pos.getD (c.cells.getD i 0).toNat 0=BN c pos i:=rfl;rw [zAE ⟨⟨by omega,lt i hi⟩,hc⟩,sa,mn V W.k CT,zAF,zAE ⟨CT.1,by show BN c pos i<_;omega⟩];refine ⟨l',?_,hI.step n1 f1⟩;refine (congrArg (fun z=>Option.bind z _) e1).trans ?_;rw [zAF];simp only;rw [zAE hr.2]
theorem pY {n:Nat} (W:C2 c k pos) (V:FS q k) (hl:lost.length=pos.length) (hn:2*c.cells.length+3<=n):
 ∃ l,Oo n c q pos pos.length lost=some (Qo q c pos,l)/\ (Qo q c pos=true -> B3 c pos lost c.cells.length (fun a s=>K9 q c pos a s=true) l):=by
 have lt: ∀ i,i<c.cells.length -> ((i:Nat):Int)<((c.cells.length:Nat):Int):=fun i hi=>by omega
 have S:=HM (fun n (s:List Int×Int×Int) i=>IC c q pos pos.length lost n (.l1 i s.1 s.2.1 s.2.2)) c.cells.length (c.cells.length+3)
  (fun i s=>s.1=lost/\ s.2.1=EM (fun a=>GK q (BN c pos a)) i/\ s.2.2=EM (fun a=>GR q (BN c pos a)) i) (fun n i s _ hi hI=>?_) (n:=n) (s:=(lost,0,0)) (by omega) ⟨rfl,rfl,rfl⟩
 ·obtain ⟨n1,⟨l0,x3,x4⟩,GP,_,e1,h0,h3,h4⟩:=S;obtain ⟨n2,rfl⟩: ∃ n2,n1=n2+1:=⟨n1-1,by omega⟩;obtain rfl:l0=lost:=h0;obtain rfl:x3=Lf q c pos:=h3;obtain rfl:x4=Lz q c pos:=h4;have e2:Oo n c q pos pos.length l0=Qm n2 (IC c q pos pos.length l0 n2) c q pos pos.length l0 (c.cells.length:Int) l0 (Lf q c pos) (Lz q c pos):=e1;unfold Qm at e2;rw [zAC (by omega),zAH] at e2;unfold Qo;cases h5:decide (Lf q c pos>c.hi)
  ·cases h6:decide (Lz q c pos<c.lo)
   ·obtain ⟨l,e3,hL⟩:=pX (n:=n2) W V hl (by omega);rw [h5,h6,zAH,zAH,e3] at e2;exact ⟨l,e2,fun _=>hL⟩
   ·rw [h5,h6,zAH,zAI] at e2;exact ⟨l0,e2,fun h=>by cases h⟩
  ·rw [h5,zAI] at e2;exact ⟨l0,e2,fun h=>by cases h⟩
 ·obtain ⟨l0,x3,x4⟩:=s;obtain ⟨h0,h3,h4⟩:=hI;simp only at h0 h3 h4;have hc:=W.cells i hi;have hr:=W.r64 hi;have CT:=W.at hi;have b3:=Oj (f:=fun a=>GK q (BN c pos a)) i fun a ha=>by have:=V.lo W.k (W.at (Nat.lt_trans ha hi));omega
  have b4:=Oj (f:=fun a=>GR q (BN c pos a)) i fun a ha=>by have:=V.hi W.k (W.at (Nat.lt_trans ha hi));omega
  have bl:=V.lo W.k CT;have bh:=V.hi W.k CT;have Ao:=W.len;rw [←h3] at b3;rw [←h4] at b4;have r3:AL (x3+GK q (BN c pos i)):=As.2 ⟨by omega,by omega⟩;have r4:AL (x4+GR q (BN c pos i)):=As.2 ⟨by omega,by omega⟩
  show ∃ s',Qm n (IC c q pos pos.length lost n) c q pos pos.length lost (i:Int) l0 x3 x4=_/\ _
  unfold Qm;rw [zAJ (lt i hi),zAI];simp only [zAL];have sa:pos.getD (c.cells.getD i 0).toNat 0=BN c pos i:=rfl;rw [zAE ⟨⟨by omega,lt i hi⟩,hc⟩,sa,mn V W.k CT,zAF,zAE ⟨r3,r4,hr.2⟩];exact ⟨(l0,x3+GK q (BN c pos i),x4+GR q (BN c pos i)),rfl,h0,by simp only [EM];rw [h3],by simp only [EM];rw [h4]⟩
end
end Go.Proofs.YtkjbblkieglmlaaGreatDoor
namespace Go.Proofs.YtkjbblkieglmlaaGreatDoor
open Go.RowKit
set_option maxRecDepth 100000
set_option maxHeartbeats 40000000
def fE:ST:=.rd 0 (.rd 1 (.rd 3 (.rd 4 (.ef 2 (.ef 5 (.ef 6 (.ef 7 (.ef 8 (.ef 9 (.fin [0,1,2,3] [1,3,4,5,58,91,92,104,148]) (.no)) (.no)) (.no)) (.ef 7 (.ef 6 (.ef 8 (.ef 9 (.fin [0,1,3,2] [1,3,4,5,58,91,92,104,148]) (.no)) (.no)) (.no)) (.no))) (.ef 6 (.ef 5 (.ef 7 (.ef 8 (.ef 9 (.fin [0,2,1,3] [1,3,4,5,58,91,92,104,148]) (.no)) (.no)) (.no)) (.ef 7 (.ef 5 (.ef 8 (.ef 9 (.fin [0,3,1,2] [1,3,4,5,58,91,92,104,148]) (.no)) (.no)) (.ef 8 (.ef 5 (.ef 9 (.fin [0,3,1,2] [1,3,4,5,58,91,92,104,148]) (.no)) (.no)) (.no))) (.no))) (.ef 7 (.ef 5 (.ef 6 (.ef 8 (.ef 9 (.fin [0,2,3,1] [1,3,4,5,58,91,92,104,148]) (.no)) (.no)) (.no)) (.ef 6 (.ef 5 (.ef 8 (.ef 9 (.fin [0,3,2,1] [1,3,4,5,58,91,92,104,148]) (.no)) (.no)) (.ef 8 (.ef 5 (.ef 9 (.fin [0,3,2,1] [1,3,4,5,58,91,92,104,148]) (.no)) (.no)) (.no))) (.no))) (.no)))) (.ef 5 (.ef 2 (.ef 6 (.ef 7 (.ef 8 (.ef 9 (.fin [1,0,2,3] [1,3,4,5,58,91,92,104,148]) (.no)) (.no)) (.no)) (.ef 7 (.ef 6 (.ef 8 (.ef 9 (.fin [1,0,3,2] [1,3,4,5,58,91,92,104,148]) (.no)) (.no)) (.no)) (.no))) (.ef 6 (.ef 2 (.ef 7 (.ef 8 (.ef 9 (.fin [2,0,1,3] [1,3,4,5,58,91,92,104,148]) (.no)) (.no)) (.no)) (.ef 7 (.ef 2 (.ef 8 (.ef 9 (.fin [3,0,1,2] [1,3,4,5,58,91,92,104,148]) (.no)) (.no)) (.no)) (.no))) (.ef 7 (.ef 2 (.ef 6 (.ef 8 (.ef 9 (.fin [2,0,3,1] [1,3,4,5,58,91,92,104,148]) (.no)) (.no)) (.no)) (.ef 6 (.ef 2 (.ef 8 (.ef 9 (.fin [3,0,2,1] [1,3,4,5,58,91,92,104,148]) (.no)) (.no)) (.no)) (.no))) (.no)))) (.ef 6 (.ef 2 (.ef 5 (.ef 7 (.ef 8 (.ef 9 (.fin [1,2,0,3] [1,3,4,5,58,91,92,104,148]) (.no)) (.no)) (.no)) (.ef 7 (.ef 5 (.ef 8 (.ef 9 (.fin [1,3,0,2] [1,3,4,5,58,91,92,104,148]) (.no)) (.no)) (.ef 8 (.ef 5 (.ef 9 (.fin [1,3,0,2] [1,3,4,5,58,91,92,104,148]) (.no)) (.no)) (.no))) (.no))) (.ef 5 (.ef 2 (.ef 7 (.ef 8 (.ef 9 (.fin [2,1,0,3] [1,3,4,5,58,91,92,104,148]) (.no)) (.no)) (.no)) (.ef 7 (.ef 2 (.ef 8 (.ef 9 (.fin [3,1,0,2] [1,3,4,5,58,91,92,104,148]) (.no)) (.no)) (.no)) (.no))) (.ef 7 (.ef 2 (.ef 5 (.ef 8 (.ef 9 (.fin [2,3,0,1] [1,3,4,5,58,91,92,104,148]) (.no)) (.no)) (.ef 8 (.ef 5 (.ef 9 (.fin [2,3,0,1] [1,3,4,5,58,91,92,104,148]) (.no)) (.no)) (.no))) (.ef 5 (.ef 2 (.ef 8 (.ef 9 (.fin [3,2,0,1] [1,3,4,5,58,91,92,104,148]) (.no)) (.no)) (.no)) (.no))) (.no)))) (.ef 7 (.ef 2 (.ef 5 (.ef 6 (.ef 8 (.ef 9 (.fin [1,2,3,0] [1,3,4,5,58,91,92,104,148]) (.no)) (.no)) (.no)) (.ef 6 (.ef 5 (.ef 8 (.ef 9 (.fin [1,3,2,0] [1,3,4,5,58,91,92,104,148]) (.no)) (.no)) (.ef 8 (.ef 5 (.ef 9 (.fin [1,3,2,0] [1,3,4,5,58,91,92,104,148]) (.no)) (.no)) (.no))) (.no))) (.ef 5 (.ef 2 (.ef 6 (.ef 8 (.ef 9 (.fin [2,1,3,0] [1,3,4,5,58,91,92,104,148]) (.no)) (.no)) (.no)) (.ef 6 (.ef 2 (.ef 8 (.ef 9 (.fin [3,1,2,0] [1,3,4,5,58,91,92,104,148]) (.no)) (.no)) (.no)) (.no))) (.ef 6 (.ef 2 (.ef 5 (.ef 8 (.ef 9 (.fin [2,3,1,0] [1,3,4,5,58,91,92,104,148]) (.no)) (.no)) (.ef 8 (.ef 5 (.ef 9 (.fin [2,3,1,0] [1,3,4,5,58,91,92,104,148]) (.no)) (.no)) (.no))) (.ef 5 (.ef 2 (.ef 8 (.ef 9 (.fin [3,2,1,0] [1,3,4,5,58,91,92,104,148]) (.no)) (.no)) (.no)) (.no))) (.no)))) (.no))))))))
theorem rA:Bp (Ah Tryz.f135 2) [2,5,6,7,8] fE:=by unfold Bp;kernel_rfl
def fD:ST:=.rd 0 (.rd 1 (.rd 2 (.rd 3 (.ef 4 (.rd 5 (.ef 6 (.fin [] [1,4,5,58,91,92,104,148]) (.no))) (.no)))))
theorem qz:Bp (Ah Tryz.f135 3) [4] fD:=by unfold Bp;kernel_rfl
theorem rB:Av (Ah Tryz.f135 12) [] (List.range 11) [11]:=by unfold Av;kernel_rfl
theorem q9:Av (Ah Tryz.f135 22) [] (List.range 9) [9]:=by unfold Av;kernel_rfl
theorem q8:Av (Ah Tryz.f135 26) [([0,1,2,3,4,5,6],7)] [] []:=by unfold Av;kernel_rfl
def fC:ST:=.rd 0 (.rd 1 (.rd 2 (.rd 3 (.ef 4 (.fin [] [2]) (.no)))))
theorem gW:Bp (Ah Tryz.f135 30) [] fC:=by unfold Bp;kernel_rfl
def EN:Bi:=fun i=>match i with
 | 2=>.tre [2,5,6,7,8] fE
 | 3=>.tre [4] fD
 | 12=>.ord [] (List.range 11) [11]
 | 22=>.ord [] (List.range 9) [9]
 | 26=>.ord [([0,1,2,3,4,5,6],7)] [] []
 | 30=>.tre [] fC
 | _=>.no
def Ck (c:AC) (q:AA) (pos:List Int) (ln:Nat) (lost:List Int):St:=⟨(AG 178 [(1,.ref 2 0),(3,.i (c.cells.length:Int)),(4,.ref 5 0),(5,.ref 6 0)]),([some (.cells (AK c++AD q++[.ints pos,.msl 1 1 0 ln])),some (.ints lost),some (.cells [.ref 0 0]),some (.ints (List.replicate ((((c.cells.length:Int)+1)).toNat) (0:Int))),some (.ints (List.replicate ((((c.cells.length:Int)+1)).toNat) (0:Int))),some (.cells [.msl 3 1 0 ((((c.cells.length:Int)+1)).toNat)]),some (.cells [.msl 4 1 0 ((((c.cells.length:Int)+1)).toNat)])]:DH)⟩
def eK (c:AC) (q:AA) (pos:List Int) (ln:Nat) (lost:List Int):St:=⟨(AG 178 [(1,.ref 2 0),(4,.ref 5 0),(5,.ref 6 0)]),([some (.cells (AK c++AD q++[.ints pos,.msl 1 1 0 ln])),some (.ints lost),some (.cells [.ref 0 0]),some (.ints ((List.replicate ((((c.cells.length:Int)+1)).toNat) (0:Int)).set (0+0) (-1))),some (.ints ((List.replicate ((((c.cells.length:Int)+1)).toNat) (0:Int)).set (0+c.cells.length) 100)),some (.cells [.msl 3 1 0 ((((c.cells.length:Int)+1)).toNat)]),some (.cells [.msl 4 1 0 ((((c.cells.length:Int)+1)).toNat)])]:DH)⟩
def zR (c:AC) (q:AA) (pos:List Int) (ln:Nat) (lost o4:List Int) (BW:Int):DH:=[some (.cells (AK c++AD q++[.ints pos,.msl 1 1 0 ln])),some (.ints lost),some (.cells [.ref 0 0]),some (.cells [.msl 4 1 0 ((((c.cells.length:Int)+1)).toNat)]),some (.ints (o4.set (0+(((BW+1)).toNat)) 100)),some (.cells [.msl 6 1 0 ((((c.cells.length:Int)+1)).toNat)]),some (.ints ((List.replicate ((((c.cells.length:Int)+1)).toNat) (0:Int)).set (0+c.cells.length) 100)),some (.cells [.i BW])]
def zQ (c:AC) (q:AA) (pos:List Int) (ln:Nat) (lost:List Int) (BW:Int) (o4:List Int):DH:=[some (.cells (AK c++AD q++[.ints pos,.msl 1 1 0 ln])),some (.ints lost),some (.cells [.ref 0 0]),some (.cells [.msl 7 1 0 ((((c.cells.length:Int)+1)).toNat)]),some (.cells [.msl 8 1 0 ((((c.cells.length:Int)+1)).toNat)]),some (.cells [.i BW]),some (.iter ((B5 (pos.getD ((c.cells.getD ((BW).toNat) 0).toNat) 0)).map BP)),some (.ints (o4.set (0+(((BW+1)).toNat)) 100)),some (.ints ((List.replicate ((((c.cells.length:Int)+1)).toNat) (0:Int)).set (0+c.cells.length) 100))]
def zP (c:AC) (q:AA) (pos:List Int) (ln:Nat) (lost o4:List Int):DH:=[some (.cells (AK c++AD q++[.ints pos,.msl 1 1 0 ln])),some (.ints lost),some (.cells [.ref 0 0]),some (.cells [.msl 4 1 0 ((((c.cells.length:Int)+1)).toNat)]),some (.ints o4),some (.cells [.msl 6 1 0 ((((c.cells.length:Int)+1)).toNat)]),some (.ints ((List.replicate ((((c.cells.length:Int)+1)).toNat) (0:Int)).set (0+c.cells.length) 100))]
def zO (c:AC) (q:AA) (pos:List Int) (ln:Nat) (lost:List Int) (y1:List (Int×Int)) (o4:List Int):DH:=[some (.cells (AK c++AD q++[.ints pos,.msl 1 1 0 ln])),some (.ints lost),some (.cells [.ref 0 0]),some (.cells [.msl 6 1 0 ((((c.cells.length:Int)+1)).toNat)]),some (.cells [.msl 7 1 0 ((((c.cells.length:Int)+1)).toNat)]),some (.iter ((y1).map OF)),some (.ints o4),some (.ints ((List.replicate ((((c.cells.length:Int)+1)).toNat) (0:Int)).set (0+c.cells.length) 100))]
def zN (c:AC) (q:AA) (pos:List Int) (ln:Nat) (o1 o4 o6:List Int) (BK:Int):DH:=[some (.cells (AK c++AD q++[.ints pos,.msl 1 1 0 ln])),some (.ints o1),some (.cells [.ref 0 0]),some (.cells [.msl 4 1 0 ((((c.cells.length:Int)+1)).toNat)]),some (.ints o4),some (.cells [.msl 6 1 0 ((((c.cells.length:Int)+1)).toNat)]),some (.ints o6),some (.cells [.i BK]),some (.cells [.i (c.cells.getD ((BK).toNat) 0)])]
def zM (c:AC) (q:AA) (pos:List Int) (ln:Nat) (o1:List Int) (BK:Int) (o4 o6:List Int):DH:=[some (.cells (AK c++AD q++[.ints pos,.msl 1 1 0 ln])),some (.ints o1),some (.cells [.ref 0 0]),some (.cells [.msl 8 1 0 ((((c.cells.length:Int)+1)).toNat)]),some (.cells [.msl 9 1 0 ((((c.cells.length:Int)+1)).toNat)]),some (.cells [.i BK]),some (.cells [.i (c.cells.getD ((BK).toNat) 0)]),some (.iter ((B5 (pos.getD ((c.cells.getD ((BK).toNat) 0).toNat) 0)).map BP)),some (.ints o4),some (.ints o6)]
def zL (c:AC) (q:AA) (pos:List Int) (ln:Nat) (lost:List Int) (BW:Int) (FY:List Int):DH:=[some (.cells (AK c++AD q++[.ints pos,.msl 1 1 0 ln])),some (.ints lost),some (.cells [.ref 0 0]),some (.cells [.msl 7 1 0 ((((c.cells.length:Int)+1)).toNat)]),some (.cells [.msl 8 1 0 ((((c.cells.length:Int)+1)).toNat)]),some (.cells [.i BW]),none,some (.ints FY),some (.ints ((List.replicate ((((c.cells.length:Int)+1)).toNat) (0:Int)).set (0+c.cells.length) 100))]
def zK (c:AC) (q:AA) (pos:List Int) (ln:Nat) (lost o4 FC:List Int) (BZ:Int×Int):DH:=[some (.cells (AK c++AD q++[.ints pos,.msl 1 1 0 ln])),some (.ints lost),some (.cells [.ref 0 0]),some (.cells [.msl 6 1 0 ((((c.cells.length:Int)+1)).toNat)]),some (.cells [.msl 7 1 0 ((((c.cells.length:Int)+1)).toNat)]),none,some (.ints o4),some (.ints FC),some (.cells [.i BZ.1])]
def zU (c:AC) (q:AA) (pos:List Int) (ln:Nat) (lost o4 FC:List Int) (BZ:Int×Int):DH:=[some (.cells (AK c++AD q++[.ints pos,.msl 1 1 0 ln])),some (.ints lost),some (.cells [.ref 0 0]),some (.cells [.msl 6 1 0 ((((c.cells.length:Int)+1)).toNat)]),some (.cells [.msl 7 1 0 ((((c.cells.length:Int)+1)).toNat)]),none,some (.ints o4),some (.ints (FC.set (0+((BZ.1).toNat)) (-1))),some (.cells [.i BZ.1])]
def zT (c:AC) (q:AA) (pos:List Int) (ln:Nat) (lost:List Int) (BZ:Int×Int) (o4 FC:List Int):DH:=[some (.cells (AK c++AD q++[.ints pos,.msl 1 1 0 ln])),some (.ints lost),some (.cells [.ref 0 0]),some (.cells [.msl 8 1 0 ((((c.cells.length:Int)+1)).toNat)]),some (.cells [.msl 9 1 0 ((((c.cells.length:Int)+1)).toNat)]),none,some (.cells [.i BZ.1]),some (.iter ((B5 (pos.getD ((BZ.2).toNat) 0)).map BP)),some (.ints o4),some (.ints (FC.set (0+((BZ.1).toNat)) (-1)))]
def ax (c:AC) (q:AA) (pos:List Int) (ln:Nat) (GF:List Int) (BK:Int) (o4 o6:List Int):DH:=[some (.cells (AK c++AD q++[.ints pos,.msl 1 1 0 ln])),some (.ints GF),some (.cells [.ref 0 0]),some (.cells [.msl 8 1 0 ((((c.cells.length:Int)+1)).toNat)]),some (.cells [.msl 9 1 0 ((((c.cells.length:Int)+1)).toNat)]),some (.cells [.i BK]),some (.cells [.i (c.cells.getD ((BK).toNat) 0)]),none,some (.ints o4),some (.ints o6)]
def Uc (c:AC) (q:AA) (pos:List Int) (ln:Nat) (Im:(List Int)) (BK:Int) (o4 o6:List Int):St:=⟨(AG 178 []),([some (.cells (AK c++AD q++[.ints pos,.msl 1 1 0 ln])),some (.ints Im),some (.cells [.ref 0 0]),some (.cells [.msl 8 1 0 ((((c.cells.length:Int)+1)).toNat)]),some (.cells [.msl 9 1 0 ((((c.cells.length:Int)+1)).toNat)]),some (.cells [.i BK]),some (.cells [.i (c.cells.getD ((BK).toNat) 0)]),none,some (.ints o4),some (.ints o6)]:DH)⟩
def zS (c:AC) (q:AA) (pos:List Int) (ln:Nat) (lost:List Int) (BZ:Int×Int) (o4 FZ:List Int):DH:=[some (.cells (AK c++AD q++[.ints pos,.msl 1 1 0 ln])),some (.ints lost),some (.cells [.ref 0 0]),some (.cells [.msl 8 1 0 ((((c.cells.length:Int)+1)).toNat)]),some (.cells [.msl 9 1 0 ((((c.cells.length:Int)+1)).toNat)]),none,some (.cells [.i BZ.1]),none,some (.ints o4),some (.ints FZ)]
inductive LQ where
 | s0 (FZ:List Int)
def iF (c:AC) (q:AA) (pos:List Int) (ln:Nat) (lost:List Int) (BZ:Int×Int) (o4:List Int):LQ -> DH
 | .s0 FZ=>[some (.cells (AK c++AD q++[.ints pos,.msl 1 1 0 ln])),some (.ints lost),some (.cells [.ref 0 0]),some (.cells [.msl 8 1 0 ((((c.cells.length:Int)+1)).toNat)]),some (.cells [.msl 9 1 0 ((((c.cells.length:Int)+1)).toNat)]),none,some (.cells [.i BZ.1]),none,some (.ints o4),some (.ints FZ)]
def U9 (n:Nat) (c:AC) (q:AA) (pos:List Int) (ln:Nat) (lost:List Int) (BZ:Int×Int) (o4:List Int) (Gu:Int) (FZ:List Int):Option LQ:=
 if (0<=Gu/\ Gu<(q.values.length:Int))/\ AL (BZ.1+1)/\ (0<=(BZ.1+1)/\ (BZ.1+1)<(((((c.cells.length:Int)+1)).toNat:Nat):Int))/\ 0+(((BZ.1+1)).toNat)<FZ.length then
  bif (decide ((q.values.getD ((Gu).toNat) 0)<(FZ.getD (0+(((BZ.1+1)).toNat)) 0))) then
   if (0<=BZ.1/\ BZ.1<(((((c.cells.length:Int)+1)).toNat:Nat):Int))/\ 0+((BZ.1).toNat)<FZ.length then
    some (.s0 (FZ.set (0+((BZ.1).toNat)) (if (q.values.getD ((Gu).toNat) 0)>(FZ.getD (0+((BZ.1).toNat)) 0) then (q.values.getD ((Gu).toNat) 0) else (FZ.getD (0+((BZ.1).toNat)) 0))))
   else none
  else
   some (.s0 FZ)
 else none
def iE (n:Nat) (c:AC) (q:AA) (pos:List Int) (ln:Nat) (lost:List Int) (BZ:Int×Int) (o4:List Int) (Gu:Int):LQ -> Option LQ
 | .s0 FZ=>U9 n c q pos ln lost BZ o4 Gu FZ
def RR (n:Nat) (c:AC) (q:AA) (pos:List Int) (ln:Nat) (lost:List Int) (BZ:Int×Int) (o4:List Int) (Gu:Int) (s:LQ):Option LQ:=iE n c q pos ln lost BZ o4 Gu s
theorem s8 (n:Nat) (c:AC) (q:AA) (pos:List Int) (ln:Nat) (lost:List Int) (BZ:Int×Int) (o4:List Int) (l B:Nat) (N:Yd 8) (Gu:Int) (s:LQ) (r:LQ) (h:RR n c q pos ln lost BZ o4 Gu s=some r):TA l B N (Cd 8 [] 0 (iF c q pos ln lost BZ o4 r)) Tryz.f135 103 ⟨AG 178 [(1,.ref 2 0),(5,.ref 4 0),(10,.ref 6 0),(103,.it 7),(104,.i Gu)],iF c q pos ln lost BZ o4 s⟩:=by
 cases s with
 | s0 FZ=>
  replace h:U9 n c q pos ln lost BZ o4 Gu FZ=some r:=h;unfold U9 at h;refine ag EN [0,1,2,3,4,5,6,7,8,9] H0 (AG 178 [(1,.ref 2 0),(5,.ref 4 0),(10,.ref 6 0),(12,.i Gu)]) (zS c q pos ln lost BZ o4 FZ) fun N=>?_
  revert r;apply gO;exact gc (gi (gc (gw 116 (gc (gi (gi (bi 119 (jg q9 (gc (gn fun n7=>jg n7 (gn fun n6=>jg n6 (jg n7 (jg n6 (lF fun p=>rr EN [0,1,2,3,4,5,6,7,8,9] rfl p))))))) (lF fun p=>rr EN [0,1,2,3,4,5,6,7,8,9] rfl p))))))))
inductive J3 where
 | s0 (GF:List Int)
def iK (c:AC) (BK:Int) (q:AA) (pos:List Int) (ln:Nat) (o4 o6:List Int):J3 -> DH
 | .s0 GF=>[some (.cells (AK c++AD q++[.ints pos,.msl 1 1 0 ln])),some (.ints GF),some (.cells [.ref 0 0]),some (.cells [.msl 8 1 0 ((((c.cells.length:Int)+1)).toNat)]),some (.cells [.msl 9 1 0 ((((c.cells.length:Int)+1)).toNat)]),some (.cells [.i BK]),some (.cells [.i (c.cells.getD ((BK).toNat) 0)]),none,some (.ints o4),some (.ints o6)]
def VB (n:Nat) (c:AC) (BK:Int) (q:AA) (pos:List Int) (ln:Nat) (o4 o6:List Int) (E1:Int) (GF:List Int):Option J3:=
 if (0<=E1/\ E1<(q.values.length:Int))/\ (0<=BK/\ BK<(((((c.cells.length:Int)+1)).toNat:Nat):Int))/\ 0+((BK).toNat)<o4.length then
  bif (decide ((q.values.getD ((E1).toNat) 0)<=(o4.getD (0+((BK).toNat)) 0))) then
   if 0<=E1/\ E1<=(IntKind.i64.bits:Int) then
    (DU n (c.cells.getD ((BK).toNat) 0) (IntKind.i64.wrap (1*2 ^ (E1).toNat)) c q pos ln GF).bind fun Im=>
     some (.s0 Im)
   else none
  else
   if AL (BK+1)/\ (0<=(BK+1)/\ (BK+1)<(((((c.cells.length:Int)+1)).toNat:Nat):Int))/\ 0+(((BK+1)).toNat)<o6.length then
    bif (decide ((q.values.getD ((E1).toNat) 0)>=(o6.getD (0+(((BK+1)).toNat)) 0))) then
     if 0<=E1/\ E1<=(IntKind.i64.bits:Int) then
      (DU n (c.cells.getD ((BK).toNat) 0) (IntKind.i64.wrap (1*2 ^ (E1).toNat)) c q pos ln GF).bind fun Im=>
       some (.s0 Im)
     else none
    else
     some (.s0 GF)
   else none
 else none
def iJ (n:Nat) (c:AC) (BK:Int) (q:AA) (pos:List Int) (ln:Nat) (o4 o6:List Int) (E1:Int):J3 -> Option J3
 | .s0 GF=>VB n c BK q pos ln o4 o6 E1 GF
def VC (n:Nat) (c:AC) (BK:Int) (q:AA) (pos:List Int) (ln:Nat) (o4 o6:List Int) (E1:Int) (s:J3):Option J3:=iJ n c BK q pos ln o4 o6 E1 s
theorem tA (n:Nat) (c:AC) (BK:Int) (q:AA) (pos:List Int) (ln:Nat) (o4 o6:List Int) (l B:Nat) (N:Yd 8) (E1:Int) (s:J3) (r:J3) (h:VC n c BK q pos ln o4 o6 E1 s=some r):TA l B N (Cd 8 [] 0 (iK c BK q pos ln o4 o6 r)) Tryz.f135 147 ⟨AG 178 [(1,.ref 2 0),(4,.ref 3 0),(5,.ref 4 0),(14,.ref 5 0),(15,.ref 6 0),(133,.ints c.cells),(134,.i (c.cells.length:Int)),(135,.i BK),(147,.it 7),(148,.i E1)],iK c BK q pos ln o4 o6 s⟩:=by
 cases s with
 | s0 GF=>
  replace h:VB n c BK q pos ln o4 o6 E1 GF=some r:=h;unfold VB at h;refine ag EN [0,1,2,3,4,5,6,7,8,9] H0 (AG 178 [(1,.ref 2 0),(4,.ref 3 0),(5,.ref 4 0),(14,.ref 5 0),(15,.ref 6 0),(16,.i E1)]) (ax c q pos ln GF BK o4 o6) fun N=>?_
  revert r;apply gO;exact gc (gi (gc (gi (gi (bi 162 (jg gW (gi (ce Fr [0,1] (ax c q pos ln GF BK o4 o6) fun Im=>jg (Eq.refl (Uc c q pos ln Im BK o4 o6)) (lF fun p=>rr (tg:=[([],(Uc c q pos ln Im BK o4 o6))]) EN [0,1,2,3,4,5,6,7,8,9] rfl p)))) (gc (gw 167 (gc (gi (gi (bi 170 (jg gW (gi (ce Fr [0,1] (ax c q pos ln GF BK o4 o6) fun Im=>jg (Eq.refl (Uc c q pos ln Im BK o4 o6)) (lF fun p=>rr (tg:=[([],(Uc c q pos ln Im BK o4 o6))]) EN [0,1,2,3,4,5,6,7,8,9] rfl p)))) (lF fun p=>rr EN [0,1,2,3,4,5,6,7,8,9] rfl p))))))))))))
inductive LR where
 | s0 (FC:List Int)
def iG (c:AC) (q:AA) (pos:List Int) (ln:Nat) (lost o4:List Int):LR -> DH
 | .s0 FC=>[some (.cells (AK c++AD q++[.ints pos,.msl 1 1 0 ln])),some (.ints lost),some (.cells [.ref 0 0]),some (.cells [.msl 6 1 0 ((((c.cells.length:Int)+1)).toNat)]),some (.cells [.msl 7 1 0 ((((c.cells.length:Int)+1)).toNat)]),none,some (.ints o4),some (.ints FC)]
def U8 (n:Nat) (c:AC) (q:AA) (pos:List Int) (ln:Nat) (lost o4:List Int) (BZ:Int×Int) (FC:List Int):Option LR:=
 if (0<=BZ.1/\ BZ.1<(((((c.cells.length:Int)+1)).toNat:Nat):Int))/\ 0+((BZ.1).toNat)<FC.length/\ (0<=BZ.2/\ BZ.2<(pos.length:Int))/\ (0<=(pos.getD ((BZ.2).toNat) 0)/\ (pos.getD ((BZ.2).toNat) 0)<9223372036854775808) then
  (Bl (RR n c q pos ln lost BZ o4) (B5 (pos.getD ((BZ.2).toNat) 0)) (.s0 (FC.set (0+((BZ.1).toNat)) (-1)))).bind fun cy=>
   match cy with
   | .s0 nt=>
    some (.s0 nt)
 else none
def iD (n:Nat) (c:AC) (q:AA) (pos:List Int) (ln:Nat) (lost o4:List Int) (BZ:Int×Int):LR -> Option LR
 | .s0 FC=>U8 n c q pos ln lost o4 BZ FC
def RS (n:Nat) (c:AC) (q:AA) (pos:List Int) (ln:Nat) (lost o4:List Int) (BZ:Int×Int) (s:LR):Option LR:=iD n c q pos ln lost o4 BZ s
theorem s6 (n:Nat) (c:AC) (q:AA) (pos:List Int) (ln:Nat) (lost o4:List Int) (l B:Nat) (N:Yd 6) (BZ:Int×Int) (s:LR) (r:LR) (h:RS n c q pos ln lost o4 BZ s=some r):TA l B N (Cd 6 [] 0 (iG c q pos ln lost o4 r)) Tryz.f135 90 ⟨AG 178 [(1,.ref 2 0),(4,.ref 3 0),(5,.ref 4 0),(90,.it 5),(91,.i BZ.1),(92,.i BZ.2)],iG c q pos ln lost o4 s⟩:=by
 cases s with
 | s0 FC=>
  replace h:U8 n c q pos ln lost o4 BZ FC=some r:=h;unfold U8 at h;refine ag EN [0,1,2,3,4,5,6,7,8] (H0.t) (AG 178 [(1,.ref 2 0),(5,.ref 4 0),(10,.ref 8 0),(11,.i BZ.2)]) (zK c q pos ln lost o4 FC BZ) fun N=>?_
  revert r;apply gO
  exact gc (gi (gc (gi (gc (gi (gn fun zDR=>jc (Jv zDR (zU c q pos ln lost o4 FC BZ)) (cn fun cy zAj=>fun p r h=>by
   refine gs EN [0,1,2,3,4,5,8,9,6,7] p (Fg (VF Tryz.f135 90) 103 []) (AG 178 [(1,.ref 2 0),(5,.ref 4 0),(10,.ref 6 0),(103,.it 7)]) (zT c q pos ln lost BZ o4 FC) ?_;refine r0 7 103 #[104] BP 8 zAj (s8 n c q pos ln lost BZ o4) ?_;cases cy with
   | s0 nt=>
    dsimp only at h
    revert r;apply gO;exact lF fun p=>rr EN [0,1,2,3,4,5,8,9] rfl p)))))))
inductive LS where
 | s0 (FY:List Int)
def iI (c:AC) (BW:Int) (q:AA) (pos:List Int) (ln:Nat) (lost:List Int):LS -> DH
 | .s0 FY=>[some (.cells (AK c++AD q++[.ints pos,.msl 1 1 0 ln])),some (.ints lost),some (.cells [.ref 0 0]),some (.cells [.msl 7 1 0 ((((c.cells.length:Int)+1)).toNat)]),some (.cells [.msl 8 1 0 ((((c.cells.length:Int)+1)).toNat)]),some (.cells [.i BW]),none,some (.ints FY),some (.ints ((List.replicate ((((c.cells.length:Int)+1)).toNat) (0:Int)).set (0+c.cells.length) 100))]
def VA (n:Nat) (c:AC) (BW:Int) (q:AA) (pos:List Int) (ln:Nat) (lost:List Int) (Gs:Int) (FY:List Int):Option LS:=
 if (0<=Gs/\ Gs<(q.values.length:Int))/\ (0<=BW/\ BW<(((((c.cells.length:Int)+1)).toNat:Nat):Int))/\ 0+((BW).toNat)<FY.length then
  bif (decide ((q.values.getD ((Gs).toNat) 0)>(FY.getD (0+((BW).toNat)) 0))) then
   if AL (BW+1)/\ (0<=(BW+1)/\ (BW+1)<(((((c.cells.length:Int)+1)).toNat:Nat):Int))/\ 0+(((BW+1)).toNat)<FY.length then
    some (.s0 (FY.set (0+(((BW+1)).toNat)) (if (q.values.getD ((Gs).toNat) 0)<(FY.getD (0+(((BW+1)).toNat)) 0) then (q.values.getD ((Gs).toNat) 0) else (FY.getD (0+(((BW+1)).toNat)) 0))))
   else none
  else
   some (.s0 FY)
 else none
def iH (n:Nat) (c:AC) (BW:Int) (q:AA) (pos:List Int) (ln:Nat) (lost:List Int) (Gs:Int):LS -> Option LS
 | .s0 FY=>VA n c BW q pos ln lost Gs FY
def RT (n:Nat) (c:AC) (BW:Int) (q:AA) (pos:List Int) (ln:Nat) (lost:List Int) (Gs:Int) (s:LS):Option LS:=iH n c BW q pos ln lost Gs s
theorem s9 (n:Nat) (c:AC) (BW:Int) (q:AA) (pos:List Int) (ln:Nat) (lost:List Int) (l B:Nat) (N:Yd 7) (Gs:Int) (s:LS) (r:LS) (h:RT n c BW q pos ln lost Gs s=some r):TA l B N (Cd 7 [] 0 (iI c BW q pos ln lost r)) Tryz.f135 57 ⟨AG 178 [(1,.ref 2 0),(4,.ref 3 0),(5,.ref 4 0),(6,.ref 5 0),(39,.ints c.cells),(40,.i (c.cells.length:Int)),(41,.i BW),(57,.it 6),(58,.i Gs)],iI c BW q pos ln lost s⟩:=by
 cases s with
 | s0 FY=>
  replace h:VA n c BW q pos ln lost Gs FY=some r:=h;unfold VA at h;refine ag EN [0,1,2,3,4,5,6,7,8] H0 (AG 178 [(1,.ref 2 0),(4,.ref 3 0),(6,.ref 5 0),(8,.i Gs)]) (zL c q pos ln lost BW FY) fun N=>?_
  revert r;apply gO;exact gc (gi (gc (gi (gi (bi 72 (jg rB (gc (gn fun n5=>jw 75 n5 (jw 78 n5 (gc (gn fun n0=>jg n0 (gn fun ny=>jg ny (jg n0 (jg ny (lF fun p=>rr EN [0,1,2,3,4,5,6,7,8] rfl p)))))))))) (lF fun p=>rr EN [0,1,2,3,4,5,6,7,8] rfl p))))))
inductive RU where
 | l1 (BW:Int) (o4:List Int)
 | l2 (BK:Int) (o1 o4 o6:List Int)
def RQ (n:Nat) (self:RU -> Option (Bool×(List Int))) (c:AC) (q:AA) (pos:List Int) (ln:Nat) (lost:List Int) (BW:Int) (o4:List Int):Option (Bool×(List Int)):=
 bif (decide (BW<(c.cells.length:Int))) then
  if (0<=BW/\ BW<(c.cells.length:Int))/\ AL (BW+1)/\ (0<=(BW+1)/\ (BW+1)<(((((c.cells.length:Int)+1)).toNat:Nat):Int))/\ 0+(((BW+1)).toNat)<o4.length/\ (0<=(c.cells.getD ((BW).toNat) 0)/\ (c.cells.getD ((BW).toNat) 0)<(pos.length:Int))/\ (0<=(pos.getD ((c.cells.getD ((BW).toNat) 0).toNat) 0)/\ (pos.getD ((c.cells.getD ((BW).toNat) 0).toNat) 0)<9223372036854775808) then
   (Bl (RT n c BW q pos ln lost) (B5 (pos.getD ((c.cells.getD ((BW).toNat) 0).toNat) 0)) (.s0 (o4.set (0+(((BW+1)).toNat)) 100))).bind fun y1=>
    match y1 with
    | .s0 Dn=>
     if AL (BW+1) then
      self (.l1 (BW+1) Dn)
     else none
  else none
 else
  (back n c.cells).bind fun y1=>
   (Bl (RS n c q pos ln lost o4) y1 (.s0 ((List.replicate ((((c.cells.length:Int)+1)).toNat) (0:Int)).set (0+c.cells.length) 100))).bind fun y2=>
    match y2 with
    | .s0 EB=>
     self (.l2 0 lost o4 EB)
def RO (n:Nat) (self:RU -> Option (Bool×(List Int))) (c:AC) (q:AA) (pos:List Int) (ln:Nat) (lost:List Int) (BK:Int) (o1 o4 o6:List Int):Option (Bool×(List Int)):=
 bif (decide (BK<(c.cells.length:Int))) then
  if (0<=BK/\ BK<(c.cells.length:Int))/\ (0<=(c.cells.getD ((BK).toNat) 0)/\ (c.cells.getD ((BK).toNat) 0)<(pos.length:Int))/\ (0<=(pos.getD ((c.cells.getD ((BK).toNat) 0).toNat) 0)/\ (pos.getD ((c.cells.getD ((BK).toNat) 0).toNat) 0)<9223372036854775808) then
   (Bl (VC n c BK q pos ln o4 o6) (B5 (pos.getD ((c.cells.getD ((BK).toNat) 0).toNat) 0)) (.s0 o1)).bind fun y1=>
    match y1 with
    | .s0 Dn=>
     if AL (BK+1) then
      self (.l2 (BK+1) Dn o4 o6)
     else none
  else none
 else
  some (true,o1)
def iC (n:Nat) (self:RU -> Option (Bool×(List Int))) (c:AC) (q:AA) (pos:List Int) (ln:Nat) (lost:List Int):Option (Bool×(List Int)):=
 if AL ((c.cells.length:Int)+1)/\ ((((c.cells.length:Int)+1):Int)=((c.cells.length:Int)+1)/\ (0:Int)<=((c.cells.length:Int)+1)/\ (((c.cells.length:Int)+1):Int)<=1000000000000)/\ ((0:Int)<=0/\ 0<(((((c.cells.length:Int)+1)).toNat:Nat):Int))/\ 0+0<(List.replicate ((((c.cells.length:Int)+1)).toNat) (0:Int)).length/\ (0<=(c.cells.length:Int)/\ (c.cells.length:Int)<(((((c.cells.length:Int)+1)).toNat:Nat):Int))/\ 0+c.cells.length<(List.replicate ((((c.cells.length:Int)+1)).toNat) (0:Int)).length then
  self (.l1 0 ((List.replicate ((((c.cells.length:Int)+1)).toNat) (0:Int)).set (0+0) (-1)))
 else none
def Hl (c:AC) (q:AA) (pos:List Int) (ln:Nat) (lost:List Int):Nat -> RU -> Option (Bool×(List Int))
 | 0,_=>none
 | n+1,.l1 BW o4=>RQ n (Hl c q pos ln lost n) c q pos ln lost BW o4
 | n+1,.l2 BK o1 o4 o6=>RO n (Hl c q pos ln lost n) c q pos ln lost BK o1 o4 o6
def LT (n:Nat) (c:AC) (q:AA) (pos:List Int) (ln:Nat) (lost:List Int):Option (Bool×(List Int)):=iC n (Hl c q pos ln lost n) c q pos ln lost
def tB (n B:Nat) (N:Yd 2) (c:AC) (q:AA) (pos:List Int) (ln:Nat) (lost:List Int) (r:Bool×(List Int)):RU -> Prop
 | .l1 BW o4=>∀ m0:Nat,n<=m0 -> TW B N (FQ Tryz.f135 2 (.bool r.1) [some (.cells (AK c++AD q++[.ints pos,.msl 1 1 0 ln])),some (.ints r.2)]) (A3 m0 (BB (AW Tryz.f135) 0 [])) ⟨AG 178 [(1,.ref 2 0),(4,.ref 3 0),(5,.ref 5 0),(39,.ints c.cells),(40,.i (c.cells.length:Int)),(41,.i BW)],[some (.cells (AK c++AD q++[.ints pos,.msl 1 1 0 ln])),some (.ints lost),some (.cells [.ref 0 0]),some (.cells [.msl 4 1 0 ((((c.cells.length:Int)+1)).toNat)]),some (.ints o4),some (.cells [.msl 6 1 0 ((((c.cells.length:Int)+1)).toNat)]),some (.ints ((List.replicate ((((c.cells.length:Int)+1)).toNat) (0:Int)).set (0+c.cells.length) 100))]⟩
 | .l2 BK o1 o4 o6=>∀ m0:Nat,n<=m0 -> TW B N (FQ Tryz.f135 2 (.bool r.1) [some (.cells (AK c++AD q++[.ints pos,.msl 1 1 0 ln])),some (.ints r.2)]) (A3 m0 (BB (AW Tryz.f135) 8 [])) ⟨AG 178 [(1,.ref 2 0),(4,.ref 3 0),(5,.ref 5 0),(133,.ints c.cells),(134,.i (c.cells.length:Int)),(135,.i BK)],[some (.cells (AK c++AD q++[.ints pos,.msl 1 1 0 ln])),some (.ints o1),some (.cells [.ref 0 0]),some (.cells [.msl 4 1 0 ((((c.cells.length:Int)+1)).toNat)]),some (.ints o4),some (.cells [.msl 6 1 0 ((((c.cells.length:Int)+1)).toNat)]),some (.ints o6)]⟩
theorem tC (B:Nat) (N:Yd 2) (c:AC) (q:AA) (pos:List Int) (ln:Nat) (lost:List Int):Al (Hl c q pos ln lost) (tB · B N c q pos ln lost):=ia (fun _=>rfl) fun n AJ pt r h=>by
 cases pt
 case l1 BW o4=>
  intro m0 AE;refine rd AE fun m0 AE=>?_
  revert r;apply gO
  exact bi 42 (gc (gi (jt (gc (gw 48 (gc (gi (gc (gi (gc (gi (gn fun g5=>jc (Jv g5 (zR c q pos ln lost o4 BW)) (cn fun y1 A8=>fun p r h=>by
   refine gs EN [0,1,2,3,5,7,8,4,6] p (Fg (AW Tryz.f135) 57 [m0]) (AG 178 [(1,.ref 2 0),(4,.ref 3 0),(5,.ref 4 0),(6,.ref 5 0),(39,.ints c.cells),(40,.i (c.cells.length:Int)),(41,.i BW),(57,.it 6)]) (zQ c q pos ln lost BW o4) ?_;refine r0 6 57 #[58] BP 7 A8 (s9 n c BW q pos ln lost) ?_;cases y1 with
   | s0 Dn=>
    dsimp only at h
    revert r;apply gO;exact gw 84 (lG EN [0,1,2,3,7,4,8] (AJ _ _ · m0 AE))))))))))))))) (cn fun y1 A8=>jc (zDP A8 (zP c q pos ln lost o4)) (cn fun y2 Bx=>fun p r h=>by
   refine gs EN [0,1,2,3,5,7,4,6] p (Fg (AW Tryz.f135) 90 []) (AG 178 [(1,.ref 2 0),(4,.ref 3 0),(5,.ref 4 0),(90,.it 5)]) (zO c q pos ln lost y1 o4) ?_;refine r0 5 90 #[91,92] OF 6 Bx (s6 n c q pos ln lost o4) ?_;cases y2 with
   | s0 EB=>
    dsimp only at h
    revert r;apply gO;exact lN EN [0,1,2,3,6,4,7] (AJ _ _ · n Nat.le.refl)))
 case l2 BK o1 o4 o6=>
  intro m0 AE;refine rd AE fun m0 AE=>?_
  revert r;apply gO
  exact bi 136 (gc (gi (jt (jt (jg q8 (gc (gi (gn fun g2=>jc (Jv g2 (zN c q pos ln o1 o4 o6 BK)) (cn fun y1 A8=>fun p r h=>by
   refine gs EN [0,1,2,3,5,7,8,9,4,6] p (Fg (AW Tryz.f135) 147 [m0]) (AG 178 [(1,.ref 2 0),(4,.ref 3 0),(5,.ref 4 0),(14,.ref 5 0),(15,.ref 6 0),(133,.ints c.cells),(134,.i (c.cells.length:Int)),(135,.i BK),(147,.it 7)]) (zM c q pos ln o1 BK o4 o6) ?_;refine r0 7 147 #[148] BP 8 A8 (tA n c BK q pos ln o4 o6) ?_;cases y1 with
   | s0 Dn=>
    dsimp only at h
    revert r;apply gO;exact gw 177 (lG EN [0,1,2,3,8,4,9] (AJ _ _ · m0 AE))))))))))) (lE EN [2] [0,1])
theorem s5 {n:Nat} {c:AC} {q:AA} {pos:List Int} {ln:Nat} {lost:List Int} {r:Bool×(List Int)} (h:LT n c q pos ln lost=some r):EQ 135 [.ref 0 0] [some (.cells (AK c++AD q++[.ints pos,.msl 1 1 0 ln])),some (.ints lost)] (.bool r.1) [some (.cells (AK c++AD q++[.ints pos,.msl 1 1 0 ln])),some (.ints r.2)] false:=by
 refine ot Tryz.func135 fun B N=>?_
 revert r;apply gO;exact jg rA (gc (gn fun g0=>jw 25 g0 (jw 28 g0 (gc (gn fun g1=>jg g1 (jg g1 (jt (jt (jg (Eq.refl (Ck c q pos ln lost)) (jt (jt (jg (Eq.refl (Ck c q pos ln lost)) (jg g1 (jt (jt (jg (Eq.refl (Ck c q pos ln lost)) (jg g1 (jt (jt (jg (Eq.refl (Ck c q pos ln lost)) (jt (jg g1 (jt (jg (Eq.refl (Ck c q pos ln lost)) (jg g1 (jt (jt (jg (Eq.refl (Ck c q pos ln lost)) (jg g1 (jt (jt (jg (Eq.refl (Ck c q pos ln lost)) (jt (jg g1 (jt (jg (Eq.refl (Ck c q pos ln lost)) (jg g1 (jg g1 (jt (jt (jg (Eq.refl (Ck c q pos ln lost)) (jt (jt (jg (Eq.refl (Ck c q pos ln lost)) (jg g1 (jt (jt (jg (Eq.refl (Ck c q pos ln lost)) (jg g1 (jt (jt (jg (Eq.refl (Ck c q pos ln lost)) (jg g1 (jt (jt (jg (Eq.refl (Ck c q pos ln lost)) (jg g1 (jt (jt (jg (Eq.refl (Ck c q pos ln lost)) (jg g1 (jg g1 (jt (jt (jg (Eq.refl (Ck c q pos ln lost)) (jg g1 (jt (jt (jg (Eq.refl (Ck c q pos ln lost)) (jt (jg g1 (jt (jg (Eq.refl (Ck c q pos ln lost)) (jg g1 (jg g1 (jt (jt (jg (Eq.refl (Ck c q pos ln lost)) (jg g1 (jt (jt (jg (Eq.refl (Ck c q pos ln lost)) (jg g1 (jg g1 (jt (jt (jg (Eq.refl (Ck c q pos ln lost)) (jt (jg g1 (jt (jg (Eq.refl (Ck c q pos ln lost)) (jg g1 (jg g1 (jt (jt (jg (Eq.refl (Ck c q pos ln lost)) (jg g1 (jg g1 (jt (jt (jg (Eq.refl (Ck c q pos ln lost)) (jg g1 (jt (jt (jg (Eq.refl (Ck c q pos ln lost)) (jt (jg g1 (jt (jg (Eq.refl (Ck c q pos ln lost)) (jg g1 (jg g1 (jt (jt (jg (Eq.refl (Ck c q pos ln lost)) (jg g1 (jt (jt (jg (Eq.refl (Ck c q pos ln lost)) (jg g1 (jg g1 (jt (jt (jg (Eq.refl (Ck c q pos ln lost)) (jt (jg g1 (jt (jg (Eq.refl (Ck c q pos ln lost)) (jg g1 (jg g1 (jt (jt (jg (Eq.refl (Ck c q pos ln lost)) (jg qz (gc (gi (gc (gi (gc (gi (gi (jg (Eq.refl (eK c q pos ln lost)) (lN (tg:=[([],(Ck c q pos ln lost)),([(4,3)],(eK c q pos ln lost))]) EN [0,1,2,5,3,6,4] ((tC B N c q pos ln lost n) _ _ · n Nat.le.refl)))))))))))))))))))))))))))))))))))))))))))))))))))))))))))))))))))))))))))))))))))))))))))))))))))))))))))))))))))))))))))))))))))))))))))))))
end Go.Proofs.YtkjbblkieglmlaaGreatDoor
namespace Go.Proofs.YtkjbblkieglmlaaGreatDoor
open Go.RowKit
theorem Fw {l:List Int} {i:Nat} {a:Int} (h:i<l.length):(l.set i a).getD i 0=a:=by
 rw [u8,zEJ h];rfl
theorem getD_set_ne {l:List Int} {i j:Nat} {a:Int} (h:i≠j):(l.set i a).getD j 0=l.getD j 0:=by
 rw [u8,zEF h,←u8]
def UV (q:AA) (b a e:Int):Int:=if q.values.getD e.toNat 0>b then (if q.values.getD e.toNat 0<a then q.values.getD e.toNat 0 else a) else a
def Tg (q:AA) (b a e:Int):Int:=if q.values.getD e.toNat 0<b then (if q.values.getD e.toNat 0>a then q.values.getD e.toNat 0 else a) else a
def QQ (q:AA) (c:AC) (pos:List Int):Nat -> Int
 | 0=>-1
 | i+1=>(B5 (BN c pos i)).foldl (UV q (QQ q c pos i)) 100
def dV (q:AA) (c:AC) (pos:List Int):Nat -> Int
 | 0=>100
 | m+1=>(B5 (BN c pos (c.cells.length-1-m))).foldl (Tg q (dV q c pos m)) (-1)
def Ji (q:AA) (c:AC) (pos:List Int) (i:Nat):Int:=dV q c pos (c.cells.length-i)
def M6 (q:AA) (c:AC) (pos:List Int) (a s:Nat):Bool:=decide (q.values.getD s 0<=QQ q c pos a)||decide (q.values.getD s 0>=Ji q c pos (a+1))
def T6 (l:List Int):Nat -> List (Int×Int)
 | 0=>[]
 | m+1=>((m:Int),l.getD m 0)::T6 l m
theorem nq {l:List Int}: ∀ (m n:Nat),m<=l.length -> l.length<=LB -> m+1<=n -> ML l n (.l1 ((m:Int)-1))=some (T6 l m)
 | 0,n,_,_,hn=>by
  obtain ⟨n,rfl⟩: ∃ k,n=k+1:=⟨n-1,by omega⟩
  show OR n (ML l n) l _=_
  unfold OR;rw [zAC (by omega),zAH];rfl
 | m+1,n,hm,hl,hn=>by
  obtain ⟨n,rfl⟩: ∃ k,n=k+1:=⟨n-1,by omega⟩;have e:((m+1:Nat):Int)-1=(m:Int):=by omega
  have hb:LB<=9223372036854775807:=by decide
  rw [e]
  show OR n (ML l n) l _=_
  unfold OR;rw [zAJ (by omega),zAI,zAE ⟨by omega,by omega⟩,zAE (As.2 ⟨by omega,by omega⟩),nq m n (by omega) hl (by omega),zAL];rfl
theorem zDM {l:List Int} {n:Nat} (hl:l.length<=LB) (hn:l.length+1<=n):back n l=some (T6 l l.length):=by
 have hb:LB<=9223372036854775807:=by decide
 unfold back cw;rw [zAE (As.2 ⟨by omega,by omega⟩),nq l.length n (zAp _) hl hn]
section
variable {c:AC} {k:Nat} {pos lost:List Int} {q:AA}
theorem g9 {n ln i:Nat} (Ao:c.cells.length<=256) (hi:i<c.cells.length) {o:List Int} (ho:o.length=c.cells.length+1): ∀ (l:List Int) (a:Int),(∀ e∈l,0<=e/\ e<((q.values.length:Nat):Int)) ->
 Bl (RT n c (i:Int) q pos ln lost) l (.s0 (o.set (i+1) a))=some (.s0 (o.set (i+1) (l.foldl (UV q (o.getD i 0)) a)))
 | [],_,_=>rfl
 | e::l,a,h=>by
  have t1:((((c.cells.length:Nat):Int)+1).toNat:Nat)=c.cells.length+1:=by omega
  have t2:(((i:Int)+1).toNat:Nat)=i+1:=by omega
  have e1:RT n c (i:Int) q pos ln lost e (.s0 (o.set (i+1) a))=some (.s0 (o.set (i+1) (UV q (o.getD i 0) a e))):=by
   unfold RT iH VA
   dsimp only
   simp only [zAL,t1,t2,zAs,zAn,ho];rw [zAE ⟨h e (.head _),by omega,by omega⟩,getD_set_ne (by omega),Fw (by omega),List.set_set];unfold UV
   by_cases hA:q.values.getD e.toNat 0>o.getD i 0
   ·rw [zAJ hA,zAI,zAE ⟨As.2 ⟨by omega,by omega⟩,by omega,by omega⟩,zAE hA]
   ·rw [zAC hA,zAH,zAU hA]
  simp only [Bl];rw [e1,zAF,g9 Ao hi ho l _ fun e he=>h e (.tail _ he)];rfl
theorem iA {n ln i:Nat} {x:Int} {o4:List Int} (Ao:c.cells.length<=256) (hi:i<c.cells.length) {o:List Int} (ho:o.length=c.cells.length+1): ∀ (l:List Int) (a:Int),(∀ e∈l,0<=e/\ e<((q.values.length:Nat):Int)) ->
 Bl (RR n c q pos ln lost ((i:Int),x) o4) l (.s0 (o.set i a))=some (.s0 (o.set i (l.foldl (Tg q (o.getD (i+1) 0)) a)))
 | [],_,_=>rfl
 | e::l,a,h=>by
  have t1:((((c.cells.length:Nat):Int)+1).toNat:Nat)=c.cells.length+1:=by omega
  have t2:(((i:Int)+1).toNat:Nat)=i+1:=by omega
  have e1:RR n c q pos ln lost ((i:Int),x) o4 e (.s0 (o.set i a))=some (.s0 (o.set i (Tg q (o.getD (i+1) 0) a e))):=by
   unfold RR iE U9
   dsimp only
   simp only [zAL,t1,t2,zAs,zAn,ho];rw [zAE ⟨h e (.head _),As.2 ⟨by omega,by omega⟩,by omega,by omega⟩,getD_set_ne (by omega),Fw (by omega),List.set_set];unfold Tg
   by_cases hA:q.values.getD e.toNat 0<o.getD (i+1) 0
   ·rw [zAJ hA,zAI,zAE ⟨by omega,by omega⟩,zAE hA]
   ·rw [zAC hA,zAH,zAU hA]
  simp only [Bl];rw [e1,zAF,iA Ao hi ho l _ fun e he=>h e (.tail _ he)];rfl
theorem Sm.i63 (hk:k<=16) {x:Int} (h:Sm k x):0<=x/\ x<9223372036854775808:=by
 have h1:=NC (k:=k) (zAt hk (by decide));obtain ⟨h2,h3⟩:=h;omega
theorem iB {n:Nat} {o4:List Int} (W:C2 c k pos) (V:FS q k): ∀ (m:Nat) (o:List Int),m<=c.cells.length -> o.length=c.cells.length+1 -> (∀ j,m<=j -> j<=c.cells.length -> o.getD j 0=Ji q c pos j) ->
 ∃ o',Bl (RS n c q pos pos.length lost o4) (T6 c.cells m) (.s0 o)=some (.s0 o')/\ o'.length=c.cells.length+1/\ ∀ j,j<=c.cells.length -> o'.getD j 0=Ji q c pos j
 | 0,o,_,ho,h=>⟨o,rfl,ho,fun j hj=>h j (zEj _) hj⟩
 | m+1,o,hm,ho,h=>by
  have hc:=W.cells m (by omega);have CT:=W.at (a:=m) (by omega);have Ao:=W.len;have t1:((((c.cells.length:Nat):Int)+1).toNat:Nat)=c.cells.length+1:=by omega
  have e1:RS n c q pos pos.length lost o4 ((m:Int),c.cells.getD m 0) (.s0 o)=some (.s0 (o.set m (Ji q c pos m))):=by
   unfold RS iD U8
   dsimp only
   simp only [zAL,t1,zAs];rw [zAE ⟨by omega,by omega,hc,CT.i63 W.k⟩];refine (congrArg (fun z=>Option.bind z _) (iA Ao (by omega) ho (B5 (BN c pos m)) (-1) fun e he=>(V.sym W.k CT e he).1)).trans ?_;rw [zAF]
   have e2:Ji q c pos m=(B5 (BN c pos m)).foldl (Tg q (o.getD (m+1) 0)) (-1):=by
    rw [h (m+1) (zAp _) hm];unfold Ji;rw [show c.cells.length-m=c.cells.length-(m+1)+1 by omega];simp only [dV];rw [show c.cells.length-1-(c.cells.length-(m+1))=m by omega]
   rw [e2]
  obtain ⟨o',h1,h2,h3⟩:=iB W V m (o.set m (Ji q c pos m)) (by omega) (by rw [zAn];exact ho) fun j hj Gm=>by
   by_cases e:m=j
   ·subst e;exact Fw (by omega)
   ·rw [getD_set_ne e];exact h j (by omega) Gm
  refine ⟨o',?_,h2,h3⟩;simp only [T6,Bl];rw [e1,zAF,h1]
theorem su {n:Nat} {o4 o6:List Int} (W:C2 c k pos) (V:FS q k) (h4:o4.length=c.cells.length+1) (h6:o6.length=c.cells.length+1) (hb: ∀ j,j<=c.cells.length -> o4.getD j 0=QQ q c pos j) (ha: ∀ j,j<=c.cells.length -> o6.getD j 0=Ji q c pos j) (hl:lost.length=pos.length) (hn:c.cells.length+1<=n):
 ∃ l,Hl c q pos pos.length lost n (.l2 0 lost o4 o6)=some (true,l)/\ B3 c pos lost c.cells.length (fun a s=>M6 q c pos a s=true) l:=by
 have lt: ∀ i,i<c.cells.length -> ((i:Nat):Int)<((c.cells.length:Nat):Int):=fun i hi=>by omega
 have t1:((((c.cells.length:Nat):Int)+1).toNat:Nat)=c.cells.length+1:=by omega
 have Ao:=W.len
 have T:=HM (fun n (s:List Int) i=>Hl c q pos pos.length lost n (.l2 i s o4 o6)) c.cells.length 1
  (fun i s=>B3 c pos lost i (fun a s=>M6 q c pos a s=true) s) (fun n i s Gl hi hI=>?_) (n:=n) (s:=lost) (by omega) (B3.zero hl)
 ·obtain ⟨n3,l,Lu,_,e2,hL⟩:=T;obtain ⟨n4,rfl⟩: ∃ n4,n3=n4+1:=⟨n3-1,by omega⟩;refine ⟨l,e2.trans ?_,hL⟩
  show RO n4 (Hl c q pos pos.length lost n4) c q pos pos.length lost (c.cells.length:Int) l o4 o6=_
  unfold RO;rw [zAC (by omega),zAH]
 ·have hc:=W.cells i hi;have hr:=W.r64 hi;have CT:=W.at hi;have t2:(((i:Int)+1).toNat:Nat)=i+1:=by omega
  obtain ⟨l',e1,n1,f1⟩:=je (n:=n) (q:=q) W hi hI.1 J3.s0 (VC n c (i:Int) q pos pos.length o4 o6) (M6 q c pos i) fun s l hs hl=>by
   have Gj:=V.len;have g1:(0:Int)<=(s:Int)/\ (s:Int)<((q.values.length:Nat):Int):=by omega
   have hk:=W.k;have g2:(0:Int)<=(s:Int)/\ (s:Int)<=((IntKind.i64.bits:Nat):Int):=⟨by omega,by show (s:Int)<=64;omega⟩;obtain ⟨l2,e2,_,_⟩:=KL (lost:=l) (n:=n) (ss:=IntKind.i64.wrap (1*2 ^ s)) (c:=c) (q:=q) hc.1 hc.2 hl;unfold M6 VC iJ VB
   dsimp only
   simp only [zAL,t1,t2,zAs,h4,h6];rw [zAE ⟨g1,by omega,by omega⟩,hb i (by omega),ha (i+1) (by omega)];cases hA:decide (q.values.getD s 0<=QQ q c pos i)
   ·rw [zAH,zAE ⟨As.2 ⟨by omega,by omega⟩,by omega,by omega⟩,zEa];cases hB:decide (q.values.getD s 0>=Ji q c pos (i+1))
    ·rfl
    ·rw [zAI,zAI,zAE g2,e2];rfl
   ·rw [zAI,Bool.true_or,zAI,zAE g2,e2];rfl
  show ∃ s',RO n (Hl c q pos pos.length lost n) c q pos pos.length lost (i:Int) s o4 o6=_/\ _
  unfold RO;rw [zAJ (lt i hi),zAI];simp only [zAL];rw [zAE ⟨⟨by omega,lt i hi⟩,hc,CT.i63 W.k⟩];refine ⟨l',?_,hI.step n1 f1⟩;refine (congrArg (fun z=>Option.bind z _) e1).trans ?_;rw [zAF];simp only;rw [zAE hr.2]
theorem sw {n:Nat} (W:C2 c k pos) (V:FS q k) (hl:lost.length=pos.length) (hn:2*c.cells.length+3<=n):
 ∃ l,LT n c q pos pos.length lost=some (true,l)/\ B3 c pos lost c.cells.length (fun a s=>M6 q c pos a s=true) l:=by
 have lt: ∀ i,i<c.cells.length -> ((i:Nat):Int)<((c.cells.length:Nat):Int):=fun i hi=>by omega
 have t1:((((c.cells.length:Nat):Int)+1).toNat:Nat)=c.cells.length+1:=by omega
 have Ao:=W.len
 have S:=HM (fun n (s:List Int) i=>Hl c q pos pos.length lost n (.l1 i s)) c.cells.length (c.cells.length+3)
  (fun i s=>s.length=c.cells.length+1/\ ∀ j,j<=i -> s.getD j 0=QQ q c pos j) (fun n i s _ hi hI=>?_) (n:=n) (s:=(List.replicate (c.cells.length+1) (0:Int)).set 0 (-1)) (by omega) ⟨by simp,fun j hj=>?_⟩
 ·obtain ⟨n1,o4,GP,_,e1,h4,hb⟩:=S;obtain ⟨n2,rfl⟩: ∃ n2,n1=n2+1:=⟨n1-1,by omega⟩
  have e0:LT n c q pos pos.length lost=Hl c q pos pos.length lost n (.l1 0 ((List.replicate (c.cells.length+1) (0:Int)).set 0 (-1))):=by
   unfold LT iC;simp only [t1,zAs,zAl];rw [zAE ⟨As.2 ⟨by omega,by omega⟩,⟨trivial,by omega,by omega⟩,⟨by omega,by omega⟩,by omega,⟨by omega,by omega⟩,by omega⟩]
  have e2:LT n c q pos pos.length lost=RQ n2 (Hl c q pos pos.length lost n2) c q pos pos.length lost (c.cells.length:Int) o4:=e0.trans e1;unfold RQ at e2;rw [zAC (by omega),zAH,zDM (zAt Ao (by decide)) (by omega),zAF] at e2;simp only [t1,zAs] at e2
  obtain ⟨o6,e3,h6,ha⟩:=iB (lost:=lost) (n:=n2) (o4:=o4) W V c.cells.length ((List.replicate (c.cells.length+1) (0:Int)).set c.cells.length 100) (zAp _) (by simp) fun j hj Gm=>by
   obtain rfl:j=c.cells.length:=by omega
   rw [Fw (by simp)];unfold Ji;rw [Nat.sub_self];rfl
  rw [e3,zAF] at e2;obtain ⟨l,e4,hL⟩:=su (n:=n2) W V h4 h6 (fun j hj=>hb j hj) ha hl (by omega);exact ⟨l,e2.trans e4,hL⟩
 ·obtain ⟨h4,hb⟩:=hI;have hc:=W.cells i hi;have hr:=W.r64 hi;have CT:=W.at hi;have t2:(((i:Int)+1).toNat:Nat)=i+1:=by omega
  show ∃ s',RQ n (Hl c q pos pos.length lost n) c q pos pos.length lost (i:Int) s=_/\ _
  unfold RQ;rw [zAJ (lt i hi),zAI];simp only [zAL,t1,t2,zAs];rw [zAE ⟨⟨by omega,lt i hi⟩,hr.2,by omega,by omega,hc,CT.i63 W.k⟩];refine ⟨s.set (i+1) (QQ q c pos (i+1)),?_,by rw [zAn];exact h4,fun j hj=>?_⟩
  ·refine (congrArg (fun z=>Option.bind z _) (g9 Ao hi h4 (B5 (BN c pos i)) 100 fun e he=>(V.sym W.k CT e he).1)).trans ?_;rw [zAF];simp only;rw [zAE hr.2,hb i (zAp _)];rfl
  ·by_cases e:i+1=j
   ·subst e;exact Fw (by omega)
   ·rw [getD_set_ne e];exact hb j (by omega)
 ·obtain rfl:j=0:=by omega
  rw [Fw (by simp)];rfl
end
end Go.Proofs.YtkjbblkieglmlaaGreatDoor
namespace Go.Proofs.YtkjbblkieglmlaaGreatDoor
open Go.RowKit
section
variable {k:Nat}
theorem iq {T1 T2:Type} (KG:List Int -> Int -> Int -> T1) (PI:List Int -> Int -> Int -> T2) (f1:Int -> Int -> T1 -> Option T1) (f2:Int -> T2 -> Option T2) (ok:Nat -> Nat -> Bool) {a b:Int} (ha:Sm k a) (hb:Sm k b) (hk:k<=16)
 (h1: ∀ (s t:Nat) (l:List Int) (x y:Int),s<k -> t<k -> f1 s t (KG l x y)=some (bif ok s t then KG l (bits .or .i64 x (IntKind.i64.wrap (1*2 ^ s))) (bits .or .i64 y (IntKind.i64.wrap (1*2 ^ t))) else KG l x y))
 (h2: ∀ (s:Nat) (l:List Int) (x y x' y':Int),s<k -> Bl (f1 s) (B5 b) (KG l x y)=some (KG l x' y') -> f2 s (PI l x y)=some (PI l x' y')) (l:List Int):
 ∃ x y,Bl f2 (B5 a) (PI l 0 0)=some (PI l x y)/\ (∀ u,tb x u=true↔tb a u=true/\ ∃ t,tb b t=true/\ ok u t=true)/\ (∀ u,tb y u=true↔tb b u=true/\ ∃ s,tb a s=true/\ ok s u=true):=by
 have JH:k<=62:=zAt hk (by decide)
 have WC: ∀ (s:Nat) (x y:Int),s<k -> ∃ x' y',Bl (f1 s) (B5 b) (KG l x y)=some (KG l x' y')/\ (∀ u,tb x' u=true↔tb x u=true∨(u=s/\ ∃ t,tb b t=true/\ ok s t=true))/\ (∀ u,tb y' u=true↔tb y u=true∨(tb b u=true/\ ok s u=true)):=by
  intro s x y hs
  have key:=W6 (f:=f1 s) (fun pre st=>∃ x' y',st=KG l x' y'/\ (∀ u,tb x' u=true↔tb x u=true∨(u=s/\ ∃ t:Nat,(t:Int)∈pre/\ ok s t=true))/\ (∀ u:Nat,tb y' u=true↔tb y u=true∨((u:Int)∈pre/\ ok s u=true)))
   (B5 b) [] (KG l x y) ⟨x,y,rfl,fun u=>⟨.inl,fun h=>h.elim id fun ⟨_,t,h,_⟩=>(by cases h)⟩,fun u=>⟨.inl,fun h=>h.elim id fun ⟨h,_⟩=>(by cases h)⟩⟩ ?_
  ·obtain ⟨st,e,x',y',rfl,hx,hy⟩:=key;refine ⟨x',y',e,fun u=>?_,fun u=>?_⟩
   ·rw [hx,zEN];constructor
    ·rintro (h | ⟨e1,t,h,h3⟩)
     ·exact .inl h
     ·obtain ⟨t',e2,_,h4⟩:=(HK hb JH).1 h;have:t=t':=by omega
      subst this;exact .inr ⟨e1,t,h4,h3⟩
    ·rintro (h | ⟨e1,t,h,h3⟩)
     ·exact .inl h
     ·exact .inr ⟨e1,t,(HK hb JH).2 ⟨t,rfl,zEq fun Cu=>(by rw [hb.hi Cu] at h;cases h),h⟩,h3⟩
   ·rw [hy,zEN];constructor
    ·rintro (h | ⟨h,h3⟩)
     ·exact .inl h
     ·obtain ⟨t',e2,_,h4⟩:=(HK hb JH).1 h;have:u=t':=by omega
      subst this;exact .inr ⟨h4,h3⟩
    ·rintro (h | ⟨h,h3⟩)
     ·exact .inl h
     ·exact .inr ⟨(HK hb JH).2 ⟨u,rfl,zEq fun Cu=>(by rw [hb.hi Cu] at h;cases h),h⟩,h3⟩
  ·rintro pre e _ he ⟨x',y',rfl,hx,hy⟩;obtain ⟨t,rfl,ht,_⟩:=(HK hb JH).1 he;rw [h1 s t l x' y' hs ht];cases ho:ok s t
   ·rw [zAH];refine ⟨_,rfl,x',y',rfl,fun u=>?_,fun u=>?_⟩
    ·rw [hx];constructor
     ·rintro (h | ⟨e1,t',h,h3⟩)
      ·exact .inl h
      ·exact .inr ⟨e1,t',zA6 _ h,h3⟩
     ·rintro (h | ⟨e1,t',h,h3⟩)
      ·exact .inl h
      ·rcases zD5.1 h with h | h
       ·exact .inr ⟨e1,t',h,h3⟩
       ·have:t'=t:=by have:=zAu.1 h;omega
        subst this;rw [ho] at h3;cases h3
    ·rw [hy];constructor
     ·rintro (h | ⟨h,h3⟩)
      ·exact .inl h
      ·exact .inr ⟨zA6 _ h,h3⟩
     ·rintro (h | ⟨h,h3⟩)
      ·exact .inl h
      ·rcases zD5.1 h with h | h
       ·exact .inr ⟨h,h3⟩
       ·have:u=t:=by have:=zAu.1 h;omega
        subst this;rw [ho] at h3;cases h3
   ·rw [zAI];refine ⟨_,rfl,_,_,rfl,fun u=>?_,fun u=>?_⟩
    ·rw [Jt,zAz,hx,Js (by omega),zAv];constructor
     ·rintro ((h | ⟨e1,t',h,h3⟩) | rfl)
      ·exact .inl h
      ·exact .inr ⟨e1,t',zA6 _ h,h3⟩
      ·exact .inr ⟨rfl,t,zD3 _ (.head _),ho⟩
     ·rintro (h | ⟨e1,t',h,h3⟩)
      ·exact .inl (.inl h)
      ·exact .inr e1.symm
    ·rw [Jt,zAz,hy,Js (by omega),zAv];constructor
     ·rintro ((h | ⟨h,h3⟩) | rfl)
      ·exact .inl h
      ·exact .inr ⟨zA6 _ h,h3⟩
      ·exact .inr ⟨zD3 _ (.head _),ho⟩
     ·rintro (h | ⟨h,h3⟩)
      ·exact .inl (.inl h)
      ·rcases zD5.1 h with h | h
       ·exact .inl (.inr ⟨h,h3⟩)
       ·exact .inr (by have:=zAu.1 h;omega)
 have key:=W6 (f:=f2) (fun pre st=>∃ x y,st=PI l x y/\ (∀ u:Nat,tb x u=true↔(u:Int)∈pre/\ ∃ t,tb b t=true/\ ok u t=true)/\ (∀ u,tb y u=true↔tb b u=true/\ ∃ s:Nat,(s:Int)∈pre/\ ok s u=true))
  (B5 a) [] (PI l 0 0) ⟨0,0,rfl,fun u=>⟨fun h=>absurd h Mi,fun ⟨h,_⟩=>(by cases h)⟩,fun u=>⟨fun h=>absurd h Mi,fun ⟨_,s,h,_⟩=>(by cases h)⟩⟩ ?_
 ·obtain ⟨st,e,x,y,rfl,hx,hy⟩:=key;refine ⟨x,y,e,fun u=>?_,fun u=>?_⟩
  ·rw [hx,zEN];constructor
   ·rintro ⟨h,h2⟩;obtain ⟨t',e2,_,h4⟩:=(HK ha JH).1 h;have:u=t':=by omega
    subst this;exact ⟨h4,h2⟩
   ·rintro ⟨h,h2⟩;exact ⟨(HK ha JH).2 ⟨u,rfl,zEq fun Cu=>(by rw [ha.hi Cu] at h;cases h),h⟩,h2⟩
  ·rw [hy,zEN];constructor
   ·rintro ⟨h0,s,h,h3⟩;obtain ⟨t',e2,_,h4⟩:=(HK ha JH).1 h;have:s=t':=by omega
    subst this;exact ⟨h0,s,h4,h3⟩
   ·rintro ⟨h0,s,h,h3⟩;exact ⟨h0,s,(HK ha JH).2 ⟨s,rfl,zEq fun Cu=>(by rw [ha.hi Cu] at h;cases h),h⟩,h3⟩
 ·rintro pre e _ he ⟨x,y,rfl,hx,hy⟩;obtain ⟨s,rfl,hs,_⟩:=(HK ha JH).1 he;obtain ⟨x',y',e1,Ln,xd⟩:=WC s x y hs;refine ⟨_,h2 s l x y x' y' hs e1,x',y',rfl,fun u=>?_,fun u=>?_⟩
  ·rw [Ln,hx];constructor
   ·rintro (⟨h,h2⟩ | ⟨rfl,h2⟩)
    ·exact ⟨zA6 _ h,h2⟩
    ·exact ⟨zD3 _ (.head _),h2⟩
   ·rintro ⟨h,h2⟩;rcases zD5.1 h with h | h
    ·exact .inl ⟨h,h2⟩
    ·have:u=s:=by have:=zAu.1 h;omega
     subst this;exact .inr ⟨rfl,h2⟩
  ·rw [xd,hy];constructor
   ·rintro (⟨h,s',h2,h3⟩ | ⟨h,h2⟩)
    ·exact ⟨h,s',zA6 _ h2,h3⟩
    ·exact ⟨h,s,zD3 _ (.head _),h2⟩
   ·rintro ⟨h,s',h2,h3⟩;rcases zD5.1 h2 with h2 | h2
    ·exact .inl ⟨h,s',h2,h3⟩
    ·have:s'=s:=by have:=zAu.1 h2;omega
     subst this;exact .inr ⟨h,h3⟩
end
theorem Xm {s:Nat} (hs:s<64) (x:Int):(bits .and .i64 (IntKind.i64.wrap (1*2 ^ s)) x==0)= !tb x s:=by
 rw [zEi,zDu,Ug (Ks _ _ _)];constructor
 ·intro h;have:=h s hs;rw [Ok,Js hs,zAJ rfl,zD9] at this;rw [this];rfl
 ·intro h i hi;rw [Ok,Js hs]
  by_cases e:s=i
  ·subst e;rw [zAJ rfl,zD9];cases hx:tb x s
   ·rfl
   ·rw [hx] at h;cases h
  ·rw [zAC e,zEg]
def IS (q:AA) (c:AC) (s t:Nat):Bool:=decide ((if 0-(q.values.getD s 0-q.values.getD t 0)>q.values.getD s 0-q.values.getD t 0 then 0-(q.values.getD s 0-q.values.getD t 0) else q.values.getD s 0-q.values.getD t 0)>=c.lo)
def Ho (c:AC) (s t:Nat):Bool:=(!tb c.set s|| !tb c.other t)&&(!tb c.set t|| !tb c.other s)
def IP (ok:Nat -> Nat -> Bool) (c:AC) (pos:List Int) (a s:Nat):Prop:=
 if a=0 then ¬ ∃ t,tb (BN c pos 1) t=true/\ ok s t=true else ¬ ∃ t,tb (BN c pos 0) t=true/\ ok t s=true
section
variable {c:AC} {k:Nat} {pos lost:List Int} {q:AA}
theorem zDc {n ln:Nat} (V:FS q k) {s t:Nat} (hs:s<k) (ht:t<k):Xt n s t c q pos ln lost=some (IS q c s t,lost):=by
 have h1:=V.val s hs;have h2:=V.val t ht;have h3:=V.len;unfold Xt oH;simp only [zAL];rw [zAE ⟨by omega,by omega,As.2 ⟨by omega,by omega⟩,As.2 ⟨by omega,by omega⟩⟩];rfl
theorem u0 {n ln:Nat} {s t:Nat} (hs:s<64) (ht:t<64):Vp n s t c q pos ln lost=some (Ho c s t,lost):=by
 have g: ∀ s:Nat,s<64 -> (0:Int)<=(s:Int)/\ (s:Int)<=((IntKind.i64.bits:Nat):Int):=fun s hs=>⟨by omega,by show (s:Int)<=64;omega⟩
 unfold Vp jH;simp only [zAL];rw [zAE ⟨g s hs,g t ht⟩,Xm hs,Xm hs,Xm ht,Xm ht];unfold Ho;cases tb c.set s <;> cases tb c.set t <;> cases tb c.other s <;> cases tb c.other t <;> rfl
theorem ir {n:Nat} (W:C2 c k pos) (h2:c.cells.length=2) (hl:lost.length=pos.length) (ok:Nat -> Nat -> Bool) {x y:Int}
 (hx: ∀ u,tb x u=true↔tb (BN c pos 0) u=true/\ ∃ t,tb (BN c pos 1) t=true/\ ok u t=true) (hy: ∀ u,tb y u=true↔tb (BN c pos 1) u=true/\ ∃ s,tb (BN c pos 0) s=true/\ ok s u=true):
 ∃ l1 l,DU n (c.cells.getD 0 0) (bits .xor .i64 (-1) x) c q pos pos.length lost=some l1/\ DU n (c.cells.getD 1 0) (bits .xor .i64 (-1) y) c q pos pos.length l1=some l/\ B3 c pos lost c.cells.length (IP ok c pos) l:=by
 have c0:=W.cells 0 (by omega);have c1:=W.cells 1 (by omega);obtain ⟨l1,e1,n1,f1⟩:=KL (lost:=lost) (n:=n) (ss:=bits .xor .i64 (-1) x) (c:=c) (q:=q) c0.1 c0.2 hl;obtain ⟨l,e2,n2,f2⟩:=KL (lost:=l1) (n:=n) (ss:=bits .xor .i64 (-1) y) (c:=c) (q:=q) c1.1 c1.2 n1;refine ⟨l1,l,e1,e2,?_⟩;have lt: ∀ {a:Nat} {s:Nat},a<c.cells.length -> tb (BN c pos a) s=true -> s<64:=fun {a s} ha h=>zEq fun Cu=>by rw [Uf Cu] at h;cases h
 rw [h2];refine B3.step (i:=1) (l:=l1) (B3.step (i:=0) (l:=lost) (B3.zero hl) n1 fun j s=>?_) n2 fun j s=>?_
 ·rw [f1,zAz,zAN,zAN,zAv];constructor
  ·rintro (h | ⟨rfl,h3,h4⟩)
   ·exact .inl h
   ·refine .inr ⟨rfl,h3,?_⟩;rw [Ue _ (lt (a:=0) (by omega) h3)] at h4;unfold IP;rw [zAE rfl];intro h5;rw [(hx s).2 ⟨h3,h5⟩] at h4;cases h4
  ·rintro (h | ⟨rfl,h3,h4⟩)
   ·exact .inl h
   ·refine .inr ⟨rfl,h3,?_⟩;rw [Ue _ (lt (a:=0) (by omega) h3)];unfold IP at h4;rw [zAE rfl] at h4;cases hb:tb x s
    ·rfl
    ·exact absurd ((hx s).1 hb).2 h4
 ·rw [f2,zAz,zAN,zAN,zAv];constructor
  ·rintro (h | ⟨rfl,h3,h4⟩)
   ·exact .inl h
   ·refine .inr ⟨rfl,h3,?_⟩;rw [Ue _ (lt (a:=1) (by omega) h3)] at h4;unfold IP;rw [zAU (by decide)];intro h5;rw [(hy s).2 ⟨h3,h5⟩] at h4;cases h4
  ·rintro (h | ⟨rfl,h3,h4⟩)
   ·exact .inl h
   ·refine .inr ⟨rfl,h3,?_⟩;rw [Ue _ (lt (a:=1) (by omega) h3)];unfold IP at h4;rw [zAU (by decide)] at h4;cases hb:tb y s
    ·rfl
    ·exact absurd ((hy s).1 hb).2 h4
theorem zDd {n:Nat} (W:C2 c k pos) (V:FS q k) (h2:c.cells.length=2) (hl:lost.length=pos.length):
 ∃ l,OV n c q pos pos.length lost=some (true,l)/\ B3 c pos lost c.cells.length (IP (IS q c) c pos) l:=by
 have c0:=W.cells 0 (by omega);have c1:=W.cells 1 (by omega);have s0:=W.at (a:=0) (by omega);have s1:=W.at (a:=1) (by omega);have hk:=W.k;have g: ∀ s:Nat,s<k -> (0:Int)<=(s:Int)/\ (s:Int)<=((IntKind.i64.bits:Nat):Int):=fun s hs=>⟨by omega,by show (s:Int)<=64;omega⟩
 obtain ⟨x,y,e,hx,hy⟩:=iq KA.s0 KB.s0 (Vb n c q pos pos.length) (Vc n c q pos pos.length) (IS q c) s0 s1 hk
  (fun s t l x y hs ht=>by
   unfold Vb i5 Va
   dsimp only
   rw [zDc V hs ht,zAF];cases IS q c s t
   ·rfl
   ·simp only [zAI,zAL];rw [zAE ⟨g s hs,g t ht⟩])
  (fun s l x y x' y' hs he=>by
   unfold Vc i4 VZ
   dsimp only
   rw [zAE (show 0<=pos.getD (c.cells.getD 1 0).toNat 0/\ pos.getD (c.cells.getD 1 0).toNat 0<9223372036854775808 from s1.i63 hk)];refine (congrArg (fun z=>Option.bind z _) he).trans ?_;rfl) lost
 obtain ⟨l1,l,e1,e2,hL⟩:=ir (n:=n) (q:=q) W h2 hl (IS q c) hx hy;refine ⟨l,?_,hL⟩;unfold OV dM ZZ iz;rw [zAE ⟨by omega,by omega,c0,c1,s0.i63 hk⟩];refine (congrArg (fun z=>Option.bind (Option.bind z _) _) e).trans ?_;rw [zAF];simp only;rw [e1,zAF,e2];rfl
theorem u5 {n:Nat} (W:C2 c k pos) (h2:c.cells.length=2) (hl:lost.length=pos.length):
 ∃ l,NO n c q pos pos.length lost=some (true,l)/\ B3 c pos lost c.cells.length (IP (Ho c) c pos) l:=by
 have c0:=W.cells 0 (by omega);have c1:=W.cells 1 (by omega);have s0:=W.at (a:=0) (by omega);have s1:=W.at (a:=1) (by omega);have hk:=W.k;have g: ∀ s:Nat,s<k -> (0:Int)<=(s:Int)/\ (s:Int)<=((IntKind.i64.bits:Nat):Int):=fun s hs=>⟨by omega,by show (s:Int)<=64;omega⟩
 obtain ⟨x,y,e,hx,hy⟩:=iq J8.s0 J9.s0 (VX n c q pos pos.length) (VY n c q pos pos.length) (Ho c) s0 s1 hk
  (fun s t l x y hs ht=>by
   unfold VX iw VW
   dsimp only
   rw [u0 (by omega) (by omega),zAF];cases Ho c s t
   ·rfl
   ·simp only [zAI,zAL];rw [zAE ⟨g s hs,g t ht⟩])
  (fun s l x y x' y' hs he=>by
   unfold VY iv VV
   dsimp only
   rw [zAE (show 0<=pos.getD (c.cells.getD 1 0).toNat 0/\ pos.getD (c.cells.getD 1 0).toNat 0<9223372036854775808 from s1.i63 hk)];refine (congrArg (fun z=>Option.bind z _) he).trans ?_;rfl) lost
 obtain ⟨l1,l,e1,e2,hL⟩:=ir (n:=n) (q:=q) W h2 hl (Ho c) hx hy;refine ⟨l,?_,hL⟩;unfold NO Zn ZY iu;rw [zAE ⟨by omega,by omega,c0,c1,s0.i63 hk⟩];refine (congrArg (fun z=>Option.bind (Option.bind z _) _) e).trans ?_;rw [zAF];simp only;rw [e1,zAF,e2];rfl
end
end Go.Proofs.YtkjbblkieglmlaaGreatDoor
namespace Go.Proofs.YtkjbblkieglmlaaGreatDoor
open Go.RowKit
set_option maxRecDepth 100000
set_option maxHeartbeats 40000000
def fH:ST:=.rd 0 (.rd 1 (.rd 2 (.rd 3 (.rd 4 (.rd 6 (.rd 7 (.rd 8 (.rd 9 (.rd 10 (.ef 5 (.rd 12 (.ef 11 (.rd 13 (.fin [0,1] [0,2,3])) (.no))) (.ef 11 (.ef 5 (.rd 12 (.rd 13 (.fin [1,0] [0,2,3]))) (.no)) (.no))))))))))))
theorem rU:Bp (Ah Tryz.f168 1) [5,11] fH:=by unfold Bp;kernel_rfl
def fG:ST:=.rd 0 (.rd 1 (.rd 2 (.rd 3 (.rd 4 (.rd 5 (.rd 6 (.rd 7 (.rd 8 (.rd 9 (.rd 10 (.rd 11 (.rd 12 (.rd 13 (.rd 14 (.rd 15 (.rd 16 (.rd 17 (.rd 18 (.rd 19 (.rd 20 (.rd 21 (.rd 22 (.rd 23 (.rd 24 (.rd 25 (.rd 26 (.rd 27 (.rd 28 (.rd 29 (.rd 30 (.rd 31 (.rd 32 (.ef 33 (.rd 34 (.ef 35 (.fin [] [0,2,3,30,31,32]) (.no))) (.no))))))))))))))))))))))))))))))))))
theorem rT:Bp (Ah Tryz.f168 5) [33] fG:=by unfold Bp;kernel_rfl
def Iz:Bi:=fun i=>match i with
 | 1=>.tre [5,11] fH
 | 5=>.tre [33] fG
 | _=>.no
def YM (pos:List Int) (c:AC) (q:AA) (ln:Nat) (lost:List Int):St:=⟨(AG 120 [(0,.ref 0 0),(2,.msl 2 1 0 pos.length),(3,.msl 3 1 0 pos.length)]),([some (.cells (AK c++AD q++[.ints pos,.msl 1 1 0 ln])),some (.ints lost),some (.bools (List.replicate pos.length false)),some (.bools (List.replicate pos.length false))]:DH)⟩
def eM (pos:List Int) (c:AC) (DE:Int) (q:AA) (ln:Nat) (lost:List Int) (o2 o3:List Bool):St:=⟨(AG 120 [(0,.ref 0 0),(2,.msl 2 1 0 pos.length),(3,.msl 3 1 0 pos.length),(30,.ints c.cells),(31,.i (c.cells.length:Int)),(32,.i DE)]),([some (.cells (AK c++AD q++[.ints pos,.msl 1 1 0 ln])),some (.ints lost),some (.bools (o2.set (0+((c.cells.getD ((DE).toNat) 0).toNat)) ((bits .and .i64 (pos.getD ((c.cells.getD ((DE).toNat) 0).toNat) 0) c.set) != 0))),some (.bools (o3.set (0+((c.cells.getD ((DE).toNat) 0).toNat)) ((bits .andNot .i64 (pos.getD ((c.cells.getD ((DE).toNat) 0).toNat) 0) c.set)==0)))]:DH)⟩
def k7 (c:AC) (q:AA) (pos:List Int) (ln:Nat) (lost:List Int) (o2 o3:List Bool):DH:=[some (.cells (AK c++AD q++[.ints pos,.msl 1 1 0 ln])),some (.ints lost),some (.bools o2),some (.bools o3)]
def k6 (c:AC) (q:AA) (pos:List Int) (ln:Nat) (lost:List Int) (o3:List Bool) (y2:(List Bool)):DH:=[some (.cells (AK c++AD q++[.ints pos,.msl 1 1 0 ln])),some (.ints lost),none,some (.bools o3),some (.bools y2)]
inductive PE where
 | l1 (DE:Int) (o2 o3:List Bool)
 | l2 (E7:List Bool) (x8:Nat) (Hc:List Int) (K4 F3:Int) (o2 o3:List Bool)
 | l3 (E7:List Bool) (x8:Nat) (Jr Fh:Int) (o1:List Int) (o2 o3:List Bool)
def SD (n:Nat) (self:PE -> Option ((List Bool)×(List Bool)×Bool×(List Int))) (c:AC) (q:AA) (pos:List Int) (ln:Nat) (lost:List Int) (DE:Int) (o2 o3:List Bool):Option ((List Bool)×(List Bool)×Bool×(List Int)):=
 bif (decide (DE<(c.cells.length:Int))) then
  if (0<=DE/\ DE<(c.cells.length:Int))/\ (0<=(c.cells.getD ((DE).toNat) 0)/\ (c.cells.getD ((DE).toNat) 0)<(pos.length:Int))/\ 0+((c.cells.getD ((DE).toNat) 0).toNat)<o2.length/\ 0+((c.cells.getD ((DE).toNat) 0).toNat)<o3.length/\ AL (DE+1) then
   self (.l1 (DE+1) (o2.set (0+((c.cells.getD ((DE).toNat) 0).toNat)) ((bits .and .i64 (pos.getD ((c.cells.getD ((DE).toNat) 0).toNat) 0) c.set) != 0)) (o3.set (0+((c.cells.getD ((DE).toNat) 0).toNat)) ((bits .andNot .i64 (pos.getD ((c.cells.getD ((DE).toNat) 0).toNat) 0) c.set)==0)))
  else none
 else
  if pos.length=o3.length then
   (WN n o3 true).bind fun y1=>
    bif (decide (y1<0)) then
     if pos.length=o2.length then
      some (o2,o3,false,lost)
     else none
    else
     if pos.length=o2.length then
      (ON n o2).bind fun y2=>
       (QJ n q.nbrs o2 y1).bind fun y3=>
        self (.l2 o2 y2.length y3.1 (y3.1.length:Int) 0 o3 y2)
     else none
  else none
def SC (n:Nat) (self:PE -> Option ((List Bool)×(List Bool)×Bool×(List Int))) (c:AC) (q:AA) (pos:List Int) (ln:Nat) (lost:List Int) (E7:List Bool) (x8:Nat) (Hc:List Int) (K4 F3:Int) (o2 o3:List Bool):Option ((List Bool)×(List Bool)×Bool×(List Int)):=
 bif (decide (F3<K4)) then
  if (0<=F3/\ F3<(Hc.length:Int))/\ (0<=(Hc.getD ((F3).toNat) 0)/\ (Hc.getD ((F3).toNat) 0)<(x8:Int))/\ 0+((Hc.getD ((F3).toNat) 0).toNat)<o3.length/\ AL (F3+1) then
   self (.l2 E7 x8 Hc K4 (F3+1) o2 (o3.set (0+((Hc.getD ((F3).toNat) 0).toNat)) false))
  else none
 else
  self (.l3 E7 x8 (x8:Int) 0 lost o2 o3)
def SB (n:Nat) (self:PE -> Option ((List Bool)×(List Bool)×Bool×(List Int))) (c:AC) (q:AA) (pos:List Int) (ln:Nat) (lost:List Int) (E7:List Bool) (x8:Nat) (Jr Fh:Int) (o1:List Int) (o2 o3:List Bool):Option ((List Bool)×(List Bool)×Bool×(List Int)):=
 bif (decide (Fh<Jr)) then
  if (0<=Fh/\ Fh<(x8:Int))/\ 0+((Fh).toNat)<o3.length then
   bif (o3.getD (0+((Fh).toNat)) false) then
    (DU n Fh c.set c q pos ln o1).bind fun y1=>
     if AL (Fh+1) then
      self (.l3 E7 x8 Jr (Fh+1) y1 o2 o3)
     else none
   else
    if AL (Fh+1) then
     self (.l3 E7 x8 Jr (Fh+1) o1 o2 o3)
    else none
  else none
 else
  if pos.length=o2.length then
   some (E7,o2,true,o1)
  else none
def jK (n:Nat) (self:PE -> Option ((List Bool)×(List Bool)×Bool×(List Int))) (c:AC) (q:AA) (pos:List Int) (ln:Nat) (lost:List Int):Option ((List Bool)×(List Bool)×Bool×(List Int)):=
 if ((pos.length:Int):Int)=(pos.length:Int)/\ 0<=(pos.length:Int)/\ ((pos.length:Int):Int)<=1000000000000 then
  self (.l1 0 (List.replicate pos.length false) (List.replicate pos.length false))
 else none
def Ed (c:AC) (q:AA) (pos:List Int) (ln:Nat) (lost:List Int):Nat -> PE -> Option ((List Bool)×(List Bool)×Bool×(List Int))
 | 0,_=>none
 | n+1,.l1 DE o2 o3=>SD n (Ed c q pos ln lost n) c q pos ln lost DE o2 o3
 | n+1,.l2 E7 x8 Hc K4 F3 o2 o3=>SC n (Ed c q pos ln lost n) c q pos ln lost E7 x8 Hc K4 F3 o2 o3
 | n+1,.l3 E7 x8 Jr Fh o1 o2 o3=>SB n (Ed c q pos ln lost n) c q pos ln lost E7 x8 Jr Fh o1 o2 o3
def NQ (n:Nat) (c:AC) (q:AA) (pos:List Int) (ln:Nat) (lost:List Int):Option ((List Bool)×(List Bool)×Bool×(List Int)):=jK n (Ed c q pos ln lost n) c q pos ln lost
def vC (n B:Nat) (N:Yd 2) (c:AC) (q:AA) (pos:List Int) (ln:Nat) (lost:List Int) (r:(List Bool)×(List Bool)×Bool×(List Int)):PE -> Prop
 | .l1 DE o2 o3=>∀ m0:Nat,n<=m0 -> TW B N (FQ Tryz.f168 2 (.tup 3 (L1 [.bools r.1,.bools r.2.1,.bool r.2.2.1])) [some (.cells (AK c++AD q++[.ints pos,.msl 1 1 0 ln])),some (.ints r.2.2.2)]) (A3 m0 (BB (AW Tryz.f168) 0 [])) ⟨AG 120 [(0,.ref 0 0),(2,.msl 2 1 0 pos.length),(3,.msl 3 1 0 pos.length),(30,.ints c.cells),(31,.i (c.cells.length:Int)),(32,.i DE)],[some (.cells (AK c++AD q++[.ints pos,.msl 1 1 0 ln])),some (.ints lost),some (.bools o2),some (.bools o3)]⟩
 | .l2 E7 x8 Hc K4 F3 o2 o3=>∀ m0:Nat,n<=m0 -> TW B N (FQ Tryz.f168 2 (.tup 3 (L1 [.bools r.1,.bools r.2.1,.bool r.2.2.1])) [some (.cells (AK c++AD q++[.ints pos,.msl 1 1 0 ln])),some (.ints r.2.2.2)]) (A3 m0 (BB (AW Tryz.f168) 2 [])) ⟨AG 120 [(0,.ref 0 0),(2,.bools E7),(3,.msl 2 1 0 pos.length),(8,.msl 3 1 0 x8),(90,.ints Hc),(91,.i K4),(92,.i F3)],[some (.cells (AK c++AD q++[.ints pos,.msl 1 1 0 ln])),some (.ints lost),some (.bools o2),some (.bools o3)]⟩
 | .l3 E7 x8 Jr Fh o1 o2 o3=>∀ m0:Nat,n<=m0 -> TW B N (FQ Tryz.f168 2 (.tup 3 (L1 [.bools r.1,.bools r.2.1,.bool r.2.2.1])) [some (.cells (AK c++AD q++[.ints pos,.msl 1 1 0 ln])),some (.ints r.2.2.2)]) (A3 m0 (BB (AW Tryz.f168) 4 [])) ⟨AG 120 [(0,.ref 0 0),(2,.bools E7),(3,.msl 2 1 0 pos.length),(8,.msl 3 1 0 x8),(101,.i Jr),(102,.i Fh)],[some (.cells (AK c++AD q++[.ints pos,.msl 1 1 0 ln])),some (.ints o1),some (.bools o2),some (.bools o3)]⟩
theorem vD (B:Nat) (N:Yd 2) (c:AC) (q:AA) (pos:List Int) (ln:Nat) (lost:List Int):Al (Ed c q pos ln lost) (vC · B N c q pos ln lost):=ia (fun _=>rfl) fun n AJ pt r h=>by
 cases pt
 case l1 DE o2 o3=>
  intro m0 AE;refine rd AE fun m0 AE=>?_
  revert r;apply gO
  exact bi 33 (gc (gi (jg rT (gc (gn fun g1=>jg g1 (jg g1 (jg g1 (gc (gi (jg g1 (gc (gi (jg (Eq.refl (eM pos c DE q ln lost o2 o3)) (gw 70 (lG (tg:=[([(33,2)],(eM pos c DE q ln lost o2 o3))]) Iz [0,1,2,3] (AJ _ _ · m0 AE)))))))))))))))) (gn fun g0=>cn fun y1 A8=>jc (sb [.msl 3 1 0 pos.length,.bool true] (xN A8) (k7 c q pos ln lost o2 o3) ⟨Ac.bools rfl g0,Ac.plain (by kernel_rfl),trivial⟩) (bi 74 (gn fun g1=>lF fun p=>ez Iz [2,3,4] [0,1,2,3] p [2,3] (H0.g g1 |>.g g0)) (gn fun g1=>cn fun y2 Bx=>jc (ES.snapNew (ds:=[.msl 2 1 0 pos.length]) (nR Bx) (k7 c q pos ln lost o2 o3) ⟨Ac.bools rfl g1,trivial⟩ rfl) (fun p r h=>by
   refine gz (AV 11 Iz) [0,1,2,3,4] p [2] (H0.g g1) (Cc (AW Tryz.f168) 11 []) (AG 120 [(0,.ref 0 0),(2,.bools o2),(3,.msl 3 1 0 pos.length),(7,.i y1),(8,.msl 4 1 0 y2.length)]) (k6 c q pos ln lost o3 y2) ?_;revert r;apply gO;exact cf zCo (k6 c q pos ln lost o3 y2) fun _=>lN Iz [0,1,3,4] (AJ _ _ · n Nat.le.refl)))))
 case l2 E7 x8 Hc K4 F3 o2 o3=>
  intro m0 AE;refine rd AE fun m0 AE=>?_
  revert r;apply gO;exact bi 93 (gc (gi (gc (gi (gc (gi (gw 99 (lG Iz [0,1,2,3] (AJ _ _ · m0 AE))))))))) (lN Iz [0,1,2,3] (AJ _ _ · n Nat.le.refl))
 case l3 E7 x8 Jr Fh o1 o2 o3=>
  intro m0 AE;refine rd AE fun m0 AE=>?_
  revert r;apply gO;exact bi 103 (gc (gi (gi (bi 108 (ce Fr [0,1] [some (.cells (AK c++AD q++[.ints pos,.msl 1 1 0 ln])),some (.ints o1),some (.bools o2),some (.bools o3)] fun _=>gw 117 (lG Iz [0,1,2,3] (AJ _ _ · m0 AE))) (gw 117 (lG Iz [0,1,2,3] (AJ _ _ · m0 AE))))))) (gn fun g0=>lF fun p=>ez Iz [2,3,4] [0,1,2] p [2] (H0.g g0))
theorem jJ {n:Nat} {c:AC} {q:AA} {pos:List Int} {ln:Nat} {lost:List Int} {r:(List Bool)×(List Bool)×Bool×(List Int)} (h:NQ n c q pos ln lost=some r):EQ 168 [.ref 0 0] [some (.cells (AK c++AD q++[.ints pos,.msl 1 1 0 ln])),some (.ints lost)] (.tup 3 (L1 [.bools r.1,.bools r.2.1,.bool r.2.2.1])) [some (.cells (AK c++AD q++[.ints pos,.msl 1 1 0 ln])),some (.ints r.2.2.2)] false:=by
 refine ot Tryz.func168 fun B N=>?_
 revert r;apply gO;exact jg rU (gn fun g0=>jg g0 (jg g0 (jg (Eq.refl (YM pos c q ln lost)) (jg g0 (jg g0 (jg (Eq.refl (YM pos c q ln lost)) (lN (tg:=[([],(YM pos c q ln lost))]) Iz [0,1,2,3] ((vD B N c q pos ln lost n) _ _ · n Nat.le.refl))))))))
inductive XX where
 | l1 (x3 x4:List Bool) (x5:Bool) (AZ BJ:Int) (o1:List Int)
def Ty (n:Nat) (self:XX -> Option (Bool×(List Int))) (c:AC) (q:AA) (pos:List Int) (ln:Nat) (lost:List Int) (x3 x4:List Bool) (x5:Bool) (AZ BJ:Int) (o1:List Int):Option (Bool×(List Int)):=
 bif (decide (BJ<AZ)) then
  bif (!x5) then
   if AL (BJ+1) then
    self (.l1 x3 x4 x5 AZ (BJ+1) o1)
   else none
  else
   if 0<=BJ/\ BJ<(x3.length:Int) then
    bif (!(x3.getD ((BJ).toNat) false)) then
     if AL (BJ+1) then
      self (.l1 x3 x4 x5 AZ (BJ+1) o1)
     else none
    else
     if 0<=BJ/\ BJ<(x4.length:Int) then
      bif (x4.getD ((BJ).toNat) false) then
       if AL (BJ+1) then
        self (.l1 x3 x4 x5 AZ (BJ+1) o1)
       else none
      else
       (Mn n q.nbrs x3 x4 BJ).bind fun y1=>
        bif y1.1 then
         (GI n BJ c q pos ln o1).bind fun y2=>
          if AL (BJ+1) then
           self (.l1 x3 x4 x5 AZ (BJ+1) y2)
          else none
        else
         if AL (BJ+1) then
          self (.l1 x3 x4 x5 AZ (BJ+1) o1)
         else none
     else none
   else none
 else
  some (true,o1)
def zCg (n:Nat) (self:XX -> Option (Bool×(List Int))) (c:AC) (q:AA) (pos:List Int) (ln:Nat) (lost:List Int):Option (Bool×(List Int)):=
 (NQ n c q pos ln lost).bind fun y1=>
  self (.l1 y1.1 y1.2.1 y1.2.2.1 (y1.1.length:Int) 0 y1.2.2.2)
def MJ (c:AC) (q:AA) (pos:List Int) (ln:Nat) (lost:List Int):Nat -> XX -> Option (Bool×(List Int))
 | 0,_=>none
 | n+1,.l1 x3 x4 x5 AZ BJ o1=>Ty n (MJ c q pos ln lost n) c q pos ln lost x3 x4 x5 AZ BJ o1
def XY (n:Nat) (c:AC) (q:AA) (pos:List Int) (ln:Nat) (lost:List Int):Option (Bool×(List Int)):=zCg n (MJ c q pos ln lost n) c q pos ln lost
def zCh (n B:Nat) (N:Yd 2) (c:AC) (q:AA) (pos:List Int) (ln:Nat) (lost:List Int) (r:Bool×(List Int)):XX -> Prop
 | .l1 x3 x4 x5 AZ BJ o1=>∀ m0:Nat,n<=m0 -> TW B N (FQ Tryz.f139 2 (.bool r.1) [some (.cells (AK c++AD q++[.ints pos,.msl 1 1 0 ln])),some (.ints r.2)]) (A3 m0 (BB (AW Tryz.f139) 0 [])) ⟨AG 52 [(0,.ref 0 0),(3,.bools x3),(4,.bools x4),(5,.bool x5),(16,.i AZ),(17,.i BJ)],[some (.cells (AK c++AD q++[.ints pos,.msl 1 1 0 ln])),some (.ints o1)]⟩
theorem zCi (B:Nat) (N:Yd 2) (c:AC) (q:AA) (pos:List Int) (ln:Nat) (lost:List Int):Al (MJ c q pos ln lost) (zCh · B N c q pos ln lost):=ia (fun _=>rfl) fun n AJ pt r h=>by
 cases pt
 case l1 x3 x4 x5 AZ BJ o1=>
  intro m0 AE;refine rd AE fun m0 AE=>?_
  revert r;apply gO;exact bi 18 (bi 21 (gw 51 (lG AB [0,1] (AJ _ _ · m0 AE))) (gi (bi 27 (gw 51 (lG AB [0,1] (AJ _ _ · m0 AE))) (gi (bi 33 (gw 51 (lG AB [0,1] (AJ _ _ · m0 AE))) (cf po [some (.cells (AK c++AD q++[.ints pos,.msl 1 1 0 ln])),some (.ints o1)] fun _=>bi 45 (ce Lc [0,1] [some (.cells (AK c++AD q++[.ints pos,.msl 1 1 0 ln])),some (.ints o1)] fun _=>gw 51 (lG AB [0,1] (AJ _ _ · m0 AE))) (gw 51 (lG AB [0,1] (AJ _ _ · m0 AE))))))))) (lE AB [2] [0,1])
theorem zCf {n:Nat} {c:AC} {q:AA} {pos:List Int} {ln:Nat} {lost:List Int} {r:Bool×(List Int)} (h:XY n c q pos ln lost=some r):EQ 139 [.ref 0 0] [some (.cells (AK c++AD q++[.ints pos,.msl 1 1 0 ln])),some (.ints lost)] (.bool r.1) [some (.cells (AK c++AD q++[.ints pos,.msl 1 1 0 ln])),some (.ints r.2)] false:=by
 refine ot Tryz.func139 fun B N=>?_
 revert r;apply gO;exact ce jJ [0,1] [some (.cells (AK c++AD q++[.ints pos,.msl 1 1 0 ln])),some (.ints lost)] fun _=>lN AB [0,1] ((zCi B N c q pos ln lost n) _ _ · n Nat.le.refl)
inductive Lg where
 | l1 (x3 x4:List Bool) (x20 x21:Int) (o1:List Int)
 | l2 (x3 x4:List Bool) (x8 x20 x21:Int) (BM:List Int) (CA BI:Int) (o1:List Int)
 | l3 (x3 x4:List Bool) (x7:Nat) (x8 x20 x21:Int) (BM:List Int) (CA BI:Int) (o1 o2:List Int)
 | l4 (x3 x4:List Bool) (x7:Nat) (x8 x20 x21:Int) (G7:Nat) (G6 Ag:Int) (o1 o2:List Int)
def SO (n:Nat) (self:Lg -> Option (Bool×(List Int))) (c:AC) (q:AA) (pos:List Int) (ln:Nat) (lost:List Int) (x3 x4:List Bool) (x20 x21:Int) (o1:List Int):Option (Bool×(List Int)):=
 bif (decide (x21<x20)) then
  if 0<=x21/\ x21<(x4.length:Int) then
   bif (!(x4.getD ((x21).toNat) false)) then
    if AL (x21+1) then
     self (.l1 x3 x4 x20 (x21+1) o1)
    else none
   else
    if 0<=x21/\ x21<(q.nbrs.length:Int) then
     self (.l2 x3 x4 0 x20 x21 (q.nbrs.getD ((x21).toNat) []) (((q.nbrs.getD ((x21).toNat) []).length:Nat):Int) 0 o1)
    else none
  else none
 else
  some (true,o1)
def SN (n:Nat) (self:Lg -> Option (Bool×(List Int))) (c:AC) (q:AA) (pos:List Int) (ln:Nat) (lost:List Int) (x3 x4:List Bool) (x8 x20 x21:Int) (BM:List Int) (CA BI:Int) (o1:List Int):Option (Bool×(List Int)):=
 bif (decide (BI<CA)) then
  if (0<=BI/\ BI<(BM.length:Int))/\ (0<=(BM.getD ((BI).toNat) 0)/\ (BM.getD ((BI).toNat) 0)<(x3.length:Int)) then
   bif (x3.getD ((BM.getD ((BI).toNat) 0).toNat) false) then
    if ((0=0/\ 1=([BM.getD ((BI).toNat) 0]:List Int).length)/\ 0<([BM.getD ((BI).toNat) 0]:List Int).length/\ ([BM.getD ((BI).toNat) 0]:List Int).length<=BA)/\ (0<=(BM.getD ((BI).toNat) 0)/\ (BM.getD ((BI).toNat) 0)<(x4.length:Int)) then
     bif (x4.getD ((BM.getD ((BI).toNat) 0).toNat) false) then
      if AL (x8+1)/\ AL (BI+1) then
       self (.l3 x3 x4 (([BM.getD ((BI).toNat) 0]:List Int).length) (x8+1) x20 x21 BM CA (BI+1) o1 ([BM.getD ((BI).toNat) 0]:List Int))
      else none
     else
      if AL (BI+1) then
       self (.l3 x3 x4 (([BM.getD ((BI).toNat) 0]:List Int).length) x8 x20 x21 BM CA (BI+1) o1 ([BM.getD ((BI).toNat) 0]:List Int))
      else none
    else none
   else
    if 0<=(BM.getD ((BI).toNat) 0)/\ (BM.getD ((BI).toNat) 0)<(x4.length:Int) then
     bif (x4.getD ((BM.getD ((BI).toNat) 0).toNat) false) then
      if AL (x8+1)/\ AL (BI+1) then
       self (.l2 x3 x4 (x8+1) x20 x21 BM CA (BI+1) o1)
      else none
     else
      if AL (BI+1) then
       self (.l2 x3 x4 x8 x20 x21 BM CA (BI+1) o1)
      else none
    else none
  else none
 else
  some (false,o1)
def NU (n:Nat) (self:Lg -> Option (Bool×(List Int))) (c:AC) (q:AA) (pos:List Int) (ln:Nat) (lost:List Int) (x3 x4:List Bool) (x7:Nat) (x8 x20 x21:Int) (BM:List Int) (CA BI:Int) (o1 o2:List Int):Option (Bool×(List Int)):=
 bif (decide (BI<CA)) then
  if (0<=BI/\ BI<(BM.length:Int))/\ (0<=(BM.getD ((BI).toNat) 0)/\ (BM.getD ((BI).toNat) 0)<(x3.length:Int)) then
   bif (x3.getD ((BM.getD ((BI).toNat) 0).toNat) false) then
    if ((0=0/\ 1=([BM.getD ((BI).toNat) 0]:List Int).length)/\ (0=0/\ x7=o2.length)/\ o2.length+([BM.getD ((BI).toNat) 0]:List Int).length<=BA)/\ (0<=(BM.getD ((BI).toNat) 0)/\ (BM.getD ((BI).toNat) 0)<(x4.length:Int)) then
     bif (x4.getD ((BM.getD ((BI).toNat) 0).toNat) false) then
      if AL (x8+1)/\ AL (BI+1) then
       self (.l3 x3 x4 (o2.length+([BM.getD ((BI).toNat) 0]:List Int).length) (x8+1) x20 x21 BM CA (BI+1) o1 (o2++([BM.getD ((BI).toNat) 0]:List Int)))
      else none
     else
      if AL (BI+1) then
       self (.l3 x3 x4 (o2.length+([BM.getD ((BI).toNat) 0]:List Int).length) x8 x20 x21 BM CA (BI+1) o1 (o2++([BM.getD ((BI).toNat) 0]:List Int)))
      else none
    else none
   else
    if 0<=(BM.getD ((BI).toNat) 0)/\ (BM.getD ((BI).toNat) 0)<(x4.length:Int) then
     bif (x4.getD ((BM.getD ((BI).toNat) 0).toNat) false) then
      if AL (x8+1)/\ AL (BI+1) then
       self (.l3 x3 x4 x7 (x8+1) x20 x21 BM CA (BI+1) o1 o2)
      else none
     else
      if AL (BI+1) then
       self (.l3 x3 x4 x7 x8 x20 x21 BM CA (BI+1) o1 o2)
      else none
    else none
  else none
 else
  bif (decide ((x7:Int)<2)) then
   some (false,o1)
  else
   bif (decide (x8>2)) then
    some (false,o1)
   else
    self (.l4 x3 x4 x7 x8 x20 x21 x7 (x7:Int) 0 o1 o2)
def SM (n:Nat) (self:Lg -> Option (Bool×(List Int))) (c:AC) (q:AA) (pos:List Int) (ln:Nat) (lost:List Int) (x3 x4:List Bool) (x7:Nat) (x8 x20 x21:Int) (G7:Nat) (G6 Ag:Int) (o1 o2:List Int):Option (Bool×(List Int)):=
 bif (decide (Ag<G6)) then
  if (0<=Ag/\ Ag<(G7:Int))/\ 0+((Ag).toNat)<o2.length then
   bif ((x7:Int)==2) then
    (GI n (o2.getD (0+((Ag).toNat)) 0) c q pos ln o1).bind fun y1=>
     bif (x8==2) then
      if 0<=(o2.getD (0+((Ag).toNat)) 0)/\ (o2.getD (0+((Ag).toNat)) 0)<(x4.length:Int) then
       bif (!(x4.getD ((o2.getD (0+((Ag).toNat)) 0).toNat) false)) then
        (DU n (o2.getD (0+((Ag).toNat)) 0) c.set c q pos ln y1).bind fun y2=>
         if AL (Ag+1) then
          self (.l4 x3 x4 x7 x8 x20 x21 G7 G6 (Ag+1) y2 o2)
         else none
       else
        if AL (Ag+1) then
         self (.l4 x3 x4 x7 x8 x20 x21 G7 G6 (Ag+1) y1 o2)
        else none
      else none
     else
      if AL (Ag+1) then
       self (.l4 x3 x4 x7 x8 x20 x21 G7 G6 (Ag+1) y1 o2)
      else none
   else
    bif (x8==2) then
     if 0<=(o2.getD (0+((Ag).toNat)) 0)/\ (o2.getD (0+((Ag).toNat)) 0)<(x4.length:Int) then
      bif (!(x4.getD ((o2.getD (0+((Ag).toNat)) 0).toNat) false)) then
       (DU n (o2.getD (0+((Ag).toNat)) 0) c.set c q pos ln o1).bind fun y1=>
        if AL (Ag+1) then
         self (.l4 x3 x4 x7 x8 x20 x21 G7 G6 (Ag+1) y1 o2)
        else none
      else
       if AL (Ag+1) then
        self (.l4 x3 x4 x7 x8 x20 x21 G7 G6 (Ag+1) o1 o2)
       else none
     else none
    else
     if AL (Ag+1) then
      self (.l4 x3 x4 x7 x8 x20 x21 G7 G6 (Ag+1) o1 o2)
     else none
  else none
 else
  if AL (x21+1) then
   self (.l1 x3 x4 x20 (x21+1) o1)
  else none
def vk (n:Nat) (self:Lg -> Option (Bool×(List Int))) (c:AC) (q:AA) (pos:List Int) (ln:Nat) (lost:List Int):Option (Bool×(List Int)):=
 (NQ n c q pos ln lost).bind fun y1=>
  self (.l1 y1.1 y1.2.1 (y1.2.1.length:Int) 0 y1.2.2.2)
def CY (c:AC) (q:AA) (pos:List Int) (ln:Nat) (lost:List Int):Nat -> Lg -> Option (Bool×(List Int))
 | 0,_=>none
 | n+1,.l1 x3 x4 x20 x21 o1=>SO n (CY c q pos ln lost n) c q pos ln lost x3 x4 x20 x21 o1
 | n+1,.l2 x3 x4 x8 x20 x21 BM CA BI o1=>SN n (CY c q pos ln lost n) c q pos ln lost x3 x4 x8 x20 x21 BM CA BI o1
 | n+1,.l3 x3 x4 x7 x8 x20 x21 BM CA BI o1 o2=>NU n (CY c q pos ln lost n) c q pos ln lost x3 x4 x7 x8 x20 x21 BM CA BI o1 o2
 | n+1,.l4 x3 x4 x7 x8 x20 x21 G7 G6 Ag o1 o2=>SM n (CY c q pos ln lost n) c q pos ln lost x3 x4 x7 x8 x20 x21 G7 G6 Ag o1 o2
def Vv (n:Nat) (c:AC) (q:AA) (pos:List Int) (ln:Nat) (lost:List Int):Option (Bool×(List Int)):=vk n (CY c q pos ln lost n) c q pos ln lost
def vm (n B:Nat) (N:Yd 2) (c:AC) (q:AA) (pos:List Int) (ln:Nat) (lost:List Int) (r:Bool×(List Int)):Lg -> Prop
 | .l1 x3 x4 x20 x21 o1=>∀ m0:Nat,n<=m0 -> TW B N (FQ Tryz.f140 2 (.bool r.1) [some (.cells (AK c++AD q++[.ints pos,.msl 1 1 0 ln])),some (.ints r.2)]) (A3 m0 (BB (AW Tryz.f140) 0 [])) ⟨AG 95 [(0,.ref 0 0),(3,.bools x3),(4,.bools x4),(20,.i x20),(21,.i x21)],[some (.cells (AK c++AD q++[.ints pos,.msl 1 1 0 ln])),some (.ints o1)]⟩
 | .l2 x3 x4 x8 x20 x21 BM CA BI o1=>∀ m0 m1:Nat,n<=m0 -> n<=m1 -> TW B N (FQ Tryz.f140 2 (.bool r.1) [some (.cells (AK c++AD q++[.ints pos,.msl 1 1 0 ln])),some (.ints r.2)]) (A3 m1 (BB (AW Tryz.f140) 2 [m0])) ⟨AG 95 [(0,.ref 0 0),(3,.bools x3),(4,.bools x4),(7,.nils),(8,.i x8),(20,.i x20),(21,.i x21),(36,.ints BM),(37,.i CA),(38,.i BI)],[some (.cells (AK c++AD q++[.ints pos,.msl 1 1 0 ln])),some (.ints o1)]⟩
 | .l3 x3 x4 x7 x8 x20 x21 BM CA BI o1 o2=>∀ m0 m1:Nat,n<=m0 -> n<=m1 -> TW B N (FQ Tryz.f140 2 (.bool r.1) [some (.cells (AK c++AD q++[.ints pos,.msl 1 1 0 ln])),some (.ints r.2)]) (A3 m1 (BB (AW Tryz.f140) 2 [m0])) ⟨AG 95 [(0,.ref 0 0),(3,.bools x3),(4,.bools x4),(7,.msl 2 1 0 x7),(8,.i x8),(20,.i x20),(21,.i x21),(36,.ints BM),(37,.i CA),(38,.i BI)],[some (.cells (AK c++AD q++[.ints pos,.msl 1 1 0 ln])),some (.ints o1),some (.ints o2)]⟩
 | .l4 x3 x4 x7 x8 x20 x21 G7 G6 Ag o1 o2=>∀ m0 m1:Nat,n<=m0 -> n<=m1 -> TW B N (FQ Tryz.f140 2 (.bool r.1) [some (.cells (AK c++AD q++[.ints pos,.msl 1 1 0 ln])),some (.ints r.2)]) (A3 m1 (BB (AW Tryz.f140) 4 [m0])) ⟨AG 95 [(0,.ref 0 0),(3,.bools x3),(4,.bools x4),(7,.msl 2 1 0 x7),(8,.i x8),(20,.i x20),(21,.i x21),(64,.msl 2 1 0 G7),(65,.i G6),(66,.i Ag)],[some (.cells (AK c++AD q++[.ints pos,.msl 1 1 0 ln])),some (.ints o1),some (.ints o2)]⟩
theorem vn (B:Nat) (N:Yd 2) (c:AC) (q:AA) (pos:List Int) (ln:Nat) (lost:List Int):Al (CY c q pos ln lost) (vm · B N c q pos ln lost):=ia (fun _=>rfl) fun n AJ pt r h=>by
 cases pt
 case l1 x3 x4 x20 x21 o1=>
  intro m0 AE;refine rd AE fun m0 AE=>?_
  revert r;apply gO;exact bi 22 (gi (bi 28 (gw 94 (lG AB [0,1] (AJ _ _ · m0 AE))) (gi (lN AB [0,1] (AJ _ _ · m0 n AE Nat.le.refl))))) (lE AB [2] [0,1])
 case l2 x3 x4 x8 x20 x21 BM CA BI o1=>
  intro m0 m1 AE Aw;have AE:=zEB AE;refine rd Aw fun m1 Aw=>?_
  revert r;apply gO;exact bi 39 (gc (gi (gi (bi 45 (gc (gi (gi (bi 53 (gc (gw 55 (gw 56 (lG AB [0,1,3] (AJ _ _ · m0 m1 AE Aw))))) (gw 56 (lG AB [0,1,3] (AJ _ _ · m0 m1 AE Aw))))))) (gi (bi 53 (gc (gw 55 (gw 56 (lG AB [0,1] (AJ _ _ · m0 m1 AE Aw))))) (gw 56 (lG AB [0,1] (AJ _ _ · m0 m1 AE Aw))))))))) (lE AB [2] [0,1])
 case l3 x3 x4 x7 x8 x20 x21 BM CA BI o1 o2=>
  intro m0 m1 AE Aw;have AE:=zEB AE;refine rd Aw fun m1 Aw=>?_
  revert r;apply gO;exact bi 39 (gc (gi (gi (bi 45 (gc (gi (gi (bi 53 (gc (gw 55 (gw 56 (lG AB [0,1,4] (AJ _ _ · m0 m1 AE Aw))))) (gw 56 (lG AB [0,1,4] (AJ _ _ · m0 m1 AE Aw))))))) (gi (bi 53 (gc (gw 55 (gw 56 (lG AB [0,1,2] (AJ _ _ · m0 m1 AE Aw))))) (gw 56 (lG AB [0,1,2] (AJ _ _ · m0 m1 AE Aw))))))))) (bi 59 (lE AB [2] [0,1]) (bi 62 (lE AB [2] [0,1]) (lN AB [0,1,2] (AJ _ _ · m0 n AE Nat.le.refl))))
 case l4 x3 x4 x7 x8 x20 x21 G7 G6 Ag o1 o2=>
  intro m0 m1 AE Aw;have AE:=zEB AE;refine rd Aw fun m1 Aw=>?_
  revert r;apply gO;exact bi 67 (gc (gi (gi (bi 72 (ce Lc [0,1] [some (.cells (AK c++AD q++[.ints pos,.msl 1 1 0 ln])),some (.ints o1),some (.ints o2)] fun y1=>bi 77 (gi (bi 83 (ce Fr [0,1] [some (.cells (AK c++AD q++[.ints pos,.msl 1 1 0 ln])),some (.ints y1),some (.ints o2)] fun _=>gw 93 (lG AB [0,1,2] (AJ _ _ · m0 m1 AE Aw))) (gw 93 (lG AB [0,1,2] (AJ _ _ · m0 m1 AE Aw))))) (gw 93 (lG AB [0,1,2] (AJ _ _ · m0 m1 AE Aw)))) (bi 77 (gi (bi 83 (ce Fr [0,1] [some (.cells (AK c++AD q++[.ints pos,.msl 1 1 0 ln])),some (.ints o1),some (.ints o2)] fun _=>gw 93 (lG AB [0,1,2] (AJ _ _ · m0 m1 AE Aw))) (gw 93 (lG AB [0,1,2] (AJ _ _ · m0 m1 AE Aw))))) (gw 93 (lG AB [0,1,2] (AJ _ _ · m0 m1 AE Aw)))))))) (gw 94 (lG AB [0,1] (AJ _ _ · m0 AE)))
theorem vj {n:Nat} {c:AC} {q:AA} {pos:List Int} {ln:Nat} {lost:List Int} {r:Bool×(List Int)} (h:Vv n c q pos ln lost=some r):EQ 140 [.ref 0 0] [some (.cells (AK c++AD q++[.ints pos,.msl 1 1 0 ln])),some (.ints lost)] (.bool r.1) [some (.cells (AK c++AD q++[.ints pos,.msl 1 1 0 ln])),some (.ints r.2)] false:=by
 refine ot Tryz.func140 fun B N=>?_
 revert r;apply gO;exact ce jJ [0,1] [some (.cells (AK c++AD q++[.ints pos,.msl 1 1 0 ln])),some (.ints lost)] fun _=>lN AB [0,1] ((vn B N c q pos ln lost n) _ _ · n Nat.le.refl)
end Go.Proofs.YtkjbblkieglmlaaGreatDoor
namespace Go.Proofs.YtkjbblkieglmlaaGreatDoor
open Go.RowKit
set_option maxRecDepth 100000
set_option maxHeartbeats 40000000
def fJ:ST:=.rd 0 (.rd 1 (.rd 2 (.rd 3 (.rd 4 (.rd 5 (.rd 6 (.rd 7 (.rd 8 (.rd 9 (.rd 10 (.rd 11 (.rd 12 (.rd 13 (.rd 14 (.rd 15 (.rd 16 (.rd 17 (.rd 18 (.rd 19 (.rd 20 (.rd 21 (.rd 22 (.rd 23 (.rd 24 (.rd 25 (.rd 26 (.rd 27 (.rd 28 (.ef 29 (.rd 30 (.fin [] [5,6])) (.no))))))))))))))))))))))))))))))
theorem rY:Bp (Ah Tryz.f163 2) [29] fJ:=by unfold Bp;kernel_rfl
def fI:ST:=.rd 0 (.rd 1 (.rd 2 (.rd 3 (.rd 4 (.rd 5 (.rd 6 (.rd 7 (.rd 8 (.rd 9 (.rd 10 (.rd 11 (.rd 12 (.rd 13 (.rd 14 (.rd 15 (.ef 16 (.rd 17 (.fin [] [5,6])) (.no)))))))))))))))))
theorem rX:Bp (Ah Tryz.f163 5) [16] fI:=by unfold Bp;kernel_rfl
def Uz:Bi:=fun i=>match i with
 | 2=>.tre [29] fJ
 | 5=>.tre [16] fI
 | _=>.no
def eP (s_:Int×Int) (c:AC) (q:AA) (pos:List Int) (ln:Nat) (lost:List Int):St:=⟨(AG 59 [(5,.ref 4 0),(6,.bool (decide (s_.2<(c.runs.getD ((s_.1).toNat) 0))))]),([some (.cells [.ref 1 0]),some (.cells (AK c++AD q++[.ints pos,.msl 2 1 0 ln])),some (.ints lost),some (.cells [.i s_.1,.i s_.2]),some (.cells [.i s_.1,.i (s_.2+1)])]:DH)⟩
def eO (c:AC) (q:AA) (pos:List Int) (ln:Nat) (lost:List Int) (s_:Int×Int):St:=⟨(AG 59 [(5,.ref 4 0),(6,.bool false)]),([some (.cells [.ref 1 0]),some (.cells (AK c++AD q++[.ints pos,.msl 2 1 0 ln])),some (.ints lost),some (.cells [.i s_.1,.i s_.2]),some (.cells [.i s_.1,.i (s_.2+1)])]:DH)⟩
def eN (s_:Int×Int) (c:AC) (q:AA) (pos:List Int) (ln:Nat) (lost:List Int):St:=⟨(AG 59 [(5,.ref 4 0),(6,.bool (s_.2==(c.runs.getD ((s_.1).toNat) 0)))]),([some (.cells [.ref 1 0]),some (.cells (AK c++AD q++[.ints pos,.msl 2 1 0 ln])),some (.ints lost),some (.cells [.i s_.1,.i s_.2]),some (.cells [.i (s_.1+1),.i 0])]:DH)⟩
def jP (n:Nat) (s_:Int×Int) (AT:Bool) (c:AC) (q:AA) (pos:List Int) (ln:Nat) (lost:List Int):Option ((Int×Int)×Bool×(List Int)):=
 bif AT then
  if AL (s_.2+1) then
   bif (decide (s_.1<(c.runs.length:Int))) then
    if 0<=s_.1/\ s_.1<(c.runs.length:Int) then
     some ((s_.1,(s_.2+1)),(decide (s_.2<(c.runs.getD ((s_.1).toNat) 0))),lost)
    else none
   else
    some ((s_.1,(s_.2+1)),false,lost)
  else none
 else
  bif (s_.2==0) then
   some ((s_.1,s_.2),true,lost)
  else
   if AL (s_.1+1)/\ (0<=s_.1/\ s_.1<(c.runs.length:Int)) then
    some (((s_.1+1),0),(s_.2==(c.runs.getD ((s_.1).toNat) 0)),lost)
   else none
def SI (n:Nat) (s_:Int×Int) (AT:Bool) (c:AC) (q:AA) (pos:List Int) (ln:Nat) (lost:List Int):Option ((Int×Int)×Bool×(List Int)):=jP n s_ AT c q pos ln lost
theorem Ld {n:Nat} {s_:Int×Int} {AT:Bool} {c:AC} {q:AA} {pos:List Int} {ln:Nat} {lost:List Int} {r:(Int×Int)×Bool×(List Int)} (h:SI n s_ AT c q pos ln lost=some r):EQ 163 [.agg 2 (L1 [.i s_.1,.i s_.2]),.bool AT,.ref 0 0] [some (.cells [.ref 1 0]),some (.cells (AK c++AD q++[.ints pos,.msl 2 1 0 ln])),some (.ints lost)] (.tup 2 (L1 [.agg 2 (L1 [.i r.1.1,.i r.1.2]),.bool r.2.1])) [some (.cells [.ref 1 0]),some (.cells (AK c++AD q++[.ints pos,.msl 2 1 0 ln])),some (.ints r.2.2)] false:=by
 refine ot Tryz.func163 fun B N=>?_
 revert r;apply gO;exact bi 8 (jg rY (gw 13 (bi 23 (gi (jt (jg (Eq.refl (eP s_ c q pos ln lost)) (lE (tg:=[([(29,4)],(eP s_ c q pos ln lost))]) Uz [5,6] [0,1,2,4])))) (jt (jg (Eq.refl (eO c q pos ln lost s_)) (lE (tg:=[([(29,4)],(eO c q pos ln lost s_))]) Uz [5,6] [0,1,2,4])))))) (bi 41 (jt (lE Uz [5,6] [0,1,2,4])) (jg rX (gc (gw 45 (gi (jt (jg (Eq.refl (eN s_ c q pos ln lost)) (lE (tg:=[([(16,4)],(eN s_ c q pos ln lost))]) Uz [5,6] [0,1,2,4]))))))))
theorem ri:Av (Ah Tryz.f164 2) [] (List.range 22) []:=by unfold Av;kernel_rfl
theorem rh:Av (Ah Tryz.f164 3) [] (List.range 22) []:=by unfold Av;kernel_rfl
def gK:Bi:=fun i=>match i with
 | 2=>.ord [] (List.range 22) []
 | 3=>.ord [] (List.range 22) []
 | _=>.no
def kC (n:Nat) (i_:Int) (AT:Bool) (c:AC) (q:AA) (pos:List Int) (ln:Nat) (lost:List Int):Option (Bool×(List Int)):=
 bif AT then
  if (0<=i_/\ i_<(c.cells.length:Int))/\ (0<=(c.cells.getD ((i_).toNat) 0)/\ (c.cells.getD ((i_).toNat) 0)<(pos.length:Int)) then
   some (((bits .and .i64 (pos.getD ((c.cells.getD ((i_).toNat) 0).toNat) 0) c.set) != 0),lost)
  else none
 else
  if (0<=i_/\ i_<(c.cells.length:Int))/\ (0<=(c.cells.getD ((i_).toNat) 0)/\ (c.cells.getD ((i_).toNat) 0)<(pos.length:Int)) then
   some (((bits .andNot .i64 (pos.getD ((c.cells.getD ((i_).toNat) 0).toNat) 0) c.set) != 0),lost)
  else none
def Sa (n:Nat) (i_:Int) (AT:Bool) (c:AC) (q:AA) (pos:List Int) (ln:Nat) (lost:List Int):Option (Bool×(List Int)):=kC n i_ AT c q pos ln lost
theorem V5 {n:Nat} {i_:Int} {AT:Bool} {c:AC} {q:AA} {pos:List Int} {ln:Nat} {lost:List Int} {r:Bool×(List Int)} (h:Sa n i_ AT c q pos ln lost=some r):EQ 164 [.i i_,.bool AT,.ref 0 0] [some (.cells [.ref 1 0]),some (.cells (AK c++AD q++[.ints pos,.msl 2 1 0 ln])),some (.ints lost)] (.bool r.1) [some (.cells [.ref 1 0]),some (.cells (AK c++AD q++[.ints pos,.msl 2 1 0 ln])),some (.ints r.2)] false:=by
 refine ot Tryz.func164 fun B N=>?_
 revert r;apply gO;exact bi 6 (jg ri (gc (gi (gi (lE gK [5] [0,1,2]))))) (jg rh (gc (gi (gi (lE gK [5] [0,1,2])))))
theorem qx:Av (Ah Tryz.f136 24) [] (List.range 6) [6]:=by unfold Av;kernel_rfl
def fB:ST:=.rd 0 (.rd 1 (.rd 2 (.rd 3 (.rd 4 (.rd 5 (.rd 6 (.rd 7 (.rd 8 (.rd 9 (.rd 10 (.rd 11 (.rd 12 (.rd 13 (.ef 14 (.fin [] [1,3,5,7,14,16,18]) (.no)))))))))))))))
theorem gV:Bp (Ah Tryz.f136 49) [] fB:=by unfold Bp;kernel_rfl
def fA:ST:=.rd 0 (.rd 1 (.rd 2 (.rd 3 (.rd 4 (.rd 5 (.rd 6 (.rd 7 (.rd 8 (.ef 9 (.fin [] [1,3,5,7,14,16]) (.no))))))))))
theorem Yr:Bp (Ah Tryz.f136 51) [] fA:=by unfold Bp;kernel_rfl
def CJ:Bi:=fun i=>match i with
 | 24=>.ord [] (List.range 6) [6]
 | 49=>.tre [] fB
 | 51=>.tre [] fA
 | _=>.no
def aw (c:AC) (q:AA) (pos:List Int) (ln:Nat) (o1:List Int) (o3:List (Option KS)):DH:=[some (.cells (AK c++AD q++[.ints pos,.msl 1 1 0 ln])),some (.ints o1),some (.cells [.ref 0 0]),some (.mo (.sets 2 o3 none))]
def zJ (c:AC) (q:AA) (pos:List Int) (ln:Nat) (o1:List Int) (o3:List (Option KS)) (At:Int) (gk:LK):DH:=[some (.cells (AK c++AD q++[.ints pos,.msl 1 1 0 ln])),some (.ints o1),some (.cells [.ref 0 0]),some (.mo (.sets 2 o3 (some (0+((At).toNat),gk))))]
def zD (c:AC) (q:AA) (pos:List Int) (ln:Nat) (o1:List Int) (o3:List (Option KS)) (Af:Nat) (gk:LK) (o4:KS):DH:=[some (.cells (AK c++AD q++[.ints pos,.msl 1 1 0 ln])),some (.ints o1),some (.cells [.ref 0 0]),some (.mo (.sets 2 o3 (some (Af,gk)))),some (.mo (.mit 2 gk.1 gk.2.1 gk.2.2 o4 none))]
def kr (c:AC) (q:AA) (pos:List Int) (ln:Nat) (o1:List Int) (o3:List (Option KS)) (Af:Nat) (gk:LK) (o4:KS) (y1:List Int):DH:=[some (.cells (AK c++AD q++[.ints pos,.msl 1 1 0 ln])),some (.ints o1),some (.cells [.ref 0 0]),some (.mo (.sets 2 o3 (some (Af,gk)))),some (.mo (.mit 2 gk.1 gk.2.1 gk.2.2 (o4.erase y1) (some y1)))]
def ar (c:AC) (q:AA) (pos:List Int) (ln:Nat) (o1:List Int) (o3:List (Option KS)) (o4:KS):DH:=[some (.cells (AK c++AD q++[.ints pos,.msl 1 1 0 ln])),some (.ints o1),some (.cells [.ref 0 0]),some (.mo (.sets 2 o3 none)),some (.mo (.set 2 o4)),some (.mo (.set 2 ([]:KS))),some (.cells [.bool false,.bool false])]
def zB (c:AC) (q:AA) (pos:List Int) (ln:Nat) (o1:List Int) (o3:List (Option KS)) (AZ:Int) (gk:LK) (o4:KS):DH:=[some (.cells (AK c++AD q++[.ints pos,.msl 1 1 0 ln])),some (.ints o1),some (.cells [.ref 0 0]),some (.mo (.sets 2 o3 (some (0+((AZ).toNat),gk)))),some (.mo (.set 2 o4)),some (.mo (.set 2 ([]:KS))),some (.cells [.bool false,.bool false])]
def aq (c:AC) (q:AA) (pos:List Int) (ln:Nat) (o1:List Int) (o3:List (Option KS)) (Af:Nat) (gk:LK) (Ak FF:Int) (o5:KS) (FE:List Int):DH:=[some (.cells (AK c++AD q++[.ints pos,.msl 1 1 0 ln])),some (.ints o1),some (.cells [.ref 0 0]),some (.mo (.sets 2 o3 (some (Af,gk)))),some (.cells [.i Ak,.i FF]),some (.mo (.mit 2 gk.1 gk.2.1 gk.2.2 o5 (some FE))),some (.bools ([false,true]:List Bool))]
def zA (c:AC) (q:AA) (pos:List Int) (ln:Nat) (y1:(Int×Int)×Bool×(List Int)) (o3:List (Option KS)) (Af:Nat) (gk:LK) (Ak FF:Int) (o5:KS) (FE:List Int):DH:=[some (.cells (AK c++AD q++[.ints pos,.msl 1 1 0 ln])),some (.ints y1.2.2),some (.cells [.ref 0 0]),some (.mo (.sets 2 o3 (some (Af,gk)))),some (.cells [.i Ak,.i FF]),some (.mo (.mit 2 gk.1 gk.2.1 gk.2.2 o5 (some FE))),some (.bools ([false,true]:List Bool)),some (.cells [.i y1.1.1,.i y1.1.2])]
def yz (c:AC) (q:AA) (pos:List Int) (ln:Nat) (o1:List Int) (o3:List (Option KS)) (Af:Nat) (gk:LK) (o4 o7:KS):DH:=[some (.cells (AK c++AD q++[.ints pos,.msl 1 1 0 ln])),some (.ints o1),some (.cells [.ref 0 0]),some (.mo (.sets 2 o3 (some (Af,gk)))),some (.mo (.set 2 o4)),some (.mo (.set 2 ([]:KS))),some (.cells [.bool false,.bool false]),some (.mo (.mit 2 gk.1 gk.2.1 gk.2.2 o7 none))]
def eG (c:AC) (AZ:Int) (q:AA) (pos:List Int) (ln:Nat) (y2:(List Int)) (o3:List (Option KS)) (o4:KS):St:=⟨(AG 208 [(1,.ref 2 0),(3,.fn 163 1 (L1 [.ref 2 0])),(5,.msl 3 1 0 ((((c.cells.length:Int)+1)).toNat)),(7,.fn 164 1 (L1 [.ref 2 0])),(14,.it 5),(16,.i AZ),(18,.ref 6 0)]),([some (.cells (AK c++AD q++[.ints pos,.msl 1 1 0 ln])),some (.ints y2),some (.cells [.ref 0 0]),some (.mo (.sets 2 o3 none)),some (.mo (.set 2 o4)),some (.mo (.set 2 ([]:KS))),some (.cells [.bool false,.bool false])]:DH)⟩
def zI (c:AC) (q:AA) (pos:List Int) (ln:Nat) (y2:(List Int)) (o3:List (Option KS)) (o4:KS):DH:=[some (.cells (AK c++AD q++[.ints pos,.msl 1 1 0 ln])),some (.ints y2),some (.cells [.ref 0 0]),some (.mo (.sets 2 o3 none)),some (.mo (.set 2 o4)),some (.mo (.set 2 ([]:KS))),some (.cells [.bool false,.bool false])]
def eJ (c:AC) (AZ:Int) (q:AA) (pos:List Int) (ln:Nat) (y3:(List Int)) (o3:List (Option KS)) (o4:KS):St:=⟨(AG 208 [(1,.ref 2 0),(3,.fn 163 1 (L1 [.ref 2 0])),(5,.msl 3 1 0 ((((c.cells.length:Int)+1)).toNat)),(7,.fn 164 1 (L1 [.ref 2 0])),(14,.it 5),(16,.i AZ)]),([some (.cells (AK c++AD q++[.ints pos,.msl 1 1 0 ln])),some (.ints y3),some (.cells [.ref 0 0]),some (.mo (.sets 2 o3 none)),some (.mo (.set 2 o4)),some (.mo (.set 2 ([]:KS))),some (.cells [.bool false,.bool false])]:DH)⟩
def zH (c:AC) (q:AA) (pos:List Int) (ln:Nat) (o1:List Int) (o3:List (Option KS)) (Af:Nat) (gk:LK) (o4 o7:KS) (y1:List Int):DH:=[some (.cells (AK c++AD q++[.ints pos,.msl 1 1 0 ln])),some (.ints o1),some (.cells [.ref 0 0]),some (.mo (.sets 2 o3 (some (Af,gk)))),some (.mo (.set 2 o4)),some (.mo (.set 2 ([]:KS))),some (.cells [.bool false,.bool false]),some (.mo (.mit 2 gk.1 gk.2.1 gk.2.2 (o7.erase y1) (some y1)))]
def Sx (c:AC) (q:AA) (pos:List Int) (ln:Nat) (o1:List Int) (o3:List (Option KS)) (Af:Nat) (gk:LK) (o4 o5:KS) (BX BY:Bool) (DT DS:Int) (o8:KS) (Dt:List Int):DH:=[some (.cells (AK c++AD q++[.ints pos,.msl 1 1 0 ln])),some (.ints o1),some (.cells [.ref 0 0]),some (.mo (.sets 2 o3 (some (Af,gk)))),some (.mo (.set 2 o4)),some (.mo (.set 2 o5)),some (.cells [.bool BX,.bool BY]),some (.cells [.i DT,.i DS]),some (.mo (.mit 2 gk.1 gk.2.1 gk.2.2 o8 (some Dt))),some (.bools ([false,true]:List Bool))]
def av (c:AC) (q:AA) (pos:List Int) (ln:Nat) (y1:(Int×Int)×Bool×(List Int)) (o3:List (Option KS)) (Af:Nat) (gk:LK) (o4 o5:KS) (BX BY:Bool) (DT DS:Int) (o8:KS) (Dt:List Int):DH:=[some (.cells (AK c++AD q++[.ints pos,.msl 1 1 0 ln])),some (.ints y1.2.2),some (.cells [.ref 0 0]),some (.mo (.sets 2 o3 (some (Af,gk)))),some (.mo (.set 2 o4)),some (.mo (.set 2 o5)),some (.cells [.bool BX,.bool BY]),some (.cells [.i DT,.i DS]),some (.mo (.mit 2 gk.1 gk.2.1 gk.2.2 o8 (some Dt))),some (.bools ([false,true]:List Bool)),some (.cells [.i y1.1.1,.i y1.1.2])]
def zG (c:AC) (q:AA) (pos:List Int) (ln:Nat) (o1:List Int) (o3:List (Option KS)) (Af:Nat) (gk:LK) (o4:KS) (JB:List Int):DH:=[some (.cells (AK c++AD q++[.ints pos,.msl 1 1 0 ln])),some (.ints o1),some (.cells [.ref 0 0]),some (.mo (.sets 2 o3 (some (Af,gk)))),some (.mo (.mit 2 gk.1 gk.2.1 gk.2.2 o4 (some JB)))]
def zF (c:AC) (q:AA) (pos:List Int) (ln:Nat) (o1:List Int) (o3:List (Option KS)) (Af:Nat) (gk:LK) (o4 o5:KS) (BX BY:Bool) (o7:KS) (JA:List Int):DH:=[some (.cells (AK c++AD q++[.ints pos,.msl 1 1 0 ln])),some (.ints o1),some (.cells [.ref 0 0]),some (.mo (.sets 2 o3 (some (Af,gk)))),some (.mo (.set 2 o4)),some (.mo (.set 2 o5)),some (.cells [.bool BX,.bool BY]),some (.mo (.mit 2 gk.1 gk.2.1 gk.2.2 o7 (some JA)))]
def au (c:AC) (q:AA) (pos:List Int) (ln:Nat) (o1:List Int) (o3:List (Option KS)) (o4 o5:KS) (BX BY:Bool):DH:=[some (.cells (AK c++AD q++[.ints pos,.msl 1 1 0 ln])),some (.ints o1),some (.cells [.ref 0 0]),some (.mo (.sets 2 o3 none)),some (.mo (.set 2 o4)),some (.mo (.set 2 o5)),some (.cells [.bool BX,.bool BY])]
def YL (c:AC) (AZ:Int) (q:AA) (pos:List Int) (ln:Nat) (y2:(List Int)) (o3:List (Option KS)) (o4 o5:KS) (BX BY:Bool):St:=⟨(AG 208 [(1,.ref 2 0),(3,.fn 163 1 (L1 [.ref 2 0])),(5,.msl 3 1 0 ((((c.cells.length:Int)+1)).toNat)),(7,.fn 164 1 (L1 [.ref 2 0])),(14,.it 5),(16,.i AZ),(18,.ref 6 0)]),([some (.cells (AK c++AD q++[.ints pos,.msl 1 1 0 ln])),some (.ints y2),some (.cells [.ref 0 0]),some (.mo (.sets 2 o3 none)),some (.mo (.set 2 o4)),some (.mo (.set 2 o5)),some (.cells [.bool BX,.bool BY])]:DH)⟩
def zE (c:AC) (q:AA) (pos:List Int) (ln:Nat) (y2:(List Int)) (o3:List (Option KS)) (o4 o5:KS) (BX BY:Bool):DH:=[some (.cells (AK c++AD q++[.ints pos,.msl 1 1 0 ln])),some (.ints y2),some (.cells [.ref 0 0]),some (.mo (.sets 2 o3 none)),some (.mo (.set 2 o4)),some (.mo (.set 2 o5)),some (.cells [.bool BX,.bool BY])]
def eI (c:AC) (AZ:Int) (q:AA) (pos:List Int) (ln:Nat) (y3:(List Int)) (o3:List (Option KS)) (o4 o5:KS) (BX BY:Bool):St:=⟨(AG 208 [(1,.ref 2 0),(3,.fn 163 1 (L1 [.ref 2 0])),(5,.msl 3 1 0 ((((c.cells.length:Int)+1)).toNat)),(7,.fn 164 1 (L1 [.ref 2 0])),(14,.it 5),(16,.i AZ)]),([some (.cells (AK c++AD q++[.ints pos,.msl 1 1 0 ln])),some (.ints y3),some (.cells [.ref 0 0]),some (.mo (.sets 2 o3 none)),some (.mo (.set 2 o4)),some (.mo (.set 2 o5)),some (.cells [.bool BX,.bool BY])]:DH)⟩
def eH (c:AC) (AZ:Int) (q:AA) (pos:List Int) (ln:Nat) (y2:(List Int)) (o3:List (Option KS)) (o4 o5:KS) (BX BY:Bool):St:=⟨(AG 208 [(1,.ref 2 0),(3,.fn 163 1 (L1 [.ref 2 0])),(5,.msl 3 1 0 ((((c.cells.length:Int)+1)).toNat)),(7,.fn 164 1 (L1 [.ref 2 0])),(14,.it 5),(16,.i AZ)]),([some (.cells (AK c++AD q++[.ints pos,.msl 1 1 0 ln])),some (.ints y2),some (.cells [.ref 0 0]),some (.mo (.sets 2 o3 none)),some (.mo (.set 2 o4)),some (.mo (.set 2 o5)),some (.cells [.bool BX,.bool BY])]:DH)⟩
def zC (c:AC) (q:AA) (pos:List Int) (ln:Nat) (o1:List Int) (o3:List (Option KS)) (Af:Nat) (gk:LK) (o4 o5:KS) (BX BY:Bool) (o7:KS) (y1:List Int):DH:=[some (.cells (AK c++AD q++[.ints pos,.msl 1 1 0 ln])),some (.ints o1),some (.cells [.ref 0 0]),some (.mo (.sets 2 o3 (some (Af,gk)))),some (.mo (.set 2 o4)),some (.mo (.set 2 o5)),some (.cells [.bool BX,.bool BY]),some (.mo (.mit 2 gk.1 gk.2.1 gk.2.2 (o7.erase y1) (some y1)))]
inductive Hj where
 | l1 (E6:Int) (o3:List (Option KS))
 | l2 (At:Int) (o1:List Int) (o3:List (Option KS))
 | l3 (x8 At:Int) (o1:List Int) (o3:List (Option KS)) (Af:Nat) (o4:KS)
 | l4 (AZ:Int) (o1:List Int) (o3:List (Option KS)) (o4:KS)
 | l5 (x8 At E5:Int) (o1:List Int) (o3:List (Option KS)) (Af:Nat) (Ak FF:Int) (o5:KS) (FE:List Int)
 | l6 (AZ:Int) (o1:List Int) (o3:List (Option KS)) (Af:Nat) (o4 o7:KS)
 | l7 (AZ Dp:Int) (o1:List Int) (o3:List (Option KS)) (Af:Nat) (o4 o5:KS) (BX BY:Bool) (DT DS:Int) (o8:KS) (Dt:List Int)
 | l8 (x8 At:Int) (o1:List Int) (o3:List (Option KS)) (Af:Nat) (o4:KS) (JB:List Int)
 | l9 (AZ:Int) (o1:List Int) (o3:List (Option KS)) (Af:Nat) (o4 o5:KS) (BX BY:Bool) (o7:KS) (JA:List Int)
def RE (n:Nat) (self:Hj -> Option (Bool×(List Int))) (c:AC) (q:AA) (pos:List Int) (ln:Nat) (lost:List Int) (E6:Int) (o3:List (Option KS)):Option (Bool×(List Int)):=
 bif (decide (E6<(((((c.cells.length:Int)+1)).toNat:Nat):Int))) then
  if (0<=E6/\ E6<(((((c.cells.length:Int)+1)).toNat:Nat):Int))/\ 0+((E6).toNat)<o3.length/\ AL (E6+1) then
   self (.l1 (E6+1) (o3.set (0+((E6).toNat)) (some ([]:KS))))
  else none
 else
  if ((0:Int)<=0/\ 0<(((((c.cells.length:Int)+1)).toNat:Nat):Int))/\ 0+0<o3.length/\ (o3.getD (0+0) none).isSome=true then
   self (.l2 0 lost (o3.set (0+0) (some (CN [0,0] ((o3.getD (0+0) none).getD [])))))
  else none
def M1 (n:Nat) (self:Hj -> Option (Bool×(List Int))) (c:AC) (q:AA) (pos:List Int) (ln:Nat) (lost:List Int) (At:Int) (o1:List Int) (o3:List (Option KS)):Option (Bool×(List Int)):=
 bif (decide (At<(c.cells.length:Int))) then
  if (o3.getD (0+((At).toNat)) none).isSome=true then
   if (0<=At/\ At<(((((c.cells.length:Int)+1)).toNat:Nat):Int))/\ 0+((At).toNat)<o3.length/\ (o3.getD (0+((At).toNat)) none).isSome=true then
    self (.l3 At At o1 o3 (0+((At).toNat)) ((o3.getD (0+((At).toNat)) none).getD []))
   else none
  else none
 else
  bif (decide ((c.runs.length:Int)>0)) then
   if AL ((c.runs.length:Int)-1)/\ ((0:Int)<=((c.runs.length:Int)-1)/\ ((c.runs.length:Int)-1)<(c.runs.length:Int))/\ AL ((c.cells.length:Int)-1) then
    self (.l4 ((c.cells.length:Int)-1) o1 o3 (CN [((c.runs.length:Int)-1),c.runs.getD ((((c.runs.length:Int)-1)).toNat) 0] (CN [(c.runs.length:Int),0] ([]:KS))))
   else none
  else
   if AL ((c.cells.length:Int)-1) then
    self (.l4 ((c.cells.length:Int)-1) o1 o3 (CN [(c.runs.length:Int),0] ([]:KS)))
   else none
def sM (n:Nat) (self:Hj -> Option (Bool×(List Int))) (c:AC) (q:AA) (pos:List Int) (ln:Nat) (lost:List Int) (x8 At:Int) (o1:List Int) (o3:List (Option KS)) (Af:Nat) (o4:KS):Option (Bool×(List Int)):=
 if (o3.getD Af none).isSome=true then
  Hn o4 (
   if AL (At+1) then
    self (.l2 (At+1) o1 o3)
   else none) fun y1=>
   if (o3.getD Af none).isSome=true then
    self (.l5 x8 At 0 o1 o3 Af (y1.getD 0 0) (y1.getD 1 0) (o4.erase y1) y1)
   else none
 else none
def RD (n:Nat) (self:Hj -> Option (Bool×(List Int))) (c:AC) (q:AA) (pos:List Int) (ln:Nat) (lost:List Int) (AZ:Int) (o1:List Int) (o3:List (Option KS)) (o4:KS):Option (Bool×(List Int)):=
 bif (decide (AZ>=0)) then
  if (o3.getD (0+((AZ).toNat)) none).isSome=true then
   if (0<=AZ/\ AZ<(((((c.cells.length:Int)+1)).toNat:Nat):Int))/\ 0+((AZ).toNat)<o3.length/\ (o3.getD (0+((AZ).toNat)) none).isSome=true then
    self (.l6 AZ o1 o3 (0+((AZ).toNat)) o4 ((o3.getD (0+((AZ).toNat)) none).getD []))
   else none
  else none
 else
  some (true,o1)
def Mz (n:Nat) (self:Hj -> Option (Bool×(List Int))) (c:AC) (q:AA) (pos:List Int) (ln:Nat) (lost:List Int) (x8 At E5:Int) (o1:List Int) (o3:List (Option KS)) (Af:Nat) (Ak FF:Int) (o5:KS) (FE:List Int):Option (Bool×(List Int)):=
 bif (decide (E5<2)) then
  if (0<=E5/\ E5<((2:Nat):Int))/\ 0+((E5).toNat)<([false,true]:List Bool).length then
   (SI n (Ak,FF) (([false,true]:List Bool).getD (0+((E5).toNat)) false) c q pos ln o1).bind fun y1=>
    bif y1.2.1 then
     (Sa n x8 (([false,true]:List Bool).getD (0+((E5).toNat)) false) c q pos ln y1.2.2).bind fun y2=>
      bif y2.1 then
       if AL (x8+1)/\ (0<=(x8+1)/\ (x8+1)<(((((c.cells.length:Int)+1)).toNat:Nat):Int))/\ 0+(((x8+1)).toNat)<o3.length/\ Af≠0+(((x8+1)).toNat)/\ (o3.getD (0+(((x8+1)).toNat)) none).isSome=true/\ AL (E5+1) then
        self (.l5 x8 At (E5+1) y2.2 (o3.set (0+(((x8+1)).toNat)) (some (CN [y1.1.1,y1.1.2] ((o3.getD (0+(((x8+1)).toNat)) none).getD [])))) Af Ak FF o5 FE)
       else none
      else
       if AL (E5+1) then
        self (.l5 x8 At (E5+1) y2.2 o3 Af Ak FF o5 FE)
       else none
    else
     if AL (E5+1) then
      self (.l5 x8 At (E5+1) y1.2.2 o3 Af Ak FF o5 FE)
     else none
  else none
 else
  self (.l8 x8 At o1 o3 Af o5 FE)
def sL (n:Nat) (self:Hj -> Option (Bool×(List Int))) (c:AC) (q:AA) (pos:List Int) (ln:Nat) (lost:List Int) (AZ:Int) (o1:List Int) (o3:List (Option KS)) (Af:Nat) (o4 o7:KS):Option (Bool×(List Int)):=
 if (o3.getD Af none).isSome=true then
  Hn o7 (
   if 0<=AZ/\ AZ<(c.cells.length:Int) then
    (DU n (c.cells.getD ((AZ).toNat) 0) c.set c q pos ln o1).bind fun y2=>
     (GI n (c.cells.getD ((AZ).toNat) 0) c q pos ln y2).bind fun y3=>
      if AL (AZ-1) then
       self (.l4 (AZ-1) y3 o3 ([]:KS))
      else none
   else none) fun y1=>
   if (o3.getD Af none).isSome=true then
    self (.l7 AZ 0 o1 o3 Af o4 ([]:KS) false false (y1.getD 0 0) (y1.getD 1 0) (o7.erase y1) y1)
   else none
 else none
def My (n:Nat) (self:Hj -> Option (Bool×(List Int))) (c:AC) (q:AA) (pos:List Int) (ln:Nat) (lost:List Int) (AZ Dp:Int) (o1:List Int) (o3:List (Option KS)) (Af:Nat) (o4 o5:KS) (BX BY:Bool) (DT DS:Int) (o8:KS) (Dt:List Int):Option (Bool×(List Int)):=
 bif (decide (Dp<2)) then
  if (0<=Dp/\ Dp<((2:Nat):Int))/\ 0+((Dp).toNat)<([false,true]:List Bool).length then
   (SI n (DT,DS) (([false,true]:List Bool).getD (0+((Dp).toNat)) false) c q pos ln o1).bind fun y1=>
    bif y1.2.1 then
     (Sa n AZ (([false,true]:List Bool).getD (0+((Dp).toNat)) false) c q pos ln y1.2.2).bind fun y2=>
      bif y2.1 then
       bif (o4.contains [y1.1.1,y1.1.2]) then
        bif (Dp==0) then
         if AL (Dp+1) then
          self (.l7 AZ (Dp+1) y2.2 o3 Af o4 (CN [DT,DS] o5) true BY DT DS o8 Dt)
         else none
        else
         bif (Dp==1) then
          if AL (Dp+1) then
           self (.l7 AZ (Dp+1) y2.2 o3 Af o4 (CN [DT,DS] o5) BX true DT DS o8 Dt)
          else none
         else
          none
       else
        if AL (Dp+1) then
         self (.l7 AZ (Dp+1) y2.2 o3 Af o4 o5 BX BY DT DS o8 Dt)
        else none
      else
       if AL (Dp+1) then
        self (.l7 AZ (Dp+1) y2.2 o3 Af o4 o5 BX BY DT DS o8 Dt)
       else none
    else
     if AL (Dp+1) then
      self (.l7 AZ (Dp+1) y1.2.2 o3 Af o4 o5 BX BY DT DS o8 Dt)
     else none
  else none
 else
  self (.l9 AZ o1 o3 Af o4 o5 BX BY o8 Dt)
def RC (n:Nat) (self:Hj -> Option (Bool×(List Int))) (c:AC) (q:AA) (pos:List Int) (ln:Nat) (lost:List Int) (x8 At:Int) (o1:List Int) (o3:List (Option KS)) (Af:Nat) (o4:KS) (JB:List Int):Option (Bool×(List Int)):=
 if (o3.getD Af none).isSome=true then
  Hn o4 (
   if AL (At+1) then
    self (.l2 (At+1) o1 o3)
   else none) fun y1=>
   if (o3.getD Af none).isSome=true then
    self (.l5 x8 At 0 o1 o3 Af (y1.getD 0 0) (y1.getD 1 0) (o4.erase y1) y1)
   else none
 else none
def RB (n:Nat) (self:Hj -> Option (Bool×(List Int))) (c:AC) (q:AA) (pos:List Int) (ln:Nat) (lost:List Int) (AZ:Int) (o1:List Int) (o3:List (Option KS)) (Af:Nat) (o4 o5:KS) (BX BY:Bool) (o7:KS) (JA:List Int):Option (Bool×(List Int)):=
 if (o3.getD Af none).isSome=true then
  Hn o7 (
   bif (!BY) then
    if 0<=AZ/\ AZ<(c.cells.length:Int) then
     (DU n (c.cells.getD ((AZ).toNat) 0) c.set c q pos ln o1).bind fun y2=>
      bif (!BX) then
       (GI n (c.cells.getD ((AZ).toNat) 0) c q pos ln y2).bind fun y3=>
        if AL (AZ-1) then
         self (.l4 (AZ-1) y3 o3 o5)
        else none
      else
       if AL (AZ-1) then
        self (.l4 (AZ-1) y2 o3 o5)
       else none
    else none
   else
    bif (!BX) then
     if 0<=AZ/\ AZ<(c.cells.length:Int) then
      (GI n (c.cells.getD ((AZ).toNat) 0) c q pos ln o1).bind fun y2=>
       if AL (AZ-1) then
        self (.l4 (AZ-1) y2 o3 o5)
       else none
     else none
    else
     if AL (AZ-1) then
      self (.l4 (AZ-1) o1 o3 o5)
     else none) fun y1=>
   if (o3.getD Af none).isSome=true then
    self (.l7 AZ 0 o1 o3 Af o4 o5 BX BY (y1.getD 0 0) (y1.getD 1 0) (o7.erase y1) y1)
   else none
 else none
def Yw (n:Nat) (self:Hj -> Option (Bool×(List Int))) (c:AC) (q:AA) (pos:List Int) (ln:Nat) (lost:List Int):Option (Bool×(List Int)):=
 bif ((c.cells.length:Int)==0) then
  some (((c.runs.length:Int)==0),lost)
 else
  if AL ((c.cells.length:Int)+1)/\ ((((c.cells.length:Int)+1):Int)=((c.cells.length:Int)+1)/\ (0:Int)<=((c.cells.length:Int)+1)/\ (((c.cells.length:Int)+1):Int)<=1000000000000) then
   self (.l1 0 (List.replicate ((((c.cells.length:Int)+1)).toNat) (none:Option KS)))
  else none
def BO (c:AC) (q:AA) (pos:List Int) (ln:Nat) (lost:List Int):Nat -> Hj -> Option (Bool×(List Int))
 | 0,_=>none
 | n+1,.l1 E6 o3=>RE n (BO c q pos ln lost n) c q pos ln lost E6 o3
 | n+1,.l2 At o1 o3=>M1 n (BO c q pos ln lost n) c q pos ln lost At o1 o3
 | n+1,.l3 x8 At o1 o3 Af o4=>sM n (BO c q pos ln lost n) c q pos ln lost x8 At o1 o3 Af o4
 | n+1,.l4 AZ o1 o3 o4=>RD n (BO c q pos ln lost n) c q pos ln lost AZ o1 o3 o4
 | n+1,.l5 x8 At E5 o1 o3 Af Ak FF o5 FE=>Mz n (BO c q pos ln lost n) c q pos ln lost x8 At E5 o1 o3 Af Ak FF o5 FE
 | n+1,.l6 AZ o1 o3 Af o4 o7=>sL n (BO c q pos ln lost n) c q pos ln lost AZ o1 o3 Af o4 o7
 | n+1,.l7 AZ Dp o1 o3 Af o4 o5 BX BY DT DS o8 Dt=>My n (BO c q pos ln lost n) c q pos ln lost AZ Dp o1 o3 Af o4 o5 BX BY DT DS o8 Dt
 | n+1,.l8 x8 At o1 o3 Af o4 JB=>RC n (BO c q pos ln lost n) c q pos ln lost x8 At o1 o3 Af o4 JB
 | n+1,.l9 AZ o1 o3 Af o4 o5 BX BY o7 JA=>RB n (BO c q pos ln lost n) c q pos ln lost AZ o1 o3 Af o4 o5 BX BY o7 JA
def Ov (n:Nat) (c:AC) (q:AA) (pos:List Int) (ln:Nat) (lost:List Int):Option (Bool×(List Int)):=Yw n (BO c q pos ln lost n) c q pos ln lost
def sN (n B:Nat) (N:Yd 2) (c:AC) (q:AA) (pos:List Int) (ln:Nat) (lost:List Int) (r:Bool×(List Int)):Hj -> Prop
 | .l1 E6 o3=>∀ m0:Nat,n<=m0 -> TW B N (FQ Tryz.f136 2 (.bool r.1) [some (.cells (AK c++AD q++[.ints pos,.msl 1 1 0 ln])),some (.ints r.2)]) (A3 m0 (BB (AW Tryz.f136) 0 [])) ⟨AG 208 [(1,.ref 2 0),(3,.fn 163 1 (L1 [.ref 2 0])),(4,.i (c.cells.length:Int)),(5,.msl 3 1 0 ((((c.cells.length:Int)+1)).toNat)),(44,.i (((((c.cells.length:Int)+1)).toNat:Nat):Int)),(45,.i E6)],[some (.cells (AK c++AD q++[.ints pos,.msl 1 1 0 ln])),some (.ints lost),some (.cells [.ref 0 0]),some (.mo (.sets 2 o3 none))]⟩
 | .l2 At o1 o3=>∀ m0:Nat,n<=m0 -> TW B N (FQ Tryz.f136 2 (.bool r.1) [some (.cells (AK c++AD q++[.ints pos,.msl 1 1 0 ln])),some (.ints r.2)]) (A3 m0 (BB (AW Tryz.f136) 2 [])) ⟨AG 208 [(1,.ref 2 0),(3,.fn 163 1 (L1 [.ref 2 0])),(4,.i (c.cells.length:Int)),(5,.msl 3 1 0 ((((c.cells.length:Int)+1)).toNat)),(7,.fn 164 1 (L1 [.ref 2 0])),(58,.i (c.cells.length:Int)),(59,.i At)],[some (.cells (AK c++AD q++[.ints pos,.msl 1 1 0 ln])),some (.ints o1),some (.cells [.ref 0 0]),some (.mo (.sets 2 o3 none))]⟩
 | .l3 x8 At o1 o3 Af o4=>∀ m0 m1:Nat,n<=m0 -> n<=m1 -> ∀ gk:LK,TW B N (FQ Tryz.f136 2 (.bool r.1) [some (.cells (AK c++AD q++[.ints pos,.msl 1 1 0 ln])),some (.ints r.2)]) (A3 m1 (BB (AW Tryz.f136) 4 [m0])) ⟨AG 208 [(1,.ref 2 0),(3,.fn 163 1 (L1 [.ref 2 0])),(4,.i (c.cells.length:Int)),(5,.msl 3 1 0 ((((c.cells.length:Int)+1)).toNat)),(7,.fn 164 1 (L1 [.ref 2 0])),(8,.i x8),(58,.i (c.cells.length:Int)),(59,.i At),(66,.it 4)],[some (.cells (AK c++AD q++[.ints pos,.msl 1 1 0 ln])),some (.ints o1),some (.cells [.ref 0 0]),some (.mo (.sets 2 o3 (some (Af,gk)))),some (.mo (.mit 2 gk.1 gk.2.1 gk.2.2 o4 none))]⟩
 | .l4 AZ o1 o3 o4=>∀ m0:Nat,n<=m0 -> TW B N (FQ Tryz.f136 2 (.bool r.1) [some (.cells (AK c++AD q++[.ints pos,.msl 1 1 0 ln])),some (.ints r.2)]) (A3 m0 (BB (AW Tryz.f136) 8 [])) ⟨AG 208 [(1,.ref 2 0),(3,.fn 163 1 (L1 [.ref 2 0])),(5,.msl 3 1 0 ((((c.cells.length:Int)+1)).toNat)),(7,.fn 164 1 (L1 [.ref 2 0])),(14,.it 4),(16,.i AZ)],[some (.cells (AK c++AD q++[.ints pos,.msl 1 1 0 ln])),some (.ints o1),some (.cells [.ref 0 0]),some (.mo (.sets 2 o3 none)),some (.mo (.set 2 o4))]⟩
 | .l5 x8 At E5 o1 o3 Af Ak FF o5 FE=>∀ m0 m1 m2:Nat,n<=m0 -> n<=m1 -> n<=m2 -> ∀ gk:LK,TW B N (FQ Tryz.f136 2 (.bool r.1) [some (.cells (AK c++AD q++[.ints pos,.msl 1 1 0 ln])),some (.ints r.2)]) (A3 m2 (BB (AW Tryz.f136) 6 [m0,m1])) ⟨AG 208 [(1,.ref 2 0),(3,.fn 163 1 (L1 [.ref 2 0])),(4,.i (c.cells.length:Int)),(5,.msl 3 1 0 ((((c.cells.length:Int)+1)).toNat)),(7,.fn 164 1 (L1 [.ref 2 0])),(8,.i x8),(9,.ref 4 0),(58,.i (c.cells.length:Int)),(59,.i At),(66,.it 5),(71,.msl 6 1 0 2),(72,.i 2),(73,.i E5)],[some (.cells (AK c++AD q++[.ints pos,.msl 1 1 0 ln])),some (.ints o1),some (.cells [.ref 0 0]),some (.mo (.sets 2 o3 (some (Af,gk)))),some (.cells [.i Ak,.i FF]),some (.mo (.mit 2 gk.1 gk.2.1 gk.2.2 o5 (some FE))),some (.bools ([false,true]:List Bool))]⟩
 | .l6 AZ o1 o3 Af o4 o7=>∀ m0 m1:Nat,n<=m0 -> n<=m1 -> ∀ gk:LK,TW B N (FQ Tryz.f136 2 (.bool r.1) [some (.cells (AK c++AD q++[.ints pos,.msl 1 1 0 ln])),some (.ints r.2)]) (A3 m1 (BB (AW Tryz.f136) 10 [m0])) ⟨AG 208 [(1,.ref 2 0),(3,.fn 163 1 (L1 [.ref 2 0])),(5,.msl 3 1 0 ((((c.cells.length:Int)+1)).toNat)),(7,.fn 164 1 (L1 [.ref 2 0])),(14,.it 4),(16,.i AZ),(17,.it 5),(18,.ref 6 0),(140,.it 7)],[some (.cells (AK c++AD q++[.ints pos,.msl 1 1 0 ln])),some (.ints o1),some (.cells [.ref 0 0]),some (.mo (.sets 2 o3 (some (Af,gk)))),some (.mo (.set 2 o4)),some (.mo (.set 2 ([]:KS))),some (.cells [.bool false,.bool false]),some (.mo (.mit 2 gk.1 gk.2.1 gk.2.2 o7 none))]⟩
 | .l7 AZ Dp o1 o3 Af o4 o5 BX BY DT DS o8 Dt=>∀ m0 m1 m2:Nat,n<=m0 -> n<=m1 -> n<=m2 -> ∀ gk:LK,TW B N (FQ Tryz.f136 2 (.bool r.1) [some (.cells (AK c++AD q++[.ints pos,.msl 1 1 0 ln])),some (.ints r.2)]) (A3 m2 (BB (AW Tryz.f136) 12 [m0,m1])) ⟨AG 208 [(1,.ref 2 0),(3,.fn 163 1 (L1 [.ref 2 0])),(5,.msl 3 1 0 ((((c.cells.length:Int)+1)).toNat)),(7,.fn 164 1 (L1 [.ref 2 0])),(14,.it 4),(16,.i AZ),(17,.it 5),(18,.ref 6 0),(19,.ref 7 0),(140,.it 8),(145,.msl 9 1 0 2),(146,.i 2),(147,.i Dp)],[some (.cells (AK c++AD q++[.ints pos,.msl 1 1 0 ln])),some (.ints o1),some (.cells [.ref 0 0]),some (.mo (.sets 2 o3 (some (Af,gk)))),some (.mo (.set 2 o4)),some (.mo (.set 2 o5)),some (.cells [.bool BX,.bool BY]),some (.cells [.i DT,.i DS]),some (.mo (.mit 2 gk.1 gk.2.1 gk.2.2 o8 (some Dt))),some (.bools ([false,true]:List Bool))]⟩
 | .l8 x8 At o1 o3 Af o4 JB=>∀ m0 m1:Nat,n<=m0 -> n<=m1 -> ∀ gk:LK,TW B N (FQ Tryz.f136 2 (.bool r.1) [some (.cells (AK c++AD q++[.ints pos,.msl 1 1 0 ln])),some (.ints r.2)]) (A3 m1 (BB (AW Tryz.f136) 4 [m0])) ⟨AG 208 [(1,.ref 2 0),(3,.fn 163 1 (L1 [.ref 2 0])),(4,.i (c.cells.length:Int)),(5,.msl 3 1 0 ((((c.cells.length:Int)+1)).toNat)),(7,.fn 164 1 (L1 [.ref 2 0])),(8,.i x8),(58,.i (c.cells.length:Int)),(59,.i At),(66,.it 4)],[some (.cells (AK c++AD q++[.ints pos,.msl 1 1 0 ln])),some (.ints o1),some (.cells [.ref 0 0]),some (.mo (.sets 2 o3 (some (Af,gk)))),some (.mo (.mit 2 gk.1 gk.2.1 gk.2.2 o4 (some JB)))]⟩
 | .l9 AZ o1 o3 Af o4 o5 BX BY o7 JA=>∀ m0 m1:Nat,n<=m0 -> n<=m1 -> ∀ gk:LK,TW B N (FQ Tryz.f136 2 (.bool r.1) [some (.cells (AK c++AD q++[.ints pos,.msl 1 1 0 ln])),some (.ints r.2)]) (A3 m1 (BB (AW Tryz.f136) 10 [m0])) ⟨AG 208 [(1,.ref 2 0),(3,.fn 163 1 (L1 [.ref 2 0])),(5,.msl 3 1 0 ((((c.cells.length:Int)+1)).toNat)),(7,.fn 164 1 (L1 [.ref 2 0])),(14,.it 4),(16,.i AZ),(17,.it 5),(18,.ref 6 0),(140,.it 7)],[some (.cells (AK c++AD q++[.ints pos,.msl 1 1 0 ln])),some (.ints o1),some (.cells [.ref 0 0]),some (.mo (.sets 2 o3 (some (Af,gk)))),some (.mo (.set 2 o4)),some (.mo (.set 2 o5)),some (.cells [.bool BX,.bool BY]),some (.mo (.mit 2 gk.1 gk.2.1 gk.2.2 o7 (some JA)))]⟩
theorem sO (B:Nat) (N:Yd 2) (c:AC) (q:AA) (pos:List Int) (ln:Nat) (lost:List Int):Al (BO c q pos ln lost) (sN · B N c q pos ln lost):=ia (fun _=>rfl) fun n AJ pt r h=>by
 cases pt
 case l1 E6 o3=>
  intro m0 AE;refine rd AE fun m0 AE=>?_
  revert r;apply gO;exact bi 46 (gc (gi (gc (gi (gw 52 (lG CJ [0,1,2,5] (AJ _ _ · m0 AE))))))) (gc (gi (gc (gi (gi (jg (vq (i:=0+0)) (lN CJ [0,1,2,3] (AJ _ _ · n Nat.le.refl))))))))
 case l2 At o1 o3=>
  intro m0 AE;refine rd AE fun m0 AE=>?_
  revert r;apply gO
  exact bi 60 (gn fun g0=>fun p r h=>by
   refine gs (AV 16 CJ) [0,1,2,3] p (Cc (AW Tryz.f136) 16 [m0]) (AG 208 [(1,.ref 2 0),(3,.fn 163 1 (L1 [.ref 2 0])),(4,.i (c.cells.length:Int)),(5,.msl 3 1 0 ((((c.cells.length:Int)+1)).toNat)),(7,.fn 164 1 (L1 [.ref 2 0])),(8,.i At),(58,.i (c.cells.length:Int)),(59,.i At)]) (aw c q pos ln o1 o3) ?_;refine Be.lock 3 (0+((At).toNat)) 2 (by kernel_rfl) g0 (by kernel_rfl) (fun gk=>(zJ c q pos ln o1 o3 At gk)) (by kernel_rfl) fun gk=>?_
   revert r;apply gO;exact gc (gi (gc (gi (gi (jg (Eq.refl (0+((At).toNat))) (lN CJ [0,1,2,3,4] (AJ _ _ · m0 n AE Nat.le.refl gk)))))))) (bi 115 (gc (gn fun g0=>jw 118 g0 (jw 125 g0 (gc (gi (gw 130 (lN CJ [0,1,2,3,4] (AJ _ _ · n Nat.le.refl)))))))) (gw 130 (lN CJ [0,1,2,3,4] (AJ _ _ · n Nat.le.refl))))
 case l3 x8 At o1 o3 Af o4=>
  intro m0 m1 AE Aw gk;have AE:=zEB AE;refine rd Aw fun m1 Aw=>?_
  have p:=H0;refine gs (AV 17 CJ) [0,1,2,3,4] p (Cc (AW Tryz.f136) 17 [m0,m1]) (AG 208 [(1,.ref 2 0),(3,.fn 163 1 (L1 [.ref 2 0])),(4,.i (c.cells.length:Int)),(5,.msl 3 1 0 ((((c.cells.length:Int)+1)).toNat)),(7,.fn 164 1 (L1 [.ref 2 0])),(8,.i x8),(58,.i (c.cells.length:Int)),(59,.i At),(66,.it 4)]) (zD c q pos ln o1 o3 Af gk o4) ?_;revert r;apply gO
  exact gn fun g0=>fun p r h=>by
   replace h:=Vl h;refine Ap.nx (ops:=Ah Tryz.f136 17) HC.x (by kernel_rfl) (by kernel_rfl) 4 3 Af 2 o3 gk o4 none [1,3,4,5,7,8,58,59,66,68] [0,1,2,3] (AG 208 [(1,.ref 2 0),(3,.fn 163 1 (L1 [.ref 2 0])),(4,.i (c.cells.length:Int)),(5,.msl 3 1 0 ((((c.cells.length:Int)+1)).toNat)),(7,.fn 164 1 (L1 [.ref 2 0])),(8,.i x8),(58,.i (c.cells.length:Int)),(59,.i At),(68,.bool false)]) (aw c q pos ln o1 o3) [0,1,2,3,4] (fun y1=>AG 208 [(1,.ref 2 0),(3,.fn 163 1 (L1 [.ref 2 0])),(4,.i (c.cells.length:Int)),(5,.msl 3 1 0 ((((c.cells.length:Int)+1)).toNat)),(7,.fn 164 1 (L1 [.ref 2 0])),(8,.i x8),(58,.i (c.cells.length:Int)),(59,.i At),(66,.it 4),(68,.bool true)]) (fun y1=>(kr c q pos ln o1 o3 Af gk o4 y1)) (by kernel_rfl) (by kernel_rfl) (by kernel_rfl) (by decide) g0 (by kernel_rfl) (by kernel_rfl) (fun _=>by kernel_rfl) (fun he=>?_) (fun y1 he=>?_)
   ·replace h:=h.1 he;revert r;apply gO;exact gw 98 (lG CJ [0,1,2,3] (AJ _ _ · m0 AE))
   ·replace h:=h.2 y1 he;revert r;apply gO;exact gi (jg (Eq.refl gk.1) (jg (Eq.refl gk.2.1) (jg (Eq.refl gk.2.2) (jt (lN CJ [0,1,2,3,5,4,6] (AJ _ _ · m0 m1 n AE Aw Nat.le.refl gk))))))
 case l4 AZ o1 o3 o4=>
  intro m0 AE;refine rd AE fun m0 AE=>?_
  revert r;apply gO
  exact bi 132 (gn fun g0=>fun p r h=>by
   refine gs (AV 36 CJ) [0,1,2,3,4,5,6] p (Cc (AW Tryz.f136) 36 [m0]) (AG 208 [(1,.ref 2 0),(3,.fn 163 1 (L1 [.ref 2 0])),(5,.msl 3 1 0 ((((c.cells.length:Int)+1)).toNat)),(7,.fn 164 1 (L1 [.ref 2 0])),(14,.it 4),(16,.i AZ),(17,.it 5),(18,.ref 6 0)]) (ar c q pos ln o1 o3 o4) ?_;refine Be.lock 3 (0+((AZ).toNat)) 2 (by kernel_rfl) g0 (by kernel_rfl) (fun gk=>(zB c q pos ln o1 o3 AZ gk o4)) (by kernel_rfl) fun gk=>?_
   revert r;apply gO;exact gc (gi (gc (gi (gi (jg (Eq.refl (0+((AZ).toNat))) (lN CJ [0,1,2,3,4,5,6,7] (AJ _ _ · m0 n AE Nat.le.refl gk)))))))) (lE CJ [2] [0,1])
 case l5 x8 At E5 o1 o3 Af Ak FF o5 FE=>
  intro m0 m1 m2 AE Aw GQ gk;have AE:=zEB AE;have Aw:=zEB Aw;refine rd GQ fun m2 GQ=>?_
  revert r;apply gO;exact bj 74 (fun c0=>gc (gn fun g0=>jg g0 (gn fun g1=>jg g1 (cn fun y1 A8=>jc (em (Ld A8) [2,0,1] (aq c q pos ln o1 o3 Af gk Ak FF o5 FE)) (jt (bn (fun c1=>rO (jb 74 c0 (jg g0 (jg g1 (jc (em (Ld A8) [2,0,1] (aq c q pos ln o1 o3 Af gk Ak FF o5 FE)) (jb 83 c1 (jt (ce V5 [2,0,1] (zA c q pos ln y1 o3 Af gk Ak FF o5 FE) fun _=>bi 89 (jg qx (gc (gw 93 (gc (gi (gc (gi (gc (gn fun g5=>gc (gi (jg (vp (g:=gk) g5) (gw 97 (lG CJ [0,1,2,3,4,5,6] (AJ _ _ · m0 m1 m2 AE Aw GQ gk)))))))))))))) (gw 97 (lG CJ [0,1,2,3,4,5,6] (AJ _ _ · m0 m1 m2 AE Aw GQ gk))))))))))) (fun c1=>rO (jb 74 c0 (jg g0 (jg g1 (jc (em (Ld A8) [2,0,1] (aq c q pos ln o1 o3 Af gk Ak FF o5 FE)) (jb 83 c1 (jt (gw 97 (lG CJ [0,1,2,3,4,5,6] (AJ _ _ · m0 m1 m2 AE Aw GQ gk)))))))))))))))) (fun _=>lG CJ [0,1,2,3,5] (AJ _ _ · m0 m1 AE Aw gk))
 case l6 AZ o1 o3 Af o4 o7=>
  intro m0 m1 AE Aw gk;have AE:=zEB AE;refine rd Aw fun m1 Aw=>?_
  have p:=H0;refine gs (AV 37 CJ) [0,1,2,3,4,5,6,7] p (Cc (AW Tryz.f136) 37 [m0,m1]) (AG 208 [(1,.ref 2 0),(3,.fn 163 1 (L1 [.ref 2 0])),(5,.msl 3 1 0 ((((c.cells.length:Int)+1)).toNat)),(7,.fn 164 1 (L1 [.ref 2 0])),(14,.it 4),(16,.i AZ),(17,.it 5),(18,.ref 6 0),(140,.it 7)]) (yz c q pos ln o1 o3 Af gk o4 o7) ?_;revert r;apply gO
  exact gn fun g0=>fun p r h=>by
   replace h:=Vl h;refine Ap.nx (ops:=Ah Tryz.f136 37) HC.x (by kernel_rfl) (by kernel_rfl) 7 3 Af 2 o3 gk o7 none [1,3,5,7,14,16,17,18,140,142] [0,1,2,3,4,5,6] (AG 208 [(1,.ref 2 0),(3,.fn 163 1 (L1 [.ref 2 0])),(5,.msl 3 1 0 ((((c.cells.length:Int)+1)).toNat)),(7,.fn 164 1 (L1 [.ref 2 0])),(14,.it 4),(16,.i AZ),(17,.it 5),(18,.ref 6 0),(142,.bool false)]) (ar c q pos ln o1 o3 o4) [0,1,2,3,4,5,6,7] (fun y1=>AG 208 [(1,.ref 2 0),(3,.fn 163 1 (L1 [.ref 2 0])),(5,.msl 3 1 0 ((((c.cells.length:Int)+1)).toNat)),(7,.fn 164 1 (L1 [.ref 2 0])),(14,.it 4),(16,.i AZ),(17,.it 5),(18,.ref 6 0),(140,.it 7),(142,.bool true)]) (fun y1=>(zH c q pos ln o1 o3 Af gk o4 o7 y1)) (by kernel_rfl) (by kernel_rfl) (by kernel_rfl) (by decide) g0 (by kernel_rfl) (by kernel_rfl) (fun _=>by kernel_rfl) (fun he=>?_) (fun y1 he=>?_)
   ·replace h:=h.1 he;revert r;apply gO;exact jg (by decide:(0:Int)<=1/\ 1<((2:Nat):Int)) (jg gV (gn fun g1=>jg g1 (ce Fr [0,1] (ar c q pos ln o1 o3 o4) fun y2=>jg (Eq.refl (eG c AZ q pos ln y2 o3 o4)) (jg (by decide:(0:Int)<=0/\ 0<((2:Nat):Int)) (jg Yr (jg g1 (ce Lc [0,1] (zI c q pos ln y2 o3 o4) fun y3=>jg (Eq.refl (eJ c AZ q pos ln y3 o3 o4)) (gw 134 (lG (tg:=[([],(eG c AZ q pos ln y2 o3 o4)),([],(eJ c AZ q pos ln y3 o3 o4))]) CJ [0,1,2,3,5] (AJ _ _ · m0 AE))))))))))
   ·replace h:=h.2 y1 he;revert r;apply gO;exact gi (jg (Eq.refl gk.1) (jg (Eq.refl gk.2.1) (jg (Eq.refl gk.2.2) (jt (lN CJ [0,1,2,3,4,5,6,8,7,9] (AJ _ _ · m0 m1 n AE Aw Nat.le.refl gk))))))
 case l7 AZ Dp o1 o3 Af o4 o5 BX BY DT DS o8 Dt=>
  intro m0 m1 m2 AE Aw GQ gk;have AE:=zEB AE;have Aw:=zEB Aw;refine rd GQ fun m2 GQ=>?_
  revert r;apply gO;exact bj 148 (fun c0=>gc (gn fun g0=>jg g0 (gn fun g1=>jg g1 (cn fun y1 A8=>jc (em (Ld A8) [2,0,1] (Sx c q pos ln o1 o3 Af gk o4 o5 BX BY DT DS o8 Dt)) (jt (bn (fun c1=>rO (jb 148 c0 (jg g0 (jg g1 (jc (em (Ld A8) [2,0,1] (Sx c q pos ln o1 o3 Af gk o4 o5 BX BY DT DS o8 Dt)) (jb 158 c1 (jt (cn fun y2 Bx=>jc (em (V5 Bx) [2,0,1] (av c q pos ln y1 o3 Af gk o4 o5 BX BY DT DS o8 Dt)) (bj 164 (fun c2=>bj 169 (fun c3=>bn (fun c4=>rO (jb 148 c0 (jo 149 (AR.int (k:=.i64) (eq_of_beq c4)) (jg g0 (jg g1 (jc (em (Ld A8) [2,0,1] (Sx c q pos ln o1 o3 Af gk o4 o5 BX BY DT DS o8 Dt)) (jb 158 c1 (jt (jc (em (V5 Bx) [2,0,1] (av c q pos ln y1 o3 Af gk o4 o5 BX BY DT DS o8 Dt)) (jb 164 c2 (jb 169 c3 (jg (by decide:(0:Int)<=0/\ 0<((2:Nat):Int)) (jt (gw 175 (lG CJ [0,1,2,3,4,5,6,7,8,9] (AJ _ _ · m0 m1 m2 AE Aw GQ gk)))))))))))))))) (fun c4=>bn (fun c6=>rO (jb 148 c0 (jo 149 (AR.int (k:=.i64) (eq_of_beq c6)) (jg g0 (jg g1 (jc (em (Ld A8) [2,0,1] (Sx c q pos ln o1 o3 Af gk o4 o5 BX BY DT DS o8 Dt)) (jb 158 c1 (jt (jc (em (V5 Bx) [2,0,1] (av c q pos ln y1 o3 Af gk o4 o5 BX BY DT DS o8 Dt)) (jb 164 c2 (jb 169 c3 (jg (by decide:(0:Int)<=1/\ 1<((2:Nat):Int)) (jt (gw 175 (lG CJ [0,1,2,3,4,5,6,7,8,9] (AJ _ _ · m0 m1 m2 AE Aw GQ gk)))))))))))))))) (fun c6=>nO))) (fun _=>gw 175 (lG CJ [0,1,2,3,4,5,6,7,8,9] (AJ _ _ · m0 m1 m2 AE Aw GQ gk)))) (fun _=>gw 175 (lG CJ [0,1,2,3,4,5,6,7,8,9] (AJ _ _ · m0 m1 m2 AE Aw GQ gk)))))))))))) (fun c1=>rO (jb 148 c0 (jg g0 (jg g1 (jc (em (Ld A8) [2,0,1] (Sx c q pos ln o1 o3 Af gk o4 o5 BX BY DT DS o8 Dt)) (jb 158 c1 (jt (gw 175 (lG CJ [0,1,2,3,4,5,6,7,8,9] (AJ _ _ · m0 m1 m2 AE Aw GQ gk)))))))))))))))) (fun _=>lG CJ [0,1,2,3,4,5,6,8] (AJ _ _ · m0 m1 AE Aw gk))
 case l8 x8 At o1 o3 Af o4 JB=>
  intro m0 m1 AE Aw gk;have AE:=zEB AE;refine rd Aw fun m1 Aw=>?_
  have p:=H0;refine gs (AV 17 CJ) [0,1,2,3,4] p (Cc (AW Tryz.f136) 17 [m0,m1]) (AG 208 [(1,.ref 2 0),(3,.fn 163 1 (L1 [.ref 2 0])),(4,.i (c.cells.length:Int)),(5,.msl 3 1 0 ((((c.cells.length:Int)+1)).toNat)),(7,.fn 164 1 (L1 [.ref 2 0])),(8,.i x8),(58,.i (c.cells.length:Int)),(59,.i At),(66,.it 4)]) (zG c q pos ln o1 o3 Af gk o4 JB) ?_;revert r;apply gO
  exact gn fun g0=>fun p r h=>by
   replace h:=Vl h;refine Ap.nx (ops:=Ah Tryz.f136 17) HC.x (by kernel_rfl) (by kernel_rfl) 4 3 Af 2 o3 gk o4 (some JB) [1,3,4,5,7,8,58,59,66,68] [0,1,2,3] (AG 208 [(1,.ref 2 0),(3,.fn 163 1 (L1 [.ref 2 0])),(4,.i (c.cells.length:Int)),(5,.msl 3 1 0 ((((c.cells.length:Int)+1)).toNat)),(7,.fn 164 1 (L1 [.ref 2 0])),(8,.i x8),(58,.i (c.cells.length:Int)),(59,.i At),(68,.bool false)]) (aw c q pos ln o1 o3) [0,1,2,3,4] (fun y1=>AG 208 [(1,.ref 2 0),(3,.fn 163 1 (L1 [.ref 2 0])),(4,.i (c.cells.length:Int)),(5,.msl 3 1 0 ((((c.cells.length:Int)+1)).toNat)),(7,.fn 164 1 (L1 [.ref 2 0])),(8,.i x8),(58,.i (c.cells.length:Int)),(59,.i At),(66,.it 4),(68,.bool true)]) (fun y1=>(kr c q pos ln o1 o3 Af gk o4 y1)) (by kernel_rfl) (by kernel_rfl) (by kernel_rfl) (by decide) g0 (by kernel_rfl) (by kernel_rfl) (fun _=>by kernel_rfl) (fun he=>?_) (fun y1 he=>?_)
   ·replace h:=h.1 he;revert r;apply gO;exact gw 98 (lG CJ [0,1,2,3] (AJ _ _ · m0 AE))
   ·replace h:=h.2 y1 he;revert r;apply gO;exact gi (jg (Eq.refl gk.1) (jg (Eq.refl gk.2.1) (jg (Eq.refl gk.2.2) (jt (lN CJ [0,1,2,3,5,4,6] (AJ _ _ · m0 m1 n AE Aw Nat.le.refl gk))))))
 case l9 AZ o1 o3 Af o4 o5 BX BY o7 JA=>
  intro m0 m1 AE Aw gk;have AE:=zEB AE;refine rd Aw fun m1 Aw=>?_
  have p:=H0;refine gs (AV 37 CJ) [0,1,2,3,4,5,6,7] p (Cc (AW Tryz.f136) 37 [m0,m1]) (AG 208 [(1,.ref 2 0),(3,.fn 163 1 (L1 [.ref 2 0])),(5,.msl 3 1 0 ((((c.cells.length:Int)+1)).toNat)),(7,.fn 164 1 (L1 [.ref 2 0])),(14,.it 4),(16,.i AZ),(17,.it 5),(18,.ref 6 0),(140,.it 7)]) (zF c q pos ln o1 o3 Af gk o4 o5 BX BY o7 JA) ?_;revert r;apply gO
  exact gn fun g0=>fun p r h=>by
   replace h:=Vl h;refine Ap.nx (ops:=Ah Tryz.f136 37) HC.x (by kernel_rfl) (by kernel_rfl) 7 3 Af 2 o3 gk o7 (some JA) [1,3,5,7,14,16,17,18,140,142] [0,1,2,3,4,5,6] (AG 208 [(1,.ref 2 0),(3,.fn 163 1 (L1 [.ref 2 0])),(5,.msl 3 1 0 ((((c.cells.length:Int)+1)).toNat)),(7,.fn 164 1 (L1 [.ref 2 0])),(14,.it 4),(16,.i AZ),(17,.it 5),(18,.ref 6 0),(142,.bool false)]) (au c q pos ln o1 o3 o4 o5 BX BY) [0,1,2,3,4,5,6,7] (fun y1=>AG 208 [(1,.ref 2 0),(3,.fn 163 1 (L1 [.ref 2 0])),(5,.msl 3 1 0 ((((c.cells.length:Int)+1)).toNat)),(7,.fn 164 1 (L1 [.ref 2 0])),(14,.it 4),(16,.i AZ),(17,.it 5),(18,.ref 6 0),(140,.it 7),(142,.bool true)]) (fun y1=>(zC c q pos ln o1 o3 Af gk o4 o5 BX BY o7 y1)) (by kernel_rfl) (by kernel_rfl) (by kernel_rfl) (by decide) g0 (by kernel_rfl) (by kernel_rfl) (fun _=>by kernel_rfl) (fun he=>?_) (fun y1 he=>?_)
   ·replace h:=h.1 he;revert r;apply gO;exact jg (by decide:(0:Int)<=1/\ 1<((2:Nat):Int)) (bi 179 (jg gV (gn fun g1=>jg g1 (ce Fr [0,1] (au c q pos ln o1 o3 o4 o5 BX BY) fun y2=>jg (Eq.refl (YL c AZ q pos ln y2 o3 o4 o5 BX BY)) (jg (by decide:(0:Int)<=0/\ 0<((2:Nat):Int)) (bi 197 (jg Yr (jg g1 (ce Lc [0,1] (zE c q pos ln y2 o3 o4 o5 BX BY) fun y3=>jg (Eq.refl (eI c AZ q pos ln y3 o3 o4 o5 BX BY)) (gw 134 (lG (tg:=[([],(YL c AZ q pos ln y2 o3 o4 o5 BX BY)),([],(eI c AZ q pos ln y3 o3 o4 o5 BX BY))]) CJ [0,1,2,3,5] (AJ _ _ · m0 AE)))))) (gw 134 (lG (tg:=[([],(YL c AZ q pos ln y2 o3 o4 o5 BX BY))]) CJ [0,1,2,3,5] (AJ _ _ · m0 AE)))))))) (jg (by decide:(0:Int)<=0/\ 0<((2:Nat):Int)) (bi 197 (jg Yr (gi (ce Lc [0,1] (au c q pos ln o1 o3 o4 o5 BX BY) fun y2=>jg (Eq.refl (eH c AZ q pos ln y2 o3 o4 o5 BX BY)) (gw 134 (lG (tg:=[([],(eH c AZ q pos ln y2 o3 o4 o5 BX BY))]) CJ [0,1,2,3,5] (AJ _ _ · m0 AE)))))) (gw 134 (lG CJ [0,1,2,3,5] (AJ _ _ · m0 AE))))))
   ·replace h:=h.2 y1 he;revert r;apply gO;exact gi (jg (Eq.refl gk.1) (jg (Eq.refl gk.2.1) (jg (Eq.refl gk.2.2) (jt (lN CJ [0,1,2,3,4,5,6,8,7,9] (AJ _ _ · m0 m1 n AE Aw Nat.le.refl gk))))))
theorem sK {n:Nat} {c:AC} {q:AA} {pos:List Int} {ln:Nat} {lost:List Int} {r:Bool×(List Int)} (h:Ov n c q pos ln lost=some r):EQ 136 [.ref 0 0] [some (.cells (AK c++AD q++[.ints pos,.msl 1 1 0 ln])),some (.ints lost)] (.bool r.1) [some (.cells (AK c++AD q++[.ints pos,.msl 1 1 0 ln])),some (.ints r.2)] false:=by
 refine ot Tryz.func136 fun B N=>?_
 revert r;apply gO;exact bi 32 (lE CJ [2] [0,1]) (gc (gw 41 (gi (lN CJ [0,1,2,3] ((sO B N c q pos ln lost n) _ _ · n Nat.le.refl)))))
end Go.Proofs.YtkjbblkieglmlaaGreatDoor
