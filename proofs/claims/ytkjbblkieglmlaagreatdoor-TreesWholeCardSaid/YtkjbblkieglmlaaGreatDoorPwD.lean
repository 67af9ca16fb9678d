/- Part 4 of 7 of what the proofs of these laws stand on. -/
import Derived.Test.YtkjbblkieglmlaaGreatDoorPwC
import Derived.Laws.BitsLemmas
import Derived.Shelf.Sort.Plain
set_option linter.all false
namespace Go.Proofs.YtkjbblkieglmlaaGreatDoor
abbrev zE8:=@List.drop_zero
end Go.Proofs.YtkjbblkieglmlaaGreatDoor
namespace Go.Proofs.YtkjbblkieglmlaaGreatDoor
open Go.RowKit
set_option maxRecDepth 100000
set_option maxHeartbeats 40000000
def zDA (n:Nat) (s_:List Int):Option Unit:=
 some ()
def zDC (n:Nat) (s_:List Int):Option Unit:=zDA n s_
theorem zC9 {n:Nat} (s_:List Int) {r:Unit} (h:zDC n s_=some r):EQ 162 [.ints s_] [] (.fn 176 1 (L1 [.ref 0 0])) [some (.cells [.ints s_])] true:=by
 refine ot Tryz.func162 fun B N=>?_
 revert r;apply gO;exact lE AE [2] [0]
inductive QQ where
 | l1 (x3:Int)
def OS (n:Nat) (self:QQ -> Option (List (Int×Int))) (s_:List Int) (x3:Int):Option (List (Int×Int)):=
 bif (decide (x3>=0)) then
  if 0<=x3/\ x3<(s_.length:Int) then
   Option.map (fun l=>(x3,s_.getD ((x3).toNat) 0)::l) (
    if AL (x3-1) then
     self (.l1 (x3-1))
    else none)
  else none
 else
  some []
def cb (n:Nat) (self:QQ -> Option (List (Int×Int))) (s_:List Int):Option (List (Int×Int)):=
 if AL ((s_.length:Int)-1) then
  self (.l1 ((s_.length:Int)-1))
 else none
def MQ (s_:List Int):Nat -> QQ -> Option (List (Int×Int))
 | 0,_=>none
 | n+1,.l1 x3=>OS n (MQ s_ n) s_ x3
def back (n:Nat) (s_:List Int):Option (List (Int×Int)):=cb n (MQ s_ n) s_
def cc (C:Bb Tryz.prog) (n:Nat) (s_:List Int) (r:List (Int×Int)):QQ -> Prop
 | .l1 x3=>∀ m0:Nat,n<=m0 -> ∀ i:Nat,i<=C.encs.length -> C.encs.drop i=r.map OD -> An Tryz.prog GG Fence.wide none 1 (C.Y GG 1 i) (C.Q GG 1) (A8 m0 (BL (AY Tryz.f176) 0 [])) ⟨AG 19 [(0,.yl C.l),(1,.ref 0 0),(3,.i x3)],[some (.cells [.ints s_])]⟩
theorem zC6 (C:Bb Tryz.prog) (n:Nat) (self:QQ -> Option (List (Int×Int))) (s_:List Int) (AK: ∀ pt r,self pt=some r -> cc C n s_ r pt) (x3:Int) (r:List (Int×Int)) (h:OS n self s_ x3=some r):cc C (n+1) s_ r (.l1 x3):=by
 intro m0 AD;intro i hi hd;refine rd AD fun m0 AD=>?_
 unfold OS at h;have p:=H0;rcases Bt h with ⟨c0,h⟩ | ⟨c0,h⟩
 ·have p:=H0.b 8 c0;refine gs (AR 3 AE) [0] p (CO (AY Tryz.f176) 3 [m0]) (AG 19 [(0,.yl C.l),(1,.ref 0 0),(3,.i x3)]) [some (.cells [.ints s_])] ?_;obtain ⟨g0,h⟩:=Bu h;have p:=H0.g g0;obtain ⟨r,h2,rfl⟩:=KH h;clear h;have h:=h2;clear h2;obtain ⟨hx,hi,hd⟩:=Ta hd;refine An.y (ops:=Ag Tryz.f176 3) HC.x 6 [0,1,3,18] [0] p (x:=OD (x3,s_.getD ((x3).toNat) 0)) (AG 19 [(0,.yl C.l),(1,.ref 0 0),(3,.i x3),(18,.bool false)]) [some (.cells [.ints s_])] (AG 19 [(0,.yl C.l),(1,.ref 0 0),(3,.i x3),(18,.bool true)]) [some (.cells [.ints s_])] (by kernel_rfl) (by kernel_rfl) (by kernel_rfl) hx (by kernel_rfl) ?_ ?_
  ·generalize i+1=i at hi hd ⊢
   obtain ⟨g1,h⟩:=Bu h;have p:=H0.w 10 g1;exact gg AE [0] p (AK _ _ h m0 AD i hi hd)
  ·exact TrI.e HC.x AE 6 H0 (by kernel_rfl) (.inr rfl)
 ·have p:=H0.b 8 c0;cases h;exact TrI.e HC.x AE 10 p (by kernel_rfl) (.inl (by rw [OF hi hd]))
theorem nJ (C:Bb Tryz.prog) (s_:List Int): ∀ (n:Nat) (pt:QQ) (r:List (Int×Int)),MQ s_ n pt=some r -> cc C n s_ r pt
 | 0,_,_,h=>by cases h
 | n+1,.l1 x3,r,h=>zC6 C n (MQ s_ n) s_ (nJ C s_ n) x3 r h
theorem zC7 {n:Nat} (s_:List Int) {r:List (Int×Int)} (h:back n s_=some r) (C:Bb Tryz.prog) (hC:C.encs=r.map OD):An Tryz.prog GG Fence.wide none 1 (C.Y GG 1 0) (C.Q GG 1) [.code (AY Tryz.f176)] ⟨AG 19 [(0,.yl C.l),(1,.ref 0 0)],[some (.cells [.ints s_])]⟩:=by
 suffices H: ∀ i:Nat,i<=C.encs.length -> C.encs.drop i=r.map OD -> An Tryz.prog GG Fence.wide none 1 (C.Y GG 1 i) (C.Q GG 1) [.code (AY Tryz.f176)] ⟨AG 19 [(0,.yl C.l),(1,.ref 0 0)],[some (.cells [.ints s_])]⟩ from H 0 (zEf _) (by rw [zE8];exact hC)
 intro i hi hd;have AK:=nJ C s_ n;unfold back at h
 generalize MQ s_ n=self at h AK
 unfold cb at h;obtain ⟨g0,h⟩:=Bu h;have p:=H0.w 6 g0;exact gg AE [0] p (en n (AK _ _ h n Nat.le.refl i hi hd))
theorem zDB {n:Nat} {s_:List Int} {r:List (Int×Int)} (h:back n s_=some r) (H:DH):EQ 162 [.ints s_] H (.it H.length) (H++[some (.iter (r.map OD))]) true:=by
 refine ES.iterN (c:=L1 [.ref 0 0]) (h0:=[some (.cells [.ints s_])]) (fn:=Tryz.f176) (zC9 (n:=0) s_ (r:=()) rfl) (by kernel_rfl) Tryz.func176 (by kernel_rfl) (by kernel_rfl) (by kernel_rfl) (fun C hC=>?_) H;have e:DV.yl C.l::(List.range 1).map (L1 [.ref 0 0])++List.replicate (Tryz.f176.ntmps-(1+1)) .any=AG 19 [(0,.yl C.l),(1,.ref 0 0)]:=by kernel_rfl
 rw [e];exact zC7 s_ h C hC
end Go.Proofs.YtkjbblkieglmlaaGreatDoor
namespace Go.Proofs.YtkjbblkieglmlaaGreatDoor
open Go.RowKit
set_option maxRecDepth 100000
set_option maxHeartbeats 40000000
def tI (n:Nat) (g_:List (List Int)) (AU:List Bool) (start:Int):Option Unit:=
 some ()
def tJ (n:Nat) (g_:List (List Int)) (AU:List Bool) (start:Int):Option Unit:=tI n g_ AU start
theorem tH {n:Nat} (g_:List (List Int)) (AU:List Bool) (start:Int) {r:Unit} (h:tJ n g_ AU start=some r):EQ 130 [.sl 1 g_.length (AQ Be g_),.bools AU,.i start] [] (.fn 157 3 (L1 [.ref 0 0,.ref 1 0,.ref 2 0])) [some (.cells [.sl 1 g_.length (AQ Be g_)]),some (.cells [.i start]),some (.cells [.bools AU])] true:=by
 refine ot Tryz.func130 fun B N=>?_
 revert r;apply gO;exact lE AE [6] [0,2,1]
theorem qd:Ar (Ag Tryz.f157 6) [] (List.range 8) []:=by unfold Ar;kernel_rfl
def ID:Bi:=fun i=>match i with
 | 6=>.ord [] (List.range 8) []
 | _=>.no
def WU (g:List (List Int)) (start:Int) (inn o3:List Bool) (o4:List Int):DH:=[some (.cells [.sl 1 g.length (AQ Be g)]),some (.cells [.i start]),some (.cells [.bools inn]),some (.bools o3),some (.ints o4)]
inductive Iy where
 | l1 (x6:Nat) (o3:List Bool) (o4:List Int)
 | l2 (x6:Nat) (DP:List Int) (GT Bw:Int) (o3:List Bool) (o4:List Int)
 | l3 (o3:List Bool)
def NB (n:Nat) (self:Iy -> Option (List Int)) (g:List (List Int)) (start:Int) (inn:List Bool) (x6:Nat) (o3:List Bool) (o4:List Int):Option (List Int):=
 bif (decide ((x6:Int)>0)) then
  if ((0:Int)<=0/\ 0<(x6:Int))/\ 0+0<o4.length then
   Option.map (fun l=>(o4.getD (0+0) 0)::l) (
    if ((0:Int)<=0/\ 0<(x6:Int))/\ 0+0<o4.length/\ (0<=(o4.getD (0+0) 0)/\ (o4.getD (0+0) 0)<(g.length:Int)) then
     self (.l2 x6 (g.getD ((o4.getD (0+0) 0).toNat) []) (((g.getD ((o4.getD (0+0) 0).toNat) []).length:Nat):Int) 0 o3 o4)
    else none)
  else none
 else
  some []
def J7 (n:Nat) (self:Iy -> Option (List Int)) (g:List (List Int)) (start:Int) (inn:List Bool) (x6:Nat) (DP:List Int) (GT Bw:Int) (o3:List Bool) (o4:List Int):Option (List Int):=
 bif (decide (Bw<GT)) then
  if (0<=Bw/\ Bw<(DP.length:Int))/\ (0<=(DP.getD ((Bw).toNat) 0)/\ (DP.getD ((Bw).toNat) 0)<(inn.length:Int)) then
   bif (inn.getD ((DP.getD ((Bw).toNat) 0).toNat) false) then
    if (0<=(DP.getD ((Bw).toNat) 0)/\ (DP.getD ((Bw).toNat) 0)<(g.length:Int))/\ 0+((DP.getD ((Bw).toNat) 0).toNat)<o3.length then
     bif (!(o3.getD (0+((DP.getD ((Bw).toNat) 0).toNat)) false)) then
      if ((0=0/\ 1=([DP.getD ((Bw).toNat) 0]:List Int).length)/\ (0=0/\ x6=o4.length)/\ o4.length+([DP.getD ((Bw).toNat) 0]:List Int).length<=BB)/\ AL (Bw+1) then
       self (.l2 (o4.length+([DP.getD ((Bw).toNat) 0]:List Int).length) DP GT (Bw+1) (o3.set (0+((DP.getD ((Bw).toNat) 0).toNat)) true) (o4++([DP.getD ((Bw).toNat) 0]:List Int)))
      else none
     else
      if AL (Bw+1) then
       self (.l2 x6 DP GT (Bw+1) o3 o4)
      else none
    else none
   else
    if AL (Bw+1) then
     self (.l2 x6 DP GT (Bw+1) o3 o4)
    else none
  else none
 else
  bif ((x6-1)==0) then
   if (0:Int)<=1/\ (1:Int)<=(x6:Int)/\ (x6:Int)<=(x6:Int) then
    self (.l3 o3)
   else none
  else
   if (0:Int)<=1/\ (1:Int)<=(x6:Int)/\ (x6:Int)<=(x6:Int) then
    if 1<=o4.length then
     self (.l1 (x6-1) o3 (o4.drop 1))
    else none
   else none
def Y4 (n:Nat) (self:Iy -> Option (List Int)) (g:List (List Int)) (start:Int) (inn:List Bool) (o3:List Bool):Option (List Int):=
 some []
def Y5 (n:Nat) (self:Iy -> Option (List Int)) (g:List (List Int)) (start:Int) (inn:List Bool):Option (List Int):=
 if (((g.length:Int):Int)=(g.length:Int)/\ 0<=(g.length:Int)/\ ((g.length:Int):Int)<=1000000000000)/\ (0<=start/\ start<(g.length:Int))/\ 0+((start).toNat)<(List.replicate g.length false).length then
  self (.l1 1 ((List.replicate g.length false).set (0+((start).toNat)) true) ([start]:List Int))
 else none
def EU (g:List (List Int)) (start:Int) (inn:List Bool):Nat -> Iy -> Option (List Int)
 | 0,_=>none
 | n+1,.l1 x6 o3 o4=>NB n (EU g start inn n) g start inn x6 o3 o4
 | n+1,.l2 x6 DP GT Bw o3 o4=>J7 n (EU g start inn n) g start inn x6 DP GT Bw o3 o4
 | n+1,.l3 o3=>Y4 n (EU g start inn n) g start inn o3
def F2 (n:Nat) (g:List (List Int)) (start:Int) (inn:List Bool):Option (List Int):=Y5 n (EU g start inn n) g start inn
def NC (C:Bb Tryz.prog) (n:Nat) (g:List (List Int)) (start:Int) (inn:List Bool) (r:List Int):Iy -> Prop
 | .l1 x6 o3 o4=>∀ m0:Nat,n<=m0 -> ∀ i:Nat,i<=C.encs.length -> C.encs.drop i=r.map BQ -> An Tryz.prog GG Fence.wide none 3 (C.Y GG 3 i) (C.Q GG 3) (A8 m0 (BL (AY Tryz.f157) 0 [])) ⟨AG 58 [(0,.yl C.l),(1,.ref 0 0),(3,.ref 2 0),(5,.msl 3 1 0 g.length),(6,.msl 4 1 0 x6)],[some (.cells [.sl 1 g.length (AQ Be g)]),some (.cells [.i start]),some (.cells [.bools inn]),some (.bools o3),some (.ints o4)]⟩
 | .l2 x6 DP GT Bw o3 o4=>∀ m0 m1:Nat,n<=m0 -> n<=m1 -> ∀ i:Nat,i<=C.encs.length -> C.encs.drop i=r.map BQ -> An Tryz.prog GG Fence.wide none 3 (C.Y GG 3 i) (C.Q GG 3) (A8 m1 (BL (AY Tryz.f157) 2 [m0])) ⟨AG 58 [(0,.yl C.l),(1,.ref 0 0),(3,.ref 2 0),(5,.msl 3 1 0 g.length),(6,.msl 4 1 0 x6),(33,.ints DP),(34,.i GT),(35,.i Bw)],[some (.cells [.sl 1 g.length (AQ Be g)]),some (.cells [.i start]),some (.cells [.bools inn]),some (.bools o3),some (.ints o4)]⟩
 | .l3 o3=>∀ m0:Nat,n<=m0 -> ∀ i:Nat,i<=C.encs.length -> C.encs.drop i=r.map BQ -> An Tryz.prog GG Fence.wide none 3 (C.Y GG 3 i) (C.Q GG 3) (A8 m0 (BL (AY Tryz.f157) 0 [])) ⟨AG 58 [(0,.yl C.l),(1,.ref 0 0),(3,.ref 2 0),(5,.msl 3 1 0 g.length),(6,.ints ([]:List Int))],[some (.cells [.sl 1 g.length (AQ Be g)]),some (.cells [.i start]),some (.cells [.bools inn]),some (.bools o3)]⟩
theorem tC (C:Bb Tryz.prog) (n:Nat) (self:Iy -> Option (List Int)) (g:List (List Int)) (start:Int) (inn:List Bool) (AK: ∀ pt r,self pt=some r -> NC C n g start inn r pt) (x6:Nat) (o3:List Bool) (o4:List Int) (r:List Int) (h:NB n self g start inn x6 o3 o4=some r):NC C (n+1) g start inn r (.l1 x6 o3 o4):=by
 intro m0 AD;intro i hi hd;refine rd AD fun m0 AD=>?_
 unfold NB at h;have p:=H0;rcases Bt h with ⟨c0,h⟩ | ⟨c0,h⟩
 ·have p:=H0.b 19 c0;refine gs (AR 5 ID) [0,1,2,3,4] p (CO (AY Tryz.f157) 5 [m0]) (AG 58 [(0,.yl C.l),(1,.ref 0 0),(3,.ref 2 0),(5,.msl 3 1 0 g.length),(6,.msl 4 1 0 x6)]) (WU g start inn o3 o4) ?_;obtain ⟨⟨g0,g1⟩,h⟩:=Bu h;have p:=H0.g g0 |>.g g1
  obtain ⟨r,h2,rfl⟩:=KH h;clear h;have h:=h2;clear h2;obtain ⟨hx,hi,hd⟩:=Ta hd;refine An.y (ops:=Ag Tryz.f157 5) HC.x 4 [0,1,3,5,6,27] [0,1,2,3,4] p (x:=BQ (o4.getD (0+0) 0)) (AG 58 [(0,.yl C.l),(1,.ref 0 0),(3,.ref 2 0),(5,.msl 3 1 0 g.length),(6,.msl 4 1 0 x6),(27,.bool false)]) (WU g start inn o3 o4) (AG 58 [(0,.yl C.l),(1,.ref 0 0),(3,.ref 2 0),(5,.msl 3 1 0 g.length),(6,.msl 4 1 0 x6),(27,.bool true)]) (WU g start inn o3 o4) (by kernel_rfl) (by kernel_rfl) (by kernel_rfl) hx (by kernel_rfl) ?_ ?_
  ·generalize i+1=i at hi hd ⊢
   obtain ⟨⟨g2,g3,g4⟩,h⟩:=Bu h;have p:=H0.g qd |>.g g2 |>.g g3 |>.g g4
   exact gg ID [0,1,2,3,4] p (en n (AK _ _ h m0 n AD Nat.le.refl i hi hd))
  ·exact TrI.e HC.x ID 6 H0 (by kernel_rfl) (.inr rfl)
 ·have p:=H0.b 19 c0;cases h;exact TrI.e HC.x ID 10 p (by kernel_rfl) (.inl (by rw [OF hi hd]))
theorem tB (C:Bb Tryz.prog) (n:Nat) (self:Iy -> Option (List Int)) (g:List (List Int)) (start:Int) (inn:List Bool) (AK: ∀ pt r,self pt=some r -> NC C n g start inn r pt) (x6:Nat) (DP:List Int) (GT Bw:Int) (o3:List Bool) (o4:List Int) (r:List Int) (h:J7 n self g start inn x6 DP GT Bw o3 o4=some r):NC C (n+1) g start inn r (.l2 x6 DP GT Bw o3 o4):=by
 intro m0 m1 AD Az;intro i hi hd;have AD:=zEE AD;refine rd Az fun m1 Az=>?_
 unfold J7 at h;have p:=H0;rcases Bt h with ⟨c0,h⟩ | ⟨c0,h⟩
 ·obtain ⟨⟨g0,g1⟩,h⟩:=Bu h;have p:=H0.b 36 c0 |>.g g0 |>.g g1
  rcases Bt h with ⟨c1,h⟩ | ⟨c1,h⟩
  ·obtain ⟨⟨g2,g3⟩,h⟩:=Bu h;have p:=p.b 42 c1 |>.g g2 |>.g g3
   rcases Bt h with ⟨c2,h⟩ | ⟨c2,h⟩
   ·obtain ⟨⟨g4,g5⟩,h⟩:=Bu h;have p:=p.b 48 c2 |>.g g2 |>.g g3 |>.g g4 |>.w 57 g5
    exact gg ID [0,1,2,3,6] p (AK _ _ h m0 m1 AD Az i hi hd)
   ·obtain ⟨g4,h⟩:=Bu h;have p:=p.b 48 c2 |>.w 57 g4
    exact gg ID [0,1,2,3,4] p (AK _ _ h m0 m1 AD Az i hi hd)
  ·obtain ⟨g2,h⟩:=Bu h;have p:=p.b 42 c1 |>.w 57 g2
   exact gg ID [0,1,2,3,4] p (AK _ _ h m0 m1 AD Az i hi hd)
 ·have p:=H0.b 36 c0;rcases Bt h with ⟨c1,h⟩ | ⟨c1,h⟩
  ·obtain ⟨g0,h⟩:=Bu h;have p:=p.g g0 |>.o 21 (AS.mse_nil (k:=4) (m:=1) (o:=1) (eq_of_beq c1))
   exact gg ID [0,1,2,3] p (AK _ _ h m0 AD i hi hd)
  ·obtain ⟨g0,h⟩:=Bu h;have p:=p.g g0 |>.o 21 (AS.mse_msl (k:=4) (m:=1) (o:=1) (tq c1) rfl)
   obtain ⟨g1,h⟩:=Bu h;refine gs ID [0,1,2,3,4] p (A8 m0 (BL (AY Tryz.f157) 0 [])) (AG 58 [(0,.yl C.l),(1,.ref 0 0),(3,.ref 2 0),(5,.msl 3 1 0 g.length),(6,.msl 4 1 1 (x6-1))]) (WU g start inn o3 o4) ?_;refine Bg.le (Ay.rootE 4 1 ⟨AG 58 [(0,.yl C.l),(1,.ref 0 0),(3,.ref 2 0),(5,.msl 3 1 0 g.length),(6,.msl 5 1 0 (x6-1))],[some (.cells [.sl 1 g.length (AQ Be g)]),some (.cells [.i start]),some (.cells [.bools inn]),some (.bools o3),none,some (.ints (o4.drop 1))]⟩ [1<=o4.length] (by kernel_rfl) ⟨g1,trivial⟩) (by kernel_rfl) ?_;refine Bg.le (Ay.compE [0,1,2,3,5] (by kernel_rfl)) (by kernel_rfl) ?_;exact AK _ _ h m0 AD i hi hd
theorem tA (C:Bb Tryz.prog) (n:Nat) (self:Iy -> Option (List Int)) (g:List (List Int)) (start:Int) (inn:List Bool) (AK: ∀ pt r,self pt=some r -> NC C n g start inn r pt) (o3:List Bool) (r:List Int) (h:Y4 n self g start inn o3=some r):NC C (n+1) g start inn r (.l3 o3):=by
 intro m0 AD;intro i hi hd;refine rd AD fun m0 AD=>?_
 unfold Y4 at h;have p:=H0;cases h;exact TrI.e HC.x ID 10 p (by kernel_rfl) (.inl (by rw [OF hi hd]))
theorem VH (C:Bb Tryz.prog) (g:List (List Int)) (start:Int) (inn:List Bool): ∀ (n:Nat) (pt:Iy) (r:List Int),EU g start inn n pt=some r -> NC C n g start inn r pt
 | 0,_,_,h=>by cases h
 | n+1,.l1 x6 o3 o4,r,h=>tC C n (EU g start inn n) g start inn (VH C g start inn n) x6 o3 o4 r h
 | n+1,.l2 x6 DP GT Bw o3 o4,r,h=>tB C n (EU g start inn n) g start inn (VH C g start inn n) x6 DP GT Bw o3 o4 r h
 | n+1,.l3 o3,r,h=>tA C n (EU g start inn n) g start inn (VH C g start inn n) o3 r h
theorem tG {n:Nat} (g:List (List Int)) (start:Int) (inn:List Bool) {r:List Int} (h:F2 n g start inn=some r) (C:Bb Tryz.prog) (hC:C.encs=r.map BQ):An Tryz.prog GG Fence.wide none 3 (C.Y GG 3 0) (C.Q GG 3) [.code (AY Tryz.f157)] ⟨AG 58 [(0,.yl C.l),(1,.ref 0 0),(2,.ref 1 0),(3,.ref 2 0)],[some (.cells [.sl 1 g.length (AQ Be g)]),some (.cells [.i start]),some (.cells [.bools inn])]⟩:=by
 suffices H: ∀ i:Nat,i<=C.encs.length -> C.encs.drop i=r.map BQ -> An Tryz.prog GG Fence.wide none 3 (C.Y GG 3 i) (C.Q GG 3) [.code (AY Tryz.f157)] ⟨AG 58 [(0,.yl C.l),(1,.ref 0 0),(2,.ref 1 0),(3,.ref 2 0)],[some (.cells [.sl 1 g.length (AQ Be g)]),some (.cells [.i start]),some (.cells [.bools inn])]⟩ from H 0 (zEf _) (by rw [zE8];exact hC)
 intro i hi hd;have AK:=VH C g start inn n;unfold F2 at h
 generalize EU g start inn n=self at h AK
 unfold Y5 at h;obtain ⟨⟨g0,g1,g2⟩,h⟩:=Bu h;have p:=H0.g g0 |>.g g1 |>.g g2
 exact gg ID [0,1,2,3,4] p (en n (AK _ _ h n Nat.le.refl i hi hd))
theorem Y7 {n:Nat} {g_:List (List Int)} {AU:List Bool} {start:Int} {r:List Int} (h:F2 n g_ start AU=some r) (H:DH):EQ 130 [.sl 1 g_.length (AQ Be g_),.bools AU,.i start] H (.it H.length) (H++[some (.iter (r.map BQ))]) true:=by
 refine ES.iterN (c:=L1 [.ref 0 0,.ref 1 0,.ref 2 0]) (h0:=[some (.cells [.sl 1 g_.length (AQ Be g_)]),some (.cells [.i start]),some (.cells [.bools AU])]) (fn:=Tryz.f157) (tH (n:=0) g_ AU start (r:=()) rfl) (by kernel_rfl) Tryz.func157 (by kernel_rfl) (by kernel_rfl) (by kernel_rfl) (fun C hC=>?_) H;have e:DV.yl C.l::(List.range 3).map (L1 [.ref 0 0,.ref 1 0,.ref 2 0])++List.replicate (Tryz.f157.ntmps-(3+1)) .any=AG 58 [(0,.yl C.l),(1,.ref 0 0),(2,.ref 1 0),(3,.ref 2 0)]:=by kernel_rfl
 rw [e];exact tG g_ start AU h C hC
end Go.Proofs.YtkjbblkieglmlaaGreatDoor
namespace Go.Proofs.YtkjbblkieglmlaaGreatDoor
abbrev zAi:=@decide_eq_true_iff
abbrev zDp:=@List.mem_append_left
abbrev zDv:=@List.length_singleton
abbrev zD3:=@List.mem_append_right
abbrev zEH:=@List.getElem?_set_self
abbrev zEc:=@Bool.false_and
abbrev zEs:=@List.countP_cons
abbrev zE2:=@List.append_assoc
abbrev zFD:=@List.append_nil
abbrev zFH:=@List.countP_le_length
abbrev zFM:=@Bool.and_false
end Go.Proofs.YtkjbblkieglmlaaGreatDoor
namespace Go.Proofs.YtkjbblkieglmlaaGreatDoor
open Go.RowKit
def nb (g:List (List Int)) (v:Int):List Int:=g.getD v.toNat []
structure Gr (g:List (List Int)):Prop where
 len:g.length<=256
 row: ∀ v,0<=v -> v<(g.length:Int) -> (nb g v).length<=256
 rng: ∀ v,0<=v -> v<(g.length:Int) -> ∀ u∈nb g v,0<=u/\ u<(g.length:Int)
 sym: ∀ v,0<=v -> v<(g.length:Int) -> ∀ u∈nb g v,v∈nb g u
theorem Gr.of {g:List (List Int)} (h:Kj g=true) (hr: ∀ r∈g,r.length<=LB):Gr g:=by
 unfold Kj at h;rw [zAL,zAi,zAW] at h
 have key: ∀ v,0<=v -> v<(g.length:Int) -> ∀ u∈nb g v,(0<=u/\ u<(g.length:Int))/\ v∈nb g u:=by
  intro v h0 h1 u hu;have h2:=h.2 v.toNat (zAd.2 (by omega));unfold Iv at h2;rw [zAW] at h2;obtain ⟨j,hj,e⟩:=zEN hu;have h3:=h2 j (zAd.2 hj);unfold HA at h3
  have e2:(g.getD v.toNat []).getD j 0=u:=by
   show (nb g v).getD j 0=u
   rw [u8,zAQ hj];exact e
  simp only [e2,zAL,zAi,zFG] at h3;have e3:((v.toNat:Nat):Int)=v:=by omega
  rw [e3] at h3;exact ⟨⟨h3.1.1.1.1,h3.1.1.1.2⟩,h3.2⟩
 have grow: ∀ v,0<=v -> v<(g.length:Int) -> ∀ k,k<(nb g v).length -> (k:Int)<=(nb g v).getD k 0:=by
  intro v h0 h1 k;have h2:=h.2 v.toNat (zAd.2 (by omega));unfold Iv at h2;rw [zAW] at h2
  induction k with
  | zero=>
   intro hk;have h3:=h2 0 (zAd.2 hk);unfold HA at h3;simp only [zAL,zAi] at h3;exact h3.1.1.1.1
  | succ k ih=>
   intro hk;have h3:=h2 (k+1) (zAd.2 hk);unfold HA at h3;have d:decide (0<k+1)=true:=zAT (by omega);simp only [zAL,zAi,d,zD2,zEV,Nat.add_sub_cancel] at h3;have h4:(nb g v).getD k 0<(nb g v).getD (k+1) 0:=h3.1.2;have:=ih (by omega);omega
 exact ⟨h.1,fun v h0 h1=>by
  refine zEq fun hl=>?_
  have h2:=grow v h0 h1 256 hl;have h3:(nb g v).getD 256 0∈nb g v:=by rw [u8,zAQ hl];exact zDi hl
  have h4:=(key v h0 h1 _ h3).1;have:=h.1;omega,fun v h0 h1 u hu=>(key v h0 h1 u hu).1,fun v h0 h1 u hu=>(key v h0 h1 u hu).2⟩
inductive Rc (g:List (List Int)) (inn:List Bool) (s:Int):Int -> Prop
 | start:Rc g inn s s
 | step {a b:Int} (h:Rc g inn s a) (hb:b∈nb g a) (hi:inn.getD b.toNat false=true):Rc g inn s b
section
variable {g:List (List Int)} {inn:List Bool} {s:Int}
theorem Rc.rng (G:Gr g) (h0:0<=s) (h1:s<(g.length:Int)) {v:Int} (h:Rc g inn s v):0<=v/\ v<(g.length:Int):=by
 induction h with
 | start=>exact ⟨h0,h1⟩
 | step h hb hi ih=>exact G.rng _ ih.1 ih.2 _ hb
theorem Rc.isIn (hs:inn.getD s.toNat false=true) {v:Int} (h:Rc g inn s v):inn.getD v.toNat false=true:=by
 cases h with
 | start=>exact hs
 | step h hb hi=>exact hi
theorem Rc.trans {a b:Int} (h:Rc g inn s a) (h2:Rc g inn a b):Rc g inn s b:=by
 induction h2 with
 | start=>exact h
 | step _ hb hi ih=>exact .step ih hb hi
theorem Rc.symm (G:Gr g) (h0:0<=s) (h1:s<(g.length:Int)) (hs:inn.getD s.toNat false=true) {v:Int} (h:Rc g inn s v):Rc g inn v s:=by
 induction h with
 | start=>exact .start
 | step h hb hi ih=>
  have hr:=h.rng G h0 h1;exact (Rc.step Rc.start (G.sym _ hr.1 hr.2 _ hb) (h.isIn hs)).trans ih
def Fd (l:List Bool):Nat:=l.countP fun b=>!b
theorem Xa: ∀ (l:List Bool) (i:Nat),i<l.length -> l.getD i false=false -> Fd (l.set i true)+1=Fd l
 | b::l,0,_,h=>by
  have h:b=false:=h;subst h;simp [Fd,zEs]
 | b::l,i+1,hi,h=>by
  have:=Xa l i (Nat.lt_of_succ_lt_succ hi) (by simpa using h)
  show Fd (b::l.set i true)+1=Fd (b::l)
  unfold Fd at this ⊢;rw [zEs,zEs];omega
def Dj (inn:List Bool) (st:List Bool×List Int) (v:Int):List Bool×List Int:=bif inn.getD v.toNat false&&!st.1.getD v.toNat false then (st.1.set v.toNat true,st.2++[v]) else st
structure Bf (g:List (List Int)) (inn:List Bool) (s:Int) (met:List Bool) (Q P:List Int):Prop where
 len:met.length=g.length
 cnt:Q.length+Fd met<=g.length
 nd:(P++Q).Nodup
 rc: ∀ v∈P++Q,Rc g inn s v
 rng: ∀ v∈P++Q,0<=v/\ v<(g.length:Int)
 met: ∀ v:Int,0<=v -> v<(g.length:Int) -> (met.getD v.toNat false=true↔v∈P++Q)
 cl: ∀ p∈P,∀ b∈nb g p,inn.getD b.toNat false=true -> b∈P++Q
 st:s∈P++Q
theorem Bf.ex (G:Gr g) {met:List Bool} {Q P:List Int} (h:Bf g inn s met Q P) {v u:Int} (hv:v∈Q) (hu:u∈nb g v):
 Bf g inn s (Dj inn (met,Q) u).1 (Dj inn (met,Q) u).2 P/\ (∃ t,(Dj inn (met,Q) u).2=Q++t)/\ (inn.getD u.toNat false=true -> u∈P++(Dj inn (met,Q) u).2)/\ 2*Fd (Dj inn (met,Q) u).1+(Dj inn (met,Q) u).2.length<=2*Fd met+Q.length:=by
 have HI:=h.rng v (zD3 _ hv);have Sj:=G.rng v HI.1 HI.2 u hu;unfold Dj
 dsimp only
 cases hi:inn.getD u.toNat false
 ·rw [zEc,zAC];exact ⟨h,⟨[],(zFD _).symm⟩,fun h=>(by cases h),zAm _⟩
 ·cases hm:met.getD u.toNat false
  ·rw [zEC,Bool.and_true,zAK];have hn:u∉P++Q:=fun hh=>by rw [(h.met u Sj.1 Sj.2).2 hh] at hm;cases hm
   have hl:=h.len;have hc:=Xa met u.toNat (by omega) hm;have hcnt:=h.cnt;have Dt: ∀ x,x∈P++(Q++[u])↔x∈P++Q∨x=u:=fun x=>by simp [or_assoc]
   refine ⟨⟨by rw [zAl];exact hl,by show (Q++[u]).length+Fd (met.set u.toNat true)<=_;rw [zAh,zDv];omega,?_,fun x hx=>?_,fun x hx=>?_,fun x Fq KT=>?_,fun p hp b hb hbi=>(Dt b).2 (.inl (h.cl p hp b hb hbi)),(Dt s).2 (.inl h.st)⟩,⟨[u],rfl⟩,fun _=>(Dt u).2 (.inr rfl),by show 2*Fd (met.set u.toNat true)+(Q++[u]).length<=_;rw [zAh,zDv];omega⟩
   ·rw [←zE2,List.nodup_append];exact ⟨h.nd,by simp,fun a ha b hb=>by rw [zAp] at hb;subst hb;exact fun e=>hn (e▸ha)⟩
   ·rcases (Dt x).1 hx with hx | rfl
    ·exact h.rc x hx
    ·exact .step (h.rc v (zD3 _ hv)) hu hi
   ·rcases (Dt x).1 hx with hx | rfl
    ·exact h.rng x hx
    ·exact Sj
   ·rw [Dt,←h.met x Fq KT]
    by_cases e:x=u
    ·subst e;rw [u8,zEH (by omega)];exact ⟨fun _=>.inr rfl,fun _=>rfl⟩
    ·rw [u8,zEB (by omega),←u8];exact ⟨.inl,fun h=>h.elim id fun h=>absurd h e⟩
  ·rw [zD2,zFM,zAC];exact ⟨h,⟨[],by simp⟩,fun _=>(h.met u Sj.1 Sj.2).1 hm,zAm _⟩
theorem Bf.exs (G:Gr g) {v:Int} {P:List Int}: ∀ (l:List Int) {met:List Bool} {Q:List Int},Bf g inn s met Q P -> v∈Q -> (∀ u∈l,u∈nb g v) ->
 Bf g inn s (l.foldl (Dj inn) (met,Q)).1 (l.foldl (Dj inn) (met,Q)).2 P/\ (∃ t,(l.foldl (Dj inn) (met,Q)).2=Q++t)/\ (∀ u∈l,inn.getD u.toNat false=true -> u∈P++(l.foldl (Dj inn) (met,Q)).2)/\ 2*Fd (l.foldl (Dj inn) (met,Q)).1+(l.foldl (Dj inn) (met,Q)).2.length<=2*Fd met+Q.length
 | [],met,Q,h,hv,hl=>⟨h,⟨[],by simp⟩,fun u hu=>absurd hu zEr,zAm _⟩
 | u::l,met,Q,h,hv,hl=>by
  obtain ⟨h1,⟨t,ht⟩,h2,h3⟩:=h.ex G hv (hl u zEF);obtain ⟨h4,⟨t',kF⟩,h5,h6⟩:=Bf.exs G l h1 (by rw [ht];exact zDp _ hv) fun x hx=>hl x (zDt _ hx)
  refine ⟨h4,⟨t++t',?_⟩,fun x hx hi=>?_,zAk h6 h3⟩
  ·show (List.foldl (Dj inn) (Dj inn (met,Q) u) l).2=_
   rw [kF,ht,zE2]
  ·rcases zDu.1 hx with rfl | hx
   ·show x∈P++(List.foldl (Dj inn) (Dj inn (met,Q) x) l).2
    rw [kF,←zE2];exact zDp _ (h2 hi)
   ·exact h5 x hx hi
theorem wE {n j:Nat} {l:List Int} {met:List Bool} {Q:List Int} (hI:inn.length=g.length) (hG:g.length<=256) (hm:met.length=g.length) (hQ:Q.length+Fd met<=g.length) (hj:j<l.length) (hl:l.length<=256) (hr:0<=l.getD j 0/\ l.getD j 0<(g.length:Int)):
 EU g s inn (n+1) (.l2 Q.length l (l.length:Int) (j:Int) met Q)=EU g s inn n (.l2 (Dj inn (met,Q) (l.getD j 0)).2.length l (l.length:Int) ((j:Int)+1) (Dj inn (met,Q) (l.getD j 0)).1 (Dj inn (met,Q) (l.getD j 0)).2):=by
 have r1:AL ((j:Int)+1):=A0.2 ⟨by omega,by omega⟩;have L:(1000000000000:Nat)=BB:=rfl
 show J7 n (EU g s inn n) g s inn Q.length l (l.length:Int) (j:Int) met Q=_
 unfold J7 Dj;simp only [zAO,zAj];rw [zAT (by omega),zAK,zAB ⟨⟨by omega,by omega⟩,by omega,by omega⟩];cases hi:inn.getD (l.getD j 0).toNat false
 ·rw [zAC,zEc,zAC,zAB r1]
 ·rw [zAK,zD5,zAB ⟨hr,by omega⟩];cases ht:met.getD (l.getD j 0).toNat false
  ·have hc:=Xa met (l.getD j 0).toNat (by omega) ht;rw [zEC,zAK,zAK,zAB ⟨⟨⟨trivial,rfl⟩,⟨trivial,trivial⟩,by rw [zDv,←L];omega⟩,r1⟩,zAh]
  ·rw [zD2,zAC,zAC,zAB r1]
theorem jW (hI:inn.length=g.length) (G:Gr g) {v:Int} {P:List Int} {l:List Int} (hl:l.length<=256) (aw: ∀ u∈l,u∈nb g v): ∀ (k j n:Nat) {met:List Bool} {Q:List Int},j+k=l.length -> Bf g inn s met Q P -> v∈Q ->
 EU g s inn (n+k) (.l2 Q.length l (l.length:Int) (j:Int) met Q)=EU g s inn n (.l2 ((l.drop j).foldl (Dj inn) (met,Q)).2.length l (l.length:Int) (l.length:Int) ((l.drop j).foldl (Dj inn) (met,Q)).1 ((l.drop j).foldl (Dj inn) (met,Q)).2)
 | 0,j,n,met,Q,e,h,hv=>by
  have e:j=l.length:=by omega
  subst e;rw [zFx];rfl
 | k+1,j,n,met,Q,e,h,hv=>by
  have hj:j<l.length:=by omega
  have hu:l.getD j 0∈l:=by rw [u8,zAQ hj];exact zDi hj
  have HI:=h.rng v (zD3 _ hv);have hr:=G.rng v HI.1 HI.2 _ (aw _ hu);obtain ⟨h1,⟨t,ht⟩,_,_⟩:=h.ex G hv (aw _ hu);rw [←zDy,wE hI G.len h.len h.cnt hj hl hr];have:=jW hI G hl aw k (j+1) n (by omega) h1 (by rw [ht];exact zDp _ hv);have e1:(((j+1:Nat)):Int)=(j:Int)+1:=by omega
  rw [e1] at this;rw [this]
  have e2:l.drop j=l.getD j 0::l.drop (j+1):=by
   rw [zDx hj,u8,zAQ hj];rfl
  rw [e2];rfl
def Me (g:List (List Int)) (inn:List Bool) (s:Int) (P l:List Int):Prop:=(P++l).Nodup/\ (∀ v,v∈P++l↔Rc g inn s v)
theorem Bf.done {met:List Bool} {P:List Int} (h:Bf g inn s met [] P):Me g inn s P []:=by
 refine ⟨h.nd,fun v=>⟨h.rc v,fun hv=>?_⟩⟩
 induction hv with
 | start=>exact h.st
 | step _ hb hi ih=>exact h.cl _ (by simpa using ih) _ hb hi
theorem Ae.map {R:Type} {f:Nat -> Option R} {Q:R -> Prop} {Q':R -> Prop} {m:R -> R} (h:Ae f Q) (hq: ∀ r,Q r -> Q' (m r)):Ae (fun n=>(f n).map m) Q':=by
 obtain ⟨N,h⟩:=h;refine ⟨N,fun n hn=>?_⟩;obtain ⟨r,h1,h2⟩:=h n hn;exact ⟨m r,by show (f n).map m=_;rw [h1];rfl,hq r h2⟩
theorem zC4 (G:Gr g) (hI:inn.length=g.length): ∀ (z:Nat) (met:List Bool) (Q P:List Int),2*Fd met+Q.length=z -> Bf g inn s met Q P -> Ae (fun n=>EU g s inn n (.l1 Q.length met Q)) (Me g inn s P):=by
 intro z
 induction z using Nat.strongRecOn with
 | _ z ih=>
  intro met Q P hz h;cases Q with
  | nil=>
   refine Ev.p (r:=[]) ⟨1,fun n hn=>?_⟩ h.done;obtain ⟨n,rfl⟩: ∃ k,n=k+1:=⟨n-1,by omega⟩
   show NB n (EU g s inn n) g s inn 0 met []=_
   unfold NB;rw [zAE (by omega),zAC]
  | cons v q=>
   have hv:v∈v::q:=zEF;have HI:=h.rng v (zD3 _ hv);obtain ⟨h1,⟨t,ht⟩,h2,h3⟩:=h.exs G (nb g v) hv (fun u hu=>hu);have hl:=G.row v HI.1 HI.2
   generalize Df:(nb g v).foldl (Dj inn) (met,v::q)=st at h1 ht h2 h3
   obtain ⟨PL,Q'⟩:=st;have ht:Q'=v::(q++t):=ht;subst ht
   have hB:Bf g inn s PL (q++t) (P++[v]):=by
    have e:P++[v]++(q++t)=P++(v::(q++t)):=by simp
    have hc:=h1.cnt;simp only [zDl] at hc;refine ⟨h1.len,by omega,by rw [e];exact h1.nd,by rw [e];exact h1.rc,by rw [e];exact h1.rng,by rw [e];exact h1.met,?_,by rw [e];exact h1.st⟩;intro p hp b hb hi;rw [e];rcases zEA.1 hp with hp | hp
    ·exact h1.cl p hp b hb hi
    ·rw [zAp] at hp;subst hp;exact h2 b hb hi
   have xC:2*Fd PL+(q++t).length<z:=by
    simp only [zDl] at h3;simp only [zAh] at h3 ⊢;have:(v::q).length=q.length+1:=rfl;omega
   have IH:=ih _ xC PL (q++t) (P++[v]) rfl hB
   have key:Ae (fun n=>EU g s inn n (.l2 (v::(q++t)).length (nb g v) ((nb g v).length:Int) ((nb g v).length:Int) PL (v::(q++t)))) (Me g inn s (P++[v])):=by
    have g0:(0:Int)<=1/\ (1:Int)<=(((v::(q++t)).length:Nat):Int)/\ (((v::(q++t)).length:Nat):Int)<=(((v::(q++t)).length:Nat):Int):=⟨by omega,by rw [zDl];omega,zER _⟩;cases aZ:q++t with
    | nil=>
     rw [aZ] at hB;refine Ev.p (r:=[]) ⟨2,fun n hn=>?_⟩ hB.done;obtain ⟨n,rfl⟩: ∃ k,n=k+2:=⟨n-2,by omega⟩
     show J7 (n+1) (EU g s inn (n+1)) g s inn 1 (nb g v) ((nb g v).length:Int) ((nb g v).length:Int) PL [v]=_
     unfold J7;rw [zAE (by omega),zAC];rfl
    | cons a r=>
     rw [←aZ];refine Ae.step 1 (fun n=>?_) IH
     show J7 n (EU g s inn n) g s inn (v::(q++t)).length (nb g v) ((nb g v).length:Int) ((nb g v).length:Int) PL (v::(q++t))=_
     unfold J7;have e0:((v::(q++t)).length-1==0)=false:=by rw [aZ];rfl
     rw [zAE (by omega),zAC,e0,zAC,zAB g0,zAB (by rw [zDl];omega)];rfl
   have wN:Ae (fun n=>EU g s inn n (.l2 (v::q).length (nb g v) ((nb g v).length:Int) 0 met (v::q))) (Me g inn s (P++[v])):=by
    refine Ae.step (nb g v).length (fun n=>?_) key;have:=jW hI G hl (fun u hu=>hu) (nb g v).length 0 n (by omega) h hv;rw [zE8,Df] at this;exact this
   have m: ∀ r:List Int,Me g inn s (P++[v]) r -> Me g inn s P (v::r):=fun r hr=>by
    have e:P++[v]++r=P++(v::r):=by simp
    unfold Me at hr ⊢;rw [e] at hr;exact hr
   refine Ae.step 1 (fun n=>?_) (Ae.map wN m)
   show NB n (EU g s inn n) g s inn (v::q).length met (v::q)=_
   unfold NB;have g1:((0:Int)<=0/\ 0<(((v::q).length:Nat):Int))/\ 0+0<(v::q).length:=by rw [zDl];omega
   rw [zAT (by rw [zDl];omega),zAK,zAB g1];have e1:(v::q).getD (0+0) 0=v:=rfl;rw [e1,zAB ⟨g1.1,g1.2,HI⟩];rfl
theorem Y6 (G:Gr g) (hI:inn.length=g.length) (h0:0<=s) (h1:s<(g.length:Int)):Ae (fun n=>F2 n g s inn) (fun l=>l.Nodup/\ ∀ v,v∈l↔Rc g inn s v):=by
 have Ap:((List.replicate g.length false).set s.toNat true).length=g.length:=by simp
 have hG:=G.len;have hc:=Xa (List.replicate g.length false) s.toNat (by rw [zAe];omega) (by simp [u8,zD7];split <;> rfl)
 have IV:Fd (List.replicate g.length false)<=g.length:=by
  have:=zFH (p:=fun b=>!b) (l:=List.replicate g.length false);rw [zAe] at this;exact this
 have hB:Bf g inn s ((List.replicate g.length false).set s.toNat true) [s] []:=by
  refine ⟨Ap,by rw [zDv];omega,by simp,fun v hv=>?_,fun v hv=>?_,fun v PY B0=>?_,fun p hp=>absurd hp zEr,by simp⟩
  ·have:v=s:=by simpa using hv
   subst this;exact .start
  ·have:v=s:=by simpa using hv
   subst this;exact ⟨h0,h1⟩
  ·by_cases e:v=s
   ·subst e;rw [u8,zEH (by rw [zAe];omega)];simp
   ·rw [u8,zEB (by omega),zD7];simp only [zEI,zAp,e,iff_false];split <;> simp
 have:=zC4 G hI _ _ _ _ rfl hB;refine (Ae.mono (Q':=fun l=>l.Nodup/\ ∀ v,v∈l↔Rc g inn s v) this (fun l (hl:Me g inn s [] l)=>(⟨hl.1,hl.2⟩:l.Nodup/\ ∀ v,v∈l↔Rc g inn s v))).eq fun n=>?_
 unfold F2 Y5;rw [zAB ⟨⟨rfl,by omega,by omega⟩,⟨h0,h1⟩,by simp only [zAe];omega⟩,zAj];rfl
end
end Go.Proofs.YtkjbblkieglmlaaGreatDoor
namespace Go.Proofs.YtkjbblkieglmlaaGreatDoor
abbrev zEk:=@BitVec.toNat_ofInt
abbrev zF3:=@Nat.pow_le_pow_right
abbrev zF7:=@Nat.testBit_two_pow
end Go.Proofs.YtkjbblkieglmlaaGreatDoor
namespace Go.Proofs.YtkjbblkieglmlaaGreatDoor
def tb (x:Int) (i:Nat):Bool:=(BitVec.ofInt 64 x).getLsbD i
def CH (x:Int):Prop:=-9223372036854775808<=x/\ x<=9223372036854775807
theorem Rt (x:Int):BitVec.ofInt 64 (IntKind.i64.wrap x)=BitVec.ofInt 64 x:=by
 apply BitVec.eq_of_toNat_eq;rw [zEk,zEk,zFw]
 congr 1
 omega
theorem Ru (y:BitVec 64):BitVec.ofInt 64 (y.toNat:Int)=y:=by
 rw [zFL];simp
theorem UJ (x:Int):CH (IntKind.i64.wrap x):=by
 rw [zFw];constructor <;> omega
theorem Ko (op:BinOp) (a b:Int):CH (bits op .i64 a b):=UJ _
theorem Js (a b:Int) (i:Nat):tb (bits .or .i64 a b) i=(tb a i||tb b i):=by
 show (BitVec.ofInt 64 (IntKind.i64.wrap ((BitVec.ofInt 64 a||| BitVec.ofInt 64 b).toNat:Int))).getLsbD i=_
 rw [Rt,Ru,BitVec.getLsbD_or];rfl
theorem Ol (a b:Int) (i:Nat):tb (bits .and .i64 a b) i=(tb a i&&tb b i):=by
 show (BitVec.ofInt 64 (IntKind.i64.wrap ((BitVec.ofInt 64 a&&& BitVec.ofInt 64 b).toNat:Int))).getLsbD i=_
 rw [Rt,Ru,BitVec.getLsbD_and];rfl
theorem UZ {x:Int} {i:Nat} (h:64<=i):tb x i=false:=BitVec.getLsbD_of_ge _ _ h
theorem Ub (a b:Int) (i:Nat):tb (bits .andNot .i64 a b) i=(tb a i&&!tb b i):=by
 show (BitVec.ofInt 64 (IntKind.i64.wrap ((BitVec.ofInt 64 a&&& ~~~ BitVec.ofInt 64 b).toNat:Int))).getLsbD i=_
 rw [Rt,Ru,BitVec.getLsbD_and,BitVec.getLsbD_not]
 by_cases h:i<64
 ·simp [h,tb]
 ·have h:64<=i:=by omega
  have:=UZ (x:=a) h;unfold tb at*;rw [this];simp
theorem UY (a:Int) {i:Nat} (h:i<64):tb (bits .xor .i64 (-1) a) i= !tb a i:=by
 show (BitVec.ofInt 64 (IntKind.i64.wrap ((BitVec.ofInt 64 (-1) ^^^ BitVec.ofInt 64 a).toNat:Int))).getLsbD i=_
 rw [Rt,Ru,BitVec.getLsbD_xor];have:BitVec.ofInt 64 (-1)=BitVec.allOnes 64:=by decide
 rw [this,BitVec.getLsbD_allOnes];simp [h,tb]
theorem UX (i:Nat):tb 0 i=false:=by
 unfold tb;rw [show BitVec.ofInt 64 0=0#64 from rfl];simp
theorem Mn {i:Nat}: ¬ tb 0 i=true:=by rw [UX];decide
theorem Qi {x y:Int} (hx:CH x) (hy:CH y) (h: ∀ i,i<64 -> tb x i=tb y i):x=y:=by
 have e:BitVec.ofInt 64 x=BitVec.ofInt 64 y:=BitVec.eq_of_getLsbD_eq fun i hi=>h i hi
 have e2:=congrArg BitVec.toNat e;rw [zEk,zEk] at e2;unfold CH at*;omega
theorem K5 (m i:Nat) (hi:i<64):tb (m:Int) i=m.testBit i:=by
 unfold tb;rw [zFL,BitVec.getLsbD_ofNat];simp [hi]
def Sm (k:Nat) (x:Int):Prop:=0<=x/\ x<2 ^ k
theorem ND {k:Nat} (hk:k<=62):(2:Int) ^ k<=4611686018427387904:=by
 have:(2:Nat) ^ k<=2 ^ 62:=zF3 (by decide) hk;have h:((2 ^ k:Nat):Int)<=((2 ^ 62:Nat):Int):=by exact_mod_cast this
 simpa using h
theorem Sm.in64 {k:Nat} {x:Int} (hk:k<=62) (h:Sm k x):CH x:=by
 have:=ND hk;obtain ⟨h1,h2⟩:=h;constructor <;> omega
theorem Sm.hi {k:Nat} {x:Int} (h:Sm k x) {i:Nat} (hi:k<=i):tb x i=false:=by
 rcases zDj i 64 with N8 | N8
 ·obtain ⟨m,rfl⟩:=zE7 h.1;rw [K5 m i N8];apply Nat.testBit_lt_two_pow;have h2:(m:Int)<2 ^ k:=h.2;have h3:m<2 ^ k:=by exact_mod_cast h2
  exact zAY h3 (zF3 (by decide) hi)
 ·exact UZ N8
theorem Qz {k:Nat} (hk:k<=62) {x:Int} (hx:CH x) (h: ∀ i,k<=i -> i<64 -> tb x i=false):Sm k x:=by
 have hy:(BitVec.ofInt 64 x).toNat<2 ^ k:=by
  apply Nat.lt_pow_two_of_testBit;intro i hi;rcases zDj i 64 with N8 | N8
  ·have:=h i hi N8;unfold tb at this
   rwa [BitVec.getLsbD] at this
  ·exact Nat.testBit_lt_two_pow (zAY (BitVec.isLt _) (zF3 (by decide) N8))
 rw [zEk] at hy;have h1:=ND hk;have h2:((2 ^ k:Nat):Int)=(2:Int) ^ k:=by simp
 unfold CH at hx;unfold Sm;omega
theorem oV {s i:Nat} (hi:i<64):tb ((2 ^ s:Nat):Int) i=decide (s=i):=by
 rw [K5 _ _ hi,zF7]
theorem Ua {x:Int} (hx:CH x):x=0↔∀ i,i<64 -> tb x i=false:=
 ⟨fun h i _=>by rw [h];exact UX i,fun h=>Qi hx ⟨by decide,by decide⟩ fun i hi=>by rw [h i hi,UX]⟩
theorem Qh {x:Int} (hx:CH x):x≠0↔∃ i,i<64/\ tb x i=true:=by
 rw [ne_eq,Ua hx];constructor
 ·intro h;refine Classical.byContradiction fun h2=>h fun i hi=>?_
  cases hb:tb x i with
  | false=>rfl
  | true=>exact absurd ⟨i,hi,hb⟩ h2
 ·rintro ⟨i,hi,hb⟩ h;rw [h i hi] at hb;cases hb
theorem pw {k s:Nat} {x:Int} (h:Sm k x) (hk:k<=62) (hs:s<64):bits .and .i64 (x/2 ^ s) 1=if tb x s then 1 else 0:=by
 obtain ⟨m,rfl⟩:=zE7 h.1;have hm:=h.2;have lU:=ND hk;have e:(m:Int)/2 ^ s=((m/2 ^ s:Nat):Int):=by simp
 have key: ∀ t,t<64 -> tb (bits .and .i64 ((m:Int)/2 ^ s) 1) t=(decide (t=0)&&tb (m:Int) s):=fun t ht=>by
  rw [Ol,e,K5 _ _ ht,K5 m s hs,show (1:Int)=((1:Nat):Int) from rfl,K5 1 t ht,Nat.testBit_div_two_pow]
  by_cases h0:t=0
  ·subst h0;simp
  ·rw [zAE h0,zEc]
   have:Nat.testBit 1 t=false:=by
    rw [show (1:Nat)=2 ^ 0 from rfl,zF7];simpa using fun h=>h0 h.symm
   rw [this,zFM]
 cases hb:tb (m:Int) s with
 | true=>
  rw [zAB rfl];refine Qi (Ko _ _ _) ⟨by decide,by decide⟩ fun t ht=>?_
  rw [key t ht,hb,show (1:Int)=((1:Nat):Int) from rfl,K5 1 t ht,Bool.and_true]
  by_cases h0:t=0
  ·subst h0;rfl
  ·rw [zAE h0];rw [show (1:Nat)=2 ^ 0 from rfl,zF7];symm;simpa using fun h=>h0 h.symm
 | false=>
  rw [zAZ zEu];exact (Ua (Ko _ _ _)).2 fun t ht=>by rw [key t ht,hb,zFM]
theorem Yb {k s:Nat} {x:Int} (h:Sm k x) (hk:k<=62) (hs:s<64):(bits .and .i64 (x/2 ^ s) 1==1)=tb x s:=by
 rw [pw h hk hs];cases tb x s <;> rfl
end Go.Proofs.YtkjbblkieglmlaaGreatDoor
namespace Go.Proofs.YtkjbblkieglmlaaGreatDoor
open Go.RowKit
theorem Vt {S R:Type} (m:Nat -> S -> Int -> Option R) (len N0:Nat) (Inv:Nat -> S -> Prop)
 (h: ∀ (n i:Nat) (s:S),N0<=n -> i<len -> Inv i s -> ∃ s',m (n+1) s (i:Int)=m n s' ((i:Int)+1)/\ Inv (i+1) s'):
 ∀ (k i n:Nat) (s:S),i+k=len -> N0<=n -> Inv i s -> ∃ s',m (n+k) s (i:Int)=m n s' (len:Int)/\ Inv len s'
 | 0,i,n,s,e,_,hI=>by
  have:i=len:=by omega
  subst this;exact ⟨s,rfl,hI⟩
 | k+1,i,n,s,e,hn,hI=>by
  obtain ⟨s',h1,h2⟩:=h (n+k) i s (by omega) (by omega) hI;obtain ⟨s2,h3,h4⟩:=Vt m len N0 Inv h k (i+1) n s' (by omega) hn h2;refine ⟨s2,?_,h4⟩;rw [show n+(k+1)=n+k+1 by omega,h1,←h3];rfl
theorem HE {S R:Type} (m:Nat -> S -> Int -> Option R) (len N0:Nat) (Inv:Nat -> S -> Prop)
 (h: ∀ (n i:Nat) (s:S),N0<=n -> i<len -> Inv i s -> ∃ s',m (n+1) s (i:Int)=m n s' ((i:Int)+1)/\ Inv (i+1) s')
 {n:Nat} {s:S} (hn:N0+len<=n) (hI:Inv 0 s): ∃ n' s',N0<=n'/\ n'+len=n/\ m n s 0=m n' s' (len:Int)/\ Inv len s':=by
 obtain ⟨s',h1,h2⟩:=Vt m len N0 Inv h len 0 (n-len) s (by omega) (by omega) hI;rw [show n-len+len=n by omega] at h1;exact ⟨n-len,s',by omega,by omega,h1,h2⟩
structure C2 (c:AB) (k:Nat) (pos:List Int):Prop where
 cells: ∀ a,a<c.cells.length -> 0<=c.cells.getD a 0/\ c.cells.getD a 0<(pos.length:Int)
 len:c.cells.length<=256
 sm: ∀ i,i<pos.length -> Sm k (pos.getD i 0)
 k:k<=16
def BN (c:AB) (pos:List Int) (a:Nat):Int:=pos.getD (c.cells.getD a 0).toNat 0
def Q2 (x:Int):Bool:=bits .and .i64 x (x-1)==0
section
variable {c:AB} {k:Nat} {pos lost:List Int} {q:AA}
theorem C2.at (W:C2 c k pos) {a:Nat} (ha:a<c.cells.length):Sm k (BN c pos a):=by
 have:=W.cells a ha;exact W.sm _ (by omega)
theorem C2.r64 (W:C2 c k pos) {a:Nat} (ha:a<c.cells.length):AL (BN c pos a-1)/\ AL ((a:Int)+1):=by
 have h:=W.at ha;have h2:=ND (k:=k) (zAk W.k (by decide));have h3:=W.len;obtain ⟨h0,h1⟩:=h;exact ⟨A0.2 ⟨by omega,by omega⟩,A0.2 ⟨by omega,by omega⟩⟩
theorem KJ {n:Nat} {cell ss:Int} (h0:0<=cell) (h1:cell<(pos.length:Int)) (hl:lost.length=pos.length):
 ∃ l',DT n cell ss c q pos pos.length lost=some l'/\ l'.length=pos.length/\ ∀ j s,tb (l'.getD j 0) s=(tb (lost.getD j 0) s||(decide (j=cell.toNat)&&(tb (pos.getD j 0) s&&tb ss s))):=by
 refine ⟨lost.set cell.toNat (bits .or .i64 (lost.getD cell.toNat 0) (bits .and .i64 (pos.getD cell.toNat 0) ss)),?_,by rw [zAl];exact hl,fun j s=>?_⟩
 ·unfold DT Zx;simp only [zAj];rw [zAB ⟨⟨h0,h1⟩,by omega,h0,h1⟩]
 ·by_cases hj:j=cell.toNat
  ·subst hj;rw [u8,zEH (by omega),zEY,Js,Ol,zAT rfl,zD5]
  ·rw [u8,zEB (fun e=>hj e.symm),←u8,zAE hj,zEc,zEW]
theorem ZX {n:Nat} {cell:Int} (h0:0<=cell) (h1:cell<(pos.length:Int)) (hl:lost.length=pos.length):
 ∃ l',GC n cell c q pos pos.length lost=some l'/\ l'.length=pos.length/\ ∀ j s,tb (l'.getD j 0) s=(tb (lost.getD j 0) s||(decide (j=cell.toNat)&&(tb (pos.getD j 0) s&&!tb c.set s))):=by
 refine ⟨lost.set cell.toNat (bits .or .i64 (lost.getD cell.toNat 0) (bits .andNot .i64 (pos.getD cell.toNat 0) c.set)),?_,by rw [zAl];exact hl,fun j s=>?_⟩
 ·unfold GC ZZ;simp only [zAj];rw [zAB ⟨⟨h0,h1⟩,by omega,h0,h1⟩]
 ·by_cases hj:j=cell.toNat
  ·subst hj;rw [u8,zEH (by omega),zEY,Js,Ub,zAT rfl,zD5]
  ·rw [u8,zEB (fun e=>hj e.symm),←u8,zAE hj,zEc,zEW]
def Sg (c:AB) (pos:List Int) (a s:Nat):Prop:=Q2 (BN c pos a)=true/\ tb (BN c pos a) s=true
def B6 (c:AB) (pos lost:List Int) (i:Nat) (D:Nat -> Nat -> Prop) (l:List Int):Prop:=
 l.length=pos.length/\ ∀ j s,tb (l.getD j 0) s=true↔tb (lost.getD j 0) s=true∨∃ a,a<i/\ (c.cells.getD a 0).toNat=j/\ tb (BN c pos a) s=true/\ D a s
theorem B6.step {D:Nat -> Nat -> Prop} {i:Nat} {l l':List Int} (h:B6 c pos lost i D l) (hl:l'.length=pos.length)
 (h1: ∀ j s,tb (l'.getD j 0) s=true↔tb (l.getD j 0) s=true∨((c.cells.getD i 0).toNat=j/\ tb (BN c pos i) s=true/\ D i s)):B6 c pos lost (i+1) D l':=by
 refine ⟨hl,fun j s=>?_⟩;rw [h1,h.2];constructor
 ·rintro ((h | ⟨a,ha,h⟩) | h)
  ·exact .inl h
  ·exact .inr ⟨a,by omega,h⟩
  ·exact .inr ⟨i,by omega,h⟩
 ·rintro (h3 | ⟨a,ha,h3⟩)
  ·exact .inl (.inl h3)
  ·rcases zAa.1 ha with ha | rfl
   ·exact .inl (.inr ⟨a,ha,h3⟩)
   ·exact .inr h3
theorem B6.zero {D:Nat -> Nat -> Prop} (hl:lost.length=pos.length):B6 c pos lost 0 D lost:=
 ⟨hl,fun j s=>⟨.inl,fun h=>h.elim id fun ⟨a,ha,_⟩=>absurd ha (zAf a)⟩⟩
def XL (c:AB) (pos:List Int) (a s:Nat):Prop:=∃ b,b<c.cells.length/\ b≠a/\ Sg c pos b s
theorem zBr {n:Nat} (W:C2 c k pos) (hl:lost.length=pos.length) (hn:2*c.cells.length+2<=n):
 ∃ l,QB n c q pos pos.length lost=some (true,l)/\ B6 c pos lost c.cells.length (XL c pos) l:=by
 have lt: ∀ i,i<c.cells.length -> ((i:Nat):Int)<((c.cells.length:Nat):Int):=fun i hi=>by omega
 have S:=HE (fun n (s:Int×Int) i=>Jd c q pos pos.length lost n (.l1 s.1 s.2 i)) c.cells.length (c.cells.length+2)
  (fun i s=>(∀ j,tb s.1 j=true↔∃ a,a<i/\ Sg c pos a j)/\ (∀ j,tb s.2 j=true↔∃ a b,a<b/\ b<i/\ Sg c pos a j/\ Sg c pos b j))
  (fun n i s _ hi hI=>?_) (n:=n) (s:=(0,0)) (by omega) ?_
 ·obtain ⟨n1,⟨o,t⟩,GK,_,e1,ho,ht⟩:=S;obtain ⟨n2,rfl⟩: ∃ n2,n1=n2+1:=⟨n1-1,by omega⟩
  have T:=HE (fun n (s:List Int) i=>Jd c q pos pos.length lost n (.l2 o t i s)) c.cells.length 1
   (fun i s=>B6 c pos lost i (XL c pos) s) (fun n i s Gf hi hI=>?_) (n:=n2) (s:=lost) (by omega) (B6.zero hl)
  ·obtain ⟨n3,l,Ls,_,e2,hL⟩:=T;obtain ⟨n4,rfl⟩: ∃ n4,n3=n4+1:=⟨n3-1,by omega⟩;refine ⟨l,?_,hL⟩;unfold QB mW;refine e1.trans ?_
   show Te n2 (Jd c q pos pos.length lost n2) c q pos pos.length lost o t (c.cells.length:Int)=_
   unfold Te;rw [zAE (by omega),zAC];refine e2.trans ?_
   show Td n4 (Jd c q pos pos.length lost n4) c q pos pos.length lost o t (c.cells.length:Int) l=_
   unfold Td;rw [zAE (by omega),zAC]
  ·have hc:=W.cells i hi;have hr:=W.r64 hi
   show ∃ s',Td n (Jd c q pos pos.length lost n) c q pos pos.length lost o t (i:Int) s=_/\ _
   unfold Td;rw [zAT (lt i hi),zAK];simp only [zAO];rw [zAB ⟨⟨by omega,lt i hi⟩,hc,hr.1⟩];have sg:(bits .and .i64 (pos.getD (c.cells.getD i 0).toNat 0) (pos.getD (c.cells.getD i 0).toNat 0-1)==0)=Q2 (BN c pos i):=rfl;rw [sg];cases hs:Q2 (BN c pos i)
   ·rw [zAC];obtain ⟨l',h1,h2,h3⟩:=KJ (n:=n) (ss:=o) (c:=c) (q:=q) hc.1 hc.2 hI.1;rw [h1,zAA,zAB hr.2];refine ⟨l',rfl,hI.step h2 fun j x=>?_⟩;rw [h3,zDh,zAL,zAL,zAi,ho];constructor
    ·rintro (h | ⟨rfl,h4,b,hb,h5⟩)
     ·exact .inl h
     ·refine .inr ⟨rfl,h4,b,hb,?_,h5⟩;rintro rfl;rw [h5.1] at hs;cases hs
    ·rintro (h | ⟨rfl,h4,b,hb,_,h5⟩)
     ·exact .inl h
     ·exact .inr ⟨rfl,h4,b,hb,h5⟩
   ·rw [zAK];obtain ⟨l',h1,h2,h3⟩:=KJ (n:=n) (ss:=bits .or .i64 (bits .andNot .i64 o (pos.getD (c.cells.getD i 0).toNat 0)) t) (c:=c) (q:=q) hc.1 hc.2 hI.1;rw [h1,zAA,zAB hr.2];refine ⟨l',rfl,hI.step h2 fun j x=>?_⟩;rw [h3,zDh,zAL,zAL,zAi,Js,Ub,zDh,zAL,ht];constructor
    ·rintro (h | ⟨rfl,h4,⟨_,h5⟩ | ⟨x1,y1,h6,h7,h8,h9⟩⟩)
     ·exact .inl h
     ·rw [h4] at h5;cases h5
     ·refine .inr ⟨rfl,h4,?_⟩
      by_cases e:x1=i
      ·exact ⟨y1,h7,by omega,h9⟩
      ·exact ⟨x1,by omega,e,h8⟩
    ·rintro (h | ⟨rfl,h4,b,hb,h5,h6⟩)
     ·exact .inl h
     ·refine .inr ⟨rfl,h4,.inr ?_⟩;rcases Nat.lt_or_gt_of_ne h5 with h5 | h5
      ·exact ⟨b,i,h5,hi,h6,hs,h4⟩
      ·exact ⟨i,b,h5,hb,⟨hs,h4⟩,h6⟩
 ·obtain ⟨o,t⟩:=s;obtain ⟨h1,h2⟩:=hI;simp only at h1 h2;have hc:=W.cells i hi;have hr:=W.r64 hi
  show ∃ s',Te n (Jd c q pos pos.length lost n) c q pos pos.length lost o t (i:Int)=_/\ _
  unfold Te;rw [zAT (lt i hi),zAK];simp only [zAO];rw [zAB ⟨⟨by omega,lt i hi⟩,hc,hr.1⟩];have sg:(bits .and .i64 (pos.getD (c.cells.getD i 0).toNat 0) (pos.getD (c.cells.getD i 0).toNat 0-1)==0)=Q2 (BN c pos i):=rfl;rw [sg];cases hs:Q2 (BN c pos i)
  ·rw [zAC,zAB hr.2];refine ⟨(o,t),rfl,fun j=>?_,fun j=>?_⟩
   ·rw [h1];constructor
    ·rintro ⟨a,ha,h⟩;exact ⟨a,by omega,h⟩
    ·rintro ⟨a,ha,h⟩;rcases zAa.1 ha with ha | rfl
     ·exact ⟨a,ha,h⟩
     ·rw [h.1] at hs;cases hs
   ·rw [h2];constructor
    ·rintro ⟨a,b,Hz,hb,h⟩;exact ⟨a,b,Hz,by omega,h⟩
    ·rintro ⟨a,b,Hz,hb,h⟩;rcases zAa.1 hb with hb | rfl
     ·exact ⟨a,b,Hz,hb,h⟩
     ·rw [h.2.1] at hs;cases hs
  ·rw [zAK,zAB hr.2];refine ⟨(bits .or .i64 o (BN c pos i),bits .or .i64 t (bits .and .i64 o (BN c pos i))),rfl,fun j=>?_,fun j=>?_⟩
   ·rw [Js,zDh,h1];constructor
    ·rintro (⟨a,ha,h⟩ | h)
     ·exact ⟨a,by omega,h⟩
     ·exact ⟨i,by omega,hs,h⟩
    ·rintro ⟨a,ha,h⟩;rcases zAa.1 ha with ha | rfl
     ·exact .inl ⟨a,ha,h⟩
     ·exact .inr h.2
   ·rw [Js,Ol,zDh,zAL,h1,h2];constructor
    ·rintro (⟨a,b,Hz,hb,h⟩ | ⟨⟨a,ha,h⟩,h3⟩)
     ·exact ⟨a,b,Hz,by omega,h⟩
     ·exact ⟨a,i,ha,by omega,h,hs,h3⟩
    ·rintro ⟨a,b,Hz,hb,h,h3⟩;rcases zAa.1 hb with hb | rfl
     ·exact .inl ⟨a,b,Hz,hb,h,h3⟩
     ·exact .inr ⟨⟨a,Hz,h⟩,h3.2⟩
 ·exact ⟨fun j=>⟨fun h=>absurd h Mn,fun ⟨a,ha,_⟩=>absurd ha (zAf a)⟩,fun j=>⟨fun h=>absurd h Mn,fun ⟨a,b,_,hb,_⟩=>absurd hb (zAf b)⟩⟩
end
end Go.Proofs.YtkjbblkieglmlaaGreatDoor
namespace Go.Proofs
open Go.Shelf
def Tryz.lays189_ren:Go.Shelf.Ren:=⟨fun | 189=>184 | 125=>186 | 257=>185 | 128=>196 | 129=>197 | 294=>187 | 295=>188 | 296=>189 | 297=>190 | 298=>191 | 299=>192 | 216=>193 | 300=>194 | 301=>195 | 328=>198 | 329=>199 | 330=>200 | 331=>201 | 332=>202 | 215=>203 | 343=>204 | n=>n,fun | 28=>22 | 3=>3 | 46=>115 | 0=>0 | 51=>184 | 53=>127 | 4=>4 | 183=>192 | 182=>191 | 131=>195 | 5=>5 | 9=>9 | 218=>197 | 222=>201 | 228=>203 | 229=>58 | n=>n,fun | n=>n⟩
theorem Tryz.lays189:Go.Proofs.Lays.n189 Tryz.prog Tryz.lays189_ren:={
 mixed:=by kernel_rfl
 f125:=Tryz.func186.trans (congrArg some (by kernel_rfl))
 f128:=Tryz.func196.trans (congrArg some (by kernel_rfl))
 f129:=Tryz.func197.trans (congrArg some (by kernel_rfl))
 f189:=Tryz.func184.trans (congrArg some (by kernel_rfl))
 f215:=Tryz.func203.trans (congrArg some (by kernel_rfl))
 f216:=Tryz.func193.trans (congrArg some (by kernel_rfl))
 f257:=Tryz.func185.trans (congrArg some (by kernel_rfl))
 f294:=Tryz.func187.trans (congrArg some (by kernel_rfl))
 f295:=Tryz.func188.trans (congrArg some (by kernel_rfl))
 f296:=Tryz.func189.trans (congrArg some (by kernel_rfl))
 f297:=Tryz.func190.trans (congrArg some (by kernel_rfl))
 f298:=Tryz.func191.trans (congrArg some (by kernel_rfl))
 f299:=Tryz.func192.trans (congrArg some (by kernel_rfl))
 f300:=Tryz.func194.trans (congrArg some (by kernel_rfl))
 f301:=Tryz.func195.trans (congrArg some (by kernel_rfl))
 f328:=Tryz.func198.trans (congrArg some (by kernel_rfl))
 f329:=Tryz.func199.trans (congrArg some (by kernel_rfl))
 f330:=Tryz.func200.trans (congrArg some (by kernel_rfl))
 f331:=Tryz.func201.trans (congrArg some (by kernel_rfl))
 f332:=Tryz.func202.trans (congrArg some (by kernel_rfl))
 f343:=Tryz.func204.trans (congrArg some (by kernel_rfl))
 t0:=Tryz.underlying0
 a0:=Tryz.isAgg0
 z0:=Tryz.sizeOf0
 v0:=Tryz.zeroValue0
 t3:=Tryz.underlying3
 a3:=Tryz.isAgg3
 z3:=Tryz.sizeOf3
 v3:=Tryz.zeroValue3
 t4:=Tryz.underlying4
 a4:=Tryz.isAgg4
 z4:=Tryz.sizeOf4
 v4:=Tryz.zeroValue4
 t5:=Tryz.underlying5
 a5:=Tryz.isAgg5
 z5:=Tryz.sizeOf5
 v5:=Tryz.zeroValue5
 t9:=Tryz.underlying9
 a9:=Tryz.isAgg9
 z9:=Tryz.sizeOf9
 v9:=Tryz.zeroValue9
 t28:=Tryz.underlying22
 a28:=Tryz.isAgg22
 z28:=Tryz.sizeOf22
 v28:=Tryz.zeroValue22
 t46:=Tryz.underlying115
 a46:=Tryz.isAgg115
 z46:=Tryz.sizeOf115
 v46:=Tryz.zeroValue115
 t51:=Tryz.underlying184
 a51:=Tryz.isAgg184
 z51:=Tryz.sizeOf184
 v51:=Tryz.zeroValue184
 t53:=Tryz.underlying127
 a53:=Tryz.isAgg127
 z53:=Tryz.sizeOf127
 v53:=Tryz.zeroValue127
 t131:=Tryz.underlying195
 a131:=Tryz.isAgg195
 z131:=Tryz.sizeOf195
 v131:=Tryz.zeroValue195
 t182:=Tryz.underlying191
 a182:=Tryz.isAgg191
 z182:=Tryz.sizeOf191
 v182:=Tryz.zeroValue191
 t183:=Tryz.underlying192
 a183:=Tryz.isAgg192
 z183:=Tryz.sizeOf192
 v183:=Tryz.zeroValue192
 t218:=Tryz.underlying197
 a218:=Tryz.isAgg197
 z218:=Tryz.sizeOf197
 v218:=Tryz.zeroValue197
 t222:=Tryz.underlying201
 a222:=Tryz.isAgg201
 z222:=Tryz.sizeOf201
 v222:=Tryz.zeroValue201
 t228:=Tryz.underlying203
 a228:=Tryz.isAgg203
 z228:=Tryz.sizeOf203
 v228:=Tryz.zeroValue203
 t229:=Tryz.underlying58
 a229:=Tryz.isAgg58
 z229:=Tryz.sizeOf58
 v229:=Tryz.zeroValue58 }
open Go.Sort Go.RowKit in
theorem Tryz.slices_Sort_int (blk off cap:Nat) (zs:List Int) (w:World) (hH:Holds (Value.int .i64) w blk off zs.toArray) (bL:blk<w.heap.size) (A3:zs.length<4611686018427387904):
 Calls Tryz.prog 184 #[.slice (some ⟨blk,off,none⟩) zs.length cap] w fun e w'=>
  e= .returned (.tuple #[])/\ ∃ n os,w'=grow (putRow (Value.int .i64) (Sort.ahead w n) blk off (zs.mergeSort fun x y=>decide (x<=y)).toArray) os:=Any.slices_Sort_int Tryz.lays189 blk off cap zs w hH bL A3
end Go.Proofs
namespace Go.Proofs.YtkjbblkieglmlaaGreatDoor
abbrev zFe:=@List.pairwise_cons
end Go.Proofs.YtkjbblkieglmlaaGreatDoor
namespace Go.Proofs.YtkjbblkieglmlaaGreatDoor
open Go.RowKit
def PW (a:Int):List Int -> List Int
 | []=>[a]
 | b::l=>if a<=b then a::b::l else b::PW a l
def G5:List Int -> List Int
 | []=>[]
 | a::l=>PW a (G5 l)
theorem aF (a:Int): ∀ l:List Int,(PW a l).Perm (a::l)
 | []=>zFl _
 | b::l=>by
  unfold PW;split
  ·exact zFl _
  ·exact ((aF a l).cons b).trans (List.Perm.swap a b l)
theorem Um: ∀ l:List Int,(G5 l).Perm l
 | []=>zFl _
 | a::l=>(aF a _).trans ((Um l).cons a)
theorem jv (a:Int): ∀ l:List Int,l.Pairwise (· <= ·) -> (PW a l).Pairwise (· <= ·)
 | [],_=>List.pairwise_singleton _ _
 | b::l,h=>by
  have h':=zFe.1 h;unfold PW;split
  ·rename_i Hz;refine zFe.2 ⟨fun x hx=>?_,h⟩;rcases zDu.1 hx with rfl | hx
   ·exact Hz
   ·exact Int.le_trans Hz (h'.1 x hx)
  ·rename_i Hz;refine zFe.2 ⟨fun x hx=>?_,jv a l h'.2⟩;rcases zDu.1 ((aF a l).mem_iff.1 hx) with rfl | hx
   ·omega
   ·exact h'.1 x hx
theorem fV: ∀ l:List Int,(G5 l).Pairwise (· <= ·)
 | []=>List.Pairwise.nil
 | a::l=>jv a _ (fV l)
theorem pY (l:List Int):(l.mergeSort fun x y=>decide (x<=y))=G5 l:=by
 refine List.Perm.eq_of_pairwise (le:=(· <= ·)) (fun a b _ _ h1 h2=>Int.le_antisymm h1 h2) ?_ (fV l) ((List.mergeSort_perm l _).trans (Um l).symm);have:=List.pairwise_mergeSort (le:=fun x y:Int=>decide (x<=y)) (fun a b c h1 h2=>by simp at h1 h2 ⊢;omega) (fun a b=>by simp;omega) l;exact this.imp fun h=>by simpa using h
theorem Qs (l:List Int):(G5 l).length=l.length:=(Um l).length_eq
theorem zAG {w:World} {b o:Nat} {l l':List Int} {cs:Array Value} {t:TypeId} {z:Nat×Nat} (h:w.heap[b]? =some (.cells cs t z)) (hl:l.length=l'.length) (n:Nat) (os:Array Obj):
 ∃ EJ,(Sort.grow (Sort.putRow (Value.int .i64) (Sort.ahead w n) b o l'.toArray) os).heap[b]? =some (.cells EJ t z)/\ EJ.size=cs.size/\ ∀ j,j<l.length -> o+j<cs.size -> EJ[o+j]? =some (.int .i64 (l'.getD j 0)):=by
 have hb:b<w.heap.size:=(zAJ.1 h).1;refine ⟨Sort.putCells (Value.int .i64) o l'.toArray cs,?_,by simp [Sort.putCells],fun j hj hs=>?_⟩
 ·simp only [Sort.grow,Sort.putRow,Sort.mapBlock,Sort.ahead];rw [zES (by simpa using hb),zEx,zAB rfl,h];rfl
 ·simp only [Sort.putCells,Array.getElem?_mapIdx];rw [zAq hs];simp only [zBV];rw [zAB ⟨by omega,by simp;omega⟩];have:o+j-o=j:=by omega
  rw [this];have BT:j<l'.length:=by omega
  simp [BT,u8]
theorem oF {w:World} {b o:Nat} (hb:b<w.heap.size) (d:Array Int) (n:Nat) (os:Array Obj):AP (fun k=>k=b) w (Sort.grow (Sort.putRow (Value.int .i64) (Sort.ahead w n) b o d) os):=by
 refine ⟨rfl,rfl,rfl,by simp [Sort.ahead],fun k hk Ak=>?_⟩;simp only [Sort.grow,Sort.putRow,Sort.mapBlock,Sort.ahead];rw [zES (by simpa using hk),zEx,zAZ (fun e=>Ak e.symm)]
theorem pX (l:List Int) {n:Nat} (hn:n=l.length) (zj:l.length<=BB):ES Tryz.prog GG 184 [.msl 0 1 0 n] [some (.ints l)] (.tup 0 fun j=>([]:List DV).getD j .any) [some (.ints (G5 l))] false:=by
 subst hn;refine ⟨⟨_,Tryz.func184,by decide,rfl⟩,fun N ρ w args HR Ch=>?_⟩;obtain ⟨p,hp,C8⟩:=HR.obj 0 _ rfl;have C8:AZ w p l.length fun j u=>u= .int .i64 (l.getD j 0):=C8
 have h0:=Ch.2 0 (by simp);obtain ⟨p',cap,BD,hv,Lz,Lt,WR⟩:=h0;have ep:p'=p:=zAU (BD.symm.trans hp);subst ep;have A3:args.size=1:=by have:=Ch.1;simpa using this.symm
 have ha:args= #[.slice (some ⟨p'.blk,p'.off,none⟩) l.length cap]:=by
  apply Array.ext
  ·simp [A3]
  ·intro i h1 h2;have:i=0:=by omega
   subst this;have e:args.getD 0 undef=args[0]:=by simp [Array.getD,A3]
   rw [e] at hv;rw [hv];simp
 have hH:Sort.Holds (Value.int .i64) w p'.blk p'.off l.toArray:=fun j hj=>by
  have hj:j<l.length:=by simpa using hj
  obtain ⟨u,c1,c2⟩:=C8.cell hj;refine ⟨by rw [c1,c2];simp [hj,u8],C8.frozen _⟩
 obtain ⟨Ex,cs,t,DU,Cp,Hw,_⟩:=C8;have hb:p'.blk<w.heap.size:=(zAJ.1 DU).1;subst ha;refine (Tryz.slices_Sort_int p'.blk p'.off cap l w hH hb (by unfold BB at zj;omega)).mono ?_;rintro e w' ⟨rfl,m,os,rfl⟩;rw [pY];obtain ⟨EJ,k1,k2,k3⟩:=zAG (o:=p'.off) DU (Qs l).symm m os;have hu:AP p'.foot w (Sort.grow (Sort.putRow (Value.int .i64) (Sort.ahead w m) p'.blk p'.off (G5 l).toArray) os):=by rw [Ex];exact oF (o:=p'.off) hb (G5 l).toArray m os
 show ∃ v,Ending.returned (.tuple #[])=Ending.returned v/\ CW Tryz.prog GG N _ ρ w false _ _ v (Sort.grow (Sort.putRow (Value.int .i64) (Sort.ahead w m) p'.blk p'.off (G5 l).toArray) os)
 refine ⟨_,rfl,⟨⟨ρ,HR.write (o':=.ints (G5 l)) rfl hp hu (fun b hb=>?_) ?_,⟨#[],rfl,rfl,fun j hj=>absurd hj (zAf j)⟩,A6.write rfl hp hu,fun _ _ h=>h⟩,fun h=>by cases h⟩⟩
 ·rw [Ex] at hb;exact .cells (c:=EJ) (t:=t) (z:=(0,0)) (by rw [show b=p'.blk from hb];exact k1)
 ·refine ⟨Ex,EJ,t,k1,by rw [k2,Qs];exact Cp,by rw [k2];exact Hw,fun j hj=>?_⟩;rw [Qs] at hj;exact ⟨_,k3 j hj (by omega),rfl⟩
end Go.Proofs.YtkjbblkieglmlaaGreatDoor
namespace Go.Proofs.YtkjbblkieglmlaaGreatDoor
open Go.RowKit
set_option maxRecDepth 100000
set_option maxHeartbeats 40000000
inductive Kp where
 | s0
 | s1 (Eo:Nat) (Dd:List Int)
def nW:Kp -> DH
 | .s0=>[none,some (.cells [.nils])]
 | .s1 Eo Dd=>[none,some (.cells [.msl 2 1 0 Eo]),some (.ints Dd)]
def Xl (n:Nat) (e6:Int):Option Kp:=
 if (0=0/\ 1=([e6]:List Int).length)/\ 0<([e6]:List Int).length/\ ([e6]:List Int).length<=BB then
  some (.s1 (([e6]:List Int).length) ([e6]:List Int))
 else none
def Xk (n:Nat) (e6:Int) (Eo:Nat) (Dd:List Int):Option Kp:=
 if (0=0/\ 1=([e6]:List Int).length)/\ (0=0/\ Eo=Dd.length)/\ Dd.length+([e6]:List Int).length<=BB then
  some (.s1 (Dd.length+([e6]:List Int).length) (Dd++([e6]:List Int)))
 else none
def cv (n:Nat) (e6:Int):Kp -> Option Kp
 | .s0=>Xl n e6
 | .s1 Eo Dd=>Xk n e6 Eo Dd
def Ii (n:Nat) (e6:Int) (s:Kp):Option Kp:=cv n e6 s
theorem zDJ (n:Nat) (l B:Nat) (N:Yd 2) (e6:Int) (s:Kp) (r:Kp) (h:Ii n e6 s=some r):TA l B N (Cb 2 [] 0 (nW r)) Tryz.f76 6 ⟨AG 13 [(2,.ref 1 0),(6,.it 0),(7,.i e6)],nW s⟩:=by
 cases s with
 | s0=>
  replace h:Xl n e6=some r:=h;unfold Xl at h;refine ag AE [0,1] H0 (AG 13 [(2,.ref 1 0),(5,.i e6)]) [none,some (.cells [.nils])] fun N=>?_
  revert r;apply gO;exact gi (jt (lF fun p=>rr AE [0,1,3] rfl p))
 | s1 Eo Dd=>
  replace h:Xk n e6 Eo Dd=some r:=h;unfold Xk at h;refine ag AE [0,1,2] H0 (AG 13 [(2,.ref 1 0),(5,.i e6)]) [none,some (.cells [.msl 2 1 0 Eo]),some (.ints Dd)] fun N=>?_
  revert r;apply gO;exact gi (jt (lF fun p=>rr AE [0,1,4] rfl p))
def cu (n:Nat) (l:List Int):Option ((List Int)):=
 (Bn (Ii n) l (.s0)).bind fun y1=>
  match y1 with
  | .s0=>
   none
  | .s1 Of Mg=>
   if Of=Mg.length then
    some Mg
   else none
def T7 (n:Nat) (l:List Int):Option ((List Int)):=cu n l
theorem zDI {n:Nat} {l:List Int} {r:(List Int)} (h:T7 n l=some r):EQ 76 [.nils,.it 0] [some (.iter ((l).map BQ))] (.msl 1 1 0 r.length) [none,some (.ints r)] false:=by
 unfold T7 cu at h;refine ot Tryz.func76 fun B N=>?_
 revert r;apply gO
 exact cn fun y1 A5=>fun p r h=>by
  refine gs AE [0,1] p (Fe (AY Tryz.f76) 6 []) (AG 13 [(2,.ref 1 0),(6,.it 0)]) [some (.iter ((l).map BQ)),some (.cells [.nils])] ?_;refine r0 0 6 #[7] BQ 2 A5 (zDJ n) ?_;cases y1 with
  | s0=>
   dsimp only at h
   revert r;apply gO;exact nO
  | s1 Of Mg=>
   dsimp only at h
   revert r;apply gO;exact gn fun g0=>lF fun p=>el AE [4] [0,2] p [] H0 [.msl 1 1 0 Of] (AS.mslN g0)
def cN (n:Nat) (l:List Int):Option ((List Int)):=
 (T7 n l).bind fun y1=>
  some y1
def XZ (n:Nat) (l:List Int):Option ((List Int)):=cN n l
theorem zCc {n:Nat} {l:List Int} {r:(List Int)} (h:XZ n l=some r):EQ 50 [.it 0] [some (.iter ((l).map BQ))] (.msl 1 1 0 r.length) [none,some (.ints r)] false:=by
 unfold XZ cN at h;refine ot Tryz.func50 fun B N=>?_
 revert r;apply gO;exact ce zDI [0] [some (.iter ((l).map BQ))] fun y1=>lF fun p=>el AE [2] [0,1] p [] H0 [.msl 1 1 0 y1.length] (AS.mslN rfl)
def YY (n:Nat) (l:List Int):Option ((List Int)):=
 (XZ n l).bind fun y1=>
  if y1.length<=BB then
   if y1.length=(G5 y1).length then
    some (G5 y1)
   else none
  else none
def Mu (n:Nat) (l:List Int):Option ((List Int)):=YY n l
theorem pV {n:Nat} {l:List Int} {r:(List Int)} (h:Mu n l=some r):EQ 183 [.it 0] [some (.iter ((l).map BQ))] (.msl 1 1 0 r.length) [none,some (.ints r)] false:=by
 unfold Mu YY at h;refine ot Tryz.func183 fun B N=>?_
 revert r;apply gO;exact ce zCc [0] [some (.iter ((l).map BQ))] fun y1=>gn fun g0=>jc (em (pX y1 (n:=y1.length) (Eq.refl y1.length) g0) [1] [none,some (.ints y1)]) (gn fun g1=>lF fun p=>el AE [2] [0,1] p [] H0 [.msl 1 1 0 y1.length] (AS.mslN g1))
def mj (n:Nat) (g_:List (List Int)) (AU:List Bool) (start:Int):Option ((List Int)×Int):=
 (JU n g_ ([AU]:List (List Bool))).bind fun y1=>
  bif (y1 != 0) then
   some (([]:List Int),y1)
  else
   bif (decide (start<0)) then
    some (([]:List Int),1)
   else
    bif (decide (start>=(g_.length:Int))) then
     some (([]:List Int),1)
    else
     if 0<=start/\ start<(AU.length:Int) then
      bif (!(AU.getD ((start).toNat) false)) then
       some (([]:List Int),1)
      else
       (F2 n g_ start AU).bind fun y2=>
        (Mu n y2).bind fun y3=>
         some (y3,0)
     else none
def QJ (n:Nat) (g_:List (List Int)) (AU:List Bool) (start:Int):Option ((List Int)×Int):=mj n g_ AU start
theorem zCa {n:Nat} {g_:List (List Int)} {AU:List Bool} {start:Int} {r:(List Int)×Int} (h:QJ n g_ AU start=some r):EQ 179 [.sl 1 g_.length (AQ Be g_),.bools AU,.i start] [] (.tup 2 (L1 [.ints r.1,.i r.2])) [] true:=by
 refine ot Tryz.func179 fun B N=>?_
 revert r;apply gO;exact ja 10 0 1 (ER (c:=QN) (L:=([AU]:List (List Bool))) (vals:=[.bools AU]) rfl ⟨⟨_,rfl,⟨At,trivial⟩⟩,trivial⟩) (jz 10 0 (jg (Eq.refl 1) (cf Wq [none] fun y1=>bi 13 (lF fun p=>el AE [6,7] [] p [] H0 [.nils,.i y1] (AS.tupL (l:=[.nils,.i y1]) (l':=[.ints ([]:List Int),.i y1]) rfl ⟨AS.ints_nil,At,trivial⟩)) (bi 16 (lF fun p=>el AE [6,7] [] p [] H0 [.nils,.i 1] (AS.tupL (l:=[.nils,.i 1]) (l':=[.ints ([]:List Int),.i 1]) rfl ⟨AS.ints_nil,At,trivial⟩)) (bi 21 (lF fun p=>el AE [6,7] [] p [] H0 [.nils,.i 1] (AS.tupL (l:=[.nils,.i 1]) (l':=[.ints ([]:List Int),.i 1]) rfl ⟨AS.ints_nil,At,trivial⟩)) (gi (bi 28 (lF fun p=>el AE [6,7] [] p [] H0 [.nils,.i 1] (AS.tupL (l:=[.nils,.i 1]) (l':=[.ints ([]:List Int),.i 1]) rfl ⟨AS.ints_nil,At,trivial⟩)) (cn fun y2 Bz=>jc (Y7 Bz [none]) (ce pV [1] [none,some (.iter ((y2).map BQ))] fun y3=>lF fun p=>ez AE [6,7] [2] p [0] (H0.g (Eq.refl y3.length)))))))))))
def eV:ST:=.rd 0 (.rd 1 (.ef 2 (.ef 3 (.fin [] [4,5]) (.no)) (.no)))
theorem qh:Bq (Ag Tryz.f103 11) [2] eV:=by unfold Bq;kernel_rfl
def LF:Bi:=fun i=>match i with
 | 11=>.tre [2] eV
 | _=>.no
def zF (g_:List (List Int)) (CQ:Int) (y1 o1:List Int):DH:=[some (.cells [.msl 3 1 0 g_.length]),some (.cells [.i (CQ+1)]),some (.iter ((y1).map BQ)),some (.ints o1)]
def d7 (g_:List (List Int)) (o1:List Int) (CQ:Int):St:=⟨(AG 42 [(4,.ref 0 0),(5,.ref 2 0)]),([some (.cells [.msl 1 1 0 g_.length]),some (.ints o1),some (.cells [.i CQ])]:DH)⟩
inductive LW where
 | s0 (I0:List Int)
def iP (g_:List (List Int)) (AU:List Bool) (x13 CQ:Int):LW -> DH
 | .s0 I0=>[some (.cells [.msl 3 1 0 g_.length]),some (.cells [.i (CQ+1)]),none,some (.ints I0)]
def VQ (n:Nat) (g_:List (List Int)) (AU:List Bool) (x13 CQ HM:Int) (I0:List Int):Option LW:=
 if (0<=HM/\ HM<(g_.length:Int))/\ 0+((HM).toNat)<I0.length then
  some (.s0 (I0.set (0+((HM).toNat)) (CQ+1)))
 else none
def iO (n:Nat) (g_:List (List Int)) (AU:List Bool) (x13 CQ HM:Int):LW -> Option LW
 | .s0 I0=>VQ n g_ AU x13 CQ HM I0
def NI (n:Nat) (g_:List (List Int)) (AU:List Bool) (x13 CQ HM:Int) (s:LW):Option LW:=iO n g_ AU x13 CQ HM s
theorem uA (n:Nat) (g_:List (List Int)) (AU:List Bool) (x13 CQ:Int) (l B:Nat) (N:Yd 3) (HM:Int) (s:LW) (r:LW) (h:NI n g_ AU x13 CQ HM s=some r):TA l B N (Cb 3 [] 0 (iP g_ AU x13 CQ r)) Tryz.f103 33 ⟨AG 42 [(0,.sl 1 g_.length (AQ Be g_)),(1,.bools AU),(4,.ref 0 0),(5,.ref 1 0),(12,.i (g_.length:Int)),(13,.i x13),(33,.it 2),(34,.i HM)],iP g_ AU x13 CQ s⟩:=by
 cases s with
 | s0 I0=>
  replace h:VQ n g_ AU x13 CQ HM I0=some r:=h;unfold VQ at h;refine ag LF [0,1,2,3] H0 (AG 42 [(4,.ref 0 0),(5,.ref 1 0),(7,.i HM)]) [some (.cells [.msl 3 1 0 g_.length]),some (.cells [.i (CQ+1)]),none,some (.ints I0)] fun N=>?_
  revert r;apply gO;exact gc (gi (gi (lF fun p=>rr LF [0,1,2,3] rfl p)))
inductive VR where
 | l1 (x13:Int) (o1:List Int) (CQ:Int)
def Rn (n:Nat) (self:VR -> Option ((List Int)×Int)) (g_:List (List Int)) (AU:List Bool) (x13:Int) (o1:List Int) (CQ:Int):Option ((List Int)×Int):=
 bif (decide (x13<(g_.length:Int))) then
  if 0<=x13/\ x13<(AU.length:Int) then
   bif (!(AU.getD ((x13).toNat) false)) then
    if AL (x13+1) then
     self (.l1 (x13+1) o1 CQ)
    else none
   else
    if (0<=x13/\ x13<(g_.length:Int))/\ 0+((x13).toNat)<o1.length then
     bif (decide ((o1.getD (0+((x13).toNat)) 0)>0)) then
      if AL (x13+1) then
       self (.l1 (x13+1) o1 CQ)
      else none
     else
      if AL (CQ+1) then
       (F2 n g_ x13 AU).bind fun y1=>
        (Bn (NI n g_ AU x13 CQ) y1 (.s0 o1)).bind fun y2=>
         match y2 with
         | .s0 EA=>
          if AL (x13+1) then
           self (.l1 (x13+1) EA (CQ+1))
          else none
      else none
    else none
  else none
 else
  if g_.length=o1.length then
   some (o1,CQ)
  else none
def iN (n:Nat) (self:VR -> Option ((List Int)×Int)) (g_:List (List Int)) (AU:List Bool):Option ((List Int)×Int):=
 if ((g_.length:Int):Int)=(g_.length:Int)/\ 0<=(g_.length:Int)/\ ((g_.length:Int):Int)<=1000000000000 then
  self (.l1 0 (List.replicate g_.length (0:Int)) 0)
 else none
def PD (g_:List (List Int)) (AU:List Bool):Nat -> VR -> Option ((List Int)×Int)
 | 0,_=>none
 | n+1,.l1 x13 o1 CQ=>Rn n (PD g_ AU n) g_ AU x13 o1 CQ
def parts (n:Nat) (g_:List (List Int)) (AU:List Bool):Option ((List Int)×Int):=iN n (PD g_ AU n) g_ AU
def uB (n B:Nat) (N:Yd 0) (g_:List (List Int)) (AU:List Bool) (r:(List Int)×Int):VR -> Prop
 | .l1 x13 o1 CQ=>∀ m0:Nat,n<=m0 -> TW B N (FQ Tryz.f103 0 (.tup 2 (L1 [.ints r.1,.i r.2])) []) (A8 m0 (BL (AY Tryz.f103) 0 [])) ⟨AG 42 [(0,.sl 1 g_.length (AQ Be g_)),(1,.bools AU),(4,.ref 0 0),(5,.ref 2 0),(12,.i (g_.length:Int)),(13,.i x13)],[some (.cells [.msl 1 1 0 g_.length]),some (.ints o1),some (.cells [.i CQ])]⟩
theorem uC (B:Nat) (N:Yd 0) (g_:List (List Int)) (AU:List Bool):Al (PD g_ AU) (uB · B N g_ AU):=ia (fun _=>rfl) fun n AK pt r h=>by
 cases pt
 case l1 x13 o1 CQ=>
  intro m0 AD;refine rd AD fun m0 AD=>?_
  revert r;apply gO
  exact bi 14 (gi (bi 20 (gw 39 (lG LF [0,1,2] (AK _ _ · m0 AD))) (gc (gi (gi (bi 26 (gw 39 (lG LF [0,1,2] (AK _ _ · m0 AD))) (gw 29 (jt (cn fun y1 A5=>jc (Y7 A5 [some (.cells [.msl 1 1 0 g_.length]),some (.ints o1),some (.cells [.i (CQ+1)])]) (cn fun y2 Bz=>fun p r h=>by
   refine gs LF [0,2,3,1] p (Fe (AY Tryz.f103) 33 [m0]) (AG 42 [(0,.sl 1 g_.length (AQ Be g_)),(1,.bools AU),(4,.ref 0 0),(5,.ref 1 0),(12,.i (g_.length:Int)),(13,.i x13),(33,.it 2)]) (zF g_ CQ y1 o1) ?_;refine r0 2 33 #[34] BQ 3 Bz (uA n g_ AU x13 CQ) ?_;cases y2 with
   | s0 EA=>
    dsimp only at h
    revert r;apply gO;exact gw 39 (lG LF [0,3,1] (AK _ _ · m0 AD)))))))))))) (jg qh (jt (jt (jg (Eq.refl (d7 g_ o1 CQ)) (gn fun g0=>lF fun p=>ez (tg:=[([(2,0)],(d7 g_ o1 CQ))]) LF [4,5] [0,1,2] p [1] (H0.g g0))))))
theorem ZP {n:Nat} {g_:List (List Int)} {AU:List Bool} {r:(List Int)×Int} (h:parts n g_ AU=some r):EQ 103 [.sl 1 g_.length (AQ Be g_),.bools AU] [] (.tup 2 (L1 [.ints r.1,.i r.2])) [] true:=by
 refine ot Tryz.func103 fun B N=>?_
 revert r;apply gO;exact gi (jt (lN LF [0,2,1] ((uC B N g_ AU n) _ _ · n Nat.le.refl)))
end Go.Proofs.YtkjbblkieglmlaaGreatDoor
namespace Go.Proofs.YtkjbblkieglmlaaGreatDoor
open Go.RowKit
set_option maxRecDepth 100000
set_option maxHeartbeats 40000000
def X4 (n:Nat) (n_:Int) (inn:List Bool):Option ((List Bool)):=
 (OL n inn).bind fun y1=>
  if (0<=n_/\ n_<(y1.length:Int))/\ 0+((n_).toNat)<y1.length then
   if y1.length=(y1.set (0+((n_).toNat)) false).length then
    some (y1.set (0+((n_).toNat)) false)
   else none
  else none
def Qd (n:Nat) (n_:Int) (inn:List Bool):Option ((List Bool)):=X4 n n_ inn
theorem n8 {n:Nat} {n_:Int} {inn:List Bool} {r:(List Bool)} (h:Qd n n_ inn=some r):EQ 180 [.i n_,.fp 1 (L1 [.bools inn])] [] (.msl 0 1 0 r.length) [some (.bools r)] true:=by
 unfold Qd X4 at h;refine ot Tryz.func180 fun B N=>?_
 revert r;apply gO;exact cn fun y1 A5=>jc (ES.snapNew (ds:=[.bools inn]) (mq A5) [] (cz (by kernel_rfl)) rfl) (gc (gi (gi (gn fun g2=>lF fun p=>el AE [3] [0] p [] H0 [.msl 0 1 0 y1.length] (AS.mslN g2)))))
theorem qS:Ar (Ag Tryz.f169 16) [] (List.range 7) []:=by unfold Ar;kernel_rfl
def G6:Bi:=fun i=>match i with
 | 16=>.ord [] (List.range 7) []
 | _=>.no
def kO (AU CE:List Bool) (AF:Int):DH:=[some (.cells [.bools AU]),some (.cells [.bools CE]),some (.cells [.i AF]),some (.cells [.bool false]),none]
def yK (AU CE:List Bool) (AF:Int):DH:=[some (.cells [.bools AU]),some (.cells [.bools CE]),some (.cells [.i AF]),some (.cells [.bool false]),none,none]
def yJ (AU CE:List Bool) (AF:Int) (y3:(List Int)×Int):DH:=[some (.cells [.bools AU]),some (.cells [.bools CE]),some (.cells [.i AF]),some (.cells [.bool false]),none,none,some (.cells [.ints y3.1]),some (.cells [.i 0])]
def yI (CE:List Bool) (AF:Int) (y3:(List Int)×Int) (y4:List Int):DH:=[some (.cells [.bools CE]),some (.cells [.i AF]),some (.cells [.bool false]),some (.cells [.ints y3.1]),some (.cells [.i 0]),some (.iter ((y4).map BQ))]
def yH (CE:List Bool) (AF:Int) (G8:Bool) (y3:(List Int)×Int) (F8:Int):DH:=[some (.cells [.bools CE]),some (.cells [.i AF]),some (.cells [.bool G8]),some (.cells [.ints y3.1]),some (.cells [.i F8]),none]
inductive K8 where
 | s0 (G8:Bool) (F8:Int)
def fP (CE:List Bool) (AF:Int) (y3:(List Int)×Int):K8 -> DH
 | .s0 G8 F8=>[some (.cells [.bools CE]),some (.cells [.i AF]),some (.cells [.bool G8]),some (.cells [.ints y3.1]),some (.cells [.i F8]),none]
def Qr (n:Nat) (CE:List Bool) (AF:Int) (y3:(List Int)×Int) (FK:Int) (G8:Bool) (F8:Int):Option (K8×Nat):=
 bif (FK==AF) then
  some (.s0 G8 F8,0)
 else
  if 0<=FK/\ FK<(CE.length:Int) then
   bif (!(CE.getD ((FK).toNat) false)) then
    some (.s0 G8 F8,0)
   else
    bif (F8==0) then
     if 0<=FK/\ FK<(y3.1.length:Int) then
      some (.s0 G8 (y3.1.getD ((FK).toNat) 0),0)
     else none
    else
     if 0<=FK/\ FK<(y3.1.length:Int) then
      bif ((y3.1.getD ((FK).toNat) 0) != F8) then
       some (.s0 true F8,1)
      else
       some (.s0 G8 F8,0)
     else none
  else none
def pP (n:Nat) (CE:List Bool) (AF:Int) (y3:(List Int)×Int) (FK:Int):K8 -> Option (K8×Nat)
 | .s0 G8 F8=>Qr n CE AF y3 FK G8 F8
def Ha (n:Nat) (CE:List Bool) (AF:Int) (y3:(List Int)×Int) (FK:Int) (s:K8):Option (K8×Nat):=pP n CE AF y3 FK s
theorem pO (n:Nat) (CE:List Bool) (AF:Int) (y3:(List Int)×Int) (l B:Nat) (N:Yd 6) (FK:Int) (s:K8) (r:K8×Nat) (h:Ha n CE AF y3 FK s=some r):TA l B N (Cb 6 [.exit 0] r.2 (fP CE AF y3 r.1)) Tryz.f169 48 ⟨AG 76 [(6,.ref 0 0),(7,.ref 1 0),(8,.ref 2 0),(11,.ref 3 0),(13,.ref 4 0),(48,.it 5),(49,.i FK)],fP CE AF y3 s⟩:=by
 cases s with
 | s0 G8 F8=>
  refine ag G6 [0,1,2,3,4,5] H0 (AG 76 [(6,.ref 0 0),(7,.ref 1 0),(8,.ref 2 0),(11,.ref 3 0),(13,.ref 4 0),(14,.i FK)]) (yH CE AF G8 y3 F8) fun N=>?_
  revert r;apply gO;exact bi 53 (lF fun p=>rr G6 [0,1,2,3,4,5] rfl p) (gi (bi 59 (lF fun p=>rr G6 [0,1,2,3,4,5] rfl p) (bi 63 (gi (jt (lF fun p=>rr G6 [0,1,2,3,4,5] rfl p))) (jg qS (gi (bi 74 (jt (lF fun p=>rr G6 [0,1,2,3,4,5] rfl p)) (lF fun p=>rr G6 [0,1,2,3,4,5] rfl p)))))))
def fO (n:Nat) (g_:List (List Int)) (AU CE:List Bool) (AF:Int):Option (Bool×Int):=
 (JU n g_ ([AU,CE]:List (List Bool))).bind fun y1=>
  bif (y1 != 0) then
   some (false,y1)
  else
   bif (decide (AF<0)) then
    some (false,1)
   else
    bif (decide (AF>=(g_.length:Int))) then
     some (false,1)
    else
     if 0<=AF/\ AF<(AU.length:Int) then
      bif (!(AU.getD ((AF).toNat) false)) then
       some (false,0)
      else
       (Qd n AF AU).bind fun y2=>
        (parts n g_ y2).bind fun y3=>
         (F2 n g_ AF AU).bind fun y4=>
          (DB (Ha n CE AF y3) y4 (.s0 false 0)).bind fun y5=>
           bif y5.2==0 then
            match y5.1 with
            | .s0 Qc Xz=>
             some (Qc,0)
           else
            bif y5.2==1 then
             match y5.1 with
             | .s0 Qc Xz=>
              some (Qc,0)
            else
             none
     else none
def Mr (n:Nat) (g_:List (List Int)) (AU CE:List Bool) (AF:Int):Option (Bool×Int):=fO n g_ AU CE AF
theorem pM {n:Nat} {g_:List (List Int)} {AU CE:List Bool} {AF:Int} {r:Bool×Int} (h:Mr n g_ AU CE AF=some r):EQ 169 [.sl 1 g_.length (AQ Be g_),.bools AU,.bools CE,.i AF] [] (.tup 2 (L1 [.bool r.1,.i r.2])) [] true:=by
 refine ot Tryz.func169 fun B N=>?_
 revert r;apply gO
 exact ja 18 4 1 (ER (c:=QN) (L:=([AU,CE]:List (List Bool))) (vals:=[.bools AU,.bools CE]) rfl ⟨⟨_,rfl,⟨At,trivial⟩⟩,⟨_,rfl,⟨At,trivial⟩⟩,trivial⟩) (jz 18 4 (jg (Eq.refl 2) (cf Wq (kO AU CE AF) fun _=>bi 21 (jt (lE G6 [8,9] [3])) (bi 24 (jt (lE G6 [8,9] [3])) (bi 29 (jt (lE G6 [8,9] [3])) (gi (bi 35 (jt (lE G6 [8,9] [3])) (cn fun y2 Bz=>jc (ES.snapNew (ds:=[.i AF,.ref 0 0]) (n8 Bz) (kO AU CE AF) ⟨Ad.plain (by kernel_rfl),(Ad.refL (l:=[.bools AU]) (l0:=[.bools AU]) rfl ⟨Ad.plain (by kernel_rfl),trivial⟩),trivial⟩ rfl) (jz 41 5 (jg (Eq.refl y2.length) (cf ZP (yK AU CE AF) fun y3=>jt (jt (cn fun y4 aP=>jc (Y7 aP (yJ AU CE AF y3)) (cn fun y5 aO=>fun p r h=>by
  refine gs G6 [1,2,3,6,7,8] p (Fe (AY Tryz.f169) 48 []) (AG 76 [(6,.ref 0 0),(7,.ref 1 0),(8,.ref 2 0),(11,.ref 3 0),(13,.ref 4 0),(48,.it 5)]) (yI CE AF y3 y4) ?_;refine rx [.exit 0] 5 48 #[49] BQ 6 aO (pO n CE AF y3) fun e he=>?_
  replace h:=Bt h;rcases h with ⟨Qb,h⟩ | ⟨Qb,h⟩
  ·rw [eq_of_beq Qb] at he;cases he;revert h;cases y5.1 with
   | s0 Qc Xz=>
    intro h
    dsimp only at h
    revert r;apply gO;exact jt (lE G6 [8,9] [2])
  ·replace h:=Bt h;rcases h with ⟨Qb,h⟩ | ⟨Qb,h⟩
   ·rw [eq_of_beq Qb] at he;cases he;refine DZ.exitTo (by kernel_rfl) ?_;revert h;cases y5.1 with
    | s0 Qc Xz=>
     intro h
     dsimp only at h
     revert r;apply gO;exact jt (lE G6 [8,9] [2])
   ·cases h))))))))))))))
end Go.Proofs.YtkjbblkieglmlaaGreatDoor
namespace Go.Proofs.YtkjbblkieglmlaaGreatDoor
open Go.RowKit
theorem Ae.bindU {R T:Type} {a:Nat -> Option T} {b:Nat -> T -> Option R} {A:T -> Prop} {Q:R -> Prop} (ha:Ae a A) (hb: ∃ M,∀ n,M<=n -> ∀ x,A x -> ∃ r,b n x=some r/\ Q r):Ae (fun n=>(a n).bind (b n)) Q:=by
 obtain ⟨N,ha⟩:=ha;obtain ⟨M,hb⟩:=hb;refine ⟨max N M,fun n hn=>?_⟩;obtain ⟨x,h1,h2⟩:=ha n (by omega);obtain ⟨r,h3,h4⟩:=hb n (by omega) x h2;exact ⟨r,by show (a n).bind (b n)=_;rw [h1,zAA];exact h3,h4⟩
structure H8 (g:List (List Int)):Prop where
 ok:Kj g=true
 row: ∀ r∈g,r.length<=LB
theorem H8.gr {g:List (List Int)} (h:H8 g):Gr g:=Gr.of h.ok h.row
section
variable {g:List (List Int)} {inn some':List Bool} {s:Int}
theorem lW {sets:List (List Bool)} (hs: ∀ x∈sets,x.length=g.length) (hl:sets.length<=256): ∀ (k i n:Nat),i+k=sets.length -> k+1<=n -> Pq g sets n (.l1 (i:Int))=some 0
 | 0,i,n,e,hn=>by
  obtain ⟨n,rfl⟩: ∃ k,n=k+1:=⟨n-1,by omega⟩
  show TF n (Pq g sets n) g sets i=_
  unfold TF;rw [zAE (by omega),zAC]
 | k+1,i,n,e,hn=>by
  obtain ⟨n,rfl⟩: ∃ k,n=k+1:=⟨n-1,by omega⟩;have hi:i<sets.length:=by omega
  have hm:sets.getD i []∈sets:=by rw [u8,zAQ hi];exact zDi hi
  have e2:(((sets.getD i []).length:Int) != (g.length:Int))=false:=by rw [hs _ hm];simp
  have:=lW hs hl k (i+1) n (by omega) (by omega)
  show TF n (Pq g sets n) g sets i=_
  unfold TF;rw [zAT (by omega),zAK,zAB ⟨by omega,by omega⟩,zAO,e2,zAC,zAB (A0.2 ⟨by omega,by omega⟩)];exact this
theorem Wr (G:H8 g) {sets:List (List Bool)} (hs: ∀ x∈sets,x.length=g.length) (hl:sets.length<=256):Ev (fun n=>JU n g sets) 0:=by
 refine ⟨2*Gy g+1+sets.length+1,fun n hn=>?_⟩
 show JU n g sets=some 0
 unfold JU lX;rw [li G.row (by omega),G.ok];exact lW hs hl sets.length 0 n (by omega) (by omega)
theorem nZ {n:Nat}: ∀ (l x:List Int),(x++l).length<=BB -> Bn (Ii n) l (.s1 x.length x)=some (.s1 (x++l).length (x++l))
 | [],x,h=>by rw [zFD];rfl
 | a::l,x,h=>by
  have e:x++a::l=x++[a]++l:=by simp
  rw [e] at h ⊢;have h2:x.length+1<=BB:=by simp only [zAh,zDv] at h;omega
  have e1:Ii n a (.s1 x.length x)=some (.s1 (x++[a]).length (x++[a])):=by
   unfold Ii cv Xk
   dsimp only
   rw [zAB ⟨⟨rfl,rfl⟩,⟨rfl,rfl⟩,by simpa using h2⟩,zAh]
  show (Ii n a (.s1 x.length x)).bind (Bn (Ii n) l)=_
  rw [e1,zAA];exact nZ l (x++[a]) h
theorem pW {n:Nat} {l:List Int} (h0:l≠[]) (hl:l.length<=256):Mu n l=some (G5 l):=by
 have L:(1000000000000:Nat)=BB:=rfl;cases l with
 | nil=>exact absurd rfl h0
 | cons a l=>
  have e1:Ii n a .s0=some (.s1 [a].length [a]):=by
   unfold Ii cv Xl
   dsimp only
   rw [zAB ⟨⟨rfl,rfl⟩,by simp,by rw [←L];simp⟩]
  have e2:=nZ (n:=n) l [a] (by rw [←L];simp only [List.singleton_append];omega)
  have e3:T7 n (a::l)=some (a::l):=by
   unfold T7 cu
   show ((Ii n a .s0).bind (Bn (Ii n) l)).bind _=_
   rw [e1,zAA,e2,zAA]
   dsimp only
   rw [zAB rfl];rfl
  unfold Mu YY XZ cN;rw [e3,zAA,zAA,zAB (by rw [←L];omega),zAB (Qs _).symm]
theorem tE {l:List Int} (h: ∀ v,v∈l↔Rc g inn s v):l≠[]:=fun e=>by
 have:=(h s).2 .start;rw [e] at this;cases this
theorem tF (G:Gr g) (h0:0<=s) (h1:s<(g.length:Int)) {l:List Int} (hn:l.Nodup) (h: ∀ v,v∈l↔Rc g inn s v):l.length<=256:=
 zAk (Zg g.length l hn fun x hx=>((h x).1 hx).rng G h0 h1) G.len
theorem zCb (G:H8 g) (hI:inn.length=g.length) (h0:0<=s) (h1:s<(g.length:Int)) (hs:inn.getD s.toNat false=true):
 Ae (fun n=>QJ n g inn s) (fun r=>r.2=0/\ r.1.length<=256/\ ∀ v,v∈r.1↔Rc g inn s v):=by
 have e: ∀ n,QJ n g inn s=(JU n g [inn]).bind fun y1=>bif (y1 != 0) then some (([]:List Int),y1) else (F2 n g s inn).bind fun y2=>(Mu n y2).bind fun y3=>some (y3,0):=fun n=>by
  unfold QJ mj
  congr 1
  funext y1
  rw [zAE (by omega),zAC,zAE (by omega),zAC,zAB ⟨by omega,by omega⟩,hs,zD2,zAC]
 refine Ae.eq ?_ e;refine Ae.bind (Wr G (fun x hx=>by rw [zAp.1 hx];exact hI) (by simp)) ?_
 show Ae (fun n=>(F2 n g s inn).bind fun y2=>(Mu n y2).bind fun y3=>some (y3,0)) _
 refine Ae.bindU (Y6 G.gr hI h0 h1) ⟨0,fun n _ l hl=>?_⟩;have Ap:=tF G.gr h0 h1 hl.1 hl.2;rw [pW (tE hl.2) Ap,zAA];exact ⟨_,rfl,rfl,by rw [Qs];exact Ap,fun v=>by rw [(Um l).mem_iff];exact hl.2 v⟩
structure Pt (g:List (List Int)) (inn:List Bool) (i:Nat) (part:List Int) (Bs:Int):Prop where
 len:part.length=g.length
 m0:0<=Bs
 m1:Bs<=(i:Int)
 lo: ∀ v,v<g.length -> 0<=part.getD v 0/\ part.getD v 0<=Bs
 isIn: ∀ v,v<g.length -> 0<part.getD v 0 -> inn.getD v false=true
 same: ∀ u v:Nat,u<g.length -> v<g.length -> 0<part.getD u 0 -> Rc g inn u v -> part.getD v 0=part.getD u 0
 con: ∀ u v:Nat,u<g.length -> v<g.length -> 0<part.getD u 0 -> part.getD v 0=part.getD u 0 -> Rc g inn u v
 all: ∀ v,v<i -> v<g.length -> inn.getD v false=true -> 0<part.getD v 0
 sur: ∀ m,0<m -> m<=Bs -> ∃ v,v<g.length/\ part.getD v 0=m
theorem iQ {n:Nat} {x13 m:Int}: ∀ (l:List Int) (part:List Int),part.length=g.length -> (∀ v∈l,0<=v/\ v<(g.length:Int)) ->
 ∃ G9,Bn (NI n g inn x13 m) l (.s0 part)=some (.s0 G9)/\ G9.length=g.length/\ ∀ v:Nat,G9.getD v 0=if (v:Int)∈l/\ v<g.length then m+1 else part.getD v 0
 | [],part,hp,_=>⟨part,rfl,hp,fun v=>by simp⟩
 | a::l,part,hp,hl=>by
  have ha:=hl a zEF
  have e1:NI n g inn x13 m a (.s0 part)=some (.s0 (part.set a.toNat (m+1))):=by
   unfold NI iO VQ
   dsimp only
   rw [zAB ⟨ha,by omega⟩,zAj]
  obtain ⟨G9,h1,h2,h3⟩:=iQ (n:=n) (x13:=x13) (m:=m) l (part.set a.toNat (m+1)) (by rw [zAl];exact hp) fun v hv=>hl v (zDt _ hv)
  refine ⟨G9,?_,h2,fun v=>?_⟩
  ·show (NI n g inn x13 m a (.s0 part)).bind (Bn (NI n g inn x13 m) l)=_
   rw [e1,zAA];exact h1
  ·rw [h3]
   by_cases hv:(v:Int)∈l/\ v<g.length
   ·rw [zAB hv,zAB ⟨zDt _ hv.1,hv.2⟩]
   ·rw [zAZ hv]
    by_cases e:(v:Int)=a
    ·subst e;rw [zAB ⟨zEF,by omega⟩,zAO,u8,zEH (by omega)];rfl
    ·rw [zAZ (fun h=>by
      rcases zDu.1 h.1 with h4 | h4
      ·exact e h4
      ·exact hv ⟨h4,h.2⟩),u8,zEB (by omega),←u8]
theorem Pt.go (G:Gr g) {i:Nat} {part G9:List Int} {Bs:Int} (h:Pt g inn i part Bs) (hi:i<g.length) (Du:inn.getD i false=true) (h0: ¬ part.getD i 0>0) {l:List Int} (hl: ∀ v,v∈l↔Rc g inn i v) (Ap:G9.length=g.length)
 (hp: ∀ v:Nat,G9.getD v 0=if (v:Int)∈l/\ v<g.length then Bs+1 else part.getD v 0):Pt g inn (i+1) G9 (Bs+1):=by
 have m0:=h.m0;have m1:=h.m1;have Kz: ∀ v:Nat,v<g.length -> Rc g inn i v -> G9.getD v 0=Bs+1:=fun v hv hr=>by rw [hp,zAB ⟨(hl v).2 hr,hv⟩]
 have no: ∀ v:Nat,¬ Rc g inn i v -> G9.getD v 0=part.getD v 0:=fun v hr=>by rw [hp,zAZ (fun h=>hr ((hl v).1 h.1))]
 have sym: ∀ u v:Nat,u<g.length -> inn.getD u false=true -> Rc g inn u v -> Rc g inn v u:=fun u v hu xR hr=>hr.symm G (by omega) (by omega) (by rw [zAO];exact xR)
 refine ⟨Ap,by omega,by omega,fun v hv=>?_,fun v hv Hx=>?_,fun u v hu hv Hx hr=>?_,fun u v hu hv Hx he=>?_,fun v hv Gb Cr=>?_,fun m h1 h2=>?_⟩
 ·have:=h.lo v hv
  by_cases hr:Rc g inn i v
  ·rw [Kz v hv hr];omega
  ·rw [no v hr];omega
 ·by_cases hr:Rc g inn i v
  ·have:=hr.isIn (by rw [zAO];exact Du)
   rwa [zAO] at this
  ·rw [no v hr] at Hx;exact h.isIn v hv Hx
 ·by_cases h1:Rc g inn i u
  ·rw [Kz u hu h1,Kz v hv (h1.trans hr)]
  ·rw [no u h1] at Hx ⊢;have h2: ¬ Rc g inn i v:=fun h2=>h1 (h2.trans (sym u v hu (h.isIn u hu Hx) hr))
   rw [no v h2];exact h.same u v hu hv Hx hr
 ·have hb:=(h.lo v hv).2
  by_cases h1:Rc g inn i u
  ·rw [Kz u hu h1] at he
   by_cases h2:Rc g inn i v
   ·exact (sym i u hi Du h1).trans h2
   ·rw [no v h2] at he;omega
  ·rw [no u h1] at Hx he;have hb:=(h.lo u hu).2
   by_cases h2:Rc g inn i v
   ·rw [Kz v hv h2] at he;omega
   ·rw [no v h2] at he;exact h.con u v hu hv Hx he
 ·rcases zAa.1 hv with hv | rfl
  ·have:=h.all v hv Gb Cr
   by_cases hr:Rc g inn i v
   ·rw [Kz v Gb hr];omega
   ·rw [no v hr];exact this
  ·rw [Kz v Gb .start];omega
 ·by_cases e:m=Bs+1
  ·exact ⟨i,hi,by rw [Kz i hi .start,e]⟩
  ·obtain ⟨v,hv,Ni⟩:=h.sur m h1 (by omega);refine ⟨v,hv,?_⟩;rw [no v fun hr=>h0 ?_,Ni];have:=h.same v i hv hi (by omega) (sym i v hi Du hr);omega
def PtP (g:List (List Int)) (inn:List Bool) (r:List Int×Int):Prop:=r.1.length=g.length/\ (∀ v,v<g.length -> inn.getD v false=true -> 0<r.1.getD v 0)/\ ∀ u v:Nat,u<g.length -> v<g.length -> inn.getD u false=true -> (r.1.getD v 0=r.1.getD u 0↔Rc g inn u v)
theorem ZO (G:Gr g) (hI:inn.length=g.length):Ae (fun n=>parts n g inn) (fun r=>Pt g inn g.length r.1 r.2):=by
 have hG:=G.len;obtain ⟨N,hN⟩:=Ae.range (F:=fun (i:Nat) n=>F2 n g i inn) (A:=fun i l=>l.Nodup/\ ∀ v,v∈l↔Rc g inn i v) g.length fun i hi=>Y6 G hI (by omega) (by omega)
 have hN: ∀ n,N<=n -> ∀ i:Nat,i<g.length -> ∃ l,F2 n g i inn=some l/\ l.Nodup/\ ∀ v,v∈l↔Rc g inn i v:=hN;refine ⟨N+g.length+1,fun n hn=>?_⟩;have S:=HE (fun n (s:List Int×Int) i=>PD g inn n (.l1 i s.1 s.2)) g.length (N+1) (fun i s=>Pt g inn i s.1 s.2) (fun n i s Gf hi hP=>?_) (n:=n) (s:=(List.replicate g.length 0,0)) (by omega) ?_
 ·obtain ⟨n1,⟨part,Bs⟩,GK,_,e1,hP⟩:=S;obtain ⟨n2,rfl⟩: ∃ n2,n1=n2+1:=⟨n1-1,by omega⟩;refine ⟨(part,Bs),?_,hP⟩
  show parts n g inn=some (part,Bs)
  unfold parts iN;rw [zAB ⟨rfl,by omega,by omega⟩];refine Eq.trans e1 ?_
  show Rn n2 (PD g inn n2) g inn (g.length:Int) part Bs=_
  unfold Rn;rw [zAE (by omega),zAC,zAB hP.len.symm]
 ·obtain ⟨part,Bs⟩:=s;have hP:Pt g inn i part Bs:=hP;have r1:AL ((i:Int)+1):=A0.2 ⟨by omega,by omega⟩
  show ∃ s',Rn n (PD g inn n) g inn (i:Int) part Bs=_/\ _
  unfold Rn;simp only [zAO,zAj];rw [zAT (by omega),zAK,zAB ⟨by omega,by omega⟩];cases Du:inn.getD i false
  ·rw [zEC,zAK,zAB r1];have m1:=hP.m1;refine ⟨(part,Bs),rfl,hP.len,hP.m0,by show Bs<=((i+1:Nat):Int);omega,hP.lo,hP.isIn,hP.same,hP.con,fun v hv Gb Cr=>?_,hP.sur⟩;rcases zAa.1 hv with hv | rfl
   ·exact hP.all v hv Gb Cr
   ·rw [Du] at Cr;cases Cr
  ·have Ap:=hP.len;rw [zD2,zAC,zAB ⟨⟨by omega,by omega⟩,by omega⟩]
   by_cases h0:part.getD i 0>0
   ·rw [zAT h0,zAK,zAB r1];have m1:=hP.m1;refine ⟨(part,Bs),rfl,hP.len,hP.m0,by show Bs<=((i+1:Nat):Int);omega,hP.lo,hP.isIn,hP.same,hP.con,fun v hv Gb Cr=>?_,hP.sur⟩;rcases zAa.1 hv with hv | rfl
    ·exact hP.all v hv Gb Cr
    ·exact h0
   ·obtain ⟨l,e2,Av,hl⟩:=hN n (by omega) i hi;obtain ⟨G9,e3,h3,h4⟩:=iQ (n:=n) (inn:=inn) (x13:=(i:Int)) (m:=Bs) l part hP.len fun v hv=>((hl v).1 hv).rng G (by omega) (by omega)
    have m0:=hP.m0;have m1:=hP.m1;rw [zAE h0,zAC,zAB (A0.2 ⟨by omega,by omega⟩),e2,zAA,e3,zAA]
    dsimp only
    rw [zAB r1];exact ⟨(G9,Bs+1),rfl,hP.go G hi Du h0 hl h3 h4⟩
 ·have z: ∀ v:Nat,(List.replicate g.length (0:Int)).getD v 0=0:=fun v=>by
   rw [u8,zD7];split <;> rfl
  exact ⟨by simp,zER _,zER _,fun v _=>by rw [z];exact ⟨zER _,zER _⟩,fun v _ h=>by rw [z] at h;omega,fun u v _ _ h=>by rw [z] at h;omega,fun u v _ _ h=>by rw [z] at h;omega,fun v hv=>absurd hv (zAf v),fun m h1 h2=>by have h2:m<=0:=h2;omega⟩
theorem t8 (G:Gr g) (hI:inn.length=g.length):Ae (fun n=>parts n g inn) (PtP g inn):=(ZO G hI).mono fun r hP=>⟨hP.len,fun v hv hi=>hP.all v hv hv hi,fun u v hu hv hi=>by
 have Br:=hP.all u hu hu hi;exact ⟨hP.con u v hu hv Br,hP.same u v hu hv Br⟩⟩
def Sp (g:List (List Int)) (inn some':List Bool) (a:Int):Prop:=∃ u v:Int,u≠a/\ v≠a/\ some'.getD u.toNat false=true/\ some'.getD v.toNat false=true/\ Rc g inn a u/\ Rc g inn a v/\ ¬ Rc g (inn.set a.toNat false) u v
theorem fS {n:Nat} {a f:Int} {y3:List Int×Int} (hS:some'.length=g.length) (hy:y3.1.length=g.length) (hf:f≠0): ∀ (l:List Int),(∀ v∈l,0<=v/\ v<(g.length:Int)) ->
 ∃ b f' c,DB (Ha n some' a y3) l (.s0 false f)=some (.s0 b f',c)/\ (c=0∨c=1)/\ (b=true↔∃ v∈l,v≠a/\ some'.getD v.toNat false=true/\ y3.1.getD v.toNat 0≠f)
 | [],_=>⟨false,f,0,rfl,.inl rfl,by simp⟩
 | x::l,hl=>by
  have hx:=hl x zEF;obtain ⟨b,f',c,h1,h2,h3⟩:=fS (n:=n) (a:=a) hS hy hf l fun v hv=>hl v (zDt _ hv)
  have skip:Ha n some' a y3 x (.s0 false f)=some (.s0 false f,0) -> ¬ (x≠a/\ some'.getD x.toNat false=true/\ y3.1.getD x.toNat 0≠f) -> ∃ b f' c,DB (Ha n some' a y3) (x::l) (.s0 false f)=some (.s0 b f',c)/\ (c=0∨c=1)/\ (b=true↔∃ v∈x::l,v≠a/\ some'.getD v.toNat false=true/\ y3.1.getD v.toNat 0≠f):=by
   intro e hn;refine ⟨b,f',c,?_,h2,?_⟩
   ·unfold DB;rw [e,zAA];exact h1
   ·rw [h3];constructor
    ·rintro ⟨v,hv,h⟩;exact ⟨v,zDt _ hv,h⟩
    ·rintro ⟨v,hv,h⟩;rcases zDu.1 hv with rfl | hv
     ·exact absurd h hn
     ·exact ⟨v,hv,h⟩
  have f0:(f==0)=false:=zDr.2 hf;have U:Ha n some' a y3 x (.s0 false f)=Qr n some' a y3 x false f:=rfl;unfold Qr at U
  by_cases e1:x=a
  ·have:(x==a)=true:=zDw.2 e1;rw [this,zAK] at U;exact skip U fun h=>h.1 e1
  ·have:(x==a)=false:=zDr.2 e1;rw [this,zAC,zAB ⟨by omega,by omega⟩] at U;cases e2:some'.getD x.toNat false
   ·rw [e2,zEC,zAK] at U;exact skip U fun h=>by rw [e2] at h;cases h.2.1
   ·rw [e2,zD2,zAC,f0,zAC,zAB ⟨by omega,by omega⟩] at U
    by_cases e3:y3.1.getD x.toNat 0=f
    ·have e4:(y3.1.getD x.toNat 0 != f)=false:=by rw [e3];simp
     rw [e4,zAC] at U;exact skip U fun h=>h.2.2 e3
    ·have e4:(y3.1.getD x.toNat 0 != f)=true:=by simpa using e3
     rw [e4,zAK] at U;refine ⟨true,f,1,?_,.inr rfl,?_⟩
     ·unfold DB;rw [U,zAA];rfl
     ·exact ⟨fun _=>⟨x,zEF,e1,e2,e3⟩,fun _=>rfl⟩
theorem fT {n:Nat} {a:Int} {y3:List Int×Int} (hS:some'.length=g.length) (hy:y3.1.length=g.length): ∀ (l:List Int),(∀ v∈l,0<=v/\ v<(g.length:Int)) -> (∀ v∈l,v≠a -> y3.1.getD v.toNat 0≠0) ->
 ∃ b f' c,DB (Ha n some' a y3) l (.s0 false 0)=some (.s0 b f',c)/\ (c=0∨c=1)/\ (b=true↔∃ u∈l,∃ v∈l,u≠a/\ v≠a/\ some'.getD u.toNat false=true/\ some'.getD v.toNat false=true/\ y3.1.getD v.toNat 0≠y3.1.getD u.toNat 0)
 | [],_,_=>⟨false,0,0,rfl,.inl rfl,by simp⟩
 | x::l,hl,hz=>by
  have hx:=hl x zEF;have Ew: ∀ v∈l,0<=v/\ v<(g.length:Int):=fun v hv=>hl v (zDt _ hv)
  have skip:Ha n some' a y3 x (.s0 false 0)=some (.s0 false 0,0) -> ¬ (x≠a/\ some'.getD x.toNat false=true) -> ∃ b f' c,DB (Ha n some' a y3) (x::l) (.s0 false 0)=some (.s0 b f',c)/\ (c=0∨c=1)/\ (b=true↔∃ u∈x::l,∃ v∈x::l,u≠a/\ v≠a/\ some'.getD u.toNat false=true/\ some'.getD v.toNat false=true/\ y3.1.getD v.toNat 0≠y3.1.getD u.toNat 0):=by
   intro e hn;obtain ⟨b,f',c,h1,h2,h3⟩:=fT (n:=n) (a:=a) hS hy l Ew fun v hv=>hz v (zDt _ hv)
   refine ⟨b,f',c,?_,h2,?_⟩
   ·unfold DB;rw [e,zAA];exact h1
   ·rw [h3];constructor
    ·rintro ⟨u,hu,v,hv,h⟩;exact ⟨u,zDt _ hu,v,zDt _ hv,h⟩
    ·rintro ⟨u,hu,v,hv,h4,h5,h6,h7,h8⟩;rcases zDu.1 hu with rfl | hu
     ·exact absurd ⟨h4,h6⟩ hn
     ·rcases zDu.1 hv with rfl | hv
      ·exact absurd ⟨h5,h7⟩ hn
      ·exact ⟨u,hu,v,hv,h4,h5,h6,h7,h8⟩
  have U:Ha n some' a y3 x (.s0 false 0)=Qr n some' a y3 x false 0:=rfl;unfold Qr at U
  by_cases e1:x=a
  ·have:(x==a)=true:=zDw.2 e1;rw [this,zAK] at U;exact skip U fun h=>h.1 e1
  ·have:(x==a)=false:=zDr.2 e1;rw [this,zAC,zAB ⟨by omega,by omega⟩] at U;cases e2:some'.getD x.toNat false
   ·rw [e2,zEC,zAK] at U;exact skip U fun h=>by rw [e2] at h;cases h.2
   ·have z0:((0:Int)==0)=true:=rfl;rw [e2,zD2,zAC,z0,zAK,zAB ⟨by omega,by omega⟩] at U;obtain ⟨b,f',c,h1,h2,h3⟩:=fS (n:=n) (a:=a) hS hy (hz x zEF e1) l Ew;refine ⟨b,f',c,?_,h2,?_⟩
    ·unfold DB;rw [U,zAA];exact h1
    ·rw [h3];constructor
     ·rintro ⟨v,hv,h4,h5,h6⟩;exact ⟨x,zEF,v,zDt _ hv,e1,h4,e2,h5,h6⟩
     ·rintro ⟨u,hu,v,hv,h4,h5,h6,h7,h8⟩
      by_cases e3:y3.1.getD u.toNat 0=y3.1.getD x.toNat 0
      ·rcases zDu.1 hv with rfl | hv
       ·exact absurd e3.symm h8
       ·exact ⟨v,hv,h5,h7,fun e=>h8 (e.trans e3.symm)⟩
      ·rcases zDu.1 hu with rfl | hu
       ·exact absurd rfl e3
       ·exact ⟨u,hu,h4,h6,e3⟩
theorem pN (G:H8 g) (hI:inn.length=g.length) (hS:some'.length=g.length) {a:Nat} (ha:a<g.length) (ki:inn.getD a false=true):
 Ae (fun n=>Mr n g inn some' (a:Int)) (fun r=>r.2=0/\ (r.1=true↔Sp g inn some' (a:Int))):=by
 have hG:=G.gr.len;have L:(1000000000000:Nat)=BB:=rfl
 have hw: ∀ n,Qd n (a:Int) inn=some (inn.set a false):=fun n=>by
  unfold Qd X4 OL cS;rw [zAB ⟨by omega,trivial,⟨rfl,rfl⟩,by rw [←L];simp only [zD9];omega⟩,zAB (by simp),zAA,zEI,zAB ⟨⟨by omega,by omega⟩,by omega⟩,zAB (by simp),zAj,zAO]
 have hI':(inn.set a false).length=g.length:=by rw [zAl];exact hI
 have e: ∀ n,Mr n g inn some' (a:Int)=(JU n g [inn,some']).bind fun y1=>bif (y1 != 0) then some (false,y1) else (parts n g (inn.set a false)).bind fun y3=>(F2 n g a inn).bind fun y4=>(DB (Ha n some' a y3) y4 (.s0 false 0)).bind fun y5=>bif y5.2==0 then (match y5.1 with | .s0 b _=>some (b,0)) else bif y5.2==1 then (match y5.1 with | .s0 b _=>some (b,0)) else none:=fun n=>by
  unfold Mr fO
  congr 1
  funext y1
  rw [zAE (by omega),zAC,zAE (by omega),zAC,zAB ⟨by omega,by omega⟩,zAO,ki,zD2,zAC,hw,zAA]
 refine Ae.eq ?_ e
 refine Ae.bind (Wr G (fun x hx=>by
  rcases zDu.1 hx with rfl | hx
  ·exact hI
  ·rw [zAp.1 hx];exact hS) (by simp)) ?_
 show Ae (R:=Bool×Int) (fun n=>(parts n g (inn.set a false)).bind fun y3=>(F2 n g a inn).bind fun y4=>(DB (Ha n some' a y3) y4 (.s0 false 0)).bind fun y5=>bif y5.2==0 then (match y5.1 with | .s0 b _=>some (b,0)) else bif y5.2==1 then (match y5.1 with | .s0 b _=>some (b,0)) else none) _
 obtain ⟨N,hN⟩:=Y6 G.gr hI (s:=(a:Int)) (by omega) (by omega);refine Ae.bindU (t8 G.gr hI') ⟨N,fun n hn y3 hy=>?_⟩;obtain ⟨l,hl,Av,Pg⟩:=hN n hn;have hl:F2 n g (a:Int) inn=some l:=hl;have hr: ∀ v∈l,0<=v/\ v<(g.length:Int):=fun v hv=>((Pg v).1 hv).rng G.gr (by omega) (by omega)
 have Du: ∀ v∈l,v≠(a:Int) -> (inn.set a false).getD v.toNat false=true:=fun v hv Ak=>by
  have h1:=hr v hv;rw [u8,zEB (by omega),←u8];exact ((Pg v).1 hv).isIn (by rw [zAO];exact ki)
 obtain ⟨b,f',c,h1,h2,h3⟩:=fT (n:=n) (some':=some') (a:=(a:Int)) (y3:=y3) hS hy.1 l hr fun v hv Ak=>by
  have h1:=hr v hv;have:=hy.2.1 v.toNat (by omega) (Du v hv Ak);omega
 rw [hl,zAA,h1,zAA];refine ⟨(b,0),?_,rfl,?_⟩
 ·rcases h2 with rfl | rfl <;> rfl
 ·show b=true↔_
  rw [h3]
  have key: ∀ u v:Int,u∈l -> v∈l -> u≠a -> (y3.1.getD v.toNat 0=y3.1.getD u.toNat 0↔Rc g (inn.set a false) u v):=fun u v hu hv Ak=>by
   have h1:=hr u hu;have h2:=hr v hv;have:=hy.2.2 u.toNat v.toNat (by omega) (by omega) (Du u hu Ak)
   rwa [Int.toNat_of_nonneg h1.1,Int.toNat_of_nonneg h2.1] at this
  constructor
  ·rintro ⟨u,hu,v,hv,h4,h5,h6,h7,h8⟩;exact ⟨u,v,h4,h5,h6,h7,(Pg u).1 hu,(Pg v).1 hv,fun h=>h8 ((key u v hu hv h4).2 h)⟩
  ·rintro ⟨u,v,h4,h5,h6,h7,h8,h9,bV⟩;have hu:=(Pg u).2 h8;have hv:=(Pg v).2 h9;exact ⟨u,hu,v,hv,h4,h5,h6,h7,fun h=>bV ((key u v hu hv h4).1 h)⟩
end
end Go.Proofs.YtkjbblkieglmlaaGreatDoor
namespace Go.Proofs.YtkjbblkieglmlaaGreatDoor
abbrev zFu:=@List.countP_singleton
end Go.Proofs.YtkjbblkieglmlaaGreatDoor
namespace Go.Proofs.YtkjbblkieglmlaaGreatDoor
open Go.RowKit
def JA (c:AB) (pos:List Int) (a:Nat):Bool:=bits .andNot .i64 (BN c pos a) c.set==0
def KG (c:AB) (pos:List Int) (a:Nat):Bool:=JA c pos a||(bits .and .i64 (BN c pos a) c.set != 0)
def cnt (p:Nat -> Bool) (i:Nat):Int:=(((List.range i).countP p:Nat):Int)
theorem OK {p:Nat -> Bool} {i:Nat}:cnt p (i+1)=cnt p i+(if p i then 1 else 0):=by
 unfold cnt;rw [List.range_succ,List.countP_append,zFu];split <;> simp
theorem cQ {p:Nat -> Bool} {i:Nat}:0<=cnt p i/\ cnt p i<=i:=by
 unfold cnt;have:=zFH (p:=p) (l:=List.range i);rw [zFI] at this;omega
def To (c:AB) (pos:List Int):Bool:=!decide (cnt (JA c pos) c.cells.length>c.hi)&&!decide (cnt (KG c pos) c.cells.length<c.lo)
def ML (c:AB) (pos:List Int) (a s:Nat):Bool:=
 ((cnt (JA c pos) c.cells.length==c.hi)&&(bits .andNot .i64 (BN c pos a) c.set != 0)&&tb c.set s)||((cnt (KG c pos) c.cells.length==c.lo)&&(bits .and .i64 (BN c pos a) c.set != 0)&&!tb c.set s)
section
variable {c:AB} {k:Nat} {pos lost:List Int} {q:AA}
theorem zB9 {n:Nat} {x3 x4:Int} (W:C2 c k pos) (hl:lost.length=pos.length) (h3:x3=cnt (JA c pos) c.cells.length) (h4:x4=cnt (KG c pos) c.cells.length) (hn:c.cells.length+1<=n):
 ∃ l,If c q pos pos.length lost n (.l2 x3 x4 0 lost)=some (true,l)/\ B6 c pos lost c.cells.length (fun a s=>ML c pos a s=true) l:=by
 have lt: ∀ i,i<c.cells.length -> ((i:Nat):Int)<((c.cells.length:Nat):Int):=fun i hi=>by omega
 have T:=HE (fun n (s:List Int) i=>If c q pos pos.length lost n (.l2 x3 x4 i s)) c.cells.length 1
  (fun i s=>B6 c pos lost i (fun a s=>ML c pos a s=true) s) (fun n i s Gf hi hI=>?_) (n:=n) (s:=lost) (by omega) (B6.zero hl)
 ·obtain ⟨n3,l,Ls,_,e2,hL⟩:=T;obtain ⟨n4,rfl⟩: ∃ n4,n3=n4+1:=⟨n3-1,by omega⟩;refine ⟨l,e2.trans ?_,hL⟩
  show Tl n4 (If c q pos pos.length lost n4) c q pos pos.length lost x3 x4 (c.cells.length:Int) l=_
  unfold Tl;rw [zAE (by omega),zAC]
 ·have hc:=W.cells i hi;have hr:=W.r64 hi
  have key: ∀ l':List Int,l'.length=pos.length -> (∀ j x,tb (l'.getD j 0) x=(tb (s.getD j 0) x||(decide (j=(c.cells.getD i 0).toNat)&&(tb (pos.getD j 0) x&&ML c pos i x)))) -> B6 c pos lost (i+1) (fun a s=>ML c pos a s=true) l':=by
   intro l' h1 h2;refine hI.step h1 fun j x=>?_
   rw [h2,zDh,zAL,zAL,zAi];constructor
   ·rintro (h | ⟨rfl,h⟩)
    ·exact .inl h
    ·exact .inr ⟨rfl,h⟩
   ·rintro (h | ⟨rfl,h⟩)
    ·exact .inl h
    ·exact .inr ⟨rfl,h⟩
  obtain ⟨l1,e1,n1,f1⟩:=KJ (lost:=s) (n:=n) (ss:=c.set) (c:=c) (q:=q) hc.1 hc.2 hI.1;obtain ⟨l2,e2,n2,f2⟩:=ZX (lost:=l1) (n:=n) (c:=c) (q:=q) hc.1 hc.2 n1;obtain ⟨l3,e3,n3,f3⟩:=ZX (lost:=s) (n:=n) (c:=c) (q:=q) hc.1 hc.2 hI.1;have d0:decide ((i:Int)<((c.cells.length:Nat):Int))=true:=zAT (lt i hi);have g0:(0:Int)<=(i:Int)/\ (i:Int)<((c.cells.length:Nat):Int):=⟨by omega,lt i hi⟩
  show ∃ s',Tl n (If c q pos pos.length lost n) c q pos pos.length lost x3 x4 (i:Int) s=_/\ _
  unfold Tl;rw [d0,zAK,zAB g0];simp only [zAO];have X: ∀ x,ML c pos i x=(((x3==c.hi)&&(bits .andNot .i64 (pos.getD (c.cells.getD i 0).toNat 0) c.set != 0)&&tb c.set x)||((x4==c.lo)&&(bits .and .i64 (pos.getD (c.cells.getD i 0).toNat 0) c.set != 0)&&!tb c.set x)):=fun x=>by rw [h3,h4];rfl
  cases hA:(x3==c.hi) <;> cases hC:(x4==c.lo) <;> cases hB:(bits .andNot .i64 (pos.getD (c.cells.getD i 0).toNat 0) c.set != 0) <;> cases hE:(bits .and .i64 (pos.getD (c.cells.getD i 0).toNat 0) c.set != 0) <;>
   simp only [hA,hB,hC,hE,zD5,zEc,zFM,Bool.and_true,zEW,zEV] at X <;>
   simp only [zAK,zAC,zAB hc,e1,e2,e3,zAA,zAB hr.2]
  all_goals first
   | exact ⟨s,rfl,key s hI.1 fun j x=>by rw [X,zFM,zFM,zEW]⟩
   | exact ⟨l1,rfl,key l1 n1 fun j x=>by rw [f1,X]⟩
   | exact ⟨l3,rfl,key l3 n3 fun j x=>by rw [f3,X]⟩
   | exact ⟨l2,rfl,key l2 n2 fun j x=>by
    rw [f2,f1,X];cases tb (s.getD j 0) x <;> cases decide (j=(c.cells.getD i 0).toNat) <;> cases tb (pos.getD j 0) x <;> cases tb c.set x <;> rfl⟩
theorem zCA {n:Nat} (W:C2 c k pos) (hl:lost.length=pos.length) (hn:2*c.cells.length+3<=n):
 ∃ l,QH n c q pos pos.length lost=some (To c pos,l)/\ (To c pos=true -> B6 c pos lost c.cells.length (fun a s=>ML c pos a s=true) l):=by
 have lt: ∀ i,i<c.cells.length -> ((i:Nat):Int)<((c.cells.length:Nat):Int):=fun i hi=>by omega
 have S:=HE (fun n (s:Int×Int) i=>If c q pos pos.length lost n (.l1 s.1 s.2 i)) c.cells.length (c.cells.length+3)
  (fun i s=>s.1=cnt (JA c pos) i/\ s.2=cnt (KG c pos) i) (fun n i s _ hi hI=>?_) (n:=n) (s:=(0,0)) (by omega) ⟨rfl,rfl⟩
 ·obtain ⟨n1,⟨x3,x4⟩,GK,_,e1,h3,h4⟩:=S;obtain ⟨n2,rfl⟩: ∃ n2,n1=n2+1:=⟨n1-1,by omega⟩;have e2:QH n c q pos pos.length lost=Tm n2 (If c q pos pos.length lost n2) c q pos pos.length lost x3 x4 (c.cells.length:Int):=e1;have h3:x3=cnt (JA c pos) c.cells.length:=h3;have h4:x4=cnt (KG c pos) c.cells.length:=h4;unfold Tm at e2;rw [zAE (by omega),zAC] at e2;unfold To;rw [←h3,←h4];cases h5:decide (x3>c.hi)
  ·cases h6:decide (x4<c.lo)
   ·obtain ⟨l,e3,hL⟩:=zB9 (q:=q) (n:=n2) W hl h3 h4 (by omega);rw [h5,h6,zAC,zAC,e3] at e2;exact ⟨l,e2,fun _=>hL⟩
   ·rw [h5,h6,zAC,zAK] at e2;exact ⟨lost,e2,fun h=>by cases h⟩
  ·rw [h5,zAK] at e2;exact ⟨lost,e2,fun h=>by cases h⟩
 ·obtain ⟨x3,x4⟩:=s;obtain ⟨h3,h4⟩:=hI;simp only at h3 h4;have hc:=W.cells i hi;have hr:=W.r64 hi;have b3:=cQ (p:=JA c pos) (i:=i);have b4:=cQ (p:=KG c pos) (i:=i);have Ap:=W.len;have r3:AL (x3+1):=A0.2 ⟨by omega,by omega⟩;have r4:AL (x4+1):=A0.2 ⟨by omega,by omega⟩
  show ∃ s',Tm n (If c q pos pos.length lost n) c q pos pos.length lost x3 x4 (i:Int)=_/\ _
  unfold Tm;rw [zAT (lt i hi),zAK];simp only [zAO];rw [zAB ⟨⟨by omega,lt i hi⟩,hc⟩];have m1:(bits .andNot .i64 (pos.getD (c.cells.getD i 0).toNat 0) c.set==0)=JA c pos i:=rfl;have m2:(JA c pos i||(bits .and .i64 (pos.getD (c.cells.getD i 0).toNat 0) c.set != 0))=KG c pos i:=rfl;rw [m1];cases hm:JA c pos i
  ·rw [hm,zEV] at m2;rw [zAC,m2];cases hy:KG c pos i
   ·rw [zAC,zAB hr.2];exact ⟨(x3,x4),rfl,by rw [OK,hm];simpa using h3,by rw [OK,hy];simpa using h4⟩
   ·rw [zAK,zAB ⟨r4,hr.2⟩];exact ⟨(x3,x4+1),rfl,by rw [OK,hm];simpa using h3,by rw [OK,hy];simpa using h4⟩
  ·have hy:KG c pos i=true:=by rw [←m2,hm];rfl
   rw [zAK,zAB ⟨r3,r4,hr.2⟩];exact ⟨(x3+1,x4+1),rfl,by rw [OK,hm];simpa using h3,by rw [OK,hy];simpa using h4⟩
end
end Go.Proofs.YtkjbblkieglmlaaGreatDoor
namespace Go.Proofs.YtkjbblkieglmlaaGreatDoor
abbrev zEl:=@Nat.lt_of_not_le
end Go.Proofs.YtkjbblkieglmlaaGreatDoor
namespace Go.Proofs.YtkjbblkieglmlaaGreatDoor
open Go.RowKit
theorem YI (x:Int) (i:Nat):tb (IntKind.i64.wrap x) i=tb x i:=by unfold tb;rw [Rt]
theorem Jr {s:Nat} (hs:s<64) (i:Nat):tb (IntKind.i64.wrap (1*2 ^ s)) i=decide (s=i):=by
 rw [YI,Int.one_mul];rcases zDj i 64 with h | h
 ·have e:((2 ^ s:Nat):Int)=(2:Int) ^ s:=by simp
  rw [←e];exact oV h
 ·rw [UZ h,zAE (by omega)]
theorem HB {k:Nat} {x:Int} (h:Sm k x) (hk:k<=62) {e:Int}:e∈B8 x↔∃ s:Nat,e=(s:Int)/\ s<k/\ tb x s=true:=by
 obtain ⟨m,rfl⟩:=zE7 h.1;unfold B8 E9;simp only [zEK,zFC,zAd,zAO];constructor
 ·rintro ⟨s,⟨h1,h2⟩,rfl⟩;have h3:tb (m:Int) s=true:=by rw [K5 m s h1];exact h2
  refine ⟨s,rfl,?_,h3⟩;refine zEl fun DL=>?_
  rw [h.hi DL] at h3;cases h3
 ·rintro ⟨s,rfl,h1,h2⟩;exact ⟨s,⟨by omega,by rw [K5 m s (by omega)] at h2;exact h2⟩,rfl⟩
theorem W4 {α σ:Type} {f:α -> σ -> Option σ} (Inv:List α -> σ -> Prop): ∀ (l pre:List α) (s:σ),Inv pre s -> (∀ pre x s,x∈l -> Inv pre s -> ∃ s',f x s=some s'/\ Inv (pre++[x]) s') -> ∃ s',Bn f l s=some s'/\ Inv (pre++l) s'
 | [],pre,s,h,_=>⟨s,rfl,by rw [zFD];exact h⟩
 | x::l,pre,s,h,hs=>by
  obtain ⟨s',h1,h2⟩:=hs pre x s (.head _) h;obtain ⟨s2,h3,h4⟩:=W4 Inv l (pre++[x]) s' h2 fun pre y s hy=>hs pre y s (.tail _ hy)
  refine ⟨s2,?_,by rw [zE2] at h4;exact h4⟩;simp only [Bn];rw [h1,zAA,h3]
structure FN (q:AA) (k:Nat):Prop where
 len:k<=q.values.length
 val: ∀ s,s<k -> 0<=q.values.getD s 0/\ q.values.getD s 0<=99
def NW (q:AA) (a e:Int):Int:=if q.values.getD e.toNat 0<a then q.values.getD e.toNat 0 else a
def Nv (q:AA) (a e:Int):Int:=if q.values.getD e.toNat 0>a then q.values.getD e.toNat 0 else a
def GE (q:AA) (x:Int):Int:=(B8 x).foldl (NW q) 100
def GM (q:AA) (x:Int):Int:=(B8 x).foldl (Nv q) (-1)
section
variable {c:AB} {k:Nat} {pos lost:List Int} {q:AA}
theorem jO: ∀ (l:List Int) (a:Int),(∀ e∈l,0<=q.values.getD e.toNat 0/\ q.values.getD e.toNat 0<=99) -> 0<=a/\ a<=100 -> 0<=l.foldl (NW q) a/\ l.foldl (NW q) a<=100
 | [],_,_,h=>h
 | e::l,a,hv,h=>by
  have:=hv e (.head _);refine jO l (NW q a e) (fun e he=>hv e (.tail _ he)) ?_;unfold NW;split <;> omega
theorem kj: ∀ (l:List Int) (a:Int),(∀ e∈l,0<=q.values.getD e.toNat 0/\ q.values.getD e.toNat 0<=99) -> -1<=a/\ a<=99 -> -1<=l.foldl (Nv q) a/\ l.foldl (Nv q) a<=99
 | [],_,_,h=>h
 | e::l,a,hv,h=>by
  have:=hv e (.head _);refine kj l (Nv q a e) (fun e he=>hv e (.tail _ he)) ?_;unfold Nv;split <;> omega
theorem FN.sym (V:FN q k) (hk:k<=16) {x:Int} (h:Sm k x): ∀ e∈B8 x,(0<=e/\ e<((q.values.length:Nat):Int))/\ 0<=q.values.getD e.toNat 0/\ q.values.getD e.toNat 0<=99:=by
 intro e he;obtain ⟨s,rfl,h1,_⟩:=(HB h (zAk hk (by decide))).1 he;have:=V.len;rw [zAO];exact ⟨by omega,V.val s h1⟩
theorem FN.lo (V:FN q k) (hk:k<=16) {x:Int} (h:Sm k x):0<=GE q x/\ GE q x<=100:=jO _ _ (fun e he=>(V.sym hk h e he).2) (by decide)
theorem FN.hi (V:FN q k) (hk:k<=16) {x:Int} (h:Sm k x): -1<=GM q x/\ GM q x<=99:=kj _ _ (fun e he=>(V.sym hk h e he).2) (by decide)
theorem mL {n ln:Nat}: ∀ (l:List Int) (a b:Int),(∀ e∈l,0<=e/\ e<((q.values.length:Nat):Int)) -> Bn (TV n c q pos ln lost) l (.s0 a b)=some (.s0 (l.foldl (NW q) a) (l.foldl (Nv q) b))
 | [],_,_,_=>rfl
 | e::l,a,b,h=>by
  have e1:TV n c q pos ln lost e (.s0 a b)=some (.s0 (NW q a e) (Nv q b e)):=by
   unfold TV mN mO
   dsimp only
   rw [zAB (h e (.head _))];rfl
  simp only [Bn];rw [e1,zAA,mL l _ _ fun e he=>h e (.tail _ he)];rfl
theorem mK {n ln:Nat} (V:FN q k) (hk:k<=16) {x:Int} (h:Sm k x):TX n x c q pos ln lost=some (GE q x,GM q x,lost):=by
 have lU:=ND (k:=k) (zAk hk (by decide));have h2:=h.2;unfold TX mM;rw [zAB ⟨h.1,by omega⟩,mL (B8 x) 100 (-1) fun e he=>(V.sym hk h e he).1];rfl
def EN (f:Nat -> Int):Nat -> Int
 | 0=>0
 | i+1=>EN f i+f i
theorem Ok {f:Nat -> Int}: ∀ (i:Nat),(∀ a,a<i -> -1<=f a/\ f a<=100) -> -(i:Int)<=EN f i/\ EN f i<=100*(i:Int)
 | 0,_=>by simp [EN]
 | i+1,h=>by
  have h1:=Ok i fun a ha=>h a (by omega)
  have h2:=h i (by omega);simp only [EN];omega
def Lc (q:AA) (c:AB) (pos:List Int):Int:=EN (fun a=>GE q (BN c pos a)) c.cells.length
def Lx (q:AA) (c:AB) (pos:List Int):Int:=EN (fun a=>GM q (BN c pos a)) c.cells.length
def Qn (q:AA) (c:AB) (pos:List Int):Bool:=!decide (Lc q c pos>c.hi)&&!decide (Lx q c pos<c.lo)
def K6 (q:AA) (c:AB) (pos:List Int) (a s:Nat):Bool:=
 decide (Lc q c pos-GE q (BN c pos a)+q.values.getD s 0>c.hi)||decide (Lx q c pos-GM q (BN c pos a)+q.values.getD s 0<c.lo)
theorem jK {T:Type} {n:Nat} (W:C2 c k pos) {i:Nat} (hi:i<c.cells.length) (hl:lost.length=pos.length) (mk:List Int -> T) (f:Int -> T -> Option T) (X:Nat -> Bool)
 (hf: ∀ (s:Nat) (l:List Int),s<k -> l.length=pos.length -> f (s:Int) (mk l)=bif X s then (DT n (c.cells.getD i 0) (IntKind.i64.wrap (1*2 ^ s)) c q pos pos.length l).map mk else some (mk l)):
 ∃ l',Bn f (B8 (BN c pos i)) (mk lost)=some (mk l')/\ l'.length=pos.length/\
  ∀ j s,tb (l'.getD j 0) s=true↔tb (lost.getD j 0) s=true∨((c.cells.getD i 0).toNat=j/\ tb (BN c pos i) s=true/\ X s=true):=by
 have hc:=W.cells i hi;have CU:=W.at hi;have hk:=W.k
 have key:=W4 (f:=f)
  (fun pre s=>∃ l',s=mk l'/\ l'.length=pos.length/\ ∀ j s,tb (l'.getD j 0) s=true↔tb (lost.getD j 0) s=true∨((c.cells.getD i 0).toNat=j/\ tb (BN c pos i) s=true/\ (s:Int)∈pre/\ X s=true))
  (B8 (BN c pos i)) [] (mk lost) ⟨lost,rfl,hl,fun j s=>⟨.inl,fun h=>h.elim id fun h=>(by cases h.2.2.1)⟩⟩ ?_
 ·obtain ⟨_,h1,l',rfl,h2,h3⟩:=key;refine ⟨l',h1,h2,fun j s=>?_⟩;rw [h3,zEI];constructor
  ·rintro (h | ⟨a1,a2,_,a3⟩)
   ·exact .inl h
   ·exact .inr ⟨a1,a2,a3⟩
  ·rintro (h | ⟨a1,a2,a3⟩)
   ·exact .inl h
   ·refine .inr ⟨a1,a2,(HB CU (zAk hk (by decide))).2 ⟨s,rfl,zEl fun DL=>?_,a2⟩,a3⟩;rw [CU.hi DL] at a2;cases a2
 ·rintro pre e _ he ⟨l',rfl,h2,h3⟩;obtain ⟨s,rfl,hs,hbit⟩:=(HB CU (zAk hk (by decide))).1 he;rw [hf s l' hs h2];cases hx:X s
  ·rw [zAC];refine ⟨_,rfl,l',rfl,h2,fun j x=>?_⟩;rw [h3];constructor
   ·rintro (h | ⟨a1,a2,a3,a4⟩)
    ·exact .inl h
    ·exact .inr ⟨a1,a2,zDp _ a3,a4⟩
   ·rintro (h | ⟨a1,a2,a3,a4⟩)
    ·exact .inl h
    ·rcases zEA.1 a3 with a3 | a3
     ·exact .inr ⟨a1,a2,a3,a4⟩
     ·have:x=s:=by have:=zAp.1 a3;omega
      subst this;rw [hx] at a4;cases a4
  ·obtain ⟨l2,e2,n2,f2⟩:=KJ (lost:=l') (n:=n) (ss:=IntKind.i64.wrap (1*2 ^ s)) (c:=c) (q:=q) hc.1 hc.2 h2;rw [zAK,e2,zBV];refine ⟨_,rfl,l2,rfl,n2,fun j x=>?_⟩;rw [f2,zDh,zAL,zAL,zAi,h3,Jr (by omega),zAi];constructor
   ·rintro ((h | ⟨a1,a2,a3,a4⟩) | ⟨rfl,a2,rfl⟩)
    ·exact .inl h
    ·exact .inr ⟨a1,a2,zDp _ a3,a4⟩
    ·exact .inr ⟨rfl,a2,zD3 _ (.head _),hx⟩
   ·rintro (h | ⟨a1,a2,a3,a4⟩)
    ·exact .inl (.inl h)
    ·rcases zEA.1 a3 with a3 | a3
     ·exact .inl (.inr ⟨a1,a2,a3,a4⟩)
     ·have:x=s:=by have:=zAp.1 a3;omega
      subst this;subst a1;exact .inr ⟨rfl,a2,rfl⟩
theorem o9 {n:Nat} (W:C2 c k pos) (V:FN q k) {i:Nat} (hi:i<c.cells.length) {low high:Int} (WY:low=Lc q c pos) (km:high=Lx q c pos) (hl:lost.length=pos.length):
 ∃ l',Bn (Ug n c (i:Int) q pos pos.length low high (GE q (BN c pos i),GM q (BN c pos i),lost)) (B8 (BN c pos i)) (.s0 lost)=some (.s0 l')/\ l'.length=pos.length/\
  ∀ j s,tb (l'.getD j 0) s=true↔tb (lost.getD j 0) s=true∨((c.cells.getD i 0).toNat=j/\ tb (BN c pos i) s=true/\ K6 q c pos i s=true):=by
 have hc:=W.cells i hi;have CU:=W.at hi;have hk:=W.k;have Ap:=W.len;have bl:=V.lo hk CU;have bh:=V.hi hk CU;have tl:=Ok (f:=fun a=>GE q (BN c pos a)) c.cells.length fun a ha=>by have:=V.lo hk (W.at ha);omega
 have th:=Ok (f:=fun a=>GM q (BN c pos a)) c.cells.length fun a ha=>by have:=V.hi hk (W.at ha);omega
 have tl: -(c.cells.length:Int)<=low/\ low<=100*(c.cells.length:Int):=by rw [WY];exact tl
 have th: -(c.cells.length:Int)<=high/\ high<=100*(c.cells.length:Int):=by rw [km];exact th
 refine jK (n:=n) (q:=q) W hi hl Jv.s0 _ (K6 q c pos i) fun s l hs hl=>?_
 have hv:=V.val s hs;have Gb:=V.len;have r1:AL (low-GE q (BN c pos i)):=A0.2 ⟨by omega,by omega⟩;have r2:AL (low-GE q (BN c pos i)+q.values.getD s 0):=A0.2 ⟨by omega,by omega⟩;have r3:AL (high-GM q (BN c pos i)):=A0.2 ⟨by omega,by omega⟩;have r4:AL (high-GM q (BN c pos i)+q.values.getD s 0):=A0.2 ⟨by omega,by omega⟩;have g1:(0:Int)<=(s:Int)/\ (s:Int)<((q.values.length:Nat):Int):=by omega
 have g2:(0:Int)<=(s:Int)/\ (s:Int)<=((IntKind.i64.bits:Nat):Int):=⟨by omega,by show (s:Int)<=64;omega⟩;obtain ⟨l2,e2,_,_⟩:=KJ (lost:=l) (n:=n) (ss:=IntKind.i64.wrap (1*2 ^ s)) (c:=c) (q:=q) hc.1 hc.2 hl;have X:K6 q c pos i s=(decide (low-GE q (BN c pos i)+q.values.getD s 0>c.hi)||decide (high-GM q (BN c pos i)+q.values.getD s 0<c.lo)):=by rw [WY,km];rfl
 rw [X];unfold Ug fF Uf
 dsimp only
 simp only [zAO];rw [zAB ⟨g1,r1,r2⟩];cases hA:decide (low-GE q (BN c pos i)+q.values.getD s 0>c.hi)
 ·rw [zAC,zAB ⟨r3,r4⟩,zEV];cases hB:decide (high-GM q (BN c pos i)+q.values.getD s 0<c.lo)
  ·rfl
  ·rw [zAK,zAK,zAB g2,e2];rfl
 ·rw [zAK,Bool.true_or,zAK,zAB g2,e2];rfl
theorem ov {n:Nat} (W:C2 c k pos) (V:FN q k) (hl:lost.length=pos.length) (hn:c.cells.length+1<=n):
 ∃ l,IA c q pos pos.length lost n (.l2 0 lost (Lc q c pos) (Lx q c pos))=some (true,l)/\ B6 c pos lost c.cells.length (fun a s=>K6 q c pos a s=true) l:=by
 have lt: ∀ i,i<c.cells.length -> ((i:Nat):Int)<((c.cells.length:Nat):Int):=fun i hi=>by omega
 have T:=HE (fun n (s:List Int) i=>IA c q pos pos.length lost n (.l2 i s (Lc q c pos) (Lx q c pos))) c.cells.length 1
  (fun i s=>B6 c pos lost i (fun a s=>K6 q c pos a s=true) s) (fun n i s Gf hi hI=>?_) (n:=n) (s:=lost) (by omega) (B6.zero hl)
 ·obtain ⟨n3,l,Ls,_,e2,hL⟩:=T;obtain ⟨n4,rfl⟩: ∃ n4,n3=n4+1:=⟨n3-1,by omega⟩;refine ⟨l,e2.trans ?_,hL⟩
  show Qk n4 (IA c q pos pos.length lost n4) c q pos pos.length lost (c.cells.length:Int) l _ _=_
  unfold Qk;rw [zAE (by omega),zAC]
 ·have hc:=W.cells i hi;have hr:=W.r64 hi;have CU:=W.at hi;have lU:=ND (k:=k) (zAk W.k (by decide));have Hw:=CU.2;obtain ⟨l',e1,n1,f1⟩:=o9 (n:=n) W V hi rfl rfl hI.1
  show ∃ s',Qk n (IA c q pos pos.length lost n) c q pos pos.length lost (i:Int) s _ _=_/\ _
  unfold Qk;rw [zAT (lt i hi),zAK];simp only [zAO];have sa:pos.getD (c.cells.getD i 0).toNat 0=BN c pos i:=rfl;rw [zAB ⟨⟨by omega,lt i hi⟩,hc⟩,sa,mK V W.k CU,zAA,zAB ⟨CU.1,by show BN c pos i<_;omega⟩];refine ⟨l',?_,hI.step n1 f1⟩;refine (congrArg (fun z=>Option.bind z _) e1).trans ?_;rw [zAA];simp only;rw [zAB hr.2]
theorem ow {n:Nat} (W:C2 c k pos) (V:FN q k) (hl:lost.length=pos.length) (hn:2*c.cells.length+3<=n):
 ∃ l,Oq n c q pos pos.length lost=some (Qn q c pos,l)/\ (Qn q c pos=true -> B6 c pos lost c.cells.length (fun a s=>K6 q c pos a s=true) l):=by
 have lt: ∀ i,i<c.cells.length -> ((i:Nat):Int)<((c.cells.length:Nat):Int):=fun i hi=>by omega
 have S:=HE (fun n (s:List Int×Int×Int) i=>IA c q pos pos.length lost n (.l1 i s.1 s.2.1 s.2.2)) c.cells.length (c.cells.length+3)
  (fun i s=>s.1=lost/\ s.2.1=EN (fun a=>GE q (BN c pos a)) i/\ s.2.2=EN (fun a=>GM q (BN c pos a)) i) (fun n i s _ hi hI=>?_) (n:=n) (s:=(lost,0,0)) (by omega) ⟨rfl,rfl,rfl⟩
 ·obtain ⟨n1,⟨l0,x3,x4⟩,GK,_,e1,h0,h3,h4⟩:=S;obtain ⟨n2,rfl⟩: ∃ n2,n1=n2+1:=⟨n1-1,by omega⟩;obtain rfl:l0=lost:=h0;obtain rfl:x3=Lc q c pos:=h3;obtain rfl:x4=Lx q c pos:=h4;have e2:Oq n c q pos pos.length l0=Ql n2 (IA c q pos pos.length l0 n2) c q pos pos.length l0 (c.cells.length:Int) l0 (Lc q c pos) (Lx q c pos):=e1;unfold Ql at e2;rw [zAE (by omega),zAC] at e2;unfold Qn;cases h5:decide (Lc q c pos>c.hi)
  ·cases h6:decide (Lx q c pos<c.lo)
   ·obtain ⟨l,e3,hL⟩:=ov (n:=n2) W V hl (by omega);rw [h5,h6,zAC,zAC,e3] at e2;exact ⟨l,e2,fun _=>hL⟩
   ·rw [h5,h6,zAC,zAK] at e2;exact ⟨l0,e2,fun h=>by cases h⟩
  ·rw [h5,zAK] at e2;exact ⟨l0,e2,fun h=>by cases h⟩
 ·obtain ⟨l0,x3,x4⟩:=s;obtain ⟨h0,h3,h4⟩:=hI;simp only at h0 h3 h4;have hc:=W.cells i hi;have hr:=W.r64 hi;have CU:=W.at hi;have b3:=Ok (f:=fun a=>GE q (BN c pos a)) i fun a ha=>by have:=V.lo W.k (W.at (Nat.lt_trans ha hi));omega
  have b4:=Ok (f:=fun a=>GM q (BN c pos a)) i fun a ha=>by have:=V.hi W.k (W.at (Nat.lt_trans ha hi));omega
  have bl:=V.lo W.k CU;have bh:=V.hi W.k CU;have Ap:=W.len;rw [←h3] at b3;rw [←h4] at b4;have r3:AL (x3+GE q (BN c pos i)):=A0.2 ⟨by omega,by omega⟩;have r4:AL (x4+GM q (BN c pos i)):=A0.2 ⟨by omega,by omega⟩
  show ∃ s',Ql n (IA c q pos pos.length lost n) c q pos pos.length lost (i:Int) l0 x3 x4=_/\ _
  unfold Ql;rw [zAT (lt i hi),zAK];simp only [zAO];have sa:pos.getD (c.cells.getD i 0).toNat 0=BN c pos i:=rfl;rw [zAB ⟨⟨by omega,lt i hi⟩,hc⟩,sa,mK V W.k CU,zAA,zAB ⟨r3,r4,hr.2⟩];exact ⟨(l0,x3+GE q (BN c pos i),x4+GM q (BN c pos i)),rfl,h0,by simp only [EN];rw [h3],by simp only [EN];rw [h4]⟩
end
end Go.Proofs.YtkjbblkieglmlaaGreatDoor
namespace Go.Proofs.YtkjbblkieglmlaaGreatDoor
open Go.RowKit
set_option maxRecDepth 100000
set_option maxHeartbeats 40000000
def eU:ST:=.rd 0 (.rd 1 (.rd 3 (.rd 4 (.ef 2 (.ef 5 (.ef 6 (.ef 7 (.ef 8 (.ef 9 (.fin [0,1,2,3] [1,3,4,5,58,91,92,104,148]) (.no)) (.no)) (.no)) (.ef 7 (.ef 6 (.ef 8 (.ef 9 (.fin [0,1,3,2] [1,3,4,5,58,91,92,104,148]) (.no)) (.no)) (.no)) (.no))) (.ef 6 (.ef 5 (.ef 7 (.ef 8 (.ef 9 (.fin [0,2,1,3] [1,3,4,5,58,91,92,104,148]) (.no)) (.no)) (.no)) (.ef 7 (.ef 5 (.ef 8 (.ef 9 (.fin [0,3,1,2] [1,3,4,5,58,91,92,104,148]) (.no)) (.no)) (.ef 8 (.ef 5 (.ef 9 (.fin [0,3,1,2] [1,3,4,5,58,91,92,104,148]) (.no)) (.no)) (.no))) (.no))) (.ef 7 (.ef 5 (.ef 6 (.ef 8 (.ef 9 (.fin [0,2,3,1] [1,3,4,5,58,91,92,104,148]) (.no)) (.no)) (.no)) (.ef 6 (.ef 5 (.ef 8 (.ef 9 (.fin [0,3,2,1] [1,3,4,5,58,91,92,104,148]) (.no)) (.no)) (.ef 8 (.ef 5 (.ef 9 (.fin [0,3,2,1] [1,3,4,5,58,91,92,104,148]) (.no)) (.no)) (.no))) (.no))) (.no)))) (.ef 5 (.ef 2 (.ef 6 (.ef 7 (.ef 8 (.ef 9 (.fin [1,0,2,3] [1,3,4,5,58,91,92,104,148]) (.no)) (.no)) (.no)) (.ef 7 (.ef 6 (.ef 8 (.ef 9 (.fin [1,0,3,2] [1,3,4,5,58,91,92,104,148]) (.no)) (.no)) (.no)) (.no))) (.ef 6 (.ef 2 (.ef 7 (.ef 8 (.ef 9 (.fin [2,0,1,3] [1,3,4,5,58,91,92,104,148]) (.no)) (.no)) (.no)) (.ef 7 (.ef 2 (.ef 8 (.ef 9 (.fin [3,0,1,2] [1,3,4,5,58,91,92,104,148]) (.no)) (.no)) (.no)) (.no))) (.ef 7 (.ef 2 (.ef 6 (.ef 8 (.ef 9 (.fin [2,0,3,1] [1,3,4,5,58,91,92,104,148]) (.no)) (.no)) (.no)) (.ef 6 (.ef 2 (.ef 8 (.ef 9 (.fin [3,0,2,1] [1,3,4,5,58,91,92,104,148]) (.no)) (.no)) (.no)) (.no))) (.no)))) (.ef 6 (.ef 2 (.ef 5 (.ef 7 (.ef 8 (.ef 9 (.fin [1,2,0,3] [1,3,4,5,58,91,92,104,148]) (.no)) (.no)) (.no)) (.ef 7 (.ef 5 (.ef 8 (.ef 9 (.fin [1,3,0,2] [1,3,4,5,58,91,92,104,148]) (.no)) (.no)) (.ef 8 (.ef 5 (.ef 9 (.fin [1,3,0,2] [1,3,4,5,58,91,92,104,148]) (.no)) (.no)) (.no))) (.no))) (.ef 5 (.ef 2 (.ef 7 (.ef 8 (.ef 9 (.fin [2,1,0,3] [1,3,4,5,58,91,92,104,148]) (.no)) (.no)) (.no)) (.ef 7 (.ef 2 (.ef 8 (.ef 9 (.fin [3,1,0,2] [1,3,4,5,58,91,92,104,148]) (.no)) (.no)) (.no)) (.no))) (.ef 7 (.ef 2 (.ef 5 (.ef 8 (.ef 9 (.fin [2,3,0,1] [1,3,4,5,58,91,92,104,148]) (.no)) (.no)) (.ef 8 (.ef 5 (.ef 9 (.fin [2,3,0,1] [1,3,4,5,58,91,92,104,148]) (.no)) (.no)) (.no))) (.ef 5 (.ef 2 (.ef 8 (.ef 9 (.fin [3,2,0,1] [1,3,4,5,58,91,92,104,148]) (.no)) (.no)) (.no)) (.no))) (.no)))) (.ef 7 (.ef 2 (.ef 5 (.ef 6 (.ef 8 (.ef 9 (.fin [1,2,3,0] [1,3,4,5,58,91,92,104,148]) (.no)) (.no)) (.no)) (.ef 6 (.ef 5 (.ef 8 (.ef 9 (.fin [1,3,2,0] [1,3,4,5,58,91,92,104,148]) (.no)) (.no)) (.ef 8 (.ef 5 (.ef 9 (.fin [1,3,2,0] [1,3,4,5,58,91,92,104,148]) (.no)) (.no)) (.no))) (.no))) (.ef 5 (.ef 2 (.ef 6 (.ef 8 (.ef 9 (.fin [2,1,3,0] [1,3,4,5,58,91,92,104,148]) (.no)) (.no)) (.no)) (.ef 6 (.ef 2 (.ef 8 (.ef 9 (.fin [3,1,2,0] [1,3,4,5,58,91,92,104,148]) (.no)) (.no)) (.no)) (.no))) (.ef 6 (.ef 2 (.ef 5 (.ef 8 (.ef 9 (.fin [2,3,1,0] [1,3,4,5,58,91,92,104,148]) (.no)) (.no)) (.ef 8 (.ef 5 (.ef 9 (.fin [2,3,1,0] [1,3,4,5,58,91,92,104,148]) (.no)) (.no)) (.no))) (.ef 5 (.ef 2 (.ef 8 (.ef 9 (.fin [3,2,1,0] [1,3,4,5,58,91,92,104,148]) (.no)) (.no)) (.no)) (.no))) (.no)))) (.no))))))))
theorem qb:Bq (Ag Tryz.f135 2) [2,5,6,7,8] eU:=by unfold Bq;kernel_rfl
def eS:ST:=.rd 0 (.rd 1 (.rd 2 (.rd 3 (.ef 4 (.rd 5 (.ef 6 (.fin [] [1,4,5,58,91,92,104,148]) (.no))) (.no)))))
theorem qY:Bq (Ag Tryz.f135 3) [4] eS:=by unfold Bq;kernel_rfl
theorem qc:Ar (Ag Tryz.f135 12) [] (List.range 11) [11]:=by unfold Ar;kernel_rfl
theorem qa:Ar (Ag Tryz.f135 22) [] (List.range 9) [9]:=by unfold Ar;kernel_rfl
theorem qZ:Ar (Ag Tryz.f135 26) [([0,1,2,3,4,5,6],7)] [] []:=by unfold Ar;kernel_rfl
def eQ:ST:=.rd 0 (.rd 1 (.rd 2 (.rd 3 (.ef 4 (.fin [] [2]) (.no)))))
theorem gD:Bq (Ag Tryz.f135 30) [] eQ:=by unfold Bq;kernel_rfl
def EO:Bi:=fun i=>match i with
 | 2=>.tre [2,5,6,7,8] eU
 | 3=>.tre [4] eS
 | 12=>.ord [] (List.range 11) [11]
 | 22=>.ord [] (List.range 9) [9]
 | 26=>.ord [([0,1,2,3,4,5,6],7)] [] []
 | 30=>.tre [] eQ
 | _=>.no
def Ck (c:AB) (q:AA) (pos:List Int) (ln:Nat) (lost:List Int):St:=⟨(AG 178 [(1,.ref 2 0),(3,.i (c.cells.length:Int)),(4,.ref 5 0),(5,.ref 6 0)]),([some (.cells (AJ c++AC q++[.ints pos,.msl 1 1 0 ln])),some (.ints lost),some (.cells [.ref 0 0]),some (.ints (List.replicate ((((c.cells.length:Int)+1)).toNat) (0:Int))),some (.ints (List.replicate ((((c.cells.length:Int)+1)).toNat) (0:Int))),some (.cells [.msl 3 1 0 ((((c.cells.length:Int)+1)).toNat)]),some (.cells [.msl 4 1 0 ((((c.cells.length:Int)+1)).toNat)])]:DH)⟩
def d6 (c:AB) (q:AA) (pos:List Int) (ln:Nat) (lost:List Int):St:=⟨(AG 178 [(1,.ref 2 0),(4,.ref 5 0),(5,.ref 6 0)]),([some (.cells (AJ c++AC q++[.ints pos,.msl 1 1 0 ln])),some (.ints lost),some (.cells [.ref 0 0]),some (.ints ((List.replicate ((((c.cells.length:Int)+1)).toNat) (0:Int)).set (0+0) (-1))),some (.ints ((List.replicate ((((c.cells.length:Int)+1)).toNat) (0:Int)).set (0+c.cells.length) 100)),some (.cells [.msl 3 1 0 ((((c.cells.length:Int)+1)).toNat)]),some (.cells [.msl 4 1 0 ((((c.cells.length:Int)+1)).toNat)])]:DH)⟩
def yw (c:AB) (q:AA) (pos:List Int) (ln:Nat) (lost o4:List Int) (BV:Int):DH:=[some (.cells (AJ c++AC q++[.ints pos,.msl 1 1 0 ln])),some (.ints lost),some (.cells [.ref 0 0]),some (.cells [.msl 4 1 0 ((((c.cells.length:Int)+1)).toNat)]),some (.ints (o4.set (0+(((BV+1)).toNat)) 100)),some (.cells [.msl 6 1 0 ((((c.cells.length:Int)+1)).toNat)]),some (.ints ((List.replicate ((((c.cells.length:Int)+1)).toNat) (0:Int)).set (0+c.cells.length) 100)),some (.cells [.i BV])]
def yu (c:AB) (q:AA) (pos:List Int) (ln:Nat) (lost:List Int) (BV:Int) (o4:List Int):DH:=[some (.cells (AJ c++AC q++[.ints pos,.msl 1 1 0 ln])),some (.ints lost),some (.cells [.ref 0 0]),some (.cells [.msl 7 1 0 ((((c.cells.length:Int)+1)).toNat)]),some (.cells [.msl 8 1 0 ((((c.cells.length:Int)+1)).toNat)]),some (.cells [.i BV]),some (.iter ((B8 (pos.getD ((c.cells.getD ((BV).toNat) 0).toNat) 0)).map BQ)),some (.ints (o4.set (0+(((BV+1)).toNat)) 100)),some (.ints ((List.replicate ((((c.cells.length:Int)+1)).toNat) (0:Int)).set (0+c.cells.length) 100))]
def yt (c:AB) (q:AA) (pos:List Int) (ln:Nat) (lost o4:List Int):DH:=[some (.cells (AJ c++AC q++[.ints pos,.msl 1 1 0 ln])),some (.ints lost),some (.cells [.ref 0 0]),some (.cells [.msl 4 1 0 ((((c.cells.length:Int)+1)).toNat)]),some (.ints o4),some (.cells [.msl 6 1 0 ((((c.cells.length:Int)+1)).toNat)]),some (.ints ((List.replicate ((((c.cells.length:Int)+1)).toNat) (0:Int)).set (0+c.cells.length) 100))]
def yq (c:AB) (q:AA) (pos:List Int) (ln:Nat) (lost:List Int) (y1:List (Int×Int)) (o4:List Int):DH:=[some (.cells (AJ c++AC q++[.ints pos,.msl 1 1 0 ln])),some (.ints lost),some (.cells [.ref 0 0]),some (.cells [.msl 6 1 0 ((((c.cells.length:Int)+1)).toNat)]),some (.cells [.msl 7 1 0 ((((c.cells.length:Int)+1)).toNat)]),some (.iter ((y1).map OD)),some (.ints o4),some (.ints ((List.replicate ((((c.cells.length:Int)+1)).toNat) (0:Int)).set (0+c.cells.length) 100))]
def yp (c:AB) (q:AA) (pos:List Int) (ln:Nat) (o1 o4 o6:List Int) (BI:Int):DH:=[some (.cells (AJ c++AC q++[.ints pos,.msl 1 1 0 ln])),some (.ints o1),some (.cells [.ref 0 0]),some (.cells [.msl 4 1 0 ((((c.cells.length:Int)+1)).toNat)]),some (.ints o4),some (.cells [.msl 6 1 0 ((((c.cells.length:Int)+1)).toNat)]),some (.ints o6),some (.cells [.i BI]),some (.cells [.i (c.cells.getD ((BI).toNat) 0)])]
def yo (c:AB) (q:AA) (pos:List Int) (ln:Nat) (o1:List Int) (BI:Int) (o4 o6:List Int):DH:=[some (.cells (AJ c++AC q++[.ints pos,.msl 1 1 0 ln])),some (.ints o1),some (.cells [.ref 0 0]),some (.cells [.msl 8 1 0 ((((c.cells.length:Int)+1)).toNat)]),some (.cells [.msl 9 1 0 ((((c.cells.length:Int)+1)).toNat)]),some (.cells [.i BI]),some (.cells [.i (c.cells.getD ((BI).toNat) 0)]),some (.iter ((B8 (pos.getD ((c.cells.getD ((BI).toNat) 0).toNat) 0)).map BQ)),some (.ints o4),some (.ints o6)]
def yn (c:AB) (q:AA) (pos:List Int) (ln:Nat) (lost:List Int) (BV:Int) (FV:List Int):DH:=[some (.cells (AJ c++AC q++[.ints pos,.msl 1 1 0 ln])),some (.ints lost),some (.cells [.ref 0 0]),some (.cells [.msl 7 1 0 ((((c.cells.length:Int)+1)).toNat)]),some (.cells [.msl 8 1 0 ((((c.cells.length:Int)+1)).toNat)]),some (.cells [.i BV]),none,some (.ints FV),some (.ints ((List.replicate ((((c.cells.length:Int)+1)).toNat) (0:Int)).set (0+c.cells.length) 100))]
def ym (c:AB) (q:AA) (pos:List Int) (ln:Nat) (lost o4 FB:List Int) (BZ:Int×Int):DH:=[some (.cells (AJ c++AC q++[.ints pos,.msl 1 1 0 ln])),some (.ints lost),some (.cells [.ref 0 0]),some (.cells [.msl 6 1 0 ((((c.cells.length:Int)+1)).toNat)]),some (.cells [.msl 7 1 0 ((((c.cells.length:Int)+1)).toNat)]),none,some (.ints o4),some (.ints FB),some (.cells [.i BZ.1])]
def zB (c:AB) (q:AA) (pos:List Int) (ln:Nat) (lost o4 FB:List Int) (BZ:Int×Int):DH:=[some (.cells (AJ c++AC q++[.ints pos,.msl 1 1 0 ln])),some (.ints lost),some (.cells [.ref 0 0]),some (.cells [.msl 6 1 0 ((((c.cells.length:Int)+1)).toNat)]),some (.cells [.msl 7 1 0 ((((c.cells.length:Int)+1)).toNat)]),none,some (.ints o4),some (.ints (FB.set (0+((BZ.1).toNat)) (-1))),some (.cells [.i BZ.1])]
def zA (c:AB) (q:AA) (pos:List Int) (ln:Nat) (lost:List Int) (BZ:Int×Int) (o4 FB:List Int):DH:=[some (.cells (AJ c++AC q++[.ints pos,.msl 1 1 0 ln])),some (.ints lost),some (.cells [.ref 0 0]),some (.cells [.msl 8 1 0 ((((c.cells.length:Int)+1)).toNat)]),some (.cells [.msl 9 1 0 ((((c.cells.length:Int)+1)).toNat)]),none,some (.cells [.i BZ.1]),some (.iter ((B8 (pos.getD ((BZ.2).toNat) 0)).map BQ)),some (.ints o4),some (.ints (FB.set (0+((BZ.1).toNat)) (-1)))]
def am (c:AB) (q:AA) (pos:List Int) (ln:Nat) (GA:List Int) (BI:Int) (o4 o6:List Int):DH:=[some (.cells (AJ c++AC q++[.ints pos,.msl 1 1 0 ln])),some (.ints GA),some (.cells [.ref 0 0]),some (.cells [.msl 8 1 0 ((((c.cells.length:Int)+1)).toNat)]),some (.cells [.msl 9 1 0 ((((c.cells.length:Int)+1)).toNat)]),some (.cells [.i BI]),some (.cells [.i (c.cells.getD ((BI).toNat) 0)]),none,some (.ints o4),some (.ints o6)]
def UV (c:AB) (q:AA) (pos:List Int) (ln:Nat) (Ih:(List Int)) (BI:Int) (o4 o6:List Int):St:=⟨(AG 178 []),([some (.cells (AJ c++AC q++[.ints pos,.msl 1 1 0 ln])),some (.ints Ih),some (.cells [.ref 0 0]),some (.cells [.msl 8 1 0 ((((c.cells.length:Int)+1)).toNat)]),some (.cells [.msl 9 1 0 ((((c.cells.length:Int)+1)).toNat)]),some (.cells [.i BI]),some (.cells [.i (c.cells.getD ((BI).toNat) 0)]),none,some (.ints o4),some (.ints o6)]:DH)⟩
def yz (c:AB) (q:AA) (pos:List Int) (ln:Nat) (lost:List Int) (BZ:Int×Int) (o4 FW:List Int):DH:=[some (.cells (AJ c++AC q++[.ints pos,.msl 1 1 0 ln])),some (.ints lost),some (.cells [.ref 0 0]),some (.cells [.msl 8 1 0 ((((c.cells.length:Int)+1)).toNat)]),some (.cells [.msl 9 1 0 ((((c.cells.length:Int)+1)).toNat)]),none,some (.cells [.i BZ.1]),none,some (.ints o4),some (.ints FW)]
inductive LO where
 | s0 (FW:List Int)
def gZ (c:AB) (q:AA) (pos:List Int) (ln:Nat) (lost:List Int) (BZ:Int×Int) (o4:List Int):LO -> DH
 | .s0 FW=>[some (.cells (AJ c++AC q++[.ints pos,.msl 1 1 0 ln])),some (.ints lost),some (.cells [.ref 0 0]),some (.cells [.msl 8 1 0 ((((c.cells.length:Int)+1)).toNat)]),some (.cells [.msl 9 1 0 ((((c.cells.length:Int)+1)).toNat)]),none,some (.cells [.i BZ.1]),none,some (.ints o4),some (.ints FW)]
def U5 (n:Nat) (c:AB) (q:AA) (pos:List Int) (ln:Nat) (lost:List Int) (BZ:Int×Int) (o4:List Int) (Gm:Int) (FW:List Int):Option LO:=
 if (0<=Gm/\ Gm<(q.values.length:Int))/\ AL (BZ.1+1)/\ (0<=(BZ.1+1)/\ (BZ.1+1)<(((((c.cells.length:Int)+1)).toNat:Nat):Int))/\ 0+(((BZ.1+1)).toNat)<FW.length then
  bif (decide ((q.values.getD ((Gm).toNat) 0)<(FW.getD (0+(((BZ.1+1)).toNat)) 0))) then
   if (0<=BZ.1/\ BZ.1<(((((c.cells.length:Int)+1)).toNat:Nat):Int))/\ 0+((BZ.1).toNat)<FW.length then
    some (.s0 (FW.set (0+((BZ.1).toNat)) (if (q.values.getD ((Gm).toNat) 0)>(FW.getD (0+((BZ.1).toNat)) 0) then (q.values.getD ((Gm).toNat) 0) else (FW.getD (0+((BZ.1).toNat)) 0))))
   else none
  else
   some (.s0 FW)
 else none
def gY (n:Nat) (c:AB) (q:AA) (pos:List Int) (ln:Nat) (lost:List Int) (BZ:Int×Int) (o4:List Int) (Gm:Int):LO -> Option LO
 | .s0 FW=>U5 n c q pos ln lost BZ o4 Gm FW
def RQ (n:Nat) (c:AB) (q:AA) (pos:List Int) (ln:Nat) (lost:List Int) (BZ:Int×Int) (o4:List Int) (Gm:Int) (s:LO):Option LO:=gY n c q pos ln lost BZ o4 Gm s
theorem sU (n:Nat) (c:AB) (q:AA) (pos:List Int) (ln:Nat) (lost:List Int) (BZ:Int×Int) (o4:List Int) (l B:Nat) (N:Yd 8) (Gm:Int) (s:LO) (r:LO) (h:RQ n c q pos ln lost BZ o4 Gm s=some r):TA l B N (Cb 8 [] 0 (gZ c q pos ln lost BZ o4 r)) Tryz.f135 103 ⟨AG 178 [(1,.ref 2 0),(5,.ref 4 0),(10,.ref 6 0),(103,.it 7),(104,.i Gm)],gZ c q pos ln lost BZ o4 s⟩:=by
 cases s with
 | s0 FW=>
  replace h:U5 n c q pos ln lost BZ o4 Gm FW=some r:=h;unfold U5 at h;refine ag EO [0,1,2,3,4,5,6,7,8,9] H0 (AG 178 [(1,.ref 2 0),(5,.ref 4 0),(10,.ref 6 0),(12,.i Gm)]) (yz c q pos ln lost BZ o4 FW) fun N=>?_
  revert r;apply gO;exact gc (gi (gc (gw 116 (gc (gi (gi (bi 119 (jg qa (gc (gn fun nR=>jg nR (gn fun nQ=>jg nQ (jg nR (jg nQ (lF fun p=>rr EO [0,1,2,3,4,5,6,7,8,9] rfl p))))))) (lF fun p=>rr EO [0,1,2,3,4,5,6,7,8,9] rfl p))))))))
inductive J3 where
 | s0 (GA:List Int)
def gm (c:AB) (BI:Int) (q:AA) (pos:List Int) (ln:Nat) (o4 o6:List Int):J3 -> DH
 | .s0 GA=>[some (.cells (AJ c++AC q++[.ints pos,.msl 1 1 0 ln])),some (.ints GA),some (.cells [.ref 0 0]),some (.cells [.msl 8 1 0 ((((c.cells.length:Int)+1)).toNat)]),some (.cells [.msl 9 1 0 ((((c.cells.length:Int)+1)).toNat)]),some (.cells [.i BI]),some (.cells [.i (c.cells.getD ((BI).toNat) 0)]),none,some (.ints o4),some (.ints o6)]
def U7 (n:Nat) (c:AB) (BI:Int) (q:AA) (pos:List Int) (ln:Nat) (o4 o6:List Int) (E0:Int) (GA:List Int):Option J3:=
 if (0<=E0/\ E0<(q.values.length:Int))/\ (0<=BI/\ BI<(((((c.cells.length:Int)+1)).toNat:Nat):Int))/\ 0+((BI).toNat)<o4.length then
  bif (decide ((q.values.getD ((E0).toNat) 0)<=(o4.getD (0+((BI).toNat)) 0))) then
   if 0<=E0/\ E0<=(IntKind.i64.bits:Int) then
    (DT n (c.cells.getD ((BI).toNat) 0) (IntKind.i64.wrap (1*2 ^ (E0).toNat)) c q pos ln GA).bind fun Ih=>
     some (.s0 Ih)
   else none
  else
   if AL (BI+1)/\ (0<=(BI+1)/\ (BI+1)<(((((c.cells.length:Int)+1)).toNat:Nat):Int))/\ 0+(((BI+1)).toNat)<o6.length then
    bif (decide ((q.values.getD ((E0).toNat) 0)>=(o6.getD (0+(((BI+1)).toNat)) 0))) then
     if 0<=E0/\ E0<=(IntKind.i64.bits:Int) then
      (DT n (c.cells.getD ((BI).toNat) 0) (IntKind.i64.wrap (1*2 ^ (E0).toNat)) c q pos ln GA).bind fun Ih=>
       some (.s0 Ih)
     else none
    else
     some (.s0 GA)
   else none
 else none
def gj (n:Nat) (c:AB) (BI:Int) (q:AA) (pos:List Int) (ln:Nat) (o4 o6:List Int) (E0:Int):J3 -> Option J3
 | .s0 GA=>U7 n c BI q pos ln o4 o6 E0 GA
def U8 (n:Nat) (c:AB) (BI:Int) (q:AA) (pos:List Int) (ln:Nat) (o4 o6:List Int) (E0:Int) (s:J3):Option J3:=gj n c BI q pos ln o4 o6 E0 s
theorem sW (n:Nat) (c:AB) (BI:Int) (q:AA) (pos:List Int) (ln:Nat) (o4 o6:List Int) (l B:Nat) (N:Yd 8) (E0:Int) (s:J3) (r:J3) (h:U8 n c BI q pos ln o4 o6 E0 s=some r):TA l B N (Cb 8 [] 0 (gm c BI q pos ln o4 o6 r)) Tryz.f135 147 ⟨AG 178 [(1,.ref 2 0),(4,.ref 3 0),(5,.ref 4 0),(14,.ref 5 0),(15,.ref 6 0),(133,.ints c.cells),(134,.i (c.cells.length:Int)),(135,.i BI),(147,.it 7),(148,.i E0)],gm c BI q pos ln o4 o6 s⟩:=by
 cases s with
 | s0 GA=>
  replace h:U7 n c BI q pos ln o4 o6 E0 GA=some r:=h;unfold U7 at h;refine ag EO [0,1,2,3,4,5,6,7,8,9] H0 (AG 178 [(1,.ref 2 0),(4,.ref 3 0),(5,.ref 4 0),(14,.ref 5 0),(15,.ref 6 0),(16,.i E0)]) (am c q pos ln GA BI o4 o6) fun N=>?_
  revert r;apply gO;exact gc (gi (gc (gi (gi (bi 162 (jg gD (gi (ce Fp [0,1] (am c q pos ln GA BI o4 o6) fun Ih=>jg (Eq.refl (UV c q pos ln Ih BI o4 o6)) (lF fun p=>rr (tg:=[([],(UV c q pos ln Ih BI o4 o6))]) EO [0,1,2,3,4,5,6,7,8,9] rfl p)))) (gc (gw 167 (gc (gi (gi (bi 170 (jg gD (gi (ce Fp [0,1] (am c q pos ln GA BI o4 o6) fun Ih=>jg (Eq.refl (UV c q pos ln Ih BI o4 o6)) (lF fun p=>rr (tg:=[([],(UV c q pos ln Ih BI o4 o6))]) EO [0,1,2,3,4,5,6,7,8,9] rfl p)))) (lF fun p=>rr EO [0,1,2,3,4,5,6,7,8,9] rfl p))))))))))))
inductive LP where
 | s0 (FB:List Int)
def ga (c:AB) (q:AA) (pos:List Int) (ln:Nat) (lost o4:List Int):LP -> DH
 | .s0 FB=>[some (.cells (AJ c++AC q++[.ints pos,.msl 1 1 0 ln])),some (.ints lost),some (.cells [.ref 0 0]),some (.cells [.msl 6 1 0 ((((c.cells.length:Int)+1)).toNat)]),some (.cells [.msl 7 1 0 ((((c.cells.length:Int)+1)).toNat)]),none,some (.ints o4),some (.ints FB)]
def U4 (n:Nat) (c:AB) (q:AA) (pos:List Int) (ln:Nat) (lost o4:List Int) (BZ:Int×Int) (FB:List Int):Option LP:=
 if (0<=BZ.1/\ BZ.1<(((((c.cells.length:Int)+1)).toNat:Nat):Int))/\ 0+((BZ.1).toNat)<FB.length/\ (0<=BZ.2/\ BZ.2<(pos.length:Int))/\ (0<=(pos.getD ((BZ.2).toNat) 0)/\ (pos.getD ((BZ.2).toNat) 0)<9223372036854775808) then
  (Bn (RQ n c q pos ln lost BZ o4) (B8 (pos.getD ((BZ.2).toNat) 0)) (.s0 (FB.set (0+((BZ.1).toNat)) (-1)))).bind fun cd=>
   match cd with
   | .s0 nK=>
    some (.s0 nK)
 else none
def gX (n:Nat) (c:AB) (q:AA) (pos:List Int) (ln:Nat) (lost o4:List Int) (BZ:Int×Int):LP -> Option LP
 | .s0 FB=>U4 n c q pos ln lost o4 BZ FB
def RR (n:Nat) (c:AB) (q:AA) (pos:List Int) (ln:Nat) (lost o4:List Int) (BZ:Int×Int) (s:LP):Option LP:=gX n c q pos ln lost o4 BZ s
theorem sT (n:Nat) (c:AB) (q:AA) (pos:List Int) (ln:Nat) (lost o4:List Int) (l B:Nat) (N:Yd 6) (BZ:Int×Int) (s:LP) (r:LP) (h:RR n c q pos ln lost o4 BZ s=some r):TA l B N (Cb 6 [] 0 (ga c q pos ln lost o4 r)) Tryz.f135 90 ⟨AG 178 [(1,.ref 2 0),(4,.ref 3 0),(5,.ref 4 0),(90,.it 5),(91,.i BZ.1),(92,.i BZ.2)],ga c q pos ln lost o4 s⟩:=by
 cases s with
 | s0 FB=>
  replace h:U4 n c q pos ln lost o4 BZ FB=some r:=h;unfold U4 at h;refine ag EO [0,1,2,3,4,5,6,7,8] (H0.t) (AG 178 [(1,.ref 2 0),(5,.ref 4 0),(10,.ref 8 0),(11,.i BZ.2)]) (ym c q pos ln lost o4 FB BZ) fun N=>?_
  revert r;apply gO
  exact gc (gi (gc (gi (gc (gi (gn fun zDD=>jc (Ju zDD (zB c q pos ln lost o4 FB BZ)) (cn fun cd zAR=>fun p r h=>by
   refine gs EO [0,1,2,3,4,5,8,9,6,7] p (Fe (VB Tryz.f135 90) 103 []) (AG 178 [(1,.ref 2 0),(5,.ref 4 0),(10,.ref 6 0),(103,.it 7)]) (zA c q pos ln lost BZ o4 FB) ?_;refine r0 7 103 #[104] BQ 8 zAR (sU n c q pos ln lost BZ o4) ?_;cases cd with
   | s0 nK=>
    dsimp only at h
    revert r;apply gO;exact lF fun p=>rr EO [0,1,2,3,4,5,8,9] rfl p)))))))
inductive LQ where
 | s0 (FV:List Int)
def gh (c:AB) (BV:Int) (q:AA) (pos:List Int) (ln:Nat) (lost:List Int):LQ -> DH
 | .s0 FV=>[some (.cells (AJ c++AC q++[.ints pos,.msl 1 1 0 ln])),some (.ints lost),some (.cells [.ref 0 0]),some (.cells [.msl 7 1 0 ((((c.cells.length:Int)+1)).toNat)]),some (.cells [.msl 8 1 0 ((((c.cells.length:Int)+1)).toNat)]),some (.cells [.i BV]),none,some (.ints FV),some (.ints ((List.replicate ((((c.cells.length:Int)+1)).toNat) (0:Int)).set (0+c.cells.length) 100))]
def U6 (n:Nat) (c:AB) (BV:Int) (q:AA) (pos:List Int) (ln:Nat) (lost:List Int) (Gl:Int) (FV:List Int):Option LQ:=
 if (0<=Gl/\ Gl<(q.values.length:Int))/\ (0<=BV/\ BV<(((((c.cells.length:Int)+1)).toNat:Nat):Int))/\ 0+((BV).toNat)<FV.length then
  bif (decide ((q.values.getD ((Gl).toNat) 0)>(FV.getD (0+((BV).toNat)) 0))) then
   if AL (BV+1)/\ (0<=(BV+1)/\ (BV+1)<(((((c.cells.length:Int)+1)).toNat:Nat):Int))/\ 0+(((BV+1)).toNat)<FV.length then
    some (.s0 (FV.set (0+(((BV+1)).toNat)) (if (q.values.getD ((Gl).toNat) 0)<(FV.getD (0+(((BV+1)).toNat)) 0) then (q.values.getD ((Gl).toNat) 0) else (FV.getD (0+(((BV+1)).toNat)) 0))))
   else none
  else
   some (.s0 FV)
 else none
def gb (n:Nat) (c:AB) (BV:Int) (q:AA) (pos:List Int) (ln:Nat) (lost:List Int) (Gl:Int):LQ -> Option LQ
 | .s0 FV=>U6 n c BV q pos ln lost Gl FV
def RS (n:Nat) (c:AB) (BV:Int) (q:AA) (pos:List Int) (ln:Nat) (lost:List Int) (Gl:Int) (s:LQ):Option LQ:=gb n c BV q pos ln lost Gl s
theorem sV (n:Nat) (c:AB) (BV:Int) (q:AA) (pos:List Int) (ln:Nat) (lost:List Int) (l B:Nat) (N:Yd 7) (Gl:Int) (s:LQ) (r:LQ) (h:RS n c BV q pos ln lost Gl s=some r):TA l B N (Cb 7 [] 0 (gh c BV q pos ln lost r)) Tryz.f135 57 ⟨AG 178 [(1,.ref 2 0),(4,.ref 3 0),(5,.ref 4 0),(6,.ref 5 0),(39,.ints c.cells),(40,.i (c.cells.length:Int)),(41,.i BV),(57,.it 6),(58,.i Gl)],gh c BV q pos ln lost s⟩:=by
 cases s with
 | s0 FV=>
  replace h:U6 n c BV q pos ln lost Gl FV=some r:=h;unfold U6 at h;refine ag EO [0,1,2,3,4,5,6,7,8] H0 (AG 178 [(1,.ref 2 0),(4,.ref 3 0),(6,.ref 5 0),(8,.i Gl)]) (yn c q pos ln lost BV FV) fun N=>?_
  revert r;apply gO;exact gc (gi (gc (gi (gi (bi 72 (jg qc (gc (gn fun nP=>jw 75 nP (jw 78 nP (gc (gn fun nN=>jg nN (gn fun nM=>jg nM (jg nN (jg nM (lF fun p=>rr EO [0,1,2,3,4,5,6,7,8] rfl p)))))))))) (lF fun p=>rr EO [0,1,2,3,4,5,6,7,8] rfl p))))))
inductive RT where
 | l1 (BV:Int) (o4:List Int)
 | l2 (BI:Int) (o1 o4 o6:List Int)
def RO (n:Nat) (self:RT -> Option (Bool×(List Int))) (c:AB) (q:AA) (pos:List Int) (ln:Nat) (lost:List Int) (BV:Int) (o4:List Int):Option (Bool×(List Int)):=
 bif (decide (BV<(c.cells.length:Int))) then
  if (0<=BV/\ BV<(c.cells.length:Int))/\ AL (BV+1)/\ (0<=(BV+1)/\ (BV+1)<(((((c.cells.length:Int)+1)).toNat:Nat):Int))/\ 0+(((BV+1)).toNat)<o4.length/\ (0<=(c.cells.getD ((BV).toNat) 0)/\ (c.cells.getD ((BV).toNat) 0)<(pos.length:Int))/\ (0<=(pos.getD ((c.cells.getD ((BV).toNat) 0).toNat) 0)/\ (pos.getD ((c.cells.getD ((BV).toNat) 0).toNat) 0)<9223372036854775808) then
   (Bn (RS n c BV q pos ln lost) (B8 (pos.getD ((c.cells.getD ((BV).toNat) 0).toNat) 0)) (.s0 (o4.set (0+(((BV+1)).toNat)) 100))).bind fun y1=>
    match y1 with
    | .s0 Dm=>
     if AL (BV+1) then
      self (.l1 (BV+1) Dm)
     else none
  else none
 else
  (back n c.cells).bind fun y1=>
   (Bn (RR n c q pos ln lost o4) y1 (.s0 ((List.replicate ((((c.cells.length:Int)+1)).toNat) (0:Int)).set (0+c.cells.length) 100))).bind fun y2=>
    match y2 with
    | .s0 EA=>
     self (.l2 0 lost o4 EA)
def RN (n:Nat) (self:RT -> Option (Bool×(List Int))) (c:AB) (q:AA) (pos:List Int) (ln:Nat) (lost:List Int) (BI:Int) (o1 o4 o6:List Int):Option (Bool×(List Int)):=
 bif (decide (BI<(c.cells.length:Int))) then
  if (0<=BI/\ BI<(c.cells.length:Int))/\ (0<=(c.cells.getD ((BI).toNat) 0)/\ (c.cells.getD ((BI).toNat) 0)<(pos.length:Int))/\ (0<=(pos.getD ((c.cells.getD ((BI).toNat) 0).toNat) 0)/\ (pos.getD ((c.cells.getD ((BI).toNat) 0).toNat) 0)<9223372036854775808) then
   (Bn (U8 n c BI q pos ln o4 o6) (B8 (pos.getD ((c.cells.getD ((BI).toNat) 0).toNat) 0)) (.s0 o1)).bind fun y1=>
    match y1 with
    | .s0 Dm=>
     if AL (BI+1) then
      self (.l2 (BI+1) Dm o4 o6)
     else none
  else none
 else
  some (true,o1)
def gW (n:Nat) (self:RT -> Option (Bool×(List Int))) (c:AB) (q:AA) (pos:List Int) (ln:Nat) (lost:List Int):Option (Bool×(List Int)):=
 if AL ((c.cells.length:Int)+1)/\ ((((c.cells.length:Int)+1):Int)=((c.cells.length:Int)+1)/\ (0:Int)<=((c.cells.length:Int)+1)/\ (((c.cells.length:Int)+1):Int)<=1000000000000)/\ ((0:Int)<=0/\ 0<(((((c.cells.length:Int)+1)).toNat:Nat):Int))/\ 0+0<(List.replicate ((((c.cells.length:Int)+1)).toNat) (0:Int)).length/\ (0<=(c.cells.length:Int)/\ (c.cells.length:Int)<(((((c.cells.length:Int)+1)).toNat:Nat):Int))/\ 0+c.cells.length<(List.replicate ((((c.cells.length:Int)+1)).toNat) (0:Int)).length then
  self (.l1 0 ((List.replicate ((((c.cells.length:Int)+1)).toNat) (0:Int)).set (0+0) (-1)))
 else none
def Hf (c:AB) (q:AA) (pos:List Int) (ln:Nat) (lost:List Int):Nat -> RT -> Option (Bool×(List Int))
 | 0,_=>none
 | n+1,.l1 BV o4=>RO n (Hf c q pos ln lost n) c q pos ln lost BV o4
 | n+1,.l2 BI o1 o4 o6=>RN n (Hf c q pos ln lost n) c q pos ln lost BI o1 o4 o6
def LR (n:Nat) (c:AB) (q:AA) (pos:List Int) (ln:Nat) (lost:List Int):Option (Bool×(List Int)):=gW n (Hf c q pos ln lost n) c q pos ln lost
def sX (n B:Nat) (N:Yd 2) (c:AB) (q:AA) (pos:List Int) (ln:Nat) (lost:List Int) (r:Bool×(List Int)):RT -> Prop
 | .l1 BV o4=>∀ m0:Nat,n<=m0 -> TW B N (FQ Tryz.f135 2 (.bool r.1) [some (.cells (AJ c++AC q++[.ints pos,.msl 1 1 0 ln])),some (.ints r.2)]) (A8 m0 (BL (AY Tryz.f135) 0 [])) ⟨AG 178 [(1,.ref 2 0),(4,.ref 3 0),(5,.ref 5 0),(39,.ints c.cells),(40,.i (c.cells.length:Int)),(41,.i BV)],[some (.cells (AJ c++AC q++[.ints pos,.msl 1 1 0 ln])),some (.ints lost),some (.cells [.ref 0 0]),some (.cells [.msl 4 1 0 ((((c.cells.length:Int)+1)).toNat)]),some (.ints o4),some (.cells [.msl 6 1 0 ((((c.cells.length:Int)+1)).toNat)]),some (.ints ((List.replicate ((((c.cells.length:Int)+1)).toNat) (0:Int)).set (0+c.cells.length) 100))]⟩
 | .l2 BI o1 o4 o6=>∀ m0:Nat,n<=m0 -> TW B N (FQ Tryz.f135 2 (.bool r.1) [some (.cells (AJ c++AC q++[.ints pos,.msl 1 1 0 ln])),some (.ints r.2)]) (A8 m0 (BL (AY Tryz.f135) 8 [])) ⟨AG 178 [(1,.ref 2 0),(4,.ref 3 0),(5,.ref 5 0),(133,.ints c.cells),(134,.i (c.cells.length:Int)),(135,.i BI)],[some (.cells (AJ c++AC q++[.ints pos,.msl 1 1 0 ln])),some (.ints o1),some (.cells [.ref 0 0]),some (.cells [.msl 4 1 0 ((((c.cells.length:Int)+1)).toNat)]),some (.ints o4),some (.cells [.msl 6 1 0 ((((c.cells.length:Int)+1)).toNat)]),some (.ints o6)]⟩
theorem sY (B:Nat) (N:Yd 2) (c:AB) (q:AA) (pos:List Int) (ln:Nat) (lost:List Int):Al (Hf c q pos ln lost) (sX · B N c q pos ln lost):=ia (fun _=>rfl) fun n AK pt r h=>by
 cases pt
 case l1 BV o4=>
  intro m0 AD;refine rd AD fun m0 AD=>?_
  revert r;apply gO
  exact bi 42 (gc (gi (jt (gc (gw 48 (gc (gi (gc (gi (gc (gi (gn fun g5=>jc (Ju g5 (yw c q pos ln lost o4 BV)) (cn fun y1 A5=>fun p r h=>by
   refine gs EO [0,1,2,3,5,7,8,4,6] p (Fe (AY Tryz.f135) 57 [m0]) (AG 178 [(1,.ref 2 0),(4,.ref 3 0),(5,.ref 4 0),(6,.ref 5 0),(39,.ints c.cells),(40,.i (c.cells.length:Int)),(41,.i BV),(57,.it 6)]) (yu c q pos ln lost BV o4) ?_;refine r0 6 57 #[58] BQ 7 A5 (sV n c BV q pos ln lost) ?_;cases y1 with
   | s0 Dm=>
    dsimp only at h
    revert r;apply gO;exact gw 84 (lG EO [0,1,2,3,7,4,8] (AK _ _ · m0 AD))))))))))))))) (cn fun y1 A5=>jc (zDB A5 (yt c q pos ln lost o4)) (cn fun y2 Bz=>fun p r h=>by
   refine gs EO [0,1,2,3,5,7,4,6] p (Fe (AY Tryz.f135) 90 []) (AG 178 [(1,.ref 2 0),(4,.ref 3 0),(5,.ref 4 0),(90,.it 5)]) (yq c q pos ln lost y1 o4) ?_;refine r0 5 90 #[91,92] OD 6 Bz (sT n c q pos ln lost o4) ?_;cases y2 with
   | s0 EA=>
    dsimp only at h
    revert r;apply gO;exact lN EO [0,1,2,3,6,4,7] (AK _ _ · n Nat.le.refl)))
 case l2 BI o1 o4 o6=>
  intro m0 AD;refine rd AD fun m0 AD=>?_
  revert r;apply gO
  exact bi 136 (gc (gi (jt (jt (jg qZ (gc (gi (gn fun g2=>jc (Ju g2 (yp c q pos ln o1 o4 o6 BI)) (cn fun y1 A5=>fun p r h=>by
   refine gs EO [0,1,2,3,5,7,8,9,4,6] p (Fe (AY Tryz.f135) 147 [m0]) (AG 178 [(1,.ref 2 0),(4,.ref 3 0),(5,.ref 4 0),(14,.ref 5 0),(15,.ref 6 0),(133,.ints c.cells),(134,.i (c.cells.length:Int)),(135,.i BI),(147,.it 7)]) (yo c q pos ln o1 BI o4 o6) ?_;refine r0 7 147 #[148] BQ 8 A5 (sW n c BI q pos ln o4 o6) ?_;cases y1 with
   | s0 Dm=>
    dsimp only at h
    revert r;apply gO;exact gw 177 (lG EO [0,1,2,3,8,4,9] (AK _ _ · m0 AD))))))))))) (lE EO [2] [0,1])
theorem sS {n:Nat} {c:AB} {q:AA} {pos:List Int} {ln:Nat} {lost:List Int} {r:Bool×(List Int)} (h:LR n c q pos ln lost=some r):EQ 135 [.ref 0 0] [some (.cells (AJ c++AC q++[.ints pos,.msl 1 1 0 ln])),some (.ints lost)] (.bool r.1) [some (.cells (AJ c++AC q++[.ints pos,.msl 1 1 0 ln])),some (.ints r.2)] false:=by
 refine ot Tryz.func135 fun B N=>?_
 revert r;apply gO;exact jg qb (gc (gn fun g0=>jw 25 g0 (jw 28 g0 (gc (gn fun g1=>jg g1 (jg g1 (jt (jt (jg (Eq.refl (Ck c q pos ln lost)) (jt (jt (jg (Eq.refl (Ck c q pos ln lost)) (jg g1 (jt (jt (jg (Eq.refl (Ck c q pos ln lost)) (jg g1 (jt (jt (jg (Eq.refl (Ck c q pos ln lost)) (jt (jg g1 (jt (jg (Eq.refl (Ck c q pos ln lost)) (jg g1 (jt (jt (jg (Eq.refl (Ck c q pos ln lost)) (jg g1 (jt (jt (jg (Eq.refl (Ck c q pos ln lost)) (jt (jg g1 (jt (jg (Eq.refl (Ck c q pos ln lost)) (jg g1 (jg g1 (jt (jt (jg (Eq.refl (Ck c q pos ln lost)) (jt (jt (jg (Eq.refl (Ck c q pos ln lost)) (jg g1 (jt (jt (jg (Eq.refl (Ck c q pos ln lost)) (jg g1 (jt (jt (jg (Eq.refl (Ck c q pos ln lost)) (jg g1 (jt (jt (jg (Eq.refl (Ck c q pos ln lost)) (jg g1 (jt (jt (jg (Eq.refl (Ck c q pos ln lost)) (jg g1 (jg g1 (jt (jt (jg (Eq.refl (Ck c q pos ln lost)) (jg g1 (jt (jt (jg (Eq.refl (Ck c q pos ln lost)) (jt (jg g1 (jt (jg (Eq.refl (Ck c q pos ln lost)) (jg g1 (jg g1 (jt (jt (jg (Eq.refl (Ck c q pos ln lost)) (jg g1 (jt (jt (jg (Eq.refl (Ck c q pos ln lost)) (jg g1 (jg g1 (jt (jt (jg (Eq.refl (Ck c q pos ln lost)) (jt (jg g1 (jt (jg (Eq.refl (Ck c q pos ln lost)) (jg g1 (jg g1 (jt (jt (jg (Eq.refl (Ck c q pos ln lost)) (jg g1 (jg g1 (jt (jt (jg (Eq.refl (Ck c q pos ln lost)) (jg g1 (jt (jt (jg (Eq.refl (Ck c q pos ln lost)) (jt (jg g1 (jt (jg (Eq.refl (Ck c q pos ln lost)) (jg g1 (jg g1 (jt (jt (jg (Eq.refl (Ck c q pos ln lost)) (jg g1 (jt (jt (jg (Eq.refl (Ck c q pos ln lost)) (jg g1 (jg g1 (jt (jt (jg (Eq.refl (Ck c q pos ln lost)) (jt (jg g1 (jt (jg (Eq.refl (Ck c q pos ln lost)) (jg g1 (jg g1 (jt (jt (jg (Eq.refl (Ck c q pos ln lost)) (jg qY (gc (gi (gc (gi (gc (gi (gi (jg (Eq.refl (d6 c q pos ln lost)) (lN (tg:=[([],(Ck c q pos ln lost)),([(4,3)],(d6 c q pos ln lost))]) EO [0,1,2,5,3,6,4] ((sY B N c q pos ln lost n) _ _ · n Nat.le.refl)))))))))))))))))))))))))))))))))))))))))))))))))))))))))))))))))))))))))))))))))))))))))))))))))))))))))))))))))))))))))))))))))))))))))))))))
end Go.Proofs.YtkjbblkieglmlaaGreatDoor
namespace Go.Proofs.YtkjbblkieglmlaaGreatDoor
open Go.RowKit
theorem JW {l:List Int} {i:Nat} {a:Int} (h:i<l.length):(l.set i a).getD i 0=a:=by
 rw [u8,zEH h];rfl
theorem getD_set_ne {l:List Int} {i j:Nat} {a:Int} (h:i≠j):(l.set i a).getD j 0=l.getD j 0:=by
 rw [u8,zEB h,←u8]
def UO (q:AA) (b a e:Int):Int:=if q.values.getD e.toNat 0>b then (if q.values.getD e.toNat 0<a then q.values.getD e.toNat 0 else a) else a
def Tb (q:AA) (b a e:Int):Int:=if q.values.getD e.toNat 0<b then (if q.values.getD e.toNat 0>a then q.values.getD e.toNat 0 else a) else a
def QP (q:AA) (c:AB) (pos:List Int):Nat -> Int
 | 0=>-1
 | i+1=>(B8 (BN c pos i)).foldl (UO q (QP q c pos i)) 100
def dH (q:AA) (c:AB) (pos:List Int):Nat -> Int
 | 0=>100
 | m+1=>(B8 (BN c pos (c.cells.length-1-m))).foldl (Tb q (dH q c pos m)) (-1)
def Ji (q:AA) (c:AB) (pos:List Int) (i:Nat):Int:=dH q c pos (c.cells.length-i)
def M7 (q:AA) (c:AB) (pos:List Int) (a s:Nat):Bool:=decide (q.values.getD s 0<=QP q c pos a)||decide (q.values.getD s 0>=Ji q c pos (a+1))
def Tx (l:List Int):Nat -> List (Int×Int)
 | 0=>[]
 | m+1=>((m:Int),l.getD m 0)::Tx l m
theorem nH {l:List Int}: ∀ (m n:Nat),m<=l.length -> l.length<=LB -> m+1<=n -> MQ l n (.l1 ((m:Int)-1))=some (Tx l m)
 | 0,n,_,_,hn=>by
  obtain ⟨n,rfl⟩: ∃ k,n=k+1:=⟨n-1,by omega⟩
  show OS n (MQ l n) l _=_
  unfold OS;rw [zAE (by omega),zAC];rfl
 | m+1,n,hm,hl,hn=>by
  obtain ⟨n,rfl⟩: ∃ k,n=k+1:=⟨n-1,by omega⟩;have e:((m+1:Nat):Int)-1=(m:Int):=by omega
  have hb:LB<=9223372036854775807:=by decide
  rw [e]
  show OS n (MQ l n) l _=_
  unfold OS;rw [zAT (by omega),zAK,zAB ⟨by omega,by omega⟩,zAB (A0.2 ⟨by omega,by omega⟩),nH m n (by omega) hl (by omega),zAO];rfl
theorem zC8 {l:List Int} {n:Nat} (hl:l.length<=LB) (hn:l.length+1<=n):back n l=some (Tx l l.length):=by
 have hb:LB<=9223372036854775807:=by decide
 unfold back cb;rw [zAB (A0.2 ⟨by omega,by omega⟩),nH l.length n (zAm _) hl hn]
section
variable {c:AB} {k:Nat} {pos lost:List Int} {q:AA}
theorem gR {n ln i:Nat} (Ap:c.cells.length<=256) (hi:i<c.cells.length) {o:List Int} (ho:o.length=c.cells.length+1): ∀ (l:List Int) (a:Int),(∀ e∈l,0<=e/\ e<((q.values.length:Nat):Int)) ->
 Bn (RS n c (i:Int) q pos ln lost) l (.s0 (o.set (i+1) a))=some (.s0 (o.set (i+1) (l.foldl (UO q (o.getD i 0)) a)))
 | [],_,_=>rfl
 | e::l,a,h=>by
  have t1:((((c.cells.length:Nat):Int)+1).toNat:Nat)=c.cells.length+1:=by omega
  have t2:(((i:Int)+1).toNat:Nat)=i+1:=by omega
  have e1:RS n c (i:Int) q pos ln lost e (.s0 (o.set (i+1) a))=some (.s0 (o.set (i+1) (UO q (o.getD i 0) a e))):=by
   unfold RS gb U6
   dsimp only
   simp only [zAO,t1,t2,zAj,zAl,ho];rw [zAB ⟨h e (.head _),by omega,by omega⟩,getD_set_ne (by omega),JW (by omega),List.set_set];unfold UO
   by_cases hA:q.values.getD e.toNat 0>o.getD i 0
   ·rw [zAT hA,zAK,zAB ⟨A0.2 ⟨by omega,by omega⟩,by omega,by omega⟩,zAB hA]
   ·rw [zAE hA,zAC,zAZ hA]
  simp only [Bn];rw [e1,zAA,gR Ap hi ho l _ fun e he=>h e (.tail _ he)];rfl
theorem gU {n ln i:Nat} {x:Int} {o4:List Int} (Ap:c.cells.length<=256) (hi:i<c.cells.length) {o:List Int} (ho:o.length=c.cells.length+1): ∀ (l:List Int) (a:Int),(∀ e∈l,0<=e/\ e<((q.values.length:Nat):Int)) ->
 Bn (RQ n c q pos ln lost ((i:Int),x) o4) l (.s0 (o.set i a))=some (.s0 (o.set i (l.foldl (Tb q (o.getD (i+1) 0)) a)))
 | [],_,_=>rfl
 | e::l,a,h=>by
  have t1:((((c.cells.length:Nat):Int)+1).toNat:Nat)=c.cells.length+1:=by omega
  have t2:(((i:Int)+1).toNat:Nat)=i+1:=by omega
  have e1:RQ n c q pos ln lost ((i:Int),x) o4 e (.s0 (o.set i a))=some (.s0 (o.set i (Tb q (o.getD (i+1) 0) a e))):=by
   unfold RQ gY U5
   dsimp only
   simp only [zAO,t1,t2,zAj,zAl,ho];rw [zAB ⟨h e (.head _),A0.2 ⟨by omega,by omega⟩,by omega,by omega⟩,getD_set_ne (by omega),JW (by omega),List.set_set];unfold Tb
   by_cases hA:q.values.getD e.toNat 0<o.getD (i+1) 0
   ·rw [zAT hA,zAK,zAB ⟨by omega,by omega⟩,zAB hA]
   ·rw [zAE hA,zAC,zAZ hA]
  simp only [Bn];rw [e1,zAA,gU Ap hi ho l _ fun e he=>h e (.tail _ he)];rfl
theorem Sm.i63 (hk:k<=16) {x:Int} (h:Sm k x):0<=x/\ x<9223372036854775808:=by
 have h1:=ND (k:=k) (zAk hk (by decide));obtain ⟨h2,h3⟩:=h;omega
theorem gV {n:Nat} {o4:List Int} (W:C2 c k pos) (V:FN q k): ∀ (m:Nat) (o:List Int),m<=c.cells.length -> o.length=c.cells.length+1 -> (∀ j,m<=j -> j<=c.cells.length -> o.getD j 0=Ji q c pos j) ->
 ∃ o',Bn (RR n c q pos pos.length lost o4) (Tx c.cells m) (.s0 o)=some (.s0 o')/\ o'.length=c.cells.length+1/\ ∀ j,j<=c.cells.length -> o'.getD j 0=Ji q c pos j
 | 0,o,_,ho,h=>⟨o,rfl,ho,fun j hj=>h j (zEf _) hj⟩
 | m+1,o,hm,ho,h=>by
  have hc:=W.cells m (by omega);have CU:=W.at (a:=m) (by omega);have Ap:=W.len;have t1:((((c.cells.length:Nat):Int)+1).toNat:Nat)=c.cells.length+1:=by omega
  have e1:RR n c q pos pos.length lost o4 ((m:Int),c.cells.getD m 0) (.s0 o)=some (.s0 (o.set m (Ji q c pos m))):=by
   unfold RR gX U4
   dsimp only
   simp only [zAO,t1,zAj];rw [zAB ⟨by omega,by omega,hc,CU.i63 W.k⟩];refine (congrArg (fun z=>Option.bind z _) (gU Ap (by omega) ho (B8 (BN c pos m)) (-1) fun e he=>(V.sym W.k CU e he).1)).trans ?_;rw [zAA]
   have e2:Ji q c pos m=(B8 (BN c pos m)).foldl (Tb q (o.getD (m+1) 0)) (-1):=by
    rw [h (m+1) (zAm _) hm];unfold Ji;rw [show c.cells.length-m=c.cells.length-(m+1)+1 by omega];simp only [dH];rw [show c.cells.length-1-(c.cells.length-(m+1))=m by omega]
   rw [e2]
  obtain ⟨o',h1,h2,h3⟩:=gV W V m (o.set m (Ji q c pos m)) (by omega) (by rw [zAl];exact ho) fun j hj Gg=>by
   by_cases e:m=j
   ·subst e;exact JW (by omega)
   ·rw [getD_set_ne e];exact h j (by omega) Gg
  refine ⟨o',?_,h2,h3⟩;simp only [Tx,Bn];rw [e1,zAA,h1]
theorem sP {n:Nat} {o4 o6:List Int} (W:C2 c k pos) (V:FN q k) (h4:o4.length=c.cells.length+1) (h6:o6.length=c.cells.length+1) (hb: ∀ j,j<=c.cells.length -> o4.getD j 0=QP q c pos j) (ha: ∀ j,j<=c.cells.length -> o6.getD j 0=Ji q c pos j) (hl:lost.length=pos.length) (hn:c.cells.length+1<=n):
 ∃ l,Hf c q pos pos.length lost n (.l2 0 lost o4 o6)=some (true,l)/\ B6 c pos lost c.cells.length (fun a s=>M7 q c pos a s=true) l:=by
 have lt: ∀ i,i<c.cells.length -> ((i:Nat):Int)<((c.cells.length:Nat):Int):=fun i hi=>by omega
 have t1:((((c.cells.length:Nat):Int)+1).toNat:Nat)=c.cells.length+1:=by omega
 have Ap:=W.len
 have T:=HE (fun n (s:List Int) i=>Hf c q pos pos.length lost n (.l2 i s o4 o6)) c.cells.length 1
  (fun i s=>B6 c pos lost i (fun a s=>M7 q c pos a s=true) s) (fun n i s Gf hi hI=>?_) (n:=n) (s:=lost) (by omega) (B6.zero hl)
 ·obtain ⟨n3,l,Ls,_,e2,hL⟩:=T;obtain ⟨n4,rfl⟩: ∃ n4,n3=n4+1:=⟨n3-1,by omega⟩;refine ⟨l,e2.trans ?_,hL⟩
  show RN n4 (Hf c q pos pos.length lost n4) c q pos pos.length lost (c.cells.length:Int) l o4 o6=_
  unfold RN;rw [zAE (by omega),zAC]
 ·have hc:=W.cells i hi;have hr:=W.r64 hi;have CU:=W.at hi;have t2:(((i:Int)+1).toNat:Nat)=i+1:=by omega
  obtain ⟨l',e1,n1,f1⟩:=jK (n:=n) (q:=q) W hi hI.1 J3.s0 (U8 n c (i:Int) q pos pos.length o4 o6) (M7 q c pos i) fun s l hs hl=>by
   have Gb:=V.len;have g1:(0:Int)<=(s:Int)/\ (s:Int)<((q.values.length:Nat):Int):=by omega
   have hk:=W.k;have g2:(0:Int)<=(s:Int)/\ (s:Int)<=((IntKind.i64.bits:Nat):Int):=⟨by omega,by show (s:Int)<=64;omega⟩;obtain ⟨l2,e2,_,_⟩:=KJ (lost:=l) (n:=n) (ss:=IntKind.i64.wrap (1*2 ^ s)) (c:=c) (q:=q) hc.1 hc.2 hl;unfold M7 U8 gj U7
   dsimp only
   simp only [zAO,t1,t2,zAj,h4,h6];rw [zAB ⟨g1,by omega,by omega⟩,hb i (by omega),ha (i+1) (by omega)];cases hA:decide (q.values.getD s 0<=QP q c pos i)
   ·rw [zAC,zAB ⟨A0.2 ⟨by omega,by omega⟩,by omega,by omega⟩,zEV];cases hB:decide (q.values.getD s 0>=Ji q c pos (i+1))
    ·rfl
    ·rw [zAK,zAK,zAB g2,e2];rfl
   ·rw [zAK,Bool.true_or,zAK,zAB g2,e2];rfl
  show ∃ s',RN n (Hf c q pos pos.length lost n) c q pos pos.length lost (i:Int) s o4 o6=_/\ _
  unfold RN;rw [zAT (lt i hi),zAK];simp only [zAO];rw [zAB ⟨⟨by omega,lt i hi⟩,hc,CU.i63 W.k⟩];refine ⟨l',?_,hI.step n1 f1⟩;refine (congrArg (fun z=>Option.bind z _) e1).trans ?_;rw [zAA];simp only;rw [zAB hr.2]
theorem sQ {n:Nat} (W:C2 c k pos) (V:FN q k) (hl:lost.length=pos.length) (hn:2*c.cells.length+3<=n):
 ∃ l,LR n c q pos pos.length lost=some (true,l)/\ B6 c pos lost c.cells.length (fun a s=>M7 q c pos a s=true) l:=by
 have lt: ∀ i,i<c.cells.length -> ((i:Nat):Int)<((c.cells.length:Nat):Int):=fun i hi=>by omega
 have t1:((((c.cells.length:Nat):Int)+1).toNat:Nat)=c.cells.length+1:=by omega
 have Ap:=W.len
 have S:=HE (fun n (s:List Int) i=>Hf c q pos pos.length lost n (.l1 i s)) c.cells.length (c.cells.length+3)
  (fun i s=>s.length=c.cells.length+1/\ ∀ j,j<=i -> s.getD j 0=QP q c pos j) (fun n i s _ hi hI=>?_) (n:=n) (s:=(List.replicate (c.cells.length+1) (0:Int)).set 0 (-1)) (by omega) ⟨by simp,fun j hj=>?_⟩
 ·obtain ⟨n1,o4,GK,_,e1,h4,hb⟩:=S;obtain ⟨n2,rfl⟩: ∃ n2,n1=n2+1:=⟨n1-1,by omega⟩
  have e0:LR n c q pos pos.length lost=Hf c q pos pos.length lost n (.l1 0 ((List.replicate (c.cells.length+1) (0:Int)).set 0 (-1))):=by
   unfold LR gW;simp only [t1,zAj,zAe];rw [zAB ⟨A0.2 ⟨by omega,by omega⟩,⟨trivial,by omega,by omega⟩,⟨by omega,by omega⟩,by omega,⟨by omega,by omega⟩,by omega⟩]
  have e2:LR n c q pos pos.length lost=RO n2 (Hf c q pos pos.length lost n2) c q pos pos.length lost (c.cells.length:Int) o4:=e0.trans e1;unfold RO at e2;rw [zAE (by omega),zAC,zC8 (zAk Ap (by decide)) (by omega),zAA] at e2;simp only [t1,zAj] at e2
  obtain ⟨o6,e3,h6,ha⟩:=gV (lost:=lost) (n:=n2) (o4:=o4) W V c.cells.length ((List.replicate (c.cells.length+1) (0:Int)).set c.cells.length 100) (zAm _) (by simp) fun j hj Gg=>by
   obtain rfl:j=c.cells.length:=by omega
   rw [JW (by simp)];unfold Ji;rw [Nat.sub_self];rfl
  rw [e3,zAA] at e2;obtain ⟨l,e4,hL⟩:=sP (n:=n2) W V h4 h6 (fun j hj=>hb j hj) ha hl (by omega);exact ⟨l,e2.trans e4,hL⟩
 ·obtain ⟨h4,hb⟩:=hI;have hc:=W.cells i hi;have hr:=W.r64 hi;have CU:=W.at hi;have t2:(((i:Int)+1).toNat:Nat)=i+1:=by omega
  show ∃ s',RO n (Hf c q pos pos.length lost n) c q pos pos.length lost (i:Int) s=_/\ _
  unfold RO;rw [zAT (lt i hi),zAK];simp only [zAO,t1,t2,zAj];rw [zAB ⟨⟨by omega,lt i hi⟩,hr.2,by omega,by omega,hc,CU.i63 W.k⟩];refine ⟨s.set (i+1) (QP q c pos (i+1)),?_,by rw [zAl];exact h4,fun j hj=>?_⟩
  ·refine (congrArg (fun z=>Option.bind z _) (gR Ap hi h4 (B8 (BN c pos i)) 100 fun e he=>(V.sym W.k CU e he).1)).trans ?_;rw [zAA];simp only;rw [zAB hr.2,hb i (zAm _)];rfl
  ·by_cases e:i+1=j
   ·subst e;exact JW (by omega)
   ·rw [getD_set_ne e];exact hb j (by omega)
 ·obtain rfl:j=0:=by omega
  rw [JW (by simp)];rfl
end
end Go.Proofs.YtkjbblkieglmlaaGreatDoor
namespace Go.Proofs.YtkjbblkieglmlaaGreatDoor
open Go.RowKit
section
variable {k:Nat}
theorem iS {T1 T2:Type} (KF:List Int -> Int -> Int -> T1) (PK:List Int -> Int -> Int -> T2) (f1:Int -> Int -> T1 -> Option T1) (f2:Int -> T2 -> Option T2) (ok:Nat -> Nat -> Bool) {a b:Int} (ha:Sm k a) (hb:Sm k b) (hk:k<=16)
 (h1: ∀ (s t:Nat) (l:List Int) (x y:Int),s<k -> t<k -> f1 s t (KF l x y)=some (bif ok s t then KF l (bits .or .i64 x (IntKind.i64.wrap (1*2 ^ s))) (bits .or .i64 y (IntKind.i64.wrap (1*2 ^ t))) else KF l x y))
 (h2: ∀ (s:Nat) (l:List Int) (x y x' y':Int),s<k -> Bn (f1 s) (B8 b) (KF l x y)=some (KF l x' y') -> f2 s (PK l x y)=some (PK l x' y')) (l:List Int):
 ∃ x y,Bn f2 (B8 a) (PK l 0 0)=some (PK l x y)/\ (∀ u,tb x u=true↔tb a u=true/\ ∃ t,tb b t=true/\ ok u t=true)/\ (∀ u,tb y u=true↔tb b u=true/\ ∃ s,tb a s=true/\ ok s u=true):=by
 have JE:k<=62:=zAk hk (by decide)
 have wY: ∀ (s:Nat) (x y:Int),s<k -> ∃ x' y',Bn (f1 s) (B8 b) (KF l x y)=some (KF l x' y')/\ (∀ u,tb x' u=true↔tb x u=true∨(u=s/\ ∃ t,tb b t=true/\ ok s t=true))/\ (∀ u,tb y' u=true↔tb y u=true∨(tb b u=true/\ ok s u=true)):=by
  intro s x y hs
  have key:=W4 (f:=f1 s) (fun pre st=>∃ x' y',st=KF l x' y'/\ (∀ u,tb x' u=true↔tb x u=true∨(u=s/\ ∃ t:Nat,(t:Int)∈pre/\ ok s t=true))/\ (∀ u:Nat,tb y' u=true↔tb y u=true∨((u:Int)∈pre/\ ok s u=true)))
   (B8 b) [] (KF l x y) ⟨x,y,rfl,fun u=>⟨.inl,fun h=>h.elim id fun ⟨_,t,h,_⟩=>(by cases h)⟩,fun u=>⟨.inl,fun h=>h.elim id fun ⟨h,_⟩=>(by cases h)⟩⟩ ?_
  ·obtain ⟨st,e,x',y',rfl,hx,hy⟩:=key;refine ⟨x',y',e,fun u=>?_,fun u=>?_⟩
   ·rw [hx,zEI];constructor
    ·rintro (h | ⟨e1,t,h,h3⟩)
     ·exact .inl h
     ·obtain ⟨t',e2,_,h4⟩:=(HB hb JE).1 h;have:t=t':=by omega
      subst this;exact .inr ⟨e1,t,h4,h3⟩
    ·rintro (h | ⟨e1,t,h,h3⟩)
     ·exact .inl h
     ·exact .inr ⟨e1,t,(HB hb JE).2 ⟨t,rfl,zEl fun DL=>(by rw [hb.hi DL] at h;cases h),h⟩,h3⟩
   ·rw [hy,zEI];constructor
    ·rintro (h | ⟨h,h3⟩)
     ·exact .inl h
     ·obtain ⟨t',e2,_,h4⟩:=(HB hb JE).1 h;have:u=t':=by omega
      subst this;exact .inr ⟨h4,h3⟩
    ·rintro (h | ⟨h,h3⟩)
     ·exact .inl h
     ·exact .inr ⟨(HB hb JE).2 ⟨u,rfl,zEl fun DL=>(by rw [hb.hi DL] at h;cases h),h⟩,h3⟩
  ·rintro pre e _ he ⟨x',y',rfl,hx,hy⟩;obtain ⟨t,rfl,ht,_⟩:=(HB hb JE).1 he;rw [h1 s t l x' y' hs ht];cases ho:ok s t
   ·rw [zAC];refine ⟨_,rfl,x',y',rfl,fun u=>?_,fun u=>?_⟩
    ·rw [hx];constructor
     ·rintro (h | ⟨e1,t',h,h3⟩)
      ·exact .inl h
      ·exact .inr ⟨e1,t',zDp _ h,h3⟩
     ·rintro (h | ⟨e1,t',h,h3⟩)
      ·exact .inl h
      ·rcases zEA.1 h with h | h
       ·exact .inr ⟨e1,t',h,h3⟩
       ·have:t'=t:=by have:=zAp.1 h;omega
        subst this;rw [ho] at h3;cases h3
    ·rw [hy];constructor
     ·rintro (h | ⟨h,h3⟩)
      ·exact .inl h
      ·exact .inr ⟨zDp _ h,h3⟩
     ·rintro (h | ⟨h,h3⟩)
      ·exact .inl h
      ·rcases zEA.1 h with h | h
       ·exact .inr ⟨h,h3⟩
       ·have:u=t:=by have:=zAp.1 h;omega
        subst this;rw [ho] at h3;cases h3
   ·rw [zAK];refine ⟨_,rfl,_,_,rfl,fun u=>?_,fun u=>?_⟩
    ·rw [Js,zDh,hx,Jr (by omega),zAi];constructor
     ·rintro ((h | ⟨e1,t',h,h3⟩) | rfl)
      ·exact .inl h
      ·exact .inr ⟨e1,t',zDp _ h,h3⟩
      ·exact .inr ⟨rfl,t,zD3 _ (.head _),ho⟩
     ·rintro (h | ⟨e1,t',h,h3⟩)
      ·exact .inl (.inl h)
      ·exact .inr e1.symm
    ·rw [Js,zDh,hy,Jr (by omega),zAi];constructor
     ·rintro ((h | ⟨h,h3⟩) | rfl)
      ·exact .inl h
      ·exact .inr ⟨zDp _ h,h3⟩
      ·exact .inr ⟨zD3 _ (.head _),ho⟩
     ·rintro (h | ⟨h,h3⟩)
      ·exact .inl (.inl h)
      ·rcases zEA.1 h with h | h
       ·exact .inl (.inr ⟨h,h3⟩)
       ·exact .inr (by have:=zAp.1 h;omega)
 have key:=W4 (f:=f2) (fun pre st=>∃ x y,st=PK l x y/\ (∀ u:Nat,tb x u=true↔(u:Int)∈pre/\ ∃ t,tb b t=true/\ ok u t=true)/\ (∀ u,tb y u=true↔tb b u=true/\ ∃ s:Nat,(s:Int)∈pre/\ ok s u=true))
  (B8 a) [] (PK l 0 0) ⟨0,0,rfl,fun u=>⟨fun h=>absurd h Mn,fun ⟨h,_⟩=>(by cases h)⟩,fun u=>⟨fun h=>absurd h Mn,fun ⟨_,s,h,_⟩=>(by cases h)⟩⟩ ?_
 ·obtain ⟨st,e,x,y,rfl,hx,hy⟩:=key;refine ⟨x,y,e,fun u=>?_,fun u=>?_⟩
  ·rw [hx,zEI];constructor
   ·rintro ⟨h,h2⟩;obtain ⟨t',e2,_,h4⟩:=(HB ha JE).1 h;have:u=t':=by omega
    subst this;exact ⟨h4,h2⟩
   ·rintro ⟨h,h2⟩;exact ⟨(HB ha JE).2 ⟨u,rfl,zEl fun DL=>(by rw [ha.hi DL] at h;cases h),h⟩,h2⟩
  ·rw [hy,zEI];constructor
   ·rintro ⟨h0,s,h,h3⟩;obtain ⟨t',e2,_,h4⟩:=(HB ha JE).1 h;have:s=t':=by omega
    subst this;exact ⟨h0,s,h4,h3⟩
   ·rintro ⟨h0,s,h,h3⟩;exact ⟨h0,s,(HB ha JE).2 ⟨s,rfl,zEl fun DL=>(by rw [ha.hi DL] at h;cases h),h⟩,h3⟩
 ·rintro pre e _ he ⟨x,y,rfl,hx,hy⟩;obtain ⟨s,rfl,hs,_⟩:=(HB ha JE).1 he;obtain ⟨x',y',e1,Ll,xJ⟩:=wY s x y hs;refine ⟨_,h2 s l x y x' y' hs e1,x',y',rfl,fun u=>?_,fun u=>?_⟩
  ·rw [Ll,hx];constructor
   ·rintro (⟨h,h2⟩ | ⟨rfl,h2⟩)
    ·exact ⟨zDp _ h,h2⟩
    ·exact ⟨zD3 _ (.head _),h2⟩
   ·rintro ⟨h,h2⟩;rcases zEA.1 h with h | h
    ·exact .inl ⟨h,h2⟩
    ·have:u=s:=by have:=zAp.1 h;omega
     subst this;exact .inr ⟨rfl,h2⟩
  ·rw [xJ,hy];constructor
   ·rintro (⟨h,s',h2,h3⟩ | ⟨h,h2⟩)
    ·exact ⟨h,s',zDp _ h2,h3⟩
    ·exact ⟨h,s,zD3 _ (.head _),h2⟩
   ·rintro ⟨h,s',h2,h3⟩;rcases zEA.1 h2 with h2 | h2
    ·exact .inl ⟨h,s',h2,h3⟩
    ·have:s'=s:=by have:=zAp.1 h2;omega
     subst this;exact .inr ⟨h,h3⟩
end
theorem Xh {s:Nat} (hs:s<64) (x:Int):(bits .and .i64 (IntKind.i64.wrap (1*2 ^ s)) x==0)= !tb x s:=by
 rw [zEe,zDw,Ua (Ko _ _ _)];constructor
 ·intro h;have:=h s hs;rw [Ol,Jr hs,zAT rfl,zD5] at this;rw [this];rfl
 ·intro h i hi;rw [Ol,Jr hs]
  by_cases e:s=i
  ·subst e;rw [zAT rfl,zD5];cases hx:tb x s
   ·rfl
   ·rw [hx] at h;cases h
  ·rw [zAE e,zEc]
def IP (q:AA) (c:AB) (s t:Nat):Bool:=decide ((if 0-(q.values.getD s 0-q.values.getD t 0)>q.values.getD s 0-q.values.getD t 0 then 0-(q.values.getD s 0-q.values.getD t 0) else q.values.getD s 0-q.values.getD t 0)>=c.lo)
def Hi (c:AB) (s t:Nat):Bool:=(!tb c.set s|| !tb c.other t)&&(!tb c.set t|| !tb c.other s)
def IL (ok:Nat -> Nat -> Bool) (c:AB) (pos:List Int) (a s:Nat):Prop:=
 if a=0 then ¬ ∃ t,tb (BN c pos 1) t=true/\ ok s t=true else ¬ ∃ t,tb (BN c pos 0) t=true/\ ok t s=true
section
variable {c:AB} {k:Nat} {pos lost:List Int} {q:AA}
theorem zDP {n ln:Nat} (V:FN q k) {s t:Nat} (hs:s<k) (ht:t<k):Xp n s t c q pos ln lost=some (IP q c s t,lost):=by
 have h1:=V.val s hs;have h2:=V.val t ht;have h3:=V.len;unfold Xp nh;simp only [zAO];rw [zAB ⟨by omega,by omega,A0.2 ⟨by omega,by omega⟩,A0.2 ⟨by omega,by omega⟩⟩];rfl
theorem uc {n ln:Nat} {s t:Nat} (hs:s<64) (ht:t<64):Vm n s t c q pos ln lost=some (Hi c s t,lost):=by
 have g: ∀ s:Nat,s<64 -> (0:Int)<=(s:Int)/\ (s:Int)<=((IntKind.i64.bits:Nat):Int):=fun s hs=>⟨by omega,by show (s:Int)<=64;omega⟩
 unfold Vm iw;simp only [zAO];rw [zAB ⟨g s hs,g t ht⟩,Xh hs,Xh hs,Xh ht,Xh ht];unfold Hi;cases tb c.set s <;> cases tb c.set t <;> cases tb c.other s <;> cases tb c.other t <;> rfl
theorem iT {n:Nat} (W:C2 c k pos) (h2:c.cells.length=2) (hl:lost.length=pos.length) (ok:Nat -> Nat -> Bool) {x y:Int}
 (hx: ∀ u,tb x u=true↔tb (BN c pos 0) u=true/\ ∃ t,tb (BN c pos 1) t=true/\ ok u t=true) (hy: ∀ u,tb y u=true↔tb (BN c pos 1) u=true/\ ∃ s,tb (BN c pos 0) s=true/\ ok s u=true):
 ∃ l1 l,DT n (c.cells.getD 0 0) (bits .xor .i64 (-1) x) c q pos pos.length lost=some l1/\ DT n (c.cells.getD 1 0) (bits .xor .i64 (-1) y) c q pos pos.length l1=some l/\ B6 c pos lost c.cells.length (IL ok c pos) l:=by
 have c0:=W.cells 0 (by omega);have c1:=W.cells 1 (by omega);obtain ⟨l1,e1,n1,f1⟩:=KJ (lost:=lost) (n:=n) (ss:=bits .xor .i64 (-1) x) (c:=c) (q:=q) c0.1 c0.2 hl;obtain ⟨l,e2,n2,f2⟩:=KJ (lost:=l1) (n:=n) (ss:=bits .xor .i64 (-1) y) (c:=c) (q:=q) c1.1 c1.2 n1;refine ⟨l1,l,e1,e2,?_⟩;have lt: ∀ {a:Nat} {s:Nat},a<c.cells.length -> tb (BN c pos a) s=true -> s<64:=fun {a s} ha h=>zEl fun DL=>by rw [UZ DL] at h;cases h
 rw [h2];refine B6.step (i:=1) (l:=l1) (B6.step (i:=0) (l:=lost) (B6.zero hl) n1 fun j s=>?_) n2 fun j s=>?_
 ·rw [f1,zDh,zAL,zAL,zAi];constructor
  ·rintro (h | ⟨rfl,h3,h4⟩)
   ·exact .inl h
   ·refine .inr ⟨rfl,h3,?_⟩;rw [UY _ (lt (a:=0) (by omega) h3)] at h4;unfold IL;rw [zAB rfl];intro h5;rw [(hx s).2 ⟨h3,h5⟩] at h4;cases h4
  ·rintro (h | ⟨rfl,h3,h4⟩)
   ·exact .inl h
   ·refine .inr ⟨rfl,h3,?_⟩;rw [UY _ (lt (a:=0) (by omega) h3)];unfold IL at h4;rw [zAB rfl] at h4;cases hb:tb x s
    ·rfl
    ·exact absurd ((hx s).1 hb).2 h4
 ·rw [f2,zDh,zAL,zAL,zAi];constructor
  ·rintro (h | ⟨rfl,h3,h4⟩)
   ·exact .inl h
   ·refine .inr ⟨rfl,h3,?_⟩;rw [UY _ (lt (a:=1) (by omega) h3)] at h4;unfold IL;rw [zAZ (by decide)];intro h5;rw [(hy s).2 ⟨h3,h5⟩] at h4;cases h4
  ·rintro (h | ⟨rfl,h3,h4⟩)
   ·exact .inl h
   ·refine .inr ⟨rfl,h3,?_⟩;rw [UY _ (lt (a:=1) (by omega) h3)];unfold IL at h4;rw [zAZ (by decide)] at h4;cases hb:tb y s
    ·rfl
    ·exact absurd ((hy s).1 hb).2 h4
theorem zDQ {n:Nat} (W:C2 c k pos) (V:FN q k) (h2:c.cells.length=2) (hl:lost.length=pos.length):
 ∃ l,OW n c q pos pos.length lost=some (true,l)/\ B6 c pos lost c.cells.length (IL (IP q c) c pos) l:=by
 have c0:=W.cells 0 (by omega);have c1:=W.cells 1 (by omega);have s0:=W.at (a:=0) (by omega);have s1:=W.at (a:=1) (by omega);have hk:=W.k;have g: ∀ s:Nat,s<k -> (0:Int)<=(s:Int)/\ (s:Int)<=((IntKind.i64.bits:Nat):Int):=fun s hs=>⟨by omega,by show (s:Int)<=64;omega⟩
 obtain ⟨x,y,e,hx,hy⟩:=iS KA.s0 KB.s0 (VZ n c q pos pos.length) (Va n c q pos pos.length) (IP q c) s0 s1 hk
  (fun s t l x y hs ht=>by
   unfold VZ ic VY
   dsimp only
   rw [zDP V hs ht,zAA];cases IP q c s t
   ·rfl
   ·simp only [zAK,zAO];rw [zAB ⟨g s hs,g t ht⟩])
  (fun s l x y x' y' hs he=>by
   unfold Va ib VX
   dsimp only
   rw [zAB (show 0<=pos.getD (c.cells.getD 1 0).toNat 0/\ pos.getD (c.cells.getD 1 0).toNat 0<9223372036854775808 from s1.i63 hk)];refine (congrArg (fun z=>Option.bind z _) he).trans ?_;rfl) lost
 obtain ⟨l1,l,e1,e2,hL⟩:=iT (n:=n) (q:=q) W h2 hl (IP q c) hx hy;refine ⟨l,?_,hL⟩;unfold OW cx ZR iZ;rw [zAB ⟨by omega,by omega,c0,c1,s0.i63 hk⟩];refine (congrArg (fun z=>Option.bind (Option.bind z _) _) e).trans ?_;rw [zAA];simp only;rw [e1,zAA,e2];rfl
theorem ud {n:Nat} (W:C2 c k pos) (h2:c.cells.length=2) (hl:lost.length=pos.length):
 ∃ l,NO n c q pos pos.length lost=some (true,l)/\ B6 c pos lost c.cells.length (IL (Hi c) c pos) l:=by
 have c0:=W.cells 0 (by omega);have c1:=W.cells 1 (by omega);have s0:=W.at (a:=0) (by omega);have s1:=W.at (a:=1) (by omega);have hk:=W.k;have g: ∀ s:Nat,s<k -> (0:Int)<=(s:Int)/\ (s:Int)<=((IntKind.i64.bits:Nat):Int):=fun s hs=>⟨by omega,by show (s:Int)<=64;omega⟩
 obtain ⟨x,y,e,hx,hy⟩:=iS J8.s0 J9.s0 (VV n c q pos pos.length) (VW n c q pos pos.length) (Hi c) s0 s1 hk
  (fun s t l x y hs ht=>by
   unfold VV iW VU
   dsimp only
   rw [uc (by omega) (by omega),zAA];cases Hi c s t
   ·rfl
   ·simp only [zAK,zAO];rw [zAB ⟨g s hs,g t ht⟩])
  (fun s l x y x' y' hs he=>by
   unfold VW iV VT
   dsimp only
   rw [zAB (show 0<=pos.getD (c.cells.getD 1 0).toNat 0/\ pos.getD (c.cells.getD 1 0).toNat 0<9223372036854775808 from s1.i63 hk)];refine (congrArg (fun z=>Option.bind z _) he).trans ?_;rfl) lost
 obtain ⟨l1,l,e1,e2,hL⟩:=iT (n:=n) (q:=q) W h2 hl (Hi c) hx hy;refine ⟨l,?_,hL⟩;unfold NO Ze ZQ iU;rw [zAB ⟨by omega,by omega,c0,c1,s0.i63 hk⟩];refine (congrArg (fun z=>Option.bind (Option.bind z _) _) e).trans ?_;rw [zAA];simp only;rw [e1,zAA,e2];rfl
end
end Go.Proofs.YtkjbblkieglmlaaGreatDoor
namespace Go.Proofs.YtkjbblkieglmlaaGreatDoor
open Go.RowKit
set_option maxRecDepth 100000
set_option maxHeartbeats 40000000
def eX:ST:=.rd 0 (.rd 1 (.rd 2 (.rd 3 (.rd 4 (.rd 6 (.rd 7 (.rd 8 (.rd 9 (.rd 10 (.ef 5 (.rd 12 (.ef 11 (.rd 13 (.fin [0,1] [0,2,3])) (.no))) (.ef 11 (.ef 5 (.rd 12 (.rd 13 (.fin [1,0] [0,2,3]))) (.no)) (.no))))))))))))
theorem qt:Bq (Ag Tryz.f168 1) [5,11] eX:=by unfold Bq;kernel_rfl
def eW:ST:=.rd 0 (.rd 1 (.rd 2 (.rd 3 (.rd 4 (.rd 5 (.rd 6 (.rd 7 (.rd 8 (.rd 9 (.rd 10 (.rd 11 (.rd 12 (.rd 13 (.rd 14 (.rd 15 (.rd 16 (.rd 17 (.rd 18 (.rd 19 (.rd 20 (.rd 21 (.rd 22 (.rd 23 (.rd 24 (.rd 25 (.rd 26 (.rd 27 (.rd 28 (.rd 29 (.rd 30 (.rd 31 (.rd 32 (.ef 33 (.rd 34 (.ef 35 (.fin [] [0,2,3,30,31,32]) (.no))) (.no))))))))))))))))))))))))))))))))))
theorem qs:Bq (Ag Tryz.f168 5) [33] eW:=by unfold Bq;kernel_rfl
def It:Bi:=fun i=>match i with
 | 1=>.tre [5,11] eX
 | 5=>.tre [33] eW
 | _=>.no
def YH (pos:List Int) (c:AB) (q:AA) (ln:Nat) (lost:List Int):St:=⟨(AG 120 [(0,.ref 0 0),(2,.msl 2 1 0 pos.length),(3,.msl 3 1 0 pos.length)]),([some (.cells (AJ c++AC q++[.ints pos,.msl 1 1 0 ln])),some (.ints lost),some (.bools (List.replicate pos.length false)),some (.bools (List.replicate pos.length false))]:DH)⟩
def d8 (pos:List Int) (c:AB) (DD:Int) (q:AA) (ln:Nat) (lost:List Int) (o2 o3:List Bool):St:=⟨(AG 120 [(0,.ref 0 0),(2,.msl 2 1 0 pos.length),(3,.msl 3 1 0 pos.length),(30,.ints c.cells),(31,.i (c.cells.length:Int)),(32,.i DD)]),([some (.cells (AJ c++AC q++[.ints pos,.msl 1 1 0 ln])),some (.ints lost),some (.bools (o2.set (0+((c.cells.getD ((DD).toNat) 0).toNat)) ((bits .and .i64 (pos.getD ((c.cells.getD ((DD).toNat) 0).toNat) 0) c.set) != 0))),some (.bools (o3.set (0+((c.cells.getD ((DD).toNat) 0).toNat)) ((bits .andNot .i64 (pos.getD ((c.cells.getD ((DD).toNat) 0).toNat) 0) c.set)==0)))]:DH)⟩
def kV (c:AB) (q:AA) (pos:List Int) (ln:Nat) (lost:List Int) (o2 o3:List Bool):DH:=[some (.cells (AJ c++AC q++[.ints pos,.msl 1 1 0 ln])),some (.ints lost),some (.bools o2),some (.bools o3)]
def kU (c:AB) (q:AA) (pos:List Int) (ln:Nat) (lost:List Int) (o3:List Bool) (y2:(List Bool)):DH:=[some (.cells (AJ c++AC q++[.ints pos,.msl 1 1 0 ln])),some (.ints lost),none,some (.bools o3),some (.bools y2)]
inductive PG where
 | l1 (DD:Int) (o2 o3:List Bool)
 | l2 (E6:List Bool) (x8:Nat) (HU:List Int) (K1 Fv:Int) (o2 o3:List Bool)
 | l3 (E6:List Bool) (x8:Nat) (Jq Ff:Int) (o1:List Int) (o2 o3:List Bool)
def SC (n:Nat) (self:PG -> Option ((List Bool)×(List Bool)×Bool×(List Int))) (c:AB) (q:AA) (pos:List Int) (ln:Nat) (lost:List Int) (DD:Int) (o2 o3:List Bool):Option ((List Bool)×(List Bool)×Bool×(List Int)):=
 bif (decide (DD<(c.cells.length:Int))) then
  if (0<=DD/\ DD<(c.cells.length:Int))/\ (0<=(c.cells.getD ((DD).toNat) 0)/\ (c.cells.getD ((DD).toNat) 0)<(pos.length:Int))/\ 0+((c.cells.getD ((DD).toNat) 0).toNat)<o2.length/\ 0+((c.cells.getD ((DD).toNat) 0).toNat)<o3.length/\ AL (DD+1) then
   self (.l1 (DD+1) (o2.set (0+((c.cells.getD ((DD).toNat) 0).toNat)) ((bits .and .i64 (pos.getD ((c.cells.getD ((DD).toNat) 0).toNat) 0) c.set) != 0)) (o3.set (0+((c.cells.getD ((DD).toNat) 0).toNat)) ((bits .andNot .i64 (pos.getD ((c.cells.getD ((DD).toNat) 0).toNat) 0) c.set)==0)))
  else none
 else
  if pos.length=o3.length then
   (WK n o3 true).bind fun y1=>
    bif (decide (y1<0)) then
     if pos.length=o2.length then
      some (o2,o3,false,lost)
     else none
    else
     if pos.length=o2.length then
      (OL n o2).bind fun y2=>
       (QJ n q.nbrs o2 y1).bind fun y3=>
        self (.l2 o2 y2.length y3.1 (y3.1.length:Int) 0 o3 y2)
     else none
  else none
def SB (n:Nat) (self:PG -> Option ((List Bool)×(List Bool)×Bool×(List Int))) (c:AB) (q:AA) (pos:List Int) (ln:Nat) (lost:List Int) (E6:List Bool) (x8:Nat) (HU:List Int) (K1 Fv:Int) (o2 o3:List Bool):Option ((List Bool)×(List Bool)×Bool×(List Int)):=
 bif (decide (Fv<K1)) then
  if (0<=Fv/\ Fv<(HU.length:Int))/\ (0<=(HU.getD ((Fv).toNat) 0)/\ (HU.getD ((Fv).toNat) 0)<(x8:Int))/\ 0+((HU.getD ((Fv).toNat) 0).toNat)<o3.length/\ AL (Fv+1) then
   self (.l2 E6 x8 HU K1 (Fv+1) o2 (o3.set (0+((HU.getD ((Fv).toNat) 0).toNat)) false))
  else none
 else
  self (.l3 E6 x8 (x8:Int) 0 lost o2 o3)
def Rz (n:Nat) (self:PG -> Option ((List Bool)×(List Bool)×Bool×(List Int))) (c:AB) (q:AA) (pos:List Int) (ln:Nat) (lost:List Int) (E6:List Bool) (x8:Nat) (Jq Ff:Int) (o1:List Int) (o2 o3:List Bool):Option ((List Bool)×(List Bool)×Bool×(List Int)):=
 bif (decide (Ff<Jq)) then
  if (0<=Ff/\ Ff<(x8:Int))/\ 0+((Ff).toNat)<o3.length then
   bif (o3.getD (0+((Ff).toNat)) false) then
    (DT n Ff c.set c q pos ln o1).bind fun y1=>
     if AL (Ff+1) then
      self (.l3 E6 x8 Jq (Ff+1) y1 o2 o3)
     else none
   else
    if AL (Ff+1) then
     self (.l3 E6 x8 Jq (Ff+1) o1 o2 o3)
    else none
  else none
 else
  if pos.length=o2.length then
   some (E6,o2,true,o1)
  else none
def iz (n:Nat) (self:PG -> Option ((List Bool)×(List Bool)×Bool×(List Int))) (c:AB) (q:AA) (pos:List Int) (ln:Nat) (lost:List Int):Option ((List Bool)×(List Bool)×Bool×(List Int)):=
 if ((pos.length:Int):Int)=(pos.length:Int)/\ 0<=(pos.length:Int)/\ ((pos.length:Int):Int)<=1000000000000 then
  self (.l1 0 (List.replicate pos.length false) (List.replicate pos.length false))
 else none
def Ef (c:AB) (q:AA) (pos:List Int) (ln:Nat) (lost:List Int):Nat -> PG -> Option ((List Bool)×(List Bool)×Bool×(List Int))
 | 0,_=>none
 | n+1,.l1 DD o2 o3=>SC n (Ef c q pos ln lost n) c q pos ln lost DD o2 o3
 | n+1,.l2 E6 x8 HU K1 Fv o2 o3=>SB n (Ef c q pos ln lost n) c q pos ln lost E6 x8 HU K1 Fv o2 o3
 | n+1,.l3 E6 x8 Jq Ff o1 o2 o3=>Rz n (Ef c q pos ln lost n) c q pos ln lost E6 x8 Jq Ff o1 o2 o3
def NQ (n:Nat) (c:AB) (q:AA) (pos:List Int) (ln:Nat) (lost:List Int):Option ((List Bool)×(List Bool)×Bool×(List Int)):=iz n (Ef c q pos ln lost n) c q pos ln lost
def uj (n B:Nat) (N:Yd 2) (c:AB) (q:AA) (pos:List Int) (ln:Nat) (lost:List Int) (r:(List Bool)×(List Bool)×Bool×(List Int)):PG -> Prop
 | .l1 DD o2 o3=>∀ m0:Nat,n<=m0 -> TW B N (FQ Tryz.f168 2 (.tup 3 (L1 [.bools r.1,.bools r.2.1,.bool r.2.2.1])) [some (.cells (AJ c++AC q++[.ints pos,.msl 1 1 0 ln])),some (.ints r.2.2.2)]) (A8 m0 (BL (AY Tryz.f168) 0 [])) ⟨AG 120 [(0,.ref 0 0),(2,.msl 2 1 0 pos.length),(3,.msl 3 1 0 pos.length),(30,.ints c.cells),(31,.i (c.cells.length:Int)),(32,.i DD)],[some (.cells (AJ c++AC q++[.ints pos,.msl 1 1 0 ln])),some (.ints lost),some (.bools o2),some (.bools o3)]⟩
 | .l2 E6 x8 HU K1 Fv o2 o3=>∀ m0:Nat,n<=m0 -> TW B N (FQ Tryz.f168 2 (.tup 3 (L1 [.bools r.1,.bools r.2.1,.bool r.2.2.1])) [some (.cells (AJ c++AC q++[.ints pos,.msl 1 1 0 ln])),some (.ints r.2.2.2)]) (A8 m0 (BL (AY Tryz.f168) 2 [])) ⟨AG 120 [(0,.ref 0 0),(2,.bools E6),(3,.msl 2 1 0 pos.length),(8,.msl 3 1 0 x8),(90,.ints HU),(91,.i K1),(92,.i Fv)],[some (.cells (AJ c++AC q++[.ints pos,.msl 1 1 0 ln])),some (.ints lost),some (.bools o2),some (.bools o3)]⟩
 | .l3 E6 x8 Jq Ff o1 o2 o3=>∀ m0:Nat,n<=m0 -> TW B N (FQ Tryz.f168 2 (.tup 3 (L1 [.bools r.1,.bools r.2.1,.bool r.2.2.1])) [some (.cells (AJ c++AC q++[.ints pos,.msl 1 1 0 ln])),some (.ints r.2.2.2)]) (A8 m0 (BL (AY Tryz.f168) 4 [])) ⟨AG 120 [(0,.ref 0 0),(2,.bools E6),(3,.msl 2 1 0 pos.length),(8,.msl 3 1 0 x8),(101,.i Jq),(102,.i Ff)],[some (.cells (AJ c++AC q++[.ints pos,.msl 1 1 0 ln])),some (.ints o1),some (.bools o2),some (.bools o3)]⟩
theorem uk (B:Nat) (N:Yd 2) (c:AB) (q:AA) (pos:List Int) (ln:Nat) (lost:List Int):Al (Ef c q pos ln lost) (uj · B N c q pos ln lost):=ia (fun _=>rfl) fun n AK pt r h=>by
 cases pt
 case l1 DD o2 o3=>
  intro m0 AD;refine rd AD fun m0 AD=>?_
  revert r;apply gO
  exact bi 33 (gc (gi (jg qs (gc (gn fun g1=>jg g1 (jg g1 (jg g1 (gc (gi (jg g1 (gc (gi (jg (Eq.refl (d8 pos c DD q ln lost o2 o3)) (gw 70 (lG (tg:=[([(33,2)],(d8 pos c DD q ln lost o2 o3))]) It [0,1,2,3] (AK _ _ · m0 AD)))))))))))))))) (gn fun g0=>cn fun y1 A5=>jc (sb [.msl 3 1 0 pos.length,.bool true] (ww A5) (kV c q pos ln lost o2 o3) ⟨Ad.bools rfl g0,Ad.plain (by kernel_rfl),trivial⟩) (bi 74 (gn fun g1=>lF fun p=>ez It [2,3,4] [0,1,2,3] p [2,3] (H0.g g1 |>.g g0)) (gn fun g1=>cn fun y2 Bz=>jc (ES.snapNew (ds:=[.msl 2 1 0 pos.length]) (mq Bz) (kV c q pos ln lost o2 o3) ⟨Ad.bools rfl g1,trivial⟩ rfl) (fun p r h=>by
   refine gz (AR 11 It) [0,1,2,3,4] p [2] (H0.g g1) (CO (AY Tryz.f168) 11 []) (AG 120 [(0,.ref 0 0),(2,.bools o2),(3,.msl 3 1 0 pos.length),(7,.i y1),(8,.msl 4 1 0 y2.length)]) (kU c q pos ln lost o3 y2) ?_;revert r;apply gO;exact cf zCa (kU c q pos ln lost o3 y2) fun _=>lN It [0,1,3,4] (AK _ _ · n Nat.le.refl)))))
 case l2 E6 x8 HU K1 Fv o2 o3=>
  intro m0 AD;refine rd AD fun m0 AD=>?_
  revert r;apply gO;exact bi 93 (gc (gi (gc (gi (gc (gi (gw 99 (lG It [0,1,2,3] (AK _ _ · m0 AD))))))))) (lN It [0,1,2,3] (AK _ _ · n Nat.le.refl))
 case l3 E6 x8 Jq Ff o1 o2 o3=>
  intro m0 AD;refine rd AD fun m0 AD=>?_
  revert r;apply gO;exact bi 103 (gc (gi (gi (bi 108 (ce Fp [0,1] [some (.cells (AJ c++AC q++[.ints pos,.msl 1 1 0 ln])),some (.ints o1),some (.bools o2),some (.bools o3)] fun _=>gw 117 (lG It [0,1,2,3] (AK _ _ · m0 AD))) (gw 117 (lG It [0,1,2,3] (AK _ _ · m0 AD))))))) (gn fun g0=>lF fun p=>ez It [2,3,4] [0,1,2] p [2] (H0.g g0))
theorem iy {n:Nat} {c:AB} {q:AA} {pos:List Int} {ln:Nat} {lost:List Int} {r:(List Bool)×(List Bool)×Bool×(List Int)} (h:NQ n c q pos ln lost=some r):EQ 168 [.ref 0 0] [some (.cells (AJ c++AC q++[.ints pos,.msl 1 1 0 ln])),some (.ints lost)] (.tup 3 (L1 [.bools r.1,.bools r.2.1,.bool r.2.2.1])) [some (.cells (AJ c++AC q++[.ints pos,.msl 1 1 0 ln])),some (.ints r.2.2.2)] false:=by
 refine ot Tryz.func168 fun B N=>?_
 revert r;apply gO;exact jg qt (gn fun g0=>jg g0 (jg g0 (jg (Eq.refl (YH pos c q ln lost)) (jg g0 (jg g0 (jg (Eq.refl (YH pos c q ln lost)) (lN (tg:=[([],(YH pos c q ln lost))]) It [0,1,2,3] ((uk B N c q pos ln lost n) _ _ · n Nat.le.refl))))))))
inductive XU where
 | l1 (x3 x4:List Bool) (x5:Bool) (Ab BH:Int) (o1:List Int)
def Tq (n:Nat) (self:XU -> Option (Bool×(List Int))) (c:AB) (q:AA) (pos:List Int) (ln:Nat) (lost:List Int) (x3 x4:List Bool) (x5:Bool) (Ab BH:Int) (o1:List Int):Option (Bool×(List Int)):=
 bif (decide (BH<Ab)) then
  bif (!x5) then
   if AL (BH+1) then
    self (.l1 x3 x4 x5 Ab (BH+1) o1)
   else none
  else
   if 0<=BH/\ BH<(x3.length:Int) then
    bif (!(x3.getD ((BH).toNat) false)) then
     if AL (BH+1) then
      self (.l1 x3 x4 x5 Ab (BH+1) o1)
     else none
    else
     if 0<=BH/\ BH<(x4.length:Int) then
      bif (x4.getD ((BH).toNat) false) then
       if AL (BH+1) then
        self (.l1 x3 x4 x5 Ab (BH+1) o1)
       else none
      else
       (Mr n q.nbrs x3 x4 BH).bind fun y1=>
        bif y1.1 then
         (GC n BH c q pos ln o1).bind fun y2=>
          if AL (BH+1) then
           self (.l1 x3 x4 x5 Ab (BH+1) y2)
          else none
        else
         if AL (BH+1) then
          self (.l1 x3 x4 x5 Ab (BH+1) o1)
         else none
     else none
   else none
 else
  some (true,o1)
def zCS (n:Nat) (self:XU -> Option (Bool×(List Int))) (c:AB) (q:AA) (pos:List Int) (ln:Nat) (lost:List Int):Option (Bool×(List Int)):=
 (NQ n c q pos ln lost).bind fun y1=>
  self (.l1 y1.1 y1.2.1 y1.2.2.1 (y1.1.length:Int) 0 y1.2.2.2)
def MN (c:AB) (q:AA) (pos:List Int) (ln:Nat) (lost:List Int):Nat -> XU -> Option (Bool×(List Int))
 | 0,_=>none
 | n+1,.l1 x3 x4 x5 Ab BH o1=>Tq n (MN c q pos ln lost n) c q pos ln lost x3 x4 x5 Ab BH o1
def XV (n:Nat) (c:AB) (q:AA) (pos:List Int) (ln:Nat) (lost:List Int):Option (Bool×(List Int)):=zCS n (MN c q pos ln lost n) c q pos ln lost
def zCT (n B:Nat) (N:Yd 2) (c:AB) (q:AA) (pos:List Int) (ln:Nat) (lost:List Int) (r:Bool×(List Int)):XU -> Prop
 | .l1 x3 x4 x5 Ab BH o1=>∀ m0:Nat,n<=m0 -> TW B N (FQ Tryz.f139 2 (.bool r.1) [some (.cells (AJ c++AC q++[.ints pos,.msl 1 1 0 ln])),some (.ints r.2)]) (A8 m0 (BL (AY Tryz.f139) 0 [])) ⟨AG 52 [(0,.ref 0 0),(3,.bools x3),(4,.bools x4),(5,.bool x5),(16,.i Ab),(17,.i BH)],[some (.cells (AJ c++AC q++[.ints pos,.msl 1 1 0 ln])),some (.ints o1)]⟩
theorem zCU (B:Nat) (N:Yd 2) (c:AB) (q:AA) (pos:List Int) (ln:Nat) (lost:List Int):Al (MN c q pos ln lost) (zCT · B N c q pos ln lost):=ia (fun _=>rfl) fun n AK pt r h=>by
 cases pt
 case l1 x3 x4 x5 Ab BH o1=>
  intro m0 AD;refine rd AD fun m0 AD=>?_
  revert r;apply gO;exact bi 18 (bi 21 (gw 51 (lG AE [0,1] (AK _ _ · m0 AD))) (gi (bi 27 (gw 51 (lG AE [0,1] (AK _ _ · m0 AD))) (gi (bi 33 (gw 51 (lG AE [0,1] (AK _ _ · m0 AD))) (cf pM [some (.cells (AJ c++AC q++[.ints pos,.msl 1 1 0 ln])),some (.ints o1)] fun _=>bi 45 (ce LZ [0,1] [some (.cells (AJ c++AC q++[.ints pos,.msl 1 1 0 ln])),some (.ints o1)] fun _=>gw 51 (lG AE [0,1] (AK _ _ · m0 AD))) (gw 51 (lG AE [0,1] (AK _ _ · m0 AD))))))))) (lE AE [2] [0,1])
theorem zCR {n:Nat} {c:AB} {q:AA} {pos:List Int} {ln:Nat} {lost:List Int} {r:Bool×(List Int)} (h:XV n c q pos ln lost=some r):EQ 139 [.ref 0 0] [some (.cells (AJ c++AC q++[.ints pos,.msl 1 1 0 ln])),some (.ints lost)] (.bool r.1) [some (.cells (AJ c++AC q++[.ints pos,.msl 1 1 0 ln])),some (.ints r.2)] false:=by
 refine ot Tryz.func139 fun B N=>?_
 revert r;apply gO;exact ce iy [0,1] [some (.cells (AJ c++AC q++[.ints pos,.msl 1 1 0 ln])),some (.ints lost)] fun _=>lN AE [0,1] ((zCU B N c q pos ln lost n) _ _ · n Nat.le.refl)
inductive Ld where
 | l1 (x3 x4:List Bool) (x20 x21:Int) (o1:List Int)
 | l2 (x3 x4:List Bool) (x8 x20 x21:Int) (BM:List Int) (CC BG:Int) (o1:List Int)
 | l3 (x3 x4:List Bool) (x7:Nat) (x8 x20 x21:Int) (BM:List Int) (CC BG:Int) (o1 o2:List Int)
 | l4 (x3 x4:List Bool) (x7:Nat) (x8 x20 x21:Int) (Gx:Nat) (Gw Ah:Int) (o1 o2:List Int)
def SN (n:Nat) (self:Ld -> Option (Bool×(List Int))) (c:AB) (q:AA) (pos:List Int) (ln:Nat) (lost:List Int) (x3 x4:List Bool) (x20 x21:Int) (o1:List Int):Option (Bool×(List Int)):=
 bif (decide (x21<x20)) then
  if 0<=x21/\ x21<(x4.length:Int) then
   bif (!(x4.getD ((x21).toNat) false)) then
    if AL (x21+1) then
     self (.l1 x3 x4 x20 (x21+1) o1)
    else none
   else
    if 0<=x21/\ x21<(q.nbrs.length:Int) then
     self (.l2 x3 x4 0 x20 x21 (q.nbrs.getD ((x21).toNat) []) (((q.nbrs.getD ((x21).toNat) []).length:Nat):Int) 0 o1)
    else none
  else none
 else
  some (true,o1)
def SM (n:Nat) (self:Ld -> Option (Bool×(List Int))) (c:AB) (q:AA) (pos:List Int) (ln:Nat) (lost:List Int) (x3 x4:List Bool) (x8 x20 x21:Int) (BM:List Int) (CC BG:Int) (o1:List Int):Option (Bool×(List Int)):=
 bif (decide (BG<CC)) then
  if (0<=BG/\ BG<(BM.length:Int))/\ (0<=(BM.getD ((BG).toNat) 0)/\ (BM.getD ((BG).toNat) 0)<(x3.length:Int)) then
   bif (x3.getD ((BM.getD ((BG).toNat) 0).toNat) false) then
    if ((0=0/\ 1=([BM.getD ((BG).toNat) 0]:List Int).length)/\ 0<([BM.getD ((BG).toNat) 0]:List Int).length/\ ([BM.getD ((BG).toNat) 0]:List Int).length<=BB)/\ (0<=(BM.getD ((BG).toNat) 0)/\ (BM.getD ((BG).toNat) 0)<(x4.length:Int)) then
     bif (x4.getD ((BM.getD ((BG).toNat) 0).toNat) false) then
      if AL (x8+1)/\ AL (BG+1) then
       self (.l3 x3 x4 (([BM.getD ((BG).toNat) 0]:List Int).length) (x8+1) x20 x21 BM CC (BG+1) o1 ([BM.getD ((BG).toNat) 0]:List Int))
      else none
     else
      if AL (BG+1) then
       self (.l3 x3 x4 (([BM.getD ((BG).toNat) 0]:List Int).length) x8 x20 x21 BM CC (BG+1) o1 ([BM.getD ((BG).toNat) 0]:List Int))
      else none
    else none
   else
    if 0<=(BM.getD ((BG).toNat) 0)/\ (BM.getD ((BG).toNat) 0)<(x4.length:Int) then
     bif (x4.getD ((BM.getD ((BG).toNat) 0).toNat) false) then
      if AL (x8+1)/\ AL (BG+1) then
       self (.l2 x3 x4 (x8+1) x20 x21 BM CC (BG+1) o1)
      else none
     else
      if AL (BG+1) then
       self (.l2 x3 x4 x8 x20 x21 BM CC (BG+1) o1)
      else none
    else none
  else none
 else
  some (false,o1)
def NU (n:Nat) (self:Ld -> Option (Bool×(List Int))) (c:AB) (q:AA) (pos:List Int) (ln:Nat) (lost:List Int) (x3 x4:List Bool) (x7:Nat) (x8 x20 x21:Int) (BM:List Int) (CC BG:Int) (o1 o2:List Int):Option (Bool×(List Int)):=
 bif (decide (BG<CC)) then
  if (0<=BG/\ BG<(BM.length:Int))/\ (0<=(BM.getD ((BG).toNat) 0)/\ (BM.getD ((BG).toNat) 0)<(x3.length:Int)) then
   bif (x3.getD ((BM.getD ((BG).toNat) 0).toNat) false) then
    if ((0=0/\ 1=([BM.getD ((BG).toNat) 0]:List Int).length)/\ (0=0/\ x7=o2.length)/\ o2.length+([BM.getD ((BG).toNat) 0]:List Int).length<=BB)/\ (0<=(BM.getD ((BG).toNat) 0)/\ (BM.getD ((BG).toNat) 0)<(x4.length:Int)) then
     bif (x4.getD ((BM.getD ((BG).toNat) 0).toNat) false) then
      if AL (x8+1)/\ AL (BG+1) then
       self (.l3 x3 x4 (o2.length+([BM.getD ((BG).toNat) 0]:List Int).length) (x8+1) x20 x21 BM CC (BG+1) o1 (o2++([BM.getD ((BG).toNat) 0]:List Int)))
      else none
     else
      if AL (BG+1) then
       self (.l3 x3 x4 (o2.length+([BM.getD ((BG).toNat) 0]:List Int).length) x8 x20 x21 BM CC (BG+1) o1 (o2++([BM.getD ((BG).toNat) 0]:List Int)))
      else none
    else none
   else
    if 0<=(BM.getD ((BG).toNat) 0)/\ (BM.getD ((BG).toNat) 0)<(x4.length:Int) then
     bif (x4.getD ((BM.getD ((BG).toNat) 0).toNat) false) then
      if AL (x8+1)/\ AL (BG+1) then
       self (.l3 x3 x4 x7 (x8+1) x20 x21 BM CC (BG+1) o1 o2)
      else none
     else
      if AL (BG+1) then
       self (.l3 x3 x4 x7 x8 x20 x21 BM CC (BG+1) o1 o2)
      else none
    else none
  else none
 else
  bif (decide ((x7:Int)<2)) then
   some (false,o1)
  else
   bif (decide (x8>2)) then
    some (false,o1)
   else
    self (.l4 x3 x4 x7 x8 x20 x21 x7 (x7:Int) 0 o1 o2)
def SL (n:Nat) (self:Ld -> Option (Bool×(List Int))) (c:AB) (q:AA) (pos:List Int) (ln:Nat) (lost:List Int) (x3 x4:List Bool) (x7:Nat) (x8 x20 x21:Int) (Gx:Nat) (Gw Ah:Int) (o1 o2:List Int):Option (Bool×(List Int)):=
 bif (decide (Ah<Gw)) then
  if (0<=Ah/\ Ah<(Gx:Int))/\ 0+((Ah).toNat)<o2.length then
   bif ((x7:Int)==2) then
    (GC n (o2.getD (0+((Ah).toNat)) 0) c q pos ln o1).bind fun y1=>
     bif (x8==2) then
      if 0<=(o2.getD (0+((Ah).toNat)) 0)/\ (o2.getD (0+((Ah).toNat)) 0)<(x4.length:Int) then
       bif (!(x4.getD ((o2.getD (0+((Ah).toNat)) 0).toNat) false)) then
        (DT n (o2.getD (0+((Ah).toNat)) 0) c.set c q pos ln y1).bind fun y2=>
         if AL (Ah+1) then
          self (.l4 x3 x4 x7 x8 x20 x21 Gx Gw (Ah+1) y2 o2)
         else none
       else
        if AL (Ah+1) then
         self (.l4 x3 x4 x7 x8 x20 x21 Gx Gw (Ah+1) y1 o2)
        else none
      else none
     else
      if AL (Ah+1) then
       self (.l4 x3 x4 x7 x8 x20 x21 Gx Gw (Ah+1) y1 o2)
      else none
   else
    bif (x8==2) then
     if 0<=(o2.getD (0+((Ah).toNat)) 0)/\ (o2.getD (0+((Ah).toNat)) 0)<(x4.length:Int) then
      bif (!(x4.getD ((o2.getD (0+((Ah).toNat)) 0).toNat) false)) then
       (DT n (o2.getD (0+((Ah).toNat)) 0) c.set c q pos ln o1).bind fun y1=>
        if AL (Ah+1) then
         self (.l4 x3 x4 x7 x8 x20 x21 Gx Gw (Ah+1) y1 o2)
        else none
      else
       if AL (Ah+1) then
        self (.l4 x3 x4 x7 x8 x20 x21 Gx Gw (Ah+1) o1 o2)
       else none
     else none
    else
     if AL (Ah+1) then
      self (.l4 x3 x4 x7 x8 x20 x21 Gx Gw (Ah+1) o1 o2)
     else none
  else none
 else
  if AL (x21+1) then
   self (.l1 x3 x4 x20 (x21+1) o1)
  else none
def vL (n:Nat) (self:Ld -> Option (Bool×(List Int))) (c:AB) (q:AA) (pos:List Int) (ln:Nat) (lost:List Int):Option (Bool×(List Int)):=
 (NQ n c q pos ln lost).bind fun y1=>
  self (.l1 y1.1 y1.2.1 (y1.2.1.length:Int) 0 y1.2.2.2)
def CZ (c:AB) (q:AA) (pos:List Int) (ln:Nat) (lost:List Int):Nat -> Ld -> Option (Bool×(List Int))
 | 0,_=>none
 | n+1,.l1 x3 x4 x20 x21 o1=>SN n (CZ c q pos ln lost n) c q pos ln lost x3 x4 x20 x21 o1
 | n+1,.l2 x3 x4 x8 x20 x21 BM CC BG o1=>SM n (CZ c q pos ln lost n) c q pos ln lost x3 x4 x8 x20 x21 BM CC BG o1
 | n+1,.l3 x3 x4 x7 x8 x20 x21 BM CC BG o1 o2=>NU n (CZ c q pos ln lost n) c q pos ln lost x3 x4 x7 x8 x20 x21 BM CC BG o1 o2
 | n+1,.l4 x3 x4 x7 x8 x20 x21 Gx Gw Ah o1 o2=>SL n (CZ c q pos ln lost n) c q pos ln lost x3 x4 x7 x8 x20 x21 Gx Gw Ah o1 o2
def Vs (n:Nat) (c:AB) (q:AA) (pos:List Int) (ln:Nat) (lost:List Int):Option (Bool×(List Int)):=vL n (CZ c q pos ln lost n) c q pos ln lost
def vM (n B:Nat) (N:Yd 2) (c:AB) (q:AA) (pos:List Int) (ln:Nat) (lost:List Int) (r:Bool×(List Int)):Ld -> Prop
 | .l1 x3 x4 x20 x21 o1=>∀ m0:Nat,n<=m0 -> TW B N (FQ Tryz.f140 2 (.bool r.1) [some (.cells (AJ c++AC q++[.ints pos,.msl 1 1 0 ln])),some (.ints r.2)]) (A8 m0 (BL (AY Tryz.f140) 0 [])) ⟨AG 95 [(0,.ref 0 0),(3,.bools x3),(4,.bools x4),(20,.i x20),(21,.i x21)],[some (.cells (AJ c++AC q++[.ints pos,.msl 1 1 0 ln])),some (.ints o1)]⟩
 | .l2 x3 x4 x8 x20 x21 BM CC BG o1=>∀ m0 m1:Nat,n<=m0 -> n<=m1 -> TW B N (FQ Tryz.f140 2 (.bool r.1) [some (.cells (AJ c++AC q++[.ints pos,.msl 1 1 0 ln])),some (.ints r.2)]) (A8 m1 (BL (AY Tryz.f140) 2 [m0])) ⟨AG 95 [(0,.ref 0 0),(3,.bools x3),(4,.bools x4),(7,.nils),(8,.i x8),(20,.i x20),(21,.i x21),(36,.ints BM),(37,.i CC),(38,.i BG)],[some (.cells (AJ c++AC q++[.ints pos,.msl 1 1 0 ln])),some (.ints o1)]⟩
 | .l3 x3 x4 x7 x8 x20 x21 BM CC BG o1 o2=>∀ m0 m1:Nat,n<=m0 -> n<=m1 -> TW B N (FQ Tryz.f140 2 (.bool r.1) [some (.cells (AJ c++AC q++[.ints pos,.msl 1 1 0 ln])),some (.ints r.2)]) (A8 m1 (BL (AY Tryz.f140) 2 [m0])) ⟨AG 95 [(0,.ref 0 0),(3,.bools x3),(4,.bools x4),(7,.msl 2 1 0 x7),(8,.i x8),(20,.i x20),(21,.i x21),(36,.ints BM),(37,.i CC),(38,.i BG)],[some (.cells (AJ c++AC q++[.ints pos,.msl 1 1 0 ln])),some (.ints o1),some (.ints o2)]⟩
 | .l4 x3 x4 x7 x8 x20 x21 Gx Gw Ah o1 o2=>∀ m0 m1:Nat,n<=m0 -> n<=m1 -> TW B N (FQ Tryz.f140 2 (.bool r.1) [some (.cells (AJ c++AC q++[.ints pos,.msl 1 1 0 ln])),some (.ints r.2)]) (A8 m1 (BL (AY Tryz.f140) 4 [m0])) ⟨AG 95 [(0,.ref 0 0),(3,.bools x3),(4,.bools x4),(7,.msl 2 1 0 x7),(8,.i x8),(20,.i x20),(21,.i x21),(64,.msl 2 1 0 Gx),(65,.i Gw),(66,.i Ah)],[some (.cells (AJ c++AC q++[.ints pos,.msl 1 1 0 ln])),some (.ints o1),some (.ints o2)]⟩
theorem vN (B:Nat) (N:Yd 2) (c:AB) (q:AA) (pos:List Int) (ln:Nat) (lost:List Int):Al (CZ c q pos ln lost) (vM · B N c q pos ln lost):=ia (fun _=>rfl) fun n AK pt r h=>by
 cases pt
 case l1 x3 x4 x20 x21 o1=>
  intro m0 AD;refine rd AD fun m0 AD=>?_
  revert r;apply gO;exact bi 22 (gi (bi 28 (gw 94 (lG AE [0,1] (AK _ _ · m0 AD))) (gi (lN AE [0,1] (AK _ _ · m0 n AD Nat.le.refl))))) (lE AE [2] [0,1])
 case l2 x3 x4 x8 x20 x21 BM CC BG o1=>
  intro m0 m1 AD Az;have AD:=zEE AD;refine rd Az fun m1 Az=>?_
  revert r;apply gO;exact bi 39 (gc (gi (gi (bi 45 (gc (gi (gi (bi 53 (gc (gw 55 (gw 56 (lG AE [0,1,3] (AK _ _ · m0 m1 AD Az))))) (gw 56 (lG AE [0,1,3] (AK _ _ · m0 m1 AD Az))))))) (gi (bi 53 (gc (gw 55 (gw 56 (lG AE [0,1] (AK _ _ · m0 m1 AD Az))))) (gw 56 (lG AE [0,1] (AK _ _ · m0 m1 AD Az))))))))) (lE AE [2] [0,1])
 case l3 x3 x4 x7 x8 x20 x21 BM CC BG o1 o2=>
  intro m0 m1 AD Az;have AD:=zEE AD;refine rd Az fun m1 Az=>?_
  revert r;apply gO;exact bi 39 (gc (gi (gi (bi 45 (gc (gi (gi (bi 53 (gc (gw 55 (gw 56 (lG AE [0,1,4] (AK _ _ · m0 m1 AD Az))))) (gw 56 (lG AE [0,1,4] (AK _ _ · m0 m1 AD Az))))))) (gi (bi 53 (gc (gw 55 (gw 56 (lG AE [0,1,2] (AK _ _ · m0 m1 AD Az))))) (gw 56 (lG AE [0,1,2] (AK _ _ · m0 m1 AD Az))))))))) (bi 59 (lE AE [2] [0,1]) (bi 62 (lE AE [2] [0,1]) (lN AE [0,1,2] (AK _ _ · m0 n AD Nat.le.refl))))
 case l4 x3 x4 x7 x8 x20 x21 Gx Gw Ah o1 o2=>
  intro m0 m1 AD Az;have AD:=zEE AD;refine rd Az fun m1 Az=>?_
  revert r;apply gO;exact bi 67 (gc (gi (gi (bi 72 (ce LZ [0,1] [some (.cells (AJ c++AC q++[.ints pos,.msl 1 1 0 ln])),some (.ints o1),some (.ints o2)] fun y1=>bi 77 (gi (bi 83 (ce Fp [0,1] [some (.cells (AJ c++AC q++[.ints pos,.msl 1 1 0 ln])),some (.ints y1),some (.ints o2)] fun _=>gw 93 (lG AE [0,1,2] (AK _ _ · m0 m1 AD Az))) (gw 93 (lG AE [0,1,2] (AK _ _ · m0 m1 AD Az))))) (gw 93 (lG AE [0,1,2] (AK _ _ · m0 m1 AD Az)))) (bi 77 (gi (bi 83 (ce Fp [0,1] [some (.cells (AJ c++AC q++[.ints pos,.msl 1 1 0 ln])),some (.ints o1),some (.ints o2)] fun _=>gw 93 (lG AE [0,1,2] (AK _ _ · m0 m1 AD Az))) (gw 93 (lG AE [0,1,2] (AK _ _ · m0 m1 AD Az))))) (gw 93 (lG AE [0,1,2] (AK _ _ · m0 m1 AD Az)))))))) (gw 94 (lG AE [0,1] (AK _ _ · m0 AD)))
theorem vK {n:Nat} {c:AB} {q:AA} {pos:List Int} {ln:Nat} {lost:List Int} {r:Bool×(List Int)} (h:Vs n c q pos ln lost=some r):EQ 140 [.ref 0 0] [some (.cells (AJ c++AC q++[.ints pos,.msl 1 1 0 ln])),some (.ints lost)] (.bool r.1) [some (.cells (AJ c++AC q++[.ints pos,.msl 1 1 0 ln])),some (.ints r.2)] false:=by
 refine ot Tryz.func140 fun B N=>?_
 revert r;apply gO;exact ce iy [0,1] [some (.cells (AJ c++AC q++[.ints pos,.msl 1 1 0 ln])),some (.ints lost)] fun _=>lN AE [0,1] ((vN B N c q pos ln lost n) _ _ · n Nat.le.refl)
end Go.Proofs.YtkjbblkieglmlaaGreatDoor
namespace Go.Proofs.YtkjbblkieglmlaaGreatDoor
open Go.RowKit
set_option maxRecDepth 100000
set_option maxHeartbeats 40000000
def eZ:ST:=.rd 0 (.rd 1 (.rd 2 (.rd 3 (.rd 4 (.rd 5 (.rd 6 (.rd 7 (.rd 8 (.rd 9 (.rd 10 (.rd 11 (.rd 12 (.rd 13 (.rd 14 (.rd 15 (.rd 16 (.rd 17 (.rd 18 (.rd 19 (.rd 20 (.rd 21 (.rd 22 (.rd 23 (.rd 24 (.rd 25 (.rd 26 (.rd 27 (.rd 28 (.ef 29 (.rd 30 (.fin [] [5,6])) (.no))))))))))))))))))))))))))))))
theorem qx:Bq (Ag Tryz.f163 2) [29] eZ:=by unfold Bq;kernel_rfl
def eY:ST:=.rd 0 (.rd 1 (.rd 2 (.rd 3 (.rd 4 (.rd 5 (.rd 6 (.rd 7 (.rd 8 (.rd 9 (.rd 10 (.rd 11 (.rd 12 (.rd 13 (.rd 14 (.rd 15 (.ef 16 (.rd 17 (.fin [] [5,6])) (.no)))))))))))))))))
theorem qw:Bq (Ag Tryz.f163 5) [16] eY:=by unfold Bq;kernel_rfl
def Uu:Bi:=fun i=>match i with
 | 2=>.tre [29] eZ
 | 5=>.tre [16] eY
 | _=>.no
def eB (s_:Int×Int) (c:AB) (q:AA) (pos:List Int) (ln:Nat) (lost:List Int):St:=⟨(AG 59 [(5,.ref 4 0),(6,.bool (decide (s_.2<(c.runs.getD ((s_.1).toNat) 0))))]),([some (.cells [.ref 1 0]),some (.cells (AJ c++AC q++[.ints pos,.msl 2 1 0 ln])),some (.ints lost),some (.cells [.i s_.1,.i s_.2]),some (.cells [.i s_.1,.i (s_.2+1)])]:DH)⟩
def eA (c:AB) (q:AA) (pos:List Int) (ln:Nat) (lost:List Int) (s_:Int×Int):St:=⟨(AG 59 [(5,.ref 4 0),(6,.bool false)]),([some (.cells [.ref 1 0]),some (.cells (AJ c++AC q++[.ints pos,.msl 2 1 0 ln])),some (.ints lost),some (.cells [.i s_.1,.i s_.2]),some (.cells [.i s_.1,.i (s_.2+1)])]:DH)⟩
def d9 (s_:Int×Int) (c:AB) (q:AA) (pos:List Int) (ln:Nat) (lost:List Int):St:=⟨(AG 59 [(5,.ref 4 0),(6,.bool (s_.2==(c.runs.getD ((s_.1).toNat) 0)))]),([some (.cells [.ref 1 0]),some (.cells (AJ c++AC q++[.ints pos,.msl 2 1 0 ln])),some (.ints lost),some (.cells [.i s_.1,.i s_.2]),some (.cells [.i (s_.1+1),.i 0])]:DH)⟩
def i8 (n:Nat) (s_:Int×Int) (AU:Bool) (c:AB) (q:AA) (pos:List Int) (ln:Nat) (lost:List Int):Option ((Int×Int)×Bool×(List Int)):=
 bif AU then
  if AL (s_.2+1) then
   bif (decide (s_.1<(c.runs.length:Int))) then
    if 0<=s_.1/\ s_.1<(c.runs.length:Int) then
     some ((s_.1,(s_.2+1)),(decide (s_.2<(c.runs.getD ((s_.1).toNat) 0))),lost)
    else none
   else
    some ((s_.1,(s_.2+1)),false,lost)
  else none
 else
  bif (s_.2==0) then
   some ((s_.1,s_.2),true,lost)
  else
   if AL (s_.1+1)/\ (0<=s_.1/\ s_.1<(c.runs.length:Int)) then
    some (((s_.1+1),0),(s_.2==(c.runs.getD ((s_.1).toNat) 0)),lost)
   else none
def SH (n:Nat) (s_:Int×Int) (AU:Bool) (c:AB) (q:AA) (pos:List Int) (ln:Nat) (lost:List Int):Option ((Int×Int)×Bool×(List Int)):=i8 n s_ AU c q pos ln lost
theorem La {n:Nat} {s_:Int×Int} {AU:Bool} {c:AB} {q:AA} {pos:List Int} {ln:Nat} {lost:List Int} {r:(Int×Int)×Bool×(List Int)} (h:SH n s_ AU c q pos ln lost=some r):EQ 163 [.agg 2 (L1 [.i s_.1,.i s_.2]),.bool AU,.ref 0 0] [some (.cells [.ref 1 0]),some (.cells (AJ c++AC q++[.ints pos,.msl 2 1 0 ln])),some (.ints lost)] (.tup 2 (L1 [.agg 2 (L1 [.i r.1.1,.i r.1.2]),.bool r.2.1])) [some (.cells [.ref 1 0]),some (.cells (AJ c++AC q++[.ints pos,.msl 2 1 0 ln])),some (.ints r.2.2)] false:=by
 refine ot Tryz.func163 fun B N=>?_
 revert r;apply gO;exact bi 8 (jg qx (gw 13 (bi 23 (gi (jt (jg (Eq.refl (eB s_ c q pos ln lost)) (lE (tg:=[([(29,4)],(eB s_ c q pos ln lost))]) Uu [5,6] [0,1,2,4])))) (jt (jg (Eq.refl (eA c q pos ln lost s_)) (lE (tg:=[([(29,4)],(eA c q pos ln lost s_))]) Uu [5,6] [0,1,2,4])))))) (bi 41 (jt (lE Uu [5,6] [0,1,2,4])) (jg qw (gc (gw 45 (gi (jt (jg (Eq.refl (d9 s_ c q pos ln lost)) (lE (tg:=[([(16,4)],(d9 s_ c q pos ln lost))]) Uu [5,6] [0,1,2,4]))))))))
theorem rF:Ar (Ag Tryz.f164 2) [] (List.range 22) []:=by unfold Ar;kernel_rfl
theorem rD:Ar (Ag Tryz.f164 3) [] (List.range 22) []:=by unfold Ar;kernel_rfl
def f5:Bi:=fun i=>match i with
 | 2=>.ord [] (List.range 22) []
 | 3=>.ord [] (List.range 22) []
 | _=>.no
def jd (n:Nat) (i_:Int) (AU:Bool) (c:AB) (q:AA) (pos:List Int) (ln:Nat) (lost:List Int):Option (Bool×(List Int)):=
 bif AU then
  if (0<=i_/\ i_<(c.cells.length:Int))/\ (0<=(c.cells.getD ((i_).toNat) 0)/\ (c.cells.getD ((i_).toNat) 0)<(pos.length:Int)) then
   some (((bits .and .i64 (pos.getD ((c.cells.getD ((i_).toNat) 0).toNat) 0) c.set) != 0),lost)
  else none
 else
  if (0<=i_/\ i_<(c.cells.length:Int))/\ (0<=(c.cells.getD ((i_).toNat) 0)/\ (c.cells.getD ((i_).toNat) 0)<(pos.length:Int)) then
   some (((bits .andNot .i64 (pos.getD ((c.cells.getD ((i_).toNat) 0).toNat) 0) c.set) != 0),lost)
  else none
def SU (n:Nat) (i_:Int) (AU:Bool) (c:AB) (q:AA) (pos:List Int) (ln:Nat) (lost:List Int):Option (Bool×(List Int)):=jd n i_ AU c q pos ln lost
theorem V2 {n:Nat} {i_:Int} {AU:Bool} {c:AB} {q:AA} {pos:List Int} {ln:Nat} {lost:List Int} {r:Bool×(List Int)} (h:SU n i_ AU c q pos ln lost=some r):EQ 164 [.i i_,.bool AU,.ref 0 0] [some (.cells [.ref 1 0]),some (.cells (AJ c++AC q++[.ints pos,.msl 2 1 0 ln])),some (.ints lost)] (.bool r.1) [some (.cells [.ref 1 0]),some (.cells (AJ c++AC q++[.ints pos,.msl 2 1 0 ln])),some (.ints r.2)] false:=by
 refine ot Tryz.func164 fun B N=>?_
 revert r;apply gO;exact bi 6 (jg rF (gc (gi (gi (lE f5 [5] [0,1,2]))))) (jg rD (gc (gi (gi (lE f5 [5] [0,1,2])))))
theorem qW:Ar (Ag Tryz.f136 24) [] (List.range 6) [6]:=by unfold Ar;kernel_rfl
def eP:ST:=.rd 0 (.rd 1 (.rd 2 (.rd 3 (.rd 4 (.rd 5 (.rd 6 (.rd 7 (.rd 8 (.rd 9 (.rd 10 (.rd 11 (.rd 12 (.rd 13 (.ef 14 (.fin [] [1,3,5,7,14,16,18]) (.no)))))))))))))))
theorem gC:Bq (Ag Tryz.f136 49) [] eP:=by unfold Bq;kernel_rfl
def eO:ST:=.rd 0 (.rd 1 (.rd 2 (.rd 3 (.rd 4 (.rd 5 (.rd 6 (.rd 7 (.rd 8 (.ef 9 (.fin [] [1,3,5,7,14,16]) (.no))))))))))
theorem Yk:Bq (Ag Tryz.f136 51) [] eO:=by unfold Bq;kernel_rfl
def CN:Bi:=fun i=>match i with
 | 24=>.ord [] (List.range 6) [6]
 | 49=>.tre [] eP
 | 51=>.tre [] eO
 | _=>.no
def al (c:AB) (q:AA) (pos:List Int) (ln:Nat) (o1:List Int) (o3:List (Option KS)):DH:=[some (.cells (AJ c++AC q++[.ints pos,.msl 1 1 0 ln])),some (.ints o1),some (.cells [.ref 0 0]),some (.mo (.sets 2 o3 none))]
def yk (c:AB) (q:AA) (pos:List Int) (ln:Nat) (o1:List Int) (o3:List (Option KS)) (As:Int) (gk:LK):DH:=[some (.cells (AJ c++AC q++[.ints pos,.msl 1 1 0 ln])),some (.ints o1),some (.cells [.ref 0 0]),some (.mo (.sets 2 o3 (some (0+((As).toNat),gk))))]
def ye (c:AB) (q:AA) (pos:List Int) (ln:Nat) (o1:List Int) (o3:List (Option KS)) (Af:Nat) (gk:LK) (o4:KS):DH:=[some (.cells (AJ c++AC q++[.ints pos,.msl 1 1 0 ln])),some (.ints o1),some (.cells [.ref 0 0]),some (.mo (.sets 2 o3 (some (Af,gk)))),some (.mo (.mit 2 gk.1 gk.2.1 gk.2.2 o4 none))]
def kP (c:AB) (q:AA) (pos:List Int) (ln:Nat) (o1:List Int) (o3:List (Option KS)) (Af:Nat) (gk:LK) (o4:KS) (y1:List Int):DH:=[some (.cells (AJ c++AC q++[.ints pos,.msl 1 1 0 ln])),some (.ints o1),some (.cells [.ref 0 0]),some (.mo (.sets 2 o3 (some (Af,gk)))),some (.mo (.mit 2 gk.1 gk.2.1 gk.2.2 (o4.erase y1) (some y1)))]
def ah (c:AB) (q:AA) (pos:List Int) (ln:Nat) (o1:List Int) (o3:List (Option KS)) (o4:KS):DH:=[some (.cells (AJ c++AC q++[.ints pos,.msl 1 1 0 ln])),some (.ints o1),some (.cells [.ref 0 0]),some (.mo (.sets 2 o3 none)),some (.mo (.set 2 o4)),some (.mo (.set 2 ([]:KS))),some (.cells [.bool false,.bool false])]
def ya (c:AB) (q:AA) (pos:List Int) (ln:Nat) (o1:List Int) (o3:List (Option KS)) (Ab:Int) (gk:LK) (o4:KS):DH:=[some (.cells (AJ c++AC q++[.ints pos,.msl 1 1 0 ln])),some (.ints o1),some (.cells [.ref 0 0]),some (.mo (.sets 2 o3 (some (0+((Ab).toNat),gk)))),some (.mo (.set 2 o4)),some (.mo (.set 2 ([]:KS))),some (.cells [.bool false,.bool false])]
def af (c:AB) (q:AA) (pos:List Int) (ln:Nat) (o1:List Int) (o3:List (Option KS)) (Af:Nat) (gk:LK) (Am FE:Int) (o5:KS) (FD:List Int):DH:=[some (.cells (AJ c++AC q++[.ints pos,.msl 1 1 0 ln])),some (.ints o1),some (.cells [.ref 0 0]),some (.mo (.sets 2 o3 (some (Af,gk)))),some (.cells [.i Am,.i FE]),some (.mo (.mit 2 gk.1 gk.2.1 gk.2.2 o5 (some FD))),some (.bools ([false,true]:List Bool))]
def yZ (c:AB) (q:AA) (pos:List Int) (ln:Nat) (y1:(Int×Int)×Bool×(List Int)) (o3:List (Option KS)) (Af:Nat) (gk:LK) (Am FE:Int) (o5:KS) (FD:List Int):DH:=[some (.cells (AJ c++AC q++[.ints pos,.msl 1 1 0 ln])),some (.ints y1.2.2),some (.cells [.ref 0 0]),some (.mo (.sets 2 o3 (some (Af,gk)))),some (.cells [.i Am,.i FE]),some (.mo (.mit 2 gk.1 gk.2.1 gk.2.2 o5 (some FD))),some (.bools ([false,true]:List Bool)),some (.cells [.i y1.1.1,.i y1.1.2])]
def yX (c:AB) (q:AA) (pos:List Int) (ln:Nat) (o1:List Int) (o3:List (Option KS)) (Af:Nat) (gk:LK) (o4 o7:KS):DH:=[some (.cells (AJ c++AC q++[.ints pos,.msl 1 1 0 ln])),some (.ints o1),some (.cells [.ref 0 0]),some (.mo (.sets 2 o3 (some (Af,gk)))),some (.mo (.set 2 o4)),some (.mo (.set 2 ([]:KS))),some (.cells [.bool false,.bool false]),some (.mo (.mit 2 gk.1 gk.2.1 gk.2.2 o7 none))]
def dy (c:AB) (Ab:Int) (q:AA) (pos:List Int) (ln:Nat) (y2:(List Int)) (o3:List (Option KS)) (o4:KS):St:=⟨(AG 208 [(1,.ref 2 0),(3,.fn 163 1 (L1 [.ref 2 0])),(5,.msl 3 1 0 ((((c.cells.length:Int)+1)).toNat)),(7,.fn 164 1 (L1 [.ref 2 0])),(14,.it 5),(16,.i Ab),(18,.ref 6 0)]),([some (.cells (AJ c++AC q++[.ints pos,.msl 1 1 0 ln])),some (.ints y2),some (.cells [.ref 0 0]),some (.mo (.sets 2 o3 none)),some (.mo (.set 2 o4)),some (.mo (.set 2 ([]:KS))),some (.cells [.bool false,.bool false])]:DH)⟩
def yj (c:AB) (q:AA) (pos:List Int) (ln:Nat) (y2:(List Int)) (o3:List (Option KS)) (o4:KS):DH:=[some (.cells (AJ c++AC q++[.ints pos,.msl 1 1 0 ln])),some (.ints y2),some (.cells [.ref 0 0]),some (.mo (.sets 2 o3 none)),some (.mo (.set 2 o4)),some (.mo (.set 2 ([]:KS))),some (.cells [.bool false,.bool false])]
def d5 (c:AB) (Ab:Int) (q:AA) (pos:List Int) (ln:Nat) (y3:(List Int)) (o3:List (Option KS)) (o4:KS):St:=⟨(AG 208 [(1,.ref 2 0),(3,.fn 163 1 (L1 [.ref 2 0])),(5,.msl 3 1 0 ((((c.cells.length:Int)+1)).toNat)),(7,.fn 164 1 (L1 [.ref 2 0])),(14,.it 5),(16,.i Ab)]),([some (.cells (AJ c++AC q++[.ints pos,.msl 1 1 0 ln])),some (.ints y3),some (.cells [.ref 0 0]),some (.mo (.sets 2 o3 none)),some (.mo (.set 2 o4)),some (.mo (.set 2 ([]:KS))),some (.cells [.bool false,.bool false])]:DH)⟩
def yi (c:AB) (q:AA) (pos:List Int) (ln:Nat) (o1:List Int) (o3:List (Option KS)) (Af:Nat) (gk:LK) (o4 o7:KS) (y1:List Int):DH:=[some (.cells (AJ c++AC q++[.ints pos,.msl 1 1 0 ln])),some (.ints o1),some (.cells [.ref 0 0]),some (.mo (.sets 2 o3 (some (Af,gk)))),some (.mo (.set 2 o4)),some (.mo (.set 2 ([]:KS))),some (.cells [.bool false,.bool false]),some (.mo (.mit 2 gk.1 gk.2.1 gk.2.2 (o7.erase y1) (some y1)))]
def Sn (c:AB) (q:AA) (pos:List Int) (ln:Nat) (o1:List Int) (o3:List (Option KS)) (Af:Nat) (gk:LK) (o4 o5:KS) (BW BY:Bool) (DS DQ:Int) (o8:KS) (Dr:List Int):DH:=[some (.cells (AJ c++AC q++[.ints pos,.msl 1 1 0 ln])),some (.ints o1),some (.cells [.ref 0 0]),some (.mo (.sets 2 o3 (some (Af,gk)))),some (.mo (.set 2 o4)),some (.mo (.set 2 o5)),some (.cells [.bool BW,.bool BY]),some (.cells [.i DS,.i DQ]),some (.mo (.mit 2 gk.1 gk.2.1 gk.2.2 o8 (some Dr))),some (.bools ([false,true]:List Bool))]
def ak (c:AB) (q:AA) (pos:List Int) (ln:Nat) (y1:(Int×Int)×Bool×(List Int)) (o3:List (Option KS)) (Af:Nat) (gk:LK) (o4 o5:KS) (BW BY:Bool) (DS DQ:Int) (o8:KS) (Dr:List Int):DH:=[some (.cells (AJ c++AC q++[.ints pos,.msl 1 1 0 ln])),some (.ints y1.2.2),some (.cells [.ref 0 0]),some (.mo (.sets 2 o3 (some (Af,gk)))),some (.mo (.set 2 o4)),some (.mo (.set 2 o5)),some (.cells [.bool BW,.bool BY]),some (.cells [.i DS,.i DQ]),some (.mo (.mit 2 gk.1 gk.2.1 gk.2.2 o8 (some Dr))),some (.bools ([false,true]:List Bool)),some (.cells [.i y1.1.1,.i y1.1.2])]
def yh (c:AB) (q:AA) (pos:List Int) (ln:Nat) (o1:List Int) (o3:List (Option KS)) (Af:Nat) (gk:LK) (o4:KS) (I8:List Int):DH:=[some (.cells (AJ c++AC q++[.ints pos,.msl 1 1 0 ln])),some (.ints o1),some (.cells [.ref 0 0]),some (.mo (.sets 2 o3 (some (Af,gk)))),some (.mo (.mit 2 gk.1 gk.2.1 gk.2.2 o4 (some I8)))]
def yg (c:AB) (q:AA) (pos:List Int) (ln:Nat) (o1:List Int) (o3:List (Option KS)) (Af:Nat) (gk:LK) (o4 o5:KS) (BW BY:Bool) (o7:KS) (I7:List Int):DH:=[some (.cells (AJ c++AC q++[.ints pos,.msl 1 1 0 ln])),some (.ints o1),some (.cells [.ref 0 0]),some (.mo (.sets 2 o3 (some (Af,gk)))),some (.mo (.set 2 o4)),some (.mo (.set 2 o5)),some (.cells [.bool BW,.bool BY]),some (.mo (.mit 2 gk.1 gk.2.1 gk.2.2 o7 (some I7)))]
def aj (c:AB) (q:AA) (pos:List Int) (ln:Nat) (o1:List Int) (o3:List (Option KS)) (o4 o5:KS) (BW BY:Bool):DH:=[some (.cells (AJ c++AC q++[.ints pos,.msl 1 1 0 ln])),some (.ints o1),some (.cells [.ref 0 0]),some (.mo (.sets 2 o3 none)),some (.mo (.set 2 o4)),some (.mo (.set 2 o5)),some (.cells [.bool BW,.bool BY])]
def YG (c:AB) (Ab:Int) (q:AA) (pos:List Int) (ln:Nat) (y2:(List Int)) (o3:List (Option KS)) (o4 o5:KS) (BW BY:Bool):St:=⟨(AG 208 [(1,.ref 2 0),(3,.fn 163 1 (L1 [.ref 2 0])),(5,.msl 3 1 0 ((((c.cells.length:Int)+1)).toNat)),(7,.fn 164 1 (L1 [.ref 2 0])),(14,.it 5),(16,.i Ab),(18,.ref 6 0)]),([some (.cells (AJ c++AC q++[.ints pos,.msl 1 1 0 ln])),some (.ints y2),some (.cells [.ref 0 0]),some (.mo (.sets 2 o3 none)),some (.mo (.set 2 o4)),some (.mo (.set 2 o5)),some (.cells [.bool BW,.bool BY])]:DH)⟩
def yf (c:AB) (q:AA) (pos:List Int) (ln:Nat) (y2:(List Int)) (o3:List (Option KS)) (o4 o5:KS) (BW BY:Bool):DH:=[some (.cells (AJ c++AC q++[.ints pos,.msl 1 1 0 ln])),some (.ints y2),some (.cells [.ref 0 0]),some (.mo (.sets 2 o3 none)),some (.mo (.set 2 o4)),some (.mo (.set 2 o5)),some (.cells [.bool BW,.bool BY])]
def d4 (c:AB) (Ab:Int) (q:AA) (pos:List Int) (ln:Nat) (y3:(List Int)) (o3:List (Option KS)) (o4 o5:KS) (BW BY:Bool):St:=⟨(AG 208 [(1,.ref 2 0),(3,.fn 163 1 (L1 [.ref 2 0])),(5,.msl 3 1 0 ((((c.cells.length:Int)+1)).toNat)),(7,.fn 164 1 (L1 [.ref 2 0])),(14,.it 5),(16,.i Ab)]),([some (.cells (AJ c++AC q++[.ints pos,.msl 1 1 0 ln])),some (.ints y3),some (.cells [.ref 0 0]),some (.mo (.sets 2 o3 none)),some (.mo (.set 2 o4)),some (.mo (.set 2 o5)),some (.cells [.bool BW,.bool BY])]:DH)⟩
def dz (c:AB) (Ab:Int) (q:AA) (pos:List Int) (ln:Nat) (y2:(List Int)) (o3:List (Option KS)) (o4 o5:KS) (BW BY:Bool):St:=⟨(AG 208 [(1,.ref 2 0),(3,.fn 163 1 (L1 [.ref 2 0])),(5,.msl 3 1 0 ((((c.cells.length:Int)+1)).toNat)),(7,.fn 164 1 (L1 [.ref 2 0])),(14,.it 5),(16,.i Ab)]),([some (.cells (AJ c++AC q++[.ints pos,.msl 1 1 0 ln])),some (.ints y2),some (.cells [.ref 0 0]),some (.mo (.sets 2 o3 none)),some (.mo (.set 2 o4)),some (.mo (.set 2 o5)),some (.cells [.bool BW,.bool BY])]:DH)⟩
def yc (c:AB) (q:AA) (pos:List Int) (ln:Nat) (o1:List Int) (o3:List (Option KS)) (Af:Nat) (gk:LK) (o4 o5:KS) (BW BY:Bool) (o7:KS) (y1:List Int):DH:=[some (.cells (AJ c++AC q++[.ints pos,.msl 1 1 0 ln])),some (.ints o1),some (.cells [.ref 0 0]),some (.mo (.sets 2 o3 (some (Af,gk)))),some (.mo (.set 2 o4)),some (.mo (.set 2 o5)),some (.cells [.bool BW,.bool BY]),some (.mo (.mit 2 gk.1 gk.2.1 gk.2.2 (o7.erase y1) (some y1)))]
inductive Hd where
 | l1 (E5:Int) (o3:List (Option KS))
 | l2 (As:Int) (o1:List Int) (o3:List (Option KS))
 | l3 (x8 As:Int) (o1:List Int) (o3:List (Option KS)) (Af:Nat) (o4:KS)
 | l4 (Ab:Int) (o1:List Int) (o3:List (Option KS)) (o4:KS)
 | l5 (x8 As E4:Int) (o1:List Int) (o3:List (Option KS)) (Af:Nat) (Am FE:Int) (o5:KS) (FD:List Int)
 | l6 (Ab:Int) (o1:List Int) (o3:List (Option KS)) (Af:Nat) (o4 o7:KS)
 | l7 (Ab Do:Int) (o1:List Int) (o3:List (Option KS)) (Af:Nat) (o4 o5:KS) (BW BY:Bool) (DS DQ:Int) (o8:KS) (Dr:List Int)
 | l8 (x8 As:Int) (o1:List Int) (o3:List (Option KS)) (Af:Nat) (o4:KS) (I8:List Int)
 | l9 (Ab:Int) (o1:List Int) (o3:List (Option KS)) (Af:Nat) (o4 o5:KS) (BW BY:Bool) (o7:KS) (I7:List Int)
def RD (n:Nat) (self:Hd -> Option (Bool×(List Int))) (c:AB) (q:AA) (pos:List Int) (ln:Nat) (lost:List Int) (E5:Int) (o3:List (Option KS)):Option (Bool×(List Int)):=
 bif (decide (E5<(((((c.cells.length:Int)+1)).toNat:Nat):Int))) then
  if (0<=E5/\ E5<(((((c.cells.length:Int)+1)).toNat:Nat):Int))/\ 0+((E5).toNat)<o3.length/\ AL (E5+1) then
   self (.l1 (E5+1) (o3.set (0+((E5).toNat)) (some ([]:KS))))
  else none
 else
  if ((0:Int)<=0/\ 0<(((((c.cells.length:Int)+1)).toNat:Nat):Int))/\ 0+0<o3.length/\ (o3.getD (0+0) none).isSome=true then
   self (.l2 0 lost (o3.set (0+0) (some (CP [0,0] ((o3.getD (0+0) none).getD [])))))
  else none
def M3 (n:Nat) (self:Hd -> Option (Bool×(List Int))) (c:AB) (q:AA) (pos:List Int) (ln:Nat) (lost:List Int) (As:Int) (o1:List Int) (o3:List (Option KS)):Option (Bool×(List Int)):=
 bif (decide (As<(c.cells.length:Int))) then
  if (o3.getD (0+((As).toNat)) none).isSome=true then
   if (0<=As/\ As<(((((c.cells.length:Int)+1)).toNat:Nat):Int))/\ 0+((As).toNat)<o3.length/\ (o3.getD (0+((As).toNat)) none).isSome=true then
    self (.l3 As As o1 o3 (0+((As).toNat)) ((o3.getD (0+((As).toNat)) none).getD []))
   else none
  else none
 else
  bif (decide ((c.runs.length:Int)>0)) then
   if AL ((c.runs.length:Int)-1)/\ ((0:Int)<=((c.runs.length:Int)-1)/\ ((c.runs.length:Int)-1)<(c.runs.length:Int))/\ AL ((c.cells.length:Int)-1) then
    self (.l4 ((c.cells.length:Int)-1) o1 o3 (CP [((c.runs.length:Int)-1),c.runs.getD ((((c.runs.length:Int)-1)).toNat) 0] (CP [(c.runs.length:Int),0] ([]:KS))))
   else none
  else
   if AL ((c.cells.length:Int)-1) then
    self (.l4 ((c.cells.length:Int)-1) o1 o3 (CP [(c.runs.length:Int),0] ([]:KS)))
   else none
def ri (n:Nat) (self:Hd -> Option (Bool×(List Int))) (c:AB) (q:AA) (pos:List Int) (ln:Nat) (lost:List Int) (x8 As:Int) (o1:List Int) (o3:List (Option KS)) (Af:Nat) (o4:KS):Option (Bool×(List Int)):=
 if (o3.getD Af none).isSome=true then
  Hh o4 (
   if AL (As+1) then
    self (.l2 (As+1) o1 o3)
   else none) fun y1=>
   if (o3.getD Af none).isSome=true then
    self (.l5 x8 As 0 o1 o3 Af (y1.getD 0 0) (y1.getD 1 0) (o4.erase y1) y1)
   else none
 else none
def RC (n:Nat) (self:Hd -> Option (Bool×(List Int))) (c:AB) (q:AA) (pos:List Int) (ln:Nat) (lost:List Int) (Ab:Int) (o1:List Int) (o3:List (Option KS)) (o4:KS):Option (Bool×(List Int)):=
 bif (decide (Ab>=0)) then
  if (o3.getD (0+((Ab).toNat)) none).isSome=true then
   if (0<=Ab/\ Ab<(((((c.cells.length:Int)+1)).toNat:Nat):Int))/\ 0+((Ab).toNat)<o3.length/\ (o3.getD (0+((Ab).toNat)) none).isSome=true then
    self (.l6 Ab o1 o3 (0+((Ab).toNat)) o4 ((o3.getD (0+((Ab).toNat)) none).getD []))
   else none
  else none
 else
  some (true,o1)
def M2 (n:Nat) (self:Hd -> Option (Bool×(List Int))) (c:AB) (q:AA) (pos:List Int) (ln:Nat) (lost:List Int) (x8 As E4:Int) (o1:List Int) (o3:List (Option KS)) (Af:Nat) (Am FE:Int) (o5:KS) (FD:List Int):Option (Bool×(List Int)):=
 bif (decide (E4<2)) then
  if (0<=E4/\ E4<((2:Nat):Int))/\ 0+((E4).toNat)<([false,true]:List Bool).length then
   (SH n (Am,FE) (([false,true]:List Bool).getD (0+((E4).toNat)) false) c q pos ln o1).bind fun y1=>
    bif y1.2.1 then
     (SU n x8 (([false,true]:List Bool).getD (0+((E4).toNat)) false) c q pos ln y1.2.2).bind fun y2=>
      bif y2.1 then
       if AL (x8+1)/\ (0<=(x8+1)/\ (x8+1)<(((((c.cells.length:Int)+1)).toNat:Nat):Int))/\ 0+(((x8+1)).toNat)<o3.length/\ Af≠0+(((x8+1)).toNat)/\ (o3.getD (0+(((x8+1)).toNat)) none).isSome=true/\ AL (E4+1) then
        self (.l5 x8 As (E4+1) y2.2 (o3.set (0+(((x8+1)).toNat)) (some (CP [y1.1.1,y1.1.2] ((o3.getD (0+(((x8+1)).toNat)) none).getD [])))) Af Am FE o5 FD)
       else none
      else
       if AL (E4+1) then
        self (.l5 x8 As (E4+1) y2.2 o3 Af Am FE o5 FD)
       else none
    else
     if AL (E4+1) then
      self (.l5 x8 As (E4+1) y1.2.2 o3 Af Am FE o5 FD)
     else none
  else none
 else
  self (.l8 x8 As o1 o3 Af o5 FD)
def rh (n:Nat) (self:Hd -> Option (Bool×(List Int))) (c:AB) (q:AA) (pos:List Int) (ln:Nat) (lost:List Int) (Ab:Int) (o1:List Int) (o3:List (Option KS)) (Af:Nat) (o4 o7:KS):Option (Bool×(List Int)):=
 if (o3.getD Af none).isSome=true then
  Hh o7 (
   if 0<=Ab/\ Ab<(c.cells.length:Int) then
    (DT n (c.cells.getD ((Ab).toNat) 0) c.set c q pos ln o1).bind fun y2=>
     (GC n (c.cells.getD ((Ab).toNat) 0) c q pos ln y2).bind fun y3=>
      if AL (Ab-1) then
       self (.l4 (Ab-1) y3 o3 ([]:KS))
      else none
   else none) fun y1=>
   if (o3.getD Af none).isSome=true then
    self (.l7 Ab 0 o1 o3 Af o4 ([]:KS) false false (y1.getD 0 0) (y1.getD 1 0) (o7.erase y1) y1)
   else none
 else none
def M1 (n:Nat) (self:Hd -> Option (Bool×(List Int))) (c:AB) (q:AA) (pos:List Int) (ln:Nat) (lost:List Int) (Ab Do:Int) (o1:List Int) (o3:List (Option KS)) (Af:Nat) (o4 o5:KS) (BW BY:Bool) (DS DQ:Int) (o8:KS) (Dr:List Int):Option (Bool×(List Int)):=
 bif (decide (Do<2)) then
  if (0<=Do/\ Do<((2:Nat):Int))/\ 0+((Do).toNat)<([false,true]:List Bool).length then
   (SH n (DS,DQ) (([false,true]:List Bool).getD (0+((Do).toNat)) false) c q pos ln o1).bind fun y1=>
    bif y1.2.1 then
     (SU n Ab (([false,true]:List Bool).getD (0+((Do).toNat)) false) c q pos ln y1.2.2).bind fun y2=>
      bif y2.1 then
       bif (o4.contains [y1.1.1,y1.1.2]) then
        bif (Do==0) then
         if AL (Do+1) then
          self (.l7 Ab (Do+1) y2.2 o3 Af o4 (CP [DS,DQ] o5) true BY DS DQ o8 Dr)
         else none
        else
         bif (Do==1) then
          if AL (Do+1) then
           self (.l7 Ab (Do+1) y2.2 o3 Af o4 (CP [DS,DQ] o5) BW true DS DQ o8 Dr)
          else none
         else
          none
       else
        if AL (Do+1) then
         self (.l7 Ab (Do+1) y2.2 o3 Af o4 o5 BW BY DS DQ o8 Dr)
        else none
      else
       if AL (Do+1) then
        self (.l7 Ab (Do+1) y2.2 o3 Af o4 o5 BW BY DS DQ o8 Dr)
       else none
    else
     if AL (Do+1) then
      self (.l7 Ab (Do+1) y1.2.2 o3 Af o4 o5 BW BY DS DQ o8 Dr)
     else none
  else none
 else
  self (.l9 Ab o1 o3 Af o4 o5 BW BY o8 Dr)
def RB (n:Nat) (self:Hd -> Option (Bool×(List Int))) (c:AB) (q:AA) (pos:List Int) (ln:Nat) (lost:List Int) (x8 As:Int) (o1:List Int) (o3:List (Option KS)) (Af:Nat) (o4:KS) (I8:List Int):Option (Bool×(List Int)):=
 if (o3.getD Af none).isSome=true then
  Hh o4 (
   if AL (As+1) then
    self (.l2 (As+1) o1 o3)
   else none) fun y1=>
   if (o3.getD Af none).isSome=true then
    self (.l5 x8 As 0 o1 o3 Af (y1.getD 0 0) (y1.getD 1 0) (o4.erase y1) y1)
   else none
 else none
def RA (n:Nat) (self:Hd -> Option (Bool×(List Int))) (c:AB) (q:AA) (pos:List Int) (ln:Nat) (lost:List Int) (Ab:Int) (o1:List Int) (o3:List (Option KS)) (Af:Nat) (o4 o5:KS) (BW BY:Bool) (o7:KS) (I7:List Int):Option (Bool×(List Int)):=
 if (o3.getD Af none).isSome=true then
  Hh o7 (
   bif (!BY) then
    if 0<=Ab/\ Ab<(c.cells.length:Int) then
     (DT n (c.cells.getD ((Ab).toNat) 0) c.set c q pos ln o1).bind fun y2=>
      bif (!BW) then
       (GC n (c.cells.getD ((Ab).toNat) 0) c q pos ln y2).bind fun y3=>
        if AL (Ab-1) then
         self (.l4 (Ab-1) y3 o3 o5)
        else none
      else
       if AL (Ab-1) then
        self (.l4 (Ab-1) y2 o3 o5)
       else none
    else none
   else
    bif (!BW) then
     if 0<=Ab/\ Ab<(c.cells.length:Int) then
      (GC n (c.cells.getD ((Ab).toNat) 0) c q pos ln o1).bind fun y2=>
       if AL (Ab-1) then
        self (.l4 (Ab-1) y2 o3 o5)
       else none
     else none
    else
     if AL (Ab-1) then
      self (.l4 (Ab-1) o1 o3 o5)
     else none) fun y1=>
   if (o3.getD Af none).isSome=true then
    self (.l7 Ab 0 o1 o3 Af o4 o5 BW BY (y1.getD 0 0) (y1.getD 1 0) (o7.erase y1) y1)
   else none
 else none
def Yp (n:Nat) (self:Hd -> Option (Bool×(List Int))) (c:AB) (q:AA) (pos:List Int) (ln:Nat) (lost:List Int):Option (Bool×(List Int)):=
 bif ((c.cells.length:Int)==0) then
  some (((c.runs.length:Int)==0),lost)
 else
  if AL ((c.cells.length:Int)+1)/\ ((((c.cells.length:Int)+1):Int)=((c.cells.length:Int)+1)/\ (0:Int)<=((c.cells.length:Int)+1)/\ (((c.cells.length:Int)+1):Int)<=1000000000000) then
   self (.l1 0 (List.replicate ((((c.cells.length:Int)+1)).toNat) (none:Option KS)))
  else none
def BO (c:AB) (q:AA) (pos:List Int) (ln:Nat) (lost:List Int):Nat -> Hd -> Option (Bool×(List Int))
 | 0,_=>none
 | n+1,.l1 E5 o3=>RD n (BO c q pos ln lost n) c q pos ln lost E5 o3
 | n+1,.l2 As o1 o3=>M3 n (BO c q pos ln lost n) c q pos ln lost As o1 o3
 | n+1,.l3 x8 As o1 o3 Af o4=>ri n (BO c q pos ln lost n) c q pos ln lost x8 As o1 o3 Af o4
 | n+1,.l4 Ab o1 o3 o4=>RC n (BO c q pos ln lost n) c q pos ln lost Ab o1 o3 o4
 | n+1,.l5 x8 As E4 o1 o3 Af Am FE o5 FD=>M2 n (BO c q pos ln lost n) c q pos ln lost x8 As E4 o1 o3 Af Am FE o5 FD
 | n+1,.l6 Ab o1 o3 Af o4 o7=>rh n (BO c q pos ln lost n) c q pos ln lost Ab o1 o3 Af o4 o7
 | n+1,.l7 Ab Do o1 o3 Af o4 o5 BW BY DS DQ o8 Dr=>M1 n (BO c q pos ln lost n) c q pos ln lost Ab Do o1 o3 Af o4 o5 BW BY DS DQ o8 Dr
 | n+1,.l8 x8 As o1 o3 Af o4 I8=>RB n (BO c q pos ln lost n) c q pos ln lost x8 As o1 o3 Af o4 I8
 | n+1,.l9 Ab o1 o3 Af o4 o5 BW BY o7 I7=>RA n (BO c q pos ln lost n) c q pos ln lost Ab o1 o3 Af o4 o5 BW BY o7 I7
def Ox (n:Nat) (c:AB) (q:AA) (pos:List Int) (ln:Nat) (lost:List Int):Option (Bool×(List Int)):=Yp n (BO c q pos ln lost n) c q pos ln lost
def rj (n B:Nat) (N:Yd 2) (c:AB) (q:AA) (pos:List Int) (ln:Nat) (lost:List Int) (r:Bool×(List Int)):Hd -> Prop
 | .l1 E5 o3=>∀ m0:Nat,n<=m0 -> TW B N (FQ Tryz.f136 2 (.bool r.1) [some (.cells (AJ c++AC q++[.ints pos,.msl 1 1 0 ln])),some (.ints r.2)]) (A8 m0 (BL (AY Tryz.f136) 0 [])) ⟨AG 208 [(1,.ref 2 0),(3,.fn 163 1 (L1 [.ref 2 0])),(4,.i (c.cells.length:Int)),(5,.msl 3 1 0 ((((c.cells.length:Int)+1)).toNat)),(44,.i (((((c.cells.length:Int)+1)).toNat:Nat):Int)),(45,.i E5)],[some (.cells (AJ c++AC q++[.ints pos,.msl 1 1 0 ln])),some (.ints lost),some (.cells [.ref 0 0]),some (.mo (.sets 2 o3 none))]⟩
 | .l2 As o1 o3=>∀ m0:Nat,n<=m0 -> TW B N (FQ Tryz.f136 2 (.bool r.1) [some (.cells (AJ c++AC q++[.ints pos,.msl 1 1 0 ln])),some (.ints r.2)]) (A8 m0 (BL (AY Tryz.f136) 2 [])) ⟨AG 208 [(1,.ref 2 0),(3,.fn 163 1 (L1 [.ref 2 0])),(4,.i (c.cells.length:Int)),(5,.msl 3 1 0 ((((c.cells.length:Int)+1)).toNat)),(7,.fn 164 1 (L1 [.ref 2 0])),(58,.i (c.cells.length:Int)),(59,.i As)],[some (.cells (AJ c++AC q++[.ints pos,.msl 1 1 0 ln])),some (.ints o1),some (.cells [.ref 0 0]),some (.mo (.sets 2 o3 none))]⟩
 | .l3 x8 As o1 o3 Af o4=>∀ m0 m1:Nat,n<=m0 -> n<=m1 -> ∀ gk:LK,TW B N (FQ Tryz.f136 2 (.bool r.1) [some (.cells (AJ c++AC q++[.ints pos,.msl 1 1 0 ln])),some (.ints r.2)]) (A8 m1 (BL (AY Tryz.f136) 4 [m0])) ⟨AG 208 [(1,.ref 2 0),(3,.fn 163 1 (L1 [.ref 2 0])),(4,.i (c.cells.length:Int)),(5,.msl 3 1 0 ((((c.cells.length:Int)+1)).toNat)),(7,.fn 164 1 (L1 [.ref 2 0])),(8,.i x8),(58,.i (c.cells.length:Int)),(59,.i As),(66,.it 4)],[some (.cells (AJ c++AC q++[.ints pos,.msl 1 1 0 ln])),some (.ints o1),some (.cells [.ref 0 0]),some (.mo (.sets 2 o3 (some (Af,gk)))),some (.mo (.mit 2 gk.1 gk.2.1 gk.2.2 o4 none))]⟩
 | .l4 Ab o1 o3 o4=>∀ m0:Nat,n<=m0 -> TW B N (FQ Tryz.f136 2 (.bool r.1) [some (.cells (AJ c++AC q++[.ints pos,.msl 1 1 0 ln])),some (.ints r.2)]) (A8 m0 (BL (AY Tryz.f136) 8 [])) ⟨AG 208 [(1,.ref 2 0),(3,.fn 163 1 (L1 [.ref 2 0])),(5,.msl 3 1 0 ((((c.cells.length:Int)+1)).toNat)),(7,.fn 164 1 (L1 [.ref 2 0])),(14,.it 4),(16,.i Ab)],[some (.cells (AJ c++AC q++[.ints pos,.msl 1 1 0 ln])),some (.ints o1),some (.cells [.ref 0 0]),some (.mo (.sets 2 o3 none)),some (.mo (.set 2 o4))]⟩
 | .l5 x8 As E4 o1 o3 Af Am FE o5 FD=>∀ m0 m1 m2:Nat,n<=m0 -> n<=m1 -> n<=m2 -> ∀ gk:LK,TW B N (FQ Tryz.f136 2 (.bool r.1) [some (.cells (AJ c++AC q++[.ints pos,.msl 1 1 0 ln])),some (.ints r.2)]) (A8 m2 (BL (AY Tryz.f136) 6 [m0,m1])) ⟨AG 208 [(1,.ref 2 0),(3,.fn 163 1 (L1 [.ref 2 0])),(4,.i (c.cells.length:Int)),(5,.msl 3 1 0 ((((c.cells.length:Int)+1)).toNat)),(7,.fn 164 1 (L1 [.ref 2 0])),(8,.i x8),(9,.ref 4 0),(58,.i (c.cells.length:Int)),(59,.i As),(66,.it 5),(71,.msl 6 1 0 2),(72,.i 2),(73,.i E4)],[some (.cells (AJ c++AC q++[.ints pos,.msl 1 1 0 ln])),some (.ints o1),some (.cells [.ref 0 0]),some (.mo (.sets 2 o3 (some (Af,gk)))),some (.cells [.i Am,.i FE]),some (.mo (.mit 2 gk.1 gk.2.1 gk.2.2 o5 (some FD))),some (.bools ([false,true]:List Bool))]⟩
 | .l6 Ab o1 o3 Af o4 o7=>∀ m0 m1:Nat,n<=m0 -> n<=m1 -> ∀ gk:LK,TW B N (FQ Tryz.f136 2 (.bool r.1) [some (.cells (AJ c++AC q++[.ints pos,.msl 1 1 0 ln])),some (.ints r.2)]) (A8 m1 (BL (AY Tryz.f136) 10 [m0])) ⟨AG 208 [(1,.ref 2 0),(3,.fn 163 1 (L1 [.ref 2 0])),(5,.msl 3 1 0 ((((c.cells.length:Int)+1)).toNat)),(7,.fn 164 1 (L1 [.ref 2 0])),(14,.it 4),(16,.i Ab),(17,.it 5),(18,.ref 6 0),(140,.it 7)],[some (.cells (AJ c++AC q++[.ints pos,.msl 1 1 0 ln])),some (.ints o1),some (.cells [.ref 0 0]),some (.mo (.sets 2 o3 (some (Af,gk)))),some (.mo (.set 2 o4)),some (.mo (.set 2 ([]:KS))),some (.cells [.bool false,.bool false]),some (.mo (.mit 2 gk.1 gk.2.1 gk.2.2 o7 none))]⟩
 | .l7 Ab Do o1 o3 Af o4 o5 BW BY DS DQ o8 Dr=>∀ m0 m1 m2:Nat,n<=m0 -> n<=m1 -> n<=m2 -> ∀ gk:LK,TW B N (FQ Tryz.f136 2 (.bool r.1) [some (.cells (AJ c++AC q++[.ints pos,.msl 1 1 0 ln])),some (.ints r.2)]) (A8 m2 (BL (AY Tryz.f136) 12 [m0,m1])) ⟨AG 208 [(1,.ref 2 0),(3,.fn 163 1 (L1 [.ref 2 0])),(5,.msl 3 1 0 ((((c.cells.length:Int)+1)).toNat)),(7,.fn 164 1 (L1 [.ref 2 0])),(14,.it 4),(16,.i Ab),(17,.it 5),(18,.ref 6 0),(19,.ref 7 0),(140,.it 8),(145,.msl 9 1 0 2),(146,.i 2),(147,.i Do)],[some (.cells (AJ c++AC q++[.ints pos,.msl 1 1 0 ln])),some (.ints o1),some (.cells [.ref 0 0]),some (.mo (.sets 2 o3 (some (Af,gk)))),some (.mo (.set 2 o4)),some (.mo (.set 2 o5)),some (.cells [.bool BW,.bool BY]),some (.cells [.i DS,.i DQ]),some (.mo (.mit 2 gk.1 gk.2.1 gk.2.2 o8 (some Dr))),some (.bools ([false,true]:List Bool))]⟩
 | .l8 x8 As o1 o3 Af o4 I8=>∀ m0 m1:Nat,n<=m0 -> n<=m1 -> ∀ gk:LK,TW B N (FQ Tryz.f136 2 (.bool r.1) [some (.cells (AJ c++AC q++[.ints pos,.msl 1 1 0 ln])),some (.ints r.2)]) (A8 m1 (BL (AY Tryz.f136) 4 [m0])) ⟨AG 208 [(1,.ref 2 0),(3,.fn 163 1 (L1 [.ref 2 0])),(4,.i (c.cells.length:Int)),(5,.msl 3 1 0 ((((c.cells.length:Int)+1)).toNat)),(7,.fn 164 1 (L1 [.ref 2 0])),(8,.i x8),(58,.i (c.cells.length:Int)),(59,.i As),(66,.it 4)],[some (.cells (AJ c++AC q++[.ints pos,.msl 1 1 0 ln])),some (.ints o1),some (.cells [.ref 0 0]),some (.mo (.sets 2 o3 (some (Af,gk)))),some (.mo (.mit 2 gk.1 gk.2.1 gk.2.2 o4 (some I8)))]⟩
 | .l9 Ab o1 o3 Af o4 o5 BW BY o7 I7=>∀ m0 m1:Nat,n<=m0 -> n<=m1 -> ∀ gk:LK,TW B N (FQ Tryz.f136 2 (.bool r.1) [some (.cells (AJ c++AC q++[.ints pos,.msl 1 1 0 ln])),some (.ints r.2)]) (A8 m1 (BL (AY Tryz.f136) 10 [m0])) ⟨AG 208 [(1,.ref 2 0),(3,.fn 163 1 (L1 [.ref 2 0])),(5,.msl 3 1 0 ((((c.cells.length:Int)+1)).toNat)),(7,.fn 164 1 (L1 [.ref 2 0])),(14,.it 4),(16,.i Ab),(17,.it 5),(18,.ref 6 0),(140,.it 7)],[some (.cells (AJ c++AC q++[.ints pos,.msl 1 1 0 ln])),some (.ints o1),some (.cells [.ref 0 0]),some (.mo (.sets 2 o3 (some (Af,gk)))),some (.mo (.set 2 o4)),some (.mo (.set 2 o5)),some (.cells [.bool BW,.bool BY]),some (.mo (.mit 2 gk.1 gk.2.1 gk.2.2 o7 (some I7)))]⟩
theorem rn (B:Nat) (N:Yd 2) (c:AB) (q:AA) (pos:List Int) (ln:Nat) (lost:List Int):Al (BO c q pos ln lost) (rj · B N c q pos ln lost):=ia (fun _=>rfl) fun n AK pt r h=>by
 cases pt
 case l1 E5 o3=>
  intro m0 AD;refine rd AD fun m0 AD=>?_
  revert r;apply gO;exact bi 46 (gc (gi (gc (gi (gw 52 (lG CN [0,1,2,5] (AK _ _ · m0 AD))))))) (gc (gi (gc (gi (gi (jg (vQ (i:=0+0)) (lN CN [0,1,2,3] (AK _ _ · n Nat.le.refl))))))))
 case l2 As o1 o3=>
  intro m0 AD;refine rd AD fun m0 AD=>?_
  revert r;apply gO
  exact bi 60 (gn fun g0=>fun p r h=>by
   refine gs (AR 16 CN) [0,1,2,3] p (CO (AY Tryz.f136) 16 [m0]) (AG 208 [(1,.ref 2 0),(3,.fn 163 1 (L1 [.ref 2 0])),(4,.i (c.cells.length:Int)),(5,.msl 3 1 0 ((((c.cells.length:Int)+1)).toNat)),(7,.fn 164 1 (L1 [.ref 2 0])),(8,.i As),(58,.i (c.cells.length:Int)),(59,.i As)]) (al c q pos ln o1 o3) ?_;refine Bg.lock 3 (0+((As).toNat)) 2 (by kernel_rfl) g0 (by kernel_rfl) (fun gk=>(yk c q pos ln o1 o3 As gk)) (by kernel_rfl) fun gk=>?_
   revert r;apply gO;exact gc (gi (gc (gi (gi (jg (Eq.refl (0+((As).toNat))) (lN CN [0,1,2,3,4] (AK _ _ · m0 n AD Nat.le.refl gk)))))))) (bi 115 (gc (gn fun g0=>jw 118 g0 (jw 125 g0 (gc (gi (gw 130 (lN CN [0,1,2,3,4] (AK _ _ · n Nat.le.refl)))))))) (gw 130 (lN CN [0,1,2,3,4] (AK _ _ · n Nat.le.refl))))
 case l3 x8 As o1 o3 Af o4=>
  intro m0 m1 AD Az gk;have AD:=zEE AD;refine rd Az fun m1 Az=>?_
  have p:=H0;refine gs (AR 17 CN) [0,1,2,3,4] p (CO (AY Tryz.f136) 17 [m0,m1]) (AG 208 [(1,.ref 2 0),(3,.fn 163 1 (L1 [.ref 2 0])),(4,.i (c.cells.length:Int)),(5,.msl 3 1 0 ((((c.cells.length:Int)+1)).toNat)),(7,.fn 164 1 (L1 [.ref 2 0])),(8,.i x8),(58,.i (c.cells.length:Int)),(59,.i As),(66,.it 4)]) (ye c q pos ln o1 o3 Af gk o4) ?_;revert r;apply gO
  exact gn fun g0=>fun p r h=>by
   replace h:=Vi h;refine An.nx (ops:=Ag Tryz.f136 17) HC.x (by kernel_rfl) (by kernel_rfl) 4 3 Af 2 o3 gk o4 none [1,3,4,5,7,8,58,59,66,68] [0,1,2,3] (AG 208 [(1,.ref 2 0),(3,.fn 163 1 (L1 [.ref 2 0])),(4,.i (c.cells.length:Int)),(5,.msl 3 1 0 ((((c.cells.length:Int)+1)).toNat)),(7,.fn 164 1 (L1 [.ref 2 0])),(8,.i x8),(58,.i (c.cells.length:Int)),(59,.i As),(68,.bool false)]) (al c q pos ln o1 o3) [0,1,2,3,4] (fun y1=>AG 208 [(1,.ref 2 0),(3,.fn 163 1 (L1 [.ref 2 0])),(4,.i (c.cells.length:Int)),(5,.msl 3 1 0 ((((c.cells.length:Int)+1)).toNat)),(7,.fn 164 1 (L1 [.ref 2 0])),(8,.i x8),(58,.i (c.cells.length:Int)),(59,.i As),(66,.it 4),(68,.bool true)]) (fun y1=>(kP c q pos ln o1 o3 Af gk o4 y1)) (by kernel_rfl) (by kernel_rfl) (by kernel_rfl) (by decide) g0 (by kernel_rfl) (by kernel_rfl) (fun _=>by kernel_rfl) (fun he=>?_) (fun y1 he=>?_)
   ·replace h:=h.1 he;revert r;apply gO;exact gw 98 (lG CN [0,1,2,3] (AK _ _ · m0 AD))
   ·replace h:=h.2 y1 he;revert r;apply gO;exact gi (jg (Eq.refl gk.1) (jg (Eq.refl gk.2.1) (jg (Eq.refl gk.2.2) (jt (lN CN [0,1,2,3,5,4,6] (AK _ _ · m0 m1 n AD Az Nat.le.refl gk))))))
 case l4 Ab o1 o3 o4=>
  intro m0 AD;refine rd AD fun m0 AD=>?_
  revert r;apply gO
  exact bi 132 (gn fun g0=>fun p r h=>by
   refine gs (AR 36 CN) [0,1,2,3,4,5,6] p (CO (AY Tryz.f136) 36 [m0]) (AG 208 [(1,.ref 2 0),(3,.fn 163 1 (L1 [.ref 2 0])),(5,.msl 3 1 0 ((((c.cells.length:Int)+1)).toNat)),(7,.fn 164 1 (L1 [.ref 2 0])),(14,.it 4),(16,.i Ab),(17,.it 5),(18,.ref 6 0)]) (ah c q pos ln o1 o3 o4) ?_;refine Bg.lock 3 (0+((Ab).toNat)) 2 (by kernel_rfl) g0 (by kernel_rfl) (fun gk=>(ya c q pos ln o1 o3 Ab gk o4)) (by kernel_rfl) fun gk=>?_
   revert r;apply gO;exact gc (gi (gc (gi (gi (jg (Eq.refl (0+((Ab).toNat))) (lN CN [0,1,2,3,4,5,6,7] (AK _ _ · m0 n AD Nat.le.refl gk)))))))) (lE CN [2] [0,1])
 case l5 x8 As E4 o1 o3 Af Am FE o5 FD=>
  intro m0 m1 m2 AD Az GL gk;have AD:=zEE AD;have Az:=zEE Az;refine rd GL fun m2 GL=>?_
  revert r;apply gO;exact bj 74 (fun c0=>gc (gn fun g0=>jg g0 (gn fun g1=>jg g1 (cn fun y1 A5=>jc (em (La A5) [2,0,1] (af c q pos ln o1 o3 Af gk Am FE o5 FD)) (jt (bn (fun c1=>rO (jb 74 c0 (jg g0 (jg g1 (jc (em (La A5) [2,0,1] (af c q pos ln o1 o3 Af gk Am FE o5 FD)) (jb 83 c1 (jt (ce V2 [2,0,1] (yZ c q pos ln y1 o3 Af gk Am FE o5 FD) fun _=>bi 89 (jg qW (gc (gw 93 (gc (gi (gc (gi (gc (gn fun g5=>gc (gi (jg (vP (g:=gk) g5) (gw 97 (lG CN [0,1,2,3,4,5,6] (AK _ _ · m0 m1 m2 AD Az GL gk)))))))))))))) (gw 97 (lG CN [0,1,2,3,4,5,6] (AK _ _ · m0 m1 m2 AD Az GL gk))))))))))) (fun c1=>rO (jb 74 c0 (jg g0 (jg g1 (jc (em (La A5) [2,0,1] (af c q pos ln o1 o3 Af gk Am FE o5 FD)) (jb 83 c1 (jt (gw 97 (lG CN [0,1,2,3,4,5,6] (AK _ _ · m0 m1 m2 AD Az GL gk)))))))))))))))) (fun _=>lG CN [0,1,2,3,5] (AK _ _ · m0 m1 AD Az gk))
 case l6 Ab o1 o3 Af o4 o7=>
  intro m0 m1 AD Az gk;have AD:=zEE AD;refine rd Az fun m1 Az=>?_
  have p:=H0;refine gs (AR 37 CN) [0,1,2,3,4,5,6,7] p (CO (AY Tryz.f136) 37 [m0,m1]) (AG 208 [(1,.ref 2 0),(3,.fn 163 1 (L1 [.ref 2 0])),(5,.msl 3 1 0 ((((c.cells.length:Int)+1)).toNat)),(7,.fn 164 1 (L1 [.ref 2 0])),(14,.it 4),(16,.i Ab),(17,.it 5),(18,.ref 6 0),(140,.it 7)]) (yX c q pos ln o1 o3 Af gk o4 o7) ?_;revert r;apply gO
  exact gn fun g0=>fun p r h=>by
   replace h:=Vi h;refine An.nx (ops:=Ag Tryz.f136 37) HC.x (by kernel_rfl) (by kernel_rfl) 7 3 Af 2 o3 gk o7 none [1,3,5,7,14,16,17,18,140,142] [0,1,2,3,4,5,6] (AG 208 [(1,.ref 2 0),(3,.fn 163 1 (L1 [.ref 2 0])),(5,.msl 3 1 0 ((((c.cells.length:Int)+1)).toNat)),(7,.fn 164 1 (L1 [.ref 2 0])),(14,.it 4),(16,.i Ab),(17,.it 5),(18,.ref 6 0),(142,.bool false)]) (ah c q pos ln o1 o3 o4) [0,1,2,3,4,5,6,7] (fun y1=>AG 208 [(1,.ref 2 0),(3,.fn 163 1 (L1 [.ref 2 0])),(5,.msl 3 1 0 ((((c.cells.length:Int)+1)).toNat)),(7,.fn 164 1 (L1 [.ref 2 0])),(14,.it 4),(16,.i Ab),(17,.it 5),(18,.ref 6 0),(140,.it 7),(142,.bool true)]) (fun y1=>(yi c q pos ln o1 o3 Af gk o4 o7 y1)) (by kernel_rfl) (by kernel_rfl) (by kernel_rfl) (by decide) g0 (by kernel_rfl) (by kernel_rfl) (fun _=>by kernel_rfl) (fun he=>?_) (fun y1 he=>?_)
   ·replace h:=h.1 he;revert r;apply gO;exact jg (by decide:(0:Int)<=1/\ 1<((2:Nat):Int)) (jg gC (gn fun g1=>jg g1 (ce Fp [0,1] (ah c q pos ln o1 o3 o4) fun y2=>jg (Eq.refl (dy c Ab q pos ln y2 o3 o4)) (jg (by decide:(0:Int)<=0/\ 0<((2:Nat):Int)) (jg Yk (jg g1 (ce LZ [0,1] (yj c q pos ln y2 o3 o4) fun y3=>jg (Eq.refl (d5 c Ab q pos ln y3 o3 o4)) (gw 134 (lG (tg:=[([],(dy c Ab q pos ln y2 o3 o4)),([],(d5 c Ab q pos ln y3 o3 o4))]) CN [0,1,2,3,5] (AK _ _ · m0 AD))))))))))
   ·replace h:=h.2 y1 he;revert r;apply gO;exact gi (jg (Eq.refl gk.1) (jg (Eq.refl gk.2.1) (jg (Eq.refl gk.2.2) (jt (lN CN [0,1,2,3,4,5,6,8,7,9] (AK _ _ · m0 m1 n AD Az Nat.le.refl gk))))))
 case l7 Ab Do o1 o3 Af o4 o5 BW BY DS DQ o8 Dr=>
  intro m0 m1 m2 AD Az GL gk;have AD:=zEE AD;have Az:=zEE Az;refine rd GL fun m2 GL=>?_
  revert r;apply gO;exact bj 148 (fun c0=>gc (gn fun g0=>jg g0 (gn fun g1=>jg g1 (cn fun y1 A5=>jc (em (La A5) [2,0,1] (Sn c q pos ln o1 o3 Af gk o4 o5 BW BY DS DQ o8 Dr)) (jt (bn (fun c1=>rO (jb 148 c0 (jg g0 (jg g1 (jc (em (La A5) [2,0,1] (Sn c q pos ln o1 o3 Af gk o4 o5 BW BY DS DQ o8 Dr)) (jb 158 c1 (jt (cn fun y2 Bz=>jc (em (V2 Bz) [2,0,1] (ak c q pos ln y1 o3 Af gk o4 o5 BW BY DS DQ o8 Dr)) (bj 164 (fun c2=>bj 169 (fun c3=>bn (fun c4=>rO (jb 148 c0 (jo 149 (AS.int (k:=.i64) (eq_of_beq c4)) (jg g0 (jg g1 (jc (em (La A5) [2,0,1] (Sn c q pos ln o1 o3 Af gk o4 o5 BW BY DS DQ o8 Dr)) (jb 158 c1 (jt (jc (em (V2 Bz) [2,0,1] (ak c q pos ln y1 o3 Af gk o4 o5 BW BY DS DQ o8 Dr)) (jb 164 c2 (jb 169 c3 (jg (by decide:(0:Int)<=0/\ 0<((2:Nat):Int)) (jt (gw 175 (lG CN [0,1,2,3,4,5,6,7,8,9] (AK _ _ · m0 m1 m2 AD Az GL gk)))))))))))))))) (fun c4=>bn (fun c6=>rO (jb 148 c0 (jo 149 (AS.int (k:=.i64) (eq_of_beq c6)) (jg g0 (jg g1 (jc (em (La A5) [2,0,1] (Sn c q pos ln o1 o3 Af gk o4 o5 BW BY DS DQ o8 Dr)) (jb 158 c1 (jt (jc (em (V2 Bz) [2,0,1] (ak c q pos ln y1 o3 Af gk o4 o5 BW BY DS DQ o8 Dr)) (jb 164 c2 (jb 169 c3 (jg (by decide:(0:Int)<=1/\ 1<((2:Nat):Int)) (jt (gw 175 (lG CN [0,1,2,3,4,5,6,7,8,9] (AK _ _ · m0 m1 m2 AD Az GL gk)))))))))))))))) (fun c6=>nO))) (fun _=>gw 175 (lG CN [0,1,2,3,4,5,6,7,8,9] (AK _ _ · m0 m1 m2 AD Az GL gk)))) (fun _=>gw 175 (lG CN [0,1,2,3,4,5,6,7,8,9] (AK _ _ · m0 m1 m2 AD Az GL gk)))))))))))) (fun c1=>rO (jb 148 c0 (jg g0 (jg g1 (jc (em (La A5) [2,0,1] (Sn c q pos ln o1 o3 Af gk o4 o5 BW BY DS DQ o8 Dr)) (jb 158 c1 (jt (gw 175 (lG CN [0,1,2,3,4,5,6,7,8,9] (AK _ _ · m0 m1 m2 AD Az GL gk)))))))))))))))) (fun _=>lG CN [0,1,2,3,4,5,6,8] (AK _ _ · m0 m1 AD Az gk))
 case l8 x8 As o1 o3 Af o4 I8=>
  intro m0 m1 AD Az gk;have AD:=zEE AD;refine rd Az fun m1 Az=>?_
  have p:=H0;refine gs (AR 17 CN) [0,1,2,3,4] p (CO (AY Tryz.f136) 17 [m0,m1]) (AG 208 [(1,.ref 2 0),(3,.fn 163 1 (L1 [.ref 2 0])),(4,.i (c.cells.length:Int)),(5,.msl 3 1 0 ((((c.cells.length:Int)+1)).toNat)),(7,.fn 164 1 (L1 [.ref 2 0])),(8,.i x8),(58,.i (c.cells.length:Int)),(59,.i As),(66,.it 4)]) (yh c q pos ln o1 o3 Af gk o4 I8) ?_;revert r;apply gO
  exact gn fun g0=>fun p r h=>by
   replace h:=Vi h;refine An.nx (ops:=Ag Tryz.f136 17) HC.x (by kernel_rfl) (by kernel_rfl) 4 3 Af 2 o3 gk o4 (some I8) [1,3,4,5,7,8,58,59,66,68] [0,1,2,3] (AG 208 [(1,.ref 2 0),(3,.fn 163 1 (L1 [.ref 2 0])),(4,.i (c.cells.length:Int)),(5,.msl 3 1 0 ((((c.cells.length:Int)+1)).toNat)),(7,.fn 164 1 (L1 [.ref 2 0])),(8,.i x8),(58,.i (c.cells.length:Int)),(59,.i As),(68,.bool false)]) (al c q pos ln o1 o3) [0,1,2,3,4] (fun y1=>AG 208 [(1,.ref 2 0),(3,.fn 163 1 (L1 [.ref 2 0])),(4,.i (c.cells.length:Int)),(5,.msl 3 1 0 ((((c.cells.length:Int)+1)).toNat)),(7,.fn 164 1 (L1 [.ref 2 0])),(8,.i x8),(58,.i (c.cells.length:Int)),(59,.i As),(66,.it 4),(68,.bool true)]) (fun y1=>(kP c q pos ln o1 o3 Af gk o4 y1)) (by kernel_rfl) (by kernel_rfl) (by kernel_rfl) (by decide) g0 (by kernel_rfl) (by kernel_rfl) (fun _=>by kernel_rfl) (fun he=>?_) (fun y1 he=>?_)
   ·replace h:=h.1 he;revert r;apply gO;exact gw 98 (lG CN [0,1,2,3] (AK _ _ · m0 AD))
   ·replace h:=h.2 y1 he;revert r;apply gO;exact gi (jg (Eq.refl gk.1) (jg (Eq.refl gk.2.1) (jg (Eq.refl gk.2.2) (jt (lN CN [0,1,2,3,5,4,6] (AK _ _ · m0 m1 n AD Az Nat.le.refl gk))))))
 case l9 Ab o1 o3 Af o4 o5 BW BY o7 I7=>
  intro m0 m1 AD Az gk;have AD:=zEE AD;refine rd Az fun m1 Az=>?_
  have p:=H0;refine gs (AR 37 CN) [0,1,2,3,4,5,6,7] p (CO (AY Tryz.f136) 37 [m0,m1]) (AG 208 [(1,.ref 2 0),(3,.fn 163 1 (L1 [.ref 2 0])),(5,.msl 3 1 0 ((((c.cells.length:Int)+1)).toNat)),(7,.fn 164 1 (L1 [.ref 2 0])),(14,.it 4),(16,.i Ab),(17,.it 5),(18,.ref 6 0),(140,.it 7)]) (yg c q pos ln o1 o3 Af gk o4 o5 BW BY o7 I7) ?_;revert r;apply gO
  exact gn fun g0=>fun p r h=>by
   replace h:=Vi h;refine An.nx (ops:=Ag Tryz.f136 37) HC.x (by kernel_rfl) (by kernel_rfl) 7 3 Af 2 o3 gk o7 (some I7) [1,3,5,7,14,16,17,18,140,142] [0,1,2,3,4,5,6] (AG 208 [(1,.ref 2 0),(3,.fn 163 1 (L1 [.ref 2 0])),(5,.msl 3 1 0 ((((c.cells.length:Int)+1)).toNat)),(7,.fn 164 1 (L1 [.ref 2 0])),(14,.it 4),(16,.i Ab),(17,.it 5),(18,.ref 6 0),(142,.bool false)]) (aj c q pos ln o1 o3 o4 o5 BW BY) [0,1,2,3,4,5,6,7] (fun y1=>AG 208 [(1,.ref 2 0),(3,.fn 163 1 (L1 [.ref 2 0])),(5,.msl 3 1 0 ((((c.cells.length:Int)+1)).toNat)),(7,.fn 164 1 (L1 [.ref 2 0])),(14,.it 4),(16,.i Ab),(17,.it 5),(18,.ref 6 0),(140,.it 7),(142,.bool true)]) (fun y1=>(yc c q pos ln o1 o3 Af gk o4 o5 BW BY o7 y1)) (by kernel_rfl) (by kernel_rfl) (by kernel_rfl) (by decide) g0 (by kernel_rfl) (by kernel_rfl) (fun _=>by kernel_rfl) (fun he=>?_) (fun y1 he=>?_)
   ·replace h:=h.1 he;revert r;apply gO;exact jg (by decide:(0:Int)<=1/\ 1<((2:Nat):Int)) (bi 179 (jg gC (gn fun g1=>jg g1 (ce Fp [0,1] (aj c q pos ln o1 o3 o4 o5 BW BY) fun y2=>jg (Eq.refl (YG c Ab q pos ln y2 o3 o4 o5 BW BY)) (jg (by decide:(0:Int)<=0/\ 0<((2:Nat):Int)) (bi 197 (jg Yk (jg g1 (ce LZ [0,1] (yf c q pos ln y2 o3 o4 o5 BW BY) fun y3=>jg (Eq.refl (d4 c Ab q pos ln y3 o3 o4 o5 BW BY)) (gw 134 (lG (tg:=[([],(YG c Ab q pos ln y2 o3 o4 o5 BW BY)),([],(d4 c Ab q pos ln y3 o3 o4 o5 BW BY))]) CN [0,1,2,3,5] (AK _ _ · m0 AD)))))) (gw 134 (lG (tg:=[([],(YG c Ab q pos ln y2 o3 o4 o5 BW BY))]) CN [0,1,2,3,5] (AK _ _ · m0 AD)))))))) (jg (by decide:(0:Int)<=0/\ 0<((2:Nat):Int)) (bi 197 (jg Yk (gi (ce LZ [0,1] (aj c q pos ln o1 o3 o4 o5 BW BY) fun y2=>jg (Eq.refl (dz c Ab q pos ln y2 o3 o4 o5 BW BY)) (gw 134 (lG (tg:=[([],(dz c Ab q pos ln y2 o3 o4 o5 BW BY))]) CN [0,1,2,3,5] (AK _ _ · m0 AD)))))) (gw 134 (lG CN [0,1,2,3,5] (AK _ _ · m0 AD))))))
   ·replace h:=h.2 y1 he;revert r;apply gO;exact gi (jg (Eq.refl gk.1) (jg (Eq.refl gk.2.1) (jg (Eq.refl gk.2.2) (jt (lN CN [0,1,2,3,4,5,6,8,7,9] (AK _ _ · m0 m1 n AD Az Nat.le.refl gk))))))
theorem rf {n:Nat} {c:AB} {q:AA} {pos:List Int} {ln:Nat} {lost:List Int} {r:Bool×(List Int)} (h:Ox n c q pos ln lost=some r):EQ 136 [.ref 0 0] [some (.cells (AJ c++AC q++[.ints pos,.msl 1 1 0 ln])),some (.ints lost)] (.bool r.1) [some (.cells (AJ c++AC q++[.ints pos,.msl 1 1 0 ln])),some (.ints r.2)] false:=by
 refine ot Tryz.func136 fun B N=>?_
 revert r;apply gO;exact bi 32 (lE CN [2] [0,1]) (gc (gw 41 (gi (lN CN [0,1,2,3] ((rn B N c q pos ln lost n) _ _ · n Nat.le.refl)))))
end Go.Proofs.YtkjbblkieglmlaaGreatDoor
