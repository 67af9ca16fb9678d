/- Part 4 of 7 of what the proofs of these laws stand on. -/
import Derived.Test.YtkjbblkieglmlaaGreatDoorPuC
import Derived.Laws.BitsLemmas
import Derived.Shelf.Sort.Plain
set_option linter.all false
namespace Go.Proofs.YtkjbblkieglmlaaGreatDoor
abbrev zGN:=@List.drop_zero
open Go.RowKit
set_option maxRecDepth 100000
set_option maxHeartbeats 40000000
def zFd (n:Nat)(s_:List Int):Option Unit:= some ()
def zFf (n:Nat)(s_:List Int):Option Unit:=zFd n s_
theorem zFc {n:Nat}(s_:List Int){r:Unit}(h:zFf n s_=some r):EQ 162 [.ints s_] [] (.fn 176 1 (L1 [.ref 0 0])) [oC [.ints s_]] true:=by
 refine ot Tryz.func162 fun B N=>?_
 revert r;apply gO;exact lE AC [2] [0]
inductive RL where
 | l1 (x3:Int)
def PL (n:Nat)(self:RL -> Option (List (Int×Int)))(s_:List Int)(x3:Int):Option (List (Int×Int)):= bif (decide (x3>=0)) then if 0<=x3/\ x3<(s_.length:Int) then Option.map (fun l=>(x3,s_.getD ((x3).toNat) 0)::l) (if AJ (x3-1) then self (.l1 (x3-1)) else none) else none else some []
def eP (n:Nat)(self:RL -> Option (List (Int×Int)))(s_:List Int):Option (List (Int×Int)):= if AJ ((s_.length:Int)-1) then self (.l1 ((s_.length:Int)-1)) else none
def NE (s_:List Int):Nat -> RL -> Option (List (Int×Int))
 | 0,_=>none
 | n+1,.l1 x3=>PL n (NE s_ n) s_ x3
def back (n:Nat)(s_:List Int):Option (List (Int×Int)):=eP n (NE s_ n) s_
def eQ (C:Ba Tryz.prog)(n:Nat)(s_:List Int)(r:List (Int×Int)):RL -> Prop
 | .l1 x3=>∀ m0:Nat,n<=m0 -> ∀ i:Nat,i<=C.encs.length -> C.encs.drop i=r.map O7 -> Ap Tryz.prog GG Fence.wide none 1 (C.Y GG 1 i) (C.Q GG 1) (A4 m0 (BB (AX Tryz.f176) 0 [])) ⟨AG 19 [(0,.yl C.l),(1,.ref 0 0),(3,.i x3)],[oC [.ints s_]]⟩
theorem zFZ (C:Ba Tryz.prog)(n:Nat)(self:RL -> Option (List (Int×Int)))(s_:List Int)(AI: ∀ pt r,self pt=some r -> eQ C n s_ r pt)(x3:Int)(r:List (Int×Int))(h:PL n self s_ x3=some r):eQ C (n+1) s_ r (.l1 x3):=by
 intro m0 AD;intro i hi hd;refine rd AD fun m0 AD=>?_
 unfold PL at h;have p:=H0;rcases By h with ⟨c0,h⟩ | ⟨c0,h⟩
 ·have p:=H0.b 8 c0;refine gs (AV 3 AC) [0] p (Co (AX Tryz.f176) 3 [m0]) (AG 19 [(0,.yl C.l),(1,.ref 0 0),(3,.i x3)]) [oC [.ints s_]] ?_;obtain ⟨g0,h⟩:=B0 h;have p:=H0.g g0;obtain ⟨r,h2,rfl⟩:=K5 h;clear h;have h:=h2;clear h2;obtain ⟨hx,hi,hd⟩:=Uc hd;refine Ap.y (ops:=Aj Tryz.f176 3) HC.x 6 [0,1,3,18] [0] p (x:=O7 (x3,s_.getD ((x3).toNat) 0)) (AG 19 [(0,.yl C.l),(1,.ref 0 0),(3,.i x3),(18,.bool false)]) [oC [.ints s_]] (AG 19 [(0,.yl C.l),(1,.ref 0 0),(3,.i x3),(18,.bool true)]) [oC [.ints s_]] (by kernel_rfl) (by kernel_rfl) (by kernel_rfl) hx (by kernel_rfl) ?_ ?_
  ·generalize i+1=i at hi hd ⊢
   obtain ⟨g1,h⟩:=B0 h;have p:=H0.w 10 g1;exact gg AC [0] p (AI _ _ h m0 AD i hi hd)
  ·exact TrI.e HC.x AC 6 H0 (by kernel_rfl) (.inr rfl)
 ·have p:=H0.b 8 c0;cases h;exact TrI.e HC.x AC 10 p (by kernel_rfl) (.inl (by rw [O9 hi hd]))
theorem qE (C:Ba Tryz.prog)(s_:List Int): ∀ (n:Nat) (pt:RL) (r:List (Int×Int)),NE s_ n pt=some r -> eQ C n s_ r pt
 | 0,_,_,h=>by cases h
 | n+1,.l1 x3,r,h=>zFZ C n (NE s_ n) s_ (qE C s_ n) x3 r h
theorem zFa {n:Nat}(s_:List Int){r:List (Int×Int)}(h:back n s_=some r)(C:Ba Tryz.prog)(hC:C.encs=r.map O7):Ap Tryz.prog GG Fence.wide none 1 (C.Y GG 1 0) (C.Q GG 1) [.code (AX Tryz.f176)] ⟨AG 19 [(0,.yl C.l),(1,.ref 0 0)],[oC [.ints s_]]⟩:=by
 suffices H: ∀ i:Nat,i<=C.encs.length -> C.encs.drop i=r.map O7 -> Ap Tryz.prog GG Fence.wide none 1 (C.Y GG 1 i) (C.Q GG 1) [.code (AX Tryz.f176)] ⟨AG 19 [(0,.yl C.l),(1,.ref 0 0)],[oC [.ints s_]]⟩ from H 0 (zDJ _) (by rw [zGN];exact hC)
 intro i hi hd;have AI:=qE C s_ n;unfold back at h
 generalize NE s_ n=self at h AI
 unfold eP at h;obtain ⟨g0,h⟩:=B0 h;have p:=H0.w 6 g0;exact gg AC [0] p (en n (AI _ _ h n Nat.le.refl i hi hd))
theorem zFe {n:Nat}{s_:List Int}{r:List (Int×Int)}(h:back n s_=some r)(H:DH):EQ 162 [.ints s_] H (.it H.length) (H++[some (.iter (r.map O7))]) true:=by
 refine ES.iterN (c:=L1 [.ref 0 0]) (h0:=[oC [.ints s_]]) (fn:=Tryz.f176) (zFc (n:=0) s_ (r:=()) rfl) (by kernel_rfl) Tryz.func176 (by kernel_rfl) (by kernel_rfl) (by kernel_rfl) (fun C hC=>?_) H;have e:DV.yl C.l::(List.range 1).map (L1 [.ref 0 0])++List.replicate (Tryz.f176.ntmps-(1+1)) .any=AG 19 [(0,.yl C.l),(1,.ref 0 0)]:=by kernel_rfl
 rw [e];exact zFa s_ h C hC
end Go.Proofs.YtkjbblkieglmlaaGreatDoor
namespace Go.Proofs.YtkjbblkieglmlaaGreatDoor
open Go.RowKit
set_option maxRecDepth 100000
set_option maxHeartbeats 40000000
def wM (n:Nat)(g_:List (List Int))(AT:List Bool)(start:Int):Option Unit:= some ()
def wN (n:Nat)(g_:List (List Int))(AT:List Bool)(start:Int):Option Unit:=wM n g_ AT start
theorem wL {n:Nat}(g_:List (List Int))(AT:List Bool)(start:Int){r:Unit}(h:wN n g_ AT start=some r):EQ 130 [.sl 1 g_.length (AP BX g_),.bools AT,.i start] [] (.fn 157 3 (L1 [.ref 0 0,.ref 1 0,.ref 2 0])) [oC [.sl 1 g_.length (AP BX g_)],oC [.i start],oC [.bools AT]] true:=by
 refine ot Tryz.func130 fun B N=>?_
 revert r;apply gO;exact lE AC [6] [0,2,1]
theorem uD:As (Aj Tryz.f157 6) [] (List.range 8) []:=by unfold As;kernel_rfl
def Ip:Bh:=fun i=>match i with
 | 6=>.ord [] (List.range 8) []
 | _=>.no
def Xa (g:List (List Int))(start:Int)(inn o3:List Bool)(o4:List Int):DH:=[oC [.sl 1 g.length (AP BX g)],oC [.i start],oC [.bools inn],some (.bools o3),oI o4]
inductive Jh where
 | l1 (x6:Nat) (o3:List Bool) (o4:List Int)
 | l2 (x6:Nat) (Dc:List Int) (Gz B3:Int) (o3:List Bool) (o4:List Int)
 | l3 (o3:List Bool)
def Ny (n:Nat)(self:Jh -> Option (List Int))(g:List (List Int))(start:Int)(inn:List Bool)(x6:Nat)(o3:List Bool)(o4:List Int):Option (List Int):= bif (decide ((x6:Int)>0)) then if ((0:Int)<=0/\ 0<(x6:Int))/\ 0+0<o4.length then Option.map (fun l=>(o4.getD (0+0) 0)::l) (if ((0:Int)<=0/\ 0<(x6:Int))/\ 0+0<o4.length/\ (0<=(o4.getD (0+0) 0)/\ (o4.getD (0+0) 0)<(g.length:Int)) then self (.l2 x6 (g.getD ((o4.getD (0+0) 0).toNat) []) (((g.getD ((o4.getD (0+0) 0).toNat) []).length:Nat):Int) 0 o3 o4) else none) else none else some []
def Kw (n:Nat)(self:Jh -> Option (List Int))(g:List (List Int))(start:Int)(inn:List Bool)(x6:Nat)(Dc:List Int)(Gz B3:Int)(o3:List Bool)(o4:List Int):Option (List Int):= bif (decide (B3<Gz)) then if (0<=B3/\ B3<(Dc.length:Int))/\ (0<=(Dc.getD ((B3).toNat) 0)/\ (Dc.getD ((B3).toNat) 0)<(inn.length:Int)) then bif (inn.getD ((Dc.getD ((B3).toNat) 0).toNat) false) then if (0<=(Dc.getD ((B3).toNat) 0)/\ (Dc.getD ((B3).toNat) 0)<(g.length:Int))/\ 0+((Dc.getD ((B3).toNat) 0).toNat)<o3.length then bif (!(o3.getD (0+((Dc.getD ((B3).toNat) 0).toNat)) false)) then if ((0=0/\ 1=([Dc.getD ((B3).toNat) 0]:List Int).length)/\ (0=0/\ x6=o4.length)/\ o4.length+([Dc.getD ((B3).toNat) 0]:List Int).length<=BA)/\ AJ (B3+1) then self (.l2 (o4.length+([Dc.getD ((B3).toNat) 0]:List Int).length) Dc Gz (B3+1) (o3.set (0+((Dc.getD ((B3).toNat) 0).toNat)) true) (o4++([Dc.getD ((B3).toNat) 0]:List Int))) else none else if AJ (B3+1) then self (.l2 x6 Dc Gz (B3+1) o3 o4) else none else none else if AJ (B3+1) then self (.l2 x6 Dc Gz (B3+1) o3 o4) else none else none else bif ((x6-1)==0) then if (0:Int)<=1/\ (1:Int)<=(x6:Int)/\ (x6:Int)<=(x6:Int) then self (.l3 o3) else none else if (0:Int)<=1/\ (1:Int)<=(x6:Int)/\ (x6:Int)<=(x6:Int) then if 1<=o4.length then self (.l1 (x6-1) o3 (o4.drop 1)) else none else none
def aD (n:Nat)(self:Jh -> Option (List Int))(g:List (List Int))(start:Int)(inn:List Bool)(o3:List Bool):Option (List Int):= some []
def aE (n:Nat)(self:Jh -> Option (List Int))(g:List (List Int))(start:Int)(inn:List Bool):Option (List Int):= if (((g.length:Int):Int)=(g.length:Int)/\ 0<=(g.length:Int)/\ ((g.length:Int):Int)<=1000000000000)/\ (0<=start/\ start<(g.length:Int))/\ 0+((start).toNat)<(List.replicate g.length false).length then self (.l1 1 ((List.replicate g.length false).set (0+((start).toNat)) true) ([start]:List Int)) else none
def Ee (g:List (List Int))(start:Int)(inn:List Bool):Nat -> Jh -> Option (List Int)
 | 0,_=>none
 | n+1,.l1 x6 o3 o4=>Ny n (Ee g start inn n) g start inn x6 o3 o4
 | n+1,.l2 x6 Dc Gz B3 o3 o4=>Kw n (Ee g start inn n) g start inn x6 Dc Gz B3 o3 o4
 | n+1,.l3 o3=>aD n (Ee g start inn n) g start inn o3
def Gf (n:Nat)(g:List (List Int))(start:Int)(inn:List Bool):Option (List Int):=aE n (Ee g start inn n) g start inn
def Nz (C:Ba Tryz.prog)(n:Nat)(g:List (List Int))(start:Int)(inn:List Bool)(r:List Int):Jh -> Prop
 | .l1 x6 o3 o4=>∀ m0:Nat,n<=m0 -> ∀ i:Nat,i<=C.encs.length -> C.encs.drop i=r.map BP -> Ap Tryz.prog GG Fence.wide none 3 (C.Y GG 3 i) (C.Q GG 3) (A4 m0 (BB (AX Tryz.f157) 0 [])) ⟨AG 58 [(0,.yl C.l),(1,.ref 0 0),(3,.ref 2 0),(5,.msl 3 1 0 g.length),(6,.msl 4 1 0 x6)],[oC [.sl 1 g.length (AP BX g)],oC [.i start],oC [.bools inn],some (.bools o3),oI o4]⟩
 | .l2 x6 Dc Gz B3 o3 o4=>∀ m0 m1:Nat,n<=m0 -> n<=m1 -> ∀ i:Nat,i<=C.encs.length -> C.encs.drop i=r.map BP -> Ap Tryz.prog GG Fence.wide none 3 (C.Y GG 3 i) (C.Q GG 3) (A4 m1 (BB (AX Tryz.f157) 2 [m0])) ⟨AG 58 [(0,.yl C.l),(1,.ref 0 0),(3,.ref 2 0),(5,.msl 3 1 0 g.length),(6,.msl 4 1 0 x6),(33,.ints Dc),(34,.i Gz),(35,.i B3)],[oC [.sl 1 g.length (AP BX g)],oC [.i start],oC [.bools inn],some (.bools o3),oI o4]⟩
 | .l3 o3=>∀ m0:Nat,n<=m0 -> ∀ i:Nat,i<=C.encs.length -> C.encs.drop i=r.map BP -> Ap Tryz.prog GG Fence.wide none 3 (C.Y GG 3 i) (C.Q GG 3) (A4 m0 (BB (AX Tryz.f157) 0 [])) ⟨AG 58 [(0,.yl C.l),(1,.ref 0 0),(3,.ref 2 0),(5,.msl 3 1 0 g.length),(6,.ints ([]:List Int))],[oC [.sl 1 g.length (AP BX g)],oC [.i start],oC [.bools inn],some (.bools o3)]⟩
theorem wH (C:Ba Tryz.prog)(n:Nat)(self:Jh -> Option (List Int))(g:List (List Int))(start:Int)(inn:List Bool)(AI: ∀ pt r,self pt=some r -> Nz C n g start inn r pt)(x6:Nat)(o3:List Bool)(o4:List Int)(r:List Int)(h:Ny n self g start inn x6 o3 o4=some r):Nz C (n+1) g start inn r (.l1 x6 o3 o4):=by
 intro m0 AD;intro i hi hd;refine rd AD fun m0 AD=>?_
 unfold Ny at h;have p:=H0;rcases By h with ⟨c0,h⟩ | ⟨c0,h⟩
 ·have p:=H0.b 19 c0;refine gs (AV 5 Ip) [0,1,2,3,4] p (Co (AX Tryz.f157) 5 [m0]) (AG 58 [(0,.yl C.l),(1,.ref 0 0),(3,.ref 2 0),(5,.msl 3 1 0 g.length),(6,.msl 4 1 0 x6)]) (Xa g start inn o3 o4) ?_;obtain ⟨⟨g0,g1⟩,h⟩:=B0 h;have p:=H0.g g0 |>.g g1
  obtain ⟨r,h2,rfl⟩:=K5 h;clear h;have h:=h2;clear h2;obtain ⟨hx,hi,hd⟩:=Uc hd;refine Ap.y (ops:=Aj Tryz.f157 5) HC.x 4 [0,1,3,5,6,27] [0,1,2,3,4] p (x:=BP (o4.getD (0+0) 0)) (AG 58 [(0,.yl C.l),(1,.ref 0 0),(3,.ref 2 0),(5,.msl 3 1 0 g.length),(6,.msl 4 1 0 x6),(27,.bool false)]) (Xa g start inn o3 o4) (AG 58 [(0,.yl C.l),(1,.ref 0 0),(3,.ref 2 0),(5,.msl 3 1 0 g.length),(6,.msl 4 1 0 x6),(27,.bool true)]) (Xa g start inn o3 o4) (by kernel_rfl) (by kernel_rfl) (by kernel_rfl) hx (by kernel_rfl) ?_ ?_
  ·generalize i+1=i at hi hd ⊢
   obtain ⟨⟨g2,g3,g4⟩,h⟩:=B0 h;have p:=H0.g uD |>.g g2 |>.g g3 |>.g g4
   exact gg Ip [0,1,2,3,4] p (en n (AI _ _ h m0 n AD Nat.le.refl i hi hd))
  ·exact TrI.e HC.x Ip 6 H0 (by kernel_rfl) (.inr rfl)
 ·have p:=H0.b 19 c0;cases h;exact TrI.e HC.x Ip 10 p (by kernel_rfl) (.inl (by rw [O9 hi hd]))
theorem wG (C:Ba Tryz.prog)(n:Nat)(self:Jh -> Option (List Int))(g:List (List Int))(start:Int)(inn:List Bool)(AI: ∀ pt r,self pt=some r -> Nz C n g start inn r pt)(x6:Nat)(Dc:List Int)(Gz B3:Int)(o3:List Bool)(o4:List Int)(r:List Int)(h:Kw n self g start inn x6 Dc Gz B3 o3 o4=some r):Nz C (n+1) g start inn r (.l2 x6 Dc Gz B3 o3 o4):=by
 intro m0 m1 AD Ax;intro i hi hd;have AD:=zC3 AD;refine rd Ax fun m1 Ax=>?_
 unfold Kw at h;have p:=H0;rcases By h with ⟨c0,h⟩ | ⟨c0,h⟩
 ·obtain ⟨⟨g0,g1⟩,h⟩:=B0 h;have p:=H0.b 36 c0 |>.g g0 |>.g g1
  rcases By h with ⟨c1,h⟩ | ⟨c1,h⟩
  ·obtain ⟨⟨g2,g3⟩,h⟩:=B0 h;have p:=p.b 42 c1 |>.g g2 |>.g g3
   rcases By h with ⟨c2,h⟩ | ⟨c2,h⟩
   ·obtain ⟨⟨g4,g5⟩,h⟩:=B0 h;have p:=p.b 48 c2 |>.g g2 |>.g g3 |>.g g4 |>.w 57 g5
    exact gg Ip [0,1,2,3,6] p (AI _ _ h m0 m1 AD Ax i hi hd)
   ·obtain ⟨g4,h⟩:=B0 h;have p:=p.b 48 c2 |>.w 57 g4
    exact gg Ip [0,1,2,3,4] p (AI _ _ h m0 m1 AD Ax i hi hd)
  ·obtain ⟨g2,h⟩:=B0 h;have p:=p.b 42 c1 |>.w 57 g2
   exact gg Ip [0,1,2,3,4] p (AI _ _ h m0 m1 AD Ax i hi hd)
 ·have p:=H0.b 36 c0;rcases By h with ⟨c1,h⟩ | ⟨c1,h⟩
  ·obtain ⟨g0,h⟩:=B0 h;have p:=p.g g0 |>.o 21 (AS.mse_nil (k:=4) (m:=1) (o:=1) (eq_of_beq c1))
   exact gg Ip [0,1,2,3] p (AI _ _ h m0 AD i hi hd)
  ·obtain ⟨g0,h⟩:=B0 h;have p:=p.g g0 |>.o 21 (AS.mse_msl (k:=4) (m:=1) (o:=1) (wq c1) rfl)
   obtain ⟨g1,h⟩:=B0 h;refine gs Ip [0,1,2,3,4] p (A4 m0 (BB (AX Tryz.f157) 0 [])) (AG 58 [(0,.yl C.l),(1,.ref 0 0),(3,.ref 2 0),(5,.msl 3 1 0 g.length),(6,.msl 4 1 1 (x6-1))]) (Xa g start inn o3 o4) ?_;refine Bg.le (A0.rootE 4 1 ⟨AG 58 [(0,.yl C.l),(1,.ref 0 0),(3,.ref 2 0),(5,.msl 3 1 0 g.length),(6,.msl 5 1 0 (x6-1))],[oC [.sl 1 g.length (AP BX g)],oC [.i start],oC [.bools inn],some (.bools o3),none,oI (o4.drop 1)]⟩ [1<=o4.length] (by kernel_rfl) ⟨g1,trivial⟩) (by kernel_rfl) ?_;refine Bg.le (A0.compE [0,1,2,3,5] (by kernel_rfl)) (by kernel_rfl) ?_;exact AI _ _ h m0 AD i hi hd
theorem wF (C:Ba Tryz.prog)(n:Nat)(self:Jh -> Option (List Int))(g:List (List Int))(start:Int)(inn:List Bool)(AI: ∀ pt r,self pt=some r -> Nz C n g start inn r pt)(o3:List Bool)(r:List Int)(h:aD n self g start inn o3=some r):Nz C (n+1) g start inn r (.l3 o3):=by
 intro m0 AD;intro i hi hd;refine rd AD fun m0 AD=>?_
 unfold aD at h;have p:=H0;cases h;exact TrI.e HC.x Ip 10 p (by kernel_rfl) (.inl (by rw [O9 hi hd]))
theorem WH (C:Ba Tryz.prog)(g:List (List Int))(start:Int)(inn:List Bool): ∀ (n:Nat) (pt:Jh) (r:List Int),Ee g start inn n pt=some r -> Nz C n g start inn r pt
 | 0,_,_,h=>by cases h
 | n+1,.l1 x6 o3 o4,r,h=>wH C n (Ee g start inn n) g start inn (WH C g start inn n) x6 o3 o4 r h
 | n+1,.l2 x6 Dc Gz B3 o3 o4,r,h=>wG C n (Ee g start inn n) g start inn (WH C g start inn n) x6 Dc Gz B3 o3 o4 r h
 | n+1,.l3 o3,r,h=>wF C n (Ee g start inn n) g start inn (WH C g start inn n) o3 r h
theorem wK {n:Nat}(g:List (List Int))(start:Int)(inn:List Bool){r:List Int}(h:Gf n g start inn=some r)(C:Ba Tryz.prog)(hC:C.encs=r.map BP):Ap Tryz.prog GG Fence.wide none 3 (C.Y GG 3 0) (C.Q GG 3) [.code (AX Tryz.f157)] ⟨AG 58 [(0,.yl C.l),(1,.ref 0 0),(2,.ref 1 0),(3,.ref 2 0)],[oC [.sl 1 g.length (AP BX g)],oC [.i start],oC [.bools inn]]⟩:=by
 suffices H: ∀ i:Nat,i<=C.encs.length -> C.encs.drop i=r.map BP -> Ap Tryz.prog GG Fence.wide none 3 (C.Y GG 3 i) (C.Q GG 3) [.code (AX Tryz.f157)] ⟨AG 58 [(0,.yl C.l),(1,.ref 0 0),(2,.ref 1 0),(3,.ref 2 0)],[oC [.sl 1 g.length (AP BX g)],oC [.i start],oC [.bools inn]]⟩ from H 0 (zDJ _) (by rw [zGN];exact hC)
 intro i hi hd;have AI:=WH C g start inn n;unfold Gf at h
 generalize Ee g start inn n=self at h AI
 unfold aE at h;obtain ⟨⟨g0,g1,g2⟩,h⟩:=B0 h;have p:=H0.g g0 |>.g g1 |>.g g2
 exact gg Ip [0,1,2,3,4] p (en n (AI _ _ h n Nat.le.refl i hi hd))
theorem aG {n:Nat}{g_:List (List Int)}{AT:List Bool}{start:Int}{r:List Int}(h:Gf n g_ start AT=some r)(H:DH):EQ 130 [.sl 1 g_.length (AP BX g_),.bools AT,.i start] H (.it H.length) (H++[some (.iter (r.map BP))]) true:=by
 refine ES.iterN (c:=L1 [.ref 0 0,.ref 1 0,.ref 2 0]) (h0:=[oC [.sl 1 g_.length (AP BX g_)],oC [.i start],oC [.bools AT]]) (fn:=Tryz.f157) (wL (n:=0) g_ AT start (r:=()) rfl) (by kernel_rfl) Tryz.func157 (by kernel_rfl) (by kernel_rfl) (by kernel_rfl) (fun C hC=>?_) H;have e:DV.yl C.l::(List.range 3).map (L1 [.ref 0 0,.ref 1 0,.ref 2 0])++List.replicate (Tryz.f157.ntmps-(3+1)) .any=AG 58 [(0,.yl C.l),(1,.ref 0 0),(2,.ref 1 0),(3,.ref 2 0)]:=by kernel_rfl
 rw [e];exact wK g_ start AT h C hC
end Go.Proofs.YtkjbblkieglmlaaGreatDoor
namespace Go.Proofs.YtkjbblkieglmlaaGreatDoor
abbrev zAi:=@decide_eq_true_iff
abbrev zCW:=@List.mem_append_left
abbrev zCf:=@List.length_singleton
abbrev zCy:=@List.mem_append_right
abbrev zDB:=@List.getElem?_set_self
abbrev zGF:=@Bool.false_and
abbrev zGL:=@List.countP_cons
abbrev zGb:=@List.append_nil
abbrev zGo:=@List.append_assoc
abbrev zGz:=@List.countP_le_length
abbrev zG5:=@Bool.and_false
open Go.RowKit
def nb (g:List (List Int))(v:Int):List Int:=g.getD v.toNat []
structure Gr (g:List (List Int)):Prop where
 len:g.length<=256
 row: ∀ v,0<=v -> v<(g.length:Int) -> (nb g v).length<=256
 rng: ∀ v,0<=v -> v<(g.length:Int) -> ∀ u∈nb g v,0<=u/\ u<(g.length:Int)
 sym: ∀ v,0<=v -> v<(g.length:Int) -> ∀ u∈nb g v,v∈nb g u
theorem Gr.of {g:List (List Int)}(h:LW g=true)(hr: ∀ r∈g,r.length<=LB):Gr g:=by
 unfold LW at h;rw [zAW,zAi,zAg] at h
 have key: ∀ v,0<=v -> v<(g.length:Int) -> ∀ u∈nb g v,(0<=u/\ u<(g.length:Int))/\ v∈nb g u:=by
  intro v h0 h1 u hu;have h2:=h.2 v.toNat (zAn.2 (by omega));unfold Jf at h2;rw [zAg] at h2;obtain ⟨j,hj,e⟩:=zDD hu;have h3:=h2 j (zAn.2 hj);unfold Hq at h3
  have e2:(g.getD v.toNat []).getD j 0=u:=by
   show (nb g v).getD j 0=u
   rw [u8,zAa hj];exact e
  simp only [e2,zAW,zAi,zGy] at h3;have e3:((v.toNat:Nat):Int)=v:=by omega
  rw [e3] at h3;exact ⟨⟨h3.1.1.1.1,h3.1.1.1.2⟩,h3.2⟩
 have grow: ∀ v,0<=v -> v<(g.length:Int) -> ∀ k,k<(nb g v).length -> (k:Int)<=(nb g v).getD k 0:=by
  intro v h0 h1 k;have h2:=h.2 v.toNat (zAn.2 (by omega));unfold Jf at h2;rw [zAg] at h2
  induction k with
  | zero=>
   intro hk;have h3:=h2 0 (zAn.2 hk);unfold Hq at h3;simp only [zAW,zAi] at h3;exact h3.1.1.1.1
  | succ k ih=>
   intro hk;have h3:=h2 (k+1) (zAn.2 hk);unfold Hq at h3;have d:decide (0<k+1)=true:=zAU (by omega);simp only [zAW,zAi,d,zCs,zGD,Nat.add_sub_cancel] at h3;have h4:(nb g v).getD k 0<(nb g v).getD (k+1) 0:=h3.1.2;have:=ih (by omega);omega
 exact ⟨h.1,fun v h0 h1=>by
  refine zGd fun hl=>?_
  have h2:=grow v h0 h1 256 hl;have h3:(nb g v).getD 256 0∈nb g v:=by rw [u8,zAa hl];exact zBD hl
  have h4:=(key v h0 h1 _ h3).1;have:=h.1;omega,fun v h0 h1 u hu=>(key v h0 h1 u hu).1,fun v h0 h1 u hu=>(key v h0 h1 u hu).2⟩
inductive Rc (g:List (List Int))(inn:List Bool)(s:Int):Int -> Prop
 | start:Rc g inn s s
 | step {a b:Int} (h:Rc g inn s a) (hb:b∈nb g a) (hi:inn.getD b.toNat false=true):Rc g inn s b
section
variable {g:List (List Int)} {inn:List Bool} {s:Int}
theorem Rc.rng (G:Gr g)(h0:0<=s)(h1:s<(g.length:Int)){v:Int}(h:Rc g inn s v):0<=v/\ v<(g.length:Int):=by
 induction h with
 | start=>exact ⟨h0,h1⟩
 | step h hb hi ih=>exact G.rng _ ih.1 ih.2 _ hb
theorem Rc.isIn (hs:inn.getD s.toNat false=true){v:Int}(h:Rc g inn s v):inn.getD v.toNat false=true:=by
 cases h with
 | start=>exact hs
 | step h hb hi=>exact hi
theorem Rc.trans {a b:Int}(h:Rc g inn s a)(h2:Rc g inn a b):Rc g inn s b:=by
 induction h2 with
 | start=>exact h
 | step _ hb hi ih=>exact .step ih hb hi
theorem Rc.symm (G:Gr g)(h0:0<=s)(h1:s<(g.length:Int))(hs:inn.getD s.toNat false=true){v:Int}(h:Rc g inn s v):Rc g inn v s:=by
 induction h with
 | start=>exact .start
 | step h hb hi ih=>
  have hr:=h.rng G h0 h1;exact (Rc.step Rc.start (G.sym _ hr.1 hr.2 _ hb) (h.isIn hs)).trans ih
theorem Rc.mono {mR:List Bool}(hm: ∀ v:Int,inn.getD v.toNat false=true -> mR.getD v.toNat false=true){v:Int}(h:Rc g inn s v):Rc g mR s v:=by
 induction h with
 | start=>exact .start
 | step h hb hi ih=>exact .step ih hb (hm _ hi)
def GB (l:List Bool):Nat:=l.countP fun b=>!b
theorem Yj: ∀ (l:List Bool) (i:Nat),i<l.length -> l.getD i false=false -> GB (l.set i true)+1=GB l
 | b::l,0,_,h=>by
  have h:b=false:=h;subst h;simp [GB,zGL]
 | b::l,i+1,hi,h=>by
  have:=Yj l i (Nat.lt_of_succ_lt_succ hi) (by simpa using h)
  show GB (b::l.set i true)+1=GB (b::l)
  unfold GB at this ⊢;rw [zGL,zGL];omega
def Dw (inn:List Bool)(st:List Bool×List Int)(v:Int):List Bool×List Int:=bif inn.getD v.toNat false&&!st.1.getD v.toNat false then (st.1.set v.toNat true,st.2++[v]) else st
structure Bf (g:List (List Int))(inn:List Bool)(s:Int)(met:List Bool)(Q P:List Int):Prop where
 len:met.length=g.length
 cnt:Q.length+GB met<=g.length
 nd:(P++Q).Nodup
 rc: ∀ v∈P++Q,Rc g inn s v
 rng: ∀ v∈P++Q,0<=v/\ v<(g.length:Int)
 met: ∀ v:Int,0<=v -> v<(g.length:Int) -> (met.getD v.toNat false=true↔v∈P++Q)
 cl: ∀ p∈P,∀ b∈nb g p,inn.getD b.toNat false=true -> b∈P++Q
 st:s∈P++Q
theorem Bf.ex (G:Gr g){met:List Bool}{Q P:List Int}(h:Bf g inn s met Q P){v u:Int}(hv:v∈Q)(hu:u∈nb g v):
 Bf g inn s (Dw inn (met,Q) u).1 (Dw inn (met,Q) u).2 P/\ (∃ t,(Dw inn (met,Q) u).2=Q++t)/\ (inn.getD u.toNat false=true -> u∈P++(Dw inn (met,Q) u).2)/\ 2*GB (Dw inn (met,Q) u).1+(Dw inn (met,Q) u).2.length<=2*GB met+Q.length:=by
 have Gm:=h.rng v (zCy _ hv);have J2:=G.rng v Gm.1 Gm.2 u hu;unfold Dw
 dsimp only
 cases hi:inn.getD u.toNat false
 ·rw [zGF,zAR];exact ⟨h,⟨[],(zGb _).symm⟩,fun h=>(by cases h),zA5 _⟩
 ·cases hm:met.getD u.toNat false
  ·rw [zC0,Bool.and_true,zAV];have hn:u∉P++Q:=fun hh=>by rw [(h.met u J2.1 J2.2).2 hh] at hm;cases hm
   have hl:=h.len;have hc:=Yj met u.toNat (by omega) hm;have hcnt:=h.cnt;have D8: ∀ x,x∈P++(Q++[u])↔x∈P++Q∨x=u:=fun x=>by simp [or_assoc]
   refine ⟨⟨by rw [zBB];exact hl,by show (Q++[u]).length+GB (met.set u.toNat true)<=_;rw [zA7,zCf];omega,?_,fun x hx=>?_,fun x hx=>?_,fun x GU LE=>?_,fun p hp b hb hbi=>(D8 b).2 (.inl (h.cl p hp b hb hbi)),(D8 s).2 (.inl h.st)⟩,⟨[u],rfl⟩,fun _=>(D8 u).2 (.inr rfl),by show 2*GB (met.set u.toNat true)+(Q++[u]).length<=_;rw [zA7,zCf];omega⟩
   ·rw [←zGo,List.nodup_append];exact ⟨h.nd,by simp,fun a ha b hb=>by rw [zA1] at hb;subst hb;exact fun e=>hn (e▸ha)⟩
   ·rcases (D8 x).1 hx with hx | rfl
    ·exact h.rc x hx
    ·exact .step (h.rc v (zCy _ hv)) hu hi
   ·rcases (D8 x).1 hx with hx | rfl
    ·exact h.rng x hx
    ·exact J2
   ·rw [D8,←h.met x GU LE]
    by_cases e:x=u
    ·subst e;rw [u8,zDB (by omega)];exact ⟨fun _=>.inr rfl,fun _=>rfl⟩
    ·rw [u8,zC2 (by omega),←u8];exact ⟨.inl,fun h=>h.elim id fun h=>absurd h e⟩
  ·rw [zCs,zG5,zAR];exact ⟨h,⟨[],by simp⟩,fun _=>(h.met u J2.1 J2.2).1 hm,zA5 _⟩
theorem Bf.exs (G:Gr g){v:Int}{P:List Int}: ∀ (l:List Int) {met:List Bool} {Q:List Int},Bf g inn s met Q P -> v∈Q -> (∀ u∈l,u∈nb g v) ->
 Bf g inn s (l.foldl (Dw inn) (met,Q)).1 (l.foldl (Dw inn) (met,Q)).2 P/\ (∃ t,(l.foldl (Dw inn) (met,Q)).2=Q++t)/\ (∀ u∈l,inn.getD u.toNat false=true -> u∈P++(l.foldl (Dw inn) (met,Q)).2)/\ 2*GB (l.foldl (Dw inn) (met,Q)).1+(l.foldl (Dw inn) (met,Q)).2.length<=2*GB met+Q.length
 | [],met,Q,h,hv,hl=>⟨h,⟨[],by simp⟩,fun u hu=>absurd hu zDu,zA5 _⟩
 | u::l,met,Q,h,hv,hl=>by
  obtain ⟨h1,⟨t,ht⟩,h2,h3⟩:=h.ex G hv (hl u zCX);obtain ⟨h4,⟨t',XT⟩,h5,h6⟩:=Bf.exs G l h1 (by rw [ht];exact zCW _ hv) fun x hx=>hl x (zCB _ hx)
  refine ⟨h4,⟨t++t',?_⟩,fun x hx hi=>?_,zA0 h6 h3⟩
  ·show (List.foldl (Dw inn) (Dw inn (met,Q) u) l).2=_
   rw [XT,ht,zGo]
  ·rcases zCD.1 hx with rfl | hx
   ·show x∈P++(List.foldl (Dw inn) (Dw inn (met,Q) x) l).2
    rw [XT,←zGo];exact zCW _ (h2 hi)
   ·exact h5 x hx hi
theorem zY {n j:Nat}{l:List Int}{met:List Bool}{Q:List Int}(hI:inn.length=g.length)(hG:g.length<=256)(hm:met.length=g.length)(hQ:Q.length+GB met<=g.length)(hj:j<l.length)(hl:l.length<=256)(hr:0<=l.getD j 0/\ l.getD j 0<(g.length:Int)):
 Ee g s inn (n+1) (.l2 Q.length l (l.length:Int) (j:Int) met Q)=Ee g s inn n (.l2 (Dw inn (met,Q) (l.getD j 0)).2.length l (l.length:Int) ((j:Int)+1) (Dw inn (met,Q) (l.getD j 0)).1 (Dw inn (met,Q) (l.getD j 0)).2):=by
 have r1:AJ ((j:Int)+1):=Av.2 ⟨by omega,by omega⟩;have L:(1000000000000:Nat)=BA:=rfl
 show Kw n (Ee g s inn n) g s inn Q.length l (l.length:Int) (j:Int) met Q=_
 unfold Kw Dw;simp only [zAT,zA8];rw [zAU (by omega),zAV,zAM ⟨⟨by omega,by omega⟩,by omega,by omega⟩];cases hi:inn.getD (l.getD j 0).toNat false
 ·rw [zAR,zGF,zAR,zAM r1]
 ·rw [zAV,zCZ,zAM ⟨hr,by omega⟩];cases ht:met.getD (l.getD j 0).toNat false
  ·have hc:=Yj met (l.getD j 0).toNat (by omega) ht;rw [zC0,zAV,zAV,zAM ⟨⟨⟨trivial,rfl⟩,⟨trivial,trivial⟩,by rw [zCf,←L];omega⟩,r1⟩,zA7]
  ·rw [zCs,zAR,zAR,zAM r1]
theorem mA (hI:inn.length=g.length)(G:Gr g){v:Int}{P:List Int}{l:List Int}(hl:l.length<=256)(Qe: ∀ u∈l,u∈nb g v): ∀ (k j n:Nat) {met:List Bool} {Q:List Int},j+k=l.length -> Bf g inn s met Q P -> v∈Q ->
 Ee g s inn (n+k) (.l2 Q.length l (l.length:Int) (j:Int) met Q)=Ee g s inn n (.l2 ((l.drop j).foldl (Dw inn) (met,Q)).2.length l (l.length:Int) (l.length:Int) ((l.drop j).foldl (Dw inn) (met,Q)).1 ((l.drop j).foldl (Dw inn) (met,Q)).2)
 | 0,j,n,met,Q,e,h,hv=>by
  have e:j=l.length:=by omega
  subst e;rw [zHm];rfl
 | k+1,j,n,met,Q,e,h,hv=>by
  have hj:j<l.length:=by omega
  have hu:l.getD j 0∈l:=by rw [u8,zAa hj];exact zBD hj
  have Gm:=h.rng v (zCy _ hv);have hr:=G.rng v Gm.1 Gm.2 _ (Qe _ hu);obtain ⟨h1,⟨t,ht⟩,_,_⟩:=h.ex G hv (Qe _ hu);rw [←zCg,zY hI G.len h.len h.cnt hj hl hr];have:=mA hI G hl Qe k (j+1) n (by omega) h1 (by rw [ht];exact zCW _ hv);have e1:(((j+1:Nat)):Int)=(j:Int)+1:=by omega
  rw [e1] at this;rw [this]
  have e2:l.drop j=l.getD j 0::l.drop (j+1):=by
   rw [zCJ hj,u8,zAa hj];rfl
  rw [e2];rfl
def NR (g:List (List Int))(inn:List Bool)(s:Int)(P l:List Int):Prop:=(P++l).Nodup/\ (∀ v,v∈P++l↔Rc g inn s v)
theorem Bf.done {met:List Bool}{P:List Int}(h:Bf g inn s met [] P):NR g inn s P []:=by
 refine ⟨h.nd,fun v=>⟨h.rc v,fun hv=>?_⟩⟩
 induction hv with
 | start=>exact h.st
 | step _ hb hi ih=>exact h.cl _ (by simpa using ih) _ hb hi
theorem Af.map {R:Type}{f:Nat -> Option R}{Q:R -> Prop}{Q':R -> Prop}{m:R -> R}(h:Af f Q)(hq: ∀ r,Q r -> Q' (m r)):Af (fun n=>(f n).map m) Q':=by
 obtain ⟨N,h⟩:=h;refine ⟨N,fun n hn=>?_⟩;obtain ⟨r,h1,h2⟩:=h n hn;exact ⟨m r,by show (f n).map m=_;rw [h1];rfl,hq r h2⟩
theorem zFW (G:Gr g)(hI:inn.length=g.length): ∀ (z:Nat) (met:List Bool) (Q P:List Int),2*GB met+Q.length=z -> Bf g inn s met Q P -> Af (fun n=>Ee g s inn n (.l1 Q.length met Q)) (NR g inn s P):=by
 intro z
 induction z using Nat.strongRecOn with
 | _ z ih=>
  intro met Q P hz h;cases Q with
  | nil=>
   refine Ev.p (r:=[]) ⟨1,fun n hn=>?_⟩ h.done;obtain ⟨n,rfl⟩: ∃ k,n=k+1:=⟨n-1,by omega⟩
   show Ny n (Ee g s inn n) g s inn 0 met []=_
   unfold Ny;rw [zAP (by omega),zAR]
  | cons v q=>
   have hv:v∈v::q:=zCX;have Gm:=h.rng v (zCy _ hv);obtain ⟨h1,⟨t,ht⟩,h2,h3⟩:=h.exs G (nb g v) hv (fun u hu=>hu);have hl:=G.row v Gm.1 Gm.2
   generalize Ds:(nb g v).foldl (Dw inn) (met,v::q)=st at h1 ht h2 h3
   obtain ⟨QK,Q'⟩:=st;have ht:Q'=v::(q++t):=ht;subst ht
   have hB:Bf g inn s QK (q++t) (P++[v]):=by
    have e:P++[v]++(q++t)=P++(v::(q++t)):=by simp
    have hc:=h1.cnt;simp only [zCU] at hc;refine ⟨h1.len,by omega,by rw [e];exact h1.nd,by rw [e];exact h1.rc,by rw [e];exact h1.rng,by rw [e];exact h1.met,?_,by rw [e];exact h1.st⟩;intro p hp b hb hi;rw [e];rcases zC1.1 hp with hp | hp
    ·exact h1.cl p hp b hb hi
    ·rw [zA1] at hp;subst hp;exact h2 b hb hi
   have hz':2*GB QK+(q++t).length<z:=by
    simp only [zCU] at h3;simp only [zA7] at h3 ⊢;have:(v::q).length=q.length+1:=rfl;omega
   have IH:=ih _ hz' QK (q++t) (P++[v]) rfl hB
   have key:Af (fun n=>Ee g s inn n (.l2 (v::(q++t)).length (nb g v) ((nb g v).length:Int) ((nb g v).length:Int) QK (v::(q++t)))) (NR g inn s (P++[v])):=by
    have g0:(0:Int)<=1/\ (1:Int)<=(((v::(q++t)).length:Nat):Int)/\ (((v::(q++t)).length:Nat):Int)<=(((v::(q++t)).length:Nat):Int):=⟨by omega,by rw [zCU];omega,zCn _⟩;cases cI:q++t with
    | nil=>
     rw [cI] at hB;refine Ev.p (r:=[]) ⟨2,fun n hn=>?_⟩ hB.done;obtain ⟨n,rfl⟩: ∃ k,n=k+2:=⟨n-2,by omega⟩
     show Kw (n+1) (Ee g s inn (n+1)) g s inn 1 (nb g v) ((nb g v).length:Int) ((nb g v).length:Int) QK [v]=_
     unfold Kw;rw [zAP (by omega),zAR];rfl
    | cons a r=>
     rw [←cI];refine Af.step 1 (fun n=>?_) IH
     show Kw n (Ee g s inn n) g s inn (v::(q++t)).length (nb g v) ((nb g v).length:Int) ((nb g v).length:Int) QK (v::(q++t))=_
     unfold Kw;have e0:((v::(q++t)).length-1==0)=false:=by rw [cI];rfl
     rw [zAP (by omega),zAR,e0,zAR,zAM g0,zAM (by rw [zCU];omega)];rfl
   have zh:Af (fun n=>Ee g s inn n (.l2 (v::q).length (nb g v) ((nb g v).length:Int) 0 met (v::q))) (NR g inn s (P++[v])):=by
    refine Af.step (nb g v).length (fun n=>?_) key;have:=mA hI G hl (fun u hu=>hu) (nb g v).length 0 n (by omega) h hv;rw [zGN,Ds] at this;exact this
   have m: ∀ r:List Int,NR g inn s (P++[v]) r -> NR g inn s P (v::r):=fun r hr=>by
    have e:P++[v]++r=P++(v::r):=by simp
    unfold NR at hr ⊢;rw [e] at hr;exact hr
   refine Af.step 1 (fun n=>?_) (Af.map zh m)
   show Ny n (Ee g s inn n) g s inn (v::q).length met (v::q)=_
   unfold Ny;have g1:((0:Int)<=0/\ 0<(((v::q).length:Nat):Int))/\ 0+0<(v::q).length:=by rw [zCU];omega
   rw [zAU (by rw [zCU];omega),zAV,zAM g1];have e1:(v::q).getD (0+0) 0=v:=rfl;rw [e1,zAM ⟨g1.1,g1.2,Gm⟩];rfl
theorem aF (G:Gr g)(hI:inn.length=g.length)(h0:0<=s)(h1:s<(g.length:Int)):Af (fun n=>Gf n g s inn) (fun l=>l.Nodup/\ ∀ v,v∈l↔Rc g inn s v):=by
 have Ak:((List.replicate g.length false).set s.toNat true).length=g.length:=by simp
 have hG:=G.len;have hc:=Yj (List.replicate g.length false) s.toNat (by rw [zAw];omega) (by simp [u8,zCx];split <;> rfl)
 have I8:GB (List.replicate g.length false)<=g.length:=by
  have:=zGz (p:=fun b=>!b) (l:=List.replicate g.length false);rw [zAw] at this;exact this
 have hB:Bf g inn s ((List.replicate g.length false).set s.toNat true) [s] []:=by
  refine ⟨Ak,by rw [zCf];omega,by simp,fun v hv=>?_,fun v hv=>?_,fun v Me Bx=>?_,fun p hp=>absurd hp zDu,by simp⟩
  ·have:v=s:=by simpa using hv
   subst this;exact .start
  ·have:v=s:=by simpa using hv
   subst this;exact ⟨h0,h1⟩
  ·by_cases e:v=s
   ·subst e;rw [u8,zDB (by rw [zAw];omega)];simp
   ·rw [u8,zC2 (by omega),zCx];simp only [zDE,zA1,e,iff_false];split <;> simp
 have:=zFW G hI _ _ _ _ rfl hB;refine (Af.mono (Q':=fun l=>l.Nodup/\ ∀ v,v∈l↔Rc g inn s v) this (fun l (hl:NR g inn s [] l)=>(⟨hl.1,hl.2⟩:l.Nodup/\ ∀ v,v∈l↔Rc g inn s v))).eq fun n=>?_
 unfold Gf aE;rw [zAM ⟨⟨rfl,by omega,by omega⟩,⟨h0,h1⟩,by simp only [zAw];omega⟩,zA8];rfl
end
abbrev zGV:=@BitVec.toNat_ofInt
abbrev zG6:=@Nat.pow_le_pow_right
abbrev zHc:=@Nat.testBit_lt_two_pow
abbrev zHu:=@Nat.testBit_two_pow
end Go.Proofs.YtkjbblkieglmlaaGreatDoor
namespace Go.Proofs.YtkjbblkieglmlaaGreatDoor
def tb (x:Int)(i:Nat):Bool:=(BitVec.ofInt 64 x).getLsbD i
def CC (x:Int):Prop:=-9223372036854775808<=x/\ x<=9223372036854775807
theorem TG (x:Int):BitVec.ofInt 64 (IntKind.i64.wrap x)=BitVec.ofInt 64 x:=by
 apply BitVec.eq_of_toNat_eq;rw [zGV,zGV,zHl]
 congr 1
 omega
theorem TH (y:BitVec 64):BitVec.ofInt 64 (y.toNat:Int)=y:=by
 rw [zG4];simp
theorem Pc (x:Int):CC (IntKind.i64.wrap x):=by
 rw [zHl];constructor <;> omega
theorem GC (op:BinOp)(a b:Int):CC (bits op .i64 a b):=Pc _
theorem Kh (a b:Int)(i:Nat):tb (bits .or .i64 a b) i=(tb a i||tb b i):=by
 show (BitVec.ofInt 64 (IntKind.i64.wrap ((BitVec.ofInt 64 a||| BitVec.ofInt 64 b).toNat:Int))).getLsbD i=_
 rw [TG,TH,BitVec.getLsbD_or];rfl
theorem JZ (a b:Int)(i:Nat):tb (bits .and .i64 a b) i=(tb a i&&tb b i):=by
 show (BitVec.ofInt 64 (IntKind.i64.wrap ((BitVec.ofInt 64 a&&& BitVec.ofInt 64 b).toNat:Int))).getLsbD i=_
 rw [TG,TH,BitVec.getLsbD_and];rfl
theorem JY {x:Int}{i:Nat}(h:64<=i):tb x i=false:=BitVec.getLsbD_of_ge _ _ h
theorem Ki (a b:Int)(i:Nat):tb (bits .andNot .i64 a b) i=(tb a i&&!tb b i):=by
 show (BitVec.ofInt 64 (IntKind.i64.wrap ((BitVec.ofInt 64 a&&& ~~~ BitVec.ofInt 64 b).toNat:Int))).getLsbD i=_
 rw [TG,TH,BitVec.getLsbD_and,BitVec.getLsbD_not]
 by_cases h:i<64
 ·simp [h,tb]
 ·have h:64<=i:=by omega
  have:=JY (x:=a) h;unfold tb at*;rw [this];simp
theorem VY (a:Int){i:Nat}(h:i<64):tb (bits .xor .i64 (-1) a) i= !tb a i:=by
 show (BitVec.ofInt 64 (IntKind.i64.wrap ((BitVec.ofInt 64 (-1) ^^^ BitVec.ofInt 64 a).toNat:Int))).getLsbD i=_
 rw [TG,TH,BitVec.getLsbD_xor];have:BitVec.ofInt 64 (-1)=BitVec.allOnes 64:=by decide
 rw [this,BitVec.getLsbD_allOnes];simp [h,tb]
theorem VX (i:Nat):tb 0 i=false:=by
 unfold tb;rw [show BitVec.ofInt 64 0=0#64 from rfl];simp
theorem G5 {i:Nat}: ¬ tb 0 i=true:=by rw [VX];decide
theorem Na {x y:Int}(hx:CC x)(hy:CC y)(h: ∀ i,i<64 -> tb x i=tb y i):x=y:=by
 have e:BitVec.ofInt 64 x=BitVec.ofInt 64 y:=BitVec.eq_of_getLsbD_eq fun i hi=>h i hi
 have e2:=congrArg BitVec.toNat e;rw [zGV,zGV] at e2;unfold CC at*;omega
theorem Ik (m i:Nat)(hi:i<64):tb (m:Int) i=m.testBit i:=by
 unfold tb;rw [zG4,BitVec.getLsbD_ofNat];simp [hi]
def Sm (k:Nat)(x:Int):Prop:=0<=x/\ x<2 ^ k
theorem MK {k:Nat}(hk:k<=62):(2:Int) ^ k<=4611686018427387904:=by
 have:(2:Nat) ^ k<=2 ^ 62:=zG6 (by decide) hk;have h:((2 ^ k:Nat):Int)<=((2 ^ 62:Nat):Int):=by exact_mod_cast this
 simpa using h
theorem Sm.in64 {k:Nat}{x:Int}(hk:k<=62)(h:Sm k x):CC x:=by
 have:=MK hk;obtain ⟨h1,h2⟩:=h;constructor <;> omega
theorem Sm.hi {k:Nat}{x:Int}(h:Sm k x){i:Nat}(hi:k<=i):tb x i=false:=by
 rcases zCV i 64 with Hx | Hx
 ·obtain ⟨m,rfl⟩:=zGa h.1;rw [Ik m i Hx];apply zHc;have h2:(m:Int)<2 ^ k:=h.2;have h3:m<2 ^ k:=by exact_mod_cast h2
  exact zAj h3 (zG6 (by decide) hi)
 ·exact JY Hx
theorem SI {k:Nat}(hk:k<=62){x:Int}(hx:CC x)(h: ∀ i,k<=i -> i<64 -> tb x i=false):Sm k x:=by
 have hy:(BitVec.ofInt 64 x).toNat<2 ^ k:=by
  apply Nat.lt_pow_two_of_testBit;intro i hi;rcases zCV i 64 with Hx | Hx
  ·have:=h i hi Hx;unfold tb at this
   rwa [BitVec.getLsbD] at this
  ·exact zHc (zAj (BitVec.isLt _) (zG6 (by decide) Hx))
 rw [zGV] at hy;have h1:=MK hk;have h2:((2 ^ k:Nat):Int)=(2:Int) ^ k:=by simp
 unfold CC at hx;unfold Sm;omega
theorem rU {s i:Nat}(hi:i<64):tb ((2 ^ s:Nat):Int) i=decide (s=i):=by
 rw [Ik _ _ hi,zHu]
theorem Lv {x:Int}(hx:CC x):x=0↔∀ i,i<64 -> tb x i=false:=
 ⟨fun h i _=>by rw [h];exact VX i,fun h=>Na hx ⟨by decide,by decide⟩ fun i hi=>by rw [h i hi,VX]⟩
theorem FU {x:Int}(hx:CC x):x≠0↔∃ i,i<64/\ tb x i=true:=by
 rw [ne_eq,Lv hx];constructor
 ·intro h;refine Classical.byContradiction fun h2=>h fun i hi=>?_
  cases hb:tb x i with
  | false=>rfl
  | true=>exact absurd ⟨i,hi,hb⟩ h2
 ·rintro ⟨i,hi,hb⟩ h;rw [h i hi] at hb;cases hb
theorem tI {k s:Nat}{x:Int}(h:Sm k x)(hk:k<=62)(hs:s<64):bits .and .i64 (x/2 ^ s) 1=if tb x s then 1 else 0:=by
 obtain ⟨m,rfl⟩:=zGa h.1;have hm:=h.2;have dL:=MK hk;have e:(m:Int)/2 ^ s=((m/2 ^ s:Nat):Int):=by simp
 have key: ∀ t,t<64 -> tb (bits .and .i64 ((m:Int)/2 ^ s) 1) t=(decide (t=0)&&tb (m:Int) s):=fun t ht=>by
  rw [JZ,e,Ik _ _ ht,Ik m s hs,show (1:Int)=((1:Nat):Int) from rfl,Ik 1 t ht,Nat.testBit_div_two_pow]
  by_cases h0:t=0
  ·subst h0;simp
  ·rw [zAP h0,zGF]
   have:Nat.testBit 1 t=false:=by
    rw [show (1:Nat)=2 ^ 0 from rfl,zHu];simpa using fun h=>h0 h.symm
   rw [this,zG5]
 cases hb:tb (m:Int) s with
 | true=>
  rw [zAM rfl];refine Na (GC _ _ _) ⟨by decide,by decide⟩ fun t ht=>?_
  rw [key t ht,hb,show (1:Int)=((1:Nat):Int) from rfl,Ik 1 t ht,Bool.and_true]
  by_cases h0:t=0
  ·subst h0;rfl
  ·rw [zAP h0];rw [show (1:Nat)=2 ^ 0 from rfl,zHu];symm;simpa using fun h=>h0 h.symm
 | false=>
  rw [zAh zGg];exact (Lv (GC _ _ _)).2 fun t ht=>by rw [key t ht,hb,zG5]
theorem Zk {k s:Nat}{x:Int}(h:Sm k x)(hk:k<=62)(hs:s<64):(bits .and .i64 (x/2 ^ s) 1==1)=tb x s:=by
 rw [tI h hk hs];cases tb x s <;> rfl
open Go.RowKit
theorem Wu {S R:Type}(m:Nat -> S -> Int -> Option R)(len N0:Nat)(Inv:Nat -> S -> Prop) 
 (h: ∀ (n i:Nat) (s:S),N0<=n -> i<len -> Inv i s -> ∃ s',m (n+1) s (i:Int)=m n s' ((i:Int)+1)/\ Inv (i+1) s'):
 ∀ (k i n:Nat) (s:S),i+k=len -> N0<=n -> Inv i s -> ∃ s',m (n+k) s (i:Int)=m n s' (len:Int)/\ Inv len s'
 | 0,i,n,s,e,_,hI=>by
  have:i=len:=by omega
  subst this;exact ⟨s,rfl,hI⟩
 | k+1,i,n,s,e,hn,hI=>by
  obtain ⟨s',h1,h2⟩:=h (n+k) i s (by omega) (by omega) hI;obtain ⟨s2,h3,h4⟩:=Wu m len N0 Inv h k (i+1) n s' (by omega) hn h2;refine ⟨s2,?_,h4⟩;rw [show n+(k+1)=n+k+1 by omega,h1,←h3];rfl
theorem Hr {S R:Type}(m:Nat -> S -> Int -> Option R)(len N0:Nat)(Inv:Nat -> S -> Prop) 
 (h: ∀ (n i:Nat) (s:S),N0<=n -> i<len -> Inv i s -> ∃ s',m (n+1) s (i:Int)=m n s' ((i:Int)+1)/\ Inv (i+1) s')
 {n:Nat} {s:S} (hn:N0+len<=n) (hI:Inv 0 s): ∃ n' s',N0<=n'/\ n'+len=n/\ m n s 0=m n' s' (len:Int)/\ Inv len s':=by
 obtain ⟨s',h1,h2⟩:=Wu m len N0 Inv h len 0 (n-len) s (by omega) (by omega) hI;rw [show n-len+len=n by omega] at h1;exact ⟨n-len,s',by omega,by omega,h1,h2⟩
structure B2 (c:AB)(k:Nat)(pos:List Int):Prop where
 cells: ∀ a,a<c.cells.length -> 0<=c.cells.getD a 0/\ c.cells.getD a 0<(pos.length:Int)
 len:c.cells.length<=256
 sm: ∀ i,i<pos.length -> Sm k (pos.getD i 0)
 k:k<=16
def Ab (c:AB)(pos:List Int)(a:Nat):Int:=pos.getD (c.cells.getD a 0).toNat 0
def L3 (x:Int):Bool:=bits .and .i64 x (x-1)==0
section
variable {c:AB} {k:Nat} {pos lost:List Int} {q:AA}
theorem B2.at (W:B2 c k pos){a:Nat}(ha:a<c.cells.length):Sm k (Ab c pos a):=by
 have:=W.cells a ha;exact W.sm _ (by omega)
theorem B2.r64 (W:B2 c k pos){a:Nat}(ha:a<c.cells.length):AJ (Ab c pos a-1)/\ AJ ((a:Int)+1):=by
 have h:=W.at ha;have h2:=MK (k:=k) (zA0 W.k (by decide));have h3:=W.len;obtain ⟨h0,h1⟩:=h;exact ⟨Av.2 ⟨by omega,by omega⟩,Av.2 ⟨by omega,by omega⟩⟩
theorem K6 {n:Nat}{cell ss:Int}(h0:0<=cell)(h1:cell<(pos.length:Int))(hl:lost.length=pos.length):
 ∃ l',Dg n cell ss c q pos pos.length lost=some l'/\ l'.length=pos.length/\ ∀ j s,tb (l'.getD j 0) s=(tb (lost.getD j 0) s||(decide (j=cell.toNat)&&(tb (pos.getD j 0) s&&tb ss s))):=by
 refine ⟨lost.set cell.toNat (bits .or .i64 (lost.getD cell.toNat 0) (bits .and .i64 (pos.getD cell.toNat 0) ss)),?_,by rw [zBB];exact hl,fun j s=>?_⟩
 ·unfold Dg bL;simp only [zA8];rw [zAM ⟨⟨h0,h1⟩,by omega,h0,h1⟩]
 ·by_cases hj:j=cell.toNat
  ·subst hj;rw [u8,zDB (by omega),zGK,Kh,JZ,zAU rfl,zCZ]
  ·rw [u8,zC2 (fun e=>hj e.symm),←u8,zAP hj,zGF,zGE]
theorem ak {n:Nat}{cell:Int}(h0:0<=cell)(h1:cell<(pos.length:Int))(hl:lost.length=pos.length):
 ∃ l',Gj n cell c q pos pos.length lost=some l'/\ l'.length=pos.length/\ ∀ j s,tb (l'.getD j 0) s=(tb (lost.getD j 0) s||(decide (j=cell.toNat)&&(tb (pos.getD j 0) s&&!tb c.set s))):=by
 refine ⟨lost.set cell.toNat (bits .or .i64 (lost.getD cell.toNat 0) (bits .andNot .i64 (pos.getD cell.toNat 0) c.set)),?_,by rw [zBB];exact hl,fun j s=>?_⟩
 ·unfold Gj am;simp only [zA8];rw [zAM ⟨⟨h0,h1⟩,by omega,h0,h1⟩]
 ·by_cases hj:j=cell.toNat
  ·subst hj;rw [u8,zDB (by omega),zGK,Kh,Ki,zAU rfl,zCZ]
  ·rw [u8,zC2 (fun e=>hj e.symm),←u8,zAP hj,zGF,zGE]
def Sg (c:AB)(pos:List Int)(a s:Nat):Prop:=L3 (Ab c pos a)=true/\ tb (Ab c pos a) s=true
def CF (c:AB)(pos lost:List Int)(i:Nat)(D:Nat -> Nat -> Prop)(l:List Int):Prop:= l.length=pos.length/\ ∀ j s,tb (l.getD j 0) s=true↔tb (lost.getD j 0) s=true∨∃ a,a<i/\ (c.cells.getD a 0).toNat=j/\ tb (Ab c pos a) s=true/\ D a s
theorem CF.step {D:Nat -> Nat -> Prop}{i:Nat}{l l':List Int}(h:CF c pos lost i D l)(hl:l'.length=pos.length) 
 (h1: ∀ j s,tb (l'.getD j 0) s=true↔tb (l.getD j 0) s=true∨((c.cells.getD i 0).toNat=j/\ tb (Ab c pos i) s=true/\ D i s)):CF c pos lost (i+1) D l':=by
 refine ⟨hl,fun j s=>?_⟩;rw [h1,h.2];constructor
 ·rintro ((h | ⟨a,ha,h⟩) | h)
  ·exact .inl h
  ·exact .inr ⟨a,by omega,h⟩
  ·exact .inr ⟨i,by omega,h⟩
 ·rintro (h3 | ⟨a,ha,h3⟩)
  ·exact .inl (.inl h3)
  ·rcases zAl.1 ha with ha | rfl
   ·exact .inl (.inr ⟨a,ha,h3⟩)
   ·exact .inr h3
theorem CF.zero {D:Nat -> Nat -> Prop}(hl:lost.length=pos.length):CF c pos lost 0 D lost:=
 ⟨hl,fun j s=>⟨.inl,fun h=>h.elim id fun ⟨a,ha,_⟩=>absurd ha (zAv a)⟩⟩
def PA (c:AB)(pos:List Int)(a s:Nat):Prop:=∃ b,b<c.cells.length/\ b≠a/\ Sg c pos b s
theorem zEH {n:Nat}(W:B2 c k pos)(hl:lost.length=pos.length)(hn:2*c.cells.length+2<=n):
 ∃ l,Q6 n c q pos pos.length lost=some (true,l)/\ CF c pos lost c.cells.length (PA c pos) l:=by
 have lt: ∀ i,i<c.cells.length -> ((i:Nat):Int)<((c.cells.length:Nat):Int):=fun i hi=>by omega
 have S:=Hr (fun n (s:Int×Int) i=>KV c q pos pos.length lost n (.l1 s.1 s.2 i)) c.cells.length (c.cells.length+2)
  (fun i s=>(∀ j,tb s.1 j=true↔∃ a,a<i/\ Sg c pos a j)/\ (∀ j,tb s.2 j=true↔∃ a b,a<b/\ b<i/\ Sg c pos a j/\ Sg c pos b j))
  (fun n i s _ hi hI=>?_) (n:=n) (s:=(0,0)) (by omega) ?_
 ·obtain ⟨n1,⟨o,t⟩,F2,_,e1,ho,ht⟩:=S;obtain ⟨n2,rfl⟩: ∃ n2,n1=n2+1:=⟨n1-1,by omega⟩
  have T:=Hr (fun n (s:List Int) i=>KV c q pos pos.length lost n (.l2 o t i s)) c.cells.length 1
   (fun i s=>CF c pos lost i (PA c pos) s) (fun n i s HM hi hI=>?_) (n:=n2) (s:=lost) (by omega) (CF.zero hl)
  ·obtain ⟨n3,l,Ml,_,e2,hL⟩:=T;obtain ⟨n4,rfl⟩: ∃ n4,n3=n4+1:=⟨n3-1,by omega⟩;refine ⟨l,?_,hL⟩;unfold Q6 pN;refine e1.trans ?_
   show Uf n2 (KV c q pos pos.length lost n2) c q pos pos.length lost o t (c.cells.length:Int)=_
   unfold Uf;rw [zAP (by omega),zAR];refine e2.trans ?_
   show Ue n4 (KV c q pos pos.length lost n4) c q pos pos.length lost o t (c.cells.length:Int) l=_
   unfold Ue;rw [zAP (by omega),zAR]
  ·have hc:=W.cells i hi;have hr:=W.r64 hi
   show ∃ s',Ue n (KV c q pos pos.length lost n) c q pos pos.length lost o t (i:Int) s=_/\ _
   unfold Ue;rw [zAU (lt i hi),zAV];simp only [zAT];rw [zAM ⟨⟨by omega,lt i hi⟩,hc,hr.1⟩];have sg:(bits .and .i64 (pos.getD (c.cells.getD i 0).toNat 0) (pos.getD (c.cells.getD i 0).toNat 0-1)==0)=L3 (Ab c pos i):=rfl;rw [sg];cases hs:L3 (Ab c pos i)
   ·rw [zAR];obtain ⟨l',h1,h2,h3⟩:=K6 (n:=n) (ss:=o) (c:=c) (q:=q) hc.1 hc.2 hI.1;rw [h1,zAS,zAM hr.2];refine ⟨l',rfl,hI.step h2 fun j x=>?_⟩;rw [h3,zA9,zAW,zAW,zAi,ho];constructor
    ·rintro (h | ⟨rfl,h4,b,hb,h5⟩)
     ·exact .inl h
     ·refine .inr ⟨rfl,h4,b,hb,?_,h5⟩;rintro rfl;rw [h5.1] at hs;cases hs
    ·rintro (h | ⟨rfl,h4,b,hb,_,h5⟩)
     ·exact .inl h
     ·exact .inr ⟨rfl,h4,b,hb,h5⟩
   ·rw [zAV];obtain ⟨l',h1,h2,h3⟩:=K6 (n:=n) (ss:=bits .or .i64 (bits .andNot .i64 o (pos.getD (c.cells.getD i 0).toNat 0)) t) (c:=c) (q:=q) hc.1 hc.2 hI.1;rw [h1,zAS,zAM hr.2];refine ⟨l',rfl,hI.step h2 fun j x=>?_⟩;rw [h3,zA9,zAW,zAW,zAi,Kh,Ki,zA9,zAW,ht];constructor
    ·rintro (h | ⟨rfl,h4,⟨_,h5⟩ | ⟨x1,y1,h6,h7,h8,h9⟩⟩)
     ·exact .inl h
     ·rw [h4] at h5;cases h5
     ·refine .inr ⟨rfl,h4,?_⟩
      by_cases e:x1=i
      ·exact ⟨y1,h7,by omega,h9⟩
      ·exact ⟨x1,by omega,e,h8⟩
    ·rintro (h | ⟨rfl,h4,b,hb,h5,h6⟩)
     ·exact .inl h
     ·refine .inr ⟨rfl,h4,.inr ?_⟩;rcases Nat.lt_or_gt_of_ne h5 with h5 | h5
      ·exact ⟨b,i,h5,hi,h6,hs,h4⟩
      ·exact ⟨i,b,h5,hb,⟨hs,h4⟩,h6⟩
 ·obtain ⟨o,t⟩:=s;obtain ⟨h1,h2⟩:=hI;simp only at h1 h2;have hc:=W.cells i hi;have hr:=W.r64 hi
  show ∃ s',Uf n (KV c q pos pos.length lost n) c q pos pos.length lost o t (i:Int)=_/\ _
  unfold Uf;rw [zAU (lt i hi),zAV];simp only [zAT];rw [zAM ⟨⟨by omega,lt i hi⟩,hc,hr.1⟩];have sg:(bits .and .i64 (pos.getD (c.cells.getD i 0).toNat 0) (pos.getD (c.cells.getD i 0).toNat 0-1)==0)=L3 (Ab c pos i):=rfl;rw [sg];cases hs:L3 (Ab c pos i)
  ·rw [zAR,zAM hr.2];refine ⟨(o,t),rfl,fun j=>?_,fun j=>?_⟩
   ·rw [h1];constructor
    ·rintro ⟨a,ha,h⟩;exact ⟨a,by omega,h⟩
    ·rintro ⟨a,ha,h⟩;rcases zAl.1 ha with ha | rfl
     ·exact ⟨a,ha,h⟩
     ·rw [h.1] at hs;cases hs
   ·rw [h2];constructor
    ·rintro ⟨a,b,IX,hb,h⟩;exact ⟨a,b,IX,by omega,h⟩
    ·rintro ⟨a,b,IX,hb,h⟩;rcases zAl.1 hb with hb | rfl
     ·exact ⟨a,b,IX,hb,h⟩
     ·rw [h.2.1] at hs;cases hs
  ·rw [zAV,zAM hr.2];refine ⟨(bits .or .i64 o (Ab c pos i),bits .or .i64 t (bits .and .i64 o (Ab c pos i))),rfl,fun j=>?_,fun j=>?_⟩
   ·rw [Kh,zA9,h1];constructor
    ·rintro (⟨a,ha,h⟩ | h)
     ·exact ⟨a,by omega,h⟩
     ·exact ⟨i,by omega,hs,h⟩
    ·rintro ⟨a,ha,h⟩;rcases zAl.1 ha with ha | rfl
     ·exact .inl ⟨a,ha,h⟩
     ·exact .inr h.2
   ·rw [Kh,JZ,zA9,zAW,h1,h2];constructor
    ·rintro (⟨a,b,IX,hb,h⟩ | ⟨⟨a,ha,h⟩,h3⟩)
     ·exact ⟨a,b,IX,by omega,h⟩
     ·exact ⟨a,i,ha,by omega,h,hs,h3⟩
    ·rintro ⟨a,b,IX,hb,h,h3⟩;rcases zAl.1 hb with hb | rfl
     ·exact .inl ⟨a,b,IX,hb,h,h3⟩
     ·exact .inr ⟨⟨a,IX,h⟩,h3.2⟩
 ·exact ⟨fun j=>⟨fun h=>absurd h G5,fun ⟨a,ha,_⟩=>absurd ha (zAv a)⟩,fun j=>⟨fun h=>absurd h G5,fun ⟨a,b,_,hb,_⟩=>absurd hb (zAv b)⟩⟩
end
end Go.Proofs.YtkjbblkieglmlaaGreatDoor
namespace Go.Proofs
open Go.Shelf
def Tryz.lays189_ren:Go.Shelf.Ren:=⟨fun | 189=>184 | 125=>186 | 257=>185 | 128=>196 | 129=>197 | 294=>187 | 295=>188 | 296=>189 | 297=>190 | 298=>191 | 299=>192 | 216=>193 | 300=>194 | 301=>195 | 328=>198 | 329=>199 | 330=>200 | 331=>201 | 332=>202 | 215=>203 | 343=>204 | n=>n,fun | 28=>22 | 3=>3 | 46=>115 | 0=>0 | 51=>184 | 53=>127 | 4=>4 | 183=>192 | 182=>191 | 131=>195 | 5=>5 | 9=>9 | 218=>197 | 222=>201 | 228=>203 | 229=>58 | n=>n,fun | n=>n⟩
theorem Tryz.lays189:Go.Proofs.Lays.n189 Tryz.prog Tryz.lays189_ren:={
 mixed:=by kernel_rfl
 f125:=Tryz.func186.trans (congrArg some (by kernel_rfl))
 f128:=Tryz.func196.trans (congrArg some (by kernel_rfl))
 f129:=Tryz.func197.trans (congrArg some (by kernel_rfl))
 f189:=Tryz.func184.trans (congrArg some (by kernel_rfl))
 f215:=Tryz.func203.trans (congrArg some (by kernel_rfl))
 f216:=Tryz.func193.trans (congrArg some (by kernel_rfl))
 f257:=Tryz.func185.trans (congrArg some (by kernel_rfl))
 f294:=Tryz.func187.trans (congrArg some (by kernel_rfl))
 f295:=Tryz.func188.trans (congrArg some (by kernel_rfl))
 f296:=Tryz.func189.trans (congrArg some (by kernel_rfl))
 f297:=Tryz.func190.trans (congrArg some (by kernel_rfl))
 f298:=Tryz.func191.trans (congrArg some (by kernel_rfl))
 f299:=Tryz.func192.trans (congrArg some (by kernel_rfl))
 f300:=Tryz.func194.trans (congrArg some (by kernel_rfl))
 f301:=Tryz.func195.trans (congrArg some (by kernel_rfl))
 f328:=Tryz.func198.trans (congrArg some (by kernel_rfl))
 f329:=Tryz.func199.trans (congrArg some (by kernel_rfl))
 f330:=Tryz.func200.trans (congrArg some (by kernel_rfl))
 f331:=Tryz.func201.trans (congrArg some (by kernel_rfl))
 f332:=Tryz.func202.trans (congrArg some (by kernel_rfl))
 f343:=Tryz.func204.trans (congrArg some (by kernel_rfl))
 t0:=Tryz.underlying0
 a0:=Tryz.isAgg0
 z0:=Tryz.sizeOf0
 v0:=Tryz.zeroValue0
 t3:=Tryz.underlying3
 a3:=Tryz.isAgg3
 z3:=Tryz.sizeOf3
 v3:=Tryz.zeroValue3
 t4:=Tryz.underlying4
 a4:=Tryz.isAgg4
 z4:=Tryz.sizeOf4
 v4:=Tryz.zeroValue4
 t5:=Tryz.underlying5
 a5:=Tryz.isAgg5
 z5:=Tryz.sizeOf5
 v5:=Tryz.zeroValue5
 t9:=Tryz.underlying9
 a9:=Tryz.isAgg9
 z9:=Tryz.sizeOf9
 v9:=Tryz.zeroValue9
 t28:=Tryz.underlying22
 a28:=Tryz.isAgg22
 z28:=Tryz.sizeOf22
 v28:=Tryz.zeroValue22
 t46:=Tryz.underlying115
 a46:=Tryz.isAgg115
 z46:=Tryz.sizeOf115
 v46:=Tryz.zeroValue115
 t51:=Tryz.underlying184
 a51:=Tryz.isAgg184
 z51:=Tryz.sizeOf184
 v51:=Tryz.zeroValue184
 t53:=Tryz.underlying127
 a53:=Tryz.isAgg127
 z53:=Tryz.sizeOf127
 v53:=Tryz.zeroValue127
 t131:=Tryz.underlying195
 a131:=Tryz.isAgg195
 z131:=Tryz.sizeOf195
 v131:=Tryz.zeroValue195
 t182:=Tryz.underlying191
 a182:=Tryz.isAgg191
 z182:=Tryz.sizeOf191
 v182:=Tryz.zeroValue191
 t183:=Tryz.underlying192
 a183:=Tryz.isAgg192
 z183:=Tryz.sizeOf192
 v183:=Tryz.zeroValue192
 t218:=Tryz.underlying197
 a218:=Tryz.isAgg197
 z218:=Tryz.sizeOf197
 v218:=Tryz.zeroValue197
 t222:=Tryz.underlying201
 a222:=Tryz.isAgg201
 z222:=Tryz.sizeOf201
 v222:=Tryz.zeroValue201
 t228:=Tryz.underlying203
 a228:=Tryz.isAgg203
 z228:=Tryz.sizeOf203
 v228:=Tryz.zeroValue203
 t229:=Tryz.underlying58
 a229:=Tryz.isAgg58
 z229:=Tryz.sizeOf58
 v229:=Tryz.zeroValue58 }
open Go.Sort Go.RowKit in
theorem Tryz.slices_Sort_int (blk off cap:Nat)(zs:List Int)(w:World)(hH:Holds (Value.int .i64) w blk off zs.toArray)(cz:blk<w.heap.size)(Ay:zs.length<4611686018427387904):
 Calls Tryz.prog 184 #[.slice (some ⟨blk,off,none⟩) zs.length cap] w fun e w'=>
  e= .returned (.tuple #[])/\ ∃ n os,w'=grow (putRow (Value.int .i64) (Sort.ahead w n) blk off (zs.mergeSort fun x y=>decide (x<=y)).toArray) os:=Any.slices_Sort_int Tryz.lays189 blk off cap zs w hH cz Ay
end Go.Proofs
namespace Go.Proofs.YtkjbblkieglmlaaGreatDoor
abbrev zHQ:=@List.pairwise_cons
open Go.RowKit
def QT (a:Int):List Int -> List Int
 | []=>[a]
 | b::l=>if a<=b then a::b::l else b::QT a l
def Hj:List Int -> List Int
 | []=>[]
 | a::l=>QT a (Hj l)
theorem bf (a:Int): ∀ l:List Int,(QT a l).Perm (a::l)
 | []=>zHY _
 | b::l=>by
  unfold QT;split
  ·exact zHY _
  ·exact ((bf a l).cons b).trans (List.Perm.swap a b l)
theorem Vi: ∀ l:List Int,(Hj l).Perm l
 | []=>zHY _
 | a::l=>(bf a _).trans ((Vi l).cons a)
theorem mQ (a:Int): ∀ l:List Int,l.Pairwise (· <= ·) -> (QT a l).Pairwise (· <= ·)
 | [],_=>List.pairwise_singleton _ _
 | b::l,h=>by
  have h':=zHQ.1 h;unfold QT;split
  ·rename_i IX;refine zHQ.2 ⟨fun x hx=>?_,h⟩;rcases zCD.1 hx with rfl | hx
   ·exact IX
   ·exact Int.le_trans IX (h'.1 x hx)
  ·rename_i IX;refine zHQ.2 ⟨fun x hx=>?_,mQ a l h'.2⟩;rcases zCD.1 ((bf a l).mem_iff.1 hx) with rfl | hx
   ·omega
   ·exact h'.1 x hx
theorem ik: ∀ l:List Int,(Hj l).Pairwise (· <= ·)
 | []=>List.Pairwise.nil
 | a::l=>mQ a _ (ik l)
theorem sU (l:List Int):(l.mergeSort fun x y=>decide (x<=y))=Hj l:=by
 refine List.Perm.eq_of_pairwise (le:=(· <= ·)) (fun a b _ _ h1 h2=>Int.le_antisymm h1 h2) ?_ (ik l) ((List.mergeSort_perm l _).trans (Vi l).symm);have:=List.pairwise_mergeSort (le:=fun x y:Int=>decide (x<=y)) (fun a b c h1 h2=>by simp at h1 h2 ⊢;omega) (fun a b=>by simp;omega) l;exact this.imp fun h=>by simpa using h
theorem Ru (l:List Int):(Hj l).length=l.length:=(Vi l).length_eq
theorem zCk {w:World}{b o:Nat}{l l':List Int}{cs:Array Value}{t:TypeId}{z:Nat×Nat}(h:w.heap[b]? =some (.cells cs t z))(hl:l.length=l'.length)(n:Nat)(os:Array Obj):
 ∃ EZ,(Sort.grow (Sort.putRow (Value.int .i64) (Sort.ahead w n) b o l'.toArray) os).heap[b]? =some (.cells EZ t z)/\ EZ.size=cs.size/\ ∀ j,j<l.length -> o+j<cs.size -> EZ[o+j]? =some (.int .i64 (l'.getD j 0)):=by
 have hb:b<w.heap.size:=(zAZ.1 h).1;refine ⟨Sort.putCells (Value.int .i64) o l'.toArray cs,?_,by simp [Sort.putCells],fun j hj hs=>?_⟩
 ·simp only [Sort.grow,Sort.putRow,Sort.mapBlock,Sort.ahead];rw [zD4 (by simpa using hb),zGi,zAM rfl,h];rfl
 ·simp only [Sort.putCells,Array.getElem?_mapIdx];rw [zCF hs];simp only [zCO];rw [zAM ⟨by omega,by simp;omega⟩];have:o+j-o=j:=by omega
  rw [this];have BJ:j<l'.length:=by omega
  simp [BJ,u8]
theorem rC {w:World}{b o:Nat}(hb:b<w.heap.size)(d:Array Int)(n:Nat)(os:Array Obj):AO (fun k=>k=b) w (Sort.grow (Sort.putRow (Value.int .i64) (Sort.ahead w n) b o d) os):=by
 refine ⟨rfl,rfl,rfl,by simp [Sort.ahead],fun k hk Ad=>?_⟩;simp only [Sort.grow,Sort.putRow,Sort.mapBlock,Sort.ahead];rw [zD4 (by simpa using hk),zGi,zAh (fun e=>Ad e.symm)]
theorem sT (l:List Int){n:Nat}(hn:n=l.length)(zCL:l.length<=BA):ES Tryz.prog GG 184 [.msl 0 1 0 n] [some (.ints l)] (.tup 0 fun j=>([]:List DV).getD j .any) [some (.ints (Hj l))] false:=by
 subst hn;refine ⟨⟨_,Tryz.func184,by decide,rfl⟩,fun N ρ w args HR Cn=>?_⟩;obtain ⟨p,hp,DL⟩:=HR.obj 0 _ rfl;have DL:AY w p l.length fun j u=>u= .int .i64 (l.getD j 0):=DL
 have h0:=Cn.2 0 (by simp);obtain ⟨p',cap,BC,hv,Mr,Mm,XX⟩:=h0;have ep:p'=p:=zAe (BC.symm.trans hp);subst ep;have Ay:args.size=1:=by have:=Cn.1;simpa using this.symm
 have ha:args= #[.slice (some ⟨p'.blk,p'.off,none⟩) l.length cap]:=by
  apply Array.ext
  ·simp [Ay]
  ·intro i h1 h2;have:i=0:=by omega
   subst this;have e:args.getD 0 undef=args[0]:=by simp [Array.getD,Ay]
   rw [e] at hv;rw [hv];simp
 have hH:Sort.Holds (Value.int .i64) w p'.blk p'.off l.toArray:=fun j hj=>by
  have hj:j<l.length:=by simpa using hj
  obtain ⟨u,c1,c2⟩:=DL.cell hj;refine ⟨by rw [c1,c2];simp [hj,u8],DL.frozen _⟩
 obtain ⟨FF,cs,t,Dh,C3,IV,_⟩:=DL;have hb:p'.blk<w.heap.size:=(zAZ.1 Dh).1;subst ha;refine (Tryz.slices_Sort_int p'.blk p'.off cap l w hH hb (by unfold BA at zCL;omega)).mono ?_;rintro e w' ⟨rfl,m,os,rfl⟩;rw [sU];obtain ⟨EZ,k1,k2,k3⟩:=zCk (o:=p'.off) Dh (Ru l).symm m os;have hu:AO p'.foot w (Sort.grow (Sort.putRow (Value.int .i64) (Sort.ahead w m) p'.blk p'.off (Hj l).toArray) os):=by rw [FF];exact rC (o:=p'.off) hb (Hj l).toArray m os
 show ∃ v,Ending.returned (.tuple #[])=Ending.returned v/\ Ci Tryz.prog GG N _ ρ w false _ _ v (Sort.grow (Sort.putRow (Value.int .i64) (Sort.ahead w m) p'.blk p'.off (Hj l).toArray) os)
 refine ⟨_,rfl,⟨⟨ρ,HR.write (o':=.ints (Hj l)) rfl hp hu (fun b hb=>?_) ?_,⟨#[],rfl,rfl,fun j hj=>absurd hj (zAv j)⟩,A5.write rfl hp hu,fun _ _ h=>h⟩,fun h=>by cases h⟩⟩
 ·rw [FF] at hb;exact .cells (c:=EZ) (t:=t) (z:=(0,0)) (by rw [show b=p'.blk from hb];exact k1)
 ·refine ⟨FF,EZ,t,k1,by rw [k2,Ru];exact C3,by rw [k2];exact IV,fun j hj=>?_⟩;rw [Ru] at hj;exact ⟨_,k3 j hj (by omega),rfl⟩
set_option maxRecDepth 100000
set_option maxHeartbeats 40000000
inductive Le where
 | s0
 | s1 (E6:Nat) (Dp:List Int)
def qQ:Le -> DH
 | .s0=>[none,oC [.nils]]
 | .s1 E6 Dp=>[none,oC [.msl 2 1 0 E6],oI Dp]
def Yv (n:Nat)(e6:Int):Option Le:= if (0=0/\ 1=([e6]:List Int).length)/\ 0<([e6]:List Int).length/\ ([e6]:List Int).length<=BA then some (.s1 (([e6]:List Int).length) ([e6]:List Int)) else none
def Yu (n:Nat)(e6:Int)(E6:Nat)(Dp:List Int):Option Le:= if (0=0/\ 1=([e6]:List Int).length)/\ (0=0/\ E6=Dp.length)/\ Dp.length+([e6]:List Int).length<=BA then some (.s1 (Dp.length+([e6]:List Int).length) (Dp++([e6]:List Int))) else none
def e9 (n:Nat)(e6:Int):Le -> Option Le
 | .s0=>Yv n e6
 | .s1 E6 Dp=>Yu n e6 E6 Dp
def JO (n:Nat)(e6:Int)(s:Le):Option Le:=e9 n e6 s
theorem zFn (n:Nat)(l B:Nat)(N:Yd 2)(e6:Int)(s:Le)(r:Le)(h:JO n e6 s=some r):TA l B N (Cp 2 [] 0 (qQ r)) Tryz.f76 6 ⟨AG 13 [(2,.ref 1 0),(6,.it 0),(7,.i e6)],qQ s⟩:=by
 cases s with
 | s0=>
  replace h:Yv n e6=some r:=h;unfold Yv at h;refine ag AC [0,1] H0 (AG 13 [(2,.ref 1 0),(5,.i e6)]) [none,oC [.nils]] fun N=>?_
  revert r;apply gO;exact gi (jt (lF fun p=>rr AC [0,1,3] rfl p))
 | s1 E6 Dp=>
  replace h:Yu n e6 E6 Dp=some r:=h;unfold Yu at h;refine ag AC [0,1,2] H0 (AG 13 [(2,.ref 1 0),(5,.i e6)]) [none,oC [.msl 2 1 0 E6],oI Dp] fun N=>?_
  revert r;apply gO;exact gi (jt (lF fun p=>rr AC [0,1,4] rfl p))
def ew (n:Nat)(l:List Int):Option ((List Int)):=
 (Bq (JO n) l (.s0)).bind fun y1=>
  match y1 with
  | .s0=>
   none
  | .s1 Pb NT=>
   if Pb=NT.length then
    some NT
   else none
def U6 (n:Nat)(l:List Int):Option ((List Int)):=ew n l
theorem zFm {n:Nat}{l:List Int}{r:(List Int)}(h:U6 n l=some r):EQ 76 [.nils,.it 0] [some (.iter ((l).map BP))] (.msl 1 1 0 r.length) [none,oI r] false:=by
 unfold U6 ew at h;refine ot Tryz.func76 fun B N=>?_
 revert r;apply gO
 exact cn fun y1 A7=>fun p r h=>by
  refine gs AC [0,1] p (GD (AX Tryz.f76) 6 []) (AG 13 [(2,.ref 1 0),(6,.it 0)]) [some (.iter ((l).map BP)),oC [.nils]] ?_;refine r0 0 6 #[7] BP 2 A7 (zFn n) ?_;cases y1 with
  | s0=>
   dsimp only at h
   revert r;apply gO;exact nO
  | s1 Pb NT=>
   dsimp only at h
   revert r;apply gO;exact gn fun g0=>lF fun p=>el AC [4] [0,2] p [] H0 [.msl 1 1 0 Pb] (AS.mslN g0)
def eA (n:Nat)(l:List Int):Option ((List Int)):= (U6 n l).bind fun y1=> some y1
def Yi (n:Nat)(l:List Int):Option ((List Int)):=eA n l
theorem zE4 {n:Nat}{l:List Int}{r:(List Int)}(h:Yi n l=some r):EQ 50 [.it 0] [some (.iter ((l).map BP))] (.msl 1 1 0 r.length) [none,oI r] false:=by
 unfold Yi eA at h;refine ot Tryz.func50 fun B N=>?_
 revert r;apply gO;exact ce zFm [0] [some (.iter ((l).map BP))] fun y1=>lF fun p=>el AC [2] [0,1] p [] H0 [.msl 1 1 0 y1.length] (AS.mslN rfl)
def Zf (n:Nat)(l:List Int):Option ((List Int)):= (Yi n l).bind fun y1=> if y1.length<=BA then if y1.length=(Hj y1).length then some (Hj y1) else none else none
def Nj (n:Nat)(l:List Int):Option ((List Int)):=Zf n l
theorem sR {n:Nat}{l:List Int}{r:(List Int)}(h:Nj n l=some r):EQ 183 [.it 0] [some (.iter ((l).map BP))] (.msl 1 1 0 r.length) [none,oI r] false:=by
 unfold Nj Zf at h;refine ot Tryz.func183 fun B N=>?_
 revert r;apply gO;exact ce zE4 [0] [some (.iter ((l).map BP))] fun y1=>gn fun g0=>jc (em (sT y1 (n:=y1.length) (Eq.refl y1.length) g0) [1] [none,oI y1]) (gn fun g1=>lF fun p=>el AC [2] [0,1] p [] H0 [.msl 1 1 0 y1.length] (AS.mslN g1))
def pY (n:Nat)(g_:List (List Int))(AT:List Bool)(start:Int):Option ((List Int)×Int):= (KJ n g_ ([AT]:List (List Bool))).bind fun y1=> bif (y1 != 0) then some (([]:List Int),y1) else bif (decide (start<0)) then some (([]:List Int),1) else bif (decide (start>=(g_.length:Int))) then some (([]:List Int),1) else if 0<=start/\ start<(AT.length:Int) then bif (!(AT.getD ((start).toNat) false)) then some (([]:List Int),1) else (Gf n g_ start AT).bind fun y2=> (Nj n y2).bind fun y3=> some (y3,0) else none
def RC (n:Nat)(g_:List (List Int))(AT:List Bool)(start:Int):Option ((List Int)×Int):=pY n g_ AT start
theorem zE2 {n:Nat}{g_:List (List Int)}{AT:List Bool}{start:Int}{r:(List Int)×Int}(h:RC n g_ AT start=some r):EQ 179 [.sl 1 g_.length (AP BX g_),.bools AT,.i start] [] (.tup 2 (L1 [.ints r.1,.i r.2])) [] true:=by
 refine ot Tryz.func179 fun B N=>?_
 revert r;apply gO;exact ja 10 0 1 (GJ (c:=RG) (L:=([AT]:List (List Bool))) (vals:=[.bools AT]) rfl ⟨⟨_,rfl,⟨A3,trivial⟩⟩,trivial⟩) (jz 10 0 (jg (Eq.refl 1) (cf Xw [none] fun y1=>bi 13 (lF fun p=>el AC [6,7] [] p [] H0 [.nils,.i y1] (AS.tupL (l:=[.nils,.i y1]) (l':=[.ints ([]:List Int),.i y1]) rfl ⟨AS.ints_nil,A3,trivial⟩)) (bi 16 (lF fun p=>el AC [6,7] [] p [] H0 [.nils,.i 1] (AS.tupL (l:=[.nils,.i 1]) (l':=[.ints ([]:List Int),.i 1]) rfl ⟨AS.ints_nil,A3,trivial⟩)) (bi 21 (lF fun p=>el AC [6,7] [] p [] H0 [.nils,.i 1] (AS.tupL (l:=[.nils,.i 1]) (l':=[.ints ([]:List Int),.i 1]) rfl ⟨AS.ints_nil,A3,trivial⟩)) (gi (bi 28 (lF fun p=>el AC [6,7] [] p [] H0 [.nils,.i 1] (AS.tupL (l:=[.nils,.i 1]) (l':=[.ints ([]:List Int),.i 1]) rfl ⟨AS.ints_nil,A3,trivial⟩)) (cn fun y2 B6=>jc (aG B6 [none]) (ce sR [1] [none,some (.iter ((y2).map BP))] fun y3=>lF fun p=>ez AC [6,7] [2] p [0] (H0.g (Eq.refl y3.length)))))))))))
def g9:ST:=.rd 0 (.rd 1 (.ef 2 (.ef 3 (.fin [] [4,5]) (.no)) (.no)))
theorem uH:Bv (Aj Tryz.f103 11) [2] g9:=by unfold Bv;kernel_rfl
def L4:Bh:=fun i=>match i with
 | 11=>.tre [2] g9
 | _=>.no
def zBt (g_:List (List Int))(Cb:Int)(y1 o1:List Int):DH:=[oC [.msl 3 1 0 g_.length],oC [.i (Cb+1)],some (.iter ((y1).map BP)),oI o1]
def gM (g_:List (List Int))(o1:List Int)(Cb:Int):St:=⟨(AG 42 [(4,.ref 0 0),(5,.ref 2 0)]),([oC [.msl 1 1 0 g_.length],oI o1,oC [.i Cb]]:DH)⟩
inductive ML where
 | s0 (Jk:List Int)
def kS (g_:List (List Int))(AT:List Bool)(x13 Cb:Int):ML -> DH
 | .s0 Jk=>[oC [.msl 3 1 0 g_.length],oC [.i (Cb+1)],none,oI Jk]
def WQ (n:Nat)(g_:List (List Int))(AT:List Bool)(x13 Cb Hy:Int)(Jk:List Int):Option ML:= if (0<=Hy/\ Hy<(g_.length:Int))/\ 0+((Hy).toNat)<Jk.length then some (.s0 (Jk.set (0+((Hy).toNat)) (Cb+1))) else none
def kR (n:Nat)(g_:List (List Int))(AT:List Bool)(x13 Cb Hy:Int):ML -> Option ML
 | .s0 Jk=>WQ n g_ AT x13 Cb Hy Jk
def N9 (n:Nat)(g_:List (List Int))(AT:List Bool)(x13 Cb Hy:Int)(s:ML):Option ML:=kR n g_ AT x13 Cb Hy s
theorem w9 (n:Nat)(g_:List (List Int))(AT:List Bool)(x13 Cb:Int)(l B:Nat)(N:Yd 3)(Hy:Int)(s:ML)(r:ML)(h:N9 n g_ AT x13 Cb Hy s=some r):TA l B N (Cp 3 [] 0 (kS g_ AT x13 Cb r)) Tryz.f103 33 ⟨AG 42 [(0,.sl 1 g_.length (AP BX g_)),(1,.bools AT),(4,.ref 0 0),(5,.ref 1 0),(12,.i (g_.length:Int)),(13,.i x13),(33,.it 2),(34,.i Hy)],kS g_ AT x13 Cb s⟩:=by
 cases s with
 | s0 Jk=>
  replace h:WQ n g_ AT x13 Cb Hy Jk=some r:=h;unfold WQ at h;refine ag L4 [0,1,2,3] H0 (AG 42 [(4,.ref 0 0),(5,.ref 1 0),(7,.i Hy)]) [oC [.msl 3 1 0 g_.length],oC [.i (Cb+1)],none,oI Jk] fun N=>?_
  revert r;apply gO;exact gc (gi (gi (lF fun p=>rr L4 [0,1,2,3] rfl p)))
inductive WR where
 | l1 (x13:Int) (o1:List Int) (Cb:Int)
def S9 (n:Nat)(self:WR -> Option ((List Int)×Int))(g_:List (List Int))(AT:List Bool)(x13:Int)(o1:List Int)(Cb:Int):Option ((List Int)×Int):=
 bif (decide (x13<(g_.length:Int))) then
  if 0<=x13/\ x13<(AT.length:Int) then
   bif (!(AT.getD ((x13).toNat) false)) then
    if AJ (x13+1) then
     self (.l1 (x13+1) o1 Cb)
    else none
   else
    if (0<=x13/\ x13<(g_.length:Int))/\ 0+((x13).toNat)<o1.length then
     bif (decide ((o1.getD (0+((x13).toNat)) 0)>0)) then
      if AJ (x13+1) then
       self (.l1 (x13+1) o1 Cb)
      else none
     else
      if AJ (Cb+1) then
       (Gf n g_ x13 AT).bind fun y1=>
        (Bq (N9 n g_ AT x13 Cb) y1 (.s0 o1)).bind fun y2=>
         match y2 with
         | .s0 EO=>
          if AJ (x13+1) then
           self (.l1 (x13+1) EO (Cb+1))
          else none
      else none
    else none
  else none
 else
  if g_.length=o1.length then
   some (o1,Cb)
  else none
def kQ (n:Nat)(self:WR -> Option ((List Int)×Int))(g_:List (List Int))(AT:List Bool):Option ((List Int)×Int):= if ((g_.length:Int):Int)=(g_.length:Int)/\ 0<=(g_.length:Int)/\ ((g_.length:Int):Int)<=1000000000000 then self (.l1 0 (List.replicate g_.length (0:Int)) 0) else none
def QA (g_:List (List Int))(AT:List Bool):Nat -> WR -> Option ((List Int)×Int)
 | 0,_=>none
 | n+1,.l1 x13 o1 Cb=>S9 n (QA g_ AT n) g_ AT x13 o1 Cb
def parts (n:Nat)(g_:List (List Int))(AT:List Bool):Option ((List Int)×Int):=kQ n (QA g_ AT n) g_ AT
def xA (n B:Nat)(N:Yd 0)(g_:List (List Int))(AT:List Bool)(r:(List Int)×Int):WR -> Prop
 | .l1 x13 o1 Cb=>∀ m0:Nat,n<=m0 -> TW B N (FQ Tryz.f103 0 (.tup 2 (L1 [.ints r.1,.i r.2])) []) (A4 m0 (BB (AX Tryz.f103) 0 [])) ⟨AG 42 [(0,.sl 1 g_.length (AP BX g_)),(1,.bools AT),(4,.ref 0 0),(5,.ref 2 0),(12,.i (g_.length:Int)),(13,.i x13)],[oC [.msl 1 1 0 g_.length],oI o1,oC [.i Cb]]⟩
theorem xB (B:Nat)(N:Yd 0)(g_:List (List Int))(AT:List Bool):Al (QA g_ AT) (xA · B N g_ AT):=ia (fun _=>rfl) fun n AI pt r h=>by
 cases pt
 case l1 x13 o1 Cb=>
  intro m0 AD;refine rd AD fun m0 AD=>?_
  revert r;apply gO
  exact bi 14 (gi (bi 20 (gw 39 (lG L4 [0,1,2] (AI _ _ · m0 AD))) (gc (gi (gi (bi 26 (gw 39 (lG L4 [0,1,2] (AI _ _ · m0 AD))) (gw 29 (jt (cn fun y1 A7=>jc (aG A7 [oC [.msl 1 1 0 g_.length],oI o1,oC [.i (Cb+1)]]) (cn fun y2 B6=>fun p r h=>by
   refine gs L4 [0,2,3,1] p (GD (AX Tryz.f103) 33 [m0]) (AG 42 [(0,.sl 1 g_.length (AP BX g_)),(1,.bools AT),(4,.ref 0 0),(5,.ref 1 0),(12,.i (g_.length:Int)),(13,.i x13),(33,.it 2)]) (zBt g_ Cb y1 o1) ?_;refine r0 2 33 #[34] BP 3 B6 (w9 n g_ AT x13 Cb) ?_;cases y2 with
   | s0 EO=>
    dsimp only at h
    revert r;apply gO;exact gw 39 (lG L4 [0,3,1] (AI _ _ · m0 AD)))))))))))) (jg uH (jt (jt (jg (Eq.refl (gM g_ o1 Cb)) (gn fun g0=>lF fun p=>ez (tg:=[([(2,0)],(gM g_ o1 Cb))]) L4 [4,5] [0,1,2] p [1] (H0.g g0))))))
theorem aZ {n:Nat}{g_:List (List Int)}{AT:List Bool}{r:(List Int)×Int}(h:parts n g_ AT=some r):EQ 103 [.sl 1 g_.length (AP BX g_),.bools AT] [] (.tup 2 (L1 [.ints r.1,.i r.2])) [] true:=by
 refine ot Tryz.func103 fun B N=>?_
 revert r;apply gO;exact gi (jt (lN L4 [0,2,1] ((xB B N g_ AT n) _ _ · n Nat.le.refl)))
end Go.Proofs.YtkjbblkieglmlaaGreatDoor
namespace Go.Proofs.YtkjbblkieglmlaaGreatDoor
open Go.RowKit
set_option maxRecDepth 100000
set_option maxHeartbeats 40000000
def ZE (n:Nat)(n_:Int)(inn:List Bool):Option ((List Bool)):= (PF n inn).bind fun y1=> if (0<=n_/\ n_<(y1.length:Int))/\ 0+((n_).toNat)<y1.length then if y1.length=(y1.set (0+((n_).toNat)) false).length then some (y1.set (0+((n_).toNat)) false) else none else none
def Rf (n:Nat)(n_:Int)(inn:List Bool):Option ((List Bool)):=ZE n n_ inn
theorem qu {n:Nat}{n_:Int}{inn:List Bool}{r:(List Bool)}(h:Rf n n_ inn=some r):EQ 180 [.i n_,.fp 1 (L1 [.bools inn])] [] (.msl 0 1 0 r.length) [some (.bools r)] true:=by
 unfold Rf ZE at h;refine ot Tryz.func180 fun B N=>?_
 revert r;apply gO;exact cn fun y1 A7=>jc (ES.snapNew (ds:=[.bools inn]) (pd A7) [] (fF (by kernel_rfl)) rfl) (gc (gi (gi (gn fun g2=>lF fun p=>el AC [3] [0] p [] H0 [.msl 0 1 0 y1.length] (AS.mslN g2)))))
theorem tr:As (Aj Tryz.f169 16) [] (List.range 7) []:=by unfold As;kernel_rfl
def Hk:Bh:=fun i=>match i with
 | 16=>.ord [] (List.range 7) []
 | _=>.no
def m5 (AT CN:List Bool)(AF:Int):DH:=[oC [.bools AT],oC [.bools CN],oC [.i AF],oC [.bool false],none]
def zBL (AT CN:List Bool)(AF:Int):DH:=[oC [.bools AT],oC [.bools CN],oC [.i AF],oC [.bool false],none,none]
def zBK (AT CN:List Bool)(AF:Int)(y3:(List Int)×Int):DH:=[oC [.bools AT],oC [.bools CN],oC [.i AF],oC [.bool false],none,none,oC [.ints y3.1],oC [.i 0]]
def zBJ (CN:List Bool)(AF:Int)(y3:(List Int)×Int)(y4:List Int):DH:=[oC [.bools CN],oC [.i AF],oC [.bool false],oC [.ints y3.1],oC [.i 0],some (.iter ((y4).map BP))]
def zBI (CN:List Bool)(AF:Int)(Hn:Bool)(y3:(List Int)×Int)(Gh:Int):DH:=[oC [.bools CN],oC [.i AF],oC [.bool Hn],oC [.ints y3.1],oC [.i Gh],none]
inductive Lx where
 | s0 (Hn:Bool) (Gh:Int)
def iZ (CN:List Bool)(AF:Int)(y3:(List Int)×Int):Lx -> DH
 | .s0 Hn Gh=>[oC [.bools CN],oC [.i AF],oC [.bool Hn],oC [.ints y3.1],oC [.i Gh],none]
def Rt (n:Nat)(CN:List Bool)(AF:Int)(y3:(List Int)×Int)(Fk:Int)(Hn:Bool)(Gh:Int):Option (Lx×Nat):= bif (Fk==AF) then some (.s0 Hn Gh,0) else if 0<=Fk/\ Fk<(CN.length:Int) then bif (!(CN.getD ((Fk).toNat) false)) then some (.s0 Hn Gh,0) else bif (Gh==0) then if 0<=Fk/\ Fk<(y3.1.length:Int) then some (.s0 Hn (y3.1.getD ((Fk).toNat) 0),0) else none else if 0<=Fk/\ Fk<(y3.1.length:Int) then bif ((y3.1.getD ((Fk).toNat) 0) != Gh) then some (.s0 true Gh,1) else some (.s0 Hn Gh,0) else none else none
def sK (n:Nat)(CN:List Bool)(AF:Int)(y3:(List Int)×Int)(Fk:Int):Lx -> Option (Lx×Nat)
 | .s0 Hn Gh=>Rt n CN AF y3 Fk Hn Gh
def IA (n:Nat)(CN:List Bool)(AF:Int)(y3:(List Int)×Int)(Fk:Int)(s:Lx):Option (Lx×Nat):=sK n CN AF y3 Fk s
theorem sJ (n:Nat)(CN:List Bool)(AF:Int)(y3:(List Int)×Int)(l B:Nat)(N:Yd 6)(Fk:Int)(s:Lx)(r:Lx×Nat)(h:IA n CN AF y3 Fk s=some r):TA l B N (Cp 6 [.exit 0] r.2 (iZ CN AF y3 r.1)) Tryz.f169 48 ⟨AG 76 [(6,.ref 0 0),(7,.ref 1 0),(8,.ref 2 0),(11,.ref 3 0),(13,.ref 4 0),(48,.it 5),(49,.i Fk)],iZ CN AF y3 s⟩:=by
 cases s with
 | s0 Hn Gh=>
  refine ag Hk [0,1,2,3,4,5] H0 (AG 76 [(6,.ref 0 0),(7,.ref 1 0),(8,.ref 2 0),(11,.ref 3 0),(13,.ref 4 0),(14,.i Fk)]) (zBI CN AF Hn y3 Gh) fun N=>?_
  revert r;apply gO;exact bi 53 (lF fun p=>rr Hk [0,1,2,3,4,5] rfl p) (gi (bi 59 (lF fun p=>rr Hk [0,1,2,3,4,5] rfl p) (bi 63 (gi (jt (lF fun p=>rr Hk [0,1,2,3,4,5] rfl p))) (jg tr (gi (bi 74 (jt (lF fun p=>rr Hk [0,1,2,3,4,5] rfl p)) (lF fun p=>rr Hk [0,1,2,3,4,5] rfl p)))))))
def iY (n:Nat)(g_:List (List Int))(AT CN:List Bool)(AF:Int):Option (Bool×Int):=
 (KJ n g_ ([AT,CN]:List (List Bool))).bind fun y1=>
  bif (y1 != 0) then
   some (false,y1)
  else
   bif (decide (AF<0)) then
    some (false,1)
   else
    bif (decide (AF>=(g_.length:Int))) then
     some (false,1)
    else
     if 0<=AF/\ AF<(AT.length:Int) then
      bif (!(AT.getD ((AF).toNat) false)) then
       some (false,0)
      else
       (Rf n AF AT).bind fun y2=>
        (parts n g_ y2).bind fun y3=>
         (Gf n g_ AF AT).bind fun y4=>
          (DP (IA n CN AF y3) y4 (.s0 false 0)).bind fun y5=>
           bif y5.2==0 then
            match y5.1 with
            | .s0 Re Y9=>
             some (Re,0)
           else
            bif y5.2==1 then
             match y5.1 with
             | .s0 Re Y9=>
              some (Re,0)
            else
             none
     else none
def Ng (n:Nat)(g_:List (List Int))(AT CN:List Bool)(AF:Int):Option (Bool×Int):=iY n g_ AT CN AF
theorem sH {n:Nat}{g_:List (List Int)}{AT CN:List Bool}{AF:Int}{r:Bool×Int}(h:Ng n g_ AT CN AF=some r):EQ 169 [.sl 1 g_.length (AP BX g_),.bools AT,.bools CN,.i AF] [] (.tup 2 (L1 [.bool r.1,.i r.2])) [] true:=by
 refine ot Tryz.func169 fun B N=>?_
 revert r;apply gO
 exact ja 18 4 1 (GJ (c:=RG) (L:=([AT,CN]:List (List Bool))) (vals:=[.bools AT,.bools CN]) rfl ⟨⟨_,rfl,⟨A3,trivial⟩⟩,⟨_,rfl,⟨A3,trivial⟩⟩,trivial⟩) (jz 18 4 (jg (Eq.refl 2) (cf Xw (m5 AT CN AF) fun _=>bi 21 (jt (lE Hk [8,9] [3])) (bi 24 (jt (lE Hk [8,9] [3])) (bi 29 (jt (lE Hk [8,9] [3])) (gi (bi 35 (jt (lE Hk [8,9] [3])) (cn fun y2 B6=>jc (ES.snapNew (ds:=[.i AF,.ref 0 0]) (qu B6) (m5 AT CN AF) ⟨Ae.plain (by kernel_rfl),(Ae.refL (l:=[.bools AT]) (l0:=[.bools AT]) rfl ⟨Ae.plain (by kernel_rfl),trivial⟩),trivial⟩ rfl) (jz 41 5 (jg (Eq.refl y2.length) (cf aZ (zBL AT CN AF) fun y3=>jt (jt (cn fun y4 bx=>jc (aG bx (zBK AT CN AF y3)) (cn fun y5 bv=>fun p r h=>by
  refine gs Hk [1,2,3,6,7,8] p (GD (AX Tryz.f169) 48 []) (AG 76 [(6,.ref 0 0),(7,.ref 1 0),(8,.ref 2 0),(11,.ref 3 0),(13,.ref 4 0),(48,.it 5)]) (zBJ CN AF y3 y4) ?_;refine rx [.exit 0] 5 48 #[49] BP 6 bv (sJ n CN AF y3) fun e he=>?_
  replace h:=By h;rcases h with ⟨Rb,h⟩ | ⟨Rb,h⟩
  ·rw [eq_of_beq Rb] at he;cases he;revert h;cases y5.1 with
   | s0 Re Y9=>
    intro h
    dsimp only at h
    revert r;apply gO;exact jt (lE Hk [8,9] [2])
  ·replace h:=By h;rcases h with ⟨Rb,h⟩ | ⟨Rb,h⟩
   ·rw [eq_of_beq Rb] at he;cases he;refine Dl.exitTo (by kernel_rfl) ?_;revert h;cases y5.1 with
    | s0 Re Y9=>
     intro h
     dsimp only at h
     revert r;apply gO;exact jt (lE Hk [8,9] [2])
   ·cases h))))))))))))))
end Go.Proofs.YtkjbblkieglmlaaGreatDoor
namespace Go.Proofs.YtkjbblkieglmlaaGreatDoor
open Go.RowKit
theorem Af.bindU {R T:Type}{a:Nat -> Option T}{b:Nat -> T -> Option R}{A:T -> Prop}{Q:R -> Prop}(ha:Af a A)(hb: ∃ M,∀ n,M<=n -> ∀ x,A x -> ∃ r,b n x=some r/\ Q r):Af (fun n=>(a n).bind (b n)) Q:=by
 obtain ⟨N,ha⟩:=ha;obtain ⟨M,hb⟩:=hb;refine ⟨max N M,fun n hn=>?_⟩;obtain ⟨x,h1,h2⟩:=ha n (by omega);obtain ⟨r,h3,h4⟩:=hb n (by omega) x h2;exact ⟨r,by show (a n).bind (b n)=_;rw [h1,zAS];exact h3,h4⟩
structure Ih (g:List (List Int)):Prop where
 ok:LW g=true
 row: ∀ r∈g,r.length<=LB
theorem Ih.gr {g:List (List Int)}(h:Ih g):Gr g:=Gr.of h.ok h.row
section
variable {g:List (List Int)} {inn some':List Bool} {s:Int}
theorem n9 {sets:List (List Bool)}(hs: ∀ x∈sets,x.length=g.length)(hl:sets.length<=256): ∀ (k i n:Nat),i+k=sets.length -> k+1<=n -> Qp g sets n (.l1 (i:Int))=some 0
 | 0,i,n,e,hn=>by
  obtain ⟨n,rfl⟩: ∃ k,n=k+1:=⟨n-1,by omega⟩
  show UK n (Qp g sets n) g sets i=_
  unfold UK;rw [zAP (by omega),zAR]
 | k+1,i,n,e,hn=>by
  obtain ⟨n,rfl⟩: ∃ k,n=k+1:=⟨n-1,by omega⟩;have hi:i<sets.length:=by omega
  have hm:sets.getD i []∈sets:=by rw [u8,zAa hi];exact zBD hi
  have e2:(((sets.getD i []).length:Int) != (g.length:Int))=false:=by rw [hs _ hm];simp
  have:=n9 hs hl k (i+1) n (by omega) (by omega)
  show UK n (Qp g sets n) g sets i=_
  unfold UK;rw [zAU (by omega),zAV,zAM ⟨by omega,by omega⟩,zAT,e2,zAR,zAM (Av.2 ⟨by omega,by omega⟩)];exact this
theorem Xx (G:Ih g){sets:List (List Bool)}(hs: ∀ x∈sets,x.length=g.length)(hl:sets.length<=256):Ev (fun n=>KJ n g sets) 0:=by
 refine ⟨2*Hf g+1+sets.length+1,fun n hn=>?_⟩
 show KJ n g sets=some 0
 unfold KJ oA;rw [oH G.row (by omega),G.ok];exact n9 hs hl sets.length 0 n (by omega) (by omega)
theorem qT {n:Nat}: ∀ (l x:List Int),(x++l).length<=BA -> Bq (JO n) l (.s1 x.length x)=some (.s1 (x++l).length (x++l))
 | [],x,h=>by rw [zGb];rfl
 | a::l,x,h=>by
  have e:x++a::l=x++[a]++l:=by simp
  rw [e] at h ⊢;have h2:x.length+1<=BA:=by simp only [zA7,zCf] at h;omega
  have e1:JO n a (.s1 x.length x)=some (.s1 (x++[a]).length (x++[a])):=by
   unfold JO e9 Yu
   dsimp only
   rw [zAM ⟨⟨rfl,rfl⟩,⟨rfl,rfl⟩,by simpa using h2⟩,zA7]
  show (JO n a (.s1 x.length x)).bind (Bq (JO n) l)=_
  rw [e1,zAS];exact qT l (x++[a]) h
theorem sS {n:Nat}{l:List Int}(h0:l≠[])(hl:l.length<=256):Nj n l=some (Hj l):=by
 have L:(1000000000000:Nat)=BA:=rfl;cases l with
 | nil=>exact absurd rfl h0
 | cons a l=>
  have e1:JO n a .s0=some (.s1 [a].length [a]):=by
   unfold JO e9 Yv
   dsimp only
   rw [zAM ⟨⟨rfl,rfl⟩,by simp,by rw [←L];simp⟩]
  have e2:=qT (n:=n) l [a] (by rw [←L];simp only [List.singleton_append];omega)
  have e3:U6 n (a::l)=some (a::l):=by
   unfold U6 ew
   show ((JO n a .s0).bind (Bq (JO n) l)).bind _=_
   rw [e1,zAS,e2,zAS]
   dsimp only
   rw [zAM rfl];rfl
  unfold Nj Zf Yi eA;rw [e3,zAS,zAS,zAM (by rw [←L];omega),zAM (Ru _).symm]
theorem wI {l:List Int}(h: ∀ v,v∈l↔Rc g inn s v):l≠[]:=fun e=>by
 have:=(h s).2 .start;rw [e] at this;cases this
theorem wJ (G:Gr g)(h0:0<=s)(h1:s<(g.length:Int)){l:List Int}(hn:l.Nodup)(h: ∀ v,v∈l↔Rc g inn s v):l.length<=256:=
 zA0 (ax g.length l hn fun x hx=>((h x).1 hx).rng G h0 h1) G.len
theorem zE3 (G:Ih g)(hI:inn.length=g.length)(h0:0<=s)(h1:s<(g.length:Int))(hs:inn.getD s.toNat false=true):
 Af (fun n=>RC n g inn s) (fun r=>r.2=0/\ r.1.length<=256/\ ∀ v,v∈r.1↔Rc g inn s v):=by
 have e: ∀ n,RC n g inn s=(KJ n g [inn]).bind fun y1=>bif (y1 != 0) then some (([]:List Int),y1) else (Gf n g s inn).bind fun y2=>(Nj n y2).bind fun y3=>some (y3,0):=fun n=>by
  unfold RC pY
  congr 1
  funext y1
  rw [zAP (by omega),zAR,zAP (by omega),zAR,zAM ⟨by omega,by omega⟩,hs,zCs,zAR]
 refine Af.eq ?_ e;refine Af.bind (Xx G (fun x hx=>by rw [zA1.1 hx];exact hI) (by simp)) ?_
 show Af (fun n=>(Gf n g s inn).bind fun y2=>(Nj n y2).bind fun y3=>some (y3,0)) _
 refine Af.bindU (aF G.gr hI h0 h1) ⟨0,fun n _ l hl=>?_⟩;have Ak:=wJ G.gr h0 h1 hl.1 hl.2;rw [sS (wI hl.2) Ak,zAS];exact ⟨_,rfl,rfl,by rw [Ru];exact Ak,fun v=>by rw [(Vi l).mem_iff];exact hl.2 v⟩
structure Pt (g:List (List Int))(inn:List Bool)(i:Nat)(part:List Int)(Bw:Int):Prop where
 len:part.length=g.length
 m0:0<=Bw
 m1:Bw<=(i:Int)
 lo: ∀ v,v<g.length -> 0<=part.getD v 0/\ part.getD v 0<=Bw
 isIn: ∀ v,v<g.length -> 0<part.getD v 0 -> inn.getD v false=true
 same: ∀ u v:Nat,u<g.length -> v<g.length -> 0<part.getD u 0 -> Rc g inn u v -> part.getD v 0=part.getD u 0
 con: ∀ u v:Nat,u<g.length -> v<g.length -> 0<part.getD u 0 -> part.getD v 0=part.getD u 0 -> Rc g inn u v
 all: ∀ v,v<i -> v<g.length -> inn.getD v false=true -> 0<part.getD v 0
 sur: ∀ m,0<m -> m<=Bw -> ∃ v,v<g.length/\ part.getD v 0=m
theorem kT {n:Nat}{x13 m:Int}: ∀ (l:List Int) (part:List Int),part.length=g.length -> (∀ v∈l,0<=v/\ v<(g.length:Int)) ->
 ∃ Ho,Bq (N9 n g inn x13 m) l (.s0 part)=some (.s0 Ho)/\ Ho.length=g.length/\ ∀ v:Nat,Ho.getD v 0=if (v:Int)∈l/\ v<g.length then m+1 else part.getD v 0
 | [],part,hp,_=>⟨part,rfl,hp,fun v=>by simp⟩
 | a::l,part,hp,hl=>by
  have ha:=hl a zCX
  have e1:N9 n g inn x13 m a (.s0 part)=some (.s0 (part.set a.toNat (m+1))):=by
   unfold N9 kR WQ
   dsimp only
   rw [zAM ⟨ha,by omega⟩,zA8]
  obtain ⟨Ho,h1,h2,h3⟩:=kT (n:=n) (x13:=x13) (m:=m) l (part.set a.toNat (m+1)) (by rw [zBB];exact hp) fun v hv=>hl v (zCB _ hv)
  refine ⟨Ho,?_,h2,fun v=>?_⟩
  ·show (N9 n g inn x13 m a (.s0 part)).bind (Bq (N9 n g inn x13 m) l)=_
   rw [e1,zAS];exact h1
  ·rw [h3]
   by_cases hv:(v:Int)∈l/\ v<g.length
   ·rw [zAM hv,zAM ⟨zCB _ hv.1,hv.2⟩]
   ·rw [zAh hv]
    by_cases e:(v:Int)=a
    ·subst e;rw [zAM ⟨zCX,by omega⟩,zAT,u8,zDB (by omega)];rfl
    ·rw [zAh (fun h=>by
      rcases zCD.1 h.1 with h4 | h4
      ·exact e h4
      ·exact hv ⟨h4,h.2⟩),u8,zC2 (by omega),←u8]
theorem Pt.go (G:Gr g){i:Nat}{part Ho:List Int}{Bw:Int}(h:Pt g inn i part Bw)(hi:i<g.length)(Ce:inn.getD i false=true)(h0: ¬ part.getD i 0>0){l:List Int}(hl: ∀ v,v∈l↔Rc g inn i v)(Ak:Ho.length=g.length) 
 (hp: ∀ v:Nat,Ho.getD v 0=if (v:Int)∈l/\ v<g.length then Bw+1 else part.getD v 0):Pt g inn (i+1) Ho (Bw+1):=by
 have m0:=h.m0;have m1:=h.m1;have Ln: ∀ v:Nat,v<g.length -> Rc g inn i v -> Ho.getD v 0=Bw+1:=fun v hv hr=>by rw [hp,zAM ⟨(hl v).2 hr,hv⟩]
 have no: ∀ v:Nat,¬ Rc g inn i v -> Ho.getD v 0=part.getD v 0:=fun v hr=>by rw [hp,zAh (fun h=>hr ((hl v).1 h.1))]
 have sym: ∀ u v:Nat,u<g.length -> inn.getD u false=true -> Rc g inn u v -> Rc g inn v u:=fun u v hu hui hr=>hr.symm G (by omega) (by omega) (by rw [zAT];exact hui)
 refine ⟨Ak,by omega,by omega,fun v hv=>?_,fun v hv I5=>?_,fun u v hu hv I5 hr=>?_,fun u v hu hv I5 he=>?_,fun v hv HI C5=>?_,fun m h1 h2=>?_⟩
 ·have:=h.lo v hv
  by_cases hr:Rc g inn i v
  ·rw [Ln v hv hr];omega
  ·rw [no v hr];omega
 ·by_cases hr:Rc g inn i v
  ·have:=hr.isIn (by rw [zAT];exact Ce)
   rwa [zAT] at this
  ·rw [no v hr] at I5;exact h.isIn v hv I5
 ·by_cases h1:Rc g inn i u
  ·rw [Ln u hu h1,Ln v hv (h1.trans hr)]
  ·rw [no u h1] at I5 ⊢;have h2: ¬ Rc g inn i v:=fun h2=>h1 (h2.trans (sym u v hu (h.isIn u hu I5) hr))
   rw [no v h2];exact h.same u v hu hv I5 hr
 ·have hb:=(h.lo v hv).2
  by_cases h1:Rc g inn i u
  ·rw [Ln u hu h1] at he
   by_cases h2:Rc g inn i v
   ·exact (sym i u hi Ce h1).trans h2
   ·rw [no v h2] at he;omega
  ·rw [no u h1] at I5 he;have hb:=(h.lo u hu).2
   by_cases h2:Rc g inn i v
   ·rw [Ln v hv h2] at he;omega
   ·rw [no v h2] at he;exact h.con u v hu hv I5 he
 ·rcases zAl.1 hv with hv | rfl
  ·have:=h.all v hv HI C5
   by_cases hr:Rc g inn i v
   ·rw [Ln v HI hr];omega
   ·rw [no v hr];exact this
  ·rw [Ln v HI .start];omega
 ·by_cases e:m=Bw+1
  ·exact ⟨i,hi,by rw [Ln i hi .start,e]⟩
  ·obtain ⟨v,hv,Oc⟩:=h.sur m h1 (by omega);refine ⟨v,hv,?_⟩;rw [no v fun hr=>h0 ?_,Oc];have:=h.same v i hv hi (by omega) (sym i v hi Ce hr);omega
def PtP (g:List (List Int))(inn:List Bool)(r:List Int×Int):Prop:=r.1.length=g.length/\ (∀ v,v<g.length -> inn.getD v false=true -> 0<r.1.getD v 0)/\ ∀ u v:Nat,u<g.length -> v<g.length -> inn.getD u false=true -> (r.1.getD v 0=r.1.getD u 0↔Rc g inn u v)
theorem aY (G:Gr g)(hI:inn.length=g.length):Af (fun n=>parts n g inn) (fun r=>Pt g inn g.length r.1 r.2):=by
 have hG:=G.len;obtain ⟨N,hN⟩:=Af.range (F:=fun (i:Nat) n=>Gf n g i inn) (A:=fun i l=>l.Nodup/\ ∀ v,v∈l↔Rc g inn i v) g.length fun i hi=>aF G hI (by omega) (by omega)
 have hN: ∀ n,N<=n -> ∀ i:Nat,i<g.length -> ∃ l,Gf n g i inn=some l/\ l.Nodup/\ ∀ v,v∈l↔Rc g inn i v:=hN;refine ⟨N+g.length+1,fun n hn=>?_⟩;have S:=Hr (fun n (s:List Int×Int) i=>QA g inn n (.l1 i s.1 s.2)) g.length (N+1) (fun i s=>Pt g inn i s.1 s.2) (fun n i s HM hi hP=>?_) (n:=n) (s:=(List.replicate g.length 0,0)) (by omega) ?_
 ·obtain ⟨n1,⟨part,Bw⟩,F2,_,e1,hP⟩:=S;obtain ⟨n2,rfl⟩: ∃ n2,n1=n2+1:=⟨n1-1,by omega⟩;refine ⟨(part,Bw),?_,hP⟩
  show parts n g inn=some (part,Bw)
  unfold parts kQ;rw [zAM ⟨rfl,by omega,by omega⟩];refine Eq.trans e1 ?_
  show S9 n2 (QA g inn n2) g inn (g.length:Int) part Bw=_
  unfold S9;rw [zAP (by omega),zAR,zAM hP.len.symm]
 ·obtain ⟨part,Bw⟩:=s;have hP:Pt g inn i part Bw:=hP;have r1:AJ ((i:Int)+1):=Av.2 ⟨by omega,by omega⟩
  show ∃ s',S9 n (QA g inn n) g inn (i:Int) part Bw=_/\ _
  unfold S9;simp only [zAT,zA8];rw [zAU (by omega),zAV,zAM ⟨by omega,by omega⟩];cases Ce:inn.getD i false
  ·rw [zC0,zAV,zAM r1];have m1:=hP.m1;refine ⟨(part,Bw),rfl,hP.len,hP.m0,by show Bw<=((i+1:Nat):Int);omega,hP.lo,hP.isIn,hP.same,hP.con,fun v hv HI C5=>?_,hP.sur⟩;rcases zAl.1 hv with hv | rfl
   ·exact hP.all v hv HI C5
   ·rw [Ce] at C5;cases C5
  ·have Ak:=hP.len;rw [zCs,zAR,zAM ⟨⟨by omega,by omega⟩,by omega⟩]
   by_cases h0:part.getD i 0>0
   ·rw [zAU h0,zAV,zAM r1];have m1:=hP.m1;refine ⟨(part,Bw),rfl,hP.len,hP.m0,by show Bw<=((i+1:Nat):Int);omega,hP.lo,hP.isIn,hP.same,hP.con,fun v hv HI C5=>?_,hP.sur⟩;rcases zAl.1 hv with hv | rfl
    ·exact hP.all v hv HI C5
    ·exact h0
   ·obtain ⟨l,e2,Ar,hl⟩:=hN n (by omega) i hi;obtain ⟨Ho,e3,h3,h4⟩:=kT (n:=n) (inn:=inn) (x13:=(i:Int)) (m:=Bw) l part hP.len fun v hv=>((hl v).1 hv).rng G (by omega) (by omega)
    have m0:=hP.m0;have m1:=hP.m1;rw [zAP h0,zAR,zAM (Av.2 ⟨by omega,by omega⟩),e2,zAS,e3,zAS]
    dsimp only
    rw [zAM r1];exact ⟨(Ho,Bw+1),rfl,hP.go G hi Ce h0 hl h3 h4⟩
 ·have z: ∀ v:Nat,(List.replicate g.length (0:Int)).getD v 0=0:=fun v=>by
   rw [u8,zCx];split <;> rfl
  exact ⟨by simp,zCn _,zCn _,fun v _=>by rw [z];exact ⟨zCn _,zCn _⟩,fun v _ h=>by rw [z] at h;omega,fun u v _ _ h=>by rw [z] at h;omega,fun u v _ _ h=>by rw [z] at h;omega,fun v hv=>absurd hv (zAv v),fun m h1 h2=>by have h2:m<=0:=h2;omega⟩
theorem w7 (G:Gr g)(hI:inn.length=g.length):Af (fun n=>parts n g inn) (PtP g inn):=(aY G hI).mono fun r hP=>⟨hP.len,fun v hv hi=>hP.all v hv hv hi,fun u v hu hv hi=>by
 have Bo:=hP.all u hu hu hi;exact ⟨hP.con u v hu hv Bo,hP.same u v hu hv Bo⟩⟩
def Sp (g:List (List Int))(inn some':List Bool)(a:Int):Prop:=∃ u v:Int,u≠a/\ v≠a/\ some'.getD u.toNat false=true/\ some'.getD v.toNat false=true/\ Rc g inn a u/\ Rc g inn a v/\ ¬ Rc g (inn.set a.toNat false) u v
theorem ig {n:Nat}{a f:Int}{y3:List Int×Int}(hS:some'.length=g.length)(hy:y3.1.length=g.length)(hf:f≠0): ∀ (l:List Int),(∀ v∈l,0<=v/\ v<(g.length:Int)) ->
 ∃ b f' c,DP (IA n some' a y3) l (.s0 false f)=some (.s0 b f',c)/\ (c=0∨c=1)/\ (b=true↔∃ v∈l,v≠a/\ some'.getD v.toNat false=true/\ y3.1.getD v.toNat 0≠f)
 | [],_=>⟨false,f,0,rfl,.inl rfl,by simp⟩
 | x::l,hl=>by
  have hx:=hl x zCX;obtain ⟨b,f',c,h1,h2,h3⟩:=ig (n:=n) (a:=a) hS hy hf l fun v hv=>hl v (zCB _ hv)
  have skip:IA n some' a y3 x (.s0 false f)=some (.s0 false f,0) -> ¬ (x≠a/\ some'.getD x.toNat false=true/\ y3.1.getD x.toNat 0≠f) -> ∃ b f' c,DP (IA n some' a y3) (x::l) (.s0 false f)=some (.s0 b f',c)/\ (c=0∨c=1)/\ (b=true↔∃ v∈x::l,v≠a/\ some'.getD v.toNat false=true/\ y3.1.getD v.toNat 0≠f):=by
   intro e hn;refine ⟨b,f',c,?_,h2,?_⟩
   ·unfold DP;rw [e,zAS];exact h1
   ·rw [h3];constructor
    ·rintro ⟨v,hv,h⟩;exact ⟨v,zCB _ hv,h⟩
    ·rintro ⟨v,hv,h⟩;rcases zCD.1 hv with rfl | hv
     ·exact absurd h hn
     ·exact ⟨v,hv,h⟩
  have f0:(f==0)=false:=zCK.2 hf;have U:IA n some' a y3 x (.s0 false f)=Rt n some' a y3 x false f:=rfl;unfold Rt at U
  by_cases e1:x=a
  ·have:(x==a)=true:=zBA.2 e1;rw [this,zAV] at U;exact skip U fun h=>h.1 e1
  ·have:(x==a)=false:=zCK.2 e1;rw [this,zAR,zAM ⟨by omega,by omega⟩] at U;cases e2:some'.getD x.toNat false
   ·rw [e2,zC0,zAV] at U;exact skip U fun h=>by rw [e2] at h;cases h.2.1
   ·rw [e2,zCs,zAR,f0,zAR,zAM ⟨by omega,by omega⟩] at U
    by_cases e3:y3.1.getD x.toNat 0=f
    ·have e4:(y3.1.getD x.toNat 0 != f)=false:=by rw [e3];simp
     rw [e4,zAR] at U;exact skip U fun h=>h.2.2 e3
    ·have e4:(y3.1.getD x.toNat 0 != f)=true:=by simpa using e3
     rw [e4,zAV] at U;refine ⟨true,f,1,?_,.inr rfl,?_⟩
     ·unfold DP;rw [U,zAS];rfl
     ·exact ⟨fun _=>⟨x,zCX,e1,e2,e3⟩,fun _=>rfl⟩
theorem ii {n:Nat}{a:Int}{y3:List Int×Int}(hS:some'.length=g.length)(hy:y3.1.length=g.length): ∀ (l:List Int),(∀ v∈l,0<=v/\ v<(g.length:Int)) -> (∀ v∈l,v≠a -> y3.1.getD v.toNat 0≠0) ->
 ∃ b f' c,DP (IA n some' a y3) l (.s0 false 0)=some (.s0 b f',c)/\ (c=0∨c=1)/\ (b=true↔∃ u∈l,∃ v∈l,u≠a/\ v≠a/\ some'.getD u.toNat false=true/\ some'.getD v.toNat false=true/\ y3.1.getD v.toNat 0≠y3.1.getD u.toNat 0)
 | [],_,_=>⟨false,0,0,rfl,.inl rfl,by simp⟩
 | x::l,hl,hz=>by
  have hx:=hl x zCX;have Eg: ∀ v∈l,0<=v/\ v<(g.length:Int):=fun v hv=>hl v (zCB _ hv)
  have skip:IA n some' a y3 x (.s0 false 0)=some (.s0 false 0,0) -> ¬ (x≠a/\ some'.getD x.toNat false=true) -> ∃ b f' c,DP (IA n some' a y3) (x::l) (.s0 false 0)=some (.s0 b f',c)/\ (c=0∨c=1)/\ (b=true↔∃ u∈x::l,∃ v∈x::l,u≠a/\ v≠a/\ some'.getD u.toNat false=true/\ some'.getD v.toNat false=true/\ y3.1.getD v.toNat 0≠y3.1.getD u.toNat 0):=by
   intro e hn;obtain ⟨b,f',c,h1,h2,h3⟩:=ii (n:=n) (a:=a) hS hy l Eg fun v hv=>hz v (zCB _ hv)
   refine ⟨b,f',c,?_,h2,?_⟩
   ·unfold DP;rw [e,zAS];exact h1
   ·rw [h3];constructor
    ·rintro ⟨u,hu,v,hv,h⟩;exact ⟨u,zCB _ hu,v,zCB _ hv,h⟩
    ·rintro ⟨u,hu,v,hv,h4,h5,h6,h7,h8⟩;rcases zCD.1 hu with rfl | hu
     ·exact absurd ⟨h4,h6⟩ hn
     ·rcases zCD.1 hv with rfl | hv
      ·exact absurd ⟨h5,h7⟩ hn
      ·exact ⟨u,hu,v,hv,h4,h5,h6,h7,h8⟩
  have U:IA n some' a y3 x (.s0 false 0)=Rt n some' a y3 x false 0:=rfl;unfold Rt at U
  by_cases e1:x=a
  ·have:(x==a)=true:=zBA.2 e1;rw [this,zAV] at U;exact skip U fun h=>h.1 e1
  ·have:(x==a)=false:=zCK.2 e1;rw [this,zAR,zAM ⟨by omega,by omega⟩] at U;cases e2:some'.getD x.toNat false
   ·rw [e2,zC0,zAV] at U;exact skip U fun h=>by rw [e2] at h;cases h.2
   ·have z0:((0:Int)==0)=true:=rfl;rw [e2,zCs,zAR,z0,zAV,zAM ⟨by omega,by omega⟩] at U;obtain ⟨b,f',c,h1,h2,h3⟩:=ig (n:=n) (a:=a) hS hy (hz x zCX e1) l Eg;refine ⟨b,f',c,?_,h2,?_⟩
    ·unfold DP;rw [U,zAS];exact h1
    ·rw [h3];constructor
     ·rintro ⟨v,hv,h4,h5,h6⟩;exact ⟨x,zCX,v,zCB _ hv,e1,h4,e2,h5,h6⟩
     ·rintro ⟨u,hu,v,hv,h4,h5,h6,h7,h8⟩
      by_cases e3:y3.1.getD u.toNat 0=y3.1.getD x.toNat 0
      ·rcases zCD.1 hv with rfl | hv
       ·exact absurd e3.symm h8
       ·exact ⟨v,hv,h5,h7,fun e=>h8 (e.trans e3.symm)⟩
      ·rcases zCD.1 hu with rfl | hu
       ·exact absurd rfl e3
       ·exact ⟨u,hu,h4,h6,e3⟩
theorem sI (G:Ih g)(hI:inn.length=g.length)(hS:some'.length=g.length){a:Nat}(ha:a<g.length)(nN:inn.getD a false=true):
 Af (fun n=>Ng n g inn some' (a:Int)) (fun r=>r.2=0/\ (r.1=true↔Sp g inn some' (a:Int))):=by
 have hG:=G.gr.len;have L:(1000000000000:Nat)=BA:=rfl
 have hw: ∀ n,Rf n (a:Int) inn=some (inn.set a false):=fun n=>by
  unfold Rf ZE PF eH;rw [zAM ⟨by omega,trivial,⟨rfl,rfl⟩,by rw [←L];simp only [zC5];omega⟩,zAM (by simp),zAS,zDE,zAM ⟨⟨by omega,by omega⟩,by omega⟩,zAM (by simp),zA8,zAT]
 have hI':(inn.set a false).length=g.length:=by rw [zBB];exact hI
 have e: ∀ n,Ng n g inn some' (a:Int)=(KJ n g [inn,some']).bind fun y1=>bif (y1 != 0) then some (false,y1) else (parts n g (inn.set a false)).bind fun y3=>(Gf n g a inn).bind fun y4=>(DP (IA n some' a y3) y4 (.s0 false 0)).bind fun y5=>bif y5.2==0 then (match y5.1 with | .s0 b _=>some (b,0)) else bif y5.2==1 then (match y5.1 with | .s0 b _=>some (b,0)) else none:=fun n=>by
  unfold Ng iY
  congr 1
  funext y1
  rw [zAP (by omega),zAR,zAP (by omega),zAR,zAM ⟨by omega,by omega⟩,zAT,nN,zCs,zAR,hw,zAS]
 refine Af.eq ?_ e
 refine Af.bind (Xx G (fun x hx=>by
  rcases zCD.1 hx with rfl | hx
  ·exact hI
  ·rw [zA1.1 hx];exact hS) (by simp)) ?_
 show Af (R:=Bool×Int) (fun n=>(parts n g (inn.set a false)).bind fun y3=>(Gf n g a inn).bind fun y4=>(DP (IA n some' a y3) y4 (.s0 false 0)).bind fun y5=>bif y5.2==0 then (match y5.1 with | .s0 b _=>some (b,0)) else bif y5.2==1 then (match y5.1 with | .s0 b _=>some (b,0)) else none) _
 obtain ⟨N,hN⟩:=aF G.gr hI (s:=(a:Int)) (by omega) (by omega);refine Af.bindU (w7 G.gr hI') ⟨N,fun n hn y3 hy=>?_⟩;obtain ⟨l,hl,Ar,Qf⟩:=hN n hn;have hl:Gf n g (a:Int) inn=some l:=hl;have hr: ∀ v∈l,0<=v/\ v<(g.length:Int):=fun v hv=>((Qf v).1 hv).rng G.gr (by omega) (by omega)
 have Ce: ∀ v∈l,v≠(a:Int) -> (inn.set a false).getD v.toNat false=true:=fun v hv Ad=>by
  have h1:=hr v hv;rw [u8,zC2 (by omega),←u8];exact ((Qf v).1 hv).isIn (by rw [zAT];exact nN)
 obtain ⟨b,f',c,h1,h2,h3⟩:=ii (n:=n) (some':=some') (a:=(a:Int)) (y3:=y3) hS hy.1 l hr fun v hv Ad=>by
  have h1:=hr v hv;have:=hy.2.1 v.toNat (by omega) (Ce v hv Ad);omega
 rw [hl,zAS,h1,zAS];refine ⟨(b,0),?_,rfl,?_⟩
 ·rcases h2 with rfl | rfl <;> rfl
 ·show b=true↔_
  rw [h3]
  have key: ∀ u v:Int,u∈l -> v∈l -> u≠a -> (y3.1.getD v.toNat 0=y3.1.getD u.toNat 0↔Rc g (inn.set a false) u v):=fun u v hu hv Ad=>by
   have h1:=hr u hu;have h2:=hr v hv;have:=hy.2.2 u.toNat v.toNat (by omega) (by omega) (Ce u hu Ad)
   rwa [Int.toNat_of_nonneg h1.1,Int.toNat_of_nonneg h2.1] at this
  constructor
  ·rintro ⟨u,hu,v,hv,h4,h5,h6,h7,h8⟩;exact ⟨u,v,h4,h5,h6,h7,(Qf u).1 hu,(Qf v).1 hv,fun h=>h8 ((key u v hu hv h4).2 h)⟩
  ·rintro ⟨u,v,h4,h5,h6,h7,h8,h9,O3⟩;have hu:=(Qf u).2 h8;have hv:=(Qf v).2 h9;exact ⟨u,hu,v,hv,h4,h5,h6,h7,fun h=>O3 ((key u v hu hv h4).1 h)⟩
end
abbrev zHR:=@List.countP_append
abbrev zHj:=@List.countP_singleton
def D7 (c:AB)(pos:List Int)(a:Nat):Bool:=bits .andNot .i64 (Ab c pos a) c.set==0
def Ef (c:AB)(pos:List Int)(a:Nat):Bool:=D7 c pos a||(bits .and .i64 (Ab c pos a) c.set != 0)
def cnt (p:Nat -> Bool)(i:Nat):Int:=(((List.range i).countP p:Nat):Int)
theorem Lc {p:Nat -> Bool}{i:Nat}:cnt p (i+1)=cnt p i+(if p i then 1 else 0):=by
 unfold cnt;rw [List.range_succ,zHR,zHj];split <;> simp
theorem eE {p:Nat -> Bool}{i:Nat}:0<=cnt p i/\ cnt p i<=i:=by
 unfold cnt;have:=zGz (p:=p) (l:=List.range i);rw [zG0] at this;omega
def La (c:AB)(pos:List Int):Bool:=!decide (cnt (D7 c pos) c.cells.length>c.hi)&&!decide (cnt (Ef c pos) c.cells.length<c.lo)
def Ib (c:AB)(pos:List Int)(a s:Nat):Bool:= ((cnt (D7 c pos) c.cells.length==c.hi)&&(bits .andNot .i64 (Ab c pos a) c.set != 0)&&tb c.set s)||((cnt (Ef c pos) c.cells.length==c.lo)&&(bits .and .i64 (Ab c pos a) c.set != 0)&&!tb c.set s)
section
variable {c:AB} {k:Nat} {pos lost:List Int} {q:AA}
theorem zEa {n:Nat}{x3 x4:Int}(W:B2 c k pos)(hl:lost.length=pos.length)(h3:x3=cnt (D7 c pos) c.cells.length)(h4:x4=cnt (Ef c pos) c.cells.length)(hn:c.cells.length+1<=n):
 ∃ l,JJ c q pos pos.length lost n (.l2 x3 x4 0 lost)=some (true,l)/\ CF c pos lost c.cells.length (fun a s=>Ib c pos a s=true) l:=by
 have lt: ∀ i,i<c.cells.length -> ((i:Nat):Int)<((c.cells.length:Nat):Int):=fun i hi=>by omega
 have T:=Hr (fun n (s:List Int) i=>JJ c q pos pos.length lost n (.l2 x3 x4 i s)) c.cells.length 1
  (fun i s=>CF c pos lost i (fun a s=>Ib c pos a s=true) s) (fun n i s HM hi hI=>?_) (n:=n) (s:=lost) (by omega) (CF.zero hl)
 ·obtain ⟨n3,l,Ml,_,e2,hL⟩:=T;obtain ⟨n4,rfl⟩: ∃ n4,n3=n4+1:=⟨n3-1,by omega⟩;refine ⟨l,e2.trans ?_,hL⟩
  show Ul n4 (JJ c q pos pos.length lost n4) c q pos pos.length lost x3 x4 (c.cells.length:Int) l=_
  unfold Ul;rw [zAP (by omega),zAR]
 ·have hc:=W.cells i hi;have hr:=W.r64 hi
  have key: ∀ l':List Int,l'.length=pos.length -> (∀ j x,tb (l'.getD j 0) x=(tb (s.getD j 0) x||(decide (j=(c.cells.getD i 0).toNat)&&(tb (pos.getD j 0) x&&Ib c pos i x)))) -> CF c pos lost (i+1) (fun a s=>Ib c pos a s=true) l':=by
   intro l' h1 h2;refine hI.step h1 fun j x=>?_
   rw [h2,zA9,zAW,zAW,zAi];constructor
   ·rintro (h | ⟨rfl,h⟩)
    ·exact .inl h
    ·exact .inr ⟨rfl,h⟩
   ·rintro (h | ⟨rfl,h⟩)
    ·exact .inl h
    ·exact .inr ⟨rfl,h⟩
  obtain ⟨l1,e1,n1,f1⟩:=K6 (lost:=s) (n:=n) (ss:=c.set) (c:=c) (q:=q) hc.1 hc.2 hI.1;obtain ⟨l2,e2,n2,f2⟩:=ak (lost:=l1) (n:=n) (c:=c) (q:=q) hc.1 hc.2 n1;obtain ⟨l3,e3,n3,f3⟩:=ak (lost:=s) (n:=n) (c:=c) (q:=q) hc.1 hc.2 hI.1;have d0:decide ((i:Int)<((c.cells.length:Nat):Int))=true:=zAU (lt i hi);have g0:(0:Int)<=(i:Int)/\ (i:Int)<((c.cells.length:Nat):Int):=⟨by omega,lt i hi⟩
  show ∃ s',Ul n (JJ c q pos pos.length lost n) c q pos pos.length lost x3 x4 (i:Int) s=_/\ _
  unfold Ul;rw [d0,zAV,zAM g0];simp only [zAT];have X: ∀ x,Ib c pos i x=(((x3==c.hi)&&(bits .andNot .i64 (pos.getD (c.cells.getD i 0).toNat 0) c.set != 0)&&tb c.set x)||((x4==c.lo)&&(bits .and .i64 (pos.getD (c.cells.getD i 0).toNat 0) c.set != 0)&&!tb c.set x)):=fun x=>by rw [h3,h4];rfl
  cases hA:(x3==c.hi) <;> cases hC:(x4==c.lo) <;> cases hB:(bits .andNot .i64 (pos.getD (c.cells.getD i 0).toNat 0) c.set != 0) <;> cases hE:(bits .and .i64 (pos.getD (c.cells.getD i 0).toNat 0) c.set != 0) <;>
   simp only [hA,hB,hC,hE,zCZ,zGF,zG5,Bool.and_true,zGE,zGD] at X <;>
   simp only [zAV,zAR,zAM hc,e1,e2,e3,zAS,zAM hr.2]
  all_goals first
   | exact ⟨s,rfl,key s hI.1 fun j x=>by rw [X,zG5,zG5,zGE]⟩
   | exact ⟨l1,rfl,key l1 n1 fun j x=>by rw [f1,X]⟩
   | exact ⟨l3,rfl,key l3 n3 fun j x=>by rw [f3,X]⟩
   | exact ⟨l2,rfl,key l2 n2 fun j x=>by
    rw [f2,f1,X];cases tb (s.getD j 0) x <;> cases decide (j=(c.cells.getD i 0).toNat) <;> cases tb (pos.getD j 0) x <;> cases tb c.set x <;> rfl⟩
theorem zEb {n:Nat}(W:B2 c k pos)(hl:lost.length=pos.length)(hn:2*c.cells.length+3<=n):
 ∃ l,RA n c q pos pos.length lost=some (La c pos,l)/\ (La c pos=true -> CF c pos lost c.cells.length (fun a s=>Ib c pos a s=true) l):=by
 have lt: ∀ i,i<c.cells.length -> ((i:Nat):Int)<((c.cells.length:Nat):Int):=fun i hi=>by omega
 have S:=Hr (fun n (s:Int×Int) i=>JJ c q pos pos.length lost n (.l1 s.1 s.2 i)) c.cells.length (c.cells.length+3)
  (fun i s=>s.1=cnt (D7 c pos) i/\ s.2=cnt (Ef c pos) i) (fun n i s _ hi hI=>?_) (n:=n) (s:=(0,0)) (by omega) ⟨rfl,rfl⟩
 ·obtain ⟨n1,⟨x3,x4⟩,F2,_,e1,h3,h4⟩:=S;obtain ⟨n2,rfl⟩: ∃ n2,n1=n2+1:=⟨n1-1,by omega⟩;have e2:RA n c q pos pos.length lost=Um n2 (JJ c q pos pos.length lost n2) c q pos pos.length lost x3 x4 (c.cells.length:Int):=e1;have h3:x3=cnt (D7 c pos) c.cells.length:=h3;have h4:x4=cnt (Ef c pos) c.cells.length:=h4;unfold Um at e2;rw [zAP (by omega),zAR] at e2;unfold La;rw [←h3,←h4];cases h5:decide (x3>c.hi)
  ·cases h6:decide (x4<c.lo)
   ·obtain ⟨l,e3,hL⟩:=zEa (q:=q) (n:=n2) W hl h3 h4 (by omega);rw [h5,h6,zAR,zAR,e3] at e2;exact ⟨l,e2,fun _=>hL⟩
   ·rw [h5,h6,zAR,zAV] at e2;exact ⟨lost,e2,fun h=>by cases h⟩
  ·rw [h5,zAV] at e2;exact ⟨lost,e2,fun h=>by cases h⟩
 ·obtain ⟨x3,x4⟩:=s;obtain ⟨h3,h4⟩:=hI;simp only at h3 h4;have hc:=W.cells i hi;have hr:=W.r64 hi;have b3:=eE (p:=D7 c pos) (i:=i);have b4:=eE (p:=Ef c pos) (i:=i);have Ak:=W.len;have r3:AJ (x3+1):=Av.2 ⟨by omega,by omega⟩;have r4:AJ (x4+1):=Av.2 ⟨by omega,by omega⟩
  show ∃ s',Um n (JJ c q pos pos.length lost n) c q pos pos.length lost x3 x4 (i:Int)=_/\ _
  unfold Um;rw [zAU (lt i hi),zAV];simp only [zAT];rw [zAM ⟨⟨by omega,lt i hi⟩,hc⟩];have m1:(bits .andNot .i64 (pos.getD (c.cells.getD i 0).toNat 0) c.set==0)=D7 c pos i:=rfl;have m2:(D7 c pos i||(bits .and .i64 (pos.getD (c.cells.getD i 0).toNat 0) c.set != 0))=Ef c pos i:=rfl;rw [m1];cases hm:D7 c pos i
  ·rw [hm,zGD] at m2;rw [zAR,m2];cases hy:Ef c pos i
   ·rw [zAR,zAM hr.2];exact ⟨(x3,x4),rfl,by rw [Lc,hm];simpa using h3,by rw [Lc,hy];simpa using h4⟩
   ·rw [zAV,zAM ⟨r4,hr.2⟩];exact ⟨(x3,x4+1),rfl,by rw [Lc,hm];simpa using h3,by rw [Lc,hy];simpa using h4⟩
  ·have hy:Ef c pos i=true:=by rw [←m2,hm];rfl
   rw [zAV,zAM ⟨r3,r4,hr.2⟩];exact ⟨(x3+1,x4+1),rfl,by rw [Lc,hm];simpa using h3,by rw [Lc,hy];simpa using h4⟩
end
abbrev zCd:=@Nat.lt_of_not_le
theorem ZS (x:Int)(i:Nat):tb (IntKind.i64.wrap x) i=tb x i:=by unfold tb;rw [TG]
theorem Hh {s:Nat}(hs:s<64)(i:Nat):tb (IntKind.i64.wrap (1*2 ^ s)) i=decide (s=i):=by
 rw [ZS,Int.one_mul];rcases zCV i 64 with h | h
 ·have e:((2 ^ s:Nat):Int)=(2:Int) ^ s:=by simp
  rw [←e];exact rU h
 ·rw [JY h,zAP (by omega)]
theorem FA {k:Nat}{x:Int}(h:Sm k x)(hk:k<=62){e:Int}:e∈Bc x↔∃ s:Nat,e=(s:Int)/\ s<k/\ tb x s=true:=by
 obtain ⟨m,rfl⟩:=zGa h.1;unfold Bc Er;simp only [zDA,zGj,zAn,zAT];constructor
 ·rintro ⟨s,⟨h1,h2⟩,rfl⟩;have h3:tb (m:Int) s=true:=by rw [Ik m s h1];exact h2
  refine ⟨s,rfl,?_,h3⟩;refine zCd fun CH=>?_
  rw [h.hi CH] at h3;cases h3
 ·rintro ⟨s,rfl,h1,h2⟩;exact ⟨s,⟨by omega,by rw [Ik m s (by omega)] at h2;exact h2⟩,rfl⟩
theorem X7 {α σ:Type}{f:α -> σ -> Option σ}(Inv:List α -> σ -> Prop): ∀ (l pre:List α) (s:σ),Inv pre s -> (∀ pre x s,x∈l -> Inv pre s -> ∃ s',f x s=some s'/\ Inv (pre++[x]) s') -> ∃ s',Bq f l s=some s'/\ Inv (pre++l) s'
 | [],pre,s,h,_=>⟨s,rfl,by rw [zGb];exact h⟩
 | x::l,pre,s,h,hs=>by
  obtain ⟨s',h1,h2⟩:=hs pre x s (.head _) h;obtain ⟨s2,h3,h4⟩:=X7 Inv l (pre++[x]) s' h2 fun pre y s hy=>hs pre y s (.tail _ hy)
  refine ⟨s2,?_,by rw [zGo] at h4;exact h4⟩;simp only [Bq];rw [h1,zAS,h3]
structure EA (q:AA)(k:Nat):Prop where
 len:k<=q.values.length
 val: ∀ s,s<k -> 0<=q.values.getD s 0/\ q.values.getD s 0<=99
def Ju (q:AA)(a e:Int):Int:=if q.values.getD e.toNat 0<a then q.values.getD e.toNat 0 else a
def KA (q:AA)(a e:Int):Int:=if q.values.getD e.toNat 0>a then q.values.getD e.toNat 0 else a
def EU (q:AA)(x:Int):Int:=(Bc x).foldl (Ju q) 100
def EX (q:AA)(x:Int):Int:=(Bc x).foldl (KA q) (-1)
section
variable {c:AB} {k:Nat} {pos lost:List Int} {q:AA}
theorem lf: ∀ (l:List Int) (a:Int),(∀ e∈l,0<=q.values.getD e.toNat 0/\ q.values.getD e.toNat 0<=99) -> 0<=a/\ a<=100 -> 0<=l.foldl (Ju q) a/\ l.foldl (Ju q) a<=100
 | [],_,_,h=>h
 | e::l,a,hv,h=>by
  have:=hv e (.head _);refine lf l (Ju q a e) (fun e he=>hv e (.tail _ he)) ?_;unfold Ju;split <;> omega
theorem nP: ∀ (l:List Int) (a:Int),(∀ e∈l,0<=q.values.getD e.toNat 0/\ q.values.getD e.toNat 0<=99) -> -1<=a/\ a<=99 -> -1<=l.foldl (KA q) a/\ l.foldl (KA q) a<=99
 | [],_,_,h=>h
 | e::l,a,hv,h=>by
  have:=hv e (.head _);refine nP l (KA q a e) (fun e he=>hv e (.tail _ he)) ?_;unfold KA;split <;> omega
theorem EA.sym (V:EA q k)(hk:k<=16){x:Int}(h:Sm k x): ∀ e∈Bc x,(0<=e/\ e<((q.values.length:Nat):Int))/\ 0<=q.values.getD e.toNat 0/\ q.values.getD e.toNat 0<=99:=by
 intro e he;obtain ⟨s,rfl,h1,_⟩:=(FA h (zA0 hk (by decide))).1 he;have:=V.len;rw [zAT];exact ⟨by omega,V.val s h1⟩
theorem EA.lo (V:EA q k)(hk:k<=16){x:Int}(h:Sm k x):0<=EU q x/\ EU q x<=100:=lf _ _ (fun e he=>(V.sym hk h e he).2) (by decide)
theorem EA.hi (V:EA q k)(hk:k<=16){x:Int}(h:Sm k x): -1<=EX q x/\ EX q x<=99:=nP _ _ (fun e he=>(V.sym hk h e he).2) (by decide)
theorem oz {n ln:Nat}: ∀ (l:List Int) (a b:Int),(∀ e∈l,0<=e/\ e<((q.values.length:Nat):Int)) -> Bq (UZ n c q pos ln lost) l (.s0 a b)=some (.s0 (l.foldl (Ju q) a) (l.foldl (KA q) b))
 | [],_,_,_=>rfl
 | e::l,a,b,h=>by
  have e1:UZ n c q pos ln lost e (.s0 a b)=some (.s0 (Ju q a e) (KA q b e)):=by
   unfold UZ pA pC
   dsimp only
   rw [zAM (h e (.head _))];rfl
  simp only [Bq];rw [e1,zAS,oz l _ _ fun e he=>h e (.tail _ he)];rfl
theorem ow {n ln:Nat}(V:EA q k)(hk:k<=16){x:Int}(h:Sm k x):Ua n x c q pos ln lost=some (EU q x,EX q x,lost):=by
 have dL:=MK (k:=k) (zA0 hk (by decide));have h2:=h.2;unfold Ua o9;rw [zAM ⟨h.1,by omega⟩,oz (Bc x) 100 (-1) fun e he=>(V.sym hk h e he).1];rfl
def CY (f:Nat -> Int):Nat -> Int
 | 0=>0
 | i+1=>CY f i+f i
theorem Pg {f:Nat -> Int}: ∀ (i:Nat),(∀ a,a<i -> -1<=f a/\ f a<=100) -> -(i:Int)<=CY f i/\ CY f i<=100*(i:Int)
 | 0,_=>by simp [CY]
 | i+1,h=>by
  have h1:=Pg i fun a ha=>h a (by omega)
  have h2:=h i (by omega);simp only [CY];omega
def Jt (q:AA)(c:AB)(pos:List Int):Int:=CY (fun a=>EU q (Ab c pos a)) c.cells.length
def J9 (q:AA)(c:AB)(pos:List Int):Int:=CY (fun a=>EX q (Ab c pos a)) c.cells.length
def Km (q:AA)(c:AB)(pos:List Int):Bool:=!decide (Jt q c pos>c.hi)&&!decide (J9 q c pos<c.lo)
def H9 (q:AA)(c:AB)(pos:List Int)(a s:Nat):Bool:= decide (Jt q c pos-EU q (Ab c pos a)+q.values.getD s 0>c.hi)||decide (J9 q c pos-EX q (Ab c pos a)+q.values.getD s 0<c.lo)
theorem lY {T:Type}{n:Nat}(W:B2 c k pos){i:Nat}(hi:i<c.cells.length)(hl:lost.length=pos.length)(mk:List Int -> T)(f:Int -> T -> Option T)(X:Nat -> Bool) 
 (hf: ∀ (s:Nat) (l:List Int),s<k -> l.length=pos.length -> f (s:Int) (mk l)=bif X s then (Dg n (c.cells.getD i 0) (IntKind.i64.wrap (1*2 ^ s)) c q pos pos.length l).map mk else some (mk l)):
 ∃ l',Bq f (Bc (Ab c pos i)) (mk lost)=some (mk l')/\ l'.length=pos.length/\
  ∀ j s,tb (l'.getD j 0) s=true↔tb (lost.getD j 0) s=true∨((c.cells.getD i 0).toNat=j/\ tb (Ab c pos i) s=true/\ X s=true):=by
 have hc:=W.cells i hi;have Bz:=W.at hi;have hk:=W.k
 have key:=X7 (f:=f)
  (fun pre s=>∃ l',s=mk l'/\ l'.length=pos.length/\ ∀ j s,tb (l'.getD j 0) s=true↔tb (lost.getD j 0) s=true∨((c.cells.getD i 0).toNat=j/\ tb (Ab c pos i) s=true/\ (s:Int)∈pre/\ X s=true))
  (Bc (Ab c pos i)) [] (mk lost) ⟨lost,rfl,hl,fun j s=>⟨.inl,fun h=>h.elim id fun h=>(by cases h.2.2.1)⟩⟩ ?_
 ·obtain ⟨_,h1,l',rfl,h2,h3⟩:=key;refine ⟨l',h1,h2,fun j s=>?_⟩;rw [h3,zDE];constructor
  ·rintro (h | ⟨a1,a2,_,a3⟩)
   ·exact .inl h
   ·exact .inr ⟨a1,a2,a3⟩
  ·rintro (h | ⟨a1,a2,a3⟩)
   ·exact .inl h
   ·refine .inr ⟨a1,a2,(FA Bz (zA0 hk (by decide))).2 ⟨s,rfl,zCd fun CH=>?_,a2⟩,a3⟩;rw [Bz.hi CH] at a2;cases a2
 ·rintro pre e _ he ⟨l',rfl,h2,h3⟩;obtain ⟨s,rfl,hs,hbit⟩:=(FA Bz (zA0 hk (by decide))).1 he;rw [hf s l' hs h2];cases hx:X s
  ·rw [zAR];refine ⟨_,rfl,l',rfl,h2,fun j x=>?_⟩;rw [h3];constructor
   ·rintro (h | ⟨a1,a2,a3,a4⟩)
    ·exact .inl h
    ·exact .inr ⟨a1,a2,zCW _ a3,a4⟩
   ·rintro (h | ⟨a1,a2,a3,a4⟩)
    ·exact .inl h
    ·rcases zC1.1 a3 with a3 | a3
     ·exact .inr ⟨a1,a2,a3,a4⟩
     ·have:x=s:=by have:=zA1.1 a3;omega
      subst this;rw [hx] at a4;cases a4
  ·obtain ⟨l2,e2,n2,f2⟩:=K6 (lost:=l') (n:=n) (ss:=IntKind.i64.wrap (1*2 ^ s)) (c:=c) (q:=q) hc.1 hc.2 h2;rw [zAV,e2,zCO];refine ⟨_,rfl,l2,rfl,n2,fun j x=>?_⟩;rw [f2,zA9,zAW,zAW,zAi,h3,Hh (by omega),zAi];constructor
   ·rintro ((h | ⟨a1,a2,a3,a4⟩) | ⟨rfl,a2,rfl⟩)
    ·exact .inl h
    ·exact .inr ⟨a1,a2,zCW _ a3,a4⟩
    ·exact .inr ⟨rfl,a2,zCy _ (.head _),hx⟩
   ·rintro (h | ⟨a1,a2,a3,a4⟩)
    ·exact .inl (.inl h)
    ·rcases zC1.1 a3 with a3 | a3
     ·exact .inl (.inr ⟨a1,a2,a3,a4⟩)
     ·have:x=s:=by have:=zA1.1 a3;omega
      subst this;subst a1;exact .inr ⟨rfl,a2,rfl⟩
theorem rq {n:Nat}(W:B2 c k pos)(V:EA q k){i:Nat}(hi:i<c.cells.length){low high:Int}(Xf:low=Jt q c pos)(nQ:high=J9 q c pos)(hl:lost.length=pos.length):
 ∃ l',Bq (Vc n c (i:Int) q pos pos.length low high (EU q (Ab c pos i),EX q (Ab c pos i),lost)) (Bc (Ab c pos i)) (.s0 lost)=some (.s0 l')/\ l'.length=pos.length/\
  ∀ j s,tb (l'.getD j 0) s=true↔tb (lost.getD j 0) s=true∨((c.cells.getD i 0).toNat=j/\ tb (Ab c pos i) s=true/\ H9 q c pos i s=true):=by
 have hc:=W.cells i hi;have Bz:=W.at hi;have hk:=W.k;have Ak:=W.len;have bl:=V.lo hk Bz;have bh:=V.hi hk Bz;have tl:=Pg (f:=fun a=>EU q (Ab c pos a)) c.cells.length fun a ha=>by have:=V.lo hk (W.at ha);omega
 have th:=Pg (f:=fun a=>EX q (Ab c pos a)) c.cells.length fun a ha=>by have:=V.hi hk (W.at ha);omega
 have tl: -(c.cells.length:Int)<=low/\ low<=100*(c.cells.length:Int):=by rw [Xf];exact tl
 have th: -(c.cells.length:Int)<=high/\ high<=100*(c.cells.length:Int):=by rw [nQ];exact th
 refine lY (n:=n) (q:=q) W hi hl Kl.s0 _ (H9 q c pos i) fun s l hs hl=>?_
 have hv:=V.val s hs;have HI:=V.len;have r1:AJ (low-EU q (Ab c pos i)):=Av.2 ⟨by omega,by omega⟩;have r2:AJ (low-EU q (Ab c pos i)+q.values.getD s 0):=Av.2 ⟨by omega,by omega⟩;have r3:AJ (high-EX q (Ab c pos i)):=Av.2 ⟨by omega,by omega⟩;have r4:AJ (high-EX q (Ab c pos i)+q.values.getD s 0):=Av.2 ⟨by omega,by omega⟩;have g1:(0:Int)<=(s:Int)/\ (s:Int)<((q.values.length:Nat):Int):=by omega
 have g2:(0:Int)<=(s:Int)/\ (s:Int)<=((IntKind.i64.bits:Nat):Int):=⟨by omega,by show (s:Int)<=64;omega⟩;obtain ⟨l2,e2,_,_⟩:=K6 (lost:=l) (n:=n) (ss:=IntKind.i64.wrap (1*2 ^ s)) (c:=c) (q:=q) hc.1 hc.2 hl;have X:H9 q c pos i s=(decide (low-EU q (Ab c pos i)+q.values.getD s 0>c.hi)||decide (high-EX q (Ab c pos i)+q.values.getD s 0<c.lo)):=by rw [Xf,nQ];rfl
 rw [X];unfold Vc iO Vb
 dsimp only
 simp only [zAT];rw [zAM ⟨g1,r1,r2⟩];cases hA:decide (low-EU q (Ab c pos i)+q.values.getD s 0>c.hi)
 ·rw [zAR,zAM ⟨r3,r4⟩,zGD];cases hB:decide (high-EX q (Ab c pos i)+q.values.getD s 0<c.lo)
  ·rfl
  ·rw [zAV,zAV,zAM g2,e2];rfl
 ·rw [zAV,Bool.true_or,zAV,zAM g2,e2];rfl
theorem ri {n:Nat}(W:B2 c k pos)(V:EA q k)(hl:lost.length=pos.length)(hn:c.cells.length+1<=n):
 ∃ l,Im c q pos pos.length lost n (.l2 0 lost (Jt q c pos) (J9 q c pos))=some (true,l)/\ CF c pos lost c.cells.length (fun a s=>H9 q c pos a s=true) l:=by
 have lt: ∀ i,i<c.cells.length -> ((i:Nat):Int)<((c.cells.length:Nat):Int):=fun i hi=>by omega
 have T:=Hr (fun n (s:List Int) i=>Im c q pos pos.length lost n (.l2 i s (Jt q c pos) (J9 q c pos))) c.cells.length 1
  (fun i s=>CF c pos lost i (fun a s=>H9 q c pos a s=true) s) (fun n i s HM hi hI=>?_) (n:=n) (s:=lost) (by omega) (CF.zero hl)
 ·obtain ⟨n3,l,Ml,_,e2,hL⟩:=T;obtain ⟨n4,rfl⟩: ∃ n4,n3=n4+1:=⟨n3-1,by omega⟩;refine ⟨l,e2.trans ?_,hL⟩
  show Rn n4 (Im c q pos pos.length lost n4) c q pos pos.length lost (c.cells.length:Int) l _ _=_
  unfold Rn;rw [zAP (by omega),zAR]
 ·have hc:=W.cells i hi;have hr:=W.r64 hi;have Bz:=W.at hi;have dL:=MK (k:=k) (zA0 W.k (by decide));have IV:=Bz.2;obtain ⟨l',e1,n1,f1⟩:=rq (n:=n) W V hi rfl rfl hI.1
  show ∃ s',Rn n (Im c q pos pos.length lost n) c q pos pos.length lost (i:Int) s _ _=_/\ _
  unfold Rn;rw [zAU (lt i hi),zAV];simp only [zAT];have sa:pos.getD (c.cells.getD i 0).toNat 0=Ab c pos i:=rfl;rw [zAM ⟨⟨by omega,lt i hi⟩,hc⟩,sa,ow V W.k Bz,zAS,zAM ⟨Bz.1,by show Ab c pos i<_;omega⟩];refine ⟨l',?_,hI.step n1 f1⟩;refine (congrArg (fun z=>Option.bind z _) e1).trans ?_;rw [zAS];simp only;rw [zAM hr.2]
theorem rj {n:Nat}(W:B2 c k pos)(V:EA q k)(hl:lost.length=pos.length)(hn:2*c.cells.length+3<=n):
 ∃ l,Pj n c q pos pos.length lost=some (Km q c pos,l)/\ (Km q c pos=true -> CF c pos lost c.cells.length (fun a s=>H9 q c pos a s=true) l):=by
 have lt: ∀ i,i<c.cells.length -> ((i:Nat):Int)<((c.cells.length:Nat):Int):=fun i hi=>by omega
 have S:=Hr (fun n (s:List Int×Int×Int) i=>Im c q pos pos.length lost n (.l1 i s.1 s.2.1 s.2.2)) c.cells.length (c.cells.length+3)
  (fun i s=>s.1=lost/\ s.2.1=CY (fun a=>EU q (Ab c pos a)) i/\ s.2.2=CY (fun a=>EX q (Ab c pos a)) i) (fun n i s _ hi hI=>?_) (n:=n) (s:=(lost,0,0)) (by omega) ⟨rfl,rfl,rfl⟩
 ·obtain ⟨n1,⟨l0,x3,x4⟩,F2,_,e1,h0,h3,h4⟩:=S;obtain ⟨n2,rfl⟩: ∃ n2,n1=n2+1:=⟨n1-1,by omega⟩;obtain rfl:l0=lost:=h0;obtain rfl:x3=Jt q c pos:=h3;obtain rfl:x4=J9 q c pos:=h4;have e2:Pj n c q pos pos.length l0=Ro n2 (Im c q pos pos.length l0 n2) c q pos pos.length l0 (c.cells.length:Int) l0 (Jt q c pos) (J9 q c pos):=e1;unfold Ro at e2;rw [zAP (by omega),zAR] at e2;unfold Km;cases h5:decide (Jt q c pos>c.hi)
  ·cases h6:decide (J9 q c pos<c.lo)
   ·obtain ⟨l,e3,hL⟩:=ri (n:=n2) W V hl (by omega);rw [h5,h6,zAR,zAR,e3] at e2;exact ⟨l,e2,fun _=>hL⟩
   ·rw [h5,h6,zAR,zAV] at e2;exact ⟨l0,e2,fun h=>by cases h⟩
  ·rw [h5,zAV] at e2;exact ⟨l0,e2,fun h=>by cases h⟩
 ·obtain ⟨l0,x3,x4⟩:=s;obtain ⟨h0,h3,h4⟩:=hI;simp only at h0 h3 h4;have hc:=W.cells i hi;have hr:=W.r64 hi;have Bz:=W.at hi;have b3:=Pg (f:=fun a=>EU q (Ab c pos a)) i fun a ha=>by have:=V.lo W.k (W.at (Nat.lt_trans ha hi));omega
  have b4:=Pg (f:=fun a=>EX q (Ab c pos a)) i fun a ha=>by have:=V.hi W.k (W.at (Nat.lt_trans ha hi));omega
  have bl:=V.lo W.k Bz;have bh:=V.hi W.k Bz;have Ak:=W.len;rw [←h3] at b3;rw [←h4] at b4;have r3:AJ (x3+EU q (Ab c pos i)):=Av.2 ⟨by omega,by omega⟩;have r4:AJ (x4+EX q (Ab c pos i)):=Av.2 ⟨by omega,by omega⟩
  show ∃ s',Ro n (Im c q pos pos.length lost n) c q pos pos.length lost (i:Int) l0 x3 x4=_/\ _
  unfold Ro;rw [zAU (lt i hi),zAV];simp only [zAT];have sa:pos.getD (c.cells.getD i 0).toNat 0=Ab c pos i:=rfl;rw [zAM ⟨⟨by omega,lt i hi⟩,hc⟩,sa,ow V W.k Bz,zAS,zAM ⟨r3,r4,hr.2⟩];exact ⟨(l0,x3+EU q (Ab c pos i),x4+EX q (Ab c pos i)),rfl,h0,by simp only [CY];rw [h3],by simp only [CY];rw [h4]⟩
end
set_option maxRecDepth 100000
set_option maxHeartbeats 40000000
def g8:ST:=.rd 0 (.rd 1 (.rd 3 (.rd 4 (.ef 2 (.ef 5 (.ef 6 (.ef 7 (.ef 8 (.ef 9 (.fin [0,1,2,3] [1,3,4,5,58,91,92,104,148]) (.no)) (.no)) (.no)) (.ef 7 (.ef 6 (.ef 8 (.ef 9 (.fin [0,1,3,2] [1,3,4,5,58,91,92,104,148]) (.no)) (.no)) (.no)) (.no))) (.ef 6 (.ef 5 (.ef 7 (.ef 8 (.ef 9 (.fin [0,2,1,3] [1,3,4,5,58,91,92,104,148]) (.no)) (.no)) (.no)) (.ef 7 (.ef 5 (.ef 8 (.ef 9 (.fin [0,3,1,2] [1,3,4,5,58,91,92,104,148]) (.no)) (.no)) (.ef 8 (.ef 5 (.ef 9 (.fin [0,3,1,2] [1,3,4,5,58,91,92,104,148]) (.no)) (.no)) (.no))) (.no))) (.ef 7 (.ef 5 (.ef 6 (.ef 8 (.ef 9 (.fin [0,2,3,1] [1,3,4,5,58,91,92,104,148]) (.no)) (.no)) (.no)) (.ef 6 (.ef 5 (.ef 8 (.ef 9 (.fin [0,3,2,1] [1,3,4,5,58,91,92,104,148]) (.no)) (.no)) (.ef 8 (.ef 5 (.ef 9 (.fin [0,3,2,1] [1,3,4,5,58,91,92,104,148]) (.no)) (.no)) (.no))) (.no))) (.no)))) (.ef 5 (.ef 2 (.ef 6 (.ef 7 (.ef 8 (.ef 9 (.fin [1,0,2,3] [1,3,4,5,58,91,92,104,148]) (.no)) (.no)) (.no)) (.ef 7 (.ef 6 (.ef 8 (.ef 9 (.fin [1,0,3,2] [1,3,4,5,58,91,92,104,148]) (.no)) (.no)) (.no)) (.no))) (.ef 6 (.ef 2 (.ef 7 (.ef 8 (.ef 9 (.fin [2,0,1,3] [1,3,4,5,58,91,92,104,148]) (.no)) (.no)) (.no)) (.ef 7 (.ef 2 (.ef 8 (.ef 9 (.fin [3,0,1,2] [1,3,4,5,58,91,92,104,148]) (.no)) (.no)) (.no)) (.no))) (.ef 7 (.ef 2 (.ef 6 (.ef 8 (.ef 9 (.fin [2,0,3,1] [1,3,4,5,58,91,92,104,148]) (.no)) (.no)) (.no)) (.ef 6 (.ef 2 (.ef 8 (.ef 9 (.fin [3,0,2,1] [1,3,4,5,58,91,92,104,148]) (.no)) (.no)) (.no)) (.no))) (.no)))) (.ef 6 (.ef 2 (.ef 5 (.ef 7 (.ef 8 (.ef 9 (.fin [1,2,0,3] [1,3,4,5,58,91,92,104,148]) (.no)) (.no)) (.no)) (.ef 7 (.ef 5 (.ef 8 (.ef 9 (.fin [1,3,0,2] [1,3,4,5,58,91,92,104,148]) (.no)) (.no)) (.ef 8 (.ef 5 (.ef 9 (.fin [1,3,0,2] [1,3,4,5,58,91,92,104,148]) (.no)) (.no)) (.no))) (.no))) (.ef 5 (.ef 2 (.ef 7 (.ef 8 (.ef 9 (.fin [2,1,0,3] [1,3,4,5,58,91,92,104,148]) (.no)) (.no)) (.no)) (.ef 7 (.ef 2 (.ef 8 (.ef 9 (.fin [3,1,0,2] [1,3,4,5,58,91,92,104,148]) (.no)) (.no)) (.no)) (.no))) (.ef 7 (.ef 2 (.ef 5 (.ef 8 (.ef 9 (.fin [2,3,0,1] [1,3,4,5,58,91,92,104,148]) (.no)) (.no)) (.ef 8 (.ef 5 (.ef 9 (.fin [2,3,0,1] [1,3,4,5,58,91,92,104,148]) (.no)) (.no)) (.no))) (.ef 5 (.ef 2 (.ef 8 (.ef 9 (.fin [3,2,0,1] [1,3,4,5,58,91,92,104,148]) (.no)) (.no)) (.no)) (.no))) (.no)))) (.ef 7 (.ef 2 (.ef 5 (.ef 6 (.ef 8 (.ef 9 (.fin [1,2,3,0] [1,3,4,5,58,91,92,104,148]) (.no)) (.no)) (.no)) (.ef 6 (.ef 5 (.ef 8 (.ef 9 (.fin [1,3,2,0] [1,3,4,5,58,91,92,104,148]) (.no)) (.no)) (.ef 8 (.ef 5 (.ef 9 (.fin [1,3,2,0] [1,3,4,5,58,91,92,104,148]) (.no)) (.no)) (.no))) (.no))) (.ef 5 (.ef 2 (.ef 6 (.ef 8 (.ef 9 (.fin [2,1,3,0] [1,3,4,5,58,91,92,104,148]) (.no)) (.no)) (.no)) (.ef 6 (.ef 2 (.ef 8 (.ef 9 (.fin [3,1,2,0] [1,3,4,5,58,91,92,104,148]) (.no)) (.no)) (.no)) (.no))) (.ef 6 (.ef 2 (.ef 5 (.ef 8 (.ef 9 (.fin [2,3,1,0] [1,3,4,5,58,91,92,104,148]) (.no)) (.no)) (.ef 8 (.ef 5 (.ef 9 (.fin [2,3,1,0] [1,3,4,5,58,91,92,104,148]) (.no)) (.no)) (.no))) (.ef 5 (.ef 2 (.ef 8 (.ef 9 (.fin [3,2,1,0] [1,3,4,5,58,91,92,104,148]) (.no)) (.no)) (.no)) (.no))) (.no)))) (.no))))))))
theorem uB:Bv (Aj Tryz.f135 2) [2,5,6,7,8] g8:=by unfold Bv;kernel_rfl
def gy:ST:=.rd 0 (.rd 1 (.rd 2 (.rd 3 (.ef 4 (.rd 5 (.ef 6 (.fin [] [1,4,5,58,91,92,104,148]) (.no))) (.no)))))
theorem t7:Bv (Aj Tryz.f135 3) [4] gy:=by unfold Bv;kernel_rfl
theorem uC:As (Aj Tryz.f135 12) [] (List.range 11) [11]:=by unfold As;kernel_rfl
theorem uA:As (Aj Tryz.f135 22) [] (List.range 9) [9]:=by unfold As;kernel_rfl
theorem t8:As (Aj Tryz.f135 26) [([0,1,2,3,4,5,6],7)] [] []:=by unfold As;kernel_rfl
def gx:ST:=.rd 0 (.rd 1 (.rd 2 (.rd 3 (.ef 4 (.fin [] [2]) (.no)))))
theorem jM:Bv (Aj Tryz.f135 30) [] gx:=by unfold Bv;kernel_rfl
def Eb:Bh:=fun i=>match i with
 | 2=>.tre [2,5,6,7,8] g8
 | 3=>.tre [4] gy
 | 12=>.ord [] (List.range 11) [11]
 | 22=>.ord [] (List.range 9) [9]
 | 26=>.ord [([0,1,2,3,4,5,6],7)] [] []
 | 30=>.tre [] gx
 | _=>.no
def Cx (c:AB)(q:AA)(pos:List Int)(ln:Nat)(lost:List Int):St:=⟨(AG 178 [(1,.ref 2 0),(3,.i (c.cells.length:Int)),(4,.ref 5 0),(5,.ref 6 0)]),([oW c q pos 1 ln,oI lost,oC [.ref 0 0],oI (List.replicate ((((c.cells.length:Int)+1)).toNat) (0:Int)),oI (List.replicate ((((c.cells.length:Int)+1)).toNat) (0:Int)),oC [.msl 3 1 0 ((((c.cells.length:Int)+1)).toNat)],oC [.msl 4 1 0 ((((c.cells.length:Int)+1)).toNat)]]:DH)⟩
def gL (c:AB)(q:AA)(pos:List Int)(ln:Nat)(lost:List Int):St:=⟨(AG 178 [(1,.ref 2 0),(4,.ref 5 0),(5,.ref 6 0)]),([oW c q pos 1 ln,oI lost,oC [.ref 0 0],oI ((List.replicate ((((c.cells.length:Int)+1)).toNat) (0:Int)).set (0+0) (-1)),oI ((List.replicate ((((c.cells.length:Int)+1)).toNat) (0:Int)).set (0+c.cells.length) 100),oC [.msl 3 1 0 ((((c.cells.length:Int)+1)).toNat)],oC [.msl 4 1 0 ((((c.cells.length:Int)+1)).toNat)]]:DH)⟩
def zBm (c:AB)(q:AA)(pos:List Int)(ln:Nat)(lost o4:List Int)(BU:Int):DH:=[oW c q pos 1 ln,oI lost,oC [.ref 0 0],oC [.msl 4 1 0 ((((c.cells.length:Int)+1)).toNat)],oI (o4.set (0+(((BU+1)).toNat)) 100),oC [.msl 6 1 0 ((((c.cells.length:Int)+1)).toNat)],oI ((List.replicate ((((c.cells.length:Int)+1)).toNat) (0:Int)).set (0+c.cells.length) 100),oC [.i BU]]
def zBl (c:AB)(q:AA)(pos:List Int)(ln:Nat)(lost:List Int)(BU:Int)(o4:List Int):DH:=[oW c q pos 1 ln,oI lost,oC [.ref 0 0],oC [.msl 7 1 0 ((((c.cells.length:Int)+1)).toNat)],oC [.msl 8 1 0 ((((c.cells.length:Int)+1)).toNat)],oC [.i BU],some (.iter ((Bc (pos.getD ((c.cells.getD ((BU).toNat) 0).toNat) 0)).map BP)),oI (o4.set (0+(((BU+1)).toNat)) 100),oI ((List.replicate ((((c.cells.length:Int)+1)).toNat) (0:Int)).set (0+c.cells.length) 100)]
def zBk (c:AB)(q:AA)(pos:List Int)(ln:Nat)(lost o4:List Int):DH:=[oW c q pos 1 ln,oI lost,oC [.ref 0 0],oC [.msl 4 1 0 ((((c.cells.length:Int)+1)).toNat)],oI o4,oC [.msl 6 1 0 ((((c.cells.length:Int)+1)).toNat)],oI ((List.replicate ((((c.cells.length:Int)+1)).toNat) (0:Int)).set (0+c.cells.length) 100)]
def zBj (c:AB)(q:AA)(pos:List Int)(ln:Nat)(lost:List Int)(y1:List (Int×Int))(o4:List Int):DH:=[oW c q pos 1 ln,oI lost,oC [.ref 0 0],oC [.msl 6 1 0 ((((c.cells.length:Int)+1)).toNat)],oC [.msl 7 1 0 ((((c.cells.length:Int)+1)).toNat)],some (.iter ((y1).map O7)),oI o4,oI ((List.replicate ((((c.cells.length:Int)+1)).toNat) (0:Int)).set (0+c.cells.length) 100)]
def zBi (c:AB)(q:AA)(pos:List Int)(ln:Nat)(o1 o4 o6:List Int)(BH:Int):DH:=[oW c q pos 1 ln,oI o1,oC [.ref 0 0],oC [.msl 4 1 0 ((((c.cells.length:Int)+1)).toNat)],oI o4,oC [.msl 6 1 0 ((((c.cells.length:Int)+1)).toNat)],oI o6,oC [.i BH],oC [.i (c.cells.getD ((BH).toNat) 0)]]
def zBh (c:AB)(q:AA)(pos:List Int)(ln:Nat)(o1:List Int)(BH:Int)(o4 o6:List Int):DH:=[oW c q pos 1 ln,oI o1,oC [.ref 0 0],oC [.msl 8 1 0 ((((c.cells.length:Int)+1)).toNat)],oC [.msl 9 1 0 ((((c.cells.length:Int)+1)).toNat)],oC [.i BH],oC [.i (c.cells.getD ((BH).toNat) 0)],some (.iter ((Bc (pos.getD ((c.cells.getD ((BH).toNat) 0).toNat) 0)).map BP)),oI o4,oI o6]
def zBg (c:AB)(q:AA)(pos:List Int)(ln:Nat)(lost:List Int)(BU:Int)(Ft:List Int):DH:=[oW c q pos 1 ln,oI lost,oC [.ref 0 0],oC [.msl 7 1 0 ((((c.cells.length:Int)+1)).toNat)],oC [.msl 8 1 0 ((((c.cells.length:Int)+1)).toNat)],oC [.i BU],none,oI Ft,oI ((List.replicate ((((c.cells.length:Int)+1)).toNat) (0:Int)).set (0+c.cells.length) 100)]
def zBf (c:AB)(q:AA)(pos:List Int)(ln:Nat)(lost o4 FZ:List Int)(BY:Int×Int):DH:=[oW c q pos 1 ln,oI lost,oC [.ref 0 0],oC [.msl 6 1 0 ((((c.cells.length:Int)+1)).toNat)],oC [.msl 7 1 0 ((((c.cells.length:Int)+1)).toNat)],none,oI o4,oI FZ,oC [.i BY.1]]
def zBp (c:AB)(q:AA)(pos:List Int)(ln:Nat)(lost o4 FZ:List Int)(BY:Int×Int):DH:=[oW c q pos 1 ln,oI lost,oC [.ref 0 0],oC [.msl 6 1 0 ((((c.cells.length:Int)+1)).toNat)],oC [.msl 7 1 0 ((((c.cells.length:Int)+1)).toNat)],none,oI o4,oI (FZ.set (0+((BY.1).toNat)) (-1)),oC [.i BY.1]]
def zBo (c:AB)(q:AA)(pos:List Int)(ln:Nat)(lost:List Int)(BY:Int×Int)(o4 FZ:List Int):DH:=[oW c q pos 1 ln,oI lost,oC [.ref 0 0],oC [.msl 8 1 0 ((((c.cells.length:Int)+1)).toNat)],oC [.msl 9 1 0 ((((c.cells.length:Int)+1)).toNat)],none,oC [.i BY.1],some (.iter ((Bc (pos.getD ((BY.2).toNat) 0)).map BP)),oI o4,oI (FZ.set (0+((BY.1).toNat)) (-1))]
def cS (c:AB)(q:AA)(pos:List Int)(ln:Nat)(Gi:List Int)(BH:Int)(o4 o6:List Int):DH:=[oW c q pos 1 ln,oI Gi,oC [.ref 0 0],oC [.msl 8 1 0 ((((c.cells.length:Int)+1)).toNat)],oC [.msl 9 1 0 ((((c.cells.length:Int)+1)).toNat)],oC [.i BH],oC [.i (c.cells.getD ((BH).toNat) 0)],none,oI o4,oI o6]
def VW (c:AB)(q:AA)(pos:List Int)(ln:Nat)(JN:(List Int))(BH:Int)(o4 o6:List Int):St:=⟨(AG 178 []),([oW c q pos 1 ln,oI JN,oC [.ref 0 0],oC [.msl 8 1 0 ((((c.cells.length:Int)+1)).toNat)],oC [.msl 9 1 0 ((((c.cells.length:Int)+1)).toNat)],oC [.i BH],oC [.i (c.cells.getD ((BH).toNat) 0)],none,oI o4,oI o6]:DH)⟩
def zBn (c:AB)(q:AA)(pos:List Int)(ln:Nat)(lost:List Int)(BY:Int×Int)(o4 Fu:List Int):DH:=[oW c q pos 1 ln,oI lost,oC [.ref 0 0],oC [.msl 8 1 0 ((((c.cells.length:Int)+1)).toNat)],oC [.msl 9 1 0 ((((c.cells.length:Int)+1)).toNat)],none,oC [.i BY.1],none,oI o4,oI Fu]
inductive MB where
 | s0 (Fu:List Int)
def jr (c:AB)(q:AA)(pos:List Int)(ln:Nat)(lost:List Int)(BY:Int×Int)(o4:List Int):MB -> DH
 | .s0 Fu=>[oW c q pos 1 ln,oI lost,oC [.ref 0 0],oC [.msl 8 1 0 ((((c.cells.length:Int)+1)).toNat)],oC [.msl 9 1 0 ((((c.cells.length:Int)+1)).toNat)],none,oC [.i BY.1],none,oI o4,oI Fu]
def V4 (n:Nat)(c:AB)(q:AA)(pos:List Int)(ln:Nat)(lost:List Int)(BY:Int×Int)(o4:List Int)(HU:Int)(Fu:List Int):Option MB:= if (0<=HU/\ HU<(q.values.length:Int))/\ AJ (BY.1+1)/\ (0<=(BY.1+1)/\ (BY.1+1)<(((((c.cells.length:Int)+1)).toNat:Nat):Int))/\ 0+(((BY.1+1)).toNat)<Fu.length then bif (decide ((q.values.getD ((HU).toNat) 0)<(Fu.getD (0+(((BY.1+1)).toNat)) 0))) then if (0<=BY.1/\ BY.1<(((((c.cells.length:Int)+1)).toNat:Nat):Int))/\ 0+((BY.1).toNat)<Fu.length then some (.s0 (Fu.set (0+((BY.1).toNat)) (if (q.values.getD ((HU).toNat) 0)>(Fu.getD (0+((BY.1).toNat)) 0) then (q.values.getD ((HU).toNat) 0) else (Fu.getD (0+((BY.1).toNat)) 0)))) else none else some (.s0 Fu) else none
def jp (n:Nat)(c:AB)(q:AA)(pos:List Int)(ln:Nat)(lost:List Int)(BY:Int×Int)(o4:List Int)(HU:Int):MB -> Option MB
 | .s0 Fu=>V4 n c q pos ln lost BY o4 HU Fu
def Sj (n:Nat)(c:AB)(q:AA)(pos:List Int)(ln:Nat)(lost:List Int)(BY:Int×Int)(o4:List Int)(HU:Int)(s:MB):Option MB:=jp n c q pos ln lost BY o4 HU s
theorem vi (n:Nat)(c:AB)(q:AA)(pos:List Int)(ln:Nat)(lost:List Int)(BY:Int×Int)(o4:List Int)(l B:Nat)(N:Yd 8)(HU:Int)(s:MB)(r:MB)(h:Sj n c q pos ln lost BY o4 HU s=some r):TA l B N (Cp 8 [] 0 (jr c q pos ln lost BY o4 r)) Tryz.f135 103 ⟨AG 178 [(1,.ref 2 0),(5,.ref 4 0),(10,.ref 6 0),(103,.it 7),(104,.i HU)],jr c q pos ln lost BY o4 s⟩:=by
 cases s with
 | s0 Fu=>
  replace h:V4 n c q pos ln lost BY o4 HU Fu=some r:=h;unfold V4 at h;refine ag Eb [0,1,2,3,4,5,6,7,8,9] H0 (AG 178 [(1,.ref 2 0),(5,.ref 4 0),(10,.ref 6 0),(12,.i HU)]) (zBn c q pos ln lost BY o4 Fu) fun N=>?_
  revert r;apply gO;exact gc (gi (gc (gw 116 (gc (gi (gi (bi 119 (jg uA (gc (gn fun qL=>jg qL (gn fun qK=>jg qK (jg qL (jg qK (lF fun p=>rr Eb [0,1,2,3,4,5,6,7,8,9] rfl p))))))) (lF fun p=>rr Eb [0,1,2,3,4,5,6,7,8,9] rfl p))))))))
inductive Ks where
 | s0 (Gi:List Int)
def jy (c:AB)(BH:Int)(q:AA)(pos:List Int)(ln:Nat)(o4 o6:List Int):Ks -> DH
 | .s0 Gi=>[oW c q pos 1 ln,oI Gi,oC [.ref 0 0],oC [.msl 8 1 0 ((((c.cells.length:Int)+1)).toNat)],oC [.msl 9 1 0 ((((c.cells.length:Int)+1)).toNat)],oC [.i BH],oC [.i (c.cells.getD ((BH).toNat) 0)],none,oI o4,oI o6]
def V6 (n:Nat)(c:AB)(BH:Int)(q:AA)(pos:List Int)(ln:Nat)(o4 o6:List Int)(FK:Int)(Gi:List Int):Option Ks:= if (0<=FK/\ FK<(q.values.length:Int))/\ (0<=BH/\ BH<(((((c.cells.length:Int)+1)).toNat:Nat):Int))/\ 0+((BH).toNat)<o4.length then bif (decide ((q.values.getD ((FK).toNat) 0)<=(o4.getD (0+((BH).toNat)) 0))) then if 0<=FK/\ FK<=(IntKind.i64.bits:Int) then (Dg n (c.cells.getD ((BH).toNat) 0) (IntKind.i64.wrap (1*2 ^ (FK).toNat)) c q pos ln Gi).bind fun JN=> some (.s0 JN) else none else if AJ (BH+1)/\ (0<=(BH+1)/\ (BH+1)<(((((c.cells.length:Int)+1)).toNat:Nat):Int))/\ 0+(((BH+1)).toNat)<o6.length then bif (decide ((q.values.getD ((FK).toNat) 0)>=(o6.getD (0+(((BH+1)).toNat)) 0))) then if 0<=FK/\ FK<=(IntKind.i64.bits:Int) then (Dg n (c.cells.getD ((BH).toNat) 0) (IntKind.i64.wrap (1*2 ^ (FK).toNat)) c q pos ln Gi).bind fun JN=> some (.s0 JN) else none else some (.s0 Gi) else none else none
def jx (n:Nat)(c:AB)(BH:Int)(q:AA)(pos:List Int)(ln:Nat)(o4 o6:List Int)(FK:Int):Ks -> Option Ks
 | .s0 Gi=>V6 n c BH q pos ln o4 o6 FK Gi
def V7 (n:Nat)(c:AB)(BH:Int)(q:AA)(pos:List Int)(ln:Nat)(o4 o6:List Int)(FK:Int)(s:Ks):Option Ks:=jx n c BH q pos ln o4 o6 FK s
theorem vk (n:Nat)(c:AB)(BH:Int)(q:AA)(pos:List Int)(ln:Nat)(o4 o6:List Int)(l B:Nat)(N:Yd 8)(FK:Int)(s:Ks)(r:Ks)(h:V7 n c BH q pos ln o4 o6 FK s=some r):TA l B N (Cp 8 [] 0 (jy c BH q pos ln o4 o6 r)) Tryz.f135 147 ⟨AG 178 [(1,.ref 2 0),(4,.ref 3 0),(5,.ref 4 0),(14,.ref 5 0),(15,.ref 6 0),(133,.ints c.cells),(134,.i (c.cells.length:Int)),(135,.i BH),(147,.it 7),(148,.i FK)],jy c BH q pos ln o4 o6 s⟩:=by
 cases s with
 | s0 Gi=>
  replace h:V6 n c BH q pos ln o4 o6 FK Gi=some r:=h;unfold V6 at h;refine ag Eb [0,1,2,3,4,5,6,7,8,9] H0 (AG 178 [(1,.ref 2 0),(4,.ref 3 0),(5,.ref 4 0),(14,.ref 5 0),(15,.ref 6 0),(16,.i FK)]) (cS c q pos ln Gi BH o4 o6) fun N=>?_
  revert r;apply gO;exact gc (gi (gc (gi (gi (bi 162 (jg jM (gi (ce GS [0,1] (cS c q pos ln Gi BH o4 o6) fun JN=>jg (Eq.refl (VW c q pos ln JN BH o4 o6)) (lF fun p=>rr (tg:=[([],(VW c q pos ln JN BH o4 o6))]) Eb [0,1,2,3,4,5,6,7,8,9] rfl p)))) (gc (gw 167 (gc (gi (gi (bi 170 (jg jM (gi (ce GS [0,1] (cS c q pos ln Gi BH o4 o6) fun JN=>jg (Eq.refl (VW c q pos ln JN BH o4 o6)) (lF fun p=>rr (tg:=[([],(VW c q pos ln JN BH o4 o6))]) Eb [0,1,2,3,4,5,6,7,8,9] rfl p)))) (lF fun p=>rr Eb [0,1,2,3,4,5,6,7,8,9] rfl p))))))))))))
inductive MC where
 | s0 (FZ:List Int)
def js (c:AB)(q:AA)(pos:List Int)(ln:Nat)(lost o4:List Int):MC -> DH
 | .s0 FZ=>[oW c q pos 1 ln,oI lost,oC [.ref 0 0],oC [.msl 6 1 0 ((((c.cells.length:Int)+1)).toNat)],oC [.msl 7 1 0 ((((c.cells.length:Int)+1)).toNat)],none,oI o4,oI FZ]
def V3 (n:Nat)(c:AB)(q:AA)(pos:List Int)(ln:Nat)(lost o4:List Int)(BY:Int×Int)(FZ:List Int):Option MC:=
 if (0<=BY.1/\ BY.1<(((((c.cells.length:Int)+1)).toNat:Nat):Int))/\ 0+((BY.1).toNat)<FZ.length/\ (0<=BY.2/\ BY.2<(pos.length:Int))/\ (0<=(pos.getD ((BY.2).toNat) 0)/\ (pos.getD ((BY.2).toNat) 0)<9223372036854775808) then
  (Bq (Sj n c q pos ln lost BY o4) (Bc (pos.getD ((BY.2).toNat) 0)) (.s0 (FZ.set (0+((BY.1).toNat)) (-1)))).bind fun eS=>
   match eS with
   | .s0 qF=>
    some (.s0 qF)
 else none
def jn (n:Nat)(c:AB)(q:AA)(pos:List Int)(ln:Nat)(lost o4:List Int)(BY:Int×Int):MC -> Option MC
 | .s0 FZ=>V3 n c q pos ln lost o4 BY FZ
def Sk (n:Nat)(c:AB)(q:AA)(pos:List Int)(ln:Nat)(lost o4:List Int)(BY:Int×Int)(s:MC):Option MC:=jn n c q pos ln lost o4 BY s
theorem vh (n:Nat)(c:AB)(q:AA)(pos:List Int)(ln:Nat)(lost o4:List Int)(l B:Nat)(N:Yd 6)(BY:Int×Int)(s:MC)(r:MC)(h:Sk n c q pos ln lost o4 BY s=some r):TA l B N (Cp 6 [] 0 (js c q pos ln lost o4 r)) Tryz.f135 90 ⟨AG 178 [(1,.ref 2 0),(4,.ref 3 0),(5,.ref 4 0),(90,.it 5),(91,.i BY.1),(92,.i BY.2)],js c q pos ln lost o4 s⟩:=by
 cases s with
 | s0 FZ=>
  replace h:V3 n c q pos ln lost o4 BY FZ=some r:=h;unfold V3 at h;refine ag Eb [0,1,2,3,4,5,6,7,8] (H0.t) (AG 178 [(1,.ref 2 0),(5,.ref 4 0),(10,.ref 8 0),(11,.i BY.2)]) (zBf c q pos ln lost o4 FZ BY) fun N=>?_
  revert r;apply gO
  exact gc (gi (gc (gi (gc (gi (gn fun zFg=>jc (Kk zFg (zBp c q pos ln lost o4 FZ BY)) (cn fun eS zCv=>fun p r h=>by
   refine gs Eb [0,1,2,3,4,5,8,9,6,7] p (GD (WB Tryz.f135 90) 103 []) (AG 178 [(1,.ref 2 0),(5,.ref 4 0),(10,.ref 6 0),(103,.it 7)]) (zBo c q pos ln lost BY o4 FZ) ?_;refine r0 7 103 #[104] BP 8 zCv (vi n c q pos ln lost BY o4) ?_;cases eS with
   | s0 qF=>
    dsimp only at h
    revert r;apply gO;exact lF fun p=>rr Eb [0,1,2,3,4,5,8,9] rfl p)))))))
inductive MD where
 | s0 (Ft:List Int)
def jv (c:AB)(BU:Int)(q:AA)(pos:List Int)(ln:Nat)(lost:List Int):MD -> DH
 | .s0 Ft=>[oW c q pos 1 ln,oI lost,oC [.ref 0 0],oC [.msl 7 1 0 ((((c.cells.length:Int)+1)).toNat)],oC [.msl 8 1 0 ((((c.cells.length:Int)+1)).toNat)],oC [.i BU],none,oI Ft,oI ((List.replicate ((((c.cells.length:Int)+1)).toNat) (0:Int)).set (0+c.cells.length) 100)]
def V5 (n:Nat)(c:AB)(BU:Int)(q:AA)(pos:List Int)(ln:Nat)(lost:List Int)(HT:Int)(Ft:List Int):Option MD:= if (0<=HT/\ HT<(q.values.length:Int))/\ (0<=BU/\ BU<(((((c.cells.length:Int)+1)).toNat:Nat):Int))/\ 0+((BU).toNat)<Ft.length then bif (decide ((q.values.getD ((HT).toNat) 0)>(Ft.getD (0+((BU).toNat)) 0))) then if AJ (BU+1)/\ (0<=(BU+1)/\ (BU+1)<(((((c.cells.length:Int)+1)).toNat:Nat):Int))/\ 0+(((BU+1)).toNat)<Ft.length then some (.s0 (Ft.set (0+(((BU+1)).toNat)) (if (q.values.getD ((HT).toNat) 0)<(Ft.getD (0+(((BU+1)).toNat)) 0) then (q.values.getD ((HT).toNat) 0) else (Ft.getD (0+(((BU+1)).toNat)) 0)))) else none else some (.s0 Ft) else none
def ju (n:Nat)(c:AB)(BU:Int)(q:AA)(pos:List Int)(ln:Nat)(lost:List Int)(HT:Int):MD -> Option MD
 | .s0 Ft=>V5 n c BU q pos ln lost HT Ft
def Sl (n:Nat)(c:AB)(BU:Int)(q:AA)(pos:List Int)(ln:Nat)(lost:List Int)(HT:Int)(s:MD):Option MD:=ju n c BU q pos ln lost HT s
theorem vj (n:Nat)(c:AB)(BU:Int)(q:AA)(pos:List Int)(ln:Nat)(lost:List Int)(l B:Nat)(N:Yd 7)(HT:Int)(s:MD)(r:MD)(h:Sl n c BU q pos ln lost HT s=some r):TA l B N (Cp 7 [] 0 (jv c BU q pos ln lost r)) Tryz.f135 57 ⟨AG 178 [(1,.ref 2 0),(4,.ref 3 0),(5,.ref 4 0),(6,.ref 5 0),(39,.ints c.cells),(40,.i (c.cells.length:Int)),(41,.i BU),(57,.it 6),(58,.i HT)],jv c BU q pos ln lost s⟩:=by
 cases s with
 | s0 Ft=>
  replace h:V5 n c BU q pos ln lost HT Ft=some r:=h;unfold V5 at h;refine ag Eb [0,1,2,3,4,5,6,7,8] H0 (AG 178 [(1,.ref 2 0),(4,.ref 3 0),(6,.ref 5 0),(8,.i HT)]) (zBg c q pos ln lost BU Ft) fun N=>?_
  revert r;apply gO;exact gc (gi (gc (gi (gi (bi 72 (jg uC (gc (gn fun qJ=>jw 75 qJ (jw 78 qJ (gc (gn fun qI=>jg qI (gn fun qH=>jg qH (jg qI (jg qH (lF fun p=>rr Eb [0,1,2,3,4,5,6,7,8] rfl p)))))))))) (lF fun p=>rr Eb [0,1,2,3,4,5,6,7,8] rfl p))))))
inductive Sn where
 | l1 (BU:Int) (o4:List Int)
 | l2 (BH:Int) (o1 o4 o6:List Int)
def Si (n:Nat)(self:Sn -> Option (Bool×(List Int)))(c:AB)(q:AA)(pos:List Int)(ln:Nat)(lost:List Int)(BU:Int)(o4:List Int):Option (Bool×(List Int)):=
 bif (decide (BU<(c.cells.length:Int))) then
  if (0<=BU/\ BU<(c.cells.length:Int))/\ AJ (BU+1)/\ (0<=(BU+1)/\ (BU+1)<(((((c.cells.length:Int)+1)).toNat:Nat):Int))/\ 0+(((BU+1)).toNat)<o4.length/\ (0<=(c.cells.getD ((BU).toNat) 0)/\ (c.cells.getD ((BU).toNat) 0)<(pos.length:Int))/\ (0<=(pos.getD ((c.cells.getD ((BU).toNat) 0).toNat) 0)/\ (pos.getD ((c.cells.getD ((BU).toNat) 0).toNat) 0)<9223372036854775808) then
   (Bq (Sl n c BU q pos ln lost) (Bc (pos.getD ((c.cells.getD ((BU).toNat) 0).toNat) 0)) (.s0 (o4.set (0+(((BU+1)).toNat)) 100))).bind fun y1=>
    match y1 with
    | .s0 Dz=>
     if AJ (BU+1) then
      self (.l1 (BU+1) Dz)
     else none
  else none
 else
  (back n c.cells).bind fun y1=>
   (Bq (Sk n c q pos ln lost o4) y1 (.s0 ((List.replicate ((((c.cells.length:Int)+1)).toNat) (0:Int)).set (0+c.cells.length) 100))).bind fun y2=>
    match y2 with
    | .s0 EO=>
     self (.l2 0 lost o4 EO)
def Sh (n:Nat)(self:Sn -> Option (Bool×(List Int)))(c:AB)(q:AA)(pos:List Int)(ln:Nat)(lost:List Int)(BH:Int)(o1 o4 o6:List Int):Option (Bool×(List Int)):=
 bif (decide (BH<(c.cells.length:Int))) then
  if (0<=BH/\ BH<(c.cells.length:Int))/\ (0<=(c.cells.getD ((BH).toNat) 0)/\ (c.cells.getD ((BH).toNat) 0)<(pos.length:Int))/\ (0<=(pos.getD ((c.cells.getD ((BH).toNat) 0).toNat) 0)/\ (pos.getD ((c.cells.getD ((BH).toNat) 0).toNat) 0)<9223372036854775808) then
   (Bq (V7 n c BH q pos ln o4 o6) (Bc (pos.getD ((c.cells.getD ((BH).toNat) 0).toNat) 0)) (.s0 o1)).bind fun y1=>
    match y1 with
    | .s0 Dz=>
     if AJ (BH+1) then
      self (.l2 (BH+1) Dz o4 o6)
     else none
  else none
 else
  some (true,o1)
def jm (n:Nat)(self:Sn -> Option (Bool×(List Int)))(c:AB)(q:AA)(pos:List Int)(ln:Nat)(lost:List Int):Option (Bool×(List Int)):= if AJ ((c.cells.length:Int)+1)/\ ((((c.cells.length:Int)+1):Int)=((c.cells.length:Int)+1)/\ (0:Int)<=((c.cells.length:Int)+1)/\ (((c.cells.length:Int)+1):Int)<=1000000000000)/\ ((0:Int)<=0/\ 0<(((((c.cells.length:Int)+1)).toNat:Nat):Int))/\ 0+0<(List.replicate ((((c.cells.length:Int)+1)).toNat) (0:Int)).length/\ (0<=(c.cells.length:Int)/\ (c.cells.length:Int)<(((((c.cells.length:Int)+1)).toNat:Nat):Int))/\ 0+c.cells.length<(List.replicate ((((c.cells.length:Int)+1)).toNat) (0:Int)).length then self (.l1 0 ((List.replicate ((((c.cells.length:Int)+1)).toNat) (0:Int)).set (0+0) (-1))) else none
def IE (c:AB)(q:AA)(pos:List Int)(ln:Nat)(lost:List Int):Nat -> Sn -> Option (Bool×(List Int))
 | 0,_=>none
 | n+1,.l1 BU o4=>Si n (IE c q pos ln lost n) c q pos ln lost BU o4
 | n+1,.l2 BH o1 o4 o6=>Sh n (IE c q pos ln lost n) c q pos ln lost BH o1 o4 o6
def ME (n:Nat)(c:AB)(q:AA)(pos:List Int)(ln:Nat)(lost:List Int):Option (Bool×(List Int)):=jm n (IE c q pos ln lost n) c q pos ln lost
def vm (n B:Nat)(N:Yd 2)(c:AB)(q:AA)(pos:List Int)(ln:Nat)(lost:List Int)(r:Bool×(List Int)):Sn -> Prop
 | .l1 BU o4=>∀ m0:Nat,n<=m0 -> TW B N (FQ Tryz.f135 2 (.bool r.1) [oW c q pos 1 ln,oI r.2]) (A4 m0 (BB (AX Tryz.f135) 0 [])) ⟨AG 178 [(1,.ref 2 0),(4,.ref 3 0),(5,.ref 5 0),(39,.ints c.cells),(40,.i (c.cells.length:Int)),(41,.i BU)],[oW c q pos 1 ln,oI lost,oC [.ref 0 0],oC [.msl 4 1 0 ((((c.cells.length:Int)+1)).toNat)],oI o4,oC [.msl 6 1 0 ((((c.cells.length:Int)+1)).toNat)],oI ((List.replicate ((((c.cells.length:Int)+1)).toNat) (0:Int)).set (0+c.cells.length) 100)]⟩
 | .l2 BH o1 o4 o6=>∀ m0:Nat,n<=m0 -> TW B N (FQ Tryz.f135 2 (.bool r.1) [oW c q pos 1 ln,oI r.2]) (A4 m0 (BB (AX Tryz.f135) 8 [])) ⟨AG 178 [(1,.ref 2 0),(4,.ref 3 0),(5,.ref 5 0),(133,.ints c.cells),(134,.i (c.cells.length:Int)),(135,.i BH)],[oW c q pos 1 ln,oI o1,oC [.ref 0 0],oC [.msl 4 1 0 ((((c.cells.length:Int)+1)).toNat)],oI o4,oC [.msl 6 1 0 ((((c.cells.length:Int)+1)).toNat)],oI o6]⟩
theorem vn (B:Nat)(N:Yd 2)(c:AB)(q:AA)(pos:List Int)(ln:Nat)(lost:List Int):Al (IE c q pos ln lost) (vm · B N c q pos ln lost):=ia (fun _=>rfl) fun n AI pt r h=>by
 cases pt
 case l1 BU o4=>
  intro m0 AD;refine rd AD fun m0 AD=>?_
  revert r;apply gO
  exact bi 42 (gc (gi (jt (gc (gw 48 (gc (gi (gc (gi (gc (gi (gn fun g5=>jc (Kk g5 (zBm c q pos ln lost o4 BU)) (cn fun y1 A7=>fun p r h=>by
   refine gs Eb [0,1,2,3,5,7,8,4,6] p (GD (AX Tryz.f135) 57 [m0]) (AG 178 [(1,.ref 2 0),(4,.ref 3 0),(5,.ref 4 0),(6,.ref 5 0),(39,.ints c.cells),(40,.i (c.cells.length:Int)),(41,.i BU),(57,.it 6)]) (zBl c q pos ln lost BU o4) ?_;refine r0 6 57 #[58] BP 7 A7 (vj n c BU q pos ln lost) ?_;cases y1 with
   | s0 Dz=>
    dsimp only at h
    revert r;apply gO;exact gw 84 (lG Eb [0,1,2,3,7,4,8] (AI _ _ · m0 AD))))))))))))))) (cn fun y1 A7=>jc (zFe A7 (zBk c q pos ln lost o4)) (cn fun y2 B6=>fun p r h=>by
   refine gs Eb [0,1,2,3,5,7,4,6] p (GD (AX Tryz.f135) 90 []) (AG 178 [(1,.ref 2 0),(4,.ref 3 0),(5,.ref 4 0),(90,.it 5)]) (zBj c q pos ln lost y1 o4) ?_;refine r0 5 90 #[91,92] O7 6 B6 (vh n c q pos ln lost o4) ?_;cases y2 with
   | s0 EO=>
    dsimp only at h
    revert r;apply gO;exact lN Eb [0,1,2,3,6,4,7] (AI _ _ · n Nat.le.refl)))
 case l2 BH o1 o4 o6=>
  intro m0 AD;refine rd AD fun m0 AD=>?_
  revert r;apply gO
  exact bi 136 (gc (gi (jt (jt (jg t8 (gc (gi (gn fun g2=>jc (Kk g2 (zBi c q pos ln o1 o4 o6 BH)) (cn fun y1 A7=>fun p r h=>by
   refine gs Eb [0,1,2,3,5,7,8,9,4,6] p (GD (AX Tryz.f135) 147 [m0]) (AG 178 [(1,.ref 2 0),(4,.ref 3 0),(5,.ref 4 0),(14,.ref 5 0),(15,.ref 6 0),(133,.ints c.cells),(134,.i (c.cells.length:Int)),(135,.i BH),(147,.it 7)]) (zBh c q pos ln o1 BH o4 o6) ?_;refine r0 7 147 #[148] BP 8 A7 (vk n c BH q pos ln o4 o6) ?_;cases y1 with
   | s0 Dz=>
    dsimp only at h
    revert r;apply gO;exact gw 177 (lG Eb [0,1,2,3,8,4,9] (AI _ _ · m0 AD))))))))))) (lE Eb [2] [0,1])
theorem vg {n:Nat}{c:AB}{q:AA}{pos:List Int}{ln:Nat}{lost:List Int}{r:Bool×(List Int)}(h:ME n c q pos ln lost=some r):EQ 135 [.ref 0 0] [oW c q pos 1 ln,oI lost] (.bool r.1) [oW c q pos 1 ln,oI r.2] false:=by
 refine ot Tryz.func135 fun B N=>?_
 revert r;apply gO;exact jg uB (gc (gn fun g0=>jw 25 g0 (jw 28 g0 (gc (gn fun g1=>jg g1 (jg g1 (jt (jt (jg (Eq.refl (Cx c q pos ln lost)) (jt (jt (jg (Eq.refl (Cx c q pos ln lost)) (jg g1 (jt (jt (jg (Eq.refl (Cx c q pos ln lost)) (jg g1 (jt (jt (jg (Eq.refl (Cx c q pos ln lost)) (jt (jg g1 (jt (jg (Eq.refl (Cx c q pos ln lost)) (jg g1 (jt (jt (jg (Eq.refl (Cx c q pos ln lost)) (jg g1 (jt (jt (jg (Eq.refl (Cx c q pos ln lost)) (jt (jg g1 (jt (jg (Eq.refl (Cx c q pos ln lost)) (jg g1 (jg g1 (jt (jt (jg (Eq.refl (Cx c q pos ln lost)) (jt (jt (jg (Eq.refl (Cx c q pos ln lost)) (jg g1 (jt (jt (jg (Eq.refl (Cx c q pos ln lost)) (jg g1 (jt (jt (jg (Eq.refl (Cx c q pos ln lost)) (jg g1 (jt (jt (jg (Eq.refl (Cx c q pos ln lost)) (jg g1 (jt (jt (jg (Eq.refl (Cx c q pos ln lost)) (jg g1 (jg g1 (jt (jt (jg (Eq.refl (Cx c q pos ln lost)) (jg g1 (jt (jt (jg (Eq.refl (Cx c q pos ln lost)) (jt (jg g1 (jt (jg (Eq.refl (Cx c q pos ln lost)) (jg g1 (jg g1 (jt (jt (jg (Eq.refl (Cx c q pos ln lost)) (jg g1 (jt (jt (jg (Eq.refl (Cx c q pos ln lost)) (jg g1 (jg g1 (jt (jt (jg (Eq.refl (Cx c q pos ln lost)) (jt (jg g1 (jt (jg (Eq.refl (Cx c q pos ln lost)) (jg g1 (jg g1 (jt (jt (jg (Eq.refl (Cx c q pos ln lost)) (jg g1 (jg g1 (jt (jt (jg (Eq.refl (Cx c q pos ln lost)) (jg g1 (jt (jt (jg (Eq.refl (Cx c q pos ln lost)) (jt (jg g1 (jt (jg (Eq.refl (Cx c q pos ln lost)) (jg g1 (jg g1 (jt (jt (jg (Eq.refl (Cx c q pos ln lost)) (jg g1 (jt (jt (jg (Eq.refl (Cx c q pos ln lost)) (jg g1 (jg g1 (jt (jt (jg (Eq.refl (Cx c q pos ln lost)) (jt (jg g1 (jt (jg (Eq.refl (Cx c q pos ln lost)) (jg g1 (jg g1 (jt (jt (jg (Eq.refl (Cx c q pos ln lost)) (jg t7 (gc (gi (gc (gi (gc (gi (gi (jg (Eq.refl (gL c q pos ln lost)) (lN (tg:=[([],(Cx c q pos ln lost)),([(4,3)],(gL c q pos ln lost))]) Eb [0,1,2,5,3,6,4] ((vn B N c q pos ln lost n) _ _ · n Nat.le.refl)))))))))))))))))))))))))))))))))))))))))))))))))))))))))))))))))))))))))))))))))))))))))))))))))))))))))))))))))))))))))))))))))))))))))))))))
end Go.Proofs.YtkjbblkieglmlaaGreatDoor
namespace Go.Proofs.YtkjbblkieglmlaaGreatDoor
open Go.RowKit
theorem KM {l:List Int}{i:Nat}{a:Int}(h:i<l.length):(l.set i a).getD i 0=a:=by
 rw [u8,zDB h];rfl
theorem getD_set_ne {l:List Int}{i j:Nat}{a:Int}(h:i≠j):(l.set i a).getD j 0=l.getD j 0:=by
 rw [u8,zC2 h,←u8]
def JX (q:AA)(b a e:Int):Int:=if q.values.getD e.toNat 0>b then (if q.values.getD e.toNat 0<a then q.values.getD e.toNat 0 else a) else a
def JG (q:AA)(b a e:Int):Int:=if q.values.getD e.toNat 0<b then (if q.values.getD e.toNat 0>a then q.values.getD e.toNat 0 else a) else a
def Fn (q:AA)(c:AB)(pos:List Int):Nat -> Int
 | 0=>-1
 | i+1=>(Bc (Ab c pos i)).foldl (JX q (Fn q c pos i)) 100
def Hb (q:AA)(c:AB)(pos:List Int):Nat -> Int
 | 0=>100
 | m+1=>(Bc (Ab c pos (c.cells.length-1-m))).foldl (JG q (Hb q c pos m)) (-1)
def Id (q:AA)(c:AB)(pos:List Int)(i:Nat):Int:=Hb q c pos (c.cells.length-i)
def Hl (q:AA)(c:AB)(pos:List Int)(a s:Nat):Bool:=decide (q.values.getD s 0<=Fn q c pos a)||decide (q.values.getD s 0>=Id q c pos (a+1))
def Ux (l:List Int):Nat -> List (Int×Int)
 | 0=>[]
 | m+1=>((m:Int),l.getD m 0)::Ux l m
theorem qC {l:List Int}: ∀ (m n:Nat),m<=l.length -> l.length<=LB -> m+1<=n -> NE l n (.l1 ((m:Int)-1))=some (Ux l m)
 | 0,n,_,_,hn=>by
  obtain ⟨n,rfl⟩: ∃ k,n=k+1:=⟨n-1,by omega⟩
  show PL n (NE l n) l _=_
  unfold PL;rw [zAP (by omega),zAR];rfl
 | m+1,n,hm,hl,hn=>by
  obtain ⟨n,rfl⟩: ∃ k,n=k+1:=⟨n-1,by omega⟩;have e:((m+1:Nat):Int)-1=(m:Int):=by omega
  have hb:LB<=9223372036854775807:=by decide
  rw [e]
  show PL n (NE l n) l _=_
  unfold PL;rw [zAU (by omega),zAV,zAM ⟨by omega,by omega⟩,zAM (Av.2 ⟨by omega,by omega⟩),qC m n (by omega) hl (by omega),zAT];rfl
theorem zFb {l:List Int}{n:Nat}(hl:l.length<=LB)(hn:l.length+1<=n):back n l=some (Ux l l.length):=by
 have hb:LB<=9223372036854775807:=by decide
 unfold back eP;rw [zAM (Av.2 ⟨by omega,by omega⟩),qC l.length n (zA5 _) hl hn]
section
variable {c:AB} {k:Nat} {pos lost:List Int} {q:AA}
theorem jh {n ln i:Nat}(Ak:c.cells.length<=256)(hi:i<c.cells.length){o:List Int}(ho:o.length=c.cells.length+1): ∀ (l:List Int) (a:Int),(∀ e∈l,0<=e/\ e<((q.values.length:Nat):Int)) ->
 Bq (Sl n c (i:Int) q pos ln lost) l (.s0 (o.set (i+1) a))=some (.s0 (o.set (i+1) (l.foldl (JX q (o.getD i 0)) a)))
 | [],_,_=>rfl
 | e::l,a,h=>by
  have t1:((((c.cells.length:Nat):Int)+1).toNat:Nat)=c.cells.length+1:=by omega
  have t2:(((i:Int)+1).toNat:Nat)=i+1:=by omega
  have e1:Sl n c (i:Int) q pos ln lost e (.s0 (o.set (i+1) a))=some (.s0 (o.set (i+1) (JX q (o.getD i 0) a e))):=by
   unfold Sl ju V5
   dsimp only
   simp only [zAT,t1,t2,zA8,zBB,ho];rw [zAM ⟨h e (.head _),by omega,by omega⟩,getD_set_ne (by omega),KM (by omega),List.set_set];unfold JX
   by_cases hA:q.values.getD e.toNat 0>o.getD i 0
   ·rw [zAU hA,zAV,zAM ⟨Av.2 ⟨by omega,by omega⟩,by omega,by omega⟩,zAM hA]
   ·rw [zAP hA,zAR,zAh hA]
  simp only [Bq];rw [e1,zAS,jh Ak hi ho l _ fun e he=>h e (.tail _ he)];rfl
theorem ji {n ln i:Nat}{x:Int}{o4:List Int}(Ak:c.cells.length<=256)(hi:i<c.cells.length){o:List Int}(ho:o.length=c.cells.length+1): ∀ (l:List Int) (a:Int),(∀ e∈l,0<=e/\ e<((q.values.length:Nat):Int)) ->
 Bq (Sj n c q pos ln lost ((i:Int),x) o4) l (.s0 (o.set i a))=some (.s0 (o.set i (l.foldl (JG q (o.getD (i+1) 0)) a)))
 | [],_,_=>rfl
 | e::l,a,h=>by
  have t1:((((c.cells.length:Nat):Int)+1).toNat:Nat)=c.cells.length+1:=by omega
  have t2:(((i:Int)+1).toNat:Nat)=i+1:=by omega
  have e1:Sj n c q pos ln lost ((i:Int),x) o4 e (.s0 (o.set i a))=some (.s0 (o.set i (JG q (o.getD (i+1) 0) a e))):=by
   unfold Sj jp V4
   dsimp only
   simp only [zAT,t1,t2,zA8,zBB,ho];rw [zAM ⟨h e (.head _),Av.2 ⟨by omega,by omega⟩,by omega,by omega⟩,getD_set_ne (by omega),KM (by omega),List.set_set];unfold JG
   by_cases hA:q.values.getD e.toNat 0<o.getD (i+1) 0
   ·rw [zAU hA,zAV,zAM ⟨by omega,by omega⟩,zAM hA]
   ·rw [zAP hA,zAR,zAh hA]
  simp only [Bq];rw [e1,zAS,ji Ak hi ho l _ fun e he=>h e (.tail _ he)];rfl
theorem Sm.i63 (hk:k<=16){x:Int}(h:Sm k x):0<=x/\ x<9223372036854775808:=by
 have h1:=MK (k:=k) (zA0 hk (by decide));obtain ⟨h2,h3⟩:=h;omega
theorem jl {n:Nat}{o4:List Int}(W:B2 c k pos)(V:EA q k): ∀ (m:Nat) (o:List Int),m<=c.cells.length -> o.length=c.cells.length+1 -> (∀ j,m<=j -> j<=c.cells.length -> o.getD j 0=Id q c pos j) ->
 ∃ o',Bq (Sk n c q pos pos.length lost o4) (Ux c.cells m) (.s0 o)=some (.s0 o')/\ o'.length=c.cells.length+1/\ ∀ j,j<=c.cells.length -> o'.getD j 0=Id q c pos j
 | 0,o,_,ho,h=>⟨o,rfl,ho,fun j hj=>h j (zDJ _) hj⟩
 | m+1,o,hm,ho,h=>by
  have hc:=W.cells m (by omega);have Bz:=W.at (a:=m) (by omega);have Ak:=W.len;have t1:((((c.cells.length:Nat):Int)+1).toNat:Nat)=c.cells.length+1:=by omega
  have e1:Sk n c q pos pos.length lost o4 ((m:Int),c.cells.getD m 0) (.s0 o)=some (.s0 (o.set m (Id q c pos m))):=by
   unfold Sk jn V3
   dsimp only
   simp only [zAT,t1,zA8];rw [zAM ⟨by omega,by omega,hc,Bz.i63 W.k⟩];refine (congrArg (fun z=>Option.bind z _) (ji Ak (by omega) ho (Bc (Ab c pos m)) (-1) fun e he=>(V.sym W.k Bz e he).1)).trans ?_;rw [zAS]
   have e2:Id q c pos m=(Bc (Ab c pos m)).foldl (JG q (o.getD (m+1) 0)) (-1):=by
    rw [h (m+1) (zA5 _) hm];unfold Id;rw [show c.cells.length-m=c.cells.length-(m+1)+1 by omega];simp only [Hb];rw [show c.cells.length-1-(c.cells.length-(m+1))=m by omega]
   rw [e2]
  obtain ⟨o',h1,h2,h3⟩:=jl W V m (o.set m (Id q c pos m)) (by omega) (by rw [zBB];exact ho) fun j hj HN=>by
   by_cases e:m=j
   ·subst e;exact KM (by omega)
   ·rw [getD_set_ne e];exact h j (by omega) HN
  refine ⟨o',?_,h2,h3⟩;simp only [Ux,Bq];rw [e1,zAS,h1]
theorem va {n:Nat}{o4 o6:List Int}(W:B2 c k pos)(V:EA q k)(h4:o4.length=c.cells.length+1)(h6:o6.length=c.cells.length+1)(hb: ∀ j,j<=c.cells.length -> o4.getD j 0=Fn q c pos j)(ha: ∀ j,j<=c.cells.length -> o6.getD j 0=Id q c pos j)(hl:lost.length=pos.length)(hn:c.cells.length+1<=n):
 ∃ l,IE c q pos pos.length lost n (.l2 0 lost o4 o6)=some (true,l)/\ CF c pos lost c.cells.length (fun a s=>Hl q c pos a s=true) l:=by
 have lt: ∀ i,i<c.cells.length -> ((i:Nat):Int)<((c.cells.length:Nat):Int):=fun i hi=>by omega
 have t1:((((c.cells.length:Nat):Int)+1).toNat:Nat)=c.cells.length+1:=by omega
 have Ak:=W.len
 have T:=Hr (fun n (s:List Int) i=>IE c q pos pos.length lost n (.l2 i s o4 o6)) c.cells.length 1
  (fun i s=>CF c pos lost i (fun a s=>Hl q c pos a s=true) s) (fun n i s HM hi hI=>?_) (n:=n) (s:=lost) (by omega) (CF.zero hl)
 ·obtain ⟨n3,l,Ml,_,e2,hL⟩:=T;obtain ⟨n4,rfl⟩: ∃ n4,n3=n4+1:=⟨n3-1,by omega⟩;refine ⟨l,e2.trans ?_,hL⟩
  show Sh n4 (IE c q pos pos.length lost n4) c q pos pos.length lost (c.cells.length:Int) l o4 o6=_
  unfold Sh;rw [zAP (by omega),zAR]
 ·have hc:=W.cells i hi;have hr:=W.r64 hi;have Bz:=W.at hi;have t2:(((i:Int)+1).toNat:Nat)=i+1:=by omega
  obtain ⟨l',e1,n1,f1⟩:=lY (n:=n) (q:=q) W hi hI.1 Ks.s0 (V7 n c (i:Int) q pos pos.length o4 o6) (Hl q c pos i) fun s l hs hl=>by
   have HI:=V.len;have g1:(0:Int)<=(s:Int)/\ (s:Int)<((q.values.length:Nat):Int):=by omega
   have hk:=W.k;have g2:(0:Int)<=(s:Int)/\ (s:Int)<=((IntKind.i64.bits:Nat):Int):=⟨by omega,by show (s:Int)<=64;omega⟩;obtain ⟨l2,e2,_,_⟩:=K6 (lost:=l) (n:=n) (ss:=IntKind.i64.wrap (1*2 ^ s)) (c:=c) (q:=q) hc.1 hc.2 hl;unfold Hl V7 jx V6
   dsimp only
   simp only [zAT,t1,t2,zA8,h4,h6];rw [zAM ⟨g1,by omega,by omega⟩,hb i (by omega),ha (i+1) (by omega)];cases hA:decide (q.values.getD s 0<=Fn q c pos i)
   ·rw [zAR,zAM ⟨Av.2 ⟨by omega,by omega⟩,by omega,by omega⟩,zGD];cases hB:decide (q.values.getD s 0>=Id q c pos (i+1))
    ·rfl
    ·rw [zAV,zAV,zAM g2,e2];rfl
   ·rw [zAV,Bool.true_or,zAV,zAM g2,e2];rfl
  show ∃ s',Sh n (IE c q pos pos.length lost n) c q pos pos.length lost (i:Int) s o4 o6=_/\ _
  unfold Sh;rw [zAU (lt i hi),zAV];simp only [zAT];rw [zAM ⟨⟨by omega,lt i hi⟩,hc,Bz.i63 W.k⟩];refine ⟨l',?_,hI.step n1 f1⟩;refine (congrArg (fun z=>Option.bind z _) e1).trans ?_;rw [zAS];simp only;rw [zAM hr.2]
theorem vb {n:Nat}(W:B2 c k pos)(V:EA q k)(hl:lost.length=pos.length)(hn:2*c.cells.length+3<=n):
 ∃ l,ME n c q pos pos.length lost=some (true,l)/\ CF c pos lost c.cells.length (fun a s=>Hl q c pos a s=true) l:=by
 have lt: ∀ i,i<c.cells.length -> ((i:Nat):Int)<((c.cells.length:Nat):Int):=fun i hi=>by omega
 have t1:((((c.cells.length:Nat):Int)+1).toNat:Nat)=c.cells.length+1:=by omega
 have Ak:=W.len
 have S:=Hr (fun n (s:List Int) i=>IE c q pos pos.length lost n (.l1 i s)) c.cells.length (c.cells.length+3)
  (fun i s=>s.length=c.cells.length+1/\ ∀ j,j<=i -> s.getD j 0=Fn q c pos j) (fun n i s _ hi hI=>?_) (n:=n) (s:=(List.replicate (c.cells.length+1) (0:Int)).set 0 (-1)) (by omega) ⟨by simp,fun j hj=>?_⟩
 ·obtain ⟨n1,o4,F2,_,e1,h4,hb⟩:=S;obtain ⟨n2,rfl⟩: ∃ n2,n1=n2+1:=⟨n1-1,by omega⟩
  have e0:ME n c q pos pos.length lost=IE c q pos pos.length lost n (.l1 0 ((List.replicate (c.cells.length+1) (0:Int)).set 0 (-1))):=by
   unfold ME jm;simp only [t1,zA8,zAw];rw [zAM ⟨Av.2 ⟨by omega,by omega⟩,⟨trivial,by omega,by omega⟩,⟨by omega,by omega⟩,by omega,⟨by omega,by omega⟩,by omega⟩]
  have e2:ME n c q pos pos.length lost=Si n2 (IE c q pos pos.length lost n2) c q pos pos.length lost (c.cells.length:Int) o4:=e0.trans e1;unfold Si at e2;rw [zAP (by omega),zAR,zFb (zA0 Ak (by decide)) (by omega),zAS] at e2;simp only [t1,zA8] at e2
  obtain ⟨o6,e3,h6,ha⟩:=jl (lost:=lost) (n:=n2) (o4:=o4) W V c.cells.length ((List.replicate (c.cells.length+1) (0:Int)).set c.cells.length 100) (zA5 _) (by simp) fun j hj HN=>by
   obtain rfl:j=c.cells.length:=by omega
   rw [KM (by simp)];unfold Id;rw [Nat.sub_self];rfl
  rw [e3,zAS] at e2;obtain ⟨l,e4,hL⟩:=va (n:=n2) W V h4 h6 (fun j hj=>hb j hj) ha hl (by omega);exact ⟨l,e2.trans e4,hL⟩
 ·obtain ⟨h4,hb⟩:=hI;have hc:=W.cells i hi;have hr:=W.r64 hi;have Bz:=W.at hi;have t2:(((i:Int)+1).toNat:Nat)=i+1:=by omega
  show ∃ s',Si n (IE c q pos pos.length lost n) c q pos pos.length lost (i:Int) s=_/\ _
  unfold Si;rw [zAU (lt i hi),zAV];simp only [zAT,t1,t2,zA8];rw [zAM ⟨⟨by omega,lt i hi⟩,hr.2,by omega,by omega,hc,Bz.i63 W.k⟩];refine ⟨s.set (i+1) (Fn q c pos (i+1)),?_,by rw [zBB];exact h4,fun j hj=>?_⟩
  ·refine (congrArg (fun z=>Option.bind z _) (jh Ak hi h4 (Bc (Ab c pos i)) 100 fun e he=>(V.sym W.k Bz e he).1)).trans ?_;rw [zAS];simp only;rw [zAM hr.2,hb i (zA5 _)];rfl
  ·by_cases e:i+1=j
   ·subst e;exact KM (by omega)
   ·rw [getD_set_ne e];exact hb j (by omega)
 ·obtain rfl:j=0:=by omega
  rw [KM (by simp)];rfl
end
section
variable {k:Nat}
theorem kW {T1 T2:Type}(K4:List Int -> Int -> Int -> T1)(QJ:List Int -> Int -> Int -> T2)(f1:Int -> Int -> T1 -> Option T1)(f2:Int -> T2 -> Option T2)(ok:Nat -> Nat -> Bool){a b:Int}(ha:Sm k a)(hb:Sm k b)(hk:k<=16) 
 (h1: ∀ (s t:Nat) (l:List Int) (x y:Int),s<k -> t<k -> f1 s t (K4 l x y)=some (bif ok s t then K4 l (bits .or .i64 x (IntKind.i64.wrap (1*2 ^ s))) (bits .or .i64 y (IntKind.i64.wrap (1*2 ^ t))) else K4 l x y))
 (h2: ∀ (s:Nat) (l:List Int) (x y x' y':Int),s<k -> Bq (f1 s) (Bc b) (K4 l x y)=some (K4 l x' y') -> f2 s (QJ l x y)=some (QJ l x' y')) (l:List Int):
 ∃ x y,Bq f2 (Bc a) (QJ l 0 0)=some (QJ l x y)/\ (∀ u,tb x u=true↔tb a u=true/\ ∃ t,tb b t=true/\ ok u t=true)/\ (∀ u,tb y u=true↔tb b u=true/\ ∃ s,tb a s=true/\ ok s u=true):=by
 have Jy:k<=62:=zA0 hk (by decide)
 have bg: ∀ (s:Nat) (x y:Int),s<k -> ∃ x' y',Bq (f1 s) (Bc b) (K4 l x y)=some (K4 l x' y')/\ (∀ u,tb x' u=true↔tb x u=true∨(u=s/\ ∃ t,tb b t=true/\ ok s t=true))/\ (∀ u,tb y' u=true↔tb y u=true∨(tb b u=true/\ ok s u=true)):=by
  intro s x y hs
  have key:=X7 (f:=f1 s) (fun pre st=>∃ x' y',st=K4 l x' y'/\ (∀ u,tb x' u=true↔tb x u=true∨(u=s/\ ∃ t:Nat,(t:Int)∈pre/\ ok s t=true))/\ (∀ u:Nat,tb y' u=true↔tb y u=true∨((u:Int)∈pre/\ ok s u=true)))
   (Bc b) [] (K4 l x y) ⟨x,y,rfl,fun u=>⟨.inl,fun h=>h.elim id fun ⟨_,t,h,_⟩=>(by cases h)⟩,fun u=>⟨.inl,fun h=>h.elim id fun ⟨h,_⟩=>(by cases h)⟩⟩ ?_
  ·obtain ⟨st,e,x',y',rfl,hx,hy⟩:=key;refine ⟨x',y',e,fun u=>?_,fun u=>?_⟩
   ·rw [hx,zDE];constructor
    ·rintro (h | ⟨e1,t,h,h3⟩)
     ·exact .inl h
     ·obtain ⟨t',e2,_,h4⟩:=(FA hb Jy).1 h;have:t=t':=by omega
      subst this;exact .inr ⟨e1,t,h4,h3⟩
    ·rintro (h | ⟨e1,t,h,h3⟩)
     ·exact .inl h
     ·exact .inr ⟨e1,t,(FA hb Jy).2 ⟨t,rfl,zCd fun CH=>(by rw [hb.hi CH] at h;cases h),h⟩,h3⟩
   ·rw [hy,zDE];constructor
    ·rintro (h | ⟨h,h3⟩)
     ·exact .inl h
     ·obtain ⟨t',e2,_,h4⟩:=(FA hb Jy).1 h;have:u=t':=by omega
      subst this;exact .inr ⟨h4,h3⟩
    ·rintro (h | ⟨h,h3⟩)
     ·exact .inl h
     ·exact .inr ⟨(FA hb Jy).2 ⟨u,rfl,zCd fun CH=>(by rw [hb.hi CH] at h;cases h),h⟩,h3⟩
  ·rintro pre e _ he ⟨x',y',rfl,hx,hy⟩;obtain ⟨t,rfl,ht,_⟩:=(FA hb Jy).1 he;rw [h1 s t l x' y' hs ht];cases ho:ok s t
   ·rw [zAR];refine ⟨_,rfl,x',y',rfl,fun u=>?_,fun u=>?_⟩
    ·rw [hx];constructor
     ·rintro (h | ⟨e1,t',h,h3⟩)
      ·exact .inl h
      ·exact .inr ⟨e1,t',zCW _ h,h3⟩
     ·rintro (h | ⟨e1,t',h,h3⟩)
      ·exact .inl h
      ·rcases zC1.1 h with h | h
       ·exact .inr ⟨e1,t',h,h3⟩
       ·have:t'=t:=by have:=zA1.1 h;omega
        subst this;rw [ho] at h3;cases h3
    ·rw [hy];constructor
     ·rintro (h | ⟨h,h3⟩)
      ·exact .inl h
      ·exact .inr ⟨zCW _ h,h3⟩
     ·rintro (h | ⟨h,h3⟩)
      ·exact .inl h
      ·rcases zC1.1 h with h | h
       ·exact .inr ⟨h,h3⟩
       ·have:u=t:=by have:=zA1.1 h;omega
        subst this;rw [ho] at h3;cases h3
   ·rw [zAV];refine ⟨_,rfl,_,_,rfl,fun u=>?_,fun u=>?_⟩
    ·rw [Kh,zA9,hx,Hh (by omega),zAi];constructor
     ·rintro ((h | ⟨e1,t',h,h3⟩) | rfl)
      ·exact .inl h
      ·exact .inr ⟨e1,t',zCW _ h,h3⟩
      ·exact .inr ⟨rfl,t,zCy _ (.head _),ho⟩
     ·rintro (h | ⟨e1,t',h,h3⟩)
      ·exact .inl (.inl h)
      ·exact .inr e1.symm
    ·rw [Kh,zA9,hy,Hh (by omega),zAi];constructor
     ·rintro ((h | ⟨h,h3⟩) | rfl)
      ·exact .inl h
      ·exact .inr ⟨zCW _ h,h3⟩
      ·exact .inr ⟨zCy _ (.head _),ho⟩
     ·rintro (h | ⟨h,h3⟩)
      ·exact .inl (.inl h)
      ·rcases zC1.1 h with h | h
       ·exact .inl (.inr ⟨h,h3⟩)
       ·exact .inr (by have:=zA1.1 h;omega)
 have key:=X7 (f:=f2) (fun pre st=>∃ x y,st=QJ l x y/\ (∀ u:Nat,tb x u=true↔(u:Int)∈pre/\ ∃ t,tb b t=true/\ ok u t=true)/\ (∀ u,tb y u=true↔tb b u=true/\ ∃ s:Nat,(s:Int)∈pre/\ ok s u=true))
  (Bc a) [] (QJ l 0 0) ⟨0,0,rfl,fun u=>⟨fun h=>absurd h G5,fun ⟨h,_⟩=>(by cases h)⟩,fun u=>⟨fun h=>absurd h G5,fun ⟨_,s,h,_⟩=>(by cases h)⟩⟩ ?_
 ·obtain ⟨st,e,x,y,rfl,hx,hy⟩:=key;refine ⟨x,y,e,fun u=>?_,fun u=>?_⟩
  ·rw [hx,zDE];constructor
   ·rintro ⟨h,h2⟩;obtain ⟨t',e2,_,h4⟩:=(FA ha Jy).1 h;have:u=t':=by omega
    subst this;exact ⟨h4,h2⟩
   ·rintro ⟨h,h2⟩;exact ⟨(FA ha Jy).2 ⟨u,rfl,zCd fun CH=>(by rw [ha.hi CH] at h;cases h),h⟩,h2⟩
  ·rw [hy,zDE];constructor
   ·rintro ⟨h0,s,h,h3⟩;obtain ⟨t',e2,_,h4⟩:=(FA ha Jy).1 h;have:s=t':=by omega
    subst this;exact ⟨h0,s,h4,h3⟩
   ·rintro ⟨h0,s,h,h3⟩;exact ⟨h0,s,(FA ha Jy).2 ⟨s,rfl,zCd fun CH=>(by rw [ha.hi CH] at h;cases h),h⟩,h3⟩
 ·rintro pre e _ he ⟨x,y,rfl,hx,hy⟩;obtain ⟨s,rfl,hs,_⟩:=(FA ha Jy).1 he;obtain ⟨x',y',e1,J1,hy'⟩:=bg s x y hs;refine ⟨_,h2 s l x y x' y' hs e1,x',y',rfl,fun u=>?_,fun u=>?_⟩
  ·rw [J1,hx];constructor
   ·rintro (⟨h,h2⟩ | ⟨rfl,h2⟩)
    ·exact ⟨zCW _ h,h2⟩
    ·exact ⟨zCy _ (.head _),h2⟩
   ·rintro ⟨h,h2⟩;rcases zC1.1 h with h | h
    ·exact .inl ⟨h,h2⟩
    ·have:u=s:=by have:=zA1.1 h;omega
     subst this;exact .inr ⟨rfl,h2⟩
  ·rw [hy',hy];constructor
   ·rintro (⟨h,s',h2,h3⟩ | ⟨h,h2⟩)
    ·exact ⟨h,s',zCW _ h2,h3⟩
    ·exact ⟨h,s,zCy _ (.head _),h2⟩
   ·rintro ⟨h,s',h2,h3⟩;rcases zC1.1 h2 with h2 | h2
    ·exact .inl ⟨h,s',h2,h3⟩
    ·have:s'=s:=by have:=zA1.1 h2;omega
     subst this;exact .inr ⟨h,h3⟩
end
theorem Uw {s:Nat}(hs:s<64)(x:Int):(bits .and .i64 (IntKind.i64.wrap (1*2 ^ s)) x==0)= !tb x s:=by
 rw [zDF,zBA,Lv (GC _ _ _)];constructor
 ·intro h;have:=h s hs;rw [JZ,Hh hs,zAU rfl,zCZ] at this;rw [this];rfl
 ·intro h i hi;rw [JZ,Hh hs]
  by_cases e:s=i
  ·subst e;rw [zAU rfl,zCZ];cases hx:tb x s
   ·rfl
   ·rw [hx] at h;cases h
  ·rw [zAP e,zGF]
def Hp (q:AA)(c:AB)(s t:Nat):Bool:=decide ((if 0-(q.values.getD s 0-q.values.getD t 0)>q.values.getD s 0-q.values.getD t 0 then 0-(q.values.getD s 0-q.values.getD t 0) else q.values.getD s 0-q.values.getD t 0)>=c.lo)
def HD (c:AB)(s t:Nat):Bool:=(!tb c.set s|| !tb c.other t)&&(!tb c.set t|| !tb c.other s)
def GO (ok:Nat -> Nat -> Bool)(c:AB)(pos:List Int)(a s:Nat):Prop:= if a=0 then ¬ ∃ t,tb (Ab c pos 1) t=true/\ ok s t=true else ¬ ∃ t,tb (Ab c pos 0) t=true/\ ok t s=true
section
variable {c:AB} {k:Nat} {pos lost:List Int} {q:AA}
theorem zFt {n ln:Nat}(V:EA q k){s t:Nat}(hs:s<k)(ht:t<k):Yz n s t c q pos ln lost=some (Hp q c s t,lost):=by
 have h1:=V.val s hs;have h2:=V.val t ht;have h3:=V.len;unfold Yz qW;simp only [zAT];rw [zAM ⟨by omega,by omega,Av.2 ⟨by omega,by omega⟩,Av.2 ⟨by omega,by omega⟩⟩];rfl
theorem xd {n ln:Nat}{s t:Nat}(hs:s<64)(ht:t<64):Wm n s t c q pos ln lost=some (HD c s t,lost):=by
 have g: ∀ s:Nat,s<64 -> (0:Int)<=(s:Int)/\ (s:Int)<=((IntKind.i64.bits:Nat):Int):=fun s hs=>⟨by omega,by show (s:Int)<=64;omega⟩
 unfold Wm k9;simp only [zAT];rw [zAM ⟨g s hs,g t ht⟩,Uw hs,Uw hs,Uw ht,Uw ht];unfold HD;cases tb c.set s <;> cases tb c.set t <;> cases tb c.other s <;> cases tb c.other t <;> rfl
theorem kX {n:Nat}(W:B2 c k pos)(h2:c.cells.length=2)(hl:lost.length=pos.length)(ok:Nat -> Nat -> Bool){x y:Int} 
 (hx: ∀ u,tb x u=true↔tb (Ab c pos 0) u=true/\ ∃ t,tb (Ab c pos 1) t=true/\ ok u t=true) (hy: ∀ u,tb y u=true↔tb (Ab c pos 1) u=true/\ ∃ s,tb (Ab c pos 0) s=true/\ ok s u=true):
 ∃ l1 l,Dg n (c.cells.getD 0 0) (bits .xor .i64 (-1) x) c q pos pos.length lost=some l1/\ Dg n (c.cells.getD 1 0) (bits .xor .i64 (-1) y) c q pos pos.length l1=some l/\ CF c pos lost c.cells.length (GO ok c pos) l:=by
 have c0:=W.cells 0 (by omega);have c1:=W.cells 1 (by omega);obtain ⟨l1,e1,n1,f1⟩:=K6 (lost:=lost) (n:=n) (ss:=bits .xor .i64 (-1) x) (c:=c) (q:=q) c0.1 c0.2 hl;obtain ⟨l,e2,n2,f2⟩:=K6 (lost:=l1) (n:=n) (ss:=bits .xor .i64 (-1) y) (c:=c) (q:=q) c1.1 c1.2 n1;refine ⟨l1,l,e1,e2,?_⟩;have lt: ∀ {a:Nat} {s:Nat},a<c.cells.length -> tb (Ab c pos a) s=true -> s<64:=fun {a s} ha h=>zCd fun CH=>by rw [JY CH] at h;cases h
 rw [h2];refine CF.step (i:=1) (l:=l1) (CF.step (i:=0) (l:=lost) (CF.zero hl) n1 fun j s=>?_) n2 fun j s=>?_
 ·rw [f1,zA9,zAW,zAW,zAi];constructor
  ·rintro (h | ⟨rfl,h3,h4⟩)
   ·exact .inl h
   ·refine .inr ⟨rfl,h3,?_⟩;rw [VY _ (lt (a:=0) (by omega) h3)] at h4;unfold GO;rw [zAM rfl];intro h5;rw [(hx s).2 ⟨h3,h5⟩] at h4;cases h4
  ·rintro (h | ⟨rfl,h3,h4⟩)
   ·exact .inl h
   ·refine .inr ⟨rfl,h3,?_⟩;rw [VY _ (lt (a:=0) (by omega) h3)];unfold GO at h4;rw [zAM rfl] at h4;cases hb:tb x s
    ·rfl
    ·exact absurd ((hx s).1 hb).2 h4
 ·rw [f2,zA9,zAW,zAW,zAi];constructor
  ·rintro (h | ⟨rfl,h3,h4⟩)
   ·exact .inl h
   ·refine .inr ⟨rfl,h3,?_⟩;rw [VY _ (lt (a:=1) (by omega) h3)] at h4;unfold GO;rw [zAh (by decide)];intro h5;rw [(hy s).2 ⟨h3,h5⟩] at h4;cases h4
  ·rintro (h | ⟨rfl,h3,h4⟩)
   ·exact .inl h
   ·refine .inr ⟨rfl,h3,?_⟩;rw [VY _ (lt (a:=1) (by omega) h3)];unfold GO at h4;rw [zAh (by decide)] at h4;cases hb:tb y s
    ·rfl
    ·exact absurd ((hy s).1 hb).2 h4
theorem zFu {n:Nat}(W:B2 c k pos)(V:EA q k)(h2:c.cells.length=2)(hl:lost.length=pos.length):
 ∃ l,PQ n c q pos pos.length lost=some (true,l)/\ CF c pos lost c.cells.length (GO (Hp q c) c pos) l:=by
 have c0:=W.cells 0 (by omega);have c1:=W.cells 1 (by omega);have s0:=W.at (a:=0) (by omega);have s1:=W.at (a:=1) (by omega);have hk:=W.k;have g: ∀ s:Nat,s<k -> (0:Int)<=(s:Int)/\ (s:Int)<=((IntKind.i64.bits:Nat):Int):=fun s hs=>⟨by omega,by show (s:Int)<=64;omega⟩
 obtain ⟨x,y,e,hx,hy⟩:=kW Kz.s0 K0.s0 (WZ n c q pos pos.length) (Wa n c q pos pos.length) (Hp q c) s0 s1 hk
  (fun s t l x y hs ht=>by
   unfold WZ ki WY
   dsimp only
   rw [zFt V hs ht,zAS];cases Hp q c s t
   ·rfl
   ·simp only [zAV,zAT];rw [zAM ⟨g s hs,g t ht⟩])
  (fun s l x y x' y' hs he=>by
   unfold Wa kg WX
   dsimp only
   rw [zAM (show 0<=pos.getD (c.cells.getD 1 0).toNat 0/\ pos.getD (c.cells.getD 1 0).toNat 0<9223372036854775808 from s1.i63 hk)];refine (congrArg (fun z=>Option.bind z _) he).trans ?_;rfl) lost
 obtain ⟨l1,l,e1,e2,hL⟩:=kX (n:=n) (q:=q) W h2 hl (Hp q c) hx hy;refine ⟨l,?_,hL⟩;unfold PQ fB ab kf;rw [zAM ⟨by omega,by omega,c0,c1,s0.i63 hk⟩];refine (congrArg (fun z=>Option.bind (Option.bind z _) _) e).trans ?_;rw [zAS];simp only;rw [e1,zAS,e2];rfl
theorem xe {n:Nat}(W:B2 c k pos)(h2:c.cells.length=2)(hl:lost.length=pos.length):
 ∃ l,OG n c q pos pos.length lost=some (true,l)/\ CF c pos lost c.cells.length (GO (HD c) c pos) l:=by
 have c0:=W.cells 0 (by omega);have c1:=W.cells 1 (by omega);have s0:=W.at (a:=0) (by omega);have s1:=W.at (a:=1) (by omega);have hk:=W.k;have g: ∀ s:Nat,s<k -> (0:Int)<=(s:Int)/\ (s:Int)<=((IntKind.i64.bits:Nat):Int):=fun s hs=>⟨by omega,by show (s:Int)<=64;omega⟩
 obtain ⟨x,y,e,hx,hy⟩:=kW Kx.s0 Ky.s0 (WV n c q pos pos.length) (WW n c q pos pos.length) (HD c) s0 s1 hk
  (fun s t l x y hs ht=>by
   unfold WV ka WU
   dsimp only
   rw [xd (by omega) (by omega),zAS];cases HD c s t
   ·rfl
   ·simp only [zAV,zAT];rw [zAM ⟨g s hs,g t ht⟩])
  (fun s l x y x' y' hs he=>by
   unfold WW kZ WT
   dsimp only
   rw [zAM (show 0<=pos.getD (c.cells.getD 1 0).toNat 0/\ pos.getD (c.cells.getD 1 0).toNat 0<9223372036854775808 from s1.i63 hk)];refine (congrArg (fun z=>Option.bind z _) he).trans ?_;rfl) lost
 obtain ⟨l1,l,e1,e2,hL⟩:=kX (n:=n) (q:=q) W h2 hl (HD c) hx hy;refine ⟨l,?_,hL⟩;unfold OG av aa kY;rw [zAM ⟨by omega,by omega,c0,c1,s0.i63 hk⟩];refine (congrArg (fun z=>Option.bind (Option.bind z _) _) e).trans ?_;rw [zAS];simp only;rw [e1,zAS,e2];rfl
end
set_option maxRecDepth 100000
set_option maxHeartbeats 40000000
def iB:ST:=.rd 0 (.rd 1 (.rd 2 (.rd 3 (.rd 4 (.rd 6 (.rd 7 (.rd 8 (.rd 9 (.rd 10 (.ef 5 (.rd 12 (.ef 11 (.rd 13 (.fin [0,1] [0,2,3])) (.no))) (.ef 11 (.ef 5 (.rd 12 (.rd 13 (.fin [1,0] [0,2,3]))) (.no)) (.no))))))))))))
theorem uT:Bv (Aj Tryz.f168 1) [5,11] iB:=by unfold Bv;kernel_rfl
def iA:ST:=.rd 0 (.rd 1 (.rd 2 (.rd 3 (.rd 4 (.rd 5 (.rd 6 (.rd 7 (.rd 8 (.rd 9 (.rd 10 (.rd 11 (.rd 12 (.rd 13 (.rd 14 (.rd 15 (.rd 16 (.rd 17 (.rd 18 (.rd 19 (.rd 20 (.rd 21 (.rd 22 (.rd 23 (.rd 24 (.rd 25 (.rd 26 (.rd 27 (.rd 28 (.rd 29 (.rd 30 (.rd 31 (.rd 32 (.ef 33 (.rd 34 (.ef 35 (.fin [] [0,2,3,30,31,32]) (.no))) (.no))))))))))))))))))))))))))))))))))
theorem uS:Bv (Aj Tryz.f168 5) [33] iA:=by unfold Bv;kernel_rfl
def Jc:Bh:=fun i=>match i with
 | 1=>.tre [5,11] iB
 | 5=>.tre [33] iA
 | _=>.no
def ZR (pos:List Int)(c:AB)(q:AA)(ln:Nat)(lost:List Int):St:=⟨(AG 120 [(0,.ref 0 0),(2,.msl 2 1 0 pos.length),(3,.msl 3 1 0 pos.length)]),([oW c q pos 1 ln,oI lost,some (.bools (List.replicate pos.length false)),some (.bools (List.replicate pos.length false))]:DH)⟩
def gP (pos:List Int)(c:AB)(DT:Int)(q:AA)(ln:Nat)(lost:List Int)(o2 o3:List Bool):St:=⟨(AG 120 [(0,.ref 0 0),(2,.msl 2 1 0 pos.length),(3,.msl 3 1 0 pos.length),(30,.ints c.cells),(31,.i (c.cells.length:Int)),(32,.i DT)]),([oW c q pos 1 ln,oI lost,some (.bools (o2.set (0+((c.cells.getD ((DT).toNat) 0).toNat)) ((bits .and .i64 (pos.getD ((c.cells.getD ((DT).toNat) 0).toNat) 0) c.set) != 0))),some (.bools (o3.set (0+((c.cells.getD ((DT).toNat) 0).toNat)) ((bits .andNot .i64 (pos.getD ((c.cells.getD ((DT).toNat) 0).toNat) 0) c.set)==0)))]:DH)⟩
def nC (c:AB)(q:AA)(pos:List Int)(ln:Nat)(lost:List Int)(o2 o3:List Bool):DH:=[oW c q pos 1 ln,oI lost,some (.bools o2),some (.bools o3)]
def nB (c:AB)(q:AA)(pos:List Int)(ln:Nat)(lost:List Int)(o3:List Bool)(y2:(List Bool)):DH:=[oW c q pos 1 ln,oI lost,none,some (.bools o3),some (.bools y2)]
inductive QD where
 | l1 (DT:Int) (o2 o3:List Bool)
 | l2 (FS:List Bool) (x8:Nat) (H6:List Int) (Lp Gb:Int) (o2 o3:List Bool)
 | l3 (FS:List Bool) (x8:Nat) (Kg GF:Int) (o1:List Int) (o2 o3:List Bool)
def TL (n:Nat)(self:QD -> Option ((List Bool)×(List Bool)×Bool×(List Int)))(c:AB)(q:AA)(pos:List Int)(ln:Nat)(lost:List Int)(DT:Int)(o2 o3:List Bool):Option ((List Bool)×(List Bool)×Bool×(List Int)):= bif (decide (DT<(c.cells.length:Int))) then if (0<=DT/\ DT<(c.cells.length:Int))/\ (0<=(c.cells.getD ((DT).toNat) 0)/\ (c.cells.getD ((DT).toNat) 0)<(pos.length:Int))/\ 0+((c.cells.getD ((DT).toNat) 0).toNat)<o2.length/\ 0+((c.cells.getD ((DT).toNat) 0).toNat)<o3.length/\ AJ (DT+1) then self (.l1 (DT+1) (o2.set (0+((c.cells.getD ((DT).toNat) 0).toNat)) ((bits .and .i64 (pos.getD ((c.cells.getD ((DT).toNat) 0).toNat) 0) c.set) != 0)) (o3.set (0+((c.cells.getD ((DT).toNat) 0).toNat)) ((bits .andNot .i64 (pos.getD ((c.cells.getD ((DT).toNat) 0).toNat) 0) c.set)==0))) else none else if pos.length=o3.length then (XO n o3 true).bind fun y1=> bif (decide (y1<0)) then if pos.length=o2.length then some (o2,o3,false,lost) else none else if pos.length=o2.length then (PF n o2).bind fun y2=> (RC n q.nbrs o2 y1).bind fun y3=> self (.l2 o2 y2.length y3.1 (y3.1.length:Int) 0 o3 y2) else none else none
def TK (n:Nat)(self:QD -> Option ((List Bool)×(List Bool)×Bool×(List Int)))(c:AB)(q:AA)(pos:List Int)(ln:Nat)(lost:List Int)(FS:List Bool)(x8:Nat)(H6:List Int)(Lp Gb:Int)(o2 o3:List Bool):Option ((List Bool)×(List Bool)×Bool×(List Int)):= bif (decide (Gb<Lp)) then if (0<=Gb/\ Gb<(H6.length:Int))/\ (0<=(H6.getD ((Gb).toNat) 0)/\ (H6.getD ((Gb).toNat) 0)<(x8:Int))/\ 0+((H6.getD ((Gb).toNat) 0).toNat)<o3.length/\ AJ (Gb+1) then self (.l2 FS x8 H6 Lp (Gb+1) o2 (o3.set (0+((H6.getD ((Gb).toNat) 0).toNat)) false)) else none else self (.l3 FS x8 (x8:Int) 0 lost o2 o3)
def TJ (n:Nat)(self:QD -> Option ((List Bool)×(List Bool)×Bool×(List Int)))(c:AB)(q:AA)(pos:List Int)(ln:Nat)(lost:List Int)(FS:List Bool)(x8:Nat)(Kg GF:Int)(o1:List Int)(o2 o3:List Bool):Option ((List Bool)×(List Bool)×Bool×(List Int)):= bif (decide (GF<Kg)) then if (0<=GF/\ GF<(x8:Int))/\ 0+((GF).toNat)<o3.length then bif (o3.getD (0+((GF).toNat)) false) then (Dg n GF c.set c q pos ln o1).bind fun y1=> if AJ (GF+1) then self (.l3 FS x8 Kg (GF+1) y1 o2 o3) else none else if AJ (GF+1) then self (.l3 FS x8 Kg (GF+1) o1 o2 o3) else none else none else if pos.length=o2.length then some (FS,o2,true,o1) else none
def lC (n:Nat)(self:QD -> Option ((List Bool)×(List Bool)×Bool×(List Int)))(c:AB)(q:AA)(pos:List Int)(ln:Nat)(lost:List Int):Option ((List Bool)×(List Bool)×Bool×(List Int)):= if ((pos.length:Int):Int)=(pos.length:Int)/\ 0<=(pos.length:Int)/\ ((pos.length:Int):Int)<=1000000000000 then self (.l1 0 (List.replicate pos.length false) (List.replicate pos.length false)) else none
def Et (c:AB)(q:AA)(pos:List Int)(ln:Nat)(lost:List Int):Nat -> QD -> Option ((List Bool)×(List Bool)×Bool×(List Int))
 | 0,_=>none
 | n+1,.l1 DT o2 o3=>TL n (Et c q pos ln lost n) c q pos ln lost DT o2 o3
 | n+1,.l2 FS x8 H6 Lp Gb o2 o3=>TK n (Et c q pos ln lost n) c q pos ln lost FS x8 H6 Lp Gb o2 o3
 | n+1,.l3 FS x8 Kg GF o1 o2 o3=>TJ n (Et c q pos ln lost n) c q pos ln lost FS x8 Kg GF o1 o2 o3
def OH (n:Nat)(c:AB)(q:AA)(pos:List Int)(ln:Nat)(lost:List Int):Option ((List Bool)×(List Bool)×Bool×(List Int)):=lC n (Et c q pos ln lost n) c q pos ln lost
def xl (n B:Nat)(N:Yd 2)(c:AB)(q:AA)(pos:List Int)(ln:Nat)(lost:List Int)(r:(List Bool)×(List Bool)×Bool×(List Int)):QD -> Prop
 | .l1 DT o2 o3=>∀ m0:Nat,n<=m0 -> TW B N (FQ Tryz.f168 2 (.tup 3 (L1 [.bools r.1,.bools r.2.1,.bool r.2.2.1])) [oW c q pos 1 ln,oI r.2.2.2]) (A4 m0 (BB (AX Tryz.f168) 0 [])) ⟨AG 120 [(0,.ref 0 0),(2,.msl 2 1 0 pos.length),(3,.msl 3 1 0 pos.length),(30,.ints c.cells),(31,.i (c.cells.length:Int)),(32,.i DT)],[oW c q pos 1 ln,oI lost,some (.bools o2),some (.bools o3)]⟩
 | .l2 FS x8 H6 Lp Gb o2 o3=>∀ m0:Nat,n<=m0 -> TW B N (FQ Tryz.f168 2 (.tup 3 (L1 [.bools r.1,.bools r.2.1,.bool r.2.2.1])) [oW c q pos 1 ln,oI r.2.2.2]) (A4 m0 (BB (AX Tryz.f168) 2 [])) ⟨AG 120 [(0,.ref 0 0),(2,.bools FS),(3,.msl 2 1 0 pos.length),(8,.msl 3 1 0 x8),(90,.ints H6),(91,.i Lp),(92,.i Gb)],[oW c q pos 1 ln,oI lost,some (.bools o2),some (.bools o3)]⟩
 | .l3 FS x8 Kg GF o1 o2 o3=>∀ m0:Nat,n<=m0 -> TW B N (FQ Tryz.f168 2 (.tup 3 (L1 [.bools r.1,.bools r.2.1,.bool r.2.2.1])) [oW c q pos 1 ln,oI r.2.2.2]) (A4 m0 (BB (AX Tryz.f168) 4 [])) ⟨AG 120 [(0,.ref 0 0),(2,.bools FS),(3,.msl 2 1 0 pos.length),(8,.msl 3 1 0 x8),(101,.i Kg),(102,.i GF)],[oW c q pos 1 ln,oI o1,some (.bools o2),some (.bools o3)]⟩
theorem xm (B:Nat)(N:Yd 2)(c:AB)(q:AA)(pos:List Int)(ln:Nat)(lost:List Int):Al (Et c q pos ln lost) (xl · B N c q pos ln lost):=ia (fun _=>rfl) fun n AI pt r h=>by
 cases pt
 case l1 DT o2 o3=>
  intro m0 AD;refine rd AD fun m0 AD=>?_
  revert r;apply gO
  exact bi 33 (gc (gi (jg uS (gc (gn fun g1=>jg g1 (jg g1 (jg g1 (gc (gi (jg g1 (gc (gi (jg (Eq.refl (gP pos c DT q ln lost o2 o3)) (gw 70 (lG (tg:=[([(33,2)],(gP pos c DT q ln lost o2 o3))]) Jc [0,1,2,3] (AI _ _ · m0 AD)))))))))))))))) (gn fun g0=>cn fun y1 A7=>jc (sb [.msl 3 1 0 pos.length,.bool true] (zAI A7) (nC c q pos ln lost o2 o3) ⟨Ae.bools rfl g0,Ae.plain (by kernel_rfl),trivial⟩) (bi 74 (gn fun g1=>lF fun p=>ez Jc [2,3,4] [0,1,2,3] p [2,3] (H0.g g1 |>.g g0)) (gn fun g1=>cn fun y2 B6=>jc (ES.snapNew (ds:=[.msl 2 1 0 pos.length]) (pd B6) (nC c q pos ln lost o2 o3) ⟨Ae.bools rfl g1,trivial⟩ rfl) (fun p r h=>by
   refine gz (AV 11 Jc) [0,1,2,3,4] p [2] (H0.g g1) (Co (AX Tryz.f168) 11 []) (AG 120 [(0,.ref 0 0),(2,.bools o2),(3,.msl 3 1 0 pos.length),(7,.i y1),(8,.msl 4 1 0 y2.length)]) (nB c q pos ln lost o3 y2) ?_;revert r;apply gO;exact cf zE2 (nB c q pos ln lost o3 y2) fun _=>lN Jc [0,1,3,4] (AI _ _ · n Nat.le.refl)))))
 case l2 FS x8 H6 Lp Gb o2 o3=>
  intro m0 AD;refine rd AD fun m0 AD=>?_
  revert r;apply gO;exact bi 93 (gc (gi (gc (gi (gc (gi (gw 99 (lG Jc [0,1,2,3] (AI _ _ · m0 AD))))))))) (lN Jc [0,1,2,3] (AI _ _ · n Nat.le.refl))
 case l3 FS x8 Kg GF o1 o2 o3=>
  intro m0 AD;refine rd AD fun m0 AD=>?_
  revert r;apply gO;exact bi 103 (gc (gi (gi (bi 108 (ce GS [0,1] [oW c q pos 1 ln,oI o1,some (.bools o2),some (.bools o3)] fun _=>gw 117 (lG Jc [0,1,2,3] (AI _ _ · m0 AD))) (gw 117 (lG Jc [0,1,2,3] (AI _ _ · m0 AD))))))) (gn fun g0=>lF fun p=>ez Jc [2,3,4] [0,1,2] p [2] (H0.g g0))
theorem lB {n:Nat}{c:AB}{q:AA}{pos:List Int}{ln:Nat}{lost:List Int}{r:(List Bool)×(List Bool)×Bool×(List Int)}(h:OH n c q pos ln lost=some r):EQ 168 [.ref 0 0] [oW c q pos 1 ln,oI lost] (.tup 3 (L1 [.bools r.1,.bools r.2.1,.bool r.2.2.1])) [oW c q pos 1 ln,oI r.2.2.2] false:=by
 refine ot Tryz.func168 fun B N=>?_
 revert r;apply gO;exact jg uT (gn fun g0=>jg g0 (jg g0 (jg (Eq.refl (ZR pos c q ln lost)) (jg g0 (jg g0 (jg (Eq.refl (ZR pos c q ln lost)) (lN (tg:=[([],(ZR pos c q ln lost))]) Jc [0,1,2,3] ((xm B N c q pos ln lost n) _ _ · n Nat.le.refl))))))))
inductive Yc where
 | l1 (x3 x4:List Bool) (x5:Bool) (Aa BG:Int) (o1:List Int)
def Uq (n:Nat)(self:Yc -> Option (Bool×(List Int)))(c:AB)(q:AA)(pos:List Int)(ln:Nat)(lost:List Int)(x3 x4:List Bool)(x5:Bool)(Aa BG:Int)(o1:List Int):Option (Bool×(List Int)):= bif (decide (BG<Aa)) then bif (!x5) then if AJ (BG+1) then self (.l1 x3 x4 x5 Aa (BG+1) o1) else none else if 0<=BG/\ BG<(x3.length:Int) then bif (!(x3.getD ((BG).toNat) false)) then if AJ (BG+1) then self (.l1 x3 x4 x5 Aa (BG+1) o1) else none else if 0<=BG/\ BG<(x4.length:Int) then bif (x4.getD ((BG).toNat) false) then if AJ (BG+1) then self (.l1 x3 x4 x5 Aa (BG+1) o1) else none else (Ng n q.nbrs x3 x4 BG).bind fun y1=> bif y1.1 then (Gj n BG c q pos ln o1).bind fun y2=> if AJ (BG+1) then self (.l1 x3 x4 x5 Aa (BG+1) y2) else none else if AJ (BG+1) then self (.l1 x3 x4 x5 Aa (BG+1) o1) else none else none else none else some (true,o1)
def zEu (n:Nat)(self:Yc -> Option (Bool×(List Int)))(c:AB)(q:AA)(pos:List Int)(ln:Nat)(lost:List Int):Option (Bool×(List Int)):= (OH n c q pos ln lost).bind fun y1=> self (.l1 y1.1 y1.2.1 y1.2.2.1 (y1.1.length:Int) 0 y1.2.2.2)
def NC (c:AB)(q:AA)(pos:List Int)(ln:Nat)(lost:List Int):Nat -> Yc -> Option (Bool×(List Int))
 | 0,_=>none
 | n+1,.l1 x3 x4 x5 Aa BG o1=>Uq n (NC c q pos ln lost n) c q pos ln lost x3 x4 x5 Aa BG o1
def Ye (n:Nat)(c:AB)(q:AA)(pos:List Int)(ln:Nat)(lost:List Int):Option (Bool×(List Int)):=zEu n (NC c q pos ln lost n) c q pos ln lost
def zEv (n B:Nat)(N:Yd 2)(c:AB)(q:AA)(pos:List Int)(ln:Nat)(lost:List Int)(r:Bool×(List Int)):Yc -> Prop
 | .l1 x3 x4 x5 Aa BG o1=>∀ m0:Nat,n<=m0 -> TW B N (FQ Tryz.f139 2 (.bool r.1) [oW c q pos 1 ln,oI r.2]) (A4 m0 (BB (AX Tryz.f139) 0 [])) ⟨AG 52 [(0,.ref 0 0),(3,.bools x3),(4,.bools x4),(5,.bool x5),(16,.i Aa),(17,.i BG)],[oW c q pos 1 ln,oI o1]⟩
theorem zEw (B:Nat)(N:Yd 2)(c:AB)(q:AA)(pos:List Int)(ln:Nat)(lost:List Int):Al (NC c q pos ln lost) (zEv · B N c q pos ln lost):=ia (fun _=>rfl) fun n AI pt r h=>by
 cases pt
 case l1 x3 x4 x5 Aa BG o1=>
  intro m0 AD;refine rd AD fun m0 AD=>?_
  revert r;apply gO;exact bi 18 (bi 21 (gw 51 (lG AC [0,1] (AI _ _ · m0 AD))) (gi (bi 27 (gw 51 (lG AC [0,1] (AI _ _ · m0 AD))) (gi (bi 33 (gw 51 (lG AC [0,1] (AI _ _ · m0 AD))) (cf sH [oW c q pos 1 ln,oI o1] fun _=>bi 45 (ce MP [0,1] [oW c q pos 1 ln,oI o1] fun _=>gw 51 (lG AC [0,1] (AI _ _ · m0 AD))) (gw 51 (lG AC [0,1] (AI _ _ · m0 AD))))))))) (lE AC [2] [0,1])
theorem zEt {n:Nat}{c:AB}{q:AA}{pos:List Int}{ln:Nat}{lost:List Int}{r:Bool×(List Int)}(h:Ye n c q pos ln lost=some r):EQ 139 [.ref 0 0] [oW c q pos 1 ln,oI lost] (.bool r.1) [oW c q pos 1 ln,oI r.2] false:=by
 refine ot Tryz.func139 fun B N=>?_
 revert r;apply gO;exact ce lB [0,1] [oW c q pos 1 ln,oI lost] fun _=>lN AC [0,1] ((zEw B N c q pos ln lost n) _ _ · n Nat.le.refl)
inductive MV where
 | l1 (x3 x4:List Bool) (x20 x21:Int) (o1:List Int)
 | l2 (x3 x4:List Bool) (x8 x20 x21:Int) (BN:List Int) (CK BF:Int) (o1:List Int)
 | l3 (x3 x4:List Bool) (x7:Nat) (x8 x20 x21:Int) (BN:List Int) (CK BF:Int) (o1 o2:List Int)
 | l4 (x3 x4:List Bool) (x7:Nat) (x8 x20 x21:Int) (He:Nat) (Hd Am:Int) (o1 o2:List Int)
def TX (n:Nat)(self:MV -> Option (Bool×(List Int)))(c:AB)(q:AA)(pos:List Int)(ln:Nat)(lost:List Int)(x3 x4:List Bool)(x20 x21:Int)(o1:List Int):Option (Bool×(List Int)):= bif (decide (x21<x20)) then if 0<=x21/\ x21<(x4.length:Int) then bif (!(x4.getD ((x21).toNat) false)) then if AJ (x21+1) then self (.l1 x3 x4 x20 (x21+1) o1) else none else if 0<=x21/\ x21<(q.nbrs.length:Int) then self (.l2 x3 x4 0 x20 x21 (q.nbrs.getD ((x21).toNat) []) (((q.nbrs.getD ((x21).toNat) []).length:Nat):Int) 0 o1) else none else none else some (true,o1)
def TV (n:Nat)(self:MV -> Option (Bool×(List Int)))(c:AB)(q:AA)(pos:List Int)(ln:Nat)(lost:List Int)(x3 x4:List Bool)(x8 x20 x21:Int)(BN:List Int)(CK BF:Int)(o1:List Int):Option (Bool×(List Int)):= bif (decide (BF<CK)) then if (0<=BF/\ BF<(BN.length:Int))/\ (0<=(BN.getD ((BF).toNat) 0)/\ (BN.getD ((BF).toNat) 0)<(x3.length:Int)) then bif (x3.getD ((BN.getD ((BF).toNat) 0).toNat) false) then if ((0=0/\ 1=([BN.getD ((BF).toNat) 0]:List Int).length)/\ 0<([BN.getD ((BF).toNat) 0]:List Int).length/\ ([BN.getD ((BF).toNat) 0]:List Int).length<=BA)/\ (0<=(BN.getD ((BF).toNat) 0)/\ (BN.getD ((BF).toNat) 0)<(x4.length:Int)) then bif (x4.getD ((BN.getD ((BF).toNat) 0).toNat) false) then if AJ (x8+1)/\ AJ (BF+1) then self (.l3 x3 x4 (([BN.getD ((BF).toNat) 0]:List Int).length) (x8+1) x20 x21 BN CK (BF+1) o1 ([BN.getD ((BF).toNat) 0]:List Int)) else none else if AJ (BF+1) then self (.l3 x3 x4 (([BN.getD ((BF).toNat) 0]:List Int).length) x8 x20 x21 BN CK (BF+1) o1 ([BN.getD ((BF).toNat) 0]:List Int)) else none else none else if 0<=(BN.getD ((BF).toNat) 0)/\ (BN.getD ((BF).toNat) 0)<(x4.length:Int) then bif (x4.getD ((BN.getD ((BF).toNat) 0).toNat) false) then if AJ (x8+1)/\ AJ (BF+1) then self (.l2 x3 x4 (x8+1) x20 x21 BN CK (BF+1) o1) else none else if AJ (BF+1) then self (.l2 x3 x4 x8 x20 x21 BN CK (BF+1) o1) else none else none else none else some (false,o1)
def OM (n:Nat)(self:MV -> Option (Bool×(List Int)))(c:AB)(q:AA)(pos:List Int)(ln:Nat)(lost:List Int)(x3 x4:List Bool)(x7:Nat)(x8 x20 x21:Int)(BN:List Int)(CK BF:Int)(o1 o2:List Int):Option (Bool×(List Int)):= bif (decide (BF<CK)) then if (0<=BF/\ BF<(BN.length:Int))/\ (0<=(BN.getD ((BF).toNat) 0)/\ (BN.getD ((BF).toNat) 0)<(x3.length:Int)) then bif (x3.getD ((BN.getD ((BF).toNat) 0).toNat) false) then if ((0=0/\ 1=([BN.getD ((BF).toNat) 0]:List Int).length)/\ (0=0/\ x7=o2.length)/\ o2.length+([BN.getD ((BF).toNat) 0]:List Int).length<=BA)/\ (0<=(BN.getD ((BF).toNat) 0)/\ (BN.getD ((BF).toNat) 0)<(x4.length:Int)) then bif (x4.getD ((BN.getD ((BF).toNat) 0).toNat) false) then if AJ (x8+1)/\ AJ (BF+1) then self (.l3 x3 x4 (o2.length+([BN.getD ((BF).toNat) 0]:List Int).length) (x8+1) x20 x21 BN CK (BF+1) o1 (o2++([BN.getD ((BF).toNat) 0]:List Int))) else none else if AJ (BF+1) then self (.l3 x3 x4 (o2.length+([BN.getD ((BF).toNat) 0]:List Int).length) x8 x20 x21 BN CK (BF+1) o1 (o2++([BN.getD ((BF).toNat) 0]:List Int))) else none else none else if 0<=(BN.getD ((BF).toNat) 0)/\ (BN.getD ((BF).toNat) 0)<(x4.length:Int) then bif (x4.getD ((BN.getD ((BF).toNat) 0).toNat) false) then if AJ (x8+1)/\ AJ (BF+1) then self (.l3 x3 x4 x7 (x8+1) x20 x21 BN CK (BF+1) o1 o2) else none else if AJ (BF+1) then self (.l3 x3 x4 x7 x8 x20 x21 BN CK (BF+1) o1 o2) else none else none else none else bif (decide ((x7:Int)<2)) then some (false,o1) else bif (decide (x8>2)) then some (false,o1) else self (.l4 x3 x4 x7 x8 x20 x21 x7 (x7:Int) 0 o1 o2)
def TU (n:Nat)(self:MV -> Option (Bool×(List Int)))(c:AB)(q:AA)(pos:List Int)(ln:Nat)(lost:List Int)(x3 x4:List Bool)(x7:Nat)(x8 x20 x21:Int)(He:Nat)(Hd Am:Int)(o1 o2:List Int):Option (Bool×(List Int)):= bif (decide (Am<Hd)) then if (0<=Am/\ Am<(He:Int))/\ 0+((Am).toNat)<o2.length then bif ((x7:Int)==2) then (Gj n (o2.getD (0+((Am).toNat)) 0) c q pos ln o1).bind fun y1=> bif (x8==2) then if 0<=(o2.getD (0+((Am).toNat)) 0)/\ (o2.getD (0+((Am).toNat)) 0)<(x4.length:Int) then bif (!(x4.getD ((o2.getD (0+((Am).toNat)) 0).toNat) false)) then (Dg n (o2.getD (0+((Am).toNat)) 0) c.set c q pos ln y1).bind fun y2=> if AJ (Am+1) then self (.l4 x3 x4 x7 x8 x20 x21 He Hd (Am+1) y2 o2) else none else if AJ (Am+1) then self (.l4 x3 x4 x7 x8 x20 x21 He Hd (Am+1) y1 o2) else none else none else if AJ (Am+1) then self (.l4 x3 x4 x7 x8 x20 x21 He Hd (Am+1) y1 o2) else none else bif (x8==2) then if 0<=(o2.getD (0+((Am).toNat)) 0)/\ (o2.getD (0+((Am).toNat)) 0)<(x4.length:Int) then bif (!(x4.getD ((o2.getD (0+((Am).toNat)) 0).toNat) false)) then (Dg n (o2.getD (0+((Am).toNat)) 0) c.set c q pos ln o1).bind fun y1=> if AJ (Am+1) then self (.l4 x3 x4 x7 x8 x20 x21 He Hd (Am+1) y1 o2) else none else if AJ (Am+1) then self (.l4 x3 x4 x7 x8 x20 x21 He Hd (Am+1) o1 o2) else none else none else if AJ (Am+1) then self (.l4 x3 x4 x7 x8 x20 x21 He Hd (Am+1) o1 o2) else none else none else if AJ (x21+1) then self (.l1 x3 x4 x20 (x21+1) o1) else none
def ye (n:Nat)(self:MV -> Option (Bool×(List Int)))(c:AB)(q:AA)(pos:List Int)(ln:Nat)(lost:List Int):Option (Bool×(List Int)):= (OH n c q pos ln lost).bind fun y1=> self (.l1 y1.1 y1.2.1 (y1.2.1.length:Int) 0 y1.2.2.2)
def Cl (c:AB)(q:AA)(pos:List Int)(ln:Nat)(lost:List Int):Nat -> MV -> Option (Bool×(List Int))
 | 0,_=>none
 | n+1,.l1 x3 x4 x20 x21 o1=>TX n (Cl c q pos ln lost n) c q pos ln lost x3 x4 x20 x21 o1
 | n+1,.l2 x3 x4 x8 x20 x21 BN CK BF o1=>TV n (Cl c q pos ln lost n) c q pos ln lost x3 x4 x8 x20 x21 BN CK BF o1
 | n+1,.l3 x3 x4 x7 x8 x20 x21 BN CK BF o1 o2=>OM n (Cl c q pos ln lost n) c q pos ln lost x3 x4 x7 x8 x20 x21 BN CK BF o1 o2
 | n+1,.l4 x3 x4 x7 x8 x20 x21 He Hd Am o1 o2=>TU n (Cl c q pos ln lost n) c q pos ln lost x3 x4 x7 x8 x20 x21 He Hd Am o1 o2
def Wt (n:Nat)(c:AB)(q:AA)(pos:List Int)(ln:Nat)(lost:List Int):Option (Bool×(List Int)):=ye n (Cl c q pos ln lost n) c q pos ln lost
def yf (n B:Nat)(N:Yd 2)(c:AB)(q:AA)(pos:List Int)(ln:Nat)(lost:List Int)(r:Bool×(List Int)):MV -> Prop
 | .l1 x3 x4 x20 x21 o1=>∀ m0:Nat,n<=m0 -> TW B N (FQ Tryz.f140 2 (.bool r.1) [oW c q pos 1 ln,oI r.2]) (A4 m0 (BB (AX Tryz.f140) 0 [])) ⟨AG 95 [(0,.ref 0 0),(3,.bools x3),(4,.bools x4),(20,.i x20),(21,.i x21)],[oW c q pos 1 ln,oI o1]⟩
 | .l2 x3 x4 x8 x20 x21 BN CK BF o1=>∀ m0 m1:Nat,n<=m0 -> n<=m1 -> TW B N (FQ Tryz.f140 2 (.bool r.1) [oW c q pos 1 ln,oI r.2]) (A4 m1 (BB (AX Tryz.f140) 2 [m0])) ⟨AG 95 [(0,.ref 0 0),(3,.bools x3),(4,.bools x4),(7,.nils),(8,.i x8),(20,.i x20),(21,.i x21),(36,.ints BN),(37,.i CK),(38,.i BF)],[oW c q pos 1 ln,oI o1]⟩
 | .l3 x3 x4 x7 x8 x20 x21 BN CK BF o1 o2=>∀ m0 m1:Nat,n<=m0 -> n<=m1 -> TW B N (FQ Tryz.f140 2 (.bool r.1) [oW c q pos 1 ln,oI r.2]) (A4 m1 (BB (AX Tryz.f140) 2 [m0])) ⟨AG 95 [(0,.ref 0 0),(3,.bools x3),(4,.bools x4),(7,.msl 2 1 0 x7),(8,.i x8),(20,.i x20),(21,.i x21),(36,.ints BN),(37,.i CK),(38,.i BF)],[oW c q pos 1 ln,oI o1,oI o2]⟩
 | .l4 x3 x4 x7 x8 x20 x21 He Hd Am o1 o2=>∀ m0 m1:Nat,n<=m0 -> n<=m1 -> TW B N (FQ Tryz.f140 2 (.bool r.1) [oW c q pos 1 ln,oI r.2]) (A4 m1 (BB (AX Tryz.f140) 4 [m0])) ⟨AG 95 [(0,.ref 0 0),(3,.bools x3),(4,.bools x4),(7,.msl 2 1 0 x7),(8,.i x8),(20,.i x20),(21,.i x21),(64,.msl 2 1 0 He),(65,.i Hd),(66,.i Am)],[oW c q pos 1 ln,oI o1,oI o2]⟩
theorem yg (B:Nat)(N:Yd 2)(c:AB)(q:AA)(pos:List Int)(ln:Nat)(lost:List Int):Al (Cl c q pos ln lost) (yf · B N c q pos ln lost):=ia (fun _=>rfl) fun n AI pt r h=>by
 cases pt
 case l1 x3 x4 x20 x21 o1=>
  intro m0 AD;refine rd AD fun m0 AD=>?_
  revert r;apply gO;exact bi 22 (gi (bi 28 (gw 94 (lG AC [0,1] (AI _ _ · m0 AD))) (gi (lN AC [0,1] (AI _ _ · m0 n AD Nat.le.refl))))) (lE AC [2] [0,1])
 case l2 x3 x4 x8 x20 x21 BN CK BF o1=>
  intro m0 m1 AD Ax;have AD:=zC3 AD;refine rd Ax fun m1 Ax=>?_
  revert r;apply gO;exact bi 39 (gc (gi (gi (bi 45 (gc (gi (gi (bi 53 (gc (gw 55 (gw 56 (lG AC [0,1,3] (AI _ _ · m0 m1 AD Ax))))) (gw 56 (lG AC [0,1,3] (AI _ _ · m0 m1 AD Ax))))))) (gi (bi 53 (gc (gw 55 (gw 56 (lG AC [0,1] (AI _ _ · m0 m1 AD Ax))))) (gw 56 (lG AC [0,1] (AI _ _ · m0 m1 AD Ax))))))))) (lE AC [2] [0,1])
 case l3 x3 x4 x7 x8 x20 x21 BN CK BF o1 o2=>
  intro m0 m1 AD Ax;have AD:=zC3 AD;refine rd Ax fun m1 Ax=>?_
  revert r;apply gO;exact bi 39 (gc (gi (gi (bi 45 (gc (gi (gi (bi 53 (gc (gw 55 (gw 56 (lG AC [0,1,4] (AI _ _ · m0 m1 AD Ax))))) (gw 56 (lG AC [0,1,4] (AI _ _ · m0 m1 AD Ax))))))) (gi (bi 53 (gc (gw 55 (gw 56 (lG AC [0,1,2] (AI _ _ · m0 m1 AD Ax))))) (gw 56 (lG AC [0,1,2] (AI _ _ · m0 m1 AD Ax))))))))) (bi 59 (lE AC [2] [0,1]) (bi 62 (lE AC [2] [0,1]) (lN AC [0,1,2] (AI _ _ · m0 n AD Nat.le.refl))))
 case l4 x3 x4 x7 x8 x20 x21 He Hd Am o1 o2=>
  intro m0 m1 AD Ax;have AD:=zC3 AD;refine rd Ax fun m1 Ax=>?_
  revert r;apply gO;exact bi 67 (gc (gi (gi (bi 72 (ce MP [0,1] [oW c q pos 1 ln,oI o1,oI o2] fun y1=>bi 77 (gi (bi 83 (ce GS [0,1] [oW c q pos 1 ln,oI y1,oI o2] fun _=>gw 93 (lG AC [0,1,2] (AI _ _ · m0 m1 AD Ax))) (gw 93 (lG AC [0,1,2] (AI _ _ · m0 m1 AD Ax))))) (gw 93 (lG AC [0,1,2] (AI _ _ · m0 m1 AD Ax)))) (bi 77 (gi (bi 83 (ce GS [0,1] [oW c q pos 1 ln,oI o1,oI o2] fun _=>gw 93 (lG AC [0,1,2] (AI _ _ · m0 m1 AD Ax))) (gw 93 (lG AC [0,1,2] (AI _ _ · m0 m1 AD Ax))))) (gw 93 (lG AC [0,1,2] (AI _ _ · m0 m1 AD Ax)))))))) (gw 94 (lG AC [0,1] (AI _ _ · m0 AD)))
theorem yc {n:Nat}{c:AB}{q:AA}{pos:List Int}{ln:Nat}{lost:List Int}{r:Bool×(List Int)}(h:Wt n c q pos ln lost=some r):EQ 140 [.ref 0 0] [oW c q pos 1 ln,oI lost] (.bool r.1) [oW c q pos 1 ln,oI r.2] false:=by
 refine ot Tryz.func140 fun B N=>?_
 revert r;apply gO;exact ce lB [0,1] [oW c q pos 1 ln,oI lost] fun _=>lN AC [0,1] ((yg B N c q pos ln lost n) _ _ · n Nat.le.refl)
end Go.Proofs.YtkjbblkieglmlaaGreatDoor
namespace Go.Proofs.YtkjbblkieglmlaaGreatDoor
open Go.RowKit
set_option maxRecDepth 100000
set_option maxHeartbeats 40000000
def iD:ST:=.rd 0 (.rd 1 (.rd 2 (.rd 3 (.rd 4 (.rd 5 (.rd 6 (.rd 7 (.rd 8 (.rd 9 (.rd 10 (.rd 11 (.rd 12 (.rd 13 (.rd 14 (.rd 15 (.rd 16 (.rd 17 (.rd 18 (.rd 19 (.rd 20 (.rd 21 (.rd 22 (.rd 23 (.rd 24 (.rd 25 (.rd 26 (.rd 27 (.rd 28 (.ef 29 (.rd 30 (.fin [] [5,6])) (.no))))))))))))))))))))))))))))))
theorem uX:Bv (Aj Tryz.f163 2) [29] iD:=by unfold Bv;kernel_rfl
def iC:ST:=.rd 0 (.rd 1 (.rd 2 (.rd 3 (.rd 4 (.rd 5 (.rd 6 (.rd 7 (.rd 8 (.rd 9 (.rd 10 (.rd 11 (.rd 12 (.rd 13 (.rd 14 (.rd 15 (.ef 16 (.rd 17 (.fin [] [5,6])) (.no)))))))))))))))))
theorem uW:Bv (Aj Tryz.f163 5) [16] iC:=by unfold Bv;kernel_rfl
def Vs:Bh:=fun i=>match i with
 | 2=>.tre [29] iD
 | 5=>.tre [16] iC
 | _=>.no
def gU (s_:Int×Int)(c:AB)(q:AA)(pos:List Int)(ln:Nat)(lost:List Int):St:=⟨(AG 59 [(5,.ref 4 0),(6,.bool (decide (s_.2<(c.runs.getD ((s_.1).toNat) 0))))]),([oC [.ref 1 0],oW c q pos 2 ln,oI lost,oC [.i s_.1,.i s_.2],oC [.i s_.1,.i (s_.2+1)]]:DH)⟩
def gR (c:AB)(q:AA)(pos:List Int)(ln:Nat)(lost:List Int)(s_:Int×Int):St:=⟨(AG 59 [(5,.ref 4 0),(6,.bool false)]),([oC [.ref 1 0],oW c q pos 2 ln,oI lost,oC [.i s_.1,.i s_.2],oC [.i s_.1,.i (s_.2+1)]]:DH)⟩
def gQ (s_:Int×Int)(c:AB)(q:AA)(pos:List Int)(ln:Nat)(lost:List Int):St:=⟨(AG 59 [(5,.ref 4 0),(6,.bool (s_.2==(c.runs.getD ((s_.1).toNat) 0)))]),([oC [.ref 1 0],oW c q pos 2 ln,oI lost,oC [.i s_.1,.i s_.2],oC [.i (s_.1+1),.i 0]]:DH)⟩
def lK (n:Nat)(s_:Int×Int)(AT:Bool)(c:AB)(q:AA)(pos:List Int)(ln:Nat)(lost:List Int):Option ((Int×Int)×Bool×(List Int)):= bif AT then if AJ (s_.2+1) then bif (decide (s_.1<(c.runs.length:Int))) then if 0<=s_.1/\ s_.1<(c.runs.length:Int) then some ((s_.1,(s_.2+1)),(decide (s_.2<(c.runs.getD ((s_.1).toNat) 0))),lost) else none else some ((s_.1,(s_.2+1)),false,lost) else none else bif (s_.2==0) then some ((s_.1,s_.2),true,lost) else if AJ (s_.1+1)/\ (0<=s_.1/\ s_.1<(c.runs.length:Int)) then some (((s_.1+1),0),(s_.2==(c.runs.getD ((s_.1).toNat) 0)),lost) else none
def TQ (n:Nat)(s_:Int×Int)(AT:Bool)(c:AB)(q:AA)(pos:List Int)(ln:Nat)(lost:List Int):Option ((Int×Int)×Bool×(List Int)):=lK n s_ AT c q pos ln lost
theorem MR {n:Nat}{s_:Int×Int}{AT:Bool}{c:AB}{q:AA}{pos:List Int}{ln:Nat}{lost:List Int}{r:(Int×Int)×Bool×(List Int)}(h:TQ n s_ AT c q pos ln lost=some r):EQ 163 [.agg 2 (L1 [.i s_.1,.i s_.2]),.bool AT,.ref 0 0] [oC [.ref 1 0],oW c q pos 2 ln,oI lost] (.tup 2 (L1 [.agg 2 (L1 [.i r.1.1,.i r.1.2]),.bool r.2.1])) [oC [.ref 1 0],oW c q pos 2 ln,oI r.2.2] false:=by
 refine ot Tryz.func163 fun B N=>?_
 revert r;apply gO;exact bi 8 (jg uX (gw 13 (bi 23 (gi (jt (jg (Eq.refl (gU s_ c q pos ln lost)) (lE (tg:=[([(29,4)],(gU s_ c q pos ln lost))]) Vs [5,6] [0,1,2,4])))) (jt (jg (Eq.refl (gR c q pos ln lost s_)) (lE (tg:=[([(29,4)],(gR c q pos ln lost s_))]) Vs [5,6] [0,1,2,4])))))) (bi 41 (jt (lE Vs [5,6] [0,1,2,4])) (jg uW (gc (gw 45 (gi (jt (jg (Eq.refl (gQ s_ c q pos ln lost)) (lE (tg:=[([(16,4)],(gQ s_ c q pos ln lost))]) Vs [5,6] [0,1,2,4]))))))))
theorem ug:As (Aj Tryz.f164 2) [] (List.range 22) []:=by unfold As;kernel_rfl
theorem uf:As (Aj Tryz.f164 3) [] (List.range 22) []:=by unfold As;kernel_rfl
def jE:Bh:=fun i=>match i with
 | 2=>.ord [] (List.range 22) []
 | 3=>.ord [] (List.range 22) []
 | _=>.no
def mE (n:Nat)(i_:Int)(AT:Bool)(c:AB)(q:AA)(pos:List Int)(ln:Nat)(lost:List Int):Option (Bool×(List Int)):= bif AT then if (0<=i_/\ i_<(c.cells.length:Int))/\ (0<=(c.cells.getD ((i_).toNat) 0)/\ (c.cells.getD ((i_).toNat) 0)<(pos.length:Int)) then some (((bits .and .i64 (pos.getD ((c.cells.getD ((i_).toNat) 0).toNat) 0) c.set) != 0),lost) else none else if (0<=i_/\ i_<(c.cells.length:Int))/\ (0<=(c.cells.getD ((i_).toNat) 0)/\ (c.cells.getD ((i_).toNat) 0)<(pos.length:Int)) then some (((bits .andNot .i64 (pos.getD ((c.cells.getD ((i_).toNat) 0).toNat) 0) c.set) != 0),lost) else none
def Te (n:Nat)(i_:Int)(AT:Bool)(c:AB)(q:AA)(pos:List Int)(ln:Nat)(lost:List Int):Option (Bool×(List Int)):=mE n i_ AT c q pos ln lost
theorem W7 {n:Nat}{i_:Int}{AT:Bool}{c:AB}{q:AA}{pos:List Int}{ln:Nat}{lost:List Int}{r:Bool×(List Int)}(h:Te n i_ AT c q pos ln lost=some r):EQ 164 [.i i_,.bool AT,.ref 0 0] [oC [.ref 1 0],oW c q pos 2 ln,oI lost] (.bool r.1) [oC [.ref 1 0],oW c q pos 2 ln,oI r.2] false:=by
 refine ot Tryz.func164 fun B N=>?_
 revert r;apply gO;exact bi 6 (jg ug (gc (gi (gi (lE jE [5] [0,1,2]))))) (jg uf (gc (gi (gi (lE jE [5] [0,1,2])))))
theorem tz:As (Aj Tryz.f136 24) [] (List.range 6) [6]:=by unfold As;kernel_rfl
def gv:ST:=.rd 0 (.rd 1 (.rd 2 (.rd 3 (.rd 4 (.rd 5 (.rd 6 (.rd 7 (.rd 8 (.rd 9 (.rd 10 (.rd 11 (.rd 12 (.rd 13 (.ef 14 (.fin [] [1,3,5,7,14,16,18]) (.no)))))))))))))))
theorem jL:Bv (Aj Tryz.f136 49) [] gv:=by unfold Bv;kernel_rfl
def gu:ST:=.rd 0 (.rd 1 (.rd 2 (.rd 3 (.rd 4 (.rd 5 (.rd 6 (.rd 7 (.rd 8 (.ef 9 (.fin [] [1,3,5,7,14,16]) (.no))))))))))
theorem Zu:Bv (Aj Tryz.f136 51) [] gu:=by unfold Bv;kernel_rfl
def CW:Bh:=fun i=>match i with
 | 24=>.ord [] (List.range 6) [6]
 | 49=>.tre [] gv
 | 51=>.tre [] gu
 | _=>.no
def cR (c:AB)(q:AA)(pos:List Int)(ln:Nat)(o1:List Int)(o3:List (Option KS)):DH:=[oW c q pos 1 ln,oI o1,oC [.ref 0 0],some (.mo (.sets 2 o3 none))]
def zBe (c:AB)(q:AA)(pos:List Int)(ln:Nat)(o1:List Int)(o3:List (Option KS))(Aw:Int)(gk:LK):DH:=[oW c q pos 1 ln,oI o1,oC [.ref 0 0],some (.mo (.sets 2 o3 (some (0+((Aw).toNat),gk))))]
def zBY (c:AB)(q:AA)(pos:List Int)(ln:Nat)(o1:List Int)(o3:List (Option KS))(Ah:Nat)(gk:LK)(o4:KS):DH:=[oW c q pos 1 ln,oI o1,oC [.ref 0 0],some (.mo (.sets 2 o3 (some (Ah,gk)))),some (.mo (.mit 2 gk.1 gk.2.1 gk.2.2 o4 none))]
def m6 (c:AB)(q:AA)(pos:List Int)(ln:Nat)(o1:List Int)(o3:List (Option KS))(Ah:Nat)(gk:LK)(o4:KS)(y1:List Int):DH:=[oW c q pos 1 ln,oI o1,oC [.ref 0 0],some (.mo (.sets 2 o3 (some (Ah,gk)))),some (.mo (.mit 2 gk.1 gk.2.1 gk.2.2 (o4.erase y1) (some y1)))]
def cO (c:AB)(q:AA)(pos:List Int)(ln:Nat)(o1:List Int)(o3:List (Option KS))(o4:KS):DH:=[oW c q pos 1 ln,oI o1,oC [.ref 0 0],some (.mo (.sets 2 o3 none)),some (.mo (.set 2 o4)),some (.mo (.set 2 ([]:KS))),oC [.bool false,.bool false]]
def zBW (c:AB)(q:AA)(pos:List Int)(ln:Nat)(o1:List Int)(o3:List (Option KS))(Aa:Int)(gk:LK)(o4:KS):DH:=[oW c q pos 1 ln,oI o1,oC [.ref 0 0],some (.mo (.sets 2 o3 (some (0+((Aa).toNat),gk)))),some (.mo (.set 2 o4)),some (.mo (.set 2 ([]:KS))),oC [.bool false,.bool false]]
def cN (c:AB)(q:AA)(pos:List Int)(ln:Nat)(o1:List Int)(o3:List (Option KS))(Ah:Nat)(gk:LK)(Ao Fd:Int)(o5:KS)(Fc:List Int):DH:=[oW c q pos 1 ln,oI o1,oC [.ref 0 0],some (.mo (.sets 2 o3 (some (Ah,gk)))),oC [.i Ao,.i Fd],some (.mo (.mit 2 gk.1 gk.2.1 gk.2.2 o5 (some Fc))),some (.bools ([false,true]:List Bool))]
def zBV (c:AB)(q:AA)(pos:List Int)(ln:Nat)(y1:(Int×Int)×Bool×(List Int))(o3:List (Option KS))(Ah:Nat)(gk:LK)(Ao Fd:Int)(o5:KS)(Fc:List Int):DH:=[oW c q pos 1 ln,oI y1.2.2,oC [.ref 0 0],some (.mo (.sets 2 o3 (some (Ah,gk)))),oC [.i Ao,.i Fd],some (.mo (.mit 2 gk.1 gk.2.1 gk.2.2 o5 (some Fc))),some (.bools ([false,true]:List Bool)),oC [.i y1.1.1,.i y1.1.2]]
def zBU (c:AB)(q:AA)(pos:List Int)(ln:Nat)(o1:List Int)(o3:List (Option KS))(Ah:Nat)(gk:LK)(o4 o7:KS):DH:=[oW c q pos 1 ln,oI o1,oC [.ref 0 0],some (.mo (.sets 2 o3 (some (Ah,gk)))),some (.mo (.set 2 o4)),some (.mo (.set 2 ([]:KS))),oC [.bool false,.bool false],some (.mo (.mit 2 gk.1 gk.2.1 gk.2.2 o7 none))]
def gH (c:AB)(Aa:Int)(q:AA)(pos:List Int)(ln:Nat)(y2:(List Int))(o3:List (Option KS))(o4:KS):St:=⟨(AG 208 [(1,.ref 2 0),(3,.fn 163 1 (L1 [.ref 2 0])),(5,.msl 3 1 0 ((((c.cells.length:Int)+1)).toNat)),(7,.fn 164 1 (L1 [.ref 2 0])),(14,.it 5),(16,.i Aa),(18,.ref 6 0)]),([oW c q pos 1 ln,oI y2,oC [.ref 0 0],some (.mo (.sets 2 o3 none)),some (.mo (.set 2 o4)),some (.mo (.set 2 ([]:KS))),oC [.bool false,.bool false]]:DH)⟩
def zBd (c:AB)(q:AA)(pos:List Int)(ln:Nat)(y2:(List Int))(o3:List (Option KS))(o4:KS):DH:=[oW c q pos 1 ln,oI y2,oC [.ref 0 0],some (.mo (.sets 2 o3 none)),some (.mo (.set 2 o4)),some (.mo (.set 2 ([]:KS))),oC [.bool false,.bool false]]
def gK (c:AB)(Aa:Int)(q:AA)(pos:List Int)(ln:Nat)(y3:(List Int))(o3:List (Option KS))(o4:KS):St:=⟨(AG 208 [(1,.ref 2 0),(3,.fn 163 1 (L1 [.ref 2 0])),(5,.msl 3 1 0 ((((c.cells.length:Int)+1)).toNat)),(7,.fn 164 1 (L1 [.ref 2 0])),(14,.it 5),(16,.i Aa)]),([oW c q pos 1 ln,oI y3,oC [.ref 0 0],some (.mo (.sets 2 o3 none)),some (.mo (.set 2 o4)),some (.mo (.set 2 ([]:KS))),oC [.bool false,.bool false]]:DH)⟩
def zBc (c:AB)(q:AA)(pos:List Int)(ln:Nat)(o1:List Int)(o3:List (Option KS))(Ah:Nat)(gk:LK)(o4 o7:KS)(y1:List Int):DH:=[oW c q pos 1 ln,oI o1,oC [.ref 0 0],some (.mo (.sets 2 o3 (some (Ah,gk)))),some (.mo (.set 2 o4)),some (.mo (.set 2 ([]:KS))),oC [.bool false,.bool false],some (.mo (.mit 2 gk.1 gk.2.1 gk.2.2 (o7.erase y1) (some y1)))]
def Tx (c:AB)(q:AA)(pos:List Int)(ln:Nat)(o1:List Int)(o3:List (Option KS))(Ah:Nat)(gk:LK)(o4 o5:KS)(BV BW:Bool)(Df De:Int)(o8:KS)(D6:List Int):DH:=[oW c q pos 1 ln,oI o1,oC [.ref 0 0],some (.mo (.sets 2 o3 (some (Ah,gk)))),some (.mo (.set 2 o4)),some (.mo (.set 2 o5)),oC [.bool BV,.bool BW],oC [.i Df,.i De],some (.mo (.mit 2 gk.1 gk.2.1 gk.2.2 o8 (some D6))),some (.bools ([false,true]:List Bool))]
def cQ (c:AB)(q:AA)(pos:List Int)(ln:Nat)(y1:(Int×Int)×Bool×(List Int))(o3:List (Option KS))(Ah:Nat)(gk:LK)(o4 o5:KS)(BV BW:Bool)(Df De:Int)(o8:KS)(D6:List Int):DH:=[oW c q pos 1 ln,oI y1.2.2,oC [.ref 0 0],some (.mo (.sets 2 o3 (some (Ah,gk)))),some (.mo (.set 2 o4)),some (.mo (.set 2 o5)),oC [.bool BV,.bool BW],oC [.i Df,.i De],some (.mo (.mit 2 gk.1 gk.2.1 gk.2.2 o8 (some D6))),some (.bools ([false,true]:List Bool)),oC [.i y1.1.1,.i y1.1.2]]
def zBb (c:AB)(q:AA)(pos:List Int)(ln:Nat)(o1:List Int)(o3:List (Option KS))(Ah:Nat)(gk:LK)(o4:KS)(Jq:List Int):DH:=[oW c q pos 1 ln,oI o1,oC [.ref 0 0],some (.mo (.sets 2 o3 (some (Ah,gk)))),some (.mo (.mit 2 gk.1 gk.2.1 gk.2.2 o4 (some Jq)))]
def zBa (c:AB)(q:AA)(pos:List Int)(ln:Nat)(o1:List Int)(o3:List (Option KS))(Ah:Nat)(gk:LK)(o4 o5:KS)(BV BW:Bool)(o7:KS)(Jp:List Int):DH:=[oW c q pos 1 ln,oI o1,oC [.ref 0 0],some (.mo (.sets 2 o3 (some (Ah,gk)))),some (.mo (.set 2 o4)),some (.mo (.set 2 o5)),oC [.bool BV,.bool BW],some (.mo (.mit 2 gk.1 gk.2.1 gk.2.2 o7 (some Jp)))]
def cP (c:AB)(q:AA)(pos:List Int)(ln:Nat)(o1:List Int)(o3:List (Option KS))(o4 o5:KS)(BV BW:Bool):DH:=[oW c q pos 1 ln,oI o1,oC [.ref 0 0],some (.mo (.sets 2 o3 none)),some (.mo (.set 2 o4)),some (.mo (.set 2 o5)),oC [.bool BV,.bool BW]]
def ZQ (c:AB)(Aa:Int)(q:AA)(pos:List Int)(ln:Nat)(y2:(List Int))(o3:List (Option KS))(o4 o5:KS)(BV BW:Bool):St:=⟨(AG 208 [(1,.ref 2 0),(3,.fn 163 1 (L1 [.ref 2 0])),(5,.msl 3 1 0 ((((c.cells.length:Int)+1)).toNat)),(7,.fn 164 1 (L1 [.ref 2 0])),(14,.it 5),(16,.i Aa),(18,.ref 6 0)]),([oW c q pos 1 ln,oI y2,oC [.ref 0 0],some (.mo (.sets 2 o3 none)),some (.mo (.set 2 o4)),some (.mo (.set 2 o5)),oC [.bool BV,.bool BW]]:DH)⟩
def zBZ (c:AB)(q:AA)(pos:List Int)(ln:Nat)(y2:(List Int))(o3:List (Option KS))(o4 o5:KS)(BV BW:Bool):DH:=[oW c q pos 1 ln,oI y2,oC [.ref 0 0],some (.mo (.sets 2 o3 none)),some (.mo (.set 2 o4)),some (.mo (.set 2 o5)),oC [.bool BV,.bool BW]]
def gJ (c:AB)(Aa:Int)(q:AA)(pos:List Int)(ln:Nat)(y3:(List Int))(o3:List (Option KS))(o4 o5:KS)(BV BW:Bool):St:=⟨(AG 208 [(1,.ref 2 0),(3,.fn 163 1 (L1 [.ref 2 0])),(5,.msl 3 1 0 ((((c.cells.length:Int)+1)).toNat)),(7,.fn 164 1 (L1 [.ref 2 0])),(14,.it 5),(16,.i Aa)]),([oW c q pos 1 ln,oI y3,oC [.ref 0 0],some (.mo (.sets 2 o3 none)),some (.mo (.set 2 o4)),some (.mo (.set 2 o5)),oC [.bool BV,.bool BW]]:DH)⟩
def gI (c:AB)(Aa:Int)(q:AA)(pos:List Int)(ln:Nat)(y2:(List Int))(o3:List (Option KS))(o4 o5:KS)(BV BW:Bool):St:=⟨(AG 208 [(1,.ref 2 0),(3,.fn 163 1 (L1 [.ref 2 0])),(5,.msl 3 1 0 ((((c.cells.length:Int)+1)).toNat)),(7,.fn 164 1 (L1 [.ref 2 0])),(14,.it 5),(16,.i Aa)]),([oW c q pos 1 ln,oI y2,oC [.ref 0 0],some (.mo (.sets 2 o3 none)),some (.mo (.set 2 o4)),some (.mo (.set 2 o5)),oC [.bool BV,.bool BW]]:DH)⟩
def zBX (c:AB)(q:AA)(pos:List Int)(ln:Nat)(o1:List Int)(o3:List (Option KS))(Ah:Nat)(gk:LK)(o4 o5:KS)(BV BW:Bool)(o7:KS)(y1:List Int):DH:=[oW c q pos 1 ln,oI o1,oC [.ref 0 0],some (.mo (.sets 2 o3 (some (Ah,gk)))),some (.mo (.set 2 o4)),some (.mo (.set 2 o5)),oC [.bool BV,.bool BW],some (.mo (.mit 2 gk.1 gk.2.1 gk.2.2 (o7.erase y1) (some y1)))]
inductive IC where
 | l1 (FP:Int) (o3:List (Option KS))
 | l2 (Aw:Int) (o1:List Int) (o3:List (Option KS))
 | l3 (x8 Aw:Int) (o1:List Int) (o3:List (Option KS)) (Ah:Nat) (o4:KS)
 | l4 (Aa:Int) (o1:List Int) (o3:List (Option KS)) (o4:KS)
 | l5 (x8 Aw FO:Int) (o1:List Int) (o3:List (Option KS)) (Ah:Nat) (Ao Fd:Int) (o5:KS) (Fc:List Int)
 | l6 (Aa:Int) (o1:List Int) (o3:List (Option KS)) (Ah:Nat) (o4 o7:KS)
 | l7 (Aa D1:Int) (o1:List Int) (o3:List (Option KS)) (Ah:Nat) (o4 o5:KS) (BV BW:Bool) (Df De:Int) (o8:KS) (D6:List Int)
 | l8 (x8 Aw:Int) (o1:List Int) (o3:List (Option KS)) (Ah:Nat) (o4:KS) (Jq:List Int)
 | l9 (Aa:Int) (o1:List Int) (o3:List (Option KS)) (Ah:Nat) (o4 o5:KS) (BV BW:Bool) (o7:KS) (Jp:List Int)
def SZ (n:Nat)(self:IC -> Option (Bool×(List Int)))(c:AB)(q:AA)(pos:List Int)(ln:Nat)(lost:List Int)(FP:Int)(o3:List (Option KS)):Option (Bool×(List Int)):= bif (decide (FP<(((((c.cells.length:Int)+1)).toNat:Nat):Int))) then if (0<=FP/\ FP<(((((c.cells.length:Int)+1)).toNat:Nat):Int))/\ 0+((FP).toNat)<o3.length/\ AJ (FP+1) then self (.l1 (FP+1) (o3.set (0+((FP).toNat)) (some ([]:KS)))) else none else if ((0:Int)<=0/\ 0<(((((c.cells.length:Int)+1)).toNat:Nat):Int))/\ 0+0<o3.length/\ (o3.getD (0+0) none).isSome=true then self (.l2 0 lost (o3.set (0+0) (some (Ca [0,0] ((o3.getD (0+0) none).getD []))))) else none
def Ns (n:Nat)(self:IC -> Option (Bool×(List Int)))(c:AB)(q:AA)(pos:List Int)(ln:Nat)(lost:List Int)(Aw:Int)(o1:List Int)(o3:List (Option KS)):Option (Bool×(List Int)):= bif (decide (Aw<(c.cells.length:Int))) then if (o3.getD (0+((Aw).toNat)) none).isSome=true then if (0<=Aw/\ Aw<(((((c.cells.length:Int)+1)).toNat:Nat):Int))/\ 0+((Aw).toNat)<o3.length/\ (o3.getD (0+((Aw).toNat)) none).isSome=true then self (.l3 Aw Aw o1 o3 (0+((Aw).toNat)) ((o3.getD (0+((Aw).toNat)) none).getD [])) else none else none else bif (decide ((c.runs.length:Int)>0)) then if AJ ((c.runs.length:Int)-1)/\ ((0:Int)<=((c.runs.length:Int)-1)/\ ((c.runs.length:Int)-1)<(c.runs.length:Int))/\ AJ ((c.cells.length:Int)-1) then self (.l4 ((c.cells.length:Int)-1) o1 o3 (Ca [((c.runs.length:Int)-1),c.runs.getD ((((c.runs.length:Int)-1)).toNat) 0] (Ca [(c.runs.length:Int),0] ([]:KS)))) else none else if AJ ((c.cells.length:Int)-1) then self (.l4 ((c.cells.length:Int)-1) o1 o3 (Ca [(c.runs.length:Int),0] ([]:KS))) else none
def vA (n:Nat)(self:IC -> Option (Bool×(List Int)))(c:AB)(q:AA)(pos:List Int)(ln:Nat)(lost:List Int)(x8 Aw:Int)(o1:List Int)(o3:List (Option KS))(Ah:Nat)(o4:KS):Option (Bool×(List Int)):= if (o3.getD Ah none).isSome=true then IG o4 (if AJ (Aw+1) then self (.l2 (Aw+1) o1 o3) else none) fun y1=> if (o3.getD Ah none).isSome=true then self (.l5 x8 Aw 0 o1 o3 Ah (y1.getD 0 0) (y1.getD 1 0) (o4.erase y1) y1) else none else none
def SY (n:Nat)(self:IC -> Option (Bool×(List Int)))(c:AB)(q:AA)(pos:List Int)(ln:Nat)(lost:List Int)(Aa:Int)(o1:List Int)(o3:List (Option KS))(o4:KS):Option (Bool×(List Int)):= bif (decide (Aa>=0)) then if (o3.getD (0+((Aa).toNat)) none).isSome=true then if (0<=Aa/\ Aa<(((((c.cells.length:Int)+1)).toNat:Nat):Int))/\ 0+((Aa).toNat)<o3.length/\ (o3.getD (0+((Aa).toNat)) none).isSome=true then self (.l6 Aa o1 o3 (0+((Aa).toNat)) o4 ((o3.getD (0+((Aa).toNat)) none).getD [])) else none else none else some (true,o1)
def Nr (n:Nat)(self:IC -> Option (Bool×(List Int)))(c:AB)(q:AA)(pos:List Int)(ln:Nat)(lost:List Int)(x8 Aw FO:Int)(o1:List Int)(o3:List (Option KS))(Ah:Nat)(Ao Fd:Int)(o5:KS)(Fc:List Int):Option (Bool×(List Int)):= bif (decide (FO<2)) then if (0<=FO/\ FO<((2:Nat):Int))/\ 0+((FO).toNat)<([false,true]:List Bool).length then (TQ n (Ao,Fd) (([false,true]:List Bool).getD (0+((FO).toNat)) false) c q pos ln o1).bind fun y1=> bif y1.2.1 then (Te n x8 (([false,true]:List Bool).getD (0+((FO).toNat)) false) c q pos ln y1.2.2).bind fun y2=> bif y2.1 then if AJ (x8+1)/\ (0<=(x8+1)/\ (x8+1)<(((((c.cells.length:Int)+1)).toNat:Nat):Int))/\ 0+(((x8+1)).toNat)<o3.length/\ Ah≠0+(((x8+1)).toNat)/\ (o3.getD (0+(((x8+1)).toNat)) none).isSome=true/\ AJ (FO+1) then self (.l5 x8 Aw (FO+1) y2.2 (o3.set (0+(((x8+1)).toNat)) (some (Ca [y1.1.1,y1.1.2] ((o3.getD (0+(((x8+1)).toNat)) none).getD [])))) Ah Ao Fd o5 Fc) else none else if AJ (FO+1) then self (.l5 x8 Aw (FO+1) y2.2 o3 Ah Ao Fd o5 Fc) else none else if AJ (FO+1) then self (.l5 x8 Aw (FO+1) y1.2.2 o3 Ah Ao Fd o5 Fc) else none else none else self (.l8 x8 Aw o1 o3 Ah o5 Fc)
def u9 (n:Nat)(self:IC -> Option (Bool×(List Int)))(c:AB)(q:AA)(pos:List Int)(ln:Nat)(lost:List Int)(Aa:Int)(o1:List Int)(o3:List (Option KS))(Ah:Nat)(o4 o7:KS):Option (Bool×(List Int)):= if (o3.getD Ah none).isSome=true then IG o7 (if 0<=Aa/\ Aa<(c.cells.length:Int) then (Dg n (c.cells.getD ((Aa).toNat) 0) c.set c q pos ln o1).bind fun y2=> (Gj n (c.cells.getD ((Aa).toNat) 0) c q pos ln y2).bind fun y3=> if AJ (Aa-1) then self (.l4 (Aa-1) y3 o3 ([]:KS)) else none else none) fun y1=> if (o3.getD Ah none).isSome=true then self (.l7 Aa 0 o1 o3 Ah o4 ([]:KS) false false (y1.getD 0 0) (y1.getD 1 0) (o7.erase y1) y1) else none else none
def Nq (n:Nat)(self:IC -> Option (Bool×(List Int)))(c:AB)(q:AA)(pos:List Int)(ln:Nat)(lost:List Int)(Aa D1:Int)(o1:List Int)(o3:List (Option KS))(Ah:Nat)(o4 o5:KS)(BV BW:Bool)(Df De:Int)(o8:KS)(D6:List Int):Option (Bool×(List Int)):= bif (decide (D1<2)) then if (0<=D1/\ D1<((2:Nat):Int))/\ 0+((D1).toNat)<([false,true]:List Bool).length then (TQ n (Df,De) (([false,true]:List Bool).getD (0+((D1).toNat)) false) c q pos ln o1).bind fun y1=> bif y1.2.1 then (Te n Aa (([false,true]:List Bool).getD (0+((D1).toNat)) false) c q pos ln y1.2.2).bind fun y2=> bif y2.1 then bif (o4.contains [y1.1.1,y1.1.2]) then bif (D1==0) then if AJ (D1+1) then self (.l7 Aa (D1+1) y2.2 o3 Ah o4 (Ca [Df,De] o5) true BW Df De o8 D6) else none else bif (D1==1) then if AJ (D1+1) then self (.l7 Aa (D1+1) y2.2 o3 Ah o4 (Ca [Df,De] o5) BV true Df De o8 D6) else none else none else if AJ (D1+1) then self (.l7 Aa (D1+1) y2.2 o3 Ah o4 o5 BV BW Df De o8 D6) else none else if AJ (D1+1) then self (.l7 Aa (D1+1) y2.2 o3 Ah o4 o5 BV BW Df De o8 D6) else none else if AJ (D1+1) then self (.l7 Aa (D1+1) y1.2.2 o3 Ah o4 o5 BV BW Df De o8 D6) else none else none else self (.l9 Aa o1 o3 Ah o4 o5 BV BW o8 D6)
def SX (n:Nat)(self:IC -> Option (Bool×(List Int)))(c:AB)(q:AA)(pos:List Int)(ln:Nat)(lost:List Int)(x8 Aw:Int)(o1:List Int)(o3:List (Option KS))(Ah:Nat)(o4:KS)(Jq:List Int):Option (Bool×(List Int)):= if (o3.getD Ah none).isSome=true then IG o4 (if AJ (Aw+1) then self (.l2 (Aw+1) o1 o3) else none) fun y1=> if (o3.getD Ah none).isSome=true then self (.l5 x8 Aw 0 o1 o3 Ah (y1.getD 0 0) (y1.getD 1 0) (o4.erase y1) y1) else none else none
def SW (n:Nat)(self:IC -> Option (Bool×(List Int)))(c:AB)(q:AA)(pos:List Int)(ln:Nat)(lost:List Int)(Aa:Int)(o1:List Int)(o3:List (Option KS))(Ah:Nat)(o4 o5:KS)(BV BW:Bool)(o7:KS)(Jp:List Int):Option (Bool×(List Int)):= if (o3.getD Ah none).isSome=true then IG o7 (bif (!BW) then if 0<=Aa/\ Aa<(c.cells.length:Int) then (Dg n (c.cells.getD ((Aa).toNat) 0) c.set c q pos ln o1).bind fun y2=> bif (!BV) then (Gj n (c.cells.getD ((Aa).toNat) 0) c q pos ln y2).bind fun y3=> if AJ (Aa-1) then self (.l4 (Aa-1) y3 o3 o5) else none else if AJ (Aa-1) then self (.l4 (Aa-1) y2 o3 o5) else none else none else bif (!BV) then if 0<=Aa/\ Aa<(c.cells.length:Int) then (Gj n (c.cells.getD ((Aa).toNat) 0) c q pos ln o1).bind fun y2=> if AJ (Aa-1) then self (.l4 (Aa-1) y2 o3 o5) else none else none else if AJ (Aa-1) then self (.l4 (Aa-1) o1 o3 o5) else none) fun y1=> if (o3.getD Ah none).isSome=true then self (.l7 Aa 0 o1 o3 Ah o4 o5 BV BW (y1.getD 0 0) (y1.getD 1 0) (o7.erase y1) y1) else none else none
def Zz (n:Nat)(self:IC -> Option (Bool×(List Int)))(c:AB)(q:AA)(pos:List Int)(ln:Nat)(lost:List Int):Option (Bool×(List Int)):= bif ((c.cells.length:Int)==0) then some (((c.runs.length:Int)==0),lost) else if AJ ((c.cells.length:Int)+1)/\ ((((c.cells.length:Int)+1):Int)=((c.cells.length:Int)+1)/\ (0:Int)<=((c.cells.length:Int)+1)/\ (((c.cells.length:Int)+1):Int)<=1000000000000) then self (.l1 0 (List.replicate ((((c.cells.length:Int)+1)).toNat) (none:Option KS))) else none
def BO (c:AB)(q:AA)(pos:List Int)(ln:Nat)(lost:List Int):Nat -> IC -> Option (Bool×(List Int))
 | 0,_=>none
 | n+1,.l1 FP o3=>SZ n (BO c q pos ln lost n) c q pos ln lost FP o3
 | n+1,.l2 Aw o1 o3=>Ns n (BO c q pos ln lost n) c q pos ln lost Aw o1 o3
 | n+1,.l3 x8 Aw o1 o3 Ah o4=>vA n (BO c q pos ln lost n) c q pos ln lost x8 Aw o1 o3 Ah o4
 | n+1,.l4 Aa o1 o3 o4=>SY n (BO c q pos ln lost n) c q pos ln lost Aa o1 o3 o4
 | n+1,.l5 x8 Aw FO o1 o3 Ah Ao Fd o5 Fc=>Nr n (BO c q pos ln lost n) c q pos ln lost x8 Aw FO o1 o3 Ah Ao Fd o5 Fc
 | n+1,.l6 Aa o1 o3 Ah o4 o7=>u9 n (BO c q pos ln lost n) c q pos ln lost Aa o1 o3 Ah o4 o7
 | n+1,.l7 Aa D1 o1 o3 Ah o4 o5 BV BW Df De o8 D6=>Nq n (BO c q pos ln lost n) c q pos ln lost Aa D1 o1 o3 Ah o4 o5 BV BW Df De o8 D6
 | n+1,.l8 x8 Aw o1 o3 Ah o4 Jq=>SX n (BO c q pos ln lost n) c q pos ln lost x8 Aw o1 o3 Ah o4 Jq
 | n+1,.l9 Aa o1 o3 Ah o4 o5 BV BW o7 Jp=>SW n (BO c q pos ln lost n) c q pos ln lost Aa o1 o3 Ah o4 o5 BV BW o7 Jp
def Pq (n:Nat)(c:AB)(q:AA)(pos:List Int)(ln:Nat)(lost:List Int):Option (Bool×(List Int)):=Zz n (BO c q pos ln lost n) c q pos ln lost
def vB (n B:Nat)(N:Yd 2)(c:AB)(q:AA)(pos:List Int)(ln:Nat)(lost:List Int)(r:Bool×(List Int)):IC -> Prop
 | .l1 FP o3=>∀ m0:Nat,n<=m0 -> TW B N (FQ Tryz.f136 2 (.bool r.1) [oW c q pos 1 ln,oI r.2]) (A4 m0 (BB (AX Tryz.f136) 0 [])) ⟨AG 208 [(1,.ref 2 0),(3,.fn 163 1 (L1 [.ref 2 0])),(4,.i (c.cells.length:Int)),(5,.msl 3 1 0 ((((c.cells.length:Int)+1)).toNat)),(44,.i (((((c.cells.length:Int)+1)).toNat:Nat):Int)),(45,.i FP)],[oW c q pos 1 ln,oI lost,oC [.ref 0 0],some (.mo (.sets 2 o3 none))]⟩
 | .l2 Aw o1 o3=>∀ m0:Nat,n<=m0 -> TW B N (FQ Tryz.f136 2 (.bool r.1) [oW c q pos 1 ln,oI r.2]) (A4 m0 (BB (AX Tryz.f136) 2 [])) ⟨AG 208 [(1,.ref 2 0),(3,.fn 163 1 (L1 [.ref 2 0])),(4,.i (c.cells.length:Int)),(5,.msl 3 1 0 ((((c.cells.length:Int)+1)).toNat)),(7,.fn 164 1 (L1 [.ref 2 0])),(58,.i (c.cells.length:Int)),(59,.i Aw)],[oW c q pos 1 ln,oI o1,oC [.ref 0 0],some (.mo (.sets 2 o3 none))]⟩
 | .l3 x8 Aw o1 o3 Ah o4=>∀ m0 m1:Nat,n<=m0 -> n<=m1 -> ∀ gk:LK,TW B N (FQ Tryz.f136 2 (.bool r.1) [oW c q pos 1 ln,oI r.2]) (A4 m1 (BB (AX Tryz.f136) 4 [m0])) ⟨AG 208 [(1,.ref 2 0),(3,.fn 163 1 (L1 [.ref 2 0])),(4,.i (c.cells.length:Int)),(5,.msl 3 1 0 ((((c.cells.length:Int)+1)).toNat)),(7,.fn 164 1 (L1 [.ref 2 0])),(8,.i x8),(58,.i (c.cells.length:Int)),(59,.i Aw),(66,.it 4)],[oW c q pos 1 ln,oI o1,oC [.ref 0 0],some (.mo (.sets 2 o3 (some (Ah,gk)))),some (.mo (.mit 2 gk.1 gk.2.1 gk.2.2 o4 none))]⟩
 | .l4 Aa o1 o3 o4=>∀ m0:Nat,n<=m0 -> TW B N (FQ Tryz.f136 2 (.bool r.1) [oW c q pos 1 ln,oI r.2]) (A4 m0 (BB (AX Tryz.f136) 8 [])) ⟨AG 208 [(1,.ref 2 0),(3,.fn 163 1 (L1 [.ref 2 0])),(5,.msl 3 1 0 ((((c.cells.length:Int)+1)).toNat)),(7,.fn 164 1 (L1 [.ref 2 0])),(14,.it 4),(16,.i Aa)],[oW c q pos 1 ln,oI o1,oC [.ref 0 0],some (.mo (.sets 2 o3 none)),some (.mo (.set 2 o4))]⟩
 | .l5 x8 Aw FO o1 o3 Ah Ao Fd o5 Fc=>∀ m0 m1 m2:Nat,n<=m0 -> n<=m1 -> n<=m2 -> ∀ gk:LK,TW B N (FQ Tryz.f136 2 (.bool r.1) [oW c q pos 1 ln,oI r.2]) (A4 m2 (BB (AX Tryz.f136) 6 [m0,m1])) ⟨AG 208 [(1,.ref 2 0),(3,.fn 163 1 (L1 [.ref 2 0])),(4,.i (c.cells.length:Int)),(5,.msl 3 1 0 ((((c.cells.length:Int)+1)).toNat)),(7,.fn 164 1 (L1 [.ref 2 0])),(8,.i x8),(9,.ref 4 0),(58,.i (c.cells.length:Int)),(59,.i Aw),(66,.it 5),(71,.msl 6 1 0 2),(72,.i 2),(73,.i FO)],[oW c q pos 1 ln,oI o1,oC [.ref 0 0],some (.mo (.sets 2 o3 (some (Ah,gk)))),oC [.i Ao,.i Fd],some (.mo (.mit 2 gk.1 gk.2.1 gk.2.2 o5 (some Fc))),some (.bools ([false,true]:List Bool))]⟩
 | .l6 Aa o1 o3 Ah o4 o7=>∀ m0 m1:Nat,n<=m0 -> n<=m1 -> ∀ gk:LK,TW B N (FQ Tryz.f136 2 (.bool r.1) [oW c q pos 1 ln,oI r.2]) (A4 m1 (BB (AX Tryz.f136) 10 [m0])) ⟨AG 208 [(1,.ref 2 0),(3,.fn 163 1 (L1 [.ref 2 0])),(5,.msl 3 1 0 ((((c.cells.length:Int)+1)).toNat)),(7,.fn 164 1 (L1 [.ref 2 0])),(14,.it 4),(16,.i Aa),(17,.it 5),(18,.ref 6 0),(140,.it 7)],[oW c q pos 1 ln,oI o1,oC [.ref 0 0],some (.mo (.sets 2 o3 (some (Ah,gk)))),some (.mo (.set 2 o4)),some (.mo (.set 2 ([]:KS))),oC [.bool false,.bool false],some (.mo (.mit 2 gk.1 gk.2.1 gk.2.2 o7 none))]⟩
 | .l7 Aa D1 o1 o3 Ah o4 o5 BV BW Df De o8 D6=>∀ m0 m1 m2:Nat,n<=m0 -> n<=m1 -> n<=m2 -> ∀ gk:LK,TW B N (FQ Tryz.f136 2 (.bool r.1) [oW c q pos 1 ln,oI r.2]) (A4 m2 (BB (AX Tryz.f136) 12 [m0,m1])) ⟨AG 208 [(1,.ref 2 0),(3,.fn 163 1 (L1 [.ref 2 0])),(5,.msl 3 1 0 ((((c.cells.length:Int)+1)).toNat)),(7,.fn 164 1 (L1 [.ref 2 0])),(14,.it 4),(16,.i Aa),(17,.it 5),(18,.ref 6 0),(19,.ref 7 0),(140,.it 8),(145,.msl 9 1 0 2),(146,.i 2),(147,.i D1)],[oW c q pos 1 ln,oI o1,oC [.ref 0 0],some (.mo (.sets 2 o3 (some (Ah,gk)))),some (.mo (.set 2 o4)),some (.mo (.set 2 o5)),oC [.bool BV,.bool BW],oC [.i Df,.i De],some (.mo (.mit 2 gk.1 gk.2.1 gk.2.2 o8 (some D6))),some (.bools ([false,true]:List Bool))]⟩
 | .l8 x8 Aw o1 o3 Ah o4 Jq=>∀ m0 m1:Nat,n<=m0 -> n<=m1 -> ∀ gk:LK,TW B N (FQ Tryz.f136 2 (.bool r.1) [oW c q pos 1 ln,oI r.2]) (A4 m1 (BB (AX Tryz.f136) 4 [m0])) ⟨AG 208 [(1,.ref 2 0),(3,.fn 163 1 (L1 [.ref 2 0])),(4,.i (c.cells.length:Int)),(5,.msl 3 1 0 ((((c.cells.length:Int)+1)).toNat)),(7,.fn 164 1 (L1 [.ref 2 0])),(8,.i x8),(58,.i (c.cells.length:Int)),(59,.i Aw),(66,.it 4)],[oW c q pos 1 ln,oI o1,oC [.ref 0 0],some (.mo (.sets 2 o3 (some (Ah,gk)))),some (.mo (.mit 2 gk.1 gk.2.1 gk.2.2 o4 (some Jq)))]⟩
 | .l9 Aa o1 o3 Ah o4 o5 BV BW o7 Jp=>∀ m0 m1:Nat,n<=m0 -> n<=m1 -> ∀ gk:LK,TW B N (FQ Tryz.f136 2 (.bool r.1) [oW c q pos 1 ln,oI r.2]) (A4 m1 (BB (AX Tryz.f136) 10 [m0])) ⟨AG 208 [(1,.ref 2 0),(3,.fn 163 1 (L1 [.ref 2 0])),(5,.msl 3 1 0 ((((c.cells.length:Int)+1)).toNat)),(7,.fn 164 1 (L1 [.ref 2 0])),(14,.it 4),(16,.i Aa),(17,.it 5),(18,.ref 6 0),(140,.it 7)],[oW c q pos 1 ln,oI o1,oC [.ref 0 0],some (.mo (.sets 2 o3 (some (Ah,gk)))),some (.mo (.set 2 o4)),some (.mo (.set 2 o5)),oC [.bool BV,.bool BW],some (.mo (.mit 2 gk.1 gk.2.1 gk.2.2 o7 (some Jp)))]⟩
theorem vC (B:Nat)(N:Yd 2)(c:AB)(q:AA)(pos:List Int)(ln:Nat)(lost:List Int):Al (BO c q pos ln lost) (vB · B N c q pos ln lost):=ia (fun _=>rfl) fun n AI pt r h=>by
 cases pt
 case l1 FP o3=>
  intro m0 AD;refine rd AD fun m0 AD=>?_
  revert r;apply gO;exact bi 46 (gc (gi (gc (gi (gw 52 (lG CW [0,1,2,5] (AI _ _ · m0 AD))))))) (gc (gi (gc (gi (gi (jg (yj (i:=0+0)) (lN CW [0,1,2,3] (AI _ _ · n Nat.le.refl))))))))
 case l2 Aw o1 o3=>
  intro m0 AD;refine rd AD fun m0 AD=>?_
  revert r;apply gO
  exact bi 60 (gn fun g0=>fun p r h=>by
   refine gs (AV 16 CW) [0,1,2,3] p (Co (AX Tryz.f136) 16 [m0]) (AG 208 [(1,.ref 2 0),(3,.fn 163 1 (L1 [.ref 2 0])),(4,.i (c.cells.length:Int)),(5,.msl 3 1 0 ((((c.cells.length:Int)+1)).toNat)),(7,.fn 164 1 (L1 [.ref 2 0])),(8,.i Aw),(58,.i (c.cells.length:Int)),(59,.i Aw)]) (cR c q pos ln o1 o3) ?_;refine Bg.lock 3 (0+((Aw).toNat)) 2 (by kernel_rfl) g0 (by kernel_rfl) (fun gk=>(zBe c q pos ln o1 o3 Aw gk)) (by kernel_rfl) fun gk=>?_
   revert r;apply gO;exact gc (gi (gc (gi (gi (jg (Eq.refl (0+((Aw).toNat))) (lN CW [0,1,2,3,4] (AI _ _ · m0 n AD Nat.le.refl gk)))))))) (bi 115 (gc (gn fun g0=>jw 118 g0 (jw 125 g0 (gc (gi (gw 130 (lN CW [0,1,2,3,4] (AI _ _ · n Nat.le.refl)))))))) (gw 130 (lN CW [0,1,2,3,4] (AI _ _ · n Nat.le.refl))))
 case l3 x8 Aw o1 o3 Ah o4=>
  intro m0 m1 AD Ax gk;have AD:=zC3 AD;refine rd Ax fun m1 Ax=>?_
  have p:=H0;refine gs (AV 17 CW) [0,1,2,3,4] p (Co (AX Tryz.f136) 17 [m0,m1]) (AG 208 [(1,.ref 2 0),(3,.fn 163 1 (L1 [.ref 2 0])),(4,.i (c.cells.length:Int)),(5,.msl 3 1 0 ((((c.cells.length:Int)+1)).toNat)),(7,.fn 164 1 (L1 [.ref 2 0])),(8,.i x8),(58,.i (c.cells.length:Int)),(59,.i Aw),(66,.it 4)]) (zBY c q pos ln o1 o3 Ah gk o4) ?_;revert r;apply gO
  exact gn fun g0=>fun p r h=>by
   replace h:=Wj h;refine Ap.nx (ops:=Aj Tryz.f136 17) HC.x (by kernel_rfl) (by kernel_rfl) 4 3 Ah 2 o3 gk o4 none [1,3,4,5,7,8,58,59,66,68] [0,1,2,3] (AG 208 [(1,.ref 2 0),(3,.fn 163 1 (L1 [.ref 2 0])),(4,.i (c.cells.length:Int)),(5,.msl 3 1 0 ((((c.cells.length:Int)+1)).toNat)),(7,.fn 164 1 (L1 [.ref 2 0])),(8,.i x8),(58,.i (c.cells.length:Int)),(59,.i Aw),(68,.bool false)]) (cR c q pos ln o1 o3) [0,1,2,3,4] (fun y1=>AG 208 [(1,.ref 2 0),(3,.fn 163 1 (L1 [.ref 2 0])),(4,.i (c.cells.length:Int)),(5,.msl 3 1 0 ((((c.cells.length:Int)+1)).toNat)),(7,.fn 164 1 (L1 [.ref 2 0])),(8,.i x8),(58,.i (c.cells.length:Int)),(59,.i Aw),(66,.it 4),(68,.bool true)]) (fun y1=>(m6 c q pos ln o1 o3 Ah gk o4 y1)) (by kernel_rfl) (by kernel_rfl) (by kernel_rfl) (by decide) g0 (by kernel_rfl) (by kernel_rfl) (fun _=>by kernel_rfl) (fun he=>?_) (fun y1 he=>?_)
   ·replace h:=h.1 he;revert r;apply gO;exact gw 98 (lG CW [0,1,2,3] (AI _ _ · m0 AD))
   ·replace h:=h.2 y1 he;revert r;apply gO;exact gi (jg (Eq.refl gk.1) (jg (Eq.refl gk.2.1) (jg (Eq.refl gk.2.2) (jt (lN CW [0,1,2,3,5,4,6] (AI _ _ · m0 m1 n AD Ax Nat.le.refl gk))))))
 case l4 Aa o1 o3 o4=>
  intro m0 AD;refine rd AD fun m0 AD=>?_
  revert r;apply gO
  exact bi 132 (gn fun g0=>fun p r h=>by
   refine gs (AV 36 CW) [0,1,2,3,4,5,6] p (Co (AX Tryz.f136) 36 [m0]) (AG 208 [(1,.ref 2 0),(3,.fn 163 1 (L1 [.ref 2 0])),(5,.msl 3 1 0 ((((c.cells.length:Int)+1)).toNat)),(7,.fn 164 1 (L1 [.ref 2 0])),(14,.it 4),(16,.i Aa),(17,.it 5),(18,.ref 6 0)]) (cO c q pos ln o1 o3 o4) ?_;refine Bg.lock 3 (0+((Aa).toNat)) 2 (by kernel_rfl) g0 (by kernel_rfl) (fun gk=>(zBW c q pos ln o1 o3 Aa gk o4)) (by kernel_rfl) fun gk=>?_
   revert r;apply gO;exact gc (gi (gc (gi (gi (jg (Eq.refl (0+((Aa).toNat))) (lN CW [0,1,2,3,4,5,6,7] (AI _ _ · m0 n AD Nat.le.refl gk)))))))) (lE CW [2] [0,1])
 case l5 x8 Aw FO o1 o3 Ah Ao Fd o5 Fc=>
  intro m0 m1 m2 AD Ax F3 gk;have AD:=zC3 AD;have Ax:=zC3 Ax;refine rd F3 fun m2 F3=>?_
  revert r;apply gO;exact bj 74 (fun c0=>gc (gn fun g0=>jg g0 (gn fun g1=>jg g1 (cn fun y1 A7=>jc (em (MR A7) [2,0,1] (cN c q pos ln o1 o3 Ah gk Ao Fd o5 Fc)) (jt (bn (fun c1=>rO (jb 74 c0 (jg g0 (jg g1 (jc (em (MR A7) [2,0,1] (cN c q pos ln o1 o3 Ah gk Ao Fd o5 Fc)) (jb 83 c1 (jt (ce W7 [2,0,1] (zBV c q pos ln y1 o3 Ah gk Ao Fd o5 Fc) fun _=>bi 89 (jg tz (gc (gw 93 (gc (gi (gc (gi (gc (gn fun g5=>gc (gi (jg (yi (g:=gk) g5) (gw 97 (lG CW [0,1,2,3,4,5,6] (AI _ _ · m0 m1 m2 AD Ax F3 gk)))))))))))))) (gw 97 (lG CW [0,1,2,3,4,5,6] (AI _ _ · m0 m1 m2 AD Ax F3 gk))))))))))) (fun c1=>rO (jb 74 c0 (jg g0 (jg g1 (jc (em (MR A7) [2,0,1] (cN c q pos ln o1 o3 Ah gk Ao Fd o5 Fc)) (jb 83 c1 (jt (gw 97 (lG CW [0,1,2,3,4,5,6] (AI _ _ · m0 m1 m2 AD Ax F3 gk)))))))))))))))) (fun _=>lG CW [0,1,2,3,5] (AI _ _ · m0 m1 AD Ax gk))
 case l6 Aa o1 o3 Ah o4 o7=>
  intro m0 m1 AD Ax gk;have AD:=zC3 AD;refine rd Ax fun m1 Ax=>?_
  have p:=H0;refine gs (AV 37 CW) [0,1,2,3,4,5,6,7] p (Co (AX Tryz.f136) 37 [m0,m1]) (AG 208 [(1,.ref 2 0),(3,.fn 163 1 (L1 [.ref 2 0])),(5,.msl 3 1 0 ((((c.cells.length:Int)+1)).toNat)),(7,.fn 164 1 (L1 [.ref 2 0])),(14,.it 4),(16,.i Aa),(17,.it 5),(18,.ref 6 0),(140,.it 7)]) (zBU c q pos ln o1 o3 Ah gk o4 o7) ?_;revert r;apply gO
  exact gn fun g0=>fun p r h=>by
   replace h:=Wj h;refine Ap.nx (ops:=Aj Tryz.f136 37) HC.x (by kernel_rfl) (by kernel_rfl) 7 3 Ah 2 o3 gk o7 none [1,3,5,7,14,16,17,18,140,142] [0,1,2,3,4,5,6] (AG 208 [(1,.ref 2 0),(3,.fn 163 1 (L1 [.ref 2 0])),(5,.msl 3 1 0 ((((c.cells.length:Int)+1)).toNat)),(7,.fn 164 1 (L1 [.ref 2 0])),(14,.it 4),(16,.i Aa),(17,.it 5),(18,.ref 6 0),(142,.bool false)]) (cO c q pos ln o1 o3 o4) [0,1,2,3,4,5,6,7] (fun y1=>AG 208 [(1,.ref 2 0),(3,.fn 163 1 (L1 [.ref 2 0])),(5,.msl 3 1 0 ((((c.cells.length:Int)+1)).toNat)),(7,.fn 164 1 (L1 [.ref 2 0])),(14,.it 4),(16,.i Aa),(17,.it 5),(18,.ref 6 0),(140,.it 7),(142,.bool true)]) (fun y1=>(zBc c q pos ln o1 o3 Ah gk o4 o7 y1)) (by kernel_rfl) (by kernel_rfl) (by kernel_rfl) (by decide) g0 (by kernel_rfl) (by kernel_rfl) (fun _=>by kernel_rfl) (fun he=>?_) (fun y1 he=>?_)
   ·replace h:=h.1 he;revert r;apply gO;exact jg (by decide:(0:Int)<=1/\ 1<((2:Nat):Int)) (jg jL (gn fun g1=>jg g1 (ce GS [0,1] (cO c q pos ln o1 o3 o4) fun y2=>jg (Eq.refl (gH c Aa q pos ln y2 o3 o4)) (jg (by decide:(0:Int)<=0/\ 0<((2:Nat):Int)) (jg Zu (jg g1 (ce MP [0,1] (zBd c q pos ln y2 o3 o4) fun y3=>jg (Eq.refl (gK c Aa q pos ln y3 o3 o4)) (gw 134 (lG (tg:=[([],(gH c Aa q pos ln y2 o3 o4)),([],(gK c Aa q pos ln y3 o3 o4))]) CW [0,1,2,3,5] (AI _ _ · m0 AD))))))))))
   ·replace h:=h.2 y1 he;revert r;apply gO;exact gi (jg (Eq.refl gk.1) (jg (Eq.refl gk.2.1) (jg (Eq.refl gk.2.2) (jt (lN CW [0,1,2,3,4,5,6,8,7,9] (AI _ _ · m0 m1 n AD Ax Nat.le.refl gk))))))
 case l7 Aa D1 o1 o3 Ah o4 o5 BV BW Df De o8 D6=>
  intro m0 m1 m2 AD Ax F3 gk;have AD:=zC3 AD;have Ax:=zC3 Ax;refine rd F3 fun m2 F3=>?_
  revert r;apply gO;exact bj 148 (fun c0=>gc (gn fun g0=>jg g0 (gn fun g1=>jg g1 (cn fun y1 A7=>jc (em (MR A7) [2,0,1] (Tx c q pos ln o1 o3 Ah gk o4 o5 BV BW Df De o8 D6)) (jt (bn (fun c1=>rO (jb 148 c0 (jg g0 (jg g1 (jc (em (MR A7) [2,0,1] (Tx c q pos ln o1 o3 Ah gk o4 o5 BV BW Df De o8 D6)) (jb 158 c1 (jt (cn fun y2 B6=>jc (em (W7 B6) [2,0,1] (cQ c q pos ln y1 o3 Ah gk o4 o5 BV BW Df De o8 D6)) (bj 164 (fun c2=>bj 169 (fun c3=>bn (fun c4=>rO (jb 148 c0 (jo 149 (AS.int (k:=.i64) (eq_of_beq c4)) (jg g0 (jg g1 (jc (em (MR A7) [2,0,1] (Tx c q pos ln o1 o3 Ah gk o4 o5 BV BW Df De o8 D6)) (jb 158 c1 (jt (jc (em (W7 B6) [2,0,1] (cQ c q pos ln y1 o3 Ah gk o4 o5 BV BW Df De o8 D6)) (jb 164 c2 (jb 169 c3 (jg (by decide:(0:Int)<=0/\ 0<((2:Nat):Int)) (jt (gw 175 (lG CW [0,1,2,3,4,5,6,7,8,9] (AI _ _ · m0 m1 m2 AD Ax F3 gk)))))))))))))))) (fun c4=>bn (fun c6=>rO (jb 148 c0 (jo 149 (AS.int (k:=.i64) (eq_of_beq c6)) (jg g0 (jg g1 (jc (em (MR A7) [2,0,1] (Tx c q pos ln o1 o3 Ah gk o4 o5 BV BW Df De o8 D6)) (jb 158 c1 (jt (jc (em (W7 B6) [2,0,1] (cQ c q pos ln y1 o3 Ah gk o4 o5 BV BW Df De o8 D6)) (jb 164 c2 (jb 169 c3 (jg (by decide:(0:Int)<=1/\ 1<((2:Nat):Int)) (jt (gw 175 (lG CW [0,1,2,3,4,5,6,7,8,9] (AI _ _ · m0 m1 m2 AD Ax F3 gk)))))))))))))))) (fun c6=>nO))) (fun _=>gw 175 (lG CW [0,1,2,3,4,5,6,7,8,9] (AI _ _ · m0 m1 m2 AD Ax F3 gk)))) (fun _=>gw 175 (lG CW [0,1,2,3,4,5,6,7,8,9] (AI _ _ · m0 m1 m2 AD Ax F3 gk)))))))))))) (fun c1=>rO (jb 148 c0 (jg g0 (jg g1 (jc (em (MR A7) [2,0,1] (Tx c q pos ln o1 o3 Ah gk o4 o5 BV BW Df De o8 D6)) (jb 158 c1 (jt (gw 175 (lG CW [0,1,2,3,4,5,6,7,8,9] (AI _ _ · m0 m1 m2 AD Ax F3 gk)))))))))))))))) (fun _=>lG CW [0,1,2,3,4,5,6,8] (AI _ _ · m0 m1 AD Ax gk))
 case l8 x8 Aw o1 o3 Ah o4 Jq=>
  intro m0 m1 AD Ax gk;have AD:=zC3 AD;refine rd Ax fun m1 Ax=>?_
  have p:=H0;refine gs (AV 17 CW) [0,1,2,3,4] p (Co (AX Tryz.f136) 17 [m0,m1]) (AG 208 [(1,.ref 2 0),(3,.fn 163 1 (L1 [.ref 2 0])),(4,.i (c.cells.length:Int)),(5,.msl 3 1 0 ((((c.cells.length:Int)+1)).toNat)),(7,.fn 164 1 (L1 [.ref 2 0])),(8,.i x8),(58,.i (c.cells.length:Int)),(59,.i Aw),(66,.it 4)]) (zBb c q pos ln o1 o3 Ah gk o4 Jq) ?_;revert r;apply gO
  exact gn fun g0=>fun p r h=>by
   replace h:=Wj h;refine Ap.nx (ops:=Aj Tryz.f136 17) HC.x (by kernel_rfl) (by kernel_rfl) 4 3 Ah 2 o3 gk o4 (some Jq) [1,3,4,5,7,8,58,59,66,68] [0,1,2,3] (AG 208 [(1,.ref 2 0),(3,.fn 163 1 (L1 [.ref 2 0])),(4,.i (c.cells.length:Int)),(5,.msl 3 1 0 ((((c.cells.length:Int)+1)).toNat)),(7,.fn 164 1 (L1 [.ref 2 0])),(8,.i x8),(58,.i (c.cells.length:Int)),(59,.i Aw),(68,.bool false)]) (cR c q pos ln o1 o3) [0,1,2,3,4] (fun y1=>AG 208 [(1,.ref 2 0),(3,.fn 163 1 (L1 [.ref 2 0])),(4,.i (c.cells.length:Int)),(5,.msl 3 1 0 ((((c.cells.length:Int)+1)).toNat)),(7,.fn 164 1 (L1 [.ref 2 0])),(8,.i x8),(58,.i (c.cells.length:Int)),(59,.i Aw),(66,.it 4),(68,.bool true)]) (fun y1=>(m6 c q pos ln o1 o3 Ah gk o4 y1)) (by kernel_rfl) (by kernel_rfl) (by kernel_rfl) (by decide) g0 (by kernel_rfl) (by kernel_rfl) (fun _=>by kernel_rfl) (fun he=>?_) (fun y1 he=>?_)
   ·replace h:=h.1 he;revert r;apply gO;exact gw 98 (lG CW [0,1,2,3] (AI _ _ · m0 AD))
   ·replace h:=h.2 y1 he;revert r;apply gO;exact gi (jg (Eq.refl gk.1) (jg (Eq.refl gk.2.1) (jg (Eq.refl gk.2.2) (jt (lN CW [0,1,2,3,5,4,6] (AI _ _ · m0 m1 n AD Ax Nat.le.refl gk))))))
 case l9 Aa o1 o3 Ah o4 o5 BV BW o7 Jp=>
  intro m0 m1 AD Ax gk;have AD:=zC3 AD;refine rd Ax fun m1 Ax=>?_
  have p:=H0;refine gs (AV 37 CW) [0,1,2,3,4,5,6,7] p (Co (AX Tryz.f136) 37 [m0,m1]) (AG 208 [(1,.ref 2 0),(3,.fn 163 1 (L1 [.ref 2 0])),(5,.msl 3 1 0 ((((c.cells.length:Int)+1)).toNat)),(7,.fn 164 1 (L1 [.ref 2 0])),(14,.it 4),(16,.i Aa),(17,.it 5),(18,.ref 6 0),(140,.it 7)]) (zBa c q pos ln o1 o3 Ah gk o4 o5 BV BW o7 Jp) ?_;revert r;apply gO
  exact gn fun g0=>fun p r h=>by
   replace h:=Wj h;refine Ap.nx (ops:=Aj Tryz.f136 37) HC.x (by kernel_rfl) (by kernel_rfl) 7 3 Ah 2 o3 gk o7 (some Jp) [1,3,5,7,14,16,17,18,140,142] [0,1,2,3,4,5,6] (AG 208 [(1,.ref 2 0),(3,.fn 163 1 (L1 [.ref 2 0])),(5,.msl 3 1 0 ((((c.cells.length:Int)+1)).toNat)),(7,.fn 164 1 (L1 [.ref 2 0])),(14,.it 4),(16,.i Aa),(17,.it 5),(18,.ref 6 0),(142,.bool false)]) (cP c q pos ln o1 o3 o4 o5 BV BW) [0,1,2,3,4,5,6,7] (fun y1=>AG 208 [(1,.ref 2 0),(3,.fn 163 1 (L1 [.ref 2 0])),(5,.msl 3 1 0 ((((c.cells.length:Int)+1)).toNat)),(7,.fn 164 1 (L1 [.ref 2 0])),(14,.it 4),(16,.i Aa),(17,.it 5),(18,.ref 6 0),(140,.it 7),(142,.bool true)]) (fun y1=>(zBX c q pos ln o1 o3 Ah gk o4 o5 BV BW o7 y1)) (by kernel_rfl) (by kernel_rfl) (by kernel_rfl) (by decide) g0 (by kernel_rfl) (by kernel_rfl) (fun _=>by kernel_rfl) (fun he=>?_) (fun y1 he=>?_)
   ·replace h:=h.1 he;revert r;apply gO;exact jg (by decide:(0:Int)<=1/\ 1<((2:Nat):Int)) (bi 179 (jg jL (gn fun g1=>jg g1 (ce GS [0,1] (cP c q pos ln o1 o3 o4 o5 BV BW) fun y2=>jg (Eq.refl (ZQ c Aa q pos ln y2 o3 o4 o5 BV BW)) (jg (by decide:(0:Int)<=0/\ 0<((2:Nat):Int)) (bi 197 (jg Zu (jg g1 (ce MP [0,1] (zBZ c q pos ln y2 o3 o4 o5 BV BW) fun y3=>jg (Eq.refl (gJ c Aa q pos ln y3 o3 o4 o5 BV BW)) (gw 134 (lG (tg:=[([],(ZQ c Aa q pos ln y2 o3 o4 o5 BV BW)),([],(gJ c Aa q pos ln y3 o3 o4 o5 BV BW))]) CW [0,1,2,3,5] (AI _ _ · m0 AD)))))) (gw 134 (lG (tg:=[([],(ZQ c Aa q pos ln y2 o3 o4 o5 BV BW))]) CW [0,1,2,3,5] (AI _ _ · m0 AD)))))))) (jg (by decide:(0:Int)<=0/\ 0<((2:Nat):Int)) (bi 197 (jg Zu (gi (ce MP [0,1] (cP c q pos ln o1 o3 o4 o5 BV BW) fun y2=>jg (Eq.refl (gI c Aa q pos ln y2 o3 o4 o5 BV BW)) (gw 134 (lG (tg:=[([],(gI c Aa q pos ln y2 o3 o4 o5 BV BW))]) CW [0,1,2,3,5] (AI _ _ · m0 AD)))))) (gw 134 (lG CW [0,1,2,3,5] (AI _ _ · m0 AD))))))
   ·replace h:=h.2 y1 he;revert r;apply gO;exact gi (jg (Eq.refl gk.1) (jg (Eq.refl gk.2.1) (jg (Eq.refl gk.2.2) (jt (lN CW [0,1,2,3,4,5,6,8,7,9] (AI _ _ · m0 m1 n AD Ax Nat.le.refl gk))))))
theorem u7 {n:Nat}{c:AB}{q:AA}{pos:List Int}{ln:Nat}{lost:List Int}{r:Bool×(List Int)}(h:Pq n c q pos ln lost=some r):EQ 136 [.ref 0 0] [oW c q pos 1 ln,oI lost] (.bool r.1) [oW c q pos 1 ln,oI r.2] false:=by
 refine ot Tryz.func136 fun B N=>?_
 revert r;apply gO;exact bi 32 (lE CW [2] [0,1]) (gc (gw 41 (gi (lN CW [0,1,2,3] ((vC B N c q pos ln lost n) _ _ · n Nat.le.refl)))))
end Go.Proofs.YtkjbblkieglmlaaGreatDoor
