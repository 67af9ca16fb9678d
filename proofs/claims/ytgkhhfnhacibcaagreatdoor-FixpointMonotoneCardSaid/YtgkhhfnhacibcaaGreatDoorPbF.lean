/- Part 6 of 6 of what the proofs of these laws stand on. -/
import Derived.Test.YtgkhhfnhacibcaaGreatDoorPbE
import Derived.Test.YtgkhhfnhacibcaaGreatDoorRows
import Derived.ProofKit
import Derived.OpenShut
import Derived.Deep.DeepHandedRow
import Derived.Lib.LaidTab
import Derived.Deep.Slices
import Derived.Stop.LaidErr
import Derived.Test.YtgkhhfnhacibcaaGreatDoorCards
import Derived.Test.YtgkhhfnhacibcaaGreatDoorTie
set_option linter.all false
namespace Go.Proofs.YtgkhhfnhacibcaaGreatDoor
open Go.RowKit
set_option maxRecDepth 100000
set_option maxHeartbeats 40000000
inductive NJ where
 | l1 (Aj:Int)
 | l2 (x4:Nat) (Aj:Int) (o1:List Int)
def PY (n:Nat) (self:NJ -> Option ((List Int))) (q:AA) (level:Int) (Aj:Int):Option ((List Int)):=
 bif (decide (Aj<(q.cons.length:Int))) then
  (ML n q Aj).bind fun y1=>
   bif (y1.2==0) then
    bif (decide (y1.1<=level)) then
     if ((0=0/\ 1=([Aj]:List Int).length)/\ 0<([Aj]:List Int).length/\ ([Aj]:List Int).length<=A6)/\ AH (Aj+1) then
      self (.l2 (([Aj]:List Int).length) (Aj+1) ([Aj]:List Int))
     else none
    else
     if AH (Aj+1) then
      self (.l1 (Aj+1))
     else none
   else
    if AH (Aj+1) then
     self (.l1 (Aj+1))
    else none
 else
  some ([]:List Int)
def PX (n:Nat) (self:NJ -> Option ((List Int))) (q:AA) (level:Int) (x4:Nat) (Aj:Int) (o1:List Int):Option ((List Int)):=
 bif (decide (Aj<(q.cons.length:Int))) then
  (ML n q Aj).bind fun y1=>
   bif (y1.2==0) then
    bif (decide (y1.1<=level)) then
     if ((0=0/\ 1=([Aj]:List Int).length)/\ (0=0/\ x4=o1.length)/\ o1.length+([Aj]:List Int).length<=A6)/\ AH (Aj+1) then
      self (.l2 (o1.length+([Aj]:List Int).length) (Aj+1) (o1++([Aj]:List Int)))
     else none
    else
     if AH (Aj+1) then
      self (.l2 x4 (Aj+1) o1)
     else none
   else
    if AH (Aj+1) then
     self (.l2 x4 (Aj+1) o1)
    else none
 else
  if x4=o1.length then
   some o1
  else none
def lR (n:Nat) (self:NJ -> Option ((List Int))) (q:AA) (level:Int):Option ((List Int)):=
 self (.l1 0)
def GB (q:AA) (level:Int):Nat -> NJ -> Option ((List Int))
 | 0,_=>none
 | n+1,.l1 Aj=>PY n (GB q level n) q level Aj
 | n+1,.l2 x4 Aj o1=>PX n (GB q level n) q level x4 Aj o1
def PZ (n:Nat) (q:AA) (level:Int):Option ((List Int)):=lR n (GB q level n) q level
def lS (n B:Nat) (N:Yd 0) (q:AA) (level:Int) (r:(List Int)):NJ -> Prop
 | .l1 Aj=>∀ m0:Nat,n<=m0 -> TW B N (FQ Tryz.f38 0 (.ints r) []) (Ak m0 (Ap (Aa Tryz.f38) 0 [])) ⟨AL 33 [(1,.i level),(2,.ref 0 0),(4,.nils),(10,.i (q.cons.length:Int)),(11,.i Aj)],[some (.cells (AD q))]⟩
 | .l2 x4 Aj o1=>∀ m0:Nat,n<=m0 -> TW B N (FQ Tryz.f38 0 (.ints r) []) (Ak m0 (Ap (Aa Tryz.f38) 0 [])) ⟨AL 33 [(1,.i level),(2,.ref 0 0),(4,.msl 1 1 0 x4),(10,.i (q.cons.length:Int)),(11,.i Aj)],[some (.cells (AD q)),some (.ints o1)]⟩
theorem lT (B:Nat) (N:Yd 0) (q:AA) (level:Int):Al (GB q level) (lS · B N q level):=ia (fun _=>rfl) fun n AF pt r h=>by
 cases pt
 case l1 Aj=>
  intro m0 AC;refine rd AC fun m0 AC=>?_
  revert r;apply gO;exact bi 12 (cf Xx [some (.cells (AD q))] fun _=>bi 21 (bi 25 (gc (gi (gw 31 (lG AE [0,2] (AF _ _ · m0 AC))))) (gw 31 (lG AE [0] (AF _ _ · m0 AC)))) (gw 31 (lG AE [0] (AF _ _ · m0 AC)))) (lF fun p=>el AE [4] [] p [] H0 [.nils] AM.ints_nil)
 case l2 x4 Aj o1=>
  intro m0 AC;refine rd AC fun m0 AC=>?_
  revert r;apply gO;exact bi 12 (cf Xx [some (.cells (AD q)),some (.ints o1)] fun _=>bi 21 (bi 25 (gc (gi (gw 31 (lG AE [0,3] (AF _ _ · m0 AC))))) (gw 31 (lG AE [0,1] (AF _ _ · m0 AC)))) (gw 31 (lG AE [0,1] (AF _ _ · m0 AC)))) (gn fun g0=>lF fun p=>ez AE [4] [1] p [0] (H0.g g0))
theorem bL {n:Nat} {q:AA} {level:Int} {r:(List Int)} (h:PZ n q level=some r):EQ 38 [.agg 5 (L1 (AD q)),.i level] [] (.ints r) [] true:=by
 refine ot Tryz.func38 fun B N=>?_
 revert r;apply gO;exact lN AE [0] ((lT B N q level n) _ _ · n Nat.le.refl)
inductive PF where
 | l1 (x8:Int)
 | l2 (x8:Int) (o0:List Bool) (CC:Nat) (o2:List Int)
def Ss (n:Nat) (self:PF -> Option ((List Bool)×Nat×Nat×(List Int)×Bool)) (l:List Int) (ws:List Bool) (x8:Int):Option ((List Bool)×Nat×Nat×(List Int)×Bool):=
 bif (decide (x8<(l.length:Int))) then
  if (0<=x8/\ x8<(l.length:Int))/\ (0<=(l.getD ((x8).toNat) 0)/\ (l.getD ((x8).toNat) 0)<((4096:Nat):Int))/\ 0+((l.getD ((x8).toNat) 0).toNat)<ws.length then
   bif (!(ws.getD (0+((l.getD ((x8).toNat) 0).toNat)) false)) then
    if ((0=0/\ 1=([l.getD ((x8).toNat) 0]:List Int).length)/\ 0<([l.getD ((x8).toNat) 0]:List Int).length/\ ([l.getD ((x8).toNat) 0]:List Int).length<=A6)/\ AH (x8+1) then
     self (.l2 (x8+1) (ws.set (0+((l.getD ((x8).toNat) 0).toNat)) true) (([l.getD ((x8).toNat) 0]:List Int).length) ([l.getD ((x8).toNat) 0]:List Int))
    else none
   else
    if AH (x8+1) then
     self (.l1 (x8+1))
    else none
  else none
 else
  some (ws,0,0,([]:List Int),true)
def NB (n:Nat) (self:PF -> Option ((List Bool)×Nat×Nat×(List Int)×Bool)) (l:List Int) (ws:List Bool) (x8:Int) (o0:List Bool) (CC:Nat) (o2:List Int):Option ((List Bool)×Nat×Nat×(List Int)×Bool):=
 bif (decide (x8<(l.length:Int))) then
  if (0<=x8/\ x8<(l.length:Int))/\ (0<=(l.getD ((x8).toNat) 0)/\ (l.getD ((x8).toNat) 0)<((4096:Nat):Int))/\ 0+((l.getD ((x8).toNat) 0).toNat)<o0.length then
   bif (!(o0.getD (0+((l.getD ((x8).toNat) 0).toNat)) false)) then
    if 0+CC=o2.length/\ CC+([l.getD ((x8).toNat) 0]:List Int).length<=A6/\ AH (x8+1) then
     self (.l2 (x8+1) (o0.set (0+((l.getD ((x8).toNat) 0).toNat)) true) (CC+([l.getD ((x8).toNat) 0]:List Int).length) (o2++([l.getD ((x8).toNat) 0]:List Int)))
    else none
   else
    if AH (x8+1) then
     self (.l2 (x8+1) o0 CC o2)
    else none
  else none
 else
  some (o0,0,CC,o2,false)
def zO (n:Nat) (self:PF -> Option ((List Bool)×Nat×Nat×(List Int)×Bool)) (l:List Int) (ws:List Bool):Option ((List Bool)×Nat×Nat×(List Int)×Bool):=
 self (.l1 0)
def Ha (l:List Int) (ws:List Bool):Nat -> PF -> Option ((List Bool)×Nat×Nat×(List Int)×Bool)
 | 0,_=>none
 | n+1,.l1 x8=>Ss n (Ha l ws n) l ws x8
 | n+1,.l2 x8 o0 CC o2=>NB n (Ha l ws n) l ws x8 o0 CC o2
def LN (n:Nat) (l:List Int) (ws:List Bool):Option ((List Bool)×Nat×Nat×(List Int)×Bool):=zO n (Ha l ws n) l ws
def zP (n B:Nat) (N:Yd 2) (l:List Int) (ws:List Bool) (r:(List Bool)×Nat×Nat×(List Int)×Bool):PF -> Prop
 | .l1 x8=>∀ m0:Nat,n<=m0 -> TW B N (FQ Tryz.f78 2 (.tup 0 (fun j=>([]:List DV).getD j .any)) (bif r.2.2.2.2 then [some (.bools r.1),some (.cells [.nils])] else [some (.bools r.1),some (.cells [.mse 2 1 r.2.1 r.2.2.1]),some (.ints r.2.2.2.1)])) (Ak m0 (Ap (Aa Tryz.f78) 0 [])) ⟨AL 23 [(1,.mp 0 1 0 0),(2,.ref 1 0),(6,.ints l),(7,.i (l.length:Int)),(8,.i x8)],[some (.bools ws),some (.cells [.nils])]⟩
 | .l2 x8 o0 CC o2=>∀ m0:Nat,n<=m0 -> TW B N (FQ Tryz.f78 2 (.tup 0 (fun j=>([]:List DV).getD j .any)) (bif r.2.2.2.2 then [some (.bools r.1),some (.cells [.nils])] else [some (.bools r.1),some (.cells [.mse 2 1 r.2.1 r.2.2.1]),some (.ints r.2.2.2.1)])) (Ak m0 (Ap (Aa Tryz.f78) 0 [])) ⟨AL 23 [(1,.mp 0 1 0 0),(2,.ref 1 0),(6,.ints l),(7,.i (l.length:Int)),(8,.i x8)],[some (.bools o0),some (.cells [.mse 2 1 0 CC]),some (.ints o2)]⟩
theorem zQ (B:Nat) (N:Yd 2) (l:List Int) (ws:List Bool):Al (Ha l ws) (zP · B N l ws):=ia (fun _=>rfl) fun n AF pt r h=>by
 cases pt
 case l1 x8=>
  intro m0 AC;refine rd AC fun m0 AC=>?_
  revert r;apply gO;exact bi 9 (gc (gi (gc (gn fun g1=>jg g1 (gn fun g2=>jg g2 (bi 15 (jg g1 (jg g2 (gc (gi (jo 21 (AM.msl_mse (k:=3) (m:=1) (o:=0) (n:=([l.getD ((x8).toNat) 0]:List Int).length)) (jt (gw 22 (lG AE [0,1,3] (AF _ _ · m0 AC))))))))) (gw 22 (lG AE [0,1] (AF _ _ · m0 AC))))))))) (lE AE [] [0,1])
 case l2 x8 o0 CC o2=>
  intro m0 AC;refine rd AC fun m0 AC=>?_
  revert r;apply gO;exact bi 9 (gc (gi (gc (gn fun g1=>jg g1 (gn fun g2=>jg g2 (bi 15 (jg g1 (jg g2 (jg (And.intro (Eq.refl 0) (Eq.refl 1)) (jg (by decide:0<1) (gc (gi (gc (gi (jt (gw 22 (lG AE [0,1,4] (AF _ _ · m0 AC)))))))))))) (gw 22 (lG AE [0,1,2] (AF _ _ · m0 AC))))))))) (lE AE [] [0,1,2])
theorem kZ {n:Nat} {l:List Int} {ws:List Bool} {r:(List Bool)×Nat×Nat×(List Int)×Bool} (h:LN n l ws=some r):EQ 78 [.ints l,.mp 0 1 0 0,.ref 1 0] [some (.bools ws),some (.cells [.nils])] (.tup 0 (fun j=>([]:List DV).getD j .any)) (bif r.2.2.2.2 then [some (.bools r.1),some (.cells [.nils])] else [some (.bools r.1),some (.cells [.mse 2 1 r.2.1 r.2.2.1]),some (.ints r.2.2.2.1)]) false:=by
 refine ot Tryz.func78 (hni:=by cases r.2.2.2.2 <;> rfl) fun B N=>?_
 revert r;apply gO;exact lN AE [0,1] ((zQ B N l ws n) _ _ · n Nat.le.refl)
theorem kY {n:Nat} {l:List Int} {ws:List Bool} {r:(List Bool)×Nat×Nat×(List Int)×Bool} (h:LN n l ws=some r) (c:r.2.2.2.2=true):EQ 78 [.ints l,.mp 0 1 0 0,.ref 1 0] [some (.bools ws),some (.cells [.nils])] (.tup 0 (fun j=>([]:List DV).getD j .any)) [some (.bools r.1),some (.cells [.nils])] false:=by
 have:=kZ h;rw [c] at this;exact this
theorem kX {n:Nat} {l:List Int} {ws:List Bool} {r:(List Bool)×Nat×Nat×(List Int)×Bool} (h:LN n l ws=some r) (c:r.2.2.2.2=false):EQ 78 [.ints l,.mp 0 1 0 0,.ref 1 0] [some (.bools ws),some (.cells [.nils])] (.tup 0 (fun j=>([]:List DV).getD j .any)) [some (.bools r.1),some (.cells [.mse 2 1 r.2.1 r.2.2.1]),some (.ints r.2.2.2.1)] false:=by
 have:=kZ h;rw [c] at this;exact this
inductive V9 where
 | l1 (x8:Int) (o0:List Bool) (Ip CC:Nat) (o3:List Int)
def ND (n:Nat) (self:V9 -> Option ((List Bool)×Nat×Nat×(List Int))) (l:List Int) (ws:List Bool) (o_ n_:Nat) (qu:List Int) (x8:Int) (o0:List Bool) (Ip CC:Nat) (o3:List Int):Option ((List Bool)×Nat×Nat×(List Int)):=
 bif (decide (x8<(l.length:Int))) then
  if (0<=x8/\ x8<(l.length:Int))/\ (0<=(l.getD ((x8).toNat) 0)/\ (l.getD ((x8).toNat) 0)<((4096:Nat):Int))/\ 0+((l.getD ((x8).toNat) 0).toNat)<o0.length then
   bif (!(o0.getD (0+((l.getD ((x8).toNat) 0).toNat)) false)) then
    if Ip+CC=o3.length/\ CC+([l.getD ((x8).toNat) 0]:List Int).length<=A6/\ AH (x8+1) then
     self (.l1 (x8+1) (o0.set (0+((l.getD ((x8).toNat) 0).toNat)) true) 0 (CC+([l.getD ((x8).toNat) 0]:List Int).length) ((o3.drop Ip)++([l.getD ((x8).toNat) 0]:List Int)))
    else none
   else
    if AH (x8+1) then
     self (.l1 (x8+1) o0 Ip CC o3)
    else none
  else none
 else
  some (o0,Ip,CC,o3)
def zR (n:Nat) (self:V9 -> Option ((List Bool)×Nat×Nat×(List Int))) (l:List Int) (ws:List Bool) (o_ n_:Nat) (qu:List Int):Option ((List Bool)×Nat×Nat×(List Int)):=
 self (.l1 0 ws o_ n_ qu)
def NC (l:List Int) (ws:List Bool) (o_ n_:Nat) (qu:List Int):Nat -> V9 -> Option ((List Bool)×Nat×Nat×(List Int))
 | 0,_=>none
 | n+1,.l1 x8 o0 Ip CC o3=>ND n (NC l ws o_ n_ qu n) l ws o_ n_ qu x8 o0 Ip CC o3
def J5 (n:Nat) (l:List Int) (ws:List Bool) (o_ n_:Nat) (qu:List Int):Option ((List Bool)×Nat×Nat×(List Int)):=zR n (NC l ws o_ n_ qu n) l ws o_ n_ qu
def zT (n B:Nat) (N:Yd 3) (l:List Int) (ws:List Bool) (o_ n_:Nat) (qu:List Int) (r:(List Bool)×Nat×Nat×(List Int)):V9 -> Prop
 | .l1 x8 o0 Ip CC o3=>∀ m0:Nat,n<=m0 -> TW B N (FQ Tryz.f78 3 (.tup 0 (fun j=>([]:List DV).getD j .any)) [some (.bools r.1),some (.cells [.mse 3 1 r.2.1 r.2.2.1]),none,some (.ints r.2.2.2)]) (Ak m0 (Ap (Aa Tryz.f78) 0 [])) ⟨AL 23 [(1,.mp 0 1 0 0),(2,.ref 1 0),(6,.ints l),(7,.i (l.length:Int)),(8,.i x8)],[some (.bools o0),some (.cells [.mse 3 1 Ip CC]),none,some (.ints o3)]⟩
theorem zU (B:Nat) (N:Yd 3) (l:List Int) (ws:List Bool) (o_ n_:Nat) (qu:List Int):Al (NC l ws o_ n_ qu) (zT · B N l ws o_ n_ qu):=ia (fun _=>rfl) fun n AF pt r h=>by
 cases pt
 case l1 x8 o0 Ip CC o3=>
  intro m0 AC;refine rd AC fun m0 AC=>?_
  revert r;apply gO;exact bi 9 (gc (gi (gc (gn fun g1=>jg g1 (gn fun g2=>jg g2 (bi 15 (jg g1 (jg g2 (jg (And.intro (Eq.refl 0) (Eq.refl 1)) (jg (by decide:0<1) (gc (gi (gc (gi (jt (gw 22 (lG AE [0,1,2,5] (AF _ _ · m0 AC)))))))))))) (gw 22 (lG AE [0,1,2,3] (AF _ _ · m0 AC))))))))) (lE AE [] [0,1,2,3])
theorem aZ {n:Nat} {l:List Int} {ws:List Bool} {o_ n_:Nat} {qu:List Int} {r:(List Bool)×Nat×Nat×(List Int)} (h:J5 n l ws o_ n_ qu=some r):EQ 78 [.ints l,.mp 0 1 0 0,.ref 1 0] [some (.bools ws),some (.cells [.mse 2 1 o_ n_]),some (.ints qu)] (.tup 0 (fun j=>([]:List DV).getD j .any)) [some (.bools r.1),some (.cells [.mse 3 1 r.2.1 r.2.2.1]),none,some (.ints r.2.2.2)] false:=by
 refine ot Tryz.func78 fun B N=>?_
 refine BN.le (BI.moveE 2 ⟨AL 23 [(0,.ints l),(1,.mp 0 1 0 0),(2,.ref 1 0)],[some (.bools ws),some (.cells [.mse 3 1 o_ n_]),none,some (.ints qu)]⟩ (by kernel_rfl)) (by kernel_rfl) ?_;revert r;apply gO;exact lN AE [0,1,2,3] ((zU B N l ws o_ n_ qu n) _ _ · n Nat.le.refl)
def eV (n:Nat) (c:Int) (q:AA):Option Bool:=
 bif (decide (c<0)) then
  some true
 else
  some (decide (c>=q.cells))
def UI (n:Nat) (c:Int) (q:AA):Option Bool:=eV n c q
theorem qH {n:Nat} {c:Int} {q:AA} {r:Bool} (h:UI n c q=some r):EQ 49 [.i c,.fp 5 (L1 (AD q))] [] (.bool r) [] true:=by
 refine ot Tryz.func49 fun B N=>?_
 revert r;apply gO;exact bi 5 (lE AE [3] []) (lE AE [3] [])
inductive Uk where
 | l1 (x8:Int)
def MV (n:Nat) (self:Uk -> Option Int) (l:List Int) (q:AA) (x8:Int):Option Int:=
 bif (decide (x8<(l.length:Int))) then
  if 0<=x8/\ x8<(l.length:Int) then
   (UI n (l.getD ((x8).toNat) 0) q).bind fun y1=>
    bif y1 then
     some x8
    else
     if AH (x8+1) then
      self (.l1 (x8+1))
     else none
  else none
 else
  some (-1)
def sT (n:Nat) (self:Uk -> Option Int) (l:List Int) (q:AA):Option Int:=
 self (.l1 0)
def Jd (l:List Int) (q:AA):Nat -> Uk -> Option Int
 | 0,_=>none
 | n+1,.l1 x8=>MV n (Jd l q n) l q x8
def gH (n:Nat) (l:List Int) (q:AA):Option Int:=sT n (Jd l q n) l q
def sU (n B:Nat) (N:Yd 0) (l:List Int) (q:AA) (r:Int):Uk -> Prop
 | .l1 x8=>∀ m0:Nat,n<=m0 -> TW B N (FQ Tryz.f41 0 (.i r) []) (Ak m0 (Ap (Aa Tryz.f41) 0 [])) ⟨AL 19 [(0,.ints l),(1,.fn 49 1 (L1 [.fp 5 (L1 (AD q))])),(7,.i (l.length:Int)),(8,.i x8)],[]⟩
theorem sV (B:Nat) (N:Yd 0) (l:List Int) (q:AA):Al (Jd l q) (sU · B N l q):=ia (fun _=>rfl) fun n AF pt r h=>by
 cases pt
 case l1 x8=>
  intro m0 AC;refine rd AC fun m0 AC=>?_
  revert r;apply gO;exact bi 9 (gi (cf qH [] fun _=>bi 16 (lE AE [4] []) (gw 18 (lG AE [] (AF _ _ · m0 AC))))) (lE AE [4] [])
theorem sS {n:Nat} {l:List Int} {q:AA} {r:Int} (h:gH n l q=some r):EQ 41 [.ints l,.fn 49 1 (L1 [.fp 5 (L1 (AD q))])] [] (.i r) [] true:=by
 refine ot Tryz.func41 fun B N=>?_
 revert r;apply gO;exact lN AE [] ((sV B N l q n) _ _ · n Nat.le.refl)
def jf (n:Nat) (l:List Int) (q:AA):Option Bool:=
 (gH n l q).bind fun y1=>
  some (decide (y1>=0))
def Vm (n:Nat) (l:List Int) (q:AA):Option Bool:=jf n l q
theorem yC {n:Nat} {l:List Int} {q:AA} {r:Bool} (h:Vm n l q=some r):EQ 48 [.ints l,.fn 49 1 (L1 [.fp 5 (L1 (AD q))])] [] (.bool r) [] true:=by
 unfold Vm jf at h;refine ot Tryz.func48 fun B N=>?_
 revert r;apply gO;exact cf sS [] fun _=>lE AE [4] []
theorem m7:An (A8 Tryz.f50 32) [] (List.range 9) []:=by unfold An;kernel_rfl
def D0:BV:=fun i=>match i with
 | 32=>.ord [] (List.range 9) []
 | _=>.no
def gj (cells:List Int) (q:AA) (o2:List Bool) (o1:Int -> List Int) (B1:Int):DH:=[some (.cells (AD q)),none,some (.bools o2),some (.cells [.nils]),some (.mo (.rows o1 (some (cells.getD ((B1).toNat) 0,o1 (cells.getD ((B1).toNat) 0),false))))]
def uk (cells:List Int) (q:AA) (o2:List Bool) (BX AP:Nat) (o4:List Int) (o1:Int -> List Int) (B1:Int):DH:=[some (.cells (AD q)),none,some (.bools o2),some (.cells [.mse 4 1 BX AP]),some (.ints o4),some (.mo (.rows o1 (some (cells.getD ((B1).toNat) 0,o1 (cells.getD ((B1).toNat) 0),false))))]
def gh (cells:List Int) (q:AA) (o1:Int -> List Int) (o2:List Bool) (BX AP:Nat) (o4:List Int):DH:=[some (.cells (AD q)),some (.mo (.rows o1 none)),some (.bools o2),some (.cells [.mse 4 1 BX AP]),some (.ints o4)]
def uj (cells:List Int) (q:AA) (o1:Int -> List Int) (o2:List Bool) (o4:List Int) (BX AP:Nat):DH:=[some (.cells (AD q)),some (.mo (.rows o1 none)),some (.bools (o2.set (0+((o4.getD (BX+0) 0).toNat)) false)),some (.cells [.mse 4 1 (BX+1) (AP-1)]),some (.ints o4)]
def ui (cells:List Int) (q:AA) (o2:List Bool) (BX AP:Nat) (o4:List Int) (o1:Int -> List Int) (Dj:Int):DH:=[some (.cells (AD q)),none,some (.bools o2),some (.cells [.mse 4 1 BX AP]),some (.ints o4),some (.mo (.rows o1 (some (Dj,o1 Dj,false))))]
inductive Hs where
 | l1 (x9 BY:List Int) (CF BK:Int) (o1:Int -> List Int)
 | l2 (x9:List Int) (Az:Int) (BY:List Int) (CF BK:Int) (Gy:List Int) (Cq Fh:Int) (o1:Int -> List Int)
 | l3 (x9:List Int) (B1:Int) (o1:Int -> List Int) (o2:List Bool)
 | l4 (x9:List Int) (B1:Int) (o1:Int -> List Int) (o2:List Bool) (BX AP:Nat) (o4:List Int)
 | l5 (o1:Int -> List Int) (o2:List Bool)
 | l6 (x1:List Int) (o1:Int -> List Int) (o2:List Bool) (BX AP:Nat) (o4:List Int)
 | l7 (x1 x21:List Int) (C0 Dj:Int) (o1:Int -> List Int) (o2:List Bool) (BX AP:Nat) (o4:List Int)
def QV (n:Nat) (self:Hs -> Option ((List Int))) (q:AA) (pos cells:List Int) (level:Int) (x9 BY:List Int) (CF BK:Int) (o1:Int -> List Int):Option ((List Int)):=
 bif (decide (BK<CF)) then
  if (0<=BK/\ BK<(BY.length:Int))/\ (0<=(BY.getD ((BK).toNat) 0)/\ (BY.getD ((BK).toNat) 0)<(q.cons.length:Int)) then
   self (.l2 x9 (BY.getD ((BK).toNat) 0) BY CF BK ((q.cons.getD ((BY.getD ((BK).toNat) 0).toNat) default).cells) ((((q.cons.getD ((BY.getD ((BK).toNat) 0).toNat) default).cells).length:Nat):Int) 0 o1)
  else none
 else
  self (.l3 x9 0 o1 (List.replicate 4096 false))
def QU (n:Nat) (self:Hs -> Option ((List Int))) (q:AA) (pos cells:List Int) (level:Int) (x9:List Int) (Az:Int) (BY:List Int) (CF BK:Int) (Gy:List Int) (Cq Fh:Int) (o1:Int -> List Int):Option ((List Int)):=
 bif (decide (Fh<Cq)) then
  if (0<=Fh/\ Fh<(Gy.length:Int))/\ (o1 (Gy.getD ((Fh).toNat) 0)).length+([Az]:List Int).length<=A6/\ AH (Fh+1) then
   self (.l2 x9 Az BY CF BK Gy Cq (Fh+1) (GY o1 (Gy.getD ((Fh).toNat) 0) ((o1 (Gy.getD ((Fh).toNat) 0))++([Az]:List Int))))
  else none
 else
  if AH (BK+1) then
   self (.l1 x9 BY CF (BK+1) o1)
  else none
def JP (n:Nat) (self:Hs -> Option ((List Int))) (q:AA) (pos cells:List Int) (level:Int) (x9:List Int) (B1:Int) (o1:Int -> List Int) (o2:List Bool):Option ((List Int)):=
 bif (decide (B1<(cells.length:Int))) then
  if 0<=B1/\ B1<(cells.length:Int) then
   (LN n (o1 (cells.getD ((B1).toNat) 0)) o2).bind fun y1=>
    bif y1.2.2.2.2 then
     if AH (B1+1) then
      self (.l3 x9 (B1+1) o1 y1.1)
     else none
    else
     if AH (B1+1) then
      self (.l4 x9 (B1+1) o1 y1.1 y1.2.1 y1.2.2.1 y1.2.2.2.1)
     else none
  else none
 else
  (LN n x9 o2).bind fun y1=>
   bif y1.2.2.2.2 then
    self (.l5 o1 y1.1)
   else
    self (.l6 pos o1 y1.1 y1.2.1 y1.2.2.1 y1.2.2.2.1)
def QT (n:Nat) (self:Hs -> Option ((List Int))) (q:AA) (pos cells:List Int) (level:Int) (x9:List Int) (B1:Int) (o1:Int -> List Int) (o2:List Bool) (BX AP:Nat) (o4:List Int):Option ((List Int)):=
 bif (decide (B1<(cells.length:Int))) then
  if 0<=B1/\ B1<(cells.length:Int) then
   (J5 n (o1 (cells.getD ((B1).toNat) 0)) o2 BX AP o4).bind fun y1=>
    if AH (B1+1) then
     self (.l4 x9 (B1+1) o1 y1.1 y1.2.1 y1.2.2.1 y1.2.2.2)
    else none
  else none
 else
  (J5 n x9 o2 BX AP o4).bind fun y1=>
   self (.l6 pos o1 y1.1 y1.2.1 y1.2.2.1 y1.2.2.2)
def pb (n:Nat) (self:Hs -> Option ((List Int))) (q:AA) (pos cells:List Int) (level:Int) (o1:Int -> List Int) (o2:List Bool):Option ((List Int)):=
 some pos
def QS (n:Nat) (self:Hs -> Option ((List Int))) (q:AA) (pos cells:List Int) (level:Int) (x1:List Int) (o1:Int -> List Int) (o2:List Bool) (BX AP:Nat) (o4:List Int):Option ((List Int)):=
 bif (AP==0) then
  some x1
 else
  bif (decide ((AP:Int)>0)) then
   (GI n x1).bind fun y1=>
    bif (!y1) then
     if ((0:Int)<=0/\ 0<(AP:Int))/\ BX+0<o4.length/\ ((0:Int)<=1/\ (1:Int)<=(AP:Int)/\ (AP:Int)<=(AP:Int))/\ (0<=(o4.getD (BX+0) 0)/\ (o4.getD (BX+0) 0)<((4096:Nat):Int))/\ 0+((o4.getD (BX+0) 0).toNat)<o2.length then
      (Hu n q (o4.getD (BX+0) 0) x1).bind fun y2=>
       bif (y2.2 != 0) then
        some x1
       else
        self (.l7 x1 y2.1 (y2.1.length:Int) 0 o1 (o2.set (0+((o4.getD (BX+0) 0).toNat)) false) (BX+1) (AP-1) o4)
     else none
    else
     some x1
  else
   some x1
def Lu (n:Nat) (self:Hs -> Option ((List Int))) (q:AA) (pos cells:List Int) (level:Int) (x1 x21:List Int) (C0 Dj:Int) (o1:Int -> List Int) (o2:List Bool) (BX AP:Nat) (o4:List Int):Option ((List Int)):=
 bif (decide (Dj<C0)) then
  if (0<=Dj/\ Dj<(x21.length:Int))/\ (0<=Dj/\ Dj<(x1.length:Int)) then
   bif ((x21.getD ((Dj).toNat) 0) != (x1.getD ((Dj).toNat) 0)) then
    (J5 n (o1 Dj) o2 BX AP o4).bind fun y1=>
     if AH (Dj+1) then
      self (.l7 x1 x21 C0 (Dj+1) o1 y1.1 y1.2.1 y1.2.2.1 y1.2.2.2)
     else none
   else
    if AH (Dj+1) then
     self (.l7 x1 x21 C0 (Dj+1) o1 o2 BX AP o4)
    else none
  else none
 else
  self (.l6 x21 o1 o2 BX AP o4)
def QW (n:Nat) (self:Hs -> Option ((List Int))) (q:AA) (pos cells:List Int) (level:Int):Option ((List Int)):=
 (GI n pos).bind fun y1=>
  bif y1 then
   if ((pos.length:Int):Int)=(pos.length:Int)/\ 0<=(pos.length:Int)/\ ((pos.length:Int):Int)<=1000000000000 then
    if pos.length=(List.replicate pos.length (0:Int)).length then
     some (List.replicate pos.length (0:Int))
    else none
   else none
  else
   (PZ n q level).bind fun y2=>
    self (.l1 y2 y2 (y2.length:Int) 0 (fun _=>[]))
def Bh (q:AA) (pos cells:List Int) (level:Int):Nat -> Hs -> Option ((List Int))
 | 0,_=>none
 | n+1,.l1 x9 BY CF BK o1=>QV n (Bh q pos cells level n) q pos cells level x9 BY CF BK o1
 | n+1,.l2 x9 Az BY CF BK Gy Cq Fh o1=>QU n (Bh q pos cells level n) q pos cells level x9 Az BY CF BK Gy Cq Fh o1
 | n+1,.l3 x9 B1 o1 o2=>JP n (Bh q pos cells level n) q pos cells level x9 B1 o1 o2
 | n+1,.l4 x9 B1 o1 o2 BX AP o4=>QT n (Bh q pos cells level n) q pos cells level x9 B1 o1 o2 BX AP o4
 | n+1,.l5 o1 o2=>pb n (Bh q pos cells level n) q pos cells level o1 o2
 | n+1,.l6 x1 o1 o2 BX AP o4=>QS n (Bh q pos cells level n) q pos cells level x1 o1 o2 BX AP o4
 | n+1,.l7 x1 x21 C0 Dj o1 o2 BX AP o4=>Lu n (Bh q pos cells level n) q pos cells level x1 x21 C0 Dj o1 o2 BX AP o4
def XO (n:Nat) (q:AA) (pos cells:List Int) (level:Int):Option ((List Int)):=QW n (Bh q pos cells level n) q pos cells level
def pc (n B:Nat) (N:Yd 0) (q:AA) (pos cells:List Int) (level:Int) (r:(List Int)):Hs -> Prop
 | .l1 x9 BY CF BK o1=>∀ m0:Nat,n<=m0 -> TW B N (FQ Tryz.f50 0 (.ints r) []) (Ak m0 (Ap (Aa Tryz.f50) 0 [])) ⟨AL 123 [(1,.ints pos),(2,.ints cells),(4,.ref 0 0),(9,.ints x9),(10,.mri 1 0),(33,.ints BY),(34,.i CF),(35,.i BK)],[some (.cells (AD q)),some (.mo (.rows o1 none))]⟩
 | .l2 x9 Az BY CF BK Gy Cq Fh o1=>∀ m0 m1:Nat,n<=m0 -> n<=m1 -> TW B N (FQ Tryz.f50 0 (.ints r) []) (Ak m1 (Ap (Aa Tryz.f50) 2 [m0])) ⟨AL 123 [(1,.ints pos),(2,.ints cells),(4,.ref 0 0),(9,.ints x9),(10,.mri 1 0),(12,.i Az),(33,.ints BY),(34,.i CF),(35,.i BK),(44,.ints Gy),(45,.i Cq),(46,.i Fh)],[some (.cells (AD q)),some (.mo (.rows o1 none))]⟩
 | .l3 x9 B1 o1 o2=>∀ m0:Nat,n<=m0 -> TW B N (FQ Tryz.f50 0 (.ints r) []) (Ak m0 (Ap (Aa Tryz.f50) 4 [])) ⟨AL 123 [(1,.ints pos),(4,.ref 0 0),(9,.ints x9),(10,.mri 1 0),(15,.mp 2 1 0 0),(16,.ref 3 0),(17,.fn 78 2 (L1 [.mp 2 1 0 0,.ref 3 0])),(61,.ints cells),(62,.i (cells.length:Int)),(63,.i B1)],[some (.cells (AD q)),some (.mo (.rows o1 none)),some (.bools o2),some (.cells [.nils])]⟩
 | .l4 x9 B1 o1 o2 BX AP o4=>∀ m0:Nat,n<=m0 -> TW B N (FQ Tryz.f50 0 (.ints r) []) (Ak m0 (Ap (Aa Tryz.f50) 4 [])) ⟨AL 123 [(1,.ints pos),(4,.ref 0 0),(9,.ints x9),(10,.mri 1 0),(15,.mp 2 1 0 0),(16,.ref 3 0),(17,.fn 78 2 (L1 [.mp 2 1 0 0,.ref 3 0])),(61,.ints cells),(62,.i (cells.length:Int)),(63,.i B1)],[some (.cells (AD q)),some (.mo (.rows o1 none)),some (.bools o2),some (.cells [.mse 4 1 BX AP]),some (.ints o4)]⟩
 | .l5 o1 o2=>∀ m0:Nat,n<=m0 -> TW B N (FQ Tryz.f50 0 (.ints r) []) (Ak m0 (Ap (Aa Tryz.f50) 6 [])) ⟨AL 123 [(1,.ints pos),(4,.ref 0 0),(10,.mri 1 0),(15,.mp 2 1 0 0),(16,.ref 3 0),(17,.fn 78 2 (L1 [.mp 2 1 0 0,.ref 3 0]))],[some (.cells (AD q)),some (.mo (.rows o1 none)),some (.bools o2),some (.cells [.nils])]⟩
 | .l6 x1 o1 o2 BX AP o4=>∀ m0:Nat,n<=m0 -> TW B N (FQ Tryz.f50 0 (.ints r) []) (Ak m0 (Ap (Aa Tryz.f50) 6 [])) ⟨AL 123 [(1,.ints x1),(4,.ref 0 0),(10,.mri 1 0),(15,.mp 2 1 0 0),(16,.ref 3 0),(17,.fn 78 2 (L1 [.mp 2 1 0 0,.ref 3 0]))],[some (.cells (AD q)),some (.mo (.rows o1 none)),some (.bools o2),some (.cells [.mse 4 1 BX AP]),some (.ints o4)]⟩
 | .l7 x1 x21 C0 Dj o1 o2 BX AP o4=>∀ m0 m1:Nat,n<=m0 -> n<=m1 -> TW B N (FQ Tryz.f50 0 (.ints r) []) (Ak m1 (Ap (Aa Tryz.f50) 8 [m0])) ⟨AL 123 [(1,.ints x1),(4,.ref 0 0),(10,.mri 1 0),(15,.mp 2 1 0 0),(16,.ref 3 0),(17,.fn 78 2 (L1 [.mp 2 1 0 0,.ref 3 0])),(21,.ints x21),(102,.i C0),(103,.i Dj)],[some (.cells (AD q)),some (.mo (.rows o1 none)),some (.bools o2),some (.cells [.mse 4 1 BX AP]),some (.ints o4)]⟩
theorem pd (B:Nat) (N:Yd 0) (q:AA) (pos cells:List Int) (level:Int):Al (Bh q pos cells level) (pc · B N q pos cells level):=ia (fun _=>rfl) fun n AF pt r h=>by
 cases pt
 case l1 x9 BY CF BK o1=>
  intro m0 AC;refine rd AC fun m0 AC=>?_
  revert r;apply gO;exact bi 36 (gc (gi (gi (lN D0 [0,1] (AF _ _ · m0 n AC Nat.le.refl))))) (lN D0 [0,1,2,3] (AF _ _ · n Nat.le.refl))
 case l2 x9 Az BY CF BK Gy Cq Fh o1=>
  intro m0 m1 AC Ag;have AC:=zAc AC;refine rd Ag fun m1 Ag=>?_
  revert r;apply gO;exact bi 47 (gc (gi (jg (And.intro (Eq.refl 0) (Eq.refl 1)) (jg (by decide:0<1) (gc (gi (jg (Eq.refl (Gy.getD ((Fh).toNat) 0)) (gw 58 (lG D0 [0,4] (AF _ _ · m0 m1 AC Ag)))))))))) (gw 59 (lG D0 [0,1] (AF _ _ · m0 AC)))
 case l3 x9 B1 o1 o2=>
  intro m0 AC;refine rd AC fun m0 AC=>?_
  revert r;apply gO;exact bi 64 (gi (cn fun y1 A5=>bn (fun c1=>jc (es (kY A5 c1) [2,3] (gj cells q o2 o1 B1) [.mri 4 1,.mp 2 1 0 0,.ref 3 0] ⟨(.inr (J6.own rfl rfl)),(.inl rfl),(.inl rfl),trivial⟩) (ju 71 4 (gw 72 (lG D0 [0,4,2,3] (AF _ _ · m0 AC))))) (fun c1=>jc (es (kX A5 c1) [2,3] (gj cells q o2 o1 B1) [.mri 4 1,.mp 2 1 0 0,.ref 3 0] ⟨(.inr (J6.own rfl rfl)),(.inl rfl),(.inl rfl),trivial⟩) (ju 71 4 (gw 72 (lG D0 [0,4,2,3,5] (AF _ _ · m0 AC))))))) (cn fun y1 A5=>bn (fun c1=>jc (em (kY A5 c1) [2,3] [some (.cells (AD q)),some (.mo (.rows o1 none)),some (.bools o2),some (.cells [.nils])]) (lN D0 [0,1,2,3] (AF _ _ · n Nat.le.refl))) (fun c1=>jc (em (kX A5 c1) [2,3] [some (.cells (AD q)),some (.mo (.rows o1 none)),some (.bools o2),some (.cells [.nils])]) (lN D0 [0,1,2,3,4] (AF _ _ · n Nat.le.refl))))
 case l4 x9 B1 o1 o2 BX AP o4=>
  intro m0 AC;refine rd AC fun m0 AC=>?_
  revert r;apply gO;exact bi 64 (gi (cn fun y1 A5=>jc (es (aZ A5) [2,3,4] (uk cells q o2 BX AP o4 o1 B1) [.mri 5 1,.mp 2 1 0 0,.ref 3 0] ⟨(.inr (J6.own rfl rfl)),(.inl rfl),(.inl rfl),trivial⟩) (ju 71 5 (gw 72 (lG D0 [0,5,2,3,6] (AF _ _ · m0 AC)))))) (ce aZ [2,3,4] (gh cells q o1 o2 BX AP o4) fun _=>lN D0 [0,1,2,3,5] (AF _ _ · n Nat.le.refl))
 case l5 o1 o2=>
  intro m0 AC;refine rd AC fun m0 AC=>?_
  revert r;apply gO;exact lE D0 [8] []
 case l6 x1 o1 o2 BX AP o4=>
  intro m0 AC;refine rd AC fun m0 AC=>?_
  revert r;apply gO;exact bn (fun c0=>jo 76 (AM.mse_nil (k:=4) (m:=1) (o:=BX) (eq_of_beq c0)) (lE D0 [8] [])) (fun c0=>jo 76 (AM.mse_msl (k:=4) (m:=1) (o:=BX) (T4 c0) rfl) (bi 78 (cf OB (gh cells q o1 o2 BX AP o4) fun _=>bi 82 (jo 84 (AM.mse_msl (k:=4) (m:=1) (o:=BX) (T4 c0) rfl) (gc (gi (gc (gi (jo 87 (AM.mse_msl (k:=4) (m:=1) (o:=BX) (T4 c0) rfl) (gc (gi (jt (gc (gi (gi (cf T0 (uj cells q o1 o2 o4 BX AP) fun _=>bi 99 (lE D0 [8] []) (lN D0 [0,1,2,3,4] (AF _ _ · m0 n AC Nat.le.refl))))))))))))))) (lE D0 [8] [])) (lE D0 [8] [])))
 case l7 x1 x21 C0 Dj o1 o2 BX AP o4=>
  intro m0 m1 AC Ag;have AC:=zAc AC;refine rd Ag fun m1 Ag=>?_
  revert r;apply gO;exact bi 104 (jg m7 (gc (gi (gi (bi 114 (cn fun y1 A5=>jc (es (aZ A5) [2,3,4] (ui cells q o2 BX AP o4 o1 Dj) [.mri 5 1,.mp 2 1 0 0,.ref 3 0] ⟨(.inr (J6.own rfl rfl)),(.inl rfl),(.inl rfl),trivial⟩) (ju 119 5 (gw 120 (lG D0 [0,5,2,3,6] (AF _ _ · m0 m1 AC Ag))))) (gw 120 (lG D0 [0,1,2,3,4] (AF _ _ · m0 m1 AC Ag)))))))) (lG D0 [0,1,2,3,4] (AF _ _ · m0 AC))
theorem pa {n:Nat} {q:AA} {pos cells:List Int} {level:Int} {r:(List Int)} (h:XO n q pos cells level=some r):EQ 50 [.agg 5 (L1 (AD q)),.ints pos,.ints cells,.i level] [] (.ints r) [] true:=by
 refine ot Tryz.func50 fun B N=>?_
 revert r;apply gO;exact cf OB [some (.cells (AD q))] fun _=>bi 25 (gi (gn fun g1=>lF fun p=>ez D0 [8] [1] p [0] (H0.g g1))) (cf bL [some (.cells (AD q))] fun _=>lN D0 [0,1] ((pd B N q pos cells level n) _ _ · n Nat.le.refl))
def kU (n:Nat) (q:AA) (pos cells:List Int) (level:Int):Option ((List Int)×Int):=
 (JQ n q pos).bind fun y1=>
  bif (y1 != 0) then
   some (([]:List Int),y1)
  else
   (Vm n cells q).bind fun y2=>
    bif y2 then
     some (([]:List Int),1)
    else
     (XO n q pos cells level).bind fun y3=>
      some (y3,0)
def NA (n:Nat) (q:AA) (pos cells:List Int) (level:Int):Option ((List Int)×Int):=kU n q pos cells level
theorem Sr {n:Nat} {q:AA} {pos cells:List Int} {level:Int} {r:(List Int)×Int} (h:NA n q pos cells level=some r):EQ 21 [.agg 5 (L1 (AD q)),.ints pos,.ints cells,.i level] [] (.tup 2 (L1 [.ints r.1,.i r.2])) [] true:=by
 unfold NA kU at h;refine ot Tryz.func21 fun B N=>?_
 revert r;apply gO;exact cf T5 [some (.cells (AD q))] fun y1=>bi 14 (lF fun p=>el AE [8,9] [] p [] H0 [.nils,.i y1] (AM.tupL (l:=[.nils,.i y1]) (l':=[.ints ([]:List Int),.i y1]) rfl ⟨AM.ints_nil,BM,trivial⟩)) (cn fun y2 CQ=>jc (sb [.ints cells,.fn 49 1 (L1 [.ref 0 0])] (yC CQ) [some (.cells (AD q))] ⟨Ae.plain (by kernel_rfl),(Ae.fnL (l:=[.ref 0 0]) (l0:=[.fp 5 (L1 (AD q))]) ⟨(Ae.refL (l:=(AD q)) (l0:=(AD q)) rfl ⟨Ae.plain (by kernel_rfl),Ae.plain (by kernel_rfl),Ae.plain (by kernel_rfl),Ae.plain (by kernel_rfl),Ae.plain (by kernel_rfl),trivial⟩),trivial⟩),trivial⟩) (bi 18 (lF fun p=>el AE [8,9] [] p [] H0 [.nils,.i 1] (AM.tupL (l:=[.nils,.i 1]) (l':=[.ints ([]:List Int),.i 1]) rfl ⟨AM.ints_nil,BM,trivial⟩)) (cf pa [some (.cells (AD q))] fun _=>lE AE [8,9] [])))
def kS (n:Nat) (q:AA) (pos:List Int) (level:Int):Option ((List Int)×Int):=
 (NA n q pos ([]:List Int) level).bind fun y1=>
  some (y1.1,y1.2)
def DK (n:Nat) (q:AA) (pos:List Int) (level:Int):Option ((List Int)×Int):=kS n q pos level
theorem EF {n:Nat} {q:AA} {pos:List Int} {level:Int} {r:(List Int)×Int} (h:DK n q pos level=some r):EQ 13 [.agg 5 (L1 (AD q)),.ints pos,.i level] [] (.tup 2 (L1 [.ints r.1,.i r.2])) [] true:=by
 unfold DK kS at h;refine ot Tryz.func13 fun B N=>?_
 revert r;apply gO;exact cn fun y1 A5=>jc (fb (ES.argsLe (ds:=[.agg 5 (L1 (AD q)),.ints pos,.nils,.i level]) (Sr A5) ⟨BM,BM,AM.ints_nil,BM,trivial⟩) [some (.cells (AD q))]) (lE AE [6,7] [])
def jr (n:Nat) (i_:Int) (q:AA) (pos:List Int):Option (Bool×(List Int)):=
 (Hu n q i_ pos).bind fun y1=>
  bif (y1.2 != 0) then
   some (false,pos)
  else
   (Ov n y1.1 pos).bind fun y2=>
    bif y2 then
     some (false,pos)
    else
     some (true,y1.1)
def SS (n:Nat) (i_:Int) (q:AA) (pos:List Int):Option (Bool×(List Int)):=jr n i_ q pos
theorem yS {n:Nat} {i_:Int} {q:AA} {pos:List Int} {r:Bool×(List Int)} (h:SS n i_ q pos=some r):EQ 39 [.i i_,.ref 0 0,.ref 1 0] [some (.cells (AD q)),some (.cells [.ints pos])] (.bool r.1) [some (.cells (AD q)),some (.cells [.ints r.2])] false:=by
 unfold SS jr at h;refine ot Tryz.func39 fun B N=>?_
 revert r;apply gO;exact cf T0 [some (.cells (AD q)),some (.cells [.ints pos])] fun _=>bi 15 (lE AE [4] [0,1]) (cf jI [some (.cells (AD q)),some (.cells [.ints pos])] fun _=>bi 19 (lE AE [4] [0,1]) (jt (lE AE [4] [0,1])))
inductive Uo where
 | l1 (x8:Int) (CC:List Int)
def MY (n:Nat) (self:Uo -> Option (Int×(List Int))) (l:List Int) (q:AA) (pos:List Int) (x8:Int) (CC:List Int):Option (Int×(List Int)):=
 bif (decide (x8<(l.length:Int))) then
  if 0<=x8/\ x8<(l.length:Int) then
   (SS n (l.getD ((x8).toNat) 0) q CC).bind fun y1=>
    bif y1.1 then
     some (x8,y1.2)
    else
     if AH (x8+1) then
      self (.l1 (x8+1) y1.2)
     else none
  else none
 else
  some ((-1),CC)
def sZ (n:Nat) (self:Uo -> Option (Int×(List Int))) (l:List Int) (q:AA) (pos:List Int):Option (Int×(List Int)):=
 self (.l1 0 pos)
def Je (l:List Int) (q:AA) (pos:List Int):Nat -> Uo -> Option (Int×(List Int))
 | 0,_=>none
 | n+1,.l1 x8 CC=>MY n (Je l q pos n) l q pos x8 CC
def MZ (n:Nat) (l:List Int) (q:AA) (pos:List Int):Option (Int×(List Int)):=sZ n (Je l q pos n) l q pos
def sc (n B:Nat) (N:Yd 2) (l:List Int) (q:AA) (pos:List Int) (r:Int×(List Int)):Uo -> Prop
 | .l1 x8 CC=>∀ m0:Nat,n<=m0 -> TW B N (FQ Tryz.f41 2 (.i r.1) [some (.cells (AD q)),some (.cells [.ints r.2])]) (Ak m0 (Ap (Aa Tryz.f41) 0 [])) ⟨AL 19 [(0,.ints l),(1,.fn 39 2 (L1 [.ref 0 0,.ref 1 0])),(7,.i (l.length:Int)),(8,.i x8)],[some (.cells (AD q)),some (.cells [.ints CC])]⟩
theorem sd (B:Nat) (N:Yd 2) (l:List Int) (q:AA) (pos:List Int):Al (Je l q pos) (sc · B N l q pos):=ia (fun _=>rfl) fun n AF pt r h=>by
 cases pt
 case l1 x8 CC=>
  intro m0 AC;refine rd AC fun m0 AC=>?_
  revert r;apply gO;exact bi 9 (gi (ce yS [0,1] [some (.cells (AD q)),some (.cells [.ints CC])] fun _=>bi 16 (lE AE [4] [0,1]) (gw 18 (lG AE [0,1] (AF _ _ · m0 AC))))) (lE AE [4] [0,1])
theorem gJ {n:Nat} {l:List Int} {q:AA} {pos:List Int} {r:Int×(List Int)} (h:MZ n l q pos=some r):EQ 41 [.ints l,.fn 39 2 (L1 [.ref 0 0,.ref 1 0])] [some (.cells (AD q)),some (.cells [.ints pos])] (.i r.1) [some (.cells (AD q)),some (.cells [.ints r.2])] false:=by
 refine ot Tryz.func41 fun B N=>?_
 revert r;apply gO;exact lN AE [0,1] ((sd B N l q pos n) _ _ · n Nat.le.refl)
inductive Nq where
 | l1 (x8:List Int)
 | l2 (x6:Nat) (x8 Iq o1:List Int)
def L4 (n:Nat) (self:Nq -> Option ((List Int)×Int)) (q:AA) (pos:List Int) (level:Int) (x8:List Int):Option ((List Int)×Int):=
 (GI n pos).bind fun y1=>
  bif (!y1) then
   (MZ n x8 q pos).bind fun y2=>
    bif (decide (y2.1<0)) then
     some (([]:List Int),0)
    else
     if (0<=y2.1/\ y2.1<(x8.length:Int))/\ ((0=0/\ 1=([x8.getD ((y2.1).toNat) 0]:List Int).length)/\ 0<([x8.getD ((y2.1).toNat) 0]:List Int).length/\ ([x8.getD ((y2.1).toNat) 0]:List Int).length<=A6) then
      self (.l2 (([x8.getD ((y2.1).toNat) 0]:List Int).length) x8 y2.2 ([x8.getD ((y2.1).toNat) 0]:List Int))
     else none
  else
   some (([]:List Int),0)
def L3 (n:Nat) (self:Nq -> Option ((List Int)×Int)) (q:AA) (pos:List Int) (level:Int) (x6:Nat) (x8 Iq o1:List Int):Option ((List Int)×Int):=
 (GI n Iq).bind fun y1=>
  bif (!y1) then
   (MZ n x8 q Iq).bind fun y2=>
    bif (decide (y2.1<0)) then
     if x6=o1.length then
      some (o1,0)
     else none
    else
     if (0<=y2.1/\ y2.1<(x8.length:Int))/\ ((0=0/\ 1=([x8.getD ((y2.1).toNat) 0]:List Int).length)/\ (0=0/\ x6=o1.length)/\ o1.length+([x8.getD ((y2.1).toNat) 0]:List Int).length<=A6) then
      self (.l2 (o1.length+([x8.getD ((y2.1).toNat) 0]:List Int).length) x8 y2.2 (o1++([x8.getD ((y2.1).toNat) 0]:List Int)))
     else none
  else
   if x6=o1.length then
    some (o1,0)
   else none
def qM (n:Nat) (self:Nq -> Option ((List Int)×Int)) (q:AA) (pos:List Int) (level:Int):Option ((List Int)×Int):=
 (JQ n q pos).bind fun y1=>
  bif (y1 != 0) then
   some (([]:List Int),y1)
  else
   (PZ n q level).bind fun y2=>
    self (.l1 y2)
def Ge (q:AA) (pos:List Int) (level:Int):Nat -> Nq -> Option ((List Int)×Int)
 | 0,_=>none
 | n+1,.l1 x8=>L4 n (Ge q pos level n) q pos level x8
 | n+1,.l2 x6 x8 Iq o1=>L3 n (Ge q pos level n) q pos level x6 x8 Iq o1
def Nr (n:Nat) (q:AA) (pos:List Int) (level:Int):Option ((List Int)×Int):=qM n (Ge q pos level n) q pos level
def qN (n B:Nat) (N:Yd 0) (q:AA) (pos:List Int) (level:Int) (r:(List Int)×Int):Nq -> Prop
 | .l1 x8=>∀ m0:Nat,n<=m0 -> TW B N (FQ Tryz.f12 0 (.tup 2 (L1 [.ints r.1,.i r.2])) []) (Ak m0 (Ap (Aa Tryz.f12) 0 [])) ⟨AL 37 [(4,.ref 0 0),(6,.nils),(8,.ints x8),(9,.fn 39 2 (L1 [.ref 1 0,.ref 0 0]))],[some (.cells [.ints pos]),some (.cells (AD q))]⟩
 | .l2 x6 x8 Iq o1=>∀ m0:Nat,n<=m0 -> TW B N (FQ Tryz.f12 0 (.tup 2 (L1 [.ints r.1,.i r.2])) []) (Ak m0 (Ap (Aa Tryz.f12) 0 [])) ⟨AL 37 [(4,.ref 0 0),(6,.msl 1 1 0 x6),(8,.ints x8),(9,.fn 39 2 (L1 [.ref 2 0,.ref 0 0]))],[some (.cells [.ints Iq]),some (.ints o1),some (.cells (AD q))]⟩
theorem qO (B:Nat) (N:Yd 0) (q:AA) (pos:List Int) (level:Int):Al (Ge q pos level) (qN · B N q pos level):=ia (fun _=>rfl) fun n AF pt r h=>by
 cases pt
 case l1 x8=>
  intro m0 AC;refine rd AC fun m0 AC=>?_
  revert r;apply gO;exact cf OB [some (.cells [.ints pos]),some (.cells (AD q))] fun _=>bi 23 (ce gJ [1,0] [some (.cells [.ints pos]),some (.cells (AD q))] fun _=>bi 28 (lF fun p=>el AE [6,7] [] p [] H0 [.nils,.i 0] (AM.tupL (l:=[.nils,.i 0]) (l':=[.ints ([]:List Int),.i 0]) rfl ⟨AM.ints_nil,BM,trivial⟩)) (gc (gi (gi (lG AE [0,3,1] (AF _ _ · m0 AC)))))) (lF fun p=>el AE [6,7] [] p [] H0 [.nils,.i 0] (AM.tupL (l:=[.nils,.i 0]) (l':=[.ints ([]:List Int),.i 0]) rfl ⟨AM.ints_nil,BM,trivial⟩))
 case l2 x6 x8 Iq o1=>
  intro m0 AC;refine rd AC fun m0 AC=>?_
  revert r;apply gO;exact cf OB [some (.cells [.ints Iq]),some (.ints o1),some (.cells (AD q))] fun _=>bi 23 (ce gJ [2,0] [some (.cells [.ints Iq]),some (.ints o1),some (.cells (AD q))] fun _=>bi 28 (gn fun g0=>lF fun p=>ez AE [6,7] [1] p [0] (H0.g g0)) (gc (gi (gi (lG AE [0,4,2] (AF _ _ · m0 AC)))))) (gn fun g0=>lF fun p=>ez AE [6,7] [1] p [0] (H0.g g0))
theorem L2 {n:Nat} {q:AA} {pos:List Int} {level:Int} {r:(List Int)×Int} (h:Nr n q pos level=some r):EQ 12 [.agg 5 (L1 (AD q)),.ints pos,.i level] [] (.tup 2 (L1 [.ints r.1,.i r.2])) [] true:=by
 refine ot Tryz.func12 fun B N=>?_
 revert r;apply gO;exact cf T5 [some (.cells (AD q)),some (.cells [.ints pos])] fun y1=>bi 15 (lF fun p=>el AE [6,7] [] p [] H0 [.nils,.i y1] (AM.tupL (l:=[.nils,.i y1]) (l':=[.ints ([]:List Int),.i y1]) rfl ⟨AM.ints_nil,BM,trivial⟩)) (cf bL [some (.cells (AD q)),some (.cells [.ints pos])] fun _=>lN AE [1,0] ((qO B N q pos level n) _ _ · n Nat.le.refl))
def i8 (n:Nat) (q:AA) (pos:List Int) (level:Int):Option (Bool×Int):=
 (DK n q pos level).bind fun y1=>
  bif (y1.2==0) then
   (Ov n y1.1 pos).bind fun y2=>
    some (y2,y1.2)
  else
   some (false,y1.2)
def VV (n:Nat) (q:AA) (pos:List Int) (level:Int):Option (Bool×Int):=i8 n q pos level
theorem Om {n:Nat} {q:AA} {pos:List Int} {level:Int} {r:Bool×Int} (h:VV n q pos level=some r):EQ 33 [.agg 5 (L1 (AD q)),.ints pos,.i level] [] (.tup 2 (L1 [.bool r.1,.i r.2])) [] true:=by
 unfold VV i8 at h;refine ot Tryz.func33 fun B N=>?_
 revert r;apply gO;exact cf EF [some (.cells (AD q))] fun _=>bi 17 (cf jI [some (.cells (AD q))] fun _=>lE AE [6,7] []) (lE AE [6,7] [])
end Go.Proofs.YtgkhhfnhacibcaaGreatDoor
namespace Go.Proofs.YtgkhhfnhacibcaaGreatDoor
open Go.RowKit
def BD {T R:Type} (m:Nat -> T -> Option R) (a b:T):Prop:=∃ N S,∀ n,N<=n -> m (n+S) a=m n b
section
variable {T R:Type} {m:Nat -> T -> Option R} {a b c:T} {r:R} {Q:R -> Prop}
theorem BD.refl:BD m a a:=⟨0,0,fun _ _=>rfl⟩
theorem BD.one (h: ∀ n,m (n+1) a=m n b):BD m a b:=⟨0,1,fun n _=>h n⟩
theorem BD.oneN (N:Nat) (h: ∀ n,N<=n -> m (n+1) a=m n b):BD m a b:=⟨N,1,h⟩
theorem BD.trans (h:BD m a b) (h2:BD m b c):BD m a c:=by
 obtain ⟨N,S,h⟩:=h;obtain ⟨N2,S2,h2⟩:=h2;exact ⟨max N N2,S2+S,fun n hn=>by rw [←zAg,h _ (by omega),h2 _ (by omega)]⟩
theorem BD.ev (h:BD m a b) (h2:Ev (fun n=>m n b) r):Ev (fun n=>m n a) r:=by
 obtain ⟨N,S,h⟩:=h;obtain ⟨M,h2⟩:=h2;refine ⟨max N M+S,fun n hn=>?_⟩;have:=h (n-S) (by omega);rw [show n-S+S=n by omega] at this;exact this.trans (h2 (n-S) (by omega))
theorem Ev.one (h: ∀ n,m (n+1) a=some r):Ev (fun n=>m n a) r:=⟨1,fun n hn=>by
 obtain ⟨k,rfl⟩: ∃ k,n=k+1:=⟨n-1,by omega⟩;exact h k⟩
theorem Ev.oneN (N:Nat) (h: ∀ n,N<=n -> m (n+1) a=some r):Ev (fun n=>m n a) r:=⟨N+1,fun n hn=>by
 obtain ⟨k,rfl⟩: ∃ k,n=k+1:=⟨n-1,by omega⟩;exact h k (by omega)⟩
theorem Kn {S:Type} (st:Nat -> S -> T) (I:Nat -> S -> Prop) (len:Nat) (h: ∀ i s,i<len -> I i s -> ∃ s',I (i+1) s'/\ BD m (st i s) (st (i+1) s')): ∀ (k i:Nat) (s:S),i+k=len -> I i s -> ∃ s',I len s'/\ BD m (st i s) (st len s')
 | 0,i,s,e,hI=>by
  have:i=len:=by omega
  subst this;exact ⟨s,hI,BD.refl⟩
 | k+1,i,s,e,hI=>by
  obtain ⟨s',h1,h2⟩:=h i s (by omega) hI;obtain ⟨s2,h3,h4⟩:=Kn st I len h k (i+1) s' (by omega) h1;exact ⟨s2,h3,h2.trans h4⟩
end
end Go.Proofs.YtgkhhfnhacibcaaGreatDoor
namespace Go.Proofs.YtgkhhfnhacibcaaGreatDoor
open Go.RowKit
section
variable {q:AA} {level:Int} {p:List Int}
def Ep (q:AA) (level:Int) (k:Nat):List Int:=((List.range k).filter fun i:Nat=>decide (FP (con q (i:Int)).kind<=level)).map fun i:Nat=>(i:Int)
def AO (q:AA) (level:Int):List Int:=Ep q level q.cons.length
theorem lO {k:Nat}:Ep q level (k+1)=Ep q level k++if FP (con q (k:Int)).kind<=level then [(k:Int)] else []:=by
 unfold Ep;rw [List.range_succ,List.filter_append,List.map_append]
 congr 1
 by_cases h:FP (con q (k:Int)).kind<=level
 ·rw [zi h];simp [h]
 ·rw [zr h];simp [h]
theorem PU {k:Nat}:(Ep q level k).length<=k:=by
 unfold Ep;rw [zAl];exact zt (List.length_filter_le _ _) (zCb zBK)
theorem Is {i:Int}:i∈AO q level↔Up q level i:=by
 unfold AO Ep Up;rw [zAt];constructor
 ·rintro ⟨k,h,rfl⟩;rw [zBV,zw,zv] at h;exact ⟨by omega,by omega,h.2⟩
 ·rintro ⟨h0,h1,h2⟩;refine ⟨i.toNat,?_,by omega⟩;rw [zBV,zw,zv];have e:((i.toNat:Nat):Int)=i:=by omega
  exact ⟨by omega,by rw [e];exact h2⟩
def Fl (acc:List Int) (k:Nat):NJ:=if acc= [] then .l1 (k:Int) else .l2 acc.length (k:Int) acc
theorem ff (hv:Cb q=true) {k:Nat} (hk:k<q.cons.length):HK q (k:Int)=(FP (con q (k:Int)).kind,0):=by
 unfold HK;rw [zr (by rw [hv];exact fun h=>by cases h),zi ⟨by omega,by omega⟩];rfl
theorem lQ (hF:CU q) (hv:Cb q=true) {n k:Nat} (hn:Da q<=n) (hk:k<q.cons.length):GB q level (n+1) (Fl (Ep q level k) k)=GB q level n (Fl (Ep q level (k+1)) (k+1)):=by
 have h4:=(C1 hv).2.2.2.2.1;have AK:decide ((k:Int)<(q.cons.length:Int))=true:=zn (by omega);have hr:AH ((k:Int)+1):=Aq.2 ⟨by omega,by omega⟩;have ek:((k+1:Nat):Int)=(k:Int)+1:=by omega
 rw [lO]
 by_cases ha:Ep q level k= []
 ·rw [ha,zA1]
  show PY n (GB q level n) q level (k:Int)=_
  unfold PY;rw [AK,zk,Xz hF hn,zh,ff hv hk]
  show (bif decide (FP (con q (k:Int)).kind<=level) then _ else _)=_
  by_cases hl:FP (con q (k:Int)).kind<=level
  ·rw [zn hl,zk,zi hl,zi ⟨⟨⟨rfl,rfl⟩,Nat.one_pos,by unfold A6;simp⟩,hr⟩]
   show _=GB q level n (Fl [(k:Int)] (k+1))
   unfold Fl;rw [zr (by simp),ek]
  ·rw [ze hl,zg,zr hl,zi hr]
   show _=GB q level n (Fl [] (k+1))
   unfold Fl;rw [zi rfl,ek]
 ·have Af:=PU (q:=q) (level:=level) (k:=k);have e0:Fl (Ep q level k) k= .l2 (Ep q level k).length (k:Int) (Ep q level k):=by unfold Fl;rw [zr ha]
  rw [e0]
  show PX n (GB q level n) q level (Ep q level k).length (k:Int) (Ep q level k)=_
  unfold PX;rw [AK,zk,Xz hF hn,zh,ff hv hk]
  show (bif decide (FP (con q (k:Int)).kind<=level) then _ else _)=_
  by_cases hl:FP (con q (k:Int)).kind<=level
  ·rw [zn hl,zk,zi hl,zi ⟨⟨⟨rfl,rfl⟩,⟨rfl,rfl⟩,by unfold A6;simp;omega⟩,hr⟩];unfold Fl;rw [zr (by simp),ek,zAO]
  ·rw [ze hl,zg,zr hl,zi hr,zA5];unfold Fl;rw [zr ha,ek]
theorem bK (hF:CU q) (hv:Cb q=true):Ev (fun n=>PZ n q level) (AO q level):=by
 obtain ⟨_,_,h⟩:=Kn (m:=GB q level) (S:=Unit) (fun k _=>Fl (Ep q level k) k) (fun _ _=>True) q.cons.length (fun k s hk _=>⟨(),trivial,BD.oneN (Da q) fun n hn=>lQ hF hv hn hk⟩) q.cons.length 0 () (by omega) trivial;have h0:Fl (Ep q level 0) 0= .l1 0:=rfl;simp only [h0] at h;refine h.ev (Ev.one fun n=>?_);have AK:decide ((q.cons.length:Int)<(q.cons.length:Int))=false:=ze (by omega)
 show GB q level (n+1) (Fl (AO q level) q.cons.length)=some (AO q level)
 by_cases ha:AO q level= []
 ·rw [ha]
  show PY n (GB q level n) q level (q.cons.length:Int)=_
  unfold PY;rw [AK,zg]
 ·have e0:Fl (AO q level) q.cons.length= .l2 (AO q level).length (q.cons.length:Int) (AO q level):=by unfold Fl;rw [zr ha]
  rw [e0]
  show PX n (GB q level n) q level (AO q level).length (q.cons.length:Int) (AO q level)=_
  unfold PX;rw [AK,zg,zi rfl]
end
structure QI (K:Nat) (ws:List Bool) (Q:List Int):Prop where
 len:ws.length=4096
 nd:Q.Nodup
 rng: ∀ i∈Q,0<=i/\ i<(K:Int)
 iff: ∀ i:Nat,i<4096 -> (ws.getD i false=true↔(i:Int)∈Q)
section
variable {K o n:Nat} {ws:List Bool} {Q l qu:List Int} {v:Int}
theorem QI.le (h:QI K ws Q):Q.length<=K:=Nv K Q h.nd h.rng
theorem QI.push (h:QI K ws Q) (hK:K<=4096) (h0:0<=v) (h1:v<(K:Int)) (hw:ws.getD v.toNat false=false):QI K (ws.set v.toNat true) (Q++[v]):=by
 have hv:v∉Q:=fun hm=>by
  have e:((v.toNat:Nat):Int)=v:=by omega
  have:=(h.iff v.toNat (by omega)).2 (by rw [e];exact hm);rw [hw] at this;cases this
 refine ⟨by rw [zAK];exact h.len,List.nodup_append.2 ⟨h.nd,by simp,fun a ha b hb=>by rintro rfl;simp at hb;subst hb;exact hv ha⟩,fun i hi=>?_,fun i hi=>?_⟩
 ·rcases zAI.1 hi with hi | hi
  ·exact h.rng i hi
  ·simp at hi;subst hi;exact ⟨h0,h1⟩
 ·rw [zAI,zAB,←h.iff i hi,u8,zAU,u8];have hl:v.toNat<ws.length:=by rw [h.len];omega
  by_cases e:v.toNat=i
  ·rw [zi e,zi hl];constructor
   ·intro _;exact .inr (by omega)
   ·intro _;rfl
  ·rw [zr e];constructor
   ·exact .inl
   ·rintro (h | h)
    ·exact h
    ·omega
theorem QI.pop (h:QI K ws (v::Q)) (hK:K<=4096):QI K (ws.set v.toNat false) Q:=by
 obtain ⟨hv,Ay⟩:=zCD.1 h.nd;have hr:=h.rng v (by simp);refine ⟨by rw [zAK];exact h.len,Ay,fun i hi=>h.rng i (by simp [hi]),fun i hi=>?_⟩;have hl:v.toNat<ws.length:=by rw [h.len];omega
 rw [u8,zAU]
 by_cases e:v.toNat=i
 ·rw [zi e,zi hl];constructor
  ·intro hx;cases hx
  ·intro hx;have:((i:Nat):Int)=v:=by omega
   rw [this] at hx;exact absurd hx hv
 ·rw [zr e,←u8,h.iff i hi,z8];constructor
  ·rintro (hx | hx)
   ·omega
   ·exact hx
  ·exact .inr
structure MQ (K:Nat) (ws:List Bool) (o n:Nat) (qu Q:List Int):Prop where
 sum:o+n=qu.length
 eq:qu.drop o=Q
 qi:QI K ws Q
theorem MQ.cnt (h:MQ K ws o n qu Q):n=Q.length:=by rw [←h.eq,zB6];have:=h.sum;omega
theorem zS (hK:K<=4096) (hl: ∀ v∈l,0<=v/\ v<(K:Int)) (Af:l.length<=LB) (h:MQ K ws o n qu Q):
 ∃ BW o' n' Cl Q',Ev (fun m=>J5 m l ws o n qu) (BW,o',n',Cl)/\ MQ K BW o' n' Cl Q'/\ ∀ i,i∈Q'↔i∈Q∨i∈l:=by
 obtain ⟨⟨BW,o',n',Cl,Q'⟩,⟨h1,h2⟩,h3⟩:=Kn (m:=NC l ws o n qu) (S:=List Bool×Nat×Nat×List Int×List Int) (fun j s=>.l1 (j:Int) s.1 s.2.1 s.2.2.1 s.2.2.2.1) (fun j s=>MQ K s.1 s.2.1 s.2.2.1 s.2.2.2.1 s.2.2.2.2/\ ∀ i,i∈s.2.2.2.2↔i∈Q∨i∈l.take j) l.length (fun j s hj hI=>by
  obtain ⟨CB,o1,n1,Ij,Q1⟩:=s;obtain ⟨hM,Bv⟩:=hI;have hM:MQ K CB o1 n1 Ij Q1:=hM;have Bv: ∀ i,i∈Q1↔i∈Q∨i∈l.take j:=Bv;have AK:decide ((j:Int)<(l.length:Int))=true:=zn (by omega);have hr:AH ((j:Int)+1):=Aq.2 ⟨by omega,by unfold LB at Af;omega⟩;have ej:((j+1:Nat):Int)=(j:Int)+1:=by omega
  have FW:l.getD j 0∈l:=by rw [u8,zf hj];exact zAL hj
  obtain ⟨HN,Be⟩:=hl _ FW;have Mf:l.take (j+1)=l.take j++[l.getD j 0]:=by rw [zA8 hj];simp [hj]
  have hg:(0<=(j:Int)/\ (j:Int)<(l.length:Int))/\ (0<=l.getD ((j:Int)).toNat 0/\ l.getD ((j:Int)).toNat 0<((4096:Nat):Int))/\ 0+(l.getD ((j:Int)).toNat 0).toNat<CB.length:=by
   rw [zl,hM.qi.len];omega
  cases hw:CB.getD (l.getD j 0).toNat false with
  | false=>
   have Bx:=hM.qi.le;have hn:=hM.cnt;refine ⟨(CB.set (l.getD j 0).toNat true,0,n1+1,Q1++[l.getD j 0],Q1++[l.getD j 0]),⟨⟨by simp;omega,rfl,hM.qi.push hK HN Be hw⟩,fun i=>?_⟩,BD.one fun m=>?_⟩
   ·show i∈Q1++[l.getD j 0]↔_
    rw [Mf,zAI,zAI,Bv i];constructor
    ·rintro ((h | h) | h)
     ·exact .inl h
     ·exact .inr (.inl h)
     ·exact .inr (.inr h)
    ·rintro (h | h | h)
     ·exact .inl (.inl h)
     ·exact .inl (.inr h)
     ·exact .inr h
   ·show ND m (NC l ws o n qu m) l ws o n qu (j:Int) CB o1 n1 Ij=_
    unfold ND;rw [AK,zk,zi hg,zl,zAA,hw,zAZ,zk,zi ⟨hM.sum,by unfold A6;simp;omega,hr⟩,hM.eq,ej];rfl
  | true=>
   refine ⟨(CB,o1,n1,Ij,Q1),⟨hM,fun i=>?_⟩,BD.one fun m=>?_⟩
   ·show i∈Q1↔_
    have B3:l.getD j 0∈Q1:=by
     have e:(((l.getD j 0).toNat:Nat):Int)=l.getD j 0:=by omega
     have:=(hM.qi.iff (l.getD j 0).toNat (by omega)).1 hw;rw [e] at this;exact this
    rw [Mf,zAI,Bv i];constructor
    ·rintro (h | h)
     ·exact .inl h
     ·exact .inr (.inl h)
    ·rintro (h | h | h)
     ·exact .inl h
     ·exact .inr h
     ·rw [zAB] at h;subst h;exact (Bv _).1 B3
   ·show ND m (NC l ws o n qu m) l ws o n qu (j:Int) CB o1 n1 Ij=_
    unfold ND;rw [AK,zk,zi hg,zl,zAA,hw,zAW,zg,zi hr,ej]) l.length 0 (ws,o,n,qu,Q) (by omega) ⟨h,fun i=>by simp⟩
 refine ⟨BW,o',n',Cl,Q',h3.ev (Ev.one fun m=>?_),h1,fun i=>by have:=h2 i;simpa using this⟩;have AK:decide ((l.length:Int)<(l.length:Int))=false:=ze (by omega)
 show ND m (NC l ws o n qu m) l ws o n qu (l.length:Int) BW o' n' Cl=_
 unfold ND;rw [AK,zg]
def FK (j:Nat) (s:List Bool×List Int):PF:=if s.2= [] then .l1 (j:Int) else .l2 (j:Int) s.1 s.2.length s.2
theorem ka (hK:K<=4096) (hl: ∀ v∈l,0<=v/\ v<(K:Int)) (Af:l.length<=LB) (h:QI K ws []):
 ∃ BW Q',Ev (fun m=>LN m l ws) (BW,0,Q'.length,Q',decide (Q'= []))/\ QI K BW Q'/\ ∀ i,i∈Q'↔i∈l:=by
 obtain ⟨⟨BW,Q'⟩,⟨h1,h2,h4⟩,h3⟩:=Kn (m:=Ha l ws) (S:=List Bool×List Int) (fun j s=>FK j s) (fun j s=>QI K s.1 s.2/\ (∀ i,i∈s.2↔i∈l.take j)/\ (s.2= [] -> s.1=ws)) l.length (fun j s hj hI=>by
  obtain ⟨CB,Q1⟩:=s;obtain ⟨hM,Bv,OG⟩:=hI;have hM:QI K CB Q1:=hM;have Bv: ∀ i,i∈Q1↔i∈l.take j:=Bv;have OG:Q1= [] -> CB=ws:=OG;have AK:decide ((j:Int)<(l.length:Int))=true:=zn (by omega);have hr:AH ((j:Int)+1):=Aq.2 ⟨by omega,by unfold LB at Af;omega⟩;have ej:((j+1:Nat):Int)=(j:Int)+1:=by omega
  have FW:l.getD j 0∈l:=by rw [u8,zf hj];exact zAL hj
  obtain ⟨HN,Be⟩:=hl _ FW;have Mf:l.take (j+1)=l.take j++[l.getD j 0]:=by rw [zA8 hj];simp [hj]
  have hg:(0<=(j:Int)/\ (j:Int)<(l.length:Int))/\ (0<=l.getD ((j:Int)).toNat 0/\ l.getD ((j:Int)).toNat 0<((4096:Nat):Int))/\ 0+(l.getD ((j:Int)).toNat 0).toNat<CB.length:=by
   rw [zl,hM.len];omega
  have Bx:=hM.le;cases hw:CB.getD (l.getD j 0).toNat false with
  | false=>
   refine ⟨(CB.set (l.getD j 0).toNat true,Q1++[l.getD j 0]),⟨hM.push hK HN Be hw,fun i=>?_,fun e=>by simp at e⟩,BD.one fun m=>?_⟩
   ·show i∈Q1++[l.getD j 0]↔_
    rw [Mf,zAI,zAI,Bv i]
   ·have e2:FK (j+1) (CB.set (l.getD j 0).toNat true,Q1++[l.getD j 0])= .l2 ((j:Int)+1) (CB.set (l.getD j 0).toNat true) (Q1.length+1) (Q1++[l.getD j 0]):=by
     unfold FK;rw [zr (by simp),ej,zAO];rfl
    rw [e2]
    by_cases hq:Q1= []
    ·have e1:FK j (CB,Q1)= .l1 (j:Int):=by unfold FK;rw [zi hq]
     rw [e1];have:=OG hq;subst this;subst hq
     show Ss m (Ha l CB m) l CB (j:Int)=_
     unfold Ss;rw [AK,zk,zi hg,zl,zAA,hw,zAZ,zk,zi ⟨⟨⟨rfl,rfl⟩,Nat.one_pos,by unfold A6;simp⟩,hr⟩];rfl
    ·have e1:FK j (CB,Q1)= .l2 (j:Int) CB Q1.length Q1:=by unfold FK;rw [zr hq]
     rw [e1]
     show NB m (Ha l ws m) l ws (j:Int) CB Q1.length Q1=_
     unfold NB;rw [AK,zk,zi hg,zl,zAA,hw,zAZ,zk,zi ⟨by omega,by unfold A6;simp;omega,hr⟩];rfl
  | true=>
   have B3:l.getD j 0∈Q1:=by
    have e:(((l.getD j 0).toNat:Nat):Int)=l.getD j 0:=by omega
    have:=(hM.iff (l.getD j 0).toNat (by omega)).1 hw;rw [e] at this;exact this
   have hq:Q1≠[]:=fun e=>by rw [e] at B3;cases B3
   refine ⟨(CB,Q1),⟨hM,fun i=>?_,OG⟩,BD.one fun m=>?_⟩
   ·show i∈Q1↔_
    rw [Mf,zAI,←Bv i];constructor
    ·exact .inl
    ·rintro (h | h)
     ·exact h
     ·rw [zAB] at h;subst h;exact B3
   ·have e1:FK j (CB,Q1)= .l2 (j:Int) CB Q1.length Q1:=by unfold FK;rw [zr hq]
    have e2:FK (j+1) (CB,Q1)= .l2 ((j:Int)+1) CB Q1.length Q1:=by unfold FK;rw [zr hq,ej]
    rw [e1,e2]
    show NB m (Ha l ws m) l ws (j:Int) CB Q1.length Q1=_
    unfold NB;rw [AK,zk,zi hg,zl,zAA,hw,zAW,zg,zi hr]) l.length 0 (ws,[]) (by omega) ⟨h,fun i=>by simp,fun _=>rfl⟩
 have h2: ∀ i,i∈Q'↔i∈l:=fun i=>by have:=h2 i;simpa using this
 have h4:Q'= [] -> BW=ws:=h4;refine ⟨BW,Q',?_,h1,h2⟩;have e0:Ha l ws=Ha l ws:=rfl;have AK:decide ((l.length:Int)<(l.length:Int))=false:=ze (by omega);refine BD.ev (a:=FK 0 (ws,[])) h3 (Ev.one fun m=>?_)
 by_cases hq:Q'= []
 ·have e1:FK l.length (BW,Q')= .l1 (l.length:Int):=by unfold FK;rw [zi hq]
  have:=h4 hq;subst this;rw [e1,hq]
  show Ss m (Ha l BW m) l BW (l.length:Int)=_
  unfold Ss;rw [AK,zg];rfl
 ·have e1:FK l.length (BW,Q')= .l2 (l.length:Int) BW Q'.length Q':=by unfold FK;rw [zr hq]
  rw [e1,ze hq]
  show NB m (Ha l ws m) l ws (l.length:Int) BW Q'.length Q'=_
  unfold NB;rw [AK,zg]
end
end Go.Proofs.YtgkhhfnhacibcaaGreatDoor
namespace Go.Proofs.YtgkhhfnhacibcaaGreatDoor
open Go.RowKit
def Ce (q:AA) (level:Int) (p g:List Int):Prop:=(BC p=true/\ g=List.replicate p.length 0)∨(BC p=false/\ Cf q (Up q level) p g/\ He q (Up q level) g)
structure OF (q:AA) (level:Int) (f:Int -> List Int) (T:Nat):Prop where
 snd: ∀ c i,i∈f c -> Up q level i
 len: ∀ c,(f c).length<=T
section
variable {q:AA} {level:Int} {p cells:List Int} {f:Int -> List Int}
theorem Ce.uniq (hp:Ai q p) {g g':List Int} (h:Ce q level p g) (h':Ce q level p g'):g=g':=by
 rcases h with ⟨h1,h2⟩ | ⟨h1,h2,h3⟩
 ·rcases h' with ⟨h4,h5⟩ | ⟨h4,_,_⟩
  ·rw [h2,h5]
  ·rw [h1] at h4;cases h4
 ·rcases h' with ⟨h4,_⟩ | ⟨_,h5,h6⟩
  ·rw [h1] at h4;cases h4
  ·exact Cf.uniq PW hp h2 h5 h3 h6
theorem Sz {a:Nat} (ha:a<(AO q level).length):Up q level ((AO q level).getD a 0):=by
 refine Is.1 ?_;rw [u8,zf ha];exact zAL ha
theorem yK (hv:Cb q=true) {i:Int} (h:Up q level i):(∀ x∈(con q i).cells,0<=x/\ x<q.cells)/\ (con q i).cells.length<=256:=by
 have hm:con q i∈q.cons:=by
  have h0:=h.1;have h1:=h.2.1;unfold con;rw [u8,zf (by omega)];exact zAL _
 have hf:=(C1 hv).2.2.2.2.2 _ hm;unfold DF at hf;simp only [zm] at hf;obtain ⟨h1,h2,_⟩:=aE.1 hf.1.1.1.1.1;have h3:=(C1 hv).1;refine ⟨h1,?_⟩;have:=Nv q.cells.toNat _ h2 fun x hx=>by have:=h1 x hx;omega
 omega
theorem qT (hv:Cb q=true) {a:Nat} (ha:a<(AO q level).length) {T:Nat} (hT:T<=2000000) (hO:OF q level f T):
 ∃ f',BD (Bh q p cells level) (.l2 (AO q level) ((AO q level).getD a 0) (AO q level) ((AO q level).length:Int) (a:Int) (con q ((AO q level).getD a 0)).cells ((con q ((AO q level).getD a 0)).cells.length:Int) 0 f) (.l1 (AO q level) (AO q level) ((AO q level).length:Int) ((a+1:Nat):Int) f')/\
  OF q level f' (T+256)/\ (∀ c i,i∈f c -> i∈f' c)/\ ∀ c∈(con q ((AO q level).getD a 0)).cells,(AO q level).getD a 0∈f' c:=by
 have hU:=Sz ha;obtain ⟨Rj,IA⟩:=yK hv hU;have RN:(AO q level).length<=4096:=zt PU (C1 hv).2.2.2.2.1
 generalize (AO q level).getD a 0=i at hU Rj IA ⊢
 generalize (con q i).cells=cs at Rj IA ⊢
 obtain ⟨f',⟨h1,h2,h3⟩,h4⟩:=Kn (m:=Bh q p cells level) (S:=Int -> List Int) (fun b f=>.l2 (AO q level) i (AO q level) ((AO q level).length:Int) (a:Int) cs (cs.length:Int) (b:Int) f) (fun b g=>OF q level g (T+b)/\ (∀ c i,i∈f c -> i∈g c)/\ ∀ c∈cs.take b,i∈g c) cs.length (fun b g hb hI=>by
  obtain ⟨hg,hs,hd⟩:=hI;have AK:decide ((b:Int)<(cs.length:Int))=true:=zn (by omega);have hr:AH ((b:Int)+1):=Aq.2 ⟨by omega,by omega⟩;have eb:((b+1:Nat):Int)=(b:Int)+1:=by omega
  have Mf:cs.take (b+1)=cs.take b++[cs.getD b 0]:=by rw [zA8 hb];simp [hb]
  refine ⟨GY g (cs.getD b 0) (g (cs.getD b 0)++[i]),⟨⟨fun c j hj=>?_,fun c=>?_⟩,fun c j hj=>?_,fun c hc=>?_⟩,BD.one fun m=>?_⟩
  ·unfold GY at hj;split at hj
   ·rcases zAI.1 hj with hj | hj
    ·exact hg.snd _ _ hj
    ·rw [zAB] at hj;subst hj;exact hU
   ·exact hg.snd _ _ hj
  ·unfold GY;split
   ·rw [zAO,zAH];have:=hg.len (cs.getD b 0);omega
   ·have:=hg.len c;omega
  ·unfold GY;split
   ·rename_i e;subst e;exact zAS _ (hs _ _ hj)
   ·exact hs _ _ hj
  ·rw [Mf,zAI,zAB] at hc;unfold GY;split
   ·exact zAd _ (by simp)
   ·rename_i AQ;rcases hc with hc | hc
    ·exact hd c hc
    ·exact absurd hc AQ
  ·show QU m (Bh q p cells level m) q p cells level (AO q level) i (AO q level) ((AO q level).length:Int) (a:Int) cs (cs.length:Int) (b:Int) g=_
   unfold QU;rw [AK,zk,zl,zi ⟨by omega,by have:=hg.len (cs.getD b 0);unfold A6;rw [zAH];omega,hr⟩,eb]) cs.length 0 f (by omega) ⟨hO,fun c i h=>h,fun c hc=>by simp at hc⟩
 refine ⟨f',h4.trans (BD.one fun m=>?_),⟨h1.snd,fun c=>zt (h1.len c) (by omega)⟩,h2,fun c hc=>h3 c (by simpa using hc)⟩;have AK:decide ((cs.length:Int)<(cs.length:Int))=false:=ze (by omega);have hr:AH ((a:Int)+1):=Aq.2 ⟨by omega,by omega⟩
 show QU m (Bh q p cells level m) q p cells level (AO q level) i (AO q level) ((AO q level).length:Int) (a:Int) cs (cs.length:Int) (cs.length:Int) f'=_
 unfold QU;rw [AK,zg,zi hr,show ((a+1:Nat):Int)=(a:Int)+1 by omega]
theorem qU (hv:Cb q=true):
 ∃ f',BD (Bh q p cells level) (.l1 (AO q level) (AO q level) ((AO q level).length:Int) 0 (fun _=>[])) (.l3 (AO q level) 0 f' (List.replicate 4096 false))/\ OF q level f' 2000000/\ ∀ i,Up q level i -> ∀ c∈(con q i).cells,i∈f' c:=by
 have RN:(AO q level).length<=4096:=zt PU (C1 hv).2.2.2.2.1
 obtain ⟨f',⟨h1,h2⟩,h3⟩:=Kn (m:=Bh q p cells level) (S:=Int -> List Int) (fun a f=>.l1 (AO q level) (AO q level) ((AO q level).length:Int) (a:Int) f) (fun a g=>OF q level g (256*a)/\ ∀ a',a'<a -> ∀ c∈(con q ((AO q level).getD a' 0)).cells,(AO q level).getD a' 0∈g c) (AO q level).length (fun a g ha hI=>by
  obtain ⟨hg,hd⟩:=hI;obtain ⟨g',e1,e2,e3,e4⟩:=qT (p:=p) (cells:=cells) hv ha (by omega) hg;have hU:=Sz ha;have AK:decide ((a:Int)<((AO q level).length:Int))=true:=zn (by omega);refine ⟨g',⟨⟨e2.snd,fun c=>zt (e2.len c) (by omega)⟩,fun a' Mu c hc=>?_⟩,BD.trans (BD.one fun m=>?_) e1⟩
  ·by_cases e:a'=a
   ·subst e;exact e4 c hc
   ·exact e3 _ _ (hd a' (by omega) c hc)
  ·show QV m (Bh q p cells level m) q p cells level (AO q level) (AO q level) ((AO q level).length:Int) (a:Int) g=_
   unfold QV;rw [AK,zk,zl,zi ⟨by omega,hU.1,hU.2.1⟩];rfl) (AO q level).length 0 (fun _=>[]) (by omega) ⟨⟨fun c i h=>(by cases h),fun c=>zAF 0⟩,fun a' Mu=>absurd Mu (zy _)⟩
 refine ⟨f',h3.trans (BD.one fun m=>?_),⟨h1.snd,fun c=>zt (h1.len c) (by omega)⟩,fun i hi c hc=>?_⟩
 ·have AK:decide (((AO q level).length:Int)<((AO q level).length:Int))=false:=ze (by omega)
  show QV m (Bh q p cells level m) q p cells level (AO q level) (AO q level) ((AO q level).length:Int) ((AO q level).length:Int) f'=_
  unfold QV;rw [AK,zg]
 ·obtain ⟨a,ha,e⟩:=zAs (Is.2 hi);have e':(AO q level).getD a 0=i:=by rw [u8,zf ha];exact e
  have:=h2 a ha c (by rw [e'];exact hc);rw [e'] at this;exact this
structure WQ (q:AA) (level:Int) (ws:List Bool) (o n:Nat) (qu Q:List Int):Prop where
 mq:MQ q.cons.length ws o n qu Q
 up: ∀ i∈Q,Up q level i
def cO (q:AA) (level:Int) (f:Int -> List Int) (j:Nat) (s:List Bool×Option (Nat×Nat×List Int)):Hs:=match s.2 with
 | none=>.l3 (AO q level) (j:Int) f s.1
 | some (o,n,qu)=>.l4 (AO q level) (j:Int) f s.1 o n qu
def IC (q:AA) (level:Int) (s:List Bool×Option (Nat×Nat×List Int)):Prop:=match s.2 with
 | none=>QI q.cons.length s.1 []
 | some (o,n,qu)=>∃ Q,WQ q level s.1 o n qu Q
theorem WS {l:List Int} (h: ∀ i∈l,Up q level i): ∀ i∈l,0<=i/\ i<(q.cons.length:Int):=fun i hi=>⟨(h i hi).1,(h i hi).2.1⟩
theorem WQ.add (hK:q.cons.length<=4096) {ws:List Bool} {o n:Nat} {qu Q l:List Int} (h:WQ q level ws o n qu Q) (hl: ∀ i∈l,Up q level i) (Af:l.length<=LB):
 ∃ BW o' n' Cl Q',Ev (fun m=>J5 m l ws o n qu) (BW,o',n',Cl)/\ WQ q level BW o' n' Cl Q'/\ ∀ i,i∈Q'↔i∈Q∨i∈l:=by
 obtain ⟨BW,o',n',Cl,Q',h1,h2,h3⟩:=zS hK (WS hl) Af h.mq;exact ⟨BW,o',n',Cl,Q',h1,⟨h2,fun i hi=>((h3 i).1 hi).elim (h.up i) (hl i)⟩,h3⟩
theorem yX (hv:Cb q=true) (BL:cells.length<=LB) (hO:OF q level f 2000000):
 ∃ s',IC q level s'/\ BD (Bh q p cells level) (.l3 (AO q level) 0 f (List.replicate 4096 false)) (cO q level f cells.length s'):=by
 have hK:=(C1 hv).2.2.2.2.1
 obtain ⟨s',h1,h2⟩:=Kn (m:=Bh q p cells level) (S:=List Bool×Option (Nat×Nat×List Int)) (cO q level f) (fun _ s=>IC q level s) cells.length (fun j s hj hI=>by
  have AK:decide ((j:Int)<(cells.length:Int))=true:=zn (by omega);have hr:AH ((j:Int)+1):=Aq.2 ⟨by omega,by unfold LB at BL;omega⟩;have ej:((j+1:Nat):Int)=(j:Int)+1:=by omega
  have ZM:(f (cells.getD j 0)).length<=LB:=zt (hO.len _) (by decide);have Ky: ∀ i∈f (cells.getD j 0),Up q level i:=fun i hi=>hO.snd _ i hi
  obtain ⟨ws,st⟩:=s;cases st with
  | none=>
   have hI:QI q.cons.length ws []:=hI;obtain ⟨BW,Q',⟨N,e1⟩,e2,e3⟩:=ka hK (WS Ky) ZM hI;have e1: ∀ m,N<=m -> LN m (f (cells.getD j 0)) ws=some (BW,0,Q'.length,Q',decide (Q'= [])):=e1
   by_cases hQ:Q'= []
   ·refine ⟨(BW,none),by rw [hQ] at e2;exact e2,BD.oneN N fun m hm=>?_⟩
    show JP m (Bh q p cells level m) q p cells level (AO q level) (j:Int) f ws=Bh q p cells level m (.l3 (AO q level) ((j+1:Nat):Int) f BW)
    unfold JP;rw [AK,zk,zi (by omega),zl,e1 m hm,zh,zn hQ]
    show (if AH ((j:Int)+1) then _ else _)=_
    rw [zi hr,ej]
   ·refine ⟨(BW,some (0,Q'.length,Q')),⟨Q',⟨⟨by omega,rfl,e2⟩,fun i hi=>Ky i ((e3 i).1 hi)⟩⟩,BD.oneN N fun m hm=>?_⟩
    show JP m (Bh q p cells level m) q p cells level (AO q level) (j:Int) f ws=Bh q p cells level m (.l4 (AO q level) ((j+1:Nat):Int) f BW 0 Q'.length Q')
    unfold JP;rw [AK,zk,zi (by omega),zl,e1 m hm,zh,ze hQ]
    show (if AH ((j:Int)+1) then _ else _)=_
    rw [zi hr,ej]
  | some s1=>
   obtain ⟨o,n,qu⟩:=s1;obtain ⟨Q,hW⟩:=(hI: ∃ Q,WQ q level ws o n qu Q);have hW:WQ q level ws o n qu Q:=hW;obtain ⟨BW,o',n',Cl,Q',⟨N,e1⟩,e2,_⟩:=hW.add hK Ky ZM;have e1: ∀ m,N<=m -> J5 m (f (cells.getD j 0)) ws o n qu=some (BW,o',n',Cl):=e1;refine ⟨(BW,some (o',n',Cl)),⟨Q',e2⟩,BD.oneN N fun m hm=>?_⟩
   show QT m (Bh q p cells level m) q p cells level (AO q level) (j:Int) f ws o n qu=Bh q p cells level m (.l4 (AO q level) ((j+1:Nat):Int) f BW o' n' Cl)
   unfold QT;rw [AK,zk,zi (by omega),zl,e1 m hm,zh]
   show (if AH ((j:Int)+1) then _ else _)=_
   rw [zi hr,ej]) cells.length 0 (List.replicate 4096 false,none) (by omega) (by
  refine ⟨zx,List.nodup_nil,fun i hi=>(by cases hi),fun i hi=>⟨fun h=>?_,fun h=>(by cases h)⟩⟩;rw [u8,zAm,zi hi] at h;cases h)
 exact ⟨s',h1,h2⟩
theorem yn (hv:Cb q=true) (BL:cells.length<=LB):
 ∃ f,OF q level f 2000000/\ (∀ i,Up q level i -> ∀ c∈(con q i).cells,i∈f c)/\ ((BD (Bh q p cells level) (.l1 (AO q level) (AO q level) ((AO q level).length:Int) 0 (fun _=>[])) (.l5 f (List.replicate 4096 false))∨
  (∃ ws,BD (Bh q p cells level) (.l1 (AO q level) (AO q level) ((AO q level).length:Int) 0 (fun _=>[])) (.l5 f ws)))/\ (∀ i,¬ Up q level i)∨
  ∃ ws o n qu Q,WQ q level ws o n qu Q/\ (∀ i,Up q level i -> i∈Q)/\ BD (Bh q p cells level) (.l1 (AO q level) (AO q level) ((AO q level).length:Int) 0 (fun _=>[])) (.l6 p f ws o n qu)):=by
 have hK:=(C1 hv).2.2.2.2.1;obtain ⟨f,g1,g2,g3⟩:=qU (q:=q) (level:=level) (p:=p) (cells:=cells) hv;obtain ⟨⟨ws,st⟩,h1,h2⟩:=yX (p:=p) hv BL g2;have h2:=g1.trans h2;have RN:(AO q level).length<=LB:=zt PU (zt hK (by decide));have AK:decide ((cells.length:Int)<(cells.length:Int))=false:=ze (by omega);refine ⟨f,g2,g3,?_⟩;cases st with
 | none=>
  have h1:QI q.cons.length ws []:=h1;obtain ⟨BW,Q',⟨N,e1⟩,e2,e3⟩:=ka hK (WS fun i hi=>Is.1 hi) RN h1;have e1: ∀ m,N<=m -> LN m (AO q level) ws=some (BW,0,Q'.length,Q',decide (Q'= [])):=e1
  by_cases hQ:Q'= []
  ·refine .inl ⟨.inr ⟨BW,h2.trans (BD.oneN N fun m hm=>?_)⟩,fun i hi=>by have:=(e3 i).2 (Is.2 hi);rw [hQ] at this;cases this⟩
   show JP m (Bh q p cells level m) q p cells level (AO q level) (cells.length:Int) f ws=_
   unfold JP;rw [AK,zg,e1 m hm,zh,zn hQ];rfl
  ·refine .inr ⟨BW,0,Q'.length,Q',Q',⟨⟨by omega,rfl,e2⟩,fun i hi=>Is.1 ((e3 i).1 hi)⟩,fun i hi=>(e3 i).2 (Is.2 hi),h2.trans (BD.oneN N fun m hm=>?_)⟩
   show JP m (Bh q p cells level m) q p cells level (AO q level) (cells.length:Int) f ws=_
   unfold JP;rw [AK,zg,e1 m hm,zh,ze hQ];rfl
 | some s1=>
  obtain ⟨o,n,qu⟩:=s1;obtain ⟨Q,hW⟩:=(h1: ∃ Q,WQ q level ws o n qu Q);have hW:WQ q level ws o n qu Q:=hW;obtain ⟨BW,o',n',Cl,Q',⟨N,e1⟩,e2,e3⟩:=hW.add hK (fun i hi=>Is.1 hi) RN;have e1: ∀ m,N<=m -> J5 m (AO q level) ws o n qu=some (BW,o',n',Cl):=e1;refine .inr ⟨BW,o',n',Cl,Q',e2,fun i hi=>(e3 i).2 (.inr (Is.2 hi)),h2.trans (BD.oneN N fun m hm=>?_)⟩
  show QT m (Bh q p cells level m) q p cells level (AO q level) (cells.length:Int) f ws o n qu=_
  unfold QT;rw [AK,zg,e1 m hm,zh]
end
end Go.Proofs.YtgkhhfnhacibcaaGreatDoor
namespace Go.Proofs.YtgkhhfnhacibcaaGreatDoor
open Go.RowKit
section
variable {q:AA} {level:Int} {pos p x cells:List Int} {f:Int -> List Int}
theorem yU (hv:Cb q=true) (hO:OF q level f 2000000) (hl:x.length=p.length) (hp:p.length<=256) {ws:List Bool} {o n:Nat} {qu Q:List Int} (h:WQ q level ws o n qu Q):
 ∃ BW o' n' Cl Q',WQ q level BW o' n' Cl Q'/\ (∀ i∈Q,i∈Q')/\ (∀ c,c<p.length -> x.getD c 0≠p.getD c 0 -> ∀ i∈f (c:Int),i∈Q')/\ ((∀ c,c<p.length -> x.getD c 0=p.getD c 0) -> Q'=Q)/\
  BD (Bh q pos cells level) (.l7 p x (x.length:Int) 0 f ws o n qu) (.l6 x f BW o' n' Cl):=by
 have hK:=(C1 hv).2.2.2.2.1
 obtain ⟨⟨BW,o',n',Cl,Q'⟩,⟨h1,h2,h3,h4⟩,h5⟩:=Kn (m:=Bh q pos cells level) (S:=List Bool×Nat×Nat×List Int×List Int) (fun c s=>.l7 p x (x.length:Int) (c:Int) f s.1 s.2.1 s.2.2.1 s.2.2.2.1)
  (fun c s=>WQ q level s.1 s.2.1 s.2.2.1 s.2.2.2.1 s.2.2.2.2/\ (∀ i∈Q,i∈s.2.2.2.2)/\ (∀ c',c'<c -> x.getD c' 0≠p.getD c' 0 -> ∀ i∈f (c':Int),i∈s.2.2.2.2)/\ ((∀ c',c'<c -> x.getD c' 0=p.getD c' 0) -> s.2.2.2.2=Q)) p.length (fun c s hc hI=>by
  obtain ⟨CB,o1,n1,Ij,Q1⟩:=s;obtain ⟨hW,hs,hd,he⟩:=hI;have hW:WQ q level CB o1 n1 Ij Q1:=hW;have hs: ∀ i∈Q,i∈Q1:=hs;have hd: ∀ c',c'<c -> x.getD c' 0≠p.getD c' 0 -> ∀ i∈f (c':Int),i∈Q1:=hd;have he:(∀ c',c'<c -> x.getD c' 0=p.getD c' 0) -> Q1=Q:=he;have AK:decide ((c:Int)<(x.length:Int))=true:=zn (by omega);have hr:AH ((c:Int)+1):=Aq.2 ⟨by omega,by omega⟩;have ec:((c+1:Nat):Int)=(c:Int)+1:=by omega
  by_cases hx:x.getD c 0=p.getD c 0
  ·refine ⟨(CB,o1,n1,Ij,Q1),⟨hW,hs,fun c' HT AQ=>?_,fun h=>he fun c' HT=>h c' (by omega)⟩,BD.one fun m=>?_⟩
   ·by_cases e:c'=c
    ·subst e;exact absurd hx AQ
    ·exact hd c' (by omega) AQ
   ·show Lu m (Bh q pos cells level m) q pos cells level p x (x.length:Int) (c:Int) f CB o1 n1 Ij=_
    unfold Lu;have hb:(x.getD c 0 != p.getD c 0)=false:=by rw [hx];simp
    rw [AK,zk,zi ⟨by omega,by omega⟩,zl,hb,zg,zi hr,ec]
  ·have Ky: ∀ i∈f (c:Int),Up q level i:=fun i hi=>hO.snd _ i hi
   obtain ⟨BW,o',n',Cl,Q',⟨N,e1⟩,e2,e3⟩:=hW.add hK Ky (zt (hO.len _) (by decide));have e1: ∀ m,N<=m -> J5 m (f (c:Int)) CB o1 n1 Ij=some (BW,o',n',Cl):=e1;refine ⟨(BW,o',n',Cl,Q'),⟨e2,fun i hi=>(e3 i).2 (.inl (hs i hi)),fun c' HT AQ i hi=>?_,fun h=>absurd (h c (by omega)) hx⟩,BD.oneN N fun m hm=>?_⟩
   ·by_cases e:c'=c
    ·subst e;exact (e3 i).2 (.inr hi)
    ·exact (e3 i).2 (.inl (hd c' (by omega) AQ i hi))
   ·show Lu m (Bh q pos cells level m) q pos cells level p x (x.length:Int) (c:Int) f CB o1 n1 Ij=Bh q pos cells level m (.l7 p x (x.length:Int) ((c+1:Nat):Int) f BW o' n' Cl)
    unfold Lu;have hb:(x.getD c 0 != p.getD c 0)=true:=by simpa using hx
    rw [AK,zk,zi ⟨by omega,by omega⟩,zl,hb,zk,e1 m hm,zh]
    show (if AH ((c:Int)+1) then _ else _)=_
    rw [zi hr,ec]) p.length 0 (ws,o,n,qu,Q) (by omega) ⟨h,fun i hi=>hi,fun c' HT=>absurd HT (zy _),fun _=>rfl⟩
 refine ⟨BW,o',n',Cl,Q',h1,h2,h3,h4,h5.trans (BD.one fun m=>?_)⟩;have AK:decide ((p.length:Int)<(x.length:Int))=false:=ze (by omega)
 show Lu m (Bh q pos cells level m) q pos cells level p x (x.length:Int) (p.length:Int) f BW o' n' Cl=_
 unfold Lu;rw [AK,zg]
structure ae (q:AA) (level:Int) (p0 p:List Int) (Q:List Int):Prop where
 pos:Ai q p
 down:Cf q (Up q level) p0 p
 zero:BC p=true -> p=List.replicate p.length 0
 fix: ∀ i,Up q level i -> i∉Q -> PR q (con q i) p p
theorem PR.other {i:Int} (h:PR q (con q i) p x) (hd:BC x=false) (C:Bg q i p) {j:Nat} (hj: ∀ k,k<(con q i).cells.length -> ((con q i).cells.getD k 0).toNat≠j):x.getD j 0=p.getD j 0:=by
 have hA:Hf q (con q i) p:=Classical.byContradiction fun hA=>by
  have h0:=C.len256.1;have:=GR.1 hd 0 (by rw [h.len];exact h0);rw [h.dead hA,LU] at this;exact this rfl
 by_cases RY:j<p.length
 ·refine KH (h.live hA j RY).1 ((C.sm j RY).in64 (by have:=C.work.k;omega)) fun s _=>?_
  rw [zAy,(h.live hA j RY).2];exact ⟨fun hx=>hx.1,fun hx=>⟨hx,fun ⟨a,ha,e,_⟩=>hj a ha e⟩⟩
 ·rw [u8,u8,zAM (by rw [h.len];omega),zAM (by omega)]
theorem rN {a b:List Int} (hl:a.length=b.length) (h: ∀ c,c<b.length -> a.getD c 0=b.getD c 0):a=b:=by
 refine zBm hl fun j h1 h2=>?_
 have:=h j h2;simpa [h1,h2] using this
theorem wK (hU: ∀ i,Up q level i -> ∀ c∈(con q i).cells,i∈f c) {v:Int} {Q1 Q':List Int} (hv:Up q level v) (h:ae q level pos p (v::Q1)) (hd:BC p=false) (hx:PR q (con q v) p x) (hs: ∀ i∈Q1,i∈Q') (hc: ∀ c,c<p.length -> x.getD c 0≠p.getD c 0 -> ∀ i∈f (c:Int),i∈Q'):ae q level pos x Q':=by
 have Kt:Ai q x:=h.pos.pr hv.1 hv.2.1 hx;have hl:x.length=p.length:=hx.len;refine ⟨Kt,h.down.trans (Cf.one hv hx),fun Mp=>by rw [hl];exact hx.zero Mp,fun i hi hn=>?_⟩
 by_cases OE:x=p
 ·subst OE
  by_cases e:i=v
  ·subst e;exact hx
  ·refine h.fix i hi fun hm=>?_
   rcases z8.1 hm with hm | hm
   ·exact e hm
   ·exact hn (hs i hm)
 ·cases Mp:BC x with
  | true=>
   have:=hx.zero Mp;rw [this];exact dy h.pos.len256.1
  | false=>
   have Ci:=h.pos.ctx hi.1 hi.2.1
   have own: ∀ k,k<(con q i).cells.length -> x.getD ((con q i).cells.getD k 0).toNat 0=p.getD ((con q i).cells.getD k 0).toNat 0:=fun k hk=>by
    refine Classical.byContradiction fun AQ=>?_
    have hW:=Ci.work.cells k hk;have hm:(con q i).cells.getD k 0∈(con q i).cells:=by rw [u8,zf hk];exact zAL hk
    have e:((((con q i).cells.getD k 0).toNat:Nat):Int)=(con q i).cells.getD k 0:=by omega
    refine hn (hc ((con q i).cells.getD k 0).toNat (by omega) AQ i ?_);rw [e];exact hU i hi _ hm
   have AQ:i≠v:=by
    rintro rfl;refine OE (rN hl fun c BL=>?_)
    by_cases Jj: ∃ k,k<(con q i).cells.length/\ ((con q i).cells.getD k 0).toNat=c
    ·obtain ⟨k,hk,rfl⟩:=Jj;exact own k hk
    ·exact hx.other Mp Ci fun k hk e=>Jj ⟨k,hk,e⟩
   have hp:PR q (con q i) p p:=h.fix i hi fun hm=>by
    rcases z8.1 hm with hm | hm
    ·exact AQ hm
    ·exact hn (hs i hm)
   exact rI Ci (Kt.ctx hi.1 hi.2.1) own hd Mp hp
theorem qz (hO:OF q level f 2000000) (hU: ∀ i,Up q level i -> ∀ c∈(con q i).cells,i∈f c): ∀ (M:Nat) {p:List Int} {ws:List Bool} {o n:Nat} {qu Q:List Int},wt p*(q.cons.length+1)+n<=M -> WQ q level ws o n qu Q -> ae q level pos p Q ->
 ∃ g,Ev (fun m=>Bh q pos cells level m (.l6 p f ws o n qu)) g/\ Cf q (Up q level) pos g/\ He q (Up q level) g:=by
 intro M
 induction M with
 | zero=>
  intro p ws o n qu Q hM hW h;have hn:n=0:=by omega
  subst hn;have hQ:Q= []:=zAq hW.mq.cnt.symm;subst hQ;exact ⟨p,Ev.one fun m=>rfl,h.down,fun i hi=>h.fix i hi (by simp)⟩
 | succ M ih=>
  intro p ws o n qu Q hM hW h;have hv:=h.pos.valid;have hK:=(C1 hv).2.2.2.2.1;have ED:=h.pos.len256.2
  by_cases hn:n=0
  ·subst hn;have hQ:Q= []:=zAq hW.mq.cnt.symm;subst hQ;exact ⟨p,Ev.one fun m=>rfl,h.down,fun i hi=>h.fix i hi (by simp)⟩
  have FD:(n==0)=false:=by simpa using hn
  have iH:decide ((n:Int)>0)=true:=zn (by omega);have Gk: ∀ m,300<=m -> GI m p=some (BC p):=fun m hm=>MT (zt ED (by decide)) (by omega)
  cases hd:BC p with
  | true=>
   have hz:=h.zero hd;refine ⟨p,Ev.oneN 300 fun m hm=>?_,h.down,?_⟩
   ·show QS m (Bh q pos cells level m) q pos cells level p f ws o n qu=some p
    unfold QS;rw [FD,zg,iH,zk,Gk m hm,zh,hd];rfl
   ·rw [hz];exact VU h.pos.len256.1
  | false=>
   cases hQ:Q with
   | nil=>exact absurd (by rw [hW.mq.cnt,hQ];rfl) hn
   | cons v Q1=>
    subst hQ;have Be:Up q level v:=hW.up v (by simp);obtain ⟨x,⟨N,ZN⟩,hx⟩:=Tz (h.pos.ctx Be.1 Be.2.1);have ZN: ∀ m,N<=m -> Hu m q v p=some (x,0):=ZN;have hsum:=hW.mq.sum;have VB:=hW.mq.eq;have H7:o<qu.length:=by omega
    have vi:qu.getD (o+0) 0=v:=by
     rw [zBc,u8,zf H7];rw [zAD H7] at VB;exact (List.cons.inj VB).1
    have IB:WQ q level (ws.set v.toNat false) (o+1) (n-1) qu Q1:=by
     refine ⟨⟨by omega,?_,hW.mq.qi.pop hK⟩,fun i hi=>hW.up i (by simp [hi])⟩;rw [zAD H7] at VB;exact (List.cons.inj VB).2
    obtain ⟨BW,o',n',Cl,Q',e1,e2,e3,e4,e5⟩:=yU (pos:=pos) (cells:=cells) hv hO hx.len ED IB;have hH:=wK hU Be h hd hx e2 e3
    have step:BD (Bh q pos cells level) (.l6 p f ws o n qu) (.l7 p x (x.length:Int) 0 f (ws.set v.toNat false) (o+1) (n-1) qu):=BD.oneN (max N 300) fun m hm=>by
     show QS m (Bh q pos cells level m) q pos cells level p f ws o n qu=_
     unfold QS;rw [FD,zg,iH,zk,Gk m (by omega),zh,hd,zAZ,zk,vi,zi ⟨by omega,by omega,by omega,⟨Be.1,by have:=Be.2.1;omega⟩,by rw [hW.mq.qi.len];have:=Be.1;have:=Be.2.1;omega⟩,ZN m (by omega),zh,zAA];rfl
    have AK:wt x*(q.cons.length+1)+n'<=M:=by
     have Mg:=e1.mq.qi.le;have OR:=e1.mq.cnt
     by_cases OE:x=p
     ·have:Q'=Q1:=e4 fun c _=>by rw [OE]
      rw [OE];have h2:=IB.mq.cnt;rw [this] at OR;omega
     ·have hw:=WH hH.pos h.pos hx.le OE;have h3:(wt x+1)*(q.cons.length+1)<=wt p*(q.cons.length+1):=zBB _ hw;rw [zBN] at h3;omega
    obtain ⟨g,g1,g2,g3⟩:=ih AK e1 hH;exact ⟨g,(step.trans e5).ev g1,g2,g3⟩
theorem pZ (hp:Ai q pos) (BL:cells.length<=LB): ∃ g,Ev (fun n=>XO n q pos cells level) g/\ Ce q level pos g:=by
 have ED:=hp.len256;have Gk: ∀ m,300<=m -> GI m pos=some (BC pos):=fun m hm=>MT (zt ED.2 (by decide)) (by omega)
 cases hd:BC pos with
 | true=>
  refine ⟨List.replicate pos.length 0,⟨300,fun n hn=>?_⟩,.inl ⟨hd,rfl⟩⟩
  show QW n (Bh q pos cells level n) q pos cells level=_
  unfold QW;rw [Gk n hn,zh,hd,zk,zi ⟨rfl,by omega,by omega⟩,zi zx.symm]
 | false=>
  have H: ∃ g,Ev (fun n=>Bh q pos cells level n (.l1 (AO q level) (AO q level) ((AO q level).length:Int) 0 (fun _=>[]))) g/\ Cf q (Up q level) pos g/\ He q (Up q level) g:=by
   obtain ⟨f,g1,g2,g3⟩:=yn (q:=q) (level:=level) (p:=pos) (cells:=cells) hp.valid BL;rcases g3 with ⟨h1,h2⟩ | ⟨ws,o,n,qu,Q,h1,h2,h3⟩
   ·refine ⟨pos,?_,.refl pos,fun i hi=>absurd hi (h2 i)⟩;rcases h1 with h1 | ⟨ws,h1⟩
    ·exact h1.ev (Ev.one fun m=>rfl)
    ·exact h1.ev (Ev.one fun m=>rfl)
   ·obtain ⟨g,e1,e2,e3⟩:=qz (pos:=pos) (cells:=cells) g1 g2 _ (zAF _) h1 (p:=pos) ⟨hp,.refl pos,fun h=>(by rw [hd] at h;cases h),fun i hi hn=>absurd (h2 i hi) hn⟩;exact ⟨g,h3.ev e1,e2,e3⟩
  obtain ⟨g,⟨N,h1⟩,h2⟩:=H;have h1: ∀ n,N<=n -> Bh q pos cells level n (.l1 (AO q level) (AO q level) ((AO q level).length:Int) 0 (fun _=>[]))=some g:=h1;obtain ⟨N2,hu⟩:=bK (level:=level) hp.fit hp.valid;have hu: ∀ n,N2<=n -> PZ n q level=some (AO q level):=hu;refine ⟨g,⟨max (max N N2) 300,fun n hn=>?_⟩,.inr ⟨hd,h2⟩⟩
  show QW n (Bh q pos cells level n) q pos cells level=_
  unfold QW;rw [Gk n (by omega),zh,hd,zg,hu n (by omega),zh];exact h1 n (by omega)
end
end Go.Proofs.YtgkhhfnhacibcaaGreatDoor
namespace Go.Proofs.YtgkhhfnhacibcaaGreatDoor
open Go.RowKit
theorem xM {a b:List Int} {n:Nat} (hl:a.length<=LB) (hn:a.length<n):Ov n a b=some (decide (a=b)):=by
 have hb:LB<=9223372036854775806:=by decide
 unfold Ov jJ
 by_cases Af:a.length=b.length
 ·have e:((a.length:Int) != (b.length:Int))=false:=by rw [Af];simp
  rw [e,zg]
  have key: ∀ (k i n:Nat),i+k=a.length -> k+1<=n -> Ou a b n (.l1 (i:Int))=some (decide (a.drop i=b.drop i)):=by
   intro k
   induction k with
   | zero=>
    intro i n e hn;obtain ⟨n,rfl⟩: ∃ k,n=k+1:=⟨n-1,by omega⟩
    show R5 n (Ou a b n) a b (i:Int)=_
    unfold R5;rw [ze (by omega),zg,zAj (by omega),zAj (by omega)];rfl
   | succ k ih=>
    intro i n e hn;obtain ⟨n,rfl⟩: ∃ k,n=k+1:=⟨n-1,by omega⟩;have hi:i<a.length:=by omega
    have A3:i<b.length:=by omega
    have d: ∀ {l:List Int},i<l.length -> l.drop i=l.getD i 0::l.drop (i+1):=fun {l} h=>by
     rw [zAD h,u8,zf h];rfl
    have:=ih (i+1) n (by omega) (by omega)
    show R5 n (Ou a b n) a b (i:Int)=_
    unfold R5;rw [zn (by omega),zk,zi ⟨⟨by omega,by omega⟩,by omega,by omega⟩,zl,zi (Aq.2 ⟨by omega,by omega⟩),d hi,d A3]
    by_cases h:a.getD i 0=b.getD i 0
    ·have:(a.getD i 0 != b.getD i 0)=false:=by rw [h];simp
     rw [this,zg];refine Eq.trans (by assumption) ?_;rw [h];simp
    ·have:(a.getD i 0 != b.getD i 0)=true:=by simpa using h
     rw [this,zk,ze fun e=>h (List.cons.inj e).1]
  exact key a.length 0 n (by omega) (by omega)
 ·have e:((a.length:Int) != (b.length:Int))=true:=by simp;omega
  rw [e,zk,ze fun h=>Af (by rw [h])]
def Qi (q:AA) (cells:List Int):Bool:=cells.any fun c=>decide (c<0)||decide (c>=q.cells)
section
variable {q:AA} {level:Int} {pos p x cells:List Int}
theorem eW {n:Nat} {c:Int}:UI n c q=some (decide (c<0)||decide (c>=q.cells)):=by
 unfold UI eV
 by_cases h:c<0
 ·rw [zn h];rfl
 ·rw [ze h];rfl
theorem xa {f:Int -> Bool} {l:List Int} {j:Nat} (hj:j<l.length):(l.drop j).any f=(f (l.getD j 0)||(l.drop (j+1)).any f):=by
 rw [zAD hj,List.any_cons,u8,zf hj];rfl
theorem eX (hl:cells.length<=LB): ∀ (k j:Nat),j+k=cells.length -> ∃ r:Int,Ev (fun n=>Jd cells q n (.l1 (j:Int))) r/\ decide (r>=0)=(cells.drop j).any fun c=>decide (c<0)||decide (c>=q.cells)
 | 0,j,e=>⟨-1,Ev.one fun n=>by
  show MV n (Jd cells q n) cells q (j:Int)=_
  unfold MV;rw [ze (by omega),zg],by rw [zAj (by omega)];rfl⟩
 | k+1,j,e=>by
  have hj:j<cells.length:=by omega
  have AK:decide ((j:Int)<(cells.length:Int))=true:=zn (by omega);have hr:AH ((j:Int)+1):=Aq.2 ⟨by omega,by unfold LB at hl;omega⟩;rw [xa hj];cases ho:decide (cells.getD j 0<0)||decide (cells.getD j 0>=q.cells) with
  | true=>
   refine ⟨(j:Int),Ev.one fun n=>?_,by rw [Bool.true_or];exact zn (by omega)⟩
   show MV n (Jd cells q n) cells q (j:Int)=_
   unfold MV;rw [AK,zk,zi ⟨by omega,by omega⟩,zl,eW,zh,ho,zk]
  | false=>
   obtain ⟨r,h1,h2⟩:=eX hl k (j+1) (by omega);refine ⟨r,BD.ev (BD.one fun n=>?_) h1,by rw [zBS];exact h2⟩
   show MV n (Jd cells q n) cells q (j:Int)=_
   unfold MV;rw [AK,zk,zi ⟨by omega,by omega⟩,zl,eW,zh,ho,zg,zi hr,show ((j+1:Nat):Int)=(j:Int)+1 by omega]
theorem yB (hl:cells.length<=LB):Ev (fun n=>Vm n cells q) (Qi q cells):=by
 obtain ⟨r,⟨N,h1⟩,h2⟩:=eX (q:=q) hl cells.length 0 (by omega);have h1: ∀ n,N<=n -> Jd cells q n (.l1 0)=some r:=h1;refine ⟨N,fun n hn=>?_⟩
 show (Jd cells q n (.l1 0)).bind (fun y1=>some (decide (y1>=0)))=_
 rw [h1 n hn,zh,h2];rfl
theorem d8 (hF:CU q) (hl:pos.length<=LB):Ev (fun n=>JQ n q pos) (Cc q pos):=⟨Da q+pos.length+1,fun n hn=>XU hF (by omega) hl (by omega)⟩
theorem Ai.of (hF:CU q) (h:Cc q pos=0):Ai q pos:=by
 unfold Cc at h
 by_cases hv:Cb q=true
 ·rw [zi hv] at h
  by_cases hp:posOk q pos=true
  ·exact ⟨hF,hv,hp⟩
  ·rw [zr hp] at h;exact absurd h (by decide)
 ·rw [zr hv] at h;exact absurd h (by decide)
theorem Ai.check (h:Ai q pos):Cc q pos=0:=by
 unfold Cc;rw [zi h.valid,zi h.ok]
def ki (q:AA) (pos cells:List Int) (level:Int) (r:List Int×Int):Prop:=
 (Cc q pos≠0/\ r=([],Cc q pos))∨(Cc q pos=0/\ Qi q cells=true/\ r=([],1))∨(Cc q pos=0/\ Qi q cells=false/\ r.2=0/\ Ce q level pos r.1)
theorem kT (hF:CU q) (hl:pos.length<=LB) (hc:cells.length<=LB): ∃ r,Ev (fun n=>NA n q pos cells level) r/\ ki q pos cells level r:=by
 have h1:=d8 hF hl
 by_cases h0:Cc q pos=0
 ·have hp:=Ai.of hF h0;have h2:=yB (q:=q) hc;cases ho:Qi q cells with
  | true=>
   rw [ho] at h2;refine ⟨([],1),?_,.inr (.inl ⟨h0,ho,rfl⟩)⟩;rw [h0] at h1;exact Ev.bind h1 (Ev.bind h2 (Ev.now fun n=>rfl))
  | false=>
   rw [ho] at h2;rw [h0] at h1;obtain ⟨g,g1,g2⟩:=pZ (level:=level) (cells:=cells) hp hc;exact ⟨(g,0),Ev.bind h1 (Ev.bind h2 (Ev.bind g1 (Ev.now fun n=>rfl))),.inr (.inr ⟨h0,ho,rfl,g2⟩)⟩
 ·refine ⟨([],Cc q pos),Ev.bind h1 (Ev.now fun n=>?_),.inl ⟨h0,rfl⟩⟩;have:(Cc q pos != 0)=true:=by simpa using h0
  show (bif (Cc q pos != 0) then _ else _)=_
  rw [this];rfl
theorem zL (hF:CU q) (hl:pos.length<=LB): ∃ r,Ev (fun n=>DK n q pos level) r/\ ki q pos [] level r:=by
 obtain ⟨r,h1,h2⟩:=kT (level:=level) (cells:=[]) hF hl (by decide);exact ⟨r,Ev.bind h1 (Ev.now fun n=>rfl),h2⟩
inductive Gw (q:AA) (level:Int):List Int -> List Int -> List Int -> Prop
 | done {p:List Int}:He q (Up q level) p -> Gw q level p [] p
 | step {p x l g:List Int} {i:Int}:Up q level i -> PR q (con q i) p x -> x≠p -> (∀ i',Up q level i' -> i'<i -> PR q (con q i') p p) -> Gw q level x l g -> Gw q level p (i::l) g
theorem Gw.down {l g:List Int} (h:Gw q level p l g):Cf q (Up q level) p g/\ He q (Up q level) g:=by
 induction h with
 | done hf=>exact ⟨.refl _,hf⟩
 | step hi hx _ _ _ ih=>exact ⟨.step hi hx ih.1,ih.2⟩
end
end Go.Proofs.YtgkhhfnhacibcaaGreatDoor
namespace Go.Proofs.YtgkhhfnhacibcaaGreatDoor
open Go.RowKit
section
variable {q:AA} {level i:Int} {pos p x:List Int}
theorem lL:(AO q level).Pairwise (· < ·):=by
 unfold AO Ep;refine List.Pairwise.map _ (fun a b h=>?_) (List.Pairwise.filter _ List.pairwise_lt_range);exact Int.ofNat_lt.2 h
theorem lM {b:Nat} (hb:b<(AO q level).length) (hi:Up q level i) (AK:i<(AO q level).getD b 0): ∃ a,a<b/\ (AO q level).getD a 0=i:=by
 obtain ⟨a,ha,e⟩:=zAs (Is.2 hi);have e1:(AO q level).getD a 0=i:=by rw [u8,zf ha];exact e
 refine ⟨a,zAh fun Bx=>?_,e1⟩;rcases Nat.lt_or_eq_of_le Bx with h | h
 ·have:=zB8.1 (lL (q:=q) (level:=level)) b a hb ha h;have e2:(AO q level).getD b 0=(AO q level)[b]:=by rw [u8,zf hb];rfl
  rw [e2,←e] at AK;omega
 ·subst h;omega
theorem yT (C:Bg q i p): ∃ x,Ev (fun n=>SS n i q p) (decide (x≠p),x)/\ PR q (con q i) p x:=by
 obtain ⟨x,h1,h2⟩:=Tz C;refine ⟨x,Ev.bind h1 ?_,h2⟩;have hl:x.length<=LB:=by rw [h2.len];exact zt C.len256.2 (by decide)
 refine Ev.eq (Ev.bind (a:=fun n=>Ov n x p) (x:=decide (x=p)) ⟨x.length+1,fun n hn=>xM hl (by omega)⟩ (b:=fun n y2=>bif y2 then some (false,p) else some (true,x)) (Ev.now fun n=>?_)) (fun n=>rfl)
 by_cases e:x=p
 ·rw [zn e,zk,ze (by simpa using e),e]
 ·rw [ze e,zg,zn (by simpa using e)]
theorem gE (hp:Ai q p): ∀ (k a:Nat),a+k=(AO q level).length -> (∀ a',a'<a -> PR q (con q ((AO q level).getD a' 0)) p p) ->
 (Ev (fun n=>Je (AO q level) q p n (.l1 (a:Int) p)) (-1,p)/\ He q (Up q level) p)∨
 ∃ b x,Ev (fun n=>Je (AO q level) q p n (.l1 (a:Int) p)) ((b:Nat),x)/\ b<(AO q level).length/\ PR q (con q ((AO q level).getD b 0)) p x/\ x≠p/\ ∀ a',a'<b -> PR q (con q ((AO q level).getD a' 0)) p p
 | 0,a,e,h=>by
  refine .inl ⟨Ev.one fun n=>?_,fun i hi=>?_⟩
  ·show MY n (Je (AO q level) q p n) (AO q level) q p (a:Int) p=_
   unfold MY;rw [ze (by omega),zg]
  ·obtain ⟨a',ha,e1⟩:=zAs (Is.2 hi);have:=h a' (by omega);rw [u8,zf ha] at this;rw [←e1];exact this
 | k+1,a,e,h=>by
  have ha:a<(AO q level).length:=by omega
  have hU:=Sz ha;have RN:(AO q level).length<=4096:=zt PU (C1 hp.valid).2.2.2.2.1;have AK:decide ((a:Int)<((AO q level).length:Int))=true:=zn (by omega);have hr:AH ((a:Int)+1):=Aq.2 ⟨by omega,by omega⟩;obtain ⟨x,⟨N,h1⟩,h2⟩:=yT (hp.ctx hU.1 hU.2.1);have h1: ∀ n,N<=n -> SS n ((AO q level).getD a 0) q p=some (decide (x≠p),x):=h1
  by_cases hx:x=p
  ·have hx:=hx.symm;subst hx
   have st:BD (Je (AO q level) q p) (.l1 (a:Int) p) (.l1 ((a+1:Nat):Int) p):=BD.oneN N fun n hn=>by
    show MY n (Je (AO q level) q p n) (AO q level) q p (a:Int) p=_
    unfold MY;rw [AK,zk,zi ⟨by omega,by omega⟩,zl,h1 n hn,zh]
    show (bif decide (p≠p) then _ else (if AH ((a:Int)+1) then _ else _))=_
    rw [ze (by simp),zg,zi hr,show ((a+1:Nat):Int)=(a:Int)+1 by omega]
   rcases gE hp k (a+1) (by omega) (fun a' Mu=>by
    by_cases e:a'=a
    ·subst e;exact h2
    ·exact h a' (by omega)) with ⟨g1,g2⟩ | ⟨b,y,g1,g2⟩
   ·exact .inl ⟨st.ev g1,g2⟩
   ·exact .inr ⟨b,y,st.ev g1,g2⟩
  ·refine .inr ⟨a,x,Ev.oneN N fun n hn=>?_,ha,h2,hx,h⟩
   show MY n (Je (AO q level) q p n) (AO q level) q p (a:Int) p=_
   unfold MY;rw [AK,zk,zi ⟨by omega,by omega⟩,zl,h1 n hn,zh]
   show (bif decide (x≠p) then _ else _)=_
   rw [zn hx];rfl
theorem sK (hp:Ai q p):(Ev (fun n=>MZ n (AO q level) q p) (-1,p)/\ He q (Up q level) p)∨
 ∃ b x,Ev (fun n=>MZ n (AO q level) q p) ((b:Nat),x)/\ b<(AO q level).length/\ Up q level ((AO q level).getD b 0)/\ PR q (con q ((AO q level).getD b 0)) p x/\ x≠p/\ ∀ i',Up q level i' -> i'<(AO q level).getD b 0 -> PR q (con q i') p p:=by
 rcases gE (level:=level) hp (AO q level).length 0 (by omega) (fun a' Mu=>absurd Mu (zy _)) with ⟨g1,g2⟩ | ⟨b,x,g1,g2,g3,g4,g5⟩
 ·exact .inl ⟨g1,g2⟩
 ·refine .inr ⟨b,x,g1,g2,Sz g2,g3,g4,fun i' A3 AK=>?_⟩;obtain ⟨a,ha,e⟩:=lM g2 A3 AK;rw [←e];exact g5 a ha
theorem ap (hp:Ai q p):wt p<=16384:=by
 have:=hp.len256.2;unfold wt;refine zt zCU ?_;rw [zBK];omega
def JD (q:AA) (level:Int) (p acc:List Int):Nq:=if acc= [] then .l1 (AO q level) else .l2 acc.length (AO q level) p acc
theorem TH {acc:List Int} (h:acc≠[]):JD q level p acc= .l2 acc.length (AO q level) p acc:=by unfold JD;rw [zr h]
theorem eY {M:Nat} {p acc:List Int} (B7: ∀ {p' acc':List Int},wt p'<M -> Ai q p' -> (BC p'=true -> p'=List.replicate p'.length 0) -> acc'.length+wt p'<=20000 -> (acc'= [] -> p'=pos) -> ∃ l g,Ev (fun n=>Ge q pos level n (JD q level p' acc')) (acc'++l,0)/\ Gw q level p' l g)
 (hM:wt p<=M) (hp:Ai q p) (OX:BC pos=false) (hz:BC p=true -> p=List.replicate p.length 0) (hb:acc.length+wt p<=20000) (ha:acc= [] -> p=pos):
 ∃ l g,Ev (fun n=>Ge q pos level n (JD q level p acc)) (acc++l,0)/\ Gw q level p l g:=by
 have ED:=hp.len256;have Gk: ∀ m,300<=m -> GI m p=some (BC p):=fun m hm=>MT (zt ED.2 (by decide)) (by omega)
 cases hd:BC p with
 | true=>
  have AQ:acc≠[]:=fun e=>by rw [ha e,OX] at hd;cases hd
  refine ⟨[],p,?_,.done (by rw [hz hd];exact VU ED.1)⟩;rw [TH AQ,zA5];refine Ev.oneN 300 fun n hn=>?_
  show L3 n (Ge q pos level n) q pos level acc.length (AO q level) p acc=_
  unfold L3;rw [Gk n hn,zh,hd,zAW,zg,zi rfl]
 | false=>
  rcases sK (level:=level) hp with ⟨⟨N,g1⟩,g2⟩ | ⟨b,x,⟨N,g1⟩,g2,g3,g4,g5,g6⟩
  ·have g1: ∀ n,N<=n -> MZ n (AO q level) q p=some (-1,p):=g1;refine ⟨[],p,?_,.done g2⟩;rw [zA5]
   by_cases AQ:acc= []
   ·have e:=ha AQ;subst e;refine Ev.oneN (max N 300) fun n hn=>?_
    have e0:JD q level p acc= .l1 (AO q level):=by unfold JD;rw [zi AQ]
    rw [e0,AQ]
    show L4 n (Ge q p level n) q p level (AO q level)=_
    unfold L4;rw [Gk n (by omega),zh,hd,zAZ,zk,g1 n (by omega),zh];rfl
   ·rw [TH AQ];refine Ev.oneN (max N 300) fun n hn=>?_
    show L3 n (Ge q pos level n) q pos level acc.length (AO q level) p acc=_
    unfold L3;rw [Gk n (by omega),zh,hd,zAZ,zk,g1 n (by omega),zh]
    show (bif decide ((-1:Int)<0) then (if acc.length=acc.length then some (acc,(0:Int)) else none) else _)=_
    rw [zn (by decide),zk,zi rfl]
  ·have g1: ∀ n,N<=n -> MZ n (AO q level) q p=some ((b:Int),x):=g1;have Kt:=hp.pr g3.1 g3.2.1 g4;have hw:=WH Kt hp g4.le g5;have vP:x.length=p.length:=g4.len;have iQ:decide ((b:Int)<0)=false:=ze (by omega);obtain ⟨l,g,r1,r2⟩:=B7 (p':=x) (acc':=acc++[(AO q level).getD b 0]) (by omega) Kt (fun Mp=>by rw [vP];exact g4.zero Mp) (by rw [zAO,zAH];omega) (fun e=>by simp at e);rw [TH (by simp),zBh,List.singleton_append] at r1;refine ⟨(AO q level).getD b 0::l,g,BD.ev (BD.oneN (max N 300) fun n hn=>?_) r1,.step g3 g4 g5 g6 r2⟩
   by_cases AQ:acc= []
   ·have e:=ha AQ;subst e;have e0:JD q level p acc= .l1 (AO q level):=by unfold JD;rw [zi AQ]
    rw [e0,AQ]
    show L4 n (Ge q p level n) q p level (AO q level)=_
    unfold L4;rw [Gk n (by omega),zh,hd,zAZ,zk,g1 n (by omega),zh]
    show (bif decide ((b:Int)<0) then _ else _)=_
    rw [iQ,zg,zi ⟨⟨by omega,by omega⟩,⟨rfl,rfl⟩,Nat.one_pos,by unfold A6;simp⟩,zl];rfl
   ·rw [TH AQ]
    show L3 n (Ge q pos level n) q pos level acc.length (AO q level) p acc=_
    unfold L3;rw [Gk n (by omega),zh,hd,zAZ,zk,g1 n (by omega),zh]
    show (bif decide ((b:Int)<0) then _ else _)=_
    rw [iQ,zg,zi ⟨⟨by omega,by omega⟩,⟨rfl,rfl⟩,⟨rfl,rfl⟩,by unfold A6;rw [zAH];omega⟩,zl,zAO]
theorem qK: ∀ (M:Nat) {p acc:List Int},wt p<=M -> Ai q p -> BC pos=false -> (BC p=true -> p=List.replicate p.length 0) -> acc.length+wt p<=20000 -> (acc= [] -> p=pos) ->
 ∃ l g,Ev (fun n=>Ge q pos level n (JD q level p acc)) (acc++l,0)/\ Gw q level p l g:=by
 intro M
 induction M with
 | zero=>exact fun {p acc} hM hp OX hz hb ha=>eY (fun {p' acc'} h=>absurd h (by omega)) hM hp OX hz hb ha
 | succ M ih=>exact fun {p acc} hM hp OX hz hb ha=>eY (fun {p' acc'} h Av YT Cy Mu=>ih (by omega) Av OX YT Cy Mu) hM hp OX hz hb ha
def zZ (q:AA) (pos:List Int) (level:Int) (r:List Int×Int):Prop:=
 (Cc q pos≠0/\ r=([],Cc q pos))∨(Cc q pos=0/\ BC pos=true/\ r=([],0))∨(Cc q pos=0/\ BC pos=false/\ r.2=0/\ r.1.length<=20000/\ ∃ g,Gw q level pos r.1 g)
theorem Gw.len (hp:Ai q p) {l g:List Int} (h:Gw q level p l g):l.length+wt g<=wt p:=by
 induction h with
 | done _=>simp
 | step hi hx AQ _ _ ih=>
  have Kt:=hp.pr hi.1 hi.2.1 hx;have h1:=ih Kt;have h2:=WH Kt hp hx.le AQ;rw [zAv];omega
theorem qL (hF:CU q) (hl:pos.length<=LB): ∃ r,Ev (fun n=>Nr n q pos level) r/\ zZ q pos level r:=by
 have h1:=d8 hF hl
 by_cases h0:Cc q pos=0
 ·have hp:=Ai.of hF h0;rw [h0] at h1;have hu:=bK (level:=level) hp.fit hp.valid;cases hd:BC pos with
  | true=>
   refine ⟨([],0),Ev.bind h1 (Ev.bind hu ?_),.inr (.inl ⟨h0,hd,rfl⟩)⟩;have ED:=hp.len256;have Gk: ∀ m,300<=m -> GI m pos=some (BC pos):=fun m hm=>MT (zt ED.2 (by decide)) (by omega)
   refine Ev.oneN 300 fun n hn=>?_
   show L4 n (Ge q pos level n) q pos level (AO q level)=_
   unfold L4;rw [Gk n hn,zh,hd];rfl
  | false=>
   obtain ⟨l,g,g1,g2⟩:=qK (q:=q) (level:=level) (pos:=pos) (wt pos) (acc:=[]) (zAF _) hp hd (fun h=>by rw [hd] at h;cases h) (by have:=ap hp;simp;omega) (fun _=>rfl);exact ⟨(l,0),Ev.bind h1 (Ev.bind hu g1),.inr (.inr ⟨h0,hd,rfl,by have:=g2.len hp;have:=ap hp;simp only;omega,g,g2⟩)⟩
 ·refine ⟨([],Cc q pos),Ev.bind h1 (Ev.now fun n=>?_),.inl ⟨h0,rfl⟩⟩;have:(Cc q pos != 0)=true:=by simpa using h0
  show (bif (Cc q pos != 0) then _ else _)=_
  rw [this];rfl
end
end Go.Proofs.YtgkhhfnhacibcaaGreatDoor
namespace Go.Proofs.YtgkhhfnhacibcaaGreatDoor
open Go.RowKit
section
variable {q:AA} {pos:List Int}
theorem dl {n:Nat} (hl:pos.length<=256): ∀ (k j n:Nat),j+k=pos.length -> k<n -> Lt pos n (.l1 (j:Int))=some ((pos.drop j).any (· ==0))
 | 0,j,n+1,e,_=>by
  show QP n (Lt pos n) pos (j:Int)=_
  unfold QP;rw [ze (by omega),zg,zAj (by omega)];rfl
 | k+1,j,n+1,e,hn=>by
  have hj:j<pos.length:=by omega
  have e2:pos.drop j=pos.getD j 0::pos.drop (j+1):=by
   rw [zAD hj,u8,zf hj];rfl
  have ih:=dl (n:=n) hl k (j+1) n (by omega) (by omega);have ih:Lt pos n (.l1 ((j:Int)+1))=_:=ih
  show QP n (Lt pos n) pos (j:Int)=_
  unfold QP;rw [zn (by omega),zk,zi ⟨by omega,by omega⟩,zi (Aq.2 ⟨by omega,by omega⟩),zl,ih,e2,List.any_cons];cases (pos.getD j 0==0) <;> rfl
theorem pV {n:Nat} (hl:pos.length<=256) (hn:pos.length<n):Ts n pos=some (BC pos):=dl (n:=n) hl pos.length 0 n (by omega) hn
theorem oG {n:Nat} (hF:CU q) (hn:Da q<=n) (hl:pos.length<=LB) (HQ:pos.length<n):TX n q pos=some (Cc q pos):=by
 have hb:LB<=9223372036854775806:=by decide
 unfold TX dD Cc;rw [dA hF hn,zh];cases hv:Cb q with
 | false=>rfl
 | true=>
  obtain ⟨_,hs,_⟩:=C1 hv;obtain ⟨p1,p2,p3⟩:=T3 hs.1 hs.2
  have wu:IntKind.u64.wrap q.symbols=q.symbols:=by
   show q.symbols % 18446744073709551616=q.symbols
   omega
  show (bif ((pos.length:Int) != q.cells) then some 250 else Lo q pos n (.l1 0))=some (if posOk q pos=true then 0 else 250)
  unfold posOk
  by_cases Af:(pos.length:Int)=q.cells
  ·have h1:((pos.length:Int) != q.cells)=false:=by simpa using Af
   have h2:((pos.length:Int)==q.cells)=true:=by simpa using Af
   rw [h1,zg,h2,zAG]
   have key: ∀ (k i n:Nat),i+k=pos.length -> k+1<=n -> Lo q pos n (.l1 (i:Int))=some (if ((pos.drop i).all fun x=>decide (0<=x)&&decide (x<2 ^ q.symbols.toNat))=true then 0 else 250):=by
    intro k
    induction k with
    | zero=>
     intro i n e hn;obtain ⟨n,rfl⟩: ∃ k,n=k+1:=⟨n-1,by omega⟩
     show P7 n (Lo q pos n) q pos (i:Int)=_
     unfold P7;rw [ze (by omega),zg,zAj (by omega)];rfl
    | succ k ih=>
     intro i n e hn;obtain ⟨n,rfl⟩: ∃ k,n=k+1:=⟨n-1,by omega⟩;have hi:i<pos.length:=by omega
     have e2:pos.drop i=pos.getD i 0::pos.drop (i+1):=by
      rw [zAD hi,u8,zf hi];rfl
     have:=ih (i+1) n (by omega) (by omega)
     show P7 n (Lo q pos n) q pos (i:Int)=_
     unfold P7;rw [zn (by omega),zk,zi ⟨by omega,by omega⟩,wu,zi p3,zi (Aq.2 ⟨by omega,by omega⟩),zl,e2,zBr,p1]
     by_cases c1:pos.getD i 0<0
     ·rw [zn c1,zk,ze (p:=0<=pos.getD i 0) (by omega)];rfl
     ·rw [ze c1,zg,zn (p:=0<=pos.getD i 0) (by omega),zAG]
      by_cases c2:pos.getD i 0>=2 ^ q.symbols.toNat
      ·rw [zn c2,zk,ze (p:=pos.getD i 0<2 ^ q.symbols.toNat) (by omega)];rfl
      ·rw [ze c2,zg,zn (p:=pos.getD i 0<2 ^ q.symbols.toNat) (by omega),zAG];exact this
   exact key pos.length 0 n (by omega) (by omega)
  ·have h1:((pos.length:Int) != q.cells)=true:=by simpa using Af
   have h2:((pos.length:Int)==q.cells)=false:=by simpa using Af
   rw [h1,zk,h2,zBC];rfl
end
end Go.Proofs.YtgkhhfnhacibcaaGreatDoor
namespace Go.Proofs.YtgkhhfnhacibcaaGreatDoor
open Go.RowKit
theorem cm {a b:List Int} {n:Nat} (hl:a.length<=LB) (hn:a.length<n):DR n a b=some (decide (a=b)):=by
 have hb:LB<=9223372036854775806:=by decide
 unfold DR ck
 by_cases Af:a.length=b.length
 ·have e:((a.length:Int) != (b.length:Int))=false:=by rw [Af];simp
  rw [e,zg]
  have key: ∀ (k i n:Nat),i+k=a.length -> k+1<=n -> NZ a b n (.l1 (i:Int))=some (decide (a.drop i=b.drop i)):=by
   intro k
   induction k with
   | zero=>
    intro i n e hn;obtain ⟨n,rfl⟩: ∃ k,n=k+1:=⟨n-1,by omega⟩
    show Pw n (NZ a b n) a b (i:Int)=_
    unfold Pw;rw [ze (by omega),zg,zAj (by omega),zAj (by omega)];rfl
   | succ k ih=>
    intro i n e hn;obtain ⟨n,rfl⟩: ∃ k,n=k+1:=⟨n-1,by omega⟩;have hi:i<a.length:=by omega
    have A3:i<b.length:=by omega
    have d: ∀ {l:List Int},i<l.length -> l.drop i=l.getD i 0::l.drop (i+1):=fun {l} h=>by
     rw [zAD h,u8,zf h];rfl
    have:=ih (i+1) n (by omega) (by omega)
    show Pw n (NZ a b n) a b (i:Int)=_
    unfold Pw;rw [zn (by omega),zk,zi ⟨⟨by omega,by omega⟩,by omega,by omega⟩,zl,zi (Aq.2 ⟨by omega,by omega⟩),d hi,d A3]
    by_cases h:a.getD i 0=b.getD i 0
    ·have:(a.getD i 0 != b.getD i 0)=false:=by rw [h];simp
     rw [this,zg];refine Eq.trans (by assumption) ?_;rw [h];simp
    ·have:(a.getD i 0 != b.getD i 0)=true:=by simpa using h
     rw [this,zk,ze fun e=>h (List.cons.inj e).1]
  exact key a.length 0 n (by omega) (by omega)
 ·have e:((a.length:Int) != (b.length:Int))=true:=by simp;omega
  rw [e,zk,ze fun h=>Af (by rw [h])]
theorem bO {n:Nat} {c:AB} {level:Int}:Pa n c level=some (decide (FP c.kind<=level)):=by
 unfold Pa bN FP
 by_cases h4:c.kind=4
 ·rw [zi (.inr h4)];simp [h4]
 by_cases h3:c.kind=3
 ·rw [zi (.inl h3)];simp [h3]
 rw [zr (by omega)]
 by_cases h5:c.kind=5
 ·rw [zi h5];simp [h5]
 rw [zr h5]
 by_cases h8:c.kind=8
 ·rw [zi (.inl h8)];simp [h8]
 by_cases h9:c.kind=9
 ·rw [zi (.inr h9)];simp [h9]
 rw [zr (by omega)];have e4:(c.kind==4)=false:=by simpa using h4
 have e3:(c.kind==3)=false:=by simpa using h3
 have e5:(c.kind==5)=false:=by simpa using h5
 have e8:(c.kind==8)=false:=by simpa using h8
 have e9:(c.kind==9)=false:=by simpa using h9
 rw [e4,e3,e5,e8,e9];rfl
section
variable {q:AA} {pos:List Int}
end
end Go.Proofs.YtgkhhfnhacibcaaGreatDoor
namespace Go.Proofs.YtgkhhfnhacibcaaGreatDoor
open Go.RowKit
set_option maxRecDepth 100000
set_option maxHeartbeats 40000000
def xf (n:Nat) (cells:Int):Option AA:=
 if ((cells:Int)=cells/\ 0<=cells/\ (cells:Int)<=1000000000000)/\ ((0:Int)<=0/\ 0<=cells/\ cells<=((([0,1,2]:List Int).length:Nat):Int)) then
  if (cells).toNat=(List.replicate ((cells).toNat) ([]:List Int)).length then
   some (⟨cells,3,([1,2,3]:List Int),(List.replicate ((cells).toNat) ([]:List Int)),([(⟨1,(([0,1,2]:List Int).take ((cells).toNat)).drop 0,0,0,0,0,([]:List Int),0,0⟩:AB)]:List AB)⟩:AA)
  else none
 else none
def Vh (n:Nat) (cells:Int):Option AA:=xf n cells
theorem Jz {n:Nat} {cells:Int} {r:AA} (h:Vh n cells=some r):EQ 32 [.i cells] [] (.agg 5 (L1 (AD r))) [] true:=by
 refine ot Tryz.func32 fun B N=>?_
 revert r;apply gO;exact gc (gi (ja 7 2 1 (oK (c:=BF) (x:=([]:List Int)) (n:=(cells).toNat) (l:=[.nils]) ⟨AM.ints_nil,trivial⟩) (jt (jz 9 4 (jg (by decide:3=([0,1,2]:List Int).length) (gi (ja 13 5 9 (W8 (c:=AG) (L:=([(⟨1,(([0,1,2]:List Int).take ((cells).toNat)).drop 0,0,0,0,0,([]:List Int),0,0⟩:AB)]:List AB)) (vals:=[.agg 9 (L1 [.i 1,.ints ((([0,1,2]:List Int).take ((cells).toNat)).drop 0),.i 0,.i 0,.i 0,.i 0,.nils,.i 0,.i 0])]) rfl ⟨⟨_,rfl,⟨BM,BM,BM,BM,BM,BM,AM.ints_nil,BM,BM,trivial⟩⟩,trivial⟩) (jt (jt (gn fun g2=>lF fun p=>ez AE [2] [0,1,2,5] p [1,2,3] (H0.g (by decide:3=([1,2,3]:List Int).length) |>.g g2 |>.g (Eq.refl 1))))))))))))
def Y0 (y1 y2 y3:AA):DH:=[some (.cells (AD y1)),some (.cells (AD y2)),some (.cells [.i y3.cells,.i y3.symbols,.ints y3.values,.sl 1 y3.nbrs.length (Aw BF y3.nbrs),.nils]),none]
def Yz (y1 y2 y3:AA):DH:=[some (.cells (AD y1)),some (.cells (AD y2)),some (.cells [.i y3.cells,.i y3.symbols,.ints y3.values,.sl 1 y3.nbrs.length (Aw BF y3.nbrs),.nils]),none,none]
def Yy (y1 y2 y3:AA):DH:=[some (.cells (AD y1)),some (.cells (AD y2)),some (.cells [.i y3.cells,.i y3.symbols,.ints y3.values,.sl 1 y3.nbrs.length (Aw BF y3.nbrs),.nils]),none,none,none]
def Yx (y1 y2 y3:AA):DH:=[some (.cells (AD y1)),some (.cells (AD y2)),some (.cells [.i y3.cells,.i y3.symbols,.ints y3.values,.sl 1 y3.nbrs.length (Aw BF y3.nbrs),.nils]),none,none,none,none]
def Yw (y1 y2 y3:AA):DH:=[some (.cells (AD y1)),some (.cells (AD y2)),some (.cells [.i y3.cells,.i y3.symbols,.ints y3.values,.sl 1 y3.nbrs.length (Aw BF y3.nbrs),.nils]),none,none,none,none,none]
def Yv (y1 y2 y3:AA):DH:=[some (.cells (AD y1)),some (.cells (AD y2)),some (.cells [.i y3.cells,.i y3.symbols,.ints y3.values,.sl 1 y3.nbrs.length (Aw BF y3.nbrs),.nils]),none,none,none,none,none,none]
def OP (y1 y2 y3:AA):DH:=[some (.cells (AD y1)),some (.cells (AD y2)),some (.cells [.i y3.cells,.i y3.symbols,.ints y3.values,.sl 1 y3.nbrs.length (Aw BF y3.nbrs),.nils]),none,none,none,none,none,none,none,none]
def Yu (y1 y2 y3:AA):DH:=[some (.cells (AD y1)),some (.cells (AD y2)),some (.cells [.i y3.cells,.i y3.symbols,.ints y3.values,.sl 1 y3.nbrs.length (Aw BF y3.nbrs),.nils]),none,none,none,none,none,none,none,none,some (.ints ([1,2]:List Int))]
def uG (y1 y2 y3:AA):DH:=[some (.cells (AD y1)),some (.cells (AD y2)),some (.cells [.i y3.cells,.i y3.symbols,.ints y3.values,.sl 1 y3.nbrs.length (Aw BF y3.nbrs),.nils]),none,none,none,none,none,none,none,none,some (.ints ([1,2]:List Int)),some (.ints ([1,2,4]:List Int))]
def uF (y1 y2 y3:AA):DH:=[some (.cells (AD y1)),some (.cells (AD y2)),some (.cells [.i y3.cells,.i y3.symbols,.ints y3.values,.sl 1 y3.nbrs.length (Aw BF y3.nbrs),.nils]),none,none,none,none,none,none,none,none,some (.ints ([1,2]:List Int)),some (.ints ([1,2,4]:List Int)),some (.ints ([0,0]:List Int))]
def uK (y1 y2 y3:AA):DH:=[some (.cells (AD y1)),some (.cells (AD y2)),some (.cells [.i y3.cells,.i y3.symbols,.ints y3.values,.sl 1 y3.nbrs.length (Aw BF y3.nbrs),.nils]),none,none,none,none,none,none,none,none,some (.ints ([1,2]:List Int)),some (.ints ([1,2,4]:List Int)),some (.ints ([0,0]:List Int)),some (.ints ([1,1]:List Int))]
def uJ (y1 y2 y3:AA):DH:=[some (.cells (AD y1)),some (.cells (AD y2)),some (.cells [.i y3.cells,.i y3.symbols,.ints y3.values,.sl 1 y3.nbrs.length (Aw BF y3.nbrs),.nils]),none,none,none,none,none,none,none,none,some (.ints ([1,2]:List Int)),some (.ints ([1,2,4]:List Int)),some (.ints ([0,0]:List Int)),some (.ints ([1,1]:List Int)),some (.ints ([0,0]:List Int))]
def uI (y1 y2 y3:AA):DH:=[some (.cells (AD y1)),some (.cells (AD y2)),some (.cells [.i y3.cells,.i y3.symbols,.ints y3.values,.sl 1 y3.nbrs.length (Aw BF y3.nbrs),.nils]),none,none,none,none,none,none,none,none,some (.ints ([1,2]:List Int)),some (.ints ([1,2,4]:List Int)),some (.ints ([0,0]:List Int)),some (.ints ([1,1]:List Int)),some (.ints ([0,0]:List Int)),some (.ints ([0,0]:List Int))]
def uH (y1 y2 y3:AA):DH:=[some (.cells (AD y1)),some (.cells (AD y2)),some (.cells [.i y3.cells,.i y3.symbols,.ints y3.values,.sl 1 y3.nbrs.length (Aw BF y3.nbrs),.nils]),none,none,none,none,none,none,none,none,some (.ints ([1,2]:List Int)),some (.ints ([1,2,4]:List Int)),some (.ints ([0,0]:List Int)),some (.ints ([1,1]:List Int)),some (.ints ([0,0]:List Int)),some (.ints ([0,0]:List Int)),some (.ints ([0]:List Int))]
def cj (n:Nat):Option Bool:=
 (Vh n 3).bind fun y1=>
  (Vh n 2).bind fun y2=>
   (Vh n 2).bind fun y3=>
    (DK n y1 ([1,3,7]:List Int) 1).bind fun y4=>
     (Nr n y1 ([1,3,7]:List Int) 4).bind fun y5=>
      (DK n y2 ([1,1]:List Int) 0).bind fun y6=>
       (DK n y2 ([1,1]:List Int) 1).bind fun y7=>
        (DK n (⟨y3.cells,y3.symbols,y3.values,y3.nbrs,([]:List AB)⟩:AA) ([3,0]:List Int) 4).bind fun y8=>
         (Nr n y2 ([1,3]:List Int) 1).bind fun y9=>
          (NA n y2 ([1,1]:List Int) ([2]:List Int) 1).bind fun KA=>
           (VV n (⟨0,0,([]:List Int),([]:List (List Int)),([]:List AB)⟩:AA) ([]:List Int) 1).bind fun IY=>
            (VV n y2 ([1,2]:List Int) 1).bind fun GV=>
             bif (y4.2==0) then
              bif (y5.2==0) then
               bif (y6.2==0) then
                bif (y7.2==0) then
                 bif (y8.2==0) then
                  bif (y9.2==0) then
                   bif (KA.2==1) then
                    bif (IY.2==191) then
                     bif (GV.2==0) then
                      bif GV.1 then
                       (DR n y4.1 ([1,2,4]:List Int)).bind fun GA=>
                        bif GA then
                         (DR n y5.1 ([0,0]:List Int)).bind fun am=>
                          bif am then
                           (DR n y6.1 ([1,1]:List Int)).bind fun al=>
                            bif al then
                             (DR n y7.1 ([0,0]:List Int)).bind fun ak=>
                              bif ak then
                               (DR n y8.1 ([0,0]:List Int)).bind fun aj=>
                                bif aj then
                                 (DR n y9.1 ([0]:List Int)).bind fun ah=>
                                  some ah
                                else
                                 some false
                              else
                               some false
                            else
                             some false
                          else
                           some false
                        else
                         some false
                      else
                       some false
                     else
                      some false
                    else
                     some false
                   else
                    some false
                  else
                   some false
                 else
                  some false
                else
                 some false
               else
                some false
              else
               some false
             else
              some false
def KT (n:Nat):Option Bool:=cj n
theorem Ws {n:Nat} {r:Bool} (h:KT n=some r):EQ 10 [] [] (.bool r) [] true:=by
 unfold KT cj at h;refine ot Tryz.func10 fun B N=>?_
 revert r;apply gO;exact cn fun y1 A5=>jc (fb (Jz A5) []) (cn fun y2 CQ=>jc (fb (Jz CQ) []) (cn fun y3 RH=>jc (fb (Jz RH) []) (jt (jt (jt (jt (jz 29 3 (jg (by decide:3=([1,3,7]:List Int).length) (cn fun y4 RG=>jc (fb (EF RG) (Y0 y1 y2 y3)) (jz 35 4 (jg (by decide:3=([1,3,7]:List Int).length) (cn fun y5 RF=>jc (fb (L2 RF) (Yz y1 y2 y3)) (jz 41 5 (jg (by decide:2=([1,1]:List Int).length) (cn fun y6 YX=>jc (fb (EF YX) (Yy y1 y2 y3)) (jz 47 6 (jg (by decide:2=([1,1]:List Int).length) (cn fun y7 YW=>jc (fb (EF YW) (Yx y1 y2 y3)) (jz 53 7 (jg (by decide:2=([3,0]:List Int).length) (cn fun y8 YV=>jc (fb (ES.argsLe (ds:=[.agg 5 (L1 [.i y3.cells,.i y3.symbols,.ints y3.values,.sl 1 y3.nbrs.length (Aw BF y3.nbrs),.nils]),.ints ([3,0]:List Int),.i 4]) (EF YV) ⟨(AM.aggL (l:=[.i y3.cells,.i y3.symbols,.ints y3.values,.sl 1 y3.nbrs.length (Aw BF y3.nbrs),.nils]) (l':=[.i y3.cells,.i y3.symbols,.ints y3.values,.sl 1 y3.nbrs.length (Aw BF y3.nbrs),.sl 9 (([]:List AB).length) (Aw AG ([]:List AB))]) rfl ⟨BM,BM,BM,BM,(AM.sl_nil _ _),trivial⟩),BM,BM,trivial⟩) (Yw y1 y2 y3)) (jz 59 8 (jg (by decide:2=([1,3]:List Int).length) (cn fun y9 YU=>jc (fb (L2 YU) (Yv y1 y2 y3)) (jz 65 9 (jg (by decide:2=([1,1]:List Int).length) (jz 66 10 (jg (by decide:1=([2]:List Int).length) (cn fun KA Ya=>jc (fb (Sr Ya) (OP y1 y2 y3)) (cn fun IY YZ=>jc (sb [.agg 5 (L1 [.i 0,.i 0,.nils,.nils,.nils]),.nils,.i 1] (Om YZ) (OP y1 y2 y3) ⟨(Ae.dle (by kernel_rfl) (AM.aggL (l:=[.i 0,.i 0,.nils,.nils,.nils]) (l':=[.i 0,.i 0,.ints ([]:List Int),.sl 1 (([]:List (List Int)).length) (Aw BF ([]:List (List Int))),.sl 9 (([]:List AB).length) (Aw AG ([]:List AB))]) rfl ⟨BM,BM,AM.ints_nil,(AM.sl_nil _ _),(AM.sl_nil _ _),trivial⟩)),Ae.nils,Ae.plain (by kernel_rfl),trivial⟩) (cn fun GV YY=>jc (sb [.agg 5 (L1 (AD y2)),.msl 11 1 0 2,.i 1] (Om YY) (Yu y1 y2 y3) ⟨Ae.plain (by kernel_rfl),Ae.ints rfl (by decide:2=([1,2]:List Int).length),Ae.plain (by kernel_rfl),trivial⟩) (bj 82 (fun c0=>bj 85 (fun c1=>bj 89 (fun c2=>bj 93 (fun c3=>bj 97 (fun c4=>bj 101 (fun c5=>bj 105 (fun c6=>bj 109 (fun c7=>bj 113 (fun c8=>bn (fun c9=>rO (jc (fb (Jz A5) []) (jc (fb (Jz CQ) []) (jc (fb (Jz RH) []) (jt (jt (jt (jt (jz 29 3 (jg (by decide:3=([1,3,7]:List Int).length) (jc (fb (EF RG) (Y0 y1 y2 y3)) (jz 35 4 (jg (by decide:3=([1,3,7]:List Int).length) (jc (fb (L2 RF) (Yz y1 y2 y3)) (jz 41 5 (jg (by decide:2=([1,1]:List Int).length) (jc (fb (EF YX) (Yy y1 y2 y3)) (jz 47 6 (jg (by decide:2=([1,1]:List Int).length) (jc (fb (EF YW) (Yx y1 y2 y3)) (jz 53 7 (jg (by decide:2=([3,0]:List Int).length) (jc (fb (ES.argsLe (ds:=[.agg 5 (L1 [.i y3.cells,.i y3.symbols,.ints y3.values,.sl 1 y3.nbrs.length (Aw BF y3.nbrs),.nils]),.ints ([3,0]:List Int),.i 4]) (EF YV) ⟨(AM.aggL (l:=[.i y3.cells,.i y3.symbols,.ints y3.values,.sl 1 y3.nbrs.length (Aw BF y3.nbrs),.nils]) (l':=[.i y3.cells,.i y3.symbols,.ints y3.values,.sl 1 y3.nbrs.length (Aw BF y3.nbrs),.sl 9 (([]:List AB).length) (Aw AG ([]:List AB))]) rfl ⟨BM,BM,BM,BM,(AM.sl_nil _ _),trivial⟩),BM,BM,trivial⟩) (Yw y1 y2 y3)) (jz 59 8 (jg (by decide:2=([1,3]:List Int).length) (jc (fb (L2 YU) (Yv y1 y2 y3)) (jz 65 9 (jg (by decide:2=([1,1]:List Int).length) (jz 66 10 (jg (by decide:1=([2]:List Int).length) (jc (fb (Sr Ya) (OP y1 y2 y3)) (jc (sb [.agg 5 (L1 [.i 0,.i 0,.nils,.nils,.nils]),.nils,.i 1] (Om YZ) (OP y1 y2 y3) ⟨(Ae.dle (by kernel_rfl) (AM.aggL (l:=[.i 0,.i 0,.nils,.nils,.nils]) (l':=[.i 0,.i 0,.ints ([]:List Int),.sl 1 (([]:List (List Int)).length) (Aw BF ([]:List (List Int))),.sl 9 (([]:List AB).length) (Aw AG ([]:List AB))]) rfl ⟨BM,BM,AM.ints_nil,(AM.sl_nil _ _),(AM.sl_nil _ _),trivial⟩)),Ae.nils,Ae.plain (by kernel_rfl),trivial⟩) (jc (sb [.agg 5 (L1 (AD y2)),.msl 11 1 0 2,.i 1] (Om YY) (Yu y1 y2 y3) ⟨Ae.plain (by kernel_rfl),Ae.ints rfl (by decide:2=([1,2]:List Int).length),Ae.plain (by kernel_rfl),trivial⟩) (jb 79 c9 (jb 82 c0 (jb 85 c1 (jb 89 c2 (jb 93 c3 (jb 97 c4 (jb 101 c5 (jb 105 c6 (jb 109 c7 (jb 113 c8 (cn fun GA s8=>jc (sb [.ints y4.1,.msl 12 1 0 3] (Hq s8) (uG y1 y2 y3) ⟨Ae.plain (by kernel_rfl),Ae.ints rfl (by decide:3=([1,2,4]:List Int).length),trivial⟩) (bi 122 (cn fun am s7=>jc (sb [.ints y5.1,.msl 13 1 0 2] (Hq s7) (uF y1 y2 y3) ⟨Ae.plain (by kernel_rfl),Ae.ints rfl (by decide:2=([0,0]:List Int).length),trivial⟩) (bi 127 (cn fun al s6=>jc (sb [.ints y6.1,.msl 14 1 0 2] (Hq s6) (uK y1 y2 y3) ⟨Ae.plain (by kernel_rfl),Ae.ints rfl (by decide:2=([1,1]:List Int).length),trivial⟩) (bi 132 (cn fun ak s5=>jc (sb [.ints y7.1,.msl 15 1 0 2] (Hq s5) (uJ y1 y2 y3) ⟨Ae.plain (by kernel_rfl),Ae.ints rfl (by decide:2=([0,0]:List Int).length),trivial⟩) (bi 137 (cn fun aj s3=>jc (sb [.ints y8.1,.msl 16 1 0 2] (Hq s3) (uI y1 y2 y3) ⟨Ae.plain (by kernel_rfl),Ae.ints rfl (by decide:2=([0,0]:List Int).length),trivial⟩) (bi 142 (cn fun ah sw=>jc (sb [.ints y9.1,.msl 17 1 0 1] (Hq sw) (uH y1 y2 y3) ⟨Ae.plain (by kernel_rfl),Ae.ints rfl (by decide:1=([0]:List Int).length),trivial⟩) (lE AE [0] [])) (lE AE [0] []))) (lE AE [0] []))) (lE AE [0] []))) (lE AE [0] []))) (lE AE [0] [])))))))))))))))))))))))))))))))))))))))))))))) (fun c9=>rO (jc (fb (Jz A5) []) (jc (fb (Jz CQ) []) (jc (fb (Jz RH) []) (jt (jt (jt (jt (jz 29 3 (jg (by decide:3=([1,3,7]:List Int).length) (jc (fb (EF RG) (Y0 y1 y2 y3)) (jz 35 4 (jg (by decide:3=([1,3,7]:List Int).length) (jc (fb (L2 RF) (Yz y1 y2 y3)) (jz 41 5 (jg (by decide:2=([1,1]:List Int).length) (jc (fb (EF YX) (Yy y1 y2 y3)) (jz 47 6 (jg (by decide:2=([1,1]:List Int).length) (jc (fb (EF YW) (Yx y1 y2 y3)) (jz 53 7 (jg (by decide:2=([3,0]:List Int).length) (jc (fb (ES.argsLe (ds:=[.agg 5 (L1 [.i y3.cells,.i y3.symbols,.ints y3.values,.sl 1 y3.nbrs.length (Aw BF y3.nbrs),.nils]),.ints ([3,0]:List Int),.i 4]) (EF YV) ⟨(AM.aggL (l:=[.i y3.cells,.i y3.symbols,.ints y3.values,.sl 1 y3.nbrs.length (Aw BF y3.nbrs),.nils]) (l':=[.i y3.cells,.i y3.symbols,.ints y3.values,.sl 1 y3.nbrs.length (Aw BF y3.nbrs),.sl 9 (([]:List AB).length) (Aw AG ([]:List AB))]) rfl ⟨BM,BM,BM,BM,(AM.sl_nil _ _),trivial⟩),BM,BM,trivial⟩) (Yw y1 y2 y3)) (jz 59 8 (jg (by decide:2=([1,3]:List Int).length) (jc (fb (L2 YU) (Yv y1 y2 y3)) (jz 65 9 (jg (by decide:2=([1,1]:List Int).length) (jz 66 10 (jg (by decide:1=([2]:List Int).length) (jc (fb (Sr Ya) (OP y1 y2 y3)) (jc (sb [.agg 5 (L1 [.i 0,.i 0,.nils,.nils,.nils]),.nils,.i 1] (Om YZ) (OP y1 y2 y3) ⟨(Ae.dle (by kernel_rfl) (AM.aggL (l:=[.i 0,.i 0,.nils,.nils,.nils]) (l':=[.i 0,.i 0,.ints ([]:List Int),.sl 1 (([]:List (List Int)).length) (Aw BF ([]:List (List Int))),.sl 9 (([]:List AB).length) (Aw AG ([]:List AB))]) rfl ⟨BM,BM,AM.ints_nil,(AM.sl_nil _ _),(AM.sl_nil _ _),trivial⟩)),Ae.nils,Ae.plain (by kernel_rfl),trivial⟩) (jc (sb [.agg 5 (L1 (AD y2)),.msl 11 1 0 2,.i 1] (Om YY) (Yu y1 y2 y3) ⟨Ae.plain (by kernel_rfl),Ae.ints rfl (by decide:2=([1,2]:List Int).length),Ae.plain (by kernel_rfl),trivial⟩) (jb 79 c9 (jb 82 c0 (jb 85 c1 (jb 89 c2 (jb 93 c3 (jb 97 c4 (jb 101 c5 (jb 105 c6 (jb 109 c7 (jb 113 c8 (lE AE [0] []))))))))))))))))))))))))))))))))))))))))))))) (fun _=>lE AE [0] [])) (fun _=>lE AE [0] [])) (fun _=>lE AE [0] [])) (fun _=>lE AE [0] [])) (fun _=>lE AE [0] [])) (fun _=>lE AE [0] [])) (fun _=>lE AE [0] [])) (fun _=>lE AE [0] [])) (fun _=>lE AE [0] [])))))))))))))))))))))))))))))))))
end Go.Proofs.YtgkhhfnhacibcaaGreatDoor
namespace Go.Proofs.YtgkhhfnhacibcaaGreatDoor
open Go.RowKit
section
variable {q:AA} {pos cells:List Int} {level:Int}
theorem mZ:Ev KT true:=⟨300,fun n hn=>by
 obtain ⟨k,rfl⟩: ∃ k,n=k+300:=⟨n-300,by omega⟩
 show KT (k+300)=some true
 kernel_rfl⟩
end
end Go.Proofs.YtgkhhfnhacibcaaGreatDoor
namespace Go.Proofs.YtgkhhfnhacibcaaGreatDoor
open Go.RowKit
set_option maxRecDepth 100000
set_option maxHeartbeats 40000000
def dk (n:Nat) (pos:List Int):Option ((List Int)):=
 (Ts n pos).bind fun y1=>
  bif y1 then
   if ((pos.length:Int):Int)=(pos.length:Int)/\ 0<=(pos.length:Int)/\ ((pos.length:Int):Int)<=1000000000000 then
    if pos.length=(List.replicate pos.length (0:Int)).length then
     some (List.replicate pos.length (0:Int))
    else none
   else none
  else
   some pos
def QO (n:Nat) (pos:List Int):Option ((List Int)):=dk n pos
theorem pS {n:Nat} {pos:List Int} {r:(List Int)} (h:QO n pos=some r):EQ 14 [.ints pos] [] (.ints r) [] true:=by
 unfold QO dk at h;refine ot Tryz.func14 fun B N=>?_
 revert r;apply gO;exact cf pT [] fun _=>bi 4 (gi (gn fun g1=>lF fun p=>ez AE [2] [0] p [0] (H0.g g1))) (lE AE [2] [])
theorem m6:An (A8 Tryz.f19 6) [] (List.range 14) []:=by unfold An;kernel_rfl
def Ps:BV:=fun i=>match i with
 | 6=>.ord [] (List.range 14) []
 | _=>.no
inductive Tp where
 | l1 (x5:Int)
def QN (n:Nat) (self:Tp -> Option Bool) (a b_:List Int) (x5:Int):Option Bool:=
 bif (decide (x5<(a.length:Int))) then
  if (0<=x5/\ x5<(a.length:Int))/\ (0<=x5/\ x5<(b_.length:Int)) then
   bif ((bits .and .i64 (a.getD ((x5).toNat) 0) (b_.getD ((x5).toNat) 0)) != (a.getD ((x5).toNat) 0)) then
    some false
   else
    if AH (x5+1) then
     self (.l1 (x5+1))
    else none
  else none
 else
  some true
def dj (n:Nat) (self:Tp -> Option Bool) (a b_:List Int):Option Bool:=
 bif ((a.length:Int) != (b_.length:Int)) then
  some false
 else
  self (.l1 0)
def Nk (a b_:List Int):Nat -> Tp -> Option Bool
 | 0,_=>none
 | n+1,.l1 x5=>QN n (Nk a b_ n) a b_ x5
def FM (n:Nat) (a b_:List Int):Option Bool:=dj n (Nk a b_ n) a b_
def pQ (n B:Nat) (N:Yd 0) (a b_:List Int) (r:Bool):Tp -> Prop
 | .l1 x5=>∀ m0:Nat,n<=m0 -> TW B N (FQ Tryz.f19 0 (.bool r) []) (Ak m0 (Ap (Aa Tryz.f19) 0 [])) ⟨AL 31 [(0,.ints a),(1,.ints b_),(5,.i x5)],[]⟩
theorem pR (B:Nat) (N:Yd 0) (a b_:List Int):Al (Nk a b_) (pQ · B N a b_):=ia (fun _=>rfl) fun n AF pt r h=>by
 cases pt
 case l1 x5=>
  intro m0 AC;refine rd AC fun m0 AC=>?_
  revert r;apply gO;exact bi 14 (jg m6 (gc (gn fun g0=>jg g0 (gi (jg g0 (bi 30 (lE Ps [4] []) (gw 16 (lG Ps [] (AF _ _ · m0 AC))))))))) (lE Ps [4] [])
theorem XJ {n:Nat} {a b_:List Int} {r:Bool} (h:FM n a b_=some r):EQ 19 [.ints a,.ints b_] [] (.bool r) [] true:=by
 refine ot Tryz.func19 fun B N=>?_
 revert r;apply gO;exact bi 10 (lE Ps [4] []) (lN Ps [] ((pR B N a b_ n) _ _ · n Nat.le.refl))
def WR (n:Nat) (q:AA) (pos:List Int):Option Bool:=
 (Rx n q pos).bind fun y1=>
  bif y1 then
   (Px n q).bind fun y2=>
    bif (y2==0) then
     (TX n q pos).bind fun y3=>
      some (y3==0)
    else
     some false
  else
   some false
def Fj (n:Nat) (q:AA) (pos:List Int):Option Bool:=WR n q pos
theorem Sy {n:Nat} {q:AA} {pos:List Int} {r:Bool} (h:Fj n q pos=some r):EQ 11 [.agg 5 (L1 (AD q)),.ints pos] [] (.bool r) [] true:=by
 unfold Fj WR at h;refine ot Tryz.func11 fun B N=>?_
 revert r;apply gO;exact cf xK [some (.cells (AD q))] fun _=>bi 7 (cf cy [some (.cells (AD q))] fun _=>bi 11 (cf oF [some (.cells (AD q))] fun _=>lE AE [4] []) (lE AE [4] [])) (lE AE [4] [])
end Go.Proofs.YtgkhhfnhacibcaaGreatDoor
namespace Go.Proofs.YtgkhhfnhacibcaaGreatDoor
open Go.RowKit
section
variable {q:AA} {pos qP w b x y:List Int} {level i:Int}
theorem xJ {n:Nat} (hn:q.cons.length<n): ∃ b,Rx n q pos=some b:=by
 obtain ⟨b,hb⟩:=xD (q:=q) (pos:=pos) hn;unfold Rx Zt;rw [hb,zh];cases b with
 | false=>exact ⟨_,rfl⟩
 | true=>exact ⟨_,rfl⟩
theorem bI (hF:CU q) (hl:pos.length<=LB):Ac (fun n=>Fj n q pos) (fun b=>b=true -> Ai q pos):=by
 refine ⟨Da q+pos.length+q.cons.length+1,fun n hn=>?_⟩
 show ∃ b,Fj n q pos=some b/\ _
 unfold Fj WR;obtain ⟨b,hb⟩:=xJ (q:=q) (pos:=pos) (n:=n) (by omega);rw [hb,zh];cases b with
 | false=>exact ⟨false,rfl,fun h=>by cases h⟩
 | true=>
  rw [zk,dA hF (by omega),zh];cases (Ca (Cb q) 191==0) with
  | false=>exact ⟨false,rfl,fun h=>by cases h⟩
  | true=>
   rw [zk,oG hF (by omega) hl (by omega),zh];exact ⟨_,rfl,fun h=>Ai.of hF (by simpa using h)⟩
theorem WP {n:Nat -> Option Bool} {f:Nat -> Option Bool} (h: ∀ m,n m=(KT m).bind fun y1=>bif (!y1) then some false else (Fj m q pos).bind fun y2=>bif (!y2) then some true else f m) (hF:CU q) (hl:pos.length<=LB) (hf:Ai q pos -> Ev f true):Ev n true:=by
 obtain ⟨N1,h1⟩:=mZ;obtain ⟨N2,h2⟩:=bI hF hl
 have hf: ∃ N,∀ m,N<=m -> Ai q pos -> f m=some true:=by
  by_cases hp:Ai q pos
  ·obtain ⟨N,h⟩:=hf hp;exact ⟨N,fun m hm _=>h m hm⟩
  ·exact ⟨0,fun m _ h=>absurd h hp⟩
 obtain ⟨N3,h3⟩:=hf;refine ⟨max N1 (max N2 N3),fun m hm=>?_⟩;obtain ⟨b,hb,ZY⟩:=h2 m (by omega);have hb:Fj m q pos=some b:=hb;rw [h m,h1 m (by omega),zh]
 show ((Fj m q pos).bind fun y2=>bif (!y2) then some true else f m)=_
 rw [hb,zh];cases b with
 | false=>rfl
 | true=>exact h3 m (by omega) (ZY rfl)
theorem lD {a b:List Int} (hl:a.length=b.length) (ED:a.length<=256) (F4: ∀ j,Bj (a.getD j 0)) (h: ∀ j s,tb (a.getD j 0) s=true -> tb (b.getD j 0) s=true):Ev (fun n=>FM n a b) true:=by
 have key: ∀ (k i n:Nat),i+k=a.length -> k+1<=n -> Nk a b n (.l1 (i:Int))=some true:=by
  intro k
  induction k with
  | zero=>
   intro i n e hn;obtain ⟨n,rfl⟩: ∃ k,n=k+1:=⟨n-1,by omega⟩
   show QN n (Nk a b n) a b (i:Int)=_
   unfold QN;rw [ze (by omega),zg]
  | succ k ih=>
   intro i n e hn;obtain ⟨n,rfl⟩: ∃ k,n=k+1:=⟨n-1,by omega⟩;have:=ih (i+1) n (by omega) (by omega)
   have e0:bits .and .i64 (a.getD i 0) (b.getD i 0)=a.getD i 0:=KH (F5 .and _ _) (F4 i) fun s _=>by
    rw [Hg];cases h1:tb (a.getD i 0) s with
    | false=>rfl
    | true=>rw [h i s h1];rfl
   show QN n (Nk a b n) a b (i:Int)=_
   unfold QN;rw [zn (by omega),zk,zi ⟨⟨by omega,by omega⟩,by omega,by omega⟩,zl,e0,zBd,zg,zi (Aq.2 ⟨by omega,by omega⟩)];exact this
 refine ⟨a.length+1,fun n hn=>?_⟩;have e:((a.length:Int) != (b.length:Int))=false:=by rw [hl];simp
 show FM n a b=_
 unfold FM dj;rw [e,zg];exact key a.length 0 n (by omega) (by omega)
def nrm (p:List Int):List Int:=if BC p=true then List.replicate p.length 0 else p
theorem qd (hp:Ai q pos):Ev (fun n=>QO n pos) (nrm pos):=by
 have ED:=hp.len256;have hD:Ev (fun n=>Ts n pos) (BC pos):=⟨300,fun n hn=>pV ED.2 (by omega)⟩;refine Ev.bind hD (Ev.now fun n=>?_);unfold nrm;cases BC pos with
 | true=>
  show (if ((pos.length:Int):Int)=(pos.length:Int)/\ 0<=(pos.length:Int)/\ ((pos.length:Int):Int)<=1000000000000 then _ else _)=_
  rw [zi ⟨rfl,by omega,by omega⟩,zi zx.symm];rfl
 | false=>rfl
theorem Ai.zero (hp:Ai q pos):Ai q (List.replicate pos.length 0):=by
 refine ⟨hp.fit,hp.valid,(Nn hp.valid).2 ⟨by rw [zx];exact hp.len,fun j _=>?_⟩⟩
 have e:(List.replicate pos.length (0:Int)).getD j 0=0:=by
  rw [u8,zAm];split <;> rfl
 rw [e];exact ⟨by omega,Int.pow_pos (by decide)⟩
theorem Ai.nrm (hp:Ai q pos):Ai q (nrm pos):=by
 unfold Proofs.YtgkhhfnhacibcaaGreatDoor.nrm;split
 ·exact hp.zero
 ·exact hp
theorem Ce.nrm (hp:Ai q pos) {g:List Int} (h:Ce q level pos g):Cf q (Up q level) (nrm pos) g/\ He q (Up q level) g:=by
 unfold Proofs.YtgkhhfnhacibcaaGreatDoor.nrm;rcases h with ⟨h1,rfl⟩ | ⟨h1,h2,h3⟩
 ·rw [zi h1];exact ⟨.refl _,VU hp.len256.1⟩
 ·rw [zr (by rw [h1];exact fun h=>by cases h)];exact ⟨h2,h3⟩
theorem Cf.zero {U:Int -> Prop} (h:Cf q U x y):(BC x=true -> x=List.replicate x.length 0) -> BC y=true -> y=List.replicate y.length 0:=by
 induction h with
 | refl p=>exact id
 | step hi hx _ ih=>exact fun _=>ih fun hd=>by rw [hx.len];exact hx.zero hd
theorem Ce.self (hp:Ai q pos) {g:List Int} (h:Ce q level pos g):Ce q level g g:=by
 cases hd:BC g with
 | true=>
  refine .inl ⟨hd,?_⟩;rcases h with ⟨_,rfl⟩ | ⟨h1,h2,_⟩
  ·rw [zx]
  ·exact h2.zero (fun h=>by rw [h1] at h;cases h) hd
 | false=>exact .inr ⟨hd,.refl _,(h.nrm hp).2⟩
theorem LL (hp:Ai q pos): ∃ g,Ev (fun n=>DK n q pos level) (g,0)/\ Ce q level pos g/\ Ai q g:=by
 obtain ⟨a,a1,a2⟩:=zL (level:=level) hp.fit (zt hp.len256.2 (by decide))
 have hE:a.2=0/\ Ce q level pos a.1:=by
  rcases a2 with ⟨h,_⟩ | ⟨_,h,_⟩ | ⟨_,_,h,h'⟩
  ·exact absurd hp.check h
  ·cases h
  ·exact ⟨h,h'⟩
 obtain ⟨g,e⟩:=a;obtain ⟨rfl,h2⟩:=hE;exact ⟨g,a1,h2,(h2.nrm hp).1.pos PW hp.nrm⟩
end
end Go.Proofs.YtgkhhfnhacibcaaGreatDoor
namespace Go.Proofs.YtgkhhfnhacibcaaGreatDoor
open Go.RowKit
section
variable {q:AA} {p p' g g':List Int} {level UX:Int}
theorem iq (m j:Nat):(List.replicate m (0:Int)).getD j 0=0:=by
 rw [u8,zAm];split <;> rfl
theorem PK (m:Nat) (a:List Int):Le (List.replicate m 0) a:=fun j s hs=>by
 rw [iq] at hs;exact absurd hs Fk
theorem Ce.le (h:Ce q level p g):Le g p:=by
 rcases h with ⟨_,rfl⟩ | ⟨_,h,_⟩
 ·exact PK _ _
 ·exact h.le
theorem Ce.pos (hp:Ai q p) (h:Ce q level p g):Ai q g:=(h.nrm hp).1.pos PW hp.nrm
theorem Le.dead (hp:Ai q p) (Av:Ai q p') (h:Le p' p) (hd:BC p=true):BC p'=true:=by
 cases e:BC p' with
 | true=>rfl
 | false=>
  have:BC p=false:=GR.2 fun j hj=>by
   have BH:j<p'.length:=by rw [hp.eqlen Av];exact hj
   obtain ⟨s,h1,h2⟩:=(Eb (Av.in64 j)).1 (GR.1 e j BH);exact (Eb (hp.in64 j)).2 ⟨s,h1,h _ _ h2⟩
  rw [this] at hd;cases hd
theorem Up.mono (h:level<=UX) {i:Int} (hi:Up q level i):Up q UX i:=⟨hi.1,hi.2.1,Int.le_trans hi.2.2 h⟩
theorem Ce.mono (hp:Ai q p) (Av:Ai q p') (h:Le p' p) (hl:level<=UX) (e:Ce q level p g) (e':Ce q UX p' g'):Le g' g:=by
 have hf:=(e'.nrm Av).2;have Re:=e'.pos Av;rcases e with ⟨h1,rfl⟩ | ⟨h1,h2,h3⟩
 ·have hd:=Le.dead hp Av h h1;rcases e' with ⟨_,rfl⟩ | ⟨g1,_⟩
  ·exact PK _ _
  ·rw [hd] at g1;cases g1
 ·exact h2.above PW hp Re (e'.le.trans h) fun i hi=>hf i (hi.mono hl)
end
end Go.Proofs.YtgkhhfnhacibcaaGreatDoor
namespace Go.Proofs.YtgkhhfnhacibcaaGreatDoor
open Go.RowKit
def EN (a b:List Int) (k:Nat):List Int:=(List.range k).map fun j=>bits .and .i64 (a.getD j 0) (b.getD j 0)
theorem Kl {a b:List Int} {k:Nat}:(EN a b k).length=k:=by unfold EN;rw [zAl,zBK]
theorem fQ {a b:List Int} {k j:Nat} (hj:j<k):(EN a b k).getD j 0=bits .and .i64 (a.getD j 0) (b.getD j 0):=by
 unfold EN;rw [u8,z6,zBM hj];rfl
theorem qv {a b:List Int} {k:Nat}:EN a b (k+1)=EN a b k++[bits .and .i64 (a.getD k 0) (b.getD k 0)]:=by
 unfold EN;rw [List.range_succ,List.map_append];rfl
theorem qq {a b:List Int} (hl:a.length=b.length) (h0:0<a.length) (ED:a.length<=256):Ev (fun n=>MG n a b) (if BC (EN a b a.length) then List.replicate a.length 0 else EN a b a.length,0):=by
 have L:(1000000000000:Nat)=A6:=rfl;have lb:(256:Nat)<=LB:=by decide
 have vG: ∀ n,300<=n -> JV n (EN a b a.length)=some (if BC (EN a b a.length) then List.replicate a.length 0 else EN a b a.length):=fun n hn=>by
  have h1:=Kl (a:=a) (b:=b) (k:=a.length);unfold JV UO;rw [Z2 (by omega) (by omega),zh];cases BC (EN a b a.length)
  ·rfl
  ·rw [zk,zi ⟨rfl,by omega,by omega⟩,zi (by simp),h1];rfl
 have key: ∀ (m k n:Nat),k+m=a.length -> 0<k -> m+301<=n -> Kk a b n (.l2 k (k:Int) (EN a b k))=some (if BC (EN a b a.length) then List.replicate a.length 0 else EN a b a.length,0):=by
  intro m
  induction m with
  | zero=>
   intro k n e _ hn;have e:k=a.length:=by omega
   subst e;obtain ⟨n,rfl⟩: ∃ k,n=k+1:=⟨n-1,by omega⟩
   show Qt n (Kk a b n) a b a.length (a.length:Int) (EN a b a.length)=_
   unfold Qt;rw [ze (by omega),zg,zi Kl.symm,vG n (by omega)];rfl
  | succ m ih=>
   intro k n e hk hn;obtain ⟨n,rfl⟩: ∃ k,n=k+1:=⟨n-1,by omega⟩;have:=ih (k+1) n (by omega) (by omega) (by omega)
   show Qt n (Kk a b n) a b k (k:Int) (EN a b k)=_
   unfold Qt;rw [zn (by omega),zk,zl,zi ⟨⟨by omega,by omega⟩,⟨by omega,by omega⟩,⟨⟨rfl,rfl⟩,⟨rfl,Kl.symm⟩,by rw [Kl,zAH,←L];omega⟩,Aq.2 ⟨by omega,by omega⟩⟩,←qv,Kl];exact this
 refine ⟨a.length+303,fun n hn=>?_⟩;obtain ⟨n,rfl⟩: ∃ k,n=k+1:=⟨n-1,by omega⟩;have e:((a.length:Int) != (b.length:Int))=false:=by rw [hl];simp
 have:=key (a.length-1) 1 n (by omega) (by omega) (by omega)
 show MG (n+1) a b=_
 unfold MG fP;rw [e,zg]
 show Xn n (Kk a b n) a b=_
 unfold Xn;rw [zn (by omega),zk,zi ⟨⟨by omega,by omega⟩,⟨by omega,by omega⟩,⟨rfl,rfl⟩,by rw [zAH];omega,by rw [zAH,←L];omega⟩];exact this
end Go.Proofs.YtgkhhfnhacibcaaGreatDoor
namespace Go.Proofs.YtgkhhfnhacibcaaGreatDoor
open Go.RowKit
section
variable {q:AA} {i:Int} {pos x:List Int}
theorem Xe (x:Int):BitVec.ofInt 64 (IntKind.u64.wrap x)=BitVec.ofInt 64 x:=by
 apply BitVec.eq_of_toNat_eq;rw [zBQ,zBQ,IntKind.wrap_u64]
 congr 1
 omega
theorem li (a:Int) {s:Nat} (hs:s<64) (t:Nat):tb (IntKind.i64.wrap (bits .andNot .u64 (IntKind.u64.wrap a) (IntKind.u64.wrap (1*2 ^ s)))) t=(tb a t&&!decide (s=t)):=by
 rw [Wc]
 have e:tb (bits .andNot .u64 (IntKind.u64.wrap a) (IntKind.u64.wrap (1*2 ^ s))) t=(BitVec.ofInt 64 (IntKind.u64.wrap a)&&& ~~~ BitVec.ofInt 64 (IntKind.u64.wrap (1*2 ^ s))).getLsbD t:=by
  show (BitVec.ofInt 64 (IntKind.u64.wrap ((BitVec.ofInt 64 (IntKind.u64.wrap a)&&& ~~~ BitVec.ofInt 64 (IntKind.u64.wrap (1*2 ^ s))).toNat:Int))).getLsbD t=_
  rw [Xe,Qm]
 rw [e,Xe,Xe,BitVec.getLsbD_and,BitVec.getLsbD_not];rcases zA2 t 64 with h | h
 ·have h2:=NM hs t;rw [Wc] at h2;have h2:(BitVec.ofInt 64 (1*2 ^ s)).getLsbD t=decide (s=t):=h2;rw [h2,zn h,zAG];rfl
 ·have h2:=G3 (x:=a) h;have h3:(BitVec.ofInt 64 a).getLsbD t=tb a t:=rfl;rw [h3,h2];rfl
theorem om (hF:CU q) (hv:Cb q=true) {y:List Int} (hy:posOk q y=true) {j s:Nat} (hj:j<y.length) (hs:s<q.symbols.toNat):
 ∃ z:List Int,z.length=y.length/\ (∀ l,l<y.length -> Bj (z.getD l 0)/\ ∀ t,tb (z.getD l 0) t=(tb (y.getD l 0) t&&!(decide (l=j)&&decide (t=s))))/\ ∀ n,Da q+300<=n -> JL n q y j s=some (if BC z then List.replicate y.length 0 else z,0):=by
 obtain ⟨h1,h2⟩:=(Nn hv).1 hy;obtain ⟨hc,hsy,_⟩:=C1 hv;have L:(1000000000000:Nat)=A6:=rfl;have lb:(256:Nat)<=LB:=by decide
 have sy:((q.symbols.toNat:Nat):Int)=q.symbols:=by omega
 refine ⟨y.set j (IntKind.i64.wrap (bits .andNot .u64 (IntKind.u64.wrap (y.getD j 0)) (IntKind.u64.wrap (1*2 ^ s)))),zAK,fun l hl=>?_,fun n hn=>?_⟩
 ·by_cases e:j=l
  ·subst e;rw [Ju hj];refine ⟨aq _,fun t=>?_⟩;rw [li _ (by omega),zn rfl,zAG]
   congr 2
   rw [decide_eq_decide];exact eq_comm
  ·rw [getD_set_ne e];refine ⟨(h2 l hl).in64 (by omega),fun t=>?_⟩;rw [ze fun h=>e h.symm,zBC];simp
 ·have tz:JQ n q y=some 0:=by
   rw [XU hF (by omega) (by omega) (by omega)];unfold Cc;rw [zi hv,zi hy]
  unfold JL XB Vv aD;rw [tz,zh];simp only [zA1,zAA,zl,zA0];rw [ze (by omega),ze (by omega),ze (by omega),ze (by omega)];simp only [zBd,zg];rw [zi ⟨⟨trivial,⟨trivial,trivial⟩,by rw [←L];omega⟩,⟨by omega,by omega⟩,hj⟩]
  have hw:Sx n (IntKind.u64.wrap (y.getD j 0)) s=some (bits .andNot .u64 (IntKind.u64.wrap (y.getD j 0)) (IntKind.u64.wrap (1*2 ^ s))):=by
   unfold Sx a7;rw [zi ⟨by omega,by show (s:Int)<=((64:Nat):Int);omega⟩,zl]
  rw [hw,zh,zi (by rw [zAK])]
  generalize hz:y.set j (IntKind.i64.wrap (bits .andNot .u64 (IntKind.u64.wrap (y.getD j 0)) (IntKind.u64.wrap (1*2 ^ s))))=z
  have sp:z.length=y.length:=by rw [←hz,zAK]
  have hn:JV n z=some (if BC z then List.replicate y.length 0 else z):=by
   unfold JV UO;rw [Z2 (by omega) (by omega),zh];cases BC z
   ·rfl
   ·rw [zk,zi ⟨rfl,by omega,by omega⟩,zi (by simp),sp];rfl
  rw [hn];rfl
end
end Go.Proofs.YtgkhhfnhacibcaaGreatDoor
namespace Go.Proofs.YtgkhhfnhacibcaaGreatDoor
open Go.RowKit
set_option maxRecDepth 100000
set_option maxHeartbeats 40000000
def fm (n:Nat) (q:AA) (a b_:List Int) (level other:Int):Option Bool:=
 (KT n).bind fun y1=>
  bif (!y1) then
   some false
  else
   (Fj n q a).bind fun y2=>
    bif (!y2) then
     some true
    else
     (Fj n q b_).bind fun y3=>
      bif (!y3) then
       some true
      else
       (DK n q a level).bind fun y4=>
        (DK n q y4.1 level).bind fun y5=>
         (MG n a b_).bind fun y6=>
          (DK n q y6.1 level).bind fun y7=>
           (DK n q a (if other<level then other else level)).bind fun y8=>
            (DK n q a (if other>level then other else level)).bind fun y9=>
             bif (y4.2==0) then
              bif (y5.2==0) then
               bif (y6.2==0) then
                bif (y7.2==0) then
                 bif (y8.2==0) then
                  bif (y9.2==0) then
                   (FM n y4.1 a).bind fun KA=>
                    bif KA then
                     (DR n y4.1 y5.1).bind fun IY=>
                      bif IY then
                       (FM n y7.1 y4.1).bind fun GV=>
                        bif GV then
                         (FM n y9.1 y8.1).bind fun GA=>
                          some GA
                        else
                         some false
                      else
                       some false
                    else
                     some false
                  else
                   some false
                 else
                  some false
                else
                 some false
               else
                some false
              else
               some false
             else
              some false
def X3 (n:Nat) (q:AA) (a b_:List Int) (level other:Int):Option Bool:=fm n q a b_ level other
theorem rZ {n:Nat} {q:AA} {a b_:List Int} {level other:Int} {r:Bool} (h:X3 n q a b_ level other=some r):EQ 4 [.agg 5 (L1 (AD q)),.ints a,.ints b_,.i level,.i other] [] (.bool r) [] true:=by
 unfold X3 fm at h;refine ot Tryz.func4 fun B N=>?_
 revert r;apply gO;exact cf Ws [some (.cells (AD q))] fun _=>bi 25 (lE AE [10] []) (cf Sy [some (.cells (AD q))] fun _=>bi 29 (lE AE [10] []) (cf Sy [some (.cells (AD q))] fun _=>bi 34 (lE AE [10] []) (cf EF [some (.cells (AD q))] fun _=>cf EF [some (.cells (AD q))] fun _=>cf qr [some (.cells (AD q))] fun _=>cf EF [some (.cells (AD q))] fun _=>cf EF [some (.cells (AD q))] fun _=>cf EF [some (.cells (AD q))] fun _=>bi 82 (bi 85 (bi 89 (bi 93 (bi 97 (bi 101 (cf XJ [some (.cells (AD q))] fun _=>bi 107 (cf Hq [some (.cells (AD q))] fun _=>bi 112 (cf XJ [some (.cells (AD q))] fun _=>bi 117 (cf XJ [some (.cells (AD q))] fun _=>lE AE [10] []) (lE AE [10] [])) (lE AE [10] [])) (lE AE [10] [])) (lE AE [10] [])) (lE AE [10] [])) (lE AE [10] [])) (lE AE [10] [])) (lE AE [10] [])) (lE AE [10] []))))
inductive Q5 where
 | l1 (x7 x9 Aj:List Int) (Az:Int)
 | l2 (x7 x9 Aj:List Int) (Az x13 I7 Fg:Int)
def MN (n:Nat) (self:Q5 -> Option Bool) (q:AA) (pos:List Int) (level:Int) (x7 x9 Aj:List Int) (Az:Int):Option Bool:=
 bif (decide (Az<=(x7.length:Int))) then
  bif (decide (Az<(x7.length:Int))) then
   if 0<=Az/\ Az<(x7.length:Int) then
    bif (decide ((x7.getD ((Az).toNat) 0)<0)) then
     some false
    else
     bif (decide ((x7.getD ((Az).toNat) 0)>(q.cons.length:Int))) then
      some false
     else
      bif ((x7.getD ((Az).toNat) 0)==(q.cons.length:Int)) then
       some false
      else
       self (.l2 x7 x9 Aj Az (x7.getD ((Az).toNat) 0) (x7.getD ((Az).toNat) 0) 0)
   else none
  else
   bif (decide ((q.cons.length:Int)<0)) then
    some false
   else
    bif (decide ((q.cons.length:Int)>(q.cons.length:Int))) then
     some false
    else
     self (.l2 x7 x9 Aj Az (q.cons.length:Int) (q.cons.length:Int) 0)
 else
  (DR n Aj x9).bind fun y1=>
   some y1
def MM (n:Nat) (self:Q5 -> Option Bool) (q:AA) (pos:List Int) (level:Int) (x7 x9 Aj:List Int) (Az x13 I7 Fg:Int):Option Bool:=
 bif (decide (Fg<I7)) then
  (Hu n q Fg Aj).bind fun y1=>
   bif (y1.2 != 0) then
    some false
   else
    if 0<=Fg/\ Fg<(q.cons.length:Int) then
     (Pa n (q.cons.getD ((Fg).toNat) default) level).bind fun y2=>
      bif y2 then
       (DR n Aj y1.1).bind fun y3=>
        bif (!y3) then
         some false
        else
         if AH (Fg+1) then
          self (.l2 x7 x9 Aj Az x13 I7 (Fg+1))
         else none
      else
       if AH (Fg+1) then
        self (.l2 x7 x9 Aj Az x13 I7 (Fg+1))
       else none
    else none
 else
  bif (decide (Az<(x7.length:Int))) then
   (Hu n q x13 Aj).bind fun y1=>
    bif (y1.2 != 0) then
     some false
    else
     (DR n Aj y1.1).bind fun y2=>
      bif y2 then
       some false
      else
       if 0<=x13/\ x13<(q.cons.length:Int) then
        (Pa n (q.cons.getD ((x13).toNat) default) level).bind fun y3=>
         bif (!y3) then
          some false
         else
          if AH (Az+1) then
           self (.l1 x7 x9 y1.1 (Az+1))
          else none
       else none
  else
   if AH (Az+1) then
    self (.l1 x7 x9 Aj (Az+1))
   else none
def rT (n:Nat) (self:Q5 -> Option Bool) (q:AA) (pos:List Int) (level:Int):Option Bool:=
 (KT n).bind fun y1=>
  bif (!y1) then
   some false
  else
   (Fj n q pos).bind fun y2=>
    bif (!y2) then
     some true
    else
     (Nr n q pos level).bind fun y3=>
      (DK n q pos level).bind fun y4=>
       bif (y3.2 != 0) then
        some false
       else
        bif (y4.2 != 0) then
         some false
        else
         (QO n pos).bind fun y5=>
          self (.l1 y3.1 y4.1 y5 0)
def FT (q:AA) (pos:List Int) (level:Int):Nat -> Q5 -> Option Bool
 | 0,_=>none
 | n+1,.l1 x7 x9 Aj Az=>MN n (FT q pos level n) q pos level x7 x9 Aj Az
 | n+1,.l2 x7 x9 Aj Az x13 I7 Fg=>MM n (FT q pos level n) q pos level x7 x9 Aj Az x13 I7 Fg
def fk (n:Nat) (q:AA) (pos:List Int) (level:Int):Option Bool:=rT n (FT q pos level n) q pos level
def rU (n B:Nat) (N:Yd 0) (q:AA) (pos:List Int) (level:Int) (r:Bool):Q5 -> Prop
 | .l1 x7 x9 Aj Az=>∀ m0:Nat,n<=m0 -> TW B N (FQ Tryz.f3 0 (.bool r) []) (Ak m0 (Ap (Aa Tryz.f3) 0 [])) ⟨AL 147 [(2,.i level),(3,.ref 0 0),(7,.ints x7),(9,.ints x9),(11,.ints Aj),(12,.i Az)],[some (.cells (AD q))]⟩
 | .l2 x7 x9 Aj Az x13 I7 Fg=>∀ m0 m1:Nat,n<=m0 -> n<=m1 -> TW B N (FQ Tryz.f3 0 (.bool r) []) (Ak m1 (Ap (Aa Tryz.f3) 2 [m0])) ⟨AL 147 [(2,.i level),(3,.ref 0 0),(7,.ints x7),(9,.ints x9),(11,.ints Aj),(12,.i Az),(13,.i x13),(86,.i I7),(87,.i Fg)],[some (.cells (AD q))]⟩
theorem rV (B:Nat) (N:Yd 0) (q:AA) (pos:List Int) (level:Int):Al (FT q pos level) (rU · B N q pos level):=ia (fun _=>rfl) fun n AF pt r h=>by
 cases pt
 case l1 x7 x9 Aj Az=>
  intro m0 AC;refine rd AC fun m0 AC=>?_
  revert r;apply gO;exact bi 50 (bj 59 (fun c1=>gi (bi 65 (lE AE [6] []) (bi 71 (lE AE [6] []) (jb 77 c1 (bi 83 (lE AE [6] []) (lN AE [0] (AF _ _ · m0 n AC Nat.le.refl))))))) (fun c1=>bi 65 (lE AE [6] []) (bi 71 (lE AE [6] []) (jb 77 c1 (lN AE [0] (AF _ _ · m0 n AC Nat.le.refl)))))) (cf Hq [some (.cells (AD q))] fun _=>lE AE [6] [])
 case l2 x7 x9 Aj Az x13 I7 Fg=>
  intro m0 m1 AC Ag;have AC:=zAc AC;refine rd Ag fun m1 Ag=>?_
  revert r;apply gO;exact bi 88 (cf T0 [some (.cells (AD q))] fun _=>bi 98 (lE AE [6] []) (gi (cf bM [some (.cells (AD q))] fun _=>bi 106 (cf Hq [some (.cells (AD q))] fun _=>bi 111 (lE AE [6] []) (gw 114 (lG AE [0] (AF _ _ · m0 m1 AC Ag)))) (gw 114 (lG AE [0] (AF _ _ · m0 m1 AC Ag)))))) (bi 118 (cf T0 [some (.cells (AD q))] fun _=>bi 127 (lE AE [6] []) (cf Hq [some (.cells (AD q))] fun _=>bi 131 (lE AE [6] []) (gi (cf bM [some (.cells (AD q))] fun _=>bi 141 (lE AE [6] []) (gw 52 (lG AE [0] (AF _ _ · m0 AC))))))) (gw 52 (lG AE [0] (AF _ _ · m0 AC))))
theorem rS {n:Nat} {q:AA} {pos:List Int} {level:Int} {r:Bool} (h:fk n q pos level=some r):EQ 3 [.agg 5 (L1 (AD q)),.ints pos,.i level] [] (.bool r) [] true:=by
 refine ot Tryz.func3 fun B N=>?_
 revert r;apply gO;exact cf Ws [some (.cells (AD q))] fun _=>bi 20 (lE AE [6] []) (cf Sy [some (.cells (AD q))] fun _=>bi 24 (lE AE [6] []) (cf L2 [some (.cells (AD q))] fun _=>cf EF [some (.cells (AD q))] fun _=>bi 40 (lE AE [6] []) (bi 43 (lE AE [6] []) (cf pS [some (.cells (AD q))] fun _=>lN AE [0] ((rV B N q pos level n) _ _ · n Nat.le.refl)))))
theorem nS:An (A8 Tryz.f5 5) [] (List.range 16) []:=by unfold An;kernel_rfl
def NW:BV:=fun i=>match i with
 | 5=>.ord [] (List.range 16) []
 | _=>.no
def fl (n:Nat) (q:AA) (pos:List Int) (cell Ck level:Int):Option Bool:=
 (KT n).bind fun y1=>
  bif (!y1) then
   some false
  else
   (Fj n q pos).bind fun y2=>
    bif (!y2) then
     some true
    else
     if (IntKind.u64.wrap q.cells)≠0/\ (IntKind.u64.wrap q.symbols)≠0 then
      (JL n q pos (IntKind.i64.wrap (Int.tmod (IntKind.u64.wrap cell) (IntKind.u64.wrap q.cells))) (IntKind.i64.wrap (Int.tmod (IntKind.u64.wrap Ck) (IntKind.u64.wrap q.symbols)))).bind fun y3=>
       (DK n q y3.1 level).bind fun y4=>
        (DK n q pos level).bind fun y5=>
         (JL n q y5.1 (IntKind.i64.wrap (Int.tmod (IntKind.u64.wrap cell) (IntKind.u64.wrap q.cells))) (IntKind.i64.wrap (Int.tmod (IntKind.u64.wrap Ck) (IntKind.u64.wrap q.symbols)))).bind fun y6=>
          (NA n q y6.1 ([IntKind.i64.wrap (Int.tmod (IntKind.u64.wrap cell) (IntKind.u64.wrap q.cells))]:List Int) level).bind fun y7=>
           bif (y3.2==0) then
            bif (y4.2==0) then
             bif (y5.2==0) then
              bif (y6.2==0) then
               bif (y7.2==0) then
                (DR n y4.1 y7.1).bind fun y8=>
                 some y8
               else
                some false
              else
               some false
             else
              some false
            else
             some false
           else
            some false
     else none
def X2 (n:Nat) (q:AA) (pos:List Int) (cell Ck level:Int):Option Bool:=fl n q pos cell Ck level
theorem rX {n:Nat} {q:AA} {pos:List Int} {cell Ck level:Int} {r:Bool} (h:X2 n q pos cell Ck level=some r):EQ 5 [.agg 5 (L1 (AD q)),.ints pos,.i cell,.i Ck,.i level] [] (.bool r) [] true:=by
 unfold X2 fl at h;refine ot Tryz.func5 fun B N=>?_
 revert r;apply gO;exact cf Ws [some (.cells (AD q))] fun _=>bi 24 (lE AE [10] []) (cf Sy [some (.cells (AD q))] fun _=>bi 28 (lE AE [10] []) (jg nS (gc (gi (gi (cf db [some (.cells (AD q))] fun _=>cf EF [some (.cells (AD q))] fun _=>cf EF [some (.cells (AD q))] fun _=>cf db [some (.cells (AD q))] fun _=>jz 77 1 (jg (Eq.refl 1) (cf Sr [some (.cells (AD q)),none] fun _=>bi 83 (bi 86 (bi 90 (bi 94 (bi 98 (cf Hq [some (.cells (AD q)),none] fun _=>lE NW [10] []) (lE NW [10] [])) (lE NW [10] [])) (lE NW [10] [])) (lE NW [10] [])) (lE NW [10] [])))))))))
end Go.Proofs.YtgkhhfnhacibcaaGreatDoor
namespace Go.Proofs.YtgkhhfnhacibcaaGreatDoor
open Go.RowKit
section
variable {q:AA} {a b x y p:List Int} {level other:Int}
theorem lK {n:Nat -> Option Bool} {f:Nat -> Option Bool} (h: ∀ m,n m=(Fj m q p).bind fun y2=>bif (!y2) then some true else f m) (hF:CU q) (hl:p.length<=LB) (hf:Ai q p -> Ev f true):Ev n true:=by
 obtain ⟨N2,h2⟩:=bI hF hl
 have hf: ∃ N,∀ m,N<=m -> Ai q p -> f m=some true:=by
  by_cases hp:Ai q p
  ·obtain ⟨N,h⟩:=hf hp;exact ⟨N,fun m hm _=>h m hm⟩
  ·exact ⟨0,fun m _ h=>absurd h hp⟩
 obtain ⟨N3,h3⟩:=hf;refine ⟨max N2 N3,fun m hm=>?_⟩;obtain ⟨b,hb,ZY⟩:=h2 m (by omega);have hb:Fj m q p=some b:=hb;rw [h m,hb,zh];cases b with
 | false=>rfl
 | true=>exact h3 m (by omega) (ZY rfl)
theorem Ai.le_within (hx:Ai q x) (hy:Ai q y) (h:Le x y):Ev (fun n=>FM n x y) true:=lD (hx.eqlen hy).symm hx.len256.2 hx.in64 h
theorem TO (hx:Ai q x):Ev (fun n=>DR n x x) true:=⟨x.length+1,fun n hn=>by
 show DR n x x=_
 rw [cm (zt hx.len256.2 (by decide)) (by omega),zn rfl]⟩
theorem Ai.sub (ha:Ai q a) {m:List Int} (hl:m.length=a.length) (hi: ∀ j,Bj (m.getD j 0)) (h:Le m a):Ai q m:=by
 refine ⟨ha.fit,ha.valid,(Nn ha.valid).2 ⟨by rw [hl];exact ha.len,fun j hj=>?_⟩⟩;refine cV (by have:=ha.k;omega) (hi j) fun s hs _=>?_
 cases e:tb (m.getD j 0) s with
 | false=>rfl
 | true=>
  have:=h _ _ e;rw [(ha.sm j (by omega)).hi hs] at this;cases this
theorem qp (ha:Ai q a) (hb:Ai q b): ∃ m,Ev (fun n=>MG n a b) (m,0)/\ Ai q m/\ Le m a:=by
 have e:=hb.eqlen ha
 have Bx:Le (EN a b a.length) a:=fun j s hs=>by
  by_cases hj:j<a.length
  ·rw [fQ hj,Hg,zm] at hs;exact hs.1
  ·rw [u8,zAM (by rw [Kl];omega)] at hs;exact absurd hs Fk
 have hm:Ai q (EN a b a.length):=ha.sub Kl (fun j=>by
  by_cases hj:j<a.length
  ·rw [fQ hj];exact F5 _ _ _
  ·rw [u8,zAM (by rw [Kl];omega)];exact ⟨by decide,by decide⟩) Bx
 refine ⟨_,qq e ha.len256.1 ha.len256.2,?_,?_⟩
 ·split
  ·exact ha.zero
  ·exact hm
 ·split
  ·exact PK _ _
  ·exact Bx
theorem rY (q:AA) (a b:List Int) (level other:Int) (hF:CU q) (vW:a.length<=LB) (OT:b.length<=LB):Ev (fun n=>X3 n q a b level other) true:=by
 refine WP (q:=q) (pos:=a) (f:=fun n=>(Fj n q b).bind fun y3=>bif (!y3) then some true else
  (DK n q a level).bind fun y4=>(DK n q y4.1 level).bind fun y5=>(MG n a b).bind fun y6=>(DK n q y6.1 level).bind fun y7=>(DK n q a (if other<level then other else level)).bind fun y8=>(DK n q a (if other>level then other else level)).bind fun y9=>
   bif (y4.2==0) then bif (y5.2==0) then bif (y6.2==0) then bif (y7.2==0) then bif (y8.2==0) then bif (y9.2==0) then
    (FM n y4.1 a).bind fun KA=>bif KA then (DR n y4.1 y5.1).bind fun IY=>bif IY then (FM n y7.1 y4.1).bind fun GV=>bif GV then (FM n y9.1 y8.1).bind fun GA=>some GA else some false else some false else some false
    else some false else some false else some false else some false else some false else some false) (fun n=>rfl) hF vW fun ha=>?_
 refine lK (fun n=>rfl) hF OT fun hb=>?_
 obtain ⟨x,x1,x2,x3⟩:=LL (level:=level) ha;obtain ⟨y,y1,y2,y3⟩:=LL (level:=level) x3;obtain ⟨m,m1,m2,m3⟩:=qp ha hb;obtain ⟨z,z1,z2,z3⟩:=LL (level:=level) m2;obtain ⟨l,l1,l2,l3⟩:=LL (level:=if other<level then other else level) ha;obtain ⟨h,h1,h2,h3⟩:=LL (level:=if other>level then other else level) ha;have e:y=x:=Ce.uniq x3 y2 (x2.self ha);subst e;refine Ev.bind x1 (Ev.bind y1 (Ev.bind m1 (Ev.bind z1 (Ev.bind l1 (Ev.bind h1 ?_)))))
 refine Ev.eq (Ev.bind (x3.le_within ha x2.le) (b:=fun n KA=>bif KA then (DR n y y).bind fun IY=>bif IY then (FM n z y).bind fun GV=>bif GV then (FM n h l).bind fun GA=>some GA else some false else some false else some false)
  (Ev.bind (TO x3) (b:=fun n IY=>bif IY then (FM n z y).bind fun GV=>bif GV then (FM n h l).bind fun GA=>some GA else some false else some false)
   (Ev.bind (z3.le_within x3 (Ce.mono ha m2 m3 (zAo _) x2 z2)) (b:=fun n GV=>bif GV then (FM n h l).bind fun GA=>some GA else some false)
    (Ev.bind (h3.le_within l3 (Ce.mono ha ha (Le.refl _) (by split <;> split <;> omega) l2 h2)) (b:=fun n GA=>some GA) (Ev.now fun n=>rfl))))) (fun n=>rfl)
theorem dc (hp:Ai q p) {j s:Nat} (hj:j<p.length) (hs:s<q.symbols.toNat): ∃ z,Ev (fun n=>JL n q p j s) (z,0)/\ Ai q z/\ Le z p/\ tb (z.getD j 0) s=false/\
 ∀ w,Ai q w -> Le w p -> tb (w.getD j 0) s=false -> (BC w=true -> w=List.replicate w.length 0) -> Le w z:=by
 obtain ⟨z,z1,z2,z3⟩:=om hp.fit hp.valid hp.ok hj hs
 have Bx:Le z p:=fun l t h=>by
  by_cases hl:l<p.length
  ·rw [(z2 l hl).2,zm] at h;exact h.1
  ·rw [u8,zAM (by omega)] at h;exact absurd h Fk
 have hz:Ai q z:=hp.sub z1 (fun l=>by
  by_cases hl:l<p.length
  ·exact (z2 l hl).1
  ·rw [u8,zAM (by omega)];exact ⟨by decide,by decide⟩) Bx
 refine ⟨_,⟨Da q+300,z3⟩,?_,?_,?_,fun w hw tC OG tD=>?_⟩
 ·split
  ·exact hp.zero
  ·exact hz
 ·split
  ·exact PK _ _
  ·exact Bx
 ·split
  ·rw [iq];cases e:tb 0 s with
   | false=>rfl
   | true=>exact absurd e Fk
  ·rw [(z2 j hj).2,zn rfl,zn rfl];simp
 ·have gM:Le w z:=fun l t h=>by
   have hl:l<p.length:=by
    refine zAh fun Bx=>?_
    rw [u8,zAM (by rw [hp.eqlen hw];exact Bx)] at h;exact absurd h Fk
   rw [(z2 l hl).2,tC _ _ h,zAG];cases e:(decide (l=j)&&decide (t=s)) with
   | false=>rfl
   | true=>
    rw [zm,zv,zv] at e;obtain ⟨rfl,rfl⟩:=e;rw [OG] at h;cases h
  split
  ·rename_i hd;have ZS:=Le.dead hz hw gM hd;rw [tD ZS];exact PK _ _
  ·exact gM
theorem Ce.zero (hp:Ai q p) {g:List Int} (h:Ce q level p g):BC g=true -> g=List.replicate g.length 0:=fun hd=>by
 rcases h with ⟨_,rfl⟩ | ⟨h1,h2,_⟩
 ·rw [zx]
 ·exact h2.zero (fun h=>by rw [h1] at h;cases h) hd
theorem fN {c m:Int} (h0:0<m) (h1:m<=4096): ∃ j:Nat,IntKind.i64.wrap (Int.tmod (IntKind.u64.wrap c) (IntKind.u64.wrap m))=(j:Int)/\ (j:Int)<m:=by
 have e:IntKind.u64.wrap m=m:=by
  show m % 18446744073709551616=m
  exact Int.emod_eq_of_lt (by omega) (by omega)
 have hc:0<=IntKind.u64.wrap c:=Int.emod_nonneg _ (by decide);have a1:=Int.tmod_nonneg m hc;have a2:=Int.tmod_lt_of_pos (IntKind.u64.wrap c) h0;refine ⟨(Int.tmod (IntKind.u64.wrap c) m).toNat,?_,by omega⟩;rw [e,zCW];omega
theorem rW (q:AA) (pos:List Int) (cell Ck level:Int) (hF:CU q) (hl:pos.length<=LB):Ev (fun n=>X2 n q pos cell Ck level) true:=by
 refine WP (q:=q) (pos:=pos) (f:=fun n=>if (IntKind.u64.wrap q.cells)≠0/\ (IntKind.u64.wrap q.symbols)≠0 then
  (JL n q pos (IntKind.i64.wrap (Int.tmod (IntKind.u64.wrap cell) (IntKind.u64.wrap q.cells))) (IntKind.i64.wrap (Int.tmod (IntKind.u64.wrap Ck) (IntKind.u64.wrap q.symbols)))).bind fun y3=>
   (DK n q y3.1 level).bind fun y4=>(DK n q pos level).bind fun y5=>
    (JL n q y5.1 (IntKind.i64.wrap (Int.tmod (IntKind.u64.wrap cell) (IntKind.u64.wrap q.cells))) (IntKind.i64.wrap (Int.tmod (IntKind.u64.wrap Ck) (IntKind.u64.wrap q.symbols)))).bind fun y6=>
     (NA n q y6.1 ([IntKind.i64.wrap (Int.tmod (IntKind.u64.wrap cell) (IntKind.u64.wrap q.cells))]:List Int) level).bind fun y7=>
      bif (y3.2==0) then bif (y4.2==0) then bif (y5.2==0) then bif (y6.2==0) then bif (y7.2==0) then (DR n y4.1 y7.1).bind fun y8=>some y8 else some false else some false else some false else some false else some false
  else none) (fun n=>rfl) hF hl fun hp=>?_
 obtain ⟨Rj,CK,_⟩:=C1 hp.valid
 have uw: ∀ m:Int,0<m -> m<=4096 -> IntKind.u64.wrap m≠0:=fun m h0 h1 e=>by
  have:m % 18446744073709551616=m:=Int.emod_eq_of_lt (by omega) (by omega);have e:m % 18446744073709551616=0:=e;omega
 obtain ⟨j,ej,hj⟩:=fN (c:=cell) (m:=q.cells) (by omega) (by omega);obtain ⟨s,es,hs⟩:=fN (c:=Ck) (m:=q.symbols) (by omega) (by omega);have Af:=hp.len;refine Ev.eq ?_ (fun n=>zi ⟨uw _ (by omega) (by omega),uw _ (by omega) (by omega)⟩);rw [ej,es];obtain ⟨x,x1,x2,x3,x4,x5⟩:=dc hp (j:=j) (s:=s) (by omega) (by omega);obtain ⟨a,a1,a2,a3⟩:=LL (level:=level) x2;obtain ⟨b,b1,b2,b3⟩:=LL (level:=level) hp;have hbl:=b3.len;obtain ⟨y,y1,y2,y3,y4,y5⟩:=dc b3 (j:=j) (s:=s) (by omega) (by omega);obtain ⟨d,d1,d2⟩:=kT (level:=level) (cells:=[(j:Int)]) hF (pos:=y) (zt y2.len256.2 (by decide)) (by rw [zAH];decide)
 have hd:d.2=0/\ Ce q level y d.1:=by
  rcases d2 with ⟨h,_⟩ | ⟨_,h,_⟩ | ⟨_,_,h,h'⟩
  ·exact absurd y2.check h
  ·unfold Qi at h;simp only [List.any_cons,List.any_nil,zBD,zAE,zv] at h;omega
  ·exact ⟨h,h'⟩
 obtain ⟨d,e⟩:=d;obtain ⟨rfl,hd⟩:=hd;have hd:Ce q level y d:=hd;have dp:=hd.pos y2
 have e:a=d:=by
  refine Le.eq a3 dp ?_ ?_
  ·--bC is left first is below WY other
   have GN:Le a b:=Ce.mono hp x2 x3 (zAo _) b2 a2
   have wE:Le a y:=y5 a a3 GN (by
    cases e:tb (a.getD j 0) s with
    | false=>rfl
    | true=>
     have:=a2.le _ _ e;rw [x4] at this;cases this) (a2.zero x2)
   exact Ce.mono y2 a3 wE (zAo _) hd (a2.self x2)
  ·have su:Le d x:=x5 d dp ((hd.le.trans y3).trans b2.le) (by
    cases e:tb (d.getD j 0) s with
    | false=>rfl
    | true=>
     have:=hd.le _ _ e;rw [y4] at this;cases this) (hd.zero y2)
   exact Ce.mono x2 dp su (zAo _) a2 (hd.self y2)
 subst e;refine Ev.bind x1 (Ev.bind a1 (Ev.bind b1 (Ev.bind y1 (Ev.bind d1 ?_))));exact Ev.eq (Ev.bind (TO a3) (b:=fun n y8=>some y8) (Ev.now fun n=>rfl)) (fun n=>rfl)
end
end Go.Proofs.YtgkhhfnhacibcaaGreatDoor
namespace Go.Proofs.YtgkhhfnhacibcaaGreatDoor
open Go.RowKit
section
variable {q:AA} {pos x w l p:List Int} {level:Int}
theorem ma (hx:Ai q x) {y:List Int} (h:x≠y):Ev (fun n=>DR n x y) false:=⟨x.length+1,fun n hn=>by
 show DR n x y=_
 rw [cm (zt hx.len256.2 (by decide)) (by omega),ze h]⟩
theorem Wj (hx:Ai q x) {k last:Int} (h1:last<=(q.cons.length:Int)) (H: ∀ i,Up q level i -> i<last -> PR q (con q i) x x) (rest:Ev (fun n=>FT q pos level n (.l2 l w x k last last last)) true): ∀ (m j:Nat),(j:Int)+m=last -> Ev (fun n=>FT q pos level n (.l2 l w x k last last (j:Int))) true
 | 0,j,e=>by
  have:(j:Int)=last:=by omega
  rw [this];exact rest
 | m+1,j,e=>by
  have BL:q.cons.length<=4096:=by have:=(C1 hx.valid);omega
  have ih:=Wj hx h1 H rest m (j+1) (by omega);have hr:AH ((j:Int)+1):=Aq.2 ⟨by omega,by omega⟩;have C:=hx.ctx (i:=(j:Int)) (by omega) (by omega);obtain ⟨y,⟨N,y1⟩,y2⟩:=Tz C;obtain ⟨M,hs⟩:=TO hx;refine BD.ev (BD.oneN (max N M) fun n hn=>?_) ih;have e1:Hu n q (j:Int) x=some (y,0):=y1 n (by omega)
  show MM n (FT q pos level n) q pos level l w x k last last (j:Int)=_
  unfold MM;rw [zn (by omega),zk,e1,zh]
  show (bif ((0:Int) != 0) then _ else _)=_
  rw [zBd,zg,zi ⟨by omega,by omega⟩,bO,zh]
  by_cases hl:FP (q.cons.getD (j:Int).toNat default).kind<=level
  ·have:y=x:=PR.uniq _ _ y2 (H _ ⟨by omega,by omega,hl⟩ (by omega));subst this;rw [zn hl,zk,show DR n y y=some true from hs n (by omega),zh,zAW,zg,zi hr];rfl
  ·rw [ze hl,zg,zi hr];rfl
theorem cM: ∀ (m k:Nat) {x:List Int},k+m=l.length -> l.length<=20000 -> Ai q x -> Gw q level x (l.drop k) w -> Ev (fun n=>FT q pos level n (.l1 l w x (k:Int))) true
 | 0,k,x,e,hl,hx,ho=>by
  have BL:q.cons.length<=4096:=by have:=(C1 hx.valid);omega
  have hd:l.drop k= []:=zAj (by omega);rw [hd] at ho;cases ho with
  | done hf=>
   have last:Ev (fun n=>FT q pos level n (.l1 l w w (((k+1:Nat):Int)))) true:=by
    obtain ⟨M,hs⟩:=TO hx;refine Ev.oneN M fun n hn=>?_
    show MN n (FT q pos level n) q pos level l w w ((k+1:Nat):Int)=_
    unfold MN;rw [ze (by omega),zg,show DR n w w=some true from hs n hn];rfl
   refine BD.ev (BD.one fun n=>?_) (Wj (l:=l) (w:=w) (k:=(k:Int)) hx (zAo _) (fun i hi _=>hf i hi) ?_ q.cons.length 0 (by omega))
   ·show MN n (FT q pos level n) q pos level l w w (k:Int)=_
    unfold MN;rw [zn (by omega),zk,ze (by omega),zg,ze (by omega),zg,ze (by omega),zg];rfl
   ·refine BD.ev (BD.one fun n=>?_) last
    show MM n (FT q pos level n) q pos level l w w (k:Int) (q.cons.length:Int) (q.cons.length:Int) (q.cons.length:Int)=_
    unfold MM;rw [ze (by omega),zg,ze (by omega),zg,zi (Aq.2 ⟨by omega,by omega⟩),show ((k+1:Nat):Int)=(k:Int)+1 by omega]
 | m+1,k,x,e,hl,hx,ho=>by
  have BL:q.cons.length<=4096:=by have:=(C1 hx.valid);omega
  have hk:k<l.length:=by omega
  have hd:l.drop k=l.getD k 0::l.drop (k+1):=by
   rw [zAD hk,u8,zf hk];rfl
  rw [hd] at ho
  generalize hi:l.getD k 0=i at ho
  cases ho with
  | step hU hP AQ hb ho=>
   rename_i y;obtain ⟨h0,h1,h2⟩:=hU;have hy:=hx.pr h0 h1 hP;have ih:=cM m (k+1) (x:=y) (by omega) hl hy ho;have hr:AH ((k:Int)+1):=Aq.2 ⟨by omega,by omega⟩;refine BD.ev (BD.one fun n=>?_) (Wj (l:=l) (w:=w) (k:=(k:Int)) (last:=i) hx (by omega) hb ?_ i.toNat 0 (by omega))
   ·show MN n (FT q pos level n) q pos level l w x (k:Int)=_
    unfold MN;rw [zn (by omega),zk,zn (by omega),zk,zi ⟨by omega,by omega⟩,zl,hi,ze (by omega),zg,ze (by omega),zg,show (i==(q.cons.length:Int))=false by rw [zAk];omega,zg];rfl
   ·obtain ⟨y',⟨N,y1⟩,y2⟩:=Tz (hx.ctx h0 h1);have:y'=y:=PR.uniq _ _ y2 hP;subst this;obtain ⟨M,hs⟩:=ma hx (fun e=>AQ e.symm);refine BD.ev (BD.oneN (max N M) fun n hn=>?_) ih
    show MM n (FT q pos level n) q pos level l w x (k:Int) i i i=_
    unfold MM;rw [ze (by omega),zg,zn (by omega),zk,show Hu n q i x=some (y',0) from y1 n (by omega),zh]
    show (bif ((0:Int) != 0) then _ else _)=_
    rw [zBd,zg,show DR n x y'=some false from hs n (by omega),zh,zg,zi ⟨h0,h1⟩,bO,zh,show decide (FP (q.cons.getD i.toNat default).kind<=level)=true from zn h2,zAW,zg,zi hr,show ((k+1:Nat):Int)=(k:Int)+1 by omega]
theorem rR (q:AA) (pos:List Int) (level:Int) (hF:CU q) (hl:pos.length<=LB):Ev (fun n=>fk n q pos level) true:=by
 refine WP (q:=q) (pos:=pos) (f:=fun n=>(Nr n q pos level).bind fun y3=>(DK n q pos level).bind fun y4=>bif (y3.2 != 0) then some false else bif (y4.2 != 0) then some false else
  (QO n pos).bind fun y5=>FT q pos level n (.l1 y3.1 y4.1 y5 0)) (fun n=>rfl) hF hl fun hp=>?_
 obtain ⟨g,a1,hE,hg⟩:=LL (level:=level) hp;obtain ⟨⟨l,e⟩,o1,o2⟩:=qL (level:=level) hF hl;obtain ⟨d1,d2⟩:=hE.nrm hp
 have key:e=0/\ l.length<=20000/\ Gw q level (nrm pos) l g:=by
  unfold nrm at d1 ⊢;rcases o2 with ⟨h,_⟩ | ⟨_,h,h'⟩ | ⟨_,h1,h2,h3,g',h4⟩
  ·exact absurd hp.check h
  ·cases h';rw [zi h] at d1 ⊢
   have:g=List.replicate pos.length 0:=by
    rcases hE with ⟨_,h⟩ | ⟨h2,_⟩
    ·exact h
    ·rw [h] at h2;cases h2
   subst this;exact ⟨rfl,zBT _,.done (VU hp.len256.1)⟩
  ·have h0: ¬ BC pos=true:=by rw [h1];exact fun h=>by cases h
   rw [zr h0] at d1 ⊢;obtain ⟨k1,k2⟩:=h4.down;have:g'=g:=Cf.uniq PW hp k1 d1 k2 d2;subst this;exact ⟨h2,h3,h4⟩
 obtain ⟨rfl,h3,h4⟩:=key;refine Ev.bind o1 (Ev.bind a1 ?_);exact Ev.eq (Ev.bind (qd hp) (b:=fun n y5=>FT q pos level n (.l1 l g y5 0)) (cM l.length 0 (by omega) h3 hp.nrm (by rw [zCP];exact h4))) (fun n=>rfl)
end
end Go.Proofs.YtgkhhfnhacibcaaGreatDoor
namespace Go.Proofs.YtgkhhfnhacibcaaGreatDoor
abbrev zBp:=@Nat.zero_lt_one
end Go.Proofs.YtgkhhfnhacibcaaGreatDoor
namespace Go.Proofs.YtgkhhfnhacibcaaGreatDoor
open Go.ChangeShapes Go.WideShapes Go.ChangeAt Go.RowKit
def J7 (w:World) (cs:List Value) (l:List DV):Prop:=cs.length=l.length/\ ∀ j,j<l.length -> AJ (fun _=>False) w (l.getD j .any) [] (cs.getD j undef)
def Rd (P:Program) (t:TypeId) (m:Nat) {α:Type} (c:α -> List DV):Prop:=(∀ x,(c x).length=m)/\ P.cellsOf t=m/\ ∀ {H:Type} (enc:TypeId×Value -> H) (w:World) (Dp:Nat) (cs:List Value) (x:DataW H×List MemPlace),DataW.trod enc P w 0 (fun _=>true) true Dp t cs=some x -> (∀ n∈x.1.weights P t,n<=reachBytes) -> ∃ y:α,J7 w cs (c y)
theorem bD {H:Type} {P:Program} {e:TypeId}: ∀ {l:List (DataW H)} {d:DataW H} {n:Nat},d∈l -> n∈d.weights P e -> n∈DataW.weightsAll P e l
 | [],_,_,h,_=>by cases h
 | a::l,d,n,h,hn=>by
  unfold DataW.weightsAll;rcases z8.1 h with rfl | h
  ·exact zAS _ hn
  ·exact zAd _ (bD h hn)
section
variable {P:Program} {t e:TypeId} {m:Nat}
theorem J7.one {w:World} {v:Value} {d:DV} (h:AJ (fun _=>False) w d [] v):J7 w [v] [d]:=⟨rfl,fun j hj=>by
 have:j=0:=by simpa using hj
 subst this;exact h⟩
theorem J7.app {w:World} {cs Dq:List Value} {l l':List DV} (h:J7 w cs l) (h':J7 w Dq l'):J7 w (cs++Dq) (l++l'):=by
 refine ⟨by simp [h.1,h'.1],fun j hj=>?_⟩;rcases zA2 j l.length with hl | hl
 ·have:=h.2 j hl;have hc:j<cs.length:=by rw [h.1];exact hl
  simp only [u8] at this ⊢;rw [zAC hl,zAC hc];exact this
 ·have:=h'.2 (j-l.length) (by simp at hj;omega);simp only [u8] at this ⊢;rw [zAN hl,zAN (by rw [h.1];exact hl),h.1];exact this
theorem Rd.int {k:IntKind} (ht:P.underlying t=some (.int k)) (hc:P.cellsOf t=1):Rd P t 1 (fun n:Int=>[.int k n]):=⟨fun _=>rfl,hc,fun enc w Dp cs x h hw=>by
 obtain ⟨n,rfl,_⟩:=DataW.trod_int ht h;exact ⟨n,.one rfl⟩⟩
theorem js {w:World} {a:Addr} {n:Nat} {cs:List Value} (h:w.cells? 0 a n=some cs):cs.length=n/\ ∀ j,j<n -> w.cell? (a.add j)=some (cs.getD j undef):=by
 unfold World.cells? at h;rw [zi (zBT _)] at h;have hl:cs.length=n:=by simpa using Lib.mapM_length h
 refine ⟨hl,fun j hj=>?_⟩;obtain ⟨b,h1,h2⟩:=Lib.mapM_at h j j (by simp [hj]);rw [h2,u8,h1];rfl
theorem zN {w:World} {a:Addr} {v:Value} (h:w.cell? a=some v): ∃ b o,a=⟨b,o,none⟩:=by
 obtain ⟨b,o,r⟩:=a;cases r with
 | none=>exact ⟨b,o,rfl⟩
 | some r=>
  unfold World.cell? at h;split at h
  ·simp at h
  ·cases h
theorem kW (b o x:Nat):(⟨b,o,none⟩:Addr).add x=⟨b,o+x,none⟩:=by
 unfold Addr.add;split
 ·rename_i e;subst e;rfl
 ·rfl
theorem Rd.row {α:Type} [Inhabited α] {c:α -> List DV} (ht:P.underlying t=some (.slice e)) (hb:0<P.bytesOf e) (hm:0<m) (he:Rd P e m c) {H:Type} (enc:TypeId×Value -> H) (w:World) (Dp:Nat) (cs:List Value) (x:DataW H×List MemPlace) (h:DataW.trod enc P w 0 (fun _=>true) true Dp t cs=some x) (hw: ∀ n∈x.1.weights P t,n<=reachBytes):
 ∃ (L:List α) (a:Option Addr) (cap:Nat),cs= [.slice a L.length cap]/\ L.length<=cap/\ L.length<=LB/\ ∀ i j,i<L.length -> j<m -> ∃ b o u,a=some ⟨b,o,none⟩/\ w.cell? ⟨b,o+(i*m+j),none⟩=some u/\ AJ (fun _=>False) w ((c (L.getD i default)).getD j .any) [] u:=by
 rcases Deep.open_slice ht h with ⟨rfl,_⟩ | ⟨a,len,cap,m',n,D,Pl,rfl,_,vU,K0,Bw,hx,Rh⟩
 ·exact ⟨[],none,0,rfl,zAF _,zBT _,fun i j hi=>absurd hi (zy i)⟩
 ·simp only [zAn] at Bw;subst Bw;subst hx
  have plain:0<len -> ∃ b o,a=⟨b,o,none⟩:=fun h0=>by
   obtain ⟨Dq,h1,_⟩:=Rh 0 (by omega);obtain ⟨g1,g2⟩:=js h1;have g3:=g2 0 (by rw [he.2.1];exact hm);have e0:(a.add (0*P.cellsOf e)).add 0=a:=by simp [Addr.add]
   rw [e0] at g3;exact zN g3
  have pick: ∀ i,i<len -> ∃ y:α,∀ j,j<m -> ∃ b o u,a=⟨b,o,none⟩/\ w.cell? ⟨b,o+(i*m+j),none⟩=some u/\ AJ (fun _=>False) w ((c y).getD j .any) [] u:=fun i hi=>by
   obtain ⟨Dq,h1,h2⟩:=Rh i (by omega)
   obtain ⟨y,h3,h4⟩:=he.2.2 enc w n Dq _ h2 fun k hk=>hw k (by
    simp only [DataW.weights,ht];refine zAY _ (zAS _ (bD (d:=D i) ?_ hk));exact zAt.2 ⟨i,zw.2 hi,rfl⟩)
   obtain ⟨g1,g2⟩:=js h1;obtain ⟨b,o,rfl⟩:=plain (by omega);refine ⟨y,fun j hj=>?_⟩;have g3:=g2 j (by rw [he.2.1];exact hj);refine ⟨b,o,_,rfl,?_,h4 j (by rw [he.1];exact hj)⟩;rw [←g3,he.2.1,kW,kW,zAg]
  have hL: ∃ L:List α,L.length=len/\ ∀ i,i<len -> ∀ j,j<m -> ∃ b o u,a=⟨b,o,none⟩/\ w.cell? ⟨b,o+(i*m+j),none⟩=some u/\ AJ (fun _=>False) w ((c (L.getD i default)).getD j .any) [] u:=by
   refine ⟨(List.range len).map fun i=>if hi:i<len then (pick i hi).choose else default,by simp,fun i hi=>?_⟩
   have:((List.range len).map fun i=>if hi:i<len then (pick i hi).choose else default).getD i default=(pick i hi).choose:=by
    simp [u8,hi]
   rw [this];exact (pick i hi).choose_spec
  obtain ⟨L,rfl,hL⟩:=hL;refine ⟨L,some a,_,rfl,vU,?_,fun i j hi hj=>?_⟩
  ·have hk:=hw ((L.length+(m'-L.length))*P.bytesOf e) (by
    simp only [DataW.weights,ht,zAl,zBK];exact zAr)
   have h1:=Nat.le_mul_of_pos_right (L.length+(m'-L.length)) hb;have h2:=zt h1 hk;unfold reachBytes at h2;unfold LB;omega
  ·obtain ⟨b,o,u,g1,g2,g3⟩:=hL i hi j hj;exact ⟨b,o,u,by rw [g1],g2,g3⟩
theorem Rd.rows {α:Type} [Inhabited α] {c:α -> List DV} (ht:P.underlying t=some (.slice e)) (hc:P.cellsOf t=1) (hb:0<P.bytesOf e) (hm:0<m) (he:Rd P e m c):Rd P t 1 (fun L:List α=>[.sl m L.length (Aw c L)]):=⟨fun _=>rfl,hc,fun enc w Dp cs x h hw=>by
 obtain ⟨L,a,cap,rfl,h1,h2,h3⟩:=Rd.row ht hb hm he enc w Dp cs x h hw;refine ⟨L,J7.one ⟨a,cap,rfl,h1,h2,fun i j hi hj=>?_⟩⟩;obtain ⟨b,o,u,g1,g2,g3⟩:=h3 i j hi hj;exact ⟨b,o,u,g1,fun h=>h,g2,g3⟩⟩
theorem Rd.ints (ht:P.underlying t=some (.slice e)) (hc:P.cellsOf t=1) (hb:0<P.bytesOf e) (he:P.underlying e=some (.int .i64)) (v7:P.cellsOf e=1):Rd P t 1 BF:=⟨fun _=>rfl,hc,fun enc w Dp cs x h hw=>by
 obtain ⟨L,a,cap,rfl,h1,h2,h3⟩:=Rd.row ht hb (zBp) (Rd.int he v7) enc w Dp cs x h hw;refine ⟨L,.one ⟨a,cap,rfl,h1,h2,fun j hj=>?_⟩⟩;obtain ⟨b,o,u,g1,g2,g3⟩:=h3 j 0 hj zBp;refine ⟨b,o,g1,fun h=>h,?_⟩;have:u= .int .i64 (L.getD j 0):=g3;rw [←this,←g2];simp⟩
def Ds (P:Program):List Field -> Nat -> Nat -> {α:Type} -> (α -> List DV) -> Prop:=fun fs o n {α} c=>∀ (H:Type) (enc:TypeId×Value -> H) (w:World) (Dp:Nat) (cs:List Value) (xs:List (DataW H×List MemPlace)),cs.length=n -> (fs.mapM fun f=>DataW.trod enc P w 0 (fun _=>true) true Dp f.type ((cs.drop f.offset).take (P.cellsOf f.type)))=some xs -> (∀ k∈DataW.weightsEach P (fs.map (·.type)) (xs.map (·.1)),k<=reachBytes) -> ∃ y:α,J7 w (cs.drop o) (c y)
theorem Ds.nil {o n:Nat} (ho:n=o):Ds P [] o n (fun _:Unit=>[]):=fun _ enc w Dp cs xs hl _ _=>⟨(),by rw [List.drop_of_length_le (by omega)];exact ⟨rfl,fun j hj=>absurd hj (zy j)⟩⟩
theorem Ds.cons {α β:Type} {c:α -> List DV} {c':β -> List DV} {f:Field} {fs:List Field} {o n:Nat} (ho:f.offset=o) (hf:Rd P f.type m c) (hs:Ds P fs (o+m) n c'):Ds P (f::fs) o n (fun x:α×β=>c x.1++c' x.2):=fun _ enc w Dp cs xs hl h hw=>by
 rw [List.mapM_cons] at h;obtain ⟨a,ha,h⟩:=Option.bind_eq_some_iff.1 h;obtain ⟨ys,sv,e⟩:=Option.bind_eq_some_iff.1 h;cases e;obtain ⟨y,h1⟩:=hf.2.2 enc w Dp _ a ha fun k hk=>hw k (by simp only [zBF,DataW.weightsEach];exact zAS _ hk)
 obtain ⟨z,h2⟩:=hs _ enc w Dp cs ys hl sv fun k hk=>hw k (by simp only [zBF,DataW.weightsEach];exact zAd _ hk)
 refine ⟨(y,z),?_⟩
 have:cs.drop o=(cs.drop f.offset).take (P.cellsOf f.type)++cs.drop (o+m):=by
  rw [ho,hf.2.1,←List.drop_drop];exact (List.take_append_drop m (cs.drop o)).symm
 rw [this];exact h1.app h2
theorem Rd.struct {α β:Type} {c:α -> List DV} {c':β -> List DV} {fs:Array Field} (ht:P.underlying t=some (.struct fs)) (hc:P.cellsOf t=m) (hs:Ds P fs.toList 0 m c) (g:α -> β) (hg: ∀ x,c x=c' (g x)) (hm: ∀ x,(c' x).length=m):Rd P t m c':=⟨hm,hc,fun enc w Dp cs x h hw=>by
 cases Dp with
 | zero=>simp [DataW.trod] at h
 | succ Dp=>
  unfold DataW.trod at h;rw [ht] at h;simp only at h;split at h
  ·rename_i hl;obtain ⟨xs,Yc,e⟩:=Option.map_eq_some_iff.1 h;subst e;obtain ⟨y,hy⟩:=hs _ enc w Dp cs xs (by rw [hl,hc]) Yc fun k hk=>hw k (by simp only [DataW.weights,ht];exact hk)
   exact ⟨g y,by rw [←hg];exact hy⟩
  ·cases h⟩
end
end Go.Proofs.YtgkhhfnhacibcaaGreatDoor
namespace Go.Proofs.YtgkhhfnhacibcaaGreatDoor
abbrev zA9:=@Go.ChangeShapes.trodAll_cons
abbrev zBs:=@Go.ChangeShapes.trodVars_none
end Go.Proofs.YtgkhhfnhacibcaaGreatDoor
namespace Go.Proofs.YtgkhhfnhacibcaaGreatDoor
open Go.ChangeShapes Go.WideShapes Go.ChangeAt Go.RowKit
def Gv (P:Program) (t:TypeId) {α:Type} (d:α -> DV):Prop:=∀ {H:Type} (enc:TypeId×Value -> H) (w:World) (CT:Nat) (v:Value) (x:DataW H) (ps:List MemPlace),Value.okWide P w .any CT t v -> DataW.Trod enc P w 0 (fun _=>true) true t v x ps -> (∀ n∈x.weights P t,n<=reachBytes) -> ∃ y:α,AJ (fun _=>False) w (d y) [] v
section
variable {P:Program} {t e:TypeId}
theorem Gv.int {k:IntKind} (ht:P.underlying t=some (.int k)):Gv P t (fun n:Int=>.int k n):=fun enc w CT v x ps B8 _ _=>by
 obtain ⟨n,rfl⟩:=okWide_int ht B8;exact ⟨n,rfl⟩
theorem Gv.one {α:Type} {c:α -> List DV} (ht:P.underlying t=some (.slice e)) (h:Rd P t 1 c):Gv P t (fun x=>(c x).getD 0 .any):=fun enc w CT v x ps B8 ⟨Dp,hx⟩ hw=>by
 obtain ⟨a,len,cap,rfl⟩:=okWide_slice ht B8;obtain ⟨y,h1,h2⟩:=h.2.2 enc w Dp _ _ hx hw;exact ⟨y,by simpa [Value.cells] using h2 0 (by rw [h.1];exact zBp)⟩
theorem Gv.agg {α:Type} {m:Nat} {c:α -> List DV} {fs:Array Field} (ht:P.underlying t=some (.struct fs)) (h:Rd P t m c):Gv P t (fun x=>.agg m (L1 (c x))):=fun enc w CT v x ps B8 ⟨Dp,hx⟩ hw=>by
 obtain ⟨cs,rfl,C5⟩:=okWide_struct ht B8;obtain ⟨y,h1,h2⟩:=h.2.2 enc w Dp _ _ hx hw;have hm:(c y).length=m:=h.1 y
 have Am:cs.size=m:=by
  have:cs.toList.length=(c y).length:=h1;simpa [hm] using this
 refine ⟨y,cs,rfl,Am,fun j hj=>?_⟩;have:=h2 j (by rw [hm];exact hj);refine ⟨cs[j]'(by omega),by simp [Am,hj],?_⟩
 have e:(Value.agg cs).cells.toList.getD j undef=cs[j]'(by omega):=by
  show cs.toList.getD j undef=_
  simp [u8,Am,hj]
 rw [e] at this;exact this
def Dv (P:Program) (ts:List TypeId) {α:Type} (ds:α -> List DV):Prop:=∀ {H:Type} (enc:TypeId×Value -> H) (w:World) (CT:Nat) (vs:List Value) (xs:List (DataW H)) (ps:List MemPlace),(∀ (j:Nat) t v,ts[j]? =some t -> vs[j]? =some v -> Value.okWide P w .any CT t v) -> DataW.TrodAll enc P w 0 (fun _=>true) true ts vs xs ps -> (∀ n∈DataW.weightsEach P ts xs,n<=reachBytes) -> ∃ y:α,(ds y).length=vs.length/\ ∀ j,j<vs.length -> AJ (fun _=>False) w ((ds y).getD j .any) [] (vs.getD j undef)
theorem Dv.nil:Dv P [] (fun _:Unit=>[]):=fun enc w CT vs xs ps _ h _=>by
 obtain ⟨rfl,_,_⟩:=trodAll_nil h;exact ⟨(),rfl,fun j hj=>absurd hj (zy j)⟩
theorem Dv.cons {α β:Type} {d:α -> DV} {ds:β -> List DV} {ts:List TypeId} (h:Gv P t d) (hs:Dv P ts ds):Dv P (t::ts) (fun x:α×β=>d x.1::ds x.2):=fun enc w CT vs xs ps B8 h0 hw=>by
 obtain ⟨v,Bc,x,ao,p,q,rfl,rfl,rfl,h1,h2⟩:=zA9 h0;obtain ⟨y,hy⟩:=h enc w CT v x p (B8 0 t v rfl rfl) h1 fun n hn=>hw n (by simp only [DataW.weightsEach];exact zAS _ hn)
 obtain ⟨z,RE,sr⟩:=hs enc w CT Bc ao q (fun j t' v' a b=>B8 (j+1) t' v' (by simpa using a) (by simpa using b)) h2 fun n hn=>hw n (by simp only [DataW.weightsEach];exact zAd _ hn)
 refine ⟨(y,z),by simp [RE],fun j hj=>?_⟩;cases j with
 | zero=>exact hy
 | succ j=>exact sr j (by simpa using hj)
theorem bQ {H:Type} {enc:TypeId×Value -> H} (hl:laidOutB P=true) {W W':World} (hE:Au W W'): ∀ {ts:List TypeId} {vs:List Value} {ds:List (DataW H)} {ps:List MemPlace},(∀ t∈ts,P.readableRec t=true/\ t<P.types.size) -> DataW.TrodAll enc P W 0 (fun _=>true) true ts vs ds ps -> (∀ x∈ps,x.block<W.heap.size) -> DataW.TrodAll enc P W' 0 (fun b=>decide (b<W.heap.size)) true ts vs ds ps
 | [],_,_,_,_,h,_=>by
  obtain ⟨rfl,rfl,rfl⟩:=trodAll_nil h;rfl
 | t::ts,_,_,_,hr,h,AK=>by
  obtain ⟨v,Bc,x,ao,p,q,rfl,rfl,rfl,h1,h2⟩:=zA9 h;exact ⟨p,q,Below.trod hl (hr t (by simp)).1 (hr t (by simp)).2 h1 hE fun x hx=>AK x (zAS _ hx),bQ hl hE (fun t ht=>hr t (by simp [ht])) h2 fun x hx=>AK x (zAd _ hx),rfl⟩
theorem pm {H:Type} {enc:TypeId×Value -> H} {f:Func} {s:ChangeSpec} {W W':World} {args:Array Value} {ds gs:List (DataW H)} {F6:List MemPlace} {tb:TypeId} (hl:laidOutB P=true) (hr: ∀ t∈f.params.toList,P.readableRec t=true/\ t<P.types.size) (hE:Au W W')
 (hW:DataW.Whole enc P f.params.toList s.vars false W args.toList ds gs F6) (hv:s.vars= []) (hs:s.fn H (ds++gs)= { results:=[.lit (.bool true)],args:=ds }) (Yn:f.resultTypes= #[tb]) (Yj:P.underlying tb=some .bool):
 s.post enc P f false true false false W args (.bool true) W':=by
 have Js:=hW;have AK:=hW.lt;obtain ⟨p,q,hA,hV,rfl,GM,Ay⟩:=hW;rw [hv] at hV;obtain ⟨rfl,rfl⟩:=zBs hV;have B9:=bQ hl hE hr hA fun x hx=>AK x (zAS _ hx)
 refine ⟨ds,[],p++[],[],p,[],Js,?_,?_,?_,World.keptBut_mono (fun x hx=>⟨hx,.inr (.inl (by simpa using hx))⟩) (Below.frame hE (· ∈p++[])),fun h=>by cases h⟩
 ·rw [hs,Yn];exact trodAll_mk1 (shut_bool Yj true)
 ·rw [hs];exact B9
 ·rw [hv,hs];rfl
theorem X1 {H:Type} {enc:TypeId×Value -> H} {Γ:Ax} {jC:Nat} {f:Func} {s:ChangeSpec} {W:World} {CT:Nat} {args:Array Value} {ds gs:List (DataW H)} {F6:List MemPlace} {tb:TypeId} {α:Type} {dv:α -> List DV} (hl:laidOutB P=true) (hr: ∀ t∈f.params.toList,P.readableRec t=true/\ t<P.types.size)
 (tn:Dv P f.params.toList dv) (EU: ∀ (w:World) (y:α),(∀ j,AJ (fun _=>False) w ((dv y).getD j .any) [] (args.getD j undef)) -> ES P Γ jC (dv y) [] (.bool true) [] true)
 (DT: ∀ (j:Nat) t v,f.params[j]? =some t -> args[j]? =some v -> Value.okWide P W .any CT t v) (hW:DataW.Whole enc P f.params.toList s.vars false W args.toList ds gs F6) (hv:s.vars= []) (hs:s.fn H (ds++gs)= { results:=[.lit (.bool true)],args:=ds }) (Yn:f.resultTypes= #[tb]) (Yj:P.underlying tb=some .bool)
 (Am:(DataW.weightsEach P f.params.toList ds).all (· <=reachBytes)=true) (hg:Γ.gi W):Calls P jC args W fun e W'=>∃ v,e= .returned v/\ s.post enc P f false true false false W args v W':=by
 have Js:=hW;obtain ⟨p,q,hA,hV,rfl,GM,Ay⟩:=hW
 obtain ⟨y,h1,h2⟩:=tn enc W CT args.toList ds p (fun j t v a b=>DT j t v (by simpa using a) (by simpa using b)) hA fun n hn=>by
  have:=zq.1 Am n hn;simpa using this
 have Af:(dv y).length=args.size:=by simpa using h1
 have gV: ∀ j,AJ (fun _=>False) W ((dv y).getD j .any) [] (args.getD j undef):=fun j=>by
  rcases zA2 j args.size with hj | hj
  ·have:=h2 j (by simpa using hj);simpa [u8,zAJ,hj] using this
  ·have:(dv y).getD j .any= .any:=by rw [u8,zAM (by omega)];rfl
   rw [this];trivial
 refine ((EU W y gV).2 (fun _=>False) [] W args (OM (fun b hb=>hb.elim) hg) ⟨Af,fun i hi=>?_⟩).mono ?_
 ·exact AJ.out _ (DB (fun b hb=>NG.1 hb) []) (gV i)
 ·rintro e W' ⟨v,rfl,G⟩;obtain ⟨ρ',_,Yg,_⟩:=G.ex;have Yg:v= .bool true:=Yg;subst Yg;exact ⟨_,rfl,pm hl hr (G.ext rfl) Js hv hs Yn Yj⟩
end
end Go.Proofs.YtgkhhfnhacibcaaGreatDoor
namespace Go.Proofs.YtgkhhfnhacibcaaGreatDoor
open Go.ChangeShapes Go.WideShapes Go.ChangeAt Go.RowKit
theorem own:ownKnob Tryz.prog.godebug=none:=by kernel_rfl
theorem X5:laidOutB Tryz.prog=true:=by kernel_rfl
theorem ya:0<Tryz.prog.bytesOf 3:=zAT (by kernel_rfl)
theorem JN:Rd Tryz.prog 3 1 (fun n:Int=>[.int .i64 n]):=Rd.int Tryz.underlying3 (by kernel_rfl)
theorem QL:Rd Tryz.prog 22 1 BF:=Rd.ints Tryz.underlying22 (by kernel_rfl) ya Tryz.underlying3 (by kernel_rfl)
theorem pF:Rd Tryz.prog 23 1 (fun L:List (List Int)=>[.sl 1 L.length (Aw BF L)]):=Rd.rows Tryz.underlying23 (by kernel_rfl) (zAT (by kernel_rfl)) zBp QL
set_option maxRecDepth 100000 in
theorem pI:Rd Tryz.prog 36 9 AG:=by
 refine Rd.struct Tryz.underlying36 (by kernel_rfl)
  (Ds.cons rfl JN<|Ds.cons rfl QL<|Ds.cons rfl JN<|Ds.cons rfl JN<|Ds.cons rfl JN<|Ds.cons rfl JN<|Ds.cons rfl QL<|Ds.cons rfl JN<|Ds.cons rfl JN<|Ds.nil rfl)
  (fun x:Int×List Int×Int×Int×Int×Int×List Int×Int×Int×Unit=>(⟨x.1,x.2.1,x.2.2.1,x.2.2.2.1,x.2.2.2.2.1,x.2.2.2.2.2.1,x.2.2.2.2.2.2.1,x.2.2.2.2.2.2.2.1,x.2.2.2.2.2.2.2.2.1⟩:AB)) ?_ (fun _=>rfl)
 intro x;rfl
theorem pH:Rd Tryz.prog 24 1 (fun L:List AB=>[.sl 9 L.length (Aw AG L)]):=Rd.rows Tryz.underlying24 (by kernel_rfl) (zAT (by kernel_rfl)) (by decide) pI
set_option maxRecDepth 100000 in
theorem pG:Rd Tryz.prog 26 5 AD:=by
 refine Rd.struct Tryz.underlying26 (by kernel_rfl)
  (Ds.cons rfl JN<|Ds.cons rfl JN<|Ds.cons rfl QL<|Ds.cons rfl pF<|Ds.cons rfl pH<|Ds.nil rfl)
  (fun x:Int×Int×List Int×List (List Int)×List AB×Unit=>(⟨x.1,x.2.1,x.2.2.1,x.2.2.2.1,x.2.2.2.2.1⟩:AA)) ?_ (fun _=>rfl)
 intro x;rfl
theorem Wy:Gv Tryz.prog 26 (fun q:AA=>.agg 5 (L1 (AD q))):=Gv.agg Tryz.underlying26 pG
theorem Na:Gv Tryz.prog 3 (fun n:Int=>.int .i64 n):=Gv.int Tryz.underlying3
theorem TS:Gv Tryz.prog 22 (fun l:List Int=>.ints l):=Gv.one Tryz.underlying22 QL
theorem CU.of {M:Nat -> Prop} {w:World} {ρ:List AI} {q:AA} {v:Value} (h:AJ M w (.agg 5 (L1 (AD q))) ρ v):CU q:=by
 obtain ⟨cs,_,_,hc⟩:=h
 have row: ∀ {α:Type} [Inhabited α] {m:Nat} {c:α -> List DV} {L:List α} {u:Value},0<m -> AJ M w (.sl m L.length (Aw c L)) ρ u -> ∀ x∈L,∀ j,j<m -> ∃ u,AJ M w ((c x).getD j .any) [] u:=by
  intro α _ m c L u hm ⟨a,cap,_,_,_,hh⟩ x hx j hj;obtain ⟨i,hi,rfl⟩:=zAs hx;obtain ⟨b,o,u,_,_,_,hr⟩:=hh i j hi hj;refine ⟨u,?_⟩;have e:L.getD i default=L[i]:=by simp [hi]
  have hr:AJ M w ((c (L.getD i default)).getD j .any) [] u:=hr;rw [e] at hr;exact hr
 refine ⟨?_,fun r hr=>?_,fun c ZT=>?_,fun c ZT=>?_⟩
 ·obtain ⟨u,_,h2⟩:=hc 2 (by decide);exact Ko h2
 ·obtain ⟨u,_,h3⟩:=hc 3 (by decide);obtain ⟨u,h⟩:=row (c:=BF) (L:=q.nbrs) zBp h3 r hr 0 zBp;exact Ko h
 ·obtain ⟨u,_,h4⟩:=hc 4 (by decide);obtain ⟨u,h⟩:=row (c:=AG) (L:=q.cons) (by decide) h4 c ZT 1 (by decide);exact Ko h
 ·obtain ⟨u,_,h4⟩:=hc 4 (by decide);obtain ⟨u,h⟩:=row (c:=AG) (L:=q.cons) (by decide) h4 c ZT 6 (by decide);exact Ko h
theorem i4:Tryz.prog.globalNamed "math/bits.deBruijn64tab" =some 1:=by kernel_rfl
theorem wj:(Tryz.prog.globals[1]?).map (·.type)=some 154:=by kernel_rfl
abbrev X4 {H:Type}:List (String×DataW H):=[("math/bits.deBruijn32tab",Rows.laid_math_bits_deBruijn32tab),("math/bits.deBruijn64tab",Rows.laid_math_bits_deBruijn64tab)]
theorem lr {W:World} (h:laidMetH Tryz.prog X4 W):Lib.TabIs Tryz.prog W "math/bits.deBruijn64tab" .u8 (Lib.deBruijn64tab.map Int.ofNat):=
 Lib.tabIs_of_head (rest:=[]) i4 wj Tryz.underlying154 Tryz.underlying5 (by kernel_rfl) (by kernel_rfl) (laidMet.tail (show laidMet Tryz.prog X4 W from h))
theorem Wd {W:World} (h:laidMetH Tryz.prog X4 W):GG.gi W:=by
 have T:=lr h;have c: ∀ j,j<64 -> W.cell? ⟨1,j,none⟩=some (.int .u8 ((Lib.deBruijn64tab.map Int.ofNat).getD j 0)):=fun j hj=>T.cell i4 j (by rw [zAl];exact hj)
 refine ⟨fun j hj=>?_,?_⟩
 ·have hj:j<64:=hj;rw [c j hj]
  have:(Lib.deBruijn64tab.map Int.ofNat).getD j 0=((Lib.deBruijn64tab.getD j 0:Nat):Int):=by
   have hl:j<Lib.deBruijn64tab.length:=hj;simp [u8,hl]
  rw [this]
 ·have:=zBA W _ (c 0 (by decide));exact this
def fj (l:List Nat) (o:Obj):Obj:=match o with
 | .cells _ t frozen=>.cells (l.map fun n=>Value.int .u8 (Int.ofNat n)).toArray t frozen
 | o=>o
noncomputable def Jb (os:Os):World:=
 { World.holding Tryz.prog os ⟨#[],#[],[]⟩ with heap:=((World.holding Tryz.prog os ⟨#[],#[],[]⟩).heap.modify 0 (fj Lib.deBruijn32tab)).modify 1 (fj Lib.deBruijn64tab) }
def HE:Value:=.agg #[.int .i64 0,.int .i64 0,.slice none 0 0,.slice none 0 0,.slice none 0 0]
end Go.Proofs.YtgkhhfnhacibcaaGreatDoor
