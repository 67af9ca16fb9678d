/- Part 6 of 6 of what the proofs of these laws stand on. -/
import Derived.Test.YtekkngkphejfcaaGreatDoorPaE
import Derived.Test.YtekkngkphejfcaaGreatDoorRows
import Derived.ProofKit
import Derived.OpenShut
import Derived.Deep.DeepHandedRow
import Derived.Lib.LaidTab
import Derived.Deep.Slices
import Derived.Stop.LaidErr
import Derived.Test.YtekkngkphejfcaaGreatDoorCards
import Derived.Test.YtekkngkphejfcaaGreatDoorTie
set_option linter.all false
namespace Go.Proofs.YtekkngkphejfcaaGreatDoor
open Go.RowKit
theorem vi {a b:List Int} {n:Nat} (hl:a.length<=LB) (hn:a.length<n):Nr n a b=some (decide (a=b)):=by
 have hb:LB<=9223372036854775806:=by decide
 unfold Nr gU
 by_cases Ae:a.length=b.length
 ·have e:((a.length:Int) != (b.length:Int))=false:=by rw [Ae];simp
  rw [e,yB]
  have key: ∀ (k i n:Nat),i+k=a.length -> k+1<=n -> Nq a b n (.l1 (i:Int))=some (decide (a.drop i=b.drop i)):=by
   intro k
   induction k with
   | zero=>
    intro i n e hn;obtain ⟨n,rfl⟩: ∃ k,n=k+1:=⟨n-1,by omega⟩
    show Qw n (Nq a b n) a b (i:Int)=_
    unfold Qw;rw [yA (by omega),yB,zI (by omega),zI (by omega)];rfl
   | succ k ih=>
    intro i n e hn;obtain ⟨n,rfl⟩: ∃ k,n=k+1:=⟨n-1,by omega⟩;have hi:i<a.length:=by omega
    have A7:i<b.length:=by omega
    have d: ∀ {l:List Int},i<l.length -> l.drop i=l.getD i 0::l.drop (i+1):=fun {l} h=>by
     rw [yc h,u8,xz h];rfl
    have:=ih (i+1) n (by omega) (by omega)
    show Qw n (Nq a b n) a b (i:Int)=_
    unfold Qw;rw [yI (by omega),yF,yC ⟨⟨by omega,by omega⟩,by omega,by omega⟩,yH,yC (At.2 ⟨by omega,by omega⟩),d hi,d A7]
    by_cases h:a.getD i 0=b.getD i 0
    ·have:(a.getD i 0 != b.getD i 0)=false:=by rw [h];simp
     rw [this,yB];refine Eq.trans (by assumption) ?_;rw [h];simp
    ·have:(a.getD i 0 != b.getD i 0)=true:=by simpa using h
     rw [this,yF,yA fun e=>h (List.cons.inj e).1]
  exact key a.length 0 n (by omega) (by omega)
 ·have e:((a.length:Int) != (b.length:Int))=true:=by simp;omega
  rw [e,yF,yA fun h=>Ae (by rw [h])]
def TD (q:AA) (cells:List Int):Bool:=cells.any fun c=>decide (c<0)||decide (c>=q.cells)
section
variable {q:AA} {level:Int} {pos p x cells:List Int}
theorem cu {n:Nat} {c:Int}:TB n c q=some (decide (c<0)||decide (c>=q.cells)):=by
 unfold TB ct
 by_cases h:c<0
 ·rw [yI h];rfl
 ·rw [yA h];rfl
theorem vv {f:Int -> Bool} {l:List Int} {j:Nat} (hj:j<l.length):(l.drop j).any f=(f (l.getD j 0)||(l.drop (j+1)).any f):=by
 rw [yc hj,List.any_cons,u8,xz hj];rfl
theorem cv (hl:cells.length<=LB): ∀ (k j:Nat),j+k=cells.length -> ∃ r:Int,Ev (fun n=>JF cells q n (.l1 (j:Int))) r/\ decide (r>=0)=(cells.drop j).any fun c=>decide (c<0)||decide (c>=q.cells)
 | 0,j,e=>⟨-1,Ev.one fun n=>by
  show Lk n (JF cells q n) cells q (j:Int)=_
  unfold Lk;rw [yA (by omega),yB],by rw [zI (by omega)];rfl⟩
 | k+1,j,e=>by
  have hj:j<cells.length:=by omega
  have AK:decide ((j:Int)<(cells.length:Int))=true:=yI (by omega);have hr:AH ((j:Int)+1):=At.2 ⟨by omega,by unfold LB at hl;omega⟩;rw [vv hj];cases ho:decide (cells.getD j 0<0)||decide (cells.getD j 0>=q.cells) with
  | true=>
   refine ⟨(j:Int),Ev.one fun n=>?_,by rw [Bool.true_or];exact yI (by omega)⟩
   show Lk n (JF cells q n) cells q (j:Int)=_
   unfold Lk;rw [AK,yF,yC ⟨by omega,by omega⟩,yH,cu,yD,ho,yF]
  | false=>
   obtain ⟨r,h1,h2⟩:=cv hl k (j+1) (by omega);refine ⟨r,BG.ev (BG.one fun n=>?_) h1,by rw [zv];exact h2⟩
   show Lk n (JF cells q n) cells q (j:Int)=_
   unfold Lk;rw [AK,yF,yC ⟨by omega,by omega⟩,yH,cu,yD,ho,yB,yC hr,show ((j+1:Nat):Int)=(j:Int)+1 by omega]
theorem wW (hl:cells.length<=LB):Ev (fun n=>Ut n cells q) (TD q cells):=by
 obtain ⟨r,⟨N,h1⟩,h2⟩:=cv (q:=q) hl cells.length 0 (by omega);have h1: ∀ n,N<=n -> JF cells q n (.l1 0)=some r:=h1;refine ⟨N,fun n hn=>?_⟩
 show (JF cells q n (.l1 0)).bind (fun y1=>some (decide (y1>=0)))=_
 rw [h1 n hn,yD,h2];rfl
theorem oE (hF:Cq q) (hl:pos.length<=LB):Ev (fun n=>LN n q pos) (D5 q pos):=⟨Dl q+pos.length+1,fun n hn=>cP hF (by omega) hl (by omega)⟩
theorem Ay.of (hF:Cq q) (h:D5 q pos=0):Ay q pos:=by
 unfold D5 at h
 by_cases hv:CY q=true
 ·rw [yC hv] at h
  by_cases hp:posOk q pos=true
  ·exact ⟨hF,hv,hp⟩
  ·rw [yM hp] at h;exact absurd h (by decide)
 ·rw [yM hv] at h;exact absurd h (by decide)
theorem Ay.check (h:Ay q pos):D5 q pos=0:=by
 unfold D5;rw [yC h.valid,yC h.ok]
def Jc (q:AA) (pos cells:List Int) (level:Int) (r:List Int×Int):Prop:=
 (D5 q pos≠0/\ r=([],D5 q pos))∨(D5 q pos=0/\ TD q cells=true/\ r=([],1))∨(D5 q pos=0/\ TD q cells=false/\ r.2=0/\ Ga q level pos r.1)
theorem Jc.uniq (hF:Cq q) {r r':List Int×Int} (h:Jc q pos cells level r) (h':Jc q pos cells level r'):r=r':=by
 rcases h with ⟨h1,h2⟩ | ⟨h1,h2,h3⟩ | ⟨h1,h2,h3,h4⟩
 ·rcases h' with ⟨g1,g2⟩ | ⟨g1,_⟩ | ⟨g1,_⟩
  ·rw [h2,g2]
  ·exact absurd g1 h1
  ·exact absurd g1 h1
 ·rcases h' with ⟨g1,_⟩ | ⟨g1,g2,g3⟩ | ⟨g1,g2,_⟩
  ·exact absurd h1 g1
  ·rw [h3,g3]
  ·rw [h2] at g2;cases g2
 ·rcases h' with ⟨g1,_⟩ | ⟨g1,g2,_⟩ | ⟨g1,g2,g3,g4⟩
  ·exact absurd h1 g1
  ·rw [h2] at g2;cases g2
  ·exact Prod.ext (Ga.uniq (Ay.of hF h1) h4 g4) (h3.trans g3.symm)
theorem xf (hF:Cq q) (hl:pos.length<=LB) (hc:cells.length<=LB): ∃ r,Ev (fun n=>Rf n q pos cells level) r/\ Jc q pos cells level r:=by
 have h1:=oE hF hl
 by_cases h0:D5 q pos=0
 ·have hp:=Ay.of hF h0;have h2:=wW (q:=q) hc;cases ho:TD q cells with
  | true=>
   rw [ho] at h2;refine ⟨([],1),?_,.inr (.inl ⟨h0,ho,rfl⟩)⟩;rw [h0] at h1;exact Ev.bind h1 (Ev.bind h2 (Ev.now fun n=>rfl))
  | false=>
   rw [ho] at h2;rw [h0] at h1;obtain ⟨g,g1,g2⟩:=nq (level:=level) (cells:=cells) hp hc;exact ⟨(g,0),Ev.bind h1 (Ev.bind h2 (Ev.bind g1 (Ev.now fun n=>rfl))),.inr (.inr ⟨h0,ho,rfl,g2⟩)⟩
 ·refine ⟨([],D5 q pos),Ev.bind h1 (Ev.now fun n=>?_),.inl ⟨h0,rfl⟩⟩;have:(D5 q pos != 0)=true:=by simpa using h0
  show (bif (D5 q pos != 0) then _ else _)=_
  rw [this];rfl
theorem ir (hF:Cq q) (hl:pos.length<=LB): ∃ r,Ev (fun n=>H5 n q pos level) r/\ Jc q pos [] level r:=by
 obtain ⟨r,h1,h2⟩:=xf (level:=level) (cells:=[]) hF hl (by decide);exact ⟨r,Ev.bind h1 (Ev.now fun n=>rfl),h2⟩
end
end Go.Proofs.YtekkngkphejfcaaGreatDoor
namespace Go.Proofs.YtekkngkphejfcaaGreatDoor
open Go.RowKit
section
variable {q:AA} {level i:Int} {pos p x:List Int}
def xw (q:AA) (pos:List Int) (level:Int) (r:Bool×Int):Prop:=∃ y,Jc q pos [] level y/\ r=(decide (y.2=0)&&decide (y.1=pos),y.2)
theorem Jc.len (hF:Cq q) {cells:List Int} {r:List Int×Int} (h:Jc q pos cells level r):r.1.length<=256:=by
 rcases h with ⟨_,h2⟩ | ⟨_,_,h3⟩ | ⟨h1,_,_,h4⟩
 ·rw [h2];simp
 ·rw [h3];simp
 ·have hp:=Ay.of hF h1;have E7:=hp.len256.2;rcases h4 with ⟨_,h5⟩ | ⟨_,h5,_⟩
  ·rw [h5,yY];exact E7
  ·exact (h5.pos Rm hp).len256.2
theorem vK (hF:Cq q) (hl:pos.length<=LB): ∃ r,Ev (fun n=>L9 n q pos level) r/\ xw q pos level r:=by
 obtain ⟨y,h1,h2⟩:=ir (level:=level) hF hl;have qz:=h2.len hF;refine ⟨_,Ev.bind h1 ?_,y,h2,rfl⟩
 by_cases h0:y.2=0
 ·have hb:(y.2==0)=true:=by simpa using h0
  rw [yI h0,ye];refine Ev.eq (Ev.bind (a:=fun n=>Nr n y.1 pos) (x:=decide (y.1=pos)) ⟨y.1.length+1,fun n hn=>vi (yO qz (by decide)) (by omega)⟩ (b:=fun n y2=>some (y2,y.2)) (Ev.now fun n=>rfl)) (fun n=>?_)
  show (bif (y.2==0) then _ else _)=_
  rw [hb,yF]
 ·have hb:(y.2==0)=false:=by simpa using h0
  refine Ev.now fun n=>?_
  show (bif (y.2==0) then _ else _)=_
  rw [hb,yB,yA h0,zh]
end
end Go.Proofs.YtekkngkphejfcaaGreatDoor
namespace Go.Proofs.YtekkngkphejfcaaGreatDoor
open Go.RowKit
section
variable {q:AA} {c:AB} {pos l:List Int} {D D':Nat -> Nat -> Prop} {k:Nat}
end
end Go.Proofs.YtekkngkphejfcaaGreatDoor
namespace Go.Proofs.YtekkngkphejfcaaGreatDoor
open Go.RowKit
section
variable {q:AA} {c:AB} {pos:List Int} {k:Nat}
end
end Go.Proofs.YtekkngkphejfcaaGreatDoor
namespace Go.Proofs.YtekkngkphejfcaaGreatDoor
open Go.RowKit
open Classical
section
variable {q:AA} {c:AB} {pos l:List Int} {k:Nat}
end
end Go.Proofs.YtekkngkphejfcaaGreatDoor
namespace Go.Proofs.YtekkngkphejfcaaGreatDoor
open Go.RowKit
open Classical
section
variable {q:AA} {c:AB} {pos l:List Int} {k:Nat}
end
end Go.Proofs.YtekkngkphejfcaaGreatDoor
namespace Go.Proofs.YtekkngkphejfcaaGreatDoor
open Go.RowKit
section
variable {q:AA} {c:AB} {pos l:List Int} {g:List (List Int)} {inn:List Bool} {s:Int}
variable {some':List Bool}
end
end Go.Proofs.YtekkngkphejfcaaGreatDoor
namespace Go.Proofs.YtekkngkphejfcaaGreatDoor
open Go.RowKit
section
variable {q:AA} {c:AB} {pos l:List Int}
end
end Go.Proofs.YtekkngkphejfcaaGreatDoor
namespace Go.Proofs.YtekkngkphejfcaaGreatDoor
open Go.RowKit
section
variable {q:AA} {c:AB} {pos l:List Int}
end
end Go.Proofs.YtekkngkphejfcaaGreatDoor
namespace Go.Proofs.YtekkngkphejfcaaGreatDoor
open Go.RowKit
section
variable {q:AA} {i:Int} {pos x:List Int}
end
end Go.Proofs.YtekkngkphejfcaaGreatDoor
namespace Go.Proofs.YtekkngkphejfcaaGreatDoor
open Go.RowKit
open Classical
section
variable {q:AA} {c:AB} {i:Int} {pos x:List Int}
theorem cD {n:Nat} (hl:pos.length<=256): ∀ (k j n:Nat),j+k=pos.length -> k<n -> LH pos n (.l1 (j:Int))=some ((pos.drop j).any (· ==0))
 | 0,j,n+1,e,_=>by
  show PM n (LH pos n) pos (j:Int)=_
  unfold PM;rw [yA (by omega),yB,zI (by omega)];rfl
 | k+1,j,n+1,e,hn=>by
  have hj:j<pos.length:=by omega
  have e2:pos.drop j=pos.getD j 0::pos.drop (j+1):=by
   rw [yc hj,u8,xz hj];rfl
  have ih:=cD (n:=n) hl k (j+1) n (by omega) (by omega);have ih:LH pos n (.l1 ((j:Int)+1))=_:=ih
  show PM n (LH pos n) pos (j:Int)=_
  unfold PM;rw [yI (by omega),yF,yC ⟨by omega,by omega⟩,yC (At.2 ⟨by omega,by omega⟩),yH,ih,e2,List.any_cons];cases (pos.getD j 0==0) <;> rfl
theorem nl {n:Nat} (hl:pos.length<=256) (hn:pos.length<n):Se n pos=some (B9 pos):=cD (n:=n) hl pos.length 0 n (by omega) hn
theorem mZ {n:Nat} (hF:Cq q) (hn:Dl q<=n) (hl:pos.length<=LB) (Ic:pos.length<n):SJ n q pos=some (D5 q pos):=by
 have hb:LB<=9223372036854775806:=by decide
 unfold SJ bS D5;rw [bP hF hn,yD];cases hv:CY q with
 | false=>rfl
 | true=>
  obtain ⟨_,hs,_⟩:=DX hv;obtain ⟨p1,p2,p3⟩:=So hs.1 hs.2
  have wu:IntKind.u64.wrap q.symbols=q.symbols:=by
   show q.symbols % 18446744073709551616=q.symbols
   omega
  show (bif ((pos.length:Int) != q.cells) then some 250 else K9 q pos n (.l1 0))=some (if posOk q pos=true then 0 else 250)
  unfold posOk
  by_cases Ae:(pos.length:Int)=q.cells
  ·have h1:((pos.length:Int) != q.cells)=false:=by simpa using Ae
   have h2:((pos.length:Int)==q.cells)=true:=by simpa using Ae
   rw [h1,yB,h2,ye]
   have key: ∀ (k i n:Nat),i+k=pos.length -> k+1<=n -> K9 q pos n (.l1 (i:Int))=some (if ((pos.drop i).all fun x=>decide (0<=x)&&decide (x<2 ^ q.symbols.toNat))=true then 0 else 250):=by
    intro k
    induction k with
    | zero=>
     intro i n e hn;obtain ⟨n,rfl⟩: ∃ k,n=k+1:=⟨n-1,by omega⟩
     show O7 n (K9 q pos n) q pos (i:Int)=_
     unfold O7;rw [yA (by omega),yB,zI (by omega)];rfl
    | succ k ih=>
     intro i n e hn;obtain ⟨n,rfl⟩: ∃ k,n=k+1:=⟨n-1,by omega⟩;have hi:i<pos.length:=by omega
     have e2:pos.drop i=pos.getD i 0::pos.drop (i+1):=by
      rw [yc hi,u8,xz hi];rfl
     have:=ih (i+1) n (by omega) (by omega)
     show O7 n (K9 q pos n) q pos (i:Int)=_
     unfold O7;rw [yI (by omega),yF,yC ⟨by omega,by omega⟩,wu,yC p3,yC (At.2 ⟨by omega,by omega⟩),yH,e2,zAU,p1]
     by_cases c1:pos.getD i 0<0
     ·rw [yI c1,yF,yA (p:=0<=pos.getD i 0) (by omega)];rfl
     ·rw [yA c1,yB,yI (p:=0<=pos.getD i 0) (by omega),ye]
      by_cases c2:pos.getD i 0>=2 ^ q.symbols.toNat
      ·rw [yI c2,yF,yA (p:=pos.getD i 0<2 ^ q.symbols.toNat) (by omega)];rfl
      ·rw [yA c2,yB,yI (p:=pos.getD i 0<2 ^ q.symbols.toNat) (by omega),ye];exact this
   exact key pos.length 0 n (by omega) (by omega)
  ·have h1:((pos.length:Int) != q.cells)=true:=by simpa using Ae
   have h2:((pos.length:Int)==q.cells)=false:=by simpa using Ae
   rw [h1,yF,h2,zh];rfl
end
end Go.Proofs.YtekkngkphejfcaaGreatDoor
namespace Go.Proofs.YtekkngkphejfcaaGreatDoor
open Go.RowKit
set_option maxRecDepth 100000
set_option maxHeartbeats 40000000
end Go.Proofs.YtekkngkphejfcaaGreatDoor
namespace Go.Proofs.YtekkngkphejfcaaGreatDoor
open Go.RowKit
section
variable {q:AA} {i:Int} {pos x:List Int}
end
end Go.Proofs.YtekkngkphejfcaaGreatDoor
namespace Go.Proofs.YtekkngkphejfcaaGreatDoor
open Go.RowKit
theorem bJ {a b:List Int} {n:Nat} (hl:a.length<=LB) (hn:a.length<n):HQ n a b=some (decide (a=b)):=by
 have hb:LB<=9223372036854775806:=by decide
 unfold HQ bI
 by_cases Ae:a.length=b.length
 ·have e:((a.length:Int) != (b.length:Int))=false:=by rw [Ae];simp
  rw [e,yB]
  have key: ∀ (k i n:Nat),i+k=a.length -> k+1<=n -> Mm a b n (.l1 (i:Int))=some (decide (a.drop i=b.drop i)):=by
   intro k
   induction k with
   | zero=>
    intro i n e hn;obtain ⟨n,rfl⟩: ∃ k,n=k+1:=⟨n-1,by omega⟩
    show Oy n (Mm a b n) a b (i:Int)=_
    unfold Oy;rw [yA (by omega),yB,zI (by omega),zI (by omega)];rfl
   | succ k ih=>
    intro i n e hn;obtain ⟨n,rfl⟩: ∃ k,n=k+1:=⟨n-1,by omega⟩;have hi:i<a.length:=by omega
    have A7:i<b.length:=by omega
    have d: ∀ {l:List Int},i<l.length -> l.drop i=l.getD i 0::l.drop (i+1):=fun {l} h=>by
     rw [yc h,u8,xz h];rfl
    have:=ih (i+1) n (by omega) (by omega)
    show Oy n (Mm a b n) a b (i:Int)=_
    unfold Oy;rw [yI (by omega),yF,yC ⟨⟨by omega,by omega⟩,by omega,by omega⟩,yH,yC (At.2 ⟨by omega,by omega⟩),d hi,d A7]
    by_cases h:a.getD i 0=b.getD i 0
    ·have:(a.getD i 0 != b.getD i 0)=false:=by rw [h];simp
     rw [this,yB];refine Eq.trans (by assumption) ?_;rw [h];simp
    ·have:(a.getD i 0 != b.getD i 0)=true:=by simpa using h
     rw [this,yF,yA fun e=>h (List.cons.inj e).1]
  exact key a.length 0 n (by omega) (by omega)
 ·have e:((a.length:Int) != (b.length:Int))=true:=by simp;omega
  rw [e,yF,yA fun h=>Ae (by rw [h])]
theorem Z2 {n:Nat} {c:AB} {level:Int}:MY n c level=some (decide (Fj c.kind<=level)):=by
 unfold MY Z1 Fj
 by_cases h4:c.kind=4
 ·rw [yC (.inr h4)];simp [h4]
 by_cases h3:c.kind=3
 ·rw [yC (.inl h3)];simp [h3]
 rw [yM (by omega)]
 by_cases h5:c.kind=5
 ·rw [yC h5];simp [h5]
 rw [yM h5]
 by_cases h8:c.kind=8
 ·rw [yC (.inl h8)];simp [h8]
 by_cases h9:c.kind=9
 ·rw [yC (.inr h9)];simp [h9]
 rw [yM (by omega)];have e4:(c.kind==4)=false:=by simpa using h4
 have e3:(c.kind==3)=false:=by simpa using h3
 have e5:(c.kind==5)=false:=by simpa using h5
 have e8:(c.kind==8)=false:=by simpa using h8
 have e9:(c.kind==9)=false:=by simpa using h9
 rw [e4,e3,e5,e8,e9];rfl
section
variable {q:AA} {level i:Int} {pos p x cells:List Int}
end
end Go.Proofs.YtekkngkphejfcaaGreatDoor
namespace Go.Proofs.YtekkngkphejfcaaGreatDoor
open Go.RowKit
set_option maxRecDepth 100000
set_option maxHeartbeats 40000000
def v8 (n:Nat) (cells:Int):Option AA:=
 if ((cells:Int)=cells/\ 0<=cells/\ (cells:Int)<=1000000000000)/\ ((0:Int)<=0/\ 0<=cells/\ cells<=((([0,1,2]:List Int).length:Nat):Int)) then
  if (cells).toNat=(List.replicate ((cells).toNat) ([]:List Int)).length then
   some (⟨cells,3,([1,2,3]:List Int),(List.replicate ((cells).toNat) ([]:List Int)),([(⟨1,(([0,1,2]:List Int).take ((cells).toNat)).drop 0,0,0,0,0,([]:List Int),0,0⟩:AB)]:List AB)⟩:AA)
  else none
 else none
def Um (n:Nat) (cells:Int):Option AA:=v8 n cells
theorem JT {n:Nat} {cells:Int} {r:AA} (h:Um n cells=some r):EQ 41 [.i cells] [] (.agg 5 (L1 (AD r))) [] true:=by
 refine ot Tryz.func41 fun B N=>?_
 revert r;apply gO;exact gc (gi (ja 7 2 1 (me (c:=BD) (x:=([]:List Int)) (n:=(cells).toNat) (l:=[.nils]) ⟨AN.ints_nil,trivial⟩) (jt (jz 9 4 (jg (by decide:3=([0,1,2]:List Int).length) (gi (ja 13 5 9 (V4 (c:=AG) (L:=([(⟨1,(([0,1,2]:List Int).take ((cells).toNat)).drop 0,0,0,0,0,([]:List Int),0,0⟩:AB)]:List AB)) (vals:=[.agg 9 (L1 [.i 1,.ints ((([0,1,2]:List Int).take ((cells).toNat)).drop 0),.i 0,.i 0,.i 0,.i 0,.nils,.i 0,.i 0])]) rfl ⟨⟨_,rfl,⟨BY,BY,BY,BY,BY,BY,AN.ints_nil,BY,BY,trivial⟩⟩,trivial⟩) (jt (jt (gn fun g2=>lF fun p=>ez AE [2] [0,1,2,5] p [1,2,3] (H0.g (by decide:3=([1,2,3]:List Int).length) |>.g g2 |>.g (Eq.refl 1))))))))))))
def Xt (y1 y2 y3:AA):DH:=[some (.cells (AD y1)),some (.cells (AD y2)),some (.cells [.i y3.cells,.i y3.symbols,.ints y3.values,.sl 1 y3.nbrs.length (Ak BD y3.nbrs),.nils]),none]
def Xs (y1 y2 y3:AA):DH:=[some (.cells (AD y1)),some (.cells (AD y2)),some (.cells [.i y3.cells,.i y3.symbols,.ints y3.values,.sl 1 y3.nbrs.length (Ak BD y3.nbrs),.nils]),none,none]
def Xr (y1 y2 y3:AA):DH:=[some (.cells (AD y1)),some (.cells (AD y2)),some (.cells [.i y3.cells,.i y3.symbols,.ints y3.values,.sl 1 y3.nbrs.length (Ak BD y3.nbrs),.nils]),none,none,none]
def Xq (y1 y2 y3:AA):DH:=[some (.cells (AD y1)),some (.cells (AD y2)),some (.cells [.i y3.cells,.i y3.symbols,.ints y3.values,.sl 1 y3.nbrs.length (Ak BD y3.nbrs),.nils]),none,none,none,none]
def Xp (y1 y2 y3:AA):DH:=[some (.cells (AD y1)),some (.cells (AD y2)),some (.cells [.i y3.cells,.i y3.symbols,.ints y3.values,.sl 1 y3.nbrs.length (Ak BD y3.nbrs),.nils]),none,none,none,none,none]
def Xo (y1 y2 y3:AA):DH:=[some (.cells (AD y1)),some (.cells (AD y2)),some (.cells [.i y3.cells,.i y3.symbols,.ints y3.values,.sl 1 y3.nbrs.length (Ak BD y3.nbrs),.nils]),none,none,none,none,none,none]
def NS (y1 y2 y3:AA):DH:=[some (.cells (AD y1)),some (.cells (AD y2)),some (.cells [.i y3.cells,.i y3.symbols,.ints y3.values,.sl 1 y3.nbrs.length (Ak BD y3.nbrs),.nils]),none,none,none,none,none,none,none,none]
def Xn (y1 y2 y3:AA):DH:=[some (.cells (AD y1)),some (.cells (AD y2)),some (.cells [.i y3.cells,.i y3.symbols,.ints y3.values,.sl 1 y3.nbrs.length (Ak BD y3.nbrs),.nils]),none,none,none,none,none,none,none,none,some (.ints ([1,2]:List Int))]
def sM (y1 y2 y3:AA):DH:=[some (.cells (AD y1)),some (.cells (AD y2)),some (.cells [.i y3.cells,.i y3.symbols,.ints y3.values,.sl 1 y3.nbrs.length (Ak BD y3.nbrs),.nils]),none,none,none,none,none,none,none,none,some (.ints ([1,2]:List Int)),some (.ints ([1,2,4]:List Int))]
def sL (y1 y2 y3:AA):DH:=[some (.cells (AD y1)),some (.cells (AD y2)),some (.cells [.i y3.cells,.i y3.symbols,.ints y3.values,.sl 1 y3.nbrs.length (Ak BD y3.nbrs),.nils]),none,none,none,none,none,none,none,none,some (.ints ([1,2]:List Int)),some (.ints ([1,2,4]:List Int)),some (.ints ([0,0]:List Int))]
def sQ (y1 y2 y3:AA):DH:=[some (.cells (AD y1)),some (.cells (AD y2)),some (.cells [.i y3.cells,.i y3.symbols,.ints y3.values,.sl 1 y3.nbrs.length (Ak BD y3.nbrs),.nils]),none,none,none,none,none,none,none,none,some (.ints ([1,2]:List Int)),some (.ints ([1,2,4]:List Int)),some (.ints ([0,0]:List Int)),some (.ints ([1,1]:List Int))]
def sP (y1 y2 y3:AA):DH:=[some (.cells (AD y1)),some (.cells (AD y2)),some (.cells [.i y3.cells,.i y3.symbols,.ints y3.values,.sl 1 y3.nbrs.length (Ak BD y3.nbrs),.nils]),none,none,none,none,none,none,none,none,some (.ints ([1,2]:List Int)),some (.ints ([1,2,4]:List Int)),some (.ints ([0,0]:List Int)),some (.ints ([1,1]:List Int)),some (.ints ([0,0]:List Int))]
def sO (y1 y2 y3:AA):DH:=[some (.cells (AD y1)),some (.cells (AD y2)),some (.cells [.i y3.cells,.i y3.symbols,.ints y3.values,.sl 1 y3.nbrs.length (Ak BD y3.nbrs),.nils]),none,none,none,none,none,none,none,none,some (.ints ([1,2]:List Int)),some (.ints ([1,2,4]:List Int)),some (.ints ([0,0]:List Int)),some (.ints ([1,1]:List Int)),some (.ints ([0,0]:List Int)),some (.ints ([0,0]:List Int))]
def sN (y1 y2 y3:AA):DH:=[some (.cells (AD y1)),some (.cells (AD y2)),some (.cells [.i y3.cells,.i y3.symbols,.ints y3.values,.sl 1 y3.nbrs.length (Ak BD y3.nbrs),.nils]),none,none,none,none,none,none,none,none,some (.ints ([1,2]:List Int)),some (.ints ([1,2,4]:List Int)),some (.ints ([0,0]:List Int)),some (.ints ([1,1]:List Int)),some (.ints ([0,0]:List Int)),some (.ints ([0,0]:List Int)),some (.ints ([0]:List Int))]
def bH (n:Nat):Option Bool:=
 (Um n 3).bind fun y1=>
  (Um n 2).bind fun y2=>
   (Um n 2).bind fun y3=>
    (H5 n y1 ([1,3,7]:List Int) 1).bind fun y4=>
     (WV n y1 ([1,3,7]:List Int) 4).bind fun y5=>
      (H5 n y2 ([1,1]:List Int) 0).bind fun y6=>
       (H5 n y2 ([1,1]:List Int) 1).bind fun y7=>
        (H5 n (⟨y3.cells,y3.symbols,y3.values,y3.nbrs,([]:List AB)⟩:AA) ([3,0]:List Int) 4).bind fun y8=>
         (WV n y2 ([1,3]:List Int) 1).bind fun y9=>
          (Rf n y2 ([1,1]:List Int) ([2]:List Int) 1).bind fun Ze=>
           (L9 n (⟨0,0,([]:List Int),([]:List (List Int)),([]:List AB)⟩:AA) ([]:List Int) 1).bind fun Zd=>
            (L9 n y2 ([1,2]:List Int) 1).bind fun VQ=>
             bif (y4.2==0) then
              bif (y5.2==0) then
               bif (y6.2==0) then
                bif (y7.2==0) then
                 bif (y8.2==0) then
                  bif (y9.2==0) then
                   bif (Ze.2==1) then
                    bif (Zd.2==191) then
                     bif (VQ.2==0) then
                      bif VQ.1 then
                       (HQ n y4.1 ([1,2,4]:List Int)).bind fun Zc=>
                        bif Zc then
                         (HQ n y5.1 ([0,0]:List Int)).bind fun Zb=>
                          bif Zb then
                           (HQ n y6.1 ([1,1]:List Int)).bind fun Za=>
                            bif Za then
                             (HQ n y7.1 ([0,0]:List Int)).bind fun ZZ=>
                              bif ZZ then
                               (HQ n y8.1 ([0,0]:List Int)).bind fun ZY=>
                                bif ZY then
                                 (HQ n y9.1 ([0]:List Int)).bind fun ZX=>
                                  some ZX
                                else
                                 some false
                              else
                               some false
                            else
                             some false
                          else
                           some false
                        else
                         some false
                      else
                       some false
                     else
                      some false
                    else
                     some false
                   else
                    some false
                  else
                   some false
                 else
                  some false
                else
                 some false
               else
                some false
              else
               some false
             else
              some false
def Ml (n:Nat):Option Bool:=bH n
theorem kY {n:Nat} {r:Bool} (h:Ml n=some r):EQ 15 [] [] (.bool r) [] true:=by
 unfold Ml bH at h;refine ot Tryz.func15 fun B N=>?_
 revert r;apply gO;exact cn fun y1 A5=>jc (fb (JT A5) []) (cn fun y2 CQ=>jc (fb (JT CQ) []) (cn fun y3 QD=>jc (fb (JT QD) []) (jt (jt (jt (jt (jz 29 3 (jg (by decide:3=([1,3,7]:List Int).length) (cn fun y4 QC=>jc (fb (GD QC) (Xt y1 y2 y3)) (jz 35 4 (jg (by decide:3=([1,3,7]:List Int).length) (cn fun y5 QB=>jc (fb (M0 QB) (Xs y1 y2 y3)) (jz 41 5 (jg (by decide:2=([1,1]:List Int).length) (cn fun y6 XS=>jc (fb (GD XS) (Xr y1 y2 y3)) (jz 47 6 (jg (by decide:2=([1,1]:List Int).length) (cn fun y7 XR=>jc (fb (GD XR) (Xq y1 y2 y3)) (jz 53 7 (jg (by decide:2=([3,0]:List Int).length) (cn fun y8 XQ=>jc (fb (ES.argsLe (ds:=[.agg 5 (L1 [.i y3.cells,.i y3.symbols,.ints y3.values,.sl 1 y3.nbrs.length (Ak BD y3.nbrs),.nils]),.ints ([3,0]:List Int),.i 4]) (GD XQ) ⟨(AN.aggL (l:=[.i y3.cells,.i y3.symbols,.ints y3.values,.sl 1 y3.nbrs.length (Ak BD y3.nbrs),.nils]) (l':=[.i y3.cells,.i y3.symbols,.ints y3.values,.sl 1 y3.nbrs.length (Ak BD y3.nbrs),.sl 9 (([]:List AB).length) (Ak AG ([]:List AB))]) rfl ⟨BY,BY,BY,BY,(AN.sl_nil _ _),trivial⟩),BY,BY,trivial⟩) (Xp y1 y2 y3)) (jz 59 8 (jg (by decide:2=([1,3]:List Int).length) (cn fun y9 XP=>jc (fb (M0 XP) (Xo y1 y2 y3)) (jz 65 9 (jg (by decide:2=([1,1]:List Int).length) (jz 66 10 (jg (by decide:1=([2]:List Int).length) (cn fun Ze XV=>jc (fb (VH XV) (NS y1 y2 y3)) (cn fun Zd XU=>jc (sb [.agg 5 (L1 [.i 0,.i 0,.nils,.nils,.nils]),.nils,.i 1] (L8 XU) (NS y1 y2 y3) ⟨(Ad.dle (by kernel_rfl) (AN.aggL (l:=[.i 0,.i 0,.nils,.nils,.nils]) (l':=[.i 0,.i 0,.ints ([]:List Int),.sl 1 (([]:List (List Int)).length) (Ak BD ([]:List (List Int))),.sl 9 (([]:List AB).length) (Ak AG ([]:List AB))]) rfl ⟨BY,BY,AN.ints_nil,(AN.sl_nil _ _),(AN.sl_nil _ _),trivial⟩)),Ad.nils,Ad.plain (by kernel_rfl),trivial⟩) (cn fun VQ XT=>jc (sb [.agg 5 (L1 (AD y2)),.msl 11 1 0 2,.i 1] (L8 XT) (Xn y1 y2 y3) ⟨Ad.plain (by kernel_rfl),Ad.ints rfl (by decide:2=([1,2]:List Int).length),Ad.plain (by kernel_rfl),trivial⟩) (bj 82 (fun c0=>bj 85 (fun c1=>bj 89 (fun c2=>bj 93 (fun c3=>bj 97 (fun c4=>bj 101 (fun c5=>bj 105 (fun c6=>bj 109 (fun c7=>bj 113 (fun c8=>bn (fun c9=>rO (jc (fb (JT A5) []) (jc (fb (JT CQ) []) (jc (fb (JT QD) []) (jt (jt (jt (jt (jz 29 3 (jg (by decide:3=([1,3,7]:List Int).length) (jc (fb (GD QC) (Xt y1 y2 y3)) (jz 35 4 (jg (by decide:3=([1,3,7]:List Int).length) (jc (fb (M0 QB) (Xs y1 y2 y3)) (jz 41 5 (jg (by decide:2=([1,1]:List Int).length) (jc (fb (GD XS) (Xr y1 y2 y3)) (jz 47 6 (jg (by decide:2=([1,1]:List Int).length) (jc (fb (GD XR) (Xq y1 y2 y3)) (jz 53 7 (jg (by decide:2=([3,0]:List Int).length) (jc (fb (ES.argsLe (ds:=[.agg 5 (L1 [.i y3.cells,.i y3.symbols,.ints y3.values,.sl 1 y3.nbrs.length (Ak BD y3.nbrs),.nils]),.ints ([3,0]:List Int),.i 4]) (GD XQ) ⟨(AN.aggL (l:=[.i y3.cells,.i y3.symbols,.ints y3.values,.sl 1 y3.nbrs.length (Ak BD y3.nbrs),.nils]) (l':=[.i y3.cells,.i y3.symbols,.ints y3.values,.sl 1 y3.nbrs.length (Ak BD y3.nbrs),.sl 9 (([]:List AB).length) (Ak AG ([]:List AB))]) rfl ⟨BY,BY,BY,BY,(AN.sl_nil _ _),trivial⟩),BY,BY,trivial⟩) (Xp y1 y2 y3)) (jz 59 8 (jg (by decide:2=([1,3]:List Int).length) (jc (fb (M0 XP) (Xo y1 y2 y3)) (jz 65 9 (jg (by decide:2=([1,1]:List Int).length) (jz 66 10 (jg (by decide:1=([2]:List Int).length) (jc (fb (VH XV) (NS y1 y2 y3)) (jc (sb [.agg 5 (L1 [.i 0,.i 0,.nils,.nils,.nils]),.nils,.i 1] (L8 XU) (NS y1 y2 y3) ⟨(Ad.dle (by kernel_rfl) (AN.aggL (l:=[.i 0,.i 0,.nils,.nils,.nils]) (l':=[.i 0,.i 0,.ints ([]:List Int),.sl 1 (([]:List (List Int)).length) (Ak BD ([]:List (List Int))),.sl 9 (([]:List AB).length) (Ak AG ([]:List AB))]) rfl ⟨BY,BY,AN.ints_nil,(AN.sl_nil _ _),(AN.sl_nil _ _),trivial⟩)),Ad.nils,Ad.plain (by kernel_rfl),trivial⟩) (jc (sb [.agg 5 (L1 (AD y2)),.msl 11 1 0 2,.i 1] (L8 XT) (Xn y1 y2 y3) ⟨Ad.plain (by kernel_rfl),Ad.ints rfl (by decide:2=([1,2]:List Int).length),Ad.plain (by kernel_rfl),trivial⟩) (jb 79 c9 (jb 82 c0 (jb 85 c1 (jb 89 c2 (jb 93 c3 (jb 97 c4 (jb 101 c5 (jb 105 c6 (jb 109 c7 (jb 113 c8 (cn fun Zc rC=>jc (sb [.ints y4.1,.msl 12 1 0 3] (Jq rC) (sM y1 y2 y3) ⟨Ad.plain (by kernel_rfl),Ad.ints rfl (by decide:3=([1,2,4]:List Int).length),trivial⟩) (bi 122 (cn fun Zb rB=>jc (sb [.ints y5.1,.msl 13 1 0 2] (Jq rB) (sL y1 y2 y3) ⟨Ad.plain (by kernel_rfl),Ad.ints rfl (by decide:2=([0,0]:List Int).length),trivial⟩) (bi 127 (cn fun Za rA=>jc (sb [.ints y6.1,.msl 14 1 0 2] (Jq rA) (sQ y1 y2 y3) ⟨Ad.plain (by kernel_rfl),Ad.ints rfl (by decide:2=([1,1]:List Int).length),trivial⟩) (bi 132 (cn fun ZZ q9=>jc (sb [.ints y7.1,.msl 15 1 0 2] (Jq q9) (sP y1 y2 y3) ⟨Ad.plain (by kernel_rfl),Ad.ints rfl (by decide:2=([0,0]:List Int).length),trivial⟩) (bi 137 (cn fun ZY q8=>jc (sb [.ints y8.1,.msl 16 1 0 2] (Jq q8) (sO y1 y2 y3) ⟨Ad.plain (by kernel_rfl),Ad.ints rfl (by decide:2=([0,0]:List Int).length),trivial⟩) (bi 142 (cn fun ZX q7=>jc (sb [.ints y9.1,.msl 17 1 0 1] (Jq q7) (sN y1 y2 y3) ⟨Ad.plain (by kernel_rfl),Ad.ints rfl (by decide:1=([0]:List Int).length),trivial⟩) (lE AE [0] [])) (lE AE [0] []))) (lE AE [0] []))) (lE AE [0] []))) (lE AE [0] []))) (lE AE [0] [])))))))))))))))))))))))))))))))))))))))))))))) (fun c9=>rO (jc (fb (JT A5) []) (jc (fb (JT CQ) []) (jc (fb (JT QD) []) (jt (jt (jt (jt (jz 29 3 (jg (by decide:3=([1,3,7]:List Int).length) (jc (fb (GD QC) (Xt y1 y2 y3)) (jz 35 4 (jg (by decide:3=([1,3,7]:List Int).length) (jc (fb (M0 QB) (Xs y1 y2 y3)) (jz 41 5 (jg (by decide:2=([1,1]:List Int).length) (jc (fb (GD XS) (Xr y1 y2 y3)) (jz 47 6 (jg (by decide:2=([1,1]:List Int).length) (jc (fb (GD XR) (Xq y1 y2 y3)) (jz 53 7 (jg (by decide:2=([3,0]:List Int).length) (jc (fb (ES.argsLe (ds:=[.agg 5 (L1 [.i y3.cells,.i y3.symbols,.ints y3.values,.sl 1 y3.nbrs.length (Ak BD y3.nbrs),.nils]),.ints ([3,0]:List Int),.i 4]) (GD XQ) ⟨(AN.aggL (l:=[.i y3.cells,.i y3.symbols,.ints y3.values,.sl 1 y3.nbrs.length (Ak BD y3.nbrs),.nils]) (l':=[.i y3.cells,.i y3.symbols,.ints y3.values,.sl 1 y3.nbrs.length (Ak BD y3.nbrs),.sl 9 (([]:List AB).length) (Ak AG ([]:List AB))]) rfl ⟨BY,BY,BY,BY,(AN.sl_nil _ _),trivial⟩),BY,BY,trivial⟩) (Xp y1 y2 y3)) (jz 59 8 (jg (by decide:2=([1,3]:List Int).length) (jc (fb (M0 XP) (Xo y1 y2 y3)) (jz 65 9 (jg (by decide:2=([1,1]:List Int).length) (jz 66 10 (jg (by decide:1=([2]:List Int).length) (jc (fb (VH XV) (NS y1 y2 y3)) (jc (sb [.agg 5 (L1 [.i 0,.i 0,.nils,.nils,.nils]),.nils,.i 1] (L8 XU) (NS y1 y2 y3) ⟨(Ad.dle (by kernel_rfl) (AN.aggL (l:=[.i 0,.i 0,.nils,.nils,.nils]) (l':=[.i 0,.i 0,.ints ([]:List Int),.sl 1 (([]:List (List Int)).length) (Ak BD ([]:List (List Int))),.sl 9 (([]:List AB).length) (Ak AG ([]:List AB))]) rfl ⟨BY,BY,AN.ints_nil,(AN.sl_nil _ _),(AN.sl_nil _ _),trivial⟩)),Ad.nils,Ad.plain (by kernel_rfl),trivial⟩) (jc (sb [.agg 5 (L1 (AD y2)),.msl 11 1 0 2,.i 1] (L8 XT) (Xn y1 y2 y3) ⟨Ad.plain (by kernel_rfl),Ad.ints rfl (by decide:2=([1,2]:List Int).length),Ad.plain (by kernel_rfl),trivial⟩) (jb 79 c9 (jb 82 c0 (jb 85 c1 (jb 89 c2 (jb 93 c3 (jb 97 c4 (jb 101 c5 (jb 105 c6 (jb 109 c7 (jb 113 c8 (lE AE [0] []))))))))))))))))))))))))))))))))))))))))))))) (fun _=>lE AE [0] [])) (fun _=>lE AE [0] [])) (fun _=>lE AE [0] [])) (fun _=>lE AE [0] [])) (fun _=>lE AE [0] [])) (fun _=>lE AE [0] [])) (fun _=>lE AE [0] [])) (fun _=>lE AE [0] [])) (fun _=>lE AE [0] [])))))))))))))))))))))))))))))))))
end Go.Proofs.YtekkngkphejfcaaGreatDoor
namespace Go.Proofs.YtekkngkphejfcaaGreatDoor
open Go.RowKit
section
variable {q:AA} {pos cells:List Int} {level:Int}
theorem kZ:Ev Ml true:=⟨300,fun n hn=>by
 obtain ⟨k,rfl⟩: ∃ k,n=k+300:=⟨n-300,by omega⟩
 show Ml (k+300)=some true
 kernel_rfl⟩
end
end Go.Proofs.YtekkngkphejfcaaGreatDoor
namespace Go.Proofs.YtekkngkphejfcaaGreatDoor
open Go.RowKit
set_option maxRecDepth 100000
set_option maxHeartbeats 40000000
def cC (n:Nat) (pos:List Int):Option ((List Int)):=
 (Se n pos).bind fun y1=>
  bif y1 then
   if ((pos.length:Int):Int)=(pos.length:Int)/\ 0<=(pos.length:Int)/\ ((pos.length:Int):Int)<=1000000000000 then
    if pos.length=(List.replicate pos.length (0:Int)).length then
     some (List.replicate pos.length (0:Int))
    else none
   else none
  else
   some pos
def PL (n:Nat) (pos:List Int):Option ((List Int)):=cC n pos
theorem ni {n:Nat} {pos:List Int} {r:(List Int)} (h:PL n pos=some r):EQ 27 [.ints pos] [] (.ints r) [] true:=by
 unfold PL cC at h;refine ot Tryz.func27 fun B N=>?_
 revert r;apply gO;exact cf nj [] fun _=>bi 4 (gi (gn fun g1=>lF fun p=>ez AE [2] [0] p [0] (H0.g g1))) (lE AE [2] [])
theorem lJ:Aj (BA Tryz.f30 6) [] (List.range 14) []:=by unfold Aj;kernel_rfl
def Ov:BU:=fun i=>match i with
 | 6=>.ord [] (List.range 14) []
 | _=>.no
inductive Sc where
 | l1 (x5:Int)
def PK (n:Nat) (self:Sc -> Option Bool) (a b_:List Int) (x5:Int):Option Bool:=
 bif (decide (x5<(a.length:Int))) then
  if (0<=x5/\ x5<(a.length:Int))/\ (0<=x5/\ x5<(b_.length:Int)) then
   bif ((bits .and .i64 (a.getD ((x5).toNat) 0) (b_.getD ((x5).toNat) 0)) != (a.getD ((x5).toNat) 0)) then
    some false
   else
    if AH (x5+1) then
     self (.l1 (x5+1))
    else none
  else none
 else
  some true
def cA (n:Nat) (self:Sc -> Option Bool) (a b_:List Int):Option Bool:=
 bif ((a.length:Int) != (b_.length:Int)) then
  some false
 else
  self (.l1 0)
def Mv (a b_:List Int):Nat -> Sc -> Option Bool
 | 0,_=>none
 | n+1,.l1 x5=>PK n (Mv a b_ n) a b_ x5
def LG (n:Nat) (a b_:List Int):Option Bool:=cA n (Mv a b_ n) a b_
def nf (n B:Nat) (N:Yd 0) (a b_:List Int) (r:Bool):Sc -> Prop
 | .l1 x5=>∀ m0:Nat,n<=m0 -> TW B N (FQ Tryz.f30 0 (.bool r) []) (Ai m0 (Ap (AZ Tryz.f30) 0 [])) ⟨AL 31 [(0,.ints a),(1,.ints b_),(5,.i x5)],[]⟩
theorem nh (B:Nat) (N:Yd 0) (a b_:List Int):Al (Mv a b_) (nf · B N a b_):=ia (fun _=>rfl) fun n AF pt r h=>by
 cases pt
 case l1 x5=>
  intro m0 AC;refine rd AC fun m0 AC=>?_
  revert r;apply gO;exact bi 14 (jg lJ (gc (gn fun g0=>jg g0 (gi (jg g0 (bi 30 (lE Ov [4] []) (gw 16 (lG Ov [] (AF _ _ · m0 AC))))))))) (lE Ov [4] [])
theorem na {n:Nat} {a b_:List Int} {r:Bool} (h:LG n a b_=some r):EQ 30 [.ints a,.ints b_] [] (.bool r) [] true:=by
 refine ot Tryz.func30 fun B N=>?_
 revert r;apply gO;exact bi 10 (lE Ov [4] []) (lN Ov [] ((nh B N a b_ n) _ _ · n Nat.le.refl))
def VY (n:Nat) (q:AA) (pos:List Int):Option Bool:=
 (Qu n q pos).bind fun y1=>
  bif y1 then
   (Oz n q).bind fun y2=>
    bif (y2==0) then
     (SJ n q pos).bind fun y3=>
      some (y3==0)
    else
     some false
  else
   some false
def Iq (n:Nat) (q:AA) (pos:List Int):Option Bool:=VY n q pos
theorem jT {n:Nat} {q:AA} {pos:List Int} {r:Bool} (h:Iq n q pos=some r):EQ 26 [.agg 5 (L1 (AD q)),.ints pos] [] (.bool r) [] true:=by
 unfold Iq VY at h;refine ot Tryz.func26 fun B N=>?_
 revert r;apply gO;exact cf vf [some (.cells (AD q))] fun _=>bi 7 (cf bN [some (.cells (AD q))] fun _=>bi 11 (cf mY [some (.cells (AD q))] fun _=>lE AE [4] []) (lE AE [4] [])) (lE AE [4] [])
theorem kn:Aj (BA Tryz.f28 1) [([0,1,2,3,4,5],6)] [7] []:=by unfold Aj;kernel_rfl
def Ot:BU:=fun i=>match i with
 | 1=>.ord [([0,1,2,3,4,5],6)] [7] []
 | _=>.no
def Og (n:Nat) (i_:Int) (q:AA) (level:Int) (x:List Int):Option (Bool×(List Int)):=
 if 0<=i_/\ i_<(q.cons.length:Int) then
  (MY n (q.cons.getD ((i_).toNat) default) level).bind fun y1=>
   bif (!y1) then
    some (true,x)
   else
    (IS n q i_ x).bind fun y2=>
     bif (y2.2 != 0) then
      some (false,x)
     else
      bif ((y2.1.length:Int) != (x.length:Int)) then
       some (false,x)
      else
       (LG n y2.1 x).bind fun y3=>
        bif (!y3) then
         some (false,x)
        else
         some (true,y2.1)
 else none
def Mf (n:Nat) (i_:Int) (q:AA) (level:Int) (x:List Int):Option (Bool×(List Int)):=Og n i_ q level x
theorem ap {n:Nat} {i_:Int} {q:AA} {level:Int} {x:List Int} {r:Bool×(List Int)} (h:Mf n i_ q level x=some r):EQ 28 [.i i_,.ref 0 0,.ref 1 0,.ref 2 0] [some (.cells (AD q)),some (.cells [.i level]),some (.cells [.ints x])] (.bool r.1) [some (.cells (AD q)),some (.cells [.i level]),some (.cells [.ints r.2])] false:=by
 refine ot Tryz.func28 fun B N=>?_
 revert r;apply gO;exact jg kn (gi (cf je [some (.cells (AD q)),some (.cells [.i level]),some (.cells [.ints x])] fun _=>bi 15 (lE Ot [5] [0,1,2]) (cf WL [some (.cells (AD q)),some (.cells [.i level]),some (.cells [.ints x])] fun _=>bi 24 (lE Ot [5] [0,1,2]) (bi 30 (lE Ot [5] [0,1,2]) (cf na [some (.cells (AD q)),some (.cells [.i level]),some (.cells [.ints x])] fun _=>bi 36 (lE Ot [5] [0,1,2]) (jt (lE Ot [5] [0,1,2])))))))
inductive NC where
 | l1 (x9:List Int) (Fv:Int) (Ax:List Int)
 | l2 (x9:List Int) (As:Bool) (Ax:List Int)
 | l3 (x9 Eb:List Int) (Bv:Int) (Ax:List Int)
def Lg (n:Nat) (self:NC -> Option Bool) (q:AA) (pos:List Int) (level:Int) (Av:List Int) (x9:List Int) (Fv:Int) (Ax:List Int):Option Bool:=
 bif (decide (Fv<(Av.length:Int))) then
  if 0<=Fv/\ Fv<(Av.length:Int) then
   bif (decide ((q.cons.length:Int)>0)) then
    if (q.cons.length:Int)≠0 then
     (Mf n (Int.tmod (IntKind.i64.wrap (Av.getD ((Fv).toNat) default)) (q.cons.length:Int)) q level Ax).bind fun y1=>
      bif (!y1.1) then
       some false
      else
       if AH (Fv+1) then
        self (.l1 x9 (Fv+1) y1.2)
       else none
    else none
   else
    if AH (Fv+1) then
     self (.l1 x9 (Fv+1) Ax)
    else none
  else none
 else
  self (.l2 x9 true Ax)
def Pz (n:Nat) (self:NC -> Option Bool) (q:AA) (pos:List Int) (level:Int) (Av:List Int) (x9:List Int) (As:Bool) (Ax:List Int):Option Bool:=
 bif As then
  if AH ((q.cons.length:Int)-1) then
   self (.l3 x9 Ax ((q.cons.length:Int)-1) Ax)
  else none
 else
  (HQ n Ax x9).bind fun y1=>
   some y1
def Py (n:Nat) (self:NC -> Option Bool) (q:AA) (pos:List Int) (level:Int) (Av:List Int) (x9 Eb:List Int) (Bv:Int) (Ax:List Int):Option Bool:=
 bif (decide (Bv>=0)) then
  (Mf n Bv q level Ax).bind fun y1=>
   bif (!y1.1) then
    some false
   else
    if AH (Bv-1) then
     self (.l3 x9 Eb (Bv-1) y1.2)
    else none
 else
  (HQ n Eb Ax).bind fun y1=>
   self (.l2 x9 (!y1) Ax)
def pq (n:Nat) (self:NC -> Option Bool) (q:AA) (pos:List Int) (level:Int) (Av:List Int):Option Bool:=
 (Ml n).bind fun y1=>
  bif (!y1) then
   some false
  else
   (Iq n q pos).bind fun y2=>
    bif (!y2) then
     some true
    else
     bif (decide ((Av.length:Int)>200)) then
      some true
     else
      (H5 n q pos level).bind fun y3=>
       (L9 n q y3.1 level).bind fun y4=>
        bif (y3.2 != 0) then
         some false
        else
         bif (y4.2 != 0) then
          some false
         else
          bif (!y4.1) then
           some false
          else
           (PL n pos).bind fun y5=>
            self (.l1 y3.1 0 y5)
def EN (q:AA) (pos:List Int) (level:Int) (Av:List Int):Nat -> NC -> Option Bool
 | 0,_=>none
 | n+1,.l1 x9 Fv Ax=>Lg n (EN q pos level Av n) q pos level Av x9 Fv Ax
 | n+1,.l2 x9 As Ax=>Pz n (EN q pos level Av n) q pos level Av x9 As Ax
 | n+1,.l3 x9 Eb Bv Ax=>Py n (EN q pos level Av n) q pos level Av x9 Eb Bv Ax
def dj (n:Nat) (q:AA) (pos:List Int) (level:Int) (Av:List Int):Option Bool:=pq n (EN q pos level Av n) q pos level Av
def pv (n B:Nat) (N:Yd 0) (q:AA) (pos:List Int) (level:Int) (Av:List Int) (r:Bool):NC -> Prop
 | .l1 x9 Fv Ax=>∀ m0:Nat,n<=m0 -> TW B N (FQ Tryz.f6 0 (.bool r) []) (Ai m0 (Ap (AZ Tryz.f6) 0 [])) ⟨AL 101 [(4,.ref 0 0),(9,.ints x9),(13,.ref 1 0),(14,.fn 28 3 (L1 [.ref 0 0,.ref 2 0,.ref 1 0])),(58,.sl 1 Av.length (Ak (fun (x:Int)=>[.int .u8 x]) Av)),(59,.i (Av.length:Int)),(60,.i Fv)],[some (.cells (AD q)),some (.cells [.ints Ax]),some (.cells [.i level])]⟩
 | .l2 x9 As Ax=>∀ m0:Nat,n<=m0 -> TW B N (FQ Tryz.f6 0 (.bool r) []) (Ai m0 (Ap (AZ Tryz.f6) 2 [])) ⟨AL 101 [(4,.ref 0 0),(9,.ints x9),(13,.ref 1 0),(14,.fn 28 3 (L1 [.ref 0 0,.ref 2 0,.ref 1 0])),(17,.bool As)],[some (.cells (AD q)),some (.cells [.ints Ax]),some (.cells [.i level])]⟩
 | .l3 x9 Eb Bv Ax=>∀ m0 m1:Nat,n<=m0 -> n<=m1 -> TW B N (FQ Tryz.f6 0 (.bool r) []) (Ai m1 (Ap (AZ Tryz.f6) 4 [m0])) ⟨AL 101 [(4,.ref 0 0),(9,.ints x9),(13,.ref 1 0),(14,.fn 28 3 (L1 [.ref 0 0,.ref 2 0,.ref 1 0])),(18,.ints Eb),(19,.i Bv)],[some (.cells (AD q)),some (.cells [.ints Ax]),some (.cells [.i level])]⟩
theorem pw (B:Nat) (N:Yd 0) (q:AA) (pos:List Int) (level:Int) (Av:List Int):Al (EN q pos level Av) (pv · B N q pos level Av):=ia (fun _=>rfl) fun n AF pt r h=>by
 cases pt
 case l1 x9 Fv Ax=>
  intro m0 AC;refine rd AC fun m0 AC=>?_
  revert r;apply gO;exact bi 61 (gi (bi 67 (gi (ce ap [0,2,1] [some (.cells (AD q)),some (.cells [.ints Ax]),some (.cells [.i level])] fun _=>bi 77 (lE AE [8] []) (gw 79 (lG AE [0,1,2] (AF _ _ · m0 AC))))) (gw 79 (lG AE [0,1,2] (AF _ _ · m0 AC))))) (lN AE [0,1,2] (AF _ _ · n Nat.le.refl))
 case l2 x9 As Ax=>
  intro m0 AC;refine rd AC fun m0 AC=>?_
  revert r;apply gO;exact bi 80 (gw 85 (lN AE [0,1,2] (AF _ _ · m0 n AC Nat.le.refl))) (cf Jq [some (.cells (AD q)),some (.cells [.ints Ax]),some (.cells [.i level])] fun _=>lE AE [8] [])
 case l3 x9 Eb Bv Ax=>
  intro m0 m1 AC Af;have AC:=yw AC;refine rd Af fun m1 Af=>?_
  revert r;apply gO;exact bi 87 (ce ap [0,2,1] [some (.cells (AD q)),some (.cells [.ints Ax]),some (.cells [.i level])] fun _=>bi 93 (lE AE [8] []) (gw 89 (lG AE [0,1,2] (AF _ _ · m0 m1 AC Af)))) (cf Jq [some (.cells (AD q)),some (.cells [.ints Ax]),some (.cells [.i level])] fun _=>lG AE [0,1,2] (AF _ _ · m0 AC))
theorem pp {n:Nat} {q:AA} {pos:List Int} {level:Int} {Av:List Int} {r:Bool} (h:dj n q pos level Av=some r):EQ 6 [.agg 5 (L1 (AD q)),.ints pos,.i level,.sl 1 Av.length (Ak (fun (x:Int)=>[.int .u8 x]) Av)] [] (.bool r) [] true:=by
 refine ot Tryz.func6 fun B N=>?_
 revert r;apply gO;exact cf kY [some (.cells (AD q)),some (.cells [.i level])] fun _=>bi 21 (lE AE [8] []) (cf jT [some (.cells (AD q)),some (.cells [.i level])] fun _=>bi 25 (lE AE [8] []) (bi 29 (lE AE [8] []) (cf GD [some (.cells (AD q)),some (.cells [.i level])] fun _=>cf L8 [some (.cells (AD q)),some (.cells [.i level])] fun _=>bi 46 (lE AE [8] []) (bi 49 (lE AE [8] []) (bi 53 (lE AE [8] []) (cf ni [some (.cells (AD q)),some (.cells [.i level])] fun _=>jt (lN AE [0,2,1] ((pw B N q pos level Av n) _ _ · n Nat.le.refl))))))))
end Go.Proofs.YtekkngkphejfcaaGreatDoor
namespace Go.Proofs.YtekkngkphejfcaaGreatDoor
open Go.RowKit
section
variable {q:AA} {pos Av w b x y:List Int} {level i:Int}
theorem ve {n:Nat} (hn:q.cons.length<n): ∃ b,Qu n q pos=some b:=by
 obtain ⟨b,hb⟩:=vX (q:=q) (pos:=pos) hn;unfold Qu Yh;rw [hb,yD];cases b with
 | false=>exact ⟨_,rfl⟩
 | true=>exact ⟨_,rfl⟩
theorem jS (hF:Cq q) (hl:pos.length<=LB):Ab (fun n=>Iq n q pos) (fun b=>b=true -> Ay q pos):=by
 refine ⟨Dl q+pos.length+q.cons.length+1,fun n hn=>?_⟩
 show ∃ b,Iq n q pos=some b/\ _
 unfold Iq VY;obtain ⟨b,hb⟩:=ve (q:=q) (pos:=pos) (n:=n) (by omega);rw [hb,yD];cases b with
 | false=>exact ⟨false,rfl,fun h=>by cases h⟩
 | true=>
  rw [yF,bP hF (by omega),yD];cases (CV (CY q) 191==0) with
  | false=>exact ⟨false,rfl,fun h=>by cases h⟩
  | true=>
   rw [yF,mZ hF (by omega) hl (by omega),yD];exact ⟨_,rfl,fun h=>Ay.of hF (by simpa using h)⟩
theorem jR {n:Nat -> Option Bool} {f:Nat -> Option Bool} (h: ∀ m,n m=(Ml m).bind fun y1=>bif (!y1) then some false else (Iq m q pos).bind fun y2=>bif (!y2) then some true else f m) (hF:Cq q) (hl:pos.length<=LB) (hf:Ay q pos -> Ev f true):Ev n true:=by
 obtain ⟨N1,h1⟩:=kZ;obtain ⟨N2,h2⟩:=jS hF hl
 have hf: ∃ N,∀ m,N<=m -> Ay q pos -> f m=some true:=by
  by_cases hp:Ay q pos
  ·obtain ⟨N,h⟩:=hf hp;exact ⟨N,fun m hm _=>h m hm⟩
  ·exact ⟨0,fun m _ h=>absurd h hp⟩
 obtain ⟨N3,h3⟩:=hf;refine ⟨max N1 (max N2 N3),fun m hm=>?_⟩;obtain ⟨b,hb,uT⟩:=h2 m (by omega);have hb:Iq m q pos=some b:=hb;rw [h m,h1 m (by omega),yD]
 show ((Iq m q pos).bind fun y2=>bif (!y2) then some true else f m)=_
 rw [hb,yD];cases b with
 | false=>rfl
 | true=>exact h3 m (by omega) (uT rfl)
theorem jN {a b:List Int} (hl:a.length=b.length) (E7:a.length<=256) (Fr: ∀ j,Bl (a.getD j 0)) (h: ∀ j s,tb (a.getD j 0) s=true -> tb (b.getD j 0) s=true):Ev (fun n=>LG n a b) true:=by
 have key: ∀ (k i n:Nat),i+k=a.length -> k+1<=n -> Mv a b n (.l1 (i:Int))=some true:=by
  intro k
  induction k with
  | zero=>
   intro i n e hn;obtain ⟨n,rfl⟩: ∃ k,n=k+1:=⟨n-1,by omega⟩
   show PK n (Mv a b n) a b (i:Int)=_
   unfold PK;rw [yA (by omega),yB]
  | succ k ih=>
   intro i n e hn;obtain ⟨n,rfl⟩: ∃ k,n=k+1:=⟨n-1,by omega⟩;have:=ih (i+1) n (by omega) (by omega)
   have e0:bits .and .i64 (a.getD i 0) (b.getD i 0)=a.getD i 0:=Jk (GC .and _ _) (Fr i) fun s _=>by
    rw [IF];cases h1:tb (a.getD i 0) s with
    | false=>rfl
    | true=>rw [h i s h1];rfl
   show PK n (Mv a b n) a b (i:Int)=_
   unfold PK;rw [yI (by omega),yF,yC ⟨⟨by omega,by omega⟩,by omega,by omega⟩,yH,e0,bne_self_eq_false,yB,yC (At.2 ⟨by omega,by omega⟩)];exact this
 refine ⟨a.length+1,fun n hn=>?_⟩;have e:((a.length:Int) != (b.length:Int))=false:=by rw [hl];simp
 show LG n a b=_
 unfold LG cA;rw [e,yB];exact key a.length 0 n (by omega) (by omega)
def nrm (p:List Int):List Int:=if B9 p=true then List.replicate p.length 0 else p
theorem pD (hp:Ay q pos):Ev (fun n=>PL n pos) (nrm pos):=by
 have E7:=hp.len256;have hD:Ev (fun n=>Se n pos) (B9 pos):=⟨300,fun n hn=>nl E7.2 (by omega)⟩;refine Ev.bind hD (Ev.now fun n=>?_);unfold nrm;cases B9 pos with
 | true=>
  show (if ((pos.length:Int):Int)=(pos.length:Int)/\ 0<=(pos.length:Int)/\ ((pos.length:Int):Int)<=1000000000000 then _ else _)=_
  rw [yC ⟨rfl,by omega,by omega⟩,yC yY.symm];rfl
 | false=>rfl
theorem Ay.zero (hp:Ay q pos):Ay q (List.replicate pos.length 0):=by
 refine ⟨hp.fit,hp.valid,(Sr hp.valid).2 ⟨by rw [yY];exact hp.len,fun j _=>?_⟩⟩
 have e:(List.replicate pos.length (0:Int)).getD j 0=0:=by
  rw [u8,zL];split <;> rfl
 rw [e];exact ⟨by omega,Int.pow_pos (by decide)⟩
theorem Ay.nrm (hp:Ay q pos):Ay q (nrm pos):=by
 unfold Proofs.YtekkngkphejfcaaGreatDoor.nrm;split
 ·exact hp.zero
 ·exact hp
theorem Ga.nrm (hp:Ay q pos) {g:List Int} (h:Ga q level pos g):Bq q (Up q level) (nrm pos) g/\ HG q (Up q level) g:=by
 unfold Proofs.YtekkngkphejfcaaGreatDoor.nrm;rcases h with ⟨h1,rfl⟩ | ⟨h1,h2,h3⟩
 ·rw [yC h1];exact ⟨.refl _,gG hp.len256.1⟩
 ·rw [yM (by rw [h1];exact fun h=>by cases h)];exact ⟨h2,h3⟩
theorem Bq.zero {U:Int -> Prop} (h:Bq q U x y):(B9 x=true -> x=List.replicate x.length 0) -> B9 y=true -> y=List.replicate y.length 0:=by
 induction h with
 | refl p=>exact id
 | step hi hx _ ih=>exact fun _=>ih fun hd=>by rw [hx.len];exact hx.zero hd
theorem Ga.self (hp:Ay q pos) {g:List Int} (h:Ga q level pos g):Ga q level g g:=by
 cases hd:B9 g with
 | true=>
  refine .inl ⟨hd,?_⟩;rcases h with ⟨_,rfl⟩ | ⟨h1,h2,_⟩
  ·rw [yY]
  ·exact h2.zero (fun h=>by rw [h1] at h;cases h) hd
 | false=>exact .inr ⟨hd,.refl _,(h.nrm hp).2⟩
theorem aq (hp:Ay q x) (h0:0<=i) (h1:i<(q.cons.length:Int)): ∃ y,Ev (fun n=>Mf n i q level x) (true,y)/\ (Up q level i/\ PR q (con q i) x y∨¬ Up q level i/\ y=x):=by
 by_cases hl:Fj (con q i).kind<=level
 ·obtain ⟨y,y1,y2⟩:=cI (hp.ctx h0 h1);have hy:=hp.pr h0 h1 y2;refine ⟨y,?_,.inl ⟨⟨h0,h1,hl⟩,y2⟩⟩;obtain ⟨N,y1⟩:=y1;obtain ⟨M,hw⟩:=jN (hp.eqlen hy |>.symm▸rfl:y.length=x.length) hy.len256.2 hy.in64 y2.le;refine ⟨max N M,fun n hn=>?_⟩;have e1:IS n q i x=some (y,0):=y1 n (by omega);have e2:LG n y x=some true:=hw n (by omega);have e3:((y.length:Int) != (x.length:Int))=false:=by rw [y2.len];simp
  have e4:MY n (q.cons.getD i.toNat default) level=some true:=by rw [Z2];exact congrArg some (yI hl)
  show Og n i q level x=_
  unfold Og;rw [yC ⟨h0,h1⟩,e4,yD]
  show (IS n q i x).bind _=_
  rw [e1,yD]
  show (bif ((y.length:Int) != (x.length:Int)) then _ else (LG n y x).bind _)=_
  rw [e3,yB,e2];rfl
 ·refine ⟨x,Ev.now fun n=>?_,.inr ⟨fun h=>hl h.2.2,rfl⟩⟩;have e4:MY n (q.cons.getD i.toNat default) level=some false:=by rw [Z2];exact congrArg some (yA hl)
  show Og n i q level x=_
  unfold Og;rw [yC ⟨h0,h1⟩,e4];rfl
theorem ip (hb:Ay q b) (rest: ∀ y,Ay q y -> Bq q (Up q level) b y -> (y=b -> HG q (Up q level) b) -> Ev (fun n=>EN q pos level Av n (.l2 w (!decide (b=y)) y)) true): ∀ (k:Nat) (x:List Int),k<=q.cons.length -> Ay q x -> Bq q (Up q level) b x -> (x=b -> ∀ i:Int,(k:Int)<=i -> Up q level i -> PR q (con q i) b b) -> Ev (fun n=>EN q pos level Av n (.l3 w b ((k:Int)-1) x)) true
 | 0,x,hk,hx,hd,hf=>by
  have hl:b.length<=LB:=yO hb.len256.2 (by decide);refine BG.ev (BG.oneN (b.length+1) fun n hn=>?_) (rest x hx hd fun e i hi=>hf e i (by have:=hi.1;omega) hi)
  show Py n (EN q pos level Av n) q pos level Av w b (((0:Nat):Int)-1) x=_
  unfold Py;rw [yA (by omega),yB,bJ hl (by omega),yD]
 | k+1,x,hk,hx,hd,hf=>by
  have hF:=hx.fit;have BP:q.cons.length<=4096:=by have:=(DX hx.valid);omega
  obtain ⟨y,⟨N,y1⟩,y2⟩:=aq (level:=level) (i:=(k:Int)) hx (by omega) (by omega)
  have hy:Ay q y/\ Bq q (Up q level) x y/\ Le y x:=by
   rcases y2 with ⟨h1,h2⟩ | ⟨_,rfl⟩
   ·exact ⟨hx.pr h1.1 h1.2.1 h2,Bq.one h1 h2,h2.le⟩
   ·exact ⟨hx,.refl _,Le.refl _⟩
  refine BG.ev (BG.oneN N fun n hn=>?_) (ip hb rest k y (by omega) hy.1 (hd.trans hy.2.1) fun e i hi hU=>?_)
  ·have e1:Mf n (k:Int) q level x=some (true,y):=y1 n hn
   show Py n (EN q pos level Av n) q pos level Av w b (((k+1:Nat):Int)-1) x=_
   unfold Py;rw [show ((k+1:Nat):Int)-1=(k:Int) by omega,yI (by omega),yF,e1,yD]
   show (if AH ((k:Int)-1) then _ else _)=_
   rw [yC (At.2 ⟨by omega,by omega⟩)]
  ·have ex:x=b:=Le.eq hx hb hd.le (by rw [←e];exact hy.2.2);rcases Int.lt_or_eq_of_le hi with h | h
   ·exact hf ex i (by omega) hU
   ·subst h;rcases y2 with ⟨_,h2⟩ | ⟨h1,_⟩
    ·rw [e,ex] at h2;exact h2
    ·exact absurd hU h1
theorem xY (hp:Ay q x) (KL:Bq q (Up q level) x w) (hw:HG q (Up q level) w): ∀ (M:Nat) (y:List Int),wt y<=M -> Ay q y -> Bq q (Up q level) x y -> Ev (fun n=>EN q pos level Av n (.l2 w true y)) true:=by
 intro M
 induction M with
 | zero=>
  intro y hM hy hd;exact go hp KL hw y hy hd fun z h=>by omega
 | succ M ih=>
  intro y hM hy hd;exact go hp KL hw y hy hd fun z h=>ih z (by omega)
 where
 go (hp:Ay q x) (KL:Bq q (Up q level) x w) (hw:HG q (Up q level) w) (y:List Int) (hy:Ay q y) (hd:Bq q (Up q level) x y) (ih: ∀ z,wt z+1<=wt y -> Ay q z -> Bq q (Up q level) x z -> Ev (fun n=>EN q pos level Av n (.l2 w true z)) true):Ev (fun n=>EN q pos level Av n (.l2 w true y)) true:=by
  have BP:q.cons.length<=4096:=by have:=(DX hy.valid);omega
  refine BG.ev (BG.one fun n=>?_) (ip (w:=w) hy (fun z hz fS hf=>?_) q.cons.length y (yf _) hy (.refl _) fun _ i hi hU=>absurd hU.2.1 (by omega))
  ·show Pz n (EN q pos level Av n) q pos level Av w true y=_
   unfold Pz;rw [yF,yC (At.2 ⟨by omega,by omega⟩)]
  ·by_cases e:y=z
   ·subst e;have ew:y=w:=Bq.uniq Rm hp hd KL (hf rfl) hw;subst ew;refine Ev.oneN (y.length+1) fun n hn=>?_
    show Pz n (EN q pos level Av n) q pos level Av y (!decide (y=y)) y=_
    unfold Pz;rw [yI rfl,yq,yB,bJ (yO hy.len256.2 (by decide)) (by omega),yI rfl];rfl
   ·rw [yA e];exact ih z (Zg hz hy fS.le fun h=>e h.symm) hz (hd.trans fS)
theorem ZK (hp:Ay q x) (KL:Bq q (Up q level) x w) (hw:HG q (Up q level) w) (F6:Av.length<=200) (ho: ∀ v∈Av,0<=v/\ v<256): ∀ (k j:Nat) (y:List Int),j+k=Av.length -> Ay q y -> Bq q (Up q level) x y -> Ev (fun n=>EN q pos level Av n (.l1 w (j:Int) y)) true
 | 0,j,y,e,hy,hd=>by
  refine BG.ev (BG.one fun n=>?_) (xY hp KL hw (wt y) y (yf _) hy hd)
  show Lg n (EN q pos level Av n) q pos level Av w (j:Int) y=_
  unfold Lg;rw [yA (by omega),yB]
 | k+1,j,y,e,hy,hd=>by
  have hj:j<Av.length:=by omega
  have hr:AH ((j:Int)+1):=At.2 ⟨by omega,by omega⟩
  by_cases hc:(q.cons.length:Int)>0
  ·have hv:0<=Av.getD j default/\ Av.getD j default<256:=by
    refine ho _ ?_;rw [u8,xz hj];exact yZ hj
   have e2:IntKind.i64.wrap (Av.getD j default)=Av.getD j default:=by rw [zA1];omega
   obtain ⟨z,⟨N,z1⟩,z2⟩:=aq (level:=level) (i:=Int.tmod (Av.getD j default) (q.cons.length:Int)) hy (Int.tmod_nonneg _ hv.1) (Int.tmod_lt_of_pos _ hc)
   have hz:Ay q z/\ Bq q (Up q level) y z:=by
    rcases z2 with ⟨h1,h2⟩ | ⟨_,rfl⟩
    ·exact ⟨hy.pr h1.1 h1.2.1 h2,Bq.one h1 h2⟩
    ·exact ⟨hy,.refl _⟩
   refine BG.ev (BG.oneN N fun n hn=>?_) (ZK hp KL hw F6 ho k (j+1) z (by omega) hz.1 (hd.trans hz.2));have e1:Mf n (Int.tmod (Av.getD j default) (q.cons.length:Int)) q level y=some (true,z):=z1 n hn
   show Lg n (EN q pos level Av n) q pos level Av w (j:Int) y=_
   unfold Lg;rw [yI (by omega),yF,yC ⟨by omega,by omega⟩,yI hc,yF,yC (by omega),yH,e2,e1,yD]
   show (if AH ((j:Int)+1) then _ else _)=_
   rw [yC hr,show ((j+1:Nat):Int)=(j:Int)+1 by omega]
  ·refine BG.ev (BG.one fun n=>?_) (ZK hp KL hw F6 ho k (j+1) y (by omega) hy hd)
   show Lg n (EN q pos level Av n) q pos level Av w (j:Int) y=_
   unfold Lg;rw [yI (by omega),yF,yC ⟨by omega,by omega⟩,yA hc,yB,yC hr,show ((j+1:Nat):Int)=(j:Int)+1 by omega]
theorem xd (hp:Ay q pos): ∃ g,Ev (fun n=>H5 n q pos level) (g,0)/\ Ga q level pos g/\ Ay q g:=by
 obtain ⟨a,a1,a2⟩:=ir (level:=level) hp.fit (yO hp.len256.2 (by decide))
 have hE:a.2=0/\ Ga q level pos a.1:=by
  rcases a2 with ⟨h,_⟩ | ⟨_,h,_⟩ | ⟨_,_,h,h'⟩
  ·exact absurd hp.check h
  ·cases h
  ·exact ⟨h,h'⟩
 obtain ⟨g,e⟩:=a;obtain ⟨rfl,h2⟩:=hE;exact ⟨g,a1,h2,(h2.nrm hp).1.pos Rm hp.nrm⟩
theorem po (q:AA) (pos:List Int) (level:Int) (Av:List Int) (hF:Cq q) (hl:pos.length<=LB) (ho: ∀ v∈Av,0<=v/\ v<256):Ev (fun n=>dj n q pos level Av) true:=by
 refine jR (q:=q) (pos:=pos) (f:=fun n=>bif (decide ((Av.length:Int)>200)) then some true else
  (H5 n q pos level).bind fun y3=>(L9 n q y3.1 level).bind fun y4=>bif (y3.2 != 0) then some false else bif (y4.2 != 0) then some false else bif (!y4.1) then some false else
   (PL n pos).bind fun y5=>EN q pos level Av n (.l1 y3.1 0 y5)) (fun n=>rfl) hF hl fun hp=>?_
 by_cases fo:(Av.length:Int)>200
 ·exact Ev.now fun n=>by rw [yI fo];rfl
 refine Ev.eq ?_ (fun n=>by rw [yA fo,yB]);obtain ⟨g,a1,hE,hg⟩:=xd (level:=level) hp;obtain ⟨b,b1,b2⟩:=vK (level:=level) hF (pos:=g) (yO hg.len256.2 (by decide));obtain ⟨y,y1,y2⟩:=b2;have ey:y=(g,0):=Jc.uniq hF y1 (.inr (.inr ⟨hg.check,rfl,rfl,hE.self hp⟩));have eb:b=(true,0):=by rw [y2,ey];simp
 subst eb;obtain ⟨d1,d2⟩:=hE.nrm hp;exact Ev.bind a1 (Ev.bind b1 (Ev.bind (pD hp) (ZK hp.nrm d1 d2 (by omega) ho Av.length 0 (nrm pos) (by omega) hp.nrm (.refl _))))
end
end Go.Proofs.YtekkngkphejfcaaGreatDoor
namespace Go.Proofs.YtekkngkphejfcaaGreatDoor
abbrev zAE:=@Nat.zero_lt_one
end Go.Proofs.YtekkngkphejfcaaGreatDoor
namespace Go.Proofs.YtekkngkphejfcaaGreatDoor
open Go.ChangeShapes Go.WideShapes Go.ChangeAt Go.RowKit
def Jb (w:World) (cs:List Value) (l:List DV):Prop:=cs.length=l.length/\ ∀ j,j<l.length -> AJ (fun _=>False) w (l.getD j .any) [] (cs.getD j undef)
def Rd (P:Program) (t:TypeId) (m:Nat) {α:Type} (c:α -> List DV):Prop:=(∀ x,(c x).length=m)/\ P.cellsOf t=m/\ ∀ {H:Type} (enc:TypeId×Value -> H) (w:World) (C3:Nat) (cs:List Value) (x:DataW H×List MemPlace),DataW.trod enc P w 0 (fun _=>true) true C3 t cs=some x -> (∀ n∈x.1.weights P t,n<=reachBytes) -> ∃ y:α,Jb w cs (c y)
theorem Zt {H:Type} {P:Program} {e:TypeId}: ∀ {l:List (DataW H)} {d:DataW H} {n:Nat},d∈l -> n∈d.weights P e -> n∈DataW.weightsAll P e l
 | [],_,_,h,_=>by cases h
 | a::l,d,n,h,hn=>by
  unfold DataW.weightsAll;rcases yd.1 h with rfl | h
  ·exact yj _ hn
  ·exact yy _ (Zt h hn)
section
variable {P:Program} {t e:TypeId} {m:Nat}
theorem Jb.one {w:World} {v:Value} {d:DV} (h:AJ (fun _=>False) w d [] v):Jb w [v] [d]:=⟨rfl,fun j hj=>by
 have:j=0:=by simpa using hj
 subst this;exact h⟩
theorem Jb.app {w:World} {cs EV:List Value} {l l':List DV} (h:Jb w cs l) (h':Jb w EV l'):Jb w (cs++EV) (l++l'):=by
 refine ⟨by simp [h.1,h'.1],fun j hj=>?_⟩;rcases zd j l.length with hl | hl
 ·have:=h.2 j hl;have hc:j<cs.length:=by rw [h.1];exact hl
  simp only [u8] at this ⊢;rw [yW hl,yW hc];exact this
 ·have:=h'.2 (j-l.length) (by simp at hj;omega);simp only [u8] at this ⊢;rw [yh hl,yh (by rw [h.1];exact hl),h.1];exact this
theorem Rd.int {k:IntKind} (ht:P.underlying t=some (.int k)) (hc:P.cellsOf t=1):Rd P t 1 (fun n:Int=>[.int k n]):=⟨fun _=>rfl,hc,fun enc w C3 cs x h hw=>by
 obtain ⟨n,rfl,_⟩:=DataW.trod_int ht h;exact ⟨n,.one rfl⟩⟩
theorem iG {w:World} {a:Addr} {n:Nat} {cs:List Value} (h:w.cells? 0 a n=some cs):cs.length=n/\ ∀ j,j<n -> w.cell? (a.add j)=some (cs.getD j undef):=by
 unfold World.cells? at h;rw [yC (zz _)] at h;have hl:cs.length=n:=by simpa using Lib.mapM_length h
 refine ⟨hl,fun j hj=>?_⟩;obtain ⟨b,h1,h2⟩:=Lib.mapM_at h j j (by simp [hj]);rw [h2,u8,h1];rfl
theorem xg {w:World} {a:Addr} {v:Value} (h:w.cell? a=some v): ∃ b o,a=⟨b,o,none⟩:=by
 obtain ⟨b,o,r⟩:=a;cases r with
 | none=>exact ⟨b,o,rfl⟩
 | some r=>
  unfold World.cell? at h;split at h
  ·simp at h
  ·cases h
theorem iz (b o x:Nat):(⟨b,o,none⟩:Addr).add x=⟨b,o+x,none⟩:=by
 unfold Addr.add;split
 ·rename_i e;subst e;rfl
 ·rfl
theorem Rd.row {α:Type} [Inhabited α] {c:α -> List DV} (ht:P.underlying t=some (.slice e)) (hb:0<P.bytesOf e) (hm:0<m) (he:Rd P e m c) {H:Type} (enc:TypeId×Value -> H) (w:World) (C3:Nat) (cs:List Value) (x:DataW H×List MemPlace) (h:DataW.trod enc P w 0 (fun _=>true) true C3 t cs=some x) (hw: ∀ n∈x.1.weights P t,n<=reachBytes):
 ∃ (L:List α) (a:Option Addr) (cap:Nat),cs= [.slice a L.length cap]/\ L.length<=cap/\ L.length<=LB/\ ∀ i j,i<L.length -> j<m -> ∃ b o u,a=some ⟨b,o,none⟩/\ w.cell? ⟨b,o+(i*m+j),none⟩=some u/\ AJ (fun _=>False) w ((c (L.getD i default)).getD j .any) [] u:=by
 rcases Deep.open_slice ht h with ⟨rfl,_⟩ | ⟨a,len,cap,m',n,D,Pl,rfl,_,tf,KN,By,hx,Qd⟩
 ·exact ⟨[],none,0,rfl,yf _,zz _,fun i j hi=>absurd hi (yT i)⟩
 ·simp only [zE] at By;subst By;subst hx
  have plain:0<len -> ∃ b o,a=⟨b,o,none⟩:=fun h0=>by
   obtain ⟨EV,h1,_⟩:=Qd 0 (by omega);obtain ⟨g1,g2⟩:=iG h1;have g3:=g2 0 (by rw [he.2.1];exact hm);have e0:(a.add (0*P.cellsOf e)).add 0=a:=by simp [Addr.add]
   rw [e0] at g3;exact xg g3
  have pick: ∀ i,i<len -> ∃ y:α,∀ j,j<m -> ∃ b o u,a=⟨b,o,none⟩/\ w.cell? ⟨b,o+(i*m+j),none⟩=some u/\ AJ (fun _=>False) w ((c y).getD j .any) [] u:=fun i hi=>by
   obtain ⟨EV,h1,h2⟩:=Qd i (by omega)
   obtain ⟨y,h3,h4⟩:=he.2.2 enc w n EV _ h2 fun k hk=>hw k (by
    simp only [DataW.weights,ht];refine yo _ (yj _ (Zt (d:=D i) ?_ hk));exact zK.2 ⟨i,yP.2 hi,rfl⟩)
   obtain ⟨g1,g2⟩:=iG h1;obtain ⟨b,o,rfl⟩:=plain (by omega);refine ⟨y,fun j hj=>?_⟩;have g3:=g2 j (by rw [he.2.1];exact hj);refine ⟨b,o,_,rfl,?_,h4 j (by rw [he.1];exact hj)⟩;rw [←g3,he.2.1,iz,iz,zB]
  have hL: ∃ L:List α,L.length=len/\ ∀ i,i<len -> ∀ j,j<m -> ∃ b o u,a=⟨b,o,none⟩/\ w.cell? ⟨b,o+(i*m+j),none⟩=some u/\ AJ (fun _=>False) w ((c (L.getD i default)).getD j .any) [] u:=by
   refine ⟨(List.range len).map fun i=>if hi:i<len then (pick i hi).choose else default,by simp,fun i hi=>?_⟩
   have:((List.range len).map fun i=>if hi:i<len then (pick i hi).choose else default).getD i default=(pick i hi).choose:=by
    simp [u8,hi]
   rw [this];exact (pick i hi).choose_spec
  obtain ⟨L,rfl,hL⟩:=hL;refine ⟨L,some a,_,rfl,tf,?_,fun i j hi hj=>?_⟩
  ·have hk:=hw ((L.length+(m'-L.length))*P.bytesOf e) (by
    simp only [DataW.weights,ht,yr,zAF];exact zM)
   have h1:=Nat.le_mul_of_pos_right (L.length+(m'-L.length)) hb;have h2:=yO h1 hk;unfold reachBytes at h2;unfold LB;omega
  ·obtain ⟨b,o,u,g1,g2,g3⟩:=hL i hi j hj;exact ⟨b,o,u,by rw [g1],g2,g3⟩
theorem Rd.rows {α:Type} [Inhabited α] {c:α -> List DV} (ht:P.underlying t=some (.slice e)) (hc:P.cellsOf t=1) (hb:0<P.bytesOf e) (hm:0<m) (he:Rd P e m c):Rd P t 1 (fun L:List α=>[.sl m L.length (Ak c L)]):=⟨fun _=>rfl,hc,fun enc w C3 cs x h hw=>by
 obtain ⟨L,a,cap,rfl,h1,h2,h3⟩:=Rd.row ht hb hm he enc w C3 cs x h hw;refine ⟨L,Jb.one ⟨a,cap,rfl,h1,h2,fun i j hi hj=>?_⟩⟩;obtain ⟨b,o,u,g1,g2,g3⟩:=h3 i j hi hj;exact ⟨b,o,u,g1,fun h=>h,g2,g3⟩⟩
theorem Rd.ints (ht:P.underlying t=some (.slice e)) (hc:P.cellsOf t=1) (hb:0<P.bytesOf e) (he:P.underlying e=some (.int .i64)) (YK:P.cellsOf e=1):Rd P t 1 BD:=⟨fun _=>rfl,hc,fun enc w C3 cs x h hw=>by
 obtain ⟨L,a,cap,rfl,h1,h2,h3⟩:=Rd.row ht hb (zAE) (Rd.int he YK) enc w C3 cs x h hw;refine ⟨L,.one ⟨a,cap,rfl,h1,h2,fun j hj=>?_⟩⟩;obtain ⟨b,o,u,g1,g2,g3⟩:=h3 j 0 hj zAE;refine ⟨b,o,g1,fun h=>h,?_⟩;have:u= .int .i64 (L.getD j 0):=g3;rw [←this,←g2];simp⟩
def Dg (P:Program):List Field -> Nat -> Nat -> {α:Type} -> (α -> List DV) -> Prop:=fun fs o n {α} c=>∀ (H:Type) (enc:TypeId×Value -> H) (w:World) (C3:Nat) (cs:List Value) (xs:List (DataW H×List MemPlace)),cs.length=n -> (fs.mapM fun f=>DataW.trod enc P w 0 (fun _=>true) true C3 f.type ((cs.drop f.offset).take (P.cellsOf f.type)))=some xs -> (∀ k∈DataW.weightsEach P (fs.map (·.type)) (xs.map (·.1)),k<=reachBytes) -> ∃ y:α,Jb w (cs.drop o) (c y)
theorem Dg.nil {o n:Nat} (ho:n=o):Dg P [] o n (fun _:Unit=>[]):=fun _ enc w C3 cs xs hl _ _=>⟨(),by rw [List.drop_of_length_le (by omega)];exact ⟨rfl,fun j hj=>absurd hj (yT j)⟩⟩
theorem Dg.cons {α β:Type} {c:α -> List DV} {c':β -> List DV} {f:Field} {fs:List Field} {o n:Nat} (ho:f.offset=o) (hf:Rd P f.type m c) (hs:Dg P fs (o+m) n c'):Dg P (f::fs) o n (fun x:α×β=>c x.1++c' x.2):=fun _ enc w C3 cs xs hl h hw=>by
 rw [List.mapM_cons] at h;obtain ⟨a,ha,h⟩:=Option.bind_eq_some_iff.1 h;obtain ⟨ys,qy,e⟩:=Option.bind_eq_some_iff.1 h;cases e;obtain ⟨y,h1⟩:=hf.2.2 enc w C3 _ a ha fun k hk=>hw k (by simp only [zi,DataW.weightsEach];exact yj _ hk)
 obtain ⟨z,h2⟩:=hs _ enc w C3 cs ys hl qy fun k hk=>hw k (by simp only [zi,DataW.weightsEach];exact yy _ hk)
 refine ⟨(y,z),?_⟩
 have:cs.drop o=(cs.drop f.offset).take (P.cellsOf f.type)++cs.drop (o+m):=by
  rw [ho,hf.2.1,←List.drop_drop];exact (List.take_append_drop m (cs.drop o)).symm
 rw [this];exact h1.app h2
theorem Rd.struct {α β:Type} {c:α -> List DV} {c':β -> List DV} {fs:Array Field} (ht:P.underlying t=some (.struct fs)) (hc:P.cellsOf t=m) (hs:Dg P fs.toList 0 m c) (g:α -> β) (hg: ∀ x,c x=c' (g x)) (hm: ∀ x,(c' x).length=m):Rd P t m c':=⟨hm,hc,fun enc w C3 cs x h hw=>by
 cases C3 with
 | zero=>simp [DataW.trod] at h
 | succ C3=>
  unfold DataW.trod at h;rw [ht] at h;simp only at h;split at h
  ·rename_i hl;obtain ⟨xs,XX,e⟩:=Option.map_eq_some_iff.1 h;subst e;obtain ⟨y,hy⟩:=hs _ enc w C3 cs xs (by rw [hl,hc]) XX fun k hk=>hw k (by simp only [DataW.weights,ht];exact hk)
   exact ⟨g y,by rw [←hg];exact hy⟩
  ·cases h⟩
end
end Go.Proofs.YtekkngkphejfcaaGreatDoor
namespace Go.Proofs.YtekkngkphejfcaaGreatDoor
open Go.ChangeShapes Go.WideShapes Go.ChangeAt Go.RowKit
def FC (P:Program) (t:TypeId) {α:Type} (d:α -> DV):Prop:=∀ {H:Type} (enc:TypeId×Value -> H) (w:World) (DI:Nat) (v:Value) (x:DataW H) (ps:List MemPlace),Value.okWide P w .any DI t v -> DataW.Trod enc P w 0 (fun _=>true) true t v x ps -> (∀ n∈x.weights P t,n<=reachBytes) -> ∃ y:α,AJ (fun _=>False) w (d y) [] v
section
variable {P:Program} {t e:TypeId}
theorem FC.int {k:IntKind} (ht:P.underlying t=some (.int k)):FC P t (fun n:Int=>.int k n):=fun enc w DI v x ps B4 _ _=>by
 obtain ⟨n,rfl⟩:=okWide_int ht B4;exact ⟨n,rfl⟩
theorem FC.one {α:Type} {c:α -> List DV} (ht:P.underlying t=some (.slice e)) (h:Rd P t 1 c):FC P t (fun x=>(c x).getD 0 .any):=fun enc w DI v x ps B4 ⟨C3,hx⟩ hw=>by
 obtain ⟨a,len,cap,rfl⟩:=okWide_slice ht B4;obtain ⟨y,h1,h2⟩:=h.2.2 enc w C3 _ _ hx hw;exact ⟨y,by simpa [Value.cells] using h2 0 (by rw [h.1];exact zAE)⟩
theorem FC.agg {α:Type} {m:Nat} {c:α -> List DV} {fs:Array Field} (ht:P.underlying t=some (.struct fs)) (h:Rd P t m c):FC P t (fun x=>.agg m (L1 (c x))):=fun enc w DI v x ps B4 ⟨C3,hx⟩ hw=>by
 obtain ⟨cs,rfl,Dd⟩:=okWide_struct ht B4;obtain ⟨y,h1,h2⟩:=h.2.2 enc w C3 _ _ hx hw;have hm:(c y).length=m:=h.1 y
 have A2:cs.size=m:=by
  have:cs.toList.length=(c y).length:=h1;simpa [hm] using this
 refine ⟨y,cs,rfl,A2,fun j hj=>?_⟩;have:=h2 j (by rw [hm];exact hj);refine ⟨cs[j]'(by omega),by simp [A2,hj],?_⟩
 have e:(Value.agg cs).cells.toList.getD j undef=cs[j]'(by omega):=by
  show cs.toList.getD j undef=_
  simp [u8,A2,hj]
 rw [e] at this;exact this
def IA (P:Program) (ts:List TypeId) {α:Type} (ds:α -> List DV):Prop:=∀ {H:Type} (enc:TypeId×Value -> H) (w:World) (DI:Nat) (vs:List Value) (xs:List (DataW H)) (ps:List MemPlace),(∀ (j:Nat) t v,ts[j]? =some t -> vs[j]? =some v -> Value.okWide P w .any DI t v) -> DataW.TrodAll enc P w 0 (fun _=>true) true ts vs xs ps -> (∀ n∈DataW.weightsEach P ts xs,n<=reachBytes) -> ∃ y:α,(ds y).length=vs.length/\ ∀ j,j<vs.length -> AJ (fun _=>False) w ((ds y).getD j .any) [] (vs.getD j undef)
theorem IA.nil:IA P [] (fun _:Unit=>[]):=fun enc w DI vs xs ps _ h _=>by
 obtain ⟨rfl,_,_⟩:=trodAll_nil h;exact ⟨(),rfl,fun j hj=>absurd hj (yT j)⟩
theorem IA.cons {α β:Type} {d:α -> DV} {ds:β -> List DV} {ts:List TypeId} (h:FC P t d) (hs:IA P ts ds):IA P (t::ts) (fun x:α×β=>d x.1::ds x.2):=fun enc w DI vs xs ps B4 h0 hw=>by
 obtain ⟨v,Bm,x,Zf,p,q,rfl,rfl,rfl,h1,h2⟩:=trodAll_cons h0;obtain ⟨y,hy⟩:=h enc w DI v x p (B4 0 t v rfl rfl) h1 fun n hn=>hw n (by simp only [DataW.weightsEach];exact yj _ hn)
 obtain ⟨z,QA,qw⟩:=hs enc w DI Bm Zf q (fun j t' v' a b=>B4 (j+1) t' v' (by simpa using a) (by simpa using b)) h2 fun n hn=>hw n (by simp only [DataW.weightsEach];exact yy _ hn)
 refine ⟨(y,z),by simp [QA],fun j hj=>?_⟩;cases j with
 | zero=>exact hy
 | succ j=>exact qw j (by simpa using hj)
theorem Z4 {H:Type} {enc:TypeId×Value -> H} (hl:laidOutB P=true) {W W':World} (hE:Ar W W'): ∀ {ts:List TypeId} {vs:List Value} {ds:List (DataW H)} {ps:List MemPlace},(∀ t∈ts,P.readableRec t=true/\ t<P.types.size) -> DataW.TrodAll enc P W 0 (fun _=>true) true ts vs ds ps -> (∀ x∈ps,x.block<W.heap.size) -> DataW.TrodAll enc P W' 0 (fun b=>decide (b<W.heap.size)) true ts vs ds ps
 | [],_,_,_,_,h,_=>by
  obtain ⟨rfl,rfl,rfl⟩:=trodAll_nil h;rfl
 | t::ts,_,_,_,hr,h,AK=>by
  obtain ⟨v,Bm,x,Zf,p,q,rfl,rfl,rfl,h1,h2⟩:=trodAll_cons h;exact ⟨p,q,Below.trod hl (hr t (by simp)).1 (hr t (by simp)).2 h1 hE fun x hx=>AK x (yj _ hx),Z4 hl hE (fun t ht=>hr t (by simp [ht])) h2 fun x hx=>AK x (yy _ hx),rfl⟩
theorem n8 {H:Type} {enc:TypeId×Value -> H} {f:Func} {s:ChangeSpec} {W W':World} {args:Array Value} {ds gs:List (DataW H)} {MF:List MemPlace} {tb:TypeId} (hl:laidOutB P=true) (hr: ∀ t∈f.params.toList,P.readableRec t=true/\ t<P.types.size) (hE:Ar W W')
 (hW:DataW.Whole enc P f.params.toList s.vars false W args.toList ds gs MF) (hv:s.vars= []) (hs:s.fn H (ds++gs)= { results:=[.lit (.bool true)],args:=ds }) (Xh:f.resultTypes= #[tb]) (Xe:P.underlying tb=some .bool):
 s.post enc P f false true false false W args (.bool true) W':=by
 have Qi:=hW;have AK:=hW.lt;obtain ⟨p,q,hA,hV,rfl,Ie,Aw⟩:=hW;rw [hv] at hV;obtain ⟨rfl,rfl⟩:=trodVars_none hV;have CK:=Z4 hl hE hr hA fun x hx=>AK x (yj _ hx)
 refine ⟨ds,[],p++[],[],p,[],Qi,?_,?_,?_,World.keptBut_mono (fun x hx=>⟨hx,.inr (.inl (by simpa using hx))⟩) (Below.frame hE (· ∈p++[])),fun h=>by cases h⟩
 ·rw [hs,Xh];exact trodAll_mk1 (shut_bool Xe true)
 ·rw [hs];exact CK
 ·rw [hv,hs];rfl
theorem pn {H:Type} {enc:TypeId×Value -> H} {Γ:Au} {gL:Nat} {f:Func} {s:ChangeSpec} {W:World} {DI:Nat} {args:Array Value} {ds gs:List (DataW H)} {MF:List MemPlace} {tb:TypeId} {α:Type} {dv:α -> List DV} (hl:laidOutB P=true) (hr: ∀ t∈f.params.toList,P.readableRec t=true/\ t<P.types.size)
 (rp:IA P f.params.toList dv) (EC: ∀ (w:World) (y:α),(∀ j,AJ (fun _=>False) w ((dv y).getD j .any) [] (args.getD j undef)) -> ES P Γ gL (dv y) [] (.bool true) [] true)
 (F4: ∀ (j:Nat) t v,f.params[j]? =some t -> args[j]? =some v -> Value.okWide P W .any DI t v) (hW:DataW.Whole enc P f.params.toList s.vars false W args.toList ds gs MF) (hv:s.vars= []) (hs:s.fn H (ds++gs)= { results:=[.lit (.bool true)],args:=ds }) (Xh:f.resultTypes= #[tb]) (Xe:P.underlying tb=some .bool)
 (A2:(DataW.weightsEach P f.params.toList ds).all (· <=reachBytes)=true) (hg:Γ.gi W):Calls P gL args W fun e W'=>∃ v,e= .returned v/\ s.post enc P f false true false false W args v W':=by
 have Qi:=hW;obtain ⟨p,q,hA,hV,rfl,Ie,Aw⟩:=hW
 obtain ⟨y,h1,h2⟩:=rp enc W DI args.toList ds p (fun j t v a b=>F4 j t v (by simpa using a) (by simpa using b)) hA fun n hn=>by
  have:=yL.1 A2 n hn;simpa using this
 have Ae:(dv y).length=args.size:=by simpa using h1
 have eM: ∀ j,AJ (fun _=>False) W ((dv y).getD j .any) [] (args.getD j undef):=fun j=>by
  rcases zd j args.size with hj | hj
  ·have:=h2 j (by simpa using hj);simpa [u8,zU,hj] using this
  ·have:(dv y).getD j .any= .any:=by rw [u8,yx (by omega)];rfl
   rw [this];trivial
 refine ((EC W y eM).2 (fun _=>False) [] W args (NO (fun b hb=>hb.elim) hg) ⟨Ae,fun i hi=>?_⟩).mono ?_
 ·exact AJ.out _ (C0 (fun b hb=>MT.1 hb) []) (eM i)
 ·rintro e W' ⟨v,rfl,G⟩;obtain ⟨ρ',_,Xa,_⟩:=G.ex;have Xa:v= .bool true:=Xa;subst Xa;exact ⟨_,rfl,n8 hl hr (G.ext rfl) Qi hv hs Xh Xe⟩
end
end Go.Proofs.YtekkngkphejfcaaGreatDoor
namespace Go.Proofs.YtekkngkphejfcaaGreatDoor
open Go.ChangeShapes Go.WideShapes Go.ChangeAt Go.RowKit
theorem own:ownKnob Tryz.prog.godebug=none:=by kernel_rfl
theorem pz:laidOutB Tryz.prog=true:=by kernel_rfl
theorem wz:0<Tryz.prog.bytesOf 3:=zW (by kernel_rfl)
theorem I2:Rd Tryz.prog 3 1 (fun n:Int=>[.int .i64 n]):=Rd.int Tryz.underlying3 (by kernel_rfl)
theorem PI:Rd Tryz.prog 22 1 BD:=Rd.ints Tryz.underlying22 (by kernel_rfl) wz Tryz.underlying3 (by kernel_rfl)
theorem nP:Rd Tryz.prog 23 1 (fun L:List (List Int)=>[.sl 1 L.length (Ak BD L)]):=Rd.rows Tryz.underlying23 (by kernel_rfl) (zW (by kernel_rfl)) zAE PI
set_option maxRecDepth 100000 in
theorem nS:Rd Tryz.prog 48 9 AG:=by
 refine Rd.struct Tryz.underlying48 (by kernel_rfl)
  (Dg.cons rfl I2<|Dg.cons rfl PI<|Dg.cons rfl I2<|Dg.cons rfl I2<|Dg.cons rfl I2<|Dg.cons rfl I2<|Dg.cons rfl PI<|Dg.cons rfl I2<|Dg.cons rfl I2<|Dg.nil rfl)
  (fun x:Int×List Int×Int×Int×Int×Int×List Int×Int×Int×Unit=>(⟨x.1,x.2.1,x.2.2.1,x.2.2.2.1,x.2.2.2.2.1,x.2.2.2.2.2.1,x.2.2.2.2.2.2.1,x.2.2.2.2.2.2.2.1,x.2.2.2.2.2.2.2.2.1⟩:AB)) ?_ (fun _=>rfl)
 intro x;rfl
theorem nR:Rd Tryz.prog 24 1 (fun L:List AB=>[.sl 9 L.length (Ak AG L)]):=Rd.rows Tryz.underlying24 (by kernel_rfl) (zW (by kernel_rfl)) (by decide) nS
set_option maxRecDepth 100000 in
theorem nQ:Rd Tryz.prog 26 5 AD:=by
 refine Rd.struct Tryz.underlying26 (by kernel_rfl)
  (Dg.cons rfl I2<|Dg.cons rfl I2<|Dg.cons rfl PI<|Dg.cons rfl nP<|Dg.cons rfl nR<|Dg.nil rfl)
  (fun x:Int×Int×List Int×List (List Int)×List AB×Unit=>(⟨x.1,x.2.1,x.2.2.1,x.2.2.2.1,x.2.2.2.2.1⟩:AA)) ?_ (fun _=>rfl)
 intro x;rfl
theorem mD:FC Tryz.prog 26 (fun q:AA=>.agg 5 (L1 (AD q))):=FC.agg Tryz.underlying26 nQ
theorem mF:FC Tryz.prog 3 (fun n:Int=>.int .i64 n):=FC.int Tryz.underlying3
theorem mE:FC Tryz.prog 22 (fun l:List Int=>.ints l):=FC.one Tryz.underlying22 PI
theorem Cq.of {M:Nat -> Prop} {w:World} {ρ:List AI} {q:AA} {v:Value} (h:AJ M w (.agg 5 (L1 (AD q))) ρ v):Cq q:=by
 obtain ⟨cs,_,_,hc⟩:=h
 have row: ∀ {α:Type} [Inhabited α] {m:Nat} {c:α -> List DV} {L:List α} {u:Value},0<m -> AJ M w (.sl m L.length (Ak c L)) ρ u -> ∀ x∈L,∀ j,j<m -> ∃ u,AJ M w ((c x).getD j .any) [] u:=by
  intro α _ m c L u hm ⟨a,cap,_,_,_,hh⟩ x hx j hj;obtain ⟨i,hi,rfl⟩:=zX hx;obtain ⟨b,o,u,_,_,_,hr⟩:=hh i j hi hj;refine ⟨u,?_⟩;have e:L.getD i default=L[i]:=by simp [hi]
  have hr:AJ M w ((c (L.getD i default)).getD j .any) [] u:=hr;rw [e] at hr;exact hr
 refine ⟨?_,fun r hr=>?_,fun c YJ=>?_,fun c YJ=>?_⟩
 ·obtain ⟨u,_,h2⟩:=hc 2 (by decide);exact P6 h2
 ·obtain ⟨u,_,h3⟩:=hc 3 (by decide);obtain ⟨u,h⟩:=row (c:=BD) (L:=q.nbrs) zAE h3 r hr 0 zAE;exact P6 h
 ·obtain ⟨u,_,h4⟩:=hc 4 (by decide);obtain ⟨u,h⟩:=row (c:=AG) (L:=q.cons) (by decide) h4 c YJ 1 (by decide);exact P6 h
 ·obtain ⟨u,_,h4⟩:=hc 4 (by decide);obtain ⟨u,h⟩:=row (c:=AG) (L:=q.cons) (by decide) h4 c YJ 6 (by decide);exact P6 h
theorem gC:Tryz.prog.globalNamed "math/bits.deBruijn64tab" =some 1:=by kernel_rfl
theorem vA:(Tryz.prog.globals[1]?).map (·.type)=some 145:=by kernel_rfl
abbrev Ww {H:Type}:List (String×DataW H):=[("math/bits.deBruijn32tab",Rows.laid_math_bits_deBruijn32tab),("math/bits.deBruijn64tab",Rows.laid_math_bits_deBruijn64tab)]
theorem j1 {W:World} (h:laidMetH Tryz.prog Ww W):Lib.TabIs Tryz.prog W "math/bits.deBruijn64tab" .u8 (Lib.deBruijn64tab.map Int.ofNat):=
 Lib.tabIs_of_head (rest:=[]) gC vA Tryz.underlying145 Tryz.underlying5 (by kernel_rfl) (by kernel_rfl) (laidMet.tail (show laidMet Tryz.prog Ww W from h))
theorem j0 {W:World} (h:laidMetH Tryz.prog Ww W):GG.gi W:=by
 have T:=j1 h;have c: ∀ j,j<64 -> W.cell? ⟨1,j,none⟩=some (.int .u8 ((Lib.deBruijn64tab.map Int.ofNat).getD j 0)):=fun j hj=>T.cell gC j (by rw [yr];exact hj)
 refine ⟨fun j hj=>?_,?_⟩
 ·have hj:j<64:=hj;rw [c j hj]
  have:(Lib.deBruijn64tab.map Int.ofNat).getD j 0=((Lib.deBruijn64tab.getD j 0:Nat):Int):=by
   have hl:j<Lib.deBruijn64tab.length:=hj;simp [u8,hl]
  rw [this]
 ·have:=zf W _ (c 0 (by decide));exact this
def di (l:List Nat) (o:Obj):Obj:=match o with
 | .cells _ t frozen=>.cells (l.map fun n=>Value.int .u8 (Int.ofNat n)).toArray t frozen
 | o=>o
noncomputable def Wv (os:Os):World:=
 { World.holding Tryz.prog os ⟨#[],#[],[]⟩ with heap:=((World.holding Tryz.prog os ⟨#[],#[],[]⟩).heap.modify 0 (di Lib.deBruijn32tab)).modify 1 (di Lib.deBruijn64tab) }
def Sn:Value:=.agg #[.int .i64 0,.int .i64 0,.slice none 0 0,.slice none 0 0,.slice none 0 0]
end Go.Proofs.YtekkngkphejfcaaGreatDoor
namespace Go.Proofs.YtekkngkphejfcaaGreatDoor
open Go.ChangeShapes Go.WideShapes Go.ChangeAt Go.RowKit
def U8:Type:={n:Int//0<=n/\ n<256}
instance:Inhabited U8:=⟨⟨0,by decide⟩⟩
def ZS:Type:={l:List Int// ∀ v∈l,0<=v/\ v<256}
theorem Rd.byte {P:Program} {t:TypeId} (ht:P.underlying t=some (.int .u8)) (hc:P.cellsOf t=1):Rd P t 1 (fun n:U8=>[.int .u8 n.1]):=⟨fun _=>rfl,hc,fun enc w C3 cs x h hw=>by
 obtain ⟨n,rfl,hn⟩:=DataW.trod_int ht h;refine ⟨⟨n,?_⟩,.one rfl⟩;have hn:(decide ((0:Int)<=n)&&decide (n<=255))=true:=hn.2;simp only [yG,yg] at hn;omega⟩
theorem FC.bytes {P:Program} {t e:TypeId} (ht:P.underlying t=some (.slice e)) (hb:0<P.bytesOf e) (he:P.underlying e=some (.int .u8)) (YK:P.cellsOf e=1):FC P t (fun l:ZS=>.sl 1 l.1.length (Ak (fun x:Int=>[.int .u8 x]) l.1)):=fun enc w DI v x ps B4 ⟨C3,hx⟩ hw=>by
 obtain ⟨a,len,cap,rfl⟩:=okWide_slice ht B4;obtain ⟨L,a',Bp,e1,h1,h2,h3⟩:=Rd.row ht hb (zAE) (Rd.byte he YK) enc w C3 _ _ hx hw;have e1: [Value.slice a len cap]= [Value.slice a' L.length Bp]:=e1;obtain ⟨rfl,rfl,rfl⟩:a=a'/\ len=L.length/\ cap=Bp:=by simpa using e1
 refine ⟨⟨L.map (·.1),fun v hv=>?_⟩,a,cap,?_,?_,?_,fun i j hi hj=>?_⟩
 ·obtain ⟨u,_,rfl⟩:=zK.1 hv;exact u.2
 ·rw [yr]
 ·rw [yr];exact h1
 ·rw [yr];exact h2
 ·rw [yr] at hi;obtain ⟨b,o,u,g1,g2,g3⟩:=h3 i j hi hj;refine ⟨b,o,u,g1,fun h=>h,g2,?_⟩;have e2:(L.map (·.1)).getD i default=(L.getD i default).1:=by simp [hi]
  show AJ (fun _=>False) w (([DV.int .u8 ((L.map (·.1)).getD i default)]).getD j .any) [] u
  rw [e2];exact g3
theorem mC:FC Tryz.prog 44 (fun l:ZS=>.sl 1 l.1.length (Ak (fun x:Int=>[.int .u8 x]) l.1)):=FC.bytes Tryz.underlying44 (zW (by kernel_rfl)) Tryz.underlying5 (by kernel_rfl)
end Go.Proofs.YtekkngkphejfcaaGreatDoor
