/- Part 7 of 7 of what the proofs of these laws stand on. -/
import Derived.Test.YtekkngkphejfcaaGreatDoorPfF
import Derived.Test.YtekkngkphejfcaaGreatDoorRows
import Derived.ProofKit
import Derived.OpenShut
import Derived.Deep.DeepHandedRow
import Derived.Lib.LaidTab
import Derived.Deep.Slices
import Derived.Stop.LaidErr
import Derived.Test.YtekkngkphejfcaaGreatDoorCards
import Derived.Test.YtekkngkphejfcaaGreatDoorTie
set_option linter.all false
namespace Go.Proofs.YtekkngkphejfcaaGreatDoor
open Go.RowKit
theorem rZ {k s:Nat} {x:Int} (h:Sm k x) (hk:k<=62) (hs:s<64):(bits .and .i64 (x/2 ^ s) 1==1)=tb x s:=by
 obtain ⟨m,rfl⟩:=zFf h.1;have hm:=h.2;have Ti:=Je hk;have e:(m:Int)/2 ^ s=((m/2 ^ s:Nat):Int):=by simp
 have key: ∀ t,t<64 -> tb (bits .and .i64 ((m:Int)/2 ^ s) 1) t=(decide (t=0)&&tb (m:Int) s):=fun t ht=>by
  rw [EJ,e,Hh _ _ ht,Hh m s hs,show (1:Int)=((1:Nat):Int) from rfl,Hh 1 t ht,Nat.testBit_div_two_pow]
  by_cases h0:t=0
  ·subst h0;simp
  ·rw [zAA h0,zFI]
   have:Nat.testBit 1 t=false:=by
    rw [show (1:Nat)=2 ^ 0 from rfl,zGt];simpa using fun h=>h0 h.symm
   rw [this,zFp]
 cases hb:tb (m:Int) s with
 | true=>
  rw [zBf];refine Hi (Cy _ _ _) ⟨by decide,by decide⟩ fun t ht=>?_
  rw [key t ht,hb,show (1:Int)=((1:Nat):Int) from rfl,Hh 1 t ht,Bool.and_true]
  by_cases h0:t=0
  ·subst h0;rfl
  ·rw [zAA h0];rw [show (1:Nat)=2 ^ 0 from rfl,zGt];symm;simpa using fun h=>h0 h.symm
 | false=>
  have:bits .and .i64 ((m:Int)/2 ^ s) 1=0:=(KA (Cy _ _ _)).2 fun t ht=>by rw [key t ht,hb,zFp]
  rw [this];rfl
theorem M9 {k s n:Nat} {x:Int} (h:Sm k x) (hk:k<=62) (hs:s<64):GE n x (s:Int)=some (tb x s):=by
 unfold GE jd;rw [zAE ⟨by omega,by show (s:Int)<=((64:Nat):Int);omega⟩,zAB,rZ h hk hs]
def RL (pos:List Int) (D:Nat -> Nat -> Prop) (l:List Int):Prop:=(l.length=pos.length/\ ∀ j,Bs (l.getD j 0))/\ ∀ j s,tb (l.getD j 0) s=true↔D j s
section
variable {q:AA} {c:AC} {pos l:List Int} {D D':Nat -> Nat -> Prop} {k:Nat}
theorem RL.zero (pos:List Int):RL pos (fun _ _=>False) (List.replicate pos.length 0):=⟨⟨Dz,Uk⟩,fun j s=>by rw [K9];exact ⟨fun h=>absurd h IN,fun h=>h.elim⟩⟩
theorem RL.congr (h:RL pos D l) (hD: ∀ j s,D' j s↔D j s):RL pos D' l:=⟨h.1,fun j s=>(h.2 j s).trans (hD j s).symm⟩
theorem RL.lose (h:RL pos D l) (h256:pos.length<=256) {cell ss:Int} (h0:0<=cell) (h1:cell<(pos.length:Int)): ∃ l',(∀ n,Ej n l cell ss=some l')/\ RL pos (fun j s=>D j s∨((j:Int)=cell/\ tb ss s=true)) l':=by
 have L:(1000000000000:Nat)=A7:=rfl;have hl:=h.1.1;refine ⟨l.set cell.toNat (bits .or .i64 (l.getD cell.toNat 0) ss),fun n=>?_,⟨by rw [zBo];exact hl,ZH h.1.2 (Cy _ _ _)⟩,fun j s=>?_⟩
 ·unfold Ej jT;simp only [zFD,zFF,zBj];rw [zAE ⟨⟨trivial,⟨trivial,trivial⟩,by rw [←L];omega⟩,⟨by omega,by omega⟩,by omega⟩,zAE (by rw [zBo])]
 ·by_cases e:cell.toNat=j
  ·subst e;rw [I2 (by omega),LI,zBg,h.2];exact ⟨fun h=>h.elim .inl fun h=>.inr ⟨by omega,h⟩,fun h=>h.elim .inl fun h=>.inr h.2⟩
  ·rw [getD_set_ne e,h.2];exact ⟨.inl,fun h=>h.elim id fun h=>absurd (by omega) e⟩
structure RW (q:AA) (c:AC) (pos:List Int):Prop where
 W:Bq c q.symbols.toNat pos
 V:EE q q.symbols.toNat
 sy:1<=q.symbols/\ q.symbols<=16
 vlen:(q.values.length:Int)=q.symbols
 h0:0<pos.length
 h256:pos.length<=256
 nz: ∀ j,j<pos.length -> pos.getD j 0≠0
theorem RW.sym (H:RW q c pos) {s:Nat} (hs:s<q.symbols.toNat):((s:Int)<q.symbols)/\ s<16/\ ((0:Int)<=(s:Int)/\ (s:Int)<=((IntKind.i64.bits:Nat):Int)):=by
 have:=H.sy;exact ⟨by omega,by omega,by omega,by show (s:Int)<=((64:Nat):Int);omega⟩
theorem RW.low (H:RW q c pos) {x:Int} (hx:Sm q.symbols.toNat x) {s:Nat} (h:tb x s=true):s<q.symbols.toNat:=zB1 fun BV=>by rw [hx.hi BV] at h;cases h
theorem kC {s:Nat} (hs:s<62) {x:Int} (hx:Bs x):x=IntKind.i64.wrap (1*2 ^ s)↔∀ t,tb x t=decide (s=t):=by
 constructor
 ·rintro rfl t;exact JN (by omega) t
 ·intro h;exact Hi hx (fC _) fun t _=>by rw [h,JN (by omega)]
def Vu (c:AC) (pos:List Int) (k:Nat) (j t:Nat):Prop:=∃ a b,a<c.cells.length/\ b<c.cells.length/\ a≠b/\ t<k/\ AL c pos b=IntKind.i64.wrap (1*2 ^ t)/\ (c.cells.getD a 0).toNat=j
theorem vu (H:RW q c pos):AU (fun n=>Vv n q c pos) (fun l=>RL pos (Vu c pos q.symbols.toNat) l):=by
 have W:=H.W;have Ak:=W.len;have Lt:=H.sy;have ek:((q.symbols.toNat:Nat):Int)=q.symbols:=by omega
 have S3: ∀ (D:Nat -> Nat -> Prop) (a b:Nat) (l:List Int),a<c.cells.length -> b<c.cells.length -> RL pos D l -> ∃ l',RL pos (fun j t=>D j t∨(t<q.symbols.toNat/\ a≠b/\ AL c pos b=IntKind.i64.wrap (1*2 ^ t)/\ (c.cells.getD a 0).toNat=j)) l'/\ AZ (Ek q c pos) (.l3 l a b 0) (.l3 l' a b q.symbols):=by
  intro D a b l ha hb hR;have:=DK (m:=Ek q c pos) (fun s (l:List Int)=>.l3 l (a:Int) (b:Int) (s:Int)) (fun s l=>RL pos (fun j t=>D j t∨(t<s/\ a≠b/\ AL c pos b=IntKind.i64.wrap (1*2 ^ t)/\ (c.cells.getD a 0).toNat=j)) l) q.symbols.toNat (fun s l hs hI=>?_) q.symbols.toNat 0 l (by omega) (hR.congr fun j t=>⟨fun h=>h.elim id fun h=>absurd h.1 (zBW t),.inl⟩)
  ·obtain ⟨l',h1,h2⟩:=this;refine ⟨l',h1,?_⟩;have h2:AZ (Ek q c pos) (.l3 l a b ((0:Nat):Int)) (.l3 l' a b ((q.symbols.toNat:Nat):Int)):=h2;rw [ek] at h2;exact h2
  ·obtain ⟨s1,s2,s3⟩:=H.sym hs;have L2:=W.cells b hb;have nV:=W.cells a ha;have r1:AG ((s:Int)+1):=Ae.2 ⟨by omega,by omega⟩
   have skip:(∀ j,¬ (a≠b/\ AL c pos b=IntKind.i64.wrap (1*2 ^ s)/\ (c.cells.getD a 0).toNat=j)) -> RL pos (fun j t=>D j t∨(t<s+1/\ a≠b/\ AL c pos b=IntKind.i64.wrap (1*2 ^ t)/\ (c.cells.getD a 0).toNat=j)) l:=fun Ir=>hI.congr fun j t=>by
    constructor
    ·rintro (h | ⟨h,h2⟩)
     ·exact .inl h
     ·rcases zBH.1 h with h | rfl
      ·exact .inr ⟨h,h2⟩
      ·exact absurd h2 (Ir j)
    ·rintro (h | ⟨h,h2⟩)
     ·exact .inl h
     ·exact .inr ⟨by omega,h2⟩
   have es:AL c pos b=pos.getD (c.cells.getD b 0).toNat 0:=rfl
   by_cases F2:a=b
   ·refine ⟨l,skip fun j h=>h.1 F2,AZ.one fun n=>?_⟩
    show KX n (Ek q c pos n) q c pos l (a:Int) (b:Int) (s:Int)=_
    unfold KX;have e:((a:Int) != (b:Int))=false:=by rw [F2];simp
    rw [zBC s1,zBA,e,zAD,zAE r1];rfl
   ·have e:((a:Int) != (b:Int))=true:=by simp;omega
    by_cases hx:AL c pos b=IntKind.i64.wrap (1*2 ^ s)
    ·obtain ⟨l',h1,h2⟩:=hI.lose H.h256 (ss:=IntKind.i64.wrap (1*2 ^ s)) nV.1 nV.2;refine ⟨l',h2.congr fun j t=>?_,AZ.one fun n=>?_⟩
     ·rw [JN (by omega),zBV];constructor
      ·rintro (h | ⟨h,h3⟩)
       ·exact .inl (.inl h)
       ·rcases zBH.1 h with h | rfl
        ·exact .inl (.inr ⟨h,h3⟩)
        ·exact .inr ⟨by have:=h3.2.2;omega,rfl⟩
      ·rintro ((h | ⟨h,h3⟩) | ⟨h,rfl⟩)
       ·exact .inl h
       ·exact .inr ⟨by omega,h3⟩
       ·exact .inr ⟨by omega,F2,hx,by omega⟩
     ·show KX n (Ek q c pos n) q c pos l (a:Int) (b:Int) (s:Int)=_
      unfold KX;simp only [zAB];rw [zBC s1,zBA,e,zBA,zAE ⟨⟨by omega,by omega⟩,L2,s3⟩,←es,hx,zFW,zBA,zAE ⟨by omega,by omega⟩,h1,zA9,zAE r1];rfl
    ·refine ⟨l,skip fun j h=>hx h.2.1,AZ.one fun n=>?_⟩;have e2:(AL c pos b==IntKind.i64.wrap (1*2 ^ s))=false:=zB4.2 hx
     show KX n (Ek q c pos n) q c pos l (a:Int) (b:Int) (s:Int)=_
     unfold KX;simp only [zAB];rw [zBC s1,zBA,e,zBA,zAE ⟨⟨by omega,by omega⟩,L2,s3⟩,←es,e2,zAD,zAE r1];rfl
 have S2: ∀ (D:Nat -> Nat -> Prop) (a:Nat) (l:List Int),a<c.cells.length -> RL pos D l -> ∃ l',RL pos (fun j t=>D j t∨∃ b,b<c.cells.length/\ t<q.symbols.toNat/\ a≠b/\ AL c pos b=IntKind.i64.wrap (1*2 ^ t)/\ (c.cells.getD a 0).toNat=j) l'/\ AZ (Ek q c pos) (.l2 l a 0) (.l1 l' ((a:Int)+1)):=by
  intro D a l ha hR
  obtain ⟨l',h1,h2⟩:=DK (m:=Ek q c pos) (fun b (l:List Int)=>.l2 l (a:Int) (b:Int)) (fun b l=>RL pos (fun j t=>D j t∨∃ b',b'<b/\ t<q.symbols.toNat/\ a≠b'/\ AL c pos b'=IntKind.i64.wrap (1*2 ^ t)/\ (c.cells.getD a 0).toNat=j) l) c.cells.length (fun b l hb hI=>by
   obtain ⟨l',h1,h2⟩:=S3 _ a b l ha hb hI;refine ⟨l',h1.congr fun j t=>?_,(AZ.one fun n=>?_).trans (h2.trans (AZ.one fun n=>?_))⟩
   ·constructor
    ·rintro (h | ⟨b',h3,h4⟩)
     ·exact .inl (.inl h)
     ·rcases zBH.1 h3 with h3 | rfl
      ·exact .inl (.inr ⟨b',h3,h4⟩)
      ·exact .inr h4
    ·rintro ((h | ⟨b',h3,h4⟩) | h)
     ·exact .inl h
     ·exact .inr ⟨b',by omega,h4⟩
     ·exact .inr ⟨b,by omega,h⟩
   ·show SI n (Ek q c pos n) q c pos l (a:Int) (b:Int)=_
    unfold SI;rw [zBC (by omega),zBA]
   ·show KX n (Ek q c pos n) q c pos l' (a:Int) (b:Int) q.symbols=_
    unfold KX;rw [zAA (by omega),zAD,zAE (Ae.2 ⟨by omega,by omega⟩)];rfl) c.cells.length 0 l (by omega) (hR.congr fun j t=>⟨fun h=>h.elim id fun ⟨b',h,_⟩=>absurd h (zBW b'),.inl⟩)
  refine ⟨l',h1,h2.trans (AZ.one fun n=>?_)⟩
  show SI n (Ek q c pos n) q c pos l' (a:Int) (c.cells.length:Int)=_
  unfold SI;rw [zAA (by omega),zAD,zAE (Ae.2 ⟨by omega,by omega⟩)]
 obtain ⟨l',h1,h2⟩:=DK (m:=Ek q c pos) (fun a (l:List Int)=>.l1 l (a:Int)) (fun a l=>RL pos (fun j t=>∃ a',a'<a/\ ∃ b,b<c.cells.length/\ t<q.symbols.toNat/\ a'≠b/\ AL c pos b=IntKind.i64.wrap (1*2 ^ t)/\ (c.cells.getD a' 0).toNat=j) l) c.cells.length (fun a l ha hI=>by
  obtain ⟨l',h1,h2⟩:=S2 _ a l ha hI;refine ⟨l',h1.congr fun j t=>?_,(AZ.one fun n=>?_).trans h2⟩
  ·constructor
   ·rintro ⟨a',h3,h4⟩;rcases zBH.1 h3 with h3 | rfl
    ·exact .inl ⟨a',h3,h4⟩
    ·exact .inr h4
   ·rintro (⟨a',h3,h4⟩ | h)
    ·exact ⟨a',by omega,h4⟩
    ·exact ⟨a,by omega,h⟩
  ·show SJ n (Ek q c pos n) q c pos l (a:Int)=_
   unfold SJ;rw [zBC (by omega),zBA]) c.cells.length 0 (List.replicate pos.length 0) (by omega) ((RL.zero pos).congr fun j t=>⟨fun ⟨a',h,_⟩=>absurd h (zBW a'),fun h=>h.elim⟩)
 have h3:Ev (fun n=>Ek q c pos n (.l1 (List.replicate pos.length 0) 0)) l':=h2.ev (Ev.one fun n=>by
  show SJ n (Ek q c pos n) q c pos l' (c.cells.length:Int)=_
  unfold SJ;rw [zAA (by omega),zAD])
 have h256:=H.h256;refine (h3.p (h1.congr fun j t=>?_)).eq fun n=>?_
 ·exact ⟨fun ⟨a,b,x1,x2,x3,x4,x5,x6⟩=>⟨a,x1,b,x2,x4,x3,x5,x6⟩,fun ⟨a,x1,b,x2,x4,x3,x5,x6⟩=>⟨a,b,x1,x2,x3,x4,x5,x6⟩⟩
 ·unfold Vv jl;rw [zAE ⟨Dz.symm,rfl,by omega,by omega⟩]
theorem jm (H:RW q c pos) {a s:Nat} (ha:a<c.cells.length) (hs:tb (AL c pos a) s=true) (Av:c.cells.Nodup):Vu c pos q.symbols.toNat (c.cells.getD a 0).toNat s↔MI c pos a s:=by
 have W:=H.W;have GO:=W.k
 have one: ∀ b,b<c.cells.length -> (AL c pos b=IntKind.i64.wrap (1*2 ^ s)↔Sg c pos b s):=fun b hb=>by
  have hx:=W.at hb;have TL:=H.low (W.at ha) hs;constructor
  ·intro e;have e2:=(kC (s:=s) (by omega) (hx.in64 (by omega))).1 e;refine ⟨?_,by rw [e2];simp⟩;unfold LL;rw [zBf]
   have ep:AL c pos b=((2 ^ s:Nat):Int):=by
    refine Hi (hx.in64 (by omega)) ?_ fun t ht=>?_
    ·have:=hx.2;have Ti:=Je (k:=s) (by omega);have e3:((2 ^ s:Nat):Int)=(2:Int) ^ s:=by simp
     rw [e3];have:(0:Int)<2 ^ s:=Int.pow_pos (by decide);exact ⟨by omega,by omega⟩
    ·rw [e2,Y4 ht]
   rw [ep];refine (KA (Cy _ _ _)).2 fun t ht=>?_
   have H5:0<2 ^ s:=Nat.two_pow_pos s;have e4:((2 ^ s:Nat):Int)-1=((2 ^ s-1:Nat):Int):=by omega
   rw [EJ,Y4 ht,e4,Hh _ _ ht,Nat.testBit_two_pow_sub_one]
   by_cases e5:s=t
   ·subst e5;simp
   ·rw [zAA e5,zFI]
  ·rintro ⟨h1,h2⟩;refine (kC (s:=s) (by omega) (hx.in64 (by omega))).2 fun t=>?_
   by_cases e:s=t
   ·subst e;rw [h2];simp
   ·rw [zAA e];cases ht:tb (AL c pos b) t with
    | false=>rfl
    | true=>exact absurd (ZF hx GO h1 h2 ht) e
 constructor
 ·rintro ⟨a',b,h1,h2,h3,_,h4,h5⟩
  have e:a'=a:=by
   have c1:=W.cells a' h1;have c2:=W.cells a ha;have e2:c.cells.getD a' 0=c.cells.getD a 0:=by omega
   rw [u8,zBD h1,u8,zBD ha] at e2;have e2:c.cells[a']=c.cells[a]:=e2;have hp:=zFk.1 Av;rcases zGb a' a with h | h | h
   ·exact absurd e2 (hp a' a h1 ha h)
   ·exact h
   ·exact absurd e2.symm (hp a a' ha h1 h)
  subst e;exact ⟨b,h2,fun h=>h3 h.symm,(one b h2).1 h4⟩
 ·rintro ⟨b,h1,h2,h3⟩;exact ⟨a,b,ha,h1,fun h=>h2 h.symm,H.low (W.at ha) hs,(one b h1).2 h3,rfl⟩
theorem Mg {x S:Int} (hx:Sm k x) (hk:k<=62):x-bits .and .i64 x S=bits .andNot .i64 x S:=by
 have Ti:=Je hk;have ha:Sm k (bits .and .i64 x S):=ZE hk (Cy _ _ _) fun i h1 _=>by rw [EJ,hx.hi h1];rfl
 have hb:Sm k (bits .andNot .i64 x S):=ZE hk (Cy _ _ _) fun i h1 _=>by rw [GA,hx.hi h1];rfl
 have h0:BitVec.ofInt 64 (bits .and .i64 x S)&&& BitVec.ofInt 64 (bits .andNot .i64 x S)=0#64:=by
  apply zGZ;intro i hi;rw [BitVec.getLsbD_and]
  show (tb (bits .and .i64 x S) i&&tb (bits .andNot .i64 x S) i)=_
  rw [EJ,GA];simp only [BitVec.getLsbD_zero];cases tb x i <;> cases tb S i <;> rfl
 have h1:=BitVec.add_eq_or_of_and_eq_zero _ _ h0
 have h2:BitVec.ofInt 64 (bits .and .i64 x S)||| BitVec.ofInt 64 (bits .andNot .i64 x S)=BitVec.ofInt 64 x:=by
  apply zGZ;intro i hi;rw [BitVec.getLsbD_or]
  show (tb (bits .and .i64 x S) i||tb (bits .andNot .i64 x S) i)=tb x i
  rw [EJ,GA];cases tb x i <;> cases tb S i <;> rfl
 rw [h2] at h1;have h3:=congrArg BitVec.toNat h1;rw [BitVec.toNat_add,zFd,zFd,zFd] at h3;obtain ⟨a0,a1⟩:=ha;obtain ⟨b0,b1⟩:=hb;obtain ⟨x0,x1⟩:=hx;omega
theorem lO (H:RW q c pos) {a:Nat} (ha:a<c.cells.length):(bits .and .i64 (AL c pos a) c.set==AL c pos a)=Bl c pos a:=by
 have hx:=H.W.at ha;have GO:=H.W.k;unfold Bl;rw [zCM,zBf,zBf];constructor
 ·intro h;refine (KA (Cy _ _ _)).2 fun s _=>?_
  have:=congrArg (fun y=>tb y s) h;simp only [EJ] at this;rw [GA];revert this;cases tb (AL c pos a) s <;> cases tb c.set s <;> simp
 ·intro h;refine Hi (Cy _ _ _) (hx.in64 (by omega)) fun s _=>?_
  rw [EJ];cases hs:tb (AL c pos a) s with
  | false=>rfl
  | true=>rw [Pg h hs];rfl
theorem RW.nzAt (H:RW q c pos) {a:Nat} (ha:a<c.cells.length): ∃ s,tb (AL c pos a) s=true:=by
 have hc:=H.W.cells a ha;have GO:=H.W.k;obtain ⟨s,_,h⟩:=(Eg ((H.W.at ha).in64 (by omega))).1 (H.nz (c.cells.getD a 0).toNat (by omega));exact ⟨s,h⟩
theorem lV (H:RW q c pos) {a:Nat} (ha:a<c.cells.length):(bits .and .i64 (AL c pos a) c.set != 0)=CE c pos a:=by
 unfold CE;cases hm:Bl c pos a
 ·rw [zFP]
 ·rw [zFz,zFX];obtain ⟨s,hs⟩:=H.nzAt ha;unfold Bl at hm;rw [zBf] at hm;exact eH hs (Pg hm hs)
def Lf (c:AC) (pos:List Int) (i j s:Nat):Prop:=∃ a,a<i/\ (c.cells.getD a 0).toNat=j/\
 ((cnt (Bl c pos) c.cells.length=c.hi/\ Bl c pos a=false/\ tb (AL c pos a) s=true/\ tb c.set s=true)∨(cnt (CE c pos) c.cells.length=c.lo/\ CE c pos a=true/\ tb (AL c pos a) s=true/\ tb c.set s=false))
def KR (q:AA) (c:AC) (pos:List Int) (D:Nat -> Nat -> Prop) (ok:Prop) (x:List Int×Bool):Prop:=(x.2=true↔ok)/\ (x.2=true -> RL pos D x.1)
theorem wA (H:RW q c pos):AU (fun n=>Vy n c pos) (KR q c pos (Lf c pos c.cells.length) (JA c pos=true)):=by
 have W:=H.W;have Ak:=W.len;have h256:=H.h256;have GO:=W.k
 obtain ⟨⟨x7,x8⟩,⟨h7,h8⟩,g1⟩:=DK (m:=CY c pos) (fun i (s:Int×Int)=>.l1 s.1 s.2 (i:Int)) (fun i s=>s.1=cnt (Bl c pos) i/\ s.2=cnt (CE c pos) i) c.cells.length (fun i s hi hI=>by
  obtain ⟨m1,m2⟩:=s;obtain ⟨h1,h2⟩:=hI;have h1:m1=cnt (Bl c pos) i:=h1;have h2:m2=cnt (CE c pos) i:=h2;have hc:=W.cells i hi;have b1:=YG (p:=Bl c pos) (i:=i);have b2:=YG (p:=CE c pos) (i:=i);have r1:AG (m1+1):=Ae.2 ⟨by omega,by omega⟩;have r2:AG (m2+1):=Ae.2 ⟨by omega,by omega⟩;have r3:AG ((i:Int)+1):=Ae.2 ⟨by omega,by omega⟩;have em:=lO H hi;have ey:=lV H hi;refine ⟨(cnt (Bl c pos) (i+1),cnt (CE c pos) (i+1)),⟨rfl,rfl⟩,(AZ.one (b:=.l2 (cnt (Bl c pos) (i+1)) m2 (i:Int) (AL c pos i)) fun n=>?_).trans ((AZ.one (b:=.l4 (cnt (Bl c pos) (i+1)) (cnt (CE c pos) (i+1)) (i:Int)) fun n=>?_).trans (AZ.one fun n=>?_))⟩
  ·show KY n (CY c pos n) c pos m1 m2 (i:Int)=_
   unfold KY;simp only [zAB];rw [zBC (by omega),zBA,zAE ⟨⟨by omega,by omega⟩,hc⟩];have e:(bits .and .i64 (pos.getD (c.cells.getD i 0).toNat 0) c.set==pos.getD (c.cells.getD i 0).toNat 0)=Bl c pos i:=em;rw [e,ML];cases Bl c pos i
   ·rw [zAD,h1];simp only [zCQ,zFo,Int.add_zero];rfl
   ·rw [zBA,zAE r1,h1];simp only [zDH];rfl
  ·show Z5 n (CY c pos n) c pos (cnt (Bl c pos) (i+1)) m2 (i:Int) (AL c pos i)=_
   unfold Z5;rw [ey,ML (p:=CE c pos)];cases CE c pos i
   ·rw [zAD,h2];simp only [zCQ,zFo,Int.add_zero]
   ·rw [zBA,zAE r2,h2];simp only [zDH]
  ·show Z4 n (CY c pos n) c pos (cnt (Bl c pos) (i+1)) (cnt (CE c pos) (i+1)) (i:Int)=_
   unfold Z4;rw [zAE r3];rfl) c.cells.length 0 (0,0) (by omega) ⟨rfl,rfl⟩
 have h7:x7=cnt (Bl c pos) c.cells.length:=h7;have h8:x8=cnt (CE c pos) c.cells.length:=h8
 suffices X:AU (fun n=>CY c pos n (.l1 x7 x8 (c.cells.length:Int))) (KR q c pos (Lf c pos c.cells.length) (JA c pos=true)) by
  refine (g1.pev X).eq fun n=>?_
  unfold Vy jp;rw [zAE ⟨Dz.symm,rfl,by omega,by omega⟩];rfl
 have ok:JA c pos=(!decide (x7>c.hi)&&!decide (x8<c.lo)):=by rw [h7,h8];rfl
 by_cases c1:x7>c.hi
 ·refine Ev.p (r:=(List.replicate pos.length 0,false)) (Ev.one fun n=>?_) ⟨⟨fun h=>(by cases h),fun h=>?_⟩,fun h=>(by cases h)⟩
  ·show KY n (CY c pos n) c pos x7 x8 (c.cells.length:Int)=_
   unfold KY;rw [zAA (by omega),zAD,zBC c1,zBA]
  ·rw [ok,zBC c1] at h;cases h
 by_cases c2:x8<c.lo
 ·refine Ev.p (r:=(List.replicate pos.length 0,false)) (Ev.one fun n=>?_) ⟨⟨fun h=>(by cases h),fun h=>?_⟩,fun h=>(by cases h)⟩
  ·show KY n (CY c pos n) c pos x7 x8 (c.cells.length:Int)=_
   unfold KY;rw [zAA (by omega),zAD,zAA c1,zAD,zBC c2,zBA]
  ·rw [ok,zBC c2,zCJ,zFp] at h;cases h
 obtain ⟨l,hl,g2⟩:=DK (m:=CY c pos) (fun i (l:List Int)=>.l3 l x7 x8 (i:Int)) (fun i l=>RL pos (Lf c pos i) l) c.cells.length (fun i l hi hI=>by
  have hc:=W.cells i hi;have r3:AG ((i:Int)+1):=Ae.2 ⟨by omega,by omega⟩;have em:=lO H hi;have ey:=lV H hi;have hx:=W.at hi
  have A: ∃ l1,RL pos (fun j s=>Lf c pos i j s∨((c.cells.getD i 0).toNat=j/\ cnt (Bl c pos) c.cells.length=c.hi/\ Bl c pos i=false/\ tb (AL c pos i) s=true/\ tb c.set s=true)) l1/\ AZ (CY c pos) (.l3 l x7 x8 (i:Int)) (.l5 l1 x7 x8 (i:Int) (AL c pos i)):=by
   have e:(bits .and .i64 (pos.getD (c.cells.getD i 0).toNat 0) c.set != pos.getD (c.cells.getD i 0).toNat 0)= !Bl c pos i:=by rw [←em];rfl
   have U: ∀ n,CY c pos (n+1) (.l3 l x7 x8 (i:Int))=bif (x7==c.hi) then (bif !Bl c pos i then (Ej n l (c.cells.getD i 0) (bits .and .i64 (AL c pos i) c.set)).bind fun y1=>CY c pos n (.l5 y1 x7 x8 (i:Int) (AL c pos i)) else CY c pos n (.l5 l x7 x8 (i:Int) (AL c pos i))) else CY c pos n (.l5 l x7 x8 (i:Int) (AL c pos i)):=fun n=>by
    show SL n (CY c pos n) c pos l x7 x8 (i:Int)=_
    unfold SL;simp only [zAB];rw [zBC (by omega),zBA,zAE ⟨⟨by omega,by omega⟩,hc⟩,e];rfl
   by_cases e1:x7=c.hi
   ·have b1:(x7==c.hi)=true:=zBf.2 e1;cases hm:Bl c pos i
    ·obtain ⟨l1,f1,hL⟩:=hI.lose h256 (ss:=bits .and .i64 (AL c pos i) c.set) hc.1 hc.2;refine ⟨l1,hL.congr fun j s=>?_,AZ.one fun n=>by rw [U,b1,hm,zBA,zCN,zBA,f1,zA9]⟩;rw [EJ,zBE];exact ⟨fun h=>h.elim .inl fun ⟨a,_,_,b,d⟩=>.inr ⟨by omega,b,d⟩,fun h=>h.elim .inl fun ⟨a,b,d⟩=>.inr ⟨by omega,by omega,rfl,b,d⟩⟩
    ·refine ⟨l,hI.congr fun j s=>⟨fun h=>h.elim id fun h=>(by cases h.2.2.1),.inl⟩,AZ.one fun n=>by rw [U,b1,hm,zBA,zCJ,zAD]⟩
   ·have b1:(x7==c.hi)=false:=zB4.2 e1;exact ⟨l,hI.congr fun j s=>⟨fun h=>h.elim id fun h=>absurd (by omega) e1,.inl⟩,AZ.one fun n=>by rw [U,b1,zAD]⟩
  obtain ⟨l1,Fm,ga⟩:=A
  have B: ∃ l2,RL pos (Lf c pos (i+1)) l2/\ AZ (CY c pos) (.l5 l1 x7 x8 (i:Int) (AL c pos i)) (.l6 l2 x7 x8 (i:Int)):=by
   have rr:AG (AL c pos i-bits .and .i64 (AL c pos i) c.set):=by
    rw [Mg hx (by omega)];have:=Cy .andNot (AL c pos i) c.set;exact Ae.2 this
   have U: ∀ n,CY c pos (n+1) (.l5 l1 x7 x8 (i:Int) (AL c pos i))=bif (x8==c.lo) then (bif CE c pos i then (Ej n l1 (c.cells.getD i 0) (bits .andNot .i64 (AL c pos i) c.set)).bind fun y1=>CY c pos n (.l6 y1 x7 x8 (i:Int)) else CY c pos n (.l6 l1 x7 x8 (i:Int))) else CY c pos n (.l6 l1 x7 x8 (i:Int)):=fun n=>by
    show Z3 n (CY c pos n) c pos l1 x7 x8 (i:Int) (AL c pos i)=_
    unfold Z3;simp only [zAB];rw [ey,zAE ⟨⟨by omega,by omega⟩,rr⟩,Mg hx (by omega)]
   have key: ∀ l2,(RL pos (fun j s=>(Lf c pos i j s∨((c.cells.getD i 0).toNat=j/\ cnt (Bl c pos) c.cells.length=c.hi/\ Bl c pos i=false/\ tb (AL c pos i) s=true/\ tb c.set s=true))∨((c.cells.getD i 0).toNat=j/\ cnt (CE c pos) c.cells.length=c.lo/\ CE c pos i=true/\ tb (AL c pos i) s=true/\ tb c.set s=false)) l2) -> RL pos (Lf c pos (i+1)) l2:=fun l2 h=>h.congr fun j s=>by
    constructor
    ·rintro ⟨a,h1,h2,h3⟩;rcases zBH.1 h1 with h1 | rfl
     ·exact .inl (.inl ⟨a,h1,h2,h3⟩)
     ·exact h3.elim (fun h3=>.inl (.inr ⟨h2,h3⟩)) fun h3=>.inr ⟨h2,h3⟩
    ·rintro ((⟨a,h1,h2,h3⟩ | ⟨h2,h3⟩) | ⟨h2,h3⟩)
     ·exact ⟨a,by omega,h2,h3⟩
     ·exact ⟨i,by omega,h2,.inl h3⟩
     ·exact ⟨i,by omega,h2,.inr h3⟩
   by_cases e1:x8=c.lo
   ·have b1:(x8==c.lo)=true:=zBf.2 e1;cases hm:CE c pos i
    ·exact ⟨l1,key l1 (Fm.congr fun j s=>⟨fun h=>h.elim id fun h=>(by have h3:=h.2.2.1;rw [hm] at h3;cases h3),.inl⟩),AZ.one fun n=>by rw [U,b1,hm,zBA,zAD]⟩
    ·obtain ⟨l2,f2,hL⟩:=Fm.lose h256 (ss:=bits .andNot .i64 (AL c pos i) c.set) hc.1 hc.2;refine ⟨l2,key l2 (hL.congr fun j s=>?_),AZ.one fun n=>by rw [U,b1,hm,zBA,zBA,f2,zA9]⟩;rw [GA,zBE,zBh];exact ⟨fun h=>h.elim .inl fun ⟨a,_,_,b,d⟩=>.inr ⟨by omega,b,d⟩,fun h=>h.elim .inl fun ⟨a,b,d⟩=>.inr ⟨by omega,by omega,hm,b,d⟩⟩
   ·have b1:(x8==c.lo)=false:=zB4.2 e1;exact ⟨l1,key l1 (Fm.congr fun j s=>⟨fun h=>h.elim id fun h=>absurd (by omega) e1,.inl⟩),AZ.one fun n=>by rw [U,b1,zAD]⟩
  obtain ⟨l2,Tg,gb⟩:=B;refine ⟨l2,Tg,ga.trans (gb.trans (AZ.one fun n=>?_))⟩
  show Z2 n (CY c pos n) c pos l2 x7 x8 (i:Int)=_
  unfold Z2;rw [zAE r3];rfl) c.cells.length 0 (List.replicate pos.length 0) (by omega) ((RL.zero pos).congr fun j s=>⟨fun ⟨a,h,_⟩=>absurd h (zBW a),fun h=>h.elim⟩)
 have g0:AZ (CY c pos) (.l1 x7 x8 (c.cells.length:Int)) (.l3 (List.replicate pos.length 0) x7 x8 0):=AZ.one fun n=>by
  show KY n (CY c pos n) c pos x7 x8 (c.cells.length:Int)=_
  unfold KY;rw [zAA (by omega),zAD,zAA c1,zAD,zAA c2,zAD]
 refine ((g0.trans g2).ev (Ev.one (r:=(l,true)) fun n=>?_)).p ⟨⟨fun _=>?_,fun _=>rfl⟩,fun _=>hl⟩
 ·show SL n (CY c pos n) c pos l x7 x8 (c.cells.length:Int)=_
  unfold SL;rw [zAA (by omega),zAD]
 ·rw [ok,zAA c1,zAA c2];rfl
theorem ll: ∀ (l:List Int) (a:Int),l.foldl (HH q) a=a∨∃ e∈l,q.values.getD e.toNat 0=l.foldl (HH q) a
 | [],a=>.inl rfl
 | e::l,a=>by
  rw [zFG];rcases ll l (HH q a e) with h | ⟨x,h1,h2⟩
  ·rw [h];unfold HH;split
   ·exact .inr ⟨e,zC4,rfl⟩
   ·exact .inl rfl
  ·exact .inr ⟨x,zCG _ h1,h2⟩
theorem nE: ∀ (l:List Int) (a:Int),l.foldl (HM q) a=a∨∃ e∈l,q.values.getD e.toNat 0=l.foldl (HM q) a
 | [],a=>.inl rfl
 | e::l,a=>by
  rw [zFG];rcases nE l (HM q a e) with h | ⟨x,h1,h2⟩
  ·rw [h];unfold HM;split
   ·exact .inr ⟨e,zC4,rfl⟩
   ·exact .inl rfl
  ·exact .inr ⟨x,zCG _ h1,h2⟩
theorem yA (V:EE q k) (hk:k<=16) {x:Int} (hx:Sm k x) (AY: ∃ s,tb x s=true) {r:Int} (h1: ∃ s,tb x s=true/\ q.values.getD s 0=r) (h2: ∀ s,tb x s=true -> r<=q.values.getD s 0):r=B0 q x:=by
 have mem:=fun e=>EW hx (zBO hk (by decide:(16:Nat)<=62)) (e:=e)
 have low: ∀ {s},tb x s=true -> s<k:=fun {s} h=>zB1 fun BV=>by rw [hx.hi BV] at h;cases h
 obtain ⟨s,hs,rfl⟩:=h1;have g:=(Wd (q:=q) (BK x) 100).1 (zCH _);have g2:=g.2 (s:Int) ((mem _).2 ⟨s,rfl,low hs,hs⟩);rw [zAB] at g2;have g2:B0 q x<=q.values.getD s 0:=g2;have hv:=V.val s (low hs);rcases ll (q:=q) (BK x) 100 with h | ⟨e,he,h⟩
 ·have h:B0 q x=100:=h;omega
 ·obtain ⟨t,rfl,_,ht⟩:=(mem e).1 he;rw [zAB] at h;have h:q.values.getD t 0=B0 q x:=h;have:=h2 t ht;omega
theorem zBe (V:EE q k) (hk:k<=16) {x:Int} (hx:Sm k x) {r:Int} (h1: ∃ s,tb x s=true/\ q.values.getD s 0=r) (h2: ∀ s,tb x s=true -> q.values.getD s 0<=r):r=B1 q x:=by
 have mem:=fun e=>EW hx (zBO hk (by decide:(16:Nat)<=62)) (e:=e)
 have low: ∀ {s},tb x s=true -> s<k:=fun {s} h=>zB1 fun BV=>by rw [hx.hi BV] at h;cases h
 obtain ⟨s,hs,rfl⟩:=h1;have g:=(XM (q:=q) (BK x) (-1)).1 (zCH _);have g2:=g.2 (s:Int) ((mem _).2 ⟨s,rfl,low hs,hs⟩);rw [zAB] at g2;have g2:q.values.getD s 0<=B1 q x:=g2;have hv:=V.val s (low hs);rcases nE (q:=q) (BK x) (-1) with h | ⟨e,he,h⟩
 ·have h:B1 q x= -1:=h;omega
 ·obtain ⟨t,rfl,_,ht⟩:=(mem e).1 he;rw [zAB] at h;have h:q.values.getD t 0=B1 q x:=h;have:=h2 t ht;omega
theorem jY (H:RW q c pos) {x:Int} (hx:Sm q.symbols.toNat x) (AY: ∃ s,tb x s=true):Ev (fun n=>O8 n q x) (B0 q x):=by
 have GO:=H.W.k;have Lt:=H.sy;have ek:((q.symbols.toNat:Nat):Int)=q.symbols:=by omega
 have Dt:=H.vlen
 obtain ⟨r,hr,g⟩:=DK (m:=Ia q x) (fun s (r:Int)=>.l1 r (s:Int)) (fun s r=>(r= -1/\ ∀ t,t<s -> tb x t=false)∨((∃ t,t<s/\ tb x t=true/\ q.values.getD t 0=r)/\ ∀ t,t<s -> tb x t=true -> r<=q.values.getD t 0)) q.symbols.toNat (fun s r hs hI=>by
  obtain ⟨s1,s2,s3⟩:=H.sym hs;have r1:AG ((s:Int)+1):=Ae.2 ⟨by omega,by omega⟩;have hv:=H.V.val s hs
  have U: ∀ n,Ia q x (n+1) (.l1 r (s:Int))=bif tb x s then (bif decide (r<0) then Ia q x n (.l1 (q.values.getD s 0) ((s:Int)+1)) else bif decide (q.values.getD s 0<r) then Ia q x n (.l1 (q.values.getD s 0) ((s:Int)+1)) else Ia q x n (.l1 r ((s:Int)+1))) else Ia q x n (.l1 r ((s:Int)+1)):=fun n=>by
   show SE n (Ia q x n) q x r (s:Int)=_
   unfold SE;rw [zBC s1,zBA,M9 hx (by omega) (by omega),zA9,zAE ⟨⟨by omega,by omega⟩,r1⟩,zAE ⟨by omega,by omega⟩,zAE r1,zAE r1,zAB]
  cases hb:tb x s
  ·refine ⟨r,?_,AZ.one fun n=>by rw [U,hb,zAD];rfl⟩;rcases hI with ⟨h1,h2⟩ | ⟨⟨t,h1,h2,h3⟩,h4⟩
   ·refine .inl ⟨h1,fun t ht=>?_⟩;rcases zBH.1 ht with ht | rfl
    ·exact h2 t ht
    ·exact hb
   ·refine .inr ⟨⟨t,by omega,h2,h3⟩,fun t ht Ep=>?_⟩;rcases zBH.1 ht with ht | rfl
    ·exact h4 t ht Ep
    ·rw [hb] at Ep;cases Ep
  ·by_cases c1:r<0
   ·refine ⟨q.values.getD s 0,?_,AZ.one fun n=>by rw [U,hb,zBA,zBC c1,zBA];rfl⟩;refine .inr ⟨⟨s,by omega,hb,rfl⟩,fun t ht Ep=>?_⟩;rcases zBH.1 ht with ht | rfl
    ·rcases hI with ⟨h1,h2⟩ | ⟨⟨u,h1,h2,h3⟩,h4⟩
     ·rw [h2 t ht] at Ep;cases Ep
     ·have:=H.V.val u (by omega);omega
    ·exact zCH _
   ·have Iq:(∃ t,t<s/\ tb x t=true/\ q.values.getD t 0=r)/\ ∀ t,t<s -> tb x t=true -> r<=q.values.getD t 0:=hI.elim (fun h=>absurd h.1 (by omega)) id
    by_cases c2:q.values.getD s 0<r
    ·refine ⟨q.values.getD s 0,?_,AZ.one fun n=>by rw [U,hb,zBA,zAA c1,zAD,zBC c2,zBA];rfl⟩;refine .inr ⟨⟨s,by omega,hb,rfl⟩,fun t ht Ep=>?_⟩;rcases zBH.1 ht with ht | rfl
     ·have:=Iq.2 t ht Ep;omega
     ·exact zCH _
    ·refine ⟨r,?_,AZ.one fun n=>by rw [U,hb,zBA,zAA c1,zAD,zAA c2,zAD];rfl⟩;obtain ⟨⟨t,h1,h2,h3⟩,h4⟩:=Iq;refine .inr ⟨⟨t,by omega,h2,h3⟩,fun t ht Ep=>?_⟩;rcases zBH.1 ht with ht | rfl
     ·exact h4 t ht Ep
     ·omega) q.symbols.toNat 0 (-1) (by omega) (.inl ⟨rfl,fun t ht=>absurd ht (zBW t)⟩)
 have er:r=B0 q x:=by
  rcases hr with ⟨_,h2⟩ | ⟨⟨t,_,h3,h4⟩,h5⟩
  ·obtain ⟨s,hs⟩:=AY;rw [h2 s (H.low hx hs)] at hs;cases hs
  ·exact yA H.V GO hx AY ⟨t,h3,h4⟩ fun s hs=>h5 s (H.low hx hs) hs
 subst er;refine Ev.eq (g.ev (Ev.one (r:=B0 q x) fun n=>?_)) fun n=>rfl
 show SE n (Ia q x n) q x (B0 q x) ((q.symbols.toNat:Nat):Int)=_
 unfold SE;rw [ek,zAA (by omega),zAD]
theorem jf (H:RW q c pos) {x:Int} (hx:Sm q.symbols.toNat x) (AY: ∃ s,tb x s=true):Ev (fun n=>PA n q x) (B1 q x):=by
 have GO:=H.W.k;have Lt:=H.sy;have ek:((q.symbols.toNat:Nat):Int)=q.symbols:=by omega
 have Dt:=H.vlen
 obtain ⟨r,hr,g⟩:=DK (m:=JZ q x) (fun s (r:Int)=>.l1 r (s:Int)) (fun s r=>-1<=r/\ ((r= -1/\ ∀ t,t<s -> tb x t=false)∨(∃ t,t<s/\ tb x t=true/\ q.values.getD t 0=r))/\ ∀ t,t<s -> tb x t=true -> q.values.getD t 0<=r) q.symbols.toNat (fun s r hs hI=>by
  obtain ⟨s1,s2,s3⟩:=H.sym hs;have r1:AG ((s:Int)+1):=Ae.2 ⟨by omega,by omega⟩;have hv:=H.V.val s hs;obtain ⟨h0,hI,h4⟩:=hI
  have U: ∀ n,JZ q x (n+1) (.l1 r (s:Int))=bif tb x s then (bif decide (q.values.getD s 0>r) then JZ q x n (.l1 (q.values.getD s 0) ((s:Int)+1)) else JZ q x n (.l1 r ((s:Int)+1))) else JZ q x n (.l1 r ((s:Int)+1)):=fun n=>by
   show SG n (JZ q x n) q x r (s:Int)=_
   unfold SG;rw [zBC s1,zBA,M9 hx (by omega) (by omega),zA9,zAE ⟨by omega,by omega⟩,zAE r1,zAE r1,zAB]
  cases hb:tb x s
  ·refine ⟨r,⟨h0,?_,fun t ht Ep=>?_⟩,AZ.one fun n=>by rw [U,hb,zAD];rfl⟩
   ·rcases hI with ⟨h1,h2⟩ | ⟨t,h1,h2,h3⟩
    ·refine .inl ⟨h1,fun t ht=>?_⟩;rcases zBH.1 ht with ht | rfl
     ·exact h2 t ht
     ·exact hb
    ·exact .inr ⟨t,by omega,h2,h3⟩
   ·rcases zBH.1 ht with ht | rfl
    ·exact h4 t ht Ep
    ·rw [hb] at Ep;cases Ep
  ·by_cases c2:q.values.getD s 0>r
   ·refine ⟨q.values.getD s 0,⟨by omega,.inr ⟨s,by omega,hb,rfl⟩,fun t ht Ep=>?_⟩,AZ.one fun n=>by rw [U,hb,zBA,zBC c2,zBA];rfl⟩;rcases zBH.1 ht with ht | rfl
    ·have:=h4 t ht Ep;omega
    ·exact zCH _
   ·refine ⟨r,⟨h0,?_,fun t ht Ep=>?_⟩,AZ.one fun n=>by rw [U,hb,zBA,zAA c2,zAD];rfl⟩
    ·rcases hI with ⟨h1,h2⟩ | ⟨t,h1,h2,h3⟩
     ·omega
     ·exact .inr ⟨t,by omega,h2,h3⟩
    ·rcases zBH.1 ht with ht | rfl
     ·exact h4 t ht Ep
     ·omega) q.symbols.toNat 0 (-1) (by omega) ⟨zCH _,.inl ⟨rfl,fun t ht=>absurd ht (zBW t)⟩,fun t ht=>absurd ht (zBW t)⟩
 have er:r=B1 q x:=by
  obtain ⟨_,hr,h5⟩:=hr;rcases hr with ⟨_,h2⟩ | ⟨t,_,h3,h4⟩
  ·obtain ⟨s,hs⟩:=AY;rw [h2 s (H.low hx hs)] at hs;cases hs
  ·exact zBe H.V GO hx ⟨t,h3,h4⟩ fun s hs=>h5 s (H.low hx hs) hs
 subst er;refine Ev.eq (g.ev (Ev.one (r:=B1 q x) fun n=>?_)) fun n=>rfl
 show SG n (JZ q x n) q x (B1 q x) ((q.symbols.toNat:Nat):Int)=_
 unfold SG;rw [ek,zAA (by omega),zAD]
def Rs (q:AA) (c:AC) (pos:List Int) (i j s:Nat):Prop:=∃ a,a<i/\ (c.cells.getD a 0).toNat=j/\ s<q.symbols.toNat/\ tb (AL c pos a) s=true/\ FX q c pos a s=true
theorem Yy {f:Nat -> Int} {lo hi:Int} (hlo:lo<=0) (hhi:0<=hi): ∀ {m:Nat},(∀ a,a<m -> lo<=f a/\ f a<=hi) -> (m:Int)*lo<=CI f m/\ CI f m<=(m:Int)*hi
 | 0,_=>by simp [CI]
 | m+1,h=>by
  have ih:=Yy hlo hhi (m:=m) fun a ha=>h a (by omega)
  have hm:=h m (by omega);have e:CI f (m+1)=CI f m+f m:=rfl;rw [e,Int.natCast_add,Int.add_mul,Int.add_mul];simp only [Int.natCast_one,Int.one_mul];omega
theorem u7 (H:RW q c pos):AU (fun n=>Vh n q c pos) (KR q c pos (Rs q c pos c.cells.length) (IQ q c pos=true)):=by
 have W:=H.W;have Ak:=W.len;have h256:=H.h256;have GO:=W.k;have Lt:=H.sy;have Dt:=H.vlen;have ek:((q.symbols.toNat:Nat):Int)=q.symbols:=by omega
 have bl: ∀ a,a<c.cells.length -> (0<=B0 q (AL c pos a)/\ B0 q (AL c pos a)<=100)/\ (-1<=B1 q (AL c pos a)/\ B1 q (AL c pos a)<=99):=fun a ha=>⟨H.V.lo GO (W.at ha),H.V.hi GO (W.at ha)⟩
 have tl: ∀ i,i<=c.cells.length -> 0<=CI (fun a=>B0 q (AL c pos a)) i/\ CI (fun a=>B0 q (AL c pos a)) i<=25600:=fun i hi=>by
  have:=Yy (f:=fun a=>B0 q (AL c pos a)) (lo:=0) (hi:=100) (zCH _) (by decide) (m:=i) fun a ha=>(bl a (by omega)).1
  omega
 have th: ∀ i,i<=c.cells.length -> -256<=CI (fun a=>B1 q (AL c pos a)) i/\ CI (fun a=>B1 q (AL c pos a)) i<=25600:=fun i hi=>by
  have:=Yy (f:=fun a=>B1 q (AL c pos a)) (lo:=-1) (hi:=100) (by decide) (by decide) (m:=i) fun a ha=>by have:=(bl a (by omega)).2;omega
  omega
 have ts: ∀ (f:Nat -> Int) (i:Nat),CI f (i+1)=CI f i+f i:=fun _ _=>rfl
 obtain ⟨⟨x9,AO⟩,⟨h9,F3⟩,g1⟩:=DK (m:=Dd q c pos) (fun i (s:Int×Int)=>.l1 s.1 s.2 (i:Int)) (fun i s=>s.1=CI (fun a=>B0 q (AL c pos a)) i/\ s.2=CI (fun a=>B1 q (AL c pos a)) i) c.cells.length (fun i s hi hI=>by
  obtain ⟨m1,m2⟩:=s;obtain ⟨h1,h2⟩:=hI;have h1:m1=CI (fun a=>B0 q (AL c pos a)) i:=h1;have h2:m2=CI (fun a=>B1 q (AL c pos a)) i:=h2;have hc:=W.cells i hi;obtain ⟨N,hN⟩:=jY H (W.at hi) (H.nzAt hi);obtain ⟨M,hM⟩:=jf H (W.at hi) (H.nzAt hi);have b1:=bl i hi;have b2:=tl i (by omega);have b3:=th i (by omega);refine ⟨(CI (fun a=>B0 q (AL c pos a)) (i+1),CI (fun a=>B1 q (AL c pos a)) (i+1)),⟨rfl,rfl⟩,AZ.oneN (max N M) fun n hn=>?_⟩;have e1:O8 n q (pos.getD (c.cells.getD i 0).toNat 0)=some (B0 q (AL c pos i)):=hN n (by omega);have e2:PA n q (pos.getD (c.cells.getD i 0).toNat 0)=some (B1 q (AL c pos i)):=hM n (by omega)
  show KT n (Dd q c pos n) q c pos m1 m2 (i:Int)=_
  unfold KT;simp only [zAB];rw [zBC (by omega),zBA,zAE ⟨⟨by omega,by omega⟩,hc⟩,e1,zA9,zAE (Ae.2 ⟨by omega,by omega⟩),e2,zA9,zAE ⟨Ae.2 ⟨by omega,by omega⟩,Ae.2 ⟨by omega,by omega⟩⟩,h1,h2];rfl) c.cells.length 0 (0,0) (by omega) ⟨rfl,rfl⟩
 have h9:x9=Jm q c pos:=h9;have F3:AO=Jt q c pos:=F3;have bx9:0<=x9/\ x9<=25600:=by rw [h9];exact tl c.cells.length (zBa _)
 have bx10: -256<=AO/\ AO<=25600:=by rw [F3];exact th c.cells.length (zBa _)
 suffices X:AU (fun n=>Dd q c pos n (.l1 x9 AO (c.cells.length:Int))) (KR q c pos (Rs q c pos c.cells.length) (IQ q c pos=true)) by
  refine (g1.pev X).eq fun n=>?_
  unfold Vh jE;rw [zAE ⟨Dz.symm,rfl,by omega,by omega⟩];rfl
 have ok:IQ q c pos=(!decide (x9>c.hi)&&!decide (AO<c.lo)):=by rw [h9,F3];rfl
 by_cases c1:x9>c.hi
 ·refine Ev.p (r:=(List.replicate pos.length 0,false)) (Ev.one fun n=>?_) ⟨⟨fun h=>(by cases h),fun h=>?_⟩,fun h=>(by cases h)⟩
  ·show KT n (Dd q c pos n) q c pos x9 AO (c.cells.length:Int)=_
   unfold KT;rw [zAA (by omega),zAD,zBC c1,zBA]
  ·rw [ok,zBC c1] at h;cases h
 by_cases c2:AO<c.lo
 ·refine Ev.p (r:=(List.replicate pos.length 0,false)) (Ev.one fun n=>?_) ⟨⟨fun h=>(by cases h),fun h=>?_⟩,fun h=>(by cases h)⟩
  ·show KT n (Dd q c pos n) q c pos x9 AO (c.cells.length:Int)=_
   unfold KT;rw [zAA (by omega),zAD,zAA c1,zAD,zBC c2,zBA]
  ·rw [ok,zBC c2,zCJ,zFp] at h;cases h
 obtain ⟨l,hl,g2⟩:=DK (m:=Dd q c pos) (fun i (l:List Int)=>.l2 l x9 AO (i:Int)) (fun i l=>RL pos (Rs q c pos i) l) c.cells.length (fun i l hi hI=>by
  have hc:=W.cells i hi;have hx:=W.at hi;have b1:=bl i hi;obtain ⟨N,hN⟩:=jY H hx (H.nzAt hi);obtain ⟨M,hM⟩:=jf H hx (H.nzAt hi)
  obtain ⟨l',Ck,g3⟩:=DK (m:=Dd q c pos) (fun s (l:List Int)=>.l3 l x9 AO (i:Int) (AL c pos i) (s:Int)) (fun s l=>RL pos (fun j t=>Rs q c pos i j t∨((c.cells.getD i 0).toNat=j/\ t<s/\ tb (AL c pos i) t=true/\ FX q c pos i t=true)) l) q.symbols.toNat (fun s l hs hI=>by
   obtain ⟨s1,s2,s3⟩:=H.sym hs;have hv:=H.V.val s hs;have r1:AG ((s:Int)+1):=Ae.2 ⟨by omega,by omega⟩;have ra:AG (x9-B0 q (AL c pos i))/\ AG ((x9-B0 q (AL c pos i))+q.values.getD s 0):=⟨Ae.2 ⟨by omega,by omega⟩,Ae.2 ⟨by omega,by omega⟩⟩;have rb:AG (AO-B1 q (AL c pos i))/\ AG ((AO-B1 q (AL c pos i))+q.values.getD s 0):=⟨Ae.2 ⟨by omega,by omega⟩,Ae.2 ⟨by omega,by omega⟩⟩;have X:FX q c pos i s=(decide (x9-B0 q (AL c pos i)+q.values.getD s 0>c.hi)||decide (AO-B1 q (AL c pos i)+q.values.getD s 0<c.lo)):=by rw [h9,F3];rfl
   have U: ∀ n,max N M<=n -> Dd q c pos (n+1) (.l3 l x9 AO (i:Int) (AL c pos i) (s:Int))=bif tb (AL c pos i) s&&FX q c pos i s then (Ej n l (c.cells.getD i 0) (IntKind.i64.wrap (1*2 ^ s))).bind fun y=>Dd q c pos n (.l4 y x9 AO (i:Int) (AL c pos i) (s:Int)) else Dd q c pos n (.l4 l x9 AO (i:Int) (AL c pos i) (s:Int)):=fun n hn=>by
    have e1:O8 n q (AL c pos i)=some (B0 q (AL c pos i)):=hN n (by omega);have e2:PA n q (AL c pos i)=some (B1 q (AL c pos i)):=hM n (by omega)
    show Rq n (Dd q c pos n) q c pos l x9 AO (i:Int) (AL c pos i) (s:Int)=_
    unfold Rq;simp only [zAB];rw [zBC s1,zBA,M9 hx (by omega) (by omega),zA9];cases hb:tb (AL c pos i) s
    ·rw [zAD,zFI,zAD]
    ·rw [zBA,zCE,zAE ⟨by omega,by omega⟩,e1,zA9,zAE ra,X];cases d1:decide (x9-B0 q (AL c pos i)+q.values.getD s 0>c.hi)
     ·rw [zAD,e2,zA9,zAE rb,zFP];cases d2:decide (AO-B1 q (AL c pos i)+q.values.getD s 0<c.lo)
      ·rw [zAD,zAD]
      ·rw [zBA,zBA,zAE ⟨⟨by omega,by omega⟩,s3⟩]
     ·rw [zBA,zFz,zBA,zAE ⟨⟨by omega,by omega⟩,s3⟩]
   have G4: ∀ l',AZ (Dd q c pos) (.l4 l' x9 AO (i:Int) (AL c pos i) (s:Int)) (.l3 l' x9 AO (i:Int) (AL c pos i) ((s+1:Nat):Int)):=fun l'=>AZ.one fun n=>by
    show Zm n (Dd q c pos n) q c pos l' x9 AO (i:Int) (AL c pos i) (s:Int)=_
    unfold Zm;rw [zAE r1];rfl
   cases hB:(tb (AL c pos i) s&&FX q c pos i s)
   ·refine ⟨l,hI.congr fun j t=>?_,(AZ.oneN (max N M) fun n hn=>by rw [U n hn,hB,zAD]).trans (G4 l)⟩;constructor
    ·rintro (h | ⟨h1,h2,h3,h4⟩)
     ·exact .inl h
     ·rcases zBH.1 h2 with h2 | rfl
      ·exact .inr ⟨h1,h2,h3,h4⟩
      ·rw [h3,h4] at hB;cases hB
    ·rintro (h | ⟨h1,h2,h3⟩)
     ·exact .inl h
     ·exact .inr ⟨h1,by omega,h3⟩
   ·obtain ⟨l1,f1,Fm⟩:=hI.lose h256 (ss:=IntKind.i64.wrap (1*2 ^ s)) hc.1 hc.2;rw [zBE] at hB;refine ⟨l1,Fm.congr fun j t=>?_,(AZ.oneN (max N M) fun n hn=>by rw [U n hn,hB.1,hB.2,Bool.and_self,zBA,f1,zA9]).trans (G4 l1)⟩;rw [JN (by omega),zBV];constructor
    ·rintro (h | ⟨h1,h2,h3,h4⟩)
     ·exact .inl (.inl h)
     ·rcases zBH.1 h2 with h2 | rfl
      ·exact .inl (.inr ⟨h1,h2,h3,h4⟩)
      ·exact .inr ⟨by omega,rfl⟩
    ·rintro ((h | ⟨h1,h2,h3⟩) | ⟨h1,rfl⟩)
     ·exact .inl h
     ·exact .inr ⟨h1,by omega,h3⟩
     ·exact .inr ⟨by omega,by omega,hB.1,hB.2⟩) q.symbols.toNat 0 l (by omega) (hI.congr fun j t=>⟨fun h=>h.elim id fun h=>absurd h.2.1 (zBW t),.inl⟩)
  refine ⟨l',Ck.congr fun j s=>?_,(AZ.one (b:=.l3 l x9 AO (i:Int) (AL c pos i) ((0:Nat):Int)) fun n=>?_).trans (g3.trans (AZ.one fun n=>?_))⟩
  ·constructor
   ·rintro ⟨a,h1,h2,h3,h4,h5⟩;rcases zBH.1 h1 with h1 | rfl
    ·exact .inl ⟨a,h1,h2,h3,h4,h5⟩
    ·exact .inr ⟨h2,h3,h4,h5⟩
   ·rintro (⟨a,h1,h2,h3⟩ | ⟨h2,h3⟩)
    ·exact ⟨a,by omega,h2,h3⟩
    ·exact ⟨i,by omega,h2,h3⟩
  ·show Rr n (Dd q c pos n) q c pos l x9 AO (i:Int)=_
   unfold Rr;simp only [zAB];rw [zBC (by omega),zBA,zAE ⟨⟨by omega,by omega⟩,hc⟩];rfl
  ·show Rq n (Dd q c pos n) q c pos l' x9 AO (i:Int) (AL c pos i) ((q.symbols.toNat:Nat):Int)=_
   unfold Rq;rw [ek,zAA (by omega),zAD,zAE (Ae.2 ⟨by omega,by omega⟩)];rfl) c.cells.length 0 (List.replicate pos.length 0) (by omega) ((RL.zero pos).congr fun j s=>⟨fun ⟨a,h,_⟩=>absurd h (zBW a),fun h=>h.elim⟩)
 have g0:AZ (Dd q c pos) (.l1 x9 AO (c.cells.length:Int)) (.l2 (List.replicate pos.length 0) x9 AO 0):=AZ.one fun n=>by
  show KT n (Dd q c pos n) q c pos x9 AO (c.cells.length:Int)=_
  unfold KT;rw [zAA (by omega),zAD,zAA c1,zAD,zAA c2,zAD]
 refine ((g0.trans g2).ev (Ev.one (r:=(l,true)) fun n=>?_)).p ⟨⟨fun _=>?_,fun _=>rfl⟩,fun _=>hl⟩
 ·show Rr n (Dd q c pos n) q c pos l x9 AO (c.cells.length:Int)=_
  unfold Rr;rw [zAA (by omega),zAD]
 ·rw [ok,zAA c1,zAA c2];rfl
end
end Go.Proofs.YtekkngkphejfcaaGreatDoor
namespace Go.Proofs.YtekkngkphejfcaaGreatDoor
open Go.RowKit
section
variable {q:AA} {c:AC} {pos:List Int} {k:Nat}
def K7 (c:AC) (pos:List Int) (i j:Nat) (g:Nat -> Nat):Prop:=∀ b,i<=b -> b<j -> tb (AL c pos b) (g b)=true
def K6 (q:AA) (i j:Nat) (g:Nat -> Nat):Prop:=∀ b,i<=b -> b+1<j -> q.values.getD (g b) 0<q.values.getD (g (b+1)) 0
theorem fT {b:Int}: ∀ (l:List Int) (a:Int),l.foldl (JL q b) a=a∨∃ e∈l,q.values.getD e.toNat 0=l.foldl (JL q b) a/\ q.values.getD e.toNat 0>b
 | [],a=>.inl rfl
 | e::l,a=>by
  rw [zFG];rcases fT l (JL q b a e) with h | ⟨x,h1,h2⟩
  ·rw [h];unfold JL;split
   ·rename_i h3;split
    ·exact .inr ⟨e,zC4,rfl,h3⟩
    ·exact .inl rfl
   ·exact .inl rfl
  ·exact .inr ⟨x,zCG _ h1,h2⟩
theorem ou {b:Int}: ∀ (l:List Int) (a:Int),l.foldl (I6 q b) a=a∨∃ e∈l,q.values.getD e.toNat 0=l.foldl (I6 q b) a/\ q.values.getD e.toNat 0<b
 | [],a=>.inl rfl
 | e::l,a=>by
  rw [zFG];rcases ou l (I6 q b a e) with h | ⟨x,h1,h2⟩
  ·rw [h];unfold I6;split
   ·rename_i h3;split
    ·exact .inr ⟨e,zC4,rfl,h3⟩
    ·exact .inl rfl
   ·exact .inl rfl
  ·exact .inr ⟨x,zCG _ h1,h2⟩
theorem pV (W:Bq c k pos): ∀ i,i<=c.cells.length -> FT q c pos i<100 -> ∃ g,K7 c pos 0 i g/\ K6 q 0 i g/\ (0<i -> q.values.getD (g (i-1)) 0=FT q c pos i)
 | 0,_,_=>⟨fun _=>0,fun b _ h=>absurd h (zBW b),fun b _ h=>absurd h (zBW _),fun h=>absurd h (Nat.lt_irrefl 0)⟩
 | i+1,hi,h=>by
  rcases fT (q:=q) (b:=FT q c pos i) (BK (AL c pos i)) 100 with h1 | ⟨e,h1,h2,h3⟩
  ·have:FT q c pos (i+1)=100:=h1;omega
  ·have h2:q.values.getD e.toNat 0=FT q c pos (i+1):=h2;obtain ⟨s,rfl,hs,ht⟩:=(EW (W.at (by omega)) (zBO W.k (by decide))).1 h1;rw [zAB] at h2 h3;obtain ⟨g,g1,g2,g3⟩:=pV W i (by omega) (by omega);refine ⟨fun b=>if b=i then s else g b,fun b h4 h5=>?_,fun b h4 h5=>?_,fun _=>?_⟩
   ·dsimp only
    by_cases e:b=i
    ·subst e;rw [zAE rfl];exact ht
    ·rw [zBP e];exact g1 b h4 (by omega)
   ·have e1:b≠i:=by omega
    dsimp only
    rw [zBP e1]
    by_cases e2:b+1=i
    ·have:=g3 (by omega);rw [zAE e2,show b=i-1 by omega,this];exact h3
    ·rw [zBP e2];exact g2 b h4 (by omega)
   ·dsimp only
    rw [zAE (by omega)];exact h2
theorem zEL (W:Bq c k pos) {g:Nat -> Nat}: ∀ i,i<c.cells.length -> K7 c pos 0 (i+1) g -> K6 q 0 (i+1) g -> FT q c pos i<q.values.getD (g i) 0 -> FT q c pos (i+1)<=q.values.getD (g i) 0:=fun i hi h1 _ h3=>by
 have h:=(Us (q:=q) (b:=FT q c pos i) (BK (AL c pos i)) 100).1 (zCH _);have ht:=h1 i (zE6 _) (by omega);have hm:=(EW (W.at hi) (zBO W.k (by decide)) (e:=(g i:Int))).2 ⟨g i,rfl,zB1 fun BV=>(by rw [(W.at hi).hi BV] at ht;cases ht),ht⟩;have:=h.2 _ hm;rw [zAB] at this;exact this h3
theorem pX (W:Bq c k pos) (V:EE q k) {g:Nat -> Nat}: ∀ i,i<c.cells.length -> K7 c pos 0 (i+1) g -> K6 q 0 (i+1) g -> FT q c pos i<q.values.getD (g i) 0
 | 0,hi,h1,_=>by
  have ht:=h1 0 (zBa _) (by omega);have:=V.val (g 0) (zB1 fun BV=>(by rw [(W.at hi).hi BV] at ht;cases ht))
  show (-1:Int)<_
  omega
 | i+1,hi,h1,h2=>by
  have a1:K7 c pos 0 (i+1) g:=fun b h3 h4=>h1 b h3 (by omega)
  have a2:K6 q 0 (i+1) g:=fun b h3 h4=>h2 b h3 (by omega)
  have h3:=pX W V i (by omega) a1 a2;have h4:=zEL W i (by omega) a1 a2 h3;have h5:=h2 i (zE6 _) (by omega);omega
theorem qB (W:Bq c k pos): ∀ m,m<=c.cells.length -> -1<Gv q c pos m -> ∃ g,K7 c pos (c.cells.length-m) c.cells.length g/\ K6 q (c.cells.length-m) c.cells.length g/\ (0<m -> q.values.getD (g (c.cells.length-m)) 0=Gv q c pos m)
 | 0,_,_=>⟨fun _=>0,fun b h1 h2=>absurd h2 (by omega),fun b h1 h2=>absurd h2 (by omega),fun h=>absurd h (Nat.lt_irrefl 0)⟩
 | m+1,hm,h=>by
  rcases ou (q:=q) (b:=Gv q c pos m) (BK (AL c pos (c.cells.length-1-m))) (-1) with h1 | ⟨e,h1,h2,h3⟩
  ·have:Gv q c pos (m+1)= -1:=h1;omega
  ·have h2:q.values.getD e.toNat 0=Gv q c pos (m+1):=h2;obtain ⟨s,rfl,hs,ht⟩:=(EW (W.at (by omega)) (zBO W.k (by decide))).1 h1;rw [zAB] at h2 h3;obtain ⟨g,g1,g2,g3⟩:=qB W m (by omega) (by omega);have ei:c.cells.length-(m+1)=c.cells.length-1-m:=by omega
   refine ⟨fun b=>if b=c.cells.length-1-m then s else g b,fun b h4 h5=>?_,fun b h4 h5=>?_,fun _=>?_⟩
   ·dsimp only
    by_cases e:b=c.cells.length-1-m
    ·subst e;rw [zAE rfl];exact ht
    ·rw [zBP e];exact g1 b (by omega) h5
   ·have e2:b+1≠c.cells.length-1-m:=by omega
    dsimp only
    rw [zBP e2]
    by_cases e1:b=c.cells.length-1-m
    ·have:=g3 (by omega);rw [zAE e1,show b+1=c.cells.length-m by omega,this];exact h3
    ·rw [zBP e1];exact g2 b (by omega) h5
   ·dsimp only
    rw [zAE ei];exact h2
theorem qC (W:Bq c k pos) (V:EE q k) {g:Nat -> Nat}: ∀ m,m<c.cells.length -> K7 c pos (c.cells.length-1-m) c.cells.length g -> K6 q (c.cells.length-1-m) c.cells.length g -> q.values.getD (g (c.cells.length-1-m)) 0<Gv q c pos m
 | 0,hm,h1,_=>by
  have ht:=h1 (c.cells.length-1-0) (by omega) (by omega);have:=V.val (g (c.cells.length-1-0)) (zB1 fun BV=>(by rw [(W.at (by omega)).hi BV] at ht;cases ht))
  show _<(100:Int)
  omega
 | m+1,hm,h1,h2=>by
  have e1:c.cells.length-1-m=c.cells.length-1-(m+1)+1:=by omega
  have a1:K7 c pos (c.cells.length-1-m) c.cells.length g:=fun b h3 h4=>h1 b (by omega) h4
  have a2:K6 q (c.cells.length-1-m) c.cells.length g:=fun b h3 h4=>h2 b (by omega) h4
  have h3:=qC W V m (by omega) a1 a2;have h:=(X2 (q:=q) (b:=Gv q c pos m) (BK (AL c pos (c.cells.length-1-m))) (-1)).1 (zCH _);have ht:=h1 (c.cells.length-1-m) (by omega) (by omega);have Cg:=(EW (W.at (a:=c.cells.length-1-m) (by omega)) (zBO W.k (by decide)) (e:=(g (c.cells.length-1-m):Int))).2 ⟨_,rfl,zB1 fun BV=>(by rw [(W.at (by omega)).hi BV] at ht;cases ht),ht⟩;have h4:=h.2 _ Cg;rw [zAB] at h4;have h4:_<=Gv q c pos (m+1):=h4 h3;have h5:=h2 (c.cells.length-1-(m+1)) (zBa _) (by omega);rw [←e1] at h5;omega
theorem uL (W:Bq c k pos) (V:EE q k) {a s:Nat} (ha:a<c.cells.length) (hs:tb (AL c pos a) s=true):Gd q c pos a s=false↔∃ g,K7 c pos 0 c.cells.length g/\ K6 q 0 c.cells.length g/\ g a=s:=by
 have hv:=V.val s (zB1 fun BV=>(by rw [(W.at ha).hi BV] at hs;cases hs));unfold Gd IG;rw [zGr,zE1,zE1];constructor
 ·rintro ⟨h1,h2⟩;obtain ⟨g1,p1,p2,p3⟩:=pV (q:=q) W a (by omega) (by omega);obtain ⟨g2,r1,r2,r3⟩:=qB (q:=q) W (c.cells.length-(a+1)) (by omega) (by omega);have el:c.cells.length-(c.cells.length-(a+1))=a+1:=by omega
  rw [el] at r1 r2 r3;refine ⟨fun b=>if b<a then g1 b else if b=a then s else g2 b,fun b _ hb=>?_,fun b _ hb=>?_,by dsimp only;rw [if_neg (by omega),if_pos rfl]⟩
  ·dsimp only
   by_cases e1:b<a
   ·rw [zAE e1];exact p1 b (zE6 _) e1
   ·by_cases e2:b=a
    ·subst e2;rw [zBP e1,zAE rfl];exact hs
    ·rw [zBP e1,zBP e2];exact r1 b (by omega) hb
  ·dsimp only
   by_cases e1:b<a
   ·rw [zAE e1]
    by_cases e2:b+1<a
    ·rw [zAE e2];exact p2 b (zE6 _) e2
    ·have:=p3 (by omega);rw [zBP e2,zAE (by omega),show b=a-1 by omega,this];omega
   ·rw [zBP e1,zBP (by omega: ¬ b+1<a),zBP (by omega: ¬ b+1=a)]
    by_cases e2:b=a
    ·have:=r3 (by omega);rw [zAE e2,e2,this];omega
    ·rw [zBP e2];exact r2 b (by omega) hb
 ·rintro ⟨g,h1,h2,rfl⟩;have l1:=pX W V a ha (fun b h3 h4=>h1 b h3 (by omega)) (fun b h3 h4=>h2 b h3 (by omega));have l2:=qC W V (c.cells.length-1-a) (by omega) (fun b h3 h4=>h1 b (by omega) h4) (fun b h3 h4=>h2 b (by omega) h4);have e1:c.cells.length-1-(c.cells.length-1-a)=a:=by omega
  have e2:c.cells.length-(a+1)=c.cells.length-1-a:=by omega
  rw [e1] at l2;rw [e2];omega
def RX (c:AC) (pos:List Int) (a:Nat) (inn:Bool):Nat -> Int×Int -> Prop
 | 0,t=>Yb c t
 | m+1,s=>∃ b u,kd c pos (c.cells.length-1-m) b=true/\ (c.cells.length-1-m=a -> b=inn)/\ nx c s.1 s.2 b=some u/\ RX c pos a inn m u
theorem VF {a:Nat} {inn:Bool}: ∀ (m:Nat),m+a+1<=c.cells.length -> ∀ t,Ey c pos (c.cells.length-m) t -> (RX c pos a inn m t↔IL c pos m t)
 | 0,_,t,_=>Iff.rfl
 | m+1,hm,s,hr=>by
  have e:c.cells.length-(m+1)=c.cells.length-1-m:=by omega
  have e2:c.cells.length-m=c.cells.length-1-m+1:=by omega
  rw [e] at hr;constructor
  ·rintro ⟨b,u,h1,_,h3,h4⟩;exact ⟨hr,u,b,h3,h1,(VF m (by omega) u (by rw [e2];exact ⟨s,b,hr,h3,h1⟩)).1 h4⟩
  ·rintro ⟨_,u,b,h3,h1,h4⟩;exact ⟨b,u,h1,fun h=>absurd h (by omega),h3,(VF m (by omega) u (by rw [e2];exact ⟨s,b,hr,h3,h1⟩)).2 h4⟩
theorem iJ {a:Nat} {inn:Bool} (ha:a<c.cells.length): ∀ (i:Nat),i<=a -> (RX c pos a inn c.cells.length (0,0)↔∃ s,Ey c pos i s/\ RX c pos a inn (c.cells.length-i) s)
 | 0,_=>⟨fun h=>⟨(0,0),rfl,h⟩,fun ⟨s,h1,h2⟩=>by
  have h1:s=(0,0):=h1;subst h1;exact h2⟩
 | i+1,hi=>by
  rw [iJ ha i (by omega)];have e:c.cells.length-i=(c.cells.length-(i+1))+1:=by omega
  have e2:c.cells.length-1-(c.cells.length-(i+1))=i:=by omega
  constructor
  ·rintro ⟨s,h1,h2⟩;rw [e] at h2;obtain ⟨b,u,h3,_,h5,h6⟩:=h2;rw [e2] at h3;exact ⟨u,⟨s,b,h1,h5,h3⟩,h6⟩
  ·rintro ⟨u,⟨s,b,h1,h5,h3⟩,h6⟩;refine ⟨s,h1,?_⟩;rw [e];exact ⟨b,u,by rw [e2];exact h3,fun h=>absurd h (by rw [e2];omega),h5,h6⟩
theorem dt {a:Nat} {inn:Bool} (ha:a<c.cells.length):Gs c pos a inn↔RX c pos a inn c.cells.length (0,0):=by
 rw [iJ ha a (zBa _)];have e:c.cells.length-a=(c.cells.length-1-a)+1:=by omega
 have e2:c.cells.length-1-(c.cells.length-1-a)=a:=by omega
 have e3:c.cells.length-(c.cells.length-1-a)=a+1:=by omega
 constructor
 ·rintro ⟨s,t,h1,h2,h3,h4⟩;refine ⟨s,h1,?_⟩;rw [e];exact ⟨inn,t,by rw [e2];exact h3,fun _=>rfl,h2,(VF _ (by omega) t (by rw [e3];exact ⟨s,inn,h1,h2,h3⟩)).2 h4⟩
 ·rintro ⟨s,h1,h2⟩;rw [e] at h2;obtain ⟨b,t,h3,h4,h5,h6⟩:=h2;rw [e2] at h3 h4;obtain rfl:=h4 rfl;exact ⟨s,t,h1,h5,h3,(VF _ (by omega) t (by rw [e3];exact ⟨s,b,h1,h5,h3⟩)).1 h6⟩
end
end Go.Proofs.YtekkngkphejfcaaGreatDoor
namespace Go.Proofs.YtekkngkphejfcaaGreatDoor
open Go.RowKit
open Classical
def JG (f:Nat -> Bool):Nat -> Nat -> Bool
 | 0,_=>false
 | k+1,t=>f t||JG f k (t+1)
theorem eG {f:Nat -> Bool}: ∀ (k t:Nat),JG f k t=true↔∃ u,t<=u/\ u<t+k/\ f u=true
 | 0,t=>⟨fun h=>(by cases h),fun ⟨u,h1,h2,_⟩=>absurd h2 (by omega)⟩
 | k+1,t=>by
  show (f t||JG f k (t+1))=true↔_
  rw [zBg,eG k (t+1)];constructor
  ·rintro (h | ⟨u,h1,h2,h3⟩)
   ·exact ⟨t,zBa _,by omega,h⟩
   ·exact ⟨u,by omega,by omega,h3⟩
  ·rintro ⟨u,h1,h2,h3⟩
   by_cases e:u=t
   ·subst e;exact .inl h3
   ·exact .inr ⟨u,by omega,by omega,h3⟩
section
variable {q:AA} {c:AC} {pos l:List Int} {k:Nat}
def RE (q:AA) (c:AC) (pos:List Int) (a s:Nat):Nat -> Int -> Prop
 | 0,_=>True
 | m+1,v=>∃ t,tb (AL c pos (c.cells.length-1-m)) t=true/\ (c.cells.length-1-m=a -> t=s)/\ v<q.values.getD t 0/\ RE q c pos a s m (q.values.getD t 0)
theorem jN (H:RW q c pos) {Az:AA -> AC -> List Int -> Int -> Int -> Int -> Int -> Option Bool} {i a s:Nat} {v:Int} {D:Nat -> Bool} (hi:i<c.cells.length)
 (hD: ∀ t,t<q.symbols.toNat -> Az q c pos ((i:Int)+1) (q.values.getD t 0) (a:Int) (s:Int)=some (D t)): ∀ (k t n:Nat),t+k=q.symbols.toNat -> k<n ->
 Lb Az q c pos (i:Int) v (a:Int) (s:Int) n (.l1 (t:Int))=some (JG (fun t=>tb (AL c pos i) t&&decide (i=a -> t=s)&&decide (v<q.values.getD t 0)&&D t) k t)
 | 0,t,n+1,e,_=>by
  have:=H.sy
  show Rz n Az (Lb Az q c pos i v a s n) q c pos i v a s (t:Int)=_
  unfold Rz;rw [zAA (by omega),zAD];rfl
 | k+1,t,n+1,e,hn=>by
  have Lt:=H.sy;have Dt:=H.vlen;have Ak:=H.W.len;obtain ⟨s1,s2,s3⟩:=H.sym (s:=t) (by omega);have ih:=jN H (v:=v) hi hD k (t+1) n (by omega) (by omega);have ih:Lb Az q c pos (i:Int) v (a:Int) (s:Int) n (.l1 ((t:Int)+1))=_:=ih;have hc:=H.W.cells i hi;have hx:=H.W.at hi;have r1:AG ((t:Int)+1):=Ae.2 ⟨by omega,by omega⟩;have r2:AG ((i:Int)+1):=Ae.2 ⟨by omega,by omega⟩;have GO:=H.W.k
  show Rz n Az (Lb Az q c pos i v a s n) q c pos i v a s (t:Int)=_
  have e0:GE n (pos.getD (c.cells.getD i 0).toNat 0) (t:Int)=some (tb (AL c pos i) t):=M9 hx (by omega) (by omega)
  have e1:((i:Int) != (a:Int))= !decide (i=a):=by
   by_cases h:i=a
   ·subst h;simp
   ·rw [zAA h];simp;omega
  have e2:((t:Int)==(s:Int))=decide (t=s):=by
   by_cases h:t=s
   ·subst h;simp
   ·rw [zAA h];simp;omega
  unfold Rz;simp only [zAB];rw [zBC s1,zBA,zAE ⟨⟨by omega,by omega⟩,hc⟩,e0,zA9,zAE r1,ih,e1,e2,zAE (⟨by omega,by omega⟩:0<=(t:Int)/\ (t:Int)<(q.values.length:Int)),zAE r2,hD t (by omega),zA9]
  show _=some ((tb (AL c pos i) t&&decide (i=a -> t=s)&&decide (v<q.values.getD t 0)&&D t)||JG _ k (t+1))
  cases tb (AL c pos i) t
  ·rfl
  ·by_cases h1:i=a
   ·rw [zBC h1]
    by_cases h2:t=s
    ·rw [zBC h2,zBC (fun _=>h2:i=a -> t=s)]
     by_cases h3:v<q.values.getD t 0
     ·rw [zBC h3];cases D t <;> rfl
     ·rw [zAA h3];rfl
    ·rw [zAA h2,zAA (fun h=>h2 (h h1): ¬ (i=a -> t=s))];rfl
   ·rw [zAA h1,zBC (fun h=>absurd h h1:i=a -> t=s)]
    by_cases h3:v<q.values.getD t 0
    ·rw [zBC h3];cases D t <;> rfl
    ·rw [zAA h3];rfl
theorem jO (H:RW q c pos) {a s:Nat}: ∀ (m:Nat),m<=c.cells.length -> ∀ v:Int,Ev (fun n=>JW n q c pos ((c.cells.length-m:Nat):Int) v (a:Int) (s:Int)) (decide (RE q c pos a s m v))
 | 0,_,v=>⟨1,fun n hn=>by
  obtain ⟨n,rfl⟩: ∃ k,n=k+1:=⟨n-1,by omega⟩
  show R5 n _ _ q c pos _ v a s=_
  unfold R5;rw [show ((c.cells.length-0:Nat):Int)=(c.cells.length:Int) from rfl,zFW,zBA,zBC (p:=RE q c pos a s 0 v) trivial]⟩
 | m+1,hm,v=>by
  obtain ⟨N,hN⟩:=AU.range (F:=fun t n=>JW n q c pos ((c.cells.length-m:Nat):Int) (q.values.getD t 0) (a:Int) (s:Int)) (A:=fun t b=>b=decide (RE q c pos a s m (q.values.getD t 0))) q.symbols.toNat fun t _=>(jO H m (by omega) (q.values.getD t 0)).p rfl
  have Lt:=H.sy;refine ⟨N+q.symbols.toNat+2,fun n hn=>?_⟩;obtain ⟨n,rfl⟩: ∃ k,n=k+1:=⟨n-1,by omega⟩;have ei:c.cells.length-(m+1)=c.cells.length-1-m:=by omega
  have ej:((c.cells.length-m:Nat):Int)=((c.cells.length-1-m:Nat):Int)+1:=by omega
  show R5 n (JW n) (Lb (JW n) q c pos ((c.cells.length-(m+1):Nat):Int) v a s n) q c pos ((c.cells.length-(m+1):Nat):Int) v a s=_
  unfold R5;rw [show (((c.cells.length-(m+1):Nat):Int)==(c.cells.length:Int))=false by simp;omega,zAD,ei];refine (jN H (i:=c.cells.length-1-m) (a:=a) (s:=s) (v:=v) (D:=fun t=>decide (RE q c pos a s m (q.values.getD t 0))) (by omega) (fun t ht=>?_) q.symbols.toNat 0 n (by omega) (by omega)).trans (congrArg some ?_)
  ·obtain ⟨r,h1,h2⟩:=hN n (by omega) t ht;subst h2;rw [←ej];exact h1
  ·rw [zCM,eG,zBV];simp only [zBE,zBV];constructor
   ·rintro ⟨t,_,_,⟨⟨h1,h2⟩,h3⟩,h4⟩;exact ⟨t,h1,h2,h3,h4⟩
   ·rintro ⟨t,h1,h2,h3,h4⟩;exact ⟨t,zE6 _,by have:=H.low (H.W.at (by omega)) h1;omega,⟨⟨h1,h2⟩,h3⟩,h4⟩
theorem Zg {a s:Nat}: ∀ (m:Nat),m<=c.cells.length -> ∀ v:Int,RE q c pos a s m v↔∃ g,K7 c pos (c.cells.length-m) c.cells.length g/\ K6 q (c.cells.length-m) c.cells.length g/\ (c.cells.length-m<=a -> a<c.cells.length -> g a=s)/\ (0<m -> v<q.values.getD (g (c.cells.length-m)) 0)
 | 0,_,v=>⟨fun _=>⟨fun _=>s,fun b h1 h2=>absurd h1 (by omega),fun b h1 h2=>absurd h1 (by omega),fun h1 h2=>absurd h1 (by omega),fun h=>absurd h (Nat.lt_irrefl 0)⟩,fun _=>trivial⟩
 | m+1,hm,v=>by
  have ei:c.cells.length-(m+1)=c.cells.length-1-m:=by omega
  have ej:c.cells.length-m=c.cells.length-1-m+1:=by omega
  constructor
  ·rintro ⟨t,h1,h2,h3,h4⟩;obtain ⟨g,g1,g2,g3,g4⟩:=(Zg m (by omega) _).1 h4;rw [ei];refine ⟨fun b=>if b=c.cells.length-1-m then t else g b,fun b hb Iw=>?_,fun b hb Iw=>?_,fun hb Iw=>?_,fun _=>?_⟩
   ·dsimp only
    by_cases e:b=c.cells.length-1-m
    ·subst e;rw [zAE rfl];exact h1
    ·rw [zBP e];exact g1 b (by omega) Iw
   ·dsimp only
    rw [zBP (by omega: ¬ b+1=c.cells.length-1-m)]
    by_cases e:b=c.cells.length-1-m
    ·rw [zAE e];have:=g4 (by omega);rw [ej] at this;rw [e];exact this
    ·rw [zBP e];exact g2 b (by omega) Iw
   ·dsimp only
    by_cases e:a=c.cells.length-1-m
    ·rw [zAE e];exact h2 e.symm
    ·rw [zBP e];exact g3 (by omega) Iw
   ·dsimp only
    rw [zAE rfl];exact h3
  ·rw [ei];rintro ⟨g,g1,g2,g3,g4⟩;refine ⟨g (c.cells.length-1-m),g1 _ (zBa _) (by omega),fun e=>?_,g4 (by omega),(Zg m (by omega) _).2 ⟨g,fun b hb Iw=>g1 b (by omega) Iw,fun b hb Iw=>g2 b (by omega) Iw,fun hb Iw=>g3 (by omega) Iw,fun AB=>?_⟩⟩
   ·rw [e];exact g3 (by omega) (by omega)
   ·rw [ej];exact g2 _ (zBa _) (by omega)
theorem uq (H:RW q c pos) {a s:Nat} (ha:a<c.cells.length) (hs:tb (AL c pos a) s=true):RE q c pos a s c.cells.length (-1)↔Gd q c pos a s=false:=by
 rw [Zg _ (zBa _),uL H.W H.V ha hs,zGO];constructor
 ·rintro ⟨g,g1,g2,g3,_⟩;exact ⟨g,g1,g2,g3 (zE6 _) ha⟩
 ·rintro ⟨g,g1,g2,g3⟩;refine ⟨g,g1,g2,fun _ _=>g3,fun h=>?_⟩;have:=H.V.val (g 0) (H.low (H.W.at h) (g1 0 (zBa _) h));omega
theorem yg (H:RW q c pos) {i:Nat} (hi:i<c.cells.length):(bits .and .i64 (AL c pos i) c.set==AL c pos i)= !kd c pos i false:=by
 have h:=Mg (S:=c.set) (H.W.at hi) (zBO H.W.k (by decide))
 show _= !(bits .andNot .i64 (AL c pos i) c.set != 0)
 rw [←h,zCM,zBf,zBh,bne_eq_false_iff_eq];omega
theorem ZP {d l:Int} (hp: ∀ j,j<c.runs.length -> 1<=c.runs.getD j 0) (h:Ex c d l):Yb c (d,l)↔(if l>0 then d+1=(c.runs.length:Int)/\ l=c.runs.getD d.toNat 0 else d=(c.runs.length:Int)):=by
 obtain ⟨h1,h2,h3,h4⟩:=h;unfold Yb
 by_cases hl:l>0
 ·rw [zAE hl];have h5:=h4 hl;constructor
  ·rintro (h | ⟨h6,h⟩)
   ·have:l=0:=congrArg Prod.snd h;omega
   ·have e1:d=(c.runs.length:Int)-1:=congrArg Prod.fst h;have e2:l=c.runs.getD (c.runs.length-1) 0:=congrArg Prod.snd h;exact ⟨by omega,by rw [e2,show d.toNat=c.runs.length-1 by omega]⟩
  ·rintro ⟨h6,h7⟩;exact .inr ⟨by omega,Prod.ext (by show d=_;omega) (by show l=_;rw [h7,show d.toNat=c.runs.length-1 by omega])⟩
 ·rw [zBP hl];constructor
  ·rintro (h | ⟨h6,h⟩)
   ·exact congrArg Prod.fst h
   ·have e2:l=c.runs.getD (c.runs.length-1) 0:=congrArg Prod.snd h;have:=hp (c.runs.length-1) (by omega);omega
  ·intro h;exact .inl (Prod.ext h (by show l=0;omega))
def eP (c:AC):Prop:=∀ j,j<c.runs.length -> 1<=c.runs.getD j 0
def RY (c:AC) (pos:List Int) (a:Nat) (inn:Bool) (m:Nat) (d l:Int):Prop:=Ex c d l/\ RX c pos a inn m (d,l)
theorem tO {a m:Nat} {inn:Bool} {d l:Int} (hs:Ex c d l):RY c pos a inn (m+1) d l↔
 (kd c pos (c.cells.length-1-m) true=true/\ (c.cells.length-1-m=a -> inn=true)/\ RY c pos a inn m d (l+1))∨
 (kd c pos (c.cells.length-1-m) false=true/\ (c.cells.length-1-m=a -> inn=false)/\ ((l=0/\ RY c pos a inn m d 0)∨(l≠0/\ l=c.runs.getD d.toNat 0/\ RY c pos a inn m (d+1) 0))):=by
 constructor
 ·rintro ⟨_,b,u,h1,h2,h3,h4⟩;have hu:=kw hs h3;cases b
  ·refine .inr ⟨h1,fun h=>(h2 h).symm,?_⟩;have h3:(if l=0 then some (d,0) else if l=c.runs.getD d.toNat 0 then some (d+1,0) else none)=some u:=h3
   by_cases h5:l=0
   ·rw [zAE h5] at h3;cases h3;exact .inl ⟨h5,hu,h4⟩
   ·rw [zBP h5] at h3
    by_cases h6:l=c.runs.getD d.toNat 0
    ·rw [zAE h6] at h3;cases h3;exact .inr ⟨h5,h6,hu,h4⟩
    ·rw [zBP h6] at h3;cases h3
  ·refine .inl ⟨h1,fun h=>(h2 h).symm,?_⟩;have h3:(if d<(c.runs.length:Int)/\ l<c.runs.getD d.toNat 0 then some (d,l+1) else none)=some u:=h3;split at h3
   ·cases h3;exact ⟨hu,h4⟩
   ·cases h3
 ·rintro (⟨h1,h2,h3,h4⟩ | ⟨h1,h2,⟨h5,h3,h4⟩ | ⟨h5,h6,h3,h4⟩⟩)
  ·refine ⟨hs,true,(d,l+1),h1,fun h=>(h2 h).symm,?_,h4⟩;have:=h3.open' (by have:=hs.l0;omega)
   show (if d<(c.runs.length:Int)/\ l<c.runs.getD d.toNat 0 then some (d,l+1) else none)=_
   rw [zAE ⟨this.1,by omega⟩]
  ·refine ⟨hs,false,(d,0),h1,fun h=>(h2 h).symm,?_,h4⟩
   show (if l=0 then some (d,0) else if l=c.runs.getD d.toNat 0 then some (d+1,0) else none)=_
   rw [zAE h5]
  ·refine ⟨hs,false,(d+1,0),h1,fun h=>(h2 h).symm,?_,h4⟩
   show (if l=0 then some (d,0) else if l=c.runs.getD d.toNat 0 then some (d+1,0) else none)=_
   rw [zBP h5,zAE h6]
theorem yT {k inn:Bool} {p W:Prop} [Decidable p] [Decidable W] [Decidable (k=true/\ (p -> inn=false)/\ W)]:(bif !k then some false else bif decide p then bif inn then some false else some (decide W) else some (decide W))=some (decide (k=true/\ (p -> inn=false)/\ W)):=by
 cases k <;> cases inn <;> by_cases hp:p <;> simp [hp]
theorem jL (H:RW q c pos) (R:Ha c) (R1:eP c) {a:Nat} {at_:Int} {inn:Bool} (nY: ∀ i,i<c.cells.length -> ((i:Int)=at_↔i=a)): ∀ (m:Nat),m<=c.cells.length -> ∀ d l:Int,0<=d -> d<=(c.runs.length:Int) -> 0<=l -> l<=257 ->
 Ev (fun n=>Dr n c pos ((c.cells.length-m:Nat):Int) d l at_ inn) (decide (RY c pos a inn m d l)):=by
 intro m
 induction m with
 | zero=>
  intro _ d l h1 h2 h3 h4;refine ⟨2,fun n hn=>?_⟩;obtain ⟨n,rfl⟩: ∃ k,n=k+2:=⟨n-2,by omega⟩;have h8:=R.1
  show M1 (n+1) _ (GD (Dr (n+1)) c pos (c.cells.length:Int) d l at_ inn (n+1)) c pos (c.cells.length:Int) d l at_ inn=_
  have E:Ex c d l -> GD (Dr (n+1)) c pos (c.cells.length:Int) d l at_ inn (n+1) .l1=some (decide (RY c pos a inn 0 d l)):=fun hs=>by
   show Ry n _ _ c pos _ d l at_ inn=_
   unfold Ry;rw [zFW,zBA];have e:RY c pos a inn 0 d l↔(if l>0 then d+1=(c.runs.length:Int)/\ l=c.runs.getD d.toNat 0 else d=(c.runs.length:Int)):=⟨fun h=>(ZP R1 hs).1 h.2,fun h=>⟨hs,(ZP R1 hs).2 h⟩⟩
   by_cases hl:l>0
   ·have ho:=hs.open' hl;rw [zAE hl] at e;rw [zBC hl,zBA,zAE (Ae.2 ⟨by omega,by omega⟩)]
    by_cases h5:d+1=(c.runs.length:Int)
    ·rw [zBf.2 h5,zBA,zAE ⟨h1,ho.1⟩];refine congrArg some ?_;rw [zCM,zBf,zBV,e];exact ⟨fun h=>⟨h5,h⟩,fun h=>h.2⟩
    ·rw [zB4.2 h5,zAD,zAA fun h=>h5 (e.1 h).1]
   ·rw [zBP hl] at e;rw [zAA hl,zAD];refine congrArg some ?_;rw [zCM,zBf,zBV,e]
  unfold M1
  by_cases hl:l>0
  ·rw [zBC hl,zBA]
   by_cases h5:d>=(c.runs.length:Int)
   ·rw [zBC h5,zBA,zAA fun h:RY c pos a inn 0 d l=>by have:=h.1.open' hl;omega]
   ·rw [zAA h5,zAD,zAE ⟨h1,by omega⟩]
    by_cases h6:l>c.runs.getD d.toNat 0
    ·rw [zBC h6,zBA,zAA fun h:RY c pos a inn 0 d l=>by have:=h.1.open' hl;omega]
    ·rw [zAA h6,zAD,E ⟨h1,h2,h3,fun _=>⟨by omega,by omega⟩⟩]
  ·rw [zAA hl,zAD,E ⟨h1,h2,h3,fun h=>absurd h hl⟩]
 | succ m ih=>
  intro hm d l h1 h2 h3 h4;have Ak:=H.W.len;have h8:=R.1;have ei:c.cells.length-(m+1)=c.cells.length-1-m:=by omega
  have ej:((c.cells.length-m:Nat):Int)=((c.cells.length-1-m:Nat):Int)+1:=by omega
  have ih:=ih (by omega);rw [ej] at ih;rw [ei]
  generalize hi:c.cells.length-1-m=i at ih ⊢
  have CK:i<c.cells.length:=by omega
  have hc:=H.W.cells i CK;have r1:AG ((i:Int)+1):=Ae.2 ⟨by omega,by omega⟩
  have G:Ex c d l -> ∃ N,∀ n,N<=n -> ∀ k,GD (Dr n) c pos (i:Int) d l at_ inn (k+4) .l1=some (decide (RY c pos a inn (m+1) d l)):=fun hs=>by
   have hl:l<=256:=by
    by_cases h:0<l
    ·have h5:=hs.open' h;have:=R.2 d.toNat (by omega);omega
    ·omega
   obtain ⟨N1,g1⟩:=ih d (l+1) h1 h2 (by omega) (by omega);obtain ⟨N2,g2⟩:=ih d 0 h1 h2 (zCH _) (by decide)
   obtain ⟨N3,g3⟩: ∃ N,∀ n,N<=n -> l≠0 -> Dr n c pos ((i:Int)+1) (d+1) 0 at_ inn=some (decide (RY c pos a inn m (d+1) 0)):=by
    by_cases h:l=0
    ·exact ⟨0,fun _ _ h'=>absurd h h'⟩
    ·have h5:=hs.open' (by omega);obtain ⟨N,g⟩:=ih (d+1) 0 (by omega) (by omega) (zCH _) (by decide);exact ⟨N,fun n hn _=>g n hn⟩
   refine ⟨max N1 (max N2 N3),fun n hn k=>?_⟩;have g1:Dr n c pos ((i:Int)+1) d (l+1) at_ inn=_:=g1 n (by omega);have g2:Dr n c pos ((i:Int)+1) d 0 at_ inn=_:=g2 n (by omega);have g3:=g3 n (by omega)
   have ca:((i:Int)==at_)=decide (i=a):=by
    by_cases h:i=a
    ·rw [zBC h,zBf];exact (nY i CK).2 h
    ·rw [zAA h,zB4];exact fun h'=>h ((nY i CK).1 h')
   have cb:((i:Int) != at_)= !decide (i=a):=by
    show (!((i:Int)==at_))=_
    rw [ca]
   have r2:AG (l+1):=Ae.2 ⟨by omega,by omega⟩;have r3:AG (d+1):=Ae.2 ⟨by omega,by omega⟩;have es:pos.getD (c.cells.getD i 0).toNat 0=AL c pos i:=rfl
   have L4:GD (Dr n) c pos (i:Int) d l at_ inn (k+1) .l4=some (decide ((l=0/\ RY c pos a inn m d 0)∨(l≠0/\ l=c.runs.getD d.toNat 0/\ RY c pos a inn m (d+1) 0))):=by
    show Zp k _ _ c pos _ d l at_ inn=_
    unfold Zp
    by_cases h5:l=0
    ·rw [zBf.2 h5,zBA,zAE r1,g2,zA9];refine congrArg some ?_;rw [zCM,zBV,zBV];exact ⟨fun h=>.inl ⟨h5,h⟩,fun h=>h.elim (fun h=>h.2) fun h=>absurd h5 h.1⟩
    ·have ho:=hs.open' (by omega);rw [zB4.2 h5,zAD,zAE ⟨h1,ho.1⟩]
     by_cases h6:l=c.runs.getD d.toNat 0
     ·rw [zBf.2 h6,zBA,zAE ⟨r1,r3⟩,g3 h5,zA9];refine congrArg some ?_;rw [zCM,zBV,zBV];exact ⟨fun h=>.inr ⟨h5,h6,h⟩,fun h=>h.elim (fun h=>absurd h.1 h5) fun h=>h.2.2⟩
     ·rw [zB4.2 h6,zAD,zAA fun h=>h.elim (fun h=>h5 h.1) fun h=>h6 h.2.1]
   have L3:GD (Dr n) c pos (i:Int) d l at_ inn (k+2) .l3=some (decide (kd c pos i false=true/\ (i=a -> inn=false)/\ ((l=0/\ RY c pos a inn m d 0)∨(l≠0/\ l=c.runs.getD d.toNat 0/\ RY c pos a inn m (d+1) 0)))):=by
    show Zq (k+1) _ (GD (Dr n) c pos (i:Int) d l at_ inn (k+1)) c pos _ d l at_ inn=_
    unfold Zq;simp only [zAB];rw [es,yg H CK,ca,L4];exact yT
   show Ry (k+3) _ (GD (Dr n) c pos (i:Int) d l at_ inn (k+3)) c pos _ d l at_ inn=_
   unfold Ry;rw [show ((i:Int)==(c.cells.length:Int))=false by rw [zB4];omega,zAD]
   show Zr (k+2) _ (GD (Dr n) c pos (i:Int) d l at_ inn (k+2)) c pos _ d l at_ inn=_
   unfold Zr;simp only [zAB];have gt:inn=true -> Dr n c pos ((i:Int)+1) d (l+1) at_ true=some (decide (RY c pos a inn m d (l+1))):=fun h=>by rw [←g1,h]
   rw [zAE ⟨⟨by omega,by omega⟩,hc⟩,es,cb,L3,zAE ⟨r1,r2⟩,g1,zA9];have ek:(bits .and .i64 (AL c pos i) c.set != 0)=kd c pos i true:=rfl;rw [ek];have X:=tO (pos:=pos) (a:=a) (m:=m) (inn:=inn) hs;rw [hi] at X
   have Y:decide (RY c pos a inn (m+1) d l)=((kd c pos i true&&decide (i=a -> inn=true)&&decide (RY c pos a inn m d (l+1)))||decide (kd c pos i false=true/\ (i=a -> inn=false)/\ ((l=0/\ RY c pos a inn m d 0)∨(l≠0/\ l=c.runs.getD d.toNat 0/\ RY c pos a inn m (d+1) 0)))):=by
    rw [zCM,zBV,X,zBg,zBE,zBE,zBV,zBV,zBV];exact ⟨fun h=>h.imp (fun h=>⟨⟨h.1,h.2.1⟩,h.2.2⟩) id,fun h=>h.imp (fun h=>⟨h.1.1,h.1.2,h.2⟩) id⟩
   rw [Y];cases h5:kd c pos i true
   ·rfl
   ·by_cases h6:i=a
    ·rw [zBC h6];cases zBb:inn
     ·rw [zAA (fun h=>absurd (h h6) (by decide): ¬ (i=a -> false=true))];rfl
     ·rw [zBb] at gt;rw [zBC (fun _=>rfl:i=a -> true=true),gt rfl,zA9,zAE ⟨r1,r2⟩];cases decide (RY c pos a true m d (l+1)) <;> rfl
    ·rw [zAA h6,zBC (fun h=>absurd h h6:i=a -> inn=true)];cases decide (RY c pos a inn m d (l+1)) <;> rfl
  by_cases hs:Ex c d l
  ·obtain ⟨N,hN⟩:=G hs;refine ⟨N+5,fun n hn=>?_⟩;obtain ⟨n,rfl⟩: ∃ k,n=k+5:=⟨n-5,by omega⟩
   show M1 (n+4) _ (GD (Dr (n+4)) c pos (i:Int) d l at_ inn (n+4)) c pos (i:Int) d l at_ inn=_
   unfold M1;rw [hN (n+4) (by omega) n]
   by_cases hl:l>0
   ·have ho:=hs.open' hl;rw [zBC hl,zBA,zAA (by omega),zAD,zAE ⟨h1,ho.1⟩,zAA (by omega),zAD]
   ·rw [zAA hl,zAD]
  ·refine ⟨1,fun n hn=>?_⟩;obtain ⟨n,rfl⟩: ∃ k,n=k+1:=⟨n-1,by omega⟩;rw [zAA fun h:RY c pos a inn (m+1) d l=>hs h.1]
   show M1 n _ _ c pos (i:Int) d l at_ inn=_
   unfold M1
   by_cases hl:l>0
   ·rw [zBC hl,zBA]
    by_cases h5:d>=(c.runs.length:Int)
    ·rw [zBC h5,zBA]
    ·rw [zAA h5,zAD,zAE ⟨h1,by omega⟩]
     by_cases h6:l>c.runs.getD d.toNat 0
     ·rw [zBC h6,zBA]
     ·exact absurd ⟨h1,h2,h3,fun _=>⟨by omega,by omega⟩⟩ hs
   ·exact absurd ⟨h1,h2,h3,fun h=>absurd h hl⟩ hs
theorem iK {a a':Nat} {inn inn':Bool}: ∀ (m:Nat),m<=c.cells.length -> (∀ i,c.cells.length-m<=i -> i<c.cells.length -> i≠a/\ i≠a') -> ∀ t,(RX c pos a inn m t↔RX c pos a' inn' m t)
 | 0,_,_,t=>Iff.rfl
 | m+1,hm,h,t=>by
  have ih:=iK (a:=a) (a':=a') (inn:=inn) (inn':=inn') m (by omega) fun i h1 h2=>h i (by omega) h2
  have h0:=h (c.cells.length-1-m) (by omega) (by omega);constructor
  ·rintro ⟨b,u,h1,_,h3,h4⟩;exact ⟨b,u,h1,fun e=>absurd e h0.2,h3,(ih u).1 h4⟩
  ·rintro ⟨b,u,h1,_,h3,h4⟩;exact ⟨b,u,h1,fun e=>absurd e h0.1,h3,(ih u).2 h4⟩
theorem Ex.zero:Ex c 0 0:=⟨zCH _,by omega,zCH _,fun h=>absurd h (zGp _)⟩
theorem iI {inn:Bool} (R1:eP c):RY c pos c.cells.length inn c.cells.length 0 0↔(c.cells.length=0 -> c.runs.length=0)/\ (0<c.cells.length -> Gs c pos 0 true∨Gs c pos 0 false):=by
 by_cases h0:c.cells.length=0
 ·rw [h0];have e:=ZP (c:=c) (d:=0) (l:=0) R1 Ex.zero;rw [zBP (zGp 0)] at e;constructor
  ·rintro ⟨_,h⟩;exact ⟨fun _=>by have:=e.1 h;omega,fun h=>absurd h (Nat.lt_irrefl 0)⟩
  ·rintro ⟨h,_⟩;exact ⟨Ex.zero,e.2 (by have:=h rfl;omega)⟩
 ·obtain ⟨m,hm⟩: ∃ m,c.cells.length=m+1:=⟨c.cells.length-1,by omega⟩;have hp:0<c.cells.length:=by omega
  have e0:c.cells.length-1-m=0:=by omega
  rw [dt hp,dt hp];have F: ∀ (inn':Bool) (u:Int×Int),RX c pos c.cells.length inn m u↔RX c pos 0 inn' m u:=fun inn'=>iK m (by omega) fun i h1 h2=>⟨by omega,by omega⟩
  constructor
  ·rintro ⟨_,h⟩;refine ⟨fun h=>absurd h h0,fun _=>?_⟩;have h:RX c pos c.cells.length inn (m+1) (0,0):=by rw [←hm];exact h
   obtain ⟨b,u,h1,_,h3,h4⟩:=h;rw [hm];cases b
   ·exact .inr ⟨false,u,h1,fun _=>rfl,h3,(F _ u).1 h4⟩
   ·exact .inl ⟨true,u,h1,fun _=>rfl,h3,(F _ u).1 h4⟩
  ·rintro ⟨_,h⟩;refine ⟨Ex.zero,?_⟩
   suffices X:RX c pos c.cells.length inn (m+1) (0,0) by rw [←hm] at X;exact X
   rcases h hp with h | h <;> rw [hm] at h <;> obtain ⟨b,u,h1,_,h3,h4⟩:=h
   ·exact ⟨b,u,h1,fun h=>absurd h (by omega),h3,(F _ u).2 h4⟩
   ·exact ⟨b,u,h1,fun h=>absurd h (by omega),h3,(F _ u).2 h4⟩
theorem tP {a:Nat} {inn:Bool} (ha:a<c.cells.length):RY c pos a inn c.cells.length 0 0↔Gs c pos a inn:=by
 rw [dt ha];exact ⟨fun h=>h.2,fun h=>⟨Ex.zero,h⟩⟩
theorem iO {a s:Nat}:G9 c pos a s↔¬ Gs c pos a (tb c.set s):=by
 unfold G9;cases tb c.set s <;> simp
end
end Go.Proofs.YtekkngkphejfcaaGreatDoor
namespace Go.Proofs.YtekkngkphejfcaaGreatDoor
open Go.RowKit
open Classical
section
variable {q:AA} {c:AC} {pos l:List Int} {k:Nat}
theorem Vr {n:Nat} {x:Int} {s:Nat} (hs:s<16):KW n x (s:Int)=some (tb x s):=by
 unfold KW jZ;rw [zBC (by omega),zBA,zBC (by omega),zBA,zAE ⟨by omega,by show (s:Int)<=((64:Nat):Int);omega⟩,zAB];refine congrArg some ?_;have h:=UP (s:=s) (by omega) x
 have e:bits .and .i64 x (IntKind.i64.wrap (1*2 ^ s))=bits .and .i64 (IntKind.i64.wrap (1*2 ^ s)) x:=by
  refine Hi (Cy _ _ _) (Cy _ _ _) fun t _=>?_
  rw [EJ,EJ,Bool.and_comm]
 show (!(bits .and .i64 x (IntKind.i64.wrap (1*2 ^ s))==0))=_
 rw [e,h,Bool.not_not]
def GK (q:AA) (c:AC) (s t:Nat):Bool:=bif c.kind==6 then Ig q c s t else HE c s t
theorem jR (H:RW q c pos) {n:Nat} {g:List Int} {s t:Nat} (hk:c.kind=6∨c.kind=7) (h2:c.cells.length=2) (hg:g.length=pos.length) (hs:s<q.symbols.toNat) (ht:t<q.symbols.toNat)
 (gs:g.getD (c.cells.getD 0 0).toNat 0=(s:Int)) (gt:g.getD (c.cells.getD 1 0).toNat 0=(t:Int)):R9 n q c g=some (GK q c s t):=by
 have c0:=H.W.cells 0 (by omega);have c1:=H.W.cells 1 (by omega);have Dt:=H.vlen;have Lt:=H.sy;obtain ⟨s1,s2,s3⟩:=H.sym hs;obtain ⟨t1,t2,t3⟩:=H.sym ht;have v1:=H.V.val s hs;have v2:=H.V.val t ht;unfold R9 jQ GK;rw [gs,gt];rcases hk with hk | hk
 ·rw [hk]
  show (if _ then _ else none)=_
  rw [zAE ⟨⟨zCH _,by omega⟩,⟨c0.1,by omega⟩,⟨by omega,by omega⟩,⟨by decide,by omega⟩,⟨c1.1,by omega⟩,by omega,by omega⟩,zAB,zAB];unfold aA j3 Ig;rw [zAE (Ae.2 ⟨by omega,by omega⟩),zAE (Ae.2 ⟨by omega,by omega⟩)]
  show _=some (decide _)
  by_cases h:q.values.getD s 0-q.values.getD t 0>=c.lo
  ·rw [zBC h,zBA,zA9];refine congrArg some (zBC ?_).symm;split <;> omega
  ·rw [zAA h,zAD,zA9];refine congrArg some ?_;rw [decide_eq_decide];split <;> omega
 ·rw [hk]
  show (if _ then _ else none)=_
  rw [zAE ⟨⟨zCH _,by omega⟩,⟨c0.1,by omega⟩,⟨by decide,by omega⟩,c1.1,by omega⟩,Vr s2,Vr t2,Vr t2,Vr s2]
  show _=some (HE c s t)
  unfold HE;cases tb c.set s <;> cases tb c.set t <;> cases tb c.other s <;> cases tb c.other t <;> rfl
theorem zD4 {a b:Nat} (Av:c.cells.Nodup) (W:Bq c k pos) (ha:a<c.cells.length) (hb:b<c.cells.length) (h:a≠b):(c.cells.getD a 0).toNat≠(c.cells.getD b 0).toNat:=by
 intro e;have c1:=W.cells a ha;have c2:=W.cells b hb;have e2:c.cells.getD a 0=c.cells.getD b 0:=by omega
 rw [u8,zBD ha,u8,zBD hb] at e2;have e2:c.cells[a]=c.cells[b]:=e2;have hp:=zFk.1 Av;rcases zGb a b with h' | h' | h'
 ·exact hp a b ha hb h' e2
 ·exact h h'
 ·exact hp b a hb ha h' e2.symm
def PX (q:AA) (c:AC) (pos:List Int) (a s:Nat) (t:Nat):Bool:=tb (AL c pos (1-a)) t&&(if a=0 then GK q c s t else GK q c t s)
theorem jx (H:RW q c pos) (hk:c.kind=6∨c.kind=7) (h2:c.cells.length=2) (Av:c.cells.Nodup) {a s:Nat} (ha:a<2) (hs:s<q.symbols.toNat): ∀ (k t n:Nat) (g:List Int),t+k=q.symbols.toNat -> k<n -> g.length=pos.length ->
 NC q c pos (a:Int) (s:Int) n (.l1 (t:Int) g)=some (JG (PX q c pos a s) k t)
 | 0,t,n+1,g,e,_,_=>by
  have:=H.sy
  show SR n (NC q c pos a s n) q c pos a s (t:Int) g=_
  unfold SR;rw [zAA (by omega),zAD];rfl
 | k+1,t,n+1,g,e,hn,hg=>by
  have Lt:=H.sy;have ht:t<q.symbols.toNat:=by omega
  obtain ⟨t1,t2,t3⟩:=H.sym ht;have GO:=H.W.k;have ca:=H.W.cells a (by omega);have cb:=H.W.cells (1-a) (by omega);have hx:=H.W.at (a:=1-a) (by omega);have e1:(1-(a:Int)).toNat=1-a:=by omega
  have AY:=zD4 (a:=a) (b:=1-a) Av H.W (by omega) (by omega) (by omega);have r1:AG ((t:Int)+1):=Ae.2 ⟨by omega,by omega⟩
  show SR n (NC q c pos a s n) q c pos a s (t:Int) g=_
  unfold SR;simp only [zAB,e1,zBj]
  generalize N9:(g.set (c.cells.getD a 0).toNat (s:Int)).set (c.cells.getD (1-a) 0).toNat (t:Int)=g'
  have hl:g'.length=pos.length:=by rw [←N9,zBo,zBo,hg]
  have ga:g'.getD (c.cells.getD a 0).toNat 0=(s:Int):=by rw [←N9,getD_set_ne AY.symm,I2 (by omega)]
  have gb:g'.getD (c.cells.getD (1-a) 0).toNat 0=(t:Int):=by rw [←N9,I2 (by rw [zBo];omega)]
  have ih:=jx H hk h2 Av ha hs k (t+1) n g' (by omega) (by omega) hl;have ih:NC q c pos (a:Int) (s:Int) n (.l1 ((t:Int)+1) g')=_:=ih;have e0:GE n (pos.getD (c.cells.getD (1-a) 0).toNat 0) (t:Int)=some (tb (AL c pos (1-a)) t):=M9 hx (by omega) (by omega)
  have em:R9 n q c g'=some (if a=0 then GK q c s t else GK q c t s):=by
   by_cases h0:a=0
   ·subst h0;rw [zAE rfl];exact jR H hk h2 hl hs ht ga gb
   ·have:a=1:=by omega
    subst this;rw [zBP h0];exact jR H hk h2 hl ht hs gb ga
  rw [zBC t1,zBA,zAE ⟨⟨by omega,by omega⟩,ca,by omega,cb,by rw [zBo];omega⟩,e0,zA9,zAE hl.symm,em,zA9,zAE r1,ih]
  show _=some ((tb (AL c pos (1-a)) t&&(if a=0 then GK q c s t else GK q c t s))||JG _ k (t+1))
  cases tb (AL c pos (1-a)) t
  ·rfl
  ·generalize (if a=0 then GK q c s t else GK q c t s)=b
   cases b <;> rfl
theorem jy (H:RW q c pos) (hk:c.kind=6∨c.kind=7) (h2:c.cells.length=2) (Av:c.cells.Nodup) {a s:Nat} (ha:a<2) (hs:s<q.symbols.toNat):Ev (fun n=>PF n q c pos (a:Int) (s:Int)) (JG (PX q c pos a s) q.symbols.toNat 0):=by
 have h256:=H.h256;refine ⟨q.symbols.toNat+1,fun n hn=>?_⟩
 show PF n q c pos (a:Int) (s:Int)=_
 unfold PF jv;rw [zAE ⟨⟨rfl,by omega,by omega⟩,Ae.2 ⟨by omega,by omega⟩,by omega,by omega⟩];exact jx H hk h2 Av ha hs _ 0 n _ (by omega) (by omega) Dz
theorem lX (H:RW q c pos) (h2:c.cells.length=2) {a s:Nat} (ha:a<2):JG (PX q c pos a s) q.symbols.toNat 0=false↔FJ (GK q c) c pos a s:=by
 rw [←zFL,eG];unfold FJ PX;simp only [zBE]
 by_cases h0:a=0
 ·subst h0;rw [zAE rfl];refine not_congr ⟨fun ⟨t,_,_,h3,h4⟩=>⟨t,h3,by rw [zAE rfl] at h4;exact h4⟩,fun ⟨t,h3,h4⟩=>⟨t,zE6 _,by have:=H.low (H.W.at (by omega)) h3;omega,h3,by rw [zAE rfl];exact h4⟩⟩
 ·have:a=1:=by omega
  subst this;rw [zBP h0];refine not_congr ⟨fun ⟨t,_,_,h3,h4⟩=>⟨t,h3,by rw [zBP h0] at h4;exact h4⟩,fun ⟨t,h3,h4⟩=>⟨t,zE6 _,by have:=H.low (H.W.at (by omega)) h3;omega,h3,by rw [zBP h0];exact h4⟩⟩
def OV (n:Nat) (q:AA) (c:AC) (pos:List Int) (a s:Int):Option Bool:=
 bif c.kind==4 then JW n q c pos 0 (-1) a s else bif c.kind==5 then (GE n c.set s).bind fun y1=>Dr n c pos 0 0 0 a y1 else PF n q c pos a s
def SQ (q:AA) (c:AC) (pos:List Int) (F:Nat -> Nat -> Bool) (i j s:Nat):Prop:=∃ a,a<i/\ (c.cells.getD a 0).toNat=j/\ s<q.symbols.toNat/\ tb (AL c pos a) s=true/\ F a s=false
theorem V0 (H:RW q c pos) {F:Nat -> Nat -> Bool} (hF: ∀ a s,a<c.cells.length -> s<q.symbols.toNat -> Ev (fun n=>OV n q c pos (a:Int) (s:Int)) (F a s)):AU (fun n=>PE n q c pos) (RL pos (SQ q c pos F c.cells.length)):=by
 have W:=H.W;have Ak:=W.len;have h256:=H.h256;have GO:=W.k;have Lt:=H.sy;have ek:((q.symbols.toNat:Nat):Int)=q.symbols:=by omega
 obtain ⟨l,hl,g⟩:=DK (m:=E4 q c pos) (fun i (l:List Int)=>.l1 l (i:Int)) (fun i l=>RL pos (SQ q c pos F i) l) c.cells.length (fun i l hi hI=>by
  have hc:=W.cells i hi;have hx:=W.at hi
  obtain ⟨l',Ck,g3⟩:=DK (m:=E4 q c pos) (fun s (l:List Int)=>.l2 l (i:Int) (s:Int)) (fun s l=>RL pos (fun j t=>SQ q c pos F i j t∨((c.cells.getD i 0).toNat=j/\ t<s/\ tb (AL c pos i) t=true/\ F i t=false)) l) q.symbols.toNat (fun s l hs hI=>by
   obtain ⟨s1,s2,s3⟩:=H.sym hs;have r1:AG ((s:Int)+1):=Ae.2 ⟨by omega,by omega⟩;obtain ⟨N,hN⟩:=hF i s hi hs
   have G2: ∀ l,AZ (E4 q c pos) (.l2 l (i:Int) (s:Int)) (.l3 l (i:Int) (s:Int) (F i s)):=fun l=>AZ.oneN N fun n hn=>by
    have h:=hN n hn;have h:OV n q c pos (i:Int) (s:Int)=_:=h;unfold OV at h
    show SO n (E4 q c pos n) q c pos l (i:Int) (s:Int)=_
    unfold SO;rw [zBC s1,zBA];cases e4:(c.kind==4)
    ·rw [e4,zAD] at h;rw [zAD];cases e5:(c.kind==5)
     ·rw [e5,zAD] at h;rw [zAD,h,zA9]
     ·rw [e5,zBA] at h;rw [zBA];cases e6:GE n c.set (s:Int) with
      | none=>rw [e6] at h;cases h
      | some b=>rw [e6,zA9] at h;rw [zA9,h,zA9]
    ·rw [e4,zBA] at h;rw [zBA,h,zA9]
   have U: ∀ n,E4 q c pos (n+1) (.l3 l (i:Int) (s:Int) (F i s))=bif tb (AL c pos i) s&&!F i s then (Ej n l (c.cells.getD i 0) (IntKind.i64.wrap (1*2 ^ s))).bind fun y=>E4 q c pos n (.l4 y (i:Int) (s:Int)) else E4 q c pos n (.l4 l (i:Int) (s:Int)):=fun n=>by
    have e0:GE n (pos.getD (c.cells.getD i 0).toNat 0) (s:Int)=some (tb (AL c pos i) s):=M9 hx (by omega) (by omega)
    show Z9 n (E4 q c pos n) q c pos l (i:Int) (s:Int) (F i s)=_
    unfold Z9;simp only [zAB];rw [zAE ⟨⟨by omega,by omega⟩,hc⟩,e0,zA9,zAE s3];cases tb (AL c pos i) s <;> cases F i s <;> rfl
   have G4: ∀ l',AZ (E4 q c pos) (.l4 l' (i:Int) (s:Int)) (.l2 l' (i:Int) ((s+1:Nat):Int)):=fun l'=>AZ.one fun n=>by
    show Z8 n (E4 q c pos n) q c pos l' (i:Int) (s:Int)=_
    unfold Z8;rw [zAE r1];rfl
   cases hB:(tb (AL c pos i) s&&!F i s)
   ·refine ⟨l,hI.congr fun j t=>?_,(G2 l).trans ((AZ.one fun n=>by rw [U n,hB,zAD]).trans (G4 l))⟩;constructor
    ·rintro (h | ⟨h1,h2,h3,h4⟩)
     ·exact .inl h
     ·rcases zBH.1 h2 with h2 | rfl
      ·exact .inr ⟨h1,h2,h3,h4⟩
      ·rw [h3,h4] at hB;cases hB
    ·rintro (h | ⟨h1,h2,h3⟩)
     ·exact .inl h
     ·exact .inr ⟨h1,by omega,h3⟩
   ·obtain ⟨l1,f1,Fm⟩:=hI.lose h256 (ss:=IntKind.i64.wrap (1*2 ^ s)) hc.1 hc.2;have P8:=hB;rw [zBE,zBh] at P8;refine ⟨l1,Fm.congr fun j t=>?_,(G2 l).trans ((AZ.one fun n=>by rw [U n,hB,zBA,f1,zA9]).trans (G4 l1))⟩;rw [JN (by omega),zBV];constructor
    ·rintro (h | ⟨h1,h2,h3,h4⟩)
     ·exact .inl (.inl h)
     ·rcases zBH.1 h2 with h2 | rfl
      ·exact .inl (.inr ⟨h1,h2,h3,h4⟩)
      ·exact .inr ⟨by omega,rfl⟩
    ·rintro ((h | ⟨h1,h2,h3⟩) | ⟨h1,rfl⟩)
     ·exact .inl h
     ·exact .inr ⟨h1,by omega,h3⟩
     ·exact .inr ⟨by omega,by omega,P8.1,P8.2⟩) q.symbols.toNat 0 l (by omega) (hI.congr fun j t=>⟨fun h=>h.elim id fun h=>absurd h.2.1 (zBW t),.inl⟩)
  refine ⟨l',Ck.congr fun j s=>?_,(AZ.one (b:=.l2 l (i:Int) ((0:Nat):Int)) fun n=>?_).trans (g3.trans (AZ.one fun n=>?_))⟩
  ·constructor
   ·rintro ⟨a,h1,h2,h3,h4,h5⟩;rcases zBH.1 h1 with h1 | rfl
    ·exact .inl ⟨a,h1,h2,h3,h4,h5⟩
    ·exact .inr ⟨h2,h3,h4,h5⟩
   ·rintro (⟨a,h1,h2,h3⟩ | ⟨h2,h3⟩)
    ·exact ⟨a,by omega,h2,h3⟩
    ·exact ⟨i,by omega,h2,h3⟩
  ·show SP n (E4 q c pos n) q c pos l (i:Int)=_
   unfold SP;rw [zBC (by omega),zBA];rfl
  ·show SO n (E4 q c pos n) q c pos l' (i:Int) ((q.symbols.toNat:Nat):Int)=_
   unfold SO;rw [ek,zAA (by omega),zAD,zAE (Ae.2 ⟨by omega,by omega⟩)];rfl) c.cells.length 0 (List.replicate pos.length 0) (by omega) ((RL.zero pos).congr fun j s=>⟨fun ⟨a,h,_⟩=>absurd h (zBW a),fun h=>h.elim⟩)
 refine ((g.ev (Ev.one (r:=l) fun n=>?_)).p hl).eq fun n=>?_
 ·show SP n (E4 q c pos n) q c pos l (c.cells.length:Int)=_
  unfold SP;rw [zAA (by omega),zAD]
 ·unfold PE js;rw [zAE ⟨Dz.symm,rfl,by omega,by omega⟩];rfl
end
end Go.Proofs.YtekkngkphejfcaaGreatDoor
namespace Go.Proofs.YtekkngkphejfcaaGreatDoor
open Go.RowKit
section
variable {q:AA} {c:AC} {pos l:List Int} {g:List (List Int)} {inn:List Bool} {s:Int}
theorem Tm {l:List Int} {j:Nat} (hj:j<l.length):l.getD j 0∈l:=by
 rw [u8,zBD hj];exact zB0 hj
structure Mk (g:List (List Int)) (inn:List Bool) (s:Int) (o:List Bool):Prop where
 len:o.length=g.length
 start:o.getD s.toNat false=true
 sub: ∀ v:Nat,v<g.length -> o.getD v false=true -> Rc g inn s v
def Cl (g:List (List Int)) (inn o:List Bool) (u:Nat):Prop:=o.getD u false=true -> ∀ v∈nb g u,inn.getD v.toNat false=true -> o.getD v.toNat false=true
def Ps (g:List (List Int)) (inn:List Bool) (s:Int) (o0:List Bool) (C:List Bool -> Prop) (x:Bool×List Bool):Prop:=Mk g inn s x.2/\ (x.1=false -> x.2=o0/\ C o0)/\ (x.1=true -> Cj x.2<Cj o0)
theorem kJ (G:Gr g) (hI:inn.length=g.length) {o0:List Bool} (hM:Mk g inn s o0): ∃ x:Bool×List Bool,Ps g inn s o0 (fun o=>∀ u,u<g.length -> Cl g inn o u) x/\ AZ (Fc g inn s) (.l1 true o0) (.l1 x.1 x.2):=by
 have Ak:=G.len
 obtain ⟨x,hx,g1⟩:=DK (m:=Fc g inn s) (fun i (x:Bool×List Bool)=>.l2 x.1 (i:Int) x.2) (fun i x=>Ps g inn s o0 (fun o=>∀ u,u<i -> Cl g inn o u) x) g.length (fun i x hi hx=>by
  have Jq:=G.row i (by omega) (by omega)
  obtain ⟨x',HI,g2⟩:=DK (m:=Fc g inn s) (fun j (x:Bool×List Bool)=>.l3 x.1 (i:Int) (j:Int) x.2) (fun j x=>Ps g inn s o0 (fun o=>(∀ u,u<i -> Cl g inn o u)/\ (o.getD i false=true -> ∀ j',j'<j -> inn.getD ((nb g i).getD j' 0).toNat false=true -> o.getD ((nb g i).getD j' 0).toNat false=true)) x) (nb g i).length (fun j x hj hx=>by
   obtain ⟨b,o⟩:=x;obtain ⟨h1,h2,h3⟩:=hx;have h1:Mk g inn s o:=h1;have h2:b=false -> o=o0/\ _:=h2;have h3:b=true -> Cj o<Cj o0:=h3;have hv:=G.rng i (by omega) (by omega) _ (Tm hj);have HK:=h1.len;have r1:AG ((j:Int)+1):=Ae.2 ⟨by omega,by omega⟩;have e1:nb g (i:Int)=g.getD i []:=by unfold nb;rw [zAB]
   have U: ∀ n,Fc g inn s (n+1) (.l3 b (i:Int) (j:Int) o)=bif o.getD i false&&inn.getD ((nb g i).getD j 0).toNat false&&!o.getD ((nb g i).getD j 0).toNat false then Fc g inn s n (.l3 true (i:Int) ((j:Int)+1) (o.set ((nb g i).getD j 0).toNat true)) else Fc g inn s n (.l3 b (i:Int) ((j:Int)+1) o):=fun n=>by
    show R6 n (Fc g inn s n) g inn s b (i:Int) (j:Int) o=_
    unfold R6;simp only [zAB,zBj,←e1];rw [zAE ⟨by omega,by omega⟩,zBC (by omega),zBA,zAE (by omega),zAE ⟨⟨by omega,by omega⟩,hv.1,by omega⟩,zAE r1,zAE r1,zAE ⟨hv,by omega⟩];cases o.getD i false <;> cases inn.getD ((nb g i).getD j 0).toNat false <;> cases o.getD ((nb g i).getD j 0).toNat false <;> rfl
   cases hB:(o.getD i false&&inn.getD ((nb g i).getD j 0).toNat false&&!o.getD ((nb g i).getD j 0).toNat false)
   ·refine ⟨(b,o),⟨h1,fun hb=>?_,h3⟩,AZ.one fun n=>by rw [U n,hB,zAD];rfl⟩;obtain ⟨rfl,h4,h5⟩:=h2 hb;refine ⟨rfl,h4,fun ho j' BI Bw=>?_⟩;rcases zBH.1 BI with BI | rfl
    ·exact h5 ho j' BI Bw
    ·rw [ho,Bw] at hB;simpa using hB
   ·rw [zBE,zBE,zBh] at hB;obtain ⟨⟨p1,p2⟩,p3⟩:=hB;refine ⟨(true,o.set ((nb g i).getD j 0).toNat true),⟨⟨by rw [zBo];exact HK,?_,fun v Dt GR=>?_⟩,fun hb=>(by cases hb),fun _=>?_⟩,AZ.one fun n=>by rw [U n,p1,p2,p3];rfl⟩
    ·rw [K0 (by omega)];split
     ·rfl
     ·exact h1.start
    ·rw [K0 (by omega)] at GR;split at GR
     ·rename_i e;have E5:=Rc.step (h1.sub i hi p1) (Tm hj) p2;rw [show ((v:Nat):Int)=(nb g i).getD j 0 by omega];exact E5
     ·exact h1.sub v Dt GR
    ·have:=UG o ((nb g i).getD j 0).toNat (by omega) p3;cases b
     ·obtain ⟨rfl,_⟩:=h2 rfl
      show Cj (o.set _ true)<Cj o
      omega
     ·have:=h3 rfl
      show Cj (o.set _ true)<Cj o0
      omega) (nb g i).length 0 x (by omega) ⟨hx.1,fun h=>⟨(hx.2.1 h).1,(hx.2.1 h).2,fun _ j' BI=>absurd BI (zBW j')⟩,hx.2.2⟩
  have e1:nb g (i:Int)=g.getD i []:=by unfold nb;rw [zAB]
  refine ⟨x',⟨HI.1,fun h=>⟨(HI.2.1 h).1,fun u hu=>?_⟩,HI.2.2⟩,(AZ.one (b:=.l3 x.1 (i:Int) ((0:Nat):Int) x.2) fun n=>?_).trans (g2.trans (AZ.one fun n=>?_))⟩
  ·obtain ⟨h4,h5,h6⟩:=HI.2.1 h;rcases zBH.1 hu with hu | rfl
   ·exact h5 u hu
   ·intro ho v hv Bw;obtain ⟨j,hj,rfl⟩:=zEz hv;have ev:(nb g u).getD j 0=(nb g u)[j]:=by rw [u8,zBD hj];rfl
    have:=h6 ho j hj;rw [ev] at this;exact this Bw
  ·show R7 n (Fc g inn s n) g inn s x.1 (i:Int) x.2=_
   unfold R7;rw [zBC (by omega),zBA];rfl
  ·show R6 n (Fc g inn s n) g inn s x'.1 (i:Int) ((nb g i).length:Int) x'.2=_
   unfold R6;rw [zAE ⟨by omega,by omega⟩,zAA (by rw [zAB,←e1];omega),zAD,zAE (Ae.2 ⟨by omega,by omega⟩)];rfl) g.length 0 (false,o0) (by omega) ⟨hM,fun _=>⟨rfl,fun u hu=>absurd hu (zBW u)⟩,fun h=>(by cases h)⟩
 refine ⟨x,hx,(AZ.one (b:=.l2 false ((0:Nat):Int) o0) fun n=>rfl).trans (g1.trans (AZ.one fun n=>?_))⟩
 show R7 n (Fc g inn s n) g inn s x.1 (g.length:Int) x.2=_
 unfold R7;rw [zAA (by omega),zAD]
theorem uk (G:Gr g) (hI:inn.length=g.length): ∀ (z:Nat) (o0:List Bool),Cj o0<=z -> Mk g inn s o0 -> ∃ o,(Mk g inn s o/\ ∀ u,u<g.length -> Cl g inn o u)/\ AZ (Fc g inn s) (.l1 true o0) (.l1 false o):=by
 intro z
 induction z with
 | zero=>
  intro o0 hz hM;obtain ⟨⟨b,o⟩,hx,h2⟩:=kJ G hI hM;cases b
  ·obtain ⟨e,h⟩:=hx.2.1 rfl;have e:o=o0:=e;subst e;exact ⟨o,⟨hM,h⟩,h2⟩
  ·have:Cj o<Cj o0:=hx.2.2 rfl;omega
 | succ z ih=>
  intro o0 hz hM;obtain ⟨⟨b,o⟩,hx,h2⟩:=kJ G hI hM;cases b
  ·obtain ⟨e,h⟩:=hx.2.1 rfl;have e:o=o0:=e;subst e;exact ⟨o,⟨hM,h⟩,h2⟩
  ·have:Cj o<Cj o0:=hx.2.2 rfl;obtain ⟨o',h3,h4⟩:=ih o (by omega) hx.1;exact ⟨o',h3,h2.trans h4⟩
def MW (g:List (List Int)) (inn:List Bool) (s:Int) (o:List Bool):Prop:=o.length=g.length/\ ∀ v:Nat,v<g.length -> (o.getD v false=true↔Rc g inn s v)
theorem Zv (G:Gr g) (hI:inn.length=g.length) (h0:0<=s) (h1:s<(g.length:Int)):AU (fun n=>IZ n g inn s) (MW g inn s):=by
 have Ak:=G.len
 have hM:Mk g inn s ((List.replicate g.length false).set s.toNat true):=by
  refine ⟨by simp,?_,fun v hv GR=>?_⟩
  ·rw [K0 (by simp;omega),zAE rfl]
  ·rw [K0 (by simp;omega)] at GR;split at GR
   ·rw [show ((v:Nat):Int)=s by omega];exact .start
   ·rw [u8,zE7] at GR;split at GR <;> cases GR
 obtain ⟨o,⟨h2,h3⟩,h4⟩:=uk G hI _ _ (zBa _) hM
 have all: ∀ v:Int,Rc g inn s v -> o.getD v.toNat false=true:=fun v hv=>by
  induction hv with
  | start=>exact h2.start
  | step h hb hi ih=>
   have hr:=h.rng G h0 h1;refine h3 _ (by omega) ih _ ?_ hi;unfold nb at hb ⊢;rw [zAB];exact hb
 refine ((h4.ev (Ev.one (r:=o) fun n=>?_)).p ⟨h2.len,fun v hv=>⟨h2.sub v hv,fun h=>by have:=all v h;rw [zAB] at this;exact this⟩⟩).eq fun n=>?_
 ·show Zu n (Fc g inn s n) g inn s false o=_
  unfold Zu;rw [zAD,zAE h2.len.symm]
 ·unfold IZ jP;rw [zAE ⟨⟨rfl,by omega,by omega⟩,⟨h0,h1⟩,by rw [zCD];omega⟩,zBj]
theorem Zz (hI:inn.length<=256): ∀ (k i:Nat) (o:List Int),i+k=inn.length -> o.length<=i -> o≠[] -> ∃ l,(l.length<=inn.length/\ ∀ v:Int,v∈l↔v∈o∨((i:Int)<=v/\ v<(inn.length:Int)/\ inn.getD v.toNat false=true))/\ ∀ n,k<n -> Hs inn n (.l2 o.length (i:Int) o)=some l
 | 0,i,o,e,ho,_=>by
  refine ⟨o,⟨by omega,fun v=>⟨.inl,fun h=>h.elim id fun h=>absurd h.1 (by omega)⟩⟩,fun n hn=>?_⟩;obtain ⟨n,rfl⟩: ∃ m,n=m+1:=⟨n-1,by omega⟩
  show M6 n (Hs inn n) inn o.length (i:Int) o=_
  unfold M6;rw [zAA (by omega),zAD,zAE rfl]
 | k+1,i,o,e,ho,AY=>by
  have L:A7=1000000000000:=rfl;have r1:AG ((i:Int)+1):=Ae.2 ⟨by omega,by omega⟩;cases hb:inn.getD i false
  ·obtain ⟨l,⟨h2,h3⟩,h1⟩:=Zz hI k (i+1) o (by omega) (by omega) AY;refine ⟨l,⟨h2,fun v=>?_⟩,fun n hn=>?_⟩
   ·rw [h3];refine zGe Iff.rfl ⟨fun h=>⟨by omega,h.2⟩,fun h=>⟨?_,h.2⟩⟩
    by_cases e2:v=(i:Int)
    ·subst e2;have:=h.2.2;rw [zAB,hb] at this;cases this
    ·omega
   ·obtain ⟨n,rfl⟩: ∃ m,n=m+1:=⟨n-1,by omega⟩
    show M6 n (Hs inn n) inn o.length (i:Int) o=_
    unfold M6;rw [zBC (by omega),zBA,zAE ⟨by omega,by omega⟩,zAB,hb,zAD,zAE r1];exact h1 n (by omega)
  ·obtain ⟨l,⟨h2,h3⟩,h1⟩:=Zz hI k (i+1) (o++[(i:Int)]) (by omega) (by simp;omega) (by simp);rw [zCC] at h1;refine ⟨l,⟨h2,fun v=>?_⟩,fun n hn=>?_⟩
   ·rw [h3,zB5,zBm];constructor
    ·rintro ((h | rfl) | h)
     ·exact .inl h
     ·exact .inr ⟨by omega,by omega,by rw [zAB];exact hb⟩
     ·exact .inr ⟨by omega,h.2⟩
    ·rintro (h | h)
     ·exact .inl (.inl h)
     ·by_cases e2:v=(i:Int)
      ·exact .inl (.inr e2)
      ·exact .inr ⟨by omega,h.2⟩
   ·obtain ⟨n,rfl⟩: ∃ m,n=m+1:=⟨n-1,by omega⟩
    show M6 n (Hs inn n) inn o.length (i:Int) o=_
    unfold M6;rw [zBC (by omega),zBA,zAE ⟨by omega,by omega⟩,zAB,hb,zBA,zAE ⟨⟨⟨rfl,rfl⟩,⟨rfl,rfl⟩,by show o.length+1<=_;omega⟩,r1⟩];exact h1 n (by omega)
theorem jW (hI:inn.length<=256): ∀ (k i:Nat),i+k=inn.length -> ∃ l,(l.length<=inn.length/\ ∀ v:Int,v∈l↔((i:Int)<=v/\ v<(inn.length:Int)/\ inn.getD v.toNat false=true))/\ ∀ n,k<n -> Hs inn n (.l1 (i:Int))=some l
 | 0,i,e=>by
  refine ⟨[],⟨by simp,fun v=>⟨fun h=>(by cases h),fun h=>absurd h.1 (by omega)⟩⟩,fun n hn=>?_⟩;obtain ⟨n,rfl⟩: ∃ m,n=m+1:=⟨n-1,by omega⟩
  show M7 n (Hs inn n) inn (i:Int)=_
  unfold M7;rw [zAA (by omega),zAD]
 | k+1,i,e=>by
  have L:A7=1000000000000:=rfl;have r1:AG ((i:Int)+1):=Ae.2 ⟨by omega,by omega⟩;cases hb:inn.getD i false
  ·obtain ⟨l,⟨h2,h3⟩,h1⟩:=jW hI k (i+1) (by omega);refine ⟨l,⟨h2,fun v=>?_⟩,fun n hn=>?_⟩
   ·rw [h3];refine ⟨fun h=>⟨by omega,h.2⟩,fun h=>⟨?_,h.2⟩⟩
    by_cases e2:v=(i:Int)
    ·subst e2;have:=h.2.2;rw [zAB,hb] at this;cases this
    ·omega
   ·obtain ⟨n,rfl⟩: ∃ m,n=m+1:=⟨n-1,by omega⟩
    show M7 n (Hs inn n) inn (i:Int)=_
    unfold M7;rw [zBC (by omega),zBA,zAE ⟨by omega,by omega⟩,zAB,hb,zAD,zAE r1];exact h1 n (by omega)
  ·obtain ⟨l,⟨h2,h3⟩,h1⟩:=Zz hI k (i+1) [(i:Int)] (by omega) (by simp) (by simp);refine ⟨l,⟨h2,fun v=>?_⟩,fun n hn=>?_⟩
   ·rw [h3,zBm];constructor
    ·rintro (rfl | h)
     ·exact ⟨by omega,by omega,by rw [zAB];exact hb⟩
     ·exact ⟨by omega,h.2⟩
    ·intro h
     by_cases e2:v=(i:Int)
     ·exact .inl e2
     ·exact .inr ⟨by omega,h.2⟩
   ·obtain ⟨n,rfl⟩: ∃ m,n=m+1:=⟨n-1,by omega⟩
    show M7 n (Hs inn n) inn (i:Int)=_
    unfold M7;rw [zBC (by omega),zBA,zAE ⟨by omega,by omega⟩,zAB,hb,zBA,zAE ⟨⟨⟨rfl,rfl⟩,by show 0<1;omega,by show 1<=_;omega⟩,r1⟩];exact h1 n (by omega)
theorem i8 (G:J5 g):Ev (fun n=>La n g) 0:=⟨2*E1 g+1,fun n hn=>by
 show La n g=_
 rw [i9 G.row hn,G.ok];rfl⟩
theorem MW.uniq {x x':List Bool} (h:MW g inn s x) (h':MW g inn s x'):x=x':=
 Xx (h.1.trans h'.1.symm) fun j hj=>by rw [zCM,h.2 j (by rw [←h.1];exact hj),h'.2 j (by rw [←h.1];exact hj)]
theorem wI (G:J5 g) (hI:inn.length=g.length) (h0:0<=s) (h1:s<(g.length:Int)) (hs:inn.getD s.toNat false=true): ∃ l,Ev (fun n=>SN n g inn s) (l,0)/\ l.length<=256/\ ∀ v,v∈l↔Rc g inn s v:=by
 have Ak:=G.gr.len;obtain ⟨y2,⟨hl,hy⟩,he⟩:=(Zv G.gr hI h0 h1).ev fun _ _ h h'=>h.uniq h'
 obtain ⟨l,⟨h4,h5⟩,h3⟩:=jW (inn:=y2) (by omega) y2.length 0 (by omega);refine ⟨l,?_,by omega,fun v=>?_⟩
 ·show Ev (fun n=>Z7 n g inn s) _
  refine Ev.bind (b:=fun n (y1:Int)=>bif (y1 != 0) then some (([]:List Int),120) else _) (i8 G) ?_;refine Ev.eq (g:=fun n=>(IZ n g inn s).bind fun y2=>(Z0 n y2).bind fun y3=>some (y3,(0:Int))) (Ev.bind he (Ev.bind (x:=l) ⟨y2.length+1,fun n hn=>h3 n (by omega)⟩ (Ev.now fun n=>rfl))) fun n=>?_
  rw [show ((0:Int) != 0)=false from rfl,zAD,show ((inn.length:Int) != (g.length:Int))=false by simp;omega,zAD,zAA (by omega),zAD,zAA (by omega),zAD,zAE ⟨h0,by omega⟩,hs];rfl
 ·rw [h5];constructor
  ·intro h;have:=(hy v.toNat (by omega)).1 h.2.2;rw [show ((v.toNat:Nat):Int)=v by omega] at this;exact this
  ·intro h;have hr:=h.rng G.gr h0 h1;refine ⟨by omega,by omega,(hy v.toNat (by omega)).2 ?_⟩;rw [show ((v.toNat:Nat):Int)=v by omega];exact h
theorem u5 {n:Nat} (hI:inn.length<=256) {a:Nat} (ha:a<inn.length):Vg n inn (a:Int)=some (inn.set a false):=by
 have L:A7=1000000000000:=rfl;unfold Vg jD;simp only [zFD,zFF,zBj,zAB];rw [zAE ⟨⟨trivial,⟨trivial,trivial⟩,by omega⟩,⟨by omega,by omega⟩,ha⟩,zAE (by rw [zBo])]
def YZ (g:List (List Int)) (inn some':List Bool) (a u v:Nat):Prop:=u<g.length/\ v<g.length/\ u≠a/\ v≠a/\ inn.getD u false=true/\ some'.getD u false=true/\ inn.getD v false=true/\ some'.getD v false=true/\ Rc g inn u v/\ ¬ Rc g (inn.set a false) u v
variable {some':List Bool}
theorem jG (G:Gr g) (hI:inn.length=g.length) (hS:some'.length=g.length) {a i:Nat} {x y:List Bool} (hi:i<g.length) (N7:i≠a) (Bw:inn.getD i false=true) (H8:some'.getD i false=true) (hx:MW g inn i x) (hy:MW g (inn.set a false) i y) {P:Prop}
 (hP:AU (fun n=>EU g inn some' (a:Int) n (.l1 ((i:Int)+1))) (fun r=>r.1=true↔P)): ∀ (k j:Nat),j+k=g.length -> AU (fun n=>EU g inn some' (a:Int) n (.l2 (i:Int) x y (j:Int))) (fun r=>r.1=true↔(∃ v,j<=v/\ YZ g inn some' a i v)∨P)
 | 0,j,e=>by
  have Ak:=G.len;refine AU.step 1 (fun n=>?_) (hP.mono fun r hr=>hr.trans ⟨.inr,fun h=>h.elim (fun ⟨v,h1,h2⟩=>absurd h2.2.1 (by omega)) id⟩)
  show Rt n (EU g inn some' (a:Int) n) g inn some' (a:Int) (i:Int) x y (j:Int)=_
  unfold Rt;rw [zAA (by omega),zAD,zAE (Ae.2 ⟨by omega,by omega⟩)]
 | k+1,j,e=>by
  have Ak:=G.len;have ih:=jG G hI hS hi N7 Bw H8 hx hy hP k (j+1) (by omega);have r1:AG ((j:Int)+1):=Ae.2 ⟨by omega,by omega⟩;have mX:=hx.1;have mV:=hy.1
  have U: ∀ n,EU g inn some' (a:Int) (n+1) (.l2 (i:Int) x y (j:Int))=bif !decide (j=a)&&inn.getD j false&&some'.getD j false&&x.getD j false&&!y.getD j false then some (true,0) else EU g inn some' (a:Int) n (.l2 (i:Int) x y ((j+1:Nat):Int)):=fun n=>by
   show Rt n (EU g inn some' (a:Int) n) g inn some' (a:Int) (i:Int) x y (j:Int)=_
   have e2:((j:Int) != (a:Int))= !decide (j=a):=by
    by_cases h:j=a
    ·subst h;simp
    ·rw [zAA h];simp;omega
   unfold Rt;rw [zBC (by omega),zBA,e2,zAE ⟨by omega,by omega⟩,zAE ⟨by omega,by omega⟩,zAE ⟨by omega,by omega⟩,zAE ⟨by omega,by omega⟩,zAE r1,zAB];cases decide (j=a) <;> cases inn.getD j false <;> cases some'.getD j false <;> cases x.getD j false <;> cases y.getD j false <;> rfl
  have X:(!decide (j=a)&&inn.getD j false&&some'.getD j false&&x.getD j false&&!y.getD j false)=true↔YZ g inn some' a i j:=by
   simp only [zBE,zBh,zE1];rw [hx.2 j (by omega),←zFL,hy.2 j (by omega)];exact ⟨fun h=>⟨hi,by omega,N7,h.1.1.1.1,Bw,H8,h.1.1.1.2,h.1.1.2,h.1.2,h.2⟩,fun ⟨_,_,_,h1,_,_,h2,h3,h4,h5⟩=>⟨⟨⟨⟨h1,h2⟩,h3⟩,h4⟩,h5⟩⟩
  cases hB:(!decide (j=a)&&inn.getD j false&&some'.getD j false&&x.getD j false&&!y.getD j false)
  ·refine AU.step 1 (fun n=>by rw [U n,hB,zAD]) (ih.mono fun r hr=>hr.trans (zGe ⟨fun ⟨v,h1,h2⟩=>⟨v,by omega,h2⟩,fun ⟨v,h1,h2⟩=>⟨v,?_,h2⟩⟩ Iff.rfl))
   by_cases e2:v=j
   ·subst e2;rw [X.2 h2] at hB;cases hB
   ·omega
  ·exact (Ev.one (r:=(true,0)) fun n=>by rw [U n,hB,zBA]).p ⟨fun _=>.inl ⟨j,zBa _,X.1 hB⟩,fun _=>rfl⟩
theorem jH (G:Gr g) (hI:inn.length=g.length) (hS:some'.length=g.length) {a:Nat} (ha:a<g.length): ∀ (k i:Nat),i+k=g.length -> AU (fun n=>EU g inn some' (a:Int) n (.l1 (i:Int))) (fun r=>r.1=true↔∃ u v,i<=u/\ YZ g inn some' a u v)
 | 0,i,e=>(Ev.one (r:=(false,0)) fun n=>by
  show Ru n (EU g inn some' (a:Int) n) g inn some' (a:Int) (i:Int)=_
  unfold Ru;rw [zAA (by omega),zAD]).p ⟨fun h=>(by cases h),fun ⟨u,v,h1,h2⟩=>absurd h2.1 (by omega)⟩
 | k+1,i,e=>by
  have Ak:=G.len;have ih:=jH G hI hS ha k (i+1) (by omega);have r1:AG ((i:Int)+1):=Ae.2 ⟨by omega,by omega⟩
  have e2:((i:Int)==(a:Int))=decide (i=a):=by
   by_cases h:i=a
   ·subst h;simp
   ·rw [zAA h];simp;omega
  have U: ∀ n,EU g inn some' (a:Int) (n+1) (.l1 (i:Int))=bif !decide (i=a)&&inn.getD i false&&some'.getD i false then (IZ n g inn (i:Int)).bind fun y1=>(IZ n g (inn.set a false) (i:Int)).bind fun y3=>EU g inn some' (a:Int) n (.l2 (i:Int) y1 y3 0) else EU g inn some' (a:Int) n (.l1 ((i+1:Nat):Int)):=fun n=>by
   show Ru n (EU g inn some' (a:Int) n) g inn some' (a:Int) (i:Int)=_
   unfold Ru;rw [zBC (by omega),zBA,e2,zAE r1,zAE ⟨by omega,by omega⟩,zAE ⟨by omega,by omega⟩,zAB,u5 (by omega) (by omega)];cases decide (i=a) <;> cases inn.getD i false <;> cases some'.getD i false <;> rfl
  cases hB:(!decide (i=a)&&inn.getD i false&&some'.getD i false)
  ·refine AU.step 1 (fun n=>by rw [U n,hB,zAD]) (ih.mono fun r hr=>hr.trans ⟨fun ⟨u,v,h1,h2⟩=>⟨u,v,by omega,h2⟩,fun ⟨u,v,h1,h2⟩=>⟨u,v,?_,h2⟩⟩)
   by_cases e3:u=i
   ·subst e3;obtain ⟨_,_,p1,_,p2,p3,_⟩:=h2;rw [zAA p1,p2,p3] at hB;cases hB
   ·omega
  ·have P8:=hB;simp only [zBE,zBh,zE1] at P8;obtain ⟨⟨p1,p2⟩,p3⟩:=P8;obtain ⟨N1,f1⟩:=Zv (s:=(i:Int)) G hI (by omega) (by omega);obtain ⟨N2,f2⟩:=Zv (s:=(i:Int)) (inn:=inn.set a false) G (by rw [zBo];exact hI) (by omega) (by omega);obtain ⟨x,_,hx⟩:=f1 N1 (zBa _);obtain ⟨y,_,hy⟩:=f2 N2 (zBa _);have L:=jG G hI hS (by omega) p1 p2 p3 hx hy ih g.length 0 (by omega);obtain ⟨N3,f3⟩:=L;refine ⟨max N1 (max N2 N3)+1,fun n hn=>?_⟩;obtain ⟨n,rfl⟩: ∃ k,n=k+1:=⟨n-1,by omega⟩;obtain ⟨x',q1,HI⟩:=f1 n (by omega);obtain ⟨y',q2,bf⟩:=f2 n (by omega);have:=MW.uniq HI hx;subst this;have:=MW.uniq bf hy;subst this;obtain ⟨r,q3,hr⟩:=f3 n (by omega);have q1:IZ n g inn (i:Int)=_:=q1;have q2:IZ n g (inn.set a false) (i:Int)=_:=q2;have q3:EU g inn some' (a:Int) n (.l2 (i:Int) x' y' 0)=some r:=q3;refine ⟨r,?_,hr.trans ?_⟩
   ·show EU g inn some' (a:Int) (n+1) (.l1 (i:Int))=_
    rw [U n,hB,zBA,q1,zA9,q2,zA9,q3]
   ·constructor
    ·rintro (⟨v,_,h⟩ | ⟨u,v,h1,h2⟩)
     ·exact ⟨i,v,zBa _,h⟩
     ·exact ⟨u,v,by omega,h2⟩
    ·rintro ⟨u,v,h1,h2⟩
     by_cases e3:u=i
     ·subst e3;exact .inl ⟨v,zE6 _,h2⟩
     ·exact .inr ⟨u,v,by omega,h2⟩
theorem rP (G:Gr g) (hI:inn.length=g.length) {a:Nat} (ha:a<g.length) (N7:inn.getD a false=true):(∃ u v,YZ g inn some' a u v)↔Sp g inn some' (a:Int):=by
 constructor
 ·rintro ⟨u,v,h1,h2,h3,h4,h5,h6,h7,h8,h9,F3⟩
  have br:Rc g inn u a:=Classical.byContradiction fun h=>F3 (by
   have:=pj (a:=(a:Int)) h (by omega) G (by omega) (by omega) h9;rw [zAB] at this;exact this)
  have nX:=br.symm G (by omega) (by omega) (by rw [zAB];exact h5);exact ⟨u,v,by omega,by omega,by rw [zAB];exact h6,by rw [zAB];exact h8,nX,nX.trans h9,by rw [zAB];exact F3⟩
 ·rintro ⟨u,v,h1,h2,h3,h4,h5,h6,h7⟩;have hu:=h5.rng G (by omega) (by omega);have hv:=h6.rng G (by omega) (by omega);have Iy:inn.getD (a:Int).toNat false=true:=by rw [zAB];exact N7
  have iu:=h5.isIn Iy;have iv:=h6.isIn Iy;refine ⟨u.toNat,v.toNat,by omega,by omega,by omega,by omega,iu,h3,iv,h4,?_,?_⟩
  ·rw [show ((u.toNat:Nat):Int)=u by omega,show ((v.toNat:Nat):Int)=v by omega];exact (h5.symm G (by omega) (by omega) Iy).trans h6
  ·rw [show ((u.toNat:Nat):Int)=u by omega,show ((v.toNat:Nat):Int)=v by omega];rw [zAB] at h7;exact h7
theorem vB (G:J5 g) (hI:inn.length=g.length) (hS:some'.length=g.length) {a:Nat} (ha:a<g.length):AU (fun n=>Vi n g inn some' (a:Int)) (fun r=>r.1=true↔inn.getD a false=true/\ Sp g inn some' (a:Int)):=by
 have Ak:=G.gr.len
 show AU (fun n=>jF n (EU g inn some' (a:Int) n) g inn some' (a:Int)) _
 refine AU.bind (b:=fun n (y1:Int)=>bif (y1 != 0) then some (false,120) else _) (i8 G) ?_;refine AU.eq (g:=fun n=>bif !inn.getD a false then some (false,(0:Int)) else EU g inn some' (a:Int) n (.l1 0)) ?_ fun n=>?_
 ·cases hb:inn.getD a false
  ·exact (Ev.now (r:=(false,(0:Int))) fun n=>rfl).p ⟨fun h=>(by cases h),fun h=>(by cases h.1)⟩
  ·refine AU.eq (g:=fun n=>EU g inn some' (a:Int) n (.l1 ((0:Nat):Int))) ((jH G.gr hI hS ha g.length 0 (by omega)).mono fun r hr=>hr.trans ?_) fun n=>rfl
   rw [←rP G.gr hI ha hb];exact ⟨fun ⟨u,v,_,h⟩=>⟨rfl,u,v,h⟩,fun ⟨_,u,v,h⟩=>⟨u,v,zE6 _,h⟩⟩
 ·rw [show ((0:Int) != 0)=false from rfl,zAD,show ((inn.length:Int) != (g.length:Int))=false by simp;omega,zAD,show ((some'.length:Int) != (g.length:Int))=false by simp;omega,zAD,zAA (by omega),zAD,zAA (by omega),zAD,zAE ⟨by omega,by omega⟩,zAB]
end
end Go.Proofs.YtekkngkphejfcaaGreatDoor
namespace Go.Proofs.YtekkngkphejfcaaGreatDoor
abbrev zGw:=@and_congr
end Go.Proofs.YtekkngkphejfcaaGreatDoor
namespace Go.Proofs.YtekkngkphejfcaaGreatDoor
open Go.RowKit
section
variable {q:AA} {c:AC} {pos l:List Int}
theorem xB (H:RW q c pos) {j:Nat} (hj:j<pos.length):(bits .and .i64 (pos.getD j 0) c.set==pos.getD j 0)=(bits .andNot .i64 (pos.getD j 0) c.set==0):=by
 have h:=Mg (S:=c.set) (H.W.sm j hj) (zBO H.W.k (by decide));rw [←h,zCM,zBf,zBf];omega
theorem Vo (H:RW q c pos) (W:ED c q pos) (all:Bool):Ev (fun n=>KV n c pos all) (bif all then cB c pos else pB c pos):=by
 have h256:=H.h256
 obtain ⟨o,⟨h1,h2⟩,h3⟩:=DK (m:=O7 c pos all) (fun i (o:List Bool)=>.l1 (i:Int) o) (fun i o=>o.length=pos.length/\ ∀ j,j<i -> o.getD j false=(bif all then cB c pos else pB c pos).getD j false) pos.length (fun i o hi hI=>by
  obtain ⟨h1,h2⟩:=hI;have r1:AG ((i:Int)+1):=Ae.2 ⟨by omega,by omega⟩;have hc:=W.len;refine ⟨o.set i ((bif all then cB c pos else pB c pos).getD i false),⟨by rw [zBo];exact h1,fun j hj=>?_⟩,AZ.one fun n=>?_⟩
  ·rw [K0 (by omega)];split
   ·rename_i e;rw [e]
   ·exact h2 j (by omega)
  ·show SB n (O7 c pos all n) c pos all (i:Int) o=_
   unfold SB;simp only [zAB,W.id i hi,zBj];rw [zBC (by omega),zBA,zAE ⟨⟨by omega,by omega⟩,by omega,by omega⟩,zAE ⟨by omega,r1⟩,zAE ⟨by omega,r1⟩,zAE ⟨by omega,r1⟩];rw [xB H hi,←PJ hi,←QZ hi];have:=W.cp hi;cases all
   ·rw [zAD];cases (pB c pos).getD i false <;> rfl
   ·rw [zBA];cases hp:(pB c pos).getD i false
    ·cases hq:(cB c pos).getD i false
     ·rfl
     ·rw [this hq] at hp;cases hp
    ·cases (cB c pos).getD i false <;> rfl) pos.length 0 (List.replicate pos.length false) (by omega) ⟨zCD,fun j hj=>absurd hj (zBW j)⟩
 have e:o=(bif all then cB c pos else pB c pos):=Xx (h1.trans (by cases all;exact DQ.symm;exact Cx.symm)) fun j hj=>h2 j (by omega)
 rw [e] at h3;refine Ev.eq (h3.ev (Ev.one fun n=>?_)) fun n=>?_
 ·have hc:=W.len
  show SB n (O7 c pos all n) c pos all (pos.length:Int) _=_
  unfold SB;rw [zAA (by omega),zAD,zAE (by rw [←e];exact h1.symm)]
 ·unfold KV jS;rw [zAE ⟨rfl,by omega,by omega⟩];rfl
theorem ji {inn:List Bool} (hl:inn.length<=256): ∀ (k i:Nat),i+k=inn.length -> (∀ j,j<i -> inn.getD j false=false) -> ∃ r,Ev (fun n=>Ld inn n (.l1 (i:Int))) r/\ E0 inn r
 | 0,i,e,h=>⟨-1,Ev.one fun n=>by
  show SH n (Ld inn n) inn (i:Int)=_
  unfold SH;rw [zAA (by omega),zAD],.inl ⟨rfl,fun j hj=>h j (by omega)⟩⟩
 | k+1,i,e,h=>by
  have U: ∀ n,Ld inn (n+1) (.l1 (i:Int))=bif inn.getD i false then some (i:Int) else Ld inn n (.l1 ((i+1:Nat):Int)):=fun n=>by
   show SH n (Ld inn n) inn (i:Int)=_
   unfold SH;rw [zBC (by omega),zBA,zAE ⟨by omega,by omega⟩,zAB,zAE (Ae.2 ⟨by omega,by omega⟩)];rfl
  cases hb:inn.getD i false
  ·obtain ⟨r,h1,h2⟩:=ji hl k (i+1) (by omega) fun j hj=>by
    rcases zBH.1 hj with hj | rfl
    ·exact h j hj
    ·exact hb
   exact ⟨r,Ev.step 1 (fun n=>by rw [U n,hb,zAD]) h1,h2⟩
  ·exact ⟨i,Ev.one fun n=>by rw [U n,hb,zBA],.inr ⟨by omega,by omega,by rw [zAB];exact hb,fun j hj=>h j (by omega)⟩⟩
theorem jk {inn:List Bool} (hl:inn.length<=256): ∃ r,Ev (fun n=>PB n inn) r/\ E0 inn r:=by
 obtain ⟨r,h1,h2⟩:=ji hl inn.length 0 (by omega) fun j hj=>absurd hj (zBW j)
 exact ⟨r,h1.eq fun n=>rfl,h2⟩
theorem j2 (H:RW q c pos) (W:ED c q pos) {r:Int} (C6:0<=r) (hF:E0 (cB c pos) r): ∃ l,Ev (fun n=>Lg n q c pos (pB c pos) r) l/\ RL pos (fun j s=>tb (pos.getD j 0) s=true/\ Dj c q pos j s) l:=by
 have h256:=H.h256;have Cv:=W.gl;have Ku:=hF;obtain ⟨Pq,b6⟩:=Ku.at C6;have hB:(pB c pos).length=q.nbrs.length:=by rw [DQ];exact Cv.symm
 have zw:=W.cp (by omega) b6;have Uo: ∀ {j s},Dj c q pos j s↔(pB c pos).getD j false=true/\ tb c.set s=true/\ ¬ Rc q.nbrs (pB c pos) r j:=Ym W.g hB C6 hF;obtain ⟨near,e1,hn,hm⟩:=wI W.g hB C6 (by omega) zw;have LBd:(256:Nat)<=LB:=by decide
 obtain ⟨l,hl,g⟩:=DK (m:=Ja q c pos (pB c pos) r) (fun i (l:List Int)=>.l1 l near (i:Int)) (fun i l=>RL pos (fun j s=>j<i/\ tb (pos.getD j 0) s=true/\ Dj c q pos j s) l) pos.length (fun i l hi hI=>by
  have r1:AG ((i:Int)+1):=Ae.2 ⟨by omega,by omega⟩;have Fj:(pB c pos).length=pos.length:=DQ
  have U: ∀ n,257<=n -> Ja q c pos (pB c pos) r (n+1) (.l1 l near (i:Int))=bif (pB c pos).getD i false&&!near.contains (i:Int) then (Ej n l (i:Int) (bits .and .i64 (pos.getD i 0) c.set)).bind fun y=>Ja q c pos (pB c pos) r n (.l1 y near ((i+1:Nat):Int)) else Ja q c pos (pB c pos) r n (.l1 l near ((i+1:Nat):Int)):=fun n Pw=>by
   show SS n (Ja q c pos (pB c pos) r n) q c pos (pB c pos) r l near (i:Int)=_
   unfold SS;rw [zBC (by omega),zBA,zAE ⟨by omega,by omega⟩,na (by omega) (by omega),zA9,zAE ⟨by omega,by omega⟩,zAB];simp only [zAE r1];cases (pB c pos).getD i false <;> cases near.contains (i:Int) <;> rfl
  have C:(near.contains (i:Int))=true↔Rc q.nbrs (pB c pos) r i:=by rw [zFZ,hm]
  cases hb:((pB c pos).getD i false&&!near.contains (i:Int))
  ·refine ⟨l,hI.congr fun j s=>⟨fun ⟨p1,p2,p3⟩=>⟨?_,p2,p3⟩,fun ⟨p1,p2⟩=>⟨by omega,p2⟩⟩,AZ.oneN 257 fun n Pw=>by rw [U n Pw,hb,zAD]⟩;rcases zBH.1 p1 with p1 | rfl
   ·exact p1
   ·obtain ⟨p4,p5,p6⟩:=Uo.1 p3;rw [←C,zFL] at p6;rw [p4,p6] at hb;cases hb
  ·obtain ⟨l',f1,f2⟩:=hI.lose h256 (cell:=(i:Int)) (ss:=bits .and .i64 (pos.getD i 0) c.set) (by omega) (by omega);have C9:=hb;rw [zBE,zBh,←zFL,C] at C9;refine ⟨l',f2.congr fun j s=>?_,AZ.oneN 257 fun n Pw=>by rw [U n Pw,hb,zBA,f1,zA9]⟩;rw [EJ,zBE];constructor
   ·rintro ⟨p1,p2,p3⟩;rcases zBH.1 p1 with p1 | rfl
    ·exact .inl ⟨p1,p2,p3⟩
    ·exact .inr ⟨rfl,p2,(Uo.1 p3).2.1⟩
   ·rintro (⟨p1,p2⟩ | ⟨p1,p2,p3⟩)
    ·exact ⟨by omega,p2⟩
    ·have:j=i:=by omega
     subst this;exact ⟨by omega,p2,Uo.2 ⟨C9.1,p3,C9.2⟩⟩) pos.length 0 (List.replicate pos.length 0) (by omega) ((RL.zero pos).congr fun j s=>⟨fun h=>absurd h.1 (zBW j),fun h=>h.elim⟩)
 refine ⟨l,?_,hl.congr fun j s=>⟨fun h=>⟨?_,h⟩,fun h=>h.2⟩⟩
 ·refine Ev.eq (g:=fun n=>(SN n q.nbrs (pB c pos) r).bind fun y1=>Ja q c pos (pB c pos) r n (.l1 (List.replicate pos.length (0:Int)) y1.1 0)) (Ev.bind e1 (g.ev (Ev.one fun n=>?_))) fun n=>?_
  ·show SS n (Ja q c pos (pB c pos) r n) q c pos (pB c pos) r l near (pos.length:Int)=_
   unfold SS;rw [zAA (by omega),zAD]
  ·show Lg n q c pos (pB c pos) r=_
   unfold Lg j1;rw [zAE ⟨Dz.symm,rfl,by omega,by omega⟩]
 ·have:=(Uo.1 h.2).1;rw [u8] at this;refine zB1 fun BV=>?_
  rw [zCP (by rw [DQ];exact BV)] at this;cases this
theorem w6 {j:Nat} (h:(pB c pos).getD j false=true):j<pos.length:=by
 rw [u8] at h;refine zB1 fun BV=>?_
 rw [zCP (by rw [DQ];exact BV)] at h;cases h
theorem zD7 {j:Nat} (h:(cB c pos).getD j false=true):j<pos.length:=by
 rw [u8] at h;refine zB1 fun BV=>?_
 rw [zCP (by rw [Cx];exact BV)] at h;cases h
theorem oP {r:Int} (hF:E0 (cB c pos) r) (h:r<0):(∀ j,(cB c pos).getD j false=false)/\ ∀ a s,¬ Dj c q pos a s:=by
 have h1: ∀ j,(cB c pos).getD j false=false:=fun j=>by
  rcases hF with ⟨_,h2⟩ | ⟨h2,_⟩
  ·cases hc:(cB c pos).getD j false
   ·rfl
   ·rw [h2 j (by rw [Cx];exact zD7 hc)] at hc;cases hc
  ·omega
 refine ⟨h1,fun a s ⟨_,_,r',h2,h3,_⟩=>?_⟩;have:=hF.uniq h3;omega
theorem wE (H:RW q c pos) (W:ED c q pos):AU (fun n=>Z6 n q c pos) (RL pos (fun j s=>tb (pos.getD j 0) s=true/\ IE c q pos j s)):=by
 have h256:=H.h256;have Cv:=W.gl;obtain ⟨r,e3,hF⟩:=jk (inn:=cB c pos) (by rw [Cx];exact h256);have ni:(pB c pos).length=q.nbrs.length:=by rw [DQ];exact Cv.symm
 have dG:(cB c pos).length=q.nbrs.length:=by rw [Cx];exact Cv.symm
 show AU (fun n=>jq n (Ib q c pos n) q c pos) _
 refine AU.bind (b:=fun n (y1:List Bool)=>(KV n c pos true).bind fun y2=>_) (Vo H W false) (AU.bind (b:=fun n (y2:List Bool)=>(PB n y2).bind fun y3=>_) (Vo H W true) (AU.bind (b:=fun n (y3:Int)=>bif (decide (y3<0)) then _ else _) e3 ?_))
 by_cases h0:r<0
 ·obtain ⟨h1,h2⟩:=oP (q:=q) hF h0;refine (Ev.now (r:=List.replicate pos.length 0) fun n=>?_).p ((RL.zero pos).congr fun j s=>⟨fun ⟨_,h⟩=>h.elim (h2 j s) fun ⟨_,_,h3,_⟩=>?_,fun h=>h.elim⟩)
  ·rw [zBC h0,zBA,zAE ⟨Dz.symm,rfl,by omega,by omega⟩]
  ·obtain ⟨u,v,_,_,h4,_⟩:=h3;rw [h1] at h4;cases h4
 ·obtain ⟨l0,e4,N5⟩:=j2 H W (by omega) hF
  obtain ⟨l,hl,g⟩:=DK (m:=Ib q c pos) (fun i (l:List Int)=>.l1 (pB c pos) (cB c pos) l (i:Int)) (fun i l=>RL pos (fun j s=>tb (pos.getD j 0) s=true/\ (Dj c q pos j s∨(j<i/\ (pB c pos).getD j false=true/\ (cB c pos).getD j false=false/\ Sp q.nbrs (pB c pos) (cB c pos) (j:Int)/\ tb c.set s=false))) l) pos.length (fun i l hi hI=>by
   have r1:AG ((i:Int)+1):=Ae.2 ⟨by omega,by omega⟩;obtain ⟨N,hN⟩:=vB W.g ni dG (a:=i) (by omega);have hx:=H.W.sm i hi;have hs:=Mg (S:=c.set) hx (zBO H.W.k (by decide));have r2:AG (pos.getD i 0-bits .and .i64 (pos.getD i 0) c.set):=by rw [hs];exact Ae.2 (Cy _ _ _)
   have step: ∀ b:Bool,(b=true↔(pB c pos).getD i false=true/\ Sp q.nbrs (pB c pos) (cB c pos) (i:Int)) -> ∀ n,N<=n -> Ib q c pos (n+1) (.l1 (pB c pos) (cB c pos) l (i:Int))=bif (pB c pos).getD i false&&!(cB c pos).getD i false&&b then (Ej n l (i:Int) (bits .andNot .i64 (pos.getD i 0) c.set)).bind fun y=>Ib q c pos n (.l1 (pB c pos) (cB c pos) y ((i+1:Nat):Int)) else Ib q c pos n (.l1 (pB c pos) (cB c pos) l ((i+1:Nat):Int)):=fun b hb n hn=>by
    obtain ⟨y,h1,h2⟩:=hN n hn;have h1:Vi n q.nbrs (pB c pos) (cB c pos) (i:Int)=some y:=h1;have e:y.1=b:=by rw [zCM,h2,hb]
    show SM n (Ib q c pos n) q c pos (pB c pos) (cB c pos) l (i:Int)=_
    unfold SM;rw [zBC (by omega),zBA,h1,zA9,e,zAE ⟨by omega,by omega⟩,zAE ⟨by omega,by omega⟩,zAB,zAE ⟨⟨by omega,by omega⟩,r2⟩,hs];simp only [zAE r1];cases (pB c pos).getD i false <;> cases (cB c pos).getD i false <;> cases b <;> rfl
   by_cases hS:(pB c pos).getD i false=true/\ Sp q.nbrs (pB c pos) (cB c pos) (i:Int)
   ·have st:=step true ⟨fun _=>hS,fun _=>rfl⟩;cases hc:(cB c pos).getD i false
    ·obtain ⟨l',f1,f2⟩:=hI.lose h256 (cell:=(i:Int)) (ss:=bits .andNot .i64 (pos.getD i 0) c.set) (by omega) (by omega);refine ⟨l',f2.congr fun j s=>?_,AZ.oneN N fun n hn=>by rw [st n hn,hS.1,hc];show (Ej n l _ _).bind _=_;rw [f1,zA9]⟩;rw [GA,zBE,zBh];constructor
     ·rintro ⟨p0,p1 | ⟨p1,p2⟩⟩
      ·exact .inl ⟨p0,.inl p1⟩
      ·rcases zBH.1 p1 with p1 | rfl
       ·exact .inl ⟨p0,.inr ⟨p1,p2⟩⟩
       ·exact .inr ⟨rfl,p0,p2.2.2.2⟩
     ·rintro (⟨p0,p1 | ⟨p1,p2⟩⟩ | ⟨p1,p2,p3⟩)
      ·exact ⟨p0,.inl p1⟩
      ·exact ⟨p0,.inr ⟨by omega,p2⟩⟩
      ·have:j=i:=by omega
       subst this;exact ⟨p2,.inr ⟨by omega,hS.1,hc,hS.2,p3⟩⟩
    ·refine ⟨l,hI.congr fun j s=>zGw Iff.rfl (zGe Iff.rfl ⟨fun ⟨p1,p2⟩=>⟨?_,p2⟩,fun ⟨p1,p2⟩=>⟨by omega,p2⟩⟩),AZ.oneN N fun n hn=>by rw [st n hn,hS.1,hc];rfl⟩;rcases zBH.1 p1 with p1 | rfl
     ·exact p1
     ·rw [p2.2.1] at hc;cases hc
   ·have st:=step false ⟨fun h=>(by cases h),fun h=>absurd h hS⟩;refine ⟨l,hI.congr fun j s=>zGw Iff.rfl (zGe Iff.rfl ⟨fun ⟨p1,p2⟩=>⟨?_,p2⟩,fun ⟨p1,p2⟩=>⟨by omega,p2⟩⟩),AZ.oneN N fun n hn=>by rw [st n hn,zFp,zAD]⟩;rcases zBH.1 p1 with p1 | rfl
    ·exact p1
    ·exact absurd ⟨p2.1,p2.2.2.1⟩ hS) pos.length 0 l0 (by omega) (N5.congr fun j s=>zGw Iff.rfl ⟨fun h=>h.elim id fun h=>absurd h.1 (zBW j),.inl⟩)
  refine AU.eq (g:=fun n=>(Lg n q c pos (pB c pos) r).bind fun y4=>Ib q c pos n (.l1 (pB c pos) (cB c pos) y4 0)) (AU.bind e4 ((g.ev (Ev.one (r:=l) fun n=>?_)).p (hl.congr fun j s=>zGw Iff.rfl (zGe Iff.rfl ⟨fun h=>⟨w6 h.1,h⟩,fun h=>h.2⟩)))) fun n=>?_
  ·show SM n (Ib q c pos n) q c pos (pB c pos) (cB c pos) l (pos.length:Int)=_
   unfold SM;rw [zAA (by omega),zAD]
  ·rw [zAA h0,zAD];rfl
end
end Go.Proofs.YtekkngkphejfcaaGreatDoor
namespace Go.Proofs.YtekkngkphejfcaaGreatDoor
open Go.RowKit
section
variable {q:AA} {c:AC} {pos l:List Int}
def Df (g:List (List Int)) (inn:List Bool) (v:Nat):List Int:=(nb g v).filter fun x=>inn.getD x.toNat false
theorem WX {g:List (List Int)} {inn:List Bool} {v:Nat}:(Df g inn v).length=Bp g inn v:=List.countP_eq_length_filter.symm
theorem Zo {inn:List Bool} {v:Nat} (G:Gr q.nbrs) (hI:inn.length=q.nbrs.length) (hv:v<q.nbrs.length): ∀ (k i n:Nat) (o:List Int),i+k=(nb q.nbrs v).length -> k<n -> o.length<=i -> O4 q (v:Int) inn n (.l1 o.length (i:Int) o)=some (o++((nb q.nbrs v).drop i).filter fun x=>inn.getD x.toNat false)
 | 0,i,n+1,o,e,_,ho=>by
  show Rx n (O4 q (v:Int) inn n) q (v:Int) inn o.length (i:Int) o=_
  unfold Rx;have e1:nb q.nbrs (v:Int)=q.nbrs.getD v []:=by unfold nb;rw [zAB]
  rw [zAE ⟨by omega,by omega⟩,zAB,←e1,zAA (by omega),zAD,zAE rfl,List.drop_of_length_le (by omega)];simp
 | k+1,i,n+1,o,e,hn,ho=>by
  have L:A7=1000000000000:=rfl;have e1:nb q.nbrs (v:Int)=q.nbrs.getD v []:=by unfold nb;rw [zAB]
  have Jq:=G.row v (by omega) (by omega);have hi:i<(nb q.nbrs v).length:=by omega
  have hu:=G.rng v (by omega) (by omega) _ (Tm hi);have r1:AG ((i:Int)+1):=Ae.2 ⟨by omega,by omega⟩
  have ed:(nb q.nbrs v).drop i=(nb q.nbrs v).getD i 0::(nb q.nbrs v).drop (i+1):=by
   rw [zB2 hi,u8,zBD hi];rfl
  show Rx n (O4 q (v:Int) inn n) q (v:Int) inn o.length (i:Int) o=_
  unfold Rx;simp only [zAB,←e1];rw [zAE ⟨by omega,by omega⟩,zBC (by omega),zBA,zAE ⟨⟨by omega,by omega⟩,hu.1,by omega⟩,ed,List.filter_cons];cases hb:inn.getD ((nb q.nbrs v).getD i 0).toNat false
  ·rw [zAD,zAE r1,zBP (by decide)];exact Zo G hI hv k (i+1) n o (by omega) (by omega) (by omega)
  ·rw [zBA,zAE ⟨⟨⟨trivial,rfl⟩,⟨trivial,trivial⟩,by show o.length+1<=_;omega⟩,r1⟩,zAE rfl];have:=Zo G hI hv k (i+1) n (o++[(nb q.nbrs v).getD i 0]) (by omega) (by omega) (by simp;omega);rw [zCC,zFi] at this;exact this
theorem jJ {inn:List Bool} {v n:Nat} (G:Gr q.nbrs) (hI:inn.length=q.nbrs.length) (hv:v<q.nbrs.length) (hn:257<=n):Vk n q (v:Int) inn=some (Df q.nbrs inn v):=by
 have Jq:=G.row v (by omega) (by omega);have:=Zo G hI hv (nb q.nbrs v).length 0 n [] (by omega) (by omega) (zBa _);rw [zGG,zFD] at this;exact this
def Lo (c:AC) (q:AA) (pos:List Int) (v j a s:Nat):Prop:=(∃ i,i<j/\ (Df q.nbrs (pB c pos) v).getD i 0=(a:Int)/\ i<(Df q.nbrs (pB c pos) v).length)/\ ((Bp q.nbrs (pB c pos) v=2/\ tb c.set s=false)∨(Bp q.nbrs (cB c pos) v=2/\ (cB c pos).getD a false=false/\ tb c.set s=true))
theorem xe (W:ED c q pos) {v a s:Nat} (hv:v<pos.length) (hc:(cB c pos).getD v false=true):Lo c q pos v (Df q.nbrs (pB c pos) v).length a s↔PS c q pos v a s:=by
 unfold Lo PS
 have:(∃ i,i<(Df q.nbrs (pB c pos) v).length/\ (Df q.nbrs (pB c pos) v).getD i 0=(a:Int)/\ i<(Df q.nbrs (pB c pos) v).length)↔(a:Int)∈nb q.nbrs v/\ (pB c pos).getD a false=true:=by
  constructor
  ·rintro ⟨i,hi,h1,_⟩;have hm:=Tm hi;rw [h1] at hm;have:=zFU.1 hm;rw [zAB] at this;exact this
  ·rintro ⟨h1,h2⟩;obtain ⟨i,hi,e⟩:=zEz (zFU.2 ⟨h1,by rw [zAB];exact h2⟩:(a:Int)∈Df q.nbrs (pB c pos) v);have hi:i<(Df q.nbrs (pB c pos) v).length:=hi;exact ⟨i,hi,by rw [u8,zBD hi];exact e,hi⟩
 rw [this];exact ⟨fun ⟨⟨h1,h2⟩,h3⟩=>⟨hc,h1,h2,h3⟩,fun ⟨_,h1,h2,h3⟩=>⟨⟨h1,h2⟩,h3⟩⟩
theorem vd (H:RW q c pos) (W:ED c q pos) {D:Nat -> Nat -> Prop} {v:Nat} (hv:v<pos.length) (hD:RL pos D l): ∃ l',RL pos (fun j s=>D j s∨(tb (pos.getD j 0) s=true/\ Lo c q pos v (Df q.nbrs (pB c pos) v).length j s)) l'/\
 AZ (DF q c pos) (.l2 (pB c pos) (cB c pos) l (v:Int) (Df q.nbrs (pB c pos) v) (Df q.nbrs (cB c pos) v) 0) (.l1 (pB c pos) (cB c pos) l' ((v+1:Nat):Int)):=by
 have h256:=H.h256;have Cv:=W.gl;have G:=W.g.gr;have dG:(cB c pos).length=pos.length:=Cx;have Jq:=G.row v (by omega) (by omega);have d1:(Df q.nbrs (pB c pos) v).length=Bp q.nbrs (pB c pos) v:=WX;have d2:(Df q.nbrs (cB c pos) v).length=Bp q.nbrs (cB c pos) v:=WX;have BV:(Df q.nbrs (pB c pos) v).length<=256:=zBO (zGl _ _) Jq
 generalize hP:Df q.nbrs (pB c pos) v=P at d1 BV ⊢
 generalize hC:Df q.nbrs (cB c pos) v=C at d2 ⊢
 have E: ∀ j a s,Lo c q pos v j a s↔(∃ i,i<j/\ P.getD i 0=(a:Int)/\ i<P.length)/\ ((Bp q.nbrs (pB c pos) v=2/\ tb c.set s=false)∨(Bp q.nbrs (cB c pos) v=2/\ (cB c pos).getD a false=false/\ tb c.set s=true)):=fun j a s=>by
  unfold Lo;rw [hP]
 obtain ⟨l',Ck,g⟩:=DK (m:=DF q c pos) (fun j (l:List Int)=>.l2 (pB c pos) (cB c pos) l (v:Int) P C (j:Int)) (fun j l=>RL pos (fun a s=>D a s∨(tb (pos.getD a 0) s=true/\ Lo c q pos v j a s)) l) P.length (fun j l hj hI=>by
  have r1:AG ((j:Int)+1):=Ae.2 ⟨by omega,by omega⟩
  have hu:0<=P.getD j 0/\ P.getD j 0<(q.nbrs.length:Int):=by
   have hm:=Tm hj;rw [←hP] at hm ⊢;exact G.rng v (by omega) (by omega) _ (zFU.1 hm).1
  obtain ⟨u,eu⟩:=zFf hu.1;have Ns:u<pos.length:=by omega
  have hs:=Mg (S:=c.set) (H.W.sm u Ns) (zBO H.W.k (by decide));have r2:AG (pos.getD u 0-bits .and .i64 (pos.getD u 0) c.set):=by rw [hs];exact Ae.2 (Cy _ _ _)
  have S1: ∃ l1,RL pos (fun a s=>(D a s∨(tb (pos.getD a 0) s=true/\ Lo c q pos v j a s))∨(a=u/\ tb (pos.getD a 0) s=true/\ Bp q.nbrs (pB c pos) v=2/\ tb c.set s=false)) l1/\ AZ (DF q c pos) (.l2 (pB c pos) (cB c pos) l (v:Int) P C (j:Int)) (.l3 (pB c pos) (cB c pos) l1 (v:Int) P C (j:Int)):=by
   by_cases h2:Bp q.nbrs (pB c pos) v=2
   ·obtain ⟨l1,f1,f2⟩:=hI.lose h256 (cell:=(u:Int)) (ss:=bits .andNot .i64 (pos.getD u 0) c.set) (by omega) (by omega);refine ⟨l1,f2.congr fun a s=>zGe Iff.rfl ?_,AZ.one fun n=>?_⟩
    ·rw [GA,zBE,zBh];constructor
     ·rintro ⟨rfl,p1,_,p2⟩;exact ⟨rfl,p1,p2⟩
     ·rintro ⟨p0,p1,p2⟩;have:a=u:=by omega
      subst this;exact ⟨rfl,p1,h2,p2⟩
    ·show M4 n (DF q c pos n) q c pos (pB c pos) (cB c pos) l (v:Int) P C (j:Int)=_
     unfold M4;simp only [zAB,eu];rw [zBC (by omega),zBA,show ((P.length:Int)==2)=true by rw [zBf];omega,zBA,zAE ⟨⟨by omega,by omega⟩,⟨by omega,by omega⟩,r2⟩,hs,f1,zA9]
   ·refine ⟨l,hI.congr fun a s=>⟨fun h=>h.elim id fun h=>absurd h.2.2.1 h2,.inl⟩,AZ.one fun n=>?_⟩
    show M4 n (DF q c pos n) q c pos (pB c pos) (cB c pos) l (v:Int) P C (j:Int)=_
    unfold M4;rw [zBC (by omega),zBA,show ((P.length:Int)==2)=false by rw [zB4];omega,zAD]
  obtain ⟨l1,dA,g1⟩:=S1
  have S2: ∃ l2,RL pos (fun a s=>((D a s∨(tb (pos.getD a 0) s=true/\ Lo c q pos v j a s))∨(a=u/\ tb (pos.getD a 0) s=true/\ Bp q.nbrs (pB c pos) v=2/\ tb c.set s=false))∨(a=u/\ tb (pos.getD a 0) s=true/\ Bp q.nbrs (cB c pos) v=2/\ (cB c pos).getD a false=false/\ tb c.set s=true)) l2/\ AZ (DF q c pos) (.l3 (pB c pos) (cB c pos) l1 (v:Int) P C (j:Int)) (.l4 (pB c pos) (cB c pos) l2 (v:Int) P C (j:Int)):=by
   by_cases h2:Bp q.nbrs (cB c pos) v=2
   ·have ec:((C.length:Int)==2)=true:=by rw [zBf];omega
    cases L2:(cB c pos).getD u false
    ·obtain ⟨l2,f1,f2⟩:=dA.lose h256 (cell:=(u:Int)) (ss:=bits .and .i64 (pos.getD u 0) c.set) (by omega) (by omega);refine ⟨l2,f2.congr fun a s=>zGe Iff.rfl ?_,AZ.one fun n=>?_⟩
     ·rw [EJ,zBE];constructor
      ·rintro ⟨rfl,p1,_,_,p2⟩;exact ⟨rfl,p1,p2⟩
      ·rintro ⟨p0,p1,p2⟩;have:a=u:=by omega
       subst this;exact ⟨rfl,p1,h2,L2,p2⟩
     ·show M3 n (DF q c pos n) q c pos (pB c pos) (cB c pos) l1 (v:Int) P C (j:Int)=_
      unfold M3;simp only [zAB,eu];rw [ec,zBA,zAE ⟨⟨by omega,by omega⟩,⟨by omega,by omega⟩⟩,L2]
      show (if _ then _ else none)=_
      rw [zAE ⟨by omega,by omega⟩,f1,zA9]
    ·refine ⟨l1,dA.congr fun a s=>⟨fun h=>h.elim id fun ⟨p0,_,_,p1,_⟩=>(by subst p0;rw [p1] at L2;cases L2),.inl⟩,AZ.one fun n=>?_⟩
     show M3 n (DF q c pos n) q c pos (pB c pos) (cB c pos) l1 (v:Int) P C (j:Int)=_
     unfold M3;simp only [zAB,eu];rw [ec,zBA,zAE ⟨⟨by omega,by omega⟩,⟨by omega,by omega⟩⟩,L2];rfl
   ·refine ⟨l1,dA.congr fun a s=>⟨fun h=>h.elim id fun h=>absurd h.2.2.1 h2,.inl⟩,AZ.one fun n=>?_⟩
    show M3 n (DF q c pos n) q c pos (pB c pos) (cB c pos) l1 (v:Int) P C (j:Int)=_
    unfold M3;rw [show ((C.length:Int)==2)=false by rw [zB4];omega,zAD]
  obtain ⟨l2,cz,g2⟩:=S2;refine ⟨l2,cz.congr fun a s=>?_,g1.trans (g2.trans (AZ.one fun n=>?_))⟩
  ·rw [E,E];constructor
   ·rintro (h | ⟨p1,⟨i,p2,p3,p4⟩,p5⟩)
    ·exact .inl (.inl (.inl h))
    ·rcases zBH.1 p2 with p2 | rfl
     ·exact .inl (.inl (.inr ⟨p1,⟨i,p2,p3,p4⟩,p5⟩))
     ·have ea:a=u:=by omega
      rcases p5 with p5 | p5
      ·exact .inl (.inr ⟨ea,p1,p5⟩)
      ·exact .inr ⟨ea,p1,p5⟩
   ·rintro (((h | ⟨p1,⟨i,p2,p3⟩,p5⟩) | ⟨rfl,p1,p5⟩) | ⟨rfl,p1,p5⟩)
    ·exact .inl h
    ·exact .inr ⟨p1,⟨i,by omega,p3⟩,p5⟩
    ·exact .inr ⟨p1,⟨j,by omega,eu,hj⟩,.inl p5⟩
    ·exact .inr ⟨p1,⟨j,by omega,eu,hj⟩,.inr p5⟩
  ·show Zx n (DF q c pos n) q c pos (pB c pos) (cB c pos) l2 (v:Int) P C (j:Int)=_
   unfold Zx;rw [zAE r1];rfl) P.length 0 l (by omega) (hD.congr fun a s=>⟨fun h=>h.elim id fun h=>absurd ((E 0 a s).1 h.2).1 fun ⟨i,h,_⟩=>zBW i h,.inl⟩)
 refine ⟨l',Ck,AZ.trans g (AZ.one fun n=>?_)⟩
 show M4 n (DF q c pos n) q c pos (pB c pos) (cB c pos) l' (v:Int) P C (P.length:Int)=_
 unfold M4;rw [zAA (by omega),zAD,zAE (Ae.2 ⟨by omega,by omega⟩)];rfl
theorem jV (H:RW q c pos) (W:ED c q pos): ∀ (k v:Nat) (l:List Int),v+k=pos.length -> RL pos (fun j s=>tb (pos.getD j 0) s=true/\ (Dj c q pos j s∨∃ u,u<v/\ PS c q pos u j s)) l ->
 AU (fun n=>DF q c pos n (.l1 (pB c pos) (cB c pos) l (v:Int))) (KR q c pos (fun j s=>tb (pos.getD j 0) s=true/\ Kj c q pos j s) (∀ u,v<=u -> u<pos.length -> (cB c pos).getD u false=true -> 2<=Bp q.nbrs (pB c pos) u/\ Bp q.nbrs (cB c pos) u<=2))
 | 0,v,l,e,hl=>by
  refine (Ev.one (r:=(l,true)) fun n=>?_).p ⟨⟨fun _ u h1 h2=>absurd h2 (by omega),fun _=>rfl⟩,fun _=>hl.congr fun j s=>zGw Iff.rfl (zGe Iff.rfl ⟨fun ⟨u,h1,h2⟩=>⟨u,by omega,h2⟩,fun ⟨u,h1,h2⟩=>⟨u,by omega,h2⟩⟩)⟩
  show SC n (DF q c pos n) q c pos (pB c pos) (cB c pos) l (v:Int)=_
  unfold SC;rw [zAA (by omega),zAD]
 | k+1,v,l,e,hl=>by
  have h256:=H.h256;have Cv:=W.gl;have ni:(pB c pos).length=pos.length:=DQ;have dG:(cB c pos).length=pos.length:=Cx;have r1:AG ((v:Int)+1):=Ae.2 ⟨by omega,by omega⟩;have d1:(Df q.nbrs (pB c pos) v).length=Bp q.nbrs (pB c pos) v:=WX;have d2:(Df q.nbrs (cB c pos) v).length=Bp q.nbrs (cB c pos) v:=WX
  have U: ∀ n,257<=n -> DF q c pos (n+1) (.l1 (pB c pos) (cB c pos) l (v:Int))=bif !(cB c pos).getD v false then DF q c pos n (.l1 (pB c pos) (cB c pos) l ((v+1:Nat):Int)) else bif decide (((Df q.nbrs (pB c pos) v).length:Int)<2) then some (l,false) else bif decide (((Df q.nbrs (cB c pos) v).length:Int)>2) then some (l,false) else DF q c pos n (.l2 (pB c pos) (cB c pos) l (v:Int) (Df q.nbrs (pB c pos) v) (Df q.nbrs (cB c pos) v) 0):=fun n hn=>by
   show SC n (DF q c pos n) q c pos (pB c pos) (cB c pos) l (v:Int)=_
   unfold SC;rw [zBC (by omega),zBA,zAE ⟨by omega,by omega⟩,zAE r1,zAB,jJ W.g.gr (by omega) (by omega) hn,jJ W.g.gr (by omega) (by omega) hn];rfl
  have next: ∀ l',RL pos (fun j s=>tb (pos.getD j 0) s=true/\ (Dj c q pos j s∨∃ u,u<v+1/\ PS c q pos u j s)) l' -> ((cB c pos).getD v false=true -> 2<=Bp q.nbrs (pB c pos) v/\ Bp q.nbrs (cB c pos) v<=2) -> AU (fun n=>DF q c pos n (.l1 (pB c pos) (cB c pos) l' ((v+1:Nat):Int))) (KR q c pos (fun j s=>tb (pos.getD j 0) s=true/\ Kj c q pos j s) (∀ u,v<=u -> u<pos.length -> (cB c pos).getD u false=true -> 2<=Bp q.nbrs (pB c pos) u/\ Bp q.nbrs (cB c pos) u<=2)):=fun l' Ck hv=>by
   refine (jV H W k (v+1) l' (by omega) Ck).mono fun r hr=>⟨hr.1.trans ⟨fun h u h1 h2 h3=>?_,fun h u h1 h2 h3=>h u (by omega) h2 h3⟩,hr.2⟩
   by_cases e2:u=v
   ·subst e2;exact hv h3
   ·exact h u (by omega) h2 h3
  cases hc:(cB c pos).getD v false
  ·refine AZ.pev (AZ.oneN 257 fun n hn=>by rw [U n hn,hc];rfl) (next l (hl.congr fun j s=>zGw Iff.rfl (zGe Iff.rfl ⟨fun ⟨u,h1,h2⟩=>⟨u,?_,h2⟩,fun ⟨u,h1,h2⟩=>⟨u,by omega,h2⟩⟩)) fun h=>(by rw [hc] at h;cases h));rcases zBH.1 h1 with h1 | rfl
   ·exact h1
   ·have:=h2.1;rw [hc] at this;cases this
  ·by_cases c1:Bp q.nbrs (pB c pos) v<2
   ·refine (Ev.oneN (r:=(l,false)) 257 fun n hn=>?_).p ⟨⟨fun h=>(by cases h),fun h=>?_⟩,fun h=>(by cases h)⟩
    ·rw [U n hn,hc,zBC (by omega)];rfl
    ·have:=(h v (zBa _) (by omega) hc).1;omega
   ·by_cases c2:Bp q.nbrs (cB c pos) v>2
    ·refine (Ev.oneN (r:=(l,false)) 257 fun n hn=>?_).p ⟨⟨fun h=>(by cases h),fun h=>?_⟩,fun h=>(by cases h)⟩
     ·rw [U n hn,hc,zAA (by omega),zBC (by omega)];rfl
     ·have:=(h v (zBa _) (by omega) hc).2;omega
    ·obtain ⟨l',h1,h2⟩:=vd H W (v:=v) (by omega) hl;refine AZ.pev ((AZ.oneN 257 fun n hn=>by rw [U n hn,hc,zAA (by omega),zAA (by omega)];rfl).trans h2) (next l' (h1.congr fun j s=>?_) fun _=>⟨by omega,by omega⟩);rw [xe W (by omega) hc];constructor
     ·rintro ⟨p0,p1 | ⟨u,p1,p2⟩⟩
      ·exact .inl ⟨p0,.inl p1⟩
      ·rcases zBH.1 p1 with p1 | rfl
       ·exact .inl ⟨p0,.inr ⟨u,p1,p2⟩⟩
       ·exact .inr ⟨p0,p2⟩
     ·rintro (⟨p0,p1 | ⟨u,p1,p2⟩⟩ | ⟨p0,p2⟩)
      ·exact ⟨p0,.inl p1⟩
      ·exact ⟨p0,.inr ⟨u,by omega,p2⟩⟩
      ·exact ⟨p0,.inr ⟨v,by omega,p2⟩⟩
theorem va (H:RW q c pos) (W:ED c q pos):AU (fun n=>Zy n q c pos) (KR q c pos (fun j s=>tb (pos.getD j 0) s=true/\ Kj c q pos j s) (PY c q pos)):=by
 have h256:=H.h256;obtain ⟨r,e3,hF⟩:=jk (inn:=cB c pos) (by rw [Cx];exact h256)
 show AU (fun n=>jU n (DF q c pos n) q c pos) _
 refine AU.bind (b:=fun n (y1:List Bool)=>(KV n c pos true).bind fun y2=>_) (Vo H W false) (AU.bind (b:=fun n (y2:List Bool)=>(PB n y2).bind fun y3=>_) (Vo H W true) (AU.bind (b:=fun n (y3:Int)=>bif (decide (y3<0)) then _ else _) e3 ?_))
 by_cases h0:r<0
 ·obtain ⟨h1,h2⟩:=oP (q:=q) hF h0;refine (Ev.now (r:=(List.replicate pos.length 0,true)) fun n=>?_).p ⟨⟨fun _ v _ h=>(by rw [h1] at h;cases h),fun _=>rfl⟩,fun _=>(RL.zero pos).congr fun j s=>⟨fun ⟨_,h⟩=>h.elim (h2 j s) fun ⟨v,_,h3,_⟩=>(by rw [h1] at h3;cases h3),fun h=>h.elim⟩⟩;rw [zBC h0,zBA,zAE ⟨Dz.symm,rfl,by omega,by omega⟩]
 ·obtain ⟨l0,e4,N5⟩:=j2 H W (by omega) hF;refine AU.eq (g:=fun n=>(Lg n q c pos (pB c pos) r).bind fun y4=>DF q c pos n (.l1 (pB c pos) (cB c pos) y4 0)) (AU.bind e4 ((jV H W pos.length 0 l0 (by omega) (N5.congr fun j s=>zGw Iff.rfl ⟨fun h=>h.elim id fun ⟨u,h,_⟩=>absurd h (zBW u),.inl⟩)).mono fun x hx=>⟨hx.1.trans ⟨fun h v hv hc=>h v (zE6 _) hv hc,fun h v _ hv hc=>h v hv hc⟩,hx.2⟩)) fun n=>?_
  rw [zAA h0,zAD];rfl
end
end Go.Proofs.YtekkngkphejfcaaGreatDoor
namespace Go.Proofs.YtekkngkphejfcaaGreatDoor
open Go.RowKit
section
variable {q:AA} {i:Int} {pos x:List Int}
end
end Go.Proofs.YtekkngkphejfcaaGreatDoor
namespace Go.Proofs.YtekkngkphejfcaaGreatDoor
open Go.RowKit
open Classical
section
variable {q:AA} {c:AC} {i:Int} {pos x:List Int}
theorem jn {n:Nat} (hl:pos.length<=256): ∀ (k j n:Nat),j+k=pos.length -> k<n -> NA pos n (.l1 (j:Int))=some ((pos.drop j).any (· ==0))
 | 0,j,n+1,e,_=>by
  show SK n (NA pos n) pos (j:Int)=_
  unfold SK;rw [zAA (by omega),zAD,zEM (by omega)];rfl
 | k+1,j,n+1,e,hn=>by
  have hj:j<pos.length:=by omega
  have e2:pos.drop j=pos.getD j 0::pos.drop (j+1):=by
   rw [zB2 hj,u8,zBD hj];rfl
  have ih:=jn (n:=n) hl k (j+1) n (by omega) (by omega);have ih:NA pos n (.l1 ((j:Int)+1))=_:=ih
  show SK n (NA pos n) pos (j:Int)=_
  unfold SK;rw [zBC (by omega),zBA,zAE ⟨by omega,by omega⟩,zAE (Ae.2 ⟨by omega,by omega⟩),zAB,ih,e2,List.any_cons];cases (pos.getD j 0==0) <;> rfl
theorem Vw {n:Nat} (hl:pos.length<=256) (hn:pos.length<n):PD n pos=some (Bi pos):=jn (n:=n) hl pos.length 0 n (by omega) hn
theorem uA {n:Nat} (hF:CP q) (hn:EM q<=n) (hl:pos.length<=LB) (Jr:pos.length<n):LS n q pos=some (B5 q pos):=by
 have hb:LB<=9223372036854775806:=by decide
 unfold LS iU B5;rw [tS hF hn,zA9];cases hv:C2 q with
 | false=>rfl
 | true=>
  obtain ⟨_,hs,_⟩:=Dp hv;obtain ⟨p1,p2,p3⟩:=V9 hs.1 hs.2
  have wu:IntKind.u64.wrap q.symbols=q.symbols:=by
   show q.symbols % 18446744073709551616=q.symbols
   omega
  show (bif ((pos.length:Int) != q.cells) then some 250 else Mv q pos n (.l1 0))=some (if posOk q pos=true then 0 else 250)
  unfold posOk
  by_cases Ak:(pos.length:Int)=q.cells
  ·have h1:((pos.length:Int) != q.cells)=false:=by simpa using Ak
   have h2:((pos.length:Int)==q.cells)=true:=by simpa using Ak
   rw [h1,zAD,h2,zCE]
   have key: ∀ (k i n:Nat),i+k=pos.length -> k+1<=n -> Mv q pos n (.l1 (i:Int))=some (if ((pos.drop i).all fun x=>decide (0<=x)&&decide (x<2 ^ q.symbols.toNat))=true then 0 else 250):=by
    intro k
    induction k with
    | zero=>
     intro i n e hn;obtain ⟨n,rfl⟩: ∃ k,n=k+1:=⟨n-1,by omega⟩
     show Rb n (Mv q pos n) q pos (i:Int)=_
     unfold Rb;rw [zAA (by omega),zAD,zEM (by omega)];rfl
    | succ k ih=>
     intro i n e hn;obtain ⟨n,rfl⟩: ∃ k,n=k+1:=⟨n-1,by omega⟩;have hi:i<pos.length:=by omega
     have e2:pos.drop i=pos.getD i 0::pos.drop (i+1):=by
      rw [zB2 hi,u8,zBD hi];rfl
     have:=ih (i+1) n (by omega) (by omega)
     show Rb n (Mv q pos n) q pos (i:Int)=_
     unfold Rb;rw [zBC (by omega),zBA,zAE ⟨by omega,by omega⟩,wu,zAE p3,zAE (Ae.2 ⟨by omega,by omega⟩),zAB,e2,zGA,p1]
     by_cases c1:pos.getD i 0<0
     ·rw [zBC c1,zBA,zAA (p:=0<=pos.getD i 0) (by omega)];rfl
     ·rw [zAA c1,zAD,zBC (p:=0<=pos.getD i 0) (by omega),zCE]
      by_cases c2:pos.getD i 0>=2 ^ q.symbols.toNat
      ·rw [zBC c2,zBA,zAA (p:=pos.getD i 0<2 ^ q.symbols.toNat) (by omega)];rfl
      ·rw [zAA c2,zAD,zBC (p:=pos.getD i 0<2 ^ q.symbols.toNat) (by omega),zCE];exact this
   exact key pos.length 0 n (by omega) (by omega)
  ·have h1:((pos.length:Int) != q.cells)=true:=by simpa using Ak
   have h2:((pos.length:Int)==q.cells)=false:=by simpa using Ak
   rw [h1,zBA,h2,zFI];rfl
theorem BT.rw (C:BT q i pos) (hd:Bi pos=false):RW q (con q i) pos:=by
 obtain ⟨_,h2,h3,_⟩:=Dp C.valid;have h256:=C.len256;exact ⟨C.work,C.vals,h2,h3.1,h256.1,h256.2,Fo.1 hd⟩
theorem BT.runs1 (C:BT q i pos):eP (con q i):=by
 have h:=C.fine;unfold DA at h;simp only [zBE,zBV] at h;have h2:=Qq.1 h.2;refine fun j hj=>(h2 _ ?_).1
 rw [u8,zBD hj];exact zB0 hj
theorem BT.set (C:BT q i pos):Sm q.symbols.toNat (con q i).set:=by
 have h:=C.fine;unfold DA at h;simp only [zBE,zBV] at h;have h2:=Qq.1 h.1.1.1.2 (con q i).set (by simp);have:(0:Int)<2 ^ q.symbols.toNat:=Int.pow_pos (by decide);exact ⟨h2.1,by omega⟩
structure RK (q:AA) (c:AC) (pos:List Int) (y:List Int×Bool):Prop where
 no:y.2=false -> ¬ Hd q c pos
 ok:y.2=true -> Gg q c pos
 len:y.2=true -> y.1.length=pos.length
 lost:y.2=true -> ∀ j s,j<pos.length -> tb (pos.getD j 0) s=true -> (tb (y.1.getD j 0) s=true↔LC q c pos j s)
theorem RK.of {D:Nat -> Nat -> Prop} {ok:Prop} {y:List Int×Bool} (h:KR q c pos D ok y) (ho:ok↔Gg q c pos) (hD: ∀ j s,j<pos.length -> tb (pos.getD j 0) s=true -> (D j s↔LC q c pos j s)):RK q c pos y where
 no:=fun h1 hA=>by have:=h.1.2 (ho.2 hA.ok);rw [h1] at this;cases this
 ok:=fun h1=>ho.1 (h.1.1 h1)
 len:=fun h1=>(h.2 h1).1.1
 lost:=fun h1 j s hj hs=>((h.2 h1).2 j s).trans (hD j s hj hs)
theorem So {k:Int} (hk:c.kind=k) (h2:k≠2) (h3:k≠3) (h5:k≠5) (h9:k≠9):Gg q c pos:=⟨fun h=>absurd (hk.symm.trans h) h2,fun h=>absurd (hk.symm.trans h) h3,fun h=>absurd (hk.symm.trans h) h5,fun h=>absurd (hk.symm.trans h) h9⟩
theorem Ui {D:Nat -> Nat -> Prop} {E:Nat -> Nat -> Prop} (hL: ∀ a s,By q c pos a s↔E a s) {j s:Nat} (h:(∃ a,a<c.cells.length/\ (c.cells.getD a 0).toNat=j/\ E a s)↔D j s):D j s↔LC q c pos j s:=by
 unfold LC;simp only [hL];exact h.symm
theorem YJ (H:RW q c pos) {F:Nat -> Nat -> Bool} {E:Nat -> Nat -> Prop} (hL: ∀ a s,By q c pos a s↔E a s) (hE: ∀ a s,a<c.cells.length -> s<q.symbols.toNat -> tb (AL c pos a) s=true -> (F a s=false↔E a s)) {j s:Nat} (hj:j<pos.length) (hs:tb (pos.getD j 0) s=true):SQ q c pos F c.cells.length j s↔LC q c pos j s:=by
 refine Ui (E:=E) (D:=SQ q c pos F c.cells.length) hL ⟨?_,?_⟩
 ·rintro ⟨a,ha,rfl,h⟩;have TL:=H.low (H.W.at ha) hs;exact ⟨a,ha,rfl,TL,hs,(hE a s ha TL hs).2 h⟩
 ·rintro ⟨a,ha,e,TL,hs,h⟩;exact ⟨a,ha,e,(hE a s ha TL hs).1 h⟩
theorem fM (W:ED c q pos) {E:Nat -> Nat -> Prop} (hL: ∀ a s,By q c pos a s↔E a s) {j s:Nat} (hj:j<pos.length) (hs:tb (pos.getD j 0) s=true):(tb (pos.getD j 0) s=true/\ E j s)↔LC q c pos j s:=by
 refine Ui (E:=E) (D:=fun j s=>tb (pos.getD j 0) s=true/\ E j s) hL ⟨?_,?_⟩
 ·rintro ⟨a,ha,rfl,h⟩;rw [W.id a (by rw [←W.len];exact ha),zAB] at hs ⊢;exact ⟨hs,h⟩
 ·rintro ⟨_,h⟩;exact ⟨j,by rw [W.len];exact hj,by rw [W.id j hj,zAB],h⟩
theorem vN (C:BT q i pos) (hd:Bi pos=false):AU (fun n=>Hr n q (con q i) pos) (RK q (con q i) pos):=by
 have H:=C.rw hd;have W:=H.W;have GO:=W.k;have kc:=Nd (Pb C.kind);have Av:=C.cells.2.1
 generalize Jw:con q i=c at*
 have plain: ∀ {f:Nat -> Option (List Int)} {D:Nat -> Nat -> Prop},AU f (RL pos D) -> Gg q c pos -> (∀ j s,j<pos.length -> tb (pos.getD j 0) s=true -> (D j s↔LC q c pos j s)) -> AU (fun n=>(f n).bind fun y1=>some (y1,true)) (RK q c pos):=fun {f D} hf B6 hD=>by
  obtain ⟨N,hN⟩:=hf;refine ⟨N,fun n hn=>?_⟩;obtain ⟨l,h1,h2⟩:=hN n hn;refine ⟨(l,true),by show (f n).bind _=_;rw [h1,zA9],fun h=>(by cases h),fun _=>B6,fun _=>h2.1.1,fun _ j s hj hs=>(h2.2 j s).trans (hD j s hj hs)⟩
 have aO: ∀ {f:Nat -> Option (List Int×Bool)} {D:Nat -> Nat -> Prop} {ok:Prop},AU f (KR q c pos D ok) -> (ok↔Gg q c pos) -> (∀ j s,j<pos.length -> tb (pos.getD j 0) s=true -> (D j s↔LC q c pos j s)) -> AU (fun n=>(f n).bind fun y1=>some (y1.1,y1.2)) (RK q c pos):=fun {f D ok} hf B6 hD=>by
  obtain ⟨N,hN⟩:=hf;refine ⟨N,fun n hn=>?_⟩;obtain ⟨l,h1,h2⟩:=hN n hn;exact ⟨l,by show (f n).bind _=_;rw [h1,zA9],RK.of h2 B6 hD⟩
 rcases kc with hk | hk | hk | hk | hk | hk | hk | hk | hk
 ·refine (plain (vu H) (So hk (by decide) (by decide) (by decide) (by decide)) fun j s hj hs=>?_).eq fun n=>by unfold Hr JX;rw [hk];rfl
  refine Ui (E:=MI c pos) (D:=Vu c pos q.symbols.toNat) (fun a s=>by unfold By;rw [hk];simp) ⟨?_,?_⟩
  ·rintro ⟨a,ha,rfl,h⟩;exact (jm H ha hs Av).2 h
  ·intro h;obtain ⟨a,b,ha,hb,h1,h2,h3,h4⟩:=h;have h:Vu c pos q.symbols.toNat (c.cells.getD a 0).toNat s:=⟨a,b,ha,hb,h1,h2,h3,rfl⟩;subst h4;exact ⟨a,ha,rfl,(jm H ha hs Av).1 h⟩
 ·refine (aO (wA H) ⟨fun h=>⟨fun _=>h,fun h=>absurd (hk.symm.trans h) (by decide),fun h=>absurd (hk.symm.trans h) (by decide),fun h=>absurd (hk.symm.trans h) (by decide)⟩,fun h=>h.1 hk⟩ fun j s hj hs=>?_).eq fun n=>by unfold Hr JX;rw [hk];rfl
  refine Ui (E:=fun a s=>Gq c pos a s=true) (D:=Lf c pos c.cells.length) (fun a s=>by unfold By;rw [hk];simp) ⟨?_,?_⟩
  ·rintro ⟨a,ha,rfl,h⟩;refine ⟨a,ha,rfl,?_⟩;unfold Gq at h;simp only [zBg,zBE,zBf,zBh] at h;rcases h with ⟨⟨h1,h2⟩,h3⟩ | ⟨⟨h1,h2⟩,h3⟩
   ·exact .inl ⟨h1,by unfold Bl;simpa using h2,hs,h3⟩
   ·exact .inr ⟨h1,by unfold CE;simp only [zBg];exact .inr h2,hs,h3⟩
  ·rintro ⟨a,ha,e,h⟩;refine ⟨a,ha,e,?_⟩;unfold Gq;simp only [zBg,zBE,zBf,zBh];rcases h with ⟨h1,h2,h3,h4⟩ | ⟨h1,h2,h3,h4⟩
   ·exact .inl ⟨⟨h1,by unfold Bl at h2;simpa using h2⟩,h4⟩
   ·refine .inr ⟨⟨h1,?_⟩,h4⟩;unfold CE at h2;rw [zBg] at h2;refine h2.elim (fun h=>?_) id;unfold Bl at h;rw [Pg (zBf.1 h) h3] at h4;cases h4
 ·refine (aO (u7 H) ⟨fun h=>⟨fun h=>absurd (hk.symm.trans h) (by decide),fun _=>h,fun h=>absurd (hk.symm.trans h) (by decide),fun h=>absurd (hk.symm.trans h) (by decide)⟩,fun h=>h.2.1 hk⟩ fun j s hj hs=>?_).eq fun n=>by unfold Hr JX;rw [hk];rfl
  refine Ui (E:=fun a s=>FX q c pos a s=true) (D:=Rs q c pos c.cells.length) (fun a s=>by unfold By;rw [hk];simp) ⟨?_,?_⟩
  ·rintro ⟨a,ha,rfl,h⟩;exact ⟨a,ha,rfl,H.low (W.at ha) hs,hs,h⟩
  ·rintro ⟨a,ha,e,_,_,h⟩;exact ⟨a,ha,e,h⟩
 ·refine (plain (V0 H (F:=fun a s=>decide (RE q c pos a s c.cells.length (-1))) fun a s ha hs=>?_) (So hk (by decide) (by decide) (by decide) (by decide)) fun j s hj hs=>YJ H (E:=fun a s=>Gd q c pos a s=true) (fun a s=>by unfold By;rw [hk];simp) (fun a s ha _ ht=>?_) hj hs).eq fun n=>by unfold Hr JX;rw [hk];rfl
  ·refine (jO H (a:=a) (s:=s) c.cells.length (zBa _) (-1)).eq fun n=>?_
   unfold OV;rw [hk,zGO];rfl
  ·rw [zE1,uq H ha ht,Bool.not_eq_false]
 ·have R:=C.runs;have R1:=C.runs1;rw [Jw] at R R1;have W9:=C.set;rw [Jw] at W9;have EA:=jL H R R1 (a:=c.cells.length) (at_:=-1) (inn:=true) (fun i hi=>⟨fun h=>absurd h (by omega),fun h=>absurd h (by omega)⟩) c.cells.length (zBa _) 0 0 (zCH _) (by omega) (zCH _) (by decide);rw [zGO] at EA
  have ho:(c.cells.length=0 -> c.runs.length=0) -> Gg q c pos:=fun h=>⟨fun h=>absurd (hk.symm.trans h) (by decide),fun h=>absurd (hk.symm.trans h) (by decide),fun _=>by
   unfold JR
   by_cases h0:c.cells.length=0
   ·rw [h h0];simp
   ·simp [h0],fun h=>absurd (hk.symm.trans h) (by decide)⟩
  have LK: ∀ a s,By q c pos a s↔G9 c pos a s:=fun a s=>by unfold By;rw [hk];simp
  refine AU.eq (g:=fun n=>(Dr n c pos 0 0 0 (-1) true).bind fun y1=>bif (!y1) then some (pos,false) else (PE n q c pos).bind fun y2=>some (y2,true)) ?_ fun n=>by unfold Hr JX;rw [hk];rfl
  refine AU.bind EA ?_
  by_cases hy:RY c pos c.cells.length true c.cells.length 0 0
  ·rw [zBC hy];have hy:=(iI R1).1 hy;refine (plain (V0 H (F:=fun a s=>decide (RY c pos a (tb c.set s) c.cells.length 0 0)) fun a s ha hs=>?_) (ho hy.1) fun j s hj hs=>YJ H (E:=G9 c pos) LK (fun a s ha _ ht=>?_) hj hs).eq fun n=>rfl
   ·obtain ⟨s1,s2,s3⟩:=H.sym hs;have EB:=jL H R R1 (a:=a) (at_:=(a:Int)) (inn:=tb c.set s) (fun i hi=>⟨fun h=>by omega,fun h=>by omega⟩) c.cells.length (zBa _) 0 0 (zCH _) (by omega) (zCH _) (by decide);rw [zGO] at EB;refine EB.eq fun n=>?_
    unfold OV;rw [hk,M9 W9 (by omega) (by omega)];rfl
   ·rw [zE1,tP ha,iO]
  ·rw [zAA hy];refine (Ev.now (r:=(pos,false)) fun n=>rfl).p ⟨fun _ hA=>hy ((iI R1).2 ⟨fun h0=>?_,fun h0=>?_⟩),fun h=>(by cases h),fun h=>(by cases h),fun h=>(by cases h)⟩
   ·have h:=hA.ok.2.2.1 hk;unfold JR at h;rw [h0] at h;simpa using h
   ·have hc:=W.cells 0 h0;obtain ⟨s,_,h1,h2⟩:=hA.left (c.cells.getD 0 0).toNat (by omega);refine Classical.byContradiction fun hn=>h2 ⟨0,h0,rfl,(LK 0 s).2 (iO.2 fun XR=>hn ?_)⟩
    cases hb:tb c.set s
    ·rw [hb] at XR;exact .inr XR
    ·rw [hb] at XR;exact .inl XR
 ·have h2:=C.two;rw [Jw] at h2;have h2:=h2 (.inl hk);have eo:GK q c=Ig q c:=by funext s t;unfold GK;rw [hk];rfl
  refine (plain (V0 H (F:=fun a s=>JG (PX q c pos a s) q.symbols.toNat 0) fun a s ha hs=>?_) (So hk (by decide) (by decide) (by decide) (by decide)) fun j s hj hs=>YJ H (E:=FJ (Ig q c) c pos) (fun a s=>by unfold By;rw [hk];simp) (fun a s ha _ ht=>?_) hj hs).eq fun n=>by unfold Hr JX;rw [hk];rfl
  ·refine (jy H (.inl hk) h2 Av (by omega) hs).eq fun n=>?_
   unfold OV;rw [hk];rfl
  ·rw [←eo];exact lX H h2 (by omega)
 ·have h2:=C.two;rw [Jw] at h2;have h2:=h2 (.inr hk);have eo:GK q c=HE c:=by funext s t;unfold GK;rw [hk];rfl
  refine (plain (V0 H (F:=fun a s=>JG (PX q c pos a s) q.symbols.toNat 0) fun a s ha hs=>?_) (So hk (by decide) (by decide) (by decide) (by decide)) fun j s hj hs=>YJ H (E:=FJ (HE c) c pos) (fun a s=>by unfold By;rw [hk];simp) (fun a s ha _ ht=>?_) hj hs).eq fun n=>by unfold Hr JX;rw [hk];rfl
  ·refine (jy H (.inr hk) h2 Av (by omega) hs).eq fun n=>?_
   unfold OV;rw [hk];rfl
  ·rw [←eo];exact lX H h2 (by omega)
 ·have WA:=C.all;rw [Jw] at WA;have WA:=WA (.inl hk) hd;exact (plain (wE H WA) (So hk (by decide) (by decide) (by decide) (by decide)) fun j s hj hs=>fM WA (fun a s=>by unfold By;rw [hk];simp) hj hs).eq fun n=>by unfold Hr JX;rw [hk];rfl
 ·have WA:=C.all;rw [Jw] at WA;have WA:=WA (.inr hk) hd;exact (aO (va H WA) ⟨fun h=>⟨fun h=>absurd (hk.symm.trans h) (by decide),fun h=>absurd (hk.symm.trans h) (by decide),fun h=>absurd (hk.symm.trans h) (by decide),fun _=>h⟩,fun h=>h.2.2.2 hk⟩ fun j s hj hs=>fM WA (fun a s=>by unfold By;rw [hk];simp) hj hs).eq fun n=>by unfold Hr JX;rw [hk];rfl
end
end Go.Proofs.YtekkngkphejfcaaGreatDoor
namespace Go.Proofs.YtekkngkphejfcaaGreatDoor
open Go.RowKit
set_option maxRecDepth 100000
set_option maxHeartbeats 40000000
end Go.Proofs.YtekkngkphejfcaaGreatDoor
namespace Go.Proofs.YtekkngkphejfcaaGreatDoor
open Go.RowKit
section
variable {q:AA} {i:Int} {pos x:List Int}
theorem vQ (C:BT q i pos) (hd:Bi pos=false) {y:List Int×Bool} (hy:RK q (con q i) pos y) {n:Nat} (hn:520<=n):
 ∃ x,(bif (!y.2) then some (List.replicate pos.length (0:Int)) else Lc q (con q i) pos n (.l1 y.1 0 0 ([]:List Int)))=some x/\ PR q (con q i) pos x:=by
 have h256:=C.len256;have L:A7=1000000000000:=rfl;obtain ⟨lost,b⟩:=y;cases b
 ·exact ⟨_,rfl,Dz,fun hA=>absurd hA (hy.no rfl),fun _=>rfl⟩
 have B6:Gg q (con q i) pos:=hy.ok rfl;have Ak:lost.length=pos.length:=hy.len rfl;have Nx: ∀ j s,j<pos.length -> tb (pos.getD j 0) s=true -> (tb (lost.getD j 0) s=true↔LC q (con q i) pos j s):=hy.lost rfl;rw [show (!true)=false from rfl,zAD]
 have key: ∀ (k j n:Nat) (o:List Int),j+k=pos.length -> k+258<=n -> o.length=j -> (∀ a,a<j -> o.getD a 0=bits .andNot .i64 (pos.getD a 0) (lost.getD a 0)) -> ∃ x:List Int,(x.length=pos.length/\ ∀ a,a<pos.length -> x.getD a 0=bits .andNot .i64 (pos.getD a 0) (lost.getD a 0))/\ Lc q (con q i) pos n (.l1 lost o.length (j:Int) o)=some (if Bi x then List.replicate pos.length 0 else x):=by
  intro k
  induction k with
  | zero=>
   intro j n o e hn ho hI;obtain ⟨n,rfl⟩: ∃ k,n=k+1:=⟨n-1,by omega⟩;refine ⟨o,⟨by omega,fun a ha=>hI a (by omega)⟩,?_⟩
   show R8 n (Lc q (con q i) pos n) q (con q i) pos lost o.length (j:Int) o=_
   unfold R8;rw [zAA (by omega),zAD,zAE rfl,Vw (by omega) (by omega),zA9];cases Bi o <;> rfl
  | succ k ih=>
   intro j n o e hn ho hI;obtain ⟨n,rfl⟩: ∃ k,n=k+1:=⟨n-1,by omega⟩;have hs:=Mg (S:=lost.getD j 0) (C.sm j (by omega)) (zBO C.work.k (by decide))
   obtain ⟨x,h1,h2⟩:=ih (j+1) n (o++[bits .andNot .i64 (pos.getD j 0) (lost.getD j 0)]) (by omega) (by omega) (by simp;omega) fun a ha=>by
    by_cases ea:a=j
    ·subst ea;rw [u8,zCF (by omega),show a-o.length=0 by omega];rfl
    ·rw [u8,zBq (by omega),←u8];exact hI a (by omega)
   rw [zCC] at h2;refine ⟨x,h1,Eq.trans ?_ h2⟩
   show R8 n (Lc q (con q i) pos n) q (con q i) pos lost o.length (j:Int) o=_
   unfold R8;rw [zBC (by omega),zBA,zAB,hs,zAE ⟨⟨by omega,by omega⟩,⟨by omega,by omega⟩,Ae.2 (Cy _ _ _),⟨⟨rfl,rfl⟩,⟨rfl,rfl⟩,by show o.length+1<=_;omega⟩,Ae.2 ⟨by omega,by omega⟩⟩];rfl
 obtain ⟨x,⟨h1,h2⟩,h3⟩:=key pos.length 0 n [] (by omega) (by omega) rfl fun a ha=>absurd ha (zBW a)
 have hx: ∀ j,j<pos.length -> Bs (x.getD j 0)/\ ∀ s,tb (x.getD j 0) s=true↔tb (pos.getD j 0) s=true/\ ¬ LC q (con q i) pos j s:=fun j hj=>by
  rw [h2 j hj];refine ⟨Cy _ _ _,fun s=>?_⟩;rw [GA,zBE,zBh,←zFL];exact ⟨fun ⟨h4,h5⟩=>⟨h4,fun h=>h5 ((Nx j s hj h4).2 h)⟩,fun ⟨h4,h5⟩=>⟨h4,fun h=>h5 ((Nx j s hj h4).1 h)⟩⟩
 have nz:=Fo.1 hd;refine ⟨_,h3,?_,fun hA j hj=>?_,fun hA=>?_⟩
 ·split
  ·exact Dz
  ·exact h1
 ·rw [zBP]
  ·exact hx j hj
  ·rw [zFL,Fo];intro j hj;rw [h1] at hj;obtain ⟨s,hs,h4,h5⟩:=hA.left j hj;exact (Eg (hx j hj).1).2 ⟨s,hs,((hx j hj).2 s).2 ⟨h4,h5⟩⟩
 ·rw [zAE];refine Classical.byContradiction fun h=>hA ?_
  rw [zFL,Fo] at h;refine ⟨nz,B6,fun j hj=>?_⟩;obtain ⟨s,hs,h4⟩:=(Eg (hx j hj).1).1 (h j (by omega));exact ⟨s,hs,((hx j hj).2 s).1 h4⟩
theorem vS (C:BT q i pos): ∃ x,Ev (fun n=>KU n q (con q i) pos) x/\ PR q (con q i) pos x:=by
 have h256:=C.len256;cases hd:Bi pos
 ·suffices H:AU (fun n=>KU n q (con q i) pos) (PR q (con q i) pos) by
   obtain ⟨x,h1,h2⟩:=H.ev PR.uniq;exact ⟨x,h2,h1⟩
  obtain ⟨N,hN⟩:=AU.bindU (vN C hd) (b:=fun n y2=>bif (!y2.2) then some (List.replicate pos.length (0:Int)) else Lc q (con q i) pos n (.l1 y2.1 0 0 ([]:List Int))) (Q:=PR q (con q i) pos) ⟨520,fun n hn y2 hy=>vQ C hd hy hn⟩;refine ⟨N+300,fun n hn=>?_⟩;obtain ⟨x,h1,h2⟩:=hN n (by omega);refine ⟨x,Eq.trans ?_ h1,h2⟩
  show KU n q (con q i) pos=_
  unfold KU Zw;rw [zAE ⟨Dz.symm,rfl,by omega,by omega⟩,Vw (by omega) (by omega),hd,zA9,zAD]
 ·refine ⟨List.replicate pos.length 0,⟨300,fun n hn=>?_⟩,Dz,fun hA=>?_,fun _=>rfl⟩
  ·show KU n q (con q i) pos=_
   unfold KU Zw;rw [zAE ⟨Dz.symm,rfl,by omega,by omega⟩,Vw (by omega) (by omega),hd,zA9,zBA]
  ·have:=Fo.2 hA.nz;rw [hd] at this;cases this
end
end Go.Proofs.YtekkngkphejfcaaGreatDoor
namespace Go.Proofs.YtekkngkphejfcaaGreatDoor
open Go.RowKit
theorem ZM {a b:List Int} {n:Nat} (hl:a.length<=LB) (hn:a.length<n):EP n a b=some (decide (a=b)):=by
 have hb:LB<=9223372036854775806:=by decide
 unfold EP iD
 by_cases Ak:a.length=b.length
 ·have e:((a.length:Int) != (b.length:Int))=false:=by rw [Ak];simp
  rw [e,zAD]
  have key: ∀ (k i n:Nat),i+k=a.length -> k+1<=n -> Ou a b n (.l1 (i:Int))=some (decide (a.drop i=b.drop i)):=by
   intro k
   induction k with
   | zero=>
    intro i n e hn;obtain ⟨n,rfl⟩: ∃ k,n=k+1:=⟨n-1,by omega⟩
    show RP n (Ou a b n) a b (i:Int)=_
    unfold RP;rw [zAA (by omega),zAD,zEM (by omega),zEM (by omega)];rfl
   | succ k ih=>
    intro i n e hn;obtain ⟨n,rfl⟩: ∃ k,n=k+1:=⟨n-1,by omega⟩;have hi:i<a.length:=by omega
    have A5:i<b.length:=by omega
    have d: ∀ {l:List Int},i<l.length -> l.drop i=l.getD i 0::l.drop (i+1):=fun {l} h=>by
     rw [zB2 h,u8,zBD h];rfl
    have:=ih (i+1) n (by omega) (by omega)
    show RP n (Ou a b n) a b (i:Int)=_
    unfold RP;rw [zBC (by omega),zBA,zAE ⟨⟨by omega,by omega⟩,by omega,by omega⟩,zAB,zAE (Ae.2 ⟨by omega,by omega⟩),d hi,d A5]
    by_cases h:a.getD i 0=b.getD i 0
    ·have:(a.getD i 0 != b.getD i 0)=false:=by rw [h];simp
     rw [this,zAD];refine Eq.trans (by assumption) ?_;rw [h];simp
    ·have:(a.getD i 0 != b.getD i 0)=true:=by simpa using h
     rw [this,zBA,zAA fun e=>h (List.cons.inj e).1]
  exact key a.length 0 n (by omega) (by omega)
 ·have e:((a.length:Int) != (b.length:Int))=true:=by simp;omega
  rw [e,zBA,zAA fun h=>Ak (by rw [h])]
theorem Ys {n:Nat} {c:AC} {level:Int}:Ut n c level=some (decide (GM c.kind<=level)):=by
 unfold Ut fX GM
 by_cases h4:c.kind=4
 ·rw [zAE (.inr h4)];simp [h4]
 by_cases h3:c.kind=3
 ·rw [zAE (.inl h3)];simp [h3]
 rw [zBP (by omega)]
 by_cases h5:c.kind=5
 ·rw [zAE h5];simp [h5]
 rw [zBP h5]
 by_cases h8:c.kind=8
 ·rw [zAE (.inl h8)];simp [h8]
 by_cases h9:c.kind=9
 ·rw [zAE (.inr h9)];simp [h9]
 rw [zBP (by omega)];have e4:(c.kind==4)=false:=by simpa using h4
 have e3:(c.kind==3)=false:=by simpa using h3
 have e5:(c.kind==5)=false:=by simpa using h5
 have e8:(c.kind==8)=false:=by simpa using h8
 have e9:(c.kind==9)=false:=by simpa using h9
 rw [e4,e3,e5,e8,e9];rfl
section
variable {q:AA} {level i:Int} {pos p x cells:List Int}
theorem oI (hp:BZ q p): ∀ (k a:Nat),a+k=q.cons.length -> (∀ i',Up q level i' -> i'<(a:Int) -> PR q (con q i') p p) ->
 (Ev (fun n=>IB q p level n (.l1 (a:Int))) (-1,p)/\ Hc q (Up q level) p)∨
 ∃ (b:Nat) (x:List Int),Ev (fun n=>IB q p level n (.l1 (a:Int))) ((b:Int),x)/\ Up q level (b:Int)/\ PR q (con q (b:Int)) p x/\ x≠p/\ ∀ i',Up q level i' -> i'<(b:Int) -> PR q (con q i') p p
 | 0,a,e,h=>by
  refine .inl ⟨Ev.one fun n=>?_,fun i hi=>h i hi (by have:=hi.2.1;omega)⟩
  show Kv n (IB q p level n) q p level (a:Int)=_
  unfold Kv;rw [zAA (by omega),zAD]
 | k+1,a,e,h=>by
  have ha:a<q.cons.length:=by omega
  have hK:=(Dp hp.valid).2.2.2.2.1;have AP:decide ((a:Int)<(q.cons.length:Int))=true:=zBC (by omega);have hr:AG ((a:Int)+1):=Ae.2 ⟨by omega,by omega⟩;have ea:((a+1:Nat):Int)=(a:Int)+1:=by omega
  have Jw:q.cons.getD a default=con q (a:Int):=rfl
  have go:AZ (IB q p level) (.l1 (a:Int)) (.l1 ((a+1:Nat):Int)) -> (Up q level (a:Int) -> PR q (con q (a:Int)) p p) ->
   (Ev (fun n=>IB q p level n (.l1 (a:Int))) (-1,p)/\ Hc q (Up q level) p)∨∃ (b:Nat) (x:List Int),Ev (fun n=>IB q p level n (.l1 (a:Int))) ((b:Int),x)/\ Up q level (b:Int)/\ PR q (con q (b:Int)) p x/\ x≠p/\ ∀ i',Up q level i' -> i'<(b:Int) -> PR q (con q i') p p:=fun st hq=>by
   rcases oI hp k (a+1) (by omega) (fun i' A5 hlt'=>by
    by_cases e:i'=(a:Int)
    ·subst e;exact hq A5
    ·exact h i' A5 (by omega)) with ⟨g1,g2⟩ | ⟨b,y,g1,g2⟩
   ·exact .inl ⟨st.ev g1,g2⟩
   ·exact .inr ⟨b,y,st.ev g1,g2⟩
  by_cases hl:GM (con q (a:Int)).kind<=level
  ·have hU:Up q level (a:Int):=⟨by omega,by omega,hl⟩;obtain ⟨x,⟨N,h1⟩,h2⟩:=vS (hp.ctx hU.1 hU.2.1);have h1: ∀ n,N<=n -> KU n q (con q (a:Int)) p=some x:=h1;have mX:x.length=p.length:=h2.len;have h256:=hp.len256;have hs: ∀ n,300<=n -> EP n x p=some (decide (x=p)):=fun n hn=>ZM (by rw [mX];exact zBO h256.2 (by decide)) (by omega)
   by_cases hx:x=p
   ·refine go (AZ.oneN (max N 300) fun n hn=>?_) (fun _=>by rw [hx] at h2;exact h2)
    show Kv n (IB q p level n) q p level (a:Int)=_
    unfold Kv;rw [AP,zBA,zAE ⟨by omega,by omega⟩,zAB,Jw,Ys,zA9,zBC hl,zCJ,zAD,h1 n (by omega),zA9,hs n (by omega),zA9,zBC hx,zCJ,zAD,zAE hr,ea]
   ·refine .inr ⟨a,x,Ev.oneN (max N 300) fun n hn=>?_,hU,h2,hx,h⟩
    show Kv n (IB q p level n) q p level (a:Int)=_
    unfold Kv;rw [AP,zBA,zAE ⟨by omega,by omega⟩,zAB,Jw,Ys,zA9,zBC hl,zCJ,zAD,h1 n (by omega),zA9,hs n (by omega),zA9,zAA hx,zCN,zBA]
  ·refine go (AZ.one fun n=>?_) (fun hU=>absurd hU.2.2 hl)
   show Kv n (IB q p level n) q p level (a:Int)=_
   unfold Kv;rw [AP,zBA,zAE ⟨by omega,by omega⟩,zAB,Jw,Ys,zA9,zAA hl,zCN,zBA,zAE hr,ea]
theorem iQ {M:Nat} {p acc:List Int} (Az: ∀ {p' acc':List Int},wt p'<M -> BZ q p' -> acc'.length+wt p'<=20000 -> ∃ l g,Ev (fun n=>LR q pos level n (.l1 p' acc'.length acc')) (g,acc'++l)/\ FU q level p' l g)
 (hM:wt p<=M) (hp:BZ q p) (hb:acc.length+wt p<=20000): ∃ l g,Ev (fun n=>LR q pos level n (.l1 p acc.length acc)) (g,acc++l)/\ FU q level p l g:=by
 rcases oI (level:=level) hp q.cons.length 0 (by omega) (fun i' A5 AP=>absurd A5.1 (by omega)) with ⟨⟨N,g1⟩,g2⟩ | ⟨b,x,⟨N,g1⟩,g2,g3,g4,g5⟩
 ·have g1: ∀ n,N<=n -> Xo n q p level=some (-1,p):=g1;refine ⟨[],p,?_,.done g2⟩;rw [zFV];refine Ev.oneN N fun n hn=>?_
  show Ra n (LR q pos level n) q pos level p acc.length acc=_
  unfold Ra;rw [g1 n hn,zA9]
  show (bif decide ((-1:Int)<0) then (if acc.length=acc.length then some (p,acc) else none) else _)=_
  rw [zBC (by decide),zBA,zAE rfl]
 ·have g1: ∀ n,N<=n -> Xo n q p level=some ((b:Int),x):=g1;have Ip:=hp.pr g2.1 g2.2.1 g3;have hw:=Um Ip hp g3.le g4;obtain ⟨l,g,r1,r2⟩:=Az (p':=x) (acc':=acc++[(b:Int)]) (by omega) Ip (by rw [zCC,zCI];omega);rw [zFi,zGk] at r1;refine ⟨(b:Int)::l,g,AZ.ev (AZ.oneN N fun n hn=>?_) r1,.step g2 g3 g4 g5 r2⟩
  show Ra n (LR q pos level n) q pos level p acc.length acc=_
  unfold Ra;rw [g1 n hn,zA9]
  show (bif decide ((b:Int)<0) then _ else _)=_
  rw [zAA (by omega),zAD,zAE ⟨⟨rfl,rfl⟩,⟨rfl,rfl⟩,by unfold A7;rw [zCI];omega⟩,zCC]
theorem tn: ∀ (M:Nat) {p acc:List Int},wt p<=M -> BZ q p -> acc.length+wt p<=20000 -> ∃ l g,Ev (fun n=>LR q pos level n (.l1 p acc.length acc)) (g,acc++l)/\ FU q level p l g:=by
 intro M
 induction M with
 | zero=>exact fun {p acc} hM hp hb=>iQ (fun {p' acc'} h=>absurd h (by omega)) hM hp hb
 | succ M ih=>exact fun {p acc} hM hp hb=>iQ (fun {p' acc'} h BE C9=>ih (by omega) BE C9) hM hp hb
def eS (q:AA) (pos:List Int) (level:Int) (r:List Int×List Int):Prop:=(Bi pos=true/\ r=(List.replicate pos.length 0,[]))∨(Bi pos=false/\ FU q level pos r.2 r.1)
theorem iR (hp:BZ q pos): ∃ r,Ev (fun n=>VM n q pos level) r/\ eS q pos level r:=by
 have h256:=hp.len256;have hD:Ev (fun n=>PD n pos) (Bi pos):=⟨300,fun n hn=>Vw h256.2 (by omega)⟩;cases hd:Bi pos with
 | true=>
  rw [hd] at hD;refine ⟨_,Ev.bind hD (Ev.now fun n=>?_),.inl ⟨hd,rfl⟩⟩
  show (if ((pos.length:Int):Int)=(pos.length:Int)/\ 0<=(pos.length:Int)/\ ((pos.length:Int):Int)<=1000000000000 then _ else _)=_
  rw [zAE ⟨rfl,by omega,by omega⟩,zAE zCD.symm]
 | false=>
  rw [hd] at hD;obtain ⟨l,g,g1,g2⟩:=tn (q:=q) (level:=level) (pos:=pos) (wt pos) (acc:=[]) (zBa _) hp (by have:=Un hp;simp;omega);exact ⟨(g,l),Ev.bind hD g1,.inr ⟨hd,g2⟩⟩
theorem eS.fin {r:List Int×List Int} (h:eS q pos level r):Ma q level pos r.1:=by
 rcases h with ⟨h1,h2⟩ | ⟨h1,h2⟩
 ·exact .inl ⟨h1,by rw [h2]⟩
 ·exact .inr ⟨h1,h2.down⟩
theorem Za (hp:BZ q pos): ∃ g,Ev (fun n=>LZ n q pos level) g/\ Ma q level pos g:=by
 obtain ⟨r,h1,h2⟩:=iR (level:=level) hp;exact ⟨r.1,Ev.bind h1 (Ev.now fun n=>rfl),h2.fin⟩
theorem VN (hF:CP q) (hl:pos.length<=LB):Ev (fun n=>LS n q pos) (B5 q pos):=⟨EM q+pos.length+1,fun n hn=>uA hF (by omega) hl (by omega)⟩
theorem YN {e:Int} (h:e≠0):(e != 0)=true:=by simpa using h
theorem zEi (hF:CP q) (hl:pos.length<=LB): ∃ r,Ev (fun n=>Ua n q pos level) r/\ JJ q pos [] level r:=by
 have h1:=VN hF hl
 by_cases h0:B5 q pos=0
 ·rw [h0] at h1;obtain ⟨g,g1,g2⟩:=Za (level:=level) (BZ.of hF h0);exact ⟨(g,0),Ev.bind h1 (Ev.bind g1 (Ev.now fun n=>rfl)),.inr (.inr ⟨h0,rfl,rfl,g2⟩)⟩
 ·refine ⟨([],B5 q pos),Ev.bind h1 (Ev.now fun n=>?_),.inl ⟨h0,rfl⟩⟩
  show (bif (B5 q pos != 0) then _ else _)=_
  rw [YN h0];rfl
theorem p9 (BU:cells.length<=LB) {g:List Int} (hg:Ev (fun n=>LZ n q pos level) g): ∀ (k j:Nat),j+k=cells.length -> Ev (fun n=>MR q pos cells level n (.l1 (j:Int))) (bif (cells.drop j).any (fun c=>decide (c<0)||decide (c>=q.cells)) then ([],1) else (g,0))
 | 0,j,e=>by
  obtain ⟨N,hg⟩:=hg;have hg: ∀ n,N<=n -> LZ n q pos level=some g:=hg;rw [zEM (by omega)];refine Ev.oneN N fun n hn=>?_
  show K3 n (MR q pos cells level n) q pos cells level (j:Int)=_
  unfold K3;rw [zAA (by omega),zAD,hg n hn];rfl
 | k+1,j,e=>by
  have hj:j<cells.length:=by omega
  have AP:decide ((j:Int)<(cells.length:Int))=true:=zBC (by omega);have hr:AG ((j:Int)+1):=Ae.2 ⟨by omega,by unfold LB at BU;omega⟩;rw [ol hj]
  by_cases h1:cells.getD j 0<0
  ·rw [zBC h1,zFz,zFz,zBA];refine Ev.one fun n=>?_
   show K3 n (MR q pos cells level n) q pos cells level (j:Int)=_
   unfold K3;rw [AP,zBA,zAE ⟨by omega,by omega⟩,zAB,zBC h1,zBA]
  ·rw [zAA h1,zFP]
   by_cases h2:cells.getD j 0>=q.cells
   ·rw [zBC h2,zFz,zBA];refine Ev.one fun n=>?_
    show K3 n (MR q pos cells level n) q pos cells level (j:Int)=_
    unfold K3;rw [AP,zBA,zAE ⟨by omega,by omega⟩,zAB,zAA h1,zAD,zBC h2,zBA]
   ·rw [zAA h2,zFP];refine AZ.ev (AZ.one fun n=>?_) (p9 BU hg k (j+1) (by omega))
    show K3 n (MR q pos cells level n) q pos cells level (j:Int)=_
    unfold K3;rw [AP,zBA,zAE ⟨by omega,by omega⟩,zAB,zAA h1,zAD,zAA h2,zAD,zAE hr,show ((j+1:Nat):Int)=(j:Int)+1 by omega]
theorem zEm (hF:CP q) (hl:pos.length<=LB) (BU:cells.length<=LB): ∃ r,Ev (fun n=>YX n q pos cells level) r/\ JJ q pos cells level r:=by
 have h1:=VN hF hl
 by_cases h0:B5 q pos=0
 ·rw [h0] at h1;obtain ⟨g,g1,g2⟩:=Za (level:=level) (BZ.of hF h0);have g3:=p9 BU g1 cells.length 0 (by omega);refine ⟨_,Ev.bind h1 g3,?_⟩;rw [zGG];cases ho:Ll q cells with
  | true=>exact .inr (.inl ⟨h0,ho,by unfold Ll at ho;rw [ho];rfl⟩)
  | false=>exact .inr (.inr ⟨h0,ho,by unfold Ll at ho;rw [ho];rfl,by unfold Ll at ho;rw [ho];exact g2⟩)
 ·refine ⟨([],B5 q pos),Ev.bind h1 (Ev.now fun n=>?_),.inl ⟨h0,rfl⟩⟩
  show (bif (B5 q pos != 0) then _ else _)=_
  rw [YN h0];rfl
theorem xH (hF:CP q) (hl:pos.length<=LB): ∃ r,Ev (fun n=>Sl n q pos level) r/\ Ug q pos level r:=by
 have h1:=VN hF hl
 by_cases h0:B5 q pos=0
 ·rw [h0] at h1;have hp:=BZ.of hF h0;obtain ⟨r,g1,g2⟩:=iR (level:=level) hp;refine ⟨(r.2,0),Ev.bind h1 (Ev.bind g1 (Ev.now fun n=>rfl)),?_⟩;rcases g2 with ⟨e1,e2⟩ | ⟨e1,e2⟩
  ·exact .inr (.inl ⟨h0,e1,by rw [e2]⟩)
  ·exact .inr (.inr ⟨h0,e1,rfl,by have:=e2.len hp;have:=Un hp;simp only;omega,r.1,e2⟩)
 ·refine ⟨([],B5 q pos),Ev.bind h1 (Ev.now fun n=>?_),.inl ⟨h0,rfl⟩⟩
  show (bif (B5 q pos != 0) then _ else _)=_
  rw [YN h0];rfl
theorem zCi (hF:CP q) (hl:pos.length<=LB): ∃ r,Ev (fun n=>Tt n q pos level) r/\ Uj q pos level r:=by
 have h1:=VN hF hl
 by_cases h0:B5 q pos=0
 ·rw [h0] at h1;obtain ⟨g,g1,g2⟩:=Za (level:=level) (BZ.of hF h0);have hA:JJ q pos [] level (g,0):=.inr (.inr ⟨h0,rfl,rfl,g2⟩);have Cv:g.length<=256:=hA.len hF;refine ⟨(decide (g=pos),0),Ev.bind h1 (Ev.bind g1 ?_),(g,0),hA,by simp⟩;exact Ev.bind (a:=fun n=>EP n g pos) (x:=decide (g=pos)) ⟨g.length+1,fun n hn=>ZM (zBO Cv (by decide)) (by omega)⟩ (Ev.now fun n=>rfl)
 ·refine ⟨(false,B5 q pos),Ev.bind h1 (Ev.now fun n=>?_),([],B5 q pos),.inl ⟨h0,rfl⟩,by simp [h0]⟩
  show (bif (B5 q pos != 0) then _ else _)=_
  rw [YN h0];rfl
end
end Go.Proofs.YtekkngkphejfcaaGreatDoor
namespace Go.Proofs.YtekkngkphejfcaaGreatDoor
open Go.RowKit
set_option maxRecDepth 100000
set_option maxHeartbeats 40000000
def zDM (n:Nat) (cells:Int):Option AA:=
 if ((cells:Int)=cells/\ 0<=cells/\ (cells:Int)<=1000000000000)/\ ((0:Int)<=0/\ 0<=cells/\ cells<=((([0,1,2]:List Int).length:Nat):Int)) then
  if (cells).toNat=(List.replicate ((cells).toNat) ([]:List Int)).length then
   some (⟨cells,3,([1,2,3]:List Int),(List.replicate ((cells).toNat) ([]:List Int)),([(⟨1,(([0,1,2]:List Int).take ((cells).toNat)).drop 0,0,0,0,0,([]:List Int),0,0⟩:AC)]:List AC)⟩:AA)
  else none
 else none
def X4 (n:Nat) (cells:Int):Option AA:=zDM n cells
theorem Ky {n:Nat} {cells:Int} {r:AA} (h:X4 n cells=some r):EQ 41 [.i cells] [] (.agg 5 (L1 (AD r))) [] true:=by
 refine ot Tryz.func41 fun B N=>?_
 revert r;apply gO;exact gc (gi (ja 7 2 1 (uE (c:=A8) (x:=([]:List Int)) (n:=(cells).toNat) (l:=[.nils]) ⟨AS.ints_nil,trivial⟩) (jt (jz 9 4 (jg (by decide:3=([0,1,2]:List Int).length) (gi (ja 13 5 9 (ZW (c:=AH) (L:=([(⟨1,(([0,1,2]:List Int).take ((cells).toNat)).drop 0,0,0,0,0,([]:List Int),0,0⟩:AC)]:List AC)) (vals:=[.agg 9 (L1 [.i 1,.ints ((([0,1,2]:List Int).take ((cells).toNat)).drop 0),.i 0,.i 0,.i 0,.i 0,.nils,.i 0,.i 0])]) rfl ⟨⟨_,rfl,⟨BQ,BQ,BQ,BQ,BQ,BQ,AS.ints_nil,BQ,BQ,trivial⟩⟩,trivial⟩) (jt (jt (gn fun g2=>lF fun p=>ez AE [2] [0,1,2,5] p [1,2,3] (H0.g (by decide:3=([1,2,3]:List Int).length) |>.g g2 |>.g (Eq.refl 1))))))))))))
def cJ (y1 y2 y3:AA):DH:=[some (.cells (AD y1)),some (.cells (AD y2)),some (.cells [.i y3.cells,.i y3.symbols,.ints y3.values,.sl 1 y3.nbrs.length (Aw A8 y3.nbrs),.nils]),none]
def cI (y1 y2 y3:AA):DH:=[some (.cells (AD y1)),some (.cells (AD y2)),some (.cells [.i y3.cells,.i y3.symbols,.ints y3.values,.sl 1 y3.nbrs.length (Aw A8 y3.nbrs),.nils]),none,none]
def cH (y1 y2 y3:AA):DH:=[some (.cells (AD y1)),some (.cells (AD y2)),some (.cells [.i y3.cells,.i y3.symbols,.ints y3.values,.sl 1 y3.nbrs.length (Aw A8 y3.nbrs),.nils]),none,none,none]
def cG (y1 y2 y3:AA):DH:=[some (.cells (AD y1)),some (.cells (AD y2)),some (.cells [.i y3.cells,.i y3.symbols,.ints y3.values,.sl 1 y3.nbrs.length (Aw A8 y3.nbrs),.nils]),none,none,none,none]
def cF (y1 y2 y3:AA):DH:=[some (.cells (AD y1)),some (.cells (AD y2)),some (.cells [.i y3.cells,.i y3.symbols,.ints y3.values,.sl 1 y3.nbrs.length (Aw A8 y3.nbrs),.nils]),none,none,none,none,none]
def cE (y1 y2 y3:AA):DH:=[some (.cells (AD y1)),some (.cells (AD y2)),some (.cells [.i y3.cells,.i y3.symbols,.ints y3.values,.sl 1 y3.nbrs.length (Aw A8 y3.nbrs),.nils]),none,none,none,none,none,none]
def Pu (y1 y2 y3:AA):DH:=[some (.cells (AD y1)),some (.cells (AD y2)),some (.cells [.i y3.cells,.i y3.symbols,.ints y3.values,.sl 1 y3.nbrs.length (Aw A8 y3.nbrs),.nils]),none,none,none,none,none,none,none,none]
def cD (y1 y2 y3:AA):DH:=[some (.cells (AD y1)),some (.cells (AD y2)),some (.cells [.i y3.cells,.i y3.symbols,.ints y3.values,.sl 1 y3.nbrs.length (Aw A8 y3.nbrs),.nils]),none,none,none,none,none,none,none,none,some (.ints ([1,2]:List Int))]
def zAO (y1 y2 y3:AA):DH:=[some (.cells (AD y1)),some (.cells (AD y2)),some (.cells [.i y3.cells,.i y3.symbols,.ints y3.values,.sl 1 y3.nbrs.length (Aw A8 y3.nbrs),.nils]),none,none,none,none,none,none,none,none,some (.ints ([1,2]:List Int)),some (.ints ([1,2,4]:List Int))]
def zAN (y1 y2 y3:AA):DH:=[some (.cells (AD y1)),some (.cells (AD y2)),some (.cells [.i y3.cells,.i y3.symbols,.ints y3.values,.sl 1 y3.nbrs.length (Aw A8 y3.nbrs),.nils]),none,none,none,none,none,none,none,none,some (.ints ([1,2]:List Int)),some (.ints ([1,2,4]:List Int)),some (.ints ([0,0]:List Int))]
def zAS (y1 y2 y3:AA):DH:=[some (.cells (AD y1)),some (.cells (AD y2)),some (.cells [.i y3.cells,.i y3.symbols,.ints y3.values,.sl 1 y3.nbrs.length (Aw A8 y3.nbrs),.nils]),none,none,none,none,none,none,none,none,some (.ints ([1,2]:List Int)),some (.ints ([1,2,4]:List Int)),some (.ints ([0,0]:List Int)),some (.ints ([1,1]:List Int))]
def zAR (y1 y2 y3:AA):DH:=[some (.cells (AD y1)),some (.cells (AD y2)),some (.cells [.i y3.cells,.i y3.symbols,.ints y3.values,.sl 1 y3.nbrs.length (Aw A8 y3.nbrs),.nils]),none,none,none,none,none,none,none,none,some (.ints ([1,2]:List Int)),some (.ints ([1,2,4]:List Int)),some (.ints ([0,0]:List Int)),some (.ints ([1,1]:List Int)),some (.ints ([0,0]:List Int))]
def zAQ (y1 y2 y3:AA):DH:=[some (.cells (AD y1)),some (.cells (AD y2)),some (.cells [.i y3.cells,.i y3.symbols,.ints y3.values,.sl 1 y3.nbrs.length (Aw A8 y3.nbrs),.nils]),none,none,none,none,none,none,none,none,some (.ints ([1,2]:List Int)),some (.ints ([1,2,4]:List Int)),some (.ints ([0,0]:List Int)),some (.ints ([1,1]:List Int)),some (.ints ([0,0]:List Int)),some (.ints ([0,0]:List Int))]
def zAP (y1 y2 y3:AA):DH:=[some (.cells (AD y1)),some (.cells (AD y2)),some (.cells [.i y3.cells,.i y3.symbols,.ints y3.values,.sl 1 y3.nbrs.length (Aw A8 y3.nbrs),.nils]),none,none,none,none,none,none,none,none,some (.ints ([1,2]:List Int)),some (.ints ([1,2,4]:List Int)),some (.ints ([0,0]:List Int)),some (.ints ([1,1]:List Int)),some (.ints ([0,0]:List Int)),some (.ints ([0,0]:List Int)),some (.ints ([0]:List Int))]
def iC (n:Nat):Option Bool:=
 (X4 n 3).bind fun y1=>
  (X4 n 2).bind fun y2=>
   (X4 n 2).bind fun y3=>
    (J2 n y1 ([1,3,7]:List Int) 1).bind fun y4=>
     (PL n y1 ([1,3,7]:List Int) 4).bind fun y5=>
      (J2 n y2 ([1,1]:List Int) 0).bind fun y6=>
       (J2 n y2 ([1,1]:List Int) 1).bind fun y7=>
        (J2 n (⟨y3.cells,y3.symbols,y3.values,y3.nbrs,([]:List AC)⟩:AA) ([3,0]:List Int) 4).bind fun y8=>
         (PL n y2 ([1,3]:List Int) 1).bind fun y9=>
          (OX n y2 ([1,1]:List Int) ([2]:List Int) 1).bind fun fA=>
           (OK n (⟨0,0,([]:List Int),([]:List (List Int)),([]:List AC)⟩:AA) ([]:List Int) 1).bind fun ew=>
            (OK n y2 ([1,2]:List Int) 1).bind fun Yi=>
             bif (y4.2==0) then
              bif (y5.2==0) then
               bif (y6.2==0) then
                bif (y7.2==0) then
                 bif (y8.2==0) then
                  bif (y9.2==0) then
                   bif (fA.2==1) then
                    bif (ew.2==191) then
                     bif (Yi.2==0) then
                      bif Yi.1 then
                       (EP n y4.1 ([1,2,4]:List Int)).bind fun eh=>
                        bif eh then
                         (EP n y5.1 ([0,0]:List Int)).bind fun eZ=>
                          bif eZ then
                           (EP n y6.1 ([1,1]:List Int)).bind fun eY=>
                            bif eY then
                             (EP n y7.1 ([0,0]:List Int)).bind fun eX=>
                              bif eX then
                               (EP n y8.1 ([0,0]:List Int)).bind fun eW=>
                                bif eW then
                                 (EP n y9.1 ([0]:List Int)).bind fun eV=>
                                  some eV
                                else
                                 some false
                              else
                               some false
                            else
                             some false
                          else
                           some false
                        else
                         some false
                      else
                       some false
                     else
                      some false
                    else
                     some false
                   else
                    some false
                  else
                   some false
                 else
                  some false
                else
                 some false
               else
                some false
              else
               some false
             else
              some false
def Mr (n:Nat):Option Bool:=iC n
theorem iB {n:Nat} {r:Bool} (h:Mr n=some r):EQ 15 [] [] (.bool r) [] true:=by
 unfold Mr iC at h;refine ot Tryz.func15 fun B N=>?_
 revert r;apply gO;exact cn fun y1 A1=>jc (fb (Ky A1) []) (cn fun y2 CF=>jc (fb (Ky CF) []) (cn fun y3 TH=>jc (fb (Ky TH) []) (jt (jt (jt (jt (jz 29 3 (jg (by decide:3=([1,3,7]:List Int).length) (cn fun y4 TG=>jc (fb (Gu TG) (cJ y1 y2 y3)) (jz 35 4 (jg (by decide:3=([1,3,7]:List Int).length) (cn fun y5 TF=>jc (fb (NL TF) (cI y1 y2 y3)) (jz 41 5 (jg (by decide:2=([1,1]:List Int).length) (cn fun y6 bZ=>jc (fb (Gu bZ) (cH y1 y2 y3)) (jz 47 6 (jg (by decide:2=([1,1]:List Int).length) (cn fun y7 bY=>jc (fb (Gu bY) (cG y1 y2 y3)) (jz 53 7 (jg (by decide:2=([3,0]:List Int).length) (cn fun y8 bX=>jc (fb (ES.argsLe (ds:=[.agg 5 (L1 [.i y3.cells,.i y3.symbols,.ints y3.values,.sl 1 y3.nbrs.length (Aw A8 y3.nbrs),.nils]),.ints ([3,0]:List Int),.i 4]) (Gu bX) ⟨(AS.aggL (l:=[.i y3.cells,.i y3.symbols,.ints y3.values,.sl 1 y3.nbrs.length (Aw A8 y3.nbrs),.nils]) (l':=[.i y3.cells,.i y3.symbols,.ints y3.values,.sl 1 y3.nbrs.length (Aw A8 y3.nbrs),.sl 9 (([]:List AC).length) (Aw AH ([]:List AC))]) rfl ⟨BQ,BQ,BQ,BQ,(AS.sl_nil _ _),trivial⟩),BQ,BQ,trivial⟩) (cF y1 y2 y3)) (jz 59 8 (jg (by decide:2=([1,3]:List Int).length) (cn fun y9 bW=>jc (fb (NL bW) (cE y1 y2 y3)) (jz 65 9 (jg (by decide:2=([1,1]:List Int).length) (jz 66 10 (jg (by decide:1=([2]:List Int).length) (cn fun fA be=>jc (fb (Ud be) (Pu y1 y2 y3)) (cn fun ew bc=>jc (sb [.agg 5 (L1 [.i 0,.i 0,.nils,.nils,.nils]),.nils,.i 1] (OJ bc) (Pu y1 y2 y3) ⟨(Ar.dle (by kernel_rfl) (AS.aggL (l:=[.i 0,.i 0,.nils,.nils,.nils]) (l':=[.i 0,.i 0,.ints ([]:List Int),.sl 1 (([]:List (List Int)).length) (Aw A8 ([]:List (List Int))),.sl 9 (([]:List AC).length) (Aw AH ([]:List AC))]) rfl ⟨BQ,BQ,AS.ints_nil,(AS.sl_nil _ _),(AS.sl_nil _ _),trivial⟩)),Ar.nils,Ar.plain (by kernel_rfl),trivial⟩) (cn fun Yi ba=>jc (sb [.agg 5 (L1 (AD y2)),.msl 11 1 0 2,.i 1] (OJ ba) (cD y1 y2 y3) ⟨Ar.plain (by kernel_rfl),Ar.ints rfl (by decide:2=([1,2]:List Int).length),Ar.plain (by kernel_rfl),trivial⟩) (bj 82 (fun c0=>bj 85 (fun c1=>bj 89 (fun c2=>bj 93 (fun c3=>bj 97 (fun c4=>bj 101 (fun c5=>bj 105 (fun c6=>bj 109 (fun c7=>bj 113 (fun c8=>bn (fun c9=>rO (jc (fb (Ky A1) []) (jc (fb (Ky CF) []) (jc (fb (Ky TH) []) (jt (jt (jt (jt (jz 29 3 (jg (by decide:3=([1,3,7]:List Int).length) (jc (fb (Gu TG) (cJ y1 y2 y3)) (jz 35 4 (jg (by decide:3=([1,3,7]:List Int).length) (jc (fb (NL TF) (cI y1 y2 y3)) (jz 41 5 (jg (by decide:2=([1,1]:List Int).length) (jc (fb (Gu bZ) (cH y1 y2 y3)) (jz 47 6 (jg (by decide:2=([1,1]:List Int).length) (jc (fb (Gu bY) (cG y1 y2 y3)) (jz 53 7 (jg (by decide:2=([3,0]:List Int).length) (jc (fb (ES.argsLe (ds:=[.agg 5 (L1 [.i y3.cells,.i y3.symbols,.ints y3.values,.sl 1 y3.nbrs.length (Aw A8 y3.nbrs),.nils]),.ints ([3,0]:List Int),.i 4]) (Gu bX) ⟨(AS.aggL (l:=[.i y3.cells,.i y3.symbols,.ints y3.values,.sl 1 y3.nbrs.length (Aw A8 y3.nbrs),.nils]) (l':=[.i y3.cells,.i y3.symbols,.ints y3.values,.sl 1 y3.nbrs.length (Aw A8 y3.nbrs),.sl 9 (([]:List AC).length) (Aw AH ([]:List AC))]) rfl ⟨BQ,BQ,BQ,BQ,(AS.sl_nil _ _),trivial⟩),BQ,BQ,trivial⟩) (cF y1 y2 y3)) (jz 59 8 (jg (by decide:2=([1,3]:List Int).length) (jc (fb (NL bW) (cE y1 y2 y3)) (jz 65 9 (jg (by decide:2=([1,1]:List Int).length) (jz 66 10 (jg (by decide:1=([2]:List Int).length) (jc (fb (Ud be) (Pu y1 y2 y3)) (jc (sb [.agg 5 (L1 [.i 0,.i 0,.nils,.nils,.nils]),.nils,.i 1] (OJ bc) (Pu y1 y2 y3) ⟨(Ar.dle (by kernel_rfl) (AS.aggL (l:=[.i 0,.i 0,.nils,.nils,.nils]) (l':=[.i 0,.i 0,.ints ([]:List Int),.sl 1 (([]:List (List Int)).length) (Aw A8 ([]:List (List Int))),.sl 9 (([]:List AC).length) (Aw AH ([]:List AC))]) rfl ⟨BQ,BQ,AS.ints_nil,(AS.sl_nil _ _),(AS.sl_nil _ _),trivial⟩)),Ar.nils,Ar.plain (by kernel_rfl),trivial⟩) (jc (sb [.agg 5 (L1 (AD y2)),.msl 11 1 0 2,.i 1] (OJ ba) (cD y1 y2 y3) ⟨Ar.plain (by kernel_rfl),Ar.ints rfl (by decide:2=([1,2]:List Int).length),Ar.plain (by kernel_rfl),trivial⟩) (jb 79 c9 (jb 82 c0 (jb 85 c1 (jb 89 c2 (jb 93 c3 (jb 97 c4 (jb 101 c5 (jb 105 c6 (jb 109 c7 (jb 113 c8 (cn fun eh zW=>jc (sb [.ints y4.1,.msl 12 1 0 3] (IX zW) (zAO y1 y2 y3) ⟨Ar.plain (by kernel_rfl),Ar.ints rfl (by decide:3=([1,2,4]:List Int).length),trivial⟩) (bi 122 (cn fun eZ zV=>jc (sb [.ints y5.1,.msl 13 1 0 2] (IX zV) (zAN y1 y2 y3) ⟨Ar.plain (by kernel_rfl),Ar.ints rfl (by decide:2=([0,0]:List Int).length),trivial⟩) (bi 127 (cn fun eY zU=>jc (sb [.ints y6.1,.msl 14 1 0 2] (IX zU) (zAS y1 y2 y3) ⟨Ar.plain (by kernel_rfl),Ar.ints rfl (by decide:2=([1,1]:List Int).length),trivial⟩) (bi 132 (cn fun eX zT=>jc (sb [.ints y7.1,.msl 15 1 0 2] (IX zT) (zAR y1 y2 y3) ⟨Ar.plain (by kernel_rfl),Ar.ints rfl (by decide:2=([0,0]:List Int).length),trivial⟩) (bi 137 (cn fun eW zS=>jc (sb [.ints y8.1,.msl 16 1 0 2] (IX zS) (zAQ y1 y2 y3) ⟨Ar.plain (by kernel_rfl),Ar.ints rfl (by decide:2=([0,0]:List Int).length),trivial⟩) (bi 142 (cn fun eV zR=>jc (sb [.ints y9.1,.msl 17 1 0 1] (IX zR) (zAP y1 y2 y3) ⟨Ar.plain (by kernel_rfl),Ar.ints rfl (by decide:1=([0]:List Int).length),trivial⟩) (lE AE [0] [])) (lE AE [0] []))) (lE AE [0] []))) (lE AE [0] []))) (lE AE [0] []))) (lE AE [0] [])))))))))))))))))))))))))))))))))))))))))))))) (fun c9=>rO (jc (fb (Ky A1) []) (jc (fb (Ky CF) []) (jc (fb (Ky TH) []) (jt (jt (jt (jt (jz 29 3 (jg (by decide:3=([1,3,7]:List Int).length) (jc (fb (Gu TG) (cJ y1 y2 y3)) (jz 35 4 (jg (by decide:3=([1,3,7]:List Int).length) (jc (fb (NL TF) (cI y1 y2 y3)) (jz 41 5 (jg (by decide:2=([1,1]:List Int).length) (jc (fb (Gu bZ) (cH y1 y2 y3)) (jz 47 6 (jg (by decide:2=([1,1]:List Int).length) (jc (fb (Gu bY) (cG y1 y2 y3)) (jz 53 7 (jg (by decide:2=([3,0]:List Int).length) (jc (fb (ES.argsLe (ds:=[.agg 5 (L1 [.i y3.cells,.i y3.symbols,.ints y3.values,.sl 1 y3.nbrs.length (Aw A8 y3.nbrs),.nils]),.ints ([3,0]:List Int),.i 4]) (Gu bX) ⟨(AS.aggL (l:=[.i y3.cells,.i y3.symbols,.ints y3.values,.sl 1 y3.nbrs.length (Aw A8 y3.nbrs),.nils]) (l':=[.i y3.cells,.i y3.symbols,.ints y3.values,.sl 1 y3.nbrs.length (Aw A8 y3.nbrs),.sl 9 (([]:List AC).length) (Aw AH ([]:List AC))]) rfl ⟨BQ,BQ,BQ,BQ,(AS.sl_nil _ _),trivial⟩),BQ,BQ,trivial⟩) (cF y1 y2 y3)) (jz 59 8 (jg (by decide:2=([1,3]:List Int).length) (jc (fb (NL bW) (cE y1 y2 y3)) (jz 65 9 (jg (by decide:2=([1,1]:List Int).length) (jz 66 10 (jg (by decide:1=([2]:List Int).length) (jc (fb (Ud be) (Pu y1 y2 y3)) (jc (sb [.agg 5 (L1 [.i 0,.i 0,.nils,.nils,.nils]),.nils,.i 1] (OJ bc) (Pu y1 y2 y3) ⟨(Ar.dle (by kernel_rfl) (AS.aggL (l:=[.i 0,.i 0,.nils,.nils,.nils]) (l':=[.i 0,.i 0,.ints ([]:List Int),.sl 1 (([]:List (List Int)).length) (Aw A8 ([]:List (List Int))),.sl 9 (([]:List AC).length) (Aw AH ([]:List AC))]) rfl ⟨BQ,BQ,AS.ints_nil,(AS.sl_nil _ _),(AS.sl_nil _ _),trivial⟩)),Ar.nils,Ar.plain (by kernel_rfl),trivial⟩) (jc (sb [.agg 5 (L1 (AD y2)),.msl 11 1 0 2,.i 1] (OJ ba) (cD y1 y2 y3) ⟨Ar.plain (by kernel_rfl),Ar.ints rfl (by decide:2=([1,2]:List Int).length),Ar.plain (by kernel_rfl),trivial⟩) (jb 79 c9 (jb 82 c0 (jb 85 c1 (jb 89 c2 (jb 93 c3 (jb 97 c4 (jb 101 c5 (jb 105 c6 (jb 109 c7 (jb 113 c8 (lE AE [0] []))))))))))))))))))))))))))))))))))))))))))))) (fun _=>lE AE [0] [])) (fun _=>lE AE [0] [])) (fun _=>lE AE [0] [])) (fun _=>lE AE [0] [])) (fun _=>lE AE [0] [])) (fun _=>lE AE [0] [])) (fun _=>lE AE [0] [])) (fun _=>lE AE [0] [])) (fun _=>lE AE [0] [])))))))))))))))))))))))))))))))))
def lz (n:Nat) (q:AA) (pos cells:List Int) (level:Int):Option Bool:=
 (Mr n).bind fun y1=>
  bif (!y1) then
   some false
  else
   (OL n q pos).bind fun y2=>
    bif (!y2) then
     some true
    else
     bif (decide ((cells.length:Int)>40)) then
      some true
     else
      (J2 n q pos level).bind fun y3=>
       (Ua n q pos level).bind fun y4=>
        (OX n q pos cells level).bind fun y5=>
         (YX n q pos cells level).bind fun y6=>
          (EP n y3.1 y4.1).bind fun y7=>
           bif y7 then
            bif (y3.2==y4.2) then
             (EP n y5.1 y6.1).bind fun y8=>
              bif y8 then
               some (y5.2==y6.2)
              else
               some false
            else
             some false
           else
            some false
def az (n:Nat) (q:AA) (pos cells:List Int) (level:Int):Option Bool:=lz n q pos cells level
theorem yK {n:Nat} {q:AA} {pos cells:List Int} {level:Int} {r:Bool} (h:az n q pos cells level=some r):EQ 4 [.agg 5 (L1 (AD q)),.ints pos,.ints cells,.i level] [] (.bool r) [] true:=by
 unfold az lz at h;refine ot Tryz.func4 fun B N=>?_
 revert r;apply gO;exact cf iB [some (.cells (AD q))] fun _=>bi 18 (lE AE [8] []) (cf oO [some (.cells (AD q))] fun _=>bi 22 (lE AE [8] []) (bi 26 (lE AE [8] []) (cf Gu [some (.cells (AD q))] fun _=>cf zEh [some (.cells (AD q))] fun _=>cf Ud [some (.cells (AD q))] fun _=>cf zEk [some (.cells (AD q))] fun _=>cf IX [some (.cells (AD q))] fun _=>bi 60 (bi 64 (cf IX [some (.cells (AD q))] fun _=>bi 69 (lE AE [8] []) (lE AE [8] [])) (lE AE [8] [])) (lE AE [8] []))))
def ly (n:Nat) (q:AA) (pos:List Int) (level:Int):Option Bool:=
 (Mr n).bind fun y1=>
  bif (!y1) then
   some false
  else
   (OL n q pos).bind fun y2=>
    bif (!y2) then
     some true
    else
     (PL n q pos level).bind fun y3=>
      (Sl n q pos level).bind fun y4=>
       (OK n q pos level).bind fun y5=>
        (Tt n q pos level).bind fun y6=>
         (EP n y3.1 y4.1).bind fun y7=>
          bif y7 then
           bif (y3.2==y4.2) then
            bif (y5.1==y6.1) then
             some (y5.2==y6.2)
            else
             some false
           else
            some false
          else
           some false
def ay (n:Nat) (q:AA) (pos:List Int) (level:Int):Option Bool:=ly n q pos level
theorem yI {n:Nat} {q:AA} {pos:List Int} {level:Int} {r:Bool} (h:ay n q pos level=some r):EQ 5 [.agg 5 (L1 (AD q)),.ints pos,.i level] [] (.bool r) [] true:=by
 unfold ay ly at h;refine ot Tryz.func5 fun B N=>?_
 revert r;apply gO;exact cf iB [some (.cells (AD q))] fun _=>bi 16 (lE AE [6] []) (cf oO [some (.cells (AD q))] fun _=>bi 20 (lE AE [6] []) (cf NL [some (.cells (AD q))] fun _=>cf xG [some (.cells (AD q))] fun _=>cf OJ [some (.cells (AD q))] fun _=>cf zCh [some (.cells (AD q))] fun _=>cf IX [some (.cells (AD q))] fun _=>bi 51 (bi 55 (bi 60 (lE AE [6] []) (lE AE [6] [])) (lE AE [6] [])) (lE AE [6] [])))
end Go.Proofs.YtekkngkphejfcaaGreatDoor
namespace Go.Proofs.YtekkngkphejfcaaGreatDoor
open Go.RowKit
section
variable {q:AA} {pos cells:List Int} {level:Int}
theorem rl:Ev Mr true:=⟨300,fun n hn=>by
 obtain ⟨k,rfl⟩: ∃ k,n=k+300:=⟨n-300,by omega⟩
 show Mr (k+300)=some true
 kernel_rfl⟩
theorem mA {n:Nat -> Option Bool} {f:Nat -> Option Bool} (h: ∀ m,n m=(Mr m).bind fun y1=>bif (!y1) then some false else (OL m q pos).bind fun y2=>bif (!y2) then some true else f m) (hf:Ev f true):Ev n true:=by
 obtain ⟨N1,h1⟩:=rl;obtain ⟨N2,h2⟩:=hf;refine ⟨max (max N1 N2) (q.cons.length+1),fun m hm=>?_⟩;obtain ⟨b,hb⟩:=zCy (q:=q) (pos:=pos) (n:=m) (by omega);rw [h m,h1 m (by omega),zA9]
 show ((OL m q pos).bind fun y2=>bif (!y2) then some true else f m)=_
 unfold OL dU;rw [hb,zA9];cases b with
 | false=>rfl
 | true=>
  rw [zBA,zA9];cases decide ((q.cons.length:Int)<=100)
  ·rfl
  ·exact h2 m (by omega)
theorem ZL {l:List Int} (hl:l.length<=LB):Ev (fun n=>EP n l l) true:=⟨l.length+1,fun n hn=>by show EP n l l=_;rw [ZM hl (by omega),zBC rfl]⟩
theorem yJ (q:AA) (pos cells:List Int) (level:Int) (hF:CP q) (hl:pos.length<=LB) (hc:cells.length<=LB):Ev (fun n=>az n q pos cells level) true:=by
 refine mA (q:=q) (pos:=pos) (f:=fun n=>bif (decide ((cells.length:Int)>40)) then some true else
  (J2 n q pos level).bind fun y3=>(Ua n q pos level).bind fun y4=>(OX n q pos cells level).bind fun y5=>(YX n q pos cells level).bind fun y6=>
   (EP n y3.1 y4.1).bind fun y7=>bif y7 then (bif (y3.2==y4.2) then (EP n y5.1 y6.1).bind fun y8=>bif y8 then some (y5.2==y6.2) else some false else some false) else some false) (fun n=>rfl) ?_
 by_cases ns:(cells.length:Int)>40
 ·exact Ev.now fun n=>by rw [zBC ns];rfl
 refine Ev.eq ?_ (fun n=>by rw [zAA ns,zAD]);obtain ⟨a,a1,a2⟩:=pw (level:=level) hF hl;obtain ⟨b,b1,b2⟩:=zEi (level:=level) hF hl;obtain ⟨c,c1,c2⟩:=p8 (level:=level) hF hl hc;obtain ⟨d,d1,d2⟩:=zEm (level:=level) hF hl hc;have e1:=a2.uniq hF b2;have e2:=c2.uniq hF d2;subst e1 e2;refine Ev.bind a1 (Ev.bind b1 (Ev.bind c1 (Ev.bind d1 (Ev.bind (ZL (zBO (a2.len hF) (by decide))) ?_))));refine Ev.eq (Ev.bind (ZL (zBO (c2.len hF) (by decide))) (b:=fun n y8=>bif y8 then some (c.2==c.2) else some false) (Ev.now fun n=>?_)) (fun n=>?_)
 ·rw [zBA,zFW]
 ·rw [zBA,zFW,zBA]
theorem yH (q:AA) (pos:List Int) (level:Int) (hF:CP q) (hl:pos.length<=LB):Ev (fun n=>ay n q pos level) true:=by
 refine mA (q:=q) (pos:=pos) (f:=fun n=>(PL n q pos level).bind fun y3=>(Sl n q pos level).bind fun y4=>(OK n q pos level).bind fun y5=>(Tt n q pos level).bind fun y6=>
  (EP n y3.1 y4.1).bind fun y7=>bif y7 then (bif (y3.2==y4.2) then (bif (y5.1==y6.1) then some (y5.2==y6.2) else some false) else some false) else some false) (fun n=>rfl) ?_
 obtain ⟨a,a1,a2⟩:=xF (level:=level) hF hl;obtain ⟨b,b1,b2⟩:=xH (level:=level) hF hl;obtain ⟨c,c1,c2⟩:=zCg (level:=level) hF hl;obtain ⟨d,d1,d2⟩:=zCi (level:=level) hF hl;have e1:=a2.uniq b2;have e2:=c2.uniq hF d2;subst e1 e2
 have Kt:a.1.length<=LB:=by
  rcases a2 with ⟨_,h⟩ | ⟨_,_,h⟩ | ⟨_,_,_,h,_⟩
  ·rw [h];exact zE6 _
  ·rw [h];exact zE6 _
  ·exact zBO h (by decide)
 refine Ev.bind a1 (Ev.bind b1 (Ev.bind c1 (Ev.bind d1 (Ev.bind (ZL Kt) (Ev.now fun n=>?_)))));rw [zBA,zFW,zBA,zFW,zBA,zFW]
end
end Go.Proofs.YtekkngkphejfcaaGreatDoor
namespace Go.Proofs.YtekkngkphejfcaaGreatDoor
abbrev zF8:=@Nat.zero_lt_one
end Go.Proofs.YtekkngkphejfcaaGreatDoor
namespace Go.Proofs.YtekkngkphejfcaaGreatDoor
open Go.ChangeShapes Go.WideShapes Go.ChangeAt Go.RowKit
def K8 (w:World) (cs:List Value) (l:List DV):Prop:=cs.length=l.length/\ ∀ j,j<l.length -> AQ (fun _=>False) w (l.getD j .any) [] (cs.getD j undef)
def Rd (P:Program) (t:TypeId) (m:Nat) {α:Type} (c:α -> List DV):Prop:=(∀ x,(c x).length=m)/\ P.cellsOf t=m/\ ∀ {H:Type} (enc:TypeId×Value -> H) (w:World) (EC:Nat) (cs:List Value) (x:DataW H×List MemPlace),DataW.trod enc P w 0 (fun _=>true) true EC t cs=some x -> (∀ n∈x.1.weights P t,n<=reachBytes) -> ∃ y:α,K8 w cs (c y)
theorem fN {H:Type} {P:Program} {e:TypeId}: ∀ {l:List (DataW H)} {d:DataW H} {n:Nat},d∈l -> n∈d.weights P e -> n∈DataW.weightsAll P e l
 | [],_,_,h,_=>by cases h
 | a::l,d,n,h,hn=>by
  unfold DataW.weightsAll;rcases zCB.1 h with rfl | h
  ·exact zCO _ hn
  ·exact zDB _ (fN h hn)
section
variable {P:Program} {t e:TypeId} {m:Nat}
theorem K8.one {w:World} {v:Value} {d:DV} (h:AQ (fun _=>False) w d [] v):K8 w [v] [d]:=⟨rfl,fun j hj=>by
 have:j=0:=by simpa using hj
 subst this;exact h⟩
theorem K8.app {w:World} {cs E9:List Value} {l l':List DV} (h:K8 w cs l) (h':K8 w E9 l'):K8 w (cs++E9) (l++l'):=by
 refine ⟨by simp [h.1,h'.1],fun j hj=>?_⟩;rcases zFQ j l.length with hl | hl
 ·have:=h.2 j hl;have hc:j<cs.length:=by rw [h.1];exact hl
  simp only [u8] at this ⊢;rw [zBq hl,zBq hc];exact this
 ·have:=h'.2 (j-l.length) (by simp at hj;omega);simp only [u8] at this ⊢;rw [zCF hl,zCF (by rw [h.1];exact hl),h.1];exact this
theorem Rd.int {k:IntKind} (ht:P.underlying t=some (.int k)) (hc:P.cellsOf t=1):Rd P t 1 (fun n:Int=>[.int k n]):=⟨fun _=>rfl,hc,fun enc w EC cs x h hw=>by
 obtain ⟨n,rfl,_⟩:=DataW.trod_int ht h;exact ⟨n,.one rfl⟩⟩
theorem pK {w:World} {a:Addr} {n:Nat} {cs:List Value} (h:w.cells? 0 a n=some cs):cs.length=n/\ ∀ j,j<n -> w.cell? (a.add j)=some (cs.getD j undef):=by
 unfold World.cells? at h;rw [zAE (zE6 _)] at h;have hl:cs.length=n:=by simpa using Lib.mapM_length h
 refine ⟨hl,fun j hj=>?_⟩;obtain ⟨b,h1,h2⟩:=Lib.mapM_at h j j (by simp [hj]);rw [h2,u8,h1];rfl
theorem zEp {w:World} {a:Addr} {v:Value} (h:w.cell? a=some v): ∃ b o,a=⟨b,o,none⟩:=by
 obtain ⟨b,o,r⟩:=a;cases r with
 | none=>exact ⟨b,o,rfl⟩
 | some r=>
  unfold World.cell? at h;split at h
  ·simp at h
  ·cases h
theorem qE (b o x:Nat):(⟨b,o,none⟩:Addr).add x=⟨b,o+x,none⟩:=by
 unfold Addr.add;split
 ·rename_i e;subst e;rfl
 ·rfl
theorem Rd.row {α:Type} [Inhabited α] {c:α -> List DV} (ht:P.underlying t=some (.slice e)) (hb:0<P.bytesOf e) (hm:0<m) (he:Rd P e m c) {H:Type} (enc:TypeId×Value -> H) (w:World) (EC:Nat) (cs:List Value) (x:DataW H×List MemPlace) (h:DataW.trod enc P w 0 (fun _=>true) true EC t cs=some x) (hw: ∀ n∈x.1.weights P t,n<=reachBytes):
 ∃ (L:List α) (a:Option Addr) (cap:Nat),cs= [.slice a L.length cap]/\ L.length<=cap/\ L.length<=LB/\ ∀ i j,i<L.length -> j<m -> ∃ b o u,a=some ⟨b,o,none⟩/\ w.cell? ⟨b,o+(i*m+j),none⟩=some u/\ AQ (fun _=>False) w ((c (L.getD i default)).getD j .any) [] u:=by
 rcases Deep.open_slice ht h with ⟨rfl,_⟩ | ⟨a,len,cap,m',n,D,Pl,rfl,_,hlc,L5,CB,hx,Tc⟩
 ·exact ⟨[],none,0,rfl,zBa _,zE6 _,fun i j hi=>absurd hi (zBW i)⟩
 ·simp only [zDH] at CB;subst CB;subst hx
  have plain:0<len -> ∃ b o,a=⟨b,o,none⟩:=fun h0=>by
   obtain ⟨E9,h1,_⟩:=Tc 0 (by omega);obtain ⟨g1,g2⟩:=pK h1;have g3:=g2 0 (by rw [he.2.1];exact hm);have e0:(a.add (0*P.cellsOf e)).add 0=a:=by simp [Addr.add]
   rw [e0] at g3;exact zEp g3
  have pick: ∀ i,i<len -> ∃ y:α,∀ j,j<m -> ∃ b o u,a=⟨b,o,none⟩/\ w.cell? ⟨b,o+(i*m+j),none⟩=some u/\ AQ (fun _=>False) w ((c y).getD j .any) [] u:=fun i hi=>by
   obtain ⟨E9,h1,h2⟩:=Tc i (by omega)
   obtain ⟨y,h3,h4⟩:=he.2.2 enc w n E9 _ h2 fun k hk=>hw k (by
    simp only [DataW.weights,ht];refine zCG _ (zCO _ (fN (d:=D i) ?_ hk));exact zFA.2 ⟨i,zBc.2 hi,rfl⟩)
   obtain ⟨g1,g2⟩:=pK h1;obtain ⟨b,o,rfl⟩:=plain (by omega);refine ⟨y,fun j hj=>?_⟩;have g3:=g2 j (by rw [he.2.1];exact hj);refine ⟨b,o,_,rfl,?_,h4 j (by rw [he.1];exact hj)⟩;rw [←g3,he.2.1,qE,qE,zDG]
  have hL: ∃ L:List α,L.length=len/\ ∀ i,i<len -> ∀ j,j<m -> ∃ b o u,a=⟨b,o,none⟩/\ w.cell? ⟨b,o+(i*m+j),none⟩=some u/\ AQ (fun _=>False) w ((c (L.getD i default)).getD j .any) [] u:=by
   refine ⟨(List.range len).map fun i=>if hi:i<len then (pick i hi).choose else default,by simp,fun i hi=>?_⟩
   have:((List.range len).map fun i=>if hi:i<len then (pick i hi).choose else default).getD i default=(pick i hi).choose:=by
    simp [u8,hi]
   rw [this];exact (pick i hi).choose_spec
  obtain ⟨L,rfl,hL⟩:=hL;refine ⟨L,some a,_,rfl,hlc,?_,fun i j hi hj=>?_⟩
  ·have hk:=hw ((L.length+(m'-L.length))*P.bytesOf e) (by
    simp only [DataW.weights,ht,zE4,zFq];exact zC4)
   have h1:=Nat.le_mul_of_pos_right (L.length+(m'-L.length)) hb;have h2:=zBO h1 hk;unfold reachBytes at h2;unfold LB;omega
  ·obtain ⟨b,o,u,g1,g2,g3⟩:=hL i hi j hj;exact ⟨b,o,u,by rw [g1],g2,g3⟩
theorem Rd.rows {α:Type} [Inhabited α] {c:α -> List DV} (ht:P.underlying t=some (.slice e)) (hc:P.cellsOf t=1) (hb:0<P.bytesOf e) (hm:0<m) (he:Rd P e m c):Rd P t 1 (fun L:List α=>[.sl m L.length (Aw c L)]):=⟨fun _=>rfl,hc,fun enc w EC cs x h hw=>by
 obtain ⟨L,a,cap,rfl,h1,h2,h3⟩:=Rd.row ht hb hm he enc w EC cs x h hw;refine ⟨L,K8.one ⟨a,cap,rfl,h1,h2,fun i j hi hj=>?_⟩⟩;obtain ⟨b,o,u,g1,g2,g3⟩:=h3 i j hi hj;exact ⟨b,o,u,g1,fun h=>h,g2,g3⟩⟩
theorem Rd.ints (ht:P.underlying t=some (.slice e)) (hc:P.cellsOf t=1) (hb:0<P.bytesOf e) (he:P.underlying e=some (.int .i64)) (hce:P.cellsOf e=1):Rd P t 1 A8:=⟨fun _=>rfl,hc,fun enc w EC cs x h hw=>by
 obtain ⟨L,a,cap,rfl,h1,h2,h3⟩:=Rd.row ht hb (zF8) (Rd.int he hce) enc w EC cs x h hw;refine ⟨L,.one ⟨a,cap,rfl,h1,h2,fun j hj=>?_⟩⟩;obtain ⟨b,o,u,g1,g2,g3⟩:=h3 j 0 hj zF8;refine ⟨b,o,g1,fun h=>h,?_⟩;have:u= .int .i64 (L.getD j 0):=g3;rw [←this,←g2];simp⟩
def EF (P:Program):List Field -> Nat -> Nat -> {α:Type} -> (α -> List DV) -> Prop:=fun fs o n {α} c=>∀ (H:Type) (enc:TypeId×Value -> H) (w:World) (EC:Nat) (cs:List Value) (xs:List (DataW H×List MemPlace)),cs.length=n -> (fs.mapM fun f=>DataW.trod enc P w 0 (fun _=>true) true EC f.type ((cs.drop f.offset).take (P.cellsOf f.type)))=some xs -> (∀ k∈DataW.weightsEach P (fs.map (·.type)) (xs.map (·.1)),k<=reachBytes) -> ∃ y:α,K8 w (cs.drop o) (c y)
theorem EF.nil {o n:Nat} (ho:n=o):EF P [] o n (fun _:Unit=>[]):=fun _ enc w EC cs xs hl _ _=>⟨(),by rw [List.drop_of_length_le (by omega)];exact ⟨rfl,fun j hj=>absurd hj (zBW j)⟩⟩
theorem EF.cons {α β:Type} {c:α -> List DV} {c':β -> List DV} {f:Field} {fs:List Field} {o n:Nat} (ho:f.offset=o) (hf:Rd P f.type m c) (hs:EF P fs (o+m) n c'):EF P (f::fs) o n (fun x:α×β=>c x.1++c' x.2):=fun _ enc w EC cs xs hl h hw=>by
 rw [List.mapM_cons] at h;obtain ⟨a,ha,h⟩:=Option.bind_eq_some_iff.1 h;obtain ⟨ys,zQ,e⟩:=Option.bind_eq_some_iff.1 h;cases e;obtain ⟨y,h1⟩:=hf.2.2 enc w EC _ a ha fun k hk=>hw k (by simp only [zFa,DataW.weightsEach];exact zCO _ hk)
 obtain ⟨z,h2⟩:=hs _ enc w EC cs ys hl zQ fun k hk=>hw k (by simp only [zFa,DataW.weightsEach];exact zDB _ hk)
 refine ⟨(y,z),?_⟩
 have:cs.drop o=(cs.drop f.offset).take (P.cellsOf f.type)++cs.drop (o+m):=by
  rw [ho,hf.2.1,←List.drop_drop];exact (List.take_append_drop m (cs.drop o)).symm
 rw [this];exact h1.app h2
theorem Rd.struct {α β:Type} {c:α -> List DV} {c':β -> List DV} {fs:Array Field} (ht:P.underlying t=some (.struct fs)) (hc:P.cellsOf t=m) (hs:EF P fs.toList 0 m c) (g:α -> β) (hg: ∀ x,c x=c' (g x)) (hm: ∀ x,(c' x).length=m):Rd P t m c':=⟨hm,hc,fun enc w EC cs x h hw=>by
 cases EC with
 | zero=>simp [DataW.trod] at h
 | succ EC=>
  unfold DataW.trod at h;rw [ht] at h;simp only at h;split at h
  ·rename_i hl;obtain ⟨xs,bk,e⟩:=Option.map_eq_some_iff.1 h;subst e;obtain ⟨y,hy⟩:=hs _ enc w EC cs xs (by rw [hl,hc]) bk fun k hk=>hw k (by simp only [DataW.weights,ht];exact hk)
   exact ⟨g y,by rw [←hg];exact hy⟩
  ·cases h⟩
end
end Go.Proofs.YtekkngkphejfcaaGreatDoor
namespace Go.Proofs.YtekkngkphejfcaaGreatDoor
abbrev zF0:=@Go.ChangeShapes.trodAll_cons
end Go.Proofs.YtekkngkphejfcaaGreatDoor
namespace Go.Proofs.YtekkngkphejfcaaGreatDoor
open Go.ChangeShapes Go.WideShapes Go.ChangeAt Go.RowKit
def Hb (P:Program) (t:TypeId) {α:Type} (d:α -> DV):Prop:=∀ {H:Type} (enc:TypeId×Value -> H) (w:World) (DC:Nat) (v:Value) (x:DataW H) (ps:List MemPlace),Value.okWide P w .any DC t v -> DataW.Trod enc P w 0 (fun _=>true) true t v x ps -> (∀ n∈x.weights P t,n<=reachBytes) -> ∃ y:α,AQ (fun _=>False) w (d y) [] v
section
variable {P:Program} {t e:TypeId}
theorem Hb.int {k:IntKind} (ht:P.underlying t=some (.int k)):Hb P t (fun n:Int=>.int k n):=fun enc w DC v x ps B6 _ _=>by
 obtain ⟨n,rfl⟩:=okWide_int ht B6;exact ⟨n,rfl⟩
theorem Hb.one {α:Type} {c:α -> List DV} (ht:P.underlying t=some (.slice e)) (h:Rd P t 1 c):Hb P t (fun x=>(c x).getD 0 .any):=fun enc w DC v x ps B6 ⟨EC,hx⟩ hw=>by
 obtain ⟨a,len,cap,rfl⟩:=okWide_slice ht B6;obtain ⟨y,h1,h2⟩:=h.2.2 enc w EC _ _ hx hw;exact ⟨y,by simpa [Value.cells] using h2 0 (by rw [h.1];exact zF8)⟩
theorem Hb.agg {α:Type} {m:Nat} {c:α -> List DV} {fs:Array Field} (ht:P.underlying t=some (.struct fs)) (h:Rd P t m c):Hb P t (fun x=>.agg m (L1 (c x))):=fun enc w DC v x ps B6 ⟨EC,hx⟩ hw=>by
 obtain ⟨cs,rfl,D8⟩:=okWide_struct ht B6;obtain ⟨y,h1,h2⟩:=h.2.2 enc w EC _ _ hx hw;have hm:(c y).length=m:=h.1 y
 have A9:cs.size=m:=by
  have:cs.toList.length=(c y).length:=h1;simpa [hm] using this
 refine ⟨y,cs,rfl,A9,fun j hj=>?_⟩;have:=h2 j (by rw [hm];exact hj);refine ⟨cs[j]'(by omega),by simp [A9,hj],?_⟩
 have e:(Value.agg cs).cells.toList.getD j undef=cs[j]'(by omega):=by
  show cs.toList.getD j undef=_
  simp [u8,A9,hj]
 rw [e] at this;exact this
def GY (P:Program) (ts:List TypeId) {α:Type} (ds:α -> List DV):Prop:=∀ {H:Type} (enc:TypeId×Value -> H) (w:World) (DC:Nat) (vs:List Value) (xs:List (DataW H)) (ps:List MemPlace),(∀ (j:Nat) t v,ts[j]? =some t -> vs[j]? =some v -> Value.okWide P w .any DC t v) -> DataW.TrodAll enc P w 0 (fun _=>true) true ts vs xs ps -> (∀ n∈DataW.weightsEach P ts xs,n<=reachBytes) -> ∃ y:α,(ds y).length=vs.length/\ ∀ j,j<vs.length -> AQ (fun _=>False) w ((ds y).getD j .any) [] (vs.getD j undef)
theorem GY.nil:GY P [] (fun _:Unit=>[]):=fun enc w DC vs xs ps _ h _=>by
 obtain ⟨rfl,_,_⟩:=trodAll_nil h;exact ⟨(),rfl,fun j hj=>absurd hj (zBW j)⟩
theorem GY.cons {α β:Type} {d:α -> DV} {ds:β -> List DV} {ts:List TypeId} (h:Hb P t d) (hs:GY P ts ds):GY P (t::ts) (fun x:α×β=>d x.1::ds x.2):=fun enc w DC vs xs ps B6 h0 hw=>by
 obtain ⟨v,Bz,x,fB,p,q,rfl,rfl,rfl,h1,h2⟩:=zF0 h0;obtain ⟨y,hy⟩:=h enc w DC v x p (B6 0 t v rfl rfl) h1 fun n hn=>hw n (by simp only [DataW.weightsEach];exact zCO _ hn)
 obtain ⟨z,TE,zP⟩:=hs enc w DC Bz fB q (fun j t' v' a b=>B6 (j+1) t' v' (by simpa using a) (by simpa using b)) h2 fun n hn=>hw n (by simp only [DataW.weightsEach];exact zDB _ hn)
 refine ⟨(y,z),by simp [TE],fun j hj=>?_⟩;cases j with
 | zero=>exact hy
 | succ j=>exact zP j (by simpa using hj)
theorem fZ {H:Type} {enc:TypeId×Value -> H} (hl:laidOutB P=true) {W W':World} (hE:A4 W W'): ∀ {ts:List TypeId} {vs:List Value} {ds:List (DataW H)} {ps:List MemPlace},(∀ t∈ts,P.readableRec t=true/\ t<P.types.size) -> DataW.TrodAll enc P W 0 (fun _=>true) true ts vs ds ps -> (∀ x∈ps,x.block<W.heap.size) -> DataW.TrodAll enc P W' 0 (fun b=>decide (b<W.heap.size)) true ts vs ds ps
 | [],_,_,_,_,h,_=>by
  obtain ⟨rfl,rfl,rfl⟩:=trodAll_nil h;rfl
 | t::ts,_,_,_,hr,h,AP=>by
  obtain ⟨v,Bz,x,fB,p,q,rfl,rfl,rfl,h1,h2⟩:=zF0 h;exact ⟨p,q,Below.trod hl (hr t (by simp)).1 (hr t (by simp)).2 h1 hE fun x hx=>AP x (zCO _ hx),fZ hl hE (fun t ht=>hr t (by simp [ht])) h2 fun x hx=>AP x (zDB _ hx),rfl⟩
theorem wd {H:Type} {enc:TypeId×Value -> H} {f:Func} {s:ChangeSpec} {W W':World} {args:Array Value} {ds gs:List (DataW H)} {JC:List MemPlace} {tb:TypeId} (hl:laidOutB P=true) (hr: ∀ t∈f.params.toList,P.readableRec t=true/\ t<P.types.size) (hE:A4 W W')
 (hW:DataW.Whole enc P f.params.toList s.vars false W args.toList ds gs JC) (hv:s.vars= []) (hs:s.fn H (ds++gs)= { results:=[.lit (.bool true)],args:=ds }) (bz:f.resultTypes= #[tb]) (bv:P.underlying tb=some .bool):
 s.post enc P f false true false false W args (.bool true) W':=by
 have OH:=hW;have AP:=hW.lt;obtain ⟨p,q,hA,hV,rfl,It,Av⟩:=hW;rw [hv] at hV;obtain ⟨rfl,rfl⟩:=trodVars_none hV;have CU:=fZ hl hE hr hA fun x hx=>AP x (zCO _ hx)
 refine ⟨ds,[],p++[],[],p,[],OH,?_,?_,?_,World.keptBut_mono (fun x hx=>⟨hx,.inr (.inl (by simpa using hx))⟩) (Below.frame hE (· ∈p++[])),fun h=>by cases h⟩
 ·rw [hs,bz];exact trodAll_mk1 (shut_bool bv true)
 ·rw [hs];exact CU
 ·rw [hv,hs];rfl
theorem lx {H:Type} {enc:TypeId×Value -> H} {Γ:A6} {oM:Nat} {f:Func} {s:ChangeSpec} {W:World} {DC:Nat} {args:Array Value} {ds gs:List (DataW H)} {JC:List MemPlace} {tb:TypeId} {α:Type} {dv:α -> List DV} (hl:laidOutB P=true) (hr: ∀ t∈f.params.toList,P.readableRec t=true/\ t<P.types.size)
 (z6:GY P f.params.toList dv) (Er: ∀ (w:World) (y:α),(∀ j,AQ (fun _=>False) w ((dv y).getD j .any) [] (args.getD j undef)) -> ES P Γ oM (dv y) [] (.bool true) [] true)
 (FP: ∀ (j:Nat) t v,f.params[j]? =some t -> args[j]? =some v -> Value.okWide P W .any DC t v) (hW:DataW.Whole enc P f.params.toList s.vars false W args.toList ds gs JC) (hv:s.vars= []) (hs:s.fn H (ds++gs)= { results:=[.lit (.bool true)],args:=ds }) (bz:f.resultTypes= #[tb]) (bv:P.underlying tb=some .bool)
 (A9:(DataW.weightsEach P f.params.toList ds).all (· <=reachBytes)=true) (hg:Γ.gi W):Calls P oM args W fun e W'=>∃ v,e= .returned v/\ s.post enc P f false true false false W args v W':=by
 have OH:=hW;obtain ⟨p,q,hA,hV,rfl,It,Av⟩:=hW
 obtain ⟨y,h1,h2⟩:=z6 enc W DC args.toList ds p (fun j t v a b=>FP j t v (by simpa using a) (by simpa using b)) hA fun n hn=>by
  have:=zBT.1 A9 n hn;simpa using this
 have Ak:(dv y).length=args.size:=by simpa using h1
 have mg: ∀ j,AQ (fun _=>False) W ((dv y).getD j .any) [] (args.getD j undef):=fun j=>by
  rcases zFQ j args.size with hj | hj
  ·have:=h2 j (by simpa using hj);simpa [u8,zFK,hj] using this
  ·have:(dv y).getD j .any= .any:=by rw [u8,zCP (by omega)];rfl
   rw [this];trivial
 refine ((Er W y mg).2 (fun _=>False) [] W args (Po (fun b hb=>hb.elim) hg) ⟨Ak,fun i hi=>?_⟩).mono ?_
 ·exact AQ.out _ (DR (fun b hb=>Od.1 hb) []) (mg i)
 ·rintro e W' ⟨v,rfl,G⟩;obtain ⟨ρ',_,bp,_⟩:=G.ex;have bp:v= .bool true:=bp;subst bp;exact ⟨_,rfl,wd hl hr (G.ext rfl) OH hv hs bz bv⟩
end
end Go.Proofs.YtekkngkphejfcaaGreatDoor
namespace Go.Proofs.YtekkngkphejfcaaGreatDoor
open Go.ChangeShapes Go.WideShapes Go.ChangeAt Go.RowKit
theorem own:ownKnob Tryz.prog.godebug=none:=by kernel_rfl
theorem mB:laidOutB Tryz.prog=true:=by kernel_rfl
theorem zD8:0<Tryz.prog.bytesOf 3:=zE8 (by kernel_rfl)
theorem KQ:Rd Tryz.prog 3 1 (fun n:Int=>[.int .i64 n]):=Rd.int Tryz.underlying3 (by kernel_rfl)
theorem Ro:Rd Tryz.prog 22 1 A8:=Rd.ints Tryz.underlying22 (by kernel_rfl) zD8 Tryz.underlying3 (by kernel_rfl)
theorem ur:Rd Tryz.prog 23 1 (fun L:List (List Int)=>[.sl 1 L.length (Aw A8 L)]):=Rd.rows Tryz.underlying23 (by kernel_rfl) (zE8 (by kernel_rfl)) zF8 Ro
set_option maxRecDepth 100000 in
theorem uu:Rd Tryz.prog 48 9 AH:=by
 refine Rd.struct Tryz.underlying48 (by kernel_rfl)
  (EF.cons rfl KQ<|EF.cons rfl Ro<|EF.cons rfl KQ<|EF.cons rfl KQ<|EF.cons rfl KQ<|EF.cons rfl KQ<|EF.cons rfl Ro<|EF.cons rfl KQ<|EF.cons rfl KQ<|EF.nil rfl)
  (fun x:Int×List Int×Int×Int×Int×Int×List Int×Int×Int×Unit=>(⟨x.1,x.2.1,x.2.2.1,x.2.2.2.1,x.2.2.2.2.1,x.2.2.2.2.2.1,x.2.2.2.2.2.2.1,x.2.2.2.2.2.2.2.1,x.2.2.2.2.2.2.2.2.1⟩:AC)) ?_ (fun _=>rfl)
 intro x;rfl
theorem ut:Rd Tryz.prog 24 1 (fun L:List AC=>[.sl 9 L.length (Aw AH L)]):=Rd.rows Tryz.underlying24 (by kernel_rfl) (zE8 (by kernel_rfl)) (by decide) uu
set_option maxRecDepth 100000 in
theorem us:Rd Tryz.prog 26 5 AD:=by
 refine Rd.struct Tryz.underlying26 (by kernel_rfl)
  (EF.cons rfl KQ<|EF.cons rfl KQ<|EF.cons rfl Ro<|EF.cons rfl ur<|EF.cons rfl ut<|EF.nil rfl)
  (fun x:Int×Int×List Int×List (List Int)×List AC×Unit=>(⟨x.1,x.2.1,x.2.2.1,x.2.2.2.1,x.2.2.2.2.1⟩:AA)) ?_ (fun _=>rfl)
 intro x;rfl
theorem iM:Hb Tryz.prog 26 (fun q:AA=>.agg 5 (L1 (AD q))):=Hb.agg Tryz.underlying26 us
theorem iN:Hb Tryz.prog 3 (fun n:Int=>.int .i64 n):=Hb.int Tryz.underlying3
theorem ZQ:Hb Tryz.prog 22 (fun l:List Int=>.ints l):=Hb.one Tryz.underlying22 Ro
theorem CP.of {M:Nat -> Prop} {w:World} {ρ:List AN} {q:AA} {v:Value} (h:AQ M w (.agg 5 (L1 (AD q))) ρ v):CP q:=by
 obtain ⟨cs,_,_,hc⟩:=h
 have row: ∀ {α:Type} [Inhabited α] {m:Nat} {c:α -> List DV} {L:List α} {u:Value},0<m -> AQ M w (.sl m L.length (Aw c L)) ρ u -> ∀ x∈L,∀ j,j<m -> ∃ u,AQ M w ((c x).getD j .any) [] u:=by
  intro α _ m c L u hm ⟨a,cap,_,_,_,hh⟩ x hx j hj;obtain ⟨i,hi,rfl⟩:=zEz hx;obtain ⟨b,o,u,_,_,_,hr⟩:=hh i j hi hj;refine ⟨u,?_⟩;have e:L.getD i default=L[i]:=by simp [hi]
  have hr:AQ M w ((c (L.getD i default)).getD j .any) [] u:=hr;rw [e] at hr;exact hr
 refine ⟨?_,fun r hr=>?_,fun c cm=>?_,fun c cm=>?_⟩
 ·obtain ⟨u,_,h2⟩:=hc 2 (by decide);exact Ni h2
 ·obtain ⟨u,_,h3⟩:=hc 3 (by decide);obtain ⟨u,h⟩:=row (c:=A8) (L:=q.nbrs) zF8 h3 r hr 0 zF8;exact Ni h
 ·obtain ⟨u,_,h4⟩:=hc 4 (by decide);obtain ⟨u,h⟩:=row (c:=AH) (L:=q.cons) (by decide) h4 c cm 1 (by decide);exact Ni h
 ·obtain ⟨u,_,h4⟩:=hc 4 (by decide);obtain ⟨u,h⟩:=row (c:=AH) (L:=q.cons) (by decide) h4 c cm 6 (by decide);exact Ni h
theorem oB:Tryz.prog.globalNamed "math/bits.deBruijn64tab" =some 1:=by kernel_rfl
theorem zCX:(Tryz.prog.globals[1]?).map (·.type)=some 145:=by kernel_rfl
abbrev a7 {H:Type}:List (String×DataW H):=[("math/bits.deBruijn32tab",Rows.laid_math_bits_deBruijn32tab),("math/bits.deBruijn64tab",Rows.laid_math_bits_deBruijn64tab)]
theorem qy {W:World} (h:laidMetH Tryz.prog a7 W):Lib.TabIs Tryz.prog W "math/bits.deBruijn64tab" .u8 (Lib.deBruijn64tab.map Int.ofNat):=
 Lib.tabIs_of_head (rest:=[]) oB zCX Tryz.underlying145 Tryz.underlying5 (by kernel_rfl) (by kernel_rfl) (laidMet.tail (show laidMet Tryz.prog a7 W from h))
theorem f8 {W:World} (h:laidMetH Tryz.prog a7 W):GG.gi W:=by
 have T:=qy h;have c: ∀ j,j<64 -> W.cell? ⟨1,j,none⟩=some (.int .u8 ((Lib.deBruijn64tab.map Int.ofNat).getD j 0)):=fun j hj=>T.cell oB j (by rw [zE4];exact hj)
 refine ⟨fun j hj=>?_,?_⟩
 ·have hj:j<64:=hj;rw [c j hj]
  have:(Lib.deBruijn64tab.map Int.ofNat).getD j 0=((Lib.deBruijn64tab.getD j 0:Nat):Int):=by
   have hl:j<Lib.deBruijn64tab.length:=hj;simp [u8,hl]
  rw [this]
 ·have:=zFS W _ (c 0 (by decide));exact this
def lw (l:List Nat) (o:Obj):Obj:=match o with
 | .cells _ t frozen=>.cells (l.map fun n=>Value.int .u8 (Int.ofNat n)).toArray t frozen
 | o=>o
noncomputable def Pa (os:Os):World:=
 { World.holding Tryz.prog os ⟨#[],#[],[]⟩ with heap:=((World.holding Tryz.prog os ⟨#[],#[],[]⟩).heap.modify 0 (lw Lib.deBruijn32tab)).modify 1 (lw Lib.deBruijn64tab) }
def Li:Value:=.agg #[.int .i64 0,.int .i64 0,.slice none 0 0,.slice none 0 0,.slice none 0 0]
end Go.Proofs.YtekkngkphejfcaaGreatDoor
