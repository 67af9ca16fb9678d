/- Part 4 of 7 of what the proofs of these laws stand on. -/
import Derived.Test.YtekkngkphejfcaaGreatDoorPsC
import Derived.Laws.BitsLemmas
import Derived.Shelf.Sort.Plain
set_option linter.all false
namespace Go.Proofs.YtekkngkphejfcaaGreatDoor
def tb (x:Int) (i:Nat):Bool:=(BitVec.ofInt 64 x).getLsbD i
def zEg (x:Int):Prop:=-9223372036854775808≤x∧x≤9223372036854775807
theorem zER (x:Int):BitVec.ofInt 64 (IntKind.i64.wrap x)=BitVec.ofInt 64 x:=by
 apply BitVec.eq_of_toNat_eq
 rw [BitVec.toNat_ofInt,BitVec.toNat_ofInt,IntKind.wrap_i64]
 congr 1
 omega
theorem zFA (y:BitVec 64):BitVec.ofInt 64 (y.toNat:Int)=y:=by
 rw [BitVec.ofInt_natCast];simp
theorem zVn (x:Int):zEg (IntKind.i64.wrap x):=by
 rw [IntKind.wrap_i64];constructor <;> omega
theorem zAl (op:BinOp) (a b:Int):zEg (bits op .i64 a b):=zVn _
theorem zOd (a b:Int) (i:Nat):tb (bits .or .i64 a b) i=(tb a i||tb b i):=by
 show (BitVec.ofInt 64 (IntKind.i64.wrap ((BitVec.ofInt 64 a||| BitVec.ofInt 64 b).toNat:Int))).getLsbD i=_
 rw [zER,zFA,BitVec.getLsbD_or];rfl
theorem zCJ (a b:Int) (i:Nat):tb (bits .and .i64 a b) i=(tb a i&&tb b i):=by
 show (BitVec.ofInt 64 (IntKind.i64.wrap ((BitVec.ofInt 64 a&&& BitVec.ofInt 64 b).toNat:Int))).getLsbD i=_
 rw [zER,zFA,BitVec.getLsbD_and];rfl
theorem zQ3 {x:Int} {i:Nat} (h:64≤i):tb x i=false:=BitVec.getLsbD_of_ge _ _ h
theorem zAp (a b:Int) (i:Nat):tb (bits .andNot .i64 a b) i=(tb a i&&!tb b i):=by
 show (BitVec.ofInt 64 (IntKind.i64.wrap ((BitVec.ofInt 64 a&&& ~~~ BitVec.ofInt 64 b).toNat:Int))).getLsbD i=_
 rw [zER,zFA,BitVec.getLsbD_and,BitVec.getLsbD_not]
 by_cases h:i<64
 ·simp [h,tb]
 ·have h:64≤i:=by omega
  have:=zQ3 (x:=a) h
  unfold tb at*
  rw [this];simp
theorem zSN (a:Int) {i:Nat} (h:i<64):tb (bits .xor .i64 (-1) a) i= !tb a i:=by
 show (BitVec.ofInt 64 (IntKind.i64.wrap ((BitVec.ofInt 64 (-1) ^^^ BitVec.ofInt 64 a).toNat:Int))).getLsbD i=_
 rw [zER,zFA,BitVec.getLsbD_xor]
 have:BitVec.ofInt 64 (-1)=BitVec.allOnes 64:=by decide
 rw [this,BitVec.getLsbD_allOnes]
 simp [h,tb]
theorem zQ2 (i:Nat):tb 0 i=false:=by
 unfold tb
 rw [show BitVec.ofInt 64 0=0#64 from rfl];simp
theorem tb0 {i:Nat}: ¬ tb 0 i=true:=by rw [zQ2];decide
theorem zHP {x y:Int} (hx:zEg x) (hy:zEg y) (h: ∀ i,i<64→tb x i=tb y i):x=y:=by
 have e:BitVec.ofInt 64 x=BitVec.ofInt 64 y:=BitVec.eq_of_getLsbD_eq fun i hi=>h i hi
 have e2:=congrArg BitVec.toNat e
 rw [BitVec.toNat_ofInt,BitVec.toNat_ofInt] at e2
 unfold zEg at*
 omega
theorem zFK (m i:Nat) (hi:i<64):tb (m:Int) i=m.testBit i:=by
 unfold tb
 rw [BitVec.ofInt_natCast,BitVec.getLsbD_ofNat];simp [hi]
def Sm (k:Nat) (x:Int):Prop:=0≤x∧x<2 ^ k
theorem zCt {k:Nat} (hk:k≤62):(2:Int) ^ k≤4611686018427387904:=by
 have:(2:Nat) ^ k≤2 ^ 62:=Nat.pow_le_pow_right (by decide) hk
 have h:((2 ^ k:Nat):Int)≤((2 ^ 62:Nat):Int):=by exact_mod_cast this
 simpa using h
theorem Sm.in64 {k:Nat} {x:Int} (hk:k≤62) (h:Sm k x):zEg x:=by
 have:=zCt hk
 obtain ⟨h1,h2⟩:=h
 constructor <;> omega
theorem Sm.hi {k:Nat} {x:Int} (h:Sm k x) {i:Nat} (hi:k≤i):tb x i=false:=by
 rcases Nat.lt_or_ge i 64 with h64 | h64
 ·obtain ⟨m,rfl⟩:=Int.eq_ofNat_of_zero_le h.1
  rw [zFK m i h64]
  apply Nat.testBit_lt_two_pow
  have h2:(m:Int)<2 ^ k:=h.2
  have h3:m<2 ^ k:=by exact_mod_cast h2
  exact Nat.lt_of_lt_of_le h3 (Nat.pow_le_pow_right (by decide) hi)
 ·exact zQ3 h64
theorem zV0 {k:Nat} (hk:k≤62) {x:Int} (hx:zEg x) (h: ∀ i,k≤i→i<64→tb x i=false):Sm k x:=by
 have hy:(BitVec.ofInt 64 x).toNat<2 ^ k:=by
  apply Nat.lt_pow_two_of_testBit
  intro i hi
  rcases Nat.lt_or_ge i 64 with h64 | h64
  ·have:=h i hi h64
   unfold tb at this
   rwa [BitVec.getLsbD] at this
  ·exact Nat.testBit_lt_two_pow (Nat.lt_of_lt_of_le (BitVec.isLt _) (Nat.pow_le_pow_right (by decide) h64))
 rw [BitVec.toNat_ofInt] at hy
 have h1:=zCt hk
 have h2:((2 ^ k:Nat):Int)=(2:Int) ^ k:=by simp
 unfold zEg at hx
 unfold Sm
 omega
theorem zVt {s i:Nat} (hi:i<64):tb ((2 ^ s:Nat):Int) i=decide (s=i):=by
 rw [zFK _ _ hi,Nat.testBit_two_pow]
theorem zCA {x:Int} (hx:zEg x):x=0↔∀ i,i<64→tb x i=false:=
 ⟨fun h i _=>by rw [h];exact zQ2 i,fun h=>zHP hx ⟨by decide,by decide⟩ fun i hi=>by rw [h i hi,zQ2]⟩
theorem zB9 {x:Int} (hx:zEg x):x≠0↔∃ i,i<64∧tb x i=true:=by
 rw [ne_eq,zCA hx]
 constructor
 ·intro h
  refine Classical.byContradiction fun h2=>h fun i hi=>?_
  cases hb:tb x i with
  | false=>rfl
  | true=>exact absurd ⟨i,hi,hb⟩ h2
 ·rintro ⟨i,hi,hb⟩ h
  rw [h i hi] at hb;cases hb
end Go.Proofs.YtekkngkphejfcaaGreatDoor
namespace Go.Proofs.YtekkngkphejfcaaGreatDoor
open Go.RowKit
theorem zaP {S R:Type} (m:Nat→S→Int→Option R) (len N0:Nat) (Inv:Nat→S→Prop)
 (h: ∀ (n i:Nat) (s:S),N0≤n→i<len→Inv i s→∃ s',m (n+1) s (i:Int)=m n s' ((i:Int)+1)∧Inv (i+1) s'):
 ∀ (k i n:Nat) (s:S),i+k=len→N0≤n→Inv i s→∃ s',m (n+k) s (i:Int)=m n s' (len:Int)∧Inv len s'
 | 0,i,n,s,e,_,hI=>by
  have:i=len:=by omega
  subst this
  exact ⟨s,rfl,hI⟩
 | k+1,i,n,s,e,hn,hI=>by
  obtain ⟨s',h1,h2⟩:=h (n+k) i s (by omega) (by omega) hI
  obtain ⟨s2,h3,h4⟩:=zaP m len N0 Inv h k (i+1) n s' (by omega) hn h2
  refine ⟨s2,?_,h4⟩
  rw [show n+(k+1)=n+k+1 by omega,h1,←h3]
  rfl
theorem zIt {S R:Type} (m:Nat→S→Int→Option R) (len N0:Nat) (Inv:Nat→S→Prop)
 (h: ∀ (n i:Nat) (s:S),N0≤n→i<len→Inv i s→∃ s',m (n+1) s (i:Int)=m n s' ((i:Int)+1)∧Inv (i+1) s')
 {n:Nat} {s:S} (hn:N0+len≤n) (hI:Inv 0 s): ∃ n' s',N0≤n'∧n'+len=n∧m n s 0=m n' s' (len:Int)∧Inv len s':=by
 obtain ⟨s',h1,h2⟩:=zaP m len N0 Inv h len 0 (n-len) s (by omega) (by omega) hI
 rw [show n-len+len=n by omega] at h1
 exact ⟨n-len,s',by omega,by omega,h1,h2⟩
structure zFS (c:zAC) (k:Nat) (pos:List Int):Prop where
 cells: ∀ a,a<c.cells.length→0≤c.cells.getD a 0∧c.cells.getD a 0<(pos.length:Int)
 len:c.cells.length≤256
 sm: ∀ i,i<pos.length→Sm k (pos.getD i 0)
 k:k≤16
def zAI (c:zAC) (pos:List Int) (a:Nat):Int:=pos.getD (c.cells.getD a 0).toNat 0
def zJM (x:Int):Bool:=bits .and .i64 x (x-1)==0
section
variable {c:zAC} {k:Nat} {pos lost:List Int} {q:zAB}
theorem zFS.at (W:zFS c k pos) {a:Nat} (ha:a<c.cells.length):Sm k (zAI c pos a):=by
 have:=W.cells a ha
 exact W.sm _ (by omega)
theorem zFS.r64 (W:zFS c k pos) {a:Nat} (ha:a<c.cells.length):R64 (zAI c pos a-1)∧R64 ((a:Int)+1):=by
 have h:=W.at ha
 have h2:=zCt (k:=k) (Nat.le_trans W.k (by decide))
 have h3:=W.len
 obtain ⟨h0,h1⟩:=h
 exact ⟨zAG.2 ⟨by omega,by omega⟩,zAG.2 ⟨by omega,by omega⟩⟩
theorem zCX {n:Nat} {cell ss:Int} (h0:0≤cell) (h1:cell<(pos.length:Int)) (hl:lost.length=pos.length):
 ∃ l',zC8 n cell ss c q pos pos.length lost=some l'∧l'.length=pos.length∧∀ j s,tb (l'.getD j 0) s=(tb (lost.getD j 0) s||(decide (j=cell.toNat)&&(tb (pos.getD j 0) s&&tb ss s))):=by
 refine ⟨lost.set cell.toNat (bits .or .i64 (lost.getD cell.toNat 0) (bits .and .i64 (pos.getD cell.toNat 0) ss)),?_,by rw [List.length_set];exact hl,fun j s=>?_⟩
 ·unfold zC8 zOB
  simp only [Nat.zero_add]
  rw [if_pos ⟨⟨h0,h1⟩,by omega,h0,h1⟩]
 ·by_cases hj:j=cell.toNat
  ·subst hj
   rw [List.getD_eq_getElem?_getD,List.getElem?_set_self (by omega),Option.getD_some,zOd,zCJ,decide_eq_true rfl,Bool.true_and]
  ·rw [List.getD_eq_getElem?_getD,List.getElem?_set_ne (fun e=>hj e.symm),←List.getD_eq_getElem?_getD,decide_eq_false hj,Bool.false_and,Bool.or_false]
theorem zLI {n:Nat} {cell:Int} (h0:0≤cell) (h1:cell<(pos.length:Int)) (hl:lost.length=pos.length):
 ∃ l',zHD n cell c q pos pos.length lost=some l'∧l'.length=pos.length∧∀ j s,tb (l'.getD j 0) s=(tb (lost.getD j 0) s||(decide (j=cell.toNat)&&(tb (pos.getD j 0) s&&!tb c.set s))):=by
 refine ⟨lost.set cell.toNat (bits .or .i64 (lost.getD cell.toNat 0) (bits .andNot .i64 (pos.getD cell.toNat 0) c.set)),?_,by rw [List.length_set];exact hl,fun j s=>?_⟩
 ·unfold zHD zN6
  simp only [Nat.zero_add]
  rw [if_pos ⟨⟨h0,h1⟩,by omega,h0,h1⟩]
 ·by_cases hj:j=cell.toNat
  ·subst hj
   rw [List.getD_eq_getElem?_getD,List.getElem?_set_self (by omega),Option.getD_some,zOd,zAp,decide_eq_true rfl,Bool.true_and]
  ·rw [List.getD_eq_getElem?_getD,List.getElem?_set_ne (fun e=>hj e.symm),←List.getD_eq_getElem?_getD,decide_eq_false hj,Bool.false_and,Bool.or_false]
def Sg (c:zAC) (pos:List Int) (a s:Nat):Prop:=zJM (zAI c pos a)=true∧tb (zAI c pos a) s=true
def zAf (c:zAC) (pos lost:List Int) (i:Nat) (D:Nat→Nat→Prop) (l:List Int):Prop:=
 l.length=pos.length∧∀ j s,tb (l.getD j 0) s=true↔tb (lost.getD j 0) s=true∨∃ a,a<i∧(c.cells.getD a 0).toNat=j∧tb (zAI c pos a) s=true∧D a s
theorem zAf.step {D:Nat→Nat→Prop} {i:Nat} {l l':List Int} (h:zAf c pos lost i D l) (hl:l'.length=pos.length)
 (h1: ∀ j s,tb (l'.getD j 0) s=true↔tb (l.getD j 0) s=true∨((c.cells.getD i 0).toNat=j∧tb (zAI c pos i) s=true∧D i s)):zAf c pos lost (i+1) D l':=by
 refine ⟨hl,fun j s=>?_⟩
 rw [h1,h.2]
 constructor
 ·rintro ((h | ⟨a,ha,h⟩) | h)
  ·exact .inl h
  ·exact .inr ⟨a,by omega,h⟩
  ·exact .inr ⟨i,by omega,h⟩
 ·rintro (h3 | ⟨a,ha,h3⟩)
  ·exact .inl (.inl h3)
  ·rcases Nat.lt_succ_iff_lt_or_eq.1 ha with ha | rfl
   ·exact .inl (.inr ⟨a,ha,h3⟩)
   ·exact .inr h3
theorem zAf.zero {D:Nat→Nat→Prop} (hl:lost.length=pos.length):zAf c pos lost 0 D lost:=
 ⟨hl,fun j s=>⟨.inl,fun h=>h.elim id fun ⟨a,ha,_⟩=>absurd ha (Nat.not_lt_zero a)⟩⟩
def zVT (c:zAC) (pos:List Int) (a s:Nat):Prop:=∃ b,b<c.cells.length∧b≠a∧Sg c pos b s
theorem zYe {n:Nat} (W:zFS c k pos) (hl:lost.length=pos.length) (hn:2*c.cells.length+2≤n):
 ∃ l,zVS n c q pos pos.length lost=some (true,l)∧zAf c pos lost c.cells.length (zVT c pos) l:=by
 have lt: ∀ i,i<c.cells.length→((i:Nat):Int)<((c.cells.length:Nat):Int):=fun i hi=>by omega
 have S:=zIt (fun n (s:Int×Int) i=>zD8 c q pos pos.length lost n (.l1 s.1 s.2 i)) c.cells.length (c.cells.length+2)
  (fun i s=>(∀ j,tb s.1 j=true↔∃ a,a<i∧Sg c pos a j)∧(∀ j,tb s.2 j=true↔∃ a b,a<b∧b<i∧Sg c pos a j∧Sg c pos b j))
  (fun n i s _ hi hI=>?_) (n:=n) (s:=(0,0)) (by omega) ?_
 ·obtain ⟨n1,⟨o,t⟩,hn1,_,e1,ho,ht⟩:=S
  obtain ⟨n2,rfl⟩: ∃ n2,n1=n2+1:=⟨n1-1,by omega⟩
  have T:=zIt (fun n (s:List Int) i=>zD8 c q pos pos.length lost n (.l2 o t i s)) c.cells.length 1
   (fun i s=>zAf c pos lost i (zVT c pos) s) (fun n i s hn0 hi hI=>?_) (n:=n2) (s:=lost) (by omega) (zAf.zero hl)
  ·obtain ⟨n3,l,hn3,_,e2,hL⟩:=T
   obtain ⟨n4,rfl⟩: ∃ n4,n3=n4+1:=⟨n3-1,by omega⟩
   refine ⟨l,?_,hL⟩
   unfold zVS zTT
   refine e1.trans ?_
   show zIJ n2 (zD8 c q pos pos.length lost n2) c q pos pos.length lost o t (c.cells.length:Int)=_
   unfold zIJ
   rw [decide_eq_false (by omega),cond_false]
   refine e2.trans ?_
   show zII n4 (zD8 c q pos pos.length lost n4) c q pos pos.length lost o t (c.cells.length:Int) l=_
   unfold zII
   rw [decide_eq_false (by omega),cond_false]
  ·have hc:=W.cells i hi
   have hr:=W.r64 hi
   show ∃ s',zII n (zD8 c q pos pos.length lost n) c q pos pos.length lost o t (i:Int) s=_∧_
   unfold zII
   rw [decide_eq_true (lt i hi),cond_true]
   simp only [Int.toNat_natCast]
   rw [if_pos ⟨⟨by omega,lt i hi⟩,hc,hr.1⟩]
   have sg:(bits .and .i64 (pos.getD (c.cells.getD i 0).toNat 0) (pos.getD (c.cells.getD i 0).toNat 0-1)==0)=zJM (zAI c pos i):=rfl
   rw [sg]
   cases hs:zJM (zAI c pos i)
   ·rw [cond_false]
    obtain ⟨l',h1,h2,h3⟩:=zCX (n:=n) (ss:=o) (c:=c) (q:=q) hc.1 hc.2 hI.1
    rw [h1,Option.bind_some,if_pos hr.2]
    refine ⟨l',rfl,hI.step h2 fun j x=>?_⟩
    rw [h3,Bool.or_eq_true,Bool.and_eq_true,Bool.and_eq_true,decide_eq_true_iff,ho]
    constructor
    ·rintro (h | ⟨rfl,h4,b,hb,h5⟩)
     ·exact .inl h
     ·refine .inr ⟨rfl,h4,b,hb,?_,h5⟩
      rintro rfl
      rw [h5.1] at hs;cases hs
    ·rintro (h | ⟨rfl,h4,b,hb,_,h5⟩)
     ·exact .inl h
     ·exact .inr ⟨rfl,h4,b,hb,h5⟩
   ·rw [cond_true]
    obtain ⟨l',h1,h2,h3⟩:=zCX (n:=n) (ss:=bits .or .i64 (bits .andNot .i64 o (pos.getD (c.cells.getD i 0).toNat 0)) t) (c:=c) (q:=q) hc.1 hc.2 hI.1
    rw [h1,Option.bind_some,if_pos hr.2]
    refine ⟨l',rfl,hI.step h2 fun j x=>?_⟩
    rw [h3,Bool.or_eq_true,Bool.and_eq_true,Bool.and_eq_true,decide_eq_true_iff,zOd,zAp,Bool.or_eq_true,Bool.and_eq_true,ht]
    constructor
    ·rintro (h | ⟨rfl,h4,⟨_,h5⟩ | ⟨x1,y1,h6,h7,h8,h9⟩⟩)
     ·exact .inl h
     ·rw [h4] at h5;cases h5
     ·refine .inr ⟨rfl,h4,?_⟩
      by_cases e:x1=i
      ·exact ⟨y1,h7,by omega,h9⟩
      ·exact ⟨x1,by omega,e,h8⟩
    ·rintro (h | ⟨rfl,h4,b,hb,h5,h6⟩)
     ·exact .inl h
     ·refine .inr ⟨rfl,h4,.inr ?_⟩
      rcases Nat.lt_or_gt_of_ne h5 with h5 | h5
      ·exact ⟨b,i,h5,hi,h6,hs,h4⟩
      ·exact ⟨i,b,h5,hb,⟨hs,h4⟩,h6⟩
 ·obtain ⟨o,t⟩:=s
  obtain ⟨h1,h2⟩:=hI
  simp only at h1 h2
  have hc:=W.cells i hi
  have hr:=W.r64 hi
  show ∃ s',zIJ n (zD8 c q pos pos.length lost n) c q pos pos.length lost o t (i:Int)=_∧_
  unfold zIJ
  rw [decide_eq_true (lt i hi),cond_true]
  simp only [Int.toNat_natCast]
  rw [if_pos ⟨⟨by omega,lt i hi⟩,hc,hr.1⟩]
  have sg:(bits .and .i64 (pos.getD (c.cells.getD i 0).toNat 0) (pos.getD (c.cells.getD i 0).toNat 0-1)==0)=zJM (zAI c pos i):=rfl
  rw [sg]
  cases hs:zJM (zAI c pos i)
  ·rw [cond_false,if_pos hr.2]
   refine ⟨(o,t),rfl,fun j=>?_,fun j=>?_⟩
   ·rw [h1]
    constructor
    ·rintro ⟨a,ha,h⟩
     exact ⟨a,by omega,h⟩
    ·rintro ⟨a,ha,h⟩
     rcases Nat.lt_succ_iff_lt_or_eq.1 ha with ha | rfl
     ·exact ⟨a,ha,h⟩
     ·rw [h.1] at hs;cases hs
   ·rw [h2]
    constructor
    ·rintro ⟨a,b,hab,hb,h⟩
     exact ⟨a,b,hab,by omega,h⟩
    ·rintro ⟨a,b,hab,hb,h⟩
     rcases Nat.lt_succ_iff_lt_or_eq.1 hb with hb | rfl
     ·exact ⟨a,b,hab,hb,h⟩
     ·rw [h.2.1] at hs;cases hs
  ·rw [cond_true,if_pos hr.2]
   refine ⟨(bits .or .i64 o (zAI c pos i),bits .or .i64 t (bits .and .i64 o (zAI c pos i))),rfl,fun j=>?_,fun j=>?_⟩
   ·rw [zOd,Bool.or_eq_true,h1]
    constructor
    ·rintro (⟨a,ha,h⟩ | h)
     ·exact ⟨a,by omega,h⟩
     ·exact ⟨i,by omega,hs,h⟩
    ·rintro ⟨a,ha,h⟩
     rcases Nat.lt_succ_iff_lt_or_eq.1 ha with ha | rfl
     ·exact .inl ⟨a,ha,h⟩
     ·exact .inr h.2
   ·rw [zOd,zCJ,Bool.or_eq_true,Bool.and_eq_true,h1,h2]
    constructor
    ·rintro (⟨a,b,hab,hb,h⟩ | ⟨⟨a,ha,h⟩,h3⟩)
     ·exact ⟨a,b,hab,by omega,h⟩
     ·exact ⟨a,i,ha,by omega,h,hs,h3⟩
    ·rintro ⟨a,b,hab,hb,h,h3⟩
     rcases Nat.lt_succ_iff_lt_or_eq.1 hb with hb | rfl
     ·exact .inl ⟨a,b,hab,hb,h,h3⟩
     ·exact .inr ⟨⟨a,hab,h⟩,h3.2⟩
 ·exact ⟨fun j=>⟨fun h=>absurd h tb0,fun ⟨a,ha,_⟩=>absurd ha (Nat.not_lt_zero a)⟩,fun j=>⟨fun h=>absurd h tb0,fun ⟨a,b,_,hb,_⟩=>absurd hb (Nat.not_lt_zero b)⟩⟩
end
end Go.Proofs.YtekkngkphejfcaaGreatDoor
namespace Go.Proofs
open Go.Shelf
def Tryz.lays189_ren:Go.Shelf.Ren:=⟨fun | 189=>133 | 125=>148 | 257=>147 | 128=>160 | 129=>161 | 294=>151 | 295=>152 | 296=>153 | 297=>154 | 298=>155 | 299=>156 | 216=>157 | 300=>158 | 301=>159 | 328=>162 | 329=>163 | 330=>164 | 331=>165 | 332=>166 | 215=>167 | 343=>168 | n=>n,fun | 28=>22 | 3=>3 | 46=>86 | 0=>0 | 51=>122 | 53=>124 | 4=>4 | 183=>167 | 182=>166 | 131=>170 | 5=>5 | 9=>9 | 218=>172 | 222=>176 | 228=>178 | 229=>101 | n=>n,fun | n=>n⟩
theorem Tryz.lays189:Go.Proofs.Lays.n189 Tryz.prog Tryz.lays189_ren:={
 mixed:=by kernel_rfl
 f125:=Tryz.func148.trans (congrArg some (by kernel_rfl))
 f128:=Tryz.func160.trans (congrArg some (by kernel_rfl))
 f129:=Tryz.func161.trans (congrArg some (by kernel_rfl))
 f189:=Tryz.func133.trans (congrArg some (by kernel_rfl))
 f215:=Tryz.func167.trans (congrArg some (by kernel_rfl))
 f216:=Tryz.func157.trans (congrArg some (by kernel_rfl))
 f257:=Tryz.func147.trans (congrArg some (by kernel_rfl))
 f294:=Tryz.func151.trans (congrArg some (by kernel_rfl))
 f295:=Tryz.func152.trans (congrArg some (by kernel_rfl))
 f296:=Tryz.func153.trans (congrArg some (by kernel_rfl))
 f297:=Tryz.func154.trans (congrArg some (by kernel_rfl))
 f298:=Tryz.func155.trans (congrArg some (by kernel_rfl))
 f299:=Tryz.func156.trans (congrArg some (by kernel_rfl))
 f300:=Tryz.func158.trans (congrArg some (by kernel_rfl))
 f301:=Tryz.func159.trans (congrArg some (by kernel_rfl))
 f328:=Tryz.func162.trans (congrArg some (by kernel_rfl))
 f329:=Tryz.func163.trans (congrArg some (by kernel_rfl))
 f330:=Tryz.func164.trans (congrArg some (by kernel_rfl))
 f331:=Tryz.func165.trans (congrArg some (by kernel_rfl))
 f332:=Tryz.func166.trans (congrArg some (by kernel_rfl))
 f343:=Tryz.func168.trans (congrArg some (by kernel_rfl))
 t0:=Tryz.underlying0
 a0:=Tryz.isAgg0
 z0:=Tryz.sizeOf0
 v0:=Tryz.zeroValue0
 t3:=Tryz.underlying3
 a3:=Tryz.isAgg3
 z3:=Tryz.sizeOf3
 v3:=Tryz.zeroValue3
 t4:=Tryz.underlying4
 a4:=Tryz.isAgg4
 z4:=Tryz.sizeOf4
 v4:=Tryz.zeroValue4
 t5:=Tryz.underlying5
 a5:=Tryz.isAgg5
 z5:=Tryz.sizeOf5
 v5:=Tryz.zeroValue5
 t9:=Tryz.underlying9
 a9:=Tryz.isAgg9
 z9:=Tryz.sizeOf9
 v9:=Tryz.zeroValue9
 t28:=Tryz.underlying22
 a28:=Tryz.isAgg22
 z28:=Tryz.sizeOf22
 v28:=Tryz.zeroValue22
 t46:=Tryz.underlying86
 a46:=Tryz.isAgg86
 z46:=Tryz.sizeOf86
 v46:=Tryz.zeroValue86
 t51:=Tryz.underlying122
 a51:=Tryz.isAgg122
 z51:=Tryz.sizeOf122
 v51:=Tryz.zeroValue122
 t53:=Tryz.underlying124
 a53:=Tryz.isAgg124
 z53:=Tryz.sizeOf124
 v53:=Tryz.zeroValue124
 t131:=Tryz.underlying170
 a131:=Tryz.isAgg170
 z131:=Tryz.sizeOf170
 v131:=Tryz.zeroValue170
 t182:=Tryz.underlying166
 a182:=Tryz.isAgg166
 z182:=Tryz.sizeOf166
 v182:=Tryz.zeroValue166
 t183:=Tryz.underlying167
 a183:=Tryz.isAgg167
 z183:=Tryz.sizeOf167
 v183:=Tryz.zeroValue167
 t218:=Tryz.underlying172
 a218:=Tryz.isAgg172
 z218:=Tryz.sizeOf172
 v218:=Tryz.zeroValue172
 t222:=Tryz.underlying176
 a222:=Tryz.isAgg176
 z222:=Tryz.sizeOf176
 v222:=Tryz.zeroValue176
 t228:=Tryz.underlying178
 a228:=Tryz.isAgg178
 z228:=Tryz.sizeOf178
 v228:=Tryz.zeroValue178
 t229:=Tryz.underlying101
 a229:=Tryz.isAgg101
 z229:=Tryz.sizeOf101
 v229:=Tryz.zeroValue101 }
open Go.Sort Go.RowKit in
theorem Tryz.slices_Sort_int (blk off cap:Nat) (zs:List Int) (w:World) (hH:Holds (Value.int .i64) w blk off zs.toArray) (hblk:blk<w.heap.size) (hsz:zs.length<4611686018427387904):
 Calls Tryz.prog 133 #[.slice (some ⟨blk,off,none⟩) zs.length cap] w fun e w'=>
  e= .returned (.tuple #[])∧∃ n os,w'=grow (putRow (Value.int .i64) (Sort.ahead w n) blk off (zs.mergeSort fun x y=>decide (x≤y)).toArray) os:=Any.slices_Sort_int Tryz.lays189 blk off cap zs w hH hblk hsz
end Go.Proofs
namespace Go.Proofs.YtekkngkphejfcaaGreatDoor
open Go.RowKit
def zcV (a:Int):List Int→List Int
 | []=>[a]
 | b::l=>if a≤b then a::b::l else b::zcV a l
def zIY:List Int→List Int
 | []=>[]
 | a::l=>zcV a (zIY l)
theorem zLa (a:Int): ∀ l:List Int,(zcV a l).Perm (a::l)
 | []=>List.Perm.refl _
 | b::l=>by
  unfold zcV
  split
  ·exact List.Perm.refl _
  ·exact ((zLa a l).cons b).trans (List.Perm.swap a b l)
theorem zGL: ∀ l:List Int,(zIY l).Perm l
 | []=>List.Perm.refl _
 | a::l=>(zLa a _).trans ((zGL l).cons a)
theorem zLZ (a:Int): ∀ l:List Int,l.Pairwise (· ≤·)→(zcV a l).Pairwise (· ≤·)
 | [],_=>List.pairwise_singleton _ _
 | b::l,h=>by
  have h':=List.pairwise_cons.1 h
  unfold zcV
  split
  ·rename_i hab
   refine List.pairwise_cons.2 ⟨fun x hx=>?_,h⟩
   rcases List.mem_cons.1 hx with rfl | hx
   ·exact hab
   ·exact Int.le_trans hab (h'.1 x hx)
  ·rename_i hab
   refine List.pairwise_cons.2 ⟨fun x hx=>?_,zLZ a l h'.2⟩
   rcases List.mem_cons.1 ((zLa a l).mem_iff.1 hx) with rfl | hx
   ·omega
   ·exact h'.1 x hx
theorem zJL: ∀ l:List Int,(zIY l).Pairwise (· ≤·)
 | []=>List.Pairwise.nil
 | a::l=>zLZ a _ (zJL l)
theorem zZE (l:List Int):(l.mergeSort fun x y=>decide (x≤y))=zIY l:=by
 refine List.Perm.eq_of_pairwise (le:=(· ≤·)) (fun a b _ _ h1 h2=>Int.le_antisymm h1 h2) ?_ (zJL l) ((List.mergeSort_perm l _).trans (zGL l).symm)
 have:=List.pairwise_mergeSort (le:=fun x y:Int=>decide (x≤y)) (fun a b c h1 h2=>by simp at h1 h2 ⊢;omega) (fun a b=>by simp;omega) l
 exact this.imp fun h=>by simpa using h
theorem zCy (l:List Int):(zIY l).length=l.length:=(zGL l).length_eq
theorem zae {w:World} {b o:Nat} {l l':List Int} {cs:Array Value} {t:TypeId} {z:Nat×Nat} (h:w.heap[b]? =some (.cells cs t z)) (hl:l.length=l'.length) (n:Nat) (os:Array Obj):
 ∃ cs',(Sort.grow (Sort.putRow (Value.int .i64) (Sort.ahead w n) b o l'.toArray) os).heap[b]? =some (.cells cs' t z)∧cs'.size=cs.size∧∀ j,j<l.length→o+j<cs.size→cs'[o+j]? =some (.int .i64 (l'.getD j 0)):=by
 have hb:b<w.heap.size:=(Array.getElem?_eq_some_iff.1 h).1
 refine ⟨Sort.putCells (Value.int .i64) o l'.toArray cs,?_,by simp [Sort.putCells],fun j hj hs=>?_⟩
 ·simp only [Sort.grow,Sort.putRow,Sort.mapBlock,Sort.ahead]
  rw [Array.getElem?_append_left (by simpa using hb),Array.getElem?_modify,if_pos rfl,h]
  rfl
 ·simp only [Sort.putCells,Array.getElem?_mapIdx]
  rw [Array.getElem?_eq_getElem hs]
  simp only [Option.map_some]
  rw [if_pos ⟨by omega,by simp;omega⟩]
  have:o+j-o=j:=by omega
  rw [this]
  have hj':j<l'.length:=by omega
  simp [hj',List.getD_eq_getElem?_getD]
theorem zbM {w:World} {b o:Nat} (hb:b<w.heap.size) (d:Array Int) (n:Nat) (os:Array Obj):Upd (fun k=>k=b) w (Sort.grow (Sort.putRow (Value.int .i64) (Sort.ahead w n) b o d) os):=by
 refine ⟨rfl,rfl,rfl,by simp [Sort.ahead],fun k hk hne=>?_⟩
 simp only [Sort.grow,Sort.putRow,Sort.mapBlock,Sort.ahead]
 rw [Array.getElem?_append_left (by simpa using hk),Array.getElem?_modify,if_neg (fun e=>hne e.symm)]
theorem zbW (l:List Int) {n:Nat} (hn:n=l.length) (hlim:l.length≤LIM):ES Tryz.prog GG 133 [.msl 0 1 0 n] [some (.ints l)] (.tup 0 fun j=>([]:List DV).getD j .any) [some (.ints (zIY l))] false:=by
 subst hn
 refine ⟨⟨_,Tryz.func133,by decide,rfl⟩,fun N ρ w args HR hargs=>?_⟩
 obtain ⟨p,hp,hob⟩:=HR.obj 0 _ rfl
 have hob:zAP w p l.length fun j u=>u= .int .i64 (l.getD j 0):=hob
 have h0:=hargs.2 0 (by simp)
 obtain ⟨p',cap,hp',hv,hcap,hlb,hroom⟩:=h0
 have ep:p'=p:=Option.some.inj (hp'.symm.trans hp)
 subst ep
 have hsz:args.size=1:=by have:=hargs.1;simpa using this.symm
 have ha:args= #[.slice (some ⟨p'.blk,p'.off,none⟩) l.length cap]:=by
  apply Array.ext
  ·simp [hsz]
  ·intro i h1 h2
   have:i=0:=by omega
   subst this
   have e:args.getD 0 undef=args[0]:=by simp [Array.getD,hsz]
   rw [e] at hv
   rw [hv];simp
 have hH:Sort.Holds (Value.int .i64) w p'.blk p'.off l.toArray:=fun j hj=>by
  have hj:j<l.length:=by simpa using hj
  obtain ⟨u,c1,c2⟩:=hob.cell hj
  refine ⟨by rw [c1,c2];simp [hj,List.getD_eq_getElem?_getD],hob.frozen _⟩
 obtain ⟨hfoot,cs,t,hcs,hs1,hs2,_⟩:=hob
 have hb:p'.blk<w.heap.size:=(Array.getElem?_eq_some_iff.1 hcs).1
 subst ha
 refine (Tryz.slices_Sort_int p'.blk p'.off cap l w hH hb (by unfold LIM at hlim;omega)).mono ?_
 rintro e w' ⟨rfl,m,os,rfl⟩
 rw [zZE]
 obtain ⟨cs',k1,k2,k3⟩:=zae (o:=p'.off) hcs (zCy l).symm m os
 have hu:Upd p'.foot w (Sort.grow (Sort.putRow (Value.int .i64) (Sort.ahead w m) p'.blk p'.off (zIY l).toArray) os):=by rw [hfoot];exact zbM (o:=p'.off) hb (zIY l).toArray m os
 show ∃ v,Ending.returned (.tuple #[])=Ending.returned v∧Got Tryz.prog GG N _ ρ w false _ _ v (Sort.grow (Sort.putRow (Value.int .i64) (Sort.ahead w m) p'.blk p'.off (zIY l).toArray) os)
 refine ⟨_,rfl,⟨⟨ρ,HR.write (o':=.ints (zIY l)) rfl hp hu (fun b hb=>?_) ?_,⟨#[],rfl,rfl,fun j hj=>absurd hj (Nat.not_lt_zero j)⟩,zCH.write rfl hp hu,fun _ _ h=>h⟩,fun h=>by cases h⟩⟩
 ·rw [hfoot] at hb
  exact .cells (c:=cs') (t:=t) (z:=(0,0)) (by rw [show b=p'.blk from hb];exact k1)
 ·refine ⟨hfoot,cs',t,k1,by rw [k2,zCy];exact hs1,by rw [k2];exact hs2,fun j hj=>?_⟩
  rw [zCy] at hj
  exact ⟨_,k3 j hj (by omega),rfl⟩
end Go.Proofs.YtekkngkphejfcaaGreatDoor
namespace Go.Proofs.YtekkngkphejfcaaGreatDoor
open Go.RowKit
set_option maxRecDepth 100000
set_option maxHeartbeats 40000000
inductive zA0 where
 | s0
 | s1 (r6s1_1_0:Nat) (r6s1_2:List Int)
def zGt:zA0→DH
 | .s0=>[none,some (.cells [.nils])]
 | .s1 r6s1_1_0 r6s1_2=>[none,some (.cells [.msl 2 1 0 r6s1_1_0]),some (.ints r6s1_2)]
def zCe (n:Nat) (e6:Int):Option zA0:=
 if (0=0∧1=([e6]:List Int).length)∧0<([e6]:List Int).length∧([e6]:List Int).length≤LIM then
  some (.s1 (([e6]:List Int).length) ([e6]:List Int))
 else none
def zCd (n:Nat) (e6:Int) (r6s1_1_0:Nat) (r6s1_2:List Int):Option zA0:=
 if (0=0∧1=([e6]:List Int).length)∧(0=0∧r6s1_1_0=r6s1_2.length)∧r6s1_2.length+([e6]:List Int).length≤LIM then
  some (.s1 (r6s1_2.length+([e6]:List Int).length) (r6s1_2++([e6]:List Int)))
 else none
def zDi (n:Nat) (e6:Int):zA0→Option zA0
 | .s0=>zCe n e6
 | .s1 r6s1_1_0 r6s1_2=>zCd n e6 r6s1_1_0 r6s1_2
def zAw (n:Nat) (e6:Int) (s:zA0):Option zA0:=zDi n e6 s
theorem zL1 (n:Nat) (l B:Nat) (N:Yd 2) (e6:Int) (s:zA0) (r:zA0) (h:zAw n e6 s=some r):TA l B N (zI9 2 [] 0 (zGt r)) Tryz.f146 6 ⟨frm 13 [(2,.ref 1 0),(6,.it 0),(7,.i e6)],zGt s⟩:=by
 cases s with
 | s0=>
  replace h:zCe n e6=some r:=h
  unfold zCe at h
  refine ag zAH [0,1] H0 (frm 13 [(2,.ref 1 0),(5,.i e6)]) [none,some (.cells [.nils])] fun N=>?_
  revert r
  apply gO
  exact gi (jt (lF fun p=>rr zAH [0,1,3] rfl p))
 | s1 r6s1_1_0 r6s1_2=>
  replace h:zCd n e6 r6s1_1_0 r6s1_2=some r:=h
  unfold zCd at h
  refine ag zAH [0,1,2] H0 (frm 13 [(2,.ref 1 0),(5,.i e6)]) [none,some (.cells [.msl 2 1 0 r6s1_1_0]),some (.ints r6s1_2)] fun N=>?_
  revert r
  apply gO
  exact gi (jt (lF fun p=>rr zAH [0,1,4] rfl p))
def zGG (n:Nat) (l:List Int):Option ((List Int)):=
 (zBA (zAw n) l (.s0)).bind fun y1=>
  match y1 with
  | .s0=>
   none
  | .s1 y1_1_0 y1_1_1=>
   if y1_1_0=y1_1_1.length then
    some y1_1_1
   else none
def zGH (n:Nat) (l:List Int):Option ((List Int)):=zGG n l
theorem zQq {n:Nat} {l:List Int} {r:(List Int)} (h:zGH n l=some r):EQ 146 [.nils,.it 0] [some (.iter ((l).map zD1))] (.msl 1 1 0 r.length) [none,some (.ints r)] false:=by
 unfold zGH zGG at h
 refine ot Tryz.func146 fun B N=>?_
 revert r
 apply gO
 exact cn fun y1 hy1=>fun p r h=>by
  refine gs zAH [0,1] p (atT (zAK Tryz.f146) 6 []) (frm 13 [(2,.ref 1 0),(6,.it 0)]) [some (.iter ((l).map zD1)),some (.cells [.nils])] ?_
  refine r0 0 6 #[7] zD1 2 hy1 (zL1 n) ?_
  cases y1 with
  | s0=>
   dsimp only at h
   revert r
   apply gO
   exact nO
  | s1 y1_1_0 y1_1_1=>
   dsimp only at h
   revert r
   apply gO
   exact gn fun g0=>lF fun p=>el zAH [4] [0,2] p [] H0 [.msl 1 1 0 y1_1_0] (DLe.mslN g0)
def zI4 (n:Nat) (l:List Int):Option ((List Int)):=
 (zGH n l).bind fun y1=>
  some y1
def zOS (n:Nat) (l:List Int):Option ((List Int)):=zI4 n l
theorem zVX {n:Nat} {l:List Int} {r:(List Int)} (h:zOS n l=some r):EQ 132 [.it 0] [some (.iter ((l).map zD1))] (.msl 1 1 0 r.length) [none,some (.ints r)] false:=by
 unfold zOS zI4 at h
 refine ot Tryz.func132 fun B N=>?_
 revert r
 apply gO
 exact ce zQq [0] [some (.iter ((l).map zD1))] fun y1=>lF fun p=>el zAH [2] [0,1] p [] H0 [.msl 1 1 0 y1.length] (DLe.mslN rfl)
def zKb (n:Nat) (l:List Int):Option ((List Int)):=
 (zOS n l).bind fun y1=>
  if y1.length≤LIM then
   if y1.length=(zIY y1).length then
    some (zIY y1)
   else none
  else none
def zKc (n:Nat) (l:List Int):Option ((List Int)):=zKb n l
theorem zVy {n:Nat} {l:List Int} {r:(List Int)} (h:zKc n l=some r):EQ 126 [.it 0] [some (.iter ((l).map zD1))] (.msl 1 1 0 r.length) [none,some (.ints r)] false:=by
 unfold zKc zKb at h
 refine ot Tryz.func126 fun B N=>?_
 revert r
 apply gO
 exact ce zVX [0] [some (.iter ((l).map zD1))] fun y1=>gn fun g0=>jc (em (zbW y1 (n:=y1.length) (Eq.refl y1.length) g0) [1] [none,some (.ints y1)]) (gn fun g1=>lF fun p=>el zAH [2] [0,1] p [] H0 [.msl 1 1 0 y1.length] (DLe.mslN g1))
def zJk (n:Nat) (g_:List (List Int)) (in_:List Bool) (start:Int):Option ((List Int)×Int):=
 (zJh n g_ ([in_]:List (List Bool))).bind fun y1=>
  bif (y1 != 0) then
   some (([]:List Int),y1)
  else
   bif (decide (start<0)) then
    some (([]:List Int),1)
   else
    bif (decide (start≥(g_.length:Int))) then
     some (([]:List Int),1)
    else
     if 0≤start∧start<(in_.length:Int) then
      bif (!(in_.getD ((start).toNat) false)) then
       some (([]:List Int),1)
      else
       (zG2 n g_ start in_).bind fun y2=>
        (zKc n y2).bind fun y3=>
         some (y3,0)
     else none
def zEY (n:Nat) (g_:List (List Int)) (in_:List Bool) (start:Int):Option ((List Int)×Int):=zJk n g_ in_ start
theorem zQg {n:Nat} {g_:List (List Int)} {in_:List Bool} {start:Int} {r:(List Int)×Int} (h:zEY n g_ in_ start=some r):EQ 110 [.sl 1 g_.length (zAz zAS g_),.bools in_,.i start] [] (.tup 2 (L1 [.ints r.1,.i r.2])) [] true:=by
 refine ot Tryz.func110 fun B N=>?_
 revert r
 apply gO
 exact ja 10 0 1 (zAT (c:=zTa) (L:=([in_]:List (List Bool))) (vals:=[.bools in_]) rfl ⟨⟨_,rfl,⟨zAD,trivial⟩⟩,trivial⟩) (jz 10 0 (jg (Eq.refl 1) (cf zQK [none] fun y1=>bi 13 (lF fun p=>el zAH [6,7] [] p [] H0 [.nils,.i y1] (DLe.tupL (l:=[.nils,.i y1]) (l':=[.ints ([]:List Int),.i y1]) rfl ⟨DLe.ints_nil,zAD,trivial⟩)) (bi 16 (lF fun p=>el zAH [6,7] [] p [] H0 [.nils,.i 1] (DLe.tupL (l:=[.nils,.i 1]) (l':=[.ints ([]:List Int),.i 1]) rfl ⟨DLe.ints_nil,zAD,trivial⟩)) (bi 21 (lF fun p=>el zAH [6,7] [] p [] H0 [.nils,.i 1] (DLe.tupL (l:=[.nils,.i 1]) (l':=[.ints ([]:List Int),.i 1]) rfl ⟨DLe.ints_nil,zAD,trivial⟩)) (gi (bi 28 (lF fun p=>el zAH [6,7] [] p [] H0 [.nils,.i 1] (DLe.tupL (l:=[.nils,.i 1]) (l':=[.ints ([]:List Int),.i 1]) rfl ⟨DLe.ints_nil,zAD,trivial⟩)) (cn fun y2 hy2=>jc (zG1 hy2 [none]) (ce zVy [1] [none,some (.iter ((y2).map zD1))] fun y3=>lF fun p=>ez zAH [6,7] [2] p [0] (H0.g (Eq.refl y3.length)))))))))))
def zMS:ST:=.rd 0 (.rd 1 (.ef 2 (.ef 3 (.fin [] [4,5]) (.no)) (.no)))
theorem zT3:TOk (zBa Tryz.f113 11) [2] zMS:=by unfold TOk;kernel_rfl
def zC0:Sch:=fun i=>match i with
 | 11=>.tre [2] zMS
 | _=>.no
def zUy (g_:List (List Int)) (o2_0:Int) (y1 o1:List Int):DH:=[some (.cells [.msl 3 1 0 g_.length]),some (.cells [.i (o2_0+1)]),some (.iter ((y1).map zD1)),some (.ints o1)]
def zKL (g_:List (List Int)) (o1:List Int) (o2_0:Int):St:=⟨(frm 42 [(4,.ref 0 0),(5,.ref 2 0)]),([some (.cells [.msl 1 1 0 g_.length]),some (.ints o1),some (.cells [.i o2_0])]:DH)⟩
inductive zCE where
 | s0 (r33s0_3:List Int)
def zLF (g_:List (List Int)) (in_:List Bool) (x13 o2_0:Int):zCE→DH
 | .s0 r33s0_3=>[some (.cells [.msl 3 1 0 g_.length]),some (.cells [.i (o2_0+1)]),none,some (.ints r33s0_3)]
def zDu (n:Nat) (g_:List (List Int)) (in_:List Bool) (x13 o2_0 e33:Int) (r33s0_3:List Int):Option zCE:=
 if (0≤e33∧e33<(g_.length:Int))∧0+((e33).toNat)<r33s0_3.length then
  some (.s0 (r33s0_3.set (0+((e33).toNat)) (o2_0+1)))
 else none
def zJY (n:Nat) (g_:List (List Int)) (in_:List Bool) (x13 o2_0 e33:Int):zCE→Option zCE
 | .s0 r33s0_3=>zDu n g_ in_ x13 o2_0 e33 r33s0_3
def zDd (n:Nat) (g_:List (List Int)) (in_:List Bool) (x13 o2_0 e33:Int) (s:zCE):Option zCE:=zJY n g_ in_ x13 o2_0 e33 s
theorem zPq (n:Nat) (g_:List (List Int)) (in_:List Bool) (x13 o2_0:Int) (l B:Nat) (N:Yd 3) (e33:Int) (s:zCE) (r:zCE) (h:zDd n g_ in_ x13 o2_0 e33 s=some r):TA l B N (zI9 3 [] 0 (zLF g_ in_ x13 o2_0 r)) Tryz.f113 33 ⟨frm 42 [(0,.sl 1 g_.length (zAz zAS g_)),(1,.bools in_),(4,.ref 0 0),(5,.ref 1 0),(12,.i (g_.length:Int)),(13,.i x13),(33,.it 2),(34,.i e33)],zLF g_ in_ x13 o2_0 s⟩:=by
 cases s with
 | s0 r33s0_3=>
  replace h:zDu n g_ in_ x13 o2_0 e33 r33s0_3=some r:=h
  unfold zDu at h
  refine ag zC0 [0,1,2,3] H0 (frm 42 [(4,.ref 0 0),(5,.ref 1 0),(7,.i e33)]) [some (.cells [.msl 3 1 0 g_.length]),some (.cells [.i (o2_0+1)]),none,some (.ints r33s0_3)] fun N=>?_
  revert r
  apply gO
  exact gc (gi (gi (lF fun p=>rr zC0 [0,1,2,3] rfl p)))
inductive zN4 where
 | l1 (x13:Int) (o1:List Int) (o2_0:Int)
def zHy (n:Nat) (self:zN4→Option ((List Int)×Int)) (g_:List (List Int)) (in_:List Bool) (x13:Int) (o1:List Int) (o2_0:Int):Option ((List Int)×Int):=
 bif (decide (x13<(g_.length:Int))) then
  if 0≤x13∧x13<(in_.length:Int) then
   bif (!(in_.getD ((x13).toNat) false)) then
    if R64 (x13+1) then
     self (.l1 (x13+1) o1 o2_0)
    else none
   else
    if (0≤x13∧x13<(g_.length:Int))∧0+((x13).toNat)<o1.length then
     bif (decide ((o1.getD (0+((x13).toNat)) 0)>0)) then
      if R64 (x13+1) then
       self (.l1 (x13+1) o1 o2_0)
      else none
     else
      if R64 (o2_0+1) then
       (zG2 n g_ x13 in_).bind fun y1=>
        (zBA (zDd n g_ in_ x13 o2_0) y1 (.s0 o1)).bind fun y2=>
         match y2 with
         | .s0 y2_0_0=>
          if R64 (x13+1) then
           self (.l1 (x13+1) y2_0_0 (o2_0+1))
          else none
      else none
    else none
  else none
 else
  if g_.length=o1.length then
   some (o1,o2_0)
  else none
def zS2 (n:Nat) (self:zN4→Option ((List Int)×Int)) (g_:List (List Int)) (in_:List Bool):Option ((List Int)×Int):=
 if ((g_.length:Int):Int)=(g_.length:Int)∧0≤(g_.length:Int)∧((g_.length:Int):Int)≤1000000000000 then
  self (.l1 0 (List.replicate g_.length (0:Int)) 0)
 else none
def zIq (g_:List (List Int)) (in_:List Bool):Nat→zN4→Option ((List Int)×Int)
 | 0,_=>none
 | n+1,.l1 x13 o1 o2_0=>zHy n (zIq g_ in_ n) g_ in_ x13 o1 o2_0
def parts (n:Nat) (g_:List (List Int)) (in_:List Bool):Option ((List Int)×Int):=zS2 n (zIq g_ in_ n) g_ in_
def zaD (n B:Nat) (N:Yd 0) (g_:List (List Int)) (in_:List Bool) (r:(List Int)×Int):zN4→Prop
 | .l1 x13 o1 o2_0=>∀ m0:Nat,n≤m0→TW B N (FQ Tryz.f113 0 (.tup 2 (L1 [.ints r.1,.i r.2])) []) (toN m0 (zA9 (zAK Tryz.f113) 0 [])) ⟨frm 42 [(0,.sl 1 g_.length (zAz zAS g_)),(1,.bools in_),(4,.ref 0 0),(5,.ref 2 0),(12,.i (g_.length:Int)),(13,.i x13)],[some (.cells [.msl 1 1 0 g_.length]),some (.ints o1),some (.cells [.i o2_0])]⟩
theorem zXN (B:Nat) (N:Yd 0) (g_:List (List Int)) (in_:List Bool):Al (zIq g_ in_) (zaD · B N g_ in_):=ia (fun _=>rfl) fun n hself pt r h=>by
 cases pt
 case l1 x13 o1 o2_0=>
  intro m0 hm0
  refine rd hm0 fun m0 hm0=>?_
  revert r
  apply gO
  exact bi 14 (gi (bi 20 (gw 39 (lG zC0 [0,1,2] (hself _ _ · m0 hm0))) (gc (gi (gi (bi 26 (gw 39 (lG zC0 [0,1,2] (hself _ _ · m0 hm0))) (gw 29 (jt (cn fun y1 hy1=>jc (zG1 hy1 [some (.cells [.msl 1 1 0 g_.length]),some (.ints o1),some (.cells [.i (o2_0+1)])]) (cn fun y2 hy2=>fun p r h=>by
   refine gs zC0 [0,2,3,1] p (atT (zAK Tryz.f113) 33 [m0]) (frm 42 [(0,.sl 1 g_.length (zAz zAS g_)),(1,.bools in_),(4,.ref 0 0),(5,.ref 1 0),(12,.i (g_.length:Int)),(13,.i x13),(33,.it 2)]) (zUy g_ o2_0 y1 o1) ?_
   refine r0 2 33 #[34] zD1 3 hy2 (zPq n g_ in_ x13 o2_0) ?_
   cases y2 with
   | s0 y2_0_0=>
    dsimp only at h
    revert r
    apply gO
    exact gw 39 (lG zC0 [0,3,1] (hself _ _ · m0 hm0)))))))))))) (jg zT3 (jt (jt (jg (Eq.refl (zKL g_ o1 o2_0)) (gn fun g0=>lF fun p=>ez (tg:=[([(2,0)],(zKL g_ o1 o2_0))]) zC0 [4,5] [0,1,2] p [1] (H0.g g0))))))
theorem zaB {n:Nat} {g_:List (List Int)} {in_:List Bool} {r:(List Int)×Int} (h:parts n g_ in_=some r):EQ 113 [.sl 1 g_.length (zAz zAS g_),.bools in_] [] (.tup 2 (L1 [.ints r.1,.i r.2])) [] true:=by
 refine ot Tryz.func113 fun B N=>?_
 revert r
 apply gO
 exact gi (jt (lN zC0 [0,2,1] ((zXN B N g_ in_ n) _ _ · n Nat.le.refl)))
end Go.Proofs.YtekkngkphejfcaaGreatDoor
namespace Go.Proofs.YtekkngkphejfcaaGreatDoor
open Go.RowKit
set_option maxRecDepth 100000
set_option maxHeartbeats 40000000
def zIU (n:Nat) (n_:Int) (inn:List Bool):Option ((List Bool)):=
 (zLu n inn).bind fun y1=>
  if (0≤n_∧n_<(y1.length:Int))∧0+((n_).toNat)<y1.length then
   if y1.length=(y1.set (0+((n_).toNat)) false).length then
    some (y1.set (0+((n_).toNat)) false)
   else none
  else none
def zKE (n:Nat) (n_:Int) (inn:List Bool):Option ((List Bool)):=zIU n n_ inn
theorem zTl {n:Nat} {n_:Int} {inn:List Bool} {r:(List Bool)} (h:zKE n n_ inn=some r):EQ 112 [.i n_,.fp 1 (L1 [.bools inn])] [] (.msl 0 1 0 r.length) [some (.bools r)] true:=by
 unfold zKE zIU at h
 refine ot Tryz.func112 fun B N=>?_
 revert r
 apply gO
 exact cn fun y1 hy1=>jc (ES.snapNew (ds:=[.bools inn]) (zQk hy1) [] (zFJ (by kernel_rfl)) rfl) (gc (gi (gi (gn fun g2=>lF fun p=>el zAH [3] [0] p [] H0 [.msl 0 1 0 y1.length] (DLe.mslN g2)))))
theorem zRD:SOk (zBa Tryz.f92 16) [] (List.range 7) []:=by unfold SOk;kernel_rfl
def zA4:Sch:=fun i=>match i with
 | 16=>.ord [] (List.range 7) []
 | _=>.no
def zLh (in_ some_:List Bool) (at_:Int):DH:=[some (.cells [.bools in_]),some (.cells [.bools some_]),some (.cells [.i at_]),some (.cells [.bool false]),none]
def zRo (in_ some_:List Bool) (at_:Int):DH:=[some (.cells [.bools in_]),some (.cells [.bools some_]),some (.cells [.i at_]),some (.cells [.bool false]),none,none]
def zRn (in_ some_:List Bool) (at_:Int) (y3:(List Int)×Int):DH:=[some (.cells [.bools in_]),some (.cells [.bools some_]),some (.cells [.i at_]),some (.cells [.bool false]),none,none,some (.cells [.ints y3.1]),some (.cells [.i 0])]
def zRm (some_:List Bool) (at_:Int) (y3:(List Int)×Int) (y4:List Int):DH:=[some (.cells [.bools some_]),some (.cells [.i at_]),some (.cells [.bool false]),some (.cells [.ints y3.1]),some (.cells [.i 0]),some (.iter ((y4).map zD1))]
def zRl (some_:List Bool) (at_:Int) (r48s0_2_0:Bool) (y3:(List Int)×Int) (r48s0_4_0:Int):DH:=[some (.cells [.bools some_]),some (.cells [.i at_]),some (.cells [.bool r48s0_2_0]),some (.cells [.ints y3.1]),some (.cells [.i r48s0_4_0]),none]
inductive zBg where
 | s0 (r48s0_2_0:Bool) (r48s0_4_0:Int)
def zJK (some_:List Bool) (at_:Int) (y3:(List Int)×Int):zBg→DH
 | .s0 r48s0_2_0 r48s0_4_0=>[some (.cells [.bools some_]),some (.cells [.i at_]),some (.cells [.bool r48s0_2_0]),some (.cells [.ints y3.1]),some (.cells [.i r48s0_4_0]),none]
def zCL (n:Nat) (some_:List Bool) (at_:Int) (y3:(List Int)×Int) (e48:Int) (r48s0_2_0:Bool) (r48s0_4_0:Int):Option (zBg×Nat):=
 bif (e48==at_) then
  some (.s0 r48s0_2_0 r48s0_4_0,0)
 else
  if 0≤e48∧e48<(some_.length:Int) then
   bif (!(some_.getD ((e48).toNat) false)) then
    some (.s0 r48s0_2_0 r48s0_4_0,0)
   else
    bif (r48s0_4_0==0) then
     if 0≤e48∧e48<(y3.1.length:Int) then
      some (.s0 r48s0_2_0 (y3.1.getD ((e48).toNat) 0),0)
     else none
    else
     if 0≤e48∧e48<(y3.1.length:Int) then
      bif ((y3.1.getD ((e48).toNat) 0) != r48s0_4_0) then
       some (.s0 true r48s0_4_0,1)
      else
       some (.s0 r48s0_2_0 r48s0_4_0,0)
     else none
  else none
def zNN (n:Nat) (some_:List Bool) (at_:Int) (y3:(List Int)×Int) (e48:Int):zBg→Option (zBg×Nat)
 | .s0 r48s0_2_0 r48s0_4_0=>zCL n some_ at_ y3 e48 r48s0_2_0 r48s0_4_0
def zBB (n:Nat) (some_:List Bool) (at_:Int) (y3:(List Int)×Int) (e48:Int) (s:zBg):Option (zBg×Nat):=zNN n some_ at_ y3 e48 s
theorem zNM (n:Nat) (some_:List Bool) (at_:Int) (y3:(List Int)×Int) (l B:Nat) (N:Yd 6) (e48:Int) (s:zBg) (r:zBg×Nat) (h:zBB n some_ at_ y3 e48 s=some r):TA l B N (zI9 6 [.exit 0] r.2 (zJK some_ at_ y3 r.1)) Tryz.f92 48 ⟨frm 76 [(6,.ref 0 0),(7,.ref 1 0),(8,.ref 2 0),(11,.ref 3 0),(13,.ref 4 0),(48,.it 5),(49,.i e48)],zJK some_ at_ y3 s⟩:=by
 cases s with
 | s0 r48s0_2_0 r48s0_4_0=>
  refine ag zA4 [0,1,2,3,4,5] H0 (frm 76 [(6,.ref 0 0),(7,.ref 1 0),(8,.ref 2 0),(11,.ref 3 0),(13,.ref 4 0),(14,.i e48)]) (zRl some_ at_ r48s0_2_0 y3 r48s0_4_0) fun N=>?_
  revert r
  apply gO
  exact bi 53 (lF fun p=>rr zA4 [0,1,2,3,4,5] rfl p) (gi (bi 59 (lF fun p=>rr zA4 [0,1,2,3,4,5] rfl p) (bi 63 (gi (jt (lF fun p=>rr zA4 [0,1,2,3,4,5] rfl p))) (jg zRD (gi (bi 74 (jt (lF fun p=>rr zA4 [0,1,2,3,4,5] rfl p)) (lF fun p=>rr zA4 [0,1,2,3,4,5] rfl p)))))))
def zOv (n:Nat) (g_:List (List Int)) (in_ some_:List Bool) (at_:Int):Option (Bool×Int):=
 (zJh n g_ ([in_,some_]:List (List Bool))).bind fun y1=>
  bif (y1 != 0) then
   some (false,y1)
  else
   bif (decide (at_<0)) then
    some (false,1)
   else
    bif (decide (at_≥(g_.length:Int))) then
     some (false,1)
    else
     if 0≤at_∧at_<(in_.length:Int) then
      bif (!(in_.getD ((at_).toNat) false)) then
       some (false,0)
      else
       (zKE n at_ in_).bind fun y2=>
        (parts n g_ y2).bind fun y3=>
         (zG2 n g_ at_ in_).bind fun y4=>
          (zEV (zBB n some_ at_ y3) y4 (.s0 false 0)).bind fun y5=>
           bif y5.2==0 then
            match y5.1 with
            | .s0 y5_0_0 y5_0_1=>
             some (y5_0_0,0)
           else
            bif y5.2==1 then
             match y5.1 with
             | .s0 y5_0_0 y5_0_1=>
              some (y5_0_0,0)
            else
             none
     else none
def zKY (n:Nat) (g_:List (List Int)) (in_ some_:List Bool) (at_:Int):Option (Bool×Int):=zOv n g_ in_ some_ at_
theorem zVw {n:Nat} {g_:List (List Int)} {in_ some_:List Bool} {at_:Int} {r:Bool×Int} (h:zKY n g_ in_ some_ at_=some r):EQ 92 [.sl 1 g_.length (zAz zAS g_),.bools in_,.bools some_,.i at_] [] (.tup 2 (L1 [.bool r.1,.i r.2])) [] true:=by
 refine ot Tryz.func92 fun B N=>?_
 revert r
 apply gO
 exact ja 18 4 1 (zAT (c:=zTa) (L:=([in_,some_]:List (List Bool))) (vals:=[.bools in_,.bools some_]) rfl ⟨⟨_,rfl,⟨zAD,trivial⟩⟩,⟨_,rfl,⟨zAD,trivial⟩⟩,trivial⟩) (jz 18 4 (jg (Eq.refl 2) (cf zQK (zLh in_ some_ at_) fun _=>bi 21 (jt (lE zA4 [8,9] [3])) (bi 24 (jt (lE zA4 [8,9] [3])) (bi 29 (jt (lE zA4 [8,9] [3])) (gi (bi 35 (jt (lE zA4 [8,9] [3])) (cn fun y2 hy2=>jc (ES.snapNew (ds:=[.i at_,.ref 0 0]) (zTl hy2) (zLh in_ some_ at_) ⟨zA1.plain (by kernel_rfl),(zA1.refL (l:=[.bools in_]) (l0:=[.bools in_]) rfl ⟨zA1.plain (by kernel_rfl),trivial⟩),trivial⟩ rfl) (jz 41 5 (jg (Eq.refl y2.length) (cf zaB (zRo in_ some_ at_) fun y3=>jt (jt (cn fun y4 hy4=>jc (zG1 hy4 (zRn in_ some_ at_ y3)) (cn fun y5 hy5=>fun p r h=>by
  refine gs zA4 [1,2,3,6,7,8] p (atT (zAK Tryz.f92) 48 []) (frm 76 [(6,.ref 0 0),(7,.ref 1 0),(8,.ref 2 0),(11,.ref 3 0),(13,.ref 4 0),(48,.it 5)]) (zRm some_ at_ y3 y4) ?_
  refine rx [.exit 0] 5 48 #[49] zD1 6 hy5 (zNM n some_ at_ y3) fun e he=>?_
  replace h:=zFI h
  rcases h with ⟨y5q,h⟩ | ⟨y5q,h⟩
  ·rw [eq_of_beq y5q] at he
   cases he
   revert h
   cases y5.1 with
   | s0 y5_0_0 y5_0_1=>
    intro h
    dsimp only at h
    revert r
    apply gO
    exact jt (lE zA4 [8,9] [2])
  ·replace h:=zFI h
   rcases h with ⟨y5q,h⟩ | ⟨y5q,h⟩
   ·rw [eq_of_beq y5q] at he
    cases he
    refine TrE.exitTo (by kernel_rfl) ?_
    revert h
    cases y5.1 with
    | s0 y5_0_0 y5_0_1=>
     intro h
     dsimp only at h
     revert r
     apply gO
     exact jt (lE zA4 [8,9] [2])
   ·cases h))))))))))))))
end Go.Proofs.YtekkngkphejfcaaGreatDoor
namespace Go.Proofs.YtekkngkphejfcaaGreatDoor
open Go.RowKit
theorem PEv.bindU {R T:Type} {a:Nat→Option T} {b:Nat→T→Option R} {A:T→Prop} {Q:R→Prop} (ha:PEv a A) (hb: ∃ M,∀ n,M≤n→∀ x,A x→∃ r,b n x=some r∧Q r):PEv (fun n=>(a n).bind (b n)) Q:=by
 obtain ⟨N,ha⟩:=ha
 obtain ⟨M,hb⟩:=hb
 refine ⟨max N M,fun n hn=>?_⟩
 obtain ⟨x,h1,h2⟩:=ha n (by omega)
 obtain ⟨r,h3,h4⟩:=hb n (by omega) x h2
 exact ⟨r,by show (a n).bind (b n)=_;rw [h1,Option.bind_some];exact h3,h4⟩
structure zY6 (g:List (List Int)):Prop where
 ok:zDg g=true
 row: ∀ r∈g,r.length≤LB
theorem zY6.gr {g:List (List Int)} (h:zY6 g):Gr g:=Gr.of h.ok h.row
section
variable {g:List (List Int)} {inn some':List Bool} {s:Int}
theorem zLk {sets:List (List Bool)} (hs: ∀ x∈sets,x.length=g.length) (hl:sets.length≤256): ∀ (k i n:Nat),i+k=sets.length→k+1≤n→zGc g sets n (.l1 (i:Int))=some 0
 | 0,i,n,e,hn=>by
  obtain ⟨n,rfl⟩: ∃ k,n=k+1:=⟨n-1,by omega⟩
  show zF2 n (zGc g sets n) g sets i=_
  unfold zF2
  rw [decide_eq_false (by omega),cond_false]
 | k+1,i,n,e,hn=>by
  obtain ⟨n,rfl⟩: ∃ k,n=k+1:=⟨n-1,by omega⟩
  have hi:i<sets.length:=by omega
  have hm:sets.getD i []∈sets:=by rw [List.getD_eq_getElem?_getD,List.getElem?_eq_getElem hi];exact List.getElem_mem hi
  have e2:(((sets.getD i []).length:Int) != (g.length:Int))=false:=by rw [hs _ hm];simp
  have:=zLk hs hl k (i+1) n (by omega) (by omega)
  show zF2 n (zGc g sets n) g sets i=_
  unfold zF2
  rw [decide_eq_true (by omega),cond_true,if_pos ⟨by omega,by omega⟩,Int.toNat_natCast,e2,cond_false,if_pos (zAG.2 ⟨by omega,by omega⟩)]
  exact this
theorem zQM (G:zY6 g) {sets:List (List Bool)} (hs: ∀ x∈sets,x.length=g.length) (hl:sets.length≤256):Ev (fun n=>zJh n g sets) 0:=by
 refine ⟨2*wid g+1+sets.length+1,fun n hn=>?_⟩
 show zJh n g sets=some 0
 unfold zJh zQL
 rw [zQR G.row (by omega),G.ok]
 exact zLk hs hl sets.length 0 n (by omega) (by omega)
theorem zTe {n:Nat}: ∀ (l x:List Int),(x++l).length≤LIM→zBA (zAw n) l (.s1 x.length x)=some (.s1 (x++l).length (x++l))
 | [],x,h=>by rw [List.append_nil];rfl
 | a::l,x,h=>by
  have e:x++a::l=x++[a]++l:=by simp
  rw [e] at h ⊢
  have h2:x.length+1≤LIM:=by simp only [List.length_append,List.length_singleton] at h;omega
  have e1:zAw n a (.s1 x.length x)=some (.s1 (x++[a]).length (x++[a])):=by
   unfold zAw zDi zCd
   dsimp only
   rw [if_pos ⟨⟨rfl,rfl⟩,⟨rfl,rfl⟩,by simpa using h2⟩,List.length_append]
  show (zAw n a (.s1 x.length x)).bind (zBA (zAw n) l)=_
  rw [e1,Option.bind_some]
  exact zTe l (x++[a]) h
theorem zVz {n:Nat} {l:List Int} (h0:l≠[]) (hl:l.length≤256):zKc n l=some (zIY l):=by
 have L:(1000000000000:Nat)=LIM:=rfl
 cases l with
 | nil=>exact absurd rfl h0
 | cons a l=>
  have e1:zAw n a .s0=some (.s1 [a].length [a]):=by
   unfold zAw zDi zCe
   dsimp only
   rw [if_pos ⟨⟨rfl,rfl⟩,by simp,by rw [←L];simp⟩]
  have e2:=zTe (n:=n) l [a] (by rw [←L];simp only [List.singleton_append];omega)
  have e3:zGH n (a::l)=some (a::l):=by
   unfold zGH zGG
   show ((zAw n a .s0).bind (zBA (zAw n) l)).bind _=_
   rw [e1,Option.bind_some,e2,Option.bind_some]
   dsimp only
   rw [if_pos rfl];rfl
  unfold zKc zKb zOS zI4
  rw [e3,Option.bind_some,Option.bind_some,if_pos (by rw [←L];omega),if_pos (zCy _).symm]
theorem zZg {l:List Int} (h: ∀ v,v∈l↔Rc g inn s v):l≠[]:=fun e=>by
 have:=(h s).2 .start
 rw [e] at this;cases this
theorem zWm (G:Gr g) (h0:0≤s) (h1:s<(g.length:Int)) {l:List Int} (hn:l.Nodup) (h: ∀ v,v∈l↔Rc g inn s v):l.length≤256:=
 Nat.le_trans (zJ2 g.length l hn fun x hx=>((h x).1 hx).rng G h0 h1) G.len
theorem zQh (G:zY6 g) (hI:inn.length=g.length) (h0:0≤s) (h1:s<(g.length:Int)) (hs:inn.getD s.toNat false=true):
 PEv (fun n=>zEY n g inn s) (fun r=>r.2=0∧r.1.length≤256∧∀ v,v∈r.1↔Rc g inn s v):=by
 have e: ∀ n,zEY n g inn s=(zJh n g [inn]).bind fun y1=>bif (y1 != 0) then some (([]:List Int),y1) else (zG2 n g s inn).bind fun y2=>(zKc n y2).bind fun y3=>some (y3,0):=fun n=>by
  unfold zEY zJk
  congr 1
  funext y1
  rw [decide_eq_false (by omega),cond_false,decide_eq_false (by omega),cond_false,if_pos ⟨by omega,by omega⟩,hs,Bool.not_true,cond_false]
 refine PEv.eq ?_ e
 refine PEv.bind (zQM G (fun x hx=>by rw [List.mem_singleton.1 hx];exact hI) (by simp)) ?_
 show PEv (fun n=>(zG2 n g s inn).bind fun y2=>(zKc n y2).bind fun y3=>some (y3,0)) _
 refine PEv.bindU (zNj G.gr hI h0 h1) ⟨0,fun n _ l hl=>?_⟩
 have hlen:=zWm G.gr h0 h1 hl.1 hl.2
 rw [zVz (zZg hl.2) hlen,Option.bind_some]
 exact ⟨_,rfl,rfl,by rw [zCy];exact hlen,fun v=>by rw [(zGL l).mem_iff];exact hl.2 v⟩
structure Pt (g:List (List Int)) (inn:List Bool) (i:Nat) (part:List Int) (many:Int):Prop where
 len:part.length=g.length
 m0:0≤many
 m1:many≤(i:Int)
 lo: ∀ v,v<g.length→0≤part.getD v 0∧part.getD v 0≤many
 isIn: ∀ v,v<g.length→0<part.getD v 0→inn.getD v false=true
 same: ∀ u v:Nat,u<g.length→v<g.length→0<part.getD u 0→Rc g inn u v→part.getD v 0=part.getD u 0
 con: ∀ u v:Nat,u<g.length→v<g.length→0<part.getD u 0→part.getD v 0=part.getD u 0→Rc g inn u v
 all: ∀ v,v<i→v<g.length→inn.getD v false=true→0<part.getD v 0
theorem zPr {n:Nat} {x13 m:Int}: ∀ (l:List Int) (part:List Int),part.length=g.length→(∀ v∈l,0≤v∧v<(g.length:Int))→
 ∃ part',zBA (zDd n g inn x13 m) l (.s0 part)=some (.s0 part')∧part'.length=g.length∧∀ v:Nat,part'.getD v 0=if (v:Int)∈l∧v<g.length then m+1 else part.getD v 0
 | [],part,hp,_=>⟨part,rfl,hp,fun v=>by simp⟩
 | a::l,part,hp,hl=>by
  have ha:=hl a List.mem_cons_self
  have e1:zDd n g inn x13 m a (.s0 part)=some (.s0 (part.set a.toNat (m+1))):=by
   unfold zDd zJY zDu
   dsimp only
   rw [if_pos ⟨ha,by omega⟩,Nat.zero_add]
  obtain ⟨part',h1,h2,h3⟩:=zPr (n:=n) (x13:=x13) (m:=m) l (part.set a.toNat (m+1)) (by rw [List.length_set];exact hp) fun v hv=>hl v (List.mem_cons_of_mem _ hv)
  refine ⟨part',?_,h2,fun v=>?_⟩
  ·show (zDd n g inn x13 m a (.s0 part)).bind (zBA (zDd n g inn x13 m) l)=_
   rw [e1,Option.bind_some];exact h1
  ·rw [h3]
   by_cases hv:(v:Int)∈l∧v<g.length
   ·rw [if_pos hv,if_pos ⟨List.mem_cons_of_mem _ hv.1,hv.2⟩]
   ·rw [if_neg hv]
    by_cases e:(v:Int)=a
    ·subst e
     rw [if_pos ⟨List.mem_cons_self,by omega⟩,Int.toNat_natCast,List.getD_eq_getElem?_getD,List.getElem?_set_self (by omega)];rfl
    ·rw [if_neg (fun h=>by
      rcases List.mem_cons.1 h.1 with h4 | h4
      ·exact e h4
      ·exact hv ⟨h4,h.2⟩),List.getD_eq_getElem?_getD,List.getElem?_set_ne (by omega),←List.getD_eq_getElem?_getD]
theorem Pt.go (G:Gr g) {i:Nat} {part part':List Int} {many:Int} (h:Pt g inn i part many) (hi:i<g.length) (hin:inn.getD i false=true) (h0: ¬ part.getD i 0>0) {l:List Int} (hl: ∀ v,v∈l↔Rc g inn i v) (hlen:part'.length=g.length)
 (hp: ∀ v:Nat,part'.getD v 0=if (v:Int)∈l∧v<g.length then many+1 else part.getD v 0):Pt g inn (i+1) part' (many+1):=by
 have m0:=h.m0
 have m1:=h.m1
 have yes: ∀ v:Nat,v<g.length→Rc g inn i v→part'.getD v 0=many+1:=fun v hv hr=>by rw [hp,if_pos ⟨(hl v).2 hr,hv⟩]
 have no: ∀ v:Nat,¬ Rc g inn i v→part'.getD v 0=part.getD v 0:=fun v hr=>by rw [hp,if_neg (fun h=>hr ((hl v).1 h.1))]
 have sym: ∀ u v:Nat,u<g.length→inn.getD u false=true→Rc g inn u v→Rc g inn v u:=fun u v hu hui hr=>hr.symm G (by omega) (by omega) (by rw [Int.toNat_natCast];exact hui)
 refine ⟨hlen,by omega,by omega,fun v hv=>?_,fun v hv hpos=>?_,fun u v hu hv hpos hr=>?_,fun u v hu hv hpos he=>?_,fun v hv hvl hvi=>?_⟩
 ·have:=h.lo v hv
  by_cases hr:Rc g inn i v
  ·rw [yes v hv hr];omega
  ·rw [no v hr];omega
 ·by_cases hr:Rc g inn i v
  ·have:=hr.isIn (by rw [Int.toNat_natCast];exact hin)
   rwa [Int.toNat_natCast] at this
  ·rw [no v hr] at hpos;exact h.isIn v hv hpos
 ·by_cases h1:Rc g inn i u
  ·rw [yes u hu h1,yes v hv (h1.trans hr)]
  ·rw [no u h1] at hpos ⊢
   have h2: ¬ Rc g inn i v:=fun h2=>h1 (h2.trans (sym u v hu (h.isIn u hu hpos) hr))
   rw [no v h2]
   exact h.same u v hu hv hpos hr
 ·have hb:=(h.lo v hv).2
  by_cases h1:Rc g inn i u
  ·rw [yes u hu h1] at he
   by_cases h2:Rc g inn i v
   ·exact (sym i u hi hin h1).trans h2
   ·rw [no v h2] at he;omega
  ·rw [no u h1] at hpos he
   have hb:=(h.lo u hu).2
   by_cases h2:Rc g inn i v
   ·rw [yes v hv h2] at he;omega
   ·rw [no v h2] at he
    exact h.con u v hu hv hpos he
 ·rcases Nat.lt_succ_iff_lt_or_eq.1 hv with hv | rfl
  ·have:=h.all v hv hvl hvi
   by_cases hr:Rc g inn i v
   ·rw [yes v hvl hr];omega
   ·rw [no v hr];exact this
  ·rw [yes v hvl .start];omega
def PtP (g:List (List Int)) (inn:List Bool) (r:List Int×Int):Prop:=r.1.length=g.length∧(∀ v,v<g.length→inn.getD v false=true→0<r.1.getD v 0)∧∀ u v:Nat,u<g.length→v<g.length→inn.getD u false=true→(r.1.getD v 0=r.1.getD u 0↔Rc g inn u v)
theorem zaC (G:Gr g) (hI:inn.length=g.length):PEv (fun n=>parts n g inn) (PtP g inn):=by
 have hG:=G.len
 obtain ⟨N,hN⟩:=PEv.range (F:=fun (i:Nat) n=>zG2 n g i inn) (A:=fun i l=>l.Nodup∧∀ v,v∈l↔Rc g inn i v) g.length fun i hi=>zNj G hI (by omega) (by omega)
 have hN: ∀ n,N≤n→∀ i:Nat,i<g.length→∃ l,zG2 n g i inn=some l∧l.Nodup∧∀ v,v∈l↔Rc g inn i v:=hN
 refine ⟨N+g.length+1,fun n hn=>?_⟩
 have S:=zIt (fun n (s:List Int×Int) i=>zIq g inn n (.l1 i s.1 s.2)) g.length (N+1) (fun i s=>Pt g inn i s.1 s.2) (fun n i s hn0 hi hP=>?_) (n:=n) (s:=(List.replicate g.length 0,0)) (by omega) ?_
 ·obtain ⟨n1,⟨part,many⟩,hn1,_,e1,hP⟩:=S
  obtain ⟨n2,rfl⟩: ∃ n2,n1=n2+1:=⟨n1-1,by omega⟩
  refine ⟨(part,many),?_,hP.len,fun v hv hi=>hP.all v hv hv hi,fun u v hu hv hi=>?_⟩
  ·show parts n g inn=some (part,many)
   unfold parts zS2
   rw [if_pos ⟨rfl,by omega,by omega⟩]
   refine Eq.trans e1 ?_
   show zHy n2 (zIq g inn n2) g inn (g.length:Int) part many=_
   unfold zHy
   rw [decide_eq_false (by omega),cond_false,if_pos hP.len.symm]
  ·have hu':=hP.all u hu hu hi
   exact ⟨hP.con u v hu hv hu',hP.same u v hu hv hu'⟩
 ·obtain ⟨part,many⟩:=s
  have hP:Pt g inn i part many:=hP
  have r1:R64 ((i:Int)+1):=zAG.2 ⟨by omega,by omega⟩
  show ∃ s',zHy n (zIq g inn n) g inn (i:Int) part many=_∧_
  unfold zHy
  simp only [Int.toNat_natCast,Nat.zero_add]
  rw [decide_eq_true (by omega),cond_true,if_pos ⟨by omega,by omega⟩]
  cases hin:inn.getD i false
  ·rw [Bool.not_false,cond_true,if_pos r1]
   have m1:=hP.m1
   refine ⟨(part,many),rfl,hP.len,hP.m0,by show many≤((i+1:Nat):Int);omega,hP.lo,hP.isIn,hP.same,hP.con,fun v hv hvl hvi=>?_⟩
   rcases Nat.lt_succ_iff_lt_or_eq.1 hv with hv | rfl
   ·exact hP.all v hv hvl hvi
   ·rw [hin] at hvi;cases hvi
  ·have hlen:=hP.len
   rw [Bool.not_true,cond_false,if_pos ⟨⟨by omega,by omega⟩,by omega⟩]
   by_cases h0:part.getD i 0>0
   ·rw [decide_eq_true h0,cond_true,if_pos r1]
    have m1:=hP.m1
    refine ⟨(part,many),rfl,hP.len,hP.m0,by show many≤((i+1:Nat):Int);omega,hP.lo,hP.isIn,hP.same,hP.con,fun v hv hvl hvi=>?_⟩
    rcases Nat.lt_succ_iff_lt_or_eq.1 hv with hv | rfl
    ·exact hP.all v hv hvl hvi
    ·exact h0
   ·obtain ⟨l,e2,hnd,hl⟩:=hN n (by omega) i hi
    obtain ⟨part',e3,h3,h4⟩:=zPr (n:=n) (inn:=inn) (x13:=(i:Int)) (m:=many) l part hP.len fun v hv=>((hl v).1 hv).rng G (by omega) (by omega)
    have m0:=hP.m0
    have m1:=hP.m1
    rw [decide_eq_false h0,cond_false,if_pos (zAG.2 ⟨by omega,by omega⟩),e2,Option.bind_some,e3,Option.bind_some]
    dsimp only
    rw [if_pos r1]
    exact ⟨(part',many+1),rfl,hP.go G hi hin h0 hl h3 h4⟩
 ·have z: ∀ v:Nat,(List.replicate g.length (0:Int)).getD v 0=0:=fun v=>by
   rw [List.getD_eq_getElem?_getD,List.getElem?_replicate];split <;> rfl
  exact ⟨by simp,Int.le_refl _,Int.le_refl _,fun v _=>by rw [z];exact ⟨Int.le_refl _,Int.le_refl _⟩,fun v _ h=>by rw [z] at h;omega,fun u v _ _ h=>by rw [z] at h;omega,fun u v _ _ h=>by rw [z] at h;omega,fun v hv=>absurd hv (Nat.not_lt_zero v)⟩
def Sp (g:List (List Int)) (inn some':List Bool) (a:Int):Prop:=∃ u v:Int,u≠a∧v≠a∧some'.getD u.toNat false=true∧some'.getD v.toNat false=true∧Rc g inn a u∧Rc g inn a v∧¬ Rc g (inn.set a.toNat false) u v
theorem zST {n:Nat} {a f:Int} {y3:List Int×Int} (hS:some'.length=g.length) (hy:y3.1.length=g.length) (hf:f≠0): ∀ (l:List Int),(∀ v∈l,0≤v∧v<(g.length:Int))→
 ∃ b f' c,zEV (zBB n some' a y3) l (.s0 false f)=some (.s0 b f',c)∧(c=0∨c=1)∧(b=true↔∃ v∈l,v≠a∧some'.getD v.toNat false=true∧y3.1.getD v.toNat 0≠f)
 | [],_=>⟨false,f,0,rfl,.inl rfl,by simp⟩
 | x::l,hl=>by
  have hx:=hl x List.mem_cons_self
  obtain ⟨b,f',c,h1,h2,h3⟩:=zST (n:=n) (a:=a) hS hy hf l fun v hv=>hl v (List.mem_cons_of_mem _ hv)
  have skip:zBB n some' a y3 x (.s0 false f)=some (.s0 false f,0)→¬ (x≠a∧some'.getD x.toNat false=true∧y3.1.getD x.toNat 0≠f)→∃ b f' c,zEV (zBB n some' a y3) (x::l) (.s0 false f)=some (.s0 b f',c)∧(c=0∨c=1)∧(b=true↔∃ v∈x::l,v≠a∧some'.getD v.toNat false=true∧y3.1.getD v.toNat 0≠f):=by
   intro e hn
   refine ⟨b,f',c,?_,h2,?_⟩
   ·unfold zEV
    rw [e,Option.bind_some];exact h1
   ·rw [h3]
    constructor
    ·rintro ⟨v,hv,h⟩
     exact ⟨v,List.mem_cons_of_mem _ hv,h⟩
    ·rintro ⟨v,hv,h⟩
     rcases List.mem_cons.1 hv with rfl | hv
     ·exact absurd h hn
     ·exact ⟨v,hv,h⟩
  have f0:(f==0)=false:=beq_eq_false_iff_ne.2 hf
  have U:zBB n some' a y3 x (.s0 false f)=zCL n some' a y3 x false f:=rfl
  unfold zCL at U
  by_cases e1:x=a
  ·have:(x==a)=true:=beq_iff_eq.2 e1
   rw [this,cond_true] at U
   exact skip U fun h=>h.1 e1
  ·have:(x==a)=false:=beq_eq_false_iff_ne.2 e1
   rw [this,cond_false,if_pos ⟨by omega,by omega⟩] at U
   cases e2:some'.getD x.toNat false
   ·rw [e2,Bool.not_false,cond_true] at U
    exact skip U fun h=>by rw [e2] at h;cases h.2.1
   ·rw [e2,Bool.not_true,cond_false,f0,cond_false,if_pos ⟨by omega,by omega⟩] at U
    by_cases e3:y3.1.getD x.toNat 0=f
    ·have e4:(y3.1.getD x.toNat 0 != f)=false:=by rw [e3];simp
     rw [e4,cond_false] at U
     exact skip U fun h=>h.2.2 e3
    ·have e4:(y3.1.getD x.toNat 0 != f)=true:=by simpa using e3
     rw [e4,cond_true] at U
     refine ⟨true,f,1,?_,.inr rfl,?_⟩
     ·unfold zEV
      rw [U,Option.bind_some];rfl
     ·exact ⟨fun _=>⟨x,List.mem_cons_self,e1,e2,e3⟩,fun _=>rfl⟩
theorem zSU {n:Nat} {a:Int} {y3:List Int×Int} (hS:some'.length=g.length) (hy:y3.1.length=g.length): ∀ (l:List Int),(∀ v∈l,0≤v∧v<(g.length:Int))→(∀ v∈l,v≠a→y3.1.getD v.toNat 0≠0)→
 ∃ b f' c,zEV (zBB n some' a y3) l (.s0 false 0)=some (.s0 b f',c)∧(c=0∨c=1)∧(b=true↔∃ u∈l,∃ v∈l,u≠a∧v≠a∧some'.getD u.toNat false=true∧some'.getD v.toNat false=true∧y3.1.getD v.toNat 0≠y3.1.getD u.toNat 0)
 | [],_,_=>⟨false,0,0,rfl,.inl rfl,by simp⟩
 | x::l,hl,hz=>by
  have hx:=hl x List.mem_cons_self
  have hl': ∀ v∈l,0≤v∧v<(g.length:Int):=fun v hv=>hl v (List.mem_cons_of_mem _ hv)
  have skip:zBB n some' a y3 x (.s0 false 0)=some (.s0 false 0,0)→¬ (x≠a∧some'.getD x.toNat false=true)→∃ b f' c,zEV (zBB n some' a y3) (x::l) (.s0 false 0)=some (.s0 b f',c)∧(c=0∨c=1)∧(b=true↔∃ u∈x::l,∃ v∈x::l,u≠a∧v≠a∧some'.getD u.toNat false=true∧some'.getD v.toNat false=true∧y3.1.getD v.toNat 0≠y3.1.getD u.toNat 0):=by
   intro e hn
   obtain ⟨b,f',c,h1,h2,h3⟩:=zSU (n:=n) (a:=a) hS hy l hl' fun v hv=>hz v (List.mem_cons_of_mem _ hv)
   refine ⟨b,f',c,?_,h2,?_⟩
   ·unfold zEV
    rw [e,Option.bind_some];exact h1
   ·rw [h3]
    constructor
    ·rintro ⟨u,hu,v,hv,h⟩
     exact ⟨u,List.mem_cons_of_mem _ hu,v,List.mem_cons_of_mem _ hv,h⟩
    ·rintro ⟨u,hu,v,hv,h4,h5,h6,h7,h8⟩
     rcases List.mem_cons.1 hu with rfl | hu
     ·exact absurd ⟨h4,h6⟩ hn
     ·rcases List.mem_cons.1 hv with rfl | hv
      ·exact absurd ⟨h5,h7⟩ hn
      ·exact ⟨u,hu,v,hv,h4,h5,h6,h7,h8⟩
  have U:zBB n some' a y3 x (.s0 false 0)=zCL n some' a y3 x false 0:=rfl
  unfold zCL at U
  by_cases e1:x=a
  ·have:(x==a)=true:=beq_iff_eq.2 e1
   rw [this,cond_true] at U
   exact skip U fun h=>h.1 e1
  ·have:(x==a)=false:=beq_eq_false_iff_ne.2 e1
   rw [this,cond_false,if_pos ⟨by omega,by omega⟩] at U
   cases e2:some'.getD x.toNat false
   ·rw [e2,Bool.not_false,cond_true] at U
    exact skip U fun h=>by rw [e2] at h;cases h.2
   ·have z0:((0:Int)==0)=true:=rfl
    rw [e2,Bool.not_true,cond_false,z0,cond_true,if_pos ⟨by omega,by omega⟩] at U
    obtain ⟨b,f',c,h1,h2,h3⟩:=zST (n:=n) (a:=a) hS hy (hz x List.mem_cons_self e1) l hl'
    refine ⟨b,f',c,?_,h2,?_⟩
    ·unfold zEV
     rw [U,Option.bind_some];exact h1
    ·rw [h3]
     constructor
     ·rintro ⟨v,hv,h4,h5,h6⟩
      exact ⟨x,List.mem_cons_self,v,List.mem_cons_of_mem _ hv,e1,h4,e2,h5,h6⟩
     ·rintro ⟨u,hu,v,hv,h4,h5,h6,h7,h8⟩
      by_cases e3:y3.1.getD u.toNat 0=y3.1.getD x.toNat 0
      ·rcases List.mem_cons.1 hv with rfl | hv
       ·exact absurd e3.symm h8
       ·exact ⟨v,hv,h5,h7,fun e=>h8 (e.trans e3.symm)⟩
      ·rcases List.mem_cons.1 hu with rfl | hu
       ·exact absurd rfl e3
       ·exact ⟨u,hu,h4,h6,e3⟩
theorem zVx (G:zY6 g) (hI:inn.length=g.length) (hS:some'.length=g.length) {a:Nat} (ha:a<g.length) (hia:inn.getD a false=true):
 PEv (fun n=>zKY n g inn some' (a:Int)) (fun r=>r.2=0∧(r.1=true↔Sp g inn some' (a:Int))):=by
 have hG:=G.gr.len
 have L:(1000000000000:Nat)=LIM:=rfl
 have hw: ∀ n,zKE n (a:Int) inn=some (inn.set a false):=fun n=>by
  unfold zKE zIU zLu zLt
  rw [if_pos ⟨by omega,trivial,⟨rfl,rfl⟩,by rw [←L];simp only [List.length_nil];omega⟩,if_pos (by simp),Option.bind_some,List.nil_append,if_pos ⟨⟨by omega,by omega⟩,by omega⟩,if_pos (by simp),Nat.zero_add,Int.toNat_natCast]
 have hI':(inn.set a false).length=g.length:=by rw [List.length_set];exact hI
 have e: ∀ n,zKY n g inn some' (a:Int)=(zJh n g [inn,some']).bind fun y1=>bif (y1 != 0) then some (false,y1) else (parts n g (inn.set a false)).bind fun y3=>(zG2 n g a inn).bind fun y4=>(zEV (zBB n some' a y3) y4 (.s0 false 0)).bind fun y5=>bif y5.2==0 then (match y5.1 with | .s0 b _=>some (b,0)) else bif y5.2==1 then (match y5.1 with | .s0 b _=>some (b,0)) else none:=fun n=>by
  unfold zKY zOv
  congr 1
  funext y1
  rw [decide_eq_false (by omega),cond_false,decide_eq_false (by omega),cond_false,if_pos ⟨by omega,by omega⟩,Int.toNat_natCast,hia,Bool.not_true,cond_false,hw,Option.bind_some]
 refine PEv.eq ?_ e
 refine PEv.bind (zQM G (fun x hx=>by
  rcases List.mem_cons.1 hx with rfl | hx
  ·exact hI
  ·rw [List.mem_singleton.1 hx];exact hS) (by simp)) ?_
 show PEv (R:=Bool×Int) (fun n=>(parts n g (inn.set a false)).bind fun y3=>(zG2 n g a inn).bind fun y4=>(zEV (zBB n some' a y3) y4 (.s0 false 0)).bind fun y5=>bif y5.2==0 then (match y5.1 with | .s0 b _=>some (b,0)) else bif y5.2==1 then (match y5.1 with | .s0 b _=>some (b,0)) else none) _
 obtain ⟨N,hN⟩:=zNj G.gr hI (s:=(a:Int)) (by omega) (by omega)
 refine PEv.bindU (zaC G.gr hI') ⟨N,fun n hn y3 hy=>?_⟩
 obtain ⟨l,hl,hnd,hlm⟩:=hN n hn
 have hl:zG2 n g (a:Int) inn=some l:=hl
 have hr: ∀ v∈l,0≤v∧v<(g.length:Int):=fun v hv=>((hlm v).1 hv).rng G.gr (by omega) (by omega)
 have hin: ∀ v∈l,v≠(a:Int)→(inn.set a false).getD v.toNat false=true:=fun v hv hne=>by
  have h1:=hr v hv
  rw [List.getD_eq_getElem?_getD,List.getElem?_set_ne (by omega),←List.getD_eq_getElem?_getD]
  exact ((hlm v).1 hv).isIn (by rw [Int.toNat_natCast];exact hia)
 obtain ⟨b,f',c,h1,h2,h3⟩:=zSU (n:=n) (some':=some') (a:=(a:Int)) (y3:=y3) hS hy.1 l hr fun v hv hne=>by
  have h1:=hr v hv
  have:=hy.2.1 v.toNat (by omega) (hin v hv hne)
  omega
 rw [hl,Option.bind_some,h1,Option.bind_some]
 refine ⟨(b,0),?_,rfl,?_⟩
 ·rcases h2 with rfl | rfl <;> rfl
 ·show b=true↔_
  rw [h3]
  have key: ∀ u v:Int,u∈l→v∈l→u≠a→(y3.1.getD v.toNat 0=y3.1.getD u.toNat 0↔Rc g (inn.set a false) u v):=fun u v hu hv hne=>by
   have h1:=hr u hu
   have h2:=hr v hv
   have:=hy.2.2 u.toNat v.toNat (by omega) (by omega) (hin u hu hne)
   rwa [Int.toNat_of_nonneg h1.1,Int.toNat_of_nonneg h2.1] at this
  constructor
  ·rintro ⟨u,hu,v,hv,h4,h5,h6,h7,h8⟩
   exact ⟨u,v,h4,h5,h6,h7,(hlm u).1 hu,(hlm v).1 hv,fun h=>h8 ((key u v hu hv h4).2 h)⟩
  ·rintro ⟨u,v,h4,h5,h6,h7,h8,h9,h10⟩
   have hu:=(hlm u).2 h8
   have hv:=(hlm v).2 h9
   exact ⟨u,hu,v,hv,h4,h5,h6,h7,fun h=>h10 ((key u v hu hv h4).1 h)⟩
end
end Go.Proofs.YtekkngkphejfcaaGreatDoor
namespace Go.Proofs.YtekkngkphejfcaaGreatDoor
open Go.RowKit
def zFQ (c:zAC) (pos:List Int) (a:Nat):Bool:=bits .andNot .i64 (zAI c pos a) c.set==0
def may (c:zAC) (pos:List Int) (a:Nat):Bool:=zFQ c pos a||(bits .and .i64 (zAI c pos a) c.set != 0)
def cnt (p:Nat→Bool) (i:Nat):Int:=(((List.range i).countP p:Nat):Int)
theorem zD3 {p:Nat→Bool} {i:Nat}:cnt p (i+1)=cnt p i+(if p i then 1 else 0):=by
 unfold cnt
 rw [List.range_succ,List.countP_append,List.countP_singleton]
 split <;> simp
theorem zTW {p:Nat→Bool} {i:Nat}:0≤cnt p i∧cnt p i≤i:=by
 unfold cnt
 have:=List.countP_le_length (p:=p) (l:=List.range i)
 rw [List.length_range] at this
 omega
def zGC (c:zAC) (pos:List Int):Bool:=!decide (cnt (zFQ c pos) c.cells.length>c.hi)&&!decide (cnt (may c pos) c.cells.length<c.lo)
def zF9 (c:zAC) (pos:List Int) (a s:Nat):Bool:=
 ((cnt (zFQ c pos) c.cells.length==c.hi)&&(bits .andNot .i64 (zAI c pos a) c.set != 0)&&tb c.set s)||((cnt (may c pos) c.cells.length==c.lo)&&(bits .and .i64 (zAI c pos a) c.set != 0)&&!tb c.set s)
section
variable {c:zAC} {k:Nat} {pos lost:List Int} {q:zAB}
theorem zYh {n:Nat} {x3 x4:Int} (W:zFS c k pos) (hl:lost.length=pos.length) (h3:x3=cnt (zFQ c pos) c.cells.length) (h4:x4=cnt (may c pos) c.cells.length) (hn:c.cells.length+1≤n):
 ∃ l,zCb c q pos pos.length lost n (.l2 x3 x4 0 lost)=some (true,l)∧zAf c pos lost c.cells.length (fun a s=>zF9 c pos a s=true) l:=by
 have lt: ∀ i,i<c.cells.length→((i:Nat):Int)<((c.cells.length:Nat):Int):=fun i hi=>by omega
 have T:=zIt (fun n (s:List Int) i=>zCb c q pos pos.length lost n (.l2 x3 x4 i s)) c.cells.length 1
  (fun i s=>zAf c pos lost i (fun a s=>zF9 c pos a s=true) s) (fun n i s hn0 hi hI=>?_) (n:=n) (s:=lost) (by omega) (zAf.zero hl)
 ·obtain ⟨n3,l,hn3,_,e2,hL⟩:=T
  obtain ⟨n4,rfl⟩: ∃ n4,n3=n4+1:=⟨n3-1,by omega⟩
  refine ⟨l,e2.trans ?_,hL⟩
  show zGA n4 (zCb c q pos pos.length lost n4) c q pos pos.length lost x3 x4 (c.cells.length:Int) l=_
  unfold zGA
  rw [decide_eq_false (by omega),cond_false]
 ·have hc:=W.cells i hi
  have hr:=W.r64 hi
  have key: ∀ l':List Int,l'.length=pos.length→(∀ j x,tb (l'.getD j 0) x=(tb (s.getD j 0) x||(decide (j=(c.cells.getD i 0).toNat)&&(tb (pos.getD j 0) x&&zF9 c pos i x))))→zAf c pos lost (i+1) (fun a s=>zF9 c pos a s=true) l':=by
   intro l' h1 h2
   refine hI.step h1 fun j x=>?_
   rw [h2,Bool.or_eq_true,Bool.and_eq_true,Bool.and_eq_true,decide_eq_true_iff]
   constructor
   ·rintro (h | ⟨rfl,h⟩)
    ·exact .inl h
    ·exact .inr ⟨rfl,h⟩
   ·rintro (h | ⟨rfl,h⟩)
    ·exact .inl h
    ·exact .inr ⟨rfl,h⟩
  obtain ⟨l1,e1,n1,f1⟩:=zCX (lost:=s) (n:=n) (ss:=c.set) (c:=c) (q:=q) hc.1 hc.2 hI.1
  obtain ⟨l2,e2,n2,f2⟩:=zLI (lost:=l1) (n:=n) (c:=c) (q:=q) hc.1 hc.2 n1
  obtain ⟨l3,e3,n3,f3⟩:=zLI (lost:=s) (n:=n) (c:=c) (q:=q) hc.1 hc.2 hI.1
  have d0:decide ((i:Int)<((c.cells.length:Nat):Int))=true:=decide_eq_true (lt i hi)
  have g0:(0:Int)≤(i:Int)∧(i:Int)<((c.cells.length:Nat):Int):=⟨by omega,lt i hi⟩
  show ∃ s',zGA n (zCb c q pos pos.length lost n) c q pos pos.length lost x3 x4 (i:Int) s=_∧_
  unfold zGA
  rw [d0,cond_true,if_pos g0]
  simp only [Int.toNat_natCast]
  have X: ∀ x,zF9 c pos i x=(((x3==c.hi)&&(bits .andNot .i64 (pos.getD (c.cells.getD i 0).toNat 0) c.set != 0)&&tb c.set x)||((x4==c.lo)&&(bits .and .i64 (pos.getD (c.cells.getD i 0).toNat 0) c.set != 0)&&!tb c.set x)):=fun x=>by rw [h3,h4];rfl
  cases hA:(x3==c.hi) <;> cases hC:(x4==c.lo) <;> cases hB:(bits .andNot .i64 (pos.getD (c.cells.getD i 0).toNat 0) c.set != 0) <;> cases hE:(bits .and .i64 (pos.getD (c.cells.getD i 0).toNat 0) c.set != 0) <;>
   simp only [hA,hB,hC,hE,Bool.true_and,Bool.false_and,Bool.and_false,Bool.and_true,Bool.or_false,Bool.false_or] at X <;>
   simp only [cond_true,cond_false,if_pos hc,e1,e2,e3,Option.bind_some,if_pos hr.2]
  all_goals first
   | exact ⟨s,rfl,key s hI.1 fun j x=>by rw [X,Bool.and_false,Bool.and_false,Bool.or_false]⟩
   | exact ⟨l1,rfl,key l1 n1 fun j x=>by rw [f1,X]⟩
   | exact ⟨l3,rfl,key l3 n3 fun j x=>by rw [f3,X]⟩
   | exact ⟨l2,rfl,key l2 n2 fun j x=>by
    rw [f2,f1,X]
    cases tb (s.getD j 0) x <;> cases decide (j=(c.cells.getD i 0).toNat) <;> cases tb (pos.getD j 0) x <;> cases tb c.set x <;> rfl⟩
theorem zVV {n:Nat} (W:zFS c k pos) (hl:lost.length=pos.length) (hn:2*c.cells.length+3≤n):
 ∃ l,zM9 n c q pos pos.length lost=some (zGC c pos,l)∧(zGC c pos=true→zAf c pos lost c.cells.length (fun a s=>zF9 c pos a s=true) l):=by
 have lt: ∀ i,i<c.cells.length→((i:Nat):Int)<((c.cells.length:Nat):Int):=fun i hi=>by omega
 have S:=zIt (fun n (s:Int×Int) i=>zCb c q pos pos.length lost n (.l1 s.1 s.2 i)) c.cells.length (c.cells.length+3)
  (fun i s=>s.1=cnt (zFQ c pos) i∧s.2=cnt (may c pos) i) (fun n i s _ hi hI=>?_) (n:=n) (s:=(0,0)) (by omega) ⟨rfl,rfl⟩
 ·obtain ⟨n1,⟨x3,x4⟩,hn1,_,e1,h3,h4⟩:=S
  obtain ⟨n2,rfl⟩: ∃ n2,n1=n2+1:=⟨n1-1,by omega⟩
  have e2:zM9 n c q pos pos.length lost=zGB n2 (zCb c q pos pos.length lost n2) c q pos pos.length lost x3 x4 (c.cells.length:Int):=e1
  have h3:x3=cnt (zFQ c pos) c.cells.length:=h3
  have h4:x4=cnt (may c pos) c.cells.length:=h4
  unfold zGB at e2
  rw [decide_eq_false (by omega),cond_false] at e2
  unfold zGC
  rw [←h3,←h4]
  cases h5:decide (x3>c.hi)
  ·cases h6:decide (x4<c.lo)
   ·obtain ⟨l,e3,hL⟩:=zYh (q:=q) (n:=n2) W hl h3 h4 (by omega)
    rw [h5,h6,cond_false,cond_false,e3] at e2
    exact ⟨l,e2,fun _=>hL⟩
   ·rw [h5,h6,cond_false,cond_true] at e2
    exact ⟨lost,e2,fun h=>by cases h⟩
  ·rw [h5,cond_true] at e2
   exact ⟨lost,e2,fun h=>by cases h⟩
 ·obtain ⟨x3,x4⟩:=s
  obtain ⟨h3,h4⟩:=hI
  simp only at h3 h4
  have hc:=W.cells i hi
  have hr:=W.r64 hi
  have b3:=zTW (p:=zFQ c pos) (i:=i)
  have b4:=zTW (p:=may c pos) (i:=i)
  have hlen:=W.len
  have r3:R64 (x3+1):=zAG.2 ⟨by omega,by omega⟩
  have r4:R64 (x4+1):=zAG.2 ⟨by omega,by omega⟩
  show ∃ s',zGB n (zCb c q pos pos.length lost n) c q pos pos.length lost x3 x4 (i:Int)=_∧_
  unfold zGB
  rw [decide_eq_true (lt i hi),cond_true]
  simp only [Int.toNat_natCast]
  rw [if_pos ⟨⟨by omega,lt i hi⟩,hc⟩]
  have m1:(bits .andNot .i64 (pos.getD (c.cells.getD i 0).toNat 0) c.set==0)=zFQ c pos i:=rfl
  have m2:(zFQ c pos i||(bits .and .i64 (pos.getD (c.cells.getD i 0).toNat 0) c.set != 0))=may c pos i:=rfl
  rw [m1]
  cases hm:zFQ c pos i
  ·rw [hm,Bool.false_or] at m2
   rw [cond_false,m2]
   cases hy:may c pos i
   ·rw [cond_false,if_pos hr.2]
    exact ⟨(x3,x4),rfl,by rw [zD3,hm];simpa using h3,by rw [zD3,hy];simpa using h4⟩
   ·rw [cond_true,if_pos ⟨r4,hr.2⟩]
    exact ⟨(x3,x4+1),rfl,by rw [zD3,hm];simpa using h3,by rw [zD3,hy];simpa using h4⟩
  ·have hy:may c pos i=true:=by rw [←m2,hm];rfl
   rw [cond_true,if_pos ⟨r3,r4,hr.2⟩]
   exact ⟨(x3+1,x4+1),rfl,by rw [zD3,hm];simpa using h3,by rw [zD3,hy];simpa using h4⟩
end
end Go.Proofs.YtekkngkphejfcaaGreatDoor
namespace Go.Proofs.YtekkngkphejfcaaGreatDoor
open Go.RowKit
theorem zbP (x:Int) (i:Nat):tb (IntKind.i64.wrap x) i=tb x i:=by unfold tb;rw [zER]
theorem zGl {s:Nat} (hs:s<64) (i:Nat):tb (IntKind.i64.wrap (1*2 ^ s)) i=decide (s=i):=by
 rw [zbP,Int.one_mul]
 rcases Nat.lt_or_ge i 64 with h | h
 ·have e:((2 ^ s:Nat):Int)=(2:Int) ^ s:=by simp
  rw [←e];exact zVt h
 ·rw [zQ3 h,decide_eq_false (by omega)]
theorem zAd {k:Nat} {x:Int} (h:Sm k x) (hk:k≤62) {e:Int}:e∈zAj x↔∃ s:Nat,e=(s:Int)∧s<k∧tb x s=true:=by
 obtain ⟨m,rfl⟩:=Int.eq_ofNat_of_zero_le h.1
 unfold zAj zBt
 simp only [List.mem_map,List.mem_filter,List.mem_range,Int.toNat_natCast]
 constructor
 ·rintro ⟨s,⟨h1,h2⟩,rfl⟩
  have h3:tb (m:Int) s=true:=by rw [zFK m s h1];exact h2
  refine ⟨s,rfl,?_,h3⟩
  refine Nat.lt_of_not_le fun hle=>?_
  rw [h.hi hle] at h3;cases h3
 ·rintro ⟨s,rfl,h1,h2⟩
  exact ⟨s,⟨by omega,by rw [zFK m s (by omega)] at h2;exact h2⟩,rfl⟩
theorem zID {α σ:Type} {f:α→σ→Option σ} (Inv:List α→σ→Prop): ∀ (l pre:List α) (s:σ),Inv pre s→(∀ pre x s,x∈l→Inv pre s→∃ s',f x s=some s'∧Inv (pre++[x]) s')→∃ s',zBA f l s=some s'∧Inv (pre++l) s'
 | [],pre,s,h,_=>⟨s,rfl,by rw [List.append_nil];exact h⟩
 | x::l,pre,s,h,hs=>by
  obtain ⟨s',h1,h2⟩:=hs pre x s (.head _) h
  obtain ⟨s2,h3,h4⟩:=zID Inv l (pre++[x]) s' h2 fun pre y s hy=>hs pre y s (.tail _ hy)
  refine ⟨s2,?_,by rw [List.append_assoc] at h4;exact h4⟩
  simp only [zBA]
  rw [h1,Option.bind_some,h3]
structure zMA (q:zAB) (k:Nat):Prop where
 len:k≤q.values.length
 val: ∀ s,s<k→0≤q.values.getD s 0∧q.values.getD s 0≤99
def loF (q:zAB) (a e:Int):Int:=if q.values.getD e.toNat 0<a then q.values.getD e.toNat 0 else a
def hiF (q:zAB) (a e:Int):Int:=if q.values.getD e.toNat 0>a then q.values.getD e.toNat 0 else a
def loV (q:zAB) (x:Int):Int:=(zAj x).foldl (loF q) 100
def hiV (q:zAB) (x:Int):Int:=(zAj x).foldl (hiF q) (-1)
section
variable {c:zAC} {k:Nat} {pos lost:List Int} {q:zAB}
theorem zP4: ∀ (l:List Int) (a:Int),(∀ e∈l,0≤q.values.getD e.toNat 0∧q.values.getD e.toNat 0≤99)→0≤a∧a≤100→0≤l.foldl (loF q) a∧l.foldl (loF q) a≤100
 | [],_,_,h=>h
 | e::l,a,hv,h=>by
  have:=hv e (.head _)
  refine zP4 l (loF q a e) (fun e he=>hv e (.tail _ he)) ?_
  unfold loF;split <;> omega
theorem zQI: ∀ (l:List Int) (a:Int),(∀ e∈l,0≤q.values.getD e.toNat 0∧q.values.getD e.toNat 0≤99)→-1≤a∧a≤99→-1≤l.foldl (hiF q) a∧l.foldl (hiF q) a≤99
 | [],_,_,h=>h
 | e::l,a,hv,h=>by
  have:=hv e (.head _)
  refine zQI l (hiF q a e) (fun e he=>hv e (.tail _ he)) ?_
  unfold hiF;split <;> omega
theorem zMA.sym (V:zMA q k) (hk:k≤16) {x:Int} (h:Sm k x): ∀ e∈zAj x,(0≤e∧e<((q.values.length:Nat):Int))∧0≤q.values.getD e.toNat 0∧q.values.getD e.toNat 0≤99:=by
 intro e he
 obtain ⟨s,rfl,h1,_⟩:=(zAd h (Nat.le_trans hk (by decide))).1 he
 have:=V.len
 rw [Int.toNat_natCast]
 exact ⟨by omega,V.val s h1⟩
theorem zMA.lo (V:zMA q k) (hk:k≤16) {x:Int} (h:Sm k x):0≤loV q x∧loV q x≤100:=zP4 _ _ (fun e he=>(V.sym hk h e he).2) (by decide)
theorem zMA.hi (V:zMA q k) (hk:k≤16) {x:Int} (h:Sm k x): -1≤hiV q x∧hiV q x≤99:=zQI _ _ (fun e he=>(V.sym hk h e he).2) (by decide)
theorem zQZ {n ln:Nat}: ∀ (l:List Int) (a b:Int),(∀ e∈l,0≤e∧e<((q.values.length:Nat):Int))→zBA (zIG n c q pos ln lost) l (.s0 a b)=some (.s0 (l.foldl (loF q) a) (l.foldl (hiF q) b))
 | [],_,_,_=>rfl
 | e::l,a,b,h=>by
  have e1:zIG n c q pos ln lost e (.s0 a b)=some (.s0 (loF q a e) (hiF q b e)):=by
   unfold zIG zLp zLq
   dsimp only
   rw [if_pos (h e (.head _))];rfl
  simp only [zBA]
  rw [e1,Option.bind_some,zQZ l _ _ fun e he=>h e (.tail _ he)]
  rfl
theorem zQY {n ln:Nat} (V:zMA q k) (hk:k≤16) {x:Int} (h:Sm k x):zYY n x c q pos ln lost=some (loV q x,hiV q x,lost):=by
 have h62:=zCt (k:=k) (Nat.le_trans hk (by decide))
 have h2:=h.2
 unfold zYY zTQ
 rw [if_pos ⟨h.1,by omega⟩,zQZ (zAj x) 100 (-1) fun e he=>(V.sym hk h e he).1]
 rfl
def tot (f:Nat→Int):Nat→Int
 | 0=>0
 | i+1=>tot f i+f i
theorem zOc {f:Nat→Int}: ∀ (i:Nat),(∀ a,a<i→-1≤f a∧f a≤100)→-(i:Int)≤tot f i∧tot f i≤100*(i:Int)
 | 0,_=>by simp [tot]
 | i+1,h=>by
  have h1:=zOc i fun a ha=>h a (by omega)
  have h2:=h i (by omega)
  simp only [tot]
  omega
def zOA (q:zAB) (c:zAC) (pos:List Int):Int:=tot (fun a=>loV q (zAI c pos a)) c.cells.length
def zIB (q:zAB) (c:zAC) (pos:List Int):Int:=tot (fun a=>hiV q (zAI c pos a)) c.cells.length
def zOr (q:zAB) (c:zAC) (pos:List Int):Bool:=!decide (zOA q c pos>c.hi)&&!decide (zIB q c pos<c.lo)
def zSS (q:zAB) (c:zAC) (pos:List Int) (a s:Nat):Bool:=
 decide (zOA q c pos-loV q (zAI c pos a)+q.values.getD s 0>c.hi)||decide (zIB q c pos-hiV q (zAI c pos a)+q.values.getD s 0<c.lo)
theorem zP3 {T:Type} {n:Nat} (W:zFS c k pos) {i:Nat} (hi:i<c.cells.length) (hl:lost.length=pos.length) (mk:List Int→T) (f:Int→T→Option T) (X:Nat→Bool)
 (hf: ∀ (s:Nat) (l:List Int),s<k→l.length=pos.length→f (s:Int) (mk l)=bif X s then (zC8 n (c.cells.getD i 0) (IntKind.i64.wrap (1*2 ^ s)) c q pos pos.length l).map mk else some (mk l)):
 ∃ l',zBA f (zAj (zAI c pos i)) (mk lost)=some (mk l')∧l'.length=pos.length∧
  ∀ j s,tb (l'.getD j 0) s=true↔tb (lost.getD j 0) s=true∨((c.cells.getD i 0).toNat=j∧tb (zAI c pos i) s=true∧X s=true):=by
 have hc:=W.cells i hi
 have hsm:=W.at hi
 have hk:=W.k
 have key:=zID (f:=f)
  (fun pre s=>∃ l',s=mk l'∧l'.length=pos.length∧∀ j s,tb (l'.getD j 0) s=true↔tb (lost.getD j 0) s=true∨((c.cells.getD i 0).toNat=j∧tb (zAI c pos i) s=true∧(s:Int)∈pre∧X s=true))
  (zAj (zAI c pos i)) [] (mk lost) ⟨lost,rfl,hl,fun j s=>⟨.inl,fun h=>h.elim id fun h=>(by cases h.2.2.1)⟩⟩ ?_
 ·obtain ⟨_,h1,l',rfl,h2,h3⟩:=key
  refine ⟨l',h1,h2,fun j s=>?_⟩
  rw [h3,List.nil_append]
  constructor
  ·rintro (h | ⟨a1,a2,_,a3⟩)
   ·exact .inl h
   ·exact .inr ⟨a1,a2,a3⟩
  ·rintro (h | ⟨a1,a2,a3⟩)
   ·exact .inl h
   ·refine .inr ⟨a1,a2,(zAd hsm (Nat.le_trans hk (by decide))).2 ⟨s,rfl,Nat.lt_of_not_le fun hle=>?_,a2⟩,a3⟩
    rw [hsm.hi hle] at a2;cases a2
 ·rintro pre e _ he ⟨l',rfl,h2,h3⟩
  obtain ⟨s,rfl,hs,hbit⟩:=(zAd hsm (Nat.le_trans hk (by decide))).1 he
  rw [hf s l' hs h2]
  cases hx:X s
  ·rw [cond_false]
   refine ⟨_,rfl,l',rfl,h2,fun j x=>?_⟩
   rw [h3]
   constructor
   ·rintro (h | ⟨a1,a2,a3,a4⟩)
    ·exact .inl h
    ·exact .inr ⟨a1,a2,List.mem_append_left _ a3,a4⟩
   ·rintro (h | ⟨a1,a2,a3,a4⟩)
    ·exact .inl h
    ·rcases List.mem_append.1 a3 with a3 | a3
     ·exact .inr ⟨a1,a2,a3,a4⟩
     ·have:x=s:=by have:=List.mem_singleton.1 a3;omega
      subst this
      rw [hx] at a4;cases a4
  ·obtain ⟨l2,e2,n2,f2⟩:=zCX (lost:=l') (n:=n) (ss:=IntKind.i64.wrap (1*2 ^ s)) (c:=c) (q:=q) hc.1 hc.2 h2
   rw [cond_true,e2,Option.map_some]
   refine ⟨_,rfl,l2,rfl,n2,fun j x=>?_⟩
   rw [f2,Bool.or_eq_true,Bool.and_eq_true,Bool.and_eq_true,decide_eq_true_iff,h3,zGl (by omega),decide_eq_true_iff]
   constructor
   ·rintro ((h | ⟨a1,a2,a3,a4⟩) | ⟨rfl,a2,rfl⟩)
    ·exact .inl h
    ·exact .inr ⟨a1,a2,List.mem_append_left _ a3,a4⟩
    ·exact .inr ⟨rfl,a2,List.mem_append_right _ (.head _),hx⟩
   ·rintro (h | ⟨a1,a2,a3,a4⟩)
    ·exact .inl (.inl h)
    ·rcases List.mem_append.1 a3 with a3 | a3
     ·exact .inl (.inr ⟨a1,a2,a3,a4⟩)
     ·have:x=s:=by have:=List.mem_singleton.1 a3;omega
      subst this
      subst a1
      exact .inr ⟨rfl,a2,rfl⟩
theorem zZC {n:Nat} (W:zFS c k pos) (V:zMA q k) {i:Nat} (hi:i<c.cells.length) {low high:Int} (hlow:low=zOA q c pos) (hhigh:high=zIB q c pos) (hl:lost.length=pos.length):
 ∃ l',zBA (zJt n c (i:Int) q pos pos.length low high (loV q (zAI c pos i),hiV q (zAI c pos i),lost)) (zAj (zAI c pos i)) (.s0 lost)=some (.s0 l')∧l'.length=pos.length∧
  ∀ j s,tb (l'.getD j 0) s=true↔tb (lost.getD j 0) s=true∨((c.cells.getD i 0).toNat=j∧tb (zAI c pos i) s=true∧zSS q c pos i s=true):=by
 have hc:=W.cells i hi
 have hsm:=W.at hi
 have hk:=W.k
 have hlen:=W.len
 have bl:=V.lo hk hsm
 have bh:=V.hi hk hsm
 have tl:=zOc (f:=fun a=>loV q (zAI c pos a)) c.cells.length fun a ha=>by have:=V.lo hk (W.at ha);omega
 have th:=zOc (f:=fun a=>hiV q (zAI c pos a)) c.cells.length fun a ha=>by have:=V.hi hk (W.at ha);omega
 have tl: -(c.cells.length:Int)≤low∧low≤100*(c.cells.length:Int):=by rw [hlow];exact tl
 have th: -(c.cells.length:Int)≤high∧high≤100*(c.cells.length:Int):=by rw [hhigh];exact th
 refine zP3 (n:=n) (q:=q) W hi hl zCK.s0 _ (zSS q c pos i) fun s l hs hl=>?_
 have hv:=V.val s hs
 have hvl:=V.len
 have r1:R64 (low-loV q (zAI c pos i)):=zAG.2 ⟨by omega,by omega⟩
 have r2:R64 (low-loV q (zAI c pos i)+q.values.getD s 0):=zAG.2 ⟨by omega,by omega⟩
 have r3:R64 (high-hiV q (zAI c pos i)):=zAG.2 ⟨by omega,by omega⟩
 have r4:R64 (high-hiV q (zAI c pos i)+q.values.getD s 0):=zAG.2 ⟨by omega,by omega⟩
 have g1:(0:Int)≤(s:Int)∧(s:Int)<((q.values.length:Nat):Int):=by omega
 have g2:(0:Int)≤(s:Int)∧(s:Int)≤((IntKind.i64.bits:Nat):Int):=⟨by omega,by show (s:Int)≤64;omega⟩
 obtain ⟨l2,e2,_,_⟩:=zCX (lost:=l) (n:=n) (ss:=IntKind.i64.wrap (1*2 ^ s)) (c:=c) (q:=q) hc.1 hc.2 hl
 have X:zSS q c pos i s=(decide (low-loV q (zAI c pos i)+q.values.getD s 0>c.hi)||decide (high-hiV q (zAI c pos i)+q.values.getD s 0<c.lo)):=by rw [hlow,hhigh];rfl
 rw [X]
 unfold zJt zKW zEj
 dsimp only
 simp only [Int.toNat_natCast]
 rw [if_pos ⟨g1,r1,r2⟩]
 cases hA:decide (low-loV q (zAI c pos i)+q.values.getD s 0>c.hi)
 ·rw [cond_false,if_pos ⟨r3,r4⟩,Bool.false_or]
  cases hB:decide (high-hiV q (zAI c pos i)+q.values.getD s 0<c.lo)
  ·rfl
  ·rw [cond_true,cond_true,if_pos g2,e2];rfl
 ·rw [cond_true,Bool.true_or,cond_true,if_pos g2,e2];rfl
theorem zbR {n:Nat} (W:zFS c k pos) (V:zMA q k) (hl:lost.length=pos.length) (hn:c.cells.length+1≤n):
 ∃ l,zFY c q pos pos.length lost n (.l2 0 lost (zOA q c pos) (zIB q c pos))=some (true,l)∧zAf c pos lost c.cells.length (fun a s=>zSS q c pos a s=true) l:=by
 have lt: ∀ i,i<c.cells.length→((i:Nat):Int)<((c.cells.length:Nat):Int):=fun i hi=>by omega
 have T:=zIt (fun n (s:List Int) i=>zFY c q pos pos.length lost n (.l2 i s (zOA q c pos) (zIB q c pos))) c.cells.length 1
  (fun i s=>zAf c pos lost i (fun a s=>zSS q c pos a s=true) s) (fun n i s hn0 hi hI=>?_) (n:=n) (s:=lost) (by omega) (zAf.zero hl)
 ·obtain ⟨n3,l,hn3,_,e2,hL⟩:=T
  obtain ⟨n4,rfl⟩: ∃ n4,n3=n4+1:=⟨n3-1,by omega⟩
  refine ⟨l,e2.trans ?_,hL⟩
  show zKU n4 (zFY c q pos pos.length lost n4) c q pos pos.length lost (c.cells.length:Int) l _ _=_
  unfold zKU
  rw [decide_eq_false (by omega),cond_false]
 ·have hc:=W.cells i hi
  have hr:=W.r64 hi
  have hsm:=W.at hi
  have h62:=zCt (k:=k) (Nat.le_trans W.k (by decide))
  have hs2:=hsm.2
  obtain ⟨l',e1,n1,f1⟩:=zZC (n:=n) W V hi rfl rfl hI.1
  show ∃ s',zKU n (zFY c q pos pos.length lost n) c q pos pos.length lost (i:Int) s _ _=_∧_
  unfold zKU
  rw [decide_eq_true (lt i hi),cond_true]
  simp only [Int.toNat_natCast]
  have sa:pos.getD (c.cells.getD i 0).toNat 0=zAI c pos i:=rfl
  rw [if_pos ⟨⟨by omega,lt i hi⟩,hc⟩,sa,zQY V W.k hsm,Option.bind_some,if_pos ⟨hsm.1,by show zAI c pos i<_;omega⟩]
  refine ⟨l',?_,hI.step n1 f1⟩
  refine (congrArg (fun z=>Option.bind z _) e1).trans ?_
  rw [Option.bind_some]
  simp only
  rw [if_pos hr.2]
theorem zZB {n:Nat} (W:zFS c k pos) (V:zMA q k) (hl:lost.length=pos.length) (hn:2*c.cells.length+3≤n):
 ∃ l,zcR n c q pos pos.length lost=some (zOr q c pos,l)∧(zOr q c pos=true→zAf c pos lost c.cells.length (fun a s=>zSS q c pos a s=true) l):=by
 have lt: ∀ i,i<c.cells.length→((i:Nat):Int)<((c.cells.length:Nat):Int):=fun i hi=>by omega
 have S:=zIt (fun n (s:List Int×Int×Int) i=>zFY c q pos pos.length lost n (.l1 i s.1 s.2.1 s.2.2)) c.cells.length (c.cells.length+3)
  (fun i s=>s.1=lost∧s.2.1=tot (fun a=>loV q (zAI c pos a)) i∧s.2.2=tot (fun a=>hiV q (zAI c pos a)) i) (fun n i s _ hi hI=>?_) (n:=n) (s:=(lost,0,0)) (by omega) ⟨rfl,rfl,rfl⟩
 ·obtain ⟨n1,⟨l0,x3,x4⟩,hn1,_,e1,h0,h3,h4⟩:=S
  obtain ⟨n2,rfl⟩: ∃ n2,n1=n2+1:=⟨n1-1,by omega⟩
  obtain rfl:l0=lost:=h0
  obtain rfl:x3=zOA q c pos:=h3
  obtain rfl:x4=zIB q c pos:=h4
  have e2:zcR n c q pos pos.length l0=zKV n2 (zFY c q pos pos.length l0 n2) c q pos pos.length l0 (c.cells.length:Int) l0 (zOA q c pos) (zIB q c pos):=e1
  unfold zKV at e2
  rw [decide_eq_false (by omega),cond_false] at e2
  unfold zOr
  cases h5:decide (zOA q c pos>c.hi)
  ·cases h6:decide (zIB q c pos<c.lo)
   ·obtain ⟨l,e3,hL⟩:=zbR (n:=n2) W V hl (by omega)
    rw [h5,h6,cond_false,cond_false,e3] at e2
    exact ⟨l,e2,fun _=>hL⟩
   ·rw [h5,h6,cond_false,cond_true] at e2
    exact ⟨l0,e2,fun h=>by cases h⟩
  ·rw [h5,cond_true] at e2
   exact ⟨l0,e2,fun h=>by cases h⟩
 ·obtain ⟨l0,x3,x4⟩:=s
  obtain ⟨h0,h3,h4⟩:=hI
  simp only at h0 h3 h4
  have hc:=W.cells i hi
  have hr:=W.r64 hi
  have hsm:=W.at hi
  have b3:=zOc (f:=fun a=>loV q (zAI c pos a)) i fun a ha=>by have:=V.lo W.k (W.at (Nat.lt_trans ha hi));omega
  have b4:=zOc (f:=fun a=>hiV q (zAI c pos a)) i fun a ha=>by have:=V.hi W.k (W.at (Nat.lt_trans ha hi));omega
  have bl:=V.lo W.k hsm
  have bh:=V.hi W.k hsm
  have hlen:=W.len
  rw [←h3] at b3
  rw [←h4] at b4
  have r3:R64 (x3+loV q (zAI c pos i)):=zAG.2 ⟨by omega,by omega⟩
  have r4:R64 (x4+hiV q (zAI c pos i)):=zAG.2 ⟨by omega,by omega⟩
  show ∃ s',zKV n (zFY c q pos pos.length lost n) c q pos pos.length lost (i:Int) l0 x3 x4=_∧_
  unfold zKV
  rw [decide_eq_true (lt i hi),cond_true]
  simp only [Int.toNat_natCast]
  have sa:pos.getD (c.cells.getD i 0).toNat 0=zAI c pos i:=rfl
  rw [if_pos ⟨⟨by omega,lt i hi⟩,hc⟩,sa,zQY V W.k hsm,Option.bind_some,if_pos ⟨r3,r4,hr.2⟩]
  exact ⟨(l0,x3+loV q (zAI c pos i),x4+hiV q (zAI c pos i)),rfl,h0,by simp only [tot];rw [h3],by simp only [tot];rw [h4]⟩
end
end Go.Proofs.YtekkngkphejfcaaGreatDoor
namespace Go.Proofs.YtekkngkphejfcaaGreatDoor
open Go.RowKit
set_option maxRecDepth 100000
set_option maxHeartbeats 40000000
def zOi:ST:=.rd 0 (.rd 1 (.rd 3 (.rd 4 (.ef 2 (.ef 5 (.ef 6 (.ef 7 (.ef 8 (.ef 9 (.fin [0,1,2,3] [1,3,4,5,58,91,92,104,148]) (.no)) (.no)) (.no)) (.ef 7 (.ef 6 (.ef 8 (.ef 9 (.fin [0,1,3,2] [1,3,4,5,58,91,92,104,148]) (.no)) (.no)) (.no)) (.no))) (.ef 6 (.ef 5 (.ef 7 (.ef 8 (.ef 9 (.fin [0,2,1,3] [1,3,4,5,58,91,92,104,148]) (.no)) (.no)) (.no)) (.ef 7 (.ef 5 (.ef 8 (.ef 9 (.fin [0,3,1,2] [1,3,4,5,58,91,92,104,148]) (.no)) (.no)) (.ef 8 (.ef 5 (.ef 9 (.fin [0,3,1,2] [1,3,4,5,58,91,92,104,148]) (.no)) (.no)) (.no))) (.no))) (.ef 7 (.ef 5 (.ef 6 (.ef 8 (.ef 9 (.fin [0,2,3,1] [1,3,4,5,58,91,92,104,148]) (.no)) (.no)) (.no)) (.ef 6 (.ef 5 (.ef 8 (.ef 9 (.fin [0,3,2,1] [1,3,4,5,58,91,92,104,148]) (.no)) (.no)) (.ef 8 (.ef 5 (.ef 9 (.fin [0,3,2,1] [1,3,4,5,58,91,92,104,148]) (.no)) (.no)) (.no))) (.no))) (.no)))) (.ef 5 (.ef 2 (.ef 6 (.ef 7 (.ef 8 (.ef 9 (.fin [1,0,2,3] [1,3,4,5,58,91,92,104,148]) (.no)) (.no)) (.no)) (.ef 7 (.ef 6 (.ef 8 (.ef 9 (.fin [1,0,3,2] [1,3,4,5,58,91,92,104,148]) (.no)) (.no)) (.no)) (.no))) (.ef 6 (.ef 2 (.ef 7 (.ef 8 (.ef 9 (.fin [2,0,1,3] [1,3,4,5,58,91,92,104,148]) (.no)) (.no)) (.no)) (.ef 7 (.ef 2 (.ef 8 (.ef 9 (.fin [3,0,1,2] [1,3,4,5,58,91,92,104,148]) (.no)) (.no)) (.no)) (.no))) (.ef 7 (.ef 2 (.ef 6 (.ef 8 (.ef 9 (.fin [2,0,3,1] [1,3,4,5,58,91,92,104,148]) (.no)) (.no)) (.no)) (.ef 6 (.ef 2 (.ef 8 (.ef 9 (.fin [3,0,2,1] [1,3,4,5,58,91,92,104,148]) (.no)) (.no)) (.no)) (.no))) (.no)))) (.ef 6 (.ef 2 (.ef 5 (.ef 7 (.ef 8 (.ef 9 (.fin [1,2,0,3] [1,3,4,5,58,91,92,104,148]) (.no)) (.no)) (.no)) (.ef 7 (.ef 5 (.ef 8 (.ef 9 (.fin [1,3,0,2] [1,3,4,5,58,91,92,104,148]) (.no)) (.no)) (.ef 8 (.ef 5 (.ef 9 (.fin [1,3,0,2] [1,3,4,5,58,91,92,104,148]) (.no)) (.no)) (.no))) (.no))) (.ef 5 (.ef 2 (.ef 7 (.ef 8 (.ef 9 (.fin [2,1,0,3] [1,3,4,5,58,91,92,104,148]) (.no)) (.no)) (.no)) (.ef 7 (.ef 2 (.ef 8 (.ef 9 (.fin [3,1,0,2] [1,3,4,5,58,91,92,104,148]) (.no)) (.no)) (.no)) (.no))) (.ef 7 (.ef 2 (.ef 5 (.ef 8 (.ef 9 (.fin [2,3,0,1] [1,3,4,5,58,91,92,104,148]) (.no)) (.no)) (.ef 8 (.ef 5 (.ef 9 (.fin [2,3,0,1] [1,3,4,5,58,91,92,104,148]) (.no)) (.no)) (.no))) (.ef 5 (.ef 2 (.ef 8 (.ef 9 (.fin [3,2,0,1] [1,3,4,5,58,91,92,104,148]) (.no)) (.no)) (.no)) (.no))) (.no)))) (.ef 7 (.ef 2 (.ef 5 (.ef 6 (.ef 8 (.ef 9 (.fin [1,2,3,0] [1,3,4,5,58,91,92,104,148]) (.no)) (.no)) (.no)) (.ef 6 (.ef 5 (.ef 8 (.ef 9 (.fin [1,3,2,0] [1,3,4,5,58,91,92,104,148]) (.no)) (.no)) (.ef 8 (.ef 5 (.ef 9 (.fin [1,3,2,0] [1,3,4,5,58,91,92,104,148]) (.no)) (.no)) (.no))) (.no))) (.ef 5 (.ef 2 (.ef 6 (.ef 8 (.ef 9 (.fin [2,1,3,0] [1,3,4,5,58,91,92,104,148]) (.no)) (.no)) (.no)) (.ef 6 (.ef 2 (.ef 8 (.ef 9 (.fin [3,1,2,0] [1,3,4,5,58,91,92,104,148]) (.no)) (.no)) (.no)) (.no))) (.ef 6 (.ef 2 (.ef 5 (.ef 8 (.ef 9 (.fin [2,3,1,0] [1,3,4,5,58,91,92,104,148]) (.no)) (.no)) (.ef 8 (.ef 5 (.ef 9 (.fin [2,3,1,0] [1,3,4,5,58,91,92,104,148]) (.no)) (.no)) (.no))) (.ef 5 (.ef 2 (.ef 8 (.ef 9 (.fin [3,2,1,0] [1,3,4,5,58,91,92,104,148]) (.no)) (.no)) (.no)) (.no))) (.no)))) (.no))))))))
theorem zWE:TOk (zBa Tryz.f60 2) [2,5,6,7,8] zOi:=by unfold TOk;kernel_rfl
def zOh:ST:=.rd 0 (.rd 1 (.rd 2 (.rd 3 (.ef 4 (.rd 5 (.ef 6 (.fin [] [1,4,5,58,91,92,104,148]) (.no))) (.no)))))
theorem zWD:TOk (zBa Tryz.f60 3) [4] zOh:=by unfold TOk;kernel_rfl
theorem zTv:SOk (zBa Tryz.f60 12) [] (List.range 11) [11]:=by unfold SOk;kernel_rfl
theorem zTu:SOk (zBa Tryz.f60 22) [] (List.range 9) [9]:=by unfold SOk;kernel_rfl
theorem zTt:SOk (zBa Tryz.f60 26) [([0,1,2,3,4,5,6],7)] [] []:=by unfold SOk;kernel_rfl
def zMR:ST:=.rd 0 (.rd 1 (.rd 2 (.rd 3 (.ef 4 (.fin [] [2]) (.no)))))
theorem zMZ:TOk (zBa Tryz.f60 30) [] zMR:=by unfold TOk;kernel_rfl
def zAb:Sch:=fun i=>match i with
 | 2=>.tre [2,5,6,7,8] zOi
 | 3=>.tre [4] zOh
 | 12=>.ord [] (List.range 11) [11]
 | 22=>.ord [] (List.range 9) [9]
 | 26=>.ord [([0,1,2,3,4,5,6],7)] [] []
 | 30=>.tre [] zMR
 | _=>.no
def zAM (c:zAC) (q:zAB) (pos:List Int) (ln:Nat) (lost:List Int):St:=⟨(frm 178 [(1,.ref 2 0),(3,.i (c.cells.length:Int)),(4,.ref 5 0),(5,.ref 6 0)]),([some (.cells (zAF c++zAE q++[.ints pos,.msl 1 1 0 ln])),some (.ints lost),some (.cells [.ref 0 0]),some (.ints (List.replicate ((((c.cells.length:Int)+1)).toNat) (0:Int))),some (.ints (List.replicate ((((c.cells.length:Int)+1)).toNat) (0:Int))),some (.cells [.msl 3 1 0 ((((c.cells.length:Int)+1)).toNat)]),some (.cells [.msl 4 1 0 ((((c.cells.length:Int)+1)).toNat)])]:DH)⟩
def zKK (c:zAC) (q:zAB) (pos:List Int) (ln:Nat) (lost:List Int):St:=⟨(frm 178 [(1,.ref 2 0),(4,.ref 5 0),(5,.ref 6 0)]),([some (.cells (zAF c++zAE q++[.ints pos,.msl 1 1 0 ln])),some (.ints lost),some (.cells [.ref 0 0]),some (.ints ((List.replicate ((((c.cells.length:Int)+1)).toNat) (0:Int)).set (0+0) (-1))),some (.ints ((List.replicate ((((c.cells.length:Int)+1)).toNat) (0:Int)).set (0+c.cells.length) 100)),some (.cells [.msl 3 1 0 ((((c.cells.length:Int)+1)).toNat)]),some (.cells [.msl 4 1 0 ((((c.cells.length:Int)+1)).toNat)])]:DH)⟩
def zUx (c:zAC) (q:zAB) (pos:List Int) (ln:Nat) (lost o4:List Int) (x41:Int):DH:=[some (.cells (zAF c++zAE q++[.ints pos,.msl 1 1 0 ln])),some (.ints lost),some (.cells [.ref 0 0]),some (.cells [.msl 4 1 0 ((((c.cells.length:Int)+1)).toNat)]),some (.ints (o4.set (0+(((x41+1)).toNat)) 100)),some (.cells [.msl 6 1 0 ((((c.cells.length:Int)+1)).toNat)]),some (.ints ((List.replicate ((((c.cells.length:Int)+1)).toNat) (0:Int)).set (0+c.cells.length) 100)),some (.cells [.i x41])]
def zUw (c:zAC) (q:zAB) (pos:List Int) (ln:Nat) (lost:List Int) (x41:Int) (o4:List Int):DH:=[some (.cells (zAF c++zAE q++[.ints pos,.msl 1 1 0 ln])),some (.ints lost),some (.cells [.ref 0 0]),some (.cells [.msl 7 1 0 ((((c.cells.length:Int)+1)).toNat)]),some (.cells [.msl 8 1 0 ((((c.cells.length:Int)+1)).toNat)]),some (.cells [.i x41]),some (.iter ((zAj (pos.getD ((c.cells.getD ((x41).toNat) 0).toNat) 0)).map zD1)),some (.ints (o4.set (0+(((x41+1)).toNat)) 100)),some (.ints ((List.replicate ((((c.cells.length:Int)+1)).toNat) (0:Int)).set (0+c.cells.length) 100))]
def zUv (c:zAC) (q:zAB) (pos:List Int) (ln:Nat) (lost o4:List Int):DH:=[some (.cells (zAF c++zAE q++[.ints pos,.msl 1 1 0 ln])),some (.ints lost),some (.cells [.ref 0 0]),some (.cells [.msl 4 1 0 ((((c.cells.length:Int)+1)).toNat)]),some (.ints o4),some (.cells [.msl 6 1 0 ((((c.cells.length:Int)+1)).toNat)]),some (.ints ((List.replicate ((((c.cells.length:Int)+1)).toNat) (0:Int)).set (0+c.cells.length) 100))]
def zUu (c:zAC) (q:zAB) (pos:List Int) (ln:Nat) (lost:List Int) (y1:List (Int×Int)) (o4:List Int):DH:=[some (.cells (zAF c++zAE q++[.ints pos,.msl 1 1 0 ln])),some (.ints lost),some (.cells [.ref 0 0]),some (.cells [.msl 6 1 0 ((((c.cells.length:Int)+1)).toNat)]),some (.cells [.msl 7 1 0 ((((c.cells.length:Int)+1)).toNat)]),some (.iter ((y1).map zR3)),some (.ints o4),some (.ints ((List.replicate ((((c.cells.length:Int)+1)).toNat) (0:Int)).set (0+c.cells.length) 100))]
def zUt (c:zAC) (q:zAB) (pos:List Int) (ln:Nat) (o1 o4 o6:List Int) (x135:Int):DH:=[some (.cells (zAF c++zAE q++[.ints pos,.msl 1 1 0 ln])),some (.ints o1),some (.cells [.ref 0 0]),some (.cells [.msl 4 1 0 ((((c.cells.length:Int)+1)).toNat)]),some (.ints o4),some (.cells [.msl 6 1 0 ((((c.cells.length:Int)+1)).toNat)]),some (.ints o6),some (.cells [.i x135]),some (.cells [.i (c.cells.getD ((x135).toNat) 0)])]
def zUs (c:zAC) (q:zAB) (pos:List Int) (ln:Nat) (o1:List Int) (x135:Int) (o4 o6:List Int):DH:=[some (.cells (zAF c++zAE q++[.ints pos,.msl 1 1 0 ln])),some (.ints o1),some (.cells [.ref 0 0]),some (.cells [.msl 8 1 0 ((((c.cells.length:Int)+1)).toNat)]),some (.cells [.msl 9 1 0 ((((c.cells.length:Int)+1)).toNat)]),some (.cells [.i x135]),some (.cells [.i (c.cells.getD ((x135).toNat) 0)]),some (.iter ((zAj (pos.getD ((c.cells.getD ((x135).toNat) 0).toNat) 0)).map zD1)),some (.ints o4),some (.ints o6)]
def zUr (c:zAC) (q:zAB) (pos:List Int) (ln:Nat) (lost:List Int) (x41:Int) (r57s0_7:List Int):DH:=[some (.cells (zAF c++zAE q++[.ints pos,.msl 1 1 0 ln])),some (.ints lost),some (.cells [.ref 0 0]),some (.cells [.msl 7 1 0 ((((c.cells.length:Int)+1)).toNat)]),some (.cells [.msl 8 1 0 ((((c.cells.length:Int)+1)).toNat)]),some (.cells [.i x41]),none,some (.ints r57s0_7),some (.ints ((List.replicate ((((c.cells.length:Int)+1)).toNat) (0:Int)).set (0+c.cells.length) 100))]
def zUq (c:zAC) (q:zAB) (pos:List Int) (ln:Nat) (lost o4 r90s0_7:List Int) (e90:Int×Int):DH:=[some (.cells (zAF c++zAE q++[.ints pos,.msl 1 1 0 ln])),some (.ints lost),some (.cells [.ref 0 0]),some (.cells [.msl 6 1 0 ((((c.cells.length:Int)+1)).toNat)]),some (.cells [.msl 7 1 0 ((((c.cells.length:Int)+1)).toNat)]),none,some (.ints o4),some (.ints r90s0_7),some (.cells [.i e90.1])]
def zRx (c:zAC) (q:zAB) (pos:List Int) (ln:Nat) (lost o4 r90s0_7:List Int) (e90:Int×Int):DH:=[some (.cells (zAF c++zAE q++[.ints pos,.msl 1 1 0 ln])),some (.ints lost),some (.cells [.ref 0 0]),some (.cells [.msl 6 1 0 ((((c.cells.length:Int)+1)).toNat)]),some (.cells [.msl 7 1 0 ((((c.cells.length:Int)+1)).toNat)]),none,some (.ints o4),some (.ints (r90s0_7.set (0+((e90.1).toNat)) (-1))),some (.cells [.i e90.1])]
def zRw (c:zAC) (q:zAB) (pos:List Int) (ln:Nat) (lost:List Int) (e90:Int×Int) (o4 r90s0_7:List Int):DH:=[some (.cells (zAF c++zAE q++[.ints pos,.msl 1 1 0 ln])),some (.ints lost),some (.cells [.ref 0 0]),some (.cells [.msl 8 1 0 ((((c.cells.length:Int)+1)).toNat)]),some (.cells [.msl 9 1 0 ((((c.cells.length:Int)+1)).toNat)]),none,some (.cells [.i e90.1]),some (.iter ((zAj (pos.getD ((e90.2).toNat) 0)).map zD1)),some (.ints o4),some (.ints (r90s0_7.set (0+((e90.1).toNat)) (-1)))]
def zHJ (c:zAC) (q:zAB) (pos:List Int) (ln:Nat) (r147s0_1:List Int) (x135:Int) (o4 o6:List Int):DH:=[some (.cells (zAF c++zAE q++[.ints pos,.msl 1 1 0 ln])),some (.ints r147s0_1),some (.cells [.ref 0 0]),some (.cells [.msl 8 1 0 ((((c.cells.length:Int)+1)).toNat)]),some (.cells [.msl 9 1 0 ((((c.cells.length:Int)+1)).toNat)]),some (.cells [.i x135]),some (.cells [.i (c.cells.getD ((x135).toNat) 0)]),none,some (.ints o4),some (.ints o6)]
def zDm (c:zAC) (q:zAB) (pos:List Int) (ln:Nat) (b147_y1:(List Int)) (x135:Int) (o4 o6:List Int):St:=⟨(frm 178 []),([some (.cells (zAF c++zAE q++[.ints pos,.msl 1 1 0 ln])),some (.ints b147_y1),some (.cells [.ref 0 0]),some (.cells [.msl 8 1 0 ((((c.cells.length:Int)+1)).toNat)]),some (.cells [.msl 9 1 0 ((((c.cells.length:Int)+1)).toNat)]),some (.cells [.i x135]),some (.cells [.i (c.cells.getD ((x135).toNat) 0)]),none,some (.ints o4),some (.ints o6)]:DH)⟩
def zRv (c:zAC) (q:zAB) (pos:List Int) (ln:Nat) (lost:List Int) (e90:Int×Int) (o4 r103s0_9:List Int):DH:=[some (.cells (zAF c++zAE q++[.ints pos,.msl 1 1 0 ln])),some (.ints lost),some (.cells [.ref 0 0]),some (.cells [.msl 8 1 0 ((((c.cells.length:Int)+1)).toNat)]),some (.cells [.msl 9 1 0 ((((c.cells.length:Int)+1)).toNat)]),none,some (.cells [.i e90.1]),none,some (.ints o4),some (.ints r103s0_9)]
inductive zAr where
 | s0 (r103s0_9:List Int)
def zFM (c:zAC) (q:zAB) (pos:List Int) (ln:Nat) (lost:List Int) (e90:Int×Int) (o4:List Int):zAr→DH
 | .s0 r103s0_9=>[some (.cells (zAF c++zAE q++[.ints pos,.msl 1 1 0 ln])),some (.ints lost),some (.cells [.ref 0 0]),some (.cells [.msl 8 1 0 ((((c.cells.length:Int)+1)).toNat)]),some (.cells [.msl 9 1 0 ((((c.cells.length:Int)+1)).toNat)]),none,some (.cells [.i e90.1]),none,some (.ints o4),some (.ints r103s0_9)]
def zBn (n:Nat) (c:zAC) (q:zAB) (pos:List Int) (ln:Nat) (lost:List Int) (e90:Int×Int) (o4:List Int) (e103:Int) (r103s0_9:List Int):Option zAr:=
 if (0≤e103∧e103<(q.values.length:Int))∧R64 (e90.1+1)∧(0≤(e90.1+1)∧(e90.1+1)<(((((c.cells.length:Int)+1)).toNat:Nat):Int))∧0+(((e90.1+1)).toNat)<r103s0_9.length then
  bif (decide ((q.values.getD ((e103).toNat) 0)<(r103s0_9.getD (0+(((e90.1+1)).toNat)) 0))) then
   if (0≤e90.1∧e90.1<(((((c.cells.length:Int)+1)).toNat:Nat):Int))∧0+((e90.1).toNat)<r103s0_9.length then
    some (.s0 (r103s0_9.set (0+((e90.1).toNat)) (if (q.values.getD ((e103).toNat) 0)>(r103s0_9.getD (0+((e90.1).toNat)) 0) then (q.values.getD ((e103).toNat) 0) else (r103s0_9.getD (0+((e90.1).toNat)) 0))))
   else none
  else
   some (.s0 r103s0_9)
 else none
def zEG (n:Nat) (c:zAC) (q:zAB) (pos:List Int) (ln:Nat) (lost:List Int) (e90:Int×Int) (o4:List Int) (e103:Int):zAr→Option zAr
 | .s0 r103s0_9=>zBn n c q pos ln lost e90 o4 e103 r103s0_9
def zBw (n:Nat) (c:zAC) (q:zAB) (pos:List Int) (ln:Nat) (lost:List Int) (e90:Int×Int) (o4:List Int) (e103:Int) (s:zAr):Option zAr:=zEG n c q pos ln lost e90 o4 e103 s
theorem zId (n:Nat) (c:zAC) (q:zAB) (pos:List Int) (ln:Nat) (lost:List Int) (e90:Int×Int) (o4:List Int) (l B:Nat) (N:Yd 8) (e103:Int) (s:zAr) (r:zAr) (h:zBw n c q pos ln lost e90 o4 e103 s=some r):TA l B N (zI9 8 [] 0 (zFM c q pos ln lost e90 o4 r)) Tryz.f60 103 ⟨frm 178 [(1,.ref 2 0),(5,.ref 4 0),(10,.ref 6 0),(103,.it 7),(104,.i e103)],zFM c q pos ln lost e90 o4 s⟩:=by
 cases s with
 | s0 r103s0_9=>
  replace h:zBn n c q pos ln lost e90 o4 e103 r103s0_9=some r:=h
  unfold zBn at h
  refine ag zAb [0,1,2,3,4,5,6,7,8,9] H0 (frm 178 [(1,.ref 2 0),(5,.ref 4 0),(10,.ref 6 0),(12,.i e103)]) (zRv c q pos ln lost e90 o4 r103s0_9) fun N=>?_
  revert r
  apply gO
  exact gc (gi (gc (gw 116 (gc (gi (gi (bi 119 (jg zTu (gc (gn fun b103_g4=>jg b103_g4 (gn fun b103_g5=>jg b103_g5 (jg b103_g4 (jg b103_g5 (lF fun p=>rr zAb [0,1,2,3,4,5,6,7,8,9] rfl p))))))) (lF fun p=>rr zAb [0,1,2,3,4,5,6,7,8,9] rfl p))))))))
inductive zBZ where
 | s0 (r147s0_1:List Int)
def zJU (c:zAC) (x135:Int) (q:zAB) (pos:List Int) (ln:Nat) (o4 o6:List Int):zBZ→DH
 | .s0 r147s0_1=>[some (.cells (zAF c++zAE q++[.ints pos,.msl 1 1 0 ln])),some (.ints r147s0_1),some (.cells [.ref 0 0]),some (.cells [.msl 8 1 0 ((((c.cells.length:Int)+1)).toNat)]),some (.cells [.msl 9 1 0 ((((c.cells.length:Int)+1)).toNat)]),some (.cells [.i x135]),some (.cells [.i (c.cells.getD ((x135).toNat) 0)]),none,some (.ints o4),some (.ints o6)]
def zDN (n:Nat) (c:zAC) (x135:Int) (q:zAB) (pos:List Int) (ln:Nat) (o4 o6:List Int) (e147:Int) (r147s0_1:List Int):Option zBZ:=
 if (0≤e147∧e147<(q.values.length:Int))∧(0≤x135∧x135<(((((c.cells.length:Int)+1)).toNat:Nat):Int))∧0+((x135).toNat)<o4.length then
  bif (decide ((q.values.getD ((e147).toNat) 0)≤(o4.getD (0+((x135).toNat)) 0))) then
   if 0≤e147∧e147≤(IntKind.i64.bits:Int) then
    (zC8 n (c.cells.getD ((x135).toNat) 0) (IntKind.i64.wrap (1*2 ^ (e147).toNat)) c q pos ln r147s0_1).bind fun b147_y1=>
     some (.s0 b147_y1)
   else none
  else
   if R64 (x135+1)∧(0≤(x135+1)∧(x135+1)<(((((c.cells.length:Int)+1)).toNat:Nat):Int))∧0+(((x135+1)).toNat)<o6.length then
    bif (decide ((q.values.getD ((e147).toNat) 0)≥(o6.getD (0+(((x135+1)).toNat)) 0))) then
     if 0≤e147∧e147≤(IntKind.i64.bits:Int) then
      (zC8 n (c.cells.getD ((x135).toNat) 0) (IntKind.i64.wrap (1*2 ^ (e147).toNat)) c q pos ln r147s0_1).bind fun b147_y1=>
       some (.s0 b147_y1)
     else none
    else
     some (.s0 r147s0_1)
   else none
 else none
def zHf (n:Nat) (c:zAC) (x135:Int) (q:zAB) (pos:List Int) (ln:Nat) (o4 o6:List Int) (e147:Int):zBZ→Option zBZ
 | .s0 r147s0_1=>zDN n c x135 q pos ln o4 o6 e147 r147s0_1
def zGM (n:Nat) (c:zAC) (x135:Int) (q:zAB) (pos:List Int) (ln:Nat) (o4 o6:List Int) (e147:Int) (s:zBZ):Option zBZ:=zHf n c x135 q pos ln o4 o6 e147 s
theorem zNc (n:Nat) (c:zAC) (x135:Int) (q:zAB) (pos:List Int) (ln:Nat) (o4 o6:List Int) (l B:Nat) (N:Yd 8) (e147:Int) (s:zBZ) (r:zBZ) (h:zGM n c x135 q pos ln o4 o6 e147 s=some r):TA l B N (zI9 8 [] 0 (zJU c x135 q pos ln o4 o6 r)) Tryz.f60 147 ⟨frm 178 [(1,.ref 2 0),(4,.ref 3 0),(5,.ref 4 0),(14,.ref 5 0),(15,.ref 6 0),(133,.ints c.cells),(134,.i (c.cells.length:Int)),(135,.i x135),(147,.it 7),(148,.i e147)],zJU c x135 q pos ln o4 o6 s⟩:=by
 cases s with
 | s0 r147s0_1=>
  replace h:zDN n c x135 q pos ln o4 o6 e147 r147s0_1=some r:=h
  unfold zDN at h
  refine ag zAb [0,1,2,3,4,5,6,7,8,9] H0 (frm 178 [(1,.ref 2 0),(4,.ref 3 0),(5,.ref 4 0),(14,.ref 5 0),(15,.ref 6 0),(16,.i e147)]) (zHJ c q pos ln r147s0_1 x135 o4 o6) fun N=>?_
  revert r
  apply gO
  exact gc (gi (gc (gi (gi (bi 162 (jg zMZ (gi (ce zBS [0,1] (zHJ c q pos ln r147s0_1 x135 o4 o6) fun b147_y1=>jg (Eq.refl (zDm c q pos ln b147_y1 x135 o4 o6)) (lF fun p=>rr (tg:=[([],(zDm c q pos ln b147_y1 x135 o4 o6))]) zAb [0,1,2,3,4,5,6,7,8,9] rfl p)))) (gc (gw 167 (gc (gi (gi (bi 170 (jg zMZ (gi (ce zBS [0,1] (zHJ c q pos ln r147s0_1 x135 o4 o6) fun b147_y1=>jg (Eq.refl (zDm c q pos ln b147_y1 x135 o4 o6)) (lF fun p=>rr (tg:=[([],(zDm c q pos ln b147_y1 x135 o4 o6))]) zAb [0,1,2,3,4,5,6,7,8,9] rfl p)))) (lF fun p=>rr zAb [0,1,2,3,4,5,6,7,8,9] rfl p))))))))))))
inductive zCC where
 | s0 (r90s0_7:List Int)
def zKk (c:zAC) (q:zAB) (pos:List Int) (ln:Nat) (lost o4:List Int):zCC→DH
 | .s0 r90s0_7=>[some (.cells (zAF c++zAE q++[.ints pos,.msl 1 1 0 ln])),some (.ints lost),some (.cells [.ref 0 0]),some (.cells [.msl 6 1 0 ((((c.cells.length:Int)+1)).toNat)]),some (.cells [.msl 7 1 0 ((((c.cells.length:Int)+1)).toNat)]),none,some (.ints o4),some (.ints r90s0_7)]
def zDo (n:Nat) (c:zAC) (q:zAB) (pos:List Int) (ln:Nat) (lost o4:List Int) (e90:Int×Int) (r90s0_7:List Int):Option zCC:=
 if (0≤e90.1∧e90.1<(((((c.cells.length:Int)+1)).toNat:Nat):Int))∧0+((e90.1).toNat)<r90s0_7.length∧(0≤e90.2∧e90.2<(pos.length:Int))∧(0≤(pos.getD ((e90.2).toNat) 0)∧(pos.getD ((e90.2).toNat) 0)<9223372036854775808) then
  (zBA (zBw n c q pos ln lost e90 o4) (zAj (pos.getD ((e90.2).toNat) 0)) (.s0 (r90s0_7.set (0+((e90.1).toNat)) (-1)))).bind fun b90_y1=>
   match b90_y1 with
   | .s0 b90_y1_0_0=>
    some (.s0 b90_y1_0_0)
 else none
def zJS (n:Nat) (c:zAC) (q:zAB) (pos:List Int) (ln:Nat) (lost o4:List Int) (e90:Int×Int):zCC→Option zCC
 | .s0 r90s0_7=>zDo n c q pos ln lost o4 e90 r90s0_7
def zFc (n:Nat) (c:zAC) (q:zAB) (pos:List Int) (ln:Nat) (lost o4:List Int) (e90:Int×Int) (s:zCC):Option zCC:=zJS n c q pos ln lost o4 e90 s
theorem zPK (n:Nat) (c:zAC) (q:zAB) (pos:List Int) (ln:Nat) (lost o4:List Int) (l B:Nat) (N:Yd 6) (e90:Int×Int) (s:zCC) (r:zCC) (h:zFc n c q pos ln lost o4 e90 s=some r):TA l B N (zI9 6 [] 0 (zKk c q pos ln lost o4 r)) Tryz.f60 90 ⟨frm 178 [(1,.ref 2 0),(4,.ref 3 0),(5,.ref 4 0),(90,.it 5),(91,.i e90.1),(92,.i e90.2)],zKk c q pos ln lost o4 s⟩:=by
 cases s with
 | s0 r90s0_7=>
  replace h:zDo n c q pos ln lost o4 e90 r90s0_7=some r:=h
  unfold zDo at h
  refine ag zAb [0,1,2,3,4,5,6,7,8] (H0.t) (frm 178 [(1,.ref 2 0),(5,.ref 4 0),(10,.ref 8 0),(11,.i e90.2)]) (zUq c q pos ln lost o4 r90s0_7 e90) fun N=>?_
  revert r
  apply gO
  exact gc (gi (gc (gi (gc (gi (gn fun b90_g3=>jc (zBU b90_g3 (zRx c q pos ln lost o4 r90s0_7 e90)) (cn fun b90_y1 hb90_y1=>fun p r h=>by
   refine gs zAb [0,1,2,3,4,5,8,9,6,7] p (atT (rgB Tryz.f60 90) 103 []) (frm 178 [(1,.ref 2 0),(5,.ref 4 0),(10,.ref 6 0),(103,.it 7)]) (zRw c q pos ln lost e90 o4 r90s0_7) ?_
   refine r0 7 103 #[104] zD1 8 hb90_y1 (zId n c q pos ln lost e90 o4) ?_
   cases b90_y1 with
   | s0 b90_y1_0_0=>
    dsimp only at h
    revert r
    apply gO
    exact lF fun p=>rr zAb [0,1,2,3,4,5,8,9] rfl p)))))))
inductive zCD where
 | s0 (r57s0_7:List Int)
def zKl (c:zAC) (x41:Int) (q:zAB) (pos:List Int) (ln:Nat) (lost:List Int):zCD→DH
 | .s0 r57s0_7=>[some (.cells (zAF c++zAE q++[.ints pos,.msl 1 1 0 ln])),some (.ints lost),some (.cells [.ref 0 0]),some (.cells [.msl 7 1 0 ((((c.cells.length:Int)+1)).toNat)]),some (.cells [.msl 8 1 0 ((((c.cells.length:Int)+1)).toNat)]),some (.cells [.i x41]),none,some (.ints r57s0_7),some (.ints ((List.replicate ((((c.cells.length:Int)+1)).toNat) (0:Int)).set (0+c.cells.length) 100))]
def zDp (n:Nat) (c:zAC) (x41:Int) (q:zAB) (pos:List Int) (ln:Nat) (lost:List Int) (e57:Int) (r57s0_7:List Int):Option zCD:=
 if (0≤e57∧e57<(q.values.length:Int))∧(0≤x41∧x41<(((((c.cells.length:Int)+1)).toNat:Nat):Int))∧0+((x41).toNat)<r57s0_7.length then
  bif (decide ((q.values.getD ((e57).toNat) 0)>(r57s0_7.getD (0+((x41).toNat)) 0))) then
   if R64 (x41+1)∧(0≤(x41+1)∧(x41+1)<(((((c.cells.length:Int)+1)).toNat:Nat):Int))∧0+(((x41+1)).toNat)<r57s0_7.length then
    some (.s0 (r57s0_7.set (0+(((x41+1)).toNat)) (if (q.values.getD ((e57).toNat) 0)<(r57s0_7.getD (0+(((x41+1)).toNat)) 0) then (q.values.getD ((e57).toNat) 0) else (r57s0_7.getD (0+(((x41+1)).toNat)) 0))))
   else none
  else
   some (.s0 r57s0_7)
 else none
def zJT (n:Nat) (c:zAC) (x41:Int) (q:zAB) (pos:List Int) (ln:Nat) (lost:List Int) (e57:Int):zCD→Option zCD
 | .s0 r57s0_7=>zDp n c x41 q pos ln lost e57 r57s0_7
def zFd (n:Nat) (c:zAC) (x41:Int) (q:zAB) (pos:List Int) (ln:Nat) (lost:List Int) (e57:Int) (s:zCD):Option zCD:=zJT n c x41 q pos ln lost e57 s
theorem zPL (n:Nat) (c:zAC) (x41:Int) (q:zAB) (pos:List Int) (ln:Nat) (lost:List Int) (l B:Nat) (N:Yd 7) (e57:Int) (s:zCD) (r:zCD) (h:zFd n c x41 q pos ln lost e57 s=some r):TA l B N (zI9 7 [] 0 (zKl c x41 q pos ln lost r)) Tryz.f60 57 ⟨frm 178 [(1,.ref 2 0),(4,.ref 3 0),(5,.ref 4 0),(6,.ref 5 0),(39,.ints c.cells),(40,.i (c.cells.length:Int)),(41,.i x41),(57,.it 6),(58,.i e57)],zKl c x41 q pos ln lost s⟩:=by
 cases s with
 | s0 r57s0_7=>
  replace h:zDp n c x41 q pos ln lost e57 r57s0_7=some r:=h
  unfold zDp at h
  refine ag zAb [0,1,2,3,4,5,6,7,8] H0 (frm 178 [(1,.ref 2 0),(4,.ref 3 0),(6,.ref 5 0),(8,.i e57)]) (zUr c q pos ln lost x41 r57s0_7) fun N=>?_
  revert r
  apply gO
  exact gc (gi (gc (gi (gi (bi 72 (jg zTv (gc (gn fun b57_g3=>jw 75 b57_g3 (jw 78 b57_g3 (gc (gn fun b57_g4=>jg b57_g4 (gn fun b57_g5=>jg b57_g5 (jg b57_g4 (jg b57_g5 (lF fun p=>rr zAb [0,1,2,3,4,5,6,7,8] rfl p)))))))))) (lF fun p=>rr zAb [0,1,2,3,4,5,6,7,8] rfl p))))))
inductive zKm where
 | l1 (x41:Int) (o4:List Int)
 | l2 (x135:Int) (o1 o4 o6:List Int)
def zHe (n:Nat) (self:zKm→Option (Bool×(List Int))) (c:zAC) (q:zAB) (pos:List Int) (ln:Nat) (lost:List Int) (x41:Int) (o4:List Int):Option (Bool×(List Int)):=
 bif (decide (x41<(c.cells.length:Int))) then
  if (0≤x41∧x41<(c.cells.length:Int))∧R64 (x41+1)∧(0≤(x41+1)∧(x41+1)<(((((c.cells.length:Int)+1)).toNat:Nat):Int))∧0+(((x41+1)).toNat)<o4.length∧(0≤(c.cells.getD ((x41).toNat) 0)∧(c.cells.getD ((x41).toNat) 0)<(pos.length:Int))∧(0≤(pos.getD ((c.cells.getD ((x41).toNat) 0).toNat) 0)∧(pos.getD ((c.cells.getD ((x41).toNat) 0).toNat) 0)<9223372036854775808) then
   (zBA (zFd n c x41 q pos ln lost) (zAj (pos.getD ((c.cells.getD ((x41).toNat) 0).toNat) 0)) (.s0 (o4.set (0+(((x41+1)).toNat)) 100))).bind fun y1=>
    match y1 with
    | .s0 y1_0_0=>
     if R64 (x41+1) then
      self (.l1 (x41+1) y1_0_0)
     else none
  else none
 else
  (back n c.cells).bind fun y1=>
   (zBA (zFc n c q pos ln lost o4) y1 (.s0 ((List.replicate ((((c.cells.length:Int)+1)).toNat) (0:Int)).set (0+c.cells.length) 100))).bind fun y2=>
    match y2 with
    | .s0 y2_0_0=>
     self (.l2 0 lost o4 y2_0_0)
def zHd (n:Nat) (self:zKm→Option (Bool×(List Int))) (c:zAC) (q:zAB) (pos:List Int) (ln:Nat) (lost:List Int) (x135:Int) (o1 o4 o6:List Int):Option (Bool×(List Int)):=
 bif (decide (x135<(c.cells.length:Int))) then
  if (0≤x135∧x135<(c.cells.length:Int))∧(0≤(c.cells.getD ((x135).toNat) 0)∧(c.cells.getD ((x135).toNat) 0)<(pos.length:Int))∧(0≤(pos.getD ((c.cells.getD ((x135).toNat) 0).toNat) 0)∧(pos.getD ((c.cells.getD ((x135).toNat) 0).toNat) 0)<9223372036854775808) then
   (zBA (zGM n c x135 q pos ln o4 o6) (zAj (pos.getD ((c.cells.getD ((x135).toNat) 0).toNat) 0)) (.s0 o1)).bind fun y1=>
    match y1 with
    | .s0 y1_0_0=>
     if R64 (x135+1) then
      self (.l2 (x135+1) y1_0_0 o4 o6)
     else none
  else none
 else
  some (true,o1)
def zSa (n:Nat) (self:zKm→Option (Bool×(List Int))) (c:zAC) (q:zAB) (pos:List Int) (ln:Nat) (lost:List Int):Option (Bool×(List Int)):=
 if R64 ((c.cells.length:Int)+1)∧((((c.cells.length:Int)+1):Int)=((c.cells.length:Int)+1)∧(0:Int)≤((c.cells.length:Int)+1)∧(((c.cells.length:Int)+1):Int)≤1000000000000)∧((0:Int)≤0∧0<(((((c.cells.length:Int)+1)).toNat:Nat):Int))∧0+0<(List.replicate ((((c.cells.length:Int)+1)).toNat) (0:Int)).length∧(0≤(c.cells.length:Int)∧(c.cells.length:Int)<(((((c.cells.length:Int)+1)).toNat:Nat):Int))∧0+c.cells.length<(List.replicate ((((c.cells.length:Int)+1)).toNat) (0:Int)).length then
  self (.l1 0 ((List.replicate ((((c.cells.length:Int)+1)).toNat) (0:Int)).set (0+0) (-1)))
 else none
def zDF (c:zAC) (q:zAB) (pos:List Int) (ln:Nat) (lost:List Int):Nat→zKm→Option (Bool×(List Int))
 | 0,_=>none
 | n+1,.l1 x41 o4=>zHe n (zDF c q pos ln lost n) c q pos ln lost x41 o4
 | n+1,.l2 x135 o1 o4 o6=>zHd n (zDF c q pos ln lost n) c q pos ln lost x135 o1 o4 o6
def zPM (n:Nat) (c:zAC) (q:zAB) (pos:List Int) (ln:Nat) (lost:List Int):Option (Bool×(List Int)):=zSa n (zDF c q pos ln lost n) c q pos ln lost
def zZY (n B:Nat) (N:Yd 2) (c:zAC) (q:zAB) (pos:List Int) (ln:Nat) (lost:List Int) (r:Bool×(List Int)):zKm→Prop
 | .l1 x41 o4=>∀ m0:Nat,n≤m0→TW B N (FQ Tryz.f60 2 (.bool r.1) [some (.cells (zAF c++zAE q++[.ints pos,.msl 1 1 0 ln])),some (.ints r.2)]) (toN m0 (zA9 (zAK Tryz.f60) 0 [])) ⟨frm 178 [(1,.ref 2 0),(4,.ref 3 0),(5,.ref 5 0),(39,.ints c.cells),(40,.i (c.cells.length:Int)),(41,.i x41)],[some (.cells (zAF c++zAE q++[.ints pos,.msl 1 1 0 ln])),some (.ints lost),some (.cells [.ref 0 0]),some (.cells [.msl 4 1 0 ((((c.cells.length:Int)+1)).toNat)]),some (.ints o4),some (.cells [.msl 6 1 0 ((((c.cells.length:Int)+1)).toNat)]),some (.ints ((List.replicate ((((c.cells.length:Int)+1)).toNat) (0:Int)).set (0+c.cells.length) 100))]⟩
 | .l2 x135 o1 o4 o6=>∀ m0:Nat,n≤m0→TW B N (FQ Tryz.f60 2 (.bool r.1) [some (.cells (zAF c++zAE q++[.ints pos,.msl 1 1 0 ln])),some (.ints r.2)]) (toN m0 (zA9 (zAK Tryz.f60) 8 [])) ⟨frm 178 [(1,.ref 2 0),(4,.ref 3 0),(5,.ref 5 0),(133,.ints c.cells),(134,.i (c.cells.length:Int)),(135,.i x135)],[some (.cells (zAF c++zAE q++[.ints pos,.msl 1 1 0 ln])),some (.ints o1),some (.cells [.ref 0 0]),some (.cells [.msl 4 1 0 ((((c.cells.length:Int)+1)).toNat)]),some (.ints o4),some (.cells [.msl 6 1 0 ((((c.cells.length:Int)+1)).toNat)]),some (.ints o6)]⟩
theorem zWi (B:Nat) (N:Yd 2) (c:zAC) (q:zAB) (pos:List Int) (ln:Nat) (lost:List Int):Al (zDF c q pos ln lost) (zZY · B N c q pos ln lost):=ia (fun _=>rfl) fun n hself pt r h=>by
 cases pt
 case l1 x41 o4=>
  intro m0 hm0
  refine rd hm0 fun m0 hm0=>?_
  revert r
  apply gO
  exact bi 42 (gc (gi (jt (gc (gw 48 (gc (gi (gc (gi (gc (gi (gn fun g5=>jc (zBU g5 (zUx c q pos ln lost o4 x41)) (cn fun y1 hy1=>fun p r h=>by
   refine gs zAb [0,1,2,3,5,7,8,4,6] p (atT (zAK Tryz.f60) 57 [m0]) (frm 178 [(1,.ref 2 0),(4,.ref 3 0),(5,.ref 4 0),(6,.ref 5 0),(39,.ints c.cells),(40,.i (c.cells.length:Int)),(41,.i x41),(57,.it 6)]) (zUw c q pos ln lost x41 o4) ?_
   refine r0 6 57 #[58] zD1 7 hy1 (zPL n c x41 q pos ln lost) ?_
   cases y1 with
   | s0 y1_0_0=>
    dsimp only at h
    revert r
    apply gO
    exact gw 84 (lG zAb [0,1,2,3,7,4,8] (hself _ _ · m0 hm0))))))))))))))) (cn fun y1 hy1=>jc (zVd hy1 (zUv c q pos ln lost o4)) (cn fun y2 hy2=>fun p r h=>by
   refine gs zAb [0,1,2,3,5,7,4,6] p (atT (zAK Tryz.f60) 90 []) (frm 178 [(1,.ref 2 0),(4,.ref 3 0),(5,.ref 4 0),(90,.it 5)]) (zUu c q pos ln lost y1 o4) ?_
   refine r0 5 90 #[91,92] zR3 6 hy2 (zPK n c q pos ln lost o4) ?_
   cases y2 with
   | s0 y2_0_0=>
    dsimp only at h
    revert r
    apply gO
    exact lN zAb [0,1,2,3,6,4,7] (hself _ _ · n Nat.le.refl)))
 case l2 x135 o1 o4 o6=>
  intro m0 hm0
  refine rd hm0 fun m0 hm0=>?_
  revert r
  apply gO
  exact bi 136 (gc (gi (jt (jt (jg zTt (gc (gi (gn fun g2=>jc (zBU g2 (zUt c q pos ln o1 o4 o6 x135)) (cn fun y1 hy1=>fun p r h=>by
   refine gs zAb [0,1,2,3,5,7,8,9,4,6] p (atT (zAK Tryz.f60) 147 [m0]) (frm 178 [(1,.ref 2 0),(4,.ref 3 0),(5,.ref 4 0),(14,.ref 5 0),(15,.ref 6 0),(133,.ints c.cells),(134,.i (c.cells.length:Int)),(135,.i x135),(147,.it 7)]) (zUs c q pos ln o1 x135 o4 o6) ?_
   refine r0 7 147 #[148] zD1 8 hy1 (zNc n c x135 q pos ln o4 o6) ?_
   cases y1 with
   | s0 y1_0_0=>
    dsimp only at h
    revert r
    apply gO
    exact gw 177 (lG zAb [0,1,2,3,8,4,9] (hself _ _ · m0 hm0))))))))))) (lE zAb [2] [0,1])
theorem zZX {n:Nat} {c:zAC} {q:zAB} {pos:List Int} {ln:Nat} {lost:List Int} {r:Bool×(List Int)} (h:zPM n c q pos ln lost=some r):EQ 60 [.ref 0 0] [some (.cells (zAF c++zAE q++[.ints pos,.msl 1 1 0 ln])),some (.ints lost)] (.bool r.1) [some (.cells (zAF c++zAE q++[.ints pos,.msl 1 1 0 ln])),some (.ints r.2)] false:=by
 refine ot Tryz.func60 fun B N=>?_
 revert r
 apply gO
 exact jg zWE (gc (gn fun g0=>jw 25 g0 (jw 28 g0 (gc (gn fun g1=>jg g1 (jg g1 (jt (jt (jg (Eq.refl (zAM c q pos ln lost)) (jt (jt (jg (Eq.refl (zAM c q pos ln lost)) (jg g1 (jt (jt (jg (Eq.refl (zAM c q pos ln lost)) (jg g1 (jt (jt (jg (Eq.refl (zAM c q pos ln lost)) (jt (jg g1 (jt (jg (Eq.refl (zAM c q pos ln lost)) (jg g1 (jt (jt (jg (Eq.refl (zAM c q pos ln lost)) (jg g1 (jt (jt (jg (Eq.refl (zAM c q pos ln lost)) (jt (jg g1 (jt (jg (Eq.refl (zAM c q pos ln lost)) (jg g1 (jg g1 (jt (jt (jg (Eq.refl (zAM c q pos ln lost)) (jt (jt (jg (Eq.refl (zAM c q pos ln lost)) (jg g1 (jt (jt (jg (Eq.refl (zAM c q pos ln lost)) (jg g1 (jt (jt (jg (Eq.refl (zAM c q pos ln lost)) (jg g1 (jt (jt (jg (Eq.refl (zAM c q pos ln lost)) (jg g1 (jt (jt (jg (Eq.refl (zAM c q pos ln lost)) (jg g1 (jg g1 (jt (jt (jg (Eq.refl (zAM c q pos ln lost)) (jg g1 (jt (jt (jg (Eq.refl (zAM c q pos ln lost)) (jt (jg g1 (jt (jg (Eq.refl (zAM c q pos ln lost)) (jg g1 (jg g1 (jt (jt (jg (Eq.refl (zAM c q pos ln lost)) (jg g1 (jt (jt (jg (Eq.refl (zAM c q pos ln lost)) (jg g1 (jg g1 (jt (jt (jg (Eq.refl (zAM c q pos ln lost)) (jt (jg g1 (jt (jg (Eq.refl (zAM c q pos ln lost)) (jg g1 (jg g1 (jt (jt (jg (Eq.refl (zAM c q pos ln lost)) (jg g1 (jg g1 (jt (jt (jg (Eq.refl (zAM c q pos ln lost)) (jg g1 (jt (jt (jg (Eq.refl (zAM c q pos ln lost)) (jt (jg g1 (jt (jg (Eq.refl (zAM c q pos ln lost)) (jg g1 (jg g1 (jt (jt (jg (Eq.refl (zAM c q pos ln lost)) (jg g1 (jt (jt (jg (Eq.refl (zAM c q pos ln lost)) (jg g1 (jg g1 (jt (jt (jg (Eq.refl (zAM c q pos ln lost)) (jt (jg g1 (jt (jg (Eq.refl (zAM c q pos ln lost)) (jg g1 (jg g1 (jt (jt (jg (Eq.refl (zAM c q pos ln lost)) (jg zWD (gc (gi (gc (gi (gc (gi (gi (jg (Eq.refl (zKK c q pos ln lost)) (lN (tg:=[([],(zAM c q pos ln lost)),([(4,3)],(zKK c q pos ln lost))]) zAb [0,1,2,5,3,6,4] ((zWi B N c q pos ln lost n) _ _ · n Nat.le.refl)))))))))))))))))))))))))))))))))))))))))))))))))))))))))))))))))))))))))))))))))))))))))))))))))))))))))))))))))))))))))))))))))))))))))))))))
end Go.Proofs.YtekkngkphejfcaaGreatDoor
namespace Go.Proofs.YtekkngkphejfcaaGreatDoor
open Go.RowKit
theorem zAk {l:List Int} {i:Nat} {a:Int} (h:i<l.length):(l.set i a).getD i 0=a:=by
 rw [List.getD_eq_getElem?_getD,List.getElem?_set_self h];rfl
theorem getD_set_ne {l:List Int} {i j:Nat} {a:Int} (h:i≠j):(l.set i a).getD j 0=l.getD j 0:=by
 rw [List.getD_eq_getElem?_getD,List.getElem?_set_ne h,←List.getD_eq_getElem?_getD]
def upF (q:zAB) (b a e:Int):Int:=if q.values.getD e.toNat 0>b then (if q.values.getD e.toNat 0<a then q.values.getD e.toNat 0 else a) else a
def dnF (q:zAB) (b a e:Int):Int:=if q.values.getD e.toNat 0<b then (if q.values.getD e.toNat 0>a then q.values.getD e.toNat 0 else a) else a
def bef (q:zAB) (c:zAC) (pos:List Int):Nat→Int
 | 0=>-1
 | i+1=>(zAj (zAI c pos i)).foldl (upF q (bef q c pos i)) 100
def zYy (q:zAB) (c:zAC) (pos:List Int):Nat→Int
 | 0=>100
 | m+1=>(zAj (zAI c pos (c.cells.length-1-m))).foldl (dnF q (zYy q c pos m)) (-1)
def aft (q:zAB) (c:zAC) (pos:List Int) (i:Nat):Int:=zYy q c pos (c.cells.length-i)
def zKj (q:zAB) (c:zAC) (pos:List Int) (a s:Nat):Bool:=decide (q.values.getD s 0≤bef q c pos a)||decide (q.values.getD s 0≥aft q c pos (a+1))
def zYr (l:List Int):Nat→List (Int×Int)
 | 0=>[]
 | m+1=>((m:Int),l.getD m 0)::zYr l m
theorem zQo {l:List Int}: ∀ (m n:Nat),m≤l.length→l.length≤LB→m+1≤n→zJl l n (.l1 ((m:Int)-1))=some (zYr l m)
 | 0,n,_,_,hn=>by
  obtain ⟨n,rfl⟩: ∃ k,n=k+1:=⟨n-1,by omega⟩
  show zHL n (zJl l n) l _=_
  unfold zHL
  rw [decide_eq_false (by omega),cond_false];rfl
 | m+1,n,hm,hl,hn=>by
  obtain ⟨n,rfl⟩: ∃ k,n=k+1:=⟨n-1,by omega⟩
  have e:((m+1:Nat):Int)-1=(m:Int):=by omega
  have hb:LB≤9223372036854775807:=by decide
  rw [e]
  show zHL n (zJl l n) l _=_
  unfold zHL
  rw [decide_eq_true (by omega),cond_true,if_pos ⟨by omega,by omega⟩,if_pos (zAG.2 ⟨by omega,by omega⟩),zQo m n (by omega) hl (by omega),Int.toNat_natCast]
  rfl
theorem zcP {l:List Int} {n:Nat} (hl:l.length≤LB) (hn:l.length+1≤n):back n l=some (zYr l l.length):=by
 have hb:LB≤9223372036854775807:=by decide
 unfold back zSA
 rw [if_pos (zAG.2 ⟨by omega,by omega⟩),zQo l.length n (Nat.le_refl _) hl hn]
section
variable {c:zAC} {k:Nat} {pos lost:List Int} {q:zAB}
theorem zWf {n ln i:Nat} (hlen:c.cells.length≤256) (hi:i<c.cells.length) {o:List Int} (ho:o.length=c.cells.length+1): ∀ (l:List Int) (a:Int),(∀ e∈l,0≤e∧e<((q.values.length:Nat):Int))→
 zBA (zFd n c (i:Int) q pos ln lost) l (.s0 (o.set (i+1) a))=some (.s0 (o.set (i+1) (l.foldl (upF q (o.getD i 0)) a)))
 | [],_,_=>rfl
 | e::l,a,h=>by
  have t1:((((c.cells.length:Nat):Int)+1).toNat:Nat)=c.cells.length+1:=by omega
  have t2:(((i:Int)+1).toNat:Nat)=i+1:=by omega
  have e1:zFd n c (i:Int) q pos ln lost e (.s0 (o.set (i+1) a))=some (.s0 (o.set (i+1) (upF q (o.getD i 0) a e))):=by
   unfold zFd zJT zDp
   dsimp only
   simp only [Int.toNat_natCast,t1,t2,Nat.zero_add,List.length_set,ho]
   rw [if_pos ⟨h e (.head _),by omega,by omega⟩,getD_set_ne (by omega),zAk (by omega),List.set_set]
   unfold upF
   by_cases hA:q.values.getD e.toNat 0>o.getD i 0
   ·rw [decide_eq_true hA,cond_true,if_pos ⟨zAG.2 ⟨by omega,by omega⟩,by omega,by omega⟩,if_pos hA]
   ·rw [decide_eq_false hA,cond_false,if_neg hA]
  simp only [zBA]
  rw [e1,Option.bind_some,zWf hlen hi ho l _ fun e he=>h e (.tail _ he)]
  rfl
theorem zWh {n ln i:Nat} {x:Int} {o4:List Int} (hlen:c.cells.length≤256) (hi:i<c.cells.length) {o:List Int} (ho:o.length=c.cells.length+1): ∀ (l:List Int) (a:Int),(∀ e∈l,0≤e∧e<((q.values.length:Nat):Int))→
 zBA (zBw n c q pos ln lost ((i:Int),x) o4) l (.s0 (o.set i a))=some (.s0 (o.set i (l.foldl (dnF q (o.getD (i+1) 0)) a)))
 | [],_,_=>rfl
 | e::l,a,h=>by
  have t1:((((c.cells.length:Nat):Int)+1).toNat:Nat)=c.cells.length+1:=by omega
  have t2:(((i:Int)+1).toNat:Nat)=i+1:=by omega
  have e1:zBw n c q pos ln lost ((i:Int),x) o4 e (.s0 (o.set i a))=some (.s0 (o.set i (dnF q (o.getD (i+1) 0) a e))):=by
   unfold zBw zEG zBn
   dsimp only
   simp only [Int.toNat_natCast,t1,t2,Nat.zero_add,List.length_set,ho]
   rw [if_pos ⟨h e (.head _),zAG.2 ⟨by omega,by omega⟩,by omega,by omega⟩,getD_set_ne (by omega),zAk (by omega),List.set_set]
   unfold dnF
   by_cases hA:q.values.getD e.toNat 0<o.getD (i+1) 0
   ·rw [decide_eq_true hA,cond_true,if_pos ⟨by omega,by omega⟩,if_pos hA]
   ·rw [decide_eq_false hA,cond_false,if_neg hA]
  simp only [zBA]
  rw [e1,Option.bind_some,zWh hlen hi ho l _ fun e he=>h e (.tail _ he)]
  rfl
theorem Sm.i63 (hk:k≤16) {x:Int} (h:Sm k x):0≤x∧x<9223372036854775808:=by
 have h1:=zCt (k:=k) (Nat.le_trans hk (by decide))
 obtain ⟨h2,h3⟩:=h
 omega
theorem zPJ {n:Nat} {o4:List Int} (W:zFS c k pos) (V:zMA q k): ∀ (m:Nat) (o:List Int),m≤c.cells.length→o.length=c.cells.length+1→(∀ j,m≤j→j≤c.cells.length→o.getD j 0=aft q c pos j)→
 ∃ o',zBA (zFc n c q pos pos.length lost o4) (zYr c.cells m) (.s0 o)=some (.s0 o')∧o'.length=c.cells.length+1∧∀ j,j≤c.cells.length→o'.getD j 0=aft q c pos j
 | 0,o,_,ho,h=>⟨o,rfl,ho,fun j hj=>h j (Nat.zero_le _) hj⟩
 | m+1,o,hm,ho,h=>by
  have hc:=W.cells m (by omega)
  have hsm:=W.at (a:=m) (by omega)
  have hlen:=W.len
  have t1:((((c.cells.length:Nat):Int)+1).toNat:Nat)=c.cells.length+1:=by omega
  have e1:zFc n c q pos pos.length lost o4 ((m:Int),c.cells.getD m 0) (.s0 o)=some (.s0 (o.set m (aft q c pos m))):=by
   unfold zFc zJS zDo
   dsimp only
   simp only [Int.toNat_natCast,t1,Nat.zero_add]
   rw [if_pos ⟨by omega,by omega,hc,hsm.i63 W.k⟩]
   refine (congrArg (fun z=>Option.bind z _) (zWh hlen (by omega) ho (zAj (zAI c pos m)) (-1) fun e he=>(V.sym W.k hsm e he).1)).trans ?_
   rw [Option.bind_some]
   have e2:aft q c pos m=(zAj (zAI c pos m)).foldl (dnF q (o.getD (m+1) 0)) (-1):=by
    rw [h (m+1) (Nat.le_refl _) hm]
    unfold aft
    rw [show c.cells.length-m=c.cells.length-(m+1)+1 by omega]
    simp only [zYy]
    rw [show c.cells.length-1-(c.cells.length-(m+1))=m by omega]
   rw [e2]
  obtain ⟨o',h1,h2,h3⟩:=zPJ W V m (o.set m (aft q c pos m)) (by omega) (by rw [List.length_set];exact ho) fun j hj hj2=>by
   by_cases e:m=j
   ·subst e;exact zAk (by omega)
   ·rw [getD_set_ne e];exact h j (by omega) hj2
  refine ⟨o',?_,h2,h3⟩
  simp only [zYr,zBA]
  rw [e1,Option.bind_some,h1]
theorem zZW {n:Nat} {o4 o6:List Int} (W:zFS c k pos) (V:zMA q k) (h4:o4.length=c.cells.length+1) (h6:o6.length=c.cells.length+1) (hb: ∀ j,j≤c.cells.length→o4.getD j 0=bef q c pos j) (ha: ∀ j,j≤c.cells.length→o6.getD j 0=aft q c pos j) (hl:lost.length=pos.length) (hn:c.cells.length+1≤n):
 ∃ l,zDF c q pos pos.length lost n (.l2 0 lost o4 o6)=some (true,l)∧zAf c pos lost c.cells.length (fun a s=>zKj q c pos a s=true) l:=by
 have lt: ∀ i,i<c.cells.length→((i:Nat):Int)<((c.cells.length:Nat):Int):=fun i hi=>by omega
 have t1:((((c.cells.length:Nat):Int)+1).toNat:Nat)=c.cells.length+1:=by omega
 have hlen:=W.len
 have T:=zIt (fun n (s:List Int) i=>zDF c q pos pos.length lost n (.l2 i s o4 o6)) c.cells.length 1
  (fun i s=>zAf c pos lost i (fun a s=>zKj q c pos a s=true) s) (fun n i s hn0 hi hI=>?_) (n:=n) (s:=lost) (by omega) (zAf.zero hl)
 ·obtain ⟨n3,l,hn3,_,e2,hL⟩:=T
  obtain ⟨n4,rfl⟩: ∃ n4,n3=n4+1:=⟨n3-1,by omega⟩
  refine ⟨l,e2.trans ?_,hL⟩
  show zHd n4 (zDF c q pos pos.length lost n4) c q pos pos.length lost (c.cells.length:Int) l o4 o6=_
  unfold zHd
  rw [decide_eq_false (by omega),cond_false]
 ·have hc:=W.cells i hi
  have hr:=W.r64 hi
  have hsm:=W.at hi
  have t2:(((i:Int)+1).toNat:Nat)=i+1:=by omega
  obtain ⟨l',e1,n1,f1⟩:=zP3 (n:=n) (q:=q) W hi hI.1 zBZ.s0 (zGM n c (i:Int) q pos pos.length o4 o6) (zKj q c pos i) fun s l hs hl=>by
   have hvl:=V.len
   have g1:(0:Int)≤(s:Int)∧(s:Int)<((q.values.length:Nat):Int):=by omega
   have hk:=W.k
   have g2:(0:Int)≤(s:Int)∧(s:Int)≤((IntKind.i64.bits:Nat):Int):=⟨by omega,by show (s:Int)≤64;omega⟩
   obtain ⟨l2,e2,_,_⟩:=zCX (lost:=l) (n:=n) (ss:=IntKind.i64.wrap (1*2 ^ s)) (c:=c) (q:=q) hc.1 hc.2 hl
   unfold zKj zGM zHf zDN
   dsimp only
   simp only [Int.toNat_natCast,t1,t2,Nat.zero_add,h4,h6]
   rw [if_pos ⟨g1,by omega,by omega⟩,hb i (by omega),ha (i+1) (by omega)]
   cases hA:decide (q.values.getD s 0≤bef q c pos i)
   ·rw [cond_false,if_pos ⟨zAG.2 ⟨by omega,by omega⟩,by omega,by omega⟩,Bool.false_or]
    cases hB:decide (q.values.getD s 0≥aft q c pos (i+1))
    ·rfl
    ·rw [cond_true,cond_true,if_pos g2,e2];rfl
   ·rw [cond_true,Bool.true_or,cond_true,if_pos g2,e2];rfl
  show ∃ s',zHd n (zDF c q pos pos.length lost n) c q pos pos.length lost (i:Int) s o4 o6=_∧_
  unfold zHd
  rw [decide_eq_true (lt i hi),cond_true]
  simp only [Int.toNat_natCast]
  rw [if_pos ⟨⟨by omega,lt i hi⟩,hc,hsm.i63 W.k⟩]
  refine ⟨l',?_,hI.step n1 f1⟩
  refine (congrArg (fun z=>Option.bind z _) e1).trans ?_
  rw [Option.bind_some]
  simp only
  rw [if_pos hr.2]
theorem zWg {n:Nat} (W:zFS c k pos) (V:zMA q k) (hl:lost.length=pos.length) (hn:2*c.cells.length+3≤n):
 ∃ l,zPM n c q pos pos.length lost=some (true,l)∧zAf c pos lost c.cells.length (fun a s=>zKj q c pos a s=true) l:=by
 have lt: ∀ i,i<c.cells.length→((i:Nat):Int)<((c.cells.length:Nat):Int):=fun i hi=>by omega
 have t1:((((c.cells.length:Nat):Int)+1).toNat:Nat)=c.cells.length+1:=by omega
 have hlen:=W.len
 have S:=zIt (fun n (s:List Int) i=>zDF c q pos pos.length lost n (.l1 i s)) c.cells.length (c.cells.length+3)
  (fun i s=>s.length=c.cells.length+1∧∀ j,j≤i→s.getD j 0=bef q c pos j) (fun n i s _ hi hI=>?_) (n:=n) (s:=(List.replicate (c.cells.length+1) (0:Int)).set 0 (-1)) (by omega) ⟨by simp,fun j hj=>?_⟩
 ·obtain ⟨n1,o4,hn1,_,e1,h4,hb⟩:=S
  obtain ⟨n2,rfl⟩: ∃ n2,n1=n2+1:=⟨n1-1,by omega⟩
  have e0:zPM n c q pos pos.length lost=zDF c q pos pos.length lost n (.l1 0 ((List.replicate (c.cells.length+1) (0:Int)).set 0 (-1))):=by
   unfold zPM zSa
   simp only [t1,Nat.zero_add,List.length_replicate]
   rw [if_pos ⟨zAG.2 ⟨by omega,by omega⟩,⟨trivial,by omega,by omega⟩,⟨by omega,by omega⟩,by omega,⟨by omega,by omega⟩,by omega⟩]
  have e2:zPM n c q pos pos.length lost=zHe n2 (zDF c q pos pos.length lost n2) c q pos pos.length lost (c.cells.length:Int) o4:=e0.trans e1
  unfold zHe at e2
  rw [decide_eq_false (by omega),cond_false,zcP (Nat.le_trans hlen (by decide)) (by omega),Option.bind_some] at e2
  simp only [t1,Nat.zero_add] at e2
  obtain ⟨o6,e3,h6,ha⟩:=zPJ (lost:=lost) (n:=n2) (o4:=o4) W V c.cells.length ((List.replicate (c.cells.length+1) (0:Int)).set c.cells.length 100) (Nat.le_refl _) (by simp) fun j hj hj2=>by
   obtain rfl:j=c.cells.length:=by omega
   rw [zAk (by simp)]
   unfold aft
   rw [Nat.sub_self];rfl
  rw [e3,Option.bind_some] at e2
  obtain ⟨l,e4,hL⟩:=zZW (n:=n2) W V h4 h6 (fun j hj=>hb j hj) ha hl (by omega)
  exact ⟨l,e2.trans e4,hL⟩
 ·obtain ⟨h4,hb⟩:=hI
  have hc:=W.cells i hi
  have hr:=W.r64 hi
  have hsm:=W.at hi
  have t2:(((i:Int)+1).toNat:Nat)=i+1:=by omega
  show ∃ s',zHe n (zDF c q pos pos.length lost n) c q pos pos.length lost (i:Int) s=_∧_
  unfold zHe
  rw [decide_eq_true (lt i hi),cond_true]
  simp only [Int.toNat_natCast,t1,t2,Nat.zero_add]
  rw [if_pos ⟨⟨by omega,lt i hi⟩,hr.2,by omega,by omega,hc,hsm.i63 W.k⟩]
  refine ⟨s.set (i+1) (bef q c pos (i+1)),?_,by rw [List.length_set];exact h4,fun j hj=>?_⟩
  ·refine (congrArg (fun z=>Option.bind z _) (zWf hlen hi h4 (zAj (zAI c pos i)) 100 fun e he=>(V.sym W.k hsm e he).1)).trans ?_
   rw [Option.bind_some]
   simp only
   rw [if_pos hr.2,hb i (Nat.le_refl _)]
   rfl
  ·by_cases e:i+1=j
   ·subst e;exact zAk (by omega)
   ·rw [getD_set_ne e];exact hb j (by omega)
 ·obtain rfl:j=0:=by omega
  rw [zAk (by simp)];rfl
end
end Go.Proofs.YtekkngkphejfcaaGreatDoor
namespace Go.Proofs.YtekkngkphejfcaaGreatDoor
open Go.RowKit
section
variable {k:Nat}
theorem zPs {T1 T2:Type} (mk1:List Int→Int→Int→T1) (mk2:List Int→Int→Int→T2) (f1:Int→Int→T1→Option T1) (f2:Int→T2→Option T2) (ok:Nat→Nat→Bool) {a b:Int} (ha:Sm k a) (hb:Sm k b) (hk:k≤16)
 (h1: ∀ (s t:Nat) (l:List Int) (x y:Int),s<k→t<k→f1 s t (mk1 l x y)=some (bif ok s t then mk1 l (bits .or .i64 x (IntKind.i64.wrap (1*2 ^ s))) (bits .or .i64 y (IntKind.i64.wrap (1*2 ^ t))) else mk1 l x y))
 (h2: ∀ (s:Nat) (l:List Int) (x y x' y':Int),s<k→zBA (f1 s) (zAj b) (mk1 l x y)=some (mk1 l x' y')→f2 s (mk2 l x y)=some (mk2 l x' y')) (l:List Int):
 ∃ x y,zBA f2 (zAj a) (mk2 l 0 0)=some (mk2 l x y)∧(∀ u,tb x u=true↔tb a u=true∧∃ t,tb b t=true∧ok u t=true)∧(∀ u,tb y u=true↔tb b u=true∧∃ s,tb a s=true∧ok s u=true):=by
 have k62:k≤62:=Nat.le_trans hk (by decide)
 have inner: ∀ (s:Nat) (x y:Int),s<k→∃ x' y',zBA (f1 s) (zAj b) (mk1 l x y)=some (mk1 l x' y')∧(∀ u,tb x' u=true↔tb x u=true∨(u=s∧∃ t,tb b t=true∧ok s t=true))∧(∀ u,tb y' u=true↔tb y u=true∨(tb b u=true∧ok s u=true)):=by
  intro s x y hs
  have key:=zID (f:=f1 s) (fun pre st=>∃ x' y',st=mk1 l x' y'∧(∀ u,tb x' u=true↔tb x u=true∨(u=s∧∃ t:Nat,(t:Int)∈pre∧ok s t=true))∧(∀ u:Nat,tb y' u=true↔tb y u=true∨((u:Int)∈pre∧ok s u=true)))
   (zAj b) [] (mk1 l x y) ⟨x,y,rfl,fun u=>⟨.inl,fun h=>h.elim id fun ⟨_,t,h,_⟩=>(by cases h)⟩,fun u=>⟨.inl,fun h=>h.elim id fun ⟨h,_⟩=>(by cases h)⟩⟩ ?_
  ·obtain ⟨st,e,x',y',rfl,hx,hy⟩:=key
   refine ⟨x',y',e,fun u=>?_,fun u=>?_⟩
   ·rw [hx,List.nil_append]
    constructor
    ·rintro (h | ⟨e1,t,h,h3⟩)
     ·exact .inl h
     ·obtain ⟨t',e2,_,h4⟩:=(zAd hb k62).1 h
      have:t=t':=by omega
      subst this
      exact .inr ⟨e1,t,h4,h3⟩
    ·rintro (h | ⟨e1,t,h,h3⟩)
     ·exact .inl h
     ·exact .inr ⟨e1,t,(zAd hb k62).2 ⟨t,rfl,Nat.lt_of_not_le fun hle=>(by rw [hb.hi hle] at h;cases h),h⟩,h3⟩
   ·rw [hy,List.nil_append]
    constructor
    ·rintro (h | ⟨h,h3⟩)
     ·exact .inl h
     ·obtain ⟨t',e2,_,h4⟩:=(zAd hb k62).1 h
      have:u=t':=by omega
      subst this
      exact .inr ⟨h4,h3⟩
    ·rintro (h | ⟨h,h3⟩)
     ·exact .inl h
     ·exact .inr ⟨(zAd hb k62).2 ⟨u,rfl,Nat.lt_of_not_le fun hle=>(by rw [hb.hi hle] at h;cases h),h⟩,h3⟩
  ·rintro pre e _ he ⟨x',y',rfl,hx,hy⟩
   obtain ⟨t,rfl,ht,_⟩:=(zAd hb k62).1 he
   rw [h1 s t l x' y' hs ht]
   cases ho:ok s t
   ·rw [cond_false]
    refine ⟨_,rfl,x',y',rfl,fun u=>?_,fun u=>?_⟩
    ·rw [hx]
     constructor
     ·rintro (h | ⟨e1,t',h,h3⟩)
      ·exact .inl h
      ·exact .inr ⟨e1,t',List.mem_append_left _ h,h3⟩
     ·rintro (h | ⟨e1,t',h,h3⟩)
      ·exact .inl h
      ·rcases List.mem_append.1 h with h | h
       ·exact .inr ⟨e1,t',h,h3⟩
       ·have:t'=t:=by have:=List.mem_singleton.1 h;omega
        subst this
        rw [ho] at h3;cases h3
    ·rw [hy]
     constructor
     ·rintro (h | ⟨h,h3⟩)
      ·exact .inl h
      ·exact .inr ⟨List.mem_append_left _ h,h3⟩
     ·rintro (h | ⟨h,h3⟩)
      ·exact .inl h
      ·rcases List.mem_append.1 h with h | h
       ·exact .inr ⟨h,h3⟩
       ·have:u=t:=by have:=List.mem_singleton.1 h;omega
        subst this
        rw [ho] at h3;cases h3
   ·rw [cond_true]
    refine ⟨_,rfl,_,_,rfl,fun u=>?_,fun u=>?_⟩
    ·rw [zOd,Bool.or_eq_true,hx,zGl (by omega),decide_eq_true_iff]
     constructor
     ·rintro ((h | ⟨e1,t',h,h3⟩) | rfl)
      ·exact .inl h
      ·exact .inr ⟨e1,t',List.mem_append_left _ h,h3⟩
      ·exact .inr ⟨rfl,t,List.mem_append_right _ (.head _),ho⟩
     ·rintro (h | ⟨e1,t',h,h3⟩)
      ·exact .inl (.inl h)
      ·exact .inr e1.symm
    ·rw [zOd,Bool.or_eq_true,hy,zGl (by omega),decide_eq_true_iff]
     constructor
     ·rintro ((h | ⟨h,h3⟩) | rfl)
      ·exact .inl h
      ·exact .inr ⟨List.mem_append_left _ h,h3⟩
      ·exact .inr ⟨List.mem_append_right _ (.head _),ho⟩
     ·rintro (h | ⟨h,h3⟩)
      ·exact .inl (.inl h)
      ·rcases List.mem_append.1 h with h | h
       ·exact .inl (.inr ⟨h,h3⟩)
       ·exact .inr (by have:=List.mem_singleton.1 h;omega)
 have key:=zID (f:=f2) (fun pre st=>∃ x y,st=mk2 l x y∧(∀ u:Nat,tb x u=true↔(u:Int)∈pre∧∃ t,tb b t=true∧ok u t=true)∧(∀ u,tb y u=true↔tb b u=true∧∃ s:Nat,(s:Int)∈pre∧ok s u=true))
  (zAj a) [] (mk2 l 0 0) ⟨0,0,rfl,fun u=>⟨fun h=>absurd h tb0,fun ⟨h,_⟩=>(by cases h)⟩,fun u=>⟨fun h=>absurd h tb0,fun ⟨_,s,h,_⟩=>(by cases h)⟩⟩ ?_
 ·obtain ⟨st,e,x,y,rfl,hx,hy⟩:=key
  refine ⟨x,y,e,fun u=>?_,fun u=>?_⟩
  ·rw [hx,List.nil_append]
   constructor
   ·rintro ⟨h,h2⟩
    obtain ⟨t',e2,_,h4⟩:=(zAd ha k62).1 h
    have:u=t':=by omega
    subst this
    exact ⟨h4,h2⟩
   ·rintro ⟨h,h2⟩
    exact ⟨(zAd ha k62).2 ⟨u,rfl,Nat.lt_of_not_le fun hle=>(by rw [ha.hi hle] at h;cases h),h⟩,h2⟩
  ·rw [hy,List.nil_append]
   constructor
   ·rintro ⟨h0,s,h,h3⟩
    obtain ⟨t',e2,_,h4⟩:=(zAd ha k62).1 h
    have:s=t':=by omega
    subst this
    exact ⟨h0,s,h4,h3⟩
   ·rintro ⟨h0,s,h,h3⟩
    exact ⟨h0,s,(zAd ha k62).2 ⟨s,rfl,Nat.lt_of_not_le fun hle=>(by rw [ha.hi hle] at h;cases h),h⟩,h3⟩
 ·rintro pre e _ he ⟨x,y,rfl,hx,hy⟩
  obtain ⟨s,rfl,hs,_⟩:=(zAd ha k62).1 he
  obtain ⟨x',y',e1,hx',hy'⟩:=inner s x y hs
  refine ⟨_,h2 s l x y x' y' hs e1,x',y',rfl,fun u=>?_,fun u=>?_⟩
  ·rw [hx',hx]
   constructor
   ·rintro (⟨h,h2⟩ | ⟨rfl,h2⟩)
    ·exact ⟨List.mem_append_left _ h,h2⟩
    ·exact ⟨List.mem_append_right _ (.head _),h2⟩
   ·rintro ⟨h,h2⟩
    rcases List.mem_append.1 h with h | h
    ·exact .inl ⟨h,h2⟩
    ·have:u=s:=by have:=List.mem_singleton.1 h;omega
     subst this
     exact .inr ⟨rfl,h2⟩
  ·rw [hy',hy]
   constructor
   ·rintro (⟨h,s',h2,h3⟩ | ⟨h,h2⟩)
    ·exact ⟨h,s',List.mem_append_left _ h2,h3⟩
    ·exact ⟨h,s,List.mem_append_right _ (.head _),h2⟩
   ·rintro ⟨h,s',h2,h3⟩
    rcases List.mem_append.1 h2 with h2 | h2
    ·exact .inl ⟨h,s',h2,h3⟩
    ·have:s'=s:=by have:=List.mem_singleton.1 h2;omega
     subst this
     exact .inr ⟨h,h3⟩
end
theorem zLz {s:Nat} (hs:s<64) (x:Int):(bits .and .i64 (IntKind.i64.wrap (1*2 ^ s)) x==0)= !tb x s:=by
 rw [Bool.eq_iff_iff,beq_iff_eq,zCA (zAl _ _ _)]
 constructor
 ·intro h
  have:=h s hs
  rw [zCJ,zGl hs,decide_eq_true rfl,Bool.true_and] at this
  rw [this];rfl
 ·intro h i hi
  rw [zCJ,zGl hs]
  by_cases e:s=i
  ·subst e
   rw [decide_eq_true rfl,Bool.true_and]
   cases hx:tb x s
   ·rfl
   ·rw [hx] at h;cases h
  ·rw [decide_eq_false e,Bool.false_and]
def okA (q:zAB) (c:zAC) (s t:Nat):Bool:=decide ((if 0-(q.values.getD s 0-q.values.getD t 0)>q.values.getD s 0-q.values.getD t 0 then 0-(q.values.getD s 0-q.values.getD t 0) else q.values.getD s 0-q.values.getD t 0)≥c.lo)
def okN (c:zAC) (s t:Nat):Bool:=(!tb c.set s|| !tb c.other t)&&(!tb c.set t|| !tb c.other s)
def zHC (ok:Nat→Nat→Bool) (c:zAC) (pos:List Int) (a s:Nat):Prop:=
 if a=0 then ¬ ∃ t,tb (zAI c pos 1) t=true∧ok s t=true else ¬ ∃ t,tb (zAI c pos 0) t=true∧ok t s=true
section
variable {c:zAC} {k:Nat} {pos lost:List Int} {q:zAB}
theorem zVf {n ln:Nat} (V:zMA q k) {s t:Nat} (hs:s<k) (ht:t<k):zTf n s t c q pos ln lost=some (okA q c s t,lost):=by
 have h1:=V.val s hs
 have h2:=V.val t ht
 have h3:=V.len
 unfold zTf zQr
 simp only [Int.toNat_natCast]
 rw [if_pos ⟨by omega,by omega,zAG.2 ⟨by omega,by omega⟩,zAG.2 ⟨by omega,by omega⟩⟩]
 rfl
theorem zaH {n ln:Nat} {s t:Nat} (hs:s<64) (ht:t<64):zdW n s t c q pos ln lost=some (okN c s t,lost):=by
 have g: ∀ s:Nat,s<64→(0:Int)≤(s:Int)∧(s:Int)≤((IntKind.i64.bits:Nat):Int):=fun s hs=>⟨by omega,by show (s:Int)≤64;omega⟩
 unfold zdW zXV
 simp only [Int.toNat_natCast]
 rw [if_pos ⟨g s hs,g t ht⟩,zLz hs,zLz hs,zLz ht,zLz ht]
 unfold okN
 cases tb c.set s <;> cases tb c.set t <;> cases tb c.other s <;> cases tb c.other t <;> rfl
theorem zS3 {n:Nat} (W:zFS c k pos) (h2:c.cells.length=2) (hl:lost.length=pos.length) (ok:Nat→Nat→Bool) {x y:Int}
 (hx: ∀ u,tb x u=true↔tb (zAI c pos 0) u=true∧∃ t,tb (zAI c pos 1) t=true∧ok u t=true) (hy: ∀ u,tb y u=true↔tb (zAI c pos 1) u=true∧∃ s,tb (zAI c pos 0) s=true∧ok s u=true):
 ∃ l1 l,zC8 n (c.cells.getD 0 0) (bits .xor .i64 (-1) x) c q pos pos.length lost=some l1∧zC8 n (c.cells.getD 1 0) (bits .xor .i64 (-1) y) c q pos pos.length l1=some l∧zAf c pos lost c.cells.length (zHC ok c pos) l:=by
 have c0:=W.cells 0 (by omega)
 have c1:=W.cells 1 (by omega)
 obtain ⟨l1,e1,n1,f1⟩:=zCX (lost:=lost) (n:=n) (ss:=bits .xor .i64 (-1) x) (c:=c) (q:=q) c0.1 c0.2 hl
 obtain ⟨l,e2,n2,f2⟩:=zCX (lost:=l1) (n:=n) (ss:=bits .xor .i64 (-1) y) (c:=c) (q:=q) c1.1 c1.2 n1
 refine ⟨l1,l,e1,e2,?_⟩
 have lt: ∀ {a:Nat} {s:Nat},a<c.cells.length→tb (zAI c pos a) s=true→s<64:=fun {a s} ha h=>Nat.lt_of_not_le fun hle=>by rw [zQ3 hle] at h;cases h
 rw [h2]
 refine zAf.step (i:=1) (l:=l1) (zAf.step (i:=0) (l:=lost) (zAf.zero hl) n1 fun j s=>?_) n2 fun j s=>?_
 ·rw [f1,Bool.or_eq_true,Bool.and_eq_true,Bool.and_eq_true,decide_eq_true_iff]
  constructor
  ·rintro (h | ⟨rfl,h3,h4⟩)
   ·exact .inl h
   ·refine .inr ⟨rfl,h3,?_⟩
    rw [zSN _ (lt (a:=0) (by omega) h3)] at h4
    unfold zHC
    rw [if_pos rfl]
    intro h5
    rw [(hx s).2 ⟨h3,h5⟩] at h4;cases h4
  ·rintro (h | ⟨rfl,h3,h4⟩)
   ·exact .inl h
   ·refine .inr ⟨rfl,h3,?_⟩
    rw [zSN _ (lt (a:=0) (by omega) h3)]
    unfold zHC at h4
    rw [if_pos rfl] at h4
    cases hb:tb x s
    ·rfl
    ·exact absurd ((hx s).1 hb).2 h4
 ·rw [f2,Bool.or_eq_true,Bool.and_eq_true,Bool.and_eq_true,decide_eq_true_iff]
  constructor
  ·rintro (h | ⟨rfl,h3,h4⟩)
   ·exact .inl h
   ·refine .inr ⟨rfl,h3,?_⟩
    rw [zSN _ (lt (a:=1) (by omega) h3)] at h4
    unfold zHC
    rw [if_neg (by decide)]
    intro h5
    rw [(hy s).2 ⟨h3,h5⟩] at h4;cases h4
  ·rintro (h | ⟨rfl,h3,h4⟩)
   ·exact .inl h
   ·refine .inr ⟨rfl,h3,?_⟩
    rw [zSN _ (lt (a:=1) (by omega) h3)]
    unfold zHC at h4
    rw [if_neg (by decide)] at h4
    cases hb:tb y s
    ·rfl
    ·exact absurd ((hy s).1 hb).2 h4
theorem zSE {n:Nat} (W:zFS c k pos) (V:zMA q k) (h2:c.cells.length=2) (hl:lost.length=pos.length):
 ∃ l,zL3 n c q pos pos.length lost=some (true,l)∧zAf c pos lost c.cells.length (zHC (okA q c) c pos) l:=by
 have c0:=W.cells 0 (by omega)
 have c1:=W.cells 1 (by omega)
 have s0:=W.at (a:=0) (by omega)
 have s1:=W.at (a:=1) (by omega)
 have hk:=W.k
 have g: ∀ s:Nat,s<k→(0:Int)≤(s:Int)∧(s:Int)≤((IntKind.i64.bits:Nat):Int):=fun s hs=>⟨by omega,by show (s:Int)≤64;omega⟩
 obtain ⟨x,y,e,hx,hy⟩:=zPs zAn.s0 zBp.s0 (zDS n c q pos pos.length) (zH1 n c q pos pos.length) (okA q c) s0 s1 hk
  (fun s t l x y hs ht=>by
   unfold zDS zFO zB3
   dsimp only
   rw [zVf V hs ht,Option.bind_some]
   cases okA q c s t
   ·rfl
   ·simp only [cond_true,Int.toNat_natCast]
    rw [if_pos ⟨g s hs,g t ht⟩])
  (fun s l x y x' y' hs he=>by
   unfold zH1 zJa zDw
   dsimp only
   rw [if_pos (show 0≤pos.getD (c.cells.getD 1 0).toNat 0∧pos.getD (c.cells.getD 1 0).toNat 0<9223372036854775808 from s1.i63 hk)]
   refine (congrArg (fun z=>Option.bind z _) he).trans ?_
   rfl) lost
 obtain ⟨l1,l,e1,e2,hL⟩:=zS3 (n:=n) (q:=q) W h2 hl (okA q c) hx hy
 refine ⟨l,?_,hL⟩
 unfold zL3 zL2 zby zS5
 rw [if_pos ⟨by omega,by omega,c0,c1,s0.i63 hk⟩]
 refine (congrArg (fun z=>Option.bind (Option.bind z _) _) e).trans ?_
 rw [Option.bind_some]
 simp only
 rw [e1,Option.bind_some,e2]
 rfl
theorem zXU {n:Nat} (W:zFS c k pos) (h2:c.cells.length=2) (hl:lost.length=pos.length):
 ∃ l,zb3 n c q pos pos.length lost=some (true,l)∧zAf c pos lost c.cells.length (zHC (okN c) c pos) l:=by
 have c0:=W.cells 0 (by omega)
 have c1:=W.cells 1 (by omega)
 have s0:=W.at (a:=0) (by omega)
 have s1:=W.at (a:=1) (by omega)
 have hk:=W.k
 have g: ∀ s:Nat,s<k→(0:Int)≤(s:Int)∧(s:Int)≤((IntKind.i64.bits:Nat):Int):=fun s hs=>⟨by omega,by show (s:Int)≤64;omega⟩
 obtain ⟨x,y,e,hx,hy⟩:=zPs zAm.s0 zBo.s0 (zDR n c q pos pos.length) (zH0 n c q pos pos.length) (okN c) s0 s1 hk
  (fun s t l x y hs ht=>by
   unfold zDR zFN zB2
   dsimp only
   rw [zaH (by omega) (by omega),Option.bind_some]
   cases okN c s t
   ·rfl
   ·simp only [cond_true,Int.toNat_natCast]
    rw [if_pos ⟨g s hs,g t ht⟩])
  (fun s l x y x' y' hs he=>by
   unfold zH0 zJZ zDv
   dsimp only
   rw [if_pos (show 0≤pos.getD (c.cells.getD 1 0).toNat 0∧pos.getD (c.cells.getD 1 0).toNat 0<9223372036854775808 from s1.i63 hk)]
   refine (congrArg (fun z=>Option.bind z _) he).trans ?_
   rfl) lost
 obtain ⟨l1,l,e1,e2,hL⟩:=zS3 (n:=n) (q:=q) W h2 hl (okN c) hx hy
 refine ⟨l,?_,hL⟩
 unfold zb3 zRb zbx zS4
 rw [if_pos ⟨by omega,by omega,c0,c1,s0.i63 hk⟩]
 refine (congrArg (fun z=>Option.bind (Option.bind z _) _) e).trans ?_
 rw [Option.bind_some]
 simp only
 rw [e1,Option.bind_some,e2]
 rfl
end
end Go.Proofs.YtekkngkphejfcaaGreatDoor
namespace Go.Proofs.YtekkngkphejfcaaGreatDoor
open Go.RowKit
set_option maxRecDepth 100000
set_option maxHeartbeats 40000000
def zMU:ST:=.rd 0 (.rd 1 (.rd 2 (.rd 3 (.rd 4 (.rd 6 (.rd 7 (.rd 8 (.rd 9 (.rd 10 (.ef 5 (.rd 12 (.ef 11 (.rd 13 (.fin [0,1] [0,2,3])) (.no))) (.ef 11 (.ef 5 (.rd 12 (.rd 13 (.fin [1,0] [0,2,3]))) (.no)) (.no))))))))))))
theorem zT7:TOk (zBa Tryz.f91 1) [5,11] zMU:=by unfold TOk;kernel_rfl
def zMT:ST:=.rd 0 (.rd 1 (.rd 2 (.rd 3 (.rd 4 (.rd 5 (.rd 6 (.rd 7 (.rd 8 (.rd 9 (.rd 10 (.rd 11 (.rd 12 (.rd 13 (.rd 14 (.rd 15 (.rd 16 (.rd 17 (.rd 18 (.rd 19 (.rd 20 (.rd 21 (.rd 22 (.rd 23 (.rd 24 (.rd 25 (.rd 26 (.rd 27 (.rd 28 (.rd 29 (.rd 30 (.rd 31 (.rd 32 (.ef 33 (.rd 34 (.ef 35 (.fin [] [0,2,3,30,31,32]) (.no))) (.no))))))))))))))))))))))))))))))))))
theorem zT6:TOk (zBa Tryz.f91 5) [33] zMT:=by unfold TOk;kernel_rfl
def zBb:Sch:=fun i=>match i with
 | 1=>.tre [5,11] zMU
 | 5=>.tre [33] zMT
 | _=>.no
def zFW (pos:List Int) (c:zAC) (q:zAB) (ln:Nat) (lost:List Int):St:=⟨(frm 120 [(0,.ref 0 0),(2,.msl 2 1 0 pos.length),(3,.msl 3 1 0 pos.length)]),([some (.cells (zAF c++zAE q++[.ints pos,.msl 1 1 0 ln])),some (.ints lost),some (.bools (List.replicate pos.length false)),some (.bools (List.replicate pos.length false))]:DH)⟩
def zJG (pos:List Int) (c:zAC) (x32:Int) (q:zAB) (ln:Nat) (lost:List Int) (o2 o3:List Bool):St:=⟨(frm 120 [(0,.ref 0 0),(2,.msl 2 1 0 pos.length),(3,.msl 3 1 0 pos.length),(30,.ints c.cells),(31,.i (c.cells.length:Int)),(32,.i x32)]),([some (.cells (zAF c++zAE q++[.ints pos,.msl 1 1 0 ln])),some (.ints lost),some (.bools (o2.set (0+((c.cells.getD ((x32).toNat) 0).toNat)) ((bits .and .i64 (pos.getD ((c.cells.getD ((x32).toNat) 0).toNat) 0) c.set) != 0))),some (.bools (o3.set (0+((c.cells.getD ((x32).toNat) 0).toNat)) ((bits .andNot .i64 (pos.getD ((c.cells.getD ((x32).toNat) 0).toNat) 0) c.set)==0)))]:DH)⟩
def zLj (c:zAC) (q:zAB) (pos:List Int) (ln:Nat) (lost:List Int) (o2 o3:List Bool):DH:=[some (.cells (zAF c++zAE q++[.ints pos,.msl 1 1 0 ln])),some (.ints lost),some (.bools o2),some (.bools o3)]
def zLi (c:zAC) (q:zAB) (pos:List Int) (ln:Nat) (lost:List Int) (o3:List Bool) (y2:(List Bool)):DH:=[some (.cells (zAF c++zAE q++[.ints pos,.msl 1 1 0 ln])),some (.ints lost),none,some (.bools o3),some (.bools y2)]
inductive zGV where
 | l1 (x32:Int) (o2 o3:List Bool)
 | l2 (x2t2:List Bool) (x8:Nat) (x90:List Int) (x91 x92:Int) (o2 o3:List Bool)
 | l3 (x2t2:List Bool) (x8:Nat) (x101 x102:Int) (o1:List Int) (o2 o3:List Bool)
def zFw (n:Nat) (self:zGV→Option ((List Bool)×(List Bool)×Bool×(List Int))) (c:zAC) (q:zAB) (pos:List Int) (ln:Nat) (lost:List Int) (x32:Int) (o2 o3:List Bool):Option ((List Bool)×(List Bool)×Bool×(List Int)):=
 bif (decide (x32<(c.cells.length:Int))) then
  if (0≤x32∧x32<(c.cells.length:Int))∧(0≤(c.cells.getD ((x32).toNat) 0)∧(c.cells.getD ((x32).toNat) 0)<(pos.length:Int))∧0+((c.cells.getD ((x32).toNat) 0).toNat)<o2.length∧0+((c.cells.getD ((x32).toNat) 0).toNat)<o3.length∧R64 (x32+1) then
   self (.l1 (x32+1) (o2.set (0+((c.cells.getD ((x32).toNat) 0).toNat)) ((bits .and .i64 (pos.getD ((c.cells.getD ((x32).toNat) 0).toNat) 0) c.set) != 0)) (o3.set (0+((c.cells.getD ((x32).toNat) 0).toNat)) ((bits .andNot .i64 (pos.getD ((c.cells.getD ((x32).toNat) 0).toNat) 0) c.set)==0)))
  else none
 else
  if pos.length=o3.length then
   (zTL n o3 true).bind fun y1=>
    bif (decide (y1<0)) then
     if pos.length=o2.length then
      some (o2,o3,false,lost)
     else none
    else
     if pos.length=o2.length then
      (zLu n o2).bind fun y2=>
       (zEY n q.nbrs o2 y1).bind fun y3=>
        self (.l2 o2 y2.length y3.1 (y3.1.length:Int) 0 o3 y2)
     else none
  else none
def zFv (n:Nat) (self:zGV→Option ((List Bool)×(List Bool)×Bool×(List Int))) (c:zAC) (q:zAB) (pos:List Int) (ln:Nat) (lost:List Int) (x2t2:List Bool) (x8:Nat) (x90:List Int) (x91 x92:Int) (o2 o3:List Bool):Option ((List Bool)×(List Bool)×Bool×(List Int)):=
 bif (decide (x92<x91)) then
  if (0≤x92∧x92<(x90.length:Int))∧(0≤(x90.getD ((x92).toNat) 0)∧(x90.getD ((x92).toNat) 0)<(x8:Int))∧0+((x90.getD ((x92).toNat) 0).toNat)<o3.length∧R64 (x92+1) then
   self (.l2 x2t2 x8 x90 x91 (x92+1) o2 (o3.set (0+((x90.getD ((x92).toNat) 0).toNat)) false))
  else none
 else
  self (.l3 x2t2 x8 (x8:Int) 0 lost o2 o3)
def zFu (n:Nat) (self:zGV→Option ((List Bool)×(List Bool)×Bool×(List Int))) (c:zAC) (q:zAB) (pos:List Int) (ln:Nat) (lost:List Int) (x2t2:List Bool) (x8:Nat) (x101 x102:Int) (o1:List Int) (o2 o3:List Bool):Option ((List Bool)×(List Bool)×Bool×(List Int)):=
 bif (decide (x102<x101)) then
  if (0≤x102∧x102<(x8:Int))∧0+((x102).toNat)<o3.length then
   bif (o3.getD (0+((x102).toNat)) false) then
    (zC8 n x102 c.set c q pos ln o1).bind fun y1=>
     if R64 (x102+1) then
      self (.l3 x2t2 x8 x101 (x102+1) y1 o2 o3)
     else none
   else
    if R64 (x102+1) then
     self (.l3 x2t2 x8 x101 (x102+1) o1 o2 o3)
    else none
  else none
 else
  if pos.length=o2.length then
   some (x2t2,o2,true,o1)
  else none
def zPw (n:Nat) (self:zGV→Option ((List Bool)×(List Bool)×Bool×(List Int))) (c:zAC) (q:zAB) (pos:List Int) (ln:Nat) (lost:List Int):Option ((List Bool)×(List Bool)×Bool×(List Int)):=
 if ((pos.length:Int):Int)=(pos.length:Int)∧0≤(pos.length:Int)∧((pos.length:Int):Int)≤1000000000000 then
  self (.l1 0 (List.replicate pos.length false) (List.replicate pos.length false))
 else none
def zAx (c:zAC) (q:zAB) (pos:List Int) (ln:Nat) (lost:List Int):Nat→zGV→Option ((List Bool)×(List Bool)×Bool×(List Int))
 | 0,_=>none
 | n+1,.l1 x32 o2 o3=>zFw n (zAx c q pos ln lost n) c q pos ln lost x32 o2 o3
 | n+1,.l2 x2t2 x8 x90 x91 x92 o2 o3=>zFv n (zAx c q pos ln lost n) c q pos ln lost x2t2 x8 x90 x91 x92 o2 o3
 | n+1,.l3 x2t2 x8 x101 x102 o1 o2 o3=>zFu n (zAx c q pos ln lost n) c q pos ln lost x2t2 x8 x101 x102 o1 o2 o3
def zLL (n:Nat) (c:zAC) (q:zAB) (pos:List Int) (ln:Nat) (lost:List Int):Option ((List Bool)×(List Bool)×Bool×(List Int)):=zPw n (zAx c q pos ln lost n) c q pos ln lost
def zXX (n B:Nat) (N:Yd 2) (c:zAC) (q:zAB) (pos:List Int) (ln:Nat) (lost:List Int) (r:(List Bool)×(List Bool)×Bool×(List Int)):zGV→Prop
 | .l1 x32 o2 o3=>∀ m0:Nat,n≤m0→TW B N (FQ Tryz.f91 2 (.tup 3 (L1 [.bools r.1,.bools r.2.1,.bool r.2.2.1])) [some (.cells (zAF c++zAE q++[.ints pos,.msl 1 1 0 ln])),some (.ints r.2.2.2)]) (toN m0 (zA9 (zAK Tryz.f91) 0 [])) ⟨frm 120 [(0,.ref 0 0),(2,.msl 2 1 0 pos.length),(3,.msl 3 1 0 pos.length),(30,.ints c.cells),(31,.i (c.cells.length:Int)),(32,.i x32)],[some (.cells (zAF c++zAE q++[.ints pos,.msl 1 1 0 ln])),some (.ints lost),some (.bools o2),some (.bools o3)]⟩
 | .l2 x2t2 x8 x90 x91 x92 o2 o3=>∀ m0:Nat,n≤m0→TW B N (FQ Tryz.f91 2 (.tup 3 (L1 [.bools r.1,.bools r.2.1,.bool r.2.2.1])) [some (.cells (zAF c++zAE q++[.ints pos,.msl 1 1 0 ln])),some (.ints r.2.2.2)]) (toN m0 (zA9 (zAK Tryz.f91) 2 [])) ⟨frm 120 [(0,.ref 0 0),(2,.bools x2t2),(3,.msl 2 1 0 pos.length),(8,.msl 3 1 0 x8),(90,.ints x90),(91,.i x91),(92,.i x92)],[some (.cells (zAF c++zAE q++[.ints pos,.msl 1 1 0 ln])),some (.ints lost),some (.bools o2),some (.bools o3)]⟩
 | .l3 x2t2 x8 x101 x102 o1 o2 o3=>∀ m0:Nat,n≤m0→TW B N (FQ Tryz.f91 2 (.tup 3 (L1 [.bools r.1,.bools r.2.1,.bool r.2.2.1])) [some (.cells (zAF c++zAE q++[.ints pos,.msl 1 1 0 ln])),some (.ints r.2.2.2)]) (toN m0 (zA9 (zAK Tryz.f91) 4 [])) ⟨frm 120 [(0,.ref 0 0),(2,.bools x2t2),(3,.msl 2 1 0 pos.length),(8,.msl 3 1 0 x8),(101,.i x101),(102,.i x102)],[some (.cells (zAF c++zAE q++[.ints pos,.msl 1 1 0 ln])),some (.ints o1),some (.bools o2),some (.bools o3)]⟩
theorem zUb (B:Nat) (N:Yd 2) (c:zAC) (q:zAB) (pos:List Int) (ln:Nat) (lost:List Int):Al (zAx c q pos ln lost) (zXX · B N c q pos ln lost):=ia (fun _=>rfl) fun n hself pt r h=>by
 cases pt
 case l1 x32 o2 o3=>
  intro m0 hm0
  refine rd hm0 fun m0 hm0=>?_
  revert r
  apply gO
  exact bi 33 (gc (gi (jg zT6 (gc (gn fun g1=>jg g1 (jg g1 (jg g1 (gc (gi (jg g1 (gc (gi (jg (Eq.refl (zJG pos c x32 q ln lost o2 o3)) (gw 70 (lG (tg:=[([(33,2)],(zJG pos c x32 q ln lost o2 o3))]) zBb [0,1,2,3] (hself _ _ · m0 hm0)))))))))))))))) (gn fun g0=>cn fun y1 hy1=>jc (sb [.msl 3 1 0 pos.length,.bool true] (zX3 hy1) (zLj c q pos ln lost o2 o3) ⟨zA1.bools rfl g0,zA1.plain (by kernel_rfl),trivial⟩) (bi 74 (gn fun g1=>lF fun p=>ez zBb [2,3,4] [0,1,2,3] p [2,3] (H0.g g1 |>.g g0)) (gn fun g1=>cn fun y2 hy2=>jc (ES.snapNew (ds:=[.msl 2 1 0 pos.length]) (zQk hy2) (zLj c q pos ln lost o2 o3) ⟨zA1.bools rfl g1,trivial⟩ rfl) (fun p r h=>by
   refine gz (zAA 11 zBb) [0,1,2,3,4] p [2] (H0.g g1) (zEd (zAK Tryz.f91) 11 []) (frm 120 [(0,.ref 0 0),(2,.bools o2),(3,.msl 3 1 0 pos.length),(7,.i y1),(8,.msl 4 1 0 y2.length)]) (zLi c q pos ln lost o3 y2) ?_
   revert r
   apply gO
   exact cf zQg (zLi c q pos ln lost o3 y2) fun _=>lN zBb [0,1,3,4] (hself _ _ · n Nat.le.refl)))))
 case l2 x2t2 x8 x90 x91 x92 o2 o3=>
  intro m0 hm0
  refine rd hm0 fun m0 hm0=>?_
  revert r
  apply gO
  exact bi 93 (gc (gi (gc (gi (gc (gi (gw 99 (lG zBb [0,1,2,3] (hself _ _ · m0 hm0))))))))) (lN zBb [0,1,2,3] (hself _ _ · n Nat.le.refl))
 case l3 x2t2 x8 x101 x102 o1 o2 o3=>
  intro m0 hm0
  refine rd hm0 fun m0 hm0=>?_
  revert r
  apply gO
  exact bi 103 (gc (gi (gi (bi 108 (ce zBS [0,1] [some (.cells (zAF c++zAE q++[.ints pos,.msl 1 1 0 ln])),some (.ints o1),some (.bools o2),some (.bools o3)] fun _=>gw 117 (lG zBb [0,1,2,3] (hself _ _ · m0 hm0))) (gw 117 (lG zBb [0,1,2,3] (hself _ _ · m0 hm0))))))) (gn fun g0=>lF fun p=>ez zBb [2,3,4] [0,1,2] p [2] (H0.g g0))
theorem zPv {n:Nat} {c:zAC} {q:zAB} {pos:List Int} {ln:Nat} {lost:List Int} {r:(List Bool)×(List Bool)×Bool×(List Int)} (h:zLL n c q pos ln lost=some r):EQ 91 [.ref 0 0] [some (.cells (zAF c++zAE q++[.ints pos,.msl 1 1 0 ln])),some (.ints lost)] (.tup 3 (L1 [.bools r.1,.bools r.2.1,.bool r.2.2.1])) [some (.cells (zAF c++zAE q++[.ints pos,.msl 1 1 0 ln])),some (.ints r.2.2.2)] false:=by
 refine ot Tryz.func91 fun B N=>?_
 revert r
 apply gO
 exact jg zT7 (gn fun g0=>jg g0 (jg g0 (jg (Eq.refl (zFW pos c q ln lost)) (jg g0 (jg g0 (jg (Eq.refl (zFW pos c q ln lost)) (lN (tg:=[([],(zFW pos c q ln lost))]) zBb [0,1,2,3] ((zUb B N c q pos ln lost n) _ _ · n Nat.le.refl))))))))
inductive zOR where
 | l1 (x3 x4:List Bool) (x5:Bool) (x16 x17:Int) (o1:List Int)
def zIM (n:Nat) (self:zOR→Option (Bool×(List Int))) (c:zAC) (q:zAB) (pos:List Int) (ln:Nat) (lost:List Int) (x3 x4:List Bool) (x5:Bool) (x16 x17:Int) (o1:List Int):Option (Bool×(List Int)):=
 bif (decide (x17<x16)) then
  bif (!x5) then
   if R64 (x17+1) then
    self (.l1 x3 x4 x5 x16 (x17+1) o1)
   else none
  else
   if 0≤x17∧x17<(x3.length:Int) then
    bif (!(x3.getD ((x17).toNat) false)) then
     if R64 (x17+1) then
      self (.l1 x3 x4 x5 x16 (x17+1) o1)
     else none
    else
     if 0≤x17∧x17<(x4.length:Int) then
      bif (x4.getD ((x17).toNat) false) then
       if R64 (x17+1) then
        self (.l1 x3 x4 x5 x16 (x17+1) o1)
       else none
      else
       (zKY n q.nbrs x3 x4 x17).bind fun y1=>
        bif y1.1 then
         (zHD n x17 c q pos ln o1).bind fun y2=>
          if R64 (x17+1) then
           self (.l1 x3 x4 x5 x16 (x17+1) y2)
          else none
        else
         if R64 (x17+1) then
          self (.l1 x3 x4 x5 x16 (x17+1) o1)
         else none
     else none
   else none
 else
  some (true,o1)
def za0 (n:Nat) (self:zOR→Option (Bool×(List Int))) (c:zAC) (q:zAB) (pos:List Int) (ln:Nat) (lost:List Int):Option (Bool×(List Int)):=
 (zLL n c q pos ln lost).bind fun y1=>
  self (.l1 y1.1 y1.2.1 y1.2.2.1 (y1.1.length:Int) 0 y1.2.2.2)
def zGE (c:zAC) (q:zAB) (pos:List Int) (ln:Nat) (lost:List Int):Nat→zOR→Option (Bool×(List Int))
 | 0,_=>none
 | n+1,.l1 x3 x4 x5 x16 x17 o1=>zIM n (zGE c q pos ln lost n) c q pos ln lost x3 x4 x5 x16 x17 o1
def za2 (n:Nat) (c:zAC) (q:zAB) (pos:List Int) (ln:Nat) (lost:List Int):Option (Bool×(List Int)):=za0 n (zGE c q pos ln lost n) c q pos ln lost
def za1 (n B:Nat) (N:Yd 2) (c:zAC) (q:zAB) (pos:List Int) (ln:Nat) (lost:List Int) (r:Bool×(List Int)):zOR→Prop
 | .l1 x3 x4 x5 x16 x17 o1=>∀ m0:Nat,n≤m0→TW B N (FQ Tryz.f64 2 (.bool r.1) [some (.cells (zAF c++zAE q++[.ints pos,.msl 1 1 0 ln])),some (.ints r.2)]) (toN m0 (zA9 (zAK Tryz.f64) 0 [])) ⟨frm 52 [(0,.ref 0 0),(3,.bools x3),(4,.bools x4),(5,.bool x5),(16,.i x16),(17,.i x17)],[some (.cells (zAF c++zAE q++[.ints pos,.msl 1 1 0 ln])),some (.ints o1)]⟩
theorem zYl (B:Nat) (N:Yd 2) (c:zAC) (q:zAB) (pos:List Int) (ln:Nat) (lost:List Int):Al (zGE c q pos ln lost) (za1 · B N c q pos ln lost):=ia (fun _=>rfl) fun n hself pt r h=>by
 cases pt
 case l1 x3 x4 x5 x16 x17 o1=>
  intro m0 hm0
  refine rd hm0 fun m0 hm0=>?_
  revert r
  apply gO
  exact bi 18 (bi 21 (gw 51 (lG zAH [0,1] (hself _ _ · m0 hm0))) (gi (bi 27 (gw 51 (lG zAH [0,1] (hself _ _ · m0 hm0))) (gi (bi 33 (gw 51 (lG zAH [0,1] (hself _ _ · m0 hm0))) (cf zVw [some (.cells (zAF c++zAE q++[.ints pos,.msl 1 1 0 ln])),some (.ints o1)] fun _=>bi 45 (ce zDx [0,1] [some (.cells (zAF c++zAE q++[.ints pos,.msl 1 1 0 ln])),some (.ints o1)] fun _=>gw 51 (lG zAH [0,1] (hself _ _ · m0 hm0))) (gw 51 (lG zAH [0,1] (hself _ _ · m0 hm0))))))))) (lE zAH [2] [0,1])
theorem zaz {n:Nat} {c:zAC} {q:zAB} {pos:List Int} {ln:Nat} {lost:List Int} {r:Bool×(List Int)} (h:za2 n c q pos ln lost=some r):EQ 64 [.ref 0 0] [some (.cells (zAF c++zAE q++[.ints pos,.msl 1 1 0 ln])),some (.ints lost)] (.bool r.1) [some (.cells (zAF c++zAE q++[.ints pos,.msl 1 1 0 ln])),some (.ints r.2)] false:=by
 refine ot Tryz.func64 fun B N=>?_
 revert r
 apply gO
 exact ce zPv [0,1] [some (.cells (zAF c++zAE q++[.ints pos,.msl 1 1 0 ln])),some (.ints lost)] fun _=>lN zAH [0,1] ((zYl B N c q pos ln lost n) _ _ · n Nat.le.refl)
inductive zFx where
 | l1 (x3 x4:List Bool) (x20 x21:Int) (o1:List Int)
 | l2 (x3 x4:List Bool) (x8 x20 x21:Int) (x36:List Int) (x37 x38:Int) (o1:List Int)
 | l3 (x3 x4:List Bool) (x7:Nat) (x8 x20 x21:Int) (x36:List Int) (x37 x38:Int) (o1 o2:List Int)
 | l4 (x3 x4:List Bool) (x7:Nat) (x8 x20 x21:Int) (x64:Nat) (x65 x66:Int) (o1 o2:List Int)
def zH8 (n:Nat) (self:zFx→Option (Bool×(List Int))) (c:zAC) (q:zAB) (pos:List Int) (ln:Nat) (lost:List Int) (x3 x4:List Bool) (x20 x21:Int) (o1:List Int):Option (Bool×(List Int)):=
 bif (decide (x21<x20)) then
  if 0≤x21∧x21<(x4.length:Int) then
   bif (!(x4.getD ((x21).toNat) false)) then
    if R64 (x21+1) then
     self (.l1 x3 x4 x20 (x21+1) o1)
    else none
   else
    if 0≤x21∧x21<(q.nbrs.length:Int) then
     self (.l2 x3 x4 0 x20 x21 (q.nbrs.getD ((x21).toNat) []) (((q.nbrs.getD ((x21).toNat) []).length:Nat):Int) 0 o1)
    else none
  else none
 else
  some (true,o1)
def zH7 (n:Nat) (self:zFx→Option (Bool×(List Int))) (c:zAC) (q:zAB) (pos:List Int) (ln:Nat) (lost:List Int) (x3 x4:List Bool) (x8 x20 x21:Int) (x36:List Int) (x37 x38:Int) (o1:List Int):Option (Bool×(List Int)):=
 bif (decide (x38<x37)) then
  if (0≤x38∧x38<(x36.length:Int))∧(0≤(x36.getD ((x38).toNat) 0)∧(x36.getD ((x38).toNat) 0)<(x3.length:Int)) then
   bif (x3.getD ((x36.getD ((x38).toNat) 0).toNat) false) then
    if ((0=0∧1=([x36.getD ((x38).toNat) 0]:List Int).length)∧0<([x36.getD ((x38).toNat) 0]:List Int).length∧([x36.getD ((x38).toNat) 0]:List Int).length≤LIM)∧(0≤(x36.getD ((x38).toNat) 0)∧(x36.getD ((x38).toNat) 0)<(x4.length:Int)) then
     bif (x4.getD ((x36.getD ((x38).toNat) 0).toNat) false) then
      if R64 (x8+1)∧R64 (x38+1) then
       self (.l3 x3 x4 (([x36.getD ((x38).toNat) 0]:List Int).length) (x8+1) x20 x21 x36 x37 (x38+1) o1 ([x36.getD ((x38).toNat) 0]:List Int))
      else none
     else
      if R64 (x38+1) then
       self (.l3 x3 x4 (([x36.getD ((x38).toNat) 0]:List Int).length) x8 x20 x21 x36 x37 (x38+1) o1 ([x36.getD ((x38).toNat) 0]:List Int))
      else none
    else none
   else
    if 0≤(x36.getD ((x38).toNat) 0)∧(x36.getD ((x38).toNat) 0)<(x4.length:Int) then
     bif (x4.getD ((x36.getD ((x38).toNat) 0).toNat) false) then
      if R64 (x8+1)∧R64 (x38+1) then
       self (.l2 x3 x4 (x8+1) x20 x21 x36 x37 (x38+1) o1)
      else none
     else
      if R64 (x38+1) then
       self (.l2 x3 x4 x8 x20 x21 x36 x37 (x38+1) o1)
      else none
    else none
  else none
 else
  some (false,o1)
def zFD (n:Nat) (self:zFx→Option (Bool×(List Int))) (c:zAC) (q:zAB) (pos:List Int) (ln:Nat) (lost:List Int) (x3 x4:List Bool) (x7:Nat) (x8 x20 x21:Int) (x36:List Int) (x37 x38:Int) (o1 o2:List Int):Option (Bool×(List Int)):=
 bif (decide (x38<x37)) then
  if (0≤x38∧x38<(x36.length:Int))∧(0≤(x36.getD ((x38).toNat) 0)∧(x36.getD ((x38).toNat) 0)<(x3.length:Int)) then
   bif (x3.getD ((x36.getD ((x38).toNat) 0).toNat) false) then
    if ((0=0∧1=([x36.getD ((x38).toNat) 0]:List Int).length)∧(0=0∧x7=o2.length)∧o2.length+([x36.getD ((x38).toNat) 0]:List Int).length≤LIM)∧(0≤(x36.getD ((x38).toNat) 0)∧(x36.getD ((x38).toNat) 0)<(x4.length:Int)) then
     bif (x4.getD ((x36.getD ((x38).toNat) 0).toNat) false) then
      if R64 (x8+1)∧R64 (x38+1) then
       self (.l3 x3 x4 (o2.length+([x36.getD ((x38).toNat) 0]:List Int).length) (x8+1) x20 x21 x36 x37 (x38+1) o1 (o2++([x36.getD ((x38).toNat) 0]:List Int)))
      else none
     else
      if R64 (x38+1) then
       self (.l3 x3 x4 (o2.length+([x36.getD ((x38).toNat) 0]:List Int).length) x8 x20 x21 x36 x37 (x38+1) o1 (o2++([x36.getD ((x38).toNat) 0]:List Int)))
      else none
    else none
   else
    if 0≤(x36.getD ((x38).toNat) 0)∧(x36.getD ((x38).toNat) 0)<(x4.length:Int) then
     bif (x4.getD ((x36.getD ((x38).toNat) 0).toNat) false) then
      if R64 (x8+1)∧R64 (x38+1) then
       self (.l3 x3 x4 x7 (x8+1) x20 x21 x36 x37 (x38+1) o1 o2)
      else none
     else
      if R64 (x38+1) then
       self (.l3 x3 x4 x7 x8 x20 x21 x36 x37 (x38+1) o1 o2)
      else none
    else none
  else none
 else
  bif (decide ((x7:Int)<2)) then
   some (false,o1)
  else
   bif (decide (x8>2)) then
    some (false,o1)
   else
    self (.l4 x3 x4 x7 x8 x20 x21 x7 (x7:Int) 0 o1 o2)
def zH6 (n:Nat) (self:zFx→Option (Bool×(List Int))) (c:zAC) (q:zAB) (pos:List Int) (ln:Nat) (lost:List Int) (x3 x4:List Bool) (x7:Nat) (x8 x20 x21:Int) (x64:Nat) (x65 x66:Int) (o1 o2:List Int):Option (Bool×(List Int)):=
 bif (decide (x66<x65)) then
  if (0≤x66∧x66<(x64:Int))∧0+((x66).toNat)<o2.length then
   bif ((x7:Int)==2) then
    (zHD n (o2.getD (0+((x66).toNat)) 0) c q pos ln o1).bind fun y1=>
     bif (x8==2) then
      if 0≤(o2.getD (0+((x66).toNat)) 0)∧(o2.getD (0+((x66).toNat)) 0)<(x4.length:Int) then
       bif (!(x4.getD ((o2.getD (0+((x66).toNat)) 0).toNat) false)) then
        (zC8 n (o2.getD (0+((x66).toNat)) 0) c.set c q pos ln y1).bind fun y2=>
         if R64 (x66+1) then
          self (.l4 x3 x4 x7 x8 x20 x21 x64 x65 (x66+1) y2 o2)
         else none
       else
        if R64 (x66+1) then
         self (.l4 x3 x4 x7 x8 x20 x21 x64 x65 (x66+1) y1 o2)
        else none
      else none
     else
      if R64 (x66+1) then
       self (.l4 x3 x4 x7 x8 x20 x21 x64 x65 (x66+1) y1 o2)
      else none
   else
    bif (x8==2) then
     if 0≤(o2.getD (0+((x66).toNat)) 0)∧(o2.getD (0+((x66).toNat)) 0)<(x4.length:Int) then
      bif (!(x4.getD ((o2.getD (0+((x66).toNat)) 0).toNat) false)) then
       (zC8 n (o2.getD (0+((x66).toNat)) 0) c.set c q pos ln o1).bind fun y1=>
        if R64 (x66+1) then
         self (.l4 x3 x4 x7 x8 x20 x21 x64 x65 (x66+1) y1 o2)
        else none
      else
       if R64 (x66+1) then
        self (.l4 x3 x4 x7 x8 x20 x21 x64 x65 (x66+1) o1 o2)
       else none
     else none
    else
     if R64 (x66+1) then
      self (.l4 x3 x4 x7 x8 x20 x21 x64 x65 (x66+1) o1 o2)
     else none
  else none
 else
  if R64 (x21+1) then
   self (.l1 x3 x4 x20 (x21+1) o1)
  else none
def zaM (n:Nat) (self:zFx→Option (Bool×(List Int))) (c:zAC) (q:zAB) (pos:List Int) (ln:Nat) (lost:List Int):Option (Bool×(List Int)):=
 (zLL n c q pos ln lost).bind fun y1=>
  self (.l1 y1.1 y1.2.1 (y1.2.1.length:Int) 0 y1.2.2.2)
def zAZ (c:zAC) (q:zAB) (pos:List Int) (ln:Nat) (lost:List Int):Nat→zFx→Option (Bool×(List Int))
 | 0,_=>none
 | n+1,.l1 x3 x4 x20 x21 o1=>zH8 n (zAZ c q pos ln lost n) c q pos ln lost x3 x4 x20 x21 o1
 | n+1,.l2 x3 x4 x8 x20 x21 x36 x37 x38 o1=>zH7 n (zAZ c q pos ln lost n) c q pos ln lost x3 x4 x8 x20 x21 x36 x37 x38 o1
 | n+1,.l3 x3 x4 x7 x8 x20 x21 x36 x37 x38 o1 o2=>zFD n (zAZ c q pos ln lost n) c q pos ln lost x3 x4 x7 x8 x20 x21 x36 x37 x38 o1 o2
 | n+1,.l4 x3 x4 x7 x8 x20 x21 x64 x65 x66 o1 o2=>zH6 n (zAZ c q pos ln lost n) c q pos ln lost x3 x4 x7 x8 x20 x21 x64 x65 x66 o1 o2
def zaO (n:Nat) (c:zAC) (q:zAB) (pos:List Int) (ln:Nat) (lost:List Int):Option (Bool×(List Int)):=zaM n (zAZ c q pos ln lost n) c q pos ln lost
def zaN (n B:Nat) (N:Yd 2) (c:zAC) (q:zAB) (pos:List Int) (ln:Nat) (lost:List Int) (r:Bool×(List Int)):zFx→Prop
 | .l1 x3 x4 x20 x21 o1=>∀ m0:Nat,n≤m0→TW B N (FQ Tryz.f65 2 (.bool r.1) [some (.cells (zAF c++zAE q++[.ints pos,.msl 1 1 0 ln])),some (.ints r.2)]) (toN m0 (zA9 (zAK Tryz.f65) 0 [])) ⟨frm 95 [(0,.ref 0 0),(3,.bools x3),(4,.bools x4),(20,.i x20),(21,.i x21)],[some (.cells (zAF c++zAE q++[.ints pos,.msl 1 1 0 ln])),some (.ints o1)]⟩
 | .l2 x3 x4 x8 x20 x21 x36 x37 x38 o1=>∀ m0 m1:Nat,n≤m0→n≤m1→TW B N (FQ Tryz.f65 2 (.bool r.1) [some (.cells (zAF c++zAE q++[.ints pos,.msl 1 1 0 ln])),some (.ints r.2)]) (toN m1 (zA9 (zAK Tryz.f65) 2 [m0])) ⟨frm 95 [(0,.ref 0 0),(3,.bools x3),(4,.bools x4),(7,.nils),(8,.i x8),(20,.i x20),(21,.i x21),(36,.ints x36),(37,.i x37),(38,.i x38)],[some (.cells (zAF c++zAE q++[.ints pos,.msl 1 1 0 ln])),some (.ints o1)]⟩
 | .l3 x3 x4 x7 x8 x20 x21 x36 x37 x38 o1 o2=>∀ m0 m1:Nat,n≤m0→n≤m1→TW B N (FQ Tryz.f65 2 (.bool r.1) [some (.cells (zAF c++zAE q++[.ints pos,.msl 1 1 0 ln])),some (.ints r.2)]) (toN m1 (zA9 (zAK Tryz.f65) 2 [m0])) ⟨frm 95 [(0,.ref 0 0),(3,.bools x3),(4,.bools x4),(7,.msl 2 1 0 x7),(8,.i x8),(20,.i x20),(21,.i x21),(36,.ints x36),(37,.i x37),(38,.i x38)],[some (.cells (zAF c++zAE q++[.ints pos,.msl 1 1 0 ln])),some (.ints o1),some (.ints o2)]⟩
 | .l4 x3 x4 x7 x8 x20 x21 x64 x65 x66 o1 o2=>∀ m0 m1:Nat,n≤m0→n≤m1→TW B N (FQ Tryz.f65 2 (.bool r.1) [some (.cells (zAF c++zAE q++[.ints pos,.msl 1 1 0 ln])),some (.ints r.2)]) (toN m1 (zA9 (zAK Tryz.f65) 4 [m0])) ⟨frm 95 [(0,.ref 0 0),(3,.bools x3),(4,.bools x4),(7,.msl 2 1 0 x7),(8,.i x8),(20,.i x20),(21,.i x21),(64,.msl 2 1 0 x64),(65,.i x65),(66,.i x66)],[some (.cells (zAF c++zAE q++[.ints pos,.msl 1 1 0 ln])),some (.ints o1),some (.ints o2)]⟩
theorem zXl (B:Nat) (N:Yd 2) (c:zAC) (q:zAB) (pos:List Int) (ln:Nat) (lost:List Int):Al (zAZ c q pos ln lost) (zaN · B N c q pos ln lost):=ia (fun _=>rfl) fun n hself pt r h=>by
 cases pt
 case l1 x3 x4 x20 x21 o1=>
  intro m0 hm0
  refine rd hm0 fun m0 hm0=>?_
  revert r
  apply gO
  exact bi 22 (gi (bi 28 (gw 94 (lG zAH [0,1] (hself _ _ · m0 hm0))) (gi (lN zAH [0,1] (hself _ _ · m0 n hm0 Nat.le.refl))))) (lE zAH [2] [0,1])
 case l2 x3 x4 x8 x20 x21 x36 x37 x38 o1=>
  intro m0 m1 hm0 hm1
  have hm0:=Nat.le_of_succ_le hm0
  refine rd hm1 fun m1 hm1=>?_
  revert r
  apply gO
  exact bi 39 (gc (gi (gi (bi 45 (gc (gi (gi (bi 53 (gc (gw 55 (gw 56 (lG zAH [0,1,3] (hself _ _ · m0 m1 hm0 hm1))))) (gw 56 (lG zAH [0,1,3] (hself _ _ · m0 m1 hm0 hm1))))))) (gi (bi 53 (gc (gw 55 (gw 56 (lG zAH [0,1] (hself _ _ · m0 m1 hm0 hm1))))) (gw 56 (lG zAH [0,1] (hself _ _ · m0 m1 hm0 hm1))))))))) (lE zAH [2] [0,1])
 case l3 x3 x4 x7 x8 x20 x21 x36 x37 x38 o1 o2=>
  intro m0 m1 hm0 hm1
  have hm0:=Nat.le_of_succ_le hm0
  refine rd hm1 fun m1 hm1=>?_
  revert r
  apply gO
  exact bi 39 (gc (gi (gi (bi 45 (gc (gi (gi (bi 53 (gc (gw 55 (gw 56 (lG zAH [0,1,4] (hself _ _ · m0 m1 hm0 hm1))))) (gw 56 (lG zAH [0,1,4] (hself _ _ · m0 m1 hm0 hm1))))))) (gi (bi 53 (gc (gw 55 (gw 56 (lG zAH [0,1,2] (hself _ _ · m0 m1 hm0 hm1))))) (gw 56 (lG zAH [0,1,2] (hself _ _ · m0 m1 hm0 hm1))))))))) (bi 59 (lE zAH [2] [0,1]) (bi 62 (lE zAH [2] [0,1]) (lN zAH [0,1,2] (hself _ _ · m0 n hm0 Nat.le.refl))))
 case l4 x3 x4 x7 x8 x20 x21 x64 x65 x66 o1 o2=>
  intro m0 m1 hm0 hm1
  have hm0:=Nat.le_of_succ_le hm0
  refine rd hm1 fun m1 hm1=>?_
  revert r
  apply gO
  exact bi 67 (gc (gi (gi (bi 72 (ce zDx [0,1] [some (.cells (zAF c++zAE q++[.ints pos,.msl 1 1 0 ln])),some (.ints o1),some (.ints o2)] fun y1=>bi 77 (gi (bi 83 (ce zBS [0,1] [some (.cells (zAF c++zAE q++[.ints pos,.msl 1 1 0 ln])),some (.ints y1),some (.ints o2)] fun _=>gw 93 (lG zAH [0,1,2] (hself _ _ · m0 m1 hm0 hm1))) (gw 93 (lG zAH [0,1,2] (hself _ _ · m0 m1 hm0 hm1))))) (gw 93 (lG zAH [0,1,2] (hself _ _ · m0 m1 hm0 hm1)))) (bi 77 (gi (bi 83 (ce zBS [0,1] [some (.cells (zAF c++zAE q++[.ints pos,.msl 1 1 0 ln])),some (.ints o1),some (.ints o2)] fun _=>gw 93 (lG zAH [0,1,2] (hself _ _ · m0 m1 hm0 hm1))) (gw 93 (lG zAH [0,1,2] (hself _ _ · m0 m1 hm0 hm1))))) (gw 93 (lG zAH [0,1,2] (hself _ _ · m0 m1 hm0 hm1)))))))) (gw 94 (lG zAH [0,1] (hself _ _ · m0 hm0)))
theorem zaL {n:Nat} {c:zAC} {q:zAB} {pos:List Int} {ln:Nat} {lost:List Int} {r:Bool×(List Int)} (h:zaO n c q pos ln lost=some r):EQ 65 [.ref 0 0] [some (.cells (zAF c++zAE q++[.ints pos,.msl 1 1 0 ln])),some (.ints lost)] (.bool r.1) [some (.cells (zAF c++zAE q++[.ints pos,.msl 1 1 0 ln])),some (.ints r.2)] false:=by
 refine ot Tryz.func65 fun B N=>?_
 revert r
 apply gO
 exact ce zPv [0,1] [some (.cells (zAF c++zAE q++[.ints pos,.msl 1 1 0 ln])),some (.ints lost)] fun _=>lN zAH [0,1] ((zXl B N c q pos ln lost n) _ _ · n Nat.le.refl)
end Go.Proofs.YtekkngkphejfcaaGreatDoor
namespace Go.Proofs.YtekkngkphejfcaaGreatDoor
open Go.RowKit
set_option maxRecDepth 100000
set_option maxHeartbeats 40000000
def zOk:ST:=.rd 0 (.rd 1 (.rd 2 (.rd 3 (.rd 4 (.rd 5 (.rd 6 (.rd 7 (.rd 8 (.rd 9 (.rd 10 (.rd 11 (.rd 12 (.rd 13 (.rd 14 (.rd 15 (.rd 16 (.rd 17 (.rd 18 (.rd 19 (.rd 20 (.rd 21 (.rd 22 (.rd 23 (.rd 24 (.rd 25 (.rd 26 (.rd 27 (.rd 28 (.ef 29 (.rd 30 (.fin [] [5,6])) (.no))))))))))))))))))))))))))))))
theorem zWR:TOk (zBa Tryz.f86 2) [29] zOk:=by unfold TOk;kernel_rfl
def zOj:ST:=.rd 0 (.rd 1 (.rd 2 (.rd 3 (.rd 4 (.rd 5 (.rd 6 (.rd 7 (.rd 8 (.rd 9 (.rd 10 (.rd 11 (.rd 12 (.rd 13 (.rd 14 (.rd 15 (.ef 16 (.rd 17 (.fin [] [5,6])) (.no)))))))))))))))))
theorem zWQ:TOk (zBa Tryz.f86 5) [16] zOj:=by unfold TOk;kernel_rfl
def zHT:Sch:=fun i=>match i with
 | 2=>.tre [29] zOk
 | 5=>.tre [16] zOj
 | _=>.no
def zKO (s_:Int×Int) (c:zAC) (q:zAB) (pos:List Int) (ln:Nat) (lost:List Int):St:=⟨(frm 59 [(5,.ref 4 0),(6,.bool (decide (s_.2<(c.runs.getD ((s_.1).toNat) 0))))]),([some (.cells [.ref 1 0]),some (.cells (zAF c++zAE q++[.ints pos,.msl 2 1 0 ln])),some (.ints lost),some (.cells [.i s_.1,.i s_.2]),some (.cells [.i s_.1,.i (s_.2+1)])]:DH)⟩
def zKN (c:zAC) (q:zAB) (pos:List Int) (ln:Nat) (lost:List Int) (s_:Int×Int):St:=⟨(frm 59 [(5,.ref 4 0),(6,.bool false)]),([some (.cells [.ref 1 0]),some (.cells (zAF c++zAE q++[.ints pos,.msl 2 1 0 ln])),some (.ints lost),some (.cells [.i s_.1,.i s_.2]),some (.cells [.i s_.1,.i (s_.2+1)])]:DH)⟩
def zKM (s_:Int×Int) (c:zAC) (q:zAB) (pos:List Int) (ln:Nat) (lost:List Int):St:=⟨(frm 59 [(5,.ref 4 0),(6,.bool (s_.2==(c.runs.getD ((s_.1).toNat) 0)))]),([some (.cells [.ref 1 0]),some (.cells (zAF c++zAE q++[.ints pos,.msl 2 1 0 ln])),some (.ints lost),some (.cells [.i s_.1,.i s_.2]),some (.cells [.i (s_.1+1),.i 0])]:DH)⟩
def zS8 (n:Nat) (s_:Int×Int) (in_:Bool) (c:zAC) (q:zAB) (pos:List Int) (ln:Nat) (lost:List Int):Option ((Int×Int)×Bool×(List Int)):=
 bif in_ then
  if R64 (s_.2+1) then
   bif (decide (s_.1<(c.runs.length:Int))) then
    if 0≤s_.1∧s_.1<(c.runs.length:Int) then
     some ((s_.1,(s_.2+1)),(decide (s_.2<(c.runs.getD ((s_.1).toNat) 0))),lost)
    else none
   else
    some ((s_.1,(s_.2+1)),false,lost)
  else none
 else
  bif (s_.2==0) then
   some ((s_.1,s_.2),true,lost)
  else
   if R64 (s_.1+1)∧(0≤s_.1∧s_.1<(c.runs.length:Int)) then
    some (((s_.1+1),0),(s_.2==(c.runs.getD ((s_.1).toNat) 0)),lost)
   else none
def zXb (n:Nat) (s_:Int×Int) (in_:Bool) (c:zAC) (q:zAB) (pos:List Int) (ln:Nat) (lost:List Int):Option ((Int×Int)×Bool×(List Int)):=zS8 n s_ in_ c q pos ln lost
theorem zDy {n:Nat} {s_:Int×Int} {in_:Bool} {c:zAC} {q:zAB} {pos:List Int} {ln:Nat} {lost:List Int} {r:(Int×Int)×Bool×(List Int)} (h:zXb n s_ in_ c q pos ln lost=some r):EQ 86 [.agg 2 (L1 [.i s_.1,.i s_.2]),.bool in_,.ref 0 0] [some (.cells [.ref 1 0]),some (.cells (zAF c++zAE q++[.ints pos,.msl 2 1 0 ln])),some (.ints lost)] (.tup 2 (L1 [.agg 2 (L1 [.i r.1.1,.i r.1.2]),.bool r.2.1])) [some (.cells [.ref 1 0]),some (.cells (zAF c++zAE q++[.ints pos,.msl 2 1 0 ln])),some (.ints r.2.2)] false:=by
 refine ot Tryz.func86 fun B N=>?_
 revert r
 apply gO
 exact bi 8 (jg zWR (gw 13 (bi 23 (gi (jt (jg (Eq.refl (zKO s_ c q pos ln lost)) (lE (tg:=[([(29,4)],(zKO s_ c q pos ln lost))]) zHT [5,6] [0,1,2,4])))) (jt (jg (Eq.refl (zKN c q pos ln lost s_)) (lE (tg:=[([(29,4)],(zKN c q pos ln lost s_))]) zHT [5,6] [0,1,2,4])))))) (bi 41 (jt (lE zHT [5,6] [0,1,2,4])) (jg zWQ (gc (gw 45 (gi (jt (jg (Eq.refl (zKM s_ c q pos ln lost)) (lE (tg:=[([(16,4)],(zKM s_ c q pos ln lost))]) zHT [5,6] [0,1,2,4]))))))))
theorem zWU:SOk (zBa Tryz.f87 2) [] (List.range 22) []:=by unfold SOk;kernel_rfl
theorem zWT:SOk (zBa Tryz.f87 3) [] (List.range 22) []:=by unfold SOk;kernel_rfl
def zOx:Sch:=fun i=>match i with
 | 2=>.ord [] (List.range 22) []
 | 3=>.ord [] (List.range 22) []
 | _=>.no
def zTG (n:Nat) (i_:Int) (in_:Bool) (c:zAC) (q:zAB) (pos:List Int) (ln:Nat) (lost:List Int):Option (Bool×(List Int)):=
 bif in_ then
  if (0≤i_∧i_<(c.cells.length:Int))∧(0≤(c.cells.getD ((i_).toNat) 0)∧(c.cells.getD ((i_).toNat) 0)<(pos.length:Int)) then
   some (((bits .and .i64 (pos.getD ((c.cells.getD ((i_).toNat) 0).toNat) 0) c.set) != 0),lost)
  else none
 else
  if (0≤i_∧i_<(c.cells.length:Int))∧(0≤(c.cells.getD ((i_).toNat) 0)∧(c.cells.getD ((i_).toNat) 0)<(pos.length:Int)) then
   some (((bits .andNot .i64 (pos.getD ((c.cells.getD ((i_).toNat) 0).toNat) 0) c.set) != 0),lost)
  else none
def zXt (n:Nat) (i_:Int) (in_:Bool) (c:zAC) (q:zAB) (pos:List Int) (ln:Nat) (lost:List Int):Option (Bool×(List Int)):=zTG n i_ in_ c q pos ln lost
theorem zJ5 {n:Nat} {i_:Int} {in_:Bool} {c:zAC} {q:zAB} {pos:List Int} {ln:Nat} {lost:List Int} {r:Bool×(List Int)} (h:zXt n i_ in_ c q pos ln lost=some r):EQ 87 [.i i_,.bool in_,.ref 0 0] [some (.cells [.ref 1 0]),some (.cells (zAF c++zAE q++[.ints pos,.msl 2 1 0 ln])),some (.ints lost)] (.bool r.1) [some (.cells [.ref 1 0]),some (.cells (zAF c++zAE q++[.ints pos,.msl 2 1 0 ln])),some (.ints r.2)] false:=by
 refine ot Tryz.func87 fun B N=>?_
 revert r
 apply gO
 exact bi 6 (jg zWU (gc (gi (gi (lE zOx [5] [0,1,2]))))) (jg zWT (gc (gi (gi (lE zOx [5] [0,1,2])))))
theorem zTs:SOk (zBa Tryz.f61 24) [] (List.range 6) [6]:=by unfold SOk;kernel_rfl
def zMQ:ST:=.rd 0 (.rd 1 (.rd 2 (.rd 3 (.rd 4 (.rd 5 (.rd 6 (.rd 7 (.rd 8 (.rd 9 (.rd 10 (.rd 11 (.rd 12 (.rd 13 (.ef 14 (.fin [] [1,3,5,7,14,16,18]) (.no)))))))))))))))
theorem zMY:TOk (zBa Tryz.f61 49) [] zMQ:=by unfold TOk;kernel_rfl
def zMP:ST:=.rd 0 (.rd 1 (.rd 2 (.rd 3 (.rd 4 (.rd 5 (.rd 6 (.rd 7 (.rd 8 (.ef 9 (.fin [] [1,3,5,7,14,16]) (.no))))))))))
theorem zIa:TOk (zBa Tryz.f61 51) [] zMP:=by unfold TOk;kernel_rfl
def zAN:Sch:=fun i=>match i with
 | 24=>.ord [] (List.range 6) [6]
 | 49=>.tre [] zMQ
 | 51=>.tre [] zMP
 | _=>.no
def zIw (c:zAC) (q:zAB) (pos:List Int) (ln:Nat) (o1:List Int) (o3:List (Option KS)):DH:=[some (.cells (zAF c++zAE q++[.ints pos,.msl 1 1 0 ln])),some (.ints o1),some (.cells [.ref 0 0]),some (.mo (.sets 2 o3 none))]
def zUp (c:zAC) (q:zAB) (pos:List Int) (ln:Nat) (o1:List Int) (o3:List (Option KS)) (x59:Int) (gk:LK):DH:=[some (.cells (zAF c++zAE q++[.ints pos,.msl 1 1 0 ln])),some (.ints o1),some (.cells [.ref 0 0]),some (.mo (.sets 2 o3 (some (0+((x59).toNat),gk))))]
def zUo (c:zAC) (q:zAB) (pos:List Int) (ln:Nat) (o1:List Int) (o3:List (Option KS)) (o3_i:Nat) (gk:LK) (o4:KS):DH:=[some (.cells (zAF c++zAE q++[.ints pos,.msl 1 1 0 ln])),some (.ints o1),some (.cells [.ref 0 0]),some (.mo (.sets 2 o3 (some (o3_i,gk)))),some (.mo (.mit 2 gk.1 gk.2.1 gk.2.2 o4 none))]
def zM0 (c:zAC) (q:zAB) (pos:List Int) (ln:Nat) (o1:List Int) (o3:List (Option KS)) (o3_i:Nat) (gk:LK) (o4:KS) (y1:List Int):DH:=[some (.cells (zAF c++zAE q++[.ints pos,.msl 1 1 0 ln])),some (.ints o1),some (.cells [.ref 0 0]),some (.mo (.sets 2 o3 (some (o3_i,gk)))),some (.mo (.mit 2 gk.1 gk.2.1 gk.2.2 (o4.erase y1) (some y1)))]
def zIv (c:zAC) (q:zAB) (pos:List Int) (ln:Nat) (o1:List Int) (o3:List (Option KS)) (o4:KS):DH:=[some (.cells (zAF c++zAE q++[.ints pos,.msl 1 1 0 ln])),some (.ints o1),some (.cells [.ref 0 0]),some (.mo (.sets 2 o3 none)),some (.mo (.set 2 o4)),some (.mo (.set 2 ([]:KS))),some (.cells [.bool false,.bool false])]
def zUn (c:zAC) (q:zAB) (pos:List Int) (ln:Nat) (o1:List Int) (o3:List (Option KS)) (x16:Int) (gk:LK) (o4:KS):DH:=[some (.cells (zAF c++zAE q++[.ints pos,.msl 1 1 0 ln])),some (.ints o1),some (.cells [.ref 0 0]),some (.mo (.sets 2 o3 (some (0+((x16).toNat),gk)))),some (.mo (.set 2 o4)),some (.mo (.set 2 ([]:KS))),some (.cells [.bool false,.bool false])]
def zIu (c:zAC) (q:zAB) (pos:List Int) (ln:Nat) (o1:List Int) (o3:List (Option KS)) (o3_i:Nat) (gk:LK) (o4_0 o4_1:Int) (o5:KS) (o5_c:List Int):DH:=[some (.cells (zAF c++zAE q++[.ints pos,.msl 1 1 0 ln])),some (.ints o1),some (.cells [.ref 0 0]),some (.mo (.sets 2 o3 (some (o3_i,gk)))),some (.cells [.i o4_0,.i o4_1]),some (.mo (.mit 2 gk.1 gk.2.1 gk.2.2 o5 (some o5_c))),some (.bools ([false,true]:List Bool))]
def zUm (c:zAC) (q:zAB) (pos:List Int) (ln:Nat) (y1:(Int×Int)×Bool×(List Int)) (o3:List (Option KS)) (o3_i:Nat) (gk:LK) (o4_0 o4_1:Int) (o5:KS) (o5_c:List Int):DH:=[some (.cells (zAF c++zAE q++[.ints pos,.msl 1 1 0 ln])),some (.ints y1.2.2),some (.cells [.ref 0 0]),some (.mo (.sets 2 o3 (some (o3_i,gk)))),some (.cells [.i o4_0,.i o4_1]),some (.mo (.mit 2 gk.1 gk.2.1 gk.2.2 o5 (some o5_c))),some (.bools ([false,true]:List Bool)),some (.cells [.i y1.1.1,.i y1.1.2])]
def zUl (c:zAC) (q:zAB) (pos:List Int) (ln:Nat) (o1:List Int) (o3:List (Option KS)) (o3_i:Nat) (gk:LK) (o4 o7:KS):DH:=[some (.cells (zAF c++zAE q++[.ints pos,.msl 1 1 0 ln])),some (.ints o1),some (.cells [.ref 0 0]),some (.mo (.sets 2 o3 (some (o3_i,gk)))),some (.mo (.set 2 o4)),some (.mo (.set 2 ([]:KS))),some (.cells [.bool false,.bool false]),some (.mo (.mit 2 gk.1 gk.2.1 gk.2.2 o7 none))]
def zKJ (c:zAC) (x16:Int) (q:zAB) (pos:List Int) (ln:Nat) (y2:(List Int)) (o3:List (Option KS)) (o4:KS):St:=⟨(frm 208 [(1,.ref 2 0),(3,.fn 86 1 (L1 [.ref 2 0])),(5,.msl 3 1 0 ((((c.cells.length:Int)+1)).toNat)),(7,.fn 87 1 (L1 [.ref 2 0])),(14,.it 5),(16,.i x16),(18,.ref 6 0)]),([some (.cells (zAF c++zAE q++[.ints pos,.msl 1 1 0 ln])),some (.ints y2),some (.cells [.ref 0 0]),some (.mo (.sets 2 o3 none)),some (.mo (.set 2 o4)),some (.mo (.set 2 ([]:KS))),some (.cells [.bool false,.bool false])]:DH)⟩
def zRu (c:zAC) (q:zAB) (pos:List Int) (ln:Nat) (y2:(List Int)) (o3:List (Option KS)) (o4:KS):DH:=[some (.cells (zAF c++zAE q++[.ints pos,.msl 1 1 0 ln])),some (.ints y2),some (.cells [.ref 0 0]),some (.mo (.sets 2 o3 none)),some (.mo (.set 2 o4)),some (.mo (.set 2 ([]:KS))),some (.cells [.bool false,.bool false])]
def zJF (c:zAC) (x16:Int) (q:zAB) (pos:List Int) (ln:Nat) (y3:(List Int)) (o3:List (Option KS)) (o4:KS):St:=⟨(frm 208 [(1,.ref 2 0),(3,.fn 86 1 (L1 [.ref 2 0])),(5,.msl 3 1 0 ((((c.cells.length:Int)+1)).toNat)),(7,.fn 87 1 (L1 [.ref 2 0])),(14,.it 5),(16,.i x16)]),([some (.cells (zAF c++zAE q++[.ints pos,.msl 1 1 0 ln])),some (.ints y3),some (.cells [.ref 0 0]),some (.mo (.sets 2 o3 none)),some (.mo (.set 2 o4)),some (.mo (.set 2 ([]:KS))),some (.cells [.bool false,.bool false])]:DH)⟩
def zRt (c:zAC) (q:zAB) (pos:List Int) (ln:Nat) (o1:List Int) (o3:List (Option KS)) (o3_i:Nat) (gk:LK) (o4 o7:KS) (y1:List Int):DH:=[some (.cells (zAF c++zAE q++[.ints pos,.msl 1 1 0 ln])),some (.ints o1),some (.cells [.ref 0 0]),some (.mo (.sets 2 o3 (some (o3_i,gk)))),some (.mo (.set 2 o4)),some (.mo (.set 2 ([]:KS))),some (.cells [.bool false,.bool false]),some (.mo (.mit 2 gk.1 gk.2.1 gk.2.2 (o7.erase y1) (some y1)))]
def zDf (c:zAC) (q:zAB) (pos:List Int) (ln:Nat) (o1:List Int) (o3:List (Option KS)) (o3_i:Nat) (gk:LK) (o4 o5:KS) (o6_0 o6_1:Bool) (o7_0 o7_1:Int) (o8:KS) (o8_c:List Int):DH:=[some (.cells (zAF c++zAE q++[.ints pos,.msl 1 1 0 ln])),some (.ints o1),some (.cells [.ref 0 0]),some (.mo (.sets 2 o3 (some (o3_i,gk)))),some (.mo (.set 2 o4)),some (.mo (.set 2 o5)),some (.cells [.bool o6_0,.bool o6_1]),some (.cells [.i o7_0,.i o7_1]),some (.mo (.mit 2 gk.1 gk.2.1 gk.2.2 o8 (some o8_c))),some (.bools ([false,true]:List Bool))]
def zHI (c:zAC) (q:zAB) (pos:List Int) (ln:Nat) (y1:(Int×Int)×Bool×(List Int)) (o3:List (Option KS)) (o3_i:Nat) (gk:LK) (o4 o5:KS) (o6_0 o6_1:Bool) (o7_0 o7_1:Int) (o8:KS) (o8_c:List Int):DH:=[some (.cells (zAF c++zAE q++[.ints pos,.msl 1 1 0 ln])),some (.ints y1.2.2),some (.cells [.ref 0 0]),some (.mo (.sets 2 o3 (some (o3_i,gk)))),some (.mo (.set 2 o4)),some (.mo (.set 2 o5)),some (.cells [.bool o6_0,.bool o6_1]),some (.cells [.i o7_0,.i o7_1]),some (.mo (.mit 2 gk.1 gk.2.1 gk.2.2 o8 (some o8_c))),some (.bools ([false,true]:List Bool)),some (.cells [.i y1.1.1,.i y1.1.2])]
def zRs (c:zAC) (q:zAB) (pos:List Int) (ln:Nat) (o1:List Int) (o3:List (Option KS)) (o3_i:Nat) (gk:LK) (o4:KS) (o4_c:List Int):DH:=[some (.cells (zAF c++zAE q++[.ints pos,.msl 1 1 0 ln])),some (.ints o1),some (.cells [.ref 0 0]),some (.mo (.sets 2 o3 (some (o3_i,gk)))),some (.mo (.mit 2 gk.1 gk.2.1 gk.2.2 o4 (some o4_c)))]
def zRr (c:zAC) (q:zAB) (pos:List Int) (ln:Nat) (o1:List Int) (o3:List (Option KS)) (o3_i:Nat) (gk:LK) (o4 o5:KS) (o6_0 o6_1:Bool) (o7:KS) (o7_c:List Int):DH:=[some (.cells (zAF c++zAE q++[.ints pos,.msl 1 1 0 ln])),some (.ints o1),some (.cells [.ref 0 0]),some (.mo (.sets 2 o3 (some (o3_i,gk)))),some (.mo (.set 2 o4)),some (.mo (.set 2 o5)),some (.cells [.bool o6_0,.bool o6_1]),some (.mo (.mit 2 gk.1 gk.2.1 gk.2.2 o7 (some o7_c)))]
def zHH (c:zAC) (q:zAB) (pos:List Int) (ln:Nat) (o1:List Int) (o3:List (Option KS)) (o4 o5:KS) (o6_0 o6_1:Bool):DH:=[some (.cells (zAF c++zAE q++[.ints pos,.msl 1 1 0 ln])),some (.ints o1),some (.cells [.ref 0 0]),some (.mo (.sets 2 o3 none)),some (.mo (.set 2 o4)),some (.mo (.set 2 o5)),some (.cells [.bool o6_0,.bool o6_1])]
def zFV (c:zAC) (x16:Int) (q:zAB) (pos:List Int) (ln:Nat) (y2:(List Int)) (o3:List (Option KS)) (o4 o5:KS) (o6_0 o6_1:Bool):St:=⟨(frm 208 [(1,.ref 2 0),(3,.fn 86 1 (L1 [.ref 2 0])),(5,.msl 3 1 0 ((((c.cells.length:Int)+1)).toNat)),(7,.fn 87 1 (L1 [.ref 2 0])),(14,.it 5),(16,.i x16),(18,.ref 6 0)]),([some (.cells (zAF c++zAE q++[.ints pos,.msl 1 1 0 ln])),some (.ints y2),some (.cells [.ref 0 0]),some (.mo (.sets 2 o3 none)),some (.mo (.set 2 o4)),some (.mo (.set 2 o5)),some (.cells [.bool o6_0,.bool o6_1])]:DH)⟩
def zRq (c:zAC) (q:zAB) (pos:List Int) (ln:Nat) (y2:(List Int)) (o3:List (Option KS)) (o4 o5:KS) (o6_0 o6_1:Bool):DH:=[some (.cells (zAF c++zAE q++[.ints pos,.msl 1 1 0 ln])),some (.ints y2),some (.cells [.ref 0 0]),some (.mo (.sets 2 o3 none)),some (.mo (.set 2 o4)),some (.mo (.set 2 o5)),some (.cells [.bool o6_0,.bool o6_1])]
def zJE (c:zAC) (x16:Int) (q:zAB) (pos:List Int) (ln:Nat) (y3:(List Int)) (o3:List (Option KS)) (o4 o5:KS) (o6_0 o6_1:Bool):St:=⟨(frm 208 [(1,.ref 2 0),(3,.fn 86 1 (L1 [.ref 2 0])),(5,.msl 3 1 0 ((((c.cells.length:Int)+1)).toNat)),(7,.fn 87 1 (L1 [.ref 2 0])),(14,.it 5),(16,.i x16)]),([some (.cells (zAF c++zAE q++[.ints pos,.msl 1 1 0 ln])),some (.ints y3),some (.cells [.ref 0 0]),some (.mo (.sets 2 o3 none)),some (.mo (.set 2 o4)),some (.mo (.set 2 o5)),some (.cells [.bool o6_0,.bool o6_1])]:DH)⟩
def zJD (c:zAC) (x16:Int) (q:zAB) (pos:List Int) (ln:Nat) (y2:(List Int)) (o3:List (Option KS)) (o4 o5:KS) (o6_0 o6_1:Bool):St:=⟨(frm 208 [(1,.ref 2 0),(3,.fn 86 1 (L1 [.ref 2 0])),(5,.msl 3 1 0 ((((c.cells.length:Int)+1)).toNat)),(7,.fn 87 1 (L1 [.ref 2 0])),(14,.it 5),(16,.i x16)]),([some (.cells (zAF c++zAE q++[.ints pos,.msl 1 1 0 ln])),some (.ints y2),some (.cells [.ref 0 0]),some (.mo (.sets 2 o3 none)),some (.mo (.set 2 o4)),some (.mo (.set 2 o5)),some (.cells [.bool o6_0,.bool o6_1])]:DH)⟩
def zRp (c:zAC) (q:zAB) (pos:List Int) (ln:Nat) (o1:List Int) (o3:List (Option KS)) (o3_i:Nat) (gk:LK) (o4 o5:KS) (o6_0 o6_1:Bool) (o7:KS) (y1:List Int):DH:=[some (.cells (zAF c++zAE q++[.ints pos,.msl 1 1 0 ln])),some (.ints o1),some (.cells [.ref 0 0]),some (.mo (.sets 2 o3 (some (o3_i,gk)))),some (.mo (.set 2 o4)),some (.mo (.set 2 o5)),some (.cells [.bool o6_0,.bool o6_1]),some (.mo (.mit 2 gk.1 gk.2.1 gk.2.2 (o7.erase y1) (some y1)))]
inductive zDE where
 | l1 (x45:Int) (o3:List (Option KS))
 | l2 (x59:Int) (o1:List Int) (o3:List (Option KS))
 | l3 (x8 x59:Int) (o1:List Int) (o3:List (Option KS)) (o3_i:Nat) (o4:KS)
 | l4 (x16:Int) (o1:List Int) (o3:List (Option KS)) (o4:KS)
 | l5 (x8 x59 x73:Int) (o1:List Int) (o3:List (Option KS)) (o3_i:Nat) (o4_0 o4_1:Int) (o5:KS) (o5_c:List Int)
 | l6 (x16:Int) (o1:List Int) (o3:List (Option KS)) (o3_i:Nat) (o4 o7:KS)
 | l7 (x16 x147:Int) (o1:List Int) (o3:List (Option KS)) (o3_i:Nat) (o4 o5:KS) (o6_0 o6_1:Bool) (o7_0 o7_1:Int) (o8:KS) (o8_c:List Int)
 | l8 (x8 x59:Int) (o1:List Int) (o3:List (Option KS)) (o3_i:Nat) (o4:KS) (o4_c:List Int)
 | l9 (x16:Int) (o1:List Int) (o3:List (Option KS)) (o3_i:Nat) (o4 o5:KS) (o6_0 o6_1:Bool) (o7:KS) (o7_c:List Int)
def zHa (n:Nat) (self:zDE→Option (Bool×(List Int))) (c:zAC) (q:zAB) (pos:List Int) (ln:Nat) (lost:List Int) (x45:Int) (o3:List (Option KS)):Option (Bool×(List Int)):=
 bif (decide (x45<(((((c.cells.length:Int)+1)).toNat:Nat):Int))) then
  if (0≤x45∧x45<(((((c.cells.length:Int)+1)).toNat:Nat):Int))∧0+((x45).toNat)<o3.length∧R64 (x45+1) then
   self (.l1 (x45+1) (o3.set (0+((x45).toNat)) (some ([]:KS))))
  else none
 else
  if ((0:Int)≤0∧0<(((((c.cells.length:Int)+1)).toNat:Nat):Int))∧0+0<o3.length∧(o3.getD (0+0) none).isSome=true then
   self (.l2 0 lost (o3.set (0+0) (some (zFp [0,0] ((o3.getD (0+0) none).getD [])))))
  else none
def zEp (n:Nat) (self:zDE→Option (Bool×(List Int))) (c:zAC) (q:zAB) (pos:List Int) (ln:Nat) (lost:List Int) (x59:Int) (o1:List Int) (o3:List (Option KS)):Option (Bool×(List Int)):=
 bif (decide (x59<(c.cells.length:Int))) then
  if (o3.getD (0+((x59).toNat)) none).isSome=true then
   if (0≤x59∧x59<(((((c.cells.length:Int)+1)).toNat:Nat):Int))∧0+((x59).toNat)<o3.length∧(o3.getD (0+((x59).toNat)) none).isSome=true then
    self (.l3 x59 x59 o1 o3 (0+((x59).toNat)) ((o3.getD (0+((x59).toNat)) none).getD []))
   else none
  else none
 else
  bif (decide ((c.runs.length:Int)>0)) then
   if R64 ((c.runs.length:Int)-1)∧((0:Int)≤((c.runs.length:Int)-1)∧((c.runs.length:Int)-1)<(c.runs.length:Int))∧R64 ((c.cells.length:Int)-1) then
    self (.l4 ((c.cells.length:Int)-1) o1 o3 (zFp [((c.runs.length:Int)-1),c.runs.getD ((((c.runs.length:Int)-1)).toNat) 0] (zFp [(c.runs.length:Int),0] ([]:KS))))
   else none
  else
   if R64 ((c.cells.length:Int)-1) then
    self (.l4 ((c.cells.length:Int)-1) o1 o3 (zFp [(c.runs.length:Int),0] ([]:KS)))
   else none
def zZT (n:Nat) (self:zDE→Option (Bool×(List Int))) (c:zAC) (q:zAB) (pos:List Int) (ln:Nat) (lost:List Int) (x8 x59:Int) (o1:List Int) (o3:List (Option KS)) (o3_i:Nat) (o4:KS):Option (Bool×(List Int)):=
 if (o3.getD o3_i none).isSome=true then
  zFP o4 (
   if R64 (x59+1) then
    self (.l2 (x59+1) o1 o3)
   else none) fun y1=>
   if (o3.getD o3_i none).isSome=true then
    self (.l5 x8 x59 0 o1 o3 o3_i (y1.getD 0 0) (y1.getD 1 0) (o4.erase y1) y1)
   else none
 else none
def zHZ (n:Nat) (self:zDE→Option (Bool×(List Int))) (c:zAC) (q:zAB) (pos:List Int) (ln:Nat) (lost:List Int) (x16:Int) (o1:List Int) (o3:List (Option KS)) (o4:KS):Option (Bool×(List Int)):=
 bif (decide (x16≥0)) then
  if (o3.getD (0+((x16).toNat)) none).isSome=true then
   if (0≤x16∧x16<(((((c.cells.length:Int)+1)).toNat:Nat):Int))∧0+((x16).toNat)<o3.length∧(o3.getD (0+((x16).toNat)) none).isSome=true then
    self (.l6 x16 o1 o3 (0+((x16).toNat)) o4 ((o3.getD (0+((x16).toNat)) none).getD []))
   else none
  else none
 else
  some (true,o1)
def zEo (n:Nat) (self:zDE→Option (Bool×(List Int))) (c:zAC) (q:zAB) (pos:List Int) (ln:Nat) (lost:List Int) (x8 x59 x73:Int) (o1:List Int) (o3:List (Option KS)) (o3_i:Nat) (o4_0 o4_1:Int) (o5:KS) (o5_c:List Int):Option (Bool×(List Int)):=
 bif (decide (x73<2)) then
  if (0≤x73∧x73<((2:Nat):Int))∧0+((x73).toNat)<([false,true]:List Bool).length then
   (zXb n (o4_0,o4_1) (([false,true]:List Bool).getD (0+((x73).toNat)) false) c q pos ln o1).bind fun y1=>
    bif y1.2.1 then
     (zXt n x8 (([false,true]:List Bool).getD (0+((x73).toNat)) false) c q pos ln y1.2.2).bind fun y2=>
      bif y2.1 then
       if R64 (x8+1)∧(0≤(x8+1)∧(x8+1)<(((((c.cells.length:Int)+1)).toNat:Nat):Int))∧0+(((x8+1)).toNat)<o3.length∧o3_i≠0+(((x8+1)).toNat)∧(o3.getD (0+(((x8+1)).toNat)) none).isSome=true∧R64 (x73+1) then
        self (.l5 x8 x59 (x73+1) y2.2 (o3.set (0+(((x8+1)).toNat)) (some (zFp [y1.1.1,y1.1.2] ((o3.getD (0+(((x8+1)).toNat)) none).getD [])))) o3_i o4_0 o4_1 o5 o5_c)
       else none
      else
       if R64 (x73+1) then
        self (.l5 x8 x59 (x73+1) y2.2 o3 o3_i o4_0 o4_1 o5 o5_c)
       else none
    else
     if R64 (x73+1) then
      self (.l5 x8 x59 (x73+1) y1.2.2 o3 o3_i o4_0 o4_1 o5 o5_c)
     else none
  else none
 else
  self (.l8 x8 x59 o1 o3 o3_i o5 o5_c)
def zZS (n:Nat) (self:zDE→Option (Bool×(List Int))) (c:zAC) (q:zAB) (pos:List Int) (ln:Nat) (lost:List Int) (x16:Int) (o1:List Int) (o3:List (Option KS)) (o3_i:Nat) (o4 o7:KS):Option (Bool×(List Int)):=
 if (o3.getD o3_i none).isSome=true then
  zFP o7 (
   if 0≤x16∧x16<(c.cells.length:Int) then
    (zC8 n (c.cells.getD ((x16).toNat) 0) c.set c q pos ln o1).bind fun y2=>
     (zHD n (c.cells.getD ((x16).toNat) 0) c q pos ln y2).bind fun y3=>
      if R64 (x16-1) then
       self (.l4 (x16-1) y3 o3 ([]:KS))
      else none
   else none) fun y1=>
   if (o3.getD o3_i none).isSome=true then
    self (.l7 x16 0 o1 o3 o3_i o4 ([]:KS) false false (y1.getD 0 0) (y1.getD 1 0) (o7.erase y1) y1)
   else none
 else none
def zEn (n:Nat) (self:zDE→Option (Bool×(List Int))) (c:zAC) (q:zAB) (pos:List Int) (ln:Nat) (lost:List Int) (x16 x147:Int) (o1:List Int) (o3:List (Option KS)) (o3_i:Nat) (o4 o5:KS) (o6_0 o6_1:Bool) (o7_0 o7_1:Int) (o8:KS) (o8_c:List Int):Option (Bool×(List Int)):=
 bif (decide (x147<2)) then
  if (0≤x147∧x147<((2:Nat):Int))∧0+((x147).toNat)<([false,true]:List Bool).length then
   (zXb n (o7_0,o7_1) (([false,true]:List Bool).getD (0+((x147).toNat)) false) c q pos ln o1).bind fun y1=>
    bif y1.2.1 then
     (zXt n x16 (([false,true]:List Bool).getD (0+((x147).toNat)) false) c q pos ln y1.2.2).bind fun y2=>
      bif y2.1 then
       bif (o4.contains [y1.1.1,y1.1.2]) then
        bif (x147==0) then
         if R64 (x147+1) then
          self (.l7 x16 (x147+1) y2.2 o3 o3_i o4 (zFp [o7_0,o7_1] o5) true o6_1 o7_0 o7_1 o8 o8_c)
         else none
        else
         bif (x147==1) then
          if R64 (x147+1) then
           self (.l7 x16 (x147+1) y2.2 o3 o3_i o4 (zFp [o7_0,o7_1] o5) o6_0 true o7_0 o7_1 o8 o8_c)
          else none
         else
          none
       else
        if R64 (x147+1) then
         self (.l7 x16 (x147+1) y2.2 o3 o3_i o4 o5 o6_0 o6_1 o7_0 o7_1 o8 o8_c)
        else none
      else
       if R64 (x147+1) then
        self (.l7 x16 (x147+1) y2.2 o3 o3_i o4 o5 o6_0 o6_1 o7_0 o7_1 o8 o8_c)
       else none
    else
     if R64 (x147+1) then
      self (.l7 x16 (x147+1) y1.2.2 o3 o3_i o4 o5 o6_0 o6_1 o7_0 o7_1 o8 o8_c)
     else none
  else none
 else
  self (.l9 x16 o1 o3 o3_i o4 o5 o6_0 o6_1 o8 o8_c)
def zHY (n:Nat) (self:zDE→Option (Bool×(List Int))) (c:zAC) (q:zAB) (pos:List Int) (ln:Nat) (lost:List Int) (x8 x59:Int) (o1:List Int) (o3:List (Option KS)) (o3_i:Nat) (o4:KS) (o4_c:List Int):Option (Bool×(List Int)):=
 if (o3.getD o3_i none).isSome=true then
  zFP o4 (
   if R64 (x59+1) then
    self (.l2 (x59+1) o1 o3)
   else none) fun y1=>
   if (o3.getD o3_i none).isSome=true then
    self (.l5 x8 x59 0 o1 o3 o3_i (y1.getD 0 0) (y1.getD 1 0) (o4.erase y1) y1)
   else none
 else none
def zHX (n:Nat) (self:zDE→Option (Bool×(List Int))) (c:zAC) (q:zAB) (pos:List Int) (ln:Nat) (lost:List Int) (x16:Int) (o1:List Int) (o3:List (Option KS)) (o3_i:Nat) (o4 o5:KS) (o6_0 o6_1:Bool) (o7:KS) (o7_c:List Int):Option (Bool×(List Int)):=
 if (o3.getD o3_i none).isSome=true then
  zFP o7 (
   bif (!o6_1) then
    if 0≤x16∧x16<(c.cells.length:Int) then
     (zC8 n (c.cells.getD ((x16).toNat) 0) c.set c q pos ln o1).bind fun y2=>
      bif (!o6_0) then
       (zHD n (c.cells.getD ((x16).toNat) 0) c q pos ln y2).bind fun y3=>
        if R64 (x16-1) then
         self (.l4 (x16-1) y3 o3 o5)
        else none
      else
       if R64 (x16-1) then
        self (.l4 (x16-1) y2 o3 o5)
       else none
    else none
   else
    bif (!o6_0) then
     if 0≤x16∧x16<(c.cells.length:Int) then
      (zHD n (c.cells.getD ((x16).toNat) 0) c q pos ln o1).bind fun y2=>
       if R64 (x16-1) then
        self (.l4 (x16-1) y2 o3 o5)
       else none
     else none
    else
     if R64 (x16-1) then
      self (.l4 (x16-1) o1 o3 o5)
     else none) fun y1=>
   if (o3.getD o3_i none).isSome=true then
    self (.l7 x16 0 o1 o3 o3_i o4 o5 o6_0 o6_1 (y1.getD 0 0) (y1.getD 1 0) (o7.erase y1) y1)
   else none
 else none
def zNW (n:Nat) (self:zDE→Option (Bool×(List Int))) (c:zAC) (q:zAB) (pos:List Int) (ln:Nat) (lost:List Int):Option (Bool×(List Int)):=
 bif ((c.cells.length:Int)==0) then
  some (((c.runs.length:Int)==0),lost)
 else
  if R64 ((c.cells.length:Int)+1)∧((((c.cells.length:Int)+1):Int)=((c.cells.length:Int)+1)∧(0:Int)≤((c.cells.length:Int)+1)∧(((c.cells.length:Int)+1):Int)≤1000000000000) then
   self (.l1 0 (List.replicate ((((c.cells.length:Int)+1)).toNat) (none:Option KS)))
  else none
def zAL (c:zAC) (q:zAB) (pos:List Int) (ln:Nat) (lost:List Int):Nat→zDE→Option (Bool×(List Int))
 | 0,_=>none
 | n+1,.l1 x45 o3=>zHa n (zAL c q pos ln lost n) c q pos ln lost x45 o3
 | n+1,.l2 x59 o1 o3=>zEp n (zAL c q pos ln lost n) c q pos ln lost x59 o1 o3
 | n+1,.l3 x8 x59 o1 o3 o3_i o4=>zZT n (zAL c q pos ln lost n) c q pos ln lost x8 x59 o1 o3 o3_i o4
 | n+1,.l4 x16 o1 o3 o4=>zHZ n (zAL c q pos ln lost n) c q pos ln lost x16 o1 o3 o4
 | n+1,.l5 x8 x59 x73 o1 o3 o3_i o4_0 o4_1 o5 o5_c=>zEo n (zAL c q pos ln lost n) c q pos ln lost x8 x59 x73 o1 o3 o3_i o4_0 o4_1 o5 o5_c
 | n+1,.l6 x16 o1 o3 o3_i o4 o7=>zZS n (zAL c q pos ln lost n) c q pos ln lost x16 o1 o3 o3_i o4 o7
 | n+1,.l7 x16 x147 o1 o3 o3_i o4 o5 o6_0 o6_1 o7_0 o7_1 o8 o8_c=>zEn n (zAL c q pos ln lost n) c q pos ln lost x16 x147 o1 o3 o3_i o4 o5 o6_0 o6_1 o7_0 o7_1 o8 o8_c
 | n+1,.l8 x8 x59 o1 o3 o3_i o4 o4_c=>zHY n (zAL c q pos ln lost n) c q pos ln lost x8 x59 o1 o3 o3_i o4 o4_c
 | n+1,.l9 x16 o1 o3 o3_i o4 o5 o6_0 o6_1 o7 o7_c=>zHX n (zAL c q pos ln lost n) c q pos ln lost x16 o1 o3 o3_i o4 o5 o6_0 o6_1 o7 o7_c
def zUD (n:Nat) (c:zAC) (q:zAB) (pos:List Int) (ln:Nat) (lost:List Int):Option (Bool×(List Int)):=zNW n (zAL c q pos ln lost n) c q pos ln lost
def zZU (n B:Nat) (N:Yd 2) (c:zAC) (q:zAB) (pos:List Int) (ln:Nat) (lost:List Int) (r:Bool×(List Int)):zDE→Prop
 | .l1 x45 o3=>∀ m0:Nat,n≤m0→TW B N (FQ Tryz.f61 2 (.bool r.1) [some (.cells (zAF c++zAE q++[.ints pos,.msl 1 1 0 ln])),some (.ints r.2)]) (toN m0 (zA9 (zAK Tryz.f61) 0 [])) ⟨frm 208 [(1,.ref 2 0),(3,.fn 86 1 (L1 [.ref 2 0])),(4,.i (c.cells.length:Int)),(5,.msl 3 1 0 ((((c.cells.length:Int)+1)).toNat)),(44,.i (((((c.cells.length:Int)+1)).toNat:Nat):Int)),(45,.i x45)],[some (.cells (zAF c++zAE q++[.ints pos,.msl 1 1 0 ln])),some (.ints lost),some (.cells [.ref 0 0]),some (.mo (.sets 2 o3 none))]⟩
 | .l2 x59 o1 o3=>∀ m0:Nat,n≤m0→TW B N (FQ Tryz.f61 2 (.bool r.1) [some (.cells (zAF c++zAE q++[.ints pos,.msl 1 1 0 ln])),some (.ints r.2)]) (toN m0 (zA9 (zAK Tryz.f61) 2 [])) ⟨frm 208 [(1,.ref 2 0),(3,.fn 86 1 (L1 [.ref 2 0])),(4,.i (c.cells.length:Int)),(5,.msl 3 1 0 ((((c.cells.length:Int)+1)).toNat)),(7,.fn 87 1 (L1 [.ref 2 0])),(58,.i (c.cells.length:Int)),(59,.i x59)],[some (.cells (zAF c++zAE q++[.ints pos,.msl 1 1 0 ln])),some (.ints o1),some (.cells [.ref 0 0]),some (.mo (.sets 2 o3 none))]⟩
 | .l3 x8 x59 o1 o3 o3_i o4=>∀ m0 m1:Nat,n≤m0→n≤m1→∀ gk:LK,TW B N (FQ Tryz.f61 2 (.bool r.1) [some (.cells (zAF c++zAE q++[.ints pos,.msl 1 1 0 ln])),some (.ints r.2)]) (toN m1 (zA9 (zAK Tryz.f61) 4 [m0])) ⟨frm 208 [(1,.ref 2 0),(3,.fn 86 1 (L1 [.ref 2 0])),(4,.i (c.cells.length:Int)),(5,.msl 3 1 0 ((((c.cells.length:Int)+1)).toNat)),(7,.fn 87 1 (L1 [.ref 2 0])),(8,.i x8),(58,.i (c.cells.length:Int)),(59,.i x59),(66,.it 4)],[some (.cells (zAF c++zAE q++[.ints pos,.msl 1 1 0 ln])),some (.ints o1),some (.cells [.ref 0 0]),some (.mo (.sets 2 o3 (some (o3_i,gk)))),some (.mo (.mit 2 gk.1 gk.2.1 gk.2.2 o4 none))]⟩
 | .l4 x16 o1 o3 o4=>∀ m0:Nat,n≤m0→TW B N (FQ Tryz.f61 2 (.bool r.1) [some (.cells (zAF c++zAE q++[.ints pos,.msl 1 1 0 ln])),some (.ints r.2)]) (toN m0 (zA9 (zAK Tryz.f61) 8 [])) ⟨frm 208 [(1,.ref 2 0),(3,.fn 86 1 (L1 [.ref 2 0])),(5,.msl 3 1 0 ((((c.cells.length:Int)+1)).toNat)),(7,.fn 87 1 (L1 [.ref 2 0])),(14,.it 4),(16,.i x16)],[some (.cells (zAF c++zAE q++[.ints pos,.msl 1 1 0 ln])),some (.ints o1),some (.cells [.ref 0 0]),some (.mo (.sets 2 o3 none)),some (.mo (.set 2 o4))]⟩
 | .l5 x8 x59 x73 o1 o3 o3_i o4_0 o4_1 o5 o5_c=>∀ m0 m1 m2:Nat,n≤m0→n≤m1→n≤m2→∀ gk:LK,TW B N (FQ Tryz.f61 2 (.bool r.1) [some (.cells (zAF c++zAE q++[.ints pos,.msl 1 1 0 ln])),some (.ints r.2)]) (toN m2 (zA9 (zAK Tryz.f61) 6 [m0,m1])) ⟨frm 208 [(1,.ref 2 0),(3,.fn 86 1 (L1 [.ref 2 0])),(4,.i (c.cells.length:Int)),(5,.msl 3 1 0 ((((c.cells.length:Int)+1)).toNat)),(7,.fn 87 1 (L1 [.ref 2 0])),(8,.i x8),(9,.ref 4 0),(58,.i (c.cells.length:Int)),(59,.i x59),(66,.it 5),(71,.msl 6 1 0 2),(72,.i 2),(73,.i x73)],[some (.cells (zAF c++zAE q++[.ints pos,.msl 1 1 0 ln])),some (.ints o1),some (.cells [.ref 0 0]),some (.mo (.sets 2 o3 (some (o3_i,gk)))),some (.cells [.i o4_0,.i o4_1]),some (.mo (.mit 2 gk.1 gk.2.1 gk.2.2 o5 (some o5_c))),some (.bools ([false,true]:List Bool))]⟩
 | .l6 x16 o1 o3 o3_i o4 o7=>∀ m0 m1:Nat,n≤m0→n≤m1→∀ gk:LK,TW B N (FQ Tryz.f61 2 (.bool r.1) [some (.cells (zAF c++zAE q++[.ints pos,.msl 1 1 0 ln])),some (.ints r.2)]) (toN m1 (zA9 (zAK Tryz.f61) 10 [m0])) ⟨frm 208 [(1,.ref 2 0),(3,.fn 86 1 (L1 [.ref 2 0])),(5,.msl 3 1 0 ((((c.cells.length:Int)+1)).toNat)),(7,.fn 87 1 (L1 [.ref 2 0])),(14,.it 4),(16,.i x16),(17,.it 5),(18,.ref 6 0),(140,.it 7)],[some (.cells (zAF c++zAE q++[.ints pos,.msl 1 1 0 ln])),some (.ints o1),some (.cells [.ref 0 0]),some (.mo (.sets 2 o3 (some (o3_i,gk)))),some (.mo (.set 2 o4)),some (.mo (.set 2 ([]:KS))),some (.cells [.bool false,.bool false]),some (.mo (.mit 2 gk.1 gk.2.1 gk.2.2 o7 none))]⟩
 | .l7 x16 x147 o1 o3 o3_i o4 o5 o6_0 o6_1 o7_0 o7_1 o8 o8_c=>∀ m0 m1 m2:Nat,n≤m0→n≤m1→n≤m2→∀ gk:LK,TW B N (FQ Tryz.f61 2 (.bool r.1) [some (.cells (zAF c++zAE q++[.ints pos,.msl 1 1 0 ln])),some (.ints r.2)]) (toN m2 (zA9 (zAK Tryz.f61) 12 [m0,m1])) ⟨frm 208 [(1,.ref 2 0),(3,.fn 86 1 (L1 [.ref 2 0])),(5,.msl 3 1 0 ((((c.cells.length:Int)+1)).toNat)),(7,.fn 87 1 (L1 [.ref 2 0])),(14,.it 4),(16,.i x16),(17,.it 5),(18,.ref 6 0),(19,.ref 7 0),(140,.it 8),(145,.msl 9 1 0 2),(146,.i 2),(147,.i x147)],[some (.cells (zAF c++zAE q++[.ints pos,.msl 1 1 0 ln])),some (.ints o1),some (.cells [.ref 0 0]),some (.mo (.sets 2 o3 (some (o3_i,gk)))),some (.mo (.set 2 o4)),some (.mo (.set 2 o5)),some (.cells [.bool o6_0,.bool o6_1]),some (.cells [.i o7_0,.i o7_1]),some (.mo (.mit 2 gk.1 gk.2.1 gk.2.2 o8 (some o8_c))),some (.bools ([false,true]:List Bool))]⟩
 | .l8 x8 x59 o1 o3 o3_i o4 o4_c=>∀ m0 m1:Nat,n≤m0→n≤m1→∀ gk:LK,TW B N (FQ Tryz.f61 2 (.bool r.1) [some (.cells (zAF c++zAE q++[.ints pos,.msl 1 1 0 ln])),some (.ints r.2)]) (toN m1 (zA9 (zAK Tryz.f61) 4 [m0])) ⟨frm 208 [(1,.ref 2 0),(3,.fn 86 1 (L1 [.ref 2 0])),(4,.i (c.cells.length:Int)),(5,.msl 3 1 0 ((((c.cells.length:Int)+1)).toNat)),(7,.fn 87 1 (L1 [.ref 2 0])),(8,.i x8),(58,.i (c.cells.length:Int)),(59,.i x59),(66,.it 4)],[some (.cells (zAF c++zAE q++[.ints pos,.msl 1 1 0 ln])),some (.ints o1),some (.cells [.ref 0 0]),some (.mo (.sets 2 o3 (some (o3_i,gk)))),some (.mo (.mit 2 gk.1 gk.2.1 gk.2.2 o4 (some o4_c)))]⟩
 | .l9 x16 o1 o3 o3_i o4 o5 o6_0 o6_1 o7 o7_c=>∀ m0 m1:Nat,n≤m0→n≤m1→∀ gk:LK,TW B N (FQ Tryz.f61 2 (.bool r.1) [some (.cells (zAF c++zAE q++[.ints pos,.msl 1 1 0 ln])),some (.ints r.2)]) (toN m1 (zA9 (zAK Tryz.f61) 10 [m0])) ⟨frm 208 [(1,.ref 2 0),(3,.fn 86 1 (L1 [.ref 2 0])),(5,.msl 3 1 0 ((((c.cells.length:Int)+1)).toNat)),(7,.fn 87 1 (L1 [.ref 2 0])),(14,.it 4),(16,.i x16),(17,.it 5),(18,.ref 6 0),(140,.it 7)],[some (.cells (zAF c++zAE q++[.ints pos,.msl 1 1 0 ln])),some (.ints o1),some (.cells [.ref 0 0]),some (.mo (.sets 2 o3 (some (o3_i,gk)))),some (.mo (.set 2 o4)),some (.mo (.set 2 o5)),some (.cells [.bool o6_0,.bool o6_1]),some (.mo (.mit 2 gk.1 gk.2.1 gk.2.2 o7 (some o7_c)))]⟩
theorem zWa (B:Nat) (N:Yd 2) (c:zAC) (q:zAB) (pos:List Int) (ln:Nat) (lost:List Int):Al (zAL c q pos ln lost) (zZU · B N c q pos ln lost):=ia (fun _=>rfl) fun n hself pt r h=>by
 cases pt
 case l1 x45 o3=>
  intro m0 hm0
  refine rd hm0 fun m0 hm0=>?_
  revert r
  apply gO
  exact bi 46 (gc (gi (gc (gi (gw 52 (lG zAN [0,1,2,5] (hself _ _ · m0 hm0))))))) (gc (gi (gc (gi (gi (jg (zUe (i:=0+0)) (lN zAN [0,1,2,3] (hself _ _ · n Nat.le.refl))))))))
 case l2 x59 o1 o3=>
  intro m0 hm0
  refine rd hm0 fun m0 hm0=>?_
  revert r
  apply gO
  exact bi 60 (gn fun g0=>fun p r h=>by
   refine gs (zAA 16 zAN) [0,1,2,3] p (zEd (zAK Tryz.f61) 16 [m0]) (frm 208 [(1,.ref 2 0),(3,.fn 86 1 (L1 [.ref 2 0])),(4,.i (c.cells.length:Int)),(5,.msl 3 1 0 ((((c.cells.length:Int)+1)).toNat)),(7,.fn 87 1 (L1 [.ref 2 0])),(8,.i x59),(58,.i (c.cells.length:Int)),(59,.i x59)]) (zIw c q pos ln o1 o3) ?_
   refine TrK.lock 3 (0+((x59).toNat)) 2 (by kernel_rfl) g0 (by kernel_rfl) (fun gk=>(zUp c q pos ln o1 o3 x59 gk)) (by kernel_rfl) fun gk=>?_
   revert r
   apply gO
   exact gc (gi (gc (gi (gi (jg (Eq.refl (0+((x59).toNat))) (lN zAN [0,1,2,3,4] (hself _ _ · m0 n hm0 Nat.le.refl gk)))))))) (bi 115 (gc (gn fun g0=>jw 118 g0 (jw 125 g0 (gc (gi (gw 130 (lN zAN [0,1,2,3,4] (hself _ _ · n Nat.le.refl)))))))) (gw 130 (lN zAN [0,1,2,3,4] (hself _ _ · n Nat.le.refl))))
 case l3 x8 x59 o1 o3 o3_i o4=>
  intro m0 m1 hm0 hm1 gk
  have hm0:=Nat.le_of_succ_le hm0
  refine rd hm1 fun m1 hm1=>?_
  have p:=H0
  refine gs (zAA 17 zAN) [0,1,2,3,4] p (zEd (zAK Tryz.f61) 17 [m0,m1]) (frm 208 [(1,.ref 2 0),(3,.fn 86 1 (L1 [.ref 2 0])),(4,.i (c.cells.length:Int)),(5,.msl 3 1 0 ((((c.cells.length:Int)+1)).toNat)),(7,.fn 87 1 (L1 [.ref 2 0])),(8,.i x8),(58,.i (c.cells.length:Int)),(59,.i x59),(66,.it 4)]) (zUo c q pos ln o1 o3 o3_i gk o4) ?_
  revert r
  apply gO
  exact gn fun g0=>fun p r h=>by
   replace h:=zE9 h
   refine TrG.nx (ops:=zBa Tryz.f61 17) HC.x (by kernel_rfl) (by kernel_rfl) 4 3 o3_i 2 o3 gk o4 none [1,3,4,5,7,8,58,59,66,68] [0,1,2,3] (frm 208 [(1,.ref 2 0),(3,.fn 86 1 (L1 [.ref 2 0])),(4,.i (c.cells.length:Int)),(5,.msl 3 1 0 ((((c.cells.length:Int)+1)).toNat)),(7,.fn 87 1 (L1 [.ref 2 0])),(8,.i x8),(58,.i (c.cells.length:Int)),(59,.i x59),(68,.bool false)]) (zIw c q pos ln o1 o3) [0,1,2,3,4] (fun y1=>frm 208 [(1,.ref 2 0),(3,.fn 86 1 (L1 [.ref 2 0])),(4,.i (c.cells.length:Int)),(5,.msl 3 1 0 ((((c.cells.length:Int)+1)).toNat)),(7,.fn 87 1 (L1 [.ref 2 0])),(8,.i x8),(58,.i (c.cells.length:Int)),(59,.i x59),(66,.it 4),(68,.bool true)]) (fun y1=>(zM0 c q pos ln o1 o3 o3_i gk o4 y1)) (by kernel_rfl) (by kernel_rfl) (by kernel_rfl) (by decide) g0 (by kernel_rfl) (by kernel_rfl) (fun _=>by kernel_rfl) (fun he=>?_) (fun y1 he=>?_)
   ·replace h:=h.1 he
    revert r
    apply gO
    exact gw 98 (lG zAN [0,1,2,3] (hself _ _ · m0 hm0))
   ·replace h:=h.2 y1 he
    revert r
    apply gO
    exact gi (jg (Eq.refl gk.1) (jg (Eq.refl gk.2.1) (jg (Eq.refl gk.2.2) (jt (lN zAN [0,1,2,3,5,4,6] (hself _ _ · m0 m1 n hm0 hm1 Nat.le.refl gk))))))
 case l4 x16 o1 o3 o4=>
  intro m0 hm0
  refine rd hm0 fun m0 hm0=>?_
  revert r
  apply gO
  exact bi 132 (gn fun g0=>fun p r h=>by
   refine gs (zAA 36 zAN) [0,1,2,3,4,5,6] p (zEd (zAK Tryz.f61) 36 [m0]) (frm 208 [(1,.ref 2 0),(3,.fn 86 1 (L1 [.ref 2 0])),(5,.msl 3 1 0 ((((c.cells.length:Int)+1)).toNat)),(7,.fn 87 1 (L1 [.ref 2 0])),(14,.it 4),(16,.i x16),(17,.it 5),(18,.ref 6 0)]) (zIv c q pos ln o1 o3 o4) ?_
   refine TrK.lock 3 (0+((x16).toNat)) 2 (by kernel_rfl) g0 (by kernel_rfl) (fun gk=>(zUn c q pos ln o1 o3 x16 gk o4)) (by kernel_rfl) fun gk=>?_
   revert r
   apply gO
   exact gc (gi (gc (gi (gi (jg (Eq.refl (0+((x16).toNat))) (lN zAN [0,1,2,3,4,5,6,7] (hself _ _ · m0 n hm0 Nat.le.refl gk)))))))) (lE zAN [2] [0,1])
 case l5 x8 x59 x73 o1 o3 o3_i o4_0 o4_1 o5 o5_c=>
  intro m0 m1 m2 hm0 hm1 hm2 gk
  have hm0:=Nat.le_of_succ_le hm0
  have hm1:=Nat.le_of_succ_le hm1
  refine rd hm2 fun m2 hm2=>?_
  revert r
  apply gO
  exact bj 74 (fun c0=>gc (gn fun g0=>jg g0 (gn fun g1=>jg g1 (cn fun y1 hy1=>jc (em (zDy hy1) [2,0,1] (zIu c q pos ln o1 o3 o3_i gk o4_0 o4_1 o5 o5_c)) (jt (bn (fun c1=>rO (jb 74 c0 (jg g0 (jg g1 (jc (em (zDy hy1) [2,0,1] (zIu c q pos ln o1 o3 o3_i gk o4_0 o4_1 o5 o5_c)) (jb 83 c1 (jt (ce zJ5 [2,0,1] (zUm c q pos ln y1 o3 o3_i gk o4_0 o4_1 o5 o5_c) fun _=>bi 89 (jg zTs (gc (gw 93 (gc (gi (gc (gi (gc (gn fun g5=>gc (gi (jg (zUd (g:=gk) g5) (gw 97 (lG zAN [0,1,2,3,4,5,6] (hself _ _ · m0 m1 m2 hm0 hm1 hm2 gk)))))))))))))) (gw 97 (lG zAN [0,1,2,3,4,5,6] (hself _ _ · m0 m1 m2 hm0 hm1 hm2 gk))))))))))) (fun c1=>rO (jb 74 c0 (jg g0 (jg g1 (jc (em (zDy hy1) [2,0,1] (zIu c q pos ln o1 o3 o3_i gk o4_0 o4_1 o5 o5_c)) (jb 83 c1 (jt (gw 97 (lG zAN [0,1,2,3,4,5,6] (hself _ _ · m0 m1 m2 hm0 hm1 hm2 gk)))))))))))))))) (fun _=>lG zAN [0,1,2,3,5] (hself _ _ · m0 m1 hm0 hm1 gk))
 case l6 x16 o1 o3 o3_i o4 o7=>
  intro m0 m1 hm0 hm1 gk
  have hm0:=Nat.le_of_succ_le hm0
  refine rd hm1 fun m1 hm1=>?_
  have p:=H0
  refine gs (zAA 37 zAN) [0,1,2,3,4,5,6,7] p (zEd (zAK Tryz.f61) 37 [m0,m1]) (frm 208 [(1,.ref 2 0),(3,.fn 86 1 (L1 [.ref 2 0])),(5,.msl 3 1 0 ((((c.cells.length:Int)+1)).toNat)),(7,.fn 87 1 (L1 [.ref 2 0])),(14,.it 4),(16,.i x16),(17,.it 5),(18,.ref 6 0),(140,.it 7)]) (zUl c q pos ln o1 o3 o3_i gk o4 o7) ?_
  revert r
  apply gO
  exact gn fun g0=>fun p r h=>by
   replace h:=zE9 h
   refine TrG.nx (ops:=zBa Tryz.f61 37) HC.x (by kernel_rfl) (by kernel_rfl) 7 3 o3_i 2 o3 gk o7 none [1,3,5,7,14,16,17,18,140,142] [0,1,2,3,4,5,6] (frm 208 [(1,.ref 2 0),(3,.fn 86 1 (L1 [.ref 2 0])),(5,.msl 3 1 0 ((((c.cells.length:Int)+1)).toNat)),(7,.fn 87 1 (L1 [.ref 2 0])),(14,.it 4),(16,.i x16),(17,.it 5),(18,.ref 6 0),(142,.bool false)]) (zIv c q pos ln o1 o3 o4) [0,1,2,3,4,5,6,7] (fun y1=>frm 208 [(1,.ref 2 0),(3,.fn 86 1 (L1 [.ref 2 0])),(5,.msl 3 1 0 ((((c.cells.length:Int)+1)).toNat)),(7,.fn 87 1 (L1 [.ref 2 0])),(14,.it 4),(16,.i x16),(17,.it 5),(18,.ref 6 0),(140,.it 7),(142,.bool true)]) (fun y1=>(zRt c q pos ln o1 o3 o3_i gk o4 o7 y1)) (by kernel_rfl) (by kernel_rfl) (by kernel_rfl) (by decide) g0 (by kernel_rfl) (by kernel_rfl) (fun _=>by kernel_rfl) (fun he=>?_) (fun y1 he=>?_)
   ·replace h:=h.1 he
    revert r
    apply gO
    exact jg (by decide:(0:Int)≤1∧1<((2:Nat):Int)) (jg zMY (gn fun g1=>jg g1 (ce zBS [0,1] (zIv c q pos ln o1 o3 o4) fun y2=>jg (Eq.refl (zKJ c x16 q pos ln y2 o3 o4)) (jg (by decide:(0:Int)≤0∧0<((2:Nat):Int)) (jg zIa (jg g1 (ce zDx [0,1] (zRu c q pos ln y2 o3 o4) fun y3=>jg (Eq.refl (zJF c x16 q pos ln y3 o3 o4)) (gw 134 (lG (tg:=[([],(zKJ c x16 q pos ln y2 o3 o4)),([],(zJF c x16 q pos ln y3 o3 o4))]) zAN [0,1,2,3,5] (hself _ _ · m0 hm0))))))))))
   ·replace h:=h.2 y1 he
    revert r
    apply gO
    exact gi (jg (Eq.refl gk.1) (jg (Eq.refl gk.2.1) (jg (Eq.refl gk.2.2) (jt (lN zAN [0,1,2,3,4,5,6,8,7,9] (hself _ _ · m0 m1 n hm0 hm1 Nat.le.refl gk))))))
 case l7 x16 x147 o1 o3 o3_i o4 o5 o6_0 o6_1 o7_0 o7_1 o8 o8_c=>
  intro m0 m1 m2 hm0 hm1 hm2 gk
  have hm0:=Nat.le_of_succ_le hm0
  have hm1:=Nat.le_of_succ_le hm1
  refine rd hm2 fun m2 hm2=>?_
  revert r
  apply gO
  exact bj 148 (fun c0=>gc (gn fun g0=>jg g0 (gn fun g1=>jg g1 (cn fun y1 hy1=>jc (em (zDy hy1) [2,0,1] (zDf c q pos ln o1 o3 o3_i gk o4 o5 o6_0 o6_1 o7_0 o7_1 o8 o8_c)) (jt (bn (fun c1=>rO (jb 148 c0 (jg g0 (jg g1 (jc (em (zDy hy1) [2,0,1] (zDf c q pos ln o1 o3 o3_i gk o4 o5 o6_0 o6_1 o7_0 o7_1 o8 o8_c)) (jb 158 c1 (jt (cn fun y2 hy2=>jc (em (zJ5 hy2) [2,0,1] (zHI c q pos ln y1 o3 o3_i gk o4 o5 o6_0 o6_1 o7_0 o7_1 o8 o8_c)) (bj 164 (fun c2=>bj 169 (fun c3=>bn (fun c4=>rO (jb 148 c0 (jo 149 (DLe.int (k:=.i64) (eq_of_beq c4)) (jg g0 (jg g1 (jc (em (zDy hy1) [2,0,1] (zDf c q pos ln o1 o3 o3_i gk o4 o5 o6_0 o6_1 o7_0 o7_1 o8 o8_c)) (jb 158 c1 (jt (jc (em (zJ5 hy2) [2,0,1] (zHI c q pos ln y1 o3 o3_i gk o4 o5 o6_0 o6_1 o7_0 o7_1 o8 o8_c)) (jb 164 c2 (jb 169 c3 (jg (by decide:(0:Int)≤0∧0<((2:Nat):Int)) (jt (gw 175 (lG zAN [0,1,2,3,4,5,6,7,8,9] (hself _ _ · m0 m1 m2 hm0 hm1 hm2 gk)))))))))))))))) (fun c4=>bn (fun c6=>rO (jb 148 c0 (jo 149 (DLe.int (k:=.i64) (eq_of_beq c6)) (jg g0 (jg g1 (jc (em (zDy hy1) [2,0,1] (zDf c q pos ln o1 o3 o3_i gk o4 o5 o6_0 o6_1 o7_0 o7_1 o8 o8_c)) (jb 158 c1 (jt (jc (em (zJ5 hy2) [2,0,1] (zHI c q pos ln y1 o3 o3_i gk o4 o5 o6_0 o6_1 o7_0 o7_1 o8 o8_c)) (jb 164 c2 (jb 169 c3 (jg (by decide:(0:Int)≤1∧1<((2:Nat):Int)) (jt (gw 175 (lG zAN [0,1,2,3,4,5,6,7,8,9] (hself _ _ · m0 m1 m2 hm0 hm1 hm2 gk)))))))))))))))) (fun c6=>nO))) (fun _=>gw 175 (lG zAN [0,1,2,3,4,5,6,7,8,9] (hself _ _ · m0 m1 m2 hm0 hm1 hm2 gk)))) (fun _=>gw 175 (lG zAN [0,1,2,3,4,5,6,7,8,9] (hself _ _ · m0 m1 m2 hm0 hm1 hm2 gk)))))))))))) (fun c1=>rO (jb 148 c0 (jg g0 (jg g1 (jc (em (zDy hy1) [2,0,1] (zDf c q pos ln o1 o3 o3_i gk o4 o5 o6_0 o6_1 o7_0 o7_1 o8 o8_c)) (jb 158 c1 (jt (gw 175 (lG zAN [0,1,2,3,4,5,6,7,8,9] (hself _ _ · m0 m1 m2 hm0 hm1 hm2 gk)))))))))))))))) (fun _=>lG zAN [0,1,2,3,4,5,6,8] (hself _ _ · m0 m1 hm0 hm1 gk))
 case l8 x8 x59 o1 o3 o3_i o4 o4_c=>
  intro m0 m1 hm0 hm1 gk
  have hm0:=Nat.le_of_succ_le hm0
  refine rd hm1 fun m1 hm1=>?_
  have p:=H0
  refine gs (zAA 17 zAN) [0,1,2,3,4] p (zEd (zAK Tryz.f61) 17 [m0,m1]) (frm 208 [(1,.ref 2 0),(3,.fn 86 1 (L1 [.ref 2 0])),(4,.i (c.cells.length:Int)),(5,.msl 3 1 0 ((((c.cells.length:Int)+1)).toNat)),(7,.fn 87 1 (L1 [.ref 2 0])),(8,.i x8),(58,.i (c.cells.length:Int)),(59,.i x59),(66,.it 4)]) (zRs c q pos ln o1 o3 o3_i gk o4 o4_c) ?_
  revert r
  apply gO
  exact gn fun g0=>fun p r h=>by
   replace h:=zE9 h
   refine TrG.nx (ops:=zBa Tryz.f61 17) HC.x (by kernel_rfl) (by kernel_rfl) 4 3 o3_i 2 o3 gk o4 (some o4_c) [1,3,4,5,7,8,58,59,66,68] [0,1,2,3] (frm 208 [(1,.ref 2 0),(3,.fn 86 1 (L1 [.ref 2 0])),(4,.i (c.cells.length:Int)),(5,.msl 3 1 0 ((((c.cells.length:Int)+1)).toNat)),(7,.fn 87 1 (L1 [.ref 2 0])),(8,.i x8),(58,.i (c.cells.length:Int)),(59,.i x59),(68,.bool false)]) (zIw c q pos ln o1 o3) [0,1,2,3,4] (fun y1=>frm 208 [(1,.ref 2 0),(3,.fn 86 1 (L1 [.ref 2 0])),(4,.i (c.cells.length:Int)),(5,.msl 3 1 0 ((((c.cells.length:Int)+1)).toNat)),(7,.fn 87 1 (L1 [.ref 2 0])),(8,.i x8),(58,.i (c.cells.length:Int)),(59,.i x59),(66,.it 4),(68,.bool true)]) (fun y1=>(zM0 c q pos ln o1 o3 o3_i gk o4 y1)) (by kernel_rfl) (by kernel_rfl) (by kernel_rfl) (by decide) g0 (by kernel_rfl) (by kernel_rfl) (fun _=>by kernel_rfl) (fun he=>?_) (fun y1 he=>?_)
   ·replace h:=h.1 he
    revert r
    apply gO
    exact gw 98 (lG zAN [0,1,2,3] (hself _ _ · m0 hm0))
   ·replace h:=h.2 y1 he
    revert r
    apply gO
    exact gi (jg (Eq.refl gk.1) (jg (Eq.refl gk.2.1) (jg (Eq.refl gk.2.2) (jt (lN zAN [0,1,2,3,5,4,6] (hself _ _ · m0 m1 n hm0 hm1 Nat.le.refl gk))))))
 case l9 x16 o1 o3 o3_i o4 o5 o6_0 o6_1 o7 o7_c=>
  intro m0 m1 hm0 hm1 gk
  have hm0:=Nat.le_of_succ_le hm0
  refine rd hm1 fun m1 hm1=>?_
  have p:=H0
  refine gs (zAA 37 zAN) [0,1,2,3,4,5,6,7] p (zEd (zAK Tryz.f61) 37 [m0,m1]) (frm 208 [(1,.ref 2 0),(3,.fn 86 1 (L1 [.ref 2 0])),(5,.msl 3 1 0 ((((c.cells.length:Int)+1)).toNat)),(7,.fn 87 1 (L1 [.ref 2 0])),(14,.it 4),(16,.i x16),(17,.it 5),(18,.ref 6 0),(140,.it 7)]) (zRr c q pos ln o1 o3 o3_i gk o4 o5 o6_0 o6_1 o7 o7_c) ?_
  revert r
  apply gO
  exact gn fun g0=>fun p r h=>by
   replace h:=zE9 h
   refine TrG.nx (ops:=zBa Tryz.f61 37) HC.x (by kernel_rfl) (by kernel_rfl) 7 3 o3_i 2 o3 gk o7 (some o7_c) [1,3,5,7,14,16,17,18,140,142] [0,1,2,3,4,5,6] (frm 208 [(1,.ref 2 0),(3,.fn 86 1 (L1 [.ref 2 0])),(5,.msl 3 1 0 ((((c.cells.length:Int)+1)).toNat)),(7,.fn 87 1 (L1 [.ref 2 0])),(14,.it 4),(16,.i x16),(17,.it 5),(18,.ref 6 0),(142,.bool false)]) (zHH c q pos ln o1 o3 o4 o5 o6_0 o6_1) [0,1,2,3,4,5,6,7] (fun y1=>frm 208 [(1,.ref 2 0),(3,.fn 86 1 (L1 [.ref 2 0])),(5,.msl 3 1 0 ((((c.cells.length:Int)+1)).toNat)),(7,.fn 87 1 (L1 [.ref 2 0])),(14,.it 4),(16,.i x16),(17,.it 5),(18,.ref 6 0),(140,.it 7),(142,.bool true)]) (fun y1=>(zRp c q pos ln o1 o3 o3_i gk o4 o5 o6_0 o6_1 o7 y1)) (by kernel_rfl) (by kernel_rfl) (by kernel_rfl) (by decide) g0 (by kernel_rfl) (by kernel_rfl) (fun _=>by kernel_rfl) (fun he=>?_) (fun y1 he=>?_)
   ·replace h:=h.1 he
    revert r
    apply gO
    exact jg (by decide:(0:Int)≤1∧1<((2:Nat):Int)) (bi 179 (jg zMY (gn fun g1=>jg g1 (ce zBS [0,1] (zHH c q pos ln o1 o3 o4 o5 o6_0 o6_1) fun y2=>jg (Eq.refl (zFV c x16 q pos ln y2 o3 o4 o5 o6_0 o6_1)) (jg (by decide:(0:Int)≤0∧0<((2:Nat):Int)) (bi 197 (jg zIa (jg g1 (ce zDx [0,1] (zRq c q pos ln y2 o3 o4 o5 o6_0 o6_1) fun y3=>jg (Eq.refl (zJE c x16 q pos ln y3 o3 o4 o5 o6_0 o6_1)) (gw 134 (lG (tg:=[([],(zFV c x16 q pos ln y2 o3 o4 o5 o6_0 o6_1)),([],(zJE c x16 q pos ln y3 o3 o4 o5 o6_0 o6_1))]) zAN [0,1,2,3,5] (hself _ _ · m0 hm0)))))) (gw 134 (lG (tg:=[([],(zFV c x16 q pos ln y2 o3 o4 o5 o6_0 o6_1))]) zAN [0,1,2,3,5] (hself _ _ · m0 hm0)))))))) (jg (by decide:(0:Int)≤0∧0<((2:Nat):Int)) (bi 197 (jg zIa (gi (ce zDx [0,1] (zHH c q pos ln o1 o3 o4 o5 o6_0 o6_1) fun y2=>jg (Eq.refl (zJD c x16 q pos ln y2 o3 o4 o5 o6_0 o6_1)) (gw 134 (lG (tg:=[([],(zJD c x16 q pos ln y2 o3 o4 o5 o6_0 o6_1))]) zAN [0,1,2,3,5] (hself _ _ · m0 hm0)))))) (gw 134 (lG zAN [0,1,2,3,5] (hself _ _ · m0 hm0))))))
   ·replace h:=h.2 y1 he
    revert r
    apply gO
    exact gi (jg (Eq.refl gk.1) (jg (Eq.refl gk.2.1) (jg (Eq.refl gk.2.2) (jt (lN zAN [0,1,2,3,4,5,6,8,7,9] (hself _ _ · m0 m1 n hm0 hm1 Nat.le.refl gk))))))
theorem zZR {n:Nat} {c:zAC} {q:zAB} {pos:List Int} {ln:Nat} {lost:List Int} {r:Bool×(List Int)} (h:zUD n c q pos ln lost=some r):EQ 61 [.ref 0 0] [some (.cells (zAF c++zAE q++[.ints pos,.msl 1 1 0 ln])),some (.ints lost)] (.bool r.1) [some (.cells (zAF c++zAE q++[.ints pos,.msl 1 1 0 ln])),some (.ints r.2)] false:=by
 refine ot Tryz.func61 fun B N=>?_
 revert r
 apply gO
 exact bi 32 (lE zAN [2] [0,1]) (gc (gw 41 (gi (lN zAN [0,1,2,3] ((zWa B N c q pos ln lost n) _ _ · n Nat.le.refl)))))
end Go.Proofs.YtekkngkphejfcaaGreatDoor
