/- Part 5 of 7 of what the proofs of these laws stand on. -/
import Derived.Test.YtekkngkphejfcaaGreatDoorPfD
set_option linter.all false
namespace Go.Proofs.YtekkngkphejfcaaGreatDoor
abbrev zFL:=@Bool.not_eq_true
abbrev zF4:=@List.ext_getElem
abbrev zGW:=@Option.isSome_none
abbrev zGX:=@Option.isSome_some
abbrev zGp:=@Int.lt_irrefl
end Go.Proofs.YtekkngkphejfcaaGreatDoor
namespace Go.Proofs.YtekkngkphejfcaaGreatDoor
open Go.RowKit
section
variable {c:AC} {k:Nat} {pos lost:List Int} {q:AA}
theorem B2.unique {i:Nat} {D:Nat -> Nat -> Prop} {l l':List Int} (h:B2 c pos lost i D l) (h':B2 c pos lost i D l') (hi: ∀ j,Bs (l.getD j 0)) (A5: ∀ j,Bs (l'.getD j 0)):l=l':=by
 have e:l.length=l'.length:=h.1.trans h'.1.symm;refine zF4 e fun j h1 h2=>?_
 have e1:l.getD j 0=l[j]:=by simp [h1]
 have e2:l'.getD j 0=l'[j]:=by simp [h2]
 rw [←e1,←e2];refine Hi (hi j) (A5 j) fun s _=>?_
 rw [zCM,h.2,h'.2]
theorem ZH {l:List Int} {i:Nat} {x:Int} (h: ∀ j,Bs (l.getD j 0)) (hx:Bs x): ∀ j,Bs ((l.set i x).getD j 0):=by
 intro j
 by_cases e:i=j
 ·subst e
  by_cases h2:i<l.length
  ·rw [I2 h2];exact hx
  ·rw [List.set_eq_of_length_le (by omega)];exact h i
 ·rw [getD_set_ne e];exact h j
theorem xp {n ln:Nat} {cell ss:Int} {l':List Int} (h:DJ n cell ss c q pos ln lost=some l') (hi: ∀ j,Bs (lost.getD j 0)): ∀ j,Bs (l'.getD j 0):=by
 unfold DJ am at h;split at h
 ·cases h;exact ZH hi (Cy _ _ _)
 ·cases h
theorem xM {n ln:Nat} {cell:Int} {l':List Int} (h:GJ n cell c q pos ln lost=some l') (hi: ∀ j,Bs (lost.getD j 0)): ∀ j,Bs (l'.getD j 0):=by
 unfold GJ aV at h;split at h
 ·cases h;exact ZH hi (Cy _ _ _)
 ·cases h
def Ha (c:AC):Prop:=c.runs.length<=256/\ ∀ j,j<c.runs.length -> c.runs.getD j 0<=256
structure Ex (c:AC) (d l:Int):Prop where
 d0:0<=d
 d1:d<=(c.runs.length:Int)
 l0:0<=l
 open' : 0 < l -> d < (c.runs.length : Int) /\ l <= c.runs.getD d.toNat 0
def nx (c:AC) (d l:Int) (inn:Bool):Option (Int×Int):=
 bif inn then (if d<(c.runs.length:Int)/\ l<c.runs.getD d.toNat 0 then some (d,l+1) else none)
 else (if l=0 then some (d,0) else if l=c.runs.getD d.toNat 0 then some (d+1,0) else none)
theorem kw {d l:Int} {inn:Bool} {t:Int×Int} (h:Ex c d l) (e:nx c d l inn=some t):Ex c t.1 t.2:=by
 obtain ⟨h1,h2,h3,h4⟩:=h;unfold nx at e;cases inn
 ·rw [zAD] at e;split at e
  ·cases e;exact ⟨h1,h2,zCH _,fun h=>absurd h (zGp _)⟩
  ·split at e
   ·cases e;have:=h4 (by omega);exact ⟨by show 0<=d+1;omega,by show d+1<=_;omega,zCH _,fun h=>absurd h (zGp _)⟩
   ·cases e
 ·rw [zBA] at e;split at e
  ·rename_i h5;cases e;exact ⟨h1,h2,by show 0<=l+1;omega,fun _=>⟨h5.1,by show l+1<=c.runs.getD d.toNat 0;omega⟩⟩
  ·cases e
theorem WW {n ln:Nat} {d l:Int} {inn:Bool} (R:Ha c) (h:Ex c d l): ∃ t,Sy n (d,l) inn c q pos ln lost=some (t,(nx c d l inn).isSome,lost)/\ ∀ u,nx c d l inn=some u -> t=u:=by
 obtain ⟨h1,h2,h3,h4⟩:=h;obtain ⟨hr,hv⟩:=R
 have hl:l<=256:=by
  by_cases h0:0<l
  ·obtain ⟨a1,a2⟩:=h4 h0;have:=hv d.toNat (by omega);omega
  ·omega
 unfold Sy lK nx;cases inn
 ·rw [zAD,zAD]
  by_cases h0:l=0
  ·subst h0;refine ⟨(d,0),by simp,fun u hu=>by simpa using hu⟩
  ·obtain ⟨a1,a2⟩:=h4 (by omega);have e0:(l==0)=false:=by simpa using h0
   simp only [e0,zAD,zBP h0];rw [zAE ⟨Ae.2 ⟨by omega,by omega⟩,h1,a1⟩];refine ⟨(d+1,0),?_,fun u hu=>?_⟩
   ·by_cases h5:l=c.runs.getD d.toNat 0
    ·rw [zAE h5,←h5];simp
    ·rw [zBP h5];simpa using h5
   ·split at hu
    ·cases hu;rfl
    ·cases hu
 ·rw [zBA,zBA,zAE (Ae.2 ⟨by show _<=l+1;omega,by show l+1<=_;omega⟩)]
  by_cases h5:d<(c.runs.length:Int)
  ·simp only [zBC h5,zBA];rw [zAE ⟨h1,h5⟩];refine ⟨(d,l+1),?_,fun u hu=>?_⟩
   ·by_cases h6:l<c.runs.getD d.toNat 0
    ·rw [zAE ⟨h5,h6⟩,zBC h6];rfl
    ·rw [zBP fun h=>h6 h.2,zAA h6];rfl
   ·split at hu
    ·cases hu;rfl
    ·cases hu
  ·simp only [zAA h5,zAD];refine ⟨(d,l+1),?_,fun u hu=>?_⟩
   ·rw [zBP fun h=>h5 h.1];rfl
   ·rw [zBP fun h=>h5 h.1] at hu;cases hu
def kd (c:AC) (pos:List Int) (i:Nat) (inn:Bool):Bool:=bif inn then (bits .and .i64 (AL c pos i) c.set != 0) else (bits .andNot .i64 (AL c pos i) c.set != 0)
theorem Wi {n:Nat} {i:Nat} {inn:Bool} (W:Bq c k pos) (hi:i<c.cells.length):S9 n (i:Int) inn c q pos pos.length lost=some (kd c pos i inn,lost):=by
 have hc:=W.cells i hi;unfold S9 mF kd;simp only [zAB];cases inn
 ·rw [zAD,zAE ⟨⟨by omega,by omega⟩,hc⟩];rfl
 ·rw [zBA,zAE ⟨⟨by omega,by omega⟩,hc⟩];rfl
def Ey (c:AC) (pos:List Int):Nat -> Int×Int -> Prop
 | 0,t=>t=(0,0)
 | i+1,t=>∃ s inn,Ey c pos i s/\ nx c s.1 s.2 inn=some t/\ kd c pos i inn=true
theorem Ey.ok (i:Nat): ∀ {t:Int×Int},Ey c pos i t -> Ex c t.1 t.2:=by
 induction i with
 | zero=>
  intro t h;obtain rfl:t=(0,0):=h;exact ⟨zCH _,by show (0:Int)<=_;omega,zCH _,fun h=>absurd h (zGp _)⟩
 | succ i ih=>
  rintro t ⟨s,inn,h1,h2,_⟩;exact kw (ih h1) h2
def Yb (c:AC) (t:Int×Int):Prop:=t=((c.runs.length:Int),0)∨(0<c.runs.length/\ t=((c.runs.length:Int)-1,c.runs.getD (c.runs.length-1) 0))
def IL (c:AC) (pos:List Int):Nat -> Int×Int -> Prop
 | 0,t=>Yb c t
 | m+1,s=>Ey c pos (c.cells.length-1-m) s/\ ∃ t inn,nx c s.1 s.2 inn=some t/\ kd c pos (c.cells.length-1-m) inn=true/\ IL c pos m t
def Gs (c:AC) (pos:List Int) (i:Nat) (inn:Bool):Prop:=∃ s t,Ey c pos i s/\ nx c s.1 s.2 inn=some t/\ kd c pos i inn=true/\ IL c pos (c.cells.length-1-i) t
def G9 (c:AC) (pos:List Int) (a s:Nat):Prop:=(¬ Gs c pos a true/\ tb c.set s=true)∨(¬ Gs c pos a false/\ tb c.set s=false)
def Ds (c:AC) (pos:List Int) (i:Nat) (o4:KS) (d l:Int) (inn:Bool):Bool:=match nx c d l inn with
 | some t=>kd c pos i inn&&o4.contains [t.1,t.2]
 | none=>false
theorem yO {n i oi:Nat} {o1:List Int} {o3:List (Option KS)} {o4 o5 o8:KS} {b0 b1:Bool} {d l:Int} {Ih:List Int} (W:Bq c k pos) (R:Ha c) (hi:i<c.cells.length) (h:Ex c d l):
 BG c q pos pos.length lost (n+1) (.l7 i 0 o1 o3 oi o4 o5 b0 b1 d l o8 Ih)=BG c q pos pos.length lost n (.l7 i 1 o1 o3 oi o4 (bif Ds c pos i o4 d l false then CL [d,l] o5 else o5) (b0||Ds c pos i o4 d l false) b1 d l o8 Ih):=by
 obtain ⟨t,e1,e2⟩:=WW (n:=n) (ln:=pos.length) (pos:=pos) (lost:=o1) (q:=q) (inn:=false) R h;have b:([false,true]:List Bool).getD (0+((0:Int)).toNat) false=false:=rfl;have r:AG ((0:Int)+1):=Ae.2 ⟨by decide,by decide⟩
 show Ms n (BG c q pos pos.length lost n) c q pos pos.length lost i 0 o1 o3 oi o4 o5 b0 b1 d l o8 Ih=_
 unfold Ms Ds;rw [zBC (by decide),zBA,zAE ⟨⟨by decide,by decide⟩,by decide⟩,b,e1,zA9];cases hn:nx c d l false with
 | none=>simp only [zGW,zAD,zAE r,zFb];rfl
 | some u=>
  obtain rfl:=e2 u hn;simp only [zGX,zBA];rw [Wi W hi,zA9];cases hk:kd c pos i false
  ·simp only [zAD,zAE r,zFI,zFb];rfl
  ·simp only [zBA,zCE];cases hc:o4.contains [t.1,t.2]
   ·simp only [zAD,zAE r,zFb];rfl
   ·have z:((0:Int)==0)=true:=rfl;simp only [zBA,z,zAE r,Bool.or_true];rfl
theorem yN {n i oi:Nat} {o1:List Int} {o3:List (Option KS)} {o4 o5 o8:KS} {b0 b1:Bool} {d l:Int} {Ih:List Int} (W:Bq c k pos) (R:Ha c) (hi:i<c.cells.length) (h:Ex c d l):
 BG c q pos pos.length lost (n+1) (.l7 i 1 o1 o3 oi o4 o5 b0 b1 d l o8 Ih)=BG c q pos pos.length lost n (.l7 i 2 o1 o3 oi o4 (bif Ds c pos i o4 d l true then CL [d,l] o5 else o5) b0 (b1||Ds c pos i o4 d l true) d l o8 Ih):=by
 obtain ⟨t,e1,e2⟩:=WW (n:=n) (ln:=pos.length) (pos:=pos) (lost:=o1) (q:=q) (inn:=true) R h;have b:([false,true]:List Bool).getD (0+((1:Int)).toNat) false=true:=rfl;have r:AG ((1:Int)+1):=Ae.2 ⟨by decide,by decide⟩
 show Ms n (BG c q pos pos.length lost n) c q pos pos.length lost i 1 o1 o3 oi o4 o5 b0 b1 d l o8 Ih=_
 unfold Ms Ds;rw [zBC (by decide),zBA,zAE ⟨⟨by decide,by decide⟩,by decide⟩,b,e1,zA9];cases hn:nx c d l true with
 | none=>simp only [zGW,zAD,zAE r,zFb];rfl
 | some u=>
  obtain rfl:=e2 u hn;simp only [zGX,zBA];rw [Wi W hi,zA9];cases hk:kd c pos i true
  ·simp only [zAD,zAE r,zFI,zFb];rfl
  ·simp only [zBA,zCE];cases hc:o4.contains [t.1,t.2]
   ·simp only [zAD,zAE r,zFb];rfl
   ·have z:((1:Int)==0)=false:=rfl;have z1:((1:Int)==1)=true:=rfl;simp only [zBA,zAD,z,z1,zAE r,Bool.or_true];rfl
theorem yM {n i oi:Nat} {o1:List Int} {o3:List (Option KS)} {o4 o5 o8:KS} {b0 b1:Bool} {d l:Int} {Ih:List Int}:
 BG c q pos pos.length lost (n+1) (.l7 i 2 o1 o3 oi o4 o5 b0 b1 d l o8 Ih)=BG c q pos pos.length lost n (.l9 i o1 o3 oi o4 o5 b0 b1 o8 Ih):=by
 show Ms n (BG c q pos pos.length lost n) c q pos pos.length lost i 2 o1 o3 oi o4 o5 b0 b1 d l o8 Ih=_
 unfold Ms;rw [zAA (by decide),zAD]
def FI (c:AC) (pos:List Int) (i:Nat) (o3:List (Option KS)) (d l:Int) (inn:Bool):List (Option KS):=match nx c d l inn with
 | some t=>bif kd c pos i inn then o3.set (i+1) (some (CL [t.1,t.2] ((o3.getD (i+1) none).getD []))) else o3
 | none=>o3
theorem yS {n i:Nat} {o1:List Int} {o3:List (Option KS)} {o5:KS} {d l:Int} {Fh:List Int} {As:Int} (W:Bq c k pos) (R:Ha c) (hi:i<c.cells.length) (h:Ex c d l) (h3:i+1<o3.length) (hs:(o3.getD (i+1) none).isSome=true):
 BG c q pos pos.length lost (n+1) (.l5 i As 0 o1 o3 i d l o5 Fh)=BG c q pos pos.length lost n (.l5 i As 1 o1 (FI c pos i o3 d l false) i d l o5 Fh):=by
 obtain ⟨t,e1,e2⟩:=WW (n:=n) (ln:=pos.length) (pos:=pos) (lost:=o1) (q:=q) (inn:=false) R h;have b:([false,true]:List Bool).getD (0+((0:Int)).toNat) false=false:=rfl;have r:AG ((0:Int)+1):=Ae.2 ⟨by decide,by decide⟩;have Ak:=W.len;have t1:((((c.cells.length:Nat):Int)+1).toNat:Nat)=c.cells.length+1:=by omega
 have t2:0+(((i:Int)+1).toNat:Nat)=i+1:=by omega
 show Mt n (BG c q pos pos.length lost n) c q pos pos.length lost i As 0 o1 o3 i d l o5 Fh=_
 unfold Mt FI;rw [zBC (by decide),zBA,zAE ⟨⟨by decide,by decide⟩,by decide⟩,b,e1,zA9];cases hn:nx c d l false with
 | none=>simp only [zGW,zAD,zAE r];rfl
 | some u=>
  obtain rfl:=e2 u hn;simp only [zGX,zBA];rw [Wi W hi,zA9];cases hk:kd c pos i false
  ·simp only [zAD,zAE r];rfl
  ·simp only [zBA,t1,t2];rw [zAE ⟨Ae.2 ⟨by omega,by omega⟩,⟨by omega,by omega⟩,h3,by omega,hs,r⟩];rfl
theorem yR {n i:Nat} {o1:List Int} {o3:List (Option KS)} {o5:KS} {d l:Int} {Fh:List Int} {As:Int} (W:Bq c k pos) (R:Ha c) (hi:i<c.cells.length) (h:Ex c d l) (h3:i+1<o3.length) (hs:(o3.getD (i+1) none).isSome=true):
 BG c q pos pos.length lost (n+1) (.l5 i As 1 o1 o3 i d l o5 Fh)=BG c q pos pos.length lost n (.l5 i As 2 o1 (FI c pos i o3 d l true) i d l o5 Fh):=by
 obtain ⟨t,e1,e2⟩:=WW (n:=n) (ln:=pos.length) (pos:=pos) (lost:=o1) (q:=q) (inn:=true) R h;have b:([false,true]:List Bool).getD (0+((1:Int)).toNat) false=true:=rfl;have r:AG ((1:Int)+1):=Ae.2 ⟨by decide,by decide⟩;have Ak:=W.len;have t1:((((c.cells.length:Nat):Int)+1).toNat:Nat)=c.cells.length+1:=by omega
 have t2:0+(((i:Int)+1).toNat:Nat)=i+1:=by omega
 show Mt n (BG c q pos pos.length lost n) c q pos pos.length lost i As 1 o1 o3 i d l o5 Fh=_
 unfold Mt FI;rw [zBC (by decide),zBA,zAE ⟨⟨by decide,by decide⟩,by decide⟩,b,e1,zA9];cases hn:nx c d l true with
 | none=>simp only [zGW,zAD,zAE r];rfl
 | some u=>
  obtain rfl:=e2 u hn;simp only [zGX,zBA];rw [Wi W hi,zA9];cases hk:kd c pos i true
  ·simp only [zAD,zAE r];rfl
  ·simp only [zBA,t1,t2];rw [zAE ⟨Ae.2 ⟨by omega,by omega⟩,⟨by omega,by omega⟩,h3,by omega,hs,r⟩];rfl
theorem yQ {n i:Nat} {o1:List Int} {o3:List (Option KS)} {o5:KS} {d l:Int} {Fh:List Int} {As:Int}:
 BG c q pos pos.length lost (n+1) (.l5 i As 2 o1 o3 i d l o5 Fh)=BG c q pos pos.length lost n (.l8 i As o1 o3 i o5 Fh):=by
 show Mt n (BG c q pos pos.length lost n) c q pos pos.length lost i As 2 o1 o3 i d l o5 Fh=_
 unfold Mt;rw [zAA (by decide),zAD]
def Fs (o3:List (Option KS)) (j:Nat):KS:=(o3.getD j none).getD []
theorem V6 {i:Nat} {o3:List (Option KS)} {d l:Int} {inn:Bool}:(FI c pos i o3 d l inn).length=o3.length:=by
 unfold FI;split
 ·cases kd c pos i inn
  ·rfl
  ·rw [zBA,zBo]
 ·rfl
theorem Xc {α:Type} {l:List α} {i:Nat} {x y:α} (h:i<l.length):(l.set i x).getD i y=x:=by
 rw [u8,zFN h];rfl
theorem dN {α:Type} {l:List α} {i j:Nat} {x y:α} (h:i≠j):(l.set i x).getD j y=l.getD j y:=by
 rw [u8,zFJ h,←u8]
theorem aD {i j:Nat} {o3:List (Option KS)} {d l:Int} {inn:Bool} (h:j≠i+1):(FI c pos i o3 d l inn).getD j none=o3.getD j none:=by
 unfold FI;split
 ·cases kd c pos i inn
  ·rfl
  ·rw [zBA,dN (fun e=>h e.symm)]
 ·rfl
theorem aE {i:Nat} {o3:List (Option KS)} {d l:Int} {inn:Bool} (hl:i+1<o3.length) {j:Nat} (h:(o3.getD j none).isSome=true):((FI c pos i o3 d l inn).getD j none).isSome=true:=by
 by_cases e:j=i+1
 ·subst e;unfold FI;split
  ·cases kd c pos i inn
   ·exact h
   ·rw [zBA,Xc hl];rfl
  ·exact h
 ·rw [aD e];exact h
theorem PW {i:Nat} {o3:List (Option KS)} {d l:Int} {inn:Bool} (hl:i+1<o3.length) {x:List Int}:x∈Fs (FI c pos i o3 d l inn) (i+1)↔x∈Fs o3 (i+1)∨∃ t,nx c d l inn=some t/\ kd c pos i inn=true/\ x= [t.1,t.2]:=by
 unfold FI;split
 ·rename_i t ht;cases hk:kd c pos i inn
  ·rw [zAD];exact ⟨.inl,fun h=>h.elim id fun ⟨_,_,h,_⟩=>by cases h⟩
  ·rw [zBA];unfold Fs;rw [Xc hl]
   show x∈CL _ _↔_
   rw [NY];constructor
   ·rintro (h | h)
    ·exact .inr ⟨t,ht,rfl,h⟩
    ·exact .inl h
   ·rintro (h | ⟨u,hu,_,h⟩)
    ·exact .inr h
    ·rw [ht] at hu;cases hu;exact .inl h
 ·rename_i hn;exact ⟨.inl,fun h=>h.elim id fun ⟨_,h,_⟩=>by rw [hn] at h;cases h⟩
structure Rows (c:AC) (pos:List Int) (i:Nat) (o3:List (Option KS)):Prop where
 len:o3.length=c.cells.length+1
 isSome: ∀ j,j<=c.cells.length -> (o3.getD j none).isSome=true
 row: ∀ j,j<=i -> ∀ x,x∈Fs o3 j↔∃ t:Int×Int,x= [t.1,t.2]/\ Ey c pos j t
 rest: ∀ j,i<j -> j<=c.cells.length -> Fs o3 j= []
structure Ob (c:AC) (pos:List Int) (i:Nat) (rem:KS) (o3:List (Option KS)):Prop where
 hi:i<c.cells.length
 len:o3.length=c.cells.length+1
 isSome: ∀ j,j<=c.cells.length -> (o3.getD j none).isSome=true
 row: ∀ j,j<=i -> ∀ x,x∈Fs o3 j↔∃ t:Int×Int,x= [t.1,t.2]/\ Ey c pos j t
 rest: ∀ j,i+1<j -> j<=c.cells.length -> Fs o3 j= []
 sub: ∀ x∈rem,∃ t:Int×Int,x= [t.1,t.2]/\ Ey c pos i t
 next: ∀ x∈Fs o3 (i+1),∃ t:Int×Int,x= [t.1,t.2]/\ Ey c pos (i+1) t
 cov: ∀ t,Ey c pos i t -> [t.1,t.2]∈rem∨∀ inn u,nx c t.1 t.2 inn=some u -> kd c pos i inn=true -> [u.1,u.2]∈Fs o3 (i+1)
theorem Rows.mid {i:Nat} {o3:List (Option KS)} (h:Rows c pos i o3) (hi:i<c.cells.length):Ob c pos i (Fs o3 i) o3 where
 hi:=hi
 len:=h.len
 isSome:=h.isSome
 row:=h.row
 rest:=fun j hj hl=>h.rest j (by omega) hl
 sub:=fun x hx=>(h.row i (zBa _) x).1 hx
 next:=fun x hx=>by rw [h.rest (i+1) (by omega) (by omega)] at hx;cases hx
 cov:=fun t ht=>.inl ((h.row i (zBa _) _).2 ⟨t,rfl,ht⟩)
theorem Ob.rows {i:Nat} {o3:List (Option KS)} (h:Ob c pos i [] o3):Rows c pos (i+1) o3 where
 len:=h.len
 isSome:=h.isSome
 row:=fun j hj x=>by
  rcases zBH.1 (Nat.lt_succ_of_le hj) with hj | rfl
  ·exact h.row j (by omega) x
  ·refine ⟨h.next x,?_⟩;rintro ⟨t,rfl,s,inn,h1,h2,h3⟩;rcases h.cov s h1 with h4 | h4
   ·cases h4
   ·exact h4 inn t h2 h3
 rest:=h.rest
theorem Sj {t u:Int×Int} (h:([t.1,t.2]:List Int)= [u.1,u.2]):t=u:=by
 obtain ⟨a,b⟩:=t;obtain ⟨a',b'⟩:=u;simp only [List.cons.injEq,and_true] at h;rw [h.1,h.2]
theorem Ob.go {i:Nat} {o3:List (Option KS)} {rem:KS} {t:Int×Int} (h:Ob c pos i rem o3) (ht: [t.1,t.2]∈rem):Ob c pos i (rem.erase [t.1,t.2]) (FI c pos i (FI c pos i o3 t.1 t.2 false) t.1 t.2 true):=by
 have hl:=h.len;have hi:=h.hi;have h1:i+1<o3.length:=by omega
 have h2:i+1<(FI c pos i o3 t.1 t.2 false).length:=by rw [V6];exact h1
 have AY: ∀ j,j≠i+1 -> Fs (FI c pos i (FI c pos i o3 t.1 t.2 false) t.1 t.2 true) j=Fs o3 j:=fun j hj=>by
  unfold Fs;rw [aD hj,aD hj]
 have hR:Ey c pos i t:=by
  obtain ⟨u,e,hu⟩:=h.sub _ ht;rw [Sj e];exact hu
 refine ⟨hi,by rw [V6,V6];exact hl,fun j hj=>aE h2 (aE h1 (h.isSome j hj)),fun j hj x=>?_,fun j hj TU=>?_,fun x hx=>h.sub x (zGi hx),fun x hx=>?_,fun s hs=>?_⟩
 ·rw [AY j (by omega)];exact h.row j hj x
 ·rw [AY j (by omega)];exact h.rest j hj TU
 ·rw [PW h2,PW h1] at hx;rcases hx with (hx | ⟨u,e1,e2,rfl⟩) | ⟨u,e1,e2,rfl⟩
  ·exact h.next x hx
  ·exact ⟨u,rfl,t,false,hR,e1,e2⟩
  ·exact ⟨u,rfl,t,true,hR,e1,e2⟩
 ·by_cases e:s=t
  ·subst e;refine .inr fun inn u h3 h4=>?_
   rw [PW h2,PW h1];cases inn
   ·exact .inl (.inr ⟨u,h3,h4,rfl⟩)
   ·exact .inr ⟨u,h3,h4,rfl⟩
  ·rcases h.cov s hs with h3 | h3
   ·exact .inl ((List.mem_erase_of_ne (fun e2=>e (Sj e2))).2 h3)
   ·refine .inr fun inn u h4 h5=>?_
    rw [PW h2,PW h1];exact .inl (.inl (h3 inn u h4 h5))
def HZ (c:AC) (pos lost:List Int) (r:Bool×List Int):Prop:=r.1=true/\ B2 c pos lost c.cells.length (G9 c pos) r.2/\ ∀ j,Bs (r.2.getD j 0)
theorem HZ.uniq (r r':Bool×List Int) (h:HZ c pos lost r) (h':HZ c pos lost r'):r=r':=by
 obtain ⟨b,l⟩:=r;obtain ⟨b',l'⟩:=r';obtain ⟨h1,h2,h3⟩:=h;obtain ⟨h4,h5,h6⟩:=h';have e1:b=true:=h1;have e2:b'=true:=h4;have e3:l=l':=B2.unique h2 h5 h3 h6;rw [e1,e2,e3]
theorem xh {i:Nat} {o1:List Int} {As:Int} (W:Bq c k pos) (R:Ha c) (hx:As=(i:Int)) (H: ∀ o3,Rows c pos (i+1) o3 -> AU (fun n=>BG c q pos pos.length lost n (.l2 (As+1) o1 o3)) (HZ c pos lost)):
 ∀ (m:Nat) (rem:KS) (o3:List (Option KS)) (Fh:List Int),rem.length=m -> Ob c pos i rem o3 -> AU (fun n=>BG c q pos pos.length lost n (.l8 i As o1 o3 i rem Fh)) (HZ c pos lost):=by
 intro m
 induction m with
 | zero=>
  intro rem o3 Fh hm hM;have:rem= []:=zE5 hm;subst this;have hs:=hM.isSome i (by have:=hM.hi;omega);have r1:AG (As+1):=by rw [hx];exact (W.r64 hM.hi).2
  refine AU.step 1 (fun n=>?_) (H o3 hM.rows)
  show RR n (BG c q pos pos.length lost n) c q pos pos.length lost i As o1 o3 i [] Fh=_
  unfold RR;rw [zAE hs,ko,zAE r1]
 | succ m ih=>
  intro rem o3 Fh hm hM;have hs:=hM.isSome i (by have:=hM.hi;omega);have AY:rem≠[]:=by intro e;rw [e] at hm;cases hm
  refine AU.step 1 (g:=fun n=>Hv rem (if AG (As+1) then BG c q pos pos.length lost n (.l2 (As+1) o1 o3) else none) (fun y1=>BG c q pos pos.length lost n (.l5 i As 0 o1 o3 i (y1.getD 0 0) (y1.getD 1 0) (rem.erase y1) y1))) (fun n=>?_) (AU.next AY (fun y hy=>?_) HZ.uniq)
  ·show RR n (BG c q pos pos.length lost n) c q pos pos.length lost i As o1 o3 i rem Fh=_
   unfold RR;rw [zAE hs];simp only [zAE hs]
  ·obtain ⟨t,rfl,ht⟩:=hM.sub y hy;have hS:=ht.ok;have hl:=hM.len;have hi:=hM.hi;have h1:i+1<o3.length:=by omega
   have s1:=hM.isSome (i+1) (by omega);have h2:i+1<(FI c pos i o3 t.1 t.2 false).length:=by rw [V6];exact h1
   have s2:=aE (c:=c) (pos:=pos) (d:=t.1) (l:=t.2) (inn:=false) h1 s1;refine AU.step 3 (fun n=>?_) (ih _ _ [t.1,t.2] (by rw [zGT hy];omega) (hM.go hy))
   show BG c q pos pos.length lost (n+2+1) (.l5 i As 0 o1 o3 i t.1 t.2 (rem.erase [t.1,t.2]) [t.1,t.2])=_
   rw [yS W R hM.hi hS h1 s1,yR W R hM.hi hS h2 s2,yQ]
def Qk (c:AC) (pos:List Int) (m:Nat) (o4:KS):Prop:=∀ x,x∈o4↔∃ t:Int×Int,x= [t.1,t.2]/\ IL c pos m t
def MZ (c:AC) (pos lost:List Int) (m:Nat) (o1:List Int):Prop:=B2 c pos lost c.cells.length (fun a s=>c.cells.length<=a+m/\ G9 c pos a s) o1/\ ∀ j,Bs (o1.getD j 0)
structure Bk (c:AC) (pos:List Int) (i m:Nat) (o5:KS) (b0 b1:Bool) (rem:KS):Prop where
 hi:i+m+1=c.cells.length
 sub: ∀ x∈rem,∃ t:Int×Int,x= [t.1,t.2]/\ Ey c pos i t
 o5s: ∀ x∈o5,∃ t:Int×Int,x= [t.1,t.2]/\ IL c pos (m+1) t
 b0s:b0=true -> Gs c pos i false
 b1s:b1=true -> Gs c pos i true
 cov: ∀ t,Ey c pos i t -> [t.1,t.2]∈rem∨∀ inn u,nx c t.1 t.2 inn=some u -> kd c pos i inn=true -> IL c pos m u -> [t.1,t.2]∈o5/\ (bif inn then b1 else b0)=true
theorem aW {i m:Nat} {o4:KS} {d l:Int} {inn:Bool} (h:Qk c pos m o4):Ds c pos i o4 d l inn=true↔∃ u,nx c d l inn=some u/\ kd c pos i inn=true/\ IL c pos m u:=by
 unfold Ds;split
 ·rename_i t ht;rw [zBE,zFZ,h];constructor
  ·rintro ⟨h1,u,h2,h3⟩;exact ⟨t,ht,h1,by rw [Sj h2];exact h3⟩
  ·rintro ⟨u,h1,h2,h3⟩;rw [ht] at h1;cases h1;exact ⟨h2,t,rfl,h3⟩
 ·rename_i hn;exact ⟨fun h=>(by cases h),fun ⟨u,h,_⟩=>by rw [hn] at h;cases h⟩
theorem Bk.go {i m:Nat} {o4 o5 rem:KS} {b0 b1:Bool} {t:Int×Int} (hE:Qk c pos m o4) (h:Bk c pos i m o5 b0 b1 rem) (ht: [t.1,t.2]∈rem):
 Bk c pos i m (bif Ds c pos i o4 t.1 t.2 true then CL [t.1,t.2] (bif Ds c pos i o4 t.1 t.2 false then CL [t.1,t.2] o5 else o5) else (bif Ds c pos i o4 t.1 t.2 false then CL [t.1,t.2] o5 else o5)) (b0||Ds c pos i o4 t.1 t.2 false) (b1||Ds c pos i o4 t.1 t.2 true) (rem.erase [t.1,t.2]):=by
 have hR:Ey c pos i t:=by
  obtain ⟨u,e,hu⟩:=h.sub _ ht;rw [Sj e];exact hu
 have ei:c.cells.length-1-i=m:=by have:=h.hi;omega
 have em:c.cells.length-1-m=i:=by have:=h.hi;omega
 have nU: ∀ inn,Ds c pos i o4 t.1 t.2 inn=true -> Gs c pos i inn:=fun inn ho=>by
  obtain ⟨u,h1,h2,h3⟩:=(aW hE).1 ho;exact ⟨t,u,hR,h1,h2,by rw [ei];exact h3⟩
 have m9: ∀ inn,Ds c pos i o4 t.1 t.2 inn=true -> IL c pos (m+1) t:=fun inn ho=>by
  obtain ⟨u,h1,h2,h3⟩:=(aW hE).1 ho
  show Ey c pos (c.cells.length-1-m) t/\ ∃ u inn,nx c t.1 t.2 inn=some u/\ kd c pos (c.cells.length-1-m) inn=true/\ IL c pos m u
  rw [em];exact ⟨hR,u,inn,h1,h2,h3⟩
 have mem: ∀ x,x∈(bif Ds c pos i o4 t.1 t.2 true then CL [t.1,t.2] (bif Ds c pos i o4 t.1 t.2 false then CL [t.1,t.2] o5 else o5) else (bif Ds c pos i o4 t.1 t.2 false then CL [t.1,t.2] o5 else o5))↔x∈o5∨(x= [t.1,t.2]/\ (Ds c pos i o4 t.1 t.2 true=true∨Ds c pos i o4 t.1 t.2 false=true)):=fun x=>by
  cases Ds c pos i o4 t.1 t.2 true <;> cases Ds c pos i o4 t.1 t.2 false <;> simp only [zBA,zAD,NY,zCQ,or_false,and_false,or_true,true_or,and_true]
  ·exact Or.comm
  ·exact Or.comm
  ·exact ⟨fun h=>h.elim .inr fun h=>h.elim .inr .inl,fun h=>h.elim (fun h=>.inr (.inr h)) .inl⟩
 refine ⟨h.hi,fun x hx=>h.sub x (zGi hx),fun x hx=>?_,fun hb=>?_,fun hb=>?_,fun s hs=>?_⟩
 ·rcases (mem x).1 hx with hx | ⟨rfl,h1 | h1⟩
  ·exact h.o5s x hx
  ·exact ⟨t,rfl,m9 _ h1⟩
  ·exact ⟨t,rfl,m9 _ h1⟩
 ·rcases Bool.or_eq_true_iff.1 hb with hb | hb
  ·exact h.b0s hb
  ·exact nU _ hb
 ·rcases Bool.or_eq_true_iff.1 hb with hb | hb
  ·exact h.b1s hb
  ·exact nU _ hb
 ·by_cases e:s=t
  ·subst e;refine .inr fun inn u h1 h2 h3=>?_
   have ho:Ds c pos i o4 s.1 s.2 inn=true:=(aW hE).2 ⟨u,h1,h2,h3⟩;rw [mem];cases inn
   ·exact ⟨.inr ⟨rfl,.inr ho⟩,by rw [zAD,ho,Bool.or_true]⟩
   ·exact ⟨.inr ⟨rfl,.inl ho⟩,by rw [zBA,ho,Bool.or_true]⟩
  ·rcases h.cov s hs with h3 | h3
   ·exact .inl ((List.mem_erase_of_ne (fun e2=>e (Sj e2))).2 h3)
   ·refine .inr fun inn u h4 h5 h6=>?_
    obtain ⟨h7,h8⟩:=h3 inn u h4 h5 h6;rw [mem];refine ⟨.inl h7,?_⟩;cases inn
    ·rw [zAD] at h8 ⊢;rw [h8];rfl
    ·rw [zBA] at h8 ⊢;rw [h8];rfl
theorem Bk.end' {i m:Nat} {o5:KS} {b0 b1:Bool} (h:Bk c pos i m o5 b0 b1 []):Qk c pos (m+1) o5/\ (b0=true↔Gs c pos i false)/\ (b1=true↔Gs c pos i true):=by
 have ei:c.cells.length-1-i=m:=by have:=h.hi;omega
 have em:c.cells.length-1-m=i:=by have:=h.hi;omega
 refine ⟨fun x=>⟨h.o5s x,?_⟩,⟨h.b0s,?_⟩,⟨h.b1s,?_⟩⟩
 ·rintro ⟨t,rfl,h1⟩;have h1:Ey c pos (c.cells.length-1-m) t/\ ∃ u inn,nx c t.1 t.2 inn=some u/\ kd c pos (c.cells.length-1-m) inn=true/\ IL c pos m u:=h1;rw [em] at h1;obtain ⟨h1,u,inn,h2,h3,h4⟩:=h1;rcases h.cov t h1 with h5 | h5
  ·cases h5
  ·exact (h5 inn u h2 h3 h4).1
 ·rintro ⟨s,t,h1,h2,h3,h4⟩;rw [ei] at h4;rcases h.cov s h1 with h5 | h5
  ·cases h5
  ·exact (h5 false t h2 h3 h4).2
 ·rintro ⟨s,t,h1,h2,h3,h4⟩;rw [ei] at h4;rcases h.cov s h1 with h5 | h5
  ·cases h5
  ·exact (h5 true t h2 h3 h4).2
theorem li {cell ss:Int} (h0:0<=cell) (h1:cell<(pos.length:Int)) (hl:lost.length=pos.length) (hi: ∀ j,Bs (lost.getD j 0)):
 ∃ l',(∀ n,DJ n cell ss c q pos pos.length lost=some l')/\ l'.length=pos.length/\ (∀ j,Bs (l'.getD j 0))/\ ∀ j s,tb (l'.getD j 0) s=(tb (lost.getD j 0) s||(decide (j=cell.toNat)&&(tb (pos.getD j 0) s&&tb ss s))):=by
 obtain ⟨l',e,h2,h3⟩:=Ki (n:=0) (ss:=ss) (c:=c) (q:=q) h0 h1 hl;exact ⟨l',fun _=>e,h2,xp e hi,h3⟩
theorem aU {cell:Int} (h0:0<=cell) (h1:cell<(pos.length:Int)) (hl:lost.length=pos.length) (hi: ∀ j,Bs (lost.getD j 0)):
 ∃ l',(∀ n,GJ n cell c q pos pos.length lost=some l')/\ l'.length=pos.length/\ (∀ j,Bs (l'.getD j 0))/\ ∀ j s,tb (l'.getD j 0) s=(tb (lost.getD j 0) s||(decide (j=cell.toNat)&&(tb (pos.getD j 0) s&&!tb c.set s))):=by
 obtain ⟨l',e,h2,h3⟩:=aT (n:=0) (c:=c) (q:=q) h0 h1 hl;exact ⟨l',fun _=>e,h2,xM e hi,h3⟩
theorem MZ.go {i m:Nat} {o1 l':List Int} (h:MZ c pos lost m o1) (hi:i+m+1=c.cells.length) (hl:l'.length=pos.length) (Bw: ∀ j,Bs (l'.getD j 0))
 (h1: ∀ j s,tb (l'.getD j 0) s=true↔tb (o1.getD j 0) s=true∨((c.cells.getD i 0).toNat=j/\ tb (AL c pos i) s=true/\ G9 c pos i s)):MZ c pos lost (m+1) l':=by
 refine ⟨⟨hl,fun j s=>?_⟩,Bw⟩;rw [h1,h.1.2];constructor
 ·rintro ((h | ⟨a,ha,h2,h3,h4,h5⟩) | h)
  ·exact .inl h
  ·exact .inr ⟨a,ha,h2,h3,by omega,h5⟩
  ·exact .inr ⟨i,by omega,h.1,h.2.1,by omega,h.2.2⟩
 ·rintro (h2 | ⟨a,ha,h2,h3,h4,h5⟩)
  ·exact .inl (.inl h2)
  ·by_cases e:c.cells.length<=a+m
   ·exact .inl (.inr ⟨a,ha,h2,h3,e,h5⟩)
   ·have:a=i:=by omega
    subst this;exact .inr ⟨h2,h3,h5⟩
theorem zEF {i m:Nat} {o1:List Int} {o3:List (Option KS)} {o4:KS} {Ab:Int} (W:Bq c k pos) (R:Ha c) (hx:Ab=(i:Int)) (hR:Rows c pos c.cells.length o3) (hE:Qk c pos m o4) (hL:MZ c pos lost m o1)
 (H: ∀ o1 o5,MZ c pos lost (m+1) o1 -> Qk c pos (m+1) o5 -> AU (fun n=>BG c q pos pos.length lost n (.l4 (Ab-1) o1 o3 o5)) (HZ c pos lost)):
 ∀ (z:Nat) (rem o5:KS) (b0 b1:Bool) (PN:List Int),rem.length=z -> Bk c pos i m o5 b0 b1 rem -> AU (fun n=>BG c q pos pos.length lost n (.l9 i o1 o3 i o4 o5 b0 b1 rem PN)) (HZ c pos lost):=by
 intro z
 induction z with
 | zero=>
  intro rem o5 b0 b1 PN hm hB;have:rem= []:=zE5 hm;subst this;obtain ⟨e5,e0,e1⟩:=hB.end';have hi:i<c.cells.length:=by have:=hB.hi;omega
  have hs:=hR.isSome i (by omega);have Ak:=W.len;have r1:AG ((i:Int)-1):=Ae.2 ⟨by omega,by omega⟩;have hc:=W.cells i hi;have g0:(0:Int)<=(i:Int)/\ (i:Int)<((c.cells.length:Nat):Int):=⟨by omega,by omega⟩;obtain ⟨l1,f1,n1,i1,t1⟩:=li (ss:=c.set) (c:=c) (q:=q) hc.1 hc.2 hL.1.1 hL.2;obtain ⟨l2,f2,n2,i2,t2⟩:=aU (c:=c) (q:=q) hc.1 hc.2 n1 i1;obtain ⟨l3,f3,n3,i3,t3⟩:=aU (c:=c) (q:=q) hc.1 hc.2 hL.1.1 hL.2
  have eq: ∀ n,BG c q pos pos.length lost (n+1) (.l9 i o1 o3 i o4 o5 b0 b1 [] PN)=BG c q pos pos.length lost n (.l4 (i-1) (bif !b1 then (bif !b0 then l2 else l1) else (bif !b0 then l3 else o1)) o3 o5):=fun n=>by
   show RQ n (BG c q pos pos.length lost n) c q pos pos.length lost i o1 o3 i o4 o5 b0 b1 [] PN=_
   unfold RQ;rw [zAE hs,ko];simp only [zAB];cases b1 <;> cases b0 <;> simp only [zCN,zCJ,zBA,zAD,zAE g0,f1,f2,f3,zA9,zAE r1]
  refine AU.step 1 eq ?_
  have key: ∀ l':List Int,l'.length=pos.length -> (∀ j,Bs (l'.getD j 0)) -> (∀ j s,tb (l'.getD j 0) s=(tb (o1.getD j 0) s||(decide (j=(c.cells.getD i 0).toNat)&&(tb (pos.getD j 0) s&&((!b1&&tb c.set s)||(!b0&&!tb c.set s)))))) -> MZ c pos lost (m+1) l':=by
   intro l' h1 h2 h3;refine hL.go hB.hi h1 h2 fun j s=>?_
   rw [h3,zBg,zBE,zBE,zBV,zBg,zBE,zBE,zBh,zBh,zBh];unfold G9;rw [←e0,←e1,zFL,zFL];constructor
   ·rintro (h | ⟨rfl,h⟩)
    ·exact .inl h
    ·exact .inr ⟨rfl,h⟩
   ·rintro (h | ⟨rfl,h⟩)
    ·exact .inl h
    ·exact .inr ⟨rfl,h⟩
  subst hx;cases b1 <;> cases b0 <;> simp only [zCN,zCJ,zBA,zAD]
  ·exact H l2 o5 (key l2 n2 i2 fun j s=>by
    rw [t2,t1];cases tb (o1.getD j 0) s <;> cases decide (j=(c.cells.getD i 0).toNat) <;> cases tb (pos.getD j 0) s <;> cases tb c.set s <;> rfl) e5
  ·exact H l1 o5 (key l1 n1 i1 fun j s=>by
    rw [t1];cases tb (o1.getD j 0) s <;> cases decide (j=(c.cells.getD i 0).toNat) <;> cases tb (pos.getD j 0) s <;> cases tb c.set s <;> rfl) e5
  ·exact H l3 o5 (key l3 n3 i3 fun j s=>by
    rw [t3];cases tb (o1.getD j 0) s <;> cases decide (j=(c.cells.getD i 0).toNat) <;> cases tb (pos.getD j 0) s <;> cases tb c.set s <;> rfl) e5
  ·exact H o1 o5 (key o1 hL.1.1 hL.2 fun j s=>by
    cases tb (o1.getD j 0) s <;> cases decide (j=(c.cells.getD i 0).toNat) <;> cases tb (pos.getD j 0) s <;> cases tb c.set s <;> rfl) e5
 | succ z ih=>
  intro rem o5 b0 b1 PN hm hB;have hi:i<c.cells.length:=by have:=hB.hi;omega
  have hs:=hR.isSome i (by omega);have AY:rem≠[]:=by intro e;rw [e] at hm;cases hm
  refine AU.step 1 (g:=fun n=>Hv rem none (fun y1=>BG c q pos pos.length lost n (.l7 i 0 o1 o3 i o4 o5 b0 b1 (y1.getD 0 0) (y1.getD 1 0) (rem.erase y1) y1))) (fun n=>?_) (AU.next AY (fun y hy=>?_) HZ.uniq)
  ·show RQ n (BG c q pos pos.length lost n) c q pos pos.length lost i o1 o3 i o4 o5 b0 b1 rem PN=_
   unfold RQ;rw [zAE hs];simp only [zAE hs];cases rem with
   | nil=>exact absurd rfl AY
   | cons x r=>rfl
  ·obtain ⟨t,rfl,ht⟩:=hB.sub y hy;have hS:=ht.ok;refine AU.step 3 (fun n=>?_) (ih _ _ _ _ [t.1,t.2] (by rw [zGT hy];omega) (hB.go hE hy))
   show BG c q pos pos.length lost (n+2+1) (.l7 i 0 o1 o3 i o4 o5 b0 b1 t.1 t.2 (rem.erase [t.1,t.2]) [t.1,t.2])=_
   rw [yO W R hi hS,yN W R hi hS,yM]
theorem yP {n ln oi:Nat} {Ab:Int} {o1:List Int} {o3:List (Option KS)} {o4 o7:KS}:BG c q pos ln lost n (.l6 Ab o1 o3 oi o4 o7)=BG c q pos ln lost n (.l9 Ab o1 o3 oi o4 [] false false o7 []):=by cases n <;> rfl
theorem yU {n ln oi:Nat} {x8 As:Int} {o1:List Int} {o3:List (Option KS)} {o4:KS}:BG c q pos ln lost n (.l3 x8 As o1 o3 oi o4)=BG c q pos ln lost n (.l8 x8 As o1 o3 oi o4 []):=by cases n <;> rfl
theorem pZ (W:Bq c k pos) (R:Ha c) {o3:List (Option KS)} (hR:Rows c pos c.cells.length o3):
 ∀ (i m:Nat) (Ab:Int) (o1:List Int) (o4:KS),i+m=c.cells.length -> Ab=(i:Int)-1 -> MZ c pos lost m o1 -> Qk c pos m o4 -> AU (fun n=>BG c q pos pos.length lost n (.l4 Ab o1 o3 o4)) (HZ c pos lost):=by
 intro i
 induction i with
 | zero=>
  intro m Ab o1 o4 hm hx hL hE;refine Ev.p (r:=(true,o1)) ⟨1,fun n hn=>?_⟩ ⟨rfl,⟨hL.1.1,fun j s=>?_⟩,hL.2⟩
  ·obtain ⟨n,rfl⟩: ∃ n',n=n'+1:=⟨n-1,by omega⟩
   show RS n (BG c q pos pos.length lost n) c q pos pos.length lost Ab o1 o3 o4=_
   unfold RS;rw [zAA (by omega),zAD]
  ·rw [hL.1.2];constructor
   ·rintro (h | ⟨a,h1,h2,h3,_,h4⟩)
    ·exact .inl h
    ·exact .inr ⟨a,h1,h2,h3,h4⟩
   ·rintro (h | ⟨a,h1,h2,h3,h4⟩)
    ·exact .inl h
    ·exact .inr ⟨a,h1,h2,h3,by omega,h4⟩
 | succ i ih=>
  intro m Ab o1 o4 hm hx hL hE;have hx:Ab=(i:Int):=by omega
  subst hx;have hs:=hR.isSome i (by omega);have Ak:=hR.len;have t1:((((c.cells.length:Nat):Int)+1).toNat:Nat)=c.cells.length+1:=by omega
  have t2:0+((i:Int).toNat:Nat)=i:=by omega
  refine AU.step 1 (g:=fun n=>BG c q pos pos.length lost n (.l9 i o1 o3 i o4 [] false false (Fs o3 i) [])) (fun n=>?_) (zEF W R rfl hR hE hL (fun o1 o5 h1 h2=>ih (m+1) ((i:Int)-1) o1 o5 (by omega) rfl h1 h2) _ (Fs o3 i) [] false false [] rfl ⟨by omega,fun x hx=>(hR.row i (by omega) x).1 hx,fun x hx=>(by cases hx),fun h=>(by cases h),fun h=>(by cases h),fun t ht=>.inl ((hR.row i (by omega) _).2 ⟨t,rfl,ht⟩)⟩)
  show RS n (BG c q pos pos.length lost n) c q pos pos.length lost (i:Int) o1 o3 o4=_
  unfold RS;simp only [t1,t2];rw [zBC (by omega),zBA,zAE hs,zAE ⟨⟨by omega,by omega⟩,by omega,hs⟩];exact yP
theorem zCa (W:Bq c k pos) (R:Ha c) (hl:lost.length=pos.length) (Bw: ∀ j,Bs (lost.getD j 0)):
 ∀ (m i:Nat) (As:Int) (o3:List (Option KS)),i+m=c.cells.length -> As=(i:Int) -> Rows c pos i o3 -> AU (fun n=>BG c q pos pos.length lost n (.l2 As lost o3)) (HZ c pos lost):=by
 intro m
 induction m with
 | zero=>
  intro i As o3 hm hx hR;have hm:i=c.cells.length:=by omega
  subst hm hx;have Ak:=W.len;have hr:=R.1;have r1:AG ((c.cells.length:Int)-1):=Ae.2 ⟨by omega,by omega⟩;have r2:AG ((c.runs.length:Int)-1):=Ae.2 ⟨by omega,by omega⟩;have hL:MZ c pos lost 0 lost:=⟨⟨hl,fun j s=>⟨.inl,fun h=>h.elim id fun ⟨a,h1,_,_,h2,_⟩=>absurd h2 (by omega)⟩⟩,Bw⟩
  by_cases h0:0<c.runs.length
  ·have t1:(((c.runs.length:Nat):Int)-1).toNat=c.runs.length-1:=by omega
   refine AU.step 1 (g:=fun n=>BG c q pos pos.length lost n (.l4 ((c.cells.length:Int)-1) lost o3 (CL [((c.runs.length:Int)-1),c.runs.getD (c.runs.length-1) 0] (CL [(c.runs.length:Int),0] ([]:KS))))) (fun n=>?_) (pZ W R hR c.cells.length 0 _ _ _ (by omega) rfl hL fun x=>?_)
   ·show Mu n (BG c q pos pos.length lost n) c q pos pos.length lost (c.cells.length:Int) lost o3=_
    unfold Mu;rw [zAA (by omega),zAD,zBC (by omega),zBA,zAE ⟨r2,⟨by omega,by omega⟩,r1⟩,t1]
   ·rw [NY,NY];constructor
    ·rintro (rfl | rfl | h)
     ·exact ⟨((c.runs.length:Int)-1,c.runs.getD (c.runs.length-1) 0),rfl,.inr ⟨h0,rfl⟩⟩
     ·exact ⟨((c.runs.length:Int),0),rfl,.inl rfl⟩
     ·cases h
    ·rintro ⟨t,rfl,rfl | ⟨_,rfl⟩⟩
     ·exact .inr (.inl rfl)
     ·exact .inl rfl
  ·have h0':c.runs.length=0:=by omega
   refine AU.step 1 (g:=fun n=>BG c q pos pos.length lost n (.l4 ((c.cells.length:Int)-1) lost o3 (CL [(c.runs.length:Int),0] ([]:KS)))) (fun n=>?_) (pZ W R hR c.cells.length 0 _ _ _ (by omega) rfl hL fun x=>?_)
   ·show Mu n (BG c q pos pos.length lost n) c q pos pos.length lost (c.cells.length:Int) lost o3=_
    unfold Mu;rw [zAA (by omega),zAD,zAA (by omega),zAD,zAE r1]
   ·rw [NY];constructor
    ·rintro (rfl | h)
     ·exact ⟨((c.runs.length:Int),0),rfl,.inl rfl⟩
     ·cases h
    ·rintro ⟨t,rfl,rfl | ⟨h,rfl⟩⟩
     ·exact .inl rfl
     ·exact absurd h h0
 | succ m ih=>
  intro i As o3 hm hx hR;subst hx;have hi:i<c.cells.length:=by omega
  have hs:=hR.isSome i (by omega);have Ak:=hR.len;have t1:((((c.cells.length:Nat):Int)+1).toNat:Nat)=c.cells.length+1:=by omega
  have t2:0+((i:Int).toNat:Nat)=i:=by omega
  refine AU.step 1 (g:=fun n=>BG c q pos pos.length lost n (.l8 i i lost o3 i (Fs o3 i) [])) (fun n=>?_) (xh W R rfl (fun o3 h=>ih (i+1) _ o3 (by omega) (by omega) h) _ _ _ _ rfl (hR.mid hi))
  show Mu n (BG c q pos pos.length lost n) c q pos pos.length lost (i:Int) lost o3=_
  unfold Mu;simp only [t1,t2];rw [zBC (by omega),zBA,zAE hs,zAE ⟨⟨by omega,by omega⟩,by omega,hs⟩];exact yU
theorem zCv (W:Bq c k pos) (R:Ha c) (hl:lost.length=pos.length) (Bw: ∀ j,Bs (lost.getD j 0)):
 ∀ (m j:Nat) (Cz:Int) (o3:List (Option KS)),j+m=c.cells.length+1 -> Cz=(j:Int) -> o3.length=c.cells.length+1 -> (∀ i,i<j -> o3.getD i none=some []) -> AU (fun n=>BG c q pos pos.length lost n (.l1 Cz o3)) (HZ c pos lost):=by
 intro m
 induction m with
 | zero=>
  intro j Cz o3 hm hx Ak ho;subst hx;have t1:((((c.cells.length:Nat):Int)+1).toNat:Nat)=c.cells.length+1:=by omega
  have hs:(o3.getD 0 none).isSome=true:=by rw [ho 0 (by omega)];rfl
  have e0:(o3.getD 0 none).getD []= []:=by rw [ho 0 (by omega)];rfl
  have hg: ∀ i,i≠0 -> (o3.set 0 (some (CL [0,0] ([]:KS)))).getD i none=o3.getD i none:=fun i hi=>dN (fun e=>hi e.symm)
  have nL:(o3.set 0 (some (CL [0,0] ([]:KS)))).getD 0 none=some (CL [0,0] []):=Xc (by omega);refine AU.step 1 (g:=fun n=>BG c q pos pos.length lost n (.l2 0 lost (o3.set 0 (some (CL [0,0] ([]:KS)))))) (fun n=>?_) (zCa W R hl Bw c.cells.length 0 0 _ (by omega) rfl ⟨by rw [zBo];exact Ak,fun i hi=>?_,fun i hi x=>?_,fun i hi CK=>?_⟩)
  ·show RT n (BG c q pos pos.length lost n) c q pos pos.length lost (j:Int) o3=_
   unfold RT;simp only [t1,zBj];rw [zAA (by omega),zAD,zAE ⟨⟨by omega,by omega⟩,by omega,hs⟩,e0]
  ·by_cases e:i=0
   ·subst e;rw [nL];rfl
   ·rw [hg i e,ho i (by omega)];rfl
  ·obtain rfl:i=0:=by omega
   show x∈((o3.set 0 (some (CL [0,0] ([]:KS)))).getD 0 none).getD []↔_
   rw [nL]
   show x∈CL [0,0] []↔_
   rw [NY];constructor
   ·rintro (rfl | h)
    ·exact ⟨(0,0),rfl,rfl⟩
    ·cases h
   ·rintro ⟨t,rfl,h⟩;have h:t=(0,0):=h;subst h;exact .inl rfl
  ·show ((o3.set 0 (some (CL [0,0] ([]:KS)))).getD i none).getD []= []
   rw [hg i (by omega),ho i (by omega)];rfl
 | succ m ih=>
  intro j Cz o3 hm hx Ak ho;subst hx;have zBR:=W.len;have t1:((((c.cells.length:Nat):Int)+1).toNat:Nat)=c.cells.length+1:=by omega
  have t2:0+((j:Int).toNat:Nat)=j:=by omega
  refine AU.step 1 (g:=fun n=>BG c q pos pos.length lost n (.l1 ((j:Int)+1) (o3.set j (some ([]:KS))))) (fun n=>?_) (ih (j+1) _ _ (by omega) (by omega) (by rw [zBo];exact Ak) fun i hi=>?_)
  ·show RT n (BG c q pos pos.length lost n) c q pos pos.length lost (j:Int) o3=_
   unfold RT;simp only [t1,t2];rw [zBC (by omega),zBA,zAE ⟨⟨by omega,by omega⟩,by omega,Ae.2 ⟨by omega,by omega⟩⟩]
  ·by_cases e:i=j
   ·subst e;exact Xc (by omega)
   ·rw [dN (fun h=>e h.symm)];exact ho i (by omega)
def JR (c:AC):Bool:=(c.cells.length != 0)||(c.runs.length==0)
theorem tW (W:Bq c k pos) (R:Ha c) (hl:lost.length=pos.length) (Bw: ∀ j,Bs (lost.getD j 0)):
 ∃ l,Ev (fun n=>Ov n c q pos pos.length lost) (JR c,l)/\ (JR c=true -> B2 c pos lost c.cells.length (G9 c pos) l):=by
 by_cases h0:c.cells.length=0
 ·have e1:JR c=((c.runs.length:Int)==0):=by
   unfold JR;rw [h0];cases h:c.runs.length with
   | zero=>rfl
   | succ m=>rfl
  refine ⟨lost,Ev.now fun n=>?_,fun _=>by rw [h0];exact B2.zero hl⟩;unfold Ov ZS;rw [h0,e1];rfl
 ·have e1:JR c=true:=by
   unfold JR;cases h:c.cells.length with
   | zero=>exact absurd h h0
   | succ m=>rfl
  have Ak:=W.len;have t1:((((c.cells.length:Nat):Int)+1).toNat:Nat)=c.cells.length+1:=by omega
  obtain ⟨r,h1,h2⟩:=(zCv (q:=q) W R hl Bw (c.cells.length+1) 0 0 (List.replicate (c.cells.length+1) none) (by omega) rfl (by simp) (fun i hi=>absurd hi (zBW i))).ev HZ.uniq;obtain ⟨b,l⟩:=r;obtain ⟨h3,h4,h5⟩:=h1;have h3:b=true:=h3;subst h3;refine ⟨l,?_,fun _=>h4⟩;rw [e1];refine h2.eq fun n=>?_
  unfold Ov ZS;rw [t1]
  have e2:(((c.cells.length:Nat):Int)==0)=false:=by
   rw [zB4];omega
  rw [e2,zAD,zAE ⟨Ae.2 ⟨by omega,by omega⟩,rfl,by omega,by omega⟩]
end
end Go.Proofs.YtekkngkphejfcaaGreatDoor
namespace Go.Proofs.YtekkngkphejfcaaGreatDoor
abbrev zFR:=@List.take_succ_eq_append_getElem
abbrev zGl:=@List.length_filter_le
end Go.Proofs.YtekkngkphejfcaaGreatDoor
namespace Go.Proofs.YtekkngkphejfcaaGreatDoor
open Go.RowKit
section
variable {c:AC} {k:Nat} {pos lost:List Int} {q:AA}
structure ED (c:AC) (q:AA) (pos:List Int):Prop where
 len:c.cells.length=pos.length
 id: ∀ j,j<pos.length -> c.cells.getD j 0=(j:Int)
 g:J5 q.nbrs
 gl:q.nbrs.length=pos.length
 l0:0<pos.length
 l1:pos.length<=256
 nz: ∀ j,j<pos.length -> Bs (pos.getD j 0)/\ pos.getD j 0≠0
def pB (c:AC) (pos:List Int):List Bool:=pos.map fun x=>bits .and .i64 x c.set != 0
def cB (c:AC) (pos:List Int):List Bool:=pos.map fun x=>bits .andNot .i64 x c.set==0
theorem DQ:(pB c pos).length=pos.length:=zE4 _
theorem Cx:(cB c pos).length=pos.length:=zE4 _
theorem PJ {j:Nat} (hj:j<pos.length):(pB c pos).getD j false=(bits .and .i64 (pos.getD j 0) c.set != 0):=by
 unfold pB;rw [u8,zBn,zBD hj,u8,zBD hj];rfl
theorem QZ {j:Nat} (hj:j<pos.length):(cB c pos).getD j false=(bits .andNot .i64 (pos.getD j 0) c.set==0):=by
 unfold cB;rw [u8,zBn,zBD hj,u8,zBD hj];rfl
theorem ED.cp (W:ED c q pos) {j:Nat} (hj:j<pos.length) (h:(cB c pos).getD j false=true):(pB c pos).getD j false=true:=by
 rw [QZ hj,zBf] at h;rw [PJ hj,zFX];obtain ⟨h1,h2⟩:=W.nz j hj;obtain ⟨s,hs,hb⟩:=(Eg h1).1 h2;have h3:=(KA (Cy .andNot _ _)).1 h s hs;rw [GA,hb,zCE,Bool.not_eq_false'] at h3;exact (Eg (Cy .and _ _)).2 ⟨s,hs,by rw [EJ,hb,h3];rfl⟩
def CO (pos lost:List Int) (D:Nat -> Nat -> Prop) (l:List Int):Prop:=
 (l.length=pos.length/\ ∀ j,Bs (l.getD j 0))/\ ∀ j s,tb (l.getD j 0) s=true↔tb (lost.getD j 0) s=true∨(j<pos.length/\ tb (pos.getD j 0) s=true/\ D j s)
theorem CO.unique {D:Nat -> Nat -> Prop} {l l':List Int} (h:CO pos lost D l) (h':CO pos lost D l'):l=l':=by
 have e:l.length=l'.length:=h.1.1.trans h'.1.1.symm;refine zF4 e fun j h1 h2=>?_
 have e1:l.getD j 0=l[j]:=by simp [h1]
 have e2:l'.getD j 0=l'[j]:=by simp [h2]
 rw [←e1,←e2];refine Hi (h.1.2 j) (h'.1.2 j) fun s _=>?_
 rw [zCM,h.2,h'.2]
theorem CO.by {D:Nat -> Nat -> Prop} {l:List Int} (W:ED c q pos) (h:CO pos lost D l):B2 c pos lost c.cells.length D l:=by
 refine ⟨h.1.1,fun j s=>?_⟩;have hl:=W.len;rw [h.2];constructor
 ·rintro (h1 | ⟨h1,h2,h3⟩)
  ·exact .inl h1
  ·have e:=W.id j h1;exact .inr ⟨j,by omega,by rw [e];omega,by show tb (pos.getD (c.cells.getD j 0).toNat 0) s=true;rw [e,zAB];exact h2,h3⟩
 ·rintro (h1 | ⟨a,h1,h2,h3,h4⟩)
  ·exact .inl h1
  ·have e:=W.id a (by omega);have h3:tb (pos.getD (c.cells.getD a 0).toNat 0) s=true:=h3;rw [e,zAB] at h2 h3;subst h2;exact .inr ⟨by omega,h3,h4⟩
theorem CO.step {D D':Nat -> Nat -> Prop} {l l':List Int} (h:CO pos lost D l) (hl:l'.length=pos.length) (Bw: ∀ j,Bs (l'.getD j 0)) {E:Nat -> Nat -> Prop} (h1: ∀ j s,tb (l'.getD j 0) s=true↔tb (l.getD j 0) s=true∨(j<pos.length/\ tb (pos.getD j 0) s=true/\ E j s))
 (hD: ∀ j s,j<pos.length -> tb (pos.getD j 0) s=true -> (D' j s↔D j s∨E j s)):CO pos lost D' l':=by
 refine ⟨⟨hl,Bw⟩,fun j s=>?_⟩;rw [h1,h.2];constructor
 ·rintro ((h2 | ⟨h2,h3,h4⟩) | ⟨h2,h3,h4⟩)
  ·exact .inl h2
  ·exact .inr ⟨h2,h3,(hD j s h2 h3).2 (.inl h4)⟩
  ·exact .inr ⟨h2,h3,(hD j s h2 h3).2 (.inr h4)⟩
 ·rintro (h2 | ⟨h2,h3,h4⟩)
  ·exact .inl (.inl h2)
  ·rcases (hD j s h2 h3).1 h4 with h5 | h5
   ·exact .inl (.inr ⟨h2,h3,h5⟩)
   ·exact .inr ⟨h2,h3,h5⟩
theorem CO.id' {D D':Nat -> Nat -> Prop} {l:List Int} (h:CO pos lost D l) (hD: ∀ j s,j<pos.length -> tb (pos.getD j 0) s=true -> (D' j s↔D j s)):CO pos lost D' l:=
 h.step (E:=fun _ _=>False) h.1.1 h.1.2 (fun j s=>by simp) fun j s h1 h2=>by rw [hD j s h1 h2,or_false]
theorem CO.lose {D D':Nat -> Nat -> Prop} {l:List Int} (h:CO pos lost D l) {cell ss:Int} (h0:0<=cell) (h1:cell<(pos.length:Int)) (hD: ∀ j s,j<pos.length -> tb (pos.getD j 0) s=true -> (D' j s↔D j s∨((j:Int)=cell/\ tb ss s=true))):
 ∃ l',(∀ n,DJ n cell ss c q pos pos.length l=some l')/\ CO pos lost D' l':=by
 obtain ⟨l',e,h2,h3,h4⟩:=li (ss:=ss) (c:=c) (q:=q) h0 h1 h.1.1 h.1.2;refine ⟨l',e,h.step h2 h3 (E:=fun j s=>(j:Int)=cell/\ tb ss s=true) (fun j s=>?_) hD⟩;rw [h4,zBg,zBE,zBE,zBV];constructor
 ·rintro (h5 | ⟨rfl,h5,h6⟩)
  ·exact .inl h5
  ·exact .inr ⟨by omega,h5,by omega,h6⟩
 ·rintro (h5 | ⟨h5,h6,h7,h8⟩)
  ·exact .inl h5
  ·exact .inr ⟨by omega,h6,h8⟩
theorem CO.only {D D':Nat -> Nat -> Prop} {l:List Int} (h:CO pos lost D l) {cell:Int} (h0:0<=cell) (h1:cell<(pos.length:Int)) (hD: ∀ j s,j<pos.length -> tb (pos.getD j 0) s=true -> (D' j s↔D j s∨((j:Int)=cell/\ tb c.set s=false))):
 ∃ l',(∀ n,GJ n cell c q pos pos.length l=some l')/\ CO pos lost D' l':=by
 obtain ⟨l',e,h2,h3,h4⟩:=aU (c:=c) (q:=q) h0 h1 h.1.1 h.1.2;refine ⟨l',e,h.step h2 h3 (E:=fun j s=>(j:Int)=cell/\ tb c.set s=false) (fun j s=>?_) hD⟩;rw [h4,zBg,zBE,zBE,zBV,zBh];constructor
 ·rintro (h5 | ⟨rfl,h5,h6⟩)
  ·exact .inl h5
  ·exact .inr ⟨by omega,h5,by omega,h6⟩
 ·rintro (h5 | ⟨h5,h6,h7,h8⟩)
  ·exact .inl h5
  ·exact .inr ⟨by omega,h6,h8⟩
def E0 (l:List Bool) (r:Int):Prop:=(r= -1/\ ∀ j,j<l.length -> l.getD j false=false)∨(0<=r/\ r<(l.length:Int)/\ l.getD r.toNat false=true/\ ∀ j:Nat,(j:Int)<r -> l.getD j false=false)
theorem Wz {l:List Bool} (hl:l.length<=256): ∃ r,Ev (fun n=>W4 n l true) r/\ E0 l r:=by
 have key: ∀ (k i:Nat),i+k=l.length -> (∀ j,j<i -> l.getD j false=false) -> ∃ r,Ev (fun n=>Kn l true n (.l1 (i:Int))) r/\ E0 l r:=by
  intro k
  induction k with
  | zero=>
   intro i e h;refine ⟨-1,⟨1,fun n hn=>?_⟩,.inl ⟨rfl,fun j hj=>h j (by omega)⟩⟩;obtain ⟨n,rfl⟩: ∃ k,n=k+1:=⟨n-1,by omega⟩
   show TC n (Kn l true n) l true (i:Int)=_
   unfold TC;rw [zAA (by omega),zAD]
  | succ k ih=>
   intro i e h
   have U: ∀ n,Kn l true (n+1) (.l1 (i:Int))=bif l.getD i false then some (i:Int) else Kn l true n (.l1 ((i:Int)+1)):=fun n=>by
    show TC n (Kn l true n) l true (i:Int)=_
    unfold TC;rw [zBC (by omega),zBA,zAE ⟨by omega,by omega⟩,zAB,zAE (Ae.2 ⟨by omega,by omega⟩)];cases l.getD i false <;> rfl
   cases hi:l.getD i false
   ·obtain ⟨r,h1,h2⟩:=ih (i+1) (by omega) fun j hj=>by
     rcases zBH.1 hj with hj | rfl
     ·exact h j hj
     ·exact hi
    refine ⟨r,Ev.step 1 (fun n=>?_) h1,h2⟩;rw [U,hi,zAD];rfl
   ·refine ⟨(i:Int),⟨1,fun n hn=>?_⟩,.inr ⟨by omega,by omega,by rw [zAB];exact hi,fun j hj=>h j (by omega)⟩⟩;obtain ⟨n,rfl⟩: ∃ k,n=k+1:=⟨n-1,by omega⟩
    show Kn l true (n+1) (.l1 (i:Int))=_
    rw [U,hi,zBA]
 exact key l.length 0 (by omega) fun j hj=>absurd hj (zBW j)
theorem Xx {l l':List Bool} (h:l.length=l'.length) (h2: ∀ j,j<l.length -> l.getD j false=l'.getD j false):l=l':=by
 refine zF4 h fun j h3 h4=>?_
 have:=h2 j h3
 rwa [u8,zBD h3,u8,zBD h4] at this
theorem K0 {l:List Bool} {i j:Nat} {b:Bool} (hi:i<l.length):(l.set i b).getD j false=if j=i then b else l.getD j false:=by
 by_cases e:j=i
 ·subst e;rw [zAE rfl,u8,zFN hi];rfl
 ·rw [zBP e,u8,zFJ (fun h=>e h.symm),←u8]
def Dj (c:AC) (q:AA) (pos:List Int) (a s:Nat):Prop:=(pB c pos).getD a false=true/\ tb c.set s=true/\ ∃ r:Int,0<=r/\ E0 (cB c pos) r/\ ¬ Rc q.nbrs (pB c pos) r a
theorem E0.uniq {l:List Bool} {r r':Int} (h:E0 l r) (h':E0 l r'):r=r':=by
 rcases h with ⟨rfl,h⟩ | ⟨h0,h1,h2,h3⟩ <;> rcases h' with ⟨rfl,h'⟩ | ⟨h0',XY,L6,dI⟩
 ·rfl
 ·rw [h r'.toNat (by omega)] at L6;cases L6
 ·rw [h' r.toNat (by omega)] at h2;cases h2
 ·rcases Int.lt_trichotomy r r' with h4 | h4 | h4
  ·rw [dI r.toNat (by omega)] at h2;cases h2
  ·exact h4
  ·rw [h3 r'.toNat (by omega)] at L6;cases L6
theorem Ym (G:J5 q.nbrs) (hB:(pB c pos).length=q.nbrs.length) {r:Int} (C6:0<=r) (hF:E0 (cB c pos) r) {j s:Nat}:Dj c q pos j s↔(pB c pos).getD j false=true/\ tb c.set s=true/\ ¬ Rc q.nbrs (pB c pos) r j:=by
 constructor
 ·rintro ⟨h1,h2,r',_,Ku,h3⟩;rw [hF.uniq Ku];exact ⟨h1,h2,h3⟩
 ·rintro ⟨h1,h2,h3⟩;exact ⟨h1,h2,r,C6,hF,h3⟩
def Qi (c:AC) (q:AA) (pos lost:List Int) (r:Int) (x:List Bool×List Bool×Bool×List Int):Prop:=x.1=pB c pos/\ x.2.1=cB c pos/\ x.2.2.1=decide (0<=r)/\ CO pos lost (Dj c q pos) x.2.2.2
theorem Qi.uniq {r:Int} (x y:List Bool×List Bool×Bool×List Int) (h:Qi c q pos lost r x) (h':Qi c q pos lost r y):x=y:=by
 obtain ⟨x1,x2,x3,x4⟩:=x;obtain ⟨y1,y2,y3,y4⟩:=y;obtain ⟨h1,h2,h3,h4⟩:=h;obtain ⟨XY,L6,dI,h4'⟩:=h';have e4:x4=y4:=h4.unique h4';have e1:x1=y1:=Eq.trans h1 XY.symm;have e2:x2=y2:=Eq.trans h2 L6.symm;have e3:x3=y3:=Eq.trans h3 dI.symm;rw [e1,e2,e3,e4]
theorem xX {n:Nat} (W:ED c q pos) (hL:CO pos lost (fun _ _=>False) lost) {r:Int} (C6:0<=r) (hF:E0 (cB c pos) r) {near:List Int} (hn:near.length<=256) (TP: ∀ v,v∈near↔Rc q.nbrs (pB c pos) r v) (Ly:600<=n):
 ∃ x,El c q pos pos.length lost n (.l2 (pB c pos) (pB c pos).length near (near.length:Int) 0 (cB c pos) (pB c pos))=some x/\ Qi c q pos lost r x:=by
 have F1:=W.l1;have Cv:=W.gl
 have Pq:r<(q.nbrs.length:Int):=by
  rcases hF with ⟨h,_⟩ | ⟨_,h,_⟩
  ·omega
  ·rw [Cx] at h;omega
 have XD: ∀ v∈near,0<=v/\ v<(pos.length:Int):=fun v hv=>by
  have:=((TP v).1 hv).rng W.g.gr C6 Pq;omega
 have S:=HG (fun n (Gm:List Bool) i=>El c q pos pos.length lost n (.l2 (pB c pos) (pB c pos).length near (near.length:Int) i (cB c pos) Gm)) near.length (pos.length+3)
  (fun i Gm=>Gm.length=pos.length/\ ∀ j:Nat,Gm.getD j false=true↔(pB c pos).getD j false=true/\ (j:Int)∉near.take i) (fun n i Gm Fk hi hI=>?_) (n:=n) (s:=pB c pos) (by omega) ⟨DQ,fun j=>by simp⟩
 ·obtain ⟨n1,Gm,H7,_,e1,cd,nP⟩:=S;obtain ⟨n2,rfl⟩: ∃ n2,n1=n2+1:=⟨n1-1,by omega⟩;rw [List.take_length] at nP
  have T:=HG (fun n (o1:List Int) i=>El c q pos pos.length lost n (.l3 (pB c pos) (pB c pos).length ((pB c pos).length:Int) i o1 (cB c pos) Gm)) pos.length 1
   (fun i o1=>CO pos lost (fun j s=>j<i/\ Dj c q pos j s) o1) (fun n i o1 Fk hi hI=>?_) (n:=n2) (s:=lost) (by omega) (hL.id' fun j s _ _=>⟨fun h=>absurd h.1 (zBW j),fun h=>h.elim⟩)
  ·obtain ⟨n3,o1,TR,_,e2,Fm⟩:=T;obtain ⟨n4,rfl⟩: ∃ n4,n3=n4+1:=⟨n3-1,by omega⟩;refine ⟨(pB c pos,cB c pos,true,o1),?_,rfl,rfl,(zBC C6).symm,Fm.id' fun j s hj _=>⟨fun h=>⟨hj,h⟩,fun h=>h.2⟩⟩;refine Eq.trans e1 ?_
   show Sv n2 (El c q pos pos.length lost n2) c q pos pos.length lost (pB c pos) (pB c pos).length near (near.length:Int) (near.length:Int) (cB c pos) Gm=_
   unfold Sv;rw [zAA (by omega),zAD];refine Eq.trans e2 ?_
   show Su n4 (El c q pos pos.length lost n4) c q pos pos.length lost (pB c pos) (pB c pos).length ((pB c pos).length:Int) (pos.length:Int) o1 (cB c pos) Gm=_
   unfold Su;rw [DQ,zAA (by omega),zAD,zAE Cx.symm]
  ·show ∃ s',Su n (El c q pos pos.length lost n) c q pos pos.length lost (pB c pos) (pB c pos).length ((pB c pos).length:Int) (i:Int) o1 (cB c pos) Gm=_/\ _
   unfold Su;simp only [zAB,zBj];have r1:AG ((i:Int)+1):=Ae.2 ⟨by omega,by omega⟩;rw [DQ,zBC (by omega),zBA,zAE ⟨⟨by omega,by omega⟩,by omega⟩];have nN:Gm.getD i false=true↔(pB c pos).getD i false=true/\ ¬ Rc q.nbrs (pB c pos) r i:=by rw [nP,TP]
   cases hf:Gm.getD i false
   ·rw [zAD,zAE r1];refine ⟨o1,rfl,hI.id' fun j s hj _=>⟨fun h=>⟨?_,h.2⟩,fun h=>⟨by omega,h.2⟩⟩⟩;rcases zBH.1 h.1 with h1 | rfl
    ·exact h1
    ·have h2:=(Ym W.g (by rw [DQ];exact Cv.symm) C6 hF).1 h.2;have:=nN.2 ⟨h2.1,h2.2.2⟩;rw [hf] at this;cases this
   ·obtain ⟨l',e,h2⟩:=hI.lose (c:=c) (q:=q) (D':=fun j s=>j<i+1/\ Dj c q pos j s) (cell:=(i:Int)) (ss:=c.set) (by omega) (by omega) fun j s hj _=>by
     constructor
     ·rintro ⟨h1,h2⟩;rcases zBH.1 h1 with h1 | rfl
      ·exact .inl ⟨h1,h2⟩
      ·exact .inr ⟨rfl,h2.2.1⟩
     ·rintro (⟨h1,h2⟩ | ⟨h1,h2⟩)
      ·exact ⟨by omega,h2⟩
      ·obtain rfl:j=i:=by omega
       have h3:=nN.1 hf;exact ⟨by omega,(Ym W.g (by rw [DQ];exact Cv.symm) C6 hF).2 ⟨h3.1,h2,h3.2⟩⟩
    rw [zBA,e,zA9,zAE r1];exact ⟨l',rfl,h2⟩
 ·obtain ⟨hl,hf⟩:=hI;have hx:near.getD i 0∈near:=by rw [u8,zBD hi];exact zB0 hi
  have GQ:=XD _ hx
  show ∃ s',Sv n (El c q pos pos.length lost n) c q pos pos.length lost (pB c pos) (pB c pos).length near (near.length:Int) (i:Int) (cB c pos) Gm=_/\ _
  unfold Sv;simp only [zAB,zBj];rw [DQ,zBC (by omega),zBA,zAE ⟨⟨by omega,by omega⟩,GQ,by omega,Ae.2 ⟨by omega,by omega⟩⟩];refine ⟨_,rfl,by rw [zBo];exact hl,fun j=>?_⟩
  have e3:near.take (i+1)=near.take i++[near.getD i 0]:=by
   rw [zFR hi,u8,zBD hi];rfl
  rw [K0 (by omega),e3,zB5,zBm]
  by_cases e:j=(near.getD i 0).toNat
  ·rw [zAE e];exact ⟨fun h=>(by cases h),fun h=>absurd (Or.inr (by omega)) h.2⟩
  ·rw [zBP e,hf];exact ⟨fun h=>⟨h.1,fun h2=>h2.elim h.2 fun h3=>e (by omega)⟩,fun h=>⟨h.1,fun h2=>h.2 (.inl h2)⟩⟩
theorem lC (W:ED c q pos) (hL:CO pos lost (fun _ _=>False) lost) {r:Int} (hF:E0 (cB c pos) r):
 ∃ l,Ev (fun n=>NU n c q pos pos.length lost) (pB c pos,cB c pos,decide (0<=r),l)/\ CO pos lost (Dj c q pos) l:=by
 have F1:=W.l1;have Cv:=W.gl;have Ak:=W.len;have L:(1000000000000:Nat)=A7:=rfl
 suffices H:AU (fun n=>NU n c q pos pos.length lost) (Qi c q pos lost r) by
  obtain ⟨x,h1,h2⟩:=H.ev Qi.uniq;obtain ⟨x1,x2,x3,x4⟩:=x;obtain ⟨h3,h4,h5,h6⟩:=h1;have h3:x1=pB c pos:=h3;have h4:x2=cB c pos:=h4;have h5:x3=decide (0<=r):=h5;subst h3 h4 h5;exact ⟨x4,h2,h6⟩
 have first: ∀ n,El c q pos pos.length lost (n+c.cells.length) (.l1 0 (List.replicate pos.length false) (List.replicate pos.length false))=El c q pos pos.length lost n (.l1 (c.cells.length:Int) (pB c pos) (cB c pos)):=fun n=>by
  have z: ∀ j:Nat,(List.replicate pos.length false).getD j false=false:=fun j=>by
   rw [u8,zE7];split <;> rfl
  obtain ⟨s',e,h1,h2,h3,h4⟩:=Wb (fun n (s:List Bool×List Bool) i=>El c q pos pos.length lost n (.l1 i s.1 s.2)) c.cells.length 0
   (fun i s=>s.1.length=pos.length/\ s.2.length=pos.length/\ (∀ j,s.1.getD j false=if j<i then (pB c pos).getD j false else false)/\ (∀ j,s.2.getD j false=if j<i then (cB c pos).getD j false else false))
   (fun n i s _ hi hI=>by
    obtain ⟨o2,o3⟩:=s;obtain ⟨h1,h2,h3,h4⟩:=hI;have h1:o2.length=pos.length:=h1;have h2:o3.length=pos.length:=h2;have hid:=W.id i (by omega)
    show ∃ s',Sw n (El c q pos pos.length lost n) c q pos pos.length lost (i:Int) o2 o3=_/\ _
    unfold Sw;simp only [zAB,zBj,hid];rw [zBC (by omega),zBA,zAE ⟨⟨by omega,by omega⟩,⟨by omega,by omega⟩,by omega,by omega,Ae.2 ⟨by omega,by omega⟩⟩];refine ⟨(_,_),rfl,by rw [zBo];exact h1,by rw [zBo];exact h2,fun j=>?_,fun j=>?_⟩
    ·show (o2.set i _).getD j false=_
     rw [K0 (by omega)]
     by_cases e:j=i
     ·subst e;rw [zAE rfl,zAE (by omega),PJ (by omega)]
     ·have h3:o2.getD j false=_:=h3 j;rw [zBP e,h3]
      by_cases e2:j<i
      ·rw [zAE e2,zAE (by omega)]
      ·rw [zBP e2,zBP (by omega)]
    ·show (o3.set i _).getD j false=_
     rw [K0 (by omega)]
     by_cases e:j=i
     ·subst e;rw [zAE rfl,zAE (by omega),QZ (by omega)]
     ·have h4:o3.getD j false=_:=h4 j;rw [zBP e,h4]
      by_cases e2:j<i
      ·rw [zAE e2,zAE (by omega)]
      ·rw [zBP e2,zBP (by omega)])
   c.cells.length 0 n (List.replicate pos.length false,List.replicate pos.length false) (by omega) (by omega) ⟨zCD,zCD,fun j=>by rw [zBP (by omega)];exact z j,fun j=>by rw [zBP (by omega)];exact z j⟩
  obtain ⟨o2,o3⟩:=s';have h1:o2.length=pos.length:=h1;have h2:o3.length=pos.length:=h2
  have e2:o2=pB c pos:=Xx (by rw [h1,DQ]) fun j hj=>by
   have h3:o2.getD j false=_:=h3 j;rw [h3,zAE (by omega)]
  have e3:o3=cB c pos:=Xx (by rw [h2,Cx]) fun j hj=>by
   have h4:o3.getD j false=_:=h4 j;rw [h4,zAE (by omega)]
  rw [←e2,←e3];exact e
 have start: ∀ n,NU n c q pos pos.length lost=El c q pos pos.length lost n (.l1 0 (List.replicate pos.length false) (List.replicate pos.length false)):=fun n=>by
  unfold NU lH;rw [zAE ⟨rfl,by omega,by omega⟩]
 refine AU.eq (AU.step (c.cells.length+1) (g:=fun n=>(W4 n (cB c pos) true).bind fun y1=>bif (decide (y1<0)) then (if pos.length=(pB c pos).length then some (pB c pos,cB c pos,false,lost) else none) else (if pos.length=(pB c pos).length then (OP n (pB c pos)).bind fun y2=>(QW n q.nbrs (pB c pos) y1).bind fun y3=>El c q pos pos.length lost n (.l2 (pB c pos) y2.length y3.1 (y3.1.length:Int) 0 (cB c pos) y2) else none)) (fun n=>?_) ?_) start
 ·rw [show n+(c.cells.length+1)=n+1+c.cells.length by omega,first]
  show Sw n (El c q pos pos.length lost n) c q pos pos.length lost (c.cells.length:Int) (pB c pos) (cB c pos)=_
  unfold Sw;rw [zAA (by omega),zAD,zAE Cx.symm]
 ·obtain ⟨r',h1,h2⟩:=Wz (l:=cB c pos) (by rw [Cx];exact F1);obtain rfl:=hF.uniq h2;refine AU.bind h1 ?_
  by_cases C6:0<=r
  ·have BU: ∀ n,OP n (pB c pos)=some (pB c pos):=fun n=>by
    have h0:=W.l0;have h3:=DQ (c:=c) (pos:=pos);unfold OP dl;rw [zAE ⟨by omega,trivial,⟨rfl,rfl⟩,by rw [←L];simp only [zFF];omega⟩,zAE (by simp)];rfl
   obtain ⟨Pq,z7⟩:r<(pos.length:Int)/\ (cB c pos).getD r.toNat false=true:=by
    rcases hF with ⟨h,_⟩ | ⟨_,h,h',_⟩
    ·omega
    ·rw [Cx] at h;exact ⟨h,h'⟩
   have hpr:=W.cp (by omega) z7;refine AU.eq (AU.bindU (zDt W.g (by rw [DQ];exact Cv.symm) C6 (by omega) hpr) (b:=fun n y3=>El c q pos pos.length lost n (.l2 (pB c pos) (pB c pos).length y3.1 (y3.1.length:Int) 0 (cB c pos) (pB c pos))) ⟨600,fun n hn x hx=>xX W hL C6 hF hx.2.1 hx.2.2 hn⟩) fun n=>?_
   rw [zAA (by omega),zAD,zAE DQ.symm,BU,zA9]
  ·refine Ev.p (r:=(pB c pos,cB c pos,false,lost)) (Ev.now fun n=>?_) ⟨rfl,rfl,(zAA C6).symm,hL.id' fun j s _ _=>⟨fun h=>?_,fun h=>h.elim⟩⟩
   ·rw [zBC (by omega),zBA,zAE DQ.symm]
   ·obtain ⟨_,_,r',h3,h4,_⟩:=h;rw [hF.uniq h4] at C6;exact C6 h3
def IE (c:AC) (q:AA) (pos:List Int) (a s:Nat):Prop:=Dj c q pos a s∨((pB c pos).getD a false=true/\ (cB c pos).getD a false=false/\ Sp q.nbrs (pB c pos) (cB c pos) (a:Int)/\ tb c.set s=false)
theorem zDm (W:ED c q pos) (hL:CO pos lost (fun _ _=>False) lost): ∃ l,Ev (fun n=>YD n c q pos pos.length lost) (true,l)/\ CO pos lost (IE c q pos) l:=by
 have F1:=W.l1;have Cv:=W.gl;obtain ⟨r,_,hF⟩:=Wz (l:=cB c pos) (by rw [Cx];exact F1);obtain ⟨l0,h1,h2⟩:=lC W hL hF
 suffices H:AU (fun n=>MK c q pos pos.length lost n (.l1 (pB c pos) (cB c pos) (decide (0<=r)) ((pB c pos).length:Int) 0 l0)) (fun x=>x.1=true/\ CO pos lost (IE c q pos) x.2) by
  obtain ⟨x,⟨h3,h4⟩,h5⟩:=(AU.bind h1 (b:=fun n y1=>MK c q pos pos.length lost n (.l1 y1.1 y1.2.1 y1.2.2.1 (y1.1.length:Int) 0 y1.2.2.2)) H).ev fun x y hx hy=>by
   obtain ⟨x1,x2⟩:=x;obtain ⟨y1,y2⟩:=y;have e1:x1=true:=hx.1;have e2:y1=true:=hy.1;have e3:x2=y2:=hx.2.unique hy.2;rw [e1,e2,e3]
  obtain ⟨x1,x2⟩:=x;have h3:x1=true:=h3;subst h3;exact ⟨x2,h5,h4⟩
 obtain ⟨N,hN⟩:=AU.range (F:=fun (i:Nat) n=>if (pB c pos).getD i false=true then Mm n q.nbrs (pB c pos) (cB c pos) i else some (false,0)) (A:=fun i x=>(pB c pos).getD i false=true -> x.2=0/\ (x.1=true↔Sp q.nbrs (pB c pos) (cB c pos) i)) pos.length fun i hi=>by
  by_cases h:(pB c pos).getD i false=true
  ·refine ((rR W.g (by rw [DQ];exact Cv.symm) (by rw [Cx];exact Cv.symm) (a:=i) (by omega) h).mono fun x hx _=>hx).eq fun n=>?_
   rw [zAE h]
  ·exact Ev.p (r:=(false,0)) (Ev.now fun n=>by rw [zBP h]) fun h'=>absurd h' h
 refine ⟨N+pos.length+1,fun n hn=>?_⟩
 have T:=HG (fun n (o1:List Int) i=>MK c q pos pos.length lost n (.l1 (pB c pos) (cB c pos) (decide (0<=r)) ((pB c pos).length:Int) i o1)) pos.length (N+1)
  (fun i o1=>CO pos lost (fun a s=>Dj c q pos a s∨(a<i/\ IE c q pos a s)) o1) (fun n i o1 Fk hi hI=>?_) (n:=n) (s:=l0) (by omega) (h2.id' fun j s _ _=>⟨fun h=>h.elim id fun h=>absurd h.1 (zBW j),.inl⟩)
 ·obtain ⟨n3,o1,TR,_,e2,Fm⟩:=T;obtain ⟨n4,rfl⟩: ∃ n4,n3=n4+1:=⟨n3-1,by omega⟩;refine ⟨(true,o1),Eq.trans e2 ?_,rfl,Fm.id' fun j s hj _=>⟨fun h=>.inr ⟨hj,h⟩,fun h=>h.elim .inl fun h=>h.2⟩⟩
  show UE n4 (MK c q pos pos.length lost n4) c q pos pos.length lost (pB c pos) (cB c pos) (decide (0<=r)) ((pB c pos).length:Int) (pos.length:Int) o1=_
  unfold UE;rw [DQ,zAA (p:=((pos.length:Nat):Int)<((pos.length:Nat):Int)) (by omega),zAD]
 ·show ∃ s',UE n (MK c q pos pos.length lost n) c q pos pos.length lost (pB c pos) (cB c pos) (decide (0<=r)) ((pB c pos).length:Int) (i:Int) o1=_/\ _
  unfold UE;simp only [zAB];have r1:AG ((i:Int)+1):=Ae.2 ⟨by omega,by omega⟩;have lp:(pB c pos).length=pos.length:=DQ;have lc:(cB c pos).length=pos.length:=Cx;rw [lp,lc,zBC (p:=(i:Int)<((pos.length:Nat):Int)) (by omega),zBA]
  have skip:(∀ s,¬ ((pB c pos).getD i false=true/\ (cB c pos).getD i false=false/\ Sp q.nbrs (pB c pos) (cB c pos) (i:Int)/\ tb c.set s=false)) -> CO pos lost (fun a s=>Dj c q pos a s∨(a<i+1/\ IE c q pos a s)) o1:=fun Ir=>hI.id' fun j s hj _=>by
   constructor
   ·rintro (h | ⟨h,h3⟩)
    ·exact .inl h
    ·rcases zBH.1 h with h | rfl
     ·exact .inr ⟨h,h3⟩
     ·exact h3.elim .inl fun h4=>absurd h4 (Ir s)
   ·rintro (h | ⟨h,h3⟩)
    ·exact .inl h
    ·exact .inr ⟨by omega,h3⟩
  by_cases C6:0<=r
  ·rw [zBC C6,zCJ,zAD,zAE ⟨by omega,by omega⟩];cases hp:(pB c pos).getD i false
   ·rw [zCN,zBA,zAE r1];exact ⟨o1,rfl,skip fun s h=>by rw [hp] at h;cases h.1⟩
   ·rw [zCJ,zAD,zAE ⟨by omega,by omega⟩];cases hc:(cB c pos).getD i false
    ·obtain ⟨x,e1,hx⟩:=hN n (by omega) i hi;have e1:(if (pB c pos).getD i false=true then Mm n q.nbrs (pB c pos) (cB c pos) i else some (false,0))=some x:=e1;rw [zAE hp] at e1;obtain ⟨_,hx⟩:=hx hp;rw [zAD,e1,zA9];cases hb:x.1
     ·rw [zAD,zAE r1];exact ⟨o1,rfl,skip fun s h=>by rw [hx.2 h.2.2.1] at hb;cases hb⟩
     ·obtain ⟨l',e,h3⟩:=hI.only (c:=c) (q:=q) (D':=fun a s=>Dj c q pos a s∨(a<i+1/\ IE c q pos a s)) (cell:=(i:Int)) (by omega) (by omega) fun j s hj _=>by
       constructor
       ·rintro (h | ⟨h,h3⟩)
        ·exact .inl (.inl h)
        ·rcases zBH.1 h with h | rfl
         ·exact .inl (.inr ⟨h,h3⟩)
         ·exact h3.elim (fun h=>.inl (.inl h)) fun h4=>.inr ⟨rfl,h4.2.2.2⟩
       ·rintro ((h | ⟨h,h3⟩) | ⟨h,h3⟩)
        ·exact .inl h
        ·exact .inr ⟨by omega,h3⟩
        ·obtain rfl:j=i:=by omega
         exact .inr ⟨by omega,.inr ⟨hp,hc,hx.1 hb,h3⟩⟩
      rw [zBA,e,zA9,zAE r1];exact ⟨l',rfl,h3⟩
    ·rw [zBA,zAE r1];exact ⟨o1,rfl,skip fun s h=>by rw [hc] at h;cases h.2.1⟩
  ·rw [zAA C6,zCN,zBA,zAE r1];refine ⟨o1,rfl,skip fun s h=>?_⟩;obtain ⟨hp,_,⟨u,v,_,_,h3,_,h4,_⟩,_⟩:=h;rcases hF with ⟨_,hF⟩ | ⟨h5,_⟩
   ·have:=h4.rng W.g.gr (by omega) (by omega);rw [hF u.toNat (by rw [Cx];omega)] at h3;cases h3
   ·exact C6 h5
def Bp (g:List (List Int)) (S:List Bool) (v:Int):Nat:=(nb g v).countP fun x=>S.getD x.toNat false
def PY (c:AC) (q:AA) (pos:List Int):Prop:=∀ v,v<pos.length -> (cB c pos).getD v false=true -> 2<=Bp q.nbrs (pB c pos) v/\ Bp q.nbrs (cB c pos) v<=2
def PS (c:AC) (q:AA) (pos:List Int) (v a s:Nat):Prop:=(cB c pos).getD v false=true/\ (a:Int)∈nb q.nbrs v/\ (pB c pos).getD a false=true/\ ((Bp q.nbrs (pB c pos) v=2/\ tb c.set s=false)∨(Bp q.nbrs (cB c pos) v=2/\ (cB c pos).getD a false=false/\ tb c.set s=true))
def Kj (c:AC) (q:AA) (pos:List Int) (a s:Nat):Prop:=Dj c q pos a s∨∃ v,v<pos.length/\ PS c q pos v a s
section
variable {P C:List Bool} {o1:List Int} {row:List Int} {x20 x21:Int}
def Jk (P:List Bool) (o2:List Int) (v:Int):List Int:=bif P.getD v.toNat false then o2++[v] else o2
def Kg (C:List Bool) (x:Int) (v:Int):Int:=bif C.getD v.toNat false then x+1 else x
theorem kz: ∀ (l o2:List Int),l.foldl (Jk P) o2=o2++l.filter fun x=>P.getD x.toNat false
 | [],o2=>by simp
 | v::l,o2=>by
  rw [zFG,kz l];unfold Jk;cases h:P.getD v.toNat false
  ·rw [zAD,List.filter_cons_of_neg (by rw [h];decide)]
  ·rw [zBA,List.filter_cons_of_pos (p:=fun x=>P.getD (Int.toNat x) false) h,zFi];rfl
theorem lT: ∀ (l:List Int) (x:Int),l.foldl (Kg C) x=x+(l.countP fun x=>C.getD x.toNat false:Nat)
 | [],x=>by simp
 | v::l,x=>by
  rw [zFG,lT l];unfold Kg;cases h:C.getD v.toNat false
  ·rw [zAD,List.countP_cons_of_neg (by rw [h];decide)]
  ·rw [zBA,List.countP_cons_of_pos (p:=fun x=>C.getD (Int.toNat x) false) h];omega
def Ml (P C:List Bool) (x20 x21:Int) (row o1 o2:List Int) (x8 j:Int):Lq:=match o2 with
 | []=>.l2 P C x8 x20 x21 row (row.length:Int) j o1
 | a::l=>.l3 P C (a::l).length x8 x20 x21 row (row.length:Int) j o1 (a::l)
theorem gZ {o2:List Int} {x8 j:Int} (h:o2≠[]):Ml P C x20 x21 row o1 o2 x8 j= .l3 P C o2.length x8 x20 x21 row (row.length:Int) j o1 o2:=by
 cases o2 with
 | nil=>exact absurd rfl h
 | cons a l=>rfl
theorem xd {n j:Nat} {x8:Int} {o2:List Int} (hP:P.length=pos.length) (hC:C.length=pos.length) (hr: ∀ u∈row,0<=u/\ u<(pos.length:Int)) (hl:row.length<=256) (hj:j<row.length) (ho:o2.length<=256) (h8:0<=x8/\ x8<=256):
 CS c q pos pos.length lost (n+1) (Ml P C x20 x21 row o1 o2 x8 j)=CS c q pos pos.length lost n (Ml P C x20 x21 row o1 (Jk P o2 (row.getD j 0)) (Kg C x8 (row.getD j 0)) ((j:Int)+1)):=by
 have L:(1000000000000:Nat)=A7:=rfl;have hx:row.getD j 0∈row:=by rw [u8,zBD hj];exact zB0 hj
 have GQ:=hr _ hx;have r1:AG ((j:Int)+1):=Ae.2 ⟨by omega,by omega⟩;have r8:AG (x8+1):=Ae.2 ⟨by omega,by omega⟩;cases o2 with
 | nil=>
  show S6 n (CS c q pos pos.length lost n) c q pos pos.length lost P C x8 x20 x21 row (row.length:Int) (j:Int) o1=_
  unfold S6 Jk Kg;simp only [zAB];rw [zBC (by omega),zBA,zAE ⟨⟨by omega,by omega⟩,by omega,by omega⟩];cases hp:P.getD (row.getD j 0).toNat false <;> cases hc:C.getD (row.getD j 0).toNat false
  ·rw [zAD,zAD,zAD,zAE ⟨by omega,by omega⟩,zAD,zAE r1];rfl
  ·rw [zAD,zAD,zBA,zAE ⟨by omega,by omega⟩,zBA,zAE ⟨r8,r1⟩];rfl
  ·rw [zBA,zBA,zAD,zAE ⟨⟨⟨trivial,rfl⟩,by rw [zCI];omega,by rw [zCI,←L];omega⟩,by omega,by omega⟩,zAD,zAE r1];rfl
  ·rw [zBA,zBA,zBA,zAE ⟨⟨⟨trivial,rfl⟩,by rw [zCI];omega,by rw [zCI,←L];omega⟩,by omega,by omega⟩,zBA,zAE ⟨r8,r1⟩];rfl
 | cons a l=>
  have AY:Jk P (a::l) (row.getD j 0)≠[]:=by unfold Jk;cases P.getD (row.getD j 0).toNat false <;> simp
  rw [gZ AY]
  show Na n (CS c q pos pos.length lost n) c q pos pos.length lost P C (a::l).length x8 x20 x21 row (row.length:Int) (j:Int) o1 (a::l)=_
  unfold Na Jk Kg;simp only [zAB];rw [zBC (by omega),zBA,zAE ⟨⟨by omega,by omega⟩,by omega,by omega⟩];cases hp:P.getD (row.getD j 0).toNat false <;> cases hc:C.getD (row.getD j 0).toNat false
  ·rw [zAD,zAD,zAD,zAE ⟨by omega,by omega⟩,zAD,zAE r1]
  ·rw [zAD,zAD,zBA,zAE ⟨by omega,by omega⟩,zBA,zAE ⟨r8,r1⟩]
  ·rw [zBA,zBA,zAD,zAE ⟨⟨⟨trivial,rfl⟩,⟨trivial,trivial⟩,by rw [zCI,←L];omega⟩,by omega,by omega⟩,zAD,zAE r1,zCC]
  ·rw [zBA,zBA,zBA,zAE ⟨⟨⟨trivial,rfl⟩,⟨trivial,trivial⟩,by rw [zCI,←L];omega⟩,by omega,by omega⟩,zBA,zAE ⟨r8,r1⟩,zCC]
theorem lM (hP:P.length=pos.length) (hC:C.length=pos.length) (hr: ∀ u∈row,0<=u/\ u<(pos.length:Int)) (hl:row.length<=256): ∀ (k j n:Nat) (o2:List Int) (x8:Int),j+k=row.length -> o2.length<=j -> 0<=x8/\ x8<=(j:Int) ->
 CS c q pos pos.length lost (n+k) (Ml P C x20 x21 row o1 o2 x8 j)=CS c q pos pos.length lost n (Ml P C x20 x21 row o1 ((row.drop j).foldl (Jk P) o2) ((row.drop j).foldl (Kg C) x8) (row.length:Int))
 | 0,j,n,o2,x8,e,_,_=>by
  have e:j=row.length:=by omega
  subst e;rw [List.drop_length];rfl
 | k+1,j,n,o2,x8,e,h2,h8=>by
  have hj:j<row.length:=by omega
  have e2:row.drop j=row.getD j 0::row.drop (j+1):=by
   rw [zB2 hj,u8,zBD hj];rfl
  rw [←zDG,xd hP hC hr hl hj (by omega) (by omega),e2,zFG,zFG]
  have h3:(Jk P o2 (row.getD j 0)).length<=j+1:=by
   unfold Jk;cases P.getD (row.getD j 0).toNat false
   ·rw [zAD];omega
   ·rw [zBA,zCC,zCI];omega
  have h4:0<=Kg C x8 (row.getD j 0)/\ Kg C x8 (row.getD j 0)<=((j+1:Nat):Int):=by
   unfold Kg;cases C.getD (row.getD j 0).toNat false
   ·rw [zAD];omega
   ·rw [zBA];omega
  exact lM hP hC hr hl k (j+1) n _ _ (by omega) h3 h4
theorem po {D:Nat -> Nat -> Prop} {near:List Int} {x8:Int} {v:Nat} {n:Nat} (W:ED c q pos) (hD:CO pos lost D o1) (XJ: ∀ u∈near,0<=u/\ u<(pos.length:Int)) (F0:near.length<=256) (hv:v<pos.length):
 ∃ l',CS c q pos pos.length lost (n+1+near.length) (.l4 (pB c pos) (cB c pos) near.length x8 x20 (v:Int) near.length (near.length:Int) 0 o1 near)=CS c q pos pos.length lost n (.l1 (pB c pos) (cB c pos) x20 ((v:Int)+1) l')/\
  CO pos lost (fun a s=>D a s∨((a:Int)∈near/\ ((near.length=2/\ tb c.set s=false)∨(x8=2/\ (cB c pos).getD a false=false/\ tb c.set s=true)))) l':=by
 have F1:=W.l1;have lc:(cB c pos).length=pos.length:=Cx
 obtain ⟨l',e,h⟩:=Wb (fun n (s:List Int) i=>CS c q pos pos.length lost n (.l4 (pB c pos) (cB c pos) near.length x8 x20 (v:Int) near.length (near.length:Int) i s near)) near.length 0
  (fun i s=>CO pos lost (fun a t=>D a t∨((a:Int)∈near.take i/\ ((near.length=2/\ tb c.set t=false)∨(x8=2/\ (cB c pos).getD a false=false/\ tb c.set t=true)))) s)
  (fun n i s _ hi hI=>by
   have hx:near.getD i 0∈near:=by rw [u8,zBD hi];exact zB0 hi
   have GQ:=XJ _ hx
   have e3:near.take (i+1)=near.take i++[near.getD i 0]:=by
    rw [zFR hi,u8,zBD hi];rfl
   have r1:AG ((i:Int)+1):=Ae.2 ⟨by omega,by omega⟩;have mem: ∀ a:Nat,(a:Int)∈near.take (i+1)↔(a:Int)∈near.take i∨(a:Int)=near.getD i 0:=fun a=>by rw [e3,zB5,zBm]
   obtain ⟨l2,f2,Tg⟩:=hI.only (c:=c) (q:=q) (cell:=near.getD i 0) GQ.1 GQ.2 (D':=fun a t=>(D a t∨((a:Int)∈near.take i/\ ((near.length=2/\ tb c.set t=false)∨(x8=2/\ (cB c pos).getD a false=false/\ tb c.set t=true))))∨((a:Int)=near.getD i 0/\ tb c.set t=false)) fun j s _ _=>Iff.rfl
   obtain ⟨l3,f3,hL3⟩:=Tg.lose (c:=c) (q:=q) (cell:=near.getD i 0) (ss:=c.set) GQ.1 GQ.2 (D':=fun a t=>((D a t∨((a:Int)∈near.take i/\ ((near.length=2/\ tb c.set t=false)∨(x8=2/\ (cB c pos).getD a false=false/\ tb c.set t=true))))∨((a:Int)=near.getD i 0/\ tb c.set t=false))∨((a:Int)=near.getD i 0/\ tb c.set t=true)) fun j s _ _=>Iff.rfl
   obtain ⟨l4,f4,XX⟩:=hI.lose (c:=c) (q:=q) (cell:=near.getD i 0) (ss:=c.set) GQ.1 GQ.2 (D':=fun a t=>(D a t∨((a:Int)∈near.take i/\ ((near.length=2/\ tb c.set t=false)∨(x8=2/\ (cB c pos).getD a false=false/\ tb c.set t=true))))∨((a:Int)=near.getD i 0/\ tb c.set t=true)) fun j s _ _=>Iff.rfl
   show ∃ s',S5 n (CS c q pos pos.length lost n) c q pos pos.length lost (pB c pos) (cB c pos) near.length x8 x20 (v:Int) near.length (near.length:Int) (i:Int) s near=_/\ _
   unfold S5;simp only [zAB,zBj];rw [zBC (by omega),zBA,zAE ⟨⟨by omega,by omega⟩,hi⟩];have Ah: ∀ a:Nat,(a:Int)=near.getD i 0 -> (near.getD i 0).toNat=a:=fun a h=>by omega
   by_cases h2:near.length=2
   ·have b2:(((near.length:Nat):Int)==2)=true:=by rw [h2];rfl
    rw [b2,zBA,f2,zA9]
    by_cases h8:x8=2
    ·have b8:(x8==2)=true:=by rw [h8];rfl
     rw [b8,zBA,zAE ⟨by omega,by omega⟩];cases hc:(cB c pos).getD (near.getD i 0).toNat false
     ·rw [zCN,zBA,f3,zA9,zAE r1];refine ⟨l3,rfl,hL3.id' fun a t _ _=>?_⟩;rw [mem];constructor
      ·rintro (h | ⟨h | h,h3 | ⟨h3,h4,h5⟩⟩)
       ·exact .inl (.inl (.inl h))
       ·exact .inl (.inl (.inr ⟨h,.inl h3⟩))
       ·exact .inl (.inl (.inr ⟨h,.inr ⟨h3,h4,h5⟩⟩))
       ·exact .inl (.inr ⟨h,h3.2⟩)
       ·exact .inr ⟨h,h5⟩
      ·rintro (((h | ⟨h,h3⟩) | ⟨h,h3⟩) | ⟨h,h3⟩)
       ·exact .inl h
       ·exact .inr ⟨.inl h,h3⟩
       ·exact .inr ⟨.inr h,.inl ⟨h2,h3⟩⟩
       ·exact .inr ⟨.inr h,.inr ⟨h8,by rw [←Ah a h];exact hc,h3⟩⟩
     ·rw [zCJ,zAD,zAE r1];refine ⟨l2,rfl,Tg.id' fun a t _ _=>?_⟩;rw [mem];constructor
      ·rintro (h | ⟨h | h,h3 | ⟨h3,h4,h5⟩⟩)
       ·exact .inl (.inl h)
       ·exact .inl (.inr ⟨h,.inl h3⟩)
       ·exact .inl (.inr ⟨h,.inr ⟨h3,h4,h5⟩⟩)
       ·exact .inr ⟨h,h3.2⟩
       ·rw [←Ah a h,hc] at h4;cases h4
      ·rintro ((h | ⟨h,h3⟩) | ⟨h,h3⟩)
       ·exact .inl h
       ·exact .inr ⟨.inl h,h3⟩
       ·exact .inr ⟨.inr h,.inl ⟨h2,h3⟩⟩
    ·have b8:(x8==2)=false:=zB4.2 h8;rw [b8,zAD,zAE r1];refine ⟨l2,rfl,Tg.id' fun a t _ _=>?_⟩;rw [mem];constructor
     ·rintro (h | ⟨h | h,h3 | ⟨h3,h4,h5⟩⟩)
      ·exact .inl (.inl h)
      ·exact .inl (.inr ⟨h,.inl h3⟩)
      ·exact .inl (.inr ⟨h,.inr ⟨h3,h4,h5⟩⟩)
      ·exact .inr ⟨h,h3.2⟩
      ·exact absurd h3 h8
     ·rintro ((h | ⟨h,h3⟩) | ⟨h,h3⟩)
      ·exact .inl h
      ·exact .inr ⟨.inl h,h3⟩
      ·exact .inr ⟨.inr h,.inl ⟨h2,h3⟩⟩
   ·have b2:(((near.length:Nat):Int)==2)=false:=zB4.2 (by omega);rw [b2,zAD]
    by_cases h8:x8=2
    ·have b8:(x8==2)=true:=by rw [h8];rfl
     rw [b8,zBA,zAE ⟨by omega,by omega⟩];cases hc:(cB c pos).getD (near.getD i 0).toNat false
     ·rw [zCN,zBA,f4,zA9,zAE r1];refine ⟨l4,rfl,XX.id' fun a t _ _=>?_⟩;rw [mem];constructor
      ·rintro (h | ⟨h | h,h3 | ⟨h3,h4,h5⟩⟩)
       ·exact .inl (.inl h)
       ·exact .inl (.inr ⟨h,.inl h3⟩)
       ·exact .inl (.inr ⟨h,.inr ⟨h3,h4,h5⟩⟩)
       ·exact absurd h3.1 h2
       ·exact .inr ⟨h,h5⟩
      ·rintro ((h | ⟨h,h3⟩) | ⟨h,h3⟩)
       ·exact .inl h
       ·exact .inr ⟨.inl h,h3⟩
       ·exact .inr ⟨.inr h,.inr ⟨h8,by rw [←Ah a h];exact hc,h3⟩⟩
     ·rw [zCJ,zAD,zAE r1];refine ⟨s,rfl,hI.id' fun a t _ _=>?_⟩;rw [mem];constructor
      ·rintro (h | ⟨h | h,h3 | ⟨h3,h4,h5⟩⟩)
       ·exact .inl h
       ·exact .inr ⟨h,.inl h3⟩
       ·exact .inr ⟨h,.inr ⟨h3,h4,h5⟩⟩
       ·exact absurd h3.1 h2
       ·rw [←Ah a h,hc] at h4;cases h4
      ·rintro (h | ⟨h,h3⟩)
       ·exact .inl h
       ·exact .inr ⟨.inl h,h3⟩
    ·have b8:(x8==2)=false:=zB4.2 h8;rw [b8,zAD,zAE r1];refine ⟨s,rfl,hI.id' fun a t _ _=>?_⟩;rw [mem];constructor
     ·rintro (h | ⟨h | h,h3 | ⟨h3,h4,h5⟩⟩)
      ·exact .inl h
      ·exact .inr ⟨h,.inl h3⟩
      ·exact .inr ⟨h,.inr ⟨h3,h4,h5⟩⟩
      ·exact absurd h3.1 h2
      ·exact absurd h3 h8
     ·rintro (h | ⟨h,h3⟩)
      ·exact .inl h
      ·exact .inr ⟨.inl h,h3⟩)
  near.length 0 (n+1) o1 (by omega) (by omega) (hD.id' fun a t _ _=>by simp)
 refine ⟨l',Eq.trans e ?_,h.id' fun a t _ _=>by rw [List.take_length]⟩
 show S5 n (CS c q pos pos.length lost n) c q pos pos.length lost (pB c pos) (cB c pos) near.length x8 x20 (v:Int) near.length (near.length:Int) (near.length:Int) l' near=_
 unfold S5;rw [zAA (by omega),zAD,zAE (Ae.2 ⟨by omega,by omega⟩)]
end
def qL (c:AC) (q:AA) (pos lost:List Int) (x:Bool×List Int):Prop:=(x.1=true↔PY c q pos)/\ (x.1=true -> CO pos lost (Kj c q pos) x.2)
theorem xr (W:ED c q pos): ∀ (k v:Nat) (o1:List Int),v+k=pos.length -> (∀ u,u<v -> (cB c pos).getD u false=true -> 2<=Bp q.nbrs (pB c pos) u/\ Bp q.nbrs (cB c pos) u<=2) -> CO pos lost (fun a s=>Dj c q pos a s∨∃ u,u<v/\ PS c q pos u a s) o1 ->
 AU (fun n=>CS c q pos pos.length lost n (.l1 (pB c pos) (cB c pos) (pos.length:Int) (v:Int) o1)) (qL c q pos lost):=by
 have F1:=W.l1;have Cv:=W.gl;have lp:(pB c pos).length=pos.length:=DQ;have lc:(cB c pos).length=pos.length:=Cx;intro k
 induction k with
 | zero=>
  intro v o1 e B6 hL;have e:v=pos.length:=by omega
  subst e;refine Ev.p (r:=(true,o1)) ⟨1,fun n hn=>?_⟩ ⟨⟨fun _ v hv hc=>B6 v hv hc,fun _=>rfl⟩,fun _=>hL⟩;obtain ⟨n,rfl⟩: ∃ k,n=k+1:=⟨n-1,by omega⟩
  show S7 n (CS c q pos pos.length lost n) c q pos pos.length lost (pB c pos) (cB c pos) (pos.length:Int) (pos.length:Int) o1=_
  unfold S7;rw [zAA (by omega),zAD]
 | succ k ih=>
  intro v o1 e B6 hL;have hv:v<pos.length:=by omega
  have r1:AG ((v:Int)+1):=Ae.2 ⟨by omega,by omega⟩
  have U: ∀ n,CS c q pos pos.length lost (n+1) (.l1 (pB c pos) (cB c pos) (pos.length:Int) (v:Int) o1)=bif (cB c pos).getD v false then CS c q pos pos.length lost n (Ml (pB c pos) (cB c pos) (pos.length:Int) (v:Int) (nb q.nbrs v) o1 [] 0 0) else CS c q pos pos.length lost n (.l1 (pB c pos) (cB c pos) (pos.length:Int) ((v:Int)+1) o1):=fun n=>by
   show S7 n (CS c q pos pos.length lost n) c q pos pos.length lost (pB c pos) (cB c pos) (pos.length:Int) (v:Int) o1=_
   unfold S7;rw [zBC (by omega),zBA,zAE ⟨by omega,by omega⟩,zAB,zAE r1,zAE ⟨by omega,by omega⟩];cases (cB c pos).getD v false <;> rfl
  cases hc:(cB c pos).getD v false
  ·refine AU.step 1 (fun n=>?_) (ih (v+1) o1 (by omega) (fun u hu TK=>?_) (hL.id' fun a s _ _=>?_))
   ·rw [U,hc,zAD];rfl
   ·rcases zBH.1 hu with hu | rfl
    ·exact B6 u hu TK
    ·rw [hc] at TK;cases TK
   ·constructor
    ·rintro (h | ⟨u,hu,h⟩)
     ·exact .inl h
     ·rcases zBH.1 hu with hu | rfl
      ·exact .inr ⟨u,hu,h⟩
      ·rw [h.1] at hc;cases hc
    ·rintro (h | ⟨u,hu,h⟩)
     ·exact .inl h
     ·exact .inr ⟨u,by omega,h⟩
  ·have Jq:=W.g.gr.row (v:Int) (by omega) (by omega)
   have XD: ∀ u∈nb q.nbrs (v:Int),0<=u/\ u<(pos.length:Int):=fun u hu=>by
    have:=W.g.gr.rng (v:Int) (by omega) (by omega) u hu;omega
   have A:=fun n=>lM (c:=c) (q:=q) (lost:=lost) (o1:=o1) (x20:=(pos.length:Int)) (x21:=(v:Int)) lp lc XD Jq (nb q.nbrs v).length 0 n [] 0 (by omega) (by simp) ⟨zCH _,by omega⟩
   rw [zGG,kz,lT,zFD,Int.zero_add] at A;have dP:Bp q.nbrs (pB c pos) v=((nb q.nbrs v).filter fun x=>(pB c pos).getD x.toNat false).length:=List.countP_eq_length_filter;have dC:Bp q.nbrs (cB c pos) v=(nb q.nbrs v).countP fun x=>(cB c pos).getD x.toNat false:=rfl
   rw [←dC] at A
   generalize TP:((nb q.nbrs v).filter fun x=>(pB c pos).getD x.toNat false)=near at A dP
   have CA: ∀ u,u∈near↔u∈nb q.nbrs v/\ (pB c pos).getD u.toNat false=true:=fun u=>by rw [←TP,zFU]
   have F0:near.length<=256:=by
    have:=zGl (fun x=>(pB c pos).getD x.toNat false) (nb q.nbrs v);rw [TP] at this;omega
   have XJ: ∀ u∈near,0<=u/\ u<(pos.length:Int):=fun u hu=>XD u ((CA u).1 hu).1
   have U2: ∀ n,CS c q pos pos.length lost (n+((nb q.nbrs v).length+1)) (.l1 (pB c pos) (cB c pos) (pos.length:Int) (v:Int) o1)=CS c q pos pos.length lost n (Ml (pB c pos) (cB c pos) (pos.length:Int) (v:Int) (nb q.nbrs v) o1 near (Bp q.nbrs (cB c pos) v:Int) ((nb q.nbrs v).length:Int)):=fun n=>by
    rw [←zDG,U,hc,zBA];exact A n
   refine AU.step _ U2 ?_
   by_cases hbad:Bp q.nbrs (pB c pos) v<2∨2<Bp q.nbrs (cB c pos) v
   ·have Ir: ¬ PY c q pos:=fun h=>by have:=h v hv hc;omega
    refine Ev.p (r:=(false,o1)) ⟨1,fun n hn=>?_⟩ ⟨⟨fun h=>(by cases h),fun h=>absurd h Ir⟩,fun h=>(by cases h)⟩;obtain ⟨n,rfl⟩: ∃ k,n=k+1:=⟨n-1,by omega⟩;cases near with
    | nil=>
     show S6 n (CS c q pos pos.length lost n) c q pos pos.length lost (pB c pos) (cB c pos) (Bp q.nbrs (cB c pos) v:Int) (pos.length:Int) (v:Int) (nb q.nbrs v) ((nb q.nbrs v).length:Int) ((nb q.nbrs v).length:Int) o1=_
     unfold S6;rw [zAA (by omega),zAD]
    | cons a l=>
     show Na n (CS c q pos pos.length lost n) c q pos pos.length lost (pB c pos) (cB c pos) (a::l).length (Bp q.nbrs (cB c pos) v:Int) (pos.length:Int) (v:Int) (nb q.nbrs v) ((nb q.nbrs v).length:Int) ((nb q.nbrs v).length:Int) o1 (a::l)=_
     unfold Na;rw [zAA (by omega),zAD]
     by_cases h2:(((a::l).length:Nat):Int)<2
     ·rw [zBC h2,zBA]
     ·rw [zAA h2,zAD,zBC (by omega),zBA]
   ·have AY:near≠[]:=by
     intro h;rw [h,zFF] at dP;omega
    obtain ⟨l',e4,XX⟩:=po (c:=c) (q:=q) (lost:=lost) (o1:=o1) (near:=near) (x20:=(pos.length:Int)) (x8:=(Bp q.nbrs (cB c pos) v:Int)) (n:=0) W hL XJ F0 hv;have e5: ∀ n,∃ l',CS c q pos pos.length lost (n+1+near.length) (.l4 (pB c pos) (cB c pos) near.length (Bp q.nbrs (cB c pos) v:Int) (pos.length:Int) (v:Int) near.length (near.length:Int) 0 o1 near)=CS c q pos pos.length lost n (.l1 (pB c pos) (cB c pos) (pos.length:Int) ((v:Int)+1) l')/\ _:=fun n=>po (c:=c) (q:=q) (lost:=lost) (o1:=o1) (near:=near) (x20:=(pos.length:Int)) (x8:=(Bp q.nbrs (cB c pos) v:Int)) (n:=n) W hL XJ F0 hv
    have IH:=ih (v+1) l' (by omega) (fun u hu TK=>by
     rcases zBH.1 hu with hu | rfl
     ·exact B6 u hu TK
     ·omega) (XX.id' fun a s _ _=>by
     constructor
     ·rintro (h | ⟨u,hu,h⟩)
      ·exact .inl (.inl h)
      ·rcases zBH.1 hu with hu | rfl
       ·exact .inl (.inr ⟨u,hu,h⟩)
       ·obtain ⟨h1,h2,h3,h4⟩:=h;refine .inr ⟨(CA _).2 ⟨h2,by rw [zAB];exact h3⟩,?_⟩;rcases h4 with ⟨h4,h5⟩ | ⟨h4,h5⟩
        ·exact .inl ⟨by omega,h5⟩
        ·exact .inr ⟨by omega,h5⟩
     ·rintro ((h | ⟨u,hu,h⟩) | ⟨h1,h2⟩)
      ·exact .inl h
      ·exact .inr ⟨u,by omega,h⟩
      ·obtain ⟨h3,h4⟩:=(CA _).1 h1;rw [zAB] at h4;refine .inr ⟨v,by omega,hc,h3,h4,?_⟩;rcases h2 with ⟨h2,h5⟩ | ⟨h2,h5⟩
       ·exact .inl ⟨by omega,h5⟩
       ·exact .inr ⟨by omega,h5⟩)
    refine AU.step (1+near.length+1) (g:=fun n=>CS c q pos pos.length lost n (.l1 (pB c pos) (cB c pos) (pos.length:Int) ((v:Int)+1) l')) (fun n=>?_) IH;obtain ⟨l2,e6,hL6⟩:=e5 n;have:l2=l':=hL6.unique XX;subst this;rw [gZ AY,show n+(1+near.length+1)=n+1+near.length+1 by omega,←e6]
    show Na (n+1+near.length) (CS c q pos pos.length lost (n+1+near.length)) c q pos pos.length lost (pB c pos) (cB c pos) near.length (Bp q.nbrs (cB c pos) v:Int) (pos.length:Int) (v:Int) (nb q.nbrs v) ((nb q.nbrs v).length:Int) ((nb q.nbrs v).length:Int) o1 near=_
    unfold Na;rw [zAA (by omega),zAD,zAA (by omega),zAD,zAA (by omega),zAD]
theorem xt (W:ED c q pos) (hL:CO pos lost (fun _ _=>False) lost):AU (fun n=>Wa n c q pos pos.length lost) (qL c q pos lost):=by
 have F1:=W.l1;obtain ⟨r,_,hF⟩:=Wz (l:=cB c pos) (by rw [Cx];exact F1);obtain ⟨l0,h1,h2⟩:=lC W hL hF;refine AU.bind h1 (b:=fun n y1=>CS c q pos pos.length lost n (.l1 y1.1 y1.2.1 (y1.2.1.length:Int) 0 y1.2.2.2)) ?_;have:=xr (q:=q) W pos.length 0 l0 (by omega) (fun u hu=>absurd hu (zBW u)) (h2.id' fun a s _ _=>⟨fun h=>h.elim id fun ⟨u,hu,_⟩=>absurd hu (zBW u),.inl⟩);refine this.eq fun n=>?_
 show CS c q pos pos.length lost n (.l1 (pB c pos) (cB c pos) ((cB c pos).length:Int) 0 l0)=_
 rw [Cx];rfl
end
end Go.Proofs.YtekkngkphejfcaaGreatDoor
namespace Go.Proofs.YtekkngkphejfcaaGreatDoor
open Go.RowKit
set_option maxRecDepth 100000
set_option maxHeartbeats 40000000
theorem sf:Af (Ax Tryz.f36 6) [([0,1,2,3,4,5,6,7,8],9),([10],11)] [12] []:=by unfold Af;kernel_rfl
theorem sh:Af (Ax Tryz.f36 13) [] (List.range 13) [13]:=by unfold Af;kernel_rfl
def Dq:BJ:=fun i=>match i with
 | 6=>.ord [([0,1,2,3,4,5,6,7,8],9),([10],11)] [12] []
 | 13=>.ord [] (List.range 13) [13]
 | _=>.no
def zAu (q:AA) (pos:List Int):DH:=[some (.cells (AD q)),some (.cells [.cst .nilFunc,.fn 57 0 (L1 []),.fn 58 0 (L1 []),.fn 59 0 (L1 []),.fn 60 0 (L1 []),.fn 61 0 (L1 []),.fn 62 0 (L1 []),.fn 63 0 (L1 []),.fn 64 0 (L1 []),.fn 65 0 (L1 [])]),some (.ints (List.replicate pos.length (0:Int)))]
def Ko (q:AA) (pos:List Int) (i:Int):DH:=[some (.cells (AD q)),some (.cells [.cst .nilFunc,.fn 57 0 (L1 []),.fn 58 0 (L1 []),.fn 59 0 (L1 []),.fn 60 0 (L1 []),.fn 61 0 (L1 []),.fn 62 0 (L1 []),.fn 63 0 (L1 []),.fn 64 0 (L1 []),.fn 65 0 (L1 [])]),some (.ints (List.replicate pos.length (0:Int))),some (.ints (List.replicate pos.length (0:Int))),some (.cells (AH (q.cons.getD ((i).toNat) default)++AD q++[.ints pos,.msl 3 1 0 pos.length]))]
def zAt (pos:List Int) (q:AA) (i:Int) (o2:List Int):DH:=[some (.ints (List.replicate pos.length (0:Int))),some (.cells (AH (q.cons.getD ((i).toNat) default)++AD q++[.ints pos,.msl 2 1 0 pos.length])),some (.ints o2)]
def zAs (pos:List Int) (q:AA) (i:Int) (o2 o3:List Int):DH:=[some (.ints (List.replicate pos.length (0:Int))),some (.cells (AH (q.cons.getD ((i).toNat) default)++AD q++[.ints pos,.msl 2 1 0 pos.length])),some (.ints o2),some (.ints o3)]
inductive Sc where
 | l1 (o2:List Int)
 | l2 (AO:Nat) (LE B4:Int) (o2 o3:List Int)
def aG (n:Nat) (self:Sc -> Option ((List Int))) (q:AA) (i:Int) (pos:List Int) (o2:List Int):Option ((List Int)):=
 (YH n pos).bind fun y1=>
  self (.l2 y1.length (y1.length:Int) 0 o2 y1)
def Sb (n:Nat) (self:Sc -> Option ((List Int))) (q:AA) (i:Int) (pos:List Int) (AO:Nat) (LE B4:Int) (o2 o3:List Int):Option ((List Int)):=
 bif (decide (B4<LE)) then
  if (0<=B4/\ B4<(AO:Int))/\ 0+((B4).toNat)<o3.length/\ (0<=B4/\ B4<(pos.length:Int))/\ 0+((B4).toNat)<o2.length/\ AG (B4+1) then
   self (.l2 AO LE (B4+1) o2 (o3.set (0+((B4).toNat)) (bits .andNot .i64 (o3.getD (0+((B4).toNat)) 0) (o2.getD (0+((B4).toNat)) 0))))
  else none
 else
  if AO=o3.length then
   (Gi n o3).bind fun y1=>
    bif y1 then
     if pos.length=(List.replicate pos.length (0:Int)).length then
      some (List.replicate pos.length (0:Int))
     else none
    else
     some o3
  else none
def aH (n:Nat) (self:Sc -> Option ((List Int))) (q:AA) (i:Int) (pos:List Int):Option ((List Int)):=
 if ((pos.length:Int):Int)=(pos.length:Int)/\ 0<=(pos.length:Int)/\ ((pos.length:Int):Int)<=1000000000000 then
  (Gi n pos).bind fun y1=>
   bif y1 then
    if pos.length=(List.replicate pos.length (0:Int)).length then
     some (List.replicate pos.length (0:Int))
    else none
   else
    if 0<=i/\ i<(q.cons.length:Int) then
     bif (((q.cons.getD ((i).toNat) default).kind)==0) then
      none
     else
      bif (((q.cons.getD ((i).toNat) default).kind)==1) then
       (QT n (q.cons.getD ((i).toNat) default) q pos pos.length (List.replicate pos.length (0:Int))).bind fun y2=>
        bif (!y2.1) then
         if pos.length=(List.replicate pos.length (0:Int)).length then
          some (List.replicate pos.length (0:Int))
         else none
        else
         self (.l1 y2.2)
      else
       bif (((q.cons.getD ((i).toNat) default).kind)==2) then
        (QV n (q.cons.getD ((i).toNat) default) q pos pos.length (List.replicate pos.length (0:Int))).bind fun y2=>
         bif (!y2.1) then
          if pos.length=(List.replicate pos.length (0:Int)).length then
           some (List.replicate pos.length (0:Int))
          else none
         else
          self (.l1 y2.2)
       else
        bif (((q.cons.getD ((i).toNat) default).kind)==3) then
         (Oi n (q.cons.getD ((i).toNat) default) q pos pos.length (List.replicate pos.length (0:Int))).bind fun y2=>
          bif (!y2.1) then
           if pos.length=(List.replicate pos.length (0:Int)).length then
            some (List.replicate pos.length (0:Int))
           else none
          else
           self (.l1 y2.2)
        else
         bif (((q.cons.getD ((i).toNat) default).kind)==4) then
          (LX n (q.cons.getD ((i).toNat) default) q pos pos.length (List.replicate pos.length (0:Int))).bind fun y2=>
           bif (!y2.1) then
            if pos.length=(List.replicate pos.length (0:Int)).length then
             some (List.replicate pos.length (0:Int))
            else none
           else
            self (.l1 y2.2)
         else
          bif (((q.cons.getD ((i).toNat) default).kind)==5) then
           (Ov n (q.cons.getD ((i).toNat) default) q pos pos.length (List.replicate pos.length (0:Int))).bind fun y2=>
            bif (!y2.1) then
             if pos.length=(List.replicate pos.length (0:Int)).length then
              some (List.replicate pos.length (0:Int))
             else none
            else
             self (.l1 y2.2)
          else
           bif (((q.cons.getD ((i).toNat) default).kind)==6) then
            (OW n (q.cons.getD ((i).toNat) default) q pos pos.length (List.replicate pos.length (0:Int))).bind fun y2=>
             bif (!y2.1) then
              if pos.length=(List.replicate pos.length (0:Int)).length then
               some (List.replicate pos.length (0:Int))
              else none
             else
              self (.l1 y2.2)
           else
            bif (((q.cons.getD ((i).toNat) default).kind)==7) then
             (NS n (q.cons.getD ((i).toNat) default) q pos pos.length (List.replicate pos.length (0:Int))).bind fun y2=>
              bif (!y2.1) then
               if pos.length=(List.replicate pos.length (0:Int)).length then
                some (List.replicate pos.length (0:Int))
               else none
              else
               self (.l1 y2.2)
            else
             bif (((q.cons.getD ((i).toNat) default).kind)==8) then
              (YD n (q.cons.getD ((i).toNat) default) q pos pos.length (List.replicate pos.length (0:Int))).bind fun y2=>
               bif (!y2.1) then
                if pos.length=(List.replicate pos.length (0:Int)).length then
                 some (List.replicate pos.length (0:Int))
                else none
               else
                self (.l1 y2.2)
             else
              bif (((q.cons.getD ((i).toNat) default).kind)==9) then
               (Wa n (q.cons.getD ((i).toNat) default) q pos pos.length (List.replicate pos.length (0:Int))).bind fun y2=>
                bif (!y2.1) then
                 if pos.length=(List.replicate pos.length (0:Int)).length then
                  some (List.replicate pos.length (0:Int))
                 else none
                else
                 self (.l1 y2.2)
              else
               none
    else none
 else none
def Id (q:AA) (i:Int) (pos:List Int):Nat -> Sc -> Option ((List Int))
 | 0,_=>none
 | n+1,.l1 o2=>aG n (Id q i pos n) q i pos o2
 | n+1,.l2 AO LE B4 o2 o3=>Sb n (Id q i pos n) q i pos AO LE B4 o2 o3
def Jd (n:Nat) (q:AA) (i:Int) (pos:List Int):Option ((List Int)):=aH n (Id q i pos n) q i pos
def wZ (n B:Nat) (N:Yd 0) (q:AA) (i:Int) (pos:List Int) (r:(List Int)):Sc -> Prop
 | .l1 o2=>TW B N (FQ Tryz.f36 0 (.ints r) []) (Dl (AW Tryz.f36) 9 []) ⟨AM 69 [(2,.ints pos),(8,.msl 0 1 0 pos.length),(9,.ref 1 0)],[some (.ints (List.replicate pos.length (0:Int))),some (.cells (AH (q.cons.getD ((i).toNat) default)++AD q++[.ints pos,.msl 2 1 0 pos.length])),some (.ints o2)]⟩
 | .l2 AO LE B4 o2 o3=>∀ m0:Nat,n<=m0 -> TW B N (FQ Tryz.f36 0 (.ints r) []) (Ah m0 (Ap (AW Tryz.f36) 0 [])) ⟨AM 69 [(8,.msl 0 1 0 pos.length),(9,.ref 1 0),(10,.msl 3 1 0 AO),(47,.i LE),(48,.i B4)],[some (.ints (List.replicate pos.length (0:Int))),some (.cells (AH (q.cons.getD ((i).toNat) default)++AD q++[.ints pos,.msl 2 1 0 pos.length])),some (.ints o2),some (.ints o3)]⟩
theorem wa (B:Nat) (N:Yd 0) (q:AA) (i:Int) (pos:List Int):Al (Id q i pos) (wZ · B N q i pos):=ia (fun _=>rfl) fun n AF pt r h=>by
 cases pt
 case l1 o2=>
  revert r;apply gO;exact cn fun y1 A1=>jc (ES.snapNew (ds:=[.ints pos]) (zDw A1) (zAt pos q i o2) (eK (by kernel_rfl)) rfl) (lN Dq [0,1,2,3] (AF _ _ · n Nat.le.refl))
 case l2 AO LE B4 o2 o3=>
  intro m0 AB;refine rd AB fun m0 AB=>?_
  revert r;apply gO;exact bi 49 (jg sh (gc (gn fun g0=>jg g0 (gc (gn fun g1=>jg g1 (gc (gi (gc (gi (jg g0 (jg g1 (gw 64 (lG (AK 9 Dq) [0,1,2,3] (AF _ _ · m0 AB)))))))))))))) (gn fun g0=>cn fun y1 A1=>jc (sb [.msl 3 1 0 AO] (Pe A1) (zAs pos q i o2 o3) ⟨Ar.ints rfl g0,trivial⟩) (bi 66 (gn fun g1=>lF fun p=>ez (AK 9 Dq) [6] [0] p [0] (H0.g g1)) (lF fun p=>ez (AK 9 Dq) [6] [3] p [0] (H0.g g0))))
theorem wY {n:Nat} {q:AA} {i:Int} {pos:List Int} {r:(List Int)} (h:Jd n q i pos=some r):EQ 36 [.agg 5 (L1 (AD q)),.i i,.ints pos] [] (.ints r) [] true:=by
 have AF:=fun B N=>(wa B N q i pos n)
 refine ot Tryz.func36 fun B N=>?_
 revert r;apply gO;exact jt (gn fun g0=>jg g0 (cf Pe (zAu q pos) fun _=>bi 18 (gn fun g1=>lF fun p=>ez (AK 9 Dq) [6] [2] p [0] (H0.g g1)) (jg sf (gi (jg g0 (bn (fun c1=>nO) (fun c1=>bn (fun c3=>jo 36 (AS.int (k:=.i64) (eq_of_beq c3)) (jg (by decide:(0:Int)<=1/\ 1<((10:Nat):Int)) (ce zDQ [4,3] (Ko q pos i) fun _=>bi 42 (gn fun g2=>lF fun p=>ez (AK 9 Dq) [6] [2] p [0] (H0.g g2)) (lG (AK 9 Dq) [2,4,3] ((AF B N) _ _ ·))))) (fun c3=>bn (fun c5=>jo 36 (AS.int (k:=.i64) (eq_of_beq c5)) (jg (by decide:(0:Int)<=2/\ 2<((10:Nat):Int)) (ce zDc [4,3] (Ko q pos i) fun _=>bi 42 (gn fun g2=>lF fun p=>ez (AK 9 Dq) [6] [2] p [0] (H0.g g2)) (lG (AK 9 Dq) [2,4,3] ((AF B N) _ _ ·))))) (fun c5=>bn (fun c7=>jo 36 (AS.int (k:=.i64) (eq_of_beq c7)) (jg (by decide:(0:Int)<=3/\ 3<((10:Nat):Int)) (ce rG [4,3] (Ko q pos i) fun _=>bi 42 (gn fun g2=>lF fun p=>ez (AK 9 Dq) [6] [2] p [0] (H0.g g2)) (lG (AK 9 Dq) [2,4,3] ((AF B N) _ _ ·))))) (fun c7=>bn (fun c9=>jo 36 (AS.int (k:=.i64) (eq_of_beq c9)) (jg (by decide:(0:Int)<=4/\ 4<((10:Nat):Int)) (ce uM [4,3] (Ko q pos i) fun _=>bi 42 (gn fun g2=>lF fun p=>ez (AK 9 Dq) [6] [2] p [0] (H0.g g2)) (lG (AK 9 Dq) [2,4,3] ((AF B N) _ _ ·))))) (fun c9=>bn (fun pR=>jo 36 (AS.int (k:=.i64) (eq_of_beq pR)) (jg (by decide:(0:Int)<=5/\ 5<((10:Nat):Int)) (ce tX [4,3] (Ko q pos i) fun _=>bi 42 (gn fun g2=>lF fun p=>ez (AK 9 Dq) [6] [2] p [0] (H0.g g2)) (lG (AK 9 Dq) [2,4,3] ((AF B N) _ _ ·))))) (fun pR=>bn (fun pQ=>jo 36 (AS.int (k:=.i64) (eq_of_beq pQ)) (jg (by decide:(0:Int)<=6/\ 6<((10:Nat):Int)) (ce zEb [4,3] (Ko q pos i) fun _=>bi 42 (gn fun g2=>lF fun p=>ez (AK 9 Dq) [6] [2] p [0] (H0.g g2)) (lG (AK 9 Dq) [2,4,3] ((AF B N) _ _ ·))))) (fun pQ=>bn (fun pP=>jo 36 (AS.int (k:=.i64) (eq_of_beq pP)) (jg (by decide:(0:Int)<=7/\ 7<((10:Nat):Int)) (ce xV [4,3] (Ko q pos i) fun _=>bi 42 (gn fun g2=>lF fun p=>ez (AK 9 Dq) [6] [2] p [0] (H0.g g2)) (lG (AK 9 Dq) [2,4,3] ((AF B N) _ _ ·))))) (fun pP=>bn (fun pO=>jo 36 (AS.int (k:=.i64) (eq_of_beq pO)) (jg (by decide:(0:Int)<=8/\ 8<((10:Nat):Int)) (ce zDn [4,3] (Ko q pos i) fun _=>bi 42 (gn fun g2=>lF fun p=>ez (AK 9 Dq) [6] [2] p [0] (H0.g g2)) (lG (AK 9 Dq) [2,4,3] ((AF B N) _ _ ·))))) (fun pO=>bn (fun pN=>jo 36 (AS.int (k:=.i64) (eq_of_beq pN)) (jg (by decide:(0:Int)<=9/\ 9<((10:Nat):Int)) (ce xu [4,3] (Ko q pos i) fun _=>bi 42 (gn fun g2=>lF fun p=>ez (AK 9 Dq) [6] [2] p [0] (H0.g g2)) (lG (AK 9 Dq) [2,4,3] ((AF B N) _ _ ·))))) (fun pN=>nO))))))))))))))))
def kA (n:Nat) (q:AA) (i:Int) (pos:List Int):Option ((List Int)×Int):=
 (QX n q i pos).bind fun y1=>
  bif (y1 != 0) then
   some (([]:List Int),y1)
  else
   (Jd n q i pos).bind fun y2=>
    some (y2,0)
def NE (n:Nat) (q:AA) (i:Int) (pos:List Int):Option ((List Int)×Int):=kA n q i pos
theorem j9 {n:Nat} {q:AA} {i:Int} {pos:List Int} {r:(List Int)×Int} (h:NE n q i pos=some r):EQ 9 [.agg 5 (L1 (AD q)),.i i,.ints pos] [] (.tup 2 (L1 [.ints r.1,.i r.2])) [] true:=by
 unfold NE kA at h;refine ot Tryz.func9 fun B N=>?_
 revert r;apply gO;exact cf zDx [some (.cells (AD q))] fun y1=>bi 14 (lF fun p=>el AE [6,7] [] p [] H0 [.nils,.i y1] (AS.tupL (l:=[.nils,.i y1]) (l':=[.ints ([]:List Int),.i y1]) rfl ⟨AS.ints_nil,BQ,trivial⟩)) (cf wY [some (.cells (AD q))] fun _=>lE AE [6,7] [])
end Go.Proofs.YtekkngkphejfcaaGreatDoor
namespace Go.Proofs.YtekkngkphejfcaaGreatDoor
open Go.RowKit
def Bi (pos:List Int):Bool:=pos.any (· ==0)
theorem Fo {pos:List Int}:Bi pos=false↔∀ j,j<pos.length -> pos.getD j 0≠0:=by
 unfold Bi;rw [List.any_eq_false];constructor
 ·intro h j hj e;refine h (pos.getD j 0) ?_ (by rw [e];rfl);rw [u8,zBD hj];exact zB0 hj
 ·intro h x hx;obtain ⟨j,hj,rfl⟩:=zEz hx;have:=h j hj;rw [u8,zBD hj] at this;simpa using this
theorem zDV {pos:List Int} {n:Nat} (hl:pos.length<=LB) (hn:pos.length<n):X8 n pos=some (Bi pos):=by
 have hb:LB<=9223372036854775806:=by decide
 have key: ∀ (k i n:Nat),i+k=pos.length -> k+1<=n -> QU pos n (.l1 (i:Int))=some ((pos.drop i).any (· ==0)):=by
  intro k
  induction k with
  | zero=>
   intro i n e hn;obtain ⟨n,rfl⟩: ∃ k,n=k+1:=⟨n-1,by omega⟩
   show T6 n (QU pos n) pos (i:Int)=_
   unfold T6;rw [zAA (by omega),zAD,zEM (by omega)];rfl
  | succ k ih=>
   intro i n e hn;obtain ⟨n,rfl⟩: ∃ k,n=k+1:=⟨n-1,by omega⟩;have hi:i<pos.length:=by omega
   have e2:pos.drop i=pos.getD i 0::pos.drop (i+1):=by
    rw [zB2 hi,u8,zBD hi];rfl
   have:=ih (i+1) n (by omega) (by omega)
   show T6 n (QU pos n) pos (i:Int)=_
   unfold T6;rw [zBC (by omega),zBA,zAE ⟨by omega,by omega⟩,zAE (Ae.2 ⟨by omega,by omega⟩),zAB,e2,List.any_cons];cases h:(pos.getD i 0==0)
   ·rw [zAD,zFP];exact this
   ·rfl
 have:=key pos.length 0 n (by omega) (by omega);unfold X8 o9;exact this
theorem Nh {pos:List Int} {n:Nat} (hl:pos.length<=LB) (hn:pos.length<n):Gi n pos=some (Bi pos):=by
 unfold Gi bJ;rw [zDV hl hn];rfl
def posOk (q:AA) (pos:List Int):Bool:=((pos.length:Int)==q.cells)&&pos.all fun x=>decide (0<=x)&&decide (x<2 ^ q.symbols.toNat)
def B5 (q:AA) (pos:List Int):Int:=if C2 q then (if posOk q pos then 0 else 250) else 191
section
variable {q:AA} {i:Int} {pos:List Int} {n:Nat}
theorem kI (hF:CP q) (hn:EM q<=n) (hl:pos.length<=LB) (Jr:pos.length<n):NI n q pos=some (B5 q pos):=by
 have hb:LB<=9223372036854775806:=by decide
 unfold NI kG B5;rw [fR hF hn,zA9];cases hv:C2 q with
 | false=>rfl
 | true=>
  obtain ⟨_,hs,_⟩:=Dp hv;obtain ⟨p1,p2,p3⟩:=V9 hs.1 hs.2
  show (bif ((pos.length:Int) != q.cells) then some 250 else NH q pos n (.l1 0))=some (if posOk q pos=true then 0 else 250)
  unfold posOk
  by_cases Ak:(pos.length:Int)=q.cells
  ·have h1:((pos.length:Int) != q.cells)=false:=by simpa using Ak
   have h2:((pos.length:Int)==q.cells)=true:=by simpa using Ak
   rw [h1,zAD,h2,zCE]
   have key: ∀ (k i n:Nat),i+k=pos.length -> k+1<=n -> NH q pos n (.l1 (i:Int))=some (if ((pos.drop i).all fun x=>decide (0<=x)&&decide (x<2 ^ q.symbols.toNat))=true then 0 else 250):=by
    intro k
    induction k with
    | zero=>
     intro i n e hn;obtain ⟨n,rfl⟩: ∃ k,n=k+1:=⟨n-1,by omega⟩
     show Sh n (NH q pos n) q pos (i:Int)=_
     unfold Sh;rw [zAA (by omega),zAD,zEM (by omega)];rfl
    | succ k ih=>
     intro i n e hn;obtain ⟨n,rfl⟩: ∃ k,n=k+1:=⟨n-1,by omega⟩;have hi:i<pos.length:=by omega
     have e2:pos.drop i=pos.getD i 0::pos.drop (i+1):=by
      rw [zB2 hi,u8,zBD hi];rfl
     have:=ih (i+1) n (by omega) (by omega)
     show Sh n (NH q pos n) q pos (i:Int)=_
     unfold Sh;rw [zBC (by omega),zBA,zAE ⟨by omega,by omega⟩,zAE p3,zAE (Ae.2 ⟨by omega,by omega⟩),zAB,e2,zGA,p1]
     by_cases c1:pos.getD i 0<0
     ·rw [zBC c1,zBA,zAA (p:=0<=pos.getD i 0) (by omega)];rfl
     ·rw [zAA c1,zAD,zBC (p:=0<=pos.getD i 0) (by omega),zCE]
      by_cases c2:pos.getD i 0>=2 ^ q.symbols.toNat
      ·rw [zBC c2,zBA,zAA (p:=pos.getD i 0<2 ^ q.symbols.toNat) (by omega)];rfl
      ·rw [zAA c2,zAD,zBC (p:=pos.getD i 0<2 ^ q.symbols.toNat) (by omega),zCE];exact this
   exact key pos.length 0 n (by omega) (by omega)
  ·have h1:((pos.length:Int) != q.cells)=true:=by simpa using Ak
   have h2:((pos.length:Int)==q.cells)=false:=by simpa using Ak
   rw [h1,zBA,h2,zFI];rfl
def JB (q:AA) (i:Int) (pos:List Int):Int:=if (Hz q i).2=0 then B5 q pos else (Hz q i).2
theorem zDy (hF:CP q) (hn:EM q<=n) (hl:pos.length<=LB) (Jr:pos.length<n):QX n q i pos=some (JB q i pos):=by
 unfold QX dp JB;rw [aw hF hn,zA9,kI hF hn hl Jr,zA9]
 by_cases h:(Hz q i).2=0
 ·have:((Hz q i).2 != 0)=false:=by simpa using h
  rw [this,zAE h];rfl
 ·have:((Hz q i).2 != 0)=true:=by simpa using h
  rw [this,zBP h];rfl
structure BT (q:AA) (i:Int) (pos:List Int):Prop where
 fit:CP q
 valid:C2 q=true
 i0:0<=i
 i1:i<(q.cons.length:Int)
 pos:posOk q pos=true
def con (q:AA) (i:Int):AC:=q.cons.getD i.toNat default
theorem BT.of (hF:CP q) (h:JB q i pos=0):BT q i pos:=by
 unfold JB Hz B5 at h
 by_cases hv:C2 q=false
 ·rw [zAE hv] at h;rw [zBP (by decide)] at h;exact absurd h (by decide)
 ·rw [zBP hv] at h;have hv:C2 q=true:=by simpa using hv
  by_cases hi:0<=i/\ i<(q.cons.length:Int)
  ·rw [zAE hi,zAE rfl,zAE hv] at h
   by_cases hp:posOk q pos=true
   ·exact ⟨hF,hv,hi.1,hi.2,hp⟩
   ·rw [zBP hp] at h;exact absurd h (by decide)
  ·rw [zBP hi,zBP (by decide)] at h;exact absurd h (by decide)
theorem BT.check (C:BT q i pos):JB q i pos=0:=by
 have h1:Hz q i=(GM ((q.cons.getD i.toNat default).kind),0):=by
  unfold Hz;rw [zBP (by rw [C.valid];exact fun h=>by cases h),zAE ⟨C.i0,C.i1⟩]
 unfold JB B5;rw [h1,zAE rfl,zAE C.valid,zAE C.pos]
theorem BT.mem (C:BT q i pos):con q i∈q.cons:=by
 have h:=C.i0;have h1:=C.i1;unfold con;rw [u8,zBD (by omega)];exact zB0 _
theorem BT.fine (C:BT q i pos):DA q (con q i)=true:=(Dp C.valid).2.2.2.2.2 _ C.mem
theorem BT.kind (C:BT q i pos):Fi q.cells (con q i).kind (con q i).cells.length=true:=mE C.fine
theorem BT.len (C:BT q i pos):(pos.length:Int)=q.cells:=by
 have h:=C.pos;unfold posOk at h;rw [zBE,zBf] at h;exact h.1
theorem BT.sm (C:BT q i pos): ∀ j,j<pos.length -> Sm q.symbols.toNat (pos.getD j 0):=by
 intro j hj;have h:=C.pos;unfold posOk at h;rw [zBE,zBT] at h;have hm:pos.getD j 0∈pos:=by rw [u8,zBD hj];exact zB0 hj
 have:=h.2 _ hm;rw [zBE,zBV,zBV] at this;exact this
theorem BT.len256 (C:BT q i pos):0<pos.length/\ pos.length<=256:=by
 have h:=(Dp C.valid).1;have:=C.len;omega
theorem BT.cells (C:BT q i pos):(∀ x∈(con q i).cells,0<=x/\ x<q.cells)/\ (con q i).cells.Nodup/\ (8<=(con q i).kind -> ∀ j,j<(con q i).cells.length -> (con q i).cells.getD j 0=(j:Int)):=by
 have h:=C.fine;unfold DA at h;simp only [zBE] at h;exact dq.1 h.1.1.1.1.1
theorem BT.work (C:BT q i pos):Bq (con q i) q.symbols.toNat pos:=by
 obtain ⟨h1,h2,_⟩:=C.cells;have hl:=C.len;have h3:=(Dp C.valid).1;have h4:=(Dp C.valid).2.1;refine ⟨fun a ha=>?_,?_,C.sm,by omega⟩
 ·rw [hl];refine h1 _ ?_;rw [u8,zBD ha];exact zB0 ha
 ·have:=PP pos.length _ h2 fun x hx=>by rw [hl];exact h1 x hx
  omega
theorem BT.vals (C:BT q i pos):EE q q.symbols.toNat:=by
 obtain ⟨_,h2,⟨h3,h4⟩,_⟩:=Dp C.valid;rw [Qq] at h4;refine ⟨by omega,fun s hs=>h4 _ ?_⟩;rw [u8,zBD (by omega)];exact zB0 _
theorem BT.runs (C:BT q i pos):Ha (con q i):=by
 have h:=C.fine;unfold DA at h;simp only [zBE,zBV] at h;have h2:=Qq.1 h.2;refine ⟨by have:=h.1.2;omega,fun j hj=>(h2 _ ?_).2⟩;rw [u8,zBD hj];exact zB0 hj
theorem BT.two (C:BT q i pos) (hk:(con q i).kind=6∨(con q i).kind=7):(con q i).cells.length=2:=by
 have h:=C.kind;unfold Fi at h;rcases hk with hk | hk <;> rw [hk] at h <;> simpa using h
theorem BT.all (C:BT q i pos) (hk:(con q i).kind=8∨(con q i).kind=9) (hd:Bi pos=false):ED (con q i) q pos:=by
 have h:=C.kind;have hl:=C.len;have h256:=C.len256
 have h1:((con q i).cells.length:Int)=q.cells:=by
  unfold Fi at h;rcases hk with hk | hk <;> rw [hk] at h <;> simpa using h
 obtain ⟨_,_,_,⟨h5,h6⟩,_⟩:=Dp C.valid;exact ⟨by omega,fun j hj=>C.cells.2.2 (by omega) j (by omega),⟨h6,C.fit.nbrs⟩,by omega,h256.1,h256.2,fun j hj=>⟨(C.sm j hj).in64 (zBO C.work.k (by decide)),Fo.1 hd j hj⟩⟩
end
def Gg (q:AA) (c:AC) (pos:List Int):Prop:=
 (c.kind=2 -> JA c pos=true)/\ (c.kind=3 -> IQ q c pos=true)/\ (c.kind=5 -> JR c=true)/\ (c.kind=9 -> PY c q pos)
def By (q:AA) (c:AC) (pos:List Int) (a s:Nat):Prop:=
 (c.kind=1/\ MI c pos a s)∨(c.kind=2/\ Gq c pos a s=true)∨(c.kind=3/\ FX q c pos a s=true)∨(c.kind=4/\ Gd q c pos a s=true)∨(c.kind=5/\ G9 c pos a s)∨
 (c.kind=6/\ FJ (Ig q c) c pos a s)∨(c.kind=7/\ FJ (HE c) c pos a s)∨(c.kind=8/\ IE c q pos a s)∨(c.kind=9/\ Kj c q pos a s)
def KP (q:AA) (c:AC) (pos:List Int) (r:Bool×List Int):Prop:=(r.1=true↔Gg q c pos)/\ (r.1=true -> B2 c pos (List.replicate pos.length 0) c.cells.length (By q c pos) r.2)
def LC (q:AA) (c:AC) (pos:List Int) (j s:Nat):Prop:=∃ a,a<c.cells.length/\ (c.cells.getD a 0).toNat=j/\ By q c pos a s
structure Hd (q:AA) (c:AC) (pos:List Int):Prop where
 nz: ∀ j,j<pos.length -> pos.getD j 0≠0
 ok:Gg q c pos
 left: ∀ j,j<pos.length -> ∃ s,s<64/\ tb (pos.getD j 0) s=true/\ ¬ LC q c pos j s
structure PR (q:AA) (c:AC) (pos x:List Int):Prop where
 len:x.length=pos.length
 live:Hd q c pos -> ∀ j,j<pos.length -> Bs (x.getD j 0)/\ ∀ s,tb (x.getD j 0) s=true↔tb (pos.getD j 0) s=true/\ ¬ LC q c pos j s
 dead: ¬ Hd q c pos -> x=List.replicate pos.length 0
theorem PR.uniq {q:AA} {c:AC} {pos:List Int} (x y:List Int) (h:PR q c pos x) (h':PR q c pos y):x=y:=by
 by_cases hA:Hd q c pos
 ·have e:x.length=y.length:=h.len.trans h'.len.symm;refine zF4 e fun j h1 h2=>?_
  have hj:j<pos.length:=by rw [←h.len];exact h1
  have e1:x.getD j 0=x[j]:=by simp [h1]
  have e2:y.getD j 0=y[j]:=by simp [h2]
  rw [←e1,←e2];refine Hi (h.live hA j hj).1 (h'.live hA j hj).1 fun s _=>?_
  rw [zCM,(h.live hA j hj).2,(h'.live hA j hj).2]
 ·rw [h.dead hA,h'.dead hA]
section
variable {q:AA} {i:Int} {pos:List Int}
theorem Dz:(List.replicate pos.length (0:Int)).length=pos.length:=zCD
theorem K9 (j:Nat):(List.replicate pos.length (0:Int)).getD j 0=0:=by
 rw [u8,zE7];split <;> rfl
theorem Uk: ∀ j,Bs ((List.replicate pos.length (0:Int)).getD j 0):=fun j=>by rw [K9];exact ⟨by decide,by decide⟩
theorem eU:CO pos (List.replicate pos.length 0) (fun _ _=>False) (List.replicate pos.length 0):=⟨⟨Dz,Uk⟩,fun j s=>by simp⟩
theorem B2.congr {c:AC} {lost l:List Int} {D D':Nat -> Nat -> Prop} {m:Nat} (h:B2 c pos lost m D l) (hD: ∀ a s,D' a s↔D a s):B2 c pos lost m D' l:=by
 refine ⟨h.1,fun j s=>?_⟩;rw [h.2];simp only [hD]
def Ho (n:Nat) (q:AA) (c:AC) (pos:List Int):Option (Bool×List Int):=
 bif c.kind==1 then QT n c q pos pos.length (List.replicate pos.length 0) else bif c.kind==2 then QV n c q pos pos.length (List.replicate pos.length 0) else
 bif c.kind==3 then Oi n c q pos pos.length (List.replicate pos.length 0) else bif c.kind==4 then LX n c q pos pos.length (List.replicate pos.length 0) else
 bif c.kind==5 then Ov n c q pos pos.length (List.replicate pos.length 0) else bif c.kind==6 then OW n c q pos pos.length (List.replicate pos.length 0) else
 bif c.kind==7 then NS n c q pos pos.length (List.replicate pos.length 0) else bif c.kind==8 then YD n c q pos pos.length (List.replicate pos.length 0) else
 bif c.kind==9 then Wa n c q pos pos.length (List.replicate pos.length 0) else none
theorem t7 (C:BT q i pos) (hd:Bi pos=false):AU (fun n=>Ho n q (con q i) pos) (KP q (con q i) pos):=by
 have W:=C.work;have hz:(List.replicate pos.length (0:Int)).length=pos.length:=Dz
 have all: ∀ k:Int,(con q i).kind=k -> ∀ {f:Nat -> Option (Bool×List Int)} {N:Nat} {ok:Bool} {D:Nat -> Nat -> Prop},(∀ n,N<=n -> ∃ l,f n=some (ok,l)/\ (ok=true -> B2 (con q i) pos (List.replicate pos.length 0) (con q i).cells.length D l)) -> (ok=true↔Gg q (con q i) pos) -> (∀ a s,By q (con q i) pos a s↔D a s) -> AU f (KP q (con q i) pos):=by
  intro k _ f N ok D h B6 hD;refine ⟨N,fun n hn=>?_⟩;obtain ⟨l,h1,h2⟩:=h n hn;exact ⟨(ok,l),h1,B6,fun h3=>(h2 h3).congr hD⟩
 have kc:=Nd (Pb C.kind);have Hw: ∀ {k:Int},(con q i).kind=k -> k≠2 -> k≠3 -> k≠5 -> k≠9 -> Gg q (con q i) pos:=fun hk h2 h3 h5 h9=>⟨fun h=>absurd (hk.symm.trans h) h2,fun h=>absurd (hk.symm.trans h) h3,fun h=>absurd (hk.symm.trans h) h5,fun h=>absurd (hk.symm.trans h) h9⟩
 rcases kc with hk | hk | hk | hk | hk | hk | hk | hk | hk
 ·refine AU.eq (all 1 hk (f:=fun n=>QT n (con q i) q pos pos.length (List.replicate pos.length 0)) (N:=2*(con q i).cells.length+2) (ok:=true) (D:=MI (con q i) pos) (fun n hn=>?_) ⟨fun _=>Hw hk (by decide) (by decide) (by decide) (by decide),fun _=>rfl⟩ fun a s=>?_) fun n=>?_
  ·obtain ⟨l,h1,h2⟩:=zDN (q:=q) W hz hn;exact ⟨l,h1,fun _=>h2⟩
  ·unfold By;rw [hk];simp
  ·unfold Ho;rw [hk];rfl
 ·refine AU.eq (all 2 hk (f:=fun n=>QV n (con q i) q pos pos.length (List.replicate pos.length 0)) (N:=2*(con q i).cells.length+3) (ok:=JA (con q i) pos) (D:=fun a s=>Gq (con q i) pos a s=true) (fun n hn=>?_) ⟨fun h=>⟨fun _=>h,fun h=>absurd (hk.symm.trans h) (by decide),fun h=>absurd (hk.symm.trans h) (by decide),fun h=>absurd (hk.symm.trans h) (by decide)⟩,fun h=>h.1 hk⟩ fun a s=>?_) fun n=>?_
  ·exact zDa (q:=q) W hz hn
  ·unfold By;rw [hk];simp
  ·unfold Ho;rw [hk];rfl
 ·refine AU.eq (all 3 hk (f:=fun n=>Oi n (con q i) q pos pos.length (List.replicate pos.length 0)) (N:=2*(con q i).cells.length+3) (ok:=IQ q (con q i) pos) (D:=fun a s=>FX q (con q i) pos a s=true) (fun n hn=>?_) ⟨fun h=>⟨fun h=>absurd (hk.symm.trans h) (by decide),fun _=>h,fun h=>absurd (hk.symm.trans h) (by decide),fun h=>absurd (hk.symm.trans h) (by decide)⟩,fun h=>h.2.1 hk⟩ fun a s=>?_) fun n=>?_
  ·exact rC W C.vals hz hn
  ·unfold By;rw [hk];simp
  ·unfold Ho;rw [hk];rfl
 ·refine AU.eq (all 4 hk (f:=fun n=>LX n (con q i) q pos pos.length (List.replicate pos.length 0)) (N:=2*(con q i).cells.length+3) (ok:=true) (D:=fun a s=>Gd q (con q i) pos a s=true) (fun n hn=>?_) ⟨fun _=>Hw hk (by decide) (by decide) (by decide) (by decide),fun _=>rfl⟩ fun a s=>?_) fun n=>?_
  ·obtain ⟨l,h1,h2⟩:=uJ W C.vals hz hn;exact ⟨l,h1,fun _=>h2⟩
  ·unfold By;rw [hk];simp
  ·unfold Ho;rw [hk];rfl
 ·obtain ⟨l,⟨N,h1⟩,h2⟩:=tW (q:=q) W C.runs hz Uk;refine AU.eq (all 5 hk (N:=N) (ok:=JR (con q i)) (D:=G9 (con q i) pos) (fun n hn=>⟨l,h1 n hn,h2⟩) ⟨fun h=>⟨fun h=>absurd (hk.symm.trans h) (by decide),fun h=>absurd (hk.symm.trans h) (by decide),fun _=>h,fun h=>absurd (hk.symm.trans h) (by decide)⟩,fun h=>h.2.2.1 hk⟩ fun a s=>?_) fun n=>?_
  ·unfold By;rw [hk];simp
  ·unfold Ho;rw [hk];rfl
 ·refine AU.eq (all 6 hk (f:=fun n=>OW n (con q i) q pos pos.length (List.replicate pos.length 0)) (N:=0) (ok:=true) (D:=FJ (Ig q (con q i)) (con q i) pos) (fun n hn=>?_) ⟨fun _=>Hw hk (by decide) (by decide) (by decide) (by decide),fun _=>rfl⟩ fun a s=>?_) fun n=>?_
  ·obtain ⟨l,h1,h2⟩:=zEa (n:=n) W C.vals (C.two (.inl hk)) hz;exact ⟨l,h1,fun _=>h2⟩
  ·unfold By;rw [hk];simp
  ·unfold Ho;rw [hk];rfl
 ·refine AU.eq (all 7 hk (f:=fun n=>NS n (con q i) q pos pos.length (List.replicate pos.length 0)) (N:=0) (ok:=true) (D:=FJ (HE (con q i)) (con q i) pos) (fun n hn=>?_) ⟨fun _=>Hw hk (by decide) (by decide) (by decide) (by decide),fun _=>rfl⟩ fun a s=>?_) fun n=>?_
  ·obtain ⟨l,h1,h2⟩:=xU (n:=n) (q:=q) W (C.two (.inr hk)) hz;exact ⟨l,h1,fun _=>h2⟩
  ·unfold By;rw [hk];simp
  ·unfold Ho;rw [hk];rfl
 ·obtain ⟨l,⟨N,h1⟩,h2⟩:=zDm (C.all (.inl hk) hd) eU;refine AU.eq (all 8 hk (N:=N) (ok:=true) (D:=IE (con q i) q pos) (fun n hn=>⟨l,h1 n hn,fun _=>h2.by (C.all (.inl hk) hd)⟩) ⟨fun _=>Hw hk (by decide) (by decide) (by decide) (by decide),fun _=>rfl⟩ fun a s=>?_) fun n=>?_
  ·unfold By;rw [hk];simp
  ·unfold Ho;rw [hk];rfl
 ·refine AU.eq ((xt (C.all (.inr hk) hd) eU).mono fun r hr=>⟨?_,fun h=>((hr.2 h).by (C.all (.inr hk) hd)).congr fun a s=>?_⟩) fun n=>?_
  ·rw [hr.1];exact ⟨fun h=>⟨fun h=>absurd (hk.symm.trans h) (by decide),fun h=>absurd (hk.symm.trans h) (by decide),fun h=>absurd (hk.symm.trans h) (by decide),fun _=>h⟩,fun h=>h.2.2.2 hk⟩
  ·unfold By;rw [hk];simp
  ·unfold Ho;rw [hk];rfl
theorem qv {n:Nat} {o2:List Int} (hl:o2.length=pos.length) (h256:pos.length<=256) (hn:600<=n):
 ∃ x,x.length=pos.length/\ (∀ j,j<pos.length -> x.getD j 0=bits .andNot .i64 (pos.getD j 0) (o2.getD j 0))/\ Id q i pos n (.l2 pos.length (pos.length:Int) 0 o2 pos)=some (if Bi x then List.replicate pos.length 0 else x):=by
 have lb:(256:Nat)<=LB:=by decide
 obtain ⟨n1,x,H7,_,e,hx,Np,W5⟩:=HG (fun n (o3:List Int) k=>Id q i pos n (.l2 pos.length (pos.length:Int) k o2 o3)) pos.length 260
  (fun k o3=>o3.length=pos.length/\ (∀ j,j<k -> o3.getD j 0=bits .andNot .i64 (pos.getD j 0) (o2.getD j 0))/\ ∀ j,k<=j -> o3.getD j 0=pos.getD j 0) (fun n k o3 Fk hk hI=>by
   obtain ⟨h1,h2,h3⟩:=hI
   show ∃ s',Sb n (Id q i pos n) q i pos pos.length (pos.length:Int) (k:Int) o2 o3=_/\ _
   unfold Sb;simp only [zAB,zBj];rw [zBC (by omega),zBA,zAE ⟨⟨by omega,by omega⟩,by omega,⟨by omega,by omega⟩,by omega,Ae.2 ⟨by omega,by omega⟩⟩];refine ⟨_,rfl,by rw [zBo];exact h1,fun j hj=>?_,fun j hj=>?_⟩
   ·by_cases e:k=j
    ·subst e;rw [I2 (by omega),h3 k (by omega)]
    ·rw [getD_set_ne e];exact h2 j (by omega)
   ·rw [getD_set_ne (by omega)];exact h3 j (by omega)) (n:=n) (s:=pos) (by omega) ⟨rfl,fun j hj=>absurd hj (zBW j),fun j _=>rfl⟩
 obtain ⟨n2,rfl⟩: ∃ n2,n1=n2+1:=⟨n1-1,by omega⟩;refine ⟨x,hx,Np,Eq.trans e ?_⟩
 show Sb n2 (Id q i pos n2) q i pos pos.length (pos.length:Int) (pos.length:Int) o2 x=_
 unfold Sb;rw [zAA (by omega),zAD,zAE hx.symm,Nh (by omega) (by omega),zA9];cases Bi x
 ·rfl
 ·rw [zBA,zAE Dz.symm];rfl
def U0 (n:Nat) (q:AA) (i:Int) (pos:List Int) (y2:Bool×List Int):Option (List Int):=
 bif (!y2.1) then (if pos.length=(List.replicate pos.length (0:Int)).length then some (List.replicate pos.length (0:Int)) else none) else Id q i pos n (.l1 y2.2)
theorem qx (C:BT q i pos) (hd:Bi pos=false) {n:Nat} (hn:601<=n) {y2:Bool×List Int} (hy:KP q (con q i) pos y2): ∃ x,U0 n q i pos y2=some x/\ PR q (con q i) pos x:=by
 have h256:=C.len256;have L:(1000000000000:Nat)=A7:=rfl;have nz:=Fo.1 hd;obtain ⟨b,lost⟩:=y2;obtain ⟨B6,Nx⟩:=hy;unfold U0;cases b with
 | false=>
  refine ⟨_,by rw [zCN,zBA,zAE Dz.symm],Dz,fun hA=>?_,fun _=>rfl⟩;have:=B6.2 hA.ok;cases this
 | true=>
  have B6:=B6.1 rfl;have Nx:B2 (con q i) pos (List.replicate pos.length 0) (con q i).cells.length (By q (con q i) pos) lost:=Nx rfl;obtain ⟨n,rfl⟩: ∃ k,n=k+1:=⟨n-1,by omega⟩;obtain ⟨x,h1,h2,h3⟩:=qv (q:=q) (i:=i) (n:=n) Nx.1 h256.2 (by omega)
  have hx: ∀ j,j<pos.length -> Bs (x.getD j 0)/\ ∀ s,tb (x.getD j 0) s=true↔tb (pos.getD j 0) s=true/\ ¬ LC q (con q i) pos j s:=fun j hj=>by
   rw [h2 j hj];refine ⟨Cy _ _ _,fun s=>?_⟩;rw [GA,zBE,zBh,←zFL,Nx.2,K9];constructor
   ·rintro ⟨h4,h5⟩;refine ⟨h4,fun ⟨a,ha,e,hs⟩=>h5 (.inr ⟨a,ha,e,?_,hs⟩)⟩
    show tb (pos.getD ((con q i).cells.getD a 0).toNat 0) s=true
    rw [e];exact h4
   ·rintro ⟨h4,h5⟩;refine ⟨h4,fun h6=>h6.elim (fun h=>IN h) fun ⟨a,ha,e,_,hs⟩=>h5 ⟨a,ha,e,hs⟩⟩
  have BU:YH n pos=some pos:=by
   unfold YH pH;rw [zAE ⟨h256.1,trivial,⟨rfl,rfl⟩,by rw [←L];simp only [zFF];omega⟩,zAE (by simp)];rfl
  have e:Id q i pos (n+1) (.l1 lost)=some (if Bi x then List.replicate pos.length 0 else x):=by
   show aG n (Id q i pos n) q i pos lost=_
   unfold aG;rw [BU,zA9];exact h3
  refine ⟨_,by rw [zCJ,zAD];exact e,?_,fun hA j hj=>?_,fun hA=>?_⟩
  ·split
   ·exact Dz
   ·exact h1
  ·rw [zBP]
   ·exact hx j hj
   ·rw [zFL,Fo];intro j hj;rw [h1] at hj;obtain ⟨s,hs,h4,h5⟩:=hA.left j hj;exact (Eg (hx j hj).1).2 ⟨s,hs,((hx j hj).2 s).2 ⟨h4,h5⟩⟩
  ·rw [zAE];refine Classical.byContradiction fun h=>hA ?_
   rw [zFL,Fo] at h;refine ⟨nz,B6,fun j hj=>?_⟩;obtain ⟨s,hs,h4⟩:=(Eg (hx j hj).1).1 (h j (by omega));exact ⟨s,hs,((hx j hj).2 s).1 h4⟩
theorem wX (C:BT q i pos): ∃ x,Ev (fun n=>Jd n q i pos) x/\ PR q (con q i) pos x:=by
 have h256:=C.len256;have lb:(256:Nat)<=LB:=by decide
 have hi:0<=i/\ i<(q.cons.length:Int):=⟨C.i0,C.i1⟩;cases hd:Bi pos
 ·suffices H:AU (fun n=>Jd n q i pos) (PR q (con q i) pos) by
   obtain ⟨x,h1,h2⟩:=H.ev PR.uniq;exact ⟨x,h2,h1⟩
  obtain ⟨N,hN⟩:=AU.bindU (t7 C hd) (b:=fun n y2=>U0 n q i pos y2) (Q:=PR q (con q i) pos) ⟨601,fun n hn y2 hy=>qx C hd hn hy⟩;refine ⟨N+300,fun n hn=>?_⟩;obtain ⟨x,h1,h2⟩:=hN n (by omega);refine ⟨x,Eq.trans ?_ h1,h2⟩
  show Jd n q i pos=(Ho n q (con q i) pos).bind fun y2=>U0 n q i pos y2
  unfold Jd aH;rw [zAE ⟨rfl,by omega,by omega⟩,Nh (by omega) (by omega),hd,zA9,zAD,zAE hi];have hc:q.cons.getD i.toNat default=con q i:=rfl;rw [hc];have kc:=Nd (Pb C.kind);unfold Ho;rcases kc with hk | hk | hk | hk | hk | hk | hk | hk | hk <;> rw [hk] <;> rfl
 ·refine ⟨List.replicate pos.length 0,⟨300,fun n hn=>?_⟩,Dz,fun hA=>?_,fun _=>rfl⟩
  ·show Jd n q i pos=_
   unfold Jd aH;rw [zAE ⟨rfl,by omega,by omega⟩,Nh (by omega) (by omega),hd,zA9,zBA,zAE Dz.symm]
  ·have:=Fo.2 hA.nz;rw [hd] at this;cases this
def PrP (q:AA) (i:Int) (pos:List Int) (r:List Int×Int):Prop:=r.2=JB q i pos/\ (r.2=0 -> PR q (con q i) pos r.1)/\ (r.2≠0 -> r.1= [])
theorem wb (hF:CP q) (hl:pos.length<=LB): ∃ r,Ev (fun n=>NE n q i pos) r/\ PrP q i pos r:=by
 have hE:Ev (fun n=>QX n q i pos) (JB q i pos):=⟨EM q+pos.length+1,fun n hn=>zDy hF (by omega) hl (by omega)⟩
 by_cases h0:JB q i pos=0
 ·obtain ⟨x,h1,h2⟩:=wX (BT.of hF h0);refine ⟨(x,0),?_,h0.symm,fun _=>h2,fun h=>absurd rfl h⟩;refine Ev.eq (Ev.bind hE (b:=fun n y1=>bif (y1 != 0) then some (([]:List Int),y1) else (Jd n q i pos).bind fun y2=>some (y2,0)) ?_) fun n=>rfl
  rw [h0];exact Ev.bind h1 (b:=fun _ y2=>some (y2,0)) (Ev.now fun n=>rfl)
 ·refine ⟨([],JB q i pos),?_,rfl,fun h=>absurd h h0,fun _=>rfl⟩;refine Ev.eq (Ev.bind hE (b:=fun n y1=>bif (y1 != 0) then some (([]:List Int),y1) else (Jd n q i pos).bind fun y2=>some (y2,0)) (Ev.now fun n=>?_)) fun n=>rfl
  have:(JB q i pos != 0)=true:=by simpa using h0
  rw [this];rfl
end
end Go.Proofs.YtekkngkphejfcaaGreatDoor
namespace Go.Proofs.YtekkngkphejfcaaGreatDoor
abbrev zGo:=@forall_eq_or_imp
end Go.Proofs.YtekkngkphejfcaaGreatDoor
namespace Go.Proofs.YtekkngkphejfcaaGreatDoor
open Go.RowKit
structure OA (q:AA) (c:AC) (p:List Int):Prop where
 nz: ∀ k,k<c.cells.length -> AL c p k≠0
 ok:Gg q c p
 left: ∀ k,k<c.cells.length -> ∃ s,tb (AL c p k) s=true/\ ¬ By q c p k s
theorem UD {α:Type} {f g:α -> Bool}: ∀ (l:List α),(∀ x∈l,f x=true -> g x=true) -> l.countP f<=l.countP g
 | [],_=>zBa _
 | x::l,h=>by
  have h1:=UD l fun y hy=>h y (zCG _ hy)
  have h2:=h x zC4;rw [zFt,zFt];cases hf:f x
  ·simp only [zCQ,zFo];omega
  ·rw [h2 hf];simp only [zDH];omega
theorem UC {α:Type} {f g:α -> Bool} {a:α} (hf:f a=false) (hg:g a=true): ∀ (l:List α),(∀ x∈l,f x=true -> g x=true) -> a∈l -> l.countP f+1<=l.countP g
 | [],_,h=>by cases h
 | x::l,h,ha=>by
  rw [zFt,zFt];rcases zCB.1 ha with rfl | ha
  ·have h1:=UD l fun y hy=>h y (zCG _ hy)
   rw [hf,hg,zAE rfl];simp only [zCQ,zFo];omega
  ·have h1:=UC hf hg l (fun y hy=>h y (zCG _ hy)) ha;have h2:=h x zC4;cases hx:f x
   ·simp only [zCQ,zFo];omega
   ·rw [h2 hx];simp only [zDH];omega
theorem pG {f g:Nat -> Bool} {m:Nat} (h: ∀ a,a<m -> f a=true -> g a=true):cnt f m<=cnt g m:=by
 unfold cnt;have:=UD (f:=f) (g:=g) (List.range m) fun x hx=>h x (zBc.1 hx)
 omega
theorem pF {f g:Nat -> Bool} {m a:Nat} (h: ∀ a,a<m -> f a=true -> g a=true) (ha:a<m) (hf:f a=false) (hg:g a=true):cnt f m+1<=cnt g m:=by
 unfold cnt;have:=UC hf hg (List.range m) (fun x hx=>h x (zBc.1 hx)) (zBc.2 ha);omega
theorem ZF {k:Nat} {x:Int} (hx:Sm k x) (hk:k<=16) (h:LL x=true) {s t:Nat} (hs:tb x s=true) (ht:tb x t=true):s=t:=by
 have Ti:=Je (k:=k) (zBO hk (by decide));obtain ⟨m,rfl⟩:=zFf hx.1;have AP:m<18446744073709551616:=by have:=hx.2;omega
 have lo: ∀ {u:Nat},tb (m:Int) u=true -> u<64:=fun {u} hu=>zB1 fun h=>by rw [IM h] at hu;cases hu
 have h0:m≠0:=by
  rintro rfl;exact IN hs
 have e:m&&& (m-1)=0:=by
  unfold LL at h;rw [zBf] at h;apply Nat.eq_of_testBit_eq;intro u;rw [Nat.zero_testBit,Nat.testBit_and];rcases zFQ u 64 with hu | hu
  ·have h2:=(KA (Cy .and _ _)).1 h u hu;have e1:(m:Int)-1=((m-1:Nat):Int):=by omega
   rw [EJ,e1,Hh _ _ hu,Hh _ _ hu] at h2;exact h2
  ·rw [zGg (zBY AP (zGH (n:=2) (by decide) hu)),zFI]
 have S:=gT m AP h0;rw [e,gR] at S
 have mem: ∀ {u:Nat},tb (m:Int) u=true -> u∈Eh m:=fun {u} hu=>by
  unfold Eh;rw [zFU,zBc];exact ⟨lo hu,by rw [←Hh m u (lo hu)];exact hu⟩
 have h1:=mem hs;have h2:=mem ht;rw [S,zBm] at h1 h2;rw [h1,h2]
section
variable {q:AA} {i:Int} {p p':List Int}
theorem Pg {c:AC} {x:Int} (h:bits .andNot .i64 x c.set=0) {s:Nat} (hs:tb x s=true):tb c.set s=true:=by
 have HP:s<64:=zB1 fun h=>by rw [IM h] at hs;cases hs
 have:=(KA (Cy .andNot _ _)).1 h s HP;rw [GA,hs,zCE,Bool.not_eq_false'] at this;exact this
theorem eJ {c:AC} {x x':Int} (h: ∀ s,tb x' s=true -> tb x s=true) (hx:bits .andNot .i64 x c.set=0):bits .andNot .i64 x' c.set=0:=
 (KA (Cy .andNot _ _)).2 fun s hs=>by
  rw [GA];cases h1:tb x' s with
  | false=>rfl
  | true=>rw [Pg hx (h s h1)];rfl
theorem eI {c:AC} {x x':Int} (h: ∀ s,tb x' s=true -> tb x s=true) (hx:bits .and .i64 x' c.set≠0):bits .and .i64 x c.set≠0:=by
 obtain ⟨s,hs,h1⟩:=(Eg (Cy .and _ _)).1 hx;rw [EJ,zBE] at h1;exact (Eg (Cy .and _ _)).2 ⟨s,hs,by rw [EJ,h s h1.1,h1.2];rfl⟩
theorem eH {c:AC} {x:Int} {s:Nat} (h1:tb x s=true) (h2:tb c.set s=true):bits .and .i64 x c.set≠0:=by
 have HP:s<64:=zB1 fun h=>by rw [IM h] at h1;cases h1
 exact (Eg (Cy .and _ _)).2 ⟨s,HP,by rw [EJ,h1,h2];rfl⟩
theorem zEe {c:AC} {x:Int} {s:Nat} (h1:tb x s=true) (h2:tb c.set s=false):bits .andNot .i64 x c.set≠0:=by
 have HP:s<64:=zB1 fun h=>by rw [IM h] at h1;cases h1
 exact (Eg (Cy .andNot _ _)).2 ⟨s,HP,by rw [GA,h1,h2];rfl⟩
def F5 (c:AC) (p' p:List Int):Prop:=∀ k,k<c.cells.length -> ∀ s,tb (AL c p' k) s=true -> tb (AL c p k) s=true
theorem zDP {c:AC} {k:Nat} (W:Bq c k p) (hS:F5 c p' p) (Bw: ∀ a,a<c.cells.length -> Bs (AL c p' a)) (Pv: ∀ a,a<c.cells.length -> AL c p' a≠0) {a s:Nat} (h:MI c p a s):MI c p' a s:=by
 obtain ⟨b,hb,AY,h1,h2⟩:=h;have hx:=W.at hb
 have e:AL c p' b=AL c p b:=by
  refine Hi (Bw b hb) (hx.in64 (by have:=W.k;omega)) fun t _=>?_
  obtain ⟨u,_,hu⟩:=(Eg (Bw b hb)).1 (Pv b hb);have zf:u=s:=ZF hx W.k h1 (hS b hb u hu) h2;subst zf;cases ht:tb (AL c p b) t with
  | true=>
   have:t=u:=ZF hx W.k h1 ht h2;subst this;exact hu
  | false=>
   cases W8:tb (AL c p' b) t with
   | false=>rfl
   | true=>rw [hS b hb t W8] at ht;cases ht
 refine ⟨b,hb,AY,?_,?_⟩
 ·rw [e];exact h1
 ·rw [e];exact h2
theorem lP {c:AC} (hS:F5 c p' p) {a:Nat} (ha:a<c.cells.length) (h:Bl c p a=true):Bl c p' a=true:=by
 unfold Bl at h ⊢;rw [zBf] at h ⊢;exact eJ (hS a ha) h
theorem lW {c:AC} (hS:F5 c p' p) (Bw: ∀ a,a<c.cells.length -> Bs (AL c p' a)) (Pv: ∀ a,a<c.cells.length -> AL c p' a≠0) {a:Nat} (ha:a<c.cells.length) (h:CE c p' a=true):CE c p a=true:=by
 unfold CE at h ⊢;rw [zBg,zFX] at h ⊢;right;rcases h with h | h
 ·unfold Bl at h;rw [zBf] at h;obtain ⟨u,_,hu⟩:=(Eg (Bw a ha)).1 (Pv a ha);exact eH (hS a ha u hu) (Pg h hu)
 ·exact eI (hS a ha) h
theorem zDb {c:AC} (hS:F5 c p' p) (Bw: ∀ a,a<c.cells.length -> Bs (AL c p' a)) (Pv: ∀ a,a<c.cells.length -> AL c p' a≠0) (B6:JA c p'=true):
 JA c p=true/\ ∀ a s,a<c.cells.length -> tb (AL c p' a) s=true -> Gq c p a s=true -> Gq c p' a s=true:=by
 have m1:=pG (f:=Bl c p) (g:=Bl c p') (m:=c.cells.length) fun a ha=>lP hS ha
 have m2:=pG (f:=CE c p') (g:=CE c p) (m:=c.cells.length) fun a ha=>lW hS Bw Pv ha
 unfold JA at B6 ⊢;rw [zBE,zBh,zBh,zE1,zE1] at B6 ⊢;refine ⟨⟨by omega,by omega⟩,fun a s ha hs h=>?_⟩;unfold Gq at h ⊢;rw [zBg,zBE,zBE,zBE,zBE,zBf,zBf,zFX,zFX,zBh] at h ⊢;rcases h with ⟨⟨h1,h2⟩,h3⟩ | ⟨⟨h1,h2⟩,h3⟩
 ·refine .inl ⟨⟨by omega,fun h4=>?_⟩,h3⟩;have:=pF (f:=Bl c p) (g:=Bl c p') (m:=c.cells.length) (a:=a) (fun a ha=>lP hS ha) ha (by unfold Bl;exact zB4.2 h2) (by unfold Bl;exact zBf.2 h4);omega
 ·refine .inr ⟨⟨by omega,fun h4=>?_⟩,h3⟩
  have:=pF (f:=CE c p') (g:=CE c p) (m:=c.cells.length) (a:=a) (fun a ha=>lW hS Bw Pv ha) ha
   (by
    unfold CE Bl;rw [zGr,zB4,bne_eq_false_iff_eq];exact ⟨zEe hs h3,h4⟩) (by unfold CE;rw [zBg,zFX];exact .inr h2)
  omega
theorem Yx {f g:Nat -> Int}: ∀ {m:Nat},(∀ a,a<m -> f a<=g a) -> CI f m<=CI g m/\ ∀ a,a<m -> CI f m-f a<=CI g m-g a
 | 0,_=>⟨zCH _,fun a ha=>absurd ha (zBW a)⟩
 | m+1,h=>by
  obtain ⟨h1,h2⟩:=Yx (m:=m) fun a ha=>h a (by omega)
  have hm:=h m (by omega);have e: ∀ f:Nat -> Int,CI f (m+1)=CI f m+f m:=fun f=>rfl
  rw [e,e];refine ⟨by omega,fun a ha=>?_⟩;rcases zBH.1 ha with ha | rfl
  ·have:=h2 a ha;omega
  ·omega
theorem Wd {n:Int}: ∀ (l:List Int) (a:Int),n<=l.foldl (HH q) a↔n<=a/\ ∀ e∈l,n<=q.values.getD e.toNat 0
 | [],a=>by simp
 | e::l,a=>by
  rw [zFG,Wd l];unfold HH;simp only [zCB,zGo];split <;> constructor <;> rintro ⟨h1,h2⟩
  ·exact ⟨by omega,h1,h2⟩
  ·exact ⟨h2.1,h2.2⟩
  ·exact ⟨h1,by omega,h2⟩
  ·exact ⟨h1,h2.2⟩
theorem XM {n:Int}: ∀ (l:List Int) (a:Int),l.foldl (HM q) a<=n↔a<=n/\ ∀ e∈l,q.values.getD e.toNat 0<=n
 | [],a=>by simp
 | e::l,a=>by
  rw [zFG,XM l];unfold HM;simp only [zCB,zGo];split <;> constructor <;> rintro ⟨h1,h2⟩
  ·exact ⟨by omega,h1,h2⟩
  ·exact ⟨h2.1,h2.2⟩
  ·exact ⟨h1,by omega,h2⟩
  ·exact ⟨h1,h2.2⟩
theorem Y6 {k:Nat} (hk:k<=16) {x x':Int} (hx:Sm k x) (HI:Sm k x') (h: ∀ s,tb x' s=true -> tb x s=true): ∀ e∈BK x',e∈BK x:=fun e he=>by
 obtain ⟨s,rfl,h1,h2⟩:=(EW HI (zBO hk (by decide))).1 he;exact (EW hx (zBO hk (by decide))).2 ⟨s,rfl,h1,h s h2⟩
theorem rD {c:AC} {k:Nat} (W:Bq c k p) (W':Bq c k p') (hS:F5 c p' p) (B6:IQ q c p'=true):
 IQ q c p=true/\ ∀ a s,a<c.cells.length -> FX q c p a s=true -> FX q c p' a s=true:=by
 have sub: ∀ a,a<c.cells.length -> ∀ e∈BK (AL c p' a),e∈BK (AL c p a):=fun a ha=>Y6 W.k (W.at ha) (W'.at ha) (hS a ha)
 have l1: ∀ a,a<c.cells.length -> B0 q (AL c p a)<=B0 q (AL c p' a):=fun a ha=>by
  have h:=(Wd (q:=q) (BK (AL c p a)) 100).1 (zCH _);exact (Wd (BK (AL c p' a)) 100).2 ⟨h.1,fun e he=>h.2 e (sub a ha e he)⟩
 have l2: ∀ a,a<c.cells.length -> B1 q (AL c p' a)<=B1 q (AL c p a):=fun a ha=>by
  have h:=(XM (q:=q) (BK (AL c p a)) (-1)).1 (zCH _);exact (XM (BK (AL c p' a)) (-1)).2 ⟨h.1,fun e he=>h.2 e (sub a ha e he)⟩
 have t1:=Yx (f:=fun a=>B0 q (AL c p a)) (g:=fun a=>B0 q (AL c p' a)) (m:=c.cells.length) l1;have t2:=Yx (f:=fun a=>B1 q (AL c p' a)) (g:=fun a=>B1 q (AL c p a)) (m:=c.cells.length) l2;have e1: ∀ p,Jm q c p=CI (fun a=>B0 q (AL c p a)) c.cells.length:=fun _=>rfl
 have e2: ∀ p,Jt q c p=CI (fun a=>B1 q (AL c p a)) c.cells.length:=fun _=>rfl
 unfold IQ at B6 ⊢;rw [zBE,zBh,zBh,zE1,zE1,e1,e2] at B6 ⊢;refine ⟨⟨by omega,by omega⟩,fun a s ha h=>?_⟩;unfold FX at h ⊢;rw [zBg,zBV,zBV,e1,e2] at h ⊢;have h1:=t1.2 a ha;have h2:=t2.2 a ha;rcases h with h | h
 ·exact .inl (by omega)
 ·exact .inr (by omega)
theorem Us {n b:Int}: ∀ (l:List Int) (a:Int),n<=l.foldl (JL q b) a↔n<=a/\ ∀ e∈l,q.values.getD e.toNat 0>b -> n<=q.values.getD e.toNat 0
 | [],a=>by simp
 | e::l,a=>by
  rw [zFG,Us l];unfold JL;simp only [zCB,zGo];split
  ·split <;> constructor <;> rintro ⟨h1,h2⟩
   ·exact ⟨by omega,fun _=>h1,h2⟩
   ·exact ⟨h2.1 (by assumption),h2.2⟩
   ·exact ⟨h1,fun _=>by omega,h2⟩
   ·exact ⟨h1,h2.2⟩
  ·constructor <;> rintro ⟨h1,h2⟩
   ·exact ⟨h1,fun h=>absurd h (by assumption),h2⟩
   ·exact ⟨h1,h2.2⟩
theorem X2 {n b:Int}: ∀ (l:List Int) (a:Int),l.foldl (I6 q b) a<=n↔a<=n/\ ∀ e∈l,q.values.getD e.toNat 0<b -> q.values.getD e.toNat 0<=n
 | [],a=>by simp
 | e::l,a=>by
  rw [zFG,X2 l];unfold I6;simp only [zCB,zGo];split
  ·split <;> constructor <;> rintro ⟨h1,h2⟩
   ·exact ⟨by omega,fun _=>h1,h2⟩
   ·exact ⟨h2.1 (by assumption),h2.2⟩
   ·exact ⟨h1,fun _=>by omega,h2⟩
   ·exact ⟨h1,h2.2⟩
  ·constructor <;> rintro ⟨h1,h2⟩
   ·exact ⟨h1,fun h=>absurd h (by assumption),h2⟩
   ·exact ⟨h1,h2.2⟩
theorem pW {c:AC} {k:Nat} (W:Bq c k p) (W':Bq c k p') (hS:F5 c p' p): ∀ a,a<=c.cells.length -> FT q c p a<=FT q c p' a
 | 0,_=>zCH _
 | a+1,ha=>by
  have ih:=pW W W' hS a (by omega);have h:=(Us (q:=q) (b:=FT q c p a) (BK (AL c p a)) 100).1 (zCH _);exact (Us (BK (AL c p' a)) 100).2 ⟨h.1,fun e he hg=>h.2 e (Y6 W.k (W.at (by omega)) (W'.at (by omega)) (hS a (by omega)) e he) (by omega)⟩
theorem qD {c:AC} {k:Nat} (W:Bq c k p) (W':Bq c k p') (hS:F5 c p' p): ∀ m,m<=c.cells.length -> Gv q c p' m<=Gv q c p m
 | 0,_=>zCH _
 | m+1,hm=>by
  have ih:=qD W W' hS m (by omega);have h:=(X2 (q:=q) (b:=Gv q c p m) (BK (AL c p (c.cells.length-1-m))) (-1)).1 (zCH _);exact (X2 (BK (AL c p' (c.cells.length-1-m))) (-1)).2 ⟨h.1,fun e he hg=>h.2 e (Y6 W.k (W.at (by omega)) (W'.at (by omega)) (hS _ (by omega)) e he) (by omega)⟩
theorem uK {c:AC} {k:Nat} (W:Bq c k p) (W':Bq c k p') (hS:F5 c p' p) {a s:Nat} (ha:a<c.cells.length) (h:Gd q c p a s=true):Gd q c p' a s=true:=by
 have h1:=pW (q:=q) W W' hS a (by omega);have h2:=qD (q:=q) W W' hS (c.cells.length-(a+1)) (by omega);unfold Gd IG at h ⊢;rw [zBg,zBV,zBV] at h ⊢;rcases h with h | h
 ·exact .inl (by omega)
 ·exact .inr (by omega)
theorem bA {c:AC} (hS:F5 c p' p) {a:Nat} (ha:a<c.cells.length) {inn:Bool} (h:kd c p' a inn=true):kd c p a inn=true:=by
 unfold kd at h ⊢;cases inn
 ·rw [zAD,zFX] at h ⊢;exact fun h2=>h (eJ (hS a ha) h2)
 ·rw [zBA,zFX] at h ⊢;exact eI (hS a ha) h
theorem Zk {c:AC} (hS:F5 c p' p): ∀ (a:Nat),a<=c.cells.length -> ∀ t,Ey c p' a t -> Ey c p a t
 | 0,_,t,h=>h
 | a+1,ha,t,⟨s,inn,h1,h2,h3⟩=>⟨s,inn,Zk hS a (by omega) s h1,h2,bA hS (by omega) h3⟩
theorem lq {c:AC} (hS:F5 c p' p): ∀ (m:Nat),m<=c.cells.length -> ∀ t,IL c p' m t -> IL c p m t
 | 0,_,t,h=>h
 | m+1,hm,t,⟨h1,u,inn,h2,h3,h4⟩=>⟨Zk hS _ (by omega) t h1,u,inn,h2,bA hS (by omega) h3,lq hS m (by omega) u h4⟩
theorem pM {c:AC} (hS:F5 c p' p) {a:Nat} (ha:a<c.cells.length) {inn:Bool} (h:Gs c p' a inn):Gs c p a inn:=by
 obtain ⟨s,t,h1,h2,h3,h4⟩:=h;exact ⟨s,t,Zk hS a (by omega) s h1,h2,bA hS ha h3,lq hS _ (by omega) t h4⟩
theorem tV {c:AC} (hS:F5 c p' p) {a s:Nat} (ha:a<c.cells.length) (h:G9 c p a s):G9 c p' a s:=
 h.elim (fun h=>.inl ⟨fun h2=>h.1 (pM hS ha h2),h.2⟩) fun h=>.inr ⟨fun h2=>h.1 (pM hS ha h2),h.2⟩
theorem kP {ok:Nat -> Nat -> Bool} {c:AC} (hS:F5 c p' p) (h2:c.cells.length=2) {a s:Nat} (h:FJ ok c p a s):FJ ok c p' a s:=by
 unfold FJ at h ⊢;split
 ·rename_i h0;rw [zAE h0] at h;exact fun ⟨t,h3,h4⟩=>h ⟨t,hS 1 (by omega) t h3,h4⟩
 ·rename_i h0;rw [zBP h0] at h;exact fun ⟨t,h3,h4⟩=>h ⟨t,hS 0 (by omega) t h3,h4⟩
structure MV (c:AC) (q:AA) (p p':List Int):Prop where
 W:ED c q p
 W':ED c q p'
 len:p.length=p'.length
 sub: ∀ j,j<p.length -> ∀ s,tb (p'.getD j 0) s=true -> tb (p.getD j 0) s=true
section
variable {c:AC}
theorem MV.pB (H:MV c q p p'): ∀ v:Int,(pB c p').getD v.toNat false=true -> (pB c p).getD v.toNat false=true:=fun v h=>by
 have hl:=H.len
 by_cases hv:v.toNat<p.length
 ·rw [PJ (by omega),zFX] at h;rw [PJ hv,zFX];exact eI (H.sub _ hv) h
 ·rw [u8,zCP (by rw [DQ];omega)] at h;cases h
theorem MV.cB (H:MV c q p p'): ∀ v:Int,(cB c p).getD v.toNat false=true -> (cB c p').getD v.toNat false=true:=fun v h=>by
 have hl:=H.len
 by_cases hv:v.toNat<p.length
 ·rw [QZ hv,zBf] at h;rw [QZ (by omega),zBf];exact eJ (H.sub _ hv) h
 ·rw [u8,zCP (by rw [Cx];omega)] at h;cases h
theorem ke {x:List Int} {j s:Nat} (hj:j<x.length) (h1:tb (x.getD j 0) s=true) (h2:tb c.set s=true):(pB c x).getD j false=true:=by
 rw [PJ hj,zFX];exact eH h1 h2
theorem gy {x:List Int} {j s:Nat} (hj:j<x.length) (h:(cB c x).getD j false=true) (h1:tb (x.getD j 0) s=true):tb c.set s=true:=by
 rw [QZ hj,zBf] at h;exact Pg h h1
theorem keep (W:ED c q p') (Ny: ∀ v,v<p'.length -> ∃ s,tb (p'.getD v 0) s=true/\ ¬ Dj c q p' v s) {r:Int} (h0:0<=r) (hF:E0 (cB c p') r) {v:Int} (Jo:0<=v) (Bn:v<(p'.length:Int)) (hc:(cB c p').getD v.toNat false=true):Rc q.nbrs (pB c p') r v:=by
 refine Classical.byContradiction fun h=>?_
 obtain ⟨s,h1,h2⟩:=Ny v.toNat (by omega);have e:((v.toNat:Nat):Int)=v:=by omega
 exact h2 ⟨W.cp (by omega) hc,gy (by omega) hc h1,r,h0,hF,by rw [e];exact h⟩
theorem E0.ex (W:ED c q p') {v:Int} (Jo:0<=v) (Bn:v<(p'.length:Int)) (hc:(cB c p').getD v.toNat false=true): ∃ r:Int,0<=r/\ r<(p'.length:Int)/\ E0 (cB c p') r/\ (cB c p').getD r.toNat false=true:=by
 obtain ⟨r,_,hF⟩:=Wz (l:=cB c p') (by rw [Cx];exact W.l1);rcases hF with ⟨h1,h2⟩ | ⟨h1,h2,h3,h4⟩
 ·rw [h2 v.toNat (by rw [Cx];omega)] at hc;cases hc
 ·rw [Cx] at h2;exact ⟨r,h1,h2,.inr ⟨h1,by rw [Cx];exact h2,h3,h4⟩,h3⟩
theorem E0.at {r:Int} (h0:0<=r) (h:E0 (cB c p) r):r<(p.length:Int)/\ (cB c p).getD r.toNat false=true:=by
 rcases h with ⟨h1,_⟩ | ⟨_,h1,h2,_⟩
 ·omega
 ·rw [Cx] at h1;exact ⟨h1,h2⟩
theorem oQ (H:MV c q p p') (Ny: ∀ v,v<p'.length -> ∃ s,tb (p'.getD v 0) s=true/\ ¬ Dj c q p' v s) {a s:Nat} (ha:a<p.length) (hs:tb (p'.getD a 0) s=true) (h:Dj c q p a s):Dj c q p' a s:=by
 obtain ⟨h1,h2,r,C6,hF,h3⟩:=h;have hl:=H.len;have gl:=H.W'.gl;obtain ⟨Pq,b6⟩:=hF.at C6;have mh:=H.cB r b6;obtain ⟨r',h4,h5,Ku,h6⟩:=E0.ex H.W' C6 (by omega) mh;refine ⟨ke (by omega) hs h2,h2,r',h4,Ku,fun h7=>h3 ?_⟩;have h8:=keep H.W' Ny h4 Ku C6 (by omega) mh;have h9:=h8.symm H.W'.g.gr h4 (by omega) (H.W'.cp (by omega) h6);exact (h9.trans h7).mono H.pB
theorem pj {g:List (List Int)} {inn:List Bool} {u a v:Int} (hna: ¬ Rc g inn u a) (ha:0<=a) (G:Gr g) (bs:0<=u) (HJ:u<(g.length:Int)) (h:Rc g inn u v):Rc g (inn.set a.toNat false) u v:=by
 induction h with
 | start=>exact .start
 | @step x y h hb hi ih=>
  refine .step ih hb ?_;have hr:=(Rc.step h hb hi).rng G bs HJ
  have AY:a.toNat≠y.toNat:=fun e=>hna (by
   have e2:a=y:=by omega
   rw [e2];exact Rc.step h hb hi)
  rw [u8,zFJ AY,←u8];exact hi
theorem zDl (H:MV c q p p') (Ny: ∀ v,v<p'.length -> ∃ s,tb (p'.getD v 0) s=true/\ ¬ IE c q p' v s) {a s:Nat} (ha:a<p.length) (hs:tb (p'.getD a 0) s=true) (h:IE c q p a s):IE c q p' a s:=by
 have hl:=H.len;have gl:=H.W'.gl;have gl1:=H.W.gl
 have TS: ∀ v,v<p'.length -> ∃ s,tb (p'.getD v 0) s=true/\ ¬ Dj c q p' v s:=fun v hv=>by
  obtain ⟨t,h1,h2⟩:=Ny v hv;exact ⟨t,h1,fun h=>h2 (.inl h)⟩
 rcases h with h | ⟨h1,h2,⟨u,v,br,zc,hu,hv,h3,h4,h5⟩,h6⟩
 ·exact .inl (oQ H TS ha hs h)
 ·have Jp:=h3.rng H.W.g.gr (by omega) (by omega);have In:=h4.rng H.W.g.gr (by omega) (by omega);have Bc:=H.cB u hu;have Ct:=H.cB v hv;have pu:=H.W'.cp (j:=u.toNat) (by omega) Bc;obtain ⟨r',h7,h8,Ku,h9⟩:=E0.ex H.W' Jp.1 (by omega) Bc;have ku:=keep H.W' TS h7 Ku Jp.1 (by omega) Bc;have kv:=keep H.W' TS h7 Ku In.1 (by omega) Ct;have uv:Rc q.nbrs (pB c p') u v:=(ku.symm H.W'.g.gr h7 (by omega) (H.W'.cp (by omega) h9)).trans kv
  have lQ: ∀ w:Int,((pB c p').set (a:Int).toNat false).getD w.toNat false=true -> ((pB c p).set (a:Int).toNat false).getD w.toNat false=true:=fun w hw=>by
   have la:(pB c p').length=p'.length:=DQ;have lb:(pB c p).length=p.length:=DQ;rw [K0 (by omega)] at hw ⊢;split
   ·rename_i e;rw [zAE e] at hw;exact hw
   ·rename_i e;rw [zBP e] at hw;exact H.pB w hw
  have ua:Rc q.nbrs (pB c p') u a:=Classical.byContradiction fun F3=>h5 ((pj F3 (by omega) H.W'.g.gr Jp.1 (by omega) uv).mono lQ)
  have au:=ua.symm H.W'.g.gr Jp.1 (by omega) pu;refine .inr ⟨?_,?_,⟨u,v,br,zc,Bc,Ct,au,au.trans uv,fun F3=>h5 (F3.mono lQ)⟩,h6⟩
  ·have:=ua.isIn pu
   rwa [zAB] at this
  ·cases hc:(cB c p').getD a false with
   | false=>rfl
   | true=>rw [gy (by omega) hc hs] at h6;cases h6
theorem xq (H:MV c q p p') (B6:PY c q p') (Ny: ∀ v,v<p'.length -> ∃ s,tb (p'.getD v 0) s=true/\ ¬ Kj c q p' v s):PY c q p/\ ∀ a s,a<p.length -> tb (p'.getD a 0) s=true -> Kj c q p a s -> Kj c q p' a s:=by
 have hl:=H.len
 have TS: ∀ v,v<p'.length -> ∃ s,tb (p'.getD v 0) s=true/\ ¬ Dj c q p' v s:=fun v hv=>by
  obtain ⟨t,h1,h2⟩:=Ny v hv;exact ⟨t,h1,fun h=>h2 (.inl h)⟩
 have cb: ∀ v:Nat,(cB c p).getD v false=true -> (cB c p').getD v false=true:=fun v h=>H.cB (v:Int) h
 have dP: ∀ v:Int,Bp q.nbrs (pB c p') v<=Bp q.nbrs (pB c p) v:=fun v=>UD _ fun x _ h=>H.pB x h
 have dC: ∀ v:Int,Bp q.nbrs (cB c p) v<=Bp q.nbrs (cB c p') v:=fun v=>UD _ fun x _ h=>H.cB x h
 refine ⟨fun v hv hc=>?_,fun a s ha hs h=>?_⟩
 ·have:=B6 v (by omega) (cb v hc);have h1:=dP v;have h2:=dC v;omega
 ·rcases h with h | ⟨v,hv,h1,h2,h3,h4⟩
  ·exact .inl (oQ H TS ha hs h)
  ·have hk:=B6 v (by omega) (cb v h1);have e1:=dP v;have e2:=dC v;refine .inr ⟨v,by omega,cb v h1,h2,?_⟩;rcases h4 with ⟨h4,h5⟩ | ⟨h4,h5,h6⟩
   ·have hp:(pB c p').getD a false=true:=by
     cases hp:(pB c p').getD a false with
     | true=>rfl
     | false=>
      have:=UC (f:=fun x:Int=>(pB c p').getD x.toNat false) (g:=fun x:Int=>(pB c p).getD x.toNat false) (a:=(a:Int)) hp h3 (nb q.nbrs v) (fun x _ h=>H.pB x h) h2;have e3:Bp q.nbrs (pB c p') v+1<=Bp q.nbrs (pB c p) v:=this;omega
    exact ⟨hp,.inl ⟨by omega,h5⟩⟩
   ·have hp:=ke (c:=c) (by omega) hs h6
    have hc:(cB c p').getD a false=false:=by
     cases hc:(cB c p').getD a false with
     | false=>rfl
     | true=>
      have:=UC (f:=fun x:Int=>(cB c p).getD x.toNat false) (g:=fun x:Int=>(cB c p').getD x.toNat false) (a:=(a:Int)) h5 hc (nb q.nbrs v) (fun x _ h=>H.cB x h) h2;have e3:Bp q.nbrs (cB c p) v+1<=Bp q.nbrs (cB c p') v:=this;omega
    exact ⟨hp,.inr ⟨by omega,hc,h6⟩⟩
end
theorem mono (C:BT q i p) (C':BT q i p') (hS:F5 (con q i) p' p) (hA:OA q (con q i) p'):
 Gg q (con q i) p/\ ∀ k,k<(con q i).cells.length -> ∀ s,tb (AL (con q i) p' k) s=true -> By q (con q i) p k s -> By q (con q i) p' k s:=by
 have W:=C.work;have W':=C'.work;have Bw: ∀ a,a<(con q i).cells.length -> Bs (AL (con q i) p' a):=fun a ha=>(W'.at ha).in64 (by have:=W'.k;omega)
 have kc:=Nd (Pb C.kind);have Hw: ∀ {k:Int},(con q i).kind=k -> k≠2 -> k≠3 -> k≠9 -> Gg q (con q i) p:=fun hk h2 h3 h9=>⟨fun h=>absurd (hk.symm.trans h) h2,fun h=>absurd (hk.symm.trans h) h3,hA.ok.2.2.1,fun h=>absurd (hk.symm.trans h) h9⟩
 have all: ∀ {hk:(con q i).kind=8∨(con q i).kind=9},MV (con q i) q p p':=fun {hk}=>by
  have hl:=C.len;have Ck:=C'.len
  have Lz:Bi p'=false:=Fo.2 fun j hj=>by
   have hk8:(con q i).cells.length=p'.length:=by
    have h:=C'.kind;unfold Fi at h;rcases hk with hk | hk <;> rw [hk] at h <;> simp at h <;> omega
   have:=hA.nz j (by omega)
   have e:AL (con q i) p' j=p'.getD j 0:=by
    unfold AL;rw [C'.cells.2.2 (by omega) j (by omega),zAB]
   rwa [e] at this
  have A':=C'.all hk Lz
  have Lu: ∀ j,j<p.length -> ∀ s,tb (p'.getD j 0) s=true -> tb (p.getD j 0) s=true:=fun j hj s hs=>by
   have e: ∀ x:List Int,AL (con q i) x j=x.getD j 0:=fun x=>by
    unfold AL;rw [A'.id j (by omega),zAB]
   have:=hS j (by rw [A'.len];omega) s (by rw [e];exact hs)
   rwa [e] at this
  have hd:Bi p=false:=Fo.2 fun j hj=>by
   have h:=Fo.1 Lz j (by omega);obtain ⟨s,h1,h2⟩:=(Eg ((C'.sm j (by omega)).in64 (by have:=W'.k;omega))).1 h;exact (Eg ((C.sm j hj).in64 (by have:=W'.k;omega))).2 ⟨s,h1,Lu j hj s h2⟩
  exact ⟨C.all hk hd,A',by omega,Lu⟩
 rcases kc with hk | hk | hk | hk | hk | hk | hk | hk | hk
 ·refine ⟨Hw hk (by decide) (by decide) (by decide),fun k Bv s hs h=>?_⟩;unfold By at h ⊢;rw [hk] at h ⊢;simp at h ⊢;exact zDP W hS Bw hA.nz h
 ·have h2:=zDb hS Bw hA.nz (hA.ok.1 hk);refine ⟨⟨fun _=>h2.1,fun h=>absurd (hk.symm.trans h) (by decide),hA.ok.2.2.1,fun h=>absurd (hk.symm.trans h) (by decide)⟩,fun k Bv s hs h=>?_⟩;unfold By at h ⊢;rw [hk] at h ⊢;simp at h ⊢;exact h2.2 k s Bv hs h
 ·have h2:=rD (q:=q) W W' hS (hA.ok.2.1 hk);refine ⟨⟨fun h=>absurd (hk.symm.trans h) (by decide),fun _=>h2.1,hA.ok.2.2.1,fun h=>absurd (hk.symm.trans h) (by decide)⟩,fun k Bv s hs h=>?_⟩;unfold By at h ⊢;rw [hk] at h ⊢;simp at h ⊢;exact h2.2 k s Bv h
 ·refine ⟨Hw hk (by decide) (by decide) (by decide),fun k Bv s hs h=>?_⟩;unfold By at h ⊢;rw [hk] at h ⊢;simp at h ⊢;exact uK W W' hS Bv h
 ·refine ⟨Hw hk (by decide) (by decide) (by decide),fun k Bv s hs h=>?_⟩;unfold By at h ⊢;rw [hk] at h ⊢;simp at h ⊢;exact tV hS Bv h
 ·refine ⟨Hw hk (by decide) (by decide) (by decide),fun k Bv s hs h=>?_⟩;have h2:=C.two (.inl hk);unfold By at h ⊢;rw [hk] at h ⊢;simp at h ⊢;exact kP hS h2 h
 ·refine ⟨Hw hk (by decide) (by decide) (by decide),fun k Bv s hs h=>?_⟩;have h2:=C.two (.inr hk);unfold By at h ⊢;rw [hk] at h ⊢;simp at h ⊢;exact kP hS h2 h
 ·have H:=all (hk:=.inl hk)
  have e: ∀ (x:List Int) (j:Nat),j<p.length -> AL (con q i) x j=x.getD j 0:=fun x j hj=>by
   unfold AL;rw [H.W.id j hj,zAB]
  have Ak:=H.W.len;have hl:=H.len;have lc: ∀ x a s,By q (con q i) x a s↔IE (con q i) q x a s:=fun x a s=>by unfold By;rw [hk];simp
  refine ⟨Hw hk (by decide) (by decide) (by decide),fun k Bv s hs h=>?_⟩;rw [lc] at h ⊢;rw [e _ _ (by omega)] at hs;refine zDl H (fun v hv=>?_) (by omega) hs h;obtain ⟨t,h1,h2⟩:=hA.left v (by omega);rw [e _ _ (by omega)] at h1;exact ⟨t,h1,fun h3=>h2 ((lc _ _ _).2 h3)⟩
 ·have H:=all (hk:=.inr hk)
  have e: ∀ (x:List Int) (j:Nat),j<p.length -> AL (con q i) x j=x.getD j 0:=fun x j hj=>by
   unfold AL;rw [H.W.id j hj,zAB]
  have Ak:=H.W.len;have hl:=H.len;have lc: ∀ x a s,By q (con q i) x a s↔Kj (con q i) q x a s:=fun x a s=>by unfold By;rw [hk];simp
  have h2:=xq H (hA.ok.2.2.2 hk) fun v hv=>by
   obtain ⟨t,h1,h2⟩:=hA.left v (by omega);rw [e _ _ (by omega)] at h1;exact ⟨t,h1,fun h3=>h2 ((lc _ _ _).2 h3)⟩
  refine ⟨⟨fun h=>absurd (hk.symm.trans h) (by decide),fun h=>absurd (hk.symm.trans h) (by decide),hA.ok.2.2.1,fun _=>h2.1⟩,fun k Bv s hs h=>?_⟩;rw [lc] at h ⊢;rw [e _ _ (by omega)] at hs;exact h2.2 k s (by omega) hs h
end
end Go.Proofs.YtekkngkphejfcaaGreatDoor
namespace Go.Proofs.YtekkngkphejfcaaGreatDoor
open Go.RowKit
section
variable {q:AA} {i:Int} {pos x:List Int}
theorem PR.sub {c:AC} (h:PR q c pos x) {j s:Nat} (hs:tb (x.getD j 0) s=true):j<pos.length/\ tb (pos.getD j 0) s=true:=by
 have hj:j<pos.length:=by
  refine zB1 fun BV=>?_
  rw [u8,zCP (by have:=h.len;omega)] at hs;exact IN hs
 refine ⟨hj,?_⟩
 by_cases hA:Hd q c pos
 ·exact (((h.live hA j hj).2 s).1 hs).1
 ·rw [h.dead hA,K9] at hs;exact absurd hs IN
theorem PR.in64 {c:AC} (h:PR q c pos x) (j:Nat):Bs (x.getD j 0):=by
 by_cases hA:Hd q c pos
 ·by_cases hj:j<pos.length
  ·exact (h.live hA j hj).1
  ·rw [u8,zCP (by have:=h.len;omega)];exact ⟨by decide,by decide⟩
 ·rw [h.dead hA];exact Uk j
theorem aI (hv:C2 q=true) {y:List Int}:posOk q y=true↔(y.length:Int)=q.cells/\ ∀ j,j<y.length -> Sm q.symbols.toNat (y.getD j 0):=by
 unfold posOk;rw [zBE,zBf,zBT];constructor
 ·rintro ⟨h1,h2⟩;refine ⟨h1,fun j hj=>?_⟩;have hm:y.getD j 0∈y:=by rw [u8,zBD hj];exact zB0 hj
  have:=h2 _ hm;rw [zBE,zBV,zBV] at this;exact this
 ·rintro ⟨h1,h2⟩;refine ⟨h1,fun z hz=>?_⟩;obtain ⟨j,hj,rfl⟩:=zEz hz;have:=h2 j hj;rw [u8,zBD hj] at this;rw [zBE,zBV,zBV];exact this
end
section
variable {q:AA} {i:Int} {p p' x z:List Int}
theorem qM (C:BT q i p) {k s:Nat} (hk:k<(con q i).cells.length):LC q (con q i) p ((con q i).cells.getD k 0).toNat s↔By q (con q i) p k s:=by
 constructor
 ·rintro ⟨a,ha,e,h⟩;have h1:=C.work.cells a ha;have h2:=C.work.cells k hk;have Av:=C.cells.2.1;have e2:(con q i).cells.getD a 0=(con q i).cells.getD k 0:=by omega
  rw [u8,zBD ha,u8,zBD hk] at e2;have e2:(con q i).cells[a]=(con q i).cells[k]:=e2;have hp:=zFk.1 Av
  have:a=k:=by
   rcases zGb a k with h3 | h3 | h3
   ·exact absurd e2 (hp a k ha hk h3)
   ·exact h3
   ·exact absurd e2.symm (hp k a hk ha h3)
  subst this;exact h
 ·intro h;exact ⟨k,hk,rfl,h⟩
theorem YU (C:BT q i p):Hd q (con q i) p↔(∀ j,j<p.length -> p.getD j 0≠0)/\ OA q (con q i) p:=by
 have W:=C.work;constructor
 ·intro h;refine ⟨h.nz,fun k hk=>h.nz _ (by have:=W.cells k hk;omega),h.ok,fun k hk=>?_⟩;obtain ⟨s,_,h1,h2⟩:=h.left ((con q i).cells.getD k 0).toNat (by have:=W.cells k hk;omega);exact ⟨s,h1,fun h3=>h2 ((qM C hk).2 h3)⟩
 ·rintro ⟨h1,h2⟩;refine ⟨h1,h2.ok,fun j hj=>?_⟩
  by_cases Kp: ∃ k,k<(con q i).cells.length/\ ((con q i).cells.getD k 0).toNat=j
  ·obtain ⟨k,hk,rfl⟩:=Kp;obtain ⟨s,h3,h4⟩:=h2.left k hk;exact ⟨s,zB1 fun h=>(by rw [IM h] at h3;cases h3),h3,fun h5=>h4 ((qM C hk).1 h5)⟩
  ·obtain ⟨s,h3,h4⟩:=(Eg ((C.sm j hj).in64 (by have:=W.k;omega))).1 (h1 j hj);exact ⟨s,h3,h4,fun ⟨a,ha,e,_⟩=>Kp ⟨a,ha,e⟩⟩
theorem kr (C:BT q i p) (C':BT q i p') (hS:F5 (con q i) p' p) (hA:OA q (con q i) p'):OA q (con q i) p/\ ∀ k,k<(con q i).cells.length -> ∀ s,tb (AL (con q i) p' k) s=true -> By q (con q i) p k s -> By q (con q i) p' k s:=by
 obtain ⟨h1,h2⟩:=mono C C' hS hA;have W:=C.work;refine ⟨⟨fun k hk=>?_,h1,fun k hk=>?_⟩,h2⟩
 ·obtain ⟨s,h3,_⟩:=hA.left k hk;exact (Eg ((W.at hk).in64 (by have:=W.k;omega))).2 ⟨s,zB1 fun h=>(by rw [IM h] at h3;cases h3),hS k hk s h3⟩
 ·obtain ⟨s,h3,h4⟩:=hA.left k hk;exact ⟨s,hS k hk s h3,fun h5=>h4 (h2 k hk s h3 h5)⟩
theorem wc (C:BT q i p) (C':BT q i p') (Lu: ∀ j s,tb (p'.getD j 0) s=true -> tb (p.getD j 0) s=true) (hx:PR q (con q i) p x) (hz:PR q (con q i) p' z): ∀ j s,tb (z.getD j 0) s=true -> tb (x.getD j 0) s=true:=by
 intro j s h;have hl:=C.len;have Ck:=C'.len
 by_cases Th:Hd q (con q i) p'
 ·obtain ⟨n1,hO⟩:=(YU C').1 Th;obtain ⟨hO2,h2⟩:=kr C C' (fun k _ s h=>Lu _ s h) hO
  have hA:Hd q (con q i) p:=(YU C).2 ⟨fun j hj=>by
   obtain ⟨t,h3,h4⟩:=(Eg ((C'.sm j (by omega)).in64 (by have:=C.work.k;omega))).1 (n1 j (by omega));exact (Eg ((C.sm j hj).in64 (by have:=C.work.k;omega))).2 ⟨t,h3,Lu j t h4⟩,hO2⟩
  obtain ⟨hj,_⟩:=hz.sub h;obtain ⟨h5,h6⟩:=((hz.live Th j hj).2 s).1 h;refine ((hx.live hA j (by omega)).2 s).2 ⟨Lu j s h5,fun ⟨k,hk,e,h7⟩=>h6 ⟨k,hk,e,h2 k hk s ?_ h7⟩⟩
  show tb (p'.getD ((con q i).cells.getD k 0).toNat 0) s=true
  rw [e];exact h5
 ·rw [hz.dead Th,K9] at h;exact absurd h IN
end
section
variable {q:AA} {i:Int} {a b:List Int}
theorem j8 (C:BT q i a): ∃ x,Ev (fun n=>NE n q i a) (x,0)/\ PR q (con q i) a x:=by
 obtain ⟨r,h1,h2,h3,_⟩:=wb (i:=i) C.fit (pos:=a) (zBO C.len256.2 (by decide));obtain ⟨x,e⟩:=r;have e0:e=0:=h2.trans C.check;subst e0;exact ⟨x,h1,h3 rfl⟩
end
section
variable {q:AA} {i j:Int} {p p' x y z:List Int}
theorem PR.posOk (C:BT q i p) (h:PR q (con q i) p x):posOk q x=true:=by
 refine (aI C.valid).2 ⟨by rw [h.len];exact C.len,fun j hj=>?_⟩;have hk:=C.work.k;refine ZE (by omega) (h.in64 j) fun s hs _=>?_
 cases ht:tb (x.getD j 0) s with
 | false=>rfl
 | true=>
  obtain ⟨h1,h2⟩:=h.sub ht;rw [(C.sm j h1).hi hs] at h2;cases h2
theorem PR.alive (C:BT q i p) (hd:Bi p=false) (h:PR q (con q i) p p):Hd q (con q i) p:=by
 refine Classical.byContradiction fun hA=>?_
 have h0:=C.len256.1;have:=Fo.1 hd 0 h0;rw [h.dead hA,K9] at this;exact this rfl
theorem xy (C:BT q i p) (C':BT q i p') (P0: ∀ k,k<(con q i).cells.length -> AL (con q i) p' k=AL (con q i) p k) (hd:Bi p=false) (Lz:Bi p'=false) (h:PR q (con q i) p p):PR q (con q i) p' p':=by
 have hA:=h.alive C hd;obtain ⟨_,hO⟩:=(YU C).1 hA;obtain ⟨Tf,hl⟩:=kr C' C (fun k hk s hs=>by rw [P0 k hk];exact hs) hO;have Th:Hd q (con q i) p':=(YU C').2 ⟨Fo.1 Lz,Tf⟩;refine ⟨rfl,fun _ j hj=>⟨(C'.sm j hj).in64 (by have:=C'.work.k;omega),fun s=>⟨fun hs=>⟨hs,?_⟩,fun hs=>hs.1⟩⟩,fun hn=>absurd Th hn⟩;rintro ⟨k,hk,e,h1⟩
 have Lv:tb (AL (con q i) p k) s=true:=by
  rw [←P0 k hk]
  show tb (p'.getD ((con q i).cells.getD k 0).toNat 0) s=true
  rw [e];exact hs
 have h2:=hl k hk s Lv h1;have hW:=C.work.cells k hk;have zv:tb (p.getD ((con q i).cells.getD k 0).toNat 0) s=true:=Lv;have h3:=(((h.live hA ((con q i).cells.getD k 0).toNat (by omega)).2 s).1 zv).2;exact h3 ⟨k,hk,rfl,h2⟩
end
end Go.Proofs.YtekkngkphejfcaaGreatDoor
namespace Go.Proofs.YtekkngkphejfcaaGreatDoor
open Go.RowKit
structure BZ (q:AA) (p:List Int):Prop where
 fit:CP q
 valid:C2 q=true
 ok:posOk q p=true
def Le (a b:List Int):Prop:=∀ j s,tb (a.getD j 0) s=true -> tb (b.getD j 0) s=true
def Up (q:AA) (level:Int) (i:Int):Prop:=0<=i/\ i<(q.cons.length:Int)/\ GM (con q i).kind<=level
def Hc (q:AA) (U:Int -> Prop) (p:List Int):Prop:=∀ i,U i -> PR q (con q i) p p
inductive DZ (q:AA) (U:Int -> Prop):List Int -> List Int -> Prop
 | refl (p:List Int):DZ q U p p
 | step {p x y:List Int} {i:Int}:U i -> PR q (con q i) p x -> DZ q U x y -> DZ q U p y
section
variable {q:AA} {U:Int -> Prop} {p x y z:List Int} {i level:Int}
theorem BZ.ctx (h:BZ q p) (h0:0<=i) (h1:i<(q.cons.length:Int)):BT q i p:=⟨h.fit,h.valid,h0,h1,h.ok⟩
theorem BZ.len (h:BZ q p):(p.length:Int)=q.cells:=((aI h.valid).1 h.ok).1
theorem BZ.sm (h:BZ q p): ∀ j,j<p.length -> Sm q.symbols.toNat (p.getD j 0):=((aI h.valid).1 h.ok).2
theorem BZ.k (h:BZ q p):q.symbols.toNat<=16:=by have:=(Dp h.valid).2.1;omega
theorem BZ.len256 (h:BZ q p):0<p.length/\ p.length<=256:=by
 have h1:=(Dp h.valid).1;have:=h.len;omega
theorem BZ.in64 (h:BZ q p) (j:Nat):Bs (p.getD j 0):=by
 by_cases hj:j<p.length
 ·exact (h.sm j hj).in64 (by have:=h.k;omega)
 ·rw [u8,zCP (by omega)];exact ⟨by decide,by decide⟩
theorem BZ.pr (h:BZ q p) (h0:0<=i) (h1:i<(q.cons.length:Int)) (hx:PR q (con q i) p x):BZ q x:=⟨h.fit,h.valid,hx.posOk (h.ctx h0 h1)⟩
theorem BZ.eqlen (h:BZ q p) (h':BZ q x):x.length=p.length:=by have:=h.len;have:=h'.len;omega
theorem Le.refl (a:List Int):Le a a:=fun _ _ h=>h
theorem Le.trans (h:Le x y) (h':Le y z):Le x z:=fun j s hs=>h' j s (h j s hs)
theorem Le.eq (hx:BZ q x) (hy:BZ q y) (h:Le x y) (h':Le y x):x=y:=by
 have e:x.length=y.length:=hy.eqlen hx;refine zF4 e fun j h1 h2=>?_
 have e1:x.getD j 0=x[j]:=by simp [h1]
 have e2:y.getD j 0=y[j]:=by simp [h2]
 rw [←e1,←e2];refine Hi (hx.in64 j) (hy.in64 j) fun s _=>?_
 rw [zCM];exact ⟨h j s,h' j s⟩
theorem PR.le {c:AC} (h:PR q c p x):Le x p:=fun _ _ hs=>(h.sub hs).2
theorem DZ.pos (hU: ∀ i,U i -> 0<=i/\ i<(q.cons.length:Int)) (hd:DZ q U p y):BZ q p -> BZ q y:=by
 induction hd with
 | refl p=>exact id
 | step hi hx _ ih=>exact fun h=>ih (h.pr (hU _ hi).1 (hU _ hi).2 hx)
theorem DZ.le (hd:DZ q U p y):Le y p:=by
 induction hd with
 | refl p=>exact Le.refl p
 | step hi hx _ ih=>exact ih.trans hx.le
theorem DZ.trans (h:DZ q U p x) (h':DZ q U x y):DZ q U p y:=by
 induction h with
 | refl p=>exact h'
 | step hi hx _ ih=>exact .step hi hx (ih h')
theorem DZ.one (hi:U i) (hx:PR q (con q i) p x):DZ q U p x:=.step hi hx (.refl x)
theorem DZ.above (hU: ∀ i,U i -> 0<=i/\ i<(q.cons.length:Int)) (hd:DZ q U p y):BZ q p -> BZ q z -> Le z p -> Hc q U z -> Le z y:=by
 induction hd with
 | refl p=>exact fun _ _ h _=>h
 | step hi hx _ ih=>
  intro hp hz BV hf;obtain ⟨h0,h1⟩:=hU _ hi;exact ih (hp.pr h0 h1 hx) hz (wc (hp.ctx h0 h1) (hz.ctx h0 h1) BV hx (hf _ hi)) hf
theorem DZ.uniq (hU: ∀ i,U i -> 0<=i/\ i<(q.cons.length:Int)) (hp:BZ q p) (hx:DZ q U p x) (hy:DZ q U p y) (fx:Hc q U x) (fy:Hc q U y):x=y:=
 Le.eq (hx.pos hU hp) (hy.pos hU hp) (hy.above hU hp (hx.pos hU hp) hx.le fx) (hx.above hU hp (hy.pos hU hp) hy.le fy)
theorem fU (i:Int) (h:Up q level i):0<=i/\ i<(q.cons.length:Int):=⟨h.1,h.2.1⟩
theorem kB {c:AC} {m:Nat} (hm:0<m):PR q c (List.replicate m 0) (List.replicate m 0):=by
 refine ⟨rfl,fun hA=>?_,fun _=>by simp⟩;have:=hA.nz 0 (by simpa using hm);exact absurd (K9 (pos:=List.replicate m 0) 0) (by simpa [zCD] using this)
theorem oF {m:Nat} (hm:0<m):Hc q U (List.replicate m 0):=fun _ _=>kB hm
theorem PR.zero {c:AC} (h:PR q c p x) (hd:Bi x=true):x=List.replicate p.length 0:=by
 refine Classical.byContradiction fun AY=>?_
 have hA:Hd q c p:=Classical.byContradiction fun hA=>AY (h.dead hA)
 have: ¬ Bi x=false:=by rw [hd];exact fun h=>by cases h
 refine this (Fo.2 fun j hj=>?_);have BI:j<p.length:=by rw [←h.len];exact hj
 obtain ⟨s,h1,h2,h3⟩:=hA.left j BI;exact (Eg (h.live hA j BI).1).2 ⟨s,h1,((h.live hA j BI).2 s).2 ⟨h2,h3⟩⟩
def wt (p:List Int):Nat:=(List.range (64*p.length)).countP fun k=>tb (p.getD (k/64) 0) (k % 64)
theorem Um (hx:BZ q x) (hp:BZ q p) (h:Le x p) (AY:x≠p):wt x+1<=wt p:=by
 have e:x.length=p.length:=hp.eqlen hx
 obtain ⟨j,s,hj,hs,h1,h2⟩: ∃ j s:Nat,j<p.length/\ s<64/\ tb (x.getD j 0) s=false/\ tb (p.getD j 0) s=true:=by
  refine Classical.byContradiction fun hn=>AY (Le.eq hx hp h fun j s hs=>?_)
  have zu:s<64:=zB1 fun h=>by rw [IM h] at hs;cases hs
  have hj:j<p.length:=zB1 fun BV=>by
   rw [u8,zCP BV] at hs;exact IN hs
  cases hb:tb (x.getD j 0) s with
  | true=>rfl
  | false=>exact absurd ⟨j,s,hj,zu,hb,hs⟩ hn
 unfold wt;rw [e];have ej:(64*j+s)/64=j:=by omega
 have es:(64*j+s) % 64=s:=by omega
 refine UC (a:=64*j+s) (by rw [ej,es];exact h1) (by rw [ej,es];exact h2) _ (fun k _ hk=>h _ _ hk) (zBc.2 (by omega))
end
end Go.Proofs.YtekkngkphejfcaaGreatDoor
namespace Go.Proofs.YtekkngkphejfcaaGreatDoor
open Go.RowKit
set_option maxRecDepth 100000
set_option maxHeartbeats 40000000
end Go.Proofs.YtekkngkphejfcaaGreatDoor
