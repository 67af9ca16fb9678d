/- Part 5 of 6 of what the proofs of these laws stand on. -/
import Derived.Test.YtgkhhfnhacibcaaGreatDoorPeD
set_option linter.all false
namespace Go.Proofs.YtgkhhfnhacibcaaGreatDoor
abbrev zAH:=@List.ext_getElem
abbrev zAI:=@Bool.not_eq_true
abbrev zAp:=@Option.isSome_none
abbrev zAq:=@Option.isSome_some
end Go.Proofs.YtgkhhfnhacibcaaGreatDoor
namespace Go.Proofs.YtgkhhfnhacibcaaGreatDoor
open Go.RowKit
section
variable {c:AB} {k:Nat} {pos lost:List Int} {q:AA}
theorem Bw.unique {i:Nat} {D:Nat -> Nat -> Prop} {l l':List Int} (h:Bw c pos lost i D l) (h':Bw c pos lost i D l') (hi: ∀ j,B9 (l.getD j 0)) (BM: ∀ j,B9 (l'.getD j 0)):l=l':=by
 have e:l.length=l'.length:=h.1.trans h'.1.symm;refine zAH e fun j h1 h2=>?_
 have e1:l.getD j 0=l[j]:=by simp [h1]
 have e2:l'.getD j 0=l'[j]:=by simp [h2]
 rw [←e1,←e2];refine LV (hi j) (BM j) fun s _=>?_
 rw [za,h.2,h'.2]
theorem aL {l:List Int} {i:Nat} {x:Int} (h: ∀ j,B9 (l.getD j 0)) (hx:B9 x): ∀ j,B9 ((l.set i x).getD j 0):=by
 intro j
 by_cases e:i=j
 ·subst e
  by_cases h2:i<l.length
  ·rw [HN h2];exact hx
  ·rw [List.set_eq_of_length_le (by omega)];exact h i
 ·rw [getD_set_ne e];exact h j
theorem pM {n ln:Nat} {cell ss:Int} {l':List Int} (h:C5 n cell ss c q pos ln lost=some l') (hi: ∀ j,B9 (lost.getD j 0)): ∀ j,B9 (l'.getD j 0):=by
 unfold C5 Wd at h;split at h
 ·cases h;exact aL hi (HP _ _ _)
 ·cases h
theorem n5 {n ln:Nat} {cell:Int} {l':List Int} (h:Ft n cell c q pos ln lost=some l') (hi: ∀ j,B9 (lost.getD j 0)): ∀ j,B9 (l'.getD j 0):=by
 unfold Ft WJ at h;split at h
 ·cases h;exact aL hi (HP _ _ _)
 ·cases h
def HV (c:AB):Prop:=c.runs.length<=256/\ ∀ j,j<c.runs.length -> c.runs.getD j 0<=256
structure J7 (c:AB) (d l:Int):Prop where
 d0:0<=d
 d1:d<=(c.runs.length:Int)
 l0:0<=l
 open' : 0 < l -> d < (c.runs.length : Int) /\ l <= c.runs.getD d.toNat 0
def nx (c:AB) (d l:Int) (inn:Bool):Option (Int×Int):=
 bif inn then (if d<(c.runs.length:Int)/\ l<c.runs.getD d.toNat 0 then some (d,l+1) else none)
 else (if l=0 then some (d,0) else if l=c.runs.getD d.toNat 0 then some (d+1,0) else none)
theorem oC {d l:Int} {inn:Bool} {t:Int×Int} (h:J7 c d l) (e:nx c d l inn=some t):J7 c t.1 t.2:=by
 obtain ⟨h1,h2,h3,h4⟩:=h;unfold nx at e;cases inn
 ·rw [xx] at e;split at e
  ·cases e;exact ⟨h1,h2,zP _,fun h=>absurd h (Int.lt_irrefl _)⟩
  ·split at e
   ·cases e;have:=h4 (by omega);exact ⟨by show 0<=d+1;omega,by show d+1<=_;omega,zP _,fun h=>absurd h (Int.lt_irrefl _)⟩
   ·cases e
 ·rw [yC] at e;split at e
  ·rename_i h5;cases e;exact ⟨h1,h2,by show 0<=l+1;omega,fun _=>⟨h5.1,by show l+1<=c.runs.getD d.toNat 0;omega⟩⟩
  ·cases e
theorem S8 {n ln:Nat} {d l:Int} {inn:Bool} (R:HV c) (h:J7 c d l): ∃ t,Pv n (d,l) inn c q pos ln lost=some (t,(nx c d l inn).isSome,lost)/\ ∀ u,nx c d l inn=some u -> t=u:=by
 obtain ⟨h1,h2,h3,h4⟩:=h;obtain ⟨hr,hv⟩:=R
 have hl:l<=256:=by
  by_cases h0:0<l
  ·obtain ⟨a1,a2⟩:=h4 h0;have:=hv d.toNat (by omega);omega
  ·omega
 unfold Pv cG nx;cases inn
 ·rw [xx,xx]
  by_cases h0:l=0
  ·subst h0;refine ⟨(d,0),by simp,fun u hu=>by simpa using hu⟩
  ·obtain ⟨a1,a2⟩:=h4 (by omega);have e0:(l==0)=false:=by simpa using h0
   simp only [e0,xx,yK h0];rw [xw ⟨Ax.2 ⟨by omega,by omega⟩,h1,a1⟩];refine ⟨(d+1,0),?_,fun u hu=>?_⟩
   ·by_cases h5:l=c.runs.getD d.toNat 0
    ·rw [xw h5,←h5];simp
    ·rw [yK h5];simpa using h5
   ·split at hu
    ·cases hu;rfl
    ·cases hu
 ·rw [yC,yC,xw (Ax.2 ⟨by show _<=l+1;omega,by show l+1<=_;omega⟩)]
  by_cases h5:d<(c.runs.length:Int)
  ·simp only [yG h5,yC];rw [xw ⟨h1,h5⟩];refine ⟨(d,l+1),?_,fun u hu=>?_⟩
   ·by_cases h6:l<c.runs.getD d.toNat 0
    ·rw [xw ⟨h5,h6⟩,yG h6];rfl
    ·rw [yK fun h=>h6 h.2,yA h6];rfl
   ·split at hu
    ·cases hu;rfl
    ·cases hu
  ·simp only [yA h5,xx];refine ⟨(d,l+1),?_,fun u hu=>?_⟩
   ·rw [yK fun h=>h5 h.1];rfl
   ·rw [yK fun h=>h5 h.1] at hu;cases hu
def kd (c:AB) (pos:List Int) (i:Nat) (inn:Bool):Bool:=bif inn then (bits .and .i64 (A0 c pos i) c.set != 0) else (bits .andNot .i64 (A0 c pos i) c.set != 0)
theorem TK {n:Nat} {i:Nat} {inn:Bool} (W:B0 c k pos) (hi:i<c.cells.length):QG n (i:Int) inn c q pos pos.length lost=some (kd c pos i inn,lost):=by
 have hc:=W.cells i hi;unfold QG cz kd;simp only [yB];cases inn
 ·rw [xx,xw ⟨⟨by omega,by omega⟩,hc⟩];rfl
 ·rw [yC,xw ⟨⟨by omega,by omega⟩,hc⟩];rfl
def E2 (c:AB) (pos:List Int):Nat -> Int×Int -> Prop
 | 0,t=>t=(0,0)
 | i+1,t=>∃ s inn,E2 c pos i s/\ nx c s.1 s.2 inn=some t/\ kd c pos i inn=true
theorem E2.ok (i:Nat): ∀ {t:Int×Int},E2 c pos i t -> J7 c t.1 t.2:=by
 induction i with
 | zero=>
  intro t h;obtain rfl:t=(0,0):=h;exact ⟨zP _,by show (0:Int)<=_;omega,zP _,fun h=>absurd h (Int.lt_irrefl _)⟩
 | succ i ih=>
  rintro t ⟨s,inn,h1,h2,_⟩;exact oC (ih h1) h2
def RV (c:AB) (t:Int×Int):Prop:=t=((c.runs.length:Int),0)∨(0<c.runs.length/\ t=((c.runs.length:Int)-1,c.runs.getD (c.runs.length-1) 0))
def I5 (c:AB) (pos:List Int):Nat -> Int×Int -> Prop
 | 0,t=>RV c t
 | m+1,s=>E2 c pos (c.cells.length-1-m) s/\ ∃ t inn,nx c s.1 s.2 inn=some t/\ kd c pos (c.cells.length-1-m) inn=true/\ I5 c pos m t
def J3 (c:AB) (pos:List Int) (i:Nat) (inn:Bool):Prop:=∃ s t,E2 c pos i s/\ nx c s.1 s.2 inn=some t/\ kd c pos i inn=true/\ I5 c pos (c.cells.length-1-i) t
def JP (c:AB) (pos:List Int) (a s:Nat):Prop:=(¬ J3 c pos a true/\ tb c.set s=true)∨(¬ J3 c pos a false/\ tb c.set s=false)
def Da (c:AB) (pos:List Int) (i:Nat) (o4:KS) (d l:Int) (inn:Bool):Bool:=match nx c d l inn with
 | some t=>kd c pos i inn&&o4.contains [t.1,t.2]
 | none=>false
theorem p7 {n i oi:Nat} {o1:List Int} {o3:List (Option KS)} {o4 o5 o8:KS} {b0 b1:Bool} {d l:Int} {Hq:List Int} (W:B0 c k pos) (R:HV c) (hi:i<c.cells.length) (h:J7 c d l):
 BI c q pos pos.length lost (n+1) (.l7 i 0 o1 o3 oi o4 o5 b0 b1 d l o8 Hq)=BI c q pos pos.length lost n (.l7 i 1 o1 o3 oi o4 (bif Da c pos i o4 d l false then CD [d,l] o5 else o5) (b0||Da c pos i o4 d l false) b1 d l o8 Hq):=by
 obtain ⟨t,e1,e2⟩:=S8 (n:=n) (ln:=pos.length) (pos:=pos) (lost:=o1) (q:=q) (inn:=false) R h;have b:([false,true]:List Bool).getD (0+((0:Int)).toNat) false=false:=rfl;have r:AH ((0:Int)+1):=Ax.2 ⟨by decide,by decide⟩
 show Le n (BI c q pos pos.length lost n) c q pos pos.length lost i 0 o1 o3 oi o4 o5 b0 b1 d l o8 Hq=_
 unfold Le Da;rw [yG (by decide),yC,xw ⟨⟨by decide,by decide⟩,by decide⟩,b,e1,yF];cases hn:nx c d l false with
 | none=>simp only [zAp,xx,xw r,ze];rfl
 | some u=>
  obtain rfl:=e2 u hn;simp only [zAq,yC];rw [TK W hi,yF];cases hk:kd c pos i false
  ·simp only [xx,xw r,zm,ze];rfl
  ·simp only [yC,y8];cases hc:o4.contains [t.1,t.2]
   ·simp only [xx,xw r,ze];rfl
   ·have z:((0:Int)==0)=true:=rfl;simp only [yC,z,xw r,Bool.or_true];rfl
theorem p6 {n i oi:Nat} {o1:List Int} {o3:List (Option KS)} {o4 o5 o8:KS} {b0 b1:Bool} {d l:Int} {Hq:List Int} (W:B0 c k pos) (R:HV c) (hi:i<c.cells.length) (h:J7 c d l):
 BI c q pos pos.length lost (n+1) (.l7 i 1 o1 o3 oi o4 o5 b0 b1 d l o8 Hq)=BI c q pos pos.length lost n (.l7 i 2 o1 o3 oi o4 (bif Da c pos i o4 d l true then CD [d,l] o5 else o5) b0 (b1||Da c pos i o4 d l true) d l o8 Hq):=by
 obtain ⟨t,e1,e2⟩:=S8 (n:=n) (ln:=pos.length) (pos:=pos) (lost:=o1) (q:=q) (inn:=true) R h;have b:([false,true]:List Bool).getD (0+((1:Int)).toNat) false=true:=rfl;have r:AH ((1:Int)+1):=Ax.2 ⟨by decide,by decide⟩
 show Le n (BI c q pos pos.length lost n) c q pos pos.length lost i 1 o1 o3 oi o4 o5 b0 b1 d l o8 Hq=_
 unfold Le Da;rw [yG (by decide),yC,xw ⟨⟨by decide,by decide⟩,by decide⟩,b,e1,yF];cases hn:nx c d l true with
 | none=>simp only [zAp,xx,xw r,ze];rfl
 | some u=>
  obtain rfl:=e2 u hn;simp only [zAq,yC];rw [TK W hi,yF];cases hk:kd c pos i true
  ·simp only [xx,xw r,zm,ze];rfl
  ·simp only [yC,y8];cases hc:o4.contains [t.1,t.2]
   ·simp only [xx,xw r,ze];rfl
   ·have z:((1:Int)==0)=false:=rfl;have z1:((1:Int)==1)=true:=rfl;simp only [yC,xx,z,z1,xw r,Bool.or_true];rfl
theorem p5 {n i oi:Nat} {o1:List Int} {o3:List (Option KS)} {o4 o5 o8:KS} {b0 b1:Bool} {d l:Int} {Hq:List Int}:
 BI c q pos pos.length lost (n+1) (.l7 i 2 o1 o3 oi o4 o5 b0 b1 d l o8 Hq)=BI c q pos pos.length lost n (.l9 i o1 o3 oi o4 o5 b0 b1 o8 Hq):=by
 show Le n (BI c q pos pos.length lost n) c q pos pos.length lost i 2 o1 o3 oi o4 o5 b0 b1 d l o8 Hq=_
 unfold Le;rw [yA (by decide),xx]
def Ep (c:AB) (pos:List Int) (i:Nat) (o3:List (Option KS)) (d l:Int) (inn:Bool):List (Option KS):=match nx c d l inn with
 | some t=>bif kd c pos i inn then o3.set (i+1) (some (CD [t.1,t.2] ((o3.getD (i+1) none).getD []))) else o3
 | none=>o3
theorem qB {n i:Nat} {o1:List Int} {o3:List (Option KS)} {o5:KS} {d l:Int} {FD:List Int} {An:Int} (W:B0 c k pos) (R:HV c) (hi:i<c.cells.length) (h:J7 c d l) (h3:i+1<o3.length) (hs:(o3.getD (i+1) none).isSome=true):
 BI c q pos pos.length lost (n+1) (.l5 i An 0 o1 o3 i d l o5 FD)=BI c q pos pos.length lost n (.l5 i An 1 o1 (Ep c pos i o3 d l false) i d l o5 FD):=by
 obtain ⟨t,e1,e2⟩:=S8 (n:=n) (ln:=pos.length) (pos:=pos) (lost:=o1) (q:=q) (inn:=false) R h;have b:([false,true]:List Bool).getD (0+((0:Int)).toNat) false=false:=rfl;have r:AH ((0:Int)+1):=Ax.2 ⟨by decide,by decide⟩;have A3:=W.len;have t1:((((c.cells.length:Nat):Int)+1).toNat:Nat)=c.cells.length+1:=by omega
 have t2:0+(((i:Int)+1).toNat:Nat)=i+1:=by omega
 show Lf n (BI c q pos pos.length lost n) c q pos pos.length lost i An 0 o1 o3 i d l o5 FD=_
 unfold Lf Ep;rw [yG (by decide),yC,xw ⟨⟨by decide,by decide⟩,by decide⟩,b,e1,yF];cases hn:nx c d l false with
 | none=>simp only [zAp,xx,xw r];rfl
 | some u=>
  obtain rfl:=e2 u hn;simp only [zAq,yC];rw [TK W hi,yF];cases hk:kd c pos i false
  ·simp only [xx,xw r];rfl
  ·simp only [yC,t1,t2];rw [xw ⟨Ax.2 ⟨by omega,by omega⟩,⟨by omega,by omega⟩,h3,by omega,hs,r⟩];rfl
theorem qA {n i:Nat} {o1:List Int} {o3:List (Option KS)} {o5:KS} {d l:Int} {FD:List Int} {An:Int} (W:B0 c k pos) (R:HV c) (hi:i<c.cells.length) (h:J7 c d l) (h3:i+1<o3.length) (hs:(o3.getD (i+1) none).isSome=true):
 BI c q pos pos.length lost (n+1) (.l5 i An 1 o1 o3 i d l o5 FD)=BI c q pos pos.length lost n (.l5 i An 2 o1 (Ep c pos i o3 d l true) i d l o5 FD):=by
 obtain ⟨t,e1,e2⟩:=S8 (n:=n) (ln:=pos.length) (pos:=pos) (lost:=o1) (q:=q) (inn:=true) R h;have b:([false,true]:List Bool).getD (0+((1:Int)).toNat) false=true:=rfl;have r:AH ((1:Int)+1):=Ax.2 ⟨by decide,by decide⟩;have A3:=W.len;have t1:((((c.cells.length:Nat):Int)+1).toNat:Nat)=c.cells.length+1:=by omega
 have t2:0+(((i:Int)+1).toNat:Nat)=i+1:=by omega
 show Lf n (BI c q pos pos.length lost n) c q pos pos.length lost i An 1 o1 o3 i d l o5 FD=_
 unfold Lf Ep;rw [yG (by decide),yC,xw ⟨⟨by decide,by decide⟩,by decide⟩,b,e1,yF];cases hn:nx c d l true with
 | none=>simp only [zAp,xx,xw r];rfl
 | some u=>
  obtain rfl:=e2 u hn;simp only [zAq,yC];rw [TK W hi,yF];cases hk:kd c pos i true
  ·simp only [xx,xw r];rfl
  ·simp only [yC,t1,t2];rw [xw ⟨Ax.2 ⟨by omega,by omega⟩,⟨by omega,by omega⟩,h3,by omega,hs,r⟩];rfl
theorem p9 {n i:Nat} {o1:List Int} {o3:List (Option KS)} {o5:KS} {d l:Int} {FD:List Int} {An:Int}:
 BI c q pos pos.length lost (n+1) (.l5 i An 2 o1 o3 i d l o5 FD)=BI c q pos pos.length lost n (.l8 i An o1 o3 i o5 FD):=by
 show Lf n (BI c q pos pos.length lost n) c q pos pos.length lost i An 2 o1 o3 i d l o5 FD=_
 unfold Lf;rw [yA (by decide),xx]
def FT (o3:List (Option KS)) (j:Nat):KS:=(o3.getD j none).getD []
theorem Sb {i:Nat} {o3:List (Option KS)} {d l:Int} {inn:Bool}:(Ep c pos i o3 d l inn).length=o3.length:=by
 unfold Ep;split
 ·cases kd c pos i inn
  ·rfl
  ·rw [yC,yW]
 ·rfl
theorem T6 {α:Type} {l:List α} {i:Nat} {x y:α} (h:i<l.length):(l.set i x).getD i y=x:=by
 rw [u8,zK h];rfl
theorem X9 {α:Type} {l:List α} {i j:Nat} {x y:α} (h:i≠j):(l.set i x).getD j y=l.getD j y:=by
 rw [u8,zG h,←u8]
theorem Vx {i j:Nat} {o3:List (Option KS)} {d l:Int} {inn:Bool} (h:j≠i+1):(Ep c pos i o3 d l inn).getD j none=o3.getD j none:=by
 unfold Ep;split
 ·cases kd c pos i inn
  ·rfl
  ·rw [yC,X9 (fun e=>h e.symm)]
 ·rfl
theorem Vy {i:Nat} {o3:List (Option KS)} {d l:Int} {inn:Bool} (hl:i+1<o3.length) {j:Nat} (h:(o3.getD j none).isSome=true):((Ep c pos i o3 d l inn).getD j none).isSome=true:=by
 by_cases e:j=i+1
 ·subst e;unfold Ep;split
  ·cases kd c pos i inn
   ·exact h
   ·rw [yC,T6 hl];rfl
  ·exact h
 ·rw [Vx e];exact h
theorem Nd {i:Nat} {o3:List (Option KS)} {d l:Int} {inn:Bool} (hl:i+1<o3.length) {x:List Int}:x∈FT (Ep c pos i o3 d l inn) (i+1)↔x∈FT o3 (i+1)∨∃ t,nx c d l inn=some t/\ kd c pos i inn=true/\ x= [t.1,t.2]:=by
 unfold Ep;split
 ·rename_i t ht;cases hk:kd c pos i inn
  ·rw [xx];exact ⟨.inl,fun h=>h.elim id fun ⟨_,_,h,_⟩=>by cases h⟩
  ·rw [yC];unfold FT;rw [T6 hl]
   show x∈CD _ _↔_
   rw [L2];constructor
   ·rintro (h | h)
    ·exact .inr ⟨t,ht,rfl,h⟩
    ·exact .inl h
   ·rintro (h | ⟨u,hu,_,h⟩)
    ·exact .inr h
    ·rw [ht] at hu;cases hu;exact .inl h
 ·rename_i hn;exact ⟨.inl,fun h=>h.elim id fun ⟨_,h,_⟩=>by rw [hn] at h;cases h⟩
structure Rows (c:AB) (pos:List Int) (i:Nat) (o3:List (Option KS)):Prop where
 len:o3.length=c.cells.length+1
 isSome: ∀ j,j<=c.cells.length -> (o3.getD j none).isSome=true
 row: ∀ j,j<=i -> ∀ x,x∈FT o3 j↔∃ t:Int×Int,x= [t.1,t.2]/\ E2 c pos j t
 rest: ∀ j,i<j -> j<=c.cells.length -> FT o3 j= []
structure Mz (c:AB) (pos:List Int) (i:Nat) (rem:KS) (o3:List (Option KS)):Prop where
 hi:i<c.cells.length
 len:o3.length=c.cells.length+1
 isSome: ∀ j,j<=c.cells.length -> (o3.getD j none).isSome=true
 row: ∀ j,j<=i -> ∀ x,x∈FT o3 j↔∃ t:Int×Int,x= [t.1,t.2]/\ E2 c pos j t
 rest: ∀ j,i+1<j -> j<=c.cells.length -> FT o3 j= []
 sub: ∀ x∈rem,∃ t:Int×Int,x= [t.1,t.2]/\ E2 c pos i t
 next: ∀ x∈FT o3 (i+1),∃ t:Int×Int,x= [t.1,t.2]/\ E2 c pos (i+1) t
 cov: ∀ t,E2 c pos i t -> [t.1,t.2]∈rem∨∀ inn u,nx c t.1 t.2 inn=some u -> kd c pos i inn=true -> [u.1,u.2]∈FT o3 (i+1)
theorem Rows.mid {i:Nat} {o3:List (Option KS)} (h:Rows c pos i o3) (hi:i<c.cells.length):Mz c pos i (FT o3 i) o3 where
 hi:=hi
 len:=h.len
 isSome:=h.isSome
 row:=h.row
 rest:=fun j hj hl=>h.rest j (by omega) hl
 sub:=fun x hx=>(h.row i (yS _) x).1 hx
 next:=fun x hx=>by rw [h.rest (i+1) (by omega) (by omega)] at hx;cases hx
 cov:=fun t ht=>.inl ((h.row i (yS _) _).2 ⟨t,rfl,ht⟩)
theorem Mz.rows {i:Nat} {o3:List (Option KS)} (h:Mz c pos i [] o3):Rows c pos (i+1) o3 where
 len:=h.len
 isSome:=h.isSome
 row:=fun j hj x=>by
  rcases yL.1 (Nat.lt_succ_of_le hj) with hj | rfl
  ·exact h.row j (by omega) x
  ·refine ⟨h.next x,?_⟩;rintro ⟨t,rfl,s,inn,h1,h2,h3⟩;rcases h.cov s h1 with h4 | h4
   ·cases h4
   ·exact h4 inn t h2 h3
 rest:=h.rest
theorem Ph {t u:Int×Int} (h:([t.1,t.2]:List Int)= [u.1,u.2]):t=u:=by
 obtain ⟨a,b⟩:=t;obtain ⟨a',b'⟩:=u;simp only [List.cons.injEq,and_true] at h;rw [h.1,h.2]
theorem Mz.go {i:Nat} {o3:List (Option KS)} {rem:KS} {t:Int×Int} (h:Mz c pos i rem o3) (ht: [t.1,t.2]∈rem):Mz c pos i (rem.erase [t.1,t.2]) (Ep c pos i (Ep c pos i o3 t.1 t.2 false) t.1 t.2 true):=by
 have hl:=h.len;have hi:=h.hi;have h1:i+1<o3.length:=by omega
 have h2:i+1<(Ep c pos i o3 t.1 t.2 false).length:=by rw [Sb];exact h1
 have Aw: ∀ j,j≠i+1 -> FT (Ep c pos i (Ep c pos i o3 t.1 t.2 false) t.1 t.2 true) j=FT o3 j:=fun j hj=>by
  unfold FT;rw [Vx hj,Vx hj]
 have hR:E2 c pos i t:=by
  obtain ⟨u,e,hu⟩:=h.sub _ ht;rw [Ph e];exact hu
 refine ⟨hi,by rw [Sb,Sb];exact hl,fun j hj=>Vy h2 (Vy h1 (h.isSome j hj)),fun j hj x=>?_,fun j hj tm=>?_,fun x hx=>h.sub x (zAz hx),fun x hx=>?_,fun s hs=>?_⟩
 ·rw [Aw j (by omega)];exact h.row j hj x
 ·rw [Aw j (by omega)];exact h.rest j hj tm
 ·rw [Nd h2,Nd h1] at hx;rcases hx with (hx | ⟨u,e1,e2,rfl⟩) | ⟨u,e1,e2,rfl⟩
  ·exact h.next x hx
  ·exact ⟨u,rfl,t,false,hR,e1,e2⟩
  ·exact ⟨u,rfl,t,true,hR,e1,e2⟩
 ·by_cases e:s=t
  ·subst e;refine .inr fun inn u h3 h4=>?_
   rw [Nd h2,Nd h1];cases inn
   ·exact .inl (.inr ⟨u,h3,h4,rfl⟩)
   ·exact .inr ⟨u,h3,h4,rfl⟩
  ·rcases h.cov s hs with h3 | h3
   ·exact .inl ((List.mem_erase_of_ne (fun e2=>e (Ph e2))).2 h3)
   ·refine .inr fun inn u h4 h5=>?_
    rw [Nd h2,Nd h1];exact .inl (.inl (h3 inn u h4 h5))
def Gz (c:AB) (pos lost:List Int) (r:Bool×List Int):Prop:=r.1=true/\ Bw c pos lost c.cells.length (JP c pos) r.2/\ ∀ j,B9 (r.2.getD j 0)
theorem Gz.uniq (r r':Bool×List Int) (h:Gz c pos lost r) (h':Gz c pos lost r'):r=r':=by
 obtain ⟨b,l⟩:=r;obtain ⟨b',l'⟩:=r';obtain ⟨h1,h2,h3⟩:=h;obtain ⟨h4,h5,h6⟩:=h';have e1:b=true:=h1;have e2:b'=true:=h4;have e3:l=l':=Bw.unique h2 h5 h3 h6;rw [e1,e2,e3]
theorem oa {i:Nat} {o1:List Int} {An:Int} (W:B0 c k pos) (R:HV c) (hx:An=(i:Int)) (H: ∀ o3,Rows c pos (i+1) o3 -> Ae (fun n=>BI c q pos pos.length lost n (.l2 (An+1) o1 o3)) (Gz c pos lost)):
 ∀ (m:Nat) (rem:KS) (o3:List (Option KS)) (FD:List Int),rem.length=m -> Mz c pos i rem o3 -> Ae (fun n=>BI c q pos pos.length lost n (.l8 i An o1 o3 i rem FD)) (Gz c pos lost):=by
 intro m
 induction m with
 | zero=>
  intro rem o3 FD hm hM;have:rem= []:=zT hm;subst this;have hs:=hM.isSome i (by have:=hM.hi;omega);have r1:AH (An+1):=by rw [hx];exact (W.r64 hM.hi).2
  refine Ae.step 1 (fun n=>?_) (H o3 hM.rows)
  show PD n (BI c q pos pos.length lost n) c q pos pos.length lost i An o1 o3 i [] FD=_
  unfold PD;rw [xw hs,b6,xw r1]
 | succ m ih=>
  intro rem o3 FD hm hM;have hs:=hM.isSome i (by have:=hM.hi;omega);have Aw:rem≠[]:=by intro e;rw [e] at hm;cases hm
  refine Ae.step 1 (g:=fun n=>HD rem (if AH (An+1) then BI c q pos pos.length lost n (.l2 (An+1) o1 o3) else none) (fun y1=>BI c q pos pos.length lost n (.l5 i An 0 o1 o3 i (y1.getD 0 0) (y1.getD 1 0) (rem.erase y1) y1))) (fun n=>?_) (Ae.next Aw (fun y hy=>?_) Gz.uniq)
  ·show PD n (BI c q pos pos.length lost n) c q pos pos.length lost i An o1 o3 i rem FD=_
   unfold PD;rw [xw hs];simp only [xw hs]
  ·obtain ⟨t,rfl,ht⟩:=hM.sub y hy;have hS:=ht.ok;have hl:=hM.len;have hi:=hM.hi;have h1:i+1<o3.length:=by omega
   have s1:=hM.isSome (i+1) (by omega);have h2:i+1<(Ep c pos i o3 t.1 t.2 false).length:=by rw [Sb];exact h1
   have s2:=Vy (c:=c) (pos:=pos) (d:=t.1) (l:=t.2) (inn:=false) h1 s1;refine Ae.step 3 (fun n=>?_) (ih _ _ [t.1,t.2] (by rw [zAn hy];omega) (hM.go hy))
   show BI c q pos pos.length lost (n+2+1) (.l5 i An 0 o1 o3 i t.1 t.2 (rem.erase [t.1,t.2]) [t.1,t.2])=_
   rw [qB W R hM.hi hS h1 s1,qA W R hM.hi hS h2 s2,p9]
def Ob (c:AB) (pos:List Int) (m:Nat) (o4:KS):Prop:=∀ x,x∈o4↔∃ t:Int×Int,x= [t.1,t.2]/\ I5 c pos m t
def LO (c:AB) (pos lost:List Int) (m:Nat) (o1:List Int):Prop:=Bw c pos lost c.cells.length (fun a s=>c.cells.length<=a+m/\ JP c pos a s) o1/\ ∀ j,B9 (o1.getD j 0)
structure Bk (c:AB) (pos:List Int) (i m:Nat) (o5:KS) (b0 b1:Bool) (rem:KS):Prop where
 hi:i+m+1=c.cells.length
 sub: ∀ x∈rem,∃ t:Int×Int,x= [t.1,t.2]/\ E2 c pos i t
 o5s: ∀ x∈o5,∃ t:Int×Int,x= [t.1,t.2]/\ I5 c pos (m+1) t
 b0s:b0=true -> J3 c pos i false
 b1s:b1=true -> J3 c pos i true
 cov: ∀ t,E2 c pos i t -> [t.1,t.2]∈rem∨∀ inn u,nx c t.1 t.2 inn=some u -> kd c pos i inn=true -> I5 c pos m u -> [t.1,t.2]∈o5/\ (bif inn then b1 else b0)=true
theorem WK {i m:Nat} {o4:KS} {d l:Int} {inn:Bool} (h:Ob c pos m o4):Da c pos i o4 d l inn=true↔∃ u,nx c d l inn=some u/\ kd c pos i inn=true/\ I5 c pos m u:=by
 unfold Da;split
 ·rename_i t ht;rw [yD,zAS,h];constructor
  ·rintro ⟨h1,u,h2,h3⟩;exact ⟨t,ht,h1,by rw [Ph h2];exact h3⟩
  ·rintro ⟨u,h1,h2,h3⟩;rw [ht] at h1;cases h1;exact ⟨h2,t,rfl,h3⟩
 ·rename_i hn;exact ⟨fun h=>(by cases h),fun ⟨u,h,_⟩=>by rw [hn] at h;cases h⟩
theorem Bk.go {i m:Nat} {o4 o5 rem:KS} {b0 b1:Bool} {t:Int×Int} (hE:Ob c pos m o4) (h:Bk c pos i m o5 b0 b1 rem) (ht: [t.1,t.2]∈rem):
 Bk c pos i m (bif Da c pos i o4 t.1 t.2 true then CD [t.1,t.2] (bif Da c pos i o4 t.1 t.2 false then CD [t.1,t.2] o5 else o5) else (bif Da c pos i o4 t.1 t.2 false then CD [t.1,t.2] o5 else o5)) (b0||Da c pos i o4 t.1 t.2 false) (b1||Da c pos i o4 t.1 t.2 true) (rem.erase [t.1,t.2]):=by
 have hR:E2 c pos i t:=by
  obtain ⟨u,e,hu⟩:=h.sub _ ht;rw [Ph e];exact hu
 have ei:c.cells.length-1-i=m:=by have:=h.hi;omega
 have em:c.cells.length-1-m=i:=by have:=h.hi;omega
 have eN: ∀ inn,Da c pos i o4 t.1 t.2 inn=true -> J3 c pos i inn:=fun inn ho=>by
  obtain ⟨u,h1,h2,h3⟩:=(WK hE).1 ho;exact ⟨t,u,hR,h1,h2,by rw [ei];exact h3⟩
 have dz: ∀ inn,Da c pos i o4 t.1 t.2 inn=true -> I5 c pos (m+1) t:=fun inn ho=>by
  obtain ⟨u,h1,h2,h3⟩:=(WK hE).1 ho
  show E2 c pos (c.cells.length-1-m) t/\ ∃ u inn,nx c t.1 t.2 inn=some u/\ kd c pos (c.cells.length-1-m) inn=true/\ I5 c pos m u
  rw [em];exact ⟨hR,u,inn,h1,h2,h3⟩
 have mem: ∀ x,x∈(bif Da c pos i o4 t.1 t.2 true then CD [t.1,t.2] (bif Da c pos i o4 t.1 t.2 false then CD [t.1,t.2] o5 else o5) else (bif Da c pos i o4 t.1 t.2 false then CD [t.1,t.2] o5 else o5))↔x∈o5∨(x= [t.1,t.2]/\ (Da c pos i o4 t.1 t.2 true=true∨Da c pos i o4 t.1 t.2 false=true)):=fun x=>by
  cases Da c pos i o4 t.1 t.2 true <;> cases Da c pos i o4 t.1 t.2 false <;> simp only [yC,xx,L2,yt,or_false,and_false,or_true,true_or,and_true]
  ·exact Or.comm
  ·exact Or.comm
  ·exact ⟨fun h=>h.elim .inr fun h=>h.elim .inr .inl,fun h=>h.elim (fun h=>.inr (.inr h)) .inl⟩
 refine ⟨h.hi,fun x hx=>h.sub x (zAz hx),fun x hx=>?_,fun hb=>?_,fun hb=>?_,fun s hs=>?_⟩
 ·rcases (mem x).1 hx with hx | ⟨rfl,h1 | h1⟩
  ·exact h.o5s x hx
  ·exact ⟨t,rfl,dz _ h1⟩
  ·exact ⟨t,rfl,dz _ h1⟩
 ·rcases Bool.or_eq_true_iff.1 hb with hb | hb
  ·exact h.b0s hb
  ·exact eN _ hb
 ·rcases Bool.or_eq_true_iff.1 hb with hb | hb
  ·exact h.b1s hb
  ·exact eN _ hb
 ·by_cases e:s=t
  ·subst e;refine .inr fun inn u h1 h2 h3=>?_
   have ho:Da c pos i o4 s.1 s.2 inn=true:=(WK hE).2 ⟨u,h1,h2,h3⟩;rw [mem];cases inn
   ·exact ⟨.inr ⟨rfl,.inr ho⟩,by rw [xx,ho,Bool.or_true]⟩
   ·exact ⟨.inr ⟨rfl,.inl ho⟩,by rw [yC,ho,Bool.or_true]⟩
  ·rcases h.cov s hs with h3 | h3
   ·exact .inl ((List.mem_erase_of_ne (fun e2=>e (Ph e2))).2 h3)
   ·refine .inr fun inn u h4 h5 h6=>?_
    obtain ⟨h7,h8⟩:=h3 inn u h4 h5 h6;rw [mem];refine ⟨.inl h7,?_⟩;cases inn
    ·rw [xx] at h8 ⊢;rw [h8];rfl
    ·rw [yC] at h8 ⊢;rw [h8];rfl
theorem Bk.end' {i m:Nat} {o5:KS} {b0 b1:Bool} (h:Bk c pos i m o5 b0 b1 []):Ob c pos (m+1) o5/\ (b0=true↔J3 c pos i false)/\ (b1=true↔J3 c pos i true):=by
 have ei:c.cells.length-1-i=m:=by have:=h.hi;omega
 have em:c.cells.length-1-m=i:=by have:=h.hi;omega
 refine ⟨fun x=>⟨h.o5s x,?_⟩,⟨h.b0s,?_⟩,⟨h.b1s,?_⟩⟩
 ·rintro ⟨t,rfl,h1⟩;have h1:E2 c pos (c.cells.length-1-m) t/\ ∃ u inn,nx c t.1 t.2 inn=some u/\ kd c pos (c.cells.length-1-m) inn=true/\ I5 c pos m u:=h1;rw [em] at h1;obtain ⟨h1,u,inn,h2,h3,h4⟩:=h1;rcases h.cov t h1 with h5 | h5
  ·cases h5
  ·exact (h5 inn u h2 h3 h4).1
 ·rintro ⟨s,t,h1,h2,h3,h4⟩;rw [ei] at h4;rcases h.cov s h1 with h5 | h5
  ·cases h5
  ·exact (h5 false t h2 h3 h4).2
 ·rintro ⟨s,t,h1,h2,h3,h4⟩;rw [ei] at h4;rcases h.cov s h1 with h5 | h5
  ·cases h5
  ·exact (h5 true t h2 h3 h4).2
theorem ca {cell ss:Int} (h0:0<=cell) (h1:cell<(pos.length:Int)) (hl:lost.length=pos.length) (hi: ∀ j,B9 (lost.getD j 0)):
 ∃ l',(∀ n,C5 n cell ss c q pos pos.length lost=some l')/\ l'.length=pos.length/\ (∀ j,B9 (l'.getD j 0))/\ ∀ j s,tb (l'.getD j 0) s=(tb (lost.getD j 0) s||(decide (j=cell.toNat)&&(tb (pos.getD j 0) s&&tb ss s))):=by
 obtain ⟨l',e,h2,h3⟩:=Jg (n:=0) (ss:=ss) (c:=c) (q:=q) h0 h1 hl;exact ⟨l',fun _=>e,h2,pM e hi,h3⟩
theorem WI {cell:Int} (h0:0<=cell) (h1:cell<(pos.length:Int)) (hl:lost.length=pos.length) (hi: ∀ j,B9 (lost.getD j 0)):
 ∃ l',(∀ n,Ft n cell c q pos pos.length lost=some l')/\ l'.length=pos.length/\ (∀ j,B9 (l'.getD j 0))/\ ∀ j s,tb (l'.getD j 0) s=(tb (lost.getD j 0) s||(decide (j=cell.toNat)&&(tb (pos.getD j 0) s&&!tb c.set s))):=by
 obtain ⟨l',e,h2,h3⟩:=WH (n:=0) (c:=c) (q:=q) h0 h1 hl;exact ⟨l',fun _=>e,h2,n5 e hi,h3⟩
theorem LO.go {i m:Nat} {o1 l':List Int} (h:LO c pos lost m o1) (hi:i+m+1=c.cells.length) (hl:l'.length=pos.length) (EG: ∀ j,B9 (l'.getD j 0))
 (h1: ∀ j s,tb (l'.getD j 0) s=true↔tb (o1.getD j 0) s=true∨((c.cells.getD i 0).toNat=j/\ tb (A0 c pos i) s=true/\ JP c pos i s)):LO c pos lost (m+1) l':=by
 refine ⟨⟨hl,fun j s=>?_⟩,EG⟩;rw [h1,h.1.2];constructor
 ·rintro ((h | ⟨a,ha,h2,h3,h4,h5⟩) | h)
  ·exact .inl h
  ·exact .inr ⟨a,ha,h2,h3,by omega,h5⟩
  ·exact .inr ⟨i,by omega,h.1,h.2.1,by omega,h.2.2⟩
 ·rintro (h2 | ⟨a,ha,h2,h3,h4,h5⟩)
  ·exact .inl (.inl h2)
  ·by_cases e:c.cells.length<=a+m
   ·exact .inl (.inr ⟨a,ha,h2,h3,e,h5⟩)
   ·have:a=i:=by omega
    subst this;exact .inr ⟨h2,h3,h5⟩
theorem wz {i m:Nat} {o1:List Int} {o3:List (Option KS)} {o4:KS} {AQ:Int} (W:B0 c k pos) (R:HV c) (hx:AQ=(i:Int)) (hR:Rows c pos c.cells.length o3) (hE:Ob c pos m o4) (hL:LO c pos lost m o1)
 (H: ∀ o1 o5,LO c pos lost (m+1) o1 -> Ob c pos (m+1) o5 -> Ae (fun n=>BI c q pos pos.length lost n (.l4 (AQ-1) o1 o3 o5)) (Gz c pos lost)):
 ∀ (z:Nat) (rem o5:KS) (b0 b1:Bool) (NV:List Int),rem.length=z -> Bk c pos i m o5 b0 b1 rem -> Ae (fun n=>BI c q pos pos.length lost n (.l9 i o1 o3 i o4 o5 b0 b1 rem NV)) (Gz c pos lost):=by
 intro z
 induction z with
 | zero=>
  intro rem o5 b0 b1 NV hm hB;have:rem= []:=zT hm;subst this;obtain ⟨e5,e0,e1⟩:=hB.end';have hi:i<c.cells.length:=by have:=hB.hi;omega
  have hs:=hR.isSome i (by omega);have A3:=W.len;have r1:AH ((i:Int)-1):=Ax.2 ⟨by omega,by omega⟩;have hc:=W.cells i hi;have g0:(0:Int)<=(i:Int)/\ (i:Int)<((c.cells.length:Nat):Int):=⟨by omega,by omega⟩;obtain ⟨l1,f1,n1,i1,t1⟩:=ca (ss:=c.set) (c:=c) (q:=q) hc.1 hc.2 hL.1.1 hL.2;obtain ⟨l2,f2,n2,i2,t2⟩:=WI (c:=c) (q:=q) hc.1 hc.2 n1 i1;obtain ⟨l3,f3,n3,i3,t3⟩:=WI (c:=c) (q:=q) hc.1 hc.2 hL.1.1 hL.2
  have eq: ∀ n,BI c q pos pos.length lost (n+1) (.l9 i o1 o3 i o4 o5 b0 b1 [] NV)=BI c q pos pos.length lost n (.l4 (i-1) (bif !b1 then (bif !b0 then l2 else l1) else (bif !b0 then l3 else o1)) o3 o5):=fun n=>by
   show PC n (BI c q pos pos.length lost n) c q pos pos.length lost i o1 o3 i o4 o5 b0 b1 [] NV=_
   unfold PC;rw [xw hs,b6];simp only [yB];cases b1 <;> cases b0 <;> simp only [zH,yw,yC,xx,xw g0,f1,f2,f3,yF,xw r1]
  refine Ae.step 1 eq ?_
  have key: ∀ l':List Int,l'.length=pos.length -> (∀ j,B9 (l'.getD j 0)) -> (∀ j s,tb (l'.getD j 0) s=(tb (o1.getD j 0) s||(decide (j=(c.cells.getD i 0).toNat)&&(tb (pos.getD j 0) s&&((!b1&&tb c.set s)||(!b0&&!tb c.set s)))))) -> LO c pos lost (m+1) l':=by
   intro l' h1 h2 h3;refine hL.go hB.hi h1 h2 fun j s=>?_
   rw [h3,yX,yD,yD,yP,yX,yD,yD,zL,zL,zL];unfold JP;rw [←e0,←e1,zAI,zAI];constructor
   ·rintro (h | ⟨rfl,h⟩)
    ·exact .inl h
    ·exact .inr ⟨rfl,h⟩
   ·rintro (h | ⟨rfl,h⟩)
    ·exact .inl h
    ·exact .inr ⟨rfl,h⟩
  subst hx;cases b1 <;> cases b0 <;> simp only [zH,yw,yC,xx]
  ·exact H l2 o5 (key l2 n2 i2 fun j s=>by
    rw [t2,t1];cases tb (o1.getD j 0) s <;> cases decide (j=(c.cells.getD i 0).toNat) <;> cases tb (pos.getD j 0) s <;> cases tb c.set s <;> rfl) e5
  ·exact H l1 o5 (key l1 n1 i1 fun j s=>by
    rw [t1];cases tb (o1.getD j 0) s <;> cases decide (j=(c.cells.getD i 0).toNat) <;> cases tb (pos.getD j 0) s <;> cases tb c.set s <;> rfl) e5
  ·exact H l3 o5 (key l3 n3 i3 fun j s=>by
    rw [t3];cases tb (o1.getD j 0) s <;> cases decide (j=(c.cells.getD i 0).toNat) <;> cases tb (pos.getD j 0) s <;> cases tb c.set s <;> rfl) e5
  ·exact H o1 o5 (key o1 hL.1.1 hL.2 fun j s=>by
    cases tb (o1.getD j 0) s <;> cases decide (j=(c.cells.getD i 0).toNat) <;> cases tb (pos.getD j 0) s <;> cases tb c.set s <;> rfl) e5
 | succ z ih=>
  intro rem o5 b0 b1 NV hm hB;have hi:i<c.cells.length:=by have:=hB.hi;omega
  have hs:=hR.isSome i (by omega);have Aw:rem≠[]:=by intro e;rw [e] at hm;cases hm
  refine Ae.step 1 (g:=fun n=>HD rem none (fun y1=>BI c q pos pos.length lost n (.l7 i 0 o1 o3 i o4 o5 b0 b1 (y1.getD 0 0) (y1.getD 1 0) (rem.erase y1) y1))) (fun n=>?_) (Ae.next Aw (fun y hy=>?_) Gz.uniq)
  ·show PC n (BI c q pos pos.length lost n) c q pos pos.length lost i o1 o3 i o4 o5 b0 b1 rem NV=_
   unfold PC;rw [xw hs];simp only [xw hs];cases rem with
   | nil=>exact absurd rfl Aw
   | cons x r=>rfl
  ·obtain ⟨t,rfl,ht⟩:=hB.sub y hy;have hS:=ht.ok;refine Ae.step 3 (fun n=>?_) (ih _ _ _ _ [t.1,t.2] (by rw [zAn hy];omega) (hB.go hE hy))
   show BI c q pos pos.length lost (n+2+1) (.l7 i 0 o1 o3 i o4 o5 b0 b1 t.1 t.2 (rem.erase [t.1,t.2]) [t.1,t.2])=_
   rw [p7 W R hi hS,p6 W R hi hS,p5]
theorem p8 {n ln oi:Nat} {AQ:Int} {o1:List Int} {o3:List (Option KS)} {o4 o7:KS}:BI c q pos ln lost n (.l6 AQ o1 o3 oi o4 o7)=BI c q pos ln lost n (.l9 AQ o1 o3 oi o4 [] false false o7 []):=by cases n <;> rfl
theorem qC {n ln oi:Nat} {x8 An:Int} {o1:List Int} {o3:List (Option KS)} {o4:KS}:BI c q pos ln lost n (.l3 x8 An o1 o3 oi o4)=BI c q pos ln lost n (.l8 x8 An o1 o3 oi o4 []):=by cases n <;> rfl
theorem gW (W:B0 c k pos) (R:HV c) {o3:List (Option KS)} (hR:Rows c pos c.cells.length o3):
 ∀ (i m:Nat) (AQ:Int) (o1:List Int) (o4:KS),i+m=c.cells.length -> AQ=(i:Int)-1 -> LO c pos lost m o1 -> Ob c pos m o4 -> Ae (fun n=>BI c q pos pos.length lost n (.l4 AQ o1 o3 o4)) (Gz c pos lost):=by
 intro i
 induction i with
 | zero=>
  intro m AQ o1 o4 hm hx hL hE;refine Ev.p (r:=(true,o1)) ⟨1,fun n hn=>?_⟩ ⟨rfl,⟨hL.1.1,fun j s=>?_⟩,hL.2⟩
  ·obtain ⟨n,rfl⟩: ∃ n',n=n'+1:=⟨n-1,by omega⟩
   show PE n (BI c q pos pos.length lost n) c q pos pos.length lost AQ o1 o3 o4=_
   unfold PE;rw [yA (by omega),xx]
  ·rw [hL.1.2];constructor
   ·rintro (h | ⟨a,h1,h2,h3,_,h4⟩)
    ·exact .inl h
    ·exact .inr ⟨a,h1,h2,h3,h4⟩
   ·rintro (h | ⟨a,h1,h2,h3,h4⟩)
    ·exact .inl h
    ·exact .inr ⟨a,h1,h2,h3,by omega,h4⟩
 | succ i ih=>
  intro m AQ o1 o4 hm hx hL hE;have hx:AQ=(i:Int):=by omega
  subst hx;have hs:=hR.isSome i (by omega);have A3:=hR.len;have t1:((((c.cells.length:Nat):Int)+1).toNat:Nat)=c.cells.length+1:=by omega
  have t2:0+((i:Int).toNat:Nat)=i:=by omega
  refine Ae.step 1 (g:=fun n=>BI c q pos pos.length lost n (.l9 i o1 o3 i o4 [] false false (FT o3 i) [])) (fun n=>?_) (wz W R rfl hR hE hL (fun o1 o5 h1 h2=>ih (m+1) ((i:Int)-1) o1 o5 (by omega) rfl h1 h2) _ (FT o3 i) [] false false [] rfl ⟨by omega,fun x hx=>(hR.row i (by omega) x).1 hx,fun x hx=>(by cases hx),fun h=>(by cases h),fun h=>(by cases h),fun t ht=>.inl ((hR.row i (by omega) _).2 ⟨t,rfl,ht⟩)⟩)
  show PE n (BI c q pos pos.length lost n) c q pos pos.length lost (i:Int) o1 o3 o4=_
  unfold PE;simp only [t1,t2];rw [yG (by omega),yC,xw hs,xw ⟨⟨by omega,by omega⟩,by omega,hs⟩];exact p8
theorem uz (W:B0 c k pos) (R:HV c) (hl:lost.length=pos.length) (EG: ∀ j,B9 (lost.getD j 0)):
 ∀ (m i:Nat) (An:Int) (o3:List (Option KS)),i+m=c.cells.length -> An=(i:Int) -> Rows c pos i o3 -> Ae (fun n=>BI c q pos pos.length lost n (.l2 An lost o3)) (Gz c pos lost):=by
 intro m
 induction m with
 | zero=>
  intro i An o3 hm hx hR;have hm:i=c.cells.length:=by omega
  subst hm hx;have A3:=W.len;have hr:=R.1;have r1:AH ((c.cells.length:Int)-1):=Ax.2 ⟨by omega,by omega⟩;have r2:AH ((c.runs.length:Int)-1):=Ax.2 ⟨by omega,by omega⟩;have hL:LO c pos lost 0 lost:=⟨⟨hl,fun j s=>⟨.inl,fun h=>h.elim id fun ⟨a,h1,_,_,h2,_⟩=>absurd h2 (by omega)⟩⟩,EG⟩
  by_cases h0:0<c.runs.length
  ·have t1:(((c.runs.length:Nat):Int)-1).toNat=c.runs.length-1:=by omega
   refine Ae.step 1 (g:=fun n=>BI c q pos pos.length lost n (.l4 ((c.cells.length:Int)-1) lost o3 (CD [((c.runs.length:Int)-1),c.runs.getD (c.runs.length-1) 0] (CD [(c.runs.length:Int),0] ([]:KS))))) (fun n=>?_) (gW W R hR c.cells.length 0 _ _ _ (by omega) rfl hL fun x=>?_)
   ·show Lg n (BI c q pos pos.length lost n) c q pos pos.length lost (c.cells.length:Int) lost o3=_
    unfold Lg;rw [yA (by omega),xx,yG (by omega),yC,xw ⟨r2,⟨by omega,by omega⟩,r1⟩,t1]
   ·rw [L2,L2];constructor
    ·rintro (rfl | rfl | h)
     ·exact ⟨((c.runs.length:Int)-1,c.runs.getD (c.runs.length-1) 0),rfl,.inr ⟨h0,rfl⟩⟩
     ·exact ⟨((c.runs.length:Int),0),rfl,.inl rfl⟩
     ·cases h
    ·rintro ⟨t,rfl,rfl | ⟨_,rfl⟩⟩
     ·exact .inr (.inl rfl)
     ·exact .inl rfl
  ·have ul:c.runs.length=0:=by omega
   refine Ae.step 1 (g:=fun n=>BI c q pos pos.length lost n (.l4 ((c.cells.length:Int)-1) lost o3 (CD [(c.runs.length:Int),0] ([]:KS)))) (fun n=>?_) (gW W R hR c.cells.length 0 _ _ _ (by omega) rfl hL fun x=>?_)
   ·show Lg n (BI c q pos pos.length lost n) c q pos pos.length lost (c.cells.length:Int) lost o3=_
    unfold Lg;rw [yA (by omega),xx,yA (by omega),xx,xw r1]
   ·rw [L2];constructor
    ·rintro (rfl | h)
     ·exact ⟨((c.runs.length:Int),0),rfl,.inl rfl⟩
     ·cases h
    ·rintro ⟨t,rfl,rfl | ⟨h,rfl⟩⟩
     ·exact .inl rfl
     ·exact absurd h h0
 | succ m ih=>
  intro i An o3 hm hx hR;subst hx;have hi:i<c.cells.length:=by omega
  have hs:=hR.isSome i (by omega);have A3:=hR.len;have t1:((((c.cells.length:Nat):Int)+1).toNat:Nat)=c.cells.length+1:=by omega
  have t2:0+((i:Int).toNat:Nat)=i:=by omega
  refine Ae.step 1 (g:=fun n=>BI c q pos pos.length lost n (.l8 i i lost o3 i (FT o3 i) [])) (fun n=>?_) (oa W R rfl (fun o3 h=>ih (i+1) _ o3 (by omega) (by omega) h) _ _ _ _ rfl (hR.mid hi))
  show Lg n (BI c q pos pos.length lost n) c q pos pos.length lost (i:Int) lost o3=_
  unfold Lg;simp only [t1,t2];rw [yG (by omega),yC,xw hs,xw ⟨⟨by omega,by omega⟩,by omega,hs⟩];exact qC
theorem vJ (W:B0 c k pos) (R:HV c) (hl:lost.length=pos.length) (EG: ∀ j,B9 (lost.getD j 0)):
 ∀ (m j:Nat) (Ej:Int) (o3:List (Option KS)),j+m=c.cells.length+1 -> Ej=(j:Int) -> o3.length=c.cells.length+1 -> (∀ i,i<j -> o3.getD i none=some []) -> Ae (fun n=>BI c q pos pos.length lost n (.l1 Ej o3)) (Gz c pos lost):=by
 intro m
 induction m with
 | zero=>
  intro j Ej o3 hm hx A3 ho;subst hx;have t1:((((c.cells.length:Nat):Int)+1).toNat:Nat)=c.cells.length+1:=by omega
  have hs:(o3.getD 0 none).isSome=true:=by rw [ho 0 (by omega)];rfl
  have e0:(o3.getD 0 none).getD []= []:=by rw [ho 0 (by omega)];rfl
  have hg: ∀ i,i≠0 -> (o3.set 0 (some (CD [0,0] ([]:KS)))).getD i none=o3.getD i none:=fun i hi=>X9 (fun e=>hi e.symm)
  have eE:(o3.set 0 (some (CD [0,0] ([]:KS)))).getD 0 none=some (CD [0,0] []):=T6 (by omega);refine Ae.step 1 (g:=fun n=>BI c q pos pos.length lost n (.l2 0 lost (o3.set 0 (some (CD [0,0] ([]:KS)))))) (fun n=>?_) (uz W R hl EG c.cells.length 0 0 _ (by omega) rfl ⟨by rw [yW];exact A3,fun i hi=>?_,fun i hi x=>?_,fun i hi EH=>?_⟩)
  ·show PF n (BI c q pos pos.length lost n) c q pos pos.length lost (j:Int) o3=_
   unfold PF;simp only [t1,yU];rw [yA (by omega),xx,xw ⟨⟨by omega,by omega⟩,by omega,hs⟩,e0]
  ·by_cases e:i=0
   ·subst e;rw [eE];rfl
   ·rw [hg i e,ho i (by omega)];rfl
  ·obtain rfl:i=0:=by omega
   show x∈((o3.set 0 (some (CD [0,0] ([]:KS)))).getD 0 none).getD []↔_
   rw [eE]
   show x∈CD [0,0] []↔_
   rw [L2];constructor
   ·rintro (rfl | h)
    ·exact ⟨(0,0),rfl,rfl⟩
    ·cases h
   ·rintro ⟨t,rfl,h⟩;have h:t=(0,0):=h;subst h;exact .inl rfl
  ·show ((o3.set 0 (some (CD [0,0] ([]:KS)))).getD i none).getD []= []
   rw [hg i (by omega),ho i (by omega)];rfl
 | succ m ih=>
  intro j Ej o3 hm hx A3 ho;subst hx;have tW:=W.len;have t1:((((c.cells.length:Nat):Int)+1).toNat:Nat)=c.cells.length+1:=by omega
  have t2:0+((j:Int).toNat:Nat)=j:=by omega
  refine Ae.step 1 (g:=fun n=>BI c q pos pos.length lost n (.l1 ((j:Int)+1) (o3.set j (some ([]:KS))))) (fun n=>?_) (ih (j+1) _ _ (by omega) (by omega) (by rw [yW];exact A3) fun i hi=>?_)
  ·show PF n (BI c q pos pos.length lost n) c q pos pos.length lost (j:Int) o3=_
   unfold PF;simp only [t1,t2];rw [yG (by omega),yC,xw ⟨⟨by omega,by omega⟩,by omega,Ax.2 ⟨by omega,by omega⟩⟩]
  ·by_cases e:i=j
   ·subst e;exact T6 (by omega)
   ·rw [X9 (fun h=>e h.symm)];exact ho i (by omega)
def Hk (c:AB):Bool:=(c.cells.length != 0)||(c.runs.length==0)
theorem lf (W:B0 c k pos) (R:HV c) (hl:lost.length=pos.length) (EG: ∀ j,B9 (lost.getD j 0)):
 ∃ l,Ev (fun n=>NH n c q pos pos.length lost) (Hk c,l)/\ (Hk c=true -> Bw c pos lost c.cells.length (JP c pos) l):=by
 by_cases h0:c.cells.length=0
 ·have e1:Hk c=((c.runs.length:Int)==0):=by
   unfold Hk;rw [h0];cases h:c.runs.length with
   | zero=>rfl
   | succ m=>rfl
  refine ⟨lost,Ev.now fun n=>?_,fun _=>by rw [h0];exact Bw.zero hl⟩;unfold NH Vf;rw [h0,e1];rfl
 ·have e1:Hk c=true:=by
   unfold Hk;cases h:c.cells.length with
   | zero=>exact absurd h h0
   | succ m=>rfl
  have A3:=W.len;have t1:((((c.cells.length:Nat):Int)+1).toNat:Nat)=c.cells.length+1:=by omega
  obtain ⟨r,h1,h2⟩:=(vJ (q:=q) W R hl EG (c.cells.length+1) 0 0 (List.replicate (c.cells.length+1) none) (by omega) rfl (by simp) (fun i hi=>absurd hi (yN i))).ev Gz.uniq;obtain ⟨b,l⟩:=r;obtain ⟨h3,h4,h5⟩:=h1;have h3:b=true:=h3;subst h3;refine ⟨l,?_,fun _=>h4⟩;rw [e1];refine h2.eq fun n=>?_
  unfold NH Vf;rw [t1]
  have e2:(((c.cells.length:Nat):Int)==0)=false:=by
   rw [zI];omega
  rw [e2,xx,xw ⟨Ax.2 ⟨by omega,by omega⟩,rfl,by omega,by omega⟩]
end
end Go.Proofs.YtgkhhfnhacibcaaGreatDoor
namespace Go.Proofs.YtgkhhfnhacibcaaGreatDoor
abbrev zAA:=@List.take_succ_eq_append_getElem
end Go.Proofs.YtgkhhfnhacibcaaGreatDoor
namespace Go.Proofs.YtgkhhfnhacibcaaGreatDoor
open Go.RowKit
section
variable {c:AB} {k:Nat} {pos lost:List Int} {q:AA}
structure Gx (c:AB) (q:AA) (pos:List Int):Prop where
 len:c.cells.length=pos.length
 id: ∀ j,j<pos.length -> c.cells.getD j 0=(j:Int)
 g:Ha q.nbrs
 gl:q.nbrs.length=pos.length
 l0:0<pos.length
 l1:pos.length<=256
 nz: ∀ j,j<pos.length -> B9 (pos.getD j 0)/\ pos.getD j 0≠0
def pB (c:AB) (pos:List Int):List Bool:=pos.map fun x=>bits .and .i64 x c.set != 0
def cB (c:AB) (pos:List Int):List Bool:=pos.map fun x=>bits .andNot .i64 x c.set==0
theorem Fr:(pB c pos).length=pos.length:=zE _
theorem GU:(cB c pos).length=pos.length:=zE _
theorem bz {j:Nat} (hj:j<pos.length):(pB c pos).getD j false=(bits .and .i64 (pos.getD j 0) c.set != 0):=by
 unfold pB;rw [u8,ye,xy hj,u8,xy hj];rfl
theorem gD {j:Nat} (hj:j<pos.length):(cB c pos).getD j false=(bits .andNot .i64 (pos.getD j 0) c.set==0):=by
 unfold cB;rw [u8,ye,xy hj,u8,xy hj];rfl
theorem Gx.cp (W:Gx c q pos) {j:Nat} (hj:j<pos.length) (h:(cB c pos).getD j false=true):(pB c pos).getD j false=true:=by
 rw [gD hj,yo] at h;rw [bz hj,zc];obtain ⟨h1,h2⟩:=W.nz j hj;obtain ⟨s,hs,hb⟩:=(JI h1).1 h2;have h3:=(Rm (HP .andNot _ _)).1 h s hs;rw [NB,hb,y8,Bool.not_eq_false'] at h3;exact (JI (HP .and _ _)).2 ⟨s,hs,by rw [KH,hb,h3];rfl⟩
def CJ (pos lost:List Int) (D:Nat -> Nat -> Prop) (l:List Int):Prop:=
 (l.length=pos.length/\ ∀ j,B9 (l.getD j 0))/\ ∀ j s,tb (l.getD j 0) s=true↔tb (lost.getD j 0) s=true∨(j<pos.length/\ tb (pos.getD j 0) s=true/\ D j s)
theorem CJ.unique {D:Nat -> Nat -> Prop} {l l':List Int} (h:CJ pos lost D l) (h':CJ pos lost D l'):l=l':=by
 have e:l.length=l'.length:=h.1.1.trans h'.1.1.symm;refine zAH e fun j h1 h2=>?_
 have e1:l.getD j 0=l[j]:=by simp [h1]
 have e2:l'.getD j 0=l'[j]:=by simp [h2]
 rw [←e1,←e2];refine LV (h.1.2 j) (h'.1.2 j) fun s _=>?_
 rw [za,h.2,h'.2]
theorem CJ.by {D:Nat -> Nat -> Prop} {l:List Int} (W:Gx c q pos) (h:CJ pos lost D l):Bw c pos lost c.cells.length D l:=by
 refine ⟨h.1.1,fun j s=>?_⟩;have hl:=W.len;rw [h.2];constructor
 ·rintro (h1 | ⟨h1,h2,h3⟩)
  ·exact .inl h1
  ·have e:=W.id j h1;exact .inr ⟨j,by omega,by rw [e];omega,by show tb (pos.getD (c.cells.getD j 0).toNat 0) s=true;rw [e,yB];exact h2,h3⟩
 ·rintro (h1 | ⟨a,h1,h2,h3,h4⟩)
  ·exact .inl h1
  ·have e:=W.id a (by omega);have h3:tb (pos.getD (c.cells.getD a 0).toNat 0) s=true:=h3;rw [e,yB] at h2 h3;subst h2;exact .inr ⟨by omega,h3,h4⟩
theorem CJ.step {D D':Nat -> Nat -> Prop} {l l':List Int} (h:CJ pos lost D l) (hl:l'.length=pos.length) (EG: ∀ j,B9 (l'.getD j 0)) {E:Nat -> Nat -> Prop} (h1: ∀ j s,tb (l'.getD j 0) s=true↔tb (l.getD j 0) s=true∨(j<pos.length/\ tb (pos.getD j 0) s=true/\ E j s))
 (hD: ∀ j s,j<pos.length -> tb (pos.getD j 0) s=true -> (D' j s↔D j s∨E j s)):CJ pos lost D' l':=by
 refine ⟨⟨hl,EG⟩,fun j s=>?_⟩;rw [h1,h.2];constructor
 ·rintro ((h2 | ⟨h2,h3,h4⟩) | ⟨h2,h3,h4⟩)
  ·exact .inl h2
  ·exact .inr ⟨h2,h3,(hD j s h2 h3).2 (.inl h4)⟩
  ·exact .inr ⟨h2,h3,(hD j s h2 h3).2 (.inr h4)⟩
 ·rintro (h2 | ⟨h2,h3,h4⟩)
  ·exact .inl (.inl h2)
  ·rcases (hD j s h2 h3).1 h4 with h5 | h5
   ·exact .inl (.inr ⟨h2,h3,h5⟩)
   ·exact .inr ⟨h2,h3,h5⟩
theorem CJ.id' {D D':Nat -> Nat -> Prop} {l:List Int} (h:CJ pos lost D l) (hD: ∀ j s,j<pos.length -> tb (pos.getD j 0) s=true -> (D' j s↔D j s)):CJ pos lost D' l:=
 h.step (E:=fun _ _=>False) h.1.1 h.1.2 (fun j s=>by simp) fun j s h1 h2=>by rw [hD j s h1 h2,or_false]
theorem CJ.lose {D D':Nat -> Nat -> Prop} {l:List Int} (h:CJ pos lost D l) {cell ss:Int} (h0:0<=cell) (h1:cell<(pos.length:Int)) (hD: ∀ j s,j<pos.length -> tb (pos.getD j 0) s=true -> (D' j s↔D j s∨((j:Int)=cell/\ tb ss s=true))):
 ∃ l',(∀ n,C5 n cell ss c q pos pos.length l=some l')/\ CJ pos lost D' l':=by
 obtain ⟨l',e,h2,h3,h4⟩:=ca (ss:=ss) (c:=c) (q:=q) h0 h1 h.1.1 h.1.2;refine ⟨l',e,h.step h2 h3 (E:=fun j s=>(j:Int)=cell/\ tb ss s=true) (fun j s=>?_) hD⟩;rw [h4,yX,yD,yD,yP];constructor
 ·rintro (h5 | ⟨rfl,h5,h6⟩)
  ·exact .inl h5
  ·exact .inr ⟨by omega,h5,by omega,h6⟩
 ·rintro (h5 | ⟨h5,h6,h7,h8⟩)
  ·exact .inl h5
  ·exact .inr ⟨by omega,h6,h8⟩
theorem CJ.only {D D':Nat -> Nat -> Prop} {l:List Int} (h:CJ pos lost D l) {cell:Int} (h0:0<=cell) (h1:cell<(pos.length:Int)) (hD: ∀ j s,j<pos.length -> tb (pos.getD j 0) s=true -> (D' j s↔D j s∨((j:Int)=cell/\ tb c.set s=false))):
 ∃ l',(∀ n,Ft n cell c q pos pos.length l=some l')/\ CJ pos lost D' l':=by
 obtain ⟨l',e,h2,h3,h4⟩:=WI (c:=c) (q:=q) h0 h1 h.1.1 h.1.2;refine ⟨l',e,h.step h2 h3 (E:=fun j s=>(j:Int)=cell/\ tb c.set s=false) (fun j s=>?_) hD⟩;rw [h4,yX,yD,yD,yP,zL];constructor
 ·rintro (h5 | ⟨rfl,h5,h6⟩)
  ·exact .inl h5
  ·exact .inr ⟨by omega,h5,by omega,h6⟩
 ·rintro (h5 | ⟨h5,h6,h7,h8⟩)
  ·exact .inl h5
  ·exact .inr ⟨by omega,h6,h8⟩
def J8 (l:List Bool) (r:Int):Prop:=(r= -1/\ ∀ j,j<l.length -> l.getD j false=false)∨(0<=r/\ r<(l.length:Int)/\ l.getD r.toNat false=true/\ ∀ j:Nat,(j:Int)<r -> l.getD j false=false)
theorem Wz {l:List Bool} (hl:l.length<=256): ∃ r,Ev (fun n=>Tc n l true) r/\ J8 l r:=by
 have key: ∀ (k i:Nat),i+k=l.length -> (∀ j,j<i -> l.getD j false=false) -> ∃ r,Ev (fun n=>Jk l true n (.l1 (i:Int))) r/\ J8 l r:=by
  intro k
  induction k with
  | zero=>
   intro i e h;refine ⟨-1,⟨1,fun n hn=>?_⟩,.inl ⟨rfl,fun j hj=>h j (by omega)⟩⟩;obtain ⟨n,rfl⟩: ∃ k,n=k+1:=⟨n-1,by omega⟩
   show QO n (Jk l true n) l true (i:Int)=_
   unfold QO;rw [yA (by omega),xx]
  | succ k ih=>
   intro i e h
   have U: ∀ n,Jk l true (n+1) (.l1 (i:Int))=bif l.getD i false then some (i:Int) else Jk l true n (.l1 ((i:Int)+1)):=fun n=>by
    show QO n (Jk l true n) l true (i:Int)=_
    unfold QO;rw [yG (by omega),yC,xw ⟨by omega,by omega⟩,yB,xw (Ax.2 ⟨by omega,by omega⟩)];cases l.getD i false <;> rfl
   cases hi:l.getD i false
   ·obtain ⟨r,h1,h2⟩:=ih (i+1) (by omega) fun j hj=>by
     rcases yL.1 hj with hj | rfl
     ·exact h j hj
     ·exact hi
    refine ⟨r,Ev.step 1 (fun n=>?_) h1,h2⟩;rw [U,hi,xx];rfl
   ·refine ⟨(i:Int),⟨1,fun n hn=>?_⟩,.inr ⟨by omega,by omega,by rw [yB];exact hi,fun j hj=>h j (by omega)⟩⟩;obtain ⟨n,rfl⟩: ∃ k,n=k+1:=⟨n-1,by omega⟩
    show Jk l true (n+1) (.l1 (i:Int))=_
    rw [U,hi,yC]
 exact key l.length 0 (by omega) fun j hj=>absurd hj (yN j)
theorem fU {l l':List Bool} (h:l.length=l'.length) (h2: ∀ j,j<l.length -> l.getD j false=l'.getD j false):l=l':=by
 refine zAH h fun j h3 h4=>?_
 have:=h2 j h3
 rwa [u8,xy h3,u8,xy h4] at this
theorem Yg {l:List Bool} {i j:Nat} {b:Bool} (hi:i<l.length):(l.set i b).getD j false=if j=i then b else l.getD j false:=by
 by_cases e:j=i
 ·subst e;rw [xw rfl,u8,zK hi];rfl
 ·rw [yK e,u8,zG (fun h=>e h.symm),←u8]
def IB (c:AB) (q:AA) (pos:List Int) (a s:Nat):Prop:=(pB c pos).getD a false=true/\ tb c.set s=true/\ ∃ r:Int,0<=r/\ J8 (cB c pos) r/\ ¬ Rc q.nbrs (pB c pos) r a
theorem J8.uniq {l:List Bool} {r r':Int} (h:J8 l r) (h':J8 l r'):r=r':=by
 rcases h with ⟨rfl,h⟩ | ⟨h0,h1,h2,h3⟩ <;> rcases h' with ⟨rfl,h'⟩ | ⟨ul,T0,K3,X5⟩
 ·rfl
 ·rw [h r'.toNat (by omega)] at K3;cases K3
 ·rw [h' r.toNat (by omega)] at h2;cases h2
 ·rcases Int.lt_trichotomy r r' with h4 | h4 | h4
  ·rw [X5 r.toNat (by omega)] at h2;cases h2
  ·exact h4
  ·rw [h3 r'.toNat (by omega)] at K3;cases K3
theorem ZH (G:Ha q.nbrs) (hB:(pB c pos).length=q.nbrs.length) {r:Int} (EX:0<=r) (hF:J8 (cB c pos) r) {j s:Nat}:IB c q pos j s↔(pB c pos).getD j false=true/\ tb c.set s=true/\ ¬ Rc q.nbrs (pB c pos) r j:=by
 constructor
 ·rintro ⟨h1,h2,r',_,uf,h3⟩;rw [hF.uniq uf];exact ⟨h1,h2,h3⟩
 ·rintro ⟨h1,h2,h3⟩;exact ⟨h1,h2,r,EX,hF,h3⟩
def OZ (c:AB) (q:AA) (pos lost:List Int) (r:Int) (x:List Bool×List Bool×Bool×List Int):Prop:=x.1=pB c pos/\ x.2.1=cB c pos/\ x.2.2.1=decide (0<=r)/\ CJ pos lost (IB c q pos) x.2.2.2
theorem OZ.uniq {r:Int} (x y:List Bool×List Bool×Bool×List Int) (h:OZ c q pos lost r x) (h':OZ c q pos lost r y):x=y:=by
 obtain ⟨x1,x2,x3,x4⟩:=x;obtain ⟨y1,y2,y3,y4⟩:=y;obtain ⟨h1,h2,h3,h4⟩:=h;obtain ⟨T0,K3,X5,uj⟩:=h';have e4:x4=y4:=h4.unique uj;have e1:x1=y1:=Eq.trans h1 T0.symm;have e2:x2=y2:=Eq.trans h2 K3.symm;have e3:x3=y3:=Eq.trans h3 X5.symm;rw [e1,e2,e3,e4]
theorem oN {n:Nat} (W:Gx c q pos) (hL:CJ pos lost (fun _ _=>False) lost) {r:Int} (EX:0<=r) (hF:J8 (cB c pos) r) {near:List Int} (hn:near.length<=256) (QZ: ∀ v,v∈near↔Rc q.nbrs (pB c pos) r v) (eF:600<=n):
 ∃ x,ED c q pos pos.length lost n (.l2 (pB c pos) (pB c pos).length near (near.length:Int) 0 (cB c pos) (pB c pos))=some x/\ OZ c q pos lost r x:=by
 have Ey:=W.l1;have Ca:=W.gl
 have Kt:r<(q.nbrs.length:Int):=by
  rcases hF with ⟨h,_⟩ | ⟨_,h,_⟩
  ·omega
  ·rw [GU] at h;omega
 have Nq: ∀ v∈near,0<=v/\ v<(pos.length:Int):=fun v hv=>by
  have:=((QZ v).1 hv).rng W.g.gr EX Kt;omega
 have S:=Gl (fun n (GQ:List Bool) i=>ED c q pos pos.length lost n (.l2 (pB c pos) (pB c pos).length near (near.length:Int) i (cB c pos) GQ)) near.length (pos.length+3)
  (fun i GQ=>GQ.length=pos.length/\ ∀ j:Nat,GQ.getD j false=true↔(pB c pos).getD j false=true/\ (j:Int)∉near.take i) (fun n i GQ HK hi hI=>?_) (n:=n) (s:=pB c pos) (by omega) ⟨Fr,fun j=>by simp⟩
 ·obtain ⟨n1,GQ,F4,_,e1,hfl,eI⟩:=S;obtain ⟨n2,rfl⟩: ∃ n2,n1=n2+1:=⟨n1-1,by omega⟩;rw [List.take_length] at eI
  have T:=Gl (fun n (o1:List Int) i=>ED c q pos pos.length lost n (.l3 (pB c pos) (pB c pos).length ((pB c pos).length:Int) i o1 (cB c pos) GQ)) pos.length 1
   (fun i o1=>CJ pos lost (fun j s=>j<i/\ IB c q pos j s) o1) (fun n i o1 HK hi hI=>?_) (n:=n2) (s:=lost) (by omega) (hL.id' fun j s _ _=>⟨fun h=>absurd h.1 (yN j),fun h=>h.elim⟩)
  ·obtain ⟨n3,o1,Qb,_,e2,Ju⟩:=T;obtain ⟨n4,rfl⟩: ∃ n4,n3=n4+1:=⟨n3-1,by omega⟩;refine ⟨(pB c pos,cB c pos,true,o1),?_,rfl,rfl,(yG EX).symm,Ju.id' fun j s hj _=>⟨fun h=>⟨hj,h⟩,fun h=>h.2⟩⟩;refine Eq.trans e1 ?_
   show Pr n2 (ED c q pos pos.length lost n2) c q pos pos.length lost (pB c pos) (pB c pos).length near (near.length:Int) (near.length:Int) (cB c pos) GQ=_
   unfold Pr;rw [yA (by omega),xx];refine Eq.trans e2 ?_
   show Pq n4 (ED c q pos pos.length lost n4) c q pos pos.length lost (pB c pos) (pB c pos).length ((pB c pos).length:Int) (pos.length:Int) o1 (cB c pos) GQ=_
   unfold Pq;rw [Fr,yA (by omega),xx,xw GU.symm]
  ·show ∃ s',Pq n (ED c q pos pos.length lost n) c q pos pos.length lost (pB c pos) (pB c pos).length ((pB c pos).length:Int) (i:Int) o1 (cB c pos) GQ=_/\ _
   unfold Pq;simp only [yB,yU];have r1:AH ((i:Int)+1):=Ax.2 ⟨by omega,by omega⟩;rw [Fr,yG (by omega),yC,xw ⟨⟨by omega,by omega⟩,by omega⟩];have eH:GQ.getD i false=true↔(pB c pos).getD i false=true/\ ¬ Rc q.nbrs (pB c pos) r i:=by rw [eI,QZ]
   cases hf:GQ.getD i false
   ·rw [xx,xw r1];refine ⟨o1,rfl,hI.id' fun j s hj _=>⟨fun h=>⟨?_,h.2⟩,fun h=>⟨by omega,h.2⟩⟩⟩;rcases yL.1 h.1 with h1 | rfl
    ·exact h1
    ·have h2:=(ZH W.g (by rw [Fr];exact Ca.symm) EX hF).1 h.2;have:=eH.2 ⟨h2.1,h2.2.2⟩;rw [hf] at this;cases this
   ·obtain ⟨l',e,h2⟩:=hI.lose (c:=c) (q:=q) (D':=fun j s=>j<i+1/\ IB c q pos j s) (cell:=(i:Int)) (ss:=c.set) (by omega) (by omega) fun j s hj _=>by
     constructor
     ·rintro ⟨h1,h2⟩;rcases yL.1 h1 with h1 | rfl
      ·exact .inl ⟨h1,h2⟩
      ·exact .inr ⟨rfl,h2.2.1⟩
     ·rintro (⟨h1,h2⟩ | ⟨h1,h2⟩)
      ·exact ⟨by omega,h2⟩
      ·obtain rfl:j=i:=by omega
       have h3:=eH.1 hf;exact ⟨by omega,(ZH W.g (by rw [Fr];exact Ca.symm) EX hF).2 ⟨h3.1,h2,h3.2⟩⟩
    rw [yC,e,yF,xw r1];exact ⟨l',rfl,h2⟩
 ·obtain ⟨hl,hf⟩:=hI;have hx:near.getD i 0∈near:=by rw [u8,xy hi];exact yY hi
  have HG:=Nq _ hx
  show ∃ s',Pr n (ED c q pos pos.length lost n) c q pos pos.length lost (pB c pos) (pB c pos).length near (near.length:Int) (i:Int) (cB c pos) GQ=_/\ _
  unfold Pr;simp only [yB,yU];rw [Fr,yG (by omega),yC,xw ⟨⟨by omega,by omega⟩,HG,by omega,Ax.2 ⟨by omega,by omega⟩⟩];refine ⟨_,rfl,by rw [yW];exact hl,fun j=>?_⟩
  have e3:near.take (i+1)=near.take i++[near.getD i 0]:=by
   rw [zAA hi,u8,xy hi];rfl
  rw [Yg (by omega),e3,yx,yZ]
  by_cases e:j=(near.getD i 0).toNat
  ·rw [xw e];exact ⟨fun h=>(by cases h),fun h=>absurd (Or.inr (by omega)) h.2⟩
  ·rw [yK e,hf];exact ⟨fun h=>⟨h.1,fun h2=>h2.elim h.2 fun h3=>e (by omega)⟩,fun h=>⟨h.1,fun h2=>h.2 (.inl h2)⟩⟩
theorem cA (W:Gx c q pos) (hL:CJ pos lost (fun _ _=>False) lost) {r:Int} (hF:J8 (cB c pos) r):
 ∃ l,Ev (fun n=>Lz n c q pos pos.length lost) (pB c pos,cB c pos,decide (0<=r),l)/\ CJ pos lost (IB c q pos) l:=by
 have Ey:=W.l1;have Ca:=W.gl;have A3:=W.len;have L:(1000000000000:Nat)=As:=rfl
 suffices H:Ae (fun n=>Lz n c q pos pos.length lost) (OZ c q pos lost r) by
  obtain ⟨x,h1,h2⟩:=H.ev OZ.uniq;obtain ⟨x1,x2,x3,x4⟩:=x;obtain ⟨h3,h4,h5,h6⟩:=h1;have h3:x1=pB c pos:=h3;have h4:x2=cB c pos:=h4;have h5:x3=decide (0<=r):=h5;subst h3 h4 h5;exact ⟨x4,h2,h6⟩
 have first: ∀ n,ED c q pos pos.length lost (n+c.cells.length) (.l1 0 (List.replicate pos.length false) (List.replicate pos.length false))=ED c q pos pos.length lost n (.l1 (c.cells.length:Int) (pB c pos) (cB c pos)):=fun n=>by
  have z: ∀ j:Nat,(List.replicate pos.length false).getD j false=false:=fun j=>by
   rw [u8,zQ];split <;> rfl
  obtain ⟨s',e,h1,h2,h3,h4⟩:=TF (fun n (s:List Bool×List Bool) i=>ED c q pos pos.length lost n (.l1 i s.1 s.2)) c.cells.length 0
   (fun i s=>s.1.length=pos.length/\ s.2.length=pos.length/\ (∀ j,s.1.getD j false=if j<i then (pB c pos).getD j false else false)/\ (∀ j,s.2.getD j false=if j<i then (cB c pos).getD j false else false))
   (fun n i s _ hi hI=>by
    obtain ⟨o2,o3⟩:=s;obtain ⟨h1,h2,h3,h4⟩:=hI;have h1:o2.length=pos.length:=h1;have h2:o3.length=pos.length:=h2;have hid:=W.id i (by omega)
    show ∃ s',Ps n (ED c q pos pos.length lost n) c q pos pos.length lost (i:Int) o2 o3=_/\ _
    unfold Ps;simp only [yB,yU,hid];rw [yG (by omega),yC,xw ⟨⟨by omega,by omega⟩,⟨by omega,by omega⟩,by omega,by omega,Ax.2 ⟨by omega,by omega⟩⟩];refine ⟨(_,_),rfl,by rw [yW];exact h1,by rw [yW];exact h2,fun j=>?_,fun j=>?_⟩
    ·show (o2.set i _).getD j false=_
     rw [Yg (by omega)]
     by_cases e:j=i
     ·subst e;rw [xw rfl,xw (by omega),bz (by omega)]
     ·have h3:o2.getD j false=_:=h3 j;rw [yK e,h3]
      by_cases e2:j<i
      ·rw [xw e2,xw (by omega)]
      ·rw [yK e2,yK (by omega)]
    ·show (o3.set i _).getD j false=_
     rw [Yg (by omega)]
     by_cases e:j=i
     ·subst e;rw [xw rfl,xw (by omega),gD (by omega)]
     ·have h4:o3.getD j false=_:=h4 j;rw [yK e,h4]
      by_cases e2:j<i
      ·rw [xw e2,xw (by omega)]
      ·rw [yK e2,yK (by omega)])
   c.cells.length 0 n (List.replicate pos.length false,List.replicate pos.length false) (by omega) (by omega) ⟨yQ,yQ,fun j=>by rw [yK (by omega)];exact z j,fun j=>by rw [yK (by omega)];exact z j⟩
  obtain ⟨o2,o3⟩:=s';have h1:o2.length=pos.length:=h1;have h2:o3.length=pos.length:=h2
  have e2:o2=pB c pos:=fU (by rw [h1,Fr]) fun j hj=>by
   have h3:o2.getD j false=_:=h3 j;rw [h3,xw (by omega)]
  have e3:o3=cB c pos:=fU (by rw [h2,GU]) fun j hj=>by
   have h4:o3.getD j false=_:=h4 j;rw [h4,xw (by omega)]
  rw [←e2,←e3];exact e
 have start: ∀ n,Lz n c q pos pos.length lost=ED c q pos pos.length lost n (.l1 0 (List.replicate pos.length false) (List.replicate pos.length false)):=fun n=>by
  unfold Lz cD;rw [xw ⟨rfl,by omega,by omega⟩]
 refine Ae.eq (Ae.step (c.cells.length+1) (g:=fun n=>(Tc n (cB c pos) true).bind fun y1=>bif (decide (y1<0)) then (if pos.length=(pB c pos).length then some (pB c pos,cB c pos,false,lost) else none) else (if pos.length=(pB c pos).length then (Mp n (pB c pos)).bind fun y2=>(OQ n q.nbrs (pB c pos) y1).bind fun y3=>ED c q pos pos.length lost n (.l2 (pB c pos) y2.length y3.1 (y3.1.length:Int) 0 (cB c pos) y2) else none)) (fun n=>?_) ?_) start
 ·rw [show n+(c.cells.length+1)=n+1+c.cells.length by omega,first]
  show Ps n (ED c q pos pos.length lost n) c q pos pos.length lost (c.cells.length:Int) (pB c pos) (cB c pos)=_
  unfold Ps;rw [yA (by omega),xx,xw GU.symm]
 ·obtain ⟨r',h1,h2⟩:=Wz (l:=cB c pos) (by rw [GU];exact Ey);obtain rfl:=hF.uniq h2;refine Ae.bind h1 ?_
  by_cases EX:0<=r
  ·have Bj: ∀ n,Mp n (pB c pos)=some (pB c pos):=fun n=>by
    have h0:=W.l0;have h3:=Fr (c:=c) (pos:=pos);unfold Mp YZ;rw [xw ⟨by omega,trivial,⟨rfl,rfl⟩,by rw [←L];simp only [zD];omega⟩,xw (by simp)];rfl
   obtain ⟨Kt,rb⟩:r<(pos.length:Int)/\ (cB c pos).getD r.toNat false=true:=by
    rcases hF with ⟨h,_⟩ | ⟨_,h,h',_⟩
    ·omega
    ·rw [GU] at h;exact ⟨h,h'⟩
   have rf:=W.cp (by omega) rb;refine Ae.eq (Ae.bindU (wb W.g (by rw [Fr];exact Ca.symm) EX (by omega) rf) (b:=fun n y3=>ED c q pos pos.length lost n (.l2 (pB c pos) (pB c pos).length y3.1 (y3.1.length:Int) 0 (cB c pos) (pB c pos))) ⟨600,fun n hn x hx=>oN W hL EX hF hx.2.1 hx.2.2 hn⟩) fun n=>?_
   rw [yA (by omega),xx,xw Fr.symm,Bj,yF]
  ·refine Ev.p (r:=(pB c pos,cB c pos,false,lost)) (Ev.now fun n=>?_) ⟨rfl,rfl,(yA EX).symm,hL.id' fun j s _ _=>⟨fun h=>?_,fun h=>h.elim⟩⟩
   ·rw [yG (by omega),yC,xw Fr.symm]
   ·obtain ⟨_,_,r',h3,h4,_⟩:=h;rw [hF.uniq h4] at EX;exact EX h3
def Ml (c:AB) (q:AA) (pos:List Int) (a s:Nat):Prop:=IB c q pos a s∨((pB c pos).getD a false=true/\ (cB c pos).getD a false=false/\ Sp q.nbrs (pB c pos) (cB c pos) (a:Int)/\ tb c.set s=false)
theorem wQ (W:Gx c q pos) (hL:CJ pos lost (fun _ _=>False) lost): ∃ l,Ev (fun n=>Uc n c q pos pos.length lost) (true,l)/\ CJ pos lost (Ml c q pos) l:=by
 have Ey:=W.l1;have Ca:=W.gl;obtain ⟨r,_,hF⟩:=Wz (l:=cB c pos) (by rw [GU];exact Ey);obtain ⟨l0,h1,h2⟩:=cA W hL hF
 suffices H:Ae (fun n=>LH c q pos pos.length lost n (.l1 (pB c pos) (cB c pos) (decide (0<=r)) ((pB c pos).length:Int) 0 l0)) (fun x=>x.1=true/\ CJ pos lost (Ml c q pos) x.2) by
  obtain ⟨x,⟨h3,h4⟩,h5⟩:=(Ae.bind h1 (b:=fun n y1=>LH c q pos pos.length lost n (.l1 y1.1 y1.2.1 y1.2.2.1 (y1.1.length:Int) 0 y1.2.2.2)) H).ev fun x y hx hy=>by
   obtain ⟨x1,x2⟩:=x;obtain ⟨y1,y2⟩:=y;have e1:x1=true:=hx.1;have e2:y1=true:=hy.1;have e3:x2=y2:=hx.2.unique hy.2;rw [e1,e2,e3]
  obtain ⟨x1,x2⟩:=x;have h3:x1=true:=h3;subst h3;exact ⟨x2,h5,h4⟩
 obtain ⟨N,hN⟩:=Ae.range (F:=fun (i:Nat) n=>if (pB c pos).getD i false=true then LZ n q.nbrs (pB c pos) (cB c pos) i else some (false,0)) (A:=fun i x=>(pB c pos).getD i false=true -> x.2=0/\ (x.1=true↔Sp q.nbrs (pB c pos) (cB c pos) i)) pos.length fun i hi=>by
  by_cases h:(pB c pos).getD i false=true
  ·refine ((jV W.g (by rw [Fr];exact Ca.symm) (by rw [GU];exact Ca.symm) (a:=i) (by omega) h).mono fun x hx _=>hx).eq fun n=>?_
   rw [xw h]
  ·exact Ev.p (r:=(false,0)) (Ev.now fun n=>by rw [yK h]) fun h'=>absurd h' h
 refine ⟨N+pos.length+1,fun n hn=>?_⟩
 have T:=Gl (fun n (o1:List Int) i=>LH c q pos pos.length lost n (.l1 (pB c pos) (cB c pos) (decide (0<=r)) ((pB c pos).length:Int) i o1)) pos.length (N+1)
  (fun i o1=>CJ pos lost (fun a s=>IB c q pos a s∨(a<i/\ Ml c q pos a s)) o1) (fun n i o1 HK hi hI=>?_) (n:=n) (s:=l0) (by omega) (h2.id' fun j s _ _=>⟨fun h=>h.elim id fun h=>absurd h.1 (yN j),.inl⟩)
 ·obtain ⟨n3,o1,Qb,_,e2,Ju⟩:=T;obtain ⟨n4,rfl⟩: ∃ n4,n3=n4+1:=⟨n3-1,by omega⟩;refine ⟨(true,o1),Eq.trans e2 ?_,rfl,Ju.id' fun j s hj _=>⟨fun h=>.inr ⟨hj,h⟩,fun h=>h.elim .inl fun h=>h.2⟩⟩
  show RB n4 (LH c q pos pos.length lost n4) c q pos pos.length lost (pB c pos) (cB c pos) (decide (0<=r)) ((pB c pos).length:Int) (pos.length:Int) o1=_
  unfold RB;rw [Fr,yA (p:=((pos.length:Nat):Int)<((pos.length:Nat):Int)) (by omega),xx]
 ·show ∃ s',RB n (LH c q pos pos.length lost n) c q pos pos.length lost (pB c pos) (cB c pos) (decide (0<=r)) ((pB c pos).length:Int) (i:Int) o1=_/\ _
  unfold RB;simp only [yB];have r1:AH ((i:Int)+1):=Ax.2 ⟨by omega,by omega⟩;have lp:(pB c pos).length=pos.length:=Fr;have lc:(cB c pos).length=pos.length:=GU;rw [lp,lc,yG (p:=(i:Int)<((pos.length:Nat):Int)) (by omega),yC]
  have skip:(∀ s,¬ ((pB c pos).getD i false=true/\ (cB c pos).getD i false=false/\ Sp q.nbrs (pB c pos) (cB c pos) (i:Int)/\ tb c.set s=false)) -> CJ pos lost (fun a s=>IB c q pos a s∨(a<i+1/\ Ml c q pos a s)) o1:=fun EE=>hI.id' fun j s hj _=>by
   constructor
   ·rintro (h | ⟨h,h3⟩)
    ·exact .inl h
    ·rcases yL.1 h with h | rfl
     ·exact .inr ⟨h,h3⟩
     ·exact h3.elim .inl fun h4=>absurd h4 (EE s)
   ·rintro (h | ⟨h,h3⟩)
    ·exact .inl h
    ·exact .inr ⟨by omega,h3⟩
  by_cases EX:0<=r
  ·rw [yG EX,yw,xx,xw ⟨by omega,by omega⟩];cases hp:(pB c pos).getD i false
   ·rw [zH,yC,xw r1];exact ⟨o1,rfl,skip fun s h=>by rw [hp] at h;cases h.1⟩
   ·rw [yw,xx,xw ⟨by omega,by omega⟩];cases hc:(cB c pos).getD i false
    ·obtain ⟨x,e1,hx⟩:=hN n (by omega) i hi;have e1:(if (pB c pos).getD i false=true then LZ n q.nbrs (pB c pos) (cB c pos) i else some (false,0))=some x:=e1;rw [xw hp] at e1;obtain ⟨_,hx⟩:=hx hp;rw [xx,e1,yF];cases hb:x.1
     ·rw [xx,xw r1];exact ⟨o1,rfl,skip fun s h=>by rw [hx.2 h.2.2.1] at hb;cases hb⟩
     ·obtain ⟨l',e,h3⟩:=hI.only (c:=c) (q:=q) (D':=fun a s=>IB c q pos a s∨(a<i+1/\ Ml c q pos a s)) (cell:=(i:Int)) (by omega) (by omega) fun j s hj _=>by
       constructor
       ·rintro (h | ⟨h,h3⟩)
        ·exact .inl (.inl h)
        ·rcases yL.1 h with h | rfl
         ·exact .inl (.inr ⟨h,h3⟩)
         ·exact h3.elim (fun h=>.inl (.inl h)) fun h4=>.inr ⟨rfl,h4.2.2.2⟩
       ·rintro ((h | ⟨h,h3⟩) | ⟨h,h3⟩)
        ·exact .inl h
        ·exact .inr ⟨by omega,h3⟩
        ·obtain rfl:j=i:=by omega
         exact .inr ⟨by omega,.inr ⟨hp,hc,hx.1 hb,h3⟩⟩
      rw [yC,e,yF,xw r1];exact ⟨l',rfl,h3⟩
    ·rw [yC,xw r1];exact ⟨o1,rfl,skip fun s h=>by rw [hc] at h;cases h.2.1⟩
  ·rw [yA EX,zH,yC,xw r1];refine ⟨o1,rfl,skip fun s h=>?_⟩;obtain ⟨hp,_,⟨u,v,_,_,h3,_,h4,_⟩,_⟩:=h;rcases hF with ⟨_,hF⟩ | ⟨h5,_⟩
   ·have:=h4.rng W.g.gr (by omega) (by omega);rw [hF u.toNat (by rw [GU];omega)] at h3;cases h3
   ·exact EX h5
def Cz (g:List (List Int)) (S:List Bool) (v:Int):Nat:=(nb g v).countP fun x=>S.getD x.toNat false
def We (c:AB) (q:AA) (pos:List Int):Prop:=∀ v,v<pos.length -> (cB c pos).getD v false=true -> 2<=Cz q.nbrs (pB c pos) v/\ Cz q.nbrs (cB c pos) v<=2
def cJ (c:AB) (q:AA) (pos:List Int) (v a s:Nat):Prop:=(cB c pos).getD v false=true/\ (a:Int)∈nb q.nbrs v/\ (pB c pos).getD a false=true/\ ((Cz q.nbrs (pB c pos) v=2/\ tb c.set s=false)∨(Cz q.nbrs (cB c pos) v=2/\ (cB c pos).getD a false=false/\ tb c.set s=true))
def cb (c:AB) (q:AA) (pos:List Int) (a s:Nat):Prop:=IB c q pos a s∨∃ v,v<pos.length/\ cJ c q pos v a s
section
variable {P C:List Bool} {o1:List Int} {row:List Int} {x20 x21:Int}
def Ij (P:List Bool) (o2:List Int) (v:Int):List Int:=bif P.getD v.toNat false then o2++[v] else o2
def Jc (C:List Bool) (x:Int) (v:Int):Int:=bif C.getD v.toNat false then x+1 else x
theorem b7: ∀ (l o2:List Int),l.foldl (Ij P) o2=o2++l.filter fun x=>P.getD x.toNat false
 | [],o2=>by simp
 | v::l,o2=>by
  rw [zf,b7 l];unfold Ij;cases h:P.getD v.toNat false
  ·rw [xx,List.filter_cons_of_neg (by rw [h];decide)]
  ·rw [yC,List.filter_cons_of_pos (p:=fun x=>P.getD (Int.toNat x) false) h,zAX];rfl
theorem cL: ∀ (l:List Int) (x:Int),l.foldl (Jc C) x=x+(l.countP fun x=>C.getD x.toNat false:Nat)
 | [],x=>by simp
 | v::l,x=>by
  rw [zf,cL l];unfold Jc;cases h:C.getD v.toNat false
  ·rw [xx,List.countP_cons_of_neg (by rw [h];decide)]
  ·rw [yC,List.countP_cons_of_pos (p:=fun x=>C.getD (Int.toNat x) false) h];omega
def LX (P C:List Bool) (x20 x21:Int) (row o1 o2:List Int) (x8 j:Int):Km:=match o2 with
 | []=>.l2 P C x8 x20 x21 row (row.length:Int) j o1
 | a::l=>.l3 P C (a::l).length x8 x20 x21 row (row.length:Int) j o1 (a::l)
theorem Z7 {o2:List Int} {x8 j:Int} (h:o2≠[]):LX P C x20 x21 row o1 o2 x8 j= .l3 P C o2.length x8 x20 x21 row (row.length:Int) j o1 o2:=by
 cases o2 with
 | nil=>exact absurd rfl h
 | cons a l=>rfl
theorem oV {n j:Nat} {x8:Int} {o2:List Int} (hP:P.length=pos.length) (hC:C.length=pos.length) (hr: ∀ u∈row,0<=u/\ u<(pos.length:Int)) (hl:row.length<=256) (hj:j<row.length) (ho:o2.length<=256) (h8:0<=x8/\ x8<=256):
 CL c q pos pos.length lost (n+1) (LX P C x20 x21 row o1 o2 x8 j)=CL c q pos pos.length lost n (LX P C x20 x21 row o1 (Ij P o2 (row.getD j 0)) (Jc C x8 (row.getD j 0)) ((j:Int)+1)):=by
 have L:(1000000000000:Nat)=As:=rfl;have hx:row.getD j 0∈row:=by rw [u8,xy hj];exact yY hj
 have HG:=hr _ hx;have r1:AH ((j:Int)+1):=Ax.2 ⟨by omega,by omega⟩;have r8:AH (x8+1):=Ax.2 ⟨by omega,by omega⟩;cases o2 with
 | nil=>
  show P7 n (CL c q pos pos.length lost n) c q pos pos.length lost P C x8 x20 x21 row (row.length:Int) (j:Int) o1=_
  unfold P7 Ij Jc;simp only [yB];rw [yG (by omega),yC,xw ⟨⟨by omega,by omega⟩,by omega,by omega⟩];cases hp:P.getD (row.getD j 0).toNat false <;> cases hc:C.getD (row.getD j 0).toNat false
  ·rw [xx,xx,xx,xw ⟨by omega,by omega⟩,xx,xw r1];rfl
  ·rw [xx,xx,yC,xw ⟨by omega,by omega⟩,yC,xw ⟨r8,r1⟩];rfl
  ·rw [yC,yC,xx,xw ⟨⟨⟨trivial,rfl⟩,by rw [yk];omega,by rw [yk,←L];omega⟩,by omega,by omega⟩,xx,xw r1];rfl
  ·rw [yC,yC,yC,xw ⟨⟨⟨trivial,rfl⟩,by rw [yk];omega,by rw [yk,←L];omega⟩,by omega,by omega⟩,yC,xw ⟨r8,r1⟩];rfl
 | cons a l=>
  have Aw:Ij P (a::l) (row.getD j 0)≠[]:=by unfold Ij;cases P.getD (row.getD j 0).toNat false <;> simp
  rw [Z7 Aw]
  show L4 n (CL c q pos pos.length lost n) c q pos pos.length lost P C (a::l).length x8 x20 x21 row (row.length:Int) (j:Int) o1 (a::l)=_
  unfold L4 Ij Jc;simp only [yB];rw [yG (by omega),yC,xw ⟨⟨by omega,by omega⟩,by omega,by omega⟩];cases hp:P.getD (row.getD j 0).toNat false <;> cases hc:C.getD (row.getD j 0).toNat false
  ·rw [xx,xx,xx,xw ⟨by omega,by omega⟩,xx,xw r1]
  ·rw [xx,xx,yC,xw ⟨by omega,by omega⟩,yC,xw ⟨r8,r1⟩]
  ·rw [yC,yC,xx,xw ⟨⟨⟨trivial,rfl⟩,⟨trivial,trivial⟩,by rw [yk,←L];omega⟩,by omega,by omega⟩,xx,xw r1,yc]
  ·rw [yC,yC,yC,xw ⟨⟨⟨trivial,rfl⟩,⟨trivial,trivial⟩,by rw [yk,←L];omega⟩,by omega,by omega⟩,yC,xw ⟨r8,r1⟩,yc]
theorem cI (hP:P.length=pos.length) (hC:C.length=pos.length) (hr: ∀ u∈row,0<=u/\ u<(pos.length:Int)) (hl:row.length<=256): ∀ (k j n:Nat) (o2:List Int) (x8:Int),j+k=row.length -> o2.length<=j -> 0<=x8/\ x8<=(j:Int) ->
 CL c q pos pos.length lost (n+k) (LX P C x20 x21 row o1 o2 x8 j)=CL c q pos pos.length lost n (LX P C x20 x21 row o1 ((row.drop j).foldl (Ij P) o2) ((row.drop j).foldl (Jc C) x8) (row.length:Int))
 | 0,j,n,o2,x8,e,_,_=>by
  have e:j=row.length:=by omega
  subst e;rw [List.drop_length];rfl
 | k+1,j,n,o2,x8,e,h2,h8=>by
  have hj:j<row.length:=by omega
  have e2:row.drop j=row.getD j 0::row.drop (j+1):=by
   rw [ym hj,u8,xy hj];rfl
  rw [←yu,oV hP hC hr hl hj (by omega) (by omega),e2,zf,zf]
  have h3:(Ij P o2 (row.getD j 0)).length<=j+1:=by
   unfold Ij;cases P.getD (row.getD j 0).toNat false
   ·rw [xx];omega
   ·rw [yC,yc,yk];omega
  have h4:0<=Jc C x8 (row.getD j 0)/\ Jc C x8 (row.getD j 0)<=((j+1:Nat):Int):=by
   unfold Jc;cases C.getD (row.getD j 0).toNat false
   ·rw [xx];omega
   ·rw [yC];omega
  exact cI hP hC hr hl k (j+1) n _ _ (by omega) h3 h4
theorem gv {D:Nat -> Nat -> Prop} {near:List Int} {x8:Int} {v:Nat} {n:Nat} (W:Gx c q pos) (hD:CJ pos lost D o1) (Tn: ∀ u∈near,0<=u/\ u<(pos.length:Int)) (Ew:near.length<=256) (hv:v<pos.length):
 ∃ l',CL c q pos pos.length lost (n+1+near.length) (.l4 (pB c pos) (cB c pos) near.length x8 x20 (v:Int) near.length (near.length:Int) 0 o1 near)=CL c q pos pos.length lost n (.l1 (pB c pos) (cB c pos) x20 ((v:Int)+1) l')/\
  CJ pos lost (fun a s=>D a s∨((a:Int)∈near/\ ((near.length=2/\ tb c.set s=false)∨(x8=2/\ (cB c pos).getD a false=false/\ tb c.set s=true)))) l':=by
 have Ey:=W.l1;have lc:(cB c pos).length=pos.length:=GU
 obtain ⟨l',e,h⟩:=TF (fun n (s:List Int) i=>CL c q pos pos.length lost n (.l4 (pB c pos) (cB c pos) near.length x8 x20 (v:Int) near.length (near.length:Int) i s near)) near.length 0
  (fun i s=>CJ pos lost (fun a t=>D a t∨((a:Int)∈near.take i/\ ((near.length=2/\ tb c.set t=false)∨(x8=2/\ (cB c pos).getD a false=false/\ tb c.set t=true)))) s)
  (fun n i s _ hi hI=>by
   have hx:near.getD i 0∈near:=by rw [u8,xy hi];exact yY hi
   have HG:=Tn _ hx
   have e3:near.take (i+1)=near.take i++[near.getD i 0]:=by
    rw [zAA hi,u8,xy hi];rfl
   have r1:AH ((i:Int)+1):=Ax.2 ⟨by omega,by omega⟩;have mem: ∀ a:Nat,(a:Int)∈near.take (i+1)↔(a:Int)∈near.take i∨(a:Int)=near.getD i 0:=fun a=>by rw [e3,yx,yZ]
   obtain ⟨l2,f2,X2⟩:=hI.only (c:=c) (q:=q) (cell:=near.getD i 0) HG.1 HG.2 (D':=fun a t=>(D a t∨((a:Int)∈near.take i/\ ((near.length=2/\ tb c.set t=false)∨(x8=2/\ (cB c pos).getD a false=false/\ tb c.set t=true))))∨((a:Int)=near.getD i 0/\ tb c.set t=false)) fun j s _ _=>Iff.rfl
   obtain ⟨l3,f3,uY⟩:=X2.lose (c:=c) (q:=q) (cell:=near.getD i 0) (ss:=c.set) HG.1 HG.2 (D':=fun a t=>((D a t∨((a:Int)∈near.take i/\ ((near.length=2/\ tb c.set t=false)∨(x8=2/\ (cB c pos).getD a false=false/\ tb c.set t=true))))∨((a:Int)=near.getD i 0/\ tb c.set t=false))∨((a:Int)=near.getD i 0/\ tb c.set t=true)) fun j s _ _=>Iff.rfl
   obtain ⟨l4,f4,Tz⟩:=hI.lose (c:=c) (q:=q) (cell:=near.getD i 0) (ss:=c.set) HG.1 HG.2 (D':=fun a t=>(D a t∨((a:Int)∈near.take i/\ ((near.length=2/\ tb c.set t=false)∨(x8=2/\ (cB c pos).getD a false=false/\ tb c.set t=true))))∨((a:Int)=near.getD i 0/\ tb c.set t=true)) fun j s _ _=>Iff.rfl
   show ∃ s',P6 n (CL c q pos pos.length lost n) c q pos pos.length lost (pB c pos) (cB c pos) near.length x8 x20 (v:Int) near.length (near.length:Int) (i:Int) s near=_/\ _
   unfold P6;simp only [yB,yU];rw [yG (by omega),yC,xw ⟨⟨by omega,by omega⟩,hi⟩];have A2: ∀ a:Nat,(a:Int)=near.getD i 0 -> (near.getD i 0).toNat=a:=fun a h=>by omega
   by_cases h2:near.length=2
   ·have b2:(((near.length:Nat):Int)==2)=true:=by rw [h2];rfl
    rw [b2,yC,f2,yF]
    by_cases h8:x8=2
    ·have b8:(x8==2)=true:=by rw [h8];rfl
     rw [b8,yC,xw ⟨by omega,by omega⟩];cases hc:(cB c pos).getD (near.getD i 0).toNat false
     ·rw [zH,yC,f3,yF,xw r1];refine ⟨l3,rfl,uY.id' fun a t _ _=>?_⟩;rw [mem];constructor
      ·rintro (h | ⟨h | h,h3 | ⟨h3,h4,h5⟩⟩)
       ·exact .inl (.inl (.inl h))
       ·exact .inl (.inl (.inr ⟨h,.inl h3⟩))
       ·exact .inl (.inl (.inr ⟨h,.inr ⟨h3,h4,h5⟩⟩))
       ·exact .inl (.inr ⟨h,h3.2⟩)
       ·exact .inr ⟨h,h5⟩
      ·rintro (((h | ⟨h,h3⟩) | ⟨h,h3⟩) | ⟨h,h3⟩)
       ·exact .inl h
       ·exact .inr ⟨.inl h,h3⟩
       ·exact .inr ⟨.inr h,.inl ⟨h2,h3⟩⟩
       ·exact .inr ⟨.inr h,.inr ⟨h8,by rw [←A2 a h];exact hc,h3⟩⟩
     ·rw [yw,xx,xw r1];refine ⟨l2,rfl,X2.id' fun a t _ _=>?_⟩;rw [mem];constructor
      ·rintro (h | ⟨h | h,h3 | ⟨h3,h4,h5⟩⟩)
       ·exact .inl (.inl h)
       ·exact .inl (.inr ⟨h,.inl h3⟩)
       ·exact .inl (.inr ⟨h,.inr ⟨h3,h4,h5⟩⟩)
       ·exact .inr ⟨h,h3.2⟩
       ·rw [←A2 a h,hc] at h4;cases h4
      ·rintro ((h | ⟨h,h3⟩) | ⟨h,h3⟩)
       ·exact .inl h
       ·exact .inr ⟨.inl h,h3⟩
       ·exact .inr ⟨.inr h,.inl ⟨h2,h3⟩⟩
    ·have b8:(x8==2)=false:=zI.2 h8;rw [b8,xx,xw r1];refine ⟨l2,rfl,X2.id' fun a t _ _=>?_⟩;rw [mem];constructor
     ·rintro (h | ⟨h | h,h3 | ⟨h3,h4,h5⟩⟩)
      ·exact .inl (.inl h)
      ·exact .inl (.inr ⟨h,.inl h3⟩)
      ·exact .inl (.inr ⟨h,.inr ⟨h3,h4,h5⟩⟩)
      ·exact .inr ⟨h,h3.2⟩
      ·exact absurd h3 h8
     ·rintro ((h | ⟨h,h3⟩) | ⟨h,h3⟩)
      ·exact .inl h
      ·exact .inr ⟨.inl h,h3⟩
      ·exact .inr ⟨.inr h,.inl ⟨h2,h3⟩⟩
   ·have b2:(((near.length:Nat):Int)==2)=false:=zI.2 (by omega);rw [b2,xx]
    by_cases h8:x8=2
    ·have b8:(x8==2)=true:=by rw [h8];rfl
     rw [b8,yC,xw ⟨by omega,by omega⟩];cases hc:(cB c pos).getD (near.getD i 0).toNat false
     ·rw [zH,yC,f4,yF,xw r1];refine ⟨l4,rfl,Tz.id' fun a t _ _=>?_⟩;rw [mem];constructor
      ·rintro (h | ⟨h | h,h3 | ⟨h3,h4,h5⟩⟩)
       ·exact .inl (.inl h)
       ·exact .inl (.inr ⟨h,.inl h3⟩)
       ·exact .inl (.inr ⟨h,.inr ⟨h3,h4,h5⟩⟩)
       ·exact absurd h3.1 h2
       ·exact .inr ⟨h,h5⟩
      ·rintro ((h | ⟨h,h3⟩) | ⟨h,h3⟩)
       ·exact .inl h
       ·exact .inr ⟨.inl h,h3⟩
       ·exact .inr ⟨.inr h,.inr ⟨h8,by rw [←A2 a h];exact hc,h3⟩⟩
     ·rw [yw,xx,xw r1];refine ⟨s,rfl,hI.id' fun a t _ _=>?_⟩;rw [mem];constructor
      ·rintro (h | ⟨h | h,h3 | ⟨h3,h4,h5⟩⟩)
       ·exact .inl h
       ·exact .inr ⟨h,.inl h3⟩
       ·exact .inr ⟨h,.inr ⟨h3,h4,h5⟩⟩
       ·exact absurd h3.1 h2
       ·rw [←A2 a h,hc] at h4;cases h4
      ·rintro (h | ⟨h,h3⟩)
       ·exact .inl h
       ·exact .inr ⟨.inl h,h3⟩
    ·have b8:(x8==2)=false:=zI.2 h8;rw [b8,xx,xw r1];refine ⟨s,rfl,hI.id' fun a t _ _=>?_⟩;rw [mem];constructor
     ·rintro (h | ⟨h | h,h3 | ⟨h3,h4,h5⟩⟩)
      ·exact .inl h
      ·exact .inr ⟨h,.inl h3⟩
      ·exact .inr ⟨h,.inr ⟨h3,h4,h5⟩⟩
      ·exact absurd h3.1 h2
      ·exact absurd h3 h8
     ·rintro (h | ⟨h,h3⟩)
      ·exact .inl h
      ·exact .inr ⟨.inl h,h3⟩)
  near.length 0 (n+1) o1 (by omega) (by omega) (hD.id' fun a t _ _=>by simp)
 refine ⟨l',Eq.trans e ?_,h.id' fun a t _ _=>by rw [List.take_length]⟩
 show P6 n (CL c q pos pos.length lost n) c q pos pos.length lost (pB c pos) (cB c pos) near.length x8 x20 (v:Int) near.length (near.length:Int) (near.length:Int) l' near=_
 unfold P6;rw [yA (by omega),xx,xw (Ax.2 ⟨by omega,by omega⟩)]
end
def iM (c:AB) (q:AA) (pos lost:List Int) (x:Bool×List Int):Prop:=(x.1=true↔We c q pos)/\ (x.1=true -> CJ pos lost (cb c q pos) x.2)
theorem pN (W:Gx c q pos): ∀ (k v:Nat) (o1:List Int),v+k=pos.length -> (∀ u,u<v -> (cB c pos).getD u false=true -> 2<=Cz q.nbrs (pB c pos) u/\ Cz q.nbrs (cB c pos) u<=2) -> CJ pos lost (fun a s=>IB c q pos a s∨∃ u,u<v/\ cJ c q pos u a s) o1 ->
 Ae (fun n=>CL c q pos pos.length lost n (.l1 (pB c pos) (cB c pos) (pos.length:Int) (v:Int) o1)) (iM c q pos lost):=by
 have Ey:=W.l1;have Ca:=W.gl;have lp:(pB c pos).length=pos.length:=Fr;have lc:(cB c pos).length=pos.length:=GU;intro k
 induction k with
 | zero=>
  intro v o1 e CG hL;have e:v=pos.length:=by omega
  subst e;refine Ev.p (r:=(true,o1)) ⟨1,fun n hn=>?_⟩ ⟨⟨fun _ v hv hc=>CG v hv hc,fun _=>rfl⟩,fun _=>hL⟩;obtain ⟨n,rfl⟩: ∃ k,n=k+1:=⟨n-1,by omega⟩
  show P8 n (CL c q pos pos.length lost n) c q pos pos.length lost (pB c pos) (cB c pos) (pos.length:Int) (pos.length:Int) o1=_
  unfold P8;rw [yA (by omega),xx]
 | succ k ih=>
  intro v o1 e CG hL;have hv:v<pos.length:=by omega
  have r1:AH ((v:Int)+1):=Ax.2 ⟨by omega,by omega⟩
  have U: ∀ n,CL c q pos pos.length lost (n+1) (.l1 (pB c pos) (cB c pos) (pos.length:Int) (v:Int) o1)=bif (cB c pos).getD v false then CL c q pos pos.length lost n (LX (pB c pos) (cB c pos) (pos.length:Int) (v:Int) (nb q.nbrs v) o1 [] 0 0) else CL c q pos pos.length lost n (.l1 (pB c pos) (cB c pos) (pos.length:Int) ((v:Int)+1) o1):=fun n=>by
   show P8 n (CL c q pos pos.length lost n) c q pos pos.length lost (pB c pos) (cB c pos) (pos.length:Int) (v:Int) o1=_
   unfold P8;rw [yG (by omega),yC,xw ⟨by omega,by omega⟩,yB,xw r1,xw ⟨by omega,by omega⟩];cases (cB c pos).getD v false <;> rfl
  cases hc:(cB c pos).getD v false
  ·refine Ae.step 1 (fun n=>?_) (ih (v+1) o1 (by omega) (fun u hu QU=>?_) (hL.id' fun a s _ _=>?_))
   ·rw [U,hc,xx];rfl
   ·rcases yL.1 hu with hu | rfl
    ·exact CG u hu QU
    ·rw [hc] at QU;cases QU
   ·constructor
    ·rintro (h | ⟨u,hu,h⟩)
     ·exact .inl h
     ·rcases yL.1 hu with hu | rfl
      ·exact .inr ⟨u,hu,h⟩
      ·rw [h.1] at hc;cases hc
    ·rintro (h | ⟨u,hu,h⟩)
     ·exact .inl h
     ·exact .inr ⟨u,by omega,h⟩
  ·have MJ:=W.g.gr.row (v:Int) (by omega) (by omega)
   have Nq: ∀ u∈nb q.nbrs (v:Int),0<=u/\ u<(pos.length:Int):=fun u hu=>by
    have:=W.g.gr.rng (v:Int) (by omega) (by omega) u hu;omega
   have A:=fun n=>cI (c:=c) (q:=q) (lost:=lost) (o1:=o1) (x20:=(pos.length:Int)) (x21:=(v:Int)) lp lc Nq MJ (nb q.nbrs v).length 0 n [] 0 (by omega) (by simp) ⟨zP _,by omega⟩
   rw [zAc,b7,cL,zW,Int.zero_add] at A;have dP:Cz q.nbrs (pB c pos) v=((nb q.nbrs v).filter fun x=>(pB c pos).getD x.toNat false).length:=List.countP_eq_length_filter;have dC:Cz q.nbrs (cB c pos) v=(nb q.nbrs v).countP fun x=>(cB c pos).getD x.toNat false:=rfl
   rw [←dC] at A
   generalize QZ:((nb q.nbrs v).filter fun x=>(pB c pos).getD x.toNat false)=near at A dP
   have DS: ∀ u,u∈near↔u∈nb q.nbrs v/\ (pB c pos).getD u.toNat false=true:=fun u=>by rw [←QZ,z6]
   have Ew:near.length<=256:=by
    have:=List.length_filter_le (fun x=>(pB c pos).getD x.toNat false) (nb q.nbrs v);rw [QZ] at this;omega
   have Tn: ∀ u∈near,0<=u/\ u<(pos.length:Int):=fun u hu=>Nq u ((DS u).1 hu).1
   have U2: ∀ n,CL c q pos pos.length lost (n+((nb q.nbrs v).length+1)) (.l1 (pB c pos) (cB c pos) (pos.length:Int) (v:Int) o1)=CL c q pos pos.length lost n (LX (pB c pos) (cB c pos) (pos.length:Int) (v:Int) (nb q.nbrs v) o1 near (Cz q.nbrs (cB c pos) v:Int) ((nb q.nbrs v).length:Int)):=fun n=>by
    rw [←yu,U,hc,yC];exact A n
   refine Ae.step _ U2 ?_
   by_cases hbad:Cz q.nbrs (pB c pos) v<2∨2<Cz q.nbrs (cB c pos) v
   ·have EE: ¬ We c q pos:=fun h=>by have:=h v hv hc;omega
    refine Ev.p (r:=(false,o1)) ⟨1,fun n hn=>?_⟩ ⟨⟨fun h=>(by cases h),fun h=>absurd h EE⟩,fun h=>(by cases h)⟩;obtain ⟨n,rfl⟩: ∃ k,n=k+1:=⟨n-1,by omega⟩;cases near with
    | nil=>
     show P7 n (CL c q pos pos.length lost n) c q pos pos.length lost (pB c pos) (cB c pos) (Cz q.nbrs (cB c pos) v:Int) (pos.length:Int) (v:Int) (nb q.nbrs v) ((nb q.nbrs v).length:Int) ((nb q.nbrs v).length:Int) o1=_
     unfold P7;rw [yA (by omega),xx]
    | cons a l=>
     show L4 n (CL c q pos pos.length lost n) c q pos pos.length lost (pB c pos) (cB c pos) (a::l).length (Cz q.nbrs (cB c pos) v:Int) (pos.length:Int) (v:Int) (nb q.nbrs v) ((nb q.nbrs v).length:Int) ((nb q.nbrs v).length:Int) o1 (a::l)=_
     unfold L4;rw [yA (by omega),xx]
     by_cases h2:(((a::l).length:Nat):Int)<2
     ·rw [yG h2,yC]
     ·rw [yA h2,xx,yG (by omega),yC]
   ·have Aw:near≠[]:=by
     intro h;rw [h,zD] at dP;omega
    obtain ⟨l',e4,Tz⟩:=gv (c:=c) (q:=q) (lost:=lost) (o1:=o1) (near:=near) (x20:=(pos.length:Int)) (x8:=(Cz q.nbrs (cB c pos) v:Int)) (n:=0) W hL Tn Ew hv;have e5: ∀ n,∃ l',CL c q pos pos.length lost (n+1+near.length) (.l4 (pB c pos) (cB c pos) near.length (Cz q.nbrs (cB c pos) v:Int) (pos.length:Int) (v:Int) near.length (near.length:Int) 0 o1 near)=CL c q pos pos.length lost n (.l1 (pB c pos) (cB c pos) (pos.length:Int) ((v:Int)+1) l')/\ _:=fun n=>gv (c:=c) (q:=q) (lost:=lost) (o1:=o1) (near:=near) (x20:=(pos.length:Int)) (x8:=(Cz q.nbrs (cB c pos) v:Int)) (n:=n) W hL Tn Ew hv
    have IH:=ih (v+1) l' (by omega) (fun u hu QU=>by
     rcases yL.1 hu with hu | rfl
     ·exact CG u hu QU
     ·omega) (Tz.id' fun a s _ _=>by
     constructor
     ·rintro (h | ⟨u,hu,h⟩)
      ·exact .inl (.inl h)
      ·rcases yL.1 hu with hu | rfl
       ·exact .inl (.inr ⟨u,hu,h⟩)
       ·obtain ⟨h1,h2,h3,h4⟩:=h;refine .inr ⟨(DS _).2 ⟨h2,by rw [yB];exact h3⟩,?_⟩;rcases h4 with ⟨h4,h5⟩ | ⟨h4,h5⟩
        ·exact .inl ⟨by omega,h5⟩
        ·exact .inr ⟨by omega,h5⟩
     ·rintro ((h | ⟨u,hu,h⟩) | ⟨h1,h2⟩)
      ·exact .inl h
      ·exact .inr ⟨u,by omega,h⟩
      ·obtain ⟨h3,h4⟩:=(DS _).1 h1;rw [yB] at h4;refine .inr ⟨v,by omega,hc,h3,h4,?_⟩;rcases h2 with ⟨h2,h5⟩ | ⟨h2,h5⟩
       ·exact .inl ⟨by omega,h5⟩
       ·exact .inr ⟨by omega,h5⟩)
    refine Ae.step (1+near.length+1) (g:=fun n=>CL c q pos pos.length lost n (.l1 (pB c pos) (cB c pos) (pos.length:Int) ((v:Int)+1) l')) (fun n=>?_) IH;obtain ⟨l2,e6,uX⟩:=e5 n;have:l2=l':=uX.unique Tz;subst this;rw [Z7 Aw,show n+(1+near.length+1)=n+1+near.length+1 by omega,←e6]
    show L4 (n+1+near.length) (CL c q pos pos.length lost (n+1+near.length)) c q pos pos.length lost (pB c pos) (cB c pos) near.length (Cz q.nbrs (cB c pos) v:Int) (pos.length:Int) (v:Int) (nb q.nbrs v) ((nb q.nbrs v).length:Int) ((nb q.nbrs v).length:Int) o1 near=_
    unfold L4;rw [yA (by omega),xx,yA (by omega),xx,yA (by omega),xx]
theorem pO (W:Gx c q pos) (hL:CJ pos lost (fun _ _=>False) lost):Ae (fun n=>TE n c q pos pos.length lost) (iM c q pos lost):=by
 have Ey:=W.l1;obtain ⟨r,_,hF⟩:=Wz (l:=cB c pos) (by rw [GU];exact Ey);obtain ⟨l0,h1,h2⟩:=cA W hL hF;refine Ae.bind h1 (b:=fun n y1=>CL c q pos pos.length lost n (.l1 y1.1 y1.2.1 (y1.2.1.length:Int) 0 y1.2.2.2)) ?_;have:=pN (q:=q) W pos.length 0 l0 (by omega) (fun u hu=>absurd hu (yN u)) (h2.id' fun a s _ _=>⟨fun h=>h.elim id fun ⟨u,hu,_⟩=>absurd hu (yN u),.inl⟩);refine this.eq fun n=>?_
 show CL c q pos pos.length lost n (.l1 (pB c pos) (cB c pos) ((cB c pos).length:Int) 0 l0)=_
 rw [GU];rfl
end
end Go.Proofs.YtgkhhfnhacibcaaGreatDoor
namespace Go.Proofs.YtgkhhfnhacibcaaGreatDoor
open Go.RowKit
set_option maxRecDepth 100000
set_option maxHeartbeats 40000000
theorem ka:Ay (BC Tryz.f44 6) [([0,1,2,3,4,5,6,7,8],9),([10],11)] [12] []:=by unfold Ay;kernel_rfl
theorem kb:Ay (BC Tryz.f44 13) [] (List.range 13) [13]:=by unfold Ay;kernel_rfl
def DX:Bb:=fun i=>match i with
 | 6=>.ord [([0,1,2,3,4,5,6,7,8],9),([10],11)] [12] []
 | 13=>.ord [] (List.range 13) [13]
 | _=>.no
def sh (q:AA) (pos:List Int):DH:=[some (.cells (AD q)),some (.cells [.cst .nilFunc,.fn 68 0 (L1 []),.fn 69 0 (L1 []),.fn 70 0 (L1 []),.fn 71 0 (L1 []),.fn 72 0 (L1 []),.fn 73 0 (L1 []),.fn 74 0 (L1 []),.fn 75 0 (L1 []),.fn 76 0 (L1 [])]),some (.ints (List.replicate pos.length (0:Int)))]
def Jp (q:AA) (pos:List Int) (i:Int):DH:=[some (.cells (AD q)),some (.cells [.cst .nilFunc,.fn 68 0 (L1 []),.fn 69 0 (L1 []),.fn 70 0 (L1 []),.fn 71 0 (L1 []),.fn 72 0 (L1 []),.fn 73 0 (L1 []),.fn 74 0 (L1 []),.fn 75 0 (L1 []),.fn 76 0 (L1 [])]),some (.ints (List.replicate pos.length (0:Int))),some (.ints (List.replicate pos.length (0:Int))),some (.cells (AF (q.cons.getD ((i).toNat) default)++AD q++[.ints pos,.msl 3 1 0 pos.length]))]
def sf (pos:List Int) (q:AA) (i:Int) (o2:List Int):DH:=[some (.ints (List.replicate pos.length (0:Int))),some (.cells (AF (q.cons.getD ((i).toNat) default)++AD q++[.ints pos,.msl 2 1 0 pos.length])),some (.ints o2)]
def se (pos:List Int) (q:AA) (i:Int) (o2 o3:List Int):DH:=[some (.ints (List.replicate pos.length (0:Int))),some (.cells (AF (q.cons.getD ((i).toNat) default)++AD q++[.ints pos,.msl 2 1 0 pos.length])),some (.ints o2),some (.ints o3)]
inductive Pa where
 | l1 (o2:List Int)
 | l2 (AW:Nat) (KC By:Int) (o2 o3:List Int)
def V0 (n:Nat) (self:Pa -> Option ((List Int))) (q:AA) (i:Int) (pos:List Int) (o2:List Int):Option ((List Int)):=
 (Ui n pos).bind fun y1=>
  self (.l2 y1.length (y1.length:Int) 0 o2 y1)
def PZ (n:Nat) (self:Pa -> Option ((List Int))) (q:AA) (i:Int) (pos:List Int) (AW:Nat) (KC By:Int) (o2 o3:List Int):Option ((List Int)):=
 bif (decide (By<KC)) then
  if (0<=By/\ By<(AW:Int))/\ 0+((By).toNat)<o3.length/\ (0<=By/\ By<(pos.length:Int))/\ 0+((By).toNat)<o2.length/\ AH (By+1) then
   self (.l2 AW KC (By+1) o2 (o3.set (0+((By).toNat)) (bits .andNot .i64 (o3.getD (0+((By).toNat)) 0) (o2.getD (0+((By).toNat)) 0))))
  else none
 else
  if AW=o3.length then
   (Jj n o3).bind fun y1=>
    bif y1 then
     if pos.length=(List.replicate pos.length (0:Int)).length then
      some (List.replicate pos.length (0:Int))
     else none
    else
     some o3
  else none
def V1 (n:Nat) (self:Pa -> Option ((List Int))) (q:AA) (i:Int) (pos:List Int):Option ((List Int)):=
 if ((pos.length:Int):Int)=(pos.length:Int)/\ 0<=(pos.length:Int)/\ ((pos.length:Int):Int)<=1000000000000 then
  (Jj n pos).bind fun y1=>
   bif y1 then
    if pos.length=(List.replicate pos.length (0:Int)).length then
     some (List.replicate pos.length (0:Int))
    else none
   else
    if 0<=i/\ i<(q.cons.length:Int) then
     bif (((q.cons.getD ((i).toNat) default).kind)==0) then
      none
     else
      bif (((q.cons.getD ((i).toNat) default).kind)==1) then
       (OM n (q.cons.getD ((i).toNat) default) q pos pos.length (List.replicate pos.length (0:Int))).bind fun y2=>
        bif (!y2.1) then
         if pos.length=(List.replicate pos.length (0:Int)).length then
          some (List.replicate pos.length (0:Int))
         else none
        else
         self (.l1 y2.2)
      else
       bif (((q.cons.getD ((i).toNat) default).kind)==2) then
        (OO n (q.cons.getD ((i).toNat) default) q pos pos.length (List.replicate pos.length (0:Int))).bind fun y2=>
         bif (!y2.1) then
          if pos.length=(List.replicate pos.length (0:Int)).length then
           some (List.replicate pos.length (0:Int))
          else none
         else
          self (.l1 y2.2)
       else
        bif (((q.cons.getD ((i).toNat) default).kind)==3) then
         (ND n (q.cons.getD ((i).toNat) default) q pos pos.length (List.replicate pos.length (0:Int))).bind fun y2=>
          bif (!y2.1) then
           if pos.length=(List.replicate pos.length (0:Int)).length then
            some (List.replicate pos.length (0:Int))
           else none
          else
           self (.l1 y2.2)
        else
         bif (((q.cons.getD ((i).toNat) default).kind)==4) then
          (Kc n (q.cons.getD ((i).toNat) default) q pos pos.length (List.replicate pos.length (0:Int))).bind fun y2=>
           bif (!y2.1) then
            if pos.length=(List.replicate pos.length (0:Int)).length then
             some (List.replicate pos.length (0:Int))
            else none
           else
            self (.l1 y2.2)
         else
          bif (((q.cons.getD ((i).toNat) default).kind)==5) then
           (NH n (q.cons.getD ((i).toNat) default) q pos pos.length (List.replicate pos.length (0:Int))).bind fun y2=>
            bif (!y2.1) then
             if pos.length=(List.replicate pos.length (0:Int)).length then
              some (List.replicate pos.length (0:Int))
             else none
            else
             self (.l1 y2.2)
          else
           bif (((q.cons.getD ((i).toNat) default).kind)==6) then
            (My n (q.cons.getD ((i).toNat) default) q pos pos.length (List.replicate pos.length (0:Int))).bind fun y2=>
             bif (!y2.1) then
              if pos.length=(List.replicate pos.length (0:Int)).length then
               some (List.replicate pos.length (0:Int))
              else none
             else
              self (.l1 y2.2)
           else
            bif (((q.cons.getD ((i).toNat) default).kind)==7) then
             (Ly n (q.cons.getD ((i).toNat) default) q pos pos.length (List.replicate pos.length (0:Int))).bind fun y2=>
              bif (!y2.1) then
               if pos.length=(List.replicate pos.length (0:Int)).length then
                some (List.replicate pos.length (0:Int))
               else none
              else
               self (.l1 y2.2)
            else
             bif (((q.cons.getD ((i).toNat) default).kind)==8) then
              (Uc n (q.cons.getD ((i).toNat) default) q pos pos.length (List.replicate pos.length (0:Int))).bind fun y2=>
               bif (!y2.1) then
                if pos.length=(List.replicate pos.length (0:Int)).length then
                 some (List.replicate pos.length (0:Int))
                else none
               else
                self (.l1 y2.2)
             else
              bif (((q.cons.getD ((i).toNat) default).kind)==9) then
               (TE n (q.cons.getD ((i).toNat) default) q pos pos.length (List.replicate pos.length (0:Int))).bind fun y2=>
                bif (!y2.1) then
                 if pos.length=(List.replicate pos.length (0:Int)).length then
                  some (List.replicate pos.length (0:Int))
                 else none
                else
                 self (.l1 y2.2)
              else
               none
    else none
 else none
def Hl (q:AA) (i:Int) (pos:List Int):Nat -> Pa -> Option ((List Int))
 | 0,_=>none
 | n+1,.l1 o2=>V0 n (Hl q i pos n) q i pos o2
 | n+1,.l2 AW KC By o2 o3=>PZ n (Hl q i pos n) q i pos AW KC By o2 o3
def Hm (n:Nat) (q:AA) (i:Int) (pos:List Int):Option ((List Int)):=V1 n (Hl q i pos n) q i pos
def nK (n B:Nat) (N:Yd 0) (q:AA) (i:Int) (pos:List Int) (r:(List Int)):Pa -> Prop
 | .l1 o2=>TW B N (FQ Tryz.f44 0 (.ints r) []) (CP (AX Tryz.f44) 9 []) ⟨AM 69 [(2,.ints pos),(8,.msl 0 1 0 pos.length),(9,.ref 1 0)],[some (.ints (List.replicate pos.length (0:Int))),some (.cells (AF (q.cons.getD ((i).toNat) default)++AD q++[.ints pos,.msl 2 1 0 pos.length])),some (.ints o2)]⟩
 | .l2 AW KC By o2 o3=>∀ m0:Nat,n<=m0 -> TW B N (FQ Tryz.f44 0 (.ints r) []) (A2 m0 (BA (AX Tryz.f44) 0 [])) ⟨AM 69 [(8,.msl 0 1 0 pos.length),(9,.ref 1 0),(10,.msl 3 1 0 AW),(47,.i KC),(48,.i By)],[some (.ints (List.replicate pos.length (0:Int))),some (.cells (AF (q.cons.getD ((i).toNat) default)++AD q++[.ints pos,.msl 2 1 0 pos.length])),some (.ints o2),some (.ints o3)]⟩
theorem nL (B:Nat) (N:Yd 0) (q:AA) (i:Int) (pos:List Int):Al (Hl q i pos) (nK · B N q i pos):=ia (fun _=>rfl) fun n AG pt r h=>by
 cases pt
 case l1 o2=>
  revert r;apply gO;exact cn fun y1 A7=>jc (ES.snapNew (ds:=[.ints pos]) (wg A7) (sf pos q i o2) (Yz (by kernel_rfl)) rfl) (lN DX [0,1,2,3] (AG _ _ · n Nat.le.refl))
 case l2 AW KC By o2 o3=>
  intro m0 AC;refine rd AC fun m0 AC=>?_
  revert r;apply gO;exact bi 49 (jg kb (gc (gn fun g0=>jg g0 (gc (gn fun g1=>jg g1 (gc (gi (gc (gi (jg g0 (jg g1 (gw 64 (lG (AI 9 DX) [0,1,2,3] (AG _ _ · m0 AC)))))))))))))) (gn fun g0=>cn fun y1 A7=>jc (sb [.msl 3 1 0 AW] (Wq A7) (se pos q i o2 o3) ⟨Ab.ints rfl g0,trivial⟩) (bi 66 (gn fun g1=>lF fun p=>ez (AI 9 DX) [6] [0] p [0] (H0.g g1)) (lF fun p=>ez (AI 9 DX) [6] [3] p [0] (H0.g g0))))
theorem bN {n:Nat} {q:AA} {i:Int} {pos:List Int} {r:(List Int)} (h:Hm n q i pos=some r):EQ 44 [.agg 5 (L1 (AD q)),.i i,.ints pos] [] (.ints r) [] true:=by
 have AG:=fun B N=>(nL B N q i pos n)
 refine ot Tryz.func44 fun B N=>?_
 revert r;apply gO;exact jt (gn fun g0=>jg g0 (cf Wq (sh q pos) fun _=>bi 18 (gn fun g1=>lF fun p=>ez (AI 9 DX) [6] [2] p [0] (H0.g g1)) (jg ka (gi (jg g0 (bn (fun c1=>nO) (fun c1=>bn (fun c3=>jo 36 (AT.int (k:=.i64) (eq_of_beq c3)) (jg (by decide:(0:Int)<=1/\ 1<((10:Nat):Int)) (ce vr [4,3] (Jp q pos i) fun _=>bi 42 (gn fun g2=>lF fun p=>ez (AI 9 DX) [6] [2] p [0] (H0.g g2)) (lG (AI 9 DX) [2,4,3] ((AG B N) _ _ ·))))) (fun c3=>bn (fun c5=>jo 36 (AT.int (k:=.i64) (eq_of_beq c5)) (jg (by decide:(0:Int)<=2/\ 2<((10:Nat):Int)) (ce wD [4,3] (Jp q pos i) fun _=>bi 42 (gn fun g2=>lF fun p=>ez (AI 9 DX) [6] [2] p [0] (H0.g g2)) (lG (AI 9 DX) [2,4,3] ((AG B N) _ _ ·))))) (fun c5=>bn (fun c7=>jo 36 (AT.int (k:=.i64) (eq_of_beq c7)) (jg (by decide:(0:Int)<=3/\ 3<((10:Nat):Int)) (ce jI [4,3] (Jp q pos i) fun _=>bi 42 (gn fun g2=>lF fun p=>ez (AI 9 DX) [6] [2] p [0] (H0.g g2)) (lG (AI 9 DX) [2,4,3] ((AG B N) _ _ ·))))) (fun c7=>bn (fun c9=>jo 36 (AT.int (k:=.i64) (eq_of_beq c9)) (jg (by decide:(0:Int)<=4/\ 4<((10:Nat):Int)) (ce mR [4,3] (Jp q pos i) fun _=>bi 42 (gn fun g2=>lF fun p=>ez (AI 9 DX) [6] [2] p [0] (H0.g g2)) (lG (AI 9 DX) [2,4,3] ((AG B N) _ _ ·))))) (fun c9=>bn (fun gM=>jo 36 (AT.int (k:=.i64) (eq_of_beq gM)) (jg (by decide:(0:Int)<=5/\ 5<((10:Nat):Int)) (ce lh [4,3] (Jp q pos i) fun _=>bi 42 (gn fun g2=>lF fun p=>ez (AI 9 DX) [6] [2] p [0] (H0.g g2)) (lG (AI 9 DX) [2,4,3] ((AG B N) _ _ ·))))) (fun gM=>bn (fun gL=>jo 36 (AT.int (k:=.i64) (eq_of_beq gL)) (jg (by decide:(0:Int)<=6/\ 6<((10:Nat):Int)) (ce xU [4,3] (Jp q pos i) fun _=>bi 42 (gn fun g2=>lF fun p=>ez (AI 9 DX) [6] [2] p [0] (H0.g g2)) (lG (AI 9 DX) [2,4,3] ((AG B N) _ _ ·))))) (fun gL=>bn (fun gK=>jo 36 (AT.int (k:=.i64) (eq_of_beq gK)) (jg (by decide:(0:Int)<=7/\ 7<((10:Nat):Int)) (ce oK [4,3] (Jp q pos i) fun _=>bi 42 (gn fun g2=>lF fun p=>ez (AI 9 DX) [6] [2] p [0] (H0.g g2)) (lG (AI 9 DX) [2,4,3] ((AG B N) _ _ ·))))) (fun gK=>bn (fun gJ=>jo 36 (AT.int (k:=.i64) (eq_of_beq gJ)) (jg (by decide:(0:Int)<=8/\ 8<((10:Nat):Int)) (ce wR [4,3] (Jp q pos i) fun _=>bi 42 (gn fun g2=>lF fun p=>ez (AI 9 DX) [6] [2] p [0] (H0.g g2)) (lG (AI 9 DX) [2,4,3] ((AG B N) _ _ ·))))) (fun gJ=>bn (fun gI=>jo 36 (AT.int (k:=.i64) (eq_of_beq gI)) (jg (by decide:(0:Int)<=9/\ 9<((10:Nat):Int)) (ce pP [4,3] (Jp q pos i) fun _=>bi 42 (gn fun g2=>lF fun p=>ez (AI 9 DX) [6] [2] p [0] (H0.g g2)) (lG (AI 9 DX) [2,4,3] ((AG B N) _ _ ·))))) (fun gI=>nO))))))))))))))))
def bP (n:Nat) (q:AA) (i:Int) (pos:List Int):Option ((List Int)×Int):=
 (Mq n q i pos).bind fun y1=>
  bif (y1 != 0) then
   some (([]:List Int),y1)
  else
   (Hm n q i pos).bind fun y2=>
    some (y2,0)
def JV (n:Nat) (q:AA) (i:Int) (pos:List Int):Option ((List Int)×Int):=bP n q i pos
theorem V2 {n:Nat} {q:AA} {i:Int} {pos:List Int} {r:(List Int)×Int} (h:JV n q i pos=some r):EQ 15 [.agg 5 (L1 (AD q)),.i i,.ints pos] [] (.tup 2 (L1 [.ints r.1,.i r.2])) [] true:=by
 unfold JV bP at h;refine ot Tryz.func15 fun B N=>?_
 revert r;apply gO;exact cf f7 [some (.cells (AD q))] fun y1=>bi 14 (lF fun p=>el AE [6,7] [] p [] H0 [.nils,.i y1] (AT.tupL (l:=[.nils,.i y1]) (l':=[.ints ([]:List Int),.i y1]) rfl ⟨AT.ints_nil,AL,trivial⟩)) (cf bN [some (.cells (AD q))] fun _=>lE AE [6,7] [])
theorem aY:Ay (BC Tryz.f52 8) [([0,1,2,3,4,5,6,7,8],9)] [] []:=by unfold Ay;kernel_rfl
def Fl:Bb:=fun i=>match i with
 | 8=>.ord [([0,1,2,3,4,5,6,7,8],9)] [] []
 | _=>.no
def s9 (AV:Int) (pos x9:List Int):DH:=[some (.cells [.nils]),some (.cells [.i AV]),some (.iter ((Bg (bits .andNot .i64 (pos.getD ((AV).toNat) 0) (x9.getD ((AV).toNat) 0))).map BK))]
def s8 (Ck:Nat) (AV:Int) (pos x9:List Int) (o1:List (Int×Int)):DH:=[some (.cells [.msl 3 2 0 Ck]),some (.cells [.i AV]),some (.iter ((Bg (bits .andNot .i64 (pos.getD ((AV).toNat) 0) (x9.getD ((AV).toNat) 0))).map BK)),some (.arr 2 o1.length (Am DB o1))]
def s7 (Ic:Nat) (Eo:Int) (FW:List (Int×Int)):DH:=[some (.cells [.msl 3 2 0 Ic]),some (.cells [.i Eo]),none,some (.arr 2 FW.length (Am DB FW))]
def s6 (Id:Nat) (AV:Int) (FX:List (Int×Int)):DH:=[some (.cells [.msl 3 2 0 Id]),some (.cells [.i AV]),none,some (.arr 2 FX.length (Am DB FX))]
inductive Kl where
 | s0 (Id:Nat) (FX:List (Int×Int))
def cV (pos x9:List Int) (AV:Int):Kl -> DH
 | .s0 Id FX=>[some (.cells [.msl 3 2 0 Id]),some (.cells [.i AV]),none,some (.arr 2 FX.length (Am DB FX))]
def pJ (n:Nat) (pos x9:List Int) (AV Bv:Int) (Id:Nat) (FX:List (Int×Int)):Option Kl:=
 if Id=FX.length/\ FX.length+([(AV,Bv)]:List (Int×Int)).length<=As then
  some (.s0 (FX.length+([(AV,Bv)]:List (Int×Int)).length) (FX++([(AV,Bv)]:List (Int×Int))))
 else none
def pI (n:Nat) (pos x9:List Int) (AV Bv:Int):Kl -> Option Kl
 | .s0 Id FX=>pJ n pos x9 AV Bv Id FX
def cW (n:Nat) (pos x9:List Int) (AV Bv:Int) (s:Kl):Option Kl:=pI n pos x9 AV Bv s
theorem pH (n:Nat) (pos x9:List Int) (AV:Int) (l B:Nat) (N:Yd 3) (Bv:Int) (s:Kl) (r:Kl) (h:cW n pos x9 AV Bv s=some r):TA l B N (Cg 3 [] 0 (cV pos x9 AV r)) Tryz.f52 37 ⟨AM 47 [(2,.ints pos),(6,.ref 0 0),(9,.ints x9),(10,.ref 1 0),(24,.i (pos.length:Int)),(25,.i AV),(37,.it 2),(38,.i Bv)],cV pos x9 AV s⟩:=by
 cases s with
 | s0 Id FX=>
  refine ag Fl [0,1,2,3] H0 (AM 47 [(6,.ref 0 0),(10,.ref 1 0),(11,.i Bv)]) (s6 Id AV FX) fun N=>?_
  revert r;apply gO;exact ja 43 4 2 (DN (c:=DB) (L:=([(AV,Bv)]:List (Int×Int))) (vals:=[.agg 2 (L1 [.i AV,.i Bv])]) rfl ⟨⟨_,rfl,⟨AL,AL,trivial⟩⟩,trivial⟩) (gc (gn fun xI=>gn fun xH=>jg (And.intro (And.intro (And.intro (Eq.refl 0) (Eq.refl 1)) (Fu DB ([(AV,Bv)]:List (Int×Int)) (([(AV,Bv)]:List (Int×Int)).length) 2 fun _=>⟨rfl,rfl⟩)) (And.intro (And.intro (Eq.refl 0) xI) xH)) (ja 44 5 2 (IW (enc:=(I0 DB)) (L:=FX) (L':=([(AV,Bv)]:List (Int×Int))) rfl rfl fun _ _ _ _=>AL) (jt (lF fun p=>rr Fl [0,1,2,5] rfl p)))))
inductive Jf where
 | s0
 | s1 (Ic:Nat) (Eo:Int) (FW:List (Int×Int))
def cU (pos x9:List Int) (AV:Int):Jf -> DH
 | .s0=>[some (.cells [.nils]),some (.cells [.i AV]),none]
 | .s1 Ic Eo FW=>[some (.cells [.msl 3 2 0 Ic]),some (.cells [.i Eo]),none,some (.arr 2 FW.length (Am DB FW))]
def pG (n:Nat) (pos x9:List Int) (AV Bv:Int):Option Jf:=
 some (.s1 (([(AV,Bv)]:List (Int×Int)).length) AV ([(AV,Bv)]:List (Int×Int)))
def pF (n:Nat) (pos x9:List Int) (AV Bv:Int) (Ic:Nat) (Eo:Int) (FW:List (Int×Int)):Option Jf:=
 if Ic=FW.length/\ FW.length+([(Eo,Bv)]:List (Int×Int)).length<=As then
  some (.s1 (FW.length+([(Eo,Bv)]:List (Int×Int)).length) Eo (FW++([(Eo,Bv)]:List (Int×Int))))
 else none
def pE (n:Nat) (pos x9:List Int) (AV Bv:Int):Jf -> Option Jf
 | .s0=>pG n pos x9 AV Bv
 | .s1 Ic Eo FW=>pF n pos x9 AV Bv Ic Eo FW
def cX (n:Nat) (pos x9:List Int) (AV Bv:Int) (s:Jf):Option Jf:=pE n pos x9 AV Bv s
theorem pD (n:Nat) (pos x9:List Int) (AV:Int) (l B:Nat) (N:Yd 3) (Bv:Int) (s:Jf) (r:Jf) (h:cX n pos x9 AV Bv s=some r):TA l B N (Cg 3 [] 0 (cU pos x9 AV r)) Tryz.f52 37 ⟨AM 47 [(2,.ints pos),(6,.ref 0 0),(9,.ints x9),(10,.ref 1 0),(24,.i (pos.length:Int)),(25,.i AV),(37,.it 2),(38,.i Bv)],cU pos x9 AV s⟩:=by
 cases s with
 | s0=>
  refine ag Fl [0,1,2] H0 (AM 47 [(6,.ref 0 0),(10,.ref 1 0),(11,.i Bv)]) [some (.cells [.nils]),some (.cells [.i AV]),none] fun N=>?_
  revert r;apply gO;exact ja 43 3 2 (DN (c:=DB) (L:=([(AV,Bv)]:List (Int×Int))) (vals:=[.agg 2 (L1 [.i AV,.i Bv])]) rfl ⟨⟨_,rfl,⟨AL,AL,trivial⟩⟩,trivial⟩) (jg (And.intro (And.intro (And.intro (Eq.refl 0) (Eq.refl 1)) (Fu DB ([(AV,Bv)]:List (Int×Int)) (([(AV,Bv)]:List (Int×Int)).length) 2 fun _=>⟨rfl,rfl⟩)) (And.intro (by decide:0<1) (by decide:1<=As))) (jt (lF fun p=>rr Fl [0,1,2,4] rfl p)))
 | s1 Ic Eo FW=>
  refine ag Fl [0,1,2,3] H0 (AM 47 [(6,.ref 0 0),(10,.ref 1 0),(11,.i Bv)]) (s7 Ic Eo FW) fun N=>?_
  revert r;apply gO;exact ja 43 4 2 (DN (c:=DB) (L:=([(Eo,Bv)]:List (Int×Int))) (vals:=[.agg 2 (L1 [.i Eo,.i Bv])]) rfl ⟨⟨_,rfl,⟨AL,AL,trivial⟩⟩,trivial⟩) (gc (gn fun xK=>gn fun xJ=>jg (And.intro (And.intro (And.intro (Eq.refl 0) (Eq.refl 1)) (Fu DB ([(Eo,Bv)]:List (Int×Int)) (([(Eo,Bv)]:List (Int×Int)).length) 2 fun _=>⟨rfl,rfl⟩)) (And.intro (And.intro (Eq.refl 0) xK) xJ)) (ja 44 5 2 (IW (enc:=(I0 DB)) (L:=FW) (L':=([(Eo,Bv)]:List (Int×Int))) rfl rfl fun _ _ _ _=>AL) (jt (lF fun p=>rr Fl [0,1,2,5] rfl p)))))
inductive P5 where
 | l1 (x9:List Int) (AV:Int)
 | l2 (x9:List Int) (AV:Int) (Ck:Nat) (o1:List (Int×Int))
def pA (n:Nat) (self:P5 -> Option ((List (Int×Int))×Int)) (q:AA) (i:Int) (pos:List Int) (x9:List Int) (AV:Int):Option ((List (Int×Int))×Int):=
 bif (decide (AV<(pos.length:Int))) then
  if (0<=AV/\ AV<(pos.length:Int))/\ (0<=AV/\ AV<(x9.length:Int))/\ (0<=(bits .andNot .i64 (pos.getD ((AV).toNat) 0) (x9.getD ((AV).toNat) 0))/\ (bits .andNot .i64 (pos.getD ((AV).toNat) 0) (x9.getD ((AV).toNat) 0))<9223372036854775808) then
   (Bn (cX n pos x9 AV) (Bg (bits .andNot .i64 (pos.getD ((AV).toNat) 0) (x9.getD ((AV).toNat) 0))) (.s0)).bind fun y1=>
    match y1 with
    | .s0=>
     if AH (AV+1) then
      self (.l1 x9 (AV+1))
     else none
    | .s1 I9 I8 Y9=>
     if AH (AV+1) then
      self (.l2 x9 (AV+1) I9 Y9)
     else none
  else none
 else
  some (([]:List (Int×Int)),0)
def o9 (n:Nat) (self:P5 -> Option ((List (Int×Int))×Int)) (q:AA) (i:Int) (pos:List Int) (x9:List Int) (AV:Int) (Ck:Nat) (o1:List (Int×Int)):Option ((List (Int×Int))×Int):=
 bif (decide (AV<(pos.length:Int))) then
  if (0<=AV/\ AV<(pos.length:Int))/\ (0<=AV/\ AV<(x9.length:Int))/\ (0<=(bits .andNot .i64 (pos.getD ((AV).toNat) 0) (x9.getD ((AV).toNat) 0))/\ (bits .andNot .i64 (pos.getD ((AV).toNat) 0) (x9.getD ((AV).toNat) 0))<9223372036854775808) then
   (Bn (cW n pos x9 AV) (Bg (bits .andNot .i64 (pos.getD ((AV).toNat) 0) (x9.getD ((AV).toNat) 0))) (.s0 Ck o1)).bind fun y1=>
    match y1 with
    | .s0 Cp Co=>
     if AH (AV+1) then
      self (.l2 x9 (AV+1) Cp Co)
     else none
  else none
 else
  if Ck=o1.length then
   some (o1,0)
  else none
def pC (n:Nat) (self:P5 -> Option ((List (Int×Int))×Int)) (q:AA) (i:Int) (pos:List Int):Option ((List (Int×Int))×Int):=
 (Mq n q i pos).bind fun y1=>
  bif (y1 != 0) then
   some (([]:List (Int×Int)),y1)
  else
   (Hm n q i pos).bind fun y2=>
    self (.l1 y2 0)
def TD (q:AA) (i:Int) (pos:List Int):Nat -> P5 -> Option ((List (Int×Int))×Int)
 | 0,_=>none
 | n+1,.l1 x9 AV=>pA n (TD q i pos n) q i pos x9 AV
 | n+1,.l2 x9 AV Ck o1=>o9 n (TD q i pos n) q i pos x9 AV Ck o1
def cY (n:Nat) (q:AA) (i:Int) (pos:List Int):Option ((List (Int×Int))×Int):=pC n (TD q i pos n) q i pos
def pK (n B:Nat) (N:Yd 0) (q:AA) (i:Int) (pos:List Int) (r:(List (Int×Int))×Int):P5 -> Prop
 | .l1 x9 AV=>∀ m0:Nat,n<=m0 -> TW B N (FQ Tryz.f52 0 (.tup 2 (L1 [.sl 2 r.1.length (Am DB r.1),.i r.2])) []) (A2 m0 (BA (AX Tryz.f52) 0 [])) ⟨AM 47 [(2,.ints pos),(6,.ref 0 0),(9,.ints x9),(24,.i (pos.length:Int)),(25,.i AV)],[some (.cells [.nils])]⟩
 | .l2 x9 AV Ck o1=>∀ m0:Nat,n<=m0 -> TW B N (FQ Tryz.f52 0 (.tup 2 (L1 [.sl 2 r.1.length (Am DB r.1),.i r.2])) []) (A2 m0 (BA (AX Tryz.f52) 0 [])) ⟨AM 47 [(2,.ints pos),(6,.ref 0 0),(9,.ints x9),(24,.i (pos.length:Int)),(25,.i AV)],[some (.cells [.msl 1 2 0 Ck]),some (.arr 2 o1.length (Am DB o1))]⟩
theorem pL (B:Nat) (N:Yd 0) (q:AA) (i:Int) (pos:List Int):Al (TD q i pos) (pK · B N q i pos):=ia (fun _=>rfl) fun n AG pt r h=>by
 cases pt
 case l1 x9 AV=>
  intro m0 AC;refine rd AC fun m0 AC=>?_
  revert r;apply gO
  exact bi 26 (jt (jg aY (gc (gi (gc (gi (gn fun g2=>jc (He g2 [some (.cells [.nils]),some (.cells [.i AV])]) (cn fun y1 A7=>fun p r h=>by
   refine gs Fl [0,1,2] p (FK (AX Tryz.f52) 37 [m0]) (AM 47 [(2,.ints pos),(6,.ref 0 0),(9,.ints x9),(10,.ref 1 0),(24,.i (pos.length:Int)),(25,.i AV),(37,.it 2)]) (s9 AV pos x9) ?_;refine r0 2 37 #[38] BK 3 A7 (pD n pos x9 AV) ?_;cases y1 with
   | s0=>
    dsimp only at h
    revert r;apply gO;exact gw 45 (lG Fl [0] (AG _ _ · m0 AC))
   | s1 I9 I8 Y9=>
    dsimp only at h
    revert r;apply gO;exact gw 45 (lG Fl [0,3] (AG _ _ · m0 AC)))))))))) (jt (lF fun p=>el Fl [6,7] [0] p [] H0 [.nils,.i 0] (AT.tupL (l:=[.nils,.i 0]) (l':=[.sl 2 (([]:List (Int×Int)).length) (Am DB ([]:List (Int×Int))),.i 0]) rfl ⟨(AT.sl_nil _ _),AL,trivial⟩)))
 case l2 x9 AV Ck o1=>
  intro m0 AC;refine rd AC fun m0 AC=>?_
  revert r;apply gO
  exact bi 26 (jt (jg aY (gc (gi (gc (gi (gn fun g2=>jc (He g2 [some (.cells [.msl 1 2 0 Ck]),some (.arr 2 o1.length (Am DB o1)),some (.cells [.i AV])]) (cn fun y1 A7=>fun p r h=>by
   refine gs Fl [0,2,3,1] p (FK (AX Tryz.f52) 37 [m0]) (AM 47 [(2,.ints pos),(6,.ref 0 0),(9,.ints x9),(10,.ref 1 0),(24,.i (pos.length:Int)),(25,.i AV),(37,.it 2)]) (s8 Ck AV pos x9 o1) ?_;refine r0 2 37 #[38] BK 3 A7 (pH n pos x9 AV) ?_;cases y1 with
   | s0 Cp Co=>
    dsimp only at h
    revert r;apply gO;exact gw 45 (lG Fl [0,3] (AG _ _ · m0 AC)))))))))) (jt (gn fun g0=>lF fun p=>ez Fl [6,7] [0,1] p [1] (H0.g g0)))
theorem oz {n:Nat} {q:AA} {i:Int} {pos:List Int} {r:(List (Int×Int))×Int} (h:cY n q i pos=some r):EQ 52 [.agg 5 (L1 (AD q)),.i i,.ints pos] [] (.tup 2 (L1 [.sl 2 r.1.length (Am DB r.1),.i r.2])) [] true:=by
 refine ot Tryz.func52 fun B N=>?_
 revert r;apply gO;exact cf f7 [some (.cells (AD q)),some (.cells [.nils])] fun y1=>bi 17 (jt (lF fun p=>el Fl [6,7] [1] p [] H0 [.nils,.i y1] (AT.tupL (l:=[.nils,.i y1]) (l':=[.sl 2 (([]:List (Int×Int)).length) (Am DB ([]:List (Int×Int))),.i y1]) rfl ⟨(AT.sl_nil _ _),AL,trivial⟩))) (cf bN [some (.cells (AD q)),some (.cells [.nils])] fun _=>lN Fl [1] ((pL B N q i pos n) _ _ · n Nat.le.refl))
def gU (n:Nat) (q:AA) (pos JG:List Int):Option Bool:=
 (JV n q 0 pos).bind fun y1=>
  bif (y1.2==0) then
   (same n y1.1 JG).bind fun y2=>
    some y2
  else
   some false
def GV (n:Nat) (q:AA) (pos JG:List Int):Option Bool:=gU n q pos JG
theorem HQ {n:Nat} {q:AA} {pos JG:List Int} {r:Bool} (h:GV n q pos JG=some r):EQ 55 [.agg 5 (L1 (AD q)),.ints pos,.ints JG] [] (.bool r) [] true:=by
 unfold GV gU at h;refine ot Tryz.func55 fun B N=>?_
 revert r;apply gO;exact cf V2 [some (.cells (AD q))] fun _=>bi 16 (cf VW [some (.cells (AD q))] fun _=>lE AE [6] []) (lE AE [6] [])
end Go.Proofs.YtgkhhfnhacibcaaGreatDoor
namespace Go.Proofs.YtgkhhfnhacibcaaGreatDoor
open Go.RowKit
def Fe (pos:List Int):Bool:=pos.any (· ==0)
theorem J1 {pos:List Int}:Fe pos=false↔∀ j,j<pos.length -> pos.getD j 0≠0:=by
 unfold Fe;rw [List.any_eq_false];constructor
 ·intro h j hj e;refine h (pos.getD j 0) ?_ (by rw [e];rfl);rw [u8,xy hj];exact yY hj
 ·intro h x hx;obtain ⟨j,hj,rfl⟩:=zR hx;have:=h j hj;rw [u8,xy hj] at this;simpa using this
theorem vz {pos:List Int} {n:Nat} (hl:pos.length<=LB) (hn:pos.length<n):UV n pos=some (Fe pos):=by
 have hb:LB<=9223372036854775806:=by decide
 have key: ∀ (k i n:Nat),i+k=pos.length -> k+1<=n -> ON pos n (.l1 (i:Int))=some ((pos.drop i).any (· ==0)):=by
  intro k
  induction k with
  | zero=>
   intro i n e hn;obtain ⟨n,rfl⟩: ∃ k,n=k+1:=⟨n-1,by omega⟩
   show Q3 n (ON pos n) pos (i:Int)=_
   unfold Q3;rw [yA (by omega),xx,zJ (by omega)];rfl
  | succ k ih=>
   intro i n e hn;obtain ⟨n,rfl⟩: ∃ k,n=k+1:=⟨n-1,by omega⟩;have hi:i<pos.length:=by omega
   have e2:pos.drop i=pos.getD i 0::pos.drop (i+1):=by
    rw [ym hi,u8,xy hi];rfl
   have:=ih (i+1) n (by omega) (by omega)
   show Q3 n (ON pos n) pos (i:Int)=_
   unfold Q3;rw [yG (by omega),yC,xw ⟨by omega,by omega⟩,xw (Ax.2 ⟨by omega,by omega⟩),yB,e2,List.any_cons];cases h:(pos.getD i 0==0)
   ·rw [xx,zj];exact this
   ·rfl
 have:=key pos.length 0 n (by omega) (by omega);unfold UV fq;exact this
theorem TP {pos:List Int} {n:Nat} (hl:pos.length<=LB) (hn:pos.length<n):Jj n pos=some (Fe pos):=by
 unfold Jj Wr;rw [vz hl hn];rfl
def If (q:AA) (pos:List Int):Bool:=((pos.length:Int)==q.cells)&&pos.all fun x=>decide (0<=x)&&decide (x<2 ^ q.symbols.toNat)
def Pf (q:AA) (pos:List Int):Int:=if Dh q then (if If q pos then 0 else 250) else 191
section
variable {q:AA} {i:Int} {pos:List Int} {n:Nat}
theorem nY (hF:Ff q) (hn:Hd q<=n) (hl:pos.length<=LB) (H2:pos.length<n):Sh n q pos=some (Pf q pos):=by
 have hb:LB<=9223372036854775806:=by decide
 unfold Sh bV Pf;rw [VB hF hn,yF];cases hv:Dh q with
 | false=>rfl
 | true=>
  obtain ⟨_,hs,_⟩:=Hc hv;obtain ⟨p1,p2,p3⟩:=bR hs.1 hs.2
  show (bif ((pos.length:Int) != q.cells) then some 250 else Lr q pos n (.l1 0))=some (if If q pos=true then 0 else 250)
  unfold If
  by_cases A3:(pos.length:Int)=q.cells
  ·have h1:((pos.length:Int) != q.cells)=false:=by simpa using A3
   have h2:((pos.length:Int)==q.cells)=true:=by simpa using A3
   rw [h1,xx,h2,y8]
   have key: ∀ (k i n:Nat),i+k=pos.length -> k+1<=n -> Lr q pos n (.l1 (i:Int))=some (if ((pos.drop i).all fun x=>decide (0<=x)&&decide (x<2 ^ q.symbols.toNat))=true then 0 else 250):=by
    intro k
    induction k with
    | zero=>
     intro i n e hn;obtain ⟨n,rfl⟩: ∃ k,n=k+1:=⟨n-1,by omega⟩
     show Pe n (Lr q pos n) q pos (i:Int)=_
     unfold Pe;rw [yA (by omega),xx,zJ (by omega)];rfl
    | succ k ih=>
     intro i n e hn;obtain ⟨n,rfl⟩: ∃ k,n=k+1:=⟨n-1,by omega⟩;have hi:i<pos.length:=by omega
     have e2:pos.drop i=pos.getD i 0::pos.drop (i+1):=by
      rw [ym hi,u8,xy hi];rfl
     have:=ih (i+1) n (by omega) (by omega)
     show Pe n (Lr q pos n) q pos (i:Int)=_
     unfold Pe;rw [yG (by omega),yC,xw ⟨by omega,by omega⟩,xw p3,xw (Ax.2 ⟨by omega,by omega⟩),yB,e2,zA6,p1]
     by_cases c1:pos.getD i 0<0
     ·rw [yG c1,yC,yA (p:=0<=pos.getD i 0) (by omega)];rfl
     ·rw [yA c1,xx,yG (p:=0<=pos.getD i 0) (by omega),y8]
      by_cases c2:pos.getD i 0>=2 ^ q.symbols.toNat
      ·rw [yG c2,yC,yA (p:=pos.getD i 0<2 ^ q.symbols.toNat) (by omega)];rfl
      ·rw [yA c2,xx,yG (p:=pos.getD i 0<2 ^ q.symbols.toNat) (by omega),y8];exact this
   exact key pos.length 0 n (by omega) (by omega)
  ·have h1:((pos.length:Int) != q.cells)=true:=by simpa using A3
   have h2:((pos.length:Int)==q.cells)=false:=by simpa using A3
   rw [h1,yC,h2,zm];rfl
def GT (q:AA) (i:Int) (pos:List Int):Int:=if (Im q i).2=0 then Pf q pos else (Im q i).2
theorem wi (hF:Ff q) (hn:Hd q<=n) (hl:pos.length<=LB) (H2:pos.length<n):Mq n q i pos=some (GT q i pos):=by
 unfold Mq Ya GT;rw [pi hF hn,yF,nY hF hn hl H2,yF]
 by_cases h:(Im q i).2=0
 ·have:((Im q i).2 != 0)=false:=by simpa using h
  rw [this,xw h];rfl
 ·have:((Im q i).2 != 0)=true:=by simpa using h
  rw [this,yK h];rfl
structure Bp (q:AA) (i:Int) (pos:List Int):Prop where
 fit:Ff q
 valid:Dh q=true
 i0:0<=i
 i1:i<(q.cons.length:Int)
 pos:If q pos=true
def con (q:AA) (i:Int):AB:=q.cons.getD i.toNat default
theorem Bp.of (hF:Ff q) (h:GT q i pos=0):Bp q i pos:=by
 unfold GT Im Pf at h
 by_cases hv:Dh q=false
 ·rw [xw hv] at h;rw [yK (by decide)] at h;exact absurd h (by decide)
 ·rw [yK hv] at h;have hv:Dh q=true:=by simpa using hv
  by_cases hi:0<=i/\ i<(q.cons.length:Int)
  ·rw [xw hi,xw rfl,xw hv] at h
   by_cases hp:If q pos=true
   ·exact ⟨hF,hv,hi.1,hi.2,hp⟩
   ·rw [yK hp] at h;exact absurd h (by decide)
  ·rw [yK hi,yK (by decide)] at h;exact absurd h (by decide)
theorem Bp.check (C:Bp q i pos):GT q i pos=0:=by
 have h1:Im q i=(Wb ((q.cons.getD i.toNat default).kind),0):=by
  unfold Im;rw [yK (by rw [C.valid];exact fun h=>by cases h),xw ⟨C.i0,C.i1⟩]
 unfold GT Pf;rw [h1,xw rfl,xw C.valid,xw C.pos]
theorem Bp.mem (C:Bp q i pos):con q i∈q.cons:=by
 have h:=C.i0;have h1:=C.i1;unfold con;rw [u8,xy (by omega)];exact yY _
theorem Bp.fine (C:Bp q i pos):Ed q (con q i)=true:=(Hc C.valid).2.2.2.2.2 _ C.mem
theorem Bp.kind (C:Bp q i pos):Fy q.cells (con q i).kind (con q i).cells.length=true:=cy C.fine
theorem Bp.len (C:Bp q i pos):(pos.length:Int)=q.cells:=by
 have h:=C.pos;unfold If at h;rw [yD,yo] at h;exact h.1
theorem Bp.sm (C:Bp q i pos): ∀ j,j<pos.length -> Sm q.symbols.toNat (pos.getD j 0):=by
 intro j hj;have h:=C.pos;unfold If at h;rw [yD,yJ] at h;have hm:pos.getD j 0∈pos:=by rw [u8,xy hj];exact yY hj
 have:=h.2 _ hm;rw [yD,yP,yP] at this;exact this
theorem Bp.len256 (C:Bp q i pos):0<pos.length/\ pos.length<=256:=by
 have h:=(Hc C.valid).1;have:=C.len;omega
theorem Bp.cells (C:Bp q i pos):(∀ x∈(con q i).cells,0<=x/\ x<q.cells)/\ (con q i).cells.Nodup/\ (8<=(con q i).kind -> ∀ j,j<(con q i).cells.length -> (con q i).cells.getD j 0=(j:Int)):=by
 have h:=C.fine;unfold Ed at h;simp only [yD] at h;exact wl.1 h.1.1.1.1.1
theorem Bp.work (C:Bp q i pos):B0 (con q i) q.symbols.toNat pos:=by
 obtain ⟨h1,h2,_⟩:=C.cells;have hl:=C.len;have h3:=(Hc C.valid).1;have h4:=(Hc C.valid).2.1;refine ⟨fun a ha=>?_,?_,C.sm,by omega⟩
 ·rw [hl];refine h1 _ ?_;rw [u8,xy ha];exact yY ha
 ·have:=WQ pos.length _ h2 fun x hx=>by rw [hl];exact h1 x hx
  omega
theorem Bp.vals (C:Bp q i pos):Dt q q.symbols.toNat:=by
 obtain ⟨_,h2,⟨h3,h4⟩,_⟩:=Hc C.valid;rw [Re] at h4;refine ⟨by omega,fun s hs=>h4 _ ?_⟩;rw [u8,xy (by omega)];exact yY _
theorem Bp.runs (C:Bp q i pos):HV (con q i):=by
 have h:=C.fine;unfold Ed at h;simp only [yD,yP] at h;have h2:=Re.1 h.2;refine ⟨by have:=h.1.2;omega,fun j hj=>(h2 _ ?_).2⟩;rw [u8,xy hj];exact yY hj
theorem Bp.two (C:Bp q i pos) (hk:(con q i).kind=6∨(con q i).kind=7):(con q i).cells.length=2:=by
 have h:=C.kind;unfold Fy at h;rcases hk with hk | hk <;> rw [hk] at h <;> simpa using h
theorem Bp.all (C:Bp q i pos) (hk:(con q i).kind=8∨(con q i).kind=9) (hd:Fe pos=false):Gx (con q i) q pos:=by
 have h:=C.kind;have hl:=C.len;have Me:=C.len256
 have h1:((con q i).cells.length:Int)=q.cells:=by
  unfold Fy at h;rcases hk with hk | hk <;> rw [hk] at h <;> simpa using h
 obtain ⟨_,_,_,⟨h5,h6⟩,_⟩:=Hc C.valid;exact ⟨by omega,fun j hj=>C.cells.2.2 (by omega) j (by omega),⟨h6,C.fit.nbrs⟩,by omega,Me.1,Me.2,fun j hj=>⟨(C.sm j hj).in64 (yO C.work.k (by decide)),J1.1 hd j hj⟩⟩
end
def Lv (q:AA) (c:AB) (pos:List Int):Prop:=
 (c.kind=2 -> Q9 c pos=true)/\ (c.kind=3 -> Ou q c pos=true)/\ (c.kind=5 -> Hk c=true)/\ (c.kind=9 -> We c q pos)
def DQ (q:AA) (c:AB) (pos:List Int) (a s:Nat):Prop:=
 (c.kind=1/\ US c pos a s)∨(c.kind=2/\ LF c pos a s=true)∨(c.kind=3/\ KM q c pos a s=true)∨(c.kind=4/\ IY q c pos a s=true)∨(c.kind=5/\ JP c pos a s)∨
 (c.kind=6/\ Fq (Gi q c) c pos a s)∨(c.kind=7/\ Fq (GI c) c pos a s)∨(c.kind=8/\ Ml c q pos a s)∨(c.kind=9/\ cb c q pos a s)
def KP (q:AA) (c:AB) (pos:List Int) (r:Bool×List Int):Prop:=(r.1=true↔Lv q c pos)/\ (r.1=true -> Bw c pos (List.replicate pos.length 0) c.cells.length (DQ q c pos) r.2)
def LC (q:AA) (c:AB) (pos:List Int) (j s:Nat):Prop:=∃ a,a<c.cells.length/\ (c.cells.getD a 0).toNat=j/\ DQ q c pos a s
structure Ra (q:AA) (c:AB) (pos:List Int):Prop where
 nz: ∀ j,j<pos.length -> pos.getD j 0≠0
 ok:Lv q c pos
 left: ∀ j,j<pos.length -> ∃ s,s<64/\ tb (pos.getD j 0) s=true/\ ¬ LC q c pos j s
structure PR (q:AA) (c:AB) (pos x:List Int):Prop where
 len:x.length=pos.length
 live:Ra q c pos -> ∀ j,j<pos.length -> B9 (x.getD j 0)/\ ∀ s,tb (x.getD j 0) s=true↔tb (pos.getD j 0) s=true/\ ¬ LC q c pos j s
 dead: ¬ Ra q c pos -> x=List.replicate pos.length 0
theorem PR.uniq {q:AA} {c:AB} {pos:List Int} (x y:List Int) (h:PR q c pos x) (h':PR q c pos y):x=y:=by
 by_cases hA:Ra q c pos
 ·have e:x.length=y.length:=h.len.trans h'.len.symm;refine zAH e fun j h1 h2=>?_
  have hj:j<pos.length:=by rw [←h.len];exact h1
  have e1:x.getD j 0=x[j]:=by simp [h1]
  have e2:y.getD j 0=y[j]:=by simp [h2]
  rw [←e1,←e2];refine LV (h.live hA j hj).1 (h'.live hA j hj).1 fun s _=>?_
  rw [za,(h.live hA j hj).2,(h'.live hA j hj).2]
 ·rw [h.dead hA,h'.dead hA]
section
variable {q:AA} {i:Int} {pos:List Int}
theorem KA:(List.replicate pos.length (0:Int)).length=pos.length:=yQ
theorem Uz (j:Nat):(List.replicate pos.length (0:Int)).getD j 0=0:=by
 rw [u8,zQ];split <;> rfl
theorem Y8: ∀ j,B9 ((List.replicate pos.length (0:Int)).getD j 0):=fun j=>by rw [Uz];exact ⟨by decide,by decide⟩
theorem Y7:CJ pos (List.replicate pos.length 0) (fun _ _=>False) (List.replicate pos.length 0):=⟨⟨KA,Y8⟩,fun j s=>by simp⟩
theorem Bw.congr {c:AB} {lost l:List Int} {D D':Nat -> Nat -> Prop} {m:Nat} (h:Bw c pos lost m D l) (hD: ∀ a s,D' a s↔D a s):Bw c pos lost m D' l:=by
 refine ⟨h.1,fun j s=>?_⟩;rw [h.2];simp only [hD]
def HA (n:Nat) (q:AA) (c:AB) (pos:List Int):Option (Bool×List Int):=
 bif c.kind==1 then OM n c q pos pos.length (List.replicate pos.length 0) else bif c.kind==2 then OO n c q pos pos.length (List.replicate pos.length 0) else
 bif c.kind==3 then ND n c q pos pos.length (List.replicate pos.length 0) else bif c.kind==4 then Kc n c q pos pos.length (List.replicate pos.length 0) else
 bif c.kind==5 then NH n c q pos pos.length (List.replicate pos.length 0) else bif c.kind==6 then My n c q pos pos.length (List.replicate pos.length 0) else
 bif c.kind==7 then Ly n c q pos pos.length (List.replicate pos.length 0) else bif c.kind==8 then Uc n c q pos pos.length (List.replicate pos.length 0) else
 bif c.kind==9 then TE n c q pos pos.length (List.replicate pos.length 0) else none
theorem mH (C:Bp q i pos) (hd:Fe pos=false):Ae (fun n=>HA n q (con q i) pos) (KP q (con q i) pos):=by
 have W:=C.work;have hz:(List.replicate pos.length (0:Int)).length=pos.length:=KA
 have all: ∀ k:Int,(con q i).kind=k -> ∀ {f:Nat -> Option (Bool×List Int)} {N:Nat} {ok:Bool} {D:Nat -> Nat -> Prop},(∀ n,N<=n -> ∃ l,f n=some (ok,l)/\ (ok=true -> Bw (con q i) pos (List.replicate pos.length 0) (con q i).cells.length D l)) -> (ok=true↔Lv q (con q i) pos) -> (∀ a s,DQ q (con q i) pos a s↔D a s) -> Ae f (KP q (con q i) pos):=by
  intro k _ f N ok D h CG hD;refine ⟨N,fun n hn=>?_⟩;obtain ⟨l,h1,h2⟩:=h n hn;exact ⟨(ok,l),h1,CG,fun h3=>(h2 h3).congr hD⟩
 have kc:=QF (QD C.kind);have Pk: ∀ {k:Int},(con q i).kind=k -> k≠2 -> k≠3 -> k≠5 -> k≠9 -> Lv q (con q i) pos:=fun hk h2 h3 h5 h9=>⟨fun h=>absurd (hk.symm.trans h) h2,fun h=>absurd (hk.symm.trans h) h3,fun h=>absurd (hk.symm.trans h) h5,fun h=>absurd (hk.symm.trans h) h9⟩
 rcases kc with hk | hk | hk | hk | hk | hk | hk | hk | hk
 ·refine Ae.eq (all 1 hk (f:=fun n=>OM n (con q i) q pos pos.length (List.replicate pos.length 0)) (N:=2*(con q i).cells.length+2) (ok:=true) (D:=US (con q i) pos) (fun n hn=>?_) ⟨fun _=>Pk hk (by decide) (by decide) (by decide) (by decide),fun _=>rfl⟩ fun a s=>?_) fun n=>?_
  ·obtain ⟨l,h1,h2⟩:=vp (q:=q) W hz hn;exact ⟨l,h1,fun _=>h2⟩
  ·unfold DQ;rw [hk];simp
  ·unfold HA;rw [hk];rfl
 ·refine Ae.eq (all 2 hk (f:=fun n=>OO n (con q i) q pos pos.length (List.replicate pos.length 0)) (N:=2*(con q i).cells.length+3) (ok:=Q9 (con q i) pos) (D:=fun a s=>LF (con q i) pos a s=true) (fun n hn=>?_) ⟨fun h=>⟨fun _=>h,fun h=>absurd (hk.symm.trans h) (by decide),fun h=>absurd (hk.symm.trans h) (by decide),fun h=>absurd (hk.symm.trans h) (by decide)⟩,fun h=>h.1 hk⟩ fun a s=>?_) fun n=>?_
  ·exact wB (q:=q) W hz hn
  ·unfold DQ;rw [hk];simp
  ·unfold HA;rw [hk];rfl
 ·refine Ae.eq (all 3 hk (f:=fun n=>ND n (con q i) q pos pos.length (List.replicate pos.length 0)) (N:=2*(con q i).cells.length+3) (ok:=Ou q (con q i) pos) (D:=fun a s=>KM q (con q i) pos a s=true) (fun n hn=>?_) ⟨fun h=>⟨fun h=>absurd (hk.symm.trans h) (by decide),fun _=>h,fun h=>absurd (hk.symm.trans h) (by decide),fun h=>absurd (hk.symm.trans h) (by decide)⟩,fun h=>h.2.1 hk⟩ fun a s=>?_) fun n=>?_
  ·exact jF W C.vals hz hn
  ·unfold DQ;rw [hk];simp
  ·unfold HA;rw [hk];rfl
 ·refine Ae.eq (all 4 hk (f:=fun n=>Kc n (con q i) q pos pos.length (List.replicate pos.length 0)) (N:=2*(con q i).cells.length+3) (ok:=true) (D:=fun a s=>IY q (con q i) pos a s=true) (fun n hn=>?_) ⟨fun _=>Pk hk (by decide) (by decide) (by decide) (by decide),fun _=>rfl⟩ fun a s=>?_) fun n=>?_
  ·obtain ⟨l,h1,h2⟩:=mO W C.vals hz hn;exact ⟨l,h1,fun _=>h2⟩
  ·unfold DQ;rw [hk];simp
  ·unfold HA;rw [hk];rfl
 ·obtain ⟨l,⟨N,h1⟩,h2⟩:=lf (q:=q) W C.runs hz Y8;refine Ae.eq (all 5 hk (N:=N) (ok:=Hk (con q i)) (D:=JP (con q i) pos) (fun n hn=>⟨l,h1 n hn,h2⟩) ⟨fun h=>⟨fun h=>absurd (hk.symm.trans h) (by decide),fun h=>absurd (hk.symm.trans h) (by decide),fun _=>h,fun h=>absurd (hk.symm.trans h) (by decide)⟩,fun h=>h.2.2.1 hk⟩ fun a s=>?_) fun n=>?_
  ·unfold DQ;rw [hk];simp
  ·unfold HA;rw [hk];rfl
 ·refine Ae.eq (all 6 hk (f:=fun n=>My n (con q i) q pos pos.length (List.replicate pos.length 0)) (N:=0) (ok:=true) (D:=Fq (Gi q (con q i)) (con q i) pos) (fun n hn=>?_) ⟨fun _=>Pk hk (by decide) (by decide) (by decide) (by decide),fun _=>rfl⟩ fun a s=>?_) fun n=>?_
  ·obtain ⟨l,h1,h2⟩:=xT (n:=n) W C.vals (C.two (.inl hk)) hz;exact ⟨l,h1,fun _=>h2⟩
  ·unfold DQ;rw [hk];simp
  ·unfold HA;rw [hk];rfl
 ·refine Ae.eq (all 7 hk (f:=fun n=>Ly n (con q i) q pos pos.length (List.replicate pos.length 0)) (N:=0) (ok:=true) (D:=Fq (GI (con q i)) (con q i) pos) (fun n hn=>?_) ⟨fun _=>Pk hk (by decide) (by decide) (by decide) (by decide),fun _=>rfl⟩ fun a s=>?_) fun n=>?_
  ·obtain ⟨l,h1,h2⟩:=oJ (n:=n) (q:=q) W (C.two (.inr hk)) hz;exact ⟨l,h1,fun _=>h2⟩
  ·unfold DQ;rw [hk];simp
  ·unfold HA;rw [hk];rfl
 ·obtain ⟨l,⟨N,h1⟩,h2⟩:=wQ (C.all (.inl hk) hd) Y7;refine Ae.eq (all 8 hk (N:=N) (ok:=true) (D:=Ml (con q i) q pos) (fun n hn=>⟨l,h1 n hn,fun _=>h2.by (C.all (.inl hk) hd)⟩) ⟨fun _=>Pk hk (by decide) (by decide) (by decide) (by decide),fun _=>rfl⟩ fun a s=>?_) fun n=>?_
  ·unfold DQ;rw [hk];simp
  ·unfold HA;rw [hk];rfl
 ·refine Ae.eq ((pO (C.all (.inr hk) hd) Y7).mono fun r hr=>⟨?_,fun h=>((hr.2 h).by (C.all (.inr hk) hd)).congr fun a s=>?_⟩) fun n=>?_
  ·rw [hr.1];exact ⟨fun h=>⟨fun h=>absurd (hk.symm.trans h) (by decide),fun h=>absurd (hk.symm.trans h) (by decide),fun h=>absurd (hk.symm.trans h) (by decide),fun _=>h⟩,fun h=>h.2.2.2 hk⟩
  ·unfold DQ;rw [hk];simp
  ·unfold HA;rw [hk];rfl
theorem iy {n:Nat} {o2:List Int} (hl:o2.length=pos.length) (Me:pos.length<=256) (hn:600<=n):
 ∃ x,x.length=pos.length/\ (∀ j,j<pos.length -> x.getD j 0=bits .andNot .i64 (pos.getD j 0) (o2.getD j 0))/\ Hl q i pos n (.l2 pos.length (pos.length:Int) 0 o2 pos)=some (if Fe x then List.replicate pos.length 0 else x):=by
 have lb:(256:Nat)<=LB:=by decide
 obtain ⟨n1,x,F4,_,e,hx,Jm,Nk⟩:=Gl (fun n (o3:List Int) k=>Hl q i pos n (.l2 pos.length (pos.length:Int) k o2 o3)) pos.length 260
  (fun k o3=>o3.length=pos.length/\ (∀ j,j<k -> o3.getD j 0=bits .andNot .i64 (pos.getD j 0) (o2.getD j 0))/\ ∀ j,k<=j -> o3.getD j 0=pos.getD j 0) (fun n k o3 HK hk hI=>by
   obtain ⟨h1,h2,h3⟩:=hI
   show ∃ s',PZ n (Hl q i pos n) q i pos pos.length (pos.length:Int) (k:Int) o2 o3=_/\ _
   unfold PZ;simp only [yB,yU];rw [yG (by omega),yC,xw ⟨⟨by omega,by omega⟩,by omega,⟨by omega,by omega⟩,by omega,Ax.2 ⟨by omega,by omega⟩⟩];refine ⟨_,rfl,by rw [yW];exact h1,fun j hj=>?_,fun j hj=>?_⟩
   ·by_cases e:k=j
    ·subst e;rw [HN (by omega),h3 k (by omega)]
    ·rw [getD_set_ne e];exact h2 j (by omega)
   ·rw [getD_set_ne (by omega)];exact h3 j (by omega)) (n:=n) (s:=pos) (by omega) ⟨rfl,fun j hj=>absurd hj (yN j),fun j _=>rfl⟩
 obtain ⟨n2,rfl⟩: ∃ n2,n1=n2+1:=⟨n1-1,by omega⟩;refine ⟨x,hx,Jm,Eq.trans e ?_⟩
 show PZ n2 (Hl q i pos n2) q i pos pos.length (pos.length:Int) (pos.length:Int) o2 x=_
 unfold PZ;rw [yA (by omega),xx,xw hx.symm,TP (by omega) (by omega),yF];cases Fe x
 ·rfl
 ·rw [yC,xw KA.symm];rfl
def Rn (n:Nat) (q:AA) (i:Int) (pos:List Int) (y2:Bool×List Int):Option (List Int):=
 bif (!y2.1) then (if pos.length=(List.replicate pos.length (0:Int)).length then some (List.replicate pos.length (0:Int)) else none) else Hl q i pos n (.l1 y2.2)
theorem iz (C:Bp q i pos) (hd:Fe pos=false) {n:Nat} (hn:601<=n) {y2:Bool×List Int} (hy:KP q (con q i) pos y2): ∃ x,Rn n q i pos y2=some x/\ PR q (con q i) pos x:=by
 have Me:=C.len256;have L:(1000000000000:Nat)=As:=rfl;have nz:=J1.1 hd;obtain ⟨b,lost⟩:=y2;obtain ⟨CG,Tq⟩:=hy;unfold Rn;cases b with
 | false=>
  refine ⟨_,by rw [zH,yC,xw KA.symm],KA,fun hA=>?_,fun _=>rfl⟩;have:=CG.2 hA.ok;cases this
 | true=>
  have CG:=CG.1 rfl;have Tq:Bw (con q i) pos (List.replicate pos.length 0) (con q i).cells.length (DQ q (con q i) pos) lost:=Tq rfl;obtain ⟨n,rfl⟩: ∃ k,n=k+1:=⟨n-1,by omega⟩;obtain ⟨x,h1,h2,h3⟩:=iy (q:=q) (i:=i) (n:=n) Tq.1 Me.2 (by omega)
  have hx: ∀ j,j<pos.length -> B9 (x.getD j 0)/\ ∀ s,tb (x.getD j 0) s=true↔tb (pos.getD j 0) s=true/\ ¬ LC q (con q i) pos j s:=fun j hj=>by
   rw [h2 j hj];refine ⟨HP _ _ _,fun s=>?_⟩;rw [NB,yD,zL,←zAI,Tq.2,Uz];constructor
   ·rintro ⟨h4,h5⟩;refine ⟨h4,fun ⟨a,ha,e,hs⟩=>h5 (.inr ⟨a,ha,e,?_,hs⟩)⟩
    show tb (pos.getD ((con q i).cells.getD a 0).toNat 0) s=true
    rw [e];exact h4
   ·rintro ⟨h4,h5⟩;refine ⟨h4,fun h6=>h6.elim (fun h=>Ok h) fun ⟨a,ha,e,_,hs⟩=>h5 ⟨a,ha,e,hs⟩⟩
  have Bj:Ui n pos=some pos:=by
   unfold Ui f5;rw [xw ⟨Me.1,trivial,⟨rfl,rfl⟩,by rw [←L];simp only [zD];omega⟩,xw (by simp)];rfl
  have e:Hl q i pos (n+1) (.l1 lost)=some (if Fe x then List.replicate pos.length 0 else x):=by
   show V0 n (Hl q i pos n) q i pos lost=_
   unfold V0;rw [Bj,yF];exact h3
  refine ⟨_,by rw [yw,xx];exact e,?_,fun hA j hj=>?_,fun hA=>?_⟩
  ·split
   ·exact KA
   ·exact h1
  ·rw [yK]
   ·exact hx j hj
   ·rw [zAI,J1];intro j hj;rw [h1] at hj;obtain ⟨s,hs,h4,h5⟩:=hA.left j hj;exact (JI (hx j hj).1).2 ⟨s,hs,((hx j hj).2 s).2 ⟨h4,h5⟩⟩
  ·rw [xw];refine Classical.byContradiction fun h=>hA ?_
   rw [zAI,J1] at h;refine ⟨nz,CG,fun j hj=>?_⟩;obtain ⟨s,hs,h4⟩:=(JI (hx j hj).1).1 (h j (by omega));exact ⟨s,hs,((hx j hj).2 s).1 h4⟩
theorem nJ (C:Bp q i pos): ∃ x,Ev (fun n=>Hm n q i pos) x/\ PR q (con q i) pos x:=by
 have Me:=C.len256;have lb:(256:Nat)<=LB:=by decide
 have hi:0<=i/\ i<(q.cons.length:Int):=⟨C.i0,C.i1⟩;cases hd:Fe pos
 ·suffices H:Ae (fun n=>Hm n q i pos) (PR q (con q i) pos) by
   obtain ⟨x,h1,h2⟩:=H.ev PR.uniq;exact ⟨x,h2,h1⟩
  obtain ⟨N,hN⟩:=Ae.bindU (mH C hd) (b:=fun n y2=>Rn n q i pos y2) (Q:=PR q (con q i) pos) ⟨601,fun n hn y2 hy=>iz C hd hn hy⟩;refine ⟨N+300,fun n hn=>?_⟩;obtain ⟨x,h1,h2⟩:=hN n (by omega);refine ⟨x,Eq.trans ?_ h1,h2⟩
  show Hm n q i pos=(HA n q (con q i) pos).bind fun y2=>Rn n q i pos y2
  unfold Hm V1;rw [xw ⟨rfl,by omega,by omega⟩,TP (by omega) (by omega),hd,yF,xx,xw hi];have hc:q.cons.getD i.toNat default=con q i:=rfl;rw [hc];have kc:=QF (QD C.kind);unfold HA;rcases kc with hk | hk | hk | hk | hk | hk | hk | hk | hk <;> rw [hk] <;> rfl
 ·refine ⟨List.replicate pos.length 0,⟨300,fun n hn=>?_⟩,KA,fun hA=>?_,fun _=>rfl⟩
  ·show Hm n q i pos=_
   unfold Hm V1;rw [xw ⟨rfl,by omega,by omega⟩,TP (by omega) (by omega),hd,yF,yC,xw KA.symm]
  ·have:=J1.2 hA.nz;rw [hd] at this;cases this
def xo (q:AA) (i:Int) (pos:List Int) (r:List Int×Int):Prop:=r.2=GT q i pos/\ (r.2=0 -> PR q (con q i) pos r.1)/\ (r.2≠0 -> r.1= [])
theorem bO (hF:Ff q) (hl:pos.length<=LB): ∃ r,Ev (fun n=>JV n q i pos) r/\ xo q i pos r:=by
 have hE:Ev (fun n=>Mq n q i pos) (GT q i pos):=⟨Hd q+pos.length+1,fun n hn=>wi hF (by omega) hl (by omega)⟩
 by_cases h0:GT q i pos=0
 ·obtain ⟨x,h1,h2⟩:=nJ (Bp.of hF h0);refine ⟨(x,0),?_,h0.symm,fun _=>h2,fun h=>absurd rfl h⟩;refine Ev.eq (Ev.bind hE (b:=fun n y1=>bif (y1 != 0) then some (([]:List Int),y1) else (Hm n q i pos).bind fun y2=>some (y2,0)) ?_) fun n=>rfl
  rw [h0];exact Ev.bind h1 (b:=fun _ y2=>some (y2,0)) (Ev.now fun n=>rfl)
 ·refine ⟨([],GT q i pos),?_,rfl,fun h=>absurd h h0,fun _=>rfl⟩;refine Ev.eq (Ev.bind hE (b:=fun n y1=>bif (y1 != 0) then some (([]:List Int),y1) else (Hm n q i pos).bind fun y2=>some (y2,0)) (Ev.now fun n=>?_)) fun n=>rfl
  have:(GT q i pos != 0)=true:=by simpa using h0
  rw [this];rfl
end
end Go.Proofs.YtgkhhfnhacibcaaGreatDoor
namespace Go.Proofs.YtgkhhfnhacibcaaGreatDoor
open Go.RowKit
theorem fu {α:Type} {f g:α -> Bool}: ∀ (l:List α),(∀ x∈l,f x=true -> g x=true) -> l.countP f<=l.countP g
 | [],_=>yS _
 | x::l,h=>by
  have h1:=fu l fun y hy=>h y (ya _ hy)
  have h2:=h x y9;rw [zw,zw];cases hf:f x
  ·simp only [yt,z7];omega
  ·rw [h2 hf];simp only [zS];omega
theorem UW {α:Type} {f g:α -> Bool} {a:α} (hf:f a=false) (hg:g a=true): ∀ (l:List α),(∀ x∈l,f x=true -> g x=true) -> a∈l -> l.countP f+1<=l.countP g
 | [],_,h=>by cases h
 | x::l,h,ha=>by
  rw [zw,zw];rcases yf.1 ha with rfl | ha
  ·have h1:=fu l fun y hy=>h y (ya _ hy)
   rw [hf,hg,xw rfl];simp only [yt,z7];omega
  ·have h1:=UW hf hg l (fun y hy=>h y (ya _ hy)) ha;have h2:=h x y9;cases hx:f x
   ·simp only [yt,z7];omega
   ·rw [h2 hx];simp only [zS];omega
section
variable {q:AA} {i:Int} {p p':List Int}
theorem ZO {n b:Int}: ∀ (l:List Int) (a:Int),n<=l.foldl (IQ q b) a↔n<=a/\ ∀ e∈l,q.values.getD e.toNat 0>b -> n<=q.values.getD e.toNat 0
 | [],a=>by simp
 | e::l,a=>by
  rw [zf,ZO l];unfold IQ;simp only [yf,forall_eq_or_imp];split
  ·split <;> constructor <;> rintro ⟨h1,h2⟩
   ·exact ⟨by omega,fun _=>h1,h2⟩
   ·exact ⟨h2.1 (by assumption),h2.2⟩
   ·exact ⟨h1,fun _=>by omega,h2⟩
   ·exact ⟨h1,h2.2⟩
  ·constructor <;> rintro ⟨h1,h2⟩
   ·exact ⟨h1,fun h=>absurd h (by assumption),h2⟩
   ·exact ⟨h1,h2.2⟩
theorem fm {n b:Int}: ∀ (l:List Int) (a:Int),l.foldl (IC q b) a<=n↔a<=n/\ ∀ e∈l,q.values.getD e.toNat 0<b -> q.values.getD e.toNat 0<=n
 | [],a=>by simp
 | e::l,a=>by
  rw [zf,fm l];unfold IC;simp only [yf,forall_eq_or_imp];split
  ·split <;> constructor <;> rintro ⟨h1,h2⟩
   ·exact ⟨by omega,fun _=>h1,h2⟩
   ·exact ⟨h2.1 (by assumption),h2.2⟩
   ·exact ⟨h1,fun _=>by omega,h2⟩
   ·exact ⟨h1,h2.2⟩
  ·constructor <;> rintro ⟨h1,h2⟩
   ·exact ⟨h1,fun h=>absurd h (by assumption),h2⟩
   ·exact ⟨h1,h2.2⟩
section
variable {c:AB}
end
end
end Go.Proofs.YtgkhhfnhacibcaaGreatDoor
namespace Go.Proofs.YtgkhhfnhacibcaaGreatDoor
open Go.RowKit
section
variable {q:AA} {i:Int} {pos x:List Int}
theorem nS (hv:Dh q=true) {y:List Int}:If q y=true↔(y.length:Int)=q.cells/\ ∀ j,j<y.length -> Sm q.symbols.toNat (y.getD j 0):=by
 unfold If;rw [yD,yo,yJ];constructor
 ·rintro ⟨h1,h2⟩;refine ⟨h1,fun j hj=>?_⟩;have hm:y.getD j 0∈y:=by rw [u8,xy hj];exact yY hj
  have:=h2 _ hm;rw [yD,yP,yP] at this;exact this
 ·rintro ⟨h1,h2⟩;refine ⟨h1,fun z hz=>?_⟩;obtain ⟨j,hj,rfl⟩:=zR hz;have:=h2 j hj;rw [u8,xy hj] at this;rw [yD,yP,yP];exact this
end
section
variable {q:AA} {i:Int} {p p' x z:List Int}
end
section
variable {q:AA} {i:Int} {a b:List Int}
theorem nM (C:Bp q i a): ∃ x,Ev (fun n=>JV n q i a) (x,0)/\ PR q (con q i) a x:=by
 obtain ⟨r,h1,h2,h3,_⟩:=bO (i:=i) C.fit (pos:=a) (yO C.len256.2 (by decide));obtain ⟨x,e⟩:=r;have e0:e=0:=h2.trans C.check;subst e0;exact ⟨x,h1,h3 rfl⟩
theorem nN (hF:Ff q) (hl:a.length<=LB) (h:GT q i a≠0): ∃ e,e≠0/\ Ev (fun n=>JV n q i a) ([],e):=by
 obtain ⟨r,h1,h2,_,h4⟩:=bO (i:=i) hF hl;obtain ⟨x,e⟩:=r;have h2:e=GT q i a:=h2;have he:e≠0:=by rw [h2];exact h
 have:x= []:=h4 he;subst this;exact ⟨e,he,h1⟩
end
section
variable {q:AA} {i j:Int} {p p' x y z:List Int}
end
end Go.Proofs.YtgkhhfnhacibcaaGreatDoor
namespace Go.Proofs.YtgkhhfnhacibcaaGreatDoor
abbrev zA7:=@Nat.lt_irrefl
end Go.Proofs.YtgkhhfnhacibcaaGreatDoor
namespace Go.Proofs.YtgkhhfnhacibcaaGreatDoor
open Go.RowKit
section
variable {q:AA} {c:AB} {pos:List Int} {k:Nat}
def LP (c:AB) (pos:List Int) (i j:Nat) (g:Nat -> Nat):Prop:=∀ b,i<=b -> b<j -> tb (A0 c pos b) (g b)=true
def FN (q:AA) (i j:Nat) (g:Nat -> Nat):Prop:=∀ b,i<=b -> b+1<j -> q.values.getD (g b) 0<q.values.getD (g (b+1)) 0
theorem ZN {b:Int}: ∀ (l:List Int) (a:Int),l.foldl (IQ q b) a=a∨∃ e∈l,q.values.getD e.toNat 0=l.foldl (IQ q b) a/\ q.values.getD e.toNat 0>b
 | [],a=>.inl rfl
 | e::l,a=>by
  rw [zf];rcases ZN l (IQ q b a e) with h | ⟨x,h1,h2⟩
  ·rw [h];unfold IQ;split
   ·rename_i h3;split
    ·exact .inr ⟨e,y9,rfl,h3⟩
    ·exact .inl rfl
   ·exact .inl rfl
  ·exact .inr ⟨x,ya _ h1,h2⟩
theorem fl {b:Int}: ∀ (l:List Int) (a:Int),l.foldl (IC q b) a=a∨∃ e∈l,q.values.getD e.toNat 0=l.foldl (IC q b) a/\ q.values.getD e.toNat 0<b
 | [],a=>.inl rfl
 | e::l,a=>by
  rw [zf];rcases fl l (IC q b a e) with h | ⟨x,h1,h2⟩
  ·rw [h];unfold IC;split
   ·rename_i h3;split
    ·exact .inr ⟨e,y9,rfl,h3⟩
    ·exact .inl rfl
   ·exact .inl rfl
  ·exact .inr ⟨x,ya _ h1,h2⟩
theorem gR (W:B0 c k pos): ∀ i,i<=c.cells.length -> F8 q c pos i<100 -> ∃ g,LP c pos 0 i g/\ FN q 0 i g/\ (0<i -> q.values.getD (g (i-1)) 0=F8 q c pos i)
 | 0,_,_=>⟨fun _=>0,fun b _ h=>absurd h (yN b),fun b _ h=>absurd h (yN _),fun h=>absurd h (zA7 0)⟩
 | i+1,hi,h=>by
  rcases ZN (q:=q) (b:=F8 q c pos i) (Bg (A0 c pos i)) 100 with h1 | ⟨e,h1,h2,h3⟩
  ·have:F8 q c pos (i+1)=100:=h1;omega
  ·have h2:q.values.getD e.toNat 0=F8 q c pos (i+1):=h2;obtain ⟨s,rfl,hs,ht⟩:=(FE (W.at (by omega)) (yO W.k (by decide))).1 h1;rw [yB] at h2 h3;obtain ⟨g,g1,g2,g3⟩:=gR W i (by omega) (by omega);refine ⟨fun b=>if b=i then s else g b,fun b h4 h5=>?_,fun b h4 h5=>?_,fun _=>?_⟩
   ·dsimp only
    by_cases e:b=i
    ·subst e;rw [xw rfl];exact ht
    ·rw [yK e];exact g1 b h4 (by omega)
   ·have e1:b≠i:=by omega
    dsimp only
    rw [yK e1]
    by_cases e2:b+1=i
    ·have:=g3 (by omega);rw [xw e2,show b=i-1 by omega,this];exact h3
    ·rw [yK e2];exact g2 b h4 (by omega)
   ·dsimp only
    rw [xw (by omega)];exact h2
theorem w7 (W:B0 c k pos) {g:Nat -> Nat}: ∀ i,i<c.cells.length -> LP c pos 0 (i+1) g -> FN q 0 (i+1) g -> F8 q c pos i<q.values.getD (g i) 0 -> F8 q c pos (i+1)<=q.values.getD (g i) 0:=fun i hi h1 _ h3=>by
 have h:=(ZO (q:=q) (b:=F8 q c pos i) (Bg (A0 c pos i)) 100).1 (zP _);have ht:=h1 i (zU _) (by omega);have hm:=(FE (W.at hi) (yO W.k (by decide)) (e:=(g i:Int))).2 ⟨g i,rfl,zC fun CC=>(by rw [(W.at hi).hi CC] at ht;cases ht),ht⟩;have:=h.2 _ hm;rw [yB] at this;exact this h3
theorem gT (W:B0 c k pos) (V:Dt q k) {g:Nat -> Nat}: ∀ i,i<c.cells.length -> LP c pos 0 (i+1) g -> FN q 0 (i+1) g -> F8 q c pos i<q.values.getD (g i) 0
 | 0,hi,h1,_=>by
  have ht:=h1 0 (yS _) (by omega);have:=V.val (g 0) (zC fun CC=>(by rw [(W.at hi).hi CC] at ht;cases ht))
  show (-1:Int)<_
  omega
 | i+1,hi,h1,h2=>by
  have a1:LP c pos 0 (i+1) g:=fun b h3 h4=>h1 b h3 (by omega)
  have a2:FN q 0 (i+1) g:=fun b h3 h4=>h2 b h3 (by omega)
  have h3:=gT W V i (by omega) a1 a2;have h4:=w7 W i (by omega) a1 a2 h3;have h5:=h2 i (zU _) (by omega);omega
theorem iG (W:B0 c k pos): ∀ m,m<=c.cells.length -> -1<IJ q c pos m -> ∃ g,LP c pos (c.cells.length-m) c.cells.length g/\ FN q (c.cells.length-m) c.cells.length g/\ (0<m -> q.values.getD (g (c.cells.length-m)) 0=IJ q c pos m)
 | 0,_,_=>⟨fun _=>0,fun b h1 h2=>absurd h2 (by omega),fun b h1 h2=>absurd h2 (by omega),fun h=>absurd h (zA7 0)⟩
 | m+1,hm,h=>by
  rcases fl (q:=q) (b:=IJ q c pos m) (Bg (A0 c pos (c.cells.length-1-m))) (-1) with h1 | ⟨e,h1,h2,h3⟩
  ·have:IJ q c pos (m+1)= -1:=h1;omega
  ·have h2:q.values.getD e.toNat 0=IJ q c pos (m+1):=h2;obtain ⟨s,rfl,hs,ht⟩:=(FE (W.at (by omega)) (yO W.k (by decide))).1 h1;rw [yB] at h2 h3;obtain ⟨g,g1,g2,g3⟩:=iG W m (by omega) (by omega);have ei:c.cells.length-(m+1)=c.cells.length-1-m:=by omega
   refine ⟨fun b=>if b=c.cells.length-1-m then s else g b,fun b h4 h5=>?_,fun b h4 h5=>?_,fun _=>?_⟩
   ·dsimp only
    by_cases e:b=c.cells.length-1-m
    ·subst e;rw [xw rfl];exact ht
    ·rw [yK e];exact g1 b (by omega) h5
   ·have e2:b+1≠c.cells.length-1-m:=by omega
    dsimp only
    rw [yK e2]
    by_cases e1:b=c.cells.length-1-m
    ·have:=g3 (by omega);rw [xw e1,show b+1=c.cells.length-m by omega,this];exact h3
    ·rw [yK e1];exact g2 b (by omega) h5
   ·dsimp only
    rw [xw ei];exact h2
theorem iH (W:B0 c k pos) (V:Dt q k) {g:Nat -> Nat}: ∀ m,m<c.cells.length -> LP c pos (c.cells.length-1-m) c.cells.length g -> FN q (c.cells.length-1-m) c.cells.length g -> q.values.getD (g (c.cells.length-1-m)) 0<IJ q c pos m
 | 0,hm,h1,_=>by
  have ht:=h1 (c.cells.length-1-0) (by omega) (by omega);have:=V.val (g (c.cells.length-1-0)) (zC fun CC=>(by rw [(W.at (by omega)).hi CC] at ht;cases ht))
  show _<(100:Int)
  omega
 | m+1,hm,h1,h2=>by
  have e1:c.cells.length-1-m=c.cells.length-1-(m+1)+1:=by omega
  have a1:LP c pos (c.cells.length-1-m) c.cells.length g:=fun b h3 h4=>h1 b (by omega) h4
  have a2:FN q (c.cells.length-1-m) c.cells.length g:=fun b h3 h4=>h2 b (by omega) h4
  have h3:=iH W V m (by omega) a1 a2;have h:=(fm (q:=q) (b:=IJ q c pos m) (Bg (A0 c pos (c.cells.length-1-m))) (-1)).1 (zP _);have ht:=h1 (c.cells.length-1-m) (by omega) (by omega);have FG:=(FE (W.at (a:=c.cells.length-1-m) (by omega)) (yO W.k (by decide)) (e:=(g (c.cells.length-1-m):Int))).2 ⟨_,rfl,zC fun CC=>(by rw [(W.at (by omega)).hi CC] at ht;cases ht),ht⟩;have h4:=h.2 _ FG;rw [yB] at h4;have h4:_<=IJ q c pos (m+1):=h4 h3;have h5:=h2 (c.cells.length-1-(m+1)) (yS _) (by omega);rw [←e1] at h5;omega
theorem mP (W:B0 c k pos) (V:Dt q k) {a s:Nat} (ha:a<c.cells.length) (hs:tb (A0 c pos a) s=true):IY q c pos a s=false↔∃ g,LP c pos 0 c.cells.length g/\ FN q 0 c.cells.length g/\ g a=s:=by
 have hv:=V.val s (zC fun CC=>(by rw [(W.at ha).hi CC] at hs;cases hs));unfold IY IK;rw [Bool.or_eq_false_iff,zAF,zAF];constructor
 ·rintro ⟨h1,h2⟩;obtain ⟨g1,p1,p2,p3⟩:=gR (q:=q) W a (by omega) (by omega);obtain ⟨g2,r1,r2,r3⟩:=iG (q:=q) W (c.cells.length-(a+1)) (by omega) (by omega);have el:c.cells.length-(c.cells.length-(a+1))=a+1:=by omega
  rw [el] at r1 r2 r3;refine ⟨fun b=>if b<a then g1 b else if b=a then s else g2 b,fun b _ hb=>?_,fun b _ hb=>?_,by dsimp only;rw [if_neg (by omega),if_pos rfl]⟩
  ·dsimp only
   by_cases e1:b<a
   ·rw [xw e1];exact p1 b (zU _) e1
   ·by_cases e2:b=a
    ·subst e2;rw [yK e1,xw rfl];exact hs
    ·rw [yK e1,yK e2];exact r1 b (by omega) hb
  ·dsimp only
   by_cases e1:b<a
   ·rw [xw e1]
    by_cases e2:b+1<a
    ·rw [xw e2];exact p2 b (zU _) e2
    ·have:=p3 (by omega);rw [yK e2,xw (by omega),show b=a-1 by omega,this];omega
   ·rw [yK e1,yK (by omega: ¬ b+1<a),yK (by omega: ¬ b+1=a)]
    by_cases e2:b=a
    ·have:=r3 (by omega);rw [xw e2,e2,this];omega
    ·rw [yK e2];exact r2 b (by omega) hb
 ·rintro ⟨g,h1,h2,rfl⟩;have l1:=gT W V a ha (fun b h3 h4=>h1 b h3 (by omega)) (fun b h3 h4=>h2 b h3 (by omega));have l2:=iH W V (c.cells.length-1-a) (by omega) (fun b h3 h4=>h1 b (by omega) h4) (fun b h3 h4=>h2 b (by omega) h4);have e1:c.cells.length-1-(c.cells.length-1-a)=a:=by omega
  have e2:c.cells.length-(a+1)=c.cells.length-1-a:=by omega
  rw [e1] at l2;rw [e2];omega
def RX (c:AB) (pos:List Int) (a:Nat) (inn:Bool):Nat -> Int×Int -> Prop
 | 0,t=>RV c t
 | m+1,s=>∃ b u,kd c pos (c.cells.length-1-m) b=true/\ (c.cells.length-1-m=a -> b=inn)/\ nx c s.1 s.2 b=some u/\ RX c pos a inn m u
theorem SE {a:Nat} {inn:Bool}: ∀ (m:Nat),m+a+1<=c.cells.length -> ∀ t,E2 c pos (c.cells.length-m) t -> (RX c pos a inn m t↔I5 c pos m t)
 | 0,_,t,_=>Iff.rfl
 | m+1,hm,s,hr=>by
  have e:c.cells.length-(m+1)=c.cells.length-1-m:=by omega
  have e2:c.cells.length-m=c.cells.length-1-m+1:=by omega
  rw [e] at hr;constructor
  ·rintro ⟨b,u,h1,_,h3,h4⟩;exact ⟨hr,u,b,h3,h1,(SE m (by omega) u (by rw [e2];exact ⟨s,b,hr,h3,h1⟩)).1 h4⟩
  ·rintro ⟨_,u,b,h3,h1,h4⟩;exact ⟨b,u,h1,fun h=>absurd h (by omega),h3,(SE m (by omega) u (by rw [e2];exact ⟨s,b,hr,h3,h1⟩)).2 h4⟩
theorem aZ {a:Nat} {inn:Bool} (ha:a<c.cells.length): ∀ (i:Nat),i<=a -> (RX c pos a inn c.cells.length (0,0)↔∃ s,E2 c pos i s/\ RX c pos a inn (c.cells.length-i) s)
 | 0,_=>⟨fun h=>⟨(0,0),rfl,h⟩,fun ⟨s,h1,h2⟩=>by
  have h1:s=(0,0):=h1;subst h1;exact h2⟩
 | i+1,hi=>by
  rw [aZ ha i (by omega)];have e:c.cells.length-i=(c.cells.length-(i+1))+1:=by omega
  have e2:c.cells.length-1-(c.cells.length-(i+1))=i:=by omega
  constructor
  ·rintro ⟨s,h1,h2⟩;rw [e] at h2;obtain ⟨b,u,h3,_,h5,h6⟩:=h2;rw [e2] at h3;exact ⟨u,⟨s,b,h1,h5,h3⟩,h6⟩
  ·rintro ⟨u,⟨s,b,h1,h5,h3⟩,h6⟩;refine ⟨s,h1,?_⟩;rw [e];exact ⟨b,u,by rw [e2];exact h3,fun h=>absurd h (by rw [e2];omega),h5,h6⟩
theorem wm {a:Nat} {inn:Bool} (ha:a<c.cells.length):J3 c pos a inn↔RX c pos a inn c.cells.length (0,0):=by
 rw [aZ ha a (yS _)];have e:c.cells.length-a=(c.cells.length-1-a)+1:=by omega
 have e2:c.cells.length-1-(c.cells.length-1-a)=a:=by omega
 have e3:c.cells.length-(c.cells.length-1-a)=a+1:=by omega
 constructor
 ·rintro ⟨s,t,h1,h2,h3,h4⟩;refine ⟨s,h1,?_⟩;rw [e];exact ⟨inn,t,by rw [e2];exact h3,fun _=>rfl,h2,(SE _ (by omega) t (by rw [e3];exact ⟨s,inn,h1,h2,h3⟩)).2 h4⟩
 ·rintro ⟨s,h1,h2⟩;rw [e] at h2;obtain ⟨b,t,h3,h4,h5,h6⟩:=h2;rw [e2] at h3 h4;obtain rfl:=h4 rfl;exact ⟨s,t,h1,h5,h3,(SE _ (by omega) t (by rw [e3];exact ⟨s,b,h1,h5,h3⟩)).1 h6⟩
end
end Go.Proofs.YtgkhhfnhacibcaaGreatDoor
namespace Go.Proofs.YtgkhhfnhacibcaaGreatDoor
open Go.RowKit
structure Gd (q:AA) (g:List Int):Prop where
 len:(g.length:Int)=q.cells
 sym: ∀ j,j<g.length -> 0<=g.getD j 0/\ g.getD j 0<q.symbols
def Fk (g:List Int):List Int:=g.map fun s=>IntKind.i64.wrap (1*2 ^ s.toNat)
def Ao (c:AB) (g:List Int) (a:Nat):Nat:=(g.getD (c.cells.getD a 0).toNat 0).toNat
def Cu (c:AB) (g:List Int):List Bool:=g.map fun s=>tb c.set s.toNat
def rl (b:Nat -> Bool) (len:Nat):Nat -> Int -> List Int
 | 0,l=>if l>0 then [l] else []
 | m+1,l=>bif b (len-1-m) then rl b len m (l+1) else if l>0 then l::rl b len m 0 else rl b len m 0
def I6 (n:List (List Int)) (inn:List Bool):Prop:=∀ u v:Nat,u<n.length -> v<n.length -> inn.getD u false=true -> inn.getD v false=true -> Rc n inn u v
def GA (q:AA) (c:AB) (g:List Int):Prop:=
 (c.kind=1 -> ∀ a b,a<c.cells.length -> b<c.cells.length -> Ao c g a=Ao c g b -> a=b)/\
 (c.kind=2 -> c.lo<=cnt (fun a=>tb c.set (Ao c g a)) c.cells.length/\ cnt (fun a=>tb c.set (Ao c g a)) c.cells.length<=c.hi)/\
 (c.kind=3 -> c.lo<=Dv (fun a=>q.values.getD (Ao c g a) 0) c.cells.length/\ Dv (fun a=>q.values.getD (Ao c g a) 0) c.cells.length<=c.hi)/\
 (c.kind=4 -> FN q 0 c.cells.length (Ao c g))/\
 (c.kind=5 -> rl (fun a=>tb c.set (Ao c g a)) c.cells.length c.cells.length 0=c.runs)/\
 (c.kind=6 -> Gi q c (Ao c g 0) (Ao c g 1)=true)/\ (c.kind=7 -> GI c (Ao c g 0) (Ao c g 1)=true)/\
 (c.kind=8 -> I6 q.nbrs (Cu c g))/\
 (c.kind=9 -> I6 q.nbrs (Cu c g)/\ ∀ v,v<g.length -> (Cu c g).getD v false=true -> Cz q.nbrs (Cu c g) v=2)
theorem Lc {g:List Int}:(Fk g).length=g.length:=zE _
theorem VR {g:List Int} {j:Nat} (hj:j<g.length):(Fk g).getD j 0=IntKind.i64.wrap (1*2 ^ (g.getD j 0).toNat):=by
 unfold Fk;rw [u8,ye,xy hj,u8,xy hj];rfl
theorem cM {c:AB} {g:List Int}:(Cu c g).length=g.length:=zE _
theorem oZ {c:AB} {g:List Int} {j:Nat} (hj:j<g.length):(Cu c g).getD j false=tb c.set (g.getD j 0).toNat:=by
 unfold Cu;rw [u8,ye,xy hj,u8,xy hj];rfl
theorem bQ {k s:Nat} (hk:k<=16) (hs:s<k):Sm k (IntKind.i64.wrap (1*2 ^ s)):=
 aD (by omega) (U1 _) fun i hi _=>by rw [JH (by omega),yA (by omega)]
section
variable {q:AA} {i:Int} {g:List Int} {c:AB}
theorem Gd.pos (G:Gd q g) (hv:Dh q=true):If q (Fk g)=true:=by
 have hk:=(Hc hv).2.1;refine (nS hv).2 ⟨by rw [Lc];exact G.len,fun j hj=>?_⟩;rw [Lc] at hj;have:=G.sym j hj;rw [VR hj];exact bQ (by omega) (by omega)
theorem Gd.lt (G:Gd q g) (hv:Dh q=true) {j:Nat} (hj:j<g.length):(g.getD j 0).toNat<q.symbols.toNat/\ (g.getD j 0).toNat<16:=by
 have hk:=(Hc hv).2.1;have:=G.sym j hj;omega
theorem jf (G:Gd q g) (hv:Dh q=true) {j:Nat} (hj:j<g.length) (s:Nat):tb ((Fk g).getD j 0) s=decide ((g.getD j 0).toNat=s):=by
 rw [VR hj,JH (by have:=G.lt hv hj;omega)]
structure Sv (q:AA) (c:AB) (g:List Int):Prop where
 v:Dh q=true
 G:Gd q g
 cell: ∀ a,a<c.cells.length -> 0<=c.cells.getD a 0/\ c.cells.getD a 0<(g.length:Int)
theorem Sv.lt (S:Sv q c g) {a:Nat} (ha:a<c.cells.length):Ao c g a<q.symbols.toNat/\ Ao c g a<16:=S.G.lt S.v (by have:=S.cell a ha;omega)
theorem Bp.sv (C:Bp q i (Fk g)) (G:Gd q g):Sv q (con q i) g:=⟨C.valid,G,fun a ha=>by have:=C.work.cells a ha;rw [Lc] at this;exact this⟩
theorem Sv.nz (S:Sv q c g): ∀ j,j<(Fk g).length -> (Fk g).getD j 0≠0:=fun j hj=>by
 rw [Lc] at hj;refine (JI (by rw [VR hj];exact U1 _)).2 ⟨(g.getD j 0).toNat,by have:=S.G.lt S.v hj;omega,?_⟩;rw [jf S.G S.v hj,yG rfl]
end
end Go.Proofs.YtgkhhfnhacibcaaGreatDoor
namespace Go.Proofs.YtgkhhfnhacibcaaGreatDoor
open Go.RowKit
section
variable {q:AA} {i:Int} {g:List Int} {c:AB}
def RY (c:AB) (b:Nat -> Bool):Nat -> Int×Int -> Prop
 | 0,t=>RV c t
 | m+1,s=>∃ u,nx c s.1 s.2 (b (c.cells.length-1-m))=some u/\ RY c b m u
theorem ao {b:Nat -> Bool} {n:Nat}: ∀ (m:Nat) (l:Int),0<l -> ∃ x r,rl b n m l=x::r/\ l<=x
 | 0,l,h=>⟨l,[],by unfold rl;rw [xw h],zP _⟩
 | m+1,l,h=>by
  unfold rl;cases b (n-1-m)
  ·rw [xx,xw h];exact ⟨l,_,rfl,zP _⟩
  ·rw [yC];obtain ⟨x,r,h1,h2⟩:=ao m (l+1) (by omega);exact ⟨x,r,h1,by omega⟩
theorem fj {l:List Int} {d:Nat}:l.drop d= []↔l.length<=d:=List.drop_eq_nil_iff
theorem YM {l:List Int} {d:Nat} (h:d<l.length):l.drop d=l.getD d 0::l.drop (d+1):=by
 rw [ym h,u8,xy h];rfl
theorem SD {b:Nat -> Bool} (h1: ∀ x∈c.runs,1<=x): ∀ (m:Nat) (d l:Int),J7 c d l -> (RY c b m (d,l)↔rl b c.cells.length m l=c.runs.drop d.toNat)
 | 0,d,l,h=>by
  obtain ⟨d0,d1,l0,ho⟩:=h;have pos: ∀ j,j<c.runs.length -> 1<=c.runs.getD j 0:=fun j hj=>h1 _ (by rw [u8,xy hj];exact yY hj)
  show RV c (d,l)↔_
  unfold RV rl;simp only [zZ]
  by_cases hl:l>0
  ·obtain ⟨o1,o2⟩:=ho hl;rw [xw hl,YM (by omega)];constructor
   ·rintro (⟨_,e⟩ | ⟨_,e1,e2⟩)
    ·omega
    ·rw [show d.toNat=c.runs.length-1 by omega,←e2,zJ (by omega)]
   ·intro e;injection e with e1 e2
    have:=fj.1 e2.symm;exact .inr ⟨by omega,by omega,by rw [e1,show d.toNat=c.runs.length-1 by omega]⟩
  ·have:l=0:=by omega
   subst this;rw [yK hl,@eq_comm _ ([]:List Int),fj];constructor
   ·rintro (⟨e,_⟩ | ⟨e0,e1,e2⟩)
    ·omega
    ·have:=pos (c.runs.length-1) (by omega);omega
   ·intro e;exact .inl ⟨by omega,rfl⟩
 | m+1,d,l,h=>by
  have h':=h;obtain ⟨d0,d1,l0,ho⟩:=h;have pos: ∀ j,j<c.runs.length -> 1<=c.runs.getD j 0:=fun j hj=>h1 _ (by rw [u8,xy hj];exact yY hj)
  show (∃ u,nx c d l (b (c.cells.length-1-m))=some u/\ RY c b m u)↔_
  unfold rl;cases hb:b (c.cells.length-1-m) with
  | true=>
   rw [yC];unfold nx;rw [yC]
   by_cases e:d<(c.runs.length:Int)/\ l<c.runs.getD d.toNat 0
   ·rw [xw e,←SD h1 m d (l+1) ⟨d0,d1,by omega,fun _=>⟨e.1,by omega⟩⟩];exact ⟨fun ⟨u,e1,e2⟩=>by cases e1;exact e2,fun h=>⟨_,rfl,h⟩⟩
   ·rw [yK e];refine ⟨fun ⟨u,e1,_⟩=>by (cases e1),fun hx=>?_⟩;obtain ⟨x,r,e1,e2⟩:=ao (b:=b) (n:=c.cells.length) m (l+1) (by omega);rw [e1] at hx
    by_cases hd:d.toNat<c.runs.length
    ·rw [YM hd] at hx;injection hx with hx _
     exact absurd ⟨by omega,by omega⟩ e
    ·rw [zJ (by omega)] at hx;cases hx
  | false=>
   rw [xx];unfold nx;rw [xx]
   by_cases hl:l>0
   ·obtain ⟨o1,o2⟩:=ho hl;rw [yK (by omega),xw hl,YM (by omega)]
    by_cases e:l=c.runs.getD d.toNat 0
    ·rw [xw e,←e];have:=SD (b:=b) h1 m (d+1) 0 ⟨by omega,by omega,zP _,fun h=>by omega⟩;rw [show (d+1).toNat=d.toNat+1 by omega] at this;constructor
     ·rintro ⟨u,e1,e2⟩;cases e1;rw [this.1 e2]
     ·intro hx;injection hx with _ hx
      exact ⟨_,rfl,this.2 hx⟩
    ·rw [yK e];refine ⟨fun ⟨u,e1,_⟩=>by (cases e1),fun hx=>?_⟩;injection hx with hx _
     exact absurd hx e
   ·have:l=0:=by omega
    subst this;rw [xw rfl,yK hl,←SD h1 m d 0 h'];exact ⟨fun ⟨u,e1,e2⟩=>by cases e1;exact e2,fun h=>⟨_,rfl,h⟩⟩
end
end Go.Proofs.YtgkhhfnhacibcaaGreatDoor
namespace Go.Proofs.YtgkhhfnhacibcaaGreatDoor
open Go.RowKit
section
variable {q:AA} {i:Int} {c:AB} {pos x:List Int}
def Ch (c:AB) (pos:List Int) (f:Nat -> Nat):Prop:=∀ b,b<c.cells.length -> tb (A0 c pos b) (f b)=true
def Mf (q:AA) (c:AB) (f:Nat -> Nat):Prop:=
 (c.kind=4 -> FN q 0 c.cells.length f)/\ (c.kind=5 -> rl (fun a=>tb c.set (f a)) c.cells.length c.cells.length 0=c.runs)/\ (c.kind=6 -> Gi q c (f 0) (f 1)=true)/\ (c.kind=7 -> GI c (f 0) (f 1)=true)
theorem NM {b b':Nat -> Bool} {N:Nat}: ∀ (m:Nat) (l:Int),m<=N -> (∀ a,a<N -> b a=b' a) -> rl b N m l=rl b' N m l
 | 0,l,_,_=>rfl
 | m+1,l,hm,h=>by
  unfold rl;rw [h (N-1-m) (by omega),NM m (l+1) (by omega) h,NM m 0 (by omega) h]
theorem oc (hk:c.kind=4∨c.kind=5∨c.kind=6∨c.kind=7) (h2:c.kind=6∨c.kind=7 -> c.cells.length=2) {f:Nat -> Nat} {g:List Int} (h: ∀ a,a<c.cells.length -> Ao c g a=f a):GA q c g↔Mf q c f:=by
 have e5:rl (fun a=>tb c.set (Ao c g a)) c.cells.length c.cells.length 0=rl (fun a=>tb c.set (f a)) c.cells.length c.cells.length 0:=NM _ _ (yS _) fun a ha=>by rw [h a ha]
 have e4:FN q 0 c.cells.length (Ao c g)↔FN q 0 c.cells.length f:=by
  refine forall_congr' fun b=>forall_congr' fun _=>forall_congr' fun hb=>?_
  rw [h b (by omega),h (b+1) hb]
 unfold GA Mf;rw [e5,e4];rcases hk with hk | hk | hk | hk
 ·rw [hk];simp
 ·rw [hk];simp
 ·have:=h2 (.inl hk);rw [hk,h 0 (by omega),h 1 (by omega)];simp
 ·have:=h2 (.inr hk);rw [hk,h 0 (by omega),h 1 (by omega)];simp
theorem dD {k:Nat} (W:B0 c k pos) {b:Nat} (hb:b<c.cells.length) {inn:Bool}:kd c pos b inn=true↔∃ s,tb (A0 c pos b) s=true/\ tb c.set s=inn:=by
 unfold kd;cases inn
 ·rw [xx,zc,ne_eq,←ne_eq,JI (HP _ _ _)];constructor
  ·rintro ⟨s,_,h⟩;rw [NB,yD,zL] at h;exact ⟨s,h⟩
  ·rintro ⟨s,h1,h2⟩;refine ⟨s,zC fun h=>(by rw [NA h] at h1;cases h1),?_⟩;rw [NB,h1,h2];rfl
 ·rw [yC,zc,ne_eq,←ne_eq,JI (HP _ _ _)];constructor
  ·rintro ⟨s,_,h⟩;rw [KH,yD] at h;exact ⟨s,h⟩
  ·rintro ⟨s,h1,h2⟩;refine ⟨s,zC fun h=>(by rw [NA h] at h1;cases h1),?_⟩;rw [KH,h1,h2];rfl
theorem Vb {k:Nat} (W:B0 c k pos) {a:Nat} {inn:Bool}: ∀ (m:Nat) (s:Int×Int),m<=c.cells.length -> (RX c pos a inn m s↔∃ f:Nat -> Nat,(∀ b,c.cells.length<=b+m -> b<c.cells.length -> tb (A0 c pos b) (f b)=true)/\ RY c (fun b=>tb c.set (f b)) m s/\ (c.cells.length<=a+m -> a<c.cells.length -> tb c.set (f a)=inn))
 | 0,s,_=>⟨fun h=>⟨fun _=>0,fun b h1 h2=>by omega,h,fun h1 h2=>by omega⟩,fun ⟨_,_,h,_⟩=>h⟩
 | m+1,s,hm=>by
  have lT: ∀ {b b':Nat -> Bool} (m:Nat) (s:Int×Int),m<=c.cells.length -> (∀ a,c.cells.length<=a+m -> a<c.cells.length -> b a=b' a) -> RY c b m s -> RY c b' m s:=by
   intro b b' m
   induction m with
   | zero=>intro s _ _ h;exact h
   | succ m ih=>
    rintro s hm h ⟨u,h1,h2⟩;exact ⟨u,by rw [←h _ (by omega) (by omega)];exact h1,ih u (by omega) (fun a h3 h4=>h a (by omega) h4) h2⟩
  constructor
  ·rintro ⟨b,u,h1,h2,h3,h4⟩;obtain ⟨f,f1,f2,f3⟩:=(Vb W m u (by omega)).1 h4;obtain ⟨t,t1,t2⟩:=(dD W (by omega)).1 h1;refine ⟨fun x=>if x=c.cells.length-1-m then t else f x,fun x x1 x2=>?_,⟨u,?_,lT m u (by omega) (fun x x1 x2=>?_) f2⟩,fun x1 x2=>?_⟩
   ·dsimp only
    by_cases e:x=c.cells.length-1-m
    ·rw [xw e,e];exact t1
    ·rw [yK e];exact f1 x (by omega) x2
   ·show nx c s.1 s.2 (tb c.set (if c.cells.length-1-m=c.cells.length-1-m then t else f (c.cells.length-1-m)))=some u
    rw [xw rfl,t2];exact h3
   ·dsimp only
    rw [yK (by omega)]
   ·dsimp only
    by_cases e:a=c.cells.length-1-m
    ·rw [xw e,t2];exact h2 e.symm
    ·rw [yK e];exact f3 (by omega) x2
  ·rintro ⟨f,f1,⟨u,h3,h5⟩,f3⟩;refine ⟨tb c.set (f (c.cells.length-1-m)),u,(dD W (by omega)).2 ⟨_,f1 _ (by omega) (by omega),rfl⟩,fun e=>?_,h3,(Vb W m u (by omega)).2 ⟨f,fun b b1 b2=>f1 b (by omega) b2,h5,fun h1 h2=>f3 (by omega) h2⟩⟩;rw [e];exact f3 (by omega) (by omega)
theorem B0.sym {k:Nat} (W:B0 c k pos) {a s:Nat} (ha:a<c.cells.length) (h:tb (A0 c pos a) s=true):s<k:=zC fun CC=>by rw [(W.at ha).hi CC] at h;cases h
theorem Wc {k:Nat} (W:B0 c k pos) (V:Dt q k) (h1: ∀ x∈c.runs,1<=x) (hk:c.kind=4∨c.kind=5∨c.kind=6∨c.kind=7) (h2:c.kind=6∨c.kind=7 -> c.cells.length=2) {a s:Nat} (ha:a<c.cells.length) (hs:tb (A0 c pos a) s=true):
 ¬ DQ q c pos a s↔∃ f,Ch c pos f/\ Mf q c f/\ f a=s:=by
 have bx: ∀ (ok:Nat -> Nat -> Bool),c.cells.length=2 -> (¬ Fq ok c pos a s↔∃ f,Ch c pos f/\ ok (f 0) (f 1)=true/\ f a=s):=by
  intro ok h2;unfold Fq
  by_cases e:a=0
  ·subst e;rw [xw rfl,Classical.not_not];constructor
   ·rintro ⟨t,t1,t2⟩;refine ⟨fun b=>if b=0 then s else t,fun b hb=>?_,t2,rfl⟩
    dsimp only
    by_cases e:b=0
    ·rw [xw e,e];exact hs
    ·rw [yK e,show b=1 by omega];exact t1
   ·rintro ⟨f,f1,f2,f3⟩;exact ⟨f 1,f1 1 (by omega),by rw [←f3];exact f2⟩
  ·have:a=1:=by omega
   subst this;rw [yK (by decide),Classical.not_not];constructor
   ·rintro ⟨t,t1,t2⟩;refine ⟨fun b=>if b=1 then s else t,fun b hb=>?_,t2,rfl⟩
    dsimp only
    by_cases e:b=1
    ·rw [xw e,e];exact hs
    ·rw [yK e,show b=0 by omega];exact t1
   ·rintro ⟨f,f1,f2,f3⟩;exact ⟨f 0,f1 0 (by omega),by rw [←f3];exact f2⟩
 rcases hk with hk | hk | hk | hk
 ·have e:DQ q c pos a s↔IY q c pos a s=true:=by unfold DQ;rw [hk];simp
  rw [e,zAI,mP W V ha hs];refine exists_congr fun f=>⟨fun ⟨a1,a2,a3⟩=>⟨fun b hb=>a1 b (zU _) hb,by unfold Mf;rw [hk];simpa using a2,a3⟩,fun ⟨a1,a2,a3⟩=>⟨fun b _ hb=>a1 b hb,a2.1 hk,a3⟩⟩
 ·have e:DQ q c pos a s↔JP c pos a s:=by unfold DQ;rw [hk];simp
  have key:=fun (f:Nat -> Nat)=>SD (b:=fun b=>tb c.set (f b)) h1 c.cells.length 0 0 ⟨zP _,by omega,zP _,fun h=>by omega⟩
  have cn: ¬ DQ q c pos a s↔J3 c pos a (tb c.set s):=by
   rw [e];unfold JP;cases tb c.set s <;> simp
  rw [cn,wm ha,Vb W _ _ (yS _)];constructor
  ·rintro ⟨f,f1,f2,f3⟩;have ft:=f3 (by omega) ha
   have eb: ∀ b,tb c.set ((fun b=>if b=a then s else f b) b)=tb c.set (f b):=fun b=>by
    dsimp only
    by_cases e:b=a
    ·rw [xw e,e,ft]
    ·rw [yK e]
   refine ⟨fun b=>if b=a then s else f b,fun b hb=>?_,?_,xw rfl⟩
   ·dsimp only
    by_cases e:b=a
    ·rw [xw e,e];exact hs
    ·rw [yK e];exact f1 b (by omega) hb
   ·unfold Mf;rw [hk]
    have:rl (fun b=>tb c.set ((fun b=>if b=a then s else f b) b)) c.cells.length c.cells.length 0=c.runs:=by
     rw [NM (b':=fun b=>tb c.set (f b)) _ _ (yS _) fun b _=>eb b];exact (key f).1 f2
    simpa using this
  ·rintro ⟨f,f1,f2,f3⟩;exact ⟨f,fun b _ hb=>f1 b hb,(key f).2 (f2.2.1 hk),fun _ _=>by rw [f3]⟩
 ·have e:DQ q c pos a s↔Fq (Gi q c) c pos a s:=by unfold DQ;rw [hk];simp
  rw [e,bx _ (h2 (.inl hk))];refine exists_congr fun f=>and_congr Iff.rfl (and_congr ?_ Iff.rfl)
  unfold Mf;rw [hk];simp
 ·have e:DQ q c pos a s↔Fq (GI c) c pos a s:=by unfold DQ;rw [hk];simp
  rw [e,bx _ (h2 (.inr hk))];refine exists_congr fun f=>and_congr Iff.rfl (and_congr ?_ Iff.rfl)
  unfold Mf;rw [hk];simp
theorem Bp.runs1 (C:Bp q i pos): ∀ x∈(con q i).runs,1<=x:=fun x hx=>by
 have h:=C.fine;unfold Ed at h;simp only [yD,yP] at h;exact (Re.1 h.2 x hx).1
theorem Yb (C:Bp q i pos) {a b:Nat} (ha:a<(con q i).cells.length) (hb:b<(con q i).cells.length) (h:((con q i).cells.getD a 0).toNat=((con q i).cells.getD b 0).toNat):a=b:=by
 have h1:=C.work.cells a ha;have h2:=C.work.cells b hb;have e:(con q i).cells.getD a 0=(con q i).cells.getD b 0:=by omega
 rw [u8,u8,xy ha,xy hb] at e;exact (List.getElem_inj C.cells.2.1).1 e
theorem xj (C:Bp q i pos) (hd:Fe pos=false) (hk:(con q i).kind=4∨(con q i).kind=5∨(con q i).kind=6∨(con q i).kind=7):Ra q (con q i) pos↔∃ f,Ch (con q i) pos f/\ Mf q (con q i) f:=by
 have L:=fun {a s:Nat} (ha:a<(con q i).cells.length) (hs:tb (A0 (con q i) pos a) s=true)=>Wc (q:=q) C.work C.vals C.runs1 hk C.two ha hs
 have qF:(con q i).kind≠5 -> Lv q (con q i) pos:=fun h5=>by
  unfold Lv;rcases hk with hk | hk | hk | hk
  ·rw [hk];simp
  ·exact absurd hk h5
  ·rw [hk];simp
  ·rw [hk];simp
 constructor
 ·intro hA;rcases zg (con q i).cells.length with e | e
  ·refine ⟨fun _=>0,fun b hb=>by omega,?_⟩;unfold Mf;rw [e];refine ⟨fun _ b _ hb=>by omega,fun h5=>?_,fun h6=>?_,fun h7=>?_⟩
   ·have:=hA.ok.2.2.1 h5;unfold Hk at this;rw [e] at this;have h0:((con q i).runs.length==0)=true:=this;rw [yo,List.length_eq_zero_iff] at h0;rw [h0];rfl
   ·have:=C.two (.inl h6);omega
   ·have:=C.two (.inr h7);omega
  ·have hc:=C.work.cells 0 e;obtain ⟨s,_,h1,h2⟩:=hA.left ((con q i).cells.getD 0 0).toNat (by omega);obtain ⟨f,f1,f2,_⟩:=(L e h1).1 fun hl=>h2 ⟨0,e,rfl,hl⟩
   exact ⟨f,f1,f2⟩
 ·rintro ⟨f,f1,f2⟩;refine ⟨J1.1 hd,?_,fun j hj=>?_⟩
  ·by_cases h5:(con q i).kind=5
   ·unfold Lv;rw [h5]
    have:Hk (con q i)=true:=by
     unfold Hk;rcases zg (con q i).cells.length with e | e
     ·have:=f2.2.1 h5;rw [e] at this;have:([]:List Int)=(con q i).runs:=this;rw [←this];simp
     ·rw [zc.2 (by omega)];rfl
    simpa using this
   ·exact qF h5
  ·by_cases hc: ∃ a,a<(con q i).cells.length/\ ((con q i).cells.getD a 0).toNat=j
   ·obtain ⟨a,ha,rfl⟩:=hc;refine ⟨f a,by have:=C.work.sym ha (f1 a ha);have:=C.work.k;omega,f1 a ha,?_⟩;rintro ⟨b,hb,e,hl⟩;have:=Yb C hb ha e;subst this;exact (L hb (f1 b hb)).2 ⟨f,f1,f2,rfl⟩ hl
   ·obtain ⟨s,s1,s2⟩:=(JI ((C.sm j hj).in64 (yO C.work.k (by decide)))).1 (J1.1 hd j hj);exact ⟨s,s1,s2,fun ⟨a,ha,e,_⟩=>hc ⟨a,ha,e⟩⟩
end
end Go.Proofs.YtgkhhfnhacibcaaGreatDoor
namespace Go.Proofs.YtgkhhfnhacibcaaGreatDoor
open Go.RowKit
def BG {T R:Type} (m:Nat -> T -> Option R) (a b:T):Prop:=∃ N S,∀ n,N<=n -> m (n+S) a=m n b
section
variable {T R:Type} {m:Nat -> T -> Option R} {a b c:T} {r:R} {Q:R -> Prop}
theorem BG.refl:BG m a a:=⟨0,0,fun _ _=>rfl⟩
theorem BG.one (h: ∀ n,m (n+1) a=m n b):BG m a b:=⟨0,1,fun n _=>h n⟩
theorem BG.oneN (N:Nat) (h: ∀ n,N<=n -> m (n+1) a=m n b):BG m a b:=⟨N,1,h⟩
theorem BG.trans (h:BG m a b) (h2:BG m b c):BG m a c:=by
 obtain ⟨N,S,h⟩:=h;obtain ⟨N2,S2,h2⟩:=h2;exact ⟨max N N2,S2+S,fun n hn=>by rw [←yu,h _ (by omega),h2 _ (by omega)]⟩
theorem BG.ev (h:BG m a b) (h2:Ev (fun n=>m n b) r):Ev (fun n=>m n a) r:=by
 obtain ⟨N,S,h⟩:=h;obtain ⟨M,h2⟩:=h2;refine ⟨max N M+S,fun n hn=>?_⟩;have:=h (n-S) (by omega);rw [show n-S+S=n by omega] at this;exact this.trans (h2 (n-S) (by omega))
theorem BG.pev (h:BG m a b) (h2:Ae (fun n=>m n b) Q):Ae (fun n=>m n a) Q:=by
 obtain ⟨N,S,h⟩:=h;obtain ⟨M,h2⟩:=h2;refine ⟨max N M+S,fun n hn=>?_⟩;have:=h (n-S) (by omega);rw [show n-S+S=n by omega] at this;obtain ⟨r,h3,h4⟩:=h2 (n-S) (by omega);exact ⟨r,this.trans h3,h4⟩
theorem Ev.one (h: ∀ n,m (n+1) a=some r):Ev (fun n=>m n a) r:=⟨1,fun n hn=>by
 obtain ⟨k,rfl⟩: ∃ k,n=k+1:=⟨n-1,by omega⟩;exact h k⟩
theorem Ev.oneN (N:Nat) (h: ∀ n,N<=n -> m (n+1) a=some r):Ev (fun n=>m n a) r:=⟨N+1,fun n hn=>by
 obtain ⟨k,rfl⟩: ∃ k,n=k+1:=⟨n-1,by omega⟩;exact h k (by omega)⟩
end
end Go.Proofs.YtgkhhfnhacibcaaGreatDoor
namespace Go.Proofs.YtgkhhfnhacibcaaGreatDoor
open Go.RowKit
set_option maxRecDepth 100000
set_option maxHeartbeats 40000000
inductive Ud where
 | l1 (x4:Nat) (AV:List Int) (JB AK:Int) (o0:List (List Int))
def Mm (n:Nat) (self:Ud -> Option ((List (List Int))×Int)) (g_:List (List Int)) (AS:List Bool) (x4:Nat) (AV:List Int) (JB AK:Int) (o0:List (List Int)):Option ((List (List Int))×Int):=
 bif (decide (AK<JB)) then
  if 0<=AK/\ AK<(AV.length:Int) then
   bif (decide ((AV.getD ((AK).toNat) 0)>0)) then
    if AH ((AV.getD ((AK).toNat) 0)-1)/\ ((0:Int)<=((AV.getD ((AK).toNat) 0)-1)/\ ((AV.getD ((AK).toNat) 0)-1)<(x4:Int))/\ 0+((((AV.getD ((AK).toNat) 0)-1)).toNat)<o0.length/\ (o0.getD (0+((((AV.getD ((AK).toNat) 0)-1)).toNat)) default).length+([AK]:List Int).length<=As/\ AH (AK+1) then
     self (.l1 x4 AV JB (AK+1) (o0.set (0+((((AV.getD ((AK).toNat) 0)-1)).toNat)) ((o0.getD (0+((((AV.getD ((AK).toNat) 0)-1)).toNat)) default)++([AK]:List Int))))
    else none
   else
    if AH (AK+1) then
     self (.l1 x4 AV JB (AK+1) o0)
    else none
  else none
 else
  if x4=o0.length then
   some (o0,0)
  else none
def wW (n:Nat) (self:Ud -> Option ((List (List Int))×Int)) (g_:List (List Int)) (AS:List Bool):Option ((List (List Int))×Int):=
 (Iy n g_ ([AS]:List (List Bool))).bind fun y1=>
  bif (y1 != 0) then
   some (([]:List (List Int)),y1)
  else
   (parts n g_ AS).bind fun y2=>
    if (y2.2:Int)=y2.2/\ 0<=y2.2/\ (y2.2:Int)<=1000000000000 then
     self (.l1 ((y2.2).toNat) y2.1 (y2.1.length:Int) 0 (List.replicate ((y2.2).toNat) ([]:List Int)))
    else none
def J2 (g_:List (List Int)) (AS:List Bool):Nat -> Ud -> Option ((List (List Int))×Int)
 | 0,_=>none
 | n+1,.l1 x4 AV JB AK o0=>Mm n (J2 g_ AS n) g_ AS x4 AV JB AK o0
def Ue (n:Nat) (g_:List (List Int)) (AS:List Bool):Option ((List (List Int))×Int):=wW n (J2 g_ AS n) g_ AS
def wY (n B:Nat) (N:Yd 0) (g_:List (List Int)) (AS:List Bool) (r:(List (List Int))×Int):Ud -> Prop
 | .l1 x4 AV JB AK o0=>∀ m0:Nat,n<=m0 -> TW B N (FQ Tryz.f116 0 (.tup 2 (L1 [.sl 1 r.1.length (Am Ar r.1),.i r.2])) []) (A2 m0 (BA (AX Tryz.f116) 0 [])) ⟨AM 48 [(4,.msl 0 1 0 x4),(25,.ints AV),(26,.i JB),(27,.i AK)],[some (.mo (.rws o0 none))]⟩
theorem wZ (B:Nat) (N:Yd 0) (g_:List (List Int)) (AS:List Bool):Al (J2 g_ AS) (wY · B N g_ AS):=ia (fun _=>rfl) fun n AG pt r h=>by
 cases pt
 case l1 x4 AV JB AK o0=>
  intro m0 AC;refine rd AC fun m0 AC=>?_
  revert r;apply gO;exact bi 28 (gi (bi 33 (gc (gn fun g1=>jw 36 g1 (jw 39 g1 (gc (gn fun g2=>jg g2 (gc (gn fun g3=>jg g3 (jg (And.intro (Eq.refl 0) (Eq.refl 1)) (jg (by decide:0<1) (jg g3 (gc (gi (jg g2 (jg (Eq.refl (0+((((AV.getD ((AK).toNat) 0)-1)).toNat))) (jg g3 (gw 46 (lG AE [3] (AG _ _ · m0 AC)))))))))))))))))) (gw 46 (lG AE [0] (AG _ _ · m0 AC))))) (gn fun g0=>lF fun p=>ez AE [4,5] [0] p [0] (H0.g g0))
theorem wV {n:Nat} {g_:List (List Int)} {AS:List Bool} {r:(List (List Int))×Int} (h:Ue n g_ AS=some r):EQ 116 [.sl 1 g_.length (Am Ar g_),.bools AS] [] (.tup 2 (L1 [.sl 1 r.1.length (Am Ar r.1),.i r.2])) [] true:=by
 refine ot Tryz.func116 fun B N=>?_
 revert r;apply gO;exact ja 12 0 1 (DN (c:=OS) (L:=([AS]:List (List Bool))) (vals:=[.bools AS]) rfl ⟨⟨_,rfl,⟨AL,trivial⟩⟩,trivial⟩) (jz 12 0 (jg (Eq.refl 1) (cf T3 [none] fun y1=>bi 15 (lF fun p=>el AE [4,5] [] p [] H0 [.nils,.i y1] (AT.tupL (l:=[.nils,.i y1]) (l':=[.sl 1 (([]:List (List Int)).length) (Am Ar ([]:List (List Int))),.i y1]) rfl ⟨(AT.sl_nil _ _),AL,trivial⟩)) (cf WB [none] fun _=>gi (jk 24 (lN AE [1] ((wZ B N g_ AS n) _ _ · n Nat.le.refl)))))))
inductive PT where
 | l1 (x6 x23:Int)
 | l2 (x6 x9 x23:Int) (Bq:List Int) (BH Bz:Int)
def Lk (n:Nat) (self:PT -> Option (Bool×Int)) (g_:List (List Int)) (AS:List Bool) (x6 x23:Int):Option (Bool×Int):=
 bif (decide (x23<(g_.length:Int))) then
  if (0<=x23/\ x23<(g_.length:Int))/\ (0<=x23/\ x23<(AS.length:Int)) then
   bif (!(AS.getD ((x23).toNat) false)) then
    if AH (x23+1) then
     self (.l1 x6 (x23+1))
    else none
   else
    if AH (x6+1) then
     self (.l2 (x6+1) 0 x23 (g_.getD ((x23).toNat) []) (((g_.getD ((x23).toNat) []).length:Nat):Int) 0)
    else none
  else none
 else
  (parts n g_ AS).bind fun y1=>
   bif (decide (x6>=3)) then
    some ((y1.2==1),0)
   else
    some (false,0)
def Lj (n:Nat) (self:PT -> Option (Bool×Int)) (g_:List (List Int)) (AS:List Bool) (x6 x9 x23:Int) (Bq:List Int) (BH Bz:Int):Option (Bool×Int):=
 bif (decide (Bz<BH)) then
  if (0<=Bz/\ Bz<(Bq.length:Int))/\ (0<=(Bq.getD ((Bz).toNat) 0)/\ (Bq.getD ((Bz).toNat) 0)<(AS.length:Int)) then
   bif (AS.getD ((Bq.getD ((Bz).toNat) 0).toNat) false) then
    if AH (x9+1)/\ AH (Bz+1) then
     self (.l2 x6 (x9+1) x23 Bq BH (Bz+1))
    else none
   else
    if AH (Bz+1) then
     self (.l2 x6 x9 x23 Bq BH (Bz+1))
    else none
  else none
 else
  bif (x9 != 2) then
   some (false,0)
  else
   if AH (x23+1) then
    self (.l1 x6 (x23+1))
   else none
def me (n:Nat) (self:PT -> Option (Bool×Int)) (g_:List (List Int)) (AS:List Bool):Option (Bool×Int):=
 (Iy n g_ ([AS]:List (List Bool))).bind fun y1=>
  bif (y1 != 0) then
   some (false,y1)
  else
   self (.l1 0 0)
def Ge (g_:List (List Int)) (AS:List Bool):Nat -> PT -> Option (Bool×Int)
 | 0,_=>none
 | n+1,.l1 x6 x23=>Lk n (Ge g_ AS n) g_ AS x6 x23
 | n+1,.l2 x6 x9 x23 Bq BH Bz=>Lj n (Ge g_ AS n) g_ AS x6 x9 x23 Bq BH Bz
def NN (n:Nat) (g_:List (List Int)) (AS:List Bool):Option (Bool×Int):=me n (Ge g_ AS n) g_ AS
def mg (n B:Nat) (N:Yd 0) (g_:List (List Int)) (AS:List Bool) (r:Bool×Int):PT -> Prop
 | .l1 x6 x23=>∀ m0:Nat,n<=m0 -> TW B N (FQ Tryz.f117 0 (.tup 2 (L1 [.bool r.1,.i r.2])) []) (A2 m0 (BA (AX Tryz.f117) 0 [])) ⟨AM 63 [(0,.sl 1 g_.length (Am Ar g_)),(1,.bools AS),(6,.i x6),(21,.sl 1 g_.length (Am Ar g_)),(22,.i (g_.length:Int)),(23,.i x23)],[]⟩
 | .l2 x6 x9 x23 Bq BH Bz=>∀ m0 m1:Nat,n<=m0 -> n<=m1 -> TW B N (FQ Tryz.f117 0 (.tup 2 (L1 [.bool r.1,.i r.2])) []) (A2 m1 (BA (AX Tryz.f117) 2 [m0])) ⟨AM 63 [(0,.sl 1 g_.length (Am Ar g_)),(1,.bools AS),(6,.i x6),(9,.i x9),(21,.sl 1 g_.length (Am Ar g_)),(22,.i (g_.length:Int)),(23,.i x23),(35,.ints Bq),(36,.i BH),(37,.i Bz)],[]⟩
theorem mh (B:Nat) (N:Yd 0) (g_:List (List Int)) (AS:List Bool):Al (Ge g_ AS) (mg · B N g_ AS):=ia (fun _=>rfl) fun n AG pt r h=>by
 cases pt
 case l1 x6 x23=>
  intro m0 AC;refine rd AC fun m0 AC=>?_
  revert r;apply gO;exact bi 24 (gc (gi (gi (bi 32 (gw 50 (lG AE [] (AG _ _ · m0 AC))) (gw 34 (lN AE [] (AG _ _ · m0 n AC Nat.le.refl))))))) (cf WB [] fun _=>bi 58 (lE AE [4,5] []) (lE AE [4,5] []))
 case l2 x6 x9 x23 Bq BH Bz=>
  intro m0 m1 AC Ap;have AC:=zA AC;refine rd Ap fun m1 Ap=>?_
  revert r;apply gO;exact bi 38 (gc (gi (gi (bi 44 (gc (gw 46 (gw 47 (lG AE [] (AG _ _ · m0 m1 AC Ap))))) (gw 47 (lG AE [] (AG _ _ · m0 m1 AC Ap))))))) (bi 49 (lE AE [4,5] []) (gw 50 (lG AE [] (AG _ _ · m0 AC))))
theorem md {n:Nat} {g_:List (List Int)} {AS:List Bool} {r:Bool×Int} (h:NN n g_ AS=some r):EQ 117 [.sl 1 g_.length (Am Ar g_),.bools AS] [] (.tup 2 (L1 [.bool r.1,.i r.2])) [] true:=by
 refine ot Tryz.func117 fun B N=>?_
 revert r;apply gO;exact ja 16 0 1 (DN (c:=OS) (L:=([AS]:List (List Bool))) (vals:=[.bools AS]) rfl ⟨⟨_,rfl,⟨AL,trivial⟩⟩,trivial⟩) (jz 16 0 (jg (Eq.refl 1) (cf T3 [none] fun _=>bi 19 (lE AE [4,5] []) (lN AE [] ((mh B N g_ AS n) _ _ · n Nat.le.refl)))))
def dR (n:Nat) (AZ KL:Int):Option Bool:=
 if 0<=KL/\ KL<=(IntKind.i64.bits:Int) then
  some ((bits .and .i64 (AZ/2 ^ (KL).toNat) 1)==1)
 else none
def Gp (n:Nat) (AZ KL:Int):Option Bool:=dR n AZ KL
theorem Io {n:Nat} {AZ KL:Int} {r:Bool} (h:Gp n AZ KL=some r):EQ 89 [.i AZ,.i KL] [] (.bool r) [] true:=by
 refine ot Tryz.func89 fun B N=>?_
 revert r;apply gO;exact gi (lE AE [4] [])
def lr (n:Nat) (AJ cells:List Int) (AZ:Int):Option Unit:=
 some ()
def lv (n:Nat) (AJ cells:List Int) (AZ:Int):Option Unit:=lr n AJ cells AZ
theorem lq {n:Nat} (AJ cells:List Int) (AZ:Int) {r:Unit} (h:lv n AJ cells AZ=some r):EQ 87 [.ints AJ,.ints cells,.i AZ] [] (.fn 114 3 (L1 [.ref 0 0,.ref 1 0,.ref 2 0])) [some (.cells [.ints cells]),some (.cells [.i AZ]),some (.cells [.ints AJ])] true:=by
 refine ot Tryz.func87 fun B N=>?_
 revert r;apply gO;exact lE AE [6] [1,2,0]
theorem kT:Ay (BC Tryz.f114 4) [([0,1,2,3,4],5)] [] []:=by unfold Ay;kernel_rfl
def JN:Bb:=fun i=>match i with
 | 4=>.ord [([0,1,2,3,4],5)] [] []
 | _=>.no
inductive NI where
 | l1 (x5 AW:Int)
def Lh (n:Nat) (self:NI -> Option (List Int)) (AR:List Int) (AZ:Int) (AJ:List Int) (x5 AW:Int):Option (List Int):=
 bif (decide (AW<(AR.length:Int))) then
  if (0<=AW/\ AW<(AR.length:Int))/\ (0<=(AR.getD ((AW).toNat) 0)/\ (AR.getD ((AW).toNat) 0)<(AJ.length:Int)) then
   (Gp n AZ (AJ.getD ((AR.getD ((AW).toNat) 0).toNat) 0)).bind fun y1=>
    bif y1 then
     if AH (x5+1)/\ AH (AW+1) then
      self (.l1 (x5+1) (AW+1))
     else none
    else
     bif (decide (x5>0)) then
      bif (decide (x5>0)) then
       Option.map (fun l=>x5::l) (
        if AH (AW+1) then
         self (.l1 0 (AW+1))
        else none)
      else
       if AH (AW+1) then
        self (.l1 0 (AW+1))
       else none
     else
      if AH (AW+1) then
       self (.l1 0 (AW+1))
      else none
  else none
 else
  bif (decide (x5>0)) then
   Option.map (fun l=>x5::l) (some [])
  else
   some []
def ae (n:Nat) (self:NI -> Option (List Int)) (AR:List Int) (AZ:Int) (AJ:List Int):Option (List Int):=
 self (.l1 0 0)
def GE (AR:List Int) (AZ:Int) (AJ:List Int):Nat -> NI -> Option (List Int)
 | 0,_=>none
 | n+1,.l1 x5 AW=>Lh n (GE AR AZ AJ n) AR AZ AJ x5 AW
def NJ (n:Nat) (AR:List Int) (AZ:Int) (AJ:List Int):Option (List Int):=ae n (GE AR AZ AJ n) AR AZ AJ
def Vg (C:CW Tryz.prog GG) (n:Nat) (AR:List Int) (AZ:Int) (AJ:List Int) (r:List Int):NI -> Prop
 | .l1 x5 AW=>∀ m0:Nat,n<=m0 -> ∀ i:Nat,i<=C.encs.length -> C.encs.drop i=r.map BK -> Az Tryz.prog GG Fence.wide none 3 (C.Y 3 i) (C.Q 3) (A2 m0 (BA (AX Tryz.f114) 0 [])) ⟨AM 36 [(0,.yl C.l),(2,.ref 1 0),(3,.ref 2 0),(5,.i x5),(8,.ints AR),(9,.i (AR.length:Int)),(10,.i AW)],[some (.cells [.ints AR]),some (.cells [.i AZ]),some (.cells [.ints AJ])]⟩
theorem lw (C:CW Tryz.prog GG) (n:Nat) (self:NI -> Option (List Int)) (AR:List Int) (AZ:Int) (AJ:List Int) (AG: ∀ pt r,self pt=some r -> Vg C n AR AZ AJ r pt) (x5 AW:Int) (r:List Int) (h:Lh n self AR AZ AJ x5 AW=some r):Vg C (n+1) AR AZ AJ r (.l1 x5 AW):=by
 intro m0 AC;intro i hi hd;refine rd AC fun m0 AC=>?_
 unfold Lh at h;have p:=H0;rcases E1 h with ⟨c0,h⟩ | ⟨c0,h⟩
 ·obtain ⟨⟨g0,g1⟩,h⟩:=Cx h;obtain ⟨y1,A7,h⟩:=Yf h;have p:=H0.b 11 c0 |>.g g0 |>.g kT |>.g g1 |>.c (fb (Io A7) [some (.cells [.ints AR]),some (.cells [.i AZ]),some (.cells [.ints AJ])])
  rcases E1 h with ⟨c1,h⟩ | ⟨c1,h⟩
  ·obtain ⟨⟨g2,g3⟩,h⟩:=Cx h;have p:=p.b 19 c1 |>.w 21 g2 |>.w 30 g3
   exact gg JN [0,1,2] p (AG _ _ h m0 AC i hi hd)
  ·have p:=p.b 19 c1;rcases E1 h with ⟨c2,h⟩ | ⟨c2,h⟩
   ·refine gs (AI 6 JN) [0,1,2] p (CP (AX Tryz.f114) 6 [m0]) (AM 36 [(0,.yl C.l),(2,.ref 1 0),(3,.ref 2 0),(5,.i x5),(8,.ints AR),(9,.i (AR.length:Int)),(10,.i AW)]) [some (.cells [.ints AR]),some (.cells [.i AZ]),some (.cells [.ints AJ])] ?_;have p:=H0;rcases E1 h with ⟨c0,h⟩ | ⟨c0,h⟩
    ·have p:=H0.b 23 c0;obtain ⟨r,h2,rfl⟩:=P0 h;clear h;have h:=h2;clear h2;obtain ⟨hx,hi,hd⟩:=Qy hd;refine Az.y (ops:=BC Tryz.f114 6) HC.x 5 [0,2,3,8,9,10,29] [0,1,2] p (x:=BK x5) (AM 36 [(0,.yl C.l),(2,.ref 1 0),(3,.ref 2 0),(8,.ints AR),(9,.i (AR.length:Int)),(10,.i AW),(29,.bool false)]) [some (.cells [.ints AR]),some (.cells [.i AZ]),some (.cells [.ints AJ])] (AM 36 [(0,.yl C.l),(2,.ref 1 0),(3,.ref 2 0),(8,.ints AR),(9,.i (AR.length:Int)),(10,.i AW),(29,.bool true)]) [some (.cells [.ints AR]),some (.cells [.i AZ]),some (.cells [.ints AJ])] (by kernel_rfl) (by kernel_rfl) (by kernel_rfl) hx (by kernel_rfl) ?_ ?_
     ·generalize i+1=i at hi hd ⊢
      obtain ⟨g2,h⟩:=Cx h;have p:=H0.w 30 g2;exact gg JN [0,1,2] p (AG _ _ h m0 AC i hi hd)
     ·exact TrI.e HC.x JN 6 H0 (by kernel_rfl) (.inr rfl)
    ·obtain ⟨g2,h⟩:=Cx h;have p:=H0.b 23 c0 |>.w 30 g2
     exact gg JN [0,1,2] p (AG _ _ h m0 AC i hi hd)
   ·obtain ⟨g2,h⟩:=Cx h;have p:=p.b 23 c2 |>.w 30 g2
    exact gg JN [0,1,2] p (AG _ _ h m0 AC i hi hd)
 ·have p:=H0.b 11 c0;rcases E1 h with ⟨c1,h⟩ | ⟨c1,h⟩
  ·have p:=p.b 32 c1;refine gs (AI 10 JN) [0,1,2] p (CP (AX Tryz.f114) 10 []) (AM 36 [(0,.yl C.l),(5,.i x5)]) [some (.cells [.ints AR]),some (.cells [.i AZ]),some (.cells [.ints AJ])] ?_;have p:=H0;obtain ⟨r,h2,rfl⟩:=P0 h;cases h2;obtain ⟨hx,hi,hd⟩:=Qy hd;exact Az.yE (ops:=BC Tryz.f114 10) HC.x 2 p (x:=BK x5) (by kernel_rfl) (by kernel_rfl) (by kernel_rfl) hx (Mk hi hd)
  ·have p:=p.b 32 c1;cases h;exact TrI.e HC.x JN 14 p (by kernel_rfl) (.inl (by rw [Mk hi hd]))
theorem af (C:CW Tryz.prog GG) (AR:List Int) (AZ:Int) (AJ:List Int): ∀ (n:Nat) (pt:NI) (r:List Int),GE AR AZ AJ n pt=some r -> Vg C n AR AZ AJ r pt
 | 0,_,_,h=>by cases h
 | n+1,.l1 x5 AW,r,h=>lw C n (GE AR AZ AJ n) AR AZ AJ (af C AR AZ AJ n) x5 AW r h
theorem lx {n:Nat} (AR:List Int) (AZ:Int) (AJ:List Int) {r:List Int} (h:NJ n AR AZ AJ=some r) (C:CW Tryz.prog GG) (hC:C.encs=r.map BK):Az Tryz.prog GG Fence.wide none 3 (C.Y 3 0) (C.Q 3) [.code (AX Tryz.f114)] ⟨AM 36 [(0,.yl C.l),(1,.ref 0 0),(2,.ref 1 0),(3,.ref 2 0)],[some (.cells [.ints AR]),some (.cells [.i AZ]),some (.cells [.ints AJ])]⟩:=by
 suffices H: ∀ i:Nat,i<=C.encs.length -> C.encs.drop i=r.map BK -> Az Tryz.prog GG Fence.wide none 3 (C.Y 3 i) (C.Q 3) [.code (AX Tryz.f114)] ⟨AM 36 [(0,.yl C.l),(1,.ref 0 0),(2,.ref 1 0),(3,.ref 2 0)],[some (.cells [.ints AR]),some (.cells [.i AZ]),some (.cells [.ints AJ])]⟩ from H 0 (zU _) (by rw [zAc];exact hC)
 intro i hi hd;have AG:=af C AR AZ AJ n;unfold NJ at h
 generalize GE AR AZ AJ n=self at h AG
 unfold ae at h;have p:=H0;exact gg JN [0,1,2] p (en n (AG _ _ h n Nat.le.refl i hi hd))
theorem lu {n:Nat} {AJ:List Int} {cells:List Int} {AZ:Int} {r:List Int} (h:NJ n cells AZ AJ=some r) (H:DH):EQ 87 [.ints AJ,.ints cells,.i AZ] H (.it H.length) (H++[some (.iter (r.map BK))]) true:=by
 refine ES.iterN (c:=L1 [.ref 0 0,.ref 1 0,.ref 2 0]) (h0:=[some (.cells [.ints cells]),some (.cells [.i AZ]),some (.cells [.ints AJ])]) (fn:=Tryz.f114) (lq (n:=0) AJ cells AZ (r:=()) rfl) (by kernel_rfl) Tryz.func114 (by kernel_rfl) (by kernel_rfl) (by kernel_rfl) (fun C hC=>?_) H;have e:DV.yl C.l::(List.range 3).map (L1 [.ref 0 0,.ref 1 0,.ref 2 0])++List.replicate (Tryz.f114.ntmps-(3+1)) .any=AM 36 [(0,.yl C.l),(1,.ref 0 0),(2,.ref 1 0),(3,.ref 2 0)]:=by kernel_rfl
 rw [e];exact lx cells AZ AJ h C hC
inductive J5 where
 | s0
 | s1 (ER:Nat) (C9:List Int)
def gy:J5 -> DH
 | .s0=>[none,some (.cells [.nils])]
 | .s1 ER C9=>[none,some (.cells [.msl 2 1 0 ER]),some (.ints C9)]
def RO (n:Nat) (e6:Int):Option J5:=
 if (0=0/\ 1=([e6]:List Int).length)/\ 0<([e6]:List Int).length/\ ([e6]:List Int).length<=As then
  some (.s1 (([e6]:List Int).length) ([e6]:List Int))
 else none
def RN (n:Nat) (e6:Int) (ER:Nat) (C9:List Int):Option J5:=
 if (0=0/\ 1=([e6]:List Int).length)/\ (0=0/\ ER=C9.length)/\ C9.length+([e6]:List Int).length<=As then
  some (.s1 (C9.length+([e6]:List Int).length) (C9++([e6]:List Int)))
 else none
def xQ (n:Nat) (e6:Int):J5 -> Option J5
 | .s0=>RO n e6
 | .s1 ER C9=>RN n e6 ER C9
def Ur (n:Nat) (e6:Int) (s:J5):Option J5:=xQ n e6 s
theorem xP (n:Nat) (l B:Nat) (N:Yd 2) (e6:Int) (s:J5) (r:J5) (h:Ur n e6 s=some r):TA l B N (Cg 2 [] 0 (gy r)) Tryz.f113 6 ⟨AM 13 [(2,.ref 1 0),(6,.it 0),(7,.i e6)],gy s⟩:=by
 cases s with
 | s0=>
  replace h:RO n e6=some r:=h;unfold RO at h;refine ag AE [0,1] H0 (AM 13 [(2,.ref 1 0),(5,.i e6)]) [none,some (.cells [.nils])] fun N=>?_
  revert r;apply gO;exact gi (jt (lF fun p=>rr AE [0,1,3] rfl p))
 | s1 ER C9=>
  replace h:RN n e6 ER C9=some r:=h;unfold RN at h;refine ag AE [0,1,2] H0 (AM 13 [(2,.ref 1 0),(5,.i e6)]) [none,some (.cells [.msl 2 1 0 ER]),some (.ints C9)] fun N=>?_
  revert r;apply gO;exact gi (jt (lF fun p=>rr AE [0,1,4] rfl p))
def Yv (n:Nat) (l:List Int):Option ((List Int)):=
 (Bn (Ur n) l (.s0)).bind fun y1=>
  match y1 with
  | .s0=>
   some ([]:List Int)
  | .s1 I9 I8=>
   if I9=I8.length then
    some I8
   else none
def Us (n:Nat) (l:List Int):Option ((List Int)):=Yv n l
theorem xO {n:Nat} {l:List Int} {r:(List Int)} (h:Us n l=some r):EQ 113 [.nils,.it 0] [some (.iter ((l).map BK))] (.ints r) [none] false:=by
 unfold Us Yv at h;refine ot Tryz.func113 fun B N=>?_
 revert r;apply gO
 exact cn fun y1 A7=>fun p r h=>by
  refine gs AE [0,1] p (FK (AX Tryz.f113) 6 []) (AM 13 [(2,.ref 1 0),(6,.it 0)]) [some (.iter ((l).map BK)),some (.cells [.nils])] ?_;refine r0 0 6 #[7] BK 2 A7 (xP n) ?_;cases y1 with
  | s0=>
   dsimp only at h
   revert r;apply gO;exact lF fun p=>el AE [4] [0] p [] H0 [.nils] AT.ints_nil
  | s1 I9 I8=>
   dsimp only at h
   revert r;apply gO;exact gn fun g0=>lF fun p=>ez AE [4] [0,2] p [1] (H0.g g0)
def YW (n:Nat) (l:List Int):Option ((List Int)):=
 (Us n l).bind fun y1=>
  some y1
def Mn (n:Nat) (l:List Int):Option ((List Int)):=YW n l
theorem wd {n:Nat} {l:List Int} {r:(List Int)} (h:Mn n l=some r):EQ 86 [.it 0] [some (.iter ((l).map BK))] (.ints r) [none] false:=by
 unfold Mn YW at h;refine ot Tryz.func86 fun B N=>?_
 revert r;apply gO;exact ce xO [0] [some (.iter ((l).map BK))] fun _=>lE AE [2] [0]
inductive UQ where
 | l1 (x5 AW:Int)
def Qz (n:Nat) (self:UQ -> Option Bool) (AJ cells:List Int) (x5 AW:Int):Option Bool:=
 bif (decide (AW<(cells.length:Int))) then
  if (0<=AW/\ AW<(cells.length:Int))/\ (0<=(cells.getD ((AW).toNat) 0)/\ (cells.getD ((AW).toNat) 0)<(AJ.length:Int)) then
   (Gp n x5 (AJ.getD ((cells.getD ((AW).toNat) 0).toNat) 0)).bind fun y1=>
    bif y1 then
     some false
    else
     if (0<=AJ.getD ((cells.getD ((AW).toNat) 0).toNat) 0/\ AJ.getD ((cells.getD ((AW).toNat) 0).toNat) 0<=(IntKind.i64.bits:Int))/\ AH (AW+1) then
      self (.l1 (bits .or .i64 x5 (IntKind.i64.wrap (1*2 ^ (AJ.getD ((cells.getD ((AW).toNat) 0).toNat) 0).toNat))) (AW+1))
     else none
  else none
 else
  some true
def vm (n:Nat) (self:UQ -> Option Bool) (AJ cells:List Int):Option Bool:=
 self (.l1 0 0)
def LE (AJ cells:List Int):Nat -> UQ -> Option Bool
 | 0,_=>none
 | n+1,.l1 x5 AW=>Qz n (LE AJ cells n) AJ cells x5 AW
def UR (n:Nat) (AJ cells:List Int):Option Bool:=vm n (LE AJ cells n) AJ cells
def vn (n B:Nat) (N:Yd 0) (AJ cells:List Int) (r:Bool):UQ -> Prop
 | .l1 x5 AW=>∀ m0:Nat,n<=m0 -> TW B N (FQ Tryz.f82 0 (.bool r) []) (A2 m0 (BA (AX Tryz.f82) 0 [])) ⟨AM 28 [(0,.ints AJ),(5,.i x5),(8,.ints cells),(9,.i (cells.length:Int)),(10,.i AW)],[]⟩
theorem vo (B:Nat) (N:Yd 0) (AJ cells:List Int):Al (LE AJ cells) (vn · B N AJ cells):=ia (fun _=>rfl) fun n AG pt r h=>by
 cases pt
 case l1 x5 AW=>
  intro m0 AC;refine rd AC fun m0 AC=>?_
  revert r;apply gO;exact bi 11 (gc (gi (gn fun g1=>jg g1 (cf Io [] fun _=>bi 19 (lE AE [4] []) (jg g1 (gc (gi (gw 27 (lG AE [] (AG _ _ · m0 AC)))))))))) (lE AE [4] [])
theorem vk {n:Nat} {AJ cells:List Int} {r:Bool} (h:UR n AJ cells=some r):EQ 82 [.ints AJ,.ints cells] [] (.bool r) [] true:=by
 refine ot Tryz.func82 fun B N=>?_
 revert r;apply gO;exact lN AE [] ((vo B N AJ cells n) _ _ · n Nat.le.refl)
inductive UX where
 | l1 (x6 Aj:Int)
def RA (n:Nat) (self:UX -> Option Int) (AJ cells:List Int) (AZ:Int) (x6 Aj:Int):Option Int:=
 bif (decide (Aj<(cells.length:Int))) then
  if (0<=Aj/\ Aj<(cells.length:Int))/\ (0<=(cells.getD ((Aj).toNat) 0)/\ (cells.getD ((Aj).toNat) 0)<(AJ.length:Int)) then
   (Gp n AZ (AJ.getD ((cells.getD ((Aj).toNat) 0).toNat) 0)).bind fun y1=>
    bif y1 then
     if AH (x6+1)/\ AH (Aj+1) then
      self (.l1 (x6+1) (Aj+1))
     else none
    else
     if AH (Aj+1) then
      self (.l1 x6 (Aj+1))
     else none
  else none
 else
  some x6
def wI (n:Nat) (self:UX -> Option Int) (AJ cells:List Int) (AZ:Int):Option Int:=
 self (.l1 0 0)
def OP (AJ cells:List Int) (AZ:Int):Nat -> UX -> Option Int
 | 0,_=>none
 | n+1,.l1 x6 Aj=>RA n (OP AJ cells AZ n) AJ cells AZ x6 Aj
def UY (n:Nat) (AJ cells:List Int) (AZ:Int):Option Int:=wI n (OP AJ cells AZ n) AJ cells AZ
def wJ (n B:Nat) (N:Yd 0) (AJ cells:List Int) (AZ:Int) (r:Int):UX -> Prop
 | .l1 x6 Aj=>∀ m0:Nat,n<=m0 -> TW B N (FQ Tryz.f83 0 (.i r) []) (A2 m0 (BA (AX Tryz.f83) 0 [])) ⟨AM 25 [(0,.ints AJ),(2,.i AZ),(6,.i x6),(9,.ints cells),(10,.i (cells.length:Int)),(11,.i Aj)],[]⟩
theorem wK (B:Nat) (N:Yd 0) (AJ cells:List Int) (AZ:Int):Al (OP AJ cells AZ) (wJ · B N AJ cells AZ):=ia (fun _=>rfl) fun n AG pt r h=>by
 cases pt
 case l1 x6 Aj=>
  intro m0 AC;refine rd AC fun m0 AC=>?_
  revert r;apply gO;exact bi 12 (gc (gi (gi (cf Io [] fun _=>bi 20 (gc (gw 22 (gw 23 (lG AE [] (AG _ _ · m0 AC))))) (gw 23 (lG AE [] (AG _ _ · m0 AC))))))) (lE AE [6] [])
theorem wH {n:Nat} {AJ cells:List Int} {AZ:Int} {r:Int} (h:UY n AJ cells AZ=some r):EQ 83 [.ints AJ,.ints cells,.i AZ] [] (.i r) [] true:=by
 refine ot Tryz.func83 fun B N=>?_
 revert r;apply gO;exact lN AE [] ((wK B N AJ cells AZ n) _ _ · n Nat.le.refl)
inductive Rs where
 | l1 (x6 Aj:Int)
def Ov (n:Nat) (self:Rs -> Option Int) (values AJ cells:List Int) (x6 Aj:Int):Option Int:=
 bif (decide (Aj<(cells.length:Int))) then
  if (0<=Aj/\ Aj<(cells.length:Int))/\ (0<=(cells.getD ((Aj).toNat) 0)/\ (cells.getD ((Aj).toNat) 0)<(AJ.length:Int))/\ (0<=(AJ.getD ((cells.getD ((Aj).toNat) 0).toNat) 0)/\ (AJ.getD ((cells.getD ((Aj).toNat) 0).toNat) 0)<(values.length:Int))/\ AH (x6+(values.getD ((AJ.getD ((cells.getD ((Aj).toNat) 0).toNat) 0).toNat) 0))/\ AH (Aj+1) then
   self (.l1 (x6+(values.getD ((AJ.getD ((cells.getD ((Aj).toNat) 0).toNat) 0).toNat) 0)) (Aj+1))
  else none
 else
  some x6
def jO (n:Nat) (self:Rs -> Option Int) (values AJ cells:List Int):Option Int:=
 self (.l1 0 0)
def NE (values AJ cells:List Int):Nat -> Rs -> Option Int
 | 0,_=>none
 | n+1,.l1 x6 Aj=>Ov n (NE values AJ cells n) values AJ cells x6 Aj
def Rt (n:Nat) (values AJ cells:List Int):Option Int:=jO n (NE values AJ cells n) values AJ cells
def jP (n B:Nat) (N:Yd 0) (values AJ cells:List Int) (r:Int):Rs -> Prop
 | .l1 x6 Aj=>∀ m0:Nat,n<=m0 -> TW B N (FQ Tryz.f84 0 (.i r) []) (A2 m0 (BA (AX Tryz.f84) 0 [])) ⟨AM 26 [(0,.ints values),(1,.ints AJ),(6,.i x6),(9,.ints cells),(10,.i (cells.length:Int)),(11,.i Aj)],[]⟩
theorem jQ (B:Nat) (N:Yd 0) (values AJ cells:List Int):Al (NE values AJ cells) (jP · B N values AJ cells):=ia (fun _=>rfl) fun n AG pt r h=>by
 cases pt
 case l1 x6 Aj=>
  intro m0 AC;refine rd AC fun m0 AC=>?_
  revert r;apply gO;exact bi 12 (gc (gi (gc (gi (gc (gi (gc (gw 23 (gw 24 (lG AE [] (AG _ _ · m0 AC))))))))))) (lE AE [6] [])
theorem jN {n:Nat} {values AJ cells:List Int} {r:Int} (h:Rt n values AJ cells=some r):EQ 84 [.ints values,.ints AJ,.ints cells] [] (.i r) [] true:=by
 refine ot Tryz.func84 fun B N=>?_
 revert r;apply gO;exact lN AE [] ((jQ B N values AJ cells n) _ _ · n Nat.le.refl)
inductive SO where
 | l1 (x7 A4:Int)
def PS (n:Nat) (self:SO -> Option Bool) (values AJ cells:List Int) (x7 A4:Int):Option Bool:=
 bif (decide (A4<(cells.length:Int))) then
  if (0<=A4/\ A4<(cells.length:Int))/\ (0<=(cells.getD ((A4).toNat) 0)/\ (cells.getD ((A4).toNat) 0)<(AJ.length:Int))/\ (0<=(AJ.getD ((cells.getD ((A4).toNat) 0).toNat) 0)/\ (AJ.getD ((cells.getD ((A4).toNat) 0).toNat) 0)<(values.length:Int)) then
   bif (decide ((values.getD ((AJ.getD ((cells.getD ((A4).toNat) 0).toNat) 0).toNat) 0)<=x7)) then
    some false
   else
    if AH (A4+1) then
     self (.l1 (values.getD ((AJ.getD ((cells.getD ((A4).toNat) 0).toNat) 0).toNat) 0) (A4+1))
    else none
  else none
 else
  some true
def mZ (n:Nat) (self:SO -> Option Bool) (values AJ cells:List Int):Option Bool:=
 self (.l1 (-1) 0)
def Kd (values AJ cells:List Int):Nat -> SO -> Option Bool
 | 0,_=>none
 | n+1,.l1 x7 A4=>PS n (Kd values AJ cells n) values AJ cells x7 A4
def SP (n:Nat) (values AJ cells:List Int):Option Bool:=mZ n (Kd values AJ cells n) values AJ cells
def ma (n B:Nat) (N:Yd 0) (values AJ cells:List Int) (r:Bool):SO -> Prop
 | .l1 x7 A4=>∀ m0:Nat,n<=m0 -> TW B N (FQ Tryz.f85 0 (.bool r) []) (A2 m0 (BA (AX Tryz.f85) 0 [])) ⟨AM 33 [(0,.ints values),(1,.ints AJ),(7,.i x7),(10,.ints cells),(11,.i (cells.length:Int)),(12,.i A4)],[]⟩
theorem mc (B:Nat) (N:Yd 0) (values AJ cells:List Int):Al (Kd values AJ cells) (ma · B N values AJ cells):=ia (fun _=>rfl) fun n AG pt r h=>by
 cases pt
 case l1 x7 A4=>
  intro m0 AC;refine rd AC fun m0 AC=>?_
  revert r;apply gO;exact bi 13 (gc (gi (gc (gn fun g1=>jg g1 (gn fun g2=>jg g2 (bi 24 (lE AE [6] []) (jg g1 (jg g2 (gw 32 (lG AE [] (AG _ _ · m0 AC))))))))))) (lE AE [6] [])
theorem mY {n:Nat} {values AJ cells:List Int} {r:Bool} (h:SP n values AJ cells=some r):EQ 85 [.ints values,.ints AJ,.ints cells] [] (.bool r) [] true:=by
 refine ot Tryz.func85 fun B N=>?_
 revert r;apply gO;exact lN AE [] ((mc B N values AJ cells n) _ _ · n Nat.le.refl)
def iA (n:Nat) (a b_ n_:Int):Option Bool:=
 if AH (a-b_)/\ AH (b_-a) then
  some (decide ((if (b_-a)>(a-b_) then (b_-a) else (a-b_))>=n_))
 else none
def Yy (n:Nat) (a b_ n_:Int):Option Bool:=iA n a b_ n_
theorem xV {n:Nat} {a b_ n_:Int} {r:Bool} (h:Yy n a b_ n_=some r):EQ 88 [.i a,.i b_,.i n_] [] (.bool r) [] true:=by
 refine ot Tryz.func88 fun B N=>?_
 revert r;apply gO;exact gc (gw 9 (gw 12 (lE AE [6] [])))
theorem lB:Ay (BC Tryz.f115 0) [([0,1,2,3,4,5,6],7)] [8] [9]:=by unfold Ay;kernel_rfl
def ju:Bb:=fun i=>match i with
 | 0=>.ord [([0,1,2,3,4,5,6],7)] [8] [9]
 | _=>.no
def cP (n:Nat) (c_ AZ:Int) (AJ:List Int) (ln:Nat) (mk:List Bool):Option ((List Bool)):=
 if 0<=c_/\ c_<(AJ.length:Int) then
  (Gp n AZ (AJ.getD ((c_).toNat) 0)).bind fun y1=>
   if (0<=c_/\ c_<(ln:Int))/\ 0+((c_).toNat)<mk.length then
    some (mk.set (0+((c_).toNat)) y1)
   else none
 else none
def WX (n:Nat) (c_ AZ:Int) (AJ:List Int) (ln:Nat) (mk:List Bool):Option ((List Bool)):=cP n c_ AZ AJ ln mk
theorem ol {n:Nat} {c_ AZ:Int} {AJ:List Int} {ln:Nat} {mk:List Bool} {r:(List Bool)} (h:WX n c_ AZ AJ ln mk=some r):EQ 115 [.i c_,.ref 0 0,.ref 1 0,.ref 2 0] [some (.cells [.i AZ]),some (.cells [.ints AJ]),some (.cells [.msl 3 1 0 ln]),some (.bools mk)] (.tup 0 (fun j=>([]:List DV).getD j .any)) [some (.cells [.i AZ]),some (.cells [.ints AJ]),some (.cells [.msl 3 1 0 ln]),some (.bools r)] false:=by
 refine ot Tryz.func115 fun B N=>?_
 revert r;apply gO;exact jg lB (gi (cf Io [some (.cells [.i AZ]),some (.cells [.ints AJ]),some (.cells [.msl 3 1 0 ln]),some (.bools mk)] fun _=>gc (gi (gi (lE ju [] [0,1,2,3])))))
inductive TO where
 | l1 (AV:Int) (o1:List Bool)
def QI (n:Nat) (self:TO -> Option Bool) (Dn:List (List Int)) (AJ cells:List Int) (AZ:Int) (loop:Bool) (AV:Int) (o1:List Bool):Option Bool:=
 bif (decide (AV<(cells.length:Int))) then
  if 0<=AV/\ AV<(cells.length:Int) then
   (WX n (cells.getD ((AV).toNat) 0) AZ AJ AJ.length o1).bind fun y1=>
    if AH (AV+1) then
     self (.l1 (AV+1) y1)
    else none
  else none
 else
  if AJ.length=o1.length then
   (Ue n Dn o1).bind fun y1=>
    bif (!loop) then
     some (decide ((y1.1.length:Int)<=1))
    else
     bif ((y1.1.length:Int)==0) then
      some (decide ((y1.1.length:Int)<=1))
     else
      (NN n Dn o1).bind fun y2=>
       some y2.1
  else none
def dF (n:Nat) (self:TO -> Option Bool) (Dn:List (List Int)) (AJ cells:List Int) (AZ:Int) (loop:Bool):Option Bool:=
 if ((AJ.length:Int):Int)=(AJ.length:Int)/\ 0<=(AJ.length:Int)/\ ((AJ.length:Int):Int)<=1000000000000 then
  self (.l1 0 (List.replicate AJ.length false))
 else none
def Nh (Dn:List (List Int)) (AJ cells:List Int) (AZ:Int) (loop:Bool):Nat -> TO -> Option Bool
 | 0,_=>none
 | n+1,.l1 AV o1=>QI n (Nh Dn AJ cells AZ loop n) Dn AJ cells AZ loop AV o1
def Ni (n:Nat) (Dn:List (List Int)) (AJ cells:List Int) (AZ:Int) (loop:Bool):Option Bool:=dF n (Nh Dn AJ cells AZ loop n) Dn AJ cells AZ loop
def qQ (n B:Nat) (N:Yd 0) (Dn:List (List Int)) (AJ cells:List Int) (AZ:Int) (loop:Bool) (r:Bool):TO -> Prop
 | .l1 AV o1=>∀ m0:Nat,n<=m0 -> TW B N (FQ Tryz.f90 0 (.bool r) []) (A2 m0 (BA (AX Tryz.f90) 0 [])) ⟨AM 56 [(0,.sl 1 Dn.length (Am Ar Dn)),(4,.bool loop),(11,.ref 0 0),(12,.fn 115 3 (L1 [.ref 2 0,.ref 3 0,.ref 0 0])),(23,.ints cells),(24,.i (cells.length:Int)),(25,.i AV)],[some (.cells [.msl 1 1 0 AJ.length]),some (.bools o1),some (.cells [.i AZ]),some (.cells [.ints AJ])]⟩
theorem qR (B:Nat) (N:Yd 0) (Dn:List (List Int)) (AJ cells:List Int) (AZ:Int) (loop:Bool):Al (Nh Dn AJ cells AZ loop) (qQ · B N Dn AJ cells AZ loop):=ia (fun _=>rfl) fun n AG pt r h=>by
 cases pt
 case l1 AV o1=>
  intro m0 AC;refine rd AC fun m0 AC=>?_
  revert r;apply gO
  exact bi 26 (gi (ce ol [2,3,0,1] [some (.cells [.msl 1 1 0 AJ.length]),some (.bools o1),some (.cells [.i AZ]),some (.cells [.ints AJ])] fun _=>gw 32 (lG AE [0,1,2,3] (AG _ _ · m0 AC)))) (gn fun g0=>fun p r h=>by
   refine gz (AI 8 AE) [0,1] p [1] (H0.g g0) (CP (AX Tryz.f90) 8 []) (AM 56 [(0,.sl 1 Dn.length (Am Ar Dn)),(4,.bool loop),(11,.ref 0 0)]) [some (.cells [.bools o1]),none] ?_;revert r;apply gO;exact cf wV [some (.cells [.bools o1]),none] fun _=>bi 40 (lE AE [10] []) (bi 44 (lE AE [10] []) (cf md [some (.cells [.bools o1]),none] fun _=>lE AE [10] [])))
theorem qP {n:Nat} {Dn:List (List Int)} {AJ cells:List Int} {AZ:Int} {loop:Bool} {r:Bool} (h:Ni n Dn AJ cells AZ loop=some r):EQ 90 [.sl 1 Dn.length (Am Ar Dn),.ints AJ,.ints cells,.i AZ,.bool loop] [] (.bool r) [] true:=by
 refine ot Tryz.func90 fun B N=>?_
 revert r;apply gO;exact gi (jt (lN AE [3,2,1,0] ((qR B N Dn AJ cells AZ loop n) _ _ · n Nat.le.refl)))
def Yh (n:Nat) (v:Int) (c:AB):Option Bool:=
 bif (decide (c.lo<=v)) then
  some (decide (v<=c.hi))
 else
  some false
def Ms (n:Nat) (v:Int) (c:AB):Option Bool:=Yh n v c
theorem gQ {n:Nat} {v:Int} {c:AB} {r:Bool} (h:Ms n v c=some r):EQ 81 [.i v,.fp 9 (L1 (AF c))] [] (.bool r) [] true:=by
 refine ot Tryz.func81 fun B N=>?_
 revert r;apply gO;exact bi 7 (lE AE [3] []) (lE AE [3] [])
theorem lA:Ay (BC Tryz.f58 12) [([0,1,2,3,4,7,8],5),([],6),([],9)] [10] []:=by unfold Ay;kernel_rfl
theorem k9:Ay (BC Tryz.f58 14) [([0,1,2,3,4,5,6,7,8,9,10,11,12,13,14,15,16,17,18,19,20,21,22,23],24)] [25] []:=by unfold Ay;kernel_rfl
theorem k8:Ay (BC Tryz.f58 16) [] (List.range 16) []:=by unfold Ay;kernel_rfl
def KX:Bb:=fun i=>match i with
 | 12=>.ord [([0,1,2,3,4,7,8],5),([],6),([],9)] [10] []
 | 14=>.ord [([0,1,2,3,4,5,6,7,8,9,10,11,12,13,14,15,16,17,18,19,20,21,22,23],24)] [25] []
 | 16=>.ord [] (List.range 16) []
 | _=>.no
def Il (n:Nat) (q:AA) (c_:AB) (AJ:List Int):Option Bool:=
 bif (c_.kind==1) then
  (UR n AJ c_.cells).bind fun y1=>
   some y1
 else
  bif (c_.kind==2) then
   (UY n AJ c_.cells c_.set).bind fun y1=>
    (Ms n y1 c_).bind fun y2=>
     some y2
  else
   bif (c_.kind==3) then
    (Rt n q.values AJ c_.cells).bind fun y1=>
     (Ms n y1 c_).bind fun y2=>
      some y2
   else
    bif (c_.kind==4) then
     (SP n q.values AJ c_.cells).bind fun y1=>
      some y1
    else
     bif (c_.kind==5) then
      (NJ n c_.cells c_.set AJ).bind fun y1=>
       (Mn n y1).bind fun y2=>
        (Qt n y2 c_.runs).bind fun y3=>
         some y3
     else
      bif (c_.kind==6) then
       if ((0:Int)<=0/\ 0<(c_.cells.length:Int))/\ (0<=(c_.cells.getD 0 0)/\ (c_.cells.getD 0 0)<(AJ.length:Int))/\ (0<=(AJ.getD ((c_.cells.getD 0 0).toNat) 0)/\ (AJ.getD ((c_.cells.getD 0 0).toNat) 0)<(q.values.length:Int))/\ ((0:Int)<=1/\ 1<(c_.cells.length:Int))/\ (0<=(c_.cells.getD 1 0)/\ (c_.cells.getD 1 0)<(AJ.length:Int))/\ (0<=(AJ.getD ((c_.cells.getD 1 0).toNat) 0)/\ (AJ.getD ((c_.cells.getD 1 0).toNat) 0)<(q.values.length:Int)) then
        (Yy n (q.values.getD ((AJ.getD ((c_.cells.getD 0 0).toNat) 0).toNat) 0) (q.values.getD ((AJ.getD ((c_.cells.getD 1 0).toNat) 0).toNat) 0) c_.lo).bind fun y1=>
         some y1
       else none
      else
       bif (c_.kind==7) then
        if ((0:Int)<=0/\ 0<(c_.cells.length:Int))/\ (0<=(c_.cells.getD 0 0)/\ (c_.cells.getD 0 0)<(AJ.length:Int))/\ ((0:Int)<=1/\ 1<(c_.cells.length:Int))/\ (0<=(c_.cells.getD 1 0)/\ (c_.cells.getD 1 0)<(AJ.length:Int)) then
         (Gp n c_.set (AJ.getD ((c_.cells.getD 0 0).toNat) 0)).bind fun y1=>
          bif y1 then
           (Gp n c_.other (AJ.getD ((c_.cells.getD 1 0).toNat) 0)).bind fun y2=>
            bif y2 then
             some false
            else
             (Gp n c_.set (AJ.getD ((c_.cells.getD 1 0).toNat) 0)).bind fun y3=>
              bif y3 then
               (Gp n c_.other (AJ.getD ((c_.cells.getD 0 0).toNat) 0)).bind fun y4=>
                some (!y4)
              else
               some true
          else
           (Gp n c_.set (AJ.getD ((c_.cells.getD 1 0).toNat) 0)).bind fun y2=>
            bif y2 then
             (Gp n c_.other (AJ.getD ((c_.cells.getD 0 0).toNat) 0)).bind fun y3=>
              some (!y3)
            else
             some true
        else none
       else
        (Ni n q.nbrs AJ c_.cells c_.set (c_.kind==9)).bind fun y1=>
         some y1
def FY (n:Nat) (q:AA) (c_:AB) (AJ:List Int):Option Bool:=Il n q c_ AJ
theorem oh {n:Nat} {q:AA} {c_:AB} {AJ:List Int} {r:Bool} (h:FY n q c_ AJ=some r):EQ 58 [.agg 5 (L1 (AD q)),.agg 9 (L1 (AF c_)),.ints AJ] [] (.bool r) [] true:=by
 refine ot Tryz.func58 fun B N=>?_
 revert r;apply gO;exact bi 14 (cf vk [some (.cells (AD q)),some (.cells (AF c_))] fun _=>lE AE [6] []) (bi 20 (cf wH [some (.cells (AD q)),some (.cells (AF c_))] fun y1=>cn fun y2 Bu=>jc (sb [.i y1,.ref 1 0] (gQ Bu) [some (.cells (AD q)),some (.cells (AF c_))] ⟨Ab.plain (by kernel_rfl),(Ab.refL (l:=(AF c_)) (l0:=(AF c_)) rfl ⟨Ab.plain (by kernel_rfl),Ab.plain (by kernel_rfl),Ab.plain (by kernel_rfl),Ab.plain (by kernel_rfl),Ab.plain (by kernel_rfl),Ab.plain (by kernel_rfl),Ab.plain (by kernel_rfl),Ab.plain (by kernel_rfl),Ab.plain (by kernel_rfl),trivial⟩),trivial⟩) (lE AE [6] [])) (bi 30 (cf jN [some (.cells (AD q)),some (.cells (AF c_))] fun y1=>cn fun y2 Bu=>jc (sb [.i y1,.ref 1 0] (gQ Bu) [some (.cells (AD q)),some (.cells (AF c_))] ⟨Ab.plain (by kernel_rfl),(Ab.refL (l:=(AF c_)) (l0:=(AF c_)) rfl ⟨Ab.plain (by kernel_rfl),Ab.plain (by kernel_rfl),Ab.plain (by kernel_rfl),Ab.plain (by kernel_rfl),Ab.plain (by kernel_rfl),Ab.plain (by kernel_rfl),Ab.plain (by kernel_rfl),Ab.plain (by kernel_rfl),Ab.plain (by kernel_rfl),trivial⟩),trivial⟩) (lE AE [6] [])) (bi 40 (cf mY [some (.cells (AD q)),some (.cells (AF c_))] fun _=>lE AE [6] []) (bi 48 (jg lA (cn fun y1 A7=>jc (lu A7 [some (.cells (AD q)),some (.cells (AF c_))]) (cn fun y2 Bu=>jq (eu (wd Bu) [2] [some (.cells (AD q)),some (.cells (AF c_)),some (.iter ((y1).map BK))] 2) (cf vW [some (.cells (AD q)),some (.cells (AF c_)),none] fun _=>lE KX [6] [])))) (bi 60 (jg k9 (gc (gi (gc (gi (gc (gi (gc (gi (gc (gi (gi (cf xV [some (.cells (AD q)),some (.cells (AF c_))] fun _=>lE KX [6] []))))))))))))) (bi 87 (jg k8 (gc (gi (gc (gi (gc (gi (gi (cf Io [some (.cells (AD q)),some (.cells (AF c_))] fun _=>bi 105 (cf Io [some (.cells (AD q)),some (.cells (AF c_))] fun _=>bi 110 (lE KX [6] []) (cf Io [some (.cells (AD q)),some (.cells (AF c_))] fun _=>bi 116 (cf Io [some (.cells (AD q)),some (.cells (AF c_))] fun _=>lE KX [6] []) (lE KX [6] []))) (cf Io [some (.cells (AD q)),some (.cells (AF c_))] fun _=>bi 116 (cf Io [some (.cells (AD q)),some (.cells (AF c_))] fun _=>lE KX [6] []) (lE KX [6] []))))))))))) (cf qP [some (.cells (AD q)),some (.cells (AF c_))] fun _=>lE KX [6] [])))))))
def ZP (n:Nat) (v Ag:Int):Option Bool:=
 bif (decide (v<0)) then
  some true
 else
  some (decide (v>=Ag))
def Rg (n:Nat) (v Ag:Int):Option Bool:=ZP n v Ag
theorem il {n:Nat} {v Ag:Int} {r:Bool} (h:Rg n v Ag=some r):EQ 112 [.i v,.fp 1 (L1 [.i Ag])] [] (.bool r) [] true:=by
 refine ot Tryz.func112 fun B N=>?_
 revert r;apply gO;exact bi 5 (lE AE [3] []) (lE AE [3] [])
inductive TV where
 | l1 (x8:Int)
def QN (n:Nat) (self:TV -> Option Int) (l:List Int) (Ag:Int) (x8:Int):Option Int:=
 bif (decide (x8<(l.length:Int))) then
  if 0<=x8/\ x8<(l.length:Int) then
   (Rg n (l.getD ((x8).toNat) 0) Ag).bind fun y1=>
    bif y1 then
     some x8
    else
     if AH (x8+1) then
      self (.l1 (x8+1))
     else none
  else none
 else
  some (-1)
def qb (n:Nat) (self:TV -> Option Int) (l:List Int) (Ag:Int):Option Int:=
 self (.l1 0)
def Kq (l:List Int) (Ag:Int):Nat -> TV -> Option Int
 | 0,_=>none
 | n+1,.l1 x8=>QN n (Kq l Ag n) l Ag x8
def dN (n:Nat) (l:List Int) (Ag:Int):Option Int:=qb n (Kq l Ag n) l Ag
def qc (n B:Nat) (N:Yd 0) (l:List Int) (Ag:Int) (r:Int):TV -> Prop
 | .l1 x8=>∀ m0:Nat,n<=m0 -> TW B N (FQ Tryz.f41 0 (.i r) []) (A2 m0 (BA (AX Tryz.f41) 0 [])) ⟨AM 19 [(0,.ints l),(1,.fn 112 1 (L1 [.fp 1 (L1 [.i Ag])])),(7,.i (l.length:Int)),(8,.i x8)],[]⟩
theorem qd (B:Nat) (N:Yd 0) (l:List Int) (Ag:Int):Al (Kq l Ag) (qc · B N l Ag):=ia (fun _=>rfl) fun n AG pt r h=>by
 cases pt
 case l1 x8=>
  intro m0 AC;refine rd AC fun m0 AC=>?_
  revert r;apply gO;exact bi 9 (gi (cf il [] fun _=>bi 16 (lE AE [4] []) (gw 18 (lG AE [] (AG _ _ · m0 AC))))) (lE AE [4] [])
theorem qa {n:Nat} {l:List Int} {Ag:Int} {r:Int} (h:dN n l Ag=some r):EQ 41 [.ints l,.fn 112 1 (L1 [.fp 1 (L1 [.i Ag])])] [] (.i r) [] true:=by
 refine ot Tryz.func41 fun B N=>?_
 revert r;apply gO;exact lN AE [] ((qd B N l Ag n) _ _ · n Nat.le.refl)
def fv (n:Nat) (l:List Int) (Ag:Int):Option Bool:=
 (dN n l Ag).bind fun y1=>
  some (decide (y1>=0))
def YR (n:Nat) (l:List Int) (Ag:Int):Option Bool:=fv n l Ag
theorem wN {n:Nat} {l:List Int} {Ag:Int} {r:Bool} (h:YR n l Ag=some r):EQ 48 [.ints l,.fn 112 1 (L1 [.fp 1 (L1 [.i Ag])])] [] (.bool r) [] true:=by
 unfold YR fv at h;refine ot Tryz.func48 fun B N=>?_
 revert r;apply gO;exact cf qa [] fun _=>lE AE [4] []
def YE (n:Nat) (cells symbols:Int) (AJ:List Int):Option Bool:=
 bif ((AJ.length:Int)==cells) then
  (YR n AJ symbols).bind fun y1=>
   some (!y1)
 else
  some false
def Qp (n:Nat) (cells symbols:Int) (AJ:List Int):Option Bool:=YE n cells symbols AJ
theorem u9 {n:Nat} {cells symbols:Int} {AJ:List Int} {r:Bool} (h:Qp n cells symbols AJ=some r):EQ 80 [.i cells,.i symbols,.ints AJ] [] (.bool r) [] true:=by
 refine ot Tryz.func80 fun B N=>?_
 revert r;apply gO;exact bi 10 (cn fun y1 A7=>jc (sb [.ints AJ,.fn 112 1 (L1 [.ref 0 0])] (wN A7) [some (.cells [.i symbols])] ⟨Ab.plain (by kernel_rfl),(Ab.fnL (l:=[.ref 0 0]) (l0:=[.fp 1 (L1 [.i symbols])]) ⟨(Ab.refL (l:=[.i symbols]) (l0:=[.i symbols]) rfl ⟨Ab.plain (by kernel_rfl),trivial⟩),trivial⟩),trivial⟩) (lE AE [6] [])) (lE AE [6] [])
def bF (n:Nat) (q:AA) (AJ:List Int):Option Int:=
 (valid n q).bind fun y1=>
  bif (y1 != 0) then
   some y1
  else
   (Qp n q.cells q.symbols AJ).bind fun y2=>
    bif (!y2) then
     some 200
    else
     some 0
def SV (n:Nat) (q:AA) (AJ:List Int):Option Int:=bF n q AJ
theorem mq {n:Nat} {q:AA} {AJ:List Int} {r:Int} (h:SV n q AJ=some r):EQ 57 [.agg 5 (L1 (AD q)),.ints AJ] [] (.i r) [] true:=by
 unfold SV bF at h;refine ot Tryz.func57 fun B N=>?_
 revert r;apply gO;exact cf VA [some (.cells (AD q))] fun _=>bi 8 (lE AE [4] []) (cf u9 [some (.cells (AD q))] fun _=>bi 16 (lE AE [4] []) (lE AE [4] []))
theorem k7:Ay (BC Tryz.f24 6) [([0,1,2,3,4,5,6],7)] [8,9] []:=by unfold Ay;kernel_rfl
def js:Bb:=fun i=>match i with
 | 6=>.ord [([0,1,2,3,4,5,6],7)] [8,9] []
 | _=>.no
def cN (n:Nat) (q:AA) (i:Int) (AJ:List Int):Option (Bool×Int):=
 (SV n q AJ).bind fun y1=>
  bif (y1 != 0) then
   some (false,y1)
  else
   bif (decide (i<0)) then
    some (false,1)
   else
    bif (decide (i>=(q.cons.length:Int))) then
     some (false,1)
    else
     if 0<=i/\ i<(q.cons.length:Int) then
      (FY n q (q.cons.getD ((i).toNat) default) AJ).bind fun y2=>
       some (y2,0)
     else none
def Py (n:Nat) (q:AA) (i:Int) (AJ:List Int):Option (Bool×Int):=cN n q i AJ
theorem oe {n:Nat} {q:AA} {i:Int} {AJ:List Int} {r:Bool×Int} (h:Py n q i AJ=some r):EQ 24 [.agg 5 (L1 (AD q)),.i i,.ints AJ] [] (.tup 2 (L1 [.bool r.1,.i r.2])) [] true:=by
 unfold Py cN at h;refine ot Tryz.func24 fun B N=>?_
 revert r;apply gO;exact cf mq [some (.cells (AD q))] fun _=>bi 12 (lE AE [6,7] []) (bi 15 (lE AE [6,7] []) (bi 21 (lE AE [6,7] []) (jg k7 (gi (cf oh [some (.cells (AD q))] fun _=>lE js [6,7] [])))))
end Go.Proofs.YtgkhhfnhacibcaaGreatDoor
namespace Go.Proofs.YtgkhhfnhacibcaaGreatDoor
abbrev zu:=@Nat.zero_lt_one
abbrev zAN:=@iff_of_false
end Go.Proofs.YtgkhhfnhacibcaaGreatDoor
namespace Go.Proofs.YtgkhhfnhacibcaaGreatDoor
open Go.RowKit
theorem Kr {k s n:Nat} {x:Int} (h:Sm k x) (hk:k<=62) (hs:s<64):Gp n x (s:Int)=some (tb x s):=by
 unfold Gp dR;rw [xw ⟨by omega,by show (s:Int)<=((64:Nat):Int);omega⟩,yB,VS h hk hs]
section
variable {q:AA} {g:List Int} {c:AB}
theorem Sv.gi (S:Sv q c g) {a:Nat} (ha:a<c.cells.length):g.getD (c.cells.getD a 0).toNat 0=((Ao c g a:Nat):Int):=by
 have h:=S.cell a ha;have:=S.G.sym (c.cells.getD a 0).toNat (by omega);unfold Ao;omega
theorem jh {k:Nat} {x y:Int} (hk:k<=62) (hx:Sm k x) (hy:Sm k y):Sm k (bits .or .i64 x y):=
 aD hk (HP _ _ _) fun i hi _=>by rw [IS,hx.hi hi,hy.hi hi];rfl
theorem vq (S:Sv q c g) (hl:c.cells.length<=256): ∃ r,Ev (fun n=>UR n g c.cells) r/\ (r=true↔∀ a b,a<c.cells.length -> b<c.cells.length -> Ao c g a=Ao c g b -> a=b):=by
 have key: ∀ (k i:Nat) (x:Int),i+k=c.cells.length -> Sm 16 x -> (∀ s,tb x s=true↔∃ b,b<i/\ Ao c g b=s) -> (∀ a b,a<i -> b<i -> Ao c g a=Ao c g b -> a=b) ->
  ∃ r,Ev (fun n=>LE g c.cells n (.l1 x (i:Int))) r/\ (r=true↔∀ a b,a<c.cells.length -> b<c.cells.length -> Ao c g a=Ao c g b -> a=b):=by
  intro k
  induction k with
  | zero=>
   intro i x e hx hs hd;have e:i=c.cells.length:=by omega
   subst e;refine ⟨true,Ev.one fun n=>?_,iff_of_true rfl hd⟩
   show Qz n (LE g c.cells n) g c.cells x (c.cells.length:Int)=_
   unfold Qz;rw [yA (by omega),xx]
  | succ k ih=>
   intro i x e hx hs hd;have hi:i<c.cells.length:=by omega
   have hc:=S.cell i hi;have AU:=(S.lt hi).2
   have step: ∀ n,LE g c.cells (n+1) (.l1 x (i:Int))=bif tb x (Ao c g i) then some false else LE g c.cells n (.l1 (bits .or .i64 x (IntKind.i64.wrap (1*2 ^ Ao c g i))) ((i+1:Nat):Int)):=fun n=>by
    show Qz n (LE g c.cells n) g c.cells x (i:Int)=_
    unfold Qz;rw [yG (by omega),yC,yB,xw ⟨⟨by omega,by omega⟩,hc⟩,S.gi hi,Kr hx (by decide) (by omega),yF];cases tb x (Ao c g i)
    ·rw [xx,xx,xw ⟨⟨by omega,by show ((Ao c g i:Nat):Int)<=((64:Nat):Int);omega⟩,Ax.2 ⟨by omega,by omega⟩⟩,yB,show ((i+1:Nat):Int)=(i:Int)+1 by omega]
    ·rfl
   cases hb:tb x (Ao c g i) with
   | true=>
    obtain ⟨b,h1,h2⟩:=(hs _).1 hb;refine ⟨false,Ev.one fun n=>by rw [step n,hb,yC],zAN (by decide) fun h=>?_⟩;have:=h b i (by omega) hi h2;omega
   | false=>
    have no: ∀ b,b<i -> Ao c g b≠Ao c g i:=fun b Cd e=>by
     rw [(hs _).2 ⟨b,Cd,e⟩] at hb;cases hb
    obtain ⟨r,h1,h2⟩:=ih (i+1) (bits .or .i64 x (IntKind.i64.wrap (1*2 ^ Ao c g i))) (by omega) (jh (by decide) hx (bQ (by decide) AU)) (fun s=>by
     rw [IS,JH (by omega),yX,hs,yP];constructor
     ·rintro (⟨b,h1,h2⟩ | h)
      ·exact ⟨b,by omega,h2⟩
      ·exact ⟨i,by omega,h⟩
     ·rintro ⟨b,h1,h2⟩;rcases yL.1 h1 with h | rfl
      ·exact .inl ⟨b,h,h2⟩
      ·exact .inr h2) (fun a b ha hb e'=>by
     rcases yL.1 ha with ha | rfl <;> rcases yL.1 hb with hb | rfl
     ·exact hd a b ha hb e'
     ·exact absurd e' (no a ha)
     ·exact absurd e'.symm (no b hb)
     ·rfl)
    exact ⟨r,BG.ev (BG.one fun n=>by rw [step n,hb,xx]) h1,h2⟩
 exact key c.cells.length 0 0 (by omega) ⟨by decide,by decide⟩ (fun s=>by rw [Oj];simp) fun a b ha=>absurd ha (yN a)
theorem wC (S:Sv q c g) (hl:c.cells.length<=256) {k:Nat} (hs:Sm k c.set) (hk:k<=16):Ev (fun n=>UY n g c.cells c.set) (cnt (fun a=>tb c.set (Ao c g a)) c.cells.length):=by
 have key: ∀ (k i:Nat),i+k=c.cells.length -> Ev (fun n=>OP g c.cells c.set n (.l1 (cnt (fun a=>tb c.set (Ao c g a)) i) (i:Int))) (cnt (fun a=>tb c.set (Ao c g a)) c.cells.length):=by
  intro k
  induction k with
  | zero=>
   intro i e;have e:i=c.cells.length:=by omega
   subst e;refine Ev.one fun n=>?_
   show RA n (OP g c.cells c.set n) g c.cells c.set _ (c.cells.length:Int)=_
   unfold RA;rw [yA (by omega),xx]
  | succ k ih=>
   intro i e;have hi:i<c.cells.length:=by omega
   have hc:=S.cell i hi;have AU:=(S.lt hi).2;have hb:=YX (p:=fun a=>tb c.set (Ao c g a)) (i:=i);refine BG.ev (BG.one fun n=>?_) (ih (i+1) (by omega))
   show RA n (OP g c.cells c.set n) g c.cells c.set _ (i:Int)=_
   unfold RA;rw [yG (by omega),yC,yB,xw ⟨⟨by omega,by omega⟩,hc⟩,S.gi hi,Kr hs (by omega) (by omega),yF,Mo,show ((i+1:Nat):Int)=(i:Int)+1 by omega];cases tb c.set (Ao c g i)
   ·rw [xx,xw (Ax.2 ⟨by omega,by omega⟩)];simp
   ·rw [yC,xw ⟨Ax.2 ⟨by omega,by omega⟩,Ax.2 ⟨by omega,by omega⟩⟩,xw rfl]
 exact key c.cells.length 0 (by omega)
theorem jG (S:Sv q c g) (V:Dt q q.symbols.toNat) (hl:c.cells.length<=256):Ev (fun n=>Rt n q.values g c.cells) (Dv (fun a=>q.values.getD (Ao c g a) 0) c.cells.length):=by
 have hv: ∀ i,i<c.cells.length -> 0<=q.values.getD (Ao c g i) 0/\ q.values.getD (Ao c g i) 0<=99:=fun i hi=>V.val _ (S.lt hi).1
 have key: ∀ (k i:Nat),i+k=c.cells.length -> Ev (fun n=>NE q.values g c.cells n (.l1 (Dv (fun a=>q.values.getD (Ao c g a) 0) i) (i:Int))) (Dv (fun a=>q.values.getD (Ao c g a) 0) c.cells.length):=by
  intro k
  induction k with
  | zero=>
   intro i e;have e:i=c.cells.length:=by omega
   subst e;refine Ev.one fun n=>?_
   show Ov n (NE q.values g c.cells n) q.values g c.cells _ (c.cells.length:Int)=_
   unfold Ov;rw [yA (by omega),xx]
  | succ k ih=>
   intro i e;have hi:i<c.cells.length:=by omega
   have hc:=S.cell i hi;have AU:=(S.lt hi).1;have GK:=V.len;have CZ:=hv i hi;have hb:=M9 (f:=fun a=>q.values.getD (Ao c g a) 0) i fun a ha=>by have:=hv a (by omega);omega
   refine BG.ev (BG.one fun n=>?_) (ih (i+1) (by omega))
   show Ov n (NE q.values g c.cells n) q.values g c.cells _ (i:Int)=_
   unfold Ov;rw [yG (by omega),yC,yB,S.gi hi,yB,xw ⟨⟨by omega,by omega⟩,hc,⟨by omega,by omega⟩,Ax.2 ⟨by omega,by omega⟩,Ax.2 ⟨by omega,by omega⟩⟩,show ((i+1:Nat):Int)=(i:Int)+1 by omega];rfl
 exact key c.cells.length 0 (by omega)
theorem mQ (S:Sv q c g) (V:Dt q q.symbols.toNat) (hl:c.cells.length<=256): ∃ r,Ev (fun n=>SP n q.values g c.cells) r/\ (r=true↔FN q 0 c.cells.length (Ao c g)):=by
 have hv: ∀ i,i<c.cells.length -> 0<=q.values.getD (Ao c g i) 0/\ q.values.getD (Ao c g i) 0<=99:=fun i hi=>V.val _ (S.lt hi).1
 have key: ∀ (k i:Nat) (x:Int),i+k=c.cells.length -> (i=0 -> x= -1) -> (0<i -> x=q.values.getD (Ao c g (i-1)) 0) -> FN q 0 i (Ao c g) ->
  ∃ r,Ev (fun n=>Kd q.values g c.cells n (.l1 x (i:Int))) r/\ (r=true↔FN q 0 c.cells.length (Ao c g)):=by
  intro k
  induction k with
  | zero=>
   intro i x e h0 h1 hI;have e:i=c.cells.length:=by omega
   subst e;refine ⟨true,Ev.one fun n=>?_,iff_of_true rfl hI⟩
   show PS n (Kd q.values g c.cells n) q.values g c.cells x (c.cells.length:Int)=_
   unfold PS;rw [yA (by omega),xx]
  | succ k ih=>
   intro i x e h0 h1 hI;have hi:i<c.cells.length:=by omega
   have hc:=S.cell i hi;have AU:=(S.lt hi).1;have GK:=V.len;have CZ:=hv i hi
   have step: ∀ n,Kd q.values g c.cells (n+1) (.l1 x (i:Int))=bif decide (q.values.getD (Ao c g i) 0<=x) then some false else Kd q.values g c.cells n (.l1 (q.values.getD (Ao c g i) 0) ((i+1:Nat):Int)):=fun n=>by
    show PS n (Kd q.values g c.cells n) q.values g c.cells x (i:Int)=_
    unfold PS;rw [yG (by omega),yC,yB,S.gi hi,yB,xw ⟨⟨by omega,by omega⟩,hc,by omega,by omega⟩,xw (Ax.2 ⟨by omega,by omega⟩),show ((i+1:Nat):Int)=(i:Int)+1 by omega]
   by_cases h:q.values.getD (Ao c g i) 0<=x
   ·refine ⟨false,Ev.one fun n=>by rw [step n,yG h,yC],zAN (by decide) fun uc=>?_⟩;rcases zg i with e0 | e0
    ·have:=h0 e0;omega
    ·have h2:=uc (i-1) (zU _) (by omega);rw [←h1 e0,show i-1+1=i by omega] at h2;omega
   ·obtain ⟨r,r1,r2⟩:=ih (i+1) (q.values.getD (Ao c g i) 0) (by omega) (fun h=>absurd h (by omega)) (fun _=>by rw [Nat.add_sub_cancel]) (fun b Xw hb=>by
     by_cases e1:b+1=i
     ·rw [e1,show b=i-1 by omega,←h1 (by omega)];omega
     ·exact hI b Xw (by omega))
    exact ⟨r,BG.ev (BG.one fun n=>by rw [step n,yA h,xx]) r1,r2⟩
 exact key c.cells.length 0 (-1) (by omega) (fun _=>rfl) (fun h=>absurd h (zA7 0)) fun b _ h=>absurd h (yN _)
theorem ld (S:Sv q c g) (hl:c.cells.length<=256) {k:Nat} (hs:Sm k c.set) (hk:k<=16):Ev (fun n=>NJ n c.cells c.set g) (rl (fun a=>tb c.set (Ao c g a)) c.cells.length c.cells.length 0):=by
 have key: ∀ (m i:Nat) (l:Int),i+m=c.cells.length -> 0<=l/\ l<=(i:Int) -> Ev (fun n=>GE c.cells c.set g n (.l1 l (i:Int))) (rl (fun a=>tb c.set (Ao c g a)) c.cells.length m l):=by
  intro m
  induction m with
  | zero=>
   intro i l e CO;have e:i=c.cells.length:=by omega
   subst e;refine Ev.one fun n=>?_
   show Lh n (GE c.cells c.set g n) c.cells c.set g l (c.cells.length:Int)=_
   unfold Lh rl;rw [yA (by omega),xx]
   by_cases h:l>0
   ·rw [yG h,yC,xw h];rfl
   ·rw [yA h,xx,yK h]
  | succ m ih=>
   intro i l e CO;have hi:i<c.cells.length:=by omega
   have hc:=S.cell i hi;have AU:=(S.lt hi).2;have ei:c.cells.length-1-m=i:=by omega
   have start: ∀ n,GE c.cells c.set g (n+1) (.l1 l (i:Int))=bif tb c.set (Ao c g i) then GE c.cells c.set g n (.l1 (l+1) ((i+1:Nat):Int)) else bif decide (l>0) then (GE c.cells c.set g n (.l1 0 ((i+1:Nat):Int))).map (fun r=>l::r) else GE c.cells c.set g n (.l1 0 ((i+1:Nat):Int)):=fun n=>by
    have r1:AH ((i:Int)+1):=Ax.2 ⟨by omega,by omega⟩
    show Lh n (GE c.cells c.set g n) c.cells c.set g l (i:Int)=_
    unfold Lh;rw [yG (by omega),yC,yB,xw ⟨⟨by omega,by omega⟩,hc⟩,S.gi hi,Kr hs (by omega) (by omega),yF,show ((i+1:Nat):Int)=(i:Int)+1 by omega];cases tb c.set (Ao c g i)
    ·rw [xx,xx,xw r1];cases decide (l>0) <;> rfl
    ·rw [yC,yC,xw ⟨Ax.2 ⟨by omega,by omega⟩,r1⟩]
   unfold rl;rw [ei];cases hb:tb c.set (Ao c g i) with
   | true=>exact BG.ev (BG.one fun n=>by rw [start n,hb,yC]) (ih (i+1) (l+1) (by omega) (by omega))
   | false=>
    have h0:=ih (i+1) 0 (by omega) (by omega)
    by_cases h:l>0
    ·obtain ⟨N,h0⟩:=h0;refine ⟨N+1,fun n hn=>?_⟩;obtain ⟨n,rfl⟩: ∃ k,n=k+1:=⟨n-1,by omega⟩
     show GE c.cells c.set g (n+1) (.l1 l (i:Int))=_
     rw [start n,hb,xx,yG h,yC,show GE c.cells c.set g n (.l1 0 ((i+1:Nat):Int))=_ from h0 n (by omega),xx,xw h];rfl
    ·rw [xx,yK h];exact BG.ev (BG.one fun n=>by rw [start n,hb,xx,yA h,xx]) h0
 exact key c.cells.length 0 0 (by omega) ⟨zP _,by omega⟩
theorem Vn {b:Nat -> Bool} {N:Nat}: ∀ (m:Nat) (l:Int),(rl b N m l).length<=m+1
 | 0,l=>by unfold rl;split <;> simp
 | m+1,l=>by
  unfold rl;cases b (N-1-m)
  ·rw [xx];have:=Vn (b:=b) (N:=N) m 0;split
   ·simp;omega
   ·omega
  ·rw [yC];have:=Vn (b:=b) (N:=N) m (l+1);omega
theorem g9 {n:Nat}: ∀ (l x:List Int),(x++l).length<=As -> Bn (Ur n) l (.s1 x.length x)=some (.s1 (x++l).length (x++l))
 | [],x,h=>by rw [zAO];rfl
 | a::l,x,h=>by
  have e:x++a::l=x++[a]++l:=by simp
  have hl:x.length+([a]:List Int).length<=As:=by simp only [yc,zB] at h;simp only [yk];omega
  show (RN n a x.length x).bind _=_
  unfold RN;rw [xw ⟨⟨rfl,rfl⟩,⟨rfl,rfl⟩,hl⟩,yF,e,←yc];exact g9 l (x++[a]) (by rw [←e];exact h)
theorem we {n:Nat} {l:List Int} (hl:l.length<=300):Mn n l=some l:=by
 have L:(1000000000000:Nat)=As:=rfl;unfold Mn YW Us Yv;cases l with
 | nil=>rfl
 | cons a l=>
  have e:Bn (Ur n) (a::l) .s0=some (.s1 ([a]++l).length ([a]++l)):=by
   show (RO n a).bind _=_
   unfold RO;rw [xw ⟨⟨rfl,rfl⟩,zu,by rw [←L];show 1<=_;omega⟩,yF];exact g9 l [a] (by rw [←L];simp only [yc,zB,zD] at hl ⊢;omega)
  rw [e,yF]
  show (if ([a]++l).length=([a]++l).length then some ([a]++l) else none).bind _=_
  rw [xw rfl];rfl
end
end Go.Proofs.YtgkhhfnhacibcaaGreatDoor
namespace Go.Proofs.YtgkhhfnhacibcaaGreatDoor
open Go.RowKit
section
variable {g:List (List Int)} {inn:List Bool}
def xu (g:List (List Int)) (inn:List Bool) (r:List (List Int)×Int):Prop:=r.2=0/\ (r.1.length=0↔∀ v,v<g.length -> inn.getD v false=false)/\ (r.1.length<=1↔I6 g inn)
theorem Vz {part:List Int} {Bm:Int} (h:Pt g inn g.length part Bm):(Bm=0↔∀ v,v<g.length -> inn.getD v false=false)/\ (Bm<=1↔I6 g inn):=by
 have m0:=h.m0;constructor
 ·constructor
  ·intro e v hv;cases hb:inn.getD v false with
   | false=>rfl
   | true=>
    have:=h.all v hv hv hb;have:=(h.lo v hv).2;omega
  ·intro hn;refine Classical.byContradiction fun Aw=>?_
   obtain ⟨v,h1,h2⟩:=h.sur 1 (by decide) (by omega);have:=h.isIn v h1 (by omega);rw [hn v h1] at this;cases this
 ·constructor
  ·intro e u v hu hv mu mv;have a1:=h.all u hu hu mu;have a2:=h.all v hv hv mv;have b1:=(h.lo u hu).2;have b2:=(h.lo v hv).2;exact h.con u v hu hv a1 (by omega)
  ·intro hC;refine Classical.byContradiction fun Aw=>?_
   obtain ⟨u,u1,u2⟩:=h.sur 1 (by decide) (by omega);obtain ⟨v,v1,v2⟩:=h.sur 2 (by decide) (by omega);have:=h.same u v u1 v1 (by omega) (hC u v u1 v1 (h.isIn u u1 (by omega)) (h.isIn v v1 (by omega)));omega
theorem YU (G:Gr g) {part:List Int} {Bm:Int} (hP:Pt g inn g.length part Bm): ∀ (k j:Nat) (o:List (List Int)) (n:Nat),j+k=part.length -> o.length=Bm.toNat -> (∀ r,(o.getD r default).length<=j) -> k+1<=n ->
 ∃ o',J2 g inn n (.l1 Bm.toNat part (part.length:Int) (j:Int) o)=some (o',0)/\ o'.length=Bm.toNat
 | 0,j,o,n,e,ho,hr,hn=>by
  obtain ⟨n,rfl⟩: ∃ k,n=k+1:=⟨n-1,by omega⟩;refine ⟨o,?_,ho⟩
  show Mm n (J2 g inn n) g inn Bm.toNat part (part.length:Int) (j:Int) o=_
  unfold Mm;rw [yA (by omega),xx,xw ho.symm]
 | k+1,j,o,n,e,ho,hr,hn=>by
  obtain ⟨n,rfl⟩: ∃ k,n=k+1:=⟨n-1,by omega⟩;have A3:=hP.len;have hG:=G.len;have hlo:=hP.lo j (by omega);have L:(1000000000000:Nat)=As:=rfl;have r1:AH ((j:Int)+1):=Ax.2 ⟨by omega,by omega⟩;have hm:=hP.m1
  by_cases h0:part.getD j 0>0
  ·have hrj:=hr (0+(part.getD j 0-1).toNat)
   have key:=YU G hP k (j+1) (o.set (0+(part.getD j 0-1).toNat) (o.getD (0+(part.getD j 0-1).toNat) default++[(j:Int)])) n (by omega) (by rw [yW];exact ho) (fun r=>by
    by_cases er:0+(part.getD j 0-1).toNat=r
    ·subst er;rw [u8,zK (by omega),zi,yc,yk];omega
    ·have:=hr r;rw [u8,zG er,←u8];omega) (by omega)
   obtain ⟨o',h1,h2⟩:=key;refine ⟨o',?_,h2⟩;rw [←h1]
   show Mm n (J2 g inn n) g inn Bm.toNat part (part.length:Int) (j:Int) o=_
   unfold Mm;rw [yG (by omega),yC,xw ⟨by omega,by omega⟩,yB,yG h0,yC,xw ⟨Ax.2 ⟨by omega,by omega⟩,⟨by omega,by omega⟩,by omega,by rw [yk,←L];omega,r1⟩,show ((j+1:Nat):Int)=(j:Int)+1 by omega]
  ·obtain ⟨o',h1,h2⟩:=YU G hP k (j+1) o n (by omega) ho (fun r=>by have:=hr r;omega) (by omega);refine ⟨o',?_,h2⟩;rw [←h1]
   show Mm n (J2 g inn n) g inn Bm.toNat part (part.length:Int) (j:Int) o=_
   unfold Mm;rw [yG (by omega),yC,xw ⟨by omega,by omega⟩,yB,yA h0,xx,xw r1,show ((j+1:Nat):Int)=(j:Int)+1 by omega]
theorem wX (G:Ha g) (hI:inn.length=g.length):Ae (fun n=>Ue n g inn) (xu g inn):=by
 have hG:=G.gr.len;have h0:=T4 G (sets:=[inn]) (fun x hx=>by rw [yZ] at hx;rw [hx,hI]) (by simp);refine Ae.bind h0 (b:=fun n y1=>bif (y1 != 0) then some (([]:List (List Int)),y1) else (parts n g inn).bind fun y2=>if (y2.2:Int)=y2.2/\ 0<=y2.2/\ (y2.2:Int)<=1000000000000 then J2 g inn n (.l1 y2.2.toNat y2.1 (y2.1.length:Int) 0 (List.replicate y2.2.toNat [])) else none) ?_;refine Ae.bindU (V9 G.gr hI) (b:=fun n y2=>if (y2.2:Int)=y2.2/\ 0<=y2.2/\ (y2.2:Int)<=1000000000000 then J2 g inn n (.l1 y2.2.toNat y2.1 (y2.1.length:Int) 0 (List.replicate y2.2.toNat [])) else none) ⟨g.length+1,fun n hn r hP=>?_⟩;obtain ⟨part,Bm⟩:=r;have hP:Pt g inn g.length part Bm:=hP;have m0:=hP.m0;have m1:=hP.m1;have A3:=hP.len
 obtain ⟨o',h1,h2⟩:=YU G.gr hP part.length 0 (List.replicate Bm.toNat []) n (by omega) yQ (fun r=>by
  rw [u8,zQ];split <;> exact yS 0) (by omega)
 refine ⟨(o',0),?_,rfl,?_,?_⟩
 ·rw [xw ⟨rfl,m0,by show Bm<=_;omega⟩];exact h1
 ·rw [←(Vz hP).1,h2];omega
 ·rw [←(Vz hP).2,h2];omega
/-! ### Rings-/
theorem oW (G:Ha g) {v:Nat} (hv:v<g.length):(nb g v).Pairwise (· < ·)/\ (v:Int)∉nb g v:=by
 have h:=G.ok;unfold Jv at h;rw [yD,yJ] at h;have hr:=h.2 v (yR.2 hv);unfold IX at hr;rw [yJ] at hr;have e:nb g v=g.getD v []:=by unfold nb;rw [yB]
 rw [e]
 generalize g.getD v []=l at hr
 have at_: ∀ k,k<l.length -> l.getD k 0≠v/\ (0<k -> l.getD (k-1) 0<l.getD k 0):=fun k hk=>by
  have:=hr k (yR.2 hk);unfold Gk at this;simp only [yD,zc,ne_eq,yX,zL,zAF,yP] at this;exact ⟨this.1.1.2,fun h=>this.1.2.resolve_left fun hn=>hn h⟩
 have qp: ∀ d i,i+d+1<l.length -> l.getD i 0<l.getD (i+d+1) 0:=by
  intro d
  induction d with
  | zero=>intro i hi;exact (at_ (i+1) hi).2 (by omega)
  | succ d ih=>
   intro i hi;have h1:=ih i (by omega);have h2:=(at_ (i+(d+1)+1) hi).2 (by omega);rw [show i+(d+1)+1-1=i+d+1 by omega] at h2;omega
 constructor
 ·rw [List.pairwise_iff_getElem];intro i j hi hj Nw;have:=qp (j-i-1) i (by omega);rw [show i+(j-i-1)+1=j by omega] at this;simpa [u8,hi,hj] using this
 ·intro hm;obtain ⟨k,hk,e⟩:=zR hm;refine (at_ k hk).1 ?_;rw [u8,xy hk];exact e
theorem iv (G:Ha g) {v:Nat} (hv:v<g.length) (mv:inn.getD v false=true) (hd:Cz g inn v=2):3<=(List.range g.length).countP fun x=>inn.getD x false:=by
 obtain ⟨hs,hn⟩:=oW G hv;have hr:=G.gr.rng v (by omega) (by omega);have dP:((nb g v).filter fun x=>inn.getD x.toNat false).length=2:=by rw [←List.countP_eq_length_filter];exact hd
 have Jo:=hs.filter (fun x=>inn.getD x.toNat false);have hm: ∀ x∈(nb g v).filter fun x=>inn.getD x.toNat false,x∈nb g v/\ inn.getD x.toNat false=true:=fun x hx=>z6.1 hx
 generalize ((nb g v).filter fun x=>inn.getD x.toNat false)=F at dP Jo hm
 match F,dP with
 | [x,y],_=>
  have Td:x<y:=by
   rw [zAo] at Jo;exact Jo.1 y (by simp)
  obtain ⟨x1,x2⟩:=hm x (by simp);obtain ⟨y1,y2⟩:=hm y (by simp);have xr:=hr x x1;have yr:=hr y y1;have xv:x≠v:=fun e=>hn (e▸x1)
  have yv:y≠v:=fun e=>hn (e▸y1)
  have a1:=UW (f:=fun z=>inn.getD z false&&!(z==v)) (g:=fun z=>inn.getD z false) (a:=v) (by simp) mv (List.range g.length) (fun z _ hz=>by rw [yD] at hz;exact hz.1) (yR.2 hv);have a2:=UW (f:=fun z=>(inn.getD z false&&!(z==v))&&!(z==x.toNat)) (g:=fun z=>inn.getD z false&&!(z==v)) (a:=x.toNat) (by simp) (by rw [x2];simp;omega) (List.range g.length) (fun z _ hz=>by rw [yD] at hz;exact hz.1) (yR.2 (by omega));have a3:=UW (f:=fun z=>((inn.getD z false&&!(z==v))&&!(z==x.toNat))&&!(z==y.toNat)) (g:=fun z=>(inn.getD z false&&!(z==v))&&!(z==x.toNat)) (a:=y.toNat) (by simp) (by rw [y2];simp;omega) (List.range g.length) (fun z _ hz=>by rw [yD] at hz;exact hz.1) (yR.2 (by omega));omega
def iK (g:List (List Int)) (inn:List Bool) (r:Bool×Int):Prop:=r.2=0/\ (r.1=true↔(∀ v,v<g.length -> inn.getD v false=true -> Cz g inn v=2)/\ (∃ v,v<g.length/\ inn.getD v false=true)/\ I6 g inn)
theorem bA (hI:inn.length=g.length) {x6 x23:Int} {row:List Int} (hr: ∀ u∈row,0<=u/\ u<(g.length:Int)) (hl:row.length<=256): ∀ (k j:Nat),j+k=row.length -> BG (Ge g inn) (.l2 x6 (((row.take j).countP fun x=>inn.getD x.toNat false:Nat):Int) x23 row (row.length:Int) (j:Int)) (.l2 x6 ((row.countP fun x=>inn.getD x.toNat false:Nat):Int) x23 row (row.length:Int) (row.length:Int))
 | 0,j,e=>by
  have:j=row.length:=by omega
  subst this;rw [List.take_length];exact BG.refl
 | k+1,j,e=>by
  have hj:j<row.length:=by omega
  have hm:=hr (row.getD j 0) (by rw [u8,xy hj];exact yY hj);have hc:=zAT (p:=fun x:Int=>inn.getD x.toNat false) (l:=row.take j);rw [List.length_take] at hc;have tk:row.take (j+1)=row.take j++[row.getD j 0]:=by rw [zAA hj];simp [hj]
  have ih:=bA hI (x6:=x6) (x23:=x23) hr hl k (j+1) (by omega);rw [tk,List.countP_append,zA0] at ih;refine BG.trans (BG.one fun n=>?_) ih
  show Lj n (Ge g inn n) g inn x6 _ x23 row (row.length:Int) (j:Int)=_
  unfold Lj;rw [yG (by omega),yC,yB,xw ⟨⟨by omega,by omega⟩,hm.1,by omega⟩,show ((j+1:Nat):Int)=(j:Int)+1 by omega];cases inn.getD (row.getD j 0).toNat false
  ·rw [xx,xw (Ax.2 ⟨by omega,by omega⟩)];simp
  ·rw [yC,xw ⟨Ax.2 ⟨by omega,by omega⟩,Ax.2 ⟨by omega,by omega⟩⟩];simp
theorem Vo (G:Ha g) (hI:inn.length=g.length): ∀ (k v:Nat),v+k=g.length -> (∀ u,u<v -> inn.getD u false=true -> Cz g inn u=2) -> Ae (fun n=>Ge g inn n (.l1 (((List.range v).countP fun x=>inn.getD x false:Nat):Int) (v:Int))) (iK g inn)
 | 0,v,e,hd=>by
  have:v=g.length:=by omega
  subst this;refine Ae.step 1 (g:=fun n=>(parts n g inn).bind fun y1=>bif decide ((((List.range g.length).countP fun x=>inn.getD x false:Nat):Int)>=3) then some ((y1.2==1),(0:Int)) else some (false,0)) (fun n=>?_) ?_
  ·show Lk n (Ge g inn n) g inn _ (g.length:Int)=_
   unfold Lk;rw [yA (by omega),xx]
  ·refine Ae.bindU (V9 G.gr hI) (b:=fun n y1=>bif decide ((((List.range g.length).countP fun x=>inn.getD x false:Nat):Int)>=3) then some ((y1.2==1),(0:Int)) else some (false,0)) ⟨0,fun n _ r hP=>?_⟩;obtain ⟨part,Bm⟩:=r;obtain ⟨p1,p2⟩:=Vz hP;have m0:=hP.m0
   by_cases h3:(((List.range g.length).countP fun x=>inn.getD x false:Nat):Int)>=3
   ·rw [yG h3,yC];refine ⟨_,rfl,rfl,?_⟩
    show (Bm==1)=true↔_
    rw [yo];constructor
    ·intro e1;refine ⟨hd,?_,p2.1 (by omega)⟩;refine Classical.byContradiction fun hn=>?_
     have:=p1.2 fun v hv=>by
      cases hb:inn.getD v false with
      | false=>rfl
      | true=>exact absurd ⟨v,hv,hb⟩ hn
     have m0:0<=Bm:=m0;have:Bm=0:=this;omega
    ·rintro ⟨_,⟨v,hv,mv⟩,hC⟩;have h1:=p2.2 hC
     have h0: ¬ Bm=0:=fun e=>by
      have:=p1.1 e v hv;rw [mv] at this;cases this
     have m0:0<=Bm:=m0;have h1:Bm<=1:=h1;omega
   ·rw [yA h3,xx];refine ⟨_,rfl,rfl,?_⟩;refine zAN (by decide) ?_;rintro ⟨uH,⟨v,hv,mv⟩,_⟩;have:=iv G hv mv (uH v hv mv);omega
 | k+1,v,e,hd=>by
  have hv:v<g.length:=by omega
  have hG:=G.gr.len;have r1:AH ((v:Int)+1):=Ax.2 ⟨by omega,by omega⟩
  have ec:(((List.range (v+1)).countP fun x=>inn.getD x false:Nat):Int)=(((List.range v).countP fun x=>inn.getD x false:Nat):Int)+(if inn.getD v false then 1 else 0):=by
   rw [List.range_succ,List.countP_append,zA0];split <;> simp
  have Bj:=zAT (p:=fun x=>inn.getD x false) (l:=List.range v);rw [zAU] at Bj;cases hb:inn.getD v false with
  | false=>
   have ih:=Vo G hI k (v+1) (by omega) fun u hu mu=>by
    rcases yL.1 hu with hu | rfl
    ·exact hd u hu mu
    ·rw [hb] at mu;cases mu
   rw [ec,hb] at ih;refine BG.pev (BG.one fun n=>?_) ih
   show Lk n (Ge g inn n) g inn _ (v:Int)=_
   unfold Lk;rw [yG (by omega),yC,xw ⟨⟨by omega,by omega⟩,by omega,by omega⟩,yB,hb,zH,yC,xw r1,show ((v+1:Nat):Int)=(v:Int)+1 by omega];simp
  | true=>
   have MJ:=G.gr.row v (by omega) (by omega);have Nq:=G.gr.rng v (by omega) (by omega);have en:nb g v=g.getD v []:=by unfold nb;rw [yB]
   refine BG.pev (BG.one (b:=.l2 ((((List.range v).countP fun x=>inn.getD x false:Nat):Int)+1) 0 (v:Int) (nb g v) ((nb g v).length:Int) 0) fun n=>?_) ?_
   ·show Lk n (Ge g inn n) g inn _ (v:Int)=_
    unfold Lk;rw [yG (by omega),yC,xw ⟨⟨by omega,by omega⟩,by omega,by omega⟩,yB,hb,yw,xx,xw (Ax.2 ⟨by omega,by omega⟩),en]
   ·have eM:=bA hI (x6:=(((List.range v).countP fun x=>inn.getD x false:Nat):Int)+1) (x23:=(v:Int)) Nq MJ (nb g v).length 0 (by omega);rw [List.take_zero,List.countP_nil] at eM;refine BG.pev eM ?_
    by_cases h2:Cz g inn v=2
    ·have ih:=Vo G hI k (v+1) (by omega) fun u hu mu=>by
      rcases yL.1 hu with hu | rfl
      ·exact hd u hu mu
      ·exact h2
     rw [ec,hb,xw rfl] at ih;refine BG.pev (BG.one fun n=>?_) ih
     show Lj n (Ge g inn n) g inn _ ((Cz g inn v:Nat):Int) (v:Int) (nb g v) ((nb g v).length:Int) ((nb g v).length:Int)=_
     unfold Lj;rw [yA (by omega),xx,h2]
     show (if AH ((v:Int)+1) then _ else _)=_
     rw [xw r1,show ((v+1:Nat):Int)=(v:Int)+1 by omega]
    ·refine Ev.p (Ev.one (r:=(false,0)) fun n=>?_) ⟨rfl,zAN (by decide) fun h=>h2 (h.1 v hv hb)⟩
     show Lj n (Ge g inn n) g inn _ ((Cz g inn v:Nat):Int) (v:Int) (nb g v) ((nb g v).length:Int) ((nb g v).length:Int)=_
     unfold Lj;rw [yA (by omega),xx,zc.2 (by omega:((Cz g inn v:Nat):Int)≠2),yC]
theorem mf (G:Ha g) (hI:inn.length=g.length):Ae (fun n=>NN n g inn) (iK g inn):=by
 have h0:=T4 G (sets:=[inn]) (fun x hx=>by rw [yZ] at hx;rw [hx,hI]) (by simp);refine Ae.bind h0 (b:=fun n y1=>bif (y1 != 0) then some (false,y1) else Ge g inn n (.l1 0 0)) ?_;exact Vo G hI g.length 0 (by omega) fun u hu=>absurd hu (yN u)
end
end Go.Proofs.YtgkhhfnhacibcaaGreatDoor
namespace Go.Proofs.YtgkhhfnhacibcaaGreatDoor
open Go.RowKit
section
variable {q:AA} {U:Int -> Prop} {p x y z:List Int} {i TI:Int}
end
end Go.Proofs.YtgkhhfnhacibcaaGreatDoor
