/- Part 5 of 6 of what the proofs of these laws stand on. -/
import Derived.Test.YtgkhhfnhacibcaaGreatDoorPcD
set_option linter.all false
namespace Go.Proofs.YtgkhhfnhacibcaaGreatDoor
abbrev zAa:=@List.ext_getElem
abbrev zAz:=@Bool.not_eq_true
abbrev zA7:=@Option.isSome_none
abbrev zA8:=@Option.isSome_some
end Go.Proofs.YtgkhhfnhacibcaaGreatDoor
namespace Go.Proofs.YtgkhhfnhacibcaaGreatDoor
open Go.RowKit
section
variable {c:AB} {k:Nat} {pos lost:List Int} {q:AA}
theorem B1.unique {i:Nat} {D:Nat -> Nat -> Prop} {l l':List Int} (h:B1 c pos lost i D l) (h':B1 c pos lost i D l') (hi: ∀ j,B4 (l.getD j 0)) (BN: ∀ j,B4 (l'.getD j 0)):l=l':=by
 have e:l.length=l'.length:=h.1.trans h'.1.symm;refine zAa e fun j h1 h2=>?_
 have e1:l.getD j 0=l[j]:=by simp [h1]
 have e2:l'.getD j 0=l'[j]:=by simp [h2]
 rw [←e1,←e2];refine NH (hi j) (BN j) fun s _=>?_
 rw [z6,h.2,h'.2]
theorem ac {l:List Int} {i:Nat} {x:Int} (h: ∀ j,B4 (l.getD j 0)) (hx:B4 x): ∀ j,B4 ((l.set i x).getD j 0):=by
 intro j
 by_cases e:i=j
 ·subst e
  by_cases h2:i<l.length
  ·rw [J6 h2];exact hx
  ·rw [List.set_eq_of_length_le (by omega)];exact h i
 ·rw [getD_set_ne e];exact h j
theorem pq {n ln:Nat} {cell ss:Int} {l':List Int} (h:DA n cell ss c q pos ln lost=some l') (hi: ∀ j,B4 (lost.getD j 0)): ∀ j,B4 (l'.getD j 0):=by
 unfold DA Wl at h;split at h
 ·cases h;exact ac hi (FP _ _ _)
 ·cases h
theorem og {n ln:Nat} {cell:Int} {l':List Int} (h:Fx n cell c q pos ln lost=some l') (hi: ∀ j,B4 (lost.getD j 0)): ∀ j,B4 (l'.getD j 0):=by
 unfold Fx WR at h;split at h
 ·cases h;exact ac hi (FP _ _ _)
 ·cases h
def He (c:AB):Prop:=c.runs.length<=256/\ ∀ j,j<c.runs.length -> c.runs.getD j 0<=256
structure KG (c:AB) (d l:Int):Prop where
 d0:0<=d
 d1:d<=(c.runs.length:Int)
 l0:0<=l
 open' : 0 < l -> d < (c.runs.length : Int) /\ l <= c.runs.getD d.toNat 0
def nx (c:AB) (d l:Int) (inn:Bool):Option (Int×Int):=
 bif inn then (if d<(c.runs.length:Int)/\ l<c.runs.getD d.toNat 0 then some (d,l+1) else none)
 else (if l=0 then some (d,0) else if l=c.runs.getD d.toNat 0 then some (d+1,0) else none)
theorem oz {d l:Int} {inn:Bool} {t:Int×Int} (h:KG c d l) (e:nx c d l inn=some t):KG c t.1 t.2:=by
 obtain ⟨h1,h2,h3,h4⟩:=h;unfold nx at e;cases inn
 ·rw [yO] at e;split at e
  ·cases e;exact ⟨h1,h2,zO _,fun h=>absurd h (Int.lt_irrefl _)⟩
  ·split at e
   ·cases e;have:=h4 (by omega);exact ⟨by show 0<=d+1;omega,by show d+1<=_;omega,zO _,fun h=>absurd h (Int.lt_irrefl _)⟩
   ·cases e
 ·rw [yV] at e;split at e
  ·rename_i h5;cases e;exact ⟨h1,h2,by show 0<=l+1;omega,fun _=>⟨h5.1,by show l+1<=c.runs.getD d.toNat 0;omega⟩⟩
  ·cases e
theorem TB {n ln:Nat} {d l:Int} {inn:Bool} (R:He c) (h:KG c d l): ∃ t,P0 n (d,l) inn c q pos ln lost=some (t,(nx c d l inn).isSome,lost)/\ ∀ u,nx c d l inn=some u -> t=u:=by
 obtain ⟨h1,h2,h3,h4⟩:=h;obtain ⟨hr,hv⟩:=R
 have hl:l<=256:=by
  by_cases h0:0<l
  ·obtain ⟨a1,a2⟩:=h4 h0;have:=hv d.toNat (by omega);omega
  ·omega
 unfold P0 ca nx;cases inn
 ·rw [yO,yO]
  by_cases h0:l=0
  ·subst h0;refine ⟨(d,0),by simp,fun u hu=>by simpa using hu⟩
  ·obtain ⟨a1,a2⟩:=h4 (by omega);have e0:(l==0)=false:=by simpa using h0
   simp only [e0,yO,yb h0];rw [yP ⟨A2.2 ⟨by omega,by omega⟩,h1,a1⟩];refine ⟨(d+1,0),?_,fun u hu=>?_⟩
   ·by_cases h5:l=c.runs.getD d.toNat 0
    ·rw [yP h5,←h5];simp
    ·rw [yb h5];simpa using h5
   ·split at hu
    ·cases hu;rfl
    ·cases hu
 ·rw [yV,yV,yP (A2.2 ⟨by show _<=l+1;omega,by show l+1<=_;omega⟩)]
  by_cases h5:d<(c.runs.length:Int)
  ·simp only [yW h5,yV];rw [yP ⟨h1,h5⟩];refine ⟨(d,l+1),?_,fun u hu=>?_⟩
   ·by_cases h6:l<c.runs.getD d.toNat 0
    ·rw [yP ⟨h5,h6⟩,yW h6];rfl
    ·rw [yb fun h=>h6 h.2,yS h6];rfl
   ·split at hu
    ·cases hu;rfl
    ·cases hu
  ·simp only [yS h5,yO];refine ⟨(d,l+1),?_,fun u hu=>?_⟩
   ·rw [yb fun h=>h5 h.1];rfl
   ·rw [yb fun h=>h5 h.1] at hu;cases hu
def kd (c:AB) (pos:List Int) (i:Nat) (inn:Bool):Bool:=bif inn then (bits .and .i64 (AY c pos i) c.set != 0) else (bits .andNot .i64 (AY c pos i) c.set != 0)
theorem TO {n:Nat} {i:Nat} {inn:Bool} (W:Bs c k pos) (hi:i<c.cells.length):QC n (i:Int) inn c q pos pos.length lost=some (kd c pos i inn,lost):=by
 have hc:=W.cells i hi;unfold QC dX kd;simp only [yU];cases inn
 ·rw [yO,yP ⟨⟨by omega,by omega⟩,hc⟩];rfl
 ·rw [yV,yP ⟨⟨by omega,by omega⟩,hc⟩];rfl
def EX (c:AB) (pos:List Int):Nat -> Int×Int -> Prop
 | 0,t=>t=(0,0)
 | i+1,t=>∃ s inn,EX c pos i s/\ nx c s.1 s.2 inn=some t/\ kd c pos i inn=true
theorem EX.ok (i:Nat): ∀ {t:Int×Int},EX c pos i t -> KG c t.1 t.2:=by
 induction i with
 | zero=>
  intro t h;obtain rfl:t=(0,0):=h;exact ⟨zO _,by show (0:Int)<=_;omega,zO _,fun h=>absurd h (Int.lt_irrefl _)⟩
 | succ i ih=>
  rintro t ⟨s,inn,h1,h2,_⟩;exact oz (ih h1) h2
def RV (c:AB) (t:Int×Int):Prop:=t=((c.runs.length:Int),0)∨(0<c.runs.length/\ t=((c.runs.length:Int)-1,c.runs.getD (c.runs.length-1) 0))
def Hg (c:AB) (pos:List Int):Nat -> Int×Int -> Prop
 | 0,t=>RV c t
 | m+1,s=>EX c pos (c.cells.length-1-m) s/\ ∃ t inn,nx c s.1 s.2 inn=some t/\ kd c pos (c.cells.length-1-m) inn=true/\ Hg c pos m t
def IM (c:AB) (pos:List Int) (i:Nat) (inn:Bool):Prop:=∃ s t,EX c pos i s/\ nx c s.1 s.2 inn=some t/\ kd c pos i inn=true/\ Hg c pos (c.cells.length-1-i) t
def Hs (c:AB) (pos:List Int) (a s:Nat):Prop:=(¬ IM c pos a true/\ tb c.set s=true)∨(¬ IM c pos a false/\ tb c.set s=false)
def Df (c:AB) (pos:List Int) (i:Nat) (o4:KS) (d l:Int) (inn:Bool):Bool:=match nx c d l inn with
 | some t=>kd c pos i inn&&o4.contains [t.1,t.2]
 | none=>false
theorem qY {n i oi:Nat} {o1:List Int} {o3:List (Option KS)} {o4 o5 o8:KS} {b0 b1:Bool} {d l:Int} {Hz:List Int} (W:Bs c k pos) (R:He c) (hi:i<c.cells.length) (h:KG c d l):
 BI c q pos pos.length lost (n+1) (.l7 i 0 o1 o3 oi o4 o5 b0 b1 d l o8 Hz)=BI c q pos pos.length lost n (.l7 i 1 o1 o3 oi o4 (bif Df c pos i o4 d l false then CK [d,l] o5 else o5) (b0||Df c pos i o4 d l false) b1 d l o8 Hz):=by
 obtain ⟨t,e1,e2⟩:=TB (n:=n) (ln:=pos.length) (pos:=pos) (lost:=o1) (q:=q) (inn:=false) R h;have b:([false,true]:List Bool).getD (0+((0:Int)).toNat) false=false:=rfl;have r:AL ((0:Int)+1):=A2.2 ⟨by decide,by decide⟩
 show Lp n (BI c q pos pos.length lost n) c q pos pos.length lost i 0 o1 o3 oi o4 o5 b0 b1 d l o8 Hz=_
 unfold Lp Df;rw [yW (by decide),yV,yP ⟨⟨by decide,by decide⟩,by decide⟩,b,e1,yX];cases hn:nx c d l false with
 | none=>simp only [zA7,yO,yP r,zz];rfl
 | some u=>
  obtain rfl:=e2 u hn;simp only [zA8,yV];rw [TO W hi,yX];cases hk:kd c pos i false
  ·simp only [yO,yP r,z2,zz];rfl
  ·simp only [yV,zJ];cases hc:o4.contains [t.1,t.2]
   ·simp only [yO,yP r,zz];rfl
   ·have z:((0:Int)==0)=true:=rfl;simp only [yV,z,yP r,Bool.or_true];rfl
theorem qX {n i oi:Nat} {o1:List Int} {o3:List (Option KS)} {o4 o5 o8:KS} {b0 b1:Bool} {d l:Int} {Hz:List Int} (W:Bs c k pos) (R:He c) (hi:i<c.cells.length) (h:KG c d l):
 BI c q pos pos.length lost (n+1) (.l7 i 1 o1 o3 oi o4 o5 b0 b1 d l o8 Hz)=BI c q pos pos.length lost n (.l7 i 2 o1 o3 oi o4 (bif Df c pos i o4 d l true then CK [d,l] o5 else o5) b0 (b1||Df c pos i o4 d l true) d l o8 Hz):=by
 obtain ⟨t,e1,e2⟩:=TB (n:=n) (ln:=pos.length) (pos:=pos) (lost:=o1) (q:=q) (inn:=true) R h;have b:([false,true]:List Bool).getD (0+((1:Int)).toNat) false=true:=rfl;have r:AL ((1:Int)+1):=A2.2 ⟨by decide,by decide⟩
 show Lp n (BI c q pos pos.length lost n) c q pos pos.length lost i 1 o1 o3 oi o4 o5 b0 b1 d l o8 Hz=_
 unfold Lp Df;rw [yW (by decide),yV,yP ⟨⟨by decide,by decide⟩,by decide⟩,b,e1,yX];cases hn:nx c d l true with
 | none=>simp only [zA7,yO,yP r,zz];rfl
 | some u=>
  obtain rfl:=e2 u hn;simp only [zA8,yV];rw [TO W hi,yX];cases hk:kd c pos i true
  ·simp only [yO,yP r,z2,zz];rfl
  ·simp only [yV,zJ];cases hc:o4.contains [t.1,t.2]
   ·simp only [yO,yP r,zz];rfl
   ·have z:((1:Int)==0)=false:=rfl;have z1:((1:Int)==1)=true:=rfl;simp only [yV,yO,z,z1,yP r,Bool.or_true];rfl
theorem qW {n i oi:Nat} {o1:List Int} {o3:List (Option KS)} {o4 o5 o8:KS} {b0 b1:Bool} {d l:Int} {Hz:List Int}:
 BI c q pos pos.length lost (n+1) (.l7 i 2 o1 o3 oi o4 o5 b0 b1 d l o8 Hz)=BI c q pos pos.length lost n (.l9 i o1 o3 oi o4 o5 b0 b1 o8 Hz):=by
 show Lp n (BI c q pos pos.length lost n) c q pos pos.length lost i 2 o1 o3 oi o4 o5 b0 b1 d l o8 Hz=_
 unfold Lp;rw [yS (by decide),yO]
def Ez (c:AB) (pos:List Int) (i:Nat) (o3:List (Option KS)) (d l:Int) (inn:Bool):List (Option KS):=match nx c d l inn with
 | some t=>bif kd c pos i inn then o3.set (i+1) (some (CK [t.1,t.2] ((o3.getD (i+1) none).getD []))) else o3
 | none=>o3
theorem qc {n i:Nat} {o1:List Int} {o3:List (Option KS)} {o5:KS} {d l:Int} {FJ:List Int} {Ar:Int} (W:Bs c k pos) (R:He c) (hi:i<c.cells.length) (h:KG c d l) (h3:i+1<o3.length) (hs:(o3.getD (i+1) none).isSome=true):
 BI c q pos pos.length lost (n+1) (.l5 i Ar 0 o1 o3 i d l o5 FJ)=BI c q pos pos.length lost n (.l5 i Ar 1 o1 (Ez c pos i o3 d l false) i d l o5 FJ):=by
 obtain ⟨t,e1,e2⟩:=TB (n:=n) (ln:=pos.length) (pos:=pos) (lost:=o1) (q:=q) (inn:=false) R h;have b:([false,true]:List Bool).getD (0+((0:Int)).toNat) false=false:=rfl;have r:AL ((0:Int)+1):=A2.2 ⟨by decide,by decide⟩;have Ay:=W.len;have t1:((((c.cells.length:Nat):Int)+1).toNat:Nat)=c.cells.length+1:=by omega
 have t2:0+(((i:Int)+1).toNat:Nat)=i+1:=by omega
 show Lq n (BI c q pos pos.length lost n) c q pos pos.length lost i Ar 0 o1 o3 i d l o5 FJ=_
 unfold Lq Ez;rw [yW (by decide),yV,yP ⟨⟨by decide,by decide⟩,by decide⟩,b,e1,yX];cases hn:nx c d l false with
 | none=>simp only [zA7,yO,yP r];rfl
 | some u=>
  obtain rfl:=e2 u hn;simp only [zA8,yV];rw [TO W hi,yX];cases hk:kd c pos i false
  ·simp only [yO,yP r];rfl
  ·simp only [yV,t1,t2];rw [yP ⟨A2.2 ⟨by omega,by omega⟩,⟨by omega,by omega⟩,h3,by omega,hs,r⟩];rfl
theorem qb {n i:Nat} {o1:List Int} {o3:List (Option KS)} {o5:KS} {d l:Int} {FJ:List Int} {Ar:Int} (W:Bs c k pos) (R:He c) (hi:i<c.cells.length) (h:KG c d l) (h3:i+1<o3.length) (hs:(o3.getD (i+1) none).isSome=true):
 BI c q pos pos.length lost (n+1) (.l5 i Ar 1 o1 o3 i d l o5 FJ)=BI c q pos pos.length lost n (.l5 i Ar 2 o1 (Ez c pos i o3 d l true) i d l o5 FJ):=by
 obtain ⟨t,e1,e2⟩:=TB (n:=n) (ln:=pos.length) (pos:=pos) (lost:=o1) (q:=q) (inn:=true) R h;have b:([false,true]:List Bool).getD (0+((1:Int)).toNat) false=true:=rfl;have r:AL ((1:Int)+1):=A2.2 ⟨by decide,by decide⟩;have Ay:=W.len;have t1:((((c.cells.length:Nat):Int)+1).toNat:Nat)=c.cells.length+1:=by omega
 have t2:0+(((i:Int)+1).toNat:Nat)=i+1:=by omega
 show Lq n (BI c q pos pos.length lost n) c q pos pos.length lost i Ar 1 o1 o3 i d l o5 FJ=_
 unfold Lq Ez;rw [yW (by decide),yV,yP ⟨⟨by decide,by decide⟩,by decide⟩,b,e1,yX];cases hn:nx c d l true with
 | none=>simp only [zA7,yO,yP r];rfl
 | some u=>
  obtain rfl:=e2 u hn;simp only [zA8,yV];rw [TO W hi,yX];cases hk:kd c pos i true
  ·simp only [yO,yP r];rfl
  ·simp only [yV,t1,t2];rw [yP ⟨A2.2 ⟨by omega,by omega⟩,⟨by omega,by omega⟩,h3,by omega,hs,r⟩];rfl
theorem qa {n i:Nat} {o1:List Int} {o3:List (Option KS)} {o5:KS} {d l:Int} {FJ:List Int} {Ar:Int}:
 BI c q pos pos.length lost (n+1) (.l5 i Ar 2 o1 o3 i d l o5 FJ)=BI c q pos pos.length lost n (.l8 i Ar o1 o3 i o5 FJ):=by
 show Lq n (BI c q pos pos.length lost n) c q pos pos.length lost i Ar 2 o1 o3 i d l o5 FJ=_
 unfold Lq;rw [yS (by decide),yO]
def FX (o3:List (Option KS)) (j:Nat):KS:=(o3.getD j none).getD []
theorem Sd {i:Nat} {o3:List (Option KS)} {d l:Int} {inn:Bool}:(Ez c pos i o3 d l inn).length=o3.length:=by
 unfold Ez;split
 ·cases kd c pos i inn
  ·rfl
  ·rw [yV,yu]
 ·rfl
theorem T9 {α:Type} {l:List α} {i:Nat} {x y:α} (h:i<l.length):(l.set i x).getD i y=x:=by
 rw [u8,zd h];rfl
theorem YL {α:Type} {l:List α} {i j:Nat} {x y:α} (h:i≠j):(l.set i x).getD j y=l.getD j y:=by
 rw [u8,zU h,←u8]
theorem V6 {i j:Nat} {o3:List (Option KS)} {d l:Int} {inn:Bool} (h:j≠i+1):(Ez c pos i o3 d l inn).getD j none=o3.getD j none:=by
 unfold Ez;split
 ·cases kd c pos i inn
  ·rfl
  ·rw [yV,YL (fun e=>h e.symm)]
 ·rfl
theorem V7 {i:Nat} {o3:List (Option KS)} {d l:Int} {inn:Bool} (hl:i+1<o3.length) {j:Nat} (h:(o3.getD j none).isSome=true):((Ez c pos i o3 d l inn).getD j none).isSome=true:=by
 by_cases e:j=i+1
 ·subst e;unfold Ez;split
  ·cases kd c pos i inn
   ·exact h
   ·rw [yV,T9 hl];rfl
  ·exact h
 ·rw [V6 e];exact h
theorem Nn {i:Nat} {o3:List (Option KS)} {d l:Int} {inn:Bool} (hl:i+1<o3.length) {x:List Int}:x∈FX (Ez c pos i o3 d l inn) (i+1)↔x∈FX o3 (i+1)∨∃ t,nx c d l inn=some t/\ kd c pos i inn=true/\ x= [t.1,t.2]:=by
 unfold Ez;split
 ·rename_i t ht;cases hk:kd c pos i inn
  ·rw [yO];exact ⟨.inl,fun h=>h.elim id fun ⟨_,_,h,_⟩=>by cases h⟩
  ·rw [yV];unfold FX;rw [T9 hl]
   show x∈CK _ _↔_
   rw [MC];constructor
   ·rintro (h | h)
    ·exact .inr ⟨t,ht,rfl,h⟩
    ·exact .inl h
   ·rintro (h | ⟨u,hu,_,h⟩)
    ·exact .inr h
    ·rw [ht] at hu;cases hu;exact .inl h
 ·rename_i hn;exact ⟨.inl,fun h=>h.elim id fun ⟨_,h,_⟩=>by rw [hn] at h;cases h⟩
structure Rows (c:AB) (pos:List Int) (i:Nat) (o3:List (Option KS)):Prop where
 len:o3.length=c.cells.length+1
 isSome: ∀ j,j<=c.cells.length -> (o3.getD j none).isSome=true
 row: ∀ j,j<=i -> ∀ x,x∈FX o3 j↔∃ t:Int×Int,x= [t.1,t.2]/\ EX c pos j t
 rest: ∀ j,i<j -> j<=c.cells.length -> FX o3 j= []
structure NA (c:AB) (pos:List Int) (i:Nat) (rem:KS) (o3:List (Option KS)):Prop where
 hi:i<c.cells.length
 len:o3.length=c.cells.length+1
 isSome: ∀ j,j<=c.cells.length -> (o3.getD j none).isSome=true
 row: ∀ j,j<=i -> ∀ x,x∈FX o3 j↔∃ t:Int×Int,x= [t.1,t.2]/\ EX c pos j t
 rest: ∀ j,i+1<j -> j<=c.cells.length -> FX o3 j= []
 sub: ∀ x∈rem,∃ t:Int×Int,x= [t.1,t.2]/\ EX c pos i t
 next: ∀ x∈FX o3 (i+1),∃ t:Int×Int,x= [t.1,t.2]/\ EX c pos (i+1) t
 cov: ∀ t,EX c pos i t -> [t.1,t.2]∈rem∨∀ inn u,nx c t.1 t.2 inn=some u -> kd c pos i inn=true -> [u.1,u.2]∈FX o3 (i+1)
theorem Rows.mid {i:Nat} {o3:List (Option KS)} (h:Rows c pos i o3) (hi:i<c.cells.length):NA c pos i (FX o3 i) o3 where
 hi:=hi
 len:=h.len
 isSome:=h.isSome
 row:=h.row
 rest:=fun j hj hl=>h.rest j (by omega) hl
 sub:=fun x hx=>(h.row i (ym _) x).1 hx
 next:=fun x hx=>by rw [h.rest (i+1) (by omega) (by omega)] at hx;cases hx
 cov:=fun t ht=>.inl ((h.row i (ym _) _).2 ⟨t,rfl,ht⟩)
theorem NA.rows {i:Nat} {o3:List (Option KS)} (h:NA c pos i [] o3):Rows c pos (i+1) o3 where
 len:=h.len
 isSome:=h.isSome
 row:=fun j hj x=>by
  rcases yd.1 (Nat.lt_succ_of_le hj) with hj | rfl
  ·exact h.row j (by omega) x
  ·refine ⟨h.next x,?_⟩;rintro ⟨t,rfl,s,inn,h1,h2,h3⟩;rcases h.cov s h1 with h4 | h4
   ·cases h4
   ·exact h4 inn t h2 h3
 rest:=h.rest
theorem Po {t u:Int×Int} (h:([t.1,t.2]:List Int)= [u.1,u.2]):t=u:=by
 obtain ⟨a,b⟩:=t;obtain ⟨a',b'⟩:=u;simp only [List.cons.injEq,and_true] at h;rw [h.1,h.2]
theorem NA.go {i:Nat} {o3:List (Option KS)} {rem:KS} {t:Int×Int} (h:NA c pos i rem o3) (ht: [t.1,t.2]∈rem):NA c pos i (rem.erase [t.1,t.2]) (Ez c pos i (Ez c pos i o3 t.1 t.2 false) t.1 t.2 true):=by
 have hl:=h.len;have hi:=h.hi;have h1:i+1<o3.length:=by omega
 have h2:i+1<(Ez c pos i o3 t.1 t.2 false).length:=by rw [Sd];exact h1
 have Ap: ∀ j,j≠i+1 -> FX (Ez c pos i (Ez c pos i o3 t.1 t.2 false) t.1 t.2 true) j=FX o3 j:=fun j hj=>by
  unfold FX;rw [V6 hj,V6 hj]
 have hR:EX c pos i t:=by
  obtain ⟨u,e,hu⟩:=h.sub _ ht;rw [Po e];exact hu
 refine ⟨hi,by rw [Sd,Sd];exact hl,fun j hj=>V7 h2 (V7 h1 (h.isSome j hj)),fun j hj x=>?_,fun j hj uN=>?_,fun x hx=>h.sub x (zBJ hx),fun x hx=>?_,fun s hs=>?_⟩
 ·rw [Ap j (by omega)];exact h.row j hj x
 ·rw [Ap j (by omega)];exact h.rest j hj uN
 ·rw [Nn h2,Nn h1] at hx;rcases hx with (hx | ⟨u,e1,e2,rfl⟩) | ⟨u,e1,e2,rfl⟩
  ·exact h.next x hx
  ·exact ⟨u,rfl,t,false,hR,e1,e2⟩
  ·exact ⟨u,rfl,t,true,hR,e1,e2⟩
 ·by_cases e:s=t
  ·subst e;refine .inr fun inn u h3 h4=>?_
   rw [Nn h2,Nn h1];cases inn
   ·exact .inl (.inr ⟨u,h3,h4,rfl⟩)
   ·exact .inr ⟨u,h3,h4,rfl⟩
  ·rcases h.cov s hs with h3 | h3
   ·exact .inl ((List.mem_erase_of_ne (fun e2=>e (Po e2))).2 h3)
   ·refine .inr fun inn u h4 h5=>?_
    rw [Nn h2,Nn h1];exact .inl (.inl (h3 inn u h4 h5))
def G5 (c:AB) (pos lost:List Int) (r:Bool×List Int):Prop:=r.1=true/\ B1 c pos lost c.cells.length (Hs c pos) r.2/\ ∀ j,B4 (r.2.getD j 0)
theorem G5.uniq (r r':Bool×List Int) (h:G5 c pos lost r) (h':G5 c pos lost r'):r=r':=by
 obtain ⟨b,l⟩:=r;obtain ⟨b',l'⟩:=r';obtain ⟨h1,h2,h3⟩:=h;obtain ⟨h4,h5,h6⟩:=h';have e1:b=true:=h1;have e2:b'=true:=h4;have e3:l=l':=B1.unique h2 h5 h3 h6;rw [e1,e2,e3]
theorem pS {i:Nat} {o1:List Int} {Ar:Int} (W:Bs c k pos) (R:He c) (hx:Ar=(i:Int)) (H: ∀ o3,Rows c pos (i+1) o3 -> Ae (fun n=>BI c q pos pos.length lost n (.l2 (Ar+1) o1 o3)) (G5 c pos lost)):
 ∀ (m:Nat) (rem:KS) (o3:List (Option KS)) (FJ:List Int),rem.length=m -> NA c pos i rem o3 -> Ae (fun n=>BI c q pos pos.length lost n (.l8 i Ar o1 o3 i rem FJ)) (G5 c pos lost):=by
 intro m
 induction m with
 | zero=>
  intro rem o3 FJ hm hM;have:rem= []:=zp hm;subst this;have hs:=hM.isSome i (by have:=hM.hi;omega);have r1:AL (Ar+1):=by rw [hx];exact (W.r64 hM.hi).2
  refine Ae.step 1 (fun n=>?_) (H o3 hM.rows)
  show PJ n (BI c q pos pos.length lost n) c q pos pos.length lost i Ar o1 o3 i [] FJ=_
  unfold PJ;rw [yP hs,cS,yP r1]
 | succ m ih=>
  intro rem o3 FJ hm hM;have hs:=hM.isSome i (by have:=hM.hi;omega);have Ap:rem≠[]:=by intro e;rw [e] at hm;cases hm
  refine Ae.step 1 (g:=fun n=>HI rem (if AL (Ar+1) then BI c q pos pos.length lost n (.l2 (Ar+1) o1 o3) else none) (fun y1=>BI c q pos pos.length lost n (.l5 i Ar 0 o1 o3 i (y1.getD 0 0) (y1.getD 1 0) (rem.erase y1) y1))) (fun n=>?_) (Ae.next Ap (fun y hy=>?_) G5.uniq)
  ·show PJ n (BI c q pos pos.length lost n) c q pos pos.length lost i Ar o1 o3 i rem FJ=_
   unfold PJ;rw [yP hs];simp only [yP hs]
  ·obtain ⟨t,rfl,ht⟩:=hM.sub y hy;have hS:=ht.ok;have hl:=hM.len;have hi:=hM.hi;have h1:i+1<o3.length:=by omega
   have s1:=hM.isSome (i+1) (by omega);have h2:i+1<(Ez c pos i o3 t.1 t.2 false).length:=by rw [Sd];exact h1
   have s2:=V7 (c:=c) (pos:=pos) (d:=t.1) (l:=t.2) (inn:=false) h1 s1;refine Ae.step 3 (fun n=>?_) (ih _ _ [t.1,t.2] (by rw [zA5 hy];omega) (hM.go hy))
   show BI c q pos pos.length lost (n+2+1) (.l5 i Ar 0 o1 o3 i t.1 t.2 (rem.erase [t.1,t.2]) [t.1,t.2])=_
   rw [qc W R hM.hi hS h1 s1,qb W R hM.hi hS h2 s2,qa]
def Oo (c:AB) (pos:List Int) (m:Nat) (o4:KS):Prop:=∀ x,x∈o4↔∃ t:Int×Int,x= [t.1,t.2]/\ Hg c pos m t
def LY (c:AB) (pos lost:List Int) (m:Nat) (o1:List Int):Prop:=B1 c pos lost c.cells.length (fun a s=>c.cells.length<=a+m/\ Hs c pos a s) o1/\ ∀ j,B4 (o1.getD j 0)
structure Bk (c:AB) (pos:List Int) (i m:Nat) (o5:KS) (b0 b1:Bool) (rem:KS):Prop where
 hi:i+m+1=c.cells.length
 sub: ∀ x∈rem,∃ t:Int×Int,x= [t.1,t.2]/\ EX c pos i t
 o5s: ∀ x∈o5,∃ t:Int×Int,x= [t.1,t.2]/\ Hg c pos (m+1) t
 b0s:b0=true -> IM c pos i false
 b1s:b1=true -> IM c pos i true
 cov: ∀ t,EX c pos i t -> [t.1,t.2]∈rem∨∀ inn u,nx c t.1 t.2 inn=some u -> kd c pos i inn=true -> Hg c pos m u -> [t.1,t.2]∈o5/\ (bif inn then b1 else b0)=true
theorem WS {i m:Nat} {o4:KS} {d l:Int} {inn:Bool} (h:Oo c pos m o4):Df c pos i o4 d l inn=true↔∃ u,nx c d l inn=some u/\ kd c pos i inn=true/\ Hg c pos m u:=by
 unfold Df;split
 ·rename_i t ht;rw [yT,zAj,h];constructor
  ·rintro ⟨h1,u,h2,h3⟩;exact ⟨t,ht,h1,by rw [Po h2];exact h3⟩
  ·rintro ⟨u,h1,h2,h3⟩;rw [ht] at h1;cases h1;exact ⟨h2,t,rfl,h3⟩
 ·rename_i hn;exact ⟨fun h=>(by cases h),fun ⟨u,h,_⟩=>by rw [hn] at h;cases h⟩
theorem Bk.go {i m:Nat} {o4 o5 rem:KS} {b0 b1:Bool} {t:Int×Int} (hE:Oo c pos m o4) (h:Bk c pos i m o5 b0 b1 rem) (ht: [t.1,t.2]∈rem):
 Bk c pos i m (bif Df c pos i o4 t.1 t.2 true then CK [t.1,t.2] (bif Df c pos i o4 t.1 t.2 false then CK [t.1,t.2] o5 else o5) else (bif Df c pos i o4 t.1 t.2 false then CK [t.1,t.2] o5 else o5)) (b0||Df c pos i o4 t.1 t.2 false) (b1||Df c pos i o4 t.1 t.2 true) (rem.erase [t.1,t.2]):=by
 have hR:EX c pos i t:=by
  obtain ⟨u,e,hu⟩:=h.sub _ ht;rw [Po e];exact hu
 have ei:c.cells.length-1-i=m:=by have:=h.hi;omega
 have em:c.cells.length-1-m=i:=by have:=h.hi;omega
 have fH: ∀ inn,Df c pos i o4 t.1 t.2 inn=true -> IM c pos i inn:=fun inn ho=>by
  obtain ⟨u,h1,h2,h3⟩:=(WS hE).1 ho;exact ⟨t,u,hR,h1,h2,by rw [ei];exact h3⟩
 have eS: ∀ inn,Df c pos i o4 t.1 t.2 inn=true -> Hg c pos (m+1) t:=fun inn ho=>by
  obtain ⟨u,h1,h2,h3⟩:=(WS hE).1 ho
  show EX c pos (c.cells.length-1-m) t/\ ∃ u inn,nx c t.1 t.2 inn=some u/\ kd c pos (c.cells.length-1-m) inn=true/\ Hg c pos m u
  rw [em];exact ⟨hR,u,inn,h1,h2,h3⟩
 have mem: ∀ x,x∈(bif Df c pos i o4 t.1 t.2 true then CK [t.1,t.2] (bif Df c pos i o4 t.1 t.2 false then CK [t.1,t.2] o5 else o5) else (bif Df c pos i o4 t.1 t.2 false then CK [t.1,t.2] o5 else o5))↔x∈o5∨(x= [t.1,t.2]/\ (Df c pos i o4 t.1 t.2 true=true∨Df c pos i o4 t.1 t.2 false=true)):=fun x=>by
  cases Df c pos i o4 t.1 t.2 true <;> cases Df c pos i o4 t.1 t.2 false <;> simp only [yV,yO,MC,zL,or_false,and_false,or_true,true_or,and_true]
  ·exact Or.comm
  ·exact Or.comm
  ·exact ⟨fun h=>h.elim .inr fun h=>h.elim .inr .inl,fun h=>h.elim (fun h=>.inr (.inr h)) .inl⟩
 refine ⟨h.hi,fun x hx=>h.sub x (zBJ hx),fun x hx=>?_,fun hb=>?_,fun hb=>?_,fun s hs=>?_⟩
 ·rcases (mem x).1 hx with hx | ⟨rfl,h1 | h1⟩
  ·exact h.o5s x hx
  ·exact ⟨t,rfl,eS _ h1⟩
  ·exact ⟨t,rfl,eS _ h1⟩
 ·rcases Bool.or_eq_true_iff.1 hb with hb | hb
  ·exact h.b0s hb
  ·exact fH _ hb
 ·rcases Bool.or_eq_true_iff.1 hb with hb | hb
  ·exact h.b1s hb
  ·exact fH _ hb
 ·by_cases e:s=t
  ·subst e;refine .inr fun inn u h1 h2 h3=>?_
   have ho:Df c pos i o4 s.1 s.2 inn=true:=(WS hE).2 ⟨u,h1,h2,h3⟩;rw [mem];cases inn
   ·exact ⟨.inr ⟨rfl,.inr ho⟩,by rw [yO,ho,Bool.or_true]⟩
   ·exact ⟨.inr ⟨rfl,.inl ho⟩,by rw [yV,ho,Bool.or_true]⟩
  ·rcases h.cov s hs with h3 | h3
   ·exact .inl ((List.mem_erase_of_ne (fun e2=>e (Po e2))).2 h3)
   ·refine .inr fun inn u h4 h5 h6=>?_
    obtain ⟨h7,h8⟩:=h3 inn u h4 h5 h6;rw [mem];refine ⟨.inl h7,?_⟩;cases inn
    ·rw [yO] at h8 ⊢;rw [h8];rfl
    ·rw [yV] at h8 ⊢;rw [h8];rfl
theorem Bk.end' {i m:Nat} {o5:KS} {b0 b1:Bool} (h:Bk c pos i m o5 b0 b1 []):Oo c pos (m+1) o5/\ (b0=true↔IM c pos i false)/\ (b1=true↔IM c pos i true):=by
 have ei:c.cells.length-1-i=m:=by have:=h.hi;omega
 have em:c.cells.length-1-m=i:=by have:=h.hi;omega
 refine ⟨fun x=>⟨h.o5s x,?_⟩,⟨h.b0s,?_⟩,⟨h.b1s,?_⟩⟩
 ·rintro ⟨t,rfl,h1⟩;have h1:EX c pos (c.cells.length-1-m) t/\ ∃ u inn,nx c t.1 t.2 inn=some u/\ kd c pos (c.cells.length-1-m) inn=true/\ Hg c pos m u:=h1;rw [em] at h1;obtain ⟨h1,u,inn,h2,h3,h4⟩:=h1;rcases h.cov t h1 with h5 | h5
  ·cases h5
  ·exact (h5 inn u h2 h3 h4).1
 ·rintro ⟨s,t,h1,h2,h3,h4⟩;rw [ei] at h4;rcases h.cov s h1 with h5 | h5
  ·cases h5
  ·exact (h5 false t h2 h3 h4).2
 ·rintro ⟨s,t,h1,h2,h3,h4⟩;rw [ei] at h4;rcases h.cov s h1 with h5 | h5
  ·cases h5
  ·exact (h5 true t h2 h3 h4).2
theorem dG {cell ss:Int} (h0:0<=cell) (h1:cell<(pos.length:Int)) (hl:lost.length=pos.length) (hi: ∀ j,B4 (lost.getD j 0)):
 ∃ l',(∀ n,DA n cell ss c q pos pos.length lost=some l')/\ l'.length=pos.length/\ (∀ j,B4 (l'.getD j 0))/\ ∀ j s,tb (l'.getD j 0) s=(tb (lost.getD j 0) s||(decide (j=cell.toNat)&&(tb (pos.getD j 0) s&&tb ss s))):=by
 obtain ⟨l',e,h2,h3⟩:=Jo (n:=0) (ss:=ss) (c:=c) (q:=q) h0 h1 hl;exact ⟨l',fun _=>e,h2,pq e hi,h3⟩
theorem WQ {cell:Int} (h0:0<=cell) (h1:cell<(pos.length:Int)) (hl:lost.length=pos.length) (hi: ∀ j,B4 (lost.getD j 0)):
 ∃ l',(∀ n,Fx n cell c q pos pos.length lost=some l')/\ l'.length=pos.length/\ (∀ j,B4 (l'.getD j 0))/\ ∀ j s,tb (l'.getD j 0) s=(tb (lost.getD j 0) s||(decide (j=cell.toNat)&&(tb (pos.getD j 0) s&&!tb c.set s))):=by
 obtain ⟨l',e,h2,h3⟩:=WP (n:=0) (c:=c) (q:=q) h0 h1 hl;exact ⟨l',fun _=>e,h2,og e hi,h3⟩
theorem LY.go {i m:Nat} {o1 l':List Int} (h:LY c pos lost m o1) (hi:i+m+1=c.cells.length) (hl:l'.length=pos.length) (Cd: ∀ j,B4 (l'.getD j 0))
 (h1: ∀ j s,tb (l'.getD j 0) s=true↔tb (o1.getD j 0) s=true∨((c.cells.getD i 0).toNat=j/\ tb (AY c pos i) s=true/\ Hs c pos i s)):LY c pos lost (m+1) l':=by
 refine ⟨⟨hl,fun j s=>?_⟩,Cd⟩;rw [h1,h.1.2];constructor
 ·rintro ((h | ⟨a,ha,h2,h3,h4,h5⟩) | h)
  ·exact .inl h
  ·exact .inr ⟨a,ha,h2,h3,by omega,h5⟩
  ·exact .inr ⟨i,by omega,h.1,h.2.1,by omega,h.2.2⟩
 ·rintro (h2 | ⟨a,ha,h2,h3,h4,h5⟩)
  ·exact .inl (.inl h2)
  ·by_cases e:c.cells.length<=a+m
   ·exact .inl (.inr ⟨a,ha,h2,h3,e,h5⟩)
   ·have:a=i:=by omega
    subst this;exact .inr ⟨h2,h3,h5⟩
theorem xQ {i m:Nat} {o1:List Int} {o3:List (Option KS)} {o4:KS} {AW:Int} (W:Bs c k pos) (R:He c) (hx:AW=(i:Int)) (hR:Rows c pos c.cells.length o3) (hE:Oo c pos m o4) (hL:LY c pos lost m o1)
 (H: ∀ o1 o5,LY c pos lost (m+1) o1 -> Oo c pos (m+1) o5 -> Ae (fun n=>BI c q pos pos.length lost n (.l4 (AW-1) o1 o3 o5)) (G5 c pos lost)):
 ∀ (z:Nat) (rem o5:KS) (b0 b1:Bool) (Nf:List Int),rem.length=z -> Bk c pos i m o5 b0 b1 rem -> Ae (fun n=>BI c q pos pos.length lost n (.l9 i o1 o3 i o4 o5 b0 b1 rem Nf)) (G5 c pos lost):=by
 intro z
 induction z with
 | zero=>
  intro rem o5 b0 b1 Nf hm hB;have:rem= []:=zp hm;subst this;obtain ⟨e5,e0,e1⟩:=hB.end';have hi:i<c.cells.length:=by have:=hB.hi;omega
  have hs:=hR.isSome i (by omega);have Ay:=W.len;have r1:AL ((i:Int)-1):=A2.2 ⟨by omega,by omega⟩;have hc:=W.cells i hi;have g0:(0:Int)<=(i:Int)/\ (i:Int)<((c.cells.length:Nat):Int):=⟨by omega,by omega⟩;obtain ⟨l1,f1,n1,i1,t1⟩:=dG (ss:=c.set) (c:=c) (q:=q) hc.1 hc.2 hL.1.1 hL.2;obtain ⟨l2,f2,n2,i2,t2⟩:=WQ (c:=c) (q:=q) hc.1 hc.2 n1 i1;obtain ⟨l3,f3,n3,i3,t3⟩:=WQ (c:=c) (q:=q) hc.1 hc.2 hL.1.1 hL.2
  have eq: ∀ n,BI c q pos pos.length lost (n+1) (.l9 i o1 o3 i o4 o5 b0 b1 [] Nf)=BI c q pos pos.length lost n (.l4 (i-1) (bif !b1 then (bif !b0 then l2 else l1) else (bif !b0 then l3 else o1)) o3 o5):=fun n=>by
   show PI n (BI c q pos pos.length lost n) c q pos pos.length lost i o1 o3 i o4 o5 b0 b1 [] Nf=_
   unfold PI;rw [yP hs,cS];simp only [yU];cases b1 <;> cases b0 <;> simp only [zg,zS,yV,yO,yP g0,f1,f2,f3,yX,yP r1]
  refine Ae.step 1 eq ?_
  have key: ∀ l':List Int,l'.length=pos.length -> (∀ j,B4 (l'.getD j 0)) -> (∀ j s,tb (l'.getD j 0) s=(tb (o1.getD j 0) s||(decide (j=(c.cells.getD i 0).toNat)&&(tb (pos.getD j 0) s&&((!b1&&tb c.set s)||(!b0&&!tb c.set s)))))) -> LY c pos lost (m+1) l':=by
   intro l' h1 h2 h3;refine hL.go hB.hi h1 h2 fun j s=>?_
   rw [h3,yk,yT,yT,ye,yk,yT,yT,zM,zM,zM];unfold Hs;rw [←e0,←e1,zAz,zAz];constructor
   ·rintro (h | ⟨rfl,h⟩)
    ·exact .inl h
    ·exact .inr ⟨rfl,h⟩
   ·rintro (h | ⟨rfl,h⟩)
    ·exact .inl h
    ·exact .inr ⟨rfl,h⟩
  subst hx;cases b1 <;> cases b0 <;> simp only [zg,zS,yV,yO]
  ·exact H l2 o5 (key l2 n2 i2 fun j s=>by
    rw [t2,t1];cases tb (o1.getD j 0) s <;> cases decide (j=(c.cells.getD i 0).toNat) <;> cases tb (pos.getD j 0) s <;> cases tb c.set s <;> rfl) e5
  ·exact H l1 o5 (key l1 n1 i1 fun j s=>by
    rw [t1];cases tb (o1.getD j 0) s <;> cases decide (j=(c.cells.getD i 0).toNat) <;> cases tb (pos.getD j 0) s <;> cases tb c.set s <;> rfl) e5
  ·exact H l3 o5 (key l3 n3 i3 fun j s=>by
    rw [t3];cases tb (o1.getD j 0) s <;> cases decide (j=(c.cells.getD i 0).toNat) <;> cases tb (pos.getD j 0) s <;> cases tb c.set s <;> rfl) e5
  ·exact H o1 o5 (key o1 hL.1.1 hL.2 fun j s=>by
    cases tb (o1.getD j 0) s <;> cases decide (j=(c.cells.getD i 0).toNat) <;> cases tb (pos.getD j 0) s <;> cases tb c.set s <;> rfl) e5
 | succ z ih=>
  intro rem o5 b0 b1 Nf hm hB;have hi:i<c.cells.length:=by have:=hB.hi;omega
  have hs:=hR.isSome i (by omega);have Ap:rem≠[]:=by intro e;rw [e] at hm;cases hm
  refine Ae.step 1 (g:=fun n=>HI rem none (fun y1=>BI c q pos pos.length lost n (.l7 i 0 o1 o3 i o4 o5 b0 b1 (y1.getD 0 0) (y1.getD 1 0) (rem.erase y1) y1))) (fun n=>?_) (Ae.next Ap (fun y hy=>?_) G5.uniq)
  ·show PI n (BI c q pos pos.length lost n) c q pos pos.length lost i o1 o3 i o4 o5 b0 b1 rem Nf=_
   unfold PI;rw [yP hs];simp only [yP hs];cases rem with
   | nil=>exact absurd rfl Ap
   | cons x r=>rfl
  ·obtain ⟨t,rfl,ht⟩:=hB.sub y hy;have hS:=ht.ok;refine Ae.step 3 (fun n=>?_) (ih _ _ _ _ [t.1,t.2] (by rw [zA5 hy];omega) (hB.go hE hy))
   show BI c q pos pos.length lost (n+2+1) (.l7 i 0 o1 o3 i o4 o5 b0 b1 t.1 t.2 (rem.erase [t.1,t.2]) [t.1,t.2])=_
   rw [qY W R hi hS,qX W R hi hS,qW]
theorem qZ {n ln oi:Nat} {AW:Int} {o1:List Int} {o3:List (Option KS)} {o4 o7:KS}:BI c q pos ln lost n (.l6 AW o1 o3 oi o4 o7)=BI c q pos ln lost n (.l9 AW o1 o3 oi o4 [] false false o7 []):=by cases n <;> rfl
theorem qd {n ln oi:Nat} {x8 Ar:Int} {o1:List Int} {o3:List (Option KS)} {o4:KS}:BI c q pos ln lost n (.l3 x8 Ar o1 o3 oi o4)=BI c q pos ln lost n (.l8 x8 Ar o1 o3 oi o4 []):=by cases n <;> rfl
theorem iI (W:Bs c k pos) (R:He c) {o3:List (Option KS)} (hR:Rows c pos c.cells.length o3):
 ∀ (i m:Nat) (AW:Int) (o1:List Int) (o4:KS),i+m=c.cells.length -> AW=(i:Int)-1 -> LY c pos lost m o1 -> Oo c pos m o4 -> Ae (fun n=>BI c q pos pos.length lost n (.l4 AW o1 o3 o4)) (G5 c pos lost):=by
 intro i
 induction i with
 | zero=>
  intro m AW o1 o4 hm hx hL hE;refine Ev.p (r:=(true,o1)) ⟨1,fun n hn=>?_⟩ ⟨rfl,⟨hL.1.1,fun j s=>?_⟩,hL.2⟩
  ·obtain ⟨n,rfl⟩: ∃ n',n=n'+1:=⟨n-1,by omega⟩
   show PK n (BI c q pos pos.length lost n) c q pos pos.length lost AW o1 o3 o4=_
   unfold PK;rw [yS (by omega),yO]
  ·rw [hL.1.2];constructor
   ·rintro (h | ⟨a,h1,h2,h3,_,h4⟩)
    ·exact .inl h
    ·exact .inr ⟨a,h1,h2,h3,h4⟩
   ·rintro (h | ⟨a,h1,h2,h3,h4⟩)
    ·exact .inl h
    ·exact .inr ⟨a,h1,h2,h3,by omega,h4⟩
 | succ i ih=>
  intro m AW o1 o4 hm hx hL hE;have hx:AW=(i:Int):=by omega
  subst hx;have hs:=hR.isSome i (by omega);have Ay:=hR.len;have t1:((((c.cells.length:Nat):Int)+1).toNat:Nat)=c.cells.length+1:=by omega
  have t2:0+((i:Int).toNat:Nat)=i:=by omega
  refine Ae.step 1 (g:=fun n=>BI c q pos pos.length lost n (.l9 i o1 o3 i o4 [] false false (FX o3 i) [])) (fun n=>?_) (xQ W R rfl hR hE hL (fun o1 o5 h1 h2=>ih (m+1) ((i:Int)-1) o1 o5 (by omega) rfl h1 h2) _ (FX o3 i) [] false false [] rfl ⟨by omega,fun x hx=>(hR.row i (by omega) x).1 hx,fun x hx=>(by cases hx),fun h=>(by cases h),fun h=>(by cases h),fun t ht=>.inl ((hR.row i (by omega) _).2 ⟨t,rfl,ht⟩)⟩)
  show PK n (BI c q pos pos.length lost n) c q pos pos.length lost (i:Int) o1 o3 o4=_
  unfold PK;simp only [t1,t2];rw [yW (by omega),yV,yP hs,yP ⟨⟨by omega,by omega⟩,by omega,hs⟩];exact qZ
theorem vR (W:Bs c k pos) (R:He c) (hl:lost.length=pos.length) (Cd: ∀ j,B4 (lost.getD j 0)):
 ∀ (m i:Nat) (Ar:Int) (o3:List (Option KS)),i+m=c.cells.length -> Ar=(i:Int) -> Rows c pos i o3 -> Ae (fun n=>BI c q pos pos.length lost n (.l2 Ar lost o3)) (G5 c pos lost):=by
 intro m
 induction m with
 | zero=>
  intro i Ar o3 hm hx hR;have hm:i=c.cells.length:=by omega
  subst hm hx;have Ay:=W.len;have hr:=R.1;have r1:AL ((c.cells.length:Int)-1):=A2.2 ⟨by omega,by omega⟩;have r2:AL ((c.runs.length:Int)-1):=A2.2 ⟨by omega,by omega⟩;have hL:LY c pos lost 0 lost:=⟨⟨hl,fun j s=>⟨.inl,fun h=>h.elim id fun ⟨a,h1,_,_,h2,_⟩=>absurd h2 (by omega)⟩⟩,Cd⟩
  by_cases h0:0<c.runs.length
  ·have t1:(((c.runs.length:Nat):Int)-1).toNat=c.runs.length-1:=by omega
   refine Ae.step 1 (g:=fun n=>BI c q pos pos.length lost n (.l4 ((c.cells.length:Int)-1) lost o3 (CK [((c.runs.length:Int)-1),c.runs.getD (c.runs.length-1) 0] (CK [(c.runs.length:Int),0] ([]:KS))))) (fun n=>?_) (iI W R hR c.cells.length 0 _ _ _ (by omega) rfl hL fun x=>?_)
   ·show Lr n (BI c q pos pos.length lost n) c q pos pos.length lost (c.cells.length:Int) lost o3=_
    unfold Lr;rw [yS (by omega),yO,yW (by omega),yV,yP ⟨r2,⟨by omega,by omega⟩,r1⟩,t1]
   ·rw [MC,MC];constructor
    ·rintro (rfl | rfl | h)
     ·exact ⟨((c.runs.length:Int)-1,c.runs.getD (c.runs.length-1) 0),rfl,.inr ⟨h0,rfl⟩⟩
     ·exact ⟨((c.runs.length:Int),0),rfl,.inl rfl⟩
     ·cases h
    ·rintro ⟨t,rfl,rfl | ⟨_,rfl⟩⟩
     ·exact .inr (.inl rfl)
     ·exact .inl rfl
  ·have vH:c.runs.length=0:=by omega
   refine Ae.step 1 (g:=fun n=>BI c q pos pos.length lost n (.l4 ((c.cells.length:Int)-1) lost o3 (CK [(c.runs.length:Int),0] ([]:KS)))) (fun n=>?_) (iI W R hR c.cells.length 0 _ _ _ (by omega) rfl hL fun x=>?_)
   ·show Lr n (BI c q pos pos.length lost n) c q pos pos.length lost (c.cells.length:Int) lost o3=_
    unfold Lr;rw [yS (by omega),yO,yS (by omega),yO,yP r1]
   ·rw [MC];constructor
    ·rintro (rfl | h)
     ·exact ⟨((c.runs.length:Int),0),rfl,.inl rfl⟩
     ·cases h
    ·rintro ⟨t,rfl,rfl | ⟨h,rfl⟩⟩
     ·exact .inl rfl
     ·exact absurd h h0
 | succ m ih=>
  intro i Ar o3 hm hx hR;subst hx;have hi:i<c.cells.length:=by omega
  have hs:=hR.isSome i (by omega);have Ay:=hR.len;have t1:((((c.cells.length:Nat):Int)+1).toNat:Nat)=c.cells.length+1:=by omega
  have t2:0+((i:Int).toNat:Nat)=i:=by omega
  refine Ae.step 1 (g:=fun n=>BI c q pos pos.length lost n (.l8 i i lost o3 i (FX o3 i) [])) (fun n=>?_) (pS W R rfl (fun o3 h=>ih (i+1) _ o3 (by omega) (by omega) h) _ _ _ _ rfl (hR.mid hi))
  show Lr n (BI c q pos pos.length lost n) c q pos pos.length lost (i:Int) lost o3=_
  unfold Lr;simp only [t1,t2];rw [yW (by omega),yV,yP hs,yP ⟨⟨by omega,by omega⟩,by omega,hs⟩];exact qd
theorem vi (W:Bs c k pos) (R:He c) (hl:lost.length=pos.length) (Cd: ∀ j,B4 (lost.getD j 0)):
 ∀ (m j:Nat) (Es:Int) (o3:List (Option KS)),j+m=c.cells.length+1 -> Es=(j:Int) -> o3.length=c.cells.length+1 -> (∀ i,i<j -> o3.getD i none=some []) -> Ae (fun n=>BI c q pos pos.length lost n (.l1 Es o3)) (G5 c pos lost):=by
 intro m
 induction m with
 | zero=>
  intro j Es o3 hm hx Ay ho;subst hx;have t1:((((c.cells.length:Nat):Int)+1).toNat:Nat)=c.cells.length+1:=by omega
  have hs:(o3.getD 0 none).isSome=true:=by rw [ho 0 (by omega)];rfl
  have e0:(o3.getD 0 none).getD []= []:=by rw [ho 0 (by omega)];rfl
  have hg: ∀ i,i≠0 -> (o3.set 0 (some (CK [0,0] ([]:KS)))).getD i none=o3.getD i none:=fun i hi=>YL (fun e=>hi e.symm)
  have ew:(o3.set 0 (some (CK [0,0] ([]:KS)))).getD 0 none=some (CK [0,0] []):=T9 (by omega);refine Ae.step 1 (g:=fun n=>BI c q pos pos.length lost n (.l2 0 lost (o3.set 0 (some (CK [0,0] ([]:KS)))))) (fun n=>?_) (vR W R hl Cd c.cells.length 0 0 _ (by omega) rfl ⟨by rw [yu];exact Ay,fun i hi=>?_,fun i hi x=>?_,fun i hi EP=>?_⟩)
  ·show PL n (BI c q pos pos.length lost n) c q pos pos.length lost (j:Int) o3=_
   unfold PL;simp only [t1,yt];rw [yS (by omega),yO,yP ⟨⟨by omega,by omega⟩,by omega,hs⟩,e0]
  ·by_cases e:i=0
   ·subst e;rw [ew];rfl
   ·rw [hg i e,ho i (by omega)];rfl
  ·obtain rfl:i=0:=by omega
   show x∈((o3.set 0 (some (CK [0,0] ([]:KS)))).getD 0 none).getD []↔_
   rw [ew]
   show x∈CK [0,0] []↔_
   rw [MC];constructor
   ·rintro (rfl | h)
    ·exact ⟨(0,0),rfl,rfl⟩
    ·cases h
   ·rintro ⟨t,rfl,h⟩;have h:t=(0,0):=h;subst h;exact .inl rfl
  ·show ((o3.set 0 (some (CK [0,0] ([]:KS)))).getD i none).getD []= []
   rw [hg i (by omega),ho i (by omega)];rfl
 | succ m ih=>
  intro j Es o3 hm hx Ay ho;subst hx;have uF:=W.len;have t1:((((c.cells.length:Nat):Int)+1).toNat:Nat)=c.cells.length+1:=by omega
  have t2:0+((j:Int).toNat:Nat)=j:=by omega
  refine Ae.step 1 (g:=fun n=>BI c q pos pos.length lost n (.l1 ((j:Int)+1) (o3.set j (some ([]:KS))))) (fun n=>?_) (ih (j+1) _ _ (by omega) (by omega) (by rw [yu];exact Ay) fun i hi=>?_)
  ·show PL n (BI c q pos pos.length lost n) c q pos pos.length lost (j:Int) o3=_
   unfold PL;simp only [t1,t2];rw [yW (by omega),yV,yP ⟨⟨by omega,by omega⟩,by omega,A2.2 ⟨by omega,by omega⟩⟩]
  ·by_cases e:i=j
   ·subst e;exact T9 (by omega)
   ·rw [YL (fun h=>e h.symm)];exact ho i (by omega)
def Ie (c:AB):Bool:=(c.cells.length != 0)||(c.runs.length==0)
theorem mV (W:Bs c k pos) (R:He c) (hl:lost.length=pos.length) (Cd: ∀ j,B4 (lost.getD j 0)):
 ∃ l,Ev (fun n=>NR n c q pos pos.length lost) (Ie c,l)/\ (Ie c=true -> B1 c pos lost c.cells.length (Hs c pos) l):=by
 by_cases h0:c.cells.length=0
 ·have e1:Ie c=((c.runs.length:Int)==0):=by
   unfold Ie;rw [h0];cases h:c.runs.length with
   | zero=>rfl
   | succ m=>rfl
  refine ⟨lost,Ev.now fun n=>?_,fun _=>by rw [h0];exact B1.zero hl⟩;unfold NR Vm;rw [h0,e1];rfl
 ·have e1:Ie c=true:=by
   unfold Ie;cases h:c.cells.length with
   | zero=>exact absurd h h0
   | succ m=>rfl
  have Ay:=W.len;have t1:((((c.cells.length:Nat):Int)+1).toNat:Nat)=c.cells.length+1:=by omega
  obtain ⟨r,h1,h2⟩:=(vi (q:=q) W R hl Cd (c.cells.length+1) 0 0 (List.replicate (c.cells.length+1) none) (by omega) rfl (by simp) (fun i hi=>absurd hi (yg i))).ev G5.uniq;obtain ⟨b,l⟩:=r;obtain ⟨h3,h4,h5⟩:=h1;have h3:b=true:=h3;subst h3;refine ⟨l,?_,fun _=>h4⟩;rw [e1];refine h2.eq fun n=>?_
  unfold NR Vm;rw [t1]
  have e2:(((c.cells.length:Nat):Int)==0)=false:=by
   rw [zW];omega
  rw [e2,yO,yP ⟨A2.2 ⟨by omega,by omega⟩,rfl,by omega,by omega⟩]
end
end Go.Proofs.YtgkhhfnhacibcaaGreatDoor
namespace Go.Proofs.YtgkhhfnhacibcaaGreatDoor
abbrev zAU:=@List.take_succ_eq_append_getElem
end Go.Proofs.YtgkhhfnhacibcaaGreatDoor
namespace Go.Proofs.YtgkhhfnhacibcaaGreatDoor
open Go.RowKit
section
variable {c:AB} {k:Nat} {pos lost:List Int} {q:AA}
structure EE (c:AB) (q:AA) (pos:List Int):Prop where
 len:c.cells.length=pos.length
 id: ∀ j,j<pos.length -> c.cells.getD j 0=(j:Int)
 g:Hh q.nbrs
 gl:q.nbrs.length=pos.length
 l0:0<pos.length
 l1:pos.length<=256
 nz: ∀ j,j<pos.length -> B4 (pos.getD j 0)/\ pos.getD j 0≠0
def pB (c:AB) (pos:List Int):List Bool:=pos.map fun x=>bits .and .i64 x c.set != 0
def cB (c:AB) (pos:List Int):List Bool:=pos.map fun x=>bits .andNot .i64 x c.set==0
theorem E0:(pB c pos).length=pos.length:=zf _
theorem EW:(cB c pos).length=pos.length:=zf _
theorem Pp {j:Nat} (hj:j<pos.length):(pB c pos).getD j false=(bits .and .i64 (pos.getD j 0) c.set != 0):=by
 unfold pB;rw [u8,y9,yQ hj,u8,yQ hj];rfl
theorem RD {j:Nat} (hj:j<pos.length):(cB c pos).getD j false=(bits .andNot .i64 (pos.getD j 0) c.set==0):=by
 unfold cB;rw [u8,y9,yQ hj,u8,yQ hj];rfl
theorem EE.cp (W:EE c q pos) {j:Nat} (hj:j<pos.length) (h:(cB c pos).getD j false=true):(pB c pos).getD j false=true:=by
 rw [RD hj,yo] at h;rw [Pp hj,zl];obtain ⟨h1,h2⟩:=W.nz j hj;obtain ⟨s,hs,hb⟩:=(FC h1).1 h2;have h3:=(KV (FP .andNot _ _)).1 h s hs;rw [JT,hb,zJ,Bool.not_eq_false'] at h3;exact (FC (FP .and _ _)).2 ⟨s,hs,by rw [Ia,hb,h3];rfl⟩
def CP (pos lost:List Int) (D:Nat -> Nat -> Prop) (l:List Int):Prop:=
 (l.length=pos.length/\ ∀ j,B4 (l.getD j 0))/\ ∀ j s,tb (l.getD j 0) s=true↔tb (lost.getD j 0) s=true∨(j<pos.length/\ tb (pos.getD j 0) s=true/\ D j s)
theorem CP.unique {D:Nat -> Nat -> Prop} {l l':List Int} (h:CP pos lost D l) (h':CP pos lost D l'):l=l':=by
 have e:l.length=l'.length:=h.1.1.trans h'.1.1.symm;refine zAa e fun j h1 h2=>?_
 have e1:l.getD j 0=l[j]:=by simp [h1]
 have e2:l'.getD j 0=l'[j]:=by simp [h2]
 rw [←e1,←e2];refine NH (h.1.2 j) (h'.1.2 j) fun s _=>?_
 rw [z6,h.2,h'.2]
theorem CP.by {D:Nat -> Nat -> Prop} {l:List Int} (W:EE c q pos) (h:CP pos lost D l):B1 c pos lost c.cells.length D l:=by
 refine ⟨h.1.1,fun j s=>?_⟩;have hl:=W.len;rw [h.2];constructor
 ·rintro (h1 | ⟨h1,h2,h3⟩)
  ·exact .inl h1
  ·have e:=W.id j h1;exact .inr ⟨j,by omega,by rw [e];omega,by show tb (pos.getD (c.cells.getD j 0).toNat 0) s=true;rw [e,yU];exact h2,h3⟩
 ·rintro (h1 | ⟨a,h1,h2,h3,h4⟩)
  ·exact .inl h1
  ·have e:=W.id a (by omega);have h3:tb (pos.getD (c.cells.getD a 0).toNat 0) s=true:=h3;rw [e,yU] at h2 h3;subst h2;exact .inr ⟨by omega,h3,h4⟩
theorem CP.step {D D':Nat -> Nat -> Prop} {l l':List Int} (h:CP pos lost D l) (hl:l'.length=pos.length) (Cd: ∀ j,B4 (l'.getD j 0)) {E:Nat -> Nat -> Prop} (h1: ∀ j s,tb (l'.getD j 0) s=true↔tb (l.getD j 0) s=true∨(j<pos.length/\ tb (pos.getD j 0) s=true/\ E j s))
 (hD: ∀ j s,j<pos.length -> tb (pos.getD j 0) s=true -> (D' j s↔D j s∨E j s)):CP pos lost D' l':=by
 refine ⟨⟨hl,Cd⟩,fun j s=>?_⟩;rw [h1,h.2];constructor
 ·rintro ((h2 | ⟨h2,h3,h4⟩) | ⟨h2,h3,h4⟩)
  ·exact .inl h2
  ·exact .inr ⟨h2,h3,(hD j s h2 h3).2 (.inl h4)⟩
  ·exact .inr ⟨h2,h3,(hD j s h2 h3).2 (.inr h4)⟩
 ·rintro (h2 | ⟨h2,h3,h4⟩)
  ·exact .inl (.inl h2)
  ·rcases (hD j s h2 h3).1 h4 with h5 | h5
   ·exact .inl (.inr ⟨h2,h3,h5⟩)
   ·exact .inr ⟨h2,h3,h5⟩
theorem CP.id' {D D':Nat -> Nat -> Prop} {l:List Int} (h:CP pos lost D l) (hD: ∀ j s,j<pos.length -> tb (pos.getD j 0) s=true -> (D' j s↔D j s)):CP pos lost D' l:=
 h.step (E:=fun _ _=>False) h.1.1 h.1.2 (fun j s=>by simp) fun j s h1 h2=>by rw [hD j s h1 h2,or_false]
theorem CP.lose {D D':Nat -> Nat -> Prop} {l:List Int} (h:CP pos lost D l) {cell ss:Int} (h0:0<=cell) (h1:cell<(pos.length:Int)) (hD: ∀ j s,j<pos.length -> tb (pos.getD j 0) s=true -> (D' j s↔D j s∨((j:Int)=cell/\ tb ss s=true))):
 ∃ l',(∀ n,DA n cell ss c q pos pos.length l=some l')/\ CP pos lost D' l':=by
 obtain ⟨l',e,h2,h3,h4⟩:=dG (ss:=ss) (c:=c) (q:=q) h0 h1 h.1.1 h.1.2;refine ⟨l',e,h.step h2 h3 (E:=fun j s=>(j:Int)=cell/\ tb ss s=true) (fun j s=>?_) hD⟩;rw [h4,yk,yT,yT,ye];constructor
 ·rintro (h5 | ⟨rfl,h5,h6⟩)
  ·exact .inl h5
  ·exact .inr ⟨by omega,h5,by omega,h6⟩
 ·rintro (h5 | ⟨h5,h6,h7,h8⟩)
  ·exact .inl h5
  ·exact .inr ⟨by omega,h6,h8⟩
theorem CP.only {D D':Nat -> Nat -> Prop} {l:List Int} (h:CP pos lost D l) {cell:Int} (h0:0<=cell) (h1:cell<(pos.length:Int)) (hD: ∀ j s,j<pos.length -> tb (pos.getD j 0) s=true -> (D' j s↔D j s∨((j:Int)=cell/\ tb c.set s=false))):
 ∃ l',(∀ n,Fx n cell c q pos pos.length l=some l')/\ CP pos lost D' l':=by
 obtain ⟨l',e,h2,h3,h4⟩:=WQ (c:=c) (q:=q) h0 h1 h.1.1 h.1.2;refine ⟨l',e,h.step h2 h3 (E:=fun j s=>(j:Int)=cell/\ tb c.set s=false) (fun j s=>?_) hD⟩;rw [h4,yk,yT,yT,ye,zM];constructor
 ·rintro (h5 | ⟨rfl,h5,h6⟩)
  ·exact .inl h5
  ·exact .inr ⟨by omega,h5,by omega,h6⟩
 ·rintro (h5 | ⟨h5,h6,h7,h8⟩)
  ·exact .inl h5
  ·exact .inr ⟨by omega,h6,h8⟩
def Fn (l:List Bool) (r:Int):Prop:=(r= -1/\ ∀ j,j<l.length -> l.getD j false=false)∨(0<=r/\ r<(l.length:Int)/\ l.getD r.toNat false=true/\ ∀ j:Nat,(j:Int)<r -> l.getD j false=false)
theorem QL {l:List Bool} (hl:l.length<=256): ∃ r,Ev (fun n=>Tf n l true) r/\ Fn l r:=by
 have key: ∀ (k i:Nat),i+k=l.length -> (∀ j,j<i -> l.getD j false=false) -> ∃ r,Ev (fun n=>Jr l true n (.l1 (i:Int))) r/\ Fn l r:=by
  intro k
  induction k with
  | zero=>
   intro i e h;refine ⟨-1,⟨1,fun n hn=>?_⟩,.inl ⟨rfl,fun j hj=>h j (by omega)⟩⟩;obtain ⟨n,rfl⟩: ∃ k,n=k+1:=⟨n-1,by omega⟩
   show QK n (Jr l true n) l true (i:Int)=_
   unfold QK;rw [yS (by omega),yO]
  | succ k ih=>
   intro i e h
   have U: ∀ n,Jr l true (n+1) (.l1 (i:Int))=bif l.getD i false then some (i:Int) else Jr l true n (.l1 ((i:Int)+1)):=fun n=>by
    show QK n (Jr l true n) l true (i:Int)=_
    unfold QK;rw [yW (by omega),yV,yP ⟨by omega,by omega⟩,yU,yP (A2.2 ⟨by omega,by omega⟩)];cases l.getD i false <;> rfl
   cases hi:l.getD i false
   ·obtain ⟨r,h1,h2⟩:=ih (i+1) (by omega) fun j hj=>by
     rcases yd.1 hj with hj | rfl
     ·exact h j hj
     ·exact hi
    refine ⟨r,Ev.step 1 (fun n=>?_) h1,h2⟩;rw [U,hi,yO];rfl
   ·refine ⟨(i:Int),⟨1,fun n hn=>?_⟩,.inr ⟨by omega,by omega,by rw [yU];exact hi,fun j hj=>h j (by omega)⟩⟩;obtain ⟨n,rfl⟩: ∃ k,n=k+1:=⟨n-1,by omega⟩
    show Jr l true (n+1) (.l1 (i:Int))=_
    rw [U,hi,yV]
 exact key l.length 0 (by omega) fun j hj=>absurd hj (yg j)
theorem f5 {l l':List Bool} (h:l.length=l'.length) (h2: ∀ j,j<l.length -> l.getD j false=l'.getD j false):l=l':=by
 refine zAa h fun j h3 h4=>?_
 have:=h2 j h3
 rwa [u8,yQ h3,u8,yQ h4] at this
theorem Us {l:List Bool} {i j:Nat} {b:Bool} (hi:i<l.length):(l.set i b).getD j false=if j=i then b else l.getD j false:=by
 by_cases e:j=i
 ·subst e;rw [yP rfl,u8,zd hi];rfl
 ·rw [yb e,u8,zU (fun h=>e h.symm),←u8]
def El (c:AB) (q:AA) (pos:List Int) (a s:Nat):Prop:=(pB c pos).getD a false=true/\ tb c.set s=true/\ ∃ r:Int,0<=r/\ Fn (cB c pos) r/\ ¬ Rc q.nbrs (pB c pos) r a
theorem Fn.uniq {l:List Bool} {r r':Int} (h:Fn l r) (h':Fn l r'):r=r':=by
 rcases h with ⟨rfl,h⟩ | ⟨h0,h1,h2,h3⟩ <;> rcases h' with ⟨rfl,h'⟩ | ⟨vH,T5,LF,YG⟩
 ·rfl
 ·rw [h r'.toNat (by omega)] at LF;cases LF
 ·rw [h' r.toNat (by omega)] at h2;cases h2
 ·rcases Int.lt_trichotomy r r' with h4 | h4 | h4
  ·rw [YG r.toNat (by omega)] at h2;cases h2
  ·exact h4
  ·rw [h3 r'.toNat (by omega)] at LF;cases LF
theorem ZU (G:Hh q.nbrs) (hB:(pB c pos).length=q.nbrs.length) {r:Int} (Dg:0<=r) (hF:Fn (cB c pos) r) {j s:Nat}:El c q pos j s↔(pB c pos).getD j false=true/\ tb c.set s=true/\ ¬ Rc q.nbrs (pB c pos) r j:=by
 constructor
 ·rintro ⟨h1,h2,r',_,Mp,h3⟩;rw [hF.uniq Mp];exact ⟨h1,h2,h3⟩
 ·rintro ⟨h1,h2,h3⟩;exact ⟨h1,h2,r,Dg,hF,h3⟩
def Ol (c:AB) (q:AA) (pos lost:List Int) (r:Int) (x:List Bool×List Bool×Bool×List Int):Prop:=x.1=pB c pos/\ x.2.1=cB c pos/\ x.2.2.1=decide (0<=r)/\ CP pos lost (El c q pos) x.2.2.2
theorem Ol.uniq {r:Int} (x y:List Bool×List Bool×Bool×List Int) (h:Ol c q pos lost r x) (h':Ol c q pos lost r y):x=y:=by
 obtain ⟨x1,x2,x3,x4⟩:=x;obtain ⟨y1,y2,y3,y4⟩:=y;obtain ⟨h1,h2,h3,h4⟩:=h;obtain ⟨T5,LF,YG,vE⟩:=h';have e4:x4=y4:=h4.unique vE;have e1:x1=y1:=Eq.trans h1 T5.symm;have e2:x2=y2:=Eq.trans h2 LF.symm;have e3:x3=y3:=Eq.trans h3 YG.symm;rw [e1,e2,e3,e4]
theorem pG {n:Nat} (W:EE c q pos) (hL:CP pos lost (fun _ _=>False) lost) {r:Int} (Dg:0<=r) (hF:Fn (cB c pos) r) {near:List Int} (hn:near.length<=256) (QU: ∀ v,v∈near↔Rc q.nbrs (pB c pos) r v) (e9:600<=n):
 ∃ x,EN c q pos pos.length lost n (.l2 (pB c pos) (pB c pos).length near (near.length:Int) 0 (cB c pos) (pB c pos))=some x/\ Ol c q pos lost r x:=by
 have E6:=W.l1;have DB:=W.gl
 have Jw:r<(q.nbrs.length:Int):=by
  rcases hF with ⟨h,_⟩ | ⟨_,h,_⟩
  ·omega
  ·rw [EW] at h;omega
 have Nz: ∀ v∈near,0<=v/\ v<(pos.length:Int):=fun v hv=>by
  have:=((QU v).1 hv).rng W.g.gr Dg Jw;omega
 have S:=Gn (fun n (GR:List Bool) i=>EN c q pos pos.length lost n (.l2 (pB c pos) (pB c pos).length near (near.length:Int) i (cB c pos) GR)) near.length (pos.length+3)
  (fun i GR=>GR.length=pos.length/\ ∀ j:Nat,GR.getD j false=true↔(pB c pos).getD j false=true/\ (j:Int)∉near.take i) (fun n i GR HQ hi hI=>?_) (n:=n) (s:=pB c pos) (by omega) ⟨E0,fun j=>by simp⟩
 ·obtain ⟨n1,GR,F6,_,e1,hfl,fC⟩:=S;obtain ⟨n2,rfl⟩: ∃ n2,n1=n2+1:=⟨n1-1,by omega⟩;rw [List.take_length] at fC
  have T:=Gn (fun n (o1:List Int) i=>EN c q pos pos.length lost n (.l3 (pB c pos) (pB c pos).length ((pB c pos).length:Int) i o1 (cB c pos) GR)) pos.length 1
   (fun i o1=>CP pos lost (fun j s=>j<i/\ El c q pos j s) o1) (fun n i o1 HQ hi hI=>?_) (n:=n2) (s:=lost) (by omega) (hL.id' fun j s _ _=>⟨fun h=>absurd h.1 (yg j),fun h=>h.elim⟩)
  ·obtain ⟨n3,o1,QW,_,e2,J4⟩:=T;obtain ⟨n4,rfl⟩: ∃ n4,n3=n4+1:=⟨n3-1,by omega⟩;refine ⟨(pB c pos,cB c pos,true,o1),?_,rfl,rfl,(yW Dg).symm,J4.id' fun j s hj _=>⟨fun h=>⟨hj,h⟩,fun h=>h.2⟩⟩;refine Eq.trans e1 ?_
   show Px n2 (EN c q pos pos.length lost n2) c q pos pos.length lost (pB c pos) (pB c pos).length near (near.length:Int) (near.length:Int) (cB c pos) GR=_
   unfold Px;rw [yS (by omega),yO];refine Eq.trans e2 ?_
   show Pw n4 (EN c q pos pos.length lost n4) c q pos pos.length lost (pB c pos) (pB c pos).length ((pB c pos).length:Int) (pos.length:Int) o1 (cB c pos) GR=_
   unfold Pw;rw [E0,yS (by omega),yO,yP EW.symm]
  ·show ∃ s',Pw n (EN c q pos pos.length lost n) c q pos pos.length lost (pB c pos) (pB c pos).length ((pB c pos).length:Int) (i:Int) o1 (cB c pos) GR=_/\ _
   unfold Pw;simp only [yU,yt];have r1:AL ((i:Int)+1):=A2.2 ⟨by omega,by omega⟩;rw [E0,yW (by omega),yV,yP ⟨⟨by omega,by omega⟩,by omega⟩];have fB:GR.getD i false=true↔(pB c pos).getD i false=true/\ ¬ Rc q.nbrs (pB c pos) r i:=by rw [fC,QU]
   cases hf:GR.getD i false
   ·rw [yO,yP r1];refine ⟨o1,rfl,hI.id' fun j s hj _=>⟨fun h=>⟨?_,h.2⟩,fun h=>⟨by omega,h.2⟩⟩⟩;rcases yd.1 h.1 with h1 | rfl
    ·exact h1
    ·have h2:=(ZU W.g (by rw [E0];exact DB.symm) Dg hF).1 h.2;have:=fB.2 ⟨h2.1,h2.2.2⟩;rw [hf] at this;cases this
   ·obtain ⟨l',e,h2⟩:=hI.lose (c:=c) (q:=q) (D':=fun j s=>j<i+1/\ El c q pos j s) (cell:=(i:Int)) (ss:=c.set) (by omega) (by omega) fun j s hj _=>by
     constructor
     ·rintro ⟨h1,h2⟩;rcases yd.1 h1 with h1 | rfl
      ·exact .inl ⟨h1,h2⟩
      ·exact .inr ⟨rfl,h2.2.1⟩
     ·rintro (⟨h1,h2⟩ | ⟨h1,h2⟩)
      ·exact ⟨by omega,h2⟩
      ·obtain rfl:j=i:=by omega
       have h3:=fB.1 hf;exact ⟨by omega,(ZU W.g (by rw [E0];exact DB.symm) Dg hF).2 ⟨h3.1,h2,h3.2⟩⟩
    rw [yV,e,yX,yP r1];exact ⟨l',rfl,h2⟩
 ·obtain ⟨hl,hf⟩:=hI;have hx:near.getD i 0∈near:=by rw [u8,yQ hi];exact yw hi
  have HM:=Nz _ hx
  show ∃ s',Px n (EN c q pos pos.length lost n) c q pos pos.length lost (pB c pos) (pB c pos).length near (near.length:Int) (i:Int) (cB c pos) GR=_/\ _
  unfold Px;simp only [yU,yt];rw [E0,yW (by omega),yV,yP ⟨⟨by omega,by omega⟩,HM,by omega,A2.2 ⟨by omega,by omega⟩⟩];refine ⟨_,rfl,by rw [yu];exact hl,fun j=>?_⟩
  have e3:near.take (i+1)=near.take i++[near.getD i 0]:=by
   rw [zAU hi,u8,yQ hi];rfl
  rw [Us (by omega),e3,zP,yp]
  by_cases e:j=(near.getD i 0).toNat
  ·rw [yP e];exact ⟨fun h=>(by cases h),fun h=>absurd (Or.inr (by omega)) h.2⟩
  ·rw [yb e,hf];exact ⟨fun h=>⟨h.1,fun h2=>h2.elim h.2 fun h3=>e (by omega)⟩,fun h=>⟨h.1,fun h2=>h.2 (.inl h2)⟩⟩
theorem cV (W:EE c q pos) (hL:CP pos lost (fun _ _=>False) lost) {r:Int} (hF:Fn (cB c pos) r):
 ∃ l,Ev (fun n=>MB n c q pos pos.length lost) (pB c pos,cB c pos,decide (0<=r),l)/\ CP pos lost (El c q pos) l:=by
 have E6:=W.l1;have DB:=W.gl;have Ay:=W.len;have L:(1000000000000:Nat)=Ax:=rfl
 suffices H:Ae (fun n=>MB n c q pos pos.length lost) (Ol c q pos lost r) by
  obtain ⟨x,h1,h2⟩:=H.ev Ol.uniq;obtain ⟨x1,x2,x3,x4⟩:=x;obtain ⟨h3,h4,h5,h6⟩:=h1;have h3:x1=pB c pos:=h3;have h4:x2=cB c pos:=h4;have h5:x3=decide (0<=r):=h5;subst h3 h4 h5;exact ⟨x4,h2,h6⟩
 have first: ∀ n,EN c q pos pos.length lost (n+c.cells.length) (.l1 0 (List.replicate pos.length false) (List.replicate pos.length false))=EN c q pos pos.length lost n (.l1 (c.cells.length:Int) (pB c pos) (cB c pos)):=fun n=>by
  have z: ∀ j:Nat,(List.replicate pos.length false).getD j false=false:=fun j=>by
   rw [u8,zj];split <;> rfl
  obtain ⟨s',e,h1,h2,h3,h4⟩:=TI (fun n (s:List Bool×List Bool) i=>EN c q pos pos.length lost n (.l1 i s.1 s.2)) c.cells.length 0
   (fun i s=>s.1.length=pos.length/\ s.2.length=pos.length/\ (∀ j,s.1.getD j false=if j<i then (pB c pos).getD j false else false)/\ (∀ j,s.2.getD j false=if j<i then (cB c pos).getD j false else false))
   (fun n i s _ hi hI=>by
    obtain ⟨o2,o3⟩:=s;obtain ⟨h1,h2,h3,h4⟩:=hI;have h1:o2.length=pos.length:=h1;have h2:o3.length=pos.length:=h2;have hid:=W.id i (by omega)
    show ∃ s',Py n (EN c q pos pos.length lost n) c q pos pos.length lost (i:Int) o2 o3=_/\ _
    unfold Py;simp only [yU,yt,hid];rw [yW (by omega),yV,yP ⟨⟨by omega,by omega⟩,⟨by omega,by omega⟩,by omega,by omega,A2.2 ⟨by omega,by omega⟩⟩];refine ⟨(_,_),rfl,by rw [yu];exact h1,by rw [yu];exact h2,fun j=>?_,fun j=>?_⟩
    ·show (o2.set i _).getD j false=_
     rw [Us (by omega)]
     by_cases e:j=i
     ·subst e;rw [yP rfl,yP (by omega),Pp (by omega)]
     ·have h3:o2.getD j false=_:=h3 j;rw [yb e,h3]
      by_cases e2:j<i
      ·rw [yP e2,yP (by omega)]
      ·rw [yb e2,yb (by omega)]
    ·show (o3.set i _).getD j false=_
     rw [Us (by omega)]
     by_cases e:j=i
     ·subst e;rw [yP rfl,yP (by omega),RD (by omega)]
     ·have h4:o3.getD j false=_:=h4 j;rw [yb e,h4]
      by_cases e2:j<i
      ·rw [yP e2,yP (by omega)]
      ·rw [yb e2,yb (by omega)])
   c.cells.length 0 n (List.replicate pos.length false,List.replicate pos.length false) (by omega) (by omega) ⟨yi,yi,fun j=>by rw [yb (by omega)];exact z j,fun j=>by rw [yb (by omega)];exact z j⟩
  obtain ⟨o2,o3⟩:=s';have h1:o2.length=pos.length:=h1;have h2:o3.length=pos.length:=h2
  have e2:o2=pB c pos:=f5 (by rw [h1,E0]) fun j hj=>by
   have h3:o2.getD j false=_:=h3 j;rw [h3,yP (by omega)]
  have e3:o3=cB c pos:=f5 (by rw [h2,EW]) fun j hj=>by
   have h4:o3.getD j false=_:=h4 j;rw [h4,yP (by omega)]
  rw [←e2,←e3];exact e
 have start: ∀ n,MB n c q pos pos.length lost=EN c q pos pos.length lost n (.l1 0 (List.replicate pos.length false) (List.replicate pos.length false)):=fun n=>by
  unfold MB cX;rw [yP ⟨rfl,by omega,by omega⟩]
 refine Ae.eq (Ae.step (c.cells.length+1) (g:=fun n=>(Tf n (cB c pos) true).bind fun y1=>bif (decide (y1<0)) then (if pos.length=(pB c pos).length then some (pB c pos,cB c pos,false,lost) else none) else (if pos.length=(pB c pos).length then (M1 n (pB c pos)).bind fun y2=>(Od n q.nbrs (pB c pos) y1).bind fun y3=>EN c q pos pos.length lost n (.l2 (pB c pos) y2.length y3.1 (y3.1.length:Int) 0 (cB c pos) y2) else none)) (fun n=>?_) ?_) start
 ·rw [show n+(c.cells.length+1)=n+1+c.cells.length by omega,first]
  show Py n (EN c q pos pos.length lost n) c q pos pos.length lost (c.cells.length:Int) (pB c pos) (cB c pos)=_
  unfold Py;rw [yS (by omega),yO,yP EW.symm]
 ·obtain ⟨r',h1,h2⟩:=QL (l:=cB c pos) (by rw [EW];exact E6);obtain rfl:=hF.uniq h2;refine Ae.bind h1 ?_
  by_cases Dg:0<=r
  ·have Bo: ∀ n,M1 n (pB c pos)=some (pB c pos):=fun n=>by
    have h0:=W.l0;have h3:=E0 (c:=c) (pos:=pos);unfold M1 Yo;rw [yP ⟨by omega,trivial,⟨rfl,rfl⟩,by rw [←L];simp only [zm];omega⟩,yP (by simp)];rfl
   obtain ⟨Jw,sN⟩:r<(pos.length:Int)/\ (cB c pos).getD r.toNat false=true:=by
    rcases hF with ⟨h,_⟩ | ⟨_,h,h',_⟩
    ·omega
    ·rw [EW] at h;exact ⟨h,h'⟩
   have sP:=W.cp (by omega) sN;refine Ae.eq (Ae.bindU (w7 W.g (by rw [E0];exact DB.symm) Dg (by omega) sP) (b:=fun n y3=>EN c q pos pos.length lost n (.l2 (pB c pos) (pB c pos).length y3.1 (y3.1.length:Int) 0 (cB c pos) (pB c pos))) ⟨600,fun n hn x hx=>pG W hL Dg hF hx.2.1 hx.2.2 hn⟩) fun n=>?_
   rw [yS (by omega),yO,yP E0.symm,Bo,yX]
  ·refine Ev.p (r:=(pB c pos,cB c pos,false,lost)) (Ev.now fun n=>?_) ⟨rfl,rfl,(yS Dg).symm,hL.id' fun j s _ _=>⟨fun h=>?_,fun h=>h.elim⟩⟩
   ·rw [yW (by omega),yV,yP E0.symm]
   ·obtain ⟨_,_,r',h3,h4,_⟩:=h;rw [hF.uniq h4] at Dg;exact Dg h3
def Gz (c:AB) (q:AA) (pos:List Int) (a s:Nat):Prop:=El c q pos a s∨((pB c pos).getD a false=true/\ (cB c pos).getD a false=false/\ Sp q.nbrs (pB c pos) (cB c pos) (a:Int)/\ tb c.set s=false)
theorem wq (W:EE c q pos) (hL:CP pos lost (fun _ _=>False) lost): ∃ l,Ev (fun n=>Ug n c q pos pos.length lost) (true,l)/\ CP pos lost (Gz c q pos) l:=by
 have E6:=W.l1;have DB:=W.gl;obtain ⟨r,_,hF⟩:=QL (l:=cB c pos) (by rw [EW];exact E6);obtain ⟨l0,h1,h2⟩:=cV W hL hF
 suffices H:Ae (fun n=>LR c q pos pos.length lost n (.l1 (pB c pos) (cB c pos) (decide (0<=r)) ((pB c pos).length:Int) 0 l0)) (fun x=>x.1=true/\ CP pos lost (Gz c q pos) x.2) by
  obtain ⟨x,⟨h3,h4⟩,h5⟩:=(Ae.bind h1 (b:=fun n y1=>LR c q pos pos.length lost n (.l1 y1.1 y1.2.1 y1.2.2.1 (y1.1.length:Int) 0 y1.2.2.2)) H).ev fun x y hx hy=>by
   obtain ⟨x1,x2⟩:=x;obtain ⟨y1,y2⟩:=y;have e1:x1=true:=hx.1;have e2:y1=true:=hy.1;have e3:x2=y2:=hx.2.unique hy.2;rw [e1,e2,e3]
  obtain ⟨x1,x2⟩:=x;have h3:x1=true:=h3;subst h3;exact ⟨x2,h5,h4⟩
 obtain ⟨N,hN⟩:=Ae.range (F:=fun (i:Nat) n=>if (pB c pos).getD i false=true then Lm n q.nbrs (pB c pos) (cB c pos) i else some (false,0)) (A:=fun i x=>(pB c pos).getD i false=true -> x.2=0/\ (x.1=true↔Sp q.nbrs (pB c pos) (cB c pos) i)) pos.length fun i hi=>by
  by_cases h:(pB c pos).getD i false=true
  ·refine ((j8 W.g (by rw [E0];exact DB.symm) (by rw [EW];exact DB.symm) (a:=i) (by omega) h).mono fun x hx _=>hx).eq fun n=>?_
   rw [yP h]
  ·exact Ev.p (r:=(false,0)) (Ev.now fun n=>by rw [yb h]) fun h'=>absurd h' h
 refine ⟨N+pos.length+1,fun n hn=>?_⟩
 have T:=Gn (fun n (o1:List Int) i=>LR c q pos pos.length lost n (.l1 (pB c pos) (cB c pos) (decide (0<=r)) ((pB c pos).length:Int) i o1)) pos.length (N+1)
  (fun i o1=>CP pos lost (fun a s=>El c q pos a s∨(a<i/\ Gz c q pos a s)) o1) (fun n i o1 HQ hi hI=>?_) (n:=n) (s:=l0) (by omega) (h2.id' fun j s _ _=>⟨fun h=>h.elim id fun h=>absurd h.1 (yg j),.inl⟩)
 ·obtain ⟨n3,o1,QW,_,e2,J4⟩:=T;obtain ⟨n4,rfl⟩: ∃ n4,n3=n4+1:=⟨n3-1,by omega⟩;refine ⟨(true,o1),Eq.trans e2 ?_,rfl,J4.id' fun j s hj _=>⟨fun h=>.inr ⟨hj,h⟩,fun h=>h.elim .inl fun h=>h.2⟩⟩
  show Q9 n4 (LR c q pos pos.length lost n4) c q pos pos.length lost (pB c pos) (cB c pos) (decide (0<=r)) ((pB c pos).length:Int) (pos.length:Int) o1=_
  unfold Q9;rw [E0,yS (p:=((pos.length:Nat):Int)<((pos.length:Nat):Int)) (by omega),yO]
 ·show ∃ s',Q9 n (LR c q pos pos.length lost n) c q pos pos.length lost (pB c pos) (cB c pos) (decide (0<=r)) ((pB c pos).length:Int) (i:Int) o1=_/\ _
  unfold Q9;simp only [yU];have r1:AL ((i:Int)+1):=A2.2 ⟨by omega,by omega⟩;have lp:(pB c pos).length=pos.length:=E0;have lc:(cB c pos).length=pos.length:=EW;rw [lp,lc,yW (p:=(i:Int)<((pos.length:Nat):Int)) (by omega),yV]
  have skip:(∀ s,¬ ((pB c pos).getD i false=true/\ (cB c pos).getD i false=false/\ Sp q.nbrs (pB c pos) (cB c pos) (i:Int)/\ tb c.set s=false)) -> CP pos lost (fun a s=>El c q pos a s∨(a<i+1/\ Gz c q pos a s)) o1:=fun Jz=>hI.id' fun j s hj _=>by
   constructor
   ·rintro (h | ⟨h,h3⟩)
    ·exact .inl h
    ·rcases yd.1 h with h | rfl
     ·exact .inr ⟨h,h3⟩
     ·exact h3.elim .inl fun h4=>absurd h4 (Jz s)
   ·rintro (h | ⟨h,h3⟩)
    ·exact .inl h
    ·exact .inr ⟨by omega,h3⟩
  by_cases Dg:0<=r
  ·rw [yW Dg,zS,yO,yP ⟨by omega,by omega⟩];cases hp:(pB c pos).getD i false
   ·rw [zg,yV,yP r1];exact ⟨o1,rfl,skip fun s h=>by rw [hp] at h;cases h.1⟩
   ·rw [zS,yO,yP ⟨by omega,by omega⟩];cases hc:(cB c pos).getD i false
    ·obtain ⟨x,e1,hx⟩:=hN n (by omega) i hi;have e1:(if (pB c pos).getD i false=true then Lm n q.nbrs (pB c pos) (cB c pos) i else some (false,0))=some x:=e1;rw [yP hp] at e1;obtain ⟨_,hx⟩:=hx hp;rw [yO,e1,yX];cases hb:x.1
     ·rw [yO,yP r1];exact ⟨o1,rfl,skip fun s h=>by rw [hx.2 h.2.2.1] at hb;cases hb⟩
     ·obtain ⟨l',e,h3⟩:=hI.only (c:=c) (q:=q) (D':=fun a s=>El c q pos a s∨(a<i+1/\ Gz c q pos a s)) (cell:=(i:Int)) (by omega) (by omega) fun j s hj _=>by
       constructor
       ·rintro (h | ⟨h,h3⟩)
        ·exact .inl (.inl h)
        ·rcases yd.1 h with h | rfl
         ·exact .inl (.inr ⟨h,h3⟩)
         ·exact h3.elim (fun h=>.inl (.inl h)) fun h4=>.inr ⟨rfl,h4.2.2.2⟩
       ·rintro ((h | ⟨h,h3⟩) | ⟨h,h3⟩)
        ·exact .inl h
        ·exact .inr ⟨by omega,h3⟩
        ·obtain rfl:j=i:=by omega
         exact .inr ⟨by omega,.inr ⟨hp,hc,hx.1 hb,h3⟩⟩
      rw [yV,e,yX,yP r1];exact ⟨l',rfl,h3⟩
    ·rw [yV,yP r1];exact ⟨o1,rfl,skip fun s h=>by rw [hc] at h;cases h.2.1⟩
  ·rw [yS Dg,zg,yV,yP r1];refine ⟨o1,rfl,skip fun s h=>?_⟩;obtain ⟨hp,_,⟨u,v,_,_,h3,_,h4,_⟩,_⟩:=h;rcases hF with ⟨_,hF⟩ | ⟨h5,_⟩
   ·have:=h4.rng W.g.gr (by omega) (by omega);rw [hF u.toNat (by rw [EW];omega)] at h3;cases h3
   ·exact Dg h5
def CE (g:List (List Int)) (S:List Bool) (v:Int):Nat:=(nb g v).countP fun x=>S.getD x.toNat false
def MG (c:AB) (q:AA) (pos:List Int):Prop:=∀ v,v<pos.length -> (cB c pos).getD v false=true -> 2<=CE q.nbrs (pB c pos) v/\ CE q.nbrs (cB c pos) v<=2
def WZ (c:AB) (q:AA) (pos:List Int) (v a s:Nat):Prop:=(cB c pos).getD v false=true/\ (a:Int)∈nb q.nbrs v/\ (pB c pos).getD a false=true/\ ((CE q.nbrs (pB c pos) v=2/\ tb c.set s=false)∨(CE q.nbrs (cB c pos) v=2/\ (cB c pos).getD a false=false/\ tb c.set s=true))
def Kw (c:AB) (q:AA) (pos:List Int) (a s:Nat):Prop:=El c q pos a s∨∃ v,v<pos.length/\ WZ c q pos v a s
section
variable {P C:List Bool} {o1:List Int} {row:List Int} {x20 x21:Int}
def Iq (P:List Bool) (o2:List Int) (v:Int):List Int:=bif P.getD v.toNat false then o2++[v] else o2
def Jl (C:List Bool) (x:Int) (v:Int):Int:=bif C.getD v.toNat false then x+1 else x
theorem cT: ∀ (l o2:List Int),l.foldl (Iq P) o2=o2++l.filter fun x=>P.getD x.toNat false
 | [],o2=>by simp
 | v::l,o2=>by
  rw [zn,cT l];unfold Iq;cases h:P.getD v.toNat false
  ·rw [yO,List.filter_cons_of_neg (by rw [h];decide)]
  ·rw [yV,List.filter_cons_of_pos (p:=fun x=>P.getD (Int.toNat x) false) h,zAn];rfl
theorem ck: ∀ (l:List Int) (x:Int),l.foldl (Jl C) x=x+(l.countP fun x=>C.getD x.toNat false:Nat)
 | [],x=>by simp
 | v::l,x=>by
  rw [zn,ck l];unfold Jl;cases h:C.getD v.toNat false
  ·rw [yO,List.countP_cons_of_neg (by rw [h];decide)]
  ·rw [yV,List.countP_cons_of_pos (p:=fun x=>C.getD (Int.toNat x) false) h];omega
def Lk (P C:List Bool) (x20 x21:Int) (row o1 o2:List Int) (x8 j:Int):Kv:=match o2 with
 | []=>.l2 P C x8 x20 x21 row (row.length:Int) j o1
 | a::l=>.l3 P C (a::l).length x8 x20 x21 row (row.length:Int) j o1 (a::l)
theorem aO {o2:List Int} {x8 j:Int} (h:o2≠[]):Lk P C x20 x21 row o1 o2 x8 j= .l3 P C o2.length x8 x20 x21 row (row.length:Int) j o1 o2:=by
 cases o2 with
 | nil=>exact absurd rfl h
 | cons a l=>rfl
theorem pO {n j:Nat} {x8:Int} {o2:List Int} (hP:P.length=pos.length) (hC:C.length=pos.length) (hr: ∀ u∈row,0<=u/\ u<(pos.length:Int)) (hl:row.length<=256) (hj:j<row.length) (ho:o2.length<=256) (h8:0<=x8/\ x8<=256):
 CQ c q pos pos.length lost (n+1) (Lk P C x20 x21 row o1 o2 x8 j)=CQ c q pos pos.length lost n (Lk P C x20 x21 row o1 (Iq P o2 (row.getD j 0)) (Jl C x8 (row.getD j 0)) ((j:Int)+1)):=by
 have L:(1000000000000:Nat)=Ax:=rfl;have hx:row.getD j 0∈row:=by rw [u8,yQ hj];exact yw hj
 have HM:=hr _ hx;have r1:AL ((j:Int)+1):=A2.2 ⟨by omega,by omega⟩;have r8:AL (x8+1):=A2.2 ⟨by omega,by omega⟩;cases o2 with
 | nil=>
  show P9 n (CQ c q pos pos.length lost n) c q pos pos.length lost P C x8 x20 x21 row (row.length:Int) (j:Int) o1=_
  unfold P9 Iq Jl;simp only [yU];rw [yW (by omega),yV,yP ⟨⟨by omega,by omega⟩,by omega,by omega⟩];cases hp:P.getD (row.getD j 0).toNat false <;> cases hc:C.getD (row.getD j 0).toNat false
  ·rw [yO,yO,yO,yP ⟨by omega,by omega⟩,yO,yP r1];rfl
  ·rw [yO,yO,yV,yP ⟨by omega,by omega⟩,yV,yP ⟨r8,r1⟩];rfl
  ·rw [yV,yV,yO,yP ⟨⟨⟨trivial,rfl⟩,by rw [zE];omega,by rw [zE,←L];omega⟩,by omega,by omega⟩,yO,yP r1];rfl
  ·rw [yV,yV,yV,yP ⟨⟨⟨trivial,rfl⟩,by rw [zE];omega,by rw [zE,←L];omega⟩,by omega,by omega⟩,yV,yP ⟨r8,r1⟩];rfl
 | cons a l=>
  have Ap:Iq P (a::l) (row.getD j 0)≠[]:=by unfold Iq;cases P.getD (row.getD j 0).toNat false <;> simp
  rw [aO Ap]
  show MF n (CQ c q pos pos.length lost n) c q pos pos.length lost P C (a::l).length x8 x20 x21 row (row.length:Int) (j:Int) o1 (a::l)=_
  unfold MF Iq Jl;simp only [yU];rw [yW (by omega),yV,yP ⟨⟨by omega,by omega⟩,by omega,by omega⟩];cases hp:P.getD (row.getD j 0).toNat false <;> cases hc:C.getD (row.getD j 0).toNat false
  ·rw [yO,yO,yO,yP ⟨by omega,by omega⟩,yO,yP r1]
  ·rw [yO,yO,yV,yP ⟨by omega,by omega⟩,yV,yP ⟨r8,r1⟩]
  ·rw [yV,yV,yO,yP ⟨⟨⟨trivial,rfl⟩,⟨trivial,trivial⟩,by rw [zE,←L];omega⟩,by omega,by omega⟩,yO,yP r1,yz]
  ·rw [yV,yV,yV,yP ⟨⟨⟨trivial,rfl⟩,⟨trivial,trivial⟩,by rw [zE,←L];omega⟩,by omega,by omega⟩,yV,yP ⟨r8,r1⟩,yz]
theorem cd (hP:P.length=pos.length) (hC:C.length=pos.length) (hr: ∀ u∈row,0<=u/\ u<(pos.length:Int)) (hl:row.length<=256): ∀ (k j n:Nat) (o2:List Int) (x8:Int),j+k=row.length -> o2.length<=j -> 0<=x8/\ x8<=(j:Int) ->
 CQ c q pos pos.length lost (n+k) (Lk P C x20 x21 row o1 o2 x8 j)=CQ c q pos pos.length lost n (Lk P C x20 x21 row o1 ((row.drop j).foldl (Iq P) o2) ((row.drop j).foldl (Jl C) x8) (row.length:Int))
 | 0,j,n,o2,x8,e,_,_=>by
  have e:j=row.length:=by omega
  subst e;rw [List.drop_length];rfl
 | k+1,j,n,o2,x8,e,h2,h8=>by
  have hj:j<row.length:=by omega
  have e2:row.drop j=row.getD j 0::row.drop (j+1):=by
   rw [zF hj,u8,yQ hj];rfl
  rw [←zN,pO hP hC hr hl hj (by omega) (by omega),e2,zn,zn]
  have h3:(Iq P o2 (row.getD j 0)).length<=j+1:=by
   unfold Iq;cases P.getD (row.getD j 0).toNat false
   ·rw [yO];omega
   ·rw [yV,yz,zE];omega
  have h4:0<=Jl C x8 (row.getD j 0)/\ Jl C x8 (row.getD j 0)<=((j+1:Nat):Int):=by
   unfold Jl;cases C.getD (row.getD j 0).toNat false
   ·rw [yO];omega
   ·rw [yV];omega
  exact cd hP hC hr hl k (j+1) n _ _ (by omega) h3 h4
theorem iV {D:Nat -> Nat -> Prop} {near:List Int} {x8:Int} {v:Nat} {n:Nat} (W:EE c q pos) (hD:CP pos lost D o1) (Tt: ∀ u∈near,0<=u/\ u<(pos.length:Int)) (Fj:near.length<=256) (hv:v<pos.length):
 ∃ l',CQ c q pos pos.length lost (n+1+near.length) (.l4 (pB c pos) (cB c pos) near.length x8 x20 (v:Int) near.length (near.length:Int) 0 o1 near)=CQ c q pos pos.length lost n (.l1 (pB c pos) (cB c pos) x20 ((v:Int)+1) l')/\
  CP pos lost (fun a s=>D a s∨((a:Int)∈near/\ ((near.length=2/\ tb c.set s=false)∨(x8=2/\ (cB c pos).getD a false=false/\ tb c.set s=true)))) l':=by
 have E6:=W.l1;have lc:(cB c pos).length=pos.length:=EW
 obtain ⟨l',e,h⟩:=TI (fun n (s:List Int) i=>CQ c q pos pos.length lost n (.l4 (pB c pos) (cB c pos) near.length x8 x20 (v:Int) near.length (near.length:Int) i s near)) near.length 0
  (fun i s=>CP pos lost (fun a t=>D a t∨((a:Int)∈near.take i/\ ((near.length=2/\ tb c.set t=false)∨(x8=2/\ (cB c pos).getD a false=false/\ tb c.set t=true)))) s)
  (fun n i s _ hi hI=>by
   have hx:near.getD i 0∈near:=by rw [u8,yQ hi];exact yw hi
   have HM:=Tt _ hx
   have e3:near.take (i+1)=near.take i++[near.getD i 0]:=by
    rw [zAU hi,u8,yQ hi];rfl
   have r1:AL ((i:Int)+1):=A2.2 ⟨by omega,by omega⟩;have mem: ∀ a:Nat,(a:Int)∈near.take (i+1)↔(a:Int)∈near.take i∨(a:Int)=near.getD i 0:=fun a=>by rw [e3,zP,yp]
   obtain ⟨l2,f2,YA⟩:=hI.only (c:=c) (q:=q) (cell:=near.getD i 0) HM.1 HM.2 (D':=fun a t=>(D a t∨((a:Int)∈near.take i/\ ((near.length=2/\ tb c.set t=false)∨(x8=2/\ (cB c pos).getD a false=false/\ tb c.set t=true))))∨((a:Int)=near.getD i 0/\ tb c.set t=false)) fun j s _ _=>Iff.rfl
   obtain ⟨l3,f3,u5⟩:=YA.lose (c:=c) (q:=q) (cell:=near.getD i 0) (ss:=c.set) HM.1 HM.2 (D':=fun a t=>((D a t∨((a:Int)∈near.take i/\ ((near.length=2/\ tb c.set t=false)∨(x8=2/\ (cB c pos).getD a false=false/\ tb c.set t=true))))∨((a:Int)=near.getD i 0/\ tb c.set t=false))∨((a:Int)=near.getD i 0/\ tb c.set t=true)) fun j s _ _=>Iff.rfl
   obtain ⟨l4,f4,T4⟩:=hI.lose (c:=c) (q:=q) (cell:=near.getD i 0) (ss:=c.set) HM.1 HM.2 (D':=fun a t=>(D a t∨((a:Int)∈near.take i/\ ((near.length=2/\ tb c.set t=false)∨(x8=2/\ (cB c pos).getD a false=false/\ tb c.set t=true))))∨((a:Int)=near.getD i 0/\ tb c.set t=true)) fun j s _ _=>Iff.rfl
   show ∃ s',P8 n (CQ c q pos pos.length lost n) c q pos pos.length lost (pB c pos) (cB c pos) near.length x8 x20 (v:Int) near.length (near.length:Int) (i:Int) s near=_/\ _
   unfold P8;simp only [yU,yt];rw [yW (by omega),yV,yP ⟨⟨by omega,by omega⟩,hi⟩];have A4: ∀ a:Nat,(a:Int)=near.getD i 0 -> (near.getD i 0).toNat=a:=fun a h=>by omega
   by_cases h2:near.length=2
   ·have b2:(((near.length:Nat):Int)==2)=true:=by rw [h2];rfl
    rw [b2,yV,f2,yX]
    by_cases h8:x8=2
    ·have b8:(x8==2)=true:=by rw [h8];rfl
     rw [b8,yV,yP ⟨by omega,by omega⟩];cases hc:(cB c pos).getD (near.getD i 0).toNat false
     ·rw [zg,yV,f3,yX,yP r1];refine ⟨l3,rfl,u5.id' fun a t _ _=>?_⟩;rw [mem];constructor
      ·rintro (h | ⟨h | h,h3 | ⟨h3,h4,h5⟩⟩)
       ·exact .inl (.inl (.inl h))
       ·exact .inl (.inl (.inr ⟨h,.inl h3⟩))
       ·exact .inl (.inl (.inr ⟨h,.inr ⟨h3,h4,h5⟩⟩))
       ·exact .inl (.inr ⟨h,h3.2⟩)
       ·exact .inr ⟨h,h5⟩
      ·rintro (((h | ⟨h,h3⟩) | ⟨h,h3⟩) | ⟨h,h3⟩)
       ·exact .inl h
       ·exact .inr ⟨.inl h,h3⟩
       ·exact .inr ⟨.inr h,.inl ⟨h2,h3⟩⟩
       ·exact .inr ⟨.inr h,.inr ⟨h8,by rw [←A4 a h];exact hc,h3⟩⟩
     ·rw [zS,yO,yP r1];refine ⟨l2,rfl,YA.id' fun a t _ _=>?_⟩;rw [mem];constructor
      ·rintro (h | ⟨h | h,h3 | ⟨h3,h4,h5⟩⟩)
       ·exact .inl (.inl h)
       ·exact .inl (.inr ⟨h,.inl h3⟩)
       ·exact .inl (.inr ⟨h,.inr ⟨h3,h4,h5⟩⟩)
       ·exact .inr ⟨h,h3.2⟩
       ·rw [←A4 a h,hc] at h4;cases h4
      ·rintro ((h | ⟨h,h3⟩) | ⟨h,h3⟩)
       ·exact .inl h
       ·exact .inr ⟨.inl h,h3⟩
       ·exact .inr ⟨.inr h,.inl ⟨h2,h3⟩⟩
    ·have b8:(x8==2)=false:=zW.2 h8;rw [b8,yO,yP r1];refine ⟨l2,rfl,YA.id' fun a t _ _=>?_⟩;rw [mem];constructor
     ·rintro (h | ⟨h | h,h3 | ⟨h3,h4,h5⟩⟩)
      ·exact .inl (.inl h)
      ·exact .inl (.inr ⟨h,.inl h3⟩)
      ·exact .inl (.inr ⟨h,.inr ⟨h3,h4,h5⟩⟩)
      ·exact .inr ⟨h,h3.2⟩
      ·exact absurd h3 h8
     ·rintro ((h | ⟨h,h3⟩) | ⟨h,h3⟩)
      ·exact .inl h
      ·exact .inr ⟨.inl h,h3⟩
      ·exact .inr ⟨.inr h,.inl ⟨h2,h3⟩⟩
   ·have b2:(((near.length:Nat):Int)==2)=false:=zW.2 (by omega);rw [b2,yO]
    by_cases h8:x8=2
    ·have b8:(x8==2)=true:=by rw [h8];rfl
     rw [b8,yV,yP ⟨by omega,by omega⟩];cases hc:(cB c pos).getD (near.getD i 0).toNat false
     ·rw [zg,yV,f4,yX,yP r1];refine ⟨l4,rfl,T4.id' fun a t _ _=>?_⟩;rw [mem];constructor
      ·rintro (h | ⟨h | h,h3 | ⟨h3,h4,h5⟩⟩)
       ·exact .inl (.inl h)
       ·exact .inl (.inr ⟨h,.inl h3⟩)
       ·exact .inl (.inr ⟨h,.inr ⟨h3,h4,h5⟩⟩)
       ·exact absurd h3.1 h2
       ·exact .inr ⟨h,h5⟩
      ·rintro ((h | ⟨h,h3⟩) | ⟨h,h3⟩)
       ·exact .inl h
       ·exact .inr ⟨.inl h,h3⟩
       ·exact .inr ⟨.inr h,.inr ⟨h8,by rw [←A4 a h];exact hc,h3⟩⟩
     ·rw [zS,yO,yP r1];refine ⟨s,rfl,hI.id' fun a t _ _=>?_⟩;rw [mem];constructor
      ·rintro (h | ⟨h | h,h3 | ⟨h3,h4,h5⟩⟩)
       ·exact .inl h
       ·exact .inr ⟨h,.inl h3⟩
       ·exact .inr ⟨h,.inr ⟨h3,h4,h5⟩⟩
       ·exact absurd h3.1 h2
       ·rw [←A4 a h,hc] at h4;cases h4
      ·rintro (h | ⟨h,h3⟩)
       ·exact .inl h
       ·exact .inr ⟨.inl h,h3⟩
    ·have b8:(x8==2)=false:=zW.2 h8;rw [b8,yO,yP r1];refine ⟨s,rfl,hI.id' fun a t _ _=>?_⟩;rw [mem];constructor
     ·rintro (h | ⟨h | h,h3 | ⟨h3,h4,h5⟩⟩)
      ·exact .inl h
      ·exact .inr ⟨h,.inl h3⟩
      ·exact .inr ⟨h,.inr ⟨h3,h4,h5⟩⟩
      ·exact absurd h3.1 h2
      ·exact absurd h3 h8
     ·rintro (h | ⟨h,h3⟩)
      ·exact .inl h
      ·exact .inr ⟨.inl h,h3⟩)
  near.length 0 (n+1) o1 (by omega) (by omega) (hD.id' fun a t _ _=>by simp)
 refine ⟨l',Eq.trans e ?_,h.id' fun a t _ _=>by rw [List.take_length]⟩
 show P8 n (CQ c q pos pos.length lost n) c q pos pos.length lost (pB c pos) (cB c pos) near.length x8 x20 (v:Int) near.length (near.length:Int) (near.length:Int) l' near=_
 unfold P8;rw [yS (by omega),yO,yP (A2.2 ⟨by omega,by omega⟩)]
end
def iv (c:AB) (q:AA) (pos lost:List Int) (x:Bool×List Int):Prop:=(x.1=true↔MG c q pos)/\ (x.1=true -> CP pos lost (Kw c q pos) x.2)
theorem pv (W:EE c q pos): ∀ (k v:Nat) (o1:List Int),v+k=pos.length -> (∀ u,u<v -> (cB c pos).getD u false=true -> 2<=CE q.nbrs (pB c pos) u/\ CE q.nbrs (cB c pos) u<=2) -> CP pos lost (fun a s=>El c q pos a s∨∃ u,u<v/\ WZ c q pos u a s) o1 ->
 Ae (fun n=>CQ c q pos pos.length lost n (.l1 (pB c pos) (cB c pos) (pos.length:Int) (v:Int) o1)) (iv c q pos lost):=by
 have E6:=W.l1;have DB:=W.gl;have lp:(pB c pos).length=pos.length:=E0;have lc:(cB c pos).length=pos.length:=EW;intro k
 induction k with
 | zero=>
  intro v o1 e CI hL;have e:v=pos.length:=by omega
  subst e;refine Ev.p (r:=(true,o1)) ⟨1,fun n hn=>?_⟩ ⟨⟨fun _ v hv hc=>CI v hv hc,fun _=>rfl⟩,fun _=>hL⟩;obtain ⟨n,rfl⟩: ∃ k,n=k+1:=⟨n-1,by omega⟩
  show QA n (CQ c q pos pos.length lost n) c q pos pos.length lost (pB c pos) (cB c pos) (pos.length:Int) (pos.length:Int) o1=_
  unfold QA;rw [yS (by omega),yO]
 | succ k ih=>
  intro v o1 e CI hL;have hv:v<pos.length:=by omega
  have r1:AL ((v:Int)+1):=A2.2 ⟨by omega,by omega⟩
  have U: ∀ n,CQ c q pos pos.length lost (n+1) (.l1 (pB c pos) (cB c pos) (pos.length:Int) (v:Int) o1)=bif (cB c pos).getD v false then CQ c q pos pos.length lost n (Lk (pB c pos) (cB c pos) (pos.length:Int) (v:Int) (nb q.nbrs v) o1 [] 0 0) else CQ c q pos pos.length lost n (.l1 (pB c pos) (cB c pos) (pos.length:Int) ((v:Int)+1) o1):=fun n=>by
   show QA n (CQ c q pos pos.length lost n) c q pos pos.length lost (pB c pos) (cB c pos) (pos.length:Int) (v:Int) o1=_
   unfold QA;rw [yW (by omega),yV,yP ⟨by omega,by omega⟩,yU,yP r1,yP ⟨by omega,by omega⟩];cases (cB c pos).getD v false <;> rfl
  cases hc:(cB c pos).getD v false
  ·refine Ae.step 1 (fun n=>?_) (ih (v+1) o1 (by omega) (fun u hu QQ=>?_) (hL.id' fun a s _ _=>?_))
   ·rw [U,hc,yO];rfl
   ·rcases yd.1 hu with hu | rfl
    ·exact CI u hu QQ
    ·rw [hc] at QQ;cases QQ
   ·constructor
    ·rintro (h | ⟨u,hu,h⟩)
     ·exact .inl h
     ·rcases yd.1 hu with hu | rfl
      ·exact .inr ⟨u,hu,h⟩
      ·rw [h.1] at hc;cases hc
    ·rintro (h | ⟨u,hu,h⟩)
     ·exact .inl h
     ·exact .inr ⟨u,by omega,h⟩
  ·have MY:=W.g.gr.row (v:Int) (by omega) (by omega)
   have Nz: ∀ u∈nb q.nbrs (v:Int),0<=u/\ u<(pos.length:Int):=fun u hu=>by
    have:=W.g.gr.rng (v:Int) (by omega) (by omega) u hu;omega
   have A:=fun n=>cd (c:=c) (q:=q) (lost:=lost) (o1:=o1) (x20:=(pos.length:Int)) (x21:=(v:Int)) lp lc Nz MY (nb q.nbrs v).length 0 n [] 0 (by omega) (by simp) ⟨zO _,by omega⟩
   rw [zAr,cT,ck,zw,Int.zero_add] at A;have dP:CE q.nbrs (pB c pos) v=((nb q.nbrs v).filter fun x=>(pB c pos).getD x.toNat false).length:=List.countP_eq_length_filter;have dC:CE q.nbrs (cB c pos) v=(nb q.nbrs v).countP fun x=>(cB c pos).getD x.toNat false:=rfl
   rw [←dC] at A
   generalize QU:((nb q.nbrs v).filter fun x=>(pB c pos).getD x.toNat false)=near at A dP
   have DW: ∀ u,u∈near↔u∈nb q.nbrs v/\ (pB c pos).getD u.toNat false=true:=fun u=>by rw [←QU,zAQ]
   have Fj:near.length<=256:=by
    have:=List.length_filter_le (fun x=>(pB c pos).getD x.toNat false) (nb q.nbrs v);rw [QU] at this;omega
   have Tt: ∀ u∈near,0<=u/\ u<(pos.length:Int):=fun u hu=>Nz u ((DW u).1 hu).1
   have U2: ∀ n,CQ c q pos pos.length lost (n+((nb q.nbrs v).length+1)) (.l1 (pB c pos) (cB c pos) (pos.length:Int) (v:Int) o1)=CQ c q pos pos.length lost n (Lk (pB c pos) (cB c pos) (pos.length:Int) (v:Int) (nb q.nbrs v) o1 near (CE q.nbrs (cB c pos) v:Int) ((nb q.nbrs v).length:Int)):=fun n=>by
    rw [←zN,U,hc,yV];exact A n
   refine Ae.step _ U2 ?_
   by_cases hbad:CE q.nbrs (pB c pos) v<2∨2<CE q.nbrs (cB c pos) v
   ·have Jz: ¬ MG c q pos:=fun h=>by have:=h v hv hc;omega
    refine Ev.p (r:=(false,o1)) ⟨1,fun n hn=>?_⟩ ⟨⟨fun h=>(by cases h),fun h=>absurd h Jz⟩,fun h=>(by cases h)⟩;obtain ⟨n,rfl⟩: ∃ k,n=k+1:=⟨n-1,by omega⟩;cases near with
    | nil=>
     show P9 n (CQ c q pos pos.length lost n) c q pos pos.length lost (pB c pos) (cB c pos) (CE q.nbrs (cB c pos) v:Int) (pos.length:Int) (v:Int) (nb q.nbrs v) ((nb q.nbrs v).length:Int) ((nb q.nbrs v).length:Int) o1=_
     unfold P9;rw [yS (by omega),yO]
    | cons a l=>
     show MF n (CQ c q pos pos.length lost n) c q pos pos.length lost (pB c pos) (cB c pos) (a::l).length (CE q.nbrs (cB c pos) v:Int) (pos.length:Int) (v:Int) (nb q.nbrs v) ((nb q.nbrs v).length:Int) ((nb q.nbrs v).length:Int) o1 (a::l)=_
     unfold MF;rw [yS (by omega),yO]
     by_cases h2:(((a::l).length:Nat):Int)<2
     ·rw [yW h2,yV]
     ·rw [yS h2,yO,yW (by omega),yV]
   ·have Ap:near≠[]:=by
     intro h;rw [h,zm] at dP;omega
    obtain ⟨l',e4,T4⟩:=iV (c:=c) (q:=q) (lost:=lost) (o1:=o1) (near:=near) (x20:=(pos.length:Int)) (x8:=(CE q.nbrs (cB c pos) v:Int)) (n:=0) W hL Tt Fj hv;have e5: ∀ n,∃ l',CQ c q pos pos.length lost (n+1+near.length) (.l4 (pB c pos) (cB c pos) near.length (CE q.nbrs (cB c pos) v:Int) (pos.length:Int) (v:Int) near.length (near.length:Int) 0 o1 near)=CQ c q pos pos.length lost n (.l1 (pB c pos) (cB c pos) (pos.length:Int) ((v:Int)+1) l')/\ _:=fun n=>iV (c:=c) (q:=q) (lost:=lost) (o1:=o1) (near:=near) (x20:=(pos.length:Int)) (x8:=(CE q.nbrs (cB c pos) v:Int)) (n:=n) W hL Tt Fj hv
    have IH:=ih (v+1) l' (by omega) (fun u hu QQ=>by
     rcases yd.1 hu with hu | rfl
     ·exact CI u hu QQ
     ·omega) (T4.id' fun a s _ _=>by
     constructor
     ·rintro (h | ⟨u,hu,h⟩)
      ·exact .inl (.inl h)
      ·rcases yd.1 hu with hu | rfl
       ·exact .inl (.inr ⟨u,hu,h⟩)
       ·obtain ⟨h1,h2,h3,h4⟩:=h;refine .inr ⟨(DW _).2 ⟨h2,by rw [yU];exact h3⟩,?_⟩;rcases h4 with ⟨h4,h5⟩ | ⟨h4,h5⟩
        ·exact .inl ⟨by omega,h5⟩
        ·exact .inr ⟨by omega,h5⟩
     ·rintro ((h | ⟨u,hu,h⟩) | ⟨h1,h2⟩)
      ·exact .inl h
      ·exact .inr ⟨u,by omega,h⟩
      ·obtain ⟨h3,h4⟩:=(DW _).1 h1;rw [yU] at h4;refine .inr ⟨v,by omega,hc,h3,h4,?_⟩;rcases h2 with ⟨h2,h5⟩ | ⟨h2,h5⟩
       ·exact .inl ⟨by omega,h5⟩
       ·exact .inr ⟨by omega,h5⟩)
    refine Ae.step (1+near.length+1) (g:=fun n=>CQ c q pos pos.length lost n (.l1 (pB c pos) (cB c pos) (pos.length:Int) ((v:Int)+1) l')) (fun n=>?_) IH;obtain ⟨l2,e6,u4⟩:=e5 n;have:l2=l':=u4.unique T4;subst this;rw [aO Ap,show n+(1+near.length+1)=n+1+near.length+1 by omega,←e6]
    show MF (n+1+near.length) (CQ c q pos pos.length lost (n+1+near.length)) c q pos pos.length lost (pB c pos) (cB c pos) near.length (CE q.nbrs (cB c pos) v:Int) (pos.length:Int) (v:Int) (nb q.nbrs v) ((nb q.nbrs v).length:Int) ((nb q.nbrs v).length:Int) o1 near=_
    unfold MF;rw [yS (by omega),yO,yS (by omega),yO,yS (by omega),yO]
theorem pw (W:EE c q pos) (hL:CP pos lost (fun _ _=>False) lost):Ae (fun n=>TH n c q pos pos.length lost) (iv c q pos lost):=by
 have E6:=W.l1;obtain ⟨r,_,hF⟩:=QL (l:=cB c pos) (by rw [EW];exact E6);obtain ⟨l0,h1,h2⟩:=cV W hL hF;refine Ae.bind h1 (b:=fun n y1=>CQ c q pos pos.length lost n (.l1 y1.1 y1.2.1 (y1.2.1.length:Int) 0 y1.2.2.2)) ?_;have:=pv (q:=q) W pos.length 0 l0 (by omega) (fun u hu=>absurd hu (yg u)) (h2.id' fun a s _ _=>⟨fun h=>h.elim id fun ⟨u,hu,_⟩=>absurd hu (yg u),.inl⟩);refine this.eq fun n=>?_
 show CQ c q pos pos.length lost n (.l1 (pB c pos) (cB c pos) ((cB c pos).length:Int) 0 l0)=_
 rw [EW];rfl
end
end Go.Proofs.YtgkhhfnhacibcaaGreatDoor
namespace Go.Proofs.YtgkhhfnhacibcaaGreatDoor
open Go.RowKit
set_option maxRecDepth 100000
set_option maxHeartbeats 40000000
theorem lX:A0 (BG Tryz.f44 6) [([0,1,2,3,4,5,6,7,8],9),([10],11)] [12] []:=by unfold A0;kernel_rfl
theorem lY:A0 (BG Tryz.f44 13) [] (List.range 13) [13]:=by unfold A0;kernel_rfl
def Dd:Bh:=fun i=>match i with
 | 6=>.ord [([0,1,2,3,4,5,6,7,8],9),([10],11)] [12] []
 | 13=>.ord [] (List.range 13) [13]
 | _=>.no
def tK (q:AA) (pos:List Int):DH:=[some (.cells (AE q)),some (.cells [.cst .nilFunc,.fn 68 0 (L1 []),.fn 69 0 (L1 []),.fn 70 0 (L1 []),.fn 71 0 (L1 []),.fn 72 0 (L1 []),.fn 73 0 (L1 []),.fn 74 0 (L1 []),.fn 75 0 (L1 []),.fn 76 0 (L1 [])]),some (.ints (List.replicate pos.length (0:Int)))]
def Jy (q:AA) (pos:List Int) (i:Int):DH:=[some (.cells (AE q)),some (.cells [.cst .nilFunc,.fn 68 0 (L1 []),.fn 69 0 (L1 []),.fn 70 0 (L1 []),.fn 71 0 (L1 []),.fn 72 0 (L1 []),.fn 73 0 (L1 []),.fn 74 0 (L1 []),.fn 75 0 (L1 []),.fn 76 0 (L1 [])]),some (.ints (List.replicate pos.length (0:Int))),some (.ints (List.replicate pos.length (0:Int))),some (.cells (AG (q.cons.getD ((i).toNat) default)++AE q++[.ints pos,.msl 3 1 0 pos.length]))]
def tJ (pos:List Int) (q:AA) (i:Int) (o2:List Int):DH:=[some (.ints (List.replicate pos.length (0:Int))),some (.cells (AG (q.cons.getD ((i).toNat) default)++AE q++[.ints pos,.msl 2 1 0 pos.length])),some (.ints o2)]
def tI (pos:List Int) (q:AA) (i:Int) (o2 o3:List Int):DH:=[some (.ints (List.replicate pos.length (0:Int))),some (.cells (AG (q.cons.getD ((i).toNat) default)++AE q++[.ints pos,.msl 2 1 0 pos.length])),some (.ints o2),some (.ints o3)]
inductive Pg where
 | l1 (o2:List Int)
 | l2 (Ah:Nat) (KQ B5:Int) (o2 o3:List Int)
def V9 (n:Nat) (self:Pg -> Option ((List Int))) (q:AA) (i:Int) (pos:List Int) (o2:List Int):Option ((List Int)):=
 (Um n pos).bind fun y1=>
  self (.l2 y1.length (y1.length:Int) 0 o2 y1)
def Pf (n:Nat) (self:Pg -> Option ((List Int))) (q:AA) (i:Int) (pos:List Int) (Ah:Nat) (KQ B5:Int) (o2 o3:List Int):Option ((List Int)):=
 bif (decide (B5<KQ)) then
  if (0<=B5/\ B5<(Ah:Int))/\ 0+((B5).toNat)<o3.length/\ (0<=B5/\ B5<(pos.length:Int))/\ 0+((B5).toNat)<o2.length/\ AL (B5+1) then
   self (.l2 Ah KQ (B5+1) o2 (o3.set (0+((B5).toNat)) (bits .andNot .i64 (o3.getD (0+((B5).toNat)) 0) (o2.getD (0+((B5).toNat)) 0))))
  else none
 else
  if Ah=o3.length then
   (Nt n o3).bind fun y1=>
    bif y1 then
     if pos.length=(List.replicate pos.length (0:Int)).length then
      some (List.replicate pos.length (0:Int))
     else none
    else
     some o3
  else none
def WB (n:Nat) (self:Pg -> Option ((List Int))) (q:AA) (i:Int) (pos:List Int):Option ((List Int)):=
 if ((pos.length:Int):Int)=(pos.length:Int)/\ 0<=(pos.length:Int)/\ ((pos.length:Int):Int)<=1000000000000 then
  (Nt n pos).bind fun y1=>
   bif y1 then
    if pos.length=(List.replicate pos.length (0:Int)).length then
     some (List.replicate pos.length (0:Int))
    else none
   else
    if 0<=i/\ i<(q.cons.length:Int) then
     bif (((q.cons.getD ((i).toNat) default).kind)==0) then
      none
     else
      bif (((q.cons.getD ((i).toNat) default).kind)==1) then
       (OZ n (q.cons.getD ((i).toNat) default) q pos pos.length (List.replicate pos.length (0:Int))).bind fun y2=>
        bif (!y2.1) then
         if pos.length=(List.replicate pos.length (0:Int)).length then
          some (List.replicate pos.length (0:Int))
         else none
        else
         self (.l1 y2.2)
      else
       bif (((q.cons.getD ((i).toNat) default).kind)==2) then
        (Ob n (q.cons.getD ((i).toNat) default) q pos pos.length (List.replicate pos.length (0:Int))).bind fun y2=>
         bif (!y2.1) then
          if pos.length=(List.replicate pos.length (0:Int)).length then
           some (List.replicate pos.length (0:Int))
          else none
         else
          self (.l1 y2.2)
       else
        bif (((q.cons.getD ((i).toNat) default).kind)==3) then
         (NJ n (q.cons.getD ((i).toNat) default) q pos pos.length (List.replicate pos.length (0:Int))).bind fun y2=>
          bif (!y2.1) then
           if pos.length=(List.replicate pos.length (0:Int)).length then
            some (List.replicate pos.length (0:Int))
           else none
          else
           self (.l1 y2.2)
        else
         bif (((q.cons.getD ((i).toNat) default).kind)==4) then
          (Kk n (q.cons.getD ((i).toNat) default) q pos pos.length (List.replicate pos.length (0:Int))).bind fun y2=>
           bif (!y2.1) then
            if pos.length=(List.replicate pos.length (0:Int)).length then
             some (List.replicate pos.length (0:Int))
            else none
           else
            self (.l1 y2.2)
         else
          bif (((q.cons.getD ((i).toNat) default).kind)==5) then
           (NR n (q.cons.getD ((i).toNat) default) q pos pos.length (List.replicate pos.length (0:Int))).bind fun y2=>
            bif (!y2.1) then
             if pos.length=(List.replicate pos.length (0:Int)).length then
              some (List.replicate pos.length (0:Int))
             else none
            else
             self (.l1 y2.2)
          else
           bif (((q.cons.getD ((i).toNat) default).kind)==6) then
            (M9 n (q.cons.getD ((i).toNat) default) q pos pos.length (List.replicate pos.length (0:Int))).bind fun y2=>
             bif (!y2.1) then
              if pos.length=(List.replicate pos.length (0:Int)).length then
               some (List.replicate pos.length (0:Int))
              else none
             else
              self (.l1 y2.2)
           else
            bif (((q.cons.getD ((i).toNat) default).kind)==7) then
             (MA n (q.cons.getD ((i).toNat) default) q pos pos.length (List.replicate pos.length (0:Int))).bind fun y2=>
              bif (!y2.1) then
               if pos.length=(List.replicate pos.length (0:Int)).length then
                some (List.replicate pos.length (0:Int))
               else none
              else
               self (.l1 y2.2)
            else
             bif (((q.cons.getD ((i).toNat) default).kind)==8) then
              (Ug n (q.cons.getD ((i).toNat) default) q pos pos.length (List.replicate pos.length (0:Int))).bind fun y2=>
               bif (!y2.1) then
                if pos.length=(List.replicate pos.length (0:Int)).length then
                 some (List.replicate pos.length (0:Int))
                else none
               else
                self (.l1 y2.2)
             else
              bif (((q.cons.getD ((i).toNat) default).kind)==9) then
               (TH n (q.cons.getD ((i).toNat) default) q pos pos.length (List.replicate pos.length (0:Int))).bind fun y2=>
                bif (!y2.1) then
                 if pos.length=(List.replicate pos.length (0:Int)).length then
                  some (List.replicate pos.length (0:Int))
                 else none
                else
                 self (.l1 y2.2)
              else
               none
    else none
 else none
def Ht (q:AA) (i:Int) (pos:List Int):Nat -> Pg -> Option ((List Int))
 | 0,_=>none
 | n+1,.l1 o2=>V9 n (Ht q i pos n) q i pos o2
 | n+1,.l2 Ah KQ B5 o2 o3=>Pf n (Ht q i pos n) q i pos Ah KQ B5 o2 o3
def Hu (n:Nat) (q:AA) (i:Int) (pos:List Int):Option ((List Int)):=WB n (Ht q i pos n) q i pos
def n7 (n B:Nat) (N:Yd 0) (q:AA) (i:Int) (pos:List Int) (r:(List Int)):Pg -> Prop
 | .l1 o2=>TW B N (FQ Tryz.f44 0 (.ints r) []) (CW (Ab Tryz.f44) 9 []) ⟨AM 69 [(2,.ints pos),(8,.msl 0 1 0 pos.length),(9,.ref 1 0)],[some (.ints (List.replicate pos.length (0:Int))),some (.cells (AG (q.cons.getD ((i).toNat) default)++AE q++[.ints pos,.msl 2 1 0 pos.length])),some (.ints o2)]⟩
 | .l2 Ah KQ B5 o2 o3=>∀ m0:Nat,n<=m0 -> TW B N (FQ Tryz.f44 0 (.ints r) []) (A4 m0 (BF (Ab Tryz.f44) 0 [])) ⟨AM 69 [(8,.msl 0 1 0 pos.length),(9,.ref 1 0),(10,.msl 3 1 0 Ah),(47,.i KQ),(48,.i B5)],[some (.ints (List.replicate pos.length (0:Int))),some (.cells (AG (q.cons.getD ((i).toNat) default)++AE q++[.ints pos,.msl 2 1 0 pos.length])),some (.ints o2),some (.ints o3)]⟩
theorem n8 (B:Nat) (N:Yd 0) (q:AA) (i:Int) (pos:List Int):Al (Ht q i pos) (n7 · B N q i pos):=ia (fun _=>rfl) fun n AH pt r h=>by
 cases pt
 case l1 o2=>
  revert r;apply gO;exact cn fun y1 BB=>jc (ES.snapNew (ds:=[.ints pos]) (xC BB) (tJ pos q i o2) (ZE (by kernel_rfl)) rfl) (lN Dd [0,1,2,3] (AH _ _ · n Nat.le.refl))
 case l2 Ah KQ B5 o2 o3=>
  intro m0 AC;refine rd AC fun m0 AC=>?_
  revert r;apply gO;exact bi 49 (jg lY (gc (gn fun g0=>jg g0 (gc (gn fun g1=>jg g1 (gc (gi (gc (gi (jg g0 (jg g1 (gw 64 (lG (AI 9 Dd) [0,1,2,3] (AH _ _ · m0 AC)))))))))))))) (gn fun g0=>cn fun y1 BB=>jc (sb [.msl 3 1 0 Ah] (df BB) (tI pos q i o2 o3) ⟨Aa.ints rfl g0,trivial⟩) (bi 66 (gn fun g1=>lF fun p=>ez (AI 9 Dd) [6] [0] p [0] (H0.g g1)) (lF fun p=>ez (AI 9 Dd) [6] [3] p [0] (H0.g g0))))
theorem bo {n:Nat} {q:AA} {i:Int} {pos:List Int} {r:(List Int)} (h:Hu n q i pos=some r):EQ 44 [.agg 5 (L1 (AE q)),.i i,.ints pos] [] (.ints r) [] true:=by
 have AH:=fun B N=>(n8 B N q i pos n)
 refine ot Tryz.func44 fun B N=>?_
 revert r;apply gO;exact jt (gn fun g0=>jg g0 (cf df (tK q pos) fun _=>bi 18 (gn fun g1=>lF fun p=>ez (AI 9 Dd) [6] [2] p [0] (H0.g g1)) (jg lX (gi (jg g0 (bn (fun c1=>nO) (fun c1=>bn (fun c3=>jo 36 (AS.int (k:=.i64) (eq_of_beq c3)) (jg (by decide:(0:Int)<=1/\ 1<((10:Nat):Int)) (ce wO [4,3] (Jy q pos i) fun _=>bi 42 (gn fun g2=>lF fun p=>ez (AI 9 Dd) [6] [2] p [0] (H0.g g2)) (lG (AI 9 Dd) [2,4,3] ((AH B N) _ _ ·))))) (fun c3=>bn (fun c5=>jo 36 (AS.int (k:=.i64) (eq_of_beq c5)) (jg (by decide:(0:Int)<=2/\ 2<((10:Nat):Int)) (ce wb [4,3] (Jy q pos i) fun _=>bi 42 (gn fun g2=>lF fun p=>ez (AI 9 Dd) [6] [2] p [0] (H0.g g2)) (lG (AI 9 Dd) [2,4,3] ((AH B N) _ _ ·))))) (fun c5=>bn (fun c7=>jo 36 (AS.int (k:=.i64) (eq_of_beq c7)) (jg (by decide:(0:Int)<=3/\ 3<((10:Nat):Int)) (ce js [4,3] (Jy q pos i) fun _=>bi 42 (gn fun g2=>lF fun p=>ez (AI 9 Dd) [6] [2] p [0] (H0.g g2)) (lG (AI 9 Dd) [2,4,3] ((AH B N) _ _ ·))))) (fun c7=>bn (fun c9=>jo 36 (AS.int (k:=.i64) (eq_of_beq c9)) (jg (by decide:(0:Int)<=4/\ 4<((10:Nat):Int)) (ce nE [4,3] (Jy q pos i) fun _=>bi 42 (gn fun g2=>lF fun p=>ez (AI 9 Dd) [6] [2] p [0] (H0.g g2)) (lG (AI 9 Dd) [2,4,3] ((AH B N) _ _ ·))))) (fun c9=>bn (fun g9=>jo 36 (AS.int (k:=.i64) (eq_of_beq g9)) (jg (by decide:(0:Int)<=5/\ 5<((10:Nat):Int)) (ce mW [4,3] (Jy q pos i) fun _=>bi 42 (gn fun g2=>lF fun p=>ez (AI 9 Dd) [6] [2] p [0] (H0.g g2)) (lG (AI 9 Dd) [2,4,3] ((AH B N) _ _ ·))))) (fun g9=>bn (fun g8=>jo 36 (AS.int (k:=.i64) (eq_of_beq g8)) (jg (by decide:(0:Int)<=6/\ 6<((10:Nat):Int)) (ce xu [4,3] (Jy q pos i) fun _=>bi 42 (gn fun g2=>lF fun p=>ez (AI 9 Dd) [6] [2] p [0] (H0.g g2)) (lG (AI 9 Dd) [2,4,3] ((AH B N) _ _ ·))))) (fun g8=>bn (fun gy=>jo 36 (AS.int (k:=.i64) (eq_of_beq gy)) (jg (by decide:(0:Int)<=7/\ 7<((10:Nat):Int)) (ce pD [4,3] (Jy q pos i) fun _=>bi 42 (gn fun g2=>lF fun p=>ez (AI 9 Dd) [6] [2] p [0] (H0.g g2)) (lG (AI 9 Dd) [2,4,3] ((AH B N) _ _ ·))))) (fun gy=>bn (fun gx=>jo 36 (AS.int (k:=.i64) (eq_of_beq gx)) (jg (by decide:(0:Int)<=8/\ 8<((10:Nat):Int)) (ce wt [4,3] (Jy q pos i) fun _=>bi 42 (gn fun g2=>lF fun p=>ez (AI 9 Dd) [6] [2] p [0] (H0.g g2)) (lG (AI 9 Dd) [2,4,3] ((AH B N) _ _ ·))))) (fun gx=>bn (fun gv=>jo 36 (AS.int (k:=.i64) (eq_of_beq gv)) (jg (by decide:(0:Int)<=9/\ 9<((10:Nat):Int)) (ce px [4,3] (Jy q pos i) fun _=>bi 42 (gn fun g2=>lF fun p=>ez (AI 9 Dd) [6] [2] p [0] (H0.g g2)) (lG (AI 9 Dd) [2,4,3] ((AH B N) _ _ ·))))) (fun gv=>nO))))))))))))))))
def br (n:Nat) (q:AA) (i:Int) (pos:List Int):Option ((List Int)×Int):=
 (M2 n q i pos).bind fun y1=>
  bif (y1 != 0) then
   some (([]:List Int),y1)
  else
   (Hu n q i pos).bind fun y2=>
    some (y2,0)
def Hv (n:Nat) (q:AA) (i:Int) (pos:List Int):Option ((List Int)×Int):=br n q i pos
theorem Sf {n:Nat} {q:AA} {i:Int} {pos:List Int} {r:(List Int)×Int} (h:Hv n q i pos=some r):EQ 15 [.agg 5 (L1 (AE q)),.i i,.ints pos] [] (.tup 2 (L1 [.ints r.1,.i r.2])) [] true:=by
 unfold Hv br at h;refine ot Tryz.func15 fun B N=>?_
 revert r;apply gO;exact cf gY [some (.cells (AE q))] fun y1=>bi 14 (lF fun p=>el AF [6,7] [] p [] H0 [.nils,.i y1] (AS.tupL (l:=[.nils,.i y1]) (l':=[.ints ([]:List Int),.i y1]) rfl ⟨AS.ints_nil,AK,trivial⟩)) (cf bo [some (.cells (AE q))] fun _=>lE AF [6,7] [])
theorem av:A0 (BG Tryz.f52 8) [([0,1,2,3,4,5,6,7,8],9)] [] []:=by unfold A0;kernel_rfl
def Fs:Bh:=fun i=>match i with
 | 8=>.ord [([0,1,2,3,4,5,6,7,8],9)] [] []
 | _=>.no
def tZ (AV:Int) (pos x9:List Int):DH:=[some (.cells [.nils]),some (.cells [.i AV]),some (.iter ((BK (bits .andNot .i64 (pos.getD ((AV).toNat) 0) (x9.getD ((AV).toNat) 0))).map BV))]
def tY (Cn:Nat) (AV:Int) (pos x9:List Int) (o1:List (Int×Int)):DH:=[some (.cells [.msl 3 2 0 Cn]),some (.cells [.i AV]),some (.iter ((BK (bits .andNot .i64 (pos.getD ((AV).toNat) 0) (x9.getD ((AV).toNat) 0))).map BV)),some (.arr 2 o1.length (Aq DI o1))]
def tX (Ik:Nat) (Ey:Int) (Fa:List (Int×Int)):DH:=[some (.cells [.msl 3 2 0 Ik]),some (.cells [.i Ey]),none,some (.arr 2 Fa.length (Aq DI Fa))]
def tW (Il:Nat) (AV:Int) (Fb:List (Int×Int)):DH:=[some (.cells [.msl 3 2 0 Il]),some (.cells [.i AV]),none,some (.arr 2 Fb.length (Aq DI Fb))]
inductive Ku where
 | s0 (Il:Nat) (Fb:List (Int×Int))
def dA (pos x9:List Int) (AV:Int):Ku -> DH
 | .s0 Il Fb=>[some (.cells [.msl 3 2 0 Il]),some (.cells [.i AV]),none,some (.arr 2 Fb.length (Aq DI Fb))]
def pn (n:Nat) (pos x9:List Int) (AV B0:Int) (Il:Nat) (Fb:List (Int×Int)):Option Ku:=
 if Il=Fb.length/\ Fb.length+([(AV,B0)]:List (Int×Int)).length<=Ax then
  some (.s0 (Fb.length+([(AV,B0)]:List (Int×Int)).length) (Fb++([(AV,B0)]:List (Int×Int))))
 else none
def pm (n:Nat) (pos x9:List Int) (AV B0:Int):Ku -> Option Ku
 | .s0 Il Fb=>pn n pos x9 AV B0 Il Fb
def dB (n:Nat) (pos x9:List Int) (AV B0:Int) (s:Ku):Option Ku:=pm n pos x9 AV B0 s
theorem pk (n:Nat) (pos x9:List Int) (AV:Int) (l B:Nat) (N:Yd 3) (B0:Int) (s:Ku) (r:Ku) (h:dB n pos x9 AV B0 s=some r):TA l B N (Cs 3 [] 0 (dA pos x9 AV r)) Tryz.f52 37 ⟨AM 47 [(2,.ints pos),(6,.ref 0 0),(9,.ints x9),(10,.ref 1 0),(24,.i (pos.length:Int)),(25,.i AV),(37,.it 2),(38,.i B0)],dA pos x9 AV s⟩:=by
 cases s with
 | s0 Il Fb=>
  refine ag Fs [0,1,2,3] H0 (AM 47 [(6,.ref 0 0),(10,.ref 1 0),(11,.i B0)]) (tW Il AV Fb) fun N=>?_
  revert r;apply gO;exact ja 43 4 2 (DQ (c:=DI) (L:=([(AV,B0)]:List (Int×Int))) (vals:=[.agg 2 (L1 [.i AV,.i B0])]) rfl ⟨⟨_,rfl,⟨AK,AK,trivial⟩⟩,trivial⟩) (gc (gn fun xe=>gn fun xd=>jg (And.intro (And.intro (And.intro (Eq.refl 0) (Eq.refl 1)) (Fy DI ([(AV,B0)]:List (Int×Int)) (([(AV,B0)]:List (Int×Int)).length) 2 fun _=>⟨rfl,rfl⟩)) (And.intro (And.intro (Eq.refl 0) xe) xd)) (ja 44 5 2 (Ig (enc:=(JC DI)) (L:=Fb) (L':=([(AV,B0)]:List (Int×Int))) rfl rfl fun _ _ _ _=>AK) (jt (lF fun p=>rr Fs [0,1,2,5] rfl p)))))
inductive Jn where
 | s0
 | s1 (Ik:Nat) (Ey:Int) (Fa:List (Int×Int))
def c8 (pos x9:List Int) (AV:Int):Jn -> DH
 | .s0=>[some (.cells [.nils]),some (.cells [.i AV]),none]
 | .s1 Ik Ey Fa=>[some (.cells [.msl 3 2 0 Ik]),some (.cells [.i Ey]),none,some (.arr 2 Fa.length (Aq DI Fa))]
def pj (n:Nat) (pos x9:List Int) (AV B0:Int):Option Jn:=
 some (.s1 (([(AV,B0)]:List (Int×Int)).length) AV ([(AV,B0)]:List (Int×Int)))
def pi (n:Nat) (pos x9:List Int) (AV B0:Int) (Ik:Nat) (Ey:Int) (Fa:List (Int×Int)):Option Jn:=
 if Ik=Fa.length/\ Fa.length+([(Ey,B0)]:List (Int×Int)).length<=Ax then
  some (.s1 (Fa.length+([(Ey,B0)]:List (Int×Int)).length) Ey (Fa++([(Ey,B0)]:List (Int×Int))))
 else none
def ph (n:Nat) (pos x9:List Int) (AV B0:Int):Jn -> Option Jn
 | .s0=>pj n pos x9 AV B0
 | .s1 Ik Ey Fa=>pi n pos x9 AV B0 Ik Ey Fa
def dD (n:Nat) (pos x9:List Int) (AV B0:Int) (s:Jn):Option Jn:=ph n pos x9 AV B0 s
theorem pg (n:Nat) (pos x9:List Int) (AV:Int) (l B:Nat) (N:Yd 3) (B0:Int) (s:Jn) (r:Jn) (h:dD n pos x9 AV B0 s=some r):TA l B N (Cs 3 [] 0 (c8 pos x9 AV r)) Tryz.f52 37 ⟨AM 47 [(2,.ints pos),(6,.ref 0 0),(9,.ints x9),(10,.ref 1 0),(24,.i (pos.length:Int)),(25,.i AV),(37,.it 2),(38,.i B0)],c8 pos x9 AV s⟩:=by
 cases s with
 | s0=>
  refine ag Fs [0,1,2] H0 (AM 47 [(6,.ref 0 0),(10,.ref 1 0),(11,.i B0)]) [some (.cells [.nils]),some (.cells [.i AV]),none] fun N=>?_
  revert r;apply gO;exact ja 43 3 2 (DQ (c:=DI) (L:=([(AV,B0)]:List (Int×Int))) (vals:=[.agg 2 (L1 [.i AV,.i B0])]) rfl ⟨⟨_,rfl,⟨AK,AK,trivial⟩⟩,trivial⟩) (jg (And.intro (And.intro (And.intro (Eq.refl 0) (Eq.refl 1)) (Fy DI ([(AV,B0)]:List (Int×Int)) (([(AV,B0)]:List (Int×Int)).length) 2 fun _=>⟨rfl,rfl⟩)) (And.intro (by decide:0<1) (by decide:1<=Ax))) (jt (lF fun p=>rr Fs [0,1,2,4] rfl p)))
 | s1 Ik Ey Fa=>
  refine ag Fs [0,1,2,3] H0 (AM 47 [(6,.ref 0 0),(10,.ref 1 0),(11,.i B0)]) (tX Ik Ey Fa) fun N=>?_
  revert r;apply gO;exact ja 43 4 2 (DQ (c:=DI) (L:=([(Ey,B0)]:List (Int×Int))) (vals:=[.agg 2 (L1 [.i Ey,.i B0])]) rfl ⟨⟨_,rfl,⟨AK,AK,trivial⟩⟩,trivial⟩) (gc (gn fun xg=>gn fun xf=>jg (And.intro (And.intro (And.intro (Eq.refl 0) (Eq.refl 1)) (Fy DI ([(Ey,B0)]:List (Int×Int)) (([(Ey,B0)]:List (Int×Int)).length) 2 fun _=>⟨rfl,rfl⟩)) (And.intro (And.intro (Eq.refl 0) xg) xf)) (ja 44 5 2 (Ig (enc:=(JC DI)) (L:=Fa) (L':=([(Ey,B0)]:List (Int×Int))) rfl rfl fun _ _ _ _=>AK) (jt (lF fun p=>rr Fs [0,1,2,5] rfl p)))))
inductive P7 where
 | l1 (x9:List Int) (AV:Int)
 | l2 (x9:List Int) (AV:Int) (Cn:Nat) (o1:List (Int×Int))
def pd (n:Nat) (self:P7 -> Option ((List (Int×Int))×Int)) (q:AA) (i:Int) (pos:List Int) (x9:List Int) (AV:Int):Option ((List (Int×Int))×Int):=
 bif (decide (AV<(pos.length:Int))) then
  if (0<=AV/\ AV<(pos.length:Int))/\ (0<=AV/\ AV<(x9.length:Int))/\ (0<=(bits .andNot .i64 (pos.getD ((AV).toNat) 0) (x9.getD ((AV).toNat) 0))/\ (bits .andNot .i64 (pos.getD ((AV).toNat) 0) (x9.getD ((AV).toNat) 0))<9223372036854775808) then
   (By (dD n pos x9 AV) (BK (bits .andNot .i64 (pos.getD ((AV).toNat) 0) (x9.getD ((AV).toNat) 0))) (.s0)).bind fun y1=>
    match y1 with
    | .s0=>
     if AL (AV+1) then
      self (.l1 x9 (AV+1))
     else none
    | .s1 JJ JI ZK=>
     if AL (AV+1) then
      self (.l2 x9 (AV+1) JJ ZK)
     else none
  else none
 else
  some (([]:List (Int×Int)),0)
def pc (n:Nat) (self:P7 -> Option ((List (Int×Int))×Int)) (q:AA) (i:Int) (pos:List Int) (x9:List Int) (AV:Int) (Cn:Nat) (o1:List (Int×Int)):Option ((List (Int×Int))×Int):=
 bif (decide (AV<(pos.length:Int))) then
  if (0<=AV/\ AV<(pos.length:Int))/\ (0<=AV/\ AV<(x9.length:Int))/\ (0<=(bits .andNot .i64 (pos.getD ((AV).toNat) 0) (x9.getD ((AV).toNat) 0))/\ (bits .andNot .i64 (pos.getD ((AV).toNat) 0) (x9.getD ((AV).toNat) 0))<9223372036854775808) then
   (By (dB n pos x9 AV) (BK (bits .andNot .i64 (pos.getD ((AV).toNat) 0) (x9.getD ((AV).toNat) 0))) (.s0 Cn o1)).bind fun y1=>
    match y1 with
    | .s0 Cu Ct=>
     if AL (AV+1) then
      self (.l2 x9 (AV+1) Cu Ct)
     else none
  else none
 else
  if Cn=o1.length then
   some (o1,0)
  else none
def pf (n:Nat) (self:P7 -> Option ((List (Int×Int))×Int)) (q:AA) (i:Int) (pos:List Int):Option ((List (Int×Int))×Int):=
 (M2 n q i pos).bind fun y1=>
  bif (y1 != 0) then
   some (([]:List (Int×Int)),y1)
  else
   (Hu n q i pos).bind fun y2=>
    self (.l1 y2 0)
def TG (q:AA) (i:Int) (pos:List Int):Nat -> P7 -> Option ((List (Int×Int))×Int)
 | 0,_=>none
 | n+1,.l1 x9 AV=>pd n (TG q i pos n) q i pos x9 AV
 | n+1,.l2 x9 AV Cn o1=>pc n (TG q i pos n) q i pos x9 AV Cn o1
def dE (n:Nat) (q:AA) (i:Int) (pos:List Int):Option ((List (Int×Int))×Int):=pf n (TG q i pos n) q i pos
def po (n B:Nat) (N:Yd 0) (q:AA) (i:Int) (pos:List Int) (r:(List (Int×Int))×Int):P7 -> Prop
 | .l1 x9 AV=>∀ m0:Nat,n<=m0 -> TW B N (FQ Tryz.f52 0 (.tup 2 (L1 [.sl 2 r.1.length (Aq DI r.1),.i r.2])) []) (A4 m0 (BF (Ab Tryz.f52) 0 [])) ⟨AM 47 [(2,.ints pos),(6,.ref 0 0),(9,.ints x9),(24,.i (pos.length:Int)),(25,.i AV)],[some (.cells [.nils])]⟩
 | .l2 x9 AV Cn o1=>∀ m0:Nat,n<=m0 -> TW B N (FQ Tryz.f52 0 (.tup 2 (L1 [.sl 2 r.1.length (Aq DI r.1),.i r.2])) []) (A4 m0 (BF (Ab Tryz.f52) 0 [])) ⟨AM 47 [(2,.ints pos),(6,.ref 0 0),(9,.ints x9),(24,.i (pos.length:Int)),(25,.i AV)],[some (.cells [.msl 1 2 0 Cn]),some (.arr 2 o1.length (Aq DI o1))]⟩
theorem pp (B:Nat) (N:Yd 0) (q:AA) (i:Int) (pos:List Int):Al (TG q i pos) (po · B N q i pos):=ia (fun _=>rfl) fun n AH pt r h=>by
 cases pt
 case l1 x9 AV=>
  intro m0 AC;refine rd AC fun m0 AC=>?_
  revert r;apply gO
  exact bi 26 (jt (jg av (gc (gi (gc (gi (gn fun g2=>jc (Hl g2 [some (.cells [.nils]),some (.cells [.i AV])]) (cn fun y1 BB=>fun p r h=>by
   refine gs Fs [0,1,2] p (Fl (Ab Tryz.f52) 37 [m0]) (AM 47 [(2,.ints pos),(6,.ref 0 0),(9,.ints x9),(10,.ref 1 0),(24,.i (pos.length:Int)),(25,.i AV),(37,.it 2)]) (tZ AV pos x9) ?_;refine r0 2 37 #[38] BV 3 BB (pg n pos x9 AV) ?_;cases y1 with
   | s0=>
    dsimp only at h
    revert r;apply gO;exact gw 45 (lG Fs [0] (AH _ _ · m0 AC))
   | s1 JJ JI ZK=>
    dsimp only at h
    revert r;apply gO;exact gw 45 (lG Fs [0,3] (AH _ _ · m0 AC)))))))))) (jt (lF fun p=>el Fs [6,7] [0] p [] H0 [.nils,.i 0] (AS.tupL (l:=[.nils,.i 0]) (l':=[.sl 2 (([]:List (Int×Int)).length) (Aq DI ([]:List (Int×Int))),.i 0]) rfl ⟨(AS.sl_nil _ _),AK,trivial⟩)))
 case l2 x9 AV Cn o1=>
  intro m0 AC;refine rd AC fun m0 AC=>?_
  revert r;apply gO
  exact bi 26 (jt (jg av (gc (gi (gc (gi (gn fun g2=>jc (Hl g2 [some (.cells [.msl 1 2 0 Cn]),some (.arr 2 o1.length (Aq DI o1)),some (.cells [.i AV])]) (cn fun y1 BB=>fun p r h=>by
   refine gs Fs [0,2,3,1] p (Fl (Ab Tryz.f52) 37 [m0]) (AM 47 [(2,.ints pos),(6,.ref 0 0),(9,.ints x9),(10,.ref 1 0),(24,.i (pos.length:Int)),(25,.i AV),(37,.it 2)]) (tY Cn AV pos x9 o1) ?_;refine r0 2 37 #[38] BV 3 BB (pk n pos x9 AV) ?_;cases y1 with
   | s0 Cu Ct=>
    dsimp only at h
    revert r;apply gO;exact gw 45 (lG Fs [0,3] (AH _ _ · m0 AC)))))))))) (jt (gn fun g0=>lF fun p=>ez Fs [6,7] [0,1] p [1] (H0.g g0)))
theorem pb {n:Nat} {q:AA} {i:Int} {pos:List Int} {r:(List (Int×Int))×Int} (h:dE n q i pos=some r):EQ 52 [.agg 5 (L1 (AE q)),.i i,.ints pos] [] (.tup 2 (L1 [.sl 2 r.1.length (Aq DI r.1),.i r.2])) [] true:=by
 refine ot Tryz.func52 fun B N=>?_
 revert r;apply gO;exact cf gY [some (.cells (AE q)),some (.cells [.nils])] fun y1=>bi 17 (jt (lF fun p=>el Fs [6,7] [1] p [] H0 [.nils,.i y1] (AS.tupL (l:=[.nils,.i y1]) (l':=[.sl 2 (([]:List (Int×Int)).length) (Aq DI ([]:List (Int×Int))),.i y1]) rfl ⟨(AS.sl_nil _ _),AK,trivial⟩))) (cf bo [some (.cells (AE q)),some (.cells [.nils])] fun _=>lN Fs [1] ((pp B N q i pos n) _ _ · n Nat.le.refl))
def iG (n:Nat) (q:AA) (pos JR:List Int):Option Bool:=
 (Hv n q 0 pos).bind fun y1=>
  bif (y1.2==0) then
   (same n y1.1 JR).bind fun y2=>
    some y2
  else
   some false
def GW (n:Nat) (q:AA) (pos JR:List Int):Option Bool:=iG n q pos JR
theorem Ha {n:Nat} {q:AA} {pos JR:List Int} {r:Bool} (h:GW n q pos JR=some r):EQ 55 [.agg 5 (L1 (AE q)),.ints pos,.ints JR] [] (.bool r) [] true:=by
 unfold GW iG at h;refine ot Tryz.func55 fun B N=>?_
 revert r;apply gO;exact cf Sf [some (.cells (AE q))] fun _=>bi 16 (cf Vc [some (.cells (AE q))] fun _=>lE AF [6] []) (lE AF [6] [])
end Go.Proofs.YtgkhhfnhacibcaaGreatDoor
namespace Go.Proofs.YtgkhhfnhacibcaaGreatDoor
open Go.RowKit
def GA (pos:List Int):Bool:=pos.any (· ==0)
theorem JE {pos:List Int}:GA pos=false↔∀ j,j<pos.length -> pos.getD j 0≠0:=by
 unfold GA;rw [List.any_eq_false];constructor
 ·intro h j hj e;refine h (pos.getD j 0) ?_ (by rw [e];rfl);rw [u8,yQ hj];exact yw hj
 ·intro h x hx;obtain ⟨j,hj,rfl⟩:=zk hx;have:=h j hj;rw [u8,yQ hj] at this;simpa using this
theorem wT {pos:List Int} {n:Nat} (hl:pos.length<=LB) (hn:pos.length<n):Ua n pos=some (GA pos):=by
 have hb:LB<=9223372036854775806:=by decide
 have key: ∀ (k i n:Nat),i+k=pos.length -> k+1<=n -> Oa pos n (.l1 (i:Int))=some ((pos.drop i).any (· ==0)):=by
  intro k
  induction k with
  | zero=>
   intro i n e hn;obtain ⟨n,rfl⟩: ∃ k,n=k+1:=⟨n-1,by omega⟩
   show Q1 n (Oa pos n) pos (i:Int)=_
   unfold Q1;rw [yS (by omega),yO,zc (by omega)];rfl
  | succ k ih=>
   intro i n e hn;obtain ⟨n,rfl⟩: ∃ k,n=k+1:=⟨n-1,by omega⟩;have hi:i<pos.length:=by omega
   have e2:pos.drop i=pos.getD i 0::pos.drop (i+1):=by
    rw [zF hi,u8,yQ hi];rfl
   have:=ih (i+1) n (by omega) (by omega)
   show Q1 n (Oa pos n) pos (i:Int)=_
   unfold Q1;rw [yW (by omega),yV,yP ⟨by omega,by omega⟩,yP (A2.2 ⟨by omega,by omega⟩),yU,e2,List.any_cons];cases h:(pos.getD i 0==0)
   ·rw [yO,zAG];exact this
   ·rfl
 have:=key pos.length 0 n (by omega) (by omega);unfold Ua gN;exact this
theorem W0 {pos:List Int} {n:Nat} (hl:pos.length<=LB) (hn:pos.length<n):Nt n pos=some (GA pos):=by
 unfold Nt Wz;rw [wT hl hn];rfl
def posOk (q:AA) (pos:List Int):Bool:=((pos.length:Int)==q.cells)&&pos.all fun x=>decide (0<=x)&&decide (x<2 ^ q.symbols.toNat)
def Pm (q:AA) (pos:List Int):Int:=if Dc q then (if posOk q pos then 0 else 250) else 191
section
variable {q:AA} {i:Int} {pos:List Int} {n:Nat}
theorem oL (hF:FA q) (hn:Hk q<=n) (hl:pos.length<=LB) (IA:pos.length<n):Sk n q pos=some (Pm q pos):=by
 have hb:LB<=9223372036854775806:=by decide
 unfold Sk b5 Pm;rw [VE hF hn,yX];cases hv:Dc q with
 | false=>rfl
 | true=>
  obtain ⟨_,hs,_⟩:=IW hv;obtain ⟨p1,p2,p3⟩:=bu hs.1 hs.2
  show (bif ((pos.length:Int) != q.cells) then some 250 else L4 q pos n (.l1 0))=some (if posOk q pos=true then 0 else 250)
  unfold posOk
  by_cases Ay:(pos.length:Int)=q.cells
  ·have h1:((pos.length:Int) != q.cells)=false:=by simpa using Ay
   have h2:((pos.length:Int)==q.cells)=true:=by simpa using Ay
   rw [h1,yO,h2,zJ]
   have key: ∀ (k i n:Nat),i+k=pos.length -> k+1<=n -> L4 q pos n (.l1 (i:Int))=some (if ((pos.drop i).all fun x=>decide (0<=x)&&decide (x<2 ^ q.symbols.toNat))=true then 0 else 250):=by
    intro k
    induction k with
    | zero=>
     intro i n e hn;obtain ⟨n,rfl⟩: ∃ k,n=k+1:=⟨n-1,by omega⟩
     show Pk n (L4 q pos n) q pos (i:Int)=_
     unfold Pk;rw [yS (by omega),yO,zc (by omega)];rfl
    | succ k ih=>
     intro i n e hn;obtain ⟨n,rfl⟩: ∃ k,n=k+1:=⟨n-1,by omega⟩;have hi:i<pos.length:=by omega
     have e2:pos.drop i=pos.getD i 0::pos.drop (i+1):=by
      rw [zF hi,u8,yQ hi];rfl
     have:=ih (i+1) n (by omega) (by omega)
     show Pk n (L4 q pos n) q pos (i:Int)=_
     unfold Pk;rw [yW (by omega),yV,yP ⟨by omega,by omega⟩,yP p3,yP (A2.2 ⟨by omega,by omega⟩),yU,e2,zBO,p1]
     by_cases c1:pos.getD i 0<0
     ·rw [yW c1,yV,yS (p:=0<=pos.getD i 0) (by omega)];rfl
     ·rw [yS c1,yO,yW (p:=0<=pos.getD i 0) (by omega),zJ]
      by_cases c2:pos.getD i 0>=2 ^ q.symbols.toNat
      ·rw [yW c2,yV,yS (p:=pos.getD i 0<2 ^ q.symbols.toNat) (by omega)];rfl
      ·rw [yS c2,yO,yW (p:=pos.getD i 0<2 ^ q.symbols.toNat) (by omega),zJ];exact this
   exact key pos.length 0 n (by omega) (by omega)
  ·have h1:((pos.length:Int) != q.cells)=true:=by simpa using Ay
   have h2:((pos.length:Int)==q.cells)=false:=by simpa using Ay
   rw [h1,yV,h2,z2];rfl
def GU (q:AA) (i:Int) (pos:List Int):Int:=if (Iu q i).2=0 then Pm q pos else (Iu q i).2
theorem xD (hF:FA q) (hn:Hk q<=n) (hl:pos.length<=LB) (IA:pos.length<n):M2 n q i pos=some (GU q i pos):=by
 unfold M2 Yp GU;rw [qJ hF hn,yX,oL hF hn hl IA,yX]
 by_cases h:(Iu q i).2=0
 ·have:((Iu q i).2 != 0)=false:=by simpa using h
  rw [this,yP h];rfl
 ·have:((Iu q i).2 != 0)=true:=by simpa using h
  rw [this,yb h];rfl
structure Bj (q:AA) (i:Int) (pos:List Int):Prop where
 fit:FA q
 valid:Dc q=true
 i0:0<=i
 i1:i<(q.cons.length:Int)
 pos:posOk q pos=true
def con (q:AA) (i:Int):AB:=q.cons.getD i.toNat default
theorem Bj.of (hF:FA q) (h:GU q i pos=0):Bj q i pos:=by
 unfold GU Iu Pm at h
 by_cases hv:Dc q=false
 ·rw [yP hv] at h;rw [yb (by decide)] at h;exact absurd h (by decide)
 ·rw [yb hv] at h;have hv:Dc q=true:=by simpa using hv
  by_cases hi:0<=i/\ i<(q.cons.length:Int)
  ·rw [yP hi,yP rfl,yP hv] at h
   by_cases hp:posOk q pos=true
   ·exact ⟨hF,hv,hi.1,hi.2,hp⟩
   ·rw [yb hp] at h;exact absurd h (by decide)
  ·rw [yb hi,yb (by decide)] at h;exact absurd h (by decide)
theorem Bj.check (C:Bj q i pos):GU q i pos=0:=by
 have h1:Iu q i=(Wk ((q.cons.getD i.toNat default).kind),0):=by
  unfold Iu;rw [yb (by rw [C.valid];exact fun h=>by cases h),yP ⟨C.i0,C.i1⟩]
 unfold GU Pm;rw [h1,yP rfl,yP C.valid,yP C.pos]
theorem Bj.mem (C:Bj q i pos):con q i∈q.cons:=by
 have h:=C.i0;have h1:=C.i1;unfold con;rw [u8,yQ (by omega)];exact yw _
theorem Bj.fine (C:Bj q i pos):Ek q (con q i)=true:=(IW C.valid).2.2.2.2.2 _ C.mem
theorem Bj.kind (C:Bj q i pos):Ff q.cells (con q i).kind (con q i).cells.length=true:=dW C.fine
theorem Bj.len (C:Bj q i pos):(pos.length:Int)=q.cells:=by
 have h:=C.pos;unfold posOk at h;rw [yT,yo] at h;exact h.1
theorem Bj.sm (C:Bj q i pos): ∀ j,j<pos.length -> Sm q.symbols.toNat (pos.getD j 0):=by
 intro j hj;have h:=C.pos;unfold posOk at h;rw [yT,ya] at h;have hm:pos.getD j 0∈pos:=by rw [u8,yQ hj];exact yw hj
 have:=h.2 _ hm;rw [yT,ye,ye] at this;exact this
theorem Bj.len256 (C:Bj q i pos):0<pos.length/\ pos.length<=256:=by
 have h:=(IW C.valid).1;have:=C.len;omega
theorem Bj.cells (C:Bj q i pos):(∀ x∈(con q i).cells,0<=x/\ x<q.cells)/\ (con q i).cells.Nodup/\ (8<=(con q i).kind -> ∀ j,j<(con q i).cells.length -> (con q i).cells.getD j 0=(j:Int)):=by
 have h:=C.fine;unfold Ek at h;simp only [yT] at h;exact xF.1 h.1.1.1.1.1
theorem Bj.work (C:Bj q i pos):Bs (con q i) q.symbols.toNat pos:=by
 obtain ⟨h1,h2,_⟩:=C.cells;have hl:=C.len;have h3:=(IW C.valid).1;have h4:=(IW C.valid).2.1;refine ⟨fun a ha=>?_,?_,C.sm,by omega⟩
 ·rw [hl];refine h1 _ ?_;rw [u8,yQ ha];exact yw ha
 ·have:=WW pos.length _ h2 fun x hx=>by rw [hl];exact h1 x hx
  omega
theorem Bj.vals (C:Bj q i pos):DY q q.symbols.toNat:=by
 obtain ⟨_,h2,⟨h3,h4⟩,_⟩:=IW C.valid;rw [Rf] at h4;refine ⟨by omega,fun s hs=>h4 _ ?_⟩;rw [u8,yQ (by omega)];exact yw _
theorem Bj.runs (C:Bj q i pos):He (con q i):=by
 have h:=C.fine;unfold Ek at h;simp only [yT,ye] at h;have h2:=Rf.1 h.2;refine ⟨by have:=h.1.2;omega,fun j hj=>(h2 _ ?_).2⟩;rw [u8,yQ hj];exact yw hj
theorem Bj.two (C:Bj q i pos) (hk:(con q i).kind=6∨(con q i).kind=7):(con q i).cells.length=2:=by
 have h:=C.kind;unfold Ff at h;rcases hk with hk | hk <;> rw [hk] at h <;> simpa using h
theorem Bj.all (C:Bj q i pos) (hk:(con q i).kind=8∨(con q i).kind=9) (hd:GA pos=false):EE (con q i) q pos:=by
 have h:=C.kind;have hl:=C.len;have Mq:=C.len256
 have h1:((con q i).cells.length:Int)=q.cells:=by
  unfold Ff at h;rcases hk with hk | hk <;> rw [hk] at h <;> simpa using h
 obtain ⟨_,_,_,⟨h5,h6⟩,_⟩:=IW C.valid;exact ⟨by omega,fun j hj=>C.cells.2.2 (by omega) j (by omega),⟨h6,C.fit.nbrs⟩,by omega,Mq.1,Mq.2,fun j hj=>⟨(C.sm j hj).in64 (yf C.work.k (by decide)),JE.1 hd j hj⟩⟩
end
def CO (q:AA) (c:AB) (pos:List Int):Prop:=
 (c.kind=2 -> KB c pos=true)/\ (c.kind=3 -> JV q c pos=true)/\ (c.kind=5 -> Ie c=true)/\ (c.kind=9 -> MG c q pos)
def BU (q:AA) (c:AB) (pos:List Int) (a s:Nat):Prop:=
 (c.kind=1/\ Mx c pos a s)∨(c.kind=2/\ HZ c pos a s=true)∨(c.kind=3/\ HA q c pos a s=true)∨(c.kind=4/\ Gf q c pos a s=true)∨(c.kind=5/\ Hs c pos a s)∨
 (c.kind=6/\ Fc (Gk q c) c pos a s)∨(c.kind=7/\ Fc (GL c) c pos a s)∨(c.kind=8/\ Gz c q pos a s)∨(c.kind=9/\ Kw c q pos a s)
def KP (q:AA) (c:AB) (pos:List Int) (r:Bool×List Int):Prop:=(r.1=true↔CO q c pos)/\ (r.1=true -> B1 c pos (List.replicate pos.length 0) c.cells.length (BU q c pos) r.2)
def LC (q:AA) (c:AB) (pos:List Int) (j s:Nat):Prop:=∃ a,a<c.cells.length/\ (c.cells.getD a 0).toNat=j/\ BU q c pos a s
structure GE (q:AA) (c:AB) (pos:List Int):Prop where
 nz: ∀ j,j<pos.length -> pos.getD j 0≠0
 ok:CO q c pos
 left: ∀ j,j<pos.length -> ∃ s,s<64/\ tb (pos.getD j 0) s=true/\ ¬ LC q c pos j s
structure PR (q:AA) (c:AB) (pos x:List Int):Prop where
 len:x.length=pos.length
 live:GE q c pos -> ∀ j,j<pos.length -> B4 (x.getD j 0)/\ ∀ s,tb (x.getD j 0) s=true↔tb (pos.getD j 0) s=true/\ ¬ LC q c pos j s
 dead: ¬ GE q c pos -> x=List.replicate pos.length 0
theorem PR.uniq {q:AA} {c:AB} {pos:List Int} (x y:List Int) (h:PR q c pos x) (h':PR q c pos y):x=y:=by
 by_cases hA:GE q c pos
 ·have e:x.length=y.length:=h.len.trans h'.len.symm;refine zAa e fun j h1 h2=>?_
  have hj:j<pos.length:=by rw [←h.len];exact h1
  have e1:x.getD j 0=x[j]:=by simp [h1]
  have e2:y.getD j 0=y[j]:=by simp [h2]
  rw [←e1,←e2];refine NH (h.live hA j hj).1 (h'.live hA j hj).1 fun s _=>?_
  rw [z6,(h.live hA j hj).2,(h'.live hA j hj).2]
 ·rw [h.dead hA,h'.dead hA]
section
variable {q:AA} {i:Int} {pos:List Int}
theorem KJ:(List.replicate pos.length (0:Int)).length=pos.length:=yi
theorem Ra (j:Nat):(List.replicate pos.length (0:Int)).getD j 0=0:=by
 rw [u8,zj];split <;> rfl
theorem U1: ∀ j,B4 ((List.replicate pos.length (0:Int)).getD j 0):=fun j=>by rw [Ra];exact ⟨by decide,by decide⟩
theorem ZJ:CP pos (List.replicate pos.length 0) (fun _ _=>False) (List.replicate pos.length 0):=⟨⟨KJ,U1⟩,fun j s=>by simp⟩
theorem B1.congr {c:AB} {lost l:List Int} {D D':Nat -> Nat -> Prop} {m:Nat} (h:B1 c pos lost m D l) (hD: ∀ a s,D' a s↔D a s):B1 c pos lost m D' l:=by
 refine ⟨h.1,fun j s=>?_⟩;rw [h.2];simp only [hD]
def HG (n:Nat) (q:AA) (c:AB) (pos:List Int):Option (Bool×List Int):=
 bif c.kind==1 then OZ n c q pos pos.length (List.replicate pos.length 0) else bif c.kind==2 then Ob n c q pos pos.length (List.replicate pos.length 0) else
 bif c.kind==3 then NJ n c q pos pos.length (List.replicate pos.length 0) else bif c.kind==4 then Kk n c q pos pos.length (List.replicate pos.length 0) else
 bif c.kind==5 then NR n c q pos pos.length (List.replicate pos.length 0) else bif c.kind==6 then M9 n c q pos pos.length (List.replicate pos.length 0) else
 bif c.kind==7 then MA n c q pos pos.length (List.replicate pos.length 0) else bif c.kind==8 then Ug n c q pos pos.length (List.replicate pos.length 0) else
 bif c.kind==9 then TH n c q pos pos.length (List.replicate pos.length 0) else none
theorem mz (C:Bj q i pos) (hd:GA pos=false):Ae (fun n=>HG n q (con q i) pos) (KP q (con q i) pos):=by
 have W:=C.work;have hz:(List.replicate pos.length (0:Int)).length=pos.length:=KJ
 have all: ∀ k:Int,(con q i).kind=k -> ∀ {f:Nat -> Option (Bool×List Int)} {N:Nat} {ok:Bool} {D:Nat -> Nat -> Prop},(∀ n,N<=n -> ∃ l,f n=some (ok,l)/\ (ok=true -> B1 (con q i) pos (List.replicate pos.length 0) (con q i).cells.length D l)) -> (ok=true↔CO q (con q i) pos) -> (∀ a s,BU q (con q i) pos a s↔D a s) -> Ae f (KP q (con q i) pos):=by
  intro k _ f N ok D h CI hD;refine ⟨N,fun n hn=>?_⟩;obtain ⟨l,h1,h2⟩:=h n hn;exact ⟨(ok,l),h1,CI,fun h3=>(h2 h3).congr hD⟩
 have kc:=ML (MK C.kind);have HJ: ∀ {k:Int},(con q i).kind=k -> k≠2 -> k≠3 -> k≠5 -> k≠9 -> CO q (con q i) pos:=fun hk h2 h3 h5 h9=>⟨fun h=>absurd (hk.symm.trans h) h2,fun h=>absurd (hk.symm.trans h) h3,fun h=>absurd (hk.symm.trans h) h5,fun h=>absurd (hk.symm.trans h) h9⟩
 rcases kc with hk | hk | hk | hk | hk | hk | hk | hk | hk
 ·refine Ae.eq (all 1 hk (f:=fun n=>OZ n (con q i) q pos pos.length (List.replicate pos.length 0)) (N:=2*(con q i).cells.length+2) (ok:=true) (D:=Mx (con q i) pos) (fun n hn=>?_) ⟨fun _=>HJ hk (by decide) (by decide) (by decide) (by decide),fun _=>rfl⟩ fun a s=>?_) fun n=>?_
  ·obtain ⟨l,h1,h2⟩:=wL (q:=q) W hz hn;exact ⟨l,h1,fun _=>h2⟩
  ·unfold BU;rw [hk];simp
  ·unfold HG;rw [hk];rfl
 ·refine Ae.eq (all 2 hk (f:=fun n=>Ob n (con q i) q pos pos.length (List.replicate pos.length 0)) (N:=2*(con q i).cells.length+3) (ok:=KB (con q i) pos) (D:=fun a s=>HZ (con q i) pos a s=true) (fun n hn=>?_) ⟨fun h=>⟨fun _=>h,fun h=>absurd (hk.symm.trans h) (by decide),fun h=>absurd (hk.symm.trans h) (by decide),fun h=>absurd (hk.symm.trans h) (by decide)⟩,fun h=>h.1 hk⟩ fun a s=>?_) fun n=>?_
  ·exact wY (q:=q) W hz hn
  ·unfold BU;rw [hk];simp
  ·unfold HG;rw [hk];rfl
 ·refine Ae.eq (all 3 hk (f:=fun n=>NJ n (con q i) q pos pos.length (List.replicate pos.length 0)) (N:=2*(con q i).cells.length+3) (ok:=JV q (con q i) pos) (D:=fun a s=>HA q (con q i) pos a s=true) (fun n hn=>?_) ⟨fun h=>⟨fun h=>absurd (hk.symm.trans h) (by decide),fun _=>h,fun h=>absurd (hk.symm.trans h) (by decide),fun h=>absurd (hk.symm.trans h) (by decide)⟩,fun h=>h.2.1 hk⟩ fun a s=>?_) fun n=>?_
  ·exact jm W C.vals hz hn
  ·unfold BU;rw [hk];simp
  ·unfold HG;rw [hk];rfl
 ·refine Ae.eq (all 4 hk (f:=fun n=>Kk n (con q i) q pos pos.length (List.replicate pos.length 0)) (N:=2*(con q i).cells.length+3) (ok:=true) (D:=fun a s=>Gf q (con q i) pos a s=true) (fun n hn=>?_) ⟨fun _=>HJ hk (by decide) (by decide) (by decide) (by decide),fun _=>rfl⟩ fun a s=>?_) fun n=>?_
  ·obtain ⟨l,h1,h2⟩:=nA W C.vals hz hn;exact ⟨l,h1,fun _=>h2⟩
  ·unfold BU;rw [hk];simp
  ·unfold HG;rw [hk];rfl
 ·obtain ⟨l,⟨N,h1⟩,h2⟩:=mV (q:=q) W C.runs hz U1;refine Ae.eq (all 5 hk (N:=N) (ok:=Ie (con q i)) (D:=Hs (con q i) pos) (fun n hn=>⟨l,h1 n hn,h2⟩) ⟨fun h=>⟨fun h=>absurd (hk.symm.trans h) (by decide),fun h=>absurd (hk.symm.trans h) (by decide),fun _=>h,fun h=>absurd (hk.symm.trans h) (by decide)⟩,fun h=>h.2.2.1 hk⟩ fun a s=>?_) fun n=>?_
  ·unfold BU;rw [hk];simp
  ·unfold HG;rw [hk];rfl
 ·refine Ae.eq (all 6 hk (f:=fun n=>M9 n (con q i) q pos pos.length (List.replicate pos.length 0)) (N:=0) (ok:=true) (D:=Fc (Gk q (con q i)) (con q i) pos) (fun n hn=>?_) ⟨fun _=>HJ hk (by decide) (by decide) (by decide) (by decide),fun _=>rfl⟩ fun a s=>?_) fun n=>?_
  ·obtain ⟨l,h1,h2⟩:=xt (n:=n) W C.vals (C.two (.inl hk)) hz;exact ⟨l,h1,fun _=>h2⟩
  ·unfold BU;rw [hk];simp
  ·unfold HG;rw [hk];rfl
 ·refine Ae.eq (all 7 hk (f:=fun n=>MA n (con q i) q pos pos.length (List.replicate pos.length 0)) (N:=0) (ok:=true) (D:=Fc (GL (con q i)) (con q i) pos) (fun n hn=>?_) ⟨fun _=>HJ hk (by decide) (by decide) (by decide) (by decide),fun _=>rfl⟩ fun a s=>?_) fun n=>?_
  ·obtain ⟨l,h1,h2⟩:=pC (n:=n) (q:=q) W (C.two (.inr hk)) hz;exact ⟨l,h1,fun _=>h2⟩
  ·unfold BU;rw [hk];simp
  ·unfold HG;rw [hk];rfl
 ·obtain ⟨l,⟨N,h1⟩,h2⟩:=wq (C.all (.inl hk) hd) ZJ;refine Ae.eq (all 8 hk (N:=N) (ok:=true) (D:=Gz (con q i) q pos) (fun n hn=>⟨l,h1 n hn,fun _=>h2.by (C.all (.inl hk) hd)⟩) ⟨fun _=>HJ hk (by decide) (by decide) (by decide) (by decide),fun _=>rfl⟩ fun a s=>?_) fun n=>?_
  ·unfold BU;rw [hk];simp
  ·unfold HG;rw [hk];rfl
 ·refine Ae.eq ((pw (C.all (.inr hk) hd) ZJ).mono fun r hr=>⟨?_,fun h=>((hr.2 h).by (C.all (.inr hk) hd)).congr fun a s=>?_⟩) fun n=>?_
  ·rw [hr.1];exact ⟨fun h=>⟨fun h=>absurd (hk.symm.trans h) (by decide),fun h=>absurd (hk.symm.trans h) (by decide),fun h=>absurd (hk.symm.trans h) (by decide),fun _=>h⟩,fun h=>h.2.2.2 hk⟩
  ·unfold BU;rw [hk];simp
  ·unfold HG;rw [hk];rfl
theorem jW {n:Nat} {o2:List Int} (hl:o2.length=pos.length) (Mq:pos.length<=256) (hn:600<=n):
 ∃ x,x.length=pos.length/\ (∀ j,j<pos.length -> x.getD j 0=bits .andNot .i64 (pos.getD j 0) (o2.getD j 0))/\ Ht q i pos n (.l2 pos.length (pos.length:Int) 0 o2 pos)=some (if GA x then List.replicate pos.length 0 else x):=by
 have lb:(256:Nat)<=LB:=by decide
 obtain ⟨n1,x,F6,_,e,hx,Gs,Iy⟩:=Gn (fun n (o3:List Int) k=>Ht q i pos n (.l2 pos.length (pos.length:Int) k o2 o3)) pos.length 260
  (fun k o3=>o3.length=pos.length/\ (∀ j,j<k -> o3.getD j 0=bits .andNot .i64 (pos.getD j 0) (o2.getD j 0))/\ ∀ j,k<=j -> o3.getD j 0=pos.getD j 0) (fun n k o3 HQ hk hI=>by
   obtain ⟨h1,h2,h3⟩:=hI
   show ∃ s',Pf n (Ht q i pos n) q i pos pos.length (pos.length:Int) (k:Int) o2 o3=_/\ _
   unfold Pf;simp only [yU,yt];rw [yW (by omega),yV,yP ⟨⟨by omega,by omega⟩,by omega,⟨by omega,by omega⟩,by omega,A2.2 ⟨by omega,by omega⟩⟩];refine ⟨_,rfl,by rw [yu];exact h1,fun j hj=>?_,fun j hj=>?_⟩
   ·by_cases e:k=j
    ·subst e;rw [J6 (by omega),h3 k (by omega)]
    ·rw [getD_set_ne e];exact h2 j (by omega)
   ·rw [getD_set_ne (by omega)];exact h3 j (by omega)) (n:=n) (s:=pos) (by omega) ⟨rfl,fun j hj=>absurd hj (yg j),fun j _=>rfl⟩
 obtain ⟨n2,rfl⟩: ∃ n2,n1=n2+1:=⟨n1-1,by omega⟩;refine ⟨x,hx,Gs,Eq.trans e ?_⟩
 show Pf n2 (Ht q i pos n2) q i pos pos.length (pos.length:Int) (pos.length:Int) o2 x=_
 unfold Pf;rw [yS (by omega),yO,yP hx.symm,W0 (by omega) (by omega),yX];cases GA x
 ·rfl
 ·rw [yV,yP KJ.symm];rfl
def Rq (n:Nat) (q:AA) (i:Int) (pos:List Int) (y2:Bool×List Int):Option (List Int):=
 bif (!y2.1) then (if pos.length=(List.replicate pos.length (0:Int)).length then some (List.replicate pos.length (0:Int)) else none) else Ht q i pos n (.l1 y2.2)
theorem jX (C:Bj q i pos) (hd:GA pos=false) {n:Nat} (hn:601<=n) {y2:Bool×List Int} (hy:KP q (con q i) pos y2): ∃ x,Rq n q i pos y2=some x/\ PR q (con q i) pos x:=by
 have Mq:=C.len256;have L:(1000000000000:Nat)=Ax:=rfl;have nz:=JE.1 hd;obtain ⟨b,lost⟩:=y2;obtain ⟨CI,Tv⟩:=hy;unfold Rq;cases b with
 | false=>
  refine ⟨_,by rw [zg,yV,yP KJ.symm],KJ,fun hA=>?_,fun _=>rfl⟩;have:=CI.2 hA.ok;cases this
 | true=>
  have CI:=CI.1 rfl;have Tv:B1 (con q i) pos (List.replicate pos.length 0) (con q i).cells.length (BU q (con q i) pos) lost:=Tv rfl;obtain ⟨n,rfl⟩: ∃ k,n=k+1:=⟨n-1,by omega⟩;obtain ⟨x,h1,h2,h3⟩:=jW (q:=q) (i:=i) (n:=n) Tv.1 Mq.2 (by omega)
  have hx: ∀ j,j<pos.length -> B4 (x.getD j 0)/\ ∀ s,tb (x.getD j 0) s=true↔tb (pos.getD j 0) s=true/\ ¬ LC q (con q i) pos j s:=fun j hj=>by
   rw [h2 j hj];refine ⟨FP _ _ _,fun s=>?_⟩;rw [JT,yT,zM,←zAz,Tv.2,Ra];constructor
   ·rintro ⟨h4,h5⟩;refine ⟨h4,fun ⟨a,ha,e,hs⟩=>h5 (.inr ⟨a,ha,e,?_,hs⟩)⟩
    show tb (pos.getD ((con q i).cells.getD a 0).toNat 0) s=true
    rw [e];exact h4
   ·rintro ⟨h4,h5⟩;refine ⟨h4,fun h6=>h6.elim (fun h=>Ib h) fun ⟨a,ha,e,_,hs⟩=>h5 ⟨a,ha,e,hs⟩⟩
  have Bo:Um n pos=some pos:=by
   unfold Um gW;rw [yP ⟨Mq.1,trivial,⟨rfl,rfl⟩,by rw [←L];simp only [zm];omega⟩,yP (by simp)];rfl
  have e:Ht q i pos (n+1) (.l1 lost)=some (if GA x then List.replicate pos.length 0 else x):=by
   show V9 n (Ht q i pos n) q i pos lost=_
   unfold V9;rw [Bo,yX];exact h3
  refine ⟨_,by rw [zS,yO];exact e,?_,fun hA j hj=>?_,fun hA=>?_⟩
  ·split
   ·exact KJ
   ·exact h1
  ·rw [yb]
   ·exact hx j hj
   ·rw [zAz,JE];intro j hj;rw [h1] at hj;obtain ⟨s,hs,h4,h5⟩:=hA.left j hj;exact (FC (hx j hj).1).2 ⟨s,hs,((hx j hj).2 s).2 ⟨h4,h5⟩⟩
  ·rw [yP];refine Classical.byContradiction fun h=>hA ?_
   rw [zAz,JE] at h;refine ⟨nz,CI,fun j hj=>?_⟩;obtain ⟨s,hs,h4⟩:=(FC (hx j hj).1).1 (h j (by omega));exact ⟨s,hs,((hx j hj).2 s).1 h4⟩
theorem n6 (C:Bj q i pos): ∃ x,Ev (fun n=>Hu n q i pos) x/\ PR q (con q i) pos x:=by
 have Mq:=C.len256;have lb:(256:Nat)<=LB:=by decide
 have hi:0<=i/\ i<(q.cons.length:Int):=⟨C.i0,C.i1⟩;cases hd:GA pos
 ·suffices H:Ae (fun n=>Hu n q i pos) (PR q (con q i) pos) by
   obtain ⟨x,h1,h2⟩:=H.ev PR.uniq;exact ⟨x,h2,h1⟩
  obtain ⟨N,hN⟩:=Ae.bindU (mz C hd) (b:=fun n y2=>Rq n q i pos y2) (Q:=PR q (con q i) pos) ⟨601,fun n hn y2 hy=>jX C hd hn hy⟩;refine ⟨N+300,fun n hn=>?_⟩;obtain ⟨x,h1,h2⟩:=hN n (by omega);refine ⟨x,Eq.trans ?_ h1,h2⟩
  show Hu n q i pos=(HG n q (con q i) pos).bind fun y2=>Rq n q i pos y2
  unfold Hu WB;rw [yP ⟨rfl,by omega,by omega⟩,W0 (by omega) (by omega),hd,yX,yO,yP hi];have hc:q.cons.getD i.toNat default=con q i:=rfl;rw [hc];have kc:=ML (MK C.kind);unfold HG;rcases kc with hk | hk | hk | hk | hk | hk | hk | hk | hk <;> rw [hk] <;> rfl
 ·refine ⟨List.replicate pos.length 0,⟨300,fun n hn=>?_⟩,KJ,fun hA=>?_,fun _=>rfl⟩
  ·show Hu n q i pos=_
   unfold Hu WB;rw [yP ⟨rfl,by omega,by omega⟩,W0 (by omega) (by omega),hd,yX,yV,yP KJ.symm]
  ·have:=JE.2 hA.nz;rw [hd] at this;cases this
def yJ (q:AA) (i:Int) (pos:List Int) (r:List Int×Int):Prop:=r.2=GU q i pos/\ (r.2=0 -> PR q (con q i) pos r.1)/\ (r.2≠0 -> r.1= [])
theorem bq (hF:FA q) (hl:pos.length<=LB): ∃ r,Ev (fun n=>Hv n q i pos) r/\ yJ q i pos r:=by
 have hE:Ev (fun n=>M2 n q i pos) (GU q i pos):=⟨Hk q+pos.length+1,fun n hn=>xD hF (by omega) hl (by omega)⟩
 by_cases h0:GU q i pos=0
 ·obtain ⟨x,h1,h2⟩:=n6 (Bj.of hF h0);refine ⟨(x,0),?_,h0.symm,fun _=>h2,fun h=>absurd rfl h⟩;refine Ev.eq (Ev.bind hE (b:=fun n y1=>bif (y1 != 0) then some (([]:List Int),y1) else (Hu n q i pos).bind fun y2=>some (y2,0)) ?_) fun n=>rfl
  rw [h0];exact Ev.bind h1 (b:=fun _ y2=>some (y2,0)) (Ev.now fun n=>rfl)
 ·refine ⟨([],GU q i pos),?_,rfl,fun h=>absurd h h0,fun _=>rfl⟩;refine Ev.eq (Ev.bind hE (b:=fun n y1=>bif (y1 != 0) then some (([]:List Int),y1) else (Hu n q i pos).bind fun y2=>some (y2,0)) (Ev.now fun n=>?_)) fun n=>rfl
  have:(GU q i pos != 0)=true:=by simpa using h0
  rw [this];rfl
end
end Go.Proofs.YtgkhhfnhacibcaaGreatDoor
namespace Go.Proofs.YtgkhhfnhacibcaaGreatDoor
abbrev zBN:=@forall_eq_or_imp
end Go.Proofs.YtgkhhfnhacibcaaGreatDoor
namespace Go.Proofs.YtgkhhfnhacibcaaGreatDoor
open Go.RowKit
structure OA (q:AA) (c:AB) (p:List Int):Prop where
 nz: ∀ k,k<c.cells.length -> AY c p k≠0
 ok:CO q c p
 left: ∀ k,k<c.cells.length -> ∃ s,tb (AY c p k) s=true/\ ¬ BU q c p k s
theorem Q7 {α:Type} {f g:α -> Bool}: ∀ (l:List α),(∀ x∈l,f x=true -> g x=true) -> l.countP f<=l.countP g
 | [],_=>ym _
 | x::l,h=>by
  have h1:=Q7 l fun y hy=>h y (yx _ hy)
  have h2:=h x zT;rw [zAL,zAL];cases hf:f x
  ·simp only [zL,zAS];omega
  ·rw [h2 hf];simp only [zo];omega
theorem My {α:Type} {f g:α -> Bool} {a:α} (hf:f a=false) (hg:g a=true): ∀ (l:List α),(∀ x∈l,f x=true -> g x=true) -> a∈l -> l.countP f+1<=l.countP g
 | [],_,h=>by cases h
 | x::l,h,ha=>by
  rw [zAL,zAL];rcases yq.1 ha with rfl | ha
  ·have h1:=Q7 l fun y hy=>h y (yx _ hy)
   rw [hf,hg,yP rfl];simp only [zL,zAS];omega
  ·have h1:=My hf hg l (fun y hy=>h y (yx _ hy)) ha;have h2:=h x zT;cases hx:f x
   ·simp only [zL,zAS];omega
   ·rw [h2 hx];simp only [zo];omega
theorem gV {f g:Nat -> Bool} {m:Nat} (h: ∀ a,a<m -> f a=true -> g a=true):cnt f m<=cnt g m:=by
 unfold cnt;have:=Q7 (f:=f) (g:=g) (List.range m) fun x hx=>h x (yh.1 hx)
 omega
theorem gU {f g:Nat -> Bool} {m a:Nat} (h: ∀ a,a<m -> f a=true -> g a=true) (ha:a<m) (hf:f a=false) (hg:g a=true):cnt f m+1<=cnt g m:=by
 unfold cnt;have:=My hf hg (List.range m) (fun x hx=>h x (yh.1 hx)) (yh.2 ha);omega
theorem aY {k:Nat} {x:Int} (hx:Sm k x) (hk:k<=16) (h:Kb x=true) {s t:Nat} (hs:tb x s=true) (ht:tb x t=true):s=t:=by
 have YF:=Ko (k:=k) (yf hk (by decide));obtain ⟨m,rfl⟩:=zAJ hx.1;have AU:m<18446744073709551616:=by have:=hx.2;omega
 have lo: ∀ {u:Nat},tb (m:Int) u=true -> u<64:=fun {u} hu=>zH fun h=>by rw [IZ h] at hu;cases hu
 have h0:m≠0:=by
  rintro rfl;exact Ib hs
 have e:m&&& (m-1)=0:=by
  unfold Kb at h;rw [yo] at h;apply Nat.eq_of_testBit_eq;intro u;rw [Nat.zero_testBit,Nat.testBit_and];rcases zt u 64 with hu | hu
  ·have h2:=(KV (FP .and _ _)).1 h u hu;have e1:(m:Int)-1=((m-1:Nat):Int):=by omega
   rw [Ia,e1,Hj _ _ hu,Hj _ _ hu] at h2;exact h2
  ·rw [zBH (yc AU (zAt (n:=2) (by decide) hu)),z2]
 have S:=aJ m AU h0;rw [e,aI] at S
 have mem: ∀ {u:Nat},tb (m:Int) u=true -> u∈EJ m:=fun {u} hu=>by
  unfold EJ;rw [zAQ,yh];exact ⟨lo hu,by rw [←Hj m u (lo hu)];exact hu⟩
 have h1:=mem hs;have h2:=mem ht;rw [S,yp] at h1 h2;rw [h1,h2]
section
variable {q:AA} {i:Int} {p p':List Int}
theorem XC {c:AB} {x:Int} (h:bits .andNot .i64 x c.set=0) {s:Nat} (hs:tb x s=true):tb c.set s=true:=by
 have Gw:s<64:=zH fun h=>by rw [IZ h] at hs;cases hs
 have:=(KV (FP .andNot _ _)).1 h s Gw;rw [JT,hs,zJ,Bool.not_eq_false'] at this;exact this
theorem ZD {c:AB} {x x':Int} (h: ∀ s,tb x' s=true -> tb x s=true) (hx:bits .andNot .i64 x c.set=0):bits .andNot .i64 x' c.set=0:=
 (KV (FP .andNot _ _)).2 fun s hs=>by
  rw [JT];cases h1:tb x' s with
  | false=>rfl
  | true=>rw [XC hx (h s h1)];rfl
theorem ZC {c:AB} {x x':Int} (h: ∀ s,tb x' s=true -> tb x s=true) (hx:bits .and .i64 x' c.set≠0):bits .and .i64 x c.set≠0:=by
 obtain ⟨s,hs,h1⟩:=(FC (FP .and _ _)).1 hx;rw [Ia,yT] at h1;exact (FC (FP .and _ _)).2 ⟨s,hs,by rw [Ia,h s h1.1,h1.2];rfl⟩
theorem ig {c:AB} {x:Int} {s:Nat} (h1:tb x s=true) (h2:tb c.set s=true):bits .and .i64 x c.set≠0:=by
 have Gw:s<64:=zH fun h=>by rw [IZ h] at h1;cases h1
 exact (FC (FP .and _ _)).2 ⟨s,Gw,by rw [Ia,h1,h2];rfl⟩
theorem xz {c:AB} {x:Int} {s:Nat} (h1:tb x s=true) (h2:tb c.set s=false):bits .andNot .i64 x c.set≠0:=by
 have Gw:s<64:=zH fun h=>by rw [IZ h] at h1;cases h1
 exact (FC (FP .andNot _ _)).2 ⟨s,Gw,by rw [JT,h1,h2];rfl⟩
def Fm (c:AB) (p' p:List Int):Prop:=∀ k,k<c.cells.length -> ∀ s,tb (AY c p' k) s=true -> tb (AY c p k) s=true
theorem wM {c:AB} {k:Nat} (W:Bs c k p) (hS:Fm c p' p) (Cd: ∀ a,a<c.cells.length -> B4 (AY c p' a)) (N8: ∀ a,a<c.cells.length -> AY c p' a≠0) {a s:Nat} (h:Mx c p a s):Mx c p' a s:=by
 obtain ⟨b,hb,Ap,h1,h2⟩:=h;have hx:=W.at hb
 have e:AY c p' b=AY c p b:=by
  refine NH (Cd b hb) (hx.in64 (by have:=W.k;omega)) fun t _=>?_
  obtain ⟨u,_,hu⟩:=(FC (Cd b hb)).1 (N8 b hb);have ro:u=s:=aY hx W.k h1 (hS b hb u hu) h2;subst ro;cases ht:tb (AY c p b) t with
  | true=>
   have:t=u:=aY hx W.k h1 ht h2;subst this;exact hu
  | false=>
   cases Tk:tb (AY c p' b) t with
   | false=>rfl
   | true=>rw [hS b hb t Tk] at ht;cases ht
 refine ⟨b,hb,Ap,?_,?_⟩
 ·rw [e];exact h1
 ·rw [e];exact h2
theorem cg {c:AB} (hS:Fm c p' p) {a:Nat} (ha:a<c.cells.length) (h:DT c p a=true):DT c p' a=true:=by
 unfold DT at h ⊢;rw [yo] at h ⊢;exact ZD (hS a ha) h
theorem cu {c:AB} (hS:Fm c p' p) (Cd: ∀ a,a<c.cells.length -> B4 (AY c p' a)) (N8: ∀ a,a<c.cells.length -> AY c p' a≠0) {a:Nat} (ha:a<c.cells.length) (h:D8 c p' a=true):D8 c p a=true:=by
 unfold D8 at h ⊢;rw [yk,zl] at h ⊢;right;rcases h with h | h
 ·unfold DT at h;rw [yo] at h;obtain ⟨u,_,hu⟩:=(FC (Cd a ha)).1 (N8 a ha);exact ig (hS a ha u hu) (XC h hu)
 ·exact ZC (hS a ha) h
theorem wZ {c:AB} (hS:Fm c p' p) (Cd: ∀ a,a<c.cells.length -> B4 (AY c p' a)) (N8: ∀ a,a<c.cells.length -> AY c p' a≠0) (CI:KB c p'=true):
 KB c p=true/\ ∀ a s,a<c.cells.length -> tb (AY c p' a) s=true -> HZ c p a s=true -> HZ c p' a s=true:=by
 have m1:=gV (f:=DT c p) (g:=DT c p') (m:=c.cells.length) fun a ha=>cg hS ha
 have m2:=gV (f:=D8 c p') (g:=D8 c p) (m:=c.cells.length) fun a ha=>cu hS Cd N8 ha
 unfold KB at CI ⊢;rw [yT,zM,zM,za,za] at CI ⊢;refine ⟨⟨by omega,by omega⟩,fun a s ha hs h=>?_⟩;unfold HZ at h ⊢;rw [yk,yT,yT,yT,yT,yo,yo,zl,zl,zM] at h ⊢;rcases h with ⟨⟨h1,h2⟩,h3⟩ | ⟨⟨h1,h2⟩,h3⟩
 ·refine .inl ⟨⟨by omega,fun h4=>?_⟩,h3⟩;have:=gU (f:=DT c p) (g:=DT c p') (m:=c.cells.length) (a:=a) (fun a ha=>cg hS ha) ha (by unfold DT;exact zW.2 h2) (by unfold DT;exact yo.2 h4);omega
 ·refine .inr ⟨⟨by omega,fun h4=>?_⟩,h3⟩
  have:=gU (f:=D8 c p') (g:=D8 c p) (m:=c.cells.length) (a:=a) (fun a ha=>cu hS Cd N8 ha) ha
   (by
    unfold D8 DT;rw [Bool.or_eq_false_iff,zW,bne_eq_false_iff_eq];exact ⟨xz hs h3,h4⟩) (by unfold D8;rw [yk,zl];exact .inr h2)
  omega
theorem VJ {f g:Nat -> Int}: ∀ {m:Nat},(∀ a,a<m -> f a<=g a) -> CJ f m<=CJ g m/\ ∀ a,a<m -> CJ f m-f a<=CJ g m-g a
 | 0,_=>⟨zO _,fun a ha=>absurd ha (yg a)⟩
 | m+1,h=>by
  obtain ⟨h1,h2⟩:=VJ (m:=m) fun a ha=>h a (by omega)
  have hm:=h m (by omega);have e: ∀ f:Nat -> Int,CJ f (m+1)=CJ f m+f m:=fun f=>rfl
  rw [e,e];refine ⟨by omega,fun a ha=>?_⟩;rcases yd.1 ha with ha | rfl
  ·have:=h2 a ha;omega
  ·omega
theorem Wn {n:Int}: ∀ (l:List Int) (a:Int),n<=l.foldl (It q) a↔n<=a/\ ∀ e∈l,n<=q.values.getD e.toNat 0
 | [],a=>by simp
 | e::l,a=>by
  rw [zn,Wn l];unfold It;simp only [yq,zBN];split <;> constructor <;> rintro ⟨h1,h2⟩
  ·exact ⟨by omega,h1,h2⟩
  ·exact ⟨h2.1,h2.2⟩
  ·exact ⟨h1,by omega,h2⟩
  ·exact ⟨h1,h2.2⟩
theorem Xp {n:Int}: ∀ (l:List Int) (a:Int),l.foldl (I3 q) a<=n↔a<=n/\ ∀ e∈l,q.values.getD e.toNat 0<=n
 | [],a=>by simp
 | e::l,a=>by
  rw [zn,Xp l];unfold I3;simp only [yq,zBN];split <;> constructor <;> rintro ⟨h1,h2⟩
  ·exact ⟨by omega,h1,h2⟩
  ·exact ⟨h2.1,h2.2⟩
  ·exact ⟨h1,by omega,h2⟩
  ·exact ⟨h1,h2.2⟩
theorem VO {k:Nat} (hk:k<=16) {x x':Int} (hx:Sm k x) (Ti:Sm k x') (h: ∀ s,tb x' s=true -> tb x s=true): ∀ e∈BK x',e∈BK x:=fun e he=>by
 obtain ⟨s,rfl,h1,h2⟩:=(Eg Ti (yf hk (by decide))).1 he;exact (Eg hx (yf hk (by decide))).2 ⟨s,rfl,h1,h s h2⟩
theorem jn {c:AB} {k:Nat} (W:Bs c k p) (W':Bs c k p') (hS:Fm c p' p) (CI:JV q c p'=true):
 JV q c p=true/\ ∀ a s,a<c.cells.length -> HA q c p a s=true -> HA q c p' a s=true:=by
 have sub: ∀ a,a<c.cells.length -> ∀ e∈BK (AY c p' a),e∈BK (AY c p a):=fun a ha=>VO W.k (W.at ha) (W'.at ha) (hS a ha)
 have l1: ∀ a,a<c.cells.length -> Dt q (AY c p a)<=Dt q (AY c p' a):=fun a ha=>by
  have h:=(Wn (q:=q) (BK (AY c p a)) 100).1 (zO _);exact (Wn (BK (AY c p' a)) 100).2 ⟨h.1,fun e he=>h.2 e (sub a ha e he)⟩
 have l2: ∀ a,a<c.cells.length -> Dw q (AY c p' a)<=Dw q (AY c p a):=fun a ha=>by
  have h:=(Xp (q:=q) (BK (AY c p a)) (-1)).1 (zO _);exact (Xp (BK (AY c p' a)) (-1)).2 ⟨h.1,fun e he=>h.2 e (sub a ha e he)⟩
 have t1:=VJ (f:=fun a=>Dt q (AY c p a)) (g:=fun a=>Dt q (AY c p' a)) (m:=c.cells.length) l1;have t2:=VJ (f:=fun a=>Dw q (AY c p' a)) (g:=fun a=>Dw q (AY c p a)) (m:=c.cells.length) l2;have e1: ∀ p,Is q c p=CJ (fun a=>Dt q (AY c p a)) c.cells.length:=fun _=>rfl
 have e2: ∀ p,I2 q c p=CJ (fun a=>Dw q (AY c p a)) c.cells.length:=fun _=>rfl
 unfold JV at CI ⊢;rw [yT,zM,zM,za,za,e1,e2] at CI ⊢;refine ⟨⟨by omega,by omega⟩,fun a s ha h=>?_⟩;unfold HA at h ⊢;rw [yk,ye,ye,e1,e2] at h ⊢;have h1:=t1.2 a ha;have h2:=t2.2 a ha;rcases h with h | h
 ·exact .inl (by omega)
 ·exact .inr (by omega)
theorem Rh {n b:Int}: ∀ (l:List Int) (a:Int),n<=l.foldl (IX q b) a↔n<=a/\ ∀ e∈l,q.values.getD e.toNat 0>b -> n<=q.values.getD e.toNat 0
 | [],a=>by simp
 | e::l,a=>by
  rw [zn,Rh l];unfold IX;simp only [yq,zBN];split
  ·split <;> constructor <;> rintro ⟨h1,h2⟩
   ·exact ⟨by omega,fun _=>h1,h2⟩
   ·exact ⟨h2.1 (by assumption),h2.2⟩
   ·exact ⟨h1,fun _=>by omega,h2⟩
   ·exact ⟨h1,h2.2⟩
  ·constructor <;> rintro ⟨h1,h2⟩
   ·exact ⟨h1,fun h=>absurd h (by assumption),h2⟩
   ·exact ⟨h1,h2.2⟩
theorem UV {n b:Int}: ∀ (l:List Int) (a:Int),l.foldl (IJ q b) a<=n↔a<=n/\ ∀ e∈l,q.values.getD e.toNat 0<b -> q.values.getD e.toNat 0<=n
 | [],a=>by simp
 | e::l,a=>by
  rw [zn,UV l];unfold IJ;simp only [yq,zBN];split
  ·split <;> constructor <;> rintro ⟨h1,h2⟩
   ·exact ⟨by omega,fun _=>h1,h2⟩
   ·exact ⟨h2.1 (by assumption),h2.2⟩
   ·exact ⟨h1,fun _=>by omega,h2⟩
   ·exact ⟨h1,h2.2⟩
  ·constructor <;> rintro ⟨h1,h2⟩
   ·exact ⟨h1,fun h=>absurd h (by assumption),h2⟩
   ·exact ⟨h1,h2.2⟩
theorem iE {c:AB} {k:Nat} (W:Bs c k p) (W':Bs c k p') (hS:Fm c p' p): ∀ a,a<=c.cells.length -> E9 q c p a<=E9 q c p' a
 | 0,_=>zO _
 | a+1,ha=>by
  have ih:=iE W W' hS a (by omega);have h:=(Rh (q:=q) (b:=E9 q c p a) (BK (AY c p a)) 100).1 (zO _);exact (Rh (BK (AY c p' a)) 100).2 ⟨h.1,fun e he hg=>h.2 e (VO W.k (W.at (by omega)) (W'.at (by omega)) (hS a (by omega)) e he) (by omega)⟩
theorem io {c:AB} {k:Nat} (W:Bs c k p) (W':Bs c k p') (hS:Fm c p' p): ∀ m,m<=c.cells.length -> GX q c p' m<=GX q c p m
 | 0,_=>zO _
 | m+1,hm=>by
  have ih:=io W W' hS m (by omega);have h:=(UV (q:=q) (b:=GX q c p m) (BK (AY c p (c.cells.length-1-m))) (-1)).1 (zO _);exact (UV (BK (AY c p' (c.cells.length-1-m))) (-1)).2 ⟨h.1,fun e he hg=>h.2 e (VO W.k (W.at (by omega)) (W'.at (by omega)) (hS _ (by omega)) e he) (by omega)⟩
theorem nB {c:AB} {k:Nat} (W:Bs c k p) (W':Bs c k p') (hS:Fm c p' p) {a s:Nat} (ha:a<c.cells.length) (h:Gf q c p a s=true):Gf q c p' a s=true:=by
 have h1:=iE (q:=q) W W' hS a (by omega);have h2:=io (q:=q) W W' hS (c.cells.length-(a+1)) (by omega);unfold Gf Hc at h ⊢;rw [yk,ye,ye] at h ⊢;rcases h with h | h
 ·exact .inl (by omega)
 ·exact .inr (by omega)
theorem Wv {c:AB} (hS:Fm c p' p) {a:Nat} (ha:a<c.cells.length) {inn:Bool} (h:kd c p' a inn=true):kd c p a inn=true:=by
 unfold kd at h ⊢;cases inn
 ·rw [yO,zl] at h ⊢;exact fun h2=>h (ZD (hS a ha) h2)
 ·rw [yV,zl] at h ⊢;exact ZC (hS a ha) h
theorem V2 {c:AB} (hS:Fm c p' p): ∀ (a:Nat),a<=c.cells.length -> ∀ t,EX c p' a t -> EX c p a t
 | 0,_,t,h=>h
 | a+1,ha,t,⟨s,inn,h1,h2,h3⟩=>⟨s,inn,V2 hS a (by omega) s h1,h2,Wv hS (by omega) h3⟩
theorem dJ {c:AB} (hS:Fm c p' p): ∀ (m:Nat),m<=c.cells.length -> ∀ t,Hg c p' m t -> Hg c p m t
 | 0,_,t,h=>h
 | m+1,hm,t,⟨h1,u,inn,h2,h3,h4⟩=>⟨V2 hS _ (by omega) t h1,u,inn,h2,Wv hS (by omega) h3,dJ hS m (by omega) u h4⟩
theorem gh {c:AB} (hS:Fm c p' p) {a:Nat} (ha:a<c.cells.length) {inn:Bool} (h:IM c p' a inn):IM c p a inn:=by
 obtain ⟨s,t,h1,h2,h3,h4⟩:=h;exact ⟨s,t,V2 hS a (by omega) s h1,h2,Wv hS ha h3,dJ hS _ (by omega) t h4⟩
theorem mT {c:AB} (hS:Fm c p' p) {a s:Nat} (ha:a<c.cells.length) (h:Hs c p a s):Hs c p' a s:=
 h.elim (fun h=>.inl ⟨fun h2=>h.1 (gh hS ha h2),h.2⟩) fun h=>.inr ⟨fun h2=>h.1 (gh hS ha h2),h.2⟩
theorem cD {ok:Nat -> Nat -> Bool} {c:AB} (hS:Fm c p' p) (h2:c.cells.length=2) {a s:Nat} (h:Fc ok c p a s):Fc ok c p' a s:=by
 unfold Fc at h ⊢;split
 ·rename_i h0;rw [yP h0] at h;exact fun ⟨t,h3,h4⟩=>h ⟨t,hS 1 (by omega) t h3,h4⟩
 ·rename_i h0;rw [yb h0] at h;exact fun ⟨t,h3,h4⟩=>h ⟨t,hS 0 (by omega) t h3,h4⟩
structure LW (c:AB) (q:AA) (p p':List Int):Prop where
 W:EE c q p
 W':EE c q p'
 len:p.length=p'.length
 sub: ∀ j,j<p.length -> ∀ s,tb (p'.getD j 0) s=true -> tb (p.getD j 0) s=true
section
variable {c:AB}
theorem LW.pB (H:LW c q p p'): ∀ v:Int,(pB c p').getD v.toNat false=true -> (pB c p).getD v.toNat false=true:=fun v h=>by
 have hl:=H.len
 by_cases hv:v.toNat<p.length
 ·rw [Pp (by omega),zl] at h;rw [Pp hv,zl];exact ZC (H.sub _ hv) h
 ·rw [u8,zb (by rw [E0];omega)] at h;cases h
theorem LW.cB (H:LW c q p p'): ∀ v:Int,(cB c p).getD v.toNat false=true -> (cB c p').getD v.toNat false=true:=fun v h=>by
 have hl:=H.len
 by_cases hv:v.toNat<p.length
 ·rw [RD hv,yo] at h;rw [RD (by omega),yo];exact ZD (H.sub _ hv) h
 ·rw [u8,zb (by rw [EW];omega)] at h;cases h
theorem cQ {x:List Int} {j s:Nat} (hj:j<x.length) (h1:tb (x.getD j 0) s=true) (h2:tb c.set s=true):(pB c x).getD j false=true:=by
 rw [Pp hj,zl];exact ig h1 h2
theorem ab {x:List Int} {j s:Nat} (hj:j<x.length) (h:(cB c x).getD j false=true) (h1:tb (x.getD j 0) s=true):tb c.set s=true:=by
 rw [RD hj,yo] at h;exact XC h h1
theorem keep (W:EE c q p') (Md: ∀ v,v<p'.length -> ∃ s,tb (p'.getD v 0) s=true/\ ¬ El c q p' v s) {r:Int} (h0:0<=r) (hF:Fn (cB c p') r) {v:Int} (K2:0<=v) (B3:v<(p'.length:Int)) (hc:(cB c p').getD v.toNat false=true):Rc q.nbrs (pB c p') r v:=by
 refine Classical.byContradiction fun h=>?_
 obtain ⟨s,h1,h2⟩:=Md v.toNat (by omega);have e:((v.toNat:Nat):Int)=v:=by omega
 exact h2 ⟨W.cp (by omega) hc,ab (by omega) hc h1,r,h0,hF,by rw [e];exact h⟩
theorem Fn.ex (W:EE c q p') {v:Int} (K2:0<=v) (B3:v<(p'.length:Int)) (hc:(cB c p').getD v.toNat false=true): ∃ r:Int,0<=r/\ r<(p'.length:Int)/\ Fn (cB c p') r/\ (cB c p').getD r.toNat false=true:=by
 obtain ⟨r,_,hF⟩:=QL (l:=cB c p') (by rw [EW];exact W.l1);rcases hF with ⟨h1,h2⟩ | ⟨h1,h2,h3,h4⟩
 ·rw [h2 v.toNat (by rw [EW];omega)] at hc;cases hc
 ·rw [EW] at h2;exact ⟨r,h1,h2,.inr ⟨h1,by rw [EW];exact h2,h3,h4⟩,h3⟩
theorem Fn.at {r:Int} (h0:0<=r) (h:Fn (cB c p) r):r<(p.length:Int)/\ (cB c p).getD r.toNat false=true:=by
 rcases h with ⟨h1,_⟩ | ⟨_,h1,h2,_⟩
 ·omega
 ·rw [EW] at h1;exact ⟨h1,h2⟩
theorem fw (H:LW c q p p') (Md: ∀ v,v<p'.length -> ∃ s,tb (p'.getD v 0) s=true/\ ¬ El c q p' v s) {a s:Nat} (ha:a<p.length) (hs:tb (p'.getD a 0) s=true) (h:El c q p a s):El c q p' a s:=by
 obtain ⟨h1,h2,r,Dg,hF,h3⟩:=h;have hl:=H.len;have gl:=H.W'.gl;obtain ⟨Jw,sL⟩:=hF.at Dg;have eA:=H.cB r sL;obtain ⟨r',h4,h5,Mp,h6⟩:=Fn.ex H.W' Dg (by omega) eA;refine ⟨cQ (by omega) hs h2,h2,r',h4,Mp,fun h7=>h3 ?_⟩;have h8:=keep H.W' Md h4 Mp Dg (by omega) eA;have h9:=h8.symm H.W'.g.gr h4 (by omega) (H.W'.cp (by omega) h6);exact (h9.trans h7).mono H.pB
theorem xh {g:List (List Int)} {inn:List Bool} {u a v:Int} (t8: ¬ Rc g inn u a) (ha:0<=a) (G:Gr g) (XJ:0<=u) (Gu:u<(g.length:Int)) (h:Rc g inn u v):Rc g (inn.set a.toNat false) u v:=by
 induction h with
 | start=>exact .start
 | @step x y h hb hi ih=>
  refine .step ih hb ?_;have hr:=(Rc.step h hb hi).rng G XJ Gu
  have Ap:a.toNat≠y.toNat:=fun e=>t8 (by
   have e2:a=y:=by omega
   rw [e2];exact Rc.step h hb hi)
  rw [u8,zU Ap,←u8];exact hi
theorem wo (H:LW c q p p') (Md: ∀ v,v<p'.length -> ∃ s,tb (p'.getD v 0) s=true/\ ¬ Gz c q p' v s) {a s:Nat} (ha:a<p.length) (hs:tb (p'.getD a 0) s=true) (h:Gz c q p a s):Gz c q p' a s:=by
 have hl:=H.len;have gl:=H.W'.gl;have gl1:=H.W.gl
 have QX: ∀ v,v<p'.length -> ∃ s,tb (p'.getD v 0) s=true/\ ¬ El c q p' v s:=fun v hv=>by
  obtain ⟨t,h1,h2⟩:=Md v hv;exact ⟨t,h1,fun h=>h2 (.inl h)⟩
 rcases h with h | ⟨h1,h2,⟨u,v,rq,rh,hu,hv,h3,h4,h5⟩,h6⟩
 ·exact .inl (fw H QX ha hs h)
 ·have Iz:=h3.rng H.W.g.gr (by omega) (by omega);have F4:=h4.rng H.W.g.gr (by omega) (by omega);have Be:=H.cB u hu;have DJ:=H.cB v hv;have pu:=H.W'.cp (j:=u.toNat) (by omega) Be;obtain ⟨r',h7,h8,Mp,h9⟩:=Fn.ex H.W' Iz.1 (by omega) Be;have ku:=keep H.W' QX h7 Mp Iz.1 (by omega) Be;have kv:=keep H.W' QX h7 Mp F4.1 (by omega) DJ;have uv:Rc q.nbrs (pB c p') u v:=(ku.symm H.W'.g.gr h7 (by omega) (H.W'.cp (by omega) h9)).trans kv
  have ci: ∀ w:Int,((pB c p').set (a:Int).toNat false).getD w.toNat false=true -> ((pB c p).set (a:Int).toNat false).getD w.toNat false=true:=fun w hw=>by
   have la:(pB c p').length=p'.length:=E0;have lb:(pB c p).length=p.length:=E0;rw [Us (by omega)] at hw ⊢;split
   ·rename_i e;rw [yP e] at hw;exact hw
   ·rename_i e;rw [yb e] at hw;exact H.pB w hw
  have ua:Rc q.nbrs (pB c p') u a:=Classical.byContradiction fun Mr=>h5 ((xh Mr (by omega) H.W'.g.gr Iz.1 (by omega) uv).mono ci)
  have au:=ua.symm H.W'.g.gr Iz.1 (by omega) pu;refine .inr ⟨?_,?_,⟨u,v,rq,rh,Be,DJ,au,au.trans uv,fun Mr=>h5 (Mr.mono ci)⟩,h6⟩
  ·have:=ua.isIn pu
   rwa [yU] at this
  ·cases hc:(cB c p').getD a false with
   | false=>rfl
   | true=>rw [ab (by omega) hc hs] at h6;cases h6
theorem pr (H:LW c q p p') (CI:MG c q p') (Md: ∀ v,v<p'.length -> ∃ s,tb (p'.getD v 0) s=true/\ ¬ Kw c q p' v s):MG c q p/\ ∀ a s,a<p.length -> tb (p'.getD a 0) s=true -> Kw c q p a s -> Kw c q p' a s:=by
 have hl:=H.len
 have QX: ∀ v,v<p'.length -> ∃ s,tb (p'.getD v 0) s=true/\ ¬ El c q p' v s:=fun v hv=>by
  obtain ⟨t,h1,h2⟩:=Md v hv;exact ⟨t,h1,fun h=>h2 (.inl h)⟩
 have cb: ∀ v:Nat,(cB c p).getD v false=true -> (cB c p').getD v false=true:=fun v h=>H.cB (v:Int) h
 have dP: ∀ v:Int,CE q.nbrs (pB c p') v<=CE q.nbrs (pB c p) v:=fun v=>Q7 _ fun x _ h=>H.pB x h
 have dC: ∀ v:Int,CE q.nbrs (cB c p) v<=CE q.nbrs (cB c p') v:=fun v=>Q7 _ fun x _ h=>H.cB x h
 refine ⟨fun v hv hc=>?_,fun a s ha hs h=>?_⟩
 ·have:=CI v (by omega) (cb v hc);have h1:=dP v;have h2:=dC v;omega
 ·rcases h with h | ⟨v,hv,h1,h2,h3,h4⟩
  ·exact .inl (fw H QX ha hs h)
  ·have hk:=CI v (by omega) (cb v h1);have e1:=dP v;have e2:=dC v;refine .inr ⟨v,by omega,cb v h1,h2,?_⟩;rcases h4 with ⟨h4,h5⟩ | ⟨h4,h5,h6⟩
   ·have hp:(pB c p').getD a false=true:=by
     cases hp:(pB c p').getD a false with
     | true=>rfl
     | false=>
      have:=My (f:=fun x:Int=>(pB c p').getD x.toNat false) (g:=fun x:Int=>(pB c p).getD x.toNat false) (a:=(a:Int)) hp h3 (nb q.nbrs v) (fun x _ h=>H.pB x h) h2;have e3:CE q.nbrs (pB c p') v+1<=CE q.nbrs (pB c p) v:=this;omega
    exact ⟨hp,.inl ⟨by omega,h5⟩⟩
   ·have hp:=cQ (c:=c) (by omega) hs h6
    have hc:(cB c p').getD a false=false:=by
     cases hc:(cB c p').getD a false with
     | false=>rfl
     | true=>
      have:=My (f:=fun x:Int=>(cB c p).getD x.toNat false) (g:=fun x:Int=>(cB c p').getD x.toNat false) (a:=(a:Int)) h5 hc (nb q.nbrs v) (fun x _ h=>H.cB x h) h2;have e3:CE q.nbrs (cB c p) v+1<=CE q.nbrs (cB c p') v:=this;omega
    exact ⟨hp,.inr ⟨by omega,hc,h6⟩⟩
end
theorem mono (C:Bj q i p) (C':Bj q i p') (hS:Fm (con q i) p' p) (hA:OA q (con q i) p'):
 CO q (con q i) p/\ ∀ k,k<(con q i).cells.length -> ∀ s,tb (AY (con q i) p' k) s=true -> BU q (con q i) p k s -> BU q (con q i) p' k s:=by
 have W:=C.work;have W':=C'.work;have Cd: ∀ a,a<(con q i).cells.length -> B4 (AY (con q i) p' a):=fun a ha=>(W'.at ha).in64 (by have:=W'.k;omega)
 have kc:=ML (MK C.kind);have HJ: ∀ {k:Int},(con q i).kind=k -> k≠2 -> k≠3 -> k≠9 -> CO q (con q i) p:=fun hk h2 h3 h9=>⟨fun h=>absurd (hk.symm.trans h) h2,fun h=>absurd (hk.symm.trans h) h3,hA.ok.2.2.1,fun h=>absurd (hk.symm.trans h) h9⟩
 have all: ∀ {hk:(con q i).kind=8∨(con q i).kind=9},LW (con q i) q p p':=fun {hk}=>by
  have hl:=C.len;have EA:=C'.len
  have OH:GA p'=false:=JE.2 fun j hj=>by
   have hk8:(con q i).cells.length=p'.length:=by
    have h:=C'.kind;unfold Ff at h;rcases hk with hk | hk <;> rw [hk] at h <;> simp at h <;> omega
   have:=hA.nz j (by omega)
   have e:AY (con q i) p' j=p'.getD j 0:=by
    unfold AY;rw [C'.cells.2.2 (by omega) j (by omega),yU]
   rwa [e] at this
  have A':=C'.all hk OH
  have K4: ∀ j,j<p.length -> ∀ s,tb (p'.getD j 0) s=true -> tb (p.getD j 0) s=true:=fun j hj s hs=>by
   have e: ∀ x:List Int,AY (con q i) x j=x.getD j 0:=fun x=>by
    unfold AY;rw [A'.id j (by omega),yU]
   have:=hS j (by rw [A'.len];omega) s (by rw [e];exact hs)
   rwa [e] at this
  have hd:GA p=false:=JE.2 fun j hj=>by
   have h:=JE.1 OH j (by omega);obtain ⟨s,h1,h2⟩:=(FC ((C'.sm j (by omega)).in64 (by have:=W'.k;omega))).1 h;exact (FC ((C.sm j hj).in64 (by have:=W'.k;omega))).2 ⟨s,h1,K4 j hj s h2⟩
  exact ⟨C.all hk hd,A',by omega,K4⟩
 rcases kc with hk | hk | hk | hk | hk | hk | hk | hk | hk
 ·refine ⟨HJ hk (by decide) (by decide) (by decide),fun k CV s hs h=>?_⟩;unfold BU at h ⊢;rw [hk] at h ⊢;simp at h ⊢;exact wM W hS Cd hA.nz h
 ·have h2:=wZ hS Cd hA.nz (hA.ok.1 hk);refine ⟨⟨fun _=>h2.1,fun h=>absurd (hk.symm.trans h) (by decide),hA.ok.2.2.1,fun h=>absurd (hk.symm.trans h) (by decide)⟩,fun k CV s hs h=>?_⟩;unfold BU at h ⊢;rw [hk] at h ⊢;simp at h ⊢;exact h2.2 k s CV hs h
 ·have h2:=jn (q:=q) W W' hS (hA.ok.2.1 hk);refine ⟨⟨fun h=>absurd (hk.symm.trans h) (by decide),fun _=>h2.1,hA.ok.2.2.1,fun h=>absurd (hk.symm.trans h) (by decide)⟩,fun k CV s hs h=>?_⟩;unfold BU at h ⊢;rw [hk] at h ⊢;simp at h ⊢;exact h2.2 k s CV h
 ·refine ⟨HJ hk (by decide) (by decide) (by decide),fun k CV s hs h=>?_⟩;unfold BU at h ⊢;rw [hk] at h ⊢;simp at h ⊢;exact nB W W' hS CV h
 ·refine ⟨HJ hk (by decide) (by decide) (by decide),fun k CV s hs h=>?_⟩;unfold BU at h ⊢;rw [hk] at h ⊢;simp at h ⊢;exact mT hS CV h
 ·refine ⟨HJ hk (by decide) (by decide) (by decide),fun k CV s hs h=>?_⟩;have h2:=C.two (.inl hk);unfold BU at h ⊢;rw [hk] at h ⊢;simp at h ⊢;exact cD hS h2 h
 ·refine ⟨HJ hk (by decide) (by decide) (by decide),fun k CV s hs h=>?_⟩;have h2:=C.two (.inr hk);unfold BU at h ⊢;rw [hk] at h ⊢;simp at h ⊢;exact cD hS h2 h
 ·have H:=all (hk:=.inl hk)
  have e: ∀ (x:List Int) (j:Nat),j<p.length -> AY (con q i) x j=x.getD j 0:=fun x j hj=>by
   unfold AY;rw [H.W.id j hj,yU]
  have Ay:=H.W.len;have hl:=H.len;have lc: ∀ x a s,BU q (con q i) x a s↔Gz (con q i) q x a s:=fun x a s=>by unfold BU;rw [hk];simp
  refine ⟨HJ hk (by decide) (by decide) (by decide),fun k CV s hs h=>?_⟩;rw [lc] at h ⊢;rw [e _ _ (by omega)] at hs;refine wo H (fun v hv=>?_) (by omega) hs h;obtain ⟨t,h1,h2⟩:=hA.left v (by omega);rw [e _ _ (by omega)] at h1;exact ⟨t,h1,fun h3=>h2 ((lc _ _ _).2 h3)⟩
 ·have H:=all (hk:=.inr hk)
  have e: ∀ (x:List Int) (j:Nat),j<p.length -> AY (con q i) x j=x.getD j 0:=fun x j hj=>by
   unfold AY;rw [H.W.id j hj,yU]
  have Ay:=H.W.len;have hl:=H.len;have lc: ∀ x a s,BU q (con q i) x a s↔Kw (con q i) q x a s:=fun x a s=>by unfold BU;rw [hk];simp
  have h2:=pr H (hA.ok.2.2.2 hk) fun v hv=>by
   obtain ⟨t,h1,h2⟩:=hA.left v (by omega);rw [e _ _ (by omega)] at h1;exact ⟨t,h1,fun h3=>h2 ((lc _ _ _).2 h3)⟩
  refine ⟨⟨fun h=>absurd (hk.symm.trans h) (by decide),fun h=>absurd (hk.symm.trans h) (by decide),hA.ok.2.2.1,fun _=>h2.1⟩,fun k CV s hs h=>?_⟩;rw [lc] at h ⊢;rw [e _ _ (by omega)] at hs;exact h2.2 k s (by omega) hs h
end
end Go.Proofs.YtgkhhfnhacibcaaGreatDoor
namespace Go.Proofs.YtgkhhfnhacibcaaGreatDoor
open Go.RowKit
section
variable {q:AA} {i:Int} {pos x:List Int}
theorem PR.sub {c:AB} (h:PR q c pos x) {j s:Nat} (hs:tb (x.getD j 0) s=true):j<pos.length/\ tb (pos.getD j 0) s=true:=by
 have hj:j<pos.length:=by
  refine zH fun CR=>?_
  rw [u8,zb (by have:=h.len;omega)] at hs;exact Ib hs
 refine ⟨hj,?_⟩
 by_cases hA:GE q c pos
 ·exact (((h.live hA j hj).2 s).1 hs).1
 ·rw [h.dead hA,Ra] at hs;exact absurd hs Ib
theorem PR.in64 {c:AB} (h:PR q c pos x) (j:Nat):B4 (x.getD j 0):=by
 by_cases hA:GE q c pos
 ·by_cases hj:j<pos.length
  ·exact (h.live hA j hj).1
  ·rw [u8,zb (by have:=h.len;omega)];exact ⟨by decide,by decide⟩
 ·rw [h.dead hA];exact U1 j
theorem WD (hv:Dc q=true) {y:List Int}:posOk q y=true↔(y.length:Int)=q.cells/\ ∀ j,j<y.length -> Sm q.symbols.toNat (y.getD j 0):=by
 unfold posOk;rw [yT,yo,ya];constructor
 ·rintro ⟨h1,h2⟩;refine ⟨h1,fun j hj=>?_⟩;have hm:y.getD j 0∈y:=by rw [u8,yQ hj];exact yw hj
  have:=h2 _ hm;rw [yT,ye,ye] at this;exact this
 ·rintro ⟨h1,h2⟩;refine ⟨h1,fun z hz=>?_⟩;obtain ⟨j,hj,rfl⟩:=zk hz;have:=h2 j hj;rw [u8,yQ hj] at this;rw [yT,ye,ye];exact this
end
section
variable {q:AA} {i:Int} {p p' x z:List Int}
theorem iw (C:Bj q i p) {k s:Nat} (hk:k<(con q i).cells.length):LC q (con q i) p ((con q i).cells.getD k 0).toNat s↔BU q (con q i) p k s:=by
 constructor
 ·rintro ⟨a,ha,e,h⟩;have h1:=C.work.cells a ha;have h2:=C.work.cells k hk;have BA:=C.cells.2.1;have e2:(con q i).cells.getD a 0=(con q i).cells.getD k 0:=by omega
  rw [u8,yQ ha,u8,yQ hk] at e2;have e2:(con q i).cells[a]=(con q i).cells[k]:=e2;have hp:=zA0.1 BA
  have:a=k:=by
   rcases Nat.lt_trichotomy a k with h3 | h3 | h3
   ·exact absurd e2 (hp a k ha hk h3)
   ·exact h3
   ·exact absurd e2.symm (hp k a hk ha h3)
  subst this;exact h
 ·intro h;exact ⟨k,hk,rfl,h⟩
theorem ik (C:Bj q i p):GE q (con q i) p↔(∀ j,j<p.length -> p.getD j 0≠0)/\ OA q (con q i) p:=by
 have W:=C.work;constructor
 ·intro h;refine ⟨h.nz,fun k hk=>h.nz _ (by have:=W.cells k hk;omega),h.ok,fun k hk=>?_⟩;obtain ⟨s,_,h1,h2⟩:=h.left ((con q i).cells.getD k 0).toNat (by have:=W.cells k hk;omega);exact ⟨s,h1,fun h3=>h2 ((iw C hk).2 h3)⟩
 ·rintro ⟨h1,h2⟩;refine ⟨h1,h2.ok,fun j hj=>?_⟩
  by_cases N7: ∃ k,k<(con q i).cells.length/\ ((con q i).cells.getD k 0).toNat=j
  ·obtain ⟨k,hk,rfl⟩:=N7;obtain ⟨s,h3,h4⟩:=h2.left k hk;exact ⟨s,zH fun h=>(by rw [IZ h] at h3;cases h3),h3,fun h5=>h4 ((iw C hk).1 h5)⟩
  ·obtain ⟨s,h3,h4⟩:=(FC ((C.sm j hj).in64 (by have:=W.k;omega))).1 (h1 j hj);exact ⟨s,h3,h4,fun ⟨a,ha,e,_⟩=>N7 ⟨a,ha,e⟩⟩
theorem ov (C:Bj q i p) (C':Bj q i p') (hS:Fm (con q i) p' p) (hA:OA q (con q i) p'):OA q (con q i) p/\ ∀ k,k<(con q i).cells.length -> ∀ s,tb (AY (con q i) p' k) s=true -> BU q (con q i) p k s -> BU q (con q i) p' k s:=by
 obtain ⟨h1,h2⟩:=mono C C' hS hA;have W:=C.work;refine ⟨⟨fun k hk=>?_,h1,fun k hk=>?_⟩,h2⟩
 ·obtain ⟨s,h3,_⟩:=hA.left k hk;exact (FC ((W.at hk).in64 (by have:=W.k;omega))).2 ⟨s,zH fun h=>(by rw [IZ h] at h3;cases h3),hS k hk s h3⟩
 ·obtain ⟨s,h3,h4⟩:=hA.left k hk;exact ⟨s,hS k hk s h3,fun h5=>h4 (h2 k hk s h3 h5)⟩
theorem oA (C:Bj q i p) (C':Bj q i p') (K4: ∀ j s,tb (p'.getD j 0) s=true -> tb (p.getD j 0) s=true) (hx:PR q (con q i) p x) (hz:PR q (con q i) p' z): ∀ j s,tb (z.getD j 0) s=true -> tb (x.getD j 0) s=true:=by
 intro j s h;have hl:=C.len;have EA:=C'.len
 by_cases YE:GE q (con q i) p'
 ·obtain ⟨n1,hO⟩:=(ik C').1 YE;obtain ⟨uy,h2⟩:=ov C C' (fun k _ s h=>K4 _ s h) hO
  have hA:GE q (con q i) p:=(ik C).2 ⟨fun j hj=>by
   obtain ⟨t,h3,h4⟩:=(FC ((C'.sm j (by omega)).in64 (by have:=C.work.k;omega))).1 (n1 j (by omega));exact (FC ((C.sm j hj).in64 (by have:=C.work.k;omega))).2 ⟨t,h3,K4 j t h4⟩,uy⟩
  obtain ⟨hj,_⟩:=hz.sub h;obtain ⟨h5,h6⟩:=((hz.live YE j hj).2 s).1 h;refine ((hx.live hA j (by omega)).2 s).2 ⟨K4 j s h5,fun ⟨k,hk,e,h7⟩=>h6 ⟨k,hk,e,h2 k hk s ?_ h7⟩⟩
  show tb (p'.getD ((con q i).cells.getD k 0).toNat 0) s=true
  rw [e];exact h5
 ·rw [hz.dead YE,Ra] at h;exact absurd h Ib
end
section
variable {q:AA} {i:Int} {a b:List Int}
theorem bp (C:Bj q i a): ∃ x,Ev (fun n=>Hv n q i a) (x,0)/\ PR q (con q i) a x:=by
 obtain ⟨r,h1,h2,h3,_⟩:=bq (i:=i) C.fit (pos:=a) (yf C.len256.2 (by decide));obtain ⟨x,e⟩:=r;have e0:e=0:=h2.trans C.check;subst e0;exact ⟨x,h1,h3 rfl⟩
theorem n9 (hF:FA q) (hl:a.length<=LB) (h:GU q i a≠0): ∃ e,e≠0/\ Ev (fun n=>Hv n q i a) ([],e):=by
 obtain ⟨r,h1,h2,_,h4⟩:=bq (i:=i) hF hl;obtain ⟨x,e⟩:=r;have h2:e=GU q i a:=h2;have he:e≠0:=by rw [h2];exact h
 have:x= []:=h4 he;subst this;exact ⟨e,he,h1⟩
end
section
variable {q:AA} {i j:Int} {p p' x y z:List Int}
theorem PR.posOk (C:Bj q i p) (h:PR q (con q i) p x):posOk q x=true:=by
 refine (WD C.valid).2 ⟨by rw [h.len];exact C.len,fun j hj=>?_⟩;have hk:=C.work.k;refine VY (by omega) (h.in64 j) fun s hs _=>?_
 cases ht:tb (x.getD j 0) s with
 | false=>rfl
 | true=>
  obtain ⟨h1,h2⟩:=h.sub ht;rw [(C.sm j h1).hi hs] at h2;cases h2
end
end Go.Proofs.YtgkhhfnhacibcaaGreatDoor
namespace Go.Proofs.YtgkhhfnhacibcaaGreatDoor
open Go.RowKit
section
variable {q:AA} {c:AB} {pos:List Int} {k:Nat}
def LZ (c:AB) (pos:List Int) (i j:Nat) (g:Nat -> Nat):Prop:=∀ b,i<=b -> b<j -> tb (AY c pos b) (g b)=true
def GC (q:AA) (i j:Nat) (g:Nat -> Nat):Prop:=∀ b,i<=b -> b+1<j -> q.values.getD (g b) 0<q.values.getD (g (b+1)) 0
theorem Zb {b:Int}: ∀ (l:List Int) (a:Int),l.foldl (IX q b) a=a∨∃ e∈l,q.values.getD e.toNat 0=l.foldl (IX q b) a/\ q.values.getD e.toNat 0>b
 | [],a=>.inl rfl
 | e::l,a=>by
  rw [zn];rcases Zb l (IX q b a e) with h | ⟨x,h1,h2⟩
  ·rw [h];unfold IX;split
   ·rename_i h3;split
    ·exact .inr ⟨e,zT,rfl,h3⟩
    ·exact .inl rfl
   ·exact .inl rfl
  ·exact .inr ⟨x,yx _ h1,h2⟩
theorem gL {b:Int}: ∀ (l:List Int) (a:Int),l.foldl (IJ q b) a=a∨∃ e∈l,q.values.getD e.toNat 0=l.foldl (IJ q b) a/\ q.values.getD e.toNat 0<b
 | [],a=>.inl rfl
 | e::l,a=>by
  rw [zn];rcases gL l (IJ q b a e) with h | ⟨x,h1,h2⟩
  ·rw [h];unfold IJ;split
   ·rename_i h3;split
    ·exact .inr ⟨e,zT,rfl,h3⟩
    ·exact .inl rfl
   ·exact .inl rfl
  ·exact .inr ⟨x,yx _ h1,h2⟩
theorem iD (W:Bs c k pos): ∀ i,i<=c.cells.length -> E9 q c pos i<100 -> ∃ g,LZ c pos 0 i g/\ GC q 0 i g/\ (0<i -> q.values.getD (g (i-1)) 0=E9 q c pos i)
 | 0,_,_=>⟨fun _=>0,fun b _ h=>absurd h (yg b),fun b _ h=>absurd h (yg _),fun h=>absurd h (Nat.lt_irrefl 0)⟩
 | i+1,hi,h=>by
  rcases Zb (q:=q) (b:=E9 q c pos i) (BK (AY c pos i)) 100 with h1 | ⟨e,h1,h2,h3⟩
  ·have:E9 q c pos (i+1)=100:=h1;omega
  ·have h2:q.values.getD e.toNat 0=E9 q c pos (i+1):=h2;obtain ⟨s,rfl,hs,ht⟩:=(Eg (W.at (by omega)) (yf W.k (by decide))).1 h1;rw [yU] at h2 h3;obtain ⟨g,g1,g2,g3⟩:=iD W i (by omega) (by omega);refine ⟨fun b=>if b=i then s else g b,fun b h4 h5=>?_,fun b h4 h5=>?_,fun _=>?_⟩
   ·dsimp only
    by_cases e:b=i
    ·subst e;rw [yP rfl];exact ht
    ·rw [yb e];exact g1 b h4 (by omega)
   ·have e1:b≠i:=by omega
    dsimp only
    rw [yb e1]
    by_cases e2:b+1=i
    ·have:=g3 (by omega);rw [yP e2,show b=i-1 by omega,this];exact h3
    ·rw [yb e2];exact g2 b h4 (by omega)
   ·dsimp only
    rw [yP (by omega)];exact h2
theorem xT (W:Bs c k pos) {g:Nat -> Nat}: ∀ i,i<c.cells.length -> LZ c pos 0 (i+1) g -> GC q 0 (i+1) g -> E9 q c pos i<q.values.getD (g i) 0 -> E9 q c pos (i+1)<=q.values.getD (g i) 0:=fun i hi h1 _ h3=>by
 have h:=(Rh (q:=q) (b:=E9 q c pos i) (BK (AY c pos i)) 100).1 (zO _);have ht:=h1 i (zr _) (by omega);have hm:=(Eg (W.at hi) (yf W.k (by decide)) (e:=(g i:Int))).2 ⟨g i,rfl,zH fun CR=>(by rw [(W.at hi).hi CR] at ht;cases ht),ht⟩;have:=h.2 _ hm;rw [yU] at this;exact this h3
theorem iF (W:Bs c k pos) (V:DY q k) {g:Nat -> Nat}: ∀ i,i<c.cells.length -> LZ c pos 0 (i+1) g -> GC q 0 (i+1) g -> E9 q c pos i<q.values.getD (g i) 0
 | 0,hi,h1,_=>by
  have ht:=h1 0 (ym _) (by omega);have:=V.val (g 0) (zH fun CR=>(by rw [(W.at hi).hi CR] at ht;cases ht))
  show (-1:Int)<_
  omega
 | i+1,hi,h1,h2=>by
  have a1:LZ c pos 0 (i+1) g:=fun b h3 h4=>h1 b h3 (by omega)
  have a2:GC q 0 (i+1) g:=fun b h3 h4=>h2 b h3 (by omega)
  have h3:=iF W V i (by omega) a1 a2;have h4:=xT W i (by omega) a1 a2 h3;have h5:=h2 i (zr _) (by omega);omega
theorem il (W:Bs c k pos): ∀ m,m<=c.cells.length -> -1<GX q c pos m -> ∃ g,LZ c pos (c.cells.length-m) c.cells.length g/\ GC q (c.cells.length-m) c.cells.length g/\ (0<m -> q.values.getD (g (c.cells.length-m)) 0=GX q c pos m)
 | 0,_,_=>⟨fun _=>0,fun b h1 h2=>absurd h2 (by omega),fun b h1 h2=>absurd h2 (by omega),fun h=>absurd h (Nat.lt_irrefl 0)⟩
 | m+1,hm,h=>by
  rcases gL (q:=q) (b:=GX q c pos m) (BK (AY c pos (c.cells.length-1-m))) (-1) with h1 | ⟨e,h1,h2,h3⟩
  ·have:GX q c pos (m+1)= -1:=h1;omega
  ·have h2:q.values.getD e.toNat 0=GX q c pos (m+1):=h2;obtain ⟨s,rfl,hs,ht⟩:=(Eg (W.at (by omega)) (yf W.k (by decide))).1 h1;rw [yU] at h2 h3;obtain ⟨g,g1,g2,g3⟩:=il W m (by omega) (by omega);have ei:c.cells.length-(m+1)=c.cells.length-1-m:=by omega
   refine ⟨fun b=>if b=c.cells.length-1-m then s else g b,fun b h4 h5=>?_,fun b h4 h5=>?_,fun _=>?_⟩
   ·dsimp only
    by_cases e:b=c.cells.length-1-m
    ·subst e;rw [yP rfl];exact ht
    ·rw [yb e];exact g1 b (by omega) h5
   ·have e2:b+1≠c.cells.length-1-m:=by omega
    dsimp only
    rw [yb e2]
    by_cases e1:b=c.cells.length-1-m
    ·have:=g3 (by omega);rw [yP e1,show b+1=c.cells.length-m by omega,this];exact h3
    ·rw [yb e1];exact g2 b (by omega) h5
   ·dsimp only
    rw [yP ei];exact h2
theorem im (W:Bs c k pos) (V:DY q k) {g:Nat -> Nat}: ∀ m,m<c.cells.length -> LZ c pos (c.cells.length-1-m) c.cells.length g -> GC q (c.cells.length-1-m) c.cells.length g -> q.values.getD (g (c.cells.length-1-m)) 0<GX q c pos m
 | 0,hm,h1,_=>by
  have ht:=h1 (c.cells.length-1-0) (by omega) (by omega);have:=V.val (g (c.cells.length-1-0)) (zH fun CR=>(by rw [(W.at (by omega)).hi CR] at ht;cases ht))
  show _<(100:Int)
  omega
 | m+1,hm,h1,h2=>by
  have e1:c.cells.length-1-m=c.cells.length-1-(m+1)+1:=by omega
  have a1:LZ c pos (c.cells.length-1-m) c.cells.length g:=fun b h3 h4=>h1 b (by omega) h4
  have a2:GC q (c.cells.length-1-m) c.cells.length g:=fun b h3 h4=>h2 b (by omega) h4
  have h3:=im W V m (by omega) a1 a2;have h:=(UV (q:=q) (b:=GX q c pos m) (BK (AY c pos (c.cells.length-1-m))) (-1)).1 (zO _);have ht:=h1 (c.cells.length-1-m) (by omega) (by omega);have FL:=(Eg (W.at (a:=c.cells.length-1-m) (by omega)) (yf W.k (by decide)) (e:=(g (c.cells.length-1-m):Int))).2 ⟨_,rfl,zH fun CR=>(by rw [(W.at (by omega)).hi CR] at ht;cases ht),ht⟩;have h4:=h.2 _ FL;rw [yU] at h4;have h4:_<=GX q c pos (m+1):=h4 h3;have h5:=h2 (c.cells.length-1-(m+1)) (ym _) (by omega);rw [←e1] at h5;omega
theorem nC (W:Bs c k pos) (V:DY q k) {a s:Nat} (ha:a<c.cells.length) (hs:tb (AY c pos a) s=true):Gf q c pos a s=false↔∃ g,LZ c pos 0 c.cells.length g/\ GC q 0 c.cells.length g/\ g a=s:=by
 have hv:=V.val s (zH fun CR=>(by rw [(W.at ha).hi CR] at hs;cases hs));unfold Gf Hc;rw [Bool.or_eq_false_iff,za,za];constructor
 ·rintro ⟨h1,h2⟩;obtain ⟨g1,p1,p2,p3⟩:=iD (q:=q) W a (by omega) (by omega);obtain ⟨g2,r1,r2,r3⟩:=il (q:=q) W (c.cells.length-(a+1)) (by omega) (by omega);have el:c.cells.length-(c.cells.length-(a+1))=a+1:=by omega
  rw [el] at r1 r2 r3;refine ⟨fun b=>if b<a then g1 b else if b=a then s else g2 b,fun b _ hb=>?_,fun b _ hb=>?_,by dsimp only;rw [if_neg (by omega),if_pos rfl]⟩
  ·dsimp only
   by_cases e1:b<a
   ·rw [yP e1];exact p1 b (zr _) e1
   ·by_cases e2:b=a
    ·subst e2;rw [yb e1,yP rfl];exact hs
    ·rw [yb e1,yb e2];exact r1 b (by omega) hb
  ·dsimp only
   by_cases e1:b<a
   ·rw [yP e1]
    by_cases e2:b+1<a
    ·rw [yP e2];exact p2 b (zr _) e2
    ·have:=p3 (by omega);rw [yb e2,yP (by omega),show b=a-1 by omega,this];omega
   ·rw [yb e1,yb (by omega: ¬ b+1<a),yb (by omega: ¬ b+1=a)]
    by_cases e2:b=a
    ·have:=r3 (by omega);rw [yP e2,e2,this];omega
    ·rw [yb e2];exact r2 b (by omega) hb
 ·rintro ⟨g,h1,h2,rfl⟩;have l1:=iF W V a ha (fun b h3 h4=>h1 b h3 (by omega)) (fun b h3 h4=>h2 b h3 (by omega));have l2:=im W V (c.cells.length-1-a) (by omega) (fun b h3 h4=>h1 b (by omega) h4) (fun b h3 h4=>h2 b (by omega) h4);have e1:c.cells.length-1-(c.cells.length-1-a)=a:=by omega
  have e2:c.cells.length-(a+1)=c.cells.length-1-a:=by omega
  rw [e1] at l2;rw [e2];omega
def RX (c:AB) (pos:List Int) (a:Nat) (inn:Bool):Nat -> Int×Int -> Prop
 | 0,t=>RV c t
 | m+1,s=>∃ b u,kd c pos (c.cells.length-1-m) b=true/\ (c.cells.length-1-m=a -> b=inn)/\ nx c s.1 s.2 b=some u/\ RX c pos a inn m u
theorem SH {a:Nat} {inn:Bool}: ∀ (m:Nat),m+a+1<=c.cells.length -> ∀ t,EX c pos (c.cells.length-m) t -> (RX c pos a inn m t↔Hg c pos m t)
 | 0,_,t,_=>Iff.rfl
 | m+1,hm,s,hr=>by
  have e:c.cells.length-(m+1)=c.cells.length-1-m:=by omega
  have e2:c.cells.length-m=c.cells.length-1-m+1:=by omega
  rw [e] at hr;constructor
  ·rintro ⟨b,u,h1,_,h3,h4⟩;exact ⟨hr,u,b,h3,h1,(SH m (by omega) u (by rw [e2];exact ⟨s,b,hr,h3,h1⟩)).1 h4⟩
  ·rintro ⟨_,u,b,h3,h1,h4⟩;exact ⟨b,u,h1,fun h=>absurd h (by omega),h3,(SH m (by omega) u (by rw [e2];exact ⟨s,b,hr,h3,h1⟩)).2 h4⟩
theorem aw {a:Nat} {inn:Bool} (ha:a<c.cells.length): ∀ (i:Nat),i<=a -> (RX c pos a inn c.cells.length (0,0)↔∃ s,EX c pos i s/\ RX c pos a inn (c.cells.length-i) s)
 | 0,_=>⟨fun h=>⟨(0,0),rfl,h⟩,fun ⟨s,h1,h2⟩=>by
  have h1:s=(0,0):=h1;subst h1;exact h2⟩
 | i+1,hi=>by
  rw [aw ha i (by omega)];have e:c.cells.length-i=(c.cells.length-(i+1))+1:=by omega
  have e2:c.cells.length-1-(c.cells.length-(i+1))=i:=by omega
  constructor
  ·rintro ⟨s,h1,h2⟩;rw [e] at h2;obtain ⟨b,u,h3,_,h5,h6⟩:=h2;rw [e2] at h3;exact ⟨u,⟨s,b,h1,h5,h3⟩,h6⟩
  ·rintro ⟨u,⟨s,b,h1,h5,h3⟩,h6⟩;refine ⟨s,h1,?_⟩;rw [e];exact ⟨b,u,by rw [e2];exact h3,fun h=>absurd h (by rw [e2];omega),h5,h6⟩
theorem xG {a:Nat} {inn:Bool} (ha:a<c.cells.length):IM c pos a inn↔RX c pos a inn c.cells.length (0,0):=by
 rw [aw ha a (ym _)];have e:c.cells.length-a=(c.cells.length-1-a)+1:=by omega
 have e2:c.cells.length-1-(c.cells.length-1-a)=a:=by omega
 have e3:c.cells.length-(c.cells.length-1-a)=a+1:=by omega
 constructor
 ·rintro ⟨s,t,h1,h2,h3,h4⟩;refine ⟨s,h1,?_⟩;rw [e];exact ⟨inn,t,by rw [e2];exact h3,fun _=>rfl,h2,(SH _ (by omega) t (by rw [e3];exact ⟨s,inn,h1,h2,h3⟩)).2 h4⟩
 ·rintro ⟨s,h1,h2⟩;rw [e] at h2;obtain ⟨b,t,h3,h4,h5,h6⟩:=h2;rw [e2] at h3 h4;obtain rfl:=h4 rfl;exact ⟨s,t,h1,h5,h3,(SH _ (by omega) t (by rw [e3];exact ⟨s,b,h1,h5,h3⟩)).1 h6⟩
end
end Go.Proofs.YtgkhhfnhacibcaaGreatDoor
namespace Go.Proofs.YtgkhhfnhacibcaaGreatDoor
open Go.RowKit
structure Gd (q:AA) (g:List Int):Prop where
 len:(g.length:Int)=q.cells
 sym: ∀ j,j<g.length -> 0<=g.getD j 0/\ g.getD j 0<q.symbols
def Af (g:List Int):List Int:=g.map fun s=>IntKind.i64.wrap (1*2 ^ s.toNat)
def AP (c:AB) (g:List Int) (a:Nat):Nat:=(g.getD (c.cells.getD a 0).toNat 0).toNat
def B7 (c:AB) (g:List Int):List Bool:=g.map fun s=>tb c.set s.toNat
def rl (b:Nat -> Bool) (len:Nat):Nat -> Int -> List Int
 | 0,l=>if l>0 then [l] else []
 | m+1,l=>bif b (len-1-m) then rl b len m (l+1) else if l>0 then l::rl b len m 0 else rl b len m 0
def G7 (n:List (List Int)) (inn:List Bool):Prop:=∀ u v:Nat,u<n.length -> v<n.length -> inn.getD u false=true -> inn.getD v false=true -> Rc n inn u v
def Bx (q:AA) (c:AB) (g:List Int):Prop:=
 (c.kind=1 -> ∀ a b,a<c.cells.length -> b<c.cells.length -> AP c g a=AP c g b -> a=b)/\
 (c.kind=2 -> c.lo<=cnt (fun a=>tb c.set (AP c g a)) c.cells.length/\ cnt (fun a=>tb c.set (AP c g a)) c.cells.length<=c.hi)/\
 (c.kind=3 -> c.lo<=CJ (fun a=>q.values.getD (AP c g a) 0) c.cells.length/\ CJ (fun a=>q.values.getD (AP c g a) 0) c.cells.length<=c.hi)/\
 (c.kind=4 -> GC q 0 c.cells.length (AP c g))/\
 (c.kind=5 -> rl (fun a=>tb c.set (AP c g a)) c.cells.length c.cells.length 0=c.runs)/\
 (c.kind=6 -> Gk q c (AP c g 0) (AP c g 1)=true)/\ (c.kind=7 -> GL c (AP c g 0) (AP c g 1)=true)/\
 (c.kind=8 -> G7 q.nbrs (B7 c g))/\
 (c.kind=9 -> G7 q.nbrs (B7 c g)/\ ∀ v,v<g.length -> (B7 c g).getD v false=true -> CE q.nbrs (B7 c g) v=2)
theorem Dn {g:List Int}:(Af g).length=g.length:=zf _
theorem NN {g:List Int} {j:Nat} (hj:j<g.length):(Af g).getD j 0=IntKind.i64.wrap (1*2 ^ (g.getD j 0).toNat):=by
 unfold Af;rw [u8,y9,yQ hj,u8,yQ hj];rfl
theorem Nk {c:AB} {g:List Int}:(B7 c g).length=g.length:=zf _
theorem Wb {c:AB} {g:List Int} {j:Nat} (hj:j<g.length):(B7 c g).getD j false=tb c.set (g.getD j 0).toNat:=by
 unfold B7;rw [u8,y9,yQ hj,u8,yQ hj];rfl
theorem Sh {s:Nat} (hs:s<64) (m:Int):(bits .andNot .i64 (IntKind.i64.wrap (1*2 ^ s)) m==0)=tb m s:=by
 rw [z6,yo,KV (FP _ _ _)];constructor
 ·intro h;have:=h s hs;rw [JT,Hi hs,yW rfl,zJ] at this;simpa using this
 ·intro h i hi;rw [JT,Hi hs]
  by_cases e:s=i
  ·subst e;rw [h];simp
  ·rw [yS e];rfl
theorem Si {s:Nat} (hs:s<64) (m:Int):(bits .and .i64 (IntKind.i64.wrap (1*2 ^ s)) m != 0)=tb m s:=by
 have:=RF hs m;rw [bne,this,Bool.not_not]
theorem oC: ∀ s:Nat,s<16 -> Kb (IntKind.i64.wrap (1*2 ^ s))=true:=by decide+kernel
theorem oB: ∀ s:Nat,s<16 -> BK (IntKind.i64.wrap (1*2 ^ s))= [(s:Int)]:=by decide+kernel
theorem bs {k s:Nat} (hk:k<=16) (hs:s<k):Sm k (IntKind.i64.wrap (1*2 ^ s)):=
 VY (by omega) (Re _) fun i hi _=>by rw [Hi (by omega),yS (by omega)]
section
variable {q:AA} {i:Int} {g:List Int} {c:AB}
theorem Gd.pos (G:Gd q g) (hv:Dc q=true):posOk q (Af g)=true:=by
 have hk:=(IW hv).2.1;refine (WD hv).2 ⟨by rw [Dn];exact G.len,fun j hj=>?_⟩;rw [Dn] at hj;have:=G.sym j hj;rw [NN hj];exact bs (by omega) (by omega)
theorem Gd.lt (G:Gd q g) (hv:Dc q=true) {j:Nat} (hj:j<g.length):(g.getD j 0).toNat<q.symbols.toNat/\ (g.getD j 0).toNat<16:=by
 have hk:=(IW hv).2.1;have:=G.sym j hj;omega
theorem NM (G:Gd q g) (hv:Dc q=true) {j:Nat} (hj:j<g.length) (s:Nat):tb ((Af g).getD j 0) s=decide ((g.getD j 0).toNat=s):=by
 rw [NN hj,Hi (by have:=G.lt hv hj;omega)]
structure Sv (q:AA) (c:AB) (g:List Int):Prop where
 v:Dc q=true
 G:Gd q g
 cell: ∀ a,a<c.cells.length -> 0<=c.cells.getD a 0/\ c.cells.getD a 0<(g.length:Int)
theorem Sv.lt (S:Sv q c g) {a:Nat} (ha:a<c.cells.length):AP c g a<q.symbols.toNat/\ AP c g a<16:=S.G.lt S.v (by have:=S.cell a ha;omega)
theorem Sv.set (S:Sv q c g) {a:Nat} (ha:a<c.cells.length):AY c (Af g) a=IntKind.i64.wrap (1*2 ^ AP c g a):=NN (by have:=S.cell a ha;omega)
theorem Sv.tb (S:Sv q c g) {a:Nat} (ha:a<c.cells.length) (s:Nat):tb (AY c (Af g) a) s=decide (AP c g a=s):=by
 rw [S.set ha,Hi (by have:=S.lt ha;omega)]
theorem Bj.sv (C:Bj q i (Af g)) (G:Gd q g):Sv q (con q i) g:=⟨C.valid,G,fun a ha=>by have:=C.work.cells a ha;rw [Dn] at this;exact this⟩
theorem Sv.nz (S:Sv q c g): ∀ j,j<(Af g).length -> (Af g).getD j 0≠0:=fun j hj=>by
 rw [Dn] at hj;refine (FC (by rw [NN hj];exact Re _)).2 ⟨(g.getD j 0).toNat,by have:=S.G.lt S.v hj;omega,?_⟩;rw [NM S.G S.v hj,yW rfl]
theorem kR (S:Sv q c g) (CI:CO q c (Af g)) (h: ∀ a,a<c.cells.length -> ¬ BU q c (Af g) a (AP c g a)):GE q c (Af g)/\ PR q c (Af g) (Af g):=by
 have no: ∀ j s,j<(Af g).length -> Proofs.YtgkhhfnhacibcaaGreatDoor.tb ((Af g).getD j 0) s=true -> ¬ LC q c (Af g) j s:=by
  rintro j s hj hs ⟨a,ha,rfl,hl⟩;rw [Dn] at hj;rw [NM S.G S.v hj,ye] at hs;subst hs;exact h a ha hl
 have hA:GE q c (Af g):=⟨S.nz,CI,fun j hj=>by
  have BM:=hj;rw [Dn] at BM;have ht:Proofs.YtgkhhfnhacibcaaGreatDoor.tb ((Af g).getD j 0) (g.getD j 0).toNat=true:=by rw [NM S.G S.v BM,yW rfl]
  exact ⟨(g.getD j 0).toNat,by have:=S.G.lt S.v BM;omega,ht,no j _ hj ht⟩⟩
 refine ⟨hA,rfl,fun _ j hj=>⟨by rw [Dn] at hj;rw [NN hj];exact Re _,fun s=>⟨fun hs=>⟨hs,no j s hj hs⟩,fun hs=>hs.1⟩⟩,fun hn=>absurd hA hn⟩
theorem kK (S:Sv q c g) (hA:GE q c (Af g)):CO q c (Af g)/\ ∀ a,a<c.cells.length -> ¬ BU q c (Af g) a (AP c g a):=by
 refine ⟨hA.ok,fun a ha hl=>?_⟩;have hc:=S.cell a ha;obtain ⟨s,_,h1,h2⟩:=hA.left (c.cells.getD a 0).toNat (by rw [Dn];omega);rw [NM S.G S.v (by omega),ye] at h1;subst h1;exact h2 ⟨a,ha,rfl,hl⟩
theorem kM (S:Sv q c g) (h:Bx q c g↔CO q c (Af g)/\ ∀ a,a<c.cells.length -> ¬ BU q c (Af g) a (AP c g a)):(Bx q c g -> GE q c (Af g)/\ PR q c (Af g) (Af g))/\ (¬ Bx q c g -> ¬ GE q c (Af g)):=
 ⟨fun hm=>let ⟨h1,h2⟩:=h.1 hm;kR S h1 h2,fun hn hA=>hn (h.2 (kK S hA))⟩
theorem TD {k:Int} (hk:c.kind=k) {M:Prop} (h:Bx q c g↔M) {A B:Prop} (hA:CO q c (Af g)↔A) (hB: ∀ a,a<c.cells.length -> (BU q c (Af g) a (AP c g a)↔¬ B)) (hM:M↔A/\ (0<c.cells.length -> B)):Bx q c g↔CO q c (Af g)/\ ∀ a,a<c.cells.length -> ¬ BU q c (Af g) a (AP c g a):=by
 rw [h,hA,hM];refine and_congr Iff.rfl ⟨fun hb a ha hl=>(hB a ha).1 hl (hb (by omega)),fun hb h0=>Classical.byContradiction fun hn=>hb 0 h0 ((hB 0 h0).2 hn)⟩
theorem kN (S:Sv q c g) (hk:c.kind=1):Bx q c g↔CO q c (Af g)/\ ∀ a,a<c.cells.length -> ¬ BU q c (Af g) a (AP c g a):=by
 unfold Bx CO BU;rw [hk];simp only [Mx,Sg];simp;constructor
 ·intro h a ha b hb Ap _;rw [S.tb hb,za];exact fun ht=>Ap (h b a hb ha ht)
 ·intro h a b ha hb e;refine Classical.byContradiction fun Ap=>?_
  have:=h b hb a ha Ap (by rw [S.set ha];exact oC _ (S.lt ha).2);rw [S.tb ha,za] at this;exact this e
theorem aV (S:Sv q c g) {a:Nat} (ha:a<c.cells.length):DT c (Af g) a=Proofs.YtgkhhfnhacibcaaGreatDoor.tb c.set (AP c g a)/\ D8 c (Af g) a=Proofs.YtgkhhfnhacibcaaGreatDoor.tb c.set (AP c g a):=by
 have hs:AP c g a<64:=by have:=S.lt ha;omega
 unfold D8 DT;rw [S.set ha,Sh hs,Si hs,Bool.or_self];exact ⟨rfl,rfl⟩
theorem Ym {p p':Nat -> Bool}: ∀ {n:Nat},(∀ a,a<n -> p a=p' a) -> cnt p n=cnt p' n
 | 0,_=>rfl
 | n+1,h=>by rw [KD,KD,Ym fun a ha=>h a (by omega),h n (by omega)]
theorem VK {p p':Nat -> Int}: ∀ {n:Nat},(∀ a,a<n -> p a=p' a) -> CJ p n=CJ p' n
 | 0,_=>rfl
 | n+1,h=>by simp only [CJ];rw [VK fun a ha=>h a (by omega),h n (by omega)]
theorem kO (S:Sv q c g) (hk:c.kind=2):Bx q c g↔CO q c (Af g)/\ ∀ a,a<c.cells.length -> ¬ BU q c (Af g) a (AP c g a):=by
 have e1:cnt (DT c (Af g)) c.cells.length=cnt (fun a=>Proofs.YtgkhhfnhacibcaaGreatDoor.tb c.set (AP c g a)) c.cells.length:=Ym fun a ha=>(aV S ha).1
 have e2:cnt (D8 c (Af g)) c.cells.length=cnt (fun a=>Proofs.YtgkhhfnhacibcaaGreatDoor.tb c.set (AP c g a)) c.cells.length:=Ym fun a ha=>(aV S ha).2
 unfold Bx CO BU;rw [hk];simp only [KB,HZ,e1,e2];simp
 have no: ∀ a,a<c.cells.length -> ¬ ((cnt (fun a=>Proofs.YtgkhhfnhacibcaaGreatDoor.tb c.set (AP c g a)) c.cells.length=c.hi/\ ¬ bits .andNot .i64 (AY c (Af g) a) c.set=0)/\ Proofs.YtgkhhfnhacibcaaGreatDoor.tb c.set (AP c g a)=true∨(cnt (fun a=>Proofs.YtgkhhfnhacibcaaGreatDoor.tb c.set (AP c g a)) c.cells.length=c.lo/\ ¬ bits .and .i64 (AY c (Af g) a) c.set=0)/\ Proofs.YtgkhhfnhacibcaaGreatDoor.tb c.set (AP c g a)=false):=by
  intro a ha;have hs:AP c g a<64:=by have:=S.lt ha;omega
  have a1:=Sh hs c.set;have a2:=Si hs c.set;rw [←S.set ha] at a1 a2;rintro (⟨⟨_,h1⟩,h2⟩ | ⟨⟨_,h1⟩,h2⟩)
  ·rw [h2,yo] at a1;exact h1 a1
  ·rw [h2,bne_eq_false_iff_eq] at a2;exact h1 a2
 constructor
 ·rintro ⟨h1,h2⟩;refine ⟨⟨h2,h1⟩,fun a ha=>?_⟩;have:=no a ha;simpa [not_or] using this
 ·rintro ⟨⟨h1,h2⟩,_⟩;exact ⟨h2,h1⟩
theorem R5 (S:Sv q c g) (V:DY q q.symbols.toNat) {a:Nat} (ha:a<c.cells.length):Dt q (AY c (Af g) a)=q.values.getD (AP c g a) 0/\ Dw q (AY c (Af g) a)=q.values.getD (AP c g a) 0:=by
 have hv:=V.val _ (S.lt ha).1;unfold Dt Dw;rw [S.set ha,oB _ (S.lt ha).2];simp only [zn,List.foldl_nil,It,I3,yU];constructor
 ·rw [yP (by omega)]
 ·rw [yP (by omega)]
theorem kG (S:Sv q c g) (V:DY q q.symbols.toNat) (hk:c.kind=3):Bx q c g↔CO q c (Af g)/\ ∀ a,a<c.cells.length -> ¬ BU q c (Af g) a (AP c g a):=by
 have e1:Is q c (Af g)=CJ (fun a=>q.values.getD (AP c g a) 0) c.cells.length:=VK fun a ha=>(R5 S V ha).1
 have e2:I2 q c (Af g)=CJ (fun a=>q.values.getD (AP c g a) 0) c.cells.length:=VK fun a ha=>(R5 S V ha).2
 unfold Bx CO BU;rw [hk];simp only [JV,HA,e1,e2]
 generalize CJ (fun a=>q.values.getD (AP c g a) 0) c.cells.length=t
 simp;constructor
 ·rintro ⟨h1,h2⟩;refine ⟨⟨h2,h1⟩,fun a ha=>?_⟩;rw [(R5 S V ha).1,(R5 S V ha).2,u8];omega
 ·rintro ⟨⟨h1,h2⟩,_⟩;exact ⟨h2,h1⟩
theorem kI (S:Sv q c g) (W:Bs c q.symbols.toNat (Af g)) (V:DY q q.symbols.toNat) (hk:c.kind=4):Bx q c g↔CO q c (Af g)/\ ∀ a,a<c.cells.length -> ¬ BU q c (Af g) a (AP c g a):=by
 have key: ∀ a,a<c.cells.length -> (Gf q c (Af g) a (AP c g a)=false↔GC q 0 c.cells.length (AP c g)):=fun a ha=>by
  rw [nC W V ha (by rw [S.tb ha,yW rfl])];constructor
  ·rintro ⟨f,h1,h2,_⟩ b h3 h4
   have f1: ∀ b,b<c.cells.length -> f b=AP c g b:=fun b hb=>by
    have:=h1 b (zr _) hb;rw [S.tb hb,ye] at this;exact this.symm
   have:=h2 b h3 h4
   rwa [f1 b (by omega),f1 (b+1) h4] at this
  ·intro h;exact ⟨AP c g,fun b _ hb=>by rw [S.tb hb,yW rfl],h,rfl⟩
 have hM:Bx q c g↔GC q 0 c.cells.length (AP c g):=by unfold Bx;rw [hk];simp
 have hO:CO q c (Af g)↔True:=by unfold CO;rw [hk];simp
 refine TD hk hM hO (fun a ha=>?_) (B:=GC q 0 c.cells.length (AP c g)) ⟨fun h=>⟨trivial,fun _=>h⟩,fun h=>?_⟩
 ·rw [←key a ha];unfold BU;rw [hk];simp
 ·rcases zAD c.cells.length with e | e
  ·intro b _ hb;omega
  ·exact h.2 e
theorem aU (S:Sv q c g) {ok:Nat -> Nat -> Bool} (h2:c.cells.length=2) (a:Nat) (ha:a<c.cells.length):Fc ok c (Af g) a (AP c g a)↔¬ ok (AP c g 0) (AP c g 1)=true:=by
 unfold Fc;have t0: ∀ t,Proofs.YtgkhhfnhacibcaaGreatDoor.tb (AY c (Af g) 0) t=true↔AP c g 0=t:=fun t=>by rw [S.tb (by omega),ye]
 have t1: ∀ t,Proofs.YtgkhhfnhacibcaaGreatDoor.tb (AY c (Af g) 1) t=true↔AP c g 1=t:=fun t=>by rw [S.tb (by omega),ye]
 split
 ·rename_i e;subst e;simp only [t1];exact not_congr ⟨fun ⟨t,e,h⟩=>by rw [e];exact h,fun h=>⟨_,rfl,h⟩⟩
 ·have:a=1:=by omega
  subst this;simp only [t0];exact not_congr ⟨fun ⟨t,e,h⟩=>by rw [e];exact h,fun h=>⟨_,rfl,h⟩⟩
theorem kQ (S:Sv q c g) (h2:c.cells.length=2) (hk:c.kind=6):Bx q c g↔CO q c (Af g)/\ ∀ a,a<c.cells.length -> ¬ BU q c (Af g) a (AP c g a):=by
 refine TD (M:=Gk q c (AP c g 0) (AP c g 1)=true) (A:=True) (B:=Gk q c (AP c g 0) (AP c g 1)=true) hk ?_ ?_ (fun a ha=>?_) ⟨fun h=>⟨trivial,fun _=>h⟩,fun h=>h.2 (by omega)⟩
 ·unfold Bx;rw [hk];simp
 ·unfold CO;rw [hk];simp
 ·rw [←aU S h2 a ha];unfold BU;rw [hk];simp
theorem kJ (S:Sv q c g) (h2:c.cells.length=2) (hk:c.kind=7):Bx q c g↔CO q c (Af g)/\ ∀ a,a<c.cells.length -> ¬ BU q c (Af g) a (AP c g a):=by
 refine TD (M:=GL c (AP c g 0) (AP c g 1)=true) (A:=True) (B:=GL c (AP c g 0) (AP c g 1)=true) hk ?_ ?_ (fun a ha=>?_) ⟨fun h=>⟨trivial,fun _=>h⟩,fun h=>h.2 (by omega)⟩
 ·unfold Bx;rw [hk];simp
 ·unfold CO;rw [hk];simp
 ·rw [←aU S h2 a ha];unfold BU;rw [hk];simp
end
end Go.Proofs.YtgkhhfnhacibcaaGreatDoor
namespace Go.Proofs.YtgkhhfnhacibcaaGreatDoor
open Go.RowKit
def Bz {T R:Type} (m:Nat -> T -> Option R) (a b:T):Prop:=∃ N S,∀ n,N<=n -> m (n+S) a=m n b
section
variable {T R:Type} {m:Nat -> T -> Option R} {a b c:T} {r:R} {Q:R -> Prop}
theorem Bz.refl:Bz m a a:=⟨0,0,fun _ _=>rfl⟩
theorem Bz.one (h: ∀ n,m (n+1) a=m n b):Bz m a b:=⟨0,1,fun n _=>h n⟩
theorem Bz.trans (h:Bz m a b) (h2:Bz m b c):Bz m a c:=by
 obtain ⟨N,S,h⟩:=h;obtain ⟨N2,S2,h2⟩:=h2;exact ⟨max N N2,S2+S,fun n hn=>by rw [←zN,h _ (by omega),h2 _ (by omega)]⟩
theorem Bz.ev (h:Bz m a b) (h2:Ev (fun n=>m n b) r):Ev (fun n=>m n a) r:=by
 obtain ⟨N,S,h⟩:=h;obtain ⟨M,h2⟩:=h2;refine ⟨max N M+S,fun n hn=>?_⟩;have:=h (n-S) (by omega);rw [show n-S+S=n by omega] at this;exact this.trans (h2 (n-S) (by omega))
theorem Bz.pev (h:Bz m a b) (h2:Ae (fun n=>m n b) Q):Ae (fun n=>m n a) Q:=by
 obtain ⟨N,S,h⟩:=h;obtain ⟨M,h2⟩:=h2;refine ⟨max N M+S,fun n hn=>?_⟩;have:=h (n-S) (by omega);rw [show n-S+S=n by omega] at this;obtain ⟨r,h3,h4⟩:=h2 (n-S) (by omega);exact ⟨r,this.trans h3,h4⟩
theorem Ev.one (h: ∀ n,m (n+1) a=some r):Ev (fun n=>m n a) r:=⟨1,fun n hn=>by
 obtain ⟨k,rfl⟩: ∃ k,n=k+1:=⟨n-1,by omega⟩;exact h k⟩
theorem Ev.oneN (N:Nat) (h: ∀ n,N<=n -> m (n+1) a=some r):Ev (fun n=>m n a) r:=⟨N+1,fun n hn=>by
 obtain ⟨k,rfl⟩: ∃ k,n=k+1:=⟨n-1,by omega⟩;exact h k (by omega)⟩
end
end Go.Proofs.YtgkhhfnhacibcaaGreatDoor
namespace Go.Proofs.YtgkhhfnhacibcaaGreatDoor
open Go.RowKit
set_option maxRecDepth 100000
set_option maxHeartbeats 40000000
inductive Uh where
 | l1 (x4:Nat) (AV:List Int) (JL AJ:Int) (o0:List (List Int))
def Mz (n:Nat) (self:Uh -> Option ((List (List Int))×Int)) (g_:List (List Int)) (AT:List Bool) (x4:Nat) (AV:List Int) (JL AJ:Int) (o0:List (List Int)):Option ((List (List Int))×Int):=
 bif (decide (AJ<JL)) then
  if 0<=AJ/\ AJ<(AV.length:Int) then
   bif (decide ((AV.getD ((AJ).toNat) 0)>0)) then
    if AL ((AV.getD ((AJ).toNat) 0)-1)/\ ((0:Int)<=((AV.getD ((AJ).toNat) 0)-1)/\ ((AV.getD ((AJ).toNat) 0)-1)<(x4:Int))/\ 0+((((AV.getD ((AJ).toNat) 0)-1)).toNat)<o0.length/\ (o0.getD (0+((((AV.getD ((AJ).toNat) 0)-1)).toNat)) default).length+([AJ]:List Int).length<=Ax/\ AL (AJ+1) then
     self (.l1 x4 AV JL (AJ+1) (o0.set (0+((((AV.getD ((AJ).toNat) 0)-1)).toNat)) ((o0.getD (0+((((AV.getD ((AJ).toNat) 0)-1)).toNat)) default)++([AJ]:List Int))))
    else none
   else
    if AL (AJ+1) then
     self (.l1 x4 AV JL (AJ+1) o0)
    else none
  else none
 else
  if x4=o0.length then
   some (o0,0)
  else none
def wy (n:Nat) (self:Uh -> Option ((List (List Int))×Int)) (g_:List (List Int)) (AT:List Bool):Option ((List (List Int))×Int):=
 (JA n g_ ([AT]:List (List Bool))).bind fun y1=>
  bif (y1 != 0) then
   some (([]:List (List Int)),y1)
  else
   (parts n g_ AT).bind fun y2=>
    if (y2.2:Int)=y2.2/\ 0<=y2.2/\ (y2.2:Int)<=1000000000000 then
     self (.l1 ((y2.2).toNat) y2.1 (y2.1.length:Int) 0 (List.replicate ((y2.2).toNat) ([]:List Int)))
    else none
def KC (g_:List (List Int)) (AT:List Bool):Nat -> Uh -> Option ((List (List Int))×Int)
 | 0,_=>none
 | n+1,.l1 x4 AV JL AJ o0=>Mz n (KC g_ AT n) g_ AT x4 AV JL AJ o0
def Ui (n:Nat) (g_:List (List Int)) (AT:List Bool):Option ((List (List Int))×Int):=wy n (KC g_ AT n) g_ AT
def w4 (n B:Nat) (N:Yd 0) (g_:List (List Int)) (AT:List Bool) (r:(List (List Int))×Int):Uh -> Prop
 | .l1 x4 AV JL AJ o0=>∀ m0:Nat,n<=m0 -> TW B N (FQ Tryz.f116 0 (.tup 2 (L1 [.sl 1 r.1.length (Aq At r.1),.i r.2])) []) (A4 m0 (BF (Ab Tryz.f116) 0 [])) ⟨AM 48 [(4,.msl 0 1 0 x4),(25,.ints AV),(26,.i JL),(27,.i AJ)],[some (.mo (.rws o0 none))]⟩
theorem w5 (B:Nat) (N:Yd 0) (g_:List (List Int)) (AT:List Bool):Al (KC g_ AT) (w4 · B N g_ AT):=ia (fun _=>rfl) fun n AH pt r h=>by
 cases pt
 case l1 x4 AV JL AJ o0=>
  intro m0 AC;refine rd AC fun m0 AC=>?_
  revert r;apply gO;exact bi 28 (gi (bi 33 (gc (gn fun g1=>jw 36 g1 (jw 39 g1 (gc (gn fun g2=>jg g2 (gc (gn fun g3=>jg g3 (jg (And.intro (Eq.refl 0) (Eq.refl 1)) (jg (by decide:0<1) (jg g3 (gc (gi (jg g2 (jg (Eq.refl (0+((((AV.getD ((AJ).toNat) 0)-1)).toNat))) (jg g3 (gw 46 (lG AF [3] (AH _ _ · m0 AC)))))))))))))))))) (gw 46 (lG AF [0] (AH _ _ · m0 AC))))) (gn fun g0=>lF fun p=>ez AF [4,5] [0] p [0] (H0.g g0))
theorem wx {n:Nat} {g_:List (List Int)} {AT:List Bool} {r:(List (List Int))×Int} (h:Ui n g_ AT=some r):EQ 116 [.sl 1 g_.length (Aq At g_),.bools AT] [] (.tup 2 (L1 [.sl 1 r.1.length (Aq At r.1),.i r.2])) [] true:=by
 refine ot Tryz.func116 fun B N=>?_
 revert r;apply gO;exact ja 12 0 1 (DQ (c:=Of) (L:=([AT]:List (List Bool))) (vals:=[.bools AT]) rfl ⟨⟨_,rfl,⟨AK,trivial⟩⟩,trivial⟩) (jz 12 0 (jg (Eq.refl 1) (cf T6 [none] fun y1=>bi 15 (lF fun p=>el AF [4,5] [] p [] H0 [.nils,.i y1] (AS.tupL (l:=[.nils,.i y1]) (l':=[.sl 1 (([]:List (List Int)).length) (Aq At ([]:List (List Int))),.i y1]) rfl ⟨(AS.sl_nil _ _),AK,trivial⟩)) (cf WJ [none] fun _=>gi (jk 24 (lN AF [1] ((w5 B N g_ AT n) _ _ · n Nat.le.refl)))))))
inductive PZ where
 | l1 (x6 x23:Int)
 | l2 (x6 x9 x23:Int) (Bt:List Int) (BH B6:Int)
def Lv (n:Nat) (self:PZ -> Option (Bool×Int)) (g_:List (List Int)) (AT:List Bool) (x6 x23:Int):Option (Bool×Int):=
 bif (decide (x23<(g_.length:Int))) then
  if (0<=x23/\ x23<(g_.length:Int))/\ (0<=x23/\ x23<(AT.length:Int)) then
   bif (!(AT.getD ((x23).toNat) false)) then
    if AL (x23+1) then
     self (.l1 x6 (x23+1))
    else none
   else
    if AL (x6+1) then
     self (.l2 (x6+1) 0 x23 (g_.getD ((x23).toNat) []) (((g_.getD ((x23).toNat) []).length:Nat):Int) 0)
    else none
  else none
 else
  (parts n g_ AT).bind fun y1=>
   bif (decide (x6>=3)) then
    some ((y1.2==1),0)
   else
    some (false,0)
def Lu (n:Nat) (self:PZ -> Option (Bool×Int)) (g_:List (List Int)) (AT:List Bool) (x6 x9 x23:Int) (Bt:List Int) (BH B6:Int):Option (Bool×Int):=
 bif (decide (B6<BH)) then
  if (0<=B6/\ B6<(Bt.length:Int))/\ (0<=(Bt.getD ((B6).toNat) 0)/\ (Bt.getD ((B6).toNat) 0)<(AT.length:Int)) then
   bif (AT.getD ((Bt.getD ((B6).toNat) 0).toNat) false) then
    if AL (x9+1)/\ AL (B6+1) then
     self (.l2 x6 (x9+1) x23 Bt BH (B6+1))
    else none
   else
    if AL (B6+1) then
     self (.l2 x6 x9 x23 Bt BH (B6+1))
    else none
  else none
 else
  bif (x9 != 2) then
   some (false,0)
  else
   if AL (x23+1) then
    self (.l1 x6 (x23+1))
   else none
def nS (n:Nat) (self:PZ -> Option (Bool×Int)) (g_:List (List Int)) (AT:List Bool):Option (Bool×Int):=
 (JA n g_ ([AT]:List (List Bool))).bind fun y1=>
  bif (y1 != 0) then
   some (false,y1)
  else
   self (.l1 0 0)
def Gg (g_:List (List Int)) (AT:List Bool):Nat -> PZ -> Option (Bool×Int)
 | 0,_=>none
 | n+1,.l1 x6 x23=>Lv n (Gg g_ AT n) g_ AT x6 x23
 | n+1,.l2 x6 x9 x23 Bt BH B6=>Lu n (Gg g_ AT n) g_ AT x6 x9 x23 Bt BH B6
def NW (n:Nat) (g_:List (List Int)) (AT:List Bool):Option (Bool×Int):=nS n (Gg g_ AT n) g_ AT
def nU (n B:Nat) (N:Yd 0) (g_:List (List Int)) (AT:List Bool) (r:Bool×Int):PZ -> Prop
 | .l1 x6 x23=>∀ m0:Nat,n<=m0 -> TW B N (FQ Tryz.f117 0 (.tup 2 (L1 [.bool r.1,.i r.2])) []) (A4 m0 (BF (Ab Tryz.f117) 0 [])) ⟨AM 63 [(0,.sl 1 g_.length (Aq At g_)),(1,.bools AT),(6,.i x6),(21,.sl 1 g_.length (Aq At g_)),(22,.i (g_.length:Int)),(23,.i x23)],[]⟩
 | .l2 x6 x9 x23 Bt BH B6=>∀ m0 m1:Nat,n<=m0 -> n<=m1 -> TW B N (FQ Tryz.f117 0 (.tup 2 (L1 [.bool r.1,.i r.2])) []) (A4 m1 (BF (Ab Tryz.f117) 2 [m0])) ⟨AM 63 [(0,.sl 1 g_.length (Aq At g_)),(1,.bools AT),(6,.i x6),(9,.i x9),(21,.sl 1 g_.length (Aq At g_)),(22,.i (g_.length:Int)),(23,.i x23),(35,.ints Bt),(36,.i BH),(37,.i B6)],[]⟩
theorem nV (B:Nat) (N:Yd 0) (g_:List (List Int)) (AT:List Bool):Al (Gg g_ AT) (nU · B N g_ AT):=ia (fun _=>rfl) fun n AH pt r h=>by
 cases pt
 case l1 x6 x23=>
  intro m0 AC;refine rd AC fun m0 AC=>?_
  revert r;apply gO;exact bi 24 (gc (gi (gi (bi 32 (gw 50 (lG AF [] (AH _ _ · m0 AC))) (gw 34 (lN AF [] (AH _ _ · m0 n AC Nat.le.refl))))))) (cf WJ [] fun _=>bi 58 (lE AF [4,5] []) (lE AF [4,5] []))
 case l2 x6 x9 x23 Bt BH B6=>
  intro m0 m1 AC A7;have AC:=zZ AC;refine rd A7 fun m1 A7=>?_
  revert r;apply gO;exact bi 38 (gc (gi (gi (bi 44 (gc (gw 46 (gw 47 (lG AF [] (AH _ _ · m0 m1 AC A7))))) (gw 47 (lG AF [] (AH _ _ · m0 m1 AC A7))))))) (bi 49 (lE AF [4,5] []) (gw 50 (lG AF [] (AH _ _ · m0 AC))))
theorem nR {n:Nat} {g_:List (List Int)} {AT:List Bool} {r:Bool×Int} (h:NW n g_ AT=some r):EQ 117 [.sl 1 g_.length (Aq At g_),.bools AT] [] (.tup 2 (L1 [.bool r.1,.i r.2])) [] true:=by
 refine ot Tryz.func117 fun B N=>?_
 revert r;apply gO;exact ja 16 0 1 (DQ (c:=Of) (L:=([AT]:List (List Bool))) (vals:=[.bools AT]) rfl ⟨⟨_,rfl,⟨AK,trivial⟩⟩,trivial⟩) (jz 16 0 (jg (Eq.refl 1) (cf T6 [none] fun _=>bi 19 (lE AF [4,5] []) (lN AF [] ((nV B N g_ AT n) _ _ · n Nat.le.refl)))))
def dw (n:Nat) (Am KX:Int):Option Bool:=
 if 0<=KX/\ KX<=(IntKind.i64.bits:Int) then
  some ((bits .and .i64 (Am/2 ^ (KX).toNat) 1)==1)
 else none
def Gq (n:Nat) (Am KX:Int):Option Bool:=dw n Am KX
theorem Iw {n:Nat} {Am KX:Int} {r:Bool} (h:Gq n Am KX=some r):EQ 89 [.i Am,.i KX] [] (.bool r) [] true:=by
 refine ot Tryz.func89 fun B N=>?_
 revert r;apply gO;exact gi (lE AF [4] [])
def md (n:Nat) (AD cells:List Int) (Am:Int):Option Unit:=
 some ()
def mf (n:Nat) (AD cells:List Int) (Am:Int):Option Unit:=md n AD cells Am
theorem mc {n:Nat} (AD cells:List Int) (Am:Int) {r:Unit} (h:mf n AD cells Am=some r):EQ 87 [.ints AD,.ints cells,.i Am] [] (.fn 114 3 (L1 [.ref 0 0,.ref 1 0,.ref 2 0])) [some (.cells [.ints cells]),some (.cells [.i Am]),some (.cells [.ints AD])] true:=by
 refine ot Tryz.func87 fun B N=>?_
 revert r;apply gO;exact lE AF [6] [1,2,0]
theorem lQ:A0 (BG Tryz.f114 4) [([0,1,2,3,4],5)] [] []:=by unfold A0;kernel_rfl
def JZ:Bh:=fun i=>match i with
 | 4=>.ord [([0,1,2,3,4],5)] [] []
 | _=>.no
inductive NS where
 | l1 (x5 Ah:Int)
def Ls (n:Nat) (self:NS -> Option (List Int)) (AR:List Int) (Am:Int) (AD:List Int) (x5 Ah:Int):Option (List Int):=
 bif (decide (Ah<(AR.length:Int))) then
  if (0<=Ah/\ Ah<(AR.length:Int))/\ (0<=(AR.getD ((Ah).toNat) 0)/\ (AR.getD ((Ah).toNat) 0)<(AD.length:Int)) then
   (Gq n Am (AD.getD ((AR.getD ((Ah).toNat) 0).toNat) 0)).bind fun y1=>
    bif y1 then
     if AL (x5+1)/\ AL (Ah+1) then
      self (.l1 (x5+1) (Ah+1))
     else none
    else
     bif (decide (x5>0)) then
      bif (decide (x5>0)) then
       Option.map (fun l=>x5::l) (
        if AL (Ah+1) then
         self (.l1 0 (Ah+1))
        else none)
      else
       if AL (Ah+1) then
        self (.l1 0 (Ah+1))
       else none
     else
      if AL (Ah+1) then
       self (.l1 0 (Ah+1))
      else none
  else none
 else
  bif (decide (x5>0)) then
   Option.map (fun l=>x5::l) (some [])
  else
   some []
def a8 (n:Nat) (self:NS -> Option (List Int)) (AR:List Int) (Am:Int) (AD:List Int):Option (List Int):=
 self (.l1 0 0)
def GI (AR:List Int) (Am:Int) (AD:List Int):Nat -> NS -> Option (List Int)
 | 0,_=>none
 | n+1,.l1 x5 Ah=>Ls n (GI AR Am AD n) AR Am AD x5 Ah
def NT (n:Nat) (AR:List Int) (Am:Int) (AD:List Int):Option (List Int):=a8 n (GI AR Am AD n) AR Am AD
def Vn (C:C5 Tryz.prog GG) (n:Nat) (AR:List Int) (Am:Int) (AD:List Int) (r:List Int):NS -> Prop
 | .l1 x5 Ah=>∀ m0:Nat,n<=m0 -> ∀ i:Nat,i<=C.encs.length -> C.encs.drop i=r.map BV -> A1 Tryz.prog GG Fence.wide none 3 (C.Y 3 i) (C.Q 3) (A4 m0 (BF (Ab Tryz.f114) 0 [])) ⟨AM 36 [(0,.yl C.l),(2,.ref 1 0),(3,.ref 2 0),(5,.i x5),(8,.ints AR),(9,.i (AR.length:Int)),(10,.i Ah)],[some (.cells [.ints AR]),some (.cells [.i Am]),some (.cells [.ints AD])]⟩
theorem mg (C:C5 Tryz.prog GG) (n:Nat) (self:NS -> Option (List Int)) (AR:List Int) (Am:Int) (AD:List Int) (AH: ∀ pt r,self pt=some r -> Vn C n AR Am AD r pt) (x5 Ah:Int) (r:List Int) (h:Ls n self AR Am AD x5 Ah=some r):Vn C (n+1) AR Am AD r (.l1 x5 Ah):=by
 intro m0 AC;intro i hi hd;refine rd AC fun m0 AC=>?_
 unfold Ls at h;have p:=H0;rcases GV h with ⟨c0,h⟩ | ⟨c0,h⟩
 ·obtain ⟨⟨g0,g1⟩,h⟩:=Dx h;obtain ⟨y1,BB,h⟩:=Ys h;have p:=H0.b 11 c0 |>.g g0 |>.g lQ |>.g g1 |>.c (fb (Iw BB) [some (.cells [.ints AR]),some (.cells [.i Am]),some (.cells [.ints AD])])
  rcases GV h with ⟨c1,h⟩ | ⟨c1,h⟩
  ·obtain ⟨⟨g2,g3⟩,h⟩:=Dx h;have p:=p.b 19 c1 |>.w 21 g2 |>.w 30 g3
   exact gg JZ [0,1,2] p (AH _ _ h m0 AC i hi hd)
  ·have p:=p.b 19 c1;rcases GV h with ⟨c2,h⟩ | ⟨c2,h⟩
   ·refine gs (AI 6 JZ) [0,1,2] p (CW (Ab Tryz.f114) 6 [m0]) (AM 36 [(0,.yl C.l),(2,.ref 1 0),(3,.ref 2 0),(5,.i x5),(8,.ints AR),(9,.i (AR.length:Int)),(10,.i Ah)]) [some (.cells [.ints AR]),some (.cells [.i Am]),some (.cells [.ints AD])] ?_;have p:=H0;rcases GV h with ⟨c0,h⟩ | ⟨c0,h⟩
    ·have p:=H0.b 23 c0;obtain ⟨r,h2,rfl⟩:=TF h;clear h;have h:=h2;clear h2;obtain ⟨hx,hi,hd⟩:=UU hd;refine A1.y (ops:=BG Tryz.f114 6) HC.x 5 [0,2,3,8,9,10,29] [0,1,2] p (x:=BV x5) (AM 36 [(0,.yl C.l),(2,.ref 1 0),(3,.ref 2 0),(8,.ints AR),(9,.i (AR.length:Int)),(10,.i Ah),(29,.bool false)]) [some (.cells [.ints AR]),some (.cells [.i Am]),some (.cells [.ints AD])] (AM 36 [(0,.yl C.l),(2,.ref 1 0),(3,.ref 2 0),(8,.ints AR),(9,.i (AR.length:Int)),(10,.i Ah),(29,.bool true)]) [some (.cells [.ints AR]),some (.cells [.i Am]),some (.cells [.ints AD])] (by kernel_rfl) (by kernel_rfl) (by kernel_rfl) hx (by kernel_rfl) ?_ ?_
     ·generalize i+1=i at hi hd ⊢
      obtain ⟨g2,h⟩:=Dx h;have p:=H0.w 30 g2;exact gg JZ [0,1,2] p (AH _ _ h m0 AC i hi hd)
     ·exact TrI.e HC.x JZ 6 H0 (by kernel_rfl) (.inr rfl)
    ·obtain ⟨g2,h⟩:=Dx h;have p:=H0.b 23 c0 |>.w 30 g2
     exact gg JZ [0,1,2] p (AH _ _ h m0 AC i hi hd)
   ·obtain ⟨g2,h⟩:=Dx h;have p:=p.b 23 c2 |>.w 30 g2
    exact gg JZ [0,1,2] p (AH _ _ h m0 AC i hi hd)
 ·have p:=H0.b 11 c0;rcases GV h with ⟨c1,h⟩ | ⟨c1,h⟩
  ·have p:=p.b 32 c1;refine gs (AI 10 JZ) [0,1,2] p (CW (Ab Tryz.f114) 10 []) (AM 36 [(0,.yl C.l),(5,.i x5)]) [some (.cells [.ints AR]),some (.cells [.i Am]),some (.cells [.ints AD])] ?_;have p:=H0;obtain ⟨r,h2,rfl⟩:=TF h;cases h2;obtain ⟨hx,hi,hd⟩:=UU hd;exact A1.yE (ops:=BG Tryz.f114 10) HC.x 2 p (x:=BV x5) (by kernel_rfl) (by kernel_rfl) (by kernel_rfl) hx (Qw hi hd)
  ·have p:=p.b 32 c1;cases h;exact TrI.e HC.x JZ 14 p (by kernel_rfl) (.inl (by rw [Qw hi hd]))
theorem bA (C:C5 Tryz.prog GG) (AR:List Int) (Am:Int) (AD:List Int): ∀ (n:Nat) (pt:NS) (r:List Int),GI AR Am AD n pt=some r -> Vn C n AR Am AD r pt
 | 0,_,_,h=>by cases h
 | n+1,.l1 x5 Ah,r,h=>mg C n (GI AR Am AD n) AR Am AD (bA C AR Am AD n) x5 Ah r h
theorem mh {n:Nat} (AR:List Int) (Am:Int) (AD:List Int) {r:List Int} (h:NT n AR Am AD=some r) (C:C5 Tryz.prog GG) (hC:C.encs=r.map BV):A1 Tryz.prog GG Fence.wide none 3 (C.Y 3 0) (C.Q 3) [.code (Ab Tryz.f114)] ⟨AM 36 [(0,.yl C.l),(1,.ref 0 0),(2,.ref 1 0),(3,.ref 2 0)],[some (.cells [.ints AR]),some (.cells [.i Am]),some (.cells [.ints AD])]⟩:=by
 suffices H: ∀ i:Nat,i<=C.encs.length -> C.encs.drop i=r.map BV -> A1 Tryz.prog GG Fence.wide none 3 (C.Y 3 i) (C.Q 3) [.code (Ab Tryz.f114)] ⟨AM 36 [(0,.yl C.l),(1,.ref 0 0),(2,.ref 1 0),(3,.ref 2 0)],[some (.cells [.ints AR]),some (.cells [.i Am]),some (.cells [.ints AD])]⟩ from H 0 (zr _) (by rw [zAr];exact hC)
 intro i hi hd;have AH:=bA C AR Am AD n;unfold NT at h
 generalize GI AR Am AD n=self at h AH
 unfold a8 at h;have p:=H0;exact gg JZ [0,1,2] p (en n (AH _ _ h n Nat.le.refl i hi hd))
theorem me {n:Nat} {AD:List Int} {cells:List Int} {Am:Int} {r:List Int} (h:NT n cells Am AD=some r) (H:DH):EQ 87 [.ints AD,.ints cells,.i Am] H (.it H.length) (H++[some (.iter (r.map BV))]) true:=by
 refine ES.iterN (c:=L1 [.ref 0 0,.ref 1 0,.ref 2 0]) (h0:=[some (.cells [.ints cells]),some (.cells [.i Am]),some (.cells [.ints AD])]) (fn:=Tryz.f114) (mc (n:=0) AD cells Am (r:=()) rfl) (by kernel_rfl) Tryz.func114 (by kernel_rfl) (by kernel_rfl) (by kernel_rfl) (fun C hC=>?_) H;have e:DV.yl C.l::(List.range 3).map (L1 [.ref 0 0,.ref 1 0,.ref 2 0])++List.replicate (Tryz.f114.ntmps-(3+1)) .any=AM 36 [(0,.yl C.l),(1,.ref 0 0),(2,.ref 1 0),(3,.ref 2 0)]:=by kernel_rfl
 rw [e];exact mh cells Am AD h C hC
inductive KF where
 | s0
 | s1 (Eb:Nat) (DF:List Int)
def iX:KF -> DH
 | .s0=>[none,some (.cells [.nils])]
 | .s1 Eb DF=>[none,some (.cells [.msl 2 1 0 Eb]),some (.ints DF)]
def RO (n:Nat) (e6:Int):Option KF:=
 if (0=0/\ 1=([e6]:List Int).length)/\ 0<([e6]:List Int).length/\ ([e6]:List Int).length<=Ax then
  some (.s1 (([e6]:List Int).length) ([e6]:List Int))
 else none
def RN (n:Nat) (e6:Int) (Eb:Nat) (DF:List Int):Option KF:=
 if (0=0/\ 1=([e6]:List Int).length)/\ (0=0/\ Eb=DF.length)/\ DF.length+([e6]:List Int).length<=Ax then
  some (.s1 (DF.length+([e6]:List Int).length) (DF++([e6]:List Int)))
 else none
def xo (n:Nat) (e6:Int):KF -> Option KF
 | .s0=>RO n e6
 | .s1 Eb DF=>RN n e6 Eb DF
def Uv (n:Nat) (e6:Int) (s:KF):Option KF:=xo n e6 s
theorem xn (n:Nat) (l B:Nat) (N:Yd 2) (e6:Int) (s:KF) (r:KF) (h:Uv n e6 s=some r):TA l B N (Cs 2 [] 0 (iX r)) Tryz.f113 6 ⟨AM 13 [(2,.ref 1 0),(6,.it 0),(7,.i e6)],iX s⟩:=by
 cases s with
 | s0=>
  replace h:RO n e6=some r:=h;unfold RO at h;refine ag AF [0,1] H0 (AM 13 [(2,.ref 1 0),(5,.i e6)]) [none,some (.cells [.nils])] fun N=>?_
  revert r;apply gO;exact gi (jt (lF fun p=>rr AF [0,1,3] rfl p))
 | s1 Eb DF=>
  replace h:RN n e6 Eb DF=some r:=h;unfold RN at h;refine ag AF [0,1,2] H0 (AM 13 [(2,.ref 1 0),(5,.i e6)]) [none,some (.cells [.msl 2 1 0 Eb]),some (.ints DF)] fun N=>?_
  revert r;apply gO;exact gi (jt (lF fun p=>rr AF [0,1,4] rfl p))
def Y8 (n:Nat) (l:List Int):Option ((List Int)):=
 (By (Uv n) l (.s0)).bind fun y1=>
  match y1 with
  | .s0=>
   some ([]:List Int)
  | .s1 JJ JI=>
   if JJ=JI.length then
    some JI
   else none
def Uw (n:Nat) (l:List Int):Option ((List Int)):=Y8 n l
theorem xm {n:Nat} {l:List Int} {r:(List Int)} (h:Uw n l=some r):EQ 113 [.nils,.it 0] [some (.iter ((l).map BV))] (.ints r) [none] false:=by
 unfold Uw Y8 at h;refine ot Tryz.func113 fun B N=>?_
 revert r;apply gO
 exact cn fun y1 BB=>fun p r h=>by
  refine gs AF [0,1] p (Fl (Ab Tryz.f113) 6 []) (AM 13 [(2,.ref 1 0),(6,.it 0)]) [some (.iter ((l).map BV)),some (.cells [.nils])] ?_;refine r0 0 6 #[7] BV 2 BB (xn n) ?_;cases y1 with
  | s0=>
   dsimp only at h
   revert r;apply gO;exact lF fun p=>el AF [4] [0] p [] H0 [.nils] AS.ints_nil
  | s1 JJ JI=>
   dsimp only at h
   revert r;apply gO;exact gn fun g0=>lF fun p=>ez AF [4] [0,2] p [1] (H0.g g0)
def Yj (n:Nat) (l:List Int):Option ((List Int)):=
 (Uw n l).bind fun y1=>
  some y1
def M0 (n:Nat) (l:List Int):Option ((List Int)):=Yj n l
theorem w9 {n:Nat} {l:List Int} {r:(List Int)} (h:M0 n l=some r):EQ 86 [.it 0] [some (.iter ((l).map BV))] (.ints r) [none] false:=by
 unfold M0 Yj at h;refine ot Tryz.func86 fun B N=>?_
 revert r;apply gO;exact ce xm [0] [some (.iter ((l).map BV))] fun _=>lE AF [2] [0]
inductive UW where
 | l1 (x5 Ah:Int)
def Qx (n:Nat) (self:UW -> Option Bool) (AD cells:List Int) (x5 Ah:Int):Option Bool:=
 bif (decide (Ah<(cells.length:Int))) then
  if (0<=Ah/\ Ah<(cells.length:Int))/\ (0<=(cells.getD ((Ah).toNat) 0)/\ (cells.getD ((Ah).toNat) 0)<(AD.length:Int)) then
   (Gq n x5 (AD.getD ((cells.getD ((Ah).toNat) 0).toNat) 0)).bind fun y1=>
    bif y1 then
     some false
    else
     if (0<=AD.getD ((cells.getD ((Ah).toNat) 0).toNat) 0/\ AD.getD ((cells.getD ((Ah).toNat) 0).toNat) 0<=(IntKind.i64.bits:Int))/\ AL (Ah+1) then
      self (.l1 (bits .or .i64 x5 (IntKind.i64.wrap (1*2 ^ (AD.getD ((cells.getD ((Ah).toNat) 0).toNat) 0).toNat))) (Ah+1))
     else none
  else none
 else
  some true
def wI (n:Nat) (self:UW -> Option Bool) (AD cells:List Int):Option Bool:=
 self (.l1 0 0)
def LP (AD cells:List Int):Nat -> UW -> Option Bool
 | 0,_=>none
 | n+1,.l1 x5 Ah=>Qx n (LP AD cells n) AD cells x5 Ah
def UX (n:Nat) (AD cells:List Int):Option Bool:=wI n (LP AD cells n) AD cells
def wJ (n B:Nat) (N:Yd 0) (AD cells:List Int) (r:Bool):UW -> Prop
 | .l1 x5 Ah=>∀ m0:Nat,n<=m0 -> TW B N (FQ Tryz.f82 0 (.bool r) []) (A4 m0 (BF (Ab Tryz.f82) 0 [])) ⟨AM 28 [(0,.ints AD),(5,.i x5),(8,.ints cells),(9,.i (cells.length:Int)),(10,.i Ah)],[]⟩
theorem wK (B:Nat) (N:Yd 0) (AD cells:List Int):Al (LP AD cells) (wJ · B N AD cells):=ia (fun _=>rfl) fun n AH pt r h=>by
 cases pt
 case l1 x5 Ah=>
  intro m0 AC;refine rd AC fun m0 AC=>?_
  revert r;apply gO;exact bi 11 (gc (gi (gn fun g1=>jg g1 (cf Iw [] fun _=>bi 19 (lE AF [4] []) (jg g1 (gc (gi (gw 27 (lG AF [] (AH _ _ · m0 AC)))))))))) (lE AF [4] [])
theorem wH {n:Nat} {AD cells:List Int} {r:Bool} (h:UX n AD cells=some r):EQ 82 [.ints AD,.ints cells] [] (.bool r) [] true:=by
 refine ot Tryz.func82 fun B N=>?_
 revert r;apply gO;exact lN AF [] ((wK B N AD cells n) _ _ · n Nat.le.refl)
inductive Ub where
 | l1 (x6 An:Int)
def Q8 (n:Nat) (self:Ub -> Option Int) (AD cells:List Int) (Am:Int) (x6 An:Int):Option Int:=
 bif (decide (An<(cells.length:Int))) then
  if (0<=An/\ An<(cells.length:Int))/\ (0<=(cells.getD ((An).toNat) 0)/\ (cells.getD ((An).toNat) 0)<(AD.length:Int)) then
   (Gq n Am (AD.getD ((cells.getD ((An).toNat) 0).toNat) 0)).bind fun y1=>
    bif y1 then
     if AL (x6+1)/\ AL (An+1) then
      self (.l1 (x6+1) (An+1))
     else none
    else
     if AL (An+1) then
      self (.l1 x6 (An+1))
     else none
  else none
 else
  some x6
def wg (n:Nat) (self:Ub -> Option Int) (AD cells:List Int) (Am:Int):Option Int:=
 self (.l1 0 0)
def Oc (AD cells:List Int) (Am:Int):Nat -> Ub -> Option Int
 | 0,_=>none
 | n+1,.l1 x6 An=>Q8 n (Oc AD cells Am n) AD cells Am x6 An
def Uc (n:Nat) (AD cells:List Int) (Am:Int):Option Int:=wg n (Oc AD cells Am n) AD cells Am
def wh (n B:Nat) (N:Yd 0) (AD cells:List Int) (Am:Int) (r:Int):Ub -> Prop
 | .l1 x6 An=>∀ m0:Nat,n<=m0 -> TW B N (FQ Tryz.f83 0 (.i r) []) (A4 m0 (BF (Ab Tryz.f83) 0 [])) ⟨AM 25 [(0,.ints AD),(2,.i Am),(6,.i x6),(9,.ints cells),(10,.i (cells.length:Int)),(11,.i An)],[]⟩
theorem wi (B:Nat) (N:Yd 0) (AD cells:List Int) (Am:Int):Al (Oc AD cells Am) (wh · B N AD cells Am):=ia (fun _=>rfl) fun n AH pt r h=>by
 cases pt
 case l1 x6 An=>
  intro m0 AC;refine rd AC fun m0 AC=>?_
  revert r;apply gO;exact bi 12 (gc (gi (gi (cf Iw [] fun _=>bi 20 (gc (gw 22 (gw 23 (lG AF [] (AH _ _ · m0 AC))))) (gw 23 (lG AF [] (AH _ _ · m0 AC))))))) (lE AF [6] [])
theorem wf {n:Nat} {AD cells:List Int} {Am:Int} {r:Int} (h:Uc n AD cells Am=some r):EQ 83 [.ints AD,.ints cells,.i Am] [] (.i r) [] true:=by
 refine ot Tryz.func83 fun B N=>?_
 revert r;apply gO;exact lN AF [] ((wi B N AD cells Am n) _ _ · n Nat.le.refl)
inductive Rv where
 | l1 (x6 An:Int)
def O4 (n:Nat) (self:Rv -> Option Int) (values AD cells:List Int) (x6 An:Int):Option Int:=
 bif (decide (An<(cells.length:Int))) then
  if (0<=An/\ An<(cells.length:Int))/\ (0<=(cells.getD ((An).toNat) 0)/\ (cells.getD ((An).toNat) 0)<(AD.length:Int))/\ (0<=(AD.getD ((cells.getD ((An).toNat) 0).toNat) 0)/\ (AD.getD ((cells.getD ((An).toNat) 0).toNat) 0)<(values.length:Int))/\ AL (x6+(values.getD ((AD.getD ((cells.getD ((An).toNat) 0).toNat) 0).toNat) 0))/\ AL (An+1) then
   self (.l1 (x6+(values.getD ((AD.getD ((cells.getD ((An).toNat) 0).toNat) 0).toNat) 0)) (An+1))
  else none
 else
  some x6
def j1 (n:Nat) (self:Rv -> Option Int) (values AD cells:List Int):Option Int:=
 self (.l1 0 0)
def NK (values AD cells:List Int):Nat -> Rv -> Option Int
 | 0,_=>none
 | n+1,.l1 x6 An=>O4 n (NK values AD cells n) values AD cells x6 An
def Rx (n:Nat) (values AD cells:List Int):Option Int:=j1 n (NK values AD cells n) values AD cells
def j2 (n B:Nat) (N:Yd 0) (values AD cells:List Int) (r:Int):Rv -> Prop
 | .l1 x6 An=>∀ m0:Nat,n<=m0 -> TW B N (FQ Tryz.f84 0 (.i r) []) (A4 m0 (BF (Ab Tryz.f84) 0 [])) ⟨AM 26 [(0,.ints values),(1,.ints AD),(6,.i x6),(9,.ints cells),(10,.i (cells.length:Int)),(11,.i An)],[]⟩
theorem j3 (B:Nat) (N:Yd 0) (values AD cells:List Int):Al (NK values AD cells) (j2 · B N values AD cells):=ia (fun _=>rfl) fun n AH pt r h=>by
 cases pt
 case l1 x6 An=>
  intro m0 AC;refine rd AC fun m0 AC=>?_
  revert r;apply gO;exact bi 12 (gc (gi (gc (gi (gc (gi (gc (gw 23 (gw 24 (lG AF [] (AH _ _ · m0 AC))))))))))) (lE AF [6] [])
theorem j0 {n:Nat} {values AD cells:List Int} {r:Int} (h:Rx n values AD cells=some r):EQ 84 [.ints values,.ints AD,.ints cells] [] (.i r) [] true:=by
 refine ot Tryz.func84 fun B N=>?_
 revert r;apply gO;exact lN AF [] ((j3 B N values AD cells n) _ _ · n Nat.le.refl)
inductive SQ where
 | l1 (x7 A3:Int)
def PY (n:Nat) (self:SQ -> Option Bool) (values AD cells:List Int) (x7 A3:Int):Option Bool:=
 bif (decide (A3<(cells.length:Int))) then
  if (0<=A3/\ A3<(cells.length:Int))/\ (0<=(cells.getD ((A3).toNat) 0)/\ (cells.getD ((A3).toNat) 0)<(AD.length:Int))/\ (0<=(AD.getD ((cells.getD ((A3).toNat) 0).toNat) 0)/\ (AD.getD ((cells.getD ((A3).toNat) 0).toNat) 0)<(values.length:Int)) then
   bif (decide ((values.getD ((AD.getD ((cells.getD ((A3).toNat) 0).toNat) 0).toNat) 0)<=x7)) then
    some false
   else
    if AL (A3+1) then
     self (.l1 (values.getD ((AD.getD ((cells.getD ((A3).toNat) 0).toNat) 0).toNat) 0) (A3+1))
    else none
  else none
 else
  some true
def nN (n:Nat) (self:SQ -> Option Bool) (values AD cells:List Int):Option Bool:=
 self (.l1 (-1) 0)
def Kl (values AD cells:List Int):Nat -> SQ -> Option Bool
 | 0,_=>none
 | n+1,.l1 x7 A3=>PY n (Kl values AD cells n) values AD cells x7 A3
def SR (n:Nat) (values AD cells:List Int):Option Bool:=nN n (Kl values AD cells n) values AD cells
def nP (n B:Nat) (N:Yd 0) (values AD cells:List Int) (r:Bool):SQ -> Prop
 | .l1 x7 A3=>∀ m0:Nat,n<=m0 -> TW B N (FQ Tryz.f85 0 (.bool r) []) (A4 m0 (BF (Ab Tryz.f85) 0 [])) ⟨AM 33 [(0,.ints values),(1,.ints AD),(7,.i x7),(10,.ints cells),(11,.i (cells.length:Int)),(12,.i A3)],[]⟩
theorem nQ (B:Nat) (N:Yd 0) (values AD cells:List Int):Al (Kl values AD cells) (nP · B N values AD cells):=ia (fun _=>rfl) fun n AH pt r h=>by
 cases pt
 case l1 x7 A3=>
  intro m0 AC;refine rd AC fun m0 AC=>?_
  revert r;apply gO;exact bi 13 (gc (gi (gc (gn fun g1=>jg g1 (gn fun g2=>jg g2 (bi 24 (lE AF [6] []) (jg g1 (jg g2 (gw 32 (lG AF [] (AH _ _ · m0 AC))))))))))) (lE AF [6] [])
theorem nM {n:Nat} {values AD cells:List Int} {r:Bool} (h:SR n values AD cells=some r):EQ 85 [.ints values,.ints AD,.ints cells] [] (.bool r) [] true:=by
 refine ot Tryz.func85 fun B N=>?_
 revert r;apply gO;exact lN AF [] ((nQ B N values AD cells n) _ _ · n Nat.le.refl)
def ib (n:Nat) (a b_ n_:Int):Option Bool:=
 if AL (a-b_)/\ AL (b_-a) then
  some (decide ((if (b_-a)>(a-b_) then (b_-a) else (a-b_))>=n_))
 else none
def ZB (n:Nat) (a b_ n_:Int):Option Bool:=ib n a b_ n_
theorem xw {n:Nat} {a b_ n_:Int} {r:Bool} (h:ZB n a b_ n_=some r):EQ 88 [.i a,.i b_,.i n_] [] (.bool r) [] true:=by
 refine ot Tryz.func88 fun B N=>?_
 revert r;apply gO;exact gc (gw 9 (gw 12 (lE AF [6] [])))
theorem mD:A0 (BG Tryz.f115 0) [([0,1,2,3,4,5,6],7)] [8] [9]:=by unfold A0;kernel_rfl
def kY:Bh:=fun i=>match i with
 | 0=>.ord [([0,1,2,3,4,5,6],7)] [8] [9]
 | _=>.no
def cv (n:Nat) (c_ Am:Int) (AD:List Int) (ln:Nat) (mk:List Bool):Option ((List Bool)):=
 if 0<=c_/\ c_<(AD.length:Int) then
  (Gq n Am (AD.getD ((c_).toNat) 0)).bind fun y1=>
   if (0<=c_/\ c_<(ln:Int))/\ 0+((c_).toNat)<mk.length then
    some (mk.set (0+((c_).toNat)) y1)
   else none
 else none
def Wg (n:Nat) (c_ Am:Int) (AD:List Int) (ln:Nat) (mk:List Bool):Option ((List Bool)):=cv n c_ Am AD ln mk
theorem pV {n:Nat} {c_ Am:Int} {AD:List Int} {ln:Nat} {mk:List Bool} {r:(List Bool)} (h:Wg n c_ Am AD ln mk=some r):EQ 115 [.i c_,.ref 0 0,.ref 1 0,.ref 2 0] [some (.cells [.i Am]),some (.cells [.ints AD]),some (.cells [.msl 3 1 0 ln]),some (.bools mk)] (.tup 0 (fun j=>([]:List DV).getD j .any)) [some (.cells [.i Am]),some (.cells [.ints AD]),some (.cells [.msl 3 1 0 ln]),some (.bools r)] false:=by
 refine ot Tryz.func115 fun B N=>?_
 revert r;apply gO;exact jg mD (gi (cf Iw [some (.cells [.i Am]),some (.cells [.ints AD]),some (.cells [.msl 3 1 0 ln]),some (.bools mk)] fun _=>gc (gi (gi (lE kY [] [0,1,2,3])))))
inductive TS where
 | l1 (AV:Int) (o1:List Bool)
def QF (n:Nat) (self:TS -> Option Bool) (Ds:List (List Int)) (AD cells:List Int) (Am:Int) (loop:Bool) (AV:Int) (o1:List Bool):Option Bool:=
 bif (decide (AV<(cells.length:Int))) then
  if 0<=AV/\ AV<(cells.length:Int) then
   (Wg n (cells.getD ((AV).toNat) 0) Am AD AD.length o1).bind fun y1=>
    if AL (AV+1) then
     self (.l1 (AV+1) y1)
    else none
  else none
 else
  if AD.length=o1.length then
   (Ui n Ds o1).bind fun y1=>
    bif (!loop) then
     some (decide ((y1.1.length:Int)<=1))
    else
     bif ((y1.1.length:Int)==0) then
      some (decide ((y1.1.length:Int)<=1))
     else
      (NW n Ds o1).bind fun y2=>
       some y2.1
  else none
def dc (n:Nat) (self:TS -> Option Bool) (Ds:List (List Int)) (AD cells:List Int) (Am:Int) (loop:Bool):Option Bool:=
 if ((AD.length:Int):Int)=(AD.length:Int)/\ 0<=(AD.length:Int)/\ ((AD.length:Int):Int)<=1000000000000 then
  self (.l1 0 (List.replicate AD.length false))
 else none
def Nr (Ds:List (List Int)) (AD cells:List Int) (Am:Int) (loop:Bool):Nat -> TS -> Option Bool
 | 0,_=>none
 | n+1,.l1 AV o1=>QF n (Nr Ds AD cells Am loop n) Ds AD cells Am loop AV o1
def Ns (n:Nat) (Ds:List (List Int)) (AD cells:List Int) (Am:Int) (loop:Bool):Option Bool:=dc n (Nr Ds AD cells Am loop n) Ds AD cells Am loop
def qp (n B:Nat) (N:Yd 0) (Ds:List (List Int)) (AD cells:List Int) (Am:Int) (loop:Bool) (r:Bool):TS -> Prop
 | .l1 AV o1=>∀ m0:Nat,n<=m0 -> TW B N (FQ Tryz.f90 0 (.bool r) []) (A4 m0 (BF (Ab Tryz.f90) 0 [])) ⟨AM 56 [(0,.sl 1 Ds.length (Aq At Ds)),(4,.bool loop),(11,.ref 0 0),(12,.fn 115 3 (L1 [.ref 2 0,.ref 3 0,.ref 0 0])),(23,.ints cells),(24,.i (cells.length:Int)),(25,.i AV)],[some (.cells [.msl 1 1 0 AD.length]),some (.bools o1),some (.cells [.i Am]),some (.cells [.ints AD])]⟩
theorem qq (B:Nat) (N:Yd 0) (Ds:List (List Int)) (AD cells:List Int) (Am:Int) (loop:Bool):Al (Nr Ds AD cells Am loop) (qp · B N Ds AD cells Am loop):=ia (fun _=>rfl) fun n AH pt r h=>by
 cases pt
 case l1 AV o1=>
  intro m0 AC;refine rd AC fun m0 AC=>?_
  revert r;apply gO
  exact bi 26 (gi (ce pV [2,3,0,1] [some (.cells [.msl 1 1 0 AD.length]),some (.bools o1),some (.cells [.i Am]),some (.cells [.ints AD])] fun _=>gw 32 (lG AF [0,1,2,3] (AH _ _ · m0 AC)))) (gn fun g0=>fun p r h=>by
   refine gz (AI 8 AF) [0,1] p [1] (H0.g g0) (CW (Ab Tryz.f90) 8 []) (AM 56 [(0,.sl 1 Ds.length (Aq At Ds)),(4,.bool loop),(11,.ref 0 0)]) [some (.cells [.bools o1]),none] ?_;revert r;apply gO;exact cf wx [some (.cells [.bools o1]),none] fun _=>bi 40 (lE AF [10] []) (bi 44 (lE AF [10] []) (cf nR [some (.cells [.bools o1]),none] fun _=>lE AF [10] [])))
theorem qo {n:Nat} {Ds:List (List Int)} {AD cells:List Int} {Am:Int} {loop:Bool} {r:Bool} (h:Ns n Ds AD cells Am loop=some r):EQ 90 [.sl 1 Ds.length (Aq At Ds),.ints AD,.ints cells,.i Am,.bool loop] [] (.bool r) [] true:=by
 refine ot Tryz.func90 fun B N=>?_
 revert r;apply gO;exact gi (jt (lN AF [3,2,1,0] ((qq B N Ds AD cells Am loop n) _ _ · n Nat.le.refl)))
def Yt (n:Nat) (v:Int) (c:AB):Option Bool:=
 bif (decide (c.lo<=v)) then
  some (decide (v<=c.hi))
 else
  some false
def M4 (n:Nat) (v:Int) (c:AB):Option Bool:=Yt n v c
theorem iC {n:Nat} {v:Int} {c:AB} {r:Bool} (h:M4 n v c=some r):EQ 81 [.i v,.fp 9 (L1 (AG c))] [] (.bool r) [] true:=by
 refine ot Tryz.func81 fun B N=>?_
 revert r;apply gO;exact bi 7 (lE AF [3] []) (lE AF [3] [])
theorem mC:A0 (BG Tryz.f58 12) [([0,1,2,3,4,7,8],5),([],6),([],9)] [10] []:=by unfold A0;kernel_rfl
theorem mB:A0 (BG Tryz.f58 14) [([0,1,2,3,4,5,6,7,8,9,10,11,12,13,14,15,16,17,18,19,20,21,22,23],24)] [25] []:=by unfold A0;kernel_rfl
theorem mA:A0 (BG Tryz.f58 16) [] (List.range 16) []:=by unfold A0;kernel_rfl
def Kf:Bh:=fun i=>match i with
 | 12=>.ord [([0,1,2,3,4,7,8],5),([],6),([],9)] [10] []
 | 14=>.ord [([0,1,2,3,4,5,6,7,8,9,10,11,12,13,14,15,16,17,18,19,20,21,22,23],24)] [25] []
 | 16=>.ord [] (List.range 16) []
 | _=>.no
def Ir (n:Nat) (q:AA) (c_:AB) (AD:List Int):Option Bool:=
 bif (c_.kind==1) then
  (UX n AD c_.cells).bind fun y1=>
   some y1
 else
  bif (c_.kind==2) then
   (Uc n AD c_.cells c_.set).bind fun y1=>
    (M4 n y1 c_).bind fun y2=>
     some y2
  else
   bif (c_.kind==3) then
    (Rx n q.values AD c_.cells).bind fun y1=>
     (M4 n y1 c_).bind fun y2=>
      some y2
   else
    bif (c_.kind==4) then
     (SR n q.values AD c_.cells).bind fun y1=>
      some y1
    else
     bif (c_.kind==5) then
      (NT n c_.cells c_.set AD).bind fun y1=>
       (M0 n y1).bind fun y2=>
        (Qr n y2 c_.runs).bind fun y3=>
         some y3
     else
      bif (c_.kind==6) then
       if ((0:Int)<=0/\ 0<(c_.cells.length:Int))/\ (0<=(c_.cells.getD 0 0)/\ (c_.cells.getD 0 0)<(AD.length:Int))/\ (0<=(AD.getD ((c_.cells.getD 0 0).toNat) 0)/\ (AD.getD ((c_.cells.getD 0 0).toNat) 0)<(q.values.length:Int))/\ ((0:Int)<=1/\ 1<(c_.cells.length:Int))/\ (0<=(c_.cells.getD 1 0)/\ (c_.cells.getD 1 0)<(AD.length:Int))/\ (0<=(AD.getD ((c_.cells.getD 1 0).toNat) 0)/\ (AD.getD ((c_.cells.getD 1 0).toNat) 0)<(q.values.length:Int)) then
        (ZB n (q.values.getD ((AD.getD ((c_.cells.getD 0 0).toNat) 0).toNat) 0) (q.values.getD ((AD.getD ((c_.cells.getD 1 0).toNat) 0).toNat) 0) c_.lo).bind fun y1=>
         some y1
       else none
      else
       bif (c_.kind==7) then
        if ((0:Int)<=0/\ 0<(c_.cells.length:Int))/\ (0<=(c_.cells.getD 0 0)/\ (c_.cells.getD 0 0)<(AD.length:Int))/\ ((0:Int)<=1/\ 1<(c_.cells.length:Int))/\ (0<=(c_.cells.getD 1 0)/\ (c_.cells.getD 1 0)<(AD.length:Int)) then
         (Gq n c_.set (AD.getD ((c_.cells.getD 0 0).toNat) 0)).bind fun y1=>
          bif y1 then
           (Gq n c_.other (AD.getD ((c_.cells.getD 1 0).toNat) 0)).bind fun y2=>
            bif y2 then
             some false
            else
             (Gq n c_.set (AD.getD ((c_.cells.getD 1 0).toNat) 0)).bind fun y3=>
              bif y3 then
               (Gq n c_.other (AD.getD ((c_.cells.getD 0 0).toNat) 0)).bind fun y4=>
                some (!y4)
              else
               some true
          else
           (Gq n c_.set (AD.getD ((c_.cells.getD 1 0).toNat) 0)).bind fun y2=>
            bif y2 then
             (Gq n c_.other (AD.getD ((c_.cells.getD 0 0).toNat) 0)).bind fun y3=>
              some (!y3)
            else
             some true
        else none
       else
        (Ns n q.nbrs AD c_.cells c_.set (c_.kind==9)).bind fun y1=>
         some y1
def Fd (n:Nat) (q:AA) (c_:AB) (AD:List Int):Option Bool:=Ir n q c_ AD
theorem pU {n:Nat} {q:AA} {c_:AB} {AD:List Int} {r:Bool} (h:Fd n q c_ AD=some r):EQ 58 [.agg 5 (L1 (AE q)),.agg 9 (L1 (AG c_)),.ints AD] [] (.bool r) [] true:=by
 refine ot Tryz.func58 fun B N=>?_
 revert r;apply gO;exact bi 14 (cf wH [some (.cells (AE q)),some (.cells (AG c_))] fun _=>lE AF [6] []) (bi 20 (cf wf [some (.cells (AE q)),some (.cells (AG c_))] fun y1=>cn fun y2 Bq=>jc (sb [.i y1,.ref 1 0] (iC Bq) [some (.cells (AE q)),some (.cells (AG c_))] ⟨Aa.plain (by kernel_rfl),(Aa.refL (l:=(AG c_)) (l0:=(AG c_)) rfl ⟨Aa.plain (by kernel_rfl),Aa.plain (by kernel_rfl),Aa.plain (by kernel_rfl),Aa.plain (by kernel_rfl),Aa.plain (by kernel_rfl),Aa.plain (by kernel_rfl),Aa.plain (by kernel_rfl),Aa.plain (by kernel_rfl),Aa.plain (by kernel_rfl),trivial⟩),trivial⟩) (lE AF [6] [])) (bi 30 (cf j0 [some (.cells (AE q)),some (.cells (AG c_))] fun y1=>cn fun y2 Bq=>jc (sb [.i y1,.ref 1 0] (iC Bq) [some (.cells (AE q)),some (.cells (AG c_))] ⟨Aa.plain (by kernel_rfl),(Aa.refL (l:=(AG c_)) (l0:=(AG c_)) rfl ⟨Aa.plain (by kernel_rfl),Aa.plain (by kernel_rfl),Aa.plain (by kernel_rfl),Aa.plain (by kernel_rfl),Aa.plain (by kernel_rfl),Aa.plain (by kernel_rfl),Aa.plain (by kernel_rfl),Aa.plain (by kernel_rfl),Aa.plain (by kernel_rfl),trivial⟩),trivial⟩) (lE AF [6] [])) (bi 40 (cf nM [some (.cells (AE q)),some (.cells (AG c_))] fun _=>lE AF [6] []) (bi 48 (jg mC (cn fun y1 BB=>jc (me BB [some (.cells (AE q)),some (.cells (AG c_))]) (cn fun y2 Bq=>jq (eu (w9 Bq) [2] [some (.cells (AE q)),some (.cells (AG c_)),some (.iter ((y1).map BV))] 2) (cf vu [some (.cells (AE q)),some (.cells (AG c_)),none] fun _=>lE Kf [6] [])))) (bi 60 (jg mB (gc (gi (gc (gi (gc (gi (gc (gi (gc (gi (gi (cf xw [some (.cells (AE q)),some (.cells (AG c_))] fun _=>lE Kf [6] []))))))))))))) (bi 87 (jg mA (gc (gi (gc (gi (gc (gi (gi (cf Iw [some (.cells (AE q)),some (.cells (AG c_))] fun _=>bi 105 (cf Iw [some (.cells (AE q)),some (.cells (AG c_))] fun _=>bi 110 (lE Kf [6] []) (cf Iw [some (.cells (AE q)),some (.cells (AG c_))] fun _=>bi 116 (cf Iw [some (.cells (AE q)),some (.cells (AG c_))] fun _=>lE Kf [6] []) (lE Kf [6] []))) (cf Iw [some (.cells (AE q)),some (.cells (AG c_))] fun _=>bi 116 (cf Iw [some (.cells (AE q)),some (.cells (AG c_))] fun _=>lE Kf [6] []) (lE Kf [6] []))))))))))) (cf qo [some (.cells (AE q)),some (.cells (AG c_))] fun _=>lE Kf [6] [])))))))
def Zc (n:Nat) (v Ai:Int):Option Bool:=
 bif (decide (v<0)) then
  some true
 else
  some (decide (v>=Ai))
def Rj (n:Nat) (v Ai:Int):Option Bool:=Zc n v Ai
theorem jM {n:Nat} {v Ai:Int} {r:Bool} (h:Rj n v Ai=some r):EQ 112 [.i v,.fp 1 (L1 [.i Ai])] [] (.bool r) [] true:=by
 refine ot Tryz.func112 fun B N=>?_
 revert r;apply gO;exact bi 5 (lE AF [3] []) (lE AF [3] [])
inductive TZ where
 | l1 (x8:Int)
def QJ (n:Nat) (self:TZ -> Option Int) (l:List Int) (Ai:Int) (x8:Int):Option Int:=
 bif (decide (x8<(l.length:Int))) then
  if 0<=x8/\ x8<(l.length:Int) then
   (Rj n (l.getD ((x8).toNat) 0) Ai).bind fun y1=>
    bif y1 then
     some x8
    else
     if AL (x8+1) then
      self (.l1 (x8+1))
     else none
  else none
 else
  some (-1)
def q8 (n:Nat) (self:TZ -> Option Int) (l:List Int) (Ai:Int):Option Int:=
 self (.l1 0)
def K0 (l:List Int) (Ai:Int):Nat -> TZ -> Option Int
 | 0,_=>none
 | n+1,.l1 x8=>QJ n (K0 l Ai n) l Ai x8
def dq (n:Nat) (l:List Int) (Ai:Int):Option Int:=q8 n (K0 l Ai n) l Ai
def q9 (n B:Nat) (N:Yd 0) (l:List Int) (Ai:Int) (r:Int):TZ -> Prop
 | .l1 x8=>∀ m0:Nat,n<=m0 -> TW B N (FQ Tryz.f41 0 (.i r) []) (A4 m0 (BF (Ab Tryz.f41) 0 [])) ⟨AM 19 [(0,.ints l),(1,.fn 112 1 (L1 [.fp 1 (L1 [.i Ai])])),(7,.i (l.length:Int)),(8,.i x8)],[]⟩
theorem rA (B:Nat) (N:Yd 0) (l:List Int) (Ai:Int):Al (K0 l Ai) (q9 · B N l Ai):=ia (fun _=>rfl) fun n AH pt r h=>by
 cases pt
 case l1 x8=>
  intro m0 AC;refine rd AC fun m0 AC=>?_
  revert r;apply gO;exact bi 9 (gi (cf jM [] fun _=>bi 16 (lE AF [4] []) (gw 18 (lG AF [] (AH _ _ · m0 AC))))) (lE AF [4] [])
theorem q7 {n:Nat} {l:List Int} {Ai:Int} {r:Int} (h:dq n l Ai=some r):EQ 41 [.ints l,.fn 112 1 (L1 [.fp 1 (L1 [.i Ai])])] [] (.i r) [] true:=by
 refine ot Tryz.func41 fun B N=>?_
 revert r;apply gO;exact lN AF [] ((rA B N l Ai n) _ _ · n Nat.le.refl)
def gP (n:Nat) (l:List Int) (Ai:Int):Option Bool:=
 (dq n l Ai).bind fun y1=>
  some (decide (y1>=0))
def Ye (n:Nat) (l:List Int) (Ai:Int):Option Bool:=gP n l Ai
theorem wl {n:Nat} {l:List Int} {Ai:Int} {r:Bool} (h:Ye n l Ai=some r):EQ 48 [.ints l,.fn 112 1 (L1 [.fp 1 (L1 [.i Ai])])] [] (.bool r) [] true:=by
 unfold Ye gP at h;refine ot Tryz.func48 fun B N=>?_
 revert r;apply gO;exact cf q7 [] fun _=>lE AF [4] []
def YQ (n:Nat) (cells symbols:Int) (AD:List Int):Option Bool:=
 bif ((AD.length:Int)==cells) then
  (Ye n AD symbols).bind fun y1=>
   some (!y1)
 else
  some false
def Qn (n:Nat) (cells symbols:Int) (AD:List Int):Option Bool:=YQ n cells symbols AD
theorem vY {n:Nat} {cells symbols:Int} {AD:List Int} {r:Bool} (h:Qn n cells symbols AD=some r):EQ 80 [.i cells,.i symbols,.ints AD] [] (.bool r) [] true:=by
 refine ot Tryz.func80 fun B N=>?_
 revert r;apply gO;exact bi 10 (cn fun y1 BB=>jc (sb [.ints AD,.fn 112 1 (L1 [.ref 0 0])] (wl BB) [some (.cells [.i symbols])] ⟨Aa.plain (by kernel_rfl),(Aa.fnL (l:=[.ref 0 0]) (l0:=[.fp 1 (L1 [.i symbols])]) ⟨(Aa.refL (l:=[.i symbols]) (l0:=[.i symbols]) rfl ⟨Aa.plain (by kernel_rfl),trivial⟩),trivial⟩),trivial⟩) (lE AF [6] [])) (lE AF [6] [])
def bY (n:Nat) (q:AA) (AD:List Int):Option Int:=
 (valid n q).bind fun y1=>
  bif (y1 != 0) then
   some y1
  else
   (Qn n q.cells q.symbols AD).bind fun y2=>
    bif (!y2) then
     some 200
    else
     some 0
def SX (n:Nat) (q:AA) (AD:List Int):Option Int:=bY n q AD
theorem nf {n:Nat} {q:AA} {AD:List Int} {r:Int} (h:SX n q AD=some r):EQ 57 [.agg 5 (L1 (AE q)),.ints AD] [] (.i r) [] true:=by
 unfold SX bY at h;refine ot Tryz.func57 fun B N=>?_
 revert r;apply gO;exact cf VD [some (.cells (AE q))] fun _=>bi 8 (lE AF [4] []) (cf vY [some (.cells (AE q))] fun _=>bi 16 (lE AF [4] []) (lE AF [4] []))
theorem lz:A0 (BG Tryz.f24 6) [([0,1,2,3,4,5,6],7)] [8,9] []:=by unfold A0;kernel_rfl
def kX:Bh:=fun i=>match i with
 | 6=>.ord [([0,1,2,3,4,5,6],7)] [8,9] []
 | _=>.no
def cq (n:Nat) (q:AA) (i:Int) (AD:List Int):Option (Bool×Int):=
 (SX n q AD).bind fun y1=>
  bif (y1 != 0) then
   some (false,y1)
  else
   bif (decide (i<0)) then
    some (false,1)
   else
    bif (decide (i>=(q.cons.length:Int))) then
     some (false,1)
    else
     if 0<=i/\ i<(q.cons.length:Int) then
      (Fd n q (q.cons.getD ((i).toNat) default) AD).bind fun y2=>
       some (y2,0)
     else none
def MD (n:Nat) (q:AA) (i:Int) (AD:List Int):Option (Bool×Int):=cq n q i AD
theorem cm {n:Nat} {q:AA} {i:Int} {AD:List Int} {r:Bool×Int} (h:MD n q i AD=some r):EQ 24 [.agg 5 (L1 (AE q)),.i i,.ints AD] [] (.tup 2 (L1 [.bool r.1,.i r.2])) [] true:=by
 unfold MD cq at h;refine ot Tryz.func24 fun B N=>?_
 revert r;apply gO;exact cf nf [some (.cells (AE q))] fun _=>bi 12 (lE AF [6,7] []) (bi 15 (lE AF [6,7] []) (bi 21 (lE AF [6,7] []) (jg lz (gi (cf pU [some (.cells (AE q))] fun _=>lE kX [6,7] [])))))
end Go.Proofs.YtgkhhfnhacibcaaGreatDoor
namespace Go.Proofs.YtgkhhfnhacibcaaGreatDoor
abbrev zAR:=@Nat.zero_lt_one
abbrev zAV:=@iff_of_false
abbrev zBW:=@iff_of_true
end Go.Proofs.YtgkhhfnhacibcaaGreatDoor
namespace Go.Proofs.YtgkhhfnhacibcaaGreatDoor
open Go.RowKit
theorem K1 {k s n:Nat} {x:Int} (h:Sm k x) (hk:k<=62) (hs:s<64):Gq n x (s:Int)=some (tb x s):=by
 unfold Gq dw;rw [yP ⟨by omega,by show (s:Int)<=((64:Nat):Int);omega⟩,yU,kU h hk hs]
section
variable {q:AA} {g:List Int} {c:AB}
theorem Sv.gi (S:Sv q c g) {a:Nat} (ha:a<c.cells.length):g.getD (c.cells.getD a 0).toNat 0=((AP c g a:Nat):Int):=by
 have h:=S.cell a ha;have:=S.G.sym (c.cells.getD a 0).toNat (by omega);unfold AP;omega
theorem kS {k:Nat} {x y:Int} (hk:k<=62) (hx:Sm k x) (hy:Sm k y):Sm k (bits .or .i64 x y):=
 VY hk (FP _ _ _) fun i hi _=>by rw [JS,hx.hi hi,hy.hi hi];rfl
theorem wN (S:Sv q c g) (hl:c.cells.length<=256): ∃ r,Ev (fun n=>UX n g c.cells) r/\ (r=true↔∀ a b,a<c.cells.length -> b<c.cells.length -> AP c g a=AP c g b -> a=b):=by
 have key: ∀ (k i:Nat) (x:Int),i+k=c.cells.length -> Sm 16 x -> (∀ s,tb x s=true↔∃ b,b<i/\ AP c g b=s) -> (∀ a b,a<i -> b<i -> AP c g a=AP c g b -> a=b) ->
  ∃ r,Ev (fun n=>LP g c.cells n (.l1 x (i:Int))) r/\ (r=true↔∀ a b,a<c.cells.length -> b<c.cells.length -> AP c g a=AP c g b -> a=b):=by
  intro k
  induction k with
  | zero=>
   intro i x e hx hs hd;have e:i=c.cells.length:=by omega
   subst e;refine ⟨true,Ev.one fun n=>?_,zBW rfl hd⟩
   show Qx n (LP g c.cells n) g c.cells x (c.cells.length:Int)=_
   unfold Qx;rw [yS (by omega),yO]
  | succ k ih=>
   intro i x e hx hs hd;have hi:i<c.cells.length:=by omega
   have hc:=S.cell i hi;have AU:=(S.lt hi).2
   have step: ∀ n,LP g c.cells (n+1) (.l1 x (i:Int))=bif tb x (AP c g i) then some false else LP g c.cells n (.l1 (bits .or .i64 x (IntKind.i64.wrap (1*2 ^ AP c g i))) ((i+1:Nat):Int)):=fun n=>by
    show Qx n (LP g c.cells n) g c.cells x (i:Int)=_
    unfold Qx;rw [yW (by omega),yV,yU,yP ⟨⟨by omega,by omega⟩,hc⟩,S.gi hi,K1 hx (by decide) (by omega),yX];cases tb x (AP c g i)
    ·rw [yO,yO,yP ⟨⟨by omega,by show ((AP c g i:Nat):Int)<=((64:Nat):Int);omega⟩,A2.2 ⟨by omega,by omega⟩⟩,yU,show ((i+1:Nat):Int)=(i:Int)+1 by omega]
    ·rfl
   cases hb:tb x (AP c g i) with
   | true=>
    obtain ⟨b,h1,h2⟩:=(hs _).1 hb;refine ⟨false,Ev.one fun n=>by rw [step n,hb,yV],zAV (by decide) fun h=>?_⟩;have:=h b i (by omega) hi h2;omega
   | false=>
    have no: ∀ b,b<i -> AP c g b≠AP c g i:=fun b Cq e=>by
     rw [(hs _).2 ⟨b,Cq,e⟩] at hb;cases hb
    obtain ⟨r,h1,h2⟩:=ih (i+1) (bits .or .i64 x (IntKind.i64.wrap (1*2 ^ AP c g i))) (by omega) (kS (by decide) hx (bs (by decide) AU)) (fun s=>by
     rw [JS,Hi (by omega),yk,hs,ye];constructor
     ·rintro (⟨b,h1,h2⟩ | h)
      ·exact ⟨b,by omega,h2⟩
      ·exact ⟨i,by omega,h⟩
     ·rintro ⟨b,h1,h2⟩;rcases yd.1 h1 with h | rfl
      ·exact .inl ⟨b,h,h2⟩
      ·exact .inr h2) (fun a b ha hb e'=>by
     rcases yd.1 ha with ha | rfl <;> rcases yd.1 hb with hb | rfl
     ·exact hd a b ha hb e'
     ·exact absurd e' (no a ha)
     ·exact absurd e'.symm (no b hb)
     ·rfl)
    exact ⟨r,Bz.ev (Bz.one fun n=>by rw [step n,hb,yO]) h1,h2⟩
 exact key c.cells.length 0 0 (by omega) ⟨by decide,by decide⟩ (fun s=>by rw [Ro];simp) fun a b ha=>absurd ha (yg a)
theorem wa (S:Sv q c g) (hl:c.cells.length<=256) {k:Nat} (hs:Sm k c.set) (hk:k<=16):Ev (fun n=>Uc n g c.cells c.set) (cnt (fun a=>tb c.set (AP c g a)) c.cells.length):=by
 have key: ∀ (k i:Nat),i+k=c.cells.length -> Ev (fun n=>Oc g c.cells c.set n (.l1 (cnt (fun a=>tb c.set (AP c g a)) i) (i:Int))) (cnt (fun a=>tb c.set (AP c g a)) c.cells.length):=by
  intro k
  induction k with
  | zero=>
   intro i e;have e:i=c.cells.length:=by omega
   subst e;refine Ev.one fun n=>?_
   show Q8 n (Oc g c.cells c.set n) g c.cells c.set _ (c.cells.length:Int)=_
   unfold Q8;rw [yS (by omega),yO]
  | succ k ih=>
   intro i e;have hi:i<c.cells.length:=by omega
   have hc:=S.cell i hi;have AU:=(S.lt hi).2;have hb:=Yk (p:=fun a=>tb c.set (AP c g a)) (i:=i);refine Bz.ev (Bz.one fun n=>?_) (ih (i+1) (by omega))
   show Q8 n (Oc g c.cells c.set n) g c.cells c.set _ (i:Int)=_
   unfold Q8;rw [yW (by omega),yV,yU,yP ⟨⟨by omega,by omega⟩,hc⟩,S.gi hi,K1 hs (by omega) (by omega),yX,KD,show ((i+1:Nat):Int)=(i:Int)+1 by omega];cases tb c.set (AP c g i)
   ·rw [yO,yP (A2.2 ⟨by omega,by omega⟩)];simp
   ·rw [yV,yP ⟨A2.2 ⟨by omega,by omega⟩,A2.2 ⟨by omega,by omega⟩⟩,yP rfl]
 exact key c.cells.length 0 (by omega)
theorem jp (S:Sv q c g) (V:DY q q.symbols.toNat) (hl:c.cells.length<=256):Ev (fun n=>Rx n q.values g c.cells) (CJ (fun a=>q.values.getD (AP c g a) 0) c.cells.length):=by
 have hv: ∀ i,i<c.cells.length -> 0<=q.values.getD (AP c g i) 0/\ q.values.getD (AP c g i) 0<=99:=fun i hi=>V.val _ (S.lt hi).1
 have key: ∀ (k i:Nat),i+k=c.cells.length -> Ev (fun n=>NK q.values g c.cells n (.l1 (CJ (fun a=>q.values.getD (AP c g a) 0) i) (i:Int))) (CJ (fun a=>q.values.getD (AP c g a) 0) c.cells.length):=by
  intro k
  induction k with
  | zero=>
   intro i e;have e:i=c.cells.length:=by omega
   subst e;refine Ev.one fun n=>?_
   show O4 n (NK q.values g c.cells n) q.values g c.cells _ (c.cells.length:Int)=_
   unfold O4;rw [yS (by omega),yO]
  | succ k ih=>
   intro i e;have hi:i<c.cells.length:=by omega
   have hc:=S.cell i hi;have AU:=(S.lt hi).1;have GN:=V.len;have Ch:=hv i hi;have hb:=NG (f:=fun a=>q.values.getD (AP c g a) 0) i fun a ha=>by have:=hv a (by omega);omega
   refine Bz.ev (Bz.one fun n=>?_) (ih (i+1) (by omega))
   show O4 n (NK q.values g c.cells n) q.values g c.cells _ (i:Int)=_
   unfold O4;rw [yW (by omega),yV,yU,S.gi hi,yU,yP ⟨⟨by omega,by omega⟩,hc,⟨by omega,by omega⟩,A2.2 ⟨by omega,by omega⟩,A2.2 ⟨by omega,by omega⟩⟩,show ((i+1:Nat):Int)=(i:Int)+1 by omega];rfl
 exact key c.cells.length 0 (by omega)
theorem nD (S:Sv q c g) (V:DY q q.symbols.toNat) (hl:c.cells.length<=256): ∃ r,Ev (fun n=>SR n q.values g c.cells) r/\ (r=true↔GC q 0 c.cells.length (AP c g)):=by
 have hv: ∀ i,i<c.cells.length -> 0<=q.values.getD (AP c g i) 0/\ q.values.getD (AP c g i) 0<=99:=fun i hi=>V.val _ (S.lt hi).1
 have key: ∀ (k i:Nat) (x:Int),i+k=c.cells.length -> (i=0 -> x= -1) -> (0<i -> x=q.values.getD (AP c g (i-1)) 0) -> GC q 0 i (AP c g) ->
  ∃ r,Ev (fun n=>Kl q.values g c.cells n (.l1 x (i:Int))) r/\ (r=true↔GC q 0 c.cells.length (AP c g)):=by
  intro k
  induction k with
  | zero=>
   intro i x e h0 h1 hI;have e:i=c.cells.length:=by omega
   subst e;refine ⟨true,Ev.one fun n=>?_,zBW rfl hI⟩
   show PY n (Kl q.values g c.cells n) q.values g c.cells x (c.cells.length:Int)=_
   unfold PY;rw [yS (by omega),yO]
  | succ k ih=>
   intro i x e h0 h1 hI;have hi:i<c.cells.length:=by omega
   have hc:=S.cell i hi;have AU:=(S.lt hi).1;have GN:=V.len;have Ch:=hv i hi
   have step: ∀ n,Kl q.values g c.cells (n+1) (.l1 x (i:Int))=bif decide (q.values.getD (AP c g i) 0<=x) then some false else Kl q.values g c.cells n (.l1 (q.values.getD (AP c g i) 0) ((i+1:Nat):Int)):=fun n=>by
    show PY n (Kl q.values g c.cells n) q.values g c.cells x (i:Int)=_
    unfold PY;rw [yW (by omega),yV,yU,S.gi hi,yU,yP ⟨⟨by omega,by omega⟩,hc,by omega,by omega⟩,yP (A2.2 ⟨by omega,by omega⟩),show ((i+1:Nat):Int)=(i:Int)+1 by omega]
   by_cases h:q.values.getD (AP c g i) 0<=x
   ·refine ⟨false,Ev.one fun n=>by rw [step n,yW h,yV],zAV (by decide) fun u9=>?_⟩;rcases zAD i with e0 | e0
    ·have:=h0 e0;omega
    ·have h2:=u9 (i-1) (zr _) (by omega);rw [←h1 e0,show i-1+1=i by omega] at h2;omega
   ·obtain ⟨r,r1,r2⟩:=ih (i+1) (q.values.getD (AP c g i) 0) (by omega) (fun h=>absurd h (by omega)) (fun _=>by rw [Nat.add_sub_cancel]) (fun b X4 hb=>by
     by_cases e1:b+1=i
     ·rw [e1,show b=i-1 by omega,←h1 (by omega)];omega
     ·exact hI b X4 (by omega))
    exact ⟨r,Bz.ev (Bz.one fun n=>by rw [step n,yS h,yO]) r1,r2⟩
 exact key c.cells.length 0 (-1) (by omega) (fun _=>rfl) (fun h=>absurd h (Nat.lt_irrefl 0)) fun b _ h=>absurd h (yg _)
theorem mU (S:Sv q c g) (hl:c.cells.length<=256) {k:Nat} (hs:Sm k c.set) (hk:k<=16):Ev (fun n=>NT n c.cells c.set g) (rl (fun a=>tb c.set (AP c g a)) c.cells.length c.cells.length 0):=by
 have key: ∀ (m i:Nat) (l:Int),i+m=c.cells.length -> 0<=l/\ l<=(i:Int) -> Ev (fun n=>GI c.cells c.set g n (.l1 l (i:Int))) (rl (fun a=>tb c.set (AP c g a)) c.cells.length m l):=by
  intro m
  induction m with
  | zero=>
   intro i l e CU;have e:i=c.cells.length:=by omega
   subst e;refine Ev.one fun n=>?_
   show Ls n (GI c.cells c.set g n) c.cells c.set g l (c.cells.length:Int)=_
   unfold Ls rl;rw [yS (by omega),yO]
   by_cases h:l>0
   ·rw [yW h,yV,yP h];rfl
   ·rw [yS h,yO,yb h]
  | succ m ih=>
   intro i l e CU;have hi:i<c.cells.length:=by omega
   have hc:=S.cell i hi;have AU:=(S.lt hi).2;have ei:c.cells.length-1-m=i:=by omega
   have start: ∀ n,GI c.cells c.set g (n+1) (.l1 l (i:Int))=bif tb c.set (AP c g i) then GI c.cells c.set g n (.l1 (l+1) ((i+1:Nat):Int)) else bif decide (l>0) then (GI c.cells c.set g n (.l1 0 ((i+1:Nat):Int))).map (fun r=>l::r) else GI c.cells c.set g n (.l1 0 ((i+1:Nat):Int)):=fun n=>by
    have r1:AL ((i:Int)+1):=A2.2 ⟨by omega,by omega⟩
    show Ls n (GI c.cells c.set g n) c.cells c.set g l (i:Int)=_
    unfold Ls;rw [yW (by omega),yV,yU,yP ⟨⟨by omega,by omega⟩,hc⟩,S.gi hi,K1 hs (by omega) (by omega),yX,show ((i+1:Nat):Int)=(i:Int)+1 by omega];cases tb c.set (AP c g i)
    ·rw [yO,yO,yP r1];cases decide (l>0) <;> rfl
    ·rw [yV,yV,yP ⟨A2.2 ⟨by omega,by omega⟩,r1⟩]
   unfold rl;rw [ei];cases hb:tb c.set (AP c g i) with
   | true=>exact Bz.ev (Bz.one fun n=>by rw [start n,hb,yV]) (ih (i+1) (l+1) (by omega) (by omega))
   | false=>
    have h0:=ih (i+1) 0 (by omega) (by omega)
    by_cases h:l>0
    ·obtain ⟨N,h0⟩:=h0;refine ⟨N+1,fun n hn=>?_⟩;obtain ⟨n,rfl⟩: ∃ k,n=k+1:=⟨n-1,by omega⟩
     show GI c.cells c.set g (n+1) (.l1 l (i:Int))=_
     rw [start n,hb,yO,yW h,yV,show GI c.cells c.set g n (.l1 0 ((i+1:Nat):Int))=_ from h0 n (by omega),yO,yP h];rfl
    ·rw [yO,yb h];exact Bz.ev (Bz.one fun n=>by rw [start n,hb,yO,yS h,yO]) h0
 exact key c.cells.length 0 0 (by omega) ⟨zO _,by omega⟩
theorem Vu {b:Nat -> Bool} {N:Nat}: ∀ (m:Nat) (l:Int),(rl b N m l).length<=m+1
 | 0,l=>by unfold rl;split <;> simp
 | m+1,l=>by
  unfold rl;cases b (N-1-m)
  ·rw [yO];have:=Vu (b:=b) (N:=N) m 0;split
   ·simp;omega
   ·omega
  ·rw [yV];have:=Vu (b:=b) (N:=N) m (l+1);omega
theorem iZ {n:Nat}: ∀ (l x:List Int),(x++l).length<=Ax -> By (Uv n) l (.s1 x.length x)=some (.s1 (x++l).length (x++l))
 | [],x,h=>by rw [zAK];rfl
 | a::l,x,h=>by
  have e:x++a::l=x++[a]++l:=by simp
  have hl:x.length+([a]:List Int).length<=Ax:=by simp only [yz,zY] at h;simp only [zE];omega
  show (RN n a x.length x).bind _=_
  unfold RN;rw [yP ⟨⟨rfl,rfl⟩,⟨rfl,rfl⟩,hl⟩,yX,e,←yz];exact iZ l (x++[a]) (by rw [←e];exact h)
theorem xA {n:Nat} {l:List Int} (hl:l.length<=300):M0 n l=some l:=by
 have L:(1000000000000:Nat)=Ax:=rfl;unfold M0 Yj Uw Y8;cases l with
 | nil=>rfl
 | cons a l=>
  have e:By (Uv n) (a::l) .s0=some (.s1 ([a]++l).length ([a]++l)):=by
   show (RO n a).bind _=_
   unfold RO;rw [yP ⟨⟨rfl,rfl⟩,zAR,by rw [←L];show 1<=_;omega⟩,yX];exact iZ l [a] (by rw [←L];simp only [yz,zY,zm] at hl ⊢;omega)
  rw [e,yX]
  show (if ([a]++l).length=([a]++l).length then some ([a]++l) else none).bind _=_
  rw [yP rfl];rfl
end
end Go.Proofs.YtgkhhfnhacibcaaGreatDoor
