/- Part 5 of 7 of what the proofs of these laws stand on. -/
import Derived.Test.YtkjbblkieglmlaaGreatDoorPwD
set_option linter.all false
namespace Go.Proofs.YtkjbblkieglmlaaGreatDoor
abbrev zFT:=@List.ext_getElem
abbrev zFU:=@Bool.not_eq_true
abbrev zFf:=@Option.isSome_none
abbrev zFg:=@Option.isSome_some
end Go.Proofs.YtkjbblkieglmlaaGreatDoor
namespace Go.Proofs.YtkjbblkieglmlaaGreatDoor
open Go.RowKit
section
variable {c:AB} {k:Nat} {pos lost:List Int} {q:AA}
theorem B6.unique {i:Nat} {D:Nat -> Nat -> Prop} {l l':List Int} (h:B6 c pos lost i D l) (h':B6 c pos lost i D l') (hi: ∀ j,CH (l.getD j 0)) (BP: ∀ j,CH (l'.getD j 0)):l=l':=by
 have e:l.length=l'.length:=h.1.trans h'.1.symm;refine zFT e fun j h1 h2=>?_
 have e1:l.getD j 0=l[j]:=by simp [h1]
 have e2:l'.getD j 0=l'[j]:=by simp [h2]
 rw [←e1,←e2];refine Qi (hi j) (BP j) fun s _=>?_
 rw [zEe,h.2,h'.2]
theorem fm {l:List Int} {i:Nat} {x:Int} (h: ∀ j,CH (l.getD j 0)) (hx:CH x): ∀ j,CH ((l.set i x).getD j 0):=by
 intro j
 by_cases e:i=j
 ·subst e
  by_cases h2:i<l.length
  ·rw [JW h2];exact hx
  ·rw [List.set_eq_of_length_le (by omega)];exact h i
 ·rw [getD_set_ne e];exact h j
theorem vH {n ln:Nat} {cell ss:Int} {l':List Int} (h:DT n cell ss c q pos ln lost=some l') (hi: ∀ j,CH (lost.getD j 0)): ∀ j,CH (l'.getD j 0):=by
 unfold DT Zx at h;split at h
 ·cases h;exact fm hi (Ko _ _ _)
 ·cases h
theorem uR {n ln:Nat} {cell:Int} {l':List Int} (h:GC n cell c q pos ln lost=some l') (hi: ∀ j,CH (lost.getD j 0)): ∀ j,CH (l'.getD j 0):=by
 unfold GC ZZ at h;split at h
 ·cases h;exact fm hi (Ko _ _ _)
 ·cases h
def H6 (c:AB):Prop:=c.runs.length<=256/\ ∀ j,j<c.runs.length -> c.runs.getD j 0<=256
structure MZ (c:AB) (d l:Int):Prop where
 d0:0<=d
 d1:d<=(c.runs.length:Int)
 l0:0<=l
 open' : 0 < l -> d < (c.runs.length : Int) /\ l <= c.runs.getD d.toNat 0
def nx (c:AB) (d l:Int) (inn:Bool):Option (Int×Int):=
 bif inn then (if d<(c.runs.length:Int)/\ l<c.runs.getD d.toNat 0 then some (d,l+1) else none)
 else (if l=0 then some (d,0) else if l=c.runs.getD d.toNat 0 then some (d+1,0) else none)
theorem ua {d l:Int} {inn:Bool} {t:Int×Int} (h:MZ c d l) (e:nx c d l inn=some t):MZ c t.1 t.2:=by
 obtain ⟨h1,h2,h3,h4⟩:=h;unfold nx at e;cases inn
 ·rw [zAC] at e;split at e
  ·cases e;exact ⟨h1,h2,zER _,fun h=>absurd h (Int.lt_irrefl _)⟩
  ·split at e
   ·cases e;have:=h4 (by omega);exact ⟨by show 0<=d+1;omega,by show d+1<=_;omega,zER _,fun h=>absurd h (Int.lt_irrefl _)⟩
   ·cases e
 ·rw [zAK] at e;split at e
  ·rename_i h5;cases e;exact ⟨h1,h2,by show 0<=l+1;omega,fun _=>⟨h5.1,by show l+1<=c.runs.getD d.toNat 0;omega⟩⟩
  ·cases e
theorem Vq {n ln:Nat} {d l:Int} {inn:Bool} (R:H6 c) (h:MZ c d l): ∃ t,SH n (d,l) inn c q pos ln lost=some (t,(nx c d l inn).isSome,lost)/\ ∀ u,nx c d l inn=some u -> t=u:=by
 obtain ⟨h1,h2,h3,h4⟩:=h;obtain ⟨hr,hv⟩:=R
 have hl:l<=256:=by
  by_cases h0:0<l
  ·obtain ⟨a1,a2⟩:=h4 h0;have:=hv d.toNat (by omega);omega
  ·omega
 unfold SH i8 nx;cases inn
 ·rw [zAC,zAC]
  by_cases h0:l=0
  ·subst h0;refine ⟨(d,0),by simp,fun u hu=>by simpa using hu⟩
  ·obtain ⟨a1,a2⟩:=h4 (by omega);have e0:(l==0)=false:=by simpa using h0
   simp only [e0,zAC,zAZ h0];rw [zAB ⟨A0.2 ⟨by omega,by omega⟩,h1,a1⟩];refine ⟨(d+1,0),?_,fun u hu=>?_⟩
   ·by_cases h5:l=c.runs.getD d.toNat 0
    ·rw [zAB h5,←h5];simp
    ·rw [zAZ h5];simpa using h5
   ·split at hu
    ·cases hu;rfl
    ·cases hu
 ·rw [zAK,zAK,zAB (A0.2 ⟨by show _<=l+1;omega,by show l+1<=_;omega⟩)]
  by_cases h5:d<(c.runs.length:Int)
  ·simp only [zAT h5,zAK];rw [zAB ⟨h1,h5⟩];refine ⟨(d,l+1),?_,fun u hu=>?_⟩
   ·by_cases h6:l<c.runs.getD d.toNat 0
    ·rw [zAB ⟨h5,h6⟩,zAT h6];rfl
    ·rw [zAZ fun h=>h6 h.2,zAE h6];rfl
   ·split at hu
    ·cases hu;rfl
    ·cases hu
  ·simp only [zAE h5,zAC];refine ⟨(d,l+1),?_,fun u hu=>?_⟩
   ·rw [zAZ fun h=>h5 h.1];rfl
   ·rw [zAZ fun h=>h5 h.1] at hu;cases hu
def kd (c:AB) (pos:List Int) (i:Nat) (inn:Bool):Bool:=bif inn then (bits .and .i64 (BN c pos i) c.set != 0) else (bits .andNot .i64 (BN c pos i) c.set != 0)
theorem V1 {n:Nat} {i:Nat} {inn:Bool} (W:C2 c k pos) (hi:i<c.cells.length):SU n (i:Int) inn c q pos pos.length lost=some (kd c pos i inn,lost):=by
 have hc:=W.cells i hi;unfold SU jd kd;simp only [zAO];cases inn
 ·rw [zAC,zAB ⟨⟨by omega,by omega⟩,hc⟩];rfl
 ·rw [zAK,zAB ⟨⟨by omega,by omega⟩,hc⟩];rfl
def Fu (c:AB) (pos:List Int):Nat -> Int×Int -> Prop
 | 0,t=>t=(0,0)
 | i+1,t=>∃ s inn,Fu c pos i s/\ nx c s.1 s.2 inn=some t/\ kd c pos i inn=true
theorem Fu.ok (i:Nat): ∀ {t:Int×Int},Fu c pos i t -> MZ c t.1 t.2:=by
 induction i with
 | zero=>
  intro t h;obtain rfl:t=(0,0):=h;exact ⟨zER _,by show (0:Int)<=_;omega,zER _,fun h=>absurd h (Int.lt_irrefl _)⟩
 | succ i ih=>
  rintro t ⟨s,inn,h1,h2,_⟩;exact ua (ih h1) h2
def zDn (c:AB) (t:Int×Int):Prop:=t=((c.runs.length:Int),0)∨(0<c.runs.length/\ t=((c.runs.length:Int)-1,c.runs.getD (c.runs.length-1) 0))
def Kv (c:AB) (pos:List Int):Nat -> Int×Int -> Prop
 | 0,t=>zDn c t
 | m+1,s=>Fu c pos (c.cells.length-1-m) s/\ ∃ t inn,nx c s.1 s.2 inn=some t/\ kd c pos (c.cells.length-1-m) inn=true/\ Kv c pos m t
def ON (c:AB) (pos:List Int) (i:Nat) (inn:Bool):Prop:=∃ s t,Fu c pos i s/\ nx c s.1 s.2 inn=some t/\ kd c pos i inn=true/\ Kv c pos (c.cells.length-1-i) t
def M5 (c:AB) (pos:List Int) (a s:Nat):Prop:=(¬ ON c pos a true/\ tb c.set s=true)∨(¬ ON c pos a false/\ tb c.set s=false)
def D1 (c:AB) (pos:List Int) (i:Nat) (o4:KS) (d l:Int) (inn:Bool):Bool:=match nx c d l inn with
 | some t=>kd c pos i inn&&o4.contains [t.1,t.2]
 | none=>false
theorem v7 {n i oi:Nat} {o1:List Int} {o3:List (Option KS)} {o4 o5 o8:KS} {b0 b1:Bool} {d l:Int} {IQ:List Int} (W:C2 c k pos) (R:H6 c) (hi:i<c.cells.length) (h:MZ c d l):
 BO c q pos pos.length lost (n+1) (.l7 i 0 o1 o3 oi o4 o5 b0 b1 d l o8 IQ)=BO c q pos pos.length lost n (.l7 i 1 o1 o3 oi o4 (bif D1 c pos i o4 d l false then CP [d,l] o5 else o5) (b0||D1 c pos i o4 d l false) b1 d l o8 IQ):=by
 obtain ⟨t,e1,e2⟩:=Vq (n:=n) (ln:=pos.length) (pos:=pos) (lost:=o1) (q:=q) (inn:=false) R h;have b:([false,true]:List Bool).getD (0+((0:Int)).toNat) false=false:=rfl;have r:AL ((0:Int)+1):=A0.2 ⟨by decide,by decide⟩
 show M1 n (BO c q pos pos.length lost n) c q pos pos.length lost i 0 o1 o3 oi o4 o5 b0 b1 d l o8 IQ=_
 unfold M1 D1;rw [zAT (by decide),zAK,zAB ⟨⟨by decide,by decide⟩,by decide⟩,b,e1,zAA];cases hn:nx c d l false with
 | none=>simp only [zFf,zAC,zAB r,zEW];rfl
 | some u=>
  obtain rfl:=e2 u hn;simp only [zFg,zAK];rw [V1 W hi,zAA];cases hk:kd c pos i false
  ·simp only [zAC,zAB r,zEc,zEW];rfl
  ·simp only [zAK,zD5];cases hc:o4.contains [t.1,t.2]
   ·simp only [zAC,zAB r,zEW];rfl
   ·have z:((0:Int)==0)=true:=rfl;simp only [zAK,z,zAB r,Bool.or_true];rfl
theorem v6 {n i oi:Nat} {o1:List Int} {o3:List (Option KS)} {o4 o5 o8:KS} {b0 b1:Bool} {d l:Int} {IQ:List Int} (W:C2 c k pos) (R:H6 c) (hi:i<c.cells.length) (h:MZ c d l):
 BO c q pos pos.length lost (n+1) (.l7 i 1 o1 o3 oi o4 o5 b0 b1 d l o8 IQ)=BO c q pos pos.length lost n (.l7 i 2 o1 o3 oi o4 (bif D1 c pos i o4 d l true then CP [d,l] o5 else o5) b0 (b1||D1 c pos i o4 d l true) d l o8 IQ):=by
 obtain ⟨t,e1,e2⟩:=Vq (n:=n) (ln:=pos.length) (pos:=pos) (lost:=o1) (q:=q) (inn:=true) R h;have b:([false,true]:List Bool).getD (0+((1:Int)).toNat) false=true:=rfl;have r:AL ((1:Int)+1):=A0.2 ⟨by decide,by decide⟩
 show M1 n (BO c q pos pos.length lost n) c q pos pos.length lost i 1 o1 o3 oi o4 o5 b0 b1 d l o8 IQ=_
 unfold M1 D1;rw [zAT (by decide),zAK,zAB ⟨⟨by decide,by decide⟩,by decide⟩,b,e1,zAA];cases hn:nx c d l true with
 | none=>simp only [zFf,zAC,zAB r,zEW];rfl
 | some u=>
  obtain rfl:=e2 u hn;simp only [zFg,zAK];rw [V1 W hi,zAA];cases hk:kd c pos i true
  ·simp only [zAC,zAB r,zEc,zEW];rfl
  ·simp only [zAK,zD5];cases hc:o4.contains [t.1,t.2]
   ·simp only [zAC,zAB r,zEW];rfl
   ·have z:((1:Int)==0)=false:=rfl;have z1:((1:Int)==1)=true:=rfl;simp only [zAK,zAC,z,z1,zAB r,Bool.or_true];rfl
theorem vz {n i oi:Nat} {o1:List Int} {o3:List (Option KS)} {o4 o5 o8:KS} {b0 b1:Bool} {d l:Int} {IQ:List Int}:
 BO c q pos pos.length lost (n+1) (.l7 i 2 o1 o3 oi o4 o5 b0 b1 d l o8 IQ)=BO c q pos pos.length lost n (.l9 i o1 o3 oi o4 o5 b0 b1 o8 IQ):=by
 show M1 n (BO c q pos pos.length lost n) c q pos pos.length lost i 2 o1 o3 oi o4 o5 b0 b1 d l o8 IQ=_
 unfold M1;rw [zAE (by decide),zAC]
def FC (c:AB) (pos:List Int) (i:Nat) (o3:List (Option KS)) (d l:Int) (inn:Bool):List (Option KS):=match nx c d l inn with
 | some t=>bif kd c pos i inn then o3.set (i+1) (some (CP [t.1,t.2] ((o3.getD (i+1) none).getD []))) else o3
 | none=>o3
theorem wC {n i:Nat} {o1:List Int} {o3:List (Option KS)} {o5:KS} {d l:Int} {FX:List Int} {As:Int} (W:C2 c k pos) (R:H6 c) (hi:i<c.cells.length) (h:MZ c d l) (h3:i+1<o3.length) (hs:(o3.getD (i+1) none).isSome=true):
 BO c q pos pos.length lost (n+1) (.l5 i As 0 o1 o3 i d l o5 FX)=BO c q pos pos.length lost n (.l5 i As 1 o1 (FC c pos i o3 d l false) i d l o5 FX):=by
 obtain ⟨t,e1,e2⟩:=Vq (n:=n) (ln:=pos.length) (pos:=pos) (lost:=o1) (q:=q) (inn:=false) R h;have b:([false,true]:List Bool).getD (0+((0:Int)).toNat) false=false:=rfl;have r:AL ((0:Int)+1):=A0.2 ⟨by decide,by decide⟩;have Ap:=W.len;have t1:((((c.cells.length:Nat):Int)+1).toNat:Nat)=c.cells.length+1:=by omega
 have t2:0+(((i:Int)+1).toNat:Nat)=i+1:=by omega
 show M2 n (BO c q pos pos.length lost n) c q pos pos.length lost i As 0 o1 o3 i d l o5 FX=_
 unfold M2 FC;rw [zAT (by decide),zAK,zAB ⟨⟨by decide,by decide⟩,by decide⟩,b,e1,zAA];cases hn:nx c d l false with
 | none=>simp only [zFf,zAC,zAB r];rfl
 | some u=>
  obtain rfl:=e2 u hn;simp only [zFg,zAK];rw [V1 W hi,zAA];cases hk:kd c pos i false
  ·simp only [zAC,zAB r];rfl
  ·simp only [zAK,t1,t2];rw [zAB ⟨A0.2 ⟨by omega,by omega⟩,⟨by omega,by omega⟩,h3,by omega,hs,r⟩];rfl
theorem wB {n i:Nat} {o1:List Int} {o3:List (Option KS)} {o5:KS} {d l:Int} {FX:List Int} {As:Int} (W:C2 c k pos) (R:H6 c) (hi:i<c.cells.length) (h:MZ c d l) (h3:i+1<o3.length) (hs:(o3.getD (i+1) none).isSome=true):
 BO c q pos pos.length lost (n+1) (.l5 i As 1 o1 o3 i d l o5 FX)=BO c q pos pos.length lost n (.l5 i As 2 o1 (FC c pos i o3 d l true) i d l o5 FX):=by
 obtain ⟨t,e1,e2⟩:=Vq (n:=n) (ln:=pos.length) (pos:=pos) (lost:=o1) (q:=q) (inn:=true) R h;have b:([false,true]:List Bool).getD (0+((1:Int)).toNat) false=true:=rfl;have r:AL ((1:Int)+1):=A0.2 ⟨by decide,by decide⟩;have Ap:=W.len;have t1:((((c.cells.length:Nat):Int)+1).toNat:Nat)=c.cells.length+1:=by omega
 have t2:0+(((i:Int)+1).toNat:Nat)=i+1:=by omega
 show M2 n (BO c q pos pos.length lost n) c q pos pos.length lost i As 1 o1 o3 i d l o5 FX=_
 unfold M2 FC;rw [zAT (by decide),zAK,zAB ⟨⟨by decide,by decide⟩,by decide⟩,b,e1,zAA];cases hn:nx c d l true with
 | none=>simp only [zFf,zAC,zAB r];rfl
 | some u=>
  obtain rfl:=e2 u hn;simp only [zFg,zAK];rw [V1 W hi,zAA];cases hk:kd c pos i true
  ·simp only [zAC,zAB r];rfl
  ·simp only [zAK,t1,t2];rw [zAB ⟨A0.2 ⟨by omega,by omega⟩,⟨by omega,by omega⟩,h3,by omega,hs,r⟩];rfl
theorem wA {n i:Nat} {o1:List Int} {o3:List (Option KS)} {o5:KS} {d l:Int} {FX:List Int} {As:Int}:
 BO c q pos pos.length lost (n+1) (.l5 i As 2 o1 o3 i d l o5 FX)=BO c q pos pos.length lost n (.l8 i As o1 o3 i o5 FX):=by
 show M2 n (BO c q pos pos.length lost n) c q pos pos.length lost i As 2 o1 o3 i d l o5 FX=_
 unfold M2;rw [zAE (by decide),zAC]
def Fi (o3:List (Option KS)) (j:Nat):KS:=(o3.getD j none).getD []
theorem VM {i:Nat} {o3:List (Option KS)} {d l:Int} {inn:Bool}:(FC c pos i o3 d l inn).length=o3.length:=by
 unfold FC;split
 ·cases kd c pos i inn
  ·rfl
  ·rw [zAK,zAl]
 ·rfl
theorem Wu {α:Type} {l:List α} {i:Nat} {x y:α} (h:i<l.length):(l.set i x).getD i y=x:=by
 rw [u8,zEH h];rfl
theorem bY {α:Type} {l:List α} {i j:Nat} {x y:α} (h:i≠j):(l.set i x).getD j y=l.getD j y:=by
 rw [u8,zEB h,←u8]
theorem ZC {i j:Nat} {o3:List (Option KS)} {d l:Int} {inn:Bool} (h:j≠i+1):(FC c pos i o3 d l inn).getD j none=o3.getD j none:=by
 unfold FC;split
 ·cases kd c pos i inn
  ·rfl
  ·rw [zAK,bY (fun e=>h e.symm)]
 ·rfl
theorem ZD {i:Nat} {o3:List (Option KS)} {d l:Int} {inn:Bool} (hl:i+1<o3.length) {j:Nat} (h:(o3.getD j none).isSome=true):((FC c pos i o3 d l inn).getD j none).isSome=true:=by
 by_cases e:j=i+1
 ·subst e;unfold FC;split
  ·cases kd c pos i inn
   ·exact h
   ·rw [zAK,Wu hl];rfl
  ·exact h
 ·rw [ZC e];exact h
theorem PM {i:Nat} {o3:List (Option KS)} {d l:Int} {inn:Bool} (hl:i+1<o3.length) {x:List Int}:x∈Fi (FC c pos i o3 d l inn) (i+1)↔x∈Fi o3 (i+1)∨∃ t,nx c d l inn=some t/\ kd c pos i inn=true/\ x= [t.1,t.2]:=by
 unfold FC;split
 ·rename_i t ht;cases hk:kd c pos i inn
  ·rw [zAC];exact ⟨.inl,fun h=>h.elim id fun ⟨_,_,h,_⟩=>by cases h⟩
  ·rw [zAK];unfold Fi;rw [Wu hl]
   show x∈CP _ _↔_
   rw [NS];constructor
   ·rintro (h | h)
    ·exact .inr ⟨t,ht,rfl,h⟩
    ·exact .inl h
   ·rintro (h | ⟨u,hu,_,h⟩)
    ·exact .inr h
    ·rw [ht] at hu;cases hu;exact .inl h
 ·rename_i hn;exact ⟨.inl,fun h=>h.elim id fun ⟨_,h,_⟩=>by rw [hn] at h;cases h⟩
structure Rows (c:AB) (pos:List Int) (i:Nat) (o3:List (Option KS)):Prop where
 len:o3.length=c.cells.length+1
 isSome: ∀ j,j<=c.cells.length -> (o3.getD j none).isSome=true
 row: ∀ j,j<=i -> ∀ x,x∈Fi o3 j↔∃ t:Int×Int,x= [t.1,t.2]/\ Fu c pos j t
 rest: ∀ j,i<j -> j<=c.cells.length -> Fi o3 j= []
structure OY (c:AB) (pos:List Int) (i:Nat) (rem:KS) (o3:List (Option KS)):Prop where
 hi:i<c.cells.length
 len:o3.length=c.cells.length+1
 isSome: ∀ j,j<=c.cells.length -> (o3.getD j none).isSome=true
 row: ∀ j,j<=i -> ∀ x,x∈Fi o3 j↔∃ t:Int×Int,x= [t.1,t.2]/\ Fu c pos j t
 rest: ∀ j,i+1<j -> j<=c.cells.length -> Fi o3 j= []
 sub: ∀ x∈rem,∃ t:Int×Int,x= [t.1,t.2]/\ Fu c pos i t
 next: ∀ x∈Fi o3 (i+1),∃ t:Int×Int,x= [t.1,t.2]/\ Fu c pos (i+1) t
 cov: ∀ t,Fu c pos i t -> [t.1,t.2]∈rem∨∀ inn u,nx c t.1 t.2 inn=some u -> kd c pos i inn=true -> [u.1,u.2]∈Fi o3 (i+1)
theorem Rows.mid {i:Nat} {o3:List (Option KS)} (h:Rows c pos i o3) (hi:i<c.cells.length):OY c pos i (Fi o3 i) o3 where
 hi:=hi
 len:=h.len
 isSome:=h.isSome
 row:=h.row
 rest:=fun j hj hl=>h.rest j (by omega) hl
 sub:=fun x hx=>(h.row i (zAm _) x).1 hx
 next:=fun x hx=>by rw [h.rest (i+1) (by omega) (by omega)] at hx;cases hx
 cov:=fun t ht=>.inl ((h.row i (zAm _) _).2 ⟨t,rfl,ht⟩)
theorem OY.rows {i:Nat} {o3:List (Option KS)} (h:OY c pos i [] o3):Rows c pos (i+1) o3 where
 len:=h.len
 isSome:=h.isSome
 row:=fun j hj x=>by
  rcases zAa.1 (Nat.lt_succ_of_le hj) with hj | rfl
  ·exact h.row j (by omega) x
  ·refine ⟨h.next x,?_⟩;rintro ⟨t,rfl,s,inn,h1,h2,h3⟩;rcases h.cov s h1 with h4 | h4
   ·cases h4
   ·exact h4 inn t h2 h3
 rest:=h.rest
theorem Ro {t u:Int×Int} (h:([t.1,t.2]:List Int)= [u.1,u.2]):t=u:=by
 obtain ⟨a,b⟩:=t;obtain ⟨a',b'⟩:=u;simp only [List.cons.injEq,and_true] at h;rw [h.1,h.2]
theorem OY.go {i:Nat} {o3:List (Option KS)} {rem:KS} {t:Int×Int} (h:OY c pos i rem o3) (ht: [t.1,t.2]∈rem):OY c pos i (rem.erase [t.1,t.2]) (FC c pos i (FC c pos i o3 t.1 t.2 false) t.1 t.2 true):=by
 have hl:=h.len;have hi:=h.hi;have h1:i+1<o3.length:=by omega
 have h2:i+1<(FC c pos i o3 t.1 t.2 false).length:=by rw [VM];exact h1
 have Ak: ∀ j,j≠i+1 -> Fi (FC c pos i (FC c pos i o3 t.1 t.2 false) t.1 t.2 true) j=Fi o3 j:=fun j hj=>by
  unfold Fi;rw [ZC hj,ZC hj]
 have hR:Fu c pos i t:=by
  obtain ⟨u,e,hu⟩:=h.sub _ ht;rw [Ro e];exact hu
 refine ⟨hi,by rw [VM,VM];exact hl,fun j hj=>ZD h2 (ZD h1 (h.isSome j hj)),fun j hj x=>?_,fun j hj zr=>?_,fun x hx=>h.sub x (zFt hx),fun x hx=>?_,fun s hs=>?_⟩
 ·rw [Ak j (by omega)];exact h.row j hj x
 ·rw [Ak j (by omega)];exact h.rest j hj zr
 ·rw [PM h2,PM h1] at hx;rcases hx with (hx | ⟨u,e1,e2,rfl⟩) | ⟨u,e1,e2,rfl⟩
  ·exact h.next x hx
  ·exact ⟨u,rfl,t,false,hR,e1,e2⟩
  ·exact ⟨u,rfl,t,true,hR,e1,e2⟩
 ·by_cases e:s=t
  ·subst e;refine .inr fun inn u h3 h4=>?_
   rw [PM h2,PM h1];cases inn
   ·exact .inl (.inr ⟨u,h3,h4,rfl⟩)
   ·exact .inr ⟨u,h3,h4,rfl⟩
  ·rcases h.cov s hs with h3 | h3
   ·exact .inl ((List.mem_erase_of_ne (fun e2=>e (Ro e2))).2 h3)
   ·refine .inr fun inn u h4 h5=>?_
    rw [PM h2,PM h1];exact .inl (.inl (h3 inn u h4 h5))
def HQ (c:AB) (pos lost:List Int) (r:Bool×List Int):Prop:=r.1=true/\ B6 c pos lost c.cells.length (M5 c pos) r.2/\ ∀ j,CH (r.2.getD j 0)
theorem HQ.uniq (r r':Bool×List Int) (h:HQ c pos lost r) (h':HQ c pos lost r'):r=r':=by
 obtain ⟨b,l⟩:=r;obtain ⟨b',l'⟩:=r';obtain ⟨h1,h2,h3⟩:=h;obtain ⟨h4,h5,h6⟩:=h';have e1:b=true:=h1;have e2:b'=true:=h4;have e3:l=l':=B6.unique h2 h5 h3 h6;rw [e1,e2,e3]
theorem u5 {i:Nat} {o1:List Int} {As:Int} (W:C2 c k pos) (R:H6 c) (hx:As=(i:Int)) (H: ∀ o3,Rows c pos (i+1) o3 -> Ae (fun n=>BO c q pos pos.length lost n (.l2 (As+1) o1 o3)) (HQ c pos lost)):
 ∀ (m:Nat) (rem:KS) (o3:List (Option KS)) (FX:List Int),rem.length=m -> OY c pos i rem o3 -> Ae (fun n=>BO c q pos pos.length lost n (.l8 i As o1 o3 i rem FX)) (HQ c pos lost):=by
 intro m
 induction m with
 | zero=>
  intro rem o3 FX hm hM;have:rem= []:=zEO hm;subst this;have hs:=hM.isSome i (by have:=hM.hi;omega);have r1:AL (As+1):=by rw [hx];exact (W.r64 hM.hi).2
  refine Ae.step 1 (fun n=>?_) (H o3 hM.rows)
  show RB n (BO c q pos pos.length lost n) c q pos pos.length lost i As o1 o3 i [] FX=_
  unfold RB;rw [zAB hs,iu,zAB r1]
 | succ m ih=>
  intro rem o3 FX hm hM;have hs:=hM.isSome i (by have:=hM.hi;omega);have Ak:rem≠[]:=by intro e;rw [e] at hm;cases hm
  refine Ae.step 1 (g:=fun n=>Hh rem (if AL (As+1) then BO c q pos pos.length lost n (.l2 (As+1) o1 o3) else none) (fun y1=>BO c q pos pos.length lost n (.l5 i As 0 o1 o3 i (y1.getD 0 0) (y1.getD 1 0) (rem.erase y1) y1))) (fun n=>?_) (Ae.next Ak (fun y hy=>?_) HQ.uniq)
  ·show RB n (BO c q pos pos.length lost n) c q pos pos.length lost i As o1 o3 i rem FX=_
   unfold RB;rw [zAB hs];simp only [zAB hs]
  ·obtain ⟨t,rfl,ht⟩:=hM.sub y hy;have hS:=ht.ok;have hl:=hM.len;have hi:=hM.hi;have h1:i+1<o3.length:=by omega
   have s1:=hM.isSome (i+1) (by omega);have h2:i+1<(FC c pos i o3 t.1 t.2 false).length:=by rw [VM];exact h1
   have s2:=ZD (c:=c) (pos:=pos) (d:=t.1) (l:=t.2) (inn:=false) h1 s1;refine Ae.step 3 (fun n=>?_) (ih _ _ [t.1,t.2] (by rw [zFc hy];omega) (hM.go hy))
   show BO c q pos pos.length lost (n+2+1) (.l5 i As 0 o1 o3 i t.1 t.2 (rem.erase [t.1,t.2]) [t.1,t.2])=_
   rw [wC W R hM.hi hS h1 s1,wB W R hM.hi hS h2 s2,wA]
def Qa (c:AB) (pos:List Int) (m:Nat) (o4:KS):Prop:=∀ x,x∈o4↔∃ t:Int×Int,x= [t.1,t.2]/\ Kv c pos m t
def Mc (c:AB) (pos lost:List Int) (m:Nat) (o1:List Int):Prop:=B6 c pos lost c.cells.length (fun a s=>c.cells.length<=a+m/\ M5 c pos a s) o1/\ ∀ j,CH (o1.getD j 0)
structure Bk (c:AB) (pos:List Int) (i m:Nat) (o5:KS) (b0 b1:Bool) (rem:KS):Prop where
 hi:i+m+1=c.cells.length
 sub: ∀ x∈rem,∃ t:Int×Int,x= [t.1,t.2]/\ Fu c pos i t
 o5s: ∀ x∈o5,∃ t:Int×Int,x= [t.1,t.2]/\ Kv c pos (m+1) t
 b0s:b0=true -> ON c pos i false
 b1s:b1=true -> ON c pos i true
 cov: ∀ t,Fu c pos i t -> [t.1,t.2]∈rem∨∀ inn u,nx c t.1 t.2 inn=some u -> kd c pos i inn=true -> Kv c pos m u -> [t.1,t.2]∈o5/\ (bif inn then b1 else b0)=true
theorem Za {i m:Nat} {o4:KS} {d l:Int} {inn:Bool} (h:Qa c pos m o4):D1 c pos i o4 d l inn=true↔∃ u,nx c d l inn=some u/\ kd c pos i inn=true/\ Kv c pos m u:=by
 unfold D1;split
 ·rename_i t ht;rw [zAL,zFG,h];constructor
  ·rintro ⟨h1,u,h2,h3⟩;exact ⟨t,ht,h1,by rw [Ro h2];exact h3⟩
  ·rintro ⟨u,h1,h2,h3⟩;rw [ht] at h1;cases h1;exact ⟨h2,t,rfl,h3⟩
 ·rename_i hn;exact ⟨fun h=>(by cases h),fun ⟨u,h,_⟩=>by rw [hn] at h;cases h⟩
theorem Bk.go {i m:Nat} {o4 o5 rem:KS} {b0 b1:Bool} {t:Int×Int} (hE:Qa c pos m o4) (h:Bk c pos i m o5 b0 b1 rem) (ht: [t.1,t.2]∈rem):
 Bk c pos i m (bif D1 c pos i o4 t.1 t.2 true then CP [t.1,t.2] (bif D1 c pos i o4 t.1 t.2 false then CP [t.1,t.2] o5 else o5) else (bif D1 c pos i o4 t.1 t.2 false then CP [t.1,t.2] o5 else o5)) (b0||D1 c pos i o4 t.1 t.2 false) (b1||D1 c pos i o4 t.1 t.2 true) (rem.erase [t.1,t.2]):=by
 have hR:Fu c pos i t:=by
  obtain ⟨u,e,hu⟩:=h.sub _ ht;rw [Ro e];exact hu
 have ei:c.cells.length-1-i=m:=by have:=h.hi;omega
 have em:c.cells.length-1-m=i:=by have:=h.hi;omega
 have lB: ∀ inn,D1 c pos i o4 t.1 t.2 inn=true -> ON c pos i inn:=fun inn ho=>by
  obtain ⟨u,h1,h2,h3⟩:=(Za hE).1 ho;exact ⟨t,u,hR,h1,h2,by rw [ei];exact h3⟩
 have kZ: ∀ inn,D1 c pos i o4 t.1 t.2 inn=true -> Kv c pos (m+1) t:=fun inn ho=>by
  obtain ⟨u,h1,h2,h3⟩:=(Za hE).1 ho
  show Fu c pos (c.cells.length-1-m) t/\ ∃ u inn,nx c t.1 t.2 inn=some u/\ kd c pos (c.cells.length-1-m) inn=true/\ Kv c pos m u
  rw [em];exact ⟨hR,u,inn,h1,h2,h3⟩
 have mem: ∀ x,x∈(bif D1 c pos i o4 t.1 t.2 true then CP [t.1,t.2] (bif D1 c pos i o4 t.1 t.2 false then CP [t.1,t.2] o5 else o5) else (bif D1 c pos i o4 t.1 t.2 false then CP [t.1,t.2] o5 else o5))↔x∈o5∨(x= [t.1,t.2]/\ (D1 c pos i o4 t.1 t.2 true=true∨D1 c pos i o4 t.1 t.2 false=true)):=fun x=>by
  cases D1 c pos i o4 t.1 t.2 true <;> cases D1 c pos i o4 t.1 t.2 false <;> simp only [zAK,zAC,NS,zDs,or_false,and_false,or_true,true_or,and_true]
  ·exact Or.comm
  ·exact Or.comm
  ·exact ⟨fun h=>h.elim .inr fun h=>h.elim .inr .inl,fun h=>h.elim (fun h=>.inr (.inr h)) .inl⟩
 refine ⟨h.hi,fun x hx=>h.sub x (zFt hx),fun x hx=>?_,fun hb=>?_,fun hb=>?_,fun s hs=>?_⟩
 ·rcases (mem x).1 hx with hx | ⟨rfl,h1 | h1⟩
  ·exact h.o5s x hx
  ·exact ⟨t,rfl,kZ _ h1⟩
  ·exact ⟨t,rfl,kZ _ h1⟩
 ·rcases Bool.or_eq_true_iff.1 hb with hb | hb
  ·exact h.b0s hb
  ·exact lB _ hb
 ·rcases Bool.or_eq_true_iff.1 hb with hb | hb
  ·exact h.b1s hb
  ·exact lB _ hb
 ·by_cases e:s=t
  ·subst e;refine .inr fun inn u h1 h2 h3=>?_
   have ho:D1 c pos i o4 s.1 s.2 inn=true:=(Za hE).2 ⟨u,h1,h2,h3⟩;rw [mem];cases inn
   ·exact ⟨.inr ⟨rfl,.inr ho⟩,by rw [zAC,ho,Bool.or_true]⟩
   ·exact ⟨.inr ⟨rfl,.inl ho⟩,by rw [zAK,ho,Bool.or_true]⟩
  ·rcases h.cov s hs with h3 | h3
   ·exact .inl ((List.mem_erase_of_ne (fun e2=>e (Ro e2))).2 h3)
   ·refine .inr fun inn u h4 h5 h6=>?_
    obtain ⟨h7,h8⟩:=h3 inn u h4 h5 h6;rw [mem];refine ⟨.inl h7,?_⟩;cases inn
    ·rw [zAC] at h8 ⊢;rw [h8];rfl
    ·rw [zAK] at h8 ⊢;rw [h8];rfl
theorem Bk.end' {i m:Nat} {o5:KS} {b0 b1:Bool} (h:Bk c pos i m o5 b0 b1 []):Qa c pos (m+1) o5/\ (b0=true↔ON c pos i false)/\ (b1=true↔ON c pos i true):=by
 have ei:c.cells.length-1-i=m:=by have:=h.hi;omega
 have em:c.cells.length-1-m=i:=by have:=h.hi;omega
 refine ⟨fun x=>⟨h.o5s x,?_⟩,⟨h.b0s,?_⟩,⟨h.b1s,?_⟩⟩
 ·rintro ⟨t,rfl,h1⟩;have h1:Fu c pos (c.cells.length-1-m) t/\ ∃ u inn,nx c t.1 t.2 inn=some u/\ kd c pos (c.cells.length-1-m) inn=true/\ Kv c pos m u:=h1;rw [em] at h1;obtain ⟨h1,u,inn,h2,h3,h4⟩:=h1;rcases h.cov t h1 with h5 | h5
  ·cases h5
  ·exact (h5 inn u h2 h3 h4).1
 ·rintro ⟨s,t,h1,h2,h3,h4⟩;rw [ei] at h4;rcases h.cov s h1 with h5 | h5
  ·cases h5
  ·exact (h5 false t h2 h3 h4).2
 ·rintro ⟨s,t,h1,h2,h3,h4⟩;rw [ei] at h4;rcases h.cov s h1 with h5 | h5
  ·cases h5
  ·exact (h5 true t h2 h3 h4).2
theorem jL {cell ss:Int} (h0:0<=cell) (h1:cell<(pos.length:Int)) (hl:lost.length=pos.length) (hi: ∀ j,CH (lost.getD j 0)):
 ∃ l',(∀ n,DT n cell ss c q pos pos.length lost=some l')/\ l'.length=pos.length/\ (∀ j,CH (l'.getD j 0))/\ ∀ j s,tb (l'.getD j 0) s=(tb (lost.getD j 0) s||(decide (j=cell.toNat)&&(tb (pos.getD j 0) s&&tb ss s))):=by
 obtain ⟨l',e,h2,h3⟩:=KJ (n:=0) (ss:=ss) (c:=c) (q:=q) h0 h1 hl;exact ⟨l',fun _=>e,h2,vH e hi,h3⟩
theorem ZY {cell:Int} (h0:0<=cell) (h1:cell<(pos.length:Int)) (hl:lost.length=pos.length) (hi: ∀ j,CH (lost.getD j 0)):
 ∃ l',(∀ n,GC n cell c q pos pos.length lost=some l')/\ l'.length=pos.length/\ (∀ j,CH (l'.getD j 0))/\ ∀ j s,tb (l'.getD j 0) s=(tb (lost.getD j 0) s||(decide (j=cell.toNat)&&(tb (pos.getD j 0) s&&!tb c.set s))):=by
 obtain ⟨l',e,h2,h3⟩:=ZX (n:=0) (c:=c) (q:=q) h0 h1 hl;exact ⟨l',fun _=>e,h2,uR e hi,h3⟩
theorem Mc.go {i m:Nat} {o1 l':List Int} (h:Mc c pos lost m o1) (hi:i+m+1=c.cells.length) (hl:l'.length=pos.length) (Du: ∀ j,CH (l'.getD j 0))
 (h1: ∀ j s,tb (l'.getD j 0) s=true↔tb (o1.getD j 0) s=true∨((c.cells.getD i 0).toNat=j/\ tb (BN c pos i) s=true/\ M5 c pos i s)):Mc c pos lost (m+1) l':=by
 refine ⟨⟨hl,fun j s=>?_⟩,Du⟩;rw [h1,h.1.2];constructor
 ·rintro ((h | ⟨a,ha,h2,h3,h4,h5⟩) | h)
  ·exact .inl h
  ·exact .inr ⟨a,ha,h2,h3,by omega,h5⟩
  ·exact .inr ⟨i,by omega,h.1,h.2.1,by omega,h.2.2⟩
 ·rintro (h2 | ⟨a,ha,h2,h3,h4,h5⟩)
  ·exact .inl (.inl h2)
  ·by_cases e:c.cells.length<=a+m
   ·exact .inl (.inr ⟨a,ha,h2,h3,e,h5⟩)
   ·have:a=i:=by omega
    subst this;exact .inr ⟨h2,h3,h5⟩
theorem zC1 {i m:Nat} {o1:List Int} {o3:List (Option KS)} {o4:KS} {Ab:Int} (W:C2 c k pos) (R:H6 c) (hx:Ab=(i:Int)) (hR:Rows c pos c.cells.length o3) (hE:Qa c pos m o4) (hL:Mc c pos lost m o1)
 (H: ∀ o1 o5,Mc c pos lost (m+1) o1 -> Qa c pos (m+1) o5 -> Ae (fun n=>BO c q pos pos.length lost n (.l4 (Ab-1) o1 o3 o5)) (HQ c pos lost)):
 ∀ (z:Nat) (rem o5:KS) (b0 b1:Bool) (PE:List Int),rem.length=z -> Bk c pos i m o5 b0 b1 rem -> Ae (fun n=>BO c q pos pos.length lost n (.l9 i o1 o3 i o4 o5 b0 b1 rem PE)) (HQ c pos lost):=by
 intro z
 induction z with
 | zero=>
  intro rem o5 b0 b1 PE hm hB;have:rem= []:=zEO hm;subst this;obtain ⟨e5,e0,e1⟩:=hB.end';have hi:i<c.cells.length:=by have:=hB.hi;omega
  have hs:=hR.isSome i (by omega);have Ap:=W.len;have r1:AL ((i:Int)-1):=A0.2 ⟨by omega,by omega⟩;have hc:=W.cells i hi;have g0:(0:Int)<=(i:Int)/\ (i:Int)<((c.cells.length:Nat):Int):=⟨by omega,by omega⟩;obtain ⟨l1,f1,n1,i1,t1⟩:=jL (ss:=c.set) (c:=c) (q:=q) hc.1 hc.2 hL.1.1 hL.2;obtain ⟨l2,f2,n2,i2,t2⟩:=ZY (c:=c) (q:=q) hc.1 hc.2 n1 i1;obtain ⟨l3,f3,n3,i3,t3⟩:=ZY (c:=c) (q:=q) hc.1 hc.2 hL.1.1 hL.2
  have eq: ∀ n,BO c q pos pos.length lost (n+1) (.l9 i o1 o3 i o4 o5 b0 b1 [] PE)=BO c q pos pos.length lost n (.l4 (i-1) (bif !b1 then (bif !b0 then l2 else l1) else (bif !b0 then l3 else o1)) o3 o5):=fun n=>by
   show RA n (BO c q pos pos.length lost n) c q pos pos.length lost i o1 o3 i o4 o5 b0 b1 [] PE=_
   unfold RA;rw [zAB hs,iu];simp only [zAO];cases b1 <;> cases b0 <;> simp only [zEC,zD2,zAK,zAC,zAB g0,f1,f2,f3,zAA,zAB r1]
  refine Ae.step 1 eq ?_
  have key: ∀ l':List Int,l'.length=pos.length -> (∀ j,CH (l'.getD j 0)) -> (∀ j s,tb (l'.getD j 0) s=(tb (o1.getD j 0) s||(decide (j=(c.cells.getD i 0).toNat)&&(tb (pos.getD j 0) s&&((!b1&&tb c.set s)||(!b0&&!tb c.set s)))))) -> Mc c pos lost (m+1) l':=by
   intro l' h1 h2 h3;refine hL.go hB.hi h1 h2 fun j s=>?_
   rw [h3,zDh,zAL,zAL,zAi,zDh,zAL,zAL,zEM,zEM,zEM];unfold M5;rw [←e0,←e1,zFU,zFU];constructor
   ·rintro (h | ⟨rfl,h⟩)
    ·exact .inl h
    ·exact .inr ⟨rfl,h⟩
   ·rintro (h | ⟨rfl,h⟩)
    ·exact .inl h
    ·exact .inr ⟨rfl,h⟩
  subst hx;cases b1 <;> cases b0 <;> simp only [zEC,zD2,zAK,zAC]
  ·exact H l2 o5 (key l2 n2 i2 fun j s=>by
    rw [t2,t1];cases tb (o1.getD j 0) s <;> cases decide (j=(c.cells.getD i 0).toNat) <;> cases tb (pos.getD j 0) s <;> cases tb c.set s <;> rfl) e5
  ·exact H l1 o5 (key l1 n1 i1 fun j s=>by
    rw [t1];cases tb (o1.getD j 0) s <;> cases decide (j=(c.cells.getD i 0).toNat) <;> cases tb (pos.getD j 0) s <;> cases tb c.set s <;> rfl) e5
  ·exact H l3 o5 (key l3 n3 i3 fun j s=>by
    rw [t3];cases tb (o1.getD j 0) s <;> cases decide (j=(c.cells.getD i 0).toNat) <;> cases tb (pos.getD j 0) s <;> cases tb c.set s <;> rfl) e5
  ·exact H o1 o5 (key o1 hL.1.1 hL.2 fun j s=>by
    cases tb (o1.getD j 0) s <;> cases decide (j=(c.cells.getD i 0).toNat) <;> cases tb (pos.getD j 0) s <;> cases tb c.set s <;> rfl) e5
 | succ z ih=>
  intro rem o5 b0 b1 PE hm hB;have hi:i<c.cells.length:=by have:=hB.hi;omega
  have hs:=hR.isSome i (by omega);have Ak:rem≠[]:=by intro e;rw [e] at hm;cases hm
  refine Ae.step 1 (g:=fun n=>Hh rem none (fun y1=>BO c q pos pos.length lost n (.l7 i 0 o1 o3 i o4 o5 b0 b1 (y1.getD 0 0) (y1.getD 1 0) (rem.erase y1) y1))) (fun n=>?_) (Ae.next Ak (fun y hy=>?_) HQ.uniq)
  ·show RA n (BO c q pos pos.length lost n) c q pos pos.length lost i o1 o3 i o4 o5 b0 b1 rem PE=_
   unfold RA;rw [zAB hs];simp only [zAB hs];cases rem with
   | nil=>exact absurd rfl Ak
   | cons x r=>rfl
  ·obtain ⟨t,rfl,ht⟩:=hB.sub y hy;have hS:=ht.ok;refine Ae.step 3 (fun n=>?_) (ih _ _ _ _ [t.1,t.2] (by rw [zFc hy];omega) (hB.go hE hy))
   show BO c q pos pos.length lost (n+2+1) (.l7 i 0 o1 o3 i o4 o5 b0 b1 t.1 t.2 (rem.erase [t.1,t.2]) [t.1,t.2])=_
   rw [v7 W R hi hS,v6 W R hi hS,vz]
theorem v8 {n ln oi:Nat} {Ab:Int} {o1:List Int} {o3:List (Option KS)} {o4 o7:KS}:BO c q pos ln lost n (.l6 Ab o1 o3 oi o4 o7)=BO c q pos ln lost n (.l9 Ab o1 o3 oi o4 [] false false o7 []):=by cases n <;> rfl
theorem wD {n ln oi:Nat} {x8 As:Int} {o1:List Int} {o3:List (Option KS)} {o4:KS}:BO c q pos ln lost n (.l3 x8 As o1 o3 oi o4)=BO c q pos ln lost n (.l8 x8 As o1 o3 oi o4 []):=by cases n <;> rfl
theorem nI (W:C2 c k pos) (R:H6 c) {o3:List (Option KS)} (hR:Rows c pos c.cells.length o3):
 ∀ (i m:Nat) (Ab:Int) (o1:List Int) (o4:KS),i+m=c.cells.length -> Ab=(i:Int)-1 -> Mc c pos lost m o1 -> Qa c pos m o4 -> Ae (fun n=>BO c q pos pos.length lost n (.l4 Ab o1 o3 o4)) (HQ c pos lost):=by
 intro i
 induction i with
 | zero=>
  intro m Ab o1 o4 hm hx hL hE;refine Ev.p (r:=(true,o1)) ⟨1,fun n hn=>?_⟩ ⟨rfl,⟨hL.1.1,fun j s=>?_⟩,hL.2⟩
  ·obtain ⟨n,rfl⟩: ∃ n',n=n'+1:=⟨n-1,by omega⟩
   show RC n (BO c q pos pos.length lost n) c q pos pos.length lost Ab o1 o3 o4=_
   unfold RC;rw [zAE (by omega),zAC]
  ·rw [hL.1.2];constructor
   ·rintro (h | ⟨a,h1,h2,h3,_,h4⟩)
    ·exact .inl h
    ·exact .inr ⟨a,h1,h2,h3,h4⟩
   ·rintro (h | ⟨a,h1,h2,h3,h4⟩)
    ·exact .inl h
    ·exact .inr ⟨a,h1,h2,h3,by omega,h4⟩
 | succ i ih=>
  intro m Ab o1 o4 hm hx hL hE;have hx:Ab=(i:Int):=by omega
  subst hx;have hs:=hR.isSome i (by omega);have Ap:=hR.len;have t1:((((c.cells.length:Nat):Int)+1).toNat:Nat)=c.cells.length+1:=by omega
  have t2:0+((i:Int).toNat:Nat)=i:=by omega
  refine Ae.step 1 (g:=fun n=>BO c q pos pos.length lost n (.l9 i o1 o3 i o4 [] false false (Fi o3 i) [])) (fun n=>?_) (zC1 W R rfl hR hE hL (fun o1 o5 h1 h2=>ih (m+1) ((i:Int)-1) o1 o5 (by omega) rfl h1 h2) _ (Fi o3 i) [] false false [] rfl ⟨by omega,fun x hx=>(hR.row i (by omega) x).1 hx,fun x hx=>(by cases hx),fun h=>(by cases h),fun h=>(by cases h),fun t ht=>.inl ((hR.row i (by omega) _).2 ⟨t,rfl,ht⟩)⟩)
  show RC n (BO c q pos pos.length lost n) c q pos pos.length lost (i:Int) o1 o3 o4=_
  unfold RC;simp only [t1,t2];rw [zAT (by omega),zAK,zAB hs,zAB ⟨⟨by omega,by omega⟩,by omega,hs⟩];exact v8
theorem zA5 (W:C2 c k pos) (R:H6 c) (hl:lost.length=pos.length) (Du: ∀ j,CH (lost.getD j 0)):
 ∀ (m i:Nat) (As:Int) (o3:List (Option KS)),i+m=c.cells.length -> As=(i:Int) -> Rows c pos i o3 -> Ae (fun n=>BO c q pos pos.length lost n (.l2 As lost o3)) (HQ c pos lost):=by
 intro m
 induction m with
 | zero=>
  intro i As o3 hm hx hR;have hm:i=c.cells.length:=by omega
  subst hm hx;have Ap:=W.len;have hr:=R.1;have r1:AL ((c.cells.length:Int)-1):=A0.2 ⟨by omega,by omega⟩;have r2:AL ((c.runs.length:Int)-1):=A0.2 ⟨by omega,by omega⟩;have hL:Mc c pos lost 0 lost:=⟨⟨hl,fun j s=>⟨.inl,fun h=>h.elim id fun ⟨a,h1,_,_,h2,_⟩=>absurd h2 (by omega)⟩⟩,Du⟩
  by_cases h0:0<c.runs.length
  ·have t1:(((c.runs.length:Nat):Int)-1).toNat=c.runs.length-1:=by omega
   refine Ae.step 1 (g:=fun n=>BO c q pos pos.length lost n (.l4 ((c.cells.length:Int)-1) lost o3 (CP [((c.runs.length:Int)-1),c.runs.getD (c.runs.length-1) 0] (CP [(c.runs.length:Int),0] ([]:KS))))) (fun n=>?_) (nI W R hR c.cells.length 0 _ _ _ (by omega) rfl hL fun x=>?_)
   ·show M3 n (BO c q pos pos.length lost n) c q pos pos.length lost (c.cells.length:Int) lost o3=_
    unfold M3;rw [zAE (by omega),zAC,zAT (by omega),zAK,zAB ⟨r2,⟨by omega,by omega⟩,r1⟩,t1]
   ·rw [NS,NS];constructor
    ·rintro (rfl | rfl | h)
     ·exact ⟨((c.runs.length:Int)-1,c.runs.getD (c.runs.length-1) 0),rfl,.inr ⟨h0,rfl⟩⟩
     ·exact ⟨((c.runs.length:Int),0),rfl,.inl rfl⟩
     ·cases h
    ·rintro ⟨t,rfl,rfl | ⟨_,rfl⟩⟩
     ·exact .inr (.inl rfl)
     ·exact .inl rfl
  ·have h0':c.runs.length=0:=by omega
   refine Ae.step 1 (g:=fun n=>BO c q pos pos.length lost n (.l4 ((c.cells.length:Int)-1) lost o3 (CP [(c.runs.length:Int),0] ([]:KS)))) (fun n=>?_) (nI W R hR c.cells.length 0 _ _ _ (by omega) rfl hL fun x=>?_)
   ·show M3 n (BO c q pos pos.length lost n) c q pos pos.length lost (c.cells.length:Int) lost o3=_
    unfold M3;rw [zAE (by omega),zAC,zAE (by omega),zAC,zAB r1]
   ·rw [NS];constructor
    ·rintro (rfl | h)
     ·exact ⟨((c.runs.length:Int),0),rfl,.inl rfl⟩
     ·cases h
    ·rintro ⟨t,rfl,rfl | ⟨h,rfl⟩⟩
     ·exact .inl rfl
     ·exact absurd h h0
 | succ m ih=>
  intro i As o3 hm hx hR;subst hx;have hi:i<c.cells.length:=by omega
  have hs:=hR.isSome i (by omega);have Ap:=hR.len;have t1:((((c.cells.length:Nat):Int)+1).toNat:Nat)=c.cells.length+1:=by omega
  have t2:0+((i:Int).toNat:Nat)=i:=by omega
  refine Ae.step 1 (g:=fun n=>BO c q pos pos.length lost n (.l8 i i lost o3 i (Fi o3 i) [])) (fun n=>?_) (u5 W R rfl (fun o3 h=>ih (i+1) _ o3 (by omega) (by omega) h) _ _ _ _ rfl (hR.mid hi))
  show M3 n (BO c q pos pos.length lost n) c q pos pos.length lost (i:Int) lost o3=_
  unfold M3;simp only [t1,t2];rw [zAT (by omega),zAK,zAB hs,zAB ⟨⟨by omega,by omega⟩,by omega,hs⟩];exact wD
theorem zBO (W:C2 c k pos) (R:H6 c) (hl:lost.length=pos.length) (Du: ∀ j,CH (lost.getD j 0)):
 ∀ (m j:Nat) (E5:Int) (o3:List (Option KS)),j+m=c.cells.length+1 -> E5=(j:Int) -> o3.length=c.cells.length+1 -> (∀ i,i<j -> o3.getD i none=some []) -> Ae (fun n=>BO c q pos pos.length lost n (.l1 E5 o3)) (HQ c pos lost):=by
 intro m
 induction m with
 | zero=>
  intro j E5 o3 hm hx Ap ho;subst hx;have t1:((((c.cells.length:Nat):Int)+1).toNat:Nat)=c.cells.length+1:=by omega
  have hs:(o3.getD 0 none).isSome=true:=by rw [ho 0 (by omega)];rfl
  have e0:(o3.getD 0 none).getD []= []:=by rw [ho 0 (by omega)];rfl
  have hg: ∀ i,i≠0 -> (o3.set 0 (some (CP [0,0] ([]:KS)))).getD i none=o3.getD i none:=fun i hi=>bY (fun e=>hi e.symm)
  have Wf:(o3.set 0 (some (CP [0,0] ([]:KS)))).getD 0 none=some (CP [0,0] []):=Wu (by omega);refine Ae.step 1 (g:=fun n=>BO c q pos pos.length lost n (.l2 0 lost (o3.set 0 (some (CP [0,0] ([]:KS)))))) (fun n=>?_) (zA5 W R hl Du c.cells.length 0 0 _ (by omega) rfl ⟨by rw [zAl];exact Ap,fun i hi=>?_,fun i hi x=>?_,fun i hi Eh=>?_⟩)
  ·show RD n (BO c q pos pos.length lost n) c q pos pos.length lost (j:Int) o3=_
   unfold RD;simp only [t1,zAj];rw [zAE (by omega),zAC,zAB ⟨⟨by omega,by omega⟩,by omega,hs⟩,e0]
  ·by_cases e:i=0
   ·subst e;rw [Wf];rfl
   ·rw [hg i e,ho i (by omega)];rfl
  ·obtain rfl:i=0:=by omega
   show x∈((o3.set 0 (some (CP [0,0] ([]:KS)))).getD 0 none).getD []↔_
   rw [Wf]
   show x∈CP [0,0] []↔_
   rw [NS];constructor
   ·rintro (rfl | h)
    ·exact ⟨(0,0),rfl,rfl⟩
    ·cases h
   ·rintro ⟨t,rfl,h⟩;have h:t=(0,0):=h;subst h;exact .inl rfl
  ·show ((o3.set 0 (some (CP [0,0] ([]:KS)))).getD i none).getD []= []
   rw [hg i (by omega),ho i (by omega)];rfl
 | succ m ih=>
  intro j E5 o3 hm hx Ap ho;subst hx;have zk:=W.len;have t1:((((c.cells.length:Nat):Int)+1).toNat:Nat)=c.cells.length+1:=by omega
  have t2:0+((j:Int).toNat:Nat)=j:=by omega
  refine Ae.step 1 (g:=fun n=>BO c q pos pos.length lost n (.l1 ((j:Int)+1) (o3.set j (some ([]:KS))))) (fun n=>?_) (ih (j+1) _ _ (by omega) (by omega) (by rw [zAl];exact Ap) fun i hi=>?_)
  ·show RD n (BO c q pos pos.length lost n) c q pos pos.length lost (j:Int) o3=_
   unfold RD;simp only [t1,t2];rw [zAT (by omega),zAK,zAB ⟨⟨by omega,by omega⟩,by omega,A0.2 ⟨by omega,by omega⟩⟩]
  ·by_cases e:i=j
   ·subst e;exact Wu (by omega)
   ·rw [bY (fun h=>e h.symm)];exact ho i (by omega)
def LL (c:AB):Bool:=(c.cells.length != 0)||(c.runs.length==0)
theorem re (W:C2 c k pos) (R:H6 c) (hl:lost.length=pos.length) (Du: ∀ j,CH (lost.getD j 0)):
 ∃ l,Ev (fun n=>Ox n c q pos pos.length lost) (LL c,l)/\ (LL c=true -> B6 c pos lost c.cells.length (M5 c pos) l):=by
 by_cases h0:c.cells.length=0
 ·have e1:LL c=((c.runs.length:Int)==0):=by
   unfold LL;rw [h0];cases h:c.runs.length with
   | zero=>rfl
   | succ m=>rfl
  refine ⟨lost,Ev.now fun n=>?_,fun _=>by rw [h0];exact B6.zero hl⟩;unfold Ox Yp;rw [h0,e1];rfl
 ·have e1:LL c=true:=by
   unfold LL;cases h:c.cells.length with
   | zero=>exact absurd h h0
   | succ m=>rfl
  have Ap:=W.len;have t1:((((c.cells.length:Nat):Int)+1).toNat:Nat)=c.cells.length+1:=by omega
  obtain ⟨r,h1,h2⟩:=(zBO (q:=q) W R hl Du (c.cells.length+1) 0 0 (List.replicate (c.cells.length+1) none) (by omega) rfl (by simp) (fun i hi=>absurd hi (zAf i))).ev HQ.uniq;obtain ⟨b,l⟩:=r;obtain ⟨h3,h4,h5⟩:=h1;have h3:b=true:=h3;subst h3;refine ⟨l,?_,fun _=>h4⟩;rw [e1];refine h2.eq fun n=>?_
  unfold Ox Yp;rw [t1]
  have e2:(((c.cells.length:Nat):Int)==0)=false:=by
   rw [zDr];omega
  rw [e2,zAC,zAB ⟨A0.2 ⟨by omega,by omega⟩,rfl,by omega,by omega⟩]
end
end Go.Proofs.YtkjbblkieglmlaaGreatDoor
namespace Go.Proofs.YtkjbblkieglmlaaGreatDoor
abbrev zEd:=@List.take_succ_eq_append_getElem
end Go.Proofs.YtkjbblkieglmlaaGreatDoor
namespace Go.Proofs.YtkjbblkieglmlaaGreatDoor
open Go.RowKit
section
variable {c:AB} {k:Nat} {pos lost:List Int} {q:AA}
structure HO (c:AB) (q:AA) (pos:List Int):Prop where
 len:c.cells.length=pos.length
 id: ∀ j,j<pos.length -> c.cells.getD j 0=(j:Int)
 g:H8 q.nbrs
 gl:q.nbrs.length=pos.length
 l0:0<pos.length
 l1:pos.length<=256
 nz: ∀ j,j<pos.length -> CH (pos.getD j 0)/\ pos.getD j 0≠0
def pB (c:AB) (pos:List Int):List Bool:=pos.map fun x=>bits .and .i64 x c.set != 0
def cB (c:AB) (pos:List Int):List Bool:=pos.map fun x=>bits .andNot .i64 x c.set==0
theorem GB:(pB c pos).length=pos.length:=zAn _
theorem Gq:(cB c pos).length=pos.length:=zAn _
theorem ij {j:Nat} (hj:j<pos.length):(pB c pos).getD j false=(bits .and .i64 (pos.getD j 0) c.set != 0):=by
 unfold pB;rw [u8,zA1,zAQ hj,u8,zAQ hj];rfl
theorem m4 {j:Nat} (hj:j<pos.length):(cB c pos).getD j false=(bits .andNot .i64 (pos.getD j 0) c.set==0):=by
 unfold cB;rw [u8,zA1,zAQ hj,u8,zAQ hj];rfl
theorem HO.cp (W:HO c q pos) {j:Nat} (hj:j<pos.length) (h:(cB c pos).getD j false=true):(pB c pos).getD j false=true:=by
 rw [m4 hj,zDw] at h;rw [ij hj,zE3];obtain ⟨h1,h2⟩:=W.nz j hj;obtain ⟨s,hs,hb⟩:=(Qh h1).1 h2;have h3:=(Ua (Ko .andNot _ _)).1 h s hs;rw [Ub,hb,zD5,Bool.not_eq_false'] at h3;exact (Qh (Ko .and _ _)).2 ⟨s,hs,by rw [Ol,hb,h3];rfl⟩
def CV (pos lost:List Int) (D:Nat -> Nat -> Prop) (l:List Int):Prop:=
 (l.length=pos.length/\ ∀ j,CH (l.getD j 0))/\ ∀ j s,tb (l.getD j 0) s=true↔tb (lost.getD j 0) s=true∨(j<pos.length/\ tb (pos.getD j 0) s=true/\ D j s)
theorem CV.unique {D:Nat -> Nat -> Prop} {l l':List Int} (h:CV pos lost D l) (h':CV pos lost D l'):l=l':=by
 have e:l.length=l'.length:=h.1.1.trans h'.1.1.symm;refine zFT e fun j h1 h2=>?_
 have e1:l.getD j 0=l[j]:=by simp [h1]
 have e2:l'.getD j 0=l'[j]:=by simp [h2]
 rw [←e1,←e2];refine Qi (h.1.2 j) (h'.1.2 j) fun s _=>?_
 rw [zEe,h.2,h'.2]
theorem CV.by {D:Nat -> Nat -> Prop} {l:List Int} (W:HO c q pos) (h:CV pos lost D l):B6 c pos lost c.cells.length D l:=by
 refine ⟨h.1.1,fun j s=>?_⟩;have hl:=W.len;rw [h.2];constructor
 ·rintro (h1 | ⟨h1,h2,h3⟩)
  ·exact .inl h1
  ·have e:=W.id j h1;exact .inr ⟨j,by omega,by rw [e];omega,by show tb (pos.getD (c.cells.getD j 0).toNat 0) s=true;rw [e,zAO];exact h2,h3⟩
 ·rintro (h1 | ⟨a,h1,h2,h3,h4⟩)
  ·exact .inl h1
  ·have e:=W.id a (by omega);have h3:tb (pos.getD (c.cells.getD a 0).toNat 0) s=true:=h3;rw [e,zAO] at h2 h3;subst h2;exact .inr ⟨by omega,h3,h4⟩
theorem CV.step {D D':Nat -> Nat -> Prop} {l l':List Int} (h:CV pos lost D l) (hl:l'.length=pos.length) (Du: ∀ j,CH (l'.getD j 0)) {E:Nat -> Nat -> Prop} (h1: ∀ j s,tb (l'.getD j 0) s=true↔tb (l.getD j 0) s=true∨(j<pos.length/\ tb (pos.getD j 0) s=true/\ E j s))
 (hD: ∀ j s,j<pos.length -> tb (pos.getD j 0) s=true -> (D' j s↔D j s∨E j s)):CV pos lost D' l':=by
 refine ⟨⟨hl,Du⟩,fun j s=>?_⟩;rw [h1,h.2];constructor
 ·rintro ((h2 | ⟨h2,h3,h4⟩) | ⟨h2,h3,h4⟩)
  ·exact .inl h2
  ·exact .inr ⟨h2,h3,(hD j s h2 h3).2 (.inl h4)⟩
  ·exact .inr ⟨h2,h3,(hD j s h2 h3).2 (.inr h4)⟩
 ·rintro (h2 | ⟨h2,h3,h4⟩)
  ·exact .inl (.inl h2)
  ·rcases (hD j s h2 h3).1 h4 with h5 | h5
   ·exact .inl (.inr ⟨h2,h3,h5⟩)
   ·exact .inr ⟨h2,h3,h5⟩
theorem CV.id' {D D':Nat -> Nat -> Prop} {l:List Int} (h:CV pos lost D l) (hD: ∀ j s,j<pos.length -> tb (pos.getD j 0) s=true -> (D' j s↔D j s)):CV pos lost D' l:=
 h.step (E:=fun _ _=>False) h.1.1 h.1.2 (fun j s=>by simp) fun j s h1 h2=>by rw [hD j s h1 h2,or_false]
theorem CV.lose {D D':Nat -> Nat -> Prop} {l:List Int} (h:CV pos lost D l) {cell ss:Int} (h0:0<=cell) (h1:cell<(pos.length:Int)) (hD: ∀ j s,j<pos.length -> tb (pos.getD j 0) s=true -> (D' j s↔D j s∨((j:Int)=cell/\ tb ss s=true))):
 ∃ l',(∀ n,DT n cell ss c q pos pos.length l=some l')/\ CV pos lost D' l':=by
 obtain ⟨l',e,h2,h3,h4⟩:=jL (ss:=ss) (c:=c) (q:=q) h0 h1 h.1.1 h.1.2;refine ⟨l',e,h.step h2 h3 (E:=fun j s=>(j:Int)=cell/\ tb ss s=true) (fun j s=>?_) hD⟩;rw [h4,zDh,zAL,zAL,zAi];constructor
 ·rintro (h5 | ⟨rfl,h5,h6⟩)
  ·exact .inl h5
  ·exact .inr ⟨by omega,h5,by omega,h6⟩
 ·rintro (h5 | ⟨h5,h6,h7,h8⟩)
  ·exact .inl h5
  ·exact .inr ⟨by omega,h6,h8⟩
theorem CV.only {D D':Nat -> Nat -> Prop} {l:List Int} (h:CV pos lost D l) {cell:Int} (h0:0<=cell) (h1:cell<(pos.length:Int)) (hD: ∀ j s,j<pos.length -> tb (pos.getD j 0) s=true -> (D' j s↔D j s∨((j:Int)=cell/\ tb c.set s=false))):
 ∃ l',(∀ n,GC n cell c q pos pos.length l=some l')/\ CV pos lost D' l':=by
 obtain ⟨l',e,h2,h3,h4⟩:=ZY (c:=c) (q:=q) h0 h1 h.1.1 h.1.2;refine ⟨l',e,h.step h2 h3 (E:=fun j s=>(j:Int)=cell/\ tb c.set s=false) (fun j s=>?_) hD⟩;rw [h4,zDh,zAL,zAL,zAi,zEM];constructor
 ·rintro (h5 | ⟨rfl,h5,h6⟩)
  ·exact .inl h5
  ·exact .inr ⟨by omega,h5,by omega,h6⟩
 ·rintro (h5 | ⟨h5,h6,h7,h8⟩)
  ·exact .inl h5
  ·exact .inr ⟨by omega,h6,h8⟩
def Kw (l:List Bool) (r:Int):Prop:=(r= -1/\ ∀ j,j<l.length -> l.getD j false=false)∨(0<=r/\ r<(l.length:Int)/\ l.getD r.toNat false=true/\ ∀ j:Nat,(j:Int)<r -> l.getD j false=false)
theorem aI {l:List Bool} (hl:l.length<=256): ∃ r,Ev (fun n=>WK n l true) r/\ Kw l r:=by
 have key: ∀ (k i:Nat),i+k=l.length -> (∀ j,j<i -> l.getD j false=false) -> ∃ r,Ev (fun n=>KQ l true n (.l1 (i:Int))) r/\ Kw l r:=by
  intro k
  induction k with
  | zero=>
   intro i e h;refine ⟨-1,⟨1,fun n hn=>?_⟩,.inl ⟨rfl,fun j hj=>h j (by omega)⟩⟩;obtain ⟨n,rfl⟩: ∃ k,n=k+1:=⟨n-1,by omega⟩
   show Sc n (KQ l true n) l true (i:Int)=_
   unfold Sc;rw [zAE (by omega),zAC]
  | succ k ih=>
   intro i e h
   have U: ∀ n,KQ l true (n+1) (.l1 (i:Int))=bif l.getD i false then some (i:Int) else KQ l true n (.l1 ((i:Int)+1)):=fun n=>by
    show Sc n (KQ l true n) l true (i:Int)=_
    unfold Sc;rw [zAT (by omega),zAK,zAB ⟨by omega,by omega⟩,zAO,zAB (A0.2 ⟨by omega,by omega⟩)];cases l.getD i false <;> rfl
   cases hi:l.getD i false
   ·obtain ⟨r,h1,h2⟩:=ih (i+1) (by omega) fun j hj=>by
     rcases zAa.1 hj with hj | rfl
     ·exact h j hj
     ·exact hi
    refine ⟨r,Ev.step 1 (fun n=>?_) h1,h2⟩;rw [U,hi,zAC];rfl
   ·refine ⟨(i:Int),⟨1,fun n hn=>?_⟩,.inr ⟨by omega,by omega,by rw [zAO];exact hi,fun j hj=>h j (by omega)⟩⟩;obtain ⟨n,rfl⟩: ∃ k,n=k+1:=⟨n-1,by omega⟩
    show KQ l true (n+1) (.l1 (i:Int))=_
    rw [U,hi,zAK]
 exact key l.length 0 (by omega) fun j hj=>absurd hj (zAf j)
theorem mF {l l':List Bool} (h:l.length=l'.length) (h2: ∀ j,j<l.length -> l.getD j false=l'.getD j false):l=l':=by
 refine zFT h fun j h3 h4=>?_
 have:=h2 j h3
 rwa [u8,zAQ h3,u8,zAQ h4] at this
theorem cZ {l:List Bool} {i j:Nat} {b:Bool} (hi:i<l.length):(l.set i b).getD j false=if j=i then b else l.getD j false:=by
 by_cases e:j=i
 ·subst e;rw [zAB rfl,u8,zEH hi];rfl
 ·rw [zAZ e,u8,zEB (fun h=>e h.symm),←u8]
def Id (c:AB) (q:AA) (pos:List Int) (a s:Nat):Prop:=(pB c pos).getD a false=true/\ tb c.set s=true/\ ∃ r:Int,0<=r/\ Kw (cB c pos) r/\ ¬ Rc q.nbrs (pB c pos) r a
theorem Kw.uniq {l:List Bool} {r r':Int} (h:Kw l r) (h':Kw l r'):r=r':=by
 rcases h with ⟨rfl,h⟩ | ⟨h0,h1,h2,h3⟩ <;> rcases h' with ⟨rfl,h'⟩ | ⟨h0',Ki,L5,bU⟩
 ·rfl
 ·rw [h r'.toNat (by omega)] at L5;cases L5
 ·rw [h' r.toNat (by omega)] at h2;cases h2
 ·rcases Int.lt_trichotomy r r' with h4 | h4 | h4
  ·rw [bU r.toNat (by omega)] at h2;cases h2
  ·exact h4
  ·rw [h3 r'.toNat (by omega)] at L5;cases L5
theorem db (G:H8 q.nbrs) (hB:(pB c pos).length=q.nbrs.length) {r:Int} (Et:0<=r) (hF:Kw (cB c pos) r) {j s:Nat}:Id c q pos j s↔(pB c pos).getD j false=true/\ tb c.set s=true/\ ¬ Rc q.nbrs (pB c pos) r j:=by
 constructor
 ·rintro ⟨h1,h2,r',_,hF',h3⟩;rw [hF.uniq hF'];exact ⟨h1,h2,h3⟩
 ·rintro ⟨h1,h2,h3⟩;exact ⟨h1,h2,r,Et,hF,h3⟩
def QX (c:AB) (q:AA) (pos lost:List Int) (r:Int) (x:List Bool×List Bool×Bool×List Int):Prop:=x.1=pB c pos/\ x.2.1=cB c pos/\ x.2.2.1=decide (0<=r)/\ CV pos lost (Id c q pos) x.2.2.2
theorem QX.uniq {r:Int} (x y:List Bool×List Bool×Bool×List Int) (h:QX c q pos lost r x) (h':QX c q pos lost r y):x=y:=by
 obtain ⟨x1,x2,x3,x4⟩:=x;obtain ⟨y1,y2,y3,y4⟩:=y;obtain ⟨h1,h2,h3,h4⟩:=h;obtain ⟨Ki,L5,bU,Wp⟩:=h';have e4:x4=y4:=h4.unique Wp;have e1:x1=y1:=Eq.trans h1 Ki.symm;have e2:x2=y2:=Eq.trans h2 L5.symm;have e3:x3=y3:=Eq.trans h3 bU.symm;rw [e1,e2,e3,e4]
theorem ui {n:Nat} (W:HO c q pos) (hL:CV pos lost (fun _ _=>False) lost) {r:Int} (Et:0<=r) (hF:Kw (cB c pos) r) {near:List Int} (hn:near.length<=256) (Sq: ∀ v,v∈near↔Rc q.nbrs (pB c pos) r v) (kq:600<=n):
 ∃ x,Ef c q pos pos.length lost n (.l2 (pB c pos) (pB c pos).length near (near.length:Int) 0 (cB c pos) (pB c pos))=some x/\ QX c q pos lost r x:=by
 have Fb:=W.l1;have Gh:=W.gl
 have JI:r<(q.nbrs.length:Int):=by
  rcases hF with ⟨h,_⟩ | ⟨_,h,_⟩
  ·omega
  ·rw [Gq] at h;omega
 have Pb: ∀ v∈near,0<=v/\ v<(pos.length:Int):=fun v hv=>by
  have:=((Sq v).1 hv).rng W.g.gr Et JI;omega
 have S:=HE (fun n (Fc:List Bool) i=>Ef c q pos pos.length lost n (.l2 (pB c pos) (pB c pos).length near (near.length:Int) i (cB c pos) Fc)) near.length (pos.length+3)
  (fun i Fc=>Fc.length=pos.length/\ ∀ j:Nat,Fc.getD j false=true↔(pB c pos).getD j false=true/\ (j:Int)∉near.take i) (fun n i Fc Gf hi hI=>?_) (n:=n) (s:=pB c pos) (by omega) ⟨GB,fun j=>by simp⟩
 ·obtain ⟨n1,Fc,GK,_,e1,hfl,kw⟩:=S;obtain ⟨n2,rfl⟩: ∃ n2,n1=n2+1:=⟨n1-1,by omega⟩;rw [List.take_length] at kw
  have T:=HE (fun n (o1:List Int) i=>Ef c q pos pos.length lost n (.l3 (pB c pos) (pB c pos).length ((pB c pos).length:Int) i o1 (cB c pos) Fc)) pos.length 1
   (fun i o1=>CV pos lost (fun j s=>j<i/\ Id c q pos j s) o1) (fun n i o1 Gf hi hI=>?_) (n:=n2) (s:=lost) (by omega) (hL.id' fun j s _ _=>⟨fun h=>absurd h.1 (zAf j),fun h=>h.elim⟩)
  ·obtain ⟨n3,o1,Ls,_,e2,Kg⟩:=T;obtain ⟨n4,rfl⟩: ∃ n4,n3=n4+1:=⟨n3-1,by omega⟩;refine ⟨(pB c pos,cB c pos,true,o1),?_,rfl,rfl,(zAT Et).symm,Kg.id' fun j s hj _=>⟨fun h=>⟨hj,h⟩,fun h=>h.2⟩⟩;refine Eq.trans e1 ?_
   show SB n2 (Ef c q pos pos.length lost n2) c q pos pos.length lost (pB c pos) (pB c pos).length near (near.length:Int) (near.length:Int) (cB c pos) Fc=_
   unfold SB;rw [zAE (by omega),zAC];refine Eq.trans e2 ?_
   show Rz n4 (Ef c q pos pos.length lost n4) c q pos pos.length lost (pB c pos) (pB c pos).length ((pB c pos).length:Int) (pos.length:Int) o1 (cB c pos) Fc=_
   unfold Rz;rw [GB,zAE (by omega),zAC,zAB Gq.symm]
  ·show ∃ s',Rz n (Ef c q pos pos.length lost n) c q pos pos.length lost (pB c pos) (pB c pos).length ((pB c pos).length:Int) (i:Int) o1 (cB c pos) Fc=_/\ _
   unfold Rz;simp only [zAO,zAj];have r1:AL ((i:Int)+1):=A0.2 ⟨by omega,by omega⟩;rw [GB,zAT (by omega),zAK,zAB ⟨⟨by omega,by omega⟩,by omega⟩];have kv:Fc.getD i false=true↔(pB c pos).getD i false=true/\ ¬ Rc q.nbrs (pB c pos) r i:=by rw [kw,Sq]
   cases hf:Fc.getD i false
   ·rw [zAC,zAB r1];refine ⟨o1,rfl,hI.id' fun j s hj _=>⟨fun h=>⟨?_,h.2⟩,fun h=>⟨by omega,h.2⟩⟩⟩;rcases zAa.1 h.1 with h1 | rfl
    ·exact h1
    ·have h2:=(db W.g (by rw [GB];exact Gh.symm) Et hF).1 h.2;have:=kv.2 ⟨h2.1,h2.2.2⟩;rw [hf] at this;cases this
   ·obtain ⟨l',e,h2⟩:=hI.lose (c:=c) (q:=q) (D':=fun j s=>j<i+1/\ Id c q pos j s) (cell:=(i:Int)) (ss:=c.set) (by omega) (by omega) fun j s hj _=>by
     constructor
     ·rintro ⟨h1,h2⟩;rcases zAa.1 h1 with h1 | rfl
      ·exact .inl ⟨h1,h2⟩
      ·exact .inr ⟨rfl,h2.2.1⟩
     ·rintro (⟨h1,h2⟩ | ⟨h1,h2⟩)
      ·exact ⟨by omega,h2⟩
      ·obtain rfl:j=i:=by omega
       have h3:=kv.1 hf;exact ⟨by omega,(db W.g (by rw [GB];exact Gh.symm) Et hF).2 ⟨h3.1,h2,h3.2⟩⟩
    rw [zAK,e,zAA,zAB r1];exact ⟨l',rfl,h2⟩
 ·obtain ⟨hl,hf⟩:=hI;have hx:near.getD i 0∈near:=by rw [u8,zAQ hi];exact zDi hi
  have Hq:=Pb _ hx
  show ∃ s',SB n (Ef c q pos pos.length lost n) c q pos pos.length lost (pB c pos) (pB c pos).length near (near.length:Int) (i:Int) (cB c pos) Fc=_/\ _
  unfold SB;simp only [zAO,zAj];rw [GB,zAT (by omega),zAK,zAB ⟨⟨by omega,by omega⟩,Hq,by omega,A0.2 ⟨by omega,by omega⟩⟩];refine ⟨_,rfl,by rw [zAl];exact hl,fun j=>?_⟩
  have e3:near.take (i+1)=near.take i++[near.getD i 0]:=by
   rw [zEd hi,u8,zAQ hi];rfl
  rw [cZ (by omega),e3,zEA,zAp]
  by_cases e:j=(near.getD i 0).toNat
  ·rw [zAB e];exact ⟨fun h=>(by cases h),fun h=>absurd (Or.inr (by omega)) h.2⟩
  ·rw [zAZ e,hf];exact ⟨fun h=>⟨h.1,fun h2=>h2.elim h.2 fun h3=>e (by omega)⟩,fun h=>⟨h.1,fun h2=>h.2 (.inl h2)⟩⟩
theorem ix (W:HO c q pos) (hL:CV pos lost (fun _ _=>False) lost) {r:Int} (hF:Kw (cB c pos) r):
 ∃ l,Ev (fun n=>NQ n c q pos pos.length lost) (pB c pos,cB c pos,decide (0<=r),l)/\ CV pos lost (Id c q pos) l:=by
 have Fb:=W.l1;have Gh:=W.gl;have Ap:=W.len;have L:(1000000000000:Nat)=BB:=rfl
 suffices H:Ae (fun n=>NQ n c q pos pos.length lost) (QX c q pos lost r) by
  obtain ⟨x,h1,h2⟩:=H.ev QX.uniq;obtain ⟨x1,x2,x3,x4⟩:=x;obtain ⟨h3,h4,h5,h6⟩:=h1;have h3:x1=pB c pos:=h3;have h4:x2=cB c pos:=h4;have h5:x3=decide (0<=r):=h5;subst h3 h4 h5;exact ⟨x4,h2,h6⟩
 have first: ∀ n,Ef c q pos pos.length lost (n+c.cells.length) (.l1 0 (List.replicate pos.length false) (List.replicate pos.length false))=Ef c q pos pos.length lost n (.l1 (c.cells.length:Int) (pB c pos) (cB c pos)):=fun n=>by
  have z: ∀ j:Nat,(List.replicate pos.length false).getD j false=false:=fun j=>by
   rw [u8,zD7];split <;> rfl
  obtain ⟨s',e,h1,h2,h3,h4⟩:=Vt (fun n (s:List Bool×List Bool) i=>Ef c q pos pos.length lost n (.l1 i s.1 s.2)) c.cells.length 0
   (fun i s=>s.1.length=pos.length/\ s.2.length=pos.length/\ (∀ j,s.1.getD j false=if j<i then (pB c pos).getD j false else false)/\ (∀ j,s.2.getD j false=if j<i then (cB c pos).getD j false else false))
   (fun n i s _ hi hI=>by
    obtain ⟨o2,o3⟩:=s;obtain ⟨h1,h2,h3,h4⟩:=hI;have h1:o2.length=pos.length:=h1;have h2:o3.length=pos.length:=h2;have hid:=W.id i (by omega)
    show ∃ s',SC n (Ef c q pos pos.length lost n) c q pos pos.length lost (i:Int) o2 o3=_/\ _
    unfold SC;simp only [zAO,zAj,hid];rw [zAT (by omega),zAK,zAB ⟨⟨by omega,by omega⟩,⟨by omega,by omega⟩,by omega,by omega,A0.2 ⟨by omega,by omega⟩⟩];refine ⟨(_,_),rfl,by rw [zAl];exact h1,by rw [zAl];exact h2,fun j=>?_,fun j=>?_⟩
    ·show (o2.set i _).getD j false=_
     rw [cZ (by omega)]
     by_cases e:j=i
     ·subst e;rw [zAB rfl,zAB (by omega),ij (by omega)]
     ·have h3:o2.getD j false=_:=h3 j;rw [zAZ e,h3]
      by_cases e2:j<i
      ·rw [zAB e2,zAB (by omega)]
      ·rw [zAZ e2,zAZ (by omega)]
    ·show (o3.set i _).getD j false=_
     rw [cZ (by omega)]
     by_cases e:j=i
     ·subst e;rw [zAB rfl,zAB (by omega),m4 (by omega)]
     ·have h4:o3.getD j false=_:=h4 j;rw [zAZ e,h4]
      by_cases e2:j<i
      ·rw [zAB e2,zAB (by omega)]
      ·rw [zAZ e2,zAZ (by omega)])
   c.cells.length 0 n (List.replicate pos.length false,List.replicate pos.length false) (by omega) (by omega) ⟨zAe,zAe,fun j=>by rw [zAZ (by omega)];exact z j,fun j=>by rw [zAZ (by omega)];exact z j⟩
  obtain ⟨o2,o3⟩:=s';have h1:o2.length=pos.length:=h1;have h2:o3.length=pos.length:=h2
  have e2:o2=pB c pos:=mF (by rw [h1,GB]) fun j hj=>by
   have h3:o2.getD j false=_:=h3 j;rw [h3,zAB (by omega)]
  have e3:o3=cB c pos:=mF (by rw [h2,Gq]) fun j hj=>by
   have h4:o3.getD j false=_:=h4 j;rw [h4,zAB (by omega)]
  rw [←e2,←e3];exact e
 have start: ∀ n,NQ n c q pos pos.length lost=Ef c q pos pos.length lost n (.l1 0 (List.replicate pos.length false) (List.replicate pos.length false)):=fun n=>by
  unfold NQ iz;rw [zAB ⟨rfl,by omega,by omega⟩]
 refine Ae.eq (Ae.step (c.cells.length+1) (g:=fun n=>(WK n (cB c pos) true).bind fun y1=>bif (decide (y1<0)) then (if pos.length=(pB c pos).length then some (pB c pos,cB c pos,false,lost) else none) else (if pos.length=(pB c pos).length then (OL n (pB c pos)).bind fun y2=>(QJ n q.nbrs (pB c pos) y1).bind fun y3=>Ef c q pos pos.length lost n (.l2 (pB c pos) y2.length y3.1 (y3.1.length:Int) 0 (cB c pos) y2) else none)) (fun n=>?_) ?_) start
 ·rw [show n+(c.cells.length+1)=n+1+c.cells.length by omega,first]
  show SC n (Ef c q pos pos.length lost n) c q pos pos.length lost (c.cells.length:Int) (pB c pos) (cB c pos)=_
  unfold SC;rw [zAE (by omega),zAC,zAB Gq.symm]
 ·obtain ⟨r',h1,h2⟩:=aI (l:=cB c pos) (by rw [Gq];exact Fb);obtain rfl:=hF.uniq h2;refine Ae.bind h1 ?_
  by_cases Et:0<=r
  ·have A4: ∀ n,OL n (pB c pos)=some (pB c pos):=fun n=>by
    have h0:=W.l0;have h3:=GB (c:=c) (pos:=pos);unfold OL cS;rw [zAB ⟨by omega,trivial,⟨rfl,rfl⟩,by rw [←L];simp only [zD9];omega⟩,zAB (by simp)];rfl
   obtain ⟨JI,xp⟩:r<(pos.length:Int)/\ (cB c pos).getD r.toNat false=true:=by
    rcases hF with ⟨h,_⟩ | ⟨_,h,h',_⟩
    ·omega
    ·rw [Gq] at h;exact ⟨h,h'⟩
   have xu:=W.cp (by omega) xp;refine Ae.eq (Ae.bindU (zCb W.g (by rw [GB];exact Gh.symm) Et (by omega) xu) (b:=fun n y3=>Ef c q pos pos.length lost n (.l2 (pB c pos) (pB c pos).length y3.1 (y3.1.length:Int) 0 (cB c pos) (pB c pos))) ⟨600,fun n hn x hx=>ui W hL Et hF hx.2.1 hx.2.2 hn⟩) fun n=>?_
   rw [zAE (by omega),zAC,zAB GB.symm,A4,zAA]
  ·refine Ev.p (r:=(pB c pos,cB c pos,false,lost)) (Ev.now fun n=>?_) ⟨rfl,rfl,(zAE Et).symm,hL.id' fun j s _ _=>⟨fun h=>?_,fun h=>h.elim⟩⟩
   ·rw [zAT (by omega),zAK,zAB GB.symm]
   ·obtain ⟨_,_,r',h3,h4,_⟩:=h;rw [hF.uniq h4] at Et;exact Et h3
def OH (c:AB) (q:AA) (pos:List Int) (a s:Nat):Prop:=Id c q pos a s∨((pB c pos).getD a false=true/\ (cB c pos).getD a false=false/\ Sp q.nbrs (pB c pos) (cB c pos) (a:Int)/\ tb c.set s=false)
theorem zCQ (W:HO c q pos) (hL:CV pos lost (fun _ _=>False) lost): ∃ l,Ev (fun n=>XV n c q pos pos.length lost) (true,l)/\ CV pos lost (OH c q pos) l:=by
 have Fb:=W.l1;have Gh:=W.gl;obtain ⟨r,_,hF⟩:=aI (l:=cB c pos) (by rw [Gq];exact Fb);obtain ⟨l0,h1,h2⟩:=ix W hL hF
 suffices H:Ae (fun n=>MN c q pos pos.length lost n (.l1 (pB c pos) (cB c pos) (decide (0<=r)) ((pB c pos).length:Int) 0 l0)) (fun x=>x.1=true/\ CV pos lost (OH c q pos) x.2) by
  obtain ⟨x,⟨h3,h4⟩,h5⟩:=(Ae.bind h1 (b:=fun n y1=>MN c q pos pos.length lost n (.l1 y1.1 y1.2.1 y1.2.2.1 (y1.1.length:Int) 0 y1.2.2.2)) H).ev fun x y hx hy=>by
   obtain ⟨x1,x2⟩:=x;obtain ⟨y1,y2⟩:=y;have e1:x1=true:=hx.1;have e2:y1=true:=hy.1;have e3:x2=y2:=hx.2.unique hy.2;rw [e1,e2,e3]
  obtain ⟨x1,x2⟩:=x;have h3:x1=true:=h3;subst h3;exact ⟨x2,h5,h4⟩
 obtain ⟨N,hN⟩:=Ae.range (F:=fun (i:Nat) n=>if (pB c pos).getD i false=true then Mr n q.nbrs (pB c pos) (cB c pos) i else some (false,0)) (A:=fun i x=>(pB c pos).getD i false=true -> x.2=0/\ (x.1=true↔Sp q.nbrs (pB c pos) (cB c pos) i)) pos.length fun i hi=>by
  by_cases h:(pB c pos).getD i false=true
  ·refine ((pN W.g (by rw [GB];exact Gh.symm) (by rw [Gq];exact Gh.symm) (a:=i) (by omega) h).mono fun x hx _=>hx).eq fun n=>?_
   rw [zAB h]
  ·exact Ev.p (r:=(false,0)) (Ev.now fun n=>by rw [zAZ h]) fun h'=>absurd h' h
 refine ⟨N+pos.length+1,fun n hn=>?_⟩
 have T:=HE (fun n (o1:List Int) i=>MN c q pos pos.length lost n (.l1 (pB c pos) (cB c pos) (decide (0<=r)) ((pB c pos).length:Int) i o1)) pos.length (N+1)
  (fun i o1=>CV pos lost (fun a s=>Id c q pos a s∨(a<i/\ OH c q pos a s)) o1) (fun n i o1 Gf hi hI=>?_) (n:=n) (s:=l0) (by omega) (h2.id' fun j s _ _=>⟨fun h=>h.elim id fun h=>absurd h.1 (zAf j),.inl⟩)
 ·obtain ⟨n3,o1,Ls,_,e2,Kg⟩:=T;obtain ⟨n4,rfl⟩: ∃ n4,n3=n4+1:=⟨n3-1,by omega⟩;refine ⟨(true,o1),Eq.trans e2 ?_,rfl,Kg.id' fun j s hj _=>⟨fun h=>.inr ⟨hj,h⟩,fun h=>h.elim .inl fun h=>h.2⟩⟩
  show Tq n4 (MN c q pos pos.length lost n4) c q pos pos.length lost (pB c pos) (cB c pos) (decide (0<=r)) ((pB c pos).length:Int) (pos.length:Int) o1=_
  unfold Tq;rw [GB,zAE (p:=((pos.length:Nat):Int)<((pos.length:Nat):Int)) (by omega),zAC]
 ·show ∃ s',Tq n (MN c q pos pos.length lost n) c q pos pos.length lost (pB c pos) (cB c pos) (decide (0<=r)) ((pB c pos).length:Int) (i:Int) o1=_/\ _
  unfold Tq;simp only [zAO];have r1:AL ((i:Int)+1):=A0.2 ⟨by omega,by omega⟩;have lp:(pB c pos).length=pos.length:=GB;have lc:(cB c pos).length=pos.length:=Gq;rw [lp,lc,zAT (p:=(i:Int)<((pos.length:Nat):Int)) (by omega),zAK]
  have skip:(∀ s,¬ ((pB c pos).getD i false=true/\ (cB c pos).getD i false=false/\ Sp q.nbrs (pB c pos) (cB c pos) (i:Int)/\ tb c.set s=false)) -> CV pos lost (fun a s=>Id c q pos a s∨(a<i+1/\ OH c q pos a s)) o1:=fun GI=>hI.id' fun j s hj _=>by
   constructor
   ·rintro (h | ⟨h,h3⟩)
    ·exact .inl h
    ·rcases zAa.1 h with h | rfl
     ·exact .inr ⟨h,h3⟩
     ·exact h3.elim .inl fun h4=>absurd h4 (GI s)
   ·rintro (h | ⟨h,h3⟩)
    ·exact .inl h
    ·exact .inr ⟨by omega,h3⟩
  by_cases Et:0<=r
  ·rw [zAT Et,zD2,zAC,zAB ⟨by omega,by omega⟩];cases hp:(pB c pos).getD i false
   ·rw [zEC,zAK,zAB r1];exact ⟨o1,rfl,skip fun s h=>by rw [hp] at h;cases h.1⟩
   ·rw [zD2,zAC,zAB ⟨by omega,by omega⟩];cases hc:(cB c pos).getD i false
    ·obtain ⟨x,e1,hx⟩:=hN n (by omega) i hi;have e1:(if (pB c pos).getD i false=true then Mr n q.nbrs (pB c pos) (cB c pos) i else some (false,0))=some x:=e1;rw [zAB hp] at e1;obtain ⟨_,hx⟩:=hx hp;rw [zAC,e1,zAA];cases hb:x.1
     ·rw [zAC,zAB r1];exact ⟨o1,rfl,skip fun s h=>by rw [hx.2 h.2.2.1] at hb;cases hb⟩
     ·obtain ⟨l',e,h3⟩:=hI.only (c:=c) (q:=q) (D':=fun a s=>Id c q pos a s∨(a<i+1/\ OH c q pos a s)) (cell:=(i:Int)) (by omega) (by omega) fun j s hj _=>by
       constructor
       ·rintro (h | ⟨h,h3⟩)
        ·exact .inl (.inl h)
        ·rcases zAa.1 h with h | rfl
         ·exact .inl (.inr ⟨h,h3⟩)
         ·exact h3.elim (fun h=>.inl (.inl h)) fun h4=>.inr ⟨rfl,h4.2.2.2⟩
       ·rintro ((h | ⟨h,h3⟩) | ⟨h,h3⟩)
        ·exact .inl h
        ·exact .inr ⟨by omega,h3⟩
        ·obtain rfl:j=i:=by omega
         exact .inr ⟨by omega,.inr ⟨hp,hc,hx.1 hb,h3⟩⟩
      rw [zAK,e,zAA,zAB r1];exact ⟨l',rfl,h3⟩
    ·rw [zAK,zAB r1];exact ⟨o1,rfl,skip fun s h=>by rw [hc] at h;cases h.2.1⟩
  ·rw [zAE Et,zEC,zAK,zAB r1];refine ⟨o1,rfl,skip fun s h=>?_⟩;obtain ⟨hp,_,⟨u,v,_,_,h3,_,h4,_⟩,_⟩:=h;rcases hF with ⟨_,hF⟩ | ⟨h5,_⟩
   ·have:=h4.rng W.g.gr (by omega) (by omega);rw [hF u.toNat (by rw [Gq];omega)] at h3;cases h3
   ·exact Et h5
def DN (g:List (List Int)) (S:List Bool) (v:Int):Nat:=(nb g v).countP fun x=>S.getD x.toNat false
def Zy (c:AB) (q:AA) (pos:List Int):Prop:=∀ v,v<pos.length -> (cB c pos).getD v false=true -> 2<=DN q.nbrs (pB c pos) v/\ DN q.nbrs (cB c pos) v<=2
def jB (c:AB) (q:AA) (pos:List Int) (v a s:Nat):Prop:=(cB c pos).getD v false=true/\ (a:Int)∈nb q.nbrs v/\ (pB c pos).getD a false=true/\ ((DN q.nbrs (pB c pos) v=2/\ tb c.set s=false)∨(DN q.nbrs (cB c pos) v=2/\ (cB c pos).getD a false=false/\ tb c.set s=true))
def jM (c:AB) (q:AA) (pos:List Int) (a s:Nat):Prop:=Id c q pos a s∨∃ v,v<pos.length/\ jB c q pos v a s
section
variable {P C:List Bool} {o1:List Int} {row:List Int} {x20 x21:Int}
def I9 (P:List Bool) (o2:List Int) (v:Int):List Int:=bif P.getD v.toNat false then o2++[v] else o2
def KE (C:List Bool) (x:Int) (v:Int):Int:=bif C.getD v.toNat false then x+1 else x
theorem iv: ∀ (l o2:List Int),l.foldl (I9 P) o2=o2++l.filter fun x=>P.getD x.toNat false
 | [],o2=>by simp
 | v::l,o2=>by
  rw [zFB,iv l];unfold I9;cases h:P.getD v.toNat false
  ·rw [zAC,List.filter_cons_of_neg (by rw [h];decide)]
  ·rw [zAK,List.filter_cons_of_pos (p:=fun x=>P.getD (Int.toNat x) false) h,zE2];rfl
theorem jD: ∀ (l:List Int) (x:Int),l.foldl (KE C) x=x+(l.countP fun x=>C.getD x.toNat false:Nat)
 | [],x=>by simp
 | v::l,x=>by
  rw [zFB,jD l];unfold KE;cases h:C.getD v.toNat false
  ·rw [zAC,List.countP_cons_of_neg (by rw [h];decide)]
  ·rw [zAK,List.countP_cons_of_pos (p:=fun x=>C.getD (Int.toNat x) false) h];omega
def Mp (P C:List Bool) (x20 x21:Int) (row o1 o2:List Int) (x8 j:Int):Ld:=match o2 with
 | []=>.l2 P C x8 x20 x21 row (row.length:Int) j o1
 | a::l=>.l3 P C (a::l).length x8 x20 x21 row (row.length:Int) j o1 (a::l)
theorem fL {o2:List Int} {x8 j:Int} (h:o2≠[]):Mp P C x20 x21 row o1 o2 x8 j= .l3 P C o2.length x8 x20 x21 row (row.length:Int) j o1 o2:=by
 cases o2 with
 | nil=>exact absurd rfl h
 | cons a l=>rfl
theorem uw {n j:Nat} {x8:Int} {o2:List Int} (hP:P.length=pos.length) (hC:C.length=pos.length) (hr: ∀ u∈row,0<=u/\ u<(pos.length:Int)) (hl:row.length<=256) (hj:j<row.length) (ho:o2.length<=256) (h8:0<=x8/\ x8<=256):
 CZ c q pos pos.length lost (n+1) (Mp P C x20 x21 row o1 o2 x8 j)=CZ c q pos pos.length lost n (Mp P C x20 x21 row o1 (I9 P o2 (row.getD j 0)) (KE C x8 (row.getD j 0)) ((j:Int)+1)):=by
 have L:(1000000000000:Nat)=BB:=rfl;have hx:row.getD j 0∈row:=by rw [u8,zAQ hj];exact zDi hj
 have Hq:=hr _ hx;have r1:AL ((j:Int)+1):=A0.2 ⟨by omega,by omega⟩;have r8:AL (x8+1):=A0.2 ⟨by omega,by omega⟩;cases o2 with
 | nil=>
  show SM n (CZ c q pos pos.length lost n) c q pos pos.length lost P C x8 x20 x21 row (row.length:Int) (j:Int) o1=_
  unfold SM I9 KE;simp only [zAO];rw [zAT (by omega),zAK,zAB ⟨⟨by omega,by omega⟩,by omega,by omega⟩];cases hp:P.getD (row.getD j 0).toNat false <;> cases hc:C.getD (row.getD j 0).toNat false
  ·rw [zAC,zAC,zAC,zAB ⟨by omega,by omega⟩,zAC,zAB r1];rfl
  ·rw [zAC,zAC,zAK,zAB ⟨by omega,by omega⟩,zAK,zAB ⟨r8,r1⟩];rfl
  ·rw [zAK,zAK,zAC,zAB ⟨⟨⟨trivial,rfl⟩,by rw [zDv];omega,by rw [zDv,←L];omega⟩,by omega,by omega⟩,zAC,zAB r1];rfl
  ·rw [zAK,zAK,zAK,zAB ⟨⟨⟨trivial,rfl⟩,by rw [zDv];omega,by rw [zDv,←L];omega⟩,by omega,by omega⟩,zAK,zAB ⟨r8,r1⟩];rfl
 | cons a l=>
  have Ak:I9 P (a::l) (row.getD j 0)≠[]:=by unfold I9;cases P.getD (row.getD j 0).toNat false <;> simp
  rw [fL Ak]
  show NU n (CZ c q pos pos.length lost n) c q pos pos.length lost P C (a::l).length x8 x20 x21 row (row.length:Int) (j:Int) o1 (a::l)=_
  unfold NU I9 KE;simp only [zAO];rw [zAT (by omega),zAK,zAB ⟨⟨by omega,by omega⟩,by omega,by omega⟩];cases hp:P.getD (row.getD j 0).toNat false <;> cases hc:C.getD (row.getD j 0).toNat false
  ·rw [zAC,zAC,zAC,zAB ⟨by omega,by omega⟩,zAC,zAB r1]
  ·rw [zAC,zAC,zAK,zAB ⟨by omega,by omega⟩,zAK,zAB ⟨r8,r1⟩]
  ·rw [zAK,zAK,zAC,zAB ⟨⟨⟨trivial,rfl⟩,⟨trivial,trivial⟩,by rw [zDv,←L];omega⟩,by omega,by omega⟩,zAC,zAB r1,zAh]
  ·rw [zAK,zAK,zAK,zAB ⟨⟨⟨trivial,rfl⟩,⟨trivial,trivial⟩,by rw [zDv,←L];omega⟩,by omega,by omega⟩,zAK,zAB ⟨r8,r1⟩,zAh]
theorem jA (hP:P.length=pos.length) (hC:C.length=pos.length) (hr: ∀ u∈row,0<=u/\ u<(pos.length:Int)) (hl:row.length<=256): ∀ (k j n:Nat) (o2:List Int) (x8:Int),j+k=row.length -> o2.length<=j -> 0<=x8/\ x8<=(j:Int) ->
 CZ c q pos pos.length lost (n+k) (Mp P C x20 x21 row o1 o2 x8 j)=CZ c q pos pos.length lost n (Mp P C x20 x21 row o1 ((row.drop j).foldl (I9 P) o2) ((row.drop j).foldl (KE C) x8) (row.length:Int))
 | 0,j,n,o2,x8,e,_,_=>by
  have e:j=row.length:=by omega
  subst e;rw [zFx];rfl
 | k+1,j,n,o2,x8,e,h2,h8=>by
  have hj:j<row.length:=by omega
  have e2:row.drop j=row.getD j 0::row.drop (j+1):=by
   rw [zDx hj,u8,zAQ hj];rfl
  rw [←zDy,uw hP hC hr hl hj (by omega) (by omega),e2,zFB,zFB]
  have h3:(I9 P o2 (row.getD j 0)).length<=j+1:=by
   unfold I9;cases P.getD (row.getD j 0).toNat false
   ·rw [zAC];omega
   ·rw [zAK,zAh,zDv];omega
  have h4:0<=KE C x8 (row.getD j 0)/\ KE C x8 (row.getD j 0)<=((j+1:Nat):Int):=by
   unfold KE;cases C.getD (row.getD j 0).toNat false
   ·rw [zAC];omega
   ·rw [zAK];omega
  exact jA hP hC hr hl k (j+1) n _ _ (by omega) h3 h4
theorem nV {D:Nat -> Nat -> Prop} {near:List Int} {x8:Int} {v:Nat} {n:Nat} (W:HO c q pos) (hD:CV pos lost D o1) (WX: ∀ u∈near,0<=u/\ u<(pos.length:Int)) (JK:near.length<=256) (hv:v<pos.length):
 ∃ l',CZ c q pos pos.length lost (n+1+near.length) (.l4 (pB c pos) (cB c pos) near.length x8 x20 (v:Int) near.length (near.length:Int) 0 o1 near)=CZ c q pos pos.length lost n (.l1 (pB c pos) (cB c pos) x20 ((v:Int)+1) l')/\
  CV pos lost (fun a s=>D a s∨((a:Int)∈near/\ ((near.length=2/\ tb c.set s=false)∨(x8=2/\ (cB c pos).getD a false=false/\ tb c.set s=true)))) l':=by
 have Fb:=W.l1;have lc:(cB c pos).length=pos.length:=Gq
 obtain ⟨l',e,h⟩:=Vt (fun n (s:List Int) i=>CZ c q pos pos.length lost n (.l4 (pB c pos) (cB c pos) near.length x8 x20 (v:Int) near.length (near.length:Int) i s near)) near.length 0
  (fun i s=>CV pos lost (fun a t=>D a t∨((a:Int)∈near.take i/\ ((near.length=2/\ tb c.set t=false)∨(x8=2/\ (cB c pos).getD a false=false/\ tb c.set t=true)))) s)
  (fun n i s _ hi hI=>by
   have hx:near.getD i 0∈near:=by rw [u8,zAQ hi];exact zDi hi
   have Hq:=WX _ hx
   have e3:near.take (i+1)=near.take i++[near.getD i 0]:=by
    rw [zEd hi,u8,zAQ hi];rfl
   have r1:AL ((i:Int)+1):=A0.2 ⟨by omega,by omega⟩;have mem: ∀ a:Nat,(a:Int)∈near.take (i+1)↔(a:Int)∈near.take i∨(a:Int)=near.getD i 0:=fun a=>by rw [e3,zEA,zAp]
   obtain ⟨l2,f2,bS⟩:=hI.only (c:=c) (q:=q) (cell:=near.getD i 0) Hq.1 Hq.2 (D':=fun a t=>(D a t∨((a:Int)∈near.take i/\ ((near.length=2/\ tb c.set t=false)∨(x8=2/\ (cB c pos).getD a false=false/\ tb c.set t=true))))∨((a:Int)=near.getD i 0/\ tb c.set t=false)) fun j s _ _=>Iff.rfl
   obtain ⟨l3,f3,hL3⟩:=bS.lose (c:=c) (q:=q) (cell:=near.getD i 0) (ss:=c.set) Hq.1 Hq.2 (D':=fun a t=>((D a t∨((a:Int)∈near.take i/\ ((near.length=2/\ tb c.set t=false)∨(x8=2/\ (cB c pos).getD a false=false/\ tb c.set t=true))))∨((a:Int)=near.getD i 0/\ tb c.set t=false))∨((a:Int)=near.getD i 0/\ tb c.set t=true)) fun j s _ _=>Iff.rfl
   obtain ⟨l4,f4,Wm⟩:=hI.lose (c:=c) (q:=q) (cell:=near.getD i 0) (ss:=c.set) Hq.1 Hq.2 (D':=fun a t=>(D a t∨((a:Int)∈near.take i/\ ((near.length=2/\ tb c.set t=false)∨(x8=2/\ (cB c pos).getD a false=false/\ tb c.set t=true))))∨((a:Int)=near.getD i 0/\ tb c.set t=true)) fun j s _ _=>Iff.rfl
   show ∃ s',SL n (CZ c q pos pos.length lost n) c q pos pos.length lost (pB c pos) (cB c pos) near.length x8 x20 (v:Int) near.length (near.length:Int) (i:Int) s near=_/\ _
   unfold SL;simp only [zAO,zAj];rw [zAT (by omega),zAK,zAB ⟨⟨by omega,by omega⟩,hi⟩];have A8: ∀ a:Nat,(a:Int)=near.getD i 0 -> (near.getD i 0).toNat=a:=fun a h=>by omega
   by_cases h2:near.length=2
   ·have b2:(((near.length:Nat):Int)==2)=true:=by rw [h2];rfl
    rw [b2,zAK,f2,zAA]
    by_cases h8:x8=2
    ·have b8:(x8==2)=true:=by rw [h8];rfl
     rw [b8,zAK,zAB ⟨by omega,by omega⟩];cases hc:(cB c pos).getD (near.getD i 0).toNat false
     ·rw [zEC,zAK,f3,zAA,zAB r1];refine ⟨l3,rfl,hL3.id' fun a t _ _=>?_⟩;rw [mem];constructor
      ·rintro (h | ⟨h | h,h3 | ⟨h3,h4,h5⟩⟩)
       ·exact .inl (.inl (.inl h))
       ·exact .inl (.inl (.inr ⟨h,.inl h3⟩))
       ·exact .inl (.inl (.inr ⟨h,.inr ⟨h3,h4,h5⟩⟩))
       ·exact .inl (.inr ⟨h,h3.2⟩)
       ·exact .inr ⟨h,h5⟩
      ·rintro (((h | ⟨h,h3⟩) | ⟨h,h3⟩) | ⟨h,h3⟩)
       ·exact .inl h
       ·exact .inr ⟨.inl h,h3⟩
       ·exact .inr ⟨.inr h,.inl ⟨h2,h3⟩⟩
       ·exact .inr ⟨.inr h,.inr ⟨h8,by rw [←A8 a h];exact hc,h3⟩⟩
     ·rw [zD2,zAC,zAB r1];refine ⟨l2,rfl,bS.id' fun a t _ _=>?_⟩;rw [mem];constructor
      ·rintro (h | ⟨h | h,h3 | ⟨h3,h4,h5⟩⟩)
       ·exact .inl (.inl h)
       ·exact .inl (.inr ⟨h,.inl h3⟩)
       ·exact .inl (.inr ⟨h,.inr ⟨h3,h4,h5⟩⟩)
       ·exact .inr ⟨h,h3.2⟩
       ·rw [←A8 a h,hc] at h4;cases h4
      ·rintro ((h | ⟨h,h3⟩) | ⟨h,h3⟩)
       ·exact .inl h
       ·exact .inr ⟨.inl h,h3⟩
       ·exact .inr ⟨.inr h,.inl ⟨h2,h3⟩⟩
    ·have b8:(x8==2)=false:=zDr.2 h8;rw [b8,zAC,zAB r1];refine ⟨l2,rfl,bS.id' fun a t _ _=>?_⟩;rw [mem];constructor
     ·rintro (h | ⟨h | h,h3 | ⟨h3,h4,h5⟩⟩)
      ·exact .inl (.inl h)
      ·exact .inl (.inr ⟨h,.inl h3⟩)
      ·exact .inl (.inr ⟨h,.inr ⟨h3,h4,h5⟩⟩)
      ·exact .inr ⟨h,h3.2⟩
      ·exact absurd h3 h8
     ·rintro ((h | ⟨h,h3⟩) | ⟨h,h3⟩)
      ·exact .inl h
      ·exact .inr ⟨.inl h,h3⟩
      ·exact .inr ⟨.inr h,.inl ⟨h2,h3⟩⟩
   ·have b2:(((near.length:Nat):Int)==2)=false:=zDr.2 (by omega);rw [b2,zAC]
    by_cases h8:x8=2
    ·have b8:(x8==2)=true:=by rw [h8];rfl
     rw [b8,zAK,zAB ⟨by omega,by omega⟩];cases hc:(cB c pos).getD (near.getD i 0).toNat false
     ·rw [zEC,zAK,f4,zAA,zAB r1];refine ⟨l4,rfl,Wm.id' fun a t _ _=>?_⟩;rw [mem];constructor
      ·rintro (h | ⟨h | h,h3 | ⟨h3,h4,h5⟩⟩)
       ·exact .inl (.inl h)
       ·exact .inl (.inr ⟨h,.inl h3⟩)
       ·exact .inl (.inr ⟨h,.inr ⟨h3,h4,h5⟩⟩)
       ·exact absurd h3.1 h2
       ·exact .inr ⟨h,h5⟩
      ·rintro ((h | ⟨h,h3⟩) | ⟨h,h3⟩)
       ·exact .inl h
       ·exact .inr ⟨.inl h,h3⟩
       ·exact .inr ⟨.inr h,.inr ⟨h8,by rw [←A8 a h];exact hc,h3⟩⟩
     ·rw [zD2,zAC,zAB r1];refine ⟨s,rfl,hI.id' fun a t _ _=>?_⟩;rw [mem];constructor
      ·rintro (h | ⟨h | h,h3 | ⟨h3,h4,h5⟩⟩)
       ·exact .inl h
       ·exact .inr ⟨h,.inl h3⟩
       ·exact .inr ⟨h,.inr ⟨h3,h4,h5⟩⟩
       ·exact absurd h3.1 h2
       ·rw [←A8 a h,hc] at h4;cases h4
      ·rintro (h | ⟨h,h3⟩)
       ·exact .inl h
       ·exact .inr ⟨.inl h,h3⟩
    ·have b8:(x8==2)=false:=zDr.2 h8;rw [b8,zAC,zAB r1];refine ⟨s,rfl,hI.id' fun a t _ _=>?_⟩;rw [mem];constructor
     ·rintro (h | ⟨h | h,h3 | ⟨h3,h4,h5⟩⟩)
      ·exact .inl h
      ·exact .inr ⟨h,.inl h3⟩
      ·exact .inr ⟨h,.inr ⟨h3,h4,h5⟩⟩
      ·exact absurd h3.1 h2
      ·exact absurd h3 h8
     ·rintro (h | ⟨h,h3⟩)
      ·exact .inl h
      ·exact .inr ⟨.inl h,h3⟩)
  near.length 0 (n+1) o1 (by omega) (by omega) (hD.id' fun a t _ _=>by simp)
 refine ⟨l',Eq.trans e ?_,h.id' fun a t _ _=>by rw [List.take_length]⟩
 show SL n (CZ c q pos pos.length lost n) c q pos pos.length lost (pB c pos) (cB c pos) near.length x8 x20 (v:Int) near.length (near.length:Int) (near.length:Int) l' near=_
 unfold SL;rw [zAE (by omega),zAC,zAB (A0.2 ⟨by omega,by omega⟩)]
end
def np (c:AB) (q:AA) (pos lost:List Int) (x:Bool×List Int):Prop:=(x.1=true↔Zy c q pos)/\ (x.1=true -> CV pos lost (jM c q pos) x.2)
theorem vI (W:HO c q pos): ∀ (k v:Nat) (o1:List Int),v+k=pos.length -> (∀ u,u<v -> (cB c pos).getD u false=true -> 2<=DN q.nbrs (pB c pos) u/\ DN q.nbrs (cB c pos) u<=2) -> CV pos lost (fun a s=>Id c q pos a s∨∃ u,u<v/\ jB c q pos u a s) o1 ->
 Ae (fun n=>CZ c q pos pos.length lost n (.l1 (pB c pos) (cB c pos) (pos.length:Int) (v:Int) o1)) (np c q pos lost):=by
 have Fb:=W.l1;have Gh:=W.gl;have lp:(pB c pos).length=pos.length:=GB;have lc:(cB c pos).length=pos.length:=Gq;intro k
 induction k with
 | zero=>
  intro v o1 e Ds hL;have e:v=pos.length:=by omega
  subst e;refine Ev.p (r:=(true,o1)) ⟨1,fun n hn=>?_⟩ ⟨⟨fun _ v hv hc=>Ds v hv hc,fun _=>rfl⟩,fun _=>hL⟩;obtain ⟨n,rfl⟩: ∃ k,n=k+1:=⟨n-1,by omega⟩
  show SN n (CZ c q pos pos.length lost n) c q pos pos.length lost (pB c pos) (cB c pos) (pos.length:Int) (pos.length:Int) o1=_
  unfold SN;rw [zAE (by omega),zAC]
 | succ k ih=>
  intro v o1 e Ds hL;have hv:v<pos.length:=by omega
  have r1:AL ((v:Int)+1):=A0.2 ⟨by omega,by omega⟩
  have U: ∀ n,CZ c q pos pos.length lost (n+1) (.l1 (pB c pos) (cB c pos) (pos.length:Int) (v:Int) o1)=bif (cB c pos).getD v false then CZ c q pos pos.length lost n (Mp (pB c pos) (cB c pos) (pos.length:Int) (v:Int) (nb q.nbrs v) o1 [] 0 0) else CZ c q pos pos.length lost n (.l1 (pB c pos) (cB c pos) (pos.length:Int) ((v:Int)+1) o1):=fun n=>by
   show SN n (CZ c q pos pos.length lost n) c q pos pos.length lost (pB c pos) (cB c pos) (pos.length:Int) (v:Int) o1=_
   unfold SN;rw [zAT (by omega),zAK,zAB ⟨by omega,by omega⟩,zAO,zAB r1,zAB ⟨by omega,by omega⟩];cases (cB c pos).getD v false <;> rfl
  cases hc:(cB c pos).getD v false
  ·refine Ae.step 1 (fun n=>?_) (ih (v+1) o1 (by omega) (fun u hu Sk=>?_) (hL.id' fun a s _ _=>?_))
   ·rw [U,hc,zAC];rfl
   ·rcases zAa.1 hu with hu | rfl
    ·exact Ds u hu Sk
    ·rw [hc] at Sk;cases Sk
   ·constructor
    ·rintro (h | ⟨u,hu,h⟩)
     ·exact .inl h
     ·rcases zAa.1 hu with hu | rfl
      ·exact .inr ⟨u,hu,h⟩
      ·rw [h.1] at hc;cases hc
    ·rintro (h | ⟨u,hu,h⟩)
     ·exact .inl h
     ·exact .inr ⟨u,by omega,h⟩
  ·have KW:=W.g.gr.row (v:Int) (by omega) (by omega)
   have Pb: ∀ u∈nb q.nbrs (v:Int),0<=u/\ u<(pos.length:Int):=fun u hu=>by
    have:=W.g.gr.rng (v:Int) (by omega) (by omega) u hu;omega
   have A:=fun n=>jA (c:=c) (q:=q) (lost:=lost) (o1:=o1) (x20:=(pos.length:Int)) (x21:=(v:Int)) lp lc Pb KW (nb q.nbrs v).length 0 n [] 0 (by omega) (by simp) ⟨zER _,by omega⟩
   rw [zE8,iv,jD,zEI,Int.zero_add] at A;have dP:DN q.nbrs (pB c pos) v=((nb q.nbrs v).filter fun x=>(pB c pos).getD x.toNat false).length:=List.countP_eq_length_filter;have dC:DN q.nbrs (cB c pos) v=(nb q.nbrs v).countP fun x=>(cB c pos).getD x.toNat false:=rfl
   rw [←dC] at A
   generalize Sq:((nb q.nbrs v).filter fun x=>(pB c pos).getD x.toNat false)=near at A dP
   have Dt: ∀ u,u∈near↔u∈nb q.nbrs v/\ (pB c pos).getD u.toNat false=true:=fun u=>by rw [←Sq,zFC]
   have JK:near.length<=256:=by
    have:=List.length_filter_le (fun x=>(pB c pos).getD x.toNat false) (nb q.nbrs v);rw [Sq] at this;omega
   have WX: ∀ u∈near,0<=u/\ u<(pos.length:Int):=fun u hu=>Pb u ((Dt u).1 hu).1
   have U2: ∀ n,CZ c q pos pos.length lost (n+((nb q.nbrs v).length+1)) (.l1 (pB c pos) (cB c pos) (pos.length:Int) (v:Int) o1)=CZ c q pos pos.length lost n (Mp (pB c pos) (cB c pos) (pos.length:Int) (v:Int) (nb q.nbrs v) o1 near (DN q.nbrs (cB c pos) v:Int) ((nb q.nbrs v).length:Int)):=fun n=>by
    rw [←zDy,U,hc,zAK];exact A n
   refine Ae.step _ U2 ?_
   by_cases hbad:DN q.nbrs (pB c pos) v<2∨2<DN q.nbrs (cB c pos) v
   ·have GI: ¬ Zy c q pos:=fun h=>by have:=h v hv hc;omega
    refine Ev.p (r:=(false,o1)) ⟨1,fun n hn=>?_⟩ ⟨⟨fun h=>(by cases h),fun h=>absurd h GI⟩,fun h=>(by cases h)⟩;obtain ⟨n,rfl⟩: ∃ k,n=k+1:=⟨n-1,by omega⟩;cases near with
    | nil=>
     show SM n (CZ c q pos pos.length lost n) c q pos pos.length lost (pB c pos) (cB c pos) (DN q.nbrs (cB c pos) v:Int) (pos.length:Int) (v:Int) (nb q.nbrs v) ((nb q.nbrs v).length:Int) ((nb q.nbrs v).length:Int) o1=_
     unfold SM;rw [zAE (by omega),zAC]
    | cons a l=>
     show NU n (CZ c q pos pos.length lost n) c q pos pos.length lost (pB c pos) (cB c pos) (a::l).length (DN q.nbrs (cB c pos) v:Int) (pos.length:Int) (v:Int) (nb q.nbrs v) ((nb q.nbrs v).length:Int) ((nb q.nbrs v).length:Int) o1 (a::l)=_
     unfold NU;rw [zAE (by omega),zAC]
     by_cases h2:(((a::l).length:Nat):Int)<2
     ·rw [zAT h2,zAK]
     ·rw [zAE h2,zAC,zAT (by omega),zAK]
   ·have Ak:near≠[]:=by
     intro h;rw [h,zD9] at dP;omega
    obtain ⟨l',e4,Wm⟩:=nV (c:=c) (q:=q) (lost:=lost) (o1:=o1) (near:=near) (x20:=(pos.length:Int)) (x8:=(DN q.nbrs (cB c pos) v:Int)) (n:=0) W hL WX JK hv;have e5: ∀ n,∃ l',CZ c q pos pos.length lost (n+1+near.length) (.l4 (pB c pos) (cB c pos) near.length (DN q.nbrs (cB c pos) v:Int) (pos.length:Int) (v:Int) near.length (near.length:Int) 0 o1 near)=CZ c q pos pos.length lost n (.l1 (pB c pos) (cB c pos) (pos.length:Int) ((v:Int)+1) l')/\ _:=fun n=>nV (c:=c) (q:=q) (lost:=lost) (o1:=o1) (near:=near) (x20:=(pos.length:Int)) (x8:=(DN q.nbrs (cB c pos) v:Int)) (n:=n) W hL WX JK hv
    have IH:=ih (v+1) l' (by omega) (fun u hu Sk=>by
     rcases zAa.1 hu with hu | rfl
     ·exact Ds u hu Sk
     ·omega) (Wm.id' fun a s _ _=>by
     constructor
     ·rintro (h | ⟨u,hu,h⟩)
      ·exact .inl (.inl h)
      ·rcases zAa.1 hu with hu | rfl
       ·exact .inl (.inr ⟨u,hu,h⟩)
       ·obtain ⟨h1,h2,h3,h4⟩:=h;refine .inr ⟨(Dt _).2 ⟨h2,by rw [zAO];exact h3⟩,?_⟩;rcases h4 with ⟨h4,h5⟩ | ⟨h4,h5⟩
        ·exact .inl ⟨by omega,h5⟩
        ·exact .inr ⟨by omega,h5⟩
     ·rintro ((h | ⟨u,hu,h⟩) | ⟨h1,h2⟩)
      ·exact .inl h
      ·exact .inr ⟨u,by omega,h⟩
      ·obtain ⟨h3,h4⟩:=(Dt _).1 h1;rw [zAO] at h4;refine .inr ⟨v,by omega,hc,h3,h4,?_⟩;rcases h2 with ⟨h2,h5⟩ | ⟨h2,h5⟩
       ·exact .inl ⟨by omega,h5⟩
       ·exact .inr ⟨by omega,h5⟩)
    refine Ae.step (1+near.length+1) (g:=fun n=>CZ c q pos pos.length lost n (.l1 (pB c pos) (cB c pos) (pos.length:Int) ((v:Int)+1) l')) (fun n=>?_) IH;obtain ⟨l2,e6,hL6⟩:=e5 n;have:l2=l':=hL6.unique Wm;subst this;rw [fL Ak,show n+(1+near.length+1)=n+1+near.length+1 by omega,←e6]
    show NU (n+1+near.length) (CZ c q pos pos.length lost (n+1+near.length)) c q pos pos.length lost (pB c pos) (cB c pos) near.length (DN q.nbrs (cB c pos) v:Int) (pos.length:Int) (v:Int) (nb q.nbrs v) ((nb q.nbrs v).length:Int) ((nb q.nbrs v).length:Int) o1 near=_
    unfold NU;rw [zAE (by omega),zAC,zAE (by omega),zAC,zAE (by omega),zAC]
theorem vJ (W:HO c q pos) (hL:CV pos lost (fun _ _=>False) lost):Ae (fun n=>Vs n c q pos pos.length lost) (np c q pos lost):=by
 have Fb:=W.l1;obtain ⟨r,_,hF⟩:=aI (l:=cB c pos) (by rw [Gq];exact Fb);obtain ⟨l0,h1,h2⟩:=ix W hL hF;refine Ae.bind h1 (b:=fun n y1=>CZ c q pos pos.length lost n (.l1 y1.1 y1.2.1 (y1.2.1.length:Int) 0 y1.2.2.2)) ?_;have:=vI (q:=q) W pos.length 0 l0 (by omega) (fun u hu=>absurd hu (zAf u)) (h2.id' fun a s _ _=>⟨fun h=>h.elim id fun ⟨u,hu,_⟩=>absurd hu (zAf u),.inl⟩);refine this.eq fun n=>?_
 show CZ c q pos pos.length lost n (.l1 (pB c pos) (cB c pos) ((cB c pos).length:Int) 0 l0)=_
 rw [Gq];rfl
end
end Go.Proofs.YtkjbblkieglmlaaGreatDoor
namespace Go.Proofs.YtkjbblkieglmlaaGreatDoor
open Go.RowKit
set_option maxRecDepth 100000
set_option maxHeartbeats 40000000
theorem qe:Ar (Ag Tryz.f105 6) [([0,1,2,3,4,5,6,7,8],9),([10],11)] [12] []:=by unfold Ar;kernel_rfl
theorem qf:Ar (Ag Tryz.f105 13) [] (List.range 13) [13]:=by unfold Ar;kernel_rfl
def Dz:Bi:=fun i=>match i with
 | 6=>.ord [([0,1,2,3,4,5,6,7,8],9),([10],11)] [12] []
 | 13=>.ord [] (List.range 13) [13]
 | _=>.no
def zE (q:AA) (pos:List Int):DH:=[some (.cells (AC q)),some (.cells [.cst .nilFunc,.fn 132 0 (L1 []),.fn 133 0 (L1 []),.fn 134 0 (L1 []),.fn 135 0 (L1 []),.fn 136 0 (L1 []),.fn 137 0 (L1 []),.fn 138 0 (L1 []),.fn 139 0 (L1 []),.fn 140 0 (L1 [])]),some (.ints (List.replicate pos.length (0:Int)))]
def KY (q:AA) (pos:List Int) (i:Int):DH:=[some (.cells (AC q)),some (.cells [.cst .nilFunc,.fn 132 0 (L1 []),.fn 133 0 (L1 []),.fn 134 0 (L1 []),.fn 135 0 (L1 []),.fn 136 0 (L1 []),.fn 137 0 (L1 []),.fn 138 0 (L1 []),.fn 139 0 (L1 []),.fn 140 0 (L1 [])]),some (.ints (List.replicate pos.length (0:Int))),some (.ints (List.replicate pos.length (0:Int))),some (.cells (AJ (q.cons.getD ((i).toNat) default)++AC q++[.ints pos,.msl 3 1 0 pos.length]))]
def zD (pos:List Int) (q:AA) (i:Int) (o2:List Int):DH:=[some (.ints (List.replicate pos.length (0:Int))),some (.cells (AJ (q.cons.getD ((i).toNat) default)++AC q++[.ints pos,.msl 2 1 0 pos.length])),some (.ints o2)]
def zC (pos:List Int) (q:AA) (i:Int) (o2 o3:List Int):DH:=[some (.ints (List.replicate pos.length (0:Int))),some (.cells (AJ (q.cons.getD ((i).toNat) default)++AC q++[.ints pos,.msl 2 1 0 pos.length])),some (.ints o2),some (.ints o3)]
inductive Rj where
 | l1 (o2:List Int)
 | l2 (x10:Nat) (K2 CB:Int) (o2 o3:List Int)
def ZF (n:Nat) (self:Rj -> Option ((List Int))) (q:AA) (i:Int) (pos:List Int) (o2:List Int):Option ((List Int)):=
 (Xb n pos).bind fun y1=>
  self (.l2 y1.length (y1.length:Int) 0 o2 y1)
def Ri (n:Nat) (self:Rj -> Option ((List Int))) (q:AA) (i:Int) (pos:List Int) (x10:Nat) (K2 CB:Int) (o2 o3:List Int):Option ((List Int)):=
 bif (decide (CB<K2)) then
  if (0<=CB/\ CB<(x10:Int))/\ 0+((CB).toNat)<o3.length/\ (0<=CB/\ CB<(pos.length:Int))/\ 0+((CB).toNat)<o2.length/\ AL (CB+1) then
   self (.l2 x10 K2 (CB+1) o2 (o3.set (0+((CB).toNat)) (bits .andNot .i64 (o3.getD (0+((CB).toNat)) 0) (o2.getD (0+((CB).toNat)) 0))))
  else none
 else
  if x10=o3.length then
   (JF n o3).bind fun y1=>
    bif y1 then
     if pos.length=(List.replicate pos.length (0:Int)).length then
      some (List.replicate pos.length (0:Int))
     else none
    else
     some o3
  else none
def ZG (n:Nat) (self:Rj -> Option ((List Int))) (q:AA) (i:Int) (pos:List Int):Option ((List Int)):=
 if ((pos.length:Int):Int)=(pos.length:Int)/\ 0<=(pos.length:Int)/\ ((pos.length:Int):Int)<=1000000000000 then
  (JF n pos).bind fun y1=>
   bif y1 then
    if pos.length=(List.replicate pos.length (0:Int)).length then
     some (List.replicate pos.length (0:Int))
    else none
   else
    if 0<=i/\ i<(q.cons.length:Int) then
     bif (((q.cons.getD ((i).toNat) default).kind)==0) then
      none
     else
      bif (((q.cons.getD ((i).toNat) default).kind)==1) then
       (QB n (q.cons.getD ((i).toNat) default) q pos pos.length (List.replicate pos.length (0:Int))).bind fun y2=>
        bif (!y2.1) then
         if pos.length=(List.replicate pos.length (0:Int)).length then
          some (List.replicate pos.length (0:Int))
         else none
        else
         self (.l1 y2.2)
      else
       bif (((q.cons.getD ((i).toNat) default).kind)==2) then
        (QH n (q.cons.getD ((i).toNat) default) q pos pos.length (List.replicate pos.length (0:Int))).bind fun y2=>
         bif (!y2.1) then
          if pos.length=(List.replicate pos.length (0:Int)).length then
           some (List.replicate pos.length (0:Int))
          else none
         else
          self (.l1 y2.2)
       else
        bif (((q.cons.getD ((i).toNat) default).kind)==3) then
         (Oq n (q.cons.getD ((i).toNat) default) q pos pos.length (List.replicate pos.length (0:Int))).bind fun y2=>
          bif (!y2.1) then
           if pos.length=(List.replicate pos.length (0:Int)).length then
            some (List.replicate pos.length (0:Int))
           else none
          else
           self (.l1 y2.2)
        else
         bif (((q.cons.getD ((i).toNat) default).kind)==4) then
          (LR n (q.cons.getD ((i).toNat) default) q pos pos.length (List.replicate pos.length (0:Int))).bind fun y2=>
           bif (!y2.1) then
            if pos.length=(List.replicate pos.length (0:Int)).length then
             some (List.replicate pos.length (0:Int))
            else none
           else
            self (.l1 y2.2)
         else
          bif (((q.cons.getD ((i).toNat) default).kind)==5) then
           (Ox n (q.cons.getD ((i).toNat) default) q pos pos.length (List.replicate pos.length (0:Int))).bind fun y2=>
            bif (!y2.1) then
             if pos.length=(List.replicate pos.length (0:Int)).length then
              some (List.replicate pos.length (0:Int))
             else none
            else
             self (.l1 y2.2)
          else
           bif (((q.cons.getD ((i).toNat) default).kind)==6) then
            (OW n (q.cons.getD ((i).toNat) default) q pos pos.length (List.replicate pos.length (0:Int))).bind fun y2=>
             bif (!y2.1) then
              if pos.length=(List.replicate pos.length (0:Int)).length then
               some (List.replicate pos.length (0:Int))
              else none
             else
              self (.l1 y2.2)
           else
            bif (((q.cons.getD ((i).toNat) default).kind)==7) then
             (NO n (q.cons.getD ((i).toNat) default) q pos pos.length (List.replicate pos.length (0:Int))).bind fun y2=>
              bif (!y2.1) then
               if pos.length=(List.replicate pos.length (0:Int)).length then
                some (List.replicate pos.length (0:Int))
               else none
              else
               self (.l1 y2.2)
            else
             bif (((q.cons.getD ((i).toNat) default).kind)==8) then
              (XV n (q.cons.getD ((i).toNat) default) q pos pos.length (List.replicate pos.length (0:Int))).bind fun y2=>
               bif (!y2.1) then
                if pos.length=(List.replicate pos.length (0:Int)).length then
                 some (List.replicate pos.length (0:Int))
                else none
               else
                self (.l1 y2.2)
             else
              bif (((q.cons.getD ((i).toNat) default).kind)==9) then
               (Vs n (q.cons.getD ((i).toNat) default) q pos pos.length (List.replicate pos.length (0:Int))).bind fun y2=>
                bif (!y2.1) then
                 if pos.length=(List.replicate pos.length (0:Int)).length then
                  some (List.replicate pos.length (0:Int))
                 else none
                else
                 self (.l1 y2.2)
              else
               none
    else none
 else none
def II (q:AA) (i:Int) (pos:List Int):Nat -> Rj -> Option ((List Int))
 | 0,_=>none
 | n+1,.l1 o2=>ZF n (II q i pos n) q i pos o2
 | n+1,.l2 x10 K2 CB o2 o3=>Ri n (II q i pos n) q i pos x10 K2 CB o2 o3
def I2 (n:Nat) (q:AA) (i:Int) (pos:List Int):Option ((List Int)):=ZG n (II q i pos n) q i pos
def tW (n B:Nat) (N:Yd 0) (q:AA) (i:Int) (pos:List Int) (r:(List Int)):Rj -> Prop
 | .l1 o2=>TW B N (FQ Tryz.f105 0 (.ints r) []) (CO (AY Tryz.f105) 9 []) ⟨AG 69 [(2,.ints pos),(8,.msl 0 1 0 pos.length),(9,.ref 1 0)],[some (.ints (List.replicate pos.length (0:Int))),some (.cells (AJ (q.cons.getD ((i).toNat) default)++AC q++[.ints pos,.msl 2 1 0 pos.length])),some (.ints o2)]⟩
 | .l2 x10 K2 CB o2 o3=>∀ m0:Nat,n<=m0 -> TW B N (FQ Tryz.f105 0 (.ints r) []) (A8 m0 (BL (AY Tryz.f105) 0 [])) ⟨AG 69 [(8,.msl 0 1 0 pos.length),(9,.ref 1 0),(10,.msl 3 1 0 x10),(47,.i K2),(48,.i CB)],[some (.ints (List.replicate pos.length (0:Int))),some (.cells (AJ (q.cons.getD ((i).toNat) default)++AC q++[.ints pos,.msl 2 1 0 pos.length])),some (.ints o2),some (.ints o3)]⟩
theorem tX (B:Nat) (N:Yd 0) (q:AA) (i:Int) (pos:List Int):Al (II q i pos) (tW · B N q i pos):=ia (fun _=>rfl) fun n AK pt r h=>by
 cases pt
 case l1 o2=>
  revert r;apply gO;exact cn fun y1 A5=>jc (ES.snapNew (ds:=[.ints pos]) (zCf A5) (zD pos q i o2) (cz (by kernel_rfl)) rfl) (lN Dz [0,1,2,3] (AK _ _ · n Nat.le.refl))
 case l2 x10 K2 CB o2 o3=>
  intro m0 AD;refine rd AD fun m0 AD=>?_
  revert r;apply gO;exact bi 49 (jg qf (gc (gn fun g0=>jg g0 (gc (gn fun g1=>jg g1 (gc (gi (gc (gi (jg g0 (jg g1 (gw 64 (lG (AR 9 Dz) [0,1,2,3] (AK _ _ · m0 AD)))))))))))))) (gn fun g0=>cn fun y1 A5=>jc (sb [.msl 3 1 0 x10] (Nb A5) (zC pos q i o2 o3) ⟨Ad.ints rfl g0,trivial⟩) (bi 66 (gn fun g1=>lF fun p=>ez (AR 9 Dz) [6] [0] p [0] (H0.g g1)) (lF fun p=>ez (AR 9 Dz) [6] [3] p [0] (H0.g g0))))
theorem tV {n:Nat} {q:AA} {i:Int} {pos:List Int} {r:(List Int)} (h:I2 n q i pos=some r):EQ 105 [.agg 5 (L1 (AC q)),.i i,.ints pos] [] (.ints r) [] true:=by
 have AK:=fun B N=>(tX B N q i pos n)
 refine ot Tryz.func105 fun B N=>?_
 revert r;apply gO;exact jt (gn fun g0=>jg g0 (cf Nb (zE q pos) fun _=>bi 18 (gn fun g1=>lF fun p=>ez (AR 9 Dz) [6] [2] p [0] (H0.g g1)) (jg qe (gi (jg g0 (bn (fun c1=>nO) (fun c1=>bn (fun c3=>jo 36 (AS.int (k:=.i64) (eq_of_beq c3)) (jg (by decide:(0:Int)<=1/\ 1<((10:Nat):Int)) (ce zBt [4,3] (KY q pos i) fun _=>bi 42 (gn fun g2=>lF fun p=>ez (AR 9 Dz) [6] [2] p [0] (H0.g g2)) (lG (AR 9 Dz) [2,4,3] ((AK B N) _ _ ·))))) (fun c3=>bn (fun c5=>jo 36 (AS.int (k:=.i64) (eq_of_beq c5)) (jg (by decide:(0:Int)<=2/\ 2<((10:Nat):Int)) (ce zCC [4,3] (KY q pos i) fun _=>bi 42 (gn fun g2=>lF fun p=>ez (AR 9 Dz) [6] [2] p [0] (H0.g g2)) (lG (AR 9 Dz) [2,4,3] ((AK B N) _ _ ·))))) (fun c5=>bn (fun c7=>jo 36 (AS.int (k:=.i64) (eq_of_beq c7)) (jg (by decide:(0:Int)<=3/\ 3<((10:Nat):Int)) (ce pA [4,3] (KY q pos i) fun _=>bi 42 (gn fun g2=>lF fun p=>ez (AR 9 Dz) [6] [2] p [0] (H0.g g2)) (lG (AR 9 Dz) [2,4,3] ((AK B N) _ _ ·))))) (fun c7=>bn (fun c9=>jo 36 (AS.int (k:=.i64) (eq_of_beq c9)) (jg (by decide:(0:Int)<=4/\ 4<((10:Nat):Int)) (ce sS [4,3] (KY q pos i) fun _=>bi 42 (gn fun g2=>lF fun p=>ez (AR 9 Dz) [6] [2] p [0] (H0.g g2)) (lG (AR 9 Dz) [2,4,3] ((AK B N) _ _ ·))))) (fun c9=>bn (fun nD=>jo 36 (AS.int (k:=.i64) (eq_of_beq nD)) (jg (by decide:(0:Int)<=5/\ 5<((10:Nat):Int)) (ce rf [4,3] (KY q pos i) fun _=>bi 42 (gn fun g2=>lF fun p=>ez (AR 9 Dz) [6] [2] p [0] (H0.g g2)) (lG (AR 9 Dz) [2,4,3] ((AK B N) _ _ ·))))) (fun nD=>bn (fun nC=>jo 36 (AS.int (k:=.i64) (eq_of_beq nC)) (jg (by decide:(0:Int)<=6/\ 6<((10:Nat):Int)) (ce zDR [4,3] (KY q pos i) fun _=>bi 42 (gn fun g2=>lF fun p=>ez (AR 9 Dz) [6] [2] p [0] (H0.g g2)) (lG (AR 9 Dz) [2,4,3] ((AK B N) _ _ ·))))) (fun nC=>bn (fun nB=>jo 36 (AS.int (k:=.i64) (eq_of_beq nB)) (jg (by decide:(0:Int)<=7/\ 7<((10:Nat):Int)) (ce ue [4,3] (KY q pos i) fun _=>bi 42 (gn fun g2=>lF fun p=>ez (AR 9 Dz) [6] [2] p [0] (H0.g g2)) (lG (AR 9 Dz) [2,4,3] ((AK B N) _ _ ·))))) (fun nB=>bn (fun nA=>jo 36 (AS.int (k:=.i64) (eq_of_beq nA)) (jg (by decide:(0:Int)<=8/\ 8<((10:Nat):Int)) (ce zCR [4,3] (KY q pos i) fun _=>bi 42 (gn fun g2=>lF fun p=>ez (AR 9 Dz) [6] [2] p [0] (H0.g g2)) (lG (AR 9 Dz) [2,4,3] ((AK B N) _ _ ·))))) (fun nA=>bn (fun m9=>jo 36 (AS.int (k:=.i64) (eq_of_beq m9)) (jg (by decide:(0:Int)<=9/\ 9<((10:Nat):Int)) (ce vK [4,3] (KY q pos i) fun _=>bi 42 (gn fun g2=>lF fun p=>ez (AR 9 Dz) [6] [2] p [0] (H0.g g2)) (lG (AR 9 Dz) [2,4,3] ((AK B N) _ _ ·))))) (fun m9=>nO))))))))))))))))
def iG (n:Nat) (q:AA) (i:Int) (pos:List Int):Option ((List Int)×Int):=
 (QL n q i pos).bind fun y1=>
  bif (y1 != 0) then
   some (([]:List Int),y1)
  else
   (I2 n q i pos).bind fun y2=>
    some (y2,0)
def O7 (n:Nat) (q:AA) (i:Int) (pos:List Int):Option ((List Int)×Int):=iG n q i pos
theorem tj {n:Nat} {q:AA} {i:Int} {pos:List Int} {r:(List Int)×Int} (h:O7 n q i pos=some r):EQ 82 [.agg 5 (L1 (AC q)),.i i,.ints pos] [] (.tup 2 (L1 [.ints r.1,.i r.2])) [] true:=by
 unfold O7 iG at h;refine ot Tryz.func82 fun B N=>?_
 revert r;apply gO;exact cf zCk [some (.cells (AC q))] fun y1=>bi 14 (lF fun p=>el AE [6,7] [] p [] H0 [.nils,.i y1] (AS.tupL (l:=[.nils,.i y1]) (l':=[.ints ([]:List Int),.i y1]) rfl ⟨AS.ints_nil,At,trivial⟩)) (cf tV [some (.cells (AC q))] fun _=>lE AE [6,7] [])
end Go.Proofs.YtkjbblkieglmlaaGreatDoor
namespace Go.Proofs.YtkjbblkieglmlaaGreatDoor
open Go.RowKit
def EX (pos:List Int):Bool:=pos.any (· ==0)
theorem QG {pos:List Int}:EX pos=false↔∀ j,j<pos.length -> pos.getD j 0≠0:=by
 unfold EX;rw [List.any_eq_false];constructor
 ·intro h j hj e;refine h (pos.getD j 0) ?_ (by rw [e];rfl);rw [u8,zAQ hj];exact zDi hj
 ·intro h x hx;obtain ⟨j,hj,rfl⟩:=zEN hx;have:=h j hj;rw [u8,zAQ hj] at this;simpa using this
theorem me {pos:List Int} {n:Nat} (hl:pos.length<=LB) (hn:pos.length<n):Th n pos=some (EX pos):=by
 have hb:LB<=9223372036854775806:=by decide
 have key: ∀ (k i n:Nat),i+k=pos.length -> k+1<=n -> QF pos n (.l1 (i:Int))=some ((pos.drop i).any (· ==0)):=by
  intro k
  induction k with
  | zero=>
   intro i n e hn;obtain ⟨n,rfl⟩: ∃ k,n=k+1:=⟨n-1,by omega⟩
   show Tg n (QF pos n) pos (i:Int)=_
   unfold Tg;rw [zAE (by omega),zAC,zEU (by omega)];rfl
  | succ k ih=>
   intro i n e hn;obtain ⟨n,rfl⟩: ∃ k,n=k+1:=⟨n-1,by omega⟩;have hi:i<pos.length:=by omega
   have e2:pos.drop i=pos.getD i 0::pos.drop (i+1):=by
    rw [zDx hi,u8,zAQ hi];rfl
   have:=ih (i+1) n (by omega) (by omega)
   show Tg n (QF pos n) pos (i:Int)=_
   unfold Tg;rw [zAT (by omega),zAK,zAB ⟨by omega,by omega⟩,zAB (A0.2 ⟨by omega,by omega⟩),zAO,e2,List.any_cons];cases h:(pos.getD i 0==0)
   ·rw [zAC,zEV];exact this
   ·rfl
 have:=key pos.length 0 n (by omega) (by omega);unfold Th md;exact this
theorem SW {pos:List Int} {n:Nat} (hl:pos.length<=LB) (hn:pos.length<n):JF n pos=some (EX pos):=by
 unfold JF aA;rw [me hl hn];rfl
def posOk (q:AA) (pos:List Int):Bool:=((pos.length:Int)==q.cells)&&pos.all fun x=>decide (0<=x)&&decide (x<2 ^ q.symbols.toNat)
def NG (q:AA) (pos:List Int):Int:=if CM q then (if posOk q pos then 0 else 250) else 191
section
variable {q:AA} {i:Int} {pos:List Int} {n:Nat}
theorem ZN (hF:EM q) (hn:E8 q<=n) (hl:pos.length<=LB) (GJ:pos.length<n):NH n q pos=some (NG q pos):=by
 have hb:LB<=9223372036854775806:=by decide
 unfold NH iM NG;rw [UN hF hn,zAA];cases hv:CM q with
 | false=>rfl
 | true=>
  obtain ⟨_,hs,_⟩:=Fg hv;obtain ⟨p1,p2,p3⟩:=iI hs.1 hs.2
  show (bif ((pos.length:Int) != q.cells) then some 250 else NF q pos n (.l1 0))=some (if posOk q pos=true then 0 else 250)
  unfold posOk
  by_cases Ap:(pos.length:Int)=q.cells
  ·have h1:((pos.length:Int) != q.cells)=false:=by simpa using Ap
   have h2:((pos.length:Int)==q.cells)=true:=by simpa using Ap
   rw [h1,zAC,h2,zD5]
   have key: ∀ (k i n:Nat),i+k=pos.length -> k+1<=n -> NF q pos n (.l1 (i:Int))=some (if ((pos.drop i).all fun x=>decide (0<=x)&&decide (x<2 ^ q.symbols.toNat))=true then 0 else 250):=by
    intro k
    induction k with
    | zero=>
     intro i n e hn;obtain ⟨n,rfl⟩: ∃ k,n=k+1:=⟨n-1,by omega⟩
     show Rm n (NF q pos n) q pos (i:Int)=_
     unfold Rm;rw [zAE (by omega),zAC,zEU (by omega)];rfl
    | succ k ih=>
     intro i n e hn;obtain ⟨n,rfl⟩: ∃ k,n=k+1:=⟨n-1,by omega⟩;have hi:i<pos.length:=by omega
     have e2:pos.drop i=pos.getD i 0::pos.drop (i+1):=by
      rw [zDx hi,u8,zAQ hi];rfl
     have:=ih (i+1) n (by omega) (by omega)
     show Rm n (NF q pos n) q pos (i:Int)=_
     unfold Rm;rw [zAT (by omega),zAK,zAB ⟨by omega,by omega⟩,zAB p3,zAB (A0.2 ⟨by omega,by omega⟩),zAO,e2,zFb,p1]
     by_cases c1:pos.getD i 0<0
     ·rw [zAT c1,zAK,zAE (p:=0<=pos.getD i 0) (by omega)];rfl
     ·rw [zAE c1,zAC,zAT (p:=0<=pos.getD i 0) (by omega),zD5]
      by_cases c2:pos.getD i 0>=2 ^ q.symbols.toNat
      ·rw [zAT c2,zAK,zAE (p:=pos.getD i 0<2 ^ q.symbols.toNat) (by omega)];rfl
      ·rw [zAE c2,zAC,zAT (p:=pos.getD i 0<2 ^ q.symbols.toNat) (by omega),zD5];exact this
   exact key pos.length 0 n (by omega) (by omega)
  ·have h1:((pos.length:Int) != q.cells)=true:=by simpa using Ap
   have h2:((pos.length:Int)==q.cells)=false:=by simpa using Ap
   rw [h1,zAK,h2,zEc];rfl
def Gp (q:AA) (i:Int) (pos:List Int):Int:=if (JC q i).2=0 then NG q pos else (JC q i).2
theorem zCl (hF:EM q) (hn:E8 q<=n) (hl:pos.length<=LB) (GJ:pos.length<n):QL n q i pos=some (Gp q i pos):=by
 unfold QL cU Gp;rw [vV hF hn,zAA,ZN hF hn hl GJ,zAA]
 by_cases h:(JC q i).2=0
 ·have:((JC q i).2 != 0)=false:=by simpa using h
  rw [this,zAB h];rfl
 ·have:((JC q i).2 != 0)=true:=by simpa using h
  rw [this,zAZ h];rfl
structure B7 (q:AA) (i:Int) (pos:List Int):Prop where
 fit:EM q
 valid:CM q=true
 i0:0<=i
 i1:i<(q.cons.length:Int)
 pos:posOk q pos=true
def con (q:AA) (i:Int):AB:=q.cons.getD i.toNat default
theorem B7.of (hF:EM q) (h:Gp q i pos=0):B7 q i pos:=by
 unfold Gp JC NG at h
 by_cases hv:CM q=false
 ·rw [zAB hv] at h;rw [zAZ (by decide)] at h;exact absurd h (by decide)
 ·rw [zAZ hv] at h;have hv:CM q=true:=by simpa using hv
  by_cases hi:0<=i/\ i<(q.cons.length:Int)
  ·rw [zAB hi,zAB rfl,zAB hv] at h
   by_cases hp:posOk q pos=true
   ·exact ⟨hF,hv,hi.1,hi.2,hp⟩
   ·rw [zAZ hp] at h;exact absurd h (by decide)
  ·rw [zAZ hi,zAZ (by decide)] at h;exact absurd h (by decide)
theorem B7.check (C:B7 q i pos):Gp q i pos=0:=by
 have h1:JC q i=(Zw ((q.cons.getD i.toNat default).kind),0):=by
  unfold JC;rw [zAZ (by rw [C.valid];exact fun h=>by cases h),zAB ⟨C.i0,C.i1⟩]
 unfold Gp NG;rw [h1,zAB rfl,zAB C.valid,zAB C.pos]
theorem B7.mem (C:B7 q i pos):con q i∈q.cons:=by
 have h:=C.i0;have h1:=C.i1;unfold con;rw [u8,zAQ (by omega)];exact zDi _
theorem B7.fine (C:B7 q i pos):FI q (con q i)=true:=(Fg C.valid).2.2.2.2.2 _ C.mem
theorem B7.kind (C:B7 q i pos):GF q.cells (con q i).kind (con q i).cells.length=true:=jZ C.fine
theorem B7.len (C:B7 q i pos):(pos.length:Int)=q.cells:=by
 have h:=C.pos;unfold posOk at h;rw [zAL,zDw] at h;exact h.1
theorem B7.sm (C:B7 q i pos): ∀ j,j<pos.length -> Sm q.symbols.toNat (pos.getD j 0):=by
 intro j hj;have h:=C.pos;unfold posOk at h;rw [zAL,zAW] at h;have hm:pos.getD j 0∈pos:=by rw [u8,zAQ hj];exact zDi hj
 have:=h.2 _ hm;rw [zAL,zAi,zAi] at this;exact this
theorem B7.len256 (C:B7 q i pos):0<pos.length/\ pos.length<=256:=by
 have h:=(Fg C.valid).1;have:=C.len;omega
theorem B7.cells (C:B7 q i pos):(∀ x∈(con q i).cells,0<=x/\ x<q.cells)/\ (con q i).cells.Nodup/\ (8<=(con q i).kind -> ∀ j,j<(con q i).cells.length -> (con q i).cells.getD j 0=(j:Int)):=by
 have h:=C.fine;unfold FI at h;simp only [zAL] at h;exact zCp.1 h.1.1.1.1.1
theorem B7.work (C:B7 q i pos):C2 (con q i) q.symbols.toNat pos:=by
 obtain ⟨h1,h2,_⟩:=C.cells;have hl:=C.len;have h3:=(Fg C.valid).1;have h4:=(Fg C.valid).2.1;refine ⟨fun a ha=>?_,?_,C.sm,by omega⟩
 ·rw [hl];refine h1 _ ?_;rw [u8,zAQ ha];exact zDi ha
 ·have:=Zg pos.length _ h2 fun x hx=>by rw [hl];exact h1 x hx
  omega
theorem B7.vals (C:B7 q i pos):FN q q.symbols.toNat:=by
 obtain ⟨_,h2,⟨h3,h4⟩,_⟩:=Fg C.valid;rw [X5] at h4;refine ⟨by omega,fun s hs=>h4 _ ?_⟩;rw [u8,zAQ (by omega)];exact zDi _
theorem B7.runs (C:B7 q i pos):H6 (con q i):=by
 have h:=C.fine;unfold FI at h;simp only [zAL,zAi] at h;have h2:=X5.1 h.2;refine ⟨by have:=h.1.2;omega,fun j hj=>(h2 _ ?_).2⟩;rw [u8,zAQ hj];exact zDi hj
theorem B7.two (C:B7 q i pos) (hk:(con q i).kind=6∨(con q i).kind=7):(con q i).cells.length=2:=by
 have h:=C.kind;unfold GF at h;rcases hk with hk | hk <;> rw [hk] at h <;> simpa using h
theorem B7.all (C:B7 q i pos) (hk:(con q i).kind=8∨(con q i).kind=9) (hd:EX pos=false):HO (con q i) q pos:=by
 have h:=C.kind;have hl:=C.len;have N9:=C.len256
 have h1:((con q i).cells.length:Int)=q.cells:=by
  unfold GF at h;rcases hk with hk | hk <;> rw [hk] at h <;> simpa using h
 obtain ⟨_,_,_,⟨h5,h6⟩,_⟩:=Fg C.valid;exact ⟨by omega,fun j hj=>C.cells.2.2 (by omega) j (by omega),⟨h6,C.fit.nbrs⟩,by omega,N9.1,N9.2,fun j hj=>⟨(C.sm j hj).in64 (zAk C.work.k (by decide)),QG.1 hd j hj⟩⟩
end
def Vj (q:AA) (c:AB) (pos:List Int):Prop:=
 (c.kind=2 -> To c pos=true)/\ (c.kind=3 -> Qn q c pos=true)/\ (c.kind=5 -> LL c=true)/\ (c.kind=9 -> Zy c q pos)
def HD (q:AA) (c:AB) (pos:List Int) (a s:Nat):Prop:=
 (c.kind=1/\ XL c pos a s)∨(c.kind=2/\ ML c pos a s=true)∨(c.kind=3/\ K6 q c pos a s=true)∨(c.kind=4/\ M7 q c pos a s=true)∨(c.kind=5/\ M5 c pos a s)∨
 (c.kind=6/\ IL (IP q c) c pos a s)∨(c.kind=7/\ IL (Hi c) c pos a s)∨(c.kind=8/\ OH c q pos a s)∨(c.kind=9/\ jM c q pos a s)
def KP (q:AA) (c:AB) (pos:List Int) (r:Bool×List Int):Prop:=(r.1=true↔Vj q c pos)/\ (r.1=true -> B6 c pos (List.replicate pos.length 0) c.cells.length (HD q c pos) r.2)
def LC (q:AA) (c:AB) (pos:List Int) (j s:Nat):Prop:=∃ a,a<c.cells.length/\ (c.cells.getD a 0).toNat=j/\ HD q c pos a s
structure UF (q:AA) (c:AB) (pos:List Int):Prop where
 nz: ∀ j,j<pos.length -> pos.getD j 0≠0
 ok:Vj q c pos
 left: ∀ j,j<pos.length -> ∃ s,s<64/\ tb (pos.getD j 0) s=true/\ ¬ LC q c pos j s
structure PR (q:AA) (c:AB) (pos x:List Int):Prop where
 len:x.length=pos.length
 live:UF q c pos -> ∀ j,j<pos.length -> CH (x.getD j 0)/\ ∀ s,tb (x.getD j 0) s=true↔tb (pos.getD j 0) s=true/\ ¬ LC q c pos j s
 dead: ¬ UF q c pos -> x=List.replicate pos.length 0
theorem PR.uniq {q:AA} {c:AB} {pos:List Int} (x y:List Int) (h:PR q c pos x) (h':PR q c pos y):x=y:=by
 by_cases hA:UF q c pos
 ·have e:x.length=y.length:=h.len.trans h'.len.symm;refine zFT e fun j h1 h2=>?_
  have hj:j<pos.length:=by rw [←h.len];exact h1
  have e1:x.getD j 0=x[j]:=by simp [h1]
  have e2:y.getD j 0=y[j]:=by simp [h2]
  rw [←e1,←e2];refine Qi (h.live hA j hj).1 (h'.live hA j hj).1 fun s _=>?_
  rw [zEe,(h.live hA j hj).2,(h'.live hA j hj).2]
 ·rw [h.dead hA,h'.dead hA]
section
variable {q:AA} {i:Int} {pos:List Int}
theorem Ky:(List.replicate pos.length (0:Int)).length=pos.length:=zAe
theorem Xx (j:Nat):(List.replicate pos.length (0:Int)).getD j 0=0:=by
 rw [u8,zD7];split <;> rfl
theorem Xv: ∀ j,CH ((List.replicate pos.length (0:Int)).getD j 0):=fun j=>by rw [Xx];exact ⟨by decide,by decide⟩
theorem dN:CV pos (List.replicate pos.length 0) (fun _ _=>False) (List.replicate pos.length 0):=⟨⟨Ky,Xv⟩,fun j s=>by simp⟩
theorem B6.congr {c:AB} {lost l:List Int} {D D':Nat -> Nat -> Prop} {m:Nat} (h:B6 c pos lost m D l) (hD: ∀ a s,D' a s↔D a s):B6 c pos lost m D' l:=by
 refine ⟨h.1,fun j s=>?_⟩;rw [h.2];simp only [hD]
def He (n:Nat) (q:AA) (c:AB) (pos:List Int):Option (Bool×List Int):=
 bif c.kind==1 then QB n c q pos pos.length (List.replicate pos.length 0) else bif c.kind==2 then QH n c q pos pos.length (List.replicate pos.length 0) else
 bif c.kind==3 then Oq n c q pos pos.length (List.replicate pos.length 0) else bif c.kind==4 then LR n c q pos pos.length (List.replicate pos.length 0) else
 bif c.kind==5 then Ox n c q pos pos.length (List.replicate pos.length 0) else bif c.kind==6 then OW n c q pos pos.length (List.replicate pos.length 0) else
 bif c.kind==7 then NO n c q pos pos.length (List.replicate pos.length 0) else bif c.kind==8 then XV n c q pos pos.length (List.replicate pos.length 0) else
 bif c.kind==9 then Vs n c q pos pos.length (List.replicate pos.length 0) else none
theorem sI (C:B7 q i pos) (hd:EX pos=false):Ae (fun n=>He n q (con q i) pos) (KP q (con q i) pos):=by
 have W:=C.work;have hz:(List.replicate pos.length (0:Int)).length=pos.length:=Ky
 have all: ∀ k:Int,(con q i).kind=k -> ∀ {f:Nat -> Option (Bool×List Int)} {N:Nat} {ok:Bool} {D:Nat -> Nat -> Prop},(∀ n,N<=n -> ∃ l,f n=some (ok,l)/\ (ok=true -> B6 (con q i) pos (List.replicate pos.length 0) (con q i).cells.length D l)) -> (ok=true↔Vj q (con q i) pos) -> (∀ a s,HD q (con q i) pos a s↔D a s) -> Ae f (KP q (con q i) pos):=by
  intro k _ f N ok D h Ds hD;refine ⟨N,fun n hn=>?_⟩;obtain ⟨l,h1,h2⟩:=h n hn;exact ⟨(ok,l),h1,Ds,fun h3=>(h2 h3).congr hD⟩
 have kc:=SS (SR C.kind);have Rs: ∀ {k:Int},(con q i).kind=k -> k≠2 -> k≠3 -> k≠5 -> k≠9 -> Vj q (con q i) pos:=fun hk h2 h3 h5 h9=>⟨fun h=>absurd (hk.symm.trans h) h2,fun h=>absurd (hk.symm.trans h) h3,fun h=>absurd (hk.symm.trans h) h5,fun h=>absurd (hk.symm.trans h) h9⟩
 rcases kc with hk | hk | hk | hk | hk | hk | hk | hk | hk
 ·refine Ae.eq (all 1 hk (f:=fun n=>QB n (con q i) q pos pos.length (List.replicate pos.length 0)) (N:=2*(con q i).cells.length+2) (ok:=true) (D:=XL (con q i) pos) (fun n hn=>?_) ⟨fun _=>Rs hk (by decide) (by decide) (by decide) (by decide),fun _=>rfl⟩ fun a s=>?_) fun n=>?_
  ·obtain ⟨l,h1,h2⟩:=zBr (q:=q) W hz hn;exact ⟨l,h1,fun _=>h2⟩
  ·unfold HD;rw [hk];simp
  ·unfold He;rw [hk];rfl
 ·refine Ae.eq (all 2 hk (f:=fun n=>QH n (con q i) q pos pos.length (List.replicate pos.length 0)) (N:=2*(con q i).cells.length+3) (ok:=To (con q i) pos) (D:=fun a s=>ML (con q i) pos a s=true) (fun n hn=>?_) ⟨fun h=>⟨fun _=>h,fun h=>absurd (hk.symm.trans h) (by decide),fun h=>absurd (hk.symm.trans h) (by decide),fun h=>absurd (hk.symm.trans h) (by decide)⟩,fun h=>h.1 hk⟩ fun a s=>?_) fun n=>?_
  ·exact zCA (q:=q) W hz hn
  ·unfold HD;rw [hk];simp
  ·unfold He;rw [hk];rfl
 ·refine Ae.eq (all 3 hk (f:=fun n=>Oq n (con q i) q pos pos.length (List.replicate pos.length 0)) (N:=2*(con q i).cells.length+3) (ok:=Qn q (con q i) pos) (D:=fun a s=>K6 q (con q i) pos a s=true) (fun n hn=>?_) ⟨fun h=>⟨fun h=>absurd (hk.symm.trans h) (by decide),fun _=>h,fun h=>absurd (hk.symm.trans h) (by decide),fun h=>absurd (hk.symm.trans h) (by decide)⟩,fun h=>h.2.1 hk⟩ fun a s=>?_) fun n=>?_
  ·exact ow W C.vals hz hn
  ·unfold HD;rw [hk];simp
  ·unfold He;rw [hk];rfl
 ·refine Ae.eq (all 4 hk (f:=fun n=>LR n (con q i) q pos pos.length (List.replicate pos.length 0)) (N:=2*(con q i).cells.length+3) (ok:=true) (D:=fun a s=>M7 q (con q i) pos a s=true) (fun n hn=>?_) ⟨fun _=>Rs hk (by decide) (by decide) (by decide) (by decide),fun _=>rfl⟩ fun a s=>?_) fun n=>?_
  ·obtain ⟨l,h1,h2⟩:=sQ W C.vals hz hn;exact ⟨l,h1,fun _=>h2⟩
  ·unfold HD;rw [hk];simp
  ·unfold He;rw [hk];rfl
 ·obtain ⟨l,⟨N,h1⟩,h2⟩:=re (q:=q) W C.runs hz Xv;refine Ae.eq (all 5 hk (N:=N) (ok:=LL (con q i)) (D:=M5 (con q i) pos) (fun n hn=>⟨l,h1 n hn,h2⟩) ⟨fun h=>⟨fun h=>absurd (hk.symm.trans h) (by decide),fun h=>absurd (hk.symm.trans h) (by decide),fun _=>h,fun h=>absurd (hk.symm.trans h) (by decide)⟩,fun h=>h.2.2.1 hk⟩ fun a s=>?_) fun n=>?_
  ·unfold HD;rw [hk];simp
  ·unfold He;rw [hk];rfl
 ·refine Ae.eq (all 6 hk (f:=fun n=>OW n (con q i) q pos pos.length (List.replicate pos.length 0)) (N:=0) (ok:=true) (D:=IL (IP q (con q i)) (con q i) pos) (fun n hn=>?_) ⟨fun _=>Rs hk (by decide) (by decide) (by decide) (by decide),fun _=>rfl⟩ fun a s=>?_) fun n=>?_
  ·obtain ⟨l,h1,h2⟩:=zDQ (n:=n) W C.vals (C.two (.inl hk)) hz;exact ⟨l,h1,fun _=>h2⟩
  ·unfold HD;rw [hk];simp
  ·unfold He;rw [hk];rfl
 ·refine Ae.eq (all 7 hk (f:=fun n=>NO n (con q i) q pos pos.length (List.replicate pos.length 0)) (N:=0) (ok:=true) (D:=IL (Hi (con q i)) (con q i) pos) (fun n hn=>?_) ⟨fun _=>Rs hk (by decide) (by decide) (by decide) (by decide),fun _=>rfl⟩ fun a s=>?_) fun n=>?_
  ·obtain ⟨l,h1,h2⟩:=ud (n:=n) (q:=q) W (C.two (.inr hk)) hz;exact ⟨l,h1,fun _=>h2⟩
  ·unfold HD;rw [hk];simp
  ·unfold He;rw [hk];rfl
 ·obtain ⟨l,⟨N,h1⟩,h2⟩:=zCQ (C.all (.inl hk) hd) dN;refine Ae.eq (all 8 hk (N:=N) (ok:=true) (D:=OH (con q i) q pos) (fun n hn=>⟨l,h1 n hn,fun _=>h2.by (C.all (.inl hk) hd)⟩) ⟨fun _=>Rs hk (by decide) (by decide) (by decide) (by decide),fun _=>rfl⟩ fun a s=>?_) fun n=>?_
  ·unfold HD;rw [hk];simp
  ·unfold He;rw [hk];rfl
 ·refine Ae.eq ((vJ (C.all (.inr hk) hd) dN).mono fun r hr=>⟨?_,fun h=>((hr.2 h).by (C.all (.inr hk) hd)).congr fun a s=>?_⟩) fun n=>?_
  ·rw [hr.1];exact ⟨fun h=>⟨fun h=>absurd (hk.symm.trans h) (by decide),fun h=>absurd (hk.symm.trans h) (by decide),fun h=>absurd (hk.symm.trans h) (by decide),fun _=>h⟩,fun h=>h.2.2.2 hk⟩
  ·unfold HD;rw [hk];simp
  ·unfold He;rw [hk];rfl
theorem oX {n:Nat} {o2:List Int} (hl:o2.length=pos.length) (N9:pos.length<=256) (hn:600<=n):
 ∃ x,x.length=pos.length/\ (∀ j,j<pos.length -> x.getD j 0=bits .andNot .i64 (pos.getD j 0) (o2.getD j 0))/\ II q i pos n (.l2 pos.length (pos.length:Int) 0 o2 pos)=some (if EX x then List.replicate pos.length 0 else x):=by
 have lb:(256:Nat)<=LB:=by decide
 obtain ⟨n1,x,GK,_,e,hx,KT,Ng⟩:=HE (fun n (o3:List Int) k=>II q i pos n (.l2 pos.length (pos.length:Int) k o2 o3)) pos.length 260
  (fun k o3=>o3.length=pos.length/\ (∀ j,j<k -> o3.getD j 0=bits .andNot .i64 (pos.getD j 0) (o2.getD j 0))/\ ∀ j,k<=j -> o3.getD j 0=pos.getD j 0) (fun n k o3 Gf hk hI=>by
   obtain ⟨h1,h2,h3⟩:=hI
   show ∃ s',Ri n (II q i pos n) q i pos pos.length (pos.length:Int) (k:Int) o2 o3=_/\ _
   unfold Ri;simp only [zAO,zAj];rw [zAT (by omega),zAK,zAB ⟨⟨by omega,by omega⟩,by omega,⟨by omega,by omega⟩,by omega,A0.2 ⟨by omega,by omega⟩⟩];refine ⟨_,rfl,by rw [zAl];exact h1,fun j hj=>?_,fun j hj=>?_⟩
   ·by_cases e:k=j
    ·subst e;rw [JW (by omega),h3 k (by omega)]
    ·rw [getD_set_ne e];exact h2 j (by omega)
   ·rw [getD_set_ne (by omega)];exact h3 j (by omega)) (n:=n) (s:=pos) (by omega) ⟨rfl,fun j hj=>absurd hj (zAf j),fun j _=>rfl⟩
 obtain ⟨n2,rfl⟩: ∃ n2,n1=n2+1:=⟨n1-1,by omega⟩;refine ⟨x,hx,KT,Eq.trans e ?_⟩
 show Ri n2 (II q i pos n2) q i pos pos.length (pos.length:Int) (pos.length:Int) o2 x=_
 unfold Ri;rw [zAE (by omega),zAC,zAB hx.symm,SW (by omega) (by omega),zAA];cases EX x
 ·rfl
 ·rw [zAK,zAB Ky.symm];rfl
def Uc (n:Nat) (q:AA) (i:Int) (pos:List Int) (y2:Bool×List Int):Option (List Int):=
 bif (!y2.1) then (if pos.length=(List.replicate pos.length (0:Int)).length then some (List.replicate pos.length (0:Int)) else none) else II q i pos n (.l1 y2.2)
theorem oY (C:B7 q i pos) (hd:EX pos=false) {n:Nat} (hn:601<=n) {y2:Bool×List Int} (hy:KP q (con q i) pos y2): ∃ x,Uc n q i pos y2=some x/\ PR q (con q i) pos x:=by
 have N9:=C.len256;have L:(1000000000000:Nat)=BB:=rfl;have nz:=QG.1 hd;obtain ⟨b,lost⟩:=y2;obtain ⟨Ds,WZ⟩:=hy;unfold Uc;cases b with
 | false=>
  refine ⟨_,by rw [zEC,zAK,zAB Ky.symm],Ky,fun hA=>?_,fun _=>rfl⟩;have:=Ds.2 hA.ok;cases this
 | true=>
  have Ds:=Ds.1 rfl;have WZ:B6 (con q i) pos (List.replicate pos.length 0) (con q i).cells.length (HD q (con q i) pos) lost:=WZ rfl;obtain ⟨n,rfl⟩: ∃ k,n=k+1:=⟨n-1,by omega⟩;obtain ⟨x,h1,h2,h3⟩:=oX (q:=q) (i:=i) (n:=n) WZ.1 N9.2 (by omega)
  have hx: ∀ j,j<pos.length -> CH (x.getD j 0)/\ ∀ s,tb (x.getD j 0) s=true↔tb (pos.getD j 0) s=true/\ ¬ LC q (con q i) pos j s:=fun j hj=>by
   rw [h2 j hj];refine ⟨Ko _ _ _,fun s=>?_⟩;rw [Ub,zAL,zEM,←zFU,WZ.2,Xx];constructor
   ·rintro ⟨h4,h5⟩;refine ⟨h4,fun ⟨a,ha,e,hs⟩=>h5 (.inr ⟨a,ha,e,?_,hs⟩)⟩
    show tb (pos.getD ((con q i).cells.getD a 0).toNat 0) s=true
    rw [e];exact h4
   ·rintro ⟨h4,h5⟩;refine ⟨h4,fun h6=>h6.elim (fun h=>Mn h) fun ⟨a,ha,e,_,hs⟩=>h5 ⟨a,ha,e,hs⟩⟩
  have A4:Xb n pos=some pos:=by
   unfold Xb mn;rw [zAB ⟨N9.1,trivial,⟨rfl,rfl⟩,by rw [←L];simp only [zD9];omega⟩,zAB (by simp)];rfl
  have e:II q i pos (n+1) (.l1 lost)=some (if EX x then List.replicate pos.length 0 else x):=by
   show ZF n (II q i pos n) q i pos lost=_
   unfold ZF;rw [A4,zAA];exact h3
  refine ⟨_,by rw [zD2,zAC];exact e,?_,fun hA j hj=>?_,fun hA=>?_⟩
  ·split
   ·exact Ky
   ·exact h1
  ·rw [zAZ]
   ·exact hx j hj
   ·rw [zFU,QG];intro j hj;rw [h1] at hj;obtain ⟨s,hs,h4,h5⟩:=hA.left j hj;exact (Qh (hx j hj).1).2 ⟨s,hs,((hx j hj).2 s).2 ⟨h4,h5⟩⟩
  ·rw [zAB];refine Classical.byContradiction fun h=>hA ?_
   rw [zFU,QG] at h;refine ⟨nz,Ds,fun j hj=>?_⟩;obtain ⟨s,hs,h4⟩:=(Qh (hx j hj).1).1 (h j (by omega));exact ⟨s,hs,((hx j hj).2 s).1 h4⟩
theorem tU (C:B7 q i pos): ∃ x,Ev (fun n=>I2 n q i pos) x/\ PR q (con q i) pos x:=by
 have N9:=C.len256;have lb:(256:Nat)<=LB:=by decide
 have hi:0<=i/\ i<(q.cons.length:Int):=⟨C.i0,C.i1⟩;cases hd:EX pos
 ·suffices H:Ae (fun n=>I2 n q i pos) (PR q (con q i) pos) by
   obtain ⟨x,h1,h2⟩:=H.ev PR.uniq;exact ⟨x,h2,h1⟩
  obtain ⟨N,hN⟩:=Ae.bindU (sI C hd) (b:=fun n y2=>Uc n q i pos y2) (Q:=PR q (con q i) pos) ⟨601,fun n hn y2 hy=>oY C hd hn hy⟩;refine ⟨N+300,fun n hn=>?_⟩;obtain ⟨x,h1,h2⟩:=hN n (by omega);refine ⟨x,Eq.trans ?_ h1,h2⟩
  show I2 n q i pos=(He n q (con q i) pos).bind fun y2=>Uc n q i pos y2
  unfold I2 ZG;rw [zAB ⟨rfl,by omega,by omega⟩,SW (by omega) (by omega),hd,zAA,zAC,zAB hi];have hc:q.cons.getD i.toNat default=con q i:=rfl;rw [hc];have kc:=SS (SR C.kind);unfold He;rcases kc with hk | hk | hk | hk | hk | hk | hk | hk | hk <;> rw [hk] <;> rfl
 ·refine ⟨List.replicate pos.length 0,⟨300,fun n hn=>?_⟩,Ky,fun hA=>?_,fun _=>rfl⟩
  ·show I2 n q i pos=_
   unfold I2 ZG;rw [zAB ⟨rfl,by omega,by omega⟩,SW (by omega) (by omega),hd,zAA,zAK,zAB Ky.symm]
  ·have:=QG.2 hA.nz;rw [hd] at this;cases this
def PrP (q:AA) (i:Int) (pos:List Int) (r:List Int×Int):Prop:=r.2=Gp q i pos/\ (r.2=0 -> PR q (con q i) pos r.1)/\ (r.2≠0 -> r.1= [])
theorem iD (hF:EM q) (hl:pos.length<=LB): ∃ r,Ev (fun n=>O7 n q i pos) r/\ PrP q i pos r:=by
 have hE:Ev (fun n=>QL n q i pos) (Gp q i pos):=⟨E8 q+pos.length+1,fun n hn=>zCl hF (by omega) hl (by omega)⟩
 by_cases h0:Gp q i pos=0
 ·obtain ⟨x,h1,h2⟩:=tU (B7.of hF h0);refine ⟨(x,0),?_,h0.symm,fun _=>h2,fun h=>absurd rfl h⟩;refine Ev.eq (Ev.bind hE (b:=fun n y1=>bif (y1 != 0) then some (([]:List Int),y1) else (I2 n q i pos).bind fun y2=>some (y2,0)) ?_) fun n=>rfl
  rw [h0];exact Ev.bind h1 (b:=fun _ y2=>some (y2,0)) (Ev.now fun n=>rfl)
 ·refine ⟨([],Gp q i pos),?_,rfl,fun h=>absurd h h0,fun _=>rfl⟩;refine Ev.eq (Ev.bind hE (b:=fun n y1=>bif (y1 != 0) then some (([]:List Int),y1) else (I2 n q i pos).bind fun y2=>some (y2,0)) (Ev.now fun n=>?_)) fun n=>rfl
  have:(Gp q i pos != 0)=true:=by simpa using h0
  rw [this];rfl
end
end Go.Proofs.YtkjbblkieglmlaaGreatDoor
namespace Go.Proofs.YtkjbblkieglmlaaGreatDoor
open Go.RowKit
set_option maxRecDepth 100000
set_option maxHeartbeats 40000000
def zDZ (n:Nat) (s_:Int):Option Unit:=
 some ()
def zDa (n:Nat) (s_:Int):Option Unit:=zDZ n s_
theorem zDY {n:Nat} (s_:Int) {r:Unit} (h:zDa n s_=some r):EQ 107 [.int .u64 s_] [] (.fn 142 1 (L1 [.ref 0 0])) [some (.cells [.int .u64 s_])] true:=by
 refine ot Tryz.func107 fun B N=>?_
 revert r;apply gO;exact lE AE [2] [0]
inductive QU where
 | l1 (x3:Int)
def Kr (n:Nat) (self:QU -> Option (List Int)) (s_:Int) (x3:Int):Option (List Int):=
 if 0<=x3/\ x3<=(IntKind.u64.bits:Int) then
  bif ((s_/2 ^ (x3).toNat) != 0) then
   bif (decide (x3<64)) then
    bif ((bits .and .u64 (s_/2 ^ (x3).toNat) 1)==1) then
     if 0<=x3/\ x3<=(IntKind.u64.bits:Int) then
      bif ((bits .and .u64 (s_/2 ^ (x3).toNat) 1)==1) then
       Option.map (fun l=>x3::l) (
        if AL (x3+1) then
         self (.l1 (x3+1))
        else none)
      else
       if AL (x3+1) then
        self (.l1 (x3+1))
       else none
     else none
    else
     if AL (x3+1) then
      self (.l1 (x3+1))
     else none
   else
    some []
  else
   some []
 else none
def nk (n:Nat) (self:QU -> Option (List Int)) (s_:Int):Option (List Int):=
 self (.l1 0)
def Gs (s_:Int):Nat -> QU -> Option (List Int)
 | 0,_=>none
 | n+1,.l1 x3=>Kr n (Gs s_ n) s_ x3
def Ks (n:Nat) (s_:Int):Option (List Int):=nk n (Gs s_ n) s_
def dE (C:Bb Tryz.prog) (n:Nat) (s_:Int) (r:List Int):QU -> Prop
 | .l1 x3=>∀ m0:Nat,n<=m0 -> ∀ i:Nat,i<=C.encs.length -> C.encs.drop i=r.map BQ -> An Tryz.prog GG Fence.wide none 1 (C.Y GG 1 i) (C.Q GG 1) (A8 m0 (BL (AY Tryz.f142) 0 [])) ⟨AG 25 [(0,.yl C.l),(1,.ref 0 0),(3,.i x3)],[some (.cells [.int .u64 s_])]⟩
theorem zDb (C:Bb Tryz.prog) (n:Nat) (self:QU -> Option (List Int)) (s_:Int) (AK: ∀ pt r,self pt=some r -> dE C n s_ r pt) (x3:Int) (r:List Int) (h:Kr n self s_ x3=some r):dE C (n+1) s_ r (.l1 x3):=by
 intro m0 AD;intro i hi hd;refine rd AD fun m0 AD=>?_
 unfold Kr at h;obtain ⟨g0,h⟩:=Bu h;have p:=H0.g g0;rcases Bt h with ⟨c0,h⟩ | ⟨c0,h⟩
 ·have p:=p.b 7 c0;rcases Bt h with ⟨c1,h⟩ | ⟨c1,h⟩
  ·have p:=p.b 10 c1 |>.g g0
   rcases Bt h with ⟨c2,h⟩ | ⟨c2,h⟩
   ·have p:=H0.g g0 |>.b 7 c0 |>.b 10 c1
    refine gs (AR 3 AE) [0] p (CO (AY Tryz.f142) 3 [m0]) (AG 25 [(0,.yl C.l),(1,.ref 0 0),(3,.i x3)]) [some (.cells [.int .u64 s_])] ?_;obtain ⟨g1,h⟩:=Bu h;have p:=H0.g g1;rcases Bt h with ⟨c0,h⟩ | ⟨c0,h⟩
    ·have p:=p.b 18 c0;obtain ⟨r,h2,rfl⟩:=KH h;clear h;have h:=h2;clear h2;obtain ⟨hx,hi,hd⟩:=Ta hd;refine An.y (ops:=Ag Tryz.f142 3) HC.x 8 [0,1,3,24] [0] p (x:=BQ x3) (AG 25 [(0,.yl C.l),(1,.ref 0 0),(3,.i x3),(24,.bool false)]) [some (.cells [.int .u64 s_])] (AG 25 [(0,.yl C.l),(1,.ref 0 0),(3,.i x3),(24,.bool true)]) [some (.cells [.int .u64 s_])] (by kernel_rfl) (by kernel_rfl) (by kernel_rfl) hx (by kernel_rfl) ?_ ?_
     ·generalize i+1=i at hi hd ⊢
      obtain ⟨g2,h⟩:=Bu h;have p:=H0.w 13 g2;exact gg AE [0] p (AK _ _ h m0 AD i hi hd)
     ·exact TrI.e HC.x AE 6 H0 (by kernel_rfl) (.inr rfl)
    ·obtain ⟨g2,h⟩:=Bu h;have p:=p.b 18 c0 |>.w 13 g2
     exact gg AE [0] p (AK _ _ h m0 AD i hi hd)
   ·obtain ⟨g1,h⟩:=Bu h;have p:=p.b 18 c2 |>.w 13 g1
    exact gg AE [0] p (AK _ _ h m0 AD i hi hd)
  ·have p:=p.b 10 c1;cases h;exact TrI.e HC.x AE 10 p (by kernel_rfl) (.inl (by rw [OF hi hd]))
 ·have p:=p.b 7 c0;cases h;exact TrI.e HC.x AE 10 p (by kernel_rfl) (.inl (by rw [OF hi hd]))
theorem nl (C:Bb Tryz.prog) (s_:Int): ∀ (n:Nat) (pt:QU) (r:List Int),Gs s_ n pt=some r -> dE C n s_ r pt
 | 0,_,_,h=>by cases h
 | n+1,.l1 x3,r,h=>zDb C n (Gs s_ n) s_ (nl C s_ n) x3 r h
theorem zDc {n:Nat} (s_:Int) {r:List Int} (h:Ks n s_=some r) (C:Bb Tryz.prog) (hC:C.encs=r.map BQ):An Tryz.prog GG Fence.wide none 1 (C.Y GG 1 0) (C.Q GG 1) [.code (AY Tryz.f142)] ⟨AG 25 [(0,.yl C.l),(1,.ref 0 0)],[some (.cells [.int .u64 s_])]⟩:=by
 suffices H: ∀ i:Nat,i<=C.encs.length -> C.encs.drop i=r.map BQ -> An Tryz.prog GG Fence.wide none 1 (C.Y GG 1 i) (C.Q GG 1) [.code (AY Tryz.f142)] ⟨AG 25 [(0,.yl C.l),(1,.ref 0 0)],[some (.cells [.int .u64 s_])]⟩ from H 0 (zEf _) (by rw [zE8];exact hC)
 intro i hi hd;have AK:=nl C s_ n;unfold Ks at h
 generalize Gs s_ n=self at h AK
 unfold nk at h;have p:=H0;exact gg AE [0] p (en n (AK _ _ h n Nat.le.refl i hi hd))
theorem dB {n:Nat} {s_:Int} {r:List Int} (h:Ks n s_=some r) (H:DH):EQ 107 [.int .u64 s_] H (.it H.length) (H++[some (.iter (r.map BQ))]) true:=by
 refine ES.iterN (c:=L1 [.ref 0 0]) (h0:=[some (.cells [.int .u64 s_])]) (fn:=Tryz.f142) (zDY (n:=0) s_ (r:=()) rfl) (by kernel_rfl) Tryz.func142 (by kernel_rfl) (by kernel_rfl) (by kernel_rfl) (fun C hC=>?_) H;have e:DV.yl C.l::(List.range 1).map (L1 [.ref 0 0])++List.replicate (Tryz.f142.ntmps-(1+1)) .any=AG 25 [(0,.yl C.l),(1,.ref 0 0)]:=by kernel_rfl
 rw [e];exact zDc s_ h C hC
inductive LE where
 | s0 (Iz:Int)
def fj:LE -> DH
 | .s0 Iz=>[some (.cells [.i Iz]),none]
def Q0 (n:Nat) (e5:Int) (Iz:Int):Option LE:=
 if AL (Iz+1) then
  some (.s0 (Iz+1))
 else none
def pu (n:Nat) (e5:Int):LE -> Option LE
 | .s0 Iz=>Q0 n e5 Iz
def Up (n:Nat) (e5:Int) (s:LE):Option LE:=pu n e5 s
theorem pr (n:Nat) (l B:Nat) (N:Yd 2) (e5:Int) (s:LE) (r:LE) (h:Up n e5 s=some r):TA l B N (Cb 2 [] 0 (fj r)) Tryz.f85 5 ⟨AG 10 [(2,.ref 0 0),(5,.it 1),(6,.i e5)],fj s⟩:=by
 cases s with
 | s0 Iz=>
  replace h:Q0 n e5 Iz=some r:=h;unfold Q0 at h;refine ag AE [0,1] H0 (AG 10 [(2,.ref 0 0)]) [some (.cells [.i Iz]),none] fun N=>?_
  revert r;apply gO;exact gw 8 (jt (lF fun p=>rr AE [0,1] rfl p))
def Uo (n:Nat) (s_:Int):Option Int:=
 (Ks n (IntKind.u64.wrap s_)).bind fun y1=>
  (Bn (Up n) y1 (.s0 0)).bind fun y2=>
   match y2 with
   | .s0 EA=>
    some EA
def Q1 (n:Nat) (s_:Int):Option Int:=Uo n s_
theorem fh {n:Nat} {s_:Int} {r:Int} (h:Q1 n s_=some r):EQ 85 [.i s_] [] (.i r) [] true:=by
 unfold Q1 Uo at h;refine ot Tryz.func85 fun B N=>?_
 revert r;apply gO
 exact cn fun y1 A5=>jc (dB A5 [some (.cells [.i 0])]) (cn fun y2 Bz=>fun p r h=>by
  refine gs AE [0,1] p (Fe (AY Tryz.f85) 5 []) (AG 10 [(2,.ref 0 0),(5,.it 1)]) [some (.cells [.i 0]),some (.iter ((y1).map BQ))] ?_;refine r0 1 5 #[6] BQ 2 Bz (pr n) ?_;cases y2 with
  | s0 EA=>
   dsimp only at h
   revert r;apply gO;exact jt (lE AE [2] [0]))
end Go.Proofs.YtkjbblkieglmlaaGreatDoor
namespace Go.Proofs.YtkjbblkieglmlaaGreatDoor
open Go.RowKit
def Cd (x:Int) (i:Nat):List Nat:=(List.range' i (16-i)).filter fun s=>tb x s
theorem fu {x:Int} {i:Nat} (h:i<16):Cd x i=if tb x i then i::Cd x (i+1) else Cd x (i+1):=by
 unfold Cd;rw [show 16-i=(16-(i+1))+1 by omega,zFy,List.filter_cons]
theorem u6 {x:Int} {s:Nat}:s∈Cd x 0↔s<16/\ tb x s=true:=by
 unfold Cd;rw [zFC,zFp];simp
theorem zC2 (a:Int):bits .and .u64 a 1=bits .and .i64 a 1:=by
 show IntKind.u64.wrap ((BitVec.ofInt 64 a&&& BitVec.ofInt 64 1).toNat:Int)=IntKind.i64.wrap ((BitVec.ofInt 64 a&&& BitVec.ofInt 64 1).toNat:Int)
 have h:(BitVec.ofInt 64 a&&& BitVec.ofInt 64 1).toNat<=1:=by
  rw [BitVec.toNat_and];exact Nat.and_le_right
 generalize (BitVec.ofInt 64 a&&& BitVec.ofInt 64 1).toNat=m at h
 rw [IntKind.wrap_u64,zFw];omega
section
variable {x:Int}
theorem fl (h:Sm 16 x) {i:Nat} (h0:x/2 ^ i=0):Cd x i= []:=by
 have AN:x<2 ^ i:=by
  have hp:(0:Int)<2 ^ i:=Int.pow_pos (by decide);have:=Int.mul_ediv_add_emod x (2 ^ i);have hm:=Int.emod_lt_of_pos x hp;rw [h0] at this;simp at this;omega
 unfold Cd;rw [zFo];intro s hs ht;rw [zFp] at hs;have:tb x s=false:=Sm.hi (k:=i) ⟨h.1,AN⟩ hs.1;rw [this] at ht;cases ht
theorem dD (h:Sm 16 x): ∀ (k i:Nat),i+k=16 -> Ev (fun n=>Gs x n (.l1 (i:Int))) ((Cd x i).map fun (s:Nat)=>(s:Int))
 | 0,i,e=>by
  have h0:x/2 ^ i=0:=by
   rw [show i=16 by omega];exact Int.ediv_eq_zero_of_lt h.1 h.2
  refine Ev.one fun n=>?_
  show Kr n (Gs x n) x (i:Int)=_
  unfold Kr;rw [zAB ⟨by omega,by show (i:Int)<=((64:Nat):Int);omega⟩,zAO,h0,fl h h0];rfl
 | k+1,i,e=>by
  have ih:=dD h k (i+1) (by omega);have r1:AL ((i:Int)+1):=A0.2 ⟨by omega,by omega⟩;have g:(0:Int)<=(i:Int)/\ (i:Int)<=(IntKind.u64.bits:Int):=⟨by omega,by show (i:Int)<=((64:Nat):Int);omega⟩
  by_cases h0:x/2 ^ i=0
  ·refine Ev.one fun n=>?_
   show Kr n (Gs x n) x (i:Int)=_
   unfold Kr;rw [zAB g,zAO,h0,fl h h0];rfl
  ·have step: ∀ n,Gs x (n+1) (.l1 (i:Int))=bif tb x i then (Gs x n (.l1 ((i+1:Nat):Int))).map (fun l=>(i:Int)::l) else Gs x n (.l1 ((i+1:Nat):Int)):=fun n=>by
    show Kr n (Gs x n) x (i:Int)=_
    unfold Kr;rw [zAB g,zAO,zE3.2 h0,zAK,zAT (by omega),zAK,zC2,Yb h (by decide) (by omega),zAB r1,show ((i+1:Nat):Int)=(i:Int)+1 by omega];cases tb x i
    ·rfl
    ·rw [zAK,zAK,zAB g]
   rw [fu (by omega)];obtain ⟨N,ih⟩:=ih;refine ⟨N+1,fun n hn=>?_⟩;obtain ⟨n,rfl⟩: ∃ k,n=k+1:=⟨n-1,by omega⟩
   show Gs x (n+1) (.l1 (i:Int))=_
   rw [step n,show Gs x n (.l1 ((i+1:Nat):Int))=_ from ih n (by omega)];cases tb x i <;> rfl
theorem fg {n:Nat}: ∀ (l:List Int) (k:Nat),k+l.length<=64 -> Bn (Up n) l (.s0 (k:Int))=some (.s0 ((k+l.length:Nat):Int))
 | [],k,_=>rfl
 | a::l,k,h=>by
  rw [zDl] at h
  show (Q0 n a (k:Int)).bind _=_
  unfold Q0;rw [zAB (A0.2 ⟨by omega,by omega⟩),zAA,show (k:Int)+1=((k+1:Nat):Int) by omega,fg l (k+1) (by omega),zDl]
  congr 3
  omega
theorem py:(Cd x 0).length<=16:=by
 unfold Cd;exact zAk (List.length_filter_le _ _) (by simp)
theorem pq (h:Sm 16 x):Ev (fun n=>Q1 n x) ((Cd x 0).length:Int):=by
 have e:IntKind.u64.wrap x=x:=by
  have h1:=h.1;have h2:x<65536:=h.2;rw [IntKind.wrap_u64];omega
 have hl:=py (x:=x);refine Ev.eq (Ev.bind (dD h 16 0 (by omega)) (b:=fun n y1=>(Bn (Up n) y1 (.s0 0)).bind fun y2=>match y2 with | .s0 y=>some y) (Ev.now fun n=>?_)) fun n=>?_
 ·have:=fg (n:=n) ((Cd x 0).map fun (s:Nat)=>(s:Int)) 0 (by rw [zAn];omega);rw [zAj,zAn] at this;rw [show ((0:Nat):Int)=0 from rfl] at this;rw [this];rfl
 ·show Uo n x=_
  unfold Uo;rw [e];rfl
end
end Go.Proofs.YtkjbblkieglmlaaGreatDoor
namespace Go.Proofs.YtkjbblkieglmlaaGreatDoor
open Go.RowKit
theorem mf {α:Type} {f g:α -> Bool}: ∀ (l:List α),(∀ x∈l,f x=true -> g x=true) -> l.countP f<=l.countP g
 | [],_=>zAm _
 | x::l,h=>by
  have h1:=mf l fun y hy=>h y (zDt _ hy)
  have h2:=h x zEF;rw [zEs,zEs];cases hf:f x
  ·simp only [zDs,zEg];omega
  ·rw [h2 hf];simp only [zEG];omega
theorem XP {α:Type} {f g:α -> Bool} {a:α} (hf:f a=false) (hg:g a=true): ∀ (l:List α),(∀ x∈l,f x=true -> g x=true) -> a∈l -> l.countP f+1<=l.countP g
 | [],_,h=>by cases h
 | x::l,h,ha=>by
  rw [zEs,zEs];rcases zDu.1 ha with rfl | ha
  ·have h1:=mf l fun y hy=>h y (zDt _ hy)
   rw [hf,hg,zAB rfl];simp only [zDs,zEg];omega
  ·have h1:=XP hf hg l (fun y hy=>h y (zDt _ hy)) ha;have h2:=h x zEF;cases hx:f x
   ·simp only [zDs,zEg];omega
   ·rw [h2 hx];simp only [zEG];omega
section
variable {q:AA} {i:Int} {p p':List Int}
section
variable {c:AB}
end
end
end Go.Proofs.YtkjbblkieglmlaaGreatDoor
namespace Go.Proofs.YtkjbblkieglmlaaGreatDoor
open Go.RowKit
section
variable {q:AA} {i:Int} {pos x:List Int}
theorem PR.sub {c:AB} (h:PR q c pos x) {j s:Nat} (hs:tb (x.getD j 0) s=true):j<pos.length/\ tb (pos.getD j 0) s=true:=by
 have hj:j<pos.length:=by
  refine zEl fun DL=>?_
  rw [u8,zEJ (by have:=h.len;omega)] at hs;exact Mn hs
 refine ⟨hj,?_⟩
 by_cases hA:UF q c pos
 ·exact (((h.live hA j hj).2 s).1 hs).1
 ·rw [h.dead hA,Xx] at hs;exact absurd hs Mn
theorem PR.in64 {c:AB} (h:PR q c pos x) (j:Nat):CH (x.getD j 0):=by
 by_cases hA:UF q c pos
 ·by_cases hj:j<pos.length
  ·exact (h.live hA j hj).1
  ·rw [u8,zEJ (by have:=h.len;omega)];exact ⟨by decide,by decide⟩
 ·rw [h.dead hA];exact Xv j
theorem I3 (hv:CM q=true) {y:List Int}:posOk q y=true↔(y.length:Int)=q.cells/\ ∀ j,j<y.length -> Sm q.symbols.toNat (y.getD j 0):=by
 unfold posOk;rw [zAL,zDw,zAW];constructor
 ·rintro ⟨h1,h2⟩;refine ⟨h1,fun j hj=>?_⟩;have hm:y.getD j 0∈y:=by rw [u8,zAQ hj];exact zDi hj
  have:=h2 _ hm;rw [zAL,zAi,zAi] at this;exact this
 ·rintro ⟨h1,h2⟩;refine ⟨h1,fun z hz=>?_⟩;obtain ⟨j,hj,rfl⟩:=zEN hz;have:=h2 j hj;rw [u8,zAQ hj] at this;rw [zAL,zAi,zAi];exact this
end
section
variable {q:AA} {i:Int} {p p' x z:List Int}
end
section
variable {q:AA} {i:Int} {a b:List Int}
theorem tY (C:B7 q i a): ∃ x,Ev (fun n=>O7 n q i a) (x,0)/\ PR q (con q i) a x:=by
 obtain ⟨r,h1,h2,h3,_⟩:=iD (i:=i) C.fit (pos:=a) (zAk C.len256.2 (by decide));obtain ⟨x,e⟩:=r;have e0:e=0:=h2.trans C.check;subst e0;exact ⟨x,h1,h3 rfl⟩
theorem tZ (hF:EM q) (hl:a.length<=LB) (h:Gp q i a≠0): ∃ e,e≠0/\ Ev (fun n=>O7 n q i a) ([],e):=by
 obtain ⟨r,h1,h2,_,h4⟩:=iD (i:=i) hF hl;obtain ⟨x,e⟩:=r;have h2:e=Gp q i a:=h2;have he:e≠0:=by rw [h2];exact h
 have:x= []:=h4 he;subst this;exact ⟨e,he,h1⟩
end
section
variable {q:AA} {i j:Int} {p p' x y z:List Int}
theorem PR.posOk (C:B7 q i p) (h:PR q (con q i) p x):posOk q x=true:=by
 refine (I3 C.valid).2 ⟨by rw [h.len];exact C.len,fun j hj=>?_⟩;have hk:=C.work.k;refine Qz (by omega) (h.in64 j) fun s hs _=>?_
 cases ht:tb (x.getD j 0) s with
 | false=>rfl
 | true=>
  obtain ⟨h1,h2⟩:=h.sub ht;rw [(C.sm j h1).hi hs] at h2;cases h2
end
end Go.Proofs.YtkjbblkieglmlaaGreatDoor
namespace Go.Proofs.YtkjbblkieglmlaaGreatDoor
open Go.RowKit
set_option maxRecDepth 100000
set_option maxHeartbeats 40000000
inductive XX where
 | l1 (x4:Nat) (Cj:List Int) (Jo Dn:Int) (o0:List (List Int))
def OI (n:Nat) (self:XX -> Option ((List (List Int))×Int)) (g_:List (List Int)) (AU:List Bool) (x4:Nat) (Cj:List Int) (Jo Dn:Int) (o0:List (List Int)):Option ((List (List Int))×Int):=
 bif (decide (Dn<Jo)) then
  if 0<=Dn/\ Dn<(Cj.length:Int) then
   bif (decide ((Cj.getD ((Dn).toNat) 0)>0)) then
    if AL ((Cj.getD ((Dn).toNat) 0)-1)/\ ((0:Int)<=((Cj.getD ((Dn).toNat) 0)-1)/\ ((Cj.getD ((Dn).toNat) 0)-1)<(x4:Int))/\ 0+((((Cj.getD ((Dn).toNat) 0)-1)).toNat)<o0.length/\ (o0.getD (0+((((Cj.getD ((Dn).toNat) 0)-1)).toNat)) default).length+([Dn]:List Int).length<=BB/\ AL (Dn+1) then
     self (.l1 x4 Cj Jo (Dn+1) (o0.set (0+((((Cj.getD ((Dn).toNat) 0)-1)).toNat)) ((o0.getD (0+((((Cj.getD ((Dn).toNat) 0)-1)).toNat)) default)++([Dn]:List Int))))
    else none
   else
    if AL (Dn+1) then
     self (.l1 x4 Cj Jo (Dn+1) o0)
    else none
  else none
 else
  if x4=o0.length then
   some (o0,0)
  else none
def zCW (n:Nat) (self:XX -> Option ((List (List Int))×Int)) (g_:List (List Int)) (AU:List Bool):Option ((List (List Int))×Int):=
 (JU n g_ ([AU]:List (List Bool))).bind fun y1=>
  bif (y1 != 0) then
   some (([]:List (List Int)),y1)
  else
   (parts n g_ AU).bind fun y2=>
    if (y2.2:Int)=y2.2/\ 0<=y2.2/\ (y2.2:Int)<=1000000000000 then
     self (.l1 ((y2.2).toNat) y2.1 (y2.1.length:Int) 0 (List.replicate ((y2.2).toNat) ([]:List Int)))
    else none
def Kn (g_:List (List Int)) (AU:List Bool):Nat -> XX -> Option ((List (List Int))×Int)
 | 0,_=>none
 | n+1,.l1 x4 Cj Jo Dn o0=>OI n (Kn g_ AU n) g_ AU x4 Cj Jo Dn o0
def XY (n:Nat) (g_:List (List Int)) (AU:List Bool):Option ((List (List Int))×Int):=zCW n (Kn g_ AU n) g_ AU
def zCY (n B:Nat) (N:Yd 0) (g_:List (List Int)) (AU:List Bool) (r:(List (List Int))×Int):XX -> Prop
 | .l1 x4 Cj Jo Dn o0=>∀ m0:Nat,n<=m0 -> TW B N (FQ Tryz.f79 0 (.tup 2 (L1 [.sl 1 r.1.length (AQ Be r.1),.i r.2])) []) (A8 m0 (BL (AY Tryz.f79) 0 [])) ⟨AG 48 [(4,.msl 0 1 0 x4),(25,.ints Cj),(26,.i Jo),(27,.i Dn)],[some (.mo (.rws o0 none))]⟩
theorem zCZ (B:Nat) (N:Yd 0) (g_:List (List Int)) (AU:List Bool):Al (Kn g_ AU) (zCY · B N g_ AU):=ia (fun _=>rfl) fun n AK pt r h=>by
 cases pt
 case l1 x4 Cj Jo Dn o0=>
  intro m0 AD;refine rd AD fun m0 AD=>?_
  revert r;apply gO;exact bi 28 (gi (bi 33 (gc (gn fun g1=>jw 36 g1 (jw 39 g1 (gc (gn fun g2=>jg g2 (gc (gn fun g3=>jg g3 (jg (And.intro (Eq.refl 0) (Eq.refl 1)) (jg (by decide:0<1) (jg g3 (gc (gi (jg g2 (jg (Eq.refl (0+((((Cj.getD ((Dn).toNat) 0)-1)).toNat))) (jg g3 (gw 46 (lG AE [3] (AK _ _ · m0 AD)))))))))))))))))) (gw 46 (lG AE [0] (AK _ _ · m0 AD))))) (gn fun g0=>lF fun p=>ez AE [4,5] [0] p [0] (H0.g g0))
theorem zCV {n:Nat} {g_:List (List Int)} {AU:List Bool} {r:(List (List Int))×Int} (h:XY n g_ AU=some r):EQ 79 [.sl 1 g_.length (AQ Be g_),.bools AU] [] (.tup 2 (L1 [.sl 1 r.1.length (AQ Be r.1),.i r.2])) [] true:=by
 refine ot Tryz.func79 fun B N=>?_
 revert r;apply gO;exact ja 12 0 1 (ER (c:=QN) (L:=([AU]:List (List Bool))) (vals:=[.bools AU]) rfl ⟨⟨_,rfl,⟨At,trivial⟩⟩,trivial⟩) (jz 12 0 (jg (Eq.refl 1) (cf Wq [none] fun y1=>bi 15 (lF fun p=>el AE [4,5] [] p [] H0 [.nils,.i y1] (AS.tupL (l:=[.nils,.i y1]) (l':=[.sl 1 (([]:List (List Int)).length) (AQ Be ([]:List (List Int))),.i y1]) rfl ⟨(AS.sl_nil _ _),At,trivial⟩)) (cf ZP [none] fun _=>gi (jk 24 (lN AE [1] ((zCZ B N g_ AU n) _ _ · n Nat.le.refl)))))))
inductive RV where
 | l1 (x6 x23:Int)
 | l2 (x6 x9 x23:Int) (Bw:List Int) (BM CC:Int)
def M9 (n:Nat) (self:RV -> Option (Bool×Int)) (g_:List (List Int)) (AU:List Bool) (x6 x23:Int):Option (Bool×Int):=
 bif (decide (x23<(g_.length:Int))) then
  if (0<=x23/\ x23<(g_.length:Int))/\ (0<=x23/\ x23<(AU.length:Int)) then
   bif (!(AU.getD ((x23).toNat) false)) then
    if AL (x23+1) then
     self (.l1 x6 (x23+1))
    else none
   else
    if AL (x6+1) then
     self (.l2 (x6+1) 0 x23 (g_.getD ((x23).toNat) []) (((g_.getD ((x23).toNat) []).length:Nat):Int) 0)
    else none
  else none
 else
  (parts n g_ AU).bind fun y1=>
   bif (decide (x6>=3)) then
    some ((y1.2==1),0)
   else
    some (false,0)
def M8 (n:Nat) (self:RV -> Option (Bool×Int)) (g_:List (List Int)) (AU:List Bool) (x6 x9 x23:Int) (Bw:List Int) (BM CC:Int):Option (Bool×Int):=
 bif (decide (CC<BM)) then
  if (0<=CC/\ CC<(Bw.length:Int))/\ (0<=(Bw.getD ((CC).toNat) 0)/\ (Bw.getD ((CC).toNat) 0)<(AU.length:Int)) then
   bif (AU.getD ((Bw.getD ((CC).toNat) 0).toNat) false) then
    if AL (x9+1)/\ AL (CC+1) then
     self (.l2 x6 (x9+1) x23 Bw BM (CC+1))
    else none
   else
    if AL (CC+1) then
     self (.l2 x6 x9 x23 Bw BM (CC+1))
    else none
  else none
 else
  bif (x9 != 2) then
   some (false,0)
  else
   if AL (x23+1) then
    self (.l1 x6 (x23+1))
   else none
def si (n:Nat) (self:RV -> Option (Bool×Int)) (g_:List (List Int)) (AU:List Bool):Option (Bool×Int):=
 (JU n g_ ([AU]:List (List Bool))).bind fun y1=>
  bif (y1 != 0) then
   some (false,y1)
  else
   self (.l1 0 0)
def G7 (g_:List (List Int)) (AU:List Bool):Nat -> RV -> Option (Bool×Int)
 | 0,_=>none
 | n+1,.l1 x6 x23=>M9 n (G7 g_ AU n) g_ AU x6 x23
 | n+1,.l2 x6 x9 x23 Bw BM CC=>M8 n (G7 g_ AU n) g_ AU x6 x9 x23 Bw BM CC
def O2 (n:Nat) (g_:List (List Int)) (AU:List Bool):Option (Bool×Int):=si n (G7 g_ AU n) g_ AU
def sk (n B:Nat) (N:Yd 0) (g_:List (List Int)) (AU:List Bool) (r:Bool×Int):RV -> Prop
 | .l1 x6 x23=>∀ m0:Nat,n<=m0 -> TW B N (FQ Tryz.f80 0 (.tup 2 (L1 [.bool r.1,.i r.2])) []) (A8 m0 (BL (AY Tryz.f80) 0 [])) ⟨AG 63 [(0,.sl 1 g_.length (AQ Be g_)),(1,.bools AU),(6,.i x6),(21,.sl 1 g_.length (AQ Be g_)),(22,.i (g_.length:Int)),(23,.i x23)],[]⟩
 | .l2 x6 x9 x23 Bw BM CC=>∀ m0 m1:Nat,n<=m0 -> n<=m1 -> TW B N (FQ Tryz.f80 0 (.tup 2 (L1 [.bool r.1,.i r.2])) []) (A8 m1 (BL (AY Tryz.f80) 2 [m0])) ⟨AG 63 [(0,.sl 1 g_.length (AQ Be g_)),(1,.bools AU),(6,.i x6),(9,.i x9),(21,.sl 1 g_.length (AQ Be g_)),(22,.i (g_.length:Int)),(23,.i x23),(35,.ints Bw),(36,.i BM),(37,.i CC)],[]⟩
theorem sn (B:Nat) (N:Yd 0) (g_:List (List Int)) (AU:List Bool):Al (G7 g_ AU) (sk · B N g_ AU):=ia (fun _=>rfl) fun n AK pt r h=>by
 cases pt
 case l1 x6 x23=>
  intro m0 AD;refine rd AD fun m0 AD=>?_
  revert r;apply gO;exact bi 24 (gc (gi (gi (bi 32 (gw 50 (lG AE [] (AK _ _ · m0 AD))) (gw 34 (lN AE [] (AK _ _ · m0 n AD Nat.le.refl))))))) (cf ZP [] fun _=>bi 58 (lE AE [4,5] []) (lE AE [4,5] []))
 case l2 x6 x9 x23 Bw BM CC=>
  intro m0 m1 AD Az;have AD:=zEE AD;refine rd Az fun m1 Az=>?_
  revert r;apply gO;exact bi 38 (gc (gi (gi (bi 44 (gc (gw 46 (gw 47 (lG AE [] (AK _ _ · m0 m1 AD Az))))) (gw 47 (lG AE [] (AK _ _ · m0 m1 AD Az))))))) (bi 49 (lE AE [4,5] []) (gw 50 (lG AE [] (AK _ _ · m0 AD))))
theorem sf {n:Nat} {g_:List (List Int)} {AU:List Bool} {r:Bool×Int} (h:O2 n g_ AU=some r):EQ 80 [.sl 1 g_.length (AQ Be g_),.bools AU] [] (.tup 2 (L1 [.bool r.1,.i r.2])) [] true:=by
 refine ot Tryz.func80 fun B N=>?_
 revert r;apply gO;exact ja 16 0 1 (ER (c:=QN) (L:=([AU]:List (List Bool))) (vals:=[.bools AU]) rfl ⟨⟨_,rfl,⟨At,trivial⟩⟩,trivial⟩) (jz 16 0 (jg (Eq.refl 1) (cf Wq [none] fun _=>bi 19 (lE AE [4,5] []) (lN AE [] ((sn B N g_ AU n) _ _ · n Nat.le.refl)))))
def j9 (n:Nat) (Ai Dp:Int):Option Bool:=
 if 0<=Dp/\ Dp<=(IntKind.i64.bits:Int) then
  some ((bits .and .i64 (Ai/2 ^ (Dp).toNat) 1)==1)
 else none
def HG (n:Nat) (Ai Dp:Int):Option Bool:=j9 n Ai Dp
theorem JG {n:Nat} {Ai Dp:Int} {r:Bool} (h:HG n Ai Dp=some r):EQ 53 [.i Ai,.i Dp] [] (.bool r) [] true:=by
 refine ot Tryz.func53 fun B N=>?_
 revert r;apply gO;exact gi (lE AE [4] [])
def rq (n:Nat) (AH cells:List Int) (Ai:Int):Option Unit:=
 some ()
def ru (n:Nat) (AH cells:List Int) (Ai:Int):Option Unit:=rq n AH cells Ai
theorem rp {n:Nat} (AH cells:List Int) (Ai:Int) {r:Unit} (h:ru n AH cells Ai=some r):EQ 51 [.ints AH,.ints cells,.i Ai] [] (.fn 77 3 (L1 [.ref 0 0,.ref 1 0,.ref 2 0])) [some (.cells [.ints cells]),some (.cells [.i Ai]),some (.cells [.ints AH])] true:=by
 refine ot Tryz.func51 fun B N=>?_
 revert r;apply gO;exact lE AE [6] [1,2,0]
theorem qX:Ar (Ag Tryz.f77 4) [([0,1,2,3,4],5)] [] []:=by unfold Ar;kernel_rfl
def J1:Bi:=fun i=>match i with
 | 4=>.ord [([0,1,2,3,4],5)] [] []
 | _=>.no
inductive Oy where
 | l1 (x5 x10:Int)
def M4 (n:Nat) (self:Oy -> Option (List Int)) (B3:List Int) (Ai:Int) (AH:List Int) (x5 x10:Int):Option (List Int):=
 bif (decide (x10<(B3.length:Int))) then
  if (0<=x10/\ x10<(B3.length:Int))/\ (0<=(B3.getD ((x10).toNat) 0)/\ (B3.getD ((x10).toNat) 0)<(AH.length:Int)) then
   (HG n Ai (AH.getD ((B3.getD ((x10).toNat) 0).toNat) 0)).bind fun y1=>
    bif y1 then
     if AL (x5+1)/\ AL (x10+1) then
      self (.l1 (x5+1) (x10+1))
     else none
    else
     bif (decide (x5>0)) then
      bif (decide (x5>0)) then
       Option.map (fun l=>x5::l) (
        if AL (x10+1) then
         self (.l1 0 (x10+1))
        else none)
      else
       if AL (x10+1) then
        self (.l1 0 (x10+1))
       else none
     else
      if AL (x10+1) then
       self (.l1 0 (x10+1))
      else none
  else none
 else
  bif (decide (x5>0)) then
   Option.map (fun l=>x5::l) (some [])
  else
   some []
def gH (n:Nat) (self:Oy -> Option (List Int)) (B3:List Int) (Ai:Int) (AH:List Int):Option (List Int):=
 self (.l1 0 0)
def GW (B3:List Int) (Ai:Int) (AH:List Int):Nat -> Oy -> Option (List Int)
 | 0,_=>none
 | n+1,.l1 x5 x10=>M4 n (GW B3 Ai AH n) B3 Ai AH x5 x10
def Oz (n:Nat) (B3:List Int) (Ai:Int) (AH:List Int):Option (List Int):=gH n (GW B3 Ai AH n) B3 Ai AH
def Yq (C:Bb Tryz.prog) (n:Nat) (B3:List Int) (Ai:Int) (AH:List Int) (r:List Int):Oy -> Prop
 | .l1 x5 x10=>∀ m0:Nat,n<=m0 -> ∀ i:Nat,i<=C.encs.length -> C.encs.drop i=r.map BQ -> An Tryz.prog GG Fence.wide none 3 (C.Y GG 3 i) (C.Q GG 3) (A8 m0 (BL (AY Tryz.f77) 0 [])) ⟨AG 36 [(0,.yl C.l),(2,.ref 1 0),(3,.ref 2 0),(5,.i x5),(8,.ints B3),(9,.i (B3.length:Int)),(10,.i x10)],[some (.cells [.ints B3]),some (.cells [.i Ai]),some (.cells [.ints AH])]⟩
theorem rz (C:Bb Tryz.prog) (n:Nat) (self:Oy -> Option (List Int)) (B3:List Int) (Ai:Int) (AH:List Int) (AK: ∀ pt r,self pt=some r -> Yq C n B3 Ai AH r pt) (x5 x10:Int) (r:List Int) (h:M4 n self B3 Ai AH x5 x10=some r):Yq C (n+1) B3 Ai AH r (.l1 x5 x10):=by
 intro m0 AD;intro i hi hd;refine rd AD fun m0 AD=>?_
 unfold M4 at h;have p:=H0;rcases Bt h with ⟨c0,h⟩ | ⟨c0,h⟩
 ·obtain ⟨⟨g0,g1⟩,h⟩:=Bu h;obtain ⟨y1,A5,h⟩:=FM h;have p:=H0.b 11 c0 |>.g g0 |>.g qX |>.g g1 |>.c (fb (JG A5) [some (.cells [.ints B3]),some (.cells [.i Ai]),some (.cells [.ints AH])])
  rcases Bt h with ⟨c1,h⟩ | ⟨c1,h⟩
  ·obtain ⟨⟨g2,g3⟩,h⟩:=Bu h;have p:=p.b 19 c1 |>.w 21 g2 |>.w 30 g3
   exact gg J1 [0,1,2] p (AK _ _ h m0 AD i hi hd)
  ·have p:=p.b 19 c1;rcases Bt h with ⟨c2,h⟩ | ⟨c2,h⟩
   ·refine gs (AR 6 J1) [0,1,2] p (CO (AY Tryz.f77) 6 [m0]) (AG 36 [(0,.yl C.l),(2,.ref 1 0),(3,.ref 2 0),(5,.i x5),(8,.ints B3),(9,.i (B3.length:Int)),(10,.i x10)]) [some (.cells [.ints B3]),some (.cells [.i Ai]),some (.cells [.ints AH])] ?_;have p:=H0;rcases Bt h with ⟨c0,h⟩ | ⟨c0,h⟩
    ·have p:=H0.b 23 c0;obtain ⟨r,h2,rfl⟩:=KH h;clear h;have h:=h2;clear h2;obtain ⟨hx,hi,hd⟩:=Ta hd;refine An.y (ops:=Ag Tryz.f77 6) HC.x 5 [0,2,3,8,9,10,29] [0,1,2] p (x:=BQ x5) (AG 36 [(0,.yl C.l),(2,.ref 1 0),(3,.ref 2 0),(8,.ints B3),(9,.i (B3.length:Int)),(10,.i x10),(29,.bool false)]) [some (.cells [.ints B3]),some (.cells [.i Ai]),some (.cells [.ints AH])] (AG 36 [(0,.yl C.l),(2,.ref 1 0),(3,.ref 2 0),(8,.ints B3),(9,.i (B3.length:Int)),(10,.i x10),(29,.bool true)]) [some (.cells [.ints B3]),some (.cells [.i Ai]),some (.cells [.ints AH])] (by kernel_rfl) (by kernel_rfl) (by kernel_rfl) hx (by kernel_rfl) ?_ ?_
     ·generalize i+1=i at hi hd ⊢
      obtain ⟨g2,h⟩:=Bu h;have p:=H0.w 30 g2;exact gg J1 [0,1,2] p (AK _ _ h m0 AD i hi hd)
     ·exact TrI.e HC.x J1 6 H0 (by kernel_rfl) (.inr rfl)
    ·obtain ⟨g2,h⟩:=Bu h;have p:=H0.b 23 c0 |>.w 30 g2
     exact gg J1 [0,1,2] p (AK _ _ h m0 AD i hi hd)
   ·obtain ⟨g2,h⟩:=Bu h;have p:=p.b 23 c2 |>.w 30 g2
    exact gg J1 [0,1,2] p (AK _ _ h m0 AD i hi hd)
 ·have p:=H0.b 11 c0;rcases Bt h with ⟨c1,h⟩ | ⟨c1,h⟩
  ·have p:=p.b 32 c1;refine gs (AR 10 J1) [0,1,2] p (CO (AY Tryz.f77) 10 []) (AG 36 [(0,.yl C.l),(5,.i x5)]) [some (.cells [.ints B3]),some (.cells [.i Ai]),some (.cells [.ints AH])] ?_;have p:=H0;obtain ⟨r,h2,rfl⟩:=KH h;cases h2;obtain ⟨hx,hi,hd⟩:=Ta hd;exact An.yE (ops:=Ag Tryz.f77 10) HC.x 2 p (x:=BQ x5) (by kernel_rfl) (by kernel_rfl) (by kernel_rfl) hx (OF hi hd)
  ·have p:=p.b 32 c1;cases h;exact TrI.e HC.x J1 14 p (by kernel_rfl) (.inl (by rw [OF hi hd]))
theorem gI (C:Bb Tryz.prog) (B3:List Int) (Ai:Int) (AH:List Int): ∀ (n:Nat) (pt:Oy) (r:List Int),GW B3 Ai AH n pt=some r -> Yq C n B3 Ai AH r pt
 | 0,_,_,h=>by cases h
 | n+1,.l1 x5 x10,r,h=>rz C n (GW B3 Ai AH n) B3 Ai AH (gI C B3 Ai AH n) x5 x10 r h
theorem r7 {n:Nat} (B3:List Int) (Ai:Int) (AH:List Int) {r:List Int} (h:Oz n B3 Ai AH=some r) (C:Bb Tryz.prog) (hC:C.encs=r.map BQ):An Tryz.prog GG Fence.wide none 3 (C.Y GG 3 0) (C.Q GG 3) [.code (AY Tryz.f77)] ⟨AG 36 [(0,.yl C.l),(1,.ref 0 0),(2,.ref 1 0),(3,.ref 2 0)],[some (.cells [.ints B3]),some (.cells [.i Ai]),some (.cells [.ints AH])]⟩:=by
 suffices H: ∀ i:Nat,i<=C.encs.length -> C.encs.drop i=r.map BQ -> An Tryz.prog GG Fence.wide none 3 (C.Y GG 3 i) (C.Q GG 3) [.code (AY Tryz.f77)] ⟨AG 36 [(0,.yl C.l),(1,.ref 0 0),(2,.ref 1 0),(3,.ref 2 0)],[some (.cells [.ints B3]),some (.cells [.i Ai]),some (.cells [.ints AH])]⟩ from H 0 (zEf _) (by rw [zE8];exact hC)
 intro i hi hd;have AK:=gI C B3 Ai AH n;unfold Oz at h
 generalize GW B3 Ai AH n=self at h AK
 unfold gH at h;have p:=H0;exact gg J1 [0,1,2] p (en n (AK _ _ h n Nat.le.refl i hi hd))
theorem rt {n:Nat} {AH:List Int} {cells:List Int} {Ai:Int} {r:List Int} (h:Oz n cells Ai AH=some r) (H:DH):EQ 51 [.ints AH,.ints cells,.i Ai] H (.it H.length) (H++[some (.iter (r.map BQ))]) true:=by
 refine ES.iterN (c:=L1 [.ref 0 0,.ref 1 0,.ref 2 0]) (h0:=[some (.cells [.ints cells]),some (.cells [.i Ai]),some (.cells [.ints AH])]) (fn:=Tryz.f77) (rp (n:=0) AH cells Ai (r:=()) rfl) (by kernel_rfl) Tryz.func77 (by kernel_rfl) (by kernel_rfl) (by kernel_rfl) (fun C hC=>?_) H;have e:DV.yl C.l::(List.range 3).map (L1 [.ref 0 0,.ref 1 0,.ref 2 0])++List.replicate (Tryz.f77.ntmps-(3+1)) .any=AG 36 [(0,.yl C.l),(1,.ref 0 0),(2,.ref 1 0),(3,.ref 2 0)]:=by kernel_rfl
 rw [e];exact r7 cells Ai AH h C hC
inductive Kq where
 | s0
 | s1 (Eo:Nat) (Dd:List Int)
def nX:Kq -> DH
 | .s0=>[none,some (.cells [.nils])]
 | .s1 Eo Dd=>[none,some (.cells [.msl 2 1 0 Eo]),some (.ints Dd)]
def T6 (n:Nat) (e6:Int):Option Kq:=
 if (0=0/\ 1=([e6]:List Int).length)/\ 0<([e6]:List Int).length/\ ([e6]:List Int).length<=BB then
  some (.s1 (([e6]:List Int).length) ([e6]:List Int))
 else none
def T5 (n:Nat) (e6:Int) (Eo:Nat) (Dd:List Int):Option Kq:=
 if (0=0/\ 1=([e6]:List Int).length)/\ (0=0/\ Eo=Dd.length)/\ Dd.length+([e6]:List Int).length<=BB then
  some (.s1 (Dd.length+([e6]:List Int).length) (Dd++([e6]:List Int)))
 else none
def zDM (n:Nat) (e6:Int):Kq -> Option Kq
 | .s0=>T6 n e6
 | .s1 Eo Dd=>T5 n e6 Eo Dd
def Xm (n:Nat) (e6:Int) (s:Kq):Option Kq:=zDM n e6 s
theorem zDL (n:Nat) (l B:Nat) (N:Yd 2) (e6:Int) (s:Kq) (r:Kq) (h:Xm n e6 s=some r):TA l B N (Cb 2 [] 0 (nX r)) Tryz.f76 6 ⟨AG 13 [(2,.ref 1 0),(6,.it 0),(7,.i e6)],nX s⟩:=by
 cases s with
 | s0=>
  replace h:T6 n e6=some r:=h;unfold T6 at h;refine ag AE [0,1] H0 (AG 13 [(2,.ref 1 0),(5,.i e6)]) [none,some (.cells [.nils])] fun N=>?_
  revert r;apply gO;exact gi (jt (lF fun p=>rr AE [0,1,3] rfl p))
 | s1 Eo Dd=>
  replace h:T5 n e6 Eo Dd=some r:=h;unfold T5 at h;refine ag AE [0,1,2] H0 (AG 13 [(2,.ref 1 0),(5,.i e6)]) [none,some (.cells [.msl 2 1 0 Eo]),some (.ints Dd)] fun N=>?_
  revert r;apply gO;exact gi (jt (lF fun p=>rr AE [0,1,4] rfl p))
def cw (n:Nat) (l:List Int):Option ((List Int)):=
 (Bn (Xm n) l (.s0)).bind fun y1=>
  match y1 with
  | .s0=>
   some ([]:List Int)
  | .s1 Of Mg=>
   if Of=Mg.length then
    some Mg
   else none
def Xn (n:Nat) (l:List Int):Option ((List Int)):=cw n l
theorem zDK {n:Nat} {l:List Int} {r:(List Int)} (h:Xn n l=some r):EQ 76 [.nils,.it 0] [some (.iter ((l).map BQ))] (.ints r) [none] false:=by
 unfold Xn cw at h;refine ot Tryz.func76 fun B N=>?_
 revert r;apply gO
 exact cn fun y1 A5=>fun p r h=>by
  refine gs AE [0,1] p (Fe (AY Tryz.f76) 6 []) (AG 13 [(2,.ref 1 0),(6,.it 0)]) [some (.iter ((l).map BQ)),some (.cells [.nils])] ?_;refine r0 0 6 #[7] BQ 2 A5 (zDL n) ?_;cases y1 with
  | s0=>
   dsimp only at h
   revert r;apply gO;exact lF fun p=>el AE [4] [0] p [] H0 [.nils] AS.ints_nil
  | s1 Of Mg=>
   dsimp only at h
   revert r;apply gO;exact gn fun g0=>lF fun p=>ez AE [4] [0,2] p [1] (H0.g g0)
def cO (n:Nat) (l:List Int):Option ((List Int)):=
 (Xn n l).bind fun y1=>
  some y1
def OJ (n:Nat) (l:List Int):Option ((List Int)):=cO n l
theorem zCd {n:Nat} {l:List Int} {r:(List Int)} (h:OJ n l=some r):EQ 50 [.it 0] [some (.iter ((l).map BQ))] (.ints r) [none] false:=by
 unfold OJ cO at h;refine ot Tryz.func50 fun B N=>?_
 revert r;apply gO;exact ce zDK [0] [some (.iter ((l).map BQ))] fun _=>lE AE [2] [0]
inductive XJ where
 | l1 (x5 x10:Int)
def Tc (n:Nat) (self:XJ -> Option Bool) (AH cells:List Int) (x5 x10:Int):Option Bool:=
 bif (decide (x10<(cells.length:Int))) then
  if (0<=x10/\ x10<(cells.length:Int))/\ (0<=(cells.getD ((x10).toNat) 0)/\ (cells.getD ((x10).toNat) 0)<(AH.length:Int)) then
   (HG n x5 (AH.getD ((cells.getD ((x10).toNat) 0).toNat) 0)).bind fun y1=>
    bif y1 then
     some false
    else
     if (0<=AH.getD ((cells.getD ((x10).toNat) 0).toNat) 0/\ AH.getD ((cells.getD ((x10).toNat) 0).toNat) 0<=(IntKind.i64.bits:Int))/\ AL (x10+1) then
      self (.l1 (bits .or .i64 x5 (IntKind.i64.wrap (1*2 ^ (AH.getD ((cells.getD ((x10).toNat) 0).toNat) 0).toNat))) (x10+1))
     else none
  else none
 else
  some true
def zBo (n:Nat) (self:XJ -> Option Bool) (AH cells:List Int):Option Bool:=
 self (.l1 0 0)
def MK (AH cells:List Int):Nat -> XJ -> Option Bool
 | 0,_=>none
 | n+1,.l1 x5 x10=>Tc n (MK AH cells n) AH cells x5 x10
def XK (n:Nat) (AH cells:List Int):Option Bool:=zBo n (MK AH cells n) AH cells
def zBp (n B:Nat) (N:Yd 0) (AH cells:List Int) (r:Bool):XJ -> Prop
 | .l1 x5 x10=>∀ m0:Nat,n<=m0 -> TW B N (FQ Tryz.f46 0 (.bool r) []) (A8 m0 (BL (AY Tryz.f46) 0 [])) ⟨AG 28 [(0,.ints AH),(5,.i x5),(8,.ints cells),(9,.i (cells.length:Int)),(10,.i x10)],[]⟩
theorem zBq (B:Nat) (N:Yd 0) (AH cells:List Int):Al (MK AH cells) (zBp · B N AH cells):=ia (fun _=>rfl) fun n AK pt r h=>by
 cases pt
 case l1 x5 x10=>
  intro m0 AD;refine rd AD fun m0 AD=>?_
  revert r;apply gO;exact bi 11 (gc (gi (gn fun g1=>jg g1 (cf JG [] fun _=>bi 19 (lE AE [4] []) (jg g1 (gc (gi (gw 27 (lG AE [] (AK _ _ · m0 AD)))))))))) (lE AE [4] [])
theorem zBn {n:Nat} {AH cells:List Int} {r:Bool} (h:XK n AH cells=some r):EQ 46 [.ints AH,.ints cells] [] (.bool r) [] true:=by
 refine ot Tryz.func46 fun B N=>?_
 revert r;apply gO;exact lN AE [] ((zBq B N AH cells n) _ _ · n Nat.le.refl)
inductive XQ where
 | l1 (x6 Bc:Int)
def Tp (n:Nat) (self:XQ -> Option Int) (AH cells:List Int) (Ai:Int) (x6 Bc:Int):Option Int:=
 bif (decide (Bc<(cells.length:Int))) then
  if (0<=Bc/\ Bc<(cells.length:Int))/\ (0<=(cells.getD ((Bc).toNat) 0)/\ (cells.getD ((Bc).toNat) 0)<(AH.length:Int)) then
   (HG n Ai (AH.getD ((cells.getD ((Bc).toNat) 0).toNat) 0)).bind fun y1=>
    bif y1 then
     if AL (x6+1)/\ AL (Bc+1) then
      self (.l1 (x6+1) (Bc+1))
     else none
    else
     if AL (Bc+1) then
      self (.l1 x6 (Bc+1))
     else none
  else none
 else
  some x6
def zCH (n:Nat) (self:XQ -> Option Int) (AH cells:List Int) (Ai:Int):Option Int:=
 self (.l1 0 0)
def QI (AH cells:List Int) (Ai:Int):Nat -> XQ -> Option Int
 | 0,_=>none
 | n+1,.l1 x6 Bc=>Tp n (QI AH cells Ai n) AH cells Ai x6 Bc
def XR (n:Nat) (AH cells:List Int) (Ai:Int):Option Int:=zCH n (QI AH cells Ai n) AH cells Ai
def zCI (n B:Nat) (N:Yd 0) (AH cells:List Int) (Ai:Int) (r:Int):XQ -> Prop
 | .l1 x6 Bc=>∀ m0:Nat,n<=m0 -> TW B N (FQ Tryz.f47 0 (.i r) []) (A8 m0 (BL (AY Tryz.f47) 0 [])) ⟨AG 25 [(0,.ints AH),(2,.i Ai),(6,.i x6),(9,.ints cells),(10,.i (cells.length:Int)),(11,.i Bc)],[]⟩
theorem zCJ (B:Nat) (N:Yd 0) (AH cells:List Int) (Ai:Int):Al (QI AH cells Ai) (zCI · B N AH cells Ai):=ia (fun _=>rfl) fun n AK pt r h=>by
 cases pt
 case l1 x6 Bc=>
  intro m0 AD;refine rd AD fun m0 AD=>?_
  revert r;apply gO;exact bi 12 (gc (gi (gi (cf JG [] fun _=>bi 20 (gc (gw 22 (gw 23 (lG AE [] (AK _ _ · m0 AD))))) (gw 23 (lG AE [] (AK _ _ · m0 AD))))))) (lE AE [6] [])
theorem zCG {n:Nat} {AH cells:List Int} {Ai:Int} {r:Int} (h:XR n AH cells Ai=some r):EQ 47 [.ints AH,.ints cells,.i Ai] [] (.i r) [] true:=by
 refine ot Tryz.func47 fun B N=>?_
 revert r;apply gO;exact lN AE [] ((zCJ B N AH cells Ai n) _ _ · n Nat.le.refl)
inductive Uh where
 | l1 (x6 Bc:Int)
def Qo (n:Nat) (self:Uh -> Option Int) (values AH cells:List Int) (x6 Bc:Int):Option Int:=
 bif (decide (Bc<(cells.length:Int))) then
  if (0<=Bc/\ Bc<(cells.length:Int))/\ (0<=(cells.getD ((Bc).toNat) 0)/\ (cells.getD ((Bc).toNat) 0)<(AH.length:Int))/\ (0<=(AH.getD ((cells.getD ((Bc).toNat) 0).toNat) 0)/\ (AH.getD ((cells.getD ((Bc).toNat) 0).toNat) 0)<(values.length:Int))/\ AL (x6+(values.getD ((AH.getD ((cells.getD ((Bc).toNat) 0).toNat) 0).toNat) 0))/\ AL (Bc+1) then
   self (.l1 (x6+(values.getD ((AH.getD ((cells.getD ((Bc).toNat) 0).toNat) 0).toNat) 0)) (Bc+1))
  else none
 else
  some x6
def pH (n:Nat) (self:Uh -> Option Int) (values AH cells:List Int):Option Int:=
 self (.l1 0 0)
def Ot (values AH cells:List Int):Nat -> Uh -> Option Int
 | 0,_=>none
 | n+1,.l1 x6 Bc=>Qo n (Ot values AH cells n) values AH cells x6 Bc
def Ui (n:Nat) (values AH cells:List Int):Option Int:=pH n (Ot values AH cells n) values AH cells
def pI (n B:Nat) (N:Yd 0) (values AH cells:List Int) (r:Int):Uh -> Prop
 | .l1 x6 Bc=>∀ m0:Nat,n<=m0 -> TW B N (FQ Tryz.f48 0 (.i r) []) (A8 m0 (BL (AY Tryz.f48) 0 [])) ⟨AG 26 [(0,.ints values),(1,.ints AH),(6,.i x6),(9,.ints cells),(10,.i (cells.length:Int)),(11,.i Bc)],[]⟩
theorem pJ (B:Nat) (N:Yd 0) (values AH cells:List Int):Al (Ot values AH cells) (pI · B N values AH cells):=ia (fun _=>rfl) fun n AK pt r h=>by
 cases pt
 case l1 x6 Bc=>
  intro m0 AD;refine rd AD fun m0 AD=>?_
  revert r;apply gO;exact bi 12 (gc (gi (gc (gi (gc (gi (gc (gw 23 (gw 24 (lG AE [] (AK _ _ · m0 AD))))))))))) (lE AE [6] [])
theorem pG {n:Nat} {values AH cells:List Int} {r:Int} (h:Ui n values AH cells=some r):EQ 48 [.ints values,.ints AH,.ints cells] [] (.i r) [] true:=by
 refine ot Tryz.func48 fun B N=>?_
 revert r;apply gO;exact lN AE [] ((pJ B N values AH cells n) _ _ · n Nat.le.refl)
inductive U9 where
 | l1 (x7 A7:Int)
def RU (n:Nat) (self:U9 -> Option Bool) (values AH cells:List Int) (x7 A7:Int):Option Bool:=
 bif (decide (A7<(cells.length:Int))) then
  if (0<=A7/\ A7<(cells.length:Int))/\ (0<=(cells.getD ((A7).toNat) 0)/\ (cells.getD ((A7).toNat) 0)<(AH.length:Int))/\ (0<=(AH.getD ((cells.getD ((A7).toNat) 0).toNat) 0)/\ (AH.getD ((cells.getD ((A7).toNat) 0).toNat) 0)<(values.length:Int)) then
   bif (decide ((values.getD ((AH.getD ((cells.getD ((A7).toNat) 0).toNat) 0).toNat) 0)<=x7)) then
    some false
   else
    if AL (A7+1) then
     self (.l1 (values.getD ((AH.getD ((cells.getD ((A7).toNat) 0).toNat) 0).toNat) 0) (A7+1))
    else none
  else none
 else
  some true
def sc (n:Nat) (self:U9 -> Option Bool) (values AH cells:List Int):Option Bool:=
 self (.l1 (-1) 0)
def LS (values AH cells:List Int):Nat -> U9 -> Option Bool
 | 0,_=>none
 | n+1,.l1 x7 A7=>RU n (LS values AH cells n) values AH cells x7 A7
def VA (n:Nat) (values AH cells:List Int):Option Bool:=sc n (LS values AH cells n) values AH cells
def sd (n B:Nat) (N:Yd 0) (values AH cells:List Int) (r:Bool):U9 -> Prop
 | .l1 x7 A7=>∀ m0:Nat,n<=m0 -> TW B N (FQ Tryz.f49 0 (.bool r) []) (A8 m0 (BL (AY Tryz.f49) 0 [])) ⟨AG 33 [(0,.ints values),(1,.ints AH),(7,.i x7),(10,.ints cells),(11,.i (cells.length:Int)),(12,.i A7)],[]⟩
theorem se (B:Nat) (N:Yd 0) (values AH cells:List Int):Al (LS values AH cells) (sd · B N values AH cells):=ia (fun _=>rfl) fun n AK pt r h=>by
 cases pt
 case l1 x7 A7=>
  intro m0 AD;refine rd AD fun m0 AD=>?_
  revert r;apply gO;exact bi 13 (gc (gi (gc (gn fun g1=>jg g1 (gn fun g2=>jg g2 (bi 24 (lE AE [6] []) (jg g1 (jg g2 (gw 32 (lG AE [] (AK _ _ · m0 AD))))))))))) (lE AE [6] [])
theorem sZ {n:Nat} {values AH cells:List Int} {r:Bool} (h:VA n values AH cells=some r):EQ 49 [.ints values,.ints AH,.ints cells] [] (.bool r) [] true:=by
 refine ot Tryz.func49 fun B N=>?_
 revert r;apply gO;exact lN AE [] ((se B N values AH cells n) _ _ · n Nat.le.refl)
def nf (n:Nat) (a b_ n_:Int):Option Bool:=
 if AL (a-b_)/\ AL (b_-a) then
  some (decide ((if (b_-a)>(a-b_) then (b_-a) else (a-b_))>=n_))
 else none
def cy (n:Nat) (a b_ n_:Int):Option Bool:=nf n a b_ n_
theorem zDS {n:Nat} {a b_ n_:Int} {r:Bool} (h:cy n a b_ n_=some r):EQ 52 [.i a,.i b_,.i n_] [] (.bool r) [] true:=by
 refine ot Tryz.func52 fun B N=>?_
 revert r;apply gO;exact gc (gw 9 (gw 12 (lE AE [6] [])))
theorem q9:Ar (Ag Tryz.f78 0) [([0,1,2,3,4,5,6],7)] [8] [9]:=by unfold Ar;kernel_rfl
def p5:Bi:=fun i=>match i with
 | 0=>.ord [([0,1,2,3,4,5,6],7)] [8] [9]
 | _=>.no
def jG (n:Nat) (c_ Ai:Int) (AH:List Int) (ln:Nat) (mk:List Bool):Option ((List Bool)):=
 if 0<=c_/\ c_<(AH.length:Int) then
  (HG n Ai (AH.getD ((c_).toNat) 0)).bind fun y1=>
   if (0<=c_/\ c_<(ln:Int))/\ 0+((c_).toNat)<mk.length then
    some (mk.set (0+((c_).toNat)) y1)
   else none
 else none
def Zr (n:Nat) (c_ Ai:Int) (AH:List Int) (ln:Nat) (mk:List Bool):Option ((List Bool)):=jG n c_ Ai AH ln mk
theorem vA {n:Nat} {c_ Ai:Int} {AH:List Int} {ln:Nat} {mk:List Bool} {r:(List Bool)} (h:Zr n c_ Ai AH ln mk=some r):EQ 78 [.i c_,.ref 0 0,.ref 1 0,.ref 2 0] [some (.cells [.i Ai]),some (.cells [.ints AH]),some (.cells [.msl 3 1 0 ln]),some (.bools mk)] (.tup 0 (fun j=>([]:List DV).getD j .any)) [some (.cells [.i Ai]),some (.cells [.ints AH]),some (.cells [.msl 3 1 0 ln]),some (.bools r)] false:=by
 refine ot Tryz.func78 fun B N=>?_
 revert r;apply gO;exact jg q9 (gi (cf JG [some (.cells [.i Ai]),some (.cells [.ints AH]),some (.cells [.msl 3 1 0 ln]),some (.bools mk)] fun _=>gc (gi (gi (lE p5 [] [0,1,2,3])))))
inductive V6 where
 | l1 (Cj:Int) (o1:List Bool)
def SV (n:Nat) (self:V6 -> Option Bool) (ED:List (List Int)) (AH cells:List Int) (Ai:Int) (loop:Bool) (Cj:Int) (o1:List Bool):Option Bool:=
 bif (decide (Cj<(cells.length:Int))) then
  if 0<=Cj/\ Cj<(cells.length:Int) then
   (Zr n (cells.getD ((Cj).toNat) 0) Ai AH AH.length o1).bind fun y1=>
    if AL (Cj+1) then
     self (.l1 (Cj+1) y1)
    else none
  else none
 else
  if AH.length=o1.length then
   (XY n ED o1).bind fun y1=>
    bif (!loop) then
     some (decide ((y1.1.length:Int)<=1))
    else
     bif ((y1.1.length:Int)==0) then
      some (decide ((y1.1.length:Int)<=1))
     else
      (O2 n ED o1).bind fun y2=>
       some y2.1
  else none
def jm (n:Nat) (self:V6 -> Option Bool) (ED:List (List Int)) (AH cells:List Int) (Ai:Int) (loop:Bool):Option Bool:=
 if ((AH.length:Int):Int)=(AH.length:Int)/\ 0<=(AH.length:Int)/\ ((AH.length:Int):Int)<=1000000000000 then
  self (.l1 0 (List.replicate AH.length false))
 else none
def PU (ED:List (List Int)) (AH cells:List Int) (Ai:Int) (loop:Bool):Nat -> V6 -> Option Bool
 | 0,_=>none
 | n+1,.l1 Cj o1=>SV n (PU ED AH cells Ai loop n) ED AH cells Ai loop Cj o1
def PV (n:Nat) (ED:List (List Int)) (AH cells:List Int) (Ai:Int) (loop:Bool):Option Bool:=jm n (PU ED AH cells Ai loop n) ED AH cells Ai loop
def wS (n B:Nat) (N:Yd 0) (ED:List (List Int)) (AH cells:List Int) (Ai:Int) (loop:Bool) (r:Bool):V6 -> Prop
 | .l1 Cj o1=>∀ m0:Nat,n<=m0 -> TW B N (FQ Tryz.f54 0 (.bool r) []) (A8 m0 (BL (AY Tryz.f54) 0 [])) ⟨AG 56 [(0,.sl 1 ED.length (AQ Be ED)),(4,.bool loop),(11,.ref 0 0),(12,.fn 78 3 (L1 [.ref 2 0,.ref 3 0,.ref 0 0])),(23,.ints cells),(24,.i (cells.length:Int)),(25,.i Cj)],[some (.cells [.msl 1 1 0 AH.length]),some (.bools o1),some (.cells [.i Ai]),some (.cells [.ints AH])]⟩
theorem wT (B:Nat) (N:Yd 0) (ED:List (List Int)) (AH cells:List Int) (Ai:Int) (loop:Bool):Al (PU ED AH cells Ai loop) (wS · B N ED AH cells Ai loop):=ia (fun _=>rfl) fun n AK pt r h=>by
 cases pt
 case l1 Cj o1=>
  intro m0 AD;refine rd AD fun m0 AD=>?_
  revert r;apply gO
  exact bi 26 (gi (ce vA [2,3,0,1] [some (.cells [.msl 1 1 0 AH.length]),some (.bools o1),some (.cells [.i Ai]),some (.cells [.ints AH])] fun _=>gw 32 (lG AE [0,1,2,3] (AK _ _ · m0 AD)))) (gn fun g0=>fun p r h=>by
   refine gz (AR 8 AE) [0,1] p [1] (H0.g g0) (CO (AY Tryz.f54) 8 []) (AG 56 [(0,.sl 1 ED.length (AQ Be ED)),(4,.bool loop),(11,.ref 0 0)]) [some (.cells [.bools o1]),none] ?_;revert r;apply gO;exact cf zCV [some (.cells [.bools o1]),none] fun _=>bi 40 (lE AE [10] []) (bi 44 (lE AE [10] []) (cf sf [some (.cells [.bools o1]),none] fun _=>lE AE [10] [])))
theorem wR {n:Nat} {ED:List (List Int)} {AH cells:List Int} {Ai:Int} {loop:Bool} {r:Bool} (h:PV n ED AH cells Ai loop=some r):EQ 54 [.sl 1 ED.length (AQ Be ED),.ints AH,.ints cells,.i Ai,.bool loop] [] (.bool r) [] true:=by
 refine ot Tryz.func54 fun B N=>?_
 revert r;apply gO;exact gi (jt (lN AE [3,2,1,0] ((wT B N ED AH cells Ai loop n) _ _ · n Nat.le.refl)))
def ca (n:Nat) (v:Int) (c:AB):Option Bool:=
 bif (decide (c.lo<=v)) then
  some (decide (v<=c.hi))
 else
  some false
def OQ (n:Nat) (v:Int) (c:AB):Option Bool:=ca n v c
theorem nG {n:Nat} {v:Int} {c:AB} {r:Bool} (h:OQ n v c=some r):EQ 45 [.i v,.fp 9 (L1 (AJ c))] [] (.bool r) [] true:=by
 refine ot Tryz.func45 fun B N=>?_
 revert r;apply gO;exact bi 7 (lE AE [3] []) (lE AE [3] [])
theorem q8:Ar (Ag Tryz.f33 12) [([0,1,2,3,4,7,8],5),([],6),([],9)] [10] []:=by unfold Ar;kernel_rfl
theorem qz:Ar (Ag Tryz.f33 14) [([0,1,2,3,4,5,6,7,8,9,10,11,12,13,14,15,16,17,18,19,20,21,22,23],24)] [25] []:=by unfold Ar;kernel_rfl
theorem qy:Ar (Ag Tryz.f33 16) [] (List.range 16) []:=by unfold Ar;kernel_rfl
def LJ:Bi:=fun i=>match i with
 | 12=>.ord [([0,1,2,3,4,7,8],5),([],6),([],9)] [10] []
 | 14=>.ord [([0,1,2,3,4,5,6,7,8,9,10,11,12,13,14,15,16,17,18,19,20,21,22,23],24)] [25] []
 | 16=>.ord [] (List.range 16) []
 | _=>.no
def JB (n:Nat) (q:AA) (c_:AB) (AH:List Int):Option Bool:=
 bif (c_.kind==1) then
  (XK n AH c_.cells).bind fun y1=>
   some y1
 else
  bif (c_.kind==2) then
   (XR n AH c_.cells c_.set).bind fun y1=>
    (OQ n y1 c_).bind fun y2=>
     some y2
  else
   bif (c_.kind==3) then
    (Ui n q.values AH c_.cells).bind fun y1=>
     (OQ n y1 c_).bind fun y2=>
      some y2
   else
    bif (c_.kind==4) then
     (VA n q.values AH c_.cells).bind fun y1=>
      some y1
    else
     bif (c_.kind==5) then
      (Oz n c_.cells c_.set AH).bind fun y1=>
       (OJ n y1).bind fun y2=>
        (P8 n y2 c_.runs).bind fun y3=>
         some y3
     else
      bif (c_.kind==6) then
       if ((0:Int)<=0/\ 0<(c_.cells.length:Int))/\ (0<=(c_.cells.getD 0 0)/\ (c_.cells.getD 0 0)<(AH.length:Int))/\ (0<=(AH.getD ((c_.cells.getD 0 0).toNat) 0)/\ (AH.getD ((c_.cells.getD 0 0).toNat) 0)<(q.values.length:Int))/\ ((0:Int)<=1/\ 1<(c_.cells.length:Int))/\ (0<=(c_.cells.getD 1 0)/\ (c_.cells.getD 1 0)<(AH.length:Int))/\ (0<=(AH.getD ((c_.cells.getD 1 0).toNat) 0)/\ (AH.getD ((c_.cells.getD 1 0).toNat) 0)<(q.values.length:Int)) then
        (cy n (q.values.getD ((AH.getD ((c_.cells.getD 0 0).toNat) 0).toNat) 0) (q.values.getD ((AH.getD ((c_.cells.getD 1 0).toNat) 0).toNat) 0) c_.lo).bind fun y1=>
         some y1
       else none
      else
       bif (c_.kind==7) then
        if ((0:Int)<=0/\ 0<(c_.cells.length:Int))/\ (0<=(c_.cells.getD 0 0)/\ (c_.cells.getD 0 0)<(AH.length:Int))/\ ((0:Int)<=1/\ 1<(c_.cells.length:Int))/\ (0<=(c_.cells.getD 1 0)/\ (c_.cells.getD 1 0)<(AH.length:Int)) then
         (HG n c_.set (AH.getD ((c_.cells.getD 0 0).toNat) 0)).bind fun y1=>
          bif y1 then
           (HG n c_.other (AH.getD ((c_.cells.getD 1 0).toNat) 0)).bind fun y2=>
            bif y2 then
             some false
            else
             (HG n c_.set (AH.getD ((c_.cells.getD 1 0).toNat) 0)).bind fun y3=>
              bif y3 then
               (HG n c_.other (AH.getD ((c_.cells.getD 0 0).toNat) 0)).bind fun y4=>
                some (!y4)
              else
               some true
          else
           (HG n c_.set (AH.getD ((c_.cells.getD 1 0).toNat) 0)).bind fun y2=>
            bif y2 then
             (HG n c_.other (AH.getD ((c_.cells.getD 0 0).toNat) 0)).bind fun y3=>
              some (!y3)
            else
             some true
        else none
       else
        (PV n q.nbrs AH c_.cells c_.set (c_.kind==9)).bind fun y1=>
         some y1
def FY (n:Nat) (q:AA) (c_:AB) (AH:List Int):Option Bool:=JB n q c_ AH
theorem u9 {n:Nat} {q:AA} {c_:AB} {AH:List Int} {r:Bool} (h:FY n q c_ AH=some r):EQ 33 [.agg 5 (L1 (AC q)),.agg 9 (L1 (AJ c_)),.ints AH] [] (.bool r) [] true:=by
 refine ot Tryz.func33 fun B N=>?_
 revert r;apply gO;exact bi 14 (cf zBn [some (.cells (AC q)),some (.cells (AJ c_))] fun _=>lE AE [6] []) (bi 20 (cf zCG [some (.cells (AC q)),some (.cells (AJ c_))] fun y1=>cn fun y2 Bz=>jc (sb [.i y1,.ref 1 0] (nG Bz) [some (.cells (AC q)),some (.cells (AJ c_))] ⟨Ad.plain (by kernel_rfl),(Ad.refL (l:=(AJ c_)) (l0:=(AJ c_)) rfl ⟨Ad.plain (by kernel_rfl),Ad.plain (by kernel_rfl),Ad.plain (by kernel_rfl),Ad.plain (by kernel_rfl),Ad.plain (by kernel_rfl),Ad.plain (by kernel_rfl),Ad.plain (by kernel_rfl),Ad.plain (by kernel_rfl),Ad.plain (by kernel_rfl),trivial⟩),trivial⟩) (lE AE [6] [])) (bi 30 (cf pG [some (.cells (AC q)),some (.cells (AJ c_))] fun y1=>cn fun y2 Bz=>jc (sb [.i y1,.ref 1 0] (nG Bz) [some (.cells (AC q)),some (.cells (AJ c_))] ⟨Ad.plain (by kernel_rfl),(Ad.refL (l:=(AJ c_)) (l0:=(AJ c_)) rfl ⟨Ad.plain (by kernel_rfl),Ad.plain (by kernel_rfl),Ad.plain (by kernel_rfl),Ad.plain (by kernel_rfl),Ad.plain (by kernel_rfl),Ad.plain (by kernel_rfl),Ad.plain (by kernel_rfl),Ad.plain (by kernel_rfl),Ad.plain (by kernel_rfl),trivial⟩),trivial⟩) (lE AE [6] [])) (bi 40 (cf sZ [some (.cells (AC q)),some (.cells (AJ c_))] fun _=>lE AE [6] []) (bi 48 (jg q8 (cn fun y1 A5=>jc (rt A5 [some (.cells (AC q)),some (.cells (AJ c_))]) (cn fun y2 Bz=>jq (eu (zCd Bz) [2] [some (.cells (AC q)),some (.cells (AJ c_)),some (.iter ((y1).map BQ))] 2) (cf mH [some (.cells (AC q)),some (.cells (AJ c_)),none] fun _=>lE LJ [6] [])))) (bi 60 (jg qz (gc (gi (gc (gi (gc (gi (gc (gi (gc (gi (gi (cf zDS [some (.cells (AC q)),some (.cells (AJ c_))] fun _=>lE LJ [6] []))))))))))))) (bi 87 (jg qy (gc (gi (gc (gi (gc (gi (gi (cf JG [some (.cells (AC q)),some (.cells (AJ c_))] fun _=>bi 105 (cf JG [some (.cells (AC q)),some (.cells (AJ c_))] fun _=>bi 110 (lE LJ [6] []) (cf JG [some (.cells (AC q)),some (.cells (AJ c_))] fun _=>bi 116 (cf JG [some (.cells (AC q)),some (.cells (AJ c_))] fun _=>lE LJ [6] []) (lE LJ [6] []))) (cf JG [some (.cells (AC q)),some (.cells (AJ c_))] fun _=>bi 116 (cf JG [some (.cells (AC q)),some (.cells (AJ c_))] fun _=>lE LJ [6] []) (lE LJ [6] []))))))))))) (cf wR [some (.cells (AC q)),some (.cells (AJ c_))] fun _=>lE LJ [6] [])))))))
def dj (n:Nat) (v Cl:Int):Option Bool:=
 bif (decide (v<0)) then
  some true
 else
  some (decide (v>=Cl))
def UR (n:Nat) (v Cl:Int):Option Bool:=dj n v Cl
theorem oM {n:Nat} {v Cl:Int} {r:Bool} (h:UR n v Cl=some r):EQ 75 [.i v,.fp 1 (L1 [.i Cl])] [] (.bool r) [] true:=by
 refine ot Tryz.func75 fun B N=>?_
 revert r;apply gO;exact bi 5 (lE AE [3] []) (lE AE [3] [])
inductive WE where
 | l1 (x8:Int)
def Sb (n:Nat) (self:WE -> Option Int) (l:List Int) (Cl:Int) (x8:Int):Option Int:=
 bif (decide (x8<(l.length:Int))) then
  if 0<=x8/\ x8<(l.length:Int) then
   (UR n (l.getD ((x8).toNat) 0) Cl).bind fun y1=>
    bif y1 then
     some x8
    else
     if AL (x8+1) then
      self (.l1 (x8+1))
     else none
  else none
 else
  some (-1)
def wh (n:Nat) (self:WE -> Option Int) (l:List Int) (Cl:Int):Option Int:=
 self (.l1 0)
def Lj (l:List Int) (Cl:Int):Nat -> WE -> Option Int
 | 0,_=>none
 | n+1,.l1 x8=>Sb n (Lj l Cl n) l Cl x8
def j0 (n:Nat) (l:List Int) (Cl:Int):Option Int:=wh n (Lj l Cl n) l Cl
def wi (n B:Nat) (N:Yd 0) (l:List Int) (Cl:Int) (r:Int):WE -> Prop
 | .l1 x8=>∀ m0:Nat,n<=m0 -> TW B N (FQ Tryz.f101 0 (.i r) []) (A8 m0 (BL (AY Tryz.f101) 0 [])) ⟨AG 19 [(0,.ints l),(1,.fn 75 1 (L1 [.fp 1 (L1 [.i Cl])])),(7,.i (l.length:Int)),(8,.i x8)],[]⟩
theorem wj (B:Nat) (N:Yd 0) (l:List Int) (Cl:Int):Al (Lj l Cl) (wi · B N l Cl):=ia (fun _=>rfl) fun n AK pt r h=>by
 cases pt
 case l1 x8=>
  intro m0 AD;refine rd AD fun m0 AD=>?_
  revert r;apply gO;exact bi 9 (gi (cf oM [] fun _=>bi 16 (lE AE [4] []) (gw 18 (lG AE [] (AK _ _ · m0 AD))))) (lE AE [4] [])
theorem wg {n:Nat} {l:List Int} {Cl:Int} {r:Int} (h:j0 n l Cl=some r):EQ 101 [.ints l,.fn 75 1 (L1 [.fp 1 (L1 [.i Cl])])] [] (.i r) [] true:=by
 refine ot Tryz.func101 fun B N=>?_
 revert r;apply gO;exact lN AE [] ((wj B N l Cl n) _ _ · n Nat.le.refl)
def mh (n:Nat) (l:List Int) (Cl:Int):Option Bool:=
 (j0 n l Cl).bind fun y1=>
  some (decide (y1>=0))
def cJ (n:Nat) (l:List Int) (Cl:Int):Option Bool:=mh n l Cl
theorem zCN {n:Nat} {l:List Int} {Cl:Int} {r:Bool} (h:cJ n l Cl=some r):EQ 74 [.ints l,.fn 75 1 (L1 [.fp 1 (L1 [.i Cl])])] [] (.bool r) [] true:=by
 unfold cJ mh at h;refine ot Tryz.func74 fun B N=>?_
 revert r;apply gO;exact cf wg [] fun _=>lE AE [4] []
def bs (n:Nat) (cells symbols:Int) (AH:List Int):Option Bool:=
 bif ((AH.length:Int)==cells) then
  (cJ n AH symbols).bind fun y1=>
   some (!y1)
 else
  some false
def TR (n:Nat) (cells symbols:Int) (AH:List Int):Option Bool:=bs n cells symbols AH
theorem zBF {n:Nat} {cells symbols:Int} {AH:List Int} {r:Bool} (h:TR n cells symbols AH=some r):EQ 43 [.i cells,.i symbols,.ints AH] [] (.bool r) [] true:=by
 refine ot Tryz.func43 fun B N=>?_
 revert r;apply gO;exact bi 10 (cn fun y1 A5=>jc (sb [.ints AH,.fn 75 1 (L1 [.ref 0 0])] (zCN A5) [some (.cells [.i symbols])] ⟨Ad.plain (by kernel_rfl),(Ad.fnL (l:=[.ref 0 0]) (l0:=[.fp 1 (L1 [.i symbols])]) ⟨(Ad.refL (l:=[.i symbols]) (l0:=[.i symbols]) rfl ⟨Ad.plain (by kernel_rfl),trivial⟩),trivial⟩),trivial⟩) (lE AE [6] [])) (lE AE [6] [])
def gx (n:Nat) (q:AA) (AH:List Int):Option Int:=
 (valid n q).bind fun y1=>
  bif (y1 != 0) then
   some y1
  else
   (TR n q.cells q.symbols AH).bind fun y2=>
    bif (!y2) then
     some 200
    else
     some 0
def VG (n:Nat) (q:AA) (AH:List Int):Option Int:=gx n q AH
theorem s8 {n:Nat} {q:AA} {AH:List Int} {r:Int} (h:VG n q AH=some r):EQ 30 [.agg 5 (L1 (AC q)),.ints AH] [] (.i r) [] true:=by
 unfold VG gx at h;refine ot Tryz.func30 fun B N=>?_
 revert r;apply gO;exact cf UM [some (.cells (AC q))] fun _=>bi 8 (lE AE [4] []) (cf zBF [some (.cells (AC q))] fun _=>bi 16 (lE AE [4] []) (lE AE [4] []))
end Go.Proofs.YtkjbblkieglmlaaGreatDoor
namespace Go.Proofs.YtkjbblkieglmlaaGreatDoor
open Go.RowKit
set_option maxRecDepth 100000
set_option maxHeartbeats 40000000
def YD (n:Nat) (c:AB) (q:AA) (AH:List Int):Option Bool:=
 (FY n q c AH).bind fun y1=>
  some (!y1)
def UP (n:Nat) (c:AB) (q:AA) (AH:List Int):Option Bool:=YD n c q AH
theorem oH {n:Nat} {c:AB} {q:AA} {AH:List Int} {r:Bool} (h:UP n c q AH=some r):EQ 32 [.agg 9 (L1 (AJ c)),.fp 5 (L1 (AC q)),.fp 1 (L1 [.ints AH])] [] (.bool r) [] true:=by
 unfold UP YD at h;refine ot Tryz.func32 fun B N=>?_
 revert r;apply gO;exact cf u9 [some (.cells (AJ c))] fun _=>lE AE [4] []
inductive V9 where
 | l1 (x8:Int)
def Sa (n:Nat) (self:V9 -> Option Int) (l:List AB) (q:AA) (AH:List Int) (x8:Int):Option Int:=
 bif (decide (x8<(l.length:Int))) then
  if 0<=x8/\ x8<(l.length:Int) then
   (UP n (l.getD ((x8).toNat) default) q AH).bind fun y1=>
    bif y1 then
     some x8
    else
     if AL (x8+1) then
      self (.l1 (x8+1))
     else none
  else none
 else
  some (-1)
def wa (n:Nat) (self:V9 -> Option Int) (l:List AB) (q:AA) (AH:List Int):Option Int:=
 self (.l1 0)
def Lh (l:List AB) (q:AA) (AH:List Int):Nat -> V9 -> Option Int
 | 0,_=>none
 | n+1,.l1 x8=>Sa n (Lh l q AH n) l q AH x8
def jx (n:Nat) (l:List AB) (q:AA) (AH:List Int):Option Int:=wa n (Lh l q AH n) l q AH
def wb (n B:Nat) (N:Yd 0) (l:List AB) (q:AA) (AH:List Int) (r:Int):V9 -> Prop
 | .l1 x8=>∀ m0:Nat,n<=m0 -> TW B N (FQ Tryz.f44 0 (.i r) []) (A8 m0 (BL (AY Tryz.f44) 0 [])) ⟨AG 19 [(0,.sl 9 l.length (AQ AJ l)),(1,.fn 32 2 (L1 [.fp 5 (L1 (AC q)),.fp 1 (L1 [.ints AH])])),(7,.i (l.length:Int)),(8,.i x8)],[]⟩
theorem wc (B:Nat) (N:Yd 0) (l:List AB) (q:AA) (AH:List Int):Al (Lh l q AH) (wb · B N l q AH):=ia (fun _=>rfl) fun n AK pt r h=>by
 cases pt
 case l1 x8=>
  intro m0 AD;refine rd AD fun m0 AD=>?_
  revert r;apply gO;exact bi 9 (gi (cf oH [] fun _=>bi 16 (lE AE [4] []) (gw 18 (lG AE [] (AK _ _ · m0 AD))))) (lE AE [4] [])
theorem wZ {n:Nat} {l:List AB} {q:AA} {AH:List Int} {r:Int} (h:jx n l q AH=some r):EQ 44 [.sl 9 l.length (AQ AJ l),.fn 32 2 (L1 [.fp 5 (L1 (AC q)),.fp 1 (L1 [.ints AH])])] [] (.i r) [] true:=by
 refine ot Tryz.func44 fun B N=>?_
 revert r;apply gO;exact lN AE [] ((wc B N l q AH n) _ _ · n Nat.le.refl)
def mg (n:Nat) (l:List AB) (q:AA) (AH:List Int):Option Bool:=
 (jx n l q AH).bind fun y1=>
  some (decide (y1>=0))
def cH (n:Nat) (l:List AB) (q:AA) (AH:List Int):Option Bool:=mg n l q AH
theorem zCL {n:Nat} {l:List AB} {q:AA} {AH:List Int} {r:Bool} (h:cH n l q AH=some r):EQ 31 [.sl 9 l.length (AQ AJ l),.fn 32 2 (L1 [.fp 5 (L1 (AC q)),.fp 1 (L1 [.ints AH])])] [] (.bool r) [] true:=by
 unfold cH mg at h;refine ot Tryz.func31 fun B N=>?_
 revert r;apply gO;exact cf wZ [] fun _=>lE AE [4] []
def fW (n:Nat) (q:AA) (AH:List Int):Option (Bool×Int):=
 (VG n q AH).bind fun y1=>
  bif (y1 != 0) then
   some (false,y1)
  else
   (cH n q.cons q AH).bind fun y2=>
    some ((!y2),0)
def LD (n:Nat) (q:AA) (AH:List Int):Option (Bool×Int):=fW n q AH
theorem pZ {n:Nat} {q:AA} {AH:List Int} {r:Bool×Int} (h:LD n q AH=some r):EQ 21 [.agg 5 (L1 (AC q)),.ints AH] [] (.tup 2 (L1 [.bool r.1,.i r.2])) [] true:=by
 unfold LD fW at h;refine ot Tryz.func21 fun B N=>?_
 revert r;apply gO;exact cf s8 [some (.cells (AC q)),some (.cells [.ints AH])] fun _=>bi 10 (lE AE [4,5] []) (cn fun y2 Bz=>jc (sb [.sl 9 q.cons.length (AQ AJ q.cons),.fn 32 2 (L1 [.ref 0 0,.ref 1 0])] (zCL Bz) [some (.cells (AC q)),some (.cells [.ints AH])] ⟨Ad.plain (by kernel_rfl),(Ad.fnL (l:=[.ref 0 0,.ref 1 0]) (l0:=[.fp 5 (L1 (AC q)),.fp 1 (L1 [.ints AH])]) ⟨(Ad.refL (l:=(AC q)) (l0:=(AC q)) rfl ⟨Ad.plain (by kernel_rfl),Ad.plain (by kernel_rfl),Ad.plain (by kernel_rfl),Ad.plain (by kernel_rfl),Ad.plain (by kernel_rfl),trivial⟩),(Ad.refL (l:=[.ints AH]) (l0:=[.ints AH]) rfl ⟨Ad.plain (by kernel_rfl),trivial⟩),trivial⟩),trivial⟩) (lE AE [4,5] []))
end Go.Proofs.YtkjbblkieglmlaaGreatDoor
namespace Go.Proofs.YtkjbblkieglmlaaGreatDoor
open Go.RowKit
set_option maxRecDepth 100000
set_option maxHeartbeats 40000000
def ir (n:Nat) (s_ Dp:Int):Option Int:=
 if 0<=Dp/\ Dp<=(IntKind.u64.bits:Int) then
  some (bits .and .u64 s_ (IntKind.u64.wrap (1*2 ^ (Dp).toNat)))
 else none
def Vg (n:Nat) (s_ Dp:Int):Option Int:=ir n s_ Dp
theorem uS {n:Nat} {s_ Dp:Int} {r:Int} (h:Vg n s_ Dp=some r):EQ 109 [.int .u64 s_,.i Dp] [] (.int .u64 r) [] true:=by
 refine ot Tryz.func109 fun B N=>?_
 revert r;apply gO;exact gi (lE AE [4] [])
def cV (n:Nat) (q:AA) (pos:List Int) (cell sy:Int):Option ((List Int)×Int):=
 (NH n q pos).bind fun y1=>
  bif (y1 != 0) then
   some (([]:List Int),y1)
  else
   bif (decide (cell<0)) then
    some (([]:List Int),1)
   else
    bif (decide (cell>=q.cells)) then
     some (([]:List Int),1)
    else
     bif (decide (sy<0)) then
      some (([]:List Int),1)
     else
      bif (decide (sy>=q.symbols)) then
       some (([]:List Int),1)
      else
       if ((True)/\ (0=0/\ 0=([]:List Int).length)/\ ([]:List Int).length+pos.length<=BB)/\ (0<=cell/\ cell<((([]:List Int).length+pos.length:Nat):Int))/\ 0+((cell).toNat)<(([]:List Int)++pos).length then
        (Vg n (IntKind.u64.wrap ((([]:List Int)++pos).getD (0+((cell).toNat)) 0)) sy).bind fun y2=>
         if ([]:List Int).length+pos.length=((([]:List Int)++pos).set (0+((cell).toNat)) (IntKind.i64.wrap y2)).length then
          (PF n ((([]:List Int)++pos).set (0+((cell).toNat)) (IntKind.i64.wrap y2))).bind fun y3=>
           some (y3,0)
         else none
       else none
def Xe (n:Nat) (q:AA) (pos:List Int) (cell sy:Int):Option ((List Int)×Int):=cV n q pos cell sy
theorem zCm {n:Nat} {q:AA} {pos:List Int} {cell sy:Int} {r:(List Int)×Int} (h:Xe n q pos cell sy=some r):EQ 108 [.agg 5 (L1 (AC q)),.ints pos,.i cell,.i sy,.fn 109 0 (L1 [])] [] (.tup 2 (L1 [.ints r.1,.i r.2])) [] true:=by
 unfold Xe cV at h;refine ot Tryz.func108 fun B N=>?_
 revert r;apply gO
 exact cf ZM [some (.cells (AC q))] fun y1=>bi 18 (lF fun p=>el AE [10,11] [] p [] H0 [.nils,.i y1] (AS.tupL (l:=[.nils,.i y1]) (l':=[.ints ([]:List Int),.i y1]) rfl ⟨AS.ints_nil,At,trivial⟩)) (bi 21 (lF fun p=>el AE [10,11] [] p [] H0 [.nils,.i 1] (AS.tupL (l:=[.nils,.i 1]) (l':=[.ints ([]:List Int),.i 1]) rfl ⟨AS.ints_nil,At,trivial⟩)) (bi 26 (lF fun p=>el AE [10,11] [] p [] H0 [.nils,.i 1] (AS.tupL (l:=[.nils,.i 1]) (l':=[.ints ([]:List Int),.i 1]) rfl ⟨AS.ints_nil,At,trivial⟩)) (bi 30 (lF fun p=>el AE [10,11] [] p [] H0 [.nils,.i 1] (AS.tupL (l:=[.nils,.i 1]) (l':=[.ints ([]:List Int),.i 1]) rfl ⟨AS.ints_nil,At,trivial⟩)) (bi 36 (lF fun p=>el AE [10,11] [] p [] H0 [.nils,.i 1] (AS.tupL (l:=[.nils,.i 1]) (l':=[.ints ([]:List Int),.i 1]) rfl ⟨AS.ints_nil,At,trivial⟩)) (gc (gi (gc (gn fun g1=>jg g1 (gn fun g2=>jg g2 (cf uS [some (.cells (AC q)),none,some (.ints (([]:List Int)++pos))] fun y2=>jg g1 (jg g2 (gn fun g3=>fun p r h=>by
  refine gz (AR 8 AE) [2] p [0] (H0.g g3) (CO (AY Tryz.f108) 8 []) (AG 55 [(13,.ints ((([]:List Int)++pos).set (0+((cell).toNat)) (IntKind.i64.wrap y2)))]) [none] ?_;revert r;apply gO;exact cf ug [none] fun _=>lE AE [10,11] []))))))))))))
def br (n:Nat) (q:AA) (pos:List Int) (cell Dp:Int):Option ((List Int)×Int):=
 (Xe n q pos cell Dp).bind fun y1=>
  some (y1.1,y1.2)
def OC (n:Nat) (q:AA) (pos:List Int) (cell Dp:Int):Option ((List Int)×Int):=br n q pos cell Dp
theorem zBE {n:Nat} {q:AA} {pos:List Int} {cell Dp:Int} {r:(List Int)×Int} (h:OC n q pos cell Dp=some r):EQ 86 [.agg 5 (L1 (AC q)),.ints pos,.i cell,.i Dp] [] (.tup 2 (L1 [.ints r.1,.i r.2])) [] true:=by
 unfold OC br at h;refine ot Tryz.func86 fun B N=>?_
 revert r;apply gO;exact cf zCm [some (.cells (AC q))] fun _=>lE AE [8,9] []
def yN (Hk:Nat) (y1 o1:List Int):DH:=[some (.cells [.msl 4 1 0 Hk]),some (.cells [.bool false]),some (.cells [.i 0]),some (.iter ((y1).map BQ)),some (.ints o1)]
def yM (IF:Nat) (Cw:Int) (GX:List Int):DH:=[some (.cells [.msl 4 1 0 IF]),some (.cells [.bool false]),some (.cells [.i Cw]),none,some (.ints GX)]
def yL (IG:Nat) (Cx:Int) (GY:List Int):DH:=[some (.cells [.msl 4 1 0 IG]),some (.cells [.bool false]),some (.cells [.i Cx]),none,some (.ints GY)]
inductive Jy where
 | s0 (IG:Nat) (Cx:Int) (GY:List Int)
 | s1 (Cw:Int)
def fY (pos:List Int) (x10:Int):Jy -> DH
 | .s0 IG Cx GY=>[some (.cells [.msl 4 1 0 IG]),some (.cells [.bool false]),some (.cells [.i Cx]),none,some (.ints GY)]
 | .s1 Cw=>[some (.cells [.nils]),some (.cells [.bool false]),some (.cells [.i Cw]),none]
def Mx (n:Nat) (pos:List Int) (x10 Bp:Int) (IG:Nat) (Cx:Int) (GY:List Int):Option (Jy×Nat):=
 if AL (Cx+1) then
  bif (decide ((Cx+1)>1)) then
   some (.s1 (Cx+1),1)
  else
   bif (decide (Bp>=16)) then
    some (.s1 (Cx+1),1)
   else
    if (0=0/\ 1=([Bp]:List Int).length)/\ (0=0/\ IG=GY.length)/\ GY.length+([Bp]:List Int).length<=BB then
     some (.s0 (GY.length+([Bp]:List Int).length) (Cx+1) (GY++([Bp]:List Int)),0)
    else none
 else none
def YZ (n:Nat) (pos:List Int) (x10 Bp:Int) (Cw:Int):Option (Jy×Nat):=
 if AL (Cw+1) then
  bif (decide ((Cw+1)>1)) then
   some (.s1 (Cw+1),1)
  else
   bif (decide (Bp>=16)) then
    some (.s1 (Cw+1),1)
   else
    if (0=0/\ 1=([Bp]:List Int).length)/\ 0<([Bp]:List Int).length/\ ([Bp]:List Int).length<=BB then
     some (.s0 (([Bp]:List Int).length) (Cw+1) ([Bp]:List Int),0)
    else none
 else none
def ph (n:Nat) (pos:List Int) (x10 Bp:Int):Jy -> Option (Jy×Nat)
 | .s0 IG Cx GY=>Mx n pos x10 Bp IG Cx GY
 | .s1 Cw=>YZ n pos x10 Bp Cw
def Qv (n:Nat) (pos:List Int) (x10 Bp:Int) (s:Jy):Option (Jy×Nat):=ph n pos x10 Bp s
theorem pg (n:Nat) (pos:List Int) (x10:Int) (l B:Nat) (N:Yd 4) (Bp:Int) (s:Jy) (r:Jy×Nat) (h:Qv n pos x10 Bp s=some r):TA l B N (Cb 4 [.ret] r.2 (fY pos x10 r.1)) Tryz.f89 16 ⟨AG 34 [(2,.ref 0 0),(3,.ref 1 0),(6,.ref 2 0),(8,.ints pos),(9,.i (pos.length:Int)),(10,.i x10),(16,.it 3),(17,.i Bp)],fY pos x10 s⟩:=by
 cases s with
 | s0 IG Cx GY=>
  replace h:Mx n pos x10 Bp IG Cx GY=some r:=h;unfold Mx at h;refine ag AE [0,1,2,3,4] H0 (AG 34 [(2,.ref 0 0),(3,.ref 1 0),(6,.ref 2 0),(7,.i Bp)]) (yL IG Cx GY) fun N=>?_
  revert r;apply gO;exact gw 19 (jt (bi 21 (jt (jt (lF fun p=>rr AE [0,1,2,3] rfl p))) (bi 24 (jt (jt (lF fun p=>rr AE [0,1,2,3] rfl p))) (gi (jt (lF fun p=>rr AE [0,1,2,3,6] rfl p))))))
 | s1 Cw=>
  replace h:YZ n pos x10 Bp Cw=some r:=h;unfold YZ at h;refine ag AE [0,1,2,3] H0 (AG 34 [(2,.ref 0 0),(3,.ref 1 0),(6,.ref 2 0),(7,.i Bp)]) [some (.cells [.nils]),some (.cells [.bool false]),some (.cells [.i Cw]),none] fun N=>?_
  revert r;apply gO;exact gw 19 (jt (bi 21 (jt (jt (lF fun p=>rr AE [0,1,2,3] rfl p))) (bi 24 (jt (jt (lF fun p=>rr AE [0,1,2,3] rfl p))) (gi (jt (lF fun p=>rr AE [0,1,2,3,5] rfl p))))))
inductive Jz where
 | s0 (Cx:Int)
 | s1 (IF:Nat) (Cw:Int) (GX:List Int)
def fX (pos:List Int) (x10:Int):Jz -> DH
 | .s0 Cx=>[some (.cells [.nils]),some (.cells [.bool false]),some (.cells [.i Cx]),none]
 | .s1 IF Cw GX=>[some (.cells [.msl 4 1 0 IF]),some (.cells [.bool false]),some (.cells [.i Cw]),none,some (.ints GX)]
def Qu (n:Nat) (pos:List Int) (x10 Bp:Int) (Cx:Int):Option (Jz×Nat):=
 if AL (Cx+1) then
  bif (decide ((Cx+1)>1)) then
   some (.s0 (Cx+1),1)
  else
   bif (decide (Bp>=16)) then
    some (.s0 (Cx+1),1)
   else
    if (0=0/\ 1=([Bp]:List Int).length)/\ 0<([Bp]:List Int).length/\ ([Bp]:List Int).length<=BB then
     some (.s1 (([Bp]:List Int).length) (Cx+1) ([Bp]:List Int),0)
    else none
 else none
def Qt (n:Nat) (pos:List Int) (x10 Bp:Int) (IF:Nat) (Cw:Int) (GX:List Int):Option (Jz×Nat):=
 if AL (Cw+1) then
  bif (decide ((Cw+1)>1)) then
   some (.s0 (Cw+1),1)
  else
   bif (decide (Bp>=16)) then
    some (.s0 (Cw+1),1)
   else
    if (0=0/\ 1=([Bp]:List Int).length)/\ (0=0/\ IF=GX.length)/\ GX.length+([Bp]:List Int).length<=BB then
     some (.s1 (GX.length+([Bp]:List Int).length) (Cw+1) (GX++([Bp]:List Int)),0)
    else none
 else none
def pf (n:Nat) (pos:List Int) (x10 Bp:Int):Jz -> Option (Jz×Nat)
 | .s0 Cx=>Qu n pos x10 Bp Cx
 | .s1 IF Cw GX=>Qt n pos x10 Bp IF Cw GX
def Qw (n:Nat) (pos:List Int) (x10 Bp:Int) (s:Jz):Option (Jz×Nat):=pf n pos x10 Bp s
theorem pd (n:Nat) (pos:List Int) (x10:Int) (l B:Nat) (N:Yd 4) (Bp:Int) (s:Jz) (r:Jz×Nat) (h:Qw n pos x10 Bp s=some r):TA l B N (Cb 4 [.ret] r.2 (fX pos x10 r.1)) Tryz.f89 16 ⟨AG 34 [(2,.ref 0 0),(3,.ref 1 0),(6,.ref 2 0),(8,.ints pos),(9,.i (pos.length:Int)),(10,.i x10),(16,.it 3),(17,.i Bp)],fX pos x10 s⟩:=by
 cases s with
 | s0 Cx=>
  replace h:Qu n pos x10 Bp Cx=some r:=h;unfold Qu at h;refine ag AE [0,1,2,3] H0 (AG 34 [(2,.ref 0 0),(3,.ref 1 0),(6,.ref 2 0),(7,.i Bp)]) [some (.cells [.nils]),some (.cells [.bool false]),some (.cells [.i Cx]),none] fun N=>?_
  revert r;apply gO;exact gw 19 (jt (bi 21 (jt (jt (lF fun p=>rr AE [0,1,2,3] rfl p))) (bi 24 (jt (jt (lF fun p=>rr AE [0,1,2,3] rfl p))) (gi (jt (lF fun p=>rr AE [0,1,2,3,5] rfl p))))))
 | s1 IF Cw GX=>
  replace h:Qt n pos x10 Bp IF Cw GX=some r:=h;unfold Qt at h;refine ag AE [0,1,2,3,4] H0 (AG 34 [(2,.ref 0 0),(3,.ref 1 0),(6,.ref 2 0),(7,.i Bp)]) (yM IF Cw GX) fun N=>?_
  revert r;apply gO;exact gw 19 (jt (bi 21 (jt (jt (lF fun p=>rr AE [0,1,2,3] rfl p))) (bi 24 (jt (jt (lF fun p=>rr AE [0,1,2,3] rfl p))) (gi (jt (lF fun p=>rr AE [0,1,2,3,6] rfl p))))))
inductive Qx where
 | l1 (x10:Int)
 | l2 (x10:Int) (Hk:Nat) (o1:List Int)
def Mw (n:Nat) (self:Qx -> Option ((List Int)×Bool)) (pos:List Int) (x10:Int):Option ((List Int)×Bool):=
 bif (decide (x10<(pos.length:Int))) then
  if 0<=x10/\ x10<(pos.length:Int) then
   (Ks n (IntKind.u64.wrap (pos.getD ((x10).toNat) 0))).bind fun y1=>
    (DB (Qw n pos x10) y1 (.s0 0)).bind fun y2=>
     bif y2.2==0 then
      match y2.1 with
      | .s0 EA=>
       bif (EA==0) then
        some (([]:List Int),false)
       else
        if AL (x10+1) then
         self (.l1 (x10+1))
        else none
      | .s1 Im UH Od=>
       bif (UH==0) then
        some (([]:List Int),false)
       else
        if AL (x10+1) then
         self (.l2 (x10+1) Im Od)
        else none
     else
      bif y2.2==1 then
       match y2.1 with
       | .s0 EA=>
        some (([]:List Int),false)
       | .s1 Im UH Od=>
        if Im=Od.length then
         some (Od,false)
        else none
      else
       none
  else none
 else
  some (([]:List Int),true)
def Mv (n:Nat) (self:Qx -> Option ((List Int)×Bool)) (pos:List Int) (x10:Int) (Hk:Nat) (o1:List Int):Option ((List Int)×Bool):=
 bif (decide (x10<(pos.length:Int))) then
  if 0<=x10/\ x10<(pos.length:Int) then
   (Ks n (IntKind.u64.wrap (pos.getD ((x10).toNat) 0))).bind fun y1=>
    (DB (Qv n pos x10) y1 (.s0 Hk 0 o1)).bind fun y2=>
     bif y2.2==0 then
      match y2.1 with
      | .s0 EA UI Oe=>
       bif (UI==0) then
        some (([]:List Int),false)
       else
        if AL (x10+1) then
         self (.l2 (x10+1) EA Oe)
        else none
      | .s1 Im=>
       bif (Im==0) then
        some (([]:List Int),false)
       else
        if AL (x10+1) then
         self (.l1 (x10+1))
        else none
     else
      bif y2.2==1 then
       match y2.1 with
       | .s0 EA UI Oe=>
        if EA=Oe.length then
         some (Oe,false)
        else none
       | .s1 Im=>
        some (([]:List Int),false)
      else
       none
  else none
 else
  if Hk=o1.length then
   some (o1,true)
  else none
def pc (n:Nat) (self:Qx -> Option ((List Int)×Bool)) (pos:List Int):Option ((List Int)×Bool):=
 self (.l1 0)
def Fy (pos:List Int):Nat -> Qx -> Option ((List Int)×Bool)
 | 0,_=>none
 | n+1,.l1 x10=>Mw n (Fy pos n) pos x10
 | n+1,.l2 x10 Hk o1=>Mv n (Fy pos n) pos x10 Hk o1
def Un (n:Nat) (pos:List Int):Option ((List Int)×Bool):=pc n (Fy pos n) pos
def pi (n B:Nat) (N:Yd 0) (pos:List Int) (r:(List Int)×Bool):Qx -> Prop
 | .l1 x10=>∀ m0:Nat,n<=m0 -> TW B N (FQ Tryz.f89 0 (.tup 2 (L1 [.ints r.1,.bool r.2])) []) (A8 m0 (BL (AY Tryz.f89) 0 [])) ⟨AG 34 [(2,.ref 0 0),(3,.ref 1 0),(8,.ints pos),(9,.i (pos.length:Int)),(10,.i x10)],[some (.cells [.nils]),some (.cells [.bool false])]⟩
 | .l2 x10 Hk o1=>∀ m0:Nat,n<=m0 -> TW B N (FQ Tryz.f89 0 (.tup 2 (L1 [.ints r.1,.bool r.2])) []) (A8 m0 (BL (AY Tryz.f89) 0 [])) ⟨AG 34 [(2,.ref 0 0),(3,.ref 2 0),(8,.ints pos),(9,.i (pos.length:Int)),(10,.i x10)],[some (.cells [.msl 1 1 0 Hk]),some (.ints o1),some (.cells [.bool false])]⟩
theorem pj (B:Nat) (N:Yd 0) (pos:List Int):Al (Fy pos) (pi · B N pos):=ia (fun _=>rfl) fun n AK pt r h=>by
 cases pt
 case l1 x10=>
  intro m0 AD;refine rd AD fun m0 AD=>?_
  revert r;apply gO
  exact bi 11 (gi (jt (cn fun y1 A5=>jc (dB A5 [some (.cells [.nils]),some (.cells [.bool false]),some (.cells [.i 0])]) (cn fun y2 Bz=>fun p r h=>by
   refine gs AE [0,1,2,3] p (Fe (AY Tryz.f89) 16 [m0]) (AG 34 [(2,.ref 0 0),(3,.ref 1 0),(6,.ref 2 0),(8,.ints pos),(9,.i (pos.length:Int)),(10,.i x10),(16,.it 3)]) [some (.cells [.nils]),some (.cells [.bool false]),some (.cells [.i 0]),some (.iter ((y1).map BQ))] ?_;refine rx [.ret] 3 16 #[17] BQ 4 Bz (pd n pos x10) fun e he=>?_
   replace h:=Bt h;rcases h with ⟨H9,h⟩ | ⟨H9,h⟩
   ·rw [eq_of_beq H9] at he;cases he;revert h;cases y2.1 with
    | s0 EA=>
     intro h
     dsimp only at h
     revert r;apply gO;exact bi 31 (jt (jt (lF fun p=>el AE [2,3] [0,1] p [] H0 [.nils,.bool false] (AS.tupL (l:=[.nils,.bool false]) (l':=[.ints ([]:List Int),.bool false]) rfl ⟨AS.ints_nil,At,trivial⟩)))) (gw 32 (lG AE [0,1] (AK _ _ · m0 AD)))
    | s1 Im UH Od=>
     intro h
     dsimp only at h
     revert r;apply gO;exact bi 31 (jt (jt (lF fun p=>el AE [2,3] [0,1] p [] H0 [.nils,.bool false] (AS.tupL (l:=[.nils,.bool false]) (l':=[.ints ([]:List Int),.bool false]) rfl ⟨AS.ints_nil,At,trivial⟩)))) (gw 32 (lG AE [0,4,1] (AK _ _ · m0 AD)))
   ·replace h:=Bt h;rcases h with ⟨H9,h⟩ | ⟨H9,h⟩
    ·rw [eq_of_beq H9] at he;cases he;refine LT ⟨rfl,?_⟩ _;revert h;cases y2.1 with
     | s0 EA=>
      intro h
      dsimp only at h
      revert r;apply gT;exact lF fun _=>DC.el (.inr rfl) [] H0 [.nils,.bool false] (AS.tupL (l:=[.nils,.bool false]) (l':=[.ints ([]:List Int),.bool false]) rfl ⟨AS.ints_nil,At,trivial⟩) (by kernel_rfl)
     | s1 Im UH Od=>
      intro h
      dsimp only at h
      revert r;apply gT;exact gn fun g1=>lF fun _=>DC.e (.inr rfl) [4] (H0.g g1) (by kernel_rfl)
    ·cases h)))) (jt (jt (lF fun p=>el AE [2,3] [0,1] p [] H0 [.nils,.bool true] (AS.tupL (l:=[.nils,.bool true]) (l':=[.ints ([]:List Int),.bool true]) rfl ⟨AS.ints_nil,At,trivial⟩))))
 case l2 x10 Hk o1=>
  intro m0 AD;refine rd AD fun m0 AD=>?_
  revert r;apply gO
  exact bi 11 (gi (jt (cn fun y1 A5=>jc (dB A5 [some (.cells [.msl 1 1 0 Hk]),some (.ints o1),some (.cells [.bool false]),some (.cells [.i 0])]) (cn fun y2 Bz=>fun p r h=>by
   refine gs AE [0,2,3,4,1] p (Fe (AY Tryz.f89) 16 [m0]) (AG 34 [(2,.ref 0 0),(3,.ref 1 0),(6,.ref 2 0),(8,.ints pos),(9,.i (pos.length:Int)),(10,.i x10),(16,.it 3)]) (yN Hk y1 o1) ?_;refine rx [.ret] 3 16 #[17] BQ 4 Bz (pg n pos x10) fun e he=>?_
   replace h:=Bt h;rcases h with ⟨H9,h⟩ | ⟨H9,h⟩
   ·rw [eq_of_beq H9] at he;cases he;revert h;cases y2.1 with
    | s0 EA UI Oe=>
     intro h
     dsimp only at h
     revert r;apply gO;exact bi 31 (jt (jt (lF fun p=>el AE [2,3] [0,1] p [] H0 [.nils,.bool false] (AS.tupL (l:=[.nils,.bool false]) (l':=[.ints ([]:List Int),.bool false]) rfl ⟨AS.ints_nil,At,trivial⟩)))) (gw 32 (lG AE [0,4,1] (AK _ _ · m0 AD)))
    | s1 Im=>
     intro h
     dsimp only at h
     revert r;apply gO;exact bi 31 (jt (jt (lF fun p=>el AE [2,3] [0,1] p [] H0 [.nils,.bool false] (AS.tupL (l:=[.nils,.bool false]) (l':=[.ints ([]:List Int),.bool false]) rfl ⟨AS.ints_nil,At,trivial⟩)))) (gw 32 (lG AE [0,1] (AK _ _ · m0 AD)))
   ·replace h:=Bt h;rcases h with ⟨H9,h⟩ | ⟨H9,h⟩
    ·rw [eq_of_beq H9] at he;cases he;refine LT ⟨rfl,?_⟩ _;revert h;cases y2.1 with
     | s0 EA UI Oe=>
      intro h
      dsimp only at h
      revert r;apply gT;exact gn fun g1=>lF fun _=>DC.e (.inr rfl) [4] (H0.g g1) (by kernel_rfl)
     | s1 Im=>
      intro h
      dsimp only at h
      revert r;apply gT;exact lF fun _=>DC.el (.inr rfl) [] H0 [.nils,.bool false] (AS.tupL (l:=[.nils,.bool false]) (l':=[.ints ([]:List Int),.bool false]) rfl ⟨AS.ints_nil,At,trivial⟩) (by kernel_rfl)
    ·cases h)))) (jt (jt (gn fun g0=>lF fun p=>ez AE [2,3] [0,1,2] p [1] (H0.g g0))))
theorem pb {n:Nat} {pos:List Int} {r:(List Int)×Bool} (h:Un n pos=some r):EQ 89 [.ints pos] [] (.tup 2 (L1 [.ints r.1,.bool r.2])) [] true:=by
 refine ot Tryz.func89 fun B N=>?_
 revert r;apply gO;exact lN AE [0,1] ((pj B N pos n) _ _ · n Nat.le.refl)
def X8 (n:Nat) (q:AA) (pos:List Int) (tree:List (Int×Int)):Option Int:=
 (valid n q).bind fun y1=>
  bif (y1 != 0) then
   some y1
  else
   (NH n q pos).bind fun y2=>
    bif (y2 != 0) then
     some y2
    else
     bif (decide ((tree.length:Int)>65536)) then
      some 2
     else
      some 0
def Iq (n:Nat) (q:AA) (pos:List Int) (tree:List (Int×Int)):Option Int:=X8 n q pos tree
theorem dh {n:Nat} {q:AA} {pos:List Int} {tree:List (Int×Int)} {r:Int} (h:Iq n q pos tree=some r):EQ 35 [.agg 5 (L1 (AC q)),.ints pos,.sl 2 tree.length (AQ Aw tree)] [] (.i r) [] true:=by
 unfold Iq X8 at h;refine ot Tryz.func35 fun B N=>?_
 revert r;apply gO;exact cf UM [some (.cells (AC q))] fun _=>bi 10 (lE AE [6] []) (cf ZM [some (.cells (AC q))] fun _=>bi 16 (lE AE [6] []) (bi 20 (lE AE [6] []) (lE AE [6] [])))
end Go.Proofs.YtkjbblkieglmlaaGreatDoor
namespace Go.Proofs.YtkjbblkieglmlaaGreatDoor
open Go.RowKit
section
variable {q:AA} {pos:List Int}
theorem Zb (x:Int):BitVec.ofInt 64 (IntKind.u64.wrap x)=BitVec.ofInt 64 x:=by
 apply BitVec.eq_of_toNat_eq;rw [zEk,zEk,IntKind.wrap_u64]
 congr 1
 omega
theorem oW (a:Int) {s:Nat} (hs:s<63) (t:Nat):tb (IntKind.i64.wrap (bits .and .u64 (IntKind.u64.wrap a) (IntKind.u64.wrap (1*2 ^ s)))) t=(tb a t&&decide (s=t)):=by
 rw [YI]
 have e:tb (bits .and .u64 (IntKind.u64.wrap a) (IntKind.u64.wrap (1*2 ^ s))) t=(BitVec.ofInt 64 (IntKind.u64.wrap a)&&& BitVec.ofInt 64 (IntKind.u64.wrap (1*2 ^ s))).getLsbD t:=by
  show (BitVec.ofInt 64 (IntKind.u64.wrap ((BitVec.ofInt 64 (IntKind.u64.wrap a)&&& BitVec.ofInt 64 (IntKind.u64.wrap (1*2 ^ s))).toNat:Int))).getLsbD t=_
  rw [Zb,Ru]
 rw [e,Zb,Zb,BitVec.getLsbD_and];have h2:=Jr (show s<64 by omega) t;rw [YI] at h2;have h2:(BitVec.ofInt 64 (1*2 ^ s)).getLsbD t=decide (s=t):=h2;rw [h2];rfl
def Kk (y:List Int) (j s:Nat):List Int:=y.set j (IntKind.i64.wrap (bits .and .u64 (IntKind.u64.wrap (y.getD j 0)) (IntKind.u64.wrap (1*2 ^ s))))
def JY (y:List Int) (j s:Nat):List Int:=if EX (Kk y j s) then List.replicate y.length 0 else Kk y j s
theorem zA2 (hv:CM q=true) {y:List Int} (hy:posOk q y=true) {j s:Nat} (hj:j<y.length) (hs:s<q.symbols.toNat):(Kk y j s).length=y.length/\ ∀ l,l<y.length -> CH ((Kk y j s).getD l 0)/\ ∀ t,tb ((Kk y j s).getD l 0) t=(tb (y.getD l 0) t&&(!decide (l=j)||decide (t=s))):=by
 obtain ⟨h1,h2⟩:=(I3 hv).1 hy;obtain ⟨hc,Nl,_⟩:=Fg hv;unfold Kk;refine ⟨zAl,fun l hl=>?_⟩
 by_cases e:j=l
 ·subst e;rw [JW hj];refine ⟨UJ _,fun t=>?_⟩;rw [oW _ (by omega),zAT rfl,zD2,zEV]
  congr 1
  rw [decide_eq_decide];exact eq_comm
 ·rw [getD_set_ne e];refine ⟨(h2 l hl).in64 (by omega),fun t=>?_⟩;rw [zAE fun h=>e h.symm];simp
theorem nq (hv:CM q=true) {y:List Int} (hy:posOk q y=true):posOk q (List.replicate y.length 0)=true:=by
 obtain ⟨h1,_⟩:=(I3 hv).1 hy;refine (I3 hv).2 ⟨by rw [zAe];exact h1,fun j hj=>?_⟩
 have:(List.replicate y.length (0:Int)).getD j 0=0:=by
  rw [u8,zD7];split <;> rfl
 rw [this];exact ⟨zER _,Int.pow_pos (by decide)⟩
theorem zA3 (hv:CM q=true) {y:List Int} (hy:posOk q y=true) {j s:Nat} (hj:j<y.length) (hs:s<q.symbols.toNat):posOk q (JY y j s)=true:=by
 obtain ⟨h1,h2⟩:=(I3 hv).1 hy;obtain ⟨hc,Nl,_⟩:=Fg hv;obtain ⟨z1,z2⟩:=zA2 hv hy hj hs;unfold JY;split
 ·exact nq hv hy
 ·refine (I3 hv).2 ⟨by rw [z1];exact h1,fun l hl=>?_⟩;obtain ⟨e1,e2⟩:=z2 l (by omega);refine Qz (by omega) e1 fun t ht _=>?_
  rw [e2,(h2 l (by omega)).hi ht];rfl
theorem zBD (hF:EM q) (hv:CM q=true) {y:List Int} (hy:posOk q y=true) {j s:Nat} (hj:j<y.length) (hs:s<q.symbols.toNat) {n:Nat} (hn:E8 q+300<=n):OC n q y j s=some (JY y j s,0):=by
 obtain ⟨h1,h2⟩:=(I3 hv).1 hy;obtain ⟨hc,Nl,_⟩:=Fg hv;have L:(1000000000000:Nat)=BB:=rfl;have lb:(256:Nat)<=LB:=by decide
 have sy:((q.symbols.toNat:Nat):Int)=q.symbols:=by omega
 have xy:NH n q y=some 0:=by
  rw [ZN hF (by omega) (by omega) (by omega)];unfold NG;rw [zAB hv,zAB hy]
 unfold OC br Xe cV;rw [xy,zAA];simp only [zEI,zAj,zAO,zD9];rw [zAE (by omega),zAE (by omega),zAE (by omega),zAE (by omega)];simp only [bne_self_eq_false,zAC];rw [zAB ⟨⟨trivial,⟨trivial,trivial⟩,by rw [←L];omega⟩,⟨by omega,by omega⟩,hj⟩]
 have hw:Vg n (IntKind.u64.wrap (y.getD j 0)) s=some (bits .and .u64 (IntKind.u64.wrap (y.getD j 0)) (IntKind.u64.wrap (1*2 ^ s))):=by
  unfold Vg ir;rw [zAB ⟨by omega,by show (s:Int)<=((64:Nat):Int);omega⟩,zAO]
 rw [hw,zAA,zAB (by rw [zAl])]
 show ((PF n (Kk y j s)).bind fun y3=>some (y3,(0:Int))).bind _=_
 have kB:(Kk y j s).length=y.length:=zAl;unfold JY
 generalize Kk y j s=z at kB ⊢
 have hn:PF n z=some (if EX z then List.replicate y.length 0 else z):=by
  unfold PF Zf;rw [me (by omega) (by omega),zAA];cases EX z
  ·rfl
  ·rw [zAK,zAB ⟨rfl,by omega,by omega⟩,zAB (by simp),kB];rfl
 rw [hn];rfl
def Hb:List Int -> Option (List Int)
 | []=>some []
 | x::l=>match Cd x 0 with
  | [s]=>(Hb l).map fun r=>(s:Int)::r
  | _=>none
theorem fc: ∀ {p g:List Int},Hb p=some g -> g.length=p.length
 | [],g,h=>by cases h;rfl
 | x::p,g,h=>by
  unfold Hb at h;split at h
  ·obtain ⟨r,hr,rfl⟩:=zFm.1 h;rw [zDl,zDl,fc hr]
  ·cases h
theorem po {n:Nat} {x10:Int}: ∀ (l:List Nat),(∀ s∈l,s<16) -> DB (Qw n pos x10) (l.map fun (s:Nat)=>(s:Int)) (.s0 0)=some (match l with | []=>(.s0 0,0) | [s]=>(.s1 1 1 [(s:Int)],0) | _=>(.s0 2,1))
 | [],_=>rfl
 | s::l,h=>by
  have hs:=h s (by simp)
  have e1:Qw n pos x10 (s:Int) (.s0 0)=some (.s1 1 1 [(s:Int)],0):=by
   show Qu n pos x10 (s:Int) 0=_
   unfold Qu;rw [zAB (by decide),zAE (by omega),zAC,zAE (by omega),zAC,zAB ⟨⟨rfl,rfl⟩,by simp,by simp [BB]⟩];rfl
  rw [zEQ];simp only [DB,e1,zAA];cases l with
  | nil=>rfl
  | cons t l=>
   have e2:Qw n pos x10 (t:Int) (.s1 1 1 [(s:Int)])=some (.s0 2,1):=by
    show Qt n pos x10 (t:Int) 1 1 [(s:Int)]=_
    unfold Qt;rw [zAB (by decide),zAT (by omega),zAK];rfl
   simp only [zEQ,DB,e2,zAA];rfl
theorem pn {n m:Nat} {x10:Int} {o:List Int} (ho:m=o.length) (hl:o.length<=300): ∀ (l:List Nat),(∀ s∈l,s<16) -> DB (Qv n pos x10) (l.map fun (s:Nat)=>(s:Int)) (.s0 m 0 o)=some (match l with | []=>(.s0 m 0 o,0) | [s]=>(.s0 (m+1) 1 (o++[(s:Int)]),0) | _=>(.s1 2,1))
 | [],_=>rfl
 | s::l,h=>by
  have hs:=h s (by simp);have L:(1000000000000:Nat)=BB:=rfl
  have e1:Qv n pos x10 (s:Int) (.s0 m 0 o)=some (.s0 (m+1) 1 (o++[(s:Int)]),0):=by
   show Mx n pos x10 (s:Int) m 0 o=_
   unfold Mx;rw [zAB (by decide),zAE (by omega),zAC,zAE (by omega),zAC,zAB ⟨⟨rfl,rfl⟩,⟨rfl,ho⟩,by rw [←L];simp;omega⟩,ho];rfl
  rw [zEQ];simp only [DB,e1,zAA];cases l with
  | nil=>rfl
  | cons t l=>
   have e2:Qv n pos x10 (t:Int) (.s0 (m+1) 1 (o++[(s:Int)]))=some (.s1 2,1):=by
    show Mx n pos x10 (t:Int) (m+1) 1 (o++[(s:Int)])=_
    unfold Mx;rw [zAB (by decide),zAT (by omega),zAK];rfl
   simp only [zEQ,DB,e2,zAA];rfl
def Qy (o:List Int):Option (List Int) -> List Int×Bool
 | some r=>(o++r,true)
 | none=>([],false)
theorem nj {x:Int} (h:Sm 16 x):Ev (fun n=>Ks n (IntKind.u64.wrap x)) ((Cd x 0).map fun (s:Nat)=>(s:Int)):=by
 have e:IntKind.u64.wrap x=x:=by
  show x % 18446744073709551616=x
  have:=h.2;exact Int.emod_eq_of_lt h.1 (by omega)
 rw [e];exact dD h 16 0 (by omega)
theorem fv {x:Int} {s:Nat} (h:s∈Cd x 0):s<16:=(u6.1 h).1
theorem fZ (hp: ∀ j,j<pos.length -> Sm 16 (pos.getD j 0)) (hl:pos.length<=256): ∀ (k j:Nat) (o:List Int),j+k=pos.length -> o.length<=256 -> o.length+k<=256 -> Ev (fun n=>Fy pos n (.l2 (j:Int) o.length o)) (Qy o (Hb (pos.drop j)))
 | 0,j,o,e,ho,_=>by
  have:pos.drop j= []:=zEU (by omega);rw [this];refine Ev.one fun n=>?_
  show Mv n (Fy pos n) pos (j:Int) o.length o=_
  unfold Mv;rw [zAE (by omega),zAC,zAB rfl];simp [Hb,Qy]
 | k+1,j,o,e,ho,hk=>by
  have hj:j<pos.length:=by omega
  have hd:pos.drop j=pos.getD j 0::pos.drop (j+1):=by
   rw [zDx hj,u8,zAQ hj];rfl
  have hA:=nj (hp j hj);have lb:AL ((j:Int)+1):=A0.2 ⟨by omega,by omega⟩;have ih:=fun s:Nat=>fZ hp hl k (j+1) (o++[(s:Int)]) (by omega) (by simp;omega) (by simp;omega)
  have start: ∀ n,Fy pos (n+1) (.l2 (j:Int) o.length o)=Mv n (Fy pos n) pos (j:Int) o.length o:=fun _=>rfl
  obtain ⟨N,hN⟩:=hA;have hN: ∀ n,N<=n -> Ks n (IntKind.u64.wrap (pos.getD j 0))=some ((Cd (pos.getD j 0) 0).map fun (s:Nat)=>(s:Int)):=hN;have hf:=fun n=>pn (n:=n) (pos:=pos) (x10:=(j:Int)) (o:=o) rfl (by omega) (Cd (pos.getD j 0) 0) fun s hs=>fv hs
  rw [hd,Hb];cases hs:Cd (pos.getD j 0) 0 with
  | nil=>
   refine Ev.oneN N fun n hn=>?_
   rw [start];unfold Mv;rw [zAT (by omega),zAK,zAB ⟨by omega,by omega⟩,zAO,hN n hn,zAA,hf n,hs];rfl
  | cons s l=>
   cases l with
   | nil=>
    have g:Bj (Fy pos) (.l2 (j:Int) o.length o) (.l2 ((j+1:Nat):Int) (o++[(s:Int)]).length (o++[(s:Int)])):=Bj.oneN N fun n hn=>by
     rw [start];unfold Mv;rw [zAT (by omega),zAK,zAB ⟨by omega,by omega⟩,zAO,hN n hn,zAA,hf n,hs];simp only [zAA,zET,zAK];rw [show ((1:Int)==0)=false from rfl,zAC,zAB lb,zAh];rfl
    have:=g.ev (ih s);simp only;cases hr:Hb (pos.drop (j+1)) with
    | none=>rw [hr] at this;exact this
    | some r=>rw [hr] at this;simpa [Qy] using this
   | cons t l=>
    refine Ev.oneN N fun n hn=>?_
    rw [start];unfold Mv;rw [zAT (by omega),zAK,zAB ⟨by omega,by omega⟩,zAO,hN n hn,zAA,hf n,hs];rfl
theorem pk (hp: ∀ j,j<pos.length -> Sm 16 (pos.getD j 0)) (hl:pos.length<=256):Ev (fun n=>Un n pos) (Qy [] (Hb pos)):=by
 cases pos with
 | nil=>
  refine Ev.eq (g:=fun n=>Fy [] n (.l1 0)) (Ev.one fun n=>?_) fun n=>rfl
  show Mw n (Fy [] n) [] 0=_
  unfold Mw;rfl
 | cons x p=>
  have hx:=hp 0 (by simp);have hx:Sm 16 x:=by simpa using hx
  obtain ⟨N,hN⟩:=nj hx;have hN: ∀ n,N<=n -> Ks n (IntKind.u64.wrap x)=some ((Cd x 0).map fun (s:Nat)=>(s:Int)):=hN;have hf:=fun n=>po (n:=n) (pos:=x::p) (x10:=0) (Cd x 0) fun s hs=>fv hs
  refine Ev.eq (g:=fun n=>Fy (x::p) n (.l1 0)) ?_ fun n=>rfl
  have start: ∀ n,Fy (x::p) (n+1) (.l1 0)=Mw n (Fy (x::p) n) (x::p) 0:=fun _=>rfl
  have lt:decide ((0:Int)<(((x::p).length:Nat):Int))=true:=zAT (by simp);have gd:(x::p).getD (0:Int).toNat 0=x:=rfl;rw [Hb];cases hs:Cd x 0 with
  | nil=>
   refine Ev.oneN N fun n hn=>?_
   rw [start];unfold Mw;rw [lt,zAK,zAB ⟨by omega,by simp⟩,gd,hN n hn,zAA,hf n,hs];rfl
  | cons s l=>
   cases l with
   | nil=>
    have g:Bj (Fy (x::p)) (.l1 0) (.l2 ((1:Nat):Int) [(s:Int)].length [(s:Int)]):=Bj.oneN N fun n hn=>by
     rw [start];unfold Mw;rw [lt,zAK,zAB ⟨by omega,by simp⟩,gd,hN n hn,zAA,hf n,hs];simp only [zAA,zET,zAK];rw [show ((1:Int)==0)=false from rfl,zAC,zAB (by decide)];rfl
    have:=g.ev (fZ hp hl p.length 1 [(s:Int)] (by simp;omega) (by simp) (by simp at hl ⊢;omega));simp only [List.drop_one,List.tail_cons] at this;simp only;cases hr:Hb p with
    | none=>rw [hr] at this;exact this
    | some r=>rw [hr] at this;simpa [Qy] using this
   | cons t l=>
    refine Ev.oneN N fun n hn=>?_
    rw [start];unfold Mw;rw [lt,zAK,zAB ⟨by omega,by simp⟩,gd,hN n hn,zAA,hf n,hs];rfl
end
end Go.Proofs.YtkjbblkieglmlaaGreatDoor
namespace Go.Proofs.YtkjbblkieglmlaaGreatDoor
open Go.RowKit
section
variable {q:AA} {c:AB} {pos:List Int} {k:Nat}
def Xt (q:AA) (i j:Nat) (g:Nat -> Nat):Prop:=∀ b,i<=b -> b+1<j -> q.values.getD (g b) 0<q.values.getD (g (b+1)) 0
end
end Go.Proofs.YtkjbblkieglmlaaGreatDoor
namespace Go.Proofs.YtkjbblkieglmlaaGreatDoor
open Go.RowKit
structure Gd (q:AA) (g:List Int):Prop where
 len:(g.length:Int)=q.cells
 sym: ∀ j,j<g.length -> 0<=g.getD j 0/\ g.getD j 0<q.symbols
def F1 (g:List Int):List Int:=g.map fun s=>IntKind.i64.wrap (1*2 ^ s.toNat)
def Ax (c:AB) (g:List Int) (a:Nat):Nat:=(g.getD (c.cells.getD a 0).toNat 0).toNat
def DK (c:AB) (g:List Int):List Bool:=g.map fun s=>tb c.set s.toNat
def rl (b:Nat -> Bool) (len:Nat):Nat -> Int -> List Int
 | 0,l=>if l>0 then [l] else []
 | m+1,l=>bif b (len-1-m) then rl b len m (l+1) else if l>0 then l::rl b len m 0 else rl b len m 0
def Jm (n:List (List Int)) (inn:List Bool):Prop:=∀ u v:Nat,u<n.length -> v<n.length -> inn.getD u false=true -> inn.getD v false=true -> Rc n inn u v
def Gv (q:AA) (c:AB) (g:List Int):Prop:=
 (c.kind=1 -> ∀ a b,a<c.cells.length -> b<c.cells.length -> Ax c g a=Ax c g b -> a=b)/\
 (c.kind=2 -> c.lo<=cnt (fun a=>tb c.set (Ax c g a)) c.cells.length/\ cnt (fun a=>tb c.set (Ax c g a)) c.cells.length<=c.hi)/\
 (c.kind=3 -> c.lo<=EN (fun a=>q.values.getD (Ax c g a) 0) c.cells.length/\ EN (fun a=>q.values.getD (Ax c g a) 0) c.cells.length<=c.hi)/\
 (c.kind=4 -> Xt q 0 c.cells.length (Ax c g))/\
 (c.kind=5 -> rl (fun a=>tb c.set (Ax c g a)) c.cells.length c.cells.length 0=c.runs)/\
 (c.kind=6 -> IP q c (Ax c g 0) (Ax c g 1)=true)/\ (c.kind=7 -> Hi c (Ax c g 0) (Ax c g 1)=true)/\
 (c.kind=8 -> Jm q.nbrs (DK c g))/\
 (c.kind=9 -> Jm q.nbrs (DK c g)/\ ∀ v,v<g.length -> (DK c g).getD v false=true -> DN q.nbrs (DK c g) v=2)
theorem My {g:List Int}:(F1 g).length=g.length:=zAn _
theorem Ya {g:List Int} {j:Nat} (hj:j<g.length):(F1 g).getD j 0=IntKind.i64.wrap (1*2 ^ (g.getD j 0).toNat):=by
 unfold F1;rw [u8,zA1,zAQ hj,u8,zAQ hj];rfl
theorem jE {c:AB} {g:List Int}:(DK c g).length=g.length:=zAn _
theorem u0 {c:AB} {g:List Int} {j:Nat} (hj:j<g.length):(DK c g).getD j false=tb c.set (g.getD j 0).toNat:=by
 unfold DK;rw [u8,zA1,zAQ hj,u8,zAQ hj];rfl
theorem iH {k s:Nat} (hk:k<=16) (hs:s<k):Sm k (IntKind.i64.wrap (1*2 ^ s)):=
 Qz (by omega) (UJ _) fun i hi _=>by rw [Jr (by omega),zAE (by omega)]
section
variable {q:AA} {i:Int} {g:List Int} {c:AB}
theorem Gd.pos (G:Gd q g) (hv:CM q=true):posOk q (F1 g)=true:=by
 have hk:=(Fg hv).2.1;refine (I3 hv).2 ⟨by rw [My];exact G.len,fun j hj=>?_⟩;rw [My] at hj;have:=G.sym j hj;rw [Ya hj];exact iH (by omega) (by omega)
theorem Gd.lt (G:Gd q g) (hv:CM q=true) {j:Nat} (hj:j<g.length):(g.getD j 0).toNat<q.symbols.toNat/\ (g.getD j 0).toNat<16:=by
 have hk:=(Fg hv).2.1;have:=G.sym j hj;omega
theorem pm (G:Gd q g) (hv:CM q=true) {j:Nat} (hj:j<g.length) (s:Nat):tb ((F1 g).getD j 0) s=decide ((g.getD j 0).toNat=s):=by
 rw [Ya hj,Jr (by have:=G.lt hv hj;omega)]
structure Sv (q:AA) (c:AB) (g:List Int):Prop where
 v:CM q=true
 G:Gd q g
 cell: ∀ a,a<c.cells.length -> 0<=c.cells.getD a 0/\ c.cells.getD a 0<(g.length:Int)
theorem Sv.lt (S:Sv q c g) {a:Nat} (ha:a<c.cells.length):Ax c g a<q.symbols.toNat/\ Ax c g a<16:=S.G.lt S.v (by have:=S.cell a ha;omega)
theorem B7.sv (C:B7 q i (F1 g)) (G:Gd q g):Sv q (con q i) g:=⟨C.valid,G,fun a ha=>by have:=C.work.cells a ha;rw [My] at this;exact this⟩
theorem Sv.nz (S:Sv q c g): ∀ j,j<(F1 g).length -> (F1 g).getD j 0≠0:=fun j hj=>by
 rw [My] at hj;refine (Qh (by rw [Ya hj];exact UJ _)).2 ⟨(g.getD j 0).toNat,by have:=S.G.lt S.v hj;omega,?_⟩;rw [pm S.G S.v hj,zAT rfl]
end
end Go.Proofs.YtkjbblkieglmlaaGreatDoor
namespace Go.Proofs.YtkjbblkieglmlaaGreatDoor
abbrev zEy:=@Nat.zero_lt_one
abbrev zFV:=@iff_of_false
abbrev zGB:=@iff_of_true
end Go.Proofs.YtkjbblkieglmlaaGreatDoor
namespace Go.Proofs.YtkjbblkieglmlaaGreatDoor
open Go.RowKit
theorem Lk {k s n:Nat} {x:Int} (h:Sm k x) (hk:k<=62) (hs:s<64):HG n x (s:Int)=some (tb x s):=by
 unfold HG j9;rw [zAB ⟨by omega,by show (s:Int)<=((64:Nat):Int);omega⟩,zAO,Yb h hk hs]
section
variable {q:AA} {g:List Int} {c:AB}
theorem Sv.gi (S:Sv q c g) {a:Nat} (ha:a<c.cells.length):g.getD (c.cells.getD a 0).toNat 0=((Ax c g a:Nat):Int):=by
 have h:=S.cell a ha;have:=S.G.sym (c.cells.getD a 0).toNat (by omega);unfold Ax;omega
theorem pp {k:Nat} {x y:Int} (hk:k<=62) (hx:Sm k x) (hy:Sm k y):Sm k (bits .or .i64 x y):=
 Qz hk (Ko _ _ _) fun i hi _=>by rw [Js,hx.hi hi,hy.hi hi];rfl
theorem zBs (S:Sv q c g) (hl:c.cells.length<=256): ∃ r,Ev (fun n=>XK n g c.cells) r/\ (r=true↔∀ a b,a<c.cells.length -> b<c.cells.length -> Ax c g a=Ax c g b -> a=b):=by
 have key: ∀ (k i:Nat) (x:Int),i+k=c.cells.length -> Sm 16 x -> (∀ s,tb x s=true↔∃ b,b<i/\ Ax c g b=s) -> (∀ a b,a<i -> b<i -> Ax c g a=Ax c g b -> a=b) ->
  ∃ r,Ev (fun n=>MK g c.cells n (.l1 x (i:Int))) r/\ (r=true↔∀ a b,a<c.cells.length -> b<c.cells.length -> Ax c g a=Ax c g b -> a=b):=by
  intro k
  induction k with
  | zero=>
   intro i x e hx hs hd;have e:i=c.cells.length:=by omega
   subst e;refine ⟨true,Ev.one fun n=>?_,zGB rfl hd⟩
   show Tc n (MK g c.cells n) g c.cells x (c.cells.length:Int)=_
   unfold Tc;rw [zAE (by omega),zAC]
  | succ k ih=>
   intro i x e hx hs hd;have hi:i<c.cells.length:=by omega
   have hc:=S.cell i hi;have AN:=(S.lt hi).2
   have step: ∀ n,MK g c.cells (n+1) (.l1 x (i:Int))=bif tb x (Ax c g i) then some false else MK g c.cells n (.l1 (bits .or .i64 x (IntKind.i64.wrap (1*2 ^ Ax c g i))) ((i+1:Nat):Int)):=fun n=>by
    show Tc n (MK g c.cells n) g c.cells x (i:Int)=_
    unfold Tc;rw [zAT (by omega),zAK,zAO,zAB ⟨⟨by omega,by omega⟩,hc⟩,S.gi hi,Lk hx (by decide) (by omega),zAA];cases tb x (Ax c g i)
    ·rw [zAC,zAC,zAB ⟨⟨by omega,by show ((Ax c g i:Nat):Int)<=((64:Nat):Int);omega⟩,A0.2 ⟨by omega,by omega⟩⟩,zAO,show ((i+1:Nat):Int)=(i:Int)+1 by omega]
    ·rfl
   cases hb:tb x (Ax c g i) with
   | true=>
    obtain ⟨b,h1,h2⟩:=(hs _).1 hb;refine ⟨false,Ev.one fun n=>by rw [step n,hb,zAK],zFV (by decide) fun h=>?_⟩;have:=h b i (by omega) hi h2;omega
   | false=>
    have no: ∀ b,b<i -> Ax c g b≠Ax c g i:=fun b DA e=>by
     rw [(hs _).2 ⟨b,DA,e⟩] at hb;cases hb
    obtain ⟨r,h1,h2⟩:=ih (i+1) (bits .or .i64 x (IntKind.i64.wrap (1*2 ^ Ax c g i))) (by omega) (pp (by decide) hx (iH (by decide) AN)) (fun s=>by
     rw [Js,Jr (by omega),zDh,hs,zAi];constructor
     ·rintro (⟨b,h1,h2⟩ | h)
      ·exact ⟨b,by omega,h2⟩
      ·exact ⟨i,by omega,h⟩
     ·rintro ⟨b,h1,h2⟩;rcases zAa.1 h1 with h | rfl
      ·exact .inl ⟨b,h,h2⟩
      ·exact .inr h2) (fun a b ha hb e'=>by
     rcases zAa.1 ha with ha | rfl <;> rcases zAa.1 hb with hb | rfl
     ·exact hd a b ha hb e'
     ·exact absurd e' (no a ha)
     ·exact absurd e'.symm (no b hb)
     ·rfl)
    exact ⟨r,Bj.ev (Bj.one fun n=>by rw [step n,hb,zAC]) h1,h2⟩
 exact key c.cells.length 0 0 (by omega) ⟨by decide,by decide⟩ (fun s=>by rw [UX];simp) fun a b ha=>absurd ha (zAf a)
theorem zCB (S:Sv q c g) (hl:c.cells.length<=256) {k:Nat} (hs:Sm k c.set) (hk:k<=16):Ev (fun n=>XR n g c.cells c.set) (cnt (fun a=>tb c.set (Ax c g a)) c.cells.length):=by
 have key: ∀ (k i:Nat),i+k=c.cells.length -> Ev (fun n=>QI g c.cells c.set n (.l1 (cnt (fun a=>tb c.set (Ax c g a)) i) (i:Int))) (cnt (fun a=>tb c.set (Ax c g a)) c.cells.length):=by
  intro k
  induction k with
  | zero=>
   intro i e;have e:i=c.cells.length:=by omega
   subst e;refine Ev.one fun n=>?_
   show Tp n (QI g c.cells c.set n) g c.cells c.set _ (c.cells.length:Int)=_
   unfold Tp;rw [zAE (by omega),zAC]
  | succ k ih=>
   intro i e;have hi:i<c.cells.length:=by omega
   have hc:=S.cell i hi;have AN:=(S.lt hi).2;have hb:=cQ (p:=fun a=>tb c.set (Ax c g a)) (i:=i);refine Bj.ev (Bj.one fun n=>?_) (ih (i+1) (by omega))
   show Tp n (QI g c.cells c.set n) g c.cells c.set _ (i:Int)=_
   unfold Tp;rw [zAT (by omega),zAK,zAO,zAB ⟨⟨by omega,by omega⟩,hc⟩,S.gi hi,Lk hs (by omega) (by omega),zAA,OK,show ((i+1:Nat):Int)=(i:Int)+1 by omega];cases tb c.set (Ax c g i)
   ·rw [zAC,zAB (A0.2 ⟨by omega,by omega⟩)];simp
   ·rw [zAK,zAB ⟨A0.2 ⟨by omega,by omega⟩,A0.2 ⟨by omega,by omega⟩⟩,zAB rfl]
 exact key c.cells.length 0 (by omega)
theorem oz (S:Sv q c g) (V:FN q q.symbols.toNat) (hl:c.cells.length<=256):Ev (fun n=>Ui n q.values g c.cells) (EN (fun a=>q.values.getD (Ax c g a) 0) c.cells.length):=by
 have hv: ∀ i,i<c.cells.length -> 0<=q.values.getD (Ax c g i) 0/\ q.values.getD (Ax c g i) 0<=99:=fun i hi=>V.val _ (S.lt hi).1
 have key: ∀ (k i:Nat),i+k=c.cells.length -> Ev (fun n=>Ot q.values g c.cells n (.l1 (EN (fun a=>q.values.getD (Ax c g a) 0) i) (i:Int))) (EN (fun a=>q.values.getD (Ax c g a) 0) c.cells.length):=by
  intro k
  induction k with
  | zero=>
   intro i e;have e:i=c.cells.length:=by omega
   subst e;refine Ev.one fun n=>?_
   show Qo n (Ot q.values g c.cells n) q.values g c.cells _ (c.cells.length:Int)=_
   unfold Qo;rw [zAE (by omega),zAC]
  | succ k ih=>
   intro i e;have hi:i<c.cells.length:=by omega
   have hc:=S.cell i hi;have AN:=(S.lt hi).1;have Gb:=V.len;have Cr:=hv i hi;have hb:=Ok (f:=fun a=>q.values.getD (Ax c g a) 0) i fun a ha=>by have:=hv a (by omega);omega
   refine Bj.ev (Bj.one fun n=>?_) (ih (i+1) (by omega))
   show Qo n (Ot q.values g c.cells n) q.values g c.cells _ (i:Int)=_
   unfold Qo;rw [zAT (by omega),zAK,zAO,S.gi hi,zAO,zAB ⟨⟨by omega,by omega⟩,hc,⟨by omega,by omega⟩,A0.2 ⟨by omega,by omega⟩,A0.2 ⟨by omega,by omega⟩⟩,show ((i+1:Nat):Int)=(i:Int)+1 by omega];rfl
 exact key c.cells.length 0 (by omega)
theorem sR (S:Sv q c g) (V:FN q q.symbols.toNat) (hl:c.cells.length<=256): ∃ r,Ev (fun n=>VA n q.values g c.cells) r/\ (r=true↔Xt q 0 c.cells.length (Ax c g)):=by
 have hv: ∀ i,i<c.cells.length -> 0<=q.values.getD (Ax c g i) 0/\ q.values.getD (Ax c g i) 0<=99:=fun i hi=>V.val _ (S.lt hi).1
 have key: ∀ (k i:Nat) (x:Int),i+k=c.cells.length -> (i=0 -> x= -1) -> (0<i -> x=q.values.getD (Ax c g (i-1)) 0) -> Xt q 0 i (Ax c g) ->
  ∃ r,Ev (fun n=>LS q.values g c.cells n (.l1 x (i:Int))) r/\ (r=true↔Xt q 0 c.cells.length (Ax c g)):=by
  intro k
  induction k with
  | zero=>
   intro i x e h0 h1 hI;have e:i=c.cells.length:=by omega
   subst e;refine ⟨true,Ev.one fun n=>?_,zGB rfl hI⟩
   show RU n (LS q.values g c.cells n) q.values g c.cells x (c.cells.length:Int)=_
   unfold RU;rw [zAE (by omega),zAC]
  | succ k ih=>
   intro i x e h0 h1 hI;have hi:i<c.cells.length:=by omega
   have hc:=S.cell i hi;have AN:=(S.lt hi).1;have Gb:=V.len;have Cr:=hv i hi
   have step: ∀ n,LS q.values g c.cells (n+1) (.l1 x (i:Int))=bif decide (q.values.getD (Ax c g i) 0<=x) then some false else LS q.values g c.cells n (.l1 (q.values.getD (Ax c g i) 0) ((i+1:Nat):Int)):=fun n=>by
    show RU n (LS q.values g c.cells n) q.values g c.cells x (i:Int)=_
    unfold RU;rw [zAT (by omega),zAK,zAO,S.gi hi,zAO,zAB ⟨⟨by omega,by omega⟩,hc,by omega,by omega⟩,zAB (A0.2 ⟨by omega,by omega⟩),show ((i+1:Nat):Int)=(i:Int)+1 by omega]
   by_cases h:q.values.getD (Ax c g i) 0<=x
   ·refine ⟨false,Ev.one fun n=>by rw [step n,zAT h,zAK],zFV (by decide) fun hI2=>?_⟩;rcases zE9 i with e0 | e0
    ·have:=h0 e0;omega
    ·have h2:=hI2 (i-1) (zEf _) (by omega);rw [←h1 e0,show i-1+1=i by omega] at h2;omega
   ·obtain ⟨r,r1,r2⟩:=ih (i+1) (q.values.getD (Ax c g i) 0) (by omega) (fun h=>absurd h (by omega)) (fun _=>by rw [Nat.add_sub_cancel]) (fun b bN hb=>by
     by_cases e1:b+1=i
     ·rw [e1,show b=i-1 by omega,←h1 (by omega)];omega
     ·exact hI b bN (by omega))
    exact ⟨r,Bj.ev (Bj.one fun n=>by rw [step n,zAE h,zAC]) r1,r2⟩
 exact key c.cells.length 0 (-1) (by omega) (fun _=>rfl) (fun h=>absurd h (Nat.lt_irrefl 0)) fun b _ h=>absurd h (zAf _)
theorem rb (S:Sv q c g) (hl:c.cells.length<=256) {k:Nat} (hs:Sm k c.set) (hk:k<=16):Ev (fun n=>Oz n c.cells c.set g) (rl (fun a=>tb c.set (Ax c g a)) c.cells.length c.cells.length 0):=by
 have key: ∀ (m i:Nat) (l:Int),i+m=c.cells.length -> 0<=l/\ l<=(i:Int) -> Ev (fun n=>GW c.cells c.set g n (.l1 l (i:Int))) (rl (fun a=>tb c.set (Ax c g a)) c.cells.length m l):=by
  intro m
  induction m with
  | zero=>
   intro i l e Cf;have e:i=c.cells.length:=by omega
   subst e;refine Ev.one fun n=>?_
   show M4 n (GW c.cells c.set g n) c.cells c.set g l (c.cells.length:Int)=_
   unfold M4 rl;rw [zAE (by omega),zAC]
   by_cases h:l>0
   ·rw [zAT h,zAK,zAB h];rfl
   ·rw [zAE h,zAC,zAZ h]
  | succ m ih=>
   intro i l e Cf;have hi:i<c.cells.length:=by omega
   have hc:=S.cell i hi;have AN:=(S.lt hi).2;have ei:c.cells.length-1-m=i:=by omega
   have start: ∀ n,GW c.cells c.set g (n+1) (.l1 l (i:Int))=bif tb c.set (Ax c g i) then GW c.cells c.set g n (.l1 (l+1) ((i+1:Nat):Int)) else bif decide (l>0) then (GW c.cells c.set g n (.l1 0 ((i+1:Nat):Int))).map (fun r=>l::r) else GW c.cells c.set g n (.l1 0 ((i+1:Nat):Int)):=fun n=>by
    have r1:AL ((i:Int)+1):=A0.2 ⟨by omega,by omega⟩
    show M4 n (GW c.cells c.set g n) c.cells c.set g l (i:Int)=_
    unfold M4;rw [zAT (by omega),zAK,zAO,zAB ⟨⟨by omega,by omega⟩,hc⟩,S.gi hi,Lk hs (by omega) (by omega),zAA,show ((i+1:Nat):Int)=(i:Int)+1 by omega];cases tb c.set (Ax c g i)
    ·rw [zAC,zAC,zAB r1];cases decide (l>0) <;> rfl
    ·rw [zAK,zAK,zAB ⟨A0.2 ⟨by omega,by omega⟩,r1⟩]
   unfold rl;rw [ei];cases hb:tb c.set (Ax c g i) with
   | true=>exact Bj.ev (Bj.one fun n=>by rw [start n,hb,zAK]) (ih (i+1) (l+1) (by omega) (by omega))
   | false=>
    have h0:=ih (i+1) 0 (by omega) (by omega)
    by_cases h:l>0
    ·obtain ⟨N,h0⟩:=h0;refine ⟨N+1,fun n hn=>?_⟩;obtain ⟨n,rfl⟩: ∃ k,n=k+1:=⟨n-1,by omega⟩
     show GW c.cells c.set g (n+1) (.l1 l (i:Int))=_
     rw [start n,hb,zAC,zAT h,zAK,show GW c.cells c.set g n (.l1 0 ((i+1:Nat):Int))=_ from h0 n (by omega),zAC,zAB h];rfl
    ·rw [zAC,zAZ h];exact Bj.ev (Bj.one fun n=>by rw [start n,hb,zAC,zAE h,zAC]) h0
 exact key c.cells.length 0 0 (by omega) ⟨zER _,by omega⟩
theorem Yy {b:Nat -> Bool} {N:Nat}: ∀ (m:Nat) (l:Int),(rl b N m l).length<=m+1
 | 0,l=>by unfold rl;split <;> simp
 | m+1,l=>by
  unfold rl;cases b (N-1-m)
  ·rw [zAC];have:=Yy (b:=b) (N:=N) m 0;split
   ·simp;omega
   ·omega
  ·rw [zAK];have:=Yy (b:=b) (N:=N) m (l+1);omega
theorem na {n:Nat}: ∀ (l x:List Int),(x++l).length<=BB -> Bn (Xm n) l (.s1 x.length x)=some (.s1 (x++l).length (x++l))
 | [],x,h=>by rw [zFD];rfl
 | a::l,x,h=>by
  have e:x++a::l=x++[a]++l:=by simp
  have hl:x.length+([a]:List Int).length<=BB:=by simp only [zAh,zDl] at h;simp only [zDv];omega
  show (T5 n a x.length x).bind _=_
  unfold T5;rw [zAB ⟨⟨rfl,rfl⟩,⟨rfl,rfl⟩,hl⟩,zAA,e,←zAh];exact na l (x++[a]) (by rw [←e];exact h)
theorem zCe {n:Nat} {l:List Int} (hl:l.length<=300):OJ n l=some l:=by
 have L:(1000000000000:Nat)=BB:=rfl;unfold OJ cO Xn cw;cases l with
 | nil=>rfl
 | cons a l=>
  have e:Bn (Xm n) (a::l) .s0=some (.s1 ([a]++l).length ([a]++l)):=by
   show (T6 n a).bind _=_
   unfold T6;rw [zAB ⟨⟨rfl,rfl⟩,zEy,by rw [←L];show 1<=_;omega⟩,zAA];exact na l [a] (by rw [←L];simp only [zAh,zDl,zD9] at hl ⊢;omega)
  rw [e,zAA]
  show (if ([a]++l).length=([a]++l).length then some ([a]++l) else none).bind _=_
  rw [zAB rfl];rfl
end
end Go.Proofs.YtkjbblkieglmlaaGreatDoor
namespace Go.Proofs.YtkjbblkieglmlaaGreatDoor
open Go.RowKit
section
variable {q:AA} {i:Int} {g:List Int} {c:AB}
end
end Go.Proofs.YtkjbblkieglmlaaGreatDoor
namespace Go.Proofs.YtkjbblkieglmlaaGreatDoor
open Go.RowKit
section
variable {g:List (List Int)} {inn:List Bool}
def zDo (g:List (List Int)) (inn:List Bool) (r:List (List Int)×Int):Prop:=r.2=0/\ (r.1.length=0↔∀ v,v<g.length -> inn.getD v false=false)/\ (r.1.length<=1↔Jm g inn)
theorem ZE {part:List Int} {Bs:Int} (h:Pt g inn g.length part Bs):(Bs=0↔∀ v,v<g.length -> inn.getD v false=false)/\ (Bs<=1↔Jm g inn):=by
 have m0:=h.m0;constructor
 ·constructor
  ·intro e v hv;cases hb:inn.getD v false with
   | false=>rfl
   | true=>
    have:=h.all v hv hv hb;have:=(h.lo v hv).2;omega
  ·intro hn;refine Classical.byContradiction fun Ak=>?_
   obtain ⟨v,h1,h2⟩:=h.sur 1 (by decide) (by omega);have:=h.isIn v h1 (by omega);rw [hn v h1] at this;cases this
 ·constructor
  ·intro e u v hu hv mu mv;have a1:=h.all u hu hu mu;have a2:=h.all v hv hv mv;have b1:=(h.lo u hu).2;have b2:=(h.lo v hv).2;exact h.con u v hu hv a1 (by omega)
  ·intro hC;refine Classical.byContradiction fun Ak=>?_
   obtain ⟨u,u1,u2⟩:=h.sur 1 (by decide) (by omega);obtain ⟨v,v1,v2⟩:=h.sur 2 (by decide) (by omega);have:=h.same u v u1 v1 (by omega) (hC u v u1 v1 (h.isIn u u1 (by omega)) (h.isIn v v1 (by omega)));omega
theorem cM (G:Gr g) {part:List Int} {Bs:Int} (hP:Pt g inn g.length part Bs): ∀ (k j:Nat) (o:List (List Int)) (n:Nat),j+k=part.length -> o.length=Bs.toNat -> (∀ r,(o.getD r default).length<=j) -> k+1<=n ->
 ∃ o',Kn g inn n (.l1 Bs.toNat part (part.length:Int) (j:Int) o)=some (o',0)/\ o'.length=Bs.toNat
 | 0,j,o,n,e,ho,hr,hn=>by
  obtain ⟨n,rfl⟩: ∃ k,n=k+1:=⟨n-1,by omega⟩;refine ⟨o,?_,ho⟩
  show OI n (Kn g inn n) g inn Bs.toNat part (part.length:Int) (j:Int) o=_
  unfold OI;rw [zAE (by omega),zAC,zAB ho.symm]
 | k+1,j,o,n,e,ho,hr,hn=>by
  obtain ⟨n,rfl⟩: ∃ k,n=k+1:=⟨n-1,by omega⟩;have Ap:=hP.len;have hG:=G.len;have hlo:=hP.lo j (by omega);have L:(1000000000000:Nat)=BB:=rfl;have r1:AL ((j:Int)+1):=A0.2 ⟨by omega,by omega⟩;have hm:=hP.m1
  by_cases h0:part.getD j 0>0
  ·have hrj:=hr (0+(part.getD j 0-1).toNat)
   have key:=cM G hP k (j+1) (o.set (0+(part.getD j 0-1).toNat) (o.getD (0+(part.getD j 0-1).toNat) default++[(j:Int)])) n (by omega) (by rw [zAl];exact ho) (fun r=>by
    by_cases er:0+(part.getD j 0-1).toNat=r
    ·subst er;rw [u8,zEH (by omega),zEY,zAh,zDv];omega
    ·have:=hr r;rw [u8,zEB er,←u8];omega) (by omega)
   obtain ⟨o',h1,h2⟩:=key;refine ⟨o',?_,h2⟩;rw [←h1]
   show OI n (Kn g inn n) g inn Bs.toNat part (part.length:Int) (j:Int) o=_
   unfold OI;rw [zAT (by omega),zAK,zAB ⟨by omega,by omega⟩,zAO,zAT h0,zAK,zAB ⟨A0.2 ⟨by omega,by omega⟩,⟨by omega,by omega⟩,by omega,by rw [zDv,←L];omega,r1⟩,show ((j+1:Nat):Int)=(j:Int)+1 by omega]
  ·obtain ⟨o',h1,h2⟩:=cM G hP k (j+1) o n (by omega) ho (fun r=>by have:=hr r;omega) (by omega);refine ⟨o',?_,h2⟩;rw [←h1]
   show OI n (Kn g inn n) g inn Bs.toNat part (part.length:Int) (j:Int) o=_
   unfold OI;rw [zAT (by omega),zAK,zAB ⟨by omega,by omega⟩,zAO,zAE h0,zAC,zAB r1,show ((j+1:Nat):Int)=(j:Int)+1 by omega]
theorem zCX (G:H8 g) (hI:inn.length=g.length):Ae (fun n=>XY n g inn) (zDo g inn):=by
 have hG:=G.gr.len;have h0:=Wr G (sets:=[inn]) (fun x hx=>by rw [zAp] at hx;rw [hx,hI]) (by simp);refine Ae.bind h0 (b:=fun n y1=>bif (y1 != 0) then some (([]:List (List Int)),y1) else (parts n g inn).bind fun y2=>if (y2.2:Int)=y2.2/\ 0<=y2.2/\ (y2.2:Int)<=1000000000000 then Kn g inn n (.l1 y2.2.toNat y2.1 (y2.1.length:Int) 0 (List.replicate y2.2.toNat [])) else none) ?_;refine Ae.bindU (ZO G.gr hI) (b:=fun n y2=>if (y2.2:Int)=y2.2/\ 0<=y2.2/\ (y2.2:Int)<=1000000000000 then Kn g inn n (.l1 y2.2.toNat y2.1 (y2.1.length:Int) 0 (List.replicate y2.2.toNat [])) else none) ⟨g.length+1,fun n hn r hP=>?_⟩;obtain ⟨part,Bs⟩:=r;have hP:Pt g inn g.length part Bs:=hP;have m0:=hP.m0;have m1:=hP.m1;have Ap:=hP.len
 obtain ⟨o',h1,h2⟩:=cM G.gr hP part.length 0 (List.replicate Bs.toNat []) n (by omega) zAe (fun r=>by
  rw [u8,zD7];split <;> exact zAm 0) (by omega)
 refine ⟨(o',0),?_,rfl,?_,?_⟩
 ·rw [zAB ⟨rfl,m0,by show Bs<=_;omega⟩];exact h1
 ·rw [←(ZE hP).1,h2];omega
 ·rw [←(ZE hP).2,h2];omega
/-! ### Rings-/
theorem ux (G:H8 g) {v:Nat} (hv:v<g.length):(nb g v).Pairwise (· < ·)/\ (v:Int)∉nb g v:=by
 have h:=G.ok;unfold Kj at h;rw [zAL,zAW] at h;have hr:=h.2 v (zAd.2 hv);unfold Iv at hr;rw [zAW] at hr;have e:nb g v=g.getD v []:=by unfold nb;rw [zAO]
 rw [e]
 generalize g.getD v []=l at hr
 have AF: ∀ k,k<l.length -> l.getD k 0≠v/\ (0<k -> l.getD (k-1) 0<l.getD k 0):=fun k hk=>by
  have:=hr k (zAd.2 hk);unfold HA at this;simp only [zAL,zE3,ne_eq,zDh,zEM,decide_eq_false_iff_not,zAi] at this;exact ⟨this.1.1.2,fun h=>this.1.2.resolve_left fun hn=>hn h⟩
 have w4: ∀ d i,i+d+1<l.length -> l.getD i 0<l.getD (i+d+1) 0:=by
  intro d
  induction d with
  | zero=>intro i hi;exact (AF (i+1) hi).2 (by omega)
  | succ d ih=>
   intro i hi;have h1:=ih i (by omega);have h2:=(AF (i+(d+1)+1) hi).2 (by omega);rw [show i+(d+1)+1-1=i+d+1 by omega] at h2;omega
 constructor
 ·rw [List.pairwise_iff_getElem];intro i j hi hj Ph;have:=w4 (j-i-1) i (by omega);rw [show i+(j-i-1)+1=j by omega] at this;simpa [u8,hi,hj] using this
 ·intro hm;obtain ⟨k,hk,e⟩:=zEN hm;refine (AF k hk).1 ?_;rw [u8,zAQ hk];exact e
theorem oU (G:H8 g) {v:Nat} (hv:v<g.length) (mv:inn.getD v false=true) (hd:DN g inn v=2):3<=(List.range g.length).countP fun x=>inn.getD x false:=by
 obtain ⟨hs,hn⟩:=ux G hv;have hr:=G.gr.rng v (by omega) (by omega);have dP:((nb g v).filter fun x=>inn.getD x.toNat false).length=2:=by rw [←List.countP_eq_length_filter];exact hd
 have Hw:=hs.filter (fun x=>inn.getD x.toNat false);have hm: ∀ x∈(nb g v).filter fun x=>inn.getD x.toNat false,x∈nb g v/\ inn.getD x.toNat false=true:=fun x hx=>zFC.1 hx
 generalize ((nb g v).filter fun x=>inn.getD x.toNat false)=F at dP Hw hm
 match F,dP with
 | [x,y],_=>
  have WL:x<y:=by
   rw [zFe] at Hw;exact Hw.1 y (by simp)
  obtain ⟨x1,x2⟩:=hm x (by simp);obtain ⟨y1,y2⟩:=hm y (by simp);have xr:=hr x x1;have yr:=hr y y1;have xv:x≠v:=fun e=>hn (e▸x1)
  have yv:y≠v:=fun e=>hn (e▸y1)
  have a1:=XP (f:=fun z=>inn.getD z false&&!(z==v)) (g:=fun z=>inn.getD z false) (a:=v) (by simp) mv (List.range g.length) (fun z _ hz=>by rw [zAL] at hz;exact hz.1) (zAd.2 hv);have a2:=XP (f:=fun z=>(inn.getD z false&&!(z==v))&&!(z==x.toNat)) (g:=fun z=>inn.getD z false&&!(z==v)) (a:=x.toNat) (by simp) (by rw [x2];simp;omega) (List.range g.length) (fun z _ hz=>by rw [zAL] at hz;exact hz.1) (zAd.2 (by omega));have a3:=XP (f:=fun z=>((inn.getD z false&&!(z==v))&&!(z==x.toNat))&&!(z==y.toNat)) (g:=fun z=>(inn.getD z false&&!(z==v))&&!(z==x.toNat)) (a:=y.toNat) (by simp) (by rw [y2];simp;omega) (List.range g.length) (fun z _ hz=>by rw [zAL] at hz;exact hz.1) (zAd.2 (by omega));omega
def nn (g:List (List Int)) (inn:List Bool) (r:Bool×Int):Prop:=r.2=0/\ (r.1=true↔(∀ v,v<g.length -> inn.getD v false=true -> DN g inn v=2)/\ (∃ v,v<g.length/\ inn.getD v false=true)/\ Jm g inn)
theorem gp (hI:inn.length=g.length) {x6 x23:Int} {row:List Int} (hr: ∀ u∈row,0<=u/\ u<(g.length:Int)) (hl:row.length<=256): ∀ (k j:Nat),j+k=row.length -> Bj (G7 g inn) (.l2 x6 (((row.take j).countP fun x=>inn.getD x.toNat false:Nat):Int) x23 row (row.length:Int) (j:Int)) (.l2 x6 ((row.countP fun x=>inn.getD x.toNat false:Nat):Int) x23 row (row.length:Int) (row.length:Int))
 | 0,j,e=>by
  have:j=row.length:=by omega
  subst this;rw [List.take_length];exact Bj.refl
 | k+1,j,e=>by
  have hj:j<row.length:=by omega
  have hm:=hr (row.getD j 0) (by rw [u8,zAQ hj];exact zDi hj);have hc:=zFH (p:=fun x:Int=>inn.getD x.toNat false) (l:=row.take j);rw [zEZ] at hc;have tk:row.take (j+1)=row.take j++[row.getD j 0]:=by rw [zEd hj];simp [hj]
  have ih:=gp hI (x6:=x6) (x23:=x23) hr hl k (j+1) (by omega);rw [tk,List.countP_append,zFu] at ih;refine Bj.trans (Bj.one fun n=>?_) ih
  show M8 n (G7 g inn n) g inn x6 _ x23 row (row.length:Int) (j:Int)=_
  unfold M8;rw [zAT (by omega),zAK,zAO,zAB ⟨⟨by omega,by omega⟩,hm.1,by omega⟩,show ((j+1:Nat):Int)=(j:Int)+1 by omega];cases inn.getD (row.getD j 0).toNat false
  ·rw [zAC,zAB (A0.2 ⟨by omega,by omega⟩)];simp
  ·rw [zAK,zAB ⟨A0.2 ⟨by omega,by omega⟩,A0.2 ⟨by omega,by omega⟩⟩];simp
theorem Yz (G:H8 g) (hI:inn.length=g.length): ∀ (k v:Nat),v+k=g.length -> (∀ u,u<v -> inn.getD u false=true -> DN g inn u=2) -> Ae (fun n=>G7 g inn n (.l1 (((List.range v).countP fun x=>inn.getD x false:Nat):Int) (v:Int))) (nn g inn)
 | 0,v,e,hd=>by
  have:v=g.length:=by omega
  subst this;refine Ae.step 1 (g:=fun n=>(parts n g inn).bind fun y1=>bif decide ((((List.range g.length).countP fun x=>inn.getD x false:Nat):Int)>=3) then some ((y1.2==1),(0:Int)) else some (false,0)) (fun n=>?_) ?_
  ·show M9 n (G7 g inn n) g inn _ (g.length:Int)=_
   unfold M9;rw [zAE (by omega),zAC]
  ·refine Ae.bindU (ZO G.gr hI) (b:=fun n y1=>bif decide ((((List.range g.length).countP fun x=>inn.getD x false:Nat):Int)>=3) then some ((y1.2==1),(0:Int)) else some (false,0)) ⟨0,fun n _ r hP=>?_⟩;obtain ⟨part,Bs⟩:=r;obtain ⟨p1,p2⟩:=ZE hP;have m0:=hP.m0
   by_cases h3:(((List.range g.length).countP fun x=>inn.getD x false:Nat):Int)>=3
   ·rw [zAT h3,zAK];refine ⟨_,rfl,rfl,?_⟩
    show (Bs==1)=true↔_
    rw [zDw];constructor
    ·intro e1;refine ⟨hd,?_,p2.1 (by omega)⟩;refine Classical.byContradiction fun hn=>?_
     have:=p1.2 fun v hv=>by
      cases hb:inn.getD v false with
      | false=>rfl
      | true=>exact absurd ⟨v,hv,hb⟩ hn
     have m0:0<=Bs:=m0;have:Bs=0:=this;omega
    ·rintro ⟨_,⟨v,hv,mv⟩,hC⟩;have h1:=p2.2 hC
     have h0: ¬ Bs=0:=fun e=>by
      have:=p1.1 e v hv;rw [mv] at this;cases this
     have m0:0<=Bs:=m0;have h1:Bs<=1:=h1;omega
   ·rw [zAE h3,zAC];refine ⟨_,rfl,rfl,?_⟩;refine zFV (by decide) ?_;rintro ⟨zAI,⟨v,hv,mv⟩,_⟩;have:=oU G hv mv (zAI v hv mv);omega
 | k+1,v,e,hd=>by
  have hv:v<g.length:=by omega
  have hG:=G.gr.len;have r1:AL ((v:Int)+1):=A0.2 ⟨by omega,by omega⟩
  have ec:(((List.range (v+1)).countP fun x=>inn.getD x false:Nat):Int)=(((List.range v).countP fun x=>inn.getD x false:Nat):Int)+(if inn.getD v false then 1 else 0):=by
   rw [List.range_succ,List.countP_append,zFu];split <;> simp
  have A4:=zFH (p:=fun x=>inn.getD x false) (l:=List.range v);rw [zFI] at A4;cases hb:inn.getD v false with
  | false=>
   have ih:=Yz G hI k (v+1) (by omega) fun u hu mu=>by
    rcases zAa.1 hu with hu | rfl
    ·exact hd u hu mu
    ·rw [hb] at mu;cases mu
   rw [ec,hb] at ih;refine Bj.pev (Bj.one fun n=>?_) ih
   show M9 n (G7 g inn n) g inn _ (v:Int)=_
   unfold M9;rw [zAT (by omega),zAK,zAB ⟨⟨by omega,by omega⟩,by omega,by omega⟩,zAO,hb,zEC,zAK,zAB r1,show ((v+1:Nat):Int)=(v:Int)+1 by omega];simp
  | true=>
   have KW:=G.gr.row v (by omega) (by omega);have Pb:=G.gr.rng v (by omega) (by omega);have en:nb g v=g.getD v []:=by unfold nb;rw [zAO]
   refine Bj.pev (Bj.one (b:=.l2 ((((List.range v).countP fun x=>inn.getD x false:Nat):Int)+1) 0 (v:Int) (nb g v) ((nb g v).length:Int) 0) fun n=>?_) ?_
   ·show M9 n (G7 g inn n) g inn _ (v:Int)=_
    unfold M9;rw [zAT (by omega),zAK,zAB ⟨⟨by omega,by omega⟩,by omega,by omega⟩,zAO,hb,zD2,zAC,zAB (A0.2 ⟨by omega,by omega⟩),en]
   ·have k9:=gp hI (x6:=(((List.range v).countP fun x=>inn.getD x false:Nat):Int)+1) (x23:=(v:Int)) Pb KW (nb g v).length 0 (by omega);rw [List.take_zero,List.countP_nil] at k9;refine Bj.pev k9 ?_
    by_cases h2:DN g inn v=2
    ·have ih:=Yz G hI k (v+1) (by omega) fun u hu mu=>by
      rcases zAa.1 hu with hu | rfl
      ·exact hd u hu mu
      ·exact h2
     rw [ec,hb,zAB rfl] at ih;refine Bj.pev (Bj.one fun n=>?_) ih
     show M8 n (G7 g inn n) g inn _ ((DN g inn v:Nat):Int) (v:Int) (nb g v) ((nb g v).length:Int) ((nb g v).length:Int)=_
     unfold M8;rw [zAE (by omega),zAC,h2]
     show (if AL ((v:Int)+1) then _ else _)=_
     rw [zAB r1,show ((v+1:Nat):Int)=(v:Int)+1 by omega]
    ·refine Ev.p (Ev.one (r:=(false,0)) fun n=>?_) ⟨rfl,zFV (by decide) fun h=>h2 (h.1 v hv hb)⟩
     show M8 n (G7 g inn n) g inn _ ((DN g inn v:Nat):Int) (v:Int) (nb g v) ((nb g v).length:Int) ((nb g v).length:Int)=_
     unfold M8;rw [zAE (by omega),zAC,zE3.2 (by omega:((DN g inn v:Nat):Int)≠2),zAK]
theorem sj (G:H8 g) (hI:inn.length=g.length):Ae (fun n=>O2 n g inn) (nn g inn):=by
 have h0:=Wr G (sets:=[inn]) (fun x hx=>by rw [zAp] at hx;rw [hx,hI]) (by simp);refine Ae.bind h0 (b:=fun n y1=>bif (y1 != 0) then some (false,y1) else G7 g inn n (.l1 0 0)) ?_;exact Yz G hI g.length 0 (by omega) fun u hu=>absurd hu (zAf u)
end
end Go.Proofs.YtkjbblkieglmlaaGreatDoor
namespace Go.Proofs.YtkjbblkieglmlaaGreatDoor
open Go.RowKit
theorem zBa {a b:List Int} {n:Nat} (hl:a.length<=LB) (hn:a.length<n):P8 n a b=some (decide (a=b)):=by
 have hb:LB<=9223372036854775806:=by decide
 unfold P8 mI
 by_cases Ap:a.length=b.length
 ·have e:((a.length:Int) != (b.length:Int))=false:=by rw [Ap];simp
  rw [e,zAC]
  have key: ∀ (k i n:Nat),i+k=a.length -> k+1<=n -> P7 a b n (.l1 (i:Int))=some (decide (a.drop i=b.drop i)):=by
   intro k
   induction k with
   | zero=>
    intro i n e hn;obtain ⟨n,rfl⟩: ∃ k,n=k+1:=⟨n-1,by omega⟩
    show TT n (P7 a b n) a b (i:Int)=_
    unfold TT;rw [zAE (by omega),zAC,zEU (by omega),zEU (by omega)];rfl
   | succ k ih=>
    intro i n e hn;obtain ⟨n,rfl⟩: ∃ k,n=k+1:=⟨n-1,by omega⟩;have hi:i<a.length:=by omega
    have BP:i<b.length:=by omega
    have d: ∀ {l:List Int},i<l.length -> l.drop i=l.getD i 0::l.drop (i+1):=fun {l} h=>by
     rw [zDx h,u8,zAQ h];rfl
    have:=ih (i+1) n (by omega) (by omega)
    show TT n (P7 a b n) a b (i:Int)=_
    unfold TT;rw [zAT (by omega),zAK,zAB ⟨⟨by omega,by omega⟩,by omega,by omega⟩,zAO,zAB (A0.2 ⟨by omega,by omega⟩),d hi,d BP]
    by_cases h:a.getD i 0=b.getD i 0
    ·have:(a.getD i 0 != b.getD i 0)=false:=by rw [h];simp
     rw [this,zAC];refine Eq.trans (by assumption) ?_;rw [h];simp
    ·have:(a.getD i 0 != b.getD i 0)=true:=by simpa using h
     rw [this,zAK,zAE fun e=>h (List.cons.inj e).1]
  exact key a.length 0 n (by omega) (by omega)
 ·have e:((a.length:Int) != (b.length:Int))=true:=by simp;omega
  rw [e,zAK,zAE fun h=>Ap (by rw [h])]
end Go.Proofs.YtkjbblkieglmlaaGreatDoor
