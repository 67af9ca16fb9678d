/- Part 5 of 6 of what the proofs of these laws stand on. -/
import Derived.Test.YtekkngkphejfcaaGreatDoorPaD
set_option linter.all false
namespace Go.Proofs.YtekkngkphejfcaaGreatDoor
abbrev zAN:=@List.ext_getElem
abbrev zAj:=@Bool.not_eq_true
abbrev zAq:=@Option.isSome_none
abbrev zAr:=@Option.isSome_some
end Go.Proofs.YtekkngkphejfcaaGreatDoor
namespace Go.Proofs.YtekkngkphejfcaaGreatDoor
open Go.RowKit
section
variable {c:AB} {k:Nat} {pos lost:List Int} {q:AA}
theorem Bn.unique {i:Nat} {D:Nat -> Nat -> Prop} {l l':List Int} (h:Bn c pos lost i D l) (h':Bn c pos lost i D l') (hi: ∀ j,Bl (l.getD j 0)) (A7: ∀ j,Bl (l'.getD j 0)):l=l':=by
 have e:l.length=l'.length:=h.1.trans h'.1.symm;refine zAN e fun j h1 h2=>?_
 have e1:l.getD j 0=l[j]:=by simp [h1]
 have e2:l'.getD j 0=l'[j]:=by simp [h2]
 rw [←e1,←e2];refine Jk (hi j) (A7 j) fun s _=>?_
 rw [zR,h.2,h'.2]
theorem bC {l:List Int} {i:Nat} {x:Int} (h: ∀ j,Bl (l.getD j 0)) (hx:Bl x): ∀ j,Bl ((l.set i x).getD j 0):=by
 intro j
 by_cases e:i=j
 ·subst e
  by_cases h2:i<l.length
  ·rw [KU h2];exact hx
  ·rw [List.set_eq_of_length_le (by omega)];exact h i
 ·rw [getD_set_ne e];exact h j
theorem pU {n ln:Nat} {cell ss:Int} {l':List Int} (h:Cv n cell ss c q pos ln lost=some l') (hi: ∀ j,Bl (lost.getD j 0)): ∀ j,Bl (l'.getD j 0):=by
 unfold Cv Wn at h;split at h
 ·cases h;exact bC hi (GC _ _ _)
 ·cases h
theorem og {n ln:Nat} {cell:Int} {l':List Int} (h:Fg n cell c q pos ln lost=some l') (hi: ∀ j,Bl (lost.getD j 0)): ∀ j,Bl (l'.getD j 0):=by
 unfold Fg WZ at h;split at h
 ·cases h;exact bC hi (GC _ _ _)
 ·cases h
def HE (c:AB):Prop:=c.runs.length<=256/\ ∀ j,j<c.runs.length -> c.runs.getD j 0<=256
structure Kn (c:AB) (d l:Int):Prop where
 d0:0<=d
 d1:d<=(c.runs.length:Int)
 l0:0<=l
 open' : 0 < l -> d < (c.runs.length : Int) /\ l <= c.runs.getD d.toNat 0
def nx (c:AB) (d l:Int) (inn:Bool):Option (Int×Int):=
 bif inn then (if d<(c.runs.length:Int)/\ l<c.runs.getD d.toNat 0 then some (d,l+1) else none)
 else (if l=0 then some (d,0) else if l=c.runs.getD d.toNat 0 then some (d+1,0) else none)
theorem ov {d l:Int} {inn:Bool} {t:Int×Int} (h:Kn c d l) (e:nx c d l inn=some t):Kn c t.1 t.2:=by
 obtain ⟨h1,h2,h3,h4⟩:=h;unfold nx at e;cases inn
 ·rw [yB] at e;split at e
  ·cases e;exact ⟨h1,h2,zV _,fun h=>absurd h (Int.lt_irrefl _)⟩
  ·split at e
   ·cases e;have:=h4 (by omega);exact ⟨by show 0<=d+1;omega,by show d+1<=_;omega,zV _,fun h=>absurd h (Int.lt_irrefl _)⟩
   ·cases e
 ·rw [yF] at e;split at e
  ·rename_i h5;cases e;exact ⟨h1,h2,by show 0<=l+1;omega,fun _=>⟨h5.1,by show l+1<=c.runs.getD d.toNat 0;omega⟩⟩
  ·cases e
theorem TK {n ln:Nat} {d l:Int} {inn:Bool} (R:HE c) (h:Kn c d l): ∃ t,Pp n (d,l) inn c q pos ln lost=some (t,(nx c d l inn).isSome,lost)/\ ∀ u,nx c d l inn=some u -> t=u:=by
 obtain ⟨h1,h2,h3,h4⟩:=h;obtain ⟨hr,hv⟩:=R
 have hl:l<=256:=by
  by_cases h0:0<l
  ·obtain ⟨a1,a2⟩:=h4 h0;have:=hv d.toNat (by omega);omega
  ·omega
 unfold Pp dI nx;cases inn
 ·rw [yB,yB]
  by_cases h0:l=0
  ·subst h0;refine ⟨(d,0),by simp,fun u hu=>by simpa using hu⟩
  ·obtain ⟨a1,a2⟩:=h4 (by omega);have e0:(l==0)=false:=by simpa using h0
   simp only [e0,yB,yM h0];rw [yC ⟨At.2 ⟨by omega,by omega⟩,h1,a1⟩];refine ⟨(d+1,0),?_,fun u hu=>?_⟩
   ·by_cases h5:l=c.runs.getD d.toNat 0
    ·rw [yC h5,←h5];simp
    ·rw [yM h5];simpa using h5
   ·split at hu
    ·cases hu;rfl
    ·cases hu
 ·rw [yF,yF,yC (At.2 ⟨by show _<=l+1;omega,by show l+1<=_;omega⟩)]
  by_cases h5:d<(c.runs.length:Int)
  ·simp only [yI h5,yF];rw [yC ⟨h1,h5⟩];refine ⟨(d,l+1),?_,fun u hu=>?_⟩
   ·by_cases h6:l<c.runs.getD d.toNat 0
    ·rw [yC ⟨h5,h6⟩,yI h6];rfl
    ·rw [yM fun h=>h6 h.2,yA h6];rfl
   ·split at hu
    ·cases hu;rfl
    ·cases hu
  ·simp only [yA h5,yB];refine ⟨(d,l+1),?_,fun u hu=>?_⟩
   ·rw [yM fun h=>h5 h.1];rfl
   ·rw [yM fun h=>h5 h.1] at hu;cases hu
def kd (c:AB) (pos:List Int) (i:Nat) (inn:Bool):Bool:=bif inn then (bits .and .i64 (AT c pos i) c.set != 0) else (bits .andNot .i64 (AT c pos i) c.set != 0)
theorem TU {n:Nat} {i:Nat} {inn:Bool} (W:B0 c k pos) (hi:i<c.cells.length):P4 n (i:Int) inn c q pos pos.length lost=some (kd c pos i inn,lost):=by
 have hc:=W.cells i hi;unfold P4 dq kd;simp only [yH];cases inn
 ·rw [yB,yC ⟨⟨by omega,by omega⟩,hc⟩];rfl
 ·rw [yF,yC ⟨⟨by omega,by omega⟩,hc⟩];rfl
def Ep (c:AB) (pos:List Int):Nat -> Int×Int -> Prop
 | 0,t=>t=(0,0)
 | i+1,t=>∃ s inn,Ep c pos i s/\ nx c s.1 s.2 inn=some t/\ kd c pos i inn=true
theorem Ep.ok (i:Nat): ∀ {t:Int×Int},Ep c pos i t -> Kn c t.1 t.2:=by
 induction i with
 | zero=>
  intro t h;obtain rfl:t=(0,0):=h;exact ⟨zV _,by show (0:Int)<=_;omega,zV _,fun h=>absurd h (Int.lt_irrefl _)⟩
 | succ i ih=>
  rintro t ⟨s,inn,h1,h2,_⟩;exact ov (ih h1) h2
def xy (c:AB) (t:Int×Int):Prop:=t=((c.runs.length:Int),0)∨(0<c.runs.length/\ t=((c.runs.length:Int)-1,c.runs.getD (c.runs.length-1) 0))
def H8 (c:AB) (pos:List Int):Nat -> Int×Int -> Prop
 | 0,t=>xy c t
 | m+1,s=>Ep c pos (c.cells.length-1-m) s/\ ∃ t inn,nx c s.1 s.2 inn=some t/\ kd c pos (c.cells.length-1-m) inn=true/\ H8 c pos m t
def JU (c:AB) (pos:List Int) (i:Nat) (inn:Bool):Prop:=∃ s t,Ep c pos i s/\ nx c s.1 s.2 inn=some t/\ kd c pos i inn=true/\ H8 c pos (c.cells.length-1-i) t
def Iw (c:AB) (pos:List Int) (a s:Nat):Prop:=(¬ JU c pos a true/\ tb c.set s=true)∨(¬ JU c pos a false/\ tb c.set s=false)
def DN (c:AB) (pos:List Int) (i:Nat) (o4:KS) (d l:Int) (inn:Bool):Bool:=match nx c d l inn with
 | some t=>kd c pos i inn&&o4.contains [t.1,t.2]
 | none=>false
theorem p7 {n i oi:Nat} {o1:List Int} {o3:List (Option KS)} {o4 o5 o8:KS} {b0 b1:Bool} {d l:Int} {Hb:List Int} (W:B0 c k pos) (R:HE c) (hi:i<c.cells.length) (h:Kn c d l):
 A1 c q pos pos.length lost (n+1) (.l7 i 0 o1 o3 oi o4 o5 b0 b1 d l o8 Hb)=A1 c q pos pos.length lost n (.l7 i 1 o1 o3 oi o4 (bif DN c pos i o4 d l false then B7 [d,l] o5 else o5) (b0||DN c pos i o4 d l false) b1 d l o8 Hb):=by
 obtain ⟨t,e1,e2⟩:=TK (n:=n) (ln:=pos.length) (pos:=pos) (lost:=o1) (q:=q) (inn:=false) R h;have b:([false,true]:List Bool).getD (0+((0:Int)).toNat) false=false:=rfl;have r:AH ((0:Int)+1):=At.2 ⟨by decide,by decide⟩
 show K6 n (A1 c q pos pos.length lost n) c q pos pos.length lost i 0 o1 o3 oi o4 o5 b0 b1 d l o8 Hb=_
 unfold K6 DN;rw [yI (by decide),yF,yC ⟨⟨by decide,by decide⟩,by decide⟩,b,e1,yD];cases hn:nx c d l false with
 | none=>simp only [zAq,yB,yC r,zj];rfl
 | some u=>
  obtain rfl:=e2 u hn;simp only [zAr,yF];rw [TU W hi,yD];cases hk:kd c pos i false
  ·simp only [yB,yC r,zh,zj];rfl
  ·simp only [yF,ye];cases hc:o4.contains [t.1,t.2]
   ·simp only [yB,yC r,zj];rfl
   ·have z:((0:Int)==0)=true:=rfl;simp only [yF,z,yC r,Bool.or_true];rfl
theorem p6 {n i oi:Nat} {o1:List Int} {o3:List (Option KS)} {o4 o5 o8:KS} {b0 b1:Bool} {d l:Int} {Hb:List Int} (W:B0 c k pos) (R:HE c) (hi:i<c.cells.length) (h:Kn c d l):
 A1 c q pos pos.length lost (n+1) (.l7 i 1 o1 o3 oi o4 o5 b0 b1 d l o8 Hb)=A1 c q pos pos.length lost n (.l7 i 2 o1 o3 oi o4 (bif DN c pos i o4 d l true then B7 [d,l] o5 else o5) b0 (b1||DN c pos i o4 d l true) d l o8 Hb):=by
 obtain ⟨t,e1,e2⟩:=TK (n:=n) (ln:=pos.length) (pos:=pos) (lost:=o1) (q:=q) (inn:=true) R h;have b:([false,true]:List Bool).getD (0+((1:Int)).toNat) false=true:=rfl;have r:AH ((1:Int)+1):=At.2 ⟨by decide,by decide⟩
 show K6 n (A1 c q pos pos.length lost n) c q pos pos.length lost i 1 o1 o3 oi o4 o5 b0 b1 d l o8 Hb=_
 unfold K6 DN;rw [yI (by decide),yF,yC ⟨⟨by decide,by decide⟩,by decide⟩,b,e1,yD];cases hn:nx c d l true with
 | none=>simp only [zAq,yB,yC r,zj];rfl
 | some u=>
  obtain rfl:=e2 u hn;simp only [zAr,yF];rw [TU W hi,yD];cases hk:kd c pos i true
  ·simp only [yB,yC r,zh,zj];rfl
  ·simp only [yF,ye];cases hc:o4.contains [t.1,t.2]
   ·simp only [yB,yC r,zj];rfl
   ·have z:((1:Int)==0)=false:=rfl;have z1:((1:Int)==1)=true:=rfl;simp only [yF,yB,z,z1,yC r,Bool.or_true];rfl
theorem p5 {n i oi:Nat} {o1:List Int} {o3:List (Option KS)} {o4 o5 o8:KS} {b0 b1:Bool} {d l:Int} {Hb:List Int}:
 A1 c q pos pos.length lost (n+1) (.l7 i 2 o1 o3 oi o4 o5 b0 b1 d l o8 Hb)=A1 c q pos pos.length lost n (.l9 i o1 o3 oi o4 o5 b0 b1 o8 Hb):=by
 show K6 n (A1 c q pos pos.length lost n) c q pos pos.length lost i 2 o1 o3 oi o4 o5 b0 b1 d l o8 Hb=_
 unfold K6;rw [yA (by decide),yB]
def Ef (c:AB) (pos:List Int) (i:Nat) (o3:List (Option KS)) (d l:Int) (inn:Bool):List (Option KS):=match nx c d l inn with
 | some t=>bif kd c pos i inn then o3.set (i+1) (some (B7 [t.1,t.2] ((o3.getD (i+1) none).getD []))) else o3
 | none=>o3
theorem qB {n i:Nat} {o1:List Int} {o3:List (Option KS)} {o5:KS} {d l:Int} {E2:List Int} {Ag:Int} (W:B0 c k pos) (R:HE c) (hi:i<c.cells.length) (h:Kn c d l) (h3:i+1<o3.length) (hs:(o3.getD (i+1) none).isSome=true):
 A1 c q pos pos.length lost (n+1) (.l5 i Ag 0 o1 o3 i d l o5 E2)=A1 c q pos pos.length lost n (.l5 i Ag 1 o1 (Ef c pos i o3 d l false) i d l o5 E2):=by
 obtain ⟨t,e1,e2⟩:=TK (n:=n) (ln:=pos.length) (pos:=pos) (lost:=o1) (q:=q) (inn:=false) R h;have b:([false,true]:List Bool).getD (0+((0:Int)).toNat) false=false:=rfl;have r:AH ((0:Int)+1):=At.2 ⟨by decide,by decide⟩;have Ae:=W.len;have t1:((((c.cells.length:Nat):Int)+1).toNat:Nat)=c.cells.length+1:=by omega
 have t2:0+(((i:Int)+1).toNat:Nat)=i+1:=by omega
 show K7 n (A1 c q pos pos.length lost n) c q pos pos.length lost i Ag 0 o1 o3 i d l o5 E2=_
 unfold K7 Ef;rw [yI (by decide),yF,yC ⟨⟨by decide,by decide⟩,by decide⟩,b,e1,yD];cases hn:nx c d l false with
 | none=>simp only [zAq,yB,yC r];rfl
 | some u=>
  obtain rfl:=e2 u hn;simp only [zAr,yF];rw [TU W hi,yD];cases hk:kd c pos i false
  ·simp only [yB,yC r];rfl
  ·simp only [yF,t1,t2];rw [yC ⟨At.2 ⟨by omega,by omega⟩,⟨by omega,by omega⟩,h3,by omega,hs,r⟩];rfl
theorem qA {n i:Nat} {o1:List Int} {o3:List (Option KS)} {o5:KS} {d l:Int} {E2:List Int} {Ag:Int} (W:B0 c k pos) (R:HE c) (hi:i<c.cells.length) (h:Kn c d l) (h3:i+1<o3.length) (hs:(o3.getD (i+1) none).isSome=true):
 A1 c q pos pos.length lost (n+1) (.l5 i Ag 1 o1 o3 i d l o5 E2)=A1 c q pos pos.length lost n (.l5 i Ag 2 o1 (Ef c pos i o3 d l true) i d l o5 E2):=by
 obtain ⟨t,e1,e2⟩:=TK (n:=n) (ln:=pos.length) (pos:=pos) (lost:=o1) (q:=q) (inn:=true) R h;have b:([false,true]:List Bool).getD (0+((1:Int)).toNat) false=true:=rfl;have r:AH ((1:Int)+1):=At.2 ⟨by decide,by decide⟩;have Ae:=W.len;have t1:((((c.cells.length:Nat):Int)+1).toNat:Nat)=c.cells.length+1:=by omega
 have t2:0+(((i:Int)+1).toNat:Nat)=i+1:=by omega
 show K7 n (A1 c q pos pos.length lost n) c q pos pos.length lost i Ag 1 o1 o3 i d l o5 E2=_
 unfold K7 Ef;rw [yI (by decide),yF,yC ⟨⟨by decide,by decide⟩,by decide⟩,b,e1,yD];cases hn:nx c d l true with
 | none=>simp only [zAq,yB,yC r];rfl
 | some u=>
  obtain rfl:=e2 u hn;simp only [zAr,yF];rw [TU W hi,yD];cases hk:kd c pos i true
  ·simp only [yB,yC r];rfl
  ·simp only [yF,t1,t2];rw [yC ⟨At.2 ⟨by omega,by omega⟩,⟨by omega,by omega⟩,h3,by omega,hs,r⟩];rfl
theorem p9 {n i:Nat} {o1:List Int} {o3:List (Option KS)} {o5:KS} {d l:Int} {E2:List Int} {Ag:Int}:
 A1 c q pos pos.length lost (n+1) (.l5 i Ag 2 o1 o3 i d l o5 E2)=A1 c q pos pos.length lost n (.l8 i Ag o1 o3 i o5 E2):=by
 show K7 n (A1 c q pos pos.length lost n) c q pos pos.length lost i Ag 2 o1 o3 i d l o5 E2=_
 unfold K7;rw [yA (by decide),yB]
def FG (o3:List (Option KS)) (j:Nat):KS:=(o3.getD j none).getD []
theorem Sj {i:Nat} {o3:List (Option KS)} {d l:Int} {inn:Bool}:(Ef c pos i o3 d l inn).length=o3.length:=by
 unfold Ef;split
 ·cases kd c pos i inn
  ·rfl
  ·rw [yF,yp]
 ·rfl
theorem UO {α:Type} {l:List α} {i:Nat} {x y:α} (h:i<l.length):(l.set i x).getD i y=x:=by
 rw [u8,zZ h];rfl
theorem Ya {α:Type} {l:List α} {i j:Nat} {x y:α} (h:i≠j):(l.set i x).getD j y=l.getD j y:=by
 rw [u8,zT h,←u8]
theorem WG {i j:Nat} {o3:List (Option KS)} {d l:Int} {inn:Bool} (h:j≠i+1):(Ef c pos i o3 d l inn).getD j none=o3.getD j none:=by
 unfold Ef;split
 ·cases kd c pos i inn
  ·rfl
  ·rw [yF,Ya (fun e=>h e.symm)]
 ·rfl
theorem WH {i:Nat} {o3:List (Option KS)} {d l:Int} {inn:Bool} (hl:i+1<o3.length) {j:Nat} (h:(o3.getD j none).isSome=true):((Ef c pos i o3 d l inn).getD j none).isSome=true:=by
 by_cases e:j=i+1
 ·subst e;unfold Ef;split
  ·cases kd c pos i inn
   ·exact h
   ·rw [yF,UO hl];rfl
  ·exact h
 ·rw [WG e];exact h
theorem M9 {i:Nat} {o3:List (Option KS)} {d l:Int} {inn:Bool} (hl:i+1<o3.length) {x:List Int}:x∈FG (Ef c pos i o3 d l inn) (i+1)↔x∈FG o3 (i+1)∨∃ t,nx c d l inn=some t/\ kd c pos i inn=true/\ x= [t.1,t.2]:=by
 unfold Ef;split
 ·rename_i t ht;cases hk:kd c pos i inn
  ·rw [yB];exact ⟨.inl,fun h=>h.elim id fun ⟨_,_,h,_⟩=>by cases h⟩
  ·rw [yF];unfold FG;rw [UO hl]
   show x∈B7 _ _↔_
   rw [La];constructor
   ·rintro (h | h)
    ·exact .inr ⟨t,ht,rfl,h⟩
    ·exact .inl h
   ·rintro (h | ⟨u,hu,_,h⟩)
    ·exact .inr h
    ·rw [ht] at hu;cases hu;exact .inl h
 ·rename_i hn;exact ⟨.inl,fun h=>h.elim id fun ⟨_,h,_⟩=>by rw [hn] at h;cases h⟩
structure Rows (c:AB) (pos:List Int) (i:Nat) (o3:List (Option KS)):Prop where
 len:o3.length=c.cells.length+1
 isSome: ∀ j,j<=c.cells.length -> (o3.getD j none).isSome=true
 row: ∀ j,j<=i -> ∀ x,x∈FG o3 j↔∃ t:Int×Int,x= [t.1,t.2]/\ Ep c pos j t
 rest: ∀ j,i<j -> j<=c.cells.length -> FG o3 j= []
structure MP (c:AB) (pos:List Int) (i:Nat) (rem:KS) (o3:List (Option KS)):Prop where
 hi:i<c.cells.length
 len:o3.length=c.cells.length+1
 isSome: ∀ j,j<=c.cells.length -> (o3.getD j none).isSome=true
 row: ∀ j,j<=i -> ∀ x,x∈FG o3 j↔∃ t:Int×Int,x= [t.1,t.2]/\ Ep c pos j t
 rest: ∀ j,i+1<j -> j<=c.cells.length -> FG o3 j= []
 sub: ∀ x∈rem,∃ t:Int×Int,x= [t.1,t.2]/\ Ep c pos i t
 next: ∀ x∈FG o3 (i+1),∃ t:Int×Int,x= [t.1,t.2]/\ Ep c pos (i+1) t
 cov: ∀ t,Ep c pos i t -> [t.1,t.2]∈rem∨∀ inn u,nx c t.1 t.2 inn=some u -> kd c pos i inn=true -> [u.1,u.2]∈FG o3 (i+1)
theorem Rows.mid {i:Nat} {o3:List (Option KS)} (h:Rows c pos i o3) (hi:i<c.cells.length):MP c pos i (FG o3 i) o3 where
 hi:=hi
 len:=h.len
 isSome:=h.isSome
 row:=h.row
 rest:=fun j hj hl=>h.rest j (by omega) hl
 sub:=fun x hx=>(h.row i (yf _) x).1 hx
 next:=fun x hx=>by rw [h.rest (i+1) (by omega) (by omega)] at hx;cases hx
 cov:=fun t ht=>.inl ((h.row i (yf _) _).2 ⟨t,rfl,ht⟩)
theorem MP.rows {i:Nat} {o3:List (Option KS)} (h:MP c pos i [] o3):Rows c pos (i+1) o3 where
 len:=h.len
 isSome:=h.isSome
 row:=fun j hj x=>by
  rcases yR.1 (Nat.lt_succ_of_le hj) with hj | rfl
  ·exact h.row j (by omega) x
  ·refine ⟨h.next x,?_⟩;rintro ⟨t,rfl,s,inn,h1,h2,h3⟩;rcases h.cov s h1 with h4 | h4
   ·cases h4
   ·exact h4 inn t h2 h3
 rest:=h.rest
theorem Pc {t u:Int×Int} (h:([t.1,t.2]:List Int)= [u.1,u.2]):t=u:=by
 obtain ⟨a,b⟩:=t;obtain ⟨a',b'⟩:=u;simp only [List.cons.injEq,and_true] at h;rw [h.1,h.2]
theorem MP.go {i:Nat} {o3:List (Option KS)} {rem:KS} {t:Int×Int} (h:MP c pos i rem o3) (ht: [t.1,t.2]∈rem):MP c pos i (rem.erase [t.1,t.2]) (Ef c pos i (Ef c pos i o3 t.1 t.2 false) t.1 t.2 true):=by
 have hl:=h.len;have hi:=h.hi;have h1:i+1<o3.length:=by omega
 have h2:i+1<(Ef c pos i o3 t.1 t.2 false).length:=by rw [Sj];exact h1
 have AV: ∀ j,j≠i+1 -> FG (Ef c pos i (Ef c pos i o3 t.1 t.2 false) t.1 t.2 true) j=FG o3 j:=fun j hj=>by
  unfold FG;rw [WG hj,WG hj]
 have hR:Ep c pos i t:=by
  obtain ⟨u,e,hu⟩:=h.sub _ ht;rw [Pc e];exact hu
 refine ⟨hi,by rw [Sj,Sj];exact hl,fun j hj=>WH h2 (WH h1 (h.isSome j hj)),fun j hj x=>?_,fun j hj QU=>?_,fun x hx=>h.sub x (zAz hx),fun x hx=>?_,fun s hs=>?_⟩
 ·rw [AV j (by omega)];exact h.row j hj x
 ·rw [AV j (by omega)];exact h.rest j hj QU
 ·rw [M9 h2,M9 h1] at hx;rcases hx with (hx | ⟨u,e1,e2,rfl⟩) | ⟨u,e1,e2,rfl⟩
  ·exact h.next x hx
  ·exact ⟨u,rfl,t,false,hR,e1,e2⟩
  ·exact ⟨u,rfl,t,true,hR,e1,e2⟩
 ·by_cases e:s=t
  ·subst e;refine .inr fun inn u h3 h4=>?_
   rw [M9 h2,M9 h1];cases inn
   ·exact .inl (.inr ⟨u,h3,h4,rfl⟩)
   ·exact .inr ⟨u,h3,h4,rfl⟩
  ·rcases h.cov s hs with h3 | h3
   ·exact .inl ((List.mem_erase_of_ne (fun e2=>e (Pc e2))).2 h3)
   ·refine .inr fun inn u h4 h5=>?_
    rw [M9 h2,M9 h1];exact .inl (.inl (h3 inn u h4 h5))
def GZ (c:AB) (pos lost:List Int) (r:Bool×List Int):Prop:=r.1=true/\ Bn c pos lost c.cells.length (Iw c pos) r.2/\ ∀ j,Bl (r.2.getD j 0)
theorem GZ.uniq (r r':Bool×List Int) (h:GZ c pos lost r) (h':GZ c pos lost r'):r=r':=by
 obtain ⟨b,l⟩:=r;obtain ⟨b',l'⟩:=r';obtain ⟨h1,h2,h3⟩:=h;obtain ⟨h4,h5,h6⟩:=h';have e1:b=true:=h1;have e2:b'=true:=h4;have e3:l=l':=Bn.unique h2 h5 h3 h6;rw [e1,e2,e3]
theorem pN {i:Nat} {o1:List Int} {Ag:Int} (W:B0 c k pos) (R:HE c) (hx:Ag=(i:Int)) (H: ∀ o3,Rows c pos (i+1) o3 -> Ab (fun n=>A1 c q pos pos.length lost n (.l2 (Ag+1) o1 o3)) (GZ c pos lost)):
 ∀ (m:Nat) (rem:KS) (o3:List (Option KS)) (E2:List Int),rem.length=m -> MP c pos i rem o3 -> Ab (fun n=>A1 c q pos pos.length lost n (.l8 i Ag o1 o3 i rem E2)) (GZ c pos lost):=by
 intro m
 induction m with
 | zero=>
  intro rem o3 E2 hm hM;have:rem= []:=zJ hm;subst this;have hs:=hM.isSome i (by have:=hM.hi;omega);have r1:AH (Ag+1):=by rw [hx];exact (W.r64 hM.hi).2
  refine Ab.step 1 (fun n=>?_) (H o3 hM.rows)
  show O1 n (A1 c q pos pos.length lost n) c q pos pos.length lost i Ag o1 o3 i [] E2=_
  unfold O1;rw [yC hs,cw,yC r1]
 | succ m ih=>
  intro rem o3 E2 hm hM;have hs:=hM.isSome i (by have:=hM.hi;omega);have AV:rem≠[]:=by intro e;rw [e] at hm;cases hm
  refine Ab.step 1 (g:=fun n=>Gp rem (if AH (Ag+1) then A1 c q pos pos.length lost n (.l2 (Ag+1) o1 o3) else none) (fun y1=>A1 c q pos pos.length lost n (.l5 i Ag 0 o1 o3 i (y1.getD 0 0) (y1.getD 1 0) (rem.erase y1) y1))) (fun n=>?_) (Ab.next AV (fun y hy=>?_) GZ.uniq)
  ·show O1 n (A1 c q pos pos.length lost n) c q pos pos.length lost i Ag o1 o3 i rem E2=_
   unfold O1;rw [yC hs];simp only [yC hs]
  ·obtain ⟨t,rfl,ht⟩:=hM.sub y hy;have hS:=ht.ok;have hl:=hM.len;have hi:=hM.hi;have h1:i+1<o3.length:=by omega
   have s1:=hM.isSome (i+1) (by omega);have h2:i+1<(Ef c pos i o3 t.1 t.2 false).length:=by rw [Sj];exact h1
   have s2:=WH (c:=c) (pos:=pos) (d:=t.1) (l:=t.2) (inn:=false) h1 s1;refine Ab.step 3 (fun n=>?_) (ih _ _ [t.1,t.2] (by rw [zAn hy];omega) (hM.go hy))
   show A1 c q pos pos.length lost (n+2+1) (.l5 i Ag 0 o1 o3 i t.1 t.2 (rem.erase [t.1,t.2]) [t.1,t.2])=_
   rw [qB W R hM.hi hS h1 s1,qA W R hM.hi hS h2 s2,p9]
def OL (c:AB) (pos:List Int) (m:Nat) (o4:KS):Prop:=∀ x,x∈o4↔∃ t:Int×Int,x= [t.1,t.2]/\ H8 c pos m t
def Kp (c:AB) (pos lost:List Int) (m:Nat) (o1:List Int):Prop:=Bn c pos lost c.cells.length (fun a s=>c.cells.length<=a+m/\ Iw c pos a s) o1/\ ∀ j,Bl (o1.getD j 0)
structure Bk (c:AB) (pos:List Int) (i m:Nat) (o5:KS) (b0 b1:Bool) (rem:KS):Prop where
 hi:i+m+1=c.cells.length
 sub: ∀ x∈rem,∃ t:Int×Int,x= [t.1,t.2]/\ Ep c pos i t
 o5s: ∀ x∈o5,∃ t:Int×Int,x= [t.1,t.2]/\ H8 c pos (m+1) t
 b0s:b0=true -> JU c pos i false
 b1s:b1=true -> JU c pos i true
 cov: ∀ t,Ep c pos i t -> [t.1,t.2]∈rem∨∀ inn u,nx c t.1 t.2 inn=some u -> kd c pos i inn=true -> H8 c pos m u -> [t.1,t.2]∈o5/\ (bif inn then b1 else b0)=true
theorem Wa {i m:Nat} {o4:KS} {d l:Int} {inn:Bool} (h:OL c pos m o4):DN c pos i o4 d l inn=true↔∃ u,nx c d l inn=some u/\ kd c pos i inn=true/\ H8 c pos m u:=by
 unfold DN;split
 ·rename_i t ht;rw [yG,zr,h];constructor
  ·rintro ⟨h1,u,h2,h3⟩;exact ⟨t,ht,h1,by rw [Pc h2];exact h3⟩
  ·rintro ⟨u,h1,h2,h3⟩;rw [ht] at h1;cases h1;exact ⟨h2,t,rfl,h3⟩
 ·rename_i hn;exact ⟨fun h=>(by cases h),fun ⟨u,h,_⟩=>by rw [hn] at h;cases h⟩
theorem Bk.go {i m:Nat} {o4 o5 rem:KS} {b0 b1:Bool} {t:Int×Int} (hE:OL c pos m o4) (h:Bk c pos i m o5 b0 b1 rem) (ht: [t.1,t.2]∈rem):
 Bk c pos i m (bif DN c pos i o4 t.1 t.2 true then B7 [t.1,t.2] (bif DN c pos i o4 t.1 t.2 false then B7 [t.1,t.2] o5 else o5) else (bif DN c pos i o4 t.1 t.2 false then B7 [t.1,t.2] o5 else o5)) (b0||DN c pos i o4 t.1 t.2 false) (b1||DN c pos i o4 t.1 t.2 true) (rem.erase [t.1,t.2]):=by
 have hR:Ep c pos i t:=by
  obtain ⟨u,e,hu⟩:=h.sub _ ht;rw [Pc e];exact hu
 have ei:c.cells.length-1-i=m:=by have:=h.hi;omega
 have em:c.cells.length-1-m=i:=by have:=h.hi;omega
 have fU: ∀ inn,DN c pos i o4 t.1 t.2 inn=true -> JU c pos i inn:=fun inn ho=>by
  obtain ⟨u,h1,h2,h3⟩:=(Wa hE).1 ho;exact ⟨t,u,hR,h1,h2,by rw [ei];exact h3⟩
 have fB: ∀ inn,DN c pos i o4 t.1 t.2 inn=true -> H8 c pos (m+1) t:=fun inn ho=>by
  obtain ⟨u,h1,h2,h3⟩:=(Wa hE).1 ho
  show Ep c pos (c.cells.length-1-m) t/\ ∃ u inn,nx c t.1 t.2 inn=some u/\ kd c pos (c.cells.length-1-m) inn=true/\ H8 c pos m u
  rw [em];exact ⟨hR,u,inn,h1,h2,h3⟩
 have mem: ∀ x,x∈(bif DN c pos i o4 t.1 t.2 true then B7 [t.1,t.2] (bif DN c pos i o4 t.1 t.2 false then B7 [t.1,t.2] o5 else o5) else (bif DN c pos i o4 t.1 t.2 false then B7 [t.1,t.2] o5 else o5))↔x∈o5∨(x= [t.1,t.2]/\ (DN c pos i o4 t.1 t.2 true=true∨DN c pos i o4 t.1 t.2 false=true)):=fun x=>by
  cases DN c pos i o4 t.1 t.2 true <;> cases DN c pos i o4 t.1 t.2 false <;> simp only [yF,yB,La,yt,or_false,and_false,or_true,true_or,and_true]
  ·exact Or.comm
  ·exact Or.comm
  ·exact ⟨fun h=>h.elim .inr fun h=>h.elim .inr .inl,fun h=>h.elim (fun h=>.inr (.inr h)) .inl⟩
 refine ⟨h.hi,fun x hx=>h.sub x (zAz hx),fun x hx=>?_,fun hb=>?_,fun hb=>?_,fun s hs=>?_⟩
 ·rcases (mem x).1 hx with hx | ⟨rfl,h1 | h1⟩
  ·exact h.o5s x hx
  ·exact ⟨t,rfl,fB _ h1⟩
  ·exact ⟨t,rfl,fB _ h1⟩
 ·rcases Bool.or_eq_true_iff.1 hb with hb | hb
  ·exact h.b0s hb
  ·exact fU _ hb
 ·rcases Bool.or_eq_true_iff.1 hb with hb | hb
  ·exact h.b1s hb
  ·exact fU _ hb
 ·by_cases e:s=t
  ·subst e;refine .inr fun inn u h1 h2 h3=>?_
   have ho:DN c pos i o4 s.1 s.2 inn=true:=(Wa hE).2 ⟨u,h1,h2,h3⟩;rw [mem];cases inn
   ·exact ⟨.inr ⟨rfl,.inr ho⟩,by rw [yB,ho,Bool.or_true]⟩
   ·exact ⟨.inr ⟨rfl,.inl ho⟩,by rw [yF,ho,Bool.or_true]⟩
  ·rcases h.cov s hs with h3 | h3
   ·exact .inl ((List.mem_erase_of_ne (fun e2=>e (Pc e2))).2 h3)
   ·refine .inr fun inn u h4 h5 h6=>?_
    obtain ⟨h7,h8⟩:=h3 inn u h4 h5 h6;rw [mem];refine ⟨.inl h7,?_⟩;cases inn
    ·rw [yB] at h8 ⊢;rw [h8];rfl
    ·rw [yF] at h8 ⊢;rw [h8];rfl
theorem Bk.end' {i m:Nat} {o5:KS} {b0 b1:Bool} (h:Bk c pos i m o5 b0 b1 []):OL c pos (m+1) o5/\ (b0=true↔JU c pos i false)/\ (b1=true↔JU c pos i true):=by
 have ei:c.cells.length-1-i=m:=by have:=h.hi;omega
 have em:c.cells.length-1-m=i:=by have:=h.hi;omega
 refine ⟨fun x=>⟨h.o5s x,?_⟩,⟨h.b0s,?_⟩,⟨h.b1s,?_⟩⟩
 ·rintro ⟨t,rfl,h1⟩;have h1:Ep c pos (c.cells.length-1-m) t/\ ∃ u inn,nx c t.1 t.2 inn=some u/\ kd c pos (c.cells.length-1-m) inn=true/\ H8 c pos m u:=h1;rw [em] at h1;obtain ⟨h1,u,inn,h2,h3,h4⟩:=h1;rcases h.cov t h1 with h5 | h5
  ·cases h5
  ·exact (h5 inn u h2 h3 h4).1
 ·rintro ⟨s,t,h1,h2,h3,h4⟩;rw [ei] at h4;rcases h.cov s h1 with h5 | h5
  ·cases h5
  ·exact (h5 false t h2 h3 h4).2
 ·rintro ⟨s,t,h1,h2,h3,h4⟩;rw [ei] at h4;rcases h.cov s h1 with h5 | h5
  ·cases h5
  ·exact (h5 true t h2 h3 h4).2
theorem da {cell ss:Int} (h0:0<=cell) (h1:cell<(pos.length:Int)) (hl:lost.length=pos.length) (hi: ∀ j,Bl (lost.getD j 0)):
 ∃ l',(∀ n,Cv n cell ss c q pos pos.length lost=some l')/\ l'.length=pos.length/\ (∀ j,Bl (l'.getD j 0))/\ ∀ j s,tb (l'.getD j 0) s=(tb (lost.getD j 0) s||(decide (j=cell.toNat)&&(tb (pos.getD j 0) s&&tb ss s))):=by
 obtain ⟨l',e,h2,h3⟩:=JC (n:=0) (ss:=ss) (c:=c) (q:=q) h0 h1 hl;exact ⟨l',fun _=>e,h2,pU e hi,h3⟩
theorem WY {cell:Int} (h0:0<=cell) (h1:cell<(pos.length:Int)) (hl:lost.length=pos.length) (hi: ∀ j,Bl (lost.getD j 0)):
 ∃ l',(∀ n,Fg n cell c q pos pos.length lost=some l')/\ l'.length=pos.length/\ (∀ j,Bl (l'.getD j 0))/\ ∀ j s,tb (l'.getD j 0) s=(tb (lost.getD j 0) s||(decide (j=cell.toNat)&&(tb (pos.getD j 0) s&&!tb c.set s))):=by
 obtain ⟨l',e,h2,h3⟩:=WX (n:=0) (c:=c) (q:=q) h0 h1 hl;exact ⟨l',fun _=>e,h2,og e hi,h3⟩
theorem Kp.go {i m:Nat} {o1 l':List Int} (h:Kp c pos lost m o1) (hi:i+m+1=c.cells.length) (hl:l'.length=pos.length) (B5: ∀ j,Bl (l'.getD j 0))
 (h1: ∀ j s,tb (l'.getD j 0) s=true↔tb (o1.getD j 0) s=true∨((c.cells.getD i 0).toNat=j/\ tb (AT c pos i) s=true/\ Iw c pos i s)):Kp c pos lost (m+1) l':=by
 refine ⟨⟨hl,fun j s=>?_⟩,B5⟩;rw [h1,h.1.2];constructor
 ·rintro ((h | ⟨a,ha,h2,h3,h4,h5⟩) | h)
  ·exact .inl h
  ·exact .inr ⟨a,ha,h2,h3,by omega,h5⟩
  ·exact .inr ⟨i,by omega,h.1,h.2.1,by omega,h.2.2⟩
 ·rintro (h2 | ⟨a,ha,h2,h3,h4,h5⟩)
  ·exact .inl (.inl h2)
  ·by_cases e:c.cells.length<=a+m
   ·exact .inl (.inr ⟨a,ha,h2,h3,e,h5⟩)
   ·have:a=i:=by omega
    subst this;exact .inr ⟨h2,h3,h5⟩
theorem xA {i m:Nat} {o1:List Int} {o3:List (Option KS)} {o4:KS} {AP:Int} (W:B0 c k pos) (R:HE c) (hx:AP=(i:Int)) (hR:Rows c pos c.cells.length o3) (hE:OL c pos m o4) (hL:Kp c pos lost m o1)
 (H: ∀ o1 o5,Kp c pos lost (m+1) o1 -> OL c pos (m+1) o5 -> Ab (fun n=>A1 c q pos pos.length lost n (.l4 (AP-1) o1 o3 o5)) (GZ c pos lost)):
 ∀ (z:Nat) (rem o5:KS) (b0 b1:Bool) (M2:List Int),rem.length=z -> Bk c pos i m o5 b0 b1 rem -> Ab (fun n=>A1 c q pos pos.length lost n (.l9 i o1 o3 i o4 o5 b0 b1 rem M2)) (GZ c pos lost):=by
 intro z
 induction z with
 | zero=>
  intro rem o5 b0 b1 M2 hm hB;have:rem= []:=zJ hm;subst this;obtain ⟨e5,e0,e1⟩:=hB.end';have hi:i<c.cells.length:=by have:=hB.hi;omega
  have hs:=hR.isSome i (by omega);have Ae:=W.len;have r1:AH ((i:Int)-1):=At.2 ⟨by omega,by omega⟩;have hc:=W.cells i hi;have g0:(0:Int)<=(i:Int)/\ (i:Int)<((c.cells.length:Nat):Int):=⟨by omega,by omega⟩;obtain ⟨l1,f1,n1,i1,t1⟩:=da (ss:=c.set) (c:=c) (q:=q) hc.1 hc.2 hL.1.1 hL.2;obtain ⟨l2,f2,n2,i2,t2⟩:=WY (c:=c) (q:=q) hc.1 hc.2 n1 i1;obtain ⟨l3,f3,n3,i3,t3⟩:=WY (c:=c) (q:=q) hc.1 hc.2 hL.1.1 hL.2
  have eq: ∀ n,A1 c q pos pos.length lost (n+1) (.l9 i o1 o3 i o4 o5 b0 b1 [] M2)=A1 c q pos pos.length lost n (.l4 (i-1) (bif !b1 then (bif !b0 then l2 else l1) else (bif !b0 then l3 else o1)) o3 o5):=fun n=>by
   show O0 n (A1 c q pos pos.length lost n) c q pos pos.length lost i o1 o3 i o4 o5 b0 b1 [] M2=_
   unfold O0;rw [yC hs,cw];simp only [yH];cases b1 <;> cases b0 <;> simp only [zC,yq,yF,yB,yC g0,f1,f2,f3,yD,yC r1]
  refine Ab.step 1 eq ?_
  have key: ∀ l':List Int,l'.length=pos.length -> (∀ j,Bl (l'.getD j 0)) -> (∀ j s,tb (l'.getD j 0) s=(tb (o1.getD j 0) s||(decide (j=(c.cells.getD i 0).toNat)&&(tb (pos.getD j 0) s&&((!b1&&tb c.set s)||(!b0&&!tb c.set s)))))) -> Kp c pos lost (m+1) l':=by
   intro l' h1 h2 h3;refine hL.go hB.hi h1 h2 fun j s=>?_
   rw [h3,ya,yG,yG,yQ,ya,yG,yG,yv,yv,yv];unfold Iw;rw [←e0,←e1,zAj,zAj];constructor
   ·rintro (h | ⟨rfl,h⟩)
    ·exact .inl h
    ·exact .inr ⟨rfl,h⟩
   ·rintro (h | ⟨rfl,h⟩)
    ·exact .inl h
    ·exact .inr ⟨rfl,h⟩
  subst hx;cases b1 <;> cases b0 <;> simp only [zC,yq,yF,yB]
  ·exact H l2 o5 (key l2 n2 i2 fun j s=>by
    rw [t2,t1];cases tb (o1.getD j 0) s <;> cases decide (j=(c.cells.getD i 0).toNat) <;> cases tb (pos.getD j 0) s <;> cases tb c.set s <;> rfl) e5
  ·exact H l1 o5 (key l1 n1 i1 fun j s=>by
    rw [t1];cases tb (o1.getD j 0) s <;> cases decide (j=(c.cells.getD i 0).toNat) <;> cases tb (pos.getD j 0) s <;> cases tb c.set s <;> rfl) e5
  ·exact H l3 o5 (key l3 n3 i3 fun j s=>by
    rw [t3];cases tb (o1.getD j 0) s <;> cases decide (j=(c.cells.getD i 0).toNat) <;> cases tb (pos.getD j 0) s <;> cases tb c.set s <;> rfl) e5
  ·exact H o1 o5 (key o1 hL.1.1 hL.2 fun j s=>by
    cases tb (o1.getD j 0) s <;> cases decide (j=(c.cells.getD i 0).toNat) <;> cases tb (pos.getD j 0) s <;> cases tb c.set s <;> rfl) e5
 | succ z ih=>
  intro rem o5 b0 b1 M2 hm hB;have hi:i<c.cells.length:=by have:=hB.hi;omega
  have hs:=hR.isSome i (by omega);have AV:rem≠[]:=by intro e;rw [e] at hm;cases hm
  refine Ab.step 1 (g:=fun n=>Gp rem none (fun y1=>A1 c q pos pos.length lost n (.l7 i 0 o1 o3 i o4 o5 b0 b1 (y1.getD 0 0) (y1.getD 1 0) (rem.erase y1) y1))) (fun n=>?_) (Ab.next AV (fun y hy=>?_) GZ.uniq)
  ·show O0 n (A1 c q pos pos.length lost n) c q pos pos.length lost i o1 o3 i o4 o5 b0 b1 rem M2=_
   unfold O0;rw [yC hs];simp only [yC hs];cases rem with
   | nil=>exact absurd rfl AV
   | cons x r=>rfl
  ·obtain ⟨t,rfl,ht⟩:=hB.sub y hy;have hS:=ht.ok;refine Ab.step 3 (fun n=>?_) (ih _ _ _ _ [t.1,t.2] (by rw [zAn hy];omega) (hB.go hE hy))
   show A1 c q pos pos.length lost (n+2+1) (.l7 i 0 o1 o3 i o4 o5 b0 b1 t.1 t.2 (rem.erase [t.1,t.2]) [t.1,t.2])=_
   rw [p7 W R hi hS,p6 W R hi hS,p5]
theorem p8 {n ln oi:Nat} {AP:Int} {o1:List Int} {o3:List (Option KS)} {o4 o7:KS}:A1 c q pos ln lost n (.l6 AP o1 o3 oi o4 o7)=A1 c q pos ln lost n (.l9 AP o1 o3 oi o4 [] false false o7 []):=by cases n <;> rfl
theorem qC {n ln oi:Nat} {x8 Ag:Int} {o1:List Int} {o3:List (Option KS)} {o4:KS}:A1 c q pos ln lost n (.l3 x8 Ag o1 o3 oi o4)=A1 c q pos ln lost n (.l8 x8 Ag o1 o3 oi o4 []):=by cases n <;> rfl
theorem iT (W:B0 c k pos) (R:HE c) {o3:List (Option KS)} (hR:Rows c pos c.cells.length o3):
 ∀ (i m:Nat) (AP:Int) (o1:List Int) (o4:KS),i+m=c.cells.length -> AP=(i:Int)-1 -> Kp c pos lost m o1 -> OL c pos m o4 -> Ab (fun n=>A1 c q pos pos.length lost n (.l4 AP o1 o3 o4)) (GZ c pos lost):=by
 intro i
 induction i with
 | zero=>
  intro m AP o1 o4 hm hx hL hE;refine Ev.p (r:=(true,o1)) ⟨1,fun n hn=>?_⟩ ⟨rfl,⟨hL.1.1,fun j s=>?_⟩,hL.2⟩
  ·obtain ⟨n,rfl⟩: ∃ n',n=n'+1:=⟨n-1,by omega⟩
   show O3 n (A1 c q pos pos.length lost n) c q pos pos.length lost AP o1 o3 o4=_
   unfold O3;rw [yA (by omega),yB]
  ·rw [hL.1.2];constructor
   ·rintro (h | ⟨a,h1,h2,h3,_,h4⟩)
    ·exact .inl h
    ·exact .inr ⟨a,h1,h2,h3,h4⟩
   ·rintro (h | ⟨a,h1,h2,h3,h4⟩)
    ·exact .inl h
    ·exact .inr ⟨a,h1,h2,h3,by omega,h4⟩
 | succ i ih=>
  intro m AP o1 o4 hm hx hL hE;have hx:AP=(i:Int):=by omega
  subst hx;have hs:=hR.isSome i (by omega);have Ae:=hR.len;have t1:((((c.cells.length:Nat):Int)+1).toNat:Nat)=c.cells.length+1:=by omega
  have t2:0+((i:Int).toNat:Nat)=i:=by omega
  refine Ab.step 1 (g:=fun n=>A1 c q pos pos.length lost n (.l9 i o1 o3 i o4 [] false false (FG o3 i) [])) (fun n=>?_) (xA W R rfl hR hE hL (fun o1 o5 h1 h2=>ih (m+1) ((i:Int)-1) o1 o5 (by omega) rfl h1 h2) _ (FG o3 i) [] false false [] rfl ⟨by omega,fun x hx=>(hR.row i (by omega) x).1 hx,fun x hx=>(by cases hx),fun h=>(by cases h),fun h=>(by cases h),fun t ht=>.inl ((hR.row i (by omega) _).2 ⟨t,rfl,ht⟩)⟩)
  show O3 n (A1 c q pos pos.length lost n) c q pos pos.length lost (i:Int) o1 o3 o4=_
  unfold O3;simp only [t1,t2];rw [yI (by omega),yF,yC hs,yC ⟨⟨by omega,by omega⟩,by omega,hs⟩];exact p8
theorem vD (W:B0 c k pos) (R:HE c) (hl:lost.length=pos.length) (B5: ∀ j,Bl (lost.getD j 0)):
 ∀ (m i:Nat) (Ag:Int) (o3:List (Option KS)),i+m=c.cells.length -> Ag=(i:Int) -> Rows c pos i o3 -> Ab (fun n=>A1 c q pos pos.length lost n (.l2 Ag lost o3)) (GZ c pos lost):=by
 intro m
 induction m with
 | zero=>
  intro i Ag o3 hm hx hR;have hm:i=c.cells.length:=by omega
  subst hm hx;have Ae:=W.len;have hr:=R.1;have r1:AH ((c.cells.length:Int)-1):=At.2 ⟨by omega,by omega⟩;have r2:AH ((c.runs.length:Int)-1):=At.2 ⟨by omega,by omega⟩;have hL:Kp c pos lost 0 lost:=⟨⟨hl,fun j s=>⟨.inl,fun h=>h.elim id fun ⟨a,h1,_,_,h2,_⟩=>absurd h2 (by omega)⟩⟩,B5⟩
  by_cases h0:0<c.runs.length
  ·have t1:(((c.runs.length:Nat):Int)-1).toNat=c.runs.length-1:=by omega
   refine Ab.step 1 (g:=fun n=>A1 c q pos pos.length lost n (.l4 ((c.cells.length:Int)-1) lost o3 (B7 [((c.runs.length:Int)-1),c.runs.getD (c.runs.length-1) 0] (B7 [(c.runs.length:Int),0] ([]:KS))))) (fun n=>?_) (iT W R hR c.cells.length 0 _ _ _ (by omega) rfl hL fun x=>?_)
   ·show K8 n (A1 c q pos pos.length lost n) c q pos pos.length lost (c.cells.length:Int) lost o3=_
    unfold K8;rw [yA (by omega),yB,yI (by omega),yF,yC ⟨r2,⟨by omega,by omega⟩,r1⟩,t1]
   ·rw [La,La];constructor
    ·rintro (rfl | rfl | h)
     ·exact ⟨((c.runs.length:Int)-1,c.runs.getD (c.runs.length-1) 0),rfl,.inr ⟨h0,rfl⟩⟩
     ·exact ⟨((c.runs.length:Int),0),rfl,.inl rfl⟩
     ·cases h
    ·rintro ⟨t,rfl,rfl | ⟨_,rfl⟩⟩
     ·exact .inr (.inl rfl)
     ·exact .inl rfl
  ·have ux:c.runs.length=0:=by omega
   refine Ab.step 1 (g:=fun n=>A1 c q pos pos.length lost n (.l4 ((c.cells.length:Int)-1) lost o3 (B7 [(c.runs.length:Int),0] ([]:KS)))) (fun n=>?_) (iT W R hR c.cells.length 0 _ _ _ (by omega) rfl hL fun x=>?_)
   ·show K8 n (A1 c q pos pos.length lost n) c q pos pos.length lost (c.cells.length:Int) lost o3=_
    unfold K8;rw [yA (by omega),yB,yA (by omega),yB,yC r1]
   ·rw [La];constructor
    ·rintro (rfl | h)
     ·exact ⟨((c.runs.length:Int),0),rfl,.inl rfl⟩
     ·cases h
    ·rintro ⟨t,rfl,rfl | ⟨h,rfl⟩⟩
     ·exact .inl rfl
     ·exact absurd h h0
 | succ m ih=>
  intro i Ag o3 hm hx hR;subst hx;have hi:i<c.cells.length:=by omega
  have hs:=hR.isSome i (by omega);have Ae:=hR.len;have t1:((((c.cells.length:Nat):Int)+1).toNat:Nat)=c.cells.length+1:=by omega
  have t2:0+((i:Int).toNat:Nat)=i:=by omega
  refine Ab.step 1 (g:=fun n=>A1 c q pos pos.length lost n (.l8 i i lost o3 i (FG o3 i) [])) (fun n=>?_) (pN W R rfl (fun o3 h=>ih (i+1) _ o3 (by omega) (by omega) h) _ _ _ _ rfl (hR.mid hi))
  show K8 n (A1 c q pos pos.length lost n) c q pos pos.length lost (i:Int) lost o3=_
  unfold K8;simp only [t1,t2];rw [yI (by omega),yF,yC hs,yC ⟨⟨by omega,by omega⟩,by omega,hs⟩];exact qC
theorem vU (W:B0 c k pos) (R:HE c) (hl:lost.length=pos.length) (B5: ∀ j,Bl (lost.getD j 0)):
 ∀ (m j:Nat) (Cg:Int) (o3:List (Option KS)),j+m=c.cells.length+1 -> Cg=(j:Int) -> o3.length=c.cells.length+1 -> (∀ i,i<j -> o3.getD i none=some []) -> Ab (fun n=>A1 c q pos pos.length lost n (.l1 Cg o3)) (GZ c pos lost):=by
 intro m
 induction m with
 | zero=>
  intro j Cg o3 hm hx Ae ho;subst hx;have t1:((((c.cells.length:Nat):Int)+1).toNat:Nat)=c.cells.length+1:=by omega
  have hs:(o3.getD 0 none).isSome=true:=by rw [ho 0 (by omega)];rfl
  have e0:(o3.getD 0 none).getD []= []:=by rw [ho 0 (by omega)];rfl
  have hg: ∀ i,i≠0 -> (o3.set 0 (some (B7 [0,0] ([]:KS)))).getD i none=o3.getD i none:=fun i hi=>Ya (fun e=>hi e.symm)
  have fM:(o3.set 0 (some (B7 [0,0] ([]:KS)))).getD 0 none=some (B7 [0,0] []):=UO (by omega);refine Ab.step 1 (g:=fun n=>A1 c q pos pos.length lost n (.l2 0 lost (o3.set 0 (some (B7 [0,0] ([]:KS)))))) (fun n=>?_) (vD W R hl B5 c.cells.length 0 0 _ (by omega) rfl ⟨by rw [yp];exact Ae,fun i hi=>?_,fun i hi x=>?_,fun i hi CS=>?_⟩)
  ·show O4 n (A1 c q pos pos.length lost n) c q pos pos.length lost (j:Int) o3=_
   unfold O4;simp only [t1,yX];rw [yA (by omega),yB,yC ⟨⟨by omega,by omega⟩,by omega,hs⟩,e0]
  ·by_cases e:i=0
   ·subst e;rw [fM];rfl
   ·rw [hg i e,ho i (by omega)];rfl
  ·obtain rfl:i=0:=by omega
   show x∈((o3.set 0 (some (B7 [0,0] ([]:KS)))).getD 0 none).getD []↔_
   rw [fM]
   show x∈B7 [0,0] []↔_
   rw [La];constructor
   ·rintro (rfl | h)
    ·exact ⟨(0,0),rfl,rfl⟩
    ·cases h
   ·rintro ⟨t,rfl,h⟩;have h:t=(0,0):=h;subst h;exact .inl rfl
  ·show ((o3.set 0 (some (B7 [0,0] ([]:KS)))).getD i none).getD []= []
   rw [hg i (by omega),ho i (by omega)];rfl
 | succ m ih=>
  intro j Cg o3 hm hx Ae ho;subst hx;have tc:=W.len;have t1:((((c.cells.length:Nat):Int)+1).toNat:Nat)=c.cells.length+1:=by omega
  have t2:0+((j:Int).toNat:Nat)=j:=by omega
  refine Ab.step 1 (g:=fun n=>A1 c q pos pos.length lost n (.l1 ((j:Int)+1) (o3.set j (some ([]:KS))))) (fun n=>?_) (ih (j+1) _ _ (by omega) (by omega) (by rw [yp];exact Ae) fun i hi=>?_)
  ·show O4 n (A1 c q pos pos.length lost n) c q pos pos.length lost (j:Int) o3=_
   unfold O4;simp only [t1,t2];rw [yI (by omega),yF,yC ⟨⟨by omega,by omega⟩,by omega,At.2 ⟨by omega,by omega⟩⟩]
  ·by_cases e:i=j
   ·subst e;exact UO (by omega)
   ·rw [Ya (fun h=>e h.symm)];exact ho i (by omega)
def Jt (c:AB):Bool:=(c.cells.length != 0)||(c.runs.length==0)
theorem mH (W:B0 c k pos) (R:HE c) (hl:lost.length=pos.length) (B5: ∀ j,Bl (lost.getD j 0)):
 ∃ l,Ev (fun n=>Mn n c q pos pos.length lost) (Jt c,l)/\ (Jt c=true -> Bn c pos lost c.cells.length (Iw c pos) l):=by
 by_cases h0:c.cells.length=0
 ·have e1:Jt c=((c.runs.length:Int)==0):=by
   unfold Jt;rw [h0];cases h:c.runs.length with
   | zero=>rfl
   | succ m=>rfl
  refine ⟨lost,Ev.now fun n=>?_,fun _=>by rw [h0];exact Bn.zero hl⟩;unfold Mn V0;rw [h0,e1];rfl
 ·have e1:Jt c=true:=by
   unfold Jt;cases h:c.cells.length with
   | zero=>exact absurd h h0
   | succ m=>rfl
  have Ae:=W.len;have t1:((((c.cells.length:Nat):Int)+1).toNat:Nat)=c.cells.length+1:=by omega
  obtain ⟨r,h1,h2⟩:=(vU (q:=q) W R hl B5 (c.cells.length+1) 0 0 (List.replicate (c.cells.length+1) none) (by omega) rfl (by simp) (fun i hi=>absurd hi (yT i))).ev GZ.uniq;obtain ⟨b,l⟩:=r;obtain ⟨h3,h4,h5⟩:=h1;have h3:b=true:=h3;subst h3;refine ⟨l,?_,fun _=>h4⟩;rw [e1];refine h2.eq fun n=>?_
  unfold Mn V0;rw [t1]
  have e2:(((c.cells.length:Nat):Int)==0)=false:=by
   rw [zH];omega
  rw [e2,yB,yC ⟨At.2 ⟨by omega,by omega⟩,rfl,by omega,by omega⟩]
end
end Go.Proofs.YtekkngkphejfcaaGreatDoor
namespace Go.Proofs.YtekkngkphejfcaaGreatDoor
abbrev ze:=@List.take_succ_eq_append_getElem
end Go.Proofs.YtekkngkphejfcaaGreatDoor
namespace Go.Proofs.YtekkngkphejfcaaGreatDoor
open Go.RowKit
section
variable {c:AB} {k:Nat} {pos lost:List Int} {q:AA}
structure GF (c:AB) (q:AA) (pos:List Int):Prop where
 len:c.cells.length=pos.length
 id: ∀ j,j<pos.length -> c.cells.getD j 0=(j:Int)
 g:MU q.nbrs
 gl:q.nbrs.length=pos.length
 l0:0<pos.length
 l1:pos.length<=256
 nz: ∀ j,j<pos.length -> Bl (pos.getD j 0)/\ pos.getD j 0≠0
def pB (c:AB) (pos:List Int):List Bool:=pos.map fun x=>bits .and .i64 x c.set != 0
def cB (c:AB) (pos:List Int):List Bool:=pos.map fun x=>bits .andNot .i64 x c.set==0
theorem Eg:(pB c pos).length=pos.length:=yr _
theorem EG:(cB c pos).length=pos.length:=yr _
theorem Pd {j:Nat} (hj:j<pos.length):(pB c pos).getD j false=(bits .and .i64 (pos.getD j 0) c.set != 0):=by
 unfold pB;rw [u8,yS,xz hj,u8,xz hj];rfl
theorem RG {j:Nat} (hj:j<pos.length):(cB c pos).getD j false=(bits .andNot .i64 (pos.getD j 0) c.set==0):=by
 unfold cB;rw [u8,yS,xz hj,u8,xz hj];rfl
theorem GF.cp (W:GF c q pos) {j:Nat} (hj:j<pos.length) (h:(cB c pos).getD j false=true):(pB c pos).getD j false=true:=by
 rw [RG hj,yk] at h;rw [Pd hj,zl];obtain ⟨h1,h2⟩:=W.nz j hj;obtain ⟨s,hs,hb⟩:=(Et h1).1 h2;have h3:=(Mb (GC .andNot _ _)).1 h s hs;rw [Kx,hb,ye,Bool.not_eq_false'] at h3;exact (Et (GC .and _ _)).2 ⟨s,hs,by rw [IF,hb,h3];rfl⟩
def CB (pos lost:List Int) (D:Nat -> Nat -> Prop) (l:List Int):Prop:=
 (l.length=pos.length/\ ∀ j,Bl (l.getD j 0))/\ ∀ j s,tb (l.getD j 0) s=true↔tb (lost.getD j 0) s=true∨(j<pos.length/\ tb (pos.getD j 0) s=true/\ D j s)
theorem CB.unique {D:Nat -> Nat -> Prop} {l l':List Int} (h:CB pos lost D l) (h':CB pos lost D l'):l=l':=by
 have e:l.length=l'.length:=h.1.1.trans h'.1.1.symm;refine zAN e fun j h1 h2=>?_
 have e1:l.getD j 0=l[j]:=by simp [h1]
 have e2:l'.getD j 0=l'[j]:=by simp [h2]
 rw [←e1,←e2];refine Jk (h.1.2 j) (h'.1.2 j) fun s _=>?_
 rw [zR,h.2,h'.2]
theorem CB.by {D:Nat -> Nat -> Prop} {l:List Int} (W:GF c q pos) (h:CB pos lost D l):Bn c pos lost c.cells.length D l:=by
 refine ⟨h.1.1,fun j s=>?_⟩;have hl:=W.len;rw [h.2];constructor
 ·rintro (h1 | ⟨h1,h2,h3⟩)
  ·exact .inl h1
  ·have e:=W.id j h1;exact .inr ⟨j,by omega,by rw [e];omega,by show tb (pos.getD (c.cells.getD j 0).toNat 0) s=true;rw [e,yH];exact h2,h3⟩
 ·rintro (h1 | ⟨a,h1,h2,h3,h4⟩)
  ·exact .inl h1
  ·have e:=W.id a (by omega);have h3:tb (pos.getD (c.cells.getD a 0).toNat 0) s=true:=h3;rw [e,yH] at h2 h3;subst h2;exact .inr ⟨by omega,h3,h4⟩
theorem CB.step {D D':Nat -> Nat -> Prop} {l l':List Int} (h:CB pos lost D l) (hl:l'.length=pos.length) (B5: ∀ j,Bl (l'.getD j 0)) {E:Nat -> Nat -> Prop} (h1: ∀ j s,tb (l'.getD j 0) s=true↔tb (l.getD j 0) s=true∨(j<pos.length/\ tb (pos.getD j 0) s=true/\ E j s))
 (hD: ∀ j s,j<pos.length -> tb (pos.getD j 0) s=true -> (D' j s↔D j s∨E j s)):CB pos lost D' l':=by
 refine ⟨⟨hl,B5⟩,fun j s=>?_⟩;rw [h1,h.2];constructor
 ·rintro ((h2 | ⟨h2,h3,h4⟩) | ⟨h2,h3,h4⟩)
  ·exact .inl h2
  ·exact .inr ⟨h2,h3,(hD j s h2 h3).2 (.inl h4)⟩
  ·exact .inr ⟨h2,h3,(hD j s h2 h3).2 (.inr h4)⟩
 ·rintro (h2 | ⟨h2,h3,h4⟩)
  ·exact .inl (.inl h2)
  ·rcases (hD j s h2 h3).1 h4 with h5 | h5
   ·exact .inl (.inr ⟨h2,h3,h5⟩)
   ·exact .inr ⟨h2,h3,h5⟩
theorem CB.id' {D D':Nat -> Nat -> Prop} {l:List Int} (h:CB pos lost D l) (hD: ∀ j s,j<pos.length -> tb (pos.getD j 0) s=true -> (D' j s↔D j s)):CB pos lost D' l:=
 h.step (E:=fun _ _=>False) h.1.1 h.1.2 (fun j s=>by simp) fun j s h1 h2=>by rw [hD j s h1 h2,or_false]
theorem CB.lose {D D':Nat -> Nat -> Prop} {l:List Int} (h:CB pos lost D l) {cell ss:Int} (h0:0<=cell) (h1:cell<(pos.length:Int)) (hD: ∀ j s,j<pos.length -> tb (pos.getD j 0) s=true -> (D' j s↔D j s∨((j:Int)=cell/\ tb ss s=true))):
 ∃ l',(∀ n,Cv n cell ss c q pos pos.length l=some l')/\ CB pos lost D' l':=by
 obtain ⟨l',e,h2,h3,h4⟩:=da (ss:=ss) (c:=c) (q:=q) h0 h1 h.1.1 h.1.2;refine ⟨l',e,h.step h2 h3 (E:=fun j s=>(j:Int)=cell/\ tb ss s=true) (fun j s=>?_) hD⟩;rw [h4,ya,yG,yG,yQ];constructor
 ·rintro (h5 | ⟨rfl,h5,h6⟩)
  ·exact .inl h5
  ·exact .inr ⟨by omega,h5,by omega,h6⟩
 ·rintro (h5 | ⟨h5,h6,h7,h8⟩)
  ·exact .inl h5
  ·exact .inr ⟨by omega,h6,h8⟩
theorem CB.only {D D':Nat -> Nat -> Prop} {l:List Int} (h:CB pos lost D l) {cell:Int} (h0:0<=cell) (h1:cell<(pos.length:Int)) (hD: ∀ j s,j<pos.length -> tb (pos.getD j 0) s=true -> (D' j s↔D j s∨((j:Int)=cell/\ tb c.set s=false))):
 ∃ l',(∀ n,Fg n cell c q pos pos.length l=some l')/\ CB pos lost D' l':=by
 obtain ⟨l',e,h2,h3,h4⟩:=WY (c:=c) (q:=q) h0 h1 h.1.1 h.1.2;refine ⟨l',e,h.step h2 h3 (E:=fun j s=>(j:Int)=cell/\ tb c.set s=false) (fun j s=>?_) hD⟩;rw [h4,ya,yG,yG,yQ,yv];constructor
 ·rintro (h5 | ⟨rfl,h5,h6⟩)
  ·exact .inl h5
  ·exact .inr ⟨by omega,h5,by omega,h6⟩
 ·rintro (h5 | ⟨h5,h6,h7,h8⟩)
  ·exact .inl h5
  ·exact .inr ⟨by omega,h6,h8⟩
def FW (l:List Bool) (r:Int):Prop:=(r= -1/\ ∀ j,j<l.length -> l.getD j false=false)∨(0<=r/\ r<(l.length:Int)/\ l.getD r.toNat false=true/\ ∀ j:Nat,(j:Int)<r -> l.getD j false=false)
theorem Tm {l:List Bool} (hl:l.length<=256): ∃ r,Ev (fun n=>To n l true) r/\ FW l r:=by
 have key: ∀ (k i:Nat),i+k=l.length -> (∀ j,j<i -> l.getD j false=false) -> ∃ r,Ev (fun n=>JG l true n (.l1 (i:Int))) r/\ FW l r:=by
  intro k
  induction k with
  | zero=>
   intro i e h;refine ⟨-1,⟨1,fun n hn=>?_⟩,.inl ⟨rfl,fun j hj=>h j (by omega)⟩⟩;obtain ⟨n,rfl⟩: ∃ k,n=k+1:=⟨n-1,by omega⟩
   show P8 n (JG l true n) l true (i:Int)=_
   unfold P8;rw [yA (by omega),yB]
  | succ k ih=>
   intro i e h
   have U: ∀ n,JG l true (n+1) (.l1 (i:Int))=bif l.getD i false then some (i:Int) else JG l true n (.l1 ((i:Int)+1)):=fun n=>by
    show P8 n (JG l true n) l true (i:Int)=_
    unfold P8;rw [yI (by omega),yF,yC ⟨by omega,by omega⟩,yH,yC (At.2 ⟨by omega,by omega⟩)];cases l.getD i false <;> rfl
   cases hi:l.getD i false
   ·obtain ⟨r,h1,h2⟩:=ih (i+1) (by omega) fun j hj=>by
     rcases yR.1 hj with hj | rfl
     ·exact h j hj
     ·exact hi
    refine ⟨r,Ev.step 1 (fun n=>?_) h1,h2⟩;rw [U,hi,yB];rfl
   ·refine ⟨(i:Int),⟨1,fun n hn=>?_⟩,.inr ⟨by omega,by omega,by rw [yH];exact hi,fun j hj=>h j (by omega)⟩⟩;obtain ⟨n,rfl⟩: ∃ k,n=k+1:=⟨n-1,by omega⟩
    show JG l true (n+1) (.l1 (i:Int))=_
    rw [U,hi,yF]
 exact key l.length 0 (by omega) fun j hj=>absurd hj (yT j)
theorem gQ {l l':List Bool} (h:l.length=l'.length) (h2: ∀ j,j<l.length -> l.getD j false=l'.getD j false):l=l':=by
 refine zAN h fun j h3 h4=>?_
 have:=h2 j h3
 rwa [u8,xz h3,u8,xz h4] at this
theorem VA {l:List Bool} {i j:Nat} {b:Bool} (hi:i<l.length):(l.set i b).getD j false=if j=i then b else l.getD j false:=by
 by_cases e:j=i
 ·subst e;rw [yC rfl,u8,zZ hi];rfl
 ·rw [yM e,u8,zT (fun h=>e h.symm),←u8]
def E9 (c:AB) (q:AA) (pos:List Int) (a s:Nat):Prop:=(pB c pos).getD a false=true/\ tb c.set s=true/\ ∃ r:Int,0<=r/\ FW (cB c pos) r/\ ¬ Rc q.nbrs (pB c pos) r a
theorem FW.uniq {l:List Bool} {r r':Int} (h:FW l r) (h':FW l r'):r=r':=by
 rcases h with ⟨rfl,h⟩ | ⟨h0,h1,h2,h3⟩ <;> rcases h' with ⟨rfl,h'⟩ | ⟨ux,UK,KQ,YX⟩
 ·rfl
 ·rw [h r'.toNat (by omega)] at KQ;cases KQ
 ·rw [h' r.toNat (by omega)] at h2;cases h2
 ·rcases Int.lt_trichotomy r r' with h4 | h4 | h4
  ·rw [YX r.toNat (by omega)] at h2;cases h2
  ·exact h4
  ·rw [h3 r'.toNat (by omega)] at KQ;cases KQ
theorem Zp (G:MU q.nbrs) (hB:(pB c pos).length=q.nbrs.length) {r:Int} (DP:0<=r) (hF:FW (cB c pos) r) {j s:Nat}:E9 c q pos j s↔(pB c pos).getD j false=true/\ tb c.set s=true/\ ¬ Rc q.nbrs (pB c pos) r j:=by
 constructor
 ·rintro ⟨h1,h2,r',_,L5,h3⟩;rw [hF.uniq L5];exact ⟨h1,h2,h3⟩
 ·rintro ⟨h1,h2,h3⟩;exact ⟨h1,h2,r,DP,hF,h3⟩
def OJ (c:AB) (q:AA) (pos lost:List Int) (r:Int) (x:List Bool×List Bool×Bool×List Int):Prop:=x.1=pB c pos/\ x.2.1=cB c pos/\ x.2.2.1=decide (0<=r)/\ CB pos lost (E9 c q pos) x.2.2.2
theorem OJ.uniq {r:Int} (x y:List Bool×List Bool×Bool×List Int) (h:OJ c q pos lost r x) (h':OJ c q pos lost r y):x=y:=by
 obtain ⟨x1,x2,x3,x4⟩:=x;obtain ⟨y1,y2,y3,y4⟩:=y;obtain ⟨h1,h2,h3,h4⟩:=h;obtain ⟨UK,KQ,YX,uu⟩:=h';have e4:x4=y4:=h4.unique uu;have e1:x1=y1:=Eq.trans h1 UK.symm;have e2:x2=y2:=Eq.trans h2 KQ.symm;have e3:x3=y3:=Eq.trans h3 YX.symm;rw [e1,e2,e3,e4]
theorem pE {n:Nat} (W:GF c q pos) (hL:CB pos lost (fun _ _=>False) lost) {r:Int} (DP:0<=r) (hF:FW (cB c pos) r) {near:List Int} (hn:near.length<=256) (QP: ∀ v,v∈near↔Rc q.nbrs (pB c pos) r v) (KJ:600<=n):
 ∃ x,D6 c q pos pos.length lost n (.l2 (pB c pos) (pB c pos).length near (near.length:Int) 0 (cB c pos) (pB c pos))=some x/\ OJ c q pos lost r x:=by
 have FS:=W.l1;have EO:=W.gl
 have QM:r<(q.nbrs.length:Int):=by
  rcases hF with ⟨h,_⟩ | ⟨_,h,_⟩
  ·omega
  ·rw [EG] at h;omega
 have Ty: ∀ v∈near,0<=v/\ v<(pos.length:Int):=fun v hv=>by
  have:=((QP v).1 hv).rng W.g.gr DP QM;omega
 have S:=GR (fun n (F9:List Bool) i=>D6 c q pos pos.length lost n (.l2 (pB c pos) (pB c pos).length near (near.length:Int) i (cB c pos) F9)) near.length (pos.length+3)
  (fun i F9=>F9.length=pos.length/\ ∀ j:Nat,F9.getD j false=true↔(pB c pos).getD j false=true/\ (j:Int)∉near.take i) (fun n i F9 E5 hi hI=>?_) (n:=n) (s:=pB c pos) (by omega) ⟨Eg,fun j=>by simp⟩
 ·obtain ⟨n1,F9,G4,_,e1,YE,fP⟩:=S;obtain ⟨n2,rfl⟩: ∃ n2,n1=n2+1:=⟨n1-1,by omega⟩;rw [List.take_length] at fP
  have T:=GR (fun n (o1:List Int) i=>D6 c q pos pos.length lost n (.l3 (pB c pos) (pB c pos).length ((pB c pos).length:Int) i o1 (cB c pos) F9)) pos.length 1
   (fun i o1=>CB pos lost (fun j s=>j<i/\ E9 c q pos j s) o1) (fun n i o1 E5 hi hI=>?_) (n:=n2) (s:=lost) (by omega) (hL.id' fun j s _ _=>⟨fun h=>absurd h.1 (yT j),fun h=>h.elim⟩)
  ·obtain ⟨n3,o1,QR,_,e2,JQ⟩:=T;obtain ⟨n4,rfl⟩: ∃ n4,n3=n4+1:=⟨n3-1,by omega⟩;refine ⟨(pB c pos,cB c pos,true,o1),?_,rfl,rfl,(yI DP).symm,JQ.id' fun j s hj _=>⟨fun h=>⟨hj,h⟩,fun h=>h.2⟩⟩;refine Eq.trans e1 ?_
   show Pm n2 (D6 c q pos pos.length lost n2) c q pos pos.length lost (pB c pos) (pB c pos).length near (near.length:Int) (near.length:Int) (cB c pos) F9=_
   unfold Pm;rw [yA (by omega),yB];refine Eq.trans e2 ?_
   show Pk n4 (D6 c q pos pos.length lost n4) c q pos pos.length lost (pB c pos) (pB c pos).length ((pB c pos).length:Int) (pos.length:Int) o1 (cB c pos) F9=_
   unfold Pk;rw [Eg,yA (by omega),yB,yC EG.symm]
  ·show ∃ s',Pk n (D6 c q pos pos.length lost n) c q pos pos.length lost (pB c pos) (pB c pos).length ((pB c pos).length:Int) (i:Int) o1 (cB c pos) F9=_/\ _
   unfold Pk;simp only [yH,yX];have r1:AH ((i:Int)+1):=At.2 ⟨by omega,by omega⟩;rw [Eg,yI (by omega),yF,yC ⟨⟨by omega,by omega⟩,by omega⟩];have fO:F9.getD i false=true↔(pB c pos).getD i false=true/\ ¬ Rc q.nbrs (pB c pos) r i:=by rw [fP,QP]
   cases hf:F9.getD i false
   ·rw [yB,yC r1];refine ⟨o1,rfl,hI.id' fun j s hj _=>⟨fun h=>⟨?_,h.2⟩,fun h=>⟨by omega,h.2⟩⟩⟩;rcases yR.1 h.1 with h1 | rfl
    ·exact h1
    ·have h2:=(Zp W.g (by rw [Eg];exact EO.symm) DP hF).1 h.2;have:=fO.2 ⟨h2.1,h2.2.2⟩;rw [hf] at this;cases this
   ·obtain ⟨l',e,h2⟩:=hI.lose (c:=c) (q:=q) (D':=fun j s=>j<i+1/\ E9 c q pos j s) (cell:=(i:Int)) (ss:=c.set) (by omega) (by omega) fun j s hj _=>by
     constructor
     ·rintro ⟨h1,h2⟩;rcases yR.1 h1 with h1 | rfl
      ·exact .inl ⟨h1,h2⟩
      ·exact .inr ⟨rfl,h2.2.1⟩
     ·rintro (⟨h1,h2⟩ | ⟨h1,h2⟩)
      ·exact ⟨by omega,h2⟩
      ·obtain rfl:j=i:=by omega
       have h3:=fO.1 hf;exact ⟨by omega,(Zp W.g (by rw [Eg];exact EO.symm) DP hF).2 ⟨h3.1,h2,h3.2⟩⟩
    rw [yF,e,yD,yC r1];exact ⟨l',rfl,h2⟩
 ·obtain ⟨hl,hf⟩:=hI;have hx:near.getD i 0∈near:=by rw [u8,xz hi];exact yZ hi
  have Fm:=Ty _ hx
  show ∃ s',Pm n (D6 c q pos pos.length lost n) c q pos pos.length lost (pB c pos) (pB c pos).length near (near.length:Int) (i:Int) (cB c pos) F9=_/\ _
  unfold Pm;simp only [yH,yX];rw [Eg,yI (by omega),yF,yC ⟨⟨by omega,by omega⟩,Fm,by omega,At.2 ⟨by omega,by omega⟩⟩];refine ⟨_,rfl,by rw [yp];exact hl,fun j=>?_⟩
  have e3:near.take (i+1)=near.take i++[near.getD i 0]:=by
   rw [ze hi,u8,xz hi];rfl
  rw [VA (by omega),e3,yb,yV]
  by_cases e:j=(near.getD i 0).toNat
  ·rw [yC e];exact ⟨fun h=>(by cases h),fun h=>absurd (Or.inr (by omega)) h.2⟩
  ·rw [yM e,hf];exact ⟨fun h=>⟨h.1,fun h2=>h2.elim h.2 fun h3=>e (by omega)⟩,fun h=>⟨h.1,fun h2=>h.2 (.inl h2)⟩⟩
theorem dD (W:GF c q pos) (hL:CB pos lost (fun _ _=>False) lost) {r:Int} (hF:FW (cB c pos) r):
 ∃ l,Ev (fun n=>LX n c q pos pos.length lost) (pB c pos,cB c pos,decide (0<=r),l)/\ CB pos lost (E9 c q pos) l:=by
 have FS:=W.l1;have EO:=W.gl;have Ae:=W.len;have L:(1000000000000:Nat)=BT:=rfl
 suffices H:Ab (fun n=>LX n c q pos pos.length lost) (OJ c q pos lost r) by
  obtain ⟨x,h1,h2⟩:=H.ev OJ.uniq;obtain ⟨x1,x2,x3,x4⟩:=x;obtain ⟨h3,h4,h5,h6⟩:=h1;have h3:x1=pB c pos:=h3;have h4:x2=cB c pos:=h4;have h5:x3=decide (0<=r):=h5;subst h3 h4 h5;exact ⟨x4,h2,h6⟩
 have first: ∀ n,D6 c q pos pos.length lost (n+c.cells.length) (.l1 0 (List.replicate pos.length false) (List.replicate pos.length false))=D6 c q pos pos.length lost n (.l1 (c.cells.length:Int) (pB c pos) (cB c pos)):=fun n=>by
  have z: ∀ j:Nat,(List.replicate pos.length false).getD j false=false:=fun j=>by
   rw [u8,zL];split <;> rfl
  obtain ⟨s',e,h1,h2,h3,h4⟩:=TO (fun n (s:List Bool×List Bool) i=>D6 c q pos pos.length lost n (.l1 i s.1 s.2)) c.cells.length 0
   (fun i s=>s.1.length=pos.length/\ s.2.length=pos.length/\ (∀ j,s.1.getD j false=if j<i then (pB c pos).getD j false else false)/\ (∀ j,s.2.getD j false=if j<i then (cB c pos).getD j false else false))
   (fun n i s _ hi hI=>by
    obtain ⟨o2,o3⟩:=s;obtain ⟨h1,h2,h3,h4⟩:=hI;have h1:o2.length=pos.length:=h1;have h2:o3.length=pos.length:=h2;have hid:=W.id i (by omega)
    show ∃ s',Pn n (D6 c q pos pos.length lost n) c q pos pos.length lost (i:Int) o2 o3=_/\ _
    unfold Pn;simp only [yH,yX,hid];rw [yI (by omega),yF,yC ⟨⟨by omega,by omega⟩,⟨by omega,by omega⟩,by omega,by omega,At.2 ⟨by omega,by omega⟩⟩];refine ⟨(_,_),rfl,by rw [yp];exact h1,by rw [yp];exact h2,fun j=>?_,fun j=>?_⟩
    ·show (o2.set i _).getD j false=_
     rw [VA (by omega)]
     by_cases e:j=i
     ·subst e;rw [yC rfl,yC (by omega),Pd (by omega)]
     ·have h3:o2.getD j false=_:=h3 j;rw [yM e,h3]
      by_cases e2:j<i
      ·rw [yC e2,yC (by omega)]
      ·rw [yM e2,yM (by omega)]
    ·show (o3.set i _).getD j false=_
     rw [VA (by omega)]
     by_cases e:j=i
     ·subst e;rw [yC rfl,yC (by omega),RG (by omega)]
     ·have h4:o3.getD j false=_:=h4 j;rw [yM e,h4]
      by_cases e2:j<i
      ·rw [yC e2,yC (by omega)]
      ·rw [yM e2,yM (by omega)])
   c.cells.length 0 n (List.replicate pos.length false,List.replicate pos.length false) (by omega) (by omega) ⟨yY,yY,fun j=>by rw [yM (by omega)];exact z j,fun j=>by rw [yM (by omega)];exact z j⟩
  obtain ⟨o2,o3⟩:=s';have h1:o2.length=pos.length:=h1;have h2:o3.length=pos.length:=h2
  have e2:o2=pB c pos:=gQ (by rw [h1,Eg]) fun j hj=>by
   have h3:o2.getD j false=_:=h3 j;rw [h3,yC (by omega)]
  have e3:o3=cB c pos:=gQ (by rw [h2,EG]) fun j hj=>by
   have h4:o3.getD j false=_:=h4 j;rw [h4,yC (by omega)]
  rw [←e2,←e3];exact e
 have start: ∀ n,LX n c q pos pos.length lost=D6 c q pos pos.length lost n (.l1 0 (List.replicate pos.length false) (List.replicate pos.length false)):=fun n=>by
  unfold LX dF;rw [yC ⟨rfl,by omega,by omega⟩]
 refine Ab.eq (Ab.step (c.cells.length+1) (g:=fun n=>(To n (cB c pos) true).bind fun y1=>bif (decide (y1<0)) then (if pos.length=(pB c pos).length then some (pB c pos,cB c pos,false,lost) else none) else (if pos.length=(pB c pos).length then (MD n (pB c pos)).bind fun y2=>(N5 n q.nbrs (pB c pos) y1).bind fun y3=>D6 c q pos pos.length lost n (.l2 (pB c pos) y2.length y3.1 (y3.1.length:Int) 0 (cB c pos) y2) else none)) (fun n=>?_) ?_) start
 ·rw [show n+(c.cells.length+1)=n+1+c.cells.length by omega,first]
  show Pn n (D6 c q pos pos.length lost n) c q pos pos.length lost (c.cells.length:Int) (pB c pos) (cB c pos)=_
  unfold Pn;rw [yA (by omega),yB,yC EG.symm]
 ·obtain ⟨r',h1,h2⟩:=Tm (l:=cB c pos) (by rw [EG];exact FS);obtain rfl:=hF.uniq h2;refine Ab.bind h1 ?_
  by_cases DP:0<=r
  ·have BP: ∀ n,MD n (pB c pos)=some (pB c pos):=fun n=>by
    have h0:=W.l0;have h3:=Eg (c:=c) (pos:=pos);unfold MD Yy;rw [yC ⟨by omega,trivial,⟨rfl,rfl⟩,by rw [←L];simp only [za];omega⟩,yC (by simp)];rfl
   obtain ⟨QM,rt⟩:r<(pos.length:Int)/\ (cB c pos).getD r.toNat false=true:=by
    rcases hF with ⟨h,_⟩ | ⟨_,h,h',_⟩
    ·omega
    ·rw [EG] at h;exact ⟨h,h'⟩
   have r7:=W.cp (by omega) rt;refine Ab.eq (Ab.bindU (wh W.g (by rw [Eg];exact EO.symm) DP (by omega) r7) (b:=fun n y3=>D6 c q pos pos.length lost n (.l2 (pB c pos) (pB c pos).length y3.1 (y3.1.length:Int) 0 (cB c pos) (pB c pos))) ⟨600,fun n hn x hx=>pE W hL DP hF hx.2.1 hx.2.2 hn⟩) fun n=>?_
   rw [yA (by omega),yB,yC Eg.symm,BP,yD]
  ·refine Ev.p (r:=(pB c pos,cB c pos,false,lost)) (Ev.now fun n=>?_) ⟨rfl,rfl,(yA DP).symm,hL.id' fun j s _ _=>⟨fun h=>?_,fun h=>h.elim⟩⟩
   ·rw [yI (by omega),yF,yC Eg.symm]
   ·obtain ⟨_,_,r',h3,h4,_⟩:=h;rw [hF.uniq h4] at DP;exact DP h3
def Hx (c:AB) (q:AA) (pos:List Int) (a s:Nat):Prop:=E9 c q pos a s∨((pB c pos).getD a false=true/\ (cB c pos).getD a false=false/\ Sp q.nbrs (pB c pos) (cB c pos) (a:Int)/\ tb c.set s=false)
theorem wa (W:GF c q pos) (hL:CB pos lost (fun _ _=>False) lost): ∃ l,Ev (fun n=>Uw n c q pos pos.length lost) (true,l)/\ CB pos lost (Hx c q pos) l:=by
 have FS:=W.l1;have EO:=W.gl;obtain ⟨r,_,hF⟩:=Tm (l:=cB c pos) (by rw [EG];exact FS);obtain ⟨l0,h1,h2⟩:=dD W hL hF
 suffices H:Ab (fun n=>Kg c q pos pos.length lost n (.l1 (pB c pos) (cB c pos) (decide (0<=r)) ((pB c pos).length:Int) 0 l0)) (fun x=>x.1=true/\ CB pos lost (Hx c q pos) x.2) by
  obtain ⟨x,⟨h3,h4⟩,h5⟩:=(Ab.bind h1 (b:=fun n y1=>Kg c q pos pos.length lost n (.l1 y1.1 y1.2.1 y1.2.2.1 (y1.1.length:Int) 0 y1.2.2.2)) H).ev fun x y hx hy=>by
   obtain ⟨x1,x2⟩:=x;obtain ⟨y1,y2⟩:=y;have e1:x1=true:=hx.1;have e2:y1=true:=hy.1;have e3:x2=y2:=hx.2.unique hy.2;rw [e1,e2,e3]
  obtain ⟨x1,x2⟩:=x;have h3:x1=true:=h3;subst h3;exact ⟨x2,h5,h4⟩
 obtain ⟨N,hN⟩:=Ab.range (F:=fun (i:Nat) n=>if (pB c pos).getD i false=true then K1 n q.nbrs (pB c pos) (cB c pos) i else some (false,0)) (A:=fun i x=>(pB c pos).getD i false=true -> x.2=0/\ (x.1=true↔Sp q.nbrs (pB c pos) (cB c pos) i)) pos.length fun i hi=>by
  by_cases h:(pB c pos).getD i false=true
  ·refine ((kK W.g (by rw [Eg];exact EO.symm) (by rw [EG];exact EO.symm) (a:=i) (by omega) h).mono fun x hx _=>hx).eq fun n=>?_
   rw [yC h]
  ·exact Ev.p (r:=(false,0)) (Ev.now fun n=>by rw [yM h]) fun h'=>absurd h' h
 refine ⟨N+pos.length+1,fun n hn=>?_⟩
 have T:=GR (fun n (o1:List Int) i=>Kg c q pos pos.length lost n (.l1 (pB c pos) (cB c pos) (decide (0<=r)) ((pB c pos).length:Int) i o1)) pos.length (N+1)
  (fun i o1=>CB pos lost (fun a s=>E9 c q pos a s∨(a<i/\ Hx c q pos a s)) o1) (fun n i o1 E5 hi hI=>?_) (n:=n) (s:=l0) (by omega) (h2.id' fun j s _ _=>⟨fun h=>h.elim id fun h=>absurd h.1 (yT j),.inl⟩)
 ·obtain ⟨n3,o1,QR,_,e2,JQ⟩:=T;obtain ⟨n4,rfl⟩: ∃ n4,n3=n4+1:=⟨n3-1,by omega⟩;refine ⟨(true,o1),Eq.trans e2 ?_,rfl,JQ.id' fun j s hj _=>⟨fun h=>.inr ⟨hj,h⟩,fun h=>h.elim .inl fun h=>h.2⟩⟩
  show RD n4 (Kg c q pos pos.length lost n4) c q pos pos.length lost (pB c pos) (cB c pos) (decide (0<=r)) ((pB c pos).length:Int) (pos.length:Int) o1=_
  unfold RD;rw [Eg,yA (p:=((pos.length:Nat):Int)<((pos.length:Nat):Int)) (by omega),yB]
 ·show ∃ s',RD n (Kg c q pos pos.length lost n) c q pos pos.length lost (pB c pos) (cB c pos) (decide (0<=r)) ((pB c pos).length:Int) (i:Int) o1=_/\ _
  unfold RD;simp only [yH];have r1:AH ((i:Int)+1):=At.2 ⟨by omega,by omega⟩;have lp:(pB c pos).length=pos.length:=Eg;have lc:(cB c pos).length=pos.length:=EG;rw [lp,lc,yI (p:=(i:Int)<((pos.length:Nat):Int)) (by omega),yF]
  have skip:(∀ s,¬ ((pB c pos).getD i false=true/\ (cB c pos).getD i false=false/\ Sp q.nbrs (pB c pos) (cB c pos) (i:Int)/\ tb c.set s=false)) -> CB pos lost (fun a s=>E9 c q pos a s∨(a<i+1/\ Hx c q pos a s)) o1:=fun JJ=>hI.id' fun j s hj _=>by
   constructor
   ·rintro (h | ⟨h,h3⟩)
    ·exact .inl h
    ·rcases yR.1 h with h | rfl
     ·exact .inr ⟨h,h3⟩
     ·exact h3.elim .inl fun h4=>absurd h4 (JJ s)
   ·rintro (h | ⟨h,h3⟩)
    ·exact .inl h
    ·exact .inr ⟨by omega,h3⟩
  by_cases DP:0<=r
  ·rw [yI DP,yq,yB,yC ⟨by omega,by omega⟩];cases hp:(pB c pos).getD i false
   ·rw [zC,yF,yC r1];exact ⟨o1,rfl,skip fun s h=>by rw [hp] at h;cases h.1⟩
   ·rw [yq,yB,yC ⟨by omega,by omega⟩];cases hc:(cB c pos).getD i false
    ·obtain ⟨x,e1,hx⟩:=hN n (by omega) i hi;have e1:(if (pB c pos).getD i false=true then K1 n q.nbrs (pB c pos) (cB c pos) i else some (false,0))=some x:=e1;rw [yC hp] at e1;obtain ⟨_,hx⟩:=hx hp;rw [yB,e1,yD];cases hb:x.1
     ·rw [yB,yC r1];exact ⟨o1,rfl,skip fun s h=>by rw [hx.2 h.2.2.1] at hb;cases hb⟩
     ·obtain ⟨l',e,h3⟩:=hI.only (c:=c) (q:=q) (D':=fun a s=>E9 c q pos a s∨(a<i+1/\ Hx c q pos a s)) (cell:=(i:Int)) (by omega) (by omega) fun j s hj _=>by
       constructor
       ·rintro (h | ⟨h,h3⟩)
        ·exact .inl (.inl h)
        ·rcases yR.1 h with h | rfl
         ·exact .inl (.inr ⟨h,h3⟩)
         ·exact h3.elim (fun h=>.inl (.inl h)) fun h4=>.inr ⟨rfl,h4.2.2.2⟩
       ·rintro ((h | ⟨h,h3⟩) | ⟨h,h3⟩)
        ·exact .inl h
        ·exact .inr ⟨by omega,h3⟩
        ·obtain rfl:j=i:=by omega
         exact .inr ⟨by omega,.inr ⟨hp,hc,hx.1 hb,h3⟩⟩
      rw [yF,e,yD,yC r1];exact ⟨l',rfl,h3⟩
    ·rw [yF,yC r1];exact ⟨o1,rfl,skip fun s h=>by rw [hc] at h;cases h.2.1⟩
  ·rw [yA DP,zC,yF,yC r1];refine ⟨o1,rfl,skip fun s h=>?_⟩;obtain ⟨hp,_,⟨u,v,_,_,h3,_,h4,_⟩,_⟩:=h;rcases hF with ⟨_,hF⟩ | ⟨h5,_⟩
   ·have:=h4.rng W.g.gr (by omega) (by omega);rw [hF u.toNat (by rw [EG];omega)] at h3;cases h3
   ·exact DP h5
def C7 (g:List (List Int)) (S:List Bool) (v:Int):Nat:=(nb g v).countP fun x=>S.getD x.toNat false
def Pw (c:AB) (q:AA) (pos:List Int):Prop:=∀ v,v<pos.length -> (cB c pos).getD v false=true -> 2<=C7 q.nbrs (pB c pos) v/\ C7 q.nbrs (cB c pos) v<=2
def dL (c:AB) (q:AA) (pos:List Int) (v a s:Nat):Prop:=(cB c pos).getD v false=true/\ (a:Int)∈nb q.nbrs v/\ (pB c pos).getD a false=true/\ ((C7 q.nbrs (pB c pos) v=2/\ tb c.set s=false)∨(C7 q.nbrs (cB c pos) v=2/\ (cB c pos).getD a false=false/\ tb c.set s=true))
def NA (c:AB) (q:AA) (pos:List Int) (a s:Nat):Prop:=E9 c q pos a s∨∃ v,v<pos.length/\ dL c q pos v a s
section
variable {P C:List Bool} {o1:List Int} {row:List Int} {x20 x21:Int}
def IY (P:List Bool) (o2:List Int) (v:Int):List Int:=bif P.getD v.toNat false then o2++[v] else o2
def I9 (C:List Bool) (x:Int) (v:Int):Int:=bif C.getD v.toNat false then x+1 else x
theorem cz: ∀ (l o2:List Int),l.foldl (IY P) o2=o2++l.filter fun x=>P.getD x.toNat false
 | [],o2=>by simp
 | v::l,o2=>by
  rw [zk,cz l];unfold IY;cases h:P.getD v.toNat false
  ·rw [yB,List.filter_cons_of_neg (by rw [h];decide)]
  ·rw [yF,List.filter_cons_of_pos (p:=fun x=>P.getD (Int.toNat x) false) h,zAX];rfl
theorem dR: ∀ (l:List Int) (x:Int),l.foldl (I9 C) x=x+(l.countP fun x=>C.getD x.toNat false:Nat)
 | [],x=>by simp
 | v::l,x=>by
  rw [zk,dR l];unfold I9;cases h:C.getD v.toNat false
  ·rw [yB,List.countP_cons_of_neg (by rw [h];decide)]
  ·rw [yF,List.countP_cons_of_pos (p:=fun x=>C.getD (Int.toNat x) false) h];omega
def K0 (P C:List Bool) (x20 x21:Int) (row o1 o2:List Int) (x8 j:Int):J9:=match o2 with
 | []=>.l2 P C x8 x20 x21 row (row.length:Int) j o1
 | a::l=>.l3 P C (a::l).length x8 x20 x21 row (row.length:Int) j o1 (a::l)
theorem ar {o2:List Int} {x8 j:Int} (h:o2≠[]):K0 P C x20 x21 row o1 o2 x8 j= .l3 P C o2.length x8 x20 x21 row (row.length:Int) j o1 o2:=by
 cases o2 with
 | nil=>exact absurd rfl h
 | cons a l=>rfl
theorem pK {n j:Nat} {x8:Int} {o2:List Int} (hP:P.length=pos.length) (hC:C.length=pos.length) (hr: ∀ u∈row,0<=u/\ u<(pos.length:Int)) (hl:row.length<=256) (hj:j<row.length) (ho:o2.length<=256) (h8:0<=x8/\ x8<=256):
 CD c q pos pos.length lost (n+1) (K0 P C x20 x21 row o1 o2 x8 j)=CD c q pos pos.length lost n (K0 P C x20 x21 row o1 (IY P o2 (row.getD j 0)) (I9 C x8 (row.getD j 0)) ((j:Int)+1)):=by
 have L:(1000000000000:Nat)=BT:=rfl;have hx:row.getD j 0∈row:=by rw [u8,xz hj];exact yZ hj
 have Fm:=hr _ hx;have r1:AH ((j:Int)+1):=At.2 ⟨by omega,by omega⟩;have r8:AH (x8+1):=At.2 ⟨by omega,by omega⟩;cases o2 with
 | nil=>
  show Pu n (CD c q pos pos.length lost n) c q pos pos.length lost P C x8 x20 x21 row (row.length:Int) (j:Int) o1=_
  unfold Pu IY I9;simp only [yH];rw [yI (by omega),yF,yC ⟨⟨by omega,by omega⟩,by omega,by omega⟩];cases hp:P.getD (row.getD j 0).toNat false <;> cases hc:C.getD (row.getD j 0).toNat false
  ·rw [yB,yB,yB,yC ⟨by omega,by omega⟩,yB,yC r1];rfl
  ·rw [yB,yB,yF,yC ⟨by omega,by omega⟩,yF,yC ⟨r8,r1⟩];rfl
  ·rw [yF,yF,yB,yC ⟨⟨⟨trivial,rfl⟩,by rw [yz];omega,by rw [yz,←L];omega⟩,by omega,by omega⟩,yB,yC r1];rfl
  ·rw [yF,yF,yF,yC ⟨⟨⟨trivial,rfl⟩,by rw [yz];omega,by rw [yz,←L];omega⟩,by omega,by omega⟩,yF,yC ⟨r8,r1⟩];rfl
 | cons a l=>
  have AV:IY P (a::l) (row.getD j 0)≠[]:=by unfold IY;cases P.getD (row.getD j 0).toNat false <;> simp
  rw [ar AV]
  show Lc n (CD c q pos pos.length lost n) c q pos pos.length lost P C (a::l).length x8 x20 x21 row (row.length:Int) (j:Int) o1 (a::l)=_
  unfold Lc IY I9;simp only [yH];rw [yI (by omega),yF,yC ⟨⟨by omega,by omega⟩,by omega,by omega⟩];cases hp:P.getD (row.getD j 0).toNat false <;> cases hc:C.getD (row.getD j 0).toNat false
  ·rw [yB,yB,yB,yC ⟨by omega,by omega⟩,yB,yC r1]
  ·rw [yB,yB,yF,yC ⟨by omega,by omega⟩,yF,yC ⟨r8,r1⟩]
  ·rw [yF,yF,yB,yC ⟨⟨⟨trivial,rfl⟩,⟨trivial,trivial⟩,by rw [yz,←L];omega⟩,by omega,by omega⟩,yB,yC r1,yu]
  ·rw [yF,yF,yF,yC ⟨⟨⟨trivial,rfl⟩,⟨trivial,trivial⟩,by rw [yz,←L];omega⟩,by omega,by omega⟩,yF,yC ⟨r8,r1⟩,yu]
theorem dK (hP:P.length=pos.length) (hC:C.length=pos.length) (hr: ∀ u∈row,0<=u/\ u<(pos.length:Int)) (hl:row.length<=256): ∀ (k j n:Nat) (o2:List Int) (x8:Int),j+k=row.length -> o2.length<=j -> 0<=x8/\ x8<=(j:Int) ->
 CD c q pos pos.length lost (n+k) (K0 P C x20 x21 row o1 o2 x8 j)=CD c q pos pos.length lost n (K0 P C x20 x21 row o1 ((row.drop j).foldl (IY P) o2) ((row.drop j).foldl (I9 C) x8) (row.length:Int))
 | 0,j,n,o2,x8,e,_,_=>by
  have e:j=row.length:=by omega
  subst e;rw [List.drop_length];rfl
 | k+1,j,n,o2,x8,e,h2,h8=>by
  have hj:j<row.length:=by omega
  have e2:row.drop j=row.getD j 0::row.drop (j+1):=by
   rw [yc hj,u8,xz hj];rfl
  rw [←zB,pK hP hC hr hl hj (by omega) (by omega),e2,zk,zk]
  have h3:(IY P o2 (row.getD j 0)).length<=j+1:=by
   unfold IY;cases P.getD (row.getD j 0).toNat false
   ·rw [yB];omega
   ·rw [yF,yu,yz];omega
  have h4:0<=I9 C x8 (row.getD j 0)/\ I9 C x8 (row.getD j 0)<=((j+1:Nat):Int):=by
   unfold I9;cases C.getD (row.getD j 0).toNat false
   ·rw [yB];omega
   ·rw [yF];omega
  exact dK hP hC hr hl k (j+1) n _ _ (by omega) h3 h4
theorem ik {D:Nat -> Nat -> Prop} {near:List Int} {x8:Int} {v:Nat} {n:Nat} (W:GF c q pos) (hD:CB pos lost D o1) (T6: ∀ u∈near,0<=u/\ u<(pos.length:Int)) (FP:near.length<=256) (hv:v<pos.length):
 ∃ l',CD c q pos pos.length lost (n+1+near.length) (.l4 (pB c pos) (cB c pos) near.length x8 x20 (v:Int) near.length (near.length:Int) 0 o1 near)=CD c q pos pos.length lost n (.l1 (pB c pos) (cB c pos) x20 ((v:Int)+1) l')/\
  CB pos lost (fun a s=>D a s∨((a:Int)∈near/\ ((near.length=2/\ tb c.set s=false)∨(x8=2/\ (cB c pos).getD a false=false/\ tb c.set s=true)))) l':=by
 have FS:=W.l1;have lc:(cB c pos).length=pos.length:=EG
 obtain ⟨l',e,h⟩:=TO (fun n (s:List Int) i=>CD c q pos pos.length lost n (.l4 (pB c pos) (cB c pos) near.length x8 x20 (v:Int) near.length (near.length:Int) i s near)) near.length 0
  (fun i s=>CB pos lost (fun a t=>D a t∨((a:Int)∈near.take i/\ ((near.length=2/\ tb c.set t=false)∨(x8=2/\ (cB c pos).getD a false=false/\ tb c.set t=true)))) s)
  (fun n i s _ hi hI=>by
   have hx:near.getD i 0∈near:=by rw [u8,xz hi];exact yZ hi
   have Fm:=T6 _ hx
   have e3:near.take (i+1)=near.take i++[near.getD i 0]:=by
    rw [ze hi,u8,xz hi];rfl
   have r1:AH ((i:Int)+1):=At.2 ⟨by omega,by omega⟩;have mem: ∀ a:Nat,(a:Int)∈near.take (i+1)↔(a:Int)∈near.take i∨(a:Int)=near.getD i 0:=fun a=>by rw [e3,yb,yV]
   obtain ⟨l2,f2,YU⟩:=hI.only (c:=c) (q:=q) (cell:=near.getD i 0) Fm.1 Fm.2 (D':=fun a t=>(D a t∨((a:Int)∈near.take i/\ ((near.length=2/\ tb c.set t=false)∨(x8=2/\ (cB c pos).getD a false=false/\ tb c.set t=true))))∨((a:Int)=near.getD i 0/\ tb c.set t=false)) fun j s _ _=>Iff.rfl
   obtain ⟨l3,f3,uk⟩:=YU.lose (c:=c) (q:=q) (cell:=near.getD i 0) (ss:=c.set) Fm.1 Fm.2 (D':=fun a t=>((D a t∨((a:Int)∈near.take i/\ ((near.length=2/\ tb c.set t=false)∨(x8=2/\ (cB c pos).getD a false=false/\ tb c.set t=true))))∨((a:Int)=near.getD i 0/\ tb c.set t=false))∨((a:Int)=near.getD i 0/\ tb c.set t=true)) fun j s _ _=>Iff.rfl
   obtain ⟨l4,f4,UJ⟩:=hI.lose (c:=c) (q:=q) (cell:=near.getD i 0) (ss:=c.set) Fm.1 Fm.2 (D':=fun a t=>(D a t∨((a:Int)∈near.take i/\ ((near.length=2/\ tb c.set t=false)∨(x8=2/\ (cB c pos).getD a false=false/\ tb c.set t=true))))∨((a:Int)=near.getD i 0/\ tb c.set t=true)) fun j s _ _=>Iff.rfl
   show ∃ s',Ps n (CD c q pos pos.length lost n) c q pos pos.length lost (pB c pos) (cB c pos) near.length x8 x20 (v:Int) near.length (near.length:Int) (i:Int) s near=_/\ _
   unfold Ps;simp only [yH,yX];rw [yI (by omega),yF,yC ⟨⟨by omega,by omega⟩,hi⟩];have Ai: ∀ a:Nat,(a:Int)=near.getD i 0 -> (near.getD i 0).toNat=a:=fun a h=>by omega
   by_cases h2:near.length=2
   ·have b2:(((near.length:Nat):Int)==2)=true:=by rw [h2];rfl
    rw [b2,yF,f2,yD]
    by_cases h8:x8=2
    ·have b8:(x8==2)=true:=by rw [h8];rfl
     rw [b8,yF,yC ⟨by omega,by omega⟩];cases hc:(cB c pos).getD (near.getD i 0).toNat false
     ·rw [zC,yF,f3,yD,yC r1];refine ⟨l3,rfl,uk.id' fun a t _ _=>?_⟩;rw [mem];constructor
      ·rintro (h | ⟨h | h,h3 | ⟨h3,h4,h5⟩⟩)
       ·exact .inl (.inl (.inl h))
       ·exact .inl (.inl (.inr ⟨h,.inl h3⟩))
       ·exact .inl (.inl (.inr ⟨h,.inr ⟨h3,h4,h5⟩⟩))
       ·exact .inl (.inr ⟨h,h3.2⟩)
       ·exact .inr ⟨h,h5⟩
      ·rintro (((h | ⟨h,h3⟩) | ⟨h,h3⟩) | ⟨h,h3⟩)
       ·exact .inl h
       ·exact .inr ⟨.inl h,h3⟩
       ·exact .inr ⟨.inr h,.inl ⟨h2,h3⟩⟩
       ·exact .inr ⟨.inr h,.inr ⟨h8,by rw [←Ai a h];exact hc,h3⟩⟩
     ·rw [yq,yB,yC r1];refine ⟨l2,rfl,YU.id' fun a t _ _=>?_⟩;rw [mem];constructor
      ·rintro (h | ⟨h | h,h3 | ⟨h3,h4,h5⟩⟩)
       ·exact .inl (.inl h)
       ·exact .inl (.inr ⟨h,.inl h3⟩)
       ·exact .inl (.inr ⟨h,.inr ⟨h3,h4,h5⟩⟩)
       ·exact .inr ⟨h,h3.2⟩
       ·rw [←Ai a h,hc] at h4;cases h4
      ·rintro ((h | ⟨h,h3⟩) | ⟨h,h3⟩)
       ·exact .inl h
       ·exact .inr ⟨.inl h,h3⟩
       ·exact .inr ⟨.inr h,.inl ⟨h2,h3⟩⟩
    ·have b8:(x8==2)=false:=zH.2 h8;rw [b8,yB,yC r1];refine ⟨l2,rfl,YU.id' fun a t _ _=>?_⟩;rw [mem];constructor
     ·rintro (h | ⟨h | h,h3 | ⟨h3,h4,h5⟩⟩)
      ·exact .inl (.inl h)
      ·exact .inl (.inr ⟨h,.inl h3⟩)
      ·exact .inl (.inr ⟨h,.inr ⟨h3,h4,h5⟩⟩)
      ·exact .inr ⟨h,h3.2⟩
      ·exact absurd h3 h8
     ·rintro ((h | ⟨h,h3⟩) | ⟨h,h3⟩)
      ·exact .inl h
      ·exact .inr ⟨.inl h,h3⟩
      ·exact .inr ⟨.inr h,.inl ⟨h2,h3⟩⟩
   ·have b2:(((near.length:Nat):Int)==2)=false:=zH.2 (by omega);rw [b2,yB]
    by_cases h8:x8=2
    ·have b8:(x8==2)=true:=by rw [h8];rfl
     rw [b8,yF,yC ⟨by omega,by omega⟩];cases hc:(cB c pos).getD (near.getD i 0).toNat false
     ·rw [zC,yF,f4,yD,yC r1];refine ⟨l4,rfl,UJ.id' fun a t _ _=>?_⟩;rw [mem];constructor
      ·rintro (h | ⟨h | h,h3 | ⟨h3,h4,h5⟩⟩)
       ·exact .inl (.inl h)
       ·exact .inl (.inr ⟨h,.inl h3⟩)
       ·exact .inl (.inr ⟨h,.inr ⟨h3,h4,h5⟩⟩)
       ·exact absurd h3.1 h2
       ·exact .inr ⟨h,h5⟩
      ·rintro ((h | ⟨h,h3⟩) | ⟨h,h3⟩)
       ·exact .inl h
       ·exact .inr ⟨.inl h,h3⟩
       ·exact .inr ⟨.inr h,.inr ⟨h8,by rw [←Ai a h];exact hc,h3⟩⟩
     ·rw [yq,yB,yC r1];refine ⟨s,rfl,hI.id' fun a t _ _=>?_⟩;rw [mem];constructor
      ·rintro (h | ⟨h | h,h3 | ⟨h3,h4,h5⟩⟩)
       ·exact .inl h
       ·exact .inr ⟨h,.inl h3⟩
       ·exact .inr ⟨h,.inr ⟨h3,h4,h5⟩⟩
       ·exact absurd h3.1 h2
       ·rw [←Ai a h,hc] at h4;cases h4
      ·rintro (h | ⟨h,h3⟩)
       ·exact .inl h
       ·exact .inr ⟨.inl h,h3⟩
    ·have b8:(x8==2)=false:=zH.2 h8;rw [b8,yB,yC r1];refine ⟨s,rfl,hI.id' fun a t _ _=>?_⟩;rw [mem];constructor
     ·rintro (h | ⟨h | h,h3 | ⟨h3,h4,h5⟩⟩)
      ·exact .inl h
      ·exact .inr ⟨h,.inl h3⟩
      ·exact .inr ⟨h,.inr ⟨h3,h4,h5⟩⟩
      ·exact absurd h3.1 h2
      ·exact absurd h3 h8
     ·rintro (h | ⟨h,h3⟩)
      ·exact .inl h
      ·exact .inr ⟨.inl h,h3⟩)
  near.length 0 (n+1) o1 (by omega) (by omega) (hD.id' fun a t _ _=>by simp)
 refine ⟨l',Eq.trans e ?_,h.id' fun a t _ _=>by rw [List.take_length]⟩
 show Ps n (CD c q pos pos.length lost n) c q pos pos.length lost (pB c pos) (cB c pos) near.length x8 x20 (v:Int) near.length (near.length:Int) (near.length:Int) l' near=_
 unfold Ps;rw [yA (by omega),yB,yC (At.2 ⟨by omega,by omega⟩)]
end
def jA (c:AB) (q:AA) (pos lost:List Int) (x:Bool×List Int):Prop:=(x.1=true↔Pw c q pos)/\ (x.1=true -> CB pos lost (NA c q pos) x.2)
theorem pW (W:GF c q pos): ∀ (k v:Nat) (o1:List Int),v+k=pos.length -> (∀ u,u<v -> (cB c pos).getD u false=true -> 2<=C7 q.nbrs (pB c pos) u/\ C7 q.nbrs (cB c pos) u<=2) -> CB pos lost (fun a s=>E9 c q pos a s∨∃ u,u<v/\ dL c q pos u a s) o1 ->
 Ab (fun n=>CD c q pos pos.length lost n (.l1 (pB c pos) (cB c pos) (pos.length:Int) (v:Int) o1)) (jA c q pos lost):=by
 have FS:=W.l1;have EO:=W.gl;have lp:(pB c pos).length=pos.length:=Eg;have lc:(cB c pos).length=pos.length:=EG;intro k
 induction k with
 | zero=>
  intro v o1 e B4 hL;have e:v=pos.length:=by omega
  subst e;refine Ev.p (r:=(true,o1)) ⟨1,fun n hn=>?_⟩ ⟨⟨fun _ v hv hc=>B4 v hv hc,fun _=>rfl⟩,fun _=>hL⟩;obtain ⟨n,rfl⟩: ∃ k,n=k+1:=⟨n-1,by omega⟩
  show Pv n (CD c q pos pos.length lost n) c q pos pos.length lost (pB c pos) (cB c pos) (pos.length:Int) (pos.length:Int) o1=_
  unfold Pv;rw [yA (by omega),yB]
 | succ k ih=>
  intro v o1 e B4 hL;have hv:v<pos.length:=by omega
  have r1:AH ((v:Int)+1):=At.2 ⟨by omega,by omega⟩
  have U: ∀ n,CD c q pos pos.length lost (n+1) (.l1 (pB c pos) (cB c pos) (pos.length:Int) (v:Int) o1)=bif (cB c pos).getD v false then CD c q pos pos.length lost n (K0 (pB c pos) (cB c pos) (pos.length:Int) (v:Int) (nb q.nbrs v) o1 [] 0 0) else CD c q pos pos.length lost n (.l1 (pB c pos) (cB c pos) (pos.length:Int) ((v:Int)+1) o1):=fun n=>by
   show Pv n (CD c q pos pos.length lost n) c q pos pos.length lost (pB c pos) (cB c pos) (pos.length:Int) (v:Int) o1=_
   unfold Pv;rw [yI (by omega),yF,yC ⟨by omega,by omega⟩,yH,yC r1,yC ⟨by omega,by omega⟩];cases (cB c pos).getD v false <;> rfl
  cases hc:(cB c pos).getD v false
  ·refine Ab.step 1 (fun n=>?_) (ih (v+1) o1 (by omega) (fun u hu QJ=>?_) (hL.id' fun a s _ _=>?_))
   ·rw [U,hc,yB];rfl
   ·rcases yR.1 hu with hu | rfl
    ·exact B4 u hu QJ
    ·rw [hc] at QJ;cases QJ
   ·constructor
    ·rintro (h | ⟨u,hu,h⟩)
     ·exact .inl h
     ·rcases yR.1 hu with hu | rfl
      ·exact .inr ⟨u,hu,h⟩
      ·rw [h.1] at hc;cases hc
    ·rintro (h | ⟨u,hu,h⟩)
     ·exact .inl h
     ·exact .inr ⟨u,by omega,h⟩
  ·have QL:=W.g.gr.row (v:Int) (by omega) (by omega)
   have Ty: ∀ u∈nb q.nbrs (v:Int),0<=u/\ u<(pos.length:Int):=fun u hu=>by
    have:=W.g.gr.rng (v:Int) (by omega) (by omega) u hu;omega
   have A:=fun n=>dK (c:=c) (q:=q) (lost:=lost) (o1:=o1) (x20:=(pos.length:Int)) (x21:=(v:Int)) lp lc Ty QL (nb q.nbrs v).length 0 n [] 0 (by omega) (by simp) ⟨zV _,by omega⟩
   rw [zA9,cz,dR,zc,Int.zero_add] at A;have dP:C7 q.nbrs (pB c pos) v=((nb q.nbrs v).filter fun x=>(pB c pos).getD x.toNat false).length:=List.countP_eq_length_filter;have dC:C7 q.nbrs (cB c pos) v=(nb q.nbrs v).countP fun x=>(cB c pos).getD x.toNat false:=rfl
   rw [←dC] at A
   generalize QP:((nb q.nbrs v).filter fun x=>(pB c pos).getD x.toNat false)=near at A dP
   have Bx: ∀ u,u∈near↔u∈nb q.nbrs v/\ (pB c pos).getD u.toNat false=true:=fun u=>by rw [←QP,zx]
   have FP:near.length<=256:=by
    have:=List.length_filter_le (fun x=>(pB c pos).getD x.toNat false) (nb q.nbrs v);rw [QP] at this;omega
   have T6: ∀ u∈near,0<=u/\ u<(pos.length:Int):=fun u hu=>Ty u ((Bx u).1 hu).1
   have U2: ∀ n,CD c q pos pos.length lost (n+((nb q.nbrs v).length+1)) (.l1 (pB c pos) (cB c pos) (pos.length:Int) (v:Int) o1)=CD c q pos pos.length lost n (K0 (pB c pos) (cB c pos) (pos.length:Int) (v:Int) (nb q.nbrs v) o1 near (C7 q.nbrs (cB c pos) v:Int) ((nb q.nbrs v).length:Int)):=fun n=>by
    rw [←zB,U,hc,yF];exact A n
   refine Ab.step _ U2 ?_
   by_cases hbad:C7 q.nbrs (pB c pos) v<2∨2<C7 q.nbrs (cB c pos) v
   ·have JJ: ¬ Pw c q pos:=fun h=>by have:=h v hv hc;omega
    refine Ev.p (r:=(false,o1)) ⟨1,fun n hn=>?_⟩ ⟨⟨fun h=>(by cases h),fun h=>absurd h JJ⟩,fun h=>(by cases h)⟩;obtain ⟨n,rfl⟩: ∃ k,n=k+1:=⟨n-1,by omega⟩;cases near with
    | nil=>
     show Pu n (CD c q pos pos.length lost n) c q pos pos.length lost (pB c pos) (cB c pos) (C7 q.nbrs (cB c pos) v:Int) (pos.length:Int) (v:Int) (nb q.nbrs v) ((nb q.nbrs v).length:Int) ((nb q.nbrs v).length:Int) o1=_
     unfold Pu;rw [yA (by omega),yB]
    | cons a l=>
     show Lc n (CD c q pos pos.length lost n) c q pos pos.length lost (pB c pos) (cB c pos) (a::l).length (C7 q.nbrs (cB c pos) v:Int) (pos.length:Int) (v:Int) (nb q.nbrs v) ((nb q.nbrs v).length:Int) ((nb q.nbrs v).length:Int) o1 (a::l)=_
     unfold Lc;rw [yA (by omega),yB]
     by_cases h2:(((a::l).length:Nat):Int)<2
     ·rw [yI h2,yF]
     ·rw [yA h2,yB,yI (by omega),yF]
   ·have AV:near≠[]:=by
     intro h;rw [h,za] at dP;omega
    obtain ⟨l',e4,UJ⟩:=ik (c:=c) (q:=q) (lost:=lost) (o1:=o1) (near:=near) (x20:=(pos.length:Int)) (x8:=(C7 q.nbrs (cB c pos) v:Int)) (n:=0) W hL T6 FP hv;have e5: ∀ n,∃ l',CD c q pos pos.length lost (n+1+near.length) (.l4 (pB c pos) (cB c pos) near.length (C7 q.nbrs (cB c pos) v:Int) (pos.length:Int) (v:Int) near.length (near.length:Int) 0 o1 near)=CD c q pos pos.length lost n (.l1 (pB c pos) (cB c pos) (pos.length:Int) ((v:Int)+1) l')/\ _:=fun n=>ik (c:=c) (q:=q) (lost:=lost) (o1:=o1) (near:=near) (x20:=(pos.length:Int)) (x8:=(C7 q.nbrs (cB c pos) v:Int)) (n:=n) W hL T6 FP hv
    have IH:=ih (v+1) l' (by omega) (fun u hu QJ=>by
     rcases yR.1 hu with hu | rfl
     ·exact B4 u hu QJ
     ·omega) (UJ.id' fun a s _ _=>by
     constructor
     ·rintro (h | ⟨u,hu,h⟩)
      ·exact .inl (.inl h)
      ·rcases yR.1 hu with hu | rfl
       ·exact .inl (.inr ⟨u,hu,h⟩)
       ·obtain ⟨h1,h2,h3,h4⟩:=h;refine .inr ⟨(Bx _).2 ⟨h2,by rw [yH];exact h3⟩,?_⟩;rcases h4 with ⟨h4,h5⟩ | ⟨h4,h5⟩
        ·exact .inl ⟨by omega,h5⟩
        ·exact .inr ⟨by omega,h5⟩
     ·rintro ((h | ⟨u,hu,h⟩) | ⟨h1,h2⟩)
      ·exact .inl h
      ·exact .inr ⟨u,by omega,h⟩
      ·obtain ⟨h3,h4⟩:=(Bx _).1 h1;rw [yH] at h4;refine .inr ⟨v,by omega,hc,h3,h4,?_⟩;rcases h2 with ⟨h2,h5⟩ | ⟨h2,h5⟩
       ·exact .inl ⟨by omega,h5⟩
       ·exact .inr ⟨by omega,h5⟩)
    refine Ab.step (1+near.length+1) (g:=fun n=>CD c q pos pos.length lost n (.l1 (pB c pos) (cB c pos) (pos.length:Int) ((v:Int)+1) l')) (fun n=>?_) IH;obtain ⟨l2,e6,uj⟩:=e5 n;have:l2=l':=uj.unique UJ;subst this;rw [ar AV,show n+(1+near.length+1)=n+1+near.length+1 by omega,←e6]
    show Lc (n+1+near.length) (CD c q pos pos.length lost (n+1+near.length)) c q pos pos.length lost (pB c pos) (cB c pos) near.length (C7 q.nbrs (cB c pos) v:Int) (pos.length:Int) (v:Int) (nb q.nbrs v) ((nb q.nbrs v).length:Int) ((nb q.nbrs v).length:Int) o1 near=_
    unfold Lc;rw [yA (by omega),yB,yA (by omega),yB,yA (by omega),yB]
theorem pX (W:GF c q pos) (hL:CB pos lost (fun _ _=>False) lost):Ab (fun n=>TN n c q pos pos.length lost) (jA c q pos lost):=by
 have FS:=W.l1;obtain ⟨r,_,hF⟩:=Tm (l:=cB c pos) (by rw [EG];exact FS);obtain ⟨l0,h1,h2⟩:=dD W hL hF;refine Ab.bind h1 (b:=fun n y1=>CD c q pos pos.length lost n (.l1 y1.1 y1.2.1 (y1.2.1.length:Int) 0 y1.2.2.2)) ?_;have:=pW (q:=q) W pos.length 0 l0 (by omega) (fun u hu=>absurd hu (yT u)) (h2.id' fun a s _ _=>⟨fun h=>h.elim id fun ⟨u,hu,_⟩=>absurd hu (yT u),.inl⟩);refine this.eq fun n=>?_
 show CD c q pos pos.length lost n (.l1 (pB c pos) (cB c pos) ((cB c pos).length:Int) 0 l0)=_
 rw [EG];rfl
end
end Go.Proofs.YtekkngkphejfcaaGreatDoor
namespace Go.Proofs.YtekkngkphejfcaaGreatDoor
open Go.RowKit
set_option maxRecDepth 100000
set_option maxHeartbeats 40000000
theorem lL:Aj (BA Tryz.f36 6) [([0,1,2,3,4,5,6,7,8],9),([10],11)] [12] []:=by unfold Aj;kernel_rfl
theorem lM:Aj (BA Tryz.f36 13) [] (List.range 13) [13]:=by unfold Aj;kernel_rfl
def DM:BU:=fun i=>match i with
 | 6=>.ord [([0,1,2,3,4,5,6,7,8],9),([10],11)] [12] []
 | 13=>.ord [] (List.range 13) [13]
 | _=>.no
def s7 (q:AA) (pos:List Int):DH:=[some (.cells (AD q)),some (.cells [.cst .nilFunc,.fn 57 0 (L1 []),.fn 58 0 (L1 []),.fn 59 0 (L1 []),.fn 60 0 (L1 []),.fn 61 0 (L1 []),.fn 62 0 (L1 []),.fn 63 0 (L1 []),.fn 64 0 (L1 []),.fn 65 0 (L1 [])]),some (.ints (List.replicate pos.length (0:Int)))]
def JH (q:AA) (pos:List Int) (i:Int):DH:=[some (.cells (AD q)),some (.cells [.cst .nilFunc,.fn 57 0 (L1 []),.fn 58 0 (L1 []),.fn 59 0 (L1 []),.fn 60 0 (L1 []),.fn 61 0 (L1 []),.fn 62 0 (L1 []),.fn 63 0 (L1 []),.fn 64 0 (L1 []),.fn 65 0 (L1 [])]),some (.ints (List.replicate pos.length (0:Int))),some (.ints (List.replicate pos.length (0:Int))),some (.cells (AG (q.cons.getD ((i).toNat) default)++AD q++[.ints pos,.msl 3 1 0 pos.length]))]
def s6 (pos:List Int) (q:AA) (i:Int) (o2:List Int):DH:=[some (.ints (List.replicate pos.length (0:Int))),some (.cells (AG (q.cons.getD ((i).toNat) default)++AD q++[.ints pos,.msl 2 1 0 pos.length])),some (.ints o2)]
def s5 (pos:List Int) (q:AA) (i:Int) (o2 o3:List Int):DH:=[some (.ints (List.replicate pos.length (0:Int))),some (.cells (AG (q.cons.getD ((i).toNat) default)++AD q++[.ints pos,.msl 2 1 0 pos.length])),some (.ints o2),some (.ints o3)]
inductive PW where
 | l1 (o2:List Int)
 | l2 (ID:Nat) (Jg Br:Int) (o2 o3:List Int)
def WJ (n:Nat) (self:PW -> Option ((List Int))) (q:AA) (i:Int) (pos:List Int) (o2:List Int):Option ((List Int)):=
 (U0 n pos).bind fun y1=>
  self (.l2 y1.length (y1.length:Int) 0 o2 y1)
def PV (n:Nat) (self:PW -> Option ((List Int))) (q:AA) (i:Int) (pos:List Int) (ID:Nat) (Jg Br:Int) (o2 o3:List Int):Option ((List Int)):=
 bif (decide (Br<Jg)) then
  if (0<=Br/\ Br<(ID:Int))/\ 0+((Br).toNat)<o3.length/\ (0<=Br/\ Br<(pos.length:Int))/\ 0+((Br).toNat)<o2.length/\ AH (Br+1) then
   self (.l2 ID Jg (Br+1) o2 (o3.set (0+((Br).toNat)) (bits .andNot .i64 (o3.getD (0+((Br).toNat)) 0) (o2.getD (0+((Br).toNat)) 0))))
  else none
 else
  if ID=o3.length then
   (Gw n o3).bind fun y1=>
    bif y1 then
     if pos.length=(List.replicate pos.length (0:Int)).length then
      some (List.replicate pos.length (0:Int))
     else none
    else
     some o3
  else none
def WK (n:Nat) (self:PW -> Option ((List Int))) (q:AA) (i:Int) (pos:List Int):Option ((List Int)):=
 if ((pos.length:Int):Int)=(pos.length:Int)/\ 0<=(pos.length:Int)/\ ((pos.length:Int):Int)<=1000000000000 then
  (Gw n pos).bind fun y1=>
   bif y1 then
    if pos.length=(List.replicate pos.length (0:Int)).length then
     some (List.replicate pos.length (0:Int))
    else none
   else
    if 0<=i/\ i<(q.cons.length:Int) then
     bif (((q.cons.getD ((i).toNat) default).kind)==0) then
      none
     else
      bif (((q.cons.getD ((i).toNat) default).kind)==1) then
       (Nx n (q.cons.getD ((i).toNat) default) q pos pos.length (List.replicate pos.length (0:Int))).bind fun y2=>
        bif (!y2.1) then
         if pos.length=(List.replicate pos.length (0:Int)).length then
          some (List.replicate pos.length (0:Int))
         else none
        else
         self (.l1 y2.2)
      else
       bif (((q.cons.getD ((i).toNat) default).kind)==2) then
        (N4 n (q.cons.getD ((i).toNat) default) q pos pos.length (List.replicate pos.length (0:Int))).bind fun y2=>
         bif (!y2.1) then
          if pos.length=(List.replicate pos.length (0:Int)).length then
           some (List.replicate pos.length (0:Int))
          else none
         else
          self (.l1 y2.2)
       else
        bif (((q.cons.getD ((i).toNat) default).kind)==3) then
         (Me n (q.cons.getD ((i).toNat) default) q pos pos.length (List.replicate pos.length (0:Int))).bind fun y2=>
          bif (!y2.1) then
           if pos.length=(List.replicate pos.length (0:Int)).length then
            some (List.replicate pos.length (0:Int))
           else none
          else
           self (.l1 y2.2)
        else
         bif (((q.cons.getD ((i).toNat) default).kind)==4) then
          (Jz n (q.cons.getD ((i).toNat) default) q pos pos.length (List.replicate pos.length (0:Int))).bind fun y2=>
           bif (!y2.1) then
            if pos.length=(List.replicate pos.length (0:Int)).length then
             some (List.replicate pos.length (0:Int))
            else none
           else
            self (.l1 y2.2)
         else
          bif (((q.cons.getD ((i).toNat) default).kind)==5) then
           (Mn n (q.cons.getD ((i).toNat) default) q pos pos.length (List.replicate pos.length (0:Int))).bind fun y2=>
            bif (!y2.1) then
             if pos.length=(List.replicate pos.length (0:Int)).length then
              some (List.replicate pos.length (0:Int))
             else none
            else
             self (.l1 y2.2)
          else
           bif (((q.cons.getD ((i).toNat) default).kind)==6) then
            (MK n (q.cons.getD ((i).toNat) default) q pos pos.length (List.replicate pos.length (0:Int))).bind fun y2=>
             bif (!y2.1) then
              if pos.length=(List.replicate pos.length (0:Int)).length then
               some (List.replicate pos.length (0:Int))
              else none
             else
              self (.l1 y2.2)
           else
            bif (((q.cons.getD ((i).toNat) default).kind)==7) then
             (LV n (q.cons.getD ((i).toNat) default) q pos pos.length (List.replicate pos.length (0:Int))).bind fun y2=>
              bif (!y2.1) then
               if pos.length=(List.replicate pos.length (0:Int)).length then
                some (List.replicate pos.length (0:Int))
               else none
              else
               self (.l1 y2.2)
            else
             bif (((q.cons.getD ((i).toNat) default).kind)==8) then
              (Uw n (q.cons.getD ((i).toNat) default) q pos pos.length (List.replicate pos.length (0:Int))).bind fun y2=>
               bif (!y2.1) then
                if pos.length=(List.replicate pos.length (0:Int)).length then
                 some (List.replicate pos.length (0:Int))
                else none
               else
                self (.l1 y2.2)
             else
              bif (((q.cons.getD ((i).toNat) default).kind)==9) then
               (TN n (q.cons.getD ((i).toNat) default) q pos pos.length (List.replicate pos.length (0:Int))).bind fun y2=>
                bif (!y2.1) then
                 if pos.length=(List.replicate pos.length (0:Int)).length then
                  some (List.replicate pos.length (0:Int))
                 else none
                else
                 self (.l1 y2.2)
              else
               none
    else none
 else none
def HV (q:AA) (i:Int) (pos:List Int):Nat -> PW -> Option ((List Int))
 | 0,_=>none
 | n+1,.l1 o2=>WJ n (HV q i pos n) q i pos o2
 | n+1,.l2 ID Jg Br o2 o3=>PV n (HV q i pos n) q i pos ID Jg Br o2 o3
def IR (n:Nat) (q:AA) (i:Int) (pos:List Int):Option ((List Int)):=WK n (HV q i pos n) q i pos
def n0 (n B:Nat) (N:Yd 0) (q:AA) (i:Int) (pos:List Int) (r:(List Int)):PW -> Prop
 | .l1 o2=>TW B N (FQ Tryz.f36 0 (.ints r) []) (H3 (AZ Tryz.f36) 9 []) ⟨AL 69 [(2,.ints pos),(8,.msl 0 1 0 pos.length),(9,.ref 1 0)],[some (.ints (List.replicate pos.length (0:Int))),some (.cells (AG (q.cons.getD ((i).toNat) default)++AD q++[.ints pos,.msl 2 1 0 pos.length])),some (.ints o2)]⟩
 | .l2 ID Jg Br o2 o3=>∀ m0:Nat,n<=m0 -> TW B N (FQ Tryz.f36 0 (.ints r) []) (Ai m0 (Ap (AZ Tryz.f36) 0 [])) ⟨AL 69 [(8,.msl 0 1 0 pos.length),(9,.ref 1 0),(10,.msl 3 1 0 ID),(47,.i Jg),(48,.i Br)],[some (.ints (List.replicate pos.length (0:Int))),some (.cells (AG (q.cons.getD ((i).toNat) default)++AD q++[.ints pos,.msl 2 1 0 pos.length])),some (.ints o2),some (.ints o3)]⟩
theorem n5 (B:Nat) (N:Yd 0) (q:AA) (i:Int) (pos:List Int):Al (HV q i pos) (n0 · B N q i pos):=ia (fun _=>rfl) fun n AF pt r h=>by
 cases pt
 case l1 o2=>
  revert r;apply gO;exact cn fun y1 A5=>jc (ES.snapNew (ds:=[.ints pos]) (wl A5) (s6 pos q i o2) (ZN (by kernel_rfl)) rfl) (lN DM [0,1,2,3] (AF _ _ · n Nat.le.refl))
 case l2 ID Jg Br o2 o3=>
  intro m0 AC;refine rd AC fun m0 AC=>?_
  revert r;apply gO;exact bi 49 (jg lM (gc (gn fun g0=>jg g0 (gc (gn fun g1=>jg g1 (gc (gi (gc (gi (jg g0 (jg g1 (gw 64 (lG (BQ 9 DM) [0,1,2,3] (AF _ _ · m0 AC)))))))))))))) (gn fun g0=>cn fun y1 A5=>jc (sb [.msl 3 1 0 ID] (NG A5) (s5 pos q i o2 o3) ⟨Ad.ints rfl g0,trivial⟩) (bi 66 (gn fun g1=>lF fun p=>ez (BQ 9 DM) [6] [0] p [0] (H0.g g1)) (lF fun p=>ez (BQ 9 DM) [6] [3] p [0] (H0.g g0))))
theorem ny {n:Nat} {q:AA} {i:Int} {pos:List Int} {r:(List Int)} (h:IR n q i pos=some r):EQ 36 [.agg 5 (L1 (AD q)),.i i,.ints pos] [] (.ints r) [] true:=by
 have AF:=fun B N=>(n5 B N q i pos n)
 refine ot Tryz.func36 fun B N=>?_
 revert r;apply gO;exact jt (gn fun g0=>jg g0 (cf NG (s7 q pos) fun _=>bi 18 (gn fun g1=>lF fun p=>ez (BQ 9 DM) [6] [2] p [0] (H0.g g1)) (jg lL (gi (jg g0 (bn (fun c1=>nO) (fun c1=>bn (fun c3=>jo 36 (AN.int (k:=.i64) (eq_of_beq c3)) (jg (by decide:(0:Int)<=1/\ 1<((10:Nat):Int)) (ce wD [4,3] (JH q pos i) fun _=>bi 42 (gn fun g2=>lF fun p=>ez (BQ 9 DM) [6] [2] p [0] (H0.g g2)) (lG (BQ 9 DM) [2,4,3] ((AF B N) _ _ ·))))) (fun c3=>bn (fun c5=>jo 36 (AN.int (k:=.i64) (eq_of_beq c5)) (jg (by decide:(0:Int)<=2/\ 2<((10:Nat):Int)) (ce wP [4,3] (JH q pos i) fun _=>bi 42 (gn fun g2=>lF fun p=>ez (BQ 9 DM) [6] [2] p [0] (H0.g g2)) (lG (BQ 9 DM) [2,4,3] ((AF B N) _ _ ·))))) (fun c5=>bn (fun c7=>jo 36 (AN.int (k:=.i64) (eq_of_beq c7)) (jg (by decide:(0:Int)<=3/\ 3<((10:Nat):Int)) (ce kB [4,3] (JH q pos i) fun _=>bi 42 (gn fun g2=>lF fun p=>ez (BQ 9 DM) [6] [2] p [0] (H0.g g2)) (lG (BQ 9 DM) [2,4,3] ((AF B N) _ _ ·))))) (fun c7=>bn (fun c9=>jo 36 (AN.int (k:=.i64) (eq_of_beq c9)) (jg (by decide:(0:Int)<=4/\ 4<((10:Nat):Int)) (ce mm [4,3] (JH q pos i) fun _=>bi 42 (gn fun g2=>lF fun p=>ez (BQ 9 DM) [6] [2] p [0] (H0.g g2)) (lG (BQ 9 DM) [2,4,3] ((AF B N) _ _ ·))))) (fun c9=>bn (fun iN=>jo 36 (AN.int (k:=.i64) (eq_of_beq iN)) (jg (by decide:(0:Int)<=5/\ 5<((10:Nat):Int)) (ce mI [4,3] (JH q pos i) fun _=>bi 42 (gn fun g2=>lF fun p=>ez (BQ 9 DM) [6] [2] p [0] (H0.g g2)) (lG (BQ 9 DM) [2,4,3] ((AF B N) _ _ ·))))) (fun iN=>bn (fun iM=>jo 36 (AN.int (k:=.i64) (eq_of_beq iM)) (jg (by decide:(0:Int)<=6/\ 6<((10:Nat):Int)) (ce xW [4,3] (JH q pos i) fun _=>bi 42 (gn fun g2=>lF fun p=>ez (BQ 9 DM) [6] [2] p [0] (H0.g g2)) (lG (BQ 9 DM) [2,4,3] ((AF B N) _ _ ·))))) (fun iM=>bn (fun iL=>jo 36 (AN.int (k:=.i64) (eq_of_beq iL)) (jg (by decide:(0:Int)<=7/\ 7<((10:Nat):Int)) (ce pA [4,3] (JH q pos i) fun _=>bi 42 (gn fun g2=>lF fun p=>ez (BQ 9 DM) [6] [2] p [0] (H0.g g2)) (lG (BQ 9 DM) [2,4,3] ((AF B N) _ _ ·))))) (fun iL=>bn (fun iK=>jo 36 (AN.int (k:=.i64) (eq_of_beq iK)) (jg (by decide:(0:Int)<=8/\ 8<((10:Nat):Int)) (ce wb [4,3] (JH q pos i) fun _=>bi 42 (gn fun g2=>lF fun p=>ez (BQ 9 DM) [6] [2] p [0] (H0.g g2)) (lG (BQ 9 DM) [2,4,3] ((AF B N) _ _ ·))))) (fun iK=>bn (fun iJ=>jo 36 (AN.int (k:=.i64) (eq_of_beq iJ)) (jg (by decide:(0:Int)<=9/\ 9<((10:Nat):Int)) (ce pY [4,3] (JH q pos i) fun _=>bi 42 (gn fun g2=>lF fun p=>ez (BQ 9 DM) [6] [2] p [0] (H0.g g2)) (lG (BQ 9 DM) [2,4,3] ((AF B N) _ _ ·))))) (fun iJ=>nO))))))))))))))))
def cJ (n:Nat) (q:AA) (i:Int) (pos:List Int):Option ((List Int)×Int):=
 (N7 n q i pos).bind fun y1=>
  bif (y1 != 0) then
   some (([]:List Int),y1)
  else
   (IR n q i pos).bind fun y2=>
    some (y2,0)
def IS (n:Nat) (q:AA) (i:Int) (pos:List Int):Option ((List Int)×Int):=cJ n q i pos
theorem WL {n:Nat} {q:AA} {i:Int} {pos:List Int} {r:(List Int)×Int} (h:IS n q i pos=some r):EQ 9 [.agg 5 (L1 (AD q)),.i i,.ints pos] [] (.tup 2 (L1 [.ints r.1,.i r.2])) [] true:=by
 unfold IS cJ at h;refine ot Tryz.func9 fun B N=>?_
 revert r;apply gO;exact cf wm [some (.cells (AD q))] fun y1=>bi 14 (lF fun p=>el AE [6,7] [] p [] H0 [.nils,.i y1] (AN.tupL (l:=[.nils,.i y1]) (l':=[.ints ([]:List Int),.i y1]) rfl ⟨AN.ints_nil,BY,trivial⟩)) (cf ny [some (.cells (AD q))] fun _=>lE AE [6,7] [])
end Go.Proofs.YtekkngkphejfcaaGreatDoor
namespace Go.Proofs.YtekkngkphejfcaaGreatDoor
open Go.RowKit
def B9 (pos:List Int):Bool:=pos.any (· ==0)
theorem G9 {pos:List Int}:B9 pos=false↔∀ j,j<pos.length -> pos.getD j 0≠0:=by
 unfold B9;rw [List.any_eq_false];constructor
 ·intro h j hj e;refine h (pos.getD j 0) ?_ (by rw [e];rfl);rw [u8,xz hj];exact yZ hj
 ·intro h x hx;obtain ⟨j,hj,rfl⟩:=zX hx;have:=h j hj;rw [u8,xz hj] at this;simpa using this
theorem wI {pos:List Int} {n:Nat} (hl:pos.length<=LB) (hn:pos.length<n):Ur n pos=some (B9 pos):=by
 have hb:LB<=9223372036854775806:=by decide
 have key: ∀ (k i n:Nat),i+k=pos.length -> k+1<=n -> Nz pos n (.l1 (i:Int))=some ((pos.drop i).any (· ==0)):=by
  intro k
  induction k with
  | zero=>
   intro i n e hn;obtain ⟨n,rfl⟩: ∃ k,n=k+1:=⟨n-1,by omega⟩
   show Q5 n (Nz pos n) pos (i:Int)=_
   unfold Q5;rw [yA (by omega),yB,zI (by omega)];rfl
  | succ k ih=>
   intro i n e hn;obtain ⟨n,rfl⟩: ∃ k,n=k+1:=⟨n-1,by omega⟩;have hi:i<pos.length:=by omega
   have e2:pos.drop i=pos.getD i 0::pos.drop (i+1):=by
    rw [yc hi,u8,xz hi];rfl
   have:=ih (i+1) n (by omega) (by omega)
   show Q5 n (Nz pos n) pos (i:Int)=_
   unfold Q5;rw [yI (by omega),yF,yC ⟨by omega,by omega⟩,yC (At.2 ⟨by omega,by omega⟩),yH,e2,List.any_cons];cases h:(pos.getD i 0==0)
   ·rw [yB,zv];exact this
   ·rfl
 have:=key pos.length 0 n (by omega) (by omega);unfold Ur gx;exact this
theorem P5 {pos:List Int} {n:Nat} (hl:pos.length<=LB) (hn:pos.length<n):Gw n pos=some (B9 pos):=by
 unfold Gw XA;rw [wI hl hn];rfl
def posOk (q:AA) (pos:List Int):Bool:=((pos.length:Int)==q.cells)&&pos.all fun x=>decide (0<=x)&&decide (x<2 ^ q.symbols.toNat)
def D5 (q:AA) (pos:List Int):Int:=if CY q then (if posOk q pos then 0 else 250) else 191
section
variable {q:AA} {i:Int} {pos:List Int} {n:Nat}
theorem cP (hF:Cq q) (hn:Dl q<=n) (hl:pos.length<=LB) (Ic:pos.length<n):LN n q pos=some (D5 q pos):=by
 have hb:LB<=9223372036854775806:=by decide
 unfold LN cO D5;rw [Zx hF hn,yD];cases hv:CY q with
 | false=>rfl
 | true=>
  obtain ⟨_,hs,_⟩:=DX hv;obtain ⟨p1,p2,p3⟩:=So hs.1 hs.2
  show (bif ((pos.length:Int) != q.cells) then some 250 else LM q pos n (.l1 0))=some (if posOk q pos=true then 0 else 250)
  unfold posOk
  by_cases Ae:(pos.length:Int)=q.cells
  ·have h1:((pos.length:Int) != q.cells)=false:=by simpa using Ae
   have h2:((pos.length:Int)==q.cells)=true:=by simpa using Ae
   rw [h1,yB,h2,ye]
   have key: ∀ (k i n:Nat),i+k=pos.length -> k+1<=n -> LM q pos n (.l1 (i:Int))=some (if ((pos.drop i).all fun x=>decide (0<=x)&&decide (x<2 ^ q.symbols.toNat))=true then 0 else 250):=by
    intro k
    induction k with
    | zero=>
     intro i n e hn;obtain ⟨n,rfl⟩: ∃ k,n=k+1:=⟨n-1,by omega⟩
     show Pa n (LM q pos n) q pos (i:Int)=_
     unfold Pa;rw [yA (by omega),yB,zI (by omega)];rfl
    | succ k ih=>
     intro i n e hn;obtain ⟨n,rfl⟩: ∃ k,n=k+1:=⟨n-1,by omega⟩;have hi:i<pos.length:=by omega
     have e2:pos.drop i=pos.getD i 0::pos.drop (i+1):=by
      rw [yc hi,u8,xz hi];rfl
     have:=ih (i+1) n (by omega) (by omega)
     show Pa n (LM q pos n) q pos (i:Int)=_
     unfold Pa;rw [yI (by omega),yF,yC ⟨by omega,by omega⟩,yC p3,yC (At.2 ⟨by omega,by omega⟩),yH,e2,zAU,p1]
     by_cases c1:pos.getD i 0<0
     ·rw [yI c1,yF,yA (p:=0<=pos.getD i 0) (by omega)];rfl
     ·rw [yA c1,yB,yI (p:=0<=pos.getD i 0) (by omega),ye]
      by_cases c2:pos.getD i 0>=2 ^ q.symbols.toNat
      ·rw [yI c2,yF,yA (p:=pos.getD i 0<2 ^ q.symbols.toNat) (by omega)];rfl
      ·rw [yA c2,yB,yI (p:=pos.getD i 0<2 ^ q.symbols.toNat) (by omega),ye];exact this
   exact key pos.length 0 n (by omega) (by omega)
  ·have h1:((pos.length:Int) != q.cells)=true:=by simpa using Ae
   have h2:((pos.length:Int)==q.cells)=false:=by simpa using Ae
   rw [h1,yF,h2,zh];rfl
def Hy (q:AA) (i:Int) (pos:List Int):Int:=if (Gv q i).2=0 then D5 q pos else (Gv q i).2
theorem wn (hF:Cq q) (hn:Dl q<=n) (hl:pos.length<=LB) (Ic:pos.length<n):N7 n q i pos=some (Hy q i pos):=by
 unfold N7 Yz Hy;rw [Wt hF hn,yD,cP hF hn hl Ic,yD]
 by_cases h:(Gv q i).2=0
 ·have:((Gv q i).2 != 0)=false:=by simpa using h
  rw [this,yC h];rfl
 ·have:((Gv q i).2 != 0)=true:=by simpa using h
  rw [this,yM h];rfl
structure Be (q:AA) (i:Int) (pos:List Int):Prop where
 fit:Cq q
 valid:CY q=true
 i0:0<=i
 i1:i<(q.cons.length:Int)
 pos:posOk q pos=true
def con (q:AA) (i:Int):AB:=q.cons.getD i.toNat default
theorem Be.of (hF:Cq q) (h:Hy q i pos=0):Be q i pos:=by
 unfold Hy Gv D5 at h
 by_cases hv:CY q=false
 ·rw [yC hv] at h;rw [yM (by decide)] at h;exact absurd h (by decide)
 ·rw [yM hv] at h;have hv:CY q=true:=by simpa using hv
  by_cases hi:0<=i/\ i<(q.cons.length:Int)
  ·rw [yC hi,yC rfl,yC hv] at h
   by_cases hp:posOk q pos=true
   ·exact ⟨hF,hv,hi.1,hi.2,hp⟩
   ·rw [yM hp] at h;exact absurd h (by decide)
  ·rw [yM hi,yM (by decide)] at h;exact absurd h (by decide)
theorem Be.check (C:Be q i pos):Hy q i pos=0:=by
 have h1:Gv q i=(Fj ((q.cons.getD i.toNat default).kind),0):=by
  unfold Gv;rw [yM (by rw [C.valid];exact fun h=>by cases h),yC ⟨C.i0,C.i1⟩]
 unfold Hy D5;rw [h1,yC rfl,yC C.valid,yC C.pos]
theorem Be.mem (C:Be q i pos):con q i∈q.cons:=by
 have h:=C.i0;have h1:=C.i1;unfold con;rw [u8,xz (by omega)];exact yZ _
theorem Be.fine (C:Be q i pos):C5 q (con q i)=true:=(DX C.valid).2.2.2.2.2 _ C.mem
theorem Be.kind (C:Be q i pos):E3 q.cells (con q i).kind (con q i).cells.length=true:=dp C.fine
theorem Be.len (C:Be q i pos):(pos.length:Int)=q.cells:=by
 have h:=C.pos;unfold posOk at h;rw [yG,yk] at h;exact h.1
theorem Be.sm (C:Be q i pos): ∀ j,j<pos.length -> Sm q.symbols.toNat (pos.getD j 0):=by
 intro j hj;have h:=C.pos;unfold posOk at h;rw [yG,yL] at h;have hm:pos.getD j 0∈pos:=by rw [u8,xz hj];exact yZ hj
 have:=h.2 _ hm;rw [yG,yQ,yQ] at this;exact this
theorem Be.len256 (C:Be q i pos):0<pos.length/\ pos.length<=256:=by
 have h:=(DX C.valid).1;have:=C.len;omega
theorem Be.cells (C:Be q i pos):(∀ x∈(con q i).cells,0<=x/\ x<q.cells)/\ (con q i).cells.Nodup/\ (8<=(con q i).kind -> ∀ j,j<(con q i).cells.length -> (con q i).cells.getD j 0=(j:Int)):=by
 have h:=C.fine;unfold C5 at h;simp only [yG] at h;exact Y1.1 h.1.1.1.1.1
theorem Be.work (C:Be q i pos):B0 (con q i) q.symbols.toNat pos:=by
 obtain ⟨h1,h2,_⟩:=C.cells;have hl:=C.len;have h3:=(DX C.valid).1;have h4:=(DX C.valid).2.1;refine ⟨fun a ha=>?_,?_,C.sm,by omega⟩
 ·rw [hl];refine h1 _ ?_;rw [u8,xz ha];exact yZ ha
 ·have:=M4 pos.length _ h2 fun x hx=>by rw [hl];exact h1 x hx
  omega
theorem Be.vals (C:Be q i pos):FU q q.symbols.toNat:=by
 obtain ⟨_,h2,⟨h3,h4⟩,_⟩:=DX C.valid;rw [VT] at h4;refine ⟨by omega,fun s hs=>h4 _ ?_⟩;rw [u8,xz (by omega)];exact yZ _
theorem Be.runs (C:Be q i pos):HE (con q i):=by
 have h:=C.fine;unfold C5 at h;simp only [yG,yQ] at h;have h2:=VT.1 h.2;refine ⟨by have:=h.1.2;omega,fun j hj=>(h2 _ ?_).2⟩;rw [u8,xz hj];exact yZ hj
theorem Be.two (C:Be q i pos) (hk:(con q i).kind=6∨(con q i).kind=7):(con q i).cells.length=2:=by
 have h:=C.kind;unfold E3 at h;rcases hk with hk | hk <;> rw [hk] at h <;> simpa using h
theorem Be.all (C:Be q i pos) (hk:(con q i).kind=8∨(con q i).kind=9) (hd:B9 pos=false):GF (con q i) q pos:=by
 have h:=C.kind;have hl:=C.len;have E7:=C.len256
 have h1:((con q i).cells.length:Int)=q.cells:=by
  unfold E3 at h;rcases hk with hk | hk <;> rw [hk] at h <;> simpa using h
 obtain ⟨_,_,_,⟨h5,h6⟩,_⟩:=DX C.valid;exact ⟨by omega,fun j hj=>C.cells.2.2 (by omega) j (by omega),⟨h6,C.fit.nbrs⟩,by omega,E7.1,E7.2,fun j hj=>⟨(C.sm j hj).in64 (yO C.work.k (by decide)),G9.1 hd j hj⟩⟩
end
def LS (q:AA) (c:AB) (pos:List Int):Prop:=
 (c.kind=2 -> Ke c pos=true)/\ (c.kind=3 -> Jl q c pos=true)/\ (c.kind=5 -> Jt c=true)/\ (c.kind=9 -> Pw c q pos)
def CT (q:AA) (c:AB) (pos:List Int) (a s:Nat):Prop:=
 (c.kind=1/\ Ny c pos a s)∨(c.kind=2/\ Hv c pos a s=true)∨(c.kind=3/\ HK q c pos a s=true)∨(c.kind=4/\ IL q c pos a s=true)∨(c.kind=5/\ Iw c pos a s)∨
 (c.kind=6/\ F1 (LT q c) c pos a s)∨(c.kind=7/\ F1 (J5 c) c pos a s)∨(c.kind=8/\ Hx c q pos a s)∨(c.kind=9/\ NA c q pos a s)
def KP (q:AA) (c:AB) (pos:List Int) (r:Bool×List Int):Prop:=(r.1=true↔LS q c pos)/\ (r.1=true -> Bn c pos (List.replicate pos.length 0) c.cells.length (CT q c pos) r.2)
def LC (q:AA) (c:AB) (pos:List Int) (j s:Nat):Prop:=∃ a,a<c.cells.length/\ (c.cells.getD a 0).toNat=j/\ CT q c pos a s
structure HH (q:AA) (c:AB) (pos:List Int):Prop where
 nz: ∀ j,j<pos.length -> pos.getD j 0≠0
 ok:LS q c pos
 left: ∀ j,j<pos.length -> ∃ s,s<64/\ tb (pos.getD j 0) s=true/\ ¬ LC q c pos j s
structure PR (q:AA) (c:AB) (pos x:List Int):Prop where
 len:x.length=pos.length
 live:HH q c pos -> ∀ j,j<pos.length -> Bl (x.getD j 0)/\ ∀ s,tb (x.getD j 0) s=true↔tb (pos.getD j 0) s=true/\ ¬ LC q c pos j s
 dead: ¬ HH q c pos -> x=List.replicate pos.length 0
theorem PR.uniq {q:AA} {c:AB} {pos:List Int} (x y:List Int) (h:PR q c pos x) (h':PR q c pos y):x=y:=by
 by_cases hA:HH q c pos
 ·have e:x.length=y.length:=h.len.trans h'.len.symm;refine zAN e fun j h1 h2=>?_
  have hj:j<pos.length:=by rw [←h.len];exact h1
  have e1:x.getD j 0=x[j]:=by simp [h1]
  have e2:y.getD j 0=y[j]:=by simp [h2]
  rw [←e1,←e2];refine Jk (h.live hA j hj).1 (h'.live hA j hj).1 fun s _=>?_
  rw [zR,(h.live hA j hj).2,(h'.live hA j hj).2]
 ·rw [h.dead hA,h'.dead hA]
section
variable {q:AA} {i:Int} {pos:List Int}
theorem Jd:(List.replicate pos.length (0:Int)).length=pos.length:=yY
theorem Kr (j:Nat):(List.replicate pos.length (0:Int)).getD j 0=0:=by
 rw [u8,zL];split <;> rfl
theorem VL: ∀ j,Bl ((List.replicate pos.length (0:Int)).getD j 0):=fun j=>by rw [Kr];exact ⟨by decide,by decide⟩
theorem ZW:CB pos (List.replicate pos.length 0) (fun _ _=>False) (List.replicate pos.length 0):=⟨⟨Jd,VL⟩,fun j s=>by simp⟩
theorem Bn.congr {c:AB} {lost l:List Int} {D D':Nat -> Nat -> Prop} {m:Nat} (h:Bn c pos lost m D l) (hD: ∀ a s,D' a s↔D a s):Bn c pos lost m D' l:=by
 refine ⟨h.1,fun j s=>?_⟩;rw [h.2];simp only [hD]
def Gj (n:Nat) (q:AA) (c:AB) (pos:List Int):Option (Bool×List Int):=
 bif c.kind==1 then Nx n c q pos pos.length (List.replicate pos.length 0) else bif c.kind==2 then N4 n c q pos pos.length (List.replicate pos.length 0) else
 bif c.kind==3 then Me n c q pos pos.length (List.replicate pos.length 0) else bif c.kind==4 then Jz n c q pos pos.length (List.replicate pos.length 0) else
 bif c.kind==5 then Mn n c q pos pos.length (List.replicate pos.length 0) else bif c.kind==6 then MK n c q pos pos.length (List.replicate pos.length 0) else
 bif c.kind==7 then LV n c q pos pos.length (List.replicate pos.length 0) else bif c.kind==8 then Uw n c q pos pos.length (List.replicate pos.length 0) else
 bif c.kind==9 then TN n c q pos pos.length (List.replicate pos.length 0) else none
theorem mW (C:Be q i pos) (hd:B9 pos=false):Ab (fun n=>Gj n q (con q i) pos) (KP q (con q i) pos):=by
 have W:=C.work;have hz:(List.replicate pos.length (0:Int)).length=pos.length:=Jd
 have all: ∀ k:Int,(con q i).kind=k -> ∀ {f:Nat -> Option (Bool×List Int)} {N:Nat} {ok:Bool} {D:Nat -> Nat -> Prop},(∀ n,N<=n -> ∃ l,f n=some (ok,l)/\ (ok=true -> Bn (con q i) pos (List.replicate pos.length 0) (con q i).cells.length D l)) -> (ok=true↔LS q (con q i) pos) -> (∀ a s,CT q (con q i) pos a s↔D a s) -> Ab f (KP q (con q i) pos):=by
  intro k _ f N ok D h B4 hD;refine ⟨N,fun n hn=>?_⟩;obtain ⟨l,h1,h2⟩:=h n hn;exact ⟨(ok,l),h1,B4,fun h3=>(h2 h3).congr hD⟩
 have kc:=ND (P0 C.kind);have Gq: ∀ {k:Int},(con q i).kind=k -> k≠2 -> k≠3 -> k≠5 -> k≠9 -> LS q (con q i) pos:=fun hk h2 h3 h5 h9=>⟨fun h=>absurd (hk.symm.trans h) h2,fun h=>absurd (hk.symm.trans h) h3,fun h=>absurd (hk.symm.trans h) h5,fun h=>absurd (hk.symm.trans h) h9⟩
 rcases kc with hk | hk | hk | hk | hk | hk | hk | hk | hk
 ·refine Ab.eq (all 1 hk (f:=fun n=>Nx n (con q i) q pos pos.length (List.replicate pos.length 0)) (N:=2*(con q i).cells.length+2) (ok:=true) (D:=Ny (con q i) pos) (fun n hn=>?_) ⟨fun _=>Gq hk (by decide) (by decide) (by decide) (by decide),fun _=>rfl⟩ fun a s=>?_) fun n=>?_
  ·obtain ⟨l,h1,h2⟩:=wA (q:=q) W hz hn;exact ⟨l,h1,fun _=>h2⟩
  ·unfold CT;rw [hk];simp
  ·unfold Gj;rw [hk];rfl
 ·refine Ab.eq (all 2 hk (f:=fun n=>N4 n (con q i) q pos pos.length (List.replicate pos.length 0)) (N:=2*(con q i).cells.length+3) (ok:=Ke (con q i) pos) (D:=fun a s=>Hv (con q i) pos a s=true) (fun n hn=>?_) ⟨fun h=>⟨fun _=>h,fun h=>absurd (hk.symm.trans h) (by decide),fun h=>absurd (hk.symm.trans h) (by decide),fun h=>absurd (hk.symm.trans h) (by decide)⟩,fun h=>h.1 hk⟩ fun a s=>?_) fun n=>?_
  ·exact wN (q:=q) W hz hn
  ·unfold CT;rw [hk];simp
  ·unfold Gj;rw [hk];rfl
 ·refine Ab.eq (all 3 hk (f:=fun n=>Me n (con q i) q pos pos.length (List.replicate pos.length 0)) (N:=2*(con q i).cells.length+3) (ok:=Jl q (con q i) pos) (D:=fun a s=>HK q (con q i) pos a s=true) (fun n hn=>?_) ⟨fun h=>⟨fun h=>absurd (hk.symm.trans h) (by decide),fun _=>h,fun h=>absurd (hk.symm.trans h) (by decide),fun h=>absurd (hk.symm.trans h) (by decide)⟩,fun h=>h.2.1 hk⟩ fun a s=>?_) fun n=>?_
  ·exact j8 W C.vals hz hn
  ·unfold CT;rw [hk];simp
  ·unfold Gj;rw [hk];rfl
 ·refine Ab.eq (all 4 hk (f:=fun n=>Jz n (con q i) q pos pos.length (List.replicate pos.length 0)) (N:=2*(con q i).cells.length+3) (ok:=true) (D:=fun a s=>IL q (con q i) pos a s=true) (fun n hn=>?_) ⟨fun _=>Gq hk (by decide) (by decide) (by decide) (by decide),fun _=>rfl⟩ fun a s=>?_) fun n=>?_
  ·obtain ⟨l,h1,h2⟩:=mj W C.vals hz hn;exact ⟨l,h1,fun _=>h2⟩
  ·unfold CT;rw [hk];simp
  ·unfold Gj;rw [hk];rfl
 ·obtain ⟨l,⟨N,h1⟩,h2⟩:=mH (q:=q) W C.runs hz VL;refine Ab.eq (all 5 hk (N:=N) (ok:=Jt (con q i)) (D:=Iw (con q i) pos) (fun n hn=>⟨l,h1 n hn,h2⟩) ⟨fun h=>⟨fun h=>absurd (hk.symm.trans h) (by decide),fun h=>absurd (hk.symm.trans h) (by decide),fun _=>h,fun h=>absurd (hk.symm.trans h) (by decide)⟩,fun h=>h.2.2.1 hk⟩ fun a s=>?_) fun n=>?_
  ·unfold CT;rw [hk];simp
  ·unfold Gj;rw [hk];rfl
 ·refine Ab.eq (all 6 hk (f:=fun n=>MK n (con q i) q pos pos.length (List.replicate pos.length 0)) (N:=0) (ok:=true) (D:=F1 (LT q (con q i)) (con q i) pos) (fun n hn=>?_) ⟨fun _=>Gq hk (by decide) (by decide) (by decide) (by decide),fun _=>rfl⟩ fun a s=>?_) fun n=>?_
  ·obtain ⟨l,h1,h2⟩:=xV (n:=n) W C.vals (C.two (.inl hk)) hz;exact ⟨l,h1,fun _=>h2⟩
  ·unfold CT;rw [hk];simp
  ·unfold Gj;rw [hk];rfl
 ·refine Ab.eq (all 7 hk (f:=fun n=>LV n (con q i) q pos pos.length (List.replicate pos.length 0)) (N:=0) (ok:=true) (D:=F1 (J5 (con q i)) (con q i) pos) (fun n hn=>?_) ⟨fun _=>Gq hk (by decide) (by decide) (by decide) (by decide),fun _=>rfl⟩ fun a s=>?_) fun n=>?_
  ·obtain ⟨l,h1,h2⟩:=o9 (n:=n) (q:=q) W (C.two (.inr hk)) hz;exact ⟨l,h1,fun _=>h2⟩
  ·unfold CT;rw [hk];simp
  ·unfold Gj;rw [hk];rfl
 ·obtain ⟨l,⟨N,h1⟩,h2⟩:=wa (C.all (.inl hk) hd) ZW;refine Ab.eq (all 8 hk (N:=N) (ok:=true) (D:=Hx (con q i) q pos) (fun n hn=>⟨l,h1 n hn,fun _=>h2.by (C.all (.inl hk) hd)⟩) ⟨fun _=>Gq hk (by decide) (by decide) (by decide) (by decide),fun _=>rfl⟩ fun a s=>?_) fun n=>?_
  ·unfold CT;rw [hk];simp
  ·unfold Gj;rw [hk];rfl
 ·refine Ab.eq ((pX (C.all (.inr hk) hd) ZW).mono fun r hr=>⟨?_,fun h=>((hr.2 h).by (C.all (.inr hk) hd)).congr fun a s=>?_⟩) fun n=>?_
  ·rw [hr.1];exact ⟨fun h=>⟨fun h=>absurd (hk.symm.trans h) (by decide),fun h=>absurd (hk.symm.trans h) (by decide),fun h=>absurd (hk.symm.trans h) (by decide),fun _=>h⟩,fun h=>h.2.2.2 hk⟩
  ·unfold CT;rw [hk];simp
  ·unfold Gj;rw [hk];rfl
theorem jv {n:Nat} {o2:List Int} (hl:o2.length=pos.length) (E7:pos.length<=256) (hn:600<=n):
 ∃ x,x.length=pos.length/\ (∀ j,j<pos.length -> x.getD j 0=bits .andNot .i64 (pos.getD j 0) (o2.getD j 0))/\ HV q i pos n (.l2 pos.length (pos.length:Int) 0 o2 pos)=some (if B9 x then List.replicate pos.length 0 else x):=by
 have lb:(256:Nat)<=LB:=by decide
 obtain ⟨n1,x,G4,_,e,hx,Ln,Tp⟩:=GR (fun n (o3:List Int) k=>HV q i pos n (.l2 pos.length (pos.length:Int) k o2 o3)) pos.length 260
  (fun k o3=>o3.length=pos.length/\ (∀ j,j<k -> o3.getD j 0=bits .andNot .i64 (pos.getD j 0) (o2.getD j 0))/\ ∀ j,k<=j -> o3.getD j 0=pos.getD j 0) (fun n k o3 E5 hk hI=>by
   obtain ⟨h1,h2,h3⟩:=hI
   show ∃ s',PV n (HV q i pos n) q i pos pos.length (pos.length:Int) (k:Int) o2 o3=_/\ _
   unfold PV;simp only [yH,yX];rw [yI (by omega),yF,yC ⟨⟨by omega,by omega⟩,by omega,⟨by omega,by omega⟩,by omega,At.2 ⟨by omega,by omega⟩⟩];refine ⟨_,rfl,by rw [yp];exact h1,fun j hj=>?_,fun j hj=>?_⟩
   ·by_cases e:k=j
    ·subst e;rw [KU (by omega),h3 k (by omega)]
    ·rw [getD_set_ne e];exact h2 j (by omega)
   ·rw [getD_set_ne (by omega)];exact h3 j (by omega)) (n:=n) (s:=pos) (by omega) ⟨rfl,fun j hj=>absurd hj (yT j),fun j _=>rfl⟩
 obtain ⟨n2,rfl⟩: ∃ n2,n1=n2+1:=⟨n1-1,by omega⟩;refine ⟨x,hx,Ln,Eq.trans e ?_⟩
 show PV n2 (HV q i pos n2) q i pos pos.length (pos.length:Int) (pos.length:Int) o2 x=_
 unfold PV;rw [yA (by omega),yB,yC hx.symm,P5 (by omega) (by omega),yD];cases B9 x
 ·rfl
 ·rw [yF,yC Jd.symm];rfl
def Rt (n:Nat) (q:AA) (i:Int) (pos:List Int) (y2:Bool×List Int):Option (List Int):=
 bif (!y2.1) then (if pos.length=(List.replicate pos.length (0:Int)).length then some (List.replicate pos.length (0:Int)) else none) else HV q i pos n (.l1 y2.2)
theorem jy (C:Be q i pos) (hd:B9 pos=false) {n:Nat} (hn:601<=n) {y2:Bool×List Int} (hy:KP q (con q i) pos y2): ∃ x,Rt n q i pos y2=some x/\ PR q (con q i) pos x:=by
 have E7:=C.len256;have L:(1000000000000:Nat)=BT:=rfl;have nz:=G9.1 hd;obtain ⟨b,lost⟩:=y2;obtain ⟨B4,T8⟩:=hy;unfold Rt;cases b with
 | false=>
  refine ⟨_,by rw [zC,yF,yC Jd.symm],Jd,fun hA=>?_,fun _=>rfl⟩;have:=B4.2 hA.ok;cases this
 | true=>
  have B4:=B4.1 rfl;have T8:Bn (con q i) pos (List.replicate pos.length 0) (con q i).cells.length (CT q (con q i) pos) lost:=T8 rfl;obtain ⟨n,rfl⟩: ∃ k,n=k+1:=⟨n-1,by omega⟩;obtain ⟨x,h1,h2,h3⟩:=jv (q:=q) (i:=i) (n:=n) T8.1 E7.2 (by omega)
  have hx: ∀ j,j<pos.length -> Bl (x.getD j 0)/\ ∀ s,tb (x.getD j 0) s=true↔tb (pos.getD j 0) s=true/\ ¬ LC q (con q i) pos j s:=fun j hj=>by
   rw [h2 j hj];refine ⟨GC _ _ _,fun s=>?_⟩;rw [Kx,yG,yv,←zAj,T8.2,Kr];constructor
   ·rintro ⟨h4,h5⟩;refine ⟨h4,fun ⟨a,ha,e,hs⟩=>h5 (.inr ⟨a,ha,e,?_,hs⟩)⟩
    show tb (pos.getD ((con q i).cells.getD a 0).toNat 0) s=true
    rw [e];exact h4
   ·rintro ⟨h4,h5⟩;refine ⟨h4,fun h6=>h6.elim (fun h=>IG h) fun ⟨a,ha,e,_,hs⟩=>h5 ⟨a,ha,e,hs⟩⟩
  have BP:U0 n pos=some pos:=by
   unfold U0 iD;rw [yC ⟨E7.1,trivial,⟨rfl,rfl⟩,by rw [←L];simp only [za];omega⟩,yC (by simp)];rfl
  have e:HV q i pos (n+1) (.l1 lost)=some (if B9 x then List.replicate pos.length 0 else x):=by
   show WJ n (HV q i pos n) q i pos lost=_
   unfold WJ;rw [BP,yD];exact h3
  refine ⟨_,by rw [yq,yB];exact e,?_,fun hA j hj=>?_,fun hA=>?_⟩
  ·split
   ·exact Jd
   ·exact h1
  ·rw [yM]
   ·exact hx j hj
   ·rw [zAj,G9];intro j hj;rw [h1] at hj;obtain ⟨s,hs,h4,h5⟩:=hA.left j hj;exact (Et (hx j hj).1).2 ⟨s,hs,((hx j hj).2 s).2 ⟨h4,h5⟩⟩
  ·rw [yC];refine Classical.byContradiction fun h=>hA ?_
   rw [zAj,G9] at h;refine ⟨nz,B4,fun j hj=>?_⟩;obtain ⟨s,hs,h4⟩:=(Et (hx j hj).1).1 (h j (by omega));exact ⟨s,hs,((hx j hj).2 s).1 h4⟩
theorem nv (C:Be q i pos): ∃ x,Ev (fun n=>IR n q i pos) x/\ PR q (con q i) pos x:=by
 have E7:=C.len256;have lb:(256:Nat)<=LB:=by decide
 have hi:0<=i/\ i<(q.cons.length:Int):=⟨C.i0,C.i1⟩;cases hd:B9 pos
 ·suffices H:Ab (fun n=>IR n q i pos) (PR q (con q i) pos) by
   obtain ⟨x,h1,h2⟩:=H.ev PR.uniq;exact ⟨x,h2,h1⟩
  obtain ⟨N,hN⟩:=Ab.bindU (mW C hd) (b:=fun n y2=>Rt n q i pos y2) (Q:=PR q (con q i) pos) ⟨601,fun n hn y2 hy=>jy C hd hn hy⟩;refine ⟨N+300,fun n hn=>?_⟩;obtain ⟨x,h1,h2⟩:=hN n (by omega);refine ⟨x,Eq.trans ?_ h1,h2⟩
  show IR n q i pos=(Gj n q (con q i) pos).bind fun y2=>Rt n q i pos y2
  unfold IR WK;rw [yC ⟨rfl,by omega,by omega⟩,P5 (by omega) (by omega),hd,yD,yB,yC hi];have hc:q.cons.getD i.toNat default=con q i:=rfl;rw [hc];have kc:=ND (P0 C.kind);unfold Gj;rcases kc with hk | hk | hk | hk | hk | hk | hk | hk | hk <;> rw [hk] <;> rfl
 ·refine ⟨List.replicate pos.length 0,⟨300,fun n hn=>?_⟩,Jd,fun hA=>?_,fun _=>rfl⟩
  ·show IR n q i pos=_
   unfold IR WK;rw [yC ⟨rfl,by omega,by omega⟩,P5 (by omega) (by omega),hd,yD,yF,yC Jd.symm]
  ·have:=G9.2 hA.nz;rw [hd] at this;cases this
def xt (q:AA) (i:Int) (pos:List Int) (r:List Int×Int):Prop:=r.2=Hy q i pos/\ (r.2=0 -> PR q (con q i) pos r.1)/\ (r.2≠0 -> r.1= [])
theorem n6 (hF:Cq q) (hl:pos.length<=LB): ∃ r,Ev (fun n=>IS n q i pos) r/\ xt q i pos r:=by
 have hE:Ev (fun n=>N7 n q i pos) (Hy q i pos):=⟨Dl q+pos.length+1,fun n hn=>wn hF (by omega) hl (by omega)⟩
 by_cases h0:Hy q i pos=0
 ·obtain ⟨x,h1,h2⟩:=nv (Be.of hF h0);refine ⟨(x,0),?_,h0.symm,fun _=>h2,fun h=>absurd rfl h⟩;refine Ev.eq (Ev.bind hE (b:=fun n y1=>bif (y1 != 0) then some (([]:List Int),y1) else (IR n q i pos).bind fun y2=>some (y2,0)) ?_) fun n=>rfl
  rw [h0];exact Ev.bind h1 (b:=fun _ y2=>some (y2,0)) (Ev.now fun n=>rfl)
 ·refine ⟨([],Hy q i pos),?_,rfl,fun h=>absurd h h0,fun _=>rfl⟩;refine Ev.eq (Ev.bind hE (b:=fun n y1=>bif (y1 != 0) then some (([]:List Int),y1) else (IR n q i pos).bind fun y2=>some (y2,0)) (Ev.now fun n=>?_)) fun n=>rfl
  have:(Hy q i pos != 0)=true:=by simpa using h0
  rw [this];rfl
end
end Go.Proofs.YtekkngkphejfcaaGreatDoor
namespace Go.Proofs.YtekkngkphejfcaaGreatDoor
abbrev zA3:=@forall_eq_or_imp
end Go.Proofs.YtekkngkphejfcaaGreatDoor
namespace Go.Proofs.YtekkngkphejfcaaGreatDoor
open Go.RowKit
structure OA (q:AA) (c:AB) (p:List Int):Prop where
 nz: ∀ k,k<c.cells.length -> AT c p k≠0
 ok:LS q c p
 left: ∀ k,k<c.cells.length -> ∃ s,tb (AT c p k) s=true/\ ¬ CT q c p k s
theorem RC {α:Type} {f g:α -> Bool}: ∀ (l:List α),(∀ x∈l,f x=true -> g x=true) -> l.countP f<=l.countP g
 | [],_=>yf _
 | x::l,h=>by
  have h1:=RC l fun y hy=>h y (yo _ hy)
  have h2:=h x zM;rw [z8,z8];cases hf:f x
  ·simp only [yt,zAA];omega
  ·rw [h2 hf];simp only [zE];omega
theorem RB {α:Type} {f g:α -> Bool} {a:α} (hf:f a=false) (hg:g a=true): ∀ (l:List α),(∀ x∈l,f x=true -> g x=true) -> a∈l -> l.countP f+1<=l.countP g
 | [],_,h=>by cases h
 | x::l,h,ha=>by
  rw [z8,z8];rcases yd.1 ha with rfl | ha
  ·have h1:=RC l fun y hy=>h y (yo _ hy)
   rw [hf,hg,yC rfl];simp only [yt,zAA];omega
  ·have h1:=RB hf hg l (fun y hy=>h y (yo _ hy)) ha;have h2:=h x zM;cases hx:f x
   ·simp only [yt,zAA];omega
   ·rw [h2 hx];simp only [zE];omega
theorem iB {f g:Nat -> Bool} {m:Nat} (h: ∀ a,a<m -> f a=true -> g a=true):cnt f m<=cnt g m:=by
 unfold cnt;have:=RC (f:=f) (g:=g) (List.range m) fun x hx=>h x (yP.1 hx)
 omega
theorem iA {f g:Nat -> Bool} {m a:Nat} (h: ∀ a,a<m -> f a=true -> g a=true) (ha:a<m) (hf:f a=false) (hg:g a=true):cnt f m+1<=cnt g m:=by
 unfold cnt;have:=RB hf hg (List.range m) (fun x hx=>h x (yP.1 hx)) (yP.2 ha);omega
theorem a8 {k:Nat} {x:Int} (hx:Sm k x) (hk:k<=16) (h:K4 x=true) {s t:Nat} (hs:tb x s=true) (ht:tb x t=true):s=t:=by
 have fm:=LJ (k:=k) (yO hk (by decide));obtain ⟨m,rfl⟩:=zAM hx.1;have AK:m<18446744073709551616:=by have:=hx.2;omega
 have lo: ∀ {u:Nat},tb (m:Int) u=true -> u<64:=fun {u} hu=>zG fun h=>by rw [HI h] at hu;cases hu
 have h0:m≠0:=by
  rintro rfl;exact IG hs
 have e:m&&& (m-1)=0:=by
  unfold K4 at h;rw [yk] at h;apply Nat.eq_of_testBit_eq;intro u;rw [Nat.zero_testBit,Nat.testBit_and];rcases zd u 64 with hu | hu
  ·have h2:=(Mb (GC .and _ _)).1 h u hu;have e1:(m:Int)-1=((m-1:Nat):Int):=by omega
   rw [IF,e1,Kw _ _ hu,Kw _ _ hu] at h2;exact h2
  ·rw [zAx (yN AK (zAb (n:=2) (by decide) hu)),zh]
 have S:=ah m AK h0;rw [e,af] at S
 have mem: ∀ {u:Nat},tb (m:Int) u=true -> u∈D1 m:=fun {u} hu=>by
  unfold D1;rw [zx,yP];exact ⟨lo hu,by rw [←Kw m u (lo hu)];exact hu⟩
 have h1:=mem hs;have h2:=mem ht;rw [S,yV] at h1 h2;rw [h1,h2]
section
variable {q:AA} {i:Int} {p p':List Int}
theorem XL {c:AB} {x:Int} (h:bits .andNot .i64 x c.set=0) {s:Nat} (hs:tb x s=true):tb c.set s=true:=by
 have Fr:s<64:=zG fun h=>by rw [HI h] at hs;cases hs
 have:=(Mb (GC .andNot _ _)).1 h s Fr;rw [Kx,hs,ye,Bool.not_eq_false'] at this;exact this
theorem ZM {c:AB} {x x':Int} (h: ∀ s,tb x' s=true -> tb x s=true) (hx:bits .andNot .i64 x c.set=0):bits .andNot .i64 x' c.set=0:=
 (Mb (GC .andNot _ _)).2 fun s hs=>by
  rw [Kx];cases h1:tb x' s with
  | false=>rfl
  | true=>rw [XL hx (h s h1)];rfl
theorem ZL {c:AB} {x x':Int} (h: ∀ s,tb x' s=true -> tb x s=true) (hx:bits .and .i64 x' c.set≠0):bits .and .i64 x c.set≠0:=by
 obtain ⟨s,hs,h1⟩:=(Et (GC .and _ _)).1 hx;rw [IF,yG] at h1;exact (Et (GC .and _ _)).2 ⟨s,hs,by rw [IF,h s h1.1,h1.2];rfl⟩
theorem iq {c:AB} {x:Int} {s:Nat} (h1:tb x s=true) (h2:tb c.set s=true):bits .and .i64 x c.set≠0:=by
 have Fr:s<64:=zG fun h=>by rw [HI h] at h1;cases h1
 exact (Et (GC .and _ _)).2 ⟨s,Fr,by rw [IF,h1,h2];rfl⟩
theorem xa {c:AB} {x:Int} {s:Nat} (h1:tb x s=true) (h2:tb c.set s=false):bits .andNot .i64 x c.set≠0:=by
 have Fr:s<64:=zG fun h=>by rw [HI h] at h1;cases h1
 exact (Et (GC .andNot _ _)).2 ⟨s,Fr,by rw [Kx,h1,h2];rfl⟩
def FV (c:AB) (p' p:List Int):Prop:=∀ k,k<c.cells.length -> ∀ s,tb (AT c p' k) s=true -> tb (AT c p k) s=true
theorem wC {c:AB} {k:Nat} (W:B0 c k p) (hS:FV c p' p) (B5: ∀ a,a<c.cells.length -> Bl (AT c p' a)) (NT: ∀ a,a<c.cells.length -> AT c p' a≠0) {a s:Nat} (h:Ny c p a s):Ny c p' a s:=by
 obtain ⟨b,hb,AV,h1,h2⟩:=h;have hx:=W.at hb
 have e:AT c p' b=AT c p b:=by
  refine Jk (B5 b hb) (hx.in64 (by have:=W.k;omega)) fun t _=>?_
  obtain ⟨u,_,hu⟩:=(Et (B5 b hb)).1 (NT b hb);have rN:u=s:=a8 hx W.k h1 (hS b hb u hu) h2;subst rN;cases ht:tb (AT c p b) t with
  | true=>
   have:t=u:=a8 hx W.k h1 ht h2;subst this;exact hu
  | false=>
   cases Tu:tb (AT c p' b) t with
   | false=>rfl
   | true=>rw [hS b hb t Tu] at ht;cases ht
 refine ⟨b,hb,AV,?_,?_⟩
 ·rw [e];exact h1
 ·rw [e];exact h2
theorem dM {c:AB} (hS:FV c p' p) {a:Nat} (ha:a<c.cells.length) (h:Dr c p a=true):Dr c p' a=true:=by
 unfold Dr at h ⊢;rw [yk] at h ⊢;exact ZM (hS a ha) h
theorem dT {c:AB} (hS:FV c p' p) (B5: ∀ a,a<c.cells.length -> Bl (AT c p' a)) (NT: ∀ a,a<c.cells.length -> AT c p' a≠0) {a:Nat} (ha:a<c.cells.length) (h:El c p' a=true):El c p a=true:=by
 unfold El at h ⊢;rw [ya,zl] at h ⊢;right;rcases h with h | h
 ·unfold Dr at h;rw [yk] at h;obtain ⟨u,_,hu⟩:=(Et (B5 a ha)).1 (NT a ha);exact iq (hS a ha u hu) (XL h hu)
 ·exact ZL (hS a ha) h
theorem wO {c:AB} (hS:FV c p' p) (B5: ∀ a,a<c.cells.length -> Bl (AT c p' a)) (NT: ∀ a,a<c.cells.length -> AT c p' a≠0) (B4:Ke c p'=true):
 Ke c p=true/\ ∀ a s,a<c.cells.length -> tb (AT c p' a) s=true -> Hv c p a s=true -> Hv c p' a s=true:=by
 have m1:=iB (f:=Dr c p) (g:=Dr c p') (m:=c.cells.length) fun a ha=>dM hS ha
 have m2:=iB (f:=El c p') (g:=El c p) (m:=c.cells.length) fun a ha=>dT hS B5 NT ha
 unfold Ke at B4 ⊢;rw [yG,yv,yv,zw,zw] at B4 ⊢;refine ⟨⟨by omega,by omega⟩,fun a s ha hs h=>?_⟩;unfold Hv at h ⊢;rw [ya,yG,yG,yG,yG,yk,yk,zl,zl,yv] at h ⊢;rcases h with ⟨⟨h1,h2⟩,h3⟩ | ⟨⟨h1,h2⟩,h3⟩
 ·refine .inl ⟨⟨by omega,fun h4=>?_⟩,h3⟩;have:=iA (f:=Dr c p) (g:=Dr c p') (m:=c.cells.length) (a:=a) (fun a ha=>dM hS ha) ha (by unfold Dr;exact zH.2 h2) (by unfold Dr;exact yk.2 h4);omega
 ·refine .inr ⟨⟨by omega,fun h4=>?_⟩,h3⟩
  have:=iA (f:=El c p') (g:=El c p) (m:=c.cells.length) (a:=a) (fun a ha=>dT hS B5 NT ha) ha
   (by
    unfold El Dr;rw [Bool.or_eq_false_iff,zH,bne_eq_false_iff_eq];exact ⟨xa hs h3,h4⟩) (by unfold El;rw [ya,zl];exact .inr h2)
  omega
theorem Vf {f g:Nat -> Int}: ∀ {m:Nat},(∀ a,a<m -> f a<=g a) -> EJ f m<=EJ g m/\ ∀ a,a<m -> EJ f m-f a<=EJ g m-g a
 | 0,_=>⟨zV _,fun a ha=>absurd ha (yT a)⟩
 | m+1,h=>by
  obtain ⟨h1,h2⟩:=Vf (m:=m) fun a ha=>h a (by omega)
  have hm:=h m (by omega);have e: ∀ f:Nat -> Int,EJ f (m+1)=EJ f m+f m:=fun f=>rfl
  rw [e,e];refine ⟨by omega,fun a ha=>?_⟩;rcases yR.1 ha with ha | rfl
  ·have:=h2 a ha;omega
  ·omega
theorem Wq {n:Int}: ∀ (l:List Int) (a:Int),n<=l.foldl (JD q) a↔n<=a/\ ∀ e∈l,n<=q.values.getD e.toNat 0
 | [],a=>by simp
 | e::l,a=>by
  rw [zk,Wq l];unfold JD;simp only [yd,zA3];split <;> constructor <;> rintro ⟨h1,h2⟩
  ·exact ⟨by omega,h1,h2⟩
  ·exact ⟨h2.1,h2.2⟩
  ·exact ⟨h1,by omega,h2⟩
  ·exact ⟨h1,h2.2⟩
theorem YB {n:Int}: ∀ (l:List Int) (a:Int),l.foldl (JP q) a<=n↔a<=n/\ ∀ e∈l,q.values.getD e.toNat 0<=n
 | [],a=>by simp
 | e::l,a=>by
  rw [zk,YB l];unfold JP;simp only [yd,zA3];split <;> constructor <;> rintro ⟨h1,h2⟩
  ·exact ⟨by omega,h1,h2⟩
  ·exact ⟨h2.1,h2.2⟩
  ·exact ⟨h1,by omega,h2⟩
  ·exact ⟨h1,h2.2⟩
theorem Vk {k:Nat} (hk:k<=16) {x x':Int} (hx:Sm k x) (XY:Sm k x') (h: ∀ s,tb x' s=true -> tb x s=true): ∀ e∈BO x',e∈BO x:=fun e he=>by
 obtain ⟨s,rfl,h1,h2⟩:=(Fi XY (yO hk (by decide))).1 he;exact (Fi hx (yO hk (by decide))).2 ⟨s,rfl,h1,h s h2⟩
theorem j9 {c:AB} {k:Nat} (W:B0 c k p) (W':B0 c k p') (hS:FV c p' p) (B4:Jl q c p'=true):
 Jl q c p=true/\ ∀ a s,a<c.cells.length -> HK q c p a s=true -> HK q c p' a s=true:=by
 have sub: ∀ a,a<c.cells.length -> ∀ e∈BO (AT c p' a),e∈BO (AT c p a):=fun a ha=>Vk W.k (W.at ha) (W'.at ha) (hS a ha)
 have l1: ∀ a,a<c.cells.length -> D7 q (AT c p a)<=D7 q (AT c p' a):=fun a ha=>by
  have h:=(Wq (q:=q) (BO (AT c p a)) 100).1 (zV _);exact (Wq (BO (AT c p' a)) 100).2 ⟨h.1,fun e he=>h.2 e (sub a ha e he)⟩
 have l2: ∀ a,a<c.cells.length -> EA q (AT c p' a)<=EA q (AT c p a):=fun a ha=>by
  have h:=(YB (q:=q) (BO (AT c p a)) (-1)).1 (zV _);exact (YB (BO (AT c p' a)) (-1)).2 ⟨h.1,fun e he=>h.2 e (sub a ha e he)⟩
 have t1:=Vf (f:=fun a=>D7 q (AT c p a)) (g:=fun a=>D7 q (AT c p' a)) (m:=c.cells.length) l1;have t2:=Vf (f:=fun a=>EA q (AT c p' a)) (g:=fun a=>EA q (AT c p a)) (m:=c.cells.length) l2;have e1: ∀ p,JB q c p=EJ (fun a=>D7 q (AT c p a)) c.cells.length:=fun _=>rfl
 have e2: ∀ p,JO q c p=EJ (fun a=>EA q (AT c p a)) c.cells.length:=fun _=>rfl
 unfold Jl at B4 ⊢;rw [yG,yv,yv,zw,zw,e1,e2] at B4 ⊢;refine ⟨⟨by omega,by omega⟩,fun a s ha h=>?_⟩;unfold HK at h ⊢;rw [ya,yQ,yQ,e1,e2] at h ⊢;have h1:=t1.2 a ha;have h2:=t2.2 a ha;rcases h with h | h
 ·exact .inl (by omega)
 ·exact .inr (by omega)
theorem Va {n b:Int}: ∀ (l:List Int) (a:Int),n<=l.foldl (Ma q b) a↔n<=a/\ ∀ e∈l,q.values.getD e.toNat 0>b -> n<=q.values.getD e.toNat 0
 | [],a=>by simp
 | e::l,a=>by
  rw [zk,Va l];unfold Ma;simp only [yd,zA3];split
  ·split <;> constructor <;> rintro ⟨h1,h2⟩
   ·exact ⟨by omega,fun _=>h1,h2⟩
   ·exact ⟨h2.1 (by assumption),h2.2⟩
   ·exact ⟨h1,fun _=>by omega,h2⟩
   ·exact ⟨h1,h2.2⟩
  ·constructor <;> rintro ⟨h1,h2⟩
   ·exact ⟨h1,fun h=>absurd h (by assumption),h2⟩
   ·exact ⟨h1,h2.2⟩
theorem Yn {n b:Int}: ∀ (l:List Int) (a:Int),l.foldl (MC q b) a<=n↔a<=n/\ ∀ e∈l,q.values.getD e.toNat 0<b -> q.values.getD e.toNat 0<=n
 | [],a=>by simp
 | e::l,a=>by
  rw [zk,Yn l];unfold MC;simp only [yd,zA3];split
  ·split <;> constructor <;> rintro ⟨h1,h2⟩
   ·exact ⟨by omega,fun _=>h1,h2⟩
   ·exact ⟨h2.1 (by assumption),h2.2⟩
   ·exact ⟨h1,fun _=>by omega,h2⟩
   ·exact ⟨h1,h2.2⟩
  ·constructor <;> rintro ⟨h1,h2⟩
   ·exact ⟨h1,fun h=>absurd h (by assumption),h2⟩
   ·exact ⟨h1,h2.2⟩
theorem iR {c:AB} {k:Nat} (W:B0 c k p) (W':B0 c k p') (hS:FV c p' p): ∀ a,a<=c.cells.length -> JW q c p a<=JW q c p' a
 | 0,_=>zV _
 | a+1,ha=>by
  have ih:=iR W W' hS a (by omega);have h:=(Va (q:=q) (b:=JW q c p a) (BO (AT c p a)) 100).1 (zV _);exact (Va (BO (AT c p' a)) 100).2 ⟨h.1,fun e he hg=>h.2 e (Vk W.k (W.at (by omega)) (W'.at (by omega)) (hS a (by omega)) e he) (by omega)⟩
theorem iy {c:AB} {k:Nat} (W:B0 c k p) (W':B0 c k p') (hS:FV c p' p): ∀ m,m<=c.cells.length -> OG q c p' m<=OG q c p m
 | 0,_=>zV _
 | m+1,hm=>by
  have ih:=iy W W' hS m (by omega);have h:=(Yn (q:=q) (b:=OG q c p m) (BO (AT c p (c.cells.length-1-m))) (-1)).1 (zV _);exact (Yn (BO (AT c p' (c.cells.length-1-m))) (-1)).2 ⟨h.1,fun e he hg=>h.2 e (Vk W.k (W.at (by omega)) (W'.at (by omega)) (hS _ (by omega)) e he) (by omega)⟩
theorem ml {c:AB} {k:Nat} (W:B0 c k p) (W':B0 c k p') (hS:FV c p' p) {a s:Nat} (ha:a<c.cells.length) (h:IL q c p a s=true):IL q c p' a s=true:=by
 have h1:=iR (q:=q) W W' hS a (by omega);have h2:=iy (q:=q) W W' hS (c.cells.length-(a+1)) (by omega);unfold IL H6 at h ⊢;rw [ya,yQ,yQ] at h ⊢;rcases h with h | h
 ·exact .inl (by omega)
 ·exact .inr (by omega)
theorem Wy {c:AB} (hS:FV c p' p) {a:Nat} (ha:a<c.cells.length) {inn:Bool} (h:kd c p' a inn=true):kd c p a inn=true:=by
 unfold kd at h ⊢;cases inn
 ·rw [yB,zl] at h ⊢;exact fun h2=>h (ZM (hS a ha) h2)
 ·rw [yF,zl] at h ⊢;exact ZL (hS a ha) h
theorem WC {c:AB} (hS:FV c p' p): ∀ (a:Nat),a<=c.cells.length -> ∀ t,Ep c p' a t -> Ep c p a t
 | 0,_,t,h=>h
 | a+1,ha,t,⟨s,inn,h1,h2,h3⟩=>⟨s,inn,WC hS a (by omega) s h1,h2,Wy hS (by omega) h3⟩
theorem de {c:AB} (hS:FV c p' p): ∀ (m:Nat),m<=c.cells.length -> ∀ t,H8 c p' m t -> H8 c p m t
 | 0,_,t,h=>h
 | m+1,hm,t,⟨h1,u,inn,h2,h3,h4⟩=>⟨WC hS _ (by omega) t h1,u,inn,h2,Wy hS (by omega) h3,de hS m (by omega) u h4⟩
theorem iI {c:AB} (hS:FV c p' p) {a:Nat} (ha:a<c.cells.length) {inn:Bool} (h:JU c p' a inn):JU c p a inn:=by
 obtain ⟨s,t,h1,h2,h3,h4⟩:=h;exact ⟨s,t,WC hS a (by omega) s h1,h2,Wy hS ha h3,de hS _ (by omega) t h4⟩
theorem mG {c:AB} (hS:FV c p' p) {a s:Nat} (ha:a<c.cells.length) (h:Iw c p a s):Iw c p' a s:=
 h.elim (fun h=>.inl ⟨fun h2=>h.1 (iI hS ha h2),h.2⟩) fun h=>.inr ⟨fun h2=>h.1 (iI hS ha h2),h.2⟩
theorem cV {ok:Nat -> Nat -> Bool} {c:AB} (hS:FV c p' p) (h2:c.cells.length=2) {a s:Nat} (h:F1 ok c p a s):F1 ok c p' a s:=by
 unfold F1 at h ⊢;split
 ·rename_i h0;rw [yC h0] at h;exact fun ⟨t,h3,h4⟩=>h ⟨t,hS 1 (by omega) t h3,h4⟩
 ·rename_i h0;rw [yM h0] at h;exact fun ⟨t,h3,h4⟩=>h ⟨t,hS 0 (by omega) t h3,h4⟩
structure Km (c:AB) (q:AA) (p p':List Int):Prop where
 W:GF c q p
 W':GF c q p'
 len:p.length=p'.length
 sub: ∀ j,j<p.length -> ∀ s,tb (p'.getD j 0) s=true -> tb (p.getD j 0) s=true
section
variable {c:AB}
theorem Km.pB (H:Km c q p p'): ∀ v:Int,(pB c p').getD v.toNat false=true -> (pB c p).getD v.toNat false=true:=fun v h=>by
 have hl:=H.len
 by_cases hv:v.toNat<p.length
 ·rw [Pd (by omega),zl] at h;rw [Pd hv,zl];exact ZL (H.sub _ hv) h
 ·rw [u8,yx (by rw [Eg];omega)] at h;cases h
theorem Km.cB (H:Km c q p p'): ∀ v:Int,(cB c p).getD v.toNat false=true -> (cB c p').getD v.toNat false=true:=fun v h=>by
 have hl:=H.len
 by_cases hv:v.toNat<p.length
 ·rw [RG hv,yk] at h;rw [RG (by omega),yk];exact ZM (H.sub _ hv) h
 ·rw [u8,yx (by rw [EG];omega)] at h;cases h
theorem cq {x:List Int} {j s:Nat} (hj:j<x.length) (h1:tb (x.getD j 0) s=true) (h2:tb c.set s=true):(pB c x).getD j false=true:=by
 rw [Pd hj,zl];exact iq h1 h2
theorem bB {x:List Int} {j s:Nat} (hj:j<x.length) (h:(cB c x).getD j false=true) (h1:tb (x.getD j 0) s=true):tb c.set s=true:=by
 rw [RG hj,yk] at h;exact XL h h1
theorem keep (W:GF c q p') (Lu: ∀ v,v<p'.length -> ∃ s,tb (p'.getD v 0) s=true/\ ¬ E9 c q p' v s) {r:Int} (h0:0<=r) (hF:FW (cB c p') r) {v:Int} (Ia:0<=v) (Bb:v<(p'.length:Int)) (hc:(cB c p').getD v.toNat false=true):Rc q.nbrs (pB c p') r v:=by
 refine Classical.byContradiction fun h=>?_
 obtain ⟨s,h1,h2⟩:=Lu v.toNat (by omega);have e:((v.toNat:Nat):Int)=v:=by omega
 exact h2 ⟨W.cp (by omega) hc,bB (by omega) hc h1,r,h0,hF,by rw [e];exact h⟩
theorem FW.ex (W:GF c q p') {v:Int} (Ia:0<=v) (Bb:v<(p'.length:Int)) (hc:(cB c p').getD v.toNat false=true): ∃ r:Int,0<=r/\ r<(p'.length:Int)/\ FW (cB c p') r/\ (cB c p').getD r.toNat false=true:=by
 obtain ⟨r,_,hF⟩:=Tm (l:=cB c p') (by rw [EG];exact W.l1);rcases hF with ⟨h1,h2⟩ | ⟨h1,h2,h3,h4⟩
 ·rw [h2 v.toNat (by rw [EG];omega)] at hc;cases hc
 ·rw [EG] at h2;exact ⟨r,h1,h2,.inr ⟨h1,by rw [EG];exact h2,h3,h4⟩,h3⟩
theorem FW.at {r:Int} (h0:0<=r) (h:FW (cB c p) r):r<(p.length:Int)/\ (cB c p).getD r.toNat false=true:=by
 rcases h with ⟨h1,_⟩ | ⟨_,h1,h2,_⟩
 ·omega
 ·rw [EG] at h1;exact ⟨h1,h2⟩
theorem gN (H:Km c q p p') (Lu: ∀ v,v<p'.length -> ∃ s,tb (p'.getD v 0) s=true/\ ¬ E9 c q p' v s) {a s:Nat} (ha:a<p.length) (hs:tb (p'.getD a 0) s=true) (h:E9 c q p a s):E9 c q p' a s:=by
 obtain ⟨h1,h2,r,DP,hF,h3⟩:=h;have hl:=H.len;have gl:=H.W'.gl;obtain ⟨QM,rq⟩:=hF.at DP;have eN:=H.cB r rq;obtain ⟨r',h4,h5,L5,h6⟩:=FW.ex H.W' DP (by omega) eN;refine ⟨cq (by omega) hs h2,h2,r',h4,L5,fun h7=>h3 ?_⟩;have h8:=keep H.W' Lu h4 L5 DP (by omega) eN;have h9:=h8.symm H.W'.g.gr h4 (by omega) (H.W'.cp (by omega) h6);exact (h9.trans h7).mono H.pB
theorem xP {g:List (List Int)} {inn:List Bool} {u a v:Int} (tU: ¬ Rc g inn u a) (ha:0<=a) (G:Gr g) (Xc:0<=u) (GS:u<(g.length:Int)) (h:Rc g inn u v):Rc g (inn.set a.toNat false) u v:=by
 induction h with
 | start=>exact .start
 | @step x y h hb hi ih=>
  refine .step ih hb ?_;have hr:=(Rc.step h hb hi).rng G Xc GS
  have AV:a.toNat≠y.toNat:=fun e=>tU (by
   have e2:a=y:=by omega
   rw [e2];exact Rc.step h hb hi)
  rw [u8,zT AV,←u8];exact hi
theorem wZ (H:Km c q p p') (Lu: ∀ v,v<p'.length -> ∃ s,tb (p'.getD v 0) s=true/\ ¬ Hx c q p' v s) {a s:Nat} (ha:a<p.length) (hs:tb (p'.getD a 0) s=true) (h:Hx c q p a s):Hx c q p' a s:=by
 have hl:=H.len;have gl:=H.W'.gl;have gl1:=H.W.gl
 have QS: ∀ v,v<p'.length -> ∃ s,tb (p'.getD v 0) s=true/\ ¬ E9 c q p' v s:=fun v hv=>by
  obtain ⟨t,h1,h2⟩:=Lu v hv;exact ⟨t,h1,fun h=>h2 (.inl h)⟩
 rcases h with h | ⟨h1,h2,⟨u,v,rQ,rK,hu,hv,h3,h4,h5⟩,h6⟩
 ·exact .inl (gN H QS ha hs h)
 ·have Ib:=h3.rng H.W.g.gr (by omega) (by omega);have Hh:=h4.rng H.W.g.gr (by omega) (by omega);have BR:=H.cB u hu;have Cd:=H.cB v hv;have pu:=H.W'.cp (j:=u.toNat) (by omega) BR;obtain ⟨r',h7,h8,L5,h9⟩:=FW.ex H.W' Ib.1 (by omega) BR;have ku:=keep H.W' QS h7 L5 Ib.1 (by omega) BR;have kv:=keep H.W' QS h7 L5 Hh.1 (by omega) Cd;have uv:Rc q.nbrs (pB c p') u v:=(ku.symm H.W'.g.gr h7 (by omega) (H.W'.cp (by omega) h9)).trans kv
  have dN: ∀ w:Int,((pB c p').set (a:Int).toNat false).getD w.toNat false=true -> ((pB c p).set (a:Int).toNat false).getD w.toNat false=true:=fun w hw=>by
   have la:(pB c p').length=p'.length:=Eg;have lb:(pB c p).length=p.length:=Eg;rw [VA (by omega)] at hw ⊢;split
   ·rename_i e;rw [yC e] at hw;exact hw
   ·rename_i e;rw [yM e] at hw;exact H.pB w hw
  have ua:Rc q.nbrs (pB c p') u a:=Classical.byContradiction fun L6=>h5 ((xP L6 (by omega) H.W'.g.gr Ib.1 (by omega) uv).mono dN)
  have au:=ua.symm H.W'.g.gr Ib.1 (by omega) pu;refine .inr ⟨?_,?_,⟨u,v,rQ,rK,BR,Cd,au,au.trans uv,fun L6=>h5 (L6.mono dN)⟩,h6⟩
  ·have:=ua.isIn pu
   rwa [yH] at this
  ·cases hc:(cB c p').getD a false with
   | false=>rfl
   | true=>rw [bB (by omega) hc hs] at h6;cases h6
theorem pV (H:Km c q p p') (B4:Pw c q p') (Lu: ∀ v,v<p'.length -> ∃ s,tb (p'.getD v 0) s=true/\ ¬ NA c q p' v s):Pw c q p/\ ∀ a s,a<p.length -> tb (p'.getD a 0) s=true -> NA c q p a s -> NA c q p' a s:=by
 have hl:=H.len
 have QS: ∀ v,v<p'.length -> ∃ s,tb (p'.getD v 0) s=true/\ ¬ E9 c q p' v s:=fun v hv=>by
  obtain ⟨t,h1,h2⟩:=Lu v hv;exact ⟨t,h1,fun h=>h2 (.inl h)⟩
 have cb: ∀ v:Nat,(cB c p).getD v false=true -> (cB c p').getD v false=true:=fun v h=>H.cB (v:Int) h
 have dP: ∀ v:Int,C7 q.nbrs (pB c p') v<=C7 q.nbrs (pB c p) v:=fun v=>RC _ fun x _ h=>H.pB x h
 have dC: ∀ v:Int,C7 q.nbrs (cB c p) v<=C7 q.nbrs (cB c p') v:=fun v=>RC _ fun x _ h=>H.cB x h
 refine ⟨fun v hv hc=>?_,fun a s ha hs h=>?_⟩
 ·have:=B4 v (by omega) (cb v hc);have h1:=dP v;have h2:=dC v;omega
 ·rcases h with h | ⟨v,hv,h1,h2,h3,h4⟩
  ·exact .inl (gN H QS ha hs h)
  ·have hk:=B4 v (by omega) (cb v h1);have e1:=dP v;have e2:=dC v;refine .inr ⟨v,by omega,cb v h1,h2,?_⟩;rcases h4 with ⟨h4,h5⟩ | ⟨h4,h5,h6⟩
   ·have hp:(pB c p').getD a false=true:=by
     cases hp:(pB c p').getD a false with
     | true=>rfl
     | false=>
      have:=RB (f:=fun x:Int=>(pB c p').getD x.toNat false) (g:=fun x:Int=>(pB c p).getD x.toNat false) (a:=(a:Int)) hp h3 (nb q.nbrs v) (fun x _ h=>H.pB x h) h2;have e3:C7 q.nbrs (pB c p') v+1<=C7 q.nbrs (pB c p) v:=this;omega
    exact ⟨hp,.inl ⟨by omega,h5⟩⟩
   ·have hp:=cq (c:=c) (by omega) hs h6
    have hc:(cB c p').getD a false=false:=by
     cases hc:(cB c p').getD a false with
     | false=>rfl
     | true=>
      have:=RB (f:=fun x:Int=>(cB c p).getD x.toNat false) (g:=fun x:Int=>(cB c p').getD x.toNat false) (a:=(a:Int)) h5 hc (nb q.nbrs v) (fun x _ h=>H.cB x h) h2;have e3:C7 q.nbrs (cB c p) v+1<=C7 q.nbrs (cB c p') v:=this;omega
    exact ⟨hp,.inr ⟨by omega,hc,h6⟩⟩
end
theorem mono (C:Be q i p) (C':Be q i p') (hS:FV (con q i) p' p) (hA:OA q (con q i) p'):
 LS q (con q i) p/\ ∀ k,k<(con q i).cells.length -> ∀ s,tb (AT (con q i) p' k) s=true -> CT q (con q i) p k s -> CT q (con q i) p' k s:=by
 have W:=C.work;have W':=C'.work;have B5: ∀ a,a<(con q i).cells.length -> Bl (AT (con q i) p' a):=fun a ha=>(W'.at ha).in64 (by have:=W'.k;omega)
 have kc:=ND (P0 C.kind);have Gq: ∀ {k:Int},(con q i).kind=k -> k≠2 -> k≠3 -> k≠9 -> LS q (con q i) p:=fun hk h2 h3 h9=>⟨fun h=>absurd (hk.symm.trans h) h2,fun h=>absurd (hk.symm.trans h) h3,hA.ok.2.2.1,fun h=>absurd (hk.symm.trans h) h9⟩
 have all: ∀ {hk:(con q i).kind=8∨(con q i).kind=9},Km (con q i) q p p':=fun {hk}=>by
  have hl:=C.len;have Dt:=C'.len
  have KM:B9 p'=false:=G9.2 fun j hj=>by
   have hk8:(con q i).cells.length=p'.length:=by
    have h:=C'.kind;unfold E3 at h;rcases hk with hk | hk <;> rw [hk] at h <;> simp at h <;> omega
   have:=hA.nz j (by omega)
   have e:AT (con q i) p' j=p'.getD j 0:=by
    unfold AT;rw [C'.cells.2.2 (by omega) j (by omega),yH]
   rwa [e] at this
  have A':=C'.all hk KM
  have KD: ∀ j,j<p.length -> ∀ s,tb (p'.getD j 0) s=true -> tb (p.getD j 0) s=true:=fun j hj s hs=>by
   have e: ∀ x:List Int,AT (con q i) x j=x.getD j 0:=fun x=>by
    unfold AT;rw [A'.id j (by omega),yH]
   have:=hS j (by rw [A'.len];omega) s (by rw [e];exact hs)
   rwa [e] at this
  have hd:B9 p=false:=G9.2 fun j hj=>by
   have h:=G9.1 KM j (by omega);obtain ⟨s,h1,h2⟩:=(Et ((C'.sm j (by omega)).in64 (by have:=W'.k;omega))).1 h;exact (Et ((C.sm j hj).in64 (by have:=W'.k;omega))).2 ⟨s,h1,KD j hj s h2⟩
  exact ⟨C.all hk hd,A',by omega,KD⟩
 rcases kc with hk | hk | hk | hk | hk | hk | hk | hk | hk
 ·refine ⟨Gq hk (by decide) (by decide) (by decide),fun k Bi s hs h=>?_⟩;unfold CT at h ⊢;rw [hk] at h ⊢;simp at h ⊢;exact wC W hS B5 hA.nz h
 ·have h2:=wO hS B5 hA.nz (hA.ok.1 hk);refine ⟨⟨fun _=>h2.1,fun h=>absurd (hk.symm.trans h) (by decide),hA.ok.2.2.1,fun h=>absurd (hk.symm.trans h) (by decide)⟩,fun k Bi s hs h=>?_⟩;unfold CT at h ⊢;rw [hk] at h ⊢;simp at h ⊢;exact h2.2 k s Bi hs h
 ·have h2:=j9 (q:=q) W W' hS (hA.ok.2.1 hk);refine ⟨⟨fun h=>absurd (hk.symm.trans h) (by decide),fun _=>h2.1,hA.ok.2.2.1,fun h=>absurd (hk.symm.trans h) (by decide)⟩,fun k Bi s hs h=>?_⟩;unfold CT at h ⊢;rw [hk] at h ⊢;simp at h ⊢;exact h2.2 k s Bi h
 ·refine ⟨Gq hk (by decide) (by decide) (by decide),fun k Bi s hs h=>?_⟩;unfold CT at h ⊢;rw [hk] at h ⊢;simp at h ⊢;exact ml W W' hS Bi h
 ·refine ⟨Gq hk (by decide) (by decide) (by decide),fun k Bi s hs h=>?_⟩;unfold CT at h ⊢;rw [hk] at h ⊢;simp at h ⊢;exact mG hS Bi h
 ·refine ⟨Gq hk (by decide) (by decide) (by decide),fun k Bi s hs h=>?_⟩;have h2:=C.two (.inl hk);unfold CT at h ⊢;rw [hk] at h ⊢;simp at h ⊢;exact cV hS h2 h
 ·refine ⟨Gq hk (by decide) (by decide) (by decide),fun k Bi s hs h=>?_⟩;have h2:=C.two (.inr hk);unfold CT at h ⊢;rw [hk] at h ⊢;simp at h ⊢;exact cV hS h2 h
 ·have H:=all (hk:=.inl hk)
  have e: ∀ (x:List Int) (j:Nat),j<p.length -> AT (con q i) x j=x.getD j 0:=fun x j hj=>by
   unfold AT;rw [H.W.id j hj,yH]
  have Ae:=H.W.len;have hl:=H.len;have lc: ∀ x a s,CT q (con q i) x a s↔Hx (con q i) q x a s:=fun x a s=>by unfold CT;rw [hk];simp
  refine ⟨Gq hk (by decide) (by decide) (by decide),fun k Bi s hs h=>?_⟩;rw [lc] at h ⊢;rw [e _ _ (by omega)] at hs;refine wZ H (fun v hv=>?_) (by omega) hs h;obtain ⟨t,h1,h2⟩:=hA.left v (by omega);rw [e _ _ (by omega)] at h1;exact ⟨t,h1,fun h3=>h2 ((lc _ _ _).2 h3)⟩
 ·have H:=all (hk:=.inr hk)
  have e: ∀ (x:List Int) (j:Nat),j<p.length -> AT (con q i) x j=x.getD j 0:=fun x j hj=>by
   unfold AT;rw [H.W.id j hj,yH]
  have Ae:=H.W.len;have hl:=H.len;have lc: ∀ x a s,CT q (con q i) x a s↔NA (con q i) q x a s:=fun x a s=>by unfold CT;rw [hk];simp
  have h2:=pV H (hA.ok.2.2.2 hk) fun v hv=>by
   obtain ⟨t,h1,h2⟩:=hA.left v (by omega);rw [e _ _ (by omega)] at h1;exact ⟨t,h1,fun h3=>h2 ((lc _ _ _).2 h3)⟩
  refine ⟨⟨fun h=>absurd (hk.symm.trans h) (by decide),fun h=>absurd (hk.symm.trans h) (by decide),hA.ok.2.2.1,fun _=>h2.1⟩,fun k Bi s hs h=>?_⟩;rw [lc] at h ⊢;rw [e _ _ (by omega)] at hs;exact h2.2 k s (by omega) hs h
end
end Go.Proofs.YtekkngkphejfcaaGreatDoor
namespace Go.Proofs.YtekkngkphejfcaaGreatDoor
open Go.RowKit
section
variable {q:AA} {i:Int} {pos x:List Int}
theorem PR.sub {c:AB} (h:PR q c pos x) {j s:Nat} (hs:tb (x.getD j 0) s=true):j<pos.length/\ tb (pos.getD j 0) s=true:=by
 have hj:j<pos.length:=by
  refine zG fun CW=>?_
  rw [u8,yx (by have:=h.len;omega)] at hs;exact IG hs
 refine ⟨hj,?_⟩
 by_cases hA:HH q c pos
 ·exact (((h.live hA j hj).2 s).1 hs).1
 ·rw [h.dead hA,Kr] at hs;exact absurd hs IG
theorem PR.in64 {c:AB} (h:PR q c pos x) (j:Nat):Bl (x.getD j 0):=by
 by_cases hA:HH q c pos
 ·by_cases hj:j<pos.length
  ·exact (h.live hA j hj).1
  ·rw [u8,yx (by have:=h.len;omega)];exact ⟨by decide,by decide⟩
 ·rw [h.dead hA];exact VL j
theorem Sr (hv:CY q=true) {y:List Int}:posOk q y=true↔(y.length:Int)=q.cells/\ ∀ j,j<y.length -> Sm q.symbols.toNat (y.getD j 0):=by
 unfold posOk;rw [yG,yk,yL];constructor
 ·rintro ⟨h1,h2⟩;refine ⟨h1,fun j hj=>?_⟩;have hm:y.getD j 0∈y:=by rw [u8,xz hj];exact yZ hj
  have:=h2 _ hm;rw [yG,yQ,yQ] at this;exact this
 ·rintro ⟨h1,h2⟩;refine ⟨h1,fun z hz=>?_⟩;obtain ⟨j,hj,rfl⟩:=zX hz;have:=h2 j hj;rw [u8,xz hj] at this;rw [yG,yQ,yQ];exact this
end
section
variable {q:AA} {i:Int} {p p' x z:List Int}
theorem jB (C:Be q i p) {k s:Nat} (hk:k<(con q i).cells.length):LC q (con q i) p ((con q i).cells.getD k 0).toNat s↔CT q (con q i) p k s:=by
 constructor
 ·rintro ⟨a,ha,e,h⟩;have h1:=C.work.cells a ha;have h2:=C.work.cells k hk;have Aw:=C.cells.2.1;have e2:(con q i).cells.getD a 0=(con q i).cells.getD k 0:=by omega
  rw [u8,xz ha,u8,xz hk] at e2;have e2:(con q i).cells[a]=(con q i).cells[k]:=e2;have hp:=List.pairwise_iff_getElem.1 Aw
  have:a=k:=by
   rcases Nat.lt_trichotomy a k with h3 | h3 | h3
   ·exact absurd e2 (hp a k ha hk h3)
   ·exact h3
   ·exact absurd e2.symm (hp k a hk ha h3)
  subst this;exact h
 ·intro h;exact ⟨k,hk,rfl,h⟩
theorem VF (C:Be q i p):HH q (con q i) p↔(∀ j,j<p.length -> p.getD j 0≠0)/\ OA q (con q i) p:=by
 have W:=C.work;constructor
 ·intro h;refine ⟨h.nz,fun k hk=>h.nz _ (by have:=W.cells k hk;omega),h.ok,fun k hk=>?_⟩;obtain ⟨s,_,h1,h2⟩:=h.left ((con q i).cells.getD k 0).toNat (by have:=W.cells k hk;omega);exact ⟨s,h1,fun h3=>h2 ((jB C hk).2 h3)⟩
 ·rintro ⟨h1,h2⟩;refine ⟨h1,h2.ok,fun j hj=>?_⟩
  by_cases JI: ∃ k,k<(con q i).cells.length/\ ((con q i).cells.getD k 0).toNat=j
  ·obtain ⟨k,hk,rfl⟩:=JI;obtain ⟨s,h3,h4⟩:=h2.left k hk;exact ⟨s,zG fun h=>(by rw [HI h] at h3;cases h3),h3,fun h5=>h4 ((jB C hk).1 h5)⟩
  ·obtain ⟨s,h3,h4⟩:=(Et ((C.sm j hj).in64 (by have:=W.k;omega))).1 (h1 j hj);exact ⟨s,h3,h4,fun ⟨a,ha,e,_⟩=>JI ⟨a,ha,e⟩⟩
theorem cy (C:Be q i p) (C':Be q i p') (hS:FV (con q i) p' p) (hA:OA q (con q i) p'):OA q (con q i) p/\ ∀ k,k<(con q i).cells.length -> ∀ s,tb (AT (con q i) p' k) s=true -> CT q (con q i) p k s -> CT q (con q i) p' k s:=by
 obtain ⟨h1,h2⟩:=mono C C' hS hA;have W:=C.work;refine ⟨⟨fun k hk=>?_,h1,fun k hk=>?_⟩,h2⟩
 ·obtain ⟨s,h3,_⟩:=hA.left k hk;exact (Et ((W.at hk).in64 (by have:=W.k;omega))).2 ⟨s,zG fun h=>(by rw [HI h] at h3;cases h3),hS k hk s h3⟩
 ·obtain ⟨s,h3,h4⟩:=hA.left k hk;exact ⟨s,hS k hk s h3,fun h5=>h4 (h2 k hk s h3 h5)⟩
theorem n7 (C:Be q i p) (C':Be q i p') (KD: ∀ j s,tb (p'.getD j 0) s=true -> tb (p.getD j 0) s=true) (hx:PR q (con q i) p x) (hz:PR q (con q i) p' z): ∀ j s,tb (z.getD j 0) s=true -> tb (x.getD j 0) s=true:=by
 intro j s h;have hl:=C.len;have Dt:=C'.len
 by_cases Qk:HH q (con q i) p'
 ·obtain ⟨n1,hO⟩:=(VF C').1 Qk;obtain ⟨ug,h2⟩:=cy C C' (fun k _ s h=>KD _ s h) hO
  have hA:HH q (con q i) p:=(VF C).2 ⟨fun j hj=>by
   obtain ⟨t,h3,h4⟩:=(Et ((C'.sm j (by omega)).in64 (by have:=C.work.k;omega))).1 (n1 j (by omega));exact (Et ((C.sm j hj).in64 (by have:=C.work.k;omega))).2 ⟨t,h3,KD j t h4⟩,ug⟩
  obtain ⟨hj,_⟩:=hz.sub h;obtain ⟨h5,h6⟩:=((hz.live Qk j hj).2 s).1 h;refine ((hx.live hA j (by omega)).2 s).2 ⟨KD j s h5,fun ⟨k,hk,e,h7⟩=>h6 ⟨k,hk,e,h2 k hk s ?_ h7⟩⟩
  show tb (p'.getD ((con q i).cells.getD k 0).toNat 0) s=true
  rw [e];exact h5
 ·rw [hz.dead Qk,Kr] at h;exact absurd h IG
end
section
variable {q:AA} {i:Int} {a b:List Int}
theorem cI (C:Be q i a): ∃ x,Ev (fun n=>IS n q i a) (x,0)/\ PR q (con q i) a x:=by
 obtain ⟨r,h1,h2,h3,_⟩:=n6 (i:=i) C.fit (pos:=a) (yO C.len256.2 (by decide));obtain ⟨x,e⟩:=r;have e0:e=0:=h2.trans C.check;subst e0;exact ⟨x,h1,h3 rfl⟩
end
section
variable {q:AA} {i j:Int} {p p' x y z:List Int}
theorem PR.posOk (C:Be q i p) (h:PR q (con q i) p x):posOk q x=true:=by
 refine (Sr C.valid).2 ⟨by rw [h.len];exact C.len,fun j hj=>?_⟩;have hk:=C.work.k;refine kS (by omega) (h.in64 j) fun s hs _=>?_
 cases ht:tb (x.getD j 0) s with
 | false=>rfl
 | true=>
  obtain ⟨h1,h2⟩:=h.sub ht;rw [(C.sm j h1).hi hs] at h2;cases h2
theorem PR.alive (C:Be q i p) (hd:B9 p=false) (h:PR q (con q i) p p):HH q (con q i) p:=by
 refine Classical.byContradiction fun hA=>?_
 have h0:=C.len256.1;have:=G9.1 hd 0 h0;rw [h.dead hA,Kr] at this;exact this rfl
theorem pc (C:Be q i p) (C':Be q i p') (NY: ∀ k,k<(con q i).cells.length -> AT (con q i) p' k=AT (con q i) p k) (hd:B9 p=false) (KM:B9 p'=false) (h:PR q (con q i) p p):PR q (con q i) p' p':=by
 have hA:=h.alive C hd;obtain ⟨_,hO⟩:=(VF C).1 hA;obtain ⟨Qj,hl⟩:=cy C' C (fun k hk s hs=>by rw [NY k hk];exact hs) hO;have Qk:HH q (con q i) p':=(VF C').2 ⟨G9.1 KM,Qj⟩;refine ⟨rfl,fun _ j hj=>⟨(C'.sm j hj).in64 (by have:=C'.work.k;omega),fun s=>⟨fun hs=>⟨hs,?_⟩,fun hs=>hs.1⟩⟩,fun hn=>absurd Qk hn⟩;rintro ⟨k,hk,e,h1⟩
 have KE:tb (AT (con q i) p k) s=true:=by
  rw [←NY k hk]
  show tb (p'.getD ((con q i).cells.getD k 0).toNat 0) s=true
  rw [e];exact hs
 have h2:=hl k hk s KE h1;have hW:=C.work.cells k hk;have ri:tb (p.getD ((con q i).cells.getD k 0).toNat 0) s=true:=KE;have h3:=(((h.live hA ((con q i).cells.getD k 0).toNat (by omega)).2 s).1 ri).2;exact h3 ⟨k,hk,rfl,h2⟩
end
end Go.Proofs.YtekkngkphejfcaaGreatDoor
namespace Go.Proofs.YtekkngkphejfcaaGreatDoor
open Go.RowKit
structure Ay (q:AA) (p:List Int):Prop where
 fit:Cq q
 valid:CY q=true
 ok:posOk q p=true
def Le (a b:List Int):Prop:=∀ j s,tb (a.getD j 0) s=true -> tb (b.getD j 0) s=true
def Up (q:AA) (level:Int) (i:Int):Prop:=0<=i/\ i<(q.cons.length:Int)/\ Fj (con q i).kind<=level
def HG (q:AA) (U:Int -> Prop) (p:List Int):Prop:=∀ i,U i -> PR q (con q i) p p
inductive Bq (q:AA) (U:Int -> Prop):List Int -> List Int -> Prop
 | refl (p:List Int):Bq q U p p
 | step {p x y:List Int} {i:Int}:U i -> PR q (con q i) p x -> Bq q U x y -> Bq q U p y
section
variable {q:AA} {U:Int -> Prop} {p x y z:List Int} {i level:Int}
theorem Ay.ctx (h:Ay q p) (h0:0<=i) (h1:i<(q.cons.length:Int)):Be q i p:=⟨h.fit,h.valid,h0,h1,h.ok⟩
theorem Ay.len (h:Ay q p):(p.length:Int)=q.cells:=((Sr h.valid).1 h.ok).1
theorem Ay.sm (h:Ay q p): ∀ j,j<p.length -> Sm q.symbols.toNat (p.getD j 0):=((Sr h.valid).1 h.ok).2
theorem Ay.k (h:Ay q p):q.symbols.toNat<=16:=by have:=(DX h.valid).2.1;omega
theorem Ay.len256 (h:Ay q p):0<p.length/\ p.length<=256:=by
 have h1:=(DX h.valid).1;have:=h.len;omega
theorem Ay.in64 (h:Ay q p) (j:Nat):Bl (p.getD j 0):=by
 by_cases hj:j<p.length
 ·exact (h.sm j hj).in64 (by have:=h.k;omega)
 ·rw [u8,yx (by omega)];exact ⟨by decide,by decide⟩
theorem Ay.pr (h:Ay q p) (h0:0<=i) (h1:i<(q.cons.length:Int)) (hx:PR q (con q i) p x):Ay q x:=⟨h.fit,h.valid,hx.posOk (h.ctx h0 h1)⟩
theorem Ay.eqlen (h:Ay q p) (h':Ay q x):x.length=p.length:=by have:=h.len;have:=h'.len;omega
theorem Le.refl (a:List Int):Le a a:=fun _ _ h=>h
theorem Le.trans (h:Le x y) (h':Le y z):Le x z:=fun j s hs=>h' j s (h j s hs)
theorem Le.eq (hx:Ay q x) (hy:Ay q y) (h:Le x y) (h':Le y x):x=y:=by
 have e:x.length=y.length:=hy.eqlen hx;refine zAN e fun j h1 h2=>?_
 have e1:x.getD j 0=x[j]:=by simp [h1]
 have e2:y.getD j 0=y[j]:=by simp [h2]
 rw [←e1,←e2];refine Jk (hx.in64 j) (hy.in64 j) fun s _=>?_
 rw [zR];exact ⟨h j s,h' j s⟩
theorem PR.le {c:AB} (h:PR q c p x):Le x p:=fun _ _ hs=>(h.sub hs).2
theorem Bq.pos (hU: ∀ i,U i -> 0<=i/\ i<(q.cons.length:Int)) (hd:Bq q U p y):Ay q p -> Ay q y:=by
 induction hd with
 | refl p=>exact id
 | step hi hx _ ih=>exact fun h=>ih (h.pr (hU _ hi).1 (hU _ hi).2 hx)
theorem Bq.le (hd:Bq q U p y):Le y p:=by
 induction hd with
 | refl p=>exact Le.refl p
 | step hi hx _ ih=>exact ih.trans hx.le
theorem Bq.trans (h:Bq q U p x) (h':Bq q U x y):Bq q U p y:=by
 induction h with
 | refl p=>exact h'
 | step hi hx _ ih=>exact .step hi hx (ih h')
theorem Bq.one (hi:U i) (hx:PR q (con q i) p x):Bq q U p x:=.step hi hx (.refl x)
theorem Bq.above (hU: ∀ i,U i -> 0<=i/\ i<(q.cons.length:Int)) (hd:Bq q U p y):Ay q p -> Ay q z -> Le z p -> HG q U z -> Le z y:=by
 induction hd with
 | refl p=>exact fun _ _ h _=>h
 | step hi hx _ ih=>
  intro hp hz CW hf;obtain ⟨h0,h1⟩:=hU _ hi;exact ih (hp.pr h0 h1 hx) hz (n7 (hp.ctx h0 h1) (hz.ctx h0 h1) CW hx (hf _ hi)) hf
theorem Bq.uniq (hU: ∀ i,U i -> 0<=i/\ i<(q.cons.length:Int)) (hp:Ay q p) (hx:Bq q U p x) (hy:Bq q U p y) (fx:HG q U x) (fy:HG q U y):x=y:=
 Le.eq (hx.pos hU hp) (hy.pos hU hp) (hy.above hU hp (hx.pos hU hp) hx.le fx) (hx.above hU hp (hy.pos hU hp) hy.le fy)
theorem Rm (i:Int) (h:Up q level i):0<=i/\ i<(q.cons.length:Int):=⟨h.1,h.2.1⟩
theorem cK {c:AB} {m:Nat} (hm:0<m):PR q c (List.replicate m 0) (List.replicate m 0):=by
 refine ⟨rfl,fun hA=>?_,fun _=>by simp⟩;have:=hA.nz 0 (by simpa using hm);exact absurd (Kr (pos:=List.replicate m 0) 0) (by simpa [yY] using this)
theorem gG {m:Nat} (hm:0<m):HG q U (List.replicate m 0):=fun _ _=>cK hm
theorem PR.zero {c:AB} (h:PR q c p x) (hd:B9 x=true):x=List.replicate p.length 0:=by
 refine Classical.byContradiction fun AV=>?_
 have hA:HH q c p:=Classical.byContradiction fun hA=>AV (h.dead hA)
 have: ¬ B9 x=false:=by rw [hd];exact fun h=>by cases h
 refine this (G9.2 fun j hj=>?_);have BI:j<p.length:=by rw [←h.len];exact hj
 obtain ⟨s,h1,h2,h3⟩:=hA.left j BI;exact (Et (h.live hA j BI).1).2 ⟨s,h1,((h.live hA j BI).2 s).2 ⟨h2,h3⟩⟩
def wt (p:List Int):Nat:=(List.range (64*p.length)).countP fun k=>tb (p.getD (k/64) 0) (k % 64)
theorem Zg (hx:Ay q x) (hp:Ay q p) (h:Le x p) (AV:x≠p):wt x+1<=wt p:=by
 have e:x.length=p.length:=hp.eqlen hx
 obtain ⟨j,s,hj,hs,h1,h2⟩: ∃ j s:Nat,j<p.length/\ s<64/\ tb (x.getD j 0) s=false/\ tb (p.getD j 0) s=true:=by
  refine Classical.byContradiction fun hn=>AV (Le.eq hx hp h fun j s hs=>?_)
  have rh:s<64:=zG fun h=>by rw [HI h] at hs;cases hs
  have hj:j<p.length:=zG fun CW=>by
   rw [u8,yx CW] at hs;exact IG hs
  cases hb:tb (x.getD j 0) s with
  | true=>rfl
  | false=>exact absurd ⟨j,s,hj,rh,hb,hs⟩ hn
 unfold wt;rw [e];have ej:(64*j+s)/64=j:=by omega
 have es:(64*j+s) % 64=s:=by omega
 refine RB (a:=64*j+s) (by rw [ej,es];exact h1) (by rw [ej,es];exact h2) _ (fun k _ hk=>h _ _ hk) (yP.2 (by omega))
end
end Go.Proofs.YtekkngkphejfcaaGreatDoor
namespace Go.Proofs.YtekkngkphejfcaaGreatDoor
open Go.RowKit
set_option maxRecDepth 100000
set_option maxHeartbeats 40000000
end Go.Proofs.YtekkngkphejfcaaGreatDoor
namespace Go.Proofs.YtekkngkphejfcaaGreatDoor
open Go.RowKit
set_option maxRecDepth 100000
set_option maxHeartbeats 40000000
inductive Sd where
 | l1 (x3:Int)
def PM (n:Nat) (self:Sd -> Option Bool) (pos:List Int) (x3:Int):Option Bool:=
 bif (decide (x3<(pos.length:Int))) then
  if 0<=x3/\ x3<(pos.length:Int) then
   bif ((pos.getD ((x3).toNat) 0)==0) then
    some true
   else
    if AH (x3+1) then
     self (.l1 (x3+1))
    else none
  else none
 else
  some false
def nk (n:Nat) (self:Sd -> Option Bool) (pos:List Int):Option Bool:=
 self (.l1 0)
def LH (pos:List Int):Nat -> Sd -> Option Bool
 | 0,_=>none
 | n+1,.l1 x3=>PM n (LH pos n) pos x3
def Se (n:Nat) (pos:List Int):Option Bool:=nk n (LH pos n) pos
def nm (n B:Nat) (N:Yd 0) (pos:List Int) (r:Bool):Sd -> Prop
 | .l1 x3=>∀ m0:Nat,n<=m0 -> TW B N (FQ Tryz.f55 0 (.bool r) []) (Ai m0 (Ap (AZ Tryz.f55) 0 [])) ⟨AL 15 [(0,.ints pos),(3,.i x3)],[]⟩
theorem nn (B:Nat) (N:Yd 0) (pos:List Int):Al (LH pos) (nm · B N pos):=ia (fun _=>rfl) fun n AF pt r h=>by
 cases pt
 case l1 x3=>
  intro m0 AC;refine rd AC fun m0 AC=>?_
  revert r;apply gO;exact bi 7 (gi (bi 14 (lE AE [2] []) (gw 9 (lG AE [] (AF _ _ · m0 AC))))) (lE AE [2] [])
theorem nj {n:Nat} {pos:List Int} {r:Bool} (h:Se n pos=some r):EQ 55 [.ints pos] [] (.bool r) [] true:=by
 refine ot Tryz.func55 fun B N=>?_
 revert r;apply gO;exact lN AE [] ((nn B N pos n) _ _ · n Nat.le.refl)
theorem kz:Aj (BA Tryz.f42 9) [] (List.range 16) []:=by unfold Aj;kernel_rfl
def K5:BU:=fun i=>match i with
 | 9=>.ord [] (List.range 16) []
 | _=>.no
inductive SI where
 | l1 (x6:Int)
def O7 (n:Nat) (self:SI -> Option Int) (q:AA) (pos:List Int) (x6:Int):Option Int:=
 bif (decide (x6<(pos.length:Int))) then
  if 0<=x6/\ x6<(pos.length:Int) then
   bif (decide ((pos.getD ((x6).toNat) 0)<0)) then
    some 250
   else
    if 0<=IntKind.u64.wrap q.symbols/\ IntKind.u64.wrap q.symbols<=(IntKind.i64.bits:Int) then
     bif (decide ((pos.getD ((x6).toNat) 0)>=(IntKind.i64.wrap (1*2 ^ (IntKind.u64.wrap q.symbols).toNat)))) then
      some 250
     else
      if AH (x6+1) then
       self (.l1 (x6+1))
      else none
    else none
  else none
 else
  some 0
def bS (n:Nat) (self:SI -> Option Int) (q:AA) (pos:List Int):Option Int:=
 (Oz n q).bind fun y1=>
  bif (y1 != 0) then
   some y1
  else
   bif ((pos.length:Int) != q.cells) then
    some 250
   else
    self (.l1 0)
def K9 (q:AA) (pos:List Int):Nat -> SI -> Option Int
 | 0,_=>none
 | n+1,.l1 x6=>O7 n (K9 q pos n) q pos x6
def SJ (n:Nat) (q:AA) (pos:List Int):Option Int:=bS n (K9 q pos n) q pos
def ma (n B:Nat) (N:Yd 0) (q:AA) (pos:List Int) (r:Int):SI -> Prop
 | .l1 x6=>∀ m0:Nat,n<=m0 -> TW B N (FQ Tryz.f42 0 (.i r) []) (Ai m0 (Ap (AZ Tryz.f42) 0 [])) ⟨AL 39 [(1,.ints pos),(2,.ref 0 0),(6,.i x6)],[some (.cells (AD q))]⟩
theorem mc (B:Nat) (N:Yd 0) (q:AA) (pos:List Int):Al (K9 q pos) (ma · B N q pos):=ia (fun _=>rfl) fun n AF pt r h=>by
 cases pt
 case l1 x6=>
  intro m0 AC;refine rd AC fun m0 AC=>?_
  revert r;apply gO;exact bi 20 (jg kz (gn fun g0=>jg g0 (bi 27 (lE K5 [4] []) (jg g0 (gi (bi 37 (lE K5 [4] []) (gw 22 (lG K5 [0] (AF _ _ · m0 AC))))))))) (lE K5 [4] [])
theorem mY {n:Nat} {q:AA} {pos:List Int} {r:Int} (h:SJ n q pos=some r):EQ 42 [.agg 5 (L1 (AD q)),.ints pos] [] (.i r) [] true:=by
 refine ot Tryz.func42 fun B N=>?_
 revert r;apply gO;exact cf bN [some (.cells (AD q))] fun _=>bi 10 (lE K5 [4] []) (bi 16 (lE K5 [4] []) (lN K5 [0] ((mc B N q pos n) _ _ · n Nat.le.refl)))
end Go.Proofs.YtekkngkphejfcaaGreatDoor
namespace Go.Proofs.YtekkngkphejfcaaGreatDoor
open Go.RowKit
set_option maxRecDepth 100000
set_option maxHeartbeats 40000000
def Z1 (n:Nat) (c_:AB) (level:Int):Option Bool:=
 bif (c_.kind==4) then
  some (decide (2<=level))
 else
  bif (c_.kind==3) then
   some (decide (2<=level))
  else
   bif (c_.kind==5) then
    some (decide (3<=level))
   else
    bif (c_.kind==8) then
     some (decide (4<=level))
    else
     bif (c_.kind==9) then
      some (decide (4<=level))
     else
      some (decide (1<=level))
def MY (n:Nat) (c_:AB) (level:Int):Option Bool:=Z1 n c_ level
theorem je {n:Nat} {c_:AB} {level:Int} {r:Bool} (h:MY n c_ level=some r):EQ 29 [.agg 9 (L1 (AG c_)),.i level] [] (.bool r) [] true:=by
 refine ot Tryz.func29 fun B N=>?_
 revert r;apply gO;exact bi 9 (lE AE [4] []) (bi 10 (lE AE [4] []) (bi 12 (lE AE [4] []) (bi 14 (lE AE [4] []) (bi 15 (lE AE [4] []) (lE AE [4] [])))))
theorem kq:Aj (BA Tryz.f21 6) [] (List.range 9) []:=by unfold Aj;kernel_rfl
def Ou:BU:=fun i=>match i with
 | 6=>.ord [] (List.range 9) []
 | _=>.no
inductive SC where
 | l1 (x5:Int)
def Oy (n:Nat) (self:SC -> Option Bool) (a b_:List Int) (x5:Int):Option Bool:=
 bif (decide (x5<(a.length:Int))) then
  if (0<=x5/\ x5<(a.length:Int))/\ (0<=x5/\ x5<(b_.length:Int)) then
   bif ((a.getD ((x5).toNat) 0) != (b_.getD ((x5).toNat) 0)) then
    some false
   else
    if AH (x5+1) then
     self (.l1 (x5+1))
    else none
  else none
 else
  some true
def bI (n:Nat) (self:SC -> Option Bool) (a b_:List Int):Option Bool:=
 bif ((a.length:Int) != (b_.length:Int)) then
  some false
 else
  self (.l1 0)
def Mm (a b_:List Int):Nat -> SC -> Option Bool
 | 0,_=>none
 | n+1,.l1 x5=>Oy n (Mm a b_ n) a b_ x5
def HQ (n:Nat) (a b_:List Int):Option Bool:=bI n (Mm a b_ n) a b_
def ka (n B:Nat) (N:Yd 0) (a b_:List Int) (r:Bool):SC -> Prop
 | .l1 x5=>∀ m0:Nat,n<=m0 -> TW B N (FQ Tryz.f21 0 (.bool r) []) (Ai m0 (Ap (AZ Tryz.f21) 0 [])) ⟨AL 26 [(0,.ints a),(1,.ints b_),(5,.i x5)],[]⟩
theorem kb (B:Nat) (N:Yd 0) (a b_:List Int):Al (Mm a b_) (ka · B N a b_):=ia (fun _=>rfl) fun n AF pt r h=>by
 cases pt
 case l1 x5=>
  intro m0 AC;refine rd AC fun m0 AC=>?_
  revert r;apply gO;exact bi 14 (jg kq (gc (gi (gi (bi 25 (lE Ou [4] []) (gw 16 (lG Ou [] (AF _ _ · m0 AC)))))))) (lE Ou [4] [])
theorem Jq {n:Nat} {a b_:List Int} {r:Bool} (h:HQ n a b_=some r):EQ 21 [.ints a,.ints b_] [] (.bool r) [] true:=by
 refine ot Tryz.func21 fun B N=>?_
 revert r;apply gO;exact bi 10 (lE Ou [4] []) (lN Ou [] ((kb B N a b_ n) _ _ · n Nat.le.refl))
def Yh (n:Nat) (q:AA) (pos:List Int):Option Bool:=
 (Qv n q pos).bind fun y1=>
  bif y1 then
   some (decide ((q.cons.length:Int)<=100))
  else
   some false
def Qu (n:Nat) (q:AA) (pos:List Int):Option Bool:=Yh n q pos
theorem vf {n:Nat} {q:AA} {pos:List Int} {r:Bool} (h:Qu n q pos=some r):EQ 16 [.agg 5 (L1 (AD q)),.ints pos] [] (.bool r) [] true:=by
 unfold Qu Yh at h;refine ot Tryz.func16 fun B N=>?_
 revert r;apply gO;exact cf vY [some (.cells (AD q))] fun _=>bi 7 (lE AE [4] []) (lE AE [4] [])
end Go.Proofs.YtekkngkphejfcaaGreatDoor
namespace Go.Proofs.YtekkngkphejfcaaGreatDoor
open Go.RowKit
set_option maxRecDepth 100000
set_option maxHeartbeats 40000000
theorem lm:Aj (BA Tryz.f50 6) [] (List.range 9) []:=by unfold Aj;kernel_rfl
def Ox:BU:=fun i=>match i with
 | 6=>.ord [] (List.range 9) []
 | _=>.no
inductive Ui where
 | l1 (x13:Int)
def Qw (n:Nat) (self:Ui -> Option Bool) (Do EM:List Int) (x13:Int):Option Bool:=
 bif (decide (x13<(Do.length:Int))) then
  if (0<=x13/\ x13<(Do.length:Int))/\ (0<=x13/\ x13<(EM.length:Int)) then
   bif ((Do.getD ((x13).toNat) 0) != (EM.getD ((x13).toNat) 0)) then
    some false
   else
    if AH (x13+1) then
     self (.l1 (x13+1))
    else none
  else none
 else
  some true
def gU (n:Nat) (self:Ui -> Option Bool) (Do EM:List Int):Option Bool:=
 bif ((Do.length:Int) != (EM.length:Int)) then
  some false
 else
  self (.l1 0)
def Nq (Do EM:List Int):Nat -> Ui -> Option Bool
 | 0,_=>none
 | n+1,.l1 x13=>Qw n (Nq Do EM n) Do EM x13
def Nr (n:Nat) (Do EM:List Int):Option Bool:=gU n (Nq Do EM n) Do EM
def vj (n B:Nat) (N:Yd 0) (Do EM:List Int) (r:Bool):Ui -> Prop
 | .l1 x13=>∀ m0:Nat,n<=m0 -> TW B N (FQ Tryz.f50 0 (.bool r) []) (Ai m0 (Ap (AZ Tryz.f50) 0 [])) ⟨AL 26 [(0,.ints Do),(1,.ints EM),(12,.i (Do.length:Int)),(13,.i x13)],[]⟩
theorem vk (B:Nat) (N:Yd 0) (Do EM:List Int):Al (Nq Do EM) (vj · B N Do EM):=ia (fun _=>rfl) fun n AF pt r h=>by
 cases pt
 case l1 x13=>
  intro m0 AC;refine rd AC fun m0 AC=>?_
  revert r;apply gO;exact bi 14 (jg lm (gc (gi (gi (bi 24 (lE Ox [4] []) (gw 25 (lG Ox [] (AF _ _ · m0 AC)))))))) (lE Ox [4] [])
theorem gT {n:Nat} {Do EM:List Int} {r:Bool} (h:Nr n Do EM=some r):EQ 50 [.ints Do,.ints EM] [] (.bool r) [] true:=by
 refine ot Tryz.func50 fun B N=>?_
 revert r;apply gO;exact bi 10 (lE Ox [4] []) (lN Ox [] ((vk B N Do EM n) _ _ · n Nat.le.refl))
inductive MW where
 | l1 (A3:Int)
 | l2 (x4:Nat) (A3:Int) (o1:List Int)
def OW (n:Nat) (self:MW -> Option ((List Int))) (q:AA) (level:Int) (A3:Int):Option ((List Int)):=
 bif (decide (A3<(q.cons.length:Int))) then
  (Lf n q A3).bind fun y1=>
   bif (y1.2==0) then
    bif (decide (y1.1<=level)) then
     if ((0=0/\ 1=([A3]:List Int).length)/\ 0<([A3]:List Int).length/\ ([A3]:List Int).length<=BT)/\ AH (A3+1) then
      self (.l2 (([A3]:List Int).length) (A3+1) ([A3]:List Int))
     else none
    else
     if AH (A3+1) then
      self (.l1 (A3+1))
     else none
   else
    if AH (A3+1) then
     self (.l1 (A3+1))
    else none
 else
  some ([]:List Int)
def OV (n:Nat) (self:MW -> Option ((List Int))) (q:AA) (level:Int) (x4:Nat) (A3:Int) (o1:List Int):Option ((List Int)):=
 bif (decide (A3<(q.cons.length:Int))) then
  (Lf n q A3).bind fun y1=>
   bif (y1.2==0) then
    bif (decide (y1.1<=level)) then
     if ((0=0/\ 1=([A3]:List Int).length)/\ (0=0/\ x4=o1.length)/\ o1.length+([A3]:List Int).length<=BT)/\ AH (A3+1) then
      self (.l2 (o1.length+([A3]:List Int).length) (A3+1) (o1++([A3]:List Int)))
     else none
    else
     if AH (A3+1) then
      self (.l2 x4 (A3+1) o1)
     else none
   else
    if AH (A3+1) then
     self (.l2 x4 (A3+1) o1)
    else none
 else
  if x4=o1.length then
   some o1
  else none
def jY (n:Nat) (self:MW -> Option ((List Int))) (q:AA) (level:Int):Option ((List Int)):=
 self (.l1 0)
def Fw (q:AA) (level:Int):Nat -> MW -> Option ((List Int))
 | 0,_=>none
 | n+1,.l1 A3=>OW n (Fw q level n) q level A3
 | n+1,.l2 x4 A3 o1=>OV n (Fw q level n) q level x4 A3 o1
def OX (n:Nat) (q:AA) (level:Int):Option ((List Int)):=jY n (Fw q level n) q level
def jZ (n B:Nat) (N:Yd 0) (q:AA) (level:Int) (r:(List Int)):MW -> Prop
 | .l1 A3=>∀ m0:Nat,n<=m0 -> TW B N (FQ Tryz.f48 0 (.ints r) []) (Ai m0 (Ap (AZ Tryz.f48) 0 [])) ⟨AL 33 [(1,.i level),(2,.ref 0 0),(4,.nils),(10,.i (q.cons.length:Int)),(11,.i A3)],[some (.cells (AD q))]⟩
 | .l2 x4 A3 o1=>∀ m0:Nat,n<=m0 -> TW B N (FQ Tryz.f48 0 (.ints r) []) (Ai m0 (Ap (AZ Tryz.f48) 0 [])) ⟨AL 33 [(1,.i level),(2,.ref 0 0),(4,.msl 1 1 0 x4),(10,.i (q.cons.length:Int)),(11,.i A3)],[some (.cells (AD q)),some (.ints o1)]⟩
theorem jd (B:Nat) (N:Yd 0) (q:AA) (level:Int):Al (Fw q level) (jZ · B N q level):=ia (fun _=>rfl) fun n AF pt r h=>by
 cases pt
 case l1 A3=>
  intro m0 AC;refine rd AC fun m0 AC=>?_
  revert r;apply gO;exact bi 12 (cf Wr [some (.cells (AD q))] fun _=>bi 21 (bi 25 (gc (gi (gw 31 (lG AE [0,2] (AF _ _ · m0 AC))))) (gw 31 (lG AE [0] (AF _ _ · m0 AC)))) (gw 31 (lG AE [0] (AF _ _ · m0 AC)))) (lF fun p=>el AE [4] [] p [] H0 [.nils] AN.ints_nil)
 case l2 x4 A3 o1=>
  intro m0 AC;refine rd AC fun m0 AC=>?_
  revert r;apply gO;exact bi 12 (cf Wr [some (.cells (AD q)),some (.ints o1)] fun _=>bi 21 (bi 25 (gc (gi (gw 31 (lG AE [0,3] (AF _ _ · m0 AC))))) (gw 31 (lG AE [0,1] (AF _ _ · m0 AC)))) (gw 31 (lG AE [0,1] (AF _ _ · m0 AC)))) (gn fun g0=>lF fun p=>ez AE [4] [1] p [0] (H0.g g0))
theorem Z0 {n:Nat} {q:AA} {level:Int} {r:(List Int)} (h:OX n q level=some r):EQ 48 [.agg 5 (L1 (AD q)),.i level] [] (.ints r) [] true:=by
 refine ot Tryz.func48 fun B N=>?_
 revert r;apply gO;exact lN AE [0] ((jd B N q level n) _ _ · n Nat.le.refl)
inductive OH where
 | l1 (x8:Int)
 | l2 (x8:Int) (o0:List Bool) (Ax:Nat) (o2:List Int)
def Rg (n:Nat) (self:OH -> Option ((List Bool)×Nat×Nat×(List Int)×Bool)) (l:List Int) (ws:List Bool) (x8:Int):Option ((List Bool)×Nat×Nat×(List Int)×Bool):=
 bif (decide (x8<(l.length:Int))) then
  if (0<=x8/\ x8<(l.length:Int))/\ (0<=(l.getD ((x8).toNat) 0)/\ (l.getD ((x8).toNat) 0)<((4096:Nat):Int))/\ 0+((l.getD ((x8).toNat) 0).toNat)<ws.length then
   bif (!(ws.getD (0+((l.getD ((x8).toNat) 0).toNat)) false)) then
    if ((0=0/\ 1=([l.getD ((x8).toNat) 0]:List Int).length)/\ 0<([l.getD ((x8).toNat) 0]:List Int).length/\ ([l.getD ((x8).toNat) 0]:List Int).length<=BT)/\ AH (x8+1) then
     self (.l2 (x8+1) (ws.set (0+((l.getD ((x8).toNat) 0).toNat)) true) (([l.getD ((x8).toNat) 0]:List Int).length) ([l.getD ((x8).toNat) 0]:List Int))
    else none
   else
    if AH (x8+1) then
     self (.l1 (x8+1))
    else none
  else none
 else
  some (ws,0,0,([]:List Int),true)
def ML (n:Nat) (self:OH -> Option ((List Bool)×Nat×Nat×(List Int)×Bool)) (l:List Int) (ws:List Bool) (x8:Int) (o0:List Bool) (Ax:Nat) (o2:List Int):Option ((List Bool)×Nat×Nat×(List Int)×Bool):=
 bif (decide (x8<(l.length:Int))) then
  if (0<=x8/\ x8<(l.length:Int))/\ (0<=(l.getD ((x8).toNat) 0)/\ (l.getD ((x8).toNat) 0)<((4096:Nat):Int))/\ 0+((l.getD ((x8).toNat) 0).toNat)<o0.length then
   bif (!(o0.getD (0+((l.getD ((x8).toNat) 0).toNat)) false)) then
    if 0+Ax=o2.length/\ Ax+([l.getD ((x8).toNat) 0]:List Int).length<=BT/\ AH (x8+1) then
     self (.l2 (x8+1) (o0.set (0+((l.getD ((x8).toNat) 0).toNat)) true) (Ax+([l.getD ((x8).toNat) 0]:List Int).length) (o2++([l.getD ((x8).toNat) 0]:List Int)))
    else none
   else
    if AH (x8+1) then
     self (.l2 (x8+1) o0 Ax o2)
    else none
  else none
 else
  some (o0,0,Ax,o2,false)
def xh (n:Nat) (self:OH -> Option ((List Bool)×Nat×Nat×(List Int)×Bool)) (l:List Int) (ws:List Bool):Option ((List Bool)×Nat×Nat×(List Int)×Bool):=
 self (.l1 0)
def HB (l:List Int) (ws:List Bool):Nat -> OH -> Option ((List Bool)×Nat×Nat×(List Int)×Bool)
 | 0,_=>none
 | n+1,.l1 x8=>Rg n (HB l ws n) l ws x8
 | n+1,.l2 x8 o0 Ax o2=>ML n (HB l ws n) l ws x8 o0 Ax o2
def Kk (n:Nat) (l:List Int) (ws:List Bool):Option ((List Bool)×Nat×Nat×(List Int)×Bool):=xh n (HB l ws n) l ws
def xj (n B:Nat) (N:Yd 2) (l:List Int) (ws:List Bool) (r:(List Bool)×Nat×Nat×(List Int)×Bool):OH -> Prop
 | .l1 x8=>∀ m0:Nat,n<=m0 -> TW B N (FQ Tryz.f71 2 (.tup 0 (fun j=>([]:List DV).getD j .any)) (bif r.2.2.2.2 then [some (.bools r.1),some (.cells [.nils])] else [some (.bools r.1),some (.cells [.mse 2 1 r.2.1 r.2.2.1]),some (.ints r.2.2.2.1)])) (Ai m0 (Ap (AZ Tryz.f71) 0 [])) ⟨AL 23 [(1,.mp 0 1 0 0),(2,.ref 1 0),(6,.ints l),(7,.i (l.length:Int)),(8,.i x8)],[some (.bools ws),some (.cells [.nils])]⟩
 | .l2 x8 o0 Ax o2=>∀ m0:Nat,n<=m0 -> TW B N (FQ Tryz.f71 2 (.tup 0 (fun j=>([]:List DV).getD j .any)) (bif r.2.2.2.2 then [some (.bools r.1),some (.cells [.nils])] else [some (.bools r.1),some (.cells [.mse 2 1 r.2.1 r.2.2.1]),some (.ints r.2.2.2.1)])) (Ai m0 (Ap (AZ Tryz.f71) 0 [])) ⟨AL 23 [(1,.mp 0 1 0 0),(2,.ref 1 0),(6,.ints l),(7,.i (l.length:Int)),(8,.i x8)],[some (.bools o0),some (.cells [.mse 2 1 0 Ax]),some (.ints o2)]⟩
theorem xk (B:Nat) (N:Yd 2) (l:List Int) (ws:List Bool):Al (HB l ws) (xj · B N l ws):=ia (fun _=>rfl) fun n AF pt r h=>by
 cases pt
 case l1 x8=>
  intro m0 AC;refine rd AC fun m0 AC=>?_
  revert r;apply gO;exact bi 9 (gc (gi (gc (gn fun g1=>jg g1 (gn fun g2=>jg g2 (bi 15 (jg g1 (jg g2 (gc (gi (jo 21 (AN.msl_mse (k:=3) (m:=1) (o:=0) (n:=([l.getD ((x8).toNat) 0]:List Int).length)) (jt (gw 22 (lG AE [0,1,3] (AF _ _ · m0 AC))))))))) (gw 22 (lG AE [0,1] (AF _ _ · m0 AC))))))))) (lE AE [] [0,1])
 case l2 x8 o0 Ax o2=>
  intro m0 AC;refine rd AC fun m0 AC=>?_
  revert r;apply gO;exact bi 9 (gc (gi (gc (gn fun g1=>jg g1 (gn fun g2=>jg g2 (bi 15 (jg g1 (jg g2 (jg (And.intro (Eq.refl 0) (Eq.refl 1)) (jg (by decide:0<1) (gc (gi (gc (gi (jt (gw 22 (lG AE [0,1,4] (AF _ _ · m0 AC)))))))))))) (gw 22 (lG AE [0,1,2] (AF _ _ · m0 AC))))))))) (lE AE [] [0,1,2])
theorem i6 {n:Nat} {l:List Int} {ws:List Bool} {r:(List Bool)×Nat×Nat×(List Int)×Bool} (h:Kk n l ws=some r):EQ 71 [.ints l,.mp 0 1 0 0,.ref 1 0] [some (.bools ws),some (.cells [.nils])] (.tup 0 (fun j=>([]:List DV).getD j .any)) (bif r.2.2.2.2 then [some (.bools r.1),some (.cells [.nils])] else [some (.bools r.1),some (.cells [.mse 2 1 r.2.1 r.2.2.1]),some (.ints r.2.2.2.1)]) false:=by
 refine ot Tryz.func71 (hni:=by cases r.2.2.2.2 <;> rfl) fun B N=>?_
 revert r;apply gO;exact lN AE [0,1] ((xk B N l ws n) _ _ · n Nat.le.refl)
theorem i5 {n:Nat} {l:List Int} {ws:List Bool} {r:(List Bool)×Nat×Nat×(List Int)×Bool} (h:Kk n l ws=some r) (c:r.2.2.2.2=true):EQ 71 [.ints l,.mp 0 1 0 0,.ref 1 0] [some (.bools ws),some (.cells [.nils])] (.tup 0 (fun j=>([]:List DV).getD j .any)) [some (.bools r.1),some (.cells [.nils])] false:=by
 have:=i6 h;rw [c] at this;exact this
theorem i4 {n:Nat} {l:List Int} {ws:List Bool} {r:(List Bool)×Nat×Nat×(List Int)×Bool} (h:Kk n l ws=some r) (c:r.2.2.2.2=false):EQ 71 [.ints l,.mp 0 1 0 0,.ref 1 0] [some (.bools ws),some (.cells [.nils])] (.tup 0 (fun j=>([]:List DV).getD j .any)) [some (.bools r.1),some (.cells [.mse 2 1 r.2.1 r.2.2.1]),some (.ints r.2.2.2.1)] false:=by
 have:=i6 h;rw [c] at this;exact this
inductive VI where
 | l1 (x8:Int) (o0:List Bool) (IW Ax:Nat) (o3:List Int)
def MN (n:Nat) (self:VI -> Option ((List Bool)×Nat×Nat×(List Int))) (l:List Int) (ws:List Bool) (o_ n_:Nat) (qu:List Int) (x8:Int) (o0:List Bool) (IW Ax:Nat) (o3:List Int):Option ((List Bool)×Nat×Nat×(List Int)):=
 bif (decide (x8<(l.length:Int))) then
  if (0<=x8/\ x8<(l.length:Int))/\ (0<=(l.getD ((x8).toNat) 0)/\ (l.getD ((x8).toNat) 0)<((4096:Nat):Int))/\ 0+((l.getD ((x8).toNat) 0).toNat)<o0.length then
   bif (!(o0.getD (0+((l.getD ((x8).toNat) 0).toNat)) false)) then
    if IW+Ax=o3.length/\ Ax+([l.getD ((x8).toNat) 0]:List Int).length<=BT/\ AH (x8+1) then
     self (.l1 (x8+1) (o0.set (0+((l.getD ((x8).toNat) 0).toNat)) true) 0 (Ax+([l.getD ((x8).toNat) 0]:List Int).length) ((o3.drop IW)++([l.getD ((x8).toNat) 0]:List Int)))
    else none
   else
    if AH (x8+1) then
     self (.l1 (x8+1) o0 IW Ax o3)
    else none
  else none
 else
  some (o0,IW,Ax,o3)
def xl (n:Nat) (self:VI -> Option ((List Bool)×Nat×Nat×(List Int))) (l:List Int) (ws:List Bool) (o_ n_:Nat) (qu:List Int):Option ((List Bool)×Nat×Nat×(List Int)):=
 self (.l1 0 ws o_ n_ qu)
def MM (l:List Int) (ws:List Bool) (o_ n_:Nat) (qu:List Int):Nat -> VI -> Option ((List Bool)×Nat×Nat×(List Int))
 | 0,_=>none
 | n+1,.l1 x8 o0 IW Ax o3=>MN n (MM l ws o_ n_ qu n) l ws o_ n_ qu x8 o0 IW Ax o3
def JZ (n:Nat) (l:List Int) (ws:List Bool) (o_ n_:Nat) (qu:List Int):Option ((List Bool)×Nat×Nat×(List Int)):=xl n (MM l ws o_ n_ qu n) l ws o_ n_ qu
def xn (n B:Nat) (N:Yd 3) (l:List Int) (ws:List Bool) (o_ n_:Nat) (qu:List Int) (r:(List Bool)×Nat×Nat×(List Int)):VI -> Prop
 | .l1 x8 o0 IW Ax o3=>∀ m0:Nat,n<=m0 -> TW B N (FQ Tryz.f71 3 (.tup 0 (fun j=>([]:List DV).getD j .any)) [some (.bools r.1),some (.cells [.mse 3 1 r.2.1 r.2.2.1]),none,some (.ints r.2.2.2)]) (Ai m0 (Ap (AZ Tryz.f71) 0 [])) ⟨AL 23 [(1,.mp 0 1 0 0),(2,.ref 1 0),(6,.ints l),(7,.i (l.length:Int)),(8,.i x8)],[some (.bools o0),some (.cells [.mse 3 1 IW Ax]),none,some (.ints o3)]⟩
theorem xo (B:Nat) (N:Yd 3) (l:List Int) (ws:List Bool) (o_ n_:Nat) (qu:List Int):Al (MM l ws o_ n_ qu) (xn · B N l ws o_ n_ qu):=ia (fun _=>rfl) fun n AF pt r h=>by
 cases pt
 case l1 x8 o0 IW Ax o3=>
  intro m0 AC;refine rd AC fun m0 AC=>?_
  revert r;apply gO;exact bi 9 (gc (gi (gc (gn fun g1=>jg g1 (gn fun g2=>jg g2 (bi 15 (jg g1 (jg g2 (jg (And.intro (Eq.refl 0) (Eq.refl 1)) (jg (by decide:0<1) (gc (gi (gc (gi (jt (gw 22 (lG AE [0,1,2,5] (AF _ _ · m0 AC)))))))))))) (gw 22 (lG AE [0,1,2,3] (AF _ _ · m0 AC))))))))) (lE AE [] [0,1,2,3])
theorem ZP {n:Nat} {l:List Int} {ws:List Bool} {o_ n_:Nat} {qu:List Int} {r:(List Bool)×Nat×Nat×(List Int)} (h:JZ n l ws o_ n_ qu=some r):EQ 71 [.ints l,.mp 0 1 0 0,.ref 1 0] [some (.bools ws),some (.cells [.mse 2 1 o_ n_]),some (.ints qu)] (.tup 0 (fun j=>([]:List DV).getD j .any)) [some (.bools r.1),some (.cells [.mse 3 1 r.2.1 r.2.2.1]),none,some (.ints r.2.2.2)] false:=by
 refine ot Tryz.func71 fun B N=>?_
 refine BJ.le (BF.moveE 2 ⟨AL 23 [(0,.ints l),(1,.mp 0 1 0 0),(2,.ref 1 0)],[some (.bools ws),some (.cells [.mse 3 1 o_ n_]),none,some (.ints qu)]⟩ (by kernel_rfl)) (by kernel_rfl) ?_;revert r;apply gO;exact lN AE [0,1,2,3] ((xo B N l ws o_ n_ qu n) _ _ · n Nat.le.refl)
def ct (n:Nat) (c:Int) (q:AA):Option Bool:=
 bif (decide (c<0)) then
  some true
 else
  some (decide (c>=q.cells))
def TB (n:Nat) (c:Int) (q:AA):Option Bool:=ct n c q
theorem oV {n:Nat} {c:Int} {q:AA} {r:Bool} (h:TB n c q=some r):EQ 46 [.i c,.fp 5 (L1 (AD q))] [] (.bool r) [] true:=by
 refine ot Tryz.func46 fun B N=>?_
 revert r;apply gO;exact bi 5 (lE AE [3] []) (lE AE [3] [])
inductive Th where
 | l1 (x8:Int)
def Lk (n:Nat) (self:Th -> Option Int) (l:List Int) (q:AA) (x8:Int):Option Int:=
 bif (decide (x8<(l.length:Int))) then
  if 0<=x8/\ x8<(l.length:Int) then
   (TB n (l.getD ((x8).toNat) 0) q).bind fun y1=>
    bif y1 then
     some x8
    else
     if AH (x8+1) then
      self (.l1 (x8+1))
     else none
  else none
 else
  some (-1)
def qc (n:Nat) (self:Th -> Option Int) (l:List Int) (q:AA):Option Int:=
 self (.l1 0)
def JF (l:List Int) (q:AA):Nat -> Th -> Option Int
 | 0,_=>none
 | n+1,.l1 x8=>Lk n (JF l q n) l q x8
def eA (n:Nat) (l:List Int) (q:AA):Option Int:=qc n (JF l q n) l q
def qd (n B:Nat) (N:Yd 0) (l:List Int) (q:AA) (r:Int):Th -> Prop
 | .l1 x8=>∀ m0:Nat,n<=m0 -> TW B N (FQ Tryz.f52 0 (.i r) []) (Ai m0 (Ap (AZ Tryz.f52) 0 [])) ⟨AL 19 [(0,.ints l),(1,.fn 46 1 (L1 [.fp 5 (L1 (AD q))])),(7,.i (l.length:Int)),(8,.i x8)],[]⟩
theorem qe (B:Nat) (N:Yd 0) (l:List Int) (q:AA):Al (JF l q) (qd · B N l q):=ia (fun _=>rfl) fun n AF pt r h=>by
 cases pt
 case l1 x8=>
  intro m0 AC;refine rd AC fun m0 AC=>?_
  revert r;apply gO;exact bi 9 (gi (cf oV [] fun _=>bi 16 (lE AE [4] []) (gw 18 (lG AE [] (AF _ _ · m0 AC))))) (lE AE [4] [])
theorem qb {n:Nat} {l:List Int} {q:AA} {r:Int} (h:eA n l q=some r):EQ 52 [.ints l,.fn 46 1 (L1 [.fp 5 (L1 (AD q))])] [] (.i r) [] true:=by
 refine ot Tryz.func52 fun B N=>?_
 revert r;apply gO;exact lN AE [] ((qe B N l q n) _ _ · n Nat.le.refl)
def gy (n:Nat) (l:List Int) (q:AA):Option Bool:=
 (eA n l q).bind fun y1=>
  some (decide (y1>=0))
def Ut (n:Nat) (l:List Int) (q:AA):Option Bool:=gy n l q
theorem wX {n:Nat} {l:List Int} {q:AA} {r:Bool} (h:Ut n l q=some r):EQ 45 [.ints l,.fn 46 1 (L1 [.fp 5 (L1 (AD q))])] [] (.bool r) [] true:=by
 unfold Ut gy at h;refine ot Tryz.func45 fun B N=>?_
 revert r;apply gO;exact cf qb [] fun _=>lE AE [4] []
theorem lK:Aj (BA Tryz.f47 32) [] (List.range 9) []:=by unfold Aj;kernel_rfl
def Dn:BU:=fun i=>match i with
 | 32=>.ord [] (List.range 9) []
 | _=>.no
def eW (cells:List Int) (q:AA) (o2:List Bool) (o1:Int -> List Int) (B2:Int):DH:=[some (.cells (AD q)),none,some (.bools o2),some (.cells [.nils]),some (.mo (.rows o1 (some (cells.getD ((B2).toNat) 0,o1 (cells.getD ((B2).toNat) 0),false))))]
def s3 (cells:List Int) (q:AA) (o2:List Bool) (BW AO:Nat) (o4:List Int) (o1:Int -> List Int) (B2:Int):DH:=[some (.cells (AD q)),none,some (.bools o2),some (.cells [.mse 4 1 BW AO]),some (.ints o4),some (.mo (.rows o1 (some (cells.getD ((B2).toNat) 0,o1 (cells.getD ((B2).toNat) 0),false))))]
def eV (cells:List Int) (q:AA) (o1:Int -> List Int) (o2:List Bool) (BW AO:Nat) (o4:List Int):DH:=[some (.cells (AD q)),some (.mo (.rows o1 none)),some (.bools o2),some (.cells [.mse 4 1 BW AO]),some (.ints o4)]
def sw (cells:List Int) (q:AA) (o1:Int -> List Int) (o2:List Bool) (o4:List Int) (BW AO:Nat):DH:=[some (.cells (AD q)),some (.mo (.rows o1 none)),some (.bools (o2.set (0+((o4.getD (BW+0) 0).toNat)) false)),some (.cells [.mse 4 1 (BW+1) (AO-1)]),some (.ints o4)]
def sv (cells:List Int) (q:AA) (o2:List Bool) (BW AO:Nat) (o4:List Int) (o1:Int -> List Int) (DW:Int):DH:=[some (.cells (AD q)),none,some (.bools o2),some (.cells [.mse 4 1 BW AO]),some (.ints o4),some (.mo (.rows o1 (some (DW,o1 DW,false))))]
inductive HU where
 | l1 (x9 BX:List Int) (CF BH:Int) (o1:Int -> List Int)
 | l2 (x9:List Int) (B6:Int) (BX:List Int) (CF BH:Int) (Gc:List Int) (Cg FZ:Int) (o1:Int -> List Int)
 | l3 (x9:List Int) (B2:Int) (o1:Int -> List Int) (o2:List Bool)
 | l4 (x9:List Int) (B2:Int) (o1:Int -> List Int) (o2:List Bool) (BW AO:Nat) (o4:List Int)
 | l5 (o1:Int -> List Int) (o2:List Bool)
 | l6 (x1:List Int) (o1:Int -> List Int) (o2:List Bool) (BW AO:Nat) (o4:List Int)
 | l7 (x1 x21:List Int) (Cr DW:Int) (o1:Int -> List Int) (o2:List Bool) (BW AO:Nat) (o4:List Int)
def PT (n:Nat) (self:HU -> Option ((List Int))) (q:AA) (pos cells:List Int) (level:Int) (x9 BX:List Int) (CF BH:Int) (o1:Int -> List Int):Option ((List Int)):=
 bif (decide (BH<CF)) then
  if (0<=BH/\ BH<(BX.length:Int))/\ (0<=(BX.getD ((BH).toNat) 0)/\ (BX.getD ((BH).toNat) 0)<(q.cons.length:Int)) then
   self (.l2 x9 (BX.getD ((BH).toNat) 0) BX CF BH ((q.cons.getD ((BX.getD ((BH).toNat) 0).toNat) default).cells) ((((q.cons.getD ((BX.getD ((BH).toNat) 0).toNat) default).cells).length:Nat):Int) 0 o1)
  else none
 else
  self (.l3 x9 0 o1 (List.replicate 4096 false))
def PS (n:Nat) (self:HU -> Option ((List Int))) (q:AA) (pos cells:List Int) (level:Int) (x9:List Int) (B6:Int) (BX:List Int) (CF BH:Int) (Gc:List Int) (Cg FZ:Int) (o1:Int -> List Int):Option ((List Int)):=
 bif (decide (FZ<Cg)) then
  if (0<=FZ/\ FZ<(Gc.length:Int))/\ (o1 (Gc.getD ((FZ).toNat) 0)).length+([B6]:List Int).length<=BT/\ AH (FZ+1) then
   self (.l2 x9 B6 BX CF BH Gc Cg (FZ+1) (GK o1 (Gc.getD ((FZ).toNat) 0) ((o1 (Gc.getD ((FZ).toNat) 0))++([B6]:List Int))))
  else none
 else
  if AH (BH+1) then
   self (.l1 x9 BX CF (BH+1) o1)
  else none
def I4 (n:Nat) (self:HU -> Option ((List Int))) (q:AA) (pos cells:List Int) (level:Int) (x9:List Int) (B2:Int) (o1:Int -> List Int) (o2:List Bool):Option ((List Int)):=
 bif (decide (B2<(cells.length:Int))) then
  if 0<=B2/\ B2<(cells.length:Int) then
   (Kk n (o1 (cells.getD ((B2).toNat) 0)) o2).bind fun y1=>
    bif y1.2.2.2.2 then
     if AH (B2+1) then
      self (.l3 x9 (B2+1) o1 y1.1)
     else none
    else
     if AH (B2+1) then
      self (.l4 x9 (B2+1) o1 y1.1 y1.2.1 y1.2.2.1 y1.2.2.2.1)
     else none
  else none
 else
  (Kk n x9 o2).bind fun y1=>
   bif y1.2.2.2.2 then
    self (.l5 o1 y1.1)
   else
    self (.l6 pos o1 y1.1 y1.2.1 y1.2.2.1 y1.2.2.2.1)
def PQ (n:Nat) (self:HU -> Option ((List Int))) (q:AA) (pos cells:List Int) (level:Int) (x9:List Int) (B2:Int) (o1:Int -> List Int) (o2:List Bool) (BW AO:Nat) (o4:List Int):Option ((List Int)):=
 bif (decide (B2<(cells.length:Int))) then
  if 0<=B2/\ B2<(cells.length:Int) then
   (JZ n (o1 (cells.getD ((B2).toNat) 0)) o2 BW AO o4).bind fun y1=>
    if AH (B2+1) then
     self (.l4 x9 (B2+1) o1 y1.1 y1.2.1 y1.2.2.1 y1.2.2.2)
    else none
  else none
 else
  (JZ n x9 o2 BW AO o4).bind fun y1=>
   self (.l6 pos o1 y1.1 y1.2.1 y1.2.2.1 y1.2.2.2)
def ns (n:Nat) (self:HU -> Option ((List Int))) (q:AA) (pos cells:List Int) (level:Int) (o1:Int -> List Int) (o2:List Bool):Option ((List Int)):=
 some pos
def PP (n:Nat) (self:HU -> Option ((List Int))) (q:AA) (pos cells:List Int) (level:Int) (x1:List Int) (o1:Int -> List Int) (o2:List Bool) (BW AO:Nat) (o4:List Int):Option ((List Int)):=
 bif (AO==0) then
  some x1
 else
  bif (decide ((AO:Int)>0)) then
   (Gw n x1).bind fun y1=>
    bif (!y1) then
     if ((0:Int)<=0/\ 0<(AO:Int))/\ BW+0<o4.length/\ ((0:Int)<=1/\ (1:Int)<=(AO:Int)/\ (AO:Int)<=(AO:Int))/\ (0<=(o4.getD (BW+0) 0)/\ (o4.getD (BW+0) 0)<((4096:Nat):Int))/\ 0+((o4.getD (BW+0) 0).toNat)<o2.length then
      (IS n q (o4.getD (BW+0) 0) x1).bind fun y2=>
       bif (y2.2 != 0) then
        some x1
       else
        self (.l7 x1 y2.1 (y2.1.length:Int) 0 o1 (o2.set (0+((o4.getD (BW+0) 0).toNat)) false) (BW+1) (AO-1) o4)
     else none
    else
     some x1
  else
   some x1
def LI (n:Nat) (self:HU -> Option ((List Int))) (q:AA) (pos cells:List Int) (level:Int) (x1 x21:List Int) (Cr DW:Int) (o1:Int -> List Int) (o2:List Bool) (BW AO:Nat) (o4:List Int):Option ((List Int)):=
 bif (decide (DW<Cr)) then
  if (0<=DW/\ DW<(x21.length:Int))/\ (0<=DW/\ DW<(x1.length:Int)) then
   bif ((x21.getD ((DW).toNat) 0) != (x1.getD ((DW).toNat) 0)) then
    (JZ n (o1 DW) o2 BW AO o4).bind fun y1=>
     if AH (DW+1) then
      self (.l7 x1 x21 Cr (DW+1) o1 y1.1 y1.2.1 y1.2.2.1 y1.2.2.2)
     else none
   else
    if AH (DW+1) then
     self (.l7 x1 x21 Cr (DW+1) o1 o2 BW AO o4)
    else none
  else none
 else
  self (.l6 x21 o1 o2 BW AO o4)
def PU (n:Nat) (self:HU -> Option ((List Int))) (q:AA) (pos cells:List Int) (level:Int):Option ((List Int)):=
 (Gw n pos).bind fun y1=>
  bif y1 then
   if ((pos.length:Int):Int)=(pos.length:Int)/\ 0<=(pos.length:Int)/\ ((pos.length:Int):Int)<=1000000000000 then
    if pos.length=(List.replicate pos.length (0:Int)).length then
     some (List.replicate pos.length (0:Int))
    else none
   else none
  else
   (OX n q level).bind fun y2=>
    self (.l1 y2 y2 (y2.length:Int) 0 (fun _=>[]))
def Bg (q:AA) (pos cells:List Int) (level:Int):Nat -> HU -> Option ((List Int))
 | 0,_=>none
 | n+1,.l1 x9 BX CF BH o1=>PT n (Bg q pos cells level n) q pos cells level x9 BX CF BH o1
 | n+1,.l2 x9 B6 BX CF BH Gc Cg FZ o1=>PS n (Bg q pos cells level n) q pos cells level x9 B6 BX CF BH Gc Cg FZ o1
 | n+1,.l3 x9 B2 o1 o2=>I4 n (Bg q pos cells level n) q pos cells level x9 B2 o1 o2
 | n+1,.l4 x9 B2 o1 o2 BW AO o4=>PQ n (Bg q pos cells level n) q pos cells level x9 B2 o1 o2 BW AO o4
 | n+1,.l5 o1 o2=>ns n (Bg q pos cells level n) q pos cells level o1 o2
 | n+1,.l6 x1 o1 o2 BW AO o4=>PP n (Bg q pos cells level n) q pos cells level x1 o1 o2 BW AO o4
 | n+1,.l7 x1 x21 Cr DW o1 o2 BW AO o4=>LI n (Bg q pos cells level n) q pos cells level x1 x21 Cr DW o1 o2 BW AO o4
def WI (n:Nat) (q:AA) (pos cells:List Int) (level:Int):Option ((List Int)):=PU n (Bg q pos cells level n) q pos cells level
def nt (n B:Nat) (N:Yd 0) (q:AA) (pos cells:List Int) (level:Int) (r:(List Int)):HU -> Prop
 | .l1 x9 BX CF BH o1=>∀ m0:Nat,n<=m0 -> TW B N (FQ Tryz.f47 0 (.ints r) []) (Ai m0 (Ap (AZ Tryz.f47) 0 [])) ⟨AL 123 [(1,.ints pos),(2,.ints cells),(4,.ref 0 0),(9,.ints x9),(10,.mri 1 0),(33,.ints BX),(34,.i CF),(35,.i BH)],[some (.cells (AD q)),some (.mo (.rows o1 none))]⟩
 | .l2 x9 B6 BX CF BH Gc Cg FZ o1=>∀ m0 m1:Nat,n<=m0 -> n<=m1 -> TW B N (FQ Tryz.f47 0 (.ints r) []) (Ai m1 (Ap (AZ Tryz.f47) 2 [m0])) ⟨AL 123 [(1,.ints pos),(2,.ints cells),(4,.ref 0 0),(9,.ints x9),(10,.mri 1 0),(12,.i B6),(33,.ints BX),(34,.i CF),(35,.i BH),(44,.ints Gc),(45,.i Cg),(46,.i FZ)],[some (.cells (AD q)),some (.mo (.rows o1 none))]⟩
 | .l3 x9 B2 o1 o2=>∀ m0:Nat,n<=m0 -> TW B N (FQ Tryz.f47 0 (.ints r) []) (Ai m0 (Ap (AZ Tryz.f47) 4 [])) ⟨AL 123 [(1,.ints pos),(4,.ref 0 0),(9,.ints x9),(10,.mri 1 0),(15,.mp 2 1 0 0),(16,.ref 3 0),(17,.fn 71 2 (L1 [.mp 2 1 0 0,.ref 3 0])),(61,.ints cells),(62,.i (cells.length:Int)),(63,.i B2)],[some (.cells (AD q)),some (.mo (.rows o1 none)),some (.bools o2),some (.cells [.nils])]⟩
 | .l4 x9 B2 o1 o2 BW AO o4=>∀ m0:Nat,n<=m0 -> TW B N (FQ Tryz.f47 0 (.ints r) []) (Ai m0 (Ap (AZ Tryz.f47) 4 [])) ⟨AL 123 [(1,.ints pos),(4,.ref 0 0),(9,.ints x9),(10,.mri 1 0),(15,.mp 2 1 0 0),(16,.ref 3 0),(17,.fn 71 2 (L1 [.mp 2 1 0 0,.ref 3 0])),(61,.ints cells),(62,.i (cells.length:Int)),(63,.i B2)],[some (.cells (AD q)),some (.mo (.rows o1 none)),some (.bools o2),some (.cells [.mse 4 1 BW AO]),some (.ints o4)]⟩
 | .l5 o1 o2=>∀ m0:Nat,n<=m0 -> TW B N (FQ Tryz.f47 0 (.ints r) []) (Ai m0 (Ap (AZ Tryz.f47) 6 [])) ⟨AL 123 [(1,.ints pos),(4,.ref 0 0),(10,.mri 1 0),(15,.mp 2 1 0 0),(16,.ref 3 0),(17,.fn 71 2 (L1 [.mp 2 1 0 0,.ref 3 0]))],[some (.cells (AD q)),some (.mo (.rows o1 none)),some (.bools o2),some (.cells [.nils])]⟩
 | .l6 x1 o1 o2 BW AO o4=>∀ m0:Nat,n<=m0 -> TW B N (FQ Tryz.f47 0 (.ints r) []) (Ai m0 (Ap (AZ Tryz.f47) 6 [])) ⟨AL 123 [(1,.ints x1),(4,.ref 0 0),(10,.mri 1 0),(15,.mp 2 1 0 0),(16,.ref 3 0),(17,.fn 71 2 (L1 [.mp 2 1 0 0,.ref 3 0]))],[some (.cells (AD q)),some (.mo (.rows o1 none)),some (.bools o2),some (.cells [.mse 4 1 BW AO]),some (.ints o4)]⟩
 | .l7 x1 x21 Cr DW o1 o2 BW AO o4=>∀ m0 m1:Nat,n<=m0 -> n<=m1 -> TW B N (FQ Tryz.f47 0 (.ints r) []) (Ai m1 (Ap (AZ Tryz.f47) 8 [m0])) ⟨AL 123 [(1,.ints x1),(4,.ref 0 0),(10,.mri 1 0),(15,.mp 2 1 0 0),(16,.ref 3 0),(17,.fn 71 2 (L1 [.mp 2 1 0 0,.ref 3 0])),(21,.ints x21),(102,.i Cr),(103,.i DW)],[some (.cells (AD q)),some (.mo (.rows o1 none)),some (.bools o2),some (.cells [.mse 4 1 BW AO]),some (.ints o4)]⟩
theorem nu (B:Nat) (N:Yd 0) (q:AA) (pos cells:List Int) (level:Int):Al (Bg q pos cells level) (nt · B N q pos cells level):=ia (fun _=>rfl) fun n AF pt r h=>by
 cases pt
 case l1 x9 BX CF BH o1=>
  intro m0 AC;refine rd AC fun m0 AC=>?_
  revert r;apply gO;exact bi 36 (gc (gi (gi (lN Dn [0,1] (AF _ _ · m0 n AC Nat.le.refl))))) (lN Dn [0,1,2,3] (AF _ _ · n Nat.le.refl))
 case l2 x9 B6 BX CF BH Gc Cg FZ o1=>
  intro m0 m1 AC Af;have AC:=yw AC;refine rd Af fun m1 Af=>?_
  revert r;apply gO;exact bi 47 (gc (gi (jg (And.intro (Eq.refl 0) (Eq.refl 1)) (jg (by decide:0<1) (gc (gi (jg (Eq.refl (Gc.getD ((FZ).toNat) 0)) (gw 58 (lG Dn [0,4] (AF _ _ · m0 m1 AC Af)))))))))) (gw 59 (lG Dn [0,1] (AF _ _ · m0 AC)))
 case l3 x9 B2 o1 o2=>
  intro m0 AC;refine rd AC fun m0 AC=>?_
  revert r;apply gO;exact bi 64 (gi (cn fun y1 A5=>bn (fun c1=>jc (es (i5 A5 c1) [2,3] (eW cells q o2 o1 B2) [.mri 4 1,.mp 2 1 0 0,.ref 3 0] ⟨(.inr (Ja.own rfl rfl)),(.inl rfl),(.inl rfl),trivial⟩) (ju 71 4 (gw 72 (lG Dn [0,4,2,3] (AF _ _ · m0 AC))))) (fun c1=>jc (es (i4 A5 c1) [2,3] (eW cells q o2 o1 B2) [.mri 4 1,.mp 2 1 0 0,.ref 3 0] ⟨(.inr (Ja.own rfl rfl)),(.inl rfl),(.inl rfl),trivial⟩) (ju 71 4 (gw 72 (lG Dn [0,4,2,3,5] (AF _ _ · m0 AC))))))) (cn fun y1 A5=>bn (fun c1=>jc (em (i5 A5 c1) [2,3] [some (.cells (AD q)),some (.mo (.rows o1 none)),some (.bools o2),some (.cells [.nils])]) (lN Dn [0,1,2,3] (AF _ _ · n Nat.le.refl))) (fun c1=>jc (em (i4 A5 c1) [2,3] [some (.cells (AD q)),some (.mo (.rows o1 none)),some (.bools o2),some (.cells [.nils])]) (lN Dn [0,1,2,3,4] (AF _ _ · n Nat.le.refl))))
 case l4 x9 B2 o1 o2 BW AO o4=>
  intro m0 AC;refine rd AC fun m0 AC=>?_
  revert r;apply gO;exact bi 64 (gi (cn fun y1 A5=>jc (es (ZP A5) [2,3,4] (s3 cells q o2 BW AO o4 o1 B2) [.mri 5 1,.mp 2 1 0 0,.ref 3 0] ⟨(.inr (Ja.own rfl rfl)),(.inl rfl),(.inl rfl),trivial⟩) (ju 71 5 (gw 72 (lG Dn [0,5,2,3,6] (AF _ _ · m0 AC)))))) (ce ZP [2,3,4] (eV cells q o1 o2 BW AO o4) fun _=>lN Dn [0,1,2,3,5] (AF _ _ · n Nat.le.refl))
 case l5 o1 o2=>
  intro m0 AC;refine rd AC fun m0 AC=>?_
  revert r;apply gO;exact lE Dn [8] []
 case l6 x1 o1 o2 BW AO o4=>
  intro m0 AC;refine rd AC fun m0 AC=>?_
  revert r;apply gO;exact bn (fun c0=>jo 76 (AN.mse_nil (k:=4) (m:=1) (o:=BW) (eq_of_beq c0)) (lE Dn [8] [])) (fun c0=>jo 76 (AN.mse_msl (k:=4) (m:=1) (o:=BW) (Sq c0) rfl) (bi 78 (cf NG (eV cells q o1 o2 BW AO o4) fun _=>bi 82 (jo 84 (AN.mse_msl (k:=4) (m:=1) (o:=BW) (Sq c0) rfl) (gc (gi (gc (gi (jo 87 (AN.mse_msl (k:=4) (m:=1) (o:=BW) (Sq c0) rfl) (gc (gi (jt (gc (gi (gi (cf WL (sw cells q o1 o2 o4 BW AO) fun _=>bi 99 (lE Dn [8] []) (lN Dn [0,1,2,3,4] (AF _ _ · m0 n AC Nat.le.refl))))))))))))))) (lE Dn [8] [])) (lE Dn [8] [])))
 case l7 x1 x21 Cr DW o1 o2 BW AO o4=>
  intro m0 m1 AC Af;have AC:=yw AC;refine rd Af fun m1 Af=>?_
  revert r;apply gO;exact bi 104 (jg lK (gc (gi (gi (bi 114 (cn fun y1 A5=>jc (es (ZP A5) [2,3,4] (sv cells q o2 BW AO o4 o1 DW) [.mri 5 1,.mp 2 1 0 0,.ref 3 0] ⟨(.inr (Ja.own rfl rfl)),(.inl rfl),(.inl rfl),trivial⟩) (ju 119 5 (gw 120 (lG Dn [0,5,2,3,6] (AF _ _ · m0 m1 AC Af))))) (gw 120 (lG Dn [0,1,2,3,4] (AF _ _ · m0 m1 AC Af)))))))) (lG Dn [0,1,2,3,4] (AF _ _ · m0 AC))
theorem nr {n:Nat} {q:AA} {pos cells:List Int} {level:Int} {r:(List Int)} (h:WI n q pos cells level=some r):EQ 47 [.agg 5 (L1 (AD q)),.ints pos,.ints cells,.i level] [] (.ints r) [] true:=by
 refine ot Tryz.func47 fun B N=>?_
 revert r;apply gO;exact cf NG [some (.cells (AD q))] fun _=>bi 25 (gi (gn fun g1=>lF fun p=>ez Dn [8] [1] p [0] (H0.g g1))) (cf Z0 [some (.cells (AD q))] fun _=>lN Dn [0,1] ((nu B N q pos cells level n) _ _ · n Nat.le.refl))
def ix (n:Nat) (q:AA) (pos cells:List Int) (level:Int):Option ((List Int)×Int):=
 (LN n q pos).bind fun y1=>
  bif (y1 != 0) then
   some (([]:List Int),y1)
  else
   (Ut n cells q).bind fun y2=>
    bif y2 then
     some (([]:List Int),1)
    else
     (WI n q pos cells level).bind fun y3=>
      some (y3,0)
def Rf (n:Nat) (q:AA) (pos cells:List Int) (level:Int):Option ((List Int)×Int):=ix n q pos cells level
theorem VH {n:Nat} {q:AA} {pos cells:List Int} {level:Int} {r:(List Int)×Int} (h:Rf n q pos cells level=some r):EQ 19 [.agg 5 (L1 (AD q)),.ints pos,.ints cells,.i level] [] (.tup 2 (L1 [.ints r.1,.i r.2])) [] true:=by
 unfold Rf ix at h;refine ot Tryz.func19 fun B N=>?_
 revert r;apply gO;exact cf WP [some (.cells (AD q))] fun y1=>bi 14 (lF fun p=>el AE [8,9] [] p [] H0 [.nils,.i y1] (AN.tupL (l:=[.nils,.i y1]) (l':=[.ints ([]:List Int),.i y1]) rfl ⟨AN.ints_nil,BY,trivial⟩)) (cn fun y2 CQ=>jc (sb [.ints cells,.fn 46 1 (L1 [.ref 0 0])] (wX CQ) [some (.cells (AD q))] ⟨Ad.plain (by kernel_rfl),(Ad.fnL (l:=[.ref 0 0]) (l0:=[.fp 5 (L1 (AD q))]) ⟨(Ad.refL (l:=(AD q)) (l0:=(AD q)) rfl ⟨Ad.plain (by kernel_rfl),Ad.plain (by kernel_rfl),Ad.plain (by kernel_rfl),Ad.plain (by kernel_rfl),Ad.plain (by kernel_rfl),trivial⟩),trivial⟩),trivial⟩) (bi 18 (lF fun p=>el AE [8,9] [] p [] H0 [.nils,.i 1] (AN.tupL (l:=[.nils,.i 1]) (l':=[.ints ([]:List Int),.i 1]) rfl ⟨AN.ints_nil,BY,trivial⟩)) (cf nr [some (.cells (AD q))] fun _=>lE AE [8,9] [])))
def iw (n:Nat) (q:AA) (pos:List Int) (level:Int):Option ((List Int)×Int):=
 (Rf n q pos ([]:List Int) level).bind fun y1=>
  some (y1.1,y1.2)
def H5 (n:Nat) (q:AA) (pos:List Int) (level:Int):Option ((List Int)×Int):=iw n q pos level
theorem GD {n:Nat} {q:AA} {pos:List Int} {level:Int} {r:(List Int)×Int} (h:H5 n q pos level=some r):EQ 17 [.agg 5 (L1 (AD q)),.ints pos,.i level] [] (.tup 2 (L1 [.ints r.1,.i r.2])) [] true:=by
 unfold H5 iw at h;refine ot Tryz.func17 fun B N=>?_
 revert r;apply gO;exact cn fun y1 A5=>jc (fb (ES.argsLe (ds:=[.agg 5 (L1 (AD q)),.ints pos,.nils,.i level]) (VH A5) ⟨BY,BY,AN.ints_nil,BY,trivial⟩) [some (.cells (AD q))]) (lE AE [6,7] [])
def iF (n:Nat) (i_:Int) (q:AA) (pos:List Int):Option (Bool×(List Int)):=
 (IS n q i_ pos).bind fun y1=>
  bif (y1.2 != 0) then
   some (false,pos)
  else
   (Nr n y1.1 pos).bind fun y2=>
    bif y2 then
     some (false,pos)
    else
     some (true,y1.1)
def Y0 (n:Nat) (i_:Int) (q:AA) (pos:List Int):Option (Bool×(List Int)):=iF n i_ q pos
theorem wo {n:Nat} {i_:Int} {q:AA} {pos:List Int} {r:Bool×(List Int)} (h:Y0 n i_ q pos=some r):EQ 49 [.i i_,.ref 0 0,.ref 1 0] [some (.cells (AD q)),some (.cells [.ints pos])] (.bool r.1) [some (.cells (AD q)),some (.cells [.ints r.2])] false:=by
 unfold Y0 iF at h;refine ot Tryz.func49 fun B N=>?_
 revert r;apply gO;exact cf WL [some (.cells (AD q)),some (.cells [.ints pos])] fun _=>bi 15 (lE AE [4] [0,1]) (cf gT [some (.cells (AD q)),some (.cells [.ints pos])] fun _=>bi 19 (lE AE [4] [0,1]) (jt (lE AE [4] [0,1])))
inductive Tl where
 | l1 (x8:Int) (Ax:List Int)
def qj (n:Nat) (self:Tl -> Option (Int×(List Int))) (l:List Int) (q:AA) (pos:List Int) (x8:Int) (Ax:List Int):Option (Int×(List Int)):=
 bif (decide (x8<(l.length:Int))) then
  if 0<=x8/\ x8<(l.length:Int) then
   (Y0 n (l.getD ((x8).toNat) 0) q Ax).bind fun y1=>
    bif y1.1 then
     some (x8,y1.2)
    else
     if AH (x8+1) then
      self (.l1 (x8+1) y1.2)
     else none
  else none
 else
  some ((-1),Ax)
def qk (n:Nat) (self:Tl -> Option (Int×(List Int))) (l:List Int) (q:AA) (pos:List Int):Option (Int×(List Int)):=
 self (.l1 0 pos)
def XI (l:List Int) (q:AA) (pos:List Int):Nat -> Tl -> Option (Int×(List Int))
 | 0,_=>none
 | n+1,.l1 x8 Ax=>qj n (XI l q pos n) l q pos x8 Ax
def XJ (n:Nat) (l:List Int) (q:AA) (pos:List Int):Option (Int×(List Int)):=qk n (XI l q pos n) l q pos
def ql (n B:Nat) (N:Yd 2) (l:List Int) (q:AA) (pos:List Int) (r:Int×(List Int)):Tl -> Prop
 | .l1 x8 Ax=>∀ m0:Nat,n<=m0 -> TW B N (FQ Tryz.f52 2 (.i r.1) [some (.cells (AD q)),some (.cells [.ints r.2])]) (Ai m0 (Ap (AZ Tryz.f52) 0 [])) ⟨AL 19 [(0,.ints l),(1,.fn 49 2 (L1 [.ref 0 0,.ref 1 0])),(7,.i (l.length:Int)),(8,.i x8)],[some (.cells (AD q)),some (.cells [.ints Ax])]⟩
theorem qm (B:Nat) (N:Yd 2) (l:List Int) (q:AA) (pos:List Int):Al (XI l q pos) (ql · B N l q pos):=ia (fun _=>rfl) fun n AF pt r h=>by
 cases pt
 case l1 x8 Ax=>
  intro m0 AC;refine rd AC fun m0 AC=>?_
  revert r;apply gO;exact bi 9 (gi (ce wo [0,1] [some (.cells (AD q)),some (.cells [.ints Ax])] fun _=>bi 16 (lE AE [4] [0,1]) (gw 18 (lG AE [0,1] (AF _ _ · m0 AC))))) (lE AE [4] [0,1])
theorem eD {n:Nat} {l:List Int} {q:AA} {pos:List Int} {r:Int×(List Int)} (h:XJ n l q pos=some r):EQ 52 [.ints l,.fn 49 2 (L1 [.ref 0 0,.ref 1 0])] [some (.cells (AD q)),some (.cells [.ints pos])] (.i r.1) [some (.cells (AD q)),some (.cells [.ints r.2])] false:=by
 refine ot Tryz.func52 fun B N=>?_
 revert r;apply gO;exact lN AE [0,1] ((qm B N l q pos n) _ _ · n Nat.le.refl)
inductive Pf where
 | l1 (x8:List Int)
 | l2 (x6:Nat) (x8 IX o1:List Int)
def oZ (n:Nat) (self:Pf -> Option ((List Int)×Int)) (q:AA) (pos:List Int) (level:Int) (x8:List Int):Option ((List Int)×Int):=
 (Gw n pos).bind fun y1=>
  bif (!y1) then
   (XJ n x8 q pos).bind fun y2=>
    bif (decide (y2.1<0)) then
     some (([]:List Int),0)
    else
     if (0<=y2.1/\ y2.1<(x8.length:Int))/\ ((0=0/\ 1=([x8.getD ((y2.1).toNat) 0]:List Int).length)/\ 0<([x8.getD ((y2.1).toNat) 0]:List Int).length/\ ([x8.getD ((y2.1).toNat) 0]:List Int).length<=BT) then
      self (.l2 (([x8.getD ((y2.1).toNat) 0]:List Int).length) x8 y2.2 ([x8.getD ((y2.1).toNat) 0]:List Int))
     else none
  else
   some (([]:List Int),0)
def oY (n:Nat) (self:Pf -> Option ((List Int)×Int)) (q:AA) (pos:List Int) (level:Int) (x6:Nat) (x8 IX o1:List Int):Option ((List Int)×Int):=
 (Gw n IX).bind fun y1=>
  bif (!y1) then
   (XJ n x8 q IX).bind fun y2=>
    bif (decide (y2.1<0)) then
     if x6=o1.length then
      some (o1,0)
     else none
    else
     if (0<=y2.1/\ y2.1<(x8.length:Int))/\ ((0=0/\ 1=([x8.getD ((y2.1).toNat) 0]:List Int).length)/\ (0=0/\ x6=o1.length)/\ o1.length+([x8.getD ((y2.1).toNat) 0]:List Int).length<=BT) then
      self (.l2 (o1.length+([x8.getD ((y2.1).toNat) 0]:List Int).length) x8 y2.2 (o1++([x8.getD ((y2.1).toNat) 0]:List Int)))
     else none
  else
   if x6=o1.length then
    some (o1,0)
   else none
def oa (n:Nat) (self:Pf -> Option ((List Int)×Int)) (q:AA) (pos:List Int) (level:Int):Option ((List Int)×Int):=
 (LN n q pos).bind fun y1=>
  bif (y1 != 0) then
   some (([]:List Int),y1)
  else
   (OX n q level).bind fun y2=>
    self (.l1 y2)
def TE (q:AA) (pos:List Int) (level:Int):Nat -> Pf -> Option ((List Int)×Int)
 | 0,_=>none
 | n+1,.l1 x8=>oZ n (TE q pos level n) q pos level x8
 | n+1,.l2 x6 x8 IX o1=>oY n (TE q pos level n) q pos level x6 x8 IX o1
def WV (n:Nat) (q:AA) (pos:List Int) (level:Int):Option ((List Int)×Int):=oa n (TE q pos level n) q pos level
def oc (n B:Nat) (N:Yd 0) (q:AA) (pos:List Int) (level:Int) (r:(List Int)×Int):Pf -> Prop
 | .l1 x8=>∀ m0:Nat,n<=m0 -> TW B N (FQ Tryz.f22 0 (.tup 2 (L1 [.ints r.1,.i r.2])) []) (Ai m0 (Ap (AZ Tryz.f22) 0 [])) ⟨AL 37 [(4,.ref 0 0),(6,.nils),(8,.ints x8),(9,.fn 49 2 (L1 [.ref 1 0,.ref 0 0]))],[some (.cells [.ints pos]),some (.cells (AD q))]⟩
 | .l2 x6 x8 IX o1=>∀ m0:Nat,n<=m0 -> TW B N (FQ Tryz.f22 0 (.tup 2 (L1 [.ints r.1,.i r.2])) []) (Ai m0 (Ap (AZ Tryz.f22) 0 [])) ⟨AL 37 [(4,.ref 0 0),(6,.msl 1 1 0 x6),(8,.ints x8),(9,.fn 49 2 (L1 [.ref 2 0,.ref 0 0]))],[some (.cells [.ints IX]),some (.ints o1),some (.cells (AD q))]⟩
theorem od (B:Nat) (N:Yd 0) (q:AA) (pos:List Int) (level:Int):Al (TE q pos level) (oc · B N q pos level):=ia (fun _=>rfl) fun n AF pt r h=>by
 cases pt
 case l1 x8=>
  intro m0 AC;refine rd AC fun m0 AC=>?_
  revert r;apply gO;exact cf NG [some (.cells [.ints pos]),some (.cells (AD q))] fun _=>bi 23 (ce eD [1,0] [some (.cells [.ints pos]),some (.cells (AD q))] fun _=>bi 28 (lF fun p=>el AE [6,7] [] p [] H0 [.nils,.i 0] (AN.tupL (l:=[.nils,.i 0]) (l':=[.ints ([]:List Int),.i 0]) rfl ⟨AN.ints_nil,BY,trivial⟩)) (gc (gi (gi (lG AE [0,3,1] (AF _ _ · m0 AC)))))) (lF fun p=>el AE [6,7] [] p [] H0 [.nils,.i 0] (AN.tupL (l:=[.nils,.i 0]) (l':=[.ints ([]:List Int),.i 0]) rfl ⟨AN.ints_nil,BY,trivial⟩))
 case l2 x6 x8 IX o1=>
  intro m0 AC;refine rd AC fun m0 AC=>?_
  revert r;apply gO;exact cf NG [some (.cells [.ints IX]),some (.ints o1),some (.cells (AD q))] fun _=>bi 23 (ce eD [2,0] [some (.cells [.ints IX]),some (.ints o1),some (.cells (AD q))] fun _=>bi 28 (gn fun g0=>lF fun p=>ez AE [6,7] [1] p [0] (H0.g g0)) (gc (gi (gi (lG AE [0,4,2] (AF _ _ · m0 AC)))))) (gn fun g0=>lF fun p=>ez AE [6,7] [1] p [0] (H0.g g0))
theorem M0 {n:Nat} {q:AA} {pos:List Int} {level:Int} {r:(List Int)×Int} (h:WV n q pos level=some r):EQ 22 [.agg 5 (L1 (AD q)),.ints pos,.i level] [] (.tup 2 (L1 [.ints r.1,.i r.2])) [] true:=by
 refine ot Tryz.func22 fun B N=>?_
 revert r;apply gO;exact cf WP [some (.cells (AD q)),some (.cells [.ints pos])] fun y1=>bi 15 (lF fun p=>el AE [6,7] [] p [] H0 [.nils,.i y1] (AN.tupL (l:=[.nils,.i y1]) (l':=[.ints ([]:List Int),.i y1]) rfl ⟨AN.ints_nil,BY,trivial⟩)) (cf Z0 [some (.cells (AD q)),some (.cells [.ints pos])] fun _=>lN AE [1,0] ((od B N q pos level n) _ _ · n Nat.le.refl))
def gH (n:Nat) (q:AA) (pos:List Int) (level:Int):Option (Bool×Int):=
 (H5 n q pos level).bind fun y1=>
  bif (y1.2==0) then
   (Nr n y1.1 pos).bind fun y2=>
    some (y2,y1.2)
  else
   some (false,y1.2)
def L9 (n:Nat) (q:AA) (pos:List Int) (level:Int):Option (Bool×Int):=gH n q pos level
theorem L8 {n:Nat} {q:AA} {pos:List Int} {level:Int} {r:Bool×Int} (h:L9 n q pos level=some r):EQ 24 [.agg 5 (L1 (AD q)),.ints pos,.i level] [] (.tup 2 (L1 [.bool r.1,.i r.2])) [] true:=by
 unfold L9 gH at h;refine ot Tryz.func24 fun B N=>?_
 revert r;apply gO;exact cf GD [some (.cells (AD q))] fun _=>bi 17 (cf gT [some (.cells (AD q))] fun _=>lE AE [6,7] []) (lE AE [6,7] [])
end Go.Proofs.YtekkngkphejfcaaGreatDoor
namespace Go.Proofs.YtekkngkphejfcaaGreatDoor
open Go.RowKit
def BG {T R:Type} (m:Nat -> T -> Option R) (a b:T):Prop:=∃ N S,∀ n,N<=n -> m (n+S) a=m n b
section
variable {T R:Type} {m:Nat -> T -> Option R} {a b c:T} {r:R} {Q:R -> Prop}
theorem BG.refl:BG m a a:=⟨0,0,fun _ _=>rfl⟩
theorem BG.one (h: ∀ n,m (n+1) a=m n b):BG m a b:=⟨0,1,fun n _=>h n⟩
theorem BG.oneN (N:Nat) (h: ∀ n,N<=n -> m (n+1) a=m n b):BG m a b:=⟨N,1,h⟩
theorem BG.trans (h:BG m a b) (h2:BG m b c):BG m a c:=by
 obtain ⟨N,S,h⟩:=h;obtain ⟨N2,S2,h2⟩:=h2;exact ⟨max N N2,S2+S,fun n hn=>by rw [←zB,h _ (by omega),h2 _ (by omega)]⟩
theorem BG.ev (h:BG m a b) (h2:Ev (fun n=>m n b) r):Ev (fun n=>m n a) r:=by
 obtain ⟨N,S,h⟩:=h;obtain ⟨M,h2⟩:=h2;refine ⟨max N M+S,fun n hn=>?_⟩;have:=h (n-S) (by omega);rw [show n-S+S=n by omega] at this;exact this.trans (h2 (n-S) (by omega))
theorem Ev.one (h: ∀ n,m (n+1) a=some r):Ev (fun n=>m n a) r:=⟨1,fun n hn=>by
 obtain ⟨k,rfl⟩: ∃ k,n=k+1:=⟨n-1,by omega⟩;exact h k⟩
theorem Ev.oneN (N:Nat) (h: ∀ n,N<=n -> m (n+1) a=some r):Ev (fun n=>m n a) r:=⟨N+1,fun n hn=>by
 obtain ⟨k,rfl⟩: ∃ k,n=k+1:=⟨n-1,by omega⟩;exact h k (by omega)⟩
theorem KA {S:Type} (st:Nat -> S -> T) (I:Nat -> S -> Prop) (len:Nat) (h: ∀ i s,i<len -> I i s -> ∃ s',I (i+1) s'/\ BG m (st i s) (st (i+1) s')): ∀ (k i:Nat) (s:S),i+k=len -> I i s -> ∃ s',I len s'/\ BG m (st i s) (st len s')
 | 0,i,s,e,hI=>by
  have:i=len:=by omega
  subst this;exact ⟨s,hI,BG.refl⟩
 | k+1,i,s,e,hI=>by
  obtain ⟨s',h1,h2⟩:=h i s (by omega) hI;obtain ⟨s2,h3,h4⟩:=KA st I len h k (i+1) s' (by omega) h1;exact ⟨s2,h3,h2.trans h4⟩
end
end Go.Proofs.YtekkngkphejfcaaGreatDoor
namespace Go.Proofs.YtekkngkphejfcaaGreatDoor
open Go.RowKit
section
variable {q:AA} {level:Int} {p:List Int}
def Es (q:AA) (level:Int) (k:Nat):List Int:=((List.range k).filter fun i:Nat=>decide (Fj (con q (i:Int)).kind<=level)).map fun i:Nat=>(i:Int)
def Ah (q:AA) (level:Int):List Int:=Es q level q.cons.length
theorem jU {k:Nat}:Es q level (k+1)=Es q level k++if Fj (con q (k:Int)).kind<=level then [(k:Int)] else []:=by
 unfold Es;rw [List.range_succ,List.filter_append,List.map_append]
 congr 1
 by_cases h:Fj (con q (k:Int)).kind<=level
 ·rw [yC h];simp [h]
 ·rw [yM h];simp [h]
theorem Rl {k:Nat}:(Es q level k).length<=k:=by
 unfold Es;rw [yr];exact yO (List.length_filter_le _ _) (zA6 zAF)
theorem J8 {i:Int}:i∈Ah q level↔Up q level i:=by
 unfold Ah Es Up;rw [zK];constructor
 ·rintro ⟨k,h,rfl⟩;rw [zx,yP,yQ] at h;exact ⟨by omega,by omega,h.2⟩
 ·rintro ⟨h0,h1,h2⟩;refine ⟨i.toNat,?_,by omega⟩;rw [zx,yP,yQ];have e:((i.toNat:Nat):Int)=i:=by omega
  exact ⟨by omega,by rw [e];exact h2⟩
def Fb (ZR:List Int) (k:Nat):MW:=if ZR= [] then .l1 (k:Int) else .l2 ZR.length (k:Int) ZR
theorem df (hv:CY q=true) {k:Nat} (hk:k<q.cons.length):Gv q (k:Int)=(Fj (con q (k:Int)).kind,0):=by
 unfold Gv;rw [yM (by rw [hv];exact fun h=>by cases h),yC ⟨by omega,by omega⟩];rfl
theorem jW (hF:Cq q) (hv:CY q=true) {n k:Nat} (hn:Dl q<=n) (hk:k<q.cons.length):Fw q level (n+1) (Fb (Es q level k) k)=Fw q level n (Fb (Es q level (k+1)) (k+1)):=by
 have h4:=(DX hv).2.2.2.2.1;have AK:decide ((k:Int)<(q.cons.length:Int))=true:=yI (by omega);have hr:AH ((k:Int)+1):=At.2 ⟨by omega,by omega⟩;have ek:((k+1:Nat):Int)=(k:Int)+1:=by omega
 rw [jU]
 by_cases ha:Es q level k= []
 ·rw [ha,zc]
  show OW n (Fw q level n) q level (k:Int)=_
  unfold OW;rw [AK,yF,Wt hF hn,yD,df hv hk]
  show (bif decide (Fj (con q (k:Int)).kind<=level) then _ else _)=_
  by_cases hl:Fj (con q (k:Int)).kind<=level
  ·rw [yI hl,yF,yC hl,yC ⟨⟨⟨rfl,rfl⟩,Nat.one_pos,by unfold BT;simp⟩,hr⟩]
   show _=Fw q level n (Fb [(k:Int)] (k+1))
   unfold Fb;rw [yM (by simp),ek]
  ·rw [yA hl,yB,yM hl,yC hr]
   show _=Fw q level n (Fb [] (k+1))
   unfold Fb;rw [yC rfl,ek]
 ·have Ae:=Rl (q:=q) (level:=level) (k:=k);have e0:Fb (Es q level k) k= .l2 (Es q level k).length (k:Int) (Es q level k):=by unfold Fb;rw [yM ha]
  rw [e0]
  show OV n (Fw q level n) q level (Es q level k).length (k:Int) (Es q level k)=_
  unfold OV;rw [AK,yF,Wt hF hn,yD,df hv hk]
  show (bif decide (Fj (con q (k:Int)).kind<=level) then _ else _)=_
  by_cases hl:Fj (con q (k:Int)).kind<=level
  ·rw [yI hl,yF,yC hl,yC ⟨⟨⟨rfl,rfl⟩,⟨rfl,rfl⟩,by unfold BT;simp;omega⟩,hr⟩];unfold Fb;rw [yM (by simp),ek,yu]
  ·rw [yA hl,yB,yM hl,yC hr,zAS];unfold Fb;rw [yM ha,ek]
theorem jX (hF:Cq q) (hv:CY q=true):Ev (fun n=>OX n q level) (Ah q level):=by
 obtain ⟨_,_,h⟩:=KA (m:=Fw q level) (S:=Unit) (fun k _=>Fb (Es q level k) k) (fun _ _=>True) q.cons.length (fun k s hk _=>⟨(),trivial,BG.oneN (Dl q) fun n hn=>jW hF hv hn hk⟩) q.cons.length 0 () (by omega) trivial;have h0:Fb (Es q level 0) 0= .l1 0:=rfl;simp only [h0] at h;refine h.ev (Ev.one fun n=>?_);have AK:decide ((q.cons.length:Int)<(q.cons.length:Int))=false:=yA (by omega)
 show Fw q level (n+1) (Fb (Ah q level) q.cons.length)=some (Ah q level)
 by_cases ha:Ah q level= []
 ·rw [ha]
  show OW n (Fw q level n) q level (q.cons.length:Int)=_
  unfold OW;rw [AK,yB]
 ·have e0:Fb (Ah q level) q.cons.length= .l2 (Ah q level).length (q.cons.length:Int) (Ah q level):=by unfold Fb;rw [yM ha]
  rw [e0]
  show OV n (Fw q level n) q level (Ah q level).length (q.cons.length:Int) (Ah q level)=_
  unfold OV;rw [AK,yB,yC rfl]
end
structure QI (K:Nat) (ws:List Bool) (Q:List Int):Prop where
 len:ws.length=4096
 nd:Q.Nodup
 rng: ∀ i∈Q,0<=i/\ i<(K:Int)
 iff: ∀ i:Nat,i<4096 -> (ws.getD i false=true↔(i:Int)∈Q)
section
variable {K o n:Nat} {ws:List Bool} {Q l qu:List Int} {v:Int}
theorem QI.le (h:QI K ws Q):Q.length<=K:=M4 K Q h.nd h.rng
theorem QI.push (h:QI K ws Q) (hK:K<=4096) (h0:0<=v) (h1:v<(K:Int)) (hw:ws.getD v.toNat false=false):QI K (ws.set v.toNat true) (Q++[v]):=by
 have hv:v∉Q:=fun hm=>by
  have e:((v.toNat:Nat):Int)=v:=by omega
  have:=(h.iff v.toNat (by omega)).2 (by rw [e];exact hm);rw [hw] at this;cases this
 refine ⟨by rw [yp];exact h.len,List.nodup_append.2 ⟨h.nd,by simp,fun a ha b hb=>by rintro rfl;simp at hb;subst hb;exact hv ha⟩,fun i hi=>?_,fun i hi=>?_⟩
 ·rcases yb.1 hi with hi | hi
  ·exact h.rng i hi
  ·simp at hi;subst hi;exact ⟨h0,h1⟩
 ·rw [yb,yV,←h.iff i hi,u8,ym,u8];have hl:v.toNat<ws.length:=by rw [h.len];omega
  by_cases e:v.toNat=i
  ·rw [yC e,yC hl];constructor
   ·intro _;exact .inr (by omega)
   ·intro _;rfl
  ·rw [yM e];constructor
   ·exact .inl
   ·rintro (h | h)
    ·exact h
    ·omega
theorem QI.pop (h:QI K ws (v::Q)) (hK:K<=4096):QI K (ws.set v.toNat false) Q:=by
 obtain ⟨hv,Aw⟩:=zAo.1 h.nd;have hr:=h.rng v (by simp);refine ⟨by rw [yp];exact h.len,Aw,fun i hi=>h.rng i (by simp [hi]),fun i hi=>?_⟩;have hl:v.toNat<ws.length:=by rw [h.len];omega
 rw [u8,ym]
 by_cases e:v.toNat=i
 ·rw [yC e,yC hl];constructor
  ·intro hx;cases hx
  ·intro hx;have:((i:Nat):Int)=v:=by omega
   rw [this] at hx;exact absurd hx hv
 ·rw [yM e,←u8,h.iff i hi,yd];constructor
  ·rintro (hx | hx)
   ·omega
   ·exact hx
  ·exact .inr
structure MQ (K:Nat) (ws:List Bool) (o n:Nat) (qu Q:List Int):Prop where
 sum:o+n=qu.length
 eq:qu.drop o=Q
 qi:QI K ws Q
theorem MQ.cnt (h:MQ K ws o n qu Q):n=Q.length:=by rw [←h.eq,zAi];have:=h.sum;omega
theorem xm (hK:K<=4096) (hl: ∀ v∈l,0<=v/\ v<(K:Int)) (Ae:l.length<=LB) (h:MQ K ws o n qu Q):
 ∃ BV o' n' Cb Q',Ev (fun m=>JZ m l ws o n qu) (BV,o',n',Cb)/\ MQ K BV o' n' Cb Q'/\ ∀ i,i∈Q'↔i∈Q∨i∈l:=by
 obtain ⟨⟨BV,o',n',Cb,Q'⟩,⟨h1,h2⟩,h3⟩:=KA (m:=MM l ws o n qu) (S:=List Bool×Nat×Nat×List Int×List Int) (fun j s=>.l1 (j:Int) s.1 s.2.1 s.2.2.1 s.2.2.2.1) (fun j s=>MQ K s.1 s.2.1 s.2.2.1 s.2.2.2.1 s.2.2.2.2/\ ∀ i,i∈s.2.2.2.2↔i∈Q∨i∈l.take j) l.length (fun j s hj hI=>by
  obtain ⟨CC,o1,n1,IQ,Q1⟩:=s;obtain ⟨hM,Bx⟩:=hI;have hM:MQ K CC o1 n1 IQ Q1:=hM;have Bx: ∀ i,i∈Q1↔i∈Q∨i∈l.take j:=Bx;have AK:decide ((j:Int)<(l.length:Int))=true:=yI (by omega);have hr:AH ((j:Int)+1):=At.2 ⟨by omega,by unfold LB at Ae;omega⟩;have ej:((j+1:Nat):Int)=(j:Int)+1:=by omega
  have FM:l.getD j 0∈l:=by rw [u8,xz hj];exact yZ hj
  obtain ⟨Ia,Bb⟩:=hl _ FM;have Lr:l.take (j+1)=l.take j++[l.getD j 0]:=by rw [ze hj];simp [hj]
  have hg:(0<=(j:Int)/\ (j:Int)<(l.length:Int))/\ (0<=l.getD ((j:Int)).toNat 0/\ l.getD ((j:Int)).toNat 0<((4096:Nat):Int))/\ 0+(l.getD ((j:Int)).toNat 0).toNat<CC.length:=by
   rw [yH,hM.qi.len];omega
  cases hw:CC.getD (l.getD j 0).toNat false with
  | false=>
   have CW:=hM.qi.le;have hn:=hM.cnt;refine ⟨(CC.set (l.getD j 0).toNat true,0,n1+1,Q1++[l.getD j 0],Q1++[l.getD j 0]),⟨⟨by simp;omega,rfl,hM.qi.push hK Ia Bb hw⟩,fun i=>?_⟩,BG.one fun m=>?_⟩
   ·show i∈Q1++[l.getD j 0]↔_
    rw [Lr,yb,yb,Bx i];constructor
    ·rintro ((h | h) | h)
     ·exact .inl h
     ·exact .inr (.inl h)
     ·exact .inr (.inr h)
    ·rintro (h | h | h)
     ·exact .inl (.inl h)
     ·exact .inl (.inr h)
     ·exact .inr h
   ·show MN m (MM l ws o n qu m) l ws o n qu (j:Int) CC o1 n1 IQ=_
    unfold MN;rw [AK,yF,yC hg,yH,yX,hw,zC,yF,yC ⟨hM.sum,by unfold BT;simp;omega,hr⟩,hM.eq,ej];rfl
  | true=>
   refine ⟨(CC,o1,n1,IQ,Q1),⟨hM,fun i=>?_⟩,BG.one fun m=>?_⟩
   ·show i∈Q1↔_
    have B5:l.getD j 0∈Q1:=by
     have e:(((l.getD j 0).toNat:Nat):Int)=l.getD j 0:=by omega
     have:=(hM.qi.iff (l.getD j 0).toNat (by omega)).1 hw;rw [e] at this;exact this
    rw [Lr,yb,Bx i];constructor
    ·rintro (h | h)
     ·exact .inl h
     ·exact .inr (.inl h)
    ·rintro (h | h | h)
     ·exact .inl h
     ·exact .inr h
     ·rw [yV] at h;subst h;exact (Bx _).1 B5
   ·show MN m (MM l ws o n qu m) l ws o n qu (j:Int) CC o1 n1 IQ=_
    unfold MN;rw [AK,yF,yC hg,yH,yX,hw,yq,yB,yC hr,ej]) l.length 0 (ws,o,n,qu,Q) (by omega) ⟨h,fun i=>by simp⟩
 refine ⟨BV,o',n',Cb,Q',h3.ev (Ev.one fun m=>?_),h1,fun i=>by have:=h2 i;simpa using this⟩;have AK:decide ((l.length:Int)<(l.length:Int))=false:=yA (by omega)
 show MN m (MM l ws o n qu m) l ws o n qu (l.length:Int) BV o' n' Cb=_
 unfold MN;rw [AK,yB]
def FF (j:Nat) (s:List Bool×List Int):OH:=if s.2= [] then .l1 (j:Int) else .l2 (j:Int) s.1 s.2.length s.2
theorem i7 (hK:K<=4096) (hl: ∀ v∈l,0<=v/\ v<(K:Int)) (Ae:l.length<=LB) (h:QI K ws []):
 ∃ BV Q',Ev (fun m=>Kk m l ws) (BV,0,Q'.length,Q',decide (Q'= []))/\ QI K BV Q'/\ ∀ i,i∈Q'↔i∈l:=by
 obtain ⟨⟨BV,Q'⟩,⟨h1,h2,h4⟩,h3⟩:=KA (m:=HB l ws) (S:=List Bool×List Int) (fun j s=>FF j s) (fun j s=>QI K s.1 s.2/\ (∀ i,i∈s.2↔i∈l.take j)/\ (s.2= [] -> s.1=ws)) l.length (fun j s hj hI=>by
  obtain ⟨CC,Q1⟩:=s;obtain ⟨hM,Bx,Tq⟩:=hI;have hM:QI K CC Q1:=hM;have Bx: ∀ i,i∈Q1↔i∈l.take j:=Bx;have Tq:Q1= [] -> CC=ws:=Tq;have AK:decide ((j:Int)<(l.length:Int))=true:=yI (by omega);have hr:AH ((j:Int)+1):=At.2 ⟨by omega,by unfold LB at Ae;omega⟩;have ej:((j+1:Nat):Int)=(j:Int)+1:=by omega
  have FM:l.getD j 0∈l:=by rw [u8,xz hj];exact yZ hj
  obtain ⟨Ia,Bb⟩:=hl _ FM;have Lr:l.take (j+1)=l.take j++[l.getD j 0]:=by rw [ze hj];simp [hj]
  have hg:(0<=(j:Int)/\ (j:Int)<(l.length:Int))/\ (0<=l.getD ((j:Int)).toNat 0/\ l.getD ((j:Int)).toNat 0<((4096:Nat):Int))/\ 0+(l.getD ((j:Int)).toNat 0).toNat<CC.length:=by
   rw [yH,hM.len];omega
  have CW:=hM.le;cases hw:CC.getD (l.getD j 0).toNat false with
  | false=>
   refine ⟨(CC.set (l.getD j 0).toNat true,Q1++[l.getD j 0]),⟨hM.push hK Ia Bb hw,fun i=>?_,fun e=>by simp at e⟩,BG.one fun m=>?_⟩
   ·show i∈Q1++[l.getD j 0]↔_
    rw [Lr,yb,yb,Bx i]
   ·have e2:FF (j+1) (CC.set (l.getD j 0).toNat true,Q1++[l.getD j 0])= .l2 ((j:Int)+1) (CC.set (l.getD j 0).toNat true) (Q1.length+1) (Q1++[l.getD j 0]):=by
     unfold FF;rw [yM (by simp),ej,yu];rfl
    rw [e2]
    by_cases hq:Q1= []
    ·have e1:FF j (CC,Q1)= .l1 (j:Int):=by unfold FF;rw [yC hq]
     rw [e1];have:=Tq hq;subst this;subst hq
     show Rg m (HB l CC m) l CC (j:Int)=_
     unfold Rg;rw [AK,yF,yC hg,yH,yX,hw,zC,yF,yC ⟨⟨⟨rfl,rfl⟩,Nat.one_pos,by unfold BT;simp⟩,hr⟩];rfl
    ·have e1:FF j (CC,Q1)= .l2 (j:Int) CC Q1.length Q1:=by unfold FF;rw [yM hq]
     rw [e1]
     show ML m (HB l ws m) l ws (j:Int) CC Q1.length Q1=_
     unfold ML;rw [AK,yF,yC hg,yH,yX,hw,zC,yF,yC ⟨by omega,by unfold BT;simp;omega,hr⟩];rfl
  | true=>
   have B5:l.getD j 0∈Q1:=by
    have e:(((l.getD j 0).toNat:Nat):Int)=l.getD j 0:=by omega
    have:=(hM.iff (l.getD j 0).toNat (by omega)).1 hw;rw [e] at this;exact this
   have hq:Q1≠[]:=fun e=>by rw [e] at B5;cases B5
   refine ⟨(CC,Q1),⟨hM,fun i=>?_,Tq⟩,BG.one fun m=>?_⟩
   ·show i∈Q1↔_
    rw [Lr,yb,←Bx i];constructor
    ·exact .inl
    ·rintro (h | h)
     ·exact h
     ·rw [yV] at h;subst h;exact B5
   ·have e1:FF j (CC,Q1)= .l2 (j:Int) CC Q1.length Q1:=by unfold FF;rw [yM hq]
    have e2:FF (j+1) (CC,Q1)= .l2 ((j:Int)+1) CC Q1.length Q1:=by unfold FF;rw [yM hq,ej]
    rw [e1,e2]
    show ML m (HB l ws m) l ws (j:Int) CC Q1.length Q1=_
    unfold ML;rw [AK,yF,yC hg,yH,yX,hw,yq,yB,yC hr]) l.length 0 (ws,[]) (by omega) ⟨h,fun i=>by simp,fun _=>rfl⟩
 have h2: ∀ i,i∈Q'↔i∈l:=fun i=>by have:=h2 i;simpa using this
 have h4:Q'= [] -> BV=ws:=h4;refine ⟨BV,Q',?_,h1,h2⟩;have e0:HB l ws=HB l ws:=rfl;have AK:decide ((l.length:Int)<(l.length:Int))=false:=yA (by omega);refine BG.ev (a:=FF 0 (ws,[])) h3 (Ev.one fun m=>?_)
 by_cases hq:Q'= []
 ·have e1:FF l.length (BV,Q')= .l1 (l.length:Int):=by unfold FF;rw [yC hq]
  have:=h4 hq;subst this;rw [e1,hq]
  show Rg m (HB l BV m) l BV (l.length:Int)=_
  unfold Rg;rw [AK,yB];rfl
 ·have e1:FF l.length (BV,Q')= .l2 (l.length:Int) BV Q'.length Q':=by unfold FF;rw [yM hq]
  rw [e1,yA hq]
  show ML m (HB l ws m) l ws (l.length:Int) BV Q'.length Q'=_
  unfold ML;rw [AK,yB]
end
end Go.Proofs.YtekkngkphejfcaaGreatDoor
namespace Go.Proofs.YtekkngkphejfcaaGreatDoor
open Go.RowKit
def Ga (q:AA) (level:Int) (p g:List Int):Prop:=(B9 p=true/\ g=List.replicate p.length 0)∨(B9 p=false/\ Bq q (Up q level) p g/\ HG q (Up q level) g)
structure OF (q:AA) (level:Int) (f:Int -> List Int) (T:Nat):Prop where
 snd: ∀ c i,i∈f c -> Up q level i
 len: ∀ c,(f c).length<=T
section
variable {q:AA} {level:Int} {p cells:List Int} {f:Int -> List Int}
theorem Ga.uniq (hp:Ay q p) {g g':List Int} (h:Ga q level p g) (h':Ga q level p g'):g=g':=by
 rcases h with ⟨h1,h2⟩ | ⟨h1,h2,h3⟩
 ·rcases h' with ⟨h4,h5⟩ | ⟨h4,_,_⟩
  ·rw [h2,h5]
  ·rw [h1] at h4;cases h4
 ·rcases h' with ⟨h4,_⟩ | ⟨_,h5,h6⟩
  ·rw [h1] at h4;cases h4
  ·exact Bq.uniq Rm hp h2 h5 h3 h6
theorem Zy {a:Nat} (ha:a<(Ah q level).length):Up q level ((Ah q level).getD a 0):=by
 refine J8.1 ?_;rw [u8,xz ha];exact yZ ha
theorem wf (hv:CY q=true) {i:Int} (h:Up q level i):(∀ x∈(con q i).cells,0<=x/\ x<q.cells)/\ (con q i).cells.length<=256:=by
 have hm:con q i∈q.cons:=by
  have h0:=h.1;have h1:=h.2.1;unfold con;rw [u8,xz (by omega)];exact yZ _
 have hf:=(DX hv).2.2.2.2.2 _ hm;unfold C5 at hf;simp only [yG] at hf;obtain ⟨h1,h2,_⟩:=Y1.1 hf.1.1.1.1.1;have h3:=(DX hv).1;refine ⟨h1,?_⟩;have:=M4 q.cells.toNat _ h2 fun x hx=>by have:=h1 x hx;omega
 omega
theorem ol (hv:CY q=true) {a:Nat} (ha:a<(Ah q level).length) {T:Nat} (hT:T<=2000000) (hO:OF q level f T):
 ∃ f',BG (Bg q p cells level) (.l2 (Ah q level) ((Ah q level).getD a 0) (Ah q level) ((Ah q level).length:Int) (a:Int) (con q ((Ah q level).getD a 0)).cells ((con q ((Ah q level).getD a 0)).cells.length:Int) 0 f) (.l1 (Ah q level) (Ah q level) ((Ah q level).length:Int) ((a+1:Nat):Int) f')/\
  OF q level f' (T+256)/\ (∀ c i,i∈f c -> i∈f' c)/\ ∀ c∈(con q ((Ah q level).getD a 0)).cells,(Ah q level).getD a 0∈f' c:=by
 have hU:=Zy ha;obtain ⟨UG,Hm⟩:=wf hv hU;have Ts:(Ah q level).length<=4096:=yO Rl (DX hv).2.2.2.2.1
 generalize (Ah q level).getD a 0=i at hU UG Hm ⊢
 generalize (con q i).cells=cs at UG Hm ⊢
 obtain ⟨f',⟨h1,h2,h3⟩,h4⟩:=KA (m:=Bg q p cells level) (S:=Int -> List Int) (fun b f=>.l2 (Ah q level) i (Ah q level) ((Ah q level).length:Int) (a:Int) cs (cs.length:Int) (b:Int) f) (fun b g=>OF q level g (T+b)/\ (∀ c i,i∈f c -> i∈g c)/\ ∀ c∈cs.take b,i∈g c) cs.length (fun b g hb hI=>by
  obtain ⟨hg,hs,hd⟩:=hI;have AK:decide ((b:Int)<(cs.length:Int))=true:=yI (by omega);have hr:AH ((b:Int)+1):=At.2 ⟨by omega,by omega⟩;have eb:((b+1:Nat):Int)=(b:Int)+1:=by omega
  have Lr:cs.take (b+1)=cs.take b++[cs.getD b 0]:=by rw [ze hb];simp [hb]
  refine ⟨GK g (cs.getD b 0) (g (cs.getD b 0)++[i]),⟨⟨fun c j hj=>?_,fun c=>?_⟩,fun c j hj=>?_,fun c hc=>?_⟩,BG.one fun m=>?_⟩
  ·unfold GK at hj;split at hj
   ·rcases yb.1 hj with hj | hj
    ·exact hg.snd _ _ hj
    ·rw [yV] at hj;subst hj;exact hU
   ·exact hg.snd _ _ hj
  ·unfold GK;split
   ·rw [yu,yz];have:=hg.len (cs.getD b 0);omega
   ·have:=hg.len c;omega
  ·unfold GK;split
   ·rename_i e;subst e;exact yj _ (hs _ _ hj)
   ·exact hs _ _ hj
  ·rw [Lr,yb,yV] at hc;unfold GK;split
   ·exact yy _ (by simp)
   ·rename_i AV;rcases hc with hc | hc
    ·exact hd c hc
    ·exact absurd hc AV
  ·show PS m (Bg q p cells level m) q p cells level (Ah q level) i (Ah q level) ((Ah q level).length:Int) (a:Int) cs (cs.length:Int) (b:Int) g=_
   unfold PS;rw [AK,yF,yH,yC ⟨by omega,by have:=hg.len (cs.getD b 0);unfold BT;rw [yz];omega,hr⟩,eb]) cs.length 0 f (by omega) ⟨hO,fun c i h=>h,fun c hc=>by simp at hc⟩
 refine ⟨f',h4.trans (BG.one fun m=>?_),⟨h1.snd,fun c=>yO (h1.len c) (by omega)⟩,h2,fun c hc=>h3 c (by simpa using hc)⟩;have AK:decide ((cs.length:Int)<(cs.length:Int))=false:=yA (by omega);have hr:AH ((a:Int)+1):=At.2 ⟨by omega,by omega⟩
 show PS m (Bg q p cells level m) q p cells level (Ah q level) i (Ah q level) ((Ah q level).length:Int) (a:Int) cs (cs.length:Int) (cs.length:Int) f'=_
 unfold PS;rw [AK,yB,yC hr,show ((a+1:Nat):Int)=(a:Int)+1 by omega]
theorem om (hv:CY q=true):
 ∃ f',BG (Bg q p cells level) (.l1 (Ah q level) (Ah q level) ((Ah q level).length:Int) 0 (fun _=>[])) (.l3 (Ah q level) 0 f' (List.replicate 4096 false))/\ OF q level f' 2000000/\ ∀ i,Up q level i -> ∀ c∈(con q i).cells,i∈f' c:=by
 have Ts:(Ah q level).length<=4096:=yO Rl (DX hv).2.2.2.2.1
 obtain ⟨f',⟨h1,h2⟩,h3⟩:=KA (m:=Bg q p cells level) (S:=Int -> List Int) (fun a f=>.l1 (Ah q level) (Ah q level) ((Ah q level).length:Int) (a:Int) f) (fun a g=>OF q level g (256*a)/\ ∀ a',a'<a -> ∀ c∈(con q ((Ah q level).getD a' 0)).cells,(Ah q level).getD a' 0∈g c) (Ah q level).length (fun a g ha hI=>by
  obtain ⟨hg,hd⟩:=hI;obtain ⟨g',e1,e2,e3,e4⟩:=ol (p:=p) (cells:=cells) hv ha (by omega) hg;have hU:=Zy ha;have AK:decide ((a:Int)<((Ah q level).length:Int))=true:=yI (by omega);refine ⟨g',⟨⟨e2.snd,fun c=>yO (e2.len c) (by omega)⟩,fun a' fY c hc=>?_⟩,BG.trans (BG.one fun m=>?_) e1⟩
  ·by_cases e:a'=a
   ·subst e;exact e4 c hc
   ·exact e3 _ _ (hd a' (by omega) c hc)
  ·show PT m (Bg q p cells level m) q p cells level (Ah q level) (Ah q level) ((Ah q level).length:Int) (a:Int) g=_
   unfold PT;rw [AK,yF,yH,yC ⟨by omega,hU.1,hU.2.1⟩];rfl) (Ah q level).length 0 (fun _=>[]) (by omega) ⟨⟨fun c i h=>(by cases h),fun c=>yf 0⟩,fun a' fY=>absurd fY (yT _)⟩
 refine ⟨f',h3.trans (BG.one fun m=>?_),⟨h1.snd,fun c=>yO (h1.len c) (by omega)⟩,fun i hi c hc=>?_⟩
 ·have AK:decide (((Ah q level).length:Int)<((Ah q level).length:Int))=false:=yA (by omega)
  show PT m (Bg q p cells level m) q p cells level (Ah q level) (Ah q level) ((Ah q level).length:Int) ((Ah q level).length:Int) f'=_
  unfold PT;rw [AK,yB]
 ·obtain ⟨a,ha,e⟩:=zX (J8.2 hi);have e':(Ah q level).getD a 0=i:=by rw [u8,xz ha];exact e
  have:=h2 a ha c (by rw [e'];exact hc);rw [e'] at this;exact this
structure WQ (q:AA) (level:Int) (ws:List Bool) (o n:Nat) (qu Q:List Int):Prop where
 mq:MQ q.cons.length ws o n qu Q
 up: ∀ i∈Q,Up q level i
def av (q:AA) (level:Int) (f:Int -> List Int) (j:Nat) (s:List Bool×Option (Nat×Nat×List Int)):HU:=match s.2 with
 | none=>.l3 (Ah q level) (j:Int) f s.1
 | some (o,n,qu)=>.l4 (Ah q level) (j:Int) f s.1 o n qu
def IC (q:AA) (level:Int) (s:List Bool×Option (Nat×Nat×List Int)):Prop:=match s.2 with
 | none=>QI q.cons.length s.1 []
 | some (o,n,qu)=>∃ Q,WQ q level s.1 o n qu Q
theorem VZ {l:List Int} (h: ∀ i∈l,Up q level i): ∀ i∈l,0<=i/\ i<(q.cons.length:Int):=fun i hi=>⟨(h i hi).1,(h i hi).2.1⟩
theorem WQ.add (hK:q.cons.length<=4096) {ws:List Bool} {o n:Nat} {qu Q l:List Int} (h:WQ q level ws o n qu Q) (hl: ∀ i∈l,Up q level i) (Ae:l.length<=LB):
 ∃ BV o' n' Cb Q',Ev (fun m=>JZ m l ws o n qu) (BV,o',n',Cb)/\ WQ q level BV o' n' Cb Q'/\ ∀ i,i∈Q'↔i∈Q∨i∈l:=by
 obtain ⟨BV,o',n',Cb,Q',h1,h2,h3⟩:=xm hK (VZ hl) Ae h.mq;exact ⟨BV,o',n',Cb,Q',h1,⟨h2,fun i hi=>((h3 i).1 hi).elim (h.up i) (hl i)⟩,h3⟩
theorem ww (hv:CY q=true) (BP:cells.length<=LB) (hO:OF q level f 2000000):
 ∃ s',IC q level s'/\ BG (Bg q p cells level) (.l3 (Ah q level) 0 f (List.replicate 4096 false)) (av q level f cells.length s'):=by
 have hK:=(DX hv).2.2.2.2.1
 obtain ⟨s',h1,h2⟩:=KA (m:=Bg q p cells level) (S:=List Bool×Option (Nat×Nat×List Int)) (av q level f) (fun _ s=>IC q level s) cells.length (fun j s hj hI=>by
  have AK:decide ((j:Int)<(cells.length:Int))=true:=yI (by omega);have hr:AH ((j:Int)+1):=At.2 ⟨by omega,by unfold LB at BP;omega⟩;have ej:((j+1:Nat):Int)=(j:Int)+1:=by omega
  have YE:(f (cells.getD j 0)).length<=LB:=yO (hO.len _) (by decide);have KJ: ∀ i∈f (cells.getD j 0),Up q level i:=fun i hi=>hO.snd _ i hi
  obtain ⟨ws,st⟩:=s;cases st with
  | none=>
   have hI:QI q.cons.length ws []:=hI;obtain ⟨BV,Q',⟨N,e1⟩,e2,e3⟩:=i7 hK (VZ KJ) YE hI;have e1: ∀ m,N<=m -> Kk m (f (cells.getD j 0)) ws=some (BV,0,Q'.length,Q',decide (Q'= [])):=e1
   by_cases hQ:Q'= []
   ·refine ⟨(BV,none),by rw [hQ] at e2;exact e2,BG.oneN N fun m hm=>?_⟩
    show I4 m (Bg q p cells level m) q p cells level (Ah q level) (j:Int) f ws=Bg q p cells level m (.l3 (Ah q level) ((j+1:Nat):Int) f BV)
    unfold I4;rw [AK,yF,yC (by omega),yH,e1 m hm,yD,yI hQ]
    show (if AH ((j:Int)+1) then _ else _)=_
    rw [yC hr,ej]
   ·refine ⟨(BV,some (0,Q'.length,Q')),⟨Q',⟨⟨by omega,rfl,e2⟩,fun i hi=>KJ i ((e3 i).1 hi)⟩⟩,BG.oneN N fun m hm=>?_⟩
    show I4 m (Bg q p cells level m) q p cells level (Ah q level) (j:Int) f ws=Bg q p cells level m (.l4 (Ah q level) ((j+1:Nat):Int) f BV 0 Q'.length Q')
    unfold I4;rw [AK,yF,yC (by omega),yH,e1 m hm,yD,yA hQ]
    show (if AH ((j:Int)+1) then _ else _)=_
    rw [yC hr,ej]
  | some s1=>
   obtain ⟨o,n,qu⟩:=s1;obtain ⟨Q,hW⟩:=(hI: ∃ Q,WQ q level ws o n qu Q);have hW:WQ q level ws o n qu Q:=hW;obtain ⟨BV,o',n',Cb,Q',⟨N,e1⟩,e2,_⟩:=hW.add hK KJ YE;have e1: ∀ m,N<=m -> JZ m (f (cells.getD j 0)) ws o n qu=some (BV,o',n',Cb):=e1;refine ⟨(BV,some (o',n',Cb)),⟨Q',e2⟩,BG.oneN N fun m hm=>?_⟩
   show PQ m (Bg q p cells level m) q p cells level (Ah q level) (j:Int) f ws o n qu=Bg q p cells level m (.l4 (Ah q level) ((j+1:Nat):Int) f BV o' n' Cb)
   unfold PQ;rw [AK,yF,yC (by omega),yH,e1 m hm,yD]
   show (if AH ((j:Int)+1) then _ else _)=_
   rw [yC hr,ej]) cells.length 0 (List.replicate 4096 false,none) (by omega) (by
  refine ⟨yY,List.nodup_nil,fun i hi=>(by cases hi),fun i hi=>⟨fun h=>?_,fun h=>(by cases h)⟩⟩;rw [u8,zL,yC hi] at h;cases h)
 exact ⟨s',h1,h2⟩
theorem xF (hv:CY q=true) (BP:cells.length<=LB):
 ∃ f,OF q level f 2000000/\ (∀ i,Up q level i -> ∀ c∈(con q i).cells,i∈f c)/\ ((BG (Bg q p cells level) (.l1 (Ah q level) (Ah q level) ((Ah q level).length:Int) 0 (fun _=>[])) (.l5 f (List.replicate 4096 false))∨
  (∃ ws,BG (Bg q p cells level) (.l1 (Ah q level) (Ah q level) ((Ah q level).length:Int) 0 (fun _=>[])) (.l5 f ws)))/\ (∀ i,¬ Up q level i)∨
  ∃ ws o n qu Q,WQ q level ws o n qu Q/\ (∀ i,Up q level i -> i∈Q)/\ BG (Bg q p cells level) (.l1 (Ah q level) (Ah q level) ((Ah q level).length:Int) 0 (fun _=>[])) (.l6 p f ws o n qu)):=by
 have hK:=(DX hv).2.2.2.2.1;obtain ⟨f,g1,g2,g3⟩:=om (q:=q) (level:=level) (p:=p) (cells:=cells) hv;obtain ⟨⟨ws,st⟩,h1,h2⟩:=ww (p:=p) hv BP g2;have h2:=g1.trans h2;have Ts:(Ah q level).length<=LB:=yO Rl (yO hK (by decide));have AK:decide ((cells.length:Int)<(cells.length:Int))=false:=yA (by omega);refine ⟨f,g2,g3,?_⟩;cases st with
 | none=>
  have h1:QI q.cons.length ws []:=h1;obtain ⟨BV,Q',⟨N,e1⟩,e2,e3⟩:=i7 hK (VZ fun i hi=>J8.1 hi) Ts h1;have e1: ∀ m,N<=m -> Kk m (Ah q level) ws=some (BV,0,Q'.length,Q',decide (Q'= [])):=e1
  by_cases hQ:Q'= []
  ·refine .inl ⟨.inr ⟨BV,h2.trans (BG.oneN N fun m hm=>?_)⟩,fun i hi=>by have:=(e3 i).2 (J8.2 hi);rw [hQ] at this;cases this⟩
   show I4 m (Bg q p cells level m) q p cells level (Ah q level) (cells.length:Int) f ws=_
   unfold I4;rw [AK,yB,e1 m hm,yD,yI hQ];rfl
  ·refine .inr ⟨BV,0,Q'.length,Q',Q',⟨⟨by omega,rfl,e2⟩,fun i hi=>J8.1 ((e3 i).1 hi)⟩,fun i hi=>(e3 i).2 (J8.2 hi),h2.trans (BG.oneN N fun m hm=>?_)⟩
   show I4 m (Bg q p cells level m) q p cells level (Ah q level) (cells.length:Int) f ws=_
   unfold I4;rw [AK,yB,e1 m hm,yD,yA hQ];rfl
 | some s1=>
  obtain ⟨o,n,qu⟩:=s1;obtain ⟨Q,hW⟩:=(h1: ∃ Q,WQ q level ws o n qu Q);have hW:WQ q level ws o n qu Q:=hW;obtain ⟨BV,o',n',Cb,Q',⟨N,e1⟩,e2,e3⟩:=hW.add hK (fun i hi=>J8.1 hi) Ts;have e1: ∀ m,N<=m -> JZ m (Ah q level) ws o n qu=some (BV,o',n',Cb):=e1;refine .inr ⟨BV,o',n',Cb,Q',e2,fun i hi=>(e3 i).2 (.inr (J8.2 hi)),h2.trans (BG.oneN N fun m hm=>?_)⟩
  show PQ m (Bg q p cells level m) q p cells level (Ah q level) (cells.length:Int) f ws o n qu=_
  unfold PQ;rw [AK,yB,e1 m hm,yD]
end
end Go.Proofs.YtekkngkphejfcaaGreatDoor
namespace Go.Proofs.YtekkngkphejfcaaGreatDoor
open Go.RowKit
section
variable {q:AA} {level:Int} {pos p x cells:List Int} {f:Int -> List Int}
theorem wq (hv:CY q=true) (hO:OF q level f 2000000) (hl:x.length=p.length) (hp:p.length<=256) {ws:List Bool} {o n:Nat} {qu Q:List Int} (h:WQ q level ws o n qu Q):
 ∃ BV o' n' Cb Q',WQ q level BV o' n' Cb Q'/\ (∀ i∈Q,i∈Q')/\ (∀ c,c<p.length -> x.getD c 0≠p.getD c 0 -> ∀ i∈f (c:Int),i∈Q')/\ ((∀ c,c<p.length -> x.getD c 0=p.getD c 0) -> Q'=Q)/\
  BG (Bg q pos cells level) (.l7 p x (x.length:Int) 0 f ws o n qu) (.l6 x f BV o' n' Cb):=by
 have hK:=(DX hv).2.2.2.2.1
 obtain ⟨⟨BV,o',n',Cb,Q'⟩,⟨h1,h2,h3,h4⟩,h5⟩:=KA (m:=Bg q pos cells level) (S:=List Bool×Nat×Nat×List Int×List Int) (fun c s=>.l7 p x (x.length:Int) (c:Int) f s.1 s.2.1 s.2.2.1 s.2.2.2.1)
  (fun c s=>WQ q level s.1 s.2.1 s.2.2.1 s.2.2.2.1 s.2.2.2.2/\ (∀ i∈Q,i∈s.2.2.2.2)/\ (∀ c',c'<c -> x.getD c' 0≠p.getD c' 0 -> ∀ i∈f (c':Int),i∈s.2.2.2.2)/\ ((∀ c',c'<c -> x.getD c' 0=p.getD c' 0) -> s.2.2.2.2=Q)) p.length (fun c s hc hI=>by
  obtain ⟨CC,o1,n1,IQ,Q1⟩:=s;obtain ⟨hW,hs,hd,he⟩:=hI;have hW:WQ q level CC o1 n1 IQ Q1:=hW;have hs: ∀ i∈Q,i∈Q1:=hs;have hd: ∀ c',c'<c -> x.getD c' 0≠p.getD c' 0 -> ∀ i∈f (c':Int),i∈Q1:=hd;have he:(∀ c',c'<c -> x.getD c' 0=p.getD c' 0) -> Q1=Q:=he;have AK:decide ((c:Int)<(x.length:Int))=true:=yI (by omega);have hr:AH ((c:Int)+1):=At.2 ⟨by omega,by omega⟩;have ec:((c+1:Nat):Int)=(c:Int)+1:=by omega
  by_cases hx:x.getD c 0=p.getD c 0
  ·refine ⟨(CC,o1,n1,IQ,Q1),⟨hW,hs,fun c' G5 AV=>?_,fun h=>he fun c' G5=>h c' (by omega)⟩,BG.one fun m=>?_⟩
   ·by_cases e:c'=c
    ·subst e;exact absurd hx AV
    ·exact hd c' (by omega) AV
   ·show LI m (Bg q pos cells level m) q pos cells level p x (x.length:Int) (c:Int) f CC o1 n1 IQ=_
    unfold LI;have hb:(x.getD c 0 != p.getD c 0)=false:=by rw [hx];simp
    rw [AK,yF,yC ⟨by omega,by omega⟩,yH,hb,yB,yC hr,ec]
  ·have KJ: ∀ i∈f (c:Int),Up q level i:=fun i hi=>hO.snd _ i hi
   obtain ⟨BV,o',n',Cb,Q',⟨N,e1⟩,e2,e3⟩:=hW.add hK KJ (yO (hO.len _) (by decide));have e1: ∀ m,N<=m -> JZ m (f (c:Int)) CC o1 n1 IQ=some (BV,o',n',Cb):=e1;refine ⟨(BV,o',n',Cb,Q'),⟨e2,fun i hi=>(e3 i).2 (.inl (hs i hi)),fun c' G5 AV i hi=>?_,fun h=>absurd (h c (by omega)) hx⟩,BG.oneN N fun m hm=>?_⟩
   ·by_cases e:c'=c
    ·subst e;exact (e3 i).2 (.inr hi)
    ·exact (e3 i).2 (.inl (hd c' (by omega) AV i hi))
   ·show LI m (Bg q pos cells level m) q pos cells level p x (x.length:Int) (c:Int) f CC o1 n1 IQ=Bg q pos cells level m (.l7 p x (x.length:Int) ((c+1:Nat):Int) f BV o' n' Cb)
    unfold LI;have hb:(x.getD c 0 != p.getD c 0)=true:=by simpa using hx
    rw [AK,yF,yC ⟨by omega,by omega⟩,yH,hb,yF,e1 m hm,yD]
    show (if AH ((c:Int)+1) then _ else _)=_
    rw [yC hr,ec]) p.length 0 (ws,o,n,qu,Q) (by omega) ⟨h,fun i hi=>hi,fun c' G5=>absurd G5 (yT _),fun _=>rfl⟩
 refine ⟨BV,o',n',Cb,Q',h1,h2,h3,h4,h5.trans (BG.one fun m=>?_)⟩;have AK:decide ((p.length:Int)<(x.length:Int))=false:=yA (by omega)
 show LI m (Bg q pos cells level m) q pos cells level p x (x.length:Int) (p.length:Int) f BV o' n' Cb=_
 unfold LI;rw [AK,yB]
structure ZV (q:AA) (level:Int) (p0 p:List Int) (Q:List Int):Prop where
 pos:Ay q p
 down:Bq q (Up q level) p0 p
 zero:B9 p=true -> p=List.replicate p.length 0
 fix: ∀ i,Up q level i -> i∉Q -> PR q (con q i) p p
theorem PR.other {i:Int} (h:PR q (con q i) p x) (hd:B9 x=false) (C:Be q i p) {j:Nat} (hj: ∀ k,k<(con q i).cells.length -> ((con q i).cells.getD k 0).toNat≠j):x.getD j 0=p.getD j 0:=by
 have hA:HH q (con q i) p:=Classical.byContradiction fun hA=>by
  have h0:=C.len256.1;have:=G9.1 hd 0 (by rw [h.len];exact h0);rw [h.dead hA,Kr] at this;exact this rfl
 by_cases QU:j<p.length
 ·refine Jk (h.live hA j QU).1 ((C.sm j QU).in64 (by have:=C.work.k;omega)) fun s _=>?_
  rw [zR,(h.live hA j QU).2];exact ⟨fun hx=>hx.1,fun hx=>⟨hx,fun ⟨a,ha,e,_⟩=>hj a ha e⟩⟩
 ·rw [u8,u8,yx (by rw [h.len];omega),yx (by omega)]
theorem pi {a b:List Int} (hl:a.length=b.length) (h: ∀ c,c<b.length -> a.getD c 0=b.getD c 0):a=b:=by
 refine zAN hl fun j h1 h2=>?_
 have:=h j h2;simpa [h1,h2] using this
theorem ub (hU: ∀ i,Up q level i -> ∀ c∈(con q i).cells,i∈f c) {v:Int} {Q1 Q':List Int} (hv:Up q level v) (h:ZV q level pos p (v::Q1)) (hd:B9 p=false) (hx:PR q (con q v) p x) (hs: ∀ i∈Q1,i∈Q') (hc: ∀ c,c<p.length -> x.getD c 0≠p.getD c 0 -> ∀ i∈f (c:Int),i∈Q'):ZV q level pos x Q':=by
 have eP:Ay q x:=h.pos.pr hv.1 hv.2.1 hx;have hl:x.length=p.length:=hx.len;refine ⟨eP,h.down.trans (Bq.one hv hx),fun Qf=>by rw [hl];exact hx.zero Qf,fun i hi hn=>?_⟩
 by_cases NJ:x=p
 ·subst NJ
  by_cases e:i=v
  ·subst e;exact hx
  ·refine h.fix i hi fun hm=>?_
   rcases yd.1 hm with hm | hm
   ·exact e hm
   ·exact hn (hs i hm)
 ·cases Qf:B9 x with
  | true=>
   have:=hx.zero Qf;rw [this];exact cK h.pos.len256.1
  | false=>
   have Ci:=h.pos.ctx hi.1 hi.2.1
   have own: ∀ k,k<(con q i).cells.length -> x.getD ((con q i).cells.getD k 0).toNat 0=p.getD ((con q i).cells.getD k 0).toNat 0:=fun k hk=>by
    refine Classical.byContradiction fun AV=>?_
    have hW:=Ci.work.cells k hk;have hm:(con q i).cells.getD k 0∈(con q i).cells:=by rw [u8,xz hk];exact yZ hk
    have e:((((con q i).cells.getD k 0).toNat:Nat):Int)=(con q i).cells.getD k 0:=by omega
    refine hn (hc ((con q i).cells.getD k 0).toNat (by omega) AV i ?_);rw [e];exact hU i hi _ hm
   have AV:i≠v:=by
    rintro rfl;refine NJ (pi hl fun c BP=>?_)
    by_cases JI: ∃ k,k<(con q i).cells.length/\ ((con q i).cells.getD k 0).toNat=c
    ·obtain ⟨k,hk,rfl⟩:=JI;exact own k hk
    ·exact hx.other Qf Ci fun k hk e=>JI ⟨k,hk,e⟩
   have hp:PR q (con q i) p p:=h.fix i hi fun hm=>by
    rcases yd.1 hm with hm | hm
    ·exact AV hm
    ·exact hn (hs i hm)
   exact pc Ci (eP.ctx hi.1 hi.2.1) own hd Qf hp
theorem pR (hO:OF q level f 2000000) (hU: ∀ i,Up q level i -> ∀ c∈(con q i).cells,i∈f c): ∀ (M:Nat) {p:List Int} {ws:List Bool} {o n:Nat} {qu Q:List Int},wt p*(q.cons.length+1)+n<=M -> WQ q level ws o n qu Q -> ZV q level pos p Q ->
 ∃ g,Ev (fun m=>Bg q pos cells level m (.l6 p f ws o n qu)) g/\ Bq q (Up q level) pos g/\ HG q (Up q level) g:=by
 intro M
 induction M with
 | zero=>
  intro p ws o n qu Q hM hW h;have hn:n=0:=by omega
  subst hn;have hQ:Q= []:=zJ hW.mq.cnt.symm;subst hQ;exact ⟨p,Ev.one fun m=>rfl,h.down,fun i hi=>h.fix i hi (by simp)⟩
 | succ M ih=>
  intro p ws o n qu Q hM hW h;have hv:=h.pos.valid;have hK:=(DX hv).2.2.2.2.1;have E7:=h.pos.len256.2
  by_cases hn:n=0
  ·subst hn;have hQ:Q= []:=zJ hW.mq.cnt.symm;subst hQ;exact ⟨p,Ev.one fun m=>rfl,h.down,fun i hi=>h.fix i hi (by simp)⟩
  have E5:(n==0)=false:=by simpa using hn
  have fK:decide ((n:Int)>0)=true:=yI (by omega);have Qg: ∀ m,300<=m -> Gw m p=some (B9 p):=fun m hm=>P5 (yO E7 (by decide)) (by omega)
  cases hd:B9 p with
  | true=>
   have hz:=h.zero hd;refine ⟨p,Ev.oneN 300 fun m hm=>?_,h.down,?_⟩
   ·show PP m (Bg q pos cells level m) q pos cells level p f ws o n qu=some p
    unfold PP;rw [E5,yB,fK,yF,Qg m hm,yD,hd];rfl
   ·rw [hz];exact gG h.pos.len256.1
  | false=>
   cases hQ:Q with
   | nil=>exact absurd (by rw [hW.mq.cnt,hQ];rfl) hn
   | cons v Q1=>
    subst hQ;have Bb:Up q level v:=hW.up v (by simp);obtain ⟨x,⟨N,YF⟩,hx⟩:=cI (h.pos.ctx Bb.1 Bb.2.1);have YF: ∀ m,N<=m -> IS m q v p=some (x,0):=YF;have hsum:=hW.mq.sum;have UD:=hW.mq.eq;have F6:o<qu.length:=by omega
    have t6:qu.getD (o+0) 0=v:=by
     rw [zAO,u8,xz F6];rw [yc F6] at UD;exact (List.cons.inj UD).1
    have Hn:WQ q level (ws.set v.toNat false) (o+1) (n-1) qu Q1:=by
     refine ⟨⟨by omega,?_,hW.mq.qi.pop hK⟩,fun i hi=>hW.up i (by simp [hi])⟩;rw [yc F6] at UD;exact (List.cons.inj UD).2
    obtain ⟨BV,o',n',Cb,Q',e1,e2,e3,e4,e5⟩:=wq (pos:=pos) (cells:=cells) hv hO hx.len E7 Hn;have hH:=ub hU Bb h hd hx e2 e3
    have step:BG (Bg q pos cells level) (.l6 p f ws o n qu) (.l7 p x (x.length:Int) 0 f (ws.set v.toNat false) (o+1) (n-1) qu):=BG.oneN (max N 300) fun m hm=>by
     show PP m (Bg q pos cells level m) q pos cells level p f ws o n qu=_
     unfold PP;rw [E5,yB,fK,yF,Qg m (by omega),yD,hd,zC,yF,t6,yC ⟨by omega,by omega,by omega,⟨Bb.1,by have:=Bb.2.1;omega⟩,by rw [hW.mq.qi.len];have:=Bb.1;have:=Bb.2.1;omega⟩,YF m (by omega),yD,yX];rfl
    have AK:wt x*(q.cons.length+1)+n'<=M:=by
     have Ls:=e1.mq.qi.le;have NU:=e1.mq.cnt
     by_cases NJ:x=p
     ·have:Q'=Q1:=e4 fun c _=>by rw [NJ]
      rw [NJ];have h2:=Hn.mq.cnt;rw [this] at NU;omega
     ·have hw:=Zg hH.pos h.pos hx.le NJ;have h3:(wt x+1)*(q.cons.length+1)<=wt p*(q.cons.length+1):=zg _ hw;rw [zq] at h3;omega
    obtain ⟨g,g1,g2,g3⟩:=ih AK e1 hH;exact ⟨g,(step.trans e5).ev g1,g2,g3⟩
theorem nq (hp:Ay q pos) (BP:cells.length<=LB): ∃ g,Ev (fun n=>WI n q pos cells level) g/\ Ga q level pos g:=by
 have E7:=hp.len256;have Qg: ∀ m,300<=m -> Gw m pos=some (B9 pos):=fun m hm=>P5 (yO E7.2 (by decide)) (by omega)
 cases hd:B9 pos with
 | true=>
  refine ⟨List.replicate pos.length 0,⟨300,fun n hn=>?_⟩,.inl ⟨hd,rfl⟩⟩
  show PU n (Bg q pos cells level n) q pos cells level=_
  unfold PU;rw [Qg n hn,yD,hd,yF,yC ⟨rfl,by omega,by omega⟩,yC yY.symm]
 | false=>
  have H: ∃ g,Ev (fun n=>Bg q pos cells level n (.l1 (Ah q level) (Ah q level) ((Ah q level).length:Int) 0 (fun _=>[]))) g/\ Bq q (Up q level) pos g/\ HG q (Up q level) g:=by
   obtain ⟨f,g1,g2,g3⟩:=xF (q:=q) (level:=level) (p:=pos) (cells:=cells) hp.valid BP;rcases g3 with ⟨h1,h2⟩ | ⟨ws,o,n,qu,Q,h1,h2,h3⟩
   ·refine ⟨pos,?_,.refl pos,fun i hi=>absurd hi (h2 i)⟩;rcases h1 with h1 | ⟨ws,h1⟩
    ·exact h1.ev (Ev.one fun m=>rfl)
    ·exact h1.ev (Ev.one fun m=>rfl)
   ·obtain ⟨g,e1,e2,e3⟩:=pR (pos:=pos) (cells:=cells) g1 g2 _ (yf _) h1 (p:=pos) ⟨hp,.refl pos,fun h=>(by rw [hd] at h;cases h),fun i hi hn=>absurd (h2 i hi) hn⟩;exact ⟨g,h3.ev e1,e2,e3⟩
  obtain ⟨g,⟨N,h1⟩,h2⟩:=H;have h1: ∀ n,N<=n -> Bg q pos cells level n (.l1 (Ah q level) (Ah q level) ((Ah q level).length:Int) 0 (fun _=>[]))=some g:=h1;obtain ⟨N2,hu⟩:=jX (level:=level) hp.fit hp.valid;have hu: ∀ n,N2<=n -> OX n q level=some (Ah q level):=hu;refine ⟨g,⟨max (max N N2) 300,fun n hn=>?_⟩,.inr ⟨hd,h2⟩⟩
  show PU n (Bg q pos cells level n) q pos cells level=_
  unfold PU;rw [Qg n (by omega),yD,hd,yB,hu n (by omega),yD];exact h1 n (by omega)
end
end Go.Proofs.YtekkngkphejfcaaGreatDoor
