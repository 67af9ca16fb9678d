/- Part 5 of 7 of what the proofs of these laws stand on. -/
import Derived.Test.YtkjbblkieglmlaaGreatDoorPtD
set_option linter.all false
namespace Go.Proofs.YtkjbblkieglmlaaGreatDoor
abbrev zFX:=@List.ext_getElem
abbrev zFY:=@Bool.not_eq_true
abbrev zFj:=@Option.isSome_none
abbrev zFk:=@Option.isSome_some
end Go.Proofs.YtkjbblkieglmlaaGreatDoor
namespace Go.Proofs.YtkjbblkieglmlaaGreatDoor
open Go.RowKit
section
variable {c:AC} {k:Nat} {pos lost:List Int} {q:AA}
theorem B3.unique {i:Nat} {D:Nat -> Nat -> Prop} {l l':List Int} (h:B3 c pos lost i D l) (h':B3 c pos lost i D l') (hi: ∀ j,CF (l.getD j 0)) (BV: ∀ j,CF (l'.getD j 0)):l=l':=by
 have e:l.length=l'.length:=h.1.trans h'.1.symm;refine zFX e fun j h1 h2=>?_
 have e1:l.getD j 0=l[j]:=by simp [h1]
 have e2:l'.getD j 0=l'[j]:=by simp [h2]
 rw [←e1,←e2];refine Qj (hi j) (BV j) fun s _=>?_
 rw [zEi,h.2,h'.2]
theorem gE {l:List Int} {i:Nat} {x:Int} (h: ∀ j,CF (l.getD j 0)) (hx:CF x): ∀ j,CF ((l.set i x).getD j 0):=by
 intro j
 by_cases e:i=j
 ·subst e
  by_cases h2:i<l.length
  ·rw [Fw h2];exact hx
  ·rw [List.set_eq_of_length_le (by omega)];exact h i
 ·rw [getD_set_ne e];exact h j
theorem vg {n ln:Nat} {cell ss:Int} {l':List Int} (h:DU n cell ss c q pos ln lost=some l') (hi: ∀ j,CF (lost.getD j 0)): ∀ j,CF (l'.getD j 0):=by
 unfold DU Z5 at h;split at h
 ·cases h;exact gE hi (Ks _ _ _)
 ·cases h
theorem uo {n ln:Nat} {cell:Int} {l':List Int} (h:GI n cell c q pos ln lost=some l') (hi: ∀ j,CF (lost.getD j 0)): ∀ j,CF (l'.getD j 0):=by
 unfold GI Zh at h;split at h
 ·cases h;exact gE hi (Ks _ _ _)
 ·cases h
def H8 (c:AC):Prop:=c.runs.length<=256/\ ∀ j,j<c.runs.length -> c.runs.getD j 0<=256
structure MR (c:AC) (d l:Int):Prop where
 d0:0<=d
 d1:d<=(c.runs.length:Int)
 l0:0<=l
 open' : 0 < l -> d < (c.runs.length : Int) /\ l <= c.runs.getD d.toNat 0
def nx (c:AC) (d l:Int) (inn:Bool):Option (Int×Int):=
 bif inn then (if d<(c.runs.length:Int)/\ l<c.runs.getD d.toNat 0 then some (d,l+1) else none)
 else (if l=0 then some (d,0) else if l=c.runs.getD d.toNat 0 then some (d+1,0) else none)
theorem uy {d l:Int} {inn:Bool} {t:Int×Int} (h:MR c d l) (e:nx c d l inn=some t):MR c t.1 t.2:=by
 obtain ⟨h1,h2,h3,h4⟩:=h;unfold nx at e;cases inn
 ·rw [zAH] at e;split at e
  ·cases e;exact ⟨h1,h2,zEK _,fun h=>absurd h (Int.lt_irrefl _)⟩
  ·split at e
   ·cases e;have:=h4 (by omega);exact ⟨by show 0<=d+1;omega,by show d+1<=_;omega,zEK _,fun h=>absurd h (Int.lt_irrefl _)⟩
   ·cases e
 ·rw [zAI] at e;split at e
  ·rename_i h5;cases e;exact ⟨h1,h2,by show 0<=l+1;omega,fun _=>⟨h5.1,by show l+1<=c.runs.getD d.toNat 0;omega⟩⟩
  ·cases e
theorem Vt {n ln:Nat} {d l:Int} {inn:Bool} (R:H8 c) (h:MR c d l): ∃ t,SI n (d,l) inn c q pos ln lost=some (t,(nx c d l inn).isSome,lost)/\ ∀ u,nx c d l inn=some u -> t=u:=by
 obtain ⟨h1,h2,h3,h4⟩:=h;obtain ⟨hr,hv⟩:=R
 have hl:l<=256:=by
  by_cases h0:0<l
  ·obtain ⟨a1,a2⟩:=h4 h0;have:=hv d.toNat (by omega);omega
  ·omega
 unfold SI jP nx;cases inn
 ·rw [zAH,zAH]
  by_cases h0:l=0
  ·subst h0;refine ⟨(d,0),by simp,fun u hu=>by simpa using hu⟩
  ·obtain ⟨a1,a2⟩:=h4 (by omega);have e0:(l==0)=false:=by simpa using h0
   simp only [e0,zAH,zAU h0];rw [zAE ⟨As.2 ⟨by omega,by omega⟩,h1,a1⟩];refine ⟨(d+1,0),?_,fun u hu=>?_⟩
   ·by_cases h5:l=c.runs.getD d.toNat 0
    ·rw [zAE h5,←h5];simp
    ·rw [zAU h5];simpa using h5
   ·split at hu
    ·cases hu;rfl
    ·cases hu
 ·rw [zAI,zAI,zAE (As.2 ⟨by show _<=l+1;omega,by show l+1<=_;omega⟩)]
  by_cases h5:d<(c.runs.length:Int)
  ·simp only [zAJ h5,zAI];rw [zAE ⟨h1,h5⟩];refine ⟨(d,l+1),?_,fun u hu=>?_⟩
   ·by_cases h6:l<c.runs.getD d.toNat 0
    ·rw [zAE ⟨h5,h6⟩,zAJ h6];rfl
    ·rw [zAU fun h=>h6 h.2,zAC h6];rfl
   ·split at hu
    ·cases hu;rfl
    ·cases hu
  ·simp only [zAC h5,zAH];refine ⟨(d,l+1),?_,fun u hu=>?_⟩
   ·rw [zAU fun h=>h5 h.1];rfl
   ·rw [zAU fun h=>h5 h.1] at hu;cases hu
def kd (c:AC) (pos:List Int) (i:Nat) (inn:Bool):Bool:=bif inn then (bits .and .i64 (BN c pos i) c.set != 0) else (bits .andNot .i64 (BN c pos i) c.set != 0)
theorem V4 {n:Nat} {i:Nat} {inn:Bool} (W:C2 c k pos) (hi:i<c.cells.length):Sa n (i:Int) inn c q pos pos.length lost=some (kd c pos i inn,lost):=by
 have hc:=W.cells i hi;unfold Sa kC kd;simp only [zAL];cases inn
 ·rw [zAH,zAE ⟨⟨by omega,by omega⟩,hc⟩];rfl
 ·rw [zAI,zAE ⟨⟨by omega,by omega⟩,hc⟩];rfl
def F2 (c:AC) (pos:List Int):Nat -> Int×Int -> Prop
 | 0,t=>t=(0,0)
 | i+1,t=>∃ s inn,F2 c pos i s/\ nx c s.1 s.2 inn=some t/\ kd c pos i inn=true
theorem F2.ok (i:Nat): ∀ {t:Int×Int},F2 c pos i t -> MR c t.1 t.2:=by
 induction i with
 | zero=>
  intro t h;obtain rfl:t=(0,0):=h;exact ⟨zEK _,by show (0:Int)<=_;omega,zEK _,fun h=>absurd h (Int.lt_irrefl _)⟩
 | succ i ih=>
  rintro t ⟨s,inn,h1,h2,_⟩;exact uy (ih h1) h2
def zD0 (c:AC) (t:Int×Int):Prop:=t=((c.runs.length:Int),0)∨(0<c.runs.length/\ t=((c.runs.length:Int)-1,c.runs.getD (c.runs.length-1) 0))
def Kz (c:AC) (pos:List Int):Nat -> Int×Int -> Prop
 | 0,t=>zD0 c t
 | m+1,s=>F2 c pos (c.cells.length-1-m) s/\ ∃ t inn,nx c s.1 s.2 inn=some t/\ kd c pos (c.cells.length-1-m) inn=true/\ Kz c pos m t
def OP (c:AC) (pos:List Int) (i:Nat) (inn:Bool):Prop:=∃ s t,F2 c pos i s/\ nx c s.1 s.2 inn=some t/\ kd c pos i inn=true/\ Kz c pos (c.cells.length-1-i) t
def M4 (c:AC) (pos:List Int) (a s:Nat):Prop:=(¬ OP c pos a true/\ tb c.set s=true)∨(¬ OP c pos a false/\ tb c.set s=false)
def D1 (c:AC) (pos:List Int) (i:Nat) (o4:KS) (d l:Int) (inn:Bool):Bool:=match nx c d l inn with
 | some t=>kd c pos i inn&&o4.contains [t.1,t.2]
 | none=>false
theorem wU {n i oi:Nat} {o1:List Int} {o3:List (Option KS)} {o4 o5 o8:KS} {b0 b1:Bool} {d l:Int} {IT:List Int} (W:C2 c k pos) (R:H8 c) (hi:i<c.cells.length) (h:MR c d l):
 BO c q pos pos.length lost (n+1) (.l7 i 0 o1 o3 oi o4 o5 b0 b1 d l o8 IT)=BO c q pos pos.length lost n (.l7 i 1 o1 o3 oi o4 (bif D1 c pos i o4 d l false then CN [d,l] o5 else o5) (b0||D1 c pos i o4 d l false) b1 d l o8 IT):=by
 obtain ⟨t,e1,e2⟩:=Vt (n:=n) (ln:=pos.length) (pos:=pos) (lost:=o1) (q:=q) (inn:=false) R h;have b:([false,true]:List Bool).getD (0+((0:Int)).toNat) false=false:=rfl;have r:AL ((0:Int)+1):=As.2 ⟨by decide,by decide⟩
 show My n (BO c q pos pos.length lost n) c q pos pos.length lost i 0 o1 o3 oi o4 o5 b0 b1 d l o8 IT=_
 unfold My D1;rw [zAJ (by decide),zAI,zAE ⟨⟨by decide,by decide⟩,by decide⟩,b,e1,zAF];cases hn:nx c d l false with
 | none=>simp only [zFj,zAH,zAE r,zEb];rfl
 | some u=>
  obtain rfl:=e2 u hn;simp only [zFk,zAI];rw [V4 W hi,zAF];cases hk:kd c pos i false
  ·simp only [zAH,zAE r,zEg,zEb];rfl
  ·simp only [zAI,zD9];cases hc:o4.contains [t.1,t.2]
   ·simp only [zAH,zAE r,zEb];rfl
   ·have z:((0:Int)==0)=true:=rfl;simp only [zAI,z,zAE r,Bool.or_true];rfl
theorem wT {n i oi:Nat} {o1:List Int} {o3:List (Option KS)} {o4 o5 o8:KS} {b0 b1:Bool} {d l:Int} {IT:List Int} (W:C2 c k pos) (R:H8 c) (hi:i<c.cells.length) (h:MR c d l):
 BO c q pos pos.length lost (n+1) (.l7 i 1 o1 o3 oi o4 o5 b0 b1 d l o8 IT)=BO c q pos pos.length lost n (.l7 i 2 o1 o3 oi o4 (bif D1 c pos i o4 d l true then CN [d,l] o5 else o5) b0 (b1||D1 c pos i o4 d l true) d l o8 IT):=by
 obtain ⟨t,e1,e2⟩:=Vt (n:=n) (ln:=pos.length) (pos:=pos) (lost:=o1) (q:=q) (inn:=true) R h;have b:([false,true]:List Bool).getD (0+((1:Int)).toNat) false=true:=rfl;have r:AL ((1:Int)+1):=As.2 ⟨by decide,by decide⟩
 show My n (BO c q pos pos.length lost n) c q pos pos.length lost i 1 o1 o3 oi o4 o5 b0 b1 d l o8 IT=_
 unfold My D1;rw [zAJ (by decide),zAI,zAE ⟨⟨by decide,by decide⟩,by decide⟩,b,e1,zAF];cases hn:nx c d l true with
 | none=>simp only [zFj,zAH,zAE r,zEb];rfl
 | some u=>
  obtain rfl:=e2 u hn;simp only [zFk,zAI];rw [V4 W hi,zAF];cases hk:kd c pos i true
  ·simp only [zAH,zAE r,zEg,zEb];rfl
  ·simp only [zAI,zD9];cases hc:o4.contains [t.1,t.2]
   ·simp only [zAH,zAE r,zEb];rfl
   ·have z:((1:Int)==0)=false:=rfl;have z1:((1:Int)==1)=true:=rfl;simp only [zAI,zAH,z,z1,zAE r,Bool.or_true];rfl
theorem wS {n i oi:Nat} {o1:List Int} {o3:List (Option KS)} {o4 o5 o8:KS} {b0 b1:Bool} {d l:Int} {IT:List Int}:
 BO c q pos pos.length lost (n+1) (.l7 i 2 o1 o3 oi o4 o5 b0 b1 d l o8 IT)=BO c q pos pos.length lost n (.l9 i o1 o3 oi o4 o5 b0 b1 o8 IT):=by
 show My n (BO c q pos pos.length lost n) c q pos pos.length lost i 2 o1 o3 oi o4 o5 b0 b1 d l o8 IT=_
 unfold My;rw [zAC (by decide),zAH]
def FD (c:AC) (pos:List Int) (i:Nat) (o3:List (Option KS)) (d l:Int) (inn:Bool):List (Option KS):=match nx c d l inn with
 | some t=>bif kd c pos i inn then o3.set (i+1) (some (CN [t.1,t.2] ((o3.getD (i+1) none).getD []))) else o3
 | none=>o3
theorem wY {n i:Nat} {o1:List Int} {o3:List (Option KS)} {o5:KS} {d l:Int} {Fa:List Int} {At:Int} (W:C2 c k pos) (R:H8 c) (hi:i<c.cells.length) (h:MR c d l) (h3:i+1<o3.length) (hs:(o3.getD (i+1) none).isSome=true):
 BO c q pos pos.length lost (n+1) (.l5 i At 0 o1 o3 i d l o5 Fa)=BO c q pos pos.length lost n (.l5 i At 1 o1 (FD c pos i o3 d l false) i d l o5 Fa):=by
 obtain ⟨t,e1,e2⟩:=Vt (n:=n) (ln:=pos.length) (pos:=pos) (lost:=o1) (q:=q) (inn:=false) R h;have b:([false,true]:List Bool).getD (0+((0:Int)).toNat) false=false:=rfl;have r:AL ((0:Int)+1):=As.2 ⟨by decide,by decide⟩;have Ao:=W.len;have t1:((((c.cells.length:Nat):Int)+1).toNat:Nat)=c.cells.length+1:=by omega
 have t2:0+(((i:Int)+1).toNat:Nat)=i+1:=by omega
 show Mz n (BO c q pos pos.length lost n) c q pos pos.length lost i At 0 o1 o3 i d l o5 Fa=_
 unfold Mz FD;rw [zAJ (by decide),zAI,zAE ⟨⟨by decide,by decide⟩,by decide⟩,b,e1,zAF];cases hn:nx c d l false with
 | none=>simp only [zFj,zAH,zAE r];rfl
 | some u=>
  obtain rfl:=e2 u hn;simp only [zFk,zAI];rw [V4 W hi,zAF];cases hk:kd c pos i false
  ·simp only [zAH,zAE r];rfl
  ·simp only [zAI,t1,t2];rw [zAE ⟨As.2 ⟨by omega,by omega⟩,⟨by omega,by omega⟩,h3,by omega,hs,r⟩];rfl
theorem wX {n i:Nat} {o1:List Int} {o3:List (Option KS)} {o5:KS} {d l:Int} {Fa:List Int} {At:Int} (W:C2 c k pos) (R:H8 c) (hi:i<c.cells.length) (h:MR c d l) (h3:i+1<o3.length) (hs:(o3.getD (i+1) none).isSome=true):
 BO c q pos pos.length lost (n+1) (.l5 i At 1 o1 o3 i d l o5 Fa)=BO c q pos pos.length lost n (.l5 i At 2 o1 (FD c pos i o3 d l true) i d l o5 Fa):=by
 obtain ⟨t,e1,e2⟩:=Vt (n:=n) (ln:=pos.length) (pos:=pos) (lost:=o1) (q:=q) (inn:=true) R h;have b:([false,true]:List Bool).getD (0+((1:Int)).toNat) false=true:=rfl;have r:AL ((1:Int)+1):=As.2 ⟨by decide,by decide⟩;have Ao:=W.len;have t1:((((c.cells.length:Nat):Int)+1).toNat:Nat)=c.cells.length+1:=by omega
 have t2:0+(((i:Int)+1).toNat:Nat)=i+1:=by omega
 show Mz n (BO c q pos pos.length lost n) c q pos pos.length lost i At 1 o1 o3 i d l o5 Fa=_
 unfold Mz FD;rw [zAJ (by decide),zAI,zAE ⟨⟨by decide,by decide⟩,by decide⟩,b,e1,zAF];cases hn:nx c d l true with
 | none=>simp only [zFj,zAH,zAE r];rfl
 | some u=>
  obtain rfl:=e2 u hn;simp only [zFk,zAI];rw [V4 W hi,zAF];cases hk:kd c pos i true
  ·simp only [zAH,zAE r];rfl
  ·simp only [zAI,t1,t2];rw [zAE ⟨As.2 ⟨by omega,by omega⟩,⟨by omega,by omega⟩,h3,by omega,hs,r⟩];rfl
theorem wW {n i:Nat} {o1:List Int} {o3:List (Option KS)} {o5:KS} {d l:Int} {Fa:List Int} {At:Int}:
 BO c q pos pos.length lost (n+1) (.l5 i At 2 o1 o3 i d l o5 Fa)=BO c q pos pos.length lost n (.l8 i At o1 o3 i o5 Fa):=by
 show Mz n (BO c q pos pos.length lost n) c q pos pos.length lost i At 2 o1 o3 i d l o5 Fa=_
 unfold Mz;rw [zAC (by decide),zAH]
def Fk (o3:List (Option KS)) (j:Nat):KS:=(o3.getD j none).getD []
theorem VQ {i:Nat} {o3:List (Option KS)} {d l:Int} {inn:Bool}:(FD c pos i o3 d l inn).length=o3.length:=by
 unfold FD;split
 ·cases kd c pos i inn
  ·rfl
  ·rw [zAI,zAn]
 ·rfl
theorem Wv {α:Type} {l:List α} {i:Nat} {x y:α} (h:i<l.length):(l.set i x).getD i y=x:=by
 rw [u8,zEJ h];rfl
theorem bu {α:Type} {l:List α} {i j:Nat} {x y:α} (h:i≠j):(l.set i x).getD j y=l.getD j y:=by
 rw [u8,zEF h,←u8]
theorem ZK {i j:Nat} {o3:List (Option KS)} {d l:Int} {inn:Bool} (h:j≠i+1):(FD c pos i o3 d l inn).getD j none=o3.getD j none:=by
 unfold FD;split
 ·cases kd c pos i inn
  ·rfl
  ·rw [zAI,bu (fun e=>h e.symm)]
 ·rfl
theorem ZL {i:Nat} {o3:List (Option KS)} {d l:Int} {inn:Bool} (hl:i+1<o3.length) {j:Nat} (h:(o3.getD j none).isSome=true):((FD c pos i o3 d l inn).getD j none).isSome=true:=by
 by_cases e:j=i+1
 ·subst e;unfold FD;split
  ·cases kd c pos i inn
   ·exact h
   ·rw [zAI,Wv hl];rfl
  ·exact h
 ·rw [ZK e];exact h
theorem PK {i:Nat} {o3:List (Option KS)} {d l:Int} {inn:Bool} (hl:i+1<o3.length) {x:List Int}:x∈Fk (FD c pos i o3 d l inn) (i+1)↔x∈Fk o3 (i+1)∨∃ t,nx c d l inn=some t/\ kd c pos i inn=true/\ x= [t.1,t.2]:=by
 unfold FD;split
 ·rename_i t ht;cases hk:kd c pos i inn
  ·rw [zAH];exact ⟨.inl,fun h=>h.elim id fun ⟨_,_,h,_⟩=>by cases h⟩
  ·rw [zAI];unfold Fk;rw [Wv hl]
   show x∈CN _ _↔_
   rw [NS];constructor
   ·rintro (h | h)
    ·exact .inr ⟨t,ht,rfl,h⟩
    ·exact .inl h
   ·rintro (h | ⟨u,hu,_,h⟩)
    ·exact .inr h
    ·rw [ht] at hu;cases hu;exact .inl h
 ·rename_i hn;exact ⟨.inl,fun h=>h.elim id fun ⟨_,h,_⟩=>by rw [hn] at h;cases h⟩
structure Rows (c:AC) (pos:List Int) (i:Nat) (o3:List (Option KS)):Prop where
 len:o3.length=c.cells.length+1
 isSome: ∀ j,j<=c.cells.length -> (o3.getD j none).isSome=true
 row: ∀ j,j<=i -> ∀ x,x∈Fk o3 j↔∃ t:Int×Int,x= [t.1,t.2]/\ F2 c pos j t
 rest: ∀ j,i<j -> j<=c.cells.length -> Fk o3 j= []
structure OY (c:AC) (pos:List Int) (i:Nat) (rem:KS) (o3:List (Option KS)):Prop where
 hi:i<c.cells.length
 len:o3.length=c.cells.length+1
 isSome: ∀ j,j<=c.cells.length -> (o3.getD j none).isSome=true
 row: ∀ j,j<=i -> ∀ x,x∈Fk o3 j↔∃ t:Int×Int,x= [t.1,t.2]/\ F2 c pos j t
 rest: ∀ j,i+1<j -> j<=c.cells.length -> Fk o3 j= []
 sub: ∀ x∈rem,∃ t:Int×Int,x= [t.1,t.2]/\ F2 c pos i t
 next: ∀ x∈Fk o3 (i+1),∃ t:Int×Int,x= [t.1,t.2]/\ F2 c pos (i+1) t
 cov: ∀ t,F2 c pos i t -> [t.1,t.2]∈rem∨∀ inn u,nx c t.1 t.2 inn=some u -> kd c pos i inn=true -> [u.1,u.2]∈Fk o3 (i+1)
theorem Rows.mid {i:Nat} {o3:List (Option KS)} (h:Rows c pos i o3) (hi:i<c.cells.length):OY c pos i (Fk o3 i) o3 where
 hi:=hi
 len:=h.len
 isSome:=h.isSome
 row:=h.row
 rest:=fun j hj hl=>h.rest j (by omega) hl
 sub:=fun x hx=>(h.row i (zAp _) x).1 hx
 next:=fun x hx=>by rw [h.rest (i+1) (by omega) (by omega)] at hx;cases hx
 cov:=fun t ht=>.inl ((h.row i (zAp _) _).2 ⟨t,rfl,ht⟩)
theorem OY.rows {i:Nat} {o3:List (Option KS)} (h:OY c pos i [] o3):Rows c pos (i+1) o3 where
 len:=h.len
 isSome:=h.isSome
 row:=fun j hj x=>by
  rcases zAc.1 (Nat.lt_succ_of_le hj) with hj | rfl
  ·exact h.row j (by omega) x
  ·refine ⟨h.next x,?_⟩;rintro ⟨t,rfl,s,inn,h1,h2,h3⟩;rcases h.cov s h1 with h4 | h4
   ·cases h4
   ·exact h4 inn t h2 h3
 rest:=h.rest
theorem Rp {t u:Int×Int} (h:([t.1,t.2]:List Int)= [u.1,u.2]):t=u:=by
 obtain ⟨a,b⟩:=t;obtain ⟨a',b'⟩:=u;simp only [List.cons.injEq,and_true] at h;rw [h.1,h.2]
theorem OY.go {i:Nat} {o3:List (Option KS)} {rem:KS} {t:Int×Int} (h:OY c pos i rem o3) (ht: [t.1,t.2]∈rem):OY c pos i (rem.erase [t.1,t.2]) (FD c pos i (FD c pos i o3 t.1 t.2 false) t.1 t.2 true):=by
 have hl:=h.len;have hi:=h.hi;have h1:i+1<o3.length:=by omega
 have h2:i+1<(FD c pos i o3 t.1 t.2 false).length:=by rw [VQ];exact h1
 have Am: ∀ j,j≠i+1 -> Fk (FD c pos i (FD c pos i o3 t.1 t.2 false) t.1 t.2 true) j=Fk o3 j:=fun j hj=>by
  unfold Fk;rw [ZK hj,ZK hj]
 have hR:F2 c pos i t:=by
  obtain ⟨u,e,hu⟩:=h.sub _ ht;rw [Rp e];exact hu
 refine ⟨hi,by rw [VQ,VQ];exact hl,fun j hj=>ZL h2 (ZL h1 (h.isSome j hj)),fun j hj x=>?_,fun j hj hjl=>?_,fun x hx=>h.sub x (zFx hx),fun x hx=>?_,fun s hs=>?_⟩
 ·rw [Am j (by omega)];exact h.row j hj x
 ·rw [Am j (by omega)];exact h.rest j hj hjl
 ·rw [PK h2,PK h1] at hx;rcases hx with (hx | ⟨u,e1,e2,rfl⟩) | ⟨u,e1,e2,rfl⟩
  ·exact h.next x hx
  ·exact ⟨u,rfl,t,false,hR,e1,e2⟩
  ·exact ⟨u,rfl,t,true,hR,e1,e2⟩
 ·by_cases e:s=t
  ·subst e;refine .inr fun inn u h3 h4=>?_
   rw [PK h2,PK h1];cases inn
   ·exact .inl (.inr ⟨u,h3,h4,rfl⟩)
   ·exact .inr ⟨u,h3,h4,rfl⟩
  ·rcases h.cov s hs with h3 | h3
   ·exact .inl ((List.mem_erase_of_ne (fun e2=>e (Rp e2))).2 h3)
   ·refine .inr fun inn u h4 h5=>?_
    rw [PK h2,PK h1];exact .inl (.inl (h3 inn u h4 h5))
def Hb (c:AC) (pos lost:List Int) (r:Bool×List Int):Prop:=r.1=true/\ B3 c pos lost c.cells.length (M4 c pos) r.2/\ ∀ j,CF (r.2.getD j 0)
theorem Hb.uniq (r r':Bool×List Int) (h:Hb c pos lost r) (h':Hb c pos lost r'):r=r':=by
 obtain ⟨b,l⟩:=r;obtain ⟨b',l'⟩:=r';obtain ⟨h1,h2,h3⟩:=h;obtain ⟨h4,h5,h6⟩:=h';have e1:b=true:=h1;have e2:b'=true:=h4;have e3:l=l':=B3.unique h2 h5 h3 h6;rw [e1,e2,e3]
theorem vV {i:Nat} {o1:List Int} {At:Int} (W:C2 c k pos) (R:H8 c) (hx:At=(i:Int)) (H: ∀ o3,Rows c pos (i+1) o3 -> Ae (fun n=>BO c q pos pos.length lost n (.l2 (At+1) o1 o3)) (Hb c pos lost)):
 ∀ (m:Nat) (rem:KS) (o3:List (Option KS)) (Fa:List Int),rem.length=m -> OY c pos i rem o3 -> Ae (fun n=>BO c q pos pos.length lost n (.l8 i At o1 o3 i rem Fa)) (Hb c pos lost):=by
 intro m
 induction m with
 | zero=>
  intro rem o3 Fa hm hM;have:rem= []:=zER hm;subst this;have hs:=hM.isSome i (by have:=hM.hi;omega);have r1:AL (At+1):=by rw [hx];exact (W.r64 hM.hi).2
  refine Ae.step 1 (fun n=>?_) (H o3 hM.rows)
  show RC n (BO c q pos pos.length lost n) c q pos pos.length lost i At o1 o3 i [] Fa=_
  unfold RC;rw [zAE hs,jF,zAE r1]
 | succ m ih=>
  intro rem o3 Fa hm hM;have hs:=hM.isSome i (by have:=hM.hi;omega);have Am:rem≠[]:=by intro e;rw [e] at hm;cases hm
  refine Ae.step 1 (g:=fun n=>Hn rem (if AL (At+1) then BO c q pos pos.length lost n (.l2 (At+1) o1 o3) else none) (fun y1=>BO c q pos pos.length lost n (.l5 i At 0 o1 o3 i (y1.getD 0 0) (y1.getD 1 0) (rem.erase y1) y1))) (fun n=>?_) (Ae.next Am (fun y hy=>?_) Hb.uniq)
  ·show RC n (BO c q pos pos.length lost n) c q pos pos.length lost i At o1 o3 i rem Fa=_
   unfold RC;rw [zAE hs];simp only [zAE hs]
  ·obtain ⟨t,rfl,ht⟩:=hM.sub y hy;have hS:=ht.ok;have hl:=hM.len;have hi:=hM.hi;have h1:i+1<o3.length:=by omega
   have s1:=hM.isSome (i+1) (by omega);have h2:i+1<(FD c pos i o3 t.1 t.2 false).length:=by rw [VQ];exact h1
   have s2:=ZL (c:=c) (pos:=pos) (d:=t.1) (l:=t.2) (inn:=false) h1 s1;refine Ae.step 3 (fun n=>?_) (ih _ _ [t.1,t.2] (by rw [zFg hy];omega) (hM.go hy))
   show BO c q pos pos.length lost (n+2+1) (.l5 i At 0 o1 o3 i t.1 t.2 (rem.erase [t.1,t.2]) [t.1,t.2])=_
   rw [wY W R hM.hi hS h1 s1,wX W R hM.hi hS h2 s2,wW]
def Qa (c:AC) (pos:List Int) (m:Nat) (o4:KS):Prop:=∀ x,x∈o4↔∃ t:Int×Int,x= [t.1,t.2]/\ Kz c pos m t
def MY (c:AC) (pos lost:List Int) (m:Nat) (o1:List Int):Prop:=B3 c pos lost c.cells.length (fun a s=>c.cells.length<=a+m/\ M4 c pos a s) o1/\ ∀ j,CF (o1.getD j 0)
structure Bk (c:AC) (pos:List Int) (i m:Nat) (o5:KS) (b0 b1:Bool) (rem:KS):Prop where
 hi:i+m+1=c.cells.length
 sub: ∀ x∈rem,∃ t:Int×Int,x= [t.1,t.2]/\ F2 c pos i t
 o5s: ∀ x∈o5,∃ t:Int×Int,x= [t.1,t.2]/\ Kz c pos (m+1) t
 b0s:b0=true -> OP c pos i false
 b1s:b1=true -> OP c pos i true
 cov: ∀ t,F2 c pos i t -> [t.1,t.2]∈rem∨∀ inn u,nx c t.1 t.2 inn=some u -> kd c pos i inn=true -> Kz c pos m u -> [t.1,t.2]∈o5/\ (bif inn then b1 else b0)=true
theorem Zj {i m:Nat} {o4:KS} {d l:Int} {inn:Bool} (h:Qa c pos m o4):D1 c pos i o4 d l inn=true↔∃ u,nx c d l inn=some u/\ kd c pos i inn=true/\ Kz c pos m u:=by
 unfold D1;split
 ·rename_i t ht;rw [zAN,zFJ,h];constructor
  ·rintro ⟨h1,u,h2,h3⟩;exact ⟨t,ht,h1,by rw [Rp h2];exact h3⟩
  ·rintro ⟨u,h1,h2,h3⟩;rw [ht] at h1;cases h1;exact ⟨h2,t,rfl,h3⟩
 ·rename_i hn;exact ⟨fun h=>(by cases h),fun ⟨u,h,_⟩=>by rw [hn] at h;cases h⟩
theorem Bk.go {i m:Nat} {o4 o5 rem:KS} {b0 b1:Bool} {t:Int×Int} (hE:Qa c pos m o4) (h:Bk c pos i m o5 b0 b1 rem) (ht: [t.1,t.2]∈rem):
 Bk c pos i m (bif D1 c pos i o4 t.1 t.2 true then CN [t.1,t.2] (bif D1 c pos i o4 t.1 t.2 false then CN [t.1,t.2] o5 else o5) else (bif D1 c pos i o4 t.1 t.2 false then CN [t.1,t.2] o5 else o5)) (b0||D1 c pos i o4 t.1 t.2 false) (b1||D1 c pos i o4 t.1 t.2 true) (rem.erase [t.1,t.2]):=by
 have hR:F2 c pos i t:=by
  obtain ⟨u,e,hu⟩:=h.sub _ ht;rw [Rp e];exact hu
 have ei:c.cells.length-1-i=m:=by have:=h.hi;omega
 have em:c.cells.length-1-m=i:=by have:=h.hi;omega
 have li: ∀ inn,D1 c pos i o4 t.1 t.2 inn=true -> OP c pos i inn:=fun inn ho=>by
  obtain ⟨u,h1,h2,h3⟩:=(Zj hE).1 ho;exact ⟨t,u,hR,h1,h2,by rw [ei];exact h3⟩
 have lA: ∀ inn,D1 c pos i o4 t.1 t.2 inn=true -> Kz c pos (m+1) t:=fun inn ho=>by
  obtain ⟨u,h1,h2,h3⟩:=(Zj hE).1 ho
  show F2 c pos (c.cells.length-1-m) t/\ ∃ u inn,nx c t.1 t.2 inn=some u/\ kd c pos (c.cells.length-1-m) inn=true/\ Kz c pos m u
  rw [em];exact ⟨hR,u,inn,h1,h2,h3⟩
 have mem: ∀ x,x∈(bif D1 c pos i o4 t.1 t.2 true then CN [t.1,t.2] (bif D1 c pos i o4 t.1 t.2 false then CN [t.1,t.2] o5 else o5) else (bif D1 c pos i o4 t.1 t.2 false then CN [t.1,t.2] o5 else o5))↔x∈o5∨(x= [t.1,t.2]/\ (D1 c pos i o4 t.1 t.2 true=true∨D1 c pos i o4 t.1 t.2 false=true)):=fun x=>by
  cases D1 c pos i o4 t.1 t.2 true <;> cases D1 c pos i o4 t.1 t.2 false <;> simp only [zAI,zAH,NS,zDJ,or_false,and_false,or_true,true_or,and_true]
  ·exact Or.comm
  ·exact Or.comm
  ·exact ⟨fun h=>h.elim .inr fun h=>h.elim .inr .inl,fun h=>h.elim (fun h=>.inr (.inr h)) .inl⟩
 refine ⟨h.hi,fun x hx=>h.sub x (zFx hx),fun x hx=>?_,fun hb=>?_,fun hb=>?_,fun s hs=>?_⟩
 ·rcases (mem x).1 hx with hx | ⟨rfl,h1 | h1⟩
  ·exact h.o5s x hx
  ·exact ⟨t,rfl,lA _ h1⟩
  ·exact ⟨t,rfl,lA _ h1⟩
 ·rcases Bool.or_eq_true_iff.1 hb with hb | hb
  ·exact h.b0s hb
  ·exact li _ hb
 ·rcases Bool.or_eq_true_iff.1 hb with hb | hb
  ·exact h.b1s hb
  ·exact li _ hb
 ·by_cases e:s=t
  ·subst e;refine .inr fun inn u h1 h2 h3=>?_
   have ho:D1 c pos i o4 s.1 s.2 inn=true:=(Zj hE).2 ⟨u,h1,h2,h3⟩;rw [mem];cases inn
   ·exact ⟨.inr ⟨rfl,.inr ho⟩,by rw [zAH,ho,Bool.or_true]⟩
   ·exact ⟨.inr ⟨rfl,.inl ho⟩,by rw [zAI,ho,Bool.or_true]⟩
  ·rcases h.cov s hs with h3 | h3
   ·exact .inl ((List.mem_erase_of_ne (fun e2=>e (Rp e2))).2 h3)
   ·refine .inr fun inn u h4 h5 h6=>?_
    obtain ⟨h7,h8⟩:=h3 inn u h4 h5 h6;rw [mem];refine ⟨.inl h7,?_⟩;cases inn
    ·rw [zAH] at h8 ⊢;rw [h8];rfl
    ·rw [zAI] at h8 ⊢;rw [h8];rfl
theorem Bk.end' {i m:Nat} {o5:KS} {b0 b1:Bool} (h:Bk c pos i m o5 b0 b1 []):Qa c pos (m+1) o5/\ (b0=true↔OP c pos i false)/\ (b1=true↔OP c pos i true):=by
 have ei:c.cells.length-1-i=m:=by have:=h.hi;omega
 have em:c.cells.length-1-m=i:=by have:=h.hi;omega
 refine ⟨fun x=>⟨h.o5s x,?_⟩,⟨h.b0s,?_⟩,⟨h.b1s,?_⟩⟩
 ·rintro ⟨t,rfl,h1⟩;have h1:F2 c pos (c.cells.length-1-m) t/\ ∃ u inn,nx c t.1 t.2 inn=some u/\ kd c pos (c.cells.length-1-m) inn=true/\ Kz c pos m u:=h1;rw [em] at h1;obtain ⟨h1,u,inn,h2,h3,h4⟩:=h1;rcases h.cov t h1 with h5 | h5
  ·cases h5
  ·exact (h5 inn u h2 h3 h4).1
 ·rintro ⟨s,t,h1,h2,h3,h4⟩;rw [ei] at h4;rcases h.cov s h1 with h5 | h5
  ·cases h5
  ·exact (h5 false t h2 h3 h4).2
 ·rintro ⟨s,t,h1,h2,h3,h4⟩;rw [ei] at h4;rcases h.cov s h1 with h5 | h5
  ·cases h5
  ·exact (h5 true t h2 h3 h4).2
theorem jf {cell ss:Int} (h0:0<=cell) (h1:cell<(pos.length:Int)) (hl:lost.length=pos.length) (hi: ∀ j,CF (lost.getD j 0)):
 ∃ l',(∀ n,DU n cell ss c q pos pos.length lost=some l')/\ l'.length=pos.length/\ (∀ j,CF (l'.getD j 0))/\ ∀ j s,tb (l'.getD j 0) s=(tb (lost.getD j 0) s||(decide (j=cell.toNat)&&(tb (pos.getD j 0) s&&tb ss s))):=by
 obtain ⟨l',e,h2,h3⟩:=KL (n:=0) (ss:=ss) (c:=c) (q:=q) h0 h1 hl;exact ⟨l',fun _=>e,h2,vg e hi,h3⟩
theorem Zg {cell:Int} (h0:0<=cell) (h1:cell<(pos.length:Int)) (hl:lost.length=pos.length) (hi: ∀ j,CF (lost.getD j 0)):
 ∃ l',(∀ n,GI n cell c q pos pos.length lost=some l')/\ l'.length=pos.length/\ (∀ j,CF (l'.getD j 0))/\ ∀ j s,tb (l'.getD j 0) s=(tb (lost.getD j 0) s||(decide (j=cell.toNat)&&(tb (pos.getD j 0) s&&!tb c.set s))):=by
 obtain ⟨l',e,h2,h3⟩:=Zf (n:=0) (c:=c) (q:=q) h0 h1 hl;exact ⟨l',fun _=>e,h2,uo e hi,h3⟩
theorem MY.go {i m:Nat} {o1 l':List Int} (h:MY c pos lost m o1) (hi:i+m+1=c.cells.length) (hl:l'.length=pos.length) (Ef: ∀ j,CF (l'.getD j 0))
 (h1: ∀ j s,tb (l'.getD j 0) s=true↔tb (o1.getD j 0) s=true∨((c.cells.getD i 0).toNat=j/\ tb (BN c pos i) s=true/\ M4 c pos i s)):MY c pos lost (m+1) l':=by
 refine ⟨⟨hl,fun j s=>?_⟩,Ef⟩;rw [h1,h.1.2];constructor
 ·rintro ((h | ⟨a,ha,h2,h3,h4,h5⟩) | h)
  ·exact .inl h
  ·exact .inr ⟨a,ha,h2,h3,by omega,h5⟩
  ·exact .inr ⟨i,by omega,h.1,h.2.1,by omega,h.2.2⟩
 ·rintro (h2 | ⟨a,ha,h2,h3,h4,h5⟩)
  ·exact .inl (.inl h2)
  ·by_cases e:c.cells.length<=a+m
   ·exact .inl (.inr ⟨a,ha,h2,h3,e,h5⟩)
   ·have:a=i:=by omega
    subst this;exact .inr ⟨h2,h3,h5⟩
theorem zDF {i m:Nat} {o1:List Int} {o3:List (Option KS)} {o4:KS} {AZ:Int} (W:C2 c k pos) (R:H8 c) (hx:AZ=(i:Int)) (hR:Rows c pos c.cells.length o3) (hE:Qa c pos m o4) (hL:MY c pos lost m o1)
 (H: ∀ o1 o5,MY c pos lost (m+1) o1 -> Qa c pos (m+1) o5 -> Ae (fun n=>BO c q pos pos.length lost n (.l4 (AZ-1) o1 o3 o5)) (Hb c pos lost)):
 ∀ (z:Nat) (rem o5:KS) (b0 b1:Bool) (PC:List Int),rem.length=z -> Bk c pos i m o5 b0 b1 rem -> Ae (fun n=>BO c q pos pos.length lost n (.l9 i o1 o3 i o4 o5 b0 b1 rem PC)) (Hb c pos lost):=by
 intro z
 induction z with
 | zero=>
  intro rem o5 b0 b1 PC hm hB;have:rem= []:=zER hm;subst this;obtain ⟨e5,e0,e1⟩:=hB.end';have hi:i<c.cells.length:=by have:=hB.hi;omega
  have hs:=hR.isSome i (by omega);have Ao:=W.len;have r1:AL ((i:Int)-1):=As.2 ⟨by omega,by omega⟩;have hc:=W.cells i hi;have g0:(0:Int)<=(i:Int)/\ (i:Int)<((c.cells.length:Nat):Int):=⟨by omega,by omega⟩;obtain ⟨l1,f1,n1,i1,t1⟩:=jf (ss:=c.set) (c:=c) (q:=q) hc.1 hc.2 hL.1.1 hL.2;obtain ⟨l2,f2,n2,i2,t2⟩:=Zg (c:=c) (q:=q) hc.1 hc.2 n1 i1;obtain ⟨l3,f3,n3,i3,t3⟩:=Zg (c:=c) (q:=q) hc.1 hc.2 hL.1.1 hL.2
  have eq: ∀ n,BO c q pos pos.length lost (n+1) (.l9 i o1 o3 i o4 o5 b0 b1 [] PC)=BO c q pos pos.length lost n (.l4 (i-1) (bif !b1 then (bif !b0 then l2 else l1) else (bif !b0 then l3 else o1)) o3 o5):=fun n=>by
   show RB n (BO c q pos pos.length lost n) c q pos pos.length lost i o1 o3 i o4 o5 b0 b1 [] PC=_
   unfold RB;rw [zAE hs,jF];simp only [zAL];cases b1 <;> cases b0 <;> simp only [zEG,zD7,zAI,zAH,zAE g0,f1,f2,f3,zAF,zAE r1]
  refine Ae.step 1 eq ?_
  have key: ∀ l':List Int,l'.length=pos.length -> (∀ j,CF (l'.getD j 0)) -> (∀ j s,tb (l'.getD j 0) s=(tb (o1.getD j 0) s||(decide (j=(c.cells.getD i 0).toNat)&&(tb (pos.getD j 0) s&&((!b1&&tb c.set s)||(!b0&&!tb c.set s)))))) -> MY c pos lost (m+1) l':=by
   intro l' h1 h2 h3;refine hL.go hB.hi h1 h2 fun j s=>?_
   rw [h3,zAz,zAN,zAN,zAv,zAz,zAN,zAN,zEO,zEO,zEO];unfold M4;rw [←e0,←e1,zFY,zFY];constructor
   ·rintro (h | ⟨rfl,h⟩)
    ·exact .inl h
    ·exact .inr ⟨rfl,h⟩
   ·rintro (h | ⟨rfl,h⟩)
    ·exact .inl h
    ·exact .inr ⟨rfl,h⟩
  subst hx;cases b1 <;> cases b0 <;> simp only [zEG,zD7,zAI,zAH]
  ·exact H l2 o5 (key l2 n2 i2 fun j s=>by
    rw [t2,t1];cases tb (o1.getD j 0) s <;> cases decide (j=(c.cells.getD i 0).toNat) <;> cases tb (pos.getD j 0) s <;> cases tb c.set s <;> rfl) e5
  ·exact H l1 o5 (key l1 n1 i1 fun j s=>by
    rw [t1];cases tb (o1.getD j 0) s <;> cases decide (j=(c.cells.getD i 0).toNat) <;> cases tb (pos.getD j 0) s <;> cases tb c.set s <;> rfl) e5
  ·exact H l3 o5 (key l3 n3 i3 fun j s=>by
    rw [t3];cases tb (o1.getD j 0) s <;> cases decide (j=(c.cells.getD i 0).toNat) <;> cases tb (pos.getD j 0) s <;> cases tb c.set s <;> rfl) e5
  ·exact H o1 o5 (key o1 hL.1.1 hL.2 fun j s=>by
    cases tb (o1.getD j 0) s <;> cases decide (j=(c.cells.getD i 0).toNat) <;> cases tb (pos.getD j 0) s <;> cases tb c.set s <;> rfl) e5
 | succ z ih=>
  intro rem o5 b0 b1 PC hm hB;have hi:i<c.cells.length:=by have:=hB.hi;omega
  have hs:=hR.isSome i (by omega);have Am:rem≠[]:=by intro e;rw [e] at hm;cases hm
  refine Ae.step 1 (g:=fun n=>Hn rem none (fun y1=>BO c q pos pos.length lost n (.l7 i 0 o1 o3 i o4 o5 b0 b1 (y1.getD 0 0) (y1.getD 1 0) (rem.erase y1) y1))) (fun n=>?_) (Ae.next Am (fun y hy=>?_) Hb.uniq)
  ·show RB n (BO c q pos pos.length lost n) c q pos pos.length lost i o1 o3 i o4 o5 b0 b1 rem PC=_
   unfold RB;rw [zAE hs];simp only [zAE hs];cases rem with
   | nil=>exact absurd rfl Am
   | cons x r=>rfl
  ·obtain ⟨t,rfl,ht⟩:=hB.sub y hy;have hS:=ht.ok;refine Ae.step 3 (fun n=>?_) (ih _ _ _ _ [t.1,t.2] (by rw [zFg hy];omega) (hB.go hE hy))
   show BO c q pos pos.length lost (n+2+1) (.l7 i 0 o1 o3 i o4 o5 b0 b1 t.1 t.2 (rem.erase [t.1,t.2]) [t.1,t.2])=_
   rw [wU W R hi hS,wT W R hi hS,wS]
theorem wV {n ln oi:Nat} {AZ:Int} {o1:List Int} {o3:List (Option KS)} {o4 o7:KS}:BO c q pos ln lost n (.l6 AZ o1 o3 oi o4 o7)=BO c q pos ln lost n (.l9 AZ o1 o3 oi o4 [] false false o7 []):=by cases n <;> rfl
theorem wZ {n ln oi:Nat} {x8 At:Int} {o1:List Int} {o3:List (Option KS)} {o4:KS}:BO c q pos ln lost n (.l3 x8 At o1 o3 oi o4)=BO c q pos ln lost n (.l8 x8 At o1 o3 oi o4 []):=by cases n <;> rfl
theorem nr (W:C2 c k pos) (R:H8 c) {o3:List (Option KS)} (hR:Rows c pos c.cells.length o3):
 ∀ (i m:Nat) (AZ:Int) (o1:List Int) (o4:KS),i+m=c.cells.length -> AZ=(i:Int)-1 -> MY c pos lost m o1 -> Qa c pos m o4 -> Ae (fun n=>BO c q pos pos.length lost n (.l4 AZ o1 o3 o4)) (Hb c pos lost):=by
 intro i
 induction i with
 | zero=>
  intro m AZ o1 o4 hm hx hL hE;refine Ev.p (r:=(true,o1)) ⟨1,fun n hn=>?_⟩ ⟨rfl,⟨hL.1.1,fun j s=>?_⟩,hL.2⟩
  ·obtain ⟨n,rfl⟩: ∃ n',n=n'+1:=⟨n-1,by omega⟩
   show RD n (BO c q pos pos.length lost n) c q pos pos.length lost AZ o1 o3 o4=_
   unfold RD;rw [zAC (by omega),zAH]
  ·rw [hL.1.2];constructor
   ·rintro (h | ⟨a,h1,h2,h3,_,h4⟩)
    ·exact .inl h
    ·exact .inr ⟨a,h1,h2,h3,h4⟩
   ·rintro (h | ⟨a,h1,h2,h3,h4⟩)
    ·exact .inl h
    ·exact .inr ⟨a,h1,h2,h3,by omega,h4⟩
 | succ i ih=>
  intro m AZ o1 o4 hm hx hL hE;have hx:AZ=(i:Int):=by omega
  subst hx;have hs:=hR.isSome i (by omega);have Ao:=hR.len;have t1:((((c.cells.length:Nat):Int)+1).toNat:Nat)=c.cells.length+1:=by omega
  have t2:0+((i:Int).toNat:Nat)=i:=by omega
  refine Ae.step 1 (g:=fun n=>BO c q pos pos.length lost n (.l9 i o1 o3 i o4 [] false false (Fk o3 i) [])) (fun n=>?_) (zDF W R rfl hR hE hL (fun o1 o5 h1 h2=>ih (m+1) ((i:Int)-1) o1 o5 (by omega) rfl h1 h2) _ (Fk o3 i) [] false false [] rfl ⟨by omega,fun x hx=>(hR.row i (by omega) x).1 hx,fun x hx=>(by cases hx),fun h=>(by cases h),fun h=>(by cases h),fun t ht=>.inl ((hR.row i (by omega) _).2 ⟨t,rfl,ht⟩)⟩)
  show RD n (BO c q pos pos.length lost n) c q pos pos.length lost (i:Int) o1 o3 o4=_
  unfold RD;simp only [t1,t2];rw [zAJ (by omega),zAI,zAE hs,zAE ⟨⟨by omega,by omega⟩,by omega,hs⟩];exact wV
theorem zBK (W:C2 c k pos) (R:H8 c) (hl:lost.length=pos.length) (Ef: ∀ j,CF (lost.getD j 0)):
 ∀ (m i:Nat) (At:Int) (o3:List (Option KS)),i+m=c.cells.length -> At=(i:Int) -> Rows c pos i o3 -> Ae (fun n=>BO c q pos pos.length lost n (.l2 At lost o3)) (Hb c pos lost):=by
 intro m
 induction m with
 | zero=>
  intro i At o3 hm hx hR;have hm:i=c.cells.length:=by omega
  subst hm hx;have Ao:=W.len;have hr:=R.1;have r1:AL ((c.cells.length:Int)-1):=As.2 ⟨by omega,by omega⟩;have r2:AL ((c.runs.length:Int)-1):=As.2 ⟨by omega,by omega⟩;have hL:MY c pos lost 0 lost:=⟨⟨hl,fun j s=>⟨.inl,fun h=>h.elim id fun ⟨a,h1,_,_,h2,_⟩=>absurd h2 (by omega)⟩⟩,Ef⟩
  by_cases h0:0<c.runs.length
  ·have t1:(((c.runs.length:Nat):Int)-1).toNat=c.runs.length-1:=by omega
   refine Ae.step 1 (g:=fun n=>BO c q pos pos.length lost n (.l4 ((c.cells.length:Int)-1) lost o3 (CN [((c.runs.length:Int)-1),c.runs.getD (c.runs.length-1) 0] (CN [(c.runs.length:Int),0] ([]:KS))))) (fun n=>?_) (nr W R hR c.cells.length 0 _ _ _ (by omega) rfl hL fun x=>?_)
   ·show M1 n (BO c q pos pos.length lost n) c q pos pos.length lost (c.cells.length:Int) lost o3=_
    unfold M1;rw [zAC (by omega),zAH,zAJ (by omega),zAI,zAE ⟨r2,⟨by omega,by omega⟩,r1⟩,t1]
   ·rw [NS,NS];constructor
    ·rintro (rfl | rfl | h)
     ·exact ⟨((c.runs.length:Int)-1,c.runs.getD (c.runs.length-1) 0),rfl,.inr ⟨h0,rfl⟩⟩
     ·exact ⟨((c.runs.length:Int),0),rfl,.inl rfl⟩
     ·cases h
    ·rintro ⟨t,rfl,rfl | ⟨_,rfl⟩⟩
     ·exact .inr (.inl rfl)
     ·exact .inl rfl
  ·have h0':c.runs.length=0:=by omega
   refine Ae.step 1 (g:=fun n=>BO c q pos pos.length lost n (.l4 ((c.cells.length:Int)-1) lost o3 (CN [(c.runs.length:Int),0] ([]:KS)))) (fun n=>?_) (nr W R hR c.cells.length 0 _ _ _ (by omega) rfl hL fun x=>?_)
   ·show M1 n (BO c q pos pos.length lost n) c q pos pos.length lost (c.cells.length:Int) lost o3=_
    unfold M1;rw [zAC (by omega),zAH,zAC (by omega),zAH,zAE r1]
   ·rw [NS];constructor
    ·rintro (rfl | h)
     ·exact ⟨((c.runs.length:Int),0),rfl,.inl rfl⟩
     ·cases h
    ·rintro ⟨t,rfl,rfl | ⟨h,rfl⟩⟩
     ·exact .inl rfl
     ·exact absurd h h0
 | succ m ih=>
  intro i At o3 hm hx hR;subst hx;have hi:i<c.cells.length:=by omega
  have hs:=hR.isSome i (by omega);have Ao:=hR.len;have t1:((((c.cells.length:Nat):Int)+1).toNat:Nat)=c.cells.length+1:=by omega
  have t2:0+((i:Int).toNat:Nat)=i:=by omega
  refine Ae.step 1 (g:=fun n=>BO c q pos pos.length lost n (.l8 i i lost o3 i (Fk o3 i) [])) (fun n=>?_) (vV W R rfl (fun o3 h=>ih (i+1) _ o3 (by omega) (by omega) h) _ _ _ _ rfl (hR.mid hi))
  show M1 n (BO c q pos pos.length lost n) c q pos pos.length lost (i:Int) lost o3=_
  unfold M1;simp only [t1,t2];rw [zAJ (by omega),zAI,zAE hs,zAE ⟨⟨by omega,by omega⟩,by omega,hs⟩];exact wZ
theorem zBd (W:C2 c k pos) (R:H8 c) (hl:lost.length=pos.length) (Ef: ∀ j,CF (lost.getD j 0)):
 ∀ (m j:Nat) (E6:Int) (o3:List (Option KS)),j+m=c.cells.length+1 -> E6=(j:Int) -> o3.length=c.cells.length+1 -> (∀ i,i<j -> o3.getD i none=some []) -> Ae (fun n=>BO c q pos pos.length lost n (.l1 E6 o3)) (Hb c pos lost):=by
 intro m
 induction m with
 | zero=>
  intro j E6 o3 hm hx Ao ho;subst hx;have t1:((((c.cells.length:Nat):Int)+1).toNat:Nat)=c.cells.length+1:=by omega
  have hs:(o3.getD 0 none).isSome=true:=by rw [ho 0 (by omega)];rfl
  have e0:(o3.getD 0 none).getD []= []:=by rw [ho 0 (by omega)];rfl
  have hg: ∀ i,i≠0 -> (o3.set 0 (some (CN [0,0] ([]:KS)))).getD i none=o3.getD i none:=fun i hi=>bu (fun e=>hi e.symm)
  have Wi:(o3.set 0 (some (CN [0,0] ([]:KS)))).getD 0 none=some (CN [0,0] []):=Wv (by omega);refine Ae.step 1 (g:=fun n=>BO c q pos pos.length lost n (.l2 0 lost (o3.set 0 (some (CN [0,0] ([]:KS)))))) (fun n=>?_) (zBK W R hl Ef c.cells.length 0 0 _ (by omega) rfl ⟨by rw [zAn];exact Ao,fun i hi=>?_,fun i hi x=>?_,fun i hi Eg=>?_⟩)
  ·show RE n (BO c q pos pos.length lost n) c q pos pos.length lost (j:Int) o3=_
   unfold RE;simp only [t1,zAs];rw [zAC (by omega),zAH,zAE ⟨⟨by omega,by omega⟩,by omega,hs⟩,e0]
  ·by_cases e:i=0
   ·subst e;rw [Wi];rfl
   ·rw [hg i e,ho i (by omega)];rfl
  ·obtain rfl:i=0:=by omega
   show x∈((o3.set 0 (some (CN [0,0] ([]:KS)))).getD 0 none).getD []↔_
   rw [Wi]
   show x∈CN [0,0] []↔_
   rw [NS];constructor
   ·rintro (rfl | h)
    ·exact ⟨(0,0),rfl,rfl⟩
    ·cases h
   ·rintro ⟨t,rfl,h⟩;have h:t=(0,0):=h;subst h;exact .inl rfl
  ·show ((o3.set 0 (some (CN [0,0] ([]:KS)))).getD i none).getD []= []
   rw [hg i (by omega),ho i (by omega)];rfl
 | succ m ih=>
  intro j E6 o3 hm hx Ao ho;subst hx;have zAA:=W.len;have t1:((((c.cells.length:Nat):Int)+1).toNat:Nat)=c.cells.length+1:=by omega
  have t2:0+((j:Int).toNat:Nat)=j:=by omega
  refine Ae.step 1 (g:=fun n=>BO c q pos pos.length lost n (.l1 ((j:Int)+1) (o3.set j (some ([]:KS))))) (fun n=>?_) (ih (j+1) _ _ (by omega) (by omega) (by rw [zAn];exact Ao) fun i hi=>?_)
  ·show RE n (BO c q pos pos.length lost n) c q pos pos.length lost (j:Int) o3=_
   unfold RE;simp only [t1,t2];rw [zAJ (by omega),zAI,zAE ⟨⟨by omega,by omega⟩,by omega,As.2 ⟨by omega,by omega⟩⟩]
  ·by_cases e:i=j
   ·subst e;exact Wv (by omega)
   ·rw [bu (fun h=>e h.symm)];exact ho i (by omega)
def LO (c:AC):Bool:=(c.cells.length != 0)||(c.runs.length==0)
theorem sJ (W:C2 c k pos) (R:H8 c) (hl:lost.length=pos.length) (Ef: ∀ j,CF (lost.getD j 0)):
 ∃ l,Ev (fun n=>Ov n c q pos pos.length lost) (LO c,l)/\ (LO c=true -> B3 c pos lost c.cells.length (M4 c pos) l):=by
 by_cases h0:c.cells.length=0
 ·have e1:LO c=((c.runs.length:Int)==0):=by
   unfold LO;rw [h0];cases h:c.runs.length with
   | zero=>rfl
   | succ m=>rfl
  refine ⟨lost,Ev.now fun n=>?_,fun _=>by rw [h0];exact B3.zero hl⟩;unfold Ov Yw;rw [h0,e1];rfl
 ·have e1:LO c=true:=by
   unfold LO;cases h:c.cells.length with
   | zero=>exact absurd h h0
   | succ m=>rfl
  have Ao:=W.len;have t1:((((c.cells.length:Nat):Int)+1).toNat:Nat)=c.cells.length+1:=by omega
  obtain ⟨r,h1,h2⟩:=(zBd (q:=q) W R hl Ef (c.cells.length+1) 0 0 (List.replicate (c.cells.length+1) none) (by omega) rfl (by simp) (fun i hi=>absurd hi (zAo i))).ev Hb.uniq;obtain ⟨b,l⟩:=r;obtain ⟨h3,h4,h5⟩:=h1;have h3:b=true:=h3;subst h3;refine ⟨l,?_,fun _=>h4⟩;rw [e1];refine h2.eq fun n=>?_
  unfold Ov Yw;rw [t1]
  have e2:(((c.cells.length:Nat):Int)==0)=false:=by
   rw [zBj];omega
  rw [e2,zAH,zAE ⟨As.2 ⟨by omega,by omega⟩,rfl,by omega,by omega⟩]
end
end Go.Proofs.YtkjbblkieglmlaaGreatDoor
namespace Go.Proofs.YtkjbblkieglmlaaGreatDoor
abbrev zEP:=@List.take_succ_eq_append_getElem
end Go.Proofs.YtkjbblkieglmlaaGreatDoor
namespace Go.Proofs.YtkjbblkieglmlaaGreatDoor
open Go.RowKit
section
variable {c:AC} {k:Nat} {pos lost:List Int} {q:AA}
structure HZ (c:AC) (q:AA) (pos:List Int):Prop where
 len:c.cells.length=pos.length
 id: ∀ j,j<pos.length -> c.cells.getD j 0=(j:Int)
 g:IA q.nbrs
 gl:q.nbrs.length=pos.length
 l0:0<pos.length
 l1:pos.length<=256
 nz: ∀ j,j<pos.length -> CF (pos.getD j 0)/\ pos.getD j 0≠0
def pB (c:AC) (pos:List Int):List Bool:=pos.map fun x=>bits .and .i64 x c.set != 0
def cB (c:AC) (pos:List Int):List Bool:=pos.map fun x=>bits .andNot .i64 x c.set==0
theorem GH:(pB c pos).length=pos.length:=zAq _
theorem Gx:(cB c pos).length=pos.length:=zAq _
theorem i8 {j:Nat} (hj:j<pos.length):(pB c pos).getD j false=(bits .and .i64 (pos.getD j 0) c.set != 0):=by
 unfold pB;rw [u8,zA1,zAM hj,u8,zAM hj];rfl
theorem nX {j:Nat} (hj:j<pos.length):(cB c pos).getD j false=(bits .andNot .i64 (pos.getD j 0) c.set==0):=by
 unfold cB;rw [u8,zA1,zAM hj,u8,zAM hj];rfl
theorem HZ.cp (W:HZ c q pos) {j:Nat} (hj:j<pos.length) (h:(cB c pos).getD j false=true):(pB c pos).getD j false=true:=by
 rw [nX hj,zDu] at h;rw [i8 hj,zEy];obtain ⟨h1,h2⟩:=W.nz j hj;obtain ⟨s,hs,hb⟩:=(Qi h1).1 h2;have h3:=(Ug (Ks .andNot _ _)).1 h s hs;rw [Uh,hb,zD9,Bool.not_eq_false'] at h3;exact (Qi (Ks .and _ _)).2 ⟨s,hs,by rw [Ok,hb,h3];rfl⟩
def CU (pos lost:List Int) (D:Nat -> Nat -> Prop) (l:List Int):Prop:=
 (l.length=pos.length/\ ∀ j,CF (l.getD j 0))/\ ∀ j s,tb (l.getD j 0) s=true↔tb (lost.getD j 0) s=true∨(j<pos.length/\ tb (pos.getD j 0) s=true/\ D j s)
theorem CU.unique {D:Nat -> Nat -> Prop} {l l':List Int} (h:CU pos lost D l) (h':CU pos lost D l'):l=l':=by
 have e:l.length=l'.length:=h.1.1.trans h'.1.1.symm;refine zFX e fun j h1 h2=>?_
 have e1:l.getD j 0=l[j]:=by simp [h1]
 have e2:l'.getD j 0=l'[j]:=by simp [h2]
 rw [←e1,←e2];refine Qj (h.1.2 j) (h'.1.2 j) fun s _=>?_
 rw [zEi,h.2,h'.2]
theorem CU.by {D:Nat -> Nat -> Prop} {l:List Int} (W:HZ c q pos) (h:CU pos lost D l):B3 c pos lost c.cells.length D l:=by
 refine ⟨h.1.1,fun j s=>?_⟩;have hl:=W.len;rw [h.2];constructor
 ·rintro (h1 | ⟨h1,h2,h3⟩)
  ·exact .inl h1
  ·have e:=W.id j h1;exact .inr ⟨j,by omega,by rw [e];omega,by show tb (pos.getD (c.cells.getD j 0).toNat 0) s=true;rw [e,zAL];exact h2,h3⟩
 ·rintro (h1 | ⟨a,h1,h2,h3,h4⟩)
  ·exact .inl h1
  ·have e:=W.id a (by omega);have h3:tb (pos.getD (c.cells.getD a 0).toNat 0) s=true:=h3;rw [e,zAL] at h2 h3;subst h2;exact .inr ⟨by omega,h3,h4⟩
theorem CU.step {D D':Nat -> Nat -> Prop} {l l':List Int} (h:CU pos lost D l) (hl:l'.length=pos.length) (Ef: ∀ j,CF (l'.getD j 0)) {E:Nat -> Nat -> Prop} (h1: ∀ j s,tb (l'.getD j 0) s=true↔tb (l.getD j 0) s=true∨(j<pos.length/\ tb (pos.getD j 0) s=true/\ E j s))
 (hD: ∀ j s,j<pos.length -> tb (pos.getD j 0) s=true -> (D' j s↔D j s∨E j s)):CU pos lost D' l':=by
 refine ⟨⟨hl,Ef⟩,fun j s=>?_⟩;rw [h1,h.2];constructor
 ·rintro ((h2 | ⟨h2,h3,h4⟩) | ⟨h2,h3,h4⟩)
  ·exact .inl h2
  ·exact .inr ⟨h2,h3,(hD j s h2 h3).2 (.inl h4)⟩
  ·exact .inr ⟨h2,h3,(hD j s h2 h3).2 (.inr h4)⟩
 ·rintro (h2 | ⟨h2,h3,h4⟩)
  ·exact .inl (.inl h2)
  ·rcases (hD j s h2 h3).1 h4 with h5 | h5
   ·exact .inl (.inr ⟨h2,h3,h5⟩)
   ·exact .inr ⟨h2,h3,h5⟩
theorem CU.id' {D D':Nat -> Nat -> Prop} {l:List Int} (h:CU pos lost D l) (hD: ∀ j s,j<pos.length -> tb (pos.getD j 0) s=true -> (D' j s↔D j s)):CU pos lost D' l:=
 h.step (E:=fun _ _=>False) h.1.1 h.1.2 (fun j s=>by simp) fun j s h1 h2=>by rw [hD j s h1 h2,or_false]
theorem CU.lose {D D':Nat -> Nat -> Prop} {l:List Int} (h:CU pos lost D l) {cell ss:Int} (h0:0<=cell) (h1:cell<(pos.length:Int)) (hD: ∀ j s,j<pos.length -> tb (pos.getD j 0) s=true -> (D' j s↔D j s∨((j:Int)=cell/\ tb ss s=true))):
 ∃ l',(∀ n,DU n cell ss c q pos pos.length l=some l')/\ CU pos lost D' l':=by
 obtain ⟨l',e,h2,h3,h4⟩:=jf (ss:=ss) (c:=c) (q:=q) h0 h1 h.1.1 h.1.2;refine ⟨l',e,h.step h2 h3 (E:=fun j s=>(j:Int)=cell/\ tb ss s=true) (fun j s=>?_) hD⟩;rw [h4,zAz,zAN,zAN,zAv];constructor
 ·rintro (h5 | ⟨rfl,h5,h6⟩)
  ·exact .inl h5
  ·exact .inr ⟨by omega,h5,by omega,h6⟩
 ·rintro (h5 | ⟨h5,h6,h7,h8⟩)
  ·exact .inl h5
  ·exact .inr ⟨by omega,h6,h8⟩
theorem CU.only {D D':Nat -> Nat -> Prop} {l:List Int} (h:CU pos lost D l) {cell:Int} (h0:0<=cell) (h1:cell<(pos.length:Int)) (hD: ∀ j s,j<pos.length -> tb (pos.getD j 0) s=true -> (D' j s↔D j s∨((j:Int)=cell/\ tb c.set s=false))):
 ∃ l',(∀ n,GI n cell c q pos pos.length l=some l')/\ CU pos lost D' l':=by
 obtain ⟨l',e,h2,h3,h4⟩:=Zg (c:=c) (q:=q) h0 h1 h.1.1 h.1.2;refine ⟨l',e,h.step h2 h3 (E:=fun j s=>(j:Int)=cell/\ tb c.set s=false) (fun j s=>?_) hD⟩;rw [h4,zAz,zAN,zAN,zAv,zEO];constructor
 ·rintro (h5 | ⟨rfl,h5,h6⟩)
  ·exact .inl h5
  ·exact .inr ⟨by omega,h5,by omega,h6⟩
 ·rintro (h5 | ⟨h5,h6,h7,h8⟩)
  ·exact .inl h5
  ·exact .inr ⟨by omega,h6,h8⟩
def K0 (l:List Bool) (r:Int):Prop:=(r= -1/\ ∀ j,j<l.length -> l.getD j false=false)∨(0<=r/\ r<(l.length:Int)/\ l.getD r.toNat false=true/\ ∀ j:Nat,(j:Int)<r -> l.getD j false=false)
theorem aQ {l:List Bool} (hl:l.length<=256): ∃ r,Ev (fun n=>WN n l true) r/\ K0 l r:=by
 have key: ∀ (k i:Nat),i+k=l.length -> (∀ j,j<i -> l.getD j false=false) -> ∃ r,Ev (fun n=>KQ l true n (.l1 (i:Int))) r/\ K0 l r:=by
  intro k
  induction k with
  | zero=>
   intro i e h;refine ⟨-1,⟨1,fun n hn=>?_⟩,.inl ⟨rfl,fun j hj=>h j (by omega)⟩⟩;obtain ⟨n,rfl⟩: ∃ k,n=k+1:=⟨n-1,by omega⟩
   show Sk n (KQ l true n) l true (i:Int)=_
   unfold Sk;rw [zAC (by omega),zAH]
  | succ k ih=>
   intro i e h
   have U: ∀ n,KQ l true (n+1) (.l1 (i:Int))=bif l.getD i false then some (i:Int) else KQ l true n (.l1 ((i:Int)+1)):=fun n=>by
    show Sk n (KQ l true n) l true (i:Int)=_
    unfold Sk;rw [zAJ (by omega),zAI,zAE ⟨by omega,by omega⟩,zAL,zAE (As.2 ⟨by omega,by omega⟩)];cases l.getD i false <;> rfl
   cases hi:l.getD i false
   ·obtain ⟨r,h1,h2⟩:=ih (i+1) (by omega) fun j hj=>by
     rcases zAc.1 hj with hj | rfl
     ·exact h j hj
     ·exact hi
    refine ⟨r,Ev.step 1 (fun n=>?_) h1,h2⟩;rw [U,hi,zAH];rfl
   ·refine ⟨(i:Int),⟨1,fun n hn=>?_⟩,.inr ⟨by omega,by omega,by rw [zAL];exact hi,fun j hj=>h j (by omega)⟩⟩;obtain ⟨n,rfl⟩: ∃ k,n=k+1:=⟨n-1,by omega⟩
    show KQ l true (n+1) (.l1 (i:Int))=_
    rw [U,hi,zAI]
 exact key l.length 0 (by omega) fun j hj=>absurd hj (zAo j)
theorem mh {l l':List Bool} (h:l.length=l'.length) (h2: ∀ j,j<l.length -> l.getD j false=l'.getD j false):l=l':=by
 refine zFX h fun j h3 h4=>?_
 have:=h2 j h3
 rwa [u8,zAM h3,u8,zAM h4] at this
theorem cu {l:List Bool} {i j:Nat} {b:Bool} (hi:i<l.length):(l.set i b).getD j false=if j=i then b else l.getD j false:=by
 by_cases e:j=i
 ·subst e;rw [zAE rfl,u8,zEJ hi];rfl
 ·rw [zAU e,u8,zEF (fun h=>e h.symm),←u8]
def Ih (c:AC) (q:AA) (pos:List Int) (a s:Nat):Prop:=(pB c pos).getD a false=true/\ tb c.set s=true/\ ∃ r:Int,0<=r/\ K0 (cB c pos) r/\ ¬ Rc q.nbrs (pB c pos) r a
theorem K0.uniq {l:List Bool} {r r':Int} (h:K0 l r) (h':K0 l r'):r=r':=by
 rcases h with ⟨rfl,h⟩ | ⟨h0,h1,h2,h3⟩ <;> rcases h' with ⟨rfl,h'⟩ | ⟨h0',Kj,L6,bk⟩
 ·rfl
 ·rw [h r'.toNat (by omega)] at L6;cases L6
 ·rw [h' r.toNat (by omega)] at h2;cases h2
 ·rcases Int.lt_trichotomy r r' with h4 | h4 | h4
  ·rw [bk r.toNat (by omega)] at h2;cases h2
  ·exact h4
  ·rw [h3 r'.toNat (by omega)] at L6;cases L6
theorem du (G:IA q.nbrs) (hB:(pB c pos).length=q.nbrs.length) {r:Int} (Et:0<=r) (hF:K0 (cB c pos) r) {j s:Nat}:Ih c q pos j s↔(pB c pos).getD j false=true/\ tb c.set s=true/\ ¬ Rc q.nbrs (pB c pos) r j:=by
 constructor
 ·rintro ⟨h1,h2,r',_,hF',h3⟩;rw [hF.uniq hF'];exact ⟨h1,h2,h3⟩
 ·rintro ⟨h1,h2,h3⟩;exact ⟨h1,h2,r,Et,hF,h3⟩
def QX (c:AC) (q:AA) (pos lost:List Int) (r:Int) (x:List Bool×List Bool×Bool×List Int):Prop:=x.1=pB c pos/\ x.2.1=cB c pos/\ x.2.2.1=decide (0<=r)/\ CU pos lost (Ih c q pos) x.2.2.2
theorem QX.uniq {r:Int} (x y:List Bool×List Bool×Bool×List Int) (h:QX c q pos lost r x) (h':QX c q pos lost r y):x=y:=by
 obtain ⟨x1,x2,x3,x4⟩:=x;obtain ⟨y1,y2,y3,y4⟩:=y;obtain ⟨h1,h2,h3,h4⟩:=h;obtain ⟨Kj,L6,bk,Wr⟩:=h';have e4:x4=y4:=h4.unique Wr;have e1:x1=y1:=Eq.trans h1 Kj.symm;have e2:x2=y2:=Eq.trans h2 L6.symm;have e3:x3=y3:=Eq.trans h3 bk.symm;rw [e1,e2,e3,e4]
theorem vB {n:Nat} (W:HZ c q pos) (hL:CU pos lost (fun _ _=>False) lost) {r:Int} (Et:0<=r) (hF:K0 (cB c pos) r) {near:List Int} (hn:near.length<=256) (Sz: ∀ v,v∈near↔Rc q.nbrs (pB c pos) r v) (lR:600<=n):
 ∃ x,Ed c q pos pos.length lost n (.l2 (pB c pos) (pB c pos).length near (near.length:Int) 0 (cB c pos) (pB c pos))=some x/\ QX c q pos lost r x:=by
 have Fd:=W.l1;have Gn:=W.gl
 have JL:r<(q.nbrs.length:Int):=by
  rcases hF with ⟨h,_⟩ | ⟨_,h,_⟩
  ·omega
  ·rw [Gx] at h;omega
 have Pa: ∀ v∈near,0<=v/\ v<(pos.length:Int):=fun v hv=>by
  have:=((Sz v).1 hv).rng W.g.gr Et JL;omega
 have S:=HM (fun n (Fe:List Bool) i=>Ed c q pos pos.length lost n (.l2 (pB c pos) (pB c pos).length near (near.length:Int) i (cB c pos) Fe)) near.length (pos.length+3)
  (fun i Fe=>Fe.length=pos.length/\ ∀ j:Nat,Fe.getD j false=true↔(pB c pos).getD j false=true/\ (j:Int)∉near.take i) (fun n i Fe Gl hi hI=>?_) (n:=n) (s:=pB c pos) (by omega) ⟨GH,fun j=>by simp⟩
 ·obtain ⟨n1,Fe,GP,_,e1,hfl,lV⟩:=S;obtain ⟨n2,rfl⟩: ∃ n2,n1=n2+1:=⟨n1-1,by omega⟩;rw [List.take_length] at lV
  have T:=HM (fun n (o1:List Int) i=>Ed c q pos pos.length lost n (.l3 (pB c pos) (pB c pos).length ((pB c pos).length:Int) i o1 (cB c pos) Fe)) pos.length 1
   (fun i o1=>CU pos lost (fun j s=>j<i/\ Ih c q pos j s) o1) (fun n i o1 Gl hi hI=>?_) (n:=n2) (s:=lost) (by omega) (hL.id' fun j s _ _=>⟨fun h=>absurd h.1 (zAo j),fun h=>h.elim⟩)
  ·obtain ⟨n3,o1,Lu,_,e2,Kh⟩:=T;obtain ⟨n4,rfl⟩: ∃ n4,n3=n4+1:=⟨n3-1,by omega⟩;refine ⟨(pB c pos,cB c pos,true,o1),?_,rfl,rfl,(zAJ Et).symm,Kh.id' fun j s hj _=>⟨fun h=>⟨hj,h⟩,fun h=>h.2⟩⟩;refine Eq.trans e1 ?_
   show SC n2 (Ed c q pos pos.length lost n2) c q pos pos.length lost (pB c pos) (pB c pos).length near (near.length:Int) (near.length:Int) (cB c pos) Fe=_
   unfold SC;rw [zAC (by omega),zAH];refine Eq.trans e2 ?_
   show SB n4 (Ed c q pos pos.length lost n4) c q pos pos.length lost (pB c pos) (pB c pos).length ((pB c pos).length:Int) (pos.length:Int) o1 (cB c pos) Fe=_
   unfold SB;rw [GH,zAC (by omega),zAH,zAE Gx.symm]
  ·show ∃ s',SB n (Ed c q pos pos.length lost n) c q pos pos.length lost (pB c pos) (pB c pos).length ((pB c pos).length:Int) (i:Int) o1 (cB c pos) Fe=_/\ _
   unfold SB;simp only [zAL,zAs];have r1:AL ((i:Int)+1):=As.2 ⟨by omega,by omega⟩;rw [GH,zAJ (by omega),zAI,zAE ⟨⟨by omega,by omega⟩,by omega⟩];have lU:Fe.getD i false=true↔(pB c pos).getD i false=true/\ ¬ Rc q.nbrs (pB c pos) r i:=by rw [lV,Sz]
   cases hf:Fe.getD i false
   ·rw [zAH,zAE r1];refine ⟨o1,rfl,hI.id' fun j s hj _=>⟨fun h=>⟨?_,h.2⟩,fun h=>⟨by omega,h.2⟩⟩⟩;rcases zAc.1 h.1 with h1 | rfl
    ·exact h1
    ·have h2:=(du W.g (by rw [GH];exact Gn.symm) Et hF).1 h.2;have:=lU.2 ⟨h2.1,h2.2.2⟩;rw [hf] at this;cases this
   ·obtain ⟨l',e,h2⟩:=hI.lose (c:=c) (q:=q) (D':=fun j s=>j<i+1/\ Ih c q pos j s) (cell:=(i:Int)) (ss:=c.set) (by omega) (by omega) fun j s hj _=>by
     constructor
     ·rintro ⟨h1,h2⟩;rcases zAc.1 h1 with h1 | rfl
      ·exact .inl ⟨h1,h2⟩
      ·exact .inr ⟨rfl,h2.2.1⟩
     ·rintro (⟨h1,h2⟩ | ⟨h1,h2⟩)
      ·exact ⟨by omega,h2⟩
      ·obtain rfl:j=i:=by omega
       have h3:=lU.1 hf;exact ⟨by omega,(du W.g (by rw [GH];exact Gn.symm) Et hF).2 ⟨h3.1,h2,h3.2⟩⟩
    rw [zAI,e,zAF,zAE r1];exact ⟨l',rfl,h2⟩
 ·obtain ⟨hl,hf⟩:=hI;have hx:near.getD i 0∈near:=by rw [u8,zAM hi];exact zA7 hi
  have Hu:=Pa _ hx
  show ∃ s',SC n (Ed c q pos pos.length lost n) c q pos pos.length lost (pB c pos) (pB c pos).length near (near.length:Int) (i:Int) (cB c pos) Fe=_/\ _
  unfold SC;simp only [zAL,zAs];rw [GH,zAJ (by omega),zAI,zAE ⟨⟨by omega,by omega⟩,Hu,by omega,As.2 ⟨by omega,by omega⟩⟩];refine ⟨_,rfl,by rw [zAn];exact hl,fun j=>?_⟩
  have e3:near.take (i+1)=near.take i++[near.getD i 0]:=by
   rw [zEP hi,u8,zAM hi];rfl
  rw [cu (by omega),e3,zD5,zAu]
  by_cases e:j=(near.getD i 0).toNat
  ·rw [zAE e];exact ⟨fun h=>(by cases h),fun h=>absurd (Or.inr (by omega)) h.2⟩
  ·rw [zAU e,hf];exact ⟨fun h=>⟨h.1,fun h2=>h2.elim h.2 fun h3=>e (by omega)⟩,fun h=>⟨h.1,fun h2=>h.2 (.inl h2)⟩⟩
theorem jI (W:HZ c q pos) (hL:CU pos lost (fun _ _=>False) lost) {r:Int} (hF:K0 (cB c pos) r):
 ∃ l,Ev (fun n=>NQ n c q pos pos.length lost) (pB c pos,cB c pos,decide (0<=r),l)/\ CU pos lost (Ih c q pos) l:=by
 have Fd:=W.l1;have Gn:=W.gl;have Ao:=W.len;have L:(1000000000000:Nat)=BA:=rfl
 suffices H:Ae (fun n=>NQ n c q pos pos.length lost) (QX c q pos lost r) by
  obtain ⟨x,h1,h2⟩:=H.ev QX.uniq;obtain ⟨x1,x2,x3,x4⟩:=x;obtain ⟨h3,h4,h5,h6⟩:=h1;have h3:x1=pB c pos:=h3;have h4:x2=cB c pos:=h4;have h5:x3=decide (0<=r):=h5;subst h3 h4 h5;exact ⟨x4,h2,h6⟩
 have first: ∀ n,Ed c q pos pos.length lost (n+c.cells.length) (.l1 0 (List.replicate pos.length false) (List.replicate pos.length false))=Ed c q pos pos.length lost n (.l1 (c.cells.length:Int) (pB c pos) (cB c pos)):=fun n=>by
  have z: ∀ j:Nat,(List.replicate pos.length false).getD j false=false:=fun j=>by
   rw [u8,zEA];split <;> rfl
  obtain ⟨s',e,h1,h2,h3,h4⟩:=Vw (fun n (s:List Bool×List Bool) i=>Ed c q pos pos.length lost n (.l1 i s.1 s.2)) c.cells.length 0
   (fun i s=>s.1.length=pos.length/\ s.2.length=pos.length/\ (∀ j,s.1.getD j false=if j<i then (pB c pos).getD j false else false)/\ (∀ j,s.2.getD j false=if j<i then (cB c pos).getD j false else false))
   (fun n i s _ hi hI=>by
    obtain ⟨o2,o3⟩:=s;obtain ⟨h1,h2,h3,h4⟩:=hI;have h1:o2.length=pos.length:=h1;have h2:o3.length=pos.length:=h2;have hid:=W.id i (by omega)
    show ∃ s',SD n (Ed c q pos pos.length lost n) c q pos pos.length lost (i:Int) o2 o3=_/\ _
    unfold SD;simp only [zAL,zAs,hid];rw [zAJ (by omega),zAI,zAE ⟨⟨by omega,by omega⟩,⟨by omega,by omega⟩,by omega,by omega,As.2 ⟨by omega,by omega⟩⟩];refine ⟨(_,_),rfl,by rw [zAn];exact h1,by rw [zAn];exact h2,fun j=>?_,fun j=>?_⟩
    ·show (o2.set i _).getD j false=_
     rw [cu (by omega)]
     by_cases e:j=i
     ·subst e;rw [zAE rfl,zAE (by omega),i8 (by omega)]
     ·have h3:o2.getD j false=_:=h3 j;rw [zAU e,h3]
      by_cases e2:j<i
      ·rw [zAE e2,zAE (by omega)]
      ·rw [zAU e2,zAU (by omega)]
    ·show (o3.set i _).getD j false=_
     rw [cu (by omega)]
     by_cases e:j=i
     ·subst e;rw [zAE rfl,zAE (by omega),nX (by omega)]
     ·have h4:o3.getD j false=_:=h4 j;rw [zAU e,h4]
      by_cases e2:j<i
      ·rw [zAE e2,zAE (by omega)]
      ·rw [zAU e2,zAU (by omega)])
   c.cells.length 0 n (List.replicate pos.length false,List.replicate pos.length false) (by omega) (by omega) ⟨zAl,zAl,fun j=>by rw [zAU (by omega)];exact z j,fun j=>by rw [zAU (by omega)];exact z j⟩
  obtain ⟨o2,o3⟩:=s';have h1:o2.length=pos.length:=h1;have h2:o3.length=pos.length:=h2
  have e2:o2=pB c pos:=mh (by rw [h1,GH]) fun j hj=>by
   have h3:o2.getD j false=_:=h3 j;rw [h3,zAE (by omega)]
  have e3:o3=cB c pos:=mh (by rw [h2,Gx]) fun j hj=>by
   have h4:o3.getD j false=_:=h4 j;rw [h4,zAE (by omega)]
  rw [←e2,←e3];exact e
 have start: ∀ n,NQ n c q pos pos.length lost=Ed c q pos pos.length lost n (.l1 0 (List.replicate pos.length false) (List.replicate pos.length false)):=fun n=>by
  unfold NQ jK;rw [zAE ⟨rfl,by omega,by omega⟩]
 refine Ae.eq (Ae.step (c.cells.length+1) (g:=fun n=>(WN n (cB c pos) true).bind fun y1=>bif (decide (y1<0)) then (if pos.length=(pB c pos).length then some (pB c pos,cB c pos,false,lost) else none) else (if pos.length=(pB c pos).length then (ON n (pB c pos)).bind fun y2=>(QJ n q.nbrs (pB c pos) y1).bind fun y3=>Ed c q pos pos.length lost n (.l2 (pB c pos) y2.length y3.1 (y3.1.length:Int) 0 (cB c pos) y2) else none)) (fun n=>?_) ?_) start
 ·rw [show n+(c.cells.length+1)=n+1+c.cells.length by omega,first]
  show SD n (Ed c q pos pos.length lost n) c q pos pos.length lost (c.cells.length:Int) (pB c pos) (cB c pos)=_
  unfold SD;rw [zAC (by omega),zAH,zAE Gx.symm]
 ·obtain ⟨r',h1,h2⟩:=aQ (l:=cB c pos) (by rw [Gx];exact Fd);obtain rfl:=hF.uniq h2;refine Ae.bind h1 ?_
  by_cases Et:0<=r
  ·have A2: ∀ n,ON n (pB c pos)=some (pB c pos):=fun n=>by
    have h0:=W.l0;have h3:=GH (c:=c) (pos:=pos);unfold ON cg;rw [zAE ⟨by omega,trivial,⟨rfl,rfl⟩,by rw [←L];simp only [zEE];omega⟩,zAE (by simp)];rfl
   obtain ⟨JL,yU⟩:r<(pos.length:Int)/\ (cB c pos).getD r.toNat false=true:=by
    rcases hF with ⟨h,_⟩ | ⟨_,h,h',_⟩
    ·omega
    ·rw [Gx] at h;exact ⟨h,h'⟩
   have yW:=W.cp (by omega) yU;refine Ae.eq (Ae.bindU (zCp W.g (by rw [GH];exact Gn.symm) Et (by omega) yW) (b:=fun n y3=>Ed c q pos pos.length lost n (.l2 (pB c pos) (pB c pos).length y3.1 (y3.1.length:Int) 0 (cB c pos) (pB c pos))) ⟨600,fun n hn x hx=>vB W hL Et hF hx.2.1 hx.2.2 hn⟩) fun n=>?_
   rw [zAC (by omega),zAH,zAE GH.symm,A2,zAF]
  ·refine Ev.p (r:=(pB c pos,cB c pos,false,lost)) (Ev.now fun n=>?_) ⟨rfl,rfl,(zAC Et).symm,hL.id' fun j s _ _=>⟨fun h=>?_,fun h=>h.elim⟩⟩
   ·rw [zAJ (by omega),zAI,zAE GH.symm]
   ·obtain ⟨_,_,r',h3,h4,_⟩:=h;rw [hF.uniq h4] at Et;exact Et h3
def OK (c:AC) (q:AA) (pos:List Int) (a s:Nat):Prop:=Ih c q pos a s∨((pB c pos).getD a false=true/\ (cB c pos).getD a false=false/\ Sp q.nbrs (pB c pos) (cB c pos) (a:Int)/\ tb c.set s=false)
theorem zCe (W:HZ c q pos) (hL:CU pos lost (fun _ _=>False) lost): ∃ l,Ev (fun n=>XY n c q pos pos.length lost) (true,l)/\ CU pos lost (OK c q pos) l:=by
 have Fd:=W.l1;have Gn:=W.gl;obtain ⟨r,_,hF⟩:=aQ (l:=cB c pos) (by rw [Gx];exact Fd);obtain ⟨l0,h1,h2⟩:=jI W hL hF
 suffices H:Ae (fun n=>MJ c q pos pos.length lost n (.l1 (pB c pos) (cB c pos) (decide (0<=r)) ((pB c pos).length:Int) 0 l0)) (fun x=>x.1=true/\ CU pos lost (OK c q pos) x.2) by
  obtain ⟨x,⟨h3,h4⟩,h5⟩:=(Ae.bind h1 (b:=fun n y1=>MJ c q pos pos.length lost n (.l1 y1.1 y1.2.1 y1.2.2.1 (y1.1.length:Int) 0 y1.2.2.2)) H).ev fun x y hx hy=>by
   obtain ⟨x1,x2⟩:=x;obtain ⟨y1,y2⟩:=y;have e1:x1=true:=hx.1;have e2:y1=true:=hy.1;have e3:x2=y2:=hx.2.unique hy.2;rw [e1,e2,e3]
  obtain ⟨x1,x2⟩:=x;have h3:x1=true:=h3;subst h3;exact ⟨x2,h5,h4⟩
 obtain ⟨N,hN⟩:=Ae.range (F:=fun (i:Nat) n=>if (pB c pos).getD i false=true then Mn n q.nbrs (pB c pos) (cB c pos) i else some (false,0)) (A:=fun i x=>(pB c pos).getD i false=true -> x.2=0/\ (x.1=true↔Sp q.nbrs (pB c pos) (cB c pos) i)) pos.length fun i hi=>by
  by_cases h:(pB c pos).getD i false=true
  ·refine ((pp W.g (by rw [GH];exact Gn.symm) (by rw [Gx];exact Gn.symm) (a:=i) (by omega) h).mono fun x hx _=>hx).eq fun n=>?_
   rw [zAE h]
  ·exact Ev.p (r:=(false,0)) (Ev.now fun n=>by rw [zAU h]) fun h'=>absurd h' h
 refine ⟨N+pos.length+1,fun n hn=>?_⟩
 have T:=HM (fun n (o1:List Int) i=>MJ c q pos pos.length lost n (.l1 (pB c pos) (cB c pos) (decide (0<=r)) ((pB c pos).length:Int) i o1)) pos.length (N+1)
  (fun i o1=>CU pos lost (fun a s=>Ih c q pos a s∨(a<i/\ OK c q pos a s)) o1) (fun n i o1 Gl hi hI=>?_) (n:=n) (s:=l0) (by omega) (h2.id' fun j s _ _=>⟨fun h=>h.elim id fun h=>absurd h.1 (zAo j),.inl⟩)
 ·obtain ⟨n3,o1,Lu,_,e2,Kh⟩:=T;obtain ⟨n4,rfl⟩: ∃ n4,n3=n4+1:=⟨n3-1,by omega⟩;refine ⟨(true,o1),Eq.trans e2 ?_,rfl,Kh.id' fun j s hj _=>⟨fun h=>.inr ⟨hj,h⟩,fun h=>h.elim .inl fun h=>h.2⟩⟩
  show Ty n4 (MJ c q pos pos.length lost n4) c q pos pos.length lost (pB c pos) (cB c pos) (decide (0<=r)) ((pB c pos).length:Int) (pos.length:Int) o1=_
  unfold Ty;rw [GH,zAC (p:=((pos.length:Nat):Int)<((pos.length:Nat):Int)) (by omega),zAH]
 ·show ∃ s',Ty n (MJ c q pos pos.length lost n) c q pos pos.length lost (pB c pos) (cB c pos) (decide (0<=r)) ((pB c pos).length:Int) (i:Int) o1=_/\ _
  unfold Ty;simp only [zAL];have r1:AL ((i:Int)+1):=As.2 ⟨by omega,by omega⟩;have lp:(pB c pos).length=pos.length:=GH;have lc:(cB c pos).length=pos.length:=Gx;rw [lp,lc,zAJ (p:=(i:Int)<((pos.length:Nat):Int)) (by omega),zAI]
  have skip:(∀ s,¬ ((pB c pos).getD i false=true/\ (cB c pos).getD i false=false/\ Sp q.nbrs (pB c pos) (cB c pos) (i:Int)/\ tb c.set s=false)) -> CU pos lost (fun a s=>Ih c q pos a s∨(a<i+1/\ OK c q pos a s)) o1:=fun GN=>hI.id' fun j s hj _=>by
   constructor
   ·rintro (h | ⟨h,h3⟩)
    ·exact .inl h
    ·rcases zAc.1 h with h | rfl
     ·exact .inr ⟨h,h3⟩
     ·exact h3.elim .inl fun h4=>absurd h4 (GN s)
   ·rintro (h | ⟨h,h3⟩)
    ·exact .inl h
    ·exact .inr ⟨by omega,h3⟩
  by_cases Et:0<=r
  ·rw [zAJ Et,zD7,zAH,zAE ⟨by omega,by omega⟩];cases hp:(pB c pos).getD i false
   ·rw [zEG,zAI,zAE r1];exact ⟨o1,rfl,skip fun s h=>by rw [hp] at h;cases h.1⟩
   ·rw [zD7,zAH,zAE ⟨by omega,by omega⟩];cases hc:(cB c pos).getD i false
    ·obtain ⟨x,e1,hx⟩:=hN n (by omega) i hi;have e1:(if (pB c pos).getD i false=true then Mn n q.nbrs (pB c pos) (cB c pos) i else some (false,0))=some x:=e1;rw [zAE hp] at e1;obtain ⟨_,hx⟩:=hx hp;rw [zAH,e1,zAF];cases hb:x.1
     ·rw [zAH,zAE r1];exact ⟨o1,rfl,skip fun s h=>by rw [hx.2 h.2.2.1] at hb;cases hb⟩
     ·obtain ⟨l',e,h3⟩:=hI.only (c:=c) (q:=q) (D':=fun a s=>Ih c q pos a s∨(a<i+1/\ OK c q pos a s)) (cell:=(i:Int)) (by omega) (by omega) fun j s hj _=>by
       constructor
       ·rintro (h | ⟨h,h3⟩)
        ·exact .inl (.inl h)
        ·rcases zAc.1 h with h | rfl
         ·exact .inl (.inr ⟨h,h3⟩)
         ·exact h3.elim (fun h=>.inl (.inl h)) fun h4=>.inr ⟨rfl,h4.2.2.2⟩
       ·rintro ((h | ⟨h,h3⟩) | ⟨h,h3⟩)
        ·exact .inl h
        ·exact .inr ⟨by omega,h3⟩
        ·obtain rfl:j=i:=by omega
         exact .inr ⟨by omega,.inr ⟨hp,hc,hx.1 hb,h3⟩⟩
      rw [zAI,e,zAF,zAE r1];exact ⟨l',rfl,h3⟩
    ·rw [zAI,zAE r1];exact ⟨o1,rfl,skip fun s h=>by rw [hc] at h;cases h.2.1⟩
  ·rw [zAC Et,zEG,zAI,zAE r1];refine ⟨o1,rfl,skip fun s h=>?_⟩;obtain ⟨hp,_,⟨u,v,_,_,h3,_,h4,_⟩,_⟩:=h;rcases hF with ⟨_,hF⟩ | ⟨h5,_⟩
   ·have:=h4.rng W.g.gr (by omega) (by omega);rw [hF u.toNat (by rw [Gx];omega)] at h3;cases h3
   ·exact Et h5
def DN (g:List (List Int)) (S:List Bool) (v:Int):Nat:=(nb g v).countP fun x=>S.getD x.toNat false
def Z6 (c:AC) (q:AA) (pos:List Int):Prop:=∀ v,v<pos.length -> (cB c pos).getD v false=true -> 2<=DN q.nbrs (pB c pos) v/\ DN q.nbrs (cB c pos) v<=2
def jS (c:AC) (q:AA) (pos:List Int) (v a s:Nat):Prop:=(cB c pos).getD v false=true/\ (a:Int)∈nb q.nbrs v/\ (pB c pos).getD a false=true/\ ((DN q.nbrs (pB c pos) v=2/\ tb c.set s=false)∨(DN q.nbrs (cB c pos) v=2/\ (cB c pos).getD a false=false/\ tb c.set s=true))
def jh (c:AC) (q:AA) (pos:List Int) (a s:Nat):Prop:=Ih c q pos a s∨∃ v,v<pos.length/\ jS c q pos v a s
section
variable {P C:List Bool} {o1:List Int} {row:List Int} {x20 x21:Int}
def JC (P:List Bool) (o2:List Int) (v:Int):List Int:=bif P.getD v.toNat false then o2++[v] else o2
def KF (C:List Bool) (x:Int) (v:Int):Int:=bif C.getD v.toNat false then x+1 else x
theorem jG: ∀ (l o2:List Int),l.foldl (JC P) o2=o2++l.filter fun x=>P.getD x.toNat false
 | [],o2=>by simp
 | v::l,o2=>by
  rw [zEt,jG l];unfold JC;cases h:P.getD v.toNat false
  ·rw [zAH,List.filter_cons_of_neg (by rw [h];decide)]
  ·rw [zAI,List.filter_cons_of_pos (p:=fun x=>P.getD (Int.toNat x) false) h,zE7];rfl
theorem jU: ∀ (l:List Int) (x:Int),l.foldl (KF C) x=x+(l.countP fun x=>C.getD x.toNat false:Nat)
 | [],x=>by simp
 | v::l,x=>by
  rw [zEt,jU l];unfold KF;cases h:C.getD v.toNat false
  ·rw [zAH,List.countP_cons_of_neg (by rw [h];decide)]
  ·rw [zAI,List.countP_cons_of_pos (p:=fun x=>C.getD (Int.toNat x) false) h];omega
def Ml (P C:List Bool) (x20 x21:Int) (row o1 o2:List Int) (x8 j:Int):Lg:=match o2 with
 | []=>.l2 P C x8 x20 x21 row (row.length:Int) j o1
 | a::l=>.l3 P C (a::l).length x8 x20 x21 row (row.length:Int) j o1 (a::l)
theorem fY {o2:List Int} {x8 j:Int} (h:o2≠[]):Ml P C x20 x21 row o1 o2 x8 j= .l3 P C o2.length x8 x20 x21 row (row.length:Int) j o1 o2:=by
 cases o2 with
 | nil=>exact absurd rfl h
 | cons a l=>rfl
theorem vP {n j:Nat} {x8:Int} {o2:List Int} (hP:P.length=pos.length) (hC:C.length=pos.length) (hr: ∀ u∈row,0<=u/\ u<(pos.length:Int)) (hl:row.length<=256) (hj:j<row.length) (ho:o2.length<=256) (h8:0<=x8/\ x8<=256):
 CY c q pos pos.length lost (n+1) (Ml P C x20 x21 row o1 o2 x8 j)=CY c q pos pos.length lost n (Ml P C x20 x21 row o1 (JC P o2 (row.getD j 0)) (KF C x8 (row.getD j 0)) ((j:Int)+1)):=by
 have L:(1000000000000:Nat)=BA:=rfl;have hx:row.getD j 0∈row:=by rw [u8,zAM hj];exact zA7 hj
 have Hu:=hr _ hx;have r1:AL ((j:Int)+1):=As.2 ⟨by omega,by omega⟩;have r8:AL (x8+1):=As.2 ⟨by omega,by omega⟩;cases o2 with
 | nil=>
  show SN n (CY c q pos pos.length lost n) c q pos pos.length lost P C x8 x20 x21 row (row.length:Int) (j:Int) o1=_
  unfold SN JC KF;simp only [zAL];rw [zAJ (by omega),zAI,zAE ⟨⟨by omega,by omega⟩,by omega,by omega⟩];cases hp:P.getD (row.getD j 0).toNat false <;> cases hc:C.getD (row.getD j 0).toNat false
  ·rw [zAH,zAH,zAH,zAE ⟨by omega,by omega⟩,zAH,zAE r1];rfl
  ·rw [zAH,zAH,zAI,zAE ⟨by omega,by omega⟩,zAI,zAE ⟨r8,r1⟩];rfl
  ·rw [zAI,zAI,zAH,zAE ⟨⟨⟨trivial,rfl⟩,by rw [zDv];omega,by rw [zDv,←L];omega⟩,by omega,by omega⟩,zAH,zAE r1];rfl
  ·rw [zAI,zAI,zAI,zAE ⟨⟨⟨trivial,rfl⟩,by rw [zDv];omega,by rw [zDv,←L];omega⟩,by omega,by omega⟩,zAI,zAE ⟨r8,r1⟩];rfl
 | cons a l=>
  have Am:JC P (a::l) (row.getD j 0)≠[]:=by unfold JC;cases P.getD (row.getD j 0).toNat false <;> simp
  rw [fY Am]
  show NU n (CY c q pos pos.length lost n) c q pos pos.length lost P C (a::l).length x8 x20 x21 row (row.length:Int) (j:Int) o1 (a::l)=_
  unfold NU JC KF;simp only [zAL];rw [zAJ (by omega),zAI,zAE ⟨⟨by omega,by omega⟩,by omega,by omega⟩];cases hp:P.getD (row.getD j 0).toNat false <;> cases hc:C.getD (row.getD j 0).toNat false
  ·rw [zAH,zAH,zAH,zAE ⟨by omega,by omega⟩,zAH,zAE r1]
  ·rw [zAH,zAH,zAI,zAE ⟨by omega,by omega⟩,zAI,zAE ⟨r8,r1⟩]
  ·rw [zAI,zAI,zAH,zAE ⟨⟨⟨trivial,rfl⟩,⟨trivial,trivial⟩,by rw [zDv,←L];omega⟩,by omega,by omega⟩,zAH,zAE r1,zAm]
  ·rw [zAI,zAI,zAI,zAE ⟨⟨⟨trivial,rfl⟩,⟨trivial,trivial⟩,by rw [zDv,←L];omega⟩,by omega,by omega⟩,zAI,zAE ⟨r8,r1⟩,zAm]
theorem jR (hP:P.length=pos.length) (hC:C.length=pos.length) (hr: ∀ u∈row,0<=u/\ u<(pos.length:Int)) (hl:row.length<=256): ∀ (k j n:Nat) (o2:List Int) (x8:Int),j+k=row.length -> o2.length<=j -> 0<=x8/\ x8<=(j:Int) ->
 CY c q pos pos.length lost (n+k) (Ml P C x20 x21 row o1 o2 x8 j)=CY c q pos pos.length lost n (Ml P C x20 x21 row o1 ((row.drop j).foldl (JC P) o2) ((row.drop j).foldl (KF C) x8) (row.length:Int))
 | 0,j,n,o2,x8,e,_,_=>by
  have e:j=row.length:=by omega
  subst e;rw [zF1];rfl
 | k+1,j,n,o2,x8,e,h2,h8=>by
  have hj:j<row.length:=by omega
  have e2:row.drop j=row.getD j 0::row.drop (j+1):=by
   rw [zBx hj,u8,zAM hj];rfl
  rw [←zDw,vP hP hC hr hl hj (by omega) (by omega),e2,zEt,zEt]
  have h3:(JC P o2 (row.getD j 0)).length<=j+1:=by
   unfold JC;cases P.getD (row.getD j 0).toNat false
   ·rw [zAH];omega
   ·rw [zAI,zAm,zDv];omega
  have h4:0<=KF C x8 (row.getD j 0)/\ KF C x8 (row.getD j 0)<=((j+1:Nat):Int):=by
   unfold KF;cases C.getD (row.getD j 0).toNat false
   ·rw [zAH];omega
   ·rw [zAI];omega
  exact jR hP hC hr hl k (j+1) n _ _ (by omega) h3 h4
theorem oB {D:Nat -> Nat -> Prop} {near:List Int} {x8:Int} {v:Nat} {n:Nat} (W:HZ c q pos) (hD:CU pos lost D o1) (Wa: ∀ u∈near,0<=u/\ u<(pos.length:Int)) (JN:near.length<=256) (hv:v<pos.length):
 ∃ l',CY c q pos pos.length lost (n+1+near.length) (.l4 (pB c pos) (cB c pos) near.length x8 x20 (v:Int) near.length (near.length:Int) 0 o1 near)=CY c q pos pos.length lost n (.l1 (pB c pos) (cB c pos) x20 ((v:Int)+1) l')/\
  CU pos lost (fun a s=>D a s∨((a:Int)∈near/\ ((near.length=2/\ tb c.set s=false)∨(x8=2/\ (cB c pos).getD a false=false/\ tb c.set s=true)))) l':=by
 have Fd:=W.l1;have lc:(cB c pos).length=pos.length:=Gx
 obtain ⟨l',e,h⟩:=Vw (fun n (s:List Int) i=>CY c q pos pos.length lost n (.l4 (pB c pos) (cB c pos) near.length x8 x20 (v:Int) near.length (near.length:Int) i s near)) near.length 0
  (fun i s=>CU pos lost (fun a t=>D a t∨((a:Int)∈near.take i/\ ((near.length=2/\ tb c.set t=false)∨(x8=2/\ (cB c pos).getD a false=false/\ tb c.set t=true)))) s)
  (fun n i s _ hi hI=>by
   have hx:near.getD i 0∈near:=by rw [u8,zAM hi];exact zA7 hi
   have Hu:=Wa _ hx
   have e3:near.take (i+1)=near.take i++[near.getD i 0]:=by
    rw [zEP hi,u8,zAM hi];rfl
   have r1:AL ((i:Int)+1):=As.2 ⟨by omega,by omega⟩;have mem: ∀ a:Nat,(a:Int)∈near.take (i+1)↔(a:Int)∈near.take i∨(a:Int)=near.getD i 0:=fun a=>by rw [e3,zD5,zAu]
   obtain ⟨l2,f2,be⟩:=hI.only (c:=c) (q:=q) (cell:=near.getD i 0) Hu.1 Hu.2 (D':=fun a t=>(D a t∨((a:Int)∈near.take i/\ ((near.length=2/\ tb c.set t=false)∨(x8=2/\ (cB c pos).getD a false=false/\ tb c.set t=true))))∨((a:Int)=near.getD i 0/\ tb c.set t=false)) fun j s _ _=>Iff.rfl
   obtain ⟨l3,f3,hL3⟩:=be.lose (c:=c) (q:=q) (cell:=near.getD i 0) (ss:=c.set) Hu.1 Hu.2 (D':=fun a t=>((D a t∨((a:Int)∈near.take i/\ ((near.length=2/\ tb c.set t=false)∨(x8=2/\ (cB c pos).getD a false=false/\ tb c.set t=true))))∨((a:Int)=near.getD i 0/\ tb c.set t=false))∨((a:Int)=near.getD i 0/\ tb c.set t=true)) fun j s _ _=>Iff.rfl
   obtain ⟨l4,f4,Wo⟩:=hI.lose (c:=c) (q:=q) (cell:=near.getD i 0) (ss:=c.set) Hu.1 Hu.2 (D':=fun a t=>(D a t∨((a:Int)∈near.take i/\ ((near.length=2/\ tb c.set t=false)∨(x8=2/\ (cB c pos).getD a false=false/\ tb c.set t=true))))∨((a:Int)=near.getD i 0/\ tb c.set t=true)) fun j s _ _=>Iff.rfl
   show ∃ s',SM n (CY c q pos pos.length lost n) c q pos pos.length lost (pB c pos) (cB c pos) near.length x8 x20 (v:Int) near.length (near.length:Int) (i:Int) s near=_/\ _
   unfold SM;simp only [zAL,zAs];rw [zAJ (by omega),zAI,zAE ⟨⟨by omega,by omega⟩,hi⟩];have A3: ∀ a:Nat,(a:Int)=near.getD i 0 -> (near.getD i 0).toNat=a:=fun a h=>by omega
   by_cases h2:near.length=2
   ·have b2:(((near.length:Nat):Int)==2)=true:=by rw [h2];rfl
    rw [b2,zAI,f2,zAF]
    by_cases h8:x8=2
    ·have b8:(x8==2)=true:=by rw [h8];rfl
     rw [b8,zAI,zAE ⟨by omega,by omega⟩];cases hc:(cB c pos).getD (near.getD i 0).toNat false
     ·rw [zEG,zAI,f3,zAF,zAE r1];refine ⟨l3,rfl,hL3.id' fun a t _ _=>?_⟩;rw [mem];constructor
      ·rintro (h | ⟨h | h,h3 | ⟨h3,h4,h5⟩⟩)
       ·exact .inl (.inl (.inl h))
       ·exact .inl (.inl (.inr ⟨h,.inl h3⟩))
       ·exact .inl (.inl (.inr ⟨h,.inr ⟨h3,h4,h5⟩⟩))
       ·exact .inl (.inr ⟨h,h3.2⟩)
       ·exact .inr ⟨h,h5⟩
      ·rintro (((h | ⟨h,h3⟩) | ⟨h,h3⟩) | ⟨h,h3⟩)
       ·exact .inl h
       ·exact .inr ⟨.inl h,h3⟩
       ·exact .inr ⟨.inr h,.inl ⟨h2,h3⟩⟩
       ·exact .inr ⟨.inr h,.inr ⟨h8,by rw [←A3 a h];exact hc,h3⟩⟩
     ·rw [zD7,zAH,zAE r1];refine ⟨l2,rfl,be.id' fun a t _ _=>?_⟩;rw [mem];constructor
      ·rintro (h | ⟨h | h,h3 | ⟨h3,h4,h5⟩⟩)
       ·exact .inl (.inl h)
       ·exact .inl (.inr ⟨h,.inl h3⟩)
       ·exact .inl (.inr ⟨h,.inr ⟨h3,h4,h5⟩⟩)
       ·exact .inr ⟨h,h3.2⟩
       ·rw [←A3 a h,hc] at h4;cases h4
      ·rintro ((h | ⟨h,h3⟩) | ⟨h,h3⟩)
       ·exact .inl h
       ·exact .inr ⟨.inl h,h3⟩
       ·exact .inr ⟨.inr h,.inl ⟨h2,h3⟩⟩
    ·have b8:(x8==2)=false:=zBj.2 h8;rw [b8,zAH,zAE r1];refine ⟨l2,rfl,be.id' fun a t _ _=>?_⟩;rw [mem];constructor
     ·rintro (h | ⟨h | h,h3 | ⟨h3,h4,h5⟩⟩)
      ·exact .inl (.inl h)
      ·exact .inl (.inr ⟨h,.inl h3⟩)
      ·exact .inl (.inr ⟨h,.inr ⟨h3,h4,h5⟩⟩)
      ·exact .inr ⟨h,h3.2⟩
      ·exact absurd h3 h8
     ·rintro ((h | ⟨h,h3⟩) | ⟨h,h3⟩)
      ·exact .inl h
      ·exact .inr ⟨.inl h,h3⟩
      ·exact .inr ⟨.inr h,.inl ⟨h2,h3⟩⟩
   ·have b2:(((near.length:Nat):Int)==2)=false:=zBj.2 (by omega);rw [b2,zAH]
    by_cases h8:x8=2
    ·have b8:(x8==2)=true:=by rw [h8];rfl
     rw [b8,zAI,zAE ⟨by omega,by omega⟩];cases hc:(cB c pos).getD (near.getD i 0).toNat false
     ·rw [zEG,zAI,f4,zAF,zAE r1];refine ⟨l4,rfl,Wo.id' fun a t _ _=>?_⟩;rw [mem];constructor
      ·rintro (h | ⟨h | h,h3 | ⟨h3,h4,h5⟩⟩)
       ·exact .inl (.inl h)
       ·exact .inl (.inr ⟨h,.inl h3⟩)
       ·exact .inl (.inr ⟨h,.inr ⟨h3,h4,h5⟩⟩)
       ·exact absurd h3.1 h2
       ·exact .inr ⟨h,h5⟩
      ·rintro ((h | ⟨h,h3⟩) | ⟨h,h3⟩)
       ·exact .inl h
       ·exact .inr ⟨.inl h,h3⟩
       ·exact .inr ⟨.inr h,.inr ⟨h8,by rw [←A3 a h];exact hc,h3⟩⟩
     ·rw [zD7,zAH,zAE r1];refine ⟨s,rfl,hI.id' fun a t _ _=>?_⟩;rw [mem];constructor
      ·rintro (h | ⟨h | h,h3 | ⟨h3,h4,h5⟩⟩)
       ·exact .inl h
       ·exact .inr ⟨h,.inl h3⟩
       ·exact .inr ⟨h,.inr ⟨h3,h4,h5⟩⟩
       ·exact absurd h3.1 h2
       ·rw [←A3 a h,hc] at h4;cases h4
      ·rintro (h | ⟨h,h3⟩)
       ·exact .inl h
       ·exact .inr ⟨.inl h,h3⟩
    ·have b8:(x8==2)=false:=zBj.2 h8;rw [b8,zAH,zAE r1];refine ⟨s,rfl,hI.id' fun a t _ _=>?_⟩;rw [mem];constructor
     ·rintro (h | ⟨h | h,h3 | ⟨h3,h4,h5⟩⟩)
      ·exact .inl h
      ·exact .inr ⟨h,.inl h3⟩
      ·exact .inr ⟨h,.inr ⟨h3,h4,h5⟩⟩
      ·exact absurd h3.1 h2
      ·exact absurd h3 h8
     ·rintro (h | ⟨h,h3⟩)
      ·exact .inl h
      ·exact .inr ⟨.inl h,h3⟩)
  near.length 0 (n+1) o1 (by omega) (by omega) (hD.id' fun a t _ _=>by simp)
 refine ⟨l',Eq.trans e ?_,h.id' fun a t _ _=>by rw [List.take_length]⟩
 show SM n (CY c q pos pos.length lost n) c q pos pos.length lost (pB c pos) (cB c pos) near.length x8 x20 (v:Int) near.length (near.length:Int) (near.length:Int) l' near=_
 unfold SM;rw [zAC (by omega),zAH,zAE (As.2 ⟨by omega,by omega⟩)]
end
def oO (c:AC) (q:AA) (pos lost:List Int) (x:Bool×List Int):Prop:=(x.1=true↔Z6 c q pos)/\ (x.1=true -> CU pos lost (jh c q pos) x.2)
theorem vh (W:HZ c q pos): ∀ (k v:Nat) (o1:List Int),v+k=pos.length -> (∀ u,u<v -> (cB c pos).getD u false=true -> 2<=DN q.nbrs (pB c pos) u/\ DN q.nbrs (cB c pos) u<=2) -> CU pos lost (fun a s=>Ih c q pos a s∨∃ u,u<v/\ jS c q pos u a s) o1 ->
 Ae (fun n=>CY c q pos pos.length lost n (.l1 (pB c pos) (cB c pos) (pos.length:Int) (v:Int) o1)) (oO c q pos lost):=by
 have Fd:=W.l1;have Gn:=W.gl;have lp:(pB c pos).length=pos.length:=GH;have lc:(cB c pos).length=pos.length:=Gx;intro k
 induction k with
 | zero=>
  intro v o1 e Du hL;have e:v=pos.length:=by omega
  subst e;refine Ev.p (r:=(true,o1)) ⟨1,fun n hn=>?_⟩ ⟨⟨fun _ v hv hc=>Du v hv hc,fun _=>rfl⟩,fun _=>hL⟩;obtain ⟨n,rfl⟩: ∃ k,n=k+1:=⟨n-1,by omega⟩
  show SO n (CY c q pos pos.length lost n) c q pos pos.length lost (pB c pos) (cB c pos) (pos.length:Int) (pos.length:Int) o1=_
  unfold SO;rw [zAC (by omega),zAH]
 | succ k ih=>
  intro v o1 e Du hL;have hv:v<pos.length:=by omega
  have r1:AL ((v:Int)+1):=As.2 ⟨by omega,by omega⟩
  have U: ∀ n,CY c q pos pos.length lost (n+1) (.l1 (pB c pos) (cB c pos) (pos.length:Int) (v:Int) o1)=bif (cB c pos).getD v false then CY c q pos pos.length lost n (Ml (pB c pos) (cB c pos) (pos.length:Int) (v:Int) (nb q.nbrs v) o1 [] 0 0) else CY c q pos pos.length lost n (.l1 (pB c pos) (cB c pos) (pos.length:Int) ((v:Int)+1) o1):=fun n=>by
   show SO n (CY c q pos pos.length lost n) c q pos pos.length lost (pB c pos) (cB c pos) (pos.length:Int) (v:Int) o1=_
   unfold SO;rw [zAJ (by omega),zAI,zAE ⟨by omega,by omega⟩,zAL,zAE r1,zAE ⟨by omega,by omega⟩];cases (cB c pos).getD v false <;> rfl
  cases hc:(cB c pos).getD v false
  ·refine Ae.step 1 (fun n=>?_) (ih (v+1) o1 (by omega) (fun u hu Su=>?_) (hL.id' fun a s _ _=>?_))
   ·rw [U,hc,zAH];rfl
   ·rcases zAc.1 hu with hu | rfl
    ·exact Du u hu Su
    ·rw [hc] at Su;cases Su
   ·constructor
    ·rintro (h | ⟨u,hu,h⟩)
     ·exact .inl h
     ·rcases zAc.1 hu with hu | rfl
      ·exact .inr ⟨u,hu,h⟩
      ·rw [h.1] at hc;cases hc
    ·rintro (h | ⟨u,hu,h⟩)
     ·exact .inl h
     ·exact .inr ⟨u,by omega,h⟩
  ·have KX:=W.g.gr.row (v:Int) (by omega) (by omega)
   have Pa: ∀ u∈nb q.nbrs (v:Int),0<=u/\ u<(pos.length:Int):=fun u hu=>by
    have:=W.g.gr.rng (v:Int) (by omega) (by omega) u hu;omega
   have A:=fun n=>jR (c:=c) (q:=q) (lost:=lost) (o1:=o1) (x20:=(pos.length:Int)) (x21:=(v:Int)) lp lc Pa KX (nb q.nbrs v).length 0 n [] 0 (by omega) (by simp) ⟨zEK _,by omega⟩
   rw [zFD,jG,jU,zEN,Int.zero_add] at A;have dP:DN q.nbrs (pB c pos) v=((nb q.nbrs v).filter fun x=>(pB c pos).getD x.toNat false).length:=List.countP_eq_length_filter;have dC:DN q.nbrs (cB c pos) v=(nb q.nbrs v).countP fun x=>(cB c pos).getD x.toNat false:=rfl
   rw [←dC] at A
   generalize Sz:((nb q.nbrs v).filter fun x=>(pB c pos).getD x.toNat false)=near at A dP
   have Dv: ∀ u,u∈near↔u∈nb q.nbrs v/\ (pB c pos).getD u.toNat false=true:=fun u=>by rw [←Sz,zE3]
   have JN:near.length<=256:=by
    have:=List.length_filter_le (fun x=>(pB c pos).getD x.toNat false) (nb q.nbrs v);rw [Sz] at this;omega
   have Wa: ∀ u∈near,0<=u/\ u<(pos.length:Int):=fun u hu=>Pa u ((Dv u).1 hu).1
   have U2: ∀ n,CY c q pos pos.length lost (n+((nb q.nbrs v).length+1)) (.l1 (pB c pos) (cB c pos) (pos.length:Int) (v:Int) o1)=CY c q pos pos.length lost n (Ml (pB c pos) (cB c pos) (pos.length:Int) (v:Int) (nb q.nbrs v) o1 near (DN q.nbrs (cB c pos) v:Int) ((nb q.nbrs v).length:Int)):=fun n=>by
    rw [←zDw,U,hc,zAI];exact A n
   refine Ae.step _ U2 ?_
   by_cases hbad:DN q.nbrs (pB c pos) v<2∨2<DN q.nbrs (cB c pos) v
   ·have GN: ¬ Z6 c q pos:=fun h=>by have:=h v hv hc;omega
    refine Ev.p (r:=(false,o1)) ⟨1,fun n hn=>?_⟩ ⟨⟨fun h=>(by cases h),fun h=>absurd h GN⟩,fun h=>(by cases h)⟩;obtain ⟨n,rfl⟩: ∃ k,n=k+1:=⟨n-1,by omega⟩;cases near with
    | nil=>
     show SN n (CY c q pos pos.length lost n) c q pos pos.length lost (pB c pos) (cB c pos) (DN q.nbrs (cB c pos) v:Int) (pos.length:Int) (v:Int) (nb q.nbrs v) ((nb q.nbrs v).length:Int) ((nb q.nbrs v).length:Int) o1=_
     unfold SN;rw [zAC (by omega),zAH]
    | cons a l=>
     show NU n (CY c q pos pos.length lost n) c q pos pos.length lost (pB c pos) (cB c pos) (a::l).length (DN q.nbrs (cB c pos) v:Int) (pos.length:Int) (v:Int) (nb q.nbrs v) ((nb q.nbrs v).length:Int) ((nb q.nbrs v).length:Int) o1 (a::l)=_
     unfold NU;rw [zAC (by omega),zAH]
     by_cases h2:(((a::l).length:Nat):Int)<2
     ·rw [zAJ h2,zAI]
     ·rw [zAC h2,zAH,zAJ (by omega),zAI]
   ·have Am:near≠[]:=by
     intro h;rw [h,zEE] at dP;omega
    obtain ⟨l',e4,Wo⟩:=oB (c:=c) (q:=q) (lost:=lost) (o1:=o1) (near:=near) (x20:=(pos.length:Int)) (x8:=(DN q.nbrs (cB c pos) v:Int)) (n:=0) W hL Wa JN hv;have e5: ∀ n,∃ l',CY c q pos pos.length lost (n+1+near.length) (.l4 (pB c pos) (cB c pos) near.length (DN q.nbrs (cB c pos) v:Int) (pos.length:Int) (v:Int) near.length (near.length:Int) 0 o1 near)=CY c q pos pos.length lost n (.l1 (pB c pos) (cB c pos) (pos.length:Int) ((v:Int)+1) l')/\ _:=fun n=>oB (c:=c) (q:=q) (lost:=lost) (o1:=o1) (near:=near) (x20:=(pos.length:Int)) (x8:=(DN q.nbrs (cB c pos) v:Int)) (n:=n) W hL Wa JN hv
    have IH:=ih (v+1) l' (by omega) (fun u hu Su=>by
     rcases zAc.1 hu with hu | rfl
     ·exact Du u hu Su
     ·omega) (Wo.id' fun a s _ _=>by
     constructor
     ·rintro (h | ⟨u,hu,h⟩)
      ·exact .inl (.inl h)
      ·rcases zAc.1 hu with hu | rfl
       ·exact .inl (.inr ⟨u,hu,h⟩)
       ·obtain ⟨h1,h2,h3,h4⟩:=h;refine .inr ⟨(Dv _).2 ⟨h2,by rw [zAL];exact h3⟩,?_⟩;rcases h4 with ⟨h4,h5⟩ | ⟨h4,h5⟩
        ·exact .inl ⟨by omega,h5⟩
        ·exact .inr ⟨by omega,h5⟩
     ·rintro ((h | ⟨u,hu,h⟩) | ⟨h1,h2⟩)
      ·exact .inl h
      ·exact .inr ⟨u,by omega,h⟩
      ·obtain ⟨h3,h4⟩:=(Dv _).1 h1;rw [zAL] at h4;refine .inr ⟨v,by omega,hc,h3,h4,?_⟩;rcases h2 with ⟨h2,h5⟩ | ⟨h2,h5⟩
       ·exact .inl ⟨by omega,h5⟩
       ·exact .inr ⟨by omega,h5⟩)
    refine Ae.step (1+near.length+1) (g:=fun n=>CY c q pos pos.length lost n (.l1 (pB c pos) (cB c pos) (pos.length:Int) ((v:Int)+1) l')) (fun n=>?_) IH;obtain ⟨l2,e6,hL6⟩:=e5 n;have:l2=l':=hL6.unique Wo;subst this;rw [fY Am,show n+(1+near.length+1)=n+1+near.length+1 by omega,←e6]
    show NU (n+1+near.length) (CY c q pos pos.length lost (n+1+near.length)) c q pos pos.length lost (pB c pos) (cB c pos) near.length (DN q.nbrs (cB c pos) v:Int) (pos.length:Int) (v:Int) (nb q.nbrs v) ((nb q.nbrs v).length:Int) ((nb q.nbrs v).length:Int) o1 near=_
    unfold NU;rw [zAC (by omega),zAH,zAC (by omega),zAH,zAC (by omega),zAH]
theorem vi (W:HZ c q pos) (hL:CU pos lost (fun _ _=>False) lost):Ae (fun n=>Vv n c q pos pos.length lost) (oO c q pos lost):=by
 have Fd:=W.l1;obtain ⟨r,_,hF⟩:=aQ (l:=cB c pos) (by rw [Gx];exact Fd);obtain ⟨l0,h1,h2⟩:=jI W hL hF;refine Ae.bind h1 (b:=fun n y1=>CY c q pos pos.length lost n (.l1 y1.1 y1.2.1 (y1.2.1.length:Int) 0 y1.2.2.2)) ?_;have:=vh (q:=q) W pos.length 0 l0 (by omega) (fun u hu=>absurd hu (zAo u)) (h2.id' fun a s _ _=>⟨fun h=>h.elim id fun ⟨u,hu,_⟩=>absurd hu (zAo u),.inl⟩);refine this.eq fun n=>?_
 show CY c q pos pos.length lost n (.l1 (pB c pos) (cB c pos) ((cB c pos).length:Int) 0 l0)=_
 rw [Gx];rfl
end
end Go.Proofs.YtkjbblkieglmlaaGreatDoor
namespace Go.Proofs.YtkjbblkieglmlaaGreatDoor
open Go.RowKit
set_option maxRecDepth 100000
set_option maxHeartbeats 40000000
theorem rD:Av (Ah Tryz.f105 6) [([0,1,2,3,4,5,6,7,8],9),([10],11)] [12] []:=by unfold Av;kernel_rfl
theorem rF:Av (Ah Tryz.f105 13) [] (List.range 13) [13]:=by unfold Av;kernel_rfl
def Dz:Bi:=fun i=>match i with
 | 6=>.ord [([0,1,2,3,4,5,6,7,8],9),([10],11)] [12] []
 | 13=>.ord [] (List.range 13) [13]
 | _=>.no
def zX (q:AA) (pos:List Int):DH:=[some (.cells (AD q)),some (.cells [.cst .nilFunc,.fn 132 0 (L1 []),.fn 133 0 (L1 []),.fn 134 0 (L1 []),.fn 135 0 (L1 []),.fn 136 0 (L1 []),.fn 137 0 (L1 []),.fn 138 0 (L1 []),.fn 139 0 (L1 []),.fn 140 0 (L1 [])]),some (.ints (List.replicate pos.length (0:Int)))]
def KZ (q:AA) (pos:List Int) (i:Int):DH:=[some (.cells (AD q)),some (.cells [.cst .nilFunc,.fn 132 0 (L1 []),.fn 133 0 (L1 []),.fn 134 0 (L1 []),.fn 135 0 (L1 []),.fn 136 0 (L1 []),.fn 137 0 (L1 []),.fn 138 0 (L1 []),.fn 139 0 (L1 []),.fn 140 0 (L1 [])]),some (.ints (List.replicate pos.length (0:Int))),some (.ints (List.replicate pos.length (0:Int))),some (.cells (AK (q.cons.getD ((i).toNat) default)++AD q++[.ints pos,.msl 3 1 0 pos.length]))]
def zW (pos:List Int) (q:AA) (i:Int) (o2:List Int):DH:=[some (.ints (List.replicate pos.length (0:Int))),some (.cells (AK (q.cons.getD ((i).toNat) default)++AD q++[.ints pos,.msl 2 1 0 pos.length])),some (.ints o2)]
def zV (pos:List Int) (q:AA) (i:Int) (o2 o3:List Int):DH:=[some (.ints (List.replicate pos.length (0:Int))),some (.cells (AK (q.cons.getD ((i).toNat) default)++AD q++[.ints pos,.msl 2 1 0 pos.length])),some (.ints o2),some (.ints o3)]
inductive Rk where
 | l1 (o2:List Int)
 | l2 (x10:Nat) (K5 B9:Int) (o2 o3:List Int)
def ZN (n:Nat) (self:Rk -> Option ((List Int))) (q:AA) (i:Int) (pos:List Int) (o2:List Int):Option ((List Int)):=
 (Xg n pos).bind fun y1=>
  self (.l2 y1.length (y1.length:Int) 0 o2 y1)
def Rj (n:Nat) (self:Rk -> Option ((List Int))) (q:AA) (i:Int) (pos:List Int) (x10:Nat) (K5 B9:Int) (o2 o3:List Int):Option ((List Int)):=
 bif (decide (B9<K5)) then
  if (0<=B9/\ B9<(x10:Int))/\ 0+((B9).toNat)<o3.length/\ (0<=B9/\ B9<(pos.length:Int))/\ 0+((B9).toNat)<o2.length/\ AL (B9+1) then
   self (.l2 x10 K5 (B9+1) o2 (o3.set (0+((B9).toNat)) (bits .andNot .i64 (o3.getD (0+((B9).toNat)) 0) (o2.getD (0+((B9).toNat)) 0))))
  else none
 else
  if x10=o3.length then
   (JI n o3).bind fun y1=>
    bif y1 then
     if pos.length=(List.replicate pos.length (0:Int)).length then
      some (List.replicate pos.length (0:Int))
     else none
    else
     some o3
  else none
def ZO (n:Nat) (self:Rk -> Option ((List Int))) (q:AA) (i:Int) (pos:List Int):Option ((List Int)):=
 if ((pos.length:Int):Int)=(pos.length:Int)/\ 0<=(pos.length:Int)/\ ((pos.length:Int):Int)<=1000000000000 then
  (JI n pos).bind fun y1=>
   bif y1 then
    if pos.length=(List.replicate pos.length (0:Int)).length then
     some (List.replicate pos.length (0:Int))
    else none
   else
    if 0<=i/\ i<(q.cons.length:Int) then
     bif (((q.cons.getD ((i).toNat) default).kind)==0) then
      none
     else
      bif (((q.cons.getD ((i).toNat) default).kind)==1) then
       (QB n (q.cons.getD ((i).toNat) default) q pos pos.length (List.replicate pos.length (0:Int))).bind fun y2=>
        bif (!y2.1) then
         if pos.length=(List.replicate pos.length (0:Int)).length then
          some (List.replicate pos.length (0:Int))
         else none
        else
         self (.l1 y2.2)
      else
       bif (((q.cons.getD ((i).toNat) default).kind)==2) then
        (QH n (q.cons.getD ((i).toNat) default) q pos pos.length (List.replicate pos.length (0:Int))).bind fun y2=>
         bif (!y2.1) then
          if pos.length=(List.replicate pos.length (0:Int)).length then
           some (List.replicate pos.length (0:Int))
          else none
         else
          self (.l1 y2.2)
       else
        bif (((q.cons.getD ((i).toNat) default).kind)==3) then
         (Oo n (q.cons.getD ((i).toNat) default) q pos pos.length (List.replicate pos.length (0:Int))).bind fun y2=>
          bif (!y2.1) then
           if pos.length=(List.replicate pos.length (0:Int)).length then
            some (List.replicate pos.length (0:Int))
           else none
          else
           self (.l1 y2.2)
        else
         bif (((q.cons.getD ((i).toNat) default).kind)==4) then
          (LT n (q.cons.getD ((i).toNat) default) q pos pos.length (List.replicate pos.length (0:Int))).bind fun y2=>
           bif (!y2.1) then
            if pos.length=(List.replicate pos.length (0:Int)).length then
             some (List.replicate pos.length (0:Int))
            else none
           else
            self (.l1 y2.2)
         else
          bif (((q.cons.getD ((i).toNat) default).kind)==5) then
           (Ov n (q.cons.getD ((i).toNat) default) q pos pos.length (List.replicate pos.length (0:Int))).bind fun y2=>
            bif (!y2.1) then
             if pos.length=(List.replicate pos.length (0:Int)).length then
              some (List.replicate pos.length (0:Int))
             else none
            else
             self (.l1 y2.2)
          else
           bif (((q.cons.getD ((i).toNat) default).kind)==6) then
            (OV n (q.cons.getD ((i).toNat) default) q pos pos.length (List.replicate pos.length (0:Int))).bind fun y2=>
             bif (!y2.1) then
              if pos.length=(List.replicate pos.length (0:Int)).length then
               some (List.replicate pos.length (0:Int))
              else none
             else
              self (.l1 y2.2)
           else
            bif (((q.cons.getD ((i).toNat) default).kind)==7) then
             (NO n (q.cons.getD ((i).toNat) default) q pos pos.length (List.replicate pos.length (0:Int))).bind fun y2=>
              bif (!y2.1) then
               if pos.length=(List.replicate pos.length (0:Int)).length then
                some (List.replicate pos.length (0:Int))
               else none
              else
               self (.l1 y2.2)
            else
             bif (((q.cons.getD ((i).toNat) default).kind)==8) then
              (XY n (q.cons.getD ((i).toNat) default) q pos pos.length (List.replicate pos.length (0:Int))).bind fun y2=>
               bif (!y2.1) then
                if pos.length=(List.replicate pos.length (0:Int)).length then
                 some (List.replicate pos.length (0:Int))
                else none
               else
                self (.l1 y2.2)
             else
              bif (((q.cons.getD ((i).toNat) default).kind)==9) then
               (Vv n (q.cons.getD ((i).toNat) default) q pos pos.length (List.replicate pos.length (0:Int))).bind fun y2=>
                bif (!y2.1) then
                 if pos.length=(List.replicate pos.length (0:Int)).length then
                  some (List.replicate pos.length (0:Int))
                 else none
                else
                 self (.l1 y2.2)
              else
               none
    else none
 else none
def IK (q:AA) (i:Int) (pos:List Int):Nat -> Rk -> Option ((List Int))
 | 0,_=>none
 | n+1,.l1 o2=>ZN n (IK q i pos n) q i pos o2
 | n+1,.l2 x10 K5 B9 o2 o3=>Rj n (IK q i pos n) q i pos x10 K5 B9 o2 o3
def I7 (n:Nat) (q:AA) (i:Int) (pos:List Int):Option ((List Int)):=ZO n (IK q i pos n) q i pos
def uC (n B:Nat) (N:Yd 0) (q:AA) (i:Int) (pos:List Int) (r:(List Int)):Rk -> Prop
 | .l1 o2=>TW B N (FQ Tryz.f105 0 (.ints r) []) (Cc (AW Tryz.f105) 9 []) ⟨AG 69 [(2,.ints pos),(8,.msl 0 1 0 pos.length),(9,.ref 1 0)],[some (.ints (List.replicate pos.length (0:Int))),some (.cells (AK (q.cons.getD ((i).toNat) default)++AD q++[.ints pos,.msl 2 1 0 pos.length])),some (.ints o2)]⟩
 | .l2 x10 K5 B9 o2 o3=>∀ m0:Nat,n<=m0 -> TW B N (FQ Tryz.f105 0 (.ints r) []) (A3 m0 (BB (AW Tryz.f105) 0 [])) ⟨AG 69 [(8,.msl 0 1 0 pos.length),(9,.ref 1 0),(10,.msl 3 1 0 x10),(47,.i K5),(48,.i B9)],[some (.ints (List.replicate pos.length (0:Int))),some (.cells (AK (q.cons.getD ((i).toNat) default)++AD q++[.ints pos,.msl 2 1 0 pos.length])),some (.ints o2),some (.ints o3)]⟩
theorem uD (B:Nat) (N:Yd 0) (q:AA) (i:Int) (pos:List Int):Al (IK q i pos) (uC · B N q i pos):=ia (fun _=>rfl) fun n AJ pt r h=>by
 cases pt
 case l1 o2=>
  revert r;apply gO;exact cn fun y1 A8=>jc (ES.snapNew (ds:=[.ints pos]) (zCt A8) (zW pos q i o2) (dO (by kernel_rfl)) rfl) (lN Dz [0,1,2,3] (AJ _ _ · n Nat.le.refl))
 case l2 x10 K5 B9 o2 o3=>
  intro m0 AE;refine rd AE fun m0 AE=>?_
  revert r;apply gO;exact bi 49 (jg rF (gc (gn fun g0=>jg g0 (gc (gn fun g1=>jg g1 (gc (gi (gc (gi (jg g0 (jg g1 (gw 64 (lG (AV 9 Dz) [0,1,2,3] (AJ _ _ · m0 AE)))))))))))))) (gn fun g0=>cn fun y1 A8=>jc (sb [.msl 3 1 0 x10] (Nc A8) (zV pos q i o2 o3) ⟨Ac.ints rfl g0,trivial⟩) (bi 66 (gn fun g1=>lF fun p=>ez (AV 9 Dz) [6] [0] p [0] (H0.g g1)) (lF fun p=>ez (AV 9 Dz) [6] [3] p [0] (H0.g g0))))
theorem uB {n:Nat} {q:AA} {i:Int} {pos:List Int} {r:(List Int)} (h:I7 n q i pos=some r):EQ 105 [.agg 5 (L1 (AD q)),.i i,.ints pos] [] (.ints r) [] true:=by
 have AJ:=fun B N=>(uD B N q i pos n)
 refine ot Tryz.func105 fun B N=>?_
 revert r;apply gO;exact jt (gn fun g0=>jg g0 (cf Nc (zX q pos) fun _=>bi 18 (gn fun g1=>lF fun p=>ez (AV 9 Dz) [6] [2] p [0] (H0.g g1)) (jg rD (gi (jg g0 (bn (fun c1=>nO) (fun c1=>bn (fun c3=>jo 36 (AR.int (k:=.i64) (eq_of_beq c3)) (jg (by decide:(0:Int)<=1/\ 1<((10:Nat):Int)) (ce zB8 [4,3] (KZ q pos i) fun _=>bi 42 (gn fun g2=>lF fun p=>ez (AV 9 Dz) [6] [2] p [0] (H0.g g2)) (lG (AV 9 Dz) [2,4,3] ((AJ B N) _ _ ·))))) (fun c3=>bn (fun c5=>jo 36 (AR.int (k:=.i64) (eq_of_beq c5)) (jg (by decide:(0:Int)<=2/\ 2<((10:Nat):Int)) (ce zCR [4,3] (KZ q pos i) fun _=>bi 42 (gn fun g2=>lF fun p=>ez (AV 9 Dz) [6] [2] p [0] (H0.g g2)) (lG (AV 9 Dz) [2,4,3] ((AJ B N) _ _ ·))))) (fun c5=>bn (fun c7=>jo 36 (AR.int (k:=.i64) (eq_of_beq c7)) (jg (by decide:(0:Int)<=3/\ 3<((10:Nat):Int)) (ce pb [4,3] (KZ q pos i) fun _=>bi 42 (gn fun g2=>lF fun p=>ez (AV 9 Dz) [6] [2] p [0] (H0.g g2)) (lG (AV 9 Dz) [2,4,3] ((AJ B N) _ _ ·))))) (fun c7=>bn (fun c9=>jo 36 (AR.int (k:=.i64) (eq_of_beq c9)) (jg (by decide:(0:Int)<=4/\ 4<((10:Nat):Int)) (ce s5 [4,3] (KZ q pos i) fun _=>bi 42 (gn fun g2=>lF fun p=>ez (AV 9 Dz) [6] [2] p [0] (H0.g g2)) (lG (AV 9 Dz) [2,4,3] ((AJ B N) _ _ ·))))) (fun c9=>bn (fun nl=>jo 36 (AR.int (k:=.i64) (eq_of_beq nl)) (jg (by decide:(0:Int)<=5/\ 5<((10:Nat):Int)) (ce sK [4,3] (KZ q pos i) fun _=>bi 42 (gn fun g2=>lF fun p=>ez (AV 9 Dz) [6] [2] p [0] (H0.g g2)) (lG (AV 9 Dz) [2,4,3] ((AJ B N) _ _ ·))))) (fun nl=>bn (fun nk=>jo 36 (AR.int (k:=.i64) (eq_of_beq nk)) (jg (by decide:(0:Int)<=6/\ 6<((10:Nat):Int)) (ce zDe [4,3] (KZ q pos i) fun _=>bi 42 (gn fun g2=>lF fun p=>ez (AV 9 Dz) [6] [2] p [0] (H0.g g2)) (lG (AV 9 Dz) [2,4,3] ((AJ B N) _ _ ·))))) (fun nk=>bn (fun nj=>jo 36 (AR.int (k:=.i64) (eq_of_beq nj)) (jg (by decide:(0:Int)<=7/\ 7<((10:Nat):Int)) (ce u6 [4,3] (KZ q pos i) fun _=>bi 42 (gn fun g2=>lF fun p=>ez (AV 9 Dz) [6] [2] p [0] (H0.g g2)) (lG (AV 9 Dz) [2,4,3] ((AJ B N) _ _ ·))))) (fun nj=>bn (fun ni=>jo 36 (AR.int (k:=.i64) (eq_of_beq ni)) (jg (by decide:(0:Int)<=8/\ 8<((10:Nat):Int)) (ce zCf [4,3] (KZ q pos i) fun _=>bi 42 (gn fun g2=>lF fun p=>ez (AV 9 Dz) [6] [2] p [0] (H0.g g2)) (lG (AV 9 Dz) [2,4,3] ((AJ B N) _ _ ·))))) (fun ni=>bn (fun nh=>jo 36 (AR.int (k:=.i64) (eq_of_beq nh)) (jg (by decide:(0:Int)<=9/\ 9<((10:Nat):Int)) (ce vj [4,3] (KZ q pos i) fun _=>bi 42 (gn fun g2=>lF fun p=>ez (AV 9 Dz) [6] [2] p [0] (H0.g g2)) (lG (AV 9 Dz) [2,4,3] ((AJ B N) _ _ ·))))) (fun nh=>nO))))))))))))))))
def iY (n:Nat) (q:AA) (i:Int) (pos:List Int):Option ((List Int)×Int):=
 (QM n q i pos).bind fun y1=>
  bif (y1 != 0) then
   some (([]:List Int),y1)
  else
   (I7 n q i pos).bind fun y2=>
    some (y2,0)
def O5 (n:Nat) (q:AA) (i:Int) (pos:List Int):Option ((List Int)×Int):=iY n q i pos
theorem uJ {n:Nat} {q:AA} {i:Int} {pos:List Int} {r:(List Int)×Int} (h:O5 n q i pos=some r):EQ 82 [.agg 5 (L1 (AD q)),.i i,.ints pos] [] (.tup 2 (L1 [.ints r.1,.i r.2])) [] true:=by
 unfold O5 iY at h;refine ot Tryz.func82 fun B N=>?_
 revert r;apply gO;exact cf zCy [some (.cells (AD q))] fun y1=>bi 14 (lF fun p=>el AB [6,7] [] p [] H0 [.nils,.i y1] (AR.tupL (l:=[.nils,.i y1]) (l':=[.ints ([]:List Int),.i y1]) rfl ⟨AR.ints_nil,A5,trivial⟩)) (cf uB [some (.cells (AD q))] fun _=>lE AB [6,7] [])
end Go.Proofs.YtkjbblkieglmlaaGreatDoor
namespace Go.Proofs.YtkjbblkieglmlaaGreatDoor
open Go.RowKit
def EV (pos:List Int):Bool:=pos.any (· ==0)
theorem QG {pos:List Int}:EV pos=false↔∀ j,j<pos.length -> pos.getD j 0≠0:=by
 unfold EV;rw [List.any_eq_false];constructor
 ·intro h j hj e;refine h (pos.getD j 0) ?_ (by rw [e];rfl);rw [u8,zAM hj];exact zA7 hj
 ·intro h x hx;obtain ⟨j,hj,rfl⟩:=zEQ hx;have:=h j hj;rw [u8,zAM hj] at this;simpa using this
theorem nI {pos:List Int} {n:Nat} (hl:pos.length<=LB) (hn:pos.length<n):Tp n pos=some (EV pos):=by
 have hb:LB<=9223372036854775806:=by decide
 have key: ∀ (k i n:Nat),i+k=pos.length -> k+1<=n -> QF pos n (.l1 (i:Int))=some ((pos.drop i).any (· ==0)):=by
  intro k
  induction k with
  | zero=>
   intro i n e hn;obtain ⟨n,rfl⟩: ∃ k,n=k+1:=⟨n-1,by omega⟩
   show To n (QF pos n) pos (i:Int)=_
   unfold To;rw [zAC (by omega),zAH,zEY (by omega)];rfl
  | succ k ih=>
   intro i n e hn;obtain ⟨n,rfl⟩: ∃ k,n=k+1:=⟨n-1,by omega⟩;have hi:i<pos.length:=by omega
   have e2:pos.drop i=pos.getD i 0::pos.drop (i+1):=by
    rw [zBx hi,u8,zAM hi];rfl
   have:=ih (i+1) n (by omega) (by omega)
   show To n (QF pos n) pos (i:Int)=_
   unfold To;rw [zAJ (by omega),zAI,zAE ⟨by omega,by omega⟩,zAE (As.2 ⟨by omega,by omega⟩),zAL,e2,List.any_cons];cases h:(pos.getD i 0==0)
   ·rw [zAH,zEa];exact this
   ·rfl
 have:=key pos.length 0 n (by omega) (by omega);unfold Tp nH;exact this
theorem Sd {pos:List Int} {n:Nat} (hl:pos.length<=LB) (hn:pos.length<n):JI n pos=some (EV pos):=by
 unfold JI aI;rw [nI hl hn];rfl
def posOk (q:AA) (pos:List Int):Bool:=((pos.length:Int)==q.cells)&&pos.all fun x=>decide (0<=x)&&decide (x<2 ^ q.symbols.toNat)
def NG (q:AA) (pos:List Int):Int:=if CR q then (if posOk q pos then 0 else 250) else 191
section
variable {q:AA} {i:Int} {pos:List Int} {n:Nat}
theorem ZV (hF:EA q) (hn:FA q<=n) (hl:pos.length<=LB) (GO:pos.length<n):NH n q pos=some (NG q pos):=by
 have hb:LB<=9223372036854775806:=by decide
 unfold NH ij NG;rw [UU hF hn,zAF];cases hv:CR q with
 | false=>rfl
 | true=>
  obtain ⟨_,hs,_⟩:=E8 hv;obtain ⟨p1,p2,p3⟩:=ib hs.1 hs.2
  show (bif ((pos.length:Int) != q.cells) then some 250 else NF q pos n (.l1 0))=some (if posOk q pos=true then 0 else 250)
  unfold posOk
  by_cases Ao:(pos.length:Int)=q.cells
  ·have h1:((pos.length:Int) != q.cells)=false:=by simpa using Ao
   have h2:((pos.length:Int)==q.cells)=true:=by simpa using Ao
   rw [h1,zAH,h2,zD9]
   have key: ∀ (k i n:Nat),i+k=pos.length -> k+1<=n -> NF q pos n (.l1 (i:Int))=some (if ((pos.drop i).all fun x=>decide (0<=x)&&decide (x<2 ^ q.symbols.toNat))=true then 0 else 250):=by
    intro k
    induction k with
    | zero=>
     intro i n e hn;obtain ⟨n,rfl⟩: ∃ k,n=k+1:=⟨n-1,by omega⟩
     show Rn n (NF q pos n) q pos (i:Int)=_
     unfold Rn;rw [zAC (by omega),zAH,zEY (by omega)];rfl
    | succ k ih=>
     intro i n e hn;obtain ⟨n,rfl⟩: ∃ k,n=k+1:=⟨n-1,by omega⟩;have hi:i<pos.length:=by omega
     have e2:pos.drop i=pos.getD i 0::pos.drop (i+1):=by
      rw [zBx hi,u8,zAM hi];rfl
     have:=ih (i+1) n (by omega) (by omega)
     show Rn n (NF q pos n) q pos (i:Int)=_
     unfold Rn;rw [zAJ (by omega),zAI,zAE ⟨by omega,by omega⟩,zAE p3,zAE (As.2 ⟨by omega,by omega⟩),zAL,e2,zFf,p1]
     by_cases c1:pos.getD i 0<0
     ·rw [zAJ c1,zAI,zAC (p:=0<=pos.getD i 0) (by omega)];rfl
     ·rw [zAC c1,zAH,zAJ (p:=0<=pos.getD i 0) (by omega),zD9]
      by_cases c2:pos.getD i 0>=2 ^ q.symbols.toNat
      ·rw [zAJ c2,zAI,zAC (p:=pos.getD i 0<2 ^ q.symbols.toNat) (by omega)];rfl
      ·rw [zAC c2,zAH,zAJ (p:=pos.getD i 0<2 ^ q.symbols.toNat) (by omega),zD9];exact this
   exact key pos.length 0 n (by omega) (by omega)
  ·have h1:((pos.length:Int) != q.cells)=true:=by simpa using Ao
   have h2:((pos.length:Int)==q.cells)=false:=by simpa using Ao
   rw [h1,zAI,h2,zEg];rfl
def Gw (q:AA) (i:Int) (pos:List Int):Int:=if (JF q i).2=0 then NG q pos else (JF q i).2
theorem zCz (hF:EA q) (hn:FA q<=n) (hl:pos.length<=LB) (GO:pos.length<n):QM n q i pos=some (Gw q i pos):=by
 unfold QM cj Gw;rw [vu hF hn,zAF,ZV hF hn hl GO,zAF]
 by_cases h:(JF q i).2=0
 ·have:((JF q i).2 != 0)=false:=by simpa using h
  rw [this,zAE h];rfl
 ·have:((JF q i).2 != 0)=true:=by simpa using h
  rw [this,zAU h];rfl
structure B4 (q:AA) (i:Int) (pos:List Int):Prop where
 fit:EA q
 valid:CR q=true
 i0:0<=i
 i1:i<(q.cons.length:Int)
 pos:posOk q pos=true
def con (q:AA) (i:Int):AC:=q.cons.getD i.toNat default
theorem B4.of (hF:EA q) (h:Gw q i pos=0):B4 q i pos:=by
 unfold Gw JF NG at h
 by_cases hv:CR q=false
 ·rw [zAE hv] at h;rw [zAU (by decide)] at h;exact absurd h (by decide)
 ·rw [zAU hv] at h;have hv:CR q=true:=by simpa using hv
  by_cases hi:0<=i/\ i<(q.cons.length:Int)
  ·rw [zAE hi,zAE rfl,zAE hv] at h
   by_cases hp:posOk q pos=true
   ·exact ⟨hF,hv,hi.1,hi.2,hp⟩
   ·rw [zAU hp] at h;exact absurd h (by decide)
  ·rw [zAU hi,zAU (by decide)] at h;exact absurd h (by decide)
theorem B4.check (C:B4 q i pos):Gw q i pos=0:=by
 have h1:JF q i=(Z4 ((q.cons.getD i.toNat default).kind),0):=by
  unfold JF;rw [zAU (by rw [C.valid];exact fun h=>by cases h),zAE ⟨C.i0,C.i1⟩]
 unfold Gw NG;rw [h1,zAE rfl,zAE C.valid,zAE C.pos]
theorem B4.mem (C:B4 q i pos):con q i∈q.cons:=by
 have h:=C.i0;have h1:=C.i1;unfold con;rw [u8,zAM (by omega)];exact zA7 _
theorem B4.fine (C:B4 q i pos):FK q (con q i)=true:=(E8 C.valid).2.2.2.2.2 _ C.mem
theorem B4.kind (C:B4 q i pos):GL q.cells (con q i).kind (con q i).cells.length=true:=kB C.fine
theorem B4.len (C:B4 q i pos):(pos.length:Int)=q.cells:=by
 have h:=C.pos;unfold posOk at h;rw [zAN,zDu] at h;exact h.1
theorem B4.sm (C:B4 q i pos): ∀ j,j<pos.length -> Sm q.symbols.toNat (pos.getD j 0):=by
 intro j hj;have h:=C.pos;unfold posOk at h;rw [zAN,zAT] at h;have hm:pos.getD j 0∈pos:=by rw [u8,zAM hj];exact zA7 hj
 have:=h.2 _ hm;rw [zAN,zAv,zAv] at this;exact this
theorem B4.len256 (C:B4 q i pos):0<pos.length/\ pos.length<=256:=by
 have h:=(E8 C.valid).1;have:=C.len;omega
theorem B4.cells (C:B4 q i pos):(∀ x∈(con q i).cells,0<=x/\ x<q.cells)/\ (con q i).cells.Nodup/\ (8<=(con q i).kind -> ∀ j,j<(con q i).cells.length -> (con q i).cells.getD j 0=(j:Int)):=by
 have h:=C.fine;unfold FK at h;simp only [zAN] at h;exact zC3.1 h.1.1.1.1.1
theorem B4.work (C:B4 q i pos):C2 (con q i) q.symbols.toNat pos:=by
 obtain ⟨h1,h2,_⟩:=C.cells;have hl:=C.len;have h3:=(E8 C.valid).1;have h4:=(E8 C.valid).2.1;refine ⟨fun a ha=>?_,?_,C.sm,by omega⟩
 ·rw [hl];refine h1 _ ?_;rw [u8,zAM ha];exact zA7 ha
 ·have:=Zp pos.length _ h2 fun x hx=>by rw [hl];exact h1 x hx
  omega
theorem B4.vals (C:B4 q i pos):FS q q.symbols.toNat:=by
 obtain ⟨_,h2,⟨h3,h4⟩,_⟩:=E8 C.valid;rw [X9] at h4;refine ⟨by omega,fun s hs=>h4 _ ?_⟩;rw [u8,zAM (by omega)];exact zA7 _
theorem B4.runs (C:B4 q i pos):H8 (con q i):=by
 have h:=C.fine;unfold FK at h;simp only [zAN,zAv] at h;have h2:=X9.1 h.2;refine ⟨by have:=h.1.2;omega,fun j hj=>(h2 _ ?_).2⟩;rw [u8,zAM hj];exact zA7 hj
theorem B4.two (C:B4 q i pos) (hk:(con q i).kind=6∨(con q i).kind=7):(con q i).cells.length=2:=by
 have h:=C.kind;unfold GL at h;rcases hk with hk | hk <;> rw [hk] at h <;> simpa using h
theorem B4.all (C:B4 q i pos) (hk:(con q i).kind=8∨(con q i).kind=9) (hd:EV pos=false):HZ (con q i) q pos:=by
 have h:=C.kind;have hl:=C.len;have OB:=C.len256
 have h1:((con q i).cells.length:Int)=q.cells:=by
  unfold GL at h;rcases hk with hk | hk <;> rw [hk] at h <;> simpa using h
 obtain ⟨_,_,_,⟨h5,h6⟩,_⟩:=E8 C.valid;exact ⟨by omega,fun j hj=>C.cells.2.2 (by omega) j (by omega),⟨h6,C.fit.nbrs⟩,by omega,OB.1,OB.2,fun j hj=>⟨(C.sm j hj).in64 (zAt C.work.k (by decide)),QG.1 hd j hj⟩⟩
end
def Vm (q:AA) (c:AC) (pos:List Int):Prop:=
 (c.kind=2 -> Tw c pos=true)/\ (c.kind=3 -> Qo q c pos=true)/\ (c.kind=5 -> LO c=true)/\ (c.kind=9 -> Z6 c q pos)
def HL (q:AA) (c:AC) (pos:List Int) (a s:Nat):Prop:=
 (c.kind=1/\ XO c pos a s)∨(c.kind=2/\ MH c pos a s=true)∨(c.kind=3/\ K9 q c pos a s=true)∨(c.kind=4/\ M6 q c pos a s=true)∨(c.kind=5/\ M4 c pos a s)∨
 (c.kind=6/\ IP (IS q c) c pos a s)∨(c.kind=7/\ IP (Ho c) c pos a s)∨(c.kind=8/\ OK c q pos a s)∨(c.kind=9/\ jh c q pos a s)
def KP (q:AA) (c:AC) (pos:List Int) (r:Bool×List Int):Prop:=(r.1=true↔Vm q c pos)/\ (r.1=true -> B3 c pos (List.replicate pos.length 0) c.cells.length (HL q c pos) r.2)
def LC (q:AA) (c:AC) (pos:List Int) (j s:Nat):Prop:=∃ a,a<c.cells.length/\ (c.cells.getD a 0).toNat=j/\ HL q c pos a s
structure UM (q:AA) (c:AC) (pos:List Int):Prop where
 nz: ∀ j,j<pos.length -> pos.getD j 0≠0
 ok:Vm q c pos
 left: ∀ j,j<pos.length -> ∃ s,s<64/\ tb (pos.getD j 0) s=true/\ ¬ LC q c pos j s
structure PR (q:AA) (c:AC) (pos x:List Int):Prop where
 len:x.length=pos.length
 live:UM q c pos -> ∀ j,j<pos.length -> CF (x.getD j 0)/\ ∀ s,tb (x.getD j 0) s=true↔tb (pos.getD j 0) s=true/\ ¬ LC q c pos j s
 dead: ¬ UM q c pos -> x=List.replicate pos.length 0
theorem PR.uniq {q:AA} {c:AC} {pos:List Int} (x y:List Int) (h:PR q c pos x) (h':PR q c pos y):x=y:=by
 by_cases hA:UM q c pos
 ·have e:x.length=y.length:=h.len.trans h'.len.symm;refine zFX e fun j h1 h2=>?_
  have hj:j<pos.length:=by rw [←h.len];exact h1
  have e1:x.getD j 0=x[j]:=by simp [h1]
  have e2:y.getD j 0=y[j]:=by simp [h2]
  rw [←e1,←e2];refine Qj (h.live hA j hj).1 (h'.live hA j hj).1 fun s _=>?_
  rw [zEi,(h.live hA j hj).2,(h'.live hA j hj).2]
 ·rw [h.dead hA,h'.dead hA]
section
variable {q:AA} {i:Int} {pos:List Int}
theorem K2:(List.replicate pos.length (0:Int)).length=pos.length:=zAl
theorem X1 (j:Nat):(List.replicate pos.length (0:Int)).getD j 0=0:=by
 rw [u8,zEA];split <;> rfl
theorem Xz: ∀ j,CF ((List.replicate pos.length (0:Int)).getD j 0):=fun j=>by rw [X1];exact ⟨by decide,by decide⟩
theorem db:CU pos (List.replicate pos.length 0) (fun _ _=>False) (List.replicate pos.length 0):=⟨⟨K2,Xz⟩,fun j s=>by simp⟩
theorem B3.congr {c:AC} {lost l:List Int} {D D':Nat -> Nat -> Prop} {m:Nat} (h:B3 c pos lost m D l) (hD: ∀ a s,D' a s↔D a s):B3 c pos lost m D' l:=by
 refine ⟨h.1,fun j s=>?_⟩;rw [h.2];simp only [hD]
def Hk (n:Nat) (q:AA) (c:AC) (pos:List Int):Option (Bool×List Int):=
 bif c.kind==1 then QB n c q pos pos.length (List.replicate pos.length 0) else bif c.kind==2 then QH n c q pos pos.length (List.replicate pos.length 0) else
 bif c.kind==3 then Oo n c q pos pos.length (List.replicate pos.length 0) else bif c.kind==4 then LT n c q pos pos.length (List.replicate pos.length 0) else
 bif c.kind==5 then Ov n c q pos pos.length (List.replicate pos.length 0) else bif c.kind==6 then OV n c q pos pos.length (List.replicate pos.length 0) else
 bif c.kind==7 then NO n c q pos pos.length (List.replicate pos.length 0) else bif c.kind==8 then XY n c q pos pos.length (List.replicate pos.length 0) else
 bif c.kind==9 then Vv n c q pos pos.length (List.replicate pos.length 0) else none
theorem sf (C:B4 q i pos) (hd:EV pos=false):Ae (fun n=>Hk n q (con q i) pos) (KP q (con q i) pos):=by
 have W:=C.work;have hz:(List.replicate pos.length (0:Int)).length=pos.length:=K2
 have all: ∀ k:Int,(con q i).kind=k -> ∀ {f:Nat -> Option (Bool×List Int)} {N:Nat} {ok:Bool} {D:Nat -> Nat -> Prop},(∀ n,N<=n -> ∃ l,f n=some (ok,l)/\ (ok=true -> B3 (con q i) pos (List.replicate pos.length 0) (con q i).cells.length D l)) -> (ok=true↔Vm q (con q i) pos) -> (∀ a s,HL q (con q i) pos a s↔D a s) -> Ae f (KP q (con q i) pos):=by
  intro k _ f N ok D h Du hD;refine ⟨N,fun n hn=>?_⟩;obtain ⟨l,h1,h2⟩:=h n hn;exact ⟨(ok,l),h1,Du,fun h3=>(h2 h3).congr hD⟩
 have kc:=SZ (SY C.kind);have Rt: ∀ {k:Int},(con q i).kind=k -> k≠2 -> k≠3 -> k≠5 -> k≠9 -> Vm q (con q i) pos:=fun hk h2 h3 h5 h9=>⟨fun h=>absurd (hk.symm.trans h) h2,fun h=>absurd (hk.symm.trans h) h3,fun h=>absurd (hk.symm.trans h) h5,fun h=>absurd (hk.symm.trans h) h9⟩
 rcases kc with hk | hk | hk | hk | hk | hk | hk | hk | hk
 ·refine Ae.eq (all 1 hk (f:=fun n=>QB n (con q i) q pos pos.length (List.replicate pos.length 0)) (N:=2*(con q i).cells.length+2) (ok:=true) (D:=XO (con q i) pos) (fun n hn=>?_) ⟨fun _=>Rt hk (by decide) (by decide) (by decide) (by decide),fun _=>rfl⟩ fun a s=>?_) fun n=>?_
  ·obtain ⟨l,h1,h2⟩:=zB6 (q:=q) W hz hn;exact ⟨l,h1,fun _=>h2⟩
  ·unfold HL;rw [hk];simp
  ·unfold Hk;rw [hk];rfl
 ·refine Ae.eq (all 2 hk (f:=fun n=>QH n (con q i) q pos pos.length (List.replicate pos.length 0)) (N:=2*(con q i).cells.length+3) (ok:=Tw (con q i) pos) (D:=fun a s=>MH (con q i) pos a s=true) (fun n hn=>?_) ⟨fun h=>⟨fun _=>h,fun h=>absurd (hk.symm.trans h) (by decide),fun h=>absurd (hk.symm.trans h) (by decide),fun h=>absurd (hk.symm.trans h) (by decide)⟩,fun h=>h.1 hk⟩ fun a s=>?_) fun n=>?_
  ·exact zCP (q:=q) W hz hn
  ·unfold HL;rw [hk];simp
  ·unfold Hk;rw [hk];rfl
 ·refine Ae.eq (all 3 hk (f:=fun n=>Oo n (con q i) q pos pos.length (List.replicate pos.length 0)) (N:=2*(con q i).cells.length+3) (ok:=Qo q (con q i) pos) (D:=fun a s=>K9 q (con q i) pos a s=true) (fun n hn=>?_) ⟨fun h=>⟨fun h=>absurd (hk.symm.trans h) (by decide),fun _=>h,fun h=>absurd (hk.symm.trans h) (by decide),fun h=>absurd (hk.symm.trans h) (by decide)⟩,fun h=>h.2.1 hk⟩ fun a s=>?_) fun n=>?_
  ·exact pY W C.vals hz hn
  ·unfold HL;rw [hk];simp
  ·unfold Hk;rw [hk];rfl
 ·refine Ae.eq (all 4 hk (f:=fun n=>LT n (con q i) q pos pos.length (List.replicate pos.length 0)) (N:=2*(con q i).cells.length+3) (ok:=true) (D:=fun a s=>M6 q (con q i) pos a s=true) (fun n hn=>?_) ⟨fun _=>Rt hk (by decide) (by decide) (by decide) (by decide),fun _=>rfl⟩ fun a s=>?_) fun n=>?_
  ·obtain ⟨l,h1,h2⟩:=sw W C.vals hz hn;exact ⟨l,h1,fun _=>h2⟩
  ·unfold HL;rw [hk];simp
  ·unfold Hk;rw [hk];rfl
 ·obtain ⟨l,⟨N,h1⟩,h2⟩:=sJ (q:=q) W C.runs hz Xz;refine Ae.eq (all 5 hk (N:=N) (ok:=LO (con q i)) (D:=M4 (con q i) pos) (fun n hn=>⟨l,h1 n hn,h2⟩) ⟨fun h=>⟨fun h=>absurd (hk.symm.trans h) (by decide),fun h=>absurd (hk.symm.trans h) (by decide),fun _=>h,fun h=>absurd (hk.symm.trans h) (by decide)⟩,fun h=>h.2.2.1 hk⟩ fun a s=>?_) fun n=>?_
  ·unfold HL;rw [hk];simp
  ·unfold Hk;rw [hk];rfl
 ·refine Ae.eq (all 6 hk (f:=fun n=>OV n (con q i) q pos pos.length (List.replicate pos.length 0)) (N:=0) (ok:=true) (D:=IP (IS q (con q i)) (con q i) pos) (fun n hn=>?_) ⟨fun _=>Rt hk (by decide) (by decide) (by decide) (by decide),fun _=>rfl⟩ fun a s=>?_) fun n=>?_
  ·obtain ⟨l,h1,h2⟩:=zDd (n:=n) W C.vals (C.two (.inl hk)) hz;exact ⟨l,h1,fun _=>h2⟩
  ·unfold HL;rw [hk];simp
  ·unfold Hk;rw [hk];rfl
 ·refine Ae.eq (all 7 hk (f:=fun n=>NO n (con q i) q pos pos.length (List.replicate pos.length 0)) (N:=0) (ok:=true) (D:=IP (Ho (con q i)) (con q i) pos) (fun n hn=>?_) ⟨fun _=>Rt hk (by decide) (by decide) (by decide) (by decide),fun _=>rfl⟩ fun a s=>?_) fun n=>?_
  ·obtain ⟨l,h1,h2⟩:=u5 (n:=n) (q:=q) W (C.two (.inr hk)) hz;exact ⟨l,h1,fun _=>h2⟩
  ·unfold HL;rw [hk];simp
  ·unfold Hk;rw [hk];rfl
 ·obtain ⟨l,⟨N,h1⟩,h2⟩:=zCe (C.all (.inl hk) hd) db;refine Ae.eq (all 8 hk (N:=N) (ok:=true) (D:=OK (con q i) q pos) (fun n hn=>⟨l,h1 n hn,fun _=>h2.by (C.all (.inl hk) hd)⟩) ⟨fun _=>Rt hk (by decide) (by decide) (by decide) (by decide),fun _=>rfl⟩ fun a s=>?_) fun n=>?_
  ·unfold HL;rw [hk];simp
  ·unfold Hk;rw [hk];rfl
 ·refine Ae.eq ((vi (C.all (.inr hk) hd) db).mono fun r hr=>⟨?_,fun h=>((hr.2 h).by (C.all (.inr hk) hd)).congr fun a s=>?_⟩) fun n=>?_
  ·rw [hr.1];exact ⟨fun h=>⟨fun h=>absurd (hk.symm.trans h) (by decide),fun h=>absurd (hk.symm.trans h) (by decide),fun h=>absurd (hk.symm.trans h) (by decide),fun _=>h⟩,fun h=>h.2.2.2 hk⟩
  ·unfold HL;rw [hk];simp
  ·unfold Hk;rw [hk];rfl
theorem pM {n:Nat} {o2:List Int} (hl:o2.length=pos.length) (OB:pos.length<=256) (hn:600<=n):
 ∃ x,x.length=pos.length/\ (∀ j,j<pos.length -> x.getD j 0=bits .andNot .i64 (pos.getD j 0) (o2.getD j 0))/\ IK q i pos n (.l2 pos.length (pos.length:Int) 0 o2 pos)=some (if EV x then List.replicate pos.length 0 else x):=by
 have lb:(256:Nat)<=LB:=by decide
 obtain ⟨n1,x,GP,_,e,hx,KU,Nh⟩:=HM (fun n (o3:List Int) k=>IK q i pos n (.l2 pos.length (pos.length:Int) k o2 o3)) pos.length 260
  (fun k o3=>o3.length=pos.length/\ (∀ j,j<k -> o3.getD j 0=bits .andNot .i64 (pos.getD j 0) (o2.getD j 0))/\ ∀ j,k<=j -> o3.getD j 0=pos.getD j 0) (fun n k o3 Gl hk hI=>by
   obtain ⟨h1,h2,h3⟩:=hI
   show ∃ s',Rj n (IK q i pos n) q i pos pos.length (pos.length:Int) (k:Int) o2 o3=_/\ _
   unfold Rj;simp only [zAL,zAs];rw [zAJ (by omega),zAI,zAE ⟨⟨by omega,by omega⟩,by omega,⟨by omega,by omega⟩,by omega,As.2 ⟨by omega,by omega⟩⟩];refine ⟨_,rfl,by rw [zAn];exact h1,fun j hj=>?_,fun j hj=>?_⟩
   ·by_cases e:k=j
    ·subst e;rw [Fw (by omega),h3 k (by omega)]
    ·rw [getD_set_ne e];exact h2 j (by omega)
   ·rw [getD_set_ne (by omega)];exact h3 j (by omega)) (n:=n) (s:=pos) (by omega) ⟨rfl,fun j hj=>absurd hj (zAo j),fun j _=>rfl⟩
 obtain ⟨n2,rfl⟩: ∃ n2,n1=n2+1:=⟨n1-1,by omega⟩;refine ⟨x,hx,KU,Eq.trans e ?_⟩
 show Rj n2 (IK q i pos n2) q i pos pos.length (pos.length:Int) (pos.length:Int) o2 x=_
 unfold Rj;rw [zAC (by omega),zAH,zAE hx.symm,Sd (by omega) (by omega),zAF];cases EV x
 ·rfl
 ·rw [zAI,zAE K2.symm];rfl
def Ui (n:Nat) (q:AA) (i:Int) (pos:List Int) (y2:Bool×List Int):Option (List Int):=
 bif (!y2.1) then (if pos.length=(List.replicate pos.length (0:Int)).length then some (List.replicate pos.length (0:Int)) else none) else IK q i pos n (.l1 y2.2)
theorem pN (C:B4 q i pos) (hd:EV pos=false) {n:Nat} (hn:601<=n) {y2:Bool×List Int} (hy:KP q (con q i) pos y2): ∃ x,Ui n q i pos y2=some x/\ PR q (con q i) pos x:=by
 have OB:=C.len256;have L:(1000000000000:Nat)=BA:=rfl;have nz:=QG.1 hd;obtain ⟨b,lost⟩:=y2;obtain ⟨Du,Wd⟩:=hy;unfold Ui;cases b with
 | false=>
  refine ⟨_,by rw [zEG,zAI,zAE K2.symm],K2,fun hA=>?_,fun _=>rfl⟩;have:=Du.2 hA.ok;cases this
 | true=>
  have Du:=Du.1 rfl;have Wd:B3 (con q i) pos (List.replicate pos.length 0) (con q i).cells.length (HL q (con q i) pos) lost:=Wd rfl;obtain ⟨n,rfl⟩: ∃ k,n=k+1:=⟨n-1,by omega⟩;obtain ⟨x,h1,h2,h3⟩:=pM (q:=q) (i:=i) (n:=n) Wd.1 OB.2 (by omega)
  have hx: ∀ j,j<pos.length -> CF (x.getD j 0)/\ ∀ s,tb (x.getD j 0) s=true↔tb (pos.getD j 0) s=true/\ ¬ LC q (con q i) pos j s:=fun j hj=>by
   rw [h2 j hj];refine ⟨Ks _ _ _,fun s=>?_⟩;rw [Uh,zAN,zEO,←zFY,Wd.2,X1];constructor
   ·rintro ⟨h4,h5⟩;refine ⟨h4,fun ⟨a,ha,e,hs⟩=>h5 (.inr ⟨a,ha,e,?_,hs⟩)⟩
    show tb (pos.getD ((con q i).cells.getD a 0).toNat 0) s=true
    rw [e];exact h4
   ·rintro ⟨h4,h5⟩;refine ⟨h4,fun h6=>h6.elim (fun h=>Mi h) fun ⟨a,ha,e,_,hs⟩=>h5 ⟨a,ha,e,hs⟩⟩
  have A2:Xg n pos=some pos:=by
   unfold Xg nQ;rw [zAE ⟨OB.1,trivial,⟨rfl,rfl⟩,by rw [←L];simp only [zEE];omega⟩,zAE (by simp)];rfl
  have e:IK q i pos (n+1) (.l1 lost)=some (if EV x then List.replicate pos.length 0 else x):=by
   show ZN n (IK q i pos n) q i pos lost=_
   unfold ZN;rw [A2,zAF];exact h3
  refine ⟨_,by rw [zD7,zAH];exact e,?_,fun hA j hj=>?_,fun hA=>?_⟩
  ·split
   ·exact K2
   ·exact h1
  ·rw [zAU]
   ·exact hx j hj
   ·rw [zFY,QG];intro j hj;rw [h1] at hj;obtain ⟨s,hs,h4,h5⟩:=hA.left j hj;exact (Qi (hx j hj).1).2 ⟨s,hs,((hx j hj).2 s).2 ⟨h4,h5⟩⟩
  ·rw [zAE];refine Classical.byContradiction fun h=>hA ?_
   rw [zFY,QG] at h;refine ⟨nz,Du,fun j hj=>?_⟩;obtain ⟨s,hs,h4⟩:=(Qi (hx j hj).1).1 (h j (by omega));exact ⟨s,hs,((hx j hj).2 s).1 h4⟩
theorem uA (C:B4 q i pos): ∃ x,Ev (fun n=>I7 n q i pos) x/\ PR q (con q i) pos x:=by
 have OB:=C.len256;have lb:(256:Nat)<=LB:=by decide
 have hi:0<=i/\ i<(q.cons.length:Int):=⟨C.i0,C.i1⟩;cases hd:EV pos
 ·suffices H:Ae (fun n=>I7 n q i pos) (PR q (con q i) pos) by
   obtain ⟨x,h1,h2⟩:=H.ev PR.uniq;exact ⟨x,h2,h1⟩
  obtain ⟨N,hN⟩:=Ae.bindU (sf C hd) (b:=fun n y2=>Ui n q i pos y2) (Q:=PR q (con q i) pos) ⟨601,fun n hn y2 hy=>pN C hd hn hy⟩;refine ⟨N+300,fun n hn=>?_⟩;obtain ⟨x,h1,h2⟩:=hN n (by omega);refine ⟨x,Eq.trans ?_ h1,h2⟩
  show I7 n q i pos=(Hk n q (con q i) pos).bind fun y2=>Ui n q i pos y2
  unfold I7 ZO;rw [zAE ⟨rfl,by omega,by omega⟩,Sd (by omega) (by omega),hd,zAF,zAH,zAE hi];have hc:q.cons.getD i.toNat default=con q i:=rfl;rw [hc];have kc:=SZ (SY C.kind);unfold Hk;rcases kc with hk | hk | hk | hk | hk | hk | hk | hk | hk <;> rw [hk] <;> rfl
 ·refine ⟨List.replicate pos.length 0,⟨300,fun n hn=>?_⟩,K2,fun hA=>?_,fun _=>rfl⟩
  ·show I7 n q i pos=_
   unfold I7 ZO;rw [zAE ⟨rfl,by omega,by omega⟩,Sd (by omega) (by omega),hd,zAF,zAI,zAE K2.symm]
  ·have:=QG.2 hA.nz;rw [hd] at this;cases this
def PrP (q:AA) (i:Int) (pos:List Int) (r:List Int×Int):Prop:=r.2=Gw q i pos/\ (r.2=0 -> PR q (con q i) pos r.1)/\ (r.2≠0 -> r.1= [])
theorem iV (hF:EA q) (hl:pos.length<=LB): ∃ r,Ev (fun n=>O5 n q i pos) r/\ PrP q i pos r:=by
 have hE:Ev (fun n=>QM n q i pos) (Gw q i pos):=⟨FA q+pos.length+1,fun n hn=>zCz hF (by omega) hl (by omega)⟩
 by_cases h0:Gw q i pos=0
 ·obtain ⟨x,h1,h2⟩:=uA (B4.of hF h0);refine ⟨(x,0),?_,h0.symm,fun _=>h2,fun h=>absurd rfl h⟩;refine Ev.eq (Ev.bind hE (b:=fun n y1=>bif (y1 != 0) then some (([]:List Int),y1) else (I7 n q i pos).bind fun y2=>some (y2,0)) ?_) fun n=>rfl
  rw [h0];exact Ev.bind h1 (b:=fun _ y2=>some (y2,0)) (Ev.now fun n=>rfl)
 ·refine ⟨([],Gw q i pos),?_,rfl,fun h=>absurd h h0,fun _=>rfl⟩;refine Ev.eq (Ev.bind hE (b:=fun n y1=>bif (y1 != 0) then some (([]:List Int),y1) else (I7 n q i pos).bind fun y2=>some (y2,0)) (Ev.now fun n=>?_)) fun n=>rfl
  have:(Gw q i pos != 0)=true:=by simpa using h0
  rw [this];rfl
end
end Go.Proofs.YtkjbblkieglmlaaGreatDoor
namespace Go.Proofs.YtkjbblkieglmlaaGreatDoor
open Go.RowKit
set_option maxRecDepth 100000
set_option maxHeartbeats 40000000
def zDm (n:Nat) (s_:Int):Option Unit:=
 some ()
def zDn (n:Nat) (s_:Int):Option Unit:=zDm n s_
theorem zDl {n:Nat} (s_:Int) {r:Unit} (h:zDn n s_=some r):EQ 107 [.int .u64 s_] [] (.fn 142 1 (L1 [.ref 0 0])) [some (.cells [.int .u64 s_])] true:=by
 refine ot Tryz.func107 fun B N=>?_
 revert r;apply gO;exact lE AB [2] [0]
inductive QT where
 | l1 (x3:Int)
def Kv (n:Nat) (self:QT -> Option (List Int)) (s_:Int) (x3:Int):Option (List Int):=
 if 0<=x3/\ x3<=(IntKind.u64.bits:Int) then
  bif ((s_/2 ^ (x3).toNat) != 0) then
   bif (decide (x3<64)) then
    bif ((bits .and .u64 (s_/2 ^ (x3).toNat) 1)==1) then
     if 0<=x3/\ x3<=(IntKind.u64.bits:Int) then
      bif ((bits .and .u64 (s_/2 ^ (x3).toNat) 1)==1) then
       Option.map (fun l=>x3::l) (
        if AL (x3+1) then
         self (.l1 (x3+1))
        else none)
      else
       if AL (x3+1) then
        self (.l1 (x3+1))
       else none
     else none
    else
     if AL (x3+1) then
      self (.l1 (x3+1))
     else none
   else
    some []
  else
   some []
 else none
def oK (n:Nat) (self:QT -> Option (List Int)) (s_:Int):Option (List Int):=
 self (.l1 0)
def Gy (s_:Int):Nat -> QT -> Option (List Int)
 | 0,_=>none
 | n+1,.l1 x3=>Kv n (Gy s_ n) s_ x3
def Kw (n:Nat) (s_:Int):Option (List Int):=oK n (Gy s_ n) s_
def dT (C:Ba Tryz.prog) (n:Nat) (s_:Int) (r:List Int):QT -> Prop
 | .l1 x3=>∀ m0:Nat,n<=m0 -> ∀ i:Nat,i<=C.encs.length -> C.encs.drop i=r.map BP -> Ap Tryz.prog GG Fence.wide none 1 (C.Y GG 1 i) (C.Q GG 1) (A3 m0 (BB (AW Tryz.f142) 0 [])) ⟨AG 25 [(0,.yl C.l),(1,.ref 0 0),(3,.i x3)],[some (.cells [.int .u64 s_])]⟩
theorem zDo (C:Ba Tryz.prog) (n:Nat) (self:QT -> Option (List Int)) (s_:Int) (AJ: ∀ pt r,self pt=some r -> dT C n s_ r pt) (x3:Int) (r:List Int) (h:Kv n self s_ x3=some r):dT C (n+1) s_ r (.l1 x3):=by
 intro m0 AE;intro i hi hd;refine rd AE fun m0 AE=>?_
 unfold Kv at h;obtain ⟨g0,h⟩:=Bs h;have p:=H0.g g0;rcases Br h with ⟨c0,h⟩ | ⟨c0,h⟩
 ·have p:=p.b 7 c0;rcases Br h with ⟨c1,h⟩ | ⟨c1,h⟩
  ·have p:=p.b 10 c1 |>.g g0
   rcases Br h with ⟨c2,h⟩ | ⟨c2,h⟩
   ·have p:=H0.g g0 |>.b 7 c0 |>.b 10 c1
    refine gs (AV 3 AB) [0] p (Cc (AW Tryz.f142) 3 [m0]) (AG 25 [(0,.yl C.l),(1,.ref 0 0),(3,.i x3)]) [some (.cells [.int .u64 s_])] ?_;obtain ⟨g1,h⟩:=Bs h;have p:=H0.g g1;rcases Br h with ⟨c0,h⟩ | ⟨c0,h⟩
    ·have p:=p.b 18 c0;obtain ⟨r,h2,rfl⟩:=KJ h;clear h;have h:=h2;clear h2;obtain ⟨hx,hi,hd⟩:=Tf hd;refine Ap.y (ops:=Ah Tryz.f142 3) HC.x 8 [0,1,3,24] [0] p (x:=BP x3) (AG 25 [(0,.yl C.l),(1,.ref 0 0),(3,.i x3),(24,.bool false)]) [some (.cells [.int .u64 s_])] (AG 25 [(0,.yl C.l),(1,.ref 0 0),(3,.i x3),(24,.bool true)]) [some (.cells [.int .u64 s_])] (by kernel_rfl) (by kernel_rfl) (by kernel_rfl) hx (by kernel_rfl) ?_ ?_
     ·generalize i+1=i at hi hd ⊢
      obtain ⟨g2,h⟩:=Bs h;have p:=H0.w 13 g2;exact gg AB [0] p (AJ _ _ h m0 AE i hi hd)
     ·exact TrI.e HC.x AB 6 H0 (by kernel_rfl) (.inr rfl)
    ·obtain ⟨g2,h⟩:=Bs h;have p:=p.b 18 c0 |>.w 13 g2
     exact gg AB [0] p (AJ _ _ h m0 AE i hi hd)
   ·obtain ⟨g1,h⟩:=Bs h;have p:=p.b 18 c2 |>.w 13 g1
    exact gg AB [0] p (AJ _ _ h m0 AE i hi hd)
  ·have p:=p.b 10 c1;cases h;exact TrI.e HC.x AB 10 p (by kernel_rfl) (.inl (by rw [OH hi hd]))
 ·have p:=p.b 7 c0;cases h;exact TrI.e HC.x AB 10 p (by kernel_rfl) (.inl (by rw [OH hi hd]))
theorem oL (C:Ba Tryz.prog) (s_:Int): ∀ (n:Nat) (pt:QT) (r:List Int),Gy s_ n pt=some r -> dT C n s_ r pt
 | 0,_,_,h=>by cases h
 | n+1,.l1 x3,r,h=>zDo C n (Gy s_ n) s_ (oL C s_ n) x3 r h
theorem zDp {n:Nat} (s_:Int) {r:List Int} (h:Kw n s_=some r) (C:Ba Tryz.prog) (hC:C.encs=r.map BP):Ap Tryz.prog GG Fence.wide none 1 (C.Y GG 1 0) (C.Q GG 1) [.code (AW Tryz.f142)] ⟨AG 25 [(0,.yl C.l),(1,.ref 0 0)],[some (.cells [.int .u64 s_])]⟩:=by
 suffices H: ∀ i:Nat,i<=C.encs.length -> C.encs.drop i=r.map BP -> Ap Tryz.prog GG Fence.wide none 1 (C.Y GG 1 i) (C.Q GG 1) [.code (AW Tryz.f142)] ⟨AG 25 [(0,.yl C.l),(1,.ref 0 0)],[some (.cells [.int .u64 s_])]⟩ from H 0 (zEj _) (by rw [zFD];exact hC)
 intro i hi hd;have AJ:=oL C s_ n;unfold Kw at h
 generalize Gy s_ n=self at h AJ
 unfold oK at h;have p:=H0;exact gg AB [0] p (en n (AJ _ _ h n Nat.le.refl i hi hd))
theorem dR {n:Nat} {s_:Int} {r:List Int} (h:Kw n s_=some r) (H:DH):EQ 107 [.int .u64 s_] H (.it H.length) (H++[some (.iter (r.map BP))]) true:=by
 refine ES.iterN (c:=L1 [.ref 0 0]) (h0:=[some (.cells [.int .u64 s_])]) (fn:=Tryz.f142) (zDl (n:=0) s_ (r:=()) rfl) (by kernel_rfl) Tryz.func142 (by kernel_rfl) (by kernel_rfl) (by kernel_rfl) (fun C hC=>?_) H;have e:DV.yl C.l::(List.range 1).map (L1 [.ref 0 0])++List.replicate (Tryz.f142.ntmps-(1+1)) .any=AG 25 [(0,.yl C.l),(1,.ref 0 0)]:=by kernel_rfl
 rw [e];exact zDp s_ h C hC
inductive LH where
 | s0 (I4:Int)
def gB:LH -> DH
 | .s0 I4=>[some (.cells [.i I4]),none]
def Q1 (n:Nat) (e5:Int) (I4:Int):Option LH:=
 if AL (I4+1) then
  some (.s0 (I4+1))
 else none
def qR (n:Nat) (e5:Int):LH -> Option LH
 | .s0 I4=>Q1 n e5 I4
def Uu (n:Nat) (e5:Int) (s:LH):Option LH:=qR n e5 s
theorem qQ (n:Nat) (l B:Nat) (N:Yd 2) (e5:Int) (s:LH) (r:LH) (h:Uu n e5 s=some r):TA l B N (Cd 2 [] 0 (gB r)) Tryz.f85 5 ⟨AG 10 [(2,.ref 0 0),(5,.it 1),(6,.i e5)],gB s⟩:=by
 cases s with
 | s0 I4=>
  replace h:Q1 n e5 I4=some r:=h;unfold Q1 at h;refine ag AB [0,1] H0 (AG 10 [(2,.ref 0 0)]) [some (.cells [.i I4]),none] fun N=>?_
  revert r;apply gO;exact gw 8 (jt (lF fun p=>rr AB [0,1] rfl p))
def Ut (n:Nat) (s_:Int):Option Int:=
 (Kw n (IntKind.u64.wrap s_)).bind fun y1=>
  (Bl (Uu n) y1 (.s0 0)).bind fun y2=>
   match y2 with
   | .s0 EB=>
    some EB
def Q2 (n:Nat) (s_:Int):Option Int:=Ut n s_
theorem gA {n:Nat} {s_:Int} {r:Int} (h:Q2 n s_=some r):EQ 85 [.i s_] [] (.i r) [] true:=by
 unfold Q2 Ut at h;refine ot Tryz.func85 fun B N=>?_
 revert r;apply gO
 exact cn fun y1 A8=>jc (dR A8 [some (.cells [.i 0])]) (cn fun y2 Bx=>fun p r h=>by
  refine gs AB [0,1] p (Fg (AW Tryz.f85) 5 []) (AG 10 [(2,.ref 0 0),(5,.it 1)]) [some (.cells [.i 0]),some (.iter ((y1).map BP))] ?_;refine r0 1 5 #[6] BP 2 Bx (qQ n) ?_;cases y2 with
  | s0 EB=>
   dsimp only at h
   revert r;apply gO;exact jt (lE AB [2] [0]))
end Go.Proofs.YtkjbblkieglmlaaGreatDoor
namespace Go.Proofs.YtkjbblkieglmlaaGreatDoor
open Go.RowKit
def CM (x:Int) (i:Nat):List Nat:=(List.range' i (16-i)).filter fun s=>tb x s
theorem Yk {x:Int} {i:Nat} (h:i<16):CM x i=if tb x i then i::CM x (i+1) else CM x (i+1):=by
 unfold CM;rw [show 16-i=(16-(i+1))+1 by omega,zF2,List.filter_cons]
theorem vW {x:Int} {s:Nat}:s∈CM x 0↔s<16/\ tb x s=true:=by
 unfold CM;rw [zE3,zFt];simp
theorem zDG (a:Int):bits .and .u64 a 1=bits .and .i64 a 1:=by
 show IntKind.u64.wrap ((BitVec.ofInt 64 a&&& BitVec.ofInt 64 1).toNat:Int)=IntKind.i64.wrap ((BitVec.ofInt 64 a&&& BitVec.ofInt 64 1).toNat:Int)
 have h:(BitVec.ofInt 64 a&&& BitVec.ofInt 64 1).toNat<=1:=by
  rw [BitVec.toNat_and];exact Nat.and_le_right
 generalize (BitVec.ofInt 64 a&&& BitVec.ofInt 64 1).toNat=m at h
 rw [IntKind.wrap_u64,zF0];omega
section
variable {x:Int}
theorem gD (h:Sm 16 x) {i:Nat} (h0:x/2 ^ i=0):CM x i= []:=by
 have AO:x<2 ^ i:=by
  have hp:(0:Int)<2 ^ i:=Int.pow_pos (by decide);have:=Int.mul_ediv_add_emod x (2 ^ i);have hm:=Int.emod_lt_of_pos x hp;rw [h0] at this;simp at this;omega
 unfold CM;rw [zFs];intro s hs ht;rw [zFt] at hs;have:tb x s=false:=Sm.hi (k:=i) ⟨h.1,AO⟩ hs.1;rw [this] at ht;cases ht
theorem dS (h:Sm 16 x): ∀ (k i:Nat),i+k=16 -> Ev (fun n=>Gy x n (.l1 (i:Int))) ((CM x i).map fun (s:Nat)=>(s:Int))
 | 0,i,e=>by
  have h0:x/2 ^ i=0:=by
   rw [show i=16 by omega];exact Int.ediv_eq_zero_of_lt h.1 h.2
  refine Ev.one fun n=>?_
  show Kv n (Gy x n) x (i:Int)=_
  unfold Kv;rw [zAE ⟨by omega,by show (i:Int)<=((64:Nat):Int);omega⟩,zAL,h0,gD h h0];rfl
 | k+1,i,e=>by
  have ih:=dS h k (i+1) (by omega);have r1:AL ((i:Int)+1):=As.2 ⟨by omega,by omega⟩;have g:(0:Int)<=(i:Int)/\ (i:Int)<=(IntKind.u64.bits:Int):=⟨by omega,by show (i:Int)<=((64:Nat):Int);omega⟩
  by_cases h0:x/2 ^ i=0
  ·refine Ev.one fun n=>?_
   show Kv n (Gy x n) x (i:Int)=_
   unfold Kv;rw [zAE g,zAL,h0,gD h h0];rfl
  ·have step: ∀ n,Gy x (n+1) (.l1 (i:Int))=bif tb x i then (Gy x n (.l1 ((i+1:Nat):Int))).map (fun l=>(i:Int)::l) else Gy x n (.l1 ((i+1:Nat):Int)):=fun n=>by
    show Kv n (Gy x n) x (i:Int)=_
    unfold Kv;rw [zAE g,zAL,zEy.2 h0,zAI,zAJ (by omega),zAI,zDG,Yh h (by decide) (by omega),zAE r1,show ((i+1:Nat):Int)=(i:Int)+1 by omega];cases tb x i
    ·rfl
    ·rw [zAI,zAI,zAE g]
   rw [Yk (by omega)];obtain ⟨N,ih⟩:=ih;refine ⟨N+1,fun n hn=>?_⟩;obtain ⟨n,rfl⟩: ∃ k,n=k+1:=⟨n-1,by omega⟩
   show Gy x (n+1) (.l1 (i:Int))=_
   rw [step n,show Gy x n (.l1 ((i+1:Nat):Int))=_ from ih n (by omega)];cases tb x i <;> rfl
theorem f7 {n:Nat}: ∀ (l:List Int) (k:Nat),k+l.length<=64 -> Bl (Uu n) l (.s0 (k:Int))=some (.s0 ((k+l.length:Nat):Int))
 | [],k,_=>rfl
 | a::l,k,h=>by
  rw [zAw] at h
  show (Q1 n a (k:Int)).bind _=_
  unfold Q1;rw [zAE (As.2 ⟨by omega,by omega⟩),zAF,show (k:Int)+1=((k+1:Nat):Int) by omega,f7 l (k+1) (by omega),zAw]
  congr 3
  omega
theorem qT:(CM x 0).length<=16:=by
 unfold CM;exact zAt (List.length_filter_le _ _) (by simp)
theorem qP (h:Sm 16 x):Ev (fun n=>Q2 n x) ((CM x 0).length:Int):=by
 have e:IntKind.u64.wrap x=x:=by
  have h1:=h.1;have h2:x<65536:=h.2;rw [IntKind.wrap_u64];omega
 have hl:=qT (x:=x);refine Ev.eq (Ev.bind (dS h 16 0 (by omega)) (b:=fun n y1=>(Bl (Uu n) y1 (.s0 0)).bind fun y2=>match y2 with | .s0 y=>some y) (Ev.now fun n=>?_)) fun n=>?_
 ·have:=f7 (n:=n) ((CM x 0).map fun (s:Nat)=>(s:Int)) 0 (by rw [zAq];omega);rw [zAs,zAq] at this;rw [show ((0:Nat):Int)=0 from rfl] at this;rw [this];rfl
 ·show Ut n x=_
  unfold Ut;rw [e];rfl
end
end Go.Proofs.YtkjbblkieglmlaaGreatDoor
namespace Go.Proofs.YtkjbblkieglmlaaGreatDoor
open Go.RowKit
theorem nJ {α:Type} {f g:α -> Bool}: ∀ (l:List α),(∀ x∈l,f x=true -> g x=true) -> l.countP f<=l.countP g
 | [],_=>zAp _
 | x::l,h=>by
  have h1:=nJ l fun y hy=>h y (zA5 _ hy)
  have h2:=h x zED;rw [zEx,zEx];cases hf:f x
  ·simp only [zDJ,zEr];omega
  ·rw [h2 hf];simp only [zEL];omega
theorem XS {α:Type} {f g:α -> Bool} {a:α} (hf:f a=false) (hg:g a=true): ∀ (l:List α),(∀ x∈l,f x=true -> g x=true) -> a∈l -> l.countP f+1<=l.countP g
 | [],_,h=>by cases h
 | x::l,h,ha=>by
  rw [zEx,zEx];rcases zA3.1 ha with rfl | ha
  ·have h1:=nJ l fun y hy=>h y (zA5 _ hy)
   rw [hf,hg,zAE rfl];simp only [zDJ,zEr];omega
  ·have h1:=XS hf hg l (fun y hy=>h y (zA5 _ hy)) ha;have h2:=h x zED;cases hx:f x
   ·simp only [zDJ,zEr];omega
   ·rw [h2 hx];simp only [zEL];omega
section
variable {q:AA} {i:Int} {p p':List Int}
section
variable {c:AC}
end
end
end Go.Proofs.YtkjbblkieglmlaaGreatDoor
namespace Go.Proofs.YtkjbblkieglmlaaGreatDoor
open Go.RowKit
section
variable {q:AA} {i:Int} {pos x:List Int}
theorem PR.sub {c:AC} (h:PR q c pos x) {j s:Nat} (hs:tb (x.getD j 0) s=true):j<pos.length/\ tb (pos.getD j 0) s=true:=by
 have hj:j<pos.length:=by
  refine zEq fun Cu=>?_
  rw [u8,zEV (by have:=h.len;omega)] at hs;exact Mi hs
 refine ⟨hj,?_⟩
 by_cases hA:UM q c pos
 ·exact (((h.live hA j hj).2 s).1 hs).1
 ·rw [h.dead hA,X1] at hs;exact absurd hs Mi
theorem PR.in64 {c:AC} (h:PR q c pos x) (j:Nat):CF (x.getD j 0):=by
 by_cases hA:UM q c pos
 ·by_cases hj:j<pos.length
  ·exact (h.live hA j hj).1
  ·rw [u8,zEV (by have:=h.len;omega)];exact ⟨by decide,by decide⟩
 ·rw [h.dead hA];exact Xz j
theorem IL (hv:CR q=true) {y:List Int}:posOk q y=true↔(y.length:Int)=q.cells/\ ∀ j,j<y.length -> Sm q.symbols.toNat (y.getD j 0):=by
 unfold posOk;rw [zAN,zDu,zAT];constructor
 ·rintro ⟨h1,h2⟩;refine ⟨h1,fun j hj=>?_⟩;have hm:y.getD j 0∈y:=by rw [u8,zAM hj];exact zA7 hj
  have:=h2 _ hm;rw [zAN,zAv,zAv] at this;exact this
 ·rintro ⟨h1,h2⟩;refine ⟨h1,fun z hz=>?_⟩;obtain ⟨j,hj,rfl⟩:=zEQ hz;have:=h2 j hj;rw [u8,zAM hj] at this;rw [zAN,zAv,zAv];exact this
end
section
variable {q:AA} {i:Int} {p p' x z:List Int}
end
section
variable {q:AA} {i:Int} {a b:List Int}
theorem uE (C:B4 q i a): ∃ x,Ev (fun n=>O5 n q i a) (x,0)/\ PR q (con q i) a x:=by
 obtain ⟨r,h1,h2,h3,_⟩:=iV (i:=i) C.fit (pos:=a) (zAt C.len256.2 (by decide));obtain ⟨x,e⟩:=r;have e0:e=0:=h2.trans C.check;subst e0;exact ⟨x,h1,h3 rfl⟩
theorem uF (hF:EA q) (hl:a.length<=LB) (h:Gw q i a≠0): ∃ e,e≠0/\ Ev (fun n=>O5 n q i a) ([],e):=by
 obtain ⟨r,h1,h2,_,h4⟩:=iV (i:=i) hF hl;obtain ⟨x,e⟩:=r;have h2:e=Gw q i a:=h2;have he:e≠0:=by rw [h2];exact h
 have:x= []:=h4 he;subst this;exact ⟨e,he,h1⟩
end
section
variable {q:AA} {i j:Int} {p p' x y z:List Int}
theorem PR.posOk (C:B4 q i p) (h:PR q (con q i) p x):posOk q x=true:=by
 refine (IL C.valid).2 ⟨by rw [h.len];exact C.len,fun j hj=>?_⟩;have hk:=C.work.k;refine Q0 (by omega) (h.in64 j) fun s hs _=>?_
 cases ht:tb (x.getD j 0) s with
 | false=>rfl
 | true=>
  obtain ⟨h1,h2⟩:=h.sub ht;rw [(C.sm j h1).hi hs] at h2;cases h2
end
end Go.Proofs.YtkjbblkieglmlaaGreatDoor
namespace Go.Proofs.YtkjbblkieglmlaaGreatDoor
open Go.RowKit
set_option maxRecDepth 100000
set_option maxHeartbeats 40000000
inductive Xa where
 | l1 (x4:Nat) (Cj:List Int) (Jp Do:Int) (o0:List (List Int))
def OL (n:Nat) (self:Xa -> Option ((List (List Int))×Int)) (g_:List (List Int)) (AT:List Bool) (x4:Nat) (Cj:List Int) (Jp Do:Int) (o0:List (List Int)):Option ((List (List Int))×Int):=
 bif (decide (Do<Jp)) then
  if 0<=Do/\ Do<(Cj.length:Int) then
   bif (decide ((Cj.getD ((Do).toNat) 0)>0)) then
    if AL ((Cj.getD ((Do).toNat) 0)-1)/\ ((0:Int)<=((Cj.getD ((Do).toNat) 0)-1)/\ ((Cj.getD ((Do).toNat) 0)-1)<(x4:Int))/\ 0+((((Cj.getD ((Do).toNat) 0)-1)).toNat)<o0.length/\ (o0.getD (0+((((Cj.getD ((Do).toNat) 0)-1)).toNat)) default).length+([Do]:List Int).length<=BA/\ AL (Do+1) then
     self (.l1 x4 Cj Jp (Do+1) (o0.set (0+((((Cj.getD ((Do).toNat) 0)-1)).toNat)) ((o0.getD (0+((((Cj.getD ((Do).toNat) 0)-1)).toNat)) default)++([Do]:List Int))))
    else none
   else
    if AL (Do+1) then
     self (.l1 x4 Cj Jp (Do+1) o0)
    else none
  else none
 else
  if x4=o0.length then
   some (o0,0)
  else none
def zCk (n:Nat) (self:Xa -> Option ((List (List Int))×Int)) (g_:List (List Int)) (AT:List Bool):Option ((List (List Int))×Int):=
 (JX n g_ ([AT]:List (List Bool))).bind fun y1=>
  bif (y1 != 0) then
   some (([]:List (List Int)),y1)
  else
   (parts n g_ AT).bind fun y2=>
    if (y2.2:Int)=y2.2/\ 0<=y2.2/\ (y2.2:Int)<=1000000000000 then
     self (.l1 ((y2.2).toNat) y2.1 (y2.1.length:Int) 0 (List.replicate ((y2.2).toNat) ([]:List Int)))
    else none
def Kr (g_:List (List Int)) (AT:List Bool):Nat -> Xa -> Option ((List (List Int))×Int)
 | 0,_=>none
 | n+1,.l1 x4 Cj Jp Do o0=>OL n (Kr g_ AT n) g_ AT x4 Cj Jp Do o0
def Xb (n:Nat) (g_:List (List Int)) (AT:List Bool):Option ((List (List Int))×Int):=zCk n (Kr g_ AT n) g_ AT
def zCm (n B:Nat) (N:Yd 0) (g_:List (List Int)) (AT:List Bool) (r:(List (List Int))×Int):Xa -> Prop
 | .l1 x4 Cj Jp Do o0=>∀ m0:Nat,n<=m0 -> TW B N (FQ Tryz.f79 0 (.tup 2 (L1 [.sl 1 r.1.length (AQ BS r.1),.i r.2])) []) (A3 m0 (BB (AW Tryz.f79) 0 [])) ⟨AG 48 [(4,.msl 0 1 0 x4),(25,.ints Cj),(26,.i Jp),(27,.i Do)],[some (.mo (.rws o0 none))]⟩
theorem zCn (B:Nat) (N:Yd 0) (g_:List (List Int)) (AT:List Bool):Al (Kr g_ AT) (zCm · B N g_ AT):=ia (fun _=>rfl) fun n AJ pt r h=>by
 cases pt
 case l1 x4 Cj Jp Do o0=>
  intro m0 AE;refine rd AE fun m0 AE=>?_
  revert r;apply gO;exact bi 28 (gi (bi 33 (gc (gn fun g1=>jw 36 g1 (jw 39 g1 (gc (gn fun g2=>jg g2 (gc (gn fun g3=>jg g3 (jg (And.intro (Eq.refl 0) (Eq.refl 1)) (jg (by decide:0<1) (jg g3 (gc (gi (jg g2 (jg (Eq.refl (0+((((Cj.getD ((Do).toNat) 0)-1)).toNat))) (jg g3 (gw 46 (lG AB [3] (AJ _ _ · m0 AE)))))))))))))))))) (gw 46 (lG AB [0] (AJ _ _ · m0 AE))))) (gn fun g0=>lF fun p=>ez AB [4,5] [0] p [0] (H0.g g0))
theorem zCj {n:Nat} {g_:List (List Int)} {AT:List Bool} {r:(List (List Int))×Int} (h:Xb n g_ AT=some r):EQ 79 [.sl 1 g_.length (AQ BS g_),.bools AT] [] (.tup 2 (L1 [.sl 1 r.1.length (AQ BS r.1),.i r.2])) [] true:=by
 refine ot Tryz.func79 fun B N=>?_
 revert r;apply gO;exact ja 12 0 1 (Fj (c:=QO) (L:=([AT]:List (List Bool))) (vals:=[.bools AT]) rfl ⟨⟨_,rfl,⟨A5,trivial⟩⟩,trivial⟩) (jz 12 0 (jg (Eq.refl 1) (cf Ws [none] fun y1=>bi 15 (lF fun p=>el AB [4,5] [] p [] H0 [.nils,.i y1] (AR.tupL (l:=[.nils,.i y1]) (l':=[.sl 1 (([]:List (List Int)).length) (AQ BS ([]:List (List Int))),.i y1]) rfl ⟨(AR.sl_nil _ _),A5,trivial⟩)) (cf ZX [none] fun _=>gi (jk 24 (lN AB [1] ((zCn B N g_ AT n) _ _ · n Nat.le.refl)))))))
inductive RY where
 | l1 (x6 x23:Int)
 | l2 (x6 x9 x23:Int) (Bu:List Int) (BM CA:Int)
def M8 (n:Nat) (self:RY -> Option (Bool×Int)) (g_:List (List Int)) (AT:List Bool) (x6 x23:Int):Option (Bool×Int):=
 bif (decide (x23<(g_.length:Int))) then
  if (0<=x23/\ x23<(g_.length:Int))/\ (0<=x23/\ x23<(AT.length:Int)) then
   bif (!(AT.getD ((x23).toNat) false)) then
    if AL (x23+1) then
     self (.l1 x6 (x23+1))
    else none
   else
    if AL (x6+1) then
     self (.l2 (x6+1) 0 x23 (g_.getD ((x23).toNat) []) (((g_.getD ((x23).toNat) []).length:Nat):Int) 0)
    else none
  else none
 else
  (parts n g_ AT).bind fun y1=>
   bif (decide (x6>=3)) then
    some ((y1.2==1),0)
   else
    some (false,0)
def M7 (n:Nat) (self:RY -> Option (Bool×Int)) (g_:List (List Int)) (AT:List Bool) (x6 x9 x23:Int) (Bu:List Int) (BM CA:Int):Option (Bool×Int):=
 bif (decide (CA<BM)) then
  if (0<=CA/\ CA<(Bu.length:Int))/\ (0<=(Bu.getD ((CA).toNat) 0)/\ (Bu.getD ((CA).toNat) 0)<(AT.length:Int)) then
   bif (AT.getD ((Bu.getD ((CA).toNat) 0).toNat) false) then
    if AL (x9+1)/\ AL (CA+1) then
     self (.l2 x6 (x9+1) x23 Bu BM (CA+1))
    else none
   else
    if AL (CA+1) then
     self (.l2 x6 x9 x23 Bu BM (CA+1))
    else none
  else none
 else
  bif (x9 != 2) then
   some (false,0)
  else
   if AL (x23+1) then
    self (.l1 x6 (x23+1))
   else none
def tJ (n:Nat) (self:RY -> Option (Bool×Int)) (g_:List (List Int)) (AT:List Bool):Option (Bool×Int):=
 (JX n g_ ([AT]:List (List Bool))).bind fun y1=>
  bif (y1 != 0) then
   some (false,y1)
  else
   self (.l1 0 0)
def HE (g_:List (List Int)) (AT:List Bool):Nat -> RY -> Option (Bool×Int)
 | 0,_=>none
 | n+1,.l1 x6 x23=>M8 n (HE g_ AT n) g_ AT x6 x23
 | n+1,.l2 x6 x9 x23 Bu BM CA=>M7 n (HE g_ AT n) g_ AT x6 x9 x23 Bu BM CA
def O0 (n:Nat) (g_:List (List Int)) (AT:List Bool):Option (Bool×Int):=tJ n (HE g_ AT n) g_ AT
def tL (n B:Nat) (N:Yd 0) (g_:List (List Int)) (AT:List Bool) (r:Bool×Int):RY -> Prop
 | .l1 x6 x23=>∀ m0:Nat,n<=m0 -> TW B N (FQ Tryz.f80 0 (.tup 2 (L1 [.bool r.1,.i r.2])) []) (A3 m0 (BB (AW Tryz.f80) 0 [])) ⟨AG 63 [(0,.sl 1 g_.length (AQ BS g_)),(1,.bools AT),(6,.i x6),(21,.sl 1 g_.length (AQ BS g_)),(22,.i (g_.length:Int)),(23,.i x23)],[]⟩
 | .l2 x6 x9 x23 Bu BM CA=>∀ m0 m1:Nat,n<=m0 -> n<=m1 -> TW B N (FQ Tryz.f80 0 (.tup 2 (L1 [.bool r.1,.i r.2])) []) (A3 m1 (BB (AW Tryz.f80) 2 [m0])) ⟨AG 63 [(0,.sl 1 g_.length (AQ BS g_)),(1,.bools AT),(6,.i x6),(9,.i x9),(21,.sl 1 g_.length (AQ BS g_)),(22,.i (g_.length:Int)),(23,.i x23),(35,.ints Bu),(36,.i BM),(37,.i CA)],[]⟩
theorem tM (B:Nat) (N:Yd 0) (g_:List (List Int)) (AT:List Bool):Al (HE g_ AT) (tL · B N g_ AT):=ia (fun _=>rfl) fun n AJ pt r h=>by
 cases pt
 case l1 x6 x23=>
  intro m0 AE;refine rd AE fun m0 AE=>?_
  revert r;apply gO;exact bi 24 (gc (gi (gi (bi 32 (gw 50 (lG AB [] (AJ _ _ · m0 AE))) (gw 34 (lN AB [] (AJ _ _ · m0 n AE Nat.le.refl))))))) (cf ZX [] fun _=>bi 58 (lE AB [4,5] []) (lE AB [4,5] []))
 case l2 x6 x9 x23 Bu BM CA=>
  intro m0 m1 AE Aw;have AE:=zEB AE;refine rd Aw fun m1 Aw=>?_
  revert r;apply gO;exact bi 38 (gc (gi (gi (bi 44 (gc (gw 46 (gw 47 (lG AB [] (AJ _ _ · m0 m1 AE Aw))))) (gw 47 (lG AB [] (AJ _ _ · m0 m1 AE Aw))))))) (bi 49 (lE AB [4,5] []) (gw 50 (lG AB [] (AJ _ _ · m0 AE))))
theorem tI {n:Nat} {g_:List (List Int)} {AT:List Bool} {r:Bool×Int} (h:O0 n g_ AT=some r):EQ 80 [.sl 1 g_.length (AQ BS g_),.bools AT] [] (.tup 2 (L1 [.bool r.1,.i r.2])) [] true:=by
 refine ot Tryz.func80 fun B N=>?_
 revert r;apply gO;exact ja 16 0 1 (Fj (c:=QO) (L:=([AT]:List (List Bool))) (vals:=[.bools AT]) rfl ⟨⟨_,rfl,⟨A5,trivial⟩⟩,trivial⟩) (jz 16 0 (jg (Eq.refl 1) (cf Ws [none] fun _=>bi 19 (lE AB [4,5] []) (lN AB [] ((tM B N g_ AT n) _ _ · n Nat.le.refl)))))
def kU (n:Nat) (Ai Dr:Int):Option Bool:=
 if 0<=Dr/\ Dr<=(IntKind.i64.bits:Int) then
  some ((bits .and .i64 (Ai/2 ^ (Dr).toNat) 1)==1)
 else none
def HN (n:Nat) (Ai Dr:Int):Option Bool:=kU n Ai Dr
theorem JJ {n:Nat} {Ai Dr:Int} {r:Bool} (h:HN n Ai Dr=some r):EQ 53 [.i Ai,.i Dr] [] (.bool r) [] true:=by
 refine ot Tryz.func53 fun B N=>?_
 revert r;apply gO;exact gi (lE AB [4] [])
def sQ (n:Nat) (AH cells:List Int) (Ai:Int):Option Unit:=
 some ()
def sS (n:Nat) (AH cells:List Int) (Ai:Int):Option Unit:=sQ n AH cells Ai
theorem sP {n:Nat} (AH cells:List Int) (Ai:Int) {r:Unit} (h:sS n AH cells Ai=some r):EQ 51 [.ints AH,.ints cells,.i Ai] [] (.fn 77 3 (L1 [.ref 0 0,.ref 1 0,.ref 2 0])) [some (.cells [.ints cells]),some (.cells [.i Ai]),some (.cells [.ints AH])] true:=by
 refine ot Tryz.func51 fun B N=>?_
 revert r;apply gO;exact lE AB [6] [1,2,0]
theorem qy:Av (Ah Tryz.f77 4) [([0,1,2,3,4],5)] [] []:=by unfold Av;kernel_rfl
def J2:Bi:=fun i=>match i with
 | 4=>.ord [([0,1,2,3,4],5)] [] []
 | _=>.no
inductive Ow where
 | l1 (x5 x10:Int)
def M3 (n:Nat) (self:Ow -> Option (List Int)) (B1:List Int) (Ai:Int) (AH:List Int) (x5 x10:Int):Option (List Int):=
 bif (decide (x10<(B1.length:Int))) then
  if (0<=x10/\ x10<(B1.length:Int))/\ (0<=(B1.getD ((x10).toNat) 0)/\ (B1.getD ((x10).toNat) 0)<(AH.length:Int)) then
   (HN n Ai (AH.getD ((B1.getD ((x10).toNat) 0).toNat) 0)).bind fun y1=>
    bif y1 then
     if AL (x5+1)/\ AL (x10+1) then
      self (.l1 (x5+1) (x10+1))
     else none
    else
     bif (decide (x5>0)) then
      bif (decide (x5>0)) then
       Option.map (fun l=>x5::l) (
        if AL (x10+1) then
         self (.l1 0 (x10+1))
        else none)
      else
       if AL (x10+1) then
        self (.l1 0 (x10+1))
       else none
     else
      if AL (x10+1) then
       self (.l1 0 (x10+1))
      else none
  else none
 else
  bif (decide (x5>0)) then
   Option.map (fun l=>x5::l) (some [])
  else
   some []
def gj (n:Nat) (self:Ow -> Option (List Int)) (B1:List Int) (Ai:Int) (AH:List Int):Option (List Int):=
 self (.l1 0 0)
def Gb (B1:List Int) (Ai:Int) (AH:List Int):Nat -> Ow -> Option (List Int)
 | 0,_=>none
 | n+1,.l1 x5 x10=>M3 n (Gb B1 Ai AH n) B1 Ai AH x5 x10
def Ox (n:Nat) (B1:List Int) (Ai:Int) (AH:List Int):Option (List Int):=gj n (Gb B1 Ai AH n) B1 Ai AH
def Yx (C:Ba Tryz.prog) (n:Nat) (B1:List Int) (Ai:Int) (AH:List Int) (r:List Int):Ow -> Prop
 | .l1 x5 x10=>∀ m0:Nat,n<=m0 -> ∀ i:Nat,i<=C.encs.length -> C.encs.drop i=r.map BP -> Ap Tryz.prog GG Fence.wide none 3 (C.Y GG 3 i) (C.Q GG 3) (A3 m0 (BB (AW Tryz.f77) 0 [])) ⟨AG 36 [(0,.yl C.l),(2,.ref 1 0),(3,.ref 2 0),(5,.i x5),(8,.ints B1),(9,.i (B1.length:Int)),(10,.i x10)],[some (.cells [.ints B1]),some (.cells [.i Ai]),some (.cells [.ints AH])]⟩
theorem sT (C:Ba Tryz.prog) (n:Nat) (self:Ow -> Option (List Int)) (B1:List Int) (Ai:Int) (AH:List Int) (AJ: ∀ pt r,self pt=some r -> Yx C n B1 Ai AH r pt) (x5 x10:Int) (r:List Int) (h:M3 n self B1 Ai AH x5 x10=some r):Yx C (n+1) B1 Ai AH r (.l1 x5 x10):=by
 intro m0 AE;intro i hi hd;refine rd AE fun m0 AE=>?_
 unfold M3 at h;have p:=H0;rcases Br h with ⟨c0,h⟩ | ⟨c0,h⟩
 ·obtain ⟨⟨g0,g1⟩,h⟩:=Bs h;obtain ⟨y1,A8,h⟩:=FP h;have p:=H0.b 11 c0 |>.g g0 |>.g qy |>.g g1 |>.c (fb (JJ A8) [some (.cells [.ints B1]),some (.cells [.i Ai]),some (.cells [.ints AH])])
  rcases Br h with ⟨c1,h⟩ | ⟨c1,h⟩
  ·obtain ⟨⟨g2,g3⟩,h⟩:=Bs h;have p:=p.b 19 c1 |>.w 21 g2 |>.w 30 g3
   exact gg J2 [0,1,2] p (AJ _ _ h m0 AE i hi hd)
  ·have p:=p.b 19 c1;rcases Br h with ⟨c2,h⟩ | ⟨c2,h⟩
   ·refine gs (AV 6 J2) [0,1,2] p (Cc (AW Tryz.f77) 6 [m0]) (AG 36 [(0,.yl C.l),(2,.ref 1 0),(3,.ref 2 0),(5,.i x5),(8,.ints B1),(9,.i (B1.length:Int)),(10,.i x10)]) [some (.cells [.ints B1]),some (.cells [.i Ai]),some (.cells [.ints AH])] ?_;have p:=H0;rcases Br h with ⟨c0,h⟩ | ⟨c0,h⟩
    ·have p:=H0.b 23 c0;obtain ⟨r,h2,rfl⟩:=KJ h;clear h;have h:=h2;clear h2;obtain ⟨hx,hi,hd⟩:=Tf hd;refine Ap.y (ops:=Ah Tryz.f77 6) HC.x 5 [0,2,3,8,9,10,29] [0,1,2] p (x:=BP x5) (AG 36 [(0,.yl C.l),(2,.ref 1 0),(3,.ref 2 0),(8,.ints B1),(9,.i (B1.length:Int)),(10,.i x10),(29,.bool false)]) [some (.cells [.ints B1]),some (.cells [.i Ai]),some (.cells [.ints AH])] (AG 36 [(0,.yl C.l),(2,.ref 1 0),(3,.ref 2 0),(8,.ints B1),(9,.i (B1.length:Int)),(10,.i x10),(29,.bool true)]) [some (.cells [.ints B1]),some (.cells [.i Ai]),some (.cells [.ints AH])] (by kernel_rfl) (by kernel_rfl) (by kernel_rfl) hx (by kernel_rfl) ?_ ?_
     ·generalize i+1=i at hi hd ⊢
      obtain ⟨g2,h⟩:=Bs h;have p:=H0.w 30 g2;exact gg J2 [0,1,2] p (AJ _ _ h m0 AE i hi hd)
     ·exact TrI.e HC.x J2 6 H0 (by kernel_rfl) (.inr rfl)
    ·obtain ⟨g2,h⟩:=Bs h;have p:=H0.b 23 c0 |>.w 30 g2
     exact gg J2 [0,1,2] p (AJ _ _ h m0 AE i hi hd)
   ·obtain ⟨g2,h⟩:=Bs h;have p:=p.b 23 c2 |>.w 30 g2
    exact gg J2 [0,1,2] p (AJ _ _ h m0 AE i hi hd)
 ·have p:=H0.b 11 c0;rcases Br h with ⟨c1,h⟩ | ⟨c1,h⟩
  ·have p:=p.b 32 c1;refine gs (AV 10 J2) [0,1,2] p (Cc (AW Tryz.f77) 10 []) (AG 36 [(0,.yl C.l),(5,.i x5)]) [some (.cells [.ints B1]),some (.cells [.i Ai]),some (.cells [.ints AH])] ?_;have p:=H0;obtain ⟨r,h2,rfl⟩:=KJ h;cases h2;obtain ⟨hx,hi,hd⟩:=Tf hd;exact Ap.yE (ops:=Ah Tryz.f77 10) HC.x 2 p (x:=BP x5) (by kernel_rfl) (by kernel_rfl) (by kernel_rfl) hx (OH hi hd)
  ·have p:=p.b 32 c1;cases h;exact TrI.e HC.x J2 14 p (by kernel_rfl) (.inl (by rw [OH hi hd]))
theorem gm (C:Ba Tryz.prog) (B1:List Int) (Ai:Int) (AH:List Int): ∀ (n:Nat) (pt:Ow) (r:List Int),Gb B1 Ai AH n pt=some r -> Yx C n B1 Ai AH r pt
 | 0,_,_,h=>by cases h
 | n+1,.l1 x5 x10,r,h=>sT C n (Gb B1 Ai AH n) B1 Ai AH (gm C B1 Ai AH n) x5 x10 r h
theorem sU {n:Nat} (B1:List Int) (Ai:Int) (AH:List Int) {r:List Int} (h:Ox n B1 Ai AH=some r) (C:Ba Tryz.prog) (hC:C.encs=r.map BP):Ap Tryz.prog GG Fence.wide none 3 (C.Y GG 3 0) (C.Q GG 3) [.code (AW Tryz.f77)] ⟨AG 36 [(0,.yl C.l),(1,.ref 0 0),(2,.ref 1 0),(3,.ref 2 0)],[some (.cells [.ints B1]),some (.cells [.i Ai]),some (.cells [.ints AH])]⟩:=by
 suffices H: ∀ i:Nat,i<=C.encs.length -> C.encs.drop i=r.map BP -> Ap Tryz.prog GG Fence.wide none 3 (C.Y GG 3 i) (C.Q GG 3) [.code (AW Tryz.f77)] ⟨AG 36 [(0,.yl C.l),(1,.ref 0 0),(2,.ref 1 0),(3,.ref 2 0)],[some (.cells [.ints B1]),some (.cells [.i Ai]),some (.cells [.ints AH])]⟩ from H 0 (zEj _) (by rw [zFD];exact hC)
 intro i hi hd;have AJ:=gm C B1 Ai AH n;unfold Ox at h
 generalize Gb B1 Ai AH n=self at h AJ
 unfold gj at h;have p:=H0;exact gg J2 [0,1,2] p (en n (AJ _ _ h n Nat.le.refl i hi hd))
theorem sR {n:Nat} {AH:List Int} {cells:List Int} {Ai:Int} {r:List Int} (h:Ox n cells Ai AH=some r) (H:DH):EQ 51 [.ints AH,.ints cells,.i Ai] H (.it H.length) (H++[some (.iter (r.map BP))]) true:=by
 refine ES.iterN (c:=L1 [.ref 0 0,.ref 1 0,.ref 2 0]) (h0:=[some (.cells [.ints cells]),some (.cells [.i Ai]),some (.cells [.ints AH])]) (fn:=Tryz.f77) (sP (n:=0) AH cells Ai (r:=()) rfl) (by kernel_rfl) Tryz.func77 (by kernel_rfl) (by kernel_rfl) (by kernel_rfl) (fun C hC=>?_) H;have e:DV.yl C.l::(List.range 3).map (L1 [.ref 0 0,.ref 1 0,.ref 2 0])++List.replicate (Tryz.f77.ntmps-(3+1)) .any=AG 36 [(0,.yl C.l),(1,.ref 0 0),(2,.ref 1 0),(3,.ref 2 0)]:=by kernel_rfl
 rw [e];exact sU cells Ai AH h C hC
inductive Ku where
 | s0
 | s1 (En:Nat) (De:List Int)
def oD:Ku -> DH
 | .s0=>[none,some (.cells [.nils])]
 | .s1 En De=>[none,some (.cells [.msl 2 1 0 En]),some (.ints De)]
def UD (n:Nat) (e6:Int):Option Ku:=
 if (0=0/\ 1=([e6]:List Int).length)/\ 0<([e6]:List Int).length/\ ([e6]:List Int).length<=BA then
  some (.s1 (([e6]:List Int).length) ([e6]:List Int))
 else none
def UC (n:Nat) (e6:Int) (En:Nat) (De:List Int):Option Ku:=
 if (0=0/\ 1=([e6]:List Int).length)/\ (0=0/\ En=De.length)/\ De.length+([e6]:List Int).length<=BA then
  some (.s1 (De.length+([e6]:List Int).length) (De++([e6]:List Int)))
 else none
def zDa (n:Nat) (e6:Int):Ku -> Option Ku
 | .s0=>UD n e6
 | .s1 En De=>UC n e6 En De
def Xr (n:Nat) (e6:Int) (s:Ku):Option Ku:=zDa n e6 s
theorem zDZ (n:Nat) (l B:Nat) (N:Yd 2) (e6:Int) (s:Ku) (r:Ku) (h:Xr n e6 s=some r):TA l B N (Cd 2 [] 0 (oD r)) Tryz.f76 6 ⟨AG 13 [(2,.ref 1 0),(6,.it 0),(7,.i e6)],oD s⟩:=by
 cases s with
 | s0=>
  replace h:UD n e6=some r:=h;unfold UD at h;refine ag AB [0,1] H0 (AG 13 [(2,.ref 1 0),(5,.i e6)]) [none,some (.cells [.nils])] fun N=>?_
  revert r;apply gO;exact gi (jt (lF fun p=>rr AB [0,1,3] rfl p))
 | s1 En De=>
  replace h:UC n e6 En De=some r:=h;unfold UC at h;refine ag AB [0,1,2] H0 (AG 13 [(2,.ref 1 0),(5,.i e6)]) [none,some (.cells [.msl 2 1 0 En]),some (.ints De)] fun N=>?_
  revert r;apply gO;exact gi (jt (lF fun p=>rr AB [0,1,4] rfl p))
def dK (n:Nat) (l:List Int):Option ((List Int)):=
 (Bl (Xr n) l (.s0)).bind fun y1=>
  match y1 with
  | .s0=>
   some ([]:List Int)
  | .s1 Of Mc=>
   if Of=Mc.length then
    some Mc
   else none
def Xs (n:Nat) (l:List Int):Option ((List Int)):=dK n l
theorem zDY {n:Nat} {l:List Int} {r:(List Int)} (h:Xs n l=some r):EQ 76 [.nils,.it 0] [some (.iter ((l).map BP))] (.ints r) [none] false:=by
 unfold Xs dK at h;refine ot Tryz.func76 fun B N=>?_
 revert r;apply gO
 exact cn fun y1 A8=>fun p r h=>by
  refine gs AB [0,1] p (Fg (AW Tryz.f76) 6 []) (AG 13 [(2,.ref 1 0),(6,.it 0)]) [some (.iter ((l).map BP)),some (.cells [.nils])] ?_;refine r0 0 6 #[7] BP 2 A8 (zDZ n) ?_;cases y1 with
  | s0=>
   dsimp only at h
   revert r;apply gO;exact lF fun p=>el AB [4] [0] p [] H0 [.nils] AR.ints_nil
  | s1 Of Mc=>
   dsimp only at h
   revert r;apply gO;exact gn fun g0=>lF fun p=>ez AB [4] [0,2] p [1] (H0.g g0)
def ca (n:Nat) (l:List Int):Option ((List Int)):=
 (Xs n l).bind fun y1=>
  some y1
def OM (n:Nat) (l:List Int):Option ((List Int)):=ca n l
theorem zCr {n:Nat} {l:List Int} {r:(List Int)} (h:OM n l=some r):EQ 50 [.it 0] [some (.iter ((l).map BP))] (.ints r) [none] false:=by
 unfold OM ca at h;refine ot Tryz.func50 fun B N=>?_
 revert r;apply gO;exact ce zDY [0] [some (.iter ((l).map BP))] fun _=>lE AB [2] [0]
inductive XM where
 | l1 (x5 x10:Int)
def Th (n:Nat) (self:XM -> Option Bool) (AH cells:List Int) (x5 x10:Int):Option Bool:=
 bif (decide (x10<(cells.length:Int))) then
  if (0<=x10/\ x10<(cells.length:Int))/\ (0<=(cells.getD ((x10).toNat) 0)/\ (cells.getD ((x10).toNat) 0)<(AH.length:Int)) then
   (HN n x5 (AH.getD ((cells.getD ((x10).toNat) 0).toNat) 0)).bind fun y1=>
    bif y1 then
     some false
    else
     if (0<=AH.getD ((cells.getD ((x10).toNat) 0).toNat) 0/\ AH.getD ((cells.getD ((x10).toNat) 0).toNat) 0<=(IntKind.i64.bits:Int))/\ AL (x10+1) then
      self (.l1 (bits .or .i64 x5 (IntKind.i64.wrap (1*2 ^ (AH.getD ((cells.getD ((x10).toNat) 0).toNat) 0).toNat))) (x10+1))
     else none
  else none
 else
  some true
def zB3 (n:Nat) (self:XM -> Option Bool) (AH cells:List Int):Option Bool:=
 self (.l1 0 0)
def MG (AH cells:List Int):Nat -> XM -> Option Bool
 | 0,_=>none
 | n+1,.l1 x5 x10=>Th n (MG AH cells n) AH cells x5 x10
def XN (n:Nat) (AH cells:List Int):Option Bool:=zB3 n (MG AH cells n) AH cells
def zB4 (n B:Nat) (N:Yd 0) (AH cells:List Int) (r:Bool):XM -> Prop
 | .l1 x5 x10=>∀ m0:Nat,n<=m0 -> TW B N (FQ Tryz.f46 0 (.bool r) []) (A3 m0 (BB (AW Tryz.f46) 0 [])) ⟨AG 28 [(0,.ints AH),(5,.i x5),(8,.ints cells),(9,.i (cells.length:Int)),(10,.i x10)],[]⟩
theorem zB5 (B:Nat) (N:Yd 0) (AH cells:List Int):Al (MG AH cells) (zB4 · B N AH cells):=ia (fun _=>rfl) fun n AJ pt r h=>by
 cases pt
 case l1 x5 x10=>
  intro m0 AE;refine rd AE fun m0 AE=>?_
  revert r;apply gO;exact bi 11 (gc (gi (gn fun g1=>jg g1 (cf JJ [] fun _=>bi 19 (lE AB [4] []) (jg g1 (gc (gi (gw 27 (lG AB [] (AJ _ _ · m0 AE)))))))))) (lE AB [4] [])
theorem zB2 {n:Nat} {AH cells:List Int} {r:Bool} (h:XN n AH cells=some r):EQ 46 [.ints AH,.ints cells] [] (.bool r) [] true:=by
 refine ot Tryz.func46 fun B N=>?_
 revert r;apply gO;exact lN AB [] ((zB5 B N AH cells n) _ _ · n Nat.le.refl)
inductive XT where
 | l1 (x6 Ad:Int)
def Tx (n:Nat) (self:XT -> Option Int) (AH cells:List Int) (Ai:Int) (x6 Ad:Int):Option Int:=
 bif (decide (Ad<(cells.length:Int))) then
  if (0<=Ad/\ Ad<(cells.length:Int))/\ (0<=(cells.getD ((Ad).toNat) 0)/\ (cells.getD ((Ad).toNat) 0)<(AH.length:Int)) then
   (HN n Ai (AH.getD ((cells.getD ((Ad).toNat) 0).toNat) 0)).bind fun y1=>
    bif y1 then
     if AL (x6+1)/\ AL (Ad+1) then
      self (.l1 (x6+1) (Ad+1))
     else none
    else
     if AL (Ad+1) then
      self (.l1 x6 (Ad+1))
     else none
  else none
 else
  some x6
def zCW (n:Nat) (self:XT -> Option Int) (AH cells:List Int) (Ai:Int):Option Int:=
 self (.l1 0 0)
def QI (AH cells:List Int) (Ai:Int):Nat -> XT -> Option Int
 | 0,_=>none
 | n+1,.l1 x6 Ad=>Tx n (QI AH cells Ai n) AH cells Ai x6 Ad
def XU (n:Nat) (AH cells:List Int) (Ai:Int):Option Int:=zCW n (QI AH cells Ai n) AH cells Ai
def zCX (n B:Nat) (N:Yd 0) (AH cells:List Int) (Ai:Int) (r:Int):XT -> Prop
 | .l1 x6 Ad=>∀ m0:Nat,n<=m0 -> TW B N (FQ Tryz.f47 0 (.i r) []) (A3 m0 (BB (AW Tryz.f47) 0 [])) ⟨AG 25 [(0,.ints AH),(2,.i Ai),(6,.i x6),(9,.ints cells),(10,.i (cells.length:Int)),(11,.i Ad)],[]⟩
theorem zCY (B:Nat) (N:Yd 0) (AH cells:List Int) (Ai:Int):Al (QI AH cells Ai) (zCX · B N AH cells Ai):=ia (fun _=>rfl) fun n AJ pt r h=>by
 cases pt
 case l1 x6 Ad=>
  intro m0 AE;refine rd AE fun m0 AE=>?_
  revert r;apply gO;exact bi 12 (gc (gi (gi (cf JJ [] fun _=>bi 20 (gc (gw 22 (gw 23 (lG AB [] (AJ _ _ · m0 AE))))) (gw 23 (lG AB [] (AJ _ _ · m0 AE))))))) (lE AB [6] [])
theorem zCV {n:Nat} {AH cells:List Int} {Ai:Int} {r:Int} (h:XU n AH cells Ai=some r):EQ 47 [.ints AH,.ints cells,.i Ai] [] (.i r) [] true:=by
 refine ot Tryz.func47 fun B N=>?_
 revert r;apply gO;exact lN AB [] ((zCY B N AH cells Ai n) _ _ · n Nat.le.refl)
inductive Un where
 | l1 (x6 Ad:Int)
def Qp (n:Nat) (self:Un -> Option Int) (values AH cells:List Int) (x6 Ad:Int):Option Int:=
 bif (decide (Ad<(cells.length:Int))) then
  if (0<=Ad/\ Ad<(cells.length:Int))/\ (0<=(cells.getD ((Ad).toNat) 0)/\ (cells.getD ((Ad).toNat) 0)<(AH.length:Int))/\ (0<=(AH.getD ((cells.getD ((Ad).toNat) 0).toNat) 0)/\ (AH.getD ((cells.getD ((Ad).toNat) 0).toNat) 0)<(values.length:Int))/\ AL (x6+(values.getD ((AH.getD ((cells.getD ((Ad).toNat) 0).toNat) 0).toNat) 0))/\ AL (Ad+1) then
   self (.l1 (x6+(values.getD ((AH.getD ((cells.getD ((Ad).toNat) 0).toNat) 0).toNat) 0)) (Ad+1))
  else none
 else
  some x6
def pi (n:Nat) (self:Un -> Option Int) (values AH cells:List Int):Option Int:=
 self (.l1 0 0)
def Oq (values AH cells:List Int):Nat -> Un -> Option Int
 | 0,_=>none
 | n+1,.l1 x6 Ad=>Qp n (Oq values AH cells n) values AH cells x6 Ad
def Uo (n:Nat) (values AH cells:List Int):Option Int:=pi n (Oq values AH cells n) values AH cells
def pj (n B:Nat) (N:Yd 0) (values AH cells:List Int) (r:Int):Un -> Prop
 | .l1 x6 Ad=>∀ m0:Nat,n<=m0 -> TW B N (FQ Tryz.f48 0 (.i r) []) (A3 m0 (BB (AW Tryz.f48) 0 [])) ⟨AG 26 [(0,.ints values),(1,.ints AH),(6,.i x6),(9,.ints cells),(10,.i (cells.length:Int)),(11,.i Ad)],[]⟩
theorem pk (B:Nat) (N:Yd 0) (values AH cells:List Int):Al (Oq values AH cells) (pj · B N values AH cells):=ia (fun _=>rfl) fun n AJ pt r h=>by
 cases pt
 case l1 x6 Ad=>
  intro m0 AE;refine rd AE fun m0 AE=>?_
  revert r;apply gO;exact bi 12 (gc (gi (gc (gi (gc (gi (gc (gw 23 (gw 24 (lG AB [] (AJ _ _ · m0 AE))))))))))) (lE AB [6] [])
theorem ph {n:Nat} {values AH cells:List Int} {r:Int} (h:Uo n values AH cells=some r):EQ 48 [.ints values,.ints AH,.ints cells] [] (.i r) [] true:=by
 refine ot Tryz.func48 fun B N=>?_
 revert r;apply gO;exact lN AB [] ((pk B N values AH cells n) _ _ · n Nat.le.refl)
inductive VD where
 | l1 (x7 A4:Int)
def RV (n:Nat) (self:VD -> Option Bool) (values AH cells:List Int) (x7 A4:Int):Option Bool:=
 bif (decide (A4<(cells.length:Int))) then
  if (0<=A4/\ A4<(cells.length:Int))/\ (0<=(cells.getD ((A4).toNat) 0)/\ (cells.getD ((A4).toNat) 0)<(AH.length:Int))/\ (0<=(AH.getD ((cells.getD ((A4).toNat) 0).toNat) 0)/\ (AH.getD ((cells.getD ((A4).toNat) 0).toNat) 0)<(values.length:Int)) then
   bif (decide ((values.getD ((AH.getD ((cells.getD ((A4).toNat) 0).toNat) 0).toNat) 0)<=x7)) then
    some false
   else
    if AL (A4+1) then
     self (.l1 (values.getD ((AH.getD ((cells.getD ((A4).toNat) 0).toNat) 0).toNat) 0) (A4+1))
    else none
  else none
 else
  some true
def tF (n:Nat) (self:VD -> Option Bool) (values AH cells:List Int):Option Bool:=
 self (.l1 (-1) 0)
def LU (values AH cells:List Int):Nat -> VD -> Option Bool
 | 0,_=>none
 | n+1,.l1 x7 A4=>RV n (LU values AH cells n) values AH cells x7 A4
def VE (n:Nat) (values AH cells:List Int):Option Bool:=tF n (LU values AH cells n) values AH cells
def tG (n B:Nat) (N:Yd 0) (values AH cells:List Int) (r:Bool):VD -> Prop
 | .l1 x7 A4=>∀ m0:Nat,n<=m0 -> TW B N (FQ Tryz.f49 0 (.bool r) []) (A3 m0 (BB (AW Tryz.f49) 0 [])) ⟨AG 33 [(0,.ints values),(1,.ints AH),(7,.i x7),(10,.ints cells),(11,.i (cells.length:Int)),(12,.i A4)],[]⟩
theorem tH (B:Nat) (N:Yd 0) (values AH cells:List Int):Al (LU values AH cells) (tG · B N values AH cells):=ia (fun _=>rfl) fun n AJ pt r h=>by
 cases pt
 case l1 x7 A4=>
  intro m0 AE;refine rd AE fun m0 AE=>?_
  revert r;apply gO;exact bi 13 (gc (gi (gc (gn fun g1=>jg g1 (gn fun g2=>jg g2 (bi 24 (lE AB [6] []) (jg g1 (jg g2 (gw 32 (lG AB [] (AJ _ _ · m0 AE))))))))))) (lE AB [6] [])
theorem tE {n:Nat} {values AH cells:List Int} {r:Bool} (h:VE n values AH cells=some r):EQ 49 [.ints values,.ints AH,.ints cells] [] (.bool r) [] true:=by
 refine ot Tryz.func49 fun B N=>?_
 revert r;apply gO;exact lN AB [] ((tH B N values AH cells n) _ _ · n Nat.le.refl)
def oG (n:Nat) (a b_ n_:Int):Option Bool:=
 if AL (a-b_)/\ AL (b_-a) then
  some (decide ((if (b_-a)>(a-b_) then (b_-a) else (a-b_))>=n_))
 else none
def dN (n:Nat) (a b_ n_:Int):Option Bool:=oG n a b_ n_
theorem zDf {n:Nat} {a b_ n_:Int} {r:Bool} (h:dN n a b_ n_=some r):EQ 52 [.i a,.i b_,.i n_] [] (.bool r) [] true:=by
 refine ot Tryz.func52 fun B N=>?_
 revert r;apply gO;exact gc (gw 9 (gw 12 (lE AB [6] [])))
theorem re:Av (Ah Tryz.f78 0) [([0,1,2,3,4,5,6],7)] [8] [9]:=by unfold Av;kernel_rfl
def qX:Bi:=fun i=>match i with
 | 0=>.ord [([0,1,2,3,4,5,6],7)] [8] [9]
 | _=>.no
def jX (n:Nat) (c_ Ai:Int) (AH:List Int) (ln:Nat) (mk:List Bool):Option ((List Bool)):=
 if 0<=c_/\ c_<(AH.length:Int) then
  (HN n Ai (AH.getD ((c_).toNat) 0)).bind fun y1=>
   if (0<=c_/\ c_<(ln:Int))/\ 0+((c_).toNat)<mk.length then
    some (mk.set (0+((c_).toNat)) y1)
   else none
 else none
def Z0 (n:Nat) (c_ Ai:Int) (AH:List Int) (ln:Nat) (mk:List Bool):Option ((List Bool)):=jX n c_ Ai AH ln mk
theorem vZ {n:Nat} {c_ Ai:Int} {AH:List Int} {ln:Nat} {mk:List Bool} {r:(List Bool)} (h:Z0 n c_ Ai AH ln mk=some r):EQ 78 [.i c_,.ref 0 0,.ref 1 0,.ref 2 0] [some (.cells [.i Ai]),some (.cells [.ints AH]),some (.cells [.msl 3 1 0 ln]),some (.bools mk)] (.tup 0 (fun j=>([]:List DV).getD j .any)) [some (.cells [.i Ai]),some (.cells [.ints AH]),some (.cells [.msl 3 1 0 ln]),some (.bools r)] false:=by
 refine ot Tryz.func78 fun B N=>?_
 revert r;apply gO;exact jg re (gi (cf JJ [some (.cells [.i Ai]),some (.cells [.ints AH]),some (.cells [.msl 3 1 0 ln]),some (.bools mk)] fun _=>gc (gi (gi (lE qX [] [0,1,2,3])))))
inductive V8 where
 | l1 (Cj:Int) (o1:List Bool)
def Sc (n:Nat) (self:V8 -> Option Bool) (EE:List (List Int)) (AH cells:List Int) (Ai:Int) (loop:Bool) (Cj:Int) (o1:List Bool):Option Bool:=
 bif (decide (Cj<(cells.length:Int))) then
  if 0<=Cj/\ Cj<(cells.length:Int) then
   (Z0 n (cells.getD ((Cj).toNat) 0) Ai AH AH.length o1).bind fun y1=>
    if AL (Cj+1) then
     self (.l1 (Cj+1) y1)
    else none
  else none
 else
  if AH.length=o1.length then
   (Xb n EE o1).bind fun y1=>
    bif (!loop) then
     some (decide ((y1.1.length:Int)<=1))
    else
     bif ((y1.1.length:Int)==0) then
      some (decide ((y1.1.length:Int)<=1))
     else
      (O0 n EE o1).bind fun y2=>
       some y2.1
  else none
def kI (n:Nat) (self:V8 -> Option Bool) (EE:List (List Int)) (AH cells:List Int) (Ai:Int) (loop:Bool):Option Bool:=
 if ((AH.length:Int):Int)=(AH.length:Int)/\ 0<=(AH.length:Int)/\ ((AH.length:Int):Int)<=1000000000000 then
  self (.l1 0 (List.replicate AH.length false))
 else none
def PT (EE:List (List Int)) (AH cells:List Int) (Ai:Int) (loop:Bool):Nat -> V8 -> Option Bool
 | 0,_=>none
 | n+1,.l1 Cj o1=>Sc n (PT EE AH cells Ai loop n) EE AH cells Ai loop Cj o1
def PU (n:Nat) (EE:List (List Int)) (AH cells:List Int) (Ai:Int) (loop:Bool):Option Bool:=kI n (PT EE AH cells Ai loop n) EE AH cells Ai loop
def wo (n B:Nat) (N:Yd 0) (EE:List (List Int)) (AH cells:List Int) (Ai:Int) (loop:Bool) (r:Bool):V8 -> Prop
 | .l1 Cj o1=>∀ m0:Nat,n<=m0 -> TW B N (FQ Tryz.f54 0 (.bool r) []) (A3 m0 (BB (AW Tryz.f54) 0 [])) ⟨AG 56 [(0,.sl 1 EE.length (AQ BS EE)),(4,.bool loop),(11,.ref 0 0),(12,.fn 78 3 (L1 [.ref 2 0,.ref 3 0,.ref 0 0])),(23,.ints cells),(24,.i (cells.length:Int)),(25,.i Cj)],[some (.cells [.msl 1 1 0 AH.length]),some (.bools o1),some (.cells [.i Ai]),some (.cells [.ints AH])]⟩
theorem wq (B:Nat) (N:Yd 0) (EE:List (List Int)) (AH cells:List Int) (Ai:Int) (loop:Bool):Al (PT EE AH cells Ai loop) (wo · B N EE AH cells Ai loop):=ia (fun _=>rfl) fun n AJ pt r h=>by
 cases pt
 case l1 Cj o1=>
  intro m0 AE;refine rd AE fun m0 AE=>?_
  revert r;apply gO
  exact bi 26 (gi (ce vZ [2,3,0,1] [some (.cells [.msl 1 1 0 AH.length]),some (.bools o1),some (.cells [.i Ai]),some (.cells [.ints AH])] fun _=>gw 32 (lG AB [0,1,2,3] (AJ _ _ · m0 AE)))) (gn fun g0=>fun p r h=>by
   refine gz (AV 8 AB) [0,1] p [1] (H0.g g0) (Cc (AW Tryz.f54) 8 []) (AG 56 [(0,.sl 1 EE.length (AQ BS EE)),(4,.bool loop),(11,.ref 0 0)]) [some (.cells [.bools o1]),none] ?_;revert r;apply gO;exact cf zCj [some (.cells [.bools o1]),none] fun _=>bi 40 (lE AB [10] []) (bi 44 (lE AB [10] []) (cf tI [some (.cells [.bools o1]),none] fun _=>lE AB [10] [])))
theorem wn {n:Nat} {EE:List (List Int)} {AH cells:List Int} {Ai:Int} {loop:Bool} {r:Bool} (h:PU n EE AH cells Ai loop=some r):EQ 54 [.sl 1 EE.length (AQ BS EE),.ints AH,.ints cells,.i Ai,.bool loop] [] (.bool r) [] true:=by
 refine ot Tryz.func54 fun B N=>?_
 revert r;apply gO;exact gi (jt (lN AB [3,2,1,0] ((wq B N EE AH cells Ai loop n) _ _ · n Nat.le.refl)))
def cv (n:Nat) (v:Int) (c:AC):Option Bool:=
 bif (decide (c.lo<=v)) then
  some (decide (v<=c.hi))
 else
  some false
def OQ (n:Nat) (v:Int) (c:AC):Option Bool:=cv n v c
theorem np {n:Nat} {v:Int} {c:AC} {r:Bool} (h:OQ n v c=some r):EQ 45 [.i v,.fp 9 (L1 (AK c))] [] (.bool r) [] true:=by
 refine ot Tryz.func45 fun B N=>?_
 revert r;apply gO;exact bi 7 (lE AB [3] []) (lE AB [3] [])
theorem rb:Av (Ah Tryz.f33 12) [([0,1,2,3,4,7,8],5),([],6),([],9)] [10] []:=by unfold Av;kernel_rfl
theorem ra:Av (Ah Tryz.f33 14) [([0,1,2,3,4,5,6,7,8,9,10,11,12,13,14,15,16,17,18,19,20,21,22,23],24)] [25] []:=by unfold Av;kernel_rfl
theorem rZ:Av (Ah Tryz.f33 16) [] (List.range 16) []:=by unfold Av;kernel_rfl
def LN:Bi:=fun i=>match i with
 | 12=>.ord [([0,1,2,3,4,7,8],5),([],6),([],9)] [10] []
 | 14=>.ord [([0,1,2,3,4,5,6,7,8,9,10,11,12,13,14,15,16,17,18,19,20,21,22,23],24)] [25] []
 | 16=>.ord [] (List.range 16) []
 | _=>.no
def JE (n:Nat) (q:AA) (c_:AC) (AH:List Int):Option Bool:=
 bif (c_.kind==1) then
  (XN n AH c_.cells).bind fun y1=>
   some y1
 else
  bif (c_.kind==2) then
   (XU n AH c_.cells c_.set).bind fun y1=>
    (OQ n y1 c_).bind fun y2=>
     some y2
  else
   bif (c_.kind==3) then
    (Uo n q.values AH c_.cells).bind fun y1=>
     (OQ n y1 c_).bind fun y2=>
      some y2
   else
    bif (c_.kind==4) then
     (VE n q.values AH c_.cells).bind fun y1=>
      some y1
    else
     bif (c_.kind==5) then
      (Ox n c_.cells c_.set AH).bind fun y1=>
       (OM n y1).bind fun y2=>
        (P8 n y2 c_.runs).bind fun y3=>
         some y3
     else
      bif (c_.kind==6) then
       if ((0:Int)<=0/\ 0<(c_.cells.length:Int))/\ (0<=(c_.cells.getD 0 0)/\ (c_.cells.getD 0 0)<(AH.length:Int))/\ (0<=(AH.getD ((c_.cells.getD 0 0).toNat) 0)/\ (AH.getD ((c_.cells.getD 0 0).toNat) 0)<(q.values.length:Int))/\ ((0:Int)<=1/\ 1<(c_.cells.length:Int))/\ (0<=(c_.cells.getD 1 0)/\ (c_.cells.getD 1 0)<(AH.length:Int))/\ (0<=(AH.getD ((c_.cells.getD 1 0).toNat) 0)/\ (AH.getD ((c_.cells.getD 1 0).toNat) 0)<(q.values.length:Int)) then
        (dN n (q.values.getD ((AH.getD ((c_.cells.getD 0 0).toNat) 0).toNat) 0) (q.values.getD ((AH.getD ((c_.cells.getD 1 0).toNat) 0).toNat) 0) c_.lo).bind fun y1=>
         some y1
       else none
      else
       bif (c_.kind==7) then
        if ((0:Int)<=0/\ 0<(c_.cells.length:Int))/\ (0<=(c_.cells.getD 0 0)/\ (c_.cells.getD 0 0)<(AH.length:Int))/\ ((0:Int)<=1/\ 1<(c_.cells.length:Int))/\ (0<=(c_.cells.getD 1 0)/\ (c_.cells.getD 1 0)<(AH.length:Int)) then
         (HN n c_.set (AH.getD ((c_.cells.getD 0 0).toNat) 0)).bind fun y1=>
          bif y1 then
           (HN n c_.other (AH.getD ((c_.cells.getD 1 0).toNat) 0)).bind fun y2=>
            bif y2 then
             some false
            else
             (HN n c_.set (AH.getD ((c_.cells.getD 1 0).toNat) 0)).bind fun y3=>
              bif y3 then
               (HN n c_.other (AH.getD ((c_.cells.getD 0 0).toNat) 0)).bind fun y4=>
                some (!y4)
              else
               some true
          else
           (HN n c_.set (AH.getD ((c_.cells.getD 1 0).toNat) 0)).bind fun y2=>
            bif y2 then
             (HN n c_.other (AH.getD ((c_.cells.getD 0 0).toNat) 0)).bind fun y3=>
              some (!y3)
            else
             some true
        else none
       else
        (PU n q.nbrs AH c_.cells c_.set (c_.kind==9)).bind fun y1=>
         some y1
def Fb (n:Nat) (q:AA) (c_:AC) (AH:List Int):Option Bool:=JE n q c_ AH
theorem vY {n:Nat} {q:AA} {c_:AC} {AH:List Int} {r:Bool} (h:Fb n q c_ AH=some r):EQ 33 [.agg 5 (L1 (AD q)),.agg 9 (L1 (AK c_)),.ints AH] [] (.bool r) [] true:=by
 refine ot Tryz.func33 fun B N=>?_
 revert r;apply gO;exact bi 14 (cf zB2 [some (.cells (AD q)),some (.cells (AK c_))] fun _=>lE AB [6] []) (bi 20 (cf zCV [some (.cells (AD q)),some (.cells (AK c_))] fun y1=>cn fun y2 Bx=>jc (sb [.i y1,.ref 1 0] (np Bx) [some (.cells (AD q)),some (.cells (AK c_))] ⟨Ac.plain (by kernel_rfl),(Ac.refL (l:=(AK c_)) (l0:=(AK c_)) rfl ⟨Ac.plain (by kernel_rfl),Ac.plain (by kernel_rfl),Ac.plain (by kernel_rfl),Ac.plain (by kernel_rfl),Ac.plain (by kernel_rfl),Ac.plain (by kernel_rfl),Ac.plain (by kernel_rfl),Ac.plain (by kernel_rfl),Ac.plain (by kernel_rfl),trivial⟩),trivial⟩) (lE AB [6] [])) (bi 30 (cf ph [some (.cells (AD q)),some (.cells (AK c_))] fun y1=>cn fun y2 Bx=>jc (sb [.i y1,.ref 1 0] (np Bx) [some (.cells (AD q)),some (.cells (AK c_))] ⟨Ac.plain (by kernel_rfl),(Ac.refL (l:=(AK c_)) (l0:=(AK c_)) rfl ⟨Ac.plain (by kernel_rfl),Ac.plain (by kernel_rfl),Ac.plain (by kernel_rfl),Ac.plain (by kernel_rfl),Ac.plain (by kernel_rfl),Ac.plain (by kernel_rfl),Ac.plain (by kernel_rfl),Ac.plain (by kernel_rfl),Ac.plain (by kernel_rfl),trivial⟩),trivial⟩) (lE AB [6] [])) (bi 40 (cf tE [some (.cells (AD q)),some (.cells (AK c_))] fun _=>lE AB [6] []) (bi 48 (jg rb (cn fun y1 A8=>jc (sR A8 [some (.cells (AD q)),some (.cells (AK c_))]) (cn fun y2 Bx=>jq (eu (zCr Bx) [2] [some (.cells (AD q)),some (.cells (AK c_)),some (.iter ((y1).map BP))] 2) (cf mj [some (.cells (AD q)),some (.cells (AK c_)),none] fun _=>lE LN [6] [])))) (bi 60 (jg ra (gc (gi (gc (gi (gc (gi (gc (gi (gc (gi (gi (cf zDf [some (.cells (AD q)),some (.cells (AK c_))] fun _=>lE LN [6] []))))))))))))) (bi 87 (jg rZ (gc (gi (gc (gi (gc (gi (gi (cf JJ [some (.cells (AD q)),some (.cells (AK c_))] fun _=>bi 105 (cf JJ [some (.cells (AD q)),some (.cells (AK c_))] fun _=>bi 110 (lE LN [6] []) (cf JJ [some (.cells (AD q)),some (.cells (AK c_))] fun _=>bi 116 (cf JJ [some (.cells (AD q)),some (.cells (AK c_))] fun _=>lE LN [6] []) (lE LN [6] []))) (cf JJ [some (.cells (AD q)),some (.cells (AK c_))] fun _=>bi 116 (cf JJ [some (.cells (AD q)),some (.cells (AK c_))] fun _=>lE LN [6] []) (lE LN [6] []))))))))))) (cf wn [some (.cells (AD q)),some (.cells (AK c_))] fun _=>lE LN [6] [])))))))
def d6 (n:Nat) (v Cl:Int):Option Bool:=
 bif (decide (v<0)) then
  some true
 else
  some (decide (v>=Cl))
def UY (n:Nat) (v Cl:Int):Option Bool:=d6 n v Cl
theorem pA {n:Nat} {v Cl:Int} {r:Bool} (h:UY n v Cl=some r):EQ 75 [.i v,.fp 1 (L1 [.i Cl])] [] (.bool r) [] true:=by
 refine ot Tryz.func75 fun B N=>?_
 revert r;apply gO;exact bi 5 (lE AB [3] []) (lE AB [3] [])
inductive WH where
 | l1 (x8:Int)
def Sj (n:Nat) (self:WH -> Option Int) (l:List Int) (Cl:Int) (x8:Int):Option Int:=
 bif (decide (x8<(l.length:Int))) then
  if 0<=x8/\ x8<(l.length:Int) then
   (UY n (l.getD ((x8).toNat) 0) Cl).bind fun y1=>
    bif y1 then
     some x8
    else
     if AL (x8+1) then
      self (.l1 (x8+1))
     else none
  else none
 else
  some (-1)
def xD (n:Nat) (self:WH -> Option Int) (l:List Int) (Cl:Int):Option Int:=
 self (.l1 0)
def Ll (l:List Int) (Cl:Int):Nat -> WH -> Option Int
 | 0,_=>none
 | n+1,.l1 x8=>Sj n (Ll l Cl n) l Cl x8
def kR (n:Nat) (l:List Int) (Cl:Int):Option Int:=xD n (Ll l Cl n) l Cl
def xE (n B:Nat) (N:Yd 0) (l:List Int) (Cl:Int) (r:Int):WH -> Prop
 | .l1 x8=>∀ m0:Nat,n<=m0 -> TW B N (FQ Tryz.f101 0 (.i r) []) (A3 m0 (BB (AW Tryz.f101) 0 [])) ⟨AG 19 [(0,.ints l),(1,.fn 75 1 (L1 [.fp 1 (L1 [.i Cl])])),(7,.i (l.length:Int)),(8,.i x8)],[]⟩
theorem xF (B:Nat) (N:Yd 0) (l:List Int) (Cl:Int):Al (Ll l Cl) (xE · B N l Cl):=ia (fun _=>rfl) fun n AJ pt r h=>by
 cases pt
 case l1 x8=>
  intro m0 AE;refine rd AE fun m0 AE=>?_
  revert r;apply gO;exact bi 9 (gi (cf pA [] fun _=>bi 16 (lE AB [4] []) (gw 18 (lG AB [] (AJ _ _ · m0 AE))))) (lE AB [4] [])
theorem xC {n:Nat} {l:List Int} {Cl:Int} {r:Int} (h:kR n l Cl=some r):EQ 101 [.ints l,.fn 75 1 (L1 [.fp 1 (L1 [.i Cl])])] [] (.i r) [] true:=by
 refine ot Tryz.func101 fun B N=>?_
 revert r;apply gO;exact lN AB [] ((xF B N l Cl n) _ _ · n Nat.le.refl)
def nL (n:Nat) (l:List Int) (Cl:Int):Option Bool:=
 (kR n l Cl).bind fun y1=>
  some (decide (y1>=0))
def cV (n:Nat) (l:List Int) (Cl:Int):Option Bool:=nL n l Cl
theorem zCb {n:Nat} {l:List Int} {Cl:Int} {r:Bool} (h:cV n l Cl=some r):EQ 74 [.ints l,.fn 75 1 (L1 [.fp 1 (L1 [.i Cl])])] [] (.bool r) [] true:=by
 unfold cV nL at h;refine ot Tryz.func74 fun B N=>?_
 revert r;apply gO;exact cf xC [] fun _=>lE AB [4] []
def cI (n:Nat) (cells symbols:Int) (AH:List Int):Option Bool:=
 bif ((AH.length:Int)==cells) then
  (cV n AH symbols).bind fun y1=>
   some (!y1)
 else
  some false
def TV (n:Nat) (cells symbols:Int) (AH:List Int):Option Bool:=cI n cells symbols AH
theorem zBU {n:Nat} {cells symbols:Int} {AH:List Int} {r:Bool} (h:TV n cells symbols AH=some r):EQ 43 [.i cells,.i symbols,.ints AH] [] (.bool r) [] true:=by
 refine ot Tryz.func43 fun B N=>?_
 revert r;apply gO;exact bi 10 (cn fun y1 A8=>jc (sb [.ints AH,.fn 75 1 (L1 [.ref 0 0])] (zCb A8) [some (.cells [.i symbols])] ⟨Ac.plain (by kernel_rfl),(Ac.fnL (l:=[.ref 0 0]) (l0:=[.fp 1 (L1 [.i symbols])]) ⟨(Ac.refL (l:=[.i symbols]) (l0:=[.i symbols]) rfl ⟨Ac.plain (by kernel_rfl),trivial⟩),trivial⟩),trivial⟩) (lE AB [6] [])) (lE AB [6] [])
def iP (n:Nat) (q:AA) (AH:List Int):Option Int:=
 (valid n q).bind fun y1=>
  bif (y1 != 0) then
   some y1
  else
   (TV n q.cells q.symbols AH).bind fun y2=>
    bif (!y2) then
     some 200
    else
     some 0
def VK (n:Nat) (q:AA) (AH:List Int):Option Int:=iP n q AH
theorem tU {n:Nat} {q:AA} {AH:List Int} {r:Int} (h:VK n q AH=some r):EQ 30 [.agg 5 (L1 (AD q)),.ints AH] [] (.i r) [] true:=by
 unfold VK iP at h;refine ot Tryz.func30 fun B N=>?_
 revert r;apply gO;exact cf UT [some (.cells (AD q))] fun _=>bi 8 (lE AB [4] []) (cf zBU [some (.cells (AD q))] fun _=>bi 16 (lE AB [4] []) (lE AB [4] []))
end Go.Proofs.YtkjbblkieglmlaaGreatDoor
namespace Go.Proofs.YtkjbblkieglmlaaGreatDoor
open Go.RowKit
set_option maxRecDepth 100000
set_option maxHeartbeats 40000000
def YJ (n:Nat) (c:AC) (q:AA) (AH:List Int):Option Bool:=
 (Fb n q c AH).bind fun y1=>
  some (!y1)
def UW (n:Nat) (c:AC) (q:AA) (AH:List Int):Option Bool:=YJ n c q AH
theorem ou {n:Nat} {c:AC} {q:AA} {AH:List Int} {r:Bool} (h:UW n c q AH=some r):EQ 32 [.agg 9 (L1 (AK c)),.fp 5 (L1 (AD q)),.fp 1 (L1 [.ints AH])] [] (.bool r) [] true:=by
 unfold UW YJ at h;refine ot Tryz.func32 fun B N=>?_
 revert r;apply gO;exact cf vY [some (.cells (AK c))] fun _=>lE AB [4] []
inductive WD where
 | l1 (x8:Int)
def Si (n:Nat) (self:WD -> Option Int) (l:List AC) (q:AA) (AH:List Int) (x8:Int):Option Int:=
 bif (decide (x8<(l.length:Int))) then
  if 0<=x8/\ x8<(l.length:Int) then
   (UW n (l.getD ((x8).toNat) default) q AH).bind fun y1=>
    bif y1 then
     some x8
    else
     if AL (x8+1) then
      self (.l1 (x8+1))
     else none
  else none
 else
  some (-1)
def wz (n:Nat) (self:WD -> Option Int) (l:List AC) (q:AA) (AH:List Int):Option Int:=
 self (.l1 0)
def Lj (l:List AC) (q:AA) (AH:List Int):Nat -> WD -> Option Int
 | 0,_=>none
 | n+1,.l1 x8=>Si n (Lj l q AH n) l q AH x8
def kP (n:Nat) (l:List AC) (q:AA) (AH:List Int):Option Int:=wz n (Lj l q AH n) l q AH
def w4 (n B:Nat) (N:Yd 0) (l:List AC) (q:AA) (AH:List Int) (r:Int):WD -> Prop
 | .l1 x8=>∀ m0:Nat,n<=m0 -> TW B N (FQ Tryz.f44 0 (.i r) []) (A3 m0 (BB (AW Tryz.f44) 0 [])) ⟨AG 19 [(0,.sl 9 l.length (AQ AK l)),(1,.fn 32 2 (L1 [.fp 5 (L1 (AD q)),.fp 1 (L1 [.ints AH])])),(7,.i (l.length:Int)),(8,.i x8)],[]⟩
theorem w7 (B:Nat) (N:Yd 0) (l:List AC) (q:AA) (AH:List Int):Al (Lj l q AH) (w4 · B N l q AH):=ia (fun _=>rfl) fun n AJ pt r h=>by
 cases pt
 case l1 x8=>
  intro m0 AE;refine rd AE fun m0 AE=>?_
  revert r;apply gO;exact bi 9 (gi (cf ou [] fun _=>bi 16 (lE AB [4] []) (gw 18 (lG AB [] (AJ _ _ · m0 AE))))) (lE AB [4] [])
theorem wy {n:Nat} {l:List AC} {q:AA} {AH:List Int} {r:Int} (h:kP n l q AH=some r):EQ 44 [.sl 9 l.length (AQ AK l),.fn 32 2 (L1 [.fp 5 (L1 (AD q)),.fp 1 (L1 [.ints AH])])] [] (.i r) [] true:=by
 refine ot Tryz.func44 fun B N=>?_
 revert r;apply gO;exact lN AB [] ((w7 B N l q AH n) _ _ · n Nat.le.refl)
def nK (n:Nat) (l:List AC) (q:AA) (AH:List Int):Option Bool:=
 (kP n l q AH).bind fun y1=>
  some (decide (y1>=0))
def cT (n:Nat) (l:List AC) (q:AA) (AH:List Int):Option Bool:=nK n l q AH
theorem zCZ {n:Nat} {l:List AC} {q:AA} {AH:List Int} {r:Bool} (h:cT n l q AH=some r):EQ 31 [.sl 9 l.length (AQ AK l),.fn 32 2 (L1 [.fp 5 (L1 (AD q)),.fp 1 (L1 [.ints AH])])] [] (.bool r) [] true:=by
 unfold cT nK at h;refine ot Tryz.func31 fun B N=>?_
 revert r;apply gO;exact cf wy [] fun _=>lE AB [4] []
def fq (n:Nat) (q:AA) (AH:List Int):Option (Bool×Int):=
 (VK n q AH).bind fun y1=>
  bif (y1 != 0) then
   some (false,y1)
  else
   (cT n q.cons q AH).bind fun y2=>
    some ((!y2),0)
def LG (n:Nat) (q:AA) (AH:List Int):Option (Bool×Int):=fq n q AH
theorem qA {n:Nat} {q:AA} {AH:List Int} {r:Bool×Int} (h:LG n q AH=some r):EQ 21 [.agg 5 (L1 (AD q)),.ints AH] [] (.tup 2 (L1 [.bool r.1,.i r.2])) [] true:=by
 unfold LG fq at h;refine ot Tryz.func21 fun B N=>?_
 revert r;apply gO;exact cf tU [some (.cells (AD q)),some (.cells [.ints AH])] fun _=>bi 10 (lE AB [4,5] []) (cn fun y2 Bx=>jc (sb [.sl 9 q.cons.length (AQ AK q.cons),.fn 32 2 (L1 [.ref 0 0,.ref 1 0])] (zCZ Bx) [some (.cells (AD q)),some (.cells [.ints AH])] ⟨Ac.plain (by kernel_rfl),(Ac.fnL (l:=[.ref 0 0,.ref 1 0]) (l0:=[.fp 5 (L1 (AD q)),.fp 1 (L1 [.ints AH])]) ⟨(Ac.refL (l:=(AD q)) (l0:=(AD q)) rfl ⟨Ac.plain (by kernel_rfl),Ac.plain (by kernel_rfl),Ac.plain (by kernel_rfl),Ac.plain (by kernel_rfl),Ac.plain (by kernel_rfl),trivial⟩),(Ac.refL (l:=[.ints AH]) (l0:=[.ints AH]) rfl ⟨Ac.plain (by kernel_rfl),trivial⟩),trivial⟩),trivial⟩) (lE AB [4,5] []))
end Go.Proofs.YtkjbblkieglmlaaGreatDoor
namespace Go.Proofs.YtkjbblkieglmlaaGreatDoor
open Go.RowKit
set_option maxRecDepth 100000
set_option maxHeartbeats 40000000
def jE (n:Nat) (s_ Dr:Int):Option Int:=
 if 0<=Dr/\ Dr<=(IntKind.u64.bits:Int) then
  some (bits .and .u64 s_ (IntKind.u64.wrap (1*2 ^ (Dr).toNat)))
 else none
def Vi (n:Nat) (s_ Dr:Int):Option Int:=jE n s_ Dr
theorem uq {n:Nat} {s_ Dr:Int} {r:Int} (h:Vi n s_ Dr=some r):EQ 109 [.int .u64 s_,.i Dr] [] (.int .u64 r) [] true:=by
 refine ot Tryz.func109 fun B N=>?_
 revert r;apply gO;exact gi (lE AB [4] [])
def ck (n:Nat) (q:AA) (pos:List Int) (cell sy:Int):Option ((List Int)×Int):=
 (NH n q pos).bind fun y1=>
  bif (y1 != 0) then
   some (([]:List Int),y1)
  else
   bif (decide (cell<0)) then
    some (([]:List Int),1)
   else
    bif (decide (cell>=q.cells)) then
     some (([]:List Int),1)
    else
     bif (decide (sy<0)) then
      some (([]:List Int),1)
     else
      bif (decide (sy>=q.symbols)) then
       some (([]:List Int),1)
      else
       if ((True)/\ (0=0/\ 0=([]:List Int).length)/\ ([]:List Int).length+pos.length<=BA)/\ (0<=cell/\ cell<((([]:List Int).length+pos.length:Nat):Int))/\ 0+((cell).toNat)<(([]:List Int)++pos).length then
        (Vi n (IntKind.u64.wrap ((([]:List Int)++pos).getD (0+((cell).toNat)) 0)) sy).bind fun y2=>
         if ([]:List Int).length+pos.length=((([]:List Int)++pos).set (0+((cell).toNat)) (IntKind.i64.wrap y2)).length then
          (PD n ((([]:List Int)++pos).set (0+((cell).toNat)) (IntKind.i64.wrap y2))).bind fun y3=>
           some (y3,0)
         else none
       else none
def Xj (n:Nat) (q:AA) (pos:List Int) (cell sy:Int):Option ((List Int)×Int):=ck n q pos cell sy
theorem zC0 {n:Nat} {q:AA} {pos:List Int} {cell sy:Int} {r:(List Int)×Int} (h:Xj n q pos cell sy=some r):EQ 108 [.agg 5 (L1 (AD q)),.ints pos,.i cell,.i sy,.fn 109 0 (L1 [])] [] (.tup 2 (L1 [.ints r.1,.i r.2])) [] true:=by
 unfold Xj ck at h;refine ot Tryz.func108 fun B N=>?_
 revert r;apply gO
 exact cf ZU [some (.cells (AD q))] fun y1=>bi 18 (lF fun p=>el AB [10,11] [] p [] H0 [.nils,.i y1] (AR.tupL (l:=[.nils,.i y1]) (l':=[.ints ([]:List Int),.i y1]) rfl ⟨AR.ints_nil,A5,trivial⟩)) (bi 21 (lF fun p=>el AB [10,11] [] p [] H0 [.nils,.i 1] (AR.tupL (l:=[.nils,.i 1]) (l':=[.ints ([]:List Int),.i 1]) rfl ⟨AR.ints_nil,A5,trivial⟩)) (bi 26 (lF fun p=>el AB [10,11] [] p [] H0 [.nils,.i 1] (AR.tupL (l:=[.nils,.i 1]) (l':=[.ints ([]:List Int),.i 1]) rfl ⟨AR.ints_nil,A5,trivial⟩)) (bi 30 (lF fun p=>el AB [10,11] [] p [] H0 [.nils,.i 1] (AR.tupL (l:=[.nils,.i 1]) (l':=[.ints ([]:List Int),.i 1]) rfl ⟨AR.ints_nil,A5,trivial⟩)) (bi 36 (lF fun p=>el AB [10,11] [] p [] H0 [.nils,.i 1] (AR.tupL (l:=[.nils,.i 1]) (l':=[.ints ([]:List Int),.i 1]) rfl ⟨AR.ints_nil,A5,trivial⟩)) (gc (gi (gc (gn fun g1=>jg g1 (gn fun g2=>jg g2 (cf uq [some (.cells (AD q)),none,some (.ints (([]:List Int)++pos))] fun y2=>jg g1 (jg g2 (gn fun g3=>fun p r h=>by
  refine gz (AV 8 AB) [2] p [0] (H0.g g3) (Cc (AW Tryz.f108) 8 []) (AG 55 [(13,.ints ((([]:List Int)++pos).set (0+((cell).toNat)) (IntKind.i64.wrap y2)))]) [none] ?_;revert r;apply gO;exact cf u9 [none] fun _=>lE AB [10,11] []))))))))))))
def cH (n:Nat) (q:AA) (pos:List Int) (cell Dr:Int):Option ((List Int)×Int):=
 (Xj n q pos cell Dr).bind fun y1=>
  some (y1.1,y1.2)
def OE (n:Nat) (q:AA) (pos:List Int) (cell Dr:Int):Option ((List Int)×Int):=cH n q pos cell Dr
theorem zBT {n:Nat} {q:AA} {pos:List Int} {cell Dr:Int} {r:(List Int)×Int} (h:OE n q pos cell Dr=some r):EQ 86 [.agg 5 (L1 (AD q)),.ints pos,.i cell,.i Dr] [] (.tup 2 (L1 [.ints r.1,.i r.2])) [] true:=by
 unfold OE cH at h;refine ot Tryz.func86 fun B N=>?_
 revert r;apply gO;exact cf zC0 [some (.cells (AD q))] fun _=>lE AB [8,9] []
def yo (Hp:Nat) (y1 o1:List Int):DH:=[some (.cells [.msl 4 1 0 Hp]),some (.cells [.bool false]),some (.cells [.i 0]),some (.iter ((y1).map BP)),some (.ints o1)]
def yn (II:Nat) (Cx:Int) (Gc:List Int):DH:=[some (.cells [.msl 4 1 0 II]),some (.cells [.bool false]),some (.cells [.i Cx]),none,some (.ints Gc)]
def ym (IJ:Nat) (Cy:Int) (Ge:List Int):DH:=[some (.cells [.msl 4 1 0 IJ]),some (.cells [.bool false]),some (.cells [.i Cy]),none,some (.ints Ge)]
inductive Jz where
 | s0 (IJ:Nat) (Cy:Int) (Ge:List Int)
 | s1 (Cx:Int)
def fv (pos:List Int) (x10:Int):Jz -> DH
 | .s0 IJ Cy Ge=>[some (.cells [.msl 4 1 0 IJ]),some (.cells [.bool false]),some (.cells [.i Cy]),none,some (.ints Ge)]
 | .s1 Cx=>[some (.cells [.nils]),some (.cells [.bool false]),some (.cells [.i Cx]),none]
def Mt (n:Nat) (pos:List Int) (x10 Bn:Int) (IJ:Nat) (Cy:Int) (Ge:List Int):Option (Jz×Nat):=
 if AL (Cy+1) then
  bif (decide ((Cy+1)>1)) then
   some (.s1 (Cy+1),1)
  else
   bif (decide (Bn>=16)) then
    some (.s1 (Cy+1),1)
   else
    if (0=0/\ 1=([Bn]:List Int).length)/\ (0=0/\ IJ=Ge.length)/\ Ge.length+([Bn]:List Int).length<=BA then
     some (.s0 (Ge.length+([Bn]:List Int).length) (Cy+1) (Ge++([Bn]:List Int)),0)
    else none
 else none
def Yf (n:Nat) (pos:List Int) (x10 Bn:Int) (Cx:Int):Option (Jz×Nat):=
 if AL (Cx+1) then
  bif (decide ((Cx+1)>1)) then
   some (.s1 (Cx+1),1)
  else
   bif (decide (Bn>=16)) then
    some (.s1 (Cx+1),1)
   else
    if (0=0/\ 1=([Bn]:List Int).length)/\ 0<([Bn]:List Int).length/\ ([Bn]:List Int).length<=BA then
     some (.s0 (([Bn]:List Int).length) (Cx+1) ([Bn]:List Int),0)
    else none
 else none
def qH (n:Nat) (pos:List Int) (x10 Bn:Int):Jz -> Option (Jz×Nat)
 | .s0 IJ Cy Ge=>Mt n pos x10 Bn IJ Cy Ge
 | .s1 Cx=>Yf n pos x10 Bn Cx
def Qw (n:Nat) (pos:List Int) (x10 Bn:Int) (s:Jz):Option (Jz×Nat):=qH n pos x10 Bn s
theorem qG (n:Nat) (pos:List Int) (x10:Int) (l B:Nat) (N:Yd 4) (Bn:Int) (s:Jz) (r:Jz×Nat) (h:Qw n pos x10 Bn s=some r):TA l B N (Cd 4 [.ret] r.2 (fv pos x10 r.1)) Tryz.f89 16 ⟨AG 34 [(2,.ref 0 0),(3,.ref 1 0),(6,.ref 2 0),(8,.ints pos),(9,.i (pos.length:Int)),(10,.i x10),(16,.it 3),(17,.i Bn)],fv pos x10 s⟩:=by
 cases s with
 | s0 IJ Cy Ge=>
  replace h:Mt n pos x10 Bn IJ Cy Ge=some r:=h;unfold Mt at h;refine ag AB [0,1,2,3,4] H0 (AG 34 [(2,.ref 0 0),(3,.ref 1 0),(6,.ref 2 0),(7,.i Bn)]) (ym IJ Cy Ge) fun N=>?_
  revert r;apply gO;exact gw 19 (jt (bi 21 (jt (jt (lF fun p=>rr AB [0,1,2,3] rfl p))) (bi 24 (jt (jt (lF fun p=>rr AB [0,1,2,3] rfl p))) (gi (jt (lF fun p=>rr AB [0,1,2,3,6] rfl p))))))
 | s1 Cx=>
  replace h:Yf n pos x10 Bn Cx=some r:=h;unfold Yf at h;refine ag AB [0,1,2,3] H0 (AG 34 [(2,.ref 0 0),(3,.ref 1 0),(6,.ref 2 0),(7,.i Bn)]) [some (.cells [.nils]),some (.cells [.bool false]),some (.cells [.i Cx]),none] fun N=>?_
  revert r;apply gO;exact gw 19 (jt (bi 21 (jt (jt (lF fun p=>rr AB [0,1,2,3] rfl p))) (bi 24 (jt (jt (lF fun p=>rr AB [0,1,2,3] rfl p))) (gi (jt (lF fun p=>rr AB [0,1,2,3,5] rfl p))))))
inductive J0 where
 | s0 (Cy:Int)
 | s1 (II:Nat) (Cx:Int) (Gc:List Int)
def fu (pos:List Int) (x10:Int):J0 -> DH
 | .s0 Cy=>[some (.cells [.nils]),some (.cells [.bool false]),some (.cells [.i Cy]),none]
 | .s1 II Cx Gc=>[some (.cells [.msl 4 1 0 II]),some (.cells [.bool false]),some (.cells [.i Cx]),none,some (.ints Gc)]
def Qv (n:Nat) (pos:List Int) (x10 Bn:Int) (Cy:Int):Option (J0×Nat):=
 if AL (Cy+1) then
  bif (decide ((Cy+1)>1)) then
   some (.s0 (Cy+1),1)
  else
   bif (decide (Bn>=16)) then
    some (.s0 (Cy+1),1)
   else
    if (0=0/\ 1=([Bn]:List Int).length)/\ 0<([Bn]:List Int).length/\ ([Bn]:List Int).length<=BA then
     some (.s1 (([Bn]:List Int).length) (Cy+1) ([Bn]:List Int),0)
    else none
 else none
def Qu (n:Nat) (pos:List Int) (x10 Bn:Int) (II:Nat) (Cx:Int) (Gc:List Int):Option (J0×Nat):=
 if AL (Cx+1) then
  bif (decide ((Cx+1)>1)) then
   some (.s0 (Cx+1),1)
  else
   bif (decide (Bn>=16)) then
    some (.s0 (Cx+1),1)
   else
    if (0=0/\ 1=([Bn]:List Int).length)/\ (0=0/\ II=Gc.length)/\ Gc.length+([Bn]:List Int).length<=BA then
     some (.s1 (Gc.length+([Bn]:List Int).length) (Cx+1) (Gc++([Bn]:List Int)),0)
    else none
 else none
def qF (n:Nat) (pos:List Int) (x10 Bn:Int):J0 -> Option (J0×Nat)
 | .s0 Cy=>Qv n pos x10 Bn Cy
 | .s1 II Cx Gc=>Qu n pos x10 Bn II Cx Gc
def Qx (n:Nat) (pos:List Int) (x10 Bn:Int) (s:J0):Option (J0×Nat):=qF n pos x10 Bn s
theorem qE (n:Nat) (pos:List Int) (x10:Int) (l B:Nat) (N:Yd 4) (Bn:Int) (s:J0) (r:J0×Nat) (h:Qx n pos x10 Bn s=some r):TA l B N (Cd 4 [.ret] r.2 (fu pos x10 r.1)) Tryz.f89 16 ⟨AG 34 [(2,.ref 0 0),(3,.ref 1 0),(6,.ref 2 0),(8,.ints pos),(9,.i (pos.length:Int)),(10,.i x10),(16,.it 3),(17,.i Bn)],fu pos x10 s⟩:=by
 cases s with
 | s0 Cy=>
  replace h:Qv n pos x10 Bn Cy=some r:=h;unfold Qv at h;refine ag AB [0,1,2,3] H0 (AG 34 [(2,.ref 0 0),(3,.ref 1 0),(6,.ref 2 0),(7,.i Bn)]) [some (.cells [.nils]),some (.cells [.bool false]),some (.cells [.i Cy]),none] fun N=>?_
  revert r;apply gO;exact gw 19 (jt (bi 21 (jt (jt (lF fun p=>rr AB [0,1,2,3] rfl p))) (bi 24 (jt (jt (lF fun p=>rr AB [0,1,2,3] rfl p))) (gi (jt (lF fun p=>rr AB [0,1,2,3,5] rfl p))))))
 | s1 II Cx Gc=>
  replace h:Qu n pos x10 Bn II Cx Gc=some r:=h;unfold Qu at h;refine ag AB [0,1,2,3,4] H0 (AG 34 [(2,.ref 0 0),(3,.ref 1 0),(6,.ref 2 0),(7,.i Bn)]) (yn II Cx Gc) fun N=>?_
  revert r;apply gO;exact gw 19 (jt (bi 21 (jt (jt (lF fun p=>rr AB [0,1,2,3] rfl p))) (bi 24 (jt (jt (lF fun p=>rr AB [0,1,2,3] rfl p))) (gi (jt (lF fun p=>rr AB [0,1,2,3,6] rfl p))))))
inductive Qy where
 | l1 (x10:Int)
 | l2 (x10:Int) (Hp:Nat) (o1:List Int)
def Ms (n:Nat) (self:Qy -> Option ((List Int)×Bool)) (pos:List Int) (x10:Int):Option ((List Int)×Bool):=
 bif (decide (x10<(pos.length:Int))) then
  if 0<=x10/\ x10<(pos.length:Int) then
   (Kw n (IntKind.u64.wrap (pos.getD ((x10).toNat) 0))).bind fun y1=>
    (DB (Qx n pos x10) y1 (.s0 0)).bind fun y2=>
     bif y2.2==0 then
      match y2.1 with
      | .s0 EB=>
       bif (EB==0) then
        some (([]:List Int),false)
       else
        if AL (x10+1) then
         self (.l1 (x10+1))
        else none
      | .s1 Ir UO Od=>
       bif (UO==0) then
        some (([]:List Int),false)
       else
        if AL (x10+1) then
         self (.l2 (x10+1) Ir Od)
        else none
     else
      bif y2.2==1 then
       match y2.1 with
       | .s0 EB=>
        some (([]:List Int),false)
       | .s1 Ir UO Od=>
        if Ir=Od.length then
         some (Od,false)
        else none
      else
       none
  else none
 else
  some (([]:List Int),true)
def Mr (n:Nat) (self:Qy -> Option ((List Int)×Bool)) (pos:List Int) (x10:Int) (Hp:Nat) (o1:List Int):Option ((List Int)×Bool):=
 bif (decide (x10<(pos.length:Int))) then
  if 0<=x10/\ x10<(pos.length:Int) then
   (Kw n (IntKind.u64.wrap (pos.getD ((x10).toNat) 0))).bind fun y1=>
    (DB (Qw n pos x10) y1 (.s0 Hp 0 o1)).bind fun y2=>
     bif y2.2==0 then
      match y2.1 with
      | .s0 EB UP Oe=>
       bif (UP==0) then
        some (([]:List Int),false)
       else
        if AL (x10+1) then
         self (.l2 (x10+1) EB Oe)
        else none
      | .s1 Ir=>
       bif (Ir==0) then
        some (([]:List Int),false)
       else
        if AL (x10+1) then
         self (.l1 (x10+1))
        else none
     else
      bif y2.2==1 then
       match y2.1 with
       | .s0 EB UP Oe=>
        if EB=Oe.length then
         some (Oe,false)
        else none
       | .s1 Ir=>
        some (([]:List Int),false)
      else
       none
  else none
 else
  if Hp=o1.length then
   some (o1,true)
  else none
def qD (n:Nat) (self:Qy -> Option ((List Int)×Bool)) (pos:List Int):Option ((List Int)×Bool):=
 self (.l1 0)
def GA (pos:List Int):Nat -> Qy -> Option ((List Int)×Bool)
 | 0,_=>none
 | n+1,.l1 x10=>Ms n (GA pos n) pos x10
 | n+1,.l2 x10 Hp o1=>Mr n (GA pos n) pos x10 Hp o1
def Us (n:Nat) (pos:List Int):Option ((List Int)×Bool):=qD n (GA pos n) pos
def qI (n B:Nat) (N:Yd 0) (pos:List Int) (r:(List Int)×Bool):Qy -> Prop
 | .l1 x10=>∀ m0:Nat,n<=m0 -> TW B N (FQ Tryz.f89 0 (.tup 2 (L1 [.ints r.1,.bool r.2])) []) (A3 m0 (BB (AW Tryz.f89) 0 [])) ⟨AG 34 [(2,.ref 0 0),(3,.ref 1 0),(8,.ints pos),(9,.i (pos.length:Int)),(10,.i x10)],[some (.cells [.nils]),some (.cells [.bool false])]⟩
 | .l2 x10 Hp o1=>∀ m0:Nat,n<=m0 -> TW B N (FQ Tryz.f89 0 (.tup 2 (L1 [.ints r.1,.bool r.2])) []) (A3 m0 (BB (AW Tryz.f89) 0 [])) ⟨AG 34 [(2,.ref 0 0),(3,.ref 2 0),(8,.ints pos),(9,.i (pos.length:Int)),(10,.i x10)],[some (.cells [.msl 1 1 0 Hp]),some (.ints o1),some (.cells [.bool false])]⟩
theorem qJ (B:Nat) (N:Yd 0) (pos:List Int):Al (GA pos) (qI · B N pos):=ia (fun _=>rfl) fun n AJ pt r h=>by
 cases pt
 case l1 x10=>
  intro m0 AE;refine rd AE fun m0 AE=>?_
  revert r;apply gO
  exact bi 11 (gi (jt (cn fun y1 A8=>jc (dR A8 [some (.cells [.nils]),some (.cells [.bool false]),some (.cells [.i 0])]) (cn fun y2 Bx=>fun p r h=>by
   refine gs AB [0,1,2,3] p (Fg (AW Tryz.f89) 16 [m0]) (AG 34 [(2,.ref 0 0),(3,.ref 1 0),(6,.ref 2 0),(8,.ints pos),(9,.i (pos.length:Int)),(10,.i x10),(16,.it 3)]) [some (.cells [.nils]),some (.cells [.bool false]),some (.cells [.i 0]),some (.iter ((y1).map BP))] ?_;refine rx [.ret] 3 16 #[17] BP 4 Bx (qE n pos x10) fun e he=>?_
   replace h:=Br h;rcases h with ⟨IB,h⟩ | ⟨IB,h⟩
   ·rw [eq_of_beq IB] at he;cases he;revert h;cases y2.1 with
    | s0 EB=>
     intro h
     dsimp only at h
     revert r;apply gO;exact bi 31 (jt (jt (lF fun p=>el AB [2,3] [0,1] p [] H0 [.nils,.bool false] (AR.tupL (l:=[.nils,.bool false]) (l':=[.ints ([]:List Int),.bool false]) rfl ⟨AR.ints_nil,A5,trivial⟩)))) (gw 32 (lG AB [0,1] (AJ _ _ · m0 AE)))
    | s1 Ir UO Od=>
     intro h
     dsimp only at h
     revert r;apply gO;exact bi 31 (jt (jt (lF fun p=>el AB [2,3] [0,1] p [] H0 [.nils,.bool false] (AR.tupL (l:=[.nils,.bool false]) (l':=[.ints ([]:List Int),.bool false]) rfl ⟨AR.ints_nil,A5,trivial⟩)))) (gw 32 (lG AB [0,4,1] (AJ _ _ · m0 AE)))
   ·replace h:=Br h;rcases h with ⟨IB,h⟩ | ⟨IB,h⟩
    ·rw [eq_of_beq IB] at he;cases he;refine LV ⟨rfl,?_⟩ _;revert h;cases y2.1 with
     | s0 EB=>
      intro h
      dsimp only at h
      revert r;apply gT;exact lF fun _=>DD.el (.inr rfl) [] H0 [.nils,.bool false] (AR.tupL (l:=[.nils,.bool false]) (l':=[.ints ([]:List Int),.bool false]) rfl ⟨AR.ints_nil,A5,trivial⟩) (by kernel_rfl)
     | s1 Ir UO Od=>
      intro h
      dsimp only at h
      revert r;apply gT;exact gn fun g1=>lF fun _=>DD.e (.inr rfl) [4] (H0.g g1) (by kernel_rfl)
    ·cases h)))) (jt (jt (lF fun p=>el AB [2,3] [0,1] p [] H0 [.nils,.bool true] (AR.tupL (l:=[.nils,.bool true]) (l':=[.ints ([]:List Int),.bool true]) rfl ⟨AR.ints_nil,A5,trivial⟩))))
 case l2 x10 Hp o1=>
  intro m0 AE;refine rd AE fun m0 AE=>?_
  revert r;apply gO
  exact bi 11 (gi (jt (cn fun y1 A8=>jc (dR A8 [some (.cells [.msl 1 1 0 Hp]),some (.ints o1),some (.cells [.bool false]),some (.cells [.i 0])]) (cn fun y2 Bx=>fun p r h=>by
   refine gs AB [0,2,3,4,1] p (Fg (AW Tryz.f89) 16 [m0]) (AG 34 [(2,.ref 0 0),(3,.ref 1 0),(6,.ref 2 0),(8,.ints pos),(9,.i (pos.length:Int)),(10,.i x10),(16,.it 3)]) (yo Hp y1 o1) ?_;refine rx [.ret] 3 16 #[17] BP 4 Bx (qG n pos x10) fun e he=>?_
   replace h:=Br h;rcases h with ⟨IB,h⟩ | ⟨IB,h⟩
   ·rw [eq_of_beq IB] at he;cases he;revert h;cases y2.1 with
    | s0 EB UP Oe=>
     intro h
     dsimp only at h
     revert r;apply gO;exact bi 31 (jt (jt (lF fun p=>el AB [2,3] [0,1] p [] H0 [.nils,.bool false] (AR.tupL (l:=[.nils,.bool false]) (l':=[.ints ([]:List Int),.bool false]) rfl ⟨AR.ints_nil,A5,trivial⟩)))) (gw 32 (lG AB [0,4,1] (AJ _ _ · m0 AE)))
    | s1 Ir=>
     intro h
     dsimp only at h
     revert r;apply gO;exact bi 31 (jt (jt (lF fun p=>el AB [2,3] [0,1] p [] H0 [.nils,.bool false] (AR.tupL (l:=[.nils,.bool false]) (l':=[.ints ([]:List Int),.bool false]) rfl ⟨AR.ints_nil,A5,trivial⟩)))) (gw 32 (lG AB [0,1] (AJ _ _ · m0 AE)))
   ·replace h:=Br h;rcases h with ⟨IB,h⟩ | ⟨IB,h⟩
    ·rw [eq_of_beq IB] at he;cases he;refine LV ⟨rfl,?_⟩ _;revert h;cases y2.1 with
     | s0 EB UP Oe=>
      intro h
      dsimp only at h
      revert r;apply gT;exact gn fun g1=>lF fun _=>DD.e (.inr rfl) [4] (H0.g g1) (by kernel_rfl)
     | s1 Ir=>
      intro h
      dsimp only at h
      revert r;apply gT;exact lF fun _=>DD.el (.inr rfl) [] H0 [.nils,.bool false] (AR.tupL (l:=[.nils,.bool false]) (l':=[.ints ([]:List Int),.bool false]) rfl ⟨AR.ints_nil,A5,trivial⟩) (by kernel_rfl)
    ·cases h)))) (jt (jt (gn fun g0=>lF fun p=>ez AB [2,3] [0,1,2] p [1] (H0.g g0))))
theorem qC {n:Nat} {pos:List Int} {r:(List Int)×Bool} (h:Us n pos=some r):EQ 89 [.ints pos] [] (.tup 2 (L1 [.ints r.1,.bool r.2])) [] true:=by
 refine ot Tryz.func89 fun B N=>?_
 revert r;apply gO;exact lN AB [0,1] ((qJ B N pos n) _ _ · n Nat.le.refl)
def YE (n:Nat) (q:AA) (pos:List Int) (tree:List (Int×Int)):Option Int:=
 (valid n q).bind fun y1=>
  bif (y1 != 0) then
   some y1
  else
   (NH n q pos).bind fun y2=>
    bif (y2 != 0) then
     some y2
    else
     bif (decide ((tree.length:Int)>65536)) then
      some 2
     else
      some 0
def Iv (n:Nat) (q:AA) (pos:List Int) (tree:List (Int×Int)):Option Int:=YE n q pos tree
theorem d4 {n:Nat} {q:AA} {pos:List Int} {tree:List (Int×Int)} {r:Int} (h:Iv n q pos tree=some r):EQ 35 [.agg 5 (L1 (AD q)),.ints pos,.sl 2 tree.length (AQ BD tree)] [] (.i r) [] true:=by
 unfold Iv YE at h;refine ot Tryz.func35 fun B N=>?_
 revert r;apply gO;exact cf UT [some (.cells (AD q))] fun _=>bi 10 (lE AB [6] []) (cf ZU [some (.cells (AD q))] fun _=>bi 16 (lE AB [6] []) (bi 20 (lE AB [6] []) (lE AB [6] [])))
end Go.Proofs.YtkjbblkieglmlaaGreatDoor
namespace Go.Proofs.YtkjbblkieglmlaaGreatDoor
open Go.RowKit
section
variable {q:AA} {pos:List Int}
theorem Zk (x:Int):BitVec.ofInt 64 (IntKind.u64.wrap x)=BitVec.ofInt 64 x:=by
 apply BitVec.eq_of_toNat_eq;rw [zEp,zEp,IntKind.wrap_u64]
 congr 1
 omega
theorem pL (a:Int) {s:Nat} (hs:s<63) (t:Nat):tb (IntKind.i64.wrap (bits .and .u64 (IntKind.u64.wrap a) (IntKind.u64.wrap (1*2 ^ s)))) t=(tb a t&&decide (s=t)):=by
 rw [YN]
 have e:tb (bits .and .u64 (IntKind.u64.wrap a) (IntKind.u64.wrap (1*2 ^ s))) t=(BitVec.ofInt 64 (IntKind.u64.wrap a)&&& BitVec.ofInt 64 (IntKind.u64.wrap (1*2 ^ s))).getLsbD t:=by
  show (BitVec.ofInt 64 (IntKind.u64.wrap ((BitVec.ofInt 64 (IntKind.u64.wrap a)&&& BitVec.ofInt 64 (IntKind.u64.wrap (1*2 ^ s))).toNat:Int))).getLsbD t=_
  rw [Zk,Rv]
 rw [e,Zk,Zk,BitVec.getLsbD_and];have h2:=Js (show s<64 by omega) t;rw [YN] at h2;have h2:(BitVec.ofInt 64 (1*2 ^ s)).getLsbD t=decide (s=t):=h2;rw [h2];rfl
def Kl (y:List Int) (j s:Nat):List Int:=y.set j (IntKind.i64.wrap (bits .and .u64 (IntKind.u64.wrap (y.getD j 0)) (IntKind.u64.wrap (1*2 ^ s))))
def Ja (y:List Int) (j s:Nat):List Int:=if EV (Kl y j s) then List.replicate y.length 0 else Kl y j s
theorem zBH (hv:CR q=true) {y:List Int} (hy:posOk q y=true) {j s:Nat} (hj:j<y.length) (hs:s<q.symbols.toNat):(Kl y j s).length=y.length/\ ∀ l,l<y.length -> CF ((Kl y j s).getD l 0)/\ ∀ t,tb ((Kl y j s).getD l 0) t=(tb (y.getD l 0) t&&(!decide (l=j)||decide (t=s))):=by
 obtain ⟨h1,h2⟩:=(IL hv).1 hy;obtain ⟨hc,IZ,_⟩:=E8 hv;unfold Kl;refine ⟨zAn,fun l hl=>?_⟩
 by_cases e:j=l
 ·subst e;rw [Fw hj];refine ⟨UQ _,fun t=>?_⟩;rw [pL _ (by omega),zAJ rfl,zD7,zEa]
  congr 1
  rw [decide_eq_decide];exact eq_comm
 ·rw [getD_set_ne e];refine ⟨(h2 l hl).in64 (by omega),fun t=>?_⟩;rw [zAC fun h=>e h.symm];simp
theorem oQ (hv:CR q=true) {y:List Int} (hy:posOk q y=true):posOk q (List.replicate y.length 0)=true:=by
 obtain ⟨h1,_⟩:=(IL hv).1 hy;refine (IL hv).2 ⟨by rw [zAl];exact h1,fun j hj=>?_⟩
 have:(List.replicate y.length (0:Int)).getD j 0=0:=by
  rw [u8,zEA];split <;> rfl
 rw [this];exact ⟨zEK _,Int.pow_pos (by decide)⟩
theorem zBI (hv:CR q=true) {y:List Int} (hy:posOk q y=true) {j s:Nat} (hj:j<y.length) (hs:s<q.symbols.toNat):posOk q (Ja y j s)=true:=by
 obtain ⟨h1,h2⟩:=(IL hv).1 hy;obtain ⟨hc,IZ,_⟩:=E8 hv;obtain ⟨z1,z2⟩:=zBH hv hy hj hs;unfold Ja;split
 ·exact oQ hv hy
 ·refine (IL hv).2 ⟨by rw [z1];exact h1,fun l hl=>?_⟩;obtain ⟨e1,e2⟩:=z2 l (by omega);refine Q0 (by omega) e1 fun t ht _=>?_
  rw [e2,(h2 l (by omega)).hi ht];rfl
theorem zBS (hF:EA q) (hv:CR q=true) {y:List Int} (hy:posOk q y=true) {j s:Nat} (hj:j<y.length) (hs:s<q.symbols.toNat) {n:Nat} (hn:FA q+300<=n):OE n q y j s=some (Ja y j s,0):=by
 obtain ⟨h1,h2⟩:=(IL hv).1 hy;obtain ⟨hc,IZ,_⟩:=E8 hv;have L:(1000000000000:Nat)=BA:=rfl;have lb:(256:Nat)<=LB:=by decide
 have sy:((q.symbols.toNat:Nat):Int)=q.symbols:=by omega
 have ya:NH n q y=some 0:=by
  rw [ZV hF (by omega) (by omega) (by omega)];unfold NG;rw [zAE hv,zAE hy]
 unfold OE cH Xj ck;rw [ya,zAF];simp only [zEN,zAs,zAL,zEE];rw [zAC (by omega),zAC (by omega),zAC (by omega),zAC (by omega)];simp only [zFq,zAH];rw [zAE ⟨⟨trivial,⟨trivial,trivial⟩,by rw [←L];omega⟩,⟨by omega,by omega⟩,hj⟩]
 have hw:Vi n (IntKind.u64.wrap (y.getD j 0)) s=some (bits .and .u64 (IntKind.u64.wrap (y.getD j 0)) (IntKind.u64.wrap (1*2 ^ s))):=by
  unfold Vi jE;rw [zAE ⟨by omega,by show (s:Int)<=((64:Nat):Int);omega⟩,zAL]
 rw [hw,zAF,zAE (by rw [zAn])]
 show ((PD n (Kl y j s)).bind fun y3=>some (y3,(0:Int))).bind _=_
 have kW:(Kl y j s).length=y.length:=zAn;unfold Ja
 generalize Kl y j s=z at kW ⊢
 have hn:PD n z=some (if EV z then List.replicate y.length 0 else z):=by
  unfold PD Zo;rw [nI (by omega) (by omega),zAF];cases EV z
  ·rfl
  ·rw [zAI,zAE ⟨rfl,by omega,by omega⟩,zAE (by simp),kW];rfl
 rw [hn];rfl
def Hg:List Int -> Option (List Int)
 | []=>some []
 | x::l=>match CM x 0 with
  | [s]=>(Hg l).map fun r=>(s:Int)::r
  | _=>none
theorem fy: ∀ {p g:List Int},Hg p=some g -> g.length=p.length
 | [],g,h=>by cases h;rfl
 | x::p,g,h=>by
  unfold Hg at h;split at h
  ·obtain ⟨r,hr,rfl⟩:=Option.map_eq_some_iff.1 h;rw [zAw,zAw,fy hr]
  ·cases h
theorem qN {n:Nat} {x10:Int}: ∀ (l:List Nat),(∀ s∈l,s<16) -> DB (Qx n pos x10) (l.map fun (s:Nat)=>(s:Int)) (.s0 0)=some (match l with | []=>(.s0 0,0) | [s]=>(.s1 1 1 [(s:Int)],0) | _=>(.s0 2,1))
 | [],_=>rfl
 | s::l,h=>by
  have hs:=h s (by simp)
  have e1:Qx n pos x10 (s:Int) (.s0 0)=some (.s1 1 1 [(s:Int)],0):=by
   show Qv n pos x10 (s:Int) 0=_
   unfold Qv;rw [zAE (by decide),zAC (by omega),zAH,zAC (by omega),zAH,zAE ⟨⟨rfl,rfl⟩,by simp,by simp [BA]⟩];rfl
  rw [zET];simp only [DB,e1,zAF];cases l with
  | nil=>rfl
  | cons t l=>
   have e2:Qx n pos x10 (t:Int) (.s1 1 1 [(s:Int)])=some (.s0 2,1):=by
    show Qu n pos x10 (t:Int) 1 1 [(s:Int)]=_
    unfold Qu;rw [zAE (by decide),zAJ (by omega),zAI];rfl
   simp only [zET,DB,e2,zAF];rfl
theorem qM {n m:Nat} {x10:Int} {o:List Int} (ho:m=o.length) (hl:o.length<=300): ∀ (l:List Nat),(∀ s∈l,s<16) -> DB (Qw n pos x10) (l.map fun (s:Nat)=>(s:Int)) (.s0 m 0 o)=some (match l with | []=>(.s0 m 0 o,0) | [s]=>(.s0 (m+1) 1 (o++[(s:Int)]),0) | _=>(.s1 2,1))
 | [],_=>rfl
 | s::l,h=>by
  have hs:=h s (by simp);have L:(1000000000000:Nat)=BA:=rfl
  have e1:Qw n pos x10 (s:Int) (.s0 m 0 o)=some (.s0 (m+1) 1 (o++[(s:Int)]),0):=by
   show Mt n pos x10 (s:Int) m 0 o=_
   unfold Mt;rw [zAE (by decide),zAC (by omega),zAH,zAC (by omega),zAH,zAE ⟨⟨rfl,rfl⟩,⟨rfl,ho⟩,by rw [←L];simp;omega⟩,ho];rfl
  rw [zET];simp only [DB,e1,zAF];cases l with
  | nil=>rfl
  | cons t l=>
   have e2:Qw n pos x10 (t:Int) (.s0 (m+1) 1 (o++[(s:Int)]))=some (.s1 2,1):=by
    show Mt n pos x10 (t:Int) (m+1) 1 (o++[(s:Int)])=_
    unfold Mt;rw [zAE (by decide),zAJ (by omega),zAI];rfl
   simp only [zET,DB,e2,zAF];rfl
def Qz (o:List Int):Option (List Int) -> List Int×Bool
 | some r=>(o++r,true)
 | none=>([],false)
theorem oJ {x:Int} (h:Sm 16 x):Ev (fun n=>Kw n (IntKind.u64.wrap x)) ((CM x 0).map fun (s:Nat)=>(s:Int)):=by
 have e:IntKind.u64.wrap x=x:=by
  show x % 18446744073709551616=x
  have:=h.2;exact Int.emod_eq_of_lt h.1 (by omega)
 rw [e];exact dS h 16 0 (by omega)
theorem gI {x:Int} {s:Nat} (h:s∈CM x 0):s<16:=(vW.1 h).1
theorem fw (hp: ∀ j,j<pos.length -> Sm 16 (pos.getD j 0)) (hl:pos.length<=256): ∀ (k j:Nat) (o:List Int),j+k=pos.length -> o.length<=256 -> o.length+k<=256 -> Ev (fun n=>GA pos n (.l2 (j:Int) o.length o)) (Qz o (Hg (pos.drop j)))
 | 0,j,o,e,ho,_=>by
  have:pos.drop j= []:=zEY (by omega);rw [this];refine Ev.one fun n=>?_
  show Mr n (GA pos n) pos (j:Int) o.length o=_
  unfold Mr;rw [zAC (by omega),zAH,zAE rfl];simp [Hg,Qz]
 | k+1,j,o,e,ho,hk=>by
  have hj:j<pos.length:=by omega
  have hd:pos.drop j=pos.getD j 0::pos.drop (j+1):=by
   rw [zBx hj,u8,zAM hj];rfl
  have hA:=oJ (hp j hj);have lb:AL ((j:Int)+1):=As.2 ⟨by omega,by omega⟩;have ih:=fun s:Nat=>fw hp hl k (j+1) (o++[(s:Int)]) (by omega) (by simp;omega) (by simp;omega)
  have start: ∀ n,GA pos (n+1) (.l2 (j:Int) o.length o)=Mr n (GA pos n) pos (j:Int) o.length o:=fun _=>rfl
  obtain ⟨N,hN⟩:=hA;have hN: ∀ n,N<=n -> Kw n (IntKind.u64.wrap (pos.getD j 0))=some ((CM (pos.getD j 0) 0).map fun (s:Nat)=>(s:Int)):=hN;have hf:=fun n=>qM (n:=n) (pos:=pos) (x10:=(j:Int)) (o:=o) rfl (by omega) (CM (pos.getD j 0) 0) fun s hs=>gI hs
  rw [hd,Hg];cases hs:CM (pos.getD j 0) 0 with
  | nil=>
   refine Ev.oneN N fun n hn=>?_
   rw [start];unfold Mr;rw [zAJ (by omega),zAI,zAE ⟨by omega,by omega⟩,zAL,hN n hn,zAF,hf n,hs];rfl
  | cons s l=>
   cases l with
   | nil=>
    have g:BE (GA pos) (.l2 (j:Int) o.length o) (.l2 ((j+1:Nat):Int) (o++[(s:Int)]).length (o++[(s:Int)])):=BE.oneN N fun n hn=>by
     rw [start];unfold Mr;rw [zAJ (by omega),zAI,zAE ⟨by omega,by omega⟩,zAL,hN n hn,zAF,hf n,hs];simp only [zAF,zEU,zAI];rw [show ((1:Int)==0)=false from rfl,zAH,zAE lb,zAm];rfl
    have:=g.ev (ih s);simp only;cases hr:Hg (pos.drop (j+1)) with
    | none=>rw [hr] at this;exact this
    | some r=>rw [hr] at this;simpa [Qz] using this
   | cons t l=>
    refine Ev.oneN N fun n hn=>?_
    rw [start];unfold Mr;rw [zAJ (by omega),zAI,zAE ⟨by omega,by omega⟩,zAL,hN n hn,zAF,hf n,hs];rfl
theorem qK (hp: ∀ j,j<pos.length -> Sm 16 (pos.getD j 0)) (hl:pos.length<=256):Ev (fun n=>Us n pos) (Qz [] (Hg pos)):=by
 cases pos with
 | nil=>
  refine Ev.eq (g:=fun n=>GA [] n (.l1 0)) (Ev.one fun n=>?_) fun n=>rfl
  show Ms n (GA [] n) [] 0=_
  unfold Ms;rfl
 | cons x p=>
  have hx:=hp 0 (by simp);have hx:Sm 16 x:=by simpa using hx
  obtain ⟨N,hN⟩:=oJ hx;have hN: ∀ n,N<=n -> Kw n (IntKind.u64.wrap x)=some ((CM x 0).map fun (s:Nat)=>(s:Int)):=hN;have hf:=fun n=>qN (n:=n) (pos:=x::p) (x10:=0) (CM x 0) fun s hs=>gI hs
  refine Ev.eq (g:=fun n=>GA (x::p) n (.l1 0)) ?_ fun n=>rfl
  have start: ∀ n,GA (x::p) (n+1) (.l1 0)=Ms n (GA (x::p) n) (x::p) 0:=fun _=>rfl
  have lt:decide ((0:Int)<(((x::p).length:Nat):Int))=true:=zAJ (by simp);have gd:(x::p).getD (0:Int).toNat 0=x:=rfl;rw [Hg];cases hs:CM x 0 with
  | nil=>
   refine Ev.oneN N fun n hn=>?_
   rw [start];unfold Ms;rw [lt,zAI,zAE ⟨by omega,by simp⟩,gd,hN n hn,zAF,hf n,hs];rfl
  | cons s l=>
   cases l with
   | nil=>
    have g:BE (GA (x::p)) (.l1 0) (.l2 ((1:Nat):Int) [(s:Int)].length [(s:Int)]):=BE.oneN N fun n hn=>by
     rw [start];unfold Ms;rw [lt,zAI,zAE ⟨by omega,by simp⟩,gd,hN n hn,zAF,hf n,hs];simp only [zAF,zEU,zAI];rw [show ((1:Int)==0)=false from rfl,zAH,zAE (by decide)];rfl
    have:=g.ev (fw hp hl p.length 1 [(s:Int)] (by simp;omega) (by simp) (by simp at hl ⊢;omega));simp only [List.drop_one,List.tail_cons] at this;simp only;cases hr:Hg p with
    | none=>rw [hr] at this;exact this
    | some r=>rw [hr] at this;simpa [Qz] using this
   | cons t l=>
    refine Ev.oneN N fun n hn=>?_
    rw [start];unfold Ms;rw [lt,zAI,zAE ⟨by omega,by simp⟩,gd,hN n hn,zAF,hf n,hs];rfl
end
end Go.Proofs.YtkjbblkieglmlaaGreatDoor
namespace Go.Proofs.YtkjbblkieglmlaaGreatDoor
open Go.RowKit
section
variable {q:AA} {c:AC} {pos:List Int} {k:Nat}
def Xx (q:AA) (i j:Nat) (g:Nat -> Nat):Prop:=∀ b,i<=b -> b+1<j -> q.values.getD (g b) 0<q.values.getD (g (b+1)) 0
end
end Go.Proofs.YtkjbblkieglmlaaGreatDoor
namespace Go.Proofs.YtkjbblkieglmlaaGreatDoor
open Go.RowKit
structure Gd (q:AA) (g:List Int):Prop where
 len:(g.length:Int)=q.cells
 sym: ∀ j,j<g.length -> 0<=g.getD j 0/\ g.getD j 0<q.symbols
def GB (g:List Int):List Int:=g.map fun s=>IntKind.i64.wrap (1*2 ^ s.toNat)
def Ax (c:AC) (g:List Int) (a:Nat):Nat:=(g.getD (c.cells.getD a 0).toNat 0).toNat
def DL (c:AC) (g:List Int):List Bool:=g.map fun s=>tb c.set s.toNat
def rl (b:Nat -> Bool) (len:Nat):Nat -> Int -> List Int
 | 0,l=>if l>0 then [l] else []
 | m+1,l=>bif b (len-1-m) then rl b len m (l+1) else if l>0 then l::rl b len m 0 else rl b len m 0
def Jm (n:List (List Int)) (inn:List Bool):Prop:=∀ u v:Nat,u<n.length -> v<n.length -> inn.getD u false=true -> inn.getD v false=true -> Rc n inn u v
def G4 (q:AA) (c:AC) (g:List Int):Prop:=
 (c.kind=1 -> ∀ a b,a<c.cells.length -> b<c.cells.length -> Ax c g a=Ax c g b -> a=b)/\
 (c.kind=2 -> c.lo<=cnt (fun a=>tb c.set (Ax c g a)) c.cells.length/\ cnt (fun a=>tb c.set (Ax c g a)) c.cells.length<=c.hi)/\
 (c.kind=3 -> c.lo<=EM (fun a=>q.values.getD (Ax c g a) 0) c.cells.length/\ EM (fun a=>q.values.getD (Ax c g a) 0) c.cells.length<=c.hi)/\
 (c.kind=4 -> Xx q 0 c.cells.length (Ax c g))/\
 (c.kind=5 -> rl (fun a=>tb c.set (Ax c g a)) c.cells.length c.cells.length 0=c.runs)/\
 (c.kind=6 -> IS q c (Ax c g 0) (Ax c g 1)=true)/\ (c.kind=7 -> Ho c (Ax c g 0) (Ax c g 1)=true)/\
 (c.kind=8 -> Jm q.nbrs (DL c g))/\
 (c.kind=9 -> Jm q.nbrs (DL c g)/\ ∀ v,v<g.length -> (DL c g).getD v false=true -> DN q.nbrs (DL c g) v=2)
theorem Mu {g:List Int}:(GB g).length=g.length:=zAq _
theorem Yg {g:List Int} {j:Nat} (hj:j<g.length):(GB g).getD j 0=IntKind.i64.wrap (1*2 ^ (g.getD j 0).toNat):=by
 unfold GB;rw [u8,zA1,zAM hj,u8,zAM hj];rfl
theorem jV {c:AC} {g:List Int}:(DL c g).length=g.length:=zAq _
theorem vU {c:AC} {g:List Int} {j:Nat} (hj:j<g.length):(DL c g).getD j false=tb c.set (g.getD j 0).toNat:=by
 unfold DL;rw [u8,zA1,zAM hj,u8,zAM hj];rfl
theorem iZ {k s:Nat} (hk:k<=16) (hs:s<k):Sm k (IntKind.i64.wrap (1*2 ^ s)):=
 Q0 (by omega) (UQ _) fun i hi _=>by rw [Js (by omega),zAC (by omega)]
section
variable {q:AA} {i:Int} {g:List Int} {c:AC}
theorem Gd.pos (G:Gd q g) (hv:CR q=true):posOk q (GB g)=true:=by
 have hk:=(E8 hv).2.1;refine (IL hv).2 ⟨by rw [Mu];exact G.len,fun j hj=>?_⟩;rw [Mu] at hj;have:=G.sym j hj;rw [Yg hj];exact iZ (by omega) (by omega)
theorem Gd.lt (G:Gd q g) (hv:CR q=true) {j:Nat} (hj:j<g.length):(g.getD j 0).toNat<q.symbols.toNat/\ (g.getD j 0).toNat<16:=by
 have hk:=(E8 hv).2.1;have:=G.sym j hj;omega
theorem qL (G:Gd q g) (hv:CR q=true) {j:Nat} (hj:j<g.length) (s:Nat):tb ((GB g).getD j 0) s=decide ((g.getD j 0).toNat=s):=by
 rw [Yg hj,Js (by have:=G.lt hv hj;omega)]
structure Sv (q:AA) (c:AC) (g:List Int):Prop where
 v:CR q=true
 G:Gd q g
 cell: ∀ a,a<c.cells.length -> 0<=c.cells.getD a 0/\ c.cells.getD a 0<(g.length:Int)
theorem Sv.lt (S:Sv q c g) {a:Nat} (ha:a<c.cells.length):Ax c g a<q.symbols.toNat/\ Ax c g a<16:=S.G.lt S.v (by have:=S.cell a ha;omega)
theorem B4.sv (C:B4 q i (GB g)) (G:Gd q g):Sv q (con q i) g:=⟨C.valid,G,fun a ha=>by have:=C.work.cells a ha;rw [Mu] at this;exact this⟩
theorem Sv.nz (S:Sv q c g): ∀ j,j<(GB g).length -> (GB g).getD j 0≠0:=fun j hj=>by
 rw [Mu] at hj;refine (Qi (by rw [Yg hj];exact UQ _)).2 ⟨(g.getD j 0).toNat,by have:=S.G.lt S.v hj;omega,?_⟩;rw [qL S.G S.v hj,zAJ rfl]
end
end Go.Proofs.YtkjbblkieglmlaaGreatDoor
namespace Go.Proofs.YtkjbblkieglmlaaGreatDoor
abbrev zE4:=@Nat.zero_lt_one
abbrev zFZ:=@iff_of_false
abbrev zGF:=@iff_of_true
end Go.Proofs.YtkjbblkieglmlaaGreatDoor
namespace Go.Proofs.YtkjbblkieglmlaaGreatDoor
open Go.RowKit
theorem Lm {k s n:Nat} {x:Int} (h:Sm k x) (hk:k<=62) (hs:s<64):HN n x (s:Int)=some (tb x s):=by
 unfold HN kU;rw [zAE ⟨by omega,by show (s:Int)<=((64:Nat):Int);omega⟩,zAL,Yh h hk hs]
section
variable {q:AA} {g:List Int} {c:AC}
theorem Sv.gi (S:Sv q c g) {a:Nat} (ha:a<c.cells.length):g.getD (c.cells.getD a 0).toNat 0=((Ax c g a:Nat):Int):=by
 have h:=S.cell a ha;have:=S.G.sym (c.cells.getD a 0).toNat (by omega);unfold Ax;omega
theorem qO {k:Nat} {x y:Int} (hk:k<=62) (hx:Sm k x) (hy:Sm k y):Sm k (bits .or .i64 x y):=
 Q0 hk (Ks _ _ _) fun i hi _=>by rw [Jt,hx.hi hi,hy.hi hi];rfl
theorem zB7 (S:Sv q c g) (hl:c.cells.length<=256): ∃ r,Ev (fun n=>XN n g c.cells) r/\ (r=true↔∀ a b,a<c.cells.length -> b<c.cells.length -> Ax c g a=Ax c g b -> a=b):=by
 have key: ∀ (k i:Nat) (x:Int),i+k=c.cells.length -> Sm 16 x -> (∀ s,tb x s=true↔∃ b,b<i/\ Ax c g b=s) -> (∀ a b,a<i -> b<i -> Ax c g a=Ax c g b -> a=b) ->
  ∃ r,Ev (fun n=>MG g c.cells n (.l1 x (i:Int))) r/\ (r=true↔∀ a b,a<c.cells.length -> b<c.cells.length -> Ax c g a=Ax c g b -> a=b):=by
  intro k
  induction k with
  | zero=>
   intro i x e hx hs hd;have e:i=c.cells.length:=by omega
   subst e;refine ⟨true,Ev.one fun n=>?_,zGF rfl hd⟩
   show Th n (MG g c.cells n) g c.cells x (c.cells.length:Int)=_
   unfold Th;rw [zAC (by omega),zAH]
  | succ k ih=>
   intro i x e hx hs hd;have hi:i<c.cells.length:=by omega
   have hc:=S.cell i hi;have AO:=(S.lt hi).2
   have step: ∀ n,MG g c.cells (n+1) (.l1 x (i:Int))=bif tb x (Ax c g i) then some false else MG g c.cells n (.l1 (bits .or .i64 x (IntKind.i64.wrap (1*2 ^ Ax c g i))) ((i+1:Nat):Int)):=fun n=>by
    show Th n (MG g c.cells n) g c.cells x (i:Int)=_
    unfold Th;rw [zAJ (by omega),zAI,zAL,zAE ⟨⟨by omega,by omega⟩,hc⟩,S.gi hi,Lm hx (by decide) (by omega),zAF];cases tb x (Ax c g i)
    ·rw [zAH,zAH,zAE ⟨⟨by omega,by show ((Ax c g i:Nat):Int)<=((64:Nat):Int);omega⟩,As.2 ⟨by omega,by omega⟩⟩,zAL,show ((i+1:Nat):Int)=(i:Int)+1 by omega]
    ·rfl
   cases hb:tb x (Ax c g i) with
   | true=>
    obtain ⟨b,h1,h2⟩:=(hs _).1 hb;refine ⟨false,Ev.one fun n=>by rw [step n,hb,zAI],zFZ (by decide) fun h=>?_⟩;have:=h b i (by omega) hi h2;omega
   | false=>
    have no: ∀ b,b<i -> Ax c g b≠Ax c g i:=fun b DA e=>by
     rw [(hs _).2 ⟨b,DA,e⟩] at hb;cases hb
    obtain ⟨r,h1,h2⟩:=ih (i+1) (bits .or .i64 x (IntKind.i64.wrap (1*2 ^ Ax c g i))) (by omega) (qO (by decide) hx (iZ (by decide) AO)) (fun s=>by
     rw [Jt,Js (by omega),zAz,hs,zAv];constructor
     ·rintro (⟨b,h1,h2⟩ | h)
      ·exact ⟨b,by omega,h2⟩
      ·exact ⟨i,by omega,h⟩
     ·rintro ⟨b,h1,h2⟩;rcases zAc.1 h1 with h | rfl
      ·exact .inl ⟨b,h,h2⟩
      ·exact .inr h2) (fun a b ha hb e'=>by
     rcases zAc.1 ha with ha | rfl <;> rcases zAc.1 hb with hb | rfl
     ·exact hd a b ha hb e'
     ·exact absurd e' (no a ha)
     ·exact absurd e'.symm (no b hb)
     ·rfl)
    exact ⟨r,BE.ev (BE.one fun n=>by rw [step n,hb,zAH]) h1,h2⟩
 exact key c.cells.length 0 0 (by omega) ⟨by decide,by decide⟩ (fun s=>by rw [Ud];simp) fun a b ha=>absurd ha (zAo a)
theorem zCQ (S:Sv q c g) (hl:c.cells.length<=256) {k:Nat} (hs:Sm k c.set) (hk:k<=16):Ev (fun n=>XU n g c.cells c.set) (cnt (fun a=>tb c.set (Ax c g a)) c.cells.length):=by
 have key: ∀ (k i:Nat),i+k=c.cells.length -> Ev (fun n=>QI g c.cells c.set n (.l1 (cnt (fun a=>tb c.set (Ax c g a)) i) (i:Int))) (cnt (fun a=>tb c.set (Ax c g a)) c.cells.length):=by
  intro k
  induction k with
  | zero=>
   intro i e;have e:i=c.cells.length:=by omega
   subst e;refine Ev.one fun n=>?_
   show Tx n (QI g c.cells c.set n) g c.cells c.set _ (c.cells.length:Int)=_
   unfold Tx;rw [zAC (by omega),zAH]
  | succ k ih=>
   intro i e;have hi:i<c.cells.length:=by omega
   have hc:=S.cell i hi;have AO:=(S.lt hi).2;have hb:=QK (p:=fun a=>tb c.set (Ax c g a)) (i:=i);refine BE.ev (BE.one fun n=>?_) (ih (i+1) (by omega))
   show Tx n (QI g c.cells c.set n) g c.cells c.set _ (i:Int)=_
   unfold Tx;rw [zAJ (by omega),zAI,zAL,zAE ⟨⟨by omega,by omega⟩,hc⟩,S.gi hi,Lm hs (by omega) (by omega),zAF,FO,show ((i+1:Nat):Int)=(i:Int)+1 by omega];cases tb c.set (Ax c g i)
   ·rw [zAH,zAE (As.2 ⟨by omega,by omega⟩)];simp
   ·rw [zAI,zAE ⟨As.2 ⟨by omega,by omega⟩,As.2 ⟨by omega,by omega⟩⟩,zAE rfl]
 exact key c.cells.length 0 (by omega)
theorem pZ (S:Sv q c g) (V:FS q q.symbols.toNat) (hl:c.cells.length<=256):Ev (fun n=>Uo n q.values g c.cells) (EM (fun a=>q.values.getD (Ax c g a) 0) c.cells.length):=by
 have hv: ∀ i,i<c.cells.length -> 0<=q.values.getD (Ax c g i) 0/\ q.values.getD (Ax c g i) 0<=99:=fun i hi=>V.val _ (S.lt hi).1
 have key: ∀ (k i:Nat),i+k=c.cells.length -> Ev (fun n=>Oq q.values g c.cells n (.l1 (EM (fun a=>q.values.getD (Ax c g a) 0) i) (i:Int))) (EM (fun a=>q.values.getD (Ax c g a) 0) c.cells.length):=by
  intro k
  induction k with
  | zero=>
   intro i e;have e:i=c.cells.length:=by omega
   subst e;refine Ev.one fun n=>?_
   show Qp n (Oq q.values g c.cells n) q.values g c.cells _ (c.cells.length:Int)=_
   unfold Qp;rw [zAC (by omega),zAH]
  | succ k ih=>
   intro i e;have hi:i<c.cells.length:=by omega
   have hc:=S.cell i hi;have AO:=(S.lt hi).1;have Gj:=V.len;have Cr:=hv i hi;have hb:=Oj (f:=fun a=>q.values.getD (Ax c g a) 0) i fun a ha=>by have:=hv a (by omega);omega
   refine BE.ev (BE.one fun n=>?_) (ih (i+1) (by omega))
   show Qp n (Oq q.values g c.cells n) q.values g c.cells _ (i:Int)=_
   unfold Qp;rw [zAJ (by omega),zAI,zAL,S.gi hi,zAL,zAE ⟨⟨by omega,by omega⟩,hc,⟨by omega,by omega⟩,As.2 ⟨by omega,by omega⟩,As.2 ⟨by omega,by omega⟩⟩,show ((i+1:Nat):Int)=(i:Int)+1 by omega];rfl
 exact key c.cells.length 0 (by omega)
theorem s3 (S:Sv q c g) (V:FS q q.symbols.toNat) (hl:c.cells.length<=256): ∃ r,Ev (fun n=>VE n q.values g c.cells) r/\ (r=true↔Xx q 0 c.cells.length (Ax c g)):=by
 have hv: ∀ i,i<c.cells.length -> 0<=q.values.getD (Ax c g i) 0/\ q.values.getD (Ax c g i) 0<=99:=fun i hi=>V.val _ (S.lt hi).1
 have key: ∀ (k i:Nat) (x:Int),i+k=c.cells.length -> (i=0 -> x= -1) -> (0<i -> x=q.values.getD (Ax c g (i-1)) 0) -> Xx q 0 i (Ax c g) ->
  ∃ r,Ev (fun n=>LU q.values g c.cells n (.l1 x (i:Int))) r/\ (r=true↔Xx q 0 c.cells.length (Ax c g)):=by
  intro k
  induction k with
  | zero=>
   intro i x e h0 h1 hI;have e:i=c.cells.length:=by omega
   subst e;refine ⟨true,Ev.one fun n=>?_,zGF rfl hI⟩
   show RV n (LU q.values g c.cells n) q.values g c.cells x (c.cells.length:Int)=_
   unfold RV;rw [zAC (by omega),zAH]
  | succ k ih=>
   intro i x e h0 h1 hI;have hi:i<c.cells.length:=by omega
   have hc:=S.cell i hi;have AO:=(S.lt hi).1;have Gj:=V.len;have Cr:=hv i hi
   have step: ∀ n,LU q.values g c.cells (n+1) (.l1 x (i:Int))=bif decide (q.values.getD (Ax c g i) 0<=x) then some false else LU q.values g c.cells n (.l1 (q.values.getD (Ax c g i) 0) ((i+1:Nat):Int)):=fun n=>by
    show RV n (LU q.values g c.cells n) q.values g c.cells x (i:Int)=_
    unfold RV;rw [zAJ (by omega),zAI,zAL,S.gi hi,zAL,zAE ⟨⟨by omega,by omega⟩,hc,by omega,by omega⟩,zAE (As.2 ⟨by omega,by omega⟩),show ((i+1:Nat):Int)=(i:Int)+1 by omega]
   by_cases h:q.values.getD (Ax c g i) 0<=x
   ·refine ⟨false,Ev.one fun n=>by rw [step n,zAJ h,zAI],zFZ (by decide) fun hI2=>?_⟩;rcases zFE i with e0 | e0
    ·have:=h0 e0;omega
    ·have h2:=hI2 (i-1) (zEj _) (by omega);rw [←h1 e0,show i-1+1=i by omega] at h2;omega
   ·obtain ⟨r,r1,r2⟩:=ih (i+1) (q.values.getD (Ax c g i) 0) (by omega) (fun h=>absurd h (by omega)) (fun _=>by rw [Nat.add_sub_cancel]) (fun b bV hb=>by
     by_cases e1:b+1=i
     ·rw [e1,show b=i-1 by omega,←h1 (by omega)];omega
     ·exact hI b bV (by omega))
    exact ⟨r,BE.ev (BE.one fun n=>by rw [step n,zAC h,zAH]) r1,r2⟩
 exact key c.cells.length 0 (-1) (by omega) (fun _=>rfl) (fun h=>absurd h (Nat.lt_irrefl 0)) fun b _ h=>absurd h (zAo _)
theorem sI (S:Sv q c g) (hl:c.cells.length<=256) {k:Nat} (hs:Sm k c.set) (hk:k<=16):Ev (fun n=>Ox n c.cells c.set g) (rl (fun a=>tb c.set (Ax c g a)) c.cells.length c.cells.length 0):=by
 have key: ∀ (m i:Nat) (l:Int),i+m=c.cells.length -> 0<=l/\ l<=(i:Int) -> Ev (fun n=>Gb c.cells c.set g n (.l1 l (i:Int))) (rl (fun a=>tb c.set (Ax c g a)) c.cells.length m l):=by
  intro m
  induction m with
  | zero=>
   intro i l e Cg;have e:i=c.cells.length:=by omega
   subst e;refine Ev.one fun n=>?_
   show M3 n (Gb c.cells c.set g n) c.cells c.set g l (c.cells.length:Int)=_
   unfold M3 rl;rw [zAC (by omega),zAH]
   by_cases h:l>0
   ·rw [zAJ h,zAI,zAE h];rfl
   ·rw [zAC h,zAH,zAU h]
  | succ m ih=>
   intro i l e Cg;have hi:i<c.cells.length:=by omega
   have hc:=S.cell i hi;have AO:=(S.lt hi).2;have ei:c.cells.length-1-m=i:=by omega
   have start: ∀ n,Gb c.cells c.set g (n+1) (.l1 l (i:Int))=bif tb c.set (Ax c g i) then Gb c.cells c.set g n (.l1 (l+1) ((i+1:Nat):Int)) else bif decide (l>0) then (Gb c.cells c.set g n (.l1 0 ((i+1:Nat):Int))).map (fun r=>l::r) else Gb c.cells c.set g n (.l1 0 ((i+1:Nat):Int)):=fun n=>by
    have r1:AL ((i:Int)+1):=As.2 ⟨by omega,by omega⟩
    show M3 n (Gb c.cells c.set g n) c.cells c.set g l (i:Int)=_
    unfold M3;rw [zAJ (by omega),zAI,zAL,zAE ⟨⟨by omega,by omega⟩,hc⟩,S.gi hi,Lm hs (by omega) (by omega),zAF,show ((i+1:Nat):Int)=(i:Int)+1 by omega];cases tb c.set (Ax c g i)
    ·rw [zAH,zAH,zAE r1];cases decide (l>0) <;> rfl
    ·rw [zAI,zAI,zAE ⟨As.2 ⟨by omega,by omega⟩,r1⟩]
   unfold rl;rw [ei];cases hb:tb c.set (Ax c g i) with
   | true=>exact BE.ev (BE.one fun n=>by rw [start n,hb,zAI]) (ih (i+1) (l+1) (by omega) (by omega))
   | false=>
    have h0:=ih (i+1) 0 (by omega) (by omega)
    by_cases h:l>0
    ·obtain ⟨N,h0⟩:=h0;refine ⟨N+1,fun n hn=>?_⟩;obtain ⟨n,rfl⟩: ∃ k,n=k+1:=⟨n-1,by omega⟩
     show Gb c.cells c.set g (n+1) (.l1 l (i:Int))=_
     rw [start n,hb,zAH,zAJ h,zAI,show Gb c.cells c.set g n (.l1 0 ((i+1:Nat):Int))=_ from h0 n (by omega),zAH,zAE h];rfl
    ·rw [zAH,zAU h];exact BE.ev (BE.one fun n=>by rw [start n,hb,zAH,zAC h,zAH]) h0
 exact key c.cells.length 0 0 (by omega) ⟨zEK _,by omega⟩
theorem Y7 {b:Nat -> Bool} {N:Nat}: ∀ (m:Nat) (l:Int),(rl b N m l).length<=m+1
 | 0,l=>by unfold rl;split <;> simp
 | m+1,l=>by
  unfold rl;cases b (N-1-m)
  ·rw [zAH];have:=Y7 (b:=b) (N:=N) m 0;split
   ·simp;omega
   ·omega
  ·rw [zAI];have:=Y7 (b:=b) (N:=N) m (l+1);omega
theorem oF {n:Nat}: ∀ (l x:List Int),(x++l).length<=BA -> Bl (Xr n) l (.s1 x.length x)=some (.s1 (x++l).length (x++l))
 | [],x,h=>by rw [zEk];rfl
 | a::l,x,h=>by
  have e:x++a::l=x++[a]++l:=by simp
  have hl:x.length+([a]:List Int).length<=BA:=by simp only [zAm,zAw] at h;simp only [zDv];omega
  show (UC n a x.length x).bind _=_
  unfold UC;rw [zAE ⟨⟨rfl,rfl⟩,⟨rfl,rfl⟩,hl⟩,zAF,e,←zAm];exact oF l (x++[a]) (by rw [←e];exact h)
theorem zCs {n:Nat} {l:List Int} (hl:l.length<=300):OM n l=some l:=by
 have L:(1000000000000:Nat)=BA:=rfl;unfold OM ca Xs dK;cases l with
 | nil=>rfl
 | cons a l=>
  have e:Bl (Xr n) (a::l) .s0=some (.s1 ([a]++l).length ([a]++l)):=by
   show (UD n a).bind _=_
   unfold UD;rw [zAE ⟨⟨rfl,rfl⟩,zE4,by rw [←L];show 1<=_;omega⟩,zAF];exact oF l [a] (by rw [←L];simp only [zAm,zAw,zEE] at hl ⊢;omega)
  rw [e,zAF]
  show (if ([a]++l).length=([a]++l).length then some ([a]++l) else none).bind _=_
  rw [zAE rfl];rfl
end
end Go.Proofs.YtkjbblkieglmlaaGreatDoor
namespace Go.Proofs.YtkjbblkieglmlaaGreatDoor
open Go.RowKit
section
variable {q:AA} {i:Int} {g:List Int} {c:AC}
end
end Go.Proofs.YtkjbblkieglmlaaGreatDoor
namespace Go.Proofs.YtkjbblkieglmlaaGreatDoor
open Go.RowKit
section
variable {g:List (List Int)} {inn:List Bool}
def zD1 (g:List (List Int)) (inn:List Bool) (r:List (List Int)×Int):Prop:=r.2=0/\ (r.1.length=0↔∀ v,v<g.length -> inn.getD v false=false)/\ (r.1.length<=1↔Jm g inn)
theorem ZM {part:List Int} {Bq:Int} (h:Pt g inn g.length part Bq):(Bq=0↔∀ v,v<g.length -> inn.getD v false=false)/\ (Bq<=1↔Jm g inn):=by
 have m0:=h.m0;constructor
 ·constructor
  ·intro e v hv;cases hb:inn.getD v false with
   | false=>rfl
   | true=>
    have:=h.all v hv hv hb;have:=(h.lo v hv).2;omega
  ·intro hn;refine Classical.byContradiction fun Am=>?_
   obtain ⟨v,h1,h2⟩:=h.sur 1 (by decide) (by omega);have:=h.isIn v h1 (by omega);rw [hn v h1] at this;cases this
 ·constructor
  ·intro e u v hu hv mu mv;have a1:=h.all u hu hu mu;have a2:=h.all v hv hv mv;have b1:=(h.lo u hu).2;have b2:=(h.lo v hv).2;exact h.con u v hu hv a1 (by omega)
  ·intro hC;refine Classical.byContradiction fun Am=>?_
   obtain ⟨u,u1,u2⟩:=h.sur 1 (by decide) (by omega);obtain ⟨v,v1,v2⟩:=h.sur 2 (by decide) (by omega);have:=h.same u v u1 v1 (by omega) (hC u v u1 v1 (h.isIn u u1 (by omega)) (h.isIn v v1 (by omega)));omega
theorem cY (G:Gr g) {part:List Int} {Bq:Int} (hP:Pt g inn g.length part Bq): ∀ (k j:Nat) (o:List (List Int)) (n:Nat),j+k=part.length -> o.length=Bq.toNat -> (∀ r,(o.getD r default).length<=j) -> k+1<=n ->
 ∃ o',Kr g inn n (.l1 Bq.toNat part (part.length:Int) (j:Int) o)=some (o',0)/\ o'.length=Bq.toNat
 | 0,j,o,n,e,ho,hr,hn=>by
  obtain ⟨n,rfl⟩: ∃ k,n=k+1:=⟨n-1,by omega⟩;refine ⟨o,?_,ho⟩
  show OL n (Kr g inn n) g inn Bq.toNat part (part.length:Int) (j:Int) o=_
  unfold OL;rw [zAC (by omega),zAH,zAE ho.symm]
 | k+1,j,o,n,e,ho,hr,hn=>by
  obtain ⟨n,rfl⟩: ∃ k,n=k+1:=⟨n-1,by omega⟩;have Ao:=hP.len;have hG:=G.len;have z7:=hP.lo j (by omega);have L:(1000000000000:Nat)=BA:=rfl;have r1:AL ((j:Int)+1):=As.2 ⟨by omega,by omega⟩;have hm:=hP.m1
  by_cases h0:part.getD j 0>0
  ·have hrj:=hr (0+(part.getD j 0-1).toNat)
   have key:=cY G hP k (j+1) (o.set (0+(part.getD j 0-1).toNat) (o.getD (0+(part.getD j 0-1).toNat) default++[(j:Int)])) n (by omega) (by rw [zAn];exact ho) (fun r=>by
    by_cases er:0+(part.getD j 0-1).toNat=r
    ·subst er;rw [u8,zEJ (by omega),zEc,zAm,zDv];omega
    ·have:=hr r;rw [u8,zEF er,←u8];omega) (by omega)
   obtain ⟨o',h1,h2⟩:=key;refine ⟨o',?_,h2⟩;rw [←h1]
   show OL n (Kr g inn n) g inn Bq.toNat part (part.length:Int) (j:Int) o=_
   unfold OL;rw [zAJ (by omega),zAI,zAE ⟨by omega,by omega⟩,zAL,zAJ h0,zAI,zAE ⟨As.2 ⟨by omega,by omega⟩,⟨by omega,by omega⟩,by omega,by rw [zDv,←L];omega,r1⟩,show ((j+1:Nat):Int)=(j:Int)+1 by omega]
  ·obtain ⟨o',h1,h2⟩:=cY G hP k (j+1) o n (by omega) ho (fun r=>by have:=hr r;omega) (by omega);refine ⟨o',?_,h2⟩;rw [←h1]
   show OL n (Kr g inn n) g inn Bq.toNat part (part.length:Int) (j:Int) o=_
   unfold OL;rw [zAJ (by omega),zAI,zAE ⟨by omega,by omega⟩,zAL,zAC h0,zAH,zAE r1,show ((j+1:Nat):Int)=(j:Int)+1 by omega]
theorem zCl (G:IA g) (hI:inn.length=g.length):Ae (fun n=>Xb n g inn) (zD1 g inn):=by
 have hG:=G.gr.len;have h0:=Wt G (sets:=[inn]) (fun x hx=>by rw [zAu] at hx;rw [hx,hI]) (by simp);refine Ae.bind h0 (b:=fun n y1=>bif (y1 != 0) then some (([]:List (List Int)),y1) else (parts n g inn).bind fun y2=>if (y2.2:Int)=y2.2/\ 0<=y2.2/\ (y2.2:Int)<=1000000000000 then Kr g inn n (.l1 y2.2.toNat y2.1 (y2.1.length:Int) 0 (List.replicate y2.2.toNat [])) else none) ?_;refine Ae.bindU (ZW G.gr hI) (b:=fun n y2=>if (y2.2:Int)=y2.2/\ 0<=y2.2/\ (y2.2:Int)<=1000000000000 then Kr g inn n (.l1 y2.2.toNat y2.1 (y2.1.length:Int) 0 (List.replicate y2.2.toNat [])) else none) ⟨g.length+1,fun n hn r hP=>?_⟩;obtain ⟨part,Bq⟩:=r;have hP:Pt g inn g.length part Bq:=hP;have m0:=hP.m0;have m1:=hP.m1;have Ao:=hP.len
 obtain ⟨o',h1,h2⟩:=cY G.gr hP part.length 0 (List.replicate Bq.toNat []) n (by omega) zAl (fun r=>by
  rw [u8,zEA];split <;> exact zAp 0) (by omega)
 refine ⟨(o',0),?_,rfl,?_,?_⟩
 ·rw [zAE ⟨rfl,m0,by show Bq<=_;omega⟩];exact h1
 ·rw [←(ZM hP).1,h2];omega
 ·rw [←(ZM hP).2,h2];omega
/-! ### Rings-/
theorem vQ (G:IA g) {v:Nat} (hv:v<g.length):(nb g v).Pairwise (· < ·)/\ (v:Int)∉nb g v:=by
 have h:=G.ok;unfold Kk at h;rw [zAN,zAT] at h;have hr:=h.2 v (zAi.2 hv);unfold I1 at hr;rw [zAT] at hr;have e:nb g v=g.getD v []:=by unfold nb;rw [zAL]
 rw [e]
 generalize g.getD v []=l at hr
 have AF: ∀ k,k<l.length -> l.getD k 0≠v/\ (0<k -> l.getD (k-1) 0<l.getD k 0):=fun k hk=>by
  have:=hr k (zAi.2 hk);unfold HJ at this;simp only [zAN,zEy,ne_eq,zAz,zEO,decide_eq_false_iff_not,zAv] at this;exact ⟨this.1.1.2,fun h=>this.1.2.resolve_left fun hn=>hn h⟩
 have xR: ∀ d i,i+d+1<l.length -> l.getD i 0<l.getD (i+d+1) 0:=by
  intro d
  induction d with
  | zero=>intro i hi;exact (AF (i+1) hi).2 (by omega)
  | succ d ih=>
   intro i hi;have h1:=ih i (by omega);have h2:=(AF (i+(d+1)+1) hi).2 (by omega);rw [show i+(d+1)+1-1=i+d+1 by omega] at h2;omega
 constructor
 ·rw [List.pairwise_iff_getElem];intro i j hi hj Pg;have:=xR (j-i-1) i (by omega);rw [show i+(j-i-1)+1=j by omega] at this;simpa [u8,hi,hj] using this
 ·intro hm;obtain ⟨k,hk,e⟩:=zEQ hm;refine (AF k hk).1 ?_;rw [u8,zAM hk];exact e
theorem pJ (G:IA g) {v:Nat} (hv:v<g.length) (mv:inn.getD v false=true) (hd:DN g inn v=2):3<=(List.range g.length).countP fun x=>inn.getD x false:=by
 obtain ⟨hs,hn⟩:=vQ G hv;have hr:=G.gr.rng v (by omega) (by omega);have dP:((nb g v).filter fun x=>inn.getD x.toNat false).length=2:=by rw [←List.countP_eq_length_filter];exact hd
 have Hz:=hs.filter (fun x=>inn.getD x.toNat false);have hm: ∀ x∈(nb g v).filter fun x=>inn.getD x.toNat false,x∈nb g v/\ inn.getD x.toNat false=true:=fun x hx=>zE3.1 hx
 generalize ((nb g v).filter fun x=>inn.getD x.toNat false)=F at dP Hz hm
 match F,dP with
 | [x,y],_=>
  have WO:x<y:=by
   rw [zFi] at Hz;exact Hz.1 y (by simp)
  obtain ⟨x1,x2⟩:=hm x (by simp);obtain ⟨y1,y2⟩:=hm y (by simp);have xr:=hr x x1;have yr:=hr y y1;have xv:x≠v:=fun e=>hn (e▸x1)
  have yv:y≠v:=fun e=>hn (e▸y1)
  have a1:=XS (f:=fun z=>inn.getD z false&&!(z==v)) (g:=fun z=>inn.getD z false) (a:=v) (by simp) mv (List.range g.length) (fun z _ hz=>by rw [zAN] at hz;exact hz.1) (zAi.2 hv);have a2:=XS (f:=fun z=>(inn.getD z false&&!(z==v))&&!(z==x.toNat)) (g:=fun z=>inn.getD z false&&!(z==v)) (a:=x.toNat) (by simp) (by rw [x2];simp;omega) (List.range g.length) (fun z _ hz=>by rw [zAN] at hz;exact hz.1) (zAi.2 (by omega));have a3:=XS (f:=fun z=>((inn.getD z false&&!(z==v))&&!(z==x.toNat))&&!(z==y.toNat)) (g:=fun z=>(inn.getD z false&&!(z==v))&&!(z==x.toNat)) (a:=y.toNat) (by simp) (by rw [y2];simp;omega) (List.range g.length) (fun z _ hz=>by rw [zAN] at hz;exact hz.1) (zAi.2 (by omega));omega
def oN (g:List (List Int)) (inn:List Bool) (r:Bool×Int):Prop:=r.2=0/\ (r.1=true↔(∀ v,v<g.length -> inn.getD v false=true -> DN g inn v=2)/\ (∃ v,v<g.length/\ inn.getD v false=true)/\ Jm g inn)
theorem iL (hI:inn.length=g.length) {x6 x23:Int} {row:List Int} (hr: ∀ u∈row,0<=u/\ u<(g.length:Int)) (hl:row.length<=256): ∀ (k j:Nat),j+k=row.length -> BE (HE g inn) (.l2 x6 (((row.take j).countP fun x=>inn.getD x.toNat false:Nat):Int) x23 row (row.length:Int) (j:Int)) (.l2 x6 ((row.countP fun x=>inn.getD x.toNat false:Nat):Int) x23 row (row.length:Int) (row.length:Int))
 | 0,j,e=>by
  have:j=row.length:=by omega
  subst this;rw [List.take_length];exact BE.refl
 | k+1,j,e=>by
  have hj:j<row.length:=by omega
  have hm:=hr (row.getD j 0) (by rw [u8,zAM hj];exact zA7 hj);have hc:=zFK (p:=fun x:Int=>inn.getD x.toNat false) (l:=row.take j);rw [zEw] at hc;have tk:row.take (j+1)=row.take j++[row.getD j 0]:=by rw [zEP hj];simp [hj]
  have ih:=iL hI (x6:=x6) (x23:=x23) hr hl k (j+1) (by omega);rw [tk,List.countP_append,zFy] at ih;refine BE.trans (BE.one fun n=>?_) ih
  show M7 n (HE g inn n) g inn x6 _ x23 row (row.length:Int) (j:Int)=_
  unfold M7;rw [zAJ (by omega),zAI,zAL,zAE ⟨⟨by omega,by omega⟩,hm.1,by omega⟩,show ((j+1:Nat):Int)=(j:Int)+1 by omega];cases inn.getD (row.getD j 0).toNat false
  ·rw [zAH,zAE (As.2 ⟨by omega,by omega⟩)];simp
  ·rw [zAI,zAE ⟨As.2 ⟨by omega,by omega⟩,As.2 ⟨by omega,by omega⟩⟩];simp
theorem Y8 (G:IA g) (hI:inn.length=g.length): ∀ (k v:Nat),v+k=g.length -> (∀ u,u<v -> inn.getD u false=true -> DN g inn u=2) -> Ae (fun n=>HE g inn n (.l1 (((List.range v).countP fun x=>inn.getD x false:Nat):Int) (v:Int))) (oN g inn)
 | 0,v,e,hd=>by
  have:v=g.length:=by omega
  subst this;refine Ae.step 1 (g:=fun n=>(parts n g inn).bind fun y1=>bif decide ((((List.range g.length).countP fun x=>inn.getD x false:Nat):Int)>=3) then some ((y1.2==1),(0:Int)) else some (false,0)) (fun n=>?_) ?_
  ·show M8 n (HE g inn n) g inn _ (g.length:Int)=_
   unfold M8;rw [zAC (by omega),zAH]
  ·refine Ae.bindU (ZW G.gr hI) (b:=fun n y1=>bif decide ((((List.range g.length).countP fun x=>inn.getD x false:Nat):Int)>=3) then some ((y1.2==1),(0:Int)) else some (false,0)) ⟨0,fun n _ r hP=>?_⟩;obtain ⟨part,Bq⟩:=r;obtain ⟨p1,p2⟩:=ZM hP;have m0:=hP.m0
   by_cases h3:(((List.range g.length).countP fun x=>inn.getD x false:Nat):Int)>=3
   ·rw [zAJ h3,zAI];refine ⟨_,rfl,rfl,?_⟩
    show (Bq==1)=true↔_
    rw [zDu];constructor
    ·intro e1;refine ⟨hd,?_,p2.1 (by omega)⟩;refine Classical.byContradiction fun hn=>?_
     have:=p1.2 fun v hv=>by
      cases hb:inn.getD v false with
      | false=>rfl
      | true=>exact absurd ⟨v,hv,hb⟩ hn
     have m0:0<=Bq:=m0;have:Bq=0:=this;omega
    ·rintro ⟨_,⟨v,hv,mv⟩,hC⟩;have h1:=p2.2 hC
     have h0: ¬ Bq=0:=fun e=>by
      have:=p1.1 e v hv;rw [mv] at this;cases this
     have m0:0<=Bq:=m0;have h1:Bq<=1:=h1;omega
   ·rw [zAC h3,zAH];refine ⟨_,rfl,rfl,?_⟩;refine zFZ (by decide) ?_;rintro ⟨zAa,⟨v,hv,mv⟩,_⟩;have:=pJ G hv mv (zAa v hv mv);omega
 | k+1,v,e,hd=>by
  have hv:v<g.length:=by omega
  have hG:=G.gr.len;have r1:AL ((v:Int)+1):=As.2 ⟨by omega,by omega⟩
  have ec:(((List.range (v+1)).countP fun x=>inn.getD x false:Nat):Int)=(((List.range v).countP fun x=>inn.getD x false:Nat):Int)+(if inn.getD v false then 1 else 0):=by
   rw [List.range_succ,List.countP_append,zFy];split <;> simp
  have A2:=zFK (p:=fun x=>inn.getD x false) (l:=List.range v);rw [zFL] at A2;cases hb:inn.getD v false with
  | false=>
   have ih:=Y8 G hI k (v+1) (by omega) fun u hu mu=>by
    rcases zAc.1 hu with hu | rfl
    ·exact hd u hu mu
    ·rw [hb] at mu;cases mu
   rw [ec,hb] at ih;refine BE.pev (BE.one fun n=>?_) ih
   show M8 n (HE g inn n) g inn _ (v:Int)=_
   unfold M8;rw [zAJ (by omega),zAI,zAE ⟨⟨by omega,by omega⟩,by omega,by omega⟩,zAL,hb,zEG,zAI,zAE r1,show ((v+1:Nat):Int)=(v:Int)+1 by omega];simp
  | true=>
   have KX:=G.gr.row v (by omega) (by omega);have Pa:=G.gr.rng v (by omega) (by omega);have en:nb g v=g.getD v []:=by unfold nb;rw [zAL]
   refine BE.pev (BE.one (b:=.l2 ((((List.range v).countP fun x=>inn.getD x false:Nat):Int)+1) 0 (v:Int) (nb g v) ((nb g v).length:Int) 0) fun n=>?_) ?_
   ·show M8 n (HE g inn n) g inn _ (v:Int)=_
    unfold M8;rw [zAJ (by omega),zAI,zAE ⟨⟨by omega,by omega⟩,by omega,by omega⟩,zAL,hb,zD7,zAH,zAE (As.2 ⟨by omega,by omega⟩),en]
   ·have ld:=iL hI (x6:=(((List.range v).countP fun x=>inn.getD x false:Nat):Int)+1) (x23:=(v:Int)) Pa KX (nb g v).length 0 (by omega);rw [List.take_zero,List.countP_nil] at ld;refine BE.pev ld ?_
    by_cases h2:DN g inn v=2
    ·have ih:=Y8 G hI k (v+1) (by omega) fun u hu mu=>by
      rcases zAc.1 hu with hu | rfl
      ·exact hd u hu mu
      ·exact h2
     rw [ec,hb,zAE rfl] at ih;refine BE.pev (BE.one fun n=>?_) ih
     show M7 n (HE g inn n) g inn _ ((DN g inn v:Nat):Int) (v:Int) (nb g v) ((nb g v).length:Int) ((nb g v).length:Int)=_
     unfold M7;rw [zAC (by omega),zAH,h2]
     show (if AL ((v:Int)+1) then _ else _)=_
     rw [zAE r1,show ((v+1:Nat):Int)=(v:Int)+1 by omega]
    ·refine Ev.p (Ev.one (r:=(false,0)) fun n=>?_) ⟨rfl,zFZ (by decide) fun h=>h2 (h.1 v hv hb)⟩
     show M7 n (HE g inn n) g inn _ ((DN g inn v:Nat):Int) (v:Int) (nb g v) ((nb g v).length:Int) ((nb g v).length:Int)=_
     unfold M7;rw [zAC (by omega),zAH,zEy.2 (by omega:((DN g inn v:Nat):Int)≠2),zAI]
theorem tK (G:IA g) (hI:inn.length=g.length):Ae (fun n=>O0 n g inn) (oN g inn):=by
 have h0:=Wt G (sets:=[inn]) (fun x hx=>by rw [zAu] at hx;rw [hx,hI]) (by simp);refine Ae.bind h0 (b:=fun n y1=>bif (y1 != 0) then some (false,y1) else HE g inn n (.l1 0 0)) ?_;exact Y8 G hI g.length 0 (by omega) fun u hu=>absurd hu (zAo u)
end
end Go.Proofs.YtkjbblkieglmlaaGreatDoor
namespace Go.Proofs.YtkjbblkieglmlaaGreatDoor
open Go.RowKit
theorem zBo {a b:List Int} {n:Nat} (hl:a.length<=LB) (hn:a.length<n):P8 n a b=some (decide (a=b)):=by
 have hb:LB<=9223372036854775806:=by decide
 unfold P8 ml
 by_cases Ao:a.length=b.length
 ·have e:((a.length:Int) != (b.length:Int))=false:=by rw [Ao];simp
  rw [e,zAH]
  have key: ∀ (k i n:Nat),i+k=a.length -> k+1<=n -> P7 a b n (.l1 (i:Int))=some (decide (a.drop i=b.drop i)):=by
   intro k
   induction k with
   | zero=>
    intro i n e hn;obtain ⟨n,rfl⟩: ∃ k,n=k+1:=⟨n-1,by omega⟩
    show Ta n (P7 a b n) a b (i:Int)=_
    unfold Ta;rw [zAC (by omega),zAH,zEY (by omega),zEY (by omega)];rfl
   | succ k ih=>
    intro i n e hn;obtain ⟨n,rfl⟩: ∃ k,n=k+1:=⟨n-1,by omega⟩;have hi:i<a.length:=by omega
    have BV:i<b.length:=by omega
    have d: ∀ {l:List Int},i<l.length -> l.drop i=l.getD i 0::l.drop (i+1):=fun {l} h=>by
     rw [zBx h,u8,zAM h];rfl
    have:=ih (i+1) n (by omega) (by omega)
    show Ta n (P7 a b n) a b (i:Int)=_
    unfold Ta;rw [zAJ (by omega),zAI,zAE ⟨⟨by omega,by omega⟩,by omega,by omega⟩,zAL,zAE (As.2 ⟨by omega,by omega⟩),d hi,d BV]
    by_cases h:a.getD i 0=b.getD i 0
    ·have:(a.getD i 0 != b.getD i 0)=false:=by rw [h];simp
     rw [this,zAH];refine Eq.trans (by assumption) ?_;rw [h];simp
    ·have:(a.getD i 0 != b.getD i 0)=true:=by simpa using h
     rw [this,zAI,zAC fun e=>h (List.cons.inj e).1]
  exact key a.length 0 n (by omega) (by omega)
 ·have e:((a.length:Int) != (b.length:Int))=true:=by simp;omega
  rw [e,zAI,zAC fun h=>Ao (by rw [h])]
end Go.Proofs.YtkjbblkieglmlaaGreatDoor
