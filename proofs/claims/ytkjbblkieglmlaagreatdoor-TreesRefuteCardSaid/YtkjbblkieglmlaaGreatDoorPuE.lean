/- Part 5 of 7 of what the proofs of these laws stand on. -/
import Derived.Test.YtkjbblkieglmlaaGreatDoorPuD
set_option linter.all false
namespace Go.Proofs.YtkjbblkieglmlaaGreatDoor
abbrev zGe:=@List.ext_getElem
abbrev zHF:=@Bool.not_eq_true
abbrev zHS:=@Option.isSome_none
abbrev zHT:=@Option.isSome_some
abbrev zHd:=@Bool.or_true
open Go.RowKit
section
variable {c:AB} {k:Nat} {pos lost:List Int} {q:AA}
theorem CF.unique {i:Nat}{D:Nat -> Nat -> Prop}{l l':List Int}(h:CF c pos lost i D l)(h':CF c pos lost i D l')(hi: ∀ j,CC (l.getD j 0))(BT: ∀ j,CC (l'.getD j 0)):l=l':=by
 have e:l.length=l'.length:=h.1.trans h'.1.symm;refine zGe e fun j h1 h2=>?_
 have e1:l.getD j 0=l[j]:=by simp [h1]
 have e2:l'.getD j 0=l'[j]:=by simp [h2]
 rw [←e1,←e2];refine Na (hi j) (BT j) fun s _=>?_
 rw [zDF,h.2,h'.2]
theorem i8 {l:List Int}{i:Nat}{x:Int}(h: ∀ j,CC (l.getD j 0))(hx:CC x): ∀ j,CC ((l.set i x).getD j 0):=by
 intro j
 by_cases e:i=j
 ·subst e
  by_cases h2:i<l.length
  ·rw [KM h2];exact hx
  ·rw [List.set_eq_of_length_le (by omega)];exact h i
 ·rw [getD_set_ne e];exact h j
theorem yW {n ln:Nat}{cell ss:Int}{l':List Int}(h:Dg n cell ss c q pos ln lost=some l')(hi: ∀ j,CC (lost.getD j 0)): ∀ j,CC (l'.getD j 0):=by
 unfold Dg bL at h;split at h
 ·cases h;exact i8 hi (GC _ _ _)
 ·cases h
theorem xS {n ln:Nat}{cell:Int}{l':List Int}(h:Gj n cell c q pos ln lost=some l')(hi: ∀ j,CC (lost.getD j 0)): ∀ j,CC (l'.getD j 0):=by
 unfold Gj am at h;split at h
 ·cases h;exact i8 hi (GC _ _ _)
 ·cases h
def Ie (c:AB):Prop:=c.runs.length<=256/\ ∀ j,j<c.runs.length -> c.runs.getD j 0<=256
structure Lj (c:AB)(d l:Int):Prop where
 d0:0<=d
 d1:d<=(c.runs.length:Int)
 l0:0<=l
 open' : 0 < l -> d < (c.runs.length : Int) /\ l <= c.runs.getD d.toNat 0
def nx (c:AB)(d l:Int)(inn:Bool):Option (Int×Int):= bif inn then (if d<(c.runs.length:Int)/\ l<c.runs.getD d.toNat 0 then some (d,l+1) else none) else (if l=0 then some (d,0) else if l=c.runs.getD d.toNat 0 then some (d+1,0) else none)
theorem xb {d l:Int}{inn:Bool}{t:Int×Int}(h:Lj c d l)(e:nx c d l inn=some t):Lj c t.1 t.2:=by
 obtain ⟨h1,h2,h3,h4⟩:=h;unfold nx at e;cases inn
 ·rw [zAR] at e;split at e
  ·cases e;exact ⟨h1,h2,zCn _,fun h=>absurd h (Int.lt_irrefl _)⟩
  ·split at e
   ·cases e;have:=h4 (by omega);exact ⟨by show 0<=d+1;omega,by show d+1<=_;omega,zCn _,fun h=>absurd h (Int.lt_irrefl _)⟩
   ·cases e
 ·rw [zAV] at e;split at e
  ·rename_i h5;cases e;exact ⟨h1,h2,by show 0<=l+1;omega,fun _=>⟨h5.1,by show l+1<=c.runs.getD d.toNat 0;omega⟩⟩
  ·cases e
theorem Wq {n ln:Nat}{d l:Int}{inn:Bool}(R:Ie c)(h:Lj c d l): ∃ t,TQ n (d,l) inn c q pos ln lost=some (t,(nx c d l inn).isSome,lost)/\ ∀ u,nx c d l inn=some u -> t=u:=by
 obtain ⟨h1,h2,h3,h4⟩:=h;obtain ⟨hr,hv⟩:=R
 have hl:l<=256:=by
  by_cases h0:0<l
  ·obtain ⟨a1,a2⟩:=h4 h0;have:=hv d.toNat (by omega);omega
  ·omega
 unfold TQ lK nx;cases inn
 ·rw [zAR,zAR]
  by_cases h0:l=0
  ·subst h0;refine ⟨(d,0),by simp,fun u hu=>by simpa using hu⟩
  ·obtain ⟨a1,a2⟩:=h4 (by omega);have e0:(l==0)=false:=by simpa using h0
   simp only [e0,zAR,zAh h0];rw [zAM ⟨Av.2 ⟨by omega,by omega⟩,h1,a1⟩];refine ⟨(d+1,0),?_,fun u hu=>?_⟩
   ·by_cases h5:l=c.runs.getD d.toNat 0
    ·rw [zAM h5,←h5];simp
    ·rw [zAh h5];simpa using h5
   ·split at hu
    ·cases hu;rfl
    ·cases hu
 ·rw [zAV,zAV,zAM (Av.2 ⟨by show _<=l+1;omega,by show l+1<=_;omega⟩)]
  by_cases h5:d<(c.runs.length:Int)
  ·simp only [zAU h5,zAV];rw [zAM ⟨h1,h5⟩];refine ⟨(d,l+1),?_,fun u hu=>?_⟩
   ·by_cases h6:l<c.runs.getD d.toNat 0
    ·rw [zAM ⟨h5,h6⟩,zAU h6];rfl
    ·rw [zAh fun h=>h6 h.2,zAP h6];rfl
   ·split at hu
    ·cases hu;rfl
    ·cases hu
  ·simp only [zAP h5,zAR];refine ⟨(d,l+1),?_,fun u hu=>?_⟩
   ·rw [zAh fun h=>h5 h.1];rfl
   ·rw [zAh fun h=>h5 h.1] at hu;cases hu
def kd (c:AB)(pos:List Int)(i:Nat)(inn:Bool):Bool:=bif inn then (bits .and .i64 (Ab c pos i) c.set != 0) else (bits .andNot .i64 (Ab c pos i) c.set != 0)
theorem W6 {n:Nat}{i:Nat}{inn:Bool}(W:B2 c k pos)(hi:i<c.cells.length):Te n (i:Int) inn c q pos pos.length lost=some (kd c pos i inn,lost):=by
 have hc:=W.cells i hi;unfold Te mE kd;simp only [zAT];cases inn
 ·rw [zAR,zAM ⟨⟨by omega,by omega⟩,hc⟩];rfl
 ·rw [zAV,zAM ⟨⟨by omega,by omega⟩,hc⟩];rfl
def E0 (c:AB)(pos:List Int):Nat -> Int×Int -> Prop
 | 0,t=>t=(0,0)
 | i+1,t=>∃ s inn,E0 c pos i s/\ nx c s.1 s.2 inn=some t/\ kd c pos i inn=true
theorem E0.ok (i:Nat): ∀ {t:Int×Int},E0 c pos i t -> Lj c t.1 t.2:=by
 induction i with
 | zero=>
  intro t h;obtain rfl:t=(0,0):=h;exact ⟨zCn _,by show (0:Int)<=_;omega,zCn _,fun h=>absurd h (Int.lt_irrefl _)⟩
 | succ i ih=>
  rintro t ⟨s,inn,h1,h2,_⟩;exact xb (ih h1) h2
def VE (c:AB)(t:Int×Int):Prop:=t=((c.runs.length:Int),0)∨(0<c.runs.length/\ t=((c.runs.length:Int)-1,c.runs.getD (c.runs.length-1) 0))
def Ig (c:AB)(pos:List Int):Nat -> Int×Int -> Prop
 | 0,t=>VE c t
 | m+1,s=>E0 c pos (c.cells.length-1-m) s/\ ∃ t inn,nx c s.1 s.2 inn=some t/\ kd c pos (c.cells.length-1-m) inn=true/\ Ig c pos m t
def JK (c:AB)(pos:List Int)(i:Nat)(inn:Bool):Prop:=∃ s t,E0 c pos i s/\ nx c s.1 s.2 inn=some t/\ kd c pos i inn=true/\ Ig c pos (c.cells.length-1-i) t
def Iq (c:AB)(pos:List Int)(a s:Nat):Prop:=(¬ JK c pos a true/\ tb c.set s=true)∨(¬ JK c pos a false/\ tb c.set s=false)
def EG (c:AB)(pos:List Int)(i:Nat)(o4:KS)(d l:Int)(inn:Bool):Bool:=match nx c d l inn with
 | some t=>kd c pos i inn&&o4.contains [t.1,t.2]
 | none=>false
theorem zS {n i oi:Nat}{o1:List Int}{o3:List (Option KS)}{o4 o5 o8:KS}{b0 b1:Bool}{d l:Int}{I0:List Int}(W:B2 c k pos)(R:Ie c)(hi:i<c.cells.length)(h:Lj c d l):
 BO c q pos pos.length lost (n+1) (.l7 i 0 o1 o3 oi o4 o5 b0 b1 d l o8 I0)=BO c q pos pos.length lost n (.l7 i 1 o1 o3 oi o4 (bif EG c pos i o4 d l false then Ca [d,l] o5 else o5) (b0||EG c pos i o4 d l false) b1 d l o8 I0):=by
 obtain ⟨t,e1,e2⟩:=Wq (n:=n) (ln:=pos.length) (pos:=pos) (lost:=o1) (q:=q) (inn:=false) R h;have b:([false,true]:List Bool).getD (0+((0:Int)).toNat) false=false:=rfl;have r:AJ ((0:Int)+1):=Av.2 ⟨by decide,by decide⟩
 show Nq n (BO c q pos pos.length lost n) c q pos pos.length lost i 0 o1 o3 oi o4 o5 b0 b1 d l o8 I0=_
 unfold Nq EG;rw [zAU (by decide),zAV,zAM ⟨⟨by decide,by decide⟩,by decide⟩,b,e1,zAS];cases hn:nx c d l false with
 | none=>simp only [zHS,zAR,zAM r,zGE];rfl
 | some u=>
  obtain rfl:=e2 u hn;simp only [zHT,zAV];rw [W6 W hi,zAS];cases hk:kd c pos i false
  ·simp only [zAR,zAM r,zGF,zGE];rfl
  ·simp only [zAV,zCZ];cases hc:o4.contains [t.1,t.2]
   ·simp only [zAR,zAM r,zGE];rfl
   ·have z:((0:Int)==0)=true:=rfl;simp only [zAV,z,zAM r,zHd];rfl
theorem zR {n i oi:Nat}{o1:List Int}{o3:List (Option KS)}{o4 o5 o8:KS}{b0 b1:Bool}{d l:Int}{I0:List Int}(W:B2 c k pos)(R:Ie c)(hi:i<c.cells.length)(h:Lj c d l):
 BO c q pos pos.length lost (n+1) (.l7 i 1 o1 o3 oi o4 o5 b0 b1 d l o8 I0)=BO c q pos pos.length lost n (.l7 i 2 o1 o3 oi o4 (bif EG c pos i o4 d l true then Ca [d,l] o5 else o5) b0 (b1||EG c pos i o4 d l true) d l o8 I0):=by
 obtain ⟨t,e1,e2⟩:=Wq (n:=n) (ln:=pos.length) (pos:=pos) (lost:=o1) (q:=q) (inn:=true) R h;have b:([false,true]:List Bool).getD (0+((1:Int)).toNat) false=true:=rfl;have r:AJ ((1:Int)+1):=Av.2 ⟨by decide,by decide⟩
 show Nq n (BO c q pos pos.length lost n) c q pos pos.length lost i 1 o1 o3 oi o4 o5 b0 b1 d l o8 I0=_
 unfold Nq EG;rw [zAU (by decide),zAV,zAM ⟨⟨by decide,by decide⟩,by decide⟩,b,e1,zAS];cases hn:nx c d l true with
 | none=>simp only [zHS,zAR,zAM r,zGE];rfl
 | some u=>
  obtain rfl:=e2 u hn;simp only [zHT,zAV];rw [W6 W hi,zAS];cases hk:kd c pos i true
  ·simp only [zAR,zAM r,zGF,zGE];rfl
  ·simp only [zAV,zCZ];cases hc:o4.contains [t.1,t.2]
   ·simp only [zAR,zAM r,zGE];rfl
   ·have z:((1:Int)==0)=false:=rfl;have z1:((1:Int)==1)=true:=rfl;simp only [zAV,zAR,z,z1,zAM r,zHd];rfl
theorem zQ {n i oi:Nat}{o1:List Int}{o3:List (Option KS)}{o4 o5 o8:KS}{b0 b1:Bool}{d l:Int}{I0:List Int}:
 BO c q pos pos.length lost (n+1) (.l7 i 2 o1 o3 oi o4 o5 b0 b1 d l o8 I0)=BO c q pos pos.length lost n (.l9 i o1 o3 oi o4 o5 b0 b1 o8 I0):=by
 show Nq n (BO c q pos pos.length lost n) c q pos pos.length lost i 2 o1 o3 oi o4 o5 b0 b1 d l o8 I0=_
 unfold Nq;rw [zAP (by decide),zAR]
def Fa (c:AB)(pos:List Int)(i:Nat)(o3:List (Option KS))(d l:Int)(inn:Bool):List (Option KS):=match nx c d l inn with
 | some t=>bif kd c pos i inn then o3.set (i+1) (some (Ca [t.1,t.2] ((o3.getD (i+1) none).getD []))) else o3
 | none=>o3
theorem zW {n i:Nat}{o1:List Int}{o3:List (Option KS)}{o5:KS}{d l:Int}{Fv:List Int}{Aw:Int}(W:B2 c k pos)(R:Ie c)(hi:i<c.cells.length)(h:Lj c d l)(h3:i+1<o3.length)(hs:(o3.getD (i+1) none).isSome=true):
 BO c q pos pos.length lost (n+1) (.l5 i Aw 0 o1 o3 i d l o5 Fv)=BO c q pos pos.length lost n (.l5 i Aw 1 o1 (Fa c pos i o3 d l false) i d l o5 Fv):=by
 obtain ⟨t,e1,e2⟩:=Wq (n:=n) (ln:=pos.length) (pos:=pos) (lost:=o1) (q:=q) (inn:=false) R h;have b:([false,true]:List Bool).getD (0+((0:Int)).toNat) false=false:=rfl;have r:AJ ((0:Int)+1):=Av.2 ⟨by decide,by decide⟩;have Ak:=W.len;have t1:((((c.cells.length:Nat):Int)+1).toNat:Nat)=c.cells.length+1:=by omega
 have t2:0+(((i:Int)+1).toNat:Nat)=i+1:=by omega
 show Nr n (BO c q pos pos.length lost n) c q pos pos.length lost i Aw 0 o1 o3 i d l o5 Fv=_
 unfold Nr Fa;rw [zAU (by decide),zAV,zAM ⟨⟨by decide,by decide⟩,by decide⟩,b,e1,zAS];cases hn:nx c d l false with
 | none=>simp only [zHS,zAR,zAM r];rfl
 | some u=>
  obtain rfl:=e2 u hn;simp only [zHT,zAV];rw [W6 W hi,zAS];cases hk:kd c pos i false
  ·simp only [zAR,zAM r];rfl
  ·simp only [zAV,t1,t2];rw [zAM ⟨Av.2 ⟨by omega,by omega⟩,⟨by omega,by omega⟩,h3,by omega,hs,r⟩];rfl
theorem zV {n i:Nat}{o1:List Int}{o3:List (Option KS)}{o5:KS}{d l:Int}{Fv:List Int}{Aw:Int}(W:B2 c k pos)(R:Ie c)(hi:i<c.cells.length)(h:Lj c d l)(h3:i+1<o3.length)(hs:(o3.getD (i+1) none).isSome=true):
 BO c q pos pos.length lost (n+1) (.l5 i Aw 1 o1 o3 i d l o5 Fv)=BO c q pos pos.length lost n (.l5 i Aw 2 o1 (Fa c pos i o3 d l true) i d l o5 Fv):=by
 obtain ⟨t,e1,e2⟩:=Wq (n:=n) (ln:=pos.length) (pos:=pos) (lost:=o1) (q:=q) (inn:=true) R h;have b:([false,true]:List Bool).getD (0+((1:Int)).toNat) false=true:=rfl;have r:AJ ((1:Int)+1):=Av.2 ⟨by decide,by decide⟩;have Ak:=W.len;have t1:((((c.cells.length:Nat):Int)+1).toNat:Nat)=c.cells.length+1:=by omega
 have t2:0+(((i:Int)+1).toNat:Nat)=i+1:=by omega
 show Nr n (BO c q pos pos.length lost n) c q pos pos.length lost i Aw 1 o1 o3 i d l o5 Fv=_
 unfold Nr Fa;rw [zAU (by decide),zAV,zAM ⟨⟨by decide,by decide⟩,by decide⟩,b,e1,zAS];cases hn:nx c d l true with
 | none=>simp only [zHS,zAR,zAM r];rfl
 | some u=>
  obtain rfl:=e2 u hn;simp only [zHT,zAV];rw [W6 W hi,zAS];cases hk:kd c pos i true
  ·simp only [zAR,zAM r];rfl
  ·simp only [zAV,t1,t2];rw [zAM ⟨Av.2 ⟨by omega,by omega⟩,⟨by omega,by omega⟩,h3,by omega,hs,r⟩];rfl
theorem zU {n i:Nat}{o1:List Int}{o3:List (Option KS)}{o5:KS}{d l:Int}{Fv:List Int}{Aw:Int}:
 BO c q pos pos.length lost (n+1) (.l5 i Aw 2 o1 o3 i d l o5 Fv)=BO c q pos pos.length lost n (.l8 i Aw o1 o3 i o5 Fv):=by
 show Nr n (BO c q pos pos.length lost n) c q pos pos.length lost i Aw 2 o1 o3 i d l o5 Fv=_
 unfold Nr;rw [zAP (by decide),zAR]
def GK (o3:List (Option KS))(j:Nat):KS:=(o3.getD j none).getD []
theorem WN {i:Nat}{o3:List (Option KS)}{d l:Int}{inn:Bool}:(Fa c pos i o3 d l inn).length=o3.length:=by
 unfold Fa;split
 ·cases kd c pos i inn
  ·rfl
  ·rw [zAV,zBB]
 ·rfl
theorem X0 {α:Type}{l:List α}{i:Nat}{x y:α}(h:i<l.length):(l.set i x).getD i y=x:=by
 rw [u8,zDB h];rfl
theorem dS {α:Type}{l:List α}{i j:Nat}{x y:α}(h:i≠j):(l.set i x).getD j y=l.getD j y:=by
 rw [u8,zC2 h,←u8]
theorem aM {i j:Nat}{o3:List (Option KS)}{d l:Int}{inn:Bool}(h:j≠i+1):(Fa c pos i o3 d l inn).getD j none=o3.getD j none:=by
 unfold Fa;split
 ·cases kd c pos i inn
  ·rfl
  ·rw [zAV,dS (fun e=>h e.symm)]
 ·rfl
theorem aN {i:Nat}{o3:List (Option KS)}{d l:Int}{inn:Bool}(hl:i+1<o3.length){j:Nat}(h:(o3.getD j none).isSome=true):((Fa c pos i o3 d l inn).getD j none).isSome=true:=by
 by_cases e:j=i+1
 ·subst e;unfold Fa;split
  ·cases kd c pos i inn
   ·exact h
   ·rw [zAV,X0 hl];rfl
  ·exact h
 ·rw [aM e];exact h
theorem QL {i:Nat}{o3:List (Option KS)}{d l:Int}{inn:Bool}(hl:i+1<o3.length){x:List Int}:x∈GK (Fa c pos i o3 d l inn) (i+1)↔x∈GK o3 (i+1)∨∃ t,nx c d l inn=some t/\ kd c pos i inn=true/\ x= [t.1,t.2]:=by
 unfold Fa;split
 ·rename_i t ht;cases hk:kd c pos i inn
  ·rw [zAR];exact ⟨.inl,fun h=>h.elim id fun ⟨_,_,h,_⟩=>by cases h⟩
  ·rw [zAV];unfold GK;rw [X0 hl]
   show x∈Ca _ _↔_
   rw [OK];constructor
   ·rintro (h | h)
    ·exact .inr ⟨t,ht,rfl,h⟩
    ·exact .inl h
   ·rintro (h | ⟨u,hu,_,h⟩)
    ·exact .inr h
    ·rw [ht] at hu;cases hu;exact .inl h
 ·rename_i hn;exact ⟨.inl,fun h=>h.elim id fun ⟨_,h,_⟩=>by rw [hn] at h;cases h⟩
structure Rows (c:AB)(pos:List Int)(i:Nat)(o3:List (Option KS)):Prop where
 len:o3.length=c.cells.length+1
 isSome: ∀ j,j<=c.cells.length -> (o3.getD j none).isSome=true
 row: ∀ j,j<=i -> ∀ x,x∈GK o3 j↔∃ t:Int×Int,x= [t.1,t.2]/\ E0 c pos j t
 rest: ∀ j,i<j -> j<=c.cells.length -> GK o3 j= []
structure PT (c:AB)(pos:List Int)(i:Nat)(rem:KS)(o3:List (Option KS)):Prop where
 hi:i<c.cells.length
 len:o3.length=c.cells.length+1
 isSome: ∀ j,j<=c.cells.length -> (o3.getD j none).isSome=true
 row: ∀ j,j<=i -> ∀ x,x∈GK o3 j↔∃ t:Int×Int,x= [t.1,t.2]/\ E0 c pos j t
 rest: ∀ j,i+1<j -> j<=c.cells.length -> GK o3 j= []
 sub: ∀ x∈rem,∃ t:Int×Int,x= [t.1,t.2]/\ E0 c pos i t
 next: ∀ x∈GK o3 (i+1),∃ t:Int×Int,x= [t.1,t.2]/\ E0 c pos (i+1) t
 cov: ∀ t,E0 c pos i t -> [t.1,t.2]∈rem∨∀ inn u,nx c t.1 t.2 inn=some u -> kd c pos i inn=true -> [u.1,u.2]∈GK o3 (i+1)
theorem Rows.mid {i:Nat}{o3:List (Option KS)}(h:Rows c pos i o3)(hi:i<c.cells.length):PT c pos i (GK o3 i) o3 where
 hi:=hi
 len:=h.len
 isSome:=h.isSome
 row:=h.row
 rest:=fun j hj hl=>h.rest j (by omega) hl
 sub:=fun x hx=>(h.row i (zA5 _) x).1 hx
 next:=fun x hx=>by rw [h.rest (i+1) (by omega) (by omega)] at hx;cases hx
 cov:=fun t ht=>.inl ((h.row i (zA5 _) _).2 ⟨t,rfl,ht⟩)
theorem PT.rows {i:Nat}{o3:List (Option KS)}(h:PT c pos i [] o3):Rows c pos (i+1) o3 where
 len:=h.len
 isSome:=h.isSome
 row:=fun j hj x=>by
  rcases zAl.1 (Nat.lt_succ_of_le hj) with hj | rfl
  ·exact h.row j (by omega) x
  ·refine ⟨h.next x,?_⟩;rintro ⟨t,rfl,s,inn,h1,h2,h3⟩;rcases h.cov s h1 with h4 | h4
   ·cases h4
   ·exact h4 inn t h2 h3
 rest:=h.rest
theorem TB {t u:Int×Int}(h:([t.1,t.2]:List Int)= [u.1,u.2]):t=u:=by
 obtain ⟨a,b⟩:=t;obtain ⟨a',b'⟩:=u;simp only [List.cons.injEq,and_true] at h;rw [h.1,h.2]
theorem PT.go {i:Nat}{o3:List (Option KS)}{rem:KS}{t:Int×Int}(h:PT c pos i rem o3)(ht: [t.1,t.2]∈rem):PT c pos i (rem.erase [t.1,t.2]) (Fa c pos i (Fa c pos i o3 t.1 t.2 false) t.1 t.2 true):=by
 have hl:=h.len;have hi:=h.hi;have h1:i+1<o3.length:=by omega
 have h2:i+1<(Fa c pos i o3 t.1 t.2 false).length:=by rw [WN];exact h1
 have Ad: ∀ j,j≠i+1 -> GK (Fa c pos i (Fa c pos i o3 t.1 t.2 false) t.1 t.2 true) j=GK o3 j:=fun j hj=>by
  unfold GK;rw [aM hj,aM hj]
 have hR:E0 c pos i t:=by
  obtain ⟨u,e,hu⟩:=h.sub _ ht;rw [TB e];exact hu
 refine ⟨hi,by rw [WN,WN];exact hl,fun j hj=>aN h2 (aN h1 (h.isSome j hj)),fun j hj x=>?_,fun j hj hjl=>?_,fun x hx=>h.sub x (zHi hx),fun x hx=>?_,fun s hs=>?_⟩
 ·rw [Ad j (by omega)];exact h.row j hj x
 ·rw [Ad j (by omega)];exact h.rest j hj hjl
 ·rw [QL h2,QL h1] at hx;rcases hx with (hx | ⟨u,e1,e2,rfl⟩) | ⟨u,e1,e2,rfl⟩
  ·exact h.next x hx
  ·exact ⟨u,rfl,t,false,hR,e1,e2⟩
  ·exact ⟨u,rfl,t,true,hR,e1,e2⟩
 ·by_cases e:s=t
  ·subst e;refine .inr fun inn u h3 h4=>?_
   rw [QL h2,QL h1];cases inn
   ·exact .inl (.inr ⟨u,h3,h4,rfl⟩)
   ·exact .inr ⟨u,h3,h4,rfl⟩
  ·rcases h.cov s hs with h3 | h3
   ·exact .inl ((List.mem_erase_of_ne (fun e2=>e (TB e2))).2 h3)
   ·refine .inr fun inn u h4 h5=>?_
    rw [QL h2,QL h1];exact .inl (.inl (h3 inn u h4 h5))
def H4 (c:AB)(pos lost:List Int)(r:Bool×List Int):Prop:=r.1=true/\ CF c pos lost c.cells.length (Iq c pos) r.2/\ ∀ j,CC (r.2.getD j 0)
theorem H4.uniq (r r':Bool×List Int)(h:H4 c pos lost r)(h':H4 c pos lost r'):r=r':=by
 obtain ⟨b,l⟩:=r;obtain ⟨b',l'⟩:=r';obtain ⟨h1,h2,h3⟩:=h;obtain ⟨h4,h5,h6⟩:=h';have e1:b=true:=h1;have e2:b'=true:=h4;have e3:l=l':=CF.unique h2 h5 h3 h6;rw [e1,e2,e3]
theorem yI {i:Nat}{o1:List Int}{Aw:Int}(W:B2 c k pos)(R:Ie c)(hx:Aw=(i:Int))(H: ∀ o3,Rows c pos (i+1) o3 -> Af (fun n=>BO c q pos pos.length lost n (.l2 (Aw+1) o1 o3)) (H4 c pos lost)):
 ∀ (m:Nat) (rem:KS) (o3:List (Option KS)) (Fv:List Int),rem.length=m -> PT c pos i rem o3 -> Af (fun n=>BO c q pos pos.length lost n (.l8 i Aw o1 o3 i rem Fv)) (H4 c pos lost):=by
 intro m
 induction m with
 | zero=>
  intro rem o3 Fv hm hM;have:rem= []:=zDI hm;subst this;have hs:=hM.isSome i (by have:=hM.hi;omega);have r1:AJ (Aw+1):=by rw [hx];exact (W.r64 hM.hi).2
  refine Af.step 1 (fun n=>?_) (H o3 hM.rows)
  show SX n (BO c q pos pos.length lost n) c q pos pos.length lost i Aw o1 o3 i [] Fv=_
  unfold SX;rw [zAM hs,k7,zAM r1]
 | succ m ih=>
  intro rem o3 Fv hm hM;have hs:=hM.isSome i (by have:=hM.hi;omega);have Ad:rem≠[]:=by intro e;rw [e] at hm;cases hm
  refine Af.step 1 (g:=fun n=>IG rem (if AJ (Aw+1) then BO c q pos pos.length lost n (.l2 (Aw+1) o1 o3) else none) (fun y1=>BO c q pos pos.length lost n (.l5 i Aw 0 o1 o3 i (y1.getD 0 0) (y1.getD 1 0) (rem.erase y1) y1))) (fun n=>?_) (Af.next Ad (fun y hy=>?_) H4.uniq)
  ·show SX n (BO c q pos pos.length lost n) c q pos pos.length lost i Aw o1 o3 i rem Fv=_
   unfold SX;rw [zAM hs];simp only [zAM hs]
  ·obtain ⟨t,rfl,ht⟩:=hM.sub y hy;have hS:=ht.ok;have hl:=hM.len;have hi:=hM.hi;have h1:i+1<o3.length:=by omega
   have s1:=hM.isSome (i+1) (by omega);have h2:i+1<(Fa c pos i o3 t.1 t.2 false).length:=by rw [WN];exact h1
   have s2:=aN (c:=c) (pos:=pos) (d:=t.1) (l:=t.2) (inn:=false) h1 s1;refine Af.step 3 (fun n=>?_) (ih _ _ [t.1,t.2] (by rw [zHN hy];omega) (hM.go hy))
   show BO c q pos pos.length lost (n+2+1) (.l5 i Aw 0 o1 o3 i t.1 t.2 (rem.erase [t.1,t.2]) [t.1,t.2])=_
   rw [zW W R hM.hi hS h1 s1,zV W R hM.hi hS h2 s2,zU]
def Ra (c:AB)(pos:List Int)(m:Nat)(o4:KS):Prop:=∀ x,x∈o4↔∃ t:Int×Int,x= [t.1,t.2]/\ Ig c pos m t
def NN (c:AB)(pos lost:List Int)(m:Nat)(o1:List Int):Prop:=CF c pos lost c.cells.length (fun a s=>c.cells.length<=a+m/\ Iq c pos a s) o1/\ ∀ j,CC (o1.getD j 0)
structure Bk (c:AB)(pos:List Int)(i m:Nat)(o5:KS)(b0 b1:Bool)(rem:KS):Prop where
 hi:i+m+1=c.cells.length
 sub: ∀ x∈rem,∃ t:Int×Int,x= [t.1,t.2]/\ E0 c pos i t
 o5s: ∀ x∈o5,∃ t:Int×Int,x= [t.1,t.2]/\ Ig c pos (m+1) t
 b0s:b0=true -> JK c pos i false
 b1s:b1=true -> JK c pos i true
 cov: ∀ t,E0 c pos i t -> [t.1,t.2]∈rem∨∀ inn u,nx c t.1 t.2 inn=some u -> kd c pos i inn=true -> Ig c pos m u -> [t.1,t.2]∈o5/\ (bif inn then b1 else b0)=true
theorem ao {i m:Nat}{o4:KS}{d l:Int}{inn:Bool}(h:Ra c pos m o4):EG c pos i o4 d l inn=true↔∃ u,nx c d l inn=some u/\ kd c pos i inn=true/\ Ig c pos m u:=by
 unfold EG;split
 ·rename_i t ht;rw [zAW,zGy,h];constructor
  ·rintro ⟨h1,u,h2,h3⟩;exact ⟨t,ht,h1,by rw [TB h2];exact h3⟩
  ·rintro ⟨u,h1,h2,h3⟩;rw [ht] at h1;cases h1;exact ⟨h2,t,rfl,h3⟩
 ·rename_i hn;exact ⟨fun h=>(by cases h),fun ⟨u,h,_⟩=>by rw [hn] at h;cases h⟩
theorem Bk.go {i m:Nat}{o4 o5 rem:KS}{b0 b1:Bool}{t:Int×Int}(hE:Ra c pos m o4)(h:Bk c pos i m o5 b0 b1 rem)(ht: [t.1,t.2]∈rem):
 Bk c pos i m (bif EG c pos i o4 t.1 t.2 true then Ca [t.1,t.2] (bif EG c pos i o4 t.1 t.2 false then Ca [t.1,t.2] o5 else o5) else (bif EG c pos i o4 t.1 t.2 false then Ca [t.1,t.2] o5 else o5)) (b0||EG c pos i o4 t.1 t.2 false) (b1||EG c pos i o4 t.1 t.2 true) (rem.erase [t.1,t.2]):=by
 have hR:E0 c pos i t:=by
  obtain ⟨u,e,hu⟩:=h.sub _ ht;rw [TB e];exact hu
 have ei:c.cells.length-1-i=m:=by have:=h.hi;omega
 have em:c.cells.length-1-m=i:=by have:=h.hi;omega
 have nj: ∀ inn,EG c pos i o4 t.1 t.2 inn=true -> JK c pos i inn:=fun inn ho=>by
  obtain ⟨u,h1,h2,h3⟩:=(ao hE).1 ho;exact ⟨t,u,hR,h1,h2,by rw [ei];exact h3⟩
 have nF: ∀ inn,EG c pos i o4 t.1 t.2 inn=true -> Ig c pos (m+1) t:=fun inn ho=>by
  obtain ⟨u,h1,h2,h3⟩:=(ao hE).1 ho
  show E0 c pos (c.cells.length-1-m) t/\ ∃ u inn,nx c t.1 t.2 inn=some u/\ kd c pos (c.cells.length-1-m) inn=true/\ Ig c pos m u
  rw [em];exact ⟨hR,u,inn,h1,h2,h3⟩
 have mem: ∀ x,x∈(bif EG c pos i o4 t.1 t.2 true then Ca [t.1,t.2] (bif EG c pos i o4 t.1 t.2 false then Ca [t.1,t.2] o5 else o5) else (bif EG c pos i o4 t.1 t.2 false then Ca [t.1,t.2] o5 else o5))↔x∈o5∨(x= [t.1,t.2]/\ (EG c pos i o4 t.1 t.2 true=true∨EG c pos i o4 t.1 t.2 false=true)):=fun x=>by
  cases EG c pos i o4 t.1 t.2 true <;> cases EG c pos i o4 t.1 t.2 false <;> simp only [zAV,zAR,OK,zCe,or_false,and_false,or_true,true_or,and_true]
  ·exact Or.comm
  ·exact Or.comm
  ·exact ⟨fun h=>h.elim .inr fun h=>h.elim .inr .inl,fun h=>h.elim (fun h=>.inr (.inr h)) .inl⟩
 refine ⟨h.hi,fun x hx=>h.sub x (zHi hx),fun x hx=>?_,fun hb=>?_,fun hb=>?_,fun s hs=>?_⟩
 ·rcases (mem x).1 hx with hx | ⟨rfl,h1 | h1⟩
  ·exact h.o5s x hx
  ·exact ⟨t,rfl,nF _ h1⟩
  ·exact ⟨t,rfl,nF _ h1⟩
 ·rcases Bool.or_eq_true_iff.1 hb with hb | hb
  ·exact h.b0s hb
  ·exact nj _ hb
 ·rcases Bool.or_eq_true_iff.1 hb with hb | hb
  ·exact h.b1s hb
  ·exact nj _ hb
 ·by_cases e:s=t
  ·subst e;refine .inr fun inn u h1 h2 h3=>?_
   have ho:EG c pos i o4 s.1 s.2 inn=true:=(ao hE).2 ⟨u,h1,h2,h3⟩;rw [mem];cases inn
   ·exact ⟨.inr ⟨rfl,.inr ho⟩,by rw [zAR,ho,zHd]⟩
   ·exact ⟨.inr ⟨rfl,.inl ho⟩,by rw [zAV,ho,zHd]⟩
  ·rcases h.cov s hs with h3 | h3
   ·exact .inl ((List.mem_erase_of_ne (fun e2=>e (TB e2))).2 h3)
   ·refine .inr fun inn u h4 h5 h6=>?_
    obtain ⟨h7,h8⟩:=h3 inn u h4 h5 h6;rw [mem];refine ⟨.inl h7,?_⟩;cases inn
    ·rw [zAR] at h8 ⊢;rw [h8];rfl
    ·rw [zAV] at h8 ⊢;rw [h8];rfl
theorem Bk.end' {i m:Nat}{o5:KS}{b0 b1:Bool}(h:Bk c pos i m o5 b0 b1 []):Ra c pos (m+1) o5/\ (b0=true↔JK c pos i false)/\ (b1=true↔JK c pos i true):=by
 have ei:c.cells.length-1-i=m:=by have:=h.hi;omega
 have em:c.cells.length-1-m=i:=by have:=h.hi;omega
 refine ⟨fun x=>⟨h.o5s x,?_⟩,⟨h.b0s,?_⟩,⟨h.b1s,?_⟩⟩
 ·rintro ⟨t,rfl,h1⟩;have h1:E0 c pos (c.cells.length-1-m) t/\ ∃ u inn,nx c t.1 t.2 inn=some u/\ kd c pos (c.cells.length-1-m) inn=true/\ Ig c pos m u:=h1;rw [em] at h1;obtain ⟨h1,u,inn,h2,h3,h4⟩:=h1;rcases h.cov t h1 with h5 | h5
  ·cases h5
  ·exact (h5 inn u h2 h3 h4).1
 ·rintro ⟨s,t,h1,h2,h3,h4⟩;rw [ei] at h4;rcases h.cov s h1 with h5 | h5
  ·cases h5
  ·exact (h5 false t h2 h3 h4).2
 ·rintro ⟨s,t,h1,h2,h3,h4⟩;rw [ei] at h4;rcases h.cov s h1 with h5 | h5
  ·cases h5
  ·exact (h5 true t h2 h3 h4).2
theorem lZ {cell ss:Int}(h0:0<=cell)(h1:cell<(pos.length:Int))(hl:lost.length=pos.length)(hi: ∀ j,CC (lost.getD j 0)):
 ∃ l',(∀ n,Dg n cell ss c q pos pos.length lost=some l')/\ l'.length=pos.length/\ (∀ j,CC (l'.getD j 0))/\ ∀ j s,tb (l'.getD j 0) s=(tb (lost.getD j 0) s||(decide (j=cell.toNat)&&(tb (pos.getD j 0) s&&tb ss s))):=by
 obtain ⟨l',e,h2,h3⟩:=K6 (n:=0) (ss:=ss) (c:=c) (q:=q) h0 h1 hl;exact ⟨l',fun _=>e,h2,yW e hi,h3⟩
theorem al {cell:Int}(h0:0<=cell)(h1:cell<(pos.length:Int))(hl:lost.length=pos.length)(hi: ∀ j,CC (lost.getD j 0)):
 ∃ l',(∀ n,Gj n cell c q pos pos.length lost=some l')/\ l'.length=pos.length/\ (∀ j,CC (l'.getD j 0))/\ ∀ j s,tb (l'.getD j 0) s=(tb (lost.getD j 0) s||(decide (j=cell.toNat)&&(tb (pos.getD j 0) s&&!tb c.set s))):=by
 obtain ⟨l',e,h2,h3⟩:=ak (n:=0) (c:=c) (q:=q) h0 h1 hl;exact ⟨l',fun _=>e,h2,xS e hi,h3⟩
theorem NN.go {i m:Nat}{o1 l':List Int}(h:NN c pos lost m o1)(hi:i+m+1=c.cells.length)(hl:l'.length=pos.length)(Ce: ∀ j,CC (l'.getD j 0)) 
 (h1: ∀ j s,tb (l'.getD j 0) s=true↔tb (o1.getD j 0) s=true∨((c.cells.getD i 0).toNat=j/\ tb (Ab c pos i) s=true/\ Iq c pos i s)):NN c pos lost (m+1) l':=by
 refine ⟨⟨hl,fun j s=>?_⟩,Ce⟩;rw [h1,h.1.2];constructor
 ·rintro ((h | ⟨a,ha,h2,h3,h4,h5⟩) | h)
  ·exact .inl h
  ·exact .inr ⟨a,ha,h2,h3,by omega,h5⟩
  ·exact .inr ⟨i,by omega,h.1,h.2.1,by omega,h.2.2⟩
 ·rintro (h2 | ⟨a,ha,h2,h3,h4,h5⟩)
  ·exact .inl (.inl h2)
  ·by_cases e:c.cells.length<=a+m
   ·exact .inl (.inr ⟨a,ha,h2,h3,e,h5⟩)
   ·have:a=i:=by omega
    subst this;exact .inr ⟨h2,h3,h5⟩
theorem zFT {i m:Nat}{o1:List Int}{o3:List (Option KS)}{o4:KS}{Aa:Int}(W:B2 c k pos)(R:Ie c)(hx:Aa=(i:Int))(hR:Rows c pos c.cells.length o3)(hE:Ra c pos m o4)(hL:NN c pos lost m o1) 
 (H: ∀ o1 o5,NN c pos lost (m+1) o1 -> Ra c pos (m+1) o5 -> Af (fun n=>BO c q pos pos.length lost n (.l4 (Aa-1) o1 o3 o5)) (H4 c pos lost)):
 ∀ (z:Nat) (rem o5:KS) (b0 b1:Bool) (QB:List Int),rem.length=z -> Bk c pos i m o5 b0 b1 rem -> Af (fun n=>BO c q pos pos.length lost n (.l9 i o1 o3 i o4 o5 b0 b1 rem QB)) (H4 c pos lost):=by
 intro z
 induction z with
 | zero=>
  intro rem o5 b0 b1 QB hm hB;have:rem= []:=zDI hm;subst this;obtain ⟨e5,e0,e1⟩:=hB.end';have hi:i<c.cells.length:=by have:=hB.hi;omega
  have hs:=hR.isSome i (by omega);have Ak:=W.len;have r1:AJ ((i:Int)-1):=Av.2 ⟨by omega,by omega⟩;have hc:=W.cells i hi;have g0:(0:Int)<=(i:Int)/\ (i:Int)<((c.cells.length:Nat):Int):=⟨by omega,by omega⟩;obtain ⟨l1,f1,n1,i1,t1⟩:=lZ (ss:=c.set) (c:=c) (q:=q) hc.1 hc.2 hL.1.1 hL.2;obtain ⟨l2,f2,n2,i2,t2⟩:=al (c:=c) (q:=q) hc.1 hc.2 n1 i1;obtain ⟨l3,f3,n3,i3,t3⟩:=al (c:=c) (q:=q) hc.1 hc.2 hL.1.1 hL.2
  have eq: ∀ n,BO c q pos pos.length lost (n+1) (.l9 i o1 o3 i o4 o5 b0 b1 [] QB)=BO c q pos pos.length lost n (.l4 (i-1) (bif !b1 then (bif !b0 then l2 else l1) else (bif !b0 then l3 else o1)) o3 o5):=fun n=>by
   show SW n (BO c q pos pos.length lost n) c q pos pos.length lost i o1 o3 i o4 o5 b0 b1 [] QB=_
   unfold SW;rw [zAM hs,k7];simp only [zAT];cases b1 <;> cases b0 <;> simp only [zC0,zCs,zAV,zAR,zAM g0,f1,f2,f3,zAS,zAM r1]
  refine Af.step 1 eq ?_
  have key: ∀ l':List Int,l'.length=pos.length -> (∀ j,CC (l'.getD j 0)) -> (∀ j s,tb (l'.getD j 0) s=(tb (o1.getD j 0) s||(decide (j=(c.cells.getD i 0).toNat)&&(tb (pos.getD j 0) s&&((!b1&&tb c.set s)||(!b0&&!tb c.set s)))))) -> NN c pos lost (m+1) l':=by
   intro l' h1 h2 h3;refine hL.go hB.hi h1 h2 fun j s=>?_
   rw [h3,zA9,zAW,zAW,zAi,zA9,zAW,zAW,zCw,zCw,zCw];unfold Iq;rw [←e0,←e1,zHF,zHF];constructor
   ·rintro (h | ⟨rfl,h⟩)
    ·exact .inl h
    ·exact .inr ⟨rfl,h⟩
   ·rintro (h | ⟨rfl,h⟩)
    ·exact .inl h
    ·exact .inr ⟨rfl,h⟩
  subst hx;cases b1 <;> cases b0 <;> simp only [zC0,zCs,zAV,zAR]
  ·exact H l2 o5 (key l2 n2 i2 fun j s=>by
    rw [t2,t1];cases tb (o1.getD j 0) s <;> cases decide (j=(c.cells.getD i 0).toNat) <;> cases tb (pos.getD j 0) s <;> cases tb c.set s <;> rfl) e5
  ·exact H l1 o5 (key l1 n1 i1 fun j s=>by
    rw [t1];cases tb (o1.getD j 0) s <;> cases decide (j=(c.cells.getD i 0).toNat) <;> cases tb (pos.getD j 0) s <;> cases tb c.set s <;> rfl) e5
  ·exact H l3 o5 (key l3 n3 i3 fun j s=>by
    rw [t3];cases tb (o1.getD j 0) s <;> cases decide (j=(c.cells.getD i 0).toNat) <;> cases tb (pos.getD j 0) s <;> cases tb c.set s <;> rfl) e5
  ·exact H o1 o5 (key o1 hL.1.1 hL.2 fun j s=>by
    cases tb (o1.getD j 0) s <;> cases decide (j=(c.cells.getD i 0).toNat) <;> cases tb (pos.getD j 0) s <;> cases tb c.set s <;> rfl) e5
 | succ z ih=>
  intro rem o5 b0 b1 QB hm hB;have hi:i<c.cells.length:=by have:=hB.hi;omega
  have hs:=hR.isSome i (by omega);have Ad:rem≠[]:=by intro e;rw [e] at hm;cases hm
  refine Af.step 1 (g:=fun n=>IG rem none (fun y1=>BO c q pos pos.length lost n (.l7 i 0 o1 o3 i o4 o5 b0 b1 (y1.getD 0 0) (y1.getD 1 0) (rem.erase y1) y1))) (fun n=>?_) (Af.next Ad (fun y hy=>?_) H4.uniq)
  ·show SW n (BO c q pos pos.length lost n) c q pos pos.length lost i o1 o3 i o4 o5 b0 b1 rem QB=_
   unfold SW;rw [zAM hs];simp only [zAM hs];cases rem with
   | nil=>exact absurd rfl Ad
   | cons x r=>rfl
  ·obtain ⟨t,rfl,ht⟩:=hB.sub y hy;have hS:=ht.ok;refine Af.step 3 (fun n=>?_) (ih _ _ _ _ [t.1,t.2] (by rw [zHN hy];omega) (hB.go hE hy))
   show BO c q pos pos.length lost (n+2+1) (.l7 i 0 o1 o3 i o4 o5 b0 b1 t.1 t.2 (rem.erase [t.1,t.2]) [t.1,t.2])=_
   rw [zS W R hi hS,zR W R hi hS,zQ]
theorem zT {n ln oi:Nat}{Aa:Int}{o1:List Int}{o3:List (Option KS)}{o4 o7:KS}:BO c q pos ln lost n (.l6 Aa o1 o3 oi o4 o7)=BO c q pos ln lost n (.l9 Aa o1 o3 oi o4 [] false false o7 []):=by cases n <;> rfl
theorem zX {n ln oi:Nat}{x8 Aw:Int}{o1:List Int}{o3:List (Option KS)}{o4:KS}:BO c q pos ln lost n (.l3 x8 Aw o1 o3 oi o4)=BO c q pos ln lost n (.l8 x8 Aw o1 o3 oi o4 []):=by cases n <;> rfl
theorem qD (W:B2 c k pos)(R:Ie c){o3:List (Option KS)}(hR:Rows c pos c.cells.length o3):
 ∀ (i m:Nat) (Aa:Int) (o1:List Int) (o4:KS),i+m=c.cells.length -> Aa=(i:Int)-1 -> NN c pos lost m o1 -> Ra c pos m o4 -> Af (fun n=>BO c q pos pos.length lost n (.l4 Aa o1 o3 o4)) (H4 c pos lost):=by
 intro i
 induction i with
 | zero=>
  intro m Aa o1 o4 hm hx hL hE;refine Ev.p (r:=(true,o1)) ⟨1,fun n hn=>?_⟩ ⟨rfl,⟨hL.1.1,fun j s=>?_⟩,hL.2⟩
  ·obtain ⟨n,rfl⟩: ∃ n',n=n'+1:=⟨n-1,by omega⟩
   show SY n (BO c q pos pos.length lost n) c q pos pos.length lost Aa o1 o3 o4=_
   unfold SY;rw [zAP (by omega),zAR]
  ·rw [hL.1.2];constructor
   ·rintro (h | ⟨a,h1,h2,h3,_,h4⟩)
    ·exact .inl h
    ·exact .inr ⟨a,h1,h2,h3,h4⟩
   ·rintro (h | ⟨a,h1,h2,h3,h4⟩)
    ·exact .inl h
    ·exact .inr ⟨a,h1,h2,h3,by omega,h4⟩
 | succ i ih=>
  intro m Aa o1 o4 hm hx hL hE;have hx:Aa=(i:Int):=by omega
  subst hx;have hs:=hR.isSome i (by omega);have Ak:=hR.len;have t1:((((c.cells.length:Nat):Int)+1).toNat:Nat)=c.cells.length+1:=by omega
  have t2:0+((i:Int).toNat:Nat)=i:=by omega
  refine Af.step 1 (g:=fun n=>BO c q pos pos.length lost n (.l9 i o1 o3 i o4 [] false false (GK o3 i) [])) (fun n=>?_) (zFT W R rfl hR hE hL (fun o1 o5 h1 h2=>ih (m+1) ((i:Int)-1) o1 o5 (by omega) rfl h1 h2) _ (GK o3 i) [] false false [] rfl ⟨by omega,fun x hx=>(hR.row i (by omega) x).1 hx,fun x hx=>(by cases hx),fun h=>(by cases h),fun h=>(by cases h),fun t ht=>.inl ((hR.row i (by omega) _).2 ⟨t,rfl,ht⟩)⟩)
  show SY n (BO c q pos pos.length lost n) c q pos pos.length lost (i:Int) o1 o3 o4=_
  unfold SY;simp only [t1,t2];rw [zAU (by omega),zAV,zAM hs,zAM ⟨⟨by omega,by omega⟩,by omega,hs⟩];exact zT
theorem zDV (W:B2 c k pos)(R:Ie c)(hl:lost.length=pos.length)(Ce: ∀ j,CC (lost.getD j 0)):
 ∀ (m i:Nat) (Aw:Int) (o3:List (Option KS)),i+m=c.cells.length -> Aw=(i:Int) -> Rows c pos i o3 -> Af (fun n=>BO c q pos pos.length lost n (.l2 Aw lost o3)) (H4 c pos lost):=by
 intro m
 induction m with
 | zero=>
  intro i Aw o3 hm hx hR;have hm:i=c.cells.length:=by omega
  subst hm hx;have Ak:=W.len;have hr:=R.1;have r1:AJ ((c.cells.length:Int)-1):=Av.2 ⟨by omega,by omega⟩;have r2:AJ ((c.runs.length:Int)-1):=Av.2 ⟨by omega,by omega⟩;have hL:NN c pos lost 0 lost:=⟨⟨hl,fun j s=>⟨.inl,fun h=>h.elim id fun ⟨a,h1,_,_,h2,_⟩=>absurd h2 (by omega)⟩⟩,Ce⟩
  by_cases h0:0<c.runs.length
  ·have t1:(((c.runs.length:Nat):Int)-1).toNat=c.runs.length-1:=by omega
   refine Af.step 1 (g:=fun n=>BO c q pos pos.length lost n (.l4 ((c.cells.length:Int)-1) lost o3 (Ca [((c.runs.length:Int)-1),c.runs.getD (c.runs.length-1) 0] (Ca [(c.runs.length:Int),0] ([]:KS))))) (fun n=>?_) (qD W R hR c.cells.length 0 _ _ _ (by omega) rfl hL fun x=>?_)
   ·show Ns n (BO c q pos pos.length lost n) c q pos pos.length lost (c.cells.length:Int) lost o3=_
    unfold Ns;rw [zAP (by omega),zAR,zAU (by omega),zAV,zAM ⟨r2,⟨by omega,by omega⟩,r1⟩,t1]
   ·rw [OK,OK];constructor
    ·rintro (rfl | rfl | h)
     ·exact ⟨((c.runs.length:Int)-1,c.runs.getD (c.runs.length-1) 0),rfl,.inr ⟨h0,rfl⟩⟩
     ·exact ⟨((c.runs.length:Int),0),rfl,.inl rfl⟩
     ·cases h
    ·rintro ⟨t,rfl,rfl | ⟨_,rfl⟩⟩
     ·exact .inr (.inl rfl)
     ·exact .inl rfl
  ·have h0':c.runs.length=0:=by omega
   refine Af.step 1 (g:=fun n=>BO c q pos pos.length lost n (.l4 ((c.cells.length:Int)-1) lost o3 (Ca [(c.runs.length:Int),0] ([]:KS)))) (fun n=>?_) (qD W R hR c.cells.length 0 _ _ _ (by omega) rfl hL fun x=>?_)
   ·show Ns n (BO c q pos pos.length lost n) c q pos pos.length lost (c.cells.length:Int) lost o3=_
    unfold Ns;rw [zAP (by omega),zAR,zAP (by omega),zAR,zAM r1]
   ·rw [OK];constructor
    ·rintro (rfl | h)
     ·exact ⟨((c.runs.length:Int),0),rfl,.inl rfl⟩
     ·cases h
    ·rintro ⟨t,rfl,rfl | ⟨h,rfl⟩⟩
     ·exact .inl rfl
     ·exact absurd h h0
 | succ m ih=>
  intro i Aw o3 hm hx hR;subst hx;have hi:i<c.cells.length:=by omega
  have hs:=hR.isSome i (by omega);have Ak:=hR.len;have t1:((((c.cells.length:Nat):Int)+1).toNat:Nat)=c.cells.length+1:=by omega
  have t2:0+((i:Int).toNat:Nat)=i:=by omega
  refine Af.step 1 (g:=fun n=>BO c q pos pos.length lost n (.l8 i i lost o3 i (GK o3 i) [])) (fun n=>?_) (yI W R rfl (fun o3 h=>ih (i+1) _ o3 (by omega) (by omega) h) _ _ _ _ rfl (hR.mid hi))
  show Ns n (BO c q pos pos.length lost n) c q pos pos.length lost (i:Int) lost o3=_
  unfold Ns;simp only [t1,t2];rw [zAU (by omega),zAV,zAM hs,zAM ⟨⟨by omega,by omega⟩,by omega,hs⟩];exact zX
theorem zDo (W:B2 c k pos)(R:Ie c)(hl:lost.length=pos.length)(Ce: ∀ j,CC (lost.getD j 0)):
 ∀ (m j:Nat) (FP:Int) (o3:List (Option KS)),j+m=c.cells.length+1 -> FP=(j:Int) -> o3.length=c.cells.length+1 -> (∀ i,i<j -> o3.getD i none=some []) -> Af (fun n=>BO c q pos pos.length lost n (.l1 FP o3)) (H4 c pos lost):=by
 intro m
 induction m with
 | zero=>
  intro j FP o3 hm hx Ak ho;subst hx;have t1:((((c.cells.length:Nat):Int)+1).toNat:Nat)=c.cells.length+1:=by omega
  have hs:(o3.getD 0 none).isSome=true:=by rw [ho 0 (by omega)];rfl
  have e0:(o3.getD 0 none).getD []= []:=by rw [ho 0 (by omega)];rfl
  have hg: ∀ i,i≠0 -> (o3.set 0 (some (Ca [0,0] ([]:KS)))).getD i none=o3.getD i none:=fun i hi=>dS (fun e=>hi e.symm)
  have Xl:(o3.set 0 (some (Ca [0,0] ([]:KS)))).getD 0 none=some (Ca [0,0] []):=X0 (by omega);refine Af.step 1 (g:=fun n=>BO c q pos pos.length lost n (.l2 0 lost (o3.set 0 (some (Ca [0,0] ([]:KS)))))) (fun n=>?_) (zDV W R hl Ce c.cells.length 0 0 _ (by omega) rfl ⟨by rw [zBB];exact Ak,fun i hi=>?_,fun i hi x=>?_,fun i hi Ew=>?_⟩)
  ·show SZ n (BO c q pos pos.length lost n) c q pos pos.length lost (j:Int) o3=_
   unfold SZ;simp only [t1,zA8];rw [zAP (by omega),zAR,zAM ⟨⟨by omega,by omega⟩,by omega,hs⟩,e0]
  ·by_cases e:i=0
   ·subst e;rw [Xl];rfl
   ·rw [hg i e,ho i (by omega)];rfl
  ·obtain rfl:i=0:=by omega
   show x∈((o3.set 0 (some (Ca [0,0] ([]:KS)))).getD 0 none).getD []↔_
   rw [Xl]
   show x∈Ca [0,0] []↔_
   rw [OK];constructor
   ·rintro (rfl | h)
    ·exact ⟨(0,0),rfl,rfl⟩
    ·cases h
   ·rintro ⟨t,rfl,h⟩;have h:t=(0,0):=h;subst h;exact .inl rfl
  ·show ((o3.set 0 (some (Ca [0,0] ([]:KS)))).getD i none).getD []= []
   rw [hg i (by omega),ho i (by omega)];rfl
 | succ m ih=>
  intro j FP o3 hm hx Ak ho;subst hx;have zCM:=W.len;have t1:((((c.cells.length:Nat):Int)+1).toNat:Nat)=c.cells.length+1:=by omega
  have t2:0+((j:Int).toNat:Nat)=j:=by omega
  refine Af.step 1 (g:=fun n=>BO c q pos pos.length lost n (.l1 ((j:Int)+1) (o3.set j (some ([]:KS))))) (fun n=>?_) (ih (j+1) _ _ (by omega) (by omega) (by rw [zBB];exact Ak) fun i hi=>?_)
  ·show SZ n (BO c q pos pos.length lost n) c q pos pos.length lost (j:Int) o3=_
   unfold SZ;simp only [t1,t2];rw [zAU (by omega),zAV,zAM ⟨⟨by omega,by omega⟩,by omega,Av.2 ⟨by omega,by omega⟩⟩]
  ·by_cases e:i=j
   ·subst e;exact X0 (by omega)
   ·rw [dS (fun h=>e h.symm)];exact ho i (by omega)
def Jd (c:AB):Bool:=(c.cells.length != 0)||(c.runs.length==0)
theorem u6 (W:B2 c k pos)(R:Ie c)(hl:lost.length=pos.length)(Ce: ∀ j,CC (lost.getD j 0)):
 ∃ l,Ev (fun n=>Pq n c q pos pos.length lost) (Jd c,l)/\ (Jd c=true -> CF c pos lost c.cells.length (Iq c pos) l):=by
 by_cases h0:c.cells.length=0
 ·have e1:Jd c=((c.runs.length:Int)==0):=by
   unfold Jd;rw [h0];cases h:c.runs.length with
   | zero=>rfl
   | succ m=>rfl
  refine ⟨lost,Ev.now fun n=>?_,fun _=>by rw [h0];exact CF.zero hl⟩;unfold Pq Zz;rw [h0,e1];rfl
 ·have e1:Jd c=true:=by
   unfold Jd;cases h:c.cells.length with
   | zero=>exact absurd h h0
   | succ m=>rfl
  have Ak:=W.len;have t1:((((c.cells.length:Nat):Int)+1).toNat:Nat)=c.cells.length+1:=by omega
  obtain ⟨r,h1,h2⟩:=(zDo (q:=q) W R hl Ce (c.cells.length+1) 0 0 (List.replicate (c.cells.length+1) none) (by omega) rfl (by simp) (fun i hi=>absurd hi (zAv i))).ev H4.uniq;obtain ⟨b,l⟩:=r;obtain ⟨h3,h4,h5⟩:=h1;have h3:b=true:=h3;subst h3;refine ⟨l,?_,fun _=>h4⟩;rw [e1];refine h2.eq fun n=>?_
  unfold Pq Zz;rw [t1]
  have e2:(((c.cells.length:Nat):Int)==0)=false:=by
   rw [zCK];omega
  rw [e2,zAR,zAM ⟨Av.2 ⟨by omega,by omega⟩,rfl,by omega,by omega⟩]
end
abbrev zGO:=@List.take_succ_eq_append_getElem
section
variable {c:AB} {k:Nat} {pos lost:List Int} {q:AA}
structure Ej (c:AB)(q:AA)(pos:List Int):Prop where
 len:c.cells.length=pos.length
 id: ∀ j,j<pos.length -> c.cells.getD j 0=(j:Int)
 g:Ih q.nbrs
 gl:q.nbrs.length=pos.length
 l0:0<pos.length
 l1:pos.length<=256
 nz: ∀ j,j<pos.length -> CC (pos.getD j 0)/\ pos.getD j 0≠0
def pB (c:AB)(pos:List Int):List Bool:=pos.map fun x=>bits .and .i64 x c.set != 0
def cB (c:AB)(pos:List Int):List Bool:=pos.map fun x=>bits .andNot .i64 x c.set==0
theorem Fb:(pB c pos).length=pos.length:=zBC _
theorem Ez:(cB c pos).length=pos.length:=zBC _
theorem TC {j:Nat}(hj:j<pos.length):(pB c pos).getD j false=(bits .and .i64 (pos.getD j 0) c.set != 0):=by
 unfold pB;rw [u8,zCG,zAa hj,u8,zAa hj];rfl
theorem Uu {j:Nat}(hj:j<pos.length):(cB c pos).getD j false=(bits .andNot .i64 (pos.getD j 0) c.set==0):=by
 unfold cB;rw [u8,zCG,zAa hj,u8,zAa hj];rfl
theorem Ej.cp (W:Ej c q pos){j:Nat}(hj:j<pos.length)(h:(cB c pos).getD j false=true):(pB c pos).getD j false=true:=by
 rw [Uu hj,zBA] at h;rw [TC hj,zC8];obtain ⟨h1,h2⟩:=W.nz j hj;obtain ⟨s,hs,hb⟩:=(FU h1).1 h2;have h3:=(Lv (GC .andNot _ _)).1 h s hs;rw [Ki,hb,zCZ,Bool.not_eq_false'] at h3;exact (FU (GC .and _ _)).2 ⟨s,hs,by rw [JZ,hb,h3];rfl⟩
def Ch (pos lost:List Int)(D:Nat -> Nat -> Prop)(l:List Int):Prop:= (l.length=pos.length/\ ∀ j,CC (l.getD j 0))/\ ∀ j s,tb (l.getD j 0) s=true↔tb (lost.getD j 0) s=true∨(j<pos.length/\ tb (pos.getD j 0) s=true/\ D j s)
theorem Ch.unique {D:Nat -> Nat -> Prop}{l l':List Int}(h:Ch pos lost D l)(h':Ch pos lost D l'):l=l':=by
 have e:l.length=l'.length:=h.1.1.trans h'.1.1.symm;refine zGe e fun j h1 h2=>?_
 have e1:l.getD j 0=l[j]:=by simp [h1]
 have e2:l'.getD j 0=l'[j]:=by simp [h2]
 rw [←e1,←e2];refine Na (h.1.2 j) (h'.1.2 j) fun s _=>?_
 rw [zDF,h.2,h'.2]
theorem Ch.by {D:Nat -> Nat -> Prop}{l:List Int}(W:Ej c q pos)(h:Ch pos lost D l):CF c pos lost c.cells.length D l:=by
 refine ⟨h.1.1,fun j s=>?_⟩;have hl:=W.len;rw [h.2];constructor
 ·rintro (h1 | ⟨h1,h2,h3⟩)
  ·exact .inl h1
  ·have e:=W.id j h1;exact .inr ⟨j,by omega,by rw [e];omega,by show tb (pos.getD (c.cells.getD j 0).toNat 0) s=true;rw [e,zAT];exact h2,h3⟩
 ·rintro (h1 | ⟨a,h1,h2,h3,h4⟩)
  ·exact .inl h1
  ·have e:=W.id a (by omega);have h3:tb (pos.getD (c.cells.getD a 0).toNat 0) s=true:=h3;rw [e,zAT] at h2 h3;subst h2;exact .inr ⟨by omega,h3,h4⟩
theorem Ch.step {D D':Nat -> Nat -> Prop}{l l':List Int}(h:Ch pos lost D l)(hl:l'.length=pos.length)(Ce: ∀ j,CC (l'.getD j 0)){E:Nat -> Nat -> Prop}(h1: ∀ j s,tb (l'.getD j 0) s=true↔tb (l.getD j 0) s=true∨(j<pos.length/\ tb (pos.getD j 0) s=true/\ E j s)) 
 (hD: ∀ j s,j<pos.length -> tb (pos.getD j 0) s=true -> (D' j s↔D j s∨E j s)):Ch pos lost D' l':=by
 refine ⟨⟨hl,Ce⟩,fun j s=>?_⟩;rw [h1,h.2];constructor
 ·rintro ((h2 | ⟨h2,h3,h4⟩) | ⟨h2,h3,h4⟩)
  ·exact .inl h2
  ·exact .inr ⟨h2,h3,(hD j s h2 h3).2 (.inl h4)⟩
  ·exact .inr ⟨h2,h3,(hD j s h2 h3).2 (.inr h4)⟩
 ·rintro (h2 | ⟨h2,h3,h4⟩)
  ·exact .inl (.inl h2)
  ·rcases (hD j s h2 h3).1 h4 with h5 | h5
   ·exact .inl (.inr ⟨h2,h3,h5⟩)
   ·exact .inr ⟨h2,h3,h5⟩
theorem Ch.id' {D D':Nat -> Nat -> Prop}{l:List Int}(h:Ch pos lost D l)(hD: ∀ j s,j<pos.length -> tb (pos.getD j 0) s=true -> (D' j s↔D j s)):Ch pos lost D' l:=
 h.step (E:=fun _ _=>False) h.1.1 h.1.2 (fun j s=>by simp) fun j s h1 h2=>by rw [hD j s h1 h2,or_false]
theorem Ch.lose {D D':Nat -> Nat -> Prop}{l:List Int}(h:Ch pos lost D l){cell ss:Int}(h0:0<=cell)(h1:cell<(pos.length:Int))(hD: ∀ j s,j<pos.length -> tb (pos.getD j 0) s=true -> (D' j s↔D j s∨((j:Int)=cell/\ tb ss s=true))):
 ∃ l',(∀ n,Dg n cell ss c q pos pos.length l=some l')/\ Ch pos lost D' l':=by
 obtain ⟨l',e,h2,h3,h4⟩:=lZ (ss:=ss) (c:=c) (q:=q) h0 h1 h.1.1 h.1.2;refine ⟨l',e,h.step h2 h3 (E:=fun j s=>(j:Int)=cell/\ tb ss s=true) (fun j s=>?_) hD⟩;rw [h4,zA9,zAW,zAW,zAi];constructor
 ·rintro (h5 | ⟨rfl,h5,h6⟩)
  ·exact .inl h5
  ·exact .inr ⟨by omega,h5,by omega,h6⟩
 ·rintro (h5 | ⟨h5,h6,h7,h8⟩)
  ·exact .inl h5
  ·exact .inr ⟨by omega,h6,h8⟩
theorem Ch.only {D D':Nat -> Nat -> Prop}{l:List Int}(h:Ch pos lost D l){cell:Int}(h0:0<=cell)(h1:cell<(pos.length:Int))(hD: ∀ j s,j<pos.length -> tb (pos.getD j 0) s=true -> (D' j s↔D j s∨((j:Int)=cell/\ tb c.set s=false))):
 ∃ l',(∀ n,Gj n cell c q pos pos.length l=some l')/\ Ch pos lost D' l':=by
 obtain ⟨l',e,h2,h3,h4⟩:=al (c:=c) (q:=q) h0 h1 h.1.1 h.1.2;refine ⟨l',e,h.step h2 h3 (E:=fun j s=>(j:Int)=cell/\ tb c.set s=false) (fun j s=>?_) hD⟩;rw [h4,zA9,zAW,zAW,zAi,zCw];constructor
 ·rintro (h5 | ⟨rfl,h5,h6⟩)
  ·exact .inl h5
  ·exact .inr ⟨by omega,h5,by omega,h6⟩
 ·rintro (h5 | ⟨h5,h6,h7,h8⟩)
  ·exact .inl h5
  ·exact .inr ⟨by omega,h6,h8⟩
def Ga (l:List Bool)(r:Int):Prop:=(r= -1/\ ∀ j,j<l.length -> l.getD j false=false)∨(0<=r/\ r<(l.length:Int)/\ l.getD r.toNat false=true/\ ∀ j:Nat,(j:Int)<r -> l.getD j false=false)
theorem Tn {l:List Bool}(hl:l.length<=256): ∃ r,Ev (fun n=>XO n l true) r/\ Ga l r:=by
 have key: ∀ (k i:Nat),i+k=l.length -> (∀ j,j<i -> l.getD j false=false) -> ∃ r,Ev (fun n=>LA l true n (.l1 (i:Int))) r/\ Ga l r:=by
  intro k
  induction k with
  | zero=>
   intro i e h;refine ⟨-1,⟨1,fun n hn=>?_⟩,.inl ⟨rfl,fun j hj=>h j (by omega)⟩⟩;obtain ⟨n,rfl⟩: ∃ k,n=k+1:=⟨n-1,by omega⟩
   show Tm n (LA l true n) l true (i:Int)=_
   unfold Tm;rw [zAP (by omega),zAR]
  | succ k ih=>
   intro i e h
   have U: ∀ n,LA l true (n+1) (.l1 (i:Int))=bif l.getD i false then some (i:Int) else LA l true n (.l1 ((i:Int)+1)):=fun n=>by
    show Tm n (LA l true n) l true (i:Int)=_
    unfold Tm;rw [zAU (by omega),zAV,zAM ⟨by omega,by omega⟩,zAT,zAM (Av.2 ⟨by omega,by omega⟩)];cases l.getD i false <;> rfl
   cases hi:l.getD i false
   ·obtain ⟨r,h1,h2⟩:=ih (i+1) (by omega) fun j hj=>by
     rcases zAl.1 hj with hj | rfl
     ·exact h j hj
     ·exact hi
    refine ⟨r,Ev.step 1 (fun n=>?_) h1,h2⟩;rw [U,hi,zAR];rfl
   ·refine ⟨(i:Int),⟨1,fun n hn=>?_⟩,.inr ⟨by omega,by omega,by rw [zAT];exact hi,fun j hj=>h j (by omega)⟩⟩;obtain ⟨n,rfl⟩: ∃ k,n=k+1:=⟨n-1,by omega⟩
    show LA l true (n+1) (.l1 (i:Int))=_
    rw [U,hi,zAV]
 exact key l.length 0 (by omega) fun j hj=>absurd hj (zAv j)
theorem og {l l':List Bool}(h:l.length=l'.length)(h2: ∀ j,j<l.length -> l.getD j false=l'.getD j false):l=l':=by
 refine zGe h fun j h3 h4=>?_
 have:=h2 j h3
 rwa [u8,zAa h3,u8,zAa h4] at this
theorem Yt {l:List Bool}{i j:Nat}{b:Bool}(hi:i<l.length):(l.set i b).getD j false=if j=i then b else l.getD j false:=by
 by_cases e:j=i
 ·subst e;rw [zAM rfl,u8,zDB hi];rfl
 ·rw [zAh e,u8,zC2 (fun h=>e h.symm),←u8]
def FI (c:AB)(q:AA)(pos:List Int)(a s:Nat):Prop:=(pB c pos).getD a false=true/\ tb c.set s=true/\ ∃ r:Int,0<=r/\ Ga (cB c pos) r/\ ¬ Rc q.nbrs (pB c pos) r a
theorem Ga.uniq {l:List Bool}{r r':Int}(h:Ga l r)(h':Ga l r'):r=r':=by
 rcases h with ⟨rfl,h⟩ | ⟨h0,h1,h2,h3⟩ <;> rcases h' with ⟨rfl,h'⟩ | ⟨h0',LV,Mw,dM⟩
 ·rfl
 ·rw [h r'.toNat (by omega)] at Mw;cases Mw
 ·rw [h' r.toNat (by omega)] at h2;cases h2
 ·rcases Int.lt_trichotomy r r' with h4 | h4 | h4
  ·rw [dM r.toNat (by omega)] at h2;cases h2
  ·exact h4
  ·rw [h3 r'.toNat (by omega)] at Mw;cases Mw
theorem fk (G:Ih q.nbrs)(hB:(pB c pos).length=q.nbrs.length){r:Int}(EI:0<=r)(hF:Ga (cB c pos) r){j s:Nat}:FI c q pos j s↔(pB c pos).getD j false=true/\ tb c.set s=true/\ ¬ Rc q.nbrs (pB c pos) r j:=by
 constructor
 ·rintro ⟨h1,h2,r',_,O2,h3⟩;rw [hF.uniq O2];exact ⟨h1,h2,h3⟩
 ·rintro ⟨h1,h2,h3⟩;exact ⟨h1,h2,r,EI,hF,h3⟩
def RU (c:AB)(q:AA)(pos lost:List Int)(r:Int)(x:List Bool×List Bool×Bool×List Int):Prop:=x.1=pB c pos/\ x.2.1=cB c pos/\ x.2.2.1=decide (0<=r)/\ Ch pos lost (FI c q pos) x.2.2.2
theorem RU.uniq {r:Int}(x y:List Bool×List Bool×Bool×List Int)(h:RU c q pos lost r x)(h':RU c q pos lost r y):x=y:=by
 obtain ⟨x1,x2,x3,x4⟩:=x;obtain ⟨y1,y2,y3,y4⟩:=y;obtain ⟨h1,h2,h3,h4⟩:=h;obtain ⟨LV,Mw,dM,Xv⟩:=h';have e4:x4=y4:=h4.unique Xv;have e1:x1=y1:=Eq.trans h1 LV.symm;have e2:x2=y2:=Eq.trans h2 Mw.symm;have e3:x3=y3:=Eq.trans h3 dM.symm;rw [e1,e2,e3,e4]
theorem xk {n:Nat}(W:Ej c q pos)(hL:Ch pos lost (fun _ _=>False) lost){r:Int}(EI:0<=r)(hF:Ga (cB c pos) r){near:List Int}(hn:near.length<=256)(Tz: ∀ v,v∈near↔Rc q.nbrs (pB c pos) r v)(nT:600<=n):
 ∃ x,Et c q pos pos.length lost n (.l2 (pB c pos) (pB c pos).length near (near.length:Int) 0 (cB c pos) (pB c pos))=some x/\ RU c q pos lost r x:=by
 have F8:=W.l1;have Fi:=W.gl
 have I4:r<(q.nbrs.length:Int):=by
  rcases hF with ⟨h,_⟩ | ⟨_,h,_⟩
  ·omega
  ·rw [Ez] at h;omega
 have QZ: ∀ v∈near,0<=v/\ v<(pos.length:Int):=fun v hv=>by
  have:=((Tz v).1 hv).rng W.g.gr EI I4;omega
 have S:=Hr (fun n (GA:List Bool) i=>Et c q pos pos.length lost n (.l2 (pB c pos) (pB c pos).length near (near.length:Int) i (cB c pos) GA)) near.length (pos.length+3)
  (fun i GA=>GA.length=pos.length/\ ∀ j:Nat,GA.getD j false=true↔(pB c pos).getD j false=true/\ (j:Int)∉near.take i) (fun n i GA HM hi hI=>?_) (n:=n) (s:=pB c pos) (by omega) ⟨Fb,fun j=>by simp⟩
 ·obtain ⟨n1,GA,F2,_,e1,hfl,nX⟩:=S;obtain ⟨n2,rfl⟩: ∃ n2,n1=n2+1:=⟨n1-1,by omega⟩;rw [List.take_length] at nX
  have T:=Hr (fun n (o1:List Int) i=>Et c q pos pos.length lost n (.l3 (pB c pos) (pB c pos).length ((pB c pos).length:Int) i o1 (cB c pos) GA)) pos.length 1
   (fun i o1=>Ch pos lost (fun j s=>j<i/\ FI c q pos j s) o1) (fun n i o1 HM hi hI=>?_) (n:=n2) (s:=lost) (by omega) (hL.id' fun j s _ _=>⟨fun h=>absurd h.1 (zAv j),fun h=>h.elim⟩)
  ·obtain ⟨n3,o1,Ml,_,e2,LT⟩:=T;obtain ⟨n4,rfl⟩: ∃ n4,n3=n4+1:=⟨n3-1,by omega⟩;refine ⟨(pB c pos,cB c pos,true,o1),?_,rfl,rfl,(zAU EI).symm,LT.id' fun j s hj _=>⟨fun h=>⟨hj,h⟩,fun h=>h.2⟩⟩;refine Eq.trans e1 ?_
   show TK n2 (Et c q pos pos.length lost n2) c q pos pos.length lost (pB c pos) (pB c pos).length near (near.length:Int) (near.length:Int) (cB c pos) GA=_
   unfold TK;rw [zAP (by omega),zAR];refine Eq.trans e2 ?_
   show TJ n4 (Et c q pos pos.length lost n4) c q pos pos.length lost (pB c pos) (pB c pos).length ((pB c pos).length:Int) (pos.length:Int) o1 (cB c pos) GA=_
   unfold TJ;rw [Fb,zAP (by omega),zAR,zAM Ez.symm]
  ·show ∃ s',TJ n (Et c q pos pos.length lost n) c q pos pos.length lost (pB c pos) (pB c pos).length ((pB c pos).length:Int) (i:Int) o1 (cB c pos) GA=_/\ _
   unfold TJ;simp only [zAT,zA8];have r1:AJ ((i:Int)+1):=Av.2 ⟨by omega,by omega⟩;rw [Fb,zAU (by omega),zAV,zAM ⟨⟨by omega,by omega⟩,by omega⟩];have nW:GA.getD i false=true↔(pB c pos).getD i false=true/\ ¬ Rc q.nbrs (pB c pos) r i:=by rw [nX,Tz]
   cases hf:GA.getD i false
   ·rw [zAR,zAM r1];refine ⟨o1,rfl,hI.id' fun j s hj _=>⟨fun h=>⟨?_,h.2⟩,fun h=>⟨by omega,h.2⟩⟩⟩;rcases zAl.1 h.1 with h1 | rfl
    ·exact h1
    ·have h2:=(fk W.g (by rw [Fb];exact Fi.symm) EI hF).1 h.2;have:=nW.2 ⟨h2.1,h2.2.2⟩;rw [hf] at this;cases this
   ·obtain ⟨l',e,h2⟩:=hI.lose (c:=c) (q:=q) (D':=fun j s=>j<i+1/\ FI c q pos j s) (cell:=(i:Int)) (ss:=c.set) (by omega) (by omega) fun j s hj _=>by
     constructor
     ·rintro ⟨h1,h2⟩;rcases zAl.1 h1 with h1 | rfl
      ·exact .inl ⟨h1,h2⟩
      ·exact .inr ⟨rfl,h2.2.1⟩
     ·rintro (⟨h1,h2⟩ | ⟨h1,h2⟩)
      ·exact ⟨by omega,h2⟩
      ·obtain rfl:j=i:=by omega
       have h3:=nW.1 hf;exact ⟨by omega,(fk W.g (by rw [Fb];exact Fi.symm) EI hF).2 ⟨h3.1,h2,h3.2⟩⟩
    rw [zAV,e,zAS,zAM r1];exact ⟨l',rfl,h2⟩
 ·obtain ⟨hl,hf⟩:=hI;have hx:near.getD i 0∈near:=by rw [u8,zAa hi];exact zBD hi
  have IQ:=QZ _ hx
  show ∃ s',TK n (Et c q pos pos.length lost n) c q pos pos.length lost (pB c pos) (pB c pos).length near (near.length:Int) (i:Int) (cB c pos) GA=_/\ _
  unfold TK;simp only [zAT,zA8];rw [Fb,zAU (by omega),zAV,zAM ⟨⟨by omega,by omega⟩,IQ,by omega,Av.2 ⟨by omega,by omega⟩⟩];refine ⟨_,rfl,by rw [zBB];exact hl,fun j=>?_⟩
  have e3:near.take (i+1)=near.take i++[near.getD i 0]:=by
   rw [zGO hi,u8,zAa hi];rfl
  rw [Yt (by omega),e3,zC1,zA1]
  by_cases e:j=(near.getD i 0).toNat
  ·rw [zAM e];exact ⟨fun h=>(by cases h),fun h=>absurd (Or.inr (by omega)) h.2⟩
  ·rw [zAh e,hf];exact ⟨fun h=>⟨h.1,fun h2=>h2.elim h.2 fun h3=>e (by omega)⟩,fun h=>⟨h.1,fun h2=>h.2 (.inl h2)⟩⟩
theorem lA (W:Ej c q pos)(hL:Ch pos lost (fun _ _=>False) lost){r:Int}(hF:Ga (cB c pos) r):
 ∃ l,Ev (fun n=>OH n c q pos pos.length lost) (pB c pos,cB c pos,decide (0<=r),l)/\ Ch pos lost (FI c q pos) l:=by
 have F8:=W.l1;have Fi:=W.gl;have Ak:=W.len;have L:(1000000000000:Nat)=BA:=rfl
 suffices H:Af (fun n=>OH n c q pos pos.length lost) (RU c q pos lost r) by
  obtain ⟨x,h1,h2⟩:=H.ev RU.uniq;obtain ⟨x1,x2,x3,x4⟩:=x;obtain ⟨h3,h4,h5,h6⟩:=h1;have h3:x1=pB c pos:=h3;have h4:x2=cB c pos:=h4;have h5:x3=decide (0<=r):=h5;subst h3 h4 h5;exact ⟨x4,h2,h6⟩
 have first: ∀ n,Et c q pos pos.length lost (n+c.cells.length) (.l1 0 (List.replicate pos.length false) (List.replicate pos.length false))=Et c q pos pos.length lost n (.l1 (c.cells.length:Int) (pB c pos) (cB c pos)):=fun n=>by
  have z: ∀ j:Nat,(List.replicate pos.length false).getD j false=false:=fun j=>by
   rw [u8,zCx];split <;> rfl
  obtain ⟨s',e,h1,h2,h3,h4⟩:=Wu (fun n (s:List Bool×List Bool) i=>Et c q pos pos.length lost n (.l1 i s.1 s.2)) c.cells.length 0
   (fun i s=>s.1.length=pos.length/\ s.2.length=pos.length/\ (∀ j,s.1.getD j false=if j<i then (pB c pos).getD j false else false)/\ (∀ j,s.2.getD j false=if j<i then (cB c pos).getD j false else false))
   (fun n i s _ hi hI=>by
    obtain ⟨o2,o3⟩:=s;obtain ⟨h1,h2,h3,h4⟩:=hI;have h1:o2.length=pos.length:=h1;have h2:o3.length=pos.length:=h2;have hid:=W.id i (by omega)
    show ∃ s',TL n (Et c q pos pos.length lost n) c q pos pos.length lost (i:Int) o2 o3=_/\ _
    unfold TL;simp only [zAT,zA8,hid];rw [zAU (by omega),zAV,zAM ⟨⟨by omega,by omega⟩,⟨by omega,by omega⟩,by omega,by omega,Av.2 ⟨by omega,by omega⟩⟩];refine ⟨(_,_),rfl,by rw [zBB];exact h1,by rw [zBB];exact h2,fun j=>?_,fun j=>?_⟩
    ·show (o2.set i _).getD j false=_
     rw [Yt (by omega)]
     by_cases e:j=i
     ·subst e;rw [zAM rfl,zAM (by omega),TC (by omega)]
     ·have h3:o2.getD j false=_:=h3 j;rw [zAh e,h3]
      by_cases e2:j<i
      ·rw [zAM e2,zAM (by omega)]
      ·rw [zAh e2,zAh (by omega)]
    ·show (o3.set i _).getD j false=_
     rw [Yt (by omega)]
     by_cases e:j=i
     ·subst e;rw [zAM rfl,zAM (by omega),Uu (by omega)]
     ·have h4:o3.getD j false=_:=h4 j;rw [zAh e,h4]
      by_cases e2:j<i
      ·rw [zAM e2,zAM (by omega)]
      ·rw [zAh e2,zAh (by omega)])
   c.cells.length 0 n (List.replicate pos.length false,List.replicate pos.length false) (by omega) (by omega) ⟨zAw,zAw,fun j=>by rw [zAh (by omega)];exact z j,fun j=>by rw [zAh (by omega)];exact z j⟩
  obtain ⟨o2,o3⟩:=s';have h1:o2.length=pos.length:=h1;have h2:o3.length=pos.length:=h2
  have e2:o2=pB c pos:=og (by rw [h1,Fb]) fun j hj=>by
   have h3:o2.getD j false=_:=h3 j;rw [h3,zAM (by omega)]
  have e3:o3=cB c pos:=og (by rw [h2,Ez]) fun j hj=>by
   have h4:o3.getD j false=_:=h4 j;rw [h4,zAM (by omega)]
  rw [←e2,←e3];exact e
 have start: ∀ n,OH n c q pos pos.length lost=Et c q pos pos.length lost n (.l1 0 (List.replicate pos.length false) (List.replicate pos.length false)):=fun n=>by
  unfold OH lC;rw [zAM ⟨rfl,by omega,by omega⟩]
 refine Af.eq (Af.step (c.cells.length+1) (g:=fun n=>(XO n (cB c pos) true).bind fun y1=>bif (decide (y1<0)) then (if pos.length=(pB c pos).length then some (pB c pos,cB c pos,false,lost) else none) else (if pos.length=(pB c pos).length then (PF n (pB c pos)).bind fun y2=>(RC n q.nbrs (pB c pos) y1).bind fun y3=>Et c q pos pos.length lost n (.l2 (pB c pos) y2.length y3.1 (y3.1.length:Int) 0 (cB c pos) y2) else none)) (fun n=>?_) ?_) start
 ·rw [show n+(c.cells.length+1)=n+1+c.cells.length by omega,first]
  show TL n (Et c q pos pos.length lost n) c q pos pos.length lost (c.cells.length:Int) (pB c pos) (cB c pos)=_
  unfold TL;rw [zAP (by omega),zAR,zAM Ez.symm]
 ·obtain ⟨r',h1,h2⟩:=Tn (l:=cB c pos) (by rw [Ez];exact F8);obtain rfl:=hF.uniq h2;refine Af.bind h1 ?_
  by_cases EI:0<=r
  ·have Az: ∀ n,PF n (pB c pos)=some (pB c pos):=fun n=>by
    have h0:=W.l0;have h3:=Fb (c:=c) (pos:=pos);unfold PF eH;rw [zAM ⟨by omega,trivial,⟨rfl,rfl⟩,by rw [←L];simp only [zC5];omega⟩,zAM (by simp)];rfl
   obtain ⟨I4,hr2⟩:r<(pos.length:Int)/\ (cB c pos).getD r.toNat false=true:=by
    rcases hF with ⟨h,_⟩ | ⟨_,h,h',_⟩
    ·omega
    ·rw [Ez] at h;exact ⟨h,h'⟩
   have hpr:=W.cp (by omega) hr2;refine Af.eq (Af.bindU (zE3 W.g (by rw [Fb];exact Fi.symm) EI (by omega) hpr) (b:=fun n y3=>Et c q pos pos.length lost n (.l2 (pB c pos) (pB c pos).length y3.1 (y3.1.length:Int) 0 (cB c pos) (pB c pos))) ⟨600,fun n hn x hx=>xk W hL EI hF hx.2.1 hx.2.2 hn⟩) fun n=>?_
   rw [zAP (by omega),zAR,zAM Fb.symm,Az,zAS]
  ·refine Ev.p (r:=(pB c pos,cB c pos,false,lost)) (Ev.now fun n=>?_) ⟨rfl,rfl,(zAP EI).symm,hL.id' fun j s _ _=>⟨fun h=>?_,fun h=>h.elim⟩⟩
   ·rw [zAU (by omega),zAV,zAM Fb.symm]
   ·obtain ⟨_,_,r',h3,h4,_⟩:=h;rw [hF.uniq h4] at EI;exact EI h3
def Hz (c:AB)(q:AA)(pos:List Int)(a s:Nat):Prop:=FI c q pos a s∨((pB c pos).getD a false=true/\ (cB c pos).getD a false=false/\ Sp q.nbrs (pB c pos) (cB c pos) (a:Int)/\ tb c.set s=false)
theorem zEs (W:Ej c q pos)(hL:Ch pos lost (fun _ _=>False) lost): ∃ l,Ev (fun n=>Ye n c q pos pos.length lost) (true,l)/\ Ch pos lost (Hz c q pos) l:=by
 have F8:=W.l1;have Fi:=W.gl;obtain ⟨r,_,hF⟩:=Tn (l:=cB c pos) (by rw [Ez];exact F8);obtain ⟨l0,h1,h2⟩:=lA W hL hF
 suffices H:Af (fun n=>NC c q pos pos.length lost n (.l1 (pB c pos) (cB c pos) (decide (0<=r)) ((pB c pos).length:Int) 0 l0)) (fun x=>x.1=true/\ Ch pos lost (Hz c q pos) x.2) by
  obtain ⟨x,⟨h3,h4⟩,h5⟩:=(Af.bind h1 (b:=fun n y1=>NC c q pos pos.length lost n (.l1 y1.1 y1.2.1 y1.2.2.1 (y1.1.length:Int) 0 y1.2.2.2)) H).ev fun x y hx hy=>by
   obtain ⟨x1,x2⟩:=x;obtain ⟨y1,y2⟩:=y;have e1:x1=true:=hx.1;have e2:y1=true:=hy.1;have e3:x2=y2:=hx.2.unique hy.2;rw [e1,e2,e3]
  obtain ⟨x1,x2⟩:=x;have h3:x1=true:=h3;subst h3;exact ⟨x2,h5,h4⟩
 obtain ⟨N,hN⟩:=Af.range (F:=fun (i:Nat) n=>if (pB c pos).getD i false=true then Ng n q.nbrs (pB c pos) (cB c pos) i else some (false,0)) (A:=fun i x=>(pB c pos).getD i false=true -> x.2=0/\ (x.1=true↔Sp q.nbrs (pB c pos) (cB c pos) i)) pos.length fun i hi=>by
  by_cases h:(pB c pos).getD i false=true
  ·refine ((sI W.g (by rw [Fb];exact Fi.symm) (by rw [Ez];exact Fi.symm) (a:=i) (by omega) h).mono fun x hx _=>hx).eq fun n=>?_
   rw [zAM h]
  ·exact Ev.p (r:=(false,0)) (Ev.now fun n=>by rw [zAh h]) fun h'=>absurd h' h
 refine ⟨N+pos.length+1,fun n hn=>?_⟩
 have T:=Hr (fun n (o1:List Int) i=>NC c q pos pos.length lost n (.l1 (pB c pos) (cB c pos) (decide (0<=r)) ((pB c pos).length:Int) i o1)) pos.length (N+1)
  (fun i o1=>Ch pos lost (fun a s=>FI c q pos a s∨(a<i/\ Hz c q pos a s)) o1) (fun n i o1 HM hi hI=>?_) (n:=n) (s:=l0) (by omega) (h2.id' fun j s _ _=>⟨fun h=>h.elim id fun h=>absurd h.1 (zAv j),.inl⟩)
 ·obtain ⟨n3,o1,Ml,_,e2,LT⟩:=T;obtain ⟨n4,rfl⟩: ∃ n4,n3=n4+1:=⟨n3-1,by omega⟩;refine ⟨(true,o1),Eq.trans e2 ?_,rfl,LT.id' fun j s hj _=>⟨fun h=>.inr ⟨hj,h⟩,fun h=>h.elim .inl fun h=>h.2⟩⟩
  show Uq n4 (NC c q pos pos.length lost n4) c q pos pos.length lost (pB c pos) (cB c pos) (decide (0<=r)) ((pB c pos).length:Int) (pos.length:Int) o1=_
  unfold Uq;rw [Fb,zAP (p:=((pos.length:Nat):Int)<((pos.length:Nat):Int)) (by omega),zAR]
 ·show ∃ s',Uq n (NC c q pos pos.length lost n) c q pos pos.length lost (pB c pos) (cB c pos) (decide (0<=r)) ((pB c pos).length:Int) (i:Int) o1=_/\ _
  unfold Uq;simp only [zAT];have r1:AJ ((i:Int)+1):=Av.2 ⟨by omega,by omega⟩;have lp:(pB c pos).length=pos.length:=Fb;have lc:(cB c pos).length=pos.length:=Ez;rw [lp,lc,zAU (p:=(i:Int)<((pos.length:Nat):Int)) (by omega),zAV]
  have skip:(∀ s,¬ ((pB c pos).getD i false=true/\ (cB c pos).getD i false=false/\ Sp q.nbrs (pB c pos) (cB c pos) (i:Int)/\ tb c.set s=false)) -> Ch pos lost (fun a s=>FI c q pos a s∨(a<i+1/\ Hz c q pos a s)) o1:=fun Gn=>hI.id' fun j s hj _=>by
   constructor
   ·rintro (h | ⟨h,h3⟩)
    ·exact .inl h
    ·rcases zAl.1 h with h | rfl
     ·exact .inr ⟨h,h3⟩
     ·exact h3.elim .inl fun h4=>absurd h4 (Gn s)
   ·rintro (h | ⟨h,h3⟩)
    ·exact .inl h
    ·exact .inr ⟨by omega,h3⟩
  by_cases EI:0<=r
  ·rw [zAU EI,zCs,zAR,zAM ⟨by omega,by omega⟩];cases hp:(pB c pos).getD i false
   ·rw [zC0,zAV,zAM r1];exact ⟨o1,rfl,skip fun s h=>by rw [hp] at h;cases h.1⟩
   ·rw [zCs,zAR,zAM ⟨by omega,by omega⟩];cases hc:(cB c pos).getD i false
    ·obtain ⟨x,e1,hx⟩:=hN n (by omega) i hi;have e1:(if (pB c pos).getD i false=true then Ng n q.nbrs (pB c pos) (cB c pos) i else some (false,0))=some x:=e1;rw [zAM hp] at e1;obtain ⟨_,hx⟩:=hx hp;rw [zAR,e1,zAS];cases hb:x.1
     ·rw [zAR,zAM r1];exact ⟨o1,rfl,skip fun s h=>by rw [hx.2 h.2.2.1] at hb;cases hb⟩
     ·obtain ⟨l',e,h3⟩:=hI.only (c:=c) (q:=q) (D':=fun a s=>FI c q pos a s∨(a<i+1/\ Hz c q pos a s)) (cell:=(i:Int)) (by omega) (by omega) fun j s hj _=>by
       constructor
       ·rintro (h | ⟨h,h3⟩)
        ·exact .inl (.inl h)
        ·rcases zAl.1 h with h | rfl
         ·exact .inl (.inr ⟨h,h3⟩)
         ·exact h3.elim (fun h=>.inl (.inl h)) fun h4=>.inr ⟨rfl,h4.2.2.2⟩
       ·rintro ((h | ⟨h,h3⟩) | ⟨h,h3⟩)
        ·exact .inl h
        ·exact .inr ⟨by omega,h3⟩
        ·obtain rfl:j=i:=by omega
         exact .inr ⟨by omega,.inr ⟨hp,hc,hx.1 hb,h3⟩⟩
      rw [zAV,e,zAS,zAM r1];exact ⟨l',rfl,h3⟩
    ·rw [zAV,zAM r1];exact ⟨o1,rfl,skip fun s h=>by rw [hc] at h;cases h.2.1⟩
  ·rw [zAP EI,zC0,zAV,zAM r1];refine ⟨o1,rfl,skip fun s h=>?_⟩;obtain ⟨hp,_,⟨u,v,_,_,h3,_,h4,_⟩,_⟩:=h;rcases hF with ⟨_,hF⟩ | ⟨h5,_⟩
   ·have:=h4.rng W.g.gr (by omega) (by omega);rw [hF u.toNat (by rw [Ez];omega)] at h3;cases h3
   ·exact EI h5
def CT (g:List (List Int))(S:List Bool)(v:Int):Nat:=(nb g v).countP fun x=>S.getD x.toNat false
def ON (c:AB)(q:AA)(pos:List Int):Prop:=∀ v,v<pos.length -> (cB c pos).getD v false=true -> 2<=CT q.nbrs (pB c pos) v/\ CT q.nbrs (cB c pos) v<=2
def a8 (c:AB)(q:AA)(pos:List Int)(v a s:Nat):Prop:=(cB c pos).getD v false=true/\ (a:Int)∈nb q.nbrs v/\ (pB c pos).getD a false=true/\ ((CT q.nbrs (pB c pos) v=2/\ tb c.set s=false)∨(CT q.nbrs (cB c pos) v=2/\ (cB c pos).getD a false=false/\ tb c.set s=true))
def MW (c:AB)(q:AA)(pos:List Int)(a s:Nat):Prop:=FI c q pos a s∨∃ v,v<pos.length/\ a8 c q pos v a s
section
variable {P C:List Bool} {o1:List Int} {row:List Int} {x20 x21:Int}
def Jr (P:List Bool)(o2:List Int)(v:Int):List Int:=bif P.getD v.toNat false then o2++[v] else o2
def K3 (C:List Bool)(x:Int)(v:Int):Int:=bif C.getD v.toNat false then x+1 else x
theorem k8: ∀ (l o2:List Int),l.foldl (Jr P) o2=o2++l.filter fun x=>P.getD x.toNat false
 | [],o2=>by simp
 | v::l,o2=>by
  rw [zDH,k8 l];unfold Jr;cases h:P.getD v.toNat false
  ·rw [zAR,List.filter_cons_of_neg (by rw [h];decide)]
  ·rw [zAV,List.filter_cons_of_pos (p:=fun x=>P.getD (Int.toNat x) false) h,zGo];rfl
theorem lR: ∀ (l:List Int) (x:Int),l.foldl (K3 C) x=x+(l.countP fun x=>C.getD x.toNat false:Nat)
 | [],x=>by simp
 | v::l,x=>by
  rw [zDH,lR l];unfold K3;cases h:C.getD v.toNat false
  ·rw [zAR,List.countP_cons_of_neg (by rw [h];decide)]
  ·rw [zAV,List.countP_cons_of_pos (p:=fun x=>C.getD (Int.toNat x) false) h];omega
def Nd (P C:List Bool)(x20 x21:Int)(row o1 o2:List Int)(x8 j:Int):MV:=match o2 with
 | []=>.l2 P C x8 x20 x21 row (row.length:Int) j o1
 | a::l=>.l3 P C (a::l).length x8 x20 x21 row (row.length:Int) j o1 (a::l)
theorem iU {o2:List Int}{x8 j:Int}(h:o2≠[]):Nd P C x20 x21 row o1 o2 x8 j= .l3 P C o2.length x8 x20 x21 row (row.length:Int) j o1 o2:=by
 cases o2 with
 | nil=>exact absurd rfl h
 | cons a l=>rfl
theorem yA {n j:Nat}{x8:Int}{o2:List Int}(hP:P.length=pos.length)(hC:C.length=pos.length)(hr: ∀ u∈row,0<=u/\ u<(pos.length:Int))(hl:row.length<=256)(hj:j<row.length)(ho:o2.length<=256)(h8:0<=x8/\ x8<=256):
 Cl c q pos pos.length lost (n+1) (Nd P C x20 x21 row o1 o2 x8 j)=Cl c q pos pos.length lost n (Nd P C x20 x21 row o1 (Jr P o2 (row.getD j 0)) (K3 C x8 (row.getD j 0)) ((j:Int)+1)):=by
 have L:(1000000000000:Nat)=BA:=rfl;have hx:row.getD j 0∈row:=by rw [u8,zAa hj];exact zBD hj
 have IQ:=hr _ hx;have r1:AJ ((j:Int)+1):=Av.2 ⟨by omega,by omega⟩;have r8:AJ (x8+1):=Av.2 ⟨by omega,by omega⟩;cases o2 with
 | nil=>
  show TV n (Cl c q pos pos.length lost n) c q pos pos.length lost P C x8 x20 x21 row (row.length:Int) (j:Int) o1=_
  unfold TV Jr K3;simp only [zAT];rw [zAU (by omega),zAV,zAM ⟨⟨by omega,by omega⟩,by omega,by omega⟩];cases hp:P.getD (row.getD j 0).toNat false <;> cases hc:C.getD (row.getD j 0).toNat false
  ·rw [zAR,zAR,zAR,zAM ⟨by omega,by omega⟩,zAR,zAM r1];rfl
  ·rw [zAR,zAR,zAV,zAM ⟨by omega,by omega⟩,zAV,zAM ⟨r8,r1⟩];rfl
  ·rw [zAV,zAV,zAR,zAM ⟨⟨⟨trivial,rfl⟩,by rw [zCf];omega,by rw [zCf,←L];omega⟩,by omega,by omega⟩,zAR,zAM r1];rfl
  ·rw [zAV,zAV,zAV,zAM ⟨⟨⟨trivial,rfl⟩,by rw [zCf];omega,by rw [zCf,←L];omega⟩,by omega,by omega⟩,zAV,zAM ⟨r8,r1⟩];rfl
 | cons a l=>
  have Ad:Jr P (a::l) (row.getD j 0)≠[]:=by unfold Jr;cases P.getD (row.getD j 0).toNat false <;> simp
  rw [iU Ad]
  show OM n (Cl c q pos pos.length lost n) c q pos pos.length lost P C (a::l).length x8 x20 x21 row (row.length:Int) (j:Int) o1 (a::l)=_
  unfold OM Jr K3;simp only [zAT];rw [zAU (by omega),zAV,zAM ⟨⟨by omega,by omega⟩,by omega,by omega⟩];cases hp:P.getD (row.getD j 0).toNat false <;> cases hc:C.getD (row.getD j 0).toNat false
  ·rw [zAR,zAR,zAR,zAM ⟨by omega,by omega⟩,zAR,zAM r1]
  ·rw [zAR,zAR,zAV,zAM ⟨by omega,by omega⟩,zAV,zAM ⟨r8,r1⟩]
  ·rw [zAV,zAV,zAR,zAM ⟨⟨⟨trivial,rfl⟩,⟨trivial,trivial⟩,by rw [zCf,←L];omega⟩,by omega,by omega⟩,zAR,zAM r1,zA7]
  ·rw [zAV,zAV,zAV,zAM ⟨⟨⟨trivial,rfl⟩,⟨trivial,trivial⟩,by rw [zCf,←L];omega⟩,by omega,by omega⟩,zAV,zAM ⟨r8,r1⟩,zA7]
theorem lM (hP:P.length=pos.length)(hC:C.length=pos.length)(hr: ∀ u∈row,0<=u/\ u<(pos.length:Int))(hl:row.length<=256): ∀ (k j n:Nat) (o2:List Int) (x8:Int),j+k=row.length -> o2.length<=j -> 0<=x8/\ x8<=(j:Int) ->
 Cl c q pos pos.length lost (n+k) (Nd P C x20 x21 row o1 o2 x8 j)=Cl c q pos pos.length lost n (Nd P C x20 x21 row o1 ((row.drop j).foldl (Jr P) o2) ((row.drop j).foldl (K3 C) x8) (row.length:Int))
 | 0,j,n,o2,x8,e,_,_=>by
  have e:j=row.length:=by omega
  subst e;rw [zHm];rfl
 | k+1,j,n,o2,x8,e,h2,h8=>by
  have hj:j<row.length:=by omega
  have e2:row.drop j=row.getD j 0::row.drop (j+1):=by
   rw [zCJ hj,u8,zAa hj];rfl
  rw [←zCg,yA hP hC hr hl hj (by omega) (by omega),e2,zDH,zDH]
  have h3:(Jr P o2 (row.getD j 0)).length<=j+1:=by
   unfold Jr;cases P.getD (row.getD j 0).toNat false
   ·rw [zAR];omega
   ·rw [zAV,zA7,zCf];omega
  have h4:0<=K3 C x8 (row.getD j 0)/\ K3 C x8 (row.getD j 0)<=((j+1:Nat):Int):=by
   unfold K3;cases C.getD (row.getD j 0).toNat false
   ·rw [zAR];omega
   ·rw [zAV];omega
  exact lM hP hC hr hl k (j+1) n _ _ (by omega) h3 h4
theorem qP {D:Nat -> Nat -> Prop}{near:List Int}{x8:Int}{v:Nat}{n:Nat}(W:Ej c q pos)(hD:Ch pos lost D o1)(Xd: ∀ u∈near,0<=u/\ u<(pos.length:Int))(J6:near.length<=256)(hv:v<pos.length):
 ∃ l',Cl c q pos pos.length lost (n+1+near.length) (.l4 (pB c pos) (cB c pos) near.length x8 x20 (v:Int) near.length (near.length:Int) 0 o1 near)=Cl c q pos pos.length lost n (.l1 (pB c pos) (cB c pos) x20 ((v:Int)+1) l')/\
  Ch pos lost (fun a s=>D a s∨((a:Int)∈near/\ ((near.length=2/\ tb c.set s=false)∨(x8=2/\ (cB c pos).getD a false=false/\ tb c.set s=true)))) l':=by
 have F8:=W.l1;have lc:(cB c pos).length=pos.length:=Ez
 obtain ⟨l',e,h⟩:=Wu (fun n (s:List Int) i=>Cl c q pos pos.length lost n (.l4 (pB c pos) (cB c pos) near.length x8 x20 (v:Int) near.length (near.length:Int) i s near)) near.length 0
  (fun i s=>Ch pos lost (fun a t=>D a t∨((a:Int)∈near.take i/\ ((near.length=2/\ tb c.set t=false)∨(x8=2/\ (cB c pos).getD a false=false/\ tb c.set t=true)))) s)
  (fun n i s _ hi hI=>by
   have hx:near.getD i 0∈near:=by rw [u8,zAa hi];exact zBD hi
   have IQ:=Xd _ hx
   have e3:near.take (i+1)=near.take i++[near.getD i 0]:=by
    rw [zGO hi,u8,zAa hi];rfl
   have r1:AJ ((i:Int)+1):=Av.2 ⟨by omega,by omega⟩;have mem: ∀ a:Nat,(a:Int)∈near.take (i+1)↔(a:Int)∈near.take i∨(a:Int)=near.getD i 0:=fun a=>by rw [e3,zC1,zA1]
   obtain ⟨l2,f2,dH⟩:=hI.only (c:=c) (q:=q) (cell:=near.getD i 0) IQ.1 IQ.2 (D':=fun a t=>(D a t∨((a:Int)∈near.take i/\ ((near.length=2/\ tb c.set t=false)∨(x8=2/\ (cB c pos).getD a false=false/\ tb c.set t=true))))∨((a:Int)=near.getD i 0/\ tb c.set t=false)) fun j s _ _=>Iff.rfl
   obtain ⟨l3,f3,hL3⟩:=dH.lose (c:=c) (q:=q) (cell:=near.getD i 0) (ss:=c.set) IQ.1 IQ.2 (D':=fun a t=>((D a t∨((a:Int)∈near.take i/\ ((near.length=2/\ tb c.set t=false)∨(x8=2/\ (cB c pos).getD a false=false/\ tb c.set t=true))))∨((a:Int)=near.getD i 0/\ tb c.set t=false))∨((a:Int)=near.getD i 0/\ tb c.set t=true)) fun j s _ _=>Iff.rfl
   obtain ⟨l4,f4,Xs⟩:=hI.lose (c:=c) (q:=q) (cell:=near.getD i 0) (ss:=c.set) IQ.1 IQ.2 (D':=fun a t=>(D a t∨((a:Int)∈near.take i/\ ((near.length=2/\ tb c.set t=false)∨(x8=2/\ (cB c pos).getD a false=false/\ tb c.set t=true))))∨((a:Int)=near.getD i 0/\ tb c.set t=true)) fun j s _ _=>Iff.rfl
   show ∃ s',TU n (Cl c q pos pos.length lost n) c q pos pos.length lost (pB c pos) (cB c pos) near.length x8 x20 (v:Int) near.length (near.length:Int) (i:Int) s near=_/\ _
   unfold TU;simp only [zAT,zA8];rw [zAU (by omega),zAV,zAM ⟨⟨by omega,by omega⟩,hi⟩];have A4: ∀ a:Nat,(a:Int)=near.getD i 0 -> (near.getD i 0).toNat=a:=fun a h=>by omega
   by_cases h2:near.length=2
   ·have b2:(((near.length:Nat):Int)==2)=true:=by rw [h2];rfl
    rw [b2,zAV,f2,zAS]
    by_cases h8:x8=2
    ·have b8:(x8==2)=true:=by rw [h8];rfl
     rw [b8,zAV,zAM ⟨by omega,by omega⟩];cases hc:(cB c pos).getD (near.getD i 0).toNat false
     ·rw [zC0,zAV,f3,zAS,zAM r1];refine ⟨l3,rfl,hL3.id' fun a t _ _=>?_⟩;rw [mem];constructor
      ·rintro (h | ⟨h | h,h3 | ⟨h3,h4,h5⟩⟩)
       ·exact .inl (.inl (.inl h))
       ·exact .inl (.inl (.inr ⟨h,.inl h3⟩))
       ·exact .inl (.inl (.inr ⟨h,.inr ⟨h3,h4,h5⟩⟩))
       ·exact .inl (.inr ⟨h,h3.2⟩)
       ·exact .inr ⟨h,h5⟩
      ·rintro (((h | ⟨h,h3⟩) | ⟨h,h3⟩) | ⟨h,h3⟩)
       ·exact .inl h
       ·exact .inr ⟨.inl h,h3⟩
       ·exact .inr ⟨.inr h,.inl ⟨h2,h3⟩⟩
       ·exact .inr ⟨.inr h,.inr ⟨h8,by rw [←A4 a h];exact hc,h3⟩⟩
     ·rw [zCs,zAR,zAM r1];refine ⟨l2,rfl,dH.id' fun a t _ _=>?_⟩;rw [mem];constructor
      ·rintro (h | ⟨h | h,h3 | ⟨h3,h4,h5⟩⟩)
       ·exact .inl (.inl h)
       ·exact .inl (.inr ⟨h,.inl h3⟩)
       ·exact .inl (.inr ⟨h,.inr ⟨h3,h4,h5⟩⟩)
       ·exact .inr ⟨h,h3.2⟩
       ·rw [←A4 a h,hc] at h4;cases h4
      ·rintro ((h | ⟨h,h3⟩) | ⟨h,h3⟩)
       ·exact .inl h
       ·exact .inr ⟨.inl h,h3⟩
       ·exact .inr ⟨.inr h,.inl ⟨h2,h3⟩⟩
    ·have b8:(x8==2)=false:=zCK.2 h8;rw [b8,zAR,zAM r1];refine ⟨l2,rfl,dH.id' fun a t _ _=>?_⟩;rw [mem];constructor
     ·rintro (h | ⟨h | h,h3 | ⟨h3,h4,h5⟩⟩)
      ·exact .inl (.inl h)
      ·exact .inl (.inr ⟨h,.inl h3⟩)
      ·exact .inl (.inr ⟨h,.inr ⟨h3,h4,h5⟩⟩)
      ·exact .inr ⟨h,h3.2⟩
      ·exact absurd h3 h8
     ·rintro ((h | ⟨h,h3⟩) | ⟨h,h3⟩)
      ·exact .inl h
      ·exact .inr ⟨.inl h,h3⟩
      ·exact .inr ⟨.inr h,.inl ⟨h2,h3⟩⟩
   ·have b2:(((near.length:Nat):Int)==2)=false:=zCK.2 (by omega);rw [b2,zAR]
    by_cases h8:x8=2
    ·have b8:(x8==2)=true:=by rw [h8];rfl
     rw [b8,zAV,zAM ⟨by omega,by omega⟩];cases hc:(cB c pos).getD (near.getD i 0).toNat false
     ·rw [zC0,zAV,f4,zAS,zAM r1];refine ⟨l4,rfl,Xs.id' fun a t _ _=>?_⟩;rw [mem];constructor
      ·rintro (h | ⟨h | h,h3 | ⟨h3,h4,h5⟩⟩)
       ·exact .inl (.inl h)
       ·exact .inl (.inr ⟨h,.inl h3⟩)
       ·exact .inl (.inr ⟨h,.inr ⟨h3,h4,h5⟩⟩)
       ·exact absurd h3.1 h2
       ·exact .inr ⟨h,h5⟩
      ·rintro ((h | ⟨h,h3⟩) | ⟨h,h3⟩)
       ·exact .inl h
       ·exact .inr ⟨.inl h,h3⟩
       ·exact .inr ⟨.inr h,.inr ⟨h8,by rw [←A4 a h];exact hc,h3⟩⟩
     ·rw [zCs,zAR,zAM r1];refine ⟨s,rfl,hI.id' fun a t _ _=>?_⟩;rw [mem];constructor
      ·rintro (h | ⟨h | h,h3 | ⟨h3,h4,h5⟩⟩)
       ·exact .inl h
       ·exact .inr ⟨h,.inl h3⟩
       ·exact .inr ⟨h,.inr ⟨h3,h4,h5⟩⟩
       ·exact absurd h3.1 h2
       ·rw [←A4 a h,hc] at h4;cases h4
      ·rintro (h | ⟨h,h3⟩)
       ·exact .inl h
       ·exact .inr ⟨.inl h,h3⟩
    ·have b8:(x8==2)=false:=zCK.2 h8;rw [b8,zAR,zAM r1];refine ⟨s,rfl,hI.id' fun a t _ _=>?_⟩;rw [mem];constructor
     ·rintro (h | ⟨h | h,h3 | ⟨h3,h4,h5⟩⟩)
      ·exact .inl h
      ·exact .inr ⟨h,.inl h3⟩
      ·exact .inr ⟨h,.inr ⟨h3,h4,h5⟩⟩
      ·exact absurd h3.1 h2
      ·exact absurd h3 h8
     ·rintro (h | ⟨h,h3⟩)
      ·exact .inl h
      ·exact .inr ⟨.inl h,h3⟩)
  near.length 0 (n+1) o1 (by omega) (by omega) (hD.id' fun a t _ _=>by simp)
 refine ⟨l',Eq.trans e ?_,h.id' fun a t _ _=>by rw [List.take_length]⟩
 show TU n (Cl c q pos pos.length lost n) c q pos pos.length lost (pB c pos) (cB c pos) near.length x8 x20 (v:Int) near.length (near.length:Int) (near.length:Int) l' near=_
 unfold TU;rw [zAP (by omega),zAR,zAM (Av.2 ⟨by omega,by omega⟩)]
end
def qj (c:AB)(q:AA)(pos lost:List Int)(x:Bool×List Int):Prop:=(x.1=true↔ON c q pos)/\ (x.1=true -> Ch pos lost (MW c q pos) x.2)
theorem yZ (W:Ej c q pos): ∀ (k v:Nat) (o1:List Int),v+k=pos.length -> (∀ u,u<v -> (cB c pos).getD u false=true -> 2<=CT q.nbrs (pB c pos) u/\ CT q.nbrs (cB c pos) u<=2) -> Ch pos lost (fun a s=>FI c q pos a s∨∃ u,u<v/\ a8 c q pos u a s) o1 ->
 Af (fun n=>Cl c q pos pos.length lost n (.l1 (pB c pos) (cB c pos) (pos.length:Int) (v:Int) o1)) (qj c q pos lost):=by
 have F8:=W.l1;have Fi:=W.gl;have lp:(pB c pos).length=pos.length:=Fb;have lc:(cB c pos).length=pos.length:=Ez;intro k
 induction k with
 | zero=>
  intro v o1 e Bu hL;have e:v=pos.length:=by omega
  subst e;refine Ev.p (r:=(true,o1)) ⟨1,fun n hn=>?_⟩ ⟨⟨fun _ v hv hc=>Bu v hv hc,fun _=>rfl⟩,fun _=>hL⟩;obtain ⟨n,rfl⟩: ∃ k,n=k+1:=⟨n-1,by omega⟩
  show TX n (Cl c q pos pos.length lost n) c q pos pos.length lost (pB c pos) (cB c pos) (pos.length:Int) (pos.length:Int) o1=_
  unfold TX;rw [zAP (by omega),zAR]
 | succ k ih=>
  intro v o1 e Bu hL;have hv:v<pos.length:=by omega
  have r1:AJ ((v:Int)+1):=Av.2 ⟨by omega,by omega⟩
  have U: ∀ n,Cl c q pos pos.length lost (n+1) (.l1 (pB c pos) (cB c pos) (pos.length:Int) (v:Int) o1)=bif (cB c pos).getD v false then Cl c q pos pos.length lost n (Nd (pB c pos) (cB c pos) (pos.length:Int) (v:Int) (nb q.nbrs v) o1 [] 0 0) else Cl c q pos pos.length lost n (.l1 (pB c pos) (cB c pos) (pos.length:Int) ((v:Int)+1) o1):=fun n=>by
   show TX n (Cl c q pos pos.length lost n) c q pos pos.length lost (pB c pos) (cB c pos) (pos.length:Int) (v:Int) o1=_
   unfold TX;rw [zAU (by omega),zAV,zAM ⟨by omega,by omega⟩,zAT,zAM r1,zAM ⟨by omega,by omega⟩];cases (cB c pos).getD v false <;> rfl
  cases hc:(cB c pos).getD v false
  ·refine Af.step 1 (fun n=>?_) (ih (v+1) o1 (by omega) (fun u hu Tv=>?_) (hL.id' fun a s _ _=>?_))
   ·rw [U,hc,zAR];rfl
   ·rcases zAl.1 hu with hu | rfl
    ·exact Bu u hu Tv
    ·rw [hc] at Tv;cases Tv
   ·constructor
    ·rintro (h | ⟨u,hu,h⟩)
     ·exact .inl h
     ·rcases zAl.1 hu with hu | rfl
      ·exact .inr ⟨u,hu,h⟩
      ·rw [h.1] at hc;cases hc
    ·rintro (h | ⟨u,hu,h⟩)
     ·exact .inl h
     ·exact .inr ⟨u,by omega,h⟩
  ·have LH:=W.g.gr.row (v:Int) (by omega) (by omega)
   have QZ: ∀ u∈nb q.nbrs (v:Int),0<=u/\ u<(pos.length:Int):=fun u hu=>by
    have:=W.g.gr.rng (v:Int) (by omega) (by omega) u hu;omega
   have A:=fun n=>lM (c:=c) (q:=q) (lost:=lost) (o1:=o1) (x20:=(pos.length:Int)) (x21:=(v:Int)) lp lc QZ LH (nb q.nbrs v).length 0 n [] 0 (by omega) (by simp) ⟨zCn _,by omega⟩
   rw [zGN,k8,lR,zDE,Int.zero_add] at A;have dP:CT q.nbrs (pB c pos) v=((nb q.nbrs v).filter fun x=>(pB c pos).getD x.toNat false).length:=List.countP_eq_length_filter;have dC:CT q.nbrs (cB c pos) v=(nb q.nbrs v).countP fun x=>(cB c pos).getD x.toNat false:=rfl
   rw [←dC] at A
   generalize Tz:((nb q.nbrs v).filter fun x=>(pB c pos).getD x.toNat false)=near at A dP
   have D8: ∀ u,u∈near↔u∈nb q.nbrs v/\ (pB c pos).getD u.toNat false=true:=fun u=>by rw [←Tz,zGj]
   have J6:near.length<=256:=by
    have:=List.length_filter_le (fun x=>(pB c pos).getD x.toNat false) (nb q.nbrs v);rw [Tz] at this;omega
   have Xd: ∀ u∈near,0<=u/\ u<(pos.length:Int):=fun u hu=>QZ u ((D8 u).1 hu).1
   have U2: ∀ n,Cl c q pos pos.length lost (n+((nb q.nbrs v).length+1)) (.l1 (pB c pos) (cB c pos) (pos.length:Int) (v:Int) o1)=Cl c q pos pos.length lost n (Nd (pB c pos) (cB c pos) (pos.length:Int) (v:Int) (nb q.nbrs v) o1 near (CT q.nbrs (cB c pos) v:Int) ((nb q.nbrs v).length:Int)):=fun n=>by
    rw [←zCg,U,hc,zAV];exact A n
   refine Af.step _ U2 ?_
   by_cases nl:CT q.nbrs (pB c pos) v<2∨2<CT q.nbrs (cB c pos) v
   ·have Gn: ¬ ON c q pos:=fun h=>by have:=h v hv hc;omega
    refine Ev.p (r:=(false,o1)) ⟨1,fun n hn=>?_⟩ ⟨⟨fun h=>(by cases h),fun h=>absurd h Gn⟩,fun h=>(by cases h)⟩;obtain ⟨n,rfl⟩: ∃ k,n=k+1:=⟨n-1,by omega⟩;cases near with
    | nil=>
     show TV n (Cl c q pos pos.length lost n) c q pos pos.length lost (pB c pos) (cB c pos) (CT q.nbrs (cB c pos) v:Int) (pos.length:Int) (v:Int) (nb q.nbrs v) ((nb q.nbrs v).length:Int) ((nb q.nbrs v).length:Int) o1=_
     unfold TV;rw [zAP (by omega),zAR]
    | cons a l=>
     show OM n (Cl c q pos pos.length lost n) c q pos pos.length lost (pB c pos) (cB c pos) (a::l).length (CT q.nbrs (cB c pos) v:Int) (pos.length:Int) (v:Int) (nb q.nbrs v) ((nb q.nbrs v).length:Int) ((nb q.nbrs v).length:Int) o1 (a::l)=_
     unfold OM;rw [zAP (by omega),zAR]
     by_cases h2:(((a::l).length:Nat):Int)<2
     ·rw [zAU h2,zAV]
     ·rw [zAP h2,zAR,zAU (by omega),zAV]
   ·have Ad:near≠[]:=by
     intro h;rw [h,zC5] at dP;omega
    obtain ⟨l',e4,Xs⟩:=qP (c:=c) (q:=q) (lost:=lost) (o1:=o1) (near:=near) (x20:=(pos.length:Int)) (x8:=(CT q.nbrs (cB c pos) v:Int)) (n:=0) W hL Xd J6 hv;have e5: ∀ n,∃ l',Cl c q pos pos.length lost (n+1+near.length) (.l4 (pB c pos) (cB c pos) near.length (CT q.nbrs (cB c pos) v:Int) (pos.length:Int) (v:Int) near.length (near.length:Int) 0 o1 near)=Cl c q pos pos.length lost n (.l1 (pB c pos) (cB c pos) (pos.length:Int) ((v:Int)+1) l')/\ _:=fun n=>qP (c:=c) (q:=q) (lost:=lost) (o1:=o1) (near:=near) (x20:=(pos.length:Int)) (x8:=(CT q.nbrs (cB c pos) v:Int)) (n:=n) W hL Xd J6 hv
    have IH:=ih (v+1) l' (by omega) (fun u hu Tv=>by
     rcases zAl.1 hu with hu | rfl
     ·exact Bu u hu Tv
     ·omega) (Xs.id' fun a s _ _=>by
     constructor
     ·rintro (h | ⟨u,hu,h⟩)
      ·exact .inl (.inl h)
      ·rcases zAl.1 hu with hu | rfl
       ·exact .inl (.inr ⟨u,hu,h⟩)
       ·obtain ⟨h1,h2,h3,h4⟩:=h;refine .inr ⟨(D8 _).2 ⟨h2,by rw [zAT];exact h3⟩,?_⟩;rcases h4 with ⟨h4,h5⟩ | ⟨h4,h5⟩
        ·exact .inl ⟨by omega,h5⟩
        ·exact .inr ⟨by omega,h5⟩
     ·rintro ((h | ⟨u,hu,h⟩) | ⟨h1,h2⟩)
      ·exact .inl h
      ·exact .inr ⟨u,by omega,h⟩
      ·obtain ⟨h3,h4⟩:=(D8 _).1 h1;rw [zAT] at h4;refine .inr ⟨v,by omega,hc,h3,h4,?_⟩;rcases h2 with ⟨h2,h5⟩ | ⟨h2,h5⟩
       ·exact .inl ⟨by omega,h5⟩
       ·exact .inr ⟨by omega,h5⟩)
    refine Af.step (1+near.length+1) (g:=fun n=>Cl c q pos pos.length lost n (.l1 (pB c pos) (cB c pos) (pos.length:Int) ((v:Int)+1) l')) (fun n=>?_) IH;obtain ⟨l2,e6,hL6⟩:=e5 n;have:l2=l':=hL6.unique Xs;subst this;rw [iU Ad,show n+(1+near.length+1)=n+1+near.length+1 by omega,←e6]
    show OM (n+1+near.length) (Cl c q pos pos.length lost (n+1+near.length)) c q pos pos.length lost (pB c pos) (cB c pos) near.length (CT q.nbrs (cB c pos) v:Int) (pos.length:Int) (v:Int) (nb q.nbrs v) ((nb q.nbrs v).length:Int) ((nb q.nbrs v).length:Int) o1 near=_
    unfold OM;rw [zAP (by omega),zAR,zAP (by omega),zAR,zAP (by omega),zAR]
theorem ya (W:Ej c q pos)(hL:Ch pos lost (fun _ _=>False) lost):Af (fun n=>Wt n c q pos pos.length lost) (qj c q pos lost):=by
 have F8:=W.l1;obtain ⟨r,_,hF⟩:=Tn (l:=cB c pos) (by rw [Ez];exact F8);obtain ⟨l0,h1,h2⟩:=lA W hL hF;refine Af.bind h1 (b:=fun n y1=>Cl c q pos pos.length lost n (.l1 y1.1 y1.2.1 (y1.2.1.length:Int) 0 y1.2.2.2)) ?_;have:=yZ (q:=q) W pos.length 0 l0 (by omega) (fun u hu=>absurd hu (zAv u)) (h2.id' fun a s _ _=>⟨fun h=>h.elim id fun ⟨u,hu,_⟩=>absurd hu (zAv u),.inl⟩);refine this.eq fun n=>?_
 show Cl c q pos pos.length lost n (.l1 (pB c pos) (cB c pos) ((cB c pos).length:Int) 0 l0)=_
 rw [Ez];rfl
end
set_option maxRecDepth 100000
set_option maxHeartbeats 40000000
theorem uE:As (Aj Tryz.f105 6) [([0,1,2,3,4,5,6,7,8],9),([10],11)] [12] []:=by unfold As;kernel_rfl
theorem uF:As (Aj Tryz.f105 13) [] (List.range 13) [13]:=by unfold As;kernel_rfl
def EE:Bh:=fun i=>match i with
 | 6=>.ord [([0,1,2,3,4,5,6,7,8],9),([10],11)] [12] []
 | 13=>.ord [] (List.range 13) [13]
 | _=>.no
def zBs (q:AA)(pos:List Int):DH:=[oC (AN q),oC [.cst .nilFunc,.fn 132 0 (L1 []),.fn 133 0 (L1 []),.fn 134 0 (L1 []),.fn 135 0 (L1 []),.fn 136 0 (L1 []),.fn 137 0 (L1 []),.fn 138 0 (L1 []),.fn 139 0 (L1 []),.fn 140 0 (L1 [])],oI (List.replicate pos.length (0:Int))]
def LJ (q:AA)(pos:List Int)(i:Int):DH:=[oC (AN q),oC [.cst .nilFunc,.fn 132 0 (L1 []),.fn 133 0 (L1 []),.fn 134 0 (L1 []),.fn 135 0 (L1 []),.fn 136 0 (L1 []),.fn 137 0 (L1 []),.fn 138 0 (L1 []),.fn 139 0 (L1 []),.fn 140 0 (L1 [])],oI (List.replicate pos.length (0:Int)),oI (List.replicate pos.length (0:Int)),oC (Bp (q.cons.getD ((i).toNat) default)++AN q++[.ints pos,.msl 3 1 0 pos.length])]
def zBr (pos:List Int)(q:AA)(i:Int)(o2:List Int):DH:=[oI (List.replicate pos.length (0:Int)),oC (Bp (q.cons.getD ((i).toNat) default)++AN q++[.ints pos,.msl 2 1 0 pos.length]),oI o2]
def zBq (pos:List Int)(q:AA)(i:Int)(o2 o3:List Int):DH:=[oI (List.replicate pos.length (0:Int)),oC (Bp (q.cons.getD ((i).toNat) default)++AN q++[.ints pos,.msl 2 1 0 pos.length]),oI o2,oI o3]
inductive S0 where
 | l1 (o2:List Int)
 | l2 (x10:Nat) (Lq CJ:Int) (o2 o3:List Int)
def aP (n:Nat)(self:S0 -> Option ((List Int)))(q:AA)(i:Int)(pos:List Int)(o2:List Int):Option ((List Int)):= (Yk n pos).bind fun y1=> self (.l2 y1.length (y1.length:Int) 0 o2 y1)
def Sz (n:Nat)(self:S0 -> Option ((List Int)))(q:AA)(i:Int)(pos:List Int)(x10:Nat)(Lq CJ:Int)(o2 o3:List Int):Option ((List Int)):= bif (decide (CJ<Lq)) then if (0<=CJ/\ CJ<(x10:Int))/\ 0+((CJ).toNat)<o3.length/\ (0<=CJ/\ CJ<(pos.length:Int))/\ 0+((CJ).toNat)<o2.length/\ AJ (CJ+1) then self (.l2 x10 Lq (CJ+1) o2 (o3.set (0+((CJ).toNat)) (bits .andNot .i64 (o3.getD (0+((CJ).toNat)) 0) (o2.getD (0+((CJ).toNat)) 0)))) else none else if x10=o3.length then (Jz n o3).bind fun y1=> bif y1 then if pos.length=(List.replicate pos.length (0:Int)).length then some (List.replicate pos.length (0:Int)) else none else some o3 else none
def aQ (n:Nat)(self:S0 -> Option ((List Int)))(q:AA)(i:Int)(pos:List Int):Option ((List Int)):= if ((pos.length:Int):Int)=(pos.length:Int)/\ 0<=(pos.length:Int)/\ ((pos.length:Int):Int)<=1000000000000 then (Jz n pos).bind fun y1=> bif y1 then if pos.length=(List.replicate pos.length (0:Int)).length then some (List.replicate pos.length (0:Int)) else none else if 0<=i/\ i<(q.cons.length:Int) then bif (((q.cons.getD ((i).toNat) default).kind)==0) then none else bif (((q.cons.getD ((i).toNat) default).kind)==1) then (Q6 n (q.cons.getD ((i).toNat) default) q pos pos.length (List.replicate pos.length (0:Int))).bind fun y2=> bif (!y2.1) then if pos.length=(List.replicate pos.length (0:Int)).length then some (List.replicate pos.length (0:Int)) else none else self (.l1 y2.2) else bif (((q.cons.getD ((i).toNat) default).kind)==2) then (RA n (q.cons.getD ((i).toNat) default) q pos pos.length (List.replicate pos.length (0:Int))).bind fun y2=> bif (!y2.1) then if pos.length=(List.replicate pos.length (0:Int)).length then some (List.replicate pos.length (0:Int)) else none else self (.l1 y2.2) else bif (((q.cons.getD ((i).toNat) default).kind)==3) then (Pj n (q.cons.getD ((i).toNat) default) q pos pos.length (List.replicate pos.length (0:Int))).bind fun y2=> bif (!y2.1) then if pos.length=(List.replicate pos.length (0:Int)).length then some (List.replicate pos.length (0:Int)) else none else self (.l1 y2.2) else bif (((q.cons.getD ((i).toNat) default).kind)==4) then (ME n (q.cons.getD ((i).toNat) default) q pos pos.length (List.replicate pos.length (0:Int))).bind fun y2=> bif (!y2.1) then if pos.length=(List.replicate pos.length (0:Int)).length then some (List.replicate pos.length (0:Int)) else none else self (.l1 y2.2) else bif (((q.cons.getD ((i).toNat) default).kind)==5) then (Pq n (q.cons.getD ((i).toNat) default) q pos pos.length (List.replicate pos.length (0:Int))).bind fun y2=> bif (!y2.1) then if pos.length=(List.replicate pos.length (0:Int)).length then some (List.replicate pos.length (0:Int)) else none else self (.l1 y2.2) else bif (((q.cons.getD ((i).toNat) default).kind)==6) then (PQ n (q.cons.getD ((i).toNat) default) q pos pos.length (List.replicate pos.length (0:Int))).bind fun y2=> bif (!y2.1) then if pos.length=(List.replicate pos.length (0:Int)).length then some (List.replicate pos.length (0:Int)) else none else self (.l1 y2.2) else bif (((q.cons.getD ((i).toNat) default).kind)==7) then (OG n (q.cons.getD ((i).toNat) default) q pos pos.length (List.replicate pos.length (0:Int))).bind fun y2=> bif (!y2.1) then if pos.length=(List.replicate pos.length (0:Int)).length then some (List.replicate pos.length (0:Int)) else none else self (.l1 y2.2) else bif (((q.cons.getD ((i).toNat) default).kind)==8) then (Ye n (q.cons.getD ((i).toNat) default) q pos pos.length (List.replicate pos.length (0:Int))).bind fun y2=> bif (!y2.1) then if pos.length=(List.replicate pos.length (0:Int)).length then some (List.replicate pos.length (0:Int)) else none else self (.l1 y2.2) else bif (((q.cons.getD ((i).toNat) default).kind)==9) then (Wt n (q.cons.getD ((i).toNat) default) q pos pos.length (List.replicate pos.length (0:Int))).bind fun y2=> bif (!y2.1) then if pos.length=(List.replicate pos.length (0:Int)).length then some (List.replicate pos.length (0:Int)) else none else self (.l1 y2.2) else none else none else none
def Iu (q:AA)(i:Int)(pos:List Int):Nat -> S0 -> Option ((List Int))
 | 0,_=>none
 | n+1,.l1 o2=>aP n (Iu q i pos n) q i pos o2
 | n+1,.l2 x10 Lq CJ o2 o3=>Sz n (Iu q i pos n) q i pos x10 Lq CJ o2 o3
def Jm (n:Nat)(q:AA)(i:Int)(pos:List Int):Option ((List Int)):=aQ n (Iu q i pos n) q i pos
def wb (n B:Nat)(N:Yd 0)(q:AA)(i:Int)(pos:List Int)(r:(List Int)):S0 -> Prop
 | .l1 o2=>TW B N (FQ Tryz.f105 0 (.ints r) []) (Co (AX Tryz.f105) 9 []) ⟨AG 69 [(2,.ints pos),(8,.msl 0 1 0 pos.length),(9,.ref 1 0)],[oI (List.replicate pos.length (0:Int)),oC (Bp (q.cons.getD ((i).toNat) default)++AN q++[.ints pos,.msl 2 1 0 pos.length]),oI o2]⟩
 | .l2 x10 Lq CJ o2 o3=>∀ m0:Nat,n<=m0 -> TW B N (FQ Tryz.f105 0 (.ints r) []) (A4 m0 (BB (AX Tryz.f105) 0 [])) ⟨AG 69 [(8,.msl 0 1 0 pos.length),(9,.ref 1 0),(10,.msl 3 1 0 x10),(47,.i Lq),(48,.i CJ)],[oI (List.replicate pos.length (0:Int)),oC (Bp (q.cons.getD ((i).toNat) default)++AN q++[.ints pos,.msl 2 1 0 pos.length]),oI o2,oI o3]⟩
theorem wc (B:Nat)(N:Yd 0)(q:AA)(i:Int)(pos:List Int):Al (Iu q i pos) (wb · B N q i pos):=ia (fun _=>rfl) fun n AI pt r h=>by
 cases pt
 case l1 o2=>
  revert r;apply gO;exact cn fun y1 A7=>jc (ES.snapNew (ds:=[.ints pos]) (zE7 A7) (zBr pos q i o2) (fF (by kernel_rfl)) rfl) (lN EE [0,1,2,3] (AI _ _ · n Nat.le.refl))
 case l2 x10 Lq CJ o2 o3=>
  intro m0 AD;refine rd AD fun m0 AD=>?_
  revert r;apply gO;exact bi 49 (jg uF (gc (gn fun g0=>jg g0 (gc (gn fun g1=>jg g1 (gc (gi (gc (gi (jg g0 (jg g1 (gw 64 (lG (AV 9 EE) [0,1,2,3] (AI _ _ · m0 AD)))))))))))))) (gn fun g0=>cn fun y1 A7=>jc (sb [.msl 3 1 0 x10] (OW A7) (zBq pos q i o2 o3) ⟨Ae.ints rfl g0,trivial⟩) (bi 66 (gn fun g1=>lF fun p=>ez (AV 9 EE) [6] [0] p [0] (H0.g g1)) (lF fun p=>ez (AV 9 EE) [6] [3] p [0] (H0.g g0))))
theorem wa {n:Nat}{q:AA}{i:Int}{pos:List Int}{r:(List Int)}(h:Jm n q i pos=some r):EQ 105 [.agg 5 (L1 (AN q)),.i i,.ints pos] [] (.ints r) [] true:=by
 have AI:=fun B N=>(wc B N q i pos n)
 refine ot Tryz.func105 fun B N=>?_
 revert r;apply gO;exact jt (gn fun g0=>jg g0 (cf OW (zBs q pos) fun _=>bi 18 (gn fun g1=>lF fun p=>ez (AV 9 EE) [6] [2] p [0] (H0.g g1)) (jg uE (gi (jg g0 (bn (fun c1=>nO) (fun c1=>bn (fun c3=>jo 36 (AS.int (k:=.i64) (eq_of_beq c3)) (jg (by decide:(0:Int)<=1/\ 1<((10:Nat):Int)) (ce zEK [4,3] (LJ q pos i) fun _=>bi 42 (gn fun g2=>lF fun p=>ez (AV 9 EE) [6] [2] p [0] (H0.g g2)) (lG (AV 9 EE) [2,4,3] ((AI B N) _ _ ·))))) (fun c3=>bn (fun c5=>jo 36 (AS.int (k:=.i64) (eq_of_beq c5)) (jg (by decide:(0:Int)<=2/\ 2<((10:Nat):Int)) (ce zEe [4,3] (LJ q pos i) fun _=>bi 42 (gn fun g2=>lF fun p=>ez (AV 9 EE) [6] [2] p [0] (H0.g g2)) (lG (AV 9 EE) [2,4,3] ((AI B N) _ _ ·))))) (fun c5=>bn (fun c7=>jo 36 (AS.int (k:=.i64) (eq_of_beq c7)) (jg (by decide:(0:Int)<=3/\ 3<((10:Nat):Int)) (ce rt [4,3] (LJ q pos i) fun _=>bi 42 (gn fun g2=>lF fun p=>ez (AV 9 EE) [6] [2] p [0] (H0.g g2)) (lG (AV 9 EE) [2,4,3] ((AI B N) _ _ ·))))) (fun c7=>bn (fun c9=>jo 36 (AS.int (k:=.i64) (eq_of_beq c9)) (jg (by decide:(0:Int)<=4/\ 4<((10:Nat):Int)) (ce vg [4,3] (LJ q pos i) fun _=>bi 42 (gn fun g2=>lF fun p=>ez (AV 9 EE) [6] [2] p [0] (H0.g g2)) (lG (AV 9 EE) [2,4,3] ((AI B N) _ _ ·))))) (fun c9=>bn (fun p5=>jo 36 (AS.int (k:=.i64) (eq_of_beq p5)) (jg (by decide:(0:Int)<=5/\ 5<((10:Nat):Int)) (ce u7 [4,3] (LJ q pos i) fun _=>bi 42 (gn fun g2=>lF fun p=>ez (AV 9 EE) [6] [2] p [0] (H0.g g2)) (lG (AV 9 EE) [2,4,3] ((AI B N) _ _ ·))))) (fun p5=>bn (fun pz=>jo 36 (AS.int (k:=.i64) (eq_of_beq pz)) (jg (by decide:(0:Int)<=6/\ 6<((10:Nat):Int)) (ce zFv [4,3] (LJ q pos i) fun _=>bi 42 (gn fun g2=>lF fun p=>ez (AV 9 EE) [6] [2] p [0] (H0.g g2)) (lG (AV 9 EE) [2,4,3] ((AI B N) _ _ ·))))) (fun pz=>bn (fun py=>jo 36 (AS.int (k:=.i64) (eq_of_beq py)) (jg (by decide:(0:Int)<=7/\ 7<((10:Nat):Int)) (ce xf [4,3] (LJ q pos i) fun _=>bi 42 (gn fun g2=>lF fun p=>ez (AV 9 EE) [6] [2] p [0] (H0.g g2)) (lG (AV 9 EE) [2,4,3] ((AI B N) _ _ ·))))) (fun py=>bn (fun px=>jo 36 (AS.int (k:=.i64) (eq_of_beq px)) (jg (by decide:(0:Int)<=8/\ 8<((10:Nat):Int)) (ce zEt [4,3] (LJ q pos i) fun _=>bi 42 (gn fun g2=>lF fun p=>ez (AV 9 EE) [6] [2] p [0] (H0.g g2)) (lG (AV 9 EE) [2,4,3] ((AI B N) _ _ ·))))) (fun px=>bn (fun pw=>jo 36 (AS.int (k:=.i64) (eq_of_beq pw)) (jg (by decide:(0:Int)<=9/\ 9<((10:Nat):Int)) (ce yc [4,3] (LJ q pos i) fun _=>bi 42 (gn fun g2=>lF fun p=>ez (AV 9 EE) [6] [2] p [0] (H0.g g2)) (lG (AV 9 EE) [2,4,3] ((AI B N) _ _ ·))))) (fun pw=>nO))))))))))))))))
def kJ (n:Nat)(q:AA)(i:Int)(pos:List Int):Option ((List Int)×Int):= (RE n q i pos).bind fun y1=> bif (y1 != 0) then some (([]:List Int),y1) else (Jm n q i pos).bind fun y2=> some (y2,0)
def P4 (n:Nat)(q:AA)(i:Int)(pos:List Int):Option ((List Int)×Int):=kJ n q i pos
theorem wi {n:Nat}{q:AA}{i:Int}{pos:List Int}{r:(List Int)×Int}(h:P4 n q i pos=some r):EQ 82 [.agg 5 (L1 (AN q)),.i i,.ints pos] [] (.tup 2 (L1 [.ints r.1,.i r.2])) [] true:=by
 unfold P4 kJ at h;refine ot Tryz.func82 fun B N=>?_
 revert r;apply gO;exact cf zFB [oC (AN q)] fun y1=>bi 14 (lF fun p=>el AC [6,7] [] p [] H0 [.nils,.i y1] (AS.tupL (l:=[.nils,.i y1]) (l':=[.ints ([]:List Int),.i y1]) rfl ⟨AS.ints_nil,A3,trivial⟩)) (cf wa [oC (AN q)] fun _=>lE AC [6,7] [])
end Go.Proofs.YtkjbblkieglmlaaGreatDoor
namespace Go.Proofs.YtkjbblkieglmlaaGreatDoor
open Go.RowKit
def C7 (pos:List Int):Bool:=pos.any (· ==0)
theorem JH {pos:List Int}:C7 pos=false↔∀ j,j<pos.length -> pos.getD j 0≠0:=by
 unfold C7;rw [List.any_eq_false];constructor
 ·intro h j hj e;refine h (pos.getD j 0) ?_ (by rw [e];rfl);rw [u8,zAa hj];exact zBD hj
 ·intro h x hx;obtain ⟨j,hj,rfl⟩:=zDD hx;have:=h j hj;rw [u8,zAa hj] at this;simpa using this
theorem pU {pos:List Int}{n:Nat}(hl:pos.length<=LB)(hn:pos.length<n):Ui n pos=some (C7 pos):=by
 have hb:LB<=9223372036854775806:=by decide
 have key: ∀ (k i n:Nat),i+k=pos.length -> k+1<=n -> Q9 pos n (.l1 (i:Int))=some ((pos.drop i).any (· ==0)):=by
  intro k
  induction k with
  | zero=>
   intro i n e hn;obtain ⟨n,rfl⟩: ∃ k,n=k+1:=⟨n-1,by omega⟩
   show Uh n (Q9 pos n) pos (i:Int)=_
   unfold Uh;rw [zAP (by omega),zAR,zDG (by omega)];rfl
  | succ k ih=>
   intro i n e hn;obtain ⟨n,rfl⟩: ∃ k,n=k+1:=⟨n-1,by omega⟩;have hi:i<pos.length:=by omega
   have e2:pos.drop i=pos.getD i 0::pos.drop (i+1):=by
    rw [zCJ hi,u8,zAa hi];rfl
   have:=ih (i+1) n (by omega) (by omega)
   show Uh n (Q9 pos n) pos (i:Int)=_
   unfold Uh;rw [zAU (by omega),zAV,zAM ⟨by omega,by omega⟩,zAM (Av.2 ⟨by omega,by omega⟩),zAT,e2,List.any_cons];cases h:(pos.getD i 0==0)
   ·rw [zAR,zGD];exact this
   ·rfl
 have:=key pos.length 0 n (by omega) (by omega);unfold Ui pT;exact this
theorem Tg {pos:List Int}{n:Nat}(hl:pos.length<=LB)(hn:pos.length<n):Jz n pos=some (C7 pos):=by
 unfold Jz bY;rw [pU hl hn];rfl
def posOk (q:AA)(pos:List Int):Bool:=((pos.length:Int)==q.cells)&&pos.all fun x=>decide (0<=x)&&decide (x<2 ^ q.symbols.toNat)
def N7 (q:AA)(pos:List Int):Int:=if B8 q then (if posOk q pos then 0 else 250) else 191
section
variable {q:AA} {i:Int} {pos:List Int} {n:Nat}
theorem aX (hF:EN q)(hn:FV q<=n)(hl:pos.length<=LB)(F1:pos.length<n):N8 n q pos=some (N7 q pos):=by
 have hb:LB<=9223372036854775806:=by decide
 unfold N8 kP N7;rw [VO hF hn,zAS];cases hv:B8 q with
 | false=>rfl
 | true=>
  obtain ⟨_,hs,_⟩:=ED hv;obtain ⟨p1,p2,p3⟩:=kL hs.1 hs.2
  show (bif ((pos.length:Int) != q.cells) then some 250 else N6 q pos n (.l1 0))=some (if posOk q pos=true then 0 else 250)
  unfold posOk
  by_cases Ak:(pos.length:Int)=q.cells
  ·have h1:((pos.length:Int) != q.cells)=false:=by simpa using Ak
   have h2:((pos.length:Int)==q.cells)=true:=by simpa using Ak
   rw [h1,zAR,h2,zCZ]
   have key: ∀ (k i n:Nat),i+k=pos.length -> k+1<=n -> N6 q pos n (.l1 (i:Int))=some (if ((pos.drop i).all fun x=>decide (0<=x)&&decide (x<2 ^ q.symbols.toNat))=true then 0 else 250):=by
    intro k
    induction k with
    | zero=>
     intro i n e hn;obtain ⟨n,rfl⟩: ∃ k,n=k+1:=⟨n-1,by omega⟩
     show S8 n (N6 q pos n) q pos (i:Int)=_
     unfold S8;rw [zAP (by omega),zAR,zDG (by omega)];rfl
    | succ k ih=>
     intro i n e hn;obtain ⟨n,rfl⟩: ∃ k,n=k+1:=⟨n-1,by omega⟩;have hi:i<pos.length:=by omega
     have e2:pos.drop i=pos.getD i 0::pos.drop (i+1):=by
      rw [zCJ hi,u8,zAa hi];rfl
     have:=ih (i+1) n (by omega) (by omega)
     show S8 n (N6 q pos n) q pos (i:Int)=_
     unfold S8;rw [zAU (by omega),zAV,zAM ⟨by omega,by omega⟩,zAM p3,zAM (Av.2 ⟨by omega,by omega⟩),zAT,e2,zGp,p1]
     by_cases c1:pos.getD i 0<0
     ·rw [zAU c1,zAV,zAP (p:=0<=pos.getD i 0) (by omega)];rfl
     ·rw [zAP c1,zAR,zAU (p:=0<=pos.getD i 0) (by omega),zCZ]
      by_cases c2:pos.getD i 0>=2 ^ q.symbols.toNat
      ·rw [zAU c2,zAV,zAP (p:=pos.getD i 0<2 ^ q.symbols.toNat) (by omega)];rfl
      ·rw [zAP c2,zAR,zAU (p:=pos.getD i 0<2 ^ q.symbols.toNat) (by omega),zCZ];exact this
   exact key pos.length 0 n (by omega) (by omega)
  ·have h1:((pos.length:Int) != q.cells)=true:=by simpa using Ak
   have h2:((pos.length:Int)==q.cells)=false:=by simpa using Ak
   rw [h1,zAV,h2,zGF];rfl
def HZ (q:AA)(i:Int)(pos:List Int):Int:=if (Jv q i).2=0 then N7 q pos else (Jv q i).2
theorem zFC (hF:EN q)(hn:FV q<=n)(hl:pos.length<=LB)(F1:pos.length<n):RE n q i pos=some (HZ q i pos):=by
 unfold RE eJ HZ;rw [yn hF hn,zAS,aX hF hn hl F1,zAS]
 by_cases h:(Jv q i).2=0
 ·have:((Jv q i).2 != 0)=false:=by simpa using h
  rw [this,zAM h];rfl
 ·have:((Jv q i).2 != 0)=true:=by simpa using h
  rw [this,zAh h];rfl
structure Bm (q:AA)(i:Int)(pos:List Int):Prop where
 fit:EN q
 valid:B8 q=true
 i0:0<=i
 i1:i<(q.cons.length:Int)
 pos:posOk q pos=true
def con (q:AA)(i:Int):AB:=q.cons.getD i.toNat default
theorem Bm.of (hF:EN q)(h:HZ q i pos=0):Bm q i pos:=by
 unfold HZ Jv N7 at h
 by_cases hv:B8 q=false
 ·rw [zAM hv] at h;rw [zAh (by decide)] at h;exact absurd h (by decide)
 ·rw [zAh hv] at h;have hv:B8 q=true:=by simpa using hv
  by_cases hi:0<=i/\ i<(q.cons.length:Int)
  ·rw [zAM hi,zAM rfl,zAM hv] at h
   by_cases hp:posOk q pos=true
   ·exact ⟨hF,hv,hi.1,hi.2,hp⟩
   ·rw [zAh hp] at h;exact absurd h (by decide)
  ·rw [zAh hi,zAh (by decide)] at h;exact absurd h (by decide)
theorem Bm.check (C:Bm q i pos):HZ q i pos=0:=by
 have h1:Jv q i=(bK ((q.cons.getD i.toNat default).kind),0):=by
  unfold Jv;rw [zAh (by rw [C.valid];exact fun h=>by cases h),zAM ⟨C.i0,C.i1⟩]
 unfold HZ N7;rw [h1,zAM rfl,zAM C.valid,zAM C.pos]
theorem Bm.mem (C:Bm q i pos):con q i∈q.cons:=by
 have h:=C.i0;have h1:=C.i1;unfold con;rw [u8,zAa (by omega)];exact zBD _
theorem Bm.fine (C:Bm q i pos):FH q (con q i)=true:=(ED C.valid).2.2.2.2.2 _ C.mem
theorem Bm.kind (C:Bm q i pos):GT q.cells (con q i).kind (con q i).cells.length=true:=mD C.fine
theorem Bm.len (C:Bm q i pos):(pos.length:Int)=q.cells:=by
 have h:=C.pos;unfold posOk at h;rw [zAW,zBA] at h;exact h.1
theorem Bm.sm (C:Bm q i pos): ∀ j,j<pos.length -> Sm q.symbols.toNat (pos.getD j 0):=by
 intro j hj;have h:=C.pos;unfold posOk at h;rw [zAW,zAg] at h;have hm:pos.getD j 0∈pos:=by rw [u8,zAa hj];exact zBD hj
 have:=h.2 _ hm;rw [zAW,zAi,zAi] at this;exact this
theorem Bm.len256 (C:Bm q i pos):0<pos.length/\ pos.length<=256:=by
 have h:=(ED C.valid).1;have:=C.len;omega
theorem Bm.cells (C:Bm q i pos):(∀ x∈(con q i).cells,0<=x/\ x<q.cells)/\ (con q i).cells.Nodup/\ (8<=(con q i).kind -> ∀ j,j<(con q i).cells.length -> (con q i).cells.getD j 0=(j:Int)):=by
 have h:=C.fine;unfold FH at h;simp only [zAW] at h;exact zFG.1 h.1.1.1.1.1
theorem Bm.work (C:Bm q i pos):B2 (con q i) q.symbols.toNat pos:=by
 obtain ⟨h1,h2,_⟩:=C.cells;have hl:=C.len;have h3:=(ED C.valid).1;have h4:=(ED C.valid).2.1;refine ⟨fun a ha=>?_,?_,C.sm,by omega⟩
 ·rw [hl];refine h1 _ ?_;rw [u8,zAa ha];exact zBD ha
 ·have:=ax pos.length _ h2 fun x hx=>by rw [hl];exact h1 x hx
  omega
theorem Bm.vals (C:Bm q i pos):EA q q.symbols.toNat:=by
 obtain ⟨_,h2,⟨h3,h4⟩,_⟩:=ED C.valid;rw [VJ] at h4;refine ⟨by omega,fun s hs=>h4 _ ?_⟩;rw [u8,zAa (by omega)];exact zBD _
theorem Bm.runs (C:Bm q i pos):Ie (con q i):=by
 have h:=C.fine;unfold FH at h;simp only [zAW,zAi] at h;have h2:=VJ.1 h.2;refine ⟨by have:=h.1.2;omega,fun j hj=>(h2 _ ?_).2⟩;rw [u8,zAa hj];exact zBD hj
theorem Bm.two (C:Bm q i pos)(hk:(con q i).kind=6∨(con q i).kind=7):(con q i).cells.length=2:=by
 have h:=C.kind;unfold GT at h;rcases hk with hk | hk <;> rw [hk] at h <;> simpa using h
theorem Bm.all (C:Bm q i pos)(hk:(con q i).kind=8∨(con q i).kind=9)(hd:C7 pos=false):Ej (con q i) q pos:=by
 have h:=C.kind;have hl:=C.len;have Mv:=C.len256
 have h1:((con q i).cells.length:Int)=q.cells:=by
  unfold GT at h;rcases hk with hk | hk <;> rw [hk] at h <;> simpa using h
 obtain ⟨_,_,_,⟨h5,h6⟩,_⟩:=ED C.valid;exact ⟨by omega,fun j hj=>C.cells.2.2 (by omega) j (by omega),⟨h6,C.fit.nbrs⟩,by omega,Mv.1,Mv.2,fun j hj=>⟨(C.sm j hj).in64 (zA0 C.work.k (by decide)),JH.1 hd j hj⟩⟩
end
def Cg (q:AA)(c:AB)(pos:List Int):Prop:= (c.kind=2 -> La c pos=true)/\ (c.kind=3 -> Km q c pos=true)/\ (c.kind=5 -> Jd c=true)/\ (c.kind=9 -> ON c q pos)
def Be (q:AA)(c:AB)(pos:List Int)(a s:Nat):Prop:= (c.kind=1/\ PA c pos a s)∨(c.kind=2/\ Ib c pos a s=true)∨(c.kind=3/\ H9 q c pos a s=true)∨(c.kind=4/\ Hl q c pos a s=true)∨(c.kind=5/\ Iq c pos a s)∨ (c.kind=6/\ GO (Hp q c) c pos a s)∨(c.kind=7/\ GO (HD c) c pos a s)∨(c.kind=8/\ Hz c q pos a s)∨(c.kind=9/\ MW c q pos a s)
def KP (q:AA)(c:AB)(pos:List Int)(r:Bool×List Int):Prop:=(r.1=true↔Cg q c pos)/\ (r.1=true -> CF c pos (List.replicate pos.length 0) c.cells.length (Be q c pos) r.2)
def LC (q:AA)(c:AB)(pos:List Int)(j s:Nat):Prop:=∃ a,a<c.cells.length/\ (c.cells.getD a 0).toNat=j/\ Be q c pos a s
structure Gy (q:AA)(c:AB)(pos:List Int):Prop where
 nz: ∀ j,j<pos.length -> pos.getD j 0≠0
 ok:Cg q c pos
 left: ∀ j,j<pos.length -> ∃ s,s<64/\ tb (pos.getD j 0) s=true/\ ¬ LC q c pos j s
structure PR (q:AA)(c:AB)(pos x:List Int):Prop where
 len:x.length=pos.length
 live:Gy q c pos -> ∀ j,j<pos.length -> CC (x.getD j 0)/\ ∀ s,tb (x.getD j 0) s=true↔tb (pos.getD j 0) s=true/\ ¬ LC q c pos j s
 dead: ¬ Gy q c pos -> x=List.replicate pos.length 0
theorem PR.uniq {q:AA}{c:AB}{pos:List Int}(x y:List Int)(h:PR q c pos x)(h':PR q c pos y):x=y:=by
 by_cases hA:Gy q c pos
 ·have e:x.length=y.length:=h.len.trans h'.len.symm;refine zGe e fun j h1 h2=>?_
  have hj:j<pos.length:=by rw [←h.len];exact h1
  have e1:x.getD j 0=x[j]:=by simp [h1]
  have e2:y.getD j 0=y[j]:=by simp [h2]
  rw [←e1,←e2];refine Na (h.live hA j hj).1 (h'.live hA j hj).1 fun s _=>?_
  rw [zDF,(h.live hA j hj).2,(h'.live hA j hj).2]
 ·rw [h.dead hA,h'.dead hA]
section
variable {q:AA} {i:Int} {pos:List Int}
theorem Lm:(List.replicate pos.length (0:Int)).length=pos.length:=zAw
theorem PY (j:Nat):(List.replicate pos.length (0:Int)).getD j 0=0:=by
 rw [u8,zCx];split <;> rfl
theorem Y6: ∀ j,CC ((List.replicate pos.length (0:Int)).getD j 0):=fun j=>by rw [PY];exact ⟨by decide,by decide⟩
theorem fR:Ch pos (List.replicate pos.length 0) (fun _ _=>False) (List.replicate pos.length 0):=⟨⟨Lm,Y6⟩,fun j s=>by simp⟩
theorem CF.congr {c:AB}{lost l:List Int}{D D':Nat -> Nat -> Prop}{m:Nat}(h:CF c pos lost m D l)(hD: ∀ a s,D' a s↔D a s):CF c pos lost m D' l:=by
 refine ⟨h.1,fun j s=>?_⟩;rw [h.2];simp only [hD]
def ID (n:Nat)(q:AA)(c:AB)(pos:List Int):Option (Bool×List Int):= bif c.kind==1 then Q6 n c q pos pos.length (List.replicate pos.length 0) else bif c.kind==2 then RA n c q pos pos.length (List.replicate pos.length 0) else bif c.kind==3 then Pj n c q pos pos.length (List.replicate pos.length 0) else bif c.kind==4 then ME n c q pos pos.length (List.replicate pos.length 0) else bif c.kind==5 then Pq n c q pos pos.length (List.replicate pos.length 0) else bif c.kind==6 then PQ n c q pos pos.length (List.replicate pos.length 0) else bif c.kind==7 then OG n c q pos pos.length (List.replicate pos.length 0) else bif c.kind==8 then Ye n c q pos pos.length (List.replicate pos.length 0) else bif c.kind==9 then Wt n c q pos pos.length (List.replicate pos.length 0) else none
theorem vS (C:Bm q i pos)(hd:C7 pos=false):Af (fun n=>ID n q (con q i) pos) (KP q (con q i) pos):=by
 have W:=C.work;have hz:(List.replicate pos.length (0:Int)).length=pos.length:=Lm
 have all: ∀ k:Int,(con q i).kind=k -> ∀ {f:Nat -> Option (Bool×List Int)} {N:Nat} {ok:Bool} {D:Nat -> Nat -> Prop},(∀ n,N<=n -> ∃ l,f n=some (ok,l)/\ (ok=true -> CF (con q i) pos (List.replicate pos.length 0) (con q i).cells.length D l)) -> (ok=true↔Cg q (con q i) pos) -> (∀ a s,Be q (con q i) pos a s↔D a s) -> Af f (KP q (con q i) pos):=by
  intro k _ f N ok D h Bu hD;refine ⟨N,fun n hn=>?_⟩;obtain ⟨l,h1,h2⟩:=h n hn;exact ⟨(ok,l),h1,Bu,fun h3=>(h2 h3).congr hD⟩
 have kc:=OS (OR C.kind);have II: ∀ {k:Int},(con q i).kind=k -> k≠2 -> k≠3 -> k≠5 -> k≠9 -> Cg q (con q i) pos:=fun hk h2 h3 h5 h9=>⟨fun h=>absurd (hk.symm.trans h) h2,fun h=>absurd (hk.symm.trans h) h3,fun h=>absurd (hk.symm.trans h) h5,fun h=>absurd (hk.symm.trans h) h9⟩
 rcases kc with hk | hk | hk | hk | hk | hk | hk | hk | hk
 ·refine Af.eq (all 1 hk (f:=fun n=>Q6 n (con q i) q pos pos.length (List.replicate pos.length 0)) (N:=2*(con q i).cells.length+2) (ok:=true) (D:=PA (con q i) pos) (fun n hn=>?_) ⟨fun _=>II hk (by decide) (by decide) (by decide) (by decide),fun _=>rfl⟩ fun a s=>?_) fun n=>?_
  ·obtain ⟨l,h1,h2⟩:=zEH (q:=q) W hz hn;exact ⟨l,h1,fun _=>h2⟩
  ·unfold Be;rw [hk];simp
  ·unfold ID;rw [hk];rfl
 ·refine Af.eq (all 2 hk (f:=fun n=>RA n (con q i) q pos pos.length (List.replicate pos.length 0)) (N:=2*(con q i).cells.length+3) (ok:=La (con q i) pos) (D:=fun a s=>Ib (con q i) pos a s=true) (fun n hn=>?_) ⟨fun h=>⟨fun _=>h,fun h=>absurd (hk.symm.trans h) (by decide),fun h=>absurd (hk.symm.trans h) (by decide),fun h=>absurd (hk.symm.trans h) (by decide)⟩,fun h=>h.1 hk⟩ fun a s=>?_) fun n=>?_
  ·exact zEb (q:=q) W hz hn
  ·unfold Be;rw [hk];simp
  ·unfold ID;rw [hk];rfl
 ·refine Af.eq (all 3 hk (f:=fun n=>Pj n (con q i) q pos pos.length (List.replicate pos.length 0)) (N:=2*(con q i).cells.length+3) (ok:=Km q (con q i) pos) (D:=fun a s=>H9 q (con q i) pos a s=true) (fun n hn=>?_) ⟨fun h=>⟨fun h=>absurd (hk.symm.trans h) (by decide),fun _=>h,fun h=>absurd (hk.symm.trans h) (by decide),fun h=>absurd (hk.symm.trans h) (by decide)⟩,fun h=>h.2.1 hk⟩ fun a s=>?_) fun n=>?_
  ·exact rj W C.vals hz hn
  ·unfold Be;rw [hk];simp
  ·unfold ID;rw [hk];rfl
 ·refine Af.eq (all 4 hk (f:=fun n=>ME n (con q i) q pos pos.length (List.replicate pos.length 0)) (N:=2*(con q i).cells.length+3) (ok:=true) (D:=fun a s=>Hl q (con q i) pos a s=true) (fun n hn=>?_) ⟨fun _=>II hk (by decide) (by decide) (by decide) (by decide),fun _=>rfl⟩ fun a s=>?_) fun n=>?_
  ·obtain ⟨l,h1,h2⟩:=vb W C.vals hz hn;exact ⟨l,h1,fun _=>h2⟩
  ·unfold Be;rw [hk];simp
  ·unfold ID;rw [hk];rfl
 ·obtain ⟨l,⟨N,h1⟩,h2⟩:=u6 (q:=q) W C.runs hz Y6;refine Af.eq (all 5 hk (N:=N) (ok:=Jd (con q i)) (D:=Iq (con q i) pos) (fun n hn=>⟨l,h1 n hn,h2⟩) ⟨fun h=>⟨fun h=>absurd (hk.symm.trans h) (by decide),fun h=>absurd (hk.symm.trans h) (by decide),fun _=>h,fun h=>absurd (hk.symm.trans h) (by decide)⟩,fun h=>h.2.2.1 hk⟩ fun a s=>?_) fun n=>?_
  ·unfold Be;rw [hk];simp
  ·unfold ID;rw [hk];rfl
 ·refine Af.eq (all 6 hk (f:=fun n=>PQ n (con q i) q pos pos.length (List.replicate pos.length 0)) (N:=0) (ok:=true) (D:=GO (Hp q (con q i)) (con q i) pos) (fun n hn=>?_) ⟨fun _=>II hk (by decide) (by decide) (by decide) (by decide),fun _=>rfl⟩ fun a s=>?_) fun n=>?_
  ·obtain ⟨l,h1,h2⟩:=zFu (n:=n) W C.vals (C.two (.inl hk)) hz;exact ⟨l,h1,fun _=>h2⟩
  ·unfold Be;rw [hk];simp
  ·unfold ID;rw [hk];rfl
 ·refine Af.eq (all 7 hk (f:=fun n=>OG n (con q i) q pos pos.length (List.replicate pos.length 0)) (N:=0) (ok:=true) (D:=GO (HD (con q i)) (con q i) pos) (fun n hn=>?_) ⟨fun _=>II hk (by decide) (by decide) (by decide) (by decide),fun _=>rfl⟩ fun a s=>?_) fun n=>?_
  ·obtain ⟨l,h1,h2⟩:=xe (n:=n) (q:=q) W (C.two (.inr hk)) hz;exact ⟨l,h1,fun _=>h2⟩
  ·unfold Be;rw [hk];simp
  ·unfold ID;rw [hk];rfl
 ·obtain ⟨l,⟨N,h1⟩,h2⟩:=zEs (C.all (.inl hk) hd) fR;refine Af.eq (all 8 hk (N:=N) (ok:=true) (D:=Hz (con q i) q pos) (fun n hn=>⟨l,h1 n hn,fun _=>h2.by (C.all (.inl hk) hd)⟩) ⟨fun _=>II hk (by decide) (by decide) (by decide) (by decide),fun _=>rfl⟩ fun a s=>?_) fun n=>?_
  ·unfold Be;rw [hk];simp
  ·unfold ID;rw [hk];rfl
 ·refine Af.eq ((ya (C.all (.inr hk) hd) fR).mono fun r hr=>⟨?_,fun h=>((hr.2 h).by (C.all (.inr hk) hd)).congr fun a s=>?_⟩) fun n=>?_
  ·rw [hr.1];exact ⟨fun h=>⟨fun h=>absurd (hk.symm.trans h) (by decide),fun h=>absurd (hk.symm.trans h) (by decide),fun h=>absurd (hk.symm.trans h) (by decide),fun _=>h⟩,fun h=>h.2.2.2 hk⟩
  ·unfold Be;rw [hk];simp
  ·unfold ID;rw [hk];rfl
theorem rW {n:Nat}{o2:List Int}(hl:o2.length=pos.length)(Mv:pos.length<=256)(hn:600<=n):
 ∃ x,x.length=pos.length/\ (∀ j,j<pos.length -> x.getD j 0=bits .andNot .i64 (pos.getD j 0) (o2.getD j 0))/\ Iu q i pos n (.l2 pos.length (pos.length:Int) 0 o2 pos)=some (if C7 x then List.replicate pos.length 0 else x):=by
 have lb:(256:Nat)<=LB:=by decide
 obtain ⟨n1,x,F2,_,e,hx,LE,Oa⟩:=Hr (fun n (o3:List Int) k=>Iu q i pos n (.l2 pos.length (pos.length:Int) k o2 o3)) pos.length 260
  (fun k o3=>o3.length=pos.length/\ (∀ j,j<k -> o3.getD j 0=bits .andNot .i64 (pos.getD j 0) (o2.getD j 0))/\ ∀ j,k<=j -> o3.getD j 0=pos.getD j 0) (fun n k o3 HM hk hI=>by
   obtain ⟨h1,h2,h3⟩:=hI
   show ∃ s',Sz n (Iu q i pos n) q i pos pos.length (pos.length:Int) (k:Int) o2 o3=_/\ _
   unfold Sz;simp only [zAT,zA8];rw [zAU (by omega),zAV,zAM ⟨⟨by omega,by omega⟩,by omega,⟨by omega,by omega⟩,by omega,Av.2 ⟨by omega,by omega⟩⟩];refine ⟨_,rfl,by rw [zBB];exact h1,fun j hj=>?_,fun j hj=>?_⟩
   ·by_cases e:k=j
    ·subst e;rw [KM (by omega),h3 k (by omega)]
    ·rw [getD_set_ne e];exact h2 j (by omega)
   ·rw [getD_set_ne (by omega)];exact h3 j (by omega)) (n:=n) (s:=pos) (by omega) ⟨rfl,fun j hj=>absurd hj (zAv j),fun j _=>rfl⟩
 obtain ⟨n2,rfl⟩: ∃ n2,n1=n2+1:=⟨n1-1,by omega⟩;refine ⟨x,hx,LE,Eq.trans e ?_⟩
 show Sz n2 (Iu q i pos n2) q i pos pos.length (pos.length:Int) (pos.length:Int) o2 x=_
 unfold Sz;rw [zAP (by omega),zAR,zAM hx.symm,Tg (by omega) (by omega),zAS];cases C7 x
 ·rfl
 ·rw [zAV,zAM Lm.symm];rfl
def Il (n:Nat)(q:AA)(i:Int)(pos:List Int)(y2:Bool×List Int):Option (List Int):= bif (!y2.1) then (if pos.length=(List.replicate pos.length (0:Int)).length then some (List.replicate pos.length (0:Int)) else none) else Iu q i pos n (.l1 y2.2)
theorem rX (C:Bm q i pos)(hd:C7 pos=false){n:Nat}(hn:601<=n){y2:Bool×List Int}(hy:KP q (con q i) pos y2): ∃ x,Il n q i pos y2=some x/\ PR q (con q i) pos x:=by
 have Mv:=C.len256;have L:(1000000000000:Nat)=BA:=rfl;have nz:=JH.1 hd;obtain ⟨b,lost⟩:=y2;obtain ⟨Bu,Xg⟩:=hy;unfold Il;cases b with
 | false=>
  refine ⟨_,by rw [zC0,zAV,zAM Lm.symm],Lm,fun hA=>?_,fun _=>rfl⟩;have:=Bu.2 hA.ok;cases this
 | true=>
  have Bu:=Bu.1 rfl;have Xg:CF (con q i) pos (List.replicate pos.length 0) (con q i).cells.length (Be q (con q i) pos) lost:=Xg rfl;obtain ⟨n,rfl⟩: ∃ k,n=k+1:=⟨n-1,by omega⟩;obtain ⟨x,h1,h2,h3⟩:=rW (q:=q) (i:=i) (n:=n) Xg.1 Mv.2 (by omega)
  have hx: ∀ j,j<pos.length -> CC (x.getD j 0)/\ ∀ s,tb (x.getD j 0) s=true↔tb (pos.getD j 0) s=true/\ ¬ LC q (con q i) pos j s:=fun j hj=>by
   rw [h2 j hj];refine ⟨GC _ _ _,fun s=>?_⟩;rw [Ki,zAW,zCw,←zHF,Xg.2,PY];constructor
   ·rintro ⟨h4,h5⟩;refine ⟨h4,fun ⟨a,ha,e,hs⟩=>h5 (.inr ⟨a,ha,e,?_,hs⟩)⟩
    show tb (pos.getD ((con q i).cells.getD a 0).toNat 0) s=true
    rw [e];exact h4
   ·rintro ⟨h4,h5⟩;refine ⟨h4,fun h6=>h6.elim (fun h=>G5 h) fun ⟨a,ha,e,_,hs⟩=>h5 ⟨a,ha,e,hs⟩⟩
  have Az:Yk n pos=some pos:=by
   unfold Yk pc;rw [zAM ⟨Mv.1,trivial,⟨rfl,rfl⟩,by rw [←L];simp only [zC5];omega⟩,zAM (by simp)];rfl
  have e:Iu q i pos (n+1) (.l1 lost)=some (if C7 x then List.replicate pos.length 0 else x):=by
   show aP n (Iu q i pos n) q i pos lost=_
   unfold aP;rw [Az,zAS];exact h3
  refine ⟨_,by rw [zCs,zAR];exact e,?_,fun hA j hj=>?_,fun hA=>?_⟩
  ·split
   ·exact Lm
   ·exact h1
  ·rw [zAh]
   ·exact hx j hj
   ·rw [zHF,JH];intro j hj;rw [h1] at hj;obtain ⟨s,hs,h4,h5⟩:=hA.left j hj;exact (FU (hx j hj).1).2 ⟨s,hs,((hx j hj).2 s).2 ⟨h4,h5⟩⟩
  ·rw [zAM];refine Classical.byContradiction fun h=>hA ?_
   rw [zHF,JH] at h;refine ⟨nz,Bu,fun j hj=>?_⟩;obtain ⟨s,hs,h4⟩:=(FU (hx j hj).1).1 (h j (by omega));exact ⟨s,hs,((hx j hj).2 s).1 h4⟩
theorem wZ (C:Bm q i pos): ∃ x,Ev (fun n=>Jm n q i pos) x/\ PR q (con q i) pos x:=by
 have Mv:=C.len256;have lb:(256:Nat)<=LB:=by decide
 have hi:0<=i/\ i<(q.cons.length:Int):=⟨C.i0,C.i1⟩;cases hd:C7 pos
 ·suffices H:Af (fun n=>Jm n q i pos) (PR q (con q i) pos) by
   obtain ⟨x,h1,h2⟩:=H.ev PR.uniq;exact ⟨x,h2,h1⟩
  obtain ⟨N,hN⟩:=Af.bindU (vS C hd) (b:=fun n y2=>Il n q i pos y2) (Q:=PR q (con q i) pos) ⟨601,fun n hn y2 hy=>rX C hd hn hy⟩;refine ⟨N+300,fun n hn=>?_⟩;obtain ⟨x,h1,h2⟩:=hN n (by omega);refine ⟨x,Eq.trans ?_ h1,h2⟩
  show Jm n q i pos=(ID n q (con q i) pos).bind fun y2=>Il n q i pos y2
  unfold Jm aQ;rw [zAM ⟨rfl,by omega,by omega⟩,Tg (by omega) (by omega),hd,zAS,zAR,zAM hi];have hc:q.cons.getD i.toNat default=con q i:=rfl;rw [hc];have kc:=OS (OR C.kind);unfold ID;rcases kc with hk | hk | hk | hk | hk | hk | hk | hk | hk <;> rw [hk] <;> rfl
 ·refine ⟨List.replicate pos.length 0,⟨300,fun n hn=>?_⟩,Lm,fun hA=>?_,fun _=>rfl⟩
  ·show Jm n q i pos=_
   unfold Jm aQ;rw [zAM ⟨rfl,by omega,by omega⟩,Tg (by omega) (by omega),hd,zAS,zAV,zAM Lm.symm]
  ·have:=JH.2 hA.nz;rw [hd] at this;cases this
def PrP (q:AA)(i:Int)(pos:List Int)(r:List Int×Int):Prop:=r.2=HZ q i pos/\ (r.2=0 -> PR q (con q i) pos r.1)/\ (r.2≠0 -> r.1= [])
theorem kG (hF:EN q)(hl:pos.length<=LB): ∃ r,Ev (fun n=>P4 n q i pos) r/\ PrP q i pos r:=by
 have hE:Ev (fun n=>RE n q i pos) (HZ q i pos):=⟨FV q+pos.length+1,fun n hn=>zFC hF (by omega) hl (by omega)⟩
 by_cases h0:HZ q i pos=0
 ·obtain ⟨x,h1,h2⟩:=wZ (Bm.of hF h0);refine ⟨(x,0),?_,h0.symm,fun _=>h2,fun h=>absurd rfl h⟩;refine Ev.eq (Ev.bind hE (b:=fun n y1=>bif (y1 != 0) then some (([]:List Int),y1) else (Jm n q i pos).bind fun y2=>some (y2,0)) ?_) fun n=>rfl
  rw [h0];exact Ev.bind h1 (b:=fun _ y2=>some (y2,0)) (Ev.now fun n=>rfl)
 ·refine ⟨([],HZ q i pos),?_,rfl,fun h=>absurd h h0,fun _=>rfl⟩;refine Ev.eq (Ev.bind hE (b:=fun n y1=>bif (y1 != 0) then some (([]:List Int),y1) else (Jm n q i pos).bind fun y2=>some (y2,0)) (Ev.now fun n=>?_)) fun n=>rfl
  have:(HZ q i pos != 0)=true:=by simpa using h0
  rw [this];rfl
end
set_option maxRecDepth 100000
set_option maxHeartbeats 40000000
def zF5 (n:Nat)(s_:Int):Option Unit:= some ()
def zF6 (n:Nat)(s_:Int):Option Unit:=zF5 n s_
theorem zF4 {n:Nat}(s_:Int){r:Unit}(h:zF6 n s_=some r):EQ 107 [.int .u64 s_] [] (.fn 142 1 (L1 [.ref 0 0])) [oC [.int .u64 s_]] true:=by
 refine ot Tryz.func107 fun B N=>?_
 revert r;apply gO;exact lE AC [2] [0]
inductive RQ where
 | l1 (x3:Int)
def Lg (n:Nat)(self:RQ -> Option (List Int))(s_:Int)(x3:Int):Option (List Int):= if 0<=x3/\ x3<=(IntKind.u64.bits:Int) then bif ((s_/2 ^ (x3).toNat) != 0) then bif (decide (x3<64)) then bif ((bits .and .u64 (s_/2 ^ (x3).toNat) 1)==1) then if 0<=x3/\ x3<=(IntKind.u64.bits:Int) then bif ((bits .and .u64 (s_/2 ^ (x3).toNat) 1)==1) then Option.map (fun l=>x3::l) (if AJ (x3+1) then self (.l1 (x3+1)) else none) else if AJ (x3+1) then self (.l1 (x3+1)) else none else none else if AJ (x3+1) then self (.l1 (x3+1)) else none else some [] else some [] else none
def qb (n:Nat)(self:RQ -> Option (List Int))(s_:Int):Option (List Int):= self (.l1 0)
def Ha (s_:Int):Nat -> RQ -> Option (List Int)
 | 0,_=>none
 | n+1,.l1 x3=>Lg n (Ha s_ n) s_ x3
def Lh (n:Nat)(s_:Int):Option (List Int):=qb n (Ha s_ n) s_
def fJ (C:Ba Tryz.prog)(n:Nat)(s_:Int)(r:List Int):RQ -> Prop
 | .l1 x3=>∀ m0:Nat,n<=m0 -> ∀ i:Nat,i<=C.encs.length -> C.encs.drop i=r.map BP -> Ap Tryz.prog GG Fence.wide none 1 (C.Y GG 1 i) (C.Q GG 1) (A4 m0 (BB (AX Tryz.f142) 0 [])) ⟨AG 25 [(0,.yl C.l),(1,.ref 0 0),(3,.i x3)],[oC [.int .u64 s_]]⟩
theorem zF7 (C:Ba Tryz.prog)(n:Nat)(self:RQ -> Option (List Int))(s_:Int)(AI: ∀ pt r,self pt=some r -> fJ C n s_ r pt)(x3:Int)(r:List Int)(h:Lg n self s_ x3=some r):fJ C (n+1) s_ r (.l1 x3):=by
 intro m0 AD;intro i hi hd;refine rd AD fun m0 AD=>?_
 unfold Lg at h;obtain ⟨g0,h⟩:=B0 h;have p:=H0.g g0;rcases By h with ⟨c0,h⟩ | ⟨c0,h⟩
 ·have p:=p.b 7 c0;rcases By h with ⟨c1,h⟩ | ⟨c1,h⟩
  ·have p:=p.b 10 c1 |>.g g0
   rcases By h with ⟨c2,h⟩ | ⟨c2,h⟩
   ·have p:=H0.g g0 |>.b 7 c0 |>.b 10 c1
    refine gs (AV 3 AC) [0] p (Co (AX Tryz.f142) 3 [m0]) (AG 25 [(0,.yl C.l),(1,.ref 0 0),(3,.i x3)]) [oC [.int .u64 s_]] ?_;obtain ⟨g1,h⟩:=B0 h;have p:=H0.g g1;rcases By h with ⟨c0,h⟩ | ⟨c0,h⟩
    ·have p:=p.b 18 c0;obtain ⟨r,h2,rfl⟩:=K5 h;clear h;have h:=h2;clear h2;obtain ⟨hx,hi,hd⟩:=Uc hd;refine Ap.y (ops:=Aj Tryz.f142 3) HC.x 8 [0,1,3,24] [0] p (x:=BP x3) (AG 25 [(0,.yl C.l),(1,.ref 0 0),(3,.i x3),(24,.bool false)]) [oC [.int .u64 s_]] (AG 25 [(0,.yl C.l),(1,.ref 0 0),(3,.i x3),(24,.bool true)]) [oC [.int .u64 s_]] (by kernel_rfl) (by kernel_rfl) (by kernel_rfl) hx (by kernel_rfl) ?_ ?_
     ·generalize i+1=i at hi hd ⊢
      obtain ⟨g2,h⟩:=B0 h;have p:=H0.w 13 g2;exact gg AC [0] p (AI _ _ h m0 AD i hi hd)
     ·exact TrI.e HC.x AC 6 H0 (by kernel_rfl) (.inr rfl)
    ·obtain ⟨g2,h⟩:=B0 h;have p:=p.b 18 c0 |>.w 13 g2
     exact gg AC [0] p (AI _ _ h m0 AD i hi hd)
   ·obtain ⟨g1,h⟩:=B0 h;have p:=p.b 18 c2 |>.w 13 g1
    exact gg AC [0] p (AI _ _ h m0 AD i hi hd)
  ·have p:=p.b 10 c1;cases h;exact TrI.e HC.x AC 10 p (by kernel_rfl) (.inl (by rw [O9 hi hd]))
 ·have p:=p.b 7 c0;cases h;exact TrI.e HC.x AC 10 p (by kernel_rfl) (.inl (by rw [O9 hi hd]))
theorem qc (C:Ba Tryz.prog)(s_:Int): ∀ (n:Nat) (pt:RQ) (r:List Int),Ha s_ n pt=some r -> fJ C n s_ r pt
 | 0,_,_,h=>by cases h
 | n+1,.l1 x3,r,h=>zF7 C n (Ha s_ n) s_ (qc C s_ n) x3 r h
theorem zF8 {n:Nat}(s_:Int){r:List Int}(h:Lh n s_=some r)(C:Ba Tryz.prog)(hC:C.encs=r.map BP):Ap Tryz.prog GG Fence.wide none 1 (C.Y GG 1 0) (C.Q GG 1) [.code (AX Tryz.f142)] ⟨AG 25 [(0,.yl C.l),(1,.ref 0 0)],[oC [.int .u64 s_]]⟩:=by
 suffices H: ∀ i:Nat,i<=C.encs.length -> C.encs.drop i=r.map BP -> Ap Tryz.prog GG Fence.wide none 1 (C.Y GG 1 i) (C.Q GG 1) [.code (AX Tryz.f142)] ⟨AG 25 [(0,.yl C.l),(1,.ref 0 0)],[oC [.int .u64 s_]]⟩ from H 0 (zDJ _) (by rw [zGN];exact hC)
 intro i hi hd;have AI:=qc C s_ n;unfold Lh at h
 generalize Ha s_ n=self at h AI
 unfold qb at h;have p:=H0;exact gg AC [0] p (en n (AI _ _ h n Nat.le.refl i hi hd))
theorem fH {n:Nat}{s_:Int}{r:List Int}(h:Lh n s_=some r)(H:DH):EQ 107 [.int .u64 s_] H (.it H.length) (H++[some (.iter (r.map BP))]) true:=by
 refine ES.iterN (c:=L1 [.ref 0 0]) (h0:=[oC [.int .u64 s_]]) (fn:=Tryz.f142) (zF4 (n:=0) s_ (r:=()) rfl) (by kernel_rfl) Tryz.func142 (by kernel_rfl) (by kernel_rfl) (by kernel_rfl) (fun C hC=>?_) H;have e:DV.yl C.l::(List.range 1).map (L1 [.ref 0 0])++List.replicate (Tryz.f142.ntmps-(1+1)) .any=AG 25 [(0,.yl C.l),(1,.ref 0 0)]:=by kernel_rfl
 rw [e];exact zF8 s_ h C hC
inductive L2 where
 | s0 (Ji:Int)
def iz:L2 -> DH
 | .s0 Ji=>[oC [.i Ji],none]
def SJ (n:Nat)(e5:Int)(Ji:Int):Option L2:= if AJ (Ji+1) then some (.s0 (Ji+1)) else none
def tH (n:Nat)(e5:Int):L2 -> Option L2
 | .s0 Ji=>SJ n e5 Ji
def Vn (n:Nat)(e5:Int)(s:L2):Option L2:=tH n e5 s
theorem tG (n:Nat)(l B:Nat)(N:Yd 2)(e5:Int)(s:L2)(r:L2)(h:Vn n e5 s=some r):TA l B N (Cp 2 [] 0 (iz r)) Tryz.f85 5 ⟨AG 10 [(2,.ref 0 0),(5,.it 1),(6,.i e5)],iz s⟩:=by
 cases s with
 | s0 Ji=>
  replace h:SJ n e5 Ji=some r:=h;unfold SJ at h;refine ag AC [0,1] H0 (AG 10 [(2,.ref 0 0)]) [oC [.i Ji],none] fun N=>?_
  revert r;apply gO;exact gw 8 (jt (lF fun p=>rr AC [0,1] rfl p))
def Vm (n:Nat)(s_:Int):Option Int:=
 (Lh n (IntKind.u64.wrap s_)).bind fun y1=>
  (Bq (Vn n) y1 (.s0 0)).bind fun y2=>
   match y2 with
   | .s0 EO=>
    some EO
def SK (n:Nat)(s_:Int):Option Int:=Vm n s_
theorem iy {n:Nat}{s_:Int}{r:Int}(h:SK n s_=some r):EQ 85 [.i s_] [] (.i r) [] true:=by
 unfold SK Vm at h;refine ot Tryz.func85 fun B N=>?_
 revert r;apply gO
 exact cn fun y1 A7=>jc (fH A7 [oC [.i 0]]) (cn fun y2 B6=>fun p r h=>by
  refine gs AC [0,1] p (GD (AX Tryz.f85) 5 []) (AG 10 [(2,.ref 0 0),(5,.it 1)]) [oC [.i 0],some (.iter ((y1).map BP))] ?_;refine r0 1 5 #[6] BP 2 B6 (tG n) ?_;cases y2 with
  | s0 EO=>
   dsimp only at h
   revert r;apply gO;exact jt (lE AC [2] [0]))
end Go.Proofs.YtkjbblkieglmlaaGreatDoor
namespace Go.Proofs.YtkjbblkieglmlaaGreatDoor
open Go.RowKit
def CR (x:Int)(i:Nat):List Nat:=(List.range' i (16-i)).filter fun s=>tb x s
theorem jA {x:Int}{i:Nat}(h:i<16):CR x i=if tb x i then i::CR x (i+1) else CR x (i+1):=by
 unfold CR;rw [show 16-i=(16-(i+1))+1 by omega,zHE,List.filter_cons]
theorem OJ {x:Int}{s:Nat}:s∈CR x 0↔s<16/\ tb x s=true:=by
 unfold CR;rw [zGj,zHb];simp
theorem zFU (a:Int):bits .and .u64 a 1=bits .and .i64 a 1:=by
 show IntKind.u64.wrap ((BitVec.ofInt 64 a&&& BitVec.ofInt 64 1).toNat:Int)=IntKind.i64.wrap ((BitVec.ofInt 64 a&&& BitVec.ofInt 64 1).toNat:Int)
 have h:(BitVec.ofInt 64 a&&& BitVec.ofInt 64 1).toNat<=1:=by
  rw [BitVec.toNat_and];exact Nat.and_le_right
 generalize (BitVec.ofInt 64 a&&& BitVec.ofInt 64 1).toNat=m at h
 rw [IntKind.wrap_u64,zHl];omega
section
variable {x:Int}
theorem i6 (h:Sm 16 x){i:Nat}(h0:x/2 ^ i=0):CR x i= []:=by
 have AM:x<2 ^ i:=by
  have hp:(0:Int)<2 ^ i:=Int.pow_pos (by decide);have:=Int.mul_ediv_add_emod x (2 ^ i);have hm:=Int.emod_lt_of_pos x hp;rw [h0] at this;simp at this;omega
 unfold CR;rw [zHa];intro s hs ht;rw [zHb] at hs;have:tb x s=false:=Sm.hi (k:=i) ⟨h.1,AM⟩ hs.1;rw [this] at ht;cases ht
theorem fI (h:Sm 16 x): ∀ (k i:Nat),i+k=16 -> Ev (fun n=>Ha x n (.l1 (i:Int))) ((CR x i).map fun (s:Nat)=>(s:Int))
 | 0,i,e=>by
  have h0:x/2 ^ i=0:=by
   rw [show i=16 by omega];exact Int.ediv_eq_zero_of_lt h.1 h.2
  refine Ev.one fun n=>?_
  show Lg n (Ha x n) x (i:Int)=_
  unfold Lg;rw [zAM ⟨by omega,by show (i:Int)<=((64:Nat):Int);omega⟩,zAT,h0,i6 h h0];rfl
 | k+1,i,e=>by
  have ih:=fI h k (i+1) (by omega);have r1:AJ ((i:Int)+1):=Av.2 ⟨by omega,by omega⟩;have g:(0:Int)<=(i:Int)/\ (i:Int)<=(IntKind.u64.bits:Int):=⟨by omega,by show (i:Int)<=((64:Nat):Int);omega⟩
  by_cases h0:x/2 ^ i=0
  ·refine Ev.one fun n=>?_
   show Lg n (Ha x n) x (i:Int)=_
   unfold Lg;rw [zAM g,zAT,h0,i6 h h0];rfl
  ·have step: ∀ n,Ha x (n+1) (.l1 (i:Int))=bif tb x i then (Ha x n (.l1 ((i+1:Nat):Int))).map (fun l=>(i:Int)::l) else Ha x n (.l1 ((i+1:Nat):Int)):=fun n=>by
    show Lg n (Ha x n) x (i:Int)=_
    unfold Lg;rw [zAM g,zAT,zC8.2 h0,zAV,zAU (by omega),zAV,zFU,Zk h (by decide) (by omega),zAM r1,show ((i+1:Nat):Int)=(i:Int)+1 by omega];cases tb x i
    ·rfl
    ·rw [zAV,zAV,zAM g]
   rw [jA (by omega)];obtain ⟨N,ih⟩:=ih;refine ⟨N+1,fun n hn=>?_⟩;obtain ⟨n,rfl⟩: ∃ k,n=k+1:=⟨n-1,by omega⟩
   show Ha x (n+1) (.l1 (i:Int))=_
   rw [step n,show Ha x n (.l1 ((i+1:Nat):Int))=_ from ih n (by omega)];cases tb x i <;> rfl
theorem ix {n:Nat}: ∀ (l:List Int) (k:Nat),k+l.length<=64 -> Bq (Vn n) l (.s0 (k:Int))=some (.s0 ((k+l.length:Nat):Int))
 | [],k,_=>rfl
 | a::l,k,h=>by
  rw [zCU] at h
  show (SJ n a (k:Int)).bind _=_
  unfold SJ;rw [zAM (Av.2 ⟨by omega,by omega⟩),zAS,show (k:Int)+1=((k+1:Nat):Int) by omega,ix l (k+1) (by omega),zCU]
  congr 3
  omega
theorem tK:(CR x 0).length<=16:=by
 unfold CR;exact zA0 (List.length_filter_le _ _) (by simp)
theorem tF (h:Sm 16 x):Ev (fun n=>SK n x) ((CR x 0).length:Int):=by
 have e:IntKind.u64.wrap x=x:=by
  have h1:=h.1;have h2:x<65536:=h.2;rw [IntKind.wrap_u64];omega
 have hl:=tK (x:=x);refine Ev.eq (Ev.bind (fI h 16 0 (by omega)) (b:=fun n y1=>(Bq (Vn n) y1 (.s0 0)).bind fun y2=>match y2 with | .s0 y=>some y) (Ev.now fun n=>?_)) fun n=>?_
 ·have:=ix (n:=n) ((CR x 0).map fun (s:Nat)=>(s:Int)) 0 (by rw [zBC];omega);rw [zA8,zBC] at this;rw [show ((0:Nat):Int)=0 from rfl] at this;rw [this];rfl
 ·show Vm n x=_
  unfold Vm;rw [e];rfl
end
abbrev zHn:=@forall_eq_or_imp
structure OA (q:AA)(c:AB)(p:List Int):Prop where
 nz: ∀ k,k<c.cells.length -> Ab c p k≠0
 ok:Cg q c p
 left: ∀ k,k<c.cells.length -> ∃ s,tb (Ab c p k) s=true/\ ¬ Be q c p k s
theorem Uo {α:Type}{f g:α -> Bool}: ∀ (l:List α),(∀ x∈l,f x=true -> g x=true) -> l.countP f<=l.countP g
 | [],_=>zA5 _
 | x::l,h=>by
  have h1:=Uo l fun y hy=>h y (zCB _ hy)
  have h2:=h x zCX;rw [zGL,zGL];cases hf:f x
  ·simp only [zCe,zGQ];omega
  ·rw [h2 hf];simp only [zC9];omega
theorem PC {α:Type}{f g:α -> Bool}{a:α}(hf:f a=false)(hg:g a=true): ∀ (l:List α),(∀ x∈l,f x=true -> g x=true) -> a∈l -> l.countP f+1<=l.countP g
 | [],_,h=>by cases h
 | x::l,h,ha=>by
  rw [zGL,zGL];rcases zCD.1 ha with rfl | ha
  ·have h1:=Uo l fun y hy=>h y (zCB _ hy)
   rw [hf,hg,zAM rfl];simp only [zCe,zGQ];omega
  ·have h1:=PC hf hg l (fun y hy=>h y (zCB _ hy)) ha;have h2:=h x zCX;cases hx:f x
   ·simp only [zCe,zGQ];omega
   ·rw [h2 hx];simp only [zC9];omega
theorem pb {f g:Nat -> Bool}{m:Nat}(h: ∀ a,a<m -> f a=true -> g a=true):cnt f m<=cnt g m:=by
 unfold cnt;have:=Uo (f:=f) (g:=g) (List.range m) fun x hx=>h x (zAn.1 hx)
 omega
theorem pa {f g:Nat -> Bool}{m a:Nat}(h: ∀ a,a<m -> f a=true -> g a=true)(ha:a<m)(hf:f a=false)(hg:g a=true):cnt f m+1<=cnt g m:=by
 unfold cnt;have:=PC hf hg (List.range m) (fun x hx=>h x (zAn.1 hx)) (zAn.2 ha);omega
theorem i4 {k:Nat}{x:Int}(hx:Sm k x)(hk:k<=16)(h:L3 x=true){s t:Nat}(hs:tb x s=true)(ht:tb x t=true):s=t:=by
 have dL:=MK (k:=k) (zA0 hk (by decide));obtain ⟨m,rfl⟩:=zGa hx.1;have AM:m<18446744073709551616:=by have:=hx.2;omega
 have lo: ∀ {u:Nat},tb (m:Int) u=true -> u<64:=fun {u} hu=>zCd fun h=>by rw [JY h] at hu;cases hu
 have h0:m≠0:=by
  rintro rfl;exact G5 hs
 have e:m&&& (m-1)=0:=by
  unfold L3 at h;rw [zBA] at h;apply Nat.eq_of_testBit_eq;intro u;rw [Nat.zero_testBit,Nat.testBit_and];rcases zCV u 64 with hu | hu
  ·have h2:=(Lv (GC .and _ _)).1 h u hu;have e1:(m:Int)-1=((m-1:Nat):Int):=by omega
   rw [JZ,e1,Ik _ _ hu,Ik _ _ hu] at h2;exact h2
  ·rw [zHc (zAj AM (zG6 (n:=2) (by decide) hu)),zGF]
 have S:=iN m AM h0;rw [e,iM] at S
 have mem: ∀ {u:Nat},tb (m:Int) u=true -> u∈Er m:=fun {u} hu=>by
  unfold Er;rw [zGj,zAn];exact ⟨lo hu,by rw [←Ik m u (lo hu)];exact hu⟩
 have h1:=mem hs;have h2:=mem ht;rw [S,zA1] at h1 h2;rw [h1,h2]
section
variable {q:AA} {i:Int} {p p':List Int}
theorem bq {c:AB}{x:Int}(h:bits .andNot .i64 x c.set=0){s:Nat}(hs:tb x s=true):tb c.set s=true:=by
 have Hx:s<64:=zCd fun h=>by rw [JY h] at hs;cases hs
 have:=(Lv (GC .andNot _ _)).1 h s Hx;rw [Ki,hs,zCZ,Bool.not_eq_false'] at this;exact this
theorem fE {c:AB}{x x':Int}(h: ∀ s,tb x' s=true -> tb x s=true)(hx:bits .andNot .i64 x c.set=0):bits .andNot .i64 x' c.set=0:=
 (Lv (GC .andNot _ _)).2 fun s hs=>by
  rw [Ki];cases h1:tb x' s with
  | false=>rfl
  | true=>rw [bq hx (h s h1)];rfl
theorem fD {c:AB}{x x':Int}(h: ∀ s,tb x' s=true -> tb x s=true)(hx:bits .and .i64 x' c.set≠0):bits .and .i64 x c.set≠0:=by
 obtain ⟨s,hs,h1⟩:=(FU (GC .and _ _)).1 hx;rw [JZ,zAW] at h1;exact (FU (GC .and _ _)).2 ⟨s,hs,by rw [JZ,h s h1.1,h1.2];rfl⟩
theorem qX {c:AB}{x:Int}{s:Nat}(h1:tb x s=true)(h2:tb c.set s=true):bits .and .i64 x c.set≠0:=by
 have Hx:s<64:=zCd fun h=>by rw [JY h] at h1;cases h1
 exact (FU (GC .and _ _)).2 ⟨s,Hx,by rw [JZ,h1,h2];rfl⟩
theorem zF1 {c:AB}{x:Int}{s:Nat}(h1:tb x s=true)(h2:tb c.set s=false):bits .andNot .i64 x c.set≠0:=by
 have Hx:s<64:=zCd fun h=>by rw [JY h] at h1;cases h1
 exact (FU (GC .andNot _ _)).2 ⟨s,Hx,by rw [Ki,h1,h2];rfl⟩
def GZ (c:AB)(p' p:List Int):Prop:=∀ k,k<c.cells.length -> ∀ s,tb (Ab c p' k) s=true -> tb (Ab c p k) s=true
theorem zEI {c:AB}{k:Nat}(W:B2 c k p)(hS:GZ c p' p)(Ce: ∀ a,a<c.cells.length -> CC (Ab c p' a))(Qc: ∀ a,a<c.cells.length -> Ab c p' a≠0){a s:Nat}(h:PA c p a s):PA c p' a s:=by
 obtain ⟨b,hb,Ad,h1,h2⟩:=h;have hx:=W.at hb
 have e:Ab c p' b=Ab c p b:=by
  refine Na (Ce b hb) (hx.in64 (by have:=W.k;omega)) fun t _=>?_
  obtain ⟨u,_,hu⟩:=(FU (Ce b hb)).1 (Qc b hb);have hus:u=s:=i4 hx W.k h1 (hS b hb u hu) h2;subst hus;cases ht:tb (Ab c p b) t with
  | true=>
   have:t=u:=i4 hx W.k h1 ht h2;subst this;exact hu
  | false=>
   cases XT:tb (Ab c p' b) t with
   | false=>rfl
   | true=>rw [hS b hb t XT] at ht;cases ht
 refine ⟨b,hb,Ad,?_,?_⟩
 ·rw [e];exact h1
 ·rw [e];exact h2
theorem lO {c:AB}(hS:GZ c p' p){a:Nat}(ha:a<c.cells.length)(h:D7 c p a=true):D7 c p' a=true:=by
 unfold D7 at h ⊢;rw [zBA] at h ⊢;exact fE (hS a ha) h
theorem lT {c:AB}(hS:GZ c p' p)(Ce: ∀ a,a<c.cells.length -> CC (Ab c p' a))(Qc: ∀ a,a<c.cells.length -> Ab c p' a≠0){a:Nat}(ha:a<c.cells.length)(h:Ef c p' a=true):Ef c p a=true:=by
 unfold Ef at h ⊢;rw [zA9,zC8] at h ⊢;right;rcases h with h | h
 ·unfold D7 at h;rw [zBA] at h;obtain ⟨u,_,hu⟩:=(FU (Ce a ha)).1 (Qc a ha);exact qX (hS a ha u hu) (bq h hu)
 ·exact fD (hS a ha) h
theorem zEc {c:AB}(hS:GZ c p' p)(Ce: ∀ a,a<c.cells.length -> CC (Ab c p' a))(Qc: ∀ a,a<c.cells.length -> Ab c p' a≠0)(Bu:La c p'=true):
 La c p=true/\ ∀ a s,a<c.cells.length -> tb (Ab c p' a) s=true -> Ib c p a s=true -> Ib c p' a s=true:=by
 have m1:=pb (f:=D7 c p) (g:=D7 c p') (m:=c.cells.length) fun a ha=>lO hS ha
 have m2:=pb (f:=Ef c p') (g:=Ef c p) (m:=c.cells.length) fun a ha=>lT hS Ce Qc ha
 unfold La at Bu ⊢;rw [zAW,zCw,zCw,zC7,zC7] at Bu ⊢;refine ⟨⟨by omega,by omega⟩,fun a s ha hs h=>?_⟩;unfold Ib at h ⊢;rw [zA9,zAW,zAW,zAW,zAW,zBA,zBA,zC8,zC8,zCw] at h ⊢;rcases h with ⟨⟨h1,h2⟩,h3⟩ | ⟨⟨h1,h2⟩,h3⟩
 ·refine .inl ⟨⟨by omega,fun h4=>?_⟩,h3⟩;have:=pa (f:=D7 c p) (g:=D7 c p') (m:=c.cells.length) (a:=a) (fun a ha=>lO hS ha) ha (by unfold D7;exact zCK.2 h2) (by unfold D7;exact zBA.2 h4);omega
 ·refine .inr ⟨⟨by omega,fun h4=>?_⟩,h3⟩
  have:=pa (f:=Ef c p') (g:=Ef c p) (m:=c.cells.length) (a:=a) (fun a ha=>lT hS Ce Qc ha) ha
   (by
    unfold Ef D7;rw [Bool.or_eq_false_iff,zCK,bne_eq_false_iff_eq];exact ⟨zF1 hs h3,h4⟩) (by unfold Ef;rw [zA9,zC8];exact .inr h2)
  omega
theorem ZO {f g:Nat -> Int}: ∀ {m:Nat},(∀ a,a<m -> f a<=g a) -> CY f m<=CY g m/\ ∀ a,a<m -> CY f m-f a<=CY g m-g a
 | 0,_=>⟨zCn _,fun a ha=>absurd ha (zAv a)⟩
 | m+1,h=>by
  obtain ⟨h1,h2⟩:=ZO (m:=m) fun a ha=>h a (by omega)
  have hm:=h m (by omega);have e: ∀ f:Nat -> Int,CY f (m+1)=CY f m+f m:=fun f=>rfl
  rw [e,e];refine ⟨by omega,fun a ha=>?_⟩;rcases zAl.1 ha with ha | rfl
  ·have:=h2 a ha;omega
  ·omega
theorem bM {n:Int}: ∀ (l:List Int) (a:Int),n<=l.foldl (Ju q) a↔n<=a/\ ∀ e∈l,n<=q.values.getD e.toNat 0
 | [],a=>by simp
 | e::l,a=>by
  rw [zDH,bM l];unfold Ju;simp only [zCD,zHn];split <;> constructor <;> rintro ⟨h1,h2⟩
  ·exact ⟨by omega,h1,h2⟩
  ·exact ⟨h2.1,h2.2⟩
  ·exact ⟨h1,by omega,h2⟩
  ·exact ⟨h1,h2.2⟩
theorem cj {n:Int}: ∀ (l:List Int) (a:Int),l.foldl (KA q) a<=n↔a<=n/\ ∀ e∈l,q.values.getD e.toNat 0<=n
 | [],a=>by simp
 | e::l,a=>by
  rw [zDH,cj l];unfold KA;simp only [zCD,zHn];split <;> constructor <;> rintro ⟨h1,h2⟩
  ·exact ⟨by omega,h1,h2⟩
  ·exact ⟨h2.1,h2.2⟩
  ·exact ⟨h1,by omega,h2⟩
  ·exact ⟨h1,h2.2⟩
theorem ZV {k:Nat}(hk:k<=16){x x':Int}(hx:Sm k x)(J1:Sm k x')(h: ∀ s,tb x' s=true -> tb x s=true): ∀ e∈Bc x',e∈Bc x:=fun e he=>by
 obtain ⟨s,rfl,h1,h2⟩:=(FA J1 (zA0 hk (by decide))).1 he;exact (FA hx (zA0 hk (by decide))).2 ⟨s,rfl,h1,h s h2⟩
theorem rn {c:AB}{k:Nat}(W:B2 c k p)(W':B2 c k p')(hS:GZ c p' p)(Bu:Km q c p'=true):
 Km q c p=true/\ ∀ a s,a<c.cells.length -> H9 q c p a s=true -> H9 q c p' a s=true:=by
 have sub: ∀ a,a<c.cells.length -> ∀ e∈Bc (Ab c p' a),e∈Bc (Ab c p a):=fun a ha=>ZV W.k (W.at ha) (W'.at ha) (hS a ha)
 have l1: ∀ a,a<c.cells.length -> EU q (Ab c p a)<=EU q (Ab c p' a):=fun a ha=>by
  have h:=(bM (q:=q) (Bc (Ab c p a)) 100).1 (zCn _);exact (bM (Bc (Ab c p' a)) 100).2 ⟨h.1,fun e he=>h.2 e (sub a ha e he)⟩
 have l2: ∀ a,a<c.cells.length -> EX q (Ab c p' a)<=EX q (Ab c p a):=fun a ha=>by
  have h:=(cj (q:=q) (Bc (Ab c p a)) (-1)).1 (zCn _);exact (cj (Bc (Ab c p' a)) (-1)).2 ⟨h.1,fun e he=>h.2 e (sub a ha e he)⟩
 have t1:=ZO (f:=fun a=>EU q (Ab c p a)) (g:=fun a=>EU q (Ab c p' a)) (m:=c.cells.length) l1;have t2:=ZO (f:=fun a=>EX q (Ab c p' a)) (g:=fun a=>EX q (Ab c p a)) (m:=c.cells.length) l2;have e1: ∀ p,Jt q c p=CY (fun a=>EU q (Ab c p a)) c.cells.length:=fun _=>rfl
 have e2: ∀ p,J9 q c p=CY (fun a=>EX q (Ab c p a)) c.cells.length:=fun _=>rfl
 unfold Km at Bu ⊢;rw [zAW,zCw,zCw,zC7,zC7,e1,e2] at Bu ⊢;refine ⟨⟨by omega,by omega⟩,fun a s ha h=>?_⟩;unfold H9 at h ⊢;rw [zA9,zAi,zAi,e1,e2] at h ⊢;have h1:=t1.2 a ha;have h2:=t2.2 a ha;rcases h with h | h
 ·exact .inl (by omega)
 ·exact .inr (by omega)
theorem VP {n b:Int}: ∀ (l:List Int) (a:Int),n<=l.foldl (JX q b) a↔n<=a/\ ∀ e∈l,q.values.getD e.toNat 0>b -> n<=q.values.getD e.toNat 0
 | [],a=>by simp
 | e::l,a=>by
  rw [zDH,VP l];unfold JX;simp only [zCD,zHn];split
  ·split <;> constructor <;> rintro ⟨h1,h2⟩
   ·exact ⟨by omega,fun _=>h1,h2⟩
   ·exact ⟨h2.1 (by assumption),h2.2⟩
   ·exact ⟨h1,fun _=>by omega,h2⟩
   ·exact ⟨h1,h2.2⟩
  ·constructor <;> rintro ⟨h1,h2⟩
   ·exact ⟨h1,fun h=>absurd h (by assumption),h2⟩
   ·exact ⟨h1,h2.2⟩
theorem YP {n b:Int}: ∀ (l:List Int) (a:Int),l.foldl (JG q b) a<=n↔a<=n/\ ∀ e∈l,q.values.getD e.toNat 0<b -> q.values.getD e.toNat 0<=n
 | [],a=>by simp
 | e::l,a=>by
  rw [zDH,YP l];unfold JG;simp only [zCD,zHn];split
  ·split <;> constructor <;> rintro ⟨h1,h2⟩
   ·exact ⟨by omega,fun _=>h1,h2⟩
   ·exact ⟨h2.1 (by assumption),h2.2⟩
   ·exact ⟨h1,fun _=>by omega,h2⟩
   ·exact ⟨h1,h2.2⟩
  ·constructor <;> rintro ⟨h1,h2⟩
   ·exact ⟨h1,fun h=>absurd h (by assumption),h2⟩
   ·exact ⟨h1,h2.2⟩
theorem qA {c:AB}{k:Nat}(W:B2 c k p)(W':B2 c k p')(hS:GZ c p' p): ∀ a,a<=c.cells.length -> Fn q c p a<=Fn q c p' a
 | 0,_=>zCn _
 | a+1,ha=>by
  have ih:=qA W W' hS a (by omega);have h:=(VP (q:=q) (b:=Fn q c p a) (Bc (Ab c p a)) 100).1 (zCn _);exact (VP (Bc (Ab c p' a)) 100).2 ⟨h.1,fun e he hg=>h.2 e (ZV W.k (W.at (by omega)) (W'.at (by omega)) (hS a (by omega)) e he) (by omega)⟩
theorem qg {c:AB}{k:Nat}(W:B2 c k p)(W':B2 c k p')(hS:GZ c p' p): ∀ m,m<=c.cells.length -> Hb q c p' m<=Hb q c p m
 | 0,_=>zCn _
 | m+1,hm=>by
  have ih:=qg W W' hS m (by omega);have h:=(YP (q:=q) (b:=Hb q c p m) (Bc (Ab c p (c.cells.length-1-m))) (-1)).1 (zCn _);exact (YP (Bc (Ab c p' (c.cells.length-1-m))) (-1)).2 ⟨h.1,fun e he hg=>h.2 e (ZV W.k (W.at (by omega)) (W'.at (by omega)) (hS _ (by omega)) e he) (by omega)⟩
theorem vd {c:AB}{k:Nat}(W:B2 c k p)(W':B2 c k p')(hS:GZ c p' p){a s:Nat}(ha:a<c.cells.length)(h:Hl q c p a s=true):Hl q c p' a s=true:=by
 have h1:=qA (q:=q) W W' hS a (by omega);have h2:=qg (q:=q) W W' hS (c.cells.length-(a+1)) (by omega);unfold Hl Id at h ⊢;rw [zA9,zAi,zAi] at h ⊢;rcases h with h | h
 ·exact .inl (by omega)
 ·exact .inr (by omega)
theorem bV {c:AB}(hS:GZ c p' p){a:Nat}(ha:a<c.cells.length){inn:Bool}(h:kd c p' a inn=true):kd c p a inn=true:=by
 unfold kd at h ⊢;cases inn
 ·rw [zAR,zC8] at h ⊢;exact fun h2=>h (fE (hS a ha) h2)
 ·rw [zAV,zC8] at h ⊢;exact fD (hS a ha) h
theorem aH {c:AB}(hS:GZ c p' p): ∀ (a:Nat),a<=c.cells.length -> ∀ t,E0 c p' a t -> E0 c p a t
 | 0,_,t,h=>h
 | a+1,ha,t,⟨s,inn,h1,h2,h3⟩=>⟨s,inn,aH hS a (by omega) s h1,h2,bV hS (by omega) h3⟩
theorem lh {c:AB}(hS:GZ c p' p): ∀ (m:Nat),m<=c.cells.length -> ∀ t,Ig c p' m t -> Ig c p m t
 | 0,_,t,h=>h
 | m+1,hm,t,⟨h1,u,inn,h2,h3,h4⟩=>⟨aH hS _ (by omega) t h1,u,inn,h2,bV hS (by omega) h3,lh hS m (by omega) u h4⟩
theorem pj {c:AB}(hS:GZ c p' p){a:Nat}(ha:a<c.cells.length){inn:Bool}(h:JK c p' a inn):JK c p a inn:=by
 obtain ⟨s,t,h1,h2,h3,h4⟩:=h;exact ⟨s,t,aH hS a (by omega) s h1,h2,bV hS ha h3,lh hS _ (by omega) t h4⟩
theorem u0 {c:AB}(hS:GZ c p' p){a s:Nat}(ha:a<c.cells.length)(h:Iq c p a s):Iq c p' a s:=
 h.elim (fun h=>.inl ⟨fun h2=>h.1 (pj hS ha h2),h.2⟩) fun h=>.inr ⟨fun h2=>h.1 (pj hS ha h2),h.2⟩
theorem kV {ok:Nat -> Nat -> Bool}{c:AB}(hS:GZ c p' p)(h2:c.cells.length=2){a s:Nat}(h:GO ok c p a s):GO ok c p' a s:=by
 unfold GO at h ⊢;split
 ·rename_i h0;rw [zAM h0] at h;exact fun ⟨t,h3,h4⟩=>h ⟨t,hS 1 (by omega) t h3,h4⟩
 ·rename_i h0;rw [zAh h0] at h;exact fun ⟨t,h3,h4⟩=>h ⟨t,hS 0 (by omega) t h3,h4⟩
structure NK (c:AB)(q:AA)(p p':List Int):Prop where
 W:Ej c q p
 W':Ej c q p'
 len:p.length=p'.length
 sub: ∀ j,j<p.length -> ∀ s,tb (p'.getD j 0) s=true -> tb (p.getD j 0) s=true
section
variable {c:AB}
theorem NK.pB (H:NK c q p p'): ∀ v:Int,(pB c p').getD v.toNat false=true -> (pB c p).getD v.toNat false=true:=fun v h=>by
 have hl:=H.len
 by_cases hv:v.toNat<p.length
 ·rw [TC (by omega),zC8] at h;rw [TC hv,zC8];exact fD (H.sub _ hv) h
 ·rw [u8,zCo (by rw [Fb];omega)] at h;cases h
theorem NK.cB (H:NK c q p p'): ∀ v:Int,(cB c p).getD v.toNat false=true -> (cB c p').getD v.toNat false=true:=fun v h=>by
 have hl:=H.len
 by_cases hv:v.toNat<p.length
 ·rw [Uu hv,zBA] at h;rw [Uu (by omega),zBA];exact fE (H.sub _ hv) h
 ·rw [u8,zCo (by rw [Ez];omega)] at h;cases h
theorem kn {x:List Int}{j s:Nat}(hj:j<x.length)(h1:tb (x.getD j 0) s=true)(h2:tb c.set s=true):(pB c x).getD j false=true:=by
 rw [TC hj,zC8];exact qX h1 h2
theorem i7 {x:List Int}{j s:Nat}(hj:j<x.length)(h:(cB c x).getD j false=true)(h1:tb (x.getD j 0) s=true):tb c.set s=true:=by
 rw [Uu hj,zBA] at h;exact bq h h1
theorem keep (W:Ej c q p')(Oo: ∀ v,v<p'.length -> ∃ s,tb (p'.getD v 0) s=true/\ ¬ FI c q p' v s){r:Int}(h0:0<=r)(hF:Ga (cB c p') r){v:Int}(Me:0<=v)(Bx:v<(p'.length:Int))(hc:(cB c p').getD v.toNat false=true):Rc q.nbrs (pB c p') r v:=by
 refine Classical.byContradiction fun h=>?_
 obtain ⟨s,h1,h2⟩:=Oo v.toNat (by omega);have e:((v.toNat:Nat):Int)=v:=by omega
 exact h2 ⟨W.cp (by omega) hc,i7 (by omega) hc h1,r,h0,hF,by rw [e];exact h⟩
theorem Ga.ex (W:Ej c q p'){v:Int}(Me:0<=v)(Bx:v<(p'.length:Int))(hc:(cB c p').getD v.toNat false=true): ∃ r:Int,0<=r/\ r<(p'.length:Int)/\ Ga (cB c p') r/\ (cB c p').getD r.toNat false=true:=by
 obtain ⟨r,_,hF⟩:=Tn (l:=cB c p') (by rw [Ez];exact W.l1);rcases hF with ⟨h1,h2⟩ | ⟨h1,h2,h3,h4⟩
 ·rw [h2 v.toNat (by rw [Ez];omega)] at hc;cases hc
 ·rw [Ez] at h2;exact ⟨r,h1,h2,.inr ⟨h1,by rw [Ez];exact h2,h3,h4⟩,h3⟩
theorem Ga.at {r:Int}(h0:0<=r)(h:Ga (cB c p) r):r<(p.length:Int)/\ (cB c p).getD r.toNat false=true:=by
 rcases h with ⟨h1,_⟩ | ⟨_,h1,h2,_⟩
 ·omega
 ·rw [Ez] at h1;exact ⟨h1,h2⟩
theorem oc (H:NK c q p p')(Oo: ∀ v,v<p'.length -> ∃ s,tb (p'.getD v 0) s=true/\ ¬ FI c q p' v s){a s:Nat}(ha:a<p.length)(hs:tb (p'.getD a 0) s=true)(h:FI c q p a s):FI c q p' a s:=by
 obtain ⟨h1,h2,r,EI,hF,h3⟩:=h;have hl:=H.len;have gl:=H.W'.gl;obtain ⟨I4,hrc⟩:=hF.at EI;have mq:=H.cB r hrc;obtain ⟨r',h4,h5,O2,h6⟩:=Ga.ex H.W' EI (by omega) mq;refine ⟨kn (by omega) hs h2,h2,r',h4,O2,fun h7=>h3 ?_⟩;have h8:=keep H.W' Oo h4 O2 EI (by omega) mq;have h9:=h8.symm H.W'.g.gr h4 (by omega) (H.W'.cp (by omega) h6);exact (h9.trans h7).mono H.pB
theorem zFj {g:List (List Int)}{inn:List Bool}{u a v:Int}(hna: ¬ Rc g inn u a)(ha:0<=a)(G:Gr g)(cC:0<=u)(HJ:u<(g.length:Int))(h:Rc g inn u v):Rc g (inn.set a.toNat false) u v:=by
 induction h with
 | start=>exact .start
 | @step x y h hb hi ih=>
  refine .step ih hb ?_;have hr:=(Rc.step h hb hi).rng G cC HJ
  have Ad:a.toNat≠y.toNat:=fun e=>hna (by
   have e2:a=y:=by omega
   rw [e2];exact Rc.step h hb hi)
  rw [u8,zC2 Ad,←u8];exact hi
theorem zEr (H:NK c q p p')(Oo: ∀ v,v<p'.length -> ∃ s,tb (p'.getD v 0) s=true/\ ¬ Hz c q p' v s){a s:Nat}(ha:a<p.length)(hs:tb (p'.getD a 0) s=true)(h:Hz c q p a s):Hz c q p' a s:=by
 have hl:=H.len;have gl:=H.W'.gl;have gl1:=H.W.gl
 have T3: ∀ v,v<p'.length -> ∃ s,tb (p'.getD v 0) s=true/\ ¬ FI c q p' v s:=fun v hv=>by
  obtain ⟨t,h1,h2⟩:=Oo v hv;exact ⟨t,h1,fun h=>h2 (.inl h)⟩
 rcases h with h | ⟨h1,h2,⟨u,v,hua,hva,hu,hv,h3,h4,h5⟩,h6⟩
 ·exact .inl (oc H T3 ha hs h)
 ·have J2:=h3.rng H.W.g.gr (by omega) (by omega);have Gm:=h4.rng H.W.g.gr (by omega) (by omega);have Bo:=H.cB u hu;have Dr:=H.cB v hv;have pu:=H.W'.cp (j:=u.toNat) (by omega) Bo;obtain ⟨r',h7,h8,O2,h9⟩:=Ga.ex H.W' J2.1 (by omega) Bo;have ku:=keep H.W' T3 h7 O2 J2.1 (by omega) Bo;have kv:=keep H.W' T3 h7 O2 Gm.1 (by omega) Dr;have uv:Rc q.nbrs (pB c p') u v:=(ku.symm H.W'.g.gr h7 (by omega) (H.W'.cp (by omega) h9)).trans kv
  have lP: ∀ w:Int,((pB c p').set (a:Int).toNat false).getD w.toNat false=true -> ((pB c p).set (a:Int).toNat false).getD w.toNat false=true:=fun w hw=>by
   have la:(pB c p').length=p'.length:=Fb;have lb:(pB c p).length=p.length:=Fb;rw [Yt (by omega)] at hw ⊢;split
   ·rename_i e;rw [zAM e] at hw;exact hw
   ·rename_i e;rw [zAh e] at hw;exact H.pB w hw
  have ua:Rc q.nbrs (pB c p') u a:=Classical.byContradiction fun O3=>h5 ((zFj O3 (by omega) H.W'.g.gr J2.1 (by omega) uv).mono lP)
  have au:=ua.symm H.W'.g.gr J2.1 (by omega) pu;refine .inr ⟨?_,?_,⟨u,v,hua,hva,Bo,Dr,au,au.trans uv,fun O3=>h5 (O3.mono lP)⟩,h6⟩
  ·have:=ua.isIn pu
   rwa [zAT] at this
  ·cases hc:(cB c p').getD a false with
   | false=>rfl
   | true=>rw [i7 (by omega) hc hs] at h6;cases h6
theorem yX (H:NK c q p p')(Bu:ON c q p')(Oo: ∀ v,v<p'.length -> ∃ s,tb (p'.getD v 0) s=true/\ ¬ MW c q p' v s):ON c q p/\ ∀ a s,a<p.length -> tb (p'.getD a 0) s=true -> MW c q p a s -> MW c q p' a s:=by
 have hl:=H.len
 have T3: ∀ v,v<p'.length -> ∃ s,tb (p'.getD v 0) s=true/\ ¬ FI c q p' v s:=fun v hv=>by
  obtain ⟨t,h1,h2⟩:=Oo v hv;exact ⟨t,h1,fun h=>h2 (.inl h)⟩
 have cb: ∀ v:Nat,(cB c p).getD v false=true -> (cB c p').getD v false=true:=fun v h=>H.cB (v:Int) h
 have dP: ∀ v:Int,CT q.nbrs (pB c p') v<=CT q.nbrs (pB c p) v:=fun v=>Uo _ fun x _ h=>H.pB x h
 have dC: ∀ v:Int,CT q.nbrs (cB c p) v<=CT q.nbrs (cB c p') v:=fun v=>Uo _ fun x _ h=>H.cB x h
 refine ⟨fun v hv hc=>?_,fun a s ha hs h=>?_⟩
 ·have:=Bu v (by omega) (cb v hc);have h1:=dP v;have h2:=dC v;omega
 ·rcases h with h | ⟨v,hv,h1,h2,h3,h4⟩
  ·exact .inl (oc H T3 ha hs h)
  ·have hk:=Bu v (by omega) (cb v h1);have e1:=dP v;have e2:=dC v;refine .inr ⟨v,by omega,cb v h1,h2,?_⟩;rcases h4 with ⟨h4,h5⟩ | ⟨h4,h5,h6⟩
   ·have hp:(pB c p').getD a false=true:=by
     cases hp:(pB c p').getD a false with
     | true=>rfl
     | false=>
      have:=PC (f:=fun x:Int=>(pB c p').getD x.toNat false) (g:=fun x:Int=>(pB c p).getD x.toNat false) (a:=(a:Int)) hp h3 (nb q.nbrs v) (fun x _ h=>H.pB x h) h2;have e3:CT q.nbrs (pB c p') v+1<=CT q.nbrs (pB c p) v:=this;omega
    exact ⟨hp,.inl ⟨by omega,h5⟩⟩
   ·have hp:=kn (c:=c) (by omega) hs h6
    have hc:(cB c p').getD a false=false:=by
     cases hc:(cB c p').getD a false with
     | false=>rfl
     | true=>
      have:=PC (f:=fun x:Int=>(cB c p).getD x.toNat false) (g:=fun x:Int=>(cB c p').getD x.toNat false) (a:=(a:Int)) h5 hc (nb q.nbrs v) (fun x _ h=>H.cB x h) h2;have e3:CT q.nbrs (cB c p) v+1<=CT q.nbrs (cB c p') v:=this;omega
    exact ⟨hp,.inr ⟨by omega,hc,h6⟩⟩
end
theorem mono (C:Bm q i p)(C':Bm q i p')(hS:GZ (con q i) p' p)(hA:OA q (con q i) p'):
 Cg q (con q i) p/\ ∀ k,k<(con q i).cells.length -> ∀ s,tb (Ab (con q i) p' k) s=true -> Be q (con q i) p k s -> Be q (con q i) p' k s:=by
 have W:=C.work;have W':=C'.work;have Ce: ∀ a,a<(con q i).cells.length -> CC (Ab (con q i) p' a):=fun a ha=>(W'.at ha).in64 (by have:=W'.k;omega)
 have kc:=OS (OR C.kind);have II: ∀ {k:Int},(con q i).kind=k -> k≠2 -> k≠3 -> k≠9 -> Cg q (con q i) p:=fun hk h2 h3 h9=>⟨fun h=>absurd (hk.symm.trans h) h2,fun h=>absurd (hk.symm.trans h) h3,hA.ok.2.2.1,fun h=>absurd (hk.symm.trans h) h9⟩
 have all: ∀ {hk:(con q i).kind=8∨(con q i).kind=9},NK (con q i) q p p':=fun {hk}=>by
  have hl:=C.len;have Eg:=C'.len
  have KE:C7 p'=false:=JH.2 fun j hj=>by
   have hk8:(con q i).cells.length=p'.length:=by
    have h:=C'.kind;unfold GT at h;rcases hk with hk | hk <;> rw [hk] at h <;> simp at h <;> omega
   have:=hA.nz j (by omega)
   have e:Ab (con q i) p' j=p'.getD j 0:=by
    unfold Ab;rw [C'.cells.2.2 (by omega) j (by omega),zAT]
   rwa [e] at this
  have A':=C'.all hk KE
  have J3: ∀ j,j<p.length -> ∀ s,tb (p'.getD j 0) s=true -> tb (p.getD j 0) s=true:=fun j hj s hs=>by
   have e: ∀ x:List Int,Ab (con q i) x j=x.getD j 0:=fun x=>by
    unfold Ab;rw [A'.id j (by omega),zAT]
   have:=hS j (by rw [A'.len];omega) s (by rw [e];exact hs)
   rwa [e] at this
  have hd:C7 p=false:=JH.2 fun j hj=>by
   have h:=JH.1 KE j (by omega);obtain ⟨s,h1,h2⟩:=(FU ((C'.sm j (by omega)).in64 (by have:=W'.k;omega))).1 h;exact (FU ((C.sm j hj).in64 (by have:=W'.k;omega))).2 ⟨s,h1,J3 j hj s h2⟩
  exact ⟨C.all hk hd,A',by omega,J3⟩
 rcases kc with hk | hk | hk | hk | hk | hk | hk | hk | hk
 ·refine ⟨II hk (by decide) (by decide) (by decide),fun k CX s hs h=>?_⟩;unfold Be at h ⊢;rw [hk] at h ⊢;simp at h ⊢;exact zEI W hS Ce hA.nz h
 ·have h2:=zEc hS Ce hA.nz (hA.ok.1 hk);refine ⟨⟨fun _=>h2.1,fun h=>absurd (hk.symm.trans h) (by decide),hA.ok.2.2.1,fun h=>absurd (hk.symm.trans h) (by decide)⟩,fun k CX s hs h=>?_⟩;unfold Be at h ⊢;rw [hk] at h ⊢;simp at h ⊢;exact h2.2 k s CX hs h
 ·have h2:=rn (q:=q) W W' hS (hA.ok.2.1 hk);refine ⟨⟨fun h=>absurd (hk.symm.trans h) (by decide),fun _=>h2.1,hA.ok.2.2.1,fun h=>absurd (hk.symm.trans h) (by decide)⟩,fun k CX s hs h=>?_⟩;unfold Be at h ⊢;rw [hk] at h ⊢;simp at h ⊢;exact h2.2 k s CX h
 ·refine ⟨II hk (by decide) (by decide) (by decide),fun k CX s hs h=>?_⟩;unfold Be at h ⊢;rw [hk] at h ⊢;simp at h ⊢;exact vd W W' hS CX h
 ·refine ⟨II hk (by decide) (by decide) (by decide),fun k CX s hs h=>?_⟩;unfold Be at h ⊢;rw [hk] at h ⊢;simp at h ⊢;exact u0 hS CX h
 ·refine ⟨II hk (by decide) (by decide) (by decide),fun k CX s hs h=>?_⟩;have h2:=C.two (.inl hk);unfold Be at h ⊢;rw [hk] at h ⊢;simp at h ⊢;exact kV hS h2 h
 ·refine ⟨II hk (by decide) (by decide) (by decide),fun k CX s hs h=>?_⟩;have h2:=C.two (.inr hk);unfold Be at h ⊢;rw [hk] at h ⊢;simp at h ⊢;exact kV hS h2 h
 ·have H:=all (hk:=.inl hk)
  have e: ∀ (x:List Int) (j:Nat),j<p.length -> Ab (con q i) x j=x.getD j 0:=fun x j hj=>by
   unfold Ab;rw [H.W.id j hj,zAT]
  have Ak:=H.W.len;have hl:=H.len;have lc: ∀ x a s,Be q (con q i) x a s↔Hz (con q i) q x a s:=fun x a s=>by unfold Be;rw [hk];simp
  refine ⟨II hk (by decide) (by decide) (by decide),fun k CX s hs h=>?_⟩;rw [lc] at h ⊢;rw [e _ _ (by omega)] at hs;refine zEr H (fun v hv=>?_) (by omega) hs h;obtain ⟨t,h1,h2⟩:=hA.left v (by omega);rw [e _ _ (by omega)] at h1;exact ⟨t,h1,fun h3=>h2 ((lc _ _ _).2 h3)⟩
 ·have H:=all (hk:=.inr hk)
  have e: ∀ (x:List Int) (j:Nat),j<p.length -> Ab (con q i) x j=x.getD j 0:=fun x j hj=>by
   unfold Ab;rw [H.W.id j hj,zAT]
  have Ak:=H.W.len;have hl:=H.len;have lc: ∀ x a s,Be q (con q i) x a s↔MW (con q i) q x a s:=fun x a s=>by unfold Be;rw [hk];simp
  have h2:=yX H (hA.ok.2.2.2 hk) fun v hv=>by
   obtain ⟨t,h1,h2⟩:=hA.left v (by omega);rw [e _ _ (by omega)] at h1;exact ⟨t,h1,fun h3=>h2 ((lc _ _ _).2 h3)⟩
  refine ⟨⟨fun h=>absurd (hk.symm.trans h) (by decide),fun h=>absurd (hk.symm.trans h) (by decide),hA.ok.2.2.1,fun _=>h2.1⟩,fun k CX s hs h=>?_⟩;rw [lc] at h ⊢;rw [e _ _ (by omega)] at hs;exact h2.2 k s (by omega) hs h
end
section
variable {q:AA} {i:Int} {pos x:List Int}
theorem PR.sub {c:AB}(h:PR q c pos x){j s:Nat}(hs:tb (x.getD j 0) s=true):j<pos.length/\ tb (pos.getD j 0) s=true:=by
 have hj:j<pos.length:=by
  refine zCd fun CH=>?_
  rw [u8,zCo (by have:=h.len;omega)] at hs;exact G5 hs
 refine ⟨hj,?_⟩
 by_cases hA:Gy q c pos
 ·exact (((h.live hA j hj).2 s).1 hs).1
 ·rw [h.dead hA,PY] at hs;exact absurd hs G5
theorem PR.in64 {c:AB}(h:PR q c pos x)(j:Nat):CC (x.getD j 0):=by
 by_cases hA:Gy q c pos
 ·by_cases hj:j<pos.length
  ·exact (h.live hA j hj).1
  ·rw [u8,zCo (by have:=h.len;omega)];exact ⟨by decide,by decide⟩
 ·rw [h.dead hA];exact Y6 j
theorem E7 (hv:B8 q=true){y:List Int}:posOk q y=true↔(y.length:Int)=q.cells/\ ∀ j,j<y.length -> Sm q.symbols.toNat (y.getD j 0):=by
 unfold posOk;rw [zAW,zBA,zAg];constructor
 ·rintro ⟨h1,h2⟩;refine ⟨h1,fun j hj=>?_⟩;have hm:y.getD j 0∈y:=by rw [u8,zAa hj];exact zBD hj
  have:=h2 _ hm;rw [zAW,zAi,zAi] at this;exact this
 ·rintro ⟨h1,h2⟩;refine ⟨h1,fun z hz=>?_⟩;obtain ⟨j,hj,rfl⟩:=zDD hz;have:=h2 j hj;rw [u8,zAa hj] at this;rw [zAW,zAi,zAi];exact this
end
section
variable {q:AA} {i:Int} {p p' x z:List Int}
theorem qk (C:Bm q i p){k s:Nat}(hk:k<(con q i).cells.length):LC q (con q i) p ((con q i).cells.getD k 0).toNat s↔Be q (con q i) p k s:=by
 constructor
 ·rintro ⟨a,ha,e,h⟩;have h1:=C.work.cells a ha;have h2:=C.work.cells k hk;have Ar:=C.cells.2.1;have e2:(con q i).cells.getD a 0=(con q i).cells.getD k 0:=by omega
  rw [u8,zAa ha,u8,zAa hk] at e2;have e2:(con q i).cells[a]=(con q i).cells[k]:=e2;have hp:=zHH.1 Ar
  have:a=k:=by
   rcases Nat.lt_trichotomy a k with h3 | h3 | h3
   ·exact absurd e2 (hp a k ha hk h3)
   ·exact h3
   ·exact absurd e2.symm (hp k a hk ha h3)
  subst this;exact h
 ·intro h;exact ⟨k,hk,rfl,h⟩
theorem qd (C:Bm q i p):Gy q (con q i) p↔(∀ j,j<p.length -> p.getD j 0≠0)/\ OA q (con q i) p:=by
 have W:=C.work;constructor
 ·intro h;refine ⟨h.nz,fun k hk=>h.nz _ (by have:=W.cells k hk;omega),h.ok,fun k hk=>?_⟩;obtain ⟨s,_,h1,h2⟩:=h.left ((con q i).cells.getD k 0).toNat (by have:=W.cells k hk;omega);exact ⟨s,h1,fun h3=>h2 ((qk C hk).2 h3)⟩
 ·rintro ⟨h1,h2⟩;refine ⟨h1,h2.ok,fun j hj=>?_⟩
  by_cases LL: ∃ k,k<(con q i).cells.length/\ ((con q i).cells.getD k 0).toNat=j
  ·obtain ⟨k,hk,rfl⟩:=LL;obtain ⟨s,h3,h4⟩:=h2.left k hk;exact ⟨s,zCd fun h=>(by rw [JY h] at h3;cases h3),h3,fun h5=>h4 ((qk C hk).1 h5)⟩
  ·obtain ⟨s,h3,h4⟩:=(FU ((C.sm j hj).in64 (by have:=W.k;omega))).1 (h1 j hj);exact ⟨s,h3,h4,fun ⟨a,ha,e,_⟩=>LL ⟨a,ha,e⟩⟩
theorem xZ (C:Bm q i p)(C':Bm q i p')(hS:GZ (con q i) p' p)(hA:OA q (con q i) p'):OA q (con q i) p/\ ∀ k,k<(con q i).cells.length -> ∀ s,tb (Ab (con q i) p' k) s=true -> Be q (con q i) p k s -> Be q (con q i) p' k s:=by
 obtain ⟨h1,h2⟩:=mono C C' hS hA;have W:=C.work;refine ⟨⟨fun k hk=>?_,h1,fun k hk=>?_⟩,h2⟩
 ·obtain ⟨s,h3,_⟩:=hA.left k hk;exact (FU ((W.at hk).in64 (by have:=W.k;omega))).2 ⟨s,zCd fun h=>(by rw [JY h] at h3;cases h3),hS k hk s h3⟩
 ·obtain ⟨s,h3,h4⟩:=hA.left k hk;exact ⟨s,hS k hk s h3,fun h5=>h4 (h2 k hk s h3 h5)⟩
theorem wj (C:Bm q i p)(C':Bm q i p')(J3: ∀ j s,tb (p'.getD j 0) s=true -> tb (p.getD j 0) s=true)(hx:PR q (con q i) p x)(hz:PR q (con q i) p' z): ∀ j s,tb (z.getD j 0) s=true -> tb (x.getD j 0) s=true:=by
 intro j s h;have hl:=C.len;have Eg:=C'.len
 by_cases dK:Gy q (con q i) p'
 ·obtain ⟨n1,hO⟩:=(qd C').1 dK;obtain ⟨hO2,h2⟩:=xZ C C' (fun k _ s h=>J3 _ s h) hO
  have hA:Gy q (con q i) p:=(qd C).2 ⟨fun j hj=>by
   obtain ⟨t,h3,h4⟩:=(FU ((C'.sm j (by omega)).in64 (by have:=C.work.k;omega))).1 (n1 j (by omega));exact (FU ((C.sm j hj).in64 (by have:=C.work.k;omega))).2 ⟨t,h3,J3 j t h4⟩,hO2⟩
  obtain ⟨hj,_⟩:=hz.sub h;obtain ⟨h5,h6⟩:=((hz.live dK j hj).2 s).1 h;refine ((hx.live hA j (by omega)).2 s).2 ⟨J3 j s h5,fun ⟨k,hk,e,h7⟩=>h6 ⟨k,hk,e,h2 k hk s ?_ h7⟩⟩
  show tb (p'.getD ((con q i).cells.getD k 0).toNat 0) s=true
  rw [e];exact h5
 ·rw [hz.dead dK,PY] at h;exact absurd h G5
end
section
variable {q:AA} {i:Int} {a b:List Int}
theorem wd (C:Bm q i a): ∃ x,Ev (fun n=>P4 n q i a) (x,0)/\ PR q (con q i) a x:=by
 obtain ⟨r,h1,h2,h3,_⟩:=kG (i:=i) C.fit (pos:=a) (zA0 C.len256.2 (by decide));obtain ⟨x,e⟩:=r;have e0:e=0:=h2.trans C.check;subst e0;exact ⟨x,h1,h3 rfl⟩
theorem we (hF:EN q)(hl:a.length<=LB)(h:HZ q i a≠0): ∃ e,e≠0/\ Ev (fun n=>P4 n q i a) ([],e):=by
 obtain ⟨r,h1,h2,_,h4⟩:=kG (i:=i) hF hl;obtain ⟨x,e⟩:=r;have h2:e=HZ q i a:=h2;have he:e≠0:=by rw [h2];exact h
 have:x= []:=h4 he;subst this;exact ⟨e,he,h1⟩
end
section
variable {q:AA} {i j:Int} {p p' x y z:List Int}
theorem PR.posOk (C:Bm q i p)(h:PR q (con q i) p x):posOk q x=true:=by
 refine (E7 C.valid).2 ⟨by rw [h.len];exact C.len,fun j hj=>?_⟩;have hk:=C.work.k;refine SI (by omega) (h.in64 j) fun s hs _=>?_
 cases ht:tb (x.getD j 0) s with
 | false=>rfl
 | true=>
  obtain ⟨h1,h2⟩:=h.sub ht;rw [(C.sm j h1).hi hs] at h2;cases h2
end
set_option maxRecDepth 100000
set_option maxHeartbeats 40000000
inductive Yg where
 | l1 (x4:Nat) (Cw:List Int) (Ke D0:Int) (o0:List (List Int))
def PD (n:Nat)(self:Yg -> Option ((List (List Int))×Int))(g_:List (List Int))(AT:List Bool)(x4:Nat)(Cw:List Int)(Ke D0:Int)(o0:List (List Int)):Option ((List (List Int))×Int):= bif (decide (D0<Ke)) then if 0<=D0/\ D0<(Cw.length:Int) then bif (decide ((Cw.getD ((D0).toNat) 0)>0)) then if AJ ((Cw.getD ((D0).toNat) 0)-1)/\ ((0:Int)<=((Cw.getD ((D0).toNat) 0)-1)/\ ((Cw.getD ((D0).toNat) 0)-1)<(x4:Int))/\ 0+((((Cw.getD ((D0).toNat) 0)-1)).toNat)<o0.length/\ (o0.getD (0+((((Cw.getD ((D0).toNat) 0)-1)).toNat)) default).length+([D0]:List Int).length<=BA/\ AJ (D0+1) then self (.l1 x4 Cw Ke (D0+1) (o0.set (0+((((Cw.getD ((D0).toNat) 0)-1)).toNat)) ((o0.getD (0+((((Cw.getD ((D0).toNat) 0)-1)).toNat)) default)++([D0]:List Int)))) else none else if AJ (D0+1) then self (.l1 x4 Cw Ke (D0+1) o0) else none else none else if x4=o0.length then some (o0,0) else none
def zEy (n:Nat)(self:Yg -> Option ((List (List Int))×Int))(g_:List (List Int))(AT:List Bool):Option ((List (List Int))×Int):= (KJ n g_ ([AT]:List (List Bool))).bind fun y1=> bif (y1 != 0) then some (([]:List (List Int)),y1) else (parts n g_ AT).bind fun y2=> if (y2.2:Int)=y2.2/\ 0<=y2.2/\ (y2.2:Int)<=1000000000000 then self (.l1 ((y2.2).toNat) y2.1 (y2.1.length:Int) 0 (List.replicate ((y2.2).toNat) ([]:List Int))) else none
def Lb (g_:List (List Int))(AT:List Bool):Nat -> Yg -> Option ((List (List Int))×Int)
 | 0,_=>none
 | n+1,.l1 x4 Cw Ke D0 o0=>PD n (Lb g_ AT n) g_ AT x4 Cw Ke D0 o0
def Yh (n:Nat)(g_:List (List Int))(AT:List Bool):Option ((List (List Int))×Int):=zEy n (Lb g_ AT n) g_ AT
def zE0 (n B:Nat)(N:Yd 0)(g_:List (List Int))(AT:List Bool)(r:(List (List Int))×Int):Yg -> Prop
 | .l1 x4 Cw Ke D0 o0=>∀ m0:Nat,n<=m0 -> TW B N (FQ Tryz.f79 0 (.tup 2 (L1 [.sl 1 r.1.length (AP BX r.1),.i r.2])) []) (A4 m0 (BB (AX Tryz.f79) 0 [])) ⟨AG 48 [(4,.msl 0 1 0 x4),(25,.ints Cw),(26,.i Ke),(27,.i D0)],[some (.mo (.rws o0 none))]⟩
theorem zE1 (B:Nat)(N:Yd 0)(g_:List (List Int))(AT:List Bool):Al (Lb g_ AT) (zE0 · B N g_ AT):=ia (fun _=>rfl) fun n AI pt r h=>by
 cases pt
 case l1 x4 Cw Ke D0 o0=>
  intro m0 AD;refine rd AD fun m0 AD=>?_
  revert r;apply gO;exact bi 28 (gi (bi 33 (gc (gn fun g1=>jw 36 g1 (jw 39 g1 (gc (gn fun g2=>jg g2 (gc (gn fun g3=>jg g3 (jg (And.intro (Eq.refl 0) (Eq.refl 1)) (jg (by decide:0<1) (jg g3 (gc (gi (jg g2 (jg (Eq.refl (0+((((Cw.getD ((D0).toNat) 0)-1)).toNat))) (jg g3 (gw 46 (lG AC [3] (AI _ _ · m0 AD)))))))))))))))))) (gw 46 (lG AC [0] (AI _ _ · m0 AD))))) (gn fun g0=>lF fun p=>ez AC [4,5] [0] p [0] (H0.g g0))
theorem zEx {n:Nat}{g_:List (List Int)}{AT:List Bool}{r:(List (List Int))×Int}(h:Yh n g_ AT=some r):EQ 79 [.sl 1 g_.length (AP BX g_),.bools AT] [] (.tup 2 (L1 [.sl 1 r.1.length (AP BX r.1),.i r.2])) [] true:=by
 refine ot Tryz.func79 fun B N=>?_
 revert r;apply gO;exact ja 12 0 1 (GJ (c:=RG) (L:=([AT]:List (List Bool))) (vals:=[.bools AT]) rfl ⟨⟨_,rfl,⟨A3,trivial⟩⟩,trivial⟩) (jz 12 0 (jg (Eq.refl 1) (cf Xw [none] fun y1=>bi 15 (lF fun p=>el AC [4,5] [] p [] H0 [.nils,.i y1] (AS.tupL (l:=[.nils,.i y1]) (l':=[.sl 1 (([]:List (List Int)).length) (AP BX ([]:List (List Int))),.i y1]) rfl ⟨(AS.sl_nil _ _),A3,trivial⟩)) (cf aZ [none] fun _=>gi (jk 24 (lN AC [1] ((zE1 B N g_ AT n) _ _ · n Nat.le.refl)))))))
inductive Sq where
 | l1 (x6 x23:Int)
 | l2 (x6 x9 x23:Int) (B3:List Int) (BN CK:Int)
def Nw (n:Nat)(self:Sq -> Option (Bool×Int))(g_:List (List Int))(AT:List Bool)(x6 x23:Int):Option (Bool×Int):= bif (decide (x23<(g_.length:Int))) then if (0<=x23/\ x23<(g_.length:Int))/\ (0<=x23/\ x23<(AT.length:Int)) then bif (!(AT.getD ((x23).toNat) false)) then if AJ (x23+1) then self (.l1 x6 (x23+1)) else none else if AJ (x6+1) then self (.l2 (x6+1) 0 x23 (g_.getD ((x23).toNat) []) (((g_.getD ((x23).toNat) []).length:Nat):Int) 0) else none else none else (parts n g_ AT).bind fun y1=> bif (decide (x6>=3)) then some ((y1.2==1),0) else some (false,0)
def Nv (n:Nat)(self:Sq -> Option (Bool×Int))(g_:List (List Int))(AT:List Bool)(x6 x9 x23:Int)(B3:List Int)(BN CK:Int):Option (Bool×Int):= bif (decide (CK<BN)) then if (0<=CK/\ CK<(B3.length:Int))/\ (0<=(B3.getD ((CK).toNat) 0)/\ (B3.getD ((CK).toNat) 0)<(AT.length:Int)) then bif (AT.getD ((B3.getD ((CK).toNat) 0).toNat) false) then if AJ (x9+1)/\ AJ (CK+1) then self (.l2 x6 (x9+1) x23 B3 BN (CK+1)) else none else if AJ (CK+1) then self (.l2 x6 x9 x23 B3 BN (CK+1)) else none else none else bif (x9 != 2) then some (false,0) else if AJ (x23+1) then self (.l1 x6 (x23+1)) else none
def vu (n:Nat)(self:Sq -> Option (Bool×Int))(g_:List (List Int))(AT:List Bool):Option (Bool×Int):= (KJ n g_ ([AT]:List (List Bool))).bind fun y1=> bif (y1 != 0) then some (false,y1) else self (.l1 0 0)
def Hm (g_:List (List Int))(AT:List Bool):Nat -> Sq -> Option (Bool×Int)
 | 0,_=>none
 | n+1,.l1 x6 x23=>Nw n (Hm g_ AT n) g_ AT x6 x23
 | n+1,.l2 x6 x9 x23 B3 BN CK=>Nv n (Hm g_ AT n) g_ AT x6 x9 x23 B3 BN CK
def Pw (n:Nat)(g_:List (List Int))(AT:List Bool):Option (Bool×Int):=vu n (Hm g_ AT n) g_ AT
def vw (n B:Nat)(N:Yd 0)(g_:List (List Int))(AT:List Bool)(r:Bool×Int):Sq -> Prop
 | .l1 x6 x23=>∀ m0:Nat,n<=m0 -> TW B N (FQ Tryz.f80 0 (.tup 2 (L1 [.bool r.1,.i r.2])) []) (A4 m0 (BB (AX Tryz.f80) 0 [])) ⟨AG 63 [(0,.sl 1 g_.length (AP BX g_)),(1,.bools AT),(6,.i x6),(21,.sl 1 g_.length (AP BX g_)),(22,.i (g_.length:Int)),(23,.i x23)],[]⟩
 | .l2 x6 x9 x23 B3 BN CK=>∀ m0 m1:Nat,n<=m0 -> n<=m1 -> TW B N (FQ Tryz.f80 0 (.tup 2 (L1 [.bool r.1,.i r.2])) []) (A4 m1 (BB (AX Tryz.f80) 2 [m0])) ⟨AG 63 [(0,.sl 1 g_.length (AP BX g_)),(1,.bools AT),(6,.i x6),(9,.i x9),(21,.sl 1 g_.length (AP BX g_)),(22,.i (g_.length:Int)),(23,.i x23),(35,.ints B3),(36,.i BN),(37,.i CK)],[]⟩
theorem vz (B:Nat)(N:Yd 0)(g_:List (List Int))(AT:List Bool):Al (Hm g_ AT) (vw · B N g_ AT):=ia (fun _=>rfl) fun n AI pt r h=>by
 cases pt
 case l1 x6 x23=>
  intro m0 AD;refine rd AD fun m0 AD=>?_
  revert r;apply gO;exact bi 24 (gc (gi (gi (bi 32 (gw 50 (lG AC [] (AI _ _ · m0 AD))) (gw 34 (lN AC [] (AI _ _ · m0 n AD Nat.le.refl))))))) (cf aZ [] fun _=>bi 58 (lE AC [4,5] []) (lE AC [4,5] []))
 case l2 x6 x9 x23 B3 BN CK=>
  intro m0 m1 AD Ax;have AD:=zC3 AD;refine rd Ax fun m1 Ax=>?_
  revert r;apply gO;exact bi 38 (gc (gi (gi (bi 44 (gc (gw 46 (gw 47 (lG AC [] (AI _ _ · m0 m1 AD Ax))))) (gw 47 (lG AC [] (AI _ _ · m0 m1 AD Ax))))))) (bi 49 (lE AC [4,5] []) (gw 50 (lG AC [] (AI _ _ · m0 AD))))
theorem vt {n:Nat}{g_:List (List Int)}{AT:List Bool}{r:Bool×Int}(h:Pw n g_ AT=some r):EQ 80 [.sl 1 g_.length (AP BX g_),.bools AT] [] (.tup 2 (L1 [.bool r.1,.i r.2])) [] true:=by
 refine ot Tryz.func80 fun B N=>?_
 revert r;apply gO;exact ja 16 0 1 (GJ (c:=RG) (L:=([AT]:List (List Bool))) (vals:=[.bools AT]) rfl ⟨⟨_,rfl,⟨A3,trivial⟩⟩,trivial⟩) (jz 16 0 (jg (Eq.refl 1) (cf Xw [none] fun _=>bi 19 (lE AC [4,5] []) (lN AC [] ((vz B N g_ AT n) _ _ · n Nat.le.refl)))))
def mY (n:Nat)(Ag CZ:Int):Option Bool:= if 0<=CZ/\ CZ<=(IntKind.i64.bits:Int) then some ((bits .and .i64 (Ag/2 ^ (CZ).toNat) 1)==1) else none
def Hs (n:Nat)(Ag CZ:Int):Option Bool:=mY n Ag CZ
theorem J0 {n:Nat}{Ag CZ:Int}{r:Bool}(h:Hs n Ag CZ=some r):EQ 53 [.i Ag,.i CZ] [] (.bool r) [] true:=by
 refine ot Tryz.func53 fun B N=>?_
 revert r;apply gO;exact gi (lE AC [4] [])
def vE (n:Nat)(AE cells:List Int)(Ag:Int):Option Unit:= some ()
def vH (n:Nat)(AE cells:List Int)(Ag:Int):Option Unit:=vE n AE cells Ag
theorem vD {n:Nat}(AE cells:List Int)(Ag:Int){r:Unit}(h:vH n AE cells Ag=some r):EQ 51 [.ints AE,.ints cells,.i Ag] [] (.fn 77 3 (L1 [.ref 0 0,.ref 1 0,.ref 2 0])) [oC [.ints cells],oC [.i Ag],oC [.ints AE]] true:=by
 refine ot Tryz.func51 fun B N=>?_
 revert r;apply gO;exact lE AC [6] [1,2,0]
theorem t6:As (Aj Tryz.f77 4) [([0,1,2,3,4],5)] [] []:=by unfold As;kernel_rfl
def Kr:Bh:=fun i=>match i with
 | 4=>.ord [([0,1,2,3,4],5)] [] []
 | _=>.no
inductive Pr where
 | l1 (x5 x10:Int)
def Nt (n:Nat)(self:Pr -> Option (List Int))(CA:List Int)(Ag:Int)(AE:List Int)(x5 x10:Int):Option (List Int):= bif (decide (x10<(CA.length:Int))) then if (0<=x10/\ x10<(CA.length:Int))/\ (0<=(CA.getD ((x10).toNat) 0)/\ (CA.getD ((x10).toNat) 0)<(AE.length:Int)) then (Hs n Ag (AE.getD ((CA.getD ((x10).toNat) 0).toNat) 0)).bind fun y1=> bif y1 then if AJ (x5+1)/\ AJ (x10+1) then self (.l1 (x5+1) (x10+1)) else none else bif (decide (x5>0)) then bif (decide (x5>0)) then Option.map (fun l=>x5::l) (if AJ (x10+1) then self (.l1 0 (x10+1)) else none) else if AJ (x10+1) then self (.l1 0 (x10+1)) else none else if AJ (x10+1) then self (.l1 0 (x10+1)) else none else none else bif (decide (x5>0)) then Option.map (fun l=>x5::l) (some []) else some []
def jT (n:Nat)(self:Pr -> Option (List Int))(CA:List Int)(Ag:Int)(AE:List Int):Option (List Int):= self (.l1 0 0)
def G8 (CA:List Int)(Ag:Int)(AE:List Int):Nat -> Pr -> Option (List Int)
 | 0,_=>none
 | n+1,.l1 x5 x10=>Nt n (G8 CA Ag AE n) CA Ag AE x5 x10
def Ps (n:Nat)(CA:List Int)(Ag:Int)(AE:List Int):Option (List Int):=jT n (G8 CA Ag AE n) CA Ag AE
def Z0 (C:Ba Tryz.prog)(n:Nat)(CA:List Int)(Ag:Int)(AE:List Int)(r:List Int):Pr -> Prop
 | .l1 x5 x10=>∀ m0:Nat,n<=m0 -> ∀ i:Nat,i<=C.encs.length -> C.encs.drop i=r.map BP -> Ap Tryz.prog GG Fence.wide none 3 (C.Y GG 3 i) (C.Q GG 3) (A4 m0 (BB (AX Tryz.f77) 0 [])) ⟨AG 36 [(0,.yl C.l),(2,.ref 1 0),(3,.ref 2 0),(5,.i x5),(8,.ints CA),(9,.i (CA.length:Int)),(10,.i x10)],[oC [.ints CA],oC [.i Ag],oC [.ints AE]]⟩
theorem vI (C:Ba Tryz.prog)(n:Nat)(self:Pr -> Option (List Int))(CA:List Int)(Ag:Int)(AE:List Int)(AI: ∀ pt r,self pt=some r -> Z0 C n CA Ag AE r pt)(x5 x10:Int)(r:List Int)(h:Nt n self CA Ag AE x5 x10=some r):Z0 C (n+1) CA Ag AE r (.l1 x5 x10):=by
 intro m0 AD;intro i hi hd;refine rd AD fun m0 AD=>?_
 unfold Nt at h;have p:=H0;rcases By h with ⟨c0,h⟩ | ⟨c0,h⟩
 ·obtain ⟨⟨g0,g1⟩,h⟩:=B0 h;obtain ⟨y1,A7,h⟩:=Fm h;have p:=H0.b 11 c0 |>.g g0 |>.g t6 |>.g g1 |>.c (fb (J0 A7) [oC [.ints CA],oC [.i Ag],oC [.ints AE]])
  rcases By h with ⟨c1,h⟩ | ⟨c1,h⟩
  ·obtain ⟨⟨g2,g3⟩,h⟩:=B0 h;have p:=p.b 19 c1 |>.w 21 g2 |>.w 30 g3
   exact gg Kr [0,1,2] p (AI _ _ h m0 AD i hi hd)
  ·have p:=p.b 19 c1;rcases By h with ⟨c2,h⟩ | ⟨c2,h⟩
   ·refine gs (AV 6 Kr) [0,1,2] p (Co (AX Tryz.f77) 6 [m0]) (AG 36 [(0,.yl C.l),(2,.ref 1 0),(3,.ref 2 0),(5,.i x5),(8,.ints CA),(9,.i (CA.length:Int)),(10,.i x10)]) [oC [.ints CA],oC [.i Ag],oC [.ints AE]] ?_;have p:=H0;rcases By h with ⟨c0,h⟩ | ⟨c0,h⟩
    ·have p:=H0.b 23 c0;obtain ⟨r,h2,rfl⟩:=K5 h;clear h;have h:=h2;clear h2;obtain ⟨hx,hi,hd⟩:=Uc hd;refine Ap.y (ops:=Aj Tryz.f77 6) HC.x 5 [0,2,3,8,9,10,29] [0,1,2] p (x:=BP x5) (AG 36 [(0,.yl C.l),(2,.ref 1 0),(3,.ref 2 0),(8,.ints CA),(9,.i (CA.length:Int)),(10,.i x10),(29,.bool false)]) [oC [.ints CA],oC [.i Ag],oC [.ints AE]] (AG 36 [(0,.yl C.l),(2,.ref 1 0),(3,.ref 2 0),(8,.ints CA),(9,.i (CA.length:Int)),(10,.i x10),(29,.bool true)]) [oC [.ints CA],oC [.i Ag],oC [.ints AE]] (by kernel_rfl) (by kernel_rfl) (by kernel_rfl) hx (by kernel_rfl) ?_ ?_
     ·generalize i+1=i at hi hd ⊢
      obtain ⟨g2,h⟩:=B0 h;have p:=H0.w 30 g2;exact gg Kr [0,1,2] p (AI _ _ h m0 AD i hi hd)
     ·exact TrI.e HC.x Kr 6 H0 (by kernel_rfl) (.inr rfl)
    ·obtain ⟨g2,h⟩:=B0 h;have p:=H0.b 23 c0 |>.w 30 g2
     exact gg Kr [0,1,2] p (AI _ _ h m0 AD i hi hd)
   ·obtain ⟨g2,h⟩:=B0 h;have p:=p.b 23 c2 |>.w 30 g2
    exact gg Kr [0,1,2] p (AI _ _ h m0 AD i hi hd)
 ·have p:=H0.b 11 c0;rcases By h with ⟨c1,h⟩ | ⟨c1,h⟩
  ·have p:=p.b 32 c1;refine gs (AV 10 Kr) [0,1,2] p (Co (AX Tryz.f77) 10 []) (AG 36 [(0,.yl C.l),(5,.i x5)]) [oC [.ints CA],oC [.i Ag],oC [.ints AE]] ?_;have p:=H0;obtain ⟨r,h2,rfl⟩:=K5 h;cases h2;obtain ⟨hx,hi,hd⟩:=Uc hd;exact Ap.yE (ops:=Aj Tryz.f77 10) HC.x 2 p (x:=BP x5) (by kernel_rfl) (by kernel_rfl) (by kernel_rfl) hx (O9 hi hd)
  ·have p:=p.b 32 c1;cases h;exact TrI.e HC.x Kr 14 p (by kernel_rfl) (.inl (by rw [O9 hi hd]))
theorem jU (C:Ba Tryz.prog)(CA:List Int)(Ag:Int)(AE:List Int): ∀ (n:Nat) (pt:Pr) (r:List Int),G8 CA Ag AE n pt=some r -> Z0 C n CA Ag AE r pt
 | 0,_,_,h=>by cases h
 | n+1,.l1 x5 x10,r,h=>vI C n (G8 CA Ag AE n) CA Ag AE (jU C CA Ag AE n) x5 x10 r h
theorem vJ {n:Nat}(CA:List Int)(Ag:Int)(AE:List Int){r:List Int}(h:Ps n CA Ag AE=some r)(C:Ba Tryz.prog)(hC:C.encs=r.map BP):Ap Tryz.prog GG Fence.wide none 3 (C.Y GG 3 0) (C.Q GG 3) [.code (AX Tryz.f77)] ⟨AG 36 [(0,.yl C.l),(1,.ref 0 0),(2,.ref 1 0),(3,.ref 2 0)],[oC [.ints CA],oC [.i Ag],oC [.ints AE]]⟩:=by
 suffices H: ∀ i:Nat,i<=C.encs.length -> C.encs.drop i=r.map BP -> Ap Tryz.prog GG Fence.wide none 3 (C.Y GG 3 i) (C.Q GG 3) [.code (AX Tryz.f77)] ⟨AG 36 [(0,.yl C.l),(1,.ref 0 0),(2,.ref 1 0),(3,.ref 2 0)],[oC [.ints CA],oC [.i Ag],oC [.ints AE]]⟩ from H 0 (zDJ _) (by rw [zGN];exact hC)
 intro i hi hd;have AI:=jU C CA Ag AE n;unfold Ps at h
 generalize G8 CA Ag AE n=self at h AI
 unfold jT at h;have p:=H0;exact gg Kr [0,1,2] p (en n (AI _ _ h n Nat.le.refl i hi hd))
theorem vG {n:Nat}{AE:List Int}{cells:List Int}{Ag:Int}{r:List Int}(h:Ps n cells Ag AE=some r)(H:DH):EQ 51 [.ints AE,.ints cells,.i Ag] H (.it H.length) (H++[some (.iter (r.map BP))]) true:=by
 refine ES.iterN (c:=L1 [.ref 0 0,.ref 1 0,.ref 2 0]) (h0:=[oC [.ints cells],oC [.i Ag],oC [.ints AE]]) (fn:=Tryz.f77) (vD (n:=0) AE cells Ag (r:=()) rfl) (by kernel_rfl) Tryz.func77 (by kernel_rfl) (by kernel_rfl) (by kernel_rfl) (fun C hC=>?_) H;have e:DV.yl C.l::(List.range 3).map (L1 [.ref 0 0,.ref 1 0,.ref 2 0])++List.replicate (Tryz.f77.ntmps-(3+1)) .any=AG 36 [(0,.yl C.l),(1,.ref 0 0),(2,.ref 1 0),(3,.ref 2 0)]:=by kernel_rfl
 rw [e];exact vJ cells Ag AE h C hC
inductive Lf where
 | s0
 | s1 (E6:Nat) (Dp:List Int)
def qR:Lf -> DH
 | .s0=>[none,oC [.nils]]
 | .s1 E6 Dp=>[none,oC [.msl 2 1 0 E6],oI Dp]
def U5 (n:Nat)(e6:Int):Option Lf:= if (0=0/\ 1=([e6]:List Int).length)/\ 0<([e6]:List Int).length/\ ([e6]:List Int).length<=BA then some (.s1 (([e6]:List Int).length) ([e6]:List Int)) else none
def U4 (n:Nat)(e6:Int)(E6:Nat)(Dp:List Int):Option Lf:= if (0=0/\ 1=([e6]:List Int).length)/\ (0=0/\ E6=Dp.length)/\ Dp.length+([e6]:List Int).length<=BA then some (.s1 (Dp.length+([e6]:List Int).length) (Dp++([e6]:List Int))) else none
def zFq (n:Nat)(e6:Int):Lf -> Option Lf
 | .s0=>U5 n e6
 | .s1 E6 Dp=>U4 n e6 E6 Dp
def Yw (n:Nat)(e6:Int)(s:Lf):Option Lf:=zFq n e6 s
theorem zFp (n:Nat)(l B:Nat)(N:Yd 2)(e6:Int)(s:Lf)(r:Lf)(h:Yw n e6 s=some r):TA l B N (Cp 2 [] 0 (qR r)) Tryz.f76 6 ⟨AG 13 [(2,.ref 1 0),(6,.it 0),(7,.i e6)],qR s⟩:=by
 cases s with
 | s0=>
  replace h:U5 n e6=some r:=h;unfold U5 at h;refine ag AC [0,1] H0 (AG 13 [(2,.ref 1 0),(5,.i e6)]) [none,oC [.nils]] fun N=>?_
  revert r;apply gO;exact gi (jt (lF fun p=>rr AC [0,1,3] rfl p))
 | s1 E6 Dp=>
  replace h:U4 n e6 E6 Dp=some r:=h;unfold U4 at h;refine ag AC [0,1,2] H0 (AG 13 [(2,.ref 1 0),(5,.i e6)]) [none,oC [.msl 2 1 0 E6],oI Dp] fun N=>?_
  revert r;apply gO;exact gi (jt (lF fun p=>rr AC [0,1,4] rfl p))
def fA (n:Nat)(l:List Int):Option ((List Int)):=
 (Bq (Yw n) l (.s0)).bind fun y1=>
  match y1 with
  | .s0=>
   some ([]:List Int)
  | .s1 Pb NT=>
   if Pb=NT.length then
    some NT
   else none
def Yx (n:Nat)(l:List Int):Option ((List Int)):=fA n l
theorem zFo {n:Nat}{l:List Int}{r:(List Int)}(h:Yx n l=some r):EQ 76 [.nils,.it 0] [some (.iter ((l).map BP))] (.ints r) [none] false:=by
 unfold Yx fA at h;refine ot Tryz.func76 fun B N=>?_
 revert r;apply gO
 exact cn fun y1 A7=>fun p r h=>by
  refine gs AC [0,1] p (GD (AX Tryz.f76) 6 []) (AG 13 [(2,.ref 1 0),(6,.it 0)]) [some (.iter ((l).map BP)),oC [.nils]] ?_;refine r0 0 6 #[7] BP 2 A7 (zFp n) ?_;cases y1 with
  | s0=>
   dsimp only at h
   revert r;apply gO;exact lF fun p=>el AC [4] [0] p [] H0 [.nils] AS.ints_nil
  | s1 Pb NT=>
   dsimp only at h
   revert r;apply gO;exact gn fun g0=>lF fun p=>ez AC [4] [0,2] p [1] (H0.g g0)
def eB (n:Nat)(l:List Int):Option ((List Int)):= (Yx n l).bind fun y1=> some y1
def PE (n:Nat)(l:List Int):Option ((List Int)):=eB n l
theorem zE5 {n:Nat}{l:List Int}{r:(List Int)}(h:PE n l=some r):EQ 50 [.it 0] [some (.iter ((l).map BP))] (.ints r) [none] false:=by
 unfold PE eB at h;refine ot Tryz.func50 fun B N=>?_
 revert r;apply gO;exact ce zFo [0] [some (.iter ((l).map BP))] fun _=>lE AC [2] [0]
inductive YS where
 | l1 (x5 x10:Int)
def Ud (n:Nat)(self:YS -> Option Bool)(AE cells:List Int)(x5 x10:Int):Option Bool:= bif (decide (x10<(cells.length:Int))) then if (0<=x10/\ x10<(cells.length:Int))/\ (0<=(cells.getD ((x10).toNat) 0)/\ (cells.getD ((x10).toNat) 0)<(AE.length:Int)) then (Hs n x5 (AE.getD ((cells.getD ((x10).toNat) 0).toNat) 0)).bind fun y1=> bif y1 then some false else if (0<=AE.getD ((cells.getD ((x10).toNat) 0).toNat) 0/\ AE.getD ((cells.getD ((x10).toNat) 0).toNat) 0<=(IntKind.i64.bits:Int))/\ AJ (x10+1) then self (.l1 (bits .or .i64 x5 (IntKind.i64.wrap (1*2 ^ (AE.getD ((cells.getD ((x10).toNat) 0).toNat) 0).toNat))) (x10+1)) else none else none else some true
def zEE (n:Nat)(self:YS -> Option Bool)(AE cells:List Int):Option Bool:= self (.l1 0 0)
def NA (AE cells:List Int):Nat -> YS -> Option Bool
 | 0,_=>none
 | n+1,.l1 x5 x10=>Ud n (NA AE cells n) AE cells x5 x10
def YT (n:Nat)(AE cells:List Int):Option Bool:=zEE n (NA AE cells n) AE cells
def zEF (n B:Nat)(N:Yd 0)(AE cells:List Int)(r:Bool):YS -> Prop
 | .l1 x5 x10=>∀ m0:Nat,n<=m0 -> TW B N (FQ Tryz.f46 0 (.bool r) []) (A4 m0 (BB (AX Tryz.f46) 0 [])) ⟨AG 28 [(0,.ints AE),(5,.i x5),(8,.ints cells),(9,.i (cells.length:Int)),(10,.i x10)],[]⟩
theorem zEG (B:Nat)(N:Yd 0)(AE cells:List Int):Al (NA AE cells) (zEF · B N AE cells):=ia (fun _=>rfl) fun n AI pt r h=>by
 cases pt
 case l1 x5 x10=>
  intro m0 AD;refine rd AD fun m0 AD=>?_
  revert r;apply gO;exact bi 11 (gc (gi (gn fun g1=>jg g1 (cf J0 [] fun _=>bi 19 (lE AC [4] []) (jg g1 (gc (gi (gw 27 (lG AC [] (AI _ _ · m0 AD)))))))))) (lE AC [4] [])
theorem zED {n:Nat}{AE cells:List Int}{r:Bool}(h:YT n AE cells=some r):EQ 46 [.ints AE,.ints cells] [] (.bool r) [] true:=by
 refine ot Tryz.func46 fun B N=>?_
 revert r;apply gO;exact lN AC [] ((zEG B N AE cells n) _ _ · n Nat.le.refl)
inductive YY where
 | l1 (x6 Bb:Int)
def Up (n:Nat)(self:YY -> Option Int)(AE cells:List Int)(Ag:Int)(x6 Bb:Int):Option Int:= bif (decide (Bb<(cells.length:Int))) then if (0<=Bb/\ Bb<(cells.length:Int))/\ (0<=(cells.getD ((Bb).toNat) 0)/\ (cells.getD ((Bb).toNat) 0)<(AE.length:Int)) then (Hs n Ag (AE.getD ((cells.getD ((Bb).toNat) 0).toNat) 0)).bind fun y1=> bif y1 then if AJ (x6+1)/\ AJ (Bb+1) then self (.l1 (x6+1) (Bb+1)) else none else if AJ (Bb+1) then self (.l1 x6 (Bb+1)) else none else none else some x6
def zEj (n:Nat)(self:YY -> Option Int)(AE cells:List Int)(Ag:Int):Option Int:= self (.l1 0 0)
def RB (AE cells:List Int)(Ag:Int):Nat -> YY -> Option Int
 | 0,_=>none
 | n+1,.l1 x6 Bb=>Up n (RB AE cells Ag n) AE cells Ag x6 Bb
def YZ (n:Nat)(AE cells:List Int)(Ag:Int):Option Int:=zEj n (RB AE cells Ag n) AE cells Ag
def zEk (n B:Nat)(N:Yd 0)(AE cells:List Int)(Ag:Int)(r:Int):YY -> Prop
 | .l1 x6 Bb=>∀ m0:Nat,n<=m0 -> TW B N (FQ Tryz.f47 0 (.i r) []) (A4 m0 (BB (AX Tryz.f47) 0 [])) ⟨AG 25 [(0,.ints AE),(2,.i Ag),(6,.i x6),(9,.ints cells),(10,.i (cells.length:Int)),(11,.i Bb)],[]⟩
theorem zEl (B:Nat)(N:Yd 0)(AE cells:List Int)(Ag:Int):Al (RB AE cells Ag) (zEk · B N AE cells Ag):=ia (fun _=>rfl) fun n AI pt r h=>by
 cases pt
 case l1 x6 Bb=>
  intro m0 AD;refine rd AD fun m0 AD=>?_
  revert r;apply gO;exact bi 12 (gc (gi (gi (cf J0 [] fun _=>bi 20 (gc (gw 22 (gw 23 (lG AC [] (AI _ _ · m0 AD))))) (gw 23 (lG AC [] (AI _ _ · m0 AD))))))) (lE AC [6] [])
theorem zEi {n:Nat}{AE cells:List Int}{Ag:Int}{r:Int}(h:YZ n AE cells Ag=some r):EQ 47 [.ints AE,.ints cells,.i Ag] [] (.i r) [] true:=by
 refine ot Tryz.func47 fun B N=>?_
 revert r;apply gO;exact lN AC [] ((zEl B N AE cells Ag n) _ _ · n Nat.le.refl)
inductive Vd where
 | l1 (x6 Bb:Int)
def Rq (n:Nat)(self:Vd -> Option Int)(values AE cells:List Int)(x6 Bb:Int):Option Int:= bif (decide (Bb<(cells.length:Int))) then if (0<=Bb/\ Bb<(cells.length:Int))/\ (0<=(cells.getD ((Bb).toNat) 0)/\ (cells.getD ((Bb).toNat) 0)<(AE.length:Int))/\ (0<=(AE.getD ((cells.getD ((Bb).toNat) 0).toNat) 0)/\ (AE.getD ((cells.getD ((Bb).toNat) 0).toNat) 0)<(values.length:Int))/\ AJ (x6+(values.getD ((AE.getD ((cells.getD ((Bb).toNat) 0).toNat) 0).toNat) 0))/\ AJ (Bb+1) then self (.l1 (x6+(values.getD ((AE.getD ((cells.getD ((Bb).toNat) 0).toNat) 0).toNat) 0)) (Bb+1)) else none else some x6
def sB (n:Nat)(self:Vd -> Option Int)(values AE cells:List Int):Option Int:= self (.l1 0 0)
def Pk (values AE cells:List Int):Nat -> Vd -> Option Int
 | 0,_=>none
 | n+1,.l1 x6 Bb=>Rq n (Pk values AE cells n) values AE cells x6 Bb
def Ve (n:Nat)(values AE cells:List Int):Option Int:=sB n (Pk values AE cells n) values AE cells
def sC (n B:Nat)(N:Yd 0)(values AE cells:List Int)(r:Int):Vd -> Prop
 | .l1 x6 Bb=>∀ m0:Nat,n<=m0 -> TW B N (FQ Tryz.f48 0 (.i r) []) (A4 m0 (BB (AX Tryz.f48) 0 [])) ⟨AG 26 [(0,.ints values),(1,.ints AE),(6,.i x6),(9,.ints cells),(10,.i (cells.length:Int)),(11,.i Bb)],[]⟩
theorem sD (B:Nat)(N:Yd 0)(values AE cells:List Int):Al (Pk values AE cells) (sC · B N values AE cells):=ia (fun _=>rfl) fun n AI pt r h=>by
 cases pt
 case l1 x6 Bb=>
  intro m0 AD;refine rd AD fun m0 AD=>?_
  revert r;apply gO;exact bi 12 (gc (gi (gc (gi (gc (gi (gc (gw 23 (gw 24 (lG AC [] (AI _ _ · m0 AD))))))))))) (lE AC [6] [])
theorem sA {n:Nat}{values AE cells:List Int}{r:Int}(h:Ve n values AE cells=some r):EQ 48 [.ints values,.ints AE,.ints cells] [] (.i r) [] true:=by
 refine ot Tryz.func48 fun B N=>?_
 revert r;apply gO;exact lN AC [] ((sD B N values AE cells n) _ _ · n Nat.le.refl)
inductive V8 where
 | l1 (x7 Bi:Int)
def So (n:Nat)(self:V8 -> Option Bool)(values AE cells:List Int)(x7 Bi:Int):Option Bool:= bif (decide (Bi<(cells.length:Int))) then if (0<=Bi/\ Bi<(cells.length:Int))/\ (0<=(cells.getD ((Bi).toNat) 0)/\ (cells.getD ((Bi).toNat) 0)<(AE.length:Int))/\ (0<=(AE.getD ((cells.getD ((Bi).toNat) 0).toNat) 0)/\ (AE.getD ((cells.getD ((Bi).toNat) 0).toNat) 0)<(values.length:Int)) then bif (decide ((values.getD ((AE.getD ((cells.getD ((Bi).toNat) 0).toNat) 0).toNat) 0)<=x7)) then some false else if AJ (Bi+1) then self (.l1 (values.getD ((AE.getD ((cells.getD ((Bi).toNat) 0).toNat) 0).toNat) 0) (Bi+1)) else none else none else some true
def vp (n:Nat)(self:V8 -> Option Bool)(values AE cells:List Int):Option Bool:= self (.l1 (-1) 0)
def MF (values AE cells:List Int):Nat -> V8 -> Option Bool
 | 0,_=>none
 | n+1,.l1 x7 Bi=>So n (MF values AE cells n) values AE cells x7 Bi
def V9 (n:Nat)(values AE cells:List Int):Option Bool:=vp n (MF values AE cells n) values AE cells
def vq (n B:Nat)(N:Yd 0)(values AE cells:List Int)(r:Bool):V8 -> Prop
 | .l1 x7 Bi=>∀ m0:Nat,n<=m0 -> TW B N (FQ Tryz.f49 0 (.bool r) []) (A4 m0 (BB (AX Tryz.f49) 0 [])) ⟨AG 33 [(0,.ints values),(1,.ints AE),(7,.i x7),(10,.ints cells),(11,.i (cells.length:Int)),(12,.i Bi)],[]⟩
theorem vr (B:Nat)(N:Yd 0)(values AE cells:List Int):Al (MF values AE cells) (vq · B N values AE cells):=ia (fun _=>rfl) fun n AI pt r h=>by
 cases pt
 case l1 x7 Bi=>
  intro m0 AD;refine rd AD fun m0 AD=>?_
  revert r;apply gO;exact bi 13 (gc (gi (gc (gn fun g1=>jg g1 (gn fun g2=>jg g2 (bi 24 (lE AC [6] []) (jg g1 (jg g2 (gw 32 (lG AC [] (AI _ _ · m0 AD))))))))))) (lE AC [6] [])
theorem vo {n:Nat}{values AE cells:List Int}{r:Bool}(h:V9 n values AE cells=some r):EQ 49 [.ints values,.ints AE,.ints cells] [] (.bool r) [] true:=by
 refine ot Tryz.func49 fun B N=>?_
 revert r;apply gO;exact lN AC [] ((vr B N values AE cells n) _ _ · n Nat.le.refl)
def qV (n:Nat)(a b_ n_:Int):Option Bool:= if AJ (a-b_)/\ AJ (b_-a) then some (decide ((if (b_-a)>(a-b_) then (b_-a) else (a-b_))>=n_)) else none
def fC (n:Nat)(a b_ n_:Int):Option Bool:=qV n a b_ n_
theorem zFw {n:Nat}{a b_ n_:Int}{r:Bool}(h:fC n a b_ n_=some r):EQ 52 [.i a,.i b_,.i n_] [] (.bool r) [] true:=by
 refine ot Tryz.func52 fun B N=>?_
 revert r;apply gO;exact gc (gw 9 (gw 12 (lE AC [6] [])))
theorem uc:As (Aj Tryz.f78 0) [([0,1,2,3,4,5,6],7)] [8] [9]:=by unfold As;kernel_rfl
def tM:Bh:=fun i=>match i with
 | 0=>.ord [([0,1,2,3,4,5,6],7)] [8] [9]
 | _=>.no
def lU (n:Nat)(c_ Ag:Int)(AE:List Int)(ln:Nat)(mk:List Bool):Option ((List Bool)):= if 0<=c_/\ c_<(AE.length:Int) then (Hs n Ag (AE.getD ((c_).toNat) 0)).bind fun y1=> if (0<=c_/\ c_<(ln:Int))/\ 0+((c_).toNat)<mk.length then some (mk.set (0+((c_).toNat)) y1) else none else none
def bG (n:Nat)(c_ Ag:Int)(AE:List Int)(ln:Nat)(mk:List Bool):Option ((List Bool)):=lU n c_ Ag AE ln mk
theorem yM {n:Nat}{c_ Ag:Int}{AE:List Int}{ln:Nat}{mk:List Bool}{r:(List Bool)}(h:bG n c_ Ag AE ln mk=some r):EQ 78 [.i c_,.ref 0 0,.ref 1 0,.ref 2 0] [oC [.i Ag],oC [.ints AE],oC [.msl 3 1 0 ln],some (.bools mk)] (.tup 0 (fun j=>([]:List DV).getD j .any)) [oC [.i Ag],oC [.ints AE],oC [.msl 3 1 0 ln],some (.bools r)] false:=by
 refine ot Tryz.func78 fun B N=>?_
 revert r;apply gO;exact jg uc (gi (cf J0 [oC [.i Ag],oC [.ints AE],oC [.msl 3 1 0 ln],some (.bools mk)] fun _=>gc (gi (gi (lE tM [] [0,1,2,3])))))
inductive XB where
 | l1 (Cw:Int) (o1:List Bool)
def Tf (n:Nat)(self:XB -> Option Bool)(ET:List (List Int))(AE cells:List Int)(Ag:Int)(loop:Bool)(Cw:Int)(o1:List Bool):Option Bool:= bif (decide (Cw<(cells.length:Int))) then if 0<=Cw/\ Cw<(cells.length:Int) then (bG n (cells.getD ((Cw).toNat) 0) Ag AE AE.length o1).bind fun y1=> if AJ (Cw+1) then self (.l1 (Cw+1) y1) else none else none else if AE.length=o1.length then (Yh n ET o1).bind fun y1=> bif (!loop) then some (decide ((y1.1.length:Int)<=1)) else bif ((y1.1.length:Int)==0) then some (decide ((y1.1.length:Int)<=1)) else (Pw n ET o1).bind fun y2=> some y2.1 else none
def mK (n:Nat)(self:XB -> Option Bool)(ET:List (List Int))(AE cells:List Int)(Ag:Int)(loop:Bool):Option Bool:= if ((AE.length:Int):Int)=(AE.length:Int)/\ 0<=(AE.length:Int)/\ ((AE.length:Int):Int)<=1000000000000 then self (.l1 0 (List.replicate AE.length false)) else none
def QR (ET:List (List Int))(AE cells:List Int)(Ag:Int)(loop:Bool):Nat -> XB -> Option Bool
 | 0,_=>none
 | n+1,.l1 Cw o1=>Tf n (QR ET AE cells Ag loop n) ET AE cells Ag loop Cw o1
def QS (n:Nat)(ET:List (List Int))(AE cells:List Int)(Ag:Int)(loop:Bool):Option Bool:=mK n (QR ET AE cells Ag loop n) ET AE cells Ag loop
def zm (n B:Nat)(N:Yd 0)(ET:List (List Int))(AE cells:List Int)(Ag:Int)(loop:Bool)(r:Bool):XB -> Prop
 | .l1 Cw o1=>∀ m0:Nat,n<=m0 -> TW B N (FQ Tryz.f54 0 (.bool r) []) (A4 m0 (BB (AX Tryz.f54) 0 [])) ⟨AG 56 [(0,.sl 1 ET.length (AP BX ET)),(4,.bool loop),(11,.ref 0 0),(12,.fn 78 3 (L1 [.ref 2 0,.ref 3 0,.ref 0 0])),(23,.ints cells),(24,.i (cells.length:Int)),(25,.i Cw)],[oC [.msl 1 1 0 AE.length],some (.bools o1),oC [.i Ag],oC [.ints AE]]⟩
theorem zn (B:Nat)(N:Yd 0)(ET:List (List Int))(AE cells:List Int)(Ag:Int)(loop:Bool):Al (QR ET AE cells Ag loop) (zm · B N ET AE cells Ag loop):=ia (fun _=>rfl) fun n AI pt r h=>by
 cases pt
 case l1 Cw o1=>
  intro m0 AD;refine rd AD fun m0 AD=>?_
  revert r;apply gO
  exact bi 26 (gi (ce yM [2,3,0,1] [oC [.msl 1 1 0 AE.length],some (.bools o1),oC [.i Ag],oC [.ints AE]] fun _=>gw 32 (lG AC [0,1,2,3] (AI _ _ · m0 AD)))) (gn fun g0=>fun p r h=>by
   refine gz (AV 8 AC) [0,1] p [1] (H0.g g0) (Co (AX Tryz.f54) 8 []) (AG 56 [(0,.sl 1 ET.length (AP BX ET)),(4,.bool loop),(11,.ref 0 0)]) [oC [.bools o1],none] ?_;revert r;apply gO;exact cf zEx [oC [.bools o1],none] fun _=>bi 40 (lE AC [10] []) (bi 44 (lE AC [10] []) (cf vt [oC [.bools o1],none] fun _=>lE AC [10] [])))
theorem zl {n:Nat}{ET:List (List Int)}{AE cells:List Int}{Ag:Int}{loop:Bool}{r:Bool}(h:QS n ET AE cells Ag loop=some r):EQ 54 [.sl 1 ET.length (AP BX ET),.ints AE,.ints cells,.i Ag,.bool loop] [] (.bool r) [] true:=by
 refine ot Tryz.func54 fun B N=>?_
 revert r;apply gO;exact gi (jt (lN AC [3,2,1,0] ((zn B N ET AE cells Ag loop n) _ _ · n Nat.le.refl)))
def eO (n:Nat)(v:Int)(c:AB):Option Bool:= bif (decide (c.lo<=v)) then some (decide (v<=c.hi)) else some false
def PK (n:Nat)(v:Int)(c:AB):Option Bool:=eO n v c
theorem p8 {n:Nat}{v:Int}{c:AB}{r:Bool}(h:PK n v c=some r):EQ 45 [.i v,.fp 9 (L1 (Bp c))] [] (.bool r) [] true:=by
 refine ot Tryz.func45 fun B N=>?_
 revert r;apply gO;exact bi 7 (lE AC [3] []) (lE AC [3] [])
theorem ub:As (Aj Tryz.f33 12) [([0,1,2,3,4,7,8],5),([],6),([],9)] [10] []:=by unfold As;kernel_rfl
theorem uZ:As (Aj Tryz.f33 14) [([0,1,2,3,4,5,6,7,8,9,10,11,12,13,14,15,16,17,18,19,20,21,22,23],24)] [25] []:=by unfold As;kernel_rfl
theorem uY:As (Aj Tryz.f33 16) [] (List.range 16) []:=by unfold As;kernel_rfl
def L8:Bh:=fun i=>match i with
 | 12=>.ord [([0,1,2,3,4,7,8],5),([],6),([],9)] [10] []
 | 14=>.ord [([0,1,2,3,4,5,6,7,8,9,10,11,12,13,14,15,16,17,18,19,20,21,22,23],24)] [25] []
 | 16=>.ord [] (List.range 16) []
 | _=>.no
def Js (n:Nat)(q:AA)(c_:AB)(AE:List Int):Option Bool:= bif (c_.kind==1) then (YT n AE c_.cells).bind fun y1=> some y1 else bif (c_.kind==2) then (YZ n AE c_.cells c_.set).bind fun y1=> (PK n y1 c_).bind fun y2=> some y2 else bif (c_.kind==3) then (Ve n q.values AE c_.cells).bind fun y1=> (PK n y1 c_).bind fun y2=> some y2 else bif (c_.kind==4) then (V9 n q.values AE c_.cells).bind fun y1=> some y1 else bif (c_.kind==5) then (Ps n c_.cells c_.set AE).bind fun y1=> (PE n y1).bind fun y2=> (Q3 n y2 c_.runs).bind fun y3=> some y3 else bif (c_.kind==6) then if ((0:Int)<=0/\ 0<(c_.cells.length:Int))/\ (0<=(c_.cells.getD 0 0)/\ (c_.cells.getD 0 0)<(AE.length:Int))/\ (0<=(AE.getD ((c_.cells.getD 0 0).toNat) 0)/\ (AE.getD ((c_.cells.getD 0 0).toNat) 0)<(q.values.length:Int))/\ ((0:Int)<=1/\ 1<(c_.cells.length:Int))/\ (0<=(c_.cells.getD 1 0)/\ (c_.cells.getD 1 0)<(AE.length:Int))/\ (0<=(AE.getD ((c_.cells.getD 1 0).toNat) 0)/\ (AE.getD ((c_.cells.getD 1 0).toNat) 0)<(q.values.length:Int)) then (fC n (q.values.getD ((AE.getD ((c_.cells.getD 0 0).toNat) 0).toNat) 0) (q.values.getD ((AE.getD ((c_.cells.getD 1 0).toNat) 0).toNat) 0) c_.lo).bind fun y1=> some y1 else none else bif (c_.kind==7) then if ((0:Int)<=0/\ 0<(c_.cells.length:Int))/\ (0<=(c_.cells.getD 0 0)/\ (c_.cells.getD 0 0)<(AE.length:Int))/\ ((0:Int)<=1/\ 1<(c_.cells.length:Int))/\ (0<=(c_.cells.getD 1 0)/\ (c_.cells.getD 1 0)<(AE.length:Int)) then (Hs n c_.set (AE.getD ((c_.cells.getD 0 0).toNat) 0)).bind fun y1=> bif y1 then (Hs n c_.other (AE.getD ((c_.cells.getD 1 0).toNat) 0)).bind fun y2=> bif y2 then some false else (Hs n c_.set (AE.getD ((c_.cells.getD 1 0).toNat) 0)).bind fun y3=> bif y3 then (Hs n c_.other (AE.getD ((c_.cells.getD 0 0).toNat) 0)).bind fun y4=> some (!y4) else some true else (Hs n c_.set (AE.getD ((c_.cells.getD 1 0).toNat) 0)).bind fun y2=> bif y2 then (Hs n c_.other (AE.getD ((c_.cells.getD 0 0).toNat) 0)).bind fun y3=> some (!y3) else some true else none else (QS n q.nbrs AE c_.cells c_.set (c_.kind==9)).bind fun y1=> some y1
def Fw (n:Nat)(q:AA)(c_:AB)(AE:List Int):Option Bool:=Js n q c_ AE
theorem yL {n:Nat}{q:AA}{c_:AB}{AE:List Int}{r:Bool}(h:Fw n q c_ AE=some r):EQ 33 [.agg 5 (L1 (AN q)),.agg 9 (L1 (Bp c_)),.ints AE] [] (.bool r) [] true:=by
 refine ot Tryz.func33 fun B N=>?_
 revert r;apply gO;exact bi 14 (cf zED [oC (AN q),oC (Bp c_)] fun _=>lE AC [6] []) (bi 20 (cf zEi [oC (AN q),oC (Bp c_)] fun y1=>cn fun y2 B6=>jc (sb [.i y1,.ref 1 0] (p8 B6) [oC (AN q),oC (Bp c_)] ⟨Ae.plain (by kernel_rfl),(Ae.refL (l:=(Bp c_)) (l0:=(Bp c_)) rfl ⟨Ae.plain (by kernel_rfl),Ae.plain (by kernel_rfl),Ae.plain (by kernel_rfl),Ae.plain (by kernel_rfl),Ae.plain (by kernel_rfl),Ae.plain (by kernel_rfl),Ae.plain (by kernel_rfl),Ae.plain (by kernel_rfl),Ae.plain (by kernel_rfl),trivial⟩),trivial⟩) (lE AC [6] [])) (bi 30 (cf sA [oC (AN q),oC (Bp c_)] fun y1=>cn fun y2 B6=>jc (sb [.i y1,.ref 1 0] (p8 B6) [oC (AN q),oC (Bp c_)] ⟨Ae.plain (by kernel_rfl),(Ae.refL (l:=(Bp c_)) (l0:=(Bp c_)) rfl ⟨Ae.plain (by kernel_rfl),Ae.plain (by kernel_rfl),Ae.plain (by kernel_rfl),Ae.plain (by kernel_rfl),Ae.plain (by kernel_rfl),Ae.plain (by kernel_rfl),Ae.plain (by kernel_rfl),Ae.plain (by kernel_rfl),Ae.plain (by kernel_rfl),trivial⟩),trivial⟩) (lE AC [6] [])) (bi 40 (cf vo [oC (AN q),oC (Bp c_)] fun _=>lE AC [6] []) (bi 48 (jg ub (cn fun y1 A7=>jc (vG A7 [oC (AN q),oC (Bp c_)]) (cn fun y2 B6=>jq (eu (zE5 B6) [2] [oC (AN q),oC (Bp c_),some (.iter ((y1).map BP))] 2) (cf om [oC (AN q),oC (Bp c_),none] fun _=>lE L8 [6] [])))) (bi 60 (jg uZ (gc (gi (gc (gi (gc (gi (gc (gi (gc (gi (gi (cf zFw [oC (AN q),oC (Bp c_)] fun _=>lE L8 [6] []))))))))))))) (bi 87 (jg uY (gc (gi (gc (gi (gc (gi (gi (cf J0 [oC (AN q),oC (Bp c_)] fun _=>bi 105 (cf J0 [oC (AN q),oC (Bp c_)] fun _=>bi 110 (lE L8 [6] []) (cf J0 [oC (AN q),oC (Bp c_)] fun _=>bi 116 (cf J0 [oC (AN q),oC (Bp c_)] fun _=>lE L8 [6] []) (lE L8 [6] []))) (cf J0 [oC (AN q),oC (Bp c_)] fun _=>bi 116 (cf J0 [oC (AN q),oC (Bp c_)] fun _=>lE L8 [6] []) (lE L8 [6] []))))))))))) (cf zl [oC (AN q),oC (Bp c_)] fun _=>lE L8 [6] [])))))))
def f8 (n:Nat)(v Cy:Int):Option Bool:= bif (decide (v<0)) then some true else some (decide (v>=Cy))
def VS (n:Nat)(v Cy:Int):Option Bool:=f8 n v Cy
theorem rK {n:Nat}{v Cy:Int}{r:Bool}(h:VS n v Cy=some r):EQ 75 [.i v,.fp 1 (L1 [.i Cy])] [] (.bool r) [] true:=by
 refine ot Tryz.func75 fun B N=>?_
 revert r;apply gO;exact bi 5 (lE AC [3] []) (lE AC [3] [])
inductive XI where
 | l1 (x8:Int)
def Tl (n:Nat)(self:XI -> Option Int)(l:List Int)(Cy:Int)(x8:Int):Option Int:= bif (decide (x8<(l.length:Int))) then if 0<=x8/\ x8<(l.length:Int) then (VS n (l.getD ((x8).toNat) 0) Cy).bind fun y1=> bif y1 then some x8 else if AJ (x8+1) then self (.l1 (x8+1)) else none else none else some (-1)
def z7 (n:Nat)(self:XI -> Option Int)(l:List Int)(Cy:Int):Option Int:= self (.l1 0)
def Mc (l:List Int)(Cy:Int):Nat -> XI -> Option Int
 | 0,_=>none
 | n+1,.l1 x8=>Tl n (Mc l Cy n) l Cy x8
def mU (n:Nat)(l:List Int)(Cy:Int):Option Int:=z7 n (Mc l Cy n) l Cy
def z8 (n B:Nat)(N:Yd 0)(l:List Int)(Cy:Int)(r:Int):XI -> Prop
 | .l1 x8=>∀ m0:Nat,n<=m0 -> TW B N (FQ Tryz.f101 0 (.i r) []) (A4 m0 (BB (AX Tryz.f101) 0 [])) ⟨AG 19 [(0,.ints l),(1,.fn 75 1 (L1 [.fp 1 (L1 [.i Cy])])),(7,.i (l.length:Int)),(8,.i x8)],[]⟩
theorem zAA (B:Nat)(N:Yd 0)(l:List Int)(Cy:Int):Al (Mc l Cy) (z8 · B N l Cy):=ia (fun _=>rfl) fun n AI pt r h=>by
 cases pt
 case l1 x8=>
  intro m0 AD;refine rd AD fun m0 AD=>?_
  revert r;apply gO;exact bi 9 (gi (cf rK [] fun _=>bi 16 (lE AC [4] []) (gw 18 (lG AC [] (AI _ _ · m0 AD))))) (lE AC [4] [])
theorem z6 {n:Nat}{l:List Int}{Cy:Int}{r:Int}(h:mU n l Cy=some r):EQ 101 [.ints l,.fn 75 1 (L1 [.fp 1 (L1 [.i Cy])])] [] (.i r) [] true:=by
 refine ot Tryz.func101 fun B N=>?_
 revert r;apply gO;exact lN AC [] ((zAA B N l Cy n) _ _ · n Nat.le.refl)
def pW (n:Nat)(l:List Int)(Cy:Int):Option Bool:= (mU n l Cy).bind fun y1=> some (decide (y1>=0))
def d6 (n:Nat)(l:List Int)(Cy:Int):Option Bool:=pW n l Cy
theorem zEo {n:Nat}{l:List Int}{Cy:Int}{r:Bool}(h:d6 n l Cy=some r):EQ 74 [.ints l,.fn 75 1 (L1 [.fp 1 (L1 [.i Cy])])] [] (.bool r) [] true:=by
 unfold d6 pW at h;refine ot Tryz.func74 fun B N=>?_
 revert r;apply gO;exact cf z6 [] fun _=>lE AC [4] []
def dg (n:Nat)(cells symbols:Int)(AE:List Int):Option Bool:= bif ((AE.length:Int)==cells) then (d6 n AE symbols).bind fun y1=> some (!y1) else some false
def UV (n:Nat)(cells symbols:Int)(AE:List Int):Option Bool:=dg n cells symbols AE
theorem zDf {n:Nat}{cells symbols:Int}{AE:List Int}{r:Bool}(h:UV n cells symbols AE=some r):EQ 43 [.i cells,.i symbols,.ints AE] [] (.bool r) [] true:=by
 refine ot Tryz.func43 fun B N=>?_
 revert r;apply gO;exact bi 10 (cn fun y1 A7=>jc (sb [.ints AE,.fn 75 1 (L1 [.ref 0 0])] (zEo A7) [oC [.i symbols]] ⟨Ae.plain (by kernel_rfl),(Ae.fnL (l:=[.ref 0 0]) (l0:=[.fp 1 (L1 [.i symbols])]) ⟨(Ae.refL (l:=[.i symbols]) (l0:=[.i symbols]) rfl ⟨Ae.plain (by kernel_rfl),trivial⟩),trivial⟩),trivial⟩) (lE AC [6] [])) (lE AC [6] [])
def kA (n:Nat)(q:AA)(AE:List Int):Option Int:= (valid n q).bind fun y1=> bif (y1 != 0) then some y1 else (UV n q.cells q.symbols AE).bind fun y2=> bif (!y2) then some 200 else some 0
def WG (n:Nat)(q:AA)(AE:List Int):Option Int:=kA n q AE
theorem wE {n:Nat}{q:AA}{AE:List Int}{r:Int}(h:WG n q AE=some r):EQ 30 [.agg 5 (L1 (AN q)),.ints AE] [] (.i r) [] true:=by
 unfold WG kA at h;refine ot Tryz.func30 fun B N=>?_
 revert r;apply gO;exact cf VN [oC (AN q)] fun _=>bi 8 (lE AC [4] []) (cf zDf [oC (AN q)] fun _=>bi 16 (lE AC [4] []) (lE AC [4] []))
end Go.Proofs.YtkjbblkieglmlaaGreatDoor
namespace Go.Proofs.YtkjbblkieglmlaaGreatDoor
open Go.RowKit
set_option maxRecDepth 100000
set_option maxHeartbeats 40000000
def ZM (n:Nat)(c:AB)(q:AA)(AE:List Int):Option Bool:= (Fw n q c AE).bind fun y1=> some (!y1)
def VQ (n:Nat)(c:AB)(q:AA)(AE:List Int):Option Bool:=ZM n c q AE
theorem rF {n:Nat}{c:AB}{q:AA}{AE:List Int}{r:Bool}(h:VQ n c q AE=some r):EQ 32 [.agg 9 (L1 (Bp c)),.fp 5 (L1 (AN q)),.fp 1 (L1 [.ints AE])] [] (.bool r) [] true:=by
 unfold VQ ZM at h;refine ot Tryz.func32 fun B N=>?_
 revert r;apply gO;exact cf yL [oC (Bp c)] fun _=>lE AC [4] []
inductive XE where
 | l1 (x8:Int)
def Tj (n:Nat)(self:XE -> Option Int)(l:List AB)(q:AA)(AE:List Int)(x8:Int):Option Int:= bif (decide (x8<(l.length:Int))) then if 0<=x8/\ x8<(l.length:Int) then (VQ n (l.getD ((x8).toNat) default) q AE).bind fun y1=> bif y1 then some x8 else if AJ (x8+1) then self (.l1 (x8+1)) else none else none else some (-1)
def zu (n:Nat)(self:XE -> Option Int)(l:List AB)(q:AA)(AE:List Int):Option Int:= self (.l1 0)
def Ma (l:List AB)(q:AA)(AE:List Int):Nat -> XE -> Option Int
 | 0,_=>none
 | n+1,.l1 x8=>Tj n (Ma l q AE n) l q AE x8
def mS (n:Nat)(l:List AB)(q:AA)(AE:List Int):Option Int:=zu n (Ma l q AE n) l q AE
def zv (n B:Nat)(N:Yd 0)(l:List AB)(q:AA)(AE:List Int)(r:Int):XE -> Prop
 | .l1 x8=>∀ m0:Nat,n<=m0 -> TW B N (FQ Tryz.f44 0 (.i r) []) (A4 m0 (BB (AX Tryz.f44) 0 [])) ⟨AG 19 [(0,.sl 9 l.length (AP Bp l)),(1,.fn 32 2 (L1 [.fp 5 (L1 (AN q)),.fp 1 (L1 [.ints AE])])),(7,.i (l.length:Int)),(8,.i x8)],[]⟩
theorem zw (B:Nat)(N:Yd 0)(l:List AB)(q:AA)(AE:List Int):Al (Ma l q AE) (zv · B N l q AE):=ia (fun _=>rfl) fun n AI pt r h=>by
 cases pt
 case l1 x8=>
  intro m0 AD;refine rd AD fun m0 AD=>?_
  revert r;apply gO;exact bi 9 (gi (cf rF [] fun _=>bi 16 (lE AC [4] []) (gw 18 (lG AC [] (AI _ _ · m0 AD))))) (lE AC [4] [])
theorem zt {n:Nat}{l:List AB}{q:AA}{AE:List Int}{r:Int}(h:mS n l q AE=some r):EQ 44 [.sl 9 l.length (AP Bp l),.fn 32 2 (L1 [.fp 5 (L1 (AN q)),.fp 1 (L1 [.ints AE])])] [] (.i r) [] true:=by
 refine ot Tryz.func44 fun B N=>?_
 revert r;apply gO;exact lN AC [] ((zw B N l q AE n) _ _ · n Nat.le.refl)
def pV (n:Nat)(l:List AB)(q:AA)(AE:List Int):Option Bool:= (mS n l q AE).bind fun y1=> some (decide (y1>=0))
def dz (n:Nat)(l:List AB)(q:AA)(AE:List Int):Option Bool:=pV n l q AE
theorem zEm {n:Nat}{l:List AB}{q:AA}{AE:List Int}{r:Bool}(h:dz n l q AE=some r):EQ 31 [.sl 9 l.length (AP Bp l),.fn 32 2 (L1 [.fp 5 (L1 (AN q)),.fp 1 (L1 [.ints AE])])] [] (.bool r) [] true:=by
 unfold dz pV at h;refine ot Tryz.func31 fun B N=>?_
 revert r;apply gO;exact cf zt [] fun _=>lE AC [4] []
def il (n:Nat)(q:AA)(AE:List Int):Option (Bool×Int):= (WG n q AE).bind fun y1=> bif (y1 != 0) then some (false,y1) else (dz n q.cons q AE).bind fun y2=> some ((!y2),0)
def GI (n:Nat)(q:AA)(AE:List Int):Option (Bool×Int):=il n q AE
theorem Rv {n:Nat}{q:AA}{AE:List Int}{r:Bool×Int}(h:GI n q AE=some r):EQ 21 [.agg 5 (L1 (AN q)),.ints AE] [] (.tup 2 (L1 [.bool r.1,.i r.2])) [] true:=by
 unfold GI il at h;refine ot Tryz.func21 fun B N=>?_
 revert r;apply gO;exact cf wE [oC (AN q),oC [.ints AE]] fun _=>bi 10 (lE AC [4,5] []) (cn fun y2 B6=>jc (sb [.sl 9 q.cons.length (AP Bp q.cons),.fn 32 2 (L1 [.ref 0 0,.ref 1 0])] (zEm B6) [oC (AN q),oC [.ints AE]] ⟨Ae.plain (by kernel_rfl),(Ae.fnL (l:=[.ref 0 0,.ref 1 0]) (l0:=[.fp 5 (L1 (AN q)),.fp 1 (L1 [.ints AE])]) ⟨(Ae.refL (l:=(AN q)) (l0:=(AN q)) rfl ⟨Ae.plain (by kernel_rfl),Ae.plain (by kernel_rfl),Ae.plain (by kernel_rfl),Ae.plain (by kernel_rfl),Ae.plain (by kernel_rfl),trivial⟩),(Ae.refL (l:=[.ints AE]) (l0:=[.ints AE]) rfl ⟨Ae.plain (by kernel_rfl),trivial⟩),trivial⟩),trivial⟩) (lE AC [4,5] []))
end Go.Proofs.YtkjbblkieglmlaaGreatDoor
namespace Go.Proofs.YtkjbblkieglmlaaGreatDoor
open Go.RowKit
set_option maxRecDepth 100000
set_option maxHeartbeats 40000000
def k6 (n:Nat)(s_ CZ:Int):Option Int:= if 0<=CZ/\ CZ<=(IntKind.u64.bits:Int) then some (bits .and .u64 s_ (IntKind.u64.wrap (1*2 ^ (CZ).toNat))) else none
def Wg (n:Nat)(s_ CZ:Int):Option Int:=k6 n s_ CZ
theorem xT {n:Nat}{s_ CZ:Int}{r:Int}(h:Wg n s_ CZ=some r):EQ 109 [.int .u64 s_,.i CZ] [] (.int .u64 r) [] true:=by
 refine ot Tryz.func109 fun B N=>?_
 revert r;apply gO;exact gi (lE AC [4] [])
def eK (n:Nat)(q:AA)(pos:List Int)(cell sy:Int):Option ((List Int)×Int):= (N8 n q pos).bind fun y1=> bif (y1 != 0) then some (([]:List Int),y1) else bif (decide (cell<0)) then some (([]:List Int),1) else bif (decide (cell>=q.cells)) then some (([]:List Int),1) else bif (decide (sy<0)) then some (([]:List Int),1) else bif (decide (sy>=q.symbols)) then some (([]:List Int),1) else if ((True)/\ (0=0/\ 0=([]:List Int).length)/\ ([]:List Int).length+pos.length<=BA)/\ (0<=cell/\ cell<((([]:List Int).length+pos.length:Nat):Int))/\ 0+((cell).toNat)<(([]:List Int)++pos).length then (Wg n (IntKind.u64.wrap ((([]:List Int)++pos).getD (0+((cell).toNat)) 0)) sy).bind fun y2=> if ([]:List Int).length+pos.length=((([]:List Int)++pos).set (0+((cell).toNat)) (IntKind.i64.wrap y2)).length then (QC n ((([]:List Int)++pos).set (0+((cell).toNat)) (IntKind.i64.wrap y2))).bind fun y3=> some (y3,0) else none else none
def Yo (n:Nat)(q:AA)(pos:List Int)(cell sy:Int):Option ((List Int)×Int):=eK n q pos cell sy
theorem zFD {n:Nat}{q:AA}{pos:List Int}{cell sy:Int}{r:(List Int)×Int}(h:Yo n q pos cell sy=some r):EQ 108 [.agg 5 (L1 (AN q)),.ints pos,.i cell,.i sy,.fn 109 0 (L1 [])] [] (.tup 2 (L1 [.ints r.1,.i r.2])) [] true:=by
 unfold Yo eK at h;refine ot Tryz.func108 fun B N=>?_
 revert r;apply gO
 exact cf aW [oC (AN q)] fun y1=>bi 18 (lF fun p=>el AC [10,11] [] p [] H0 [.nils,.i y1] (AS.tupL (l:=[.nils,.i y1]) (l':=[.ints ([]:List Int),.i y1]) rfl ⟨AS.ints_nil,A3,trivial⟩)) (bi 21 (lF fun p=>el AC [10,11] [] p [] H0 [.nils,.i 1] (AS.tupL (l:=[.nils,.i 1]) (l':=[.ints ([]:List Int),.i 1]) rfl ⟨AS.ints_nil,A3,trivial⟩)) (bi 26 (lF fun p=>el AC [10,11] [] p [] H0 [.nils,.i 1] (AS.tupL (l:=[.nils,.i 1]) (l':=[.ints ([]:List Int),.i 1]) rfl ⟨AS.ints_nil,A3,trivial⟩)) (bi 30 (lF fun p=>el AC [10,11] [] p [] H0 [.nils,.i 1] (AS.tupL (l:=[.nils,.i 1]) (l':=[.ints ([]:List Int),.i 1]) rfl ⟨AS.ints_nil,A3,trivial⟩)) (bi 36 (lF fun p=>el AC [10,11] [] p [] H0 [.nils,.i 1] (AS.tupL (l:=[.nils,.i 1]) (l':=[.ints ([]:List Int),.i 1]) rfl ⟨AS.ints_nil,A3,trivial⟩)) (gc (gi (gc (gn fun g1=>jg g1 (gn fun g2=>jg g2 (cf xT [oC (AN q),none,oI (([]:List Int)++pos)] fun y2=>jg g1 (jg g2 (gn fun g3=>fun p r h=>by
  refine gz (AV 8 AC) [2] p [0] (H0.g g3) (Co (AX Tryz.f108) 8 []) (AG 55 [(13,.ints ((([]:List Int)++pos).set (0+((cell).toNat)) (IntKind.i64.wrap y2)))]) [none] ?_;revert r;apply gO;exact cf xh [none] fun _=>lE AC [10,11] []))))))))))))
def df (n:Nat)(q:AA)(pos:List Int)(cell CZ:Int):Option ((List Int)×Int):= (Yo n q pos cell CZ).bind fun y1=> some (y1.1,y1.2)
def O6 (n:Nat)(q:AA)(pos:List Int)(cell CZ:Int):Option ((List Int)×Int):=df n q pos cell CZ
theorem zDe {n:Nat}{q:AA}{pos:List Int}{cell CZ:Int}{r:(List Int)×Int}(h:O6 n q pos cell CZ=some r):EQ 86 [.agg 5 (L1 (AN q)),.ints pos,.i cell,.i CZ] [] (.tup 2 (L1 [.ints r.1,.i r.2])) [] true:=by
 unfold O6 df at h;refine ot Tryz.func86 fun B N=>?_
 revert r;apply gO;exact cf zFD [oC (AN q)] fun _=>lE AC [8,9] []
def zBO (IK:Nat)(y1 o1:List Int):DH:=[oC [.msl 4 1 0 IK],oC [.bool false],oC [.i 0],some (.iter ((y1).map BP)),oI o1]
def zBN (Is:Nat)(DA:Int)(G9:List Int):DH:=[oC [.msl 4 1 0 Is],oC [.bool false],oC [.i DA],none,oI G9]
def zBM (It:Nat)(DB:Int)(HA:List Int):DH:=[oC [.msl 4 1 0 It],oC [.bool false],oC [.i DB],none,oI HA]
inductive Ko where
 | s0 (It:Nat) (DB:Int) (HA:List Int)
 | s1 (DA:Int)
def io (pos:List Int)(x10:Int):Ko -> DH
 | .s0 It DB HA=>[oC [.msl 4 1 0 It],oC [.bool false],oC [.i DB],none,oI HA]
 | .s1 DA=>[oC [.nils],oC [.bool false],oC [.i DA],none]
def Nm (n:Nat)(pos:List Int)(x10 Bt:Int)(It:Nat)(DB:Int)(HA:List Int):Option (Ko×Nat):= if AJ (DB+1) then bif (decide ((DB+1)>1)) then some (.s1 (DB+1),1) else bif (decide (Bt>=16)) then some (.s1 (DB+1),1) else if (0=0/\ 1=([Bt]:List Int).length)/\ (0=0/\ It=HA.length)/\ HA.length+([Bt]:List Int).length<=BA then some (.s0 (HA.length+([Bt]:List Int).length) (DB+1) (HA++([Bt]:List Int)),0) else none else none
def Zg (n:Nat)(pos:List Int)(x10 Bt:Int)(DA:Int):Option (Ko×Nat):= if AJ (DA+1) then bif (decide ((DA+1)>1)) then some (.s1 (DA+1),1) else bif (decide (Bt>=16)) then some (.s1 (DA+1),1) else if (0=0/\ 1=([Bt]:List Int).length)/\ 0<([Bt]:List Int).length/\ ([Bt]:List Int).length<=BA then some (.s0 (([Bt]:List Int).length) (DA+1) ([Bt]:List Int),0) else none else none
def sc (n:Nat)(pos:List Int)(x10 Bt:Int):Ko -> Option (Ko×Nat)
 | .s0 It DB HA=>Nm n pos x10 Bt It DB HA
 | .s1 DA=>Zg n pos x10 Bt DA
def SC (n:Nat)(pos:List Int)(x10 Bt:Int)(s:Ko):Option (Ko×Nat):=sc n pos x10 Bt s
theorem sZ (n:Nat)(pos:List Int)(x10:Int)(l B:Nat)(N:Yd 4)(Bt:Int)(s:Ko)(r:Ko×Nat)(h:SC n pos x10 Bt s=some r):TA l B N (Cp 4 [.ret] r.2 (io pos x10 r.1)) Tryz.f89 16 ⟨AG 34 [(2,.ref 0 0),(3,.ref 1 0),(6,.ref 2 0),(8,.ints pos),(9,.i (pos.length:Int)),(10,.i x10),(16,.it 3),(17,.i Bt)],io pos x10 s⟩:=by
 cases s with
 | s0 It DB HA=>
  replace h:Nm n pos x10 Bt It DB HA=some r:=h;unfold Nm at h;refine ag AC [0,1,2,3,4] H0 (AG 34 [(2,.ref 0 0),(3,.ref 1 0),(6,.ref 2 0),(7,.i Bt)]) (zBM It DB HA) fun N=>?_
  revert r;apply gO;exact gw 19 (jt (bi 21 (jt (jt (lF fun p=>rr AC [0,1,2,3] rfl p))) (bi 24 (jt (jt (lF fun p=>rr AC [0,1,2,3] rfl p))) (gi (jt (lF fun p=>rr AC [0,1,2,3,6] rfl p))))))
 | s1 DA=>
  replace h:Zg n pos x10 Bt DA=some r:=h;unfold Zg at h;refine ag AC [0,1,2,3] H0 (AG 34 [(2,.ref 0 0),(3,.ref 1 0),(6,.ref 2 0),(7,.i Bt)]) [oC [.nils],oC [.bool false],oC [.i DA],none] fun N=>?_
  revert r;apply gO;exact gw 19 (jt (bi 21 (jt (jt (lF fun p=>rr AC [0,1,2,3] rfl p))) (bi 24 (jt (jt (lF fun p=>rr AC [0,1,2,3] rfl p))) (gi (jt (lF fun p=>rr AC [0,1,2,3,5] rfl p))))))
inductive Kp where
 | s0 (DB:Int)
 | s1 (Is:Nat) (DA:Int) (G9:List Int)
def im (pos:List Int)(x10:Int):Kp -> DH
 | .s0 DB=>[oC [.nils],oC [.bool false],oC [.i DB],none]
 | .s1 Is DA G9=>[oC [.msl 4 1 0 Is],oC [.bool false],oC [.i DA],none,oI G9]
def SB (n:Nat)(pos:List Int)(x10 Bt:Int)(DB:Int):Option (Kp×Nat):= if AJ (DB+1) then bif (decide ((DB+1)>1)) then some (.s0 (DB+1),1) else bif (decide (Bt>=16)) then some (.s0 (DB+1),1) else if (0=0/\ 1=([Bt]:List Int).length)/\ 0<([Bt]:List Int).length/\ ([Bt]:List Int).length<=BA then some (.s1 (([Bt]:List Int).length) (DB+1) ([Bt]:List Int),0) else none else none
def Rz (n:Nat)(pos:List Int)(x10 Bt:Int)(Is:Nat)(DA:Int)(G9:List Int):Option (Kp×Nat):= if AJ (DA+1) then bif (decide ((DA+1)>1)) then some (.s0 (DA+1),1) else bif (decide (Bt>=16)) then some (.s0 (DA+1),1) else if (0=0/\ 1=([Bt]:List Int).length)/\ (0=0/\ Is=G9.length)/\ G9.length+([Bt]:List Int).length<=BA then some (.s1 (G9.length+([Bt]:List Int).length) (DA+1) (G9++([Bt]:List Int)),0) else none else none
def sY (n:Nat)(pos:List Int)(x10 Bt:Int):Kp -> Option (Kp×Nat)
 | .s0 DB=>SB n pos x10 Bt DB
 | .s1 Is DA G9=>Rz n pos x10 Bt Is DA G9
def SD (n:Nat)(pos:List Int)(x10 Bt:Int)(s:Kp):Option (Kp×Nat):=sY n pos x10 Bt s
theorem sX (n:Nat)(pos:List Int)(x10:Int)(l B:Nat)(N:Yd 4)(Bt:Int)(s:Kp)(r:Kp×Nat)(h:SD n pos x10 Bt s=some r):TA l B N (Cp 4 [.ret] r.2 (im pos x10 r.1)) Tryz.f89 16 ⟨AG 34 [(2,.ref 0 0),(3,.ref 1 0),(6,.ref 2 0),(8,.ints pos),(9,.i (pos.length:Int)),(10,.i x10),(16,.it 3),(17,.i Bt)],im pos x10 s⟩:=by
 cases s with
 | s0 DB=>
  replace h:SB n pos x10 Bt DB=some r:=h;unfold SB at h;refine ag AC [0,1,2,3] H0 (AG 34 [(2,.ref 0 0),(3,.ref 1 0),(6,.ref 2 0),(7,.i Bt)]) [oC [.nils],oC [.bool false],oC [.i DB],none] fun N=>?_
  revert r;apply gO;exact gw 19 (jt (bi 21 (jt (jt (lF fun p=>rr AC [0,1,2,3] rfl p))) (bi 24 (jt (jt (lF fun p=>rr AC [0,1,2,3] rfl p))) (gi (jt (lF fun p=>rr AC [0,1,2,3,5] rfl p))))))
 | s1 Is DA G9=>
  replace h:Rz n pos x10 Bt Is DA G9=some r:=h;unfold Rz at h;refine ag AC [0,1,2,3,4] H0 (AG 34 [(2,.ref 0 0),(3,.ref 1 0),(6,.ref 2 0),(7,.i Bt)]) (zBN Is DA G9) fun N=>?_
  revert r;apply gO;exact gw 19 (jt (bi 21 (jt (jt (lF fun p=>rr AC [0,1,2,3] rfl p))) (bi 24 (jt (jt (lF fun p=>rr AC [0,1,2,3] rfl p))) (gi (jt (lF fun p=>rr AC [0,1,2,3,6] rfl p))))))
inductive SE where
 | l1 (x10:Int)
 | l2 (x10:Int) (IK:Nat) (o1:List Int)
def Nl (n:Nat)(self:SE -> Option ((List Int)×Bool))(pos:List Int)(x10:Int):Option ((List Int)×Bool):=
 bif (decide (x10<(pos.length:Int))) then
  if 0<=x10/\ x10<(pos.length:Int) then
   (Lh n (IntKind.u64.wrap (pos.getD ((x10).toNat) 0))).bind fun y1=>
    (DP (SD n pos x10) y1 (.s0 0)).bind fun y2=>
     bif y2.2==0 then
      match y2.1 with
      | .s0 EO=>
       bif (EO==0) then
        some (([]:List Int),false)
       else
        if AJ (x10+1) then
         self (.l1 (x10+1))
        else none
      | .s1 JS VG PZ=>
       bif (VG==0) then
        some (([]:List Int),false)
       else
        if AJ (x10+1) then
         self (.l2 (x10+1) JS PZ)
        else none
     else
      bif y2.2==1 then
       match y2.1 with
       | .s0 EO=>
        some (([]:List Int),false)
       | .s1 JS VG PZ=>
        if JS=PZ.length then
         some (PZ,false)
        else none
      else
       none
  else none
 else
  some (([]:List Int),true)
def Nk (n:Nat)(self:SE -> Option ((List Int)×Bool))(pos:List Int)(x10:Int)(IK:Nat)(o1:List Int):Option ((List Int)×Bool):=
 bif (decide (x10<(pos.length:Int))) then
  if 0<=x10/\ x10<(pos.length:Int) then
   (Lh n (IntKind.u64.wrap (pos.getD ((x10).toNat) 0))).bind fun y1=>
    (DP (SC n pos x10) y1 (.s0 IK 0 o1)).bind fun y2=>
     bif y2.2==0 then
      match y2.1 with
      | .s0 EO VH Pa=>
       bif (VH==0) then
        some (([]:List Int),false)
       else
        if AJ (x10+1) then
         self (.l2 (x10+1) EO Pa)
        else none
      | .s1 JS=>
       bif (JS==0) then
        some (([]:List Int),false)
       else
        if AJ (x10+1) then
         self (.l1 (x10+1))
        else none
     else
      bif y2.2==1 then
       match y2.1 with
       | .s0 EO VH Pa=>
        if EO=Pa.length then
         some (Pa,false)
        else none
       | .s1 JS=>
        some (([]:List Int),false)
      else
       none
  else none
 else
  if IK=o1.length then
   some (o1,true)
  else none
def sW (n:Nat)(self:SE -> Option ((List Int)×Bool))(pos:List Int):Option ((List Int)×Bool):= self (.l1 0)
def Ge (pos:List Int):Nat -> SE -> Option ((List Int)×Bool)
 | 0,_=>none
 | n+1,.l1 x10=>Nl n (Ge pos n) pos x10
 | n+1,.l2 x10 IK o1=>Nk n (Ge pos n) pos x10 IK o1
def Vk (n:Nat)(pos:List Int):Option ((List Int)×Bool):=sW n (Ge pos n) pos
def sd (n B:Nat)(N:Yd 0)(pos:List Int)(r:(List Int)×Bool):SE -> Prop
 | .l1 x10=>∀ m0:Nat,n<=m0 -> TW B N (FQ Tryz.f89 0 (.tup 2 (L1 [.ints r.1,.bool r.2])) []) (A4 m0 (BB (AX Tryz.f89) 0 [])) ⟨AG 34 [(2,.ref 0 0),(3,.ref 1 0),(8,.ints pos),(9,.i (pos.length:Int)),(10,.i x10)],[oC [.nils],oC [.bool false]]⟩
 | .l2 x10 IK o1=>∀ m0:Nat,n<=m0 -> TW B N (FQ Tryz.f89 0 (.tup 2 (L1 [.ints r.1,.bool r.2])) []) (A4 m0 (BB (AX Tryz.f89) 0 [])) ⟨AG 34 [(2,.ref 0 0),(3,.ref 2 0),(8,.ints pos),(9,.i (pos.length:Int)),(10,.i x10)],[oC [.msl 1 1 0 IK],oI o1,oC [.bool false]]⟩
theorem se (B:Nat)(N:Yd 0)(pos:List Int):Al (Ge pos) (sd · B N pos):=ia (fun _=>rfl) fun n AI pt r h=>by
 cases pt
 case l1 x10=>
  intro m0 AD;refine rd AD fun m0 AD=>?_
  revert r;apply gO
  exact bi 11 (gi (jt (cn fun y1 A7=>jc (fH A7 [oC [.nils],oC [.bool false],oC [.i 0]]) (cn fun y2 B6=>fun p r h=>by
   refine gs AC [0,1,2,3] p (GD (AX Tryz.f89) 16 [m0]) (AG 34 [(2,.ref 0 0),(3,.ref 1 0),(6,.ref 2 0),(8,.ints pos),(9,.i (pos.length:Int)),(10,.i x10),(16,.it 3)]) [oC [.nils],oC [.bool false],oC [.i 0],some (.iter ((y1).map BP))] ?_;refine rx [.ret] 3 16 #[17] BP 4 B6 (sX n pos x10) fun e he=>?_
   replace h:=By h;rcases h with ⟨Ii,h⟩ | ⟨Ii,h⟩
   ·rw [eq_of_beq Ii] at he;cases he;revert h;cases y2.1 with
    | s0 EO=>
     intro h
     dsimp only at h
     revert r;apply gO;exact bi 31 (jt (jt (lF fun p=>el AC [2,3] [0,1] p [] H0 [.nils,.bool false] (AS.tupL (l:=[.nils,.bool false]) (l':=[.ints ([]:List Int),.bool false]) rfl ⟨AS.ints_nil,A3,trivial⟩)))) (gw 32 (lG AC [0,1] (AI _ _ · m0 AD)))
    | s1 JS VG PZ=>
     intro h
     dsimp only at h
     revert r;apply gO;exact bi 31 (jt (jt (lF fun p=>el AC [2,3] [0,1] p [] H0 [.nils,.bool false] (AS.tupL (l:=[.nils,.bool false]) (l':=[.ints ([]:List Int),.bool false]) rfl ⟨AS.ints_nil,A3,trivial⟩)))) (gw 32 (lG AC [0,4,1] (AI _ _ · m0 AD)))
   ·replace h:=By h;rcases h with ⟨Ii,h⟩ | ⟨Ii,h⟩
    ·rw [eq_of_beq Ii] at he;cases he;refine MG ⟨rfl,?_⟩ _;revert h;cases y2.1 with
     | s0 EO=>
      intro h
      dsimp only at h
      revert r;apply gT;exact lF fun _=>DS.el (.inr rfl) [] H0 [.nils,.bool false] (AS.tupL (l:=[.nils,.bool false]) (l':=[.ints ([]:List Int),.bool false]) rfl ⟨AS.ints_nil,A3,trivial⟩) (by kernel_rfl)
     | s1 JS VG PZ=>
      intro h
      dsimp only at h
      revert r;apply gT;exact gn fun g1=>lF fun _=>DS.e (.inr rfl) [4] (H0.g g1) (by kernel_rfl)
    ·cases h)))) (jt (jt (lF fun p=>el AC [2,3] [0,1] p [] H0 [.nils,.bool true] (AS.tupL (l:=[.nils,.bool true]) (l':=[.ints ([]:List Int),.bool true]) rfl ⟨AS.ints_nil,A3,trivial⟩))))
 case l2 x10 IK o1=>
  intro m0 AD;refine rd AD fun m0 AD=>?_
  revert r;apply gO
  exact bi 11 (gi (jt (cn fun y1 A7=>jc (fH A7 [oC [.msl 1 1 0 IK],oI o1,oC [.bool false],oC [.i 0]]) (cn fun y2 B6=>fun p r h=>by
   refine gs AC [0,2,3,4,1] p (GD (AX Tryz.f89) 16 [m0]) (AG 34 [(2,.ref 0 0),(3,.ref 1 0),(6,.ref 2 0),(8,.ints pos),(9,.i (pos.length:Int)),(10,.i x10),(16,.it 3)]) (zBO IK y1 o1) ?_;refine rx [.ret] 3 16 #[17] BP 4 B6 (sZ n pos x10) fun e he=>?_
   replace h:=By h;rcases h with ⟨Ii,h⟩ | ⟨Ii,h⟩
   ·rw [eq_of_beq Ii] at he;cases he;revert h;cases y2.1 with
    | s0 EO VH Pa=>
     intro h
     dsimp only at h
     revert r;apply gO;exact bi 31 (jt (jt (lF fun p=>el AC [2,3] [0,1] p [] H0 [.nils,.bool false] (AS.tupL (l:=[.nils,.bool false]) (l':=[.ints ([]:List Int),.bool false]) rfl ⟨AS.ints_nil,A3,trivial⟩)))) (gw 32 (lG AC [0,4,1] (AI _ _ · m0 AD)))
    | s1 JS=>
     intro h
     dsimp only at h
     revert r;apply gO;exact bi 31 (jt (jt (lF fun p=>el AC [2,3] [0,1] p [] H0 [.nils,.bool false] (AS.tupL (l:=[.nils,.bool false]) (l':=[.ints ([]:List Int),.bool false]) rfl ⟨AS.ints_nil,A3,trivial⟩)))) (gw 32 (lG AC [0,1] (AI _ _ · m0 AD)))
   ·replace h:=By h;rcases h with ⟨Ii,h⟩ | ⟨Ii,h⟩
    ·rw [eq_of_beq Ii] at he;cases he;refine MG ⟨rfl,?_⟩ _;revert h;cases y2.1 with
     | s0 EO VH Pa=>
      intro h
      dsimp only at h
      revert r;apply gT;exact gn fun g1=>lF fun _=>DS.e (.inr rfl) [4] (H0.g g1) (by kernel_rfl)
     | s1 JS=>
      intro h
      dsimp only at h
      revert r;apply gT;exact lF fun _=>DS.el (.inr rfl) [] H0 [.nils,.bool false] (AS.tupL (l:=[.nils,.bool false]) (l':=[.ints ([]:List Int),.bool false]) rfl ⟨AS.ints_nil,A3,trivial⟩) (by kernel_rfl)
    ·cases h)))) (jt (jt (gn fun g0=>lF fun p=>ez AC [2,3] [0,1,2] p [1] (H0.g g0))))
theorem sV {n:Nat}{pos:List Int}{r:(List Int)×Bool}(h:Vk n pos=some r):EQ 89 [.ints pos] [] (.tup 2 (L1 [.ints r.1,.bool r.2])) [] true:=by
 refine ot Tryz.func89 fun B N=>?_
 revert r;apply gO;exact lN AC [0,1] ((se B N pos n) _ _ · n Nat.le.refl)
def ZI (n:Nat)(q:AA)(pos:List Int)(tree:List (Int×Int)):Option Int:= (valid n q).bind fun y1=> bif (y1 != 0) then some y1 else (N8 n q pos).bind fun y2=> bif (y2 != 0) then some y2 else bif (decide ((tree.length:Int)>65536)) then some 2 else some 0
def JW (n:Nat)(q:AA)(pos:List Int)(tree:List (Int×Int)):Option Int:=ZI n q pos tree
theorem fw {n:Nat}{q:AA}{pos:List Int}{tree:List (Int×Int)}{r:Int}(h:JW n q pos tree=some r):EQ 35 [.agg 5 (L1 (AN q)),.ints pos,.sl 2 tree.length (AP BM tree)] [] (.i r) [] true:=by
 unfold JW ZI at h;refine ot Tryz.func35 fun B N=>?_
 revert r;apply gO;exact cf VN [oC (AN q)] fun _=>bi 10 (lE AC [6] []) (cf aW [oC (AN q)] fun _=>bi 16 (lE AC [6] []) (bi 20 (lE AC [6] []) (lE AC [6] [])))
end Go.Proofs.YtkjbblkieglmlaaGreatDoor
namespace Go.Proofs.YtkjbblkieglmlaaGreatDoor
abbrev zHo:=@decide_eq_decide
open Go.RowKit
section
variable {q:AA} {pos:List Int}
theorem ap (x:Int):BitVec.ofInt 64 (IntKind.u64.wrap x)=BitVec.ofInt 64 x:=by
 apply BitVec.eq_of_toNat_eq;rw [zGV,zGV,IntKind.wrap_u64]
 congr 1
 omega
theorem rV (a:Int){s:Nat}(hs:s<63)(t:Nat):tb (IntKind.i64.wrap (bits .and .u64 (IntKind.u64.wrap a) (IntKind.u64.wrap (1*2 ^ s)))) t=(tb a t&&decide (s=t)):=by
 rw [ZS]
 have e:tb (bits .and .u64 (IntKind.u64.wrap a) (IntKind.u64.wrap (1*2 ^ s))) t=(BitVec.ofInt 64 (IntKind.u64.wrap a)&&& BitVec.ofInt 64 (IntKind.u64.wrap (1*2 ^ s))).getLsbD t:=by
  show (BitVec.ofInt 64 (IntKind.u64.wrap ((BitVec.ofInt 64 (IntKind.u64.wrap a)&&& BitVec.ofInt 64 (IntKind.u64.wrap (1*2 ^ s))).toNat:Int))).getLsbD t=_
  rw [ap,TH]
 rw [e,ap,ap,BitVec.getLsbD_and];have h2:=Hh (show s<64 by omega) t;rw [ZS] at h2;have h2:(BitVec.ofInt 64 (1*2 ^ s)).getLsbD t=decide (s=t):=h2;rw [h2];rfl
def JD (y:List Int)(j s:Nat):List Int:=y.set j (IntKind.i64.wrap (bits .and .u64 (IntKind.u64.wrap (y.getD j 0)) (IntKind.u64.wrap (1*2 ^ s))))
def HO (y:List Int)(j s:Nat):List Int:=if C7 (JD y j s) then List.replicate y.length 0 else JD y j s
theorem dW (hv:B8 q=true){y:List Int}(hy:posOk q y=true){j s:Nat}(hj:j<y.length)(hs:s<q.symbols.toNat):(JD y j s).length=y.length/\ ∀ l,l<y.length -> CC ((JD y j s).getD l 0)/\ ∀ t,tb ((JD y j s).getD l 0) t=(tb (y.getD l 0) t&&(!decide (l=j)||decide (t=s))):=by
 obtain ⟨h1,h2⟩:=(E7 hv).1 hy;obtain ⟨hc,HK,_⟩:=ED hv;unfold JD;refine ⟨zBB,fun l hl=>?_⟩
 by_cases e:j=l
 ·subst e;rw [KM hj];refine ⟨Pc _,fun t=>?_⟩;rw [rV _ (by omega),zAU rfl,zCs,zGD]
  congr 1
  rw [zHo];exact eq_comm
 ·rw [getD_set_ne e];refine ⟨(h2 l hl).in64 (by omega),fun t=>?_⟩;rw [zAP fun h=>e h.symm];simp
theorem fT (hv:B8 q=true){y:List Int}(hy:posOk q y=true):posOk q (List.replicate y.length 0)=true:=by
 obtain ⟨h1,_⟩:=(E7 hv).1 hy;refine (E7 hv).2 ⟨by rw [zAw];exact h1,fun j hj=>?_⟩
 have:(List.replicate y.length (0:Int)).getD j 0=0:=by
  rw [u8,zCx];split <;> rfl
 rw [this];exact ⟨zCn _,Int.pow_pos (by decide)⟩
theorem oM (hv:B8 q=true){y:List Int}(hy:posOk q y=true){j s:Nat}(hj:j<y.length)(hs:s<q.symbols.toNat):posOk q (HO y j s)=true:=by
 obtain ⟨h1,h2⟩:=(E7 hv).1 hy;obtain ⟨hc,HK,_⟩:=ED hv;obtain ⟨z1,z2⟩:=dW hv hy hj hs;unfold HO;split
 ·exact fT hv hy
 ·refine (E7 hv).2 ⟨by rw [z1];exact h1,fun l hl=>?_⟩;obtain ⟨e1,e2⟩:=z2 l (by omega);refine SI (by omega) e1 fun t ht _=>?_
  rw [e2,(h2 l (by omega)).hi ht];rfl
theorem zDd (hF:EN q)(hv:B8 q=true){y:List Int}(hy:posOk q y=true){j s:Nat}(hj:j<y.length)(hs:s<q.symbols.toNat){n:Nat}(hn:FV q+300<=n):O6 n q y j s=some (HO y j s,0):=by
 obtain ⟨h1,h2⟩:=(E7 hv).1 hy;obtain ⟨hc,HK,_⟩:=ED hv;have L:(1000000000000:Nat)=BA:=rfl;have lb:(256:Nat)<=LB:=by decide
 have sy:((q.symbols.toNat:Nat):Int)=q.symbols:=by omega
 have hpc:N8 n q y=some 0:=by
  rw [aX hF (by omega) (by omega) (by omega)];unfold N7;rw [zAM hv,zAM hy]
 unfold O6 df Yo eK;rw [hpc,zAS];simp only [zDE,zA8,zAT,zC5];rw [zAP (by omega),zAP (by omega),zAP (by omega),zAP (by omega)];simp only [zGm,zAR];rw [zAM ⟨⟨trivial,⟨trivial,trivial⟩,by rw [←L];omega⟩,⟨by omega,by omega⟩,hj⟩]
 have hw:Wg n (IntKind.u64.wrap (y.getD j 0)) s=some (bits .and .u64 (IntKind.u64.wrap (y.getD j 0)) (IntKind.u64.wrap (1*2 ^ s))):=by
  unfold Wg k6;rw [zAM ⟨by omega,by show (s:Int)<=((64:Nat):Int);omega⟩,zAT]
 rw [hw,zAS,zAM (by rw [zBB])]
 show ((QC n (JD y j s)).bind fun y3=>some (y3,(0:Int))).bind _=_
 have ma:(JD y j s).length=y.length:=zBB;unfold HO
 generalize JD y j s=z at ma ⊢
 have hn:QC n z=some (if C7 z then List.replicate y.length 0 else z):=by
  unfold QC aw;rw [pU (by omega) (by omega),zAS];cases C7 z
  ·rfl
  ·rw [zAV,zAM ⟨rfl,by omega,by omega⟩,zAM (by simp),ma];rfl
 rw [hn];rfl
def FW:List Int -> Option (List Int)
 | []=>some []
 | x::l=>match CR x 0 with
  | [s]=>(FW l).map fun r=>(s:Int)::r
  | _=>none
theorem SG: ∀ {p g:List Int},FW p=some g -> g.length=p.length
 | [],g,h=>by cases h;rfl
 | x::p,g,h=>by
  unfold FW at h;split at h
  ·obtain ⟨r,hr,rfl⟩:=zGu.1 h;rw [zCU,zCU,SG hr]
  ·cases h
theorem s6 {n:Nat}{x10:Int}: ∀ (l:List Nat),(∀ s∈l,s<16) -> DP (SD n pos x10) (l.map fun (s:Nat)=>(s:Int)) (.s0 0)=some (match l with | []=>(.s0 0,0) | [s]=>(.s1 1 1 [(s:Int)],0) | _=>(.s0 2,1))
 | [],_=>rfl
 | s::l,h=>by
  have hs:=h s (by simp)
  have e1:SD n pos x10 (s:Int) (.s0 0)=some (.s1 1 1 [(s:Int)],0):=by
   show SB n pos x10 (s:Int) 0=_
   unfold SB;rw [zAM (by decide),zAP (by omega),zAR,zAP (by omega),zAR,zAM ⟨⟨rfl,rfl⟩,by simp,by simp [BA]⟩];rfl
  rw [zDT];simp only [DP,e1,zAS];cases l with
  | nil=>rfl
  | cons t l=>
   have e2:SD n pos x10 (t:Int) (.s1 1 1 [(s:Int)])=some (.s0 2,1):=by
    show Rz n pos x10 (t:Int) 1 1 [(s:Int)]=_
    unfold Rz;rw [zAM (by decide),zAU (by omega),zAV];rfl
   simp only [zDT,DP,e2,zAS];rfl
theorem s5 {n m:Nat}{x10:Int}{o:List Int}(ho:m=o.length)(hl:o.length<=300): ∀ (l:List Nat),(∀ s∈l,s<16) -> DP (SC n pos x10) (l.map fun (s:Nat)=>(s:Int)) (.s0 m 0 o)=some (match l with | []=>(.s0 m 0 o,0) | [s]=>(.s0 (m+1) 1 (o++[(s:Int)]),0) | _=>(.s1 2,1))
 | [],_=>rfl
 | s::l,h=>by
  have hs:=h s (by simp);have L:(1000000000000:Nat)=BA:=rfl
  have e1:SC n pos x10 (s:Int) (.s0 m 0 o)=some (.s0 (m+1) 1 (o++[(s:Int)]),0):=by
   show Nm n pos x10 (s:Int) m 0 o=_
   unfold Nm;rw [zAM (by decide),zAP (by omega),zAR,zAP (by omega),zAR,zAM ⟨⟨rfl,rfl⟩,⟨rfl,ho⟩,by rw [←L];simp;omega⟩,ho];rfl
  rw [zDT];simp only [DP,e1,zAS];cases l with
  | nil=>rfl
  | cons t l=>
   have e2:SC n pos x10 (t:Int) (.s0 (m+1) 1 (o++[(s:Int)]))=some (.s1 2,1):=by
    show Nm n pos x10 (t:Int) (m+1) 1 (o++[(s:Int)])=_
    unfold Nm;rw [zAM (by decide),zAU (by omega),zAV];rfl
   simp only [zDT,DP,e2,zAS];rfl
def SH (o:List Int):Option (List Int) -> List Int×Bool
 | some r=>(o++r,true)
 | none=>([],false)
theorem qa {x:Int}(h:Sm 16 x):Ev (fun n=>Lh n (IntKind.u64.wrap x)) ((CR x 0).map fun (s:Nat)=>(s:Int)):=by
 have e:IntKind.u64.wrap x=x:=by
  show x % 18446744073709551616=x
  have:=h.2;exact Int.emod_eq_of_lt h.1 (by omega)
 rw [e];exact fI h 16 0 (by omega)
theorem jB {x:Int}{s:Nat}(h:s∈CR x 0):s<16:=(OJ.1 h).1
theorem ip (hp: ∀ j,j<pos.length -> Sm 16 (pos.getD j 0))(hl:pos.length<=256): ∀ (k j:Nat) (o:List Int),j+k=pos.length -> o.length<=256 -> o.length+k<=256 -> Ev (fun n=>Ge pos n (.l2 (j:Int) o.length o)) (SH o (FW (pos.drop j)))
 | 0,j,o,e,ho,_=>by
  have:pos.drop j= []:=zDG (by omega);rw [this];refine Ev.one fun n=>?_
  show Nk n (Ge pos n) pos (j:Int) o.length o=_
  unfold Nk;rw [zAP (by omega),zAR,zAM rfl];simp [FW,SH]
 | k+1,j,o,e,ho,hk=>by
  have hj:j<pos.length:=by omega
  have hd:pos.drop j=pos.getD j 0::pos.drop (j+1):=by
   rw [zCJ hj,u8,zAa hj];rfl
  have hA:=qa (hp j hj);have lb:AJ ((j:Int)+1):=Av.2 ⟨by omega,by omega⟩;have ih:=fun s:Nat=>ip hp hl k (j+1) (o++[(s:Int)]) (by omega) (by simp;omega) (by simp;omega)
  have start: ∀ n,Ge pos (n+1) (.l2 (j:Int) o.length o)=Nk n (Ge pos n) pos (j:Int) o.length o:=fun _=>rfl
  obtain ⟨N,hN⟩:=hA;have hN: ∀ n,N<=n -> Lh n (IntKind.u64.wrap (pos.getD j 0))=some ((CR (pos.getD j 0) 0).map fun (s:Nat)=>(s:Int)):=hN;have hf:=fun n=>s5 (n:=n) (pos:=pos) (x10:=(j:Int)) (o:=o) rfl (by omega) (CR (pos.getD j 0) 0) fun s hs=>jB hs
  rw [hd,FW];cases hs:CR (pos.getD j 0) 0 with
  | nil=>
   refine Ev.oneN N fun n hn=>?_
   rw [start];unfold Nk;rw [zAU (by omega),zAV,zAM ⟨by omega,by omega⟩,zAT,hN n hn,zAS,hf n,hs];rfl
  | cons s l=>
   cases l with
   | nil=>
    have g:BK (Ge pos) (.l2 (j:Int) o.length o) (.l2 ((j+1:Nat):Int) (o++[(s:Int)]).length (o++[(s:Int)])):=BK.oneN N fun n hn=>by
     rw [start];unfold Nk;rw [zAU (by omega),zAV,zAM ⟨by omega,by omega⟩,zAT,hN n hn,zAS,hf n,hs];simp only [zAS,zD7,zAV];rw [show ((1:Int)==0)=false from rfl,zAR,zAM lb,zA7];rfl
    have:=g.ev (ih s);simp only;cases hr:FW (pos.drop (j+1)) with
    | none=>rw [hr] at this;exact this
    | some r=>rw [hr] at this;simpa [SH] using this
   | cons t l=>
    refine Ev.oneN N fun n hn=>?_
    rw [start];unfold Nk;rw [zAU (by omega),zAV,zAM ⟨by omega,by omega⟩,zAT,hN n hn,zAS,hf n,hs];rfl
theorem sf (hp: ∀ j,j<pos.length -> Sm 16 (pos.getD j 0))(hl:pos.length<=256):Ev (fun n=>Vk n pos) (SH [] (FW pos)):=by
 cases pos with
 | nil=>
  refine Ev.eq (g:=fun n=>Ge [] n (.l1 0)) (Ev.one fun n=>?_) fun n=>rfl
  show Nl n (Ge [] n) [] 0=_
  unfold Nl;rfl
 | cons x p=>
  have hx:=hp 0 (by simp);have hx:Sm 16 x:=by simpa using hx
  obtain ⟨N,hN⟩:=qa hx;have hN: ∀ n,N<=n -> Lh n (IntKind.u64.wrap x)=some ((CR x 0).map fun (s:Nat)=>(s:Int)):=hN;have hf:=fun n=>s6 (n:=n) (pos:=x::p) (x10:=0) (CR x 0) fun s hs=>jB hs
  refine Ev.eq (g:=fun n=>Ge (x::p) n (.l1 0)) ?_ fun n=>rfl
  have start: ∀ n,Ge (x::p) (n+1) (.l1 0)=Nl n (Ge (x::p) n) (x::p) 0:=fun _=>rfl
  have lt:decide ((0:Int)<(((x::p).length:Nat):Int))=true:=zAU (by simp);have gd:(x::p).getD (0:Int).toNat 0=x:=rfl;rw [FW];cases hs:CR x 0 with
  | nil=>
   refine Ev.oneN N fun n hn=>?_
   rw [start];unfold Nl;rw [lt,zAV,zAM ⟨by omega,by simp⟩,gd,hN n hn,zAS,hf n,hs];rfl
  | cons s l=>
   cases l with
   | nil=>
    have g:BK (Ge (x::p)) (.l1 0) (.l2 ((1:Nat):Int) [(s:Int)].length [(s:Int)]):=BK.oneN N fun n hn=>by
     rw [start];unfold Nl;rw [lt,zAV,zAM ⟨by omega,by simp⟩,gd,hN n hn,zAS,hf n,hs];simp only [zAS,zD7,zAV];rw [show ((1:Int)==0)=false from rfl,zAR,zAM (by decide)];rfl
    have:=g.ev (ip hp hl p.length 1 [(s:Int)] (by simp;omega) (by simp) (by simp at hl ⊢;omega));simp only [List.drop_one,List.tail_cons] at this;simp only;cases hr:FW p with
    | none=>rw [hr] at this;exact this
    | some r=>rw [hr] at this;simpa [SH] using this
   | cons t l=>
    refine Ev.oneN N fun n hn=>?_
    rw [start];unfold Nl;rw [lt,zAV,zAM ⟨by omega,by simp⟩,gd,hN n hn,zAS,hf n,hs];rfl
end
end Go.Proofs.YtkjbblkieglmlaaGreatDoor
