/- Part 5 of 7 of what the proofs of these laws stand on. -/
import Derived.Test.YtekkngkphejfcaaGreatDoorPsD
set_option linter.all false
namespace Go.Proofs.YtekkngkphejfcaaGreatDoor
open Go.RowKit
section
variable {c:zAC} {k:Nat} {pos lost:List Int} {q:zAB}
theorem zAf.unique {i:Nat} {D:Nat→Nat→Prop} {l l':List Int} (h:zAf c pos lost i D l) (h':zAf c pos lost i D l') (hi: ∀ j,zEg (l.getD j 0)) (hi': ∀ j,zEg (l'.getD j 0)):l=l':=by
 have e:l.length=l'.length:=h.1.trans h'.1.symm
 refine List.ext_getElem e fun j h1 h2=>?_
 have e1:l.getD j 0=l[j]:=by simp [h1]
 have e2:l'.getD j 0=l'[j]:=by simp [h2]
 rw [←e1,←e2]
 refine zHP (hi j) (hi' j) fun s _=>?_
 rw [Bool.eq_iff_iff,h.2,h'.2]
theorem zV1 {l:List Int} {i:Nat} {x:Int} (h: ∀ j,zEg (l.getD j 0)) (hx:zEg x): ∀ j,zEg ((l.set i x).getD j 0):=by
 intro j
 by_cases e:i=j
 ·subst e
  by_cases h2:i<l.length
  ·rw [zAk h2];exact hx
  ·rw [List.set_eq_of_length_le (by omega)];exact h i
 ·rw [getD_set_ne e];exact h j
theorem zb8 {n ln:Nat} {cell ss:Int} {l':List Int} (h:zC8 n cell ss c q pos ln lost=some l') (hi: ∀ j,zEg (lost.getD j 0)): ∀ j,zEg (l'.getD j 0):=by
 unfold zC8 zOB at h
 split at h
 ·cases h;exact zV1 hi (zAl _ _ _)
 ·cases h
theorem zb0 {n ln:Nat} {cell:Int} {l':List Int} (h:zHD n cell c q pos ln lost=some l') (hi: ∀ j,zEg (lost.getD j 0)): ∀ j,zEg (l'.getD j 0):=by
 unfold zHD zN6 at h
 split at h
 ·cases h;exact zV1 hi (zAl _ _ _)
 ·cases h
def zEe (c:zAC):Prop:=c.runs.length≤256∧∀ j,j<c.runs.length→c.runs.getD j 0≤256
structure zNG (c:zAC) (d l:Int):Prop where
 d0:0≤d
 d1:d≤(c.runs.length:Int)
 l0:0≤l
 open' : 0 < l → d < (c.runs.length : Int) ∧ l ≤ c.runs.getD d.toNat 0
def nx (c:zAC) (d l:Int) (inn:Bool):Option (Int×Int):=
 bif inn then (if d<(c.runs.length:Int)∧l<c.runs.getD d.toNat 0 then some (d,l+1) else none)
 else (if l=0 then some (d,0) else if l=c.runs.getD d.toNat 0 then some (d+1,0) else none)
theorem zcs {d l:Int} {inn:Bool} {t:Int×Int} (h:zNG c d l) (e:nx c d l inn=some t):zNG c t.1 t.2:=by
 obtain ⟨h1,h2,h3,h4⟩:=h
 unfold nx at e
 cases inn
 ·rw [cond_false] at e
  split at e
  ·cases e;exact ⟨h1,h2,Int.le_refl _,fun h=>absurd h (Int.lt_irrefl _)⟩
  ·split at e
   ·cases e
    have:=h4 (by omega)
    exact ⟨by show 0≤d+1;omega,by show d+1≤_;omega,Int.le_refl _,fun h=>absurd h (Int.lt_irrefl _)⟩
   ·cases e
 ·rw [cond_true] at e
  split at e
  ·rename_i h5
   cases e
   exact ⟨h1,h2,by show 0≤l+1;omega,fun _=>⟨h5.1,by show l+1≤c.runs.getD d.toNat 0;omega⟩⟩
  ·cases e
theorem zN7 {n ln:Nat} {d l:Int} {inn:Bool} (R:zEe c) (h:zNG c d l): ∃ t,zXb n (d,l) inn c q pos ln lost=some (t,(nx c d l inn).isSome,lost)∧∀ u,nx c d l inn=some u→t=u:=by
 obtain ⟨h1,h2,h3,h4⟩:=h
 obtain ⟨hr,hv⟩:=R
 have hl:l≤256:=by
  by_cases h0:0<l
  ·obtain ⟨a1,a2⟩:=h4 h0
   have:=hv d.toNat (by omega)
   omega
  ·omega
 unfold zXb zS8 nx
 cases inn
 ·rw [cond_false,cond_false]
  by_cases h0:l=0
  ·subst h0
   refine ⟨(d,0),by simp,fun u hu=>by simpa using hu⟩
  ·obtain ⟨a1,a2⟩:=h4 (by omega)
   have e0:(l==0)=false:=by simpa using h0
   simp only [e0,cond_false,if_neg h0]
   rw [if_pos ⟨zAG.2 ⟨by omega,by omega⟩,h1,a1⟩]
   refine ⟨(d+1,0),?_,fun u hu=>?_⟩
   ·by_cases h5:l=c.runs.getD d.toNat 0
    ·rw [if_pos h5,←h5];simp
    ·rw [if_neg h5];simpa using h5
   ·split at hu
    ·cases hu;rfl
    ·cases hu
 ·rw [cond_true,cond_true,if_pos (zAG.2 ⟨by show _≤l+1;omega,by show l+1≤_;omega⟩)]
  by_cases h5:d<(c.runs.length:Int)
  ·simp only [decide_eq_true h5,cond_true]
   rw [if_pos ⟨h1,h5⟩]
   refine ⟨(d,l+1),?_,fun u hu=>?_⟩
   ·by_cases h6:l<c.runs.getD d.toNat 0
    ·rw [if_pos ⟨h5,h6⟩,decide_eq_true h6];rfl
    ·rw [if_neg fun h=>h6 h.2,decide_eq_false h6];rfl
   ·split at hu
    ·cases hu;rfl
    ·cases hu
  ·simp only [decide_eq_false h5,cond_false]
   refine ⟨(d,l+1),?_,fun u hu=>?_⟩
   ·rw [if_neg fun h=>h5 h.1];rfl
   ·rw [if_neg fun h=>h5 h.1] at hu;cases hu
def kd (c:zAC) (pos:List Int) (i:Nat) (inn:Bool):Bool:=bif inn then (bits .and .i64 (zAI c pos i) c.set != 0) else (bits .andNot .i64 (zAI c pos i) c.set != 0)
theorem zOF {n:Nat} {i:Nat} {inn:Bool} (W:zFS c k pos) (hi:i<c.cells.length):zXt n (i:Int) inn c q pos pos.length lost=some (kd c pos i inn,lost):=by
 have hc:=W.cells i hi
 unfold zXt zTG kd
 simp only [Int.toNat_natCast]
 cases inn
 ·rw [cond_false,if_pos ⟨⟨by omega,by omega⟩,hc⟩];rfl
 ·rw [cond_true,if_pos ⟨⟨by omega,by omega⟩,hc⟩];rfl
def Rch (c:zAC) (pos:List Int):Nat→Int×Int→Prop
 | 0,t=>t=(0,0)
 | i+1,t=>∃ s inn,Rch c pos i s∧nx c s.1 s.2 inn=some t∧kd c pos i inn=true
theorem Rch.ok (i:Nat): ∀ {t:Int×Int},Rch c pos i t→zNG c t.1 t.2:=by
 induction i with
 | zero=>
  intro t h
  obtain rfl:t=(0,0):=h
  exact ⟨Int.le_refl _,by show (0:Int)≤_;omega,Int.le_refl _,fun h=>absurd h (Int.lt_irrefl _)⟩
 | succ i ih=>
  rintro t ⟨s,inn,h1,h2,_⟩
  exact zcs (ih h1) h2
def zdm (c:zAC) (t:Int×Int):Prop:=t=((c.runs.length:Int),0)∨(0<c.runs.length∧t=((c.runs.length:Int)-1,c.runs.getD (c.runs.length-1) 0))
def Liv (c:zAC) (pos:List Int):Nat→Int×Int→Prop
 | 0,t=>zdm c t
 | m+1,s=>Rch c pos (c.cells.length-1-m) s∧∃ t inn,nx c s.1 s.2 inn=some t∧kd c pos (c.cells.length-1-m) inn=true∧Liv c pos m t
def can (c:zAC) (pos:List Int) (i:Nat) (inn:Bool):Prop:=∃ s t,Rch c pos i s∧nx c s.1 s.2 inn=some t∧kd c pos i inn=true∧Liv c pos (c.cells.length-1-i) t
def zKg (c:zAC) (pos:List Int) (a s:Nat):Prop:=(¬ can c pos a true∧tb c.set s=true)∨(¬ can c pos a false∧tb c.set s=false)
def okB (c:zAC) (pos:List Int) (i:Nat) (o4:KS) (d l:Int) (inn:Bool):Bool:=match nx c d l inn with
 | some t=>kd c pos i inn&&o4.contains [t.1,t.2]
 | none=>false
theorem zeV {n i oi:Nat} {o1:List Int} {o3:List (Option KS)} {o4 o5 o8:KS} {b0 b1:Bool} {d l:Int} {o8c:List Int} (W:zFS c k pos) (R:zEe c) (hi:i<c.cells.length) (h:zNG c d l):
 zAL c q pos pos.length lost (n+1) (.l7 i 0 o1 o3 oi o4 o5 b0 b1 d l o8 o8c)=zAL c q pos pos.length lost n (.l7 i 1 o1 o3 oi o4 (bif okB c pos i o4 d l false then zFp [d,l] o5 else o5) (b0||okB c pos i o4 d l false) b1 d l o8 o8c):=by
 obtain ⟨t,e1,e2⟩:=zN7 (n:=n) (ln:=pos.length) (pos:=pos) (lost:=o1) (q:=q) (inn:=false) R h
 have b:([false,true]:List Bool).getD (0+((0:Int)).toNat) false=false:=rfl
 have r:R64 ((0:Int)+1):=zAG.2 ⟨by decide,by decide⟩
 show zEn n (zAL c q pos pos.length lost n) c q pos pos.length lost i 0 o1 o3 oi o4 o5 b0 b1 d l o8 o8c=_
 unfold zEn okB
 rw [decide_eq_true (by decide),cond_true,if_pos ⟨⟨by decide,by decide⟩,by decide⟩,b,e1,Option.bind_some]
 cases hn:nx c d l false with
 | none=>simp only [Option.isSome_none,cond_false,if_pos r,Bool.or_false];rfl
 | some u=>
  obtain rfl:=e2 u hn
  simp only [Option.isSome_some,cond_true]
  rw [zOF W hi,Option.bind_some]
  cases hk:kd c pos i false
  ·simp only [cond_false,if_pos r,Bool.false_and,Bool.or_false];rfl
  ·simp only [cond_true,Bool.true_and]
   cases hc:o4.contains [t.1,t.2]
   ·simp only [cond_false,if_pos r,Bool.or_false];rfl
   ·have z:((0:Int)==0)=true:=rfl
    simp only [cond_true,z,if_pos r,Bool.or_true];rfl
theorem zeU {n i oi:Nat} {o1:List Int} {o3:List (Option KS)} {o4 o5 o8:KS} {b0 b1:Bool} {d l:Int} {o8c:List Int} (W:zFS c k pos) (R:zEe c) (hi:i<c.cells.length) (h:zNG c d l):
 zAL c q pos pos.length lost (n+1) (.l7 i 1 o1 o3 oi o4 o5 b0 b1 d l o8 o8c)=zAL c q pos pos.length lost n (.l7 i 2 o1 o3 oi o4 (bif okB c pos i o4 d l true then zFp [d,l] o5 else o5) b0 (b1||okB c pos i o4 d l true) d l o8 o8c):=by
 obtain ⟨t,e1,e2⟩:=zN7 (n:=n) (ln:=pos.length) (pos:=pos) (lost:=o1) (q:=q) (inn:=true) R h
 have b:([false,true]:List Bool).getD (0+((1:Int)).toNat) false=true:=rfl
 have r:R64 ((1:Int)+1):=zAG.2 ⟨by decide,by decide⟩
 show zEn n (zAL c q pos pos.length lost n) c q pos pos.length lost i 1 o1 o3 oi o4 o5 b0 b1 d l o8 o8c=_
 unfold zEn okB
 rw [decide_eq_true (by decide),cond_true,if_pos ⟨⟨by decide,by decide⟩,by decide⟩,b,e1,Option.bind_some]
 cases hn:nx c d l true with
 | none=>simp only [Option.isSome_none,cond_false,if_pos r,Bool.or_false];rfl
 | some u=>
  obtain rfl:=e2 u hn
  simp only [Option.isSome_some,cond_true]
  rw [zOF W hi,Option.bind_some]
  cases hk:kd c pos i true
  ·simp only [cond_false,if_pos r,Bool.false_and,Bool.or_false];rfl
  ·simp only [cond_true,Bool.true_and]
   cases hc:o4.contains [t.1,t.2]
   ·simp only [cond_false,if_pos r,Bool.or_false];rfl
   ·have z:((1:Int)==0)=false:=rfl
    have z1:((1:Int)==1)=true:=rfl
    simp only [cond_true,cond_false,z,z1,if_pos r,Bool.or_true];rfl
theorem zeT {n i oi:Nat} {o1:List Int} {o3:List (Option KS)} {o4 o5 o8:KS} {b0 b1:Bool} {d l:Int} {o8c:List Int}:
 zAL c q pos pos.length lost (n+1) (.l7 i 2 o1 o3 oi o4 o5 b0 b1 d l o8 o8c)=zAL c q pos pos.length lost n (.l9 i o1 o3 oi o4 o5 b0 b1 o8 o8c):=by
 show zEn n (zAL c q pos pos.length lost n) c q pos pos.length lost i 2 o1 o3 oi o4 o5 b0 b1 d l o8 o8c=_
 unfold zEn
 rw [decide_eq_false (by decide),cond_false]
def zOX (c:zAC) (pos:List Int) (i:Nat) (o3:List (Option KS)) (d l:Int) (inn:Bool):List (Option KS):=match nx c d l inn with
 | some t=>bif kd c pos i inn then o3.set (i+1) (some (zFp [t.1,t.2] ((o3.getD (i+1) none).getD []))) else o3
 | none=>o3
theorem zeY {n i:Nat} {o1:List Int} {o3:List (Option KS)} {o5:KS} {d l:Int} {o5c:List Int} {x59:Int} (W:zFS c k pos) (R:zEe c) (hi:i<c.cells.length) (h:zNG c d l) (h3:i+1<o3.length) (hs:(o3.getD (i+1) none).isSome=true):
 zAL c q pos pos.length lost (n+1) (.l5 i x59 0 o1 o3 i d l o5 o5c)=zAL c q pos pos.length lost n (.l5 i x59 1 o1 (zOX c pos i o3 d l false) i d l o5 o5c):=by
 obtain ⟨t,e1,e2⟩:=zN7 (n:=n) (ln:=pos.length) (pos:=pos) (lost:=o1) (q:=q) (inn:=false) R h
 have b:([false,true]:List Bool).getD (0+((0:Int)).toNat) false=false:=rfl
 have r:R64 ((0:Int)+1):=zAG.2 ⟨by decide,by decide⟩
 have hlen:=W.len
 have t1:((((c.cells.length:Nat):Int)+1).toNat:Nat)=c.cells.length+1:=by omega
 have t2:0+(((i:Int)+1).toNat:Nat)=i+1:=by omega
 show zEo n (zAL c q pos pos.length lost n) c q pos pos.length lost i x59 0 o1 o3 i d l o5 o5c=_
 unfold zEo zOX
 rw [decide_eq_true (by decide),cond_true,if_pos ⟨⟨by decide,by decide⟩,by decide⟩,b,e1,Option.bind_some]
 cases hn:nx c d l false with
 | none=>simp only [Option.isSome_none,cond_false,if_pos r];rfl
 | some u=>
  obtain rfl:=e2 u hn
  simp only [Option.isSome_some,cond_true]
  rw [zOF W hi,Option.bind_some]
  cases hk:kd c pos i false
  ·simp only [cond_false,if_pos r];rfl
  ·simp only [cond_true,t1,t2]
   rw [if_pos ⟨zAG.2 ⟨by omega,by omega⟩,⟨by omega,by omega⟩,h3,by omega,hs,r⟩];rfl
theorem zeX {n i:Nat} {o1:List Int} {o3:List (Option KS)} {o5:KS} {d l:Int} {o5c:List Int} {x59:Int} (W:zFS c k pos) (R:zEe c) (hi:i<c.cells.length) (h:zNG c d l) (h3:i+1<o3.length) (hs:(o3.getD (i+1) none).isSome=true):
 zAL c q pos pos.length lost (n+1) (.l5 i x59 1 o1 o3 i d l o5 o5c)=zAL c q pos pos.length lost n (.l5 i x59 2 o1 (zOX c pos i o3 d l true) i d l o5 o5c):=by
 obtain ⟨t,e1,e2⟩:=zN7 (n:=n) (ln:=pos.length) (pos:=pos) (lost:=o1) (q:=q) (inn:=true) R h
 have b:([false,true]:List Bool).getD (0+((1:Int)).toNat) false=true:=rfl
 have r:R64 ((1:Int)+1):=zAG.2 ⟨by decide,by decide⟩
 have hlen:=W.len
 have t1:((((c.cells.length:Nat):Int)+1).toNat:Nat)=c.cells.length+1:=by omega
 have t2:0+(((i:Int)+1).toNat:Nat)=i+1:=by omega
 show zEo n (zAL c q pos pos.length lost n) c q pos pos.length lost i x59 1 o1 o3 i d l o5 o5c=_
 unfold zEo zOX
 rw [decide_eq_true (by decide),cond_true,if_pos ⟨⟨by decide,by decide⟩,by decide⟩,b,e1,Option.bind_some]
 cases hn:nx c d l true with
 | none=>simp only [Option.isSome_none,cond_false,if_pos r];rfl
 | some u=>
  obtain rfl:=e2 u hn
  simp only [Option.isSome_some,cond_true]
  rw [zOF W hi,Option.bind_some]
  cases hk:kd c pos i true
  ·simp only [cond_false,if_pos r];rfl
  ·simp only [cond_true,t1,t2]
   rw [if_pos ⟨zAG.2 ⟨by omega,by omega⟩,⟨by omega,by omega⟩,h3,by omega,hs,r⟩];rfl
theorem zeW {n i:Nat} {o1:List Int} {o3:List (Option KS)} {o5:KS} {d l:Int} {o5c:List Int} {x59:Int}:
 zAL c q pos pos.length lost (n+1) (.l5 i x59 2 o1 o3 i d l o5 o5c)=zAL c q pos pos.length lost n (.l8 i x59 o1 o3 i o5 o5c):=by
 show zEo n (zAL c q pos pos.length lost n) c q pos pos.length lost i x59 2 o1 o3 i d l o5 o5c=_
 unfold zEo
 rw [decide_eq_false (by decide),cond_false]
def zQx (o3:List (Option KS)) (j:Nat):KS:=(o3.getD j none).getD []
theorem zJz {i:Nat} {o3:List (Option KS)} {d l:Int} {inn:Bool}:(zOX c pos i o3 d l inn).length=o3.length:=by
 unfold zOX
 split
 ·cases kd c pos i inn
  ·rfl
  ·rw [cond_true,List.length_set]
 ·rfl
theorem zCv {α:Type} {l:List α} {i:Nat} {x y:α} (h:i<l.length):(l.set i x).getD i y=x:=by
 rw [List.getD_eq_getElem?_getD,List.getElem?_set_self h];rfl
theorem zF4 {α:Type} {l:List α} {i j:Nat} {x y:α} (h:i≠j):(l.set i x).getD j y=l.getD j y:=by
 rw [List.getD_eq_getElem?_getD,List.getElem?_set_ne h,←List.getD_eq_getElem?_getD]
theorem zRV {i j:Nat} {o3:List (Option KS)} {d l:Int} {inn:Bool} (h:j≠i+1):(zOX c pos i o3 d l inn).getD j none=o3.getD j none:=by
 unfold zOX
 split
 ·cases kd c pos i inn
  ·rfl
  ·rw [cond_true,zF4 (fun e=>h e.symm)]
 ·rfl
theorem zHA {i:Nat} {o3:List (Option KS)} {d l:Int} {inn:Bool} (hl:i+1<o3.length) {j:Nat} (h:(o3.getD j none).isSome=true):((zOX c pos i o3 d l inn).getD j none).isSome=true:=by
 by_cases e:j=i+1
 ·subst e
  unfold zOX
  split
  ·cases kd c pos i inn
   ·exact h
   ·rw [cond_true,zCv hl];rfl
  ·exact h
 ·rw [zRV e];exact h
theorem zGW {i:Nat} {o3:List (Option KS)} {d l:Int} {inn:Bool} (hl:i+1<o3.length) {x:List Int}:x∈zQx (zOX c pos i o3 d l inn) (i+1)↔x∈zQx o3 (i+1)∨∃ t,nx c d l inn=some t∧kd c pos i inn=true∧x= [t.1,t.2]:=by
 unfold zOX
 split
 ·rename_i t ht
  cases hk:kd c pos i inn
  ·rw [cond_false]
   exact ⟨.inl,fun h=>h.elim id fun ⟨_,_,h,_⟩=>by cases h⟩
  ·rw [cond_true]
   unfold zQx
   rw [zCv hl]
   show x∈zFp _ _↔_
   rw [zFB]
   constructor
   ·rintro (h | h)
    ·exact .inr ⟨t,ht,rfl,h⟩
    ·exact .inl h
   ·rintro (h | ⟨u,hu,_,h⟩)
    ·exact .inr h
    ·rw [ht] at hu;cases hu;exact .inl h
 ·rename_i hn
  exact ⟨.inl,fun h=>h.elim id fun ⟨_,h,_⟩=>by rw [hn] at h;cases h⟩
structure Rows (c:zAC) (pos:List Int) (i:Nat) (o3:List (Option KS)):Prop where
 len:o3.length=c.cells.length+1
 isSome: ∀ j,j≤c.cells.length→(o3.getD j none).isSome=true
 row: ∀ j,j≤i→∀ x,x∈zQx o3 j↔∃ t:Int×Int,x= [t.1,t.2]∧Rch c pos j t
 rest: ∀ j,i<j→j≤c.cells.length→zQx o3 j= []
structure Mid (c:zAC) (pos:List Int) (i:Nat) (rem:KS) (o3:List (Option KS)):Prop where
 hi:i<c.cells.length
 len:o3.length=c.cells.length+1
 isSome: ∀ j,j≤c.cells.length→(o3.getD j none).isSome=true
 row: ∀ j,j≤i→∀ x,x∈zQx o3 j↔∃ t:Int×Int,x= [t.1,t.2]∧Rch c pos j t
 rest: ∀ j,i+1<j→j≤c.cells.length→zQx o3 j= []
 sub: ∀ x∈rem,∃ t:Int×Int,x= [t.1,t.2]∧Rch c pos i t
 next: ∀ x∈zQx o3 (i+1),∃ t:Int×Int,x= [t.1,t.2]∧Rch c pos (i+1) t
 cov: ∀ t,Rch c pos i t→[t.1,t.2]∈rem∨∀ inn u,nx c t.1 t.2 inn=some u→kd c pos i inn=true→[u.1,u.2]∈zQx o3 (i+1)
theorem Rows.mid {i:Nat} {o3:List (Option KS)} (h:Rows c pos i o3) (hi:i<c.cells.length):Mid c pos i (zQx o3 i) o3 where
 hi:=hi
 len:=h.len
 isSome:=h.isSome
 row:=h.row
 rest:=fun j hj hl=>h.rest j (by omega) hl
 sub:=fun x hx=>(h.row i (Nat.le_refl _) x).1 hx
 next:=fun x hx=>by rw [h.rest (i+1) (by omega) (by omega)] at hx;cases hx
 cov:=fun t ht=>.inl ((h.row i (Nat.le_refl _) _).2 ⟨t,rfl,ht⟩)
theorem Mid.rows {i:Nat} {o3:List (Option KS)} (h:Mid c pos i [] o3):Rows c pos (i+1) o3 where
 len:=h.len
 isSome:=h.isSome
 row:=fun j hj x=>by
  rcases Nat.lt_succ_iff_lt_or_eq.1 (Nat.lt_succ_of_le hj) with hj | rfl
  ·exact h.row j (by omega) x
  ·refine ⟨h.next x,?_⟩
   rintro ⟨t,rfl,s,inn,h1,h2,h3⟩
   rcases h.cov s h1 with h4 | h4
   ·cases h4
   ·exact h4 inn t h2 h3
 rest:=h.rest
theorem zHz {t u:Int×Int} (h:([t.1,t.2]:List Int)= [u.1,u.2]):t=u:=by
 obtain ⟨a,b⟩:=t
 obtain ⟨a',b'⟩:=u
 simp only [List.cons.injEq,and_true] at h
 rw [h.1,h.2]
theorem Mid.go {i:Nat} {o3:List (Option KS)} {rem:KS} {t:Int×Int} (h:Mid c pos i rem o3) (ht: [t.1,t.2]∈rem):Mid c pos i (rem.erase [t.1,t.2]) (zOX c pos i (zOX c pos i o3 t.1 t.2 false) t.1 t.2 true):=by
 have hl:=h.len
 have hi:=h.hi
 have h1:i+1<o3.length:=by omega
 have h2:i+1<(zOX c pos i o3 t.1 t.2 false).length:=by rw [zJz];exact h1
 have hne: ∀ j,j≠i+1→zQx (zOX c pos i (zOX c pos i o3 t.1 t.2 false) t.1 t.2 true) j=zQx o3 j:=fun j hj=>by
  unfold zQx;rw [zRV hj,zRV hj]
 have hR:Rch c pos i t:=by
  obtain ⟨u,e,hu⟩:=h.sub _ ht
  rw [zHz e];exact hu
 refine ⟨hi,by rw [zJz,zJz];exact hl,fun j hj=>zHA h2 (zHA h1 (h.isSome j hj)),fun j hj x=>?_,fun j hj hjl=>?_,fun x hx=>h.sub x (List.mem_of_mem_erase hx),fun x hx=>?_,fun s hs=>?_⟩
 ·rw [hne j (by omega)];exact h.row j hj x
 ·rw [hne j (by omega)];exact h.rest j hj hjl
 ·rw [zGW h2,zGW h1] at hx
  rcases hx with (hx | ⟨u,e1,e2,rfl⟩) | ⟨u,e1,e2,rfl⟩
  ·exact h.next x hx
  ·exact ⟨u,rfl,t,false,hR,e1,e2⟩
  ·exact ⟨u,rfl,t,true,hR,e1,e2⟩
 ·by_cases e:s=t
  ·subst e
   refine .inr fun inn u h3 h4=>?_
   rw [zGW h2,zGW h1]
   cases inn
   ·exact .inl (.inr ⟨u,h3,h4,rfl⟩)
   ·exact .inr ⟨u,h3,h4,rfl⟩
  ·rcases h.cov s hs with h3 | h3
   ·exact .inl ((List.mem_erase_of_ne (fun e2=>e (zHz e2))).2 h3)
   ·refine .inr fun inn u h4 h5=>?_
    rw [zGW h2,zGW h1]
    exact .inl (.inl (h3 inn u h4 h5))
def zI8 (c:zAC) (pos lost:List Int) (r:Bool×List Int):Prop:=r.1=true∧zAf c pos lost c.cells.length (zKg c pos) r.2∧∀ j,zEg (r.2.getD j 0)
theorem zI8.uniq (r r':Bool×List Int) (h:zI8 c pos lost r) (h':zI8 c pos lost r'):r=r':=by
 obtain ⟨b,l⟩:=r
 obtain ⟨b',l'⟩:=r'
 obtain ⟨h1,h2,h3⟩:=h
 obtain ⟨h4,h5,h6⟩:=h'
 have e1:b=true:=h1
 have e2:b'=true:=h4
 have e3:l=l':=zAf.unique h2 h5 h3 h6
 rw [e1,e2,e3]
theorem zct {i:Nat} {o1:List Int} {x59:Int} (W:zFS c k pos) (R:zEe c) (hx:x59=(i:Int)) (H: ∀ o3,Rows c pos (i+1) o3→PEv (fun n=>zAL c q pos pos.length lost n (.l2 (x59+1) o1 o3)) (zI8 c pos lost)):
 ∀ (m:Nat) (rem:KS) (o3:List (Option KS)) (o5c:List Int),rem.length=m→Mid c pos i rem o3→PEv (fun n=>zAL c q pos pos.length lost n (.l8 i x59 o1 o3 i rem o5c)) (zI8 c pos lost):=by
 intro m
 induction m with
 | zero=>
  intro rem o3 o5c hm hM
  have:rem= []:=List.eq_nil_of_length_eq_zero hm
  subst this
  have hs:=hM.isSome i (by have:=hM.hi;omega)
  have r1:R64 (x59+1):=by rw [hx];exact (W.r64 hM.hi).2
  refine PEv.step 1 (fun n=>?_) (H o3 hM.rows)
  show zHY n (zAL c q pos pos.length lost n) c q pos pos.length lost i x59 o1 o3 i [] o5c=_
  unfold zHY
  rw [if_pos hs,zMr,if_pos r1]
 | succ m ih=>
  intro rem o3 o5c hm hM
  have hs:=hM.isSome i (by have:=hM.hi;omega)
  have hne:rem≠[]:=by intro e;rw [e] at hm;cases hm
  refine PEv.step 1 (g:=fun n=>zFP rem (if R64 (x59+1) then zAL c q pos pos.length lost n (.l2 (x59+1) o1 o3) else none) (fun y1=>zAL c q pos pos.length lost n (.l5 i x59 0 o1 o3 i (y1.getD 0 0) (y1.getD 1 0) (rem.erase y1) y1))) (fun n=>?_) (PEv.next hne (fun y hy=>?_) zI8.uniq)
  ·show zHY n (zAL c q pos pos.length lost n) c q pos pos.length lost i x59 o1 o3 i rem o5c=_
   unfold zHY
   rw [if_pos hs]
   simp only [if_pos hs]
  ·obtain ⟨t,rfl,ht⟩:=hM.sub y hy
   have hS:=ht.ok
   have hl:=hM.len
   have hi:=hM.hi
   have h1:i+1<o3.length:=by omega
   have s1:=hM.isSome (i+1) (by omega)
   have h2:i+1<(zOX c pos i o3 t.1 t.2 false).length:=by rw [zJz];exact h1
   have s2:=zHA (c:=c) (pos:=pos) (d:=t.1) (l:=t.2) (inn:=false) h1 s1
   refine PEv.step 3 (fun n=>?_) (ih _ _ [t.1,t.2] (by rw [List.length_erase_of_mem hy];omega) (hM.go hy))
   show zAL c q pos pos.length lost (n+2+1) (.l5 i x59 0 o1 o3 i t.1 t.2 (rem.erase [t.1,t.2]) [t.1,t.2])=_
   rw [zeY W R hM.hi hS h1 s1,zeX W R hM.hi hS h2 s2,zeW]
def zcY (c:zAC) (pos:List Int) (m:Nat) (o4:KS):Prop:=∀ x,x∈o4↔∃ t:Int×Int,x= [t.1,t.2]∧Liv c pos m t
def LBm (c:zAC) (pos lost:List Int) (m:Nat) (o1:List Int):Prop:=zAf c pos lost c.cells.length (fun a s=>c.cells.length≤a+m∧zKg c pos a s) o1∧∀ j,zEg (o1.getD j 0)
structure Bk (c:zAC) (pos:List Int) (i m:Nat) (o5:KS) (b0 b1:Bool) (rem:KS):Prop where
 hi:i+m+1=c.cells.length
 sub: ∀ x∈rem,∃ t:Int×Int,x= [t.1,t.2]∧Rch c pos i t
 o5s: ∀ x∈o5,∃ t:Int×Int,x= [t.1,t.2]∧Liv c pos (m+1) t
 b0s:b0=true→can c pos i false
 b1s:b1=true→can c pos i true
 cov: ∀ t,Rch c pos i t→[t.1,t.2]∈rem∨∀ inn u,nx c t.1 t.2 inn=some u→kd c pos i inn=true→Liv c pos m u→[t.1,t.2]∈o5∧(bif inn then b1 else b0)=true
theorem zRa {i m:Nat} {o4:KS} {d l:Int} {inn:Bool} (h:zcY c pos m o4):okB c pos i o4 d l inn=true↔∃ u,nx c d l inn=some u∧kd c pos i inn=true∧Liv c pos m u:=by
 unfold okB
 split
 ·rename_i t ht
  rw [Bool.and_eq_true,List.contains_iff_mem,h]
  constructor
  ·rintro ⟨h1,u,h2,h3⟩
   exact ⟨t,ht,h1,by rw [zHz h2];exact h3⟩
  ·rintro ⟨u,h1,h2,h3⟩
   rw [ht] at h1;cases h1
   exact ⟨h2,t,rfl,h3⟩
 ·rename_i hn
  exact ⟨fun h=>(by cases h),fun ⟨u,h,_⟩=>by rw [hn] at h;cases h⟩
theorem Bk.go {i m:Nat} {o4 o5 rem:KS} {b0 b1:Bool} {t:Int×Int} (hE:zcY c pos m o4) (h:Bk c pos i m o5 b0 b1 rem) (ht: [t.1,t.2]∈rem):
 Bk c pos i m (bif okB c pos i o4 t.1 t.2 true then zFp [t.1,t.2] (bif okB c pos i o4 t.1 t.2 false then zFp [t.1,t.2] o5 else o5) else (bif okB c pos i o4 t.1 t.2 false then zFp [t.1,t.2] o5 else o5)) (b0||okB c pos i o4 t.1 t.2 false) (b1||okB c pos i o4 t.1 t.2 true) (rem.erase [t.1,t.2]):=by
 have hR:Rch c pos i t:=by
  obtain ⟨u,e,hu⟩:=h.sub _ ht
  rw [zHz e];exact hu
 have ei:c.cells.length-1-i=m:=by have:=h.hi;omega
 have em:c.cells.length-1-m=i:=by have:=h.hi;omega
 have hcan: ∀ inn,okB c pos i o4 t.1 t.2 inn=true→can c pos i inn:=fun inn ho=>by
  obtain ⟨u,h1,h2,h3⟩:=(zRa hE).1 ho
  exact ⟨t,u,hR,h1,h2,by rw [ei];exact h3⟩
 have hliv: ∀ inn,okB c pos i o4 t.1 t.2 inn=true→Liv c pos (m+1) t:=fun inn ho=>by
  obtain ⟨u,h1,h2,h3⟩:=(zRa hE).1 ho
  show Rch c pos (c.cells.length-1-m) t∧∃ u inn,nx c t.1 t.2 inn=some u∧kd c pos (c.cells.length-1-m) inn=true∧Liv c pos m u
  rw [em]
  exact ⟨hR,u,inn,h1,h2,h3⟩
 have mem: ∀ x,x∈(bif okB c pos i o4 t.1 t.2 true then zFp [t.1,t.2] (bif okB c pos i o4 t.1 t.2 false then zFp [t.1,t.2] o5 else o5) else (bif okB c pos i o4 t.1 t.2 false then zFp [t.1,t.2] o5 else o5))↔x∈o5∨(x= [t.1,t.2]∧(okB c pos i o4 t.1 t.2 true=true∨okB c pos i o4 t.1 t.2 false=true)):=fun x=>by
  cases okB c pos i o4 t.1 t.2 true <;> cases okB c pos i o4 t.1 t.2 false <;> simp only [cond_true,cond_false,zFB,Bool.false_eq_true,or_false,and_false,or_true,true_or,and_true]
  ·exact Or.comm
  ·exact Or.comm
  ·exact ⟨fun h=>h.elim .inr fun h=>h.elim .inr .inl,fun h=>h.elim (fun h=>.inr (.inr h)) .inl⟩
 refine ⟨h.hi,fun x hx=>h.sub x (List.mem_of_mem_erase hx),fun x hx=>?_,fun hb=>?_,fun hb=>?_,fun s hs=>?_⟩
 ·rcases (mem x).1 hx with hx | ⟨rfl,h1 | h1⟩
  ·exact h.o5s x hx
  ·exact ⟨t,rfl,hliv _ h1⟩
  ·exact ⟨t,rfl,hliv _ h1⟩
 ·rcases Bool.or_eq_true_iff.1 hb with hb | hb
  ·exact h.b0s hb
  ·exact hcan _ hb
 ·rcases Bool.or_eq_true_iff.1 hb with hb | hb
  ·exact h.b1s hb
  ·exact hcan _ hb
 ·by_cases e:s=t
  ·subst e
   refine .inr fun inn u h1 h2 h3=>?_
   have ho:okB c pos i o4 s.1 s.2 inn=true:=(zRa hE).2 ⟨u,h1,h2,h3⟩
   rw [mem]
   cases inn
   ·exact ⟨.inr ⟨rfl,.inr ho⟩,by rw [cond_false,ho,Bool.or_true]⟩
   ·exact ⟨.inr ⟨rfl,.inl ho⟩,by rw [cond_true,ho,Bool.or_true]⟩
  ·rcases h.cov s hs with h3 | h3
   ·exact .inl ((List.mem_erase_of_ne (fun e2=>e (zHz e2))).2 h3)
   ·refine .inr fun inn u h4 h5 h6=>?_
    obtain ⟨h7,h8⟩:=h3 inn u h4 h5 h6
    rw [mem]
    refine ⟨.inl h7,?_⟩
    cases inn
    ·rw [cond_false] at h8 ⊢;rw [h8];rfl
    ·rw [cond_true] at h8 ⊢;rw [h8];rfl
theorem Bk.end' {i m:Nat} {o5:KS} {b0 b1:Bool} (h:Bk c pos i m o5 b0 b1 []):zcY c pos (m+1) o5∧(b0=true↔can c pos i false)∧(b1=true↔can c pos i true):=by
 have ei:c.cells.length-1-i=m:=by have:=h.hi;omega
 have em:c.cells.length-1-m=i:=by have:=h.hi;omega
 refine ⟨fun x=>⟨h.o5s x,?_⟩,⟨h.b0s,?_⟩,⟨h.b1s,?_⟩⟩
 ·rintro ⟨t,rfl,h1⟩
  have h1:Rch c pos (c.cells.length-1-m) t∧∃ u inn,nx c t.1 t.2 inn=some u∧kd c pos (c.cells.length-1-m) inn=true∧Liv c pos m u:=h1
  rw [em] at h1
  obtain ⟨h1,u,inn,h2,h3,h4⟩:=h1
  rcases h.cov t h1 with h5 | h5
  ·cases h5
  ·exact (h5 inn u h2 h3 h4).1
 ·rintro ⟨s,t,h1,h2,h3,h4⟩
  rw [ei] at h4
  rcases h.cov s h1 with h5 | h5
  ·cases h5
  ·exact (h5 false t h2 h3 h4).2
 ·rintro ⟨s,t,h1,h2,h3,h4⟩
  rw [ei] at h4
  rcases h.cov s h1 with h5 | h5
  ·cases h5
  ·exact (h5 true t h2 h3 h4).2
theorem zTE {cell ss:Int} (h0:0≤cell) (h1:cell<(pos.length:Int)) (hl:lost.length=pos.length) (hi: ∀ j,zEg (lost.getD j 0)):
 ∃ l',(∀ n,zC8 n cell ss c q pos pos.length lost=some l')∧l'.length=pos.length∧(∀ j,zEg (l'.getD j 0))∧∀ j s,tb (l'.getD j 0) s=(tb (lost.getD j 0) s||(decide (j=cell.toNat)&&(tb (pos.getD j 0) s&&tb ss s))):=by
 obtain ⟨l',e,h2,h3⟩:=zCX (n:=0) (ss:=ss) (c:=c) (q:=q) h0 h1 hl
 exact ⟨l',fun _=>e,h2,zb8 e hi,h3⟩
theorem zN5 {cell:Int} (h0:0≤cell) (h1:cell<(pos.length:Int)) (hl:lost.length=pos.length) (hi: ∀ j,zEg (lost.getD j 0)):
 ∃ l',(∀ n,zHD n cell c q pos pos.length lost=some l')∧l'.length=pos.length∧(∀ j,zEg (l'.getD j 0))∧∀ j s,tb (l'.getD j 0) s=(tb (lost.getD j 0) s||(decide (j=cell.toNat)&&(tb (pos.getD j 0) s&&!tb c.set s))):=by
 obtain ⟨l',e,h2,h3⟩:=zLI (n:=0) (c:=c) (q:=q) h0 h1 hl
 exact ⟨l',fun _=>e,h2,zb0 e hi,h3⟩
theorem LBm.go {i m:Nat} {o1 l':List Int} (h:LBm c pos lost m o1) (hi:i+m+1=c.cells.length) (hl:l'.length=pos.length) (hin: ∀ j,zEg (l'.getD j 0))
 (h1: ∀ j s,tb (l'.getD j 0) s=true↔tb (o1.getD j 0) s=true∨((c.cells.getD i 0).toNat=j∧tb (zAI c pos i) s=true∧zKg c pos i s)):LBm c pos lost (m+1) l':=by
 refine ⟨⟨hl,fun j s=>?_⟩,hin⟩
 rw [h1,h.1.2]
 constructor
 ·rintro ((h | ⟨a,ha,h2,h3,h4,h5⟩) | h)
  ·exact .inl h
  ·exact .inr ⟨a,ha,h2,h3,by omega,h5⟩
  ·exact .inr ⟨i,by omega,h.1,h.2.1,by omega,h.2.2⟩
 ·rintro (h2 | ⟨a,ha,h2,h3,h4,h5⟩)
  ·exact .inl (.inl h2)
  ·by_cases e:c.cells.length≤a+m
   ·exact .inl (.inr ⟨a,ha,h2,h3,e,h5⟩)
   ·have:a=i:=by omega
    subst this
    exact .inr ⟨h2,h3,h5⟩
theorem zeA {i m:Nat} {o1:List Int} {o3:List (Option KS)} {o4:KS} {x16:Int} (W:zFS c k pos) (R:zEe c) (hx:x16=(i:Int)) (hR:Rows c pos c.cells.length o3) (hE:zcY c pos m o4) (hL:LBm c pos lost m o1)
 (H: ∀ o1 o5,LBm c pos lost (m+1) o1→zcY c pos (m+1) o5→PEv (fun n=>zAL c q pos pos.length lost n (.l4 (x16-1) o1 o3 o5)) (zI8 c pos lost)):
 ∀ (z:Nat) (rem o5:KS) (b0 b1:Bool) (o7c:List Int),rem.length=z→Bk c pos i m o5 b0 b1 rem→PEv (fun n=>zAL c q pos pos.length lost n (.l9 i o1 o3 i o4 o5 b0 b1 rem o7c)) (zI8 c pos lost):=by
 intro z
 induction z with
 | zero=>
  intro rem o5 b0 b1 o7c hm hB
  have:rem= []:=List.eq_nil_of_length_eq_zero hm
  subst this
  obtain ⟨e5,e0,e1⟩:=hB.end'
  have hi:i<c.cells.length:=by have:=hB.hi;omega
  have hs:=hR.isSome i (by omega)
  have hlen:=W.len
  have r1:R64 ((i:Int)-1):=zAG.2 ⟨by omega,by omega⟩
  have hc:=W.cells i hi
  have g0:(0:Int)≤(i:Int)∧(i:Int)<((c.cells.length:Nat):Int):=⟨by omega,by omega⟩
  obtain ⟨l1,f1,n1,i1,t1⟩:=zTE (ss:=c.set) (c:=c) (q:=q) hc.1 hc.2 hL.1.1 hL.2
  obtain ⟨l2,f2,n2,i2,t2⟩:=zN5 (c:=c) (q:=q) hc.1 hc.2 n1 i1
  obtain ⟨l3,f3,n3,i3,t3⟩:=zN5 (c:=c) (q:=q) hc.1 hc.2 hL.1.1 hL.2
  have eq: ∀ n,zAL c q pos pos.length lost (n+1) (.l9 i o1 o3 i o4 o5 b0 b1 [] o7c)=zAL c q pos pos.length lost n (.l4 (i-1) (bif !b1 then (bif !b0 then l2 else l1) else (bif !b0 then l3 else o1)) o3 o5):=fun n=>by
   show zHX n (zAL c q pos pos.length lost n) c q pos pos.length lost i o1 o3 i o4 o5 b0 b1 [] o7c=_
   unfold zHX
   rw [if_pos hs,zMr]
   simp only [Int.toNat_natCast]
   cases b1 <;> cases b0 <;> simp only [Bool.not_false,Bool.not_true,cond_true,cond_false,if_pos g0,f1,f2,f3,Option.bind_some,if_pos r1]
  refine PEv.step 1 eq ?_
  have key: ∀ l':List Int,l'.length=pos.length→(∀ j,zEg (l'.getD j 0))→(∀ j s,tb (l'.getD j 0) s=(tb (o1.getD j 0) s||(decide (j=(c.cells.getD i 0).toNat)&&(tb (pos.getD j 0) s&&((!b1&&tb c.set s)||(!b0&&!tb c.set s))))))→LBm c pos lost (m+1) l':=by
   intro l' h1 h2 h3
   refine hL.go hB.hi h1 h2 fun j s=>?_
   rw [h3,Bool.or_eq_true,Bool.and_eq_true,Bool.and_eq_true,decide_eq_true_iff,Bool.or_eq_true,Bool.and_eq_true,Bool.and_eq_true,Bool.not_eq_true',Bool.not_eq_true',Bool.not_eq_true']
   unfold zKg
   rw [←e0,←e1,Bool.not_eq_true,Bool.not_eq_true]
   constructor
   ·rintro (h | ⟨rfl,h⟩)
    ·exact .inl h
    ·exact .inr ⟨rfl,h⟩
   ·rintro (h | ⟨rfl,h⟩)
    ·exact .inl h
    ·exact .inr ⟨rfl,h⟩
  subst hx
  cases b1 <;> cases b0 <;> simp only [Bool.not_false,Bool.not_true,cond_true,cond_false]
  ·exact H l2 o5 (key l2 n2 i2 fun j s=>by
    rw [t2,t1]
    cases tb (o1.getD j 0) s <;> cases decide (j=(c.cells.getD i 0).toNat) <;> cases tb (pos.getD j 0) s <;> cases tb c.set s <;> rfl) e5
  ·exact H l1 o5 (key l1 n1 i1 fun j s=>by
    rw [t1]
    cases tb (o1.getD j 0) s <;> cases decide (j=(c.cells.getD i 0).toNat) <;> cases tb (pos.getD j 0) s <;> cases tb c.set s <;> rfl) e5
  ·exact H l3 o5 (key l3 n3 i3 fun j s=>by
    rw [t3]
    cases tb (o1.getD j 0) s <;> cases decide (j=(c.cells.getD i 0).toNat) <;> cases tb (pos.getD j 0) s <;> cases tb c.set s <;> rfl) e5
  ·exact H o1 o5 (key o1 hL.1.1 hL.2 fun j s=>by
    cases tb (o1.getD j 0) s <;> cases decide (j=(c.cells.getD i 0).toNat) <;> cases tb (pos.getD j 0) s <;> cases tb c.set s <;> rfl) e5
 | succ z ih=>
  intro rem o5 b0 b1 o7c hm hB
  have hi:i<c.cells.length:=by have:=hB.hi;omega
  have hs:=hR.isSome i (by omega)
  have hne:rem≠[]:=by intro e;rw [e] at hm;cases hm
  refine PEv.step 1 (g:=fun n=>zFP rem none (fun y1=>zAL c q pos pos.length lost n (.l7 i 0 o1 o3 i o4 o5 b0 b1 (y1.getD 0 0) (y1.getD 1 0) (rem.erase y1) y1))) (fun n=>?_) (PEv.next hne (fun y hy=>?_) zI8.uniq)
  ·show zHX n (zAL c q pos pos.length lost n) c q pos pos.length lost i o1 o3 i o4 o5 b0 b1 rem o7c=_
   unfold zHX
   rw [if_pos hs]
   simp only [if_pos hs]
   cases rem with
   | nil=>exact absurd rfl hne
   | cons x r=>rfl
  ·obtain ⟨t,rfl,ht⟩:=hB.sub y hy
   have hS:=ht.ok
   refine PEv.step 3 (fun n=>?_) (ih _ _ _ _ [t.1,t.2] (by rw [List.length_erase_of_mem hy];omega) (hB.go hE hy))
   show zAL c q pos pos.length lost (n+2+1) (.l7 i 0 o1 o3 i o4 o5 b0 b1 t.1 t.2 (rem.erase [t.1,t.2]) [t.1,t.2])=_
   rw [zeV W R hi hS,zeU W R hi hS,zeT]
theorem zd2 {n ln oi:Nat} {x16:Int} {o1:List Int} {o3:List (Option KS)} {o4 o7:KS}:zAL c q pos ln lost n (.l6 x16 o1 o3 oi o4 o7)=zAL c q pos ln lost n (.l9 x16 o1 o3 oi o4 [] false false o7 []):=by cases n <;> rfl
theorem zd3 {n ln oi:Nat} {x8 x59:Int} {o1:List Int} {o3:List (Option KS)} {o4:KS}:zAL c q pos ln lost n (.l3 x8 x59 o1 o3 oi o4)=zAL c q pos ln lost n (.l8 x8 x59 o1 o3 oi o4 []):=by cases n <;> rfl
theorem zYq (W:zFS c k pos) (R:zEe c) {o3:List (Option KS)} (hR:Rows c pos c.cells.length o3):
 ∀ (i m:Nat) (x16:Int) (o1:List Int) (o4:KS),i+m=c.cells.length→x16=(i:Int)-1→LBm c pos lost m o1→zcY c pos m o4→PEv (fun n=>zAL c q pos pos.length lost n (.l4 x16 o1 o3 o4)) (zI8 c pos lost):=by
 intro i
 induction i with
 | zero=>
  intro m x16 o1 o4 hm hx hL hE
  refine Ev.p (r:=(true,o1)) ⟨1,fun n hn=>?_⟩ ⟨rfl,⟨hL.1.1,fun j s=>?_⟩,hL.2⟩
  ·obtain ⟨n,rfl⟩: ∃ n',n=n'+1:=⟨n-1,by omega⟩
   show zHZ n (zAL c q pos pos.length lost n) c q pos pos.length lost x16 o1 o3 o4=_
   unfold zHZ
   rw [decide_eq_false (by omega),cond_false]
  ·rw [hL.1.2]
   constructor
   ·rintro (h | ⟨a,h1,h2,h3,_,h4⟩)
    ·exact .inl h
    ·exact .inr ⟨a,h1,h2,h3,h4⟩
   ·rintro (h | ⟨a,h1,h2,h3,h4⟩)
    ·exact .inl h
    ·exact .inr ⟨a,h1,h2,h3,by omega,h4⟩
 | succ i ih=>
  intro m x16 o1 o4 hm hx hL hE
  have hx:x16=(i:Int):=by omega
  subst hx
  have hs:=hR.isSome i (by omega)
  have hlen:=hR.len
  have t1:((((c.cells.length:Nat):Int)+1).toNat:Nat)=c.cells.length+1:=by omega
  have t2:0+((i:Int).toNat:Nat)=i:=by omega
  refine PEv.step 1 (g:=fun n=>zAL c q pos pos.length lost n (.l9 i o1 o3 i o4 [] false false (zQx o3 i) [])) (fun n=>?_) (zeA W R rfl hR hE hL (fun o1 o5 h1 h2=>ih (m+1) ((i:Int)-1) o1 o5 (by omega) rfl h1 h2) _ (zQx o3 i) [] false false [] rfl ⟨by omega,fun x hx=>(hR.row i (by omega) x).1 hx,fun x hx=>(by cases hx),fun h=>(by cases h),fun h=>(by cases h),fun t ht=>.inl ((hR.row i (by omega) _).2 ⟨t,rfl,ht⟩)⟩)
  show zHZ n (zAL c q pos pos.length lost n) c q pos pos.length lost (i:Int) o1 o3 o4=_
  unfold zHZ
  simp only [t1,t2]
  rw [decide_eq_true (by omega),cond_true,if_pos hs,if_pos ⟨⟨by omega,by omega⟩,by omega,hs⟩]
  exact zd2
theorem zai (W:zFS c k pos) (R:zEe c) (hl:lost.length=pos.length) (hin: ∀ j,zEg (lost.getD j 0)):
 ∀ (m i:Nat) (x59:Int) (o3:List (Option KS)),i+m=c.cells.length→x59=(i:Int)→Rows c pos i o3→PEv (fun n=>zAL c q pos pos.length lost n (.l2 x59 lost o3)) (zI8 c pos lost):=by
 intro m
 induction m with
 | zero=>
  intro i x59 o3 hm hx hR
  have hm:i=c.cells.length:=by omega
  subst hm hx
  have hlen:=W.len
  have hr:=R.1
  have r1:R64 ((c.cells.length:Int)-1):=zAG.2 ⟨by omega,by omega⟩
  have r2:R64 ((c.runs.length:Int)-1):=zAG.2 ⟨by omega,by omega⟩
  have hL:LBm c pos lost 0 lost:=⟨⟨hl,fun j s=>⟨.inl,fun h=>h.elim id fun ⟨a,h1,_,_,h2,_⟩=>absurd h2 (by omega)⟩⟩,hin⟩
  by_cases h0:0<c.runs.length
  ·have t1:(((c.runs.length:Nat):Int)-1).toNat=c.runs.length-1:=by omega
   refine PEv.step 1 (g:=fun n=>zAL c q pos pos.length lost n (.l4 ((c.cells.length:Int)-1) lost o3 (zFp [((c.runs.length:Int)-1),c.runs.getD (c.runs.length-1) 0] (zFp [(c.runs.length:Int),0] ([]:KS))))) (fun n=>?_) (zYq W R hR c.cells.length 0 _ _ _ (by omega) rfl hL fun x=>?_)
   ·show zEp n (zAL c q pos pos.length lost n) c q pos pos.length lost (c.cells.length:Int) lost o3=_
    unfold zEp
    rw [decide_eq_false (by omega),cond_false,decide_eq_true (by omega),cond_true,if_pos ⟨r2,⟨by omega,by omega⟩,r1⟩,t1]
   ·rw [zFB,zFB]
    constructor
    ·rintro (rfl | rfl | h)
     ·exact ⟨((c.runs.length:Int)-1,c.runs.getD (c.runs.length-1) 0),rfl,.inr ⟨h0,rfl⟩⟩
     ·exact ⟨((c.runs.length:Int),0),rfl,.inl rfl⟩
     ·cases h
    ·rintro ⟨t,rfl,rfl | ⟨_,rfl⟩⟩
     ·exact .inr (.inl rfl)
     ·exact .inl rfl
  ·have h0':c.runs.length=0:=by omega
   refine PEv.step 1 (g:=fun n=>zAL c q pos pos.length lost n (.l4 ((c.cells.length:Int)-1) lost o3 (zFp [(c.runs.length:Int),0] ([]:KS)))) (fun n=>?_) (zYq W R hR c.cells.length 0 _ _ _ (by omega) rfl hL fun x=>?_)
   ·show zEp n (zAL c q pos pos.length lost n) c q pos pos.length lost (c.cells.length:Int) lost o3=_
    unfold zEp
    rw [decide_eq_false (by omega),cond_false,decide_eq_false (by omega),cond_false,if_pos r1]
   ·rw [zFB]
    constructor
    ·rintro (rfl | h)
     ·exact ⟨((c.runs.length:Int),0),rfl,.inl rfl⟩
     ·cases h
    ·rintro ⟨t,rfl,rfl | ⟨h,rfl⟩⟩
     ·exact .inl rfl
     ·exact absurd h h0
 | succ m ih=>
  intro i x59 o3 hm hx hR
  subst hx
  have hi:i<c.cells.length:=by omega
  have hs:=hR.isSome i (by omega)
  have hlen:=hR.len
  have t1:((((c.cells.length:Nat):Int)+1).toNat:Nat)=c.cells.length+1:=by omega
  have t2:0+((i:Int).toNat:Nat)=i:=by omega
  refine PEv.step 1 (g:=fun n=>zAL c q pos pos.length lost n (.l8 i i lost o3 i (zQx o3 i) [])) (fun n=>?_) (zct W R rfl (fun o3 h=>ih (i+1) _ o3 (by omega) (by omega) h) _ _ _ _ rfl (hR.mid hi))
  show zEp n (zAL c q pos pos.length lost n) c q pos pos.length lost (i:Int) lost o3=_
  unfold zEp
  simp only [t1,t2]
  rw [decide_eq_true (by omega),cond_true,if_pos hs,if_pos ⟨⟨by omega,by omega⟩,by omega,hs⟩]
  exact zd3
theorem zcH (W:zFS c k pos) (R:zEe c) (hl:lost.length=pos.length) (hin: ∀ j,zEg (lost.getD j 0)):
 ∀ (m j:Nat) (x45:Int) (o3:List (Option KS)),j+m=c.cells.length+1→x45=(j:Int)→o3.length=c.cells.length+1→(∀ i,i<j→o3.getD i none=some [])→PEv (fun n=>zAL c q pos pos.length lost n (.l1 x45 o3)) (zI8 c pos lost):=by
 intro m
 induction m with
 | zero=>
  intro j x45 o3 hm hx hlen ho
  subst hx
  have t1:((((c.cells.length:Nat):Int)+1).toNat:Nat)=c.cells.length+1:=by omega
  have hs:(o3.getD 0 none).isSome=true:=by rw [ho 0 (by omega)];rfl
  have e0:(o3.getD 0 none).getD []= []:=by rw [ho 0 (by omega)];rfl
  have hg: ∀ i,i≠0→(o3.set 0 (some (zFp [0,0] ([]:KS)))).getD i none=o3.getD i none:=fun i hi=>zF4 (fun e=>hi e.symm)
  have hg0:(o3.set 0 (some (zFp [0,0] ([]:KS)))).getD 0 none=some (zFp [0,0] []):=zCv (by omega)
  refine PEv.step 1 (g:=fun n=>zAL c q pos pos.length lost n (.l2 0 lost (o3.set 0 (some (zFp [0,0] ([]:KS)))))) (fun n=>?_) (zai W R hl hin c.cells.length 0 0 _ (by omega) rfl ⟨by rw [List.length_set];exact hlen,fun i hi=>?_,fun i hi x=>?_,fun i hi hil=>?_⟩)
  ·show zHa n (zAL c q pos pos.length lost n) c q pos pos.length lost (j:Int) o3=_
   unfold zHa
   simp only [t1,Nat.zero_add]
   rw [decide_eq_false (by omega),cond_false,if_pos ⟨⟨by omega,by omega⟩,by omega,hs⟩,e0]
  ·by_cases e:i=0
   ·subst e;rw [hg0];rfl
   ·rw [hg i e,ho i (by omega)];rfl
  ·obtain rfl:i=0:=by omega
   show x∈((o3.set 0 (some (zFp [0,0] ([]:KS)))).getD 0 none).getD []↔_
   rw [hg0]
   show x∈zFp [0,0] []↔_
   rw [zFB]
   constructor
   ·rintro (rfl | h)
    ·exact ⟨(0,0),rfl,rfl⟩
    ·cases h
   ·rintro ⟨t,rfl,h⟩
    have h:t=(0,0):=h
    subst h
    exact .inl rfl
  ·show ((o3.set 0 (some (zFp [0,0] ([]:KS)))).getD i none).getD []= []
   rw [hg i (by omega),ho i (by omega)];rfl
 | succ m ih=>
  intro j x45 o3 hm hx hlen ho
  subst hx
  have hlen2:=W.len
  have t1:((((c.cells.length:Nat):Int)+1).toNat:Nat)=c.cells.length+1:=by omega
  have t2:0+((j:Int).toNat:Nat)=j:=by omega
  refine PEv.step 1 (g:=fun n=>zAL c q pos pos.length lost n (.l1 ((j:Int)+1) (o3.set j (some ([]:KS))))) (fun n=>?_) (ih (j+1) _ _ (by omega) (by omega) (by rw [List.length_set];exact hlen) fun i hi=>?_)
  ·show zHa n (zAL c q pos pos.length lost n) c q pos pos.length lost (j:Int) o3=_
   unfold zHa
   simp only [t1,t2]
   rw [decide_eq_true (by omega),cond_true,if_pos ⟨⟨by omega,by omega⟩,by omega,zAG.2 ⟨by omega,by omega⟩⟩]
  ·by_cases e:i=j
   ·subst e;exact zCv (by omega)
   ·rw [zF4 (fun h=>e h.symm)];exact ho i (by omega)
def zGn (c:zAC):Bool:=(c.cells.length != 0)||(c.runs.length==0)
theorem zbm (W:zFS c k pos) (R:zEe c) (hl:lost.length=pos.length) (hin: ∀ j,zEg (lost.getD j 0)):
 ∃ l,Ev (fun n=>zUD n c q pos pos.length lost) (zGn c,l)∧(zGn c=true→zAf c pos lost c.cells.length (zKg c pos) l):=by
 by_cases h0:c.cells.length=0
 ·have e1:zGn c=((c.runs.length:Int)==0):=by
   unfold zGn
   rw [h0]
   cases h:c.runs.length with
   | zero=>rfl
   | succ m=>rfl
  refine ⟨lost,Ev.now fun n=>?_,fun _=>by rw [h0];exact zAf.zero hl⟩
  unfold zUD zNW
  rw [h0,e1];rfl
 ·have e1:zGn c=true:=by
   unfold zGn
   cases h:c.cells.length with
   | zero=>exact absurd h h0
   | succ m=>rfl
  have hlen:=W.len
  have t1:((((c.cells.length:Nat):Int)+1).toNat:Nat)=c.cells.length+1:=by omega
  obtain ⟨r,h1,h2⟩:=(zcH (q:=q) W R hl hin (c.cells.length+1) 0 0 (List.replicate (c.cells.length+1) none) (by omega) rfl (by simp) (fun i hi=>absurd hi (Nat.not_lt_zero i))).ev zI8.uniq
  obtain ⟨b,l⟩:=r
  obtain ⟨h3,h4,h5⟩:=h1
  have h3:b=true:=h3
  subst h3
  refine ⟨l,?_,fun _=>h4⟩
  rw [e1]
  refine h2.eq fun n=>?_
  unfold zUD zNW
  rw [t1]
  have e2:(((c.cells.length:Nat):Int)==0)=false:=by
   rw [beq_eq_false_iff_ne];omega
  rw [e2,cond_false,if_pos ⟨zAG.2 ⟨by omega,by omega⟩,rfl,by omega,by omega⟩]
end
end Go.Proofs.YtekkngkphejfcaaGreatDoor
namespace Go.Proofs.YtekkngkphejfcaaGreatDoor
open Go.RowKit
section
variable {c:zAC} {k:Nat} {pos lost:List Int} {q:zAB}
structure zBc (c:zAC) (q:zAB) (pos:List Int):Prop where
 len:c.cells.length=pos.length
 id: ∀ j,j<pos.length→c.cells.getD j 0=(j:Int)
 g:zY6 q.nbrs
 gl:q.nbrs.length=pos.length
 l0:0<pos.length
 l1:pos.length≤256
 nz: ∀ j,j<pos.length→zEg (pos.getD j 0)∧pos.getD j 0≠0
def pB (c:zAC) (pos:List Int):List Bool:=pos.map fun x=>bits .and .i64 x c.set != 0
def cB (c:zAC) (pos:List Int):List Bool:=pos.map fun x=>bits .andNot .i64 x c.set==0
theorem zBu:(pB c pos).length=pos.length:=List.length_map _
theorem zBk:(cB c pos).length=pos.length:=List.length_map _
theorem zbz {j:Nat} (hj:j<pos.length):(pB c pos).getD j false=(bits .and .i64 (pos.getD j 0) c.set != 0):=by
 unfold pB
 rw [List.getD_eq_getElem?_getD,List.getElem?_map,List.getElem?_eq_getElem hj,List.getD_eq_getElem?_getD,List.getElem?_eq_getElem hj];rfl
theorem zcL {j:Nat} (hj:j<pos.length):(cB c pos).getD j false=(bits .andNot .i64 (pos.getD j 0) c.set==0):=by
 unfold cB
 rw [List.getD_eq_getElem?_getD,List.getElem?_map,List.getElem?_eq_getElem hj,List.getD_eq_getElem?_getD,List.getElem?_eq_getElem hj];rfl
theorem zBc.cp (W:zBc c q pos) {j:Nat} (hj:j<pos.length) (h:(cB c pos).getD j false=true):(pB c pos).getD j false=true:=by
 rw [zcL hj,beq_iff_eq] at h
 rw [zbz hj,bne_iff_ne]
 obtain ⟨h1,h2⟩:=W.nz j hj
 obtain ⟨s,hs,hb⟩:=(zB9 h1).1 h2
 have h3:=(zCA (zAl .andNot _ _)).1 h s hs
 rw [zAp,hb,Bool.true_and,Bool.not_eq_false'] at h3
 exact (zB9 (zAl .and _ _)).2 ⟨s,hs,by rw [zCJ,hb,h3];rfl⟩
def zAy (pos lost:List Int) (D:Nat→Nat→Prop) (l:List Int):Prop:=
 (l.length=pos.length∧∀ j,zEg (l.getD j 0))∧∀ j s,tb (l.getD j 0) s=true↔tb (lost.getD j 0) s=true∨(j<pos.length∧tb (pos.getD j 0) s=true∧D j s)
theorem zAy.unique {D:Nat→Nat→Prop} {l l':List Int} (h:zAy pos lost D l) (h':zAy pos lost D l'):l=l':=by
 have e:l.length=l'.length:=h.1.1.trans h'.1.1.symm
 refine List.ext_getElem e fun j h1 h2=>?_
 have e1:l.getD j 0=l[j]:=by simp [h1]
 have e2:l'.getD j 0=l'[j]:=by simp [h2]
 rw [←e1,←e2]
 refine zHP (h.1.2 j) (h'.1.2 j) fun s _=>?_
 rw [Bool.eq_iff_iff,h.2,h'.2]
theorem zAy.by {D:Nat→Nat→Prop} {l:List Int} (W:zBc c q pos) (h:zAy pos lost D l):zAf c pos lost c.cells.length D l:=by
 refine ⟨h.1.1,fun j s=>?_⟩
 have hl:=W.len
 rw [h.2]
 constructor
 ·rintro (h1 | ⟨h1,h2,h3⟩)
  ·exact .inl h1
  ·have e:=W.id j h1
   exact .inr ⟨j,by omega,by rw [e];omega,by show tb (pos.getD (c.cells.getD j 0).toNat 0) s=true;rw [e,Int.toNat_natCast];exact h2,h3⟩
 ·rintro (h1 | ⟨a,h1,h2,h3,h4⟩)
  ·exact .inl h1
  ·have e:=W.id a (by omega)
   have h3:tb (pos.getD (c.cells.getD a 0).toNat 0) s=true:=h3
   rw [e,Int.toNat_natCast] at h2 h3
   subst h2
   exact .inr ⟨by omega,h3,h4⟩
theorem zAy.step {D D':Nat→Nat→Prop} {l l':List Int} (h:zAy pos lost D l) (hl:l'.length=pos.length) (hin: ∀ j,zEg (l'.getD j 0)) {E:Nat→Nat→Prop} (h1: ∀ j s,tb (l'.getD j 0) s=true↔tb (l.getD j 0) s=true∨(j<pos.length∧tb (pos.getD j 0) s=true∧E j s))
 (hD: ∀ j s,j<pos.length→tb (pos.getD j 0) s=true→(D' j s↔D j s∨E j s)):zAy pos lost D' l':=by
 refine ⟨⟨hl,hin⟩,fun j s=>?_⟩
 rw [h1,h.2]
 constructor
 ·rintro ((h2 | ⟨h2,h3,h4⟩) | ⟨h2,h3,h4⟩)
  ·exact .inl h2
  ·exact .inr ⟨h2,h3,(hD j s h2 h3).2 (.inl h4)⟩
  ·exact .inr ⟨h2,h3,(hD j s h2 h3).2 (.inr h4)⟩
 ·rintro (h2 | ⟨h2,h3,h4⟩)
  ·exact .inl (.inl h2)
  ·rcases (hD j s h2 h3).1 h4 with h5 | h5
   ·exact .inl (.inr ⟨h2,h3,h5⟩)
   ·exact .inr ⟨h2,h3,h5⟩
theorem zAy.id' {D D':Nat→Nat→Prop} {l:List Int} (h:zAy pos lost D l) (hD: ∀ j s,j<pos.length→tb (pos.getD j 0) s=true→(D' j s↔D j s)):zAy pos lost D' l:=
 h.step (E:=fun _ _=>False) h.1.1 h.1.2 (fun j s=>by simp) fun j s h1 h2=>by rw [hD j s h1 h2,or_false]
theorem zAy.lose {D D':Nat→Nat→Prop} {l:List Int} (h:zAy pos lost D l) {cell ss:Int} (h0:0≤cell) (h1:cell<(pos.length:Int)) (hD: ∀ j s,j<pos.length→tb (pos.getD j 0) s=true→(D' j s↔D j s∨((j:Int)=cell∧tb ss s=true))):
 ∃ l',(∀ n,zC8 n cell ss c q pos pos.length l=some l')∧zAy pos lost D' l':=by
 obtain ⟨l',e,h2,h3,h4⟩:=zTE (ss:=ss) (c:=c) (q:=q) h0 h1 h.1.1 h.1.2
 refine ⟨l',e,h.step h2 h3 (E:=fun j s=>(j:Int)=cell∧tb ss s=true) (fun j s=>?_) hD⟩
 rw [h4,Bool.or_eq_true,Bool.and_eq_true,Bool.and_eq_true,decide_eq_true_iff]
 constructor
 ·rintro (h5 | ⟨rfl,h5,h6⟩)
  ·exact .inl h5
  ·exact .inr ⟨by omega,h5,by omega,h6⟩
 ·rintro (h5 | ⟨h5,h6,h7,h8⟩)
  ·exact .inl h5
  ·exact .inr ⟨by omega,h6,h8⟩
theorem zAy.only {D D':Nat→Nat→Prop} {l:List Int} (h:zAy pos lost D l) {cell:Int} (h0:0≤cell) (h1:cell<(pos.length:Int)) (hD: ∀ j s,j<pos.length→tb (pos.getD j 0) s=true→(D' j s↔D j s∨((j:Int)=cell∧tb c.set s=false))):
 ∃ l',(∀ n,zHD n cell c q pos pos.length l=some l')∧zAy pos lost D' l':=by
 obtain ⟨l',e,h2,h3,h4⟩:=zN5 (c:=c) (q:=q) h0 h1 h.1.1 h.1.2
 refine ⟨l',e,h.step h2 h3 (E:=fun j s=>(j:Int)=cell∧tb c.set s=false) (fun j s=>?_) hD⟩
 rw [h4,Bool.or_eq_true,Bool.and_eq_true,Bool.and_eq_true,decide_eq_true_iff,Bool.not_eq_true']
 constructor
 ·rintro (h5 | ⟨rfl,h5,h6⟩)
  ·exact .inl h5
  ·exact .inr ⟨by omega,h5,by omega,h6⟩
 ·rintro (h5 | ⟨h5,h6,h7,h8⟩)
  ·exact .inl h5
  ·exact .inr ⟨by omega,h6,h8⟩
def Fst (l:List Bool) (r:Int):Prop:=(r= -1∧∀ j,j<l.length→l.getD j false=false)∨(0≤r∧r<(l.length:Int)∧l.getD r.toNat false=true∧∀ j:Nat,(j:Int)<r→l.getD j false=false)
theorem zLe {l:List Bool} (hl:l.length≤256): ∃ r,Ev (fun n=>zTL n l true) r∧Fst l r:=by
 have key: ∀ (k i:Nat),i+k=l.length→(∀ j,j<i→l.getD j false=false)→∃ r,Ev (fun n=>zDU l true n (.l1 (i:Int))) r∧Fst l r:=by
  intro k
  induction k with
  | zero=>
   intro i e h
   refine ⟨-1,⟨1,fun n hn=>?_⟩,.inl ⟨rfl,fun j hj=>h j (by omega)⟩⟩
   obtain ⟨n,rfl⟩: ∃ k,n=k+1:=⟨n-1,by omega⟩
   show zF1 n (zDU l true n) l true (i:Int)=_
   unfold zF1
   rw [decide_eq_false (by omega),cond_false]
  | succ k ih=>
   intro i e h
   have U: ∀ n,zDU l true (n+1) (.l1 (i:Int))=bif l.getD i false then some (i:Int) else zDU l true n (.l1 ((i:Int)+1)):=fun n=>by
    show zF1 n (zDU l true n) l true (i:Int)=_
    unfold zF1
    rw [decide_eq_true (by omega),cond_true,if_pos ⟨by omega,by omega⟩,Int.toNat_natCast,if_pos (zAG.2 ⟨by omega,by omega⟩)]
    cases l.getD i false <;> rfl
   cases hi:l.getD i false
   ·obtain ⟨r,h1,h2⟩:=ih (i+1) (by omega) fun j hj=>by
     rcases Nat.lt_succ_iff_lt_or_eq.1 hj with hj | rfl
     ·exact h j hj
     ·exact hi
    refine ⟨r,Ev.step 1 (fun n=>?_) h1,h2⟩
    rw [U,hi,cond_false];rfl
   ·refine ⟨(i:Int),⟨1,fun n hn=>?_⟩,.inr ⟨by omega,by omega,by rw [Int.toNat_natCast];exact hi,fun j hj=>h j (by omega)⟩⟩
    obtain ⟨n,rfl⟩: ∃ k,n=k+1:=⟨n-1,by omega⟩
    show zDU l true (n+1) (.l1 (i:Int))=_
    rw [U,hi,cond_true]
 exact key l.length 0 (by omega) fun j hj=>absurd hj (Nat.not_lt_zero j)
theorem zKC {l l':List Bool} (h:l.length=l'.length) (h2: ∀ j,j<l.length→l.getD j false=l'.getD j false):l=l':=by
 refine List.ext_getElem h fun j h3 h4=>?_
 have:=h2 j h3
 rwa [List.getD_eq_getElem?_getD,List.getElem?_eq_getElem h3,List.getD_eq_getElem?_getD,List.getElem?_eq_getElem h4] at this
theorem zDC {l:List Bool} {i j:Nat} {b:Bool} (hi:i<l.length):(l.set i b).getD j false=if j=i then b else l.getD j false:=by
 by_cases e:j=i
 ·subst e;rw [if_pos rfl,List.getD_eq_getElem?_getD,List.getElem?_set_self hi];rfl
 ·rw [if_neg e,List.getD_eq_getElem?_getD,List.getElem?_set_ne (fun h=>e h.symm),←List.getD_eq_getElem?_getD]
def zOY (c:zAC) (q:zAB) (pos:List Int) (a s:Nat):Prop:=(pB c pos).getD a false=true∧tb c.set s=true∧∃ r:Int,0≤r∧Fst (cB c pos) r∧¬ Rc q.nbrs (pB c pos) r a
theorem Fst.uniq {l:List Bool} {r r':Int} (h:Fst l r) (h':Fst l r'):r=r':=by
 rcases h with ⟨rfl,h⟩ | ⟨h0,h1,h2,h3⟩ <;> rcases h' with ⟨rfl,h'⟩ | ⟨h0',h1',h2',h3'⟩
 ·rfl
 ·rw [h r'.toNat (by omega)] at h2';cases h2'
 ·rw [h' r.toNat (by omega)] at h2;cases h2
 ·rcases Int.lt_trichotomy r r' with h4 | h4 | h4
  ·rw [h3' r.toNat (by omega)] at h2;cases h2
  ·exact h4
  ·rw [h3 r'.toNat (by omega)] at h2';cases h2'
theorem zdn (G:zY6 q.nbrs) (hB:(pB c pos).length=q.nbrs.length) {r:Int} (hr0:0≤r) (hF:Fst (cB c pos) r) {j s:Nat}:zOY c q pos j s↔(pB c pos).getD j false=true∧tb c.set s=true∧¬ Rc q.nbrs (pB c pos) r j:=by
 constructor
 ·rintro ⟨h1,h2,r',_,hF',h3⟩
  rw [hF.uniq hF']
  exact ⟨h1,h2,h3⟩
 ·rintro ⟨h1,h2,h3⟩
  exact ⟨h1,h2,r,hr0,hF,h3⟩
def zNH (c:zAC) (q:zAB) (pos lost:List Int) (r:Int) (x:List Bool×List Bool×Bool×List Int):Prop:=x.1=pB c pos∧x.2.1=cB c pos∧x.2.2.1=decide (0≤r)∧zAy pos lost (zOY c q pos) x.2.2.2
theorem zNH.uniq {r:Int} (x y:List Bool×List Bool×Bool×List Int) (h:zNH c q pos lost r x) (h':zNH c q pos lost r y):x=y:=by
 obtain ⟨x1,x2,x3,x4⟩:=x
 obtain ⟨y1,y2,y3,y4⟩:=y
 obtain ⟨h1,h2,h3,h4⟩:=h
 obtain ⟨h1',h2',h3',h4'⟩:=h'
 have e4:x4=y4:=h4.unique h4'
 have e1:x1=y1:=Eq.trans h1 h1'.symm
 have e2:x2=y2:=Eq.trans h2 h2'.symm
 have e3:x3=y3:=Eq.trans h3 h3'.symm
 rw [e1,e2,e3,e4]
theorem zXW {n:Nat} (W:zBc c q pos) (hL:zAy pos lost (fun _ _=>False) lost) {r:Int} (hr0:0≤r) (hF:Fst (cB c pos) r) {near:List Int} (hn:near.length≤256) (hnear: ∀ v,v∈near↔Rc q.nbrs (pB c pos) r v) (hfu:600≤n):
 ∃ x,zAx c q pos pos.length lost n (.l2 (pB c pos) (pB c pos).length near (near.length:Int) 0 (cB c pos) (pB c pos))=some x∧zNH c q pos lost r x:=by
 have hl1:=W.l1
 have hgl:=W.gl
 have hr1:r<(q.nbrs.length:Int):=by
  rcases hF with ⟨h,_⟩ | ⟨_,h,_⟩
  ·omega
  ·rw [zBk] at h;omega
 have hrng: ∀ v∈near,0≤v∧v<(pos.length:Int):=fun v hv=>by
  have:=((hnear v).1 hv).rng W.g.gr hr0 hr1
  omega
 have S:=zIt (fun n (far:List Bool) i=>zAx c q pos pos.length lost n (.l2 (pB c pos) (pB c pos).length near (near.length:Int) i (cB c pos) far)) near.length (pos.length+3)
  (fun i far=>far.length=pos.length∧∀ j:Nat,far.getD j false=true↔(pB c pos).getD j false=true∧(j:Int)∉near.take i) (fun n i far hn0 hi hI=>?_) (n:=n) (s:=pB c pos) (by omega) ⟨zBu,fun j=>by simp⟩
 ·obtain ⟨n1,far,hn1,_,e1,hfl,hfar⟩:=S
  obtain ⟨n2,rfl⟩: ∃ n2,n1=n2+1:=⟨n1-1,by omega⟩
  rw [List.take_length] at hfar
  have T:=zIt (fun n (o1:List Int) i=>zAx c q pos pos.length lost n (.l3 (pB c pos) (pB c pos).length ((pB c pos).length:Int) i o1 (cB c pos) far)) pos.length 1
   (fun i o1=>zAy pos lost (fun j s=>j<i∧zOY c q pos j s) o1) (fun n i o1 hn0 hi hI=>?_) (n:=n2) (s:=lost) (by omega) (hL.id' fun j s _ _=>⟨fun h=>absurd h.1 (Nat.not_lt_zero j),fun h=>h.elim⟩)
  ·obtain ⟨n3,o1,hn3,_,e2,hL1⟩:=T
   obtain ⟨n4,rfl⟩: ∃ n4,n3=n4+1:=⟨n3-1,by omega⟩
   refine ⟨(pB c pos,cB c pos,true,o1),?_,rfl,rfl,(decide_eq_true hr0).symm,hL1.id' fun j s hj _=>⟨fun h=>⟨hj,h⟩,fun h=>h.2⟩⟩
   refine Eq.trans e1 ?_
   show zFv n2 (zAx c q pos pos.length lost n2) c q pos pos.length lost (pB c pos) (pB c pos).length near (near.length:Int) (near.length:Int) (cB c pos) far=_
   unfold zFv
   rw [decide_eq_false (by omega),cond_false]
   refine Eq.trans e2 ?_
   show zFu n4 (zAx c q pos pos.length lost n4) c q pos pos.length lost (pB c pos) (pB c pos).length ((pB c pos).length:Int) (pos.length:Int) o1 (cB c pos) far=_
   unfold zFu
   rw [zBu,decide_eq_false (by omega),cond_false,if_pos zBk.symm]
  ·show ∃ s',zFu n (zAx c q pos pos.length lost n) c q pos pos.length lost (pB c pos) (pB c pos).length ((pB c pos).length:Int) (i:Int) o1 (cB c pos) far=_∧_
   unfold zFu
   simp only [Int.toNat_natCast,Nat.zero_add]
   have r1:R64 ((i:Int)+1):=zAG.2 ⟨by omega,by omega⟩
   rw [zBu,decide_eq_true (by omega),cond_true,if_pos ⟨⟨by omega,by omega⟩,by omega⟩]
   have hfi:far.getD i false=true↔(pB c pos).getD i false=true∧¬ Rc q.nbrs (pB c pos) r i:=by rw [hfar,hnear]
   cases hf:far.getD i false
   ·rw [cond_false,if_pos r1]
    refine ⟨o1,rfl,hI.id' fun j s hj _=>⟨fun h=>⟨?_,h.2⟩,fun h=>⟨by omega,h.2⟩⟩⟩
    rcases Nat.lt_succ_iff_lt_or_eq.1 h.1 with h1 | rfl
    ·exact h1
    ·have h2:=(zdn W.g (by rw [zBu];exact hgl.symm) hr0 hF).1 h.2
     have:=hfi.2 ⟨h2.1,h2.2.2⟩
     rw [hf] at this;cases this
   ·obtain ⟨l',e,h2⟩:=hI.lose (c:=c) (q:=q) (D':=fun j s=>j<i+1∧zOY c q pos j s) (cell:=(i:Int)) (ss:=c.set) (by omega) (by omega) fun j s hj _=>by
     constructor
     ·rintro ⟨h1,h2⟩
      rcases Nat.lt_succ_iff_lt_or_eq.1 h1 with h1 | rfl
      ·exact .inl ⟨h1,h2⟩
      ·exact .inr ⟨rfl,h2.2.1⟩
     ·rintro (⟨h1,h2⟩ | ⟨h1,h2⟩)
      ·exact ⟨by omega,h2⟩
      ·obtain rfl:j=i:=by omega
       have h3:=hfi.1 hf
       exact ⟨by omega,(zdn W.g (by rw [zBu];exact hgl.symm) hr0 hF).2 ⟨h3.1,h2,h3.2⟩⟩
    rw [cond_true,e,Option.bind_some,if_pos r1]
    exact ⟨l',rfl,h2⟩
 ·obtain ⟨hl,hf⟩:=hI
  have hx:near.getD i 0∈near:=by rw [List.getD_eq_getElem?_getD,List.getElem?_eq_getElem hi];exact List.getElem_mem hi
  have hxr:=hrng _ hx
  show ∃ s',zFv n (zAx c q pos pos.length lost n) c q pos pos.length lost (pB c pos) (pB c pos).length near (near.length:Int) (i:Int) (cB c pos) far=_∧_
  unfold zFv
  simp only [Int.toNat_natCast,Nat.zero_add]
  rw [zBu,decide_eq_true (by omega),cond_true,if_pos ⟨⟨by omega,by omega⟩,hxr,by omega,zAG.2 ⟨by omega,by omega⟩⟩]
  refine ⟨_,rfl,by rw [List.length_set];exact hl,fun j=>?_⟩
  have e3:near.take (i+1)=near.take i++[near.getD i 0]:=by
   rw [List.take_succ_eq_append_getElem hi,List.getD_eq_getElem?_getD,List.getElem?_eq_getElem hi];rfl
  rw [zDC (by omega),e3,List.mem_append,List.mem_singleton]
  by_cases e:j=(near.getD i 0).toNat
  ·rw [if_pos e]
   exact ⟨fun h=>(by cases h),fun h=>absurd (Or.inr (by omega)) h.2⟩
  ·rw [if_neg e,hf]
   exact ⟨fun h=>⟨h.1,fun h2=>h2.elim h.2 fun h3=>e (by omega)⟩,fun h=>⟨h.1,fun h2=>h.2 (.inl h2)⟩⟩
theorem zS7 (W:zBc c q pos) (hL:zAy pos lost (fun _ _=>False) lost) {r:Int} (hF:Fst (cB c pos) r):
 ∃ l,Ev (fun n=>zLL n c q pos pos.length lost) (pB c pos,cB c pos,decide (0≤r),l)∧zAy pos lost (zOY c q pos) l:=by
 have hl1:=W.l1
 have hgl:=W.gl
 have hlen:=W.len
 have L:(1000000000000:Nat)=LIM:=rfl
 suffices H:PEv (fun n=>zLL n c q pos pos.length lost) (zNH c q pos lost r) by
  obtain ⟨x,h1,h2⟩:=H.ev zNH.uniq
  obtain ⟨x1,x2,x3,x4⟩:=x
  obtain ⟨h3,h4,h5,h6⟩:=h1
  have h3:x1=pB c pos:=h3
  have h4:x2=cB c pos:=h4
  have h5:x3=decide (0≤r):=h5
  subst h3 h4 h5
  exact ⟨x4,h2,h6⟩
 have first: ∀ n,zAx c q pos pos.length lost (n+c.cells.length) (.l1 0 (List.replicate pos.length false) (List.replicate pos.length false))=zAx c q pos pos.length lost n (.l1 (c.cells.length:Int) (pB c pos) (cB c pos)):=fun n=>by
  have z: ∀ j:Nat,(List.replicate pos.length false).getD j false=false:=fun j=>by
   rw [List.getD_eq_getElem?_getD,List.getElem?_replicate];split <;> rfl
  obtain ⟨s',e,h1,h2,h3,h4⟩:=zaP (fun n (s:List Bool×List Bool) i=>zAx c q pos pos.length lost n (.l1 i s.1 s.2)) c.cells.length 0
   (fun i s=>s.1.length=pos.length∧s.2.length=pos.length∧(∀ j,s.1.getD j false=if j<i then (pB c pos).getD j false else false)∧(∀ j,s.2.getD j false=if j<i then (cB c pos).getD j false else false))
   (fun n i s _ hi hI=>by
    obtain ⟨o2,o3⟩:=s
    obtain ⟨h1,h2,h3,h4⟩:=hI
    have h1:o2.length=pos.length:=h1
    have h2:o3.length=pos.length:=h2
    have hid:=W.id i (by omega)
    show ∃ s',zFw n (zAx c q pos pos.length lost n) c q pos pos.length lost (i:Int) o2 o3=_∧_
    unfold zFw
    simp only [Int.toNat_natCast,Nat.zero_add,hid]
    rw [decide_eq_true (by omega),cond_true,if_pos ⟨⟨by omega,by omega⟩,⟨by omega,by omega⟩,by omega,by omega,zAG.2 ⟨by omega,by omega⟩⟩]
    refine ⟨(_,_),rfl,by rw [List.length_set];exact h1,by rw [List.length_set];exact h2,fun j=>?_,fun j=>?_⟩
    ·show (o2.set i _).getD j false=_
     rw [zDC (by omega)]
     by_cases e:j=i
     ·subst e;rw [if_pos rfl,if_pos (by omega),zbz (by omega)]
     ·have h3:o2.getD j false=_:=h3 j
      rw [if_neg e,h3]
      by_cases e2:j<i
      ·rw [if_pos e2,if_pos (by omega)]
      ·rw [if_neg e2,if_neg (by omega)]
    ·show (o3.set i _).getD j false=_
     rw [zDC (by omega)]
     by_cases e:j=i
     ·subst e;rw [if_pos rfl,if_pos (by omega),zcL (by omega)]
     ·have h4:o3.getD j false=_:=h4 j
      rw [if_neg e,h4]
      by_cases e2:j<i
      ·rw [if_pos e2,if_pos (by omega)]
      ·rw [if_neg e2,if_neg (by omega)])
   c.cells.length 0 n (List.replicate pos.length false,List.replicate pos.length false) (by omega) (by omega) ⟨List.length_replicate,List.length_replicate,fun j=>by rw [if_neg (by omega)];exact z j,fun j=>by rw [if_neg (by omega)];exact z j⟩
  obtain ⟨o2,o3⟩:=s'
  have h1:o2.length=pos.length:=h1
  have h2:o3.length=pos.length:=h2
  have e2:o2=pB c pos:=zKC (by rw [h1,zBu]) fun j hj=>by
   have h3:o2.getD j false=_:=h3 j
   rw [h3,if_pos (by omega)]
  have e3:o3=cB c pos:=zKC (by rw [h2,zBk]) fun j hj=>by
   have h4:o3.getD j false=_:=h4 j
   rw [h4,if_pos (by omega)]
  rw [←e2,←e3]
  exact e
 have start: ∀ n,zLL n c q pos pos.length lost=zAx c q pos pos.length lost n (.l1 0 (List.replicate pos.length false) (List.replicate pos.length false)):=fun n=>by
  unfold zLL zPw
  rw [if_pos ⟨rfl,by omega,by omega⟩]
 refine PEv.eq (PEv.step (c.cells.length+1) (g:=fun n=>(zTL n (cB c pos) true).bind fun y1=>bif (decide (y1<0)) then (if pos.length=(pB c pos).length then some (pB c pos,cB c pos,false,lost) else none) else (if pos.length=(pB c pos).length then (zLu n (pB c pos)).bind fun y2=>(zEY n q.nbrs (pB c pos) y1).bind fun y3=>zAx c q pos pos.length lost n (.l2 (pB c pos) y2.length y3.1 (y3.1.length:Int) 0 (cB c pos) y2) else none)) (fun n=>?_) ?_) start
 ·rw [show n+(c.cells.length+1)=n+1+c.cells.length by omega,first]
  show zFw n (zAx c q pos pos.length lost n) c q pos pos.length lost (c.cells.length:Int) (pB c pos) (cB c pos)=_
  unfold zFw
  rw [decide_eq_false (by omega),cond_false,if_pos zBk.symm]
 ·obtain ⟨r',h1,h2⟩:=zLe (l:=cB c pos) (by rw [zBk];exact hl1)
  obtain rfl:=hF.uniq h2
  refine PEv.bind h1 ?_
  by_cases hr0:0≤r
  ·have hcl: ∀ n,zLu n (pB c pos)=some (pB c pos):=fun n=>by
    have h0:=W.l0
    have h3:=zBu (c:=c) (pos:=pos)
    unfold zLu zLt
    rw [if_pos ⟨by omega,trivial,⟨rfl,rfl⟩,by rw [←L];simp only [List.length_nil];omega⟩,if_pos (by simp)];rfl
   obtain ⟨hr1,hr2⟩:r<(pos.length:Int)∧(cB c pos).getD r.toNat false=true:=by
    rcases hF with ⟨h,_⟩ | ⟨_,h,h',_⟩
    ·omega
    ·rw [zBk] at h;exact ⟨h,h'⟩
   have hpr:=W.cp (by omega) hr2
   refine PEv.eq (PEv.bindU (zQh W.g (by rw [zBu];exact hgl.symm) hr0 (by omega) hpr) (b:=fun n y3=>zAx c q pos pos.length lost n (.l2 (pB c pos) (pB c pos).length y3.1 (y3.1.length:Int) 0 (cB c pos) (pB c pos))) ⟨600,fun n hn x hx=>zXW W hL hr0 hF hx.2.1 hx.2.2 hn⟩) fun n=>?_
   rw [decide_eq_false (by omega),cond_false,if_pos zBu.symm,hcl,Option.bind_some]
  ·refine Ev.p (r:=(pB c pos,cB c pos,false,lost)) (Ev.now fun n=>?_) ⟨rfl,rfl,(decide_eq_false hr0).symm,hL.id' fun j s _ _=>⟨fun h=>?_,fun h=>h.elim⟩⟩
   ·rw [decide_eq_true (by omega),cond_true,if_pos zBu.symm]
   ·obtain ⟨_,_,r',h3,h4,_⟩:=h
    rw [hF.uniq h4] at hr0
    exact hr0 h3
def zQf (c:zAC) (q:zAB) (pos:List Int) (a s:Nat):Prop:=zOY c q pos a s∨((pB c pos).getD a false=true∧(cB c pos).getD a false=false∧Sp q.nbrs (pB c pos) (cB c pos) (a:Int)∧tb c.set s=false)
theorem zcJ (W:zBc c q pos) (hL:zAy pos lost (fun _ _=>False) lost): ∃ l,Ev (fun n=>za2 n c q pos pos.length lost) (true,l)∧zAy pos lost (zQf c q pos) l:=by
 have hl1:=W.l1
 have hgl:=W.gl
 obtain ⟨r,_,hF⟩:=zLe (l:=cB c pos) (by rw [zBk];exact hl1)
 obtain ⟨l0,h1,h2⟩:=zS7 W hL hF
 suffices H:PEv (fun n=>zGE c q pos pos.length lost n (.l1 (pB c pos) (cB c pos) (decide (0≤r)) ((pB c pos).length:Int) 0 l0)) (fun x=>x.1=true∧zAy pos lost (zQf c q pos) x.2) by
  obtain ⟨x,⟨h3,h4⟩,h5⟩:=(PEv.bind h1 (b:=fun n y1=>zGE c q pos pos.length lost n (.l1 y1.1 y1.2.1 y1.2.2.1 (y1.1.length:Int) 0 y1.2.2.2)) H).ev fun x y hx hy=>by
   obtain ⟨x1,x2⟩:=x
   obtain ⟨y1,y2⟩:=y
   have e1:x1=true:=hx.1
   have e2:y1=true:=hy.1
   have e3:x2=y2:=hx.2.unique hy.2
   rw [e1,e2,e3]
  obtain ⟨x1,x2⟩:=x
  have h3:x1=true:=h3
  subst h3
  exact ⟨x2,h5,h4⟩
 obtain ⟨N,hN⟩:=PEv.range (F:=fun (i:Nat) n=>if (pB c pos).getD i false=true then zKY n q.nbrs (pB c pos) (cB c pos) i else some (false,0)) (A:=fun i x=>(pB c pos).getD i false=true→x.2=0∧(x.1=true↔Sp q.nbrs (pB c pos) (cB c pos) i)) pos.length fun i hi=>by
  by_cases h:(pB c pos).getD i false=true
  ·refine ((zVx W.g (by rw [zBu];exact hgl.symm) (by rw [zBk];exact hgl.symm) (a:=i) (by omega) h).mono fun x hx _=>hx).eq fun n=>?_
   rw [if_pos h]
  ·exact Ev.p (r:=(false,0)) (Ev.now fun n=>by rw [if_neg h]) fun h'=>absurd h' h
 refine ⟨N+pos.length+1,fun n hn=>?_⟩
 have T:=zIt (fun n (o1:List Int) i=>zGE c q pos pos.length lost n (.l1 (pB c pos) (cB c pos) (decide (0≤r)) ((pB c pos).length:Int) i o1)) pos.length (N+1)
  (fun i o1=>zAy pos lost (fun a s=>zOY c q pos a s∨(a<i∧zQf c q pos a s)) o1) (fun n i o1 hn0 hi hI=>?_) (n:=n) (s:=l0) (by omega) (h2.id' fun j s _ _=>⟨fun h=>h.elim id fun h=>absurd h.1 (Nat.not_lt_zero j),.inl⟩)
 ·obtain ⟨n3,o1,hn3,_,e2,hL1⟩:=T
  obtain ⟨n4,rfl⟩: ∃ n4,n3=n4+1:=⟨n3-1,by omega⟩
  refine ⟨(true,o1),Eq.trans e2 ?_,rfl,hL1.id' fun j s hj _=>⟨fun h=>.inr ⟨hj,h⟩,fun h=>h.elim .inl fun h=>h.2⟩⟩
  show zIM n4 (zGE c q pos pos.length lost n4) c q pos pos.length lost (pB c pos) (cB c pos) (decide (0≤r)) ((pB c pos).length:Int) (pos.length:Int) o1=_
  unfold zIM
  rw [zBu,decide_eq_false (p:=((pos.length:Nat):Int)<((pos.length:Nat):Int)) (by omega),cond_false]
 ·show ∃ s',zIM n (zGE c q pos pos.length lost n) c q pos pos.length lost (pB c pos) (cB c pos) (decide (0≤r)) ((pB c pos).length:Int) (i:Int) o1=_∧_
  unfold zIM
  simp only [Int.toNat_natCast]
  have r1:R64 ((i:Int)+1):=zAG.2 ⟨by omega,by omega⟩
  have lp:(pB c pos).length=pos.length:=zBu
  have lc:(cB c pos).length=pos.length:=zBk
  rw [lp,lc,decide_eq_true (p:=(i:Int)<((pos.length:Nat):Int)) (by omega),cond_true]
  have skip:(∀ s,¬ ((pB c pos).getD i false=true∧(cB c pos).getD i false=false∧Sp q.nbrs (pB c pos) (cB c pos) (i:Int)∧tb c.set s=false))→zAy pos lost (fun a s=>zOY c q pos a s∨(a<i+1∧zQf c q pos a s)) o1:=fun hno=>hI.id' fun j s hj _=>by
   constructor
   ·rintro (h | ⟨h,h3⟩)
    ·exact .inl h
    ·rcases Nat.lt_succ_iff_lt_or_eq.1 h with h | rfl
     ·exact .inr ⟨h,h3⟩
     ·exact h3.elim .inl fun h4=>absurd h4 (hno s)
   ·rintro (h | ⟨h,h3⟩)
    ·exact .inl h
    ·exact .inr ⟨by omega,h3⟩
  by_cases hr0:0≤r
  ·rw [decide_eq_true hr0,Bool.not_true,cond_false,if_pos ⟨by omega,by omega⟩]
   cases hp:(pB c pos).getD i false
   ·rw [Bool.not_false,cond_true,if_pos r1]
    exact ⟨o1,rfl,skip fun s h=>by rw [hp] at h;cases h.1⟩
   ·rw [Bool.not_true,cond_false,if_pos ⟨by omega,by omega⟩]
    cases hc:(cB c pos).getD i false
    ·obtain ⟨x,e1,hx⟩:=hN n (by omega) i hi
     have e1:(if (pB c pos).getD i false=true then zKY n q.nbrs (pB c pos) (cB c pos) i else some (false,0))=some x:=e1
     rw [if_pos hp] at e1
     obtain ⟨_,hx⟩:=hx hp
     rw [cond_false,e1,Option.bind_some]
     cases hb:x.1
     ·rw [cond_false,if_pos r1]
      exact ⟨o1,rfl,skip fun s h=>by rw [hx.2 h.2.2.1] at hb;cases hb⟩
     ·obtain ⟨l',e,h3⟩:=hI.only (c:=c) (q:=q) (D':=fun a s=>zOY c q pos a s∨(a<i+1∧zQf c q pos a s)) (cell:=(i:Int)) (by omega) (by omega) fun j s hj _=>by
       constructor
       ·rintro (h | ⟨h,h3⟩)
        ·exact .inl (.inl h)
        ·rcases Nat.lt_succ_iff_lt_or_eq.1 h with h | rfl
         ·exact .inl (.inr ⟨h,h3⟩)
         ·exact h3.elim (fun h=>.inl (.inl h)) fun h4=>.inr ⟨rfl,h4.2.2.2⟩
       ·rintro ((h | ⟨h,h3⟩) | ⟨h,h3⟩)
        ·exact .inl h
        ·exact .inr ⟨by omega,h3⟩
        ·obtain rfl:j=i:=by omega
         exact .inr ⟨by omega,.inr ⟨hp,hc,hx.1 hb,h3⟩⟩
      rw [cond_true,e,Option.bind_some,if_pos r1]
      exact ⟨l',rfl,h3⟩
    ·rw [cond_true,if_pos r1]
     exact ⟨o1,rfl,skip fun s h=>by rw [hc] at h;cases h.2.1⟩
  ·rw [decide_eq_false hr0,Bool.not_false,cond_true,if_pos r1]
   refine ⟨o1,rfl,skip fun s h=>?_⟩
   obtain ⟨hp,_,⟨u,v,_,_,h3,_,h4,_⟩,_⟩:=h
   rcases hF with ⟨_,hF⟩ | ⟨h5,_⟩
   ·have:=h4.rng W.g.gr (by omega) (by omega)
    rw [hF u.toNat (by rw [zBk];omega)] at h3;cases h3
   ·exact hr0 h5
def deg (g:List (List Int)) (S:List Bool) (v:Int):Nat:=(nb g v).countP fun x=>S.getD x.toNat false
def zTF (c:zAC) (q:zAB) (pos:List Int):Prop:=∀ v,v<pos.length→(cB c pos).getD v false=true→2≤deg q.nbrs (pB c pos) v∧deg q.nbrs (cB c pos) v≤2
def nbD (c:zAC) (q:zAB) (pos:List Int) (v a s:Nat):Prop:=(cB c pos).getD v false=true∧(a:Int)∈nb q.nbrs v∧(pB c pos).getD a false=true∧((deg q.nbrs (pB c pos) v=2∧tb c.set s=false)∨(deg q.nbrs (cB c pos) v=2∧(cB c pos).getD a false=false∧tb c.set s=true))
def zXm (c:zAC) (q:zAB) (pos:List Int) (a s:Nat):Prop:=zOY c q pos a s∨∃ v,v<pos.length∧nbD c q pos v a s
section
variable {P C:List Bool} {o1:List Int} {row:List Int} {x20 x21:Int}
def nrF (P:List Bool) (o2:List Int) (v:Int):List Int:=bif P.getD v.toNat false then o2++[v] else o2
def mnF (C:List Bool) (x:Int) (v:Int):Int:=bif C.getD v.toNat false then x+1 else x
theorem zXT: ∀ (l o2:List Int),l.foldl (nrF P) o2=o2++l.filter fun x=>P.getD x.toNat false
 | [],o2=>by simp
 | v::l,o2=>by
  rw [List.foldl_cons,zXT l]
  unfold nrF
  cases h:P.getD v.toNat false
  ·rw [cond_false,List.filter_cons_of_neg (by rw [h];decide)]
  ·rw [cond_true,List.filter_cons_of_pos (p:=fun x=>P.getD (Int.toNat x) false) h,List.append_assoc];rfl
theorem zXe: ∀ (l:List Int) (x:Int),l.foldl (mnF C) x=x+(l.countP fun x=>C.getD x.toNat false:Nat)
 | [],x=>by simp
 | v::l,x=>by
  rw [List.foldl_cons,zXe l]
  unfold mnF
  cases h:C.getD v.toNat false
  ·rw [cond_false,List.countP_cons_of_neg (by rw [h];decide)]
  ·rw [cond_true,List.countP_cons_of_pos (p:=fun x=>C.getD (Int.toNat x) false) h];omega
def stN (P C:List Bool) (x20 x21:Int) (row o1 o2:List Int) (x8 j:Int):zFx:=match o2 with
 | []=>.l2 P C x8 x20 x21 row (row.length:Int) j o1
 | a::l=>.l3 P C (a::l).length x8 x20 x21 row (row.length:Int) j o1 (a::l)
theorem za7 {o2:List Int} {x8 j:Int} (h:o2≠[]):stN P C x20 x21 row o1 o2 x8 j= .l3 P C o2.length x8 x20 x21 row (row.length:Int) j o1 o2:=by
 cases o2 with
 | nil=>exact absurd rfl h
 | cons a l=>rfl
theorem zXc {n j:Nat} {x8:Int} {o2:List Int} (hP:P.length=pos.length) (hC:C.length=pos.length) (hr: ∀ u∈row,0≤u∧u<(pos.length:Int)) (hl:row.length≤256) (hj:j<row.length) (ho:o2.length≤256) (h8:0≤x8∧x8≤256):
 zAZ c q pos pos.length lost (n+1) (stN P C x20 x21 row o1 o2 x8 j)=zAZ c q pos pos.length lost n (stN P C x20 x21 row o1 (nrF P o2 (row.getD j 0)) (mnF C x8 (row.getD j 0)) ((j:Int)+1)):=by
 have L:(1000000000000:Nat)=LIM:=rfl
 have hx:row.getD j 0∈row:=by rw [List.getD_eq_getElem?_getD,List.getElem?_eq_getElem hj];exact List.getElem_mem hj
 have hxr:=hr _ hx
 have r1:R64 ((j:Int)+1):=zAG.2 ⟨by omega,by omega⟩
 have r8:R64 (x8+1):=zAG.2 ⟨by omega,by omega⟩
 cases o2 with
 | nil=>
  show zH7 n (zAZ c q pos pos.length lost n) c q pos pos.length lost P C x8 x20 x21 row (row.length:Int) (j:Int) o1=_
  unfold zH7 nrF mnF
  simp only [Int.toNat_natCast]
  rw [decide_eq_true (by omega),cond_true,if_pos ⟨⟨by omega,by omega⟩,by omega,by omega⟩]
  cases hp:P.getD (row.getD j 0).toNat false <;> cases hc:C.getD (row.getD j 0).toNat false
  ·rw [cond_false,cond_false,cond_false,if_pos ⟨by omega,by omega⟩,cond_false,if_pos r1];rfl
  ·rw [cond_false,cond_false,cond_true,if_pos ⟨by omega,by omega⟩,cond_true,if_pos ⟨r8,r1⟩];rfl
  ·rw [cond_true,cond_true,cond_false,if_pos ⟨⟨⟨trivial,rfl⟩,by rw [List.length_singleton];omega,by rw [List.length_singleton,←L];omega⟩,by omega,by omega⟩,cond_false,if_pos r1];rfl
  ·rw [cond_true,cond_true,cond_true,if_pos ⟨⟨⟨trivial,rfl⟩,by rw [List.length_singleton];omega,by rw [List.length_singleton,←L];omega⟩,by omega,by omega⟩,cond_true,if_pos ⟨r8,r1⟩];rfl
 | cons a l=>
  have hne:nrF P (a::l) (row.getD j 0)≠[]:=by unfold nrF;cases P.getD (row.getD j 0).toNat false <;> simp
  rw [za7 hne]
  show zFD n (zAZ c q pos pos.length lost n) c q pos pos.length lost P C (a::l).length x8 x20 x21 row (row.length:Int) (j:Int) o1 (a::l)=_
  unfold zFD nrF mnF
  simp only [Int.toNat_natCast]
  rw [decide_eq_true (by omega),cond_true,if_pos ⟨⟨by omega,by omega⟩,by omega,by omega⟩]
  cases hp:P.getD (row.getD j 0).toNat false <;> cases hc:C.getD (row.getD j 0).toNat false
  ·rw [cond_false,cond_false,cond_false,if_pos ⟨by omega,by omega⟩,cond_false,if_pos r1]
  ·rw [cond_false,cond_false,cond_true,if_pos ⟨by omega,by omega⟩,cond_true,if_pos ⟨r8,r1⟩]
  ·rw [cond_true,cond_true,cond_false,if_pos ⟨⟨⟨trivial,rfl⟩,⟨trivial,trivial⟩,by rw [List.length_singleton,←L];omega⟩,by omega,by omega⟩,cond_false,if_pos r1,List.length_append]
  ·rw [cond_true,cond_true,cond_true,if_pos ⟨⟨⟨trivial,rfl⟩,⟨trivial,trivial⟩,by rw [List.length_singleton,←L];omega⟩,by omega,by omega⟩,cond_true,if_pos ⟨r8,r1⟩,List.length_append]
theorem zS9 (hP:P.length=pos.length) (hC:C.length=pos.length) (hr: ∀ u∈row,0≤u∧u<(pos.length:Int)) (hl:row.length≤256): ∀ (k j n:Nat) (o2:List Int) (x8:Int),j+k=row.length→o2.length≤j→0≤x8∧x8≤(j:Int)→
 zAZ c q pos pos.length lost (n+k) (stN P C x20 x21 row o1 o2 x8 j)=zAZ c q pos pos.length lost n (stN P C x20 x21 row o1 ((row.drop j).foldl (nrF P) o2) ((row.drop j).foldl (mnF C) x8) (row.length:Int))
 | 0,j,n,o2,x8,e,_,_=>by
  have e:j=row.length:=by omega
  subst e
  rw [List.drop_length];rfl
 | k+1,j,n,o2,x8,e,h2,h8=>by
  have hj:j<row.length:=by omega
  have e2:row.drop j=row.getD j 0::row.drop (j+1):=by
   rw [List.drop_eq_getElem_cons hj,List.getD_eq_getElem?_getD,List.getElem?_eq_getElem hj];rfl
  rw [←Nat.add_assoc,zXc hP hC hr hl hj (by omega) (by omega),e2,List.foldl_cons,List.foldl_cons]
  have h3:(nrF P o2 (row.getD j 0)).length≤j+1:=by
   unfold nrF
   cases P.getD (row.getD j 0).toNat false
   ·rw [cond_false];omega
   ·rw [cond_true,List.length_append,List.length_singleton];omega
  have h4:0≤mnF C x8 (row.getD j 0)∧mnF C x8 (row.getD j 0)≤((j+1:Nat):Int):=by
   unfold mnF
   cases C.getD (row.getD j 0).toNat false
   ·rw [cond_false];omega
   ·rw [cond_true];omega
  exact zS9 hP hC hr hl k (j+1) n _ _ (by omega) h3 h4
theorem zbJ {D:Nat→Nat→Prop} {near:List Int} {x8:Int} {v:Nat} {n:Nat} (W:zBc c q pos) (hD:zAy pos lost D o1) (hnr: ∀ u∈near,0≤u∧u<(pos.length:Int)) (hnl:near.length≤256) (hv:v<pos.length):
 ∃ l',zAZ c q pos pos.length lost (n+1+near.length) (.l4 (pB c pos) (cB c pos) near.length x8 x20 (v:Int) near.length (near.length:Int) 0 o1 near)=zAZ c q pos pos.length lost n (.l1 (pB c pos) (cB c pos) x20 ((v:Int)+1) l')∧
  zAy pos lost (fun a s=>D a s∨((a:Int)∈near∧((near.length=2∧tb c.set s=false)∨(x8=2∧(cB c pos).getD a false=false∧tb c.set s=true)))) l':=by
 have hl1:=W.l1
 have lc:(cB c pos).length=pos.length:=zBk
 obtain ⟨l',e,h⟩:=zaP (fun n (s:List Int) i=>zAZ c q pos pos.length lost n (.l4 (pB c pos) (cB c pos) near.length x8 x20 (v:Int) near.length (near.length:Int) i s near)) near.length 0
  (fun i s=>zAy pos lost (fun a t=>D a t∨((a:Int)∈near.take i∧((near.length=2∧tb c.set t=false)∨(x8=2∧(cB c pos).getD a false=false∧tb c.set t=true)))) s)
  (fun n i s _ hi hI=>by
   have hx:near.getD i 0∈near:=by rw [List.getD_eq_getElem?_getD,List.getElem?_eq_getElem hi];exact List.getElem_mem hi
   have hxr:=hnr _ hx
   have e3:near.take (i+1)=near.take i++[near.getD i 0]:=by
    rw [List.take_succ_eq_append_getElem hi,List.getD_eq_getElem?_getD,List.getElem?_eq_getElem hi];rfl
   have r1:R64 ((i:Int)+1):=zAG.2 ⟨by omega,by omega⟩
   have mem: ∀ a:Nat,(a:Int)∈near.take (i+1)↔(a:Int)∈near.take i∨(a:Int)=near.getD i 0:=fun a=>by rw [e3,List.mem_append,List.mem_singleton]
   obtain ⟨l2,f2,hL2⟩:=hI.only (c:=c) (q:=q) (cell:=near.getD i 0) hxr.1 hxr.2 (D':=fun a t=>(D a t∨((a:Int)∈near.take i∧((near.length=2∧tb c.set t=false)∨(x8=2∧(cB c pos).getD a false=false∧tb c.set t=true))))∨((a:Int)=near.getD i 0∧tb c.set t=false)) fun j s _ _=>Iff.rfl
   obtain ⟨l3,f3,hL3⟩:=hL2.lose (c:=c) (q:=q) (cell:=near.getD i 0) (ss:=c.set) hxr.1 hxr.2 (D':=fun a t=>((D a t∨((a:Int)∈near.take i∧((near.length=2∧tb c.set t=false)∨(x8=2∧(cB c pos).getD a false=false∧tb c.set t=true))))∨((a:Int)=near.getD i 0∧tb c.set t=false))∨((a:Int)=near.getD i 0∧tb c.set t=true)) fun j s _ _=>Iff.rfl
   obtain ⟨l4,f4,hL4⟩:=hI.lose (c:=c) (q:=q) (cell:=near.getD i 0) (ss:=c.set) hxr.1 hxr.2 (D':=fun a t=>(D a t∨((a:Int)∈near.take i∧((near.length=2∧tb c.set t=false)∨(x8=2∧(cB c pos).getD a false=false∧tb c.set t=true))))∨((a:Int)=near.getD i 0∧tb c.set t=true)) fun j s _ _=>Iff.rfl
   show ∃ s',zH6 n (zAZ c q pos pos.length lost n) c q pos pos.length lost (pB c pos) (cB c pos) near.length x8 x20 (v:Int) near.length (near.length:Int) (i:Int) s near=_∧_
   unfold zH6
   simp only [Int.toNat_natCast,Nat.zero_add]
   rw [decide_eq_true (by omega),cond_true,if_pos ⟨⟨by omega,by omega⟩,hi⟩]
   have toN: ∀ a:Nat,(a:Int)=near.getD i 0→(near.getD i 0).toNat=a:=fun a h=>by omega
   by_cases h2:near.length=2
   ·have b2:(((near.length:Nat):Int)==2)=true:=by rw [h2];rfl
    rw [b2,cond_true,f2,Option.bind_some]
    by_cases h8:x8=2
    ·have b8:(x8==2)=true:=by rw [h8];rfl
     rw [b8,cond_true,if_pos ⟨by omega,by omega⟩]
     cases hc:(cB c pos).getD (near.getD i 0).toNat false
     ·rw [Bool.not_false,cond_true,f3,Option.bind_some,if_pos r1]
      refine ⟨l3,rfl,hL3.id' fun a t _ _=>?_⟩
      rw [mem]
      constructor
      ·rintro (h | ⟨h | h,h3 | ⟨h3,h4,h5⟩⟩)
       ·exact .inl (.inl (.inl h))
       ·exact .inl (.inl (.inr ⟨h,.inl h3⟩))
       ·exact .inl (.inl (.inr ⟨h,.inr ⟨h3,h4,h5⟩⟩))
       ·exact .inl (.inr ⟨h,h3.2⟩)
       ·exact .inr ⟨h,h5⟩
      ·rintro (((h | ⟨h,h3⟩) | ⟨h,h3⟩) | ⟨h,h3⟩)
       ·exact .inl h
       ·exact .inr ⟨.inl h,h3⟩
       ·exact .inr ⟨.inr h,.inl ⟨h2,h3⟩⟩
       ·exact .inr ⟨.inr h,.inr ⟨h8,by rw [←toN a h];exact hc,h3⟩⟩
     ·rw [Bool.not_true,cond_false,if_pos r1]
      refine ⟨l2,rfl,hL2.id' fun a t _ _=>?_⟩
      rw [mem]
      constructor
      ·rintro (h | ⟨h | h,h3 | ⟨h3,h4,h5⟩⟩)
       ·exact .inl (.inl h)
       ·exact .inl (.inr ⟨h,.inl h3⟩)
       ·exact .inl (.inr ⟨h,.inr ⟨h3,h4,h5⟩⟩)
       ·exact .inr ⟨h,h3.2⟩
       ·rw [←toN a h,hc] at h4;cases h4
      ·rintro ((h | ⟨h,h3⟩) | ⟨h,h3⟩)
       ·exact .inl h
       ·exact .inr ⟨.inl h,h3⟩
       ·exact .inr ⟨.inr h,.inl ⟨h2,h3⟩⟩
    ·have b8:(x8==2)=false:=beq_eq_false_iff_ne.2 h8
     rw [b8,cond_false,if_pos r1]
     refine ⟨l2,rfl,hL2.id' fun a t _ _=>?_⟩
     rw [mem]
     constructor
     ·rintro (h | ⟨h | h,h3 | ⟨h3,h4,h5⟩⟩)
      ·exact .inl (.inl h)
      ·exact .inl (.inr ⟨h,.inl h3⟩)
      ·exact .inl (.inr ⟨h,.inr ⟨h3,h4,h5⟩⟩)
      ·exact .inr ⟨h,h3.2⟩
      ·exact absurd h3 h8
     ·rintro ((h | ⟨h,h3⟩) | ⟨h,h3⟩)
      ·exact .inl h
      ·exact .inr ⟨.inl h,h3⟩
      ·exact .inr ⟨.inr h,.inl ⟨h2,h3⟩⟩
   ·have b2:(((near.length:Nat):Int)==2)=false:=beq_eq_false_iff_ne.2 (by omega)
    rw [b2,cond_false]
    by_cases h8:x8=2
    ·have b8:(x8==2)=true:=by rw [h8];rfl
     rw [b8,cond_true,if_pos ⟨by omega,by omega⟩]
     cases hc:(cB c pos).getD (near.getD i 0).toNat false
     ·rw [Bool.not_false,cond_true,f4,Option.bind_some,if_pos r1]
      refine ⟨l4,rfl,hL4.id' fun a t _ _=>?_⟩
      rw [mem]
      constructor
      ·rintro (h | ⟨h | h,h3 | ⟨h3,h4,h5⟩⟩)
       ·exact .inl (.inl h)
       ·exact .inl (.inr ⟨h,.inl h3⟩)
       ·exact .inl (.inr ⟨h,.inr ⟨h3,h4,h5⟩⟩)
       ·exact absurd h3.1 h2
       ·exact .inr ⟨h,h5⟩
      ·rintro ((h | ⟨h,h3⟩) | ⟨h,h3⟩)
       ·exact .inl h
       ·exact .inr ⟨.inl h,h3⟩
       ·exact .inr ⟨.inr h,.inr ⟨h8,by rw [←toN a h];exact hc,h3⟩⟩
     ·rw [Bool.not_true,cond_false,if_pos r1]
      refine ⟨s,rfl,hI.id' fun a t _ _=>?_⟩
      rw [mem]
      constructor
      ·rintro (h | ⟨h | h,h3 | ⟨h3,h4,h5⟩⟩)
       ·exact .inl h
       ·exact .inr ⟨h,.inl h3⟩
       ·exact .inr ⟨h,.inr ⟨h3,h4,h5⟩⟩
       ·exact absurd h3.1 h2
       ·rw [←toN a h,hc] at h4;cases h4
      ·rintro (h | ⟨h,h3⟩)
       ·exact .inl h
       ·exact .inr ⟨.inl h,h3⟩
    ·have b8:(x8==2)=false:=beq_eq_false_iff_ne.2 h8
     rw [b8,cond_false,if_pos r1]
     refine ⟨s,rfl,hI.id' fun a t _ _=>?_⟩
     rw [mem]
     constructor
     ·rintro (h | ⟨h | h,h3 | ⟨h3,h4,h5⟩⟩)
      ·exact .inl h
      ·exact .inr ⟨h,.inl h3⟩
      ·exact .inr ⟨h,.inr ⟨h3,h4,h5⟩⟩
      ·exact absurd h3.1 h2
      ·exact absurd h3 h8
     ·rintro (h | ⟨h,h3⟩)
      ·exact .inl h
      ·exact .inr ⟨.inl h,h3⟩)
  near.length 0 (n+1) o1 (by omega) (by omega) (hD.id' fun a t _ _=>by simp)
 refine ⟨l',Eq.trans e ?_,h.id' fun a t _ _=>by rw [List.take_length]⟩
 show zH6 n (zAZ c q pos pos.length lost n) c q pos pos.length lost (pB c pos) (cB c pos) near.length x8 x20 (v:Int) near.length (near.length:Int) (near.length:Int) l' near=_
 unfold zH6
 rw [decide_eq_false (by omega),cond_false,if_pos (zAG.2 ⟨by omega,by omega⟩)]
end
def zdN (c:zAC) (q:zAB) (pos lost:List Int) (x:Bool×List Int):Prop:=(x.1=true↔zTF c q pos)∧(x.1=true→zAy pos lost (zXm c q pos) x.2)
theorem zXk (W:zBc c q pos): ∀ (k v:Nat) (o1:List Int),v+k=pos.length→(∀ u,u<v→(cB c pos).getD u false=true→2≤deg q.nbrs (pB c pos) u∧deg q.nbrs (cB c pos) u≤2)→zAy pos lost (fun a s=>zOY c q pos a s∨∃ u,u<v∧nbD c q pos u a s) o1→
 PEv (fun n=>zAZ c q pos pos.length lost n (.l1 (pB c pos) (cB c pos) (pos.length:Int) (v:Int) o1)) (zdN c q pos lost):=by
 have hl1:=W.l1
 have hgl:=W.gl
 have lp:(pB c pos).length=pos.length:=zBu
 have lc:(cB c pos).length=pos.length:=zBk
 intro k
 induction k with
 | zero=>
  intro v o1 e hok hL
  have e:v=pos.length:=by omega
  subst e
  refine Ev.p (r:=(true,o1)) ⟨1,fun n hn=>?_⟩ ⟨⟨fun _ v hv hc=>hok v hv hc,fun _=>rfl⟩,fun _=>hL⟩
  obtain ⟨n,rfl⟩: ∃ k,n=k+1:=⟨n-1,by omega⟩
  show zH8 n (zAZ c q pos pos.length lost n) c q pos pos.length lost (pB c pos) (cB c pos) (pos.length:Int) (pos.length:Int) o1=_
  unfold zH8
  rw [decide_eq_false (by omega),cond_false]
 | succ k ih=>
  intro v o1 e hok hL
  have hv:v<pos.length:=by omega
  have r1:R64 ((v:Int)+1):=zAG.2 ⟨by omega,by omega⟩
  have U: ∀ n,zAZ c q pos pos.length lost (n+1) (.l1 (pB c pos) (cB c pos) (pos.length:Int) (v:Int) o1)=bif (cB c pos).getD v false then zAZ c q pos pos.length lost n (stN (pB c pos) (cB c pos) (pos.length:Int) (v:Int) (nb q.nbrs v) o1 [] 0 0) else zAZ c q pos pos.length lost n (.l1 (pB c pos) (cB c pos) (pos.length:Int) ((v:Int)+1) o1):=fun n=>by
   show zH8 n (zAZ c q pos pos.length lost n) c q pos pos.length lost (pB c pos) (cB c pos) (pos.length:Int) (v:Int) o1=_
   unfold zH8
   rw [decide_eq_true (by omega),cond_true,if_pos ⟨by omega,by omega⟩,Int.toNat_natCast,if_pos r1,if_pos ⟨by omega,by omega⟩]
   cases (cB c pos).getD v false <;> rfl
  cases hc:(cB c pos).getD v false
  ·refine PEv.step 1 (fun n=>?_) (ih (v+1) o1 (by omega) (fun u hu huc=>?_) (hL.id' fun a s _ _=>?_))
   ·rw [U,hc,cond_false];rfl
   ·rcases Nat.lt_succ_iff_lt_or_eq.1 hu with hu | rfl
    ·exact hok u hu huc
    ·rw [hc] at huc;cases huc
   ·constructor
    ·rintro (h | ⟨u,hu,h⟩)
     ·exact .inl h
     ·rcases Nat.lt_succ_iff_lt_or_eq.1 hu with hu | rfl
      ·exact .inr ⟨u,hu,h⟩
      ·rw [h.1] at hc;cases hc
    ·rintro (h | ⟨u,hu,h⟩)
     ·exact .inl h
     ·exact .inr ⟨u,by omega,h⟩
  ·have hrow:=W.g.gr.row (v:Int) (by omega) (by omega)
   have hrng: ∀ u∈nb q.nbrs (v:Int),0≤u∧u<(pos.length:Int):=fun u hu=>by
    have:=W.g.gr.rng (v:Int) (by omega) (by omega) u hu
    omega
   have A:=fun n=>zS9 (c:=c) (q:=q) (lost:=lost) (o1:=o1) (x20:=(pos.length:Int)) (x21:=(v:Int)) lp lc hrng hrow (nb q.nbrs v).length 0 n [] 0 (by omega) (by simp) ⟨Int.le_refl _,by omega⟩
   rw [List.drop_zero,zXT,zXe,List.nil_append,Int.zero_add] at A
   have dP:deg q.nbrs (pB c pos) v=((nb q.nbrs v).filter fun x=>(pB c pos).getD x.toNat false).length:=List.countP_eq_length_filter
   have dC:deg q.nbrs (cB c pos) v=(nb q.nbrs v).countP fun x=>(cB c pos).getD x.toNat false:=rfl
   rw [←dC] at A
   generalize hnear:((nb q.nbrs v).filter fun x=>(pB c pos).getD x.toNat false)=near at A dP
   have hmem: ∀ u,u∈near↔u∈nb q.nbrs v∧(pB c pos).getD u.toNat false=true:=fun u=>by rw [←hnear,List.mem_filter]
   have hnl:near.length≤256:=by
    have:=List.length_filter_le (fun x=>(pB c pos).getD x.toNat false) (nb q.nbrs v)
    rw [hnear] at this;omega
   have hnr: ∀ u∈near,0≤u∧u<(pos.length:Int):=fun u hu=>hrng u ((hmem u).1 hu).1
   have U2: ∀ n,zAZ c q pos pos.length lost (n+((nb q.nbrs v).length+1)) (.l1 (pB c pos) (cB c pos) (pos.length:Int) (v:Int) o1)=zAZ c q pos pos.length lost n (stN (pB c pos) (cB c pos) (pos.length:Int) (v:Int) (nb q.nbrs v) o1 near (deg q.nbrs (cB c pos) v:Int) ((nb q.nbrs v).length:Int)):=fun n=>by
    rw [←Nat.add_assoc,U,hc,cond_true]
    exact A n
   refine PEv.step _ U2 ?_
   by_cases hbad:deg q.nbrs (pB c pos) v<2∨2<deg q.nbrs (cB c pos) v
   ·have hno: ¬ zTF c q pos:=fun h=>by have:=h v hv hc;omega
    refine Ev.p (r:=(false,o1)) ⟨1,fun n hn=>?_⟩ ⟨⟨fun h=>(by cases h),fun h=>absurd h hno⟩,fun h=>(by cases h)⟩
    obtain ⟨n,rfl⟩: ∃ k,n=k+1:=⟨n-1,by omega⟩
    cases near with
    | nil=>
     show zH7 n (zAZ c q pos pos.length lost n) c q pos pos.length lost (pB c pos) (cB c pos) (deg q.nbrs (cB c pos) v:Int) (pos.length:Int) (v:Int) (nb q.nbrs v) ((nb q.nbrs v).length:Int) ((nb q.nbrs v).length:Int) o1=_
     unfold zH7
     rw [decide_eq_false (by omega),cond_false]
    | cons a l=>
     show zFD n (zAZ c q pos pos.length lost n) c q pos pos.length lost (pB c pos) (cB c pos) (a::l).length (deg q.nbrs (cB c pos) v:Int) (pos.length:Int) (v:Int) (nb q.nbrs v) ((nb q.nbrs v).length:Int) ((nb q.nbrs v).length:Int) o1 (a::l)=_
     unfold zFD
     rw [decide_eq_false (by omega),cond_false]
     by_cases h2:(((a::l).length:Nat):Int)<2
     ·rw [decide_eq_true h2,cond_true]
     ·rw [decide_eq_false h2,cond_false,decide_eq_true (by omega),cond_true]
   ·have hne:near≠[]:=by
     intro h
     rw [h,List.length_nil] at dP
     omega
    obtain ⟨l',e4,hL4⟩:=zbJ (c:=c) (q:=q) (lost:=lost) (o1:=o1) (near:=near) (x20:=(pos.length:Int)) (x8:=(deg q.nbrs (cB c pos) v:Int)) (n:=0) W hL hnr hnl hv
    have e5: ∀ n,∃ l',zAZ c q pos pos.length lost (n+1+near.length) (.l4 (pB c pos) (cB c pos) near.length (deg q.nbrs (cB c pos) v:Int) (pos.length:Int) (v:Int) near.length (near.length:Int) 0 o1 near)=zAZ c q pos pos.length lost n (.l1 (pB c pos) (cB c pos) (pos.length:Int) ((v:Int)+1) l')∧_:=fun n=>zbJ (c:=c) (q:=q) (lost:=lost) (o1:=o1) (near:=near) (x20:=(pos.length:Int)) (x8:=(deg q.nbrs (cB c pos) v:Int)) (n:=n) W hL hnr hnl hv
    have IH:=ih (v+1) l' (by omega) (fun u hu huc=>by
     rcases Nat.lt_succ_iff_lt_or_eq.1 hu with hu | rfl
     ·exact hok u hu huc
     ·omega) (hL4.id' fun a s _ _=>by
     constructor
     ·rintro (h | ⟨u,hu,h⟩)
      ·exact .inl (.inl h)
      ·rcases Nat.lt_succ_iff_lt_or_eq.1 hu with hu | rfl
       ·exact .inl (.inr ⟨u,hu,h⟩)
       ·obtain ⟨h1,h2,h3,h4⟩:=h
        refine .inr ⟨(hmem _).2 ⟨h2,by rw [Int.toNat_natCast];exact h3⟩,?_⟩
        rcases h4 with ⟨h4,h5⟩ | ⟨h4,h5⟩
        ·exact .inl ⟨by omega,h5⟩
        ·exact .inr ⟨by omega,h5⟩
     ·rintro ((h | ⟨u,hu,h⟩) | ⟨h1,h2⟩)
      ·exact .inl h
      ·exact .inr ⟨u,by omega,h⟩
      ·obtain ⟨h3,h4⟩:=(hmem _).1 h1
       rw [Int.toNat_natCast] at h4
       refine .inr ⟨v,by omega,hc,h3,h4,?_⟩
       rcases h2 with ⟨h2,h5⟩ | ⟨h2,h5⟩
       ·exact .inl ⟨by omega,h5⟩
       ·exact .inr ⟨by omega,h5⟩)
    refine PEv.step (1+near.length+1) (g:=fun n=>zAZ c q pos pos.length lost n (.l1 (pB c pos) (cB c pos) (pos.length:Int) ((v:Int)+1) l')) (fun n=>?_) IH
    obtain ⟨l2,e6,hL6⟩:=e5 n
    have:l2=l':=hL6.unique hL4
    subst this
    rw [za7 hne,show n+(1+near.length+1)=n+1+near.length+1 by omega,←e6]
    show zFD (n+1+near.length) (zAZ c q pos pos.length lost (n+1+near.length)) c q pos pos.length lost (pB c pos) (cB c pos) near.length (deg q.nbrs (cB c pos) v:Int) (pos.length:Int) (v:Int) (nb q.nbrs v) ((nb q.nbrs v).length:Int) ((nb q.nbrs v).length:Int) o1 near=_
    unfold zFD
    rw [decide_eq_false (by omega),cond_false,decide_eq_false (by omega),cond_false,decide_eq_false (by omega),cond_false]
theorem zb9 (W:zBc c q pos) (hL:zAy pos lost (fun _ _=>False) lost):PEv (fun n=>zaO n c q pos pos.length lost) (zdN c q pos lost):=by
 have hl1:=W.l1
 obtain ⟨r,_,hF⟩:=zLe (l:=cB c pos) (by rw [zBk];exact hl1)
 obtain ⟨l0,h1,h2⟩:=zS7 W hL hF
 refine PEv.bind h1 (b:=fun n y1=>zAZ c q pos pos.length lost n (.l1 y1.1 y1.2.1 (y1.2.1.length:Int) 0 y1.2.2.2)) ?_
 have:=zXk (q:=q) W pos.length 0 l0 (by omega) (fun u hu=>absurd hu (Nat.not_lt_zero u)) (h2.id' fun a s _ _=>⟨fun h=>h.elim id fun ⟨u,hu,_⟩=>absurd hu (Nat.not_lt_zero u),.inl⟩)
 refine this.eq fun n=>?_
 show zAZ c q pos pos.length lost n (.l1 (pB c pos) (cB c pos) ((cB c pos).length:Int) 0 l0)=_
 rw [zBk];rfl
end
end Go.Proofs.YtekkngkphejfcaaGreatDoor
namespace Go.Proofs.YtekkngkphejfcaaGreatDoor
open Go.RowKit
set_option maxRecDepth 100000
set_option maxHeartbeats 40000000
theorem zRH:SOk (zBa Tryz.f36 6) [([0,1,2,3,4,5,6,7,8],9),([10],11)] [12] []:=by unfold SOk;kernel_rfl
theorem zO3:SOk (zBa Tryz.f36 13) [] (List.range 13) [13]:=by unfold SOk;kernel_rfl
def zAQ:Sch:=fun i=>match i with
 | 6=>.ord [([0,1,2,3,4,5,6,7,8],9),([10],11)] [12] []
 | 13=>.ord [] (List.range 13) [13]
 | _=>.no
def zQH (q:zAB) (pos:List Int):DH:=[some (.cells (zAE q)),some (.cells [.cst .nilFunc,.fn 57 0 (L1 []),.fn 58 0 (L1 []),.fn 59 0 (L1 []),.fn 60 0 (L1 []),.fn 61 0 (L1 []),.fn 62 0 (L1 []),.fn 63 0 (L1 []),.fn 64 0 (L1 []),.fn 65 0 (L1 [])]),some (.ints (List.replicate pos.length (0:Int)))]
def zBH (q:zAB) (pos:List Int) (i:Int):DH:=[some (.cells (zAE q)),some (.cells [.cst .nilFunc,.fn 57 0 (L1 []),.fn 58 0 (L1 []),.fn 59 0 (L1 []),.fn 60 0 (L1 []),.fn 61 0 (L1 []),.fn 62 0 (L1 []),.fn 63 0 (L1 []),.fn 64 0 (L1 []),.fn 65 0 (L1 [])]),some (.ints (List.replicate pos.length (0:Int))),some (.ints (List.replicate pos.length (0:Int))),some (.cells (zAF (q.cons.getD ((i).toNat) default)++zAE q++[.ints pos,.msl 3 1 0 pos.length]))]
def zQG (pos:List Int) (q:zAB) (i:Int) (o2:List Int):DH:=[some (.ints (List.replicate pos.length (0:Int))),some (.cells (zAF (q.cons.getD ((i).toNat) default)++zAE q++[.ints pos,.msl 2 1 0 pos.length])),some (.ints o2)]
def zQF (pos:List Int) (q:zAB) (i:Int) (o2 o3:List Int):DH:=[some (.ints (List.replicate pos.length (0:Int))),some (.cells (zAF (q.cons.getD ((i).toNat) default)++zAE q++[.ints pos,.msl 2 1 0 pos.length])),some (.ints o2),some (.ints o3)]
inductive zFq where
 | l1 (o2:List Int)
 | l2 (x10:Nat) (x47 x48:Int) (o2 o3:List Int)
def zIm (n:Nat) (self:zFq→Option ((List Int))) (q:zAB) (i:Int) (pos:List Int) (o2:List Int):Option ((List Int)):=
 (zTX n pos).bind fun y1=>
  self (.l2 y1.length (y1.length:Int) 0 o2 y1)
def zEQ (n:Nat) (self:zFq→Option ((List Int))) (q:zAB) (i:Int) (pos:List Int) (x10:Nat) (x47 x48:Int) (o2 o3:List Int):Option ((List Int)):=
 bif (decide (x48<x47)) then
  if (0≤x48∧x48<(x10:Int))∧0+((x48).toNat)<o3.length∧(0≤x48∧x48<(pos.length:Int))∧0+((x48).toNat)<o2.length∧R64 (x48+1) then
   self (.l2 x10 x47 (x48+1) o2 (o3.set (0+((x48).toNat)) (bits .andNot .i64 (o3.getD (0+((x48).toNat)) 0) (o2.getD (0+((x48).toNat)) 0))))
  else none
 else
  if x10=o3.length then
   (zMx n o3).bind fun y1=>
    bif y1 then
     if pos.length=(List.replicate pos.length (0:Int)).length then
      some (List.replicate pos.length (0:Int))
     else none
    else
     some o3
  else none
def zIn (n:Nat) (self:zFq→Option ((List Int))) (q:zAB) (i:Int) (pos:List Int):Option ((List Int)):=
 if ((pos.length:Int):Int)=(pos.length:Int)∧0≤(pos.length:Int)∧((pos.length:Int):Int)≤1000000000000 then
  (zMx n pos).bind fun y1=>
   bif y1 then
    if pos.length=(List.replicate pos.length (0:Int)).length then
     some (List.replicate pos.length (0:Int))
    else none
   else
    if 0≤i∧i<(q.cons.length:Int) then
     bif (((q.cons.getD ((i).toNat) default).kind)==0) then
      none
     else
      bif (((q.cons.getD ((i).toNat) default).kind)==1) then
       (zVS n (q.cons.getD ((i).toNat) default) q pos pos.length (List.replicate pos.length (0:Int))).bind fun y2=>
        bif (!y2.1) then
         if pos.length=(List.replicate pos.length (0:Int)).length then
          some (List.replicate pos.length (0:Int))
         else none
        else
         self (.l1 y2.2)
      else
       bif (((q.cons.getD ((i).toNat) default).kind)==2) then
        (zM9 n (q.cons.getD ((i).toNat) default) q pos pos.length (List.replicate pos.length (0:Int))).bind fun y2=>
         bif (!y2.1) then
          if pos.length=(List.replicate pos.length (0:Int)).length then
           some (List.replicate pos.length (0:Int))
          else none
         else
          self (.l1 y2.2)
       else
        bif (((q.cons.getD ((i).toNat) default).kind)==3) then
         (zcR n (q.cons.getD ((i).toNat) default) q pos pos.length (List.replicate pos.length (0:Int))).bind fun y2=>
          bif (!y2.1) then
           if pos.length=(List.replicate pos.length (0:Int)).length then
            some (List.replicate pos.length (0:Int))
           else none
          else
           self (.l1 y2.2)
        else
         bif (((q.cons.getD ((i).toNat) default).kind)==4) then
          (zPM n (q.cons.getD ((i).toNat) default) q pos pos.length (List.replicate pos.length (0:Int))).bind fun y2=>
           bif (!y2.1) then
            if pos.length=(List.replicate pos.length (0:Int)).length then
             some (List.replicate pos.length (0:Int))
            else none
           else
            self (.l1 y2.2)
         else
          bif (((q.cons.getD ((i).toNat) default).kind)==5) then
           (zUD n (q.cons.getD ((i).toNat) default) q pos pos.length (List.replicate pos.length (0:Int))).bind fun y2=>
            bif (!y2.1) then
             if pos.length=(List.replicate pos.length (0:Int)).length then
              some (List.replicate pos.length (0:Int))
             else none
            else
             self (.l1 y2.2)
          else
           bif (((q.cons.getD ((i).toNat) default).kind)==6) then
            (zL3 n (q.cons.getD ((i).toNat) default) q pos pos.length (List.replicate pos.length (0:Int))).bind fun y2=>
             bif (!y2.1) then
              if pos.length=(List.replicate pos.length (0:Int)).length then
               some (List.replicate pos.length (0:Int))
              else none
             else
              self (.l1 y2.2)
           else
            bif (((q.cons.getD ((i).toNat) default).kind)==7) then
             (zb3 n (q.cons.getD ((i).toNat) default) q pos pos.length (List.replicate pos.length (0:Int))).bind fun y2=>
              bif (!y2.1) then
               if pos.length=(List.replicate pos.length (0:Int)).length then
                some (List.replicate pos.length (0:Int))
               else none
              else
               self (.l1 y2.2)
            else
             bif (((q.cons.getD ((i).toNat) default).kind)==8) then
              (za2 n (q.cons.getD ((i).toNat) default) q pos pos.length (List.replicate pos.length (0:Int))).bind fun y2=>
               bif (!y2.1) then
                if pos.length=(List.replicate pos.length (0:Int)).length then
                 some (List.replicate pos.length (0:Int))
                else none
               else
                self (.l1 y2.2)
             else
              bif (((q.cons.getD ((i).toNat) default).kind)==9) then
               (zaO n (q.cons.getD ((i).toNat) default) q pos pos.length (List.replicate pos.length (0:Int))).bind fun y2=>
                bif (!y2.1) then
                 if pos.length=(List.replicate pos.length (0:Int)).length then
                  some (List.replicate pos.length (0:Int))
                 else none
                else
                 self (.l1 y2.2)
              else
               none
    else none
 else none
def zBi (q:zAB) (i:Int) (pos:List Int):Nat→zFq→Option ((List Int))
 | 0,_=>none
 | n+1,.l1 o2=>zIm n (zBi q i pos n) q i pos o2
 | n+1,.l2 x10 x47 x48 o2 o3=>zEQ n (zBi q i pos n) q i pos x10 x47 x48 o2 o3
def zCV (n:Nat) (q:zAB) (i:Int) (pos:List Int):Option ((List Int)):=zIn n (zBi q i pos n) q i pos
def zUW (n B:Nat) (N:Yd 0) (q:zAB) (i:Int) (pos:List Int) (r:(List Int)):zFq→Prop
 | .l1 o2=>TW B N (FQ Tryz.f36 0 (.ints r) []) (zEd (zAK Tryz.f36) 9 []) ⟨frm 69 [(2,.ints pos),(8,.msl 0 1 0 pos.length),(9,.ref 1 0)],[some (.ints (List.replicate pos.length (0:Int))),some (.cells (zAF (q.cons.getD ((i).toNat) default)++zAE q++[.ints pos,.msl 2 1 0 pos.length])),some (.ints o2)]⟩
 | .l2 x10 x47 x48 o2 o3=>∀ m0:Nat,n≤m0→TW B N (FQ Tryz.f36 0 (.ints r) []) (toN m0 (zA9 (zAK Tryz.f36) 0 [])) ⟨frm 69 [(8,.msl 0 1 0 pos.length),(9,.ref 1 0),(10,.msl 3 1 0 x10),(47,.i x47),(48,.i x48)],[some (.ints (List.replicate pos.length (0:Int))),some (.cells (zAF (q.cons.getD ((i).toNat) default)++zAE q++[.ints pos,.msl 2 1 0 pos.length])),some (.ints o2),some (.ints o3)]⟩
theorem zRW (B:Nat) (N:Yd 0) (q:zAB) (i:Int) (pos:List Int):Al (zBi q i pos) (zUW · B N q i pos):=ia (fun _=>rfl) fun n hself pt r h=>by
 cases pt
 case l1 o2=>
  revert r
  apply gO
  exact cn fun y1 hy1=>jc (ES.snapNew (ds:=[.ints pos]) (zYm hy1) (zQG pos q i o2) (zFJ (by kernel_rfl)) rfl) (lN zAQ [0,1,2,3] (hself _ _ · n Nat.le.refl))
 case l2 x10 x47 x48 o2 o3=>
  intro m0 hm0
  refine rd hm0 fun m0 hm0=>?_
  revert r
  apply gO
  exact bi 49 (jg zO3 (gc (gn fun g0=>jg g0 (gc (gn fun g1=>jg g1 (gc (gi (gc (gi (jg g0 (jg g1 (gw 64 (lG (zAA 9 zAQ) [0,1,2,3] (hself _ _ · m0 hm0)))))))))))))) (gn fun g0=>cn fun y1 hy1=>jc (sb [.msl 3 1 0 x10] (zP7 hy1) (zQF pos q i o2 o3) ⟨zA1.ints rfl g0,trivial⟩) (bi 66 (gn fun g1=>lF fun p=>ez (zAA 9 zAQ) [6] [0] p [0] (H0.g g1)) (lF fun p=>ez (zAA 9 zAQ) [6] [3] p [0] (H0.g g0))))
theorem zMo {n:Nat} {q:zAB} {i:Int} {pos:List Int} {r:(List Int)} (h:zCV n q i pos=some r):EQ 36 [.agg 5 (L1 (zAE q)),.i i,.ints pos] [] (.ints r) [] true:=by
 have hself:=fun B N=>(zRW B N q i pos n)
 refine ot Tryz.func36 fun B N=>?_
 revert r
 apply gO
 exact jt (gn fun g0=>jg g0 (cf zP7 (zQH q pos) fun _=>bi 18 (gn fun g1=>lF fun p=>ez (zAA 9 zAQ) [6] [2] p [0] (H0.g g1)) (jg zRH (gi (jg g0 (bn (fun c1=>nO) (fun c1=>bn (fun c3=>jo 36 (DLe.int (k:=.i64) (eq_of_beq c3)) (jg (by decide:(0:Int)≤1∧1<((10:Nat):Int)) (ce zar [4,3] (zBH q pos i) fun _=>bi 42 (gn fun g2=>lF fun p=>ez (zAA 9 zAQ) [6] [2] p [0] (H0.g g2)) (lG (zAA 9 zAQ) [2,4,3] ((hself B N) _ _ ·))))) (fun c3=>bn (fun c5=>jo 36 (DLe.int (k:=.i64) (eq_of_beq c5)) (jg (by decide:(0:Int)≤2∧2<((10:Nat):Int)) (ce zYi [4,3] (zBH q pos i) fun _=>bi 42 (gn fun g2=>lF fun p=>ez (zAA 9 zAQ) [6] [2] p [0] (H0.g g2)) (lG (zAA 9 zAQ) [2,4,3] ((hself B N) _ _ ·))))) (fun c5=>bn (fun c7=>jo 36 (DLe.int (k:=.i64) (eq_of_beq c7)) (jg (by decide:(0:Int)≤3∧3<((10:Nat):Int)) (ce zbS [4,3] (zBH q pos i) fun _=>bi 42 (gn fun g2=>lF fun p=>ez (zAA 9 zAQ) [6] [2] p [0] (H0.g g2)) (lG (zAA 9 zAQ) [2,4,3] ((hself B N) _ _ ·))))) (fun c7=>bn (fun c9=>jo 36 (DLe.int (k:=.i64) (eq_of_beq c9)) (jg (by decide:(0:Int)≤4∧4<((10:Nat):Int)) (ce zZX [4,3] (zBH q pos i) fun _=>bi 42 (gn fun g2=>lF fun p=>ez (zAA 9 zAQ) [6] [2] p [0] (H0.g g2)) (lG (zAA 9 zAQ) [2,4,3] ((hself B N) _ _ ·))))) (fun c9=>bn (fun c11=>jo 36 (DLe.int (k:=.i64) (eq_of_beq c11)) (jg (by decide:(0:Int)≤5∧5<((10:Nat):Int)) (ce zZR [4,3] (zBH q pos i) fun _=>bi 42 (gn fun g2=>lF fun p=>ez (zAA 9 zAQ) [6] [2] p [0] (H0.g g2)) (lG (zAA 9 zAQ) [2,4,3] ((hself B N) _ _ ·))))) (fun c11=>bn (fun c13=>jo 36 (DLe.int (k:=.i64) (eq_of_beq c13)) (jg (by decide:(0:Int)≤6∧6<((10:Nat):Int)) (ce zYs [4,3] (zBH q pos i) fun _=>bi 42 (gn fun g2=>lF fun p=>ez (zAA 9 zAQ) [6] [2] p [0] (H0.g g2)) (lG (zAA 9 zAQ) [2,4,3] ((hself B N) _ _ ·))))) (fun c13=>bn (fun c15=>jo 36 (DLe.int (k:=.i64) (eq_of_beq c15)) (jg (by decide:(0:Int)≤7∧7<((10:Nat):Int)) (ce zb2 [4,3] (zBH q pos i) fun _=>bi 42 (gn fun g2=>lF fun p=>ez (zAA 9 zAQ) [6] [2] p [0] (H0.g g2)) (lG (zAA 9 zAQ) [2,4,3] ((hself B N) _ _ ·))))) (fun c15=>bn (fun c17=>jo 36 (DLe.int (k:=.i64) (eq_of_beq c17)) (jg (by decide:(0:Int)≤8∧8<((10:Nat):Int)) (ce zaz [4,3] (zBH q pos i) fun _=>bi 42 (gn fun g2=>lF fun p=>ez (zAA 9 zAQ) [6] [2] p [0] (H0.g g2)) (lG (zAA 9 zAQ) [2,4,3] ((hself B N) _ _ ·))))) (fun c17=>bn (fun c19=>jo 36 (DLe.int (k:=.i64) (eq_of_beq c19)) (jg (by decide:(0:Int)≤9∧9<((10:Nat):Int)) (ce zaL [4,3] (zBH q pos i) fun _=>bi 42 (gn fun g2=>lF fun p=>ez (zAA 9 zAQ) [6] [2] p [0] (H0.g g2)) (lG (zAA 9 zAQ) [2,4,3] ((hself B N) _ _ ·))))) (fun c19=>nO))))))))))))))))
def zPm (n:Nat) (q:zAB) (i:Int) (pos:List Int):Option ((List Int)×Int):=
 (zIO n q i pos).bind fun y1=>
  bif (y1 != 0) then
   some (([]:List Int),y1)
  else
   (zCV n q i pos).bind fun y2=>
    some (y2,0)
def zHw (n:Nat) (q:zAB) (i:Int) (pos:List Int):Option ((List Int)×Int):=zPm n q i pos
theorem zLB {n:Nat} {q:zAB} {i:Int} {pos:List Int} {r:(List Int)×Int} (h:zHw n q i pos=some r):EQ 9 [.agg 5 (L1 (zAE q)),.i i,.ints pos] [] (.tup 2 (L1 [.ints r.1,.i r.2])) [] true:=by
 unfold zHw zPm at h
 refine ot Tryz.func9 fun B N=>?_
 revert r
 apply gO
 exact cf zQl [some (.cells (zAE q))] fun y1=>bi 14 (lF fun p=>el zAH [6,7] [] p [] H0 [.nils,.i y1] (DLe.tupL (l:=[.nils,.i y1]) (l':=[.ints ([]:List Int),.i y1]) rfl ⟨DLe.ints_nil,zAD,trivial⟩)) (cf zMo [some (.cells (zAE q))] fun _=>lE zAH [6,7] [])
theorem zO4:SOk (zBa Tryz.f11 8) [([0,1,2,3,4,5,6,7,8],9)] [] []:=by unfold SOk;kernel_rfl
def zA6:Sch:=fun i=>match i with
 | 8=>.ord [([0,1,2,3,4,5,6,7,8],9)] [] []
 | _=>.no
def zVC (x25:Int) (pos x9:List Int):DH:=[some (.cells [.nils]),some (.cells [.i x25]),some (.iter ((zAj (bits .andNot .i64 (pos.getD ((x25).toNat) 0) (x9.getD ((x25).toNat) 0))).map zD1))]
def zVB (o0_0:Nat) (x25:Int) (pos x9:List Int) (o1:List (Int×Int)):DH:=[some (.cells [.msl 3 2 0 o0_0]),some (.cells [.i x25]),some (.iter ((zAj (bits .andNot .i64 (pos.getD ((x25).toNat) 0) (x9.getD ((x25).toNat) 0))).map zD1)),some (.arr 2 o1.length (zAz iiC o1))]
def zVA (r37s1_0_0:Nat) (r37s1_1_0:Int) (r37s1_3:List (Int×Int)):DH:=[some (.cells [.msl 3 2 0 r37s1_0_0]),some (.cells [.i r37s1_1_0]),none,some (.arr 2 r37s1_3.length (zAz iiC r37s1_3))]
def zU9 (r37s0_0_0:Nat) (x25:Int) (r37s0_3:List (Int×Int)):DH:=[some (.cells [.msl 3 2 0 r37s0_0_0]),some (.cells [.i x25]),none,some (.arr 2 r37s0_3.length (zAz iiC r37s0_3))]
inductive zBX where
 | s0 (r37s0_0_0:Nat) (r37s0_3:List (Int×Int))
def zH5 (pos x9:List Int) (x25:Int):zBX→DH
 | .s0 r37s0_0_0 r37s0_3=>[some (.cells [.msl 3 2 0 r37s0_0_0]),some (.cells [.i x25]),none,some (.arr 2 r37s0_3.length (zAz iiC r37s0_3))]
def zGr (n:Nat) (pos x9:List Int) (x25 e37:Int) (r37s0_0_0:Nat) (r37s0_3:List (Int×Int)):Option zBX:=
 if r37s0_0_0=r37s0_3.length∧r37s0_3.length+([(x25,e37)]:List (Int×Int)).length≤LIM then
  some (.s0 (r37s0_3.length+([(x25,e37)]:List (Int×Int)).length) (r37s0_3++([(x25,e37)]:List (Int×Int))))
 else none
def zGq (n:Nat) (pos x9:List Int) (x25 e37:Int):zBX→Option zBX
 | .s0 r37s0_0_0 r37s0_3=>zGr n pos x9 x25 e37 r37s0_0_0 r37s0_3
def zB8 (n:Nat) (pos x9:List Int) (x25 e37:Int) (s:zBX):Option zBX:=zGq n pos x9 x25 e37 s
theorem zMD (n:Nat) (pos x9:List Int) (x25:Int) (l B:Nat) (N:Yd 3) (e37:Int) (s:zBX) (r:zBX) (h:zB8 n pos x9 x25 e37 s=some r):TA l B N (zI9 3 [] 0 (zH5 pos x9 x25 r)) Tryz.f11 37 ⟨frm 47 [(2,.ints pos),(6,.ref 0 0),(9,.ints x9),(10,.ref 1 0),(24,.i (pos.length:Int)),(25,.i x25),(37,.it 2),(38,.i e37)],zH5 pos x9 x25 s⟩:=by
 cases s with
 | s0 r37s0_0_0 r37s0_3=>
  refine ag zA6 [0,1,2,3] H0 (frm 47 [(6,.ref 0 0),(10,.ref 1 0),(11,.i e37)]) (zU9 r37s0_0_0 x25 r37s0_3) fun N=>?_
  revert r
  apply gO
  exact ja 43 4 2 (zAT (c:=iiC) (L:=([(x25,e37)]:List (Int×Int))) (vals:=[.agg 2 (L1 [.i x25,.i e37])]) rfl ⟨⟨_,rfl,⟨zAD,zAD,trivial⟩⟩,trivial⟩) (gc (gn fun b37v1_g0=>gn fun b37v1_g1=>jg (And.intro (And.intro (And.intro (Eq.refl 0) (Eq.refl 1)) (zQy iiC ([(x25,e37)]:List (Int×Int)) (([(x25,e37)]:List (Int×Int)).length) 2 fun _=>⟨rfl,rfl⟩)) (And.intro (And.intro (Eq.refl 0) b37v1_g0) b37v1_g1)) (ja 44 5 2 (zCP (enc:=(zYa iiC)) (L:=r37s0_3) (L':=([(x25,e37)]:List (Int×Int))) rfl rfl fun _ _ _ _=>zAD) (jt (lF fun p=>rr zA6 [0,1,2,5] rfl p)))))
inductive zBq where
 | s0
 | s1 (r37s1_0_0:Nat) (r37s1_1_0:Int) (r37s1_3:List (Int×Int))
def zLO (pos x9:List Int) (x25:Int):zBq→DH
 | .s0=>[some (.cells [.nils]),some (.cells [.i x25]),none]
 | .s1 r37s1_0_0 r37s1_1_0 r37s1_3=>[some (.cells [.msl 3 2 0 r37s1_0_0]),some (.cells [.i r37s1_1_0]),none,some (.arr 2 r37s1_3.length (zAz iiC r37s1_3))]
def zP1 (n:Nat) (pos x9:List Int) (x25 e37:Int):Option zBq:=
 some (.s1 (([(x25,e37)]:List (Int×Int)).length) x25 ([(x25,e37)]:List (Int×Int)))
def zJc (n:Nat) (pos x9:List Int) (x25 e37:Int) (r37s1_0_0:Nat) (r37s1_1_0:Int) (r37s1_3:List (Int×Int)):Option zBq:=
 if r37s1_0_0=r37s1_3.length∧r37s1_3.length+([(r37s1_1_0,e37)]:List (Int×Int)).length≤LIM then
  some (.s1 (r37s1_3.length+([(r37s1_1_0,e37)]:List (Int×Int)).length) r37s1_1_0 (r37s1_3++([(r37s1_1_0,e37)]:List (Int×Int))))
 else none
def zJb (n:Nat) (pos x9:List Int) (x25 e37:Int):zBq→Option zBq
 | .s0=>zP1 n pos x9 x25 e37
 | .s1 r37s1_0_0 r37s1_1_0 r37s1_3=>zJc n pos x9 x25 e37 r37s1_0_0 r37s1_1_0 r37s1_3
def zBy (n:Nat) (pos x9:List Int) (x25 e37:Int) (s:zBq):Option zBq:=zJb n pos x9 x25 e37 s
theorem zP0 (n:Nat) (pos x9:List Int) (x25:Int) (l B:Nat) (N:Yd 3) (e37:Int) (s:zBq) (r:zBq) (h:zBy n pos x9 x25 e37 s=some r):TA l B N (zI9 3 [] 0 (zLO pos x9 x25 r)) Tryz.f11 37 ⟨frm 47 [(2,.ints pos),(6,.ref 0 0),(9,.ints x9),(10,.ref 1 0),(24,.i (pos.length:Int)),(25,.i x25),(37,.it 2),(38,.i e37)],zLO pos x9 x25 s⟩:=by
 cases s with
 | s0=>
  refine ag zA6 [0,1,2] H0 (frm 47 [(6,.ref 0 0),(10,.ref 1 0),(11,.i e37)]) [some (.cells [.nils]),some (.cells [.i x25]),none] fun N=>?_
  revert r
  apply gO
  exact ja 43 3 2 (zAT (c:=iiC) (L:=([(x25,e37)]:List (Int×Int))) (vals:=[.agg 2 (L1 [.i x25,.i e37])]) rfl ⟨⟨_,rfl,⟨zAD,zAD,trivial⟩⟩,trivial⟩) (jg (And.intro (And.intro (And.intro (Eq.refl 0) (Eq.refl 1)) (zQy iiC ([(x25,e37)]:List (Int×Int)) (([(x25,e37)]:List (Int×Int)).length) 2 fun _=>⟨rfl,rfl⟩)) (And.intro (by decide:0<1) (by decide:1≤LIM))) (jt (lF fun p=>rr zA6 [0,1,2,4] rfl p)))
 | s1 r37s1_0_0 r37s1_1_0 r37s1_3=>
  refine ag zA6 [0,1,2,3] H0 (frm 47 [(6,.ref 0 0),(10,.ref 1 0),(11,.i e37)]) (zVA r37s1_0_0 r37s1_1_0 r37s1_3) fun N=>?_
  revert r
  apply gO
  exact ja 43 4 2 (zAT (c:=iiC) (L:=([(r37s1_1_0,e37)]:List (Int×Int))) (vals:=[.agg 2 (L1 [.i r37s1_1_0,.i e37])]) rfl ⟨⟨_,rfl,⟨zAD,zAD,trivial⟩⟩,trivial⟩) (gc (gn fun b37_g0=>gn fun b37_g1=>jg (And.intro (And.intro (And.intro (Eq.refl 0) (Eq.refl 1)) (zQy iiC ([(r37s1_1_0,e37)]:List (Int×Int)) (([(r37s1_1_0,e37)]:List (Int×Int)).length) 2 fun _=>⟨rfl,rfl⟩)) (And.intro (And.intro (Eq.refl 0) b37_g0) b37_g1)) (ja 44 5 2 (zCP (enc:=(zYa iiC)) (L:=r37s1_3) (L':=([(r37s1_1_0,e37)]:List (Int×Int))) rfl rfl fun _ _ _ _=>zAD) (jt (lF fun p=>rr zA6 [0,1,2,5] rfl p)))))
inductive zIs where
 | l1 (x9:List Int) (x25:Int)
 | l2 (x9:List Int) (x25:Int) (o0_0:Nat) (o1:List (Int×Int))
def zH4 (n:Nat) (self:zIs→Option ((List (Int×Int))×Int)) (q:zAB) (i:Int) (pos:List Int) (x9:List Int) (x25:Int):Option ((List (Int×Int))×Int):=
 bif (decide (x25<(pos.length:Int))) then
  if (0≤x25∧x25<(pos.length:Int))∧(0≤x25∧x25<(x9.length:Int))∧(0≤(bits .andNot .i64 (pos.getD ((x25).toNat) 0) (x9.getD ((x25).toNat) 0))∧(bits .andNot .i64 (pos.getD ((x25).toNat) 0) (x9.getD ((x25).toNat) 0))<9223372036854775808) then
   (zBA (zBy n pos x9 x25) (zAj (bits .andNot .i64 (pos.getD ((x25).toNat) 0) (x9.getD ((x25).toNat) 0))) (.s0)).bind fun y1=>
    match y1 with
    | .s0=>
     if R64 (x25+1) then
      self (.l1 x9 (x25+1))
     else none
    | .s1 y1_1_0 y1_1_1 y1_1_2=>
     if R64 (x25+1) then
      self (.l2 x9 (x25+1) y1_1_0 y1_1_2)
     else none
  else none
 else
  some (([]:List (Int×Int)),0)
def zH3 (n:Nat) (self:zIs→Option ((List (Int×Int))×Int)) (q:zAB) (i:Int) (pos:List Int) (x9:List Int) (x25:Int) (o0_0:Nat) (o1:List (Int×Int)):Option ((List (Int×Int))×Int):=
 bif (decide (x25<(pos.length:Int))) then
  if (0≤x25∧x25<(pos.length:Int))∧(0≤x25∧x25<(x9.length:Int))∧(0≤(bits .andNot .i64 (pos.getD ((x25).toNat) 0) (x9.getD ((x25).toNat) 0))∧(bits .andNot .i64 (pos.getD ((x25).toNat) 0) (x9.getD ((x25).toNat) 0))<9223372036854775808) then
   (zBA (zB8 n pos x9 x25) (zAj (bits .andNot .i64 (pos.getD ((x25).toNat) 0) (x9.getD ((x25).toNat) 0))) (.s0 o0_0 o1)).bind fun y1=>
    match y1 with
    | .s0 y1_0_0 y1_0_1=>
     if R64 (x25+1) then
      self (.l2 x9 (x25+1) y1_0_0 y1_0_1)
     else none
  else none
 else
  if o0_0=o1.length then
   some (o1,0)
  else none
def zaJ (n:Nat) (self:zIs→Option ((List (Int×Int))×Int)) (q:zAB) (i:Int) (pos:List Int):Option ((List (Int×Int))×Int):=
 (zIO n q i pos).bind fun y1=>
  bif (y1 != 0) then
   some (([]:List (Int×Int)),y1)
  else
   (zCV n q i pos).bind fun y2=>
    self (.l1 y2 0)
def zCW (q:zAB) (i:Int) (pos:List Int):Nat→zIs→Option ((List (Int×Int))×Int)
 | 0,_=>none
 | n+1,.l1 x9 x25=>zH4 n (zCW q i pos n) q i pos x9 x25
 | n+1,.l2 x9 x25 o0_0 o1=>zH3 n (zCW q i pos n) q i pos x9 x25 o0_0 o1
def zRd (n:Nat) (q:zAB) (i:Int) (pos:List Int):Option ((List (Int×Int))×Int):=zaJ n (zCW q i pos n) q i pos
def zaK (n B:Nat) (N:Yd 0) (q:zAB) (i:Int) (pos:List Int) (r:(List (Int×Int))×Int):zIs→Prop
 | .l1 x9 x25=>∀ m0:Nat,n≤m0→TW B N (FQ Tryz.f11 0 (.tup 2 (L1 [.sl 2 r.1.length (zAz iiC r.1),.i r.2])) []) (toN m0 (zA9 (zAK Tryz.f11) 0 [])) ⟨frm 47 [(2,.ints pos),(6,.ref 0 0),(9,.ints x9),(24,.i (pos.length:Int)),(25,.i x25)],[some (.cells [.nils])]⟩
 | .l2 x9 x25 o0_0 o1=>∀ m0:Nat,n≤m0→TW B N (FQ Tryz.f11 0 (.tup 2 (L1 [.sl 2 r.1.length (zAz iiC r.1),.i r.2])) []) (toN m0 (zA9 (zAK Tryz.f11) 0 [])) ⟨frm 47 [(2,.ints pos),(6,.ref 0 0),(9,.ints x9),(24,.i (pos.length:Int)),(25,.i x25)],[some (.cells [.msl 1 2 0 o0_0]),some (.arr 2 o1.length (zAz iiC o1))]⟩
theorem zXj (B:Nat) (N:Yd 0) (q:zAB) (i:Int) (pos:List Int):Al (zCW q i pos) (zaK · B N q i pos):=ia (fun _=>rfl) fun n hself pt r h=>by
 cases pt
 case l1 x9 x25=>
  intro m0 hm0
  refine rd hm0 fun m0 hm0=>?_
  revert r
  apply gO
  exact bi 26 (jt (jg zO4 (gc (gi (gc (gi (gn fun g2=>jc (zBU g2 [some (.cells [.nils]),some (.cells [.i x25])]) (cn fun y1 hy1=>fun p r h=>by
   refine gs zA6 [0,1,2] p (atT (zAK Tryz.f11) 37 [m0]) (frm 47 [(2,.ints pos),(6,.ref 0 0),(9,.ints x9),(10,.ref 1 0),(24,.i (pos.length:Int)),(25,.i x25),(37,.it 2)]) (zVC x25 pos x9) ?_
   refine r0 2 37 #[38] zD1 3 hy1 (zP0 n pos x9 x25) ?_
   cases y1 with
   | s0=>
    dsimp only at h
    revert r
    apply gO
    exact gw 45 (lG zA6 [0] (hself _ _ · m0 hm0))
   | s1 y1_1_0 y1_1_1 y1_1_2=>
    dsimp only at h
    revert r
    apply gO
    exact gw 45 (lG zA6 [0,3] (hself _ _ · m0 hm0)))))))))) (jt (lF fun p=>el zA6 [6,7] [0] p [] H0 [.nils,.i 0] (DLe.tupL (l:=[.nils,.i 0]) (l':=[.sl 2 (([]:List (Int×Int)).length) (zAz iiC ([]:List (Int×Int))),.i 0]) rfl ⟨(DLe.sl_nil _ _),zAD,trivial⟩)))
 case l2 x9 x25 o0_0 o1=>
  intro m0 hm0
  refine rd hm0 fun m0 hm0=>?_
  revert r
  apply gO
  exact bi 26 (jt (jg zO4 (gc (gi (gc (gi (gn fun g2=>jc (zBU g2 [some (.cells [.msl 1 2 0 o0_0]),some (.arr 2 o1.length (zAz iiC o1)),some (.cells [.i x25])]) (cn fun y1 hy1=>fun p r h=>by
   refine gs zA6 [0,2,3,1] p (atT (zAK Tryz.f11) 37 [m0]) (frm 47 [(2,.ints pos),(6,.ref 0 0),(9,.ints x9),(10,.ref 1 0),(24,.i (pos.length:Int)),(25,.i x25),(37,.it 2)]) (zVB o0_0 x25 pos x9 o1) ?_
   refine r0 2 37 #[38] zD1 3 hy1 (zMD n pos x9 x25) ?_
   cases y1 with
   | s0 y1_0_0 y1_0_1=>
    dsimp only at h
    revert r
    apply gO
    exact gw 45 (lG zA6 [0,3] (hself _ _ · m0 hm0)))))))))) (jt (gn fun g0=>lF fun p=>ez zA6 [6,7] [0,1] p [1] (H0.g g0)))
theorem zTD {n:Nat} {q:zAB} {i:Int} {pos:List Int} {r:(List (Int×Int))×Int} (h:zRd n q i pos=some r):EQ 11 [.agg 5 (L1 (zAE q)),.i i,.ints pos] [] (.tup 2 (L1 [.sl 2 r.1.length (zAz iiC r.1),.i r.2])) [] true:=by
 refine ot Tryz.func11 fun B N=>?_
 revert r
 apply gO
 exact cf zQl [some (.cells (zAE q)),some (.cells [.nils])] fun y1=>bi 17 (jt (lF fun p=>el zA6 [6,7] [1] p [] H0 [.nils,.i y1] (DLe.tupL (l:=[.nils,.i y1]) (l':=[.sl 2 (([]:List (Int×Int)).length) (zAz iiC ([]:List (Int×Int))),.i y1]) rfl ⟨(DLe.sl_nil _ _),zAD,trivial⟩))) (cf zMo [some (.cells (zAE q)),some (.cells [.nils])] fun _=>lN zA6 [1] ((zXj B N q i pos n) _ _ · n Nat.le.refl))
def zND (n:Nat) (q:zAB) (pos want:List Int):Option Bool:=
 (zHw n q 0 pos).bind fun y1=>
  bif (y1.2==0) then
   (same n y1.1 want).bind fun y2=>
    some y2
  else
   some false
def zCc (n:Nat) (q:zAB) (pos want:List Int):Option Bool:=zND n q pos want
theorem zBC {n:Nat} {q:zAB} {pos want:List Int} {r:Bool} (h:zCc n q pos want=some r):EQ 33 [.agg 5 (L1 (zAE q)),.ints pos,.ints want] [] (.bool r) [] true:=by
 unfold zCc zND at h
 refine ot Tryz.func33 fun B N=>?_
 revert r
 apply gO
 exact cf zLB [some (.cells (zAE q))] fun _=>bi 16 (cf zV8 [some (.cells (zAE q))] fun _=>lE zAH [6] []) (lE zAH [6] [])
end Go.Proofs.YtekkngkphejfcaaGreatDoor
namespace Go.Proofs.YtekkngkphejfcaaGreatDoor
open Go.RowKit
def zFR (pos:List Int):Bool:=pos.any (· ==0)
theorem zBQ {pos:List Int}:zFR pos=false↔∀ j,j<pos.length→pos.getD j 0≠0:=by
 unfold zFR
 rw [List.any_eq_false]
 constructor
 ·intro h j hj e
  refine h (pos.getD j 0) ?_ (by rw [e];rfl)
  rw [List.getD_eq_getElem?_getD,List.getElem?_eq_getElem hj];exact List.getElem_mem hj
 ·intro h x hx
  obtain ⟨j,hj,rfl⟩:=List.getElem_of_mem hx
  have:=h j hj
  rw [List.getD_eq_getElem?_getD,List.getElem?_eq_getElem hj] at this
  simpa using this
theorem zav {pos:List Int} {n:Nat} (hl:pos.length≤LB) (hn:pos.length<n):zax n pos=some (zFR pos):=by
 have hb:LB≤9223372036854775806:=by decide
 have key: ∀ (k i n:Nat),i+k=pos.length→k+1≤n→zI2 pos n (.l1 (i:Int))=some ((pos.drop i).any (· ==0)):=by
  intro k
  induction k with
  | zero=>
   intro i n e hn
   obtain ⟨n,rfl⟩: ∃ k,n=k+1:=⟨n-1,by omega⟩
   show zIK n (zI2 pos n) pos (i:Int)=_
   unfold zIK
   rw [decide_eq_false (by omega),cond_false,List.drop_eq_nil_of_le (by omega)];rfl
  | succ k ih=>
   intro i n e hn
   obtain ⟨n,rfl⟩: ∃ k,n=k+1:=⟨n-1,by omega⟩
   have hi:i<pos.length:=by omega
   have e2:pos.drop i=pos.getD i 0::pos.drop (i+1):=by
    rw [List.drop_eq_getElem_cons hi,List.getD_eq_getElem?_getD,List.getElem?_eq_getElem hi];rfl
   have:=ih (i+1) n (by omega) (by omega)
   show zIK n (zI2 pos n) pos (i:Int)=_
   unfold zIK
   rw [decide_eq_true (by omega),cond_true,if_pos ⟨by omega,by omega⟩,if_pos (zAG.2 ⟨by omega,by omega⟩),Int.toNat_natCast,e2,List.any_cons]
   cases h:(pos.getD i 0==0)
   ·rw [cond_false,Bool.false_or];exact this
   ·rfl
 have:=key pos.length 0 n (by omega) (by omega)
 unfold zax zTV
 exact this
theorem zLW {pos:List Int} {n:Nat} (hl:pos.length≤LB) (hn:pos.length<n):zMx n pos=some (zFR pos):=by
 unfold zMx zLV
 rw [zav hl hn];rfl
def zN2 (q:zAB) (pos:List Int):Bool:=((pos.length:Int)==q.cells)&&pos.all fun x=>decide (0≤x)&&decide (x<2 ^ q.symbols.toNat)
def zHB (q:zAB) (pos:List Int):Int:=if zDH q then (if zN2 q pos then 0 else 250) else 191
section
variable {q:zAB} {i:Int} {pos:List Int} {n:Nat}
theorem zXL (hF:Fit q) (hn:szP q≤n) (hl:pos.length≤LB) (hn2:pos.length<n):zS1 n q pos=some (zHB q pos):=by
 have hb:LB≤9223372036854775806:=by decide
 unfold zS1 zPp zHB
 rw [zSL hF hn,Option.bind_some]
 cases hv:zDH q with
 | false=>rfl
 | true=>
  obtain ⟨_,hs,_⟩:=zAo hv
  obtain ⟨p1,p2,p3⟩:=zHx hs.1 hs.2
  show (bif ((pos.length:Int) != q.cells) then some 250 else zE8 q pos n (.l1 0))=some (if zN2 q pos=true then 0 else 250)
  unfold zN2
  by_cases hlen:(pos.length:Int)=q.cells
  ·have h1:((pos.length:Int) != q.cells)=false:=by simpa using hlen
   have h2:((pos.length:Int)==q.cells)=true:=by simpa using hlen
   rw [h1,cond_false,h2,Bool.true_and]
   have key: ∀ (k i n:Nat),i+k=pos.length→k+1≤n→zE8 q pos n (.l1 (i:Int))=some (if ((pos.drop i).all fun x=>decide (0≤x)&&decide (x<2 ^ q.symbols.toNat))=true then 0 else 250):=by
    intro k
    induction k with
    | zero=>
     intro i n e hn
     obtain ⟨n,rfl⟩: ∃ k,n=k+1:=⟨n-1,by omega⟩
     show zFr n (zE8 q pos n) q pos (i:Int)=_
     unfold zFr
     rw [decide_eq_false (by omega),cond_false,List.drop_eq_nil_of_le (by omega)];rfl
    | succ k ih=>
     intro i n e hn
     obtain ⟨n,rfl⟩: ∃ k,n=k+1:=⟨n-1,by omega⟩
     have hi:i<pos.length:=by omega
     have e2:pos.drop i=pos.getD i 0::pos.drop (i+1):=by
      rw [List.drop_eq_getElem_cons hi,List.getD_eq_getElem?_getD,List.getElem?_eq_getElem hi];rfl
     have:=ih (i+1) n (by omega) (by omega)
     show zFr n (zE8 q pos n) q pos (i:Int)=_
     unfold zFr
     rw [decide_eq_true (by omega),cond_true,if_pos ⟨by omega,by omega⟩,if_pos p3,if_pos (zAG.2 ⟨by omega,by omega⟩),Int.toNat_natCast,e2,List.all_cons,p1]
     by_cases c1:pos.getD i 0<0
     ·rw [decide_eq_true c1,cond_true,decide_eq_false (p:=0≤pos.getD i 0) (by omega)];rfl
     ·rw [decide_eq_false c1,cond_false,decide_eq_true (p:=0≤pos.getD i 0) (by omega),Bool.true_and]
      by_cases c2:pos.getD i 0≥2 ^ q.symbols.toNat
      ·rw [decide_eq_true c2,cond_true,decide_eq_false (p:=pos.getD i 0<2 ^ q.symbols.toNat) (by omega)];rfl
      ·rw [decide_eq_false c2,cond_false,decide_eq_true (p:=pos.getD i 0<2 ^ q.symbols.toNat) (by omega),Bool.true_and]
       exact this
   exact key pos.length 0 n (by omega) (by omega)
  ·have h1:((pos.length:Int) != q.cells)=true:=by simpa using hlen
   have h2:((pos.length:Int)==q.cells)=false:=by simpa using hlen
   rw [h1,cond_true,h2,Bool.false_and];rfl
def zEZ (q:zAB) (i:Int) (pos:List Int):Int:=if (zDe q i).2=0 then zHB q pos else (zDe q i).2
theorem zQm (hF:Fit q) (hn:szP q≤n) (hl:pos.length≤LB) (hn2:pos.length<n):zIO n q i pos=some (zEZ q i pos):=by
 unfold zIO zLv zEZ
 rw [zXp hF hn,Option.bind_some,zXL hF hn hl hn2,Option.bind_some]
 by_cases h:(zDe q i).2=0
 ·have:((zDe q i).2 != 0)=false:=by simpa using h
  rw [this,if_pos h];rfl
 ·have:((zDe q i).2 != 0)=true:=by simpa using h
  rw [this,if_neg h];rfl
structure Ctx (q:zAB) (i:Int) (pos:List Int):Prop where
 fit:Fit q
 valid:zDH q=true
 i0:0≤i
 i1:i<(q.cons.length:Int)
 pos:zN2 q pos=true
def con (q:zAB) (i:Int):zAC:=q.cons.getD i.toNat default
theorem Ctx.of (hF:Fit q) (h:zEZ q i pos=0):Ctx q i pos:=by
 unfold zEZ zDe zHB at h
 by_cases hv:zDH q=false
 ·rw [if_pos hv] at h
  rw [if_neg (by decide)] at h
  exact absurd h (by decide)
 ·rw [if_neg hv] at h
  have hv:zDH q=true:=by simpa using hv
  by_cases hi:0≤i∧i<(q.cons.length:Int)
  ·rw [if_pos hi,if_pos rfl,if_pos hv] at h
   by_cases hp:zN2 q pos=true
   ·exact ⟨hF,hv,hi.1,hi.2,hp⟩
   ·rw [if_neg hp] at h
    exact absurd h (by decide)
  ·rw [if_neg hi,if_neg (by decide)] at h
   exact absurd h (by decide)
theorem Ctx.check (C:Ctx q i pos):zEZ q i pos=0:=by
 have h1:zDe q i=(lvl ((q.cons.getD i.toNat default).kind),0):=by
  unfold zDe
  rw [if_neg (by rw [C.valid];exact fun h=>by cases h),if_pos ⟨C.i0,C.i1⟩]
 unfold zEZ zHB
 rw [h1,if_pos rfl,if_pos C.valid,if_pos C.pos]
theorem Ctx.mem (C:Ctx q i pos):con q i∈q.cons:=by
 have h:=C.i0
 have h1:=C.i1
 unfold con
 rw [List.getD_eq_getElem?_getD,List.getElem?_eq_getElem (by omega)];exact List.getElem_mem _
theorem Ctx.fine (C:Ctx q i pos):zC9 q (con q i)=true:=(zAo C.valid).2.2.2.2.2 _ C.mem
theorem Ctx.kind (C:Ctx q i pos):zDI q.cells (con q i).kind (con q i).cells.length=true:=zJe C.fine
theorem Ctx.len (C:Ctx q i pos):(pos.length:Int)=q.cells:=by
 have h:=C.pos
 unfold zN2 at h
 rw [Bool.and_eq_true,beq_iff_eq] at h
 exact h.1
theorem Ctx.sm (C:Ctx q i pos): ∀ j,j<pos.length→Sm q.symbols.toNat (pos.getD j 0):=by
 intro j hj
 have h:=C.pos
 unfold zN2 at h
 rw [Bool.and_eq_true,List.all_eq_true] at h
 have hm:pos.getD j 0∈pos:=by rw [List.getD_eq_getElem?_getD,List.getElem?_eq_getElem hj];exact List.getElem_mem hj
 have:=h.2 _ hm
 rw [Bool.and_eq_true,decide_eq_true_iff,decide_eq_true_iff] at this
 exact this
theorem Ctx.len256 (C:Ctx q i pos):0<pos.length∧pos.length≤256:=by
 have h:=(zAo C.valid).1
 have:=C.len
 omega
theorem Ctx.cells (C:Ctx q i pos):(∀ x∈(con q i).cells,0≤x∧x<q.cells)∧(con q i).cells.Nodup∧(8≤(con q i).kind→∀ j,j<(con q i).cells.length→(con q i).cells.getD j 0=(j:Int)):=by
 have h:=C.fine
 unfold zC9 at h
 simp only [Bool.and_eq_true] at h
 exact zLw.1 h.1.1.1.1.1
theorem Ctx.work (C:Ctx q i pos):zFS (con q i) q.symbols.toNat pos:=by
 obtain ⟨h1,h2,_⟩:=C.cells
 have hl:=C.len
 have h3:=(zAo C.valid).1
 have h4:=(zAo C.valid).2.1
 refine ⟨fun a ha=>?_,?_,C.sm,by omega⟩
 ·rw [hl]
  refine h1 _ ?_
  rw [List.getD_eq_getElem?_getD,List.getElem?_eq_getElem ha];exact List.getElem_mem ha
 ·have:=zJ2 pos.length _ h2 fun x hx=>by rw [hl];exact h1 x hx
  omega
theorem Ctx.vals (C:Ctx q i pos):zMA q q.symbols.toNat:=by
 obtain ⟨_,h2,⟨h3,h4⟩,_⟩:=zAo C.valid
 rw [zED] at h4
 refine ⟨by omega,fun s hs=>h4 _ ?_⟩
 rw [List.getD_eq_getElem?_getD,List.getElem?_eq_getElem (by omega)];exact List.getElem_mem _
theorem Ctx.runs (C:Ctx q i pos):zEe (con q i):=by
 have h:=C.fine
 unfold zC9 at h
 simp only [Bool.and_eq_true,decide_eq_true_iff] at h
 have h2:=zED.1 h.2
 refine ⟨by have:=h.1.2;omega,fun j hj=>(h2 _ ?_).2⟩
 rw [List.getD_eq_getElem?_getD,List.getElem?_eq_getElem hj];exact List.getElem_mem hj
theorem Ctx.two (C:Ctx q i pos) (hk:(con q i).kind=6∨(con q i).kind=7):(con q i).cells.length=2:=by
 have h:=C.kind
 unfold zDI at h
 rcases hk with hk | hk <;> rw [hk] at h <;> simpa using h
theorem Ctx.all (C:Ctx q i pos) (hk:(con q i).kind=8∨(con q i).kind=9) (hd:zFR pos=false):zBc (con q i) q pos:=by
 have h:=C.kind
 have hl:=C.len
 have h256:=C.len256
 have h1:((con q i).cells.length:Int)=q.cells:=by
  unfold zDI at h
  rcases hk with hk | hk <;> rw [hk] at h <;> simpa using h
 obtain ⟨_,_,_,⟨h5,h6⟩,_⟩:=zAo C.valid
 exact ⟨by omega,fun j hj=>C.cells.2.2 (by omega) j (by omega),⟨h6,C.fit.nbrs⟩,by omega,h256.1,h256.2,fun j hj=>⟨(C.sm j hj).in64 (Nat.le_trans C.work.k (by decide)),zBQ.1 hd j hj⟩⟩
end
def okC (q:zAB) (c:zAC) (pos:List Int):Prop:=
 (c.kind=2→zGC c pos=true)∧(c.kind=3→zOr q c pos=true)∧(c.kind=5→zGn c=true)∧(c.kind=9→zTF c q pos)
def zC7 (q:zAB) (c:zAC) (pos:List Int) (a s:Nat):Prop:=
 (c.kind=1∧zVT c pos a s)∨(c.kind=2∧zF9 c pos a s=true)∨(c.kind=3∧zSS q c pos a s=true)∨(c.kind=4∧zKj q c pos a s=true)∨(c.kind=5∧zKg c pos a s)∨
 (c.kind=6∧zHC (okA q c) c pos a s)∨(c.kind=7∧zHC (okN c) c pos a s)∨(c.kind=8∧zQf c q pos a s)∨(c.kind=9∧zXm c q pos a s)
def KP (q:zAB) (c:zAC) (pos:List Int) (r:Bool×List Int):Prop:=(r.1=true↔okC q c pos)∧(r.1=true→zAf c pos (List.replicate pos.length 0) c.cells.length (zC7 q c pos) r.2)
def LC (q:zAB) (c:zAC) (pos:List Int) (j s:Nat):Prop:=∃ a,a<c.cells.length∧(c.cells.getD a 0).toNat=j∧zC7 q c pos a s
structure zVi (q:zAB) (c:zAC) (pos:List Int):Prop where
 nz: ∀ j,j<pos.length→pos.getD j 0≠0
 ok:okC q c pos
 left: ∀ j,j<pos.length→∃ s,s<64∧tb (pos.getD j 0) s=true∧¬ LC q c pos j s
structure PR (q:zAB) (c:zAC) (pos x:List Int):Prop where
 len:x.length=pos.length
 live:zVi q c pos→∀ j,j<pos.length→zEg (x.getD j 0)∧∀ s,tb (x.getD j 0) s=true↔tb (pos.getD j 0) s=true∧¬ LC q c pos j s
 dead: ¬ zVi q c pos→x=List.replicate pos.length 0
theorem PR.uniq {q:zAB} {c:zAC} {pos:List Int} (x y:List Int) (h:PR q c pos x) (h':PR q c pos y):x=y:=by
 by_cases hA:zVi q c pos
 ·have e:x.length=y.length:=h.len.trans h'.len.symm
  refine List.ext_getElem e fun j h1 h2=>?_
  have hj:j<pos.length:=by rw [←h.len];exact h1
  have e1:x.getD j 0=x[j]:=by simp [h1]
  have e2:y.getD j 0=y[j]:=by simp [h2]
  rw [←e1,←e2]
  refine zHP (h.live hA j hj).1 (h'.live hA j hj).1 fun s _=>?_
  rw [Bool.eq_iff_iff,(h.live hA j hj).2,(h'.live hA j hj).2]
 ·rw [h.dead hA,h'.dead hA]
section
variable {q:zAB} {i:Int} {pos:List Int}
theorem zL8:(List.replicate pos.length (0:Int)).length=pos.length:=List.length_replicate
theorem zat (j:Nat):(List.replicate pos.length (0:Int)).getD j 0=0:=by
 rw [List.getD_eq_getElem?_getD,List.getElem?_replicate];split <;> rfl
theorem zin: ∀ j,zEg ((List.replicate pos.length (0:Int)).getD j 0):=fun j=>by rw [zat];exact ⟨by decide,by decide⟩
theorem zcZ:zAy pos (List.replicate pos.length 0) (fun _ _=>False) (List.replicate pos.length 0):=⟨⟨zL8,zin⟩,fun j s=>by simp⟩
theorem zAf.congr {c:zAC} {lost l:List Int} {D D':Nat→Nat→Prop} {m:Nat} (h:zAf c pos lost m D l) (hD: ∀ a s,D' a s↔D a s):zAf c pos lost m D' l:=by
 refine ⟨h.1,fun j s=>?_⟩
 rw [h.2]
 simp only [hD]
def zJo (n:Nat) (q:zAB) (c:zAC) (pos:List Int):Option (Bool×List Int):=
 bif c.kind==1 then zVS n c q pos pos.length (List.replicate pos.length 0) else bif c.kind==2 then zM9 n c q pos pos.length (List.replicate pos.length 0) else
 bif c.kind==3 then zcR n c q pos pos.length (List.replicate pos.length 0) else bif c.kind==4 then zPM n c q pos pos.length (List.replicate pos.length 0) else
 bif c.kind==5 then zUD n c q pos pos.length (List.replicate pos.length 0) else bif c.kind==6 then zL3 n c q pos pos.length (List.replicate pos.length 0) else
 bif c.kind==7 then zb3 n c q pos pos.length (List.replicate pos.length 0) else bif c.kind==8 then za2 n c q pos pos.length (List.replicate pos.length 0) else
 bif c.kind==9 then zaO n c q pos pos.length (List.replicate pos.length 0) else none
theorem zbn (C:Ctx q i pos) (hd:zFR pos=false):PEv (fun n=>zJo n q (con q i) pos) (KP q (con q i) pos):=by
 have W:=C.work
 have hz:(List.replicate pos.length (0:Int)).length=pos.length:=zL8
 have all: ∀ k:Int,(con q i).kind=k→∀ {f:Nat→Option (Bool×List Int)} {N:Nat} {ok:Bool} {D:Nat→Nat→Prop},(∀ n,N≤n→∃ l,f n=some (ok,l)∧(ok=true→zAf (con q i) pos (List.replicate pos.length 0) (con q i).cells.length D l))→(ok=true↔okC q (con q i) pos)→(∀ a s,zC7 q (con q i) pos a s↔D a s)→PEv f (KP q (con q i) pos):=by
  intro k _ f N ok D h hok hD
  refine ⟨N,fun n hn=>?_⟩
  obtain ⟨l,h1,h2⟩:=h n hn
  exact ⟨(ok,l),h1,hok,fun h3=>(h2 h3).congr hD⟩
 have kc:=zCn (zEU C.kind)
 have okT: ∀ {k:Int},(con q i).kind=k→k≠2→k≠3→k≠5→k≠9→okC q (con q i) pos:=fun hk h2 h3 h5 h9=>⟨fun h=>absurd (hk.symm.trans h) h2,fun h=>absurd (hk.symm.trans h) h3,fun h=>absurd (hk.symm.trans h) h5,fun h=>absurd (hk.symm.trans h) h9⟩
 rcases kc with hk | hk | hk | hk | hk | hk | hk | hk | hk
 ·refine PEv.eq (all 1 hk (f:=fun n=>zVS n (con q i) q pos pos.length (List.replicate pos.length 0)) (N:=2*(con q i).cells.length+2) (ok:=true) (D:=zVT (con q i) pos) (fun n hn=>?_) ⟨fun _=>okT hk (by decide) (by decide) (by decide) (by decide),fun _=>rfl⟩ fun a s=>?_) fun n=>?_
  ·obtain ⟨l,h1,h2⟩:=zYe (q:=q) W hz hn
   exact ⟨l,h1,fun _=>h2⟩
  ·unfold zC7;rw [hk];simp
  ·unfold zJo;rw [hk];rfl
 ·refine PEv.eq (all 2 hk (f:=fun n=>zM9 n (con q i) q pos pos.length (List.replicate pos.length 0)) (N:=2*(con q i).cells.length+3) (ok:=zGC (con q i) pos) (D:=fun a s=>zF9 (con q i) pos a s=true) (fun n hn=>?_) ⟨fun h=>⟨fun _=>h,fun h=>absurd (hk.symm.trans h) (by decide),fun h=>absurd (hk.symm.trans h) (by decide),fun h=>absurd (hk.symm.trans h) (by decide)⟩,fun h=>h.1 hk⟩ fun a s=>?_) fun n=>?_
  ·exact zVV (q:=q) W hz hn
  ·unfold zC7;rw [hk];simp
  ·unfold zJo;rw [hk];rfl
 ·refine PEv.eq (all 3 hk (f:=fun n=>zcR n (con q i) q pos pos.length (List.replicate pos.length 0)) (N:=2*(con q i).cells.length+3) (ok:=zOr q (con q i) pos) (D:=fun a s=>zSS q (con q i) pos a s=true) (fun n hn=>?_) ⟨fun h=>⟨fun h=>absurd (hk.symm.trans h) (by decide),fun _=>h,fun h=>absurd (hk.symm.trans h) (by decide),fun h=>absurd (hk.symm.trans h) (by decide)⟩,fun h=>h.2.1 hk⟩ fun a s=>?_) fun n=>?_
  ·exact zZB W C.vals hz hn
  ·unfold zC7;rw [hk];simp
  ·unfold zJo;rw [hk];rfl
 ·refine PEv.eq (all 4 hk (f:=fun n=>zPM n (con q i) q pos pos.length (List.replicate pos.length 0)) (N:=2*(con q i).cells.length+3) (ok:=true) (D:=fun a s=>zKj q (con q i) pos a s=true) (fun n hn=>?_) ⟨fun _=>okT hk (by decide) (by decide) (by decide) (by decide),fun _=>rfl⟩ fun a s=>?_) fun n=>?_
  ·obtain ⟨l,h1,h2⟩:=zWg W C.vals hz hn
   exact ⟨l,h1,fun _=>h2⟩
  ·unfold zC7;rw [hk];simp
  ·unfold zJo;rw [hk];rfl
 ·obtain ⟨l,⟨N,h1⟩,h2⟩:=zbm (q:=q) W C.runs hz zin
  refine PEv.eq (all 5 hk (N:=N) (ok:=zGn (con q i)) (D:=zKg (con q i) pos) (fun n hn=>⟨l,h1 n hn,h2⟩) ⟨fun h=>⟨fun h=>absurd (hk.symm.trans h) (by decide),fun h=>absurd (hk.symm.trans h) (by decide),fun _=>h,fun h=>absurd (hk.symm.trans h) (by decide)⟩,fun h=>h.2.2.1 hk⟩ fun a s=>?_) fun n=>?_
  ·unfold zC7;rw [hk];simp
  ·unfold zJo;rw [hk];rfl
 ·refine PEv.eq (all 6 hk (f:=fun n=>zL3 n (con q i) q pos pos.length (List.replicate pos.length 0)) (N:=0) (ok:=true) (D:=zHC (okA q (con q i)) (con q i) pos) (fun n hn=>?_) ⟨fun _=>okT hk (by decide) (by decide) (by decide) (by decide),fun _=>rfl⟩ fun a s=>?_) fun n=>?_
  ·obtain ⟨l,h1,h2⟩:=zSE (n:=n) W C.vals (C.two (.inl hk)) hz
   exact ⟨l,h1,fun _=>h2⟩
  ·unfold zC7;rw [hk];simp
  ·unfold zJo;rw [hk];rfl
 ·refine PEv.eq (all 7 hk (f:=fun n=>zb3 n (con q i) q pos pos.length (List.replicate pos.length 0)) (N:=0) (ok:=true) (D:=zHC (okN (con q i)) (con q i) pos) (fun n hn=>?_) ⟨fun _=>okT hk (by decide) (by decide) (by decide) (by decide),fun _=>rfl⟩ fun a s=>?_) fun n=>?_
  ·obtain ⟨l,h1,h2⟩:=zXU (n:=n) (q:=q) W (C.two (.inr hk)) hz
   exact ⟨l,h1,fun _=>h2⟩
  ·unfold zC7;rw [hk];simp
  ·unfold zJo;rw [hk];rfl
 ·obtain ⟨l,⟨N,h1⟩,h2⟩:=zcJ (C.all (.inl hk) hd) zcZ
  refine PEv.eq (all 8 hk (N:=N) (ok:=true) (D:=zQf (con q i) q pos) (fun n hn=>⟨l,h1 n hn,fun _=>h2.by (C.all (.inl hk) hd)⟩) ⟨fun _=>okT hk (by decide) (by decide) (by decide) (by decide),fun _=>rfl⟩ fun a s=>?_) fun n=>?_
  ·unfold zC7;rw [hk];simp
  ·unfold zJo;rw [hk];rfl
 ·refine PEv.eq ((zb9 (C.all (.inr hk) hd) zcZ).mono fun r hr=>⟨?_,fun h=>((hr.2 h).by (C.all (.inr hk) hd)).congr fun a s=>?_⟩) fun n=>?_
  ·rw [hr.1]
   exact ⟨fun h=>⟨fun h=>absurd (hk.symm.trans h) (by decide),fun h=>absurd (hk.symm.trans h) (by decide),fun h=>absurd (hk.symm.trans h) (by decide),fun _=>h⟩,fun h=>h.2.2.2 hk⟩
  ·unfold zC7;rw [hk];simp
  ·unfold zJo;rw [hk];rfl
theorem zdq {n:Nat} {o2:List Int} (hl:o2.length=pos.length) (h256:pos.length≤256) (hn:600≤n):
 ∃ x,x.length=pos.length∧(∀ j,j<pos.length→x.getD j 0=bits .andNot .i64 (pos.getD j 0) (o2.getD j 0))∧zBi q i pos n (.l2 pos.length (pos.length:Int) 0 o2 pos)=some (if zFR x then List.replicate pos.length 0 else x):=by
 have lb:(256:Nat)≤LB:=by decide
 obtain ⟨n1,x,hn1,_,e,hx,hx1,hx2⟩:=zIt (fun n (o3:List Int) k=>zBi q i pos n (.l2 pos.length (pos.length:Int) k o2 o3)) pos.length 260
  (fun k o3=>o3.length=pos.length∧(∀ j,j<k→o3.getD j 0=bits .andNot .i64 (pos.getD j 0) (o2.getD j 0))∧∀ j,k≤j→o3.getD j 0=pos.getD j 0) (fun n k o3 hn0 hk hI=>by
   obtain ⟨h1,h2,h3⟩:=hI
   show ∃ s',zEQ n (zBi q i pos n) q i pos pos.length (pos.length:Int) (k:Int) o2 o3=_∧_
   unfold zEQ
   simp only [Int.toNat_natCast,Nat.zero_add]
   rw [decide_eq_true (by omega),cond_true,if_pos ⟨⟨by omega,by omega⟩,by omega,⟨by omega,by omega⟩,by omega,zAG.2 ⟨by omega,by omega⟩⟩]
   refine ⟨_,rfl,by rw [List.length_set];exact h1,fun j hj=>?_,fun j hj=>?_⟩
   ·by_cases e:k=j
    ·subst e;rw [zAk (by omega),h3 k (by omega)]
    ·rw [getD_set_ne e];exact h2 j (by omega)
   ·rw [getD_set_ne (by omega)];exact h3 j (by omega)) (n:=n) (s:=pos) (by omega) ⟨rfl,fun j hj=>absurd hj (Nat.not_lt_zero j),fun j _=>rfl⟩
 obtain ⟨n2,rfl⟩: ∃ n2,n1=n2+1:=⟨n1-1,by omega⟩
 refine ⟨x,hx,hx1,Eq.trans e ?_⟩
 show zEQ n2 (zBi q i pos n2) q i pos pos.length (pos.length:Int) (pos.length:Int) o2 x=_
 unfold zEQ
 rw [decide_eq_false (by omega),cond_false,if_pos hx.symm,zLW (by omega) (by omega),Option.bind_some]
 cases zFR x
 ·rfl
 ·rw [cond_true,if_pos zL8.symm];rfl
def zY8 (n:Nat) (q:zAB) (i:Int) (pos:List Int) (y2:Bool×List Int):Option (List Int):=
 bif (!y2.1) then (if pos.length=(List.replicate pos.length (0:Int)).length then some (List.replicate pos.length (0:Int)) else none) else zBi q i pos n (.l1 y2.2)
theorem zbQ (C:Ctx q i pos) (hd:zFR pos=false) {n:Nat} (hn:601≤n) {y2:Bool×List Int} (hy:KP q (con q i) pos y2): ∃ x,zY8 n q i pos y2=some x∧PR q (con q i) pos x:=by
 have h256:=C.len256
 have L:(1000000000000:Nat)=LIM:=rfl
 have nz:=zBQ.1 hd
 obtain ⟨b,lost⟩:=y2
 obtain ⟨hok,hlost⟩:=hy
 unfold zY8
 cases b with
 | false=>
  refine ⟨_,by rw [Bool.not_false,cond_true,if_pos zL8.symm],zL8,fun hA=>?_,fun _=>rfl⟩
  have:=hok.2 hA.ok
  cases this
 | true=>
  have hok:=hok.1 rfl
  have hlost:zAf (con q i) pos (List.replicate pos.length 0) (con q i).cells.length (zC7 q (con q i) pos) lost:=hlost rfl
  obtain ⟨n,rfl⟩: ∃ k,n=k+1:=⟨n-1,by omega⟩
  obtain ⟨x,h1,h2,h3⟩:=zdq (q:=q) (i:=i) (n:=n) hlost.1 h256.2 (by omega)
  have hx: ∀ j,j<pos.length→zEg (x.getD j 0)∧∀ s,tb (x.getD j 0) s=true↔tb (pos.getD j 0) s=true∧¬ LC q (con q i) pos j s:=fun j hj=>by
   rw [h2 j hj]
   refine ⟨zAl _ _ _,fun s=>?_⟩
   rw [zAp,Bool.and_eq_true,Bool.not_eq_true',←Bool.not_eq_true,hlost.2,zat]
   constructor
   ·rintro ⟨h4,h5⟩
    refine ⟨h4,fun ⟨a,ha,e,hs⟩=>h5 (.inr ⟨a,ha,e,?_,hs⟩)⟩
    show tb (pos.getD ((con q i).cells.getD a 0).toNat 0) s=true
    rw [e];exact h4
   ·rintro ⟨h4,h5⟩
    refine ⟨h4,fun h6=>h6.elim (fun h=>tb0 h) fun ⟨a,ha,e,_,hs⟩=>h5 ⟨a,ha,e,hs⟩⟩
  have hcl:zTX n pos=some pos:=by
   unfold zTX zQj
   rw [if_pos ⟨h256.1,trivial,⟨rfl,rfl⟩,by rw [←L];simp only [List.length_nil];omega⟩,if_pos (by simp)];rfl
  have e:zBi q i pos (n+1) (.l1 lost)=some (if zFR x then List.replicate pos.length 0 else x):=by
   show zIm n (zBi q i pos n) q i pos lost=_
   unfold zIm
   rw [hcl,Option.bind_some];exact h3
  refine ⟨_,by rw [Bool.not_true,cond_false];exact e,?_,fun hA j hj=>?_,fun hA=>?_⟩
  ·split
   ·exact zL8
   ·exact h1
  ·rw [if_neg]
   ·exact hx j hj
   ·rw [Bool.not_eq_true,zBQ]
    intro j hj
    rw [h1] at hj
    obtain ⟨s,hs,h4,h5⟩:=hA.left j hj
    exact (zB9 (hx j hj).1).2 ⟨s,hs,((hx j hj).2 s).2 ⟨h4,h5⟩⟩
  ·rw [if_pos]
   refine Classical.byContradiction fun h=>hA ?_
   rw [Bool.not_eq_true,zBQ] at h
   refine ⟨nz,hok,fun j hj=>?_⟩
   obtain ⟨s,hs,h4⟩:=(zB9 (hx j hj).1).1 (h j (by omega))
   exact ⟨s,hs,((hx j hj).2 s).1 h4⟩
theorem zXJ (C:Ctx q i pos): ∃ x,Ev (fun n=>zCV n q i pos) x∧PR q (con q i) pos x:=by
 have h256:=C.len256
 have lb:(256:Nat)≤LB:=by decide
 have hi:0≤i∧i<(q.cons.length:Int):=⟨C.i0,C.i1⟩
 cases hd:zFR pos
 ·suffices H:PEv (fun n=>zCV n q i pos) (PR q (con q i) pos) by
   obtain ⟨x,h1,h2⟩:=H.ev PR.uniq
   exact ⟨x,h2,h1⟩
  obtain ⟨N,hN⟩:=PEv.bindU (zbn C hd) (b:=fun n y2=>zY8 n q i pos y2) (Q:=PR q (con q i) pos) ⟨601,fun n hn y2 hy=>zbQ C hd hn hy⟩
  refine ⟨N+300,fun n hn=>?_⟩
  obtain ⟨x,h1,h2⟩:=hN n (by omega)
  refine ⟨x,Eq.trans ?_ h1,h2⟩
  show zCV n q i pos=(zJo n q (con q i) pos).bind fun y2=>zY8 n q i pos y2
  unfold zCV zIn
  rw [if_pos ⟨rfl,by omega,by omega⟩,zLW (by omega) (by omega),hd,Option.bind_some,cond_false,if_pos hi]
  have hc:q.cons.getD i.toNat default=con q i:=rfl
  rw [hc]
  have kc:=zCn (zEU C.kind)
  unfold zJo
  rcases kc with hk | hk | hk | hk | hk | hk | hk | hk | hk <;> rw [hk] <;> rfl
 ·refine ⟨List.replicate pos.length 0,⟨300,fun n hn=>?_⟩,zL8,fun hA=>?_,fun _=>rfl⟩
  ·show zCV n q i pos=_
   unfold zCV zIn
   rw [if_pos ⟨rfl,by omega,by omega⟩,zLW (by omega) (by omega),hd,Option.bind_some,cond_true,if_pos zL8.symm]
  ·have:=zBQ.2 hA.nz
   rw [hd] at this;cases this
end
end Go.Proofs.YtekkngkphejfcaaGreatDoor
namespace Go.Proofs.YtekkngkphejfcaaGreatDoor
open Go.RowKit
theorem zRA {k:Nat} {x:Int} (hx:Sm k x) (hk:k≤16) (h:zJM x=true) {s t:Nat} (hs:tb x s=true) (ht:tb x t=true):s=t:=by
 have h62:=zCt (k:=k) (Nat.le_trans hk (by decide))
 obtain ⟨m,rfl⟩:=Int.eq_ofNat_of_zero_le hx.1
 have hlt:m<18446744073709551616:=by have:=hx.2;omega
 have lo: ∀ {u:Nat},tb (m:Int) u=true→u<64:=fun {u} hu=>Nat.lt_of_not_le fun h=>by rw [zQ3 h] at hu;cases hu
 have h0:m≠0:=by
  rintro rfl
  exact tb0 hs
 have e:m&&& (m-1)=0:=by
  unfold zJM at h
  rw [beq_iff_eq] at h
  apply Nat.eq_of_testBit_eq
  intro u
  rw [Nat.zero_testBit,Nat.testBit_and]
  rcases Nat.lt_or_ge u 64 with hu | hu
  ·have h2:=(zCA (zAl .and _ _)).1 h u hu
   have e1:(m:Int)-1=((m-1:Nat):Int):=by omega
   rw [zCJ,e1,zFK _ _ hu,zFK _ _ hu] at h2
   exact h2
  ·rw [Nat.testBit_lt_two_pow (Nat.lt_of_lt_of_le hlt (Nat.pow_le_pow_right (n:=2) (by decide) hu)),Bool.false_and]
 have S:=zKT m hlt h0
 rw [e,zKS] at S
 have mem: ∀ {u:Nat},tb (m:Int) u=true→u∈zBt m:=fun {u} hu=>by
  unfold zBt
  rw [List.mem_filter,List.mem_range]
  exact ⟨lo hu,by rw [←zFK m u (lo hu)];exact hu⟩
 have h1:=mem hs
 have h2:=mem ht
 rw [S,List.mem_singleton] at h1 h2
 rw [h1,h2]
section
variable {q:zAB} {i:Int} {p p':List Int}
theorem zX6 {c:zAC} {x:Int} (h:bits .andNot .i64 x c.set=0) {s:Nat} (hs:tb x s=true):tb c.set s=true:=by
 have h64:s<64:=Nat.lt_of_not_le fun h=>by rw [zQ3 h] at hs;cases hs
 have:=(zCA (zAl .andNot _ _)).1 h s h64
 rw [zAp,hs,Bool.true_and,Bool.not_eq_false'] at this
 exact this
theorem zdJ {c:zAC} {x:Int} {s:Nat} (h1:tb x s=true) (h2:tb c.set s=true):bits .and .i64 x c.set≠0:=by
 have h64:s<64:=Nat.lt_of_not_le fun h=>by rw [zQ3 h] at h1;cases h1
 exact (zB9 (zAl .and _ _)).2 ⟨s,h64,by rw [zCJ,h1,h2];rfl⟩
theorem zcx {n:Int}: ∀ (l:List Int) (a:Int),n≤l.foldl (loF q) a↔n≤a∧∀ e∈l,n≤q.values.getD e.toNat 0
 | [],a=>by simp
 | e::l,a=>by
  rw [List.foldl_cons,zcx l]
  unfold loF
  simp only [List.mem_cons,forall_eq_or_imp]
  split <;> constructor <;> rintro ⟨h1,h2⟩
  ·exact ⟨by omega,h1,h2⟩
  ·exact ⟨h2.1,h2.2⟩
  ·exact ⟨h1,by omega,h2⟩
  ·exact ⟨h1,h2.2⟩
theorem zc3 {n:Int}: ∀ (l:List Int) (a:Int),l.foldl (hiF q) a≤n↔a≤n∧∀ e∈l,q.values.getD e.toNat 0≤n
 | [],a=>by simp
 | e::l,a=>by
  rw [List.foldl_cons,zc3 l]
  unfold hiF
  simp only [List.mem_cons,forall_eq_or_imp]
  split <;> constructor <;> rintro ⟨h1,h2⟩
  ·exact ⟨by omega,h1,h2⟩
  ·exact ⟨h2.1,h2.2⟩
  ·exact ⟨h1,by omega,h2⟩
  ·exact ⟨h1,h2.2⟩
theorem zcb {n b:Int}: ∀ (l:List Int) (a:Int),n≤l.foldl (upF q b) a↔n≤a∧∀ e∈l,q.values.getD e.toNat 0>b→n≤q.values.getD e.toNat 0
 | [],a=>by simp
 | e::l,a=>by
  rw [List.foldl_cons,zcb l]
  unfold upF
  simp only [List.mem_cons,forall_eq_or_imp]
  split
  ·split <;> constructor <;> rintro ⟨h1,h2⟩
   ·exact ⟨by omega,fun _=>h1,h2⟩
   ·exact ⟨h2.1 (by assumption),h2.2⟩
   ·exact ⟨h1,fun _=>by omega,h2⟩
   ·exact ⟨h1,h2.2⟩
  ·constructor <;> rintro ⟨h1,h2⟩
   ·exact ⟨h1,fun h=>absurd h (by assumption),h2⟩
   ·exact ⟨h1,h2.2⟩
theorem zdE {n b:Int}: ∀ (l:List Int) (a:Int),l.foldl (dnF q b) a≤n↔a≤n∧∀ e∈l,q.values.getD e.toNat 0<b→q.values.getD e.toNat 0≤n
 | [],a=>by simp
 | e::l,a=>by
  rw [List.foldl_cons,zdE l]
  unfold dnF
  simp only [List.mem_cons,forall_eq_or_imp]
  split
  ·split <;> constructor <;> rintro ⟨h1,h2⟩
   ·exact ⟨by omega,fun _=>h1,h2⟩
   ·exact ⟨h2.1 (by assumption),h2.2⟩
   ·exact ⟨h1,fun _=>by omega,h2⟩
   ·exact ⟨h1,h2.2⟩
  ·constructor <;> rintro ⟨h1,h2⟩
   ·exact ⟨h1,fun h=>absurd h (by assumption),h2⟩
   ·exact ⟨h1,h2.2⟩
section
variable {c:zAC}
theorem Fst.at {r:Int} (h0:0≤r) (h:Fst (cB c p) r):r<(p.length:Int)∧(cB c p).getD r.toNat false=true:=by
 rcases h with ⟨h1,_⟩ | ⟨_,h1,h2,_⟩
 ·omega
 ·rw [zBk] at h1;exact ⟨h1,h2⟩
theorem zeD {g:List (List Int)} {inn:List Bool} {u a v:Int} (hna: ¬ Rc g inn u a) (ha:0≤a) (G:Gr g) (hu0:0≤u) (hu1:u<(g.length:Int)) (h:Rc g inn u v):Rc g (inn.set a.toNat false) u v:=by
 induction h with
 | start=>exact .start
 | @step x y h hb hi ih=>
  refine .step ih hb ?_
  have hr:=(Rc.step h hb hi).rng G hu0 hu1
  have hne:a.toNat≠y.toNat:=fun e=>hna (by
   have e2:a=y:=by omega
   rw [e2];exact Rc.step h hb hi)
  rw [List.getD_eq_getElem?_getD,List.getElem?_set_ne hne,←List.getD_eq_getElem?_getD]
  exact hi
end
end
end Go.Proofs.YtekkngkphejfcaaGreatDoor
namespace Go.Proofs.YtekkngkphejfcaaGreatDoor
open Go.RowKit
set_option maxRecDepth 100000
set_option maxHeartbeats 40000000
def zQE (o0_0 o0_1:Int) (o0_2:List Int) (o0_3:List (List Int)) (o0_4:List zAC):DH:=[some (.cells [.i o0_0,.i o0_1,.ints o0_2,.sl 1 o0_3.length (zAz zAS o0_3),.sl 9 o0_4.length (zAz zAF o0_4)]),some (.ints ([1,3,7]:List Int)),some (.ints ([1,2,6]:List Int))]
def zYG (o0_0 o0_1:Int) (o0_2:List Int) (o0_3:List (List Int)) (o0_4:List zAC):DH:=[some (.cells [.i o0_0,.i o0_1,.ints o0_2,.sl 1 o0_3.length (zAz zAS o0_3),.sl 9 o0_4.length (zAz zAF o0_4)]),some (.ints ([1,3,7]:List Int)),some (.ints ([1,2,6]:List Int)),some (.ints ([2,3,3]:List Int)),some (.ints ([2,1,1]:List Int))]
def zYF:DH:=[some (.ints ([1,3,3]:List Int)),some (.ints ([1,2,2]:List Int)),some (.ints ([2,2,3]:List Int)),some (.ints ([0,0,0]:List Int))]
def zYE:DH:=[some (.ints ([7,7]:List Int)),some (.ints ([3,3]:List Int)),some (.ints ([7,7]:List Int)),some (.ints ([3,6]:List Int))]
def zYD:DH:=[none,some (.ints ([3,3,3]:List Int)),some (.ints ([3,2,3]:List Int)),some (.ints ([7,7]:List Int)),some (.ints ([5,5]:List Int))]
def zYC:DH:=[some (.ints ([1,3]:List Int)),some (.ints ([1,2]:List Int)),some (.ints ([2,3,2]:List Int)),some (.ints ([2,2,2]:List Int))]
def zYB:DH:=[some (.ints ([3,2,3]:List Int)),some (.ints ([2,2,2]:List Int)),some (.ints ([2,2,2]:List Int)),some (.ints ([0,0,0]:List Int))]
inductive zGm where
 | l1 (o0_0 o0_1:Int) (o0_2:List Int) (o0_3:List (List Int)) (o0_4:List zAC)
 | l2 (x10:Bool)
 | l3 (x10 x11:Bool)
 | l4 (x10 x11 x12:Bool)
 | l5 (x10 x11 x12 x13:Bool)
 | l6 (x10 x11 x12 x13 x14:Bool)
 | l7 (x10 x11 x12 x13 x14 x15:Bool)
def zbf (n:Nat) (self:zGm→Option Bool) (o0_0 o0_1:Int) (o0_2:List Int) (o0_3:List (List Int)) (o0_4:List zAC):Option Bool:=
 (zCc n (⟨o0_0,o0_1,o0_2,o0_3,o0_4⟩:zAB) ([1,3,7]:List Int) ([1,2,6]:List Int)).bind fun y1=>
  bif y1 then
   (zH9 n 3 2 2 2 0 1 1 ([]:List Int) 0 0).bind fun y2=>
    (zCc n y2 ([2,3,3]:List Int) ([2,1,1]:List Int)).bind fun y3=>
     self (.l2 y3)
  else
   self (.l2 false)
def zbe (n:Nat) (self:zGm→Option Bool) (x10:Bool):Option Bool:=
 (zH9 n 3 2 2 2 0 2 3 ([]:List Int) 0 0).bind fun y1=>
  (zCc n y1 ([1,3,3]:List Int) ([1,2,2]:List Int)).bind fun y2=>
   bif y2 then
    (zH9 n 3 2 2 2 0 0 1 ([]:List Int) 0 0).bind fun y3=>
     (zCc n y3 ([2,2,3]:List Int) ([0,0,0]:List Int)).bind fun y4=>
      self (.l3 x10 y4)
   else
    self (.l3 x10 false)
def zbd (n:Nat) (self:zGm→Option Bool) (x10 x11:Bool):Option Bool:=
 (zH9 n 2 3 3 0 0 0 3 ([]:List Int) 0 0).bind fun y1=>
  (zCc n y1 ([7,7]:List Int) ([3,3]:List Int)).bind fun y2=>
   bif y2 then
    (zH9 n 2 3 4 0 0 0 0 ([]:List Int) 0 0).bind fun y3=>
     (zCc n y3 ([7,7]:List Int) ([3,6]:List Int)).bind fun y4=>
      self (.l4 x10 x11 y4)
   else
    self (.l4 x10 x11 false)
def zbc (n:Nat) (self:zGm→Option Bool) (x10 x11 x12:Bool):Option Bool:=
 (zH9 n 3 2 5 2 0 0 0 ([2]:List Int) 0 0).bind fun y1=>
  (zCc n y1 ([3,3,3]:List Int) ([3,2,3]:List Int)).bind fun y2=>
   bif y2 then
    (zH9 n 2 3 6 0 0 2 0 ([]:List Int) 0 0).bind fun y3=>
     (zCc n y3 ([7,7]:List Int) ([5,5]:List Int)).bind fun y4=>
      self (.l5 x10 x11 x12 y4)
   else
    self (.l5 x10 x11 x12 false)
def zbb (n:Nat) (self:zGm→Option Bool) (x10 x11 x12 x13:Bool):Option Bool:=
 (zH9 n 2 2 7 1 1 0 0 ([]:List Int) 0 0).bind fun y1=>
  (zCc n y1 ([1,3]:List Int) ([1,2]:List Int)).bind fun y2=>
   bif y2 then
    (zH9 n 3 2 8 2 0 0 0 ([]:List Int) 0 0).bind fun y3=>
     (zCc n y3 ([2,3,2]:List Int) ([2,2,2]:List Int)).bind fun y4=>
      self (.l6 x10 x11 x12 x13 y4)
   else
    self (.l6 x10 x11 x12 x13 false)
def zba (n:Nat) (self:zGm→Option Bool) (x10 x11 x12 x13 x14:Bool):Option Bool:=
 (zH9 n 3 2 9 2 0 0 0 ([]:List Int) 0 0).bind fun y1=>
  (zCc n y1 ([3,2,3]:List Int) ([2,2,2]:List Int)).bind fun y2=>
   bif y2 then
    (zH9 n 3 2 9 2 0 0 0 ([]:List Int) 0 0).bind fun y3=>
     (zCc n y3 ([2,2,2]:List Int) ([0,0,0]:List Int)).bind fun y4=>
      self (.l7 x10 x11 x12 x13 x14 y4)
   else
    self (.l7 x10 x11 x12 x13 x14 false)
def zbZ (n:Nat) (self:zGm→Option Bool) (x10 x11 x12 x13 x14 x15:Bool):Option Bool:=
 bif x10 then
  bif x11 then
   bif x12 then
    bif x13 then
     bif x14 then
      some x15
     else
      some false
    else
     some false
   else
    some false
  else
   some false
 else
  some false
def zbg (n:Nat) (self:zGm→Option Bool):Option Bool:=
 (zH9 n 3 3 1 0 0 0 0 ([]:List Int) 0 0).bind fun y1=>
  (zRd n y1 0 ([1,3,7]:List Int)).bind fun y2=>
   (zH9 n 2 3 3 0 0 0 3 ([]:List Int) 0 0).bind fun y3=>
    (zLT n y3 0).bind fun y4=>
     (zHw n y1 1 ([1,3,7]:List Int)).bind fun y5=>
      (zLT n (⟨0,0,([]:List Int),([]:List (List Int)),([]:List zAC)⟩:zAB) 0).bind fun y6=>
       bif (y2.2 != 0) then
        some false
       else
        bif (y4.2 != 0) then
         some false
        else
         bif (y4.1 != 2) then
          some false
         else
          bif (y5.2 != 260) then
           some false
          else
           bif (y6.2 != 191) then
            some false
           else
            (zCO n y2.1 ([(1,0),(2,0)]:List (Int×Int))).bind fun y7=>
             bif (!y7) then
              some false
             else
              self (.l1 y1.cells y1.symbols y1.values y1.nbrs y1.cons)
def zHV:Nat→zGm→Option Bool
 | 0,_=>none
 | n+1,.l1 o0_0 o0_1 o0_2 o0_3 o0_4=>zbf n (zHV n) o0_0 o0_1 o0_2 o0_3 o0_4
 | n+1,.l2 x10=>zbe n (zHV n) x10
 | n+1,.l3 x10 x11=>zbd n (zHV n) x10 x11
 | n+1,.l4 x10 x11 x12=>zbc n (zHV n) x10 x11 x12
 | n+1,.l5 x10 x11 x12 x13=>zbb n (zHV n) x10 x11 x12 x13
 | n+1,.l6 x10 x11 x12 x13 x14=>zba n (zHV n) x10 x11 x12 x13 x14
 | n+1,.l7 x10 x11 x12 x13 x14 x15=>zbZ n (zHV n) x10 x11 x12 x13 x14 x15
def zcf (n:Nat):Option Bool:=zbg n (zHV n)
def zbi (n B:Nat) (N:Yd 0) (r:Bool):zGm→Prop
 | .l1 o0_0 o0_1 o0_2 o0_3 o0_4=>TW B N (FQ Tryz.f7 0 (.bool r) []) (zEd (zAK Tryz.f7) 8 []) ⟨frm 155 [(1,.ref 0 0)],[some (.cells [.i o0_0,.i o0_1,.ints o0_2,.sl 1 o0_3.length (zAz zAS o0_3),.sl 9 o0_4.length (zAz zAF o0_4)])]⟩
 | .l2 x10=>TW B N (FQ Tryz.f7 0 (.bool r) []) (zEd (zAK Tryz.f7) 9 []) ⟨frm 155 [(10,.bool x10)],[]⟩
 | .l3 x10 x11=>TW B N (FQ Tryz.f7 0 (.bool r) []) (zEd (zAK Tryz.f7) 10 []) ⟨frm 155 [(10,.bool x10),(11,.bool x11)],[]⟩
 | .l4 x10 x11 x12=>TW B N (FQ Tryz.f7 0 (.bool r) []) (zEd (zAK Tryz.f7) 11 []) ⟨frm 155 [(10,.bool x10),(11,.bool x11),(12,.bool x12)],[]⟩
 | .l5 x10 x11 x12 x13=>TW B N (FQ Tryz.f7 0 (.bool r) []) (zEd (zAK Tryz.f7) 12 []) ⟨frm 155 [(10,.bool x10),(11,.bool x11),(12,.bool x12),(13,.bool x13)],[]⟩
 | .l6 x10 x11 x12 x13 x14=>TW B N (FQ Tryz.f7 0 (.bool r) []) (zEd (zAK Tryz.f7) 13 []) ⟨frm 155 [(10,.bool x10),(11,.bool x11),(12,.bool x12),(13,.bool x13),(14,.bool x14)],[]⟩
 | .l7 x10 x11 x12 x13 x14 x15=>TW B N (FQ Tryz.f7 0 (.bool r) []) (zEd (zAK Tryz.f7) 14 []) ⟨frm 155 [(10,.bool x10),(11,.bool x11),(12,.bool x12),(13,.bool x13),(14,.bool x14),(15,.bool x15)],[]⟩
theorem zZI (B:Nat) (N:Yd 0):Al (zHV) (zbi · B N):=ia (fun _=>rfl) fun n hself pt r h=>by
 cases pt
 case l1 o0_0 o0_1 o0_2 o0_3 o0_4=>
  revert r
  apply gO
  exact cn fun y1 hy1=>jc (sb [.agg 5 (L1 [.i o0_0,.i o0_1,.ints o0_2,.sl 1 o0_3.length (zAz zAS o0_3),.sl 9 o0_4.length (zAz zAF o0_4)]),.msl 1 1 0 3,.msl 2 1 0 3] (zBC hy1) (zQE o0_0 o0_1 o0_2 o0_3 o0_4) ⟨zA1.plain (by kernel_rfl),zA1.ints rfl (by decide:3=([1,3,7]:List Int).length),zA1.ints rfl (by decide:3=([1,2,6]:List Int).length),trivial⟩) (bi 70 (cn fun y2 hy2=>jc (fb (ES.argsLe (ds:=[.i 3,.i 2,.agg 9 (L1 [.i 2,.nils,.i 2,.i 0,.i 1,.i 1,.nils,.i 0,.i 0])]) (zBr hy2) ⟨zAD,zAD,(DLe.aggL (l:=[.i 2,.nils,.i 2,.i 0,.i 1,.i 1,.nils,.i 0,.i 0]) (l':=[.i 2,.nils,.i 2,.i 0,.i 1,.i 1,.ints ([]:List Int),.i 0,.i 0]) rfl ⟨zAD,zAD,zAD,zAD,zAD,zAD,DLe.ints_nil,zAD,zAD,trivial⟩),trivial⟩) (zQE o0_0 o0_1 o0_2 o0_3 o0_4)) (cn fun y3 hy3=>jc (sb [.agg 5 (L1 (zAE y2)),.msl 3 1 0 3,.msl 4 1 0 3] (zBC hy3) (zYG o0_0 o0_1 o0_2 o0_3 o0_4) ⟨zA1.plain (by kernel_rfl),zA1.ints rfl (by decide:3=([2,3,3]:List Int).length),zA1.ints rfl (by decide:3=([2,1,1]:List Int).length),trivial⟩) (lG (zAA 14 (zAA 13 (zAA 12 (zAA 11 (zAA 10 (zAA 9 zAH)))))) [] (hself _ _ ·)))) (lG (zAA 14 (zAA 13 (zAA 12 (zAA 11 (zAA 10 (zAA 9 zAH)))))) [] (hself _ _ ·)))
 case l2 x10=>
  revert r
  apply gO
  exact cn fun y1 hy1=>jc (fb (ES.argsLe (ds:=[.i 3,.i 2,.agg 9 (L1 [.i 2,.nils,.i 2,.i 0,.i 2,.i 3,.nils,.i 0,.i 0])]) (zBr hy1) ⟨zAD,zAD,(DLe.aggL (l:=[.i 2,.nils,.i 2,.i 0,.i 2,.i 3,.nils,.i 0,.i 0]) (l':=[.i 2,.nils,.i 2,.i 0,.i 2,.i 3,.ints ([]:List Int),.i 0,.i 0]) rfl ⟨zAD,zAD,zAD,zAD,zAD,zAD,DLe.ints_nil,zAD,zAD,trivial⟩),trivial⟩) []) (cn fun y2 hy2=>jc (sb [.agg 5 (L1 (zAE y1)),.msl 0 1 0 3,.msl 1 1 0 3] (zBC hy2) [some (.ints ([1,3,3]:List Int)),some (.ints ([1,2,2]:List Int))] ⟨zA1.plain (by kernel_rfl),zA1.ints rfl (by decide:3=([1,3,3]:List Int).length),zA1.ints rfl (by decide:3=([1,2,2]:List Int).length),trivial⟩) (bi 82 (cn fun y3 hy3=>jc (fb (ES.argsLe (ds:=[.i 3,.i 2,.agg 9 (L1 [.i 2,.nils,.i 2,.i 0,.i 0,.i 1,.nils,.i 0,.i 0])]) (zBr hy3) ⟨zAD,zAD,(DLe.aggL (l:=[.i 2,.nils,.i 2,.i 0,.i 0,.i 1,.nils,.i 0,.i 0]) (l':=[.i 2,.nils,.i 2,.i 0,.i 0,.i 1,.ints ([]:List Int),.i 0,.i 0]) rfl ⟨zAD,zAD,zAD,zAD,zAD,zAD,DLe.ints_nil,zAD,zAD,trivial⟩),trivial⟩) [some (.ints ([1,3,3]:List Int)),some (.ints ([1,2,2]:List Int))]) (cn fun y4 hy4=>jc (sb [.agg 5 (L1 (zAE y3)),.msl 2 1 0 3,.msl 3 1 0 3] (zBC hy4) zYF ⟨zA1.plain (by kernel_rfl),zA1.ints rfl (by decide:3=([2,2,3]:List Int).length),zA1.ints rfl (by decide:3=([0,0,0]:List Int).length),trivial⟩) (lG (zAA 14 (zAA 13 (zAA 12 (zAA 11 (zAA 10 (zAA 8 zAH)))))) [] (hself _ _ ·)))) (lG (zAA 14 (zAA 13 (zAA 12 (zAA 11 (zAA 10 (zAA 8 zAH)))))) [] (hself _ _ ·))))
 case l3 x10 x11=>
  revert r
  apply gO
  exact cn fun y1 hy1=>jc (fb (ES.argsLe (ds:=[.i 2,.i 3,.agg 9 (L1 [.i 3,.nils,.i 0,.i 0,.i 0,.i 3,.nils,.i 0,.i 0])]) (zBr hy1) ⟨zAD,zAD,(DLe.aggL (l:=[.i 3,.nils,.i 0,.i 0,.i 0,.i 3,.nils,.i 0,.i 0]) (l':=[.i 3,.nils,.i 0,.i 0,.i 0,.i 3,.ints ([]:List Int),.i 0,.i 0]) rfl ⟨zAD,zAD,zAD,zAD,zAD,zAD,DLe.ints_nil,zAD,zAD,trivial⟩),trivial⟩) []) (cn fun y2 hy2=>jc (sb [.agg 5 (L1 (zAE y1)),.msl 0 1 0 2,.msl 1 1 0 2] (zBC hy2) [some (.ints ([7,7]:List Int)),some (.ints ([3,3]:List Int))] ⟨zA1.plain (by kernel_rfl),zA1.ints rfl (by decide:2=([7,7]:List Int).length),zA1.ints rfl (by decide:2=([3,3]:List Int).length),trivial⟩) (bi 94 (cn fun y3 hy3=>jc (fb (ES.argsLe (ds:=[.i 2,.i 3,.agg 9 (L1 [.i 4,.nils,.i 0,.i 0,.i 0,.i 0,.nils,.i 0,.i 0])]) (zBr hy3) ⟨zAD,zAD,(DLe.aggL (l:=[.i 4,.nils,.i 0,.i 0,.i 0,.i 0,.nils,.i 0,.i 0]) (l':=[.i 4,.nils,.i 0,.i 0,.i 0,.i 0,.ints ([]:List Int),.i 0,.i 0]) rfl ⟨zAD,zAD,zAD,zAD,zAD,zAD,DLe.ints_nil,zAD,zAD,trivial⟩),trivial⟩) [some (.ints ([7,7]:List Int)),some (.ints ([3,3]:List Int))]) (cn fun y4 hy4=>jc (sb [.agg 5 (L1 (zAE y3)),.msl 2 1 0 2,.msl 3 1 0 2] (zBC hy4) zYE ⟨zA1.plain (by kernel_rfl),zA1.ints rfl (by decide:2=([7,7]:List Int).length),zA1.ints rfl (by decide:2=([3,6]:List Int).length),trivial⟩) (lG (zAA 14 (zAA 13 (zAA 12 (zAA 11 (zAA 9 (zAA 8 zAH)))))) [] (hself _ _ ·)))) (lG (zAA 14 (zAA 13 (zAA 12 (zAA 11 (zAA 9 (zAA 8 zAH)))))) [] (hself _ _ ·))))
 case l4 x10 x11 x12=>
  revert r
  apply gO
  exact jz 102 0 (jg (by decide:1=([2]:List Int).length) (cf zBr [none] fun y1=>cn fun y2 hy2=>jc (sb [.agg 5 (L1 (zAE y1)),.msl 1 1 0 3,.msl 2 1 0 3] (zBC hy2) [none,some (.ints ([3,3,3]:List Int)),some (.ints ([3,2,3]:List Int))] ⟨zA1.plain (by kernel_rfl),zA1.ints rfl (by decide:3=([3,3,3]:List Int).length),zA1.ints rfl (by decide:3=([3,2,3]:List Int).length),trivial⟩) (bi 107 (cn fun y3 hy3=>jc (fb (ES.argsLe (ds:=[.i 2,.i 3,.agg 9 (L1 [.i 6,.nils,.i 0,.i 0,.i 2,.i 0,.nils,.i 0,.i 0])]) (zBr hy3) ⟨zAD,zAD,(DLe.aggL (l:=[.i 6,.nils,.i 0,.i 0,.i 2,.i 0,.nils,.i 0,.i 0]) (l':=[.i 6,.nils,.i 0,.i 0,.i 2,.i 0,.ints ([]:List Int),.i 0,.i 0]) rfl ⟨zAD,zAD,zAD,zAD,zAD,zAD,DLe.ints_nil,zAD,zAD,trivial⟩),trivial⟩) [none,some (.ints ([3,3,3]:List Int)),some (.ints ([3,2,3]:List Int))]) (cn fun y4 hy4=>jc (sb [.agg 5 (L1 (zAE y3)),.msl 3 1 0 2,.msl 4 1 0 2] (zBC hy4) zYD ⟨zA1.plain (by kernel_rfl),zA1.ints rfl (by decide:2=([7,7]:List Int).length),zA1.ints rfl (by decide:2=([5,5]:List Int).length),trivial⟩) (lG (zAA 14 (zAA 13 (zAA 12 (zAA 10 (zAA 9 (zAA 8 zAH)))))) [] (hself _ _ ·)))) (lG (zAA 14 (zAA 13 (zAA 12 (zAA 10 (zAA 9 (zAA 8 zAH)))))) [] (hself _ _ ·)))))
 case l5 x10 x11 x12 x13=>
  revert r
  apply gO
  exact cn fun y1 hy1=>jc (fb (ES.argsLe (ds:=[.i 2,.i 2,.agg 9 (L1 [.i 7,.nils,.i 1,.i 1,.i 0,.i 0,.nils,.i 0,.i 0])]) (zBr hy1) ⟨zAD,zAD,(DLe.aggL (l:=[.i 7,.nils,.i 1,.i 1,.i 0,.i 0,.nils,.i 0,.i 0]) (l':=[.i 7,.nils,.i 1,.i 1,.i 0,.i 0,.ints ([]:List Int),.i 0,.i 0]) rfl ⟨zAD,zAD,zAD,zAD,zAD,zAD,DLe.ints_nil,zAD,zAD,trivial⟩),trivial⟩) []) (cn fun y2 hy2=>jc (sb [.agg 5 (L1 (zAE y1)),.msl 0 1 0 2,.msl 1 1 0 2] (zBC hy2) [some (.ints ([1,3]:List Int)),some (.ints ([1,2]:List Int))] ⟨zA1.plain (by kernel_rfl),zA1.ints rfl (by decide:2=([1,3]:List Int).length),zA1.ints rfl (by decide:2=([1,2]:List Int).length),trivial⟩) (bi 119 (cn fun y3 hy3=>jc (fb (ES.argsLe (ds:=[.i 3,.i 2,.agg 9 (L1 [.i 8,.nils,.i 2,.i 0,.i 0,.i 0,.nils,.i 0,.i 0])]) (zBr hy3) ⟨zAD,zAD,(DLe.aggL (l:=[.i 8,.nils,.i 2,.i 0,.i 0,.i 0,.nils,.i 0,.i 0]) (l':=[.i 8,.nils,.i 2,.i 0,.i 0,.i 0,.ints ([]:List Int),.i 0,.i 0]) rfl ⟨zAD,zAD,zAD,zAD,zAD,zAD,DLe.ints_nil,zAD,zAD,trivial⟩),trivial⟩) [some (.ints ([1,3]:List Int)),some (.ints ([1,2]:List Int))]) (cn fun y4 hy4=>jc (sb [.agg 5 (L1 (zAE y3)),.msl 2 1 0 3,.msl 3 1 0 3] (zBC hy4) zYC ⟨zA1.plain (by kernel_rfl),zA1.ints rfl (by decide:3=([2,3,2]:List Int).length),zA1.ints rfl (by decide:3=([2,2,2]:List Int).length),trivial⟩) (lG (zAA 14 (zAA 13 (zAA 11 (zAA 10 (zAA 9 (zAA 8 zAH)))))) [] (hself _ _ ·)))) (lG (zAA 14 (zAA 13 (zAA 11 (zAA 10 (zAA 9 (zAA 8 zAH)))))) [] (hself _ _ ·))))
 case l6 x10 x11 x12 x13 x14=>
  revert r
  apply gO
  exact cn fun y1 hy1=>jc (fb (ES.argsLe (ds:=[.i 3,.i 2,.agg 9 (L1 [.i 9,.nils,.i 2,.i 0,.i 0,.i 0,.nils,.i 0,.i 0])]) (zBr hy1) ⟨zAD,zAD,(DLe.aggL (l:=[.i 9,.nils,.i 2,.i 0,.i 0,.i 0,.nils,.i 0,.i 0]) (l':=[.i 9,.nils,.i 2,.i 0,.i 0,.i 0,.ints ([]:List Int),.i 0,.i 0]) rfl ⟨zAD,zAD,zAD,zAD,zAD,zAD,DLe.ints_nil,zAD,zAD,trivial⟩),trivial⟩) []) (cn fun y2 hy2=>jc (sb [.agg 5 (L1 (zAE y1)),.msl 0 1 0 3,.msl 1 1 0 3] (zBC hy2) [some (.ints ([3,2,3]:List Int)),some (.ints ([2,2,2]:List Int))] ⟨zA1.plain (by kernel_rfl),zA1.ints rfl (by decide:3=([3,2,3]:List Int).length),zA1.ints rfl (by decide:3=([2,2,2]:List Int).length),trivial⟩) (bi 131 (cn fun y3 hy3=>jc (fb (ES.argsLe (ds:=[.i 3,.i 2,.agg 9 (L1 [.i 9,.nils,.i 2,.i 0,.i 0,.i 0,.nils,.i 0,.i 0])]) (zBr hy3) ⟨zAD,zAD,(DLe.aggL (l:=[.i 9,.nils,.i 2,.i 0,.i 0,.i 0,.nils,.i 0,.i 0]) (l':=[.i 9,.nils,.i 2,.i 0,.i 0,.i 0,.ints ([]:List Int),.i 0,.i 0]) rfl ⟨zAD,zAD,zAD,zAD,zAD,zAD,DLe.ints_nil,zAD,zAD,trivial⟩),trivial⟩) [some (.ints ([3,2,3]:List Int)),some (.ints ([2,2,2]:List Int))]) (cn fun y4 hy4=>jc (sb [.agg 5 (L1 (zAE y3)),.msl 2 1 0 3,.msl 3 1 0 3] (zBC hy4) zYB ⟨zA1.plain (by kernel_rfl),zA1.ints rfl (by decide:3=([2,2,2]:List Int).length),zA1.ints rfl (by decide:3=([0,0,0]:List Int).length),trivial⟩) (lG (zAA 14 (zAA 12 (zAA 11 (zAA 10 (zAA 9 (zAA 8 zAH)))))) [] (hself _ _ ·)))) (lG (zAA 14 (zAA 12 (zAA 11 (zAA 10 (zAA 9 (zAA 8 zAH)))))) [] (hself _ _ ·))))
 case l7 x10 x11 x12 x13 x14 x15=>
  revert r
  apply gO
  exact bi 139 (bi 141 (bi 144 (bi 147 (bi 150 (lE (zAA 13 (zAA 12 (zAA 11 (zAA 10 (zAA 9 (zAA 8 zAH)))))) [0] []) (lE (zAA 13 (zAA 12 (zAA 11 (zAA 10 (zAA 9 (zAA 8 zAH)))))) [0] [])) (lE (zAA 13 (zAA 12 (zAA 11 (zAA 10 (zAA 9 (zAA 8 zAH)))))) [0] [])) (lE (zAA 13 (zAA 12 (zAA 11 (zAA 10 (zAA 9 (zAA 8 zAH)))))) [0] [])) (lE (zAA 13 (zAA 12 (zAA 11 (zAA 10 (zAA 9 (zAA 8 zAH)))))) [0] [])) (lE (zAA 13 (zAA 12 (zAA 11 (zAA 10 (zAA 9 (zAA 8 zAH)))))) [0] [])
theorem zbY {n:Nat} {r:Bool} (h:zcf n=some r):EQ 7 [] [] (.bool r) [] true:=by
 refine ot Tryz.func7 fun B N=>?_
 revert r
 apply gO
 exact cn fun y1 hy1=>jc (fb (ES.argsLe (ds:=[.i 3,.i 3,.agg 9 (L1 [.i 1,.nils,.i 0,.i 0,.i 0,.i 0,.nils,.i 0,.i 0])]) (zBr hy1) ⟨zAD,zAD,(DLe.aggL (l:=[.i 1,.nils,.i 0,.i 0,.i 0,.i 0,.nils,.i 0,.i 0]) (l':=[.i 1,.nils,.i 0,.i 0,.i 0,.i 0,.ints ([]:List Int),.i 0,.i 0]) rfl ⟨zAD,zAD,zAD,zAD,zAD,zAD,DLe.ints_nil,zAD,zAD,trivial⟩),trivial⟩) []) (jt (jz 20 1 (jg (by decide:3=([1,3,7]:List Int).length) (cf zTD [some (.cells (zAE y1)),none] fun _=>cn fun y3 hy3=>jc (fb (ES.argsLe (ds:=[.i 2,.i 3,.agg 9 (L1 [.i 3,.nils,.i 0,.i 0,.i 0,.i 3,.nils,.i 0,.i 0])]) (zBr hy3) ⟨zAD,zAD,(DLe.aggL (l:=[.i 3,.nils,.i 0,.i 0,.i 0,.i 3,.nils,.i 0,.i 0]) (l':=[.i 3,.nils,.i 0,.i 0,.i 0,.i 3,.ints ([]:List Int),.i 0,.i 0]) rfl ⟨zAD,zAD,zAD,zAD,zAD,zAD,DLe.ints_nil,zAD,zAD,trivial⟩),trivial⟩) [some (.cells (zAE y1)),none]) (cf zLR [some (.cells (zAE y1)),none] fun _=>jz 32 2 (jg (by decide:3=([1,3,7]:List Int).length) (cf zLB [some (.cells (zAE y1)),none,none] fun _=>cn fun y6 hy6=>jc (sb [.agg 5 (L1 [.i 0,.i 0,.nils,.nils,.nils]),.i 0] (zLR hy6) [some (.cells (zAE y1)),none,none] ⟨(zA1.dle (by kernel_rfl) (DLe.aggL (l:=[.i 0,.i 0,.nils,.nils,.nils]) (l':=[.i 0,.i 0,.ints ([]:List Int),.sl 1 (([]:List (List Int)).length) (zAz zAS ([]:List (List Int))),.sl 9 (([]:List zAC).length) (zAz zAF ([]:List zAC))]) rfl ⟨zAD,zAD,DLe.ints_nil,(DLe.sl_nil _ _),(DLe.sl_nil _ _),trivial⟩)),zA1.plain (by kernel_rfl),trivial⟩) (bi 42 (lE (zAA 14 (zAA 13 (zAA 12 (zAA 11 (zAA 10 (zAA 9 (zAA 8 zAH))))))) [0] []) (bi 45 (lE (zAA 14 (zAA 13 (zAA 12 (zAA 11 (zAA 10 (zAA 9 (zAA 8 zAH))))))) [0] []) (bi 49 (lE (zAA 14 (zAA 13 (zAA 12 (zAA 11 (zAA 10 (zAA 9 (zAA 8 zAH))))))) [0] []) (bi 53 (lE (zAA 14 (zAA 13 (zAA 12 (zAA 11 (zAA 10 (zAA 9 (zAA 8 zAH))))))) [0] []) (bi 57 (lE (zAA 14 (zAA 13 (zAA 12 (zAA 11 (zAA 10 (zAA 9 (zAA 8 zAH))))))) [0] []) (ja 63 3 2 (zAT (c:=iiC) (L:=([(1,0),(2,0)]:List (Int×Int))) (vals:=[.agg 2 (L1 [.i 1,.i 0]),.agg 2 (L1 [.i 2,.i 0])]) rfl ⟨⟨_,rfl,⟨zAD,zAD,trivial⟩⟩,⟨_,rfl,⟨zAD,zAD,trivial⟩⟩,trivial⟩) (jz 63 3 (jg (by decide:2=([(1,0),(2,0)]:List (Int×Int)).length) (cf zJN [some (.cells (zAE y1)),none,none,none] fun _=>bi 65 (lE (zAA 14 (zAA 13 (zAA 12 (zAA 11 (zAA 10 (zAA 9 (zAA 8 zAH))))))) [0] []) (lG (zAA 14 (zAA 13 (zAA 12 (zAA 11 (zAA 10 (zAA 9 (zAA 8 zAH))))))) [0] ((zZI B N n) _ _ ·))))))))))))))))))
end Go.Proofs.YtekkngkphejfcaaGreatDoor
