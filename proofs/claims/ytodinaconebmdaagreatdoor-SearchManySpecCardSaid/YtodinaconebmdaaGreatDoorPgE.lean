/- Part 5 of 8 of what the proofs of these laws stand on. -/
import Derived.Test.YtodinaconebmdaaGreatDoorPgD
set_option linter.all false
namespace Go.Proofs.YtodinaconebmdaaGreatDoor
open Go.RowKit
abbrev zNh:=@List.ext_getElem
abbrev zP8:=@Option.isSome_some
abbrev zQQ:=@Int.lt_irrefl
section
variable {c:AC} {k:Nat} {pos lost:Ξ} {q:AA}
variable {l':Ξ}{i:Nat}
theorem B3.unique {D:Nat -> Ψ}{l:Ξ}(h:B3 c pos lost i D l)(h':B3 c pos lost i D l')(hi: ∀ j,Bt (l.getD j 0))(U: ∀ j,Bt (l'.getD j 0)):l=l':=by
 have e:l.length=l'.length:=h.1.trans h'.1.symm;refine zNh e λj a b=>?_
 have B:l.getD j 0=l[j]:=by simp [a]
 have F:l'.getD j 0=l'[j]:=by simp [b]
 rw [←B,←F];refine Hw (hi j) (U j) λs _=>?_
 grind [B3]
theorem iQ {l:Ξ}{x:Int}(h: ∀ j,Bt (l.getD j 0))(hx:Bt x): ∀ j,Bt ((l.set i x).getD j 0):=by
 grind [getD_set_ne]
variable {cell ss:Int}{n ln:Nat}
theorem zIf (h:D5 n cell ss c q pos ln lost=some l')(hi: ∀ j,Bt (lost.getD j 0)): ∀ j,Bt (l'.getD j 0):=by
 grind [D5,kR,iQ,Dh]
theorem zHt (h:Hg n cell c q pos ln lost=some l')(hi: ∀ j,Bt (lost.getD j 0)): ∀ j,Bt (l'.getD j 0):=by
 grind [Hg,j0,iQ,Dh]
def Hr (c:AC):Prop:=c.ru.length<=256/\ ∀ j,j<c.ru.length -> c.ru.getD j 0<=256
structure Fl (c:AC)(d l:Int):Prop where
 d0:0<=d
 d1:d<=(c.ru.length:Int)
 l0:0<=l
 open' : 0 < l -> d < (c.ru.length : Int) /\ l <= c.ru.getD d.toNat 0
def nx (c:AC)(d l:Int)(inn:Bool):Option Δ:= bif inn then (if d<(c.ru.length:Int)/\ l<c.ru.getD d.toNat 0 then some (d,l+1) else none) else (if l=0 then some (d,0) else if l=c.ru.getD d.toNat 0 then some (d+1,0) else none)
variable {t:Δ}{inn:Bool}{d l:Int}
theorem vl (h:Fl c d l)(e:nx c d l inn=some t):Fl c t.1 t.2:=by
 obtain ⟨a,b,h3,h4⟩:=h;unfold nx at e;cases inn
 ·rw [zAz] at e;split at e
  ·cases e;exact ⟨a,b,zJB _,λh=>absurd h (zQQ _)⟩
  ·split at e
   ·cases e;exact ⟨Z2,Z2,zJB _,λh=>absurd h (zQQ _)⟩
   ·cases e
 ·split at e
  ·rename_i f;cases e;exact ⟨a,b,Z2,λ_=>⟨f.1,Z4⟩⟩
  ·cases e
theorem cK (R:Hr c)(h:Fl c d l): ∃ t,WW n (d,l) inn c q pos ln lost=some (t,(nx c d l inn).isSome,lost)/\ ∀ u,nx c d l inn=some u -> t=u:=by
 obtain ⟨a,h2,h3,A⟩:=h;obtain ⟨hr,hv⟩:=R
 have hl:l<=256:=by
  grind
 unfold WW vw nx;cases inn
 ·rw [zAz,zAz]
  by_cases h0:l=0
  ·simp_all
  ·obtain ⟨x,a2⟩:=A Z2;have N:(l==0)=false:=by simpa using h0
   simp only [N,zAz,zEO h0];rw [zAE ⟨Aa.2 ⟨Z2,Z2⟩,a,x⟩];refine ⟨(d+1,0),?_,λu e=>?_⟩
   ·grind
   grind
 ·rw [zAG,zAG,zAE (Aa.2 ⟨by show _<=l+1;omega,by show l+1<=_;omega⟩)]
  by_cases b:d<(c.ru.length:Int)
  ·simp only [zAC b,zAG];rw [zAE ⟨a,b⟩];refine ⟨(d,l+1),?_,λu e=>?_⟩
   ·grind
   grind
  simp_all [zAF]
def kd (c:AC)(pos:Ξ)(i:Nat)(inn:Bool):Bool:=bif inn then (bits .and .i64 (AP c pos i) c.set != 0) else (bits .andNot .i64 (AP c pos i) c.set != 0)
theorem ci (W:B5 c k pos)(hi:i<c.ce.length):We n (i:Int) inn c q pos pos.length lost=some (kd c pos i inn,lost):=by
 have hc:=W.ce i hi;unfold We wj kd
 grind [AP]
def FX (c:AC)(pos:Ξ):Nat -> Δ -> Prop
 | 0,t=>t=(0,0)
 | i+1,t=>∃ s inn,FX c pos i s/\ nx c s.1 s.2 inn=some t/\ kd c pos i inn=true
def FX.ok (i:Nat): ∀ {t:Δ},FX c pos i t -> Fl c t.1 t.2:=by
 induction i with
 | zero=>
  intro t h;obtain rfl:t=(0,0):=h;exact ⟨zJB _,Z2,zJB _,λh=>absurd h (zQQ _)⟩
 | succ i b=>
  rintro t ⟨s,inn,a,d,_⟩;exact vl (b a) d
def gC (c:AC)(t:Δ):Prop:=t=((c.ru.length:Int),0)∨(0<c.ru.length/\ t=((c.ru.length:Int)-1,c.ru.getD (c.ru.length-1) 0))
def Jl (c:AC)(pos:Ξ):Nat -> Δ -> Prop
 | 0,t=>gC c t
 | m+1,s=>FX c pos (c.ce.length-1-m) s/\ ∃ t inn,nx c s.1 s.2 inn=some t/\ kd c pos (c.ce.length-1-m) inn=true/\ Jl c pos m t
def Ho (c:AC)(pos:Ξ)(i:Nat)(inn:Bool):Prop:=∃ s t,FX c pos i s/\ nx c s.1 s.2 inn=some t/\ kd c pos i inn=true/\ Jl c pos (c.ce.length-1-i) t
def IZ (c:AC)(pos:Ξ)(a s:Nat):Prop:=(¬ Ho c pos a true/\ tb c.set s=true)∨(¬ Ho c pos a false/\ tb c.set s=false)
def Er (c:AC)(pos:Ξ)(i:Nat)(o4:KS)(d l:Int)(inn:Bool):Bool:=match nx c d l inn with
 | some t=>kd c pos i inn&&o4.contains [t.1,t.2]
 | none=>false
variable {f K:Bool}{o4 D g:KS}{e:List (Option KS)}{o1:Ξ}
theorem zI4 {a:Nat}{j:Ξ}(W:B5 c k pos)(R:Hr c)(hi:i<c.ce.length)(h:Fl c d l):
 BU c q pos pos.length lost (n+1) (.l7 i 0 o1 e a o4 D f K d l g j)=BU c q pos pos.length lost n (.l7 i 1 o1 e a o4 (bif Er c pos i o4 d l false then Co [d,l] D else D) (f||Er c pos i o4 d l false) K d l g j):=by
 obtain ⟨t,B,F⟩:=cK (n:=n) (ln:=pos.length) (pos:=pos) (lost:=o1) (q:=q) (inn:=false) R h;have b:([false,true]:Ω).getD (0+((0:Int)).toNat) false=false:=rfl;have r:AG ((0:Int)+1):=Aa.2 ⟨Z6,Z6⟩
 show SX n (BU c q pos pos.length lost n) c q pos pos.length lost i 0 o1 e a o4 D f K d l g j=_
 unfold SX Er;rw [zAC Z6,zAG,zAE ⟨⟨Z6,Z6⟩,Z6⟩,b,B,zAB];cases m:nx c d l false with
 | none=>grind
 | some u=>
  obtain rfl:=F u m;simp only [zP8,zAG]
  grind [ci]
theorem zI3 {a:Nat}{j:Ξ}(W:B5 c k pos)(R:Hr c)(hi:i<c.ce.length)(h:Fl c d l):
 BU c q pos pos.length lost (n+1) (.l7 i 1 o1 e a o4 D f K d l g j)=BU c q pos pos.length lost n (.l7 i 2 o1 e a o4 (bif Er c pos i o4 d l true then Co [d,l] D else D) f (K||Er c pos i o4 d l true) d l g j):=by
 obtain ⟨t,B,F⟩:=cK (n:=n) (ln:=pos.length) (pos:=pos) (lost:=o1) (q:=q) (inn:=true) R h;have b:([false,true]:Ω).getD (0+((1:Int)).toNat) false=true:=rfl;have r:AG ((1:Int)+1):=Aa.2 ⟨Z6,Z6⟩
 show SX n (BU c q pos pos.length lost n) c q pos pos.length lost i 1 o1 e a o4 D f K d l g j=_
 unfold SX Er;rw [zAC Z6,zAG,zAE ⟨⟨Z6,Z6⟩,Z6⟩,b,B,zAB];cases m:nx c d l true with
 | none=>grind
 | some u=>
  obtain rfl:=F u m;simp only [zP8,zAG]
  grind [ci]
variable {r:Bool}{a:List (Option KS)}{b:Nat}
theorem zI2 {e:Ξ}:
 BU c q pos pos.length lost (n+1) (.l7 i 2 o1 a b o4 D r K d l g e)=BU c q pos pos.length lost n (.l9 i o1 a b o4 D r K g e):=by
 simp_all [SX,BU]
def Gf (c:AC)(pos:Ξ)(i:Nat)(q:List (Option KS))(d l:Int)(inn:Bool):List (Option KS):=match nx c d l inn with
 | some t=>bif kd c pos i inn then q.set (i+1) (some (Co [t.1,t.2] ((q.getD (i+1) none).getD []))) else q
 | none=>q
variable {C:Int}{V:Ξ}
theorem zI8 (W:B5 c k pos)(R:Hr c)(hi:i<c.ce.length)(h:Fl c d l)(e:i+1<a.length)(f:(a.getD (i+1) none).isSome=true):
 BU c q pos pos.length lost (n+1) (.l5 i C 0 o1 a i d l D V)=BU c q pos pos.length lost n (.l5 i C 1 o1 (Gf c pos i a d l false) i d l D V):=by
 obtain ⟨t,B,F⟩:=cK (n:=n) (ln:=pos.length) (pos:=pos) (lost:=o1) (q:=q) (inn:=false) R h;have b:([false,true]:Ω).getD (0+((0:Int)).toNat) false=false:=rfl;have r:AG ((0:Int)+1):=Aa.2 ⟨Z6,Z6⟩;have Ag:=W.len;have v:((((c.ce.length:Nat):Int)+1).toNat:Nat)=c.ce.length+1:=Z2
 have E:0+(((i:Int)+1).toNat:Nat)=i+1:=Z2
 show SY n (BU c q pos pos.length lost n) c q pos pos.length lost i C 0 o1 a i d l D V=_
 unfold SY Gf;rw [zAC Z6,zAG,zAE ⟨⟨Z6,Z6⟩,Z6⟩,b,B,zAB];cases g:nx c d l false with
 | none=>grind
 | some u=>
  obtain rfl:=F u g;simp only [zP8,zAG];rw [ci W hi,zAB];cases hk:kd c pos i false
  ·simp only [zAz,zAE r];rfl
  ·simp only [zAG,v,E];rw [zAE ⟨Aa.2 ⟨Z2,Z2⟩,⟨Z2,Z2⟩,e,Z2,f,r⟩];rfl
theorem zI7 (W:B5 c k pos)(R:Hr c)(hi:i<c.ce.length)(h:Fl c d l)(e:i+1<a.length)(f:(a.getD (i+1) none).isSome=true):
 BU c q pos pos.length lost (n+1) (.l5 i C 1 o1 a i d l D V)=BU c q pos pos.length lost n (.l5 i C 2 o1 (Gf c pos i a d l true) i d l D V):=by
 obtain ⟨t,B,F⟩:=cK (n:=n) (ln:=pos.length) (pos:=pos) (lost:=o1) (q:=q) (inn:=true) R h;have b:([false,true]:Ω).getD (0+((1:Int)).toNat) false=true:=rfl;have r:AG ((1:Int)+1):=Aa.2 ⟨Z6,Z6⟩;have Ag:=W.len;have v:((((c.ce.length:Nat):Int)+1).toNat:Nat)=c.ce.length+1:=Z2
 have E:0+(((i:Int)+1).toNat:Nat)=i+1:=Z2
 show SY n (BU c q pos pos.length lost n) c q pos pos.length lost i C 1 o1 a i d l D V=_
 unfold SY Gf;rw [zAC Z6,zAG,zAE ⟨⟨Z6,Z6⟩,Z6⟩,b,B,zAB];cases g:nx c d l true with
 | none=>grind
 | some u=>
  obtain rfl:=F u g;simp only [zP8,zAG];rw [ci W hi,zAB];cases hk:kd c pos i true
  ·simp only [zAz,zAE r];rfl
  ·simp only [zAG,v,E];rw [zAE ⟨Aa.2 ⟨Z2,Z2⟩,⟨Z2,Z2⟩,e,Z2,f,r⟩];rfl
theorem zI6 :
 BU c q pos pos.length lost (n+1) (.l5 i C 2 o1 a i d l D V)=BU c q pos pos.length lost n (.l8 i C o1 a i D V):=by
 simp_all [SY,BU]
def Gy (q:List (Option KS))(j:Nat):KS:=(q.getD j none).getD []
theorem uo {q:List (Option KS)}:(Gf c pos i q d l inn).length=q.length:=by
 unfold Gf
 grind
variable {α:Type}
theorem zMk {l:List α}{x y:α}(h:i<l.length):(l.set i x).getD i y=x:=by
 grind
variable {j:Nat}
theorem yZ {l:List α}{x y:α}(h:i≠j):(l.set i x).getD j y=l.getD j y:=by
 grind
theorem zG4 {q:List (Option KS)}(h:j≠i+1):(Gf c pos i q d l inn).getD j none=q.getD j none:=by
 unfold Gf
 grind
theorem jZ {q:List (Option KS)}(hl:i+1<q.length)(h:(q.getD j none).isSome=true):((Gf c pos i q d l inn).getD j none).isSome=true:=by
 grind [Gf]
theorem cN {q:List (Option KS)}(hl:i+1<q.length){x:Ξ}:x∈Gy (Gf c pos i q d l inn) (i+1)↔x∈Gy q (i+1)∨∃ t,nx c d l inn=some t/\ kd c pos i inn=true/\ x= [t.1,t.2]:=by
 unfold Gf;split
 ·cases hk:kd c pos i inn
  ·grind
  ·rw [zAG]
   grind [Gy,QN]
 grind
structure Rows (c:AC)(pos:Ξ)(i:Nat)(o3:List (Option KS)):Prop where
 len:o3.length=c.ce.length+1
 isSome: ∀ j,j<=c.ce.length -> (o3.getD j none).isSome=true
 row: ∀ j,j<=i -> ∀ x,x∈Gy o3 j↔∃ t:Δ,x= [t.1,t.2]/\ FX c pos j t
 rest: ∀ j,i<j -> j<=c.ce.length -> Gy o3 j= []
structure Rf (c:AC)(pos:Ξ)(i:Nat)(rem:KS)(o3:List (Option KS)):Prop where
 hi:i<c.ce.length
 len:o3.length=c.ce.length+1
 isSome: ∀ j,j<=c.ce.length -> (o3.getD j none).isSome=true
 row: ∀ j,j<=i -> ∀ x,x∈Gy o3 j↔∃ t:Δ,x= [t.1,t.2]/\ FX c pos j t
 rest: ∀ j,i+1<j -> j<=c.ce.length -> Gy o3 j= []
 sub: ∀ x∈rem,∃ t:Δ,x= [t.1,t.2]/\ FX c pos i t
 next: ∀ x∈Gy o3 (i+1),∃ t:Δ,x= [t.1,t.2]/\ FX c pos (i+1) t
 cov: ∀ t,FX c pos i t -> [t.1,t.2]∈rem∨∀ inn u,nx c t.1 t.2 inn=some u -> kd c pos i inn=true -> [u.1,u.2]∈Gy o3 (i+1)
def Rows.mid {q:List (Option KS)}(h:Rows c pos i q)(hi:i<c.ce.length):Rf c pos i (Gy q i) q where
 hi:=hi
 len:=h.len
 isSome:=h.isSome
 row:=h.row
 rest:=λj hj o=>h.rest j Z2 o
 sub:=λx d=>(h.row i (zBT _) x).1 d
 next:=λx d=>by rw [h.rest (i+1) Z2 Z2] at d;cases d
 cov:=λt V=>.inl ((h.row i (zBT _) _).2 ⟨t,rfl,V⟩)
def Rf.rows {q:List (Option KS)}(h:Rf c pos i [] q):Rows c pos (i+1) q where
 len:=h.len
 isSome:=h.isSome
 row:=λj a x=>by
  rcases zIR.1 (Nat.lt_succ_of_le a) with a | rfl
  ·exact h.row j Z2 x
  ·refine ⟨h.next x,?_⟩;rintro ⟨t,rfl,s,inn,b,d,e⟩;rcases h.cov s b with h4 | h4
   ·cases h4
   ·exact h4 inn t d e
 rest:=h.rest
theorem vD {u:Δ}(h:([t.1,t.2]:Ξ)= [u.1,u.2]):t=u:=by
 grind
variable {y:KS}
theorem Rf.go {q:List (Option KS)}(h:Rf c pos i y q)(V: [t.1,t.2]∈y):Rf c pos i (y.erase [t.1,t.2]) (Gf c pos i (Gf c pos i q t.1 t.2 false) t.1 t.2 true):=by
 have hl:=h.len;have hi:=h.hi;have b:i+1<q.length:=Z2
 have f:i+1<(Gf c pos i q t.1 t.2 false).length:=by rw [uo];exact b
 have K: ∀ j,j≠i+1 -> Gy (Gf c pos i (Gf c pos i q t.1 t.2 false) t.1 t.2 true) j=Gy q j:=λj a=>by
  grind [Gy,zG4]
 have hR:FX c pos i t:=by
  obtain ⟨u,e,g⟩:=h.sub _ V;rw [vD e];exact g
 refine ⟨hi,by grind [uo],λj a=>jZ f (jZ b (h.isSome j a)),λj a x=>?_,λj a k=>?_,λx d=>h.sub x (List.mem_of_mem_erase d),λx d=>?_,λs l=>?_⟩
 ·rw [K j Z2];exact h.row j a x
 ·rw [K j Z2];exact h.rest j a k
 ·rw [cN f,cN b] at d;rcases d with (d | ⟨u,B,F,rfl⟩) | ⟨u,B,F,rfl⟩
  ·exact h.next x d
  ·grind [FX]
  grind [FX]
 ·by_cases e:s=t
  ·simp_all [cN]
  ·rcases h.cov s l with h3 | h3
   ·grind
   grind [cN]
def IP (c:AC)(pos lost:Ξ)(r:Bool×Ξ):Prop:=r.1=true/\ B3 c pos lost c.ce.length (IZ c pos) r.2/\ ∀ j,Bt (r.2.getD j 0)
theorem IP.uniq (r F:Bool×Ξ)(h:IP c pos lost r)(h':IP c pos lost F):r=F:=by
 grind [B3.unique,IP]
theorem zIS (W:B5 c k pos)(R:Hr c)(f:C=(i:Int))(H: ∀ b,Rows c pos (i+1) b -> AZ (λn=>BU c q pos pos.length lost n (.l2 (C+1) o1 b)) (IP c pos lost)):
 ∀ (m:Nat) (a:KS) (b:List (Option KS)) (V:Ξ),a.length=m -> Rf c pos i a b -> AZ (λn=>BU c q pos pos.length lost n (.l8 i C o1 b i a V)) (IP c pos lost):=by
 intro m
 induction m with
 | zero=>
  intro a b V z Y;have:a= []:=zLw z;subst this;have h:=Y.isSome i (by have:=Y.hi;omega);have r1:AG (C+1):=by rw [f];exact (W.r64 Y.hi).2
  refine AZ.step 1 (λn=>?_) (H b Y.rows)
  simp_all [ii,BU,zHx]
 | succ m j=>
  intro a b V z Y;have h:=Y.isSome i (by have:=Y.hi;omega);have K:a≠[]:=Z4
  refine AZ.step 1 (g:=λn=>If a (if AG (C+1) then BU c q pos pos.length lost n (.l2 (C+1) o1 b) else none) (λe=>BU c q pos pos.length lost n (.l5 i C 0 o1 b i (e.getD 0 0) (e.getD 1 0) (a.erase e) e))) (λn=>?_) (AZ.next K (λy hy=>?_) IP.uniq)
  ·simp_all [ii,BU]
  ·obtain ⟨t,rfl,o⟩:=Y.sub y hy;have hS:=o.ok;have hl:=Y.len;have hi:=Y.hi;have p:i+1<b.length:=Z2
   have B:=Y.isSome (i+1) Z2;have s2:=jZ (c:=c) (pos:=pos) (d:=t.1) (l:=t.2) (inn:=false) p B;refine AZ.step 3 (λn=>?_) (j _ _ [t.1,t.2] Z4 (Y.go hy))
   grind [zI8,zI7,zI6]
def PP (c:AC)(pos:Ξ)(m:Nat)(o4:KS):Prop:=∀ x,x∈o4↔∃ t:Δ,x= [t.1,t.2]/\ Jl c pos m t
def PM (c:AC)(pos lost:Ξ)(m:Nat)(o1:Ξ):Prop:=B3 c pos lost c.ce.length (λa s=>c.ce.length<=a+m/\ IZ c pos a s) o1/\ ∀ j,Bt (o1.getD j 0)
structure Bk (c:AC)(pos:Ξ)(i m:Nat)(o5:KS)(b0 b1:Bool)(rem:KS):Prop where
 hi:i+m+1=c.ce.length
 sub: ∀ x∈rem,∃ t:Δ,x= [t.1,t.2]/\ FX c pos i t
 o5s: ∀ x∈o5,∃ t:Δ,x= [t.1,t.2]/\ Jl c pos (m+1) t
 b0s:b0=true -> Ho c pos i false
 b1s:b1=true -> Ho c pos i true
 cov: ∀ t,FX c pos i t -> [t.1,t.2]∈rem∨∀ inn u,nx c t.1 t.2 inn=some u -> kd c pos i inn=true -> Jl c pos m u -> [t.1,t.2]∈o5/\ (bif inn then b1 else b0)=true
variable {m:Nat}
theorem vj (h:PP c pos m o4):Er c pos i o4 d l inn=true↔∃ u,nx c d l inn=some u/\ kd c pos i inn=true/\ Jl c pos m u:=by
 unfold Er;split
 ·grind [PP]
 grind
theorem Bk.go {a:Bool}(hE:PP c pos m o4)(h:Bk c pos i m D a K y)(V: [t.1,t.2]∈y):
 Bk c pos i m (bif Er c pos i o4 t.1 t.2 true then Co [t.1,t.2] (bif Er c pos i o4 t.1 t.2 false then Co [t.1,t.2] D else D) else (bif Er c pos i o4 t.1 t.2 false then Co [t.1,t.2] D else D)) (a||Er c pos i o4 t.1 t.2 false) (K||Er c pos i o4 t.1 t.2 true) (y.erase [t.1,t.2]):=by
 have hR:FX c pos i t:=by
  obtain ⟨u,e,g⟩:=h.sub _ V;rw [vD e];exact g
 have ei:c.ce.length-1-i=m:=by have:=h.hi;omega
 have em:c.ce.length-1-m=i:=by have:=h.hi;omega
 have b: ∀ inn,Er c pos i o4 t.1 t.2 inn=true -> Ho c pos i inn:=λinn j=>by
  grind [Ho,PP,Er]
 have r: ∀ inn,Er c pos i o4 t.1 t.2 inn=true -> Jl c pos (m+1) t:=λinn j=>by
  grind [vj,Jl]
 have f: ∀ x,x∈(bif Er c pos i o4 t.1 t.2 true then Co [t.1,t.2] (bif Er c pos i o4 t.1 t.2 false then Co [t.1,t.2] D else D) else (bif Er c pos i o4 t.1 t.2 false then Co [t.1,t.2] D else D))↔x∈D∨(x= [t.1,t.2]/\ (Er c pos i o4 t.1 t.2 true=true∨Er c pos i o4 t.1 t.2 false=true)):=λx=>by
  cases Er c pos i o4 t.1 t.2 true <;> cases Er c pos i o4 t.1 t.2 false <;> simp only [zAG,zAz,QN,zLk,or_false,and_false,or_true,true_or,and_true]
  ·exact Or.comm
  ·exact Or.comm
  grind
 refine ⟨h.hi,λx d=>h.sub x (List.mem_of_mem_erase d),λx d=>?_,λhb=>?_,λhb=>?_,λs l=>?_⟩
 ·rcases (f x).1 d with d | ⟨rfl,h1 | h1⟩
  ·exact h.o5s x d
  ·exact ⟨t,rfl,r _ h1⟩
  grind
 ·rcases Bool.or_eq_true_iff.1 hb with hb | hb
  ·exact h.b0s hb
  ·exact b _ hb
 ·rcases Bool.or_eq_true_iff.1 hb with hb | hb
  ·exact h.b1s hb
  ·exact b _ hb
 ·by_cases e:s=t
  ·grind [vj,kd]
  ·rcases h.cov s l with h3 | h3
   ·grind
   grind
theorem Bk.end' (h:Bk c pos i m D r K []):PP c pos (m+1) D/\ (r=true↔Ho c pos i false)/\ (K=true↔Ho c pos i true):=by
 have M:c.ce.length-1-i=m:=by have:=h.hi;omega
 have em:c.ce.length-1-m=i:=by have:=h.hi;omega
 refine ⟨λx=>⟨h.o5s x,?_⟩,⟨h.b0s,?_⟩,⟨h.b1s,?_⟩⟩
 ·rintro ⟨t,rfl,a⟩;have a:FX c pos (c.ce.length-1-m) t/\ ∃ u inn,nx c t.1 t.2 inn=some u/\ kd c pos (c.ce.length-1-m) inn=true/\ Jl c pos m u:=a;rw [em] at a;obtain ⟨a,u,inn,b,d,A⟩:=a;rcases h.cov t a with h5 | h5
  ·cases h5
  grind
 ·rintro ⟨s,t,a,b,d,A⟩;rw [M] at A;rcases h.cov s a with h5 | h5
  ·cases h5
  grind
 ·rintro ⟨s,t,a,b,d,A⟩;rw [M] at A;rcases h.cov s a with h5 | h5
  ·cases h5
  grind
def wR (h0:0<=cell)(a:cell<(pos.length:Int))(o:lost.length=pos.length)(hi: ∀ j,Bt (lost.getD j 0)):
 ∃ l',(∀ n,D5 n cell ss c q pos pos.length lost=some l')/\ l'.length=pos.length/\ (∀ j,Bt (l'.getD j 0))/\ ∀ j s,tb (l'.getD j 0) s=(tb (lost.getD j 0) s||(decide (j=cell.toNat)&&(tb (pos.getD j 0) s&&tb ss s))):=by
 obtain ⟨l',e,b,h⟩:=Ml (n:=0) (ss:=ss) (c:=c) (q:=q) h0 a o;exact ⟨l',λ_=>e,b,zIf e hi,h⟩
def jy (h0:0<=cell)(a:cell<(pos.length:Int))(o:lost.length=pos.length)(hi: ∀ j,Bt (lost.getD j 0)):
 ∃ l',(∀ n,Hg n cell c q pos pos.length lost=some l')/\ l'.length=pos.length/\ (∀ j,Bt (l'.getD j 0))/\ ∀ j s,tb (l'.getD j 0) s=(tb (lost.getD j 0) s||(decide (j=cell.toNat)&&(tb (pos.getD j 0) s&&!tb c.set s))):=by
 obtain ⟨l',e,b,h⟩:=jx (n:=0) (c:=c) (q:=q) h0 a o;exact ⟨l',λ_=>e,b,zHt e hi,h⟩
theorem PM.go (h:PM c pos lost m o1)(hi:i+m+1=c.ce.length)(o:l'.length=pos.length)(I: ∀ j,Bt (l'.getD j 0)) 
 (a: ∀ j s,tb (l'.getD j 0) s=true↔tb (o1.getD j 0) s=true∨((c.ce.getD i 0).toNat=j/\ tb (AP c pos i) s=true/\ IZ c pos i s)):PM c pos lost (m+1) l':=by
 refine ⟨⟨o,λj s=>?_⟩,I⟩;rw [a,h.1.2]
 grind
variable {O:Int}
theorem zOm {d:List (Option KS)}(W:B5 c k pos)(R:Hr c)(v:O=(i:Int))(hR:Rows c pos c.ce.length d)(w:PP c pos m o4)(e:PM c pos lost m o1) 
 (H: ∀ o1 D,PM c pos lost (m+1) o1 -> PP c pos (m+1) D -> AZ (λn=>BU c q pos pos.length lost n (.l4 (O-1) o1 d D)) (IP c pos lost)):
 ∀ (z:Nat) (a D:KS) (b K:Bool) (F:Ξ),a.length=z -> Bk c pos i m D b K a -> AZ (λn=>BU c q pos pos.length lost n (.l9 i o1 d i o4 D b K a F)) (IP c pos lost):=by
 intro z
 induction z with
 | zero=>
  intro a D b K F o f;have:a= []:=zLw o;subst this;obtain ⟨A,e0,e1⟩:=f.end';have hi:i<c.ce.length:=by have:=f.hi;omega
  have p:=hR.isSome i Z2;have Ag:=W.len;have r1:AG ((i:Int)-1):=Aa.2 ⟨Z2,Z2⟩;have h:=W.ce i hi;have g0:(0:Int)<=(i:Int)/\ (i:Int)<((c.ce.length:Nat):Int):=⟨Z2,Z2⟩;obtain ⟨B,f1,E,C,t1⟩:=wR (ss:=c.set) (c:=c) (q:=q) h.1 h.2 e.1.1 e.2;obtain ⟨G,f2,n2,i2,t2⟩:=jy (c:=c) (q:=q) h.1 h.2 E C;obtain ⟨I,f3,n3,i3,t3⟩:=jy (c:=c) (q:=q) h.1 h.2 e.1.1 e.2
  have J: ∀ n,BU c q pos pos.length lost (n+1) (.l9 i o1 d i o4 D b K [] F)=BU c q pos pos.length lost n (.l4 (i-1) (bif !K then (bif !b then G else B) else (bif !b then I else o1)) d D):=λn=>by
   show VZ n (BU c q pos pos.length lost n) c q pos pos.length lost i o1 d i o4 D b K [] F=_
   unfold VZ
   grind [If]
  refine AZ.step 1 J ?_
  have key: ∀ l':Ξ,l'.length=pos.length -> (∀ j,Bt (l'.getD j 0)) -> (∀ j s,tb (l'.getD j 0) s=(tb (o1.getD j 0) s||(decide (j=(c.ce.getD i 0).toNat)&&(tb (pos.getD j 0) s&&((!K&&tb c.set s)||(!b&&!tb c.set s)))))) -> PM c pos lost (m+1) l':=by
   intro l' L M N;refine e.go f.hi L M λj s=>?_
   rw [N,zJo,zAD,zAD,zJz,zJo,zAD,zAD,zFN,zFN,zFN];unfold IZ
   grind [AP]
  subst v;cases K <;> cases b <;> simp only [zLd,zLa,zAG,zAz]
  ·grind
  ·grind
  ·grind
  ·exact H o1 D (key o1 e.1.1 e.2 λj s=>by
    grind) A
 | succ z P=>
  intro a D b K F o f;have hi:i<c.ce.length:=by have:=f.hi;omega
  have p:=hR.isSome i Z2;have u:a≠[]:=Z4
  refine AZ.step 1 (g:=λn=>If a none (λl=>BU c q pos pos.length lost n (.l7 i 0 o1 d i o4 D b K (l.getD 0 0) (l.getD 1 0) (a.erase l) l))) (λn=>?_) (AZ.next u (λy hy=>?_) IP.uniq)
  ·show VZ n (BU c q pos pos.length lost n) c q pos pos.length lost i o1 d i o4 D b K a F=_
   unfold VZ;simp only [zAE p];cases a with
   | nil=>exact absurd rfl u
   | cons x r=>rfl
  ·obtain ⟨t,rfl,V⟩:=f.sub y hy;have hS:=V.ok;refine AZ.step 3 (λn=>?_) (P _ _ _ _ [t.1,t.2] Z4 (f.go w hy))
   grind [zI4,zI3,zI2]
def zI5 {u:KS}:BU c q pos ln lost n (.l6 O o1 a b o4 u)=BU c q pos ln lost n (.l9 O o1 a b o4 [] false false u []):=by cases n <;> rfl
def zI9 {x8:Int}:BU c q pos ln lost n (.l3 x8 C o1 a b o4)=BU c q pos ln lost n (.l8 x8 C o1 a b o4 []):=by cases n <;> rfl
theorem zAP (W:B5 c k pos)(R:Hr c)(hR:Rows c pos c.ce.length a):
 ∀ (i m:Nat) (O:Int) (o1:Ξ) (o4:KS),i+m=c.ce.length -> O=(i:Int)-1 -> PM c pos lost m o1 -> PP c pos m o4 -> AZ (λn=>BU c q pos pos.length lost n (.l4 O o1 a o4)) (IP c pos lost):=by
 intro i
 induction i with
 | zero=>
  intro m O o1 o4 z d b H;refine Ev.p (r:=(true,o1)) ⟨1,λn hn=>?_⟩ ⟨rfl,⟨b.1.1,λj s=>?_⟩,b.2⟩
  ·obtain ⟨n,rfl⟩: ∃ e,n=e+1:=⟨n-1,Z2⟩
   simp_all [Zy,BU]
  ·rw [b.1.2]
   grind
 | succ i f=>
  intro m O o1 o4 z d b H;have d:O=(i:Int):=Z2
  subst d;have l:=hR.isSome i Z2;have Ag:=hR.len;have v:((((c.ce.length:Nat):Int)+1).toNat:Nat)=c.ce.length+1:=Z2
  have E:0+((i:Int).toNat:Nat)=i:=Z2
  refine AZ.step 1 (g:=λn=>BU c q pos pos.length lost n (.l9 i o1 a i o4 [] false false (Gy a i) [])) (λn=>?_) (zOm W R rfl hR H b (λo1 D o u=>f (m+1) ((i:Int)-1) o1 D Z2 rfl o u) _ (Gy a i) [] false false [] rfl ⟨Z2,λx d=>(hR.row i Z2 x).1 d,λx d=>(by cases d),λh=>(by cases h),λh=>(by cases h),λt V=>.inl ((hR.row i Z2 _).2 ⟨t,rfl,V⟩)⟩)
  show Zy n (BU c q pos pos.length lost n) c q pos pos.length lost (i:Int) o1 a o4=_
  unfold Zy;simp only [v,E];rw [zAC Z2,zAG,zAE l,zAE ⟨⟨Z2,Z2⟩,Z2,l⟩];exact zI5
theorem zMu (W:B5 c k pos)(R:Hr c)(o:lost.length=pos.length)(I: ∀ j,Bt (lost.getD j 0)):
 ∀ (m i:Nat) (C:Int) (b:List (Option KS)),i+m=c.ce.length -> C=(i:Int) -> Rows c pos i b -> AZ (λn=>BU c q pos pos.length lost n (.l2 C lost b)) (IP c pos lost):=by
 intro m
 induction m with
 | zero=>
  intro i C b z d hR;have z:i=c.ce.length:=Z2
  subst z d;have G:=W.len;have hr:=R.1;have r1:AG ((c.ce.length:Int)-1):=Aa.2 ⟨Z2,Z2⟩;have r2:AG ((c.ru.length:Int)-1):=Aa.2 ⟨Z2,Z2⟩;have e:PM c pos lost 0 lost:=⟨⟨o,λj s=>⟨.inl,λh=>h.elim id λ⟨a,h1,_,_,f,_⟩=>absurd f Z2⟩⟩,I⟩
  by_cases h0:0<c.ru.length
  ·have v:(((c.ru.length:Nat):Int)-1).toNat=c.ru.length-1:=Z2
   refine AZ.step 1 (g:=λn=>BU c q pos pos.length lost n (.l4 ((c.ce.length:Int)-1) lost b (Co [((c.ru.length:Int)-1),c.ru.getD (c.ru.length-1) 0] (Co [(c.ru.length:Int),0] ([]:KS))))) (λn=>?_) (zAP W R hR c.ce.length 0 _ _ _ Z2 rfl e λx=>?_)
   ·show SZ n (BU c q pos pos.length lost n) c q pos pos.length lost (c.ce.length:Int) lost b=_
    unfold SZ
    grind
   ·rw [QN,QN];constructor
    ·rintro (rfl | rfl | h)
     ·exact ⟨((c.ru.length:Int)-1,c.ru.getD (c.ru.length-1) 0),rfl,.inr ⟨h0,rfl⟩⟩
     ·exact ⟨((c.ru.length:Int),0),rfl,.inl rfl⟩
     ·cases h
    ·rintro ⟨t,rfl,rfl | ⟨_,rfl⟩⟩
     ·exact .inr (.inl rfl)
     ·exact .inl rfl
  ·have h0':c.ru.length=0:=Z2
   refine AZ.step 1 (g:=λn=>BU c q pos pos.length lost n (.l4 ((c.ce.length:Int)-1) lost b (Co [(c.ru.length:Int),0] ([]:KS)))) (λn=>?_) (zAP W R hR c.ce.length 0 _ _ _ Z2 rfl e λx=>?_)
   ·simp_all [SZ,BU]
   ·rw [QN];constructor
    ·rintro (rfl | h)
     ·exact ⟨((c.ru.length:Int),0),rfl,.inl rfl⟩
     ·cases h
    ·rintro ⟨t,rfl,rfl | ⟨h,rfl⟩⟩
     ·exact .inl rfl
     ·exact absurd h h0
 | succ m p=>
  intro i C b z d hR;subst d;have hi:i<c.ce.length:=Z2
  have l:=hR.isSome i Z2;have G:=hR.len;have v:((((c.ce.length:Nat):Int)+1).toNat:Nat)=c.ce.length+1:=Z2
  have E:0+((i:Int).toNat:Nat)=i:=Z2
  refine AZ.step 1 (g:=λn=>BU c q pos pos.length lost n (.l8 i i lost b i (Gy b i) [])) (λn=>?_) (zIS W R rfl (λb h=>p (i+1) _ b Z2 Z2 h) _ _ _ _ rfl (hR.mid hi))
  show SZ n (BU c q pos pos.length lost n) c q pos pos.length lost (i:Int) lost b=_
  unfold SZ;simp only [v,E];rw [zAC Z2,zAG,zAE l,zAE ⟨⟨Z2,Z2⟩,Z2,l⟩];exact zI9
theorem zNN (W:B5 c k pos)(R:Hr c)(o:lost.length=pos.length)(I: ∀ j,Bt (lost.getD j 0)):
 ∀ (m j:Nat) (O:Int) (a:List (Option KS)),j+m=c.ce.length+1 -> O=(j:Int) -> a.length=c.ce.length+1 -> (∀ i,i<j -> a.getD i none=some []) -> AZ (λn=>BU c q pos pos.length lost n (.l1 O a)) (IP c pos lost):=by
 intro m
 induction m with
 | zero=>
  intro j O a z d G y;subst d;have v:((((c.ce.length:Nat):Int)+1).toNat:Nat)=c.ce.length+1:=Z2
  have hs:(a.getD 0 none).isSome=true:=by rw [y 0 Z2];rfl
  have e0:(a.getD 0 none).getD []= []:=by rw [y 0 Z2];rfl
  have hg: ∀ i,i≠0 -> (a.set 0 (some (Co [0,0] ([]:KS)))).getD i none=a.getD i none:=λi hi=>yZ (λe=>hi e.symm)
  have b:(a.set 0 (some (Co [0,0] ([]:KS)))).getD 0 none=some (Co [0,0] []):=zMk Z2;refine AZ.step 1 (g:=λn=>BU c q pos pos.length lost n (.l2 0 lost (a.set 0 (some (Co [0,0] ([]:KS)))))) (λn=>?_) (zMu W R o I c.ce.length 0 0 _ Z2 rfl ⟨by rw [zJy];exact G,λi hi=>?_,λi hi x=>?_,λi hi My=>?_⟩)
  ·simp_all [Zz,BU]
  ·grind
  ·obtain rfl:i=0:=Z2
   show x∈((a.set 0 (some (Co [0,0] ([]:KS)))).getD 0 none).getD []↔_
   rw [b]
   show x∈Co [0,0] []↔_
   rw [QN];constructor
   ·rintro (rfl | h)
    ·exact ⟨(0,0),rfl,rfl⟩
    ·cases h
   ·rintro ⟨t,rfl,h⟩;have h:t=(0,0):=h;subst h;exact .inl rfl
  ·show ((a.set 0 (some (Co [0,0] ([]:KS)))).getD i none).getD []= []
   grind
 | succ m f=>
  intro j O a z d G y;subst d;have zLg:=W.len;have v:((((c.ce.length:Nat):Int)+1).toNat:Nat)=c.ce.length+1:=Z2
  have E:0+((j:Int).toNat:Nat)=j:=Z2
  refine AZ.step 1 (g:=λn=>BU c q pos pos.length lost n (.l1 ((j:Int)+1) (a.set j (some ([]:KS))))) (λn=>?_) (f (j+1) _ _ Z2 Z2 (by rw [zJy];exact G) λi hi=>?_)
  ·show Zz n (BU c q pos pos.length lost n) c q pos pos.length lost (j:Int) a=_
   unfold Zz;simp only [v,E];rw [zAC Z2,zAG,zAE ⟨⟨Z2,Z2⟩,Z2,Aa.2 ⟨Z2,Z2⟩⟩]
  grind [yZ]
def LD (c:AC):Bool:=(c.ce.length != 0)||(c.ru.length==0)
theorem zEa (W:B5 c k pos)(R:Hr c)(o:lost.length=pos.length)(I: ∀ j,Bt (lost.getD j 0)):
 ∃ l,Ev (λn=>Sa n c q pos pos.length lost) (LD c,l)/\ (LD c=true -> B3 c pos lost c.ce.length (IZ c pos) l):=by
 by_cases h0:c.ce.length=0
 ·have B:LD c=((c.ru.length:Int)==0):=by
   grind [LD]
  refine ⟨lost,Ev.now λn=>?_,λ_=>by rw [h0];exact B3.zero o⟩
  grind [Sa,ij]
 ·have B:LD c=true:=by
   grind [LD]
  have Ag:=W.len;have v:((((c.ce.length:Nat):Int)+1).toNat:Nat)=c.ce.length+1:=Z2
  obtain ⟨r,a,d⟩:=(zNN (q:=q) W R o I (c.ce.length+1) 0 0 (List.replicate (c.ce.length+1) none) Z2 rfl Z3 (λi hi=>absurd hi (zA6 i))).ev IP.uniq;obtain ⟨b,l⟩:=r;obtain ⟨h,A,h5⟩:=a;have h:b=true:=h;subst h;refine ⟨l,?_,λ_=>A⟩;rw [B];refine d.eq λn=>?_
  unfold Sa ij;rw [v]
  have F:(((c.ce.length:Nat):Int)==0)=false:=by
   grind
  rw [F,zAz,zAE ⟨Aa.2 ⟨Z2,Z2⟩,rfl,Z2,Z2⟩]
end
abbrev zLt:=@List.foldl_cons
abbrev zPk:=@List.countP_eq_length_filter
section
variable {c:AC} {k:Nat} {pos lost:Ξ} {q:AA}
structure E9 (c:AC)(q:AA)(pos:Ξ):Prop where
 len:c.ce.length=pos.length
 id: ∀ j,j<pos.length -> c.ce.getD j 0=(j:Int)
 g:L5 q.nb
 gl:q.nb.length=pos.length
 l0:0<pos.length
 l1:pos.length<=256
 nz: ∀ j,j<pos.length -> Bt (pos.getD j 0)/\ pos.getD j 0≠0
def pB (c:AC)(pos:Ξ):Ω:=pos.map λx=>bits .and .i64 x c.set != 0
def cB (c:AC)(pos:Ξ):Ω:=pos.map λx=>bits .andNot .i64 x c.set==0
theorem GH:(pB c pos).length=pos.length:=zJu _
theorem HG:(cB c pos).length=pos.length:=zJu _
variable {j:Nat}
theorem WL (hj:j<pos.length):(pB c pos).getD j false=(bits .and .i64 (pos.getD j 0) c.set != 0):=by
 grind [pB]
theorem YN (hj:j<pos.length):(cB c pos).getD j false=(bits .andNot .i64 (pos.getD j 0) c.set==0):=by
 grind [cB]
def E9.cp (W:E9 c q pos)(i:j<pos.length)(h:(cB c pos).getD j false=true):(pB c pos).getD j false=true:=by
 rw [YN i,zH2] at h;rw [WL i,zMb];obtain ⟨d,e⟩:=W.nz j i;obtain ⟨s,l,a⟩:=(GC d).1 e;have b:=(MA (Dh .andNot _ _)).1 h s l;rw [HN,a,zMB,Bool.not_eq_false'] at b;exact (GC (Dh .and _ _)).2 ⟨s,l,by rw [FE,a,b];rfl⟩
def CF (pos lost:Ξ)(D:Nat -> Ψ)(l:Ξ):Prop:= (l.length=pos.length/\ ∀ j,Bt (l.getD j 0))/\ ∀ j s,tb (l.getD j 0) s=true↔tb (lost.getD j 0) s=true∨(j<pos.length/\ tb (pos.getD j 0) s=true/\ D j s)
variable {l l':Ξ}{D:Nat -> Ψ}
theorem CF.unique (h:CF pos lost D l)(h':CF pos lost D l'):l=l':=by
 have e:l.length=l'.length:=h.1.1.trans h'.1.1.symm;refine zNh e λj a b=>?_
 have B:l.getD j 0=l[j]:=by simp [a]
 have F:l'.getD j 0=l'[j]:=by simp [b]
 rw [←B,←F];refine Hw (h.1.2 j) (h'.1.2 j) λs _=>?_
 grind [CF]
theorem CF.by (W:E9 c q pos)(h:CF pos lost D l):B3 c pos lost c.ce.length D l:=by
 refine ⟨h.1.1,λj s=>?_⟩;have hl:=W.len;rw [h.2];constructor
 ·rintro (b | ⟨b,d,f⟩)
  ·exact .inl b
  ·have e:=W.id j b
   grind [AP]
 ·rintro (b | ⟨a,b,d,f,h4⟩)
  ·exact .inl b
  ·have e:=W.id a Z2
   grind [AP]
variable {D':Nat -> Ψ}
theorem CF.step (h:CF pos lost D l)(hl:l'.length=pos.length)(CT: ∀ j,Bt (l'.getD j 0)){E:Nat -> Ψ}(h1: ∀ j s,tb (l'.getD j 0) s=true↔tb (l.getD j 0) s=true∨(j<pos.length/\ tb (pos.getD j 0) s=true/\ E j s)) 
 (hD: ∀ j s,j<pos.length -> tb (pos.getD j 0) s=true -> (D' j s↔D j s∨E j s)):CF pos lost D' l':=by
 grind [CF]
def CF.id' (h:CF pos lost D l)(k: ∀ j s,j<pos.length -> tb (pos.getD j 0) s=true -> (D' j s↔D j s)):CF pos lost D' l:=
 h.step (E:=λ_ _=>False) h.1.1 h.1.2 (λj s=>Z3) λj s a b=>by rw [k j s a b,or_false]
variable {cell:Int}
theorem CF.lose (h:CF pos lost D l){ss:Int}(h0:0<=cell)(a:cell<(pos.length:Int))(k: ∀ j s,j<pos.length -> tb (pos.getD j 0) s=true -> (D' j s↔D j s∨((j:Int)=cell/\ tb ss s=true))):
 ∃ l',(∀ n,D5 n cell ss c q pos pos.length l=some l')/\ CF pos lost D' l':=by
 obtain ⟨l',e,b,d,h4⟩:=wR (ss:=ss) (c:=c) (q:=q) h0 a h.1.1 h.1.2;refine ⟨l',e,h.step b d (E:=λj s=>(j:Int)=cell/\ tb ss s=true) (λj s=>?_) k⟩
 grind
theorem CF.only (h:CF pos lost D l)(h0:0<=cell)(a:cell<(pos.length:Int))(k: ∀ j s,j<pos.length -> tb (pos.getD j 0) s=true -> (D' j s↔D j s∨((j:Int)=cell/\ tb c.set s=false))):
 ∃ l',(∀ n,Hg n cell c q pos pos.length l=some l')/\ CF pos lost D' l':=by
 obtain ⟨l',e,b,d,h4⟩:=jy (c:=c) (q:=q) h0 a h.1.1 h.1.2;refine ⟨l',e,h.step b d (E:=λj s=>(j:Int)=cell/\ tb c.set s=false) (λj s=>?_) k⟩
 grind
def DG (l:Ω)(r:Int):Prop:=(r= -1/\ ∀ j,j<l.length -> l.getD j false=false)∨(0<=r/\ r<(l.length:Int)/\ l.getD r.toNat false=true/\ ∀ j:Nat,(j:Int)<r -> l.getD j false=false)
theorem dH {l:Ω}(hl:l.length<=256): ∃ r,Ev (λn=>dJ n l true) r/\ DG l r:=by
 have key: ∀ (k i:Nat),i+k=l.length -> (∀ j,j<i -> l.getD j false=false) -> ∃ r,Ev (λn=>Ob l true n (.l1 (i:Int))) r/\ DG l r:=by
  intro k
  induction k with
  | zero=>
   intro i e h;refine ⟨-1,⟨1,λn u=>?_⟩,.inl ⟨rfl,λj a=>h j Z2⟩⟩;obtain ⟨n,rfl⟩: ∃ k,n=k+1:=⟨n-1,Z2⟩
   simp_all [dG,Ob]
  | succ k b=>
   intro i e h
   have U: ∀ n,Ob l true (n+1) (.l1 (i:Int))=bif l.getD i false then some (i:Int) else Ob l true n (.l1 ((i:Int)+1)):=λn=>by
    show dG n (Ob l true n) l true (i:Int)=_
    unfold dG;rw [zAC Z2,zAG,zAE ⟨Z2,Z2⟩,u8,zAE (Aa.2 ⟨Z2,Z2⟩)];cases l.getD i false <;> rfl
   cases hi:l.getD i false
   ·obtain ⟨r,c,d⟩:=b (i+1) Z2 λj a=>by
     grind
    refine ⟨r,Ev.step 1 (λn=>?_) c,d⟩;rw [U,hi,zAz];rfl
   ·refine ⟨(i:Int),⟨1,λn u=>?_⟩,.inr ⟨Z2,Z2,Z4,λj a=>h j Z2⟩⟩;obtain ⟨n,rfl⟩: ∃ k,n=k+1:=⟨n-1,Z2⟩
    grind
 exact key l.length 0 Z2 λj a=>absurd a (zA6 j)
theorem nf {l l':Ω}(h:l.length=l'.length)(h2: ∀ j,j<l.length -> l.getD j false=l'.getD j false):l=l':=by
 grind [List.ext_getElem]
theorem UV {l:Ω}{i:Nat}{b:Bool}(hi:i<l.length):(l.set i b).getD j false=if j=i then b else l.getD j false:=by
 grind
def Df (c:AC)(q:AA)(pos:Ξ)(a s:Nat):Prop:=(pB c pos).getD a false=true/\ tb c.set s=true/\ ∃ r:Int,0<=r/\ DG (cB c pos) r/\ ¬ Rc q.nb (pB c pos) r a
variable {r:Int}
theorem DG.uniq {l:Ω}{F:Int}(h:DG l r)(h':DG l F):r=F:=by
 grind [DG]
theorem pZ (G:L5 q.nb)(hB:(pB c pos).length=q.nb.length)(FP:0<=r)(hF:DG (cB c pos) r){s:Nat}:Df c q pos j s↔(pB c pos).getD j false=true/\ tb c.set s=true/\ ¬ Rc q.nb (pB c pos) r j:=by
 grind [Df,DG]
def Re (c:AC)(q:AA)(pos lost:Ξ)(r:Int)(x:Ω×Ω×Bool×Ξ):Prop:=x.1=pB c pos/\ x.2.1=cB c pos/\ x.2.2.1=decide (0<=r)/\ CF pos lost (Df c q pos) x.2.2.2
theorem Re.uniq (x y:Ω×Ω×Bool×Ξ)(h:Re c q pos lost r x)(h':Re c q pos lost r y):x=y:=by
 obtain ⟨x1,x2,x3,I⟩:=x;obtain ⟨y1,y2,y3,m⟩:=y;obtain ⟨h1,h2,h3,A⟩:=h;obtain ⟨XU,h2',h3',L⟩:=h';have e4:I=m:=A.unique L
 grind
theorem zIA {n:Nat}(W:E9 c q pos)(o:CF pos lost (λ_ _=>False) lost)(C:0<=r)(p:DG (cB c pos) r){near:Ξ}(hn:near.length<=256)(l: ∀ v,v∈near↔Rc q.nb (pB c pos) r v)(KX:600<=n):
 ∃ x,Fe c q pos pos.length lost n (.l2 (pB c pos) (pB c pos).length near (near.length:Int) 0 (cB c pos) (pB c pos))=some x/\ Re c q pos lost r x:=by
 have In:=W.l1;have t:=W.gl
 have u:r<(q.nb.length:Int):=by
  grind [DG,cB]
 have B: ∀ v∈near,0<=v/\ v<(pos.length:Int):=λv w=>by
  have:=((l v).1 w).rng W.g.gr C u;omega
 have S:=Ii (λn (a:Ω) i=>Fe c q pos pos.length lost n (.l2 (pB c pos) (pB c pos).length near (near.length:Int) i (cB c pos) a)) near.length (pos.length+3)
  (λi a=>a.length=pos.length/\ ∀ j:Nat,a.getD j false=true↔(pB c pos).getD j false=true/\ (j:Int)∉near.take i) (λn i a F hi b=>?_) (n:=n) (s:=pB c pos) Z2 ⟨GH,λj=>Z3⟩
 ·obtain ⟨E,a,Hl,_,y,mY,L⟩:=S;obtain ⟨V,rfl⟩: ∃ V,E=V+1:=⟨E-1,Z2⟩;rw [List.take_length] at L
  have T:=Ii (λn (o1:Ξ) i=>Fe c q pos pos.length lost n (.l3 (pB c pos) (pB c pos).length ((pB c pos).length:Int) i o1 (cB c pos) a)) pos.length 1
   (λi o1=>CF pos lost (λj s=>j<i/\ Df c q pos j s) o1) (λn i o1 F hi b=>?_) (n:=V) (s:=lost) Z2 (o.id' λj s _ _=>⟨λh=>absurd h.1 (zA6 j),λh=>h.elim⟩)
  ·obtain ⟨A,o1,Ol,_,e2,z⟩:=T;obtain ⟨m,rfl⟩: ∃ m,A=m+1:=⟨A-1,Z2⟩;refine ⟨(pB c pos,cB c pos,true,o1),?_,rfl,rfl,(zAC C).symm,z.id' λj s f _=>⟨λh=>⟨f,h⟩,λh=>h.2⟩⟩;refine Eq.trans y ?_
   show WU V (Fe c q pos pos.length lost V) c q pos pos.length lost (pB c pos) (pB c pos).length near (near.length:Int) (near.length:Int) (cB c pos) a=_
   unfold WU
   simp_all [cI,Fe,cB,GH]
  ·show ∃ D,cI n (Fe c q pos pos.length lost n) c q pos pos.length lost (pB c pos) (pB c pos).length ((pB c pos).length:Int) (i:Int) o1 (cB c pos) a=_/\ _
   unfold cI;simp only [u8,zJv];have G:AG ((i:Int)+1):=Aa.2 ⟨Z2,Z2⟩;rw [GH,zAC Z2,zAG,zAE ⟨⟨Z2,Z2⟩,Z2⟩];have XJ:a.getD i false=true↔(pB c pos).getD i false=true/\ ¬ Rc q.nb (pB c pos) r i:=by rw [L,l]
   cases O:a.getD i false
   ·rw [zAz,zAE G];refine ⟨o1,rfl,b.id' λj s f _=>⟨λh=>⟨?_,h.2⟩,λh=>⟨Z2,h.2⟩⟩⟩;rcases zIR.1 h.1 with k | rfl
    ·exact k
    ·have d:=(pZ W.g (by rw [GH];exact t.symm) C p).1 h.2
     grind
   ·obtain ⟨l',e,d⟩:=b.lose (c:=c) (q:=q) (D':=λj s=>j<i+1/\ Df c q pos j s) (cell:=(i:Int)) (ss:=c.set) Z2 Z2 λj s f _=>by
     constructor
     ·grind [Df]
     ·rintro (⟨k,d⟩ | ⟨k,d⟩)
      ·exact ⟨Z2,d⟩
      ·obtain rfl:j=i:=Z2
       grind [Df]
    grind
 ·obtain ⟨hl,O⟩:=b;have H:near.getD i 0∈near:=Z4
  have I:=B _ H
  show ∃ D,WU n (Fe c q pos pos.length lost n) c q pos pos.length lost (pB c pos) (pB c pos).length near (near.length:Int) (i:Int) (cB c pos) a=_/\ _
  unfold WU;simp only [u8,zJv];rw [GH,zAC Z2,zAG,zAE ⟨⟨Z2,Z2⟩,I,Z2,Aa.2 ⟨Z2,Z2⟩⟩];refine ⟨_,rfl,Z4,λj=>?_⟩
  have e3:near.take (i+1)=near.take i++[near.getD i 0]:=by
   simp_all
  grind [UV,pB,cB]
theorem vp (W:E9 c q pos)(f:CF pos lost (λ_ _=>False) lost)(S:DG (cB c pos) r):
 ∃ l,Ev (λn=>QH n c q pos pos.length lost) (pB c pos,cB c pos,decide (0<=r),l)/\ CF pos lost (Df c q pos) l:=by
 have y:=W.l1;have B:=W.gl;have Ag:=W.len;have L:(1000000000000:Nat)=Av:=rfl
 suffices H:AZ (λn=>QH n c q pos pos.length lost) (Re c q pos lost r) by
  obtain ⟨x,a,d⟩:=H.ev Re.uniq
  grind [Re]
 have first: ∀ n,Fe c q pos pos.length lost (n+c.ce.length) (.l1 0 (List.replicate pos.length false) (List.replicate pos.length false))=Fe c q pos pos.length lost n (.l1 (c.ce.length:Int) (pB c pos) (cB c pos)):=λn=>by
  have z: ∀ j:Nat,(List.replicate pos.length false).getD j false=false:=λj=>by
   grind
  obtain ⟨D,e,a,d,k,A⟩:=cS (λn (s:Ω×Ω) i=>Fe c q pos pos.length lost n (.l1 i s.1 s.2)) c.ce.length 0
   (λi s=>s.1.length=pos.length/\ s.2.length=pos.length/\ (∀ j,s.1.getD j false=if j<i then (pB c pos).getD j false else false)/\ (∀ j,s.2.getD j false=if j<i then (cB c pos).getD j false else false))
   (λn i s _ hi F=>by
    obtain ⟨E,m⟩:=s;obtain ⟨a,d,k,A⟩:=F;have a:E.length=pos.length:=a;have d:m.length=pos.length:=d;have hid:=W.id i Z2
    show ∃ D,cJ n (Fe c q pos pos.length lost n) c q pos pos.length lost (i:Int) E m=_/\ _
    unfold cJ;simp only [u8,zJv,hid];rw [zAC Z2,zAG,zAE ⟨⟨Z2,Z2⟩,⟨Z2,Z2⟩,Z2,Z2,Aa.2 ⟨Z2,Z2⟩⟩];refine ⟨(_,_),rfl,Z4,Z4,λj=>?_,λj=>?_⟩
    ·show (E.set i _).getD j false=_
     rw [UV Z2]
     grind [pB]
    grind [cB,DG])
   c.ce.length 0 n (List.replicate pos.length false,List.replicate pos.length false) Z2 Z2 ⟨zKM,zKM,λj=>Z4,λj=>Z4⟩
  grind [nf,GH,HG]
 have start: ∀ n,QH n c q pos pos.length lost=Fe c q pos pos.length lost n (.l1 0 (List.replicate pos.length false) (List.replicate pos.length false)):=λn=>by
  grind [QH,vt]
 refine AZ.eq (AZ.step (c.ce.length+1) (g:=λn=>(dJ n (cB c pos) true).bind λo=>bif (decide (o<0)) then (if pos.length=(pB c pos).length then some (pB c pos,cB c pos,false,lost) else none) else (if pos.length=(pB c pos).length then (RD n (pB c pos)).bind λt=>(UM n q.nb (pB c pos) o).bind λy3=>Fe c q pos pos.length lost n (.l2 (pB c pos) t.length y3.1 (y3.1.length:Int) 0 (cB c pos) t) else none)) (λn=>?_) ?_) start
 ·rw [show n+(c.ce.length+1)=n+1+c.ce.length by omega,first]
  simp_all [cJ,Fe,cB]
 ·obtain ⟨G,a,d⟩:=dH (l:=cB c pos) (by rw [HG];exact y);obtain rfl:=S.uniq d;refine AZ.bind a ?_
  by_cases C:0<=r
  ·have Bl: ∀ n,RD n (pB c pos)=some (pB c pos):=λn=>by
    grind [RD,n6,pB,DG,cB]
   obtain ⟨Tk,u⟩:r<(pos.length:Int)/\ (cB c pos).getD r.toNat false=true:=by
    grind [cB,DG]
   have v:=W.cp Z2 u;refine AZ.eq (AZ.bindU (zOL W.g (by rw [GH];exact B.symm) C Z2 v) (b:=λn y3=>Fe c q pos pos.length lost n (.l2 (pB c pos) (pB c pos).length y3.1 (y3.1.length:Int) 0 (cB c pos) (pB c pos))) ⟨600,λn I x w=>zIA W f C S w.2.1 w.2.2 I⟩) λn=>?_
   simp_all [zAF,pB]
  ·refine Ev.p (r:=(pB c pos,cB c pos,false,lost)) (Ev.now λn=>?_) ⟨rfl,rfl,(zAF C).symm,f.id' λj s _ _=>⟨λh=>?_,λh=>h.elim⟩⟩
   ·simp_all [pB]
   ·obtain ⟨_,_,G,k,A,_⟩:=h
    grind [DG]
def Gn (c:AC)(q:AA)(pos:Ξ)(a s:Nat):Prop:=Df c q pos a s∨((pB c pos).getD a false=true/\ (cB c pos).getD a false=false/\ Sp q.nb (pB c pos) (cB c pos) (a:Int)/\ tb c.set s=false)
theorem zOE (W:E9 c q pos)(D:CF pos lost (λ_ _=>False) lost): ∃ l,Ev (λn=>fJ n c q pos pos.length lost) (true,l)/\ CF pos lost (Gn c q pos) l:=by
 have E:=W.l1;have t:=W.gl;obtain ⟨r,_,S⟩:=dH (l:=cB c pos) (by rw [HG];exact E);obtain ⟨l0,G,I⟩:=vp W D S
 suffices H:AZ (λn=>O9 c q pos pos.length lost n (.l1 (pB c pos) (cB c pos) (decide (0<=r)) ((pB c pos).length:Int) 0 l0)) (λx=>x.1=true/\ CF pos lost (Gn c q pos) x.2) by
  obtain ⟨x,⟨k,K⟩,L⟩:=(AZ.bind G (b:=λn d=>O9 c q pos pos.length lost n (.l1 d.1 d.2.1 d.2.2.1 (d.1.length:Int) 0 d.2.2.2)) H).ev λx y f hy=>by
   obtain ⟨u,J⟩:=x;obtain ⟨d,M⟩:=y;have B:u=true:=f.1;have m:d=true:=hy.1;have O:J=M:=f.2.unique hy.2;rw [B,m,O]
  obtain ⟨u,J⟩:=x;subst k;exact ⟨J,L,K⟩
 obtain ⟨N,P⟩:=AZ.range (F:=λ(i:Nat) n=>if (pB c pos).getD i false=true then SH n q.nb (pB c pos) (cB c pos) i else some (false,0)) (A:=λi x=>(pB c pos).getD i false=true -> x.2=0/\ (x.1=true↔Sp q.nb (pB c pos) (cB c pos) i)) pos.length λi hi=>by
  by_cases h:(pB c pos).getD i false=true
  ·refine ((zCA W.g (by rw [GH];exact t.symm) (by rw [HG];exact t.symm) (a:=i) Z2 h).mono λx f _=>f).eq λn=>?_
   rw [zAE h]
  simp_all [AZ]
 refine ⟨N+pos.length+1,λn hn=>?_⟩
 have T:=Ii (λn (o1:Ξ) i=>O9 c q pos pos.length lost n (.l1 (pB c pos) (cB c pos) (decide (0<=r)) ((pB c pos).length:Int) i o1)) pos.length (N+1)
  (λi o1=>CF pos lost (λa s=>Df c q pos a s∨(a<i/\ Gn c q pos a s)) o1) (λn i o1 GM hi v=>?_) (n:=n) (s:=l0) Z2 (I.id' λj s _ _=>⟨λh=>h.elim id λh=>absurd h.1 (zA6 j),.inl⟩)
 ·obtain ⟨w,o1,Ol,_,m,Q⟩:=T;obtain ⟨z,rfl⟩: ∃ z,w=z+1:=⟨w-1,Z2⟩;refine ⟨(true,o1),Eq.trans m ?_,rfl,Q.id' λj s o _=>⟨λh=>.inr ⟨o,h⟩,λh=>h.elim .inl λh=>h.2⟩⟩
  grind [fH,O9,GH]
 ·show ∃ s',fH n (O9 c q pos pos.length lost n) c q pos pos.length lost (pB c pos) (cB c pos) (decide (0<=r)) ((pB c pos).length:Int) (i:Int) o1=_/\ _
  unfold fH;simp only [u8];have R:AG ((i:Int)+1):=Aa.2 ⟨Z2,Z2⟩;have U:(pB c pos).length=pos.length:=GH;have V:(cB c pos).length=pos.length:=HG;rw [U,V,zAC (p:=(i:Int)<((pos.length:Nat):Int)) Z2,zAG]
  have skip:(∀ s,¬ ((pB c pos).getD i false=true/\ (cB c pos).getD i false=false/\ Sp q.nb (pB c pos) (cB c pos) (i:Int)/\ tb c.set s=false)) -> CF pos lost (λa s=>Df c q pos a s∨(a<i+1/\ Gn c q pos a s)) o1:=λMw=>v.id' λj s o _=>by
   grind [Gn]
  by_cases C:0<=r
  ·rw [zAC C,zLa,zAz,zAE ⟨Z2,Z2⟩];cases X:(pB c pos).getD i false
   ·grind
   ·cases hc:(cB c pos).getD i false
    ·obtain ⟨x,B,f⟩:=P n Z2 i hi;obtain ⟨_,f⟩:=f X;cases hb:x.1
     ·grind
     ·obtain ⟨l',e,k⟩:=v.only (c:=c) (q:=q) (D':=λa s=>Df c q pos a s∨(a<i+1/\ Gn c q pos a s)) (cell:=(i:Int)) Z2 Z2 λj s o _=>by
       constructor
       ·grind [Gn]
       ·rintro ((h | ⟨h,k⟩) | ⟨h,k⟩)
        ·exact .inl h
        ·exact .inr ⟨Z2,k⟩
        ·obtain rfl:j=i:=Z2
         grind [Gn]
      grind
    grind
  ·rw [zAF C,zLd,zAG,zAE R];refine ⟨o1,rfl,skip λs h=>?_⟩
   grind [DG,Sp]
def CE (g:List Ξ)(S:Ω)(v:Int):Nat:=(nb g v).countP λx=>S.getD x.toNat false
def QS (c:AC)(q:AA)(pos:Ξ):Prop:=∀ v,v<pos.length -> (cB c pos).getD v false=true -> 2<=CE q.nb (pB c pos) v/\ CE q.nb (cB c pos) v<=2
def OT (c:AC)(q:AA)(pos:Ξ)(v a s:Nat):Prop:=(cB c pos).getD v false=true/\ (a:Int)∈nb q.nb v/\ (pB c pos).getD a false=true/\ ((CE q.nb (pB c pos) v=2/\ tb c.set s=false)∨(CE q.nb (cB c pos) v=2/\ (cB c pos).getD a false=false/\ tb c.set s=true))
def Lc (c:AC)(q:AA)(pos:Ξ)(a s:Nat):Prop:=Df c q pos a s∨∃ v,v<pos.length/\ OT c q pos v a s
section
variable {P C:Ω} {o1:Ξ} {row:Ξ} {x20 x21:Int}
def OP (P:Ω)(E:Ξ)(v:Int):Ξ:=bif P.getD v.toNat false then E++[v] else E
def Mg (C:Ω)(x:Int)(v:Int):Int:=bif C.getD v.toNat false then x+1 else x
theorem vm: ∀ (l E:Ξ),l.foldl (OP P) E=E++l.filter λx=>P.getD x.toNat false
 | [],E=>Z3
 | v::l,E=>by
  rw [zLt,vm l];unfold OP
  grind
theorem wB: ∀ (l:Ξ) (x:Int),l.foldl (Mg C) x=x+(l.countP λx=>C.getD x.toNat false:Nat)
 | [],x=>Z3
 | v::l,x=>by
  rw [zLt,wB l];unfold Mg
  grind
def Jw (P C:Ω)(x20 x21:Int)(row o1 E:Ξ)(x8 j:Int):OV:=match E with
 | []=>.l2 P C x8 x20 x21 row (row.length:Int) j o1
 | a::l=>.l3 P C (a::l).length x8 x20 x21 row (row.length:Int) j o1 (a::l)
variable {x8:Int}{E:Ξ}
theorem rA {j:Int}(h:E≠[]):Jw P C x20 x21 row o1 E x8 j= .l3 P C E.length x8 x20 x21 row (row.length:Int) j o1 E:=by
 cases E with
 | nil=>exact absurd rfl h
 | cons a l=>rfl
variable {n:Nat}
theorem zIM {j:Nat}(hP:P.length=pos.length)(hC:C.length=pos.length)(b: ∀ u∈row,0<=u/\ u<(pos.length:Int))(hl:row.length<=256)(hj:j<row.length)(ho:E.length<=256)(h8:0<=x8/\ x8<=256):
 C2 c q pos pos.length lost (n+1) (Jw P C x20 x21 row o1 E x8 j)=C2 c q pos pos.length lost n (Jw P C x20 x21 row o1 (OP P E (row.getD j 0)) (Mg C x8 (row.getD j 0)) ((j:Int)+1)):=by
 have L:(1000000000000:Nat)=Av:=rfl;have d:row.getD j 0∈row:=Z4
 have KM:=b _ d;have r1:AG ((j:Int)+1):=Aa.2 ⟨Z2,Z2⟩;have r8:AG (x8+1):=Aa.2 ⟨Z2,Z2⟩;cases E with
 | nil=>
  show cP n (C2 c q pos pos.length lost n) c q pos pos.length lost P C x8 x20 x21 row (row.length:Int) (j:Int) o1=_
  unfold cP OP Mg
  grind [Jw]
 | cons a l=>
  grind [OP,rA,cO,C2,Mg]
theorem vz (p:P.length=pos.length)(U:C.length=pos.length)(a: ∀ u∈row,0<=u/\ u<(pos.length:Int))(o:row.length<=256): ∀ (k j n:Nat) (E:Ξ) (x8:Int),j+k=row.length -> E.length<=j -> 0<=x8/\ x8<=(j:Int) ->
 C2 c q pos pos.length lost (n+k) (Jw P C x20 x21 row o1 E x8 j)=C2 c q pos pos.length lost n (Jw P C x20 x21 row o1 ((row.drop j).foldl (OP P) E) ((row.drop j).foldl (Mg C) x8) (row.length:Int))
 | 0,j,n,E,x8,e,_,_=>by
  grind
 | k+1,j,n,E,x8,e,h2,h8=>by
  have i:j<row.length:=Z2
  have F:row.drop j=row.getD j 0::row.drop (j+1):=by
   simp_all
  rw [←zQP,zIM p U a o i Z2 Z2,F,zLt,zLt]
  have h:(OP P E (row.getD j 0)).length<=j+1:=by
   unfold OP
   grind
  have A:0<=Mg C x8 (row.getD j 0)/\ Mg C x8 (row.getD j 0)<=((j+1:Nat):Int):=by
   unfold Mg
   grind
  exact vz p U a o k (j+1) n _ _ Z2 h A
theorem zAc {D:Nat -> Ψ}{near:Ξ}{v:Nat}(W:E9 c q pos)(k:CF pos lost D o1)(C: ∀ u∈near,0<=u/\ u<(pos.length:Int))(Ok:near.length<=256)(hv:v<pos.length):
 ∃ l',C2 c q pos pos.length lost (n+1+near.length) (.l4 (pB c pos) (cB c pos) near.length x8 x20 (v:Int) near.length (near.length:Int) 0 o1 near)=C2 c q pos pos.length lost n (.l1 (pB c pos) (cB c pos) x20 ((v:Int)+1) l')/\
  CF pos lost (λa s=>D a s∨((a:Int)∈near/\ ((near.length=2/\ tb c.set s=false)∨(x8=2/\ (cB c pos).getD a false=false/\ tb c.set s=true)))) l':=by
 have In:=W.l1;have lc:(cB c pos).length=pos.length:=HG
 obtain ⟨l',e,h⟩:=cS (λn (s:Ξ) i=>C2 c q pos pos.length lost n (.l4 (pB c pos) (cB c pos) near.length x8 x20 (v:Int) near.length (near.length:Int) i s near)) near.length 0
  (λi s=>CF pos lost (λa t=>D a t∨((a:Int)∈near.take i/\ ((near.length=2/\ tb c.set t=false)∨(x8=2/\ (cB c pos).getD a false=false/\ tb c.set t=true)))) s)
  (λn i s _ hi d=>by
   have f:near.getD i 0∈near:=Z4
   have p:=C _ f
   have e3:near.take (i+1)=near.take i++[near.getD i 0]:=by
    simp_all
   have r:AG ((i:Int)+1):=Aa.2 ⟨Z2,Z2⟩;have mem: ∀ a:Nat,(a:Int)∈near.take (i+1)↔(a:Int)∈near.take i∨(a:Int)=near.getD i 0:=λa=>Z4
   obtain ⟨l2,g,x⟩:=d.only (c:=c) (q:=q) (cell:=near.getD i 0) p.1 p.2 (D':=λa t=>(D a t∨((a:Int)∈near.take i/\ ((near.length=2/\ tb c.set t=false)∨(x8=2/\ (cB c pos).getD a false=false/\ tb c.set t=true))))∨((a:Int)=near.getD i 0/\ tb c.set t=false)) λj s _ _=>Iff.rfl
   obtain ⟨l3,T,hL3⟩:=x.lose (c:=c) (q:=q) (cell:=near.getD i 0) (ss:=c.set) p.1 p.2 (D':=λa t=>((D a t∨((a:Int)∈near.take i/\ ((near.length=2/\ tb c.set t=false)∨(x8=2/\ (cB c pos).getD a false=false/\ tb c.set t=true))))∨((a:Int)=near.getD i 0/\ tb c.set t=false))∨((a:Int)=near.getD i 0/\ tb c.set t=true)) λj s _ _=>Iff.rfl
   obtain ⟨l4,F,m8⟩:=d.lose (c:=c) (q:=q) (cell:=near.getD i 0) (ss:=c.set) p.1 p.2 (D':=λa t=>(D a t∨((a:Int)∈near.take i/\ ((near.length=2/\ tb c.set t=false)∨(x8=2/\ (cB c pos).getD a false=false/\ tb c.set t=true))))∨((a:Int)=near.getD i 0/\ tb c.set t=true)) λj s _ _=>Iff.rfl
   show ∃ s',Wc n (C2 c q pos pos.length lost n) c q pos pos.length lost (pB c pos) (cB c pos) near.length x8 x20 (v:Int) near.length (near.length:Int) (i:Int) s near=_/\ _
   unfold Wc;simp only [u8,zJv];rw [zAC Z2,zAG,zAE ⟨⟨Z2,Z2⟩,hi⟩];have Dx: ∀ a:Nat,(a:Int)=near.getD i 0 -> (near.getD i 0).toNat=a:=λa h=>Z2
   by_cases m:near.length=2
   ·have b:(((near.length:Nat):Int)==2)=true:=by rw [m];rfl
    rw [b,zAG,g,zAB]
    by_cases l:x8=2
    ·have B:(x8==2)=true:=by rw [l];rfl
     rw [B,zAG,zAE ⟨Z2,Z2⟩];cases o:(cB c pos).getD (near.getD i 0).toNat false
     ·rw [zLd,zAG,T,zAB,zAE r]
      grind [CF]
     ·rw [zLa,zAz,zAE r]
      grind [CF]
    ·have B:(x8==2)=false:=zJ8.2 l;rw [B,zAz,zAE r]
     grind [CF]
   ·have b:(((near.length:Nat):Int)==2)=false:=zJ8.2 Z2;rw [b,zAz]
    by_cases l:x8=2
    ·have B:(x8==2)=true:=by rw [l];rfl
     rw [B,zAG,zAE ⟨Z2,Z2⟩];cases o:(cB c pos).getD (near.getD i 0).toNat false
     ·rw [zLd,zAG,F,zAB,zAE r]
      grind [CF]
     ·rw [zLa,zAz,zAE r]
      grind [CF]
    ·have B:(x8==2)=false:=zJ8.2 l;rw [B,zAz,zAE r]
     grind [CF])
  near.length 0 (n+1) o1 Z2 Z2 (k.id' λa t _ _=>Z3)
 refine ⟨l',Eq.trans e ?_,h.id' λa t _ _=>by rw [List.take_length]⟩
 show Wc n (C2 c q pos pos.length lost n) c q pos pos.length lost (pB c pos) (cB c pos) near.length x8 x20 (v:Int) near.length (near.length:Int) (near.length:Int) l' near=_
 unfold Wc;rw [zAF Z2,zAz,zAE (Aa.2 ⟨Z2,Z2⟩)]
end
def pG (c:AC)(q:AA)(pos lost:Ξ)(x:Bool×Ξ):Prop:=(x.1=true↔QS c q pos)/\ (x.1=true -> CF pos lost (Lc c q pos) x.2)
theorem zIh (W:E9 c q pos): ∀ (k v:Nat) (o1:Ξ),v+k=pos.length -> (∀ u,u<v -> (cB c pos).getD u false=true -> 2<=CE q.nb (pB c pos) u/\ CE q.nb (cB c pos) u<=2) -> CF pos lost (λa s=>Df c q pos a s∨∃ u,u<v/\ OT c q pos u a s) o1 ->
 AZ (λn=>C2 c q pos pos.length lost n (.l1 (pB c pos) (cB c pos) (pos.length:Int) (v:Int) o1)) (pG c q pos lost):=by
 have In:=W.l1;have Hm:=W.gl;have G:(pB c pos).length=pos.length:=GH;have H:(cB c pos).length=pos.length:=HG;intro k
 induction k with
 | zero=>
  intro v o1 e f j;subst e;refine Ev.p (r:=(true,o1)) ⟨1,λn I=>?_⟩ ⟨⟨λ_ v b d=>f v b d,λ_=>rfl⟩,λ_=>j⟩;obtain ⟨n,rfl⟩: ∃ k,n=k+1:=⟨n-1,Z2⟩
  simp_all [cQ,C2]
 | succ k i=>
  intro v o1 e f j;have b:v<pos.length:=Z2
  have r1:AG ((v:Int)+1):=Aa.2 ⟨Z2,Z2⟩
  have U: ∀ n,C2 c q pos pos.length lost (n+1) (.l1 (pB c pos) (cB c pos) (pos.length:Int) (v:Int) o1)=bif (cB c pos).getD v false then C2 c q pos pos.length lost n (Jw (pB c pos) (cB c pos) (pos.length:Int) (v:Int) (nb q.nb v) o1 [] 0 0) else C2 c q pos pos.length lost n (.l1 (pB c pos) (cB c pos) (pos.length:Int) ((v:Int)+1) o1):=λn=>by
   show cQ n (C2 c q pos pos.length lost n) c q pos pos.length lost (pB c pos) (cB c pos) (pos.length:Int) (v:Int) o1=_
   unfold cQ
   simp_all [Jw,nb]
  cases d:(cB c pos).getD v false
  ·refine AZ.step 1 (λn=>?_) (i (v+1) o1 Z2 (λu t z=>?_) (j.id' λa s _ _=>?_))
   ·rw [U,d,zAz];rfl
   ·grind
   ·constructor
    ·rintro (h | ⟨u,t,h⟩)
     ·exact .inl h
     grind [OT]
    ·rintro (h | ⟨u,t,h⟩)
     ·exact .inl h
     grind
  ·have J:=W.g.gr.row (v:Int) Z2 Z2
   have m: ∀ u∈nb q.nb (v:Int),0<=u/\ u<(pos.length:Int):=λu t=>by
    have:=W.g.gr.rng (v:Int) Z2 Z2 u t;omega
   have A:=λn=>vz (c:=c) (q:=q) (lost:=lost) (o1:=o1) (x20:=(pos.length:Int)) (x21:=(v:Int)) G H m J (nb q.nb v).length 0 n [] 0 Z2 Z3 ⟨zJB _,Z2⟩
   rw [zQF,vm,wB,zLn,Int.zero_add] at A;have K:CE q.nb (pB c pos) v=((nb q.nb v).filter λx=>(pB c pos).getD x.toNat false).length:=zPk;have M:CE q.nb (cB c pos) v=(nb q.nb v).countP λx=>(cB c pos).getD x.toNat false:=rfl
   rw [←M] at A
   generalize mK:((nb q.nb v).filter λx=>(pB c pos).getD x.toNat false)=near at A K
   have R: ∀ u,u∈near↔u∈nb q.nb v/\ (pB c pos).getD u.toNat false=true:=λu=>Z4
   have o:near.length<=256:=by
    grind
   have C: ∀ u∈near,0<=u/\ u<(pos.length:Int):=λu t=>m u ((R u).1 t).1
   have L: ∀ n,C2 c q pos pos.length lost (n+((nb q.nb v).length+1)) (.l1 (pB c pos) (cB c pos) (pos.length:Int) (v:Int) o1)=C2 c q pos pos.length lost n (Jw (pB c pos) (cB c pos) (pos.length:Int) (v:Int) (nb q.nb v) o1 near (CE q.nb (cB c pos) v:Int) ((nb q.nb v).length:Int)):=λn=>by
    grind
   refine AZ.step _ L ?_
   by_cases hbad:CE q.nb (pB c pos) v<2∨2<CE q.nb (cB c pos) v
   ·have N: ¬ QS c q pos:=λh=>by have:=h v b d;omega
    refine Ev.p (r:=(false,o1)) ⟨1,λn I=>?_⟩ ⟨⟨λh=>(by cases h),λh=>absurd h N⟩,λh=>(by cases h)⟩;obtain ⟨n,rfl⟩: ∃ k,n=k+1:=⟨n-1,Z2⟩;cases near with
    | nil=>
     grind [cP,C2,Jw]
    | cons a l=>
     grind [cO,C2,CE,nb,Jw]
   ·have Ah:near≠[]:=by
     grind
    obtain ⟨l',e4,y⟩:=zAc (c:=c) (q:=q) (lost:=lost) (o1:=o1) (near:=near) (x20:=(pos.length:Int)) (x8:=(CE q.nb (cB c pos) v:Int)) (n:=0) W j C o b;have O: ∀ n,∃ l',C2 c q pos pos.length lost (n+1+near.length) (.l4 (pB c pos) (cB c pos) near.length (CE q.nb (cB c pos) v:Int) (pos.length:Int) (v:Int) near.length (near.length:Int) 0 o1 near)=C2 c q pos pos.length lost n (.l1 (pB c pos) (cB c pos) (pos.length:Int) ((v:Int)+1) l')/\ _:=λn=>zAc (c:=c) (q:=q) (lost:=lost) (o1:=o1) (near:=near) (x20:=(pos.length:Int)) (x8:=(CE q.nb (cB c pos) v:Int)) (n:=n) W j C o b
    have X:=i (v+1) l' Z2 (λu t z=>by
     grind) (y.id' λa s _ _=>by
     constructor
     ·rintro (h | ⟨u,t,h⟩)
      ·exact .inl (.inl h)
      ·rcases zIR.1 t with t | rfl
       ·grind
       ·obtain ⟨w,D,E,F⟩:=h;refine .inr ⟨(R _).2 ⟨D,by simp_all⟩,?_⟩
        grind
     ·rintro ((h | ⟨u,t,h⟩) | ⟨w,D⟩)
      ·exact .inl h
      ·grind
      ·obtain ⟨E,F⟩:=(R _).1 w;refine .inr ⟨v,Z2,d,E,F,?_⟩
       grind)
    refine AZ.step (1+near.length+1) (g:=λn=>C2 c q pos pos.length lost n (.l1 (pB c pos) (cB c pos) (pos.length:Int) ((v:Int)+1) l')) (λn=>?_) X;obtain ⟨P,e6,B⟩:=O n;have:P=l':=B.unique y
    grind [rA,cO,C2]
theorem zIi (W:E9 c q pos)(j:CF pos lost (λ_ _=>False) lost):AZ (λn=>cR n c q pos pos.length lost) (pG c q pos lost):=by
 have d:=W.l1;obtain ⟨r,_,S⟩:=dH (l:=cB c pos) (by rw [HG];exact d);obtain ⟨l0,f,g⟩:=vp W j S;refine AZ.bind f (b:=λn e=>C2 c q pos pos.length lost n (.l1 e.1 e.2.1 (e.2.1.length:Int) 0 e.2.2.2)) ?_;have:=zIh (q:=q) W pos.length 0 l0 Z2 (λu t=>absurd t (zA6 u)) (g.id' λa s _ _=>⟨λh=>h.elim id λ⟨u,t,_⟩=>absurd t (zA6 u),.inl⟩)
 grind [HG]
end
section
set_option maxRecDepth 100000
set_option maxHeartbeats 40000000
def zDp:Ae (A0 Tryz.f99 6) [([0,1,2,3,4,5,6,7,8],9),([10],11)] [12] []:=Z0
def zDq:Ae (A0 Tryz.f99 13) [] (List.range 13) [13]:=Z0
def Eo:BF:=λi=>match i with
 | 6=>.ord [([0,1,2,3,4,5,6,7,8],9),([10],11)] [12] []
 | 13=>.ord [] (List.range 13) [13]
 | _=>.no
def zLE (q:AA)(pos:Ξ):DH:=[oC (AE q),oC [.cst .nilFunc,.fn 106 0 (L1 []),.fn 107 0 (L1 []),.fn 108 0 (L1 []),.fn 109 0 (L1 []),.fn 110 0 (L1 []),.fn 111 0 (L1 []),.fn 112 0 (L1 []),.fn 113 0 (L1 []),.fn 114 0 (L1 [])],oI (List.replicate pos.length (0:Int))]
def Mu (q:AA)(pos:Ξ)(i:Int):DH:=[oC (AE q),oC [.cst .nilFunc,.fn 106 0 (L1 []),.fn 107 0 (L1 []),.fn 108 0 (L1 []),.fn 109 0 (L1 []),.fn 110 0 (L1 []),.fn 111 0 (L1 []),.fn 112 0 (L1 []),.fn 113 0 (L1 []),.fn 114 0 (L1 [])],oI (List.replicate pos.length (0:Int)),oI (List.replicate pos.length (0:Int)),oC (AX (q.cons.getD i.toNat default)++AE q++[.ints pos,.msl 3 1 0 pos.length])]
def zLD (pos:Ξ)(q:AA)(i:Int)(E:Ξ):DH:=[oI (List.replicate pos.length (0:Int)),oC (AX (q.cons.getD i.toNat default)++AE q++[.ints pos,.msl 2 1 0 pos.length]),oI E]
def zLC (pos:Ξ)(q:AA)(i:Int)(E a:Ξ):DH:=[oI (List.replicate pos.length (0:Int)),oC (AX (q.cons.getD i.toNat default)++AE q++[.ints pos,.msl 2 1 0 pos.length]),oI E,oI a]
inductive WD where
 | l1 (o2:Ξ)
 | l2 (x10:Nat) (NV CL:Int) (o2 o3:Ξ)
def uq (n:Nat)(self:WD -> Option Ξ)(q:AA)(i:Int)(pos:Ξ)(E:Ξ):Option Ξ:= (fN n pos).bind λe=> self (.l2 e.length (e.length:Int) 0 E e)
def WC (n:Nat)(self:WD -> Option Ξ)(q:AA)(i:Int)(pos:Ξ)(x10:Nat)(C P:Int)(E a:Ξ):Option Ξ:= bif (decide (P<C)) then if (0<=P/\ P<(x10:Int))/\ 0+P.toNat<a.length/\ (0<=P/\ P<(pos.length:Int))/\ 0+P.toNat<E.length/\ AG (P+1) then self (.l2 x10 C (P+1) E (a.set (0+P.toNat) (bits .andNot .i64 (a.getD (0+P.toNat) 0) (E.getD (0+P.toNat) 0)))) else none else if x10=a.length then (G9 n a).bind λe=> bif e then if pos.length=(List.replicate pos.length (0:Int)).length then some (List.replicate pos.length (0:Int)) else none else some a else none
def jf (n:Nat)(self:WD -> Option Ξ)(q:AA)(i:Int)(pos:Ξ):Option Ξ:= if ((pos.length:Int):Int)=(pos.length:Int)/\ 0<=(pos.length:Int)/\ ((pos.length:Int):Int)<=1000000000000 then (G9 n pos).bind λe=> bif e then if pos.length=(List.replicate pos.length (0:Int)).length then some (List.replicate pos.length (0:Int)) else none else if 0<=i/\ i<(q.cons.length:Int) then bif (((q.cons.getD i.toNat default).kind)==0) then none else bif (((q.cons.getD i.toNat default).kind)==1) then (UJ n (q.cons.getD i.toNat default) q pos pos.length (List.replicate pos.length (0:Int))).bind λx=> bif (!x.1) then if pos.length=(List.replicate pos.length (0:Int)).length then some (List.replicate pos.length (0:Int)) else none else self (.l1 x.2) else bif (((q.cons.getD i.toNat default).kind)==2) then (UL n (q.cons.getD i.toNat default) q pos pos.length (List.replicate pos.length (0:Int))).bind λx=> bif (!x.1) then if pos.length=(List.replicate pos.length (0:Int)).length then some (List.replicate pos.length (0:Int)) else none else self (.l1 x.2) else bif (((q.cons.getD i.toNat default).kind)==3) then (SD n (q.cons.getD i.toNat default) q pos pos.length (List.replicate pos.length (0:Int))).bind λx=> bif (!x.1) then if pos.length=(List.replicate pos.length (0:Int)).length then some (List.replicate pos.length (0:Int)) else none else self (.l1 x.2) else bif (((q.cons.getD i.toNat default).kind)==4) then (Nw n (q.cons.getD i.toNat default) q pos pos.length (List.replicate pos.length (0:Int))).bind λx=> bif (!x.1) then if pos.length=(List.replicate pos.length (0:Int)).length then some (List.replicate pos.length (0:Int)) else none else self (.l1 x.2) else bif (((q.cons.getD i.toNat default).kind)==5) then (Sa n (q.cons.getD i.toNat default) q pos pos.length (List.replicate pos.length (0:Int))).bind λx=> bif (!x.1) then if pos.length=(List.replicate pos.length (0:Int)).length then some (List.replicate pos.length (0:Int)) else none else self (.l1 x.2) else bif (((q.cons.getD i.toNat default).kind)==6) then (RS n (q.cons.getD i.toNat default) q pos pos.length (List.replicate pos.length (0:Int))).bind λx=> bif (!x.1) then if pos.length=(List.replicate pos.length (0:Int)).length then some (List.replicate pos.length (0:Int)) else none else self (.l1 x.2) else bif (((q.cons.getD i.toNat default).kind)==7) then (QF n (q.cons.getD i.toNat default) q pos pos.length (List.replicate pos.length (0:Int))).bind λx=> bif (!x.1) then if pos.length=(List.replicate pos.length (0:Int)).length then some (List.replicate pos.length (0:Int)) else none else self (.l1 x.2) else bif (((q.cons.getD i.toNat default).kind)==8) then (fJ n (q.cons.getD i.toNat default) q pos pos.length (List.replicate pos.length (0:Int))).bind λx=> bif (!x.1) then if pos.length=(List.replicate pos.length (0:Int)).length then some (List.replicate pos.length (0:Int)) else none else self (.l1 x.2) else bif (((q.cons.getD i.toNat default).kind)==9) then (cR n (q.cons.getD i.toNat default) q pos pos.length (List.replicate pos.length (0:Int))).bind λx=> bif (!x.1) then if pos.length=(List.replicate pos.length (0:Int)).length then some (List.replicate pos.length (0:Int)) else none else self (.l1 x.2) else none else none else none
def KB (q:AA)(i:Int)(pos:Ξ):Nat -> WD -> Option Ξ
 | 0,_=>none
 | n+1,.l1 E=>uq n (KB q i pos n) q i pos E
 | n+1,.l2 x10 C P E a=>WC n (KB q i pos n) q i pos x10 C P E a
def LS (n:Nat)(q:AA)(i:Int)(pos:Ξ):Option Ξ:=jf n (KB q i pos n) q i pos
def zHC (n B:Nat)(N:Yd 0)(q:AA)(i:Int)(pos:Ξ)(r:Ξ):WD -> Prop:=px n B Fence.wide N (FQ Tryz.f99 0 (.ints r) []) (Ac Tryz.f99) λ
 | .l1 E=>(3,9,AH 69 [(2,.ints pos),(8,.msl 0 1 0 pos.length),(9,.ref 1 0)],[oI (List.replicate pos.length (0:Int)),oC (AX (q.cons.getD i.toNat default)++AE q++[.ints pos,.msl 2 1 0 pos.length]),oI E])
 | .l2 x10 C P E a=>(0,0,AH 69 [(8,.msl 0 1 0 pos.length),(9,.ref 1 0),(10,.msl 3 1 0 x10),(47,.i C),(48,.i P)],[oI (List.replicate pos.length (0:Int)),oC (AX (q.cons.getD i.toNat default)++AE q++[.ints pos,.msl 2 1 0 pos.length]),oI E,oI a])
def zHD (B:Nat)(N:Yd 0)(q:AA)(i:Int)(pos:Ξ):Al (KB q i pos) (zHC · B N q i pos):=ia (λ_=>rfl) λn w c r h=>by
 cases c
 case l1 o2=>
  revert r;apply gO;exact cn λe b=>jc (ES.snapNew (ds:=[.ints pos]) (zON b) (zLD pos q i o2) (oh Z5) rfl) (lN Eo [0,1,2,3] (w _ _ · n Nat.le.refl))
 case l2 x10 NV CL o2 o3=>
  intro m k;refine rd k λm k=>?_
  revert r;apply gO;exact bi 49 (jg zDq (gc (gn λW=>jg W (gc (gn λa=>jg a (gc (gi (gc (gi (jg W (jg a (gw 64 (lG (AJ 9 Eo) [0,1,2,3] (w _ _ · m k)))))))))))))) (gn λW=>cn λe b=>jc (sb [.msl 3 1 0 x10] (Qa b) (zLC pos q i o2 o3) ⟨Ax.ints rfl W,trivial⟩) (bi 66 (gn λa=>lF λp=>ez (AJ 9 Eo) [6] [0] p [0] (H0.g a)) (lF λp=>ez (AJ 9 Eo) [6] [3] p [0] (H0.g W))))
variable {pos:Ξ}{i:Int}{q:AA}{n:Nat}
def zHB {r:Ξ}(h:LS n q i pos=some r):EQ 99 [.agg 5 (L1 (AE q)),.i i,.ints pos] [] (.ints r) [] true:=by
 have w:=λB N=>(zHD B N q i pos n)
 refine ot Tryz.func99 λB N=>?_
 revert r;apply gO;exact jt (gn λW=>jg W (cf Qa (zLE q pos) λ_=>bi 18 (gn λj=>lF λp=>ez (AJ 9 Eo) [6] [2] p [0] (H0.g j)) (jg zDp (gi (jg W (bn (λl=>nO) (λl=>bn (λE=>jo 36 (AM.int (k:=.i64) (zLx E)) (jg (by decide:(0:Int)<=1/\ 1<((10:Nat):Int)) (ce zNu [4,3] (Mu q pos i) λ_=>bi 42 (gn λa=>lF λp=>ez (AJ 9 Eo) [6] [2] p [0] (H0.g a)) (lG (AJ 9 Eo) [2,4,3] ((w B N) _ _ ·))))) (λE=>bn (λP=>jo 36 (AM.int (k:=.i64) (zLx P)) (jg (by decide:(0:Int)<=2/\ 2<((10:Nat):Int)) (ce zN4 [4,3] (Mu q pos i) λ_=>bi 42 (gn λa=>lF λp=>ez (AJ 9 Eo) [6] [2] p [0] (H0.g a)) (lG (AJ 9 Eo) [2,4,3] ((w B N) _ _ ·))))) (λP=>bn (λD=>jo 36 (AM.int (k:=.i64) (zLx D)) (jg (by decide:(0:Int)<=3/\ 3<((10:Nat):Int)) (ce zB0 [4,3] (Mu q pos i) λ_=>bi 42 (gn λa=>lF λp=>ez (AJ 9 Eo) [6] [2] p [0] (H0.g a)) (lG (AJ 9 Eo) [2,4,3] ((w B N) _ _ ·))))) (λD=>bn (λc=>jo 36 (AM.int (k:=.i64) (zLx c)) (jg (by decide:(0:Int)<=4/\ 4<((10:Nat):Int)) (ce zFG [4,3] (Mu q pos i) λ_=>bi 42 (gn λa=>lF λp=>ez (AJ 9 Eo) [6] [2] p [0] (H0.g a)) (lG (AJ 9 Eo) [2,4,3] ((w B N) _ _ ·))))) (λc=>bn (λd=>jo 36 (AM.int (k:=.i64) (zLx d)) (jg (by decide:(0:Int)<=5/\ 5<((10:Nat):Int)) (ce zEb [4,3] (Mu q pos i) λ_=>bi 42 (gn λa=>lF λp=>ez (AJ 9 Eo) [6] [2] p [0] (H0.g a)) (lG (AJ 9 Eo) [2,4,3] ((w B N) _ _ ·))))) (λd=>bn (λe=>jo 36 (AM.int (k:=.i64) (zLx e)) (jg (by decide:(0:Int)<=6/\ 6<((10:Nat):Int)) (ce zPG [4,3] (Mu q pos i) λ_=>bi 42 (gn λa=>lF λp=>ez (AJ 9 Eo) [6] [2] p [0] (H0.g a)) (lG (AJ 9 Eo) [2,4,3] ((w B N) _ _ ·))))) (λe=>bn (λf=>jo 36 (AM.int (k:=.i64) (zLx f)) (jg (by decide:(0:Int)<=7/\ 7<((10:Nat):Int)) (ce zH6 [4,3] (Mu q pos i) λ_=>bi 42 (gn λa=>lF λp=>ez (AJ 9 Eo) [6] [2] p [0] (H0.g a)) (lG (AJ 9 Eo) [2,4,3] ((w B N) _ _ ·))))) (λf=>bn (λb=>jo 36 (AM.int (k:=.i64) (zLx b)) (jg (by decide:(0:Int)<=8/\ 8<((10:Nat):Int)) (ce zOF [4,3] (Mu q pos i) λ_=>bi 42 (gn λa=>lF λp=>ez (AJ 9 Eo) [6] [2] p [0] (H0.g a)) (lG (AJ 9 Eo) [2,4,3] ((w B N) _ _ ·))))) (λb=>bn (λG=>jo 36 (AM.int (k:=.i64) (zLx G)) (jg (by decide:(0:Int)<=9/\ 9<((10:Nat):Int)) (ce zIj [4,3] (Mu q pos i) λ_=>bi 42 (gn λa=>lF λp=>ez (AJ 9 Eo) [6] [2] p [0] (H0.g a)) (lG (AJ 9 Eo) [2,4,3] ((w B N) _ _ ·))))) (λG=>nO))))))))))))))))
def ut (n:Nat)(q:AA)(i:Int)(pos:Ξ):W6:= (UQ n q i pos).bind λe=> bif (e != 0) then some (([]:Ξ),e) else (LS n q i pos).bind λx=> some (x,0)
def P4 (n:Nat)(q:AA)(i:Int)(pos:Ξ):W6:=ut n q i pos
def us {r:Ξ×Int}(h:P4 n q i pos=some r):EQ 83 [.agg 5 (L1 (AE q)),.i i,.ints pos] [] (.tup 2 (L1 [.ints r.1,.i r.2])) [] true:=by
 unfold P4 ut at h;refine ot Tryz.func83 λB N=>?_
 revert r;apply gO;exact cf zOS [oC (AE q)] λe=>bi 14 (lF λp=>el AD [6,7] [] p [] H0 [.nils,.i e] (AM.tupL (l:=[.nils,.i e]) (l':=[.ints ([]:Ξ),.i e]) rfl ⟨AM.ints_nil,Ar,trivial⟩)) (cf zHB [oC (AE q)] λ_=>lE AD [6,7] [])
end
abbrev zMA:=@Bool.not_eq_true
section
def BJ (pos:Ξ):Bool:=pos.any (· ==0)
variable {pos:Ξ}
theorem Fh :BJ pos=false↔∀ j,j<pos.length -> pos.getD j 0≠0:=by
 unfold BJ;rw [List.any_eq_false];constructor
 ·simp_all
 ·intro h x d;obtain ⟨j,hj,rfl⟩:=zJ3 d
  grind
variable {n:Nat}
theorem zc (hl:pos.length<=LB)(u:pos.length<n):YA n pos=some (BJ pos):=by
 have hb:LB<=9223372036854775806:=Z6
 have key: ∀ (k i n:Nat),i+k=pos.length -> k+1<=n -> UK pos n (.l1 (i:Int))=some ((pos.drop i).any (· ==0)):=by
  intro k
  induction k with
  | zero=>
   intro i n e u;obtain ⟨n,rfl⟩: ∃ k,n=k+1:=⟨n-1,Z2⟩
   simp_all [fB,UK]
  | succ k ih=>
   intro i n e u;obtain ⟨n,rfl⟩: ∃ k,n=k+1:=⟨n-1,Z2⟩;have hi:i<pos.length:=Z2
   have F:pos.drop i=pos.getD i 0::pos.drop (i+1):=by
    simp_all
   show fB n (UK pos n) pos (i:Int)=_
   unfold fB;rw [zAC Z2,zAG,zAE ⟨Z2,Z2⟩,zAE (Aa.2 ⟨Z2,Z2⟩),u8,F,List.any_cons]
   grind
 grind [YA,zb,BJ]
theorem OY (hl:pos.length<=LB)(hn:pos.length<n):G9 n pos=some (BJ pos):=by
 grind [G9,kn,zc]
def posOk (q:AA)(pos:Ξ):Bool:=((pos.length:Int)==q.ce)&&pos.all λx=>decide (0<=x)&&decide (x<2 ^ q.sy.toNat)
def CB (q:AA)(pos:Ξ):Int:=if C4 q then (if posOk q pos then 0 else 250) else 191
section
variable {q:AA} {i:Int} {pos:Ξ} {n:Nat}
theorem jk (S:Cm q)(u:EU q<=n)(hl:pos.length<=LB)(IE:pos.length<n):Fd n q pos=some (CB q pos):=by
 have hb:LB<=9223372036854775806:=Z6
 unfold Fd u6 CB;rw [po S u,zAB];cases s:C4 q with
 | false=>rfl
 | true=>
  obtain ⟨_,l,_⟩:=Dl s;obtain ⟨C,p2,M⟩:=bS l.1 l.2
  show (bif ((pos.length:Int) != q.ce) then some 250 else P9 q pos n (.l1 0))=some (if posOk q pos=true then 0 else 250)
  unfold posOk
  by_cases G:(pos.length:Int)=q.ce
  ·have a:((pos.length:Int) != q.ce)=false:=by simpa using G
   have b:((pos.length:Int)==q.ce)=true:=by simpa using G
   rw [a,zAz,b,zMB]
   have key: ∀ (k i n:Nat),i+k=pos.length -> k+1<=n -> P9 q pos n (.l1 (i:Int))=some (if ((pos.drop i).all λx=>decide (0<=x)&&decide (x<2 ^ q.sy.toNat))=true then 0 else 250):=by
    intro k
    induction k with
    | zero=>
     intro i n e u;obtain ⟨n,rfl⟩: ∃ k,n=k+1:=⟨n-1,Z2⟩
     simp_all [bU,P9]
    | succ k c=>
     intro i n e u;obtain ⟨n,rfl⟩: ∃ k,n=k+1:=⟨n-1,Z2⟩;have hi:i<pos.length:=Z2
     have F:pos.drop i=pos.getD i 0::pos.drop (i+1):=by
      simp_all
     have:=c (i+1) n Z2 Z2
     show bU n (P9 q pos n) q pos (i:Int)=_
     unfold bU;rw [zAC Z2,zAG,zAE ⟨Z2,Z2⟩,zAE M,zAE (Aa.2 ⟨Z2,Z2⟩),u8,F,zPm,C]
     grind
   grind
  grind
def Lz (q:AA)(i:Int)(pos:Ξ):Int:=if (Mm q i).2=0 then CB q pos else (Mm q i).2
theorem zOT (hF:Cm q)(hn:EU q<=n)(hl:pos.length<=LB)(IE:pos.length<n):UQ n q i pos=some (Lz q i pos):=by
 grind [UQ,n8,Lz,kW,jk]
structure Bj (q:AA)(i:Int)(pos:Ξ):Prop where
 fit:Cm q
 valid:C4 q=true
 i0:0<=i
 i1:i<(q.cons.length:Int)
 pos:posOk q pos=true
def con (q:AA)(i:Int):AC:=q.cons.getD i.toNat default
theorem Bj.of (S:Cm q)(h:Lz q i pos=0):Bj q i pos:=by
 unfold Lz Mm CB at h
 by_cases s:C4 q=false
 ·grind
 ·rw [zEO s] at h;have s:C4 q=true:=by simpa using s
  by_cases hi:0<=i/\ i<(q.cons.length:Int)
  ·by_cases f:posOk q pos=true
   ·exact ⟨S,s,hi.1,hi.2,f⟩
   grind
  grind
def Bj.check (C:Bj q i pos):Lz q i pos=0:=by
 have a:Mm q i=(KL ((q.cons.getD i.toNat default).kind),0):=by
  unfold Mm;rw [zEO (by rw [C.valid];exact λh=>by cases h),zAE ⟨C.i0,C.i1⟩]
 unfold Lz CB;rw [a,zAE rfl,zAE C.valid,zAE C.pos]
theorem Bj.mem (C:Bj q i pos):con q i∈q.cons:=by
 have h:=C.i0;have h1:=C.i1
 grind [con]
def Bj.fine (C:Bj q i pos):Eu q (con q i)=true:=(Dl C.valid).2.2.2.2.2 _ C.mem
def Bj.kind (C:Bj q i pos):H7 q.ce (con q i).kind (con q i).ce.length=true:=wi C.fine
theorem Bj.len (C:Bj q i pos):(pos.length:Int)=q.ce:=by
 have h:=C.pos
 simp_all [posOk]
theorem Bj.sm (C:Bj q i pos): ∀ j,j<pos.length -> Sm q.sy.toNat (pos.getD j 0):=by
 intro j hj;have h:=C.pos
 simp_all [posOk,Sm]
def Bj.len256 (C:Bj q i pos):0<pos.length/\ pos.length<=256:=by
 have h:=(Dl C.valid).1;have:=C.len;omega
theorem Bj.ce (C:Bj q i pos):(∀ x∈(con q i).ce,0<=x/\ x<q.ce)/\ (con q i).ce.Nodup/\ (8<=(con q i).kind -> ∀ j,j<(con q i).ce.length -> (con q i).ce.getD j 0=(j:Int)):=by
 have h:=C.fine
 simp_all [Eu,oD]
theorem Bj.work (C:Bj q i pos):B5 (con q i) q.sy.toNat pos:=by
 obtain ⟨b,c,_⟩:=C.ce;have o:=C.len;have h3:=(Dl C.valid).1;have h4:=(Dl C.valid).2.1;refine ⟨λa ha=>?_,?_,C.sm,Z2⟩
 ·simp_all
 ·have:=TI pos.length _ c λx d=>by rw [o];exact b x d
  omega
theorem Bj.vals (C:Bj q i pos):FA q q.sy.toNat:=by
 obtain ⟨_,h2,⟨h3,A⟩,_⟩:=Dl C.valid;rw [Uu] at A;refine ⟨Z2,λs hs=>A _ ?_⟩
 grind
theorem Bj.ru (C:Bj q i pos):Hr (con q i):=by
 have h:=C.fine;unfold Eu at h;simp only [zAD,zJz] at h
 grind [Uu,Hr]
theorem Bj.two (C:Bj q i pos)(hk:(con q i).kind=6∨(con q i).kind=7):(con q i).ce.length=2:=by
 have h:=C.kind
 grind [H7]
theorem Bj.all (C:Bj q i pos)(hk:(con q i).kind=8∨(con q i).kind=9)(v:BJ pos=false):E9 (con q i) q pos:=by
 have h:=C.kind;have hl:=C.len;have Z:=C.len256
 have h1:((con q i).ce.length:Int)=q.ce:=by
  grind [H7]
 obtain ⟨_,_,_,⟨h5,r⟩,_⟩:=Dl C.valid;exact ⟨Z2,λj a=>C.ce.2.2 Z2 j Z2,⟨r,C.fit.nb⟩,Z2,Z.1,Z.2,λj a=>⟨(C.sm j a).in64 (zA4 C.work.k Z6),Fh.1 v j a⟩⟩
end
def Hh (q:AA)(c:AC)(pos:Ξ):Prop:= (c.kind=2 -> Ko c pos=true)/\ (c.kind=3 -> Ju q c pos=true)/\ (c.kind=5 -> LD c=true)/\ (c.kind=9 -> QS c q pos)
def CC (q:AA)(c:AC)(pos:Ξ)(a s:Nat):Prop:= (c.kind=1/\ Ly c pos a s)∨(c.kind=2/\ IM c pos a s=true)∨(c.kind=3/\ GX q c pos a s=true)∨(c.kind=4/\ Hy q c pos a s=true)∨(c.kind=5/\ IZ c pos a s)∨ (c.kind=6/\ GF (LV q c) c pos a s)∨(c.kind=7/\ GF (KH c) c pos a s)∨(c.kind=8/\ Gn c q pos a s)∨(c.kind=9/\ Lc c q pos a s)
def KP (q:AA)(c:AC)(pos:Ξ)(r:Bool×Ξ):Prop:=(r.1=true↔Hh q c pos)/\ (r.1=true -> B3 c pos (List.replicate pos.length 0) c.ce.length (CC q c pos) r.2)
def LC (q:AA)(c:AC)(pos:Ξ)(j s:Nat):Prop:=∃ a,a<c.ce.length/\ (c.ce.getD a 0).toNat=j/\ CC q c pos a s
structure Iy (q:AA)(c:AC)(pos:Ξ):Prop where
 nz: ∀ j,j<pos.length -> pos.getD j 0≠0
 ok:Hh q c pos
 left: ∀ j,j<pos.length -> ∃ s,s<64/\ tb (pos.getD j 0) s=true/\ ¬ LC q c pos j s
structure PR (q:AA)(c:AC)(pos x:Ξ):Prop where
 len:x.length=pos.length
 live:Iy q c pos -> ∀ j,j<pos.length -> Bt (x.getD j 0)/\ ∀ s,tb (x.getD j 0) s=true↔tb (pos.getD j 0) s=true/\ ¬ LC q c pos j s
 dead: ¬ Iy q c pos -> x=List.replicate pos.length 0
theorem PR.uniq {q:AA}{c:AC}{pos:Ξ}(x y:Ξ)(h:PR q c pos x)(h':PR q c pos y):x=y:=by
 by_cases E:Iy q c pos
 ·have e:x.length=y.length:=h.len.trans h'.len.symm;refine zNh e λj a b=>?_
  have i:j<pos.length:=by rw [←h.len];exact a
  have B:x.getD j 0=x[j]:=by simp [a]
  have F:y.getD j 0=y[j]:=by simp [b]
  rw [←B,←F];refine Hw (h.live E j i).1 (h'.live E j i).1 λs _=>?_
  rw [zLs,(h.live E j i).2,(h'.live E j i).2]
 ·rw [h.dead E,h'.dead E]
section
variable {q:AA} {i:Int} {pos:Ξ}
def Jm:(List.replicate pos.length (0:Int)).length=pos.length:=zKM
theorem Un (j:Nat):(List.replicate pos.length (0:Int)).getD j 0=0:=by
 grind
theorem Yn: ∀ j,Bt ((List.replicate pos.length (0:Int)).getD j 0):=λj=>by grind [Bt]
def pK:CF pos (List.replicate pos.length 0) (λ_ _=>False) (List.replicate pos.length 0):=⟨⟨Jm,Yn⟩,λj s=>Z3⟩
theorem B3.congr {c:AC}{lost l:Ξ}{D D':Nat -> Ψ}{m:Nat}(h:B3 c pos lost m D l)(hD: ∀ a s,D' a s↔D a s):B3 c pos lost m D' l:=by
 grind [B3]
def JC (n:Nat)(q:AA)(c:AC)(pos:Ξ):W0:= bif c.kind==1 then UJ n c q pos pos.length (List.replicate pos.length 0) else bif c.kind==2 then UL n c q pos pos.length (List.replicate pos.length 0) else bif c.kind==3 then SD n c q pos pos.length (List.replicate pos.length 0) else bif c.kind==4 then Nw n c q pos pos.length (List.replicate pos.length 0) else bif c.kind==5 then Sa n c q pos pos.length (List.replicate pos.length 0) else bif c.kind==6 then RS n c q pos pos.length (List.replicate pos.length 0) else bif c.kind==7 then QF n c q pos pos.length (List.replicate pos.length 0) else bif c.kind==8 then fJ n c q pos pos.length (List.replicate pos.length 0) else bif c.kind==9 then cR n c q pos pos.length (List.replicate pos.length 0) else none
theorem zE0 (C:Bj q i pos)(v:BJ pos=false):AZ (λn=>JC n q (con q i) pos) (KP q (con q i) pos):=by
 have W:=C.work;have P:(List.replicate pos.length (0:Int)).length=pos.length:=Jm
 have all: ∀ k:Int,(con q i).kind=k -> ∀ {f:Nat -> W0} {N:Nat} {ok:Bool} {D:Nat -> Ψ},(∀ n,N<=n -> ∃ l,f n=some (ok,l)/\ (ok=true -> B3 (con q i) pos (List.replicate pos.length 0) (con q i).ce.length D l)) -> (ok=true↔Hh q (con q i) pos) -> (∀ a s,CC q (con q i) pos a s↔D a s) -> AZ f (KP q (con q i) pos):=by
  intro k _ f N ok D h Cj hD;refine ⟨N,λn u=>?_⟩
  grind [KP,B3]
 have E:=TS (TR C.kind);have K: ∀ {k:Int},(con q i).kind=k -> k≠2 -> k≠3 -> k≠5 -> k≠9 -> Hh q (con q i) pos:=λhk b d e S=>⟨λh=>absurd (hk.symm.trans h) b,λh=>absurd (hk.symm.trans h) d,λh=>absurd (hk.symm.trans h) e,λh=>absurd (hk.symm.trans h) S⟩
 rcases E with hk | hk | hk | hk | hk | hk | hk | hk | hk
 ·refine AZ.eq (all 1 hk (f:=λn=>UJ n (con q i) q pos pos.length (List.replicate pos.length 0)) (N:=2*(con q i).ce.length+2) (ok:=true) (D:=Ly (con q i) pos) (λn u=>?_) ⟨λ_=>K hk Z6 Z6 Z6 Z6,λ_=>rfl⟩ λa s=>?_) λn=>?_
  ·obtain ⟨l,c,b⟩:=zNr (q:=q) W P u
   grind
  ·unfold CC;rw [hk];simp
  ·unfold JC;rw [hk];rfl
 ·refine AZ.eq (all 2 hk (f:=λn=>UL n (con q i) q pos pos.length (List.replicate pos.length 0)) (N:=2*(con q i).ce.length+3) (ok:=Ko (con q i) pos) (D:=λa s=>IM (con q i) pos a s=true) (λn u=>?_) ⟨λh=>⟨λ_=>h,λh=>absurd (hk.symm.trans h) Z6,λh=>absurd (hk.symm.trans h) Z6,λh=>absurd (hk.symm.trans h) Z6⟩,λh=>h.1 hk⟩ λa s=>?_) λn=>?_
  ·exact zN2 (q:=q) W P u
  ·unfold CC;rw [hk];simp
  ·unfold JC;rw [hk];rfl
 ·refine AZ.eq (all 3 hk (f:=λn=>SD n (con q i) q pos pos.length (List.replicate pos.length 0)) (N:=2*(con q i).ce.length+3) (ok:=Ju q (con q i) pos) (D:=λa s=>GX q (con q i) pos a s=true) (λn u=>?_) ⟨λh=>⟨λh=>absurd (hk.symm.trans h) Z6,λ_=>h,λh=>absurd (hk.symm.trans h) Z6,λh=>absurd (hk.symm.trans h) Z6⟩,λh=>h.2.1 hk⟩ λa s=>?_) λn=>?_
  ·exact zBx W C.vals P u
  ·unfold CC;rw [hk];simp
  ·unfold JC;rw [hk];rfl
 ·refine AZ.eq (all 4 hk (f:=λn=>Nw n (con q i) q pos pos.length (List.replicate pos.length 0)) (N:=2*(con q i).ce.length+3) (ok:=true) (D:=λa s=>Hy q (con q i) pos a s=true) (λn u=>?_) ⟨λ_=>K hk Z6 Z6 Z6 Z6,λ_=>rfl⟩ λa s=>?_) λn=>?_
  ·obtain ⟨l,c,b⟩:=zFD W C.vals P u
   grind
  ·unfold CC;rw [hk];simp
  ·unfold JC;rw [hk];rfl
 ·obtain ⟨l,⟨N,c⟩,b⟩:=zEa (q:=q) W C.ru P Yn;refine AZ.eq (all 5 hk (N:=N) (ok:=LD (con q i)) (D:=IZ (con q i) pos) (λn u=>⟨l,c n u,b⟩) ⟨λh=>⟨λh=>absurd (hk.symm.trans h) Z6,λh=>absurd (hk.symm.trans h) Z6,λ_=>h,λh=>absurd (hk.symm.trans h) Z6⟩,λh=>h.2.2.1 hk⟩ λa s=>?_) λn=>?_
  ·unfold CC;rw [hk];simp
  ·unfold JC;rw [hk];rfl
 ·refine AZ.eq (all 6 hk (f:=λn=>RS n (con q i) q pos pos.length (List.replicate pos.length 0)) (N:=0) (ok:=true) (D:=GF (LV q (con q i)) (con q i) pos) (λn u=>?_) ⟨λ_=>K hk Z6 Z6 Z6 Z6,λ_=>rfl⟩ λa s=>?_) λn=>?_
  ·obtain ⟨l,c,b⟩:=zPF (n:=n) W C.vals (C.two (.inl hk)) P
   grind
  ·unfold CC;rw [hk];simp
  ·unfold JC;rw [hk];rfl
 ·refine AZ.eq (all 7 hk (f:=λn=>QF n (con q i) q pos pos.length (List.replicate pos.length 0)) (N:=0) (ok:=true) (D:=GF (KH (con q i)) (con q i) pos) (λn u=>?_) ⟨λ_=>K hk Z6 Z6 Z6 Z6,λ_=>rfl⟩ λa s=>?_) λn=>?_
  ·obtain ⟨l,c,b⟩:=zH5 (n:=n) (q:=q) W (C.two (.inr hk)) P
   grind
  ·unfold CC;rw [hk];simp
  ·unfold JC;rw [hk];rfl
 ·obtain ⟨l,⟨N,c⟩,b⟩:=zOE (C.all (.inl hk) v) pK;refine AZ.eq (all 8 hk (N:=N) (ok:=true) (D:=Gn (con q i) q pos) (λn u=>⟨l,c n u,λ_=>b.by (C.all (.inl hk) v)⟩) ⟨λ_=>K hk Z6 Z6 Z6 Z6,λ_=>rfl⟩ λa s=>?_) λn=>?_
  ·unfold CC;rw [hk];simp
  ·unfold JC;rw [hk];rfl
 ·refine AZ.eq ((zIi (C.all (.inr hk) v) pK).mono λr j=>⟨?_,λh=>((j.2 h).by (C.all (.inr hk) v)).congr λa s=>?_⟩) λn=>?_
  ·grind [Hh,pG]
  ·unfold CC;rw [hk];simp
  ·unfold JC;rw [hk];rfl
theorem zBn {n:Nat}{E:Ξ}(hl:E.length=pos.length)(h256:pos.length<=256)(hn:600<=n):
 ∃ x,x.length=pos.length/\ (∀ j,j<pos.length -> x.getD j 0=bits .andNot .i64 (pos.getD j 0) (E.getD j 0))/\ KB q i pos n (.l2 pos.length (pos.length:Int) 0 E pos)=some (if BJ x then List.replicate pos.length 0 else x):=by
 have lb:(256:Nat)<=LB:=Z6
 obtain ⟨b,x,Hl,_,e,d,w,JP⟩:=Ii (λn (a:Ξ) k=>KB q i pos n (.l2 pos.length (pos.length:Int) k E a)) pos.length 260
  (λk a=>a.length=pos.length/\ (∀ j,j<k -> a.getD j 0=bits .andNot .i64 (pos.getD j 0) (E.getD j 0))/\ ∀ j,k<=j -> a.getD j 0=pos.getD j 0) (λn k a GM hk hI=>by
   show ∃ s',WC n (KB q i pos n) q i pos pos.length (pos.length:Int) (k:Int) E a=_/\ _
   unfold WC;rw [zAC Z2,zAG,zAE ⟨⟨Z2,Z2⟩,Z2,⟨Z2,Z2⟩,Z2,Aa.2 ⟨Z2,Z2⟩⟩]
   grind) (n:=n) (s:=pos) Z2 ⟨rfl,λj c=>absurd c (zA6 j),λj _=>rfl⟩
 obtain ⟨V,rfl⟩: ∃ V,b=V+1:=⟨b-1,Z2⟩;refine ⟨x,d,w,Eq.trans e ?_⟩
 show WC V (KB q i pos V) q i pos pos.length (pos.length:Int) (pos.length:Int) E x=_
 unfold WC;rw [zAF Z2,zAz,zAE d.symm,OY Z2 Z2,zAB]
 grind
def ZM (n:Nat)(q:AA)(i:Int)(pos:Ξ)(x:Bool×Ξ):Option Ξ:= bif (!x.1) then (if pos.length=(List.replicate pos.length (0:Int)).length then some (List.replicate pos.length (0:Int)) else none) else KB q i pos n (.l1 x.2)
theorem zBp (C:Bj q i pos)(v:BJ pos=false){n:Nat}(hn:601<=n){d:Bool×Ξ}(hy:KP q (con q i) pos d): ∃ x,ZM n q i pos d=some x/\ PR q (con q i) pos x:=by
 have Z:=C.len256;have L:(1000000000000:Nat)=Av:=rfl;have f:=Fh.1 v;obtain ⟨b,lost⟩:=d;obtain ⟨c,F⟩:=hy;unfold ZM;cases b with
 | false=>
  refine ⟨_,Z4,Jm,λE=>?_,λ_=>rfl⟩;have:=c.2 E.ok;cases this
 | true=>
  have c:=c.1 rfl;have F:B3 (con q i) pos (List.replicate pos.length 0) (con q i).ce.length (CC q (con q i) pos) lost:=F rfl;obtain ⟨n,rfl⟩: ∃ k,n=k+1:=⟨n-1,Z2⟩;obtain ⟨x,g,l,h3⟩:=zBn (q:=q) (i:=i) (n:=n) F.1 Z.2 Z2
  have m: ∀ j,j<pos.length -> Bt (x.getD j 0)/\ ∀ s,tb (x.getD j 0) s=true↔tb (pos.getD j 0) s=true/\ ¬ LC q (con q i) pos j s:=λj a=>by
   rw [l j a];refine ⟨Dh _ _ _,λs=>?_⟩;rw [HN,zAD,zFN,←zMA,F.2,Un]
   grind [Js,AP,LC]
  have Bl:fN n pos=some pos:=by
   grind [fN,zl]
  have e:KB q i pos (n+1) (.l1 lost)=some (if BJ x then List.replicate pos.length 0 else x):=by
   grind [uq,KB]
  refine ⟨_,by exact e,?_,λE j a=>?_,λE=>?_⟩
  ·grind
  ·rw [zEO]
   ·exact m j a
   ·rw [zMA,Fh];intro j a;rw [g] at a;obtain ⟨s,hs,h4,h5⟩:=E.left j a
    grind [GC]
  ·rw [zAE];refine Classical.byContradiction λh=>E ?_
   rw [zMA,Fh] at h;refine ⟨f,c,λj a=>?_⟩
   grind [GC]
def zHA (C:Bj q i pos): ∃ x,Ev (λn=>LS n q i pos) x/\ PR q (con q i) pos x:=by
 have h256:=C.len256;have lb:(256:Nat)<=LB:=Z6
 have hi:0<=i/\ i<(q.cons.length:Int):=⟨C.i0,C.i1⟩;cases v:BJ pos
 ·suffices H:AZ (λn=>LS n q i pos) (PR q (con q i) pos) by
   obtain ⟨x,c,d⟩:=H.ev PR.uniq;exact ⟨x,d,c⟩
  obtain ⟨N,W⟩:=AZ.bindU (zE0 C v) (b:=λn a=>ZM n q i pos a) (Q:=PR q (con q i) pos) ⟨601,λn u a hy=>zBp C v u hy⟩;refine ⟨N+300,λn u=>?_⟩;obtain ⟨x,c,d⟩:=W n Z2;refine ⟨x,Eq.trans ?_ c,d⟩
  show LS n q i pos=(JC n q (con q i) pos).bind λa=>ZM n q i pos a
  unfold LS jf;rw [zAE ⟨rfl,Z2,Z2⟩,OY Z2 Z2,v,zAB,zAz,zAE hi];have e:q.cons.getD i.toNat default=con q i:=rfl;rw [e];have E:=TS (TR C.kind);unfold JC;rcases E with hk | hk | hk | hk | hk | hk | hk | hk | hk <;> rw [hk] <;> rfl
 ·refine ⟨List.replicate pos.length 0,⟨300,λn u=>?_⟩,Jm,λf=>?_,λ_=>rfl⟩
  ·show LS n q i pos=_
   unfold LS jf;rw [zAE ⟨rfl,Z2,Z2⟩,OY Z2 Z2,v,zAB,zAG,zAE Jm.symm]
  ·have:=Fh.2 f.nz;rw [v] at this;cases this
def PrP (q:AA)(i:Int)(pos:Ξ)(r:Ξ×Int):Prop:=r.2=Lz q i pos/\ (r.2=0 -> PR q (con q i) pos r.1)/\ (r.2≠0 -> r.1= [])
theorem zHE (S:Cm q)(o:pos.length<=LB): ∃ r,Ev (λn=>P4 n q i pos) r/\ PrP q i pos r:=by
 have H:Ev (λn=>UQ n q i pos) (Lz q i pos):=⟨EU q+pos.length+1,λn hn=>zOT S Z2 o Z2⟩
 by_cases h0:Lz q i pos=0
 ·obtain ⟨x,c,d⟩:=zHA (Bj.of S h0);refine ⟨(x,0),?_,h0.symm,λ_=>d,λh=>absurd rfl h⟩;refine Ev.eq (Ev.bind H (b:=λn e=>bif (e != 0) then some (([]:Ξ),e) else (LS n q i pos).bind λa=>some (a,0)) ?_) λn=>rfl
  rw [h0];exact Ev.bind c (b:=λ_ a=>some (a,0)) (Ev.now λn=>rfl)
 ·refine ⟨([],Lz q i pos),?_,rfl,λh=>absurd h h0,λ_=>rfl⟩;refine Ev.eq (Ev.bind H (b:=λn e=>bif (e != 0) then some (([]:Ξ),e) else (LS n q i pos).bind λa=>some (a,0)) (Ev.now λn=>?_)) λn=>rfl
  grind
end
end
section
structure OA (q:AA)(c:AC)(p:Ξ):Prop where
 nz: ∀ k,k<c.ce.length -> AP c p k≠0
 ok:Hh q c p
 left: ∀ k,k<c.ce.length -> ∃ s,tb (AP c p k) s=true/\ ¬ CC q c p k s
variable {α:Type}
theorem YH {f g:α -> Bool}: ∀ (l:List α),(∀ x∈l,f x=true -> g x=true) -> l.countP f<=l.countP g
 | [],_=>zBT _
 | x::l,h=>by
  have h1:=YH l λy hy=>h y (zKA _ hy)
  grind
theorem YG {f g:α -> Bool}{a:α}(O:f a=false)(n:g a=true): ∀ (l:List α),(∀ x∈l,f x=true -> g x=true) -> a∈l -> l.countP f+1<=l.countP g
 | [],_,h=>by cases h
 | x::l,h,ha=>by
  rcases zKP.1 ha with rfl | ha
  ·simp_all [YH]
  ·have h1:=YG O n l (λy hy=>h y (zKA _ hy)) ha
   grind
variable {m:Nat}{f g:Nat -> Bool}
def zj (h: ∀ a,a<m -> f a=true -> g a=true):cnt f m<=cnt g m:=by
 unfold cnt;have:=YH (f:=f) (g:=g) (List.range m) λx d=>h x (zIN.1 d)
 omega
def zi {a:Nat}(h: ∀ a,a<m -> f a=true -> g a=true)(K:a<m)(O:f a=false)(n:g a=true):cnt f m+1<=cnt g m:=by
 unfold cnt;have:=YG O n (List.range m) (λx d=>h x (zIN.1 d)) (zIN.2 K);omega
theorem iM {k:Nat}{x:Int}(d:Sm k x)(hk:k<=16)(h:Ni x=true){s t:Nat}(l:tb x s=true)(ht:tb x t=true):s=t:=by
 have XT:=LT (k:=k) (zA4 hk Z6);obtain ⟨m,rfl⟩:=zL7 d.1;have A:m<18446744073709551616:=by have:=d.2;omega
 have lo: ∀ {u:Nat},tb (m:Int) u=true -> u<64:=λ{u} hu=>zJq λh=>by rw [Rz h] at hu;cases hu
 have h0:m≠0:=by
  rintro rfl;exact Js l
 have e:m&&& (m-1)=0:=by
  unfold Ni at h;rw [zH2] at h;apply Nat.eq_of_testBit_eq;intro u;rw [Nat.zero_testBit,Nat.testBit_and];rcases zKL u 64 with hu | hu
  ·have h2:=(MA (Dh .and _ _)).1 h u hu
   grind [FE,Jr]
  ·rw [Nat.testBit_lt_two_pow (zCD A (zQT (n:=2) Z6 hu)),zQY]
 have S:=qt m A h0;rw [e,qs] at S
 have mem: ∀ {u:Nat},tb (m:Int) u=true -> u∈Fp m:=λ{u} hu=>by
  grind [Fp,Jr]
 grind
section
variable {q:AA} {i:Int} {p p':Ξ}
variable {s:Nat}{x:Int}{c:AC}
theorem Tb (h:bits .andNot .i64 x c.set=0)(hs:tb x s=true):tb c.set s=true:=by
 grind [MA,Dh,HN,tb]
variable {x':Int}
theorem og (h: ∀ s,tb x' s=true -> tb x s=true)(hx:bits .andNot .i64 x c.set=0):bits .andNot .i64 x' c.set=0:=
 (MA (Dh .andNot _ _)).2 λs hs=>by
  grind [HN,Tb]
theorem oe (h: ∀ s,tb x' s=true -> tb x s=true)(d:bits .and .i64 x' c.set≠0):bits .and .i64 x c.set≠0:=by
 obtain ⟨s,l,a⟩:=(GC (Dh .and _ _)).1 d;rw [FE,zAD] at a;exact (GC (Dh .and _ _)).2 ⟨s,l,by grind [FE]⟩
theorem od (a:tb x s=true)(b:tb c.set s=true):bits .and .i64 x c.set≠0:=by
 have O:s<64:=zJq λh=>by rw [Rz h] at a;cases a
 exact (GC (Dh .and _ _)).2 ⟨s,O,by rw [FE,a,b];rfl⟩
theorem zPJ (h1:tb x s=true)(h2:tb c.set s=false):bits .andNot .i64 x c.set≠0:=by
 grind [Rz,GC,Dh,HN]
def FB (c:AC)(p' p:Ξ):Prop:=∀ k,k<c.ce.length -> ∀ s,tb (AP c p' k) s=true -> tb (AP c p k) s=true
variable {a k:Nat}
theorem zNt (W:B5 c k p)(l:FB c p' p)(I: ∀ a,a<c.ce.length -> Bt (AP c p' a))(m: ∀ a,a<c.ce.length -> AP c p' a≠0)(h:Ly c p a s):Ly c p' a s:=by
 obtain ⟨b,d,K,f,g⟩:=h;have i:=W.at d
 have e:AP c p' b=AP c p b:=by
  refine Hw (I b d) (i.in64 (by have:=W.k;omega)) λt _=>?_
  obtain ⟨u,_,j⟩:=(GC (I b d)).1 (m b d);have D:u=s:=iM i W.k f (l b d u j) g;subst D;cases V:tb (AP c p b) t with
  | true=>
   have:t=u:=iM i W.k f V g;subst this;exact j
  | false=>
   grind [FB]
 refine ⟨b,d,K,?_,?_⟩
 ·rw [e];exact f
 ·rw [e];exact g
def v7 (i:FB c p' p)(K:a<c.ce.length)(h:B6 c p a=true):B6 c p' a=true:=by
 unfold B6 at h ⊢;rw [zH2] at h ⊢;exact og (i a K) h
theorem wH (i:FB c p' p)(CT: ∀ a,a<c.ce.length -> Bt (AP c p' a))(Wx: ∀ a,a<c.ce.length -> AP c p' a≠0)(K:a<c.ce.length)(h:Cu c p' a=true):Cu c p a=true:=by
 unfold Cu at h ⊢;rw [zJo,zMb] at h ⊢;right;rcases h with h | h
 ·unfold B6 at h;rw [zH2] at h
  grind [GC,od,Tb,FB]
 ·exact oe (i a K) h
theorem zN3 (i:FB c p' p)(I: ∀ a,a<c.ce.length -> Bt (AP c p' a))(d: ∀ a,a<c.ce.length -> AP c p' a≠0)(e:Ko c p'=true):
 Ko c p=true/\ ∀ a s,a<c.ce.length -> tb (AP c p' a) s=true -> IM c p a s=true -> IM c p' a s=true:=by
 have m1:=zj (f:=B6 c p) (g:=B6 c p') (m:=c.ce.length) λa K=>v7 i K
 have m2:=zj (f:=Cu c p') (g:=Cu c p) (m:=c.ce.length) λa K=>wH i I d K
 unfold Ko at e ⊢;rw [zAD,zFN,zFN,zKO,zKO] at e ⊢;refine ⟨⟨Z2,Z2⟩,λa s K hs h=>?_⟩;unfold IM at h ⊢;rw [zJo,zAD,zAD,zAD,zAD,zH2,zH2,zMb,zMb,zFN] at h ⊢;rcases h with ⟨⟨j,k⟩,b⟩ | ⟨⟨j,k⟩,b⟩
 ·refine .inl ⟨⟨Z2,λA=>?_⟩,b⟩;have:=zi (f:=B6 c p) (g:=B6 c p') (m:=c.ce.length) (a:=a) (λa K=>v7 i K) K (by grind [B6]) (by simp_all [B6]);omega
 ·refine .inr ⟨⟨Z2,λA=>?_⟩,b⟩
  have:=zi (f:=Cu c p') (g:=Cu c p) (m:=c.ce.length) (a:=a) (λa K=>wH i I d K) K
   (by
    grind [Cu,B6,zPJ]) (by simp_all [Cu])
  omega
theorem gh {f g:Nat -> Int}: ∀ {m:Nat},(∀ a,a<m -> f a<=g a) -> Cc f m<=Cc g m/\ ∀ a,a<m -> Cc f m-f a<=Cc g m-g a
 | 0,_=>⟨zJB _,λa K=>absurd K (zA6 a)⟩
 | m+1,h=>by
  obtain ⟨h1,h2⟩:=gh (m:=m) λa K=>h a Z2
  have e: ∀ f:Nat -> Int,Cc f (m+1)=Cc f m+f m:=λf=>rfl
  grind
variable {n:Int}
theorem cV : ∀ (l:Ξ) (a:Int),n<=l.foldl (H6 q) a↔n<=a/\ ∀ e∈l,n<=q.va.getD e.toNat 0
 | [],a=>Z3
 | e::l,a=>by
  rw [zLt,cV l];unfold H6
  grind
theorem dc : ∀ (l:Ξ) (a:Int),l.foldl (IF q) a<=n↔a<=n/\ ∀ e∈l,q.va.getD e.toNat 0<=n
 | [],a=>Z3
 | e::l,a=>by
  rw [zLt,dc l];unfold IF
  grind
def iA (hk:k<=16)(d:Sm k x)(O:Sm k x')(h: ∀ s,tb x' s=true -> tb x s=true): ∀ e∈BY x',e∈BY x:=λe M=>by
 obtain ⟨s,rfl,a,b⟩:=(FM O (zA4 hk Z6)).1 M;exact (FM d (zA4 hk Z6)).2 ⟨s,rfl,a,h s b⟩
theorem zBy (W:B5 c k p)(d:B5 c k p')(i:FB c p' p)(b:Ju q c p'=true):
 Ju q c p=true/\ ∀ a s,a<c.ce.length -> GX q c p a s=true -> GX q c p' a s=true:=by
 have sub: ∀ a,a<c.ce.length -> ∀ e∈BY (AP c p' a),e∈BY (AP c p a):=λa K=>iA W.k (W.at K) (d.at K) (i a K)
 have u: ∀ a,a<c.ce.length -> CR q (AP c p a)<=CR q (AP c p' a):=λa K=>by
  have h:=(cV (q:=q) (BY (AP c p a)) 100).1 (zJB _);exact (cV (BY (AP c p' a)) 100).2 ⟨h.1,λe M=>h.2 e (sub a K e M)⟩
 have j: ∀ a,a<c.ce.length -> CU q (AP c p' a)<=CU q (AP c p a):=λa K=>by
  have h:=(dc (q:=q) (BY (AP c p a)) (-1)).1 (zJB _);exact (dc (BY (AP c p' a)) (-1)).2 ⟨h.1,λe M=>h.2 e (sub a K e M)⟩
 have t1:=gh (f:=λa=>CR q (AP c p a)) (g:=λa=>CR q (AP c p' a)) (m:=c.ce.length) u;have t2:=gh (f:=λa=>CU q (AP c p' a)) (g:=λa=>CU q (AP c p a)) (m:=c.ce.length) j;have B: ∀ p,Lb q c p=Cc (λa=>CR q (AP c p a)) c.ce.length:=λ_=>rfl
 have F: ∀ p,Ll q c p=Cc (λa=>CU q (AP c p a)) c.ce.length:=λ_=>rfl
 unfold Ju at b ⊢;rw [zAD,zFN,zFN,zKO,zKO,B,F] at b ⊢;refine ⟨⟨Z2,Z2⟩,λa s K h=>?_⟩;unfold GX at h ⊢
 grind
variable {b:Int}
theorem ZC : ∀ (l:Ξ) (a:Int),n<=l.foldl (K4 q b) a↔n<=a/\ ∀ e∈l,q.va.getD e.toNat 0>b -> n<=q.va.getD e.toNat 0
 | [],a=>Z3
 | e::l,a=>by
  rw [zLt,ZC l];unfold K4
  grind
theorem eU : ∀ (l:Ξ) (a:Int),l.foldl (Kl q b) a<=n↔a<=n/\ ∀ e∈l,q.va.getD e.toNat 0<b -> q.va.getD e.toNat 0<=n
 | [],a=>Z3
 | e::l,a=>by
  rw [zLt,eU l];unfold Kl
  grind
def zAM (W:B5 c k p)(d:B5 c k p')(i:FB c p' p): ∀ a,a<=c.ce.length -> Gs q c p a<=Gs q c p' a
 | 0,_=>zJB _
 | a+1,ha=>by
  have ih:=zAM W d i a Z2;have h:=(ZC (q:=q) (b:=Gs q c p a) (BY (AP c p a)) 100).1 (zJB _);exact (ZC (BY (AP c p' a)) 100).2 ⟨h.1,λe M hg=>h.2 e (iA W.k (W.at Z2) (d.at Z2) (i a Z2) e M) Z2⟩
def zAt (W:B5 c k p)(a:B5 c k p')(i:FB c p' p): ∀ m,m<=c.ce.length -> IN q c p' m<=IN q c p m
 | 0,_=>zJB _
 | m+1,hm=>by
  have ih:=zAt W a i m Z2;have h:=(eU (q:=q) (b:=IN q c p m) (BY (AP c p (c.ce.length-1-m))) (-1)).1 (zJB _);exact (eU (BY (AP c p' (c.ce.length-1-m))) (-1)).2 ⟨h.1,λe M hg=>h.2 e (iA W.k (W.at Z2) (a.at Z2) (i _ Z2) e M) Z2⟩
theorem zFE (W:B5 c k p)(b:B5 c k p')(i:FB c p' p)(ha:a<c.ce.length)(h:Hy q c p a s=true):Hy q c p' a s=true:=by
 have h1:=zAM (q:=q) W b i a Z2;have h2:=zAt (q:=q) W b i (c.ce.length-(a+1)) Z2
 grind [Hy,Ku]
variable {inn:Bool}
theorem kj (i:FB c p' p)(K:a<c.ce.length)(h:kd c p' a inn=true):kd c p a inn=true:=by
 unfold kd at h ⊢;cases inn
 ·rw [zAz,zMb] at h ⊢
  grind [og,FB]
 ·rw [zAG,zMb] at h ⊢;exact oe (i a K) h
def jA (i:FB c p' p): ∀ (a:Nat),a<=c.ce.length -> ∀ t,FX c p' a t -> FX c p a t
 | 0,_,t,h=>h
 | a+1,ha,t,⟨s,inn,b,d,e⟩=>⟨s,inn,jA i a Z2 s b,d,kj i Z2 e⟩
def wW (i:FB c p' p): ∀ (m:Nat),m<=c.ce.length -> ∀ t,Jl c p' m t -> Jl c p m t
 | 0,_,t,h=>h
 | m+1,hm,t,⟨a,u,inn,b,d,A⟩=>⟨jA i _ Z2 t a,u,inn,b,kj i Z2 d,wW i m Z2 u A⟩
def z6 (i:FB c p' p)(K:a<c.ce.length)(h:Ho c p' a inn):Ho c p a inn:=by
 obtain ⟨s,t,b,d,e,A⟩:=h;exact ⟨s,t,jA i a Z2 s b,d,kj i K e,wW i _ Z2 t A⟩
theorem zEZ (i:FB c p' p)(K:a<c.ce.length)(h:IZ c p a s):IZ c p' a s:=
 h.elim (λh=>.inl ⟨λb=>h.1 (z6 i K b),h.2⟩) λh=>.inr ⟨λb=>h.1 (z6 i K b),h.2⟩
theorem vC {ok:Nat -> Nat -> Bool}(hS:FB c p' p)(h2:c.ce.length=2)(h:GF ok c p a s):GF ok c p' a s:=by
 unfold GF at h ⊢
 grind [FB]
structure PI (c:AC)(q:AA)(p p':Ξ):Prop where
 W:E9 c q p
 W':E9 c q p'
 len:p.length=p'.length
 sub: ∀ j,j<p.length -> ∀ s,tb (p'.getD j 0) s=true -> tb (p.getD j 0) s=true
section
variable {c:AC}
theorem PI.pB (H:PI c q p p'): ∀ v:Int,(pB c p').getD v.toNat false=true -> (pB c p).getD v.toNat false=true:=λv h=>by
 have hl:=H.len
 by_cases s:v.toNat<p.length
 ·rw [WL Z2,zMb] at h;rw [WL s,zMb];exact oe (H.sub _ s) h
 grind [GH]
theorem PI.cB (H:PI c q p p'): ∀ v:Int,(cB c p).getD v.toNat false=true -> (cB c p').getD v.toNat false=true:=λv h=>by
 have hl:=H.len
 by_cases s:v.toNat<p.length
 ·rw [YN s,zH2] at h;rw [YN Z2,zH2];exact og (H.sub _ s) h
 grind [HG]
variable {j:Nat}
def vR {x:Ξ}{s:Nat}(i:j<x.length)(a:tb (x.getD j 0) s=true)(b:tb c.set s=true):(pB c x).getD j false=true:=by
 rw [WL i,zMb];exact od a b
theorem rj {x:Ξ}{s:Nat}(i:j<x.length)(h:(cB c x).getD j false=true)(a:tb (x.getD j 0) s=true):tb c.set s=true:=by
 rw [YN i,zH2] at h;exact Tb h a
variable {v r:Int}
def keep (W:E9 c q p')(i: ∀ v,v<p'.length -> ∃ s,tb (p'.getD v 0) s=true/\ ¬ Df c q p' v s)(h0:0<=r)(S:DG (cB c p') r)(JS:0<=v)(Bp:v<(p'.length:Int))(n:(cB c p').getD v.toNat false=true):Rc q.nb (pB c p') r v:=by
 refine Classical.byContradiction λh=>?_
 obtain ⟨s,a,b⟩:=i v.toNat Z2;have e:((v.toNat:Nat):Int)=v:=Z2
 exact b ⟨W.cp Z2 n,rj Z2 n a,r,h0,S,by rw [e];exact h⟩
theorem DG.ex (W:E9 c q p')(JS:0<=v)(Bp:v<(p'.length:Int))(hc:(cB c p').getD v.toNat false=true): ∃ r:Int,0<=r/\ r<(p'.length:Int)/\ DG (cB c p') r/\ (cB c p').getD r.toNat false=true:=by
 obtain ⟨r,_,S⟩:=dH (l:=cB c p') (by rw [HG];exact W.l1);rcases S with ⟨a,b⟩ | ⟨a,b,h3,h4⟩
 ·grind
 grind [DG]
theorem DG.at (h0:0<=r)(h:DG (cB c p) r):r<(p.length:Int)/\ (cB c p).getD r.toNat false=true:=by
 grind [cB,DG]
theorem zD (H:PI c q p p')(i: ∀ v,v<p'.length -> ∃ s,tb (p'.getD v 0) s=true/\ ¬ Df c q p' v s){a s:Nat}(ha:a<p.length)(l:tb (p'.getD a 0) s=true)(h:Df c q p a s):Df c q p' a s:=by
 obtain ⟨h1,b,r,C,S,d⟩:=h;have hl:=H.len;have gl:=H.W'.gl;obtain ⟨Tk,E⟩:=S.at C;have O:=H.cB r E;obtain ⟨F,A,h5,T,e⟩:=DG.ex H.W' C Z2 O;refine ⟨vR Z2 l b,b,F,A,T,λZ=>d ?_⟩;have f:=keep H.W' i A T C Z2 O;have j:=f.symm H.W'.g.gr A Z2 (H.W'.cp Z2 e);exact (j.trans Z).mono H.pB
theorem zAY {g:List Ξ}{inn:Ω}{u a:Int}(F: ¬ Rc g inn u a)(ha:0<=a)(G:Gr g)(Y:0<=u)(I:u<(g.length:Int))(h:Rc g inn u v):Rc g (inn.set a.toNat false) u v:=by
 induction h with
 | start=>exact .start
 | @step x y h c hi b=>
  refine .step b c ?_;have hr:=(Rc.step h c hi).rng G Y I
  have Ah:a.toNat≠y.toNat:=λe=>F (by
   have d:a=y:=Z2
   rw [d];exact Rc.step h c hi)
  grind
theorem zOD (H:PI c q p p')(Wz: ∀ v,v<p'.length -> ∃ s,tb (p'.getD v 0) s=true/\ ¬ Gn c q p' v s){a s:Nat}(ha:a<p.length)(hs:tb (p'.getD a 0) s=true)(h:Gn c q p a s):Gn c q p' a s:=by
 have hl:=H.len;have gl:=H.W'.gl
 have f: ∀ v,v<p'.length -> ∃ s,tb (p'.getD v 0) s=true/\ ¬ Df c q p' v s:=λv i=>by
  grind [Gn]
 rcases h with h | ⟨h1,h2,⟨u,v,n,d,t,i,o,A,k⟩,r⟩
 ·grind [zD,Gn]
 ·have b:=o.rng H.W.g.gr Z2 Z2;have z:=A.rng H.W.g.gr Z2 Z2;have D:=H.cB u t;have T:=H.cB v i;have P:=H.W'.cp (j:=u.toNat) Z2 D;obtain ⟨r',Z,h8,l,x⟩:=DG.ex H.W' b.1 Z2 D;have y:=keep H.W' f Z l b.1 Z2 D;have I:=keep H.W' f Z l z.1 Z2 T;have Q:Rc q.nb (pB c p') u v:=(y.symm H.W'.g.gr Z Z2 (H.W'.cp Z2 x)).trans I
  have R: ∀ w:Int,((pB c p').set (a:Int).toNat false).getD w.toNat false=true -> ((pB c p).set (a:Int).toNat false).getD w.toNat false=true:=λw X=>by
   have la:(pB c p').length=p'.length:=GH;have lb:(pB c p).length=p.length:=GH;rw [UV Z2] at X ⊢;split
   ·grind
   ·rename_i e;rw [zEO e] at X;exact H.pB w X
  have S:Rc q.nb (pB c p') u a:=Classical.byContradiction λG=>k ((zAY G Z2 H.W'.g.gr b.1 Z2 Q).mono R)
  have m:=S.symm H.W'.g.gr b.1 Z2 P;refine .inr ⟨?_,?_,⟨u,v,n,d,D,T,m,m.trans Q,λG=>k (G.mono R)⟩,r⟩
  ·have:=S.isIn P
   simp_all
  grind [rj]
theorem zIg (H:PI c q p p')(m:QS c q p')(Wz: ∀ v,v<p'.length -> ∃ s,tb (p'.getD v 0) s=true/\ ¬ Lc c q p' v s):QS c q p/\ ∀ a s,a<p.length -> tb (p'.getD a 0) s=true -> Lc c q p a s -> Lc c q p' a s:=by
 have hl:=H.len
 have D: ∀ v,v<p'.length -> ∃ s,tb (p'.getD v 0) s=true/\ ¬ Df c q p' v s:=λv e=>by
  grind [Lc]
 have i: ∀ v:Nat,(cB c p).getD v false=true -> (cB c p').getD v false=true:=λv h=>H.cB (v:Int) h
 have o: ∀ v:Int,CE q.nb (pB c p') v<=CE q.nb (pB c p) v:=λv=>YH _ λx _ h=>H.pB x h
 have dC: ∀ v:Int,CE q.nb (cB c p) v<=CE q.nb (cB c p') v:=λv=>YH _ λx _ h=>H.cB x h
 refine ⟨λv e n=>?_,λa s K l h=>?_⟩
 ·grind [QS]
 ·rcases h with h | ⟨v,e,j,b,r,A⟩
  ·exact .inl (zD H D K l h)
  ·have hk:=m v Z2 (i v j);have e1:=o v;refine .inr ⟨v,Z2,i v j,b,?_⟩;rcases A with ⟨A,k⟩ | ⟨A,k,t⟩
   ·have d:(pB c p').getD a false=true:=by
     cases d:(pB c p').getD a false with
     | true=>rfl
     | false=>
      have:=YG (f:=λx:Int=>(pB c p').getD x.toNat false) (g:=λx:Int=>(pB c p).getD x.toNat false) (a:=(a:Int)) d r (nb q.nb v) (λx _ h=>H.pB x h) b
      grind [CE]
    grind
   ·have d:=vR (c:=c) Z2 l t
    have n:(cB c p').getD a false=false:=by
     cases n:(cB c p').getD a false with
     | false=>rfl
     | true=>
      have:=YG (f:=λx:Int=>(cB c p).getD x.toNat false) (g:=λx:Int=>(cB c p').getD x.toNat false) (a:=(a:Int)) k n (nb q.nb v) (λx _ h=>H.cB x h) b
      grind [CE]
    grind
end
theorem mono (C:Bj q i p)(c:Bj q i p')(f:FB (con q i) p' p)(E:OA q (con q i) p'):
 Hh q (con q i) p/\ ∀ k,k<(con q i).ce.length -> ∀ s,tb (AP (con q i) p' k) s=true -> CC q (con q i) p k s -> CC q (con q i) p' k s:=by
 have W:=C.work;have g:=c.work;have I: ∀ a,a<(con q i).ce.length -> Bt (AP (con q i) p' a):=λa r=>(g.at r).in64 (by have:=g.k;omega)
 have u:=TS (TR C.kind);have K: ∀ {k:Int},(con q i).kind=k -> k≠2 -> k≠3 -> k≠9 -> Hh q (con q i) p:=λhk b w S=>⟨λh=>absurd (hk.symm.trans h) b,λh=>absurd (hk.symm.trans h) w,E.ok.2.2.1,λh=>absurd (hk.symm.trans h) S⟩
 have all: ∀ {hk:(con q i).kind=8∨(con q i).kind=9},PI (con q i) q p p':=λ{hk}=>by
  have o:=C.len;have De:=c.len
  have m:BJ p'=false:=Fh.2 λj d=>by
   have hk8:(con q i).ce.length=p'.length:=by
    have h:=c.kind
    grind [H7]
   have:=E.nz j Z2
   have e:AP (con q i) p' j=p'.getD j 0:=by
    unfold AP;rw [c.ce.2.2 Z2 j Z2,u8]
   rwa [e] at this
  have L:=c.all hk m
  have y: ∀ j,j<p.length -> ∀ s,tb (p'.getD j 0) s=true -> tb (p.getD j 0) s=true:=λj d s l=>by
   have e: ∀ x:Ξ,AP (con q i) x j=x.getD j 0:=λx=>by
    unfold AP;rw [L.id j Z2,u8]
   have:=f j (by rw [L.len];omega) s (by rw [e];exact l)
   rwa [e] at this
  have z:BJ p=false:=Fh.2 λj d=>by
   have h:=Fh.1 m j Z2;obtain ⟨s,n,b⟩:=(GC ((c.sm j Z2).in64 (by have:=g.k;omega))).1 h
   grind [tb]
  exact ⟨C.all hk z,L,Z2,y⟩
 rcases u with hk | hk | hk | hk | hk | hk | hk | hk | hk
 ·refine ⟨K hk Z6 Z6 Z6,λk B s l h=>?_⟩;unfold CC at h ⊢;rw [hk] at h ⊢;simp at h ⊢;exact zNt W f I E.nz h
 ·have b:=zN3 f I E.nz (E.ok.1 hk);refine ⟨⟨λ_=>b.1,λh=>absurd (hk.symm.trans h) Z6,E.ok.2.2.1,λh=>absurd (hk.symm.trans h) Z6⟩,λk B s l h=>?_⟩
  simp_all [CC]
 ·have b:=zBy (q:=q) W g f (E.ok.2.1 hk);refine ⟨⟨λh=>absurd (hk.symm.trans h) Z6,λ_=>b.1,E.ok.2.2.1,λh=>absurd (hk.symm.trans h) Z6⟩,λk B s l h=>?_⟩
  simp_all [CC]
 ·grind [CC,zFE]
 ·grind [CC,zEZ]
 ·have b:=C.two (.inl hk)
  grind [CC,vC]
 ·have b:=C.two (.inr hk)
  grind [CC,vC]
 ·have H:=all (hk:=.inl hk)
  have e: ∀ (x:Ξ) (j:Nat),j<p.length -> AP (con q i) x j=x.getD j 0:=λx j d=>by
   unfold AP;rw [H.W.id j d,u8]
  have G:=H.W.len;have o:=H.len;have A: ∀ x a s,CC q (con q i) x a s↔Gn (con q i) q x a s:=λx a s=>by unfold CC;rw [hk];simp
  refine ⟨K hk Z6 Z6 Z6,λk B s l h=>?_⟩;rw [A] at h ⊢;rw [e _ _ Z2] at l;refine zOD H (λv D=>?_) Z2 l h;obtain ⟨t,n,b⟩:=E.left v Z2
  grind
 ·have H:=all (hk:=.inr hk)
  have e: ∀ (x:Ξ) (j:Nat),j<p.length -> AP (con q i) x j=x.getD j 0:=λx j d=>by
   unfold AP;rw [H.W.id j d,u8]
  have G:=H.W.len;have o:=H.len;have A: ∀ x a s,CC q (con q i) x a s↔Lc (con q i) q x a s:=λx a s=>by unfold CC;rw [hk];simp
  have b:=zIg H (E.ok.2.2.2 hk) λv D=>by
   obtain ⟨t,n,b⟩:=E.left v Z2
   grind
  refine ⟨⟨λh=>absurd (hk.symm.trans h) Z6,λh=>absurd (hk.symm.trans h) Z6,E.ok.2.2.1,λ_=>b.1⟩,λk B s l h=>?_⟩
  grind
end
end
abbrev zPr:=@List.getElem?_eq_none
section
variable {q:AA} {i:Int} {pos x:Ξ}
variable {c:AC}
def PR.sub (h:PR q c pos x){j s:Nat}(l:tb (x.getD j 0) s=true):j<pos.length/\ tb (pos.getD j 0) s=true:=by
 have i:j<pos.length:=by
  refine zJq λBc=>?_
  rw [zBS,zPr (by have:=h.len;omega)] at l;exact Js l
 refine ⟨i,?_⟩
 by_cases E:Iy q c pos
 ·exact (((h.live E j i).2 s).1 l).1
 ·rw [h.dead E,Un] at l;exact absurd l Js
theorem PR.in64 (h:PR q c pos x)(j:Nat):Bt (x.getD j 0):=by
 by_cases E:Iy q c pos
 ·by_cases i:j<pos.length
  ·exact (h.live E j i).1
  ·rw [zBS,zPr (by have:=h.len;omega)];grind [Bt]
 ·rw [h.dead E];exact Yn j
theorem P5 (hv:C4 q=true){y:Ξ}:posOk q y=true↔(y.length:Int)=q.ce/\ ∀ j,j<y.length -> Sm q.sy.toNat (y.getD j 0):=by
 unfold posOk;rw [zAD,zH2,zBk];constructor
 ·simp_all [Sm]
 ·rintro ⟨a,h2⟩;refine ⟨a,λz P=>?_⟩;obtain ⟨j,hj,rfl⟩:=zJ3 P
  simp_all [Sm]
end
section
variable {q:AA} {i:Int} {p p' x z:Ξ}
theorem zPo (C:Bj q i p){k s:Nat}(hk:k<(con q i).ce.length):LC q (con q i) p ((con q i).ce.getD k 0).toNat s↔CC q (con q i) p k s:=by
 constructor
 ·rintro ⟨a,K,e,h⟩;have h1:=C.work.ce a K;have h2:=C.work.ce k hk;have A8:=C.ce.2.1
  grind [List.pairwise_iff_getElem]
 grind [LC]
theorem fu (C:Bj q i p):Iy q (con q i) p↔(∀ j,j<p.length -> p.getD j 0≠0)/\ OA q (con q i) p:=by
 have W:=C.work;constructor
 ·intro h;refine ⟨h.nz,λk hk=>h.nz _ (by have:=W.ce k hk;omega),h.ok,λk hk=>?_⟩;obtain ⟨s,_,a,b⟩:=h.left ((con q i).ce.getD k 0).toNat (by have:=W.ce k hk;omega)
  grind [AP,LC]
 ·rintro ⟨a,b⟩;refine ⟨a,b.ok,λj c=>?_⟩
  by_cases d: ∃ k,k<(con q i).ce.length/\ ((con q i).ce.getD k 0).toNat=j
  ·obtain ⟨k,hk,rfl⟩:=d;obtain ⟨s,e,A⟩:=b.left k hk
   grind [zPo,tb,AP]
  ·obtain ⟨s,e,A⟩:=(GC ((C.sm j c).in64 (by have:=W.k;omega))).1 (a j c)
   grind [LC]
theorem vk (C:Bj q i p)(e:Bj q i p')(a:FB (con q i) p' p)(E:OA q (con q i) p'):OA q (con q i) p/\ ∀ k,k<(con q i).ce.length -> ∀ s,tb (AP (con q i) p' k) s=true -> CC q (con q i) p k s -> CC q (con q i) p' k s:=by
 obtain ⟨b,c⟩:=mono C e a E;have W:=C.work;refine ⟨⟨λk hk=>?_,b,λk hk=>?_⟩,c⟩
 ·obtain ⟨s,h,_⟩:=E.left k hk
  grind [FB,tb]
 ·obtain ⟨s,h,h4⟩:=E.left k hk
  grind [FB]
theorem zHF (C:Bj q i p)(a:Bj q i p')(A: ∀ j s,tb (p'.getD j 0) s=true -> tb (p.getD j 0) s=true)(d:PR q (con q i) p x)(P:PR q (con q i) p' z): ∀ j s,tb (z.getD j 0) s=true -> tb (x.getD j 0) s=true:=by
 intro j s h;have hl:=C.len;have De:=a.len
 by_cases b:Iy q (con q i) p'
 ·obtain ⟨E,S⟩:=(fu a).1 b;obtain ⟨I,f⟩:=vk C a (λk _ s h=>A _ s h) S
  have g:Iy q (con q i) p:=(fu C).2 ⟨λj c=>by
   obtain ⟨t,h3,h4⟩:=(GC ((a.sm j Z2).in64 (by have:=C.work.k;omega))).1 (E j Z2)
   grind [tb],I⟩
  obtain ⟨c,_⟩:=P.sub h;obtain ⟨l,r⟩:=((P.live b j c).2 s).1 h;refine ((d.live g j Z2).2 s).2 ⟨A j s l,λ⟨k,hk,e,Z⟩=>r ⟨k,hk,e,f k hk s ?_ Z⟩⟩
  grind [AP]
 ·rw [P.dead b,Un] at h;exact absurd h Js
end
section
variable {q:AA} {i:Int} {a b:Ξ}
theorem ur (C:Bj q i a): ∃ x,Ev (λn=>P4 n q i a) (x,0)/\ PR q (con q i) a x:=by
 obtain ⟨r,h1,b,h3,_⟩:=zHE (i:=i) C.fit (pos:=a) (zA4 C.len256.2 Z6);obtain ⟨x,e⟩:=r;have e0:e=0:=b.trans C.check
 grind
end
section
variable {q:AA} {i j:Int} {p p' x y z:Ξ}
def PR.posOk (C:Bj q i p)(h:PR q (con q i) p x):posOk q x=true:=by
 refine (P5 C.valid).2 ⟨by rw [h.len];exact C.len,λj hj=>?_⟩;have hk:=C.work.k;refine VI Z2 (h.in64 j) λs l _=>?_
 cases V:tb (x.getD j 0) s with
 | false=>rfl
 | true=>
  obtain ⟨a,b⟩:=h.sub V;rw [(C.sm j a).hi l] at b;cases b
def PR.alive (C:Bj q i p)(v:BJ p=false)(h:PR q (con q i) p p):Iy q (con q i) p:=by
 refine Classical.byContradiction λE=>?_
 have h0:=C.len256.1;have:=Fh.1 v 0 h0;rw [h.dead E,Un] at this;exact this rfl
theorem zIn (C:Bj q i p)(a:Bj q i p')(Z: ∀ k,k<(con q i).ce.length -> AP (con q i) p' k=AP (con q i) p k)(v:BJ p=false)(b:BJ p'=false)(h:PR q (con q i) p p):PR q (con q i) p' p':=by
 have E:=h.alive C v;obtain ⟨_,S⟩:=(fu C).1 E;obtain ⟨c,o⟩:=vk a C (λk hk s l=>by rw [Z k hk];exact l) S;have d:Iy q (con q i) p':=(fu a).2 ⟨Fh.1 b,c⟩;refine ⟨rfl,λ_ j f=>⟨(a.sm j f).in64 (by have:=a.work.k;omega),λs=>⟨λl=>⟨l,?_⟩,λl=>l.1⟩⟩,λu=>absurd d u⟩;rintro ⟨k,hk,e,g⟩
 have R:tb (AP (con q i) p k) s=true:=by
  grind [AP]
 have m:=o k hk s R g;have hW:=C.work.ce k hk;have M:tb (p.getD ((con q i).ce.getD k 0).toNat 0) s=true:=R;have n:=(((h.live E ((con q i).ce.getD k 0).toNat Z2).2 s).1 M).2;exact n ⟨k,hk,rfl,m⟩
end
structure A4 (q:AA)(p:Ξ):Prop where
 fit:Cm q
 valid:C4 q=true
 ok:posOk q p=true
def Le (a b:Ξ):Prop:=∀ j s,tb (a.getD j 0) s=true -> tb (b.getD j 0) s=true
def Up (q:AA)(level:Int)(i:Int):Prop:=0<=i/\ i<(q.cons.length:Int)/\ KL (con q i).kind<=level
def Iw (q:AA)(U:Int -> Prop)(p:Ξ):Prop:=∀ i,U i -> PR q (con q i) p p
inductive EO (q:AA)(U:Int -> Prop):Ξ -> Ξ -> Prop
 | refl (p:Ξ):EO q U p p
 | step {p x y:Ξ} {i:Int}:U i -> PR q (con q i) p x -> EO q U x y -> EO q U p y
section
variable {q:AA} {U:Int -> Prop} {p x y z:Ξ} {i level:Int}
def A4.ctx (h:A4 q p)(h0:0<=i)(a:i<(q.cons.length:Int)):Bj q i p:=⟨h.fit,h.valid,h0,a,h.ok⟩
def A4.len (h:A4 q p):(p.length:Int)=q.ce:=((P5 h.valid).1 h.ok).1
def A4.sm (h:A4 q p): ∀ j,j<p.length -> Sm q.sy.toNat (p.getD j 0):=((P5 h.valid).1 h.ok).2
def A4.k (h:A4 q p):q.sy.toNat<=16:=by have:=(Dl h.valid).2.1;omega
def A4.len256 (h:A4 q p):0<p.length/\ p.length<=256:=by
 have h1:=(Dl h.valid).1;have:=h.len;omega
theorem A4.in64 (h:A4 q p)(j:Nat):Bt (p.getD j 0):=by
 by_cases i:j<p.length
 ·exact (h.sm j i).in64 (by have:=h.k;omega)
 grind [Bt]
def A4.pr (h:A4 q p)(h0:0<=i)(a:i<(q.cons.length:Int))(d:PR q (con q i) p x):A4 q x:=⟨h.fit,h.valid,d.posOk (h.ctx h0 a)⟩
def A4.eqlen (h:A4 q p)(h':A4 q x):x.length=p.length:=by have:=h.len;have:=h'.len;omega
theorem Le.refl (a:Ξ):Le a a:=λ_ _ h=>h
def Le.trans (h:Le x y)(h':Le y z):Le x z:=λj s l=>h' j s (h j s l)
def Le.eq (d:A4 q x)(hy:A4 q y)(h:Le x y)(h':Le y x):x=y:=by
 have e:x.length=y.length:=hy.eqlen d;refine zNh e λj a b=>?_
 have B:x.getD j 0=x[j]:=by simp [a]
 have F:y.getD j 0=y[j]:=by simp [b]
 rw [←B,←F];refine Hw (d.in64 j) (hy.in64 j) λs _=>?_
 rw [zLs];exact ⟨h j s,h' j s⟩
variable {c:AC}
def PR.le (h:PR q c p x):Le x p:=λ_ _ l=>(h.sub l).2
def EO.pos (S: ∀ i,U i -> 0<=i/\ i<(q.cons.length:Int))(v:EO q U p y):A4 q p -> A4 q y:=by
 induction v with
 | refl p=>exact id
 | step hi d _ b=>exact λh=>b (h.pr (S _ hi).1 (S _ hi).2 d)
def EO.le (v:EO q U p y):Le y p:=by
 induction v with
 | refl p=>exact Le.refl p
 | step hi d _ b=>exact b.trans d.le
def EO.trans (h:EO q U p x)(h':EO q U x y):EO q U p y:=by
 induction h with
 | refl p=>exact h'
 | step hi d _ b=>exact .step hi d (b h')
def EO.one (hi:U i)(d:PR q (con q i) p x):EO q U p x:=.step hi d (.refl x)
def EO.above (S: ∀ i,U i -> 0<=i/\ i<(q.cons.length:Int))(v:EO q U p y):A4 q p -> A4 q z -> Le z p -> Iw q U z -> Le z y:=by
 induction v with
 | refl p=>exact λ_ _ h _=>h
 | step hi d _ b=>
  intro f P w O;obtain ⟨h0,a⟩:=S _ hi;exact b (f.pr h0 a d) P (zHF (f.ctx h0 a) (P.ctx h0 a) w d (O _ hi)) O
theorem EO.uniq (S: ∀ i,U i -> 0<=i/\ i<(q.cons.length:Int))(f:A4 q p)(d:EO q U p x)(hy:EO q U p y)(K:Iw q U x)(L:Iw q U y):x=y:=
 Le.eq (d.pos S f) (hy.pos S f) (hy.above S f (d.pos S f) d.le K) (d.above S f (hy.pos S f) hy.le L)
def zBZ (i:Int)(h:Up q level i):0<=i/\ i<(q.cons.length:Int):=⟨h.1,h.2.1⟩
variable {m:Nat}
theorem ux (hm:0<m):PR q c (List.replicate m 0) (List.replicate m 0):=by
 refine ⟨rfl,λhA=>?_,λ_=>Z3⟩
 grind [Bt,tb]
theorem ym (z:0<m):Iw q U (List.replicate m 0):=λ_ _=>ux z
theorem PR.zero (h:PR q c p x)(hd:BJ x=true):x=List.replicate p.length 0:=by
 refine Classical.byContradiction λK=>?_
 have E:Iy q c p:=Classical.byContradiction λE=>K (h.dead E)
 have: ¬ BJ x=false:=Z4
 refine this (Fh.2 λj i=>?_);have l:j<p.length:=by rw [←h.len];exact i
 obtain ⟨s,a,b,d⟩:=E.left j l;exact (GC (h.live E j l).1).2 ⟨s,a,((h.live E j l).2 s).2 ⟨b,d⟩⟩
def wt (p:Ξ):Nat:=(List.range (64*p.length)).countP λk=>tb (p.getD (k/64) 0) (k % 64)
theorem Rm (d:A4 q x)(f:A4 q p)(h:Le x p)(K:x≠p):wt x+1<=wt p:=by
 have e:x.length=p.length:=f.eqlen d
 obtain ⟨j,s,hj,l,b,c⟩: ∃ j s:Nat,j<p.length/\ s<64/\ tb (x.getD j 0) s=false/\ tb (p.getD j 0) s=true:=by
  refine Classical.byContradiction λhn=>K (Le.eq d f h λj s l=>?_)
  grind [tb]
 unfold wt;rw [e];have N:(64*j+s)/64=j:=Z2
 have es:(64*j+s) % 64=s:=Z2
 refine YG (a:=64*j+s) (by rw [N,es];exact b) (by rw [N,es];exact c) _ (λk _ hk=>h _ _ hk) (zIN.2 Z2)
end
section
set_option maxRecDepth 100000
set_option maxHeartbeats 40000000
inductive Rv where
 | l1 (AN:Int)
 | l2 (x4:Nat) (AN:Int) (o1:Ξ)
def ZE (n:Nat)(self:Rv -> Option Ξ)(q:AA)(level:Int)(T:Int):Option Ξ:= bif (decide (T<(q.cons.length:Int))) then (QU n q T).bind λe=> bif (e.2==0) then bif (decide (e.1<=level)) then if ((0=0/\ 1=([T]:Ξ).length)/\ 0<([T]:Ξ).length/\ ([T]:Ξ).length<=Av)/\ AG (T+1) then self (.l2 (([T]:Ξ).length) (T+1) ([T]:Ξ)) else none else if AG (T+1) then self (.l1 (T+1)) else none else if AG (T+1) then self (.l1 (T+1)) else none else some ([]:Ξ)
def ZD (n:Nat)(self:Rv -> Option Ξ)(q:AA)(level:Int)(I:Nat)(T:Int)(o1:Ξ):Option Ξ:= bif (decide (T<(q.cons.length:Int))) then (QU n q T).bind λe=> bif (e.2==0) then bif (decide (e.1<=level)) then if ((0=0/\ 1=([T]:Ξ).length)/\ (0=0/\ I=o1.length)/\ o1.length+([T]:Ξ).length<=Av)/\ AG (T+1) then self (.l2 (o1.length+([T]:Ξ).length) (T+1) (o1++([T]:Ξ))) else none else if AG (T+1) then self (.l2 I (T+1) o1) else none else if AG (T+1) then self (.l2 I (T+1) o1) else none else if I=o1.length then some o1 else none
def zBa (n:Nat)(self:Rv -> Option Ξ)(q:AA)(level:Int):Option Ξ:= self (.l1 0)
def I3 (q:AA)(level:Int):Nat -> Rv -> Option Ξ
 | 0,_=>none
 | n+1,.l1 T=>ZE n (I3 q level n) q level T
 | n+1,.l2 I T o1=>ZD n (I3 q level n) q level I T o1
def Uz (n:Nat)(q:AA)(level:Int):Option Ξ:=zBa n (I3 q level n) q level
def zBb (n B:Nat)(N:Yd 0)(q:AA)(level:Int)(r:Ξ):Rv -> Prop:=px n B Fence.wide N (FQ Tryz.f81 0 (.ints r) []) (Ac Tryz.f81) λ
 | .l1 T=>(0,0,AH 33 [(1,.i level),(2,.ref 0 0),(4,.nils),(10,.i (q.cons.length:Int)),(11,.i T)],[oC (AE q)])
 | .l2 I T o1=>(0,0,AH 33 [(1,.i level),(2,.ref 0 0),(4,.msl 1 1 0 I),(10,.i (q.cons.length:Int)),(11,.i T)],[oC (AE q),oI o1])
def zBc (B:Nat)(N:Yd 0)(q:AA)(level:Int):Al (I3 q level) (zBb · B N q level):=ia (λ_=>rfl) λn w a r h=>by
 cases a
 case l1 AN=>
  intro m k;refine rd k λm k=>?_
  revert r;apply gO;exact bi 12 (cf kU [oC (AE q)] λ_=>bi 21 (bi 25 (gc (gi (gw 31 (lG AD [0,2] (w _ _ · m k))))) (gw 31 (lG AD [0] (w _ _ · m k)))) (gw 31 (lG AD [0] (w _ _ · m k)))) (lF λp=>el AD [4] [] p [] H0 [.nils] AM.ints_nil)
 case l2 x4 AN o1=>
  intro m k;refine rd k λm k=>?_
  revert r;apply gO;exact bi 12 (cf kU [oC (AE q),oI o1] λ_=>bi 21 (bi 25 (gc (gi (gw 31 (lG AD [0,3] (w _ _ · m k))))) (gw 31 (lG AD [0,1] (w _ _ · m k)))) (gw 31 (lG AD [0,1] (w _ _ · m k)))) (gn λW=>lF λp=>ez AD [4] [1] p [0] (H0.g W))
variable {level:Int}{q:AA}{n:Nat}
def pw {r:Ξ}(h:Uz n q level=some r):EQ 81 [.agg 5 (L1 (AE q)),.i level] [] (.ints r) [] true:=by
 refine ot Tryz.func81 λB N=>?_
 revert r;apply gO;exact lN AD [0] ((zBc B N q level n) _ _ · n Nat.le.refl)
inductive Ui where
 | l1 (x8:Int)
 | l2 (x8:Int) (o0:Ω) (Cr:Nat) (o2:Ξ)
def oz (n:Nat)(self:Ui -> X1)(l:Ξ)(v:Ω)(x8:Int):X1:= bif (decide (x8<(l.length:Int))) then if (0<=x8/\ x8<(l.length:Int))/\ (0<=(l.getD x8.toNat 0)/\ (l.getD x8.toNat 0)<((4096:Nat):Int))/\ 0+((l.getD x8.toNat 0).toNat)<v.length then bif (!(v.getD (0+((l.getD x8.toNat 0).toNat)) false)) then if ((0=0/\ 1=([l.getD x8.toNat 0]:Ξ).length)/\ 0<([l.getD x8.toNat 0]:Ξ).length/\ ([l.getD x8.toNat 0]:Ξ).length<=Av)/\ AG (x8+1) then self (.l2 (x8+1) (v.set (0+((l.getD x8.toNat 0).toNat)) true) (([l.getD x8.toNat 0]:Ξ).length) ([l.getD x8.toNat 0]:Ξ)) else none else if AG (x8+1) then self (.l1 (x8+1)) else none else none else some (v,0,0,([]:Ξ),true)
def Yf (n:Nat)(self:Ui -> X1)(l:Ξ)(ws:Ω)(x8:Int)(o0:Ω)(H:Nat)(E:Ξ):X1:= bif (decide (x8<(l.length:Int))) then if (0<=x8/\ x8<(l.length:Int))/\ (0<=(l.getD x8.toNat 0)/\ (l.getD x8.toNat 0)<((4096:Nat):Int))/\ 0+((l.getD x8.toNat 0).toNat)<o0.length then bif (!(o0.getD (0+((l.getD x8.toNat 0).toNat)) false)) then if 0+H=E.length/\ H+([l.getD x8.toNat 0]:Ξ).length<=Av/\ AG (x8+1) then self (.l2 (x8+1) (o0.set (0+((l.getD x8.toNat 0).toNat)) true) (H+([l.getD x8.toNat 0]:Ξ).length) (E++([l.getD x8.toNat 0]:Ξ))) else none else if AG (x8+1) then self (.l2 (x8+1) o0 H E) else none else none else some (o0,0,H,E,false)
def zPa (n:Nat)(self:Ui -> X1)(l:Ξ)(ws:Ω):X1:= self (.l1 0)
def Kw (l:Ξ)(v:Ω):Nat -> Ui -> X1
 | 0,_=>none
 | n+1,.l1 x8=>oz n (Kw l v n) l v x8
 | n+1,.l2 x8 o0 H E=>Yf n (Kw l v n) l v x8 o0 H E
def Uj (n:Nat)(l:Ξ)(v:Ω):X1:=zPa n (Kw l v n) l v
def zPb (n B:Nat)(N:Yd 2)(l:Ξ)(v:Ω)(r:Ω×Nat×Nat×Ξ×Bool):Ui -> Prop:=px n B Fence.wide N (FQ Tryz.f116 2 (.tup 0 (λj=>([]:List DV).getD j .any)) (bif r.2.2.2.2 then [some (.bools r.1),oC [.nils]] else [some (.bools r.1),oC [.mse 2 1 r.2.1 r.2.2.1],oI r.2.2.2.1])) (Ac Tryz.f116) λ
 | .l1 x8=>(0,0,AH 23 [(1,.mp 0 1 0 0),(2,.ref 1 0),(6,.ints l),(7,.i (l.length:Int)),(8,.i x8)],[some (.bools v),oC [.nils]])
 | .l2 x8 o0 H E=>(0,0,AH 23 [(1,.mp 0 1 0 0),(2,.ref 1 0),(6,.ints l),(7,.i (l.length:Int)),(8,.i x8)],[some (.bools o0),oC [.mse 2 1 0 H],oI E])
def zPc (B:Nat)(N:Yd 2)(l:Ξ)(v:Ω):Al (Kw l v) (zPb · B N l v):=ia (λ_=>rfl) λn w d r h=>by
 cases d
 case l1 x8=>
  intro b a;refine rd a λb a=>?_
  revert r;apply gO;exact bi 9 (gc (gi (gc (gn λp=>jg p (gn λc=>jg c (bi 15 (jg p (jg c (gc (gi (jo 21 (AM.msl_mse (k:=3) (m:=1) (o:=0) (n:=([l.getD x8.toNat 0]:Ξ).length)) (jt (gw 22 (lG AD [0,1,3] (w _ _ · b a))))))))) (gw 22 (lG AD [0,1] (w _ _ · b a))))))))) (lE AD [] [0,1])
 case l2 x8 o0 Cr o2=>
  intro b a;refine rd a λb a=>?_
  revert r;apply gO;exact bi 9 (gc (gi (gc (gn λp=>jg p (gn λc=>jg c (bi 15 (jg p (jg c (jg (And.intro (Eq.refl 0) (Eq.refl 1)) (jg (by decide:0<1) (gc (gi (gc (gi (jt (gw 22 (lG AD [0,1,4] (w _ _ · b a)))))))))))) (gw 22 (lG AD [0,1,2] (w _ _ · b a))))))))) (lE AD [] [0,1,2])
variable {r:Ω×Nat×Nat×Ξ×Bool}{v:Ω}{l:Ξ}
def zAx (h:Uj n l v=some r):EQ 116 [.ints l,.mp 0 1 0 0,.ref 1 0] [some (.bools v),oC [.nils]] (.tup 0 (λj=>([]:List DV).getD j .any)) (bif r.2.2.2.2 then [some (.bools r.1),oC [.nils]] else [some (.bools r.1),oC [.mse 2 1 r.2.1 r.2.2.1],oI r.2.2.2.1]) false:=by
 refine ot Tryz.func116 (hni:=by cases r.2.2.2.2 <;> rfl) λB N=>?_
 revert r;apply gO;exact lN AD [0,1] ((zPc B N l v n) _ _ · n Nat.le.refl)
def zAw (h:Uj n l v=some r)(c:r.2.2.2.2=true):EQ 116 [.ints l,.mp 0 1 0 0,.ref 1 0] [some (.bools v),oC [.nils]] (.tup 0 (λj=>([]:List DV).getD j .any)) [some (.bools r.1),oC [.nils]] false:=by
 have:=zAx h;rw [c] at this;exact this
def zAv (h:Uj n l v=some r)(c:r.2.2.2.2=false):EQ 116 [.ints l,.mp 0 1 0 0,.ref 1 0] [some (.bools v),oC [.nils]] (.tup 0 (λj=>([]:List DV).getD j .any)) [some (.bools r.1),oC [.mse 2 1 r.2.1 r.2.2.1],oI r.2.2.2.1] false:=by
 have:=zAx h;rw [c] at this;exact this
inductive fw where
 | l1 (x8:Int) (o0:Ω) (LZ Cr:Nat) (o3:Ξ)
def Yg (n:Nat)(self:fw -> X3)(l:Ξ)(ws:Ω)(o_ n_:Nat)(qu:Ξ)(x8:Int)(o0:Ω)(S H:Nat)(q:Ξ):X3:= bif (decide (x8<(l.length:Int))) then if (0<=x8/\ x8<(l.length:Int))/\ (0<=(l.getD x8.toNat 0)/\ (l.getD x8.toNat 0)<((4096:Nat):Int))/\ 0+((l.getD x8.toNat 0).toNat)<o0.length then bif (!(o0.getD (0+((l.getD x8.toNat 0).toNat)) false)) then if S+H=q.length/\ H+([l.getD x8.toNat 0]:Ξ).length<=Av/\ AG (x8+1) then self (.l1 (x8+1) (o0.set (0+((l.getD x8.toNat 0).toNat)) true) 0 (H+([l.getD x8.toNat 0]:Ξ).length) ((q.drop S)++([l.getD x8.toNat 0]:Ξ))) else none else if AG (x8+1) then self (.l1 (x8+1) o0 S H q) else none else none else some (o0,S,H,q)
def zPd (n:Nat)(self:fw -> X3)(l:Ξ)(v:Ω)(h P:Nat)(D:Ξ):X3:= self (.l1 0 v h P D)
def RT (l:Ξ)(v:Ω)(h P:Nat)(D:Ξ):Nat -> fw -> X3
 | 0,_=>none
 | n+1,.l1 x8 o0 S H q=>Yg n (RT l v h P D n) l v h P D x8 o0 S H q
def NK (n:Nat)(l:Ξ)(v:Ω)(h P:Nat)(D:Ξ):X3:=zPd n (RT l v h P D n) l v h P D
def zPf (n B:Nat)(N:Yd 3)(l:Ξ)(ws:Ω)(o_ n_:Nat)(qu:Ξ)(r:Ω×Nat×Nat×Ξ):fw -> Prop:=px n B Fence.wide N (FQ Tryz.f116 3 (.tup 0 (λj=>([]:List DV).getD j .any)) [some (.bools r.1),oC [.mse 3 1 r.2.1 r.2.2.1],none,oI r.2.2.2]) (Ac Tryz.f116) λ
 | .l1 x8 o0 S H q=>(0,0,AH 23 [(1,.mp 0 1 0 0),(2,.ref 1 0),(6,.ints l),(7,.i (l.length:Int)),(8,.i x8)],[some (.bools o0),oC [.mse 3 1 S H],none,oI q])
def zPg (B:Nat)(N:Yd 3)(l:Ξ)(v:Ω)(a P:Nat)(D:Ξ):Al (RT l v a P D) (zPf · B N l v a P D):=ia (λ_=>rfl) λn w c r h=>by
 cases c
 case l1 x8 o0 LZ Cr o3=>
  intro m k;refine rd k λm k=>?_
  revert r;apply gO;exact bi 9 (gc (gi (gc (gn λp=>jg p (gn λb=>jg b (bi 15 (jg p (jg b (jg (And.intro (Eq.refl 0) (Eq.refl 1)) (jg (by decide:0<1) (gc (gi (gc (gi (jt (gw 22 (lG AD [0,1,2,5] (w _ _ · m k)))))))))))) (gw 22 (lG AD [0,1,2,3] (w _ _ · m k))))))))) (lE AD [] [0,1,2,3])
def o9 {a P:Nat}{D:Ξ}{r:Ω×Nat×Nat×Ξ}(h:NK n l v a P D=some r):EQ 116 [.ints l,.mp 0 1 0 0,.ref 1 0] [some (.bools v),oC [.mse 2 1 a P],oI D] (.tup 0 (λj=>([]:List DV).getD j .any)) [some (.bools r.1),oC [.mse 3 1 r.2.1 r.2.2.1],none,oI r.2.2.2] false:=by
 refine ot Tryz.func116 λB N=>?_
 refine BI.le (A7.moveE 2 ⟨AH 23 [(0,.ints l),(1,.mp 0 1 0 0),(2,.ref 1 0)],[some (.bools v),oC [.mse 3 1 a P],none,oI D]⟩ Z5) Z5 ?_;revert r;apply gO;exact lN AD [0,1,2,3] ((zPg B N l v a P D n) _ _ · n Nat.le.refl)
def vU (n:Nat)(c:Int)(q:AA):W9:= bif (decide (c<0)) then some true else some (decide (c>=q.ce))
def bq (n:Nat)(c:Int)(q:AA):W9:=vU n c q
def zHf {c:Int}{r:Bool}(h:bq n c q=some r):EQ 100 [.i c,.fp 5 (L1 (AE q))] [] (.bool r) [] true:=by
 refine ot Tryz.func100 λB N=>?_
 revert r;apply gO;exact bi 5 (lE AD [3] []) (lE AD [3] [])
inductive cz where
 | l1 (x8:Int)
def TZ (n:Nat)(self:cz -> Option Int)(l:Ξ)(q:AA)(x8:Int):Option Int:= bif (decide (x8<(l.length:Int))) then if 0<=x8/\ x8<(l.length:Int) then (bq n (l.getD x8.toNat 0) q).bind λe=> bif e then some x8 else if AG (x8+1) then self (.l1 (x8+1)) else none else none else some (-1)
def zJb (n:Nat)(self:cz -> Option Int)(l:Ξ)(q:AA):Option Int:= self (.l1 0)
def Mp (l:Ξ)(q:AA):Nat -> cz -> Option Int
 | 0,_=>none
 | n+1,.l1 x8=>TZ n (Mp l q n) l q x8
def xA (n:Nat)(l:Ξ)(q:AA):Option Int:=zJb n (Mp l q n) l q
def zJc (n B:Nat)(N:Yd 0)(l:Ξ)(q:AA)(r:Int):cz -> Prop:=px n B Fence.wide N (FQ Tryz.f85 0 (.i r) []) (Ac Tryz.f85) λ
 | .l1 x8=>(0,0,AH 19 [(0,.ints l),(1,.fn 100 1 (L1 [.fp 5 (L1 (AE q))])),(7,.i (l.length:Int)),(8,.i x8)],[])
def zJd (B:Nat)(N:Yd 0)(l:Ξ)(q:AA):Al (Mp l q) (zJc · B N l q):=ia (λ_=>rfl) λn w a r h=>by
 cases a
 case l1 x8=>
  intro m k;refine rd k λm k=>?_
  revert r;apply gO;exact bi 9 (gi (cf zHf [] λ_=>bi 16 (lE AD [4] []) (gw 18 (lG AD [] (w _ _ · m k))))) (lE AD [4] [])
def zJa {r:Int}(h:xA n l q=some r):EQ 85 [.ints l,.fn 100 1 (L1 [.fp 5 (L1 (AE q))])] [] (.i r) [] true:=by
 refine ot Tryz.func85 λB N=>?_
 revert r;apply gO;exact lN AD [] ((zJd B N l q n) _ _ · n Nat.le.refl)
def ze (n:Nat)(l:Ξ)(q:AA):W9:= (xA n l q).bind λe=> some (decide (e>=0))
def fF (n:Nat)(l:Ξ)(q:AA):W9:=ze n l q
def zOB {r:Bool}(h:fF n l q=some r):EQ 76 [.ints l,.fn 100 1 (L1 [.fp 5 (L1 (AE q))])] [] (.bool r) [] true:=by
 unfold fF ze at h;refine ot Tryz.func76 λB N=>?_
 revert r;apply gO;exact cf zJa [] λ_=>lE AD [4] []
def zDo:Ae (A0 Tryz.f101 32) [] (List.range 9) []:=Z0
def FJ:BF:=λi=>match i with
 | 32=>.ord [] (List.range 9) []
 | _=>.no
def xX (cells:Ξ)(q:AA)(E:Ω)(o1:Int -> Ξ)(h:Int):DH:=[oC (AE q),none,some (.bools E),oC [.nils],some (.mo (.rows o1 (some (cells.getD h.toNat 0,o1 (cells.getD h.toNat 0),false))))]
def zLB (cells:Ξ)(q:AA)(E:Ω)(n L:Nat)(o4:Ξ)(o1:Int -> Ξ)(h:Int):DH:=[oC (AE q),none,some (.bools E),oC [.mse 4 1 n L],oI o4,some (.mo (.rows o1 (some (cells.getD h.toNat 0,o1 (cells.getD h.toNat 0),false))))]
def xW (cells:Ξ)(q:AA)(o1:Int -> Ξ)(E:Ω)(n L:Nat)(o4:Ξ):DH:=[oC (AE q),some (.mo (.rows o1 none)),some (.bools E),oC [.mse 4 1 n L],oI o4]
def zLA (cells:Ξ)(q:AA)(o1:Int -> Ξ)(E:Ω)(o4:Ξ)(n L:Nat):DH:=[oC (AE q),some (.mo (.rows o1 none)),some (.bools (E.set (0+((o4.getD (n+0) 0).toNat)) false)),oC [.mse 4 1 (n+1) (L-1)],oI o4]
def zK9 (cells:Ξ)(q:AA)(E:Ω)(n L:Nat)(o4:Ξ)(o1:Int -> Ξ)(U:Int):DH:=[oC (AE q),none,some (.bools E),oC [.mse 4 1 n L],oI o4,some (.mo (.rows o1 (some (U,o1 U,false))))]
inductive KA where
 | l1 (x9 Bu:Ξ) (Cy Bi:Int) (o1:Int -> Ξ)
 | l2 (x9:Ξ) (AQ:Int) (Bu:Ξ) (Cy Bi:Int) (I0:Ξ) (Dj HM:Int) (o1:Int -> Ξ)
 | l3 (x9:Ξ) (Ca:Int) (o1:Int -> Ξ) (o2:Ω)
 | l4 (x9:Ξ) (Ca:Int) (o1:Int -> Ξ) (o2:Ω) (Bs Af:Nat) (o4:Ξ)
 | l5 (o1:Int -> Ξ) (o2:Ω)
 | l6 (x1:Ξ) (o1:Int -> Ξ) (o2:Ω) (Bs Af:Nat) (o4:Ξ)
 | l7 (x1 x21:Ξ) (Dv E1:Int) (o1:Int -> Ξ) (o2:Ω) (Bs Af:Nat) (o4:Ξ)
def V9 (n:Nat)(self:KA -> Option Ξ)(q:AA)(pos cells:Ξ)(level:Int)(N o:Ξ)(V Q:Int)(o1:Int -> Ξ):Option Ξ:= bif (decide (Q<V)) then if (0<=Q/\ Q<(o.length:Int))/\ (0<=(o.getD Q.toNat 0)/\ (o.getD Q.toNat 0)<(q.cons.length:Int)) then self (.l2 N (o.getD Q.toNat 0) o V Q ((q.cons.getD ((o.getD Q.toNat 0).toNat) default).ce) ((((q.cons.getD ((o.getD Q.toNat 0).toNat) default).ce).length:Nat):Int) 0 o1) else none else self (.l3 N 0 o1 (List.replicate 4096 false))
def bR (n:Nat)(self:KA -> Option Ξ)(q:AA)(pos cells:Ξ)(level:Int)(N:Ξ)(k:Int)(o:Ξ)(V Q:Int)(w:Ξ)(O W:Int)(o1:Int -> Ξ):Option Ξ:= bif (decide (W<O)) then if (0<=W/\ W<(w.length:Int))/\ (o1 (w.getD W.toNat 0)).length+([k]:Ξ).length<=Av/\ AG (W+1) then self (.l2 N k o V Q w O (W+1) (IS o1 (w.getD W.toNat 0) ((o1 (w.getD W.toNat 0))++([k]:Ξ)))) else none else if AG (Q+1) then self (.l1 N o V (Q+1) o1) else none
def V8 (n:Nat)(self:KA -> Option Ξ)(q:AA)(pos cells:Ξ)(level:Int)(N:Ξ)(h:Int)(o1:Int -> Ξ)(E:Ω):Option Ξ:= bif (decide (h<(cells.length:Int))) then if 0<=h/\ h<(cells.length:Int) then (Uj n (o1 (cells.getD h.toNat 0)) E).bind λe=> bif e.2.2.2.2 then if AG (h+1) then self (.l3 N (h+1) o1 e.1) else none else if AG (h+1) then self (.l4 N (h+1) o1 e.1 e.2.1 e.2.2.1 e.2.2.2.1) else none else none else (Uj n N E).bind λe=> bif e.2.2.2.2 then self (.l5 o1 e.1) else self (.l6 pos o1 e.1 e.2.1 e.2.2.1 e.2.2.2.1)
def jd (n:Nat)(self:KA -> Option Ξ)(q:AA)(pos cells:Ξ)(level:Int)(N:Ξ)(h:Int)(o1:Int -> Ξ)(E:Ω)(a L:Nat)(o4:Ξ):Option Ξ:= bif (decide (h<(cells.length:Int))) then if 0<=h/\ h<(cells.length:Int) then (NK n (o1 (cells.getD h.toNat 0)) E a L o4).bind λe=> if AG (h+1) then self (.l4 N (h+1) o1 e.1 e.2.1 e.2.2.1 e.2.2.2) else none else none else (NK n N E a L o4).bind λe=> self (.l6 pos o1 e.1 e.2.1 e.2.2.1 e.2.2.2)
def zG7 (n:Nat)(self:KA -> Option Ξ)(q:AA)(pos cells:Ξ)(level:Int)(o1:Int -> Ξ)(o2:Ω):Option Ξ:= some pos
def bQ (n:Nat)(self:KA -> Option Ξ)(q:AA)(pos cells:Ξ)(level:Int)(J:Ξ)(o1:Int -> Ξ)(E:Ω)(a L:Nat)(o4:Ξ):Option Ξ:= bif (L==0) then some J else bif (decide ((L:Int)>0)) then (G9 n J).bind λe=> bif (!e) then if ((0:Int)<=0/\ 0<(L:Int))/\ a+0<o4.length/\ ((0:Int)<=1/\ (1:Int)<=(L:Int)/\ (L:Int)<=(L:Int))/\ (0<=(o4.getD (a+0) 0)/\ (o4.getD (a+0) 0)<((4096:Nat):Int))/\ 0+((o4.getD (a+0) 0).toNat)<E.length then (P4 n q (o4.getD (a+0) 0) J).bind λx=> bif (x.2 != 0) then some J else self (.l7 J x.1 (x.1.length:Int) 0 o1 (E.set (0+((o4.getD (a+0) 0).toNat)) false) (a+1) (L-1) o4) else none else some J else some J
def bP (n:Nat)(self:KA -> Option Ξ)(q:AA)(pos cells:Ξ)(level:Int)(J x21:Ξ)(d U:Int)(o1:Int -> Ξ)(E:Ω)(a L:Nat)(o4:Ξ):Option Ξ:= bif (decide (U<d)) then if (0<=U/\ U<(x21.length:Int))/\ (0<=U/\ U<(J.length:Int)) then bif ((x21.getD U.toNat 0) != (J.getD U.toNat 0)) then (NK n (o1 U) E a L o4).bind λe=> if AG (U+1) then self (.l7 J x21 d (U+1) o1 e.1 e.2.1 e.2.2.1 e.2.2.2) else none else if AG (U+1) then self (.l7 J x21 d (U+1) o1 E a L o4) else none else none else self (.l6 x21 o1 E a L o4)
def je (n:Nat)(self:KA -> Option Ξ)(q:AA)(pos cells:Ξ)(level:Int):Option Ξ:= (G9 n pos).bind λe=> bif e then if ((pos.length:Int):Int)=(pos.length:Int)/\ 0<=(pos.length:Int)/\ ((pos.length:Int):Int)<=1000000000000 then if pos.length=(List.replicate pos.length (0:Int)).length then some (List.replicate pos.length (0:Int)) else none else none else (Uz n q level).bind λx=> self (.l1 x x (x.length:Int) 0 (λ_=>[]))
def CQ (q:AA)(pos cells:Ξ)(level:Int):Nat -> KA -> Option Ξ
 | 0,_=>none
 | n+1,.l1 N o V Q o1=>V9 n (CQ q pos cells level n) q pos cells level N o V Q o1
 | n+1,.l2 N k o V Q w O W o1=>bR n (CQ q pos cells level n) q pos cells level N k o V Q w O W o1
 | n+1,.l3 N h o1 E=>V8 n (CQ q pos cells level n) q pos cells level N h o1 E
 | n+1,.l4 N h o1 E a L o4=>jd n (CQ q pos cells level n) q pos cells level N h o1 E a L o4
 | n+1,.l5 o1 E=>zG7 n (CQ q pos cells level n) q pos cells level o1 E
 | n+1,.l6 J o1 E a L o4=>bQ n (CQ q pos cells level n) q pos cells level J o1 E a L o4
 | n+1,.l7 J x21 d U o1 E a L o4=>bP n (CQ q pos cells level n) q pos cells level J x21 d U o1 E a L o4
def WB (n:Nat)(q:AA)(pos cells:Ξ)(level:Int):Option Ξ:=je n (CQ q pos cells level n) q pos cells level
def zG8 (n B:Nat)(N:Yd 0)(q:AA)(pos cells:Ξ)(level:Int)(r:Ξ):KA -> Prop:=px n B Fence.wide N (FQ Tryz.f101 0 (.ints r) []) (Ac Tryz.f101) λ
 | .l1 a o V Q o1=>(0,0,AH 123 [(1,.ints pos),(2,.ints cells),(4,.ref 0 0),(9,.ints a),(10,.mri 1 0),(33,.ints o),(34,.i V),(35,.i Q)],[oC (AE q),some (.mo (.rows o1 none))])
 | .l2 a k o V Q w O W o1=>(1,2,AH 123 [(1,.ints pos),(2,.ints cells),(4,.ref 0 0),(9,.ints a),(10,.mri 1 0),(12,.i k),(33,.ints o),(34,.i V),(35,.i Q),(44,.ints w),(45,.i O),(46,.i W)],[oC (AE q),some (.mo (.rows o1 none))])
 | .l3 a h o1 E=>(0,4,AH 123 [(1,.ints pos),(4,.ref 0 0),(9,.ints a),(10,.mri 1 0),(15,.mp 2 1 0 0),(16,.ref 3 0),(17,.fn 116 2 (L1 [.mp 2 1 0 0,.ref 3 0])),(61,.ints cells),(62,.i (cells.length:Int)),(63,.i h)],[oC (AE q),some (.mo (.rows o1 none)),some (.bools E),oC [.nils]])
 | .l4 a h o1 E b L o4=>(0,4,AH 123 [(1,.ints pos),(4,.ref 0 0),(9,.ints a),(10,.mri 1 0),(15,.mp 2 1 0 0),(16,.ref 3 0),(17,.fn 116 2 (L1 [.mp 2 1 0 0,.ref 3 0])),(61,.ints cells),(62,.i (cells.length:Int)),(63,.i h)],[oC (AE q),some (.mo (.rows o1 none)),some (.bools E),oC [.mse 4 1 b L],oI o4])
 | .l5 o1 E=>(0,6,AH 123 [(1,.ints pos),(4,.ref 0 0),(10,.mri 1 0),(15,.mp 2 1 0 0),(16,.ref 3 0),(17,.fn 116 2 (L1 [.mp 2 1 0 0,.ref 3 0]))],[oC (AE q),some (.mo (.rows o1 none)),some (.bools E),oC [.nils]])
 | .l6 J o1 E b L o4=>(0,6,AH 123 [(1,.ints J),(4,.ref 0 0),(10,.mri 1 0),(15,.mp 2 1 0 0),(16,.ref 3 0),(17,.fn 116 2 (L1 [.mp 2 1 0 0,.ref 3 0]))],[oC (AE q),some (.mo (.rows o1 none)),some (.bools E),oC [.mse 4 1 b L],oI o4])
 | .l7 J x21 d U o1 E b L o4=>(1,8,AH 123 [(1,.ints J),(4,.ref 0 0),(10,.mri 1 0),(15,.mp 2 1 0 0),(16,.ref 3 0),(17,.fn 116 2 (L1 [.mp 2 1 0 0,.ref 3 0])),(21,.ints x21),(102,.i d),(103,.i U)],[oC (AE q),some (.mo (.rows o1 none)),some (.bools E),oC [.mse 4 1 b L],oI o4])
def zG9 (B:Nat)(N:Yd 0)(q:AA)(pos cells:Ξ)(level:Int):Al (CQ q pos cells level) (zG8 · B N q pos cells level):=ia (λ_=>rfl) λn w i r h=>by
 cases i
 case l1 x9 Bu Cy Bi o1=>
  intro b a;refine rd a λb a=>?_
  revert r;apply gO;exact bi 36 (gc (gi (gi (lN FJ [0,1] (w _ _ · b n a Nat.le.refl))))) (lN FJ [0,1,2,3] (w _ _ · n Nat.le.refl))
 case l2 x9 AQ Bu Cy Bi I0 Dj HM o1=>
  intro b g a j;have a:=zBR a;refine rd j λg j=>?_
  revert r;apply gO;exact bi 47 (gc (gi (jg (And.intro (Eq.refl 0) (Eq.refl 1)) (jg (by decide:0<1) (gc (gi (jg (Eq.refl (I0.getD HM.toNat 0)) (gw 58 (lG FJ [0,4] (w _ _ · b g a j)))))))))) (gw 59 (lG FJ [0,1] (w _ _ · b a)))
 case l3 x9 Ca o1 o2=>
  intro b a;refine rd a λb a=>?_
  revert r;apply gO;exact bi 64 (gi (cn λf c=>bn (λd=>jc (es (zAw c d) [2,3] (xX cells q o2 o1 Ca) [.mri 4 1,.mp 2 1 0 0,.ref 3 0] ⟨(.inr (NN.own rfl rfl)),(.inl rfl),(.inl rfl),trivial⟩) (ju 71 4 (gw 72 (lG FJ [0,4,2,3] (w _ _ · b a))))) (λd=>jc (es (zAv c d) [2,3] (xX cells q o2 o1 Ca) [.mri 4 1,.mp 2 1 0 0,.ref 3 0] ⟨(.inr (NN.own rfl rfl)),(.inl rfl),(.inl rfl),trivial⟩) (ju 71 4 (gw 72 (lG FJ [0,4,2,3,5] (w _ _ · b a))))))) (cn λf c=>bn (λd=>jc (em (zAw c d) [2,3] [oC (AE q),some (.mo (.rows o1 none)),some (.bools o2),oC [.nils]]) (lN FJ [0,1,2,3] (w _ _ · n Nat.le.refl))) (λd=>jc (em (zAv c d) [2,3] [oC (AE q),some (.mo (.rows o1 none)),some (.bools o2),oC [.nils]]) (lN FJ [0,1,2,3,4] (w _ _ · n Nat.le.refl))))
 case l4 x9 Ca o1 o2 Bs Af o4=>
  intro b a;refine rd a λb a=>?_
  revert r;apply gO;exact bi 64 (gi (cn λf c=>jc (es (o9 c) [2,3,4] (zLB cells q o2 Bs Af o4 o1 Ca) [.mri 5 1,.mp 2 1 0 0,.ref 3 0] ⟨(.inr (NN.own rfl rfl)),(.inl rfl),(.inl rfl),trivial⟩) (ju 71 5 (gw 72 (lG FJ [0,5,2,3,6] (w _ _ · b a)))))) (ce o9 [2,3,4] (xW cells q o1 o2 Bs Af o4) λ_=>lN FJ [0,1,2,3,5] (w _ _ · n Nat.le.refl))
 case l5 o1 o2=>
  intro b a;refine rd a λb a=>?_
  revert r;apply gO;exact lE FJ [8] []
 case l6 x1 o1 o2 Bs Af o4=>
  intro b a;refine rd a λb a=>?_
  revert r;apply gO;exact bn (λe=>jo 76 (AM.mse_nil (k:=4) (m:=1) (o:=Bs) (zLx e)) (lE FJ [8] [])) (λe=>jo 76 (AM.mse_msl (k:=4) (m:=1) (o:=Bs) (bT e) rfl) (bi 78 (cf Qa (xW cells q o1 o2 Bs Af o4) λ_=>bi 82 (jo 84 (AM.mse_msl (k:=4) (m:=1) (o:=Bs) (bT e) rfl) (gc (gi (gc (gi (jo 87 (AM.mse_msl (k:=4) (m:=1) (o:=Bs) (bT e) rfl) (gc (gi (jt (gc (gi (gi (cf us (zLA cells q o1 o2 o4 Bs Af) λ_=>bi 99 (lE FJ [8] []) (lN FJ [0,1,2,3,4] (w _ _ · b n a Nat.le.refl))))))))))))))) (lE FJ [8] [])) (lE FJ [8] [])))
 case l7 x1 x21 Dv E1 o1 o2 Bs Af o4=>
  intro b g a j;have a:=zBR a;refine rd j λg j=>?_
  revert r;apply gO;exact bi 104 (jg zDo (gc (gi (gi (bi 114 (cn λf c=>jc (es (o9 c) [2,3,4] (zK9 cells q o2 Bs Af o4 o1 E1) [.mri 5 1,.mp 2 1 0 0,.ref 3 0] ⟨(.inr (NN.own rfl rfl)),(.inl rfl),(.inl rfl),trivial⟩) (ju 119 5 (gw 120 (lG FJ [0,5,2,3,6] (w _ _ · b g a j))))) (gw 120 (lG FJ [0,1,2,3,4] (w _ _ · b g a j)))))))) (lG FJ [0,1,2,3,4] (w _ _ · b a))
variable {pos cells:Ξ}
def zG6 {r:Ξ}(h:WB n q pos cells level=some r):EQ 101 [.agg 5 (L1 (AE q)),.ints pos,.ints cells,.i level] [] (.ints r) [] true:=by
 refine ot Tryz.func101 λB N=>?_
 revert r;apply gO;exact cf Qa [oC (AE q)] λ_=>bi 25 (gi (gn λa=>lF λp=>ez FJ [8] [1] p [0] (H0.g a))) (cf pw [oC (AE q)] λ_=>lN FJ [0,1] ((zG9 B N q pos cells level n) _ _ · n Nat.le.refl))
def zAq (n:Nat)(q:AA)(pos cells:Ξ)(level:Int):W6:= (Fd n q pos).bind λe=> bif (e != 0) then some (([]:Ξ),e) else (fF n cells q).bind λx=> bif x then some (([]:Ξ),1) else (WB n q pos cells level).bind λy3=> some (y3,0)
def fv (n:Nat)(q:AA)(pos cells:Ξ)(level:Int):W6:=zAq n q pos cells level
def zPY {r:Ξ×Int}(h:fv n q pos cells level=some r):EQ 86 [.agg 5 (L1 (AE q)),.ints pos,.ints cells,.i level] [] (.tup 2 (L1 [.ints r.1,.i r.2])) [] true:=by
 unfold fv zAq at h;refine ot Tryz.func86 λB N=>?_
 revert r;apply gO;exact cf MY [oC (AE q)] λe=>bi 14 (lF λp=>el AD [8,9] [] p [] H0 [.nils,.i e] (AM.tupL (l:=[.nils,.i e]) (l':=[.ints ([]:Ξ),.i e]) rfl ⟨AM.ints_nil,Ar,trivial⟩)) (cn λy2 A=>jc (sb [.ints cells,.fn 100 1 (L1 [.ref 0 0])] (zOB A) [oC (AE q)] ⟨Ax.plain Z5,(Ax.fnL (l:=[.ref 0 0]) (l0:=[.fp 5 (L1 (AE q))]) ⟨(Ax.refL (l:=(AE q)) (l0:=(AE q)) rfl ⟨Ax.plain Z5,Ax.plain Z5,Ax.plain Z5,Ax.plain Z5,Ax.plain Z5,trivial⟩),trivial⟩),trivial⟩) (bi 18 (lF λp=>el AD [8,9] [] p [] H0 [.nils,.i 1] (AM.tupL (l:=[.nils,.i 1]) (l':=[.ints ([]:Ξ),.i 1]) rfl ⟨AM.ints_nil,Ar,trivial⟩)) (cf zG6 [oC (AE q)] λ_=>lE AD [8,9] [])))
def zAp (n:Nat)(q:AA)(pos:Ξ)(level:Int):W6:= (fv n q pos ([]:Ξ) level).bind λe=> some (e.1,e.2)
def Yc (n:Nat)(q:AA)(pos:Ξ)(level:Int):W6:=zAp n q pos level
def zPW {r:Ξ×Int}(h:Yc n q pos level=some r):EQ 52 [.agg 5 (L1 (AE q)),.ints pos,.i level] [] (.tup 2 (L1 [.ints r.1,.i r.2])) [] true:=by
 unfold Yc zAp at h;refine ot Tryz.func52 λB N=>?_
 revert r;apply gO;exact cn λy1 a=>jc (fb (ES.argsLe (ds:=[.agg 5 (L1 (AE q)),.ints pos,.nils,.i level]) (zPY a) ⟨Ar,Ar,AM.ints_nil,Ar,trivial⟩) [oC (AE q)]) (lE AD [6,7] [])
def zv (n:Nat)(y:Int)(q:AA)(pos:Ξ):W0:= (P4 n q y pos).bind λe=> bif (e.2 != 0) then some (false,pos) else (Xr n e.1 pos).bind λx=> bif x then some (false,pos) else some (true,e.1)
def fQ (n:Nat)(y:Int)(q:AA)(pos:Ξ):W0:=zv n y q pos
def zOU {y:Int}{r:Bool×Ξ}(h:fQ n y q pos=some r):EQ 82 [.i y,.ref 0 0,.ref 1 0] [oC (AE q),oC [.ints pos]] (.bool r.1) [oC (AE q),oC [.ints r.2]] false:=by
 unfold fQ zv at h;refine ot Tryz.func82 λB N=>?_
 revert r;apply gO;exact cf us [oC (AE q),oC [.ints pos]] λ_=>bi 15 (lE AD [4] [0,1]) (cf zNU [oC (AE q),oC [.ints pos]] λ_=>bi 19 (lE AD [4] [0,1]) (jt (lE AD [4] [0,1])))
inductive dF where
 | l1 (x8:Int) (Cr:Ξ)
def dE (n:Nat)(self:dF -> W7)(l:Ξ)(q:AA)(pos:Ξ)(x8:Int)(H:Ξ):W7:= bif (decide (x8<(l.length:Int))) then if 0<=x8/\ x8<(l.length:Int) then (fQ n (l.getD x8.toNat 0) q H).bind λe=> bif e.1 then some (x8,e.2) else if AG (x8+1) then self (.l1 (x8+1) e.2) else none else none else some ((-1),H)
def zJh (n:Nat)(self:dF -> W7)(l:Ξ)(q:AA)(pos:Ξ):W7:= self (.l1 0 pos)
def Mq (l:Ξ)(q:AA)(pos:Ξ):Nat -> dF -> W7
 | 0,_=>none
 | n+1,.l1 x8 H=>dE n (Mq l q pos n) l q pos x8 H
def Ta (n:Nat)(l:Ξ)(q:AA)(pos:Ξ):W7:=zJh n (Mq l q pos n) l q pos
def zJi (n B:Nat)(N:Yd 2)(l:Ξ)(q:AA)(pos:Ξ)(r:Int×Ξ):dF -> Prop:=px n B Fence.wide N (FQ Tryz.f85 2 (.i r.1) [oC (AE q),oC [.ints r.2]]) (Ac Tryz.f85) λ
 | .l1 x8 H=>(0,0,AH 19 [(0,.ints l),(1,.fn 82 2 (L1 [.ref 0 0,.ref 1 0])),(7,.i (l.length:Int)),(8,.i x8)],[oC (AE q),oC [.ints H]])
def zJj (B:Nat)(N:Yd 2)(l:Ξ)(q:AA)(pos:Ξ):Al (Mq l q pos) (zJi · B N l q pos):=ia (λ_=>rfl) λn w a r h=>by
 cases a
 case l1 x8 Cr=>
  intro m k;refine rd k λm k=>?_
  revert r;apply gO;exact bi 9 (gi (ce zOU [0,1] [oC (AE q),oC [.ints Cr]] λ_=>bi 16 (lE AD [4] [0,1]) (gw 18 (lG AD [0,1] (w _ _ · m k))))) (lE AD [4] [0,1])
def xC {r:Int×Ξ}(h:Ta n l q pos=some r):EQ 85 [.ints l,.fn 82 2 (L1 [.ref 0 0,.ref 1 0])] [oC (AE q),oC [.ints pos]] (.i r.1) [oC (AE q),oC [.ints r.2]] false:=by
 refine ot Tryz.func85 λB N=>?_
 revert r;apply gO;exact lN AD [0,1] ((zJj B N l q pos n) _ _ · n Nat.le.refl)
inductive TG where
 | l1 (x8:Ξ)
 | l2 (x6:Nat) (x8 Ce o1:Ξ)
def WO (n:Nat)(self:TG -> W6)(q:AA)(pos:Ξ)(level:Int)(x8:Ξ):W6:= (G9 n pos).bind λe=> bif (!e) then (Ta n x8 q pos).bind λx=> bif (decide (x.1<0)) then some (([]:Ξ),0) else if (0<=x.1/\ x.1<(x8.length:Int))/\ ((0=0/\ 1=([x8.getD ((x.1).toNat) 0]:Ξ).length)/\ 0<([x8.getD ((x.1).toNat) 0]:Ξ).length/\ ([x8.getD ((x.1).toNat) 0]:Ξ).length<=Av) then self (.l2 (([x8.getD ((x.1).toNat) 0]:Ξ).length) x8 x.2 ([x8.getD ((x.1).toNat) 0]:Ξ)) else none else some (([]:Ξ),0)
def WN (n:Nat)(self:TG -> W6)(q:AA)(pos:Ξ)(level:Int)(c:Nat)(x8 a o1:Ξ):W6:= (G9 n a).bind λe=> bif (!e) then (Ta n x8 q a).bind λx=> bif (decide (x.1<0)) then if c=o1.length then some (o1,0) else none else if (0<=x.1/\ x.1<(x8.length:Int))/\ ((0=0/\ 1=([x8.getD ((x.1).toNat) 0]:Ξ).length)/\ (0=0/\ c=o1.length)/\ o1.length+([x8.getD ((x.1).toNat) 0]:Ξ).length<=Av) then self (.l2 (o1.length+([x8.getD ((x.1).toNat) 0]:Ξ).length) x8 x.2 (o1++([x8.getD ((x.1).toNat) 0]:Ξ))) else none else if c=o1.length then some (o1,0) else none
def zHq (n:Nat)(self:TG -> W6)(q:AA)(pos:Ξ)(level:Int):W6:= (Fd n q pos).bind λe=> bif (e != 0) then some (([]:Ξ),e) else (Uz n q level).bind λx=> self (.l1 x)
def Id (q:AA)(pos:Ξ)(level:Int):Nat -> TG -> W6
 | 0,_=>none
 | n+1,.l1 x8=>WO n (Id q pos level n) q pos level x8
 | n+1,.l2 c x8 a o1=>WN n (Id q pos level n) q pos level c x8 a o1
def b5 (n:Nat)(q:AA)(pos:Ξ)(level:Int):W6:=zHq n (Id q pos level n) q pos level
def zHr (n B:Nat)(N:Yd 0)(q:AA)(pos:Ξ)(level:Int)(r:Ξ×Int):TG -> Prop:=px n B Fence.wide N (FQ Tryz.f51 0 (.tup 2 (L1 [.ints r.1,.i r.2])) []) (Ac Tryz.f51) λ
 | .l1 x8=>(0,0,AH 37 [(4,.ref 0 0),(6,.nils),(8,.ints x8),(9,.fn 82 2 (L1 [.ref 1 0,.ref 0 0]))],[oC [.ints pos],oC (AE q)])
 | .l2 c x8 a o1=>(0,0,AH 37 [(4,.ref 0 0),(6,.msl 1 1 0 c),(8,.ints x8),(9,.fn 82 2 (L1 [.ref 2 0,.ref 0 0]))],[oC [.ints a],oI o1,oC (AE q)])
def zHs (B:Nat)(N:Yd 0)(q:AA)(pos:Ξ)(level:Int):Al (Id q pos level) (zHr · B N q pos level):=ia (λ_=>rfl) λn w a r h=>by
 cases a
 case l1 x8=>
  intro m k;refine rd k λm k=>?_
  revert r;apply gO;exact cf Qa [oC [.ints pos],oC (AE q)] λ_=>bi 23 (ce xC [1,0] [oC [.ints pos],oC (AE q)] λ_=>bi 28 (lF λp=>el AD [6,7] [] p [] H0 [.nils,.i 0] (AM.tupL (l:=[.nils,.i 0]) (l':=[.ints ([]:Ξ),.i 0]) rfl ⟨AM.ints_nil,Ar,trivial⟩)) (gc (gi (gi (lG AD [0,3,1] (w _ _ · m k)))))) (lF λp=>el AD [6,7] [] p [] H0 [.nils,.i 0] (AM.tupL (l:=[.nils,.i 0]) (l':=[.ints ([]:Ξ),.i 0]) rfl ⟨AM.ints_nil,Ar,trivial⟩))
 case l2 x6 x8 Ce o1=>
  intro m k;refine rd k λm k=>?_
  revert r;apply gO;exact cf Qa [oC [.ints Ce],oI o1,oC (AE q)] λ_=>bi 23 (ce xC [2,0] [oC [.ints Ce],oI o1,oC (AE q)] λ_=>bi 28 (gn λW=>lF λp=>ez AD [6,7] [1] p [0] (H0.g W)) (gc (gi (gi (lG AD [0,4,2] (w _ _ · m k)))))) (gn λW=>lF λp=>ez AD [6,7] [1] p [0] (H0.g W))
def zHp {r:Ξ×Int}(h:b5 n q pos level=some r):EQ 51 [.agg 5 (L1 (AE q)),.ints pos,.i level] [] (.tup 2 (L1 [.ints r.1,.i r.2])) [] true:=by
 refine ot Tryz.func51 λB N=>?_
 revert r;apply gO;exact cf MY [oC (AE q),oC [.ints pos]] λe=>bi 15 (lF λp=>el AD [6,7] [] p [] H0 [.nils,.i e] (AM.tupL (l:=[.nils,.i e]) (l':=[.ints ([]:Ξ),.i e]) rfl ⟨AM.ints_nil,Ar,trivial⟩)) (cf pw [oC (AE q),oC [.ints pos]] λ_=>lN AD [1,0] ((zHs B N q pos level n) _ _ · n Nat.le.refl))
end
def AV {T R:Type}(m:Nat -> T -> Option R)(a b:T):Prop:=∃ N S,∀ n,N<=n -> m (n+S) a=m n b
section
variable {T R:Type} {m:Nat -> T -> Option R} {a b c:T} {r:R} {Q:R -> Prop}
theorem AV.refl:AV m a a:=⟨0,0,λ_ _=>rfl⟩
def AV.one (h: ∀ n,m (n+1) a=m n b):AV m a b:=⟨0,1,λn _=>h n⟩
def AV.oneN (N:Nat)(h: ∀ n,N<=n -> m (n+1) a=m n b):AV m a b:=⟨N,1,h⟩
theorem AV.trans (h:AV m a b)(d:AV m b c):AV m a c:=by
 obtain ⟨N,S,h⟩:=h;obtain ⟨g,X,d⟩:=d;exact ⟨max N g,X+S,λn hn=>Z4⟩
theorem AV.ev (h:AV m a b)(c:Ev (λn=>m n b) r):Ev (λn=>m n a) r:=by
 obtain ⟨N,S,h⟩:=h;obtain ⟨M,c⟩:=c;refine ⟨max N M+S,λn hn=>?_⟩;have:=h (n-S) Z2
 grind
def AV.pev (h:AV m a b)(c:AZ (λn=>m n b) Q):AZ (λn=>m n a) Q:=by
 obtain ⟨N,S,h⟩:=h;obtain ⟨M,c⟩:=c;refine ⟨max N M+S,λn hn=>?_⟩;have:=h (n-S) Z2;rw [show n-S+S=n by omega] at this;obtain ⟨r,d,A⟩:=c (n-S) Z2;exact ⟨r,this.trans d,A⟩
def Ev.one (h: ∀ n,m (n+1) a=some r):Ev (λn=>m n a) r:=⟨1,λn hn=>by
 obtain ⟨k,rfl⟩: ∃ k,n=k+1:=⟨n-1,Z2⟩;exact h k⟩
def Ev.oneN (N:Nat)(h: ∀ n,N<=n -> m (n+1) a=some r):Ev (λn=>m n a) r:=⟨N+1,λn hn=>by
 obtain ⟨k,rfl⟩: ∃ k,n=k+1:=⟨n-1,Z2⟩;exact h k Z2⟩
theorem D6 {S:Type}(st:Nat -> S -> T)(I:Nat -> S -> Prop)(len:Nat)(h: ∀ i s,i<len -> I i s -> ∃ q,I (i+1) q/\ AV m (st i s) (st (i+1) q)): ∀ (k i:Nat) (s:S),i+k=len -> I i s -> ∃ q,I len q/\ AV m (st i s) (st len q)
 | 0,i,s,e,a=>by
  grind [AV.refl]
 | k+1,i,s,e,a=>by
  obtain ⟨q,b,c⟩:=h i s Z2 a;obtain ⟨v,d,A⟩:=D6 st I len h k (i+1) q Z2 b;exact ⟨v,d,c.trans A⟩
end
section
variable {q:AA} {level:Int} {p:Ξ}
def GW (q:AA)(level:Int)(k:Nat):Ξ:=((List.range k).filter λi:Nat=>decide (KL (con q (i:Int)).kind<=level)).map λi:Nat=>(i:Int)
def Au (q:AA)(level:Int):Ξ:=GW q level q.cons.length
variable {k:Nat}
theorem zBW :GW q level (k+1)=GW q level k++if KL (con q (k:Int)).kind<=level then [(k:Int)] else []:=by
 grind [GW,List.range_succ]
theorem Ux :(GW q level k).length<=k:=by
 grind [GW]
theorem La {i:Int}:i∈Au q level↔Up q level i:=by
 unfold Au GW Up
 grind [con]
def Jv (acc:Ξ)(k:Nat):Rv:=if acc= [] then .l1 (k:Int) else .l2 acc.length (k:Int) acc
theorem wX (hv:C4 q=true)(hk:k<q.cons.length):Mm q (k:Int)=(KL (con q (k:Int)).kind,0):=by
 simp_all [Mm,con]
theorem zBY (S:Cm q)(s:C4 q=true){n:Nat}(u:EU q<=n)(hk:k<q.cons.length):I3 q level (n+1) (Jv (GW q level k) k)=I3 q level n (Jv (GW q level (k+1)) (k+1)):=by
 have h4:=(Dl s).2.2.2.2.1;have A:decide ((k:Int)<(q.cons.length:Int))=true:=zAC Z2;have j:AG ((k:Int)+1):=Aa.2 ⟨Z2,Z2⟩;rw [zBW]
 by_cases K:GW q level k= []
 ·rw [K,zLn]
  show ZE n (I3 q level n) q level (k:Int)=_
  unfold ZE;rw [A,zAG,kW S u,zAB,wX s hk]
  grind [Av,Jv]
 ·have Ag:=Ux (q:=q) (level:=level) (k:=k);have N:Jv (GW q level k) k= .l2 (GW q level k).length (k:Int) (GW q level k):=by unfold Jv;rw [zEO K]
  rw [N]
  show ZD n (I3 q level n) q level (GW q level k).length (k:Int) (GW q level k)=_
  unfold ZD;rw [A,zAG,kW S u,zAB,wX s hk]
  by_cases o:KL (con q (k:Int)).kind<=level
  ·rw [zAC o,zAG,zAE o,zAE ⟨⟨⟨rfl,rfl⟩,⟨rfl,rfl⟩,by unfold Av;simp;omega⟩,j⟩]
   simp_all [Jv]
  simp_all [zAF,zEO,Jv]
theorem pq (a:Cm q)(b:C4 q=true):Ev (λn=>Uz n q level) (Au q level):=by
 obtain ⟨_,_,h⟩:=D6 (m:=I3 q level) (S:=Unit) (λk _=>Jv (GW q level k) k) (λ_ _=>True) q.cons.length (λk s hk _=>⟨(),trivial,AV.oneN (EU q) λn u=>zBY a b u hk⟩) q.cons.length 0 () Z2 trivial;refine h.ev (Ev.one λn=>?_);have Ab:decide ((q.cons.length:Int)<(q.cons.length:Int))=false:=zAF Z2
 show I3 q level (n+1) (Jv (Au q level) q.cons.length)=some (Au q level)
 by_cases ha:Au q level= []
 ·simp_all [ZE,I3,Jv]
 simp_all [Jv,ZD,I3]
end
structure QI (K:Nat)(ws:Ω)(Q:Ξ):Prop where
 len:ws.length=4096
 nd:Q.Nodup
 rng: ∀ i∈Q,0<=i/\ i<(K:Int)
 iff: ∀ i:Nat,i<4096 -> (ws.getD i false=true↔(i:Int)∈Q)
section
variable {K o n:Nat} {ws:Ω} {Q l qu:Ξ} {v:Int}
def QI.le (h:QI K ws Q):Q.length<=K:=TI K Q h.nd h.rng
theorem QI.push (h:QI K ws Q)(hK:K<=4096)(h0:0<=v)(h1:v<(K:Int))(X:ws.getD v.toNat false=false):QI K (ws.set v.toNat true) (Q++[v]):=by
 have hv:v∉Q:=λz=>by
  have e:((v.toNat:Nat):Int)=v:=Z2
  have:=(h.iff v.toNat Z2).2 (by rw [e];exact z);rw [X] at this;cases this
 refine ⟨by rw [zJy];exact h.len,List.nodup_append.2 ⟨h.nd,Z3,λa ha b hb=>Z4⟩,λi hi=>?_,λi hi=>?_⟩
 ·rcases zLW.1 hi with hi | hi
  ·exact h.rng i hi
  grind
 ·rw [zLW,zMJ,←h.iff i hi,zBS,zMD,zBS];have hl:v.toNat<ws.length:=by rw [h.len];omega
  grind
theorem QI.pop (h:QI K ws (v::Q))(hK:K<=4096):QI K (ws.set v.toNat false) Q:=by
 obtain ⟨hv,u⟩:=List.nodup_cons.1 h.nd;have hr:=h.rng v Z3;refine ⟨by rw [zJy];exact h.len,u,λi hi=>h.rng i (by simp [hi]),λi hi=>?_⟩;rw [zBS,zMD]
 by_cases e:v.toNat=i
 ·grind
 ·rw [zEO e,←zBS,h.iff i hi,zKP]
  grind
structure MQ (K:Nat)(ws:Ω)(o n:Nat)(qu Q:Ξ):Prop where
 sum:o+n=qu.length
 eq:qu.drop o=Q
 qi:QI K ws Q
theorem MQ.cnt (h:MQ K ws o n qu Q):n=Q.length:=by rw [←h.eq,List.length_drop];have:=h.sum;omega
theorem zPe (g:K<=4096)(k: ∀ v∈l,0<=v/\ v<(K:Int))(G:l.length<=LB)(h:MQ K ws o n qu Q):
 ∃ W o' a c d,Ev (λm=>NK m l ws o n qu) (W,o',a,c)/\ MQ K W o' a c d/\ ∀ i,i∈d↔i∈Q∨i∈l:=by
 obtain ⟨⟨W,o',a,c,d⟩,⟨p,h2⟩,q⟩:=D6 (m:=RT l ws o n qu) (S:=Ω×Nat×Nat×Ξ×Ξ) (λj s=>.l1 (j:Int) s.1 s.2.1 s.2.2.1 s.2.2.2.1) (λj s=>MQ K s.1 s.2.1 s.2.2.1 s.2.2.2.1 s.2.2.2.2/\ ∀ i,i∈s.2.2.2.2↔i∈Q∨i∈l.take j) l.length (λj s hj r=>by
  obtain ⟨f,o1,E,I,b⟩:=s;obtain ⟨Y,DX⟩:=r;have Y:MQ K f o1 E I b:=Y;have A:decide ((j:Int)<(l.length:Int))=true:=zAC Z2;have t:AG ((j:Int)+1):=Aa.2 ⟨Z2,by unfold LB at G;omega⟩;have N:((j+1:Nat):Int)=(j:Int)+1:=Z2
  have Z:l.getD j 0∈l:=Z4
  obtain ⟨y,V⟩:=k _ Z;have xG:l.take (j+1)=l.take j++[l.getD j 0]:=by simp_all
  have u:(0<=(j:Int)/\ (j:Int)<(l.length:Int))/\ (0<=l.getD ((j:Int)).toNat 0/\ l.getD ((j:Int)).toNat 0<((4096:Nat):Int))/\ 0+(l.getD ((j:Int)).toNat 0).toNat<f.length:=by
   rw [u8,Y.qi.len];omega
  cases X:f.getD (l.getD j 0).toNat false with
  | false=>
   have Bc:=Y.qi.le;have hn:=Y.cnt;refine ⟨(f.set (l.getD j 0).toNat true,0,E+1,b++[l.getD j 0],b++[l.getD j 0]),⟨⟨Z7,rfl,Y.qi.push g y V X⟩,λi=>?_⟩,AV.one λm=>?_⟩
   ·grind
   ·show Yg m (RT l ws o n qu m) l ws o n qu (j:Int) f o1 E I=_
    unfold Yg;rw [A,zAG,zAE u,u8,zJv,X,zLd,zAG,zAE ⟨Y.sum,by unfold Av;simp;omega,t⟩,Y.eq,N];rfl
  | true=>
   refine ⟨(f,o1,E,I,b),⟨Y,λi=>?_⟩,AV.one λm=>?_⟩
   ·have CT:l.getD j 0∈b:=by
     have e:(((l.getD j 0).toNat:Nat):Int)=l.getD j 0:=Z2
     have:=(Y.qi.iff (l.getD j 0).toNat Z2).1 X;rw [e] at this;exact this
    grind
   simp_all [Yg,RT]) l.length 0 (ws,o,n,qu,Q) Z2 ⟨h,λi=>Z3⟩
 refine ⟨W,o',a,c,d,q.ev (Ev.one λm=>?_),p,λi=>Z4⟩
 grind [Yg,RT]
def MD (j:Nat)(s:Ω×Ξ):Ui:=if s.2= [] then .l1 (j:Int) else .l2 (j:Int) s.1 s.2.length s.2
theorem zAy (k:K<=4096)(o: ∀ v∈l,0<=v/\ v<(K:Int))(G:l.length<=LB)(h:QI K ws []):
 ∃ W Y,Ev (λm=>Uj m l ws) (W,0,Y.length,Y,decide (Y= []))/\ QI K W Y/\ ∀ i,i∈Y↔i∈l:=by
 obtain ⟨⟨W,Y⟩,⟨n,d,A⟩,p⟩:=D6 (m:=Kw l ws) (S:=Ω×Ξ) (λj s=>MD j s) (λj s=>QI K s.1 s.2/\ (∀ i,i∈s.2↔i∈l.take j)/\ (s.2= [] -> s.1=ws)) l.length (λj s hj q=>by
  obtain ⟨f,b⟩:=s;obtain ⟨c,DX,J⟩:=q;have c:QI K f b:=c;have g:decide ((j:Int)<(l.length:Int))=true:=zAC Z2;have r:AG ((j:Int)+1):=Aa.2 ⟨Z2,by unfold LB at G;omega⟩;have Z:l.getD j 0∈l:=Z4
  obtain ⟨y,V⟩:=o _ Z;have xG:l.take (j+1)=l.take j++[l.getD j 0]:=by simp_all
  have t:(0<=(j:Int)/\ (j:Int)<(l.length:Int))/\ (0<=l.getD ((j:Int)).toNat 0/\ l.getD ((j:Int)).toNat 0<((4096:Nat):Int))/\ 0+(l.getD ((j:Int)).toNat 0).toNat<f.length:=by
   rw [u8,c.len];omega
  have Bc:=c.le;cases X:f.getD (l.getD j 0).toNat false with
  | false=>
   refine ⟨(f.set (l.getD j 0).toNat true,b++[l.getD j 0]),⟨c.push k y V X,λi=>?_,λe=>by simp at e⟩,AV.one λm=>?_⟩
   ·grind
   ·have F:MD (j+1) (f.set (l.getD j 0).toNat true,b++[l.getD j 0])= .l2 ((j:Int)+1) (f.set (l.getD j 0).toNat true) (b.length+1) (b++[l.getD j 0]):=by
     simp_all [MD]
    rw [F]
    by_cases Q:b= []
    ·simp_all [MD,oz,Kw,Av]
    ·have B:MD j (f,b)= .l2 (j:Int) f b.length b:=by unfold MD;rw [zEO Q]
     rw [B]
     show Yf m (Kw l ws m) l ws (j:Int) f b.length b=_
     unfold Yf;rw [g,zAG,zAE t,u8,zJv,X,zLd,zAG,zAE ⟨Z2,by unfold Av;simp;omega,r⟩];rfl
  | true=>
   have I:l.getD j 0∈b:=by
    have e:(((l.getD j 0).toNat:Nat):Int)=l.getD j 0:=Z2
    have:=(c.iff (l.getD j 0).toNat Z2).1 X;rw [e] at this;exact this
   have Q:b≠[]:=λe=>by rw [e] at I;cases I
   refine ⟨(f,b),⟨c,λi=>?_,J⟩,AV.one λm=>?_⟩
   ·grind
   simp_all [MD,Yf,Kw]) l.length 0 (ws,[]) Z2 ⟨h,λi=>Z3,λ_=>rfl⟩
 have d: ∀ i,i∈Y↔i∈l:=λi=>Z4
 have A:Y= [] -> W=ws:=A;refine ⟨W,Y,?_,n,d⟩;have e0:Kw l ws=Kw l ws:=rfl;have g:decide ((l.length:Int)<(l.length:Int))=false:=zAF Z2;refine AV.ev (a:=MD 0 (ws,[])) p (Ev.one λm=>?_)
 grind [MD,oz,Kw,Yf]
end
def Fa (q:AA)(level:Int)(p g:Ξ):Prop:=(BJ p=true/\ g=List.replicate p.length 0)∨(BJ p=false/\ EO q (Up q level) p g/\ Iw q (Up q level) g)
structure OF (q:AA)(level:Int)(f:Int -> Ξ)(T:Nat):Prop where
 snd: ∀ c i,i∈f c -> Up q level i
 len: ∀ c,(f c).length<=T
section
variable {q:AA} {level:Int} {p cells:Ξ} {f:Int -> Ξ}
theorem Fa.uniq (hp:A4 q p){g t:Ξ}(h:Fa q level p g)(h':Fa q level p t):g=t:=by
 rcases h with ⟨a,b⟩ | ⟨a,b,h3⟩
 ·grind [Fa]
 grind [EO.uniq,Fa,Up]
variable {a:Nat}
theorem ZB (ha:a<(Au q level).length):Up q level ((Au q level).getD a 0):=by
 grind [La,List.getElem_mem]
theorem zOJ (s:C4 q=true){i:Int}(h:Up q level i):(∀ x∈(con q i).ce,0<=x/\ x<q.ce)/\ (con q i).ce.length<=256:=by
 have z:con q i∈q.cons:=by
  grind [con,Up]
 have O:=(Dl s).2.2.2.2.2 _ z;unfold Eu at O;simp only [zAD] at O;obtain ⟨a,b,_⟩:=oD.1 O.1.1.1.1.1;have h3:=(Dl s).1;refine ⟨a,?_⟩;have:=TI q.ce.toNat _ b λx d=>by have:=a x d;omega
 omega
theorem zHy (s:C4 q=true)(K:a<(Au q level).length){T:Nat}(hT:T<=2000000)(l:OF q level f T):
 ∃ L,AV (CQ q p cells level) (.l2 (Au q level) ((Au q level).getD a 0) (Au q level) ((Au q level).length:Int) (a:Int) (con q ((Au q level).getD a 0)).ce ((con q ((Au q level).getD a 0)).ce.length:Int) 0 f) (.l1 (Au q level) (Au q level) ((Au q level).length:Int) ((a+1:Nat):Int) L)/\
  OF q level L (T+256)/\ (∀ c i,i∈f c -> i∈L c)/\ ∀ c∈(con q ((Au q level).getD a 0)).ce,(Au q level).getD a 0∈L c:=by
 have e:=ZB K;obtain ⟨v,y⟩:=zOJ s e;have Qg:(Au q level).length<=4096:=zA4 Ux (Dl s).2.2.2.2.1
 generalize (Au q level).getD a 0=i at e v y ⊢
 generalize (con q i).ce=cs at v y ⊢
 obtain ⟨L,⟨k,o,r⟩,A⟩:=D6 (m:=CQ q p cells level) (S:=Int -> Ξ) (λb f=>.l2 (Au q level) i (Au q level) ((Au q level).length:Int) (a:Int) cs (cs.length:Int) (b:Int) f) (λb g=>OF q level g (T+b)/\ (∀ c i,i∈f c -> i∈g c)/\ ∀ c∈cs.take b,i∈g c) cs.length (λb g hb t=>by
  obtain ⟨n,hs,hd⟩:=t;have u:decide ((b:Int)<(cs.length:Int))=true:=zAC Z2;have w:AG ((b:Int)+1):=Aa.2 ⟨Z2,Z2⟩;have x:((b+1:Nat):Int)=(b:Int)+1:=Z2
  have xG:cs.take (b+1)=cs.take b++[cs.getD b 0]:=by simp_all
  refine ⟨IS g (cs.getD b 0) (g (cs.getD b 0)++[i]),⟨⟨λc j hj=>?_,λc=>?_⟩,λc j hj=>?_,λc d=>?_⟩,AV.one λm=>?_⟩
  ·unfold IS at hj;split at hj
   ·rcases zLW.1 hj with hj | hj
    ·exact n.snd _ _ hj
    grind
   ·exact n.snd _ _ hj
  ·unfold IS;split
   ·rw [zKH,List.length_singleton];have:=n.len (cs.getD b 0);omega
   ·have:=n.len c;omega
  ·grind [IS]
  ·grind [IS]
  ·show bR m (CQ q p cells level m) q p cells level (Au q level) i (Au q level) ((Au q level).length:Int) (a:Int) cs (cs.length:Int) (b:Int) g=_
   unfold bR;rw [u,zAG,u8,zAE ⟨Z2,by have:=n.len (cs.getD b 0);grind [Av],w⟩,x]) cs.length 0 f Z2 ⟨l,λc i h=>h,λc d=>by simp at d⟩
 refine ⟨L,A.trans (AV.one λm=>?_),⟨k.snd,λc=>zA4 (k.len c) Z2⟩,o,λc d=>r c (by simpa using d)⟩
 grind [Aa,bR,CQ]
theorem zHz (s:C4 q=true):
 ∃ L,AV (CQ q p cells level) (.l1 (Au q level) (Au q level) ((Au q level).length:Int) 0 (λ_=>[])) (.l3 (Au q level) 0 L (List.replicate 4096 false))/\ OF q level L 2000000/\ ∀ i,Up q level i -> ∀ c∈(con q i).ce,i∈L c:=by
 have Qg:(Au q level).length<=4096:=zA4 Ux (Dl s).2.2.2.2.1
 obtain ⟨L,⟨b,h2⟩,d⟩:=D6 (m:=CQ q p cells level) (S:=Int -> Ξ) (λa f=>.l1 (Au q level) (Au q level) ((Au q level).length:Int) (a:Int) f) (λa g=>OF q level g (256*a)/\ ∀ a',a'<a -> ∀ c∈(con q ((Au q level).getD a' 0)).ce,(Au q level).getD a' 0∈g c) (Au q level).length (λa g K j=>by
  obtain ⟨n,hd⟩:=j;obtain ⟨t,B,F,e3,e4⟩:=zHy (p:=p) (cells:=cells) s K Z2 n;have hU:=ZB K;have A:decide ((a:Int)<((Au q level).length:Int))=true:=zAC Z2;refine ⟨t,⟨⟨F.snd,λc=>zA4 (F.len c) Z2⟩,λa' x c k=>?_⟩,AV.trans (AV.one λm=>?_) B⟩
  ·grind
  ·show V9 m (CQ q p cells level m) q p cells level (Au q level) (Au q level) ((Au q level).length:Int) (a:Int) g=_
   unfold V9
   grind [con,Up]) (Au q level).length 0 (λ_=>[]) Z2 ⟨⟨λc i h=>(by cases h),λc=>zBT 0⟩,λa' x=>absurd x (zA6 _)⟩
 refine ⟨L,d.trans (AV.one λm=>?_),⟨b.snd,λc=>zA4 (b.len c) Z2⟩,λi hi c k=>?_⟩
 ·have A:decide (((Au q level).length:Int)<((Au q level).length:Int))=false:=zAF Z2
  show V9 m (CQ q p cells level m) q p cells level (Au q level) (Au q level) ((Au q level).length:Int) ((Au q level).length:Int) L=_
  unfold V9;rw [A,zAz]
 ·obtain ⟨a,K,e⟩:=zJ3 (La.2 hi);have e':(Au q level).getD a 0=i:=Z4
  grind
structure WQ (q:AA)(level:Int)(ws:Ω)(o n:Nat)(qu Q:Ξ):Prop where
 mq:MQ q.cons.length ws o n qu Q
 up: ∀ i∈Q,Up q level i
def Nc (q:AA)(level:Int)(f:Int -> Ξ)(j:Nat)(s:Ω×Option (Nat×Nat×Ξ)):KA:=match s.2 with
 | none=>.l3 (Au q level) (j:Int) f s.1
 | some (o,n,D)=>.l4 (Au q level) (j:Int) f s.1 o n D
def IC (q:AA)(level:Int)(s:Ω×Option (Nat×Nat×Ξ)):Prop:=match s.2 with
 | none=>QI q.cons.length s.1 []
 | some (o,n,D)=>∃ Q,WQ q level s.1 o n D Q
variable {l:Ξ}
def gW (h: ∀ i∈l,Up q level i): ∀ i∈l,0<=i/\ i<(q.cons.length:Int):=λi hi=>⟨(h i hi).1,(h i hi).2.1⟩
theorem WQ.add (d:q.cons.length<=4096){v:Ω}{o n:Nat}{D Q:Ξ}(h:WQ q level v o n D Q)(b: ∀ i∈l,Up q level i)(G:l.length<=LB):
 ∃ W o' e a Y,Ev (λm=>NK m l v o n D) (W,o',e,a)/\ WQ q level W o' e a Y/\ ∀ i,i∈Y↔i∈Q∨i∈l:=by
 obtain ⟨W,o',e,a,Y,f,g,c⟩:=zPe d (gW b) G h.mq;exact ⟨W,o',e,a,Y,f,⟨g,λi hi=>((c i).1 hi).elim (h.up i) (b i)⟩,c⟩
theorem zOa (g:C4 q=true)(G:cells.length<=LB)(b:OF q level f 2000000):
 ∃ a,IC q level a/\ AV (CQ q p cells level) (.l3 (Au q level) 0 f (List.replicate 4096 false)) (Nc q level f cells.length a):=by
 have l:=(Dl g).2.2.2.2.1
 obtain ⟨a,k,r⟩:=D6 (m:=CQ q p cells level) (S:=Ω×Option (Nat×Nat×Ξ)) (Nc q level f) (λ_ s=>IC q level s) cells.length (λj s hj c=>by
  have hr:AG ((j:Int)+1):=Aa.2 ⟨Z2,by unfold LB at G;omega⟩;have t:(f (cells.getD j 0)).length<=LB:=zA4 (b.len _) Z6;have L: ∀ i∈f (cells.getD j 0),Up q level i:=λi hi=>b.snd _ i hi
  obtain ⟨v,st⟩:=s;cases st with
  | none=>
   obtain ⟨W,Y,⟨N,B⟩,F,u⟩:=zAy l (gW L) t c
   by_cases w:Y= []
   ·refine ⟨(W,none),by rw [w] at F;exact F,AV.oneN N λm z=>?_⟩
    grind [V8,CQ,Nc]
   ·refine ⟨(W,some (0,Y.length,Y)),⟨Y,⟨⟨Z2,rfl,F⟩,λi hi=>L i ((u i).1 hi)⟩⟩,AV.oneN N λm z=>?_⟩
    grind [V8,CQ,Nc]
  | some x=>
   obtain ⟨o,n,D⟩:=x;obtain ⟨Q,A⟩:=(c: ∃ Q,WQ q level v o n D Q);have A:WQ q level v o n D Q:=A;obtain ⟨W,o',e,d,Y,⟨N,B⟩,F,_⟩:=A.add l L t;have B: ∀ m,N<=m -> NK m (f (cells.getD j 0)) v o n D=some (W,o',e,d):=B;refine ⟨(W,some (o',e,d)),⟨Y,F⟩,AV.oneN N λm z=>?_⟩
   grind [jd,CQ,Nc]) cells.length 0 (List.replicate 4096 false,none) Z2 (by
  refine ⟨zKM,List.nodup_nil,λi hi=>(by cases hi),λi hi=>⟨λh=>?_,λh=>(by cases h)⟩⟩
  grind)
 exact ⟨a,k,r⟩
theorem zOt (s:C4 q=true)(g:cells.length<=LB):
 ∃ f,OF q level f 2000000/\ (∀ i,Up q level i -> ∀ c∈(con q i).ce,i∈f c)/\ ((AV (CQ q p cells level) (.l1 (Au q level) (Au q level) ((Au q level).length:Int) 0 (λ_=>[])) (.l5 f (List.replicate 4096 false))∨
  (∃ v,AV (CQ q p cells level) (.l1 (Au q level) (Au q level) ((Au q level).length:Int) 0 (λ_=>[])) (.l5 f v)))/\ (∀ i,¬ Up q level i)∨
  ∃ v o n D Q,WQ q level v o n D Q/\ (∀ i,Up q level i -> i∈Q)/\ AV (CQ q p cells level) (.l1 (Au q level) (Au q level) ((Au q level).length:Int) 0 (λ_=>[])) (.l6 p f v o n D)):=by
 have l:=(Dl s).2.2.2.2.1;obtain ⟨f,h,r,R⟩:=zHz (q:=q) (level:=level) (p:=p) (cells:=cells) s;obtain ⟨⟨v,st⟩,a,b⟩:=zOa (p:=p) s g r;have b:=h.trans b;have G:(Au q level).length<=LB:=zA4 Ux (zA4 l Z6);refine ⟨f,r,R,?_⟩;cases st with
 | none=>
  obtain ⟨W,Y,⟨N,B⟩,F,S⟩:=zAy l (gW λi hi=>La.1 hi) G a
  by_cases u:Y= []
  ·refine .inl ⟨.inr ⟨W,b.trans (AV.oneN N λm z=>?_)⟩,λi hi=>by have:=(S i).2 (La.2 hi);rw [u] at this;cases this⟩
   grind [V8,CQ,Nc]
  ·refine .inr ⟨W,0,Y.length,Y,Y,⟨⟨Z2,rfl,F⟩,λi hi=>La.1 ((S i).1 hi)⟩,λi hi=>(S i).2 (La.2 hi),b.trans (AV.oneN N λm z=>?_)⟩
   grind [V8,CQ,Nc]
 | some j=>
  obtain ⟨o,n,D⟩:=j;obtain ⟨Q,A⟩:=(a: ∃ Q,WQ q level v o n D Q);have A:WQ q level v o n D Q:=A;obtain ⟨W,o',e,d,Y,⟨N,B⟩,F,S⟩:=A.add l (λi hi=>La.1 hi) G;have B: ∀ m,N<=m -> NK m (Au q level) v o n D=some (W,o',e,d):=B;refine .inr ⟨W,o',e,d,Y,F,λi hi=>(S i).2 (.inr (La.2 hi)),b.trans (AV.oneN N λm z=>?_)⟩
  grind [jd,CQ,Nc]
end
section
variable {q:AA} {level:Int} {pos p x cells:Ξ} {f:Int -> Ξ}
theorem zOW (j:C4 q=true)(d:OF q level f 2000000)(hl:x.length=p.length)(hp:p.length<=256){v:Ω}{o n:Nat}{D Q:Ξ}(h:WQ q level v o n D Q):
 ∃ W o' e a Y,WQ q level W o' e a Y/\ (∀ i∈Q,i∈Y)/\ (∀ c,c<p.length -> x.getD c 0≠p.getD c 0 -> ∀ i∈f (c:Int),i∈Y)/\ ((∀ c,c<p.length -> x.getD c 0=p.getD c 0) -> Y=Q)/\
  AV (CQ q pos cells level) (.l7 p x (x.length:Int) 0 f v o n D) (.l6 x f W o' e a):=by
 have k:=(Dl j).2.2.2.2.1
 obtain ⟨⟨W,o',e,a,Y⟩,⟨r,t,w,y⟩,z⟩:=D6 (m:=CQ q pos cells level) (S:=Ω×Nat×Nat×Ξ×Ξ) (λc s=>.l7 p x (x.length:Int) (c:Int) f s.1 s.2.1 s.2.2.1 s.2.2.2.1)
  (λc s=>WQ q level s.1 s.2.1 s.2.2.1 s.2.2.2.1 s.2.2.2.2/\ (∀ i∈Q,i∈s.2.2.2.2)/\ (∀ u,u<c -> x.getD u 0≠p.getD u 0 -> ∀ i∈f (u:Int),i∈s.2.2.2.2)/\ ((∀ u,u<c -> x.getD u 0=p.getD u 0) -> s.2.2.2.2=Q)) p.length (λc s hc C=>by
  obtain ⟨g,o1,E,I,F⟩:=s;obtain ⟨A,l,hd,M⟩:=C;have Ab:decide ((c:Int)<(x.length:Int))=true:=zAC Z2;have hr:AG ((c:Int)+1):=Aa.2 ⟨Z2,Z2⟩;have ec:((c+1:Nat):Int)=(c:Int)+1:=Z2
  by_cases G:x.getD c 0=p.getD c 0
  ·refine ⟨(g,o1,E,I,F),⟨A,l,λu b K=>?_,λh=>M λu b=>h u Z2⟩,AV.one λm=>?_⟩
   ·grind
   simp_all [bP,CQ]
  ·have L: ∀ i∈f (c:Int),Up q level i:=λi hi=>d.snd _ i hi
   obtain ⟨W,o',e,a,Y,⟨N,B⟩,H,J⟩:=A.add k L (zA4 (d.len _) Z6);have B: ∀ m,N<=m -> NK m (f (c:Int)) g o1 E I=some (W,o',e,a):=B;refine ⟨(W,o',e,a,Y),⟨H,λi hi=>(J i).2 (.inl (l i hi)),λu b K i hi=>?_,λh=>absurd (h c Z2) G⟩,AV.oneN N λm hm=>?_⟩
   ·grind
   grind [bP,CQ]) p.length 0 (v,o,n,D,Q) Z2 ⟨h,λi hi=>hi,λu b=>absurd b (zA6 _),λ_=>rfl⟩
 refine ⟨W,o',e,a,Y,r,t,w,y,z.trans (AV.one λm=>?_)⟩
 grind [bP,CQ]
structure pI (q:AA)(level:Int)(p0 p:Ξ)(Q:Ξ):Prop where
 pos:A4 q p
 down:EO q (Up q level) p0 p
 zero:BJ p=true -> p=List.replicate p.length 0
 fix: ∀ i,Up q level i -> i∉Q -> PR q (con q i) p p
theorem PR.other {i:Int}(h:PR q (con q i) p x)(v:BJ x=false)(C:Bj q i p){j:Nat}(hj: ∀ k,k<(con q i).ce.length -> ((con q i).ce.getD k 0).toNat≠j):x.getD j 0=p.getD j 0:=by
 have E:Iy q (con q i) p:=Classical.byContradiction λE=>by
  have h0:=C.len256.1;have:=Fh.1 v 0 (by rw [h.len];exact h0);rw [h.dead E,Un] at this;exact this rfl
 by_cases a:j<p.length
 ·refine Hw (h.live E j a).1 ((C.sm j a).in64 (by have:=C.work.k;omega)) λs _=>?_
  rw [zLs,(h.live E j a).2]
  grind [LC]
 ·rw [zBS,zBS,zPr (by rw [h.len];omega),zPr Z2]
variable {b:Ξ}
theorem zIt {a:Ξ}(hl:a.length=b.length)(h: ∀ c,c<b.length -> a.getD c 0=b.getD c 0):a=b:=by
 grind [List.ext_getElem]
theorem zMO (hU: ∀ i,Up q level i -> ∀ c∈(con q i).ce,i∈f c){v:Int}{Y:Ξ}(s:Up q level v)(h:pI q level pos p (v::b))(a:BJ p=false)(d:PR q (con q v) p x)(hs: ∀ i∈b,i∈Y)(hc: ∀ c,c<p.length -> x.getD c 0≠p.getD c 0 -> ∀ i∈f (c:Int),i∈Y):pI q level pos x Y:=by
 have y:A4 q x:=h.pos.pr s.1 s.2.1 d;have o:x.length=p.length:=d.len;refine ⟨y,h.down.trans (EO.one s d),λH=>by rw [o];exact d.zero H,λi hi hn=>?_⟩
 by_cases I:x=p
 ·subst I
  by_cases e:i=v
  ·subst e;exact d
  ·refine h.fix i hi λz=>?_
   grind
 ·cases H:BJ x with
  | true=>
   have:=d.zero H
   grind [ux]
  | false=>
   have K:=h.pos.ctx hi.1 hi.2.1
   have own: ∀ k,k<(con q i).ce.length -> x.getD ((con q i).ce.getD k 0).toNat 0=p.getD ((con q i).ce.getD k 0).toNat 0:=λk hk=>by
    have hW:=K.work.ce k hk
    grind
   have Ah:i≠v:=by
    rintro rfl;refine I (zIt o λc Bl=>?_)
    by_cases g: ∃ k,k<(con q i).ce.length/\ ((con q i).ce.getD k 0).toNat=c
    ·grind
    ·exact d.other H K λk hk e=>g ⟨k,hk,e⟩
   have j:PR q (con q i) p p:=h.fix i hi λz=>by
    grind
   exact zIn K (y.ctx hi.1 hi.2.1) own a H j
theorem zIc (S:OF q level f 2000000)(w: ∀ i,Up q level i -> ∀ c∈(con q i).ce,i∈f c): ∀ (M:Nat) {p:Ξ} {a:Ω} {o n:Nat} {D Q:Ξ},wt p*(q.cons.length+1)+n<=M -> WQ q level a o n D Q -> pI q level pos p Q ->
 ∃ g,Ev (λm=>CQ q pos cells level m (.l6 p f a o n D)) g/\ EO q (Up q level) pos g/\ Iw q (Up q level) g:=by
 intro M
 induction M with
 | zero=>
  intro p a o n D Q Y A h;have b:n=0:=Z2
  subst b;have u:Q= []:=zLw A.mq.cnt.symm;subst u;exact ⟨p,Ev.one λm=>rfl,h.down,λi hi=>h.fix i hi Z3⟩
 | succ M y=>
  intro p a o n D Q Y A h;have s:=h.pos.valid;have C:=(Dl s).2.2.2.2.1;have Z:=h.pos.len256.2
  by_cases b:n=0
  ·subst b;have u:Q= []:=zLw A.mq.cnt.symm;subst u;exact ⟨p,Ev.one λm=>rfl,h.down,λi hi=>h.fix i hi Z3⟩
  have F:(n==0)=false:=by simpa using b
  have L:decide ((n:Int)>0)=true:=zAC Z2;have J: ∀ m,300<=m -> G9 m p=some (BJ p):=λm z=>OY (zA4 Z Z6) Z2
  cases d:BJ p with
  | true=>
   have hz:=h.zero d;refine ⟨p,Ev.oneN 300 λm z=>?_,h.down,?_⟩
   ·grind [bQ,CQ]
   grind [ym,BJ]
  | false=>
   cases u:Q with
   | nil=>exact absurd (by rw [A.mq.cnt,u];rfl) b
   | cons v l=>
    subst u;have V:Up q level v:=A.up v Z3;obtain ⟨x,⟨N,e⟩,j⟩:=ur (h.pos.ctx V.1 V.2.1);have e: ∀ m,N<=m -> P4 m q v p=some (x,0):=e;have hsum:=A.mq.sum;have hdr:=A.mq.eq;have KV:o<D.length:=Z2
    have k:D.getD (o+0) 0=v:=by
     grind [List.drop_eq_getElem_cons]
    have r:WQ q level (a.set v.toNat false) (o+1) (n-1) D l:=by
     refine ⟨⟨Z2,?_,A.mq.qi.pop C⟩,λi hi=>A.up i (by simp [hi])⟩
     grind [List.drop_eq_getElem_cons]
    obtain ⟨Cb,o',E,EZ,G,B,H,K,O,P⟩:=zOW (pos:=pos) (cells:=cells) s S j.len Z r;have t:=zMO w V h d j H K
    have step:AV (CQ q pos cells level) (.l6 p f a o n D) (.l7 p x (x.length:Int) 0 f (a.set v.toNat false) (o+1) (n-1) D):=AV.oneN (max N 300) λm z=>by
     show bQ m (CQ q pos cells level m) q pos cells level p f a o n D=_
     unfold bQ;rw [F,zAz,L,zAG,J m Z2,zAB,d,zLd,zAG,k,zAE ⟨Z2,Z2,Z2,⟨V.1,by have:=V.2.1;omega⟩,by rw [A.mq.qi.len];grind [Up]⟩,e m Z2,zAB,zJv];rfl
    have R:wt x*(q.cons.length+1)+E<=M:=by
     have Tl:=B.mq.qi.le;have Tq:=B.mq.cnt
     by_cases I:x=p
     ·have:G=l:=O λc _=>by rw [I]
      rw [I];have h2:=r.mq.cnt
      grind
     ·have X:=Rm t.pos h.pos j.le I;have h3:(wt x+1)*(q.cons.length+1)<=wt p*(q.cons.length+1):=zL2 _ X
      grind
    obtain ⟨g,T,U,W⟩:=y R B t;exact ⟨g,(step.trans P).ev T,U,W⟩
theorem zG5 (b:A4 q pos)(G:cells.length<=LB): ∃ g,Ev (λn=>WB n q pos cells level) g/\ Fa q level pos g:=by
 have Z:=b.len256;have Qx: ∀ m,300<=m -> G9 m pos=some (BJ pos):=λm hm=>OY (zA4 Z.2 Z6) Z2
 cases v:BJ pos with
 | true=>
  refine ⟨List.replicate pos.length 0,⟨300,λn u=>?_⟩,.inl ⟨v,rfl⟩⟩
  grind [je,WB]
 | false=>
  have H: ∃ g,Ev (λn=>CQ q pos cells level n (.l1 (Au q level) (Au q level) ((Au q level).length:Int) 0 (λ_=>[]))) g/\ EO q (Up q level) pos g/\ Iw q (Up q level) g:=by
   obtain ⟨f,e,r,R⟩:=zOt (q:=q) (level:=level) (p:=pos) (cells:=cells) b.valid G;rcases R with ⟨a,c⟩ | ⟨j,o,n,qu,Q,a,c,k⟩
   ·refine ⟨pos,?_,.refl pos,λi hi=>absurd hi (c i)⟩;rcases a with a | ⟨j,a⟩
    ·exact a.ev (Ev.one λm=>rfl)
    ·exact a.ev (Ev.one λm=>rfl)
   ·obtain ⟨g,B,F,S⟩:=zIc (pos:=pos) (cells:=cells) e r _ (zBT _) a (p:=pos) ⟨b,.refl pos,λh=>(by rw [v] at h;cases h),λi hi u=>absurd (c i hi) u⟩;exact ⟨g,k.ev B,F,S⟩
  obtain ⟨g,⟨N,a⟩,c⟩:=H;have a: ∀ n,N<=n -> CQ q pos cells level n (.l1 (Au q level) (Au q level) ((Au q level).length:Int) 0 (λ_=>[]))=some g:=a;obtain ⟨d,t⟩:=pq (level:=level) b.fit b.valid;have t: ∀ n,d<=n -> Uz n q level=some (Au q level):=t;refine ⟨g,⟨max (max N d) 300,λn u=>?_⟩,.inr ⟨v,c⟩⟩
  grind [je,WB]
end
theorem zNV {a b:Ξ}{n:Nat}(hl:a.length<=LB)(u:a.length<n):Xr n a b=some (decide (a=b)):=by
 have hb:LB<=9223372036854775806:=Z6
 unfold Xr zH
 by_cases G:a.length=b.length
 ·have key: ∀ (k i n:Nat),i+k=a.length -> k+1<=n -> UD a b n (.l1 (i:Int))=some (decide (a.drop i=b.drop i)):=by
   intro k
   induction k with
   | zero=>
    intro i n e u;obtain ⟨n,rfl⟩: ∃ k,n=k+1:=⟨n-1,Z2⟩
    simp_all [eO,UD]
   | succ k c=>
    intro i n e u;obtain ⟨n,rfl⟩: ∃ k,n=k+1:=⟨n-1,Z2⟩;have hi:i<a.length:=Z2
    have U:i<b.length:=Z2
    have d: ∀ {l:Ξ},i<l.length -> l.drop i=l.getD i 0::l.drop (i+1):=λ{l} h=>by
     simp_all
    have:=c (i+1) n Z2 Z2
    show eO n (UD a b n) a b (i:Int)=_
    unfold eO;rw [zAC Z2,zAG,zAE ⟨⟨Z2,Z2⟩,Z2,Z2⟩,u8,zAE (Aa.2 ⟨Z2,Z2⟩),d hi,d U]
    by_cases h:a.getD i 0=b.getD i 0
    ·have:(a.getD i 0 != b.getD i 0)=false:=by rw [h];simp
     rw [this,zAz];refine Eq.trans (by assumption) ?_;rw [h];simp
    ·have:(a.getD i 0 != b.getD i 0)=true:=by simpa using h
     rw [this,zAG,zAF λe=>h (List.cons.inj e).1]
  grind
 ·have e:((a.length:Int) != (b.length:Int))=true:=Z7
  rw [e,zAG,zAF λh=>G (by rw [h])]
abbrev zI1:=@List.drop_eq_getElem_cons
def bz (q:AA)(cells:Ξ):Bool:=cells.any λc=>decide (c<0)||decide (c>=q.ce)
section
variable {q:AA} {level:Int} {pos p x cells:Ξ}
theorem vV {n:Nat}{c:Int}:bq n c q=some (decide (c<0)||decide (c>=q.ce)):=by
 grind [bq,vU]
variable {l:Ξ}
def zNi {f:Int -> Bool}{j:Nat}(i:j<l.length):(l.drop j).any f=(f (l.getD j 0)||(l.drop (j+1)).any f):=by
 rw [zI1 i,List.any_cons,zBS,zKF i];rfl
theorem vW (o:cells.length<=LB): ∀ (k j:Nat),j+k=cells.length -> ∃ r:Int,Ev (λn=>Mp cells q n (.l1 (j:Int))) r/\ decide (r>=0)=(cells.drop j).any λc=>decide (c<0)||decide (c>=q.ce)
 | 0,j,e=>⟨-1,Ev.one λn=>by
  simp_all [TZ,Mp],Z4⟩
 | k+1,j,e=>by
  have i:j<cells.length:=Z2
  have A:decide ((j:Int)<(cells.length:Int))=true:=zAC Z2;have a:AG ((j:Int)+1):=Aa.2 ⟨Z2,by unfold LB at o;omega⟩;rw [zNi i];cases y:decide (cells.getD j 0<0)||decide (cells.getD j 0>=q.ce) with
  | true=>
   refine ⟨(j:Int),Ev.one λn=>?_,Z4⟩
   show TZ n (Mp cells q n) cells q (j:Int)=_
   unfold TZ;rw [A,zAG,zAE ⟨Z2,Z2⟩,u8,vV,zAB,y,zAG]
  | false=>
   obtain ⟨r,b,d⟩:=vW o k (j+1) Z2;refine ⟨r,AV.ev (AV.one λn=>?_) b,by rw [zNg];exact d⟩
   show TZ n (Mp cells q n) cells q (j:Int)=_
   unfold TZ;rw [A,zAG,zAE ⟨Z2,Z2⟩,u8,vV,zAB,y,zAz,zAE a,show ((j+1:Nat):Int)=(j:Int)+1 by omega]
def zOA (o:cells.length<=LB):Ev (λn=>fF n cells q) (bz q cells):=by
 obtain ⟨r,⟨N,a⟩,b⟩:=vW (q:=q) o cells.length 0 Z2;have a: ∀ n,N<=n -> Mp cells q n (.l1 0)=some r:=a;refine ⟨N,λn u=>?_⟩
 show (Mp cells q n (.l1 0)).bind (λe=>some (decide (e>=0)))=_
 rw [a n u,zAB,b];rfl
def QA (S:Cm q)(o:pos.length<=LB):Ev (λn=>Fd n q pos) (CB q pos):=⟨EU q+pos.length+1,λn hn=>jk S Z2 o Z2⟩
theorem A4.of (S:Cm q)(h:CB q pos=0):A4 q pos:=by
 unfold CB at h
 by_cases s:C4 q=true
 ·rw [zAE s] at h
  by_cases f:posOk q pos=true
  ·exact ⟨S,s,f⟩
  grind
 grind
def A4.check (h:A4 q pos):CB q pos=0:=by
 unfold CB;rw [zAE h.valid,zAE h.ok]
def pJ (q:AA)(pos cells:Ξ)(level:Int)(r:Ξ×Int):Prop:= (CB q pos≠0/\ r=([],CB q pos))∨(CB q pos=0/\ bz q cells=true/\ r=([],1))∨(CB q pos=0/\ bz q cells=false/\ r.2=0/\ Fa q level pos r.1)
theorem zPX (S:Cm q)(o:pos.length<=LB)(c:cells.length<=LB): ∃ r,Ev (λn=>fv n q pos cells level) r/\ pJ q pos cells level r:=by
 have a:=QA S o
 by_cases h0:CB q pos=0
 ·have f:=A4.of S h0;have b:=zOA (q:=q) c;cases y:bz q cells with
  | true=>
   rw [y] at b;refine ⟨([],1),?_,.inr (.inl ⟨h0,y,rfl⟩)⟩;rw [h0] at a;exact Ev.bind a (Ev.bind b (Ev.now λn=>rfl))
  | false=>
   rw [y] at b;rw [h0] at a;obtain ⟨g,p,d⟩:=zG5 (level:=level) (cells:=cells) f c;exact ⟨(g,0),Ev.bind a (Ev.bind b (Ev.bind p (Ev.now λn=>rfl))),.inr (.inr ⟨h0,y,rfl,d⟩)⟩
 ·refine ⟨([],CB q pos),Ev.bind a (Ev.now λn=>?_),.inl ⟨h0,rfl⟩⟩
  grind
def zPN (S:Cm q)(o:pos.length<=LB): ∃ r,Ev (λn=>Yc n q pos level) r/\ pJ q pos [] level r:=by
 obtain ⟨r,a,b⟩:=zPX (level:=level) (cells:=[]) S o Z6;exact ⟨r,Ev.bind a (Ev.now λn=>rfl),b⟩
inductive GU (q:AA)(level:Int):Ξ -> Ξ -> Ξ -> Prop
 | done {p:Ξ}:Iw q (Up q level) p -> GU q level p [] p
 | step {p x l g:Ξ} {i:Int}:Up q level i -> PR q (con q i) p x -> x≠p -> (∀ i',Up q level i' -> i'<i -> PR q (con q i') p p) -> GU q level x l g -> GU q level p (i::l) g
variable {g:Ξ}
theorem GU.uniq {l' t:Ξ}(h:GU q level p l g):GU q level p l' t -> l=l'/\ g=t:=by
 induction h generalizing l' t with
 | done O=>
  intro h';cases h' with
  | done _=>exact ⟨rfl,rfl⟩
  | step hi d K _ _=>exact absurd ((O _ hi).uniq _ _ d) (λe=>K e.symm)
 | @step p x l g i hi d K hmin _ ih=>
  intro h';cases h' with
  | done O=>exact absurd (PR.uniq _ _ (O _ hi) d) (λe=>K e.symm)
  | @step _ x' l2 _ i' Bq H9 hne' hmin' h2=>
   grind [PR.uniq]
def GU.down (h:GU q level p l g):EO q (Up q level) p g/\ Iw q (Up q level) g:=by
 induction h with
 | done O=>exact ⟨.refl _,O⟩
 | step hi d _ _ _ b=>exact ⟨.step hi d b.1,b.2⟩
end
section
variable {q:AA} {level i:Int} {pos p x:Ξ}
theorem zBU:(Au q level).Pairwise (· < ·):=by
 grind [Au,GW,List.pairwise_lt_range]
theorem zBV {b:Nat}(hb:b<(Au q level).length)(hi:Up q level i)(Ab:i<(Au q level).getD b 0): ∃ a,a<b/\ (Au q level).getD a 0=i:=by
 obtain ⟨a,ha,e⟩:=zJ3 (La.2 hi)
 grind [Nat.lt_or_eq_of_le,List.pairwise_iff_getElem,zBU]
theorem zOV (C:Bj q i p): ∃ x,Ev (λn=>fQ n i q p) (decide (x≠p),x)/\ PR q (con q i) p x:=by
 obtain ⟨x,d,c⟩:=ur C;refine ⟨x,Ev.bind d ?_,c⟩;have o:x.length<=LB:=by rw [c.len];exact zA4 C.len256.2 Z6
 refine Ev.eq (Ev.bind (a:=λn=>Xr n x p) (x:=decide (x=p)) ⟨x.length+1,λn hn=>zNV o Z2⟩ (b:=λn e=>bif e then some (false,p) else some (true,x)) (Ev.now λn=>?_)) (λn=>rfl)
 grind
theorem wz (f:A4 q p): ∀ (k a:Nat),a+k=(Au q level).length -> (∀ a',a'<a -> PR q (con q ((Au q level).getD a' 0)) p p) ->
 (Ev (λn=>Mq (Au q level) q p n (.l1 (a:Int) p)) (-1,p)/\ Iw q (Up q level) p)∨
 ∃ b x,Ev (λn=>Mq (Au q level) q p n (.l1 (a:Int) p)) ((b:Nat),x)/\ b<(Au q level).length/\ PR q (con q ((Au q level).getD b 0)) p x/\ x≠p/\ ∀ a',a'<b -> PR q (con q ((Au q level).getD a' 0)) p p
 | 0,a,e,h=>by
  refine .inl ⟨Ev.one λn=>?_,λi hi=>?_⟩
  ·simp_all [dE,Mq]
  ·obtain ⟨a',K,e1⟩:=zJ3 (La.2 hi)
   grind
 | k+1,a,e,h=>by
  have K:a<(Au q level).length:=Z2
  have S:=ZB K;have Qg:(Au q level).length<=4096:=zA4 Ux (Dl f.valid).2.2.2.2.1;have hr:AG ((a:Int)+1):=Aa.2 ⟨Z2,Z2⟩;obtain ⟨x,⟨N,h1⟩,d⟩:=zOV (f.ctx S.1 S.2.1)
  by_cases g:x=p
  ·have st:AV (Mq (Au q level) q p) (.l1 (a:Int) p) (.l1 ((a+1:Nat):Int) p):=AV.oneN N λn u=>by
    grind [dE,Mq]
   rcases wz f k (a+1) Z2 (λa' Ke=>by
    grind) with ⟨c,r⟩ | ⟨b,y,c,r⟩
   ·exact .inl ⟨st.ev c,r⟩
   ·exact .inr ⟨b,y,st.ev c,r⟩
  ·refine .inr ⟨a,x,Ev.oneN N λn u=>?_,K,d,g,h⟩
   grind [dE,Mq]
theorem zJS (f:A4 q p):(Ev (λn=>Ta n (Au q level) q p) (-1,p)/\ Iw q (Up q level) p)∨
 ∃ b x,Ev (λn=>Ta n (Au q level) q p) ((b:Nat),x)/\ b<(Au q level).length/\ Up q level ((Au q level).getD b 0)/\ PR q (con q ((Au q level).getD b 0)) p x/\ x≠p/\ ∀ Q,Up q level Q -> Q<(Au q level).getD b 0 -> PR q (con q Q) p p:=by
 rcases wz (level:=level) f (Au q level).length 0 Z2 (λa' c=>absurd c (zA6 _)) with ⟨a,r⟩ | ⟨b,x,a,r,R,U,g5⟩
 ·exact .inl ⟨a,r⟩
 ·refine .inr ⟨b,x,a,r,ZB r,R,U,λQ Bq Ab=>?_⟩
  grind [zBV]
theorem Yu (f:A4 q p):wt p<=16384:=by
 have:=f.len256.2
 grind [wt,List.length_range]
def ME (q:AA)(level:Int)(p acc:Ξ):TG:=if acc= [] then .l1 (Au q level) else .l2 acc.length (Au q level) p acc
variable {acc:Ξ}
def ZT (h:acc≠[]):ME q level p acc= .l2 acc.length (Au q level) p acc:=by unfold ME;rw [zEO h]
theorem vb {M:Nat}{p:Ξ}(i: ∀ {p' acc':Ξ},wt p'<M -> A4 q p' -> (BJ p'=true -> p'=List.replicate p'.length 0) -> acc'.length+wt p'<=20000 -> (acc'= [] -> p'=pos) -> ∃ l g,Ev (λn=>Id q pos level n (ME q level p' acc')) (acc'++l,0)/\ GU q level p' l g) 
 (hM:wt p<=M) (f:A4 q p) (Fy:BJ pos=false) (hz:BJ p=true -> p=List.replicate p.length 0) (hb:acc.length+wt p<=20000) (c:acc= [] -> p=pos):
 ∃ l g,Ev (λn=>Id q pos level n (ME q level p acc)) (acc++l,0)/\ GU q level p l g:=by
 have Z:=f.len256;have J: ∀ m,300<=m -> G9 m p=some (BJ p):=λm hm=>OY (zA4 Z.2 Z6) Z2
 cases v:BJ p with
 | true=>
  have K:acc≠[]:=λe=>Z4
  refine ⟨[],p,?_,.done (by grind [ym])⟩;rw [ZT K,zMU];refine Ev.oneN 300 λn u=>?_
  grind [WN,Id]
 | false=>
  rcases zJS (level:=level) f with ⟨⟨N,a⟩,r⟩ | ⟨b,x,⟨N,a⟩,r,R,U,D,j⟩
  ·refine ⟨[],p,?_,.done r⟩
   by_cases K:acc= []
   ·have e:=c K;subst e;refine Ev.oneN (max N 300) λn u=>?_
    have d:ME q level p acc= .l1 (Au q level):=by unfold ME;rw [zAE K]
    grind [WO,Id]
   ·rw [ZT K];refine Ev.oneN (max N 300) λn u=>?_
    grind [WN,Id]
  ·have a: ∀ n,N<=n -> Ta n (Au q level) q p=some ((b:Int),x):=a;have y:=f.pr R.1 R.2.1 U;have hw:=Rm y f U.le D;have P:x.length=p.length:=U.len;have Q:decide ((b:Int)<0)=false:=zAF Z2;obtain ⟨l,g,h,k⟩:=i (p':=x) (acc':=acc++[(Au q level).getD b 0]) Z2 y (λH=>by rw [P];exact U.zero H) Z4 (λe=>by simp at e);rw [ZT Z3,List.append_assoc,List.singleton_append] at h;refine ⟨(Au q level).getD b 0::l,g,AV.ev (AV.oneN (max N 300) λn u=>?_) h,.step R U D j k⟩
   by_cases K:acc= []
   ·have e:=c K;subst e;have d:ME q level p acc= .l1 (Au q level):=by unfold ME;rw [zAE K]
    rw [d,K]
    show WO n (Id q p level n) q p level (Au q level)=_
    unfold WO;rw [J n Z2,zAB,v,zLd,zAG,a n Z2,zAB]
    simp_all [decide,Av]
   ·rw [ZT K]
    show WN n (Id q pos level n) q pos level acc.length (Au q level) p acc=_
    unfold WN;rw [J n Z2,zAB,v,zLd,zAG,a n Z2,zAB];rw [Q,zAz,zAE ⟨⟨Z2,Z2⟩,⟨rfl,rfl⟩,⟨rfl,rfl⟩,by grind [Av]⟩,u8,zKH]
def zHk: ∀ (M:Nat) {p acc:Ξ},wt p<=M -> A4 q p -> BJ pos=false -> (BJ p=true -> p=List.replicate p.length 0) -> acc.length+wt p<=20000 -> (acc= [] -> p=pos) ->
 ∃ l g,Ev (λn=>Id q pos level n (ME q level p acc)) (acc++l,0)/\ GU q level p l g:=by
 intro M
 induction M with
 | zero=>exact λ{p acc} Y f C P c K=>vb (λ{p' acc'} h=>absurd h Z2) Y f C P c K
 | succ M b=>exact λ{p acc} Y f C P c K=>vb (λ{p' acc'} h L W x a=>b Z2 L C W x a) Y f C P c K
def Hu (q:AA)(pos:Ξ)(level:Int)(r:Ξ×Int):Prop:= (CB q pos≠0/\ r=([],CB q pos))∨(CB q pos=0/\ BJ pos=true/\ r=([],0))∨(CB q pos=0/\ BJ pos=false/\ r.2=0/\ r.1.length<=20000/\ ∃ g,GU q level pos r.1 g)
theorem Hu.uniq {r F:Ξ×Int}(h:Hu q pos level r)(h':Hu q pos level F):r=F:=by
 rcases h with ⟨a,b⟩ | ⟨a,b,d⟩ | ⟨a,b,d,_,g,A⟩
 ·grind [Hu]
 ·grind [Hu]
 ·rcases h' with ⟨p,_⟩ | ⟨p,c,_⟩ | ⟨p,c,R,_,g',U⟩
  ·exact absurd a p
  ·rw [b] at c;cases c
  ·exact Prod.ext (A.uniq U).1 (d.trans R.symm)
def GU.len (f:A4 q p){l g:Ξ}(h:GU q level p l g):l.length+wt g<=wt p:=by
 induction h with
 | done _=>simp
 | step hi d K _ _ b=>
  have y:=f.pr hi.1 hi.2.1 d;have h1:=b y;have h2:=Rm y f d.le K;rw [zMQ];omega
theorem zHl (S:Cm q)(o:pos.length<=LB): ∃ r,Ev (λn=>b5 n q pos level) r/\ Hu q pos level r:=by
 have a:=QA S o
 by_cases h0:CB q pos=0
 ·have f:=A4.of S h0;rw [h0] at a;have t:=pq (level:=level) f.fit f.valid;cases v:BJ pos with
  | true=>
   refine ⟨([],0),Ev.bind a (Ev.bind t ?_),.inr (.inl ⟨h0,v,rfl⟩)⟩;have Z:=f.len256;have Qx: ∀ m,300<=m -> G9 m pos=some (BJ pos):=λm hm=>OY (zA4 Z.2 Z6) Z2
   refine Ev.oneN 300 λn hn=>?_
   grind [WO,Id]
  | false=>
   obtain ⟨l,g,p,b⟩:=zHk (q:=q) (level:=level) (pos:=pos) (wt pos) (acc:=[]) (zBT _) f v (λh=>by rw [v] at h;cases h) (by have:=Yu f;simp;omega) (λ_=>rfl);exact ⟨(l,0),Ev.bind a (Ev.bind t p),.inr (.inr ⟨h0,v,rfl,by have:=b.len f;grind [Yu],g,b⟩)⟩
 ·refine ⟨([],CB q pos),Ev.bind a (Ev.now λn=>?_),.inl ⟨h0,rfl⟩⟩
  grind
end
section
set_option maxRecDepth 100000
set_option maxHeartbeats 40000000
end
end Go.Proofs.YtodinaconebmdaaGreatDoor
