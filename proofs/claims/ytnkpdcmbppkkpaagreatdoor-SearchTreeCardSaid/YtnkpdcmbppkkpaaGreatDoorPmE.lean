/- Part 5 of 8 of what the proofs of these laws stand on. -/
import Derived.Test.YtnkpdcmbppkkpaaGreatDoorPmD
set_option linter.all false
open And renaming intro->γ
open Bool renaming false->D,true->T
open Decidable renaming decide->H
open Eq renaming refl->φ
open Go.Fence renaming wide->η
open Inhabited renaming default->ξ
open List renaming length->F,getD->M,replicate->d,range->θ
open Nat.le renaming refl->χ
open Option renaming none->V,some->Z
open _root_ renaming Option->A,ite->C,Int->E,cond->L,List->O,Nat->U,Bool->ζ,absurd->τ
namespace Go.Proofs.YtnkpdcmbppkkpaaGreatDoor
open Go.RowKit
abbrev zOC:=@List.ext_getElem
abbrev zTq:=@Option.isSome_some
section
variable{c:AE}{k:U}{pos lost:Ξ}{q:AA}
variable{l':Ξ}{i:U}
theorem CU.unique{ϑ:U->Ψ}{l:Ξ}(h:CU c pos lost i ϑ l)(h':CU c pos lost i ϑ l')(hi:∀j,CO<|M l j 0)(Q:∀j,CO<|M l' j 0):l=l':=by
 have e:F l=F l':=h.1.trans h'.1.symm;refine zOC e λj a b=>?_
 have y:M l j 0=l[j]:=by simp[a]
 have K:M l' j 0=l'[j]:=by simp[b]
 rw[←y,←K];refine L3 (hi j) (Q j) λs _=>?_
 grind[CU]
theorem uu{l:Ξ}{x:E}(h:∀j,CO<|M l j 0)(hx:CO x):∀j,CO<|M (l.set i x) j 0:=by
 grind[getD_set_ne]
variable{cell ss:E}{n ln:U}
theorem zKn(h:El n cell ss c q pos ln lost=Z l')(hi:∀j,CO<|M lost j 0):∀j,CO<|M l' j 0:=by
 grind[El,nI,uu,HK]
theorem zJm(h:IN n cell c q pos ln lost=Z l')(hi:∀j,CO<|M lost j 0):∀j,CO<|M l' j 0:=by
 grind[IN,mg,uu,HK]
def Jt(c:AE):Prop:=F c.ru<=256/\∀j,j<F c.ru->M c.ru j 0<=256
structure OX(c:AE)(Ϛ l:E):Prop where
 d0:0<=Ϛ
 d1:Ϛ<=(F c.ru:E)
 l0:0<=l
 open' :0 < l->Ϛ < (F c.ru :E)/\l <= M c.ru Ϛ.toNat 0
def nx(c:AE)(Ϛ l:E)(inn:ζ):A Δ:=L inn (C (Ϛ<(F c.ru:E)/\l<M c.ru Ϛ.toNat 0) (Z (Ϛ,l+1)) V)<|C (l=0) (Z (Ϛ,0))<|C (l=M c.ru Ϛ.toNat 0) (Z (Ϛ+1,0)) V
variable{t:Δ}{inn:ζ}{Ϛ l:E}
theorem zJx(h:OX c Ϛ l)(e:nx c Ϛ l inn=Z t):OX c t.1 t.2:=by
 obtain⟨a,b,h3,h4⟩:=h;unfold nx at e;cases inn
 ·rw[zAJ]at e;split at e
  ·cases e;exact⟨a,b,zCs _,λh=>τ h<|Int.lt_irrefl _⟩
  ·split at e
   ·cases e;exact⟨Z2,Z2,zCs _,λh=>τ h<|Int.lt_irrefl _⟩
   ·cases e
 ·split at e
  ·rename_i X;cases e;exact⟨a,b,Z2,λ_=>⟨X.1,Z4⟩⟩
  ·cases e
theorem eN(R:Jt c)(h:OX c Ϛ l):∃t,Xv n (Ϛ,l) inn c q pos ln lost=Z (t,(nx c Ϛ l inn).isSome,lost)/\∀u,nx c Ϛ l inn=Z u->t=u:=by
 obtain⟨a,h2,h3,b⟩:=h;obtain⟨hr,hv⟩:=R
 have hl:l<=256:=by
  grind
 unfold Xv xu nx;cases inn
 ·rw[zAJ,zAJ]
  by_cases h0:l=0
  ·simp_all
  ·obtain⟨x,a2⟩:=b Z2;have e0:(l==0)=D:=by simpa using h0
   simp only[e0,zAJ,zAt h0];rw[zAB ⟨Ae.2 ⟨Z2,Z2⟩,a,x⟩];refine⟨(Ϛ+1,0),?_,λu e=>?_⟩
   ·grind
   grind
 ·rw[zAI,zAI,zAB<|Ae.2 ⟨by show _<=l+1;omega,by show l+1<=_;omega⟩]
  by_cases X:Ϛ<(F c.ru:E)
  ·simp only[zAA X,zAI];rw[zAB ⟨a,X⟩];refine⟨(Ϛ,l+1),?_,λu e=>?_⟩
   ·grind
   grind
  simp_all[zAF]
def kd(c:AE)(pos:Ξ)(i:U)(inn:ζ):ζ:=L inn (bits .and .i64 (Ag c pos i) c.set != 0)<|bits .andNot .i64 (Ag c pos i) c.set != 0
theorem fL(W:CZ c k pos)(hi:i<F c.ce):YJ n (i:E) inn c q pos (F pos) lost=Z (kd c pos i inn,lost):=by
 have hc:=W.ce i hi;unfold YJ yo kd
 grind[Ag]
def GH(c:AE)(pos:Ξ):U->Δ->Prop
 |0,t=>t=(0,0)
 |i+1,t=>∃s inn,GH c pos i s/\nx c s.1 s.2 inn=Z t/\kd c pos i inn=T
def GH.ok(i:U):∀{t:Δ},GH c pos i t->OX c t.1 t.2:=by
 induction i with
 |zero=>
  intro t h;obtain rfl:t=(0,0):=h;exact⟨zCs _,Z2,zCs _,λh=>τ h<|Int.lt_irrefl _⟩
 |succ i n=>
  rintro t ⟨s,inn,a,b,_⟩;exact zJx (n a) b
def ak(c:AE)(t:Δ):Prop:=t=((F c.ru:E),0)∨(0<F c.ru/\t=((F c.ru:E)-1,M c.ru (F c.ru-1) 0))
def Kj(c:AE)(pos:Ξ):U->Δ->Prop
 |0,t=>ak c t
 |m+1,s=>GH c pos (F c.ce-1-m) s/\∃t inn,nx c s.1 s.2 inn=Z t/\kd c pos (F c.ce-1-m) inn=T/\Kj c pos m t
def Kc(c:AE)(pos:Ξ)(i:U)(inn:ζ):Prop:=∃s t,GH c pos i s/\nx c s.1 s.2 inn=Z t/\kd c pos i inn=T/\Kj c pos (F c.ce-1-i) t
def Ku(c:AE)(pos:Ξ)(a s:U):Prop:=(¬Kc c pos a T/\tb c.set s=T)∨(¬Kc c pos a D/\tb c.set s=D)
def FT(c:AE)(pos:Ξ)(i:U)(o4:KS)(Ϛ l:E)(inn:ζ):ζ:=match nx c Ϛ l inn with
 |some t=>kd c pos i inn&&o4.contains [t.1,t.2]
 |none=>D
variable{e o1:Ξ}{z:ζ}{o4 a X:KS}{w:O (A KS)}{S:U}
theorem zLO{Q:ζ}(W:CZ c k pos)(R:Jt c)(hi:i<F c.ce)(h:OX c Ϛ l):
 Bo c q pos (F pos) lost (n+1) (.l7 i 0 o1 w S o4 a Q z Ϛ l X e)=Bo c q pos (F pos) lost n (.l7 i 1 o1 w S o4 (L (FT c pos i o4 Ϛ l D) (DN [Ϛ,l] a) a) (Q||FT c pos i o4 Ϛ l D) z Ϛ l X e):=by
 obtain⟨t,y,K⟩:=eN (n:=n) (ln:=F pos) (pos:=pos) (lost:=o1) (q:=q) (inn:=D) R h;have b:M ([D,T]:Ω) (0+((0:E)).toNat) D=D:=rfl;have r:AI<|(0:E)+1:=Ae.2 ⟨Z6,Z6⟩
 show T0 n (Bo c q pos (F pos) lost n) c q pos (F pos) lost i 0 o1 w S o4 a Q z Ϛ l X e=_
 unfold T0 FT;rw[zAA Z6,zAI,zAB ⟨⟨Z6,Z6⟩,Z6⟩,b,y,zAD];cases s:nx c Ϛ l D with
 |none=>grind
 |some u=>
  obtain rfl:=K u s;simp only[zTq,zAI]
  grind[fL]
theorem zLN{Q:ζ}(W:CZ c k pos)(R:Jt c)(hi:i<F c.ce)(h:OX c Ϛ l):
 Bo c q pos (F pos) lost (n+1) (.l7 i 1 o1 w S o4 a Q z Ϛ l X e)=Bo c q pos (F pos) lost n (.l7 i 2 o1 w S o4 (L (FT c pos i o4 Ϛ l T) (DN [Ϛ,l] a) a) Q (z||FT c pos i o4 Ϛ l T) Ϛ l X e):=by
 obtain⟨t,y,K⟩:=eN (n:=n) (ln:=F pos) (pos:=pos) (lost:=o1) (q:=q) (inn:=T) R h;have b:M ([D,T]:Ω) (0+((1:E)).toNat) D=T:=rfl;have r:AI<|(1:E)+1:=Ae.2 ⟨Z6,Z6⟩
 show T0 n (Bo c q pos (F pos) lost n) c q pos (F pos) lost i 1 o1 w S o4 a Q z Ϛ l X e=_
 unfold T0 FT;rw[zAA Z6,zAI,zAB ⟨⟨Z6,Z6⟩,Z6⟩,b,y,zAD];cases s:nx c Ϛ l T with
 |none=>grind
 |some u=>
  obtain rfl:=K u s;simp only[zTq,zAI]
  grind[fL]
variable{u:KS}
theorem zLM{Q:ζ}{h:Ξ}:
 Bo c q pos (F pos) lost (n+1) (.l7 i 2 o1 w S o4 u Q z Ϛ l X h)=Bo c q pos (F pos) lost n (.l9 i o1 w S o4 u Q z X h):=by
 simp_all[T0,Bo]
def Hb(c:AE)(pos:Ξ)(i:U)(w:O<|A KS)(Ϛ l:E)(inn:ζ):O<|A KS:=match nx c Ϛ l inn with
 |some t=>L (kd c pos i inn) (w.set (i+1)<|Z<|DN [t.1,t.2]<|(w.getD (i+1) V).getD []) w
 |none=>w
variable{Q:E}
theorem zLS(W:CZ c k pos)(R:Jt c)(hi:i<F c.ce)(h:OX c Ϛ l)(f:i+1<F w)(g:(w.getD (i+1) V).isSome=T):
 Bo c q pos (F pos) lost (n+1) (.l5 i Q 0 o1 w i Ϛ l a e)=Bo c q pos (F pos) lost n (.l5 i Q 1 o1 (Hb c pos i w Ϛ l D) i Ϛ l a e):=by
 obtain⟨t,y,K⟩:=eN (n:=n) (ln:=F pos) (pos:=pos) (lost:=o1) (q:=q) (inn:=D) R h;have b:M ([D,T]:Ω) (0+((0:E)).toNat) D=D:=rfl;have r:AI<|(0:E)+1:=Ae.2 ⟨Z6,Z6⟩;have Aj:=W.len;have G:((((F c.ce:U):E)+1).toNat:U)=F c.ce+1:=Z2
 have j:0+(((i:E)+1).toNat:U)=i+1:=Z2
 show T3 n (Bo c q pos (F pos) lost n) c q pos (F pos) lost i Q 0 o1 w i Ϛ l a e=_
 unfold T3 Hb;rw[zAA Z6,zAI,zAB ⟨⟨Z6,Z6⟩,Z6⟩,b,y,zAD];cases s:nx c Ϛ l D with
 |none=>grind
 |some u=>
  obtain rfl:=K u s;simp only[zTq,zAI];rw[fL W hi,zAD];cases hk:kd c pos i D
  ·simp only[zAJ,zAB r];rfl
  ·simp only[zAI,G,j];rw[zAB ⟨Ae.2 ⟨Z2,Z2⟩,⟨Z2,Z2⟩,f,Z2,g,r⟩];rfl
theorem zLR(W:CZ c k pos)(R:Jt c)(hi:i<F c.ce)(h:OX c Ϛ l)(f:i+1<F w)(g:(w.getD (i+1) V).isSome=T):
 Bo c q pos (F pos) lost (n+1) (.l5 i Q 1 o1 w i Ϛ l a e)=Bo c q pos (F pos) lost n (.l5 i Q 2 o1 (Hb c pos i w Ϛ l T) i Ϛ l a e):=by
 obtain⟨t,y,K⟩:=eN (n:=n) (ln:=F pos) (pos:=pos) (lost:=o1) (q:=q) (inn:=T) R h;have b:M ([D,T]:Ω) (0+((1:E)).toNat) D=T:=rfl;have r:AI<|(1:E)+1:=Ae.2 ⟨Z6,Z6⟩;have Aj:=W.len;have G:((((F c.ce:U):E)+1).toNat:U)=F c.ce+1:=Z2
 have j:0+(((i:E)+1).toNat:U)=i+1:=Z2
 show T3 n (Bo c q pos (F pos) lost n) c q pos (F pos) lost i Q 1 o1 w i Ϛ l a e=_
 unfold T3 Hb;rw[zAA Z6,zAI,zAB ⟨⟨Z6,Z6⟩,Z6⟩,b,y,zAD];cases s:nx c Ϛ l T with
 |none=>grind
 |some u=>
  obtain rfl:=K u s;simp only[zTq,zAI];rw[fL W hi,zAD];cases hk:kd c pos i T
  ·simp only[zAJ,zAB r];rfl
  ·simp only[zAI,G,j];rw[zAB ⟨Ae.2 ⟨Z2,Z2⟩,⟨Z2,Z2⟩,f,Z2,g,r⟩];rfl
theorem zLQ{a:Ξ}:
 Bo c q pos (F pos) lost (n+1) (.l5 i Q 2 o1 w i Ϛ l u a)=Bo c q pos (F pos) lost n (.l8 i Q o1 w i u a):=by
 simp_all[T3,Bo]
def Ht(w:O<|A KS)(j:U):KS:=(w.getD j V).getD []
theorem wc :F (Hb c pos i w Ϛ l inn)=F w:=by
 unfold Hb
 grind
variable{α:Type}
theorem zPO{l:O α}{x y:α}(h:i<F l):(l.set i x).getD i y=x:=by
 grind
variable{j:U}
theorem zAY{l:O α}{x y:α}(h:i≠j):(l.set i x).getD j y=l.getD j y:=by
 grind
theorem zIx(h:j≠i+1):(Hb c pos i w Ϛ l inn).getD j V=w.getD j V:=by
 unfold Hb
 grind
theorem mJ(hl:i+1<F w)(h:(w.getD j V).isSome=T):((Hb c pos i w Ϛ l inn).getD j V).isSome=T:=by
 grind[Hb]
theorem eS(hl:i+1<F w){x:Ξ}:x∈Ht (Hb c pos i w Ϛ l inn) (i+1)↔x∈Ht w (i+1)∨∃t,nx c Ϛ l inn=Z t/\kd c pos i inn=T/\x= [t.1,t.2]:=by
 unfold Hb;split
 ·cases hk:kd c pos i inn
  ·grind
  ·rw[zAI]
   grind[Ht,RT]
 grind
structure Rows(c:AE)(pos:Ξ)(i:U)(o3:O (A KS)):Prop where
 len:F o3=F c.ce+1
 isSome:∀j,j<=F c.ce->(o3.getD j V).isSome=T
 row:∀j,j<=i->∀x,x∈Ht o3 j↔∃t:Δ,x= [t.1,t.2]/\GH c pos j t
 rest:∀j,i<j->j<=F c.ce->Ht o3 j= []
structure TC(c:AE)(pos:Ξ)(i:U)(rem:KS)(o3:O (A KS)):Prop where
 hi:i<F c.ce
 len:F o3=F c.ce+1
 isSome:∀j,j<=F c.ce->(o3.getD j V).isSome=T
 row:∀j,j<=i->∀x,x∈Ht o3 j↔∃t:Δ,x= [t.1,t.2]/\GH c pos j t
 rest:∀j,i+1<j->j<=F c.ce->Ht o3 j= []
 sub:∀x∈rem,∃t:Δ,x= [t.1,t.2]/\GH c pos i t
 next:∀x∈Ht o3 (i+1),∃t:Δ,x= [t.1,t.2]/\GH c pos (i+1) t
 cov:∀t,GH c pos i t->[t.1,t.2]∈rem∨∀inn u,nx c t.1 t.2 inn=Z u->kd c pos i inn=T->[u.1,u.2]∈Ht o3 (i+1)
def Rows.mid(h:Rows c pos i w)(hi:i<F c.ce):TC c pos i (Ht w i) w where
 hi:=hi
 len:=h.len
 isSome:=h.isSome
 row:=h.row
 rest:=λj hj m=>h.rest j Z2 m
 sub:=λx e=>(h.row i (zAf _) x).1 e
 next:=λx e=>by rw[h.rest (i+1) Z2 Z2]at e;cases e
 cov:=λt v=>.inl<|(h.row i (zAf _) _).2 ⟨t,rfl,v⟩
def TC.rows(h:TC c pos i [] w):Rows c pos (i+1) w where
 len:=h.len
 isSome:=h.isSome
 row:=λj g x=>by
  rcases zBy.1 (Nat.lt_succ_of_le g)with g|rfl
  ·exact h.row j Z2 x
  ·refine⟨h.next x,?_⟩;rintro⟨t,rfl,s,inn,a,b,k⟩;rcases h.cov s a with h4|h4
   ·cases h4
   ·exact h4 inn t b k
 rest:=h.rest
theorem xD{u:Δ}(h:([t.1,t.2]:Ξ)= [u.1,u.2]):t=u:=by
 grind
theorem TC.go{k:KS}(h:TC c pos i k w)(v:[t.1,t.2]∈k):TC c pos i (k.erase [t.1,t.2])<|Hb c pos i (Hb c pos i w t.1 t.2 D) t.1 t.2 T:=by
 have hl:=h.len;have hi:=h.hi;have b:i+1<F w:=Z2
 have f:i+1<F (Hb c pos i w t.1 t.2 D):=by rw[wc];exact b
 have l:∀j,j≠i+1->Ht (Hb c pos i (Hb c pos i w t.1 t.2 D) t.1 t.2 T) j=Ht w j:=λj g=>by
  grind[Ht,zIx]
 have hR:GH c pos i t:=by
  obtain⟨u,e,m⟩:=h.sub _ v;rw[xD e];exact m
 refine⟨hi,by grind[wc],λj g=>mJ f<|mJ b<|h.isSome j g,λj g x=>?_,λj g n=>?_,λx a=>h.sub x<|List.mem_of_mem_erase a,λx a=>?_,λs o=>?_⟩
 ·rw[l j Z2];exact h.row j g x
 ·rw[l j Z2];exact h.rest j g n
 ·rw[eS f,eS b]at a;rcases a with(a|⟨u,y,K,rfl⟩)|⟨u,y,K,rfl⟩
  ·exact h.next x a
  ·grind[GH]
  grind[GH]
 ·by_cases e:s=t
  ·simp_all[eS]
  ·rcases h.cov s o with h3|h3
   ·grind
   grind[eS]
def JA(c:AE)(pos lost:Ξ)(r:ζ×Ξ):Prop:=r.1=T/\CU c pos lost (F c.ce) (Ku c pos) r.2/\∀j,CO<|M r.2 j 0
theorem JA.uniq(r R:ζ×Ξ)(h:JA c pos lost r)(h':JA c pos lost R):r=R:=by
 grind[CU.unique,JA]
theorem zKS(W:CZ c k pos)(R:Jt c)(h:Q=(i:E))(Ϙ:∀w,Rows c pos (i+1) w->Aw (λn=>Bo c q pos (F pos) lost n<|.l2 (Q+1) o1 w) (JA c pos lost)):
 ∀(m:U) (a:KS) (w:O<|A KS) (e:Ξ),F a=m->TC c pos i a w->Aw (λn=>Bo c q pos (F pos) lost n<|.l8 i Q o1 w i a e) (JA c pos lost):=by
 intro m
 induction m with
 |zero=>
  intro a w e z b;have:a= []:=zOL z;subst this;have j:=b.isSome i (by have:=b.hi;omega);have r1:AI<|Q+1:=by rw[h];exact(W.r64 b.hi).2
  refine Aw.step 1 (λn=>?_)<|Ϙ w b.rows
  simp_all[lV,Bo,zJr]
 |succ m o=>
  intro a w e z b;have j:=b.isSome i (by have:=b.hi;omega);have p:a≠[]:=Z4
  refine Aw.step 1 (g:=λn=>JX a (C (AI<|Q+1) (Bo c q pos (F pos) lost n<|.l2 (Q+1) o1 w) V) λf=>Bo c q pos (F pos) lost n<|.l5 i Q 0 o1 w i (M f 0 0) (M f 1 0) (a.erase f) f) (λn=>?_)<|Aw.next p (λy hy=>?_) JA.uniq
  ·simp_all[lV,Bo]
  ·obtain⟨t,rfl,v⟩:=b.sub y hy;have hS:=v.ok;have hl:=b.len;have hi:=b.hi;have r:i+1<F w:=Z2
   have s:=b.isSome (i+1) Z2;have s2:=mJ (c:=c) (pos:=pos) (Ϛ:=t.1) (l:=t.2) (inn:=D) r s;refine Aw.step 3 (λn=>?_)<|o _ _ [t.1,t.2] Z4<|b.go hy
   grind[zLS,zLR,zLQ]
def Qg(c:AE)(pos:Ξ)(m:U)(o4:KS):Prop:=∀x,x∈o4↔∃t:Δ,x= [t.1,t.2]/\Kj c pos m t
def Qd(c:AE)(pos lost:Ξ)(m:U)(o1:Ξ):Prop:=CU c pos lost (F c.ce) (λa s=>F c.ce<=a+m/\Ku c pos a s) o1/\∀j,CO<|M o1 j 0
structure Bk(c:AE)(pos:Ξ)(i m:U)(o5:KS)(b0 b1:ζ)(rem:KS):Prop where
 hi:i+m+1=F c.ce
 sub:∀x∈rem,∃t:Δ,x= [t.1,t.2]/\GH c pos i t
 o5s:∀x∈o5,∃t:Δ,x= [t.1,t.2]/\Kj c pos (m+1) t
 b0s:b0=T->Kc c pos i D
 b1s:b1=T->Kc c pos i T
 cov:∀t,GH c pos i t->[t.1,t.2]∈rem∨∀inn u,nx c t.1 t.2 inn=Z u->kd c pos i inn=T->Kj c pos m u->[t.1,t.2]∈o5/\(L inn b1 b0)=T
variable{m:U}
theorem xc(h:Qg c pos m o4):FT c pos i o4 Ϛ l inn=T↔∃u,nx c Ϛ l inn=Z u/\kd c pos i inn=T/\Kj c pos m u:=by
 unfold FT;split
 ·grind[Qg]
 grind
theorem Bk.go{k:KS}{Q:ζ}(hE:Qg c pos m o4)(h:Bk c pos i m a Q z k)(f:[t.1,t.2]∈k):
 Bk c pos i m (L (FT c pos i o4 t.1 t.2 T) (DN [t.1,t.2]<|L (FT c pos i o4 t.1 t.2 D) (DN [t.1,t.2] a) a)<|L (FT c pos i o4 t.1 t.2 D) (DN [t.1,t.2] a) a) (Q||FT c pos i o4 t.1 t.2 D) (z||FT c pos i o4 t.1 t.2 T) (k.erase [t.1,t.2]):=by
 have hR:GH c pos i t:=by
  obtain⟨u,e,g⟩:=h.sub _ f;rw[xD e];exact g
 have ei:F c.ce-1-i=m:=by have:=h.hi;omega
 have em:F c.ce-1-m=i:=by have:=h.hi;omega
 have v:∀inn,FT c pos i o4 t.1 t.2 inn=T->Kc c pos i inn:=λinn j=>by
  grind[Kc,Qg,FT]
 have P:∀inn,FT c pos i o4 t.1 t.2 inn=T->Kj c pos (m+1) t:=λinn j=>by
  grind[xc,Kj]
 have l:∀x,x∈(L (FT c pos i o4 t.1 t.2 T) (DN [t.1,t.2]<|L (FT c pos i o4 t.1 t.2 D) (DN [t.1,t.2] a) a)<|L (FT c pos i o4 t.1 t.2 D) (DN [t.1,t.2] a) a)↔x∈a∨(x= [t.1,t.2]/\(FT c pos i o4 t.1 t.2 T=T∨FT c pos i o4 t.1 t.2 D=T)):=λx=>by
  cases FT c pos i o4 t.1 t.2 T <;> cases FT c pos i o4 t.1 t.2 D <;> simp only[zAI,zAJ,RT,zMe,or_false,and_false,or_true,true_or,and_true]
  ·exact Or.comm
  ·exact Or.comm
  grind
 refine⟨h.hi,λx b=>h.sub x<|List.mem_of_mem_erase b,λx b=>?_,λhb=>?_,λhb=>?_,λs n=>?_⟩
 ·rcases(l x).1 b with b|⟨rfl,h1|h1⟩
  ·exact h.o5s x b
  ·exact⟨t,rfl,P _ h1⟩
  grind
 ·rcases Bool.or_eq_true_iff.1 hb with hb|hb
  ·exact h.b0s hb
  ·exact v _ hb
 ·rcases Bool.or_eq_true_iff.1 hb with hb|hb
  ·exact h.b1s hb
  ·exact v _ hb
 ·by_cases e:s=t
  ·grind[xc,kd]
  ·rcases h.cov s n with h3|h3
   ·grind
   grind
theorem Bk.end'{b:KS}{Q:ζ}(h:Bk c pos i m b Q z []):Qg c pos (m+1) b/\(Q=T↔Kc c pos i D)/\(z=T↔Kc c pos i T):=by
 have e:F c.ce-1-i=m:=by have:=h.hi;omega
 have em:F c.ce-1-m=i:=by have:=h.hi;omega
 refine⟨λx=>⟨h.o5s x,?_⟩,⟨h.b0s,?_⟩,⟨h.b1s,?_⟩⟩
 ·rintro⟨t,rfl,a⟩;have a:GH c pos (F c.ce-1-m) t/\∃u inn,nx c t.1 t.2 inn=Z u/\kd c pos (F c.ce-1-m) inn=T/\Kj c pos m u:=a;rw[em]at a;obtain⟨a,u,inn,f,k,R⟩:=a;rcases h.cov t a with h5|h5
  ·cases h5
  grind
 ·rintro⟨s,t,a,f,k,R⟩;rw[e]at R;rcases h.cov s a with h5|h5
  ·cases h5
  grind
 ·rintro⟨s,t,a,f,k,R⟩;rw[e]at R;rcases h.cov s a with h5|h5
  ·cases h5
  grind
def yW(h0:0<=cell)(a:cell<(F pos:E))(m:F lost=F pos)(hi:∀j,CO<|M lost j 0):
 ∃l',(∀n,El n cell ss c q pos (F pos) lost=Z l')/\F l'=F pos/\(∀j,CO<|M l' j 0)/\∀j s,tb (M l' j 0) s=(tb (M lost j 0) s||(H (j=cell.toNat)&&(tb (M pos j 0) s&&tb ss s))):=by
 obtain⟨l',e,b,k⟩:=Nn (n:=0) (ss:=ss) (c:=c) (q:=q) h0 a m;exact⟨l',λ_=>e,b,zKn e hi,k⟩
def mf(h0:0<=cell)(a:cell<(F pos:E))(m:F lost=F pos)(hi:∀j,CO<|M lost j 0):
 ∃l',(∀n,IN n cell c q pos (F pos) lost=Z l')/\F l'=F pos/\(∀j,CO<|M l' j 0)/\∀j s,tb (M l' j 0) s=(tb (M lost j 0) s||(H (j=cell.toNat)&&(tb (M pos j 0) s&&!tb c.set s))):=by
 obtain⟨l',e,b,k⟩:=me (n:=0) (c:=c) (q:=q) h0 a m;exact⟨l',λ_=>e,b,zJm e hi,k⟩
theorem Qd.go(h:Qd c pos lost m o1)(hi:i+m+1=F c.ce)(a:F l'=F pos)(b:∀j,CO<|M l' j 0)
 (e:∀j s,tb (M l' j 0) s=T↔tb (M o1 j 0) s=T∨((M c.ce i 0).toNat=j/\tb (Ag c pos i) s=T/\Ku c pos i s)):Qd c pos lost (m+1) l':=by
 refine⟨⟨a,λj s=>?_⟩,b⟩;rw[e,h.1.2]
 grind
theorem zSB{h:E}(W:CZ c k pos)(R:Jt c)(v:h=(i:E))(hR:Rows c pos (F c.ce) w)(G:Qg c pos m o4)(J:Qd c pos lost m o1)
 (Ϙ:∀o1 u,Qd c pos lost (m+1) o1->Qg c pos (m+1) u->Aw (λn=>Bo c q pos (F pos) lost n<|.l4 (h-1) o1 w u) (JA c pos lost)):
 ∀(z:U) (a u:KS) (Q b:ζ) (e:Ξ),F a=z->Bk c pos i m u Q b a->Aw (λn=>Bo c q pos (F pos) lost n<|.l9 i o1 w i o4 u Q b a e) (JA c pos lost):=by
 intro z
 induction z with
 |zero=>
  intro a u Q b e l N;have:a= []:=zOL l;subst this;obtain⟨I,e0,e1⟩:=N.end';have hi:i<F c.ce:=by have:=N.hi;omega
  have o:=hR.isSome i Z2;have Aj:=W.len;have r1:AI<|(i:E)-1:=Ae.2 ⟨Z2,Z2⟩;have hc:=W.ce i hi;have g0:(0:E)<=(i:E)/\(i:E)<((F c.ce:U):E):=⟨Z2,Z2⟩;obtain⟨K,f1,P,S,t1⟩:=yW (ss:=c.set) (c:=c) (q:=q) hc.1 hc.2 J.1.1 J.2;obtain⟨X,f2,n2,i2,t2⟩:=mf (c:=c) (q:=q) hc.1 hc.2 P S;obtain⟨Y,f3,n3,i3,t3⟩:=mf (c:=c) (q:=q) hc.1 hc.2 J.1.1 J.2
  have eq:∀n,Bo c q pos (F pos) lost (n+1) (.l9 i o1 w i o4 u Q b [] e)=Bo c q pos (F pos) lost n (.l4 (i-1) (L (!b) (L (!Q) X K)<|L (!Q) Y o1) w u):=λn=>by
   show Wt n (Bo c q pos (F pos) lost n) c q pos (F pos) lost i o1 w i o4 u Q b [] e=_
   unfold Wt
   grind[JX]
  refine Aw.step 1 eq ?_
  have key:∀l':Ξ,F l'=F pos->(∀j,CO<|M l' j 0)->(∀j s,tb (M l' j 0) s=(tb (M o1 j 0) s||(H (j=(M c.ce i 0).toNat)&&(tb (M pos j 0) s&&((!b&&tb c.set s)||(!Q&&!tb c.set s))))))->Qd c pos lost (m+1) l':=by
   intro l' h1 h2 h3;refine J.go N.hi h1 h2 λj s=>?_
   rw[h3,zCz,zAK,zAK,zB0,zCz,zAK,zAK,zKL,zKL,zKL];unfold Ku
   grind[Ag]
  subst v;cases b <;> cases Q <;> simp only[zMd,zMv,zAI,zAJ]
  ·grind
  ·grind
  ·grind
  ·exact Ϙ o1 u (key o1 J.1.1 J.2 λj s=>by
    grind) I
 |succ z ih=>
  intro a u Q b e l N;have hi:i<F c.ce:=by have:=N.hi;omega
  have o:=hR.isSome i Z2;have p:a≠[]:=Z4
  refine Aw.step 1 (g:=λn=>JX a V λf=>Bo c q pos (F pos) lost n<|.l7 i 0 o1 w i o4 u Q b (M f 0 0) (M f 1 0) (a.erase f) f) (λn=>?_)<|Aw.next p (λy hy=>?_) JA.uniq
  ·show Wt n (Bo c q pos (F pos) lost n) c q pos (F pos) lost i o1 w i o4 u Q b a e=_
   unfold Wt;simp only[zAB o];cases a with
   |nil=>exact τ rfl p
   |cons x r=>rfl
  ·obtain⟨t,rfl,ht⟩:=N.sub y hy;have hS:=ht.ok;refine Aw.step 3 (λn=>?_)<|ih _ _ _ _ [t.1,t.2] Z4<|N.go G hy
   grind[zLO,zLN,zLM]
def zLP :Bo c q pos ln lost n (.l6 Q o1 w S o4 a)=Bo c q pos ln lost n (.l9 Q o1 w S o4 [] D D a []):=by cases n <;> rfl
def zLT{x8:E}:Bo c q pos ln lost n (.l3 x8 Q o1 w S o4)=Bo c q pos ln lost n (.l8 x8 Q o1 w S o4 []):=by cases n <;> rfl
theorem zCC(W:CZ c k pos)(R:Jt c)(hR:Rows c pos (F c.ce) w):
 ∀(i m:U) (Q:E) (o1:Ξ) (o4:KS),i+m=F c.ce->Q=(i:E)-1->Qd c pos lost m o1->Qg c pos m o4->Aw (λn=>Bo c q pos (F pos) lost n<|.l4 Q o1 w o4) (JA c pos lost):=by
 intro i
 induction i with
 |zero=>
  intro m Q o1 o4 z e J a;refine Ev.p (r:=(T,o1)) ⟨1,λn hn=>?_⟩ ⟨rfl,⟨J.1.1,λj s=>?_⟩,J.2⟩
  ·obtain⟨n,rfl⟩:∃b,n=b+1:=⟨n-1,Z2⟩
   simp_all[cS,Bo]
  ·rw[J.1.2]
   grind
 |succ i f=>
  intro m Q o1 o4 z e J a;have e:Q=(i:E):=Z2
  subst e;have l:=hR.isSome i Z2;have Aj:=hR.len;have G:((((F c.ce:U):E)+1).toNat:U)=F c.ce+1:=Z2
  have o:0+((i:E).toNat:U)=i:=Z2
  refine Aw.step 1 (g:=λn=>Bo c q pos (F pos) lost n<|.l9 i o1 w i o4 [] D D (Ht w i) []) (λn=>?_)<|zSB W R rfl hR a J (λo1 u v y=>f (m+1) ((i:E)-1) o1 u Z2 rfl v y) _ (Ht w i) [] D D [] rfl ⟨Z2,λx e=>(hR.row i Z2 x).1 e,λx e=>(by cases e),λh=>(by cases h),λh=>(by cases h),λt I=>.inl<|(hR.row i Z2 _).2 ⟨t,rfl,I⟩⟩
  show cS n (Bo c q pos (F pos) lost n) c q pos (F pos) lost (i:E) o1 w o4=_
  unfold cS;simp only[G,o];rw[zAA Z2,zAI,zAB l,zAB ⟨⟨Z2,Z2⟩,Z2,l⟩];exact zLP
theorem zPY(W:CZ c k pos)(R:Jt c)(b:F lost=F pos)(f:∀j,CO<|M lost j 0):
 ∀(m i:U) (Q:E) (w:O<|A KS),i+m=F c.ce->Q=(i:E)->Rows c pos i w->Aw (λn=>Bo c q pos (F pos) lost n<|.l2 Q lost w) (JA c pos lost):=by
 intro m
 induction m with
 |zero=>
  intro i Q w z e hR;have z:i=F c.ce:=Z2
  subst z e;have p:=W.len;have hr:=R.1;have r1:AI<|(F c.ce:E)-1:=Ae.2 ⟨Z2,Z2⟩;have r2:AI<|(F c.ru:E)-1:=Ae.2 ⟨Z2,Z2⟩;have J:Qd c pos lost 0 lost:=⟨⟨b,λj s=>⟨.inl,λh=>h.elim id λ⟨a,h1,_,_,o,_⟩=>τ o Z2⟩⟩,f⟩
  by_cases h0:0<F c.ru
  ·have G:(((F c.ru:U):E)-1).toNat=F c.ru-1:=Z2
   refine Aw.step 1 (g:=λn=>Bo c q pos (F pos) lost n<|.l4 ((F c.ce:E)-1) lost w<|DN [(F c.ru:E)-1,M c.ru (F c.ru-1) 0]<|DN [(F c.ru:E),0] ([]:KS)) (λn=>?_)<|zCC W R hR (F c.ce) 0 _ _ _ Z2 rfl J λx=>?_
   ·show T4 n (Bo c q pos (F pos) lost n) c q pos (F pos) lost (F c.ce:E) lost w=_
    unfold T4
    grind
   ·rw[RT,RT];constructor
    ·rintro(rfl|rfl|h)
     ·exact⟨((F c.ru:E)-1,M c.ru (F c.ru-1) 0),rfl,.inr ⟨h0,rfl⟩⟩
     ·exact⟨((F c.ru:E),0),rfl,.inl rfl⟩
     ·cases h
    ·rintro⟨t,rfl,rfl|⟨_,rfl⟩⟩
     ·exact .inr<|.inl rfl
     ·exact .inl rfl
  ·have h0':F c.ru=0:=Z2
   refine Aw.step 1 (g:=λn=>Bo c q pos (F pos) lost n<|.l4 ((F c.ce:E)-1) lost w<|DN [(F c.ru:E),0] ([]:KS)) (λn=>?_)<|zCC W R hR (F c.ce) 0 _ _ _ Z2 rfl J λx=>?_
   ·simp_all[T4,Bo]
   ·rw[RT];constructor
    ·rintro(rfl|h)
     ·exact⟨((F c.ru:E),0),rfl,.inl rfl⟩
     ·cases h
    ·rintro⟨t,rfl,rfl|⟨h,rfl⟩⟩
     ·exact .inl rfl
     ·exact τ h h0
 |succ m r=>
  intro i Q w z e hR;subst e;have hi:i<F c.ce:=Z2
  have l:=hR.isSome i Z2;have p:=hR.len;have G:((((F c.ce:U):E)+1).toNat:U)=F c.ce+1:=Z2
  have u:0+((i:E).toNat:U)=i:=Z2
  refine Aw.step 1 (g:=λn=>Bo c q pos (F pos) lost n<|.l8 i i lost w i (Ht w i) []) (λn=>?_)<|zKS W R rfl (λw h=>r (i+1) _ w Z2 Z2 h) _ _ _ _ rfl (hR.mid hi)
  show T4 n (Bo c q pos (F pos) lost n) c q pos (F pos) lost (i:E) lost w=_
  unfold T4;simp only[G,u];rw[zAA Z2,zAI,zAB l,zAB ⟨⟨Z2,Z2⟩,Z2,l⟩];exact zLT
theorem zP3(W:CZ c k pos)(R:Jt c)(l:F lost=F pos)(s:∀j,CO<|M lost j 0):
 ∀(m j:U) (a:E) (w:O<|A KS),j+m=F c.ce+1->a=(j:E)->F w=F c.ce+1->(∀i,i<j->w.getD i V=Z [])->Aw (λn=>Bo c q pos (F pos) lost n<|.l1 a w) (JA c pos lost):=by
 intro m
 induction m with
 |zero=>
  intro j a w z b p f;subst b;have G:((((F c.ce:U):E)+1).toNat:U)=F c.ce+1:=Z2
  have hs:(w.getD 0 V).isSome=T:=by rw[f 0 Z2];rfl
  have e0:(w.getD 0 V).getD []= []:=by rw[f 0 Z2];rfl
  have hg:∀i,i≠0->(w.set 0<|Z<|DN [0,0] ([]:KS)).getD i V=w.getD i V:=λi hi=>zAY λe=>hi e.symm
  have o:(w.set 0<|Z<|DN [0,0] ([]:KS)).getD 0 V=Z (DN [0,0] []):=zPO Z2;refine Aw.step 1 (g:=λn=>Bo c q pos (F pos) lost n<|.l2 0 lost<|w.set 0<|Z<|DN [0,0] ([]:KS)) (λn=>?_)<|zPY W R l s (F c.ce) 0 0 _ Z2 rfl ⟨by rw[zIG];exact p,λi hi=>?_,λi hi x=>?_,λi hi SJ=>?_⟩
  ·simp_all[cT,Bo]
  ·grind
  ·obtain rfl:i=0:=Z2
   show x∈((w.set 0<|Z<|DN [0,0] ([]:KS)).getD 0 V).getD []↔_
   rw[o]
   show x∈DN [0,0] []↔_
   rw[RT];constructor
   ·rintro(rfl|h)
    ·exact⟨(0,0),rfl,rfl⟩
    ·cases h
   ·rintro⟨t,rfl,h⟩;have h:t=(0,0):=h;subst h;exact .inl rfl
  ·show((w.set 0<|Z<|DN [0,0] ([]:KS)).getD i V).getD []= []
   grind
 |succ m r=>
  intro j a w z b p f;subst b;have zOJ:=W.len;have G:((((F c.ce:U):E)+1).toNat:U)=F c.ce+1:=Z2
  have u:0+((j:E).toNat:U)=j:=Z2
  refine Aw.step 1 (g:=λn=>Bo c q pos (F pos) lost n<|.l1 ((j:E)+1)<|w.set j<|Z ([]:KS)) (λn=>?_)<|r (j+1) _ _ Z2 Z2 (by rw[zIG];exact p) λi hi=>?_
  ·show cT n (Bo c q pos (F pos) lost n) c q pos (F pos) lost (j:E) w=_
   unfold cT;simp only[G,u];rw[zAA Z2,zAI,zAB ⟨⟨Z2,Z2⟩,Z2,Ae.2 ⟨Z2,Z2⟩⟩]
  grind[zAY]
def MA(c:AE):ζ:=(F c.ce != 0)||(F c.ru==0)
theorem zG0(W:CZ c k pos)(R:Jt c)(m:F lost=F pos)(s:∀j,CO<|M lost j 0):
 ∃l,Ev (λn=>T5 n c q pos (F pos) lost) (MA c,l)/\(MA c=T->CU c pos lost (F c.ce) (Ku c pos) l):=by
 by_cases h0:F c.ce=0
 ·have y:MA c=((F c.ru:E)==0):=by
   grind[MA]
  refine⟨lost,Ev.now λn=>?_,λ_=>by rw[h0];exact CU.zero m⟩
  grind[T5,lW]
 ·have y:MA c=T:=by
   grind[MA]
  have Aj:=W.len;have G:((((F c.ce:U):E)+1).toNat:U)=F c.ce+1:=Z2
  obtain⟨r,e,f⟩:=(zP3 (q:=q) W R m s (F c.ce+1) 0 0 (d (F c.ce+1) V) Z2 rfl Z3 λi hi=>τ hi<|zAR i).ev JA.uniq;obtain⟨b,l⟩:=r;obtain⟨a,g,h5⟩:=e;have a:b=T:=a;subst a;refine⟨l,?_,λ_=>g⟩;rw[y];refine f.eq λn=>?_
  unfold T5 lW;rw[G]
  have K:(((F c.ce:U):E)==0)=D:=by
   grind
  rw[K,zAJ,zAB ⟨Ae.2 ⟨Z2,Z2⟩,rfl,Z2,Z2⟩]
end
abbrev zMP:=@List.countP_eq_length_filter
abbrev zOB:=@List.foldl_cons
abbrev zTZ:=@List.take_length
section
variable{c:AE}{k:U}{pos lost:Ξ}{q:AA}
structure FN(c:AE)(q:AA)(pos:Ξ):Prop where
 len:F c.ce=F pos
 id:∀j,j<F pos->M c.ce j 0=(j:E)
 g:Hr q.nb
 gl:F q.nb=F pos
 l0:0<F pos
 l1:F pos<=256
 nz:∀j,j<F pos->CO (M pos j 0)/\M pos j 0≠0
def pB(c:AE)(pos:Ξ):Ω:=pos.map λx=>bits .and .i64 x c.set != 0
def cB(c:AE)(pos:Ξ):Ω:=pos.map λx=>bits .andNot .i64 x c.set==0
theorem Iq:F (pB c pos)=F pos:=zAS _
theorem Ll:F (cB c pos)=F pos:=zAS _
variable{j:U}
theorem dk(hj:j<F pos):M (pB c pos) j D=(bits .and .i64 (M pos j 0) c.set != 0):=by
 grind[pB]
theorem jE(hj:j<F pos):M (cB c pos) j D=(bits .andNot .i64 (M pos j 0) c.set==0):=by
 grind[cB]
def FN.cp(W:FN c q pos)(g:j<F pos)(h:M (cB c pos) j D=T):M (pB c pos) j D=T:=by
 rw[jE g,zB1]at h;rw[dk g,zOF];obtain⟨a,e⟩:=W.nz j g;obtain⟨s,l,b⟩:=(GV a).1 e;have k:=(Ok<|HK .andNot _ _).1 h s l;rw[NI,b,zOA,Bool.not_eq_false']at k;exact(GV<|HK .and _ _).2 ⟨s,l,by rw[Kl,b,k];rfl⟩
def Cp(pos lost:Ξ)(ϑ:U->Ψ)(l:Ξ):Prop:=(F l=F pos/\∀j,CO<|M l j 0)/\∀j s,tb (M l j 0) s=T↔tb (M lost j 0) s=T∨(j<F pos/\tb (M pos j 0) s=T/\ϑ j s)
variable{l l':Ξ}{ϑ:U->Ψ}
theorem Cp.unique(h:Cp pos lost ϑ l)(h':Cp pos lost ϑ l'):l=l':=by
 have e:F l=F l':=h.1.1.trans h'.1.1.symm;refine zOC e λj a c=>?_
 have y:M l j 0=l[j]:=by simp[a]
 have K:M l' j 0=l'[j]:=by simp[c]
 rw[←y,←K];refine L3 (h.1.2 j) (h'.1.2 j) λs _=>?_
 grind[Cp]
theorem Cp.by(W:FN c q pos)(h:Cp pos lost ϑ l):CU c pos lost (F c.ce) ϑ l:=by
 refine⟨h.1.1,λj s=>?_⟩;have hl:=W.len;rw[h.2];constructor
 ·rintro(b|⟨b,f,k⟩)
  ·exact .inl b
  ·have e:=W.id j b
   grind[Ag]
 ·rintro(b|⟨a,b,f,k,h4⟩)
  ·exact .inl b
  ·have e:=W.id a Z2
   grind[Ag]
variable{D':U->Ψ}
theorem Cp.step(h:Cp pos lost ϑ l)(hl:F l'=F pos)(DC:∀j,CO<|M l' j 0){ε:U->Ψ}(h1:∀j s,tb (M l' j 0) s=T↔tb (M l j 0) s=T∨(j<F pos/\tb (M pos j 0) s=T/\ε j s))
 (hD:∀j s,j<F pos->tb (M pos j 0) s=T->(D' j s↔ϑ j s∨ε j s)):Cp pos lost D' l':=by
 grind[Cp]
def Cp.id'(h:Cp pos lost ϑ l)(G:∀j s,j<F pos->tb (M pos j 0) s=T->(D' j s↔ϑ j s)):Cp pos lost D' l:=
 h.step (ε:=λ_ _=>False) h.1.1 h.1.2 (λj s=>Z3) λj s a c=>by rw[G j s a c,or_false]
variable{cell:E}
theorem Cp.lose(h:Cp pos lost ϑ l){ss:E}(h0:0<=cell)(a:cell<(F pos:E))(G:∀j s,j<F pos->tb (M pos j 0) s=T->(D' j s↔ϑ j s∨((j:E)=cell/\tb ss s=T))):
 ∃l',(∀n,El n cell ss c q pos (F pos) l=Z l')/\Cp pos lost D' l':=by
 obtain⟨l',e,b,k,h4⟩:=yW (ss:=ss) (c:=c) (q:=q) h0 a h.1.1 h.1.2;refine⟨l',e,h.step b k (ε:=λj s=>(j:E)=cell/\tb ss s=T) (λj s=>?_) G⟩
 grind
theorem Cp.only(h:Cp pos lost ϑ l)(h0:0<=cell)(a:cell<(F pos:E))(G:∀j s,j<F pos->tb (M pos j 0) s=T->(D' j s↔ϑ j s∨((j:E)=cell/\tb c.set s=D))):
 ∃l',(∀n,IN n cell c q pos (F pos) l=Z l')/\Cp pos lost D' l':=by
 obtain⟨l',e,b,k,h4⟩:=mf (c:=c) (q:=q) h0 a h.1.1 h.1.2;refine⟨l',e,h.step b k (ε:=λj s=>(j:E)=cell/\tb c.set s=D) (λj s=>?_) G⟩
 grind
def Er(l:Ω)(r:E):Prop:=(r= -1/\∀j,j<F l->M l j D=D)∨(0<=r/\r<(F l:E)/\M l r.toNat D=T/\∀j:U,(j:E)<r->M l j D=D)
theorem YP{l:Ω}(hl:F l<=256):∃r,Ev (λn=>fm n l T) r/\Er l r:=by
 have key:∀(k i:U),i+k=F l->(∀j,j<i->M l j D=D)->∃r,Ev (λn=>Pn l T n<|.l1 (i:E)) r/\Er l r:=by
  intro k
  induction k with
  |zero=>
   intro i e h;refine⟨-1,⟨1,λn s=>?_⟩,.inl ⟨rfl,λj g=>h j Z2⟩⟩;obtain⟨n,rfl⟩:∃k,n=k+1:=⟨n-1,Z2⟩
   simp_all[fk,Pn]
  |succ k a=>
   intro i e h
   have ι:∀n,Pn l T (n+1) (.l1 (i:E))=L (M l i D) (Z (i:E)) (Pn l T n<|.l1<|(i:E)+1):=λn=>by
    show fk n (Pn l T n) l T (i:E)=_
    unfold fk;rw[zAA Z2,zAI,zAB ⟨Z2,Z2⟩,u8,zAB<|Ae.2 ⟨Z2,Z2⟩];cases M l i D <;> rfl
   cases hi:M l i D
   ·obtain⟨r,b,c⟩:=a (i+1) Z2 λj g=>by
     grind
    refine⟨r,Ev.step 1 (λn=>?_) b,c⟩;rw[ι,hi,zAJ];rfl
   ·refine⟨(i:E),⟨1,λn s=>?_⟩,.inr ⟨Z2,Z2,Z4,λj g=>h j Z2⟩⟩;obtain⟨n,rfl⟩:∃k,n=k+1:=⟨n-1,Z2⟩
    grind
 exact key (F l) 0 Z2 λj g=>τ g<|zAR j
theorem zAz{l l':Ω}(h:F l=F l')(h2:∀j,j<F l->M l j D=M l' j D):l=l':=by
 grind[List.ext_getElem]
theorem Vj{l:Ω}{i:U}{b:ζ}(hi:i<F l):M (l.set i b) j D=C (j=i) b (M l j D):=by
 grind
def Fm(c:AE)(q:AA)(pos:Ξ)(a s:U):Prop:=M (pB c pos) a D=T/\tb c.set s=T/\∃r:E,0<=r/\Er (cB c pos) r/\¬Rc q.nb (pB c pos) r a
variable{r:E}
theorem Er.uniq{l:Ω}{R:E}(h:Er l r)(h':Er l R):r=R:=by
 grind[Er]
theorem zDA(G:Hr q.nb)(hB:F (pB c pos)=F q.nb)(Hg:0<=r)(hF:Er (cB c pos) r){s:U}:Fm c q pos j s↔M (pB c pos) j D=T/\tb c.set s=T/\¬Rc q.nb (pB c pos) r j:=by
 grind[Fm,Er]
def TB(c:AE)(q:AA)(pos lost:Ξ)(r:E)(x:Ω×Ω×ζ×Ξ):Prop:=x.1=pB c pos/\x.2.1=cB c pos/\x.2.2.1=H (0<=r)/\Cp pos lost (Fm c q pos) x.2.2.2
theorem TB.uniq(x y:Ω×Ω×ζ×Ξ)(h:TB c q pos lost r x)(h':TB c q pos lost r y):x=y:=by
 obtain⟨x1,x2,x3,a⟩:=x;obtain⟨y1,y2,y3,G⟩:=y;obtain⟨h1,h2,h3,R⟩:=h;obtain⟨ZG,h2',h3',J⟩:=h';have e4:a=G:=R.unique J
 grind
theorem zJ4{n:U}(W:FN c q pos)(t:Cp pos lost (λ_ _=>False) lost)(o:0<=r)(u:Er (cB c pos) r){near:Ξ}(hn:F near<=256)(Q:∀v,v∈near↔Rc q.nb (pB c pos) r v)(LP:600<=n):
 ∃x,GN c q pos (F pos) lost n (.l2 (pB c pos) (F<|pB c pos) near (F near:E) 0 (cB c pos)<|pB c pos)=Z x/\TB c q pos lost r x:=by
 have Hi:=W.l1;have G:=W.gl
 have y:r<(F q.nb:E):=by
  grind[Er,cB]
 have X:∀v∈near,0<=v/\v<(F pos:E):=λv z=>by
  have:=((Q v).1 z).rng W.g.gr o y;omega
 have S:=Jb (λn (a:Ω) i=>GN c q pos (F pos) lost n<|.l2 (pB c pos) (F<|pB c pos) near (F near:E) i (cB c pos) a) (F near) (F pos+3)
  (λi a=>F a=F pos/\∀j:U,M a j D=T↔M (pB c pos) j D=T/\(j:E)∉near.take i) (λn i a R hi Y=>?_) (n:=n) (s:=pB c pos) Z2 ⟨Iq,λj=>Z3⟩
 ·obtain⟨m,a,IW,_,I,pJ,p⟩:=S;obtain⟨b,rfl⟩:∃b,m=b+1:=⟨m-1,Z2⟩;rw[zTZ]at p
  have ϒ:=Jb (λn (o1:Ξ) i=>GN c q pos (F pos) lost n<|.l3 (pB c pos) (F<|pB c pos) (F<|pB c pos:E) i o1 (cB c pos) a) (F pos) 1
   (λi o1=>Cp pos lost (λj s=>j<i/\Fm c q pos j s) o1) (λn i o1 R hi Y=>?_) (n:=b) (s:=lost) Z2 (t.id' λj s _ _=>⟨λh=>τ h.1<|zAR j,λh=>h.elim⟩)
  ·obtain⟨J,o1,LN,_,e2,K⟩:=ϒ;obtain⟨w,rfl⟩:∃w,J=w+1:=⟨J-1,Z2⟩;refine⟨(pB c pos,cB c pos,T,o1),?_,rfl,rfl,(zAA o).symm,K.id' λj s k _=>⟨λh=>⟨k,h⟩,λh=>h.2⟩⟩;refine Eq.trans I ?_
   show Xr b (GN c q pos (F pos) lost b) c q pos (F pos) lost (pB c pos) (F<|pB c pos) near (F near:E) (F near:E) (cB c pos) a=_
   unfold Xr
   simp_all[eH,GN,cB,Iq]
  ·show∃N,eH n (GN c q pos (F pos) lost n) c q pos (F pos) lost (pB c pos) (F<|pB c pos) (F<|pB c pos:E) (i:E) o1 (cB c pos) a=_/\_
   unfold eH;simp only[u8,zCx];have P:AI<|(i:E)+1:=Ae.2 ⟨Z2,Z2⟩;rw[Iq,zAA Z2,zAI,zAB ⟨⟨Z2,Z2⟩,Z2⟩];have U3:M a i D=T↔M (pB c pos) i D=T/\¬Rc q.nb (pB c pos) r i:=by rw[p,Q]
   cases hf:M a i D
   ·rw[zAJ,zAB P];refine⟨o1,rfl,Y.id' λj s k _=>⟨λh=>⟨?_,h.2⟩,λh=>⟨Z2,h.2⟩⟩⟩;rcases zBy.1 h.1 with l|rfl
    ·exact l
    ·have f:=(zDA W.g (by rw[Iq];exact G.symm) o u).1 h.2
     grind
   ·obtain⟨l',e,f⟩:=Y.lose (c:=c) (q:=q) (D':=λj s=>j<i+1/\Fm c q pos j s) (cell:=(i:E)) (ss:=c.set) Z2 Z2 λj s k _=>by
     constructor
     ·grind[Fm]
     ·rintro(⟨l,f⟩|⟨l,f⟩)
      ·exact⟨Z2,f⟩
      ·obtain rfl:j=i:=Z2
       grind[Fm]
    grind
 ·obtain⟨hl,hf⟩:=Y;have hx:M near i 0∈near:=Z4
  have LF:=X _ hx
  show∃N,Xr n (GN c q pos (F pos) lost n) c q pos (F pos) lost (pB c pos) (F<|pB c pos) near (F near:E) (i:E) (cB c pos) a=_/\_
  unfold Xr;simp only[u8,zCx];rw[Iq,zAA Z2,zAI,zAB ⟨⟨Z2,Z2⟩,LF,Z2,Ae.2 ⟨Z2,Z2⟩⟩];refine⟨_,rfl,Z4,λj=>?_⟩
  have e3:near.take (i+1)=near.take i++[M near i 0]:=by
   simp_all
  grind[Vj,pB,cB]
theorem xh(W:FN c q pos)(J:Cp pos lost (λ_ _=>False) lost)(m:Er (cB c pos) r):
 ∃l,Ev (λn=>RQ n c q pos (F pos) lost) (pB c pos,cB c pos,H<|0<=r,l)/\Cp pos lost (Fm c q pos) l:=by
 have y:=W.l1;have I:=W.gl;have Aj:=W.len;have Ϝ:(1000000000000:U)=Av:=rfl
 suffices Ϙ:Aw (λn=>RQ n c q pos (F pos) lost) (TB c q pos lost r) by
  obtain⟨x,a,f⟩:=Ϙ.ev TB.uniq
  grind[TB]
 have first:∀n,GN c q pos (F pos) lost (n+F c.ce) (.l1 0 (d (F pos) D)<|d (F pos) D)=GN c q pos (F pos) lost n (.l1 (F c.ce:E) (pB c pos)<|cB c pos):=λn=>by
  have z:∀j:U,M (d (F pos) D) j D=D:=λj=>by
   grind
  obtain⟨Y,e,a,f,t,R⟩:=e9 (λn (s:Ω×Ω) i=>GN c q pos (F pos) lost n<|.l1 i s.1 s.2) (F c.ce) 0
   (λi s=>F s.1=F pos/\F s.2=F pos/\(∀j,M s.1 j D=C (j<i) (M (pB c pos) j D) D)/\(∀j,M s.2 j D=C (j<i) (M (cB c pos) j D) D))
   (λn i s _ hi K=>by
    obtain⟨Q,w⟩:=s;obtain⟨a,f,t,R⟩:=K;have a:F Q=F pos:=a;have f:F w=F pos:=f;have hid:=W.id i Z2
    show∃Y,eJ n (GN c q pos (F pos) lost n) c q pos (F pos) lost (i:E) Q w=_/\_
    unfold eJ;simp only[u8,zCx,hid];rw[zAA Z2,zAI,zAB ⟨⟨Z2,Z2⟩,⟨Z2,Z2⟩,Z2,Z2,Ae.2 ⟨Z2,Z2⟩⟩];refine⟨(_,_),rfl,Z4,Z4,λj=>?_,λj=>?_⟩
    ·show M (Q.set i _) j D=_
     rw[Vj Z2]
     grind[pB]
    grind[cB,Er])
   (F c.ce) 0 n (d (F pos) D,d (F pos) D) Z2 Z2 ⟨zKR,zKR,λj=>Z4,λj=>Z4⟩
  grind[zAz,Iq,Ll]
 have start:∀n,RQ n c q pos (F pos) lost=GN c q pos (F pos) lost n (.l1 0 (d (F pos) D)<|d (F pos) D):=λn=>by
  grind[RQ,xl]
 refine Aw.eq (Aw.step (F c.ce+1) (g:=λn=>(fm n (cB c pos) T).bind λu=>L (H<|u<0) (C (F pos=F (pB c pos)) (Z (pB c pos,cB c pos,D,lost)) V)<|C (F pos=F (pB c pos)) ((Sj n<|pB c pos).bind λG=>(Vb n q.nb (pB c pos) u).bind λy3=>GN c q pos (F pos) lost n<|.l2 (pB c pos) (F G) y3.1 (F y3.1:E) 0 (cB c pos) G) V) (λn=>?_) ?_) start
 ·rw[show n+(F c.ce+1)=n+1+F c.ce by omega,first]
  simp_all[eJ,GN,cB]
 ·obtain⟨N,a,f⟩:=YP (l:=cB c pos) (by rw[Ll];exact y);obtain rfl:=m.uniq f;refine Aw.bind a ?_
  by_cases o:0<=r
  ·have BI:∀n,Sj n (pB c pos)=Z (pB c pos):=λn=>by
    grind[Sj,qo,pB,Er,cB]
   obtain⟨SB,S⟩:r<(F pos:E)/\M (cB c pos) r.toNat D=T:=by
    grind[cB,Er]
   have k:=W.cp Z2 S;refine Aw.eq (Aw.bindU (zRb W.g (by rw[Iq];exact I.symm) o Z2 k) (b:=λn y3=>GN c q pos (F pos) lost n<|.l2 (pB c pos) (F<|pB c pos) y3.1 (F y3.1:E) 0 (cB c pos)<|pB c pos) ⟨600,λn P x v=>zJ4 W J o m v.2.1 v.2.2 P⟩) λn=>?_
   simp_all[zAF,pB]
  ·refine Ev.p (r:=(pB c pos,cB c pos,D,lost)) (Ev.now λn=>?_) ⟨rfl,rfl,(zAF o).symm,J.id' λj s _ _=>⟨λh=>?_,λh=>h.elim⟩⟩
   ·simp_all[pB]
   ·obtain⟨_,_,N,t,R,_⟩:=h
    grind[Er]
def HI(c:AE)(q:AA)(pos:Ξ)(a s:U):Prop:=Fm c q pos a s∨(M (pB c pos) a D=T/\M (cB c pos) a D=D/\Sp q.nb (pB c pos) (cB c pos) (a:E)/\tb c.set s=D)
theorem zRK(W:FN c q pos)(z:Cp pos lost (λ_ _=>False) lost):∃l,Ev (λn=>iw n c q pos (F pos) lost) (T,l)/\Cp pos lost (HI c q pos) l:=by
 have P:=W.l1;have G:=W.gl;obtain⟨r,_,Q⟩:=YP (l:=cB c pos) (by rw[Ll];exact P);obtain⟨l0,R,S⟩:=xh W z Q
 suffices Ϙ:Aw (λn=>QP c q pos (F pos) lost n<|.l1 (pB c pos) (cB c pos) (H<|0<=r) (F<|pB c pos:E) 0 l0) (λx=>x.1=T/\Cp pos lost (HI c q pos) x.2) by
  obtain⟨x,⟨m,X⟩,h5⟩:=(Aw.bind R (b:=λn f=>QP c q pos (F pos) lost n<|.l1 f.1 f.2.1 f.2.2.1 (F f.1:E) 0 f.2.2.2) Ϙ).ev λx y k hy=>by
   obtain⟨I,o⟩:=x;obtain⟨f,y2⟩:=y;have u:I=T:=k.1;have K:f=T:=hy.1;have e3:o=y2:=k.2.unique hy.2;rw[u,K,e3]
  obtain⟨I,o⟩:=x;subst m;exact⟨o,h5,X⟩
 obtain⟨N,hN⟩:=Aw.range (ϖ:=λ(i:U) n=>C (M (pB c pos) i D=T) (Th n q.nb (pB c pos) (cB c pos) i)<|Z (D,0)) (ϕ:=λi x=>M (pB c pos) i D=T->x.2=0/\(x.1=T↔Sp q.nb (pB c pos) (cB c pos) i)) (F pos) λi hi=>by
  by_cases h:M (pB c pos) i D=T
  ·refine((zEO W.g (by rw[Iq];exact G.symm) (by rw[Ll];exact G.symm) (a:=i) Z2 h).mono λx k _=>k).eq λn=>?_
   rw[zAB h]
  simp_all[Aw]
 refine⟨N+F pos+1,λn hn=>?_⟩
 have ϒ:=Jb (λn (o1:Ξ) i=>QP c q pos (F pos) lost n<|.l1 (pB c pos) (cB c pos) (H<|0<=r) (F<|pB c pos:E) i o1) (F pos) (N+1)
  (λi o1=>Cp pos lost (λa s=>Fm c q pos a s∨(a<i/\HI c q pos a s)) o1) (λn i o1 G9 hi Y=>?_) (n:=n) (s:=l0) Z2 (S.id' λj s _ _=>⟨λh=>h.elim id λh=>τ h.1<|zAR j,.inl⟩)
 ·obtain⟨J,o1,LN,_,K,OD⟩:=ϒ;obtain⟨w,rfl⟩:∃w,J=w+1:=⟨J-1,Z2⟩;refine⟨(T,o1),Eq.trans K ?_,rfl,OD.id' λj s t _=>⟨λh=>.inr ⟨t,h⟩,λh=>h.elim .inl λh=>h.2⟩⟩
  grind[iu,QP,Iq]
 ·show∃s',iu n (QP c q pos (F pos) lost n) c q pos (F pos) lost (pB c pos) (cB c pos) (H<|0<=r) (F<|pB c pos:E) (i:E) o1=_/\_
  unfold iu;simp only[u8];have r1:AI<|(i:E)+1:=Ae.2 ⟨Z2,Z2⟩;have lp:F (pB c pos)=F pos:=Iq;have lc:F (cB c pos)=F pos:=Ll;rw[lp,lc,zAA (p:=(i:E)<((F pos:U):E)) Z2,zAI]
  have skip:(∀s,¬(M (pB c pos) i D=T/\M (cB c pos) i D=D/\Sp q.nb (pB c pos) (cB c pos) (i:E)/\tb c.set s=D))->Cp pos lost (λa s=>Fm c q pos a s∨(a<i+1/\HI c q pos a s)) o1:=λSG=>Y.id' λj s t _=>by
   grind[HI]
  by_cases v:0<=r
  ·rw[zAA v,zMv,zAJ,zAB ⟨Z2,Z2⟩];cases hp:M (pB c pos) i D
   ·grind
   ·cases hc:M (cB c pos) i D
    ·obtain⟨x,u,k⟩:=hN n Z2 i hi;obtain⟨_,k⟩:=k hp;cases hb:x.1
     ·grind
     ·obtain⟨l',e,m⟩:=Y.only (c:=c) (q:=q) (D':=λa s=>Fm c q pos a s∨(a<i+1/\HI c q pos a s)) (cell:=(i:E)) Z2 Z2 λj s t _=>by
       constructor
       ·grind[HI]
       ·rintro((h|⟨h,m⟩)|⟨h,m⟩)
        ·exact .inl h
        ·exact .inr ⟨Z2,m⟩
        ·obtain rfl:j=i:=Z2
         grind[HI]
      grind
    grind
  ·rw[zAF v,zMd,zAI,zAB r1];refine⟨o1,rfl,skip λs h=>?_⟩
   grind[Er,Sp]
def Cj(g:O Ξ)(S:Ω)(v:E):U:=(nb g v).countP λx=>M S x.toNat D
def Pd(c:AE)(q:AA)(pos:Ξ):Prop:=∀v,v<F pos->M (cB c pos) v D=T->2<=Cj q.nb (pB c pos) v/\Cj q.nb (cB c pos) v<=2
def eO(c:AE)(q:AA)(pos:Ξ)(v a s:U):Prop:=M (cB c pos) v D=T/\(a:E)∈nb q.nb v/\M (pB c pos) a D=T/\((Cj q.nb (pB c pos) v=2/\tb c.set s=D)∨(Cj q.nb (cB c pos) v=2/\M (cB c pos) a D=D/\tb c.set s=T))
def No(c:AE)(q:AA)(pos:Ξ)(a s:U):Prop:=Fm c q pos a s∨∃v,v<F pos/\eO c q pos v a s
section
variable{P ϛ:Ω}{o1:Ξ}{row:Ξ}{x20 x21:E}
def PY(P:Ω)(Q:Ξ)(v:E):Ξ:=L (M P v.toNat D) (Q++[v]) Q
def Nk(ϛ:Ω)(x:E)(v:E):E:=L (M ϛ v.toNat D) (x+1) x
theorem xe:∀(l Q:Ξ),l.foldl (PY P) Q=Q++l.filter λx=>M P x.toNat D
 |[],Q=>Z3
 |v::l,Q=>by
  rw[zOB,xe l];unfold PY
  grind
theorem yA:∀(l:Ξ) (x:E),l.foldl (Nk ϛ) x=x+(l.countP λx=>M ϛ x.toNat D:U)
 |[],x=>Z3
 |v::l,x=>by
  rw[zOB,yA l];unfold Nk
  grind
def Ko(P ϛ:Ω)(x20 x21:E)(row o1 Q:Ξ)(x8 j:E):Pc:=match Q with
 |[]=>.l2 P ϛ x8 x20 x21 row (F row:E) j o1
 |a::l=>.l3 P ϛ (F<|a::l) x8 x20 x21 row (F row:E) j o1<|a::l
variable{x8:E}{Q:Ξ}
theorem uM{j:E}(h:Q≠[]):Ko P ϛ x20 x21 row o1 Q x8 j=.l3 P ϛ (F Q) x8 x20 x21 row (F row:E) j o1 Q:=by
 cases Q with
 |nil=>exact τ rfl h
 |cons a l=>rfl
variable{n:U}
theorem zKK{j:U}(hP:F P=F pos)(hC:F ϛ=F pos)(i:∀u∈row,0<=u/\u<(F pos:E))(hl:F row<=256)(hj:j<F row)(ho:F Q<=256)(h8:0<=x8/\x8<=256):
 De c q pos (F pos) lost (n+1) (Ko P ϛ x20 x21 row o1 Q x8 j)=De c q pos (F pos) lost n (Ko P ϛ x20 x21 row o1 (PY P Q<|M row j 0) (Nk ϛ x8<|M row j 0)<|(j:E)+1):=by
 have Ϝ:(1000000000000:U)=Av:=rfl;have e:M row j 0∈row:=Z4
 have LF:=i _ e;have r1:AI<|(j:E)+1:=Ae.2 ⟨Z2,Z2⟩;have r8:AI<|x8+1:=Ae.2 ⟨Z2,Z2⟩;cases Q with
 |nil=>
  show eY n (De c q pos (F pos) lost n) c q pos (F pos) lost P ϛ x8 x20 x21 row (F row:E) (j:E) o1=_
  unfold eY PY Nk
  grind[Ko]
 |cons a l=>
  grind[PY,uM,eX,De,Nk]
theorem xw(a:F P=F pos)(g:F ϛ=F pos)(i:∀u∈row,0<=u/\u<(F pos:E))(m:F row<=256):∀(k j n:U) (Q:Ξ) (x8:E),j+k=F row->F Q<=j->0<=x8/\x8<=(j:E)->
 De c q pos (F pos) lost (n+k) (Ko P ϛ x20 x21 row o1 Q x8 j)=De c q pos (F pos) lost n (Ko P ϛ x20 x21 row o1 ((row.drop j).foldl (PY P) Q) ((row.drop j).foldl (Nk ϛ) x8) (F row:E))
 |0,j,n,Q,x8,e,_,_=>by
  grind
 |k+1,j,n,Q,x8,e,h2,h8=>by
  have b:j<F row:=Z2
  have K:row.drop j=M row j 0::row.drop (j+1):=by
   simp_all
  rw[←zTh,zKK a g i m b Z2 Z2,K,zOB,zOB]
  have f:F (PY P Q<|M row j 0)<=j+1:=by
   unfold PY
   grind
  have R:0<=Nk ϛ x8 (M row j 0)/\Nk ϛ x8 (M row j 0)<=((j+1:U):E):=by
   unfold Nk
   grind
  exact xw a g i m k (j+1) n _ _ Z2 f R
theorem zCO{ϑ:U->Ψ}{near:Ξ}{v:U}(W:FN c q pos)(G:Cp pos lost ϑ o1)(P:∀u∈near,0<=u/\u<(F pos:E))(P4:F near<=256)(hv:v<F pos):
 ∃l',De c q pos (F pos) lost (n+1+F near) (.l4 (pB c pos) (cB c pos) (F near) x8 x20 (v:E) (F near) (F near:E) 0 o1 near)=De c q pos (F pos) lost n (.l1 (pB c pos) (cB c pos) x20 ((v:E)+1) l')/\
  Cp pos lost (λa s=>ϑ a s∨((a:E)∈near/\((F near=2/\tb c.set s=D)∨(x8=2/\M (cB c pos) a D=D/\tb c.set s=T)))) l':=by
 have Hi:=W.l1;have lc:F (cB c pos)=F pos:=Ll
 obtain⟨l',e,h⟩:=e9 (λn (s:Ξ) i=>De c q pos (F pos) lost n<|.l4 (pB c pos) (cB c pos) (F near) x8 x20 (v:E) (F near) (F near:E) i s near) (F near) 0
  (λi s=>Cp pos lost (λa t=>ϑ a t∨((a:E)∈near.take i/\((F near=2/\tb c.set t=D)∨(x8=2/\M (cB c pos) a D=D/\tb c.set t=T)))) s)
  (λn i s _ hi Y=>by
   have l:M near i 0∈near:=Z4
   have b:=P _ l
   have e3:near.take (i+1)=near.take i++[M near i 0]:=by
    simp_all
   have f:AI<|(i:E)+1:=Ae.2 ⟨Z2,Z2⟩;have mem:∀a:U,(a:E)∈near.take (i+1)↔(a:E)∈near.take i∨(a:E)=M near i 0:=λa=>Z4
   obtain⟨l2,N,m⟩:=Y.only (c:=c) (q:=q) (cell:=M near i 0) b.1 b.2 (D':=λa t=>(ϑ a t∨((a:E)∈near.take i/\((F near=2/\tb c.set t=D)∨(x8=2/\M (cB c pos) a D=D/\tb c.set t=T))))∨((a:E)=M near i 0/\tb c.set t=D)) λj s _ _=>Iff.rfl
   obtain⟨l3,R,hL3⟩:=m.lose (c:=c) (q:=q) (cell:=M near i 0) (ss:=c.set) b.1 b.2 (D':=λa t=>((ϑ a t∨((a:E)∈near.take i/\((F near=2/\tb c.set t=D)∨(x8=2/\M (cB c pos) a D=D/\tb c.set t=T))))∨((a:E)=M near i 0/\tb c.set t=D))∨((a:E)=M near i 0/\tb c.set t=T)) λj s _ _=>Iff.rfl
   obtain⟨l4,o,pn⟩:=Y.lose (c:=c) (q:=q) (cell:=M near i 0) (ss:=c.set) b.1 b.2 (D':=λa t=>(ϑ a t∨((a:E)∈near.take i/\((F near=2/\tb c.set t=D)∨(x8=2/\M (cB c pos) a D=D/\tb c.set t=T))))∨((a:E)=M near i 0/\tb c.set t=T)) λj s _ _=>Iff.rfl
   show∃s',YE n (De c q pos (F pos) lost n) c q pos (F pos) lost (pB c pos) (cB c pos) (F near) x8 x20 (v:E) (F near) (F near:E) (i:E) s near=_/\_
   unfold YE;simp only[u8,zCx];rw[zAA Z2,zAI,zAB ⟨⟨Z2,Z2⟩,hi⟩];have EH:∀a:U,(a:E)=M near i 0->(M near i 0).toNat=a:=λa h=>Z2
   by_cases p:F near=2
   ·have k:(((F near:U):E)==2)=T:=by rw[p];rfl
    rw[k,zAI,N,zAD]
    by_cases g:x8=2
    ·have y:(x8==2)=T:=by rw[g];rfl
     rw[y,zAI,zAB ⟨Z2,Z2⟩];cases hc:M (cB c pos) (M near i 0).toNat D
     ·rw[zMd,zAI,R,zAD,zAB f]
      grind[Cp]
     ·rw[zMv,zAJ,zAB f]
      grind[Cp]
    ·have y:(x8==2)=D:=zMS.2 g;rw[y,zAJ,zAB f]
     grind[Cp]
   ·have k:(((F near:U):E)==2)=D:=zMS.2 Z2;rw[k,zAJ]
    by_cases g:x8=2
    ·have y:(x8==2)=T:=by rw[g];rfl
     rw[y,zAI,zAB ⟨Z2,Z2⟩];cases hc:M (cB c pos) (M near i 0).toNat D
     ·rw[zMd,zAI,o,zAD,zAB f]
      grind[Cp]
     ·rw[zMv,zAJ,zAB f]
      grind[Cp]
    ·have y:(x8==2)=D:=zMS.2 g;rw[y,zAJ,zAB f]
     grind[Cp])
  (F near) 0 (n+1) o1 Z2 Z2 (G.id' λa t _ _=>Z3)
 refine⟨l',Eq.trans e ?_,h.id' λa t _ _=>by rw[zTZ]⟩
 show YE n (De c q pos (F pos) lost n) c q pos (F pos) lost (pB c pos) (cB c pos) (F near) x8 x20 (v:E) (F near) (F near:E) (F near:E) l' near=_
 unfold YE;rw[zAF Z2,zAJ,zAB<|Ae.2 ⟨Z2,Z2⟩]
end
def rj(c:AE)(q:AA)(pos lost:Ξ)(x:ζ×Ξ):Prop:=(x.1=T↔Pd c q pos)/\(x.1=T->Cp pos lost (No c q pos) x.2)
theorem zKp(W:FN c q pos):∀(k v:U) (o1:Ξ),v+k=F pos->(∀u,u<v->M (cB c pos) u D=T->2<=Cj q.nb (pB c pos) u/\Cj q.nb (cB c pos) u<=2)->Cp pos lost (λa s=>Fm c q pos a s∨∃u,u<v/\eO c q pos u a s) o1->
 Aw (λn=>De c q pos (F pos) lost n<|.l1 (pB c pos) (cB c pos) (F pos:E) (v:E) o1) (rj c q pos lost):=by
 have Hi:=W.l1;have Gi:=W.gl;have I:F (pB c pos)=F pos:=Iq;have N:F (cB c pos)=F pos:=Ll;intro k
 induction k with
 |zero=>
  intro v o1 e j J;subst e;refine Ev.p (r:=(T,o1)) ⟨1,λn Q=>?_⟩ ⟨⟨λ_ v o hc=>j v o hc,λ_=>rfl⟩,λ_=>J⟩;obtain⟨n,rfl⟩:∃k,n=k+1:=⟨n-1,Z2⟩
  simp_all[eZ,De]
 |succ k m=>
  intro v o1 e j J;have o:v<F pos:=Z2
  have r1:AI<|(v:E)+1:=Ae.2 ⟨Z2,Z2⟩
  have ι:∀n,De c q pos (F pos) lost (n+1) (.l1 (pB c pos) (cB c pos) (F pos:E) (v:E) o1)=L (M (cB c pos) v D) (De c q pos (F pos) lost n<|Ko (pB c pos) (cB c pos) (F pos:E) (v:E) (nb q.nb v) o1 [] 0 0) (De c q pos (F pos) lost n<|.l1 (pB c pos) (cB c pos) (F pos:E) ((v:E)+1) o1):=λn=>by
   show eZ n (De c q pos (F pos) lost n) c q pos (F pos) lost (pB c pos) (cB c pos) (F pos:E) (v:E) o1=_
   unfold eZ
   simp_all[Ko,nb]
  cases hc:M (cB c pos) v D
  ·refine Aw.step 1 (λn=>?_)<|m (v+1) o1 Z2 (λu t b=>?_)<|J.id' λa s _ _=>?_
   ·rw[ι,hc,zAJ];rfl
   ·grind
   ·constructor
    ·rintro(h|⟨u,t,h⟩)
     ·exact .inl h
     grind[eO]
    ·rintro(h|⟨u,t,h⟩)
     ·exact .inl h
     grind
  ·have S:=W.g.gr.row (v:E) Z2 Z2
   have X:∀u∈nb q.nb (v:E),0<=u/\u<(F pos:E):=λu t=>by
    have:=W.g.gr.rng (v:E) Z2 Z2 u t;omega
   have ϕ:=λn=>xw (c:=c) (q:=q) (lost:=lost) (o1:=o1) (x20:=(F pos:E)) (x21:=(v:E)) I N X S (F<|nb q.nb v) 0 n [] 0 Z2 Z3 ⟨zCs _,Z2⟩
   rw[zMy,xe,yA,zMX,Int.zero_add]at ϕ;have Y:Cj q.nb (pB c pos) v=F ((nb q.nb v).filter λx=>M (pB c pos) x.toNat D):=zMP;have dC:Cj q.nb (cB c pos) v=(nb q.nb v).countP λx=>M (cB c pos) x.toNat D:=rfl
   rw[←dC]at ϕ
   generalize om:((nb q.nb v).filter λx=>M (pB c pos) x.toNat D)=near at ϕ Y
   have f:∀u,u∈near↔u∈nb q.nb v/\M (pB c pos) u.toNat D=T:=λu=>Z4
   have K:F near<=256:=by
    grind
   have P:∀u∈near,0<=u/\u<(F pos:E):=λu t=>X u ((f u).1 t).1
   have U2:∀n,De c q pos (F pos) lost (n+(F (nb q.nb v)+1)) (.l1 (pB c pos) (cB c pos) (F pos:E) (v:E) o1)=De c q pos (F pos) lost n (Ko (pB c pos) (cB c pos) (F pos:E) (v:E) (nb q.nb v) o1 near (Cj q.nb (cB c pos) v:E) (F<|nb q.nb v:E)):=λn=>by
    grind
   refine Aw.step _ U2 ?_
   by_cases hbad:Cj q.nb (pB c pos) v<2∨2<Cj q.nb (cB c pos) v
   ·have SG:¬Pd c q pos:=λh=>by have:=h v o hc;omega
    refine Ev.p (r:=(D,o1)) ⟨1,λn Q=>?_⟩ ⟨⟨λh=>(by cases h),λh=>τ h SG⟩,λh=>by cases h⟩;obtain⟨n,rfl⟩:∃k,n=k+1:=⟨n-1,Z2⟩;cases near with
    |nil=>
     grind[eY,De,Ko]
    |cons a l=>
     grind[eX,De,Cj,nb,Ko]
   ·have Af:near≠[]:=by
     grind
    obtain⟨l',e4,w⟩:=zCO (c:=c) (q:=q) (lost:=lost) (o1:=o1) (near:=near) (x20:=(F pos:E)) (x8:=(Cj q.nb (cB c pos) v:E)) (n:=0) W J P K o;have e5:∀n,∃l',De c q pos (F pos) lost (n+1+F near) (.l4 (pB c pos) (cB c pos) (F near) (Cj q.nb (cB c pos) v:E) (F pos:E) (v:E) (F near) (F near:E) 0 o1 near)=De c q pos (F pos) lost n (.l1 (pB c pos) (cB c pos) (F pos:E) ((v:E)+1) l')/\_:=λn=>zCO (c:=c) (q:=q) (lost:=lost) (o1:=o1) (near:=near) (x20:=(F pos:E)) (x8:=(Cj q.nb (cB c pos) v:E)) (n:=n) W J P K o
    have IH:=m (v+1) l' Z2 (λu t b=>by
     grind) (w.id' λa s _ _=>by
     constructor
     ·rintro(h|⟨u,t,h⟩)
      ·exact .inl<|.inl h
      ·rcases zBy.1 t with t|rfl
       ·grind
       ·obtain⟨y,z,G,R⟩:=h;refine .inr ⟨(f _).2 ⟨z,by simp_all⟩,?_⟩
        grind
     ·rintro((h|⟨u,t,h⟩)|⟨y,z⟩)
      ·exact .inl h
      ·grind
      ·obtain⟨G,R⟩:=(f _).1 y;refine .inr ⟨v,Z2,hc,G,R,?_⟩
       grind)
    refine Aw.step (1+F near+1) (g:=λn=>De c q pos (F pos) lost n<|.l1 (pB c pos) (cB c pos) (F pos:E) ((v:E)+1) l') (λn=>?_) IH;obtain⟨l2,e6,i⟩:=e5 n;have:l2=l':=i.unique w
    grind[uM,eX,De]
theorem zKq(W:FN c q pos)(J:Cp pos lost (λ_ _=>False) lost):Aw (λn=>eo n c q pos (F pos) lost)<|rj c q pos lost:=by
 have m:=W.l1;obtain⟨r,_,k⟩:=YP (l:=cB c pos) (by rw[Ll];exact m);obtain⟨l0,e,g⟩:=xh W J k;refine Aw.bind e (b:=λn f=>De c q pos (F pos) lost n<|.l1 f.1 f.2.1 (F f.2.1:E) 0 f.2.2.2) ?_;have:=zKp (q:=q) W (F pos) 0 l0 Z2 (λu t=>τ t<|zAR u)<|g.id' λa s _ _=>⟨λh=>h.elim id λ⟨u,t,_⟩=>τ t<|zAR u,.inl⟩
 grind[Ll]
end
section
set_option maxRecDepth 100000
set_option maxHeartbeats 40000000
def zF3:Ar (Am Tryz.f117 6) [([0,1,2,3,4,5,6,7,8],9),([10],11)] [12] []:=Z0
def zF4:Ar (Am Tryz.f117 13) [] (θ 13) [13]:=Z0
def FS:BZ:=λi=>match i with
 |6=>.ord [([0,1,2,3,4,5,6,7,8],9),([10],11)] [12] []
 |13=>.ord [] (θ 13) [13]
 |_=>.no
def zNn(q:AA)(pos:Ξ):DH:=[oC<|AG q,oC [.cst .nilFunc,.fn 136 0<|L1 [],.fn 137 0<|L1 [],.fn 138 0<|L1 [],.fn 139 0<|L1 [],.fn 140 0<|L1 [],.fn 141 0<|L1 [],.fn 142 0<|L1 [],.fn 143 0<|L1 [],.fn 144 0<|L1 []],oI<|d (F pos) (0:E)]
def Nx(q:AA)(pos:Ξ)(i:E):DH:=[oC<|AG q,oC [.cst .nilFunc,.fn 136 0<|L1 [],.fn 137 0<|L1 [],.fn 138 0<|L1 [],.fn 139 0<|L1 [],.fn 140 0<|L1 [],.fn 141 0<|L1 [],.fn 142 0<|L1 [],.fn 143 0<|L1 [],.fn 144 0<|L1 []],oI<|d (F pos) (0:E),oI<|d (F pos) (0:E),oC<|BD (M q.cons i.toNat ξ)++AG q++[.ints pos,.msl 3 1 0<|F pos]]
def zNm(pos:Ξ)(q:AA)(i:E)(Q:Ξ):DH:=[oI<|d (F pos) (0:E),oC<|BD (M q.cons i.toNat ξ)++AG q++[.ints pos,.msl 2 1 0<|F pos],oI Q]
def zNl(pos:Ξ)(q:AA)(i:E)(Q w:Ξ):DH:=[oI<|d (F pos) (0:E),oC<|BD (M q.cons i.toNat ξ)++AG q++[.ints pos,.msl 2 1 0<|F pos],oI Q,oI w]
inductive Xf where
 |l1 (o2:Ξ)
 |l2 (x10:U) (Oe Cv:E) (o2 o3:Ξ)
def wd(n:U)(self:Xf->A Ξ)(q:AA)(i:E)(pos:Ξ)(Q:Ξ):A Ξ:=(i7 n pos).bind λf=>self<|.l2 (F f) (F f:E) 0 Q f
def Xe(n:U)(self:Xf->A Ξ)(q:AA)(i:E)(pos:Ξ)(x10:U)(z a:E)(Q w:Ξ):A Ξ:=L (H<|a<z) (C ((0<=a/\a<(x10:E))/\0+a.toNat<F w/\(0<=a/\a<(F pos:E))/\0+a.toNat<F Q/\AI (a+1)) (self<|.l2 x10 z (a+1) Q<|w.set (0+a.toNat)<|bits .andNot .i64 (M w (0+a.toNat) 0)<|M Q (0+a.toNat) 0) V)<|C (x10=F w) ((GO n w).bind λf=>L f (C (F pos=F (d (F pos) (0:E))) (Z<|d (F pos) (0:E)) V)<|Z w) V
def mN(n:U)(self:Xf->A Ξ)(q:AA)(i:E)(pos:Ξ):A Ξ:=C (((F pos:E):E)=(F pos:E)/\0<=(F pos:E)/\((F pos:E):E)<=1000000000000) ((GO n pos).bind λf=>L f (C (F pos=F (d (F pos) (0:E))) (Z<|d (F pos) (0:E)) V)<|C (0<=i/\i<(F q.cons:E)) (L ((M q.cons i.toNat ξ).kind==0) V<|L ((M q.cons i.toNat ξ).kind==1) ((VV n (M q.cons i.toNat ξ) q pos (F pos)<|d (F pos) (0:E)).bind λG=>L (!G.1) (C (F pos=F (d (F pos) (0:E))) (Z<|d (F pos) (0:E)) V)<|self<|.l1 G.2)<|L ((M q.cons i.toNat ξ).kind==2) ((VX n (M q.cons i.toNat ξ) q pos (F pos)<|d (F pos) (0:E)).bind λG=>L (!G.1) (C (F pos=F (d (F pos) (0:E))) (Z<|d (F pos) (0:E)) V)<|self<|.l1 G.2)<|L ((M q.cons i.toNat ξ).kind==3) ((Tc n (M q.cons i.toNat ξ) q pos (F pos)<|d (F pos) (0:E)).bind λG=>L (!G.1) (C (F pos=F (d (F pos) (0:E))) (Z<|d (F pos) (0:E)) V)<|self<|.l1 G.2)<|L ((M q.cons i.toNat ξ).kind==4) ((O9 n (M q.cons i.toNat ξ) q pos (F pos)<|d (F pos) (0:E)).bind λG=>L (!G.1) (C (F pos=F (d (F pos) (0:E))) (Z<|d (F pos) (0:E)) V)<|self<|.l1 G.2)<|L ((M q.cons i.toNat ξ).kind==5) ((T5 n (M q.cons i.toNat ξ) q pos (F pos)<|d (F pos) (0:E)).bind λG=>L (!G.1) (C (F pos=F (d (F pos) (0:E))) (Z<|d (F pos) (0:E)) V)<|self<|.l1 G.2)<|L ((M q.cons i.toNat ξ).kind==6) ((Sy n (M q.cons i.toNat ξ) q pos (F pos)<|d (F pos) (0:E)).bind λG=>L (!G.1) (C (F pos=F (d (F pos) (0:E))) (Z<|d (F pos) (0:E)) V)<|self<|.l1 G.2)<|L ((M q.cons i.toNat ξ).kind==7) ((RO n (M q.cons i.toNat ξ) q pos (F pos)<|d (F pos) (0:E)).bind λG=>L (!G.1) (C (F pos=F (d (F pos) (0:E))) (Z<|d (F pos) (0:E)) V)<|self<|.l1 G.2)<|L ((M q.cons i.toNat ξ).kind==8) ((iw n (M q.cons i.toNat ξ) q pos (F pos)<|d (F pos) (0:E)).bind λG=>L (!G.1) (C (F pos=F (d (F pos) (0:E))) (Z<|d (F pos) (0:E)) V)<|self<|.l1 G.2)<|L ((M q.cons i.toNat ξ).kind==9) ((eo n (M q.cons i.toNat ξ) q pos (F pos)<|d (F pos) (0:E)).bind λG=>L (!G.1) (C (F pos=F (d (F pos) (0:E))) (Z<|d (F pos) (0:E)) V)<|self<|.l1 G.2) V) V) V
def K3(q:AA)(i:E)(pos:Ξ):U->Xf->A Ξ
 |0,_=>V
 |n+1,.l1 Q=>wd n (K3 q i pos n) q i pos Q
 |n+1,.l2 x10 z a Q w=>Xe n (K3 q i pos n) q i pos x10 z a Q w
def MJ(n:U)(q:AA)(i:E)(pos:Ξ):A Ξ:=mN n (K3 q i pos n) q i pos
def zI5(n ϙ:U)(N:Yd 0)(q:AA)(i:E)(pos:Ξ)(r:Ξ):Xf->Prop:=px n ϙ η N (FQ Tryz.f117 0 (.ints r) []) (AZ Tryz.f117) λ
 | .l1 Q=>(3,9,AF 69 [(2,.ints pos),(8,.msl 0 1 0<|F pos),(9,.ref 1 0)],[oI<|d (F pos) (0:E),oC<|BD (M q.cons i.toNat ξ)++AG q++[.ints pos,.msl 2 1 0<|F pos],oI Q])
 | .l2 x10 z a Q w=>(0,0,AF 69 [(8,.msl 0 1 0<|F pos),(9,.ref 1 0),(10,.msl 3 1 0 x10),(47,.i z),(48,.i a)],[oI<|d (F pos) (0:E),oC<|BD (M q.cons i.toNat ξ)++AG q++[.ints pos,.msl 2 1 0<|F pos],oI Q,oI w])
def zI6(ϙ:U)(N:Yd 0)(q:AA)(i:E)(pos:Ξ):Al (K3 q i pos) (zI5 · ϙ N q i pos):=ia (λ_=>rfl) λn I G r h=>by
 cases G
 case l1 o2=>
  revert r;apply gO;exact cn λf P=>jc (ES.snapNew (ds:=[.ints pos]) (zRf P) (zNm pos q i o2) (rV Z5) rfl) (lN FS [0,1,2,3] (I _ _ · n χ))
 case l2 x10 Oe Cv o2 o3=>
  intro c b;refine rd b λc b=>?_
  revert r;apply gO;exact bi 49 (jg zF4 (gc (gn λx=>jg x (gc (gn λa=>jg a (gc (gi (gc (gi (jg x (jg a (gw 64 (lG (AQ 9 FS) [0,1,2,3] (I _ _ · c b))))))))))))))<|gn λx=>cn λf P=>jc (sb [.msl 3 1 0 x10] (KG P) (zNl pos q i o2 o3) ⟨Ad.ints rfl x,trivial⟩)<|bi 66 (gn λa=>lF λp=>ez (AQ 9 FS) [6] [0] p [0]<|H0.g a)<|lF λp=>ez (AQ 9 FS) [6] [3] p [0]<|H0.g x
variable{pos:Ξ}{i:E}{q:AA}{n:U}
def zI4{r:Ξ}(h:MJ n q i pos=Z r):EQ 117 [.agg 5<|L1<|AG q,.i i,.ints pos] [] (.ints r) [] T:=by
 have I:=λϙ N=>zI6 ϙ N q i pos n
 refine ot Tryz.func117 λϙ N=>?_
 revert r;apply gO;exact jt (gn λx=>jg x (cf KG (zNn q pos) λ_=>bi 18 (gn λf=>lF λp=>ez (AQ 9 FS) [6] [2] p [0]<|H0.g f) (jg zF3 (gi (jg x (bn (λj=>nO) (λj=>bn (λK=>jo 36 (AO.int (k:=.i64)<|zMw K) (jg (by decide:(0:E)<=1/\1<((10:U):E)) (ce zQe [4,3] (Nx q pos i) λ_=>bi 42 (gn λu=>lF λp=>ez (AQ 9 FS) [6] [2] p [0]<|H0.g u) (lG (AQ 9 FS) [2,4,3] ((I ϙ N) _ _ ·))))) (λK=>bn (λa=>jo 36 (AO.int (k:=.i64)<|zMw a) (jg (by decide:(0:E)<=2/\2<((10:U):E)) (ce zQy [4,3] (Nx q pos i) λ_=>bi 42 (gn λu=>lF λp=>ez (AQ 9 FS) [6] [2] p [0]<|H0.g u) (lG (AQ 9 FS) [2,4,3] ((I ϙ N) _ _ ·))))) (λa=>bn (λt=>jo 36 (AO.int (k:=.i64)<|zMw t) (jg (by decide:(0:E)<=3/\3<((10:U):E)) (ce zD4 [4,3] (Nx q pos i) λ_=>bi 42 (gn λu=>lF λp=>ez (AQ 9 FS) [6] [2] p [0]<|H0.g u) (lG (AQ 9 FS) [2,4,3] ((I ϙ N) _ _ ·))))) (λt=>bn (λb=>jo 36 (AO.int (k:=.i64)<|zMw b) (jg (by decide:(0:E)<=4/\4<((10:U):E)) (ce zHq [4,3] (Nx q pos i) λ_=>bi 42 (gn λu=>lF λp=>ez (AQ 9 FS) [6] [2] p [0]<|H0.g u) (lG (AQ 9 FS) [2,4,3] ((I ϙ N) _ _ ·))))) (λb=>bn (λy=>jo 36 (AO.int (k:=.i64)<|zMw y) (jg (by decide:(0:E)<=5/\5<((10:U):E)) (ce zG1 [4,3] (Nx q pos i) λ_=>bi 42 (gn λu=>lF λp=>ez (AQ 9 FS) [6] [2] p [0]<|H0.g u) (lG (AQ 9 FS) [2,4,3] ((I ϙ N) _ _ ·))))) (λy=>bn (λz=>jo 36 (AO.int (k:=.i64)<|zMw z) (jg (by decide:(0:E)<=6/\6<((10:U):E)) (ce zSj [4,3] (Nx q pos i) λ_=>bi 42 (gn λu=>lF λp=>ez (AQ 9 FS) [6] [2] p [0]<|H0.g u) (lG (AQ 9 FS) [2,4,3] ((I ϙ N) _ _ ·))))) (λz=>bn (λG=>jo 36 (AO.int (k:=.i64)<|zMw G) (jg (by decide:(0:E)<=7/\7<((10:U):E)) (ce zJ1 [4,3] (Nx q pos i) λ_=>bi 42 (gn λu=>lF λp=>ez (AQ 9 FS) [6] [2] p [0]<|H0.g u) (lG (AQ 9 FS) [2,4,3] ((I ϙ N) _ _ ·))))) (λG=>bn (λc=>jo 36 (AO.int (k:=.i64)<|zMw c) (jg (by decide:(0:E)<=8/\8<((10:U):E)) (ce zRL [4,3] (Nx q pos i) λ_=>bi 42 (gn λu=>lF λp=>ez (AQ 9 FS) [6] [2] p [0]<|H0.g u) (lG (AQ 9 FS) [2,4,3] ((I ϙ N) _ _ ·))))) (λc=>bn (λe=>jo 36 (AO.int (k:=.i64)<|zMw e) (jg (by decide:(0:E)<=9/\9<((10:U):E)) (ce zKr [4,3] (Nx q pos i) λ_=>bi 42 (gn λu=>lF λp=>ez (AQ 9 FS) [6] [2] p [0]<|H0.g u) (lG (AQ 9 FS) [2,4,3] ((I ϙ N) _ _ ·))))) λe=>nO)))))))))))))))
def wg(n:U)(q:AA)(i:E)(pos:Ξ):W7:=(Vd n q i pos).bind λf=>L (f != 0) (Z (([]:Ξ),f))<|(MJ n q i pos).bind λG=>Z (G,0)
def PL(n:U)(q:AA)(i:E)(pos:Ξ):W7:=wg n q i pos
def mR{r:Ξ×E}(h:PL n q i pos=Z r):EQ 92 [.agg 5<|L1<|AG q,.i i,.ints pos] [] (.tup 2<|L1 [.ints r.1,.i r.2]) [] T:=by
 unfold PL wg at h;refine ot Tryz.func92 λϙ N=>?_
 revert r;apply gO;exact cf zRp [oC<|AG q] λf=>bi 14 (lF λp=>el AC [6,7] [] p [] H0 [.nils,.i f]<|AO.tupL (l:=[.nils,.i f]) (l':=[.ints ([]:Ξ),.i f]) rfl ⟨AO.ints_nil,At,trivial⟩)<|cf zI4 [oC<|AG q] λ_=>lE AC [6,7] []
end
section
def BM(pos:Ξ):ζ:=pos.any (· ==0)
variable{pos:Ξ}
theorem Fb :BM pos=D↔∀j,j<F pos->M pos j 0≠0:=by
 unfold BM;rw[List.any_eq_false];constructor
 ·simp_all
 ·intro h x e;obtain⟨j,hj,rfl⟩:=zJw e
  grind
variable{n:U}
theorem zBU(hl:F pos<=LB)(s:F pos<n):Zv n pos=Z (BM pos):=by
 have hb:LB<=9223372036854775806:=Z6
 have key:∀(k i n:U),i+k=F pos->k+1<=n->VW pos n (.l1 (i:E))=Z ((pos.drop i).any (· ==0)):=by
  intro k
  induction k with
  |zero=>
   intro i n e s;obtain⟨n,rfl⟩:∃k,n=k+1:=⟨n-1,Z2⟩
   simp_all[ig,VW]
  |succ k ih=>
   intro i n e s;obtain⟨n,rfl⟩:∃k,n=k+1:=⟨n-1,Z2⟩;have hi:i<F pos:=Z2
   have K:pos.drop i=M pos i 0::pos.drop (i+1):=by
    simp_all
   show ig n (VW pos n) pos (i:E)=_
   unfold ig;rw[zAA Z2,zAI,zAB ⟨Z2,Z2⟩,zAB<|Ae.2 ⟨Z2,Z2⟩,u8,K,List.any_cons]
   grind
 grind[Zv,zBT,BM]
theorem Mg(hl:F pos<=LB)(hn:F pos<n):GO n pos=Z (BM pos):=by
 grind[GO,nf,zBU]
def posOk(q:AA)(pos:Ξ):ζ:=((F pos:E)==q.ce)&&pos.all λx=>decide (0<=x)&&H (x<2^q.sy.toNat)
def EI(q:AA)(pos:Ξ):E:=C (CR q) (C (posOk q pos) 0 250) 191
section
variable{q:AA}{i:E}{pos:Ξ}{n:U}
theorem dX(a:DT q)(s:D0 q<=n)(hl:F pos<=LB)(Hh:F pos<n):Gb n q pos=Z (EI q pos):=by
 have hb:LB<=9223372036854775806:=Z6
 unfold Gb ww EI;rw[ay a s,zAD];cases o:CR q with
 |false=>rfl
 |true=>
  obtain⟨_,l,_⟩:=Dy o;obtain⟨b,p2,c⟩:=dR l.1 l.2
  show(L ((F pos:E) != q.ce) (Z 250)<|RH q pos n<|.l1 0)=Z (C (posOk q pos=T) 0 250)
  unfold posOk
  by_cases p:(F pos:E)=q.ce
  ·have f:((F pos:E) != q.ce)=D:=by simpa using p
   have g:((F pos:E)==q.ce)=T:=by simpa using p
   rw[f,zAJ,g,zOA]
   have key:∀(k i n:U),i+k=F pos->k+1<=n->RH q pos n (.l1 (i:E))=Z (C (((pos.drop i).all λx=>decide (0<=x)&&H (x<2^q.sy.toNat))=T) 0 250):=by
    intro k
    induction k with
    |zero=>
     intro i n e s;obtain⟨n,rfl⟩:∃k,n=k+1:=⟨n-1,Z2⟩
     simp_all[dW,RH]
    |succ k h=>
     intro i n e s;obtain⟨n,rfl⟩:∃k,n=k+1:=⟨n-1,Z2⟩;have hi:i<F pos:=Z2
     have K:pos.drop i=M pos i 0::pos.drop (i+1):=by
      simp_all
     have:=h (i+1) n Z2 Z2
     show dW n (RH q pos n) q pos (i:E)=_
     unfold dW;rw[zAA Z2,zAI,zAB ⟨Z2,Z2⟩,zAB c,zAB<|Ae.2 ⟨Z2,Z2⟩,u8,K,zPD,b]
     grind
   grind
  grind
def M8(q:AA)(i:E)(pos:Ξ):E:=C ((Np q i).2=0) (EI q pos) (Np q i).2
theorem zRq(hF:DT q)(hn:D0 q<=n)(hl:F pos<=LB)(Hh:F pos<n):Vd n q i pos=Z (M8 q i pos):=by
 grind[Vd,qs,M8,nP,dX]
structure Bx(q:AA)(i:E)(pos:Ξ):Prop where
 fit:DT q
 valid:CR q=T
 i0:0<=i
 i1:i<(F q.cons:E)
 pos:posOk q pos=T
def con(q:AA)(i:E):AE:=M q.cons i.toNat ξ
theorem Bx.of(k:DT q)(h:M8 q i pos=0):Bx q i pos:=by
 unfold M8 Np EI at h
 by_cases o:CR q=D
 ·grind
 ·rw[zAt o]at h;have o:CR q=T:=by simpa using o
  by_cases hi:0<=i/\i<(F q.cons:E)
  ·by_cases a:posOk q pos=T
   ·exact⟨k,o,hi.1,hi.2,a⟩
   grind
  grind
def Bx.check(ϛ:Bx q i pos):M8 q i pos=0:=by
 have a:Np q i=(Mc<|(M q.cons i.toNat ξ).kind,0):=by
  unfold Np;rw[zAt (by rw[ϛ.valid];exact λh=>by cases h),zAB ⟨ϛ.i0,ϛ.i1⟩]
 unfold M8 EI;rw[a,zAB rfl,zAB ϛ.valid,zAB ϛ.pos]
theorem Bx.mem(ϛ:Bx q i pos):con q i∈q.cons:=by
 have h:=ϛ.i0;have h1:=ϛ.i1
 grind[con]
def Bx.fine(ϛ:Bx q i pos):FY q (con q i)=T:=(Dy ϛ.valid).2.2.2.2.2 _ ϛ.mem
def Bx.kind(ϛ:Bx q i pos):Is q.ce (con q i).kind (F (con q i).ce)=T:=yn ϛ.fine
theorem Bx.len(ϛ:Bx q i pos):(F pos:E)=q.ce:=by
 have h:=ϛ.pos
 simp_all[posOk]
theorem Bx.sm(ϛ:Bx q i pos):∀j,j<F pos->Sm q.sy.toNat (M pos j 0):=by
 intro j hj;have h:=ϛ.pos
 simp_all[posOk,Sm]
def Bx.len256(ϛ:Bx q i pos):0<F pos/\F pos<=256:=by
 have h:=(Dy ϛ.valid).1;have:=ϛ.len;omega
theorem Bx.ce(ϛ:Bx q i pos):(∀x∈(con q i).ce,0<=x/\x<q.ce)/\(con q i).ce.Nodup/\(8<=(con q i).kind->∀j,j<F (con q i).ce->M (con q i).ce j 0=(j:E)):=by
 have h:=ϛ.fine
 simp_all[FY,qv]
theorem Bx.work(ϛ:Bx q i pos):CZ (con q i) q.sy.toNat pos:=by
 obtain⟨b,c,_⟩:=ϛ.ce;have m:=ϛ.len;have h3:=(Dy ϛ.valid).1;have h4:=(Dy ϛ.valid).2.1;refine⟨λa ha=>?_,?_,ϛ.sm,Z2⟩
 ·simp_all
 ·have:=UU (F pos) _ c λx e=>by rw[m];exact b x e
  omega
theorem Bx.vals(ϛ:Bx q i pos):Ep q q.sy.toNat:=by
 obtain⟨_,h2,⟨h3,R⟩,_⟩:=Dy ϛ.valid;rw[WB]at R;refine⟨Z2,λs hs=>R _ ?_⟩
 grind
theorem Bx.ru(ϛ:Bx q i pos):Jt<|con q i:=by
 have h:=ϛ.fine;unfold FY at h;simp only[zAK,zB0]at h
 grind[WB,Jt]
theorem Bx.two(ϛ:Bx q i pos)(hk:(con q i).kind=6∨(con q i).kind=7):F (con q i).ce=2:=by
 have h:=ϛ.kind
 grind[Is]
theorem Bx.all(ϛ:Bx q i pos)(hk:(con q i).kind=8∨(con q i).kind=9)(r:BM pos=D):FN (con q i) q pos:=by
 have h:=ϛ.kind;have hl:=ϛ.len;have a:=ϛ.len256
 have h1:(F (con q i).ce:E)=q.ce:=by
  grind[Is]
 obtain⟨_,_,_,⟨h5,n⟩,_⟩:=Dy ϛ.valid;exact⟨Z2,λj g=>ϛ.ce.2.2 Z2 j Z2,⟨n,ϛ.fit.nb⟩,Z2,a.1,a.2,λj g=>⟨(ϛ.sm j g).in64<|zAO ϛ.work.k Z6,Fb.1 r j g⟩⟩
end
def DG(q:AA)(c:AE)(pos:Ξ):Prop:=(c.kind=2->OM c pos=T)/\(c.kind=3->NL q c pos=T)/\(c.kind=5->MA c=T)/\(c.kind=9->Pd c q pos)
def B1(q:AA)(c:AE)(pos:Ξ)(a s:U):Prop:=(c.kind=1/\OK c pos a s)∨(c.kind=2/\Ka c pos a s=T)∨(c.kind=3/\J2 q c pos a s=T)∨(c.kind=4/\JP q c pos a s=T)∨(c.kind=5/\Ku c pos a s)∨ (c.kind=6/\Hx (IQ q c) c pos a s)∨(c.kind=7/\Hx (Hy c) c pos a s)∨(c.kind=8/\HI c q pos a s)∨(c.kind=9/\No c q pos a s)
def KP(q:AA)(c:AE)(pos:Ξ)(r:ζ×Ξ):Prop:=(r.1=T↔DG q c pos)/\(r.1=T->CU c pos (d (F pos) 0) (F c.ce) (B1 q c pos) r.2)
def LC(q:AA)(c:AE)(pos:Ξ)(j s:U):Prop:=∃a,a<F c.ce/\(M c.ce a 0).toNat=j/\B1 q c pos a s
structure GT(q:AA)(c:AE)(pos:Ξ):Prop where
 nz:∀j,j<F pos->M pos j 0≠0
 ok:DG q c pos
 left:∀j,j<F pos->∃s,s<64/\tb (M pos j 0) s=T/\¬LC q c pos j s
structure PR(q:AA)(c:AE)(pos x:Ξ):Prop where
 len:F x=F pos
 live:GT q c pos->∀j,j<F pos->CO (M x j 0)/\∀s,tb (M x j 0) s=T↔tb (M pos j 0) s=T/\¬LC q c pos j s
 dead:¬GT q c pos->x=d (F pos) 0
theorem PR.uniq{q:AA}{c:AE}{pos:Ξ}(x y:Ξ)(h:PR q c pos x)(h':PR q c pos y):x=y:=by
 by_cases a:GT q c pos
 ·have e:F x=F y:=h.len.trans h'.len.symm;refine zOC e λj b f=>?_
  have g:j<F pos:=by rw[←h.len];exact b
  have i:M x j 0=x[j]:=by simp[b]
  have K:M y j 0=y[j]:=by simp[f]
  rw[←i,←K];refine L3 (h.live a j g).1 (h'.live a j g).1 λs _=>?_
  rw[zMq,(h.live a j g).2,(h'.live a j g).2]
 ·rw[h.dead a,h'.dead a]
section
variable{q:AA}{i:E}{pos:Ξ}
def V3:F (d (F pos) (0:E))=F pos:=zKR
theorem V4(j:U):M (d (F pos) (0:E)) j 0=0:=by
 grind
theorem jl:∀j,CO<|M (d (F pos) (0:E)) j 0:=λj=>by grind[CO]
def rp:Cp pos (d (F pos) 0) (λ_ _=>False)<|d (F pos) 0:=⟨⟨V3,jl⟩,λj s=>Z3⟩
theorem CU.congr{c:AE}{lost l:Ξ}{ϑ D':U->Ψ}{m:U}(h:CU c pos lost m ϑ l)(hD:∀a s,D' a s↔ϑ a s):CU c pos lost m D' l:=by
 grind[CU]
def J9(n:U)(q:AA)(c:AE)(pos:Ξ):W5:=L (c.kind==1) (VV n c q pos (F pos)<|d (F pos) 0)<|L (c.kind==2) (VX n c q pos (F pos)<|d (F pos) 0)<|L (c.kind==3) (Tc n c q pos (F pos)<|d (F pos) 0)<|L (c.kind==4) (O9 n c q pos (F pos)<|d (F pos) 0)<|L (c.kind==5) (T5 n c q pos (F pos)<|d (F pos) 0)<|L (c.kind==6) (Sy n c q pos (F pos)<|d (F pos) 0)<|L (c.kind==7) (RO n c q pos (F pos)<|d (F pos) 0)<|L (c.kind==8) (iw n c q pos (F pos)<|d (F pos) 0)<|L (c.kind==9) (eo n c q pos (F pos)<|d (F pos) 0) V
theorem zHY(ϛ:Bx q i pos)(m:BM pos=D):Aw (λn=>J9 n q (con q i) pos)<|KP q (con q i) pos:=by
 have W:=ϛ.work;have e:F (d (F pos) (0:E))=F pos:=V3
 have all:∀k:E,(con q i).kind=k->∀{f:U->W5} {N:U} {ok:ζ} {ϑ:U->Ψ},(∀n,N<=n->∃l,f n=Z (ok,l)/\(ok=T->CU (con q i) pos (d (F pos) 0) (F (con q i).ce) ϑ l))->(ok=T↔DG q (con q i) pos)->(∀a s,B1 q (con q i) pos a s↔ϑ a s)->Aw f (KP q (con q i) pos):=by
  intro k _ f N ok ϑ h DZ hD;refine⟨N,λn b=>?_⟩
  grind[KP,CU]
 have o:=Ph<|Pg ϛ.kind;have j:∀{k:E},(con q i).kind=k->k≠2->k≠3->k≠5->k≠9->DG q (con q i) pos:=λhk c p X t=>⟨λh=>τ (hk.symm.trans h) c,λh=>τ (hk.symm.trans h) p,λh=>τ (hk.symm.trans h) X,λh=>τ (hk.symm.trans h) t⟩
 rcases o with hk|hk|hk|hk|hk|hk|hk|hk|hk
 ·refine Aw.eq (all 1 hk (f:=λn=>VV n (con q i) q pos (F pos)<|d (F pos) 0) (N:=2*F (con q i).ce+2) (ok:=T) (ϑ:=OK (con q i) pos) (λn b=>?_) ⟨λ_=>j hk Z6 Z6 Z6 Z6,λ_=>rfl⟩ λa s=>?_) λn=>?_
  ·obtain⟨l,g,c⟩:=zQa (q:=q) W e b
   grind
  ·unfold B1;rw[hk];simp
  ·unfold J9;rw[hk];rfl
 ·refine Aw.eq (all 2 hk (f:=λn=>VX n (con q i) q pos (F pos)<|d (F pos) 0) (N:=2*F (con q i).ce+3) (ok:=OM (con q i) pos) (ϑ:=λa s=>Ka (con q i) pos a s=T) (λn b=>?_) ⟨λh=>⟨λ_=>h,λh=>τ (hk.symm.trans h) Z6,λh=>τ (hk.symm.trans h) Z6,λh=>τ (hk.symm.trans h) Z6⟩,λh=>h.1 hk⟩ λa s=>?_) λn=>?_
  ·exact zQv (q:=q) W e b
  ·unfold B1;rw[hk];simp
  ·unfold J9;rw[hk];rfl
 ·refine Aw.eq (all 3 hk (f:=λn=>Tc n (con q i) q pos (F pos)<|d (F pos) 0) (N:=2*F (con q i).ce+3) (ok:=NL q (con q i) pos) (ϑ:=λa s=>J2 q (con q i) pos a s=T) (λn b=>?_) ⟨λh=>⟨λh=>τ (hk.symm.trans h) Z6,λ_=>h,λh=>τ (hk.symm.trans h) Z6,λh=>τ (hk.symm.trans h) Z6⟩,λh=>h.2.1 hk⟩ λa s=>?_) λn=>?_
  ·exact zD0 W ϛ.vals e b
  ·unfold B1;rw[hk];simp
  ·unfold J9;rw[hk];rfl
 ·refine Aw.eq (all 4 hk (f:=λn=>O9 n (con q i) q pos (F pos)<|d (F pos) 0) (N:=2*F (con q i).ce+3) (ok:=T) (ϑ:=λa s=>JP q (con q i) pos a s=T) (λn b=>?_) ⟨λ_=>j hk Z6 Z6 Z6 Z6,λ_=>rfl⟩ λa s=>?_) λn=>?_
  ·obtain⟨l,g,c⟩:=zHm W ϛ.vals e b
   grind
  ·unfold B1;rw[hk];simp
  ·unfold J9;rw[hk];rfl
 ·obtain⟨l,⟨N,g⟩,c⟩:=zG0 (q:=q) W ϛ.ru e jl;refine Aw.eq (all 5 hk (N:=N) (ok:=MA<|con q i) (ϑ:=Ku (con q i) pos) (λn b=>⟨l,g n b,c⟩) ⟨λh=>⟨λh=>τ (hk.symm.trans h) Z6,λh=>τ (hk.symm.trans h) Z6,λ_=>h,λh=>τ (hk.symm.trans h) Z6⟩,λh=>h.2.2.1 hk⟩ λa s=>?_) λn=>?_
  ·unfold B1;rw[hk];simp
  ·unfold J9;rw[hk];rfl
 ·refine Aw.eq (all 6 hk (f:=λn=>Sy n (con q i) q pos (F pos)<|d (F pos) 0) (N:=0) (ok:=T) (ϑ:=Hx (IQ q<|con q i) (con q i) pos) (λn b=>?_) ⟨λ_=>j hk Z6 Z6 Z6 Z6,λ_=>rfl⟩ λa s=>?_) λn=>?_
  ·obtain⟨l,g,c⟩:=zSi (n:=n) W ϛ.vals (ϛ.two<|.inl hk) e
   grind
  ·unfold B1;rw[hk];simp
  ·unfold J9;rw[hk];rfl
 ·refine Aw.eq (all 7 hk (f:=λn=>RO n (con q i) q pos (F pos)<|d (F pos) 0) (N:=0) (ok:=T) (ϑ:=Hx (Hy<|con q i) (con q i) pos) (λn b=>?_) ⟨λ_=>j hk Z6 Z6 Z6 Z6,λ_=>rfl⟩ λa s=>?_) λn=>?_
  ·obtain⟨l,g,c⟩:=zJ0 (n:=n) (q:=q) W (ϛ.two<|.inr hk) e
   grind
  ·unfold B1;rw[hk];simp
  ·unfold J9;rw[hk];rfl
 ·obtain⟨l,⟨N,g⟩,c⟩:=zRK (ϛ.all (.inl hk) m) rp;refine Aw.eq (all 8 hk (N:=N) (ok:=T) (ϑ:=HI (con q i) q pos) (λn b=>⟨l,g n b,λ_=>c.by<|ϛ.all (.inl hk) m⟩) ⟨λ_=>j hk Z6 Z6 Z6 Z6,λ_=>rfl⟩ λa s=>?_) λn=>?_
  ·unfold B1;rw[hk];simp
  ·unfold J9;rw[hk];rfl
 ·refine Aw.eq ((zKq (ϛ.all (.inr hk) m) rp).mono λr u=>⟨?_,λh=>((u.2 h).by<|ϛ.all (.inr hk) m).congr λa s=>?_⟩) λn=>?_
  ·grind[DG,rj]
  ·unfold B1;rw[hk];simp
  ·unfold J9;rw[hk];rfl
theorem zDm{n:U}{Q:Ξ}(hl:F Q=F pos)(ED:F pos<=256)(hn:600<=n):
 ∃x,F x=F pos/\(∀j,j<F pos->M x j 0=bits .andNot .i64 (M pos j 0) (M Q j 0))/\K3 q i pos n (.l2 (F pos) (F pos:E) 0 Q pos)=Z (C (BM x) (d (F pos) 0) x):=by
 have lb:(256:U)<=LB:=Z6
 obtain⟨a,x,IW,_,e,b,c,KM⟩:=Jb (λn (w:Ξ) k=>K3 q i pos n<|.l2 (F pos) (F pos:E) k Q w) (F pos) 260
  (λk w=>F w=F pos/\(∀j,j<k->M w j 0=bits .andNot .i64 (M pos j 0) (M Q j 0))/\∀j,k<=j->M w j 0=M pos j 0) (λn k w G9 hk hI=>by
   show∃s',Xe n (K3 q i pos n) q i pos (F pos) (F pos:E) (k:E) Q w=_/\_
   unfold Xe;rw[zAA Z2,zAI,zAB ⟨⟨Z2,Z2⟩,Z2,⟨Z2,Z2⟩,Z2,Ae.2 ⟨Z2,Z2⟩⟩]
   grind) (n:=n) (s:=pos) Z2 ⟨rfl,λj g=>τ g<|zAR j,λj _=>rfl⟩
 obtain⟨r,rfl⟩:∃r,a=r+1:=⟨a-1,Z2⟩;refine⟨x,b,c,Eq.trans e ?_⟩
 show Xe r (K3 q i pos r) q i pos (F pos) (F pos:E) (F pos:E) Q x=_
 unfold Xe;rw[zAF Z2,zAJ,zAB b.symm,Mg Z2 Z2,zAD]
 grind
def bN(n:U)(q:AA)(i:E)(pos:Ξ)(G:ζ×Ξ):A Ξ:=L (!G.1) (C (F pos=F (d (F pos) (0:E))) (Z<|d (F pos) (0:E)) V)<|K3 q i pos n<|.l1 G.2
theorem zDp(ϛ:Bx q i pos)(r:BM pos=D){n:U}(hn:601<=n){G:ζ×Ξ}(hy:KP q (con q i) pos G):∃x,bN n q i pos G=Z x/\PR q (con q i) pos x:=by
 have f:=ϛ.len256;have Ϝ:(1000000000000:U)=Av:=rfl;have l:=Fb.1 r;obtain⟨b,lost⟩:=G;obtain⟨c,Q⟩:=hy;unfold bN;cases b with
 |false=>
  refine⟨_,Z4,V3,λa=>?_,λ_=>rfl⟩;have:=c.2 a.ok;cases this
 |true=>
  have c:=c.1 rfl;have Q:CU (con q i) pos (d (F pos) 0) (F (con q i).ce) (B1 q (con q i) pos) lost:=Q rfl;obtain⟨n,rfl⟩:∃k,n=k+1:=⟨n-1,Z2⟩;obtain⟨x,m,o,h3⟩:=zDm (q:=q) (i:=i) (n:=n) Q.1 f.2 Z2
  have p:∀j,j<F pos->CO (M x j 0)/\∀s,tb (M x j 0) s=T↔tb (M pos j 0) s=T/\¬LC q (con q i) pos j s:=λj g=>by
   rw[o j g];refine⟨HK _ _ _,λs=>?_⟩;rw[NI,zAK,zKL,←Bool.not_eq_true,Q.2,V4]
   grind[JI,Ag,LC]
  have BI:i7 n pos=Z pos:=by
   grind[i7,zBh]
  have e:K3 q i pos (n+1) (.l1 lost)=Z (C (BM x) (d (F pos) 0) x):=by
   grind[wd,K3]
  refine⟨_,by exact e,?_,λa j g=>?_,λa=>?_⟩
  ·grind
  ·rw[zAt]
   ·exact p j g
   ·rw[Bool.not_eq_true,Fb];intro j g;rw[m]at g;obtain⟨s,hs,h4,h5⟩:=a.left j g
    grind[GV]
  ·rw[zAB];refine Classical.byContradiction λh=>a ?_
   rw[Bool.not_eq_true,Fb]at h;refine⟨l,c,λj g=>?_⟩
   grind[GV]
def zI3(ϛ:Bx q i pos):∃x,Ev (λn=>MJ n q i pos) x/\PR q (con q i) pos x:=by
 have ED:=ϛ.len256;have lb:(256:U)<=LB:=Z6
 have hi:0<=i/\i<(F q.cons:E):=⟨ϛ.i0,ϛ.i1⟩;cases r:BM pos
 ·suffices Ϙ:Aw (λn=>MJ n q i pos) (PR q (con q i) pos) by
   obtain⟨x,a,c⟩:=Ϙ.ev PR.uniq;exact⟨x,c,a⟩
  obtain⟨N,I⟩:=Aw.bindU (zHY ϛ r) (b:=λn G=>bN n q i pos G) (Q:=PR q (con q i) pos) ⟨601,λn s G hy=>zDp ϛ r s hy⟩;refine⟨N+300,λn s=>?_⟩;obtain⟨x,a,c⟩:=I n Z2;refine⟨x,Eq.trans ?_ a,c⟩
  show MJ n q i pos=(J9 n q (con q i) pos).bind λG=>bN n q i pos G
  unfold MJ mN;rw[zAB ⟨rfl,Z2,Z2⟩,Mg Z2 Z2,r,zAD,zAJ,zAB hi];have hc:M q.cons i.toNat ξ=con q i:=rfl;rw[hc];have m:=Ph<|Pg ϛ.kind;unfold J9;rcases m with hk|hk|hk|hk|hk|hk|hk|hk|hk <;> rw[hk] <;> rfl
 ·refine⟨d (F pos) 0,⟨300,λn s=>?_⟩,V3,λh=>?_,λ_=>rfl⟩
  ·show MJ n q i pos=_
   unfold MJ mN;rw[zAB ⟨rfl,Z2,Z2⟩,Mg Z2 Z2,r,zAD,zAI,zAB V3.symm]
  ·have:=Fb.2 h.nz;rw[r]at this;cases this
def PrP(q:AA)(i:E)(pos:Ξ)(r:Ξ×E):Prop:=r.2=M8 q i pos/\(r.2=0->PR q (con q i) pos r.1)/\(r.2≠0->r.1= [])
theorem zI7(k:DT q)(m:F pos<=LB):∃r,Ev (λn=>PL n q i pos) r/\PrP q i pos r:=by
 have s:Ev (λn=>Vd n q i pos)<|M8 q i pos:=⟨D0 q+F pos+1,λn hn=>zRq k Z2 m Z2⟩
 by_cases h0:M8 q i pos=0
 ·obtain⟨x,a,c⟩:=zI3<|Bx.of k h0;refine⟨(x,0),?_,h0.symm,λ_=>c,λh=>τ rfl h⟩;refine Ev.eq (Ev.bind s (b:=λn f=>L (f != 0) (Z (([]:Ξ),f))<|(MJ n q i pos).bind λG=>Z (G,0)) ?_) λn=>rfl
  rw[h0];exact Ev.bind a (b:=λ_ G=>Z (G,0))<|Ev.now λn=>rfl
 ·refine⟨([],M8 q i pos),?_,rfl,λh=>τ h h0,λ_=>rfl⟩;refine Ev.eq (Ev.bind s (b:=λn f=>L (f != 0) (Z (([]:Ξ),f))<|(MJ n q i pos).bind λG=>Z (G,0))<|Ev.now λn=>?_) λn=>rfl
  grind
end
end
section
structure OA(q:AA)(c:AE)(p:Ξ):Prop where
 nz:∀k,k<F c.ce->Ag c p k≠0
 ok:DG q c p
 left:∀k,k<F c.ce->∃s,tb (Ag c p k) s=T/\¬B1 q c p k s
variable{α:Type}
theorem aA{f g:α->ζ}:∀(l:O α),(∀x∈l,f x=T->g x=T)->l.countP f<=l.countP g
 |[],_=>zAf _
 |x::l,h=>by
  have h1:=aA l λy hy=>h y<|zMO _ hy
  grind
theorem OL{f g:α->ζ}{a:α}(b:f a=D)(s:g a=T):∀(l:O α),(∀x∈l,f x=T->g x=T)->a∈l->l.countP f+1<=l.countP g
 |[],_,h=>by cases h
 |x::l,h,ha=>by
  rcases zMk.1 ha with rfl|ha
  ·simp_all[aA]
  ·have h1:=OL b s l (λy hy=>h y<|zMO _ hy) ha
   grind
variable{m:U}{f g:U->ζ}
def zBg(h:∀a,a<m->f a=T->g a=T):cnt f m<=cnt g m:=by
 unfold cnt;have:=aA (f:=f) (g:=g) (θ m) λx e=>h x<|zAV.1 e
 omega
def zBf{a:U}(h:∀a,a<m->f a=T->g a=T)(P:a<m)(b:f a=D)(s:g a=T):cnt f m+1<=cnt g m:=by
 unfold cnt;have:=OL b s (θ m) (λx e=>h x<|zAV.1 e)<|zAV.2 P;omega
theorem uo{k:U}{x:E}(a:Sm k x)(hk:k<=16)(h:Ou x=T){s t:U}(l:tb x s=T)(ht:tb x t=T):s=t:=by
 have p7:=PM (k:=k)<|zAO hk Z6;obtain⟨m,rfl⟩:=zOh a.1;have R:m<18446744073709551616:=by have:=a.2;omega
 have lo:∀{u:U},tb (m:E) u=T->u<64:=λ{u} hu=>zDL λh=>by rw[TX h]at hu;cases hu
 have h0:m≠0:=by
  rintro rfl;exact JI l
 have e:m&&& (m-1)=0:=by
  unfold Ou at h;rw[zB1]at h;apply Nat.eq_of_testBit_eq;intro u;rw[Nat.zero_testBit,Nat.testBit_and];rcases zCv u 64 with hu|hu
  ·have h2:=(Ok<|HK .and _ _).1 h u hu
   grind[Kl,L2]
  ·rw[Nat.testBit_lt_two_pow<|zAQ R<|zUF (n:=2) Z6 hu,zUN]
 have S:=uD m R h0;rw[e,uC]at S
 have mem:∀{u:U},tb (m:E) u=T->u∈GX m:=λ{u} hu=>by
  grind[GX,L2]
 grind
section
variable{q:AA}{i:E}{p p':Ξ}
variable{s:U}{x:E}{c:AE}
theorem nn(h:bits .andNot .i64 x c.set=0)(hs:tb x s=T):tb c.set s=T:=by
 grind[Ok,HK,NI,tb]
variable{x':E}
theorem rU(h:∀s,tb x' s=T->tb x s=T)(hx:bits .andNot .i64 x c.set=0):bits .andNot .i64 x' c.set=0:=
 (Ok<|HK .andNot _ _).2 λs hs=>by
  grind[NI,nn]
theorem rT(h:∀s,tb x' s=T->tb x s=T)(e:bits .and .i64 x' c.set≠0):bits .and .i64 x c.set≠0:=by
 obtain⟨s,l,a⟩:=(GV<|HK .and _ _).1 e;rw[Kl,zAK]at a;exact(GV<|HK .and _ _).2 ⟨s,l,by grind[Kl]⟩
theorem zCY(a:tb x s=T)(b:tb c.set s=T):bits .and .i64 x c.set≠0:=by
 have l:s<64:=zDL λh=>by rw[TX h]at a;cases a
 exact(GV<|HK .and _ _).2 ⟨s,l,by rw[Kl,a,b];rfl⟩
theorem zSn(h1:tb x s=T)(h2:tb c.set s=D):bits .andNot .i64 x c.set≠0:=by
 grind[TX,GV,HK,NI]
def Fp(c:AE)(p' p:Ξ):Prop:=∀k,k<F c.ce->∀s,tb (Ag c p' k) s=T->tb (Ag c p k) s=T
variable{a k:U}
theorem zQc(W:CZ c k p)(q:Fp c p' p)(m:∀a,a<F c.ce->CO (Ag c p' a))(J:∀a,a<F c.ce->Ag c p' a≠0)(h:OK c p a s):OK c p' a s:=by
 obtain⟨b,f,o,g,i⟩:=h;have j:=W.at f
 have e:Ag c p' b=Ag c p b:=by
  refine L3 (m b f) (j.in64 (by have:=W.k;omega)) λt _=>?_
  obtain⟨u,_,n⟩:=(GV<|m b f).1<|J b f;have l:u=s:=uo j W.k g (q b f u n) i;subst l;cases v:tb (Ag c p b) t with
  |true=>
   have:t=u:=uo j W.k g v i;subst this;exact n
  |false=>
   grind[Fp]
 refine⟨b,f,o,?_,?_⟩
 ·rw[e];exact g
 ·rw[e];exact i
def xx(q:Fp c p' p)(P:a<F c.ce)(h:FV c p a=T):FV c p' a=T:=by
 unfold FV at h⊢;rw[zB1]at h⊢;exact rU (q a P) h
theorem yH(q:Fp c p' p)(DC:∀a,a<F c.ce->CO (Ag c p' a))(Yh:∀a,a<F c.ce->Ag c p' a≠0)(P:a<F c.ce)(h:Gg c p' a=T):Gg c p a=T:=by
 unfold Gg at h⊢;rw[zCz,zOF]at h⊢;right;rcases h with h|h
 ·unfold FV at h;rw[zB1]at h
  grind[GV,zCY,nn,Fp]
 ·exact rT (q a P) h
theorem zQw(q:Fp c p' p)(b:∀a,a<F c.ce->CO (Ag c p' a))(J:∀a,a<F c.ce->Ag c p' a≠0)(e:OM c p'=T):
 OM c p=T/\∀a s,a<F c.ce->tb (Ag c p' a) s=T->Ka c p a s=T->Ka c p' a s=T:=by
 have m1:=zBg (f:=FV c p) (g:=FV c p') (m:=F c.ce) λa P=>xx q P
 have m2:=zBg (f:=Gg c p') (g:=Gg c p) (m:=F c.ce) λa P=>yH q b J P
 unfold OM at e⊢;rw[zAK,zKL,zKL,zMW,zMW]at e⊢;refine⟨⟨Z2,Z2⟩,λa s P hs h=>?_⟩;unfold Ka at h⊢;rw[zCz,zAK,zAK,zAK,zAK,zB1,zB1,zOF,zOF,zKL]at h⊢;rcases h with⟨⟨i,j⟩,k⟩|⟨⟨i,j⟩,k⟩
 ·refine .inl ⟨⟨Z2,λR=>?_⟩,k⟩;have:=zBf (f:=FV c p) (g:=FV c p') (m:=F c.ce) (a:=a) (λa P=>xx q P) P (by grind[FV]) (by simp_all[FV]);omega
 ·refine .inr ⟨⟨Z2,λR=>?_⟩,k⟩
  have:=zBf (f:=Gg c p') (g:=Gg c p) (m:=F c.ce) (a:=a) (λa P=>yH q b J P) P
   (by
    grind[Gg,FV,zSn]) (by simp_all[Gg])
  omega
theorem kH{f g:U->E}:∀{m:U},(∀a,a<m->f a<=g a)->Cf f m<=Cf g m/\∀a,a<m->Cf f m-f a<=Cf g m-g a
 |0,_=>⟨zCs _,λa P=>τ P<|zAR a⟩
 |m+1,h=>by
  obtain⟨h1,h2⟩:=kH (m:=m) λa P=>h a Z2
  have e:∀f:U->E,Cf f (m+1)=Cf f m+f m:=λf=>rfl
  grind
variable{n:E}
theorem nK :∀(l:Ξ) (a:E),n<=l.foldl (LA q) a↔n<=a/\∀e∈l,n<=M q.va e.toNat 0
 |[],a=>Z3
 |e::l,a=>by
  rw[zOB,nK l];unfold LA
  grind
theorem pG :∀(l:Ξ) (a:E),l.foldl (LO q) a<=n↔a<=n/\∀e∈l,M q.va e.toNat 0<=n
 |[],a=>Z3
 |e::l,a=>by
  rw[zOB,pG l];unfold LO
  grind
def kR(hk:k<=16)(a:Sm k x)(c:Sm k x')(h:∀s,tb x' s=T->tb x s=T):∀e∈By x',e∈By x:=λe b=>by
 obtain⟨s,rfl,f,g⟩:=(Gf c<|zAO hk Z6).1 b;exact(Gf a<|zAO hk Z6).2 ⟨s,rfl,f,h s g⟩
theorem zD1(W:CZ c k p)(K:CZ c k p')(j:Fp c p' p)(i:NL q c p'=T):
 NL q c p=T/\∀a s,a<F c.ce->J2 q c p a s=T->J2 q c p' a s=T:=by
 have sub:∀a,a<F c.ce->∀e∈By (Ag c p' a),e∈By (Ag c p a):=λa P=>kR W.k (W.at P) (K.at P)<|j a P
 have l:∀a,a<F c.ce->Fw q (Ag c p a)<=Fw q (Ag c p' a):=λa P=>by
  have h:=(nK (q:=q) (By<|Ag c p a) 100).1<|zCs _;exact(nK (By<|Ag c p' a) 100).2 ⟨h.1,λe b=>h.2 e<|sub a P e b⟩
 have n:∀a,a<F c.ce->GB q (Ag c p' a)<=GB q (Ag c p a):=λa P=>by
  have h:=(pG (q:=q) (By<|Ag c p a)<|-1).1<|zCs _;exact(pG (By<|Ag c p' a)<|-1).2 ⟨h.1,λe b=>h.2 e<|sub a P e b⟩
 have t1:=kH (f:=λa=>Fw q<|Ag c p a) (g:=λa=>Fw q<|Ag c p' a) (m:=F c.ce) l;have t2:=kH (f:=λa=>GB q<|Ag c p' a) (g:=λa=>GB q<|Ag c p a) (m:=F c.ce) n;have y:∀p,Md q c p=Cf (λa=>Fw q<|Ag c p a) (F c.ce):=λ_=>rfl
 have o:∀p,Mr q c p=Cf (λa=>GB q<|Ag c p a) (F c.ce):=λ_=>rfl
 unfold NL at i⊢;rw[zAK,zKL,zKL,zMW,zMW,y,o]at i⊢;refine⟨⟨Z2,Z2⟩,λa s P h=>?_⟩;unfold J2 at h⊢
 grind
variable{b:E}
theorem bB :∀(l:Ξ) (a:E),n<=l.foldl (Lz q b) a↔n<=a/\∀e∈l,M q.va e.toNat 0>b->n<=M q.va e.toNat 0
 |[],a=>Z3
 |e::l,a=>by
  rw[zOB,bB l];unfold Lz
  grind
theorem iR :∀(l:Ξ) (a:E),l.foldl (Li q b) a<=n↔a<=n/\∀e∈l,M q.va e.toNat 0<b->M q.va e.toNat 0<=n
 |[],a=>Z3
 |e::l,a=>by
  rw[zOB,iR l];unfold Li
  grind
def zB9(W:CZ c k p)(K:CZ c k p')(f:Fp c p' p):∀a,a<=F c.ce->Hn q c p a<=Hn q c p' a
 |0,_=>zCs _
 |a+1,ha=>by
  have ih:=zB9 W K f a Z2;have h:=(bB (q:=q) (b:=Hn q c p a) (By<|Ag c p a) 100).1<|zCs _;exact(bB (By<|Ag c p' a) 100).2 ⟨h.1,λe g hg=>h.2 e (kR W.k (W.at Z2) (K.at Z2) (f a Z2) e g) Z2⟩
def zCl(W:CZ c k p)(K:CZ c k p')(a:Fp c p' p):∀m,m<=F c.ce->I9 q c p' m<=I9 q c p m
 |0,_=>zCs _
 |m+1,hm=>by
  have ih:=zCl W K a m Z2;have h:=(iR (q:=q) (b:=I9 q c p m) (By<|Ag c p<|F c.ce-1-m)<|-1).1<|zCs _;exact(iR (By<|Ag c p'<|F c.ce-1-m)<|-1).2 ⟨h.1,λe f hg=>h.2 e (kR W.k (W.at Z2) (K.at Z2) (a _ Z2) e f) Z2⟩
theorem zHn(W:CZ c k p)(K:CZ c k p')(b:Fp c p' p)(ha:a<F c.ce)(h:JP q c p a s=T):JP q c p' a s=T:=by
 have h1:=zB9 (q:=q) W K b a Z2;have h2:=zCl (q:=q) W K b (F c.ce-(a+1)) Z2
 grind[JP,Lq]
variable{inn:ζ}
theorem nZ(q:Fp c p' p)(P:a<F c.ce)(h:kd c p' a inn=T):kd c p a inn=T:=by
 unfold kd at h⊢;cases inn
 ·rw[zAJ,zOF]at h⊢
  grind[rU,Fp]
 ·rw[zAI,zOF]at h⊢;exact rT (q a P) h
def mB(q:Fp c p' p):∀(a:U),a<=F c.ce->∀t,GH c p' a t->GH c p a t
 |0,_,t,h=>h
 |a+1,ha,t,⟨s,inn,b,e,k⟩=>⟨s,inn,mB q a Z2 s b,e,nZ q Z2 k⟩
def yc(q:Fp c p' p):∀(m:U),m<=F c.ce->∀t,Kj c p' m t->Kj c p m t
 |0,_,t,h=>h
 |m+1,hm,t,⟨a,u,inn,b,k,R⟩=>⟨mB q _ Z2 t a,u,inn,b,nZ q Z2 k,yc q m Z2 u R⟩
def zBu(q:Fp c p' p)(P:a<F c.ce)(h:Kc c p' a inn):Kc c p a inn:=by
 obtain⟨s,t,b,e,k,R⟩:=h;exact⟨s,t,mB q a Z2 s b,e,nZ q P k,yc q _ Z2 t R⟩
theorem zGy(q:Fp c p' p)(P:a<F c.ce)(h:Ku c p a s):Ku c p' a s:=
 h.elim (λh=>.inl ⟨λb=>h.1<|zBu q P b,h.2⟩) λh=>.inr ⟨λb=>h.1<|zBu q P b,h.2⟩
theorem xC{ok:U->U->ζ}(hS:Fp c p' p)(h2:F c.ce=2)(h:Hx ok c p a s):Hx ok c p' a s:=by
 unfold Hx at h⊢
 grind[Fp]
structure Qa(c:AE)(q:AA)(p p':Ξ):Prop where
 W:FN c q p
 W':FN c q p'
 len:F p=F p'
 sub:∀j,j<F p->∀s,tb (M p' j 0) s=T->tb (M p j 0) s=T
section
variable{c:AE}
theorem Qa.pB(Ϙ:Qa c q p p'):∀v:E,M (pB c p') v.toNat D=T->M (pB c p) v.toNat D=T:=λv h=>by
 have hl:=Ϙ.len
 by_cases o:v.toNat<F p
 ·rw[dk Z2,zOF]at h;rw[dk o,zOF];exact rT (Ϙ.sub _ o) h
 grind[Iq]
theorem Qa.cB(Ϙ:Qa c q p p'):∀v:E,M (cB c p) v.toNat D=T->M (cB c p') v.toNat D=T:=λv h=>by
 have hl:=Ϙ.len
 by_cases o:v.toNat<F p
 ·rw[jE o,zB1]at h;rw[jE Z2,zB1];exact rU (Ϙ.sub _ o) h
 grind[Ll]
variable{j:U}
def xQ{x:Ξ}{s:U}(g:j<F x)(a:tb (M x j 0) s=T)(b:tb c.set s=T):M (pB c x) j D=T:=by
 rw[dk g,zOF];exact zCY a b
theorem ut{x:Ξ}{s:U}(g:j<F x)(h:M (cB c x) j D=T)(a:tb (M x j 0) s=T):tb c.set s=T:=by
 rw[jE g,zB1]at h;exact nn h a
variable{v r:E}
def keep(W:FN c q p')(K:∀v,v<F p'->∃s,tb (M p' v 0) s=T/\¬Fm c q p' v s)(h0:0<=r)(k:Er (cB c p') r)(KR:0<=v)(B2:v<(F p':E))(hc:M (cB c p') v.toNat D=T):Rc q.nb (pB c p') r v:=by
 refine Classical.byContradiction λh=>?_
 obtain⟨s,a,b⟩:=K v.toNat Z2;have e:((v.toNat:U):E)=v:=Z2
 exact b ⟨W.cp Z2 hc,ut Z2 hc a,r,h0,k,by rw[e];exact h⟩
theorem Er.ex(W:FN c q p')(KR:0<=v)(B2:v<(F p':E))(hc:M (cB c p') v.toNat D=T):∃r:E,0<=r/\r<(F p':E)/\Er (cB c p') r/\M (cB c p') r.toNat D=T:=by
 obtain⟨r,_,k⟩:=YP (l:=cB c p') (by rw[Ll];exact W.l1);rcases k with⟨a,b⟩|⟨a,b,h3,h4⟩
 ·grind
 grind[Er]
theorem Er.at(h0:0<=r)(h:Er (cB c p) r):r<(F p:E)/\M (cB c p) r.toNat D=T:=by
 grind[cB,Er]
theorem zAw(Ϙ:Qa c q p p')(K:∀v,v<F p'->∃s,tb (M p' v 0) s=T/\¬Fm c q p' v s){a s:U}(ha:a<F p)(l:tb (M p' a 0) s=T)(h:Fm c q p a s):Fm c q p' a s:=by
 obtain⟨h1,e,r,o,k,i⟩:=h;have hl:=Ϙ.len;have gl:=Ϙ.W'.gl;obtain⟨SB,b⟩:=k.at o;have f:=Ϙ.cB r b;obtain⟨m,R,h5,j,n⟩:=Er.ex Ϙ.W' o Z2 f;refine⟨xQ Z2 l e,e,m,R,j,λS=>i ?_⟩;have u:=keep Ϙ.W' K R j o Z2 f;have t:=u.symm Ϙ.W'.g.gr R Z2<|Ϙ.W'.cp Z2 n;exact(t.trans S).mono Ϙ.pB
theorem zSV{g:O Ξ}{inn:Ω}{u a:E}(b:¬Rc g inn u a)(ha:0<=a)(G:Gr g)(N:0<=u)(W:u<(F g:E))(h:Rc g inn u v):Rc g (inn.set a.toNat D) u v:=by
 induction h with
 |start=>exact .start
 |@step x y h c hi n=>
  refine .step n c ?_;have hr:=(Rc.step h c hi).rng G N W
  have Af:a.toNat≠y.toNat:=λe=>b (by
   have K:a=y:=Z2
   rw[K];exact Rc.step h c hi)
  grind
theorem zRJ(Ϙ:Qa c q p p')(Yj:∀v,v<F p'->∃s,tb (M p' v 0) s=T/\¬HI c q p' v s){a s:U}(ha:a<F p)(hs:tb (M p' a 0) s=T)(h:HI c q p a s):HI c q p' a s:=by
 have hl:=Ϙ.len;have gl:=Ϙ.W'.gl
 have l:∀v,v<F p'->∃s,tb (M p' v 0) s=T/\¬Fm c q p' v s:=λv o=>by
  grind[HI]
 rcases h with h|⟨h1,h2,⟨u,v,i,b,G,o,I,J,X⟩,N⟩
 ·grind[zAw,HI]
 ·have f:=I.rng Ϙ.W.g.gr Z2 Z2;have P:=J.rng Ϙ.W.g.gr Z2 Z2;have k:=Ϙ.cB u G;have x:=Ϙ.cB v o;have m:=Ϙ.W'.cp (j:=u.toNat) Z2 k;obtain⟨r',S,h8,n,Q⟩:=Er.ex Ϙ.W' f.1 Z2 k;have Y:=keep Ϙ.W' l S n f.1 Z2 k;have kv:=keep Ϙ.W' l S n P.1 Z2 x;have r:Rc q.nb (pB c p') u v:=(Y.symm Ϙ.W'.g.gr S Z2<|Ϙ.W'.cp Z2 Q).trans kv
  have t:∀w:E,M ((pB c p').set (a:E).toNat D) w.toNat D=T->M ((pB c p).set (a:E).toNat D) w.toNat D=T:=λw R=>by
   have la:F (pB c p')=F p':=Iq;have lb:F (pB c p)=F p:=Iq;rw[Vj Z2]at R⊢;split
   ·grind
   ·rename_i e;rw[zAt e]at R;exact Ϙ.pB w R
  have y:Rc q.nb (pB c p') u a:=Classical.byContradiction λK=>X<|(zSV K Z2 Ϙ.W'.g.gr f.1 Z2 r).mono t
  have z:=y.symm Ϙ.W'.g.gr f.1 Z2 m;refine .inr ⟨?_,?_,⟨u,v,i,b,k,x,z,z.trans r,λK=>X<|K.mono t⟩,N⟩
  ·have:=y.isIn m
   simp_all
  grind[ut]
theorem zKo(Ϙ:Qa c q p p')(j:Pd c q p')(Yj:∀v,v<F p'->∃s,tb (M p' v 0) s=T/\¬No c q p' v s):Pd c q p/\∀a s,a<F p->tb (M p' a 0) s=T->No c q p a s->No c q p' a s:=by
 have hl:=Ϙ.len
 have k:∀v,v<F p'->∃s,tb (M p' v 0) s=T/\¬Fm c q p' v s:=λv o=>by
  grind[No]
 have u:∀v:U,M (cB c p) v D=T->M (cB c p') v D=T:=λv h=>Ϙ.cB (v:E) h
 have Y:∀v:E,Cj q.nb (pB c p') v<=Cj q.nb (pB c p) v:=λv=>aA _ λx _ h=>Ϙ.pB x h
 have dC:∀v:E,Cj q.nb (cB c p) v<=Cj q.nb (cB c p') v:=λv=>aA _ λx _ h=>Ϙ.cB x h
 refine⟨λv o hc=>?_,λa s P l h=>?_⟩
 ·grind[Pd]
 ·rcases h with h|⟨v,o,i,b,m,R⟩
  ·exact .inl<|zAw Ϙ k P l h
  ·have hk:=j v Z2<|u v i;have e1:=Y v;refine .inr ⟨v,Z2,u v i,b,?_⟩;rcases R with⟨R,X⟩|⟨R,X,n⟩
   ·have e:M (pB c p') a D=T:=by
     cases e:M (pB c p') a D with
     |true=>rfl
     |false=>
      have:=OL (f:=λx:E=>M (pB c p') x.toNat D) (g:=λx:E=>M (pB c p) x.toNat D) (a:=(a:E)) e m (nb q.nb v) (λx _ h=>Ϙ.pB x h) b
      grind[Cj]
    grind
   ·have e:=xQ (c:=c) Z2 l n
    have hc:M (cB c p') a D=D:=by
     cases hc:M (cB c p') a D with
     |false=>rfl
     |true=>
      have:=OL (f:=λx:E=>M (cB c p) x.toNat D) (g:=λx:E=>M (cB c p') x.toNat D) (a:=(a:E)) X hc (nb q.nb v) (λx _ h=>Ϙ.cB x h) b
      grind[Cj]
    grind
end
theorem mono(ϛ:Bx q i p)(f:Bx q i p')(m:Fp (con q i) p' p)(b:OA q (con q i) p'):
 DG q (con q i) p/\∀k,k<F (con q i).ce->∀s,tb (Ag (con q i) p' k) s=T->B1 q (con q i) p k s->B1 q (con q i) p' k s:=by
 have W:=ϛ.work;have K:=f.work;have r:∀a,a<F (con q i).ce->CO (Ag (con q i) p' a):=λa P=>(K.at P).in64 (by have:=K.k;omega)
 have I:=Ph<|Pg ϛ.kind;have u:∀{k:E},(con q i).kind=k->k≠2->k≠3->k≠9->DG q (con q i) p:=λhk c J N=>⟨λh=>τ (hk.symm.trans h) c,λh=>τ (hk.symm.trans h) J,b.ok.2.2.1,λh=>τ (hk.symm.trans h) N⟩
 have all:∀{hk:(con q i).kind=8∨(con q i).kind=9},Qa (con q i) q p p':=λ{hk}=>by
  have w:=ϛ.len;have GP:=f.len
  have y:BM p'=D:=Fb.2 λj g=>by
   have hk8:F (con q i).ce=F p':=by
    have h:=f.kind
    grind[Is]
   have:=b.nz j Z2
   have e:Ag (con q i) p' j=M p' j 0:=by
    unfold Ag;rw[f.ce.2.2 Z2 j Z2,u8]
   rwa[e]at this
  have o:=f.all hk y
  have Q:∀j,j<F p->∀s,tb (M p' j 0) s=T->tb (M p j 0) s=T:=λj g s l=>by
   have e:∀x:Ξ,Ag (con q i) x j=M x j 0:=λx=>by
    unfold Ag;rw[o.id j Z2,u8]
   have:=m j (by rw[o.len];omega) s (by rw[e];exact l)
   rwa[e]at this
  have R:BM p=D:=Fb.2 λj g=>by
   have h:=Fb.1 y j Z2;obtain⟨s,z,c⟩:=(GV<|(f.sm j Z2).in64 (by have:=K.k;omega)).1 h
   grind[tb]
  exact⟨ϛ.all hk R,o,Z2,Q⟩
 rcases I with hk|hk|hk|hk|hk|hk|hk|hk|hk
 ·refine⟨u hk Z6 Z6 Z6,λk n s l h=>?_⟩;unfold B1 at h⊢;rw[hk]at h⊢;simp at h⊢;exact zQc W m r b.nz h
 ·have c:=zQw m r b.nz<|b.ok.1 hk;refine⟨⟨λ_=>c.1,λh=>τ (hk.symm.trans h) Z6,b.ok.2.2.1,λh=>τ (hk.symm.trans h) Z6⟩,λk n s l h=>?_⟩
  simp_all[B1]
 ·have c:=zD1 (q:=q) W K m<|b.ok.2.1 hk;refine⟨⟨λh=>τ (hk.symm.trans h) Z6,λ_=>c.1,b.ok.2.2.1,λh=>τ (hk.symm.trans h) Z6⟩,λk n s l h=>?_⟩
  simp_all[B1]
 ·grind[B1,zHn]
 ·grind[B1,zGy]
 ·have c:=ϛ.two<|.inl hk
  grind[B1,xC]
 ·have c:=ϛ.two<|.inr hk
  grind[B1,xC]
 ·have Ϙ:=all (hk:=.inl hk)
  have e:∀(x:Ξ) (j:U),j<F p->Ag (con q i) x j=M x j 0:=λx j g=>by
   unfold Ag;rw[Ϙ.W.id j g,u8]
  have S:=Ϙ.W.len;have w:=Ϙ.len;have G:∀x a s,B1 q (con q i) x a s↔HI (con q i) q x a s:=λx a s=>by unfold B1;rw[hk];simp
  refine⟨u hk Z6 Z6 Z6,λk n s l h=>?_⟩;rw[G]at h⊢;rw[e _ _ Z2]at l;refine zRJ Ϙ (λv X=>?_) Z2 l h;obtain⟨t,z,c⟩:=b.left v Z2
  grind
 ·have Ϙ:=all (hk:=.inr hk)
  have e:∀(x:Ξ) (j:U),j<F p->Ag (con q i) x j=M x j 0:=λx j g=>by
   unfold Ag;rw[Ϙ.W.id j g,u8]
  have S:=Ϙ.W.len;have w:=Ϙ.len;have G:∀x a s,B1 q (con q i) x a s↔No (con q i) q x a s:=λx a s=>by unfold B1;rw[hk];simp
  have c:=zKo Ϙ (b.ok.2.2.2 hk) λv X=>by
   obtain⟨t,z,c⟩:=b.left v Z2
   grind
  refine⟨⟨λh=>τ (hk.symm.trans h) Z6,λh=>τ (hk.symm.trans h) Z6,b.ok.2.2.1,λ_=>c.1⟩,λk n s l h=>?_⟩
  grind
end
end
section
set_option maxRecDepth 100000
set_option maxHeartbeats 40000000
end
section
set_option maxRecDepth 100000
set_option maxHeartbeats 40000000
def wU(n:U)(y G:E):A ζ:=L (H<|G>=0) (L (H<|G<16) (C (0<=G/\G<=(IntKind.i64.bits:E)) (Z<|(bits .and .i64 y<|IntKind.i64.wrap<|1*2^(G).toNat) != 0) V)<|Z D)<|Z D
def JS(n:U)(y G:E):A ζ:=wU n y G
variable{r:ζ}{n:U}
def MF{y G:E}(h:JS n y G=Z r):EQ 75 [.i y,.i G] [] (.bool r) [] T:=by
 refine ot Tryz.func75 λϙ N=>?_
 revert r;apply gO;exact bi 6 (bi 9 (gi<|lE AC [4] [])<|lE AC [4] [])<|lE AC [4] []
def wV(n:U)(a P e:E):A ζ:=C (AI<|a-P) (L (H<|(a-P)>=e) (Z T)<|C (AI<|P-a) (Z<|H<|(P-a)>=e) V) V
def mG(n:U)(a P e:E):A ζ:=wV n a P e
def zIv{a P e:E}(h:mG n a P e=Z r):EQ 74 [.i a,.i P,.i e] [] (.bool r) [] T:=by
 refine ot Tryz.func74 λϙ N=>?_
 revert r;apply gO;exact gw 9<|bi 11 (lE AC [6] [])<|gw 15<|lE AC [6] []
inductive UF where
 |l1 (x8:ζ) (o0:Ω)
 |l2 (x8:ζ) (x9:E) (o0:Ω)
 |l3 (x8:ζ) (x9 x10:E) (o0:Ω)
def mE(n:U)(self:UF->A Ω)(J:O Ξ)(AN:Ω)(start:E)(x8:ζ)(o0:Ω):A Ω:=L x8 (self<|.l2 D 0 o0)<|C (F J=F o0) (Z o0) V
def mD(n:U)(self:UF->A Ω)(J:O Ξ)(AN:Ω)(start:E)(x8:ζ)(v:E)(o0:Ω):A Ω:=L (H<|v<(F J:E)) (self<|.l3 x8 v 0 o0)<|self<|.l1 x8 o0
def XV(n:U)(self:UF->A Ω)(J:O Ξ)(e:Ω)(start:E)(x8:ζ)(v x10:E)(o0:Ω):A Ω:=C (0<=v/\v<(F J:E)) (L (H<|x10<((F<|M J v.toNat []:U):E)) (C (0+v.toNat<F o0) (L (M o0 (0+v.toNat) D) (C ((0<=x10/\x10<((F<|M J v.toNat []:U):E))/\((0:E)<=M (M J v.toNat []) x10.toNat 0/\M (M J v.toNat []) x10.toNat 0<(F e:E))) (L (M e (M (M J v.toNat []) x10.toNat 0).toNat D) (C (((0:E)<=M (M J v.toNat []) x10.toNat 0/\M (M J v.toNat []) x10.toNat 0<(F J:E))/\0+(M (M J v.toNat []) x10.toNat 0).toNat<F o0) (L (!(M o0 (0+(M (M J v.toNat []) x10.toNat 0).toNat) D)) (C (AI<|x10+1) (self<|.l3 T v (x10+1)<|o0.set (0+(M (M J v.toNat []) x10.toNat 0).toNat) T) V)<|C (AI<|x10+1) (self<|.l3 x8 v (x10+1) o0) V) V)<|C (AI<|x10+1) (self<|.l3 x8 v (x10+1) o0) V) V)<|C (AI<|x10+1) (self<|.l3 x8 v (x10+1) o0) V) V)<|C (AI<|v+1) (self<|.l2 x8 (v+1) o0) V) V
def wR(n:U)(self:UF->A Ω)(J:O Ξ)(AN:Ω)(start:E):A Ω:=C ((((F J:E):E)=(F J:E)/\0<=(F J:E)/\((F J:E):E)<=1000000000000)/\(0<=start/\start<(F J:E))/\0+start.toNat<F (d (F J) D)) (self<|.l1 T<|(d (F J) D).set (0+start.toNat) T) V
def HV(J:O Ξ)(e:Ω)(start:E):U->UF->A Ω
 |0,_=>V
 |n+1,.l1 x8 o0=>mE n (HV J e start n) J e start x8 o0
 |n+1,.l2 x8 v o0=>mD n (HV J e start n) J e start x8 v o0
 |n+1,.l3 x8 v x10 o0=>XV n (HV J e start n) J e start x8 v x10 o0
def ME(n:U)(J:O Ξ)(e:Ω)(start:E):A Ω:=wR n (HV J e start n) J e start
def zIq(n ϙ:U)(N:Yd 0)(J:O Ξ)(e:Ω)(start:E)(r:Ω):UF->Prop:=px n ϙ η N (FQ Tryz.f130 0 (.bools r) []) (AZ Tryz.f130) λ
 | .l1 x8 o0=>(0,0,AF 72 [(0,.sl 1 (F J)<|AM AW J),(1,.bools e),(7,.msl 0 1 0<|F J),(8,.bool x8)],[Z<|.bools o0])
 | .l2 x8 v o0=>(1,2,AF 72 [(0,.sl 1 (F J)<|AM AW J),(1,.bools e),(7,.msl 0 1 0<|F J),(8,.bool x8),(9,.i v)],[Z<|.bools o0])
 | .l3 x8 v x10 o0=>(2,4,AF 72 [(0,.sl 1 (F J)<|AM AW J),(1,.bools e),(7,.msl 0 1 0<|F J),(8,.bool x8),(9,.i v),(10,.i x10)],[Z<|.bools o0])
def zIr(ϙ:U)(N:Yd 0)(J:O Ξ)(e:Ω)(start:E):Al (HV J e start) (zIq · ϙ N J e start):=ia (λ_=>rfl) λn I G r h=>by
 cases G
 case l1 x8 o0=>
  intro q a;refine rd a λq a=>?_
  revert r;apply gO;exact bi 17 (lN AC [0] (I _ _ · q n a χ))<|gn λx=>lF λp=>ez AC [6] [0] p [0]<|H0.g x
 case l2 x8 x9 o0=>
  intro q S a c;have a:=zBE a;refine rd c λS c=>?_
  revert r;apply gO;exact bi 21 (lN AC [0] (I _ _ · q S n a c χ)) (lG AC [0] (I _ _ · q a))
 case l3 x8 x9 x10 o0=>
  intro q S b a c R;have a:=zBE a;have c:=zBE c;refine rd R λb R=>?_
  revert r;apply gO;exact gn λx=>jg x (bi 30 (jg x (gi (bi 36 (jg x (gc (gn λu=>jg u (gi (bi 47 (jg x (jg u (gc (gn λK=>jg K (gn λt=>jg t (bi 60 (jg x (jg u (jg K (jg t (gw 32 (lG AC [0] (I _ _ · q S b a c R))))))) (gw 32 (lG AC [0] (I _ _ · q S b a c R))))))))) (gw 32 (lG AC [0] (I _ _ · q S b a c R)))))))) (gw 32 (lG AC [0] (I _ _ · q S b a c R)))))) (gw 23 (lG AC [0] (I _ _ · q S a c))))
variable{e:Ω}
def mC{J:O Ξ}{start:E}{r:Ω}(h:ME n J e start=Z r):EQ 130 [.sl 1 (F J)<|AM AW J,.bools e,.i start] [] (.bools r) [] T:=by
 refine ot Tryz.func130 λϙ N=>?_
 revert r;apply gO;exact gc (gi (gc (gi (gi (lN AC [0] ((zIr ϙ N J e start n) _ _ · n χ))))))
inductive UH where
 |l1 (x4:E)
 |l2 (x3:U) (x4:E) (o0:Ξ)
def XX(n:U)(self:UH->A Ξ)(e:Ω)(c:E):A Ξ:=L (H<|c<(F e:E)) (C (0<=c/\c<(F e:E)) (L (M e c.toNat D) (C (((0=0/\1=F ([c]:Ξ))/\0<F ([c]:Ξ)/\F ([c]:Ξ)<=Av)/\AI (c+1)) (self<|.l2 (F ([c]:Ξ)) (c+1) ([c]:Ξ)) V)<|C (AI<|c+1) (self<|.l1<|c+1) V) V)<|Z ([]:Ξ)
def XW(n:U)(self:UH->A Ξ)(e:Ω)(X:U)(c:E)(o0:Ξ):A Ξ:=L (H<|c<(F e:E)) (C (0<=c/\c<(F e:E)) (L (M e c.toNat D) (C (((0=0/\1=F ([c]:Ξ))/\(0=0/\X=F o0)/\F o0+F ([c]:Ξ)<=Av)/\AI (c+1)) (self<|.l2 (F o0+F ([c]:Ξ)) (c+1)<|o0++([c]:Ξ)) V)<|C (AI<|c+1) (self<|.l2 X (c+1) o0) V) V)<|C (X=F o0) (Z o0) V
def zIs(n:U)(self:UH->A Ξ)(AN:Ω):A Ξ:=self<|.l1 0
def Kz(e:Ω):U->UH->A Ξ
 |0,_=>V
 |n+1,.l1 c=>XX n (Kz e n) e c
 |n+1,.l2 X c o0=>XW n (Kz e n) e X c o0
def PI(n:U)(e:Ω):A Ξ:=zIs n (Kz e n) e
def zIt(n ϙ:U)(N:Yd 0)(e:Ω)(r:Ξ):UH->Prop:=px n ϙ η N (FQ Tryz.f129 0 (.ints r) []) (AZ Tryz.f129) λ
 | .l1 c=>(0,0,AF 20 [(0,.bools e),(3,.nils),(4,.i c)],[])
 | .l2 X c o0=>(0,0,AF 20 [(0,.bools e),(3,.msl 0 1 0 X),(4,.i c)],[oI o0])
def zIu(ϙ:U)(N:Yd 0)(e:Ω):Al (Kz e) (zIt · ϙ N e):=ia (λ_=>rfl) λn I G r h=>by
 cases G
 case l1 x4=>
  intro q a;refine rd a λq a=>?_
  revert r;apply gO;exact bi 8 (gi (bi 14 (gc (gi (gw 10 (lG AC [1] (I _ _ · q a))))) (gw 10 (lG AC [] (I _ _ · q a)))))<|lF λp=>el AC [2] [] p [] H0 [.nils] AO.ints_nil
 case l2 x3 x4 o0=>
  intro q a;refine rd a λq a=>?_
  revert r;apply gO;exact bi 8 (gi (bi 14 (gc (gi (gw 10 (lG AC [2] (I _ _ · q a))))) (gw 10 (lG AC [0] (I _ _ · q a)))))<|gn λx=>lF λp=>ez AC [2] [0] p [0]<|H0.g x
def mF{r:Ξ}(h:PI n e=Z r):EQ 129 [.bools e] [] (.ints r) [] T:=by
 refine ot Tryz.func129 λϙ N=>?_
 revert r;apply gO;exact lN AC [] ((zIu ϙ N e n) _ _ · n χ)
def zFu:Ar (Am Tryz.f33 9) [] (θ 16) []:=Z0
def Q4:BZ:=λi=>match i with
 |9=>.ord [] (θ 16) []
 |_=>.no
inductive cY where
 |l1 (x6:E)
def XB(n:U)(self:cY->A E)(q:AA)(pos:Ξ)(x6:E):A E:=L (H<|x6<(F pos:E)) (C (0<=x6/\x6<(F pos:E)) (L (H<|M pos x6.toNat 0<0) (Z 250)<|C (0<=IntKind.u64.wrap q.sy/\IntKind.u64.wrap q.sy<=(IntKind.i64.bits:E)) (L (H<|M pos x6.toNat 0>=(IntKind.i64.wrap<|1*2^(IntKind.u64.wrap q.sy).toNat)) (Z 250)<|C (AI<|x6+1) (self<|.l1<|x6+1) V) V) V)<|Z 0
def vd(n:U)(self:cY->A E)(q:AA)(pos:Ξ):A E:=(Tz n q).bind λf=>L (f != 0) (Z f)<|L ((F pos:E) != q.ce) (Z 250)<|self<|.l1 0
def Q7(q:AA)(pos:Ξ):U->cY->A E
 |0,_=>V
 |n+1,.l1 x6=>XB n (Q7 q pos n) q pos x6
def XC(n:U)(q:AA)(pos:Ξ):A E:=vd n (Q7 q pos n) q pos
def zHb(n ϙ:U)(N:Yd 0)(q:AA)(pos:Ξ)(r:E):cY->Prop:=px n ϙ η N (FQ Tryz.f33 0 (.i r) []) (AZ Tryz.f33) λ
 | .l1 x6=>(0,0,AF 39 [(1,.ints pos),(2,.ref 0 0),(6,.i x6)],[oC<|AG q])
def zHc(ϙ:U)(N:Yd 0)(q:AA)(pos:Ξ):Al (Q7 q pos) (zHb · ϙ N q pos):=ia (λ_=>rfl) λn I G r h=>by
 cases G
 case l1 x6=>
  intro b a;refine rd a λb a=>?_
  revert r;apply gO;exact bi 20 (jg zFu (gn λx=>jg x (bi 27 (lE Q4 [4] []) (jg x (gi (bi 37 (lE Q4 [4] []) (gw 22 (lG Q4 [0] (I _ _ · b a)))))))))<|lE Q4 [4] []
def zHZ{q:AA}{pos:Ξ}{r:E}(h:XC n q pos=Z r):EQ 33 [.agg 5<|L1<|AG q,.ints pos] [] (.i r) [] T:=by
 refine ot Tryz.func33 λϙ N=>?_
 revert r;apply gO;exact cf vJ [oC<|AG q] λ_=>bi 10 (lE Q4 [4] []) (bi 16 (lE Q4 [4] []) (lN Q4 [0] ((zHc ϙ N q pos n) _ _ · n χ)))
end
section
variable{q:AA}{c:AE}{pos l:Ξ}{ϑ D':U->Ψ}{k:U}
end
section
variable{q:AA}{c:AE}{pos:Ξ}{k:U}
def Qh(c:AE)(pos:Ξ)(i j:U)(g:U->U):Prop:=∀b,i<=b->b<j->tb (Ag c pos b) (g b)=T
def HN(q:AA)(i j:U)(g:U->U):Prop:=∀b,i<=b->b+1<j->M q.va (g b) 0<M q.va (g<|b+1) 0
variable{b:E}
def sY :∀(l:Ξ) (a:E),l.foldl (Lz q b) a=a∨∃e∈l,M q.va e.toNat 0=l.foldl (Lz q b) a/\M q.va e.toNat 0>b
 |[],a=>.inl rfl
 |e::l,a=>by
  rw[zOB];rcases sY l (Lz q b a e)with h|⟨x,c,f⟩
  ·rw[h];unfold Lz;split
   ·rename_i k;split
    ·exact .inr ⟨e,zMY,rfl,k⟩
    ·exact .inl rfl
   ·exact .inl rfl
  ·exact .inr ⟨x,zMO _ c,f⟩
def zBL :∀(l:Ξ) (a:E),l.foldl (Li q b) a=a∨∃e∈l,M q.va e.toNat 0=l.foldl (Li q b) a/\M q.va e.toNat 0<b
 |[],a=>.inl rfl
 |e::l,a=>by
  rw[zOB];rcases zBL l (Li q b a e)with h|⟨x,c,f⟩
  ·rw[h];unfold Li;split
   ·rename_i k;split
    ·exact .inr ⟨e,zMY,rfl,k⟩
    ·exact .inl rfl
   ·exact .inl rfl
  ·exact .inr ⟨x,zMO _ c,f⟩
def zB8(W:CZ c k pos):∀i,i<=F c.ce->Hn q c pos i<100->∃g,Qh c pos 0 i g/\HN q 0 i g/\(0<i->M q.va (g<|i-1) 0=Hn q c pos i)
 |0,_,_=>⟨λ_=>0,λb _ h=>τ h<|zAR b,λb _ h=>τ h<|zAR _,λh=>τ h<|Nat.lt_irrefl 0⟩
 |i+1,hi,h=>by
  rcases sY (q:=q) (b:=Hn q c pos i) (By<|Ag c pos i) 100 with f|⟨e,f,a,j⟩
  ·have:Hn q c pos (i+1)=100:=f;omega
  ·have a:M q.va e.toNat 0=Hn q c pos (i+1):=a;obtain⟨s,rfl,hs,v⟩:=(Gf (W.at Z2)<|zAO W.k Z6).1 f;rw[u8]at a j;obtain⟨g,p,u,l⟩:=zB8 W i Z2 Z2;refine⟨λb=>C (b=i) s<|g b,λb R X=>?_,λb R X=>?_,λ_=>?_⟩
   ·dsimp only
    by_cases e:b=i
    ·subst e;rw[zAB rfl];exact v
    ·rw[zAt e];exact p b R Z2
   ·have y:b≠i:=Z2
    dsimp only
    rw[zAt y]
    by_cases K:b+1=i
    ·have:=l Z2;rw[zAB K,show b=i-1 by omega,this];exact j
    ·rw[zAt K];exact u b R Z2
   ·dsimp only
    rw[zAB Z2];exact a
variable{g:U->U}
def zSH(W:CZ c k pos):∀i,i<F c.ce->Qh c pos 0 (i+1) g->HN q 0 (i+1) g->Hn q c pos i<M q.va (g i) 0->Hn q c pos (i+1)<=M q.va (g i) 0:=λi hi a _ f=>by
 have h:=(bB (q:=q) (b:=Hn q c pos i) (By<|Ag c pos i) 100).1<|zCs _;have v:=a i (zMK _) Z2;have z:=(Gf (W.at hi) (zAO W.k Z6) (e:=(g i:E))).2 ⟨g i,rfl,zDL λX=>(by rw[(W.at hi).hi X]at v;cases v),v⟩;have:=h.2 _ z;rw[u8]at this;exact this f
def zCA(W:CZ c k pos)(ο:Ep q k):∀i,i<F c.ce->Qh c pos 0 (i+1) g->HN q 0 (i+1) g->Hn q c pos i<M q.va (g i) 0
 |0,hi,e,_=>by
  have v:=e 0 (zAf _) Z2;have:=ο.val (g 0) (zDL λX=>by rw[(W.at hi).hi X]at v;cases v)
  show(-1:E)<_
  omega
 |i+1,hi,e,f=>by
  have x:Qh c pos 0 (i+1) g:=λb a R=>e b a Z2
  have p:HN q 0 (i+1) g:=λb a R=>f b a Z2
  have a:=zCA W ο i Z2 x p;have R:=zSH W i Z2 x p a;have h5:=f i (zMK _) Z2;omega
def zCj(W:CZ c k pos):∀m,m<=F c.ce->-1<I9 q c pos m->∃g,Qh c pos (F c.ce-m) (F c.ce) g/\HN q (F c.ce-m) (F c.ce) g/\(0<m->M q.va (g<|F c.ce-m) 0=I9 q c pos m)
 |0,_,_=>⟨λ_=>0,λb f a=>τ a Z2,λb f a=>τ a Z2,λh=>τ h<|Nat.lt_irrefl 0⟩
 |m+1,hm,h=>by
  rcases zBL (q:=q) (b:=I9 q c pos m) (By<|Ag c pos<|F c.ce-1-m) (-1)with f|⟨e,f,a,i⟩
  ·have:I9 q c pos (m+1)= -1:=f;omega
  ·have a:M q.va e.toNat 0=I9 q c pos (m+1):=a;obtain⟨s,rfl,hs,v⟩:=(Gf (W.at Z2)<|zAO W.k Z6).1 f;rw[u8]at a i;obtain⟨g,p,u,j⟩:=zCj W m Z2 Z2;have l:F c.ce-(m+1)=F c.ce-1-m:=Z2
   refine⟨λb=>C (b=F c.ce-1-m) s<|g b,λb R X=>?_,λb R X=>?_,λ_=>?_⟩
   ·dsimp only
    by_cases e:b=F c.ce-1-m
    ·subst e;rw[zAB rfl];exact v
    ·rw[zAt e];exact p b Z2 X
   ·have K:b+1≠F c.ce-1-m:=Z2
    dsimp only
    rw[zAt K]
    by_cases y:b=F c.ce-1-m
    ·have:=j Z2;rw[zAB y,show b+1=F c.ce-m by omega,this];exact i
    ·rw[zAt y];exact u b Z2 X
   ·dsimp only
    rw[zAB l];exact a
def zCk(W:CZ c k pos)(ο:Ep q k):∀m,m<F c.ce->Qh c pos (F c.ce-1-m) (F c.ce) g->HN q (F c.ce-1-m) (F c.ce) g->M q.va (g<|F c.ce-1-m) 0<I9 q c pos m
 |0,z,f,_=>by
  have v:=f (F c.ce-1-0) Z2 Z2;have:=ο.val (g<|F c.ce-1-0) (zDL λX=>by rw[(W.at Z2).hi X]at v;cases v)
  show _<(100:E)
  omega
 |m+1,z,f,j=>by
  have y:F c.ce-1-m=F c.ce-1-(m+1)+1:=Z2
  have x:Qh c pos (F c.ce-1-m) (F c.ce) g:=λb i R=>f b Z2 R
  have p:HN q (F c.ce-1-m) (F c.ce) g:=λb i R=>j b Z2 R
  have i:=zCk W ο m Z2 x p;have h:=(iR (q:=q) (b:=I9 q c pos m) (By<|Ag c pos<|F c.ce-1-m)<|-1).1<|zCs _;have v:=f (F c.ce-1-m) Z2 Z2;have l:=(Gf (W.at (a:=F c.ce-1-m) Z2) (zAO W.k Z6) (e:=(g<|F c.ce-1-m:E))).2 ⟨_,rfl,zDL λX=>(by rw[(W.at Z2).hi X]at v;cases v),v⟩;have R:=h.2 _ l;rw[u8]at R;have R:_<=I9 q c pos (m+1):=R i;have n:=j (F c.ce-1-(m+1)) (zAf _) Z2;rw[←y]at n;omega
variable{a:U}
def zHo(W:CZ c k pos)(ο:Ep q k){s:U}(P:a<F c.ce)(l:tb (Ag c pos a) s=T):JP q c pos a s=D↔∃g,Qh c pos 0 (F c.ce) g/\HN q 0 (F c.ce) g/\g a=s:=by
 have hv:=ο.val s (zDL λX=>by rw[(W.at P).hi X]at l;cases l);unfold JP Lq;rw[Bool.or_eq_false_iff,zMW,zMW];constructor
 ·rintro⟨f,h⟩;obtain⟨p,j,p2,o⟩:=zB8 (q:=q) W a Z2 Z2;obtain⟨u,t,r,Q⟩:=zCj (q:=q) W (F c.ce-(a+1)) Z2 Z2;have el:F c.ce-(F c.ce-(a+1))=a+1:=Z2
  rw[el]at t r Q;refine⟨λb=>C (b<a) (p b)<|C (b=a) s<|u b,λb _ i=>?_,λb _ i=>?_,by dsimp only;rw[if_neg Z2,if_pos rfl]⟩
  ·dsimp only
   by_cases y:b<a
   ·rw[zAB y];exact j b (zMK _) y
   ·by_cases K:b=a
    ·subst K;rw[zAt y,zAB rfl];exact l
    ·rw[zAt y,zAt K];exact t b Z2 i
  ·dsimp only
   by_cases y:b<a
   ·rw[zAB y]
    by_cases K:b+1<a
    ·rw[zAB K];exact p2 b (zMK _) K
    ·have:=o Z2;rw[zAt K,zAB Z2,show b=a-1 by omega,this];omega
   ·rw[zAt y,zAt (by omega:¬b+1<a),zAt (by omega:¬b+1=a)]
    by_cases K:b=a
    ·have:=Q Z2;rw[zAB K,K,this];omega
    ·rw[zAt K];exact r b Z2 i
 ·rintro⟨g,f,h,rfl⟩;have l1:=zCA W ο a P (λb e R=>f b e Z2) λb e R=>h b e Z2;have m:=zCk W ο (F c.ce-1-a) Z2 (λb e R=>f b Z2 R) λb e R=>h b Z2 R;have y:F c.ce-1-(F c.ce-1-a)=a:=Z2
  have K:F c.ce-(a+1)=F c.ce-1-a:=Z2
  rw[y]at m;rw[K];omega
def Vz(c:AE)(pos:Ξ)(a:U)(inn:ζ):U->Δ->Prop
 |0,t=>ak c t
 |m+1,s=>∃b u,kd c pos (F c.ce-1-m) b=T/\(F c.ce-1-m=a->b=inn)/\nx c s.1 s.2 b=Z u/\Vz c pos a inn m u
variable{inn:ζ}
def cO :∀(m:U),m+a+1<=F c.ce->∀t,GH c pos (F c.ce-m) t->(Vz c pos a inn m t↔Kj c pos m t)
 |0,_,t,_=>Iff.rfl
 |m+1,hm,s,i=>by
  have e:F c.ce-(m+1)=F c.ce-1-m:=Z2
  have K:F c.ce-m=F c.ce-1-m+1:=Z2
  rw[e]at i;constructor
  ·rintro⟨b,u,f,_,k,R⟩;exact⟨i,u,b,k,f,(cO m Z2 u<|by rw[K];exact⟨s,b,i,k,f⟩).1 R⟩
  ·rintro⟨_,u,b,k,f,R⟩;exact⟨b,u,f,λh=>τ h Z2,k,(cO m Z2 u<|by rw[K];exact⟨s,b,i,k,f⟩).2 R⟩
def vE(P:a<F c.ce):∀(i:U),i<=a->(Vz c pos a inn (F c.ce) (0,0)↔∃s,GH c pos i s/\Vz c pos a inn (F c.ce-i) s)
 |0,_=>⟨λh=>⟨(0,0),rfl,h⟩,λ⟨s,f,g⟩=>by
  have f:s=(0,0):=f;subst f;exact g⟩
 |i+1,hi=>by
  rw[vE P i Z2];have e:F c.ce-i=(F c.ce-(i+1))+1:=Z2
  have K:F c.ce-1-(F c.ce-(i+1))=i:=Z2
  constructor
  ·rintro⟨s,f,g⟩;rw[e]at g;obtain⟨b,u,k,_,X,n⟩:=g;rw[K]at k;exact⟨u,⟨s,b,f,X,k⟩,n⟩
  ·rintro⟨u,⟨s,b,f,X,k⟩,n⟩;refine⟨s,f,?_⟩;rw[e];exact⟨b,u,by rw[K];exact k,λh=>τ h (by rw[K];omega),X,n⟩
def zR1(P:a<F c.ce):Kc c pos a inn↔Vz c pos a inn (F c.ce) (0,0):=by
 rw[vE P a<|zAf _];have e:F c.ce-a=(F c.ce-1-a)+1:=Z2
 have K:F c.ce-1-(F c.ce-1-a)=a:=Z2
 have N:F c.ce-(F c.ce-1-a)=a+1:=Z2
 constructor
 ·rintro⟨s,t,f,g,k,R⟩;refine⟨s,f,?_⟩;rw[e];exact⟨inn,t,by rw[K];exact k,λ_=>rfl,g,(cO _ Z2 t<|by rw[N];exact⟨s,inn,f,g,k⟩).2 R⟩
 ·rintro⟨s,f,g⟩;rw[e]at g;obtain⟨b,t,k,R,X,n⟩:=g;rw[K]at k R;obtain rfl:=R rfl;exact⟨s,t,f,X,k,(cO _ Z2 t<|by rw[N];exact⟨s,b,f,X,k⟩).1 n⟩
end
section
open Classical
section
variable{q:AA}{c:AE}{pos l:Ξ}{k:U}
end
end
section
open Classical
section
variable{q:AA}{c:AE}{pos l:Ξ}{k:U}
theorem PJ{n:U}{x:E}{s:U}(hs:s<16):JS n x (s:E)=Z (tb x s):=by
 unfold JS wU;rw[zAA Z2,zAI,zAA Z2,zAI,zAB ⟨Z2,by show(s:E)<=((64:U):E);omega⟩,u8];refine congrArg Z ?_;have h:=Vi (s:=s) Z2 x
 have e:bits .and .i64 x (IntKind.i64.wrap<|1*2^s)=bits .and .i64 (IntKind.i64.wrap<|1*2^s) x:=by
  grind[L3,HK,Kl]
 grind
end
end
section
variable{q:AA}{c:AE}{pos l:Ξ}{g:O Ξ}{inn:Ω}{s:E}
theorem SU{l:Ξ}{j:U}(hj:j<F l):M l j 0∈l:=by
 grind
structure Mk(g:O Ξ)(inn:Ω)(s:E)(o:Ω):Prop where
 len:F o=F g
 start:M o s.toNat D=T
 sub:∀v:U,v<F g->M o v D=T->Rc g inn s v
def Cl(g:O Ξ)(inn o:Ω)(u:U):Prop:=M o u D=T->∀v∈nb g u,M inn v.toNat D=T->M o v.toNat D=T
def Ps(g:O Ξ)(inn:Ω)(s:E)(o0:Ω)(ϛ:Ω->Prop)(x:ζ×Ω):Prop:=Mk g inn s x.2/\(x.1=D->x.2=o0/\ϛ o0)/\(x.1=T->Fc x.2<Fc o0)
theorem pass(G:Gr g)(hI:F inn=F g){o0:Ω}(J:Mk g inn s o0):∃x:ζ×Ω,Ps g inn s o0 (λo=>∀u,u<F g->Cl g inn o u) x/\AX (HV g inn s) (.l1 T o0) (.l1 x.1 x.2):=by
 have Aj:=G.len
 obtain⟨x,a,K⟩:=Me (m:=HV g inn s) (λi (x:ζ×Ω)=>.l2 x.1 (i:E) x.2) (λi x=>Ps g inn s o0 (λo=>∀u,u<i->Cl g inn o u) x) (F g) (λi x hi a=>by
  have Mm:=G.row i Z2 Z2
  obtain⟨x',f,P⟩:=Me (m:=HV g inn s) (λj (x:ζ×Ω)=>.l3 x.1 (i:E) (j:E) x.2) (λj x=>Ps g inn s o0 (λo=>(∀u,u<i->Cl g inn o u)/\(M o i D=T->∀y,y<j->M inn (M (nb g i) y 0).toNat D=T->M o (M (nb g i) y 0).toNat D=T)) x) (F<|nb g i) (λj x k a=>by
   obtain⟨b,o⟩:=x;obtain⟨c,p,l⟩:=a;have c:Mk g inn s o:=c;have p:b=D->o=o0/\_:=p;have l:b=T->Fc o<Fc o0:=l;have q:=G.rng i Z2 Z2 _<|SU k;have Q:=c.len;have r1:AI<|(j:E)+1:=Ae.2 ⟨Z2,Z2⟩;have r:nb g (i:E)=M g i []:=by unfold nb;rw[u8]
   have ι:∀n,HV g inn s (n+1) (.l3 b (i:E) (j:E) o)=L (M o i D&&M inn (M (nb g i) j 0).toNat D&&!M o (M (nb g i) j 0).toNat D) (HV g inn s n<|.l3 T (i:E) ((j:E)+1)<|o.set (M (nb g i) j 0).toNat T) (HV g inn s n<|.l3 b (i:E) ((j:E)+1) o):=λn=>by
    show XV n (HV g inn s n) g inn s b (i:E) (j:E) o=_
    unfold XV
    grind
   cases N:M o i D&&M inn (M (nb g i) j 0).toNat D&&!M o (M (nb g i) j 0).toNat D
   ·refine⟨(b,o),⟨c,λw=>?_,l⟩,AX.one λn=>by rw[ι n,N,zAJ];rfl⟩
    grind
   ·rw[zAK,zAK,zKL]at N;obtain⟨⟨z,p2⟩,I⟩:=N;refine⟨(T,o.set (M (nb g i) j 0).toNat T),⟨⟨by rw[zIG];exact Q,?_,λv R Y=>?_⟩,λw=>(by cases w),λ_=>?_⟩,AX.one λn=>by rw[ι n,z,p2,I];rfl⟩
    ·rw[Vj Z2];split
     ·rfl
     ·exact c.start
    ·rw[Vj Z2]at Y;split at Y
     ·rename_i e;have hst:=Rc.step (c.sub i hi z) (SU k) p2
      grind
     ·exact c.sub v R Y
    ·have:=qm o (M (nb g i) j 0).toNat Z2 I
     grind) (F<|nb g i) 0 x Z2 ⟨a.1,λh=>⟨(a.2.1 h).1,(a.2.1 h).2,λ_ y S=>τ S<|zAR y⟩,a.2.2⟩
  have r:nb g (i:E)=M g i []:=by unfold nb;rw[u8]
  refine⟨x',⟨f.1,λh=>⟨(f.2.1 h).1,λu t=>?_⟩,f.2.2⟩,(AX.one (b:=.l3 x.1 (i:E) ((0:U):E) x.2) λn=>?_).trans<|P.trans<|AX.one λn=>?_⟩
  ·obtain⟨h4,X,h6⟩:=f.2.1 h;rcases zBy.1 t with t|rfl
   ·exact X u t
   ·intro ho v q DC;obtain⟨j,k,rfl⟩:=zJw q
    grind
  ·simp_all[mD,HV]
  ·show XV n (HV g inn s n) g inn s x'.1 (i:E) (F<|nb g i:E) x'.2=_
   unfold XV;rw[zAB ⟨Z2,Z2⟩,zAF (by rw[u8,←r];omega),zAJ,zAB<|Ae.2 ⟨Z2,Z2⟩];rfl) (F g) 0 (D,o0) Z2 ⟨J,λ_=>⟨rfl,λu t=>τ t<|zAR u⟩,λh=>by cases h⟩
 refine⟨x,a,(AX.one (b:=.l2 D ((0:U):E) o0) λn=>rfl).trans<|K.trans<|AX.one λn=>?_⟩
 simp_all[mD,HV]
theorem zIb(G:Gr g)(Y:F inn=F g):∀(z:U) (o0:Ω),Fc o0<=z->Mk g inn s o0->∃o,(Mk g inn s o/\∀u,u<F g->Cl g inn o u)/\AX (HV g inn s) (.l1 T o0) (.l1 D o):=by
 intro z
 induction z with
 |zero=>
  intro o0 f l;obtain⟨⟨b,o⟩,a,c⟩:=pass G Y l;cases b
  ·obtain⟨e,h⟩:=a.2.1 rfl
   grind
  ·have:Fc o<Fc o0:=a.2.2 rfl;omega
 |succ z n=>
  intro o0 f l;obtain⟨⟨b,o⟩,a,c⟩:=pass G Y l;cases b
  ·obtain⟨e,h⟩:=a.2.1 rfl
   grind
  ·have:Fc o<Fc o0:=a.2.2 rfl;obtain⟨o',k,R⟩:=n o Z2 a.1;exact⟨o',k,c.trans R⟩
def Vx(g:O Ξ)(inn:Ω)(s:E)(o:Ω):Prop:=F o=F g/\∀v:U,v<F g->(M o v D=T↔Rc g inn s v)
theorem zIp(G:Gr g)(b:F inn=F g)(h0:0<=s)(e:s<(F g:E)):Aw (λn=>ME n g inn s)<|Vx g inn s:=by
 have Aj:=G.len
 have l:Mk g inn s<|(d (F g) D).set s.toNat T:=by
  refine⟨Z3,?_,λv a Y=>?_⟩
  ·grind
  ·rw[Vj Z7]at Y;split at Y
   ·rw[show((v:U):E)=s by omega];exact .start
   grind
 obtain⟨o,⟨c,k⟩,R⟩:=zIb G b _ _ (zAf _) l
 have all:∀v:E,Rc g inn s v->M o v.toNat D=T:=λv a=>by
  induction a with
  |start=>exact c.start
  |step h hb hi f=>
   have hr:=h.rng G h0 e;refine k _ Z2 f _ ?_ hi
   grind
 refine((R.ev<|Ev.one (r:=o) λn=>?_).p ⟨c.len,λv a=>⟨c.sub v a,λh=>Z4⟩⟩).eq λn=>?_
 ·show mE n (HV g inn s n) g inn s D o=_
  unfold mE;rw[zAJ,zAB c.len.symm]
 ·unfold ME wR
  grind
def wM(G:Hr g):Ev (λn=>PH n g) 0:=⟨2*GU g+1,λn s=>by
 show PH n g=_
 rw[wN G.row s,G.ok];rfl⟩
theorem Vx.uniq{x x':Ω}(h:Vx g inn s x)(h':Vx g inn s x'):x=x':=
 zAz (h.1.trans h'.1.symm) λj a=>by rw[zMq,h.2 j (by rw[←h.1];exact a),h'.2 j<|by rw[←h.1];exact a]
variable{some':Ω}
end
abbrev zOV:=@List.getElem?_eq_none
section
variable{q:AA}{i:E}{pos x:Ξ}
variable{c:AE}
def PR.sub(h:PR q c pos x){j s:U}(l:tb (M x j 0) s=T):j<F pos/\tb (M pos j 0) s=T:=by
 have g:j<F pos:=by
  refine zDL λBq=>?_
  rw[zAL,zOV (by have:=h.len;omega)]at l;exact JI l
 refine⟨g,?_⟩
 by_cases a:GT q c pos
 ·exact(((h.live a j g).2 s).1 l).1
 ·rw[h.dead a,V4]at l;exact τ l JI
theorem PR.in64(h:PR q c pos x)(j:U):CO<|M x j 0:=by
 by_cases a:GT q c pos
 ·by_cases g:j<F pos
  ·exact(h.live a j g).1
  ·rw[zAL,zOV (by have:=h.len;omega)];grind[CO]
 ·rw[h.dead a];exact jl j
theorem MK(hv:CR q=T){y:Ξ}:posOk q y=T↔(F y:E)=q.ce/\∀j,j<F y->Sm q.sy.toNat (M y j 0):=by
 unfold posOk;rw[zAK,zB1,zAP];constructor
 ·simp_all[Sm]
 ·rintro⟨a,h2⟩;refine⟨a,λz f=>?_⟩;obtain⟨j,hj,rfl⟩:=zJw f
  simp_all[Sm]
end
section
variable{q:AA}{i:E}{p p' x z:Ξ}
theorem zTH(ϛ:Bx q i p){k s:U}(hk:k<F (con q i).ce):LC q (con q i) p (M (con q i).ce k 0).toNat s↔B1 q (con q i) p k s:=by
 constructor
 ·rintro⟨a,P,e,h⟩;have h1:=ϛ.work.ce a P;have h2:=ϛ.work.ce k hk;have A1:=ϛ.ce.2.1
  grind[List.pairwise_iff_getElem]
 grind[LC]
theorem jW(ϛ:Bx q i p):GT q (con q i) p↔(∀j,j<F p->M p j 0≠0)/\OA q (con q i) p:=by
 have W:=ϛ.work;constructor
 ·intro h;refine⟨h.nz,λk hk=>h.nz _ (by have:=W.ce k hk;omega),h.ok,λk hk=>?_⟩;obtain⟨s,_,a,c⟩:=h.left (M (con q i).ce k 0).toNat (by have:=W.ce k hk;omega)
  grind[Ag,LC]
 ·rintro⟨a,c⟩;refine⟨a,c.ok,λj g=>?_⟩
  by_cases b:∃k,k<F (con q i).ce/\(M (con q i).ce k 0).toNat=j
  ·obtain⟨k,hk,rfl⟩:=b;obtain⟨s,e,R⟩:=c.left k hk
   grind[zTH,tb,Ag]
  ·obtain⟨s,e,R⟩:=(GV<|(ϛ.sm j g).in64 (by have:=W.k;omega)).1<|a j g
   grind[LC]
theorem xd(ϛ:Bx q i p)(t:Bx q i p')(a:Fp (con q i) p' p)(h:OA q (con q i) p'):OA q (con q i) p/\∀k,k<F (con q i).ce->∀s,tb (Ag (con q i) p' k) s=T->B1 q (con q i) p k s->B1 q (con q i) p' k s:=by
 obtain⟨b,c⟩:=mono ϛ t a h;have W:=ϛ.work;refine⟨⟨λk hk=>?_,b,λk hk=>?_⟩,c⟩
 ·obtain⟨s,e,_⟩:=h.left k hk
  grind[Fp,tb]
 ·obtain⟨s,e,h4⟩:=h.left k hk
  grind[Fp]
theorem wl(ϛ:Bx q i p)(a:Bx q i p')(c:∀j s,tb (M p' j 0) s=T->tb (M p j 0) s=T)(l:PR q (con q i) p x)(f:PR q (con q i) p' z):∀j s,tb (M z j 0) s=T->tb (M x j 0) s=T:=by
 intro j s h;have hl:=ϛ.len;have GP:=a.len
 by_cases N:GT q (con q i) p'
 ·obtain⟨m,n⟩:=(jW a).1 N;obtain⟨b,o⟩:=xd ϛ a (λk _ s h=>c _ s h) n
  have r:GT q (con q i) p:=(jW ϛ).2 ⟨λj g=>by
   obtain⟨t,h3,h4⟩:=(GV<|(a.sm j Z2).in64 (by have:=ϛ.work.k;omega)).1<|m j Z2
   grind[tb],b⟩
  obtain⟨g,_⟩:=f.sub h;obtain⟨X,u⟩:=((f.live N j g).2 s).1 h;refine((l.live r j Z2).2 s).2 ⟨c j s X,λ⟨k,hk,e,S⟩=>u ⟨k,hk,e,o k hk s ?_ S⟩⟩
  grind[Ag]
 ·rw[f.dead N,V4]at h;exact τ h JI
end
section
variable{q:AA}{i:E}{a b:Ξ}
theorem mO(ϛ:Bx q i a):∃x,Ev (λn=>PL n q i a) (x,0)/\PR q (con q i) a x:=by
 obtain⟨r,h1,c,h3,_⟩:=zI7 (i:=i) ϛ.fit (pos:=a)<|zAO ϛ.len256.2 Z6;obtain⟨x,e⟩:=r;have e0:e=0:=c.trans ϛ.check
 grind
end
section
variable{q:AA}{i j:E}{p p' x y z:Ξ}
def PR.posOk(ϛ:Bx q i p)(h:PR q (con q i) p x):posOk q x=T:=by
 refine(MK ϛ.valid).2 ⟨by rw[h.len];exact ϛ.len,λj hj=>?_⟩;have hk:=ϛ.work.k;refine Wg Z2 (h.in64 j) λs l _=>?_
 cases v:tb (M x j 0) s with
 |false=>rfl
 |true=>
  obtain⟨a,c⟩:=h.sub v;rw[(ϛ.sm j a).hi l]at c;cases c
def PR.alive(ϛ:Bx q i p)(r:BM p=D)(h:PR q (con q i) p p):GT q (con q i) p:=by
 refine Classical.byContradiction λa=>?_
 have h0:=ϛ.len256.1;have:=Fb.1 r 0 h0;rw[h.dead a,V4]at this;exact this rfl
theorem zKx(ϛ:Bx q i p)(t:Bx q i p')(b:∀k,k<F (con q i).ce->Ag (con q i) p' k=Ag (con q i) p k)(r:BM p=D)(o:BM p'=D)(h:PR q (con q i) p p):PR q (con q i) p' p':=by
 have a:=h.alive ϛ r;obtain⟨_,z⟩:=(jW ϛ).1 a;obtain⟨Y,m⟩:=xd t ϛ (λk hk s l=>by rw[b k hk];exact l) z;have N:GT q (con q i) p':=(jW t).2 ⟨Fb.1 o,Y⟩;refine⟨rfl,λ_ j g=>⟨(t.sm j g).in64 (by have:=t.work.k;omega),λs=>⟨λl=>⟨l,?_⟩,λl=>l.1⟩⟩,λc=>τ N c⟩;rintro⟨k,hk,e,f⟩
 have n:tb (Ag (con q i) p k) s=T:=by
  grind[Ag]
 have u:=m k hk s n f;have hW:=ϛ.work.ce k hk;have v:tb (M p (M (con q i).ce k 0).toNat 0) s=T:=n;have w:=(((h.live a (M (con q i).ce k 0).toNat Z2).2 s).1 v).2;exact w ⟨k,hk,rfl,u⟩
end
section
structure Gd(q:AA)(g:Ξ):Prop where
 len:(F g:E)=q.ce
 sym:∀j,j<F g->0<=M g j 0/\M g j 0<q.sy
def Ax(g:Ξ):Ξ:=g.map λs=>IntKind.i64.wrap<|1*2^s.toNat
def AP(c:AE)(g:Ξ)(a:U):U:=(M g (M c.ce a 0).toNat 0).toNat
def CT(c:AE)(g:Ξ):Ω:=g.map λs=>tb c.set s.toNat
def rl(b:U->ζ)(len:U):U->E->Ξ
 |0,l=>C (l>0) [l] []
 |m+1,l=>L (b<|len-1-m) (rl b len m<|l+1)<|C (l>0) (l::rl b len m 0)<|rl b len m 0
def Hs(n:O Ξ)(inn:Ω):Prop:=∀u v:U,u<F n->v<F n->M inn u D=T->M inn v D=T->Rc n inn u v
def B3(q:AA)(c:AE)(g:Ξ):Prop:=(c.kind=1->∀a b,a<F c.ce->b<F c.ce->AP c g a=AP c g b->a=b)/\(c.kind=2->c.lo<=cnt (λa=>tb c.set<|AP c g a) (F c.ce)/\cnt (λa=>tb c.set<|AP c g a) (F c.ce)<=c.hi)/\(c.kind=3->c.lo<=Cf (λa=>M q.va (AP c g a) 0) (F c.ce)/\Cf (λa=>M q.va (AP c g a) 0) (F c.ce)<=c.hi)/\(c.kind=4->HN q 0 (F c.ce) (AP c g))/\(c.kind=5->rl (λa=>tb c.set<|AP c g a) (F c.ce) (F c.ce) 0=c.ru)/\(c.kind=6->IQ q c (AP c g 0) (AP c g 1)=T)/\(c.kind=7->Hy c (AP c g 0) (AP c g 1)=T)/\(c.kind=8->Hs q.nb (CT c g))/\(c.kind=9->Hs q.nb (CT c g)/\∀v,v<F g->M (CT c g) v D=T->Cj q.nb (CT c g) v=2)
variable{g:Ξ}
def Fh :F (Ax g)=F g:=zAS _
variable{j:U}
def Tp(a:j<F g):M (Ax g) j 0=IntKind.i64.wrap (1*2^(M g j 0).toNat):=by
 unfold Ax;rw[zAL,zMN,zBx a,zAL,zBx a];rfl
variable{c:AE}
def Nl :F (CT c g)=F g:=zAS _
def eQ(a:j<F g):M (CT c g) j D=tb c.set (M g j 0).toNat:=by
 unfold CT;rw[zAL,zMN,zBx a,zAL,zBx a];rfl
variable{s:U}
def dS(l:s<64)(m:E):(bits .andNot .i64 (IntKind.i64.wrap<|1*2^s) m==0)=tb m s:=by
 rw[zMq,zB1,Ok<|HK _ _ _];constructor
 ·intro h;have:=h s l;rw[NI,JH l,zAA rfl,zOA]at this;simpa using this
 ·intro h i hi;rw[NI,JH l]
  by_cases e:s=i
  ·subst e;rw[h];simp
  ·rw[zAF e];rfl
def dT(l:s<64)(m:E):(bits .and .i64 (IntKind.i64.wrap<|1*2^s) m != 0)=tb m s:=by
 have:=Vi l m;rw[bne,this,Bool.not_not]
def zJC:∀s:U,s<16->Ou (IntKind.i64.wrap<|1*2^s)=T:=by decide+kernel
def zJB:∀s:U,s<16->By (IntKind.i64.wrap<|1*2^s)= [(s:E)]:=by decide+kernel
def wm{k:U}(hk:k<=16)(hs:s<k):Sm k<|IntKind.i64.wrap<|1*2^s:=
 Wg Z2 (TK _) λi hi _=>by rw[JH Z2,zAF Z2]
section
variable{q:AA}{i:E}{g:Ξ}{c:AE}
def Gd.pos(G:Gd q g)(o:CR q=T):posOk q (Ax g)=T:=by
 have hk:=(Dy o).2.1;refine(MK o).2 ⟨by rw[Fh];exact G.len,λj a=>?_⟩;rw[Fh]at a;have:=G.sym j a;rw[Tp a];exact wm Z2 Z2
def Gd.lt(G:Gd q g)(o:CR q=T){j:U}(a:j<F g):(M g j 0).toNat<q.sy.toNat/\(M g j 0).toNat<16:=by
 have hk:=(Dy o).2.1;have:=G.sym j a;omega
def To(G:Gd q g)(o:CR q=T){j:U}(a:j<F g)(s:U):tb (M (Ax g) j 0) s=H ((M g j 0).toNat=s):=by
 rw[Tp a,JH (by have:=G.lt o a;omega)]
structure Sv(q:AA)(c:AE)(g:Ξ):Prop where
 v:CR q=T
 G:Gd q g
 cell:∀a,a<F c.ce->0<=M c.ce a 0/\M c.ce a 0<(F g:E)
variable{a:U}
def Sv.lt(S:Sv q c g)(P:a<F c.ce):AP c g a<q.sy.toNat/\AP c g a<16:=S.G.lt S.v (by have:=S.cell a P;omega)
def Sv.set(S:Sv q c g)(P:a<F c.ce):Ag c (Ax g) a=IntKind.i64.wrap (1*2^AP c g a):=Tp (by have:=S.cell a P;omega)
theorem Sv.tb(S:Sv q c g)(P:a<F c.ce)(s:U):tb (Ag c (Ax g) a) s=H (AP c g a=s):=by
 rw[S.set P,JH (by have:=S.lt P;omega)]
def Bx.sv(ϛ:Bx q i<|Ax g)(G:Gd q g):Sv q (con q i) g:=⟨ϛ.valid,G,λa P=>by have:=ϛ.work.ce a P;rw[Fh]at this;exact this⟩
def Sv.nz(S:Sv q c g):∀j,j<F (Ax g)->M (Ax g) j 0≠0:=λj a=>by
 rw[Fh]at a;refine(GV<|by rw[Tp a];exact TK _).2 ⟨(M g j 0).toNat,by have:=S.G.lt S.v a;omega,?_⟩;rw[To S.G S.v a,zAA rfl]
def zE9(S:Sv q c g)(k:DG q c<|Ax g)(h:∀a,a<F c.ce->¬B1 q c (Ax g) a (AP c g a)):GT q c (Ax g)/\PR q c (Ax g) (Ax g):=by
 have Q:∀j s,j<F (Ax g)->Proofs.YtnkpdcmbppkkpaaGreatDoor.tb (M (Ax g) j 0) s=T->¬LC q c (Ax g) j s:=by
  rintro j s b l ⟨a,P,rfl,m⟩;rw[Fh]at b;rw[To S.G S.v b,zB0]at l;subst l;exact h a P m
 have f:GT q c<|Ax g:=⟨S.nz,k,λj b=>by
  have e:=b;rw[Fh]at e;have i:Proofs.YtnkpdcmbppkkpaaGreatDoor.tb (M (Ax g) j 0) (M g j 0).toNat=T:=by rw[To S.G S.v e,zAA rfl]
  exact⟨(M g j 0).toNat,by have:=S.G.lt S.v e;omega,i,Q j _ b i⟩⟩
 refine⟨f,rfl,λ_ j b=>⟨by rw[Fh]at b;rw[Tp b];exact TK _,λs=>⟨λl=>⟨l,Q j s b l⟩,λl=>l.1⟩⟩,λn=>τ f n⟩
def zE0(S:Sv q c g)(h:GT q c<|Ax g):DG q c (Ax g)/\∀a,a<F c.ce->¬B1 q c (Ax g) a (AP c g a):=by
 refine⟨h.ok,λa P m=>?_⟩;have hc:=S.cell a P;obtain⟨s,_,b,e⟩:=h.left (M c.ce a 0).toNat (by rw[Fh];omega);rw[To S.G S.v Z2,zB0]at b;subst b;exact e ⟨a,P,rfl,m⟩
def zE2(S:Sv q c g)(h:B3 q c g↔DG q c (Ax g)/\∀a,a<F c.ce->¬B1 q c (Ax g) a (AP c g a)):(B3 q c g->GT q c (Ax g)/\PR q c (Ax g) (Ax g))/\(¬B3 q c g->¬GT q c (Ax g)):=
 ⟨λz=>let⟨b,e⟩:=h.1 z;zE9 S b e,λs f=>s<|h.2<|zE0 S f⟩
def eV{k:E}(hk:c.kind=k){ϗ:Prop}(h:B3 q c g↔ϗ){ϕ ϙ:Prop}(e:DG q c (Ax g)↔ϕ)(N:∀a,a<F c.ce->(B1 q c (Ax g) a (AP c g a)↔¬ϙ))(l:ϗ↔ϕ/\(0<F c.ce->ϙ)):B3 q c g↔DG q c (Ax g)/\∀a,a<F c.ce->¬B1 q c (Ax g) a (AP c g a):=by
 rw[h,e,l];refine and_congr Iff.rfl ⟨λb a P m=>(N a P).1 m<|b Z2,λb h0=>Classical.byContradiction λs=>b 0 h0<|(N 0 h0).2 s⟩
def zE5(S:Sv q c g)(hk:c.kind=1):B3 q c g↔DG q c (Ax g)/\∀a,a<F c.ce->¬B1 q c (Ax g) a (AP c g a):=by
 unfold B3 DG B1;rw[hk];simp only[OK,Sg];simp;constructor
 ·intro h a P b f j _;rw[S.tb f,zMW];exact λv=>j<|h b a f P v
 ·intro h a b P f e;refine Classical.byContradiction λj=>?_
  have:=h b f a P j (by rw[S.set P];exact zJC _ (S.lt P).2);rw[S.tb P,zMW]at this;exact this e
def ug(S:Sv q c g)(P:a<F c.ce):FV c (Ax g) a=Proofs.YtnkpdcmbppkkpaaGreatDoor.tb c.set (AP c g a)/\Gg c (Ax g) a=Proofs.YtnkpdcmbppkkpaaGreatDoor.tb c.set (AP c g a):=by
 have l:AP c g a<64:=by have:=S.lt P;omega
 unfold Gg FV;rw[S.set P,dS l,dT l,Bool.or_self];exact⟨rfl,rfl⟩
def ql{p p':U->ζ}:∀{n:U},(∀a,a<n->p a=p' a)->cnt p n=cnt p' n
 |0,_=>rfl
 |n+1,h=>by rw[QQ,QQ,ql λa ha=>h a Z2,h n Z2]
def kI{p p':U->E}:∀{n:U},(∀a,a<n->p a=p' a)->Cf p n=Cf p' n
 |0,_=>rfl
 |n+1,h=>by simp only[Cf];rw[kI λa ha=>h a Z2,h n Z2]
def zE6(S:Sv q c g)(hk:c.kind=2):B3 q c g↔DG q c (Ax g)/\∀a,a<F c.ce->¬B1 q c (Ax g) a (AP c g a):=by
 have y:cnt (FV c<|Ax g) (F c.ce)=cnt (λa=>Proofs.YtnkpdcmbppkkpaaGreatDoor.tb c.set<|AP c g a) (F c.ce):=ql λa P=>(ug S P).1
 have K:cnt (Gg c<|Ax g) (F c.ce)=cnt (λa=>Proofs.YtnkpdcmbppkkpaaGreatDoor.tb c.set<|AP c g a) (F c.ce):=ql λa P=>(ug S P).2
 unfold B3 DG B1;rw[hk];simp only[OM,Ka,y,K];simp
 have Q:∀a,a<F c.ce->¬((cnt (λa=>Proofs.YtnkpdcmbppkkpaaGreatDoor.tb c.set<|AP c g a) (F c.ce)=c.hi/\¬bits .andNot .i64 (Ag c (Ax g) a) c.set=0)/\Proofs.YtnkpdcmbppkkpaaGreatDoor.tb c.set (AP c g a)=T∨(cnt (λa=>Proofs.YtnkpdcmbppkkpaaGreatDoor.tb c.set<|AP c g a) (F c.ce)=c.lo/\¬bits .and .i64 (Ag c (Ax g) a) c.set=0)/\Proofs.YtnkpdcmbppkkpaaGreatDoor.tb c.set (AP c g a)=D):=by
  intro a P;have l:AP c g a<64:=by have:=S.lt P;omega
  have x:=dS l c.set;have p:=dT l c.set;rw[←S.set P]at x p;rintro(⟨⟨_,b⟩,e⟩|⟨⟨_,b⟩,e⟩)
  ·rw[e,zB1]at x;exact b x
  ·rw[e,bne_eq_false_iff_eq]at p;exact b p
 constructor
 ·rintro⟨b,e⟩;refine⟨⟨e,b⟩,λa P=>?_⟩;have:=Q a P;simpa[not_or]using this
 ·rintro⟨⟨b,e⟩,_⟩;exact⟨e,b⟩
def bs(S:Sv q c g)(ο:Ep q q.sy.toNat)(P:a<F c.ce):Fw q (Ag c (Ax g) a)=M q.va (AP c g a) 0/\GB q (Ag c (Ax g) a)=M q.va (AP c g a) 0:=by
 have hv:=ο.val _ (S.lt P).1;unfold Fw GB;rw[S.set P,zJB _ (S.lt P).2];simp only[zOB,List.foldl_nil,LA,LO,u8];constructor
 ·rw[zAB Z2]
 ·rw[zAB Z2]
def zEw(S:Sv q c g)(ο:Ep q q.sy.toNat)(hk:c.kind=3):B3 q c g↔DG q c (Ax g)/\∀a,a<F c.ce->¬B1 q c (Ax g) a (AP c g a):=by
 have y:Md q c (Ax g)=Cf (λa=>M q.va (AP c g a) 0) (F c.ce):=kI λa P=>(bs S ο P).1
 have K:Mr q c (Ax g)=Cf (λa=>M q.va (AP c g a) 0) (F c.ce):=kI λa P=>(bs S ο P).2
 unfold B3 DG B1;rw[hk];simp only[NL,J2,y,K]
 generalize Cf (λa=>M q.va (AP c g a) 0) (F c.ce)=t
 simp;constructor
 ·rintro⟨b,e⟩;refine⟨⟨e,b⟩,λa P=>?_⟩;rw[(bs S ο P).1,(bs S ο P).2,zAL];omega
 ·rintro⟨⟨b,e⟩,_⟩;exact⟨e,b⟩
def zEy(S:Sv q c g)(W:CZ c q.sy.toNat<|Ax g)(ο:Ep q q.sy.toNat)(hk:c.kind=4):B3 q c g↔DG q c (Ax g)/\∀a,a<F c.ce->¬B1 q c (Ax g) a (AP c g a):=by
 have key:∀a,a<F c.ce->(JP q c (Ax g) a (AP c g a)=D↔HN q 0 (F c.ce) (AP c g)):=λa P=>by
  rw[zHo W ο P<|by rw[S.tb P,zAA rfl]];constructor
  ·rintro⟨f,j,k,_⟩ b l R
   have y:∀b,b<F c.ce->f b=AP c g b:=λb i=>by
    have:=j b (zMK _) i;rw[S.tb i,zB0]at this;exact this.symm
   have:=k b l R
   rwa[y b Z2,y (b+1) R]at this
  ·intro h;exact⟨AP c g,λb _ i=>by rw[S.tb i,zAA rfl],h,rfl⟩
 have m:B3 q c g↔HN q 0 (F c.ce) (AP c g):=by unfold B3;rw[hk];simp
 have z:DG q c (Ax g)↔True:=by unfold DG;rw[hk];simp
 refine eV hk m z (λa P=>?_) (ϙ:=HN q 0 (F c.ce)<|AP c g) ⟨λh=>⟨trivial,λ_=>h⟩,λh=>?_⟩
 ·rw[←key a P];unfold B1;rw[hk];simp
 ·rcases zO1 (F c.ce)with e|e
  ·intro b _ i;omega
  ·exact h.2 e
def ue(S:Sv q c g){ok:U->U->ζ}(h2:F c.ce=2)(a:U)(ha:a<F c.ce):Hx ok c (Ax g) a (AP c g a)↔¬ok (AP c g 0) (AP c g 1)=T:=by
 unfold Hx;have t0:∀t,Proofs.YtnkpdcmbppkkpaaGreatDoor.tb (Ag c (Ax g) 0) t=T↔AP c g 0=t:=λt=>by rw[S.tb Z2,zB0]
 have G:∀t,Proofs.YtnkpdcmbppkkpaaGreatDoor.tb (Ag c (Ax g) 1) t=T↔AP c g 1=t:=λt=>by rw[S.tb Z2,zB0]
 split
 ·rename_i e;subst e;simp only[G];exact not_congr ⟨λ⟨t,e,h⟩=>by rw[e];exact h,λh=>⟨_,rfl,h⟩⟩
 ·have:a=1:=Z2
  subst this;simp only[t0];exact not_congr ⟨λ⟨t,e,h⟩=>by rw[e];exact h,λh=>⟨_,rfl,h⟩⟩
def zE8(S:Sv q c g)(b:F c.ce=2)(hk:c.kind=6):B3 q c g↔DG q c (Ax g)/\∀a,a<F c.ce->¬B1 q c (Ax g) a (AP c g a):=by
 refine eV (ϗ:=IQ q c (AP c g 0) (AP c g 1)=T) (ϕ:=True) (ϙ:=IQ q c (AP c g 0) (AP c g 1)=T) hk ?_ ?_ (λa P=>?_) ⟨λh=>⟨trivial,λ_=>h⟩,λh=>h.2 Z2⟩
 ·unfold B3;rw[hk];simp
 ·unfold DG;rw[hk];simp
 ·rw[←ue S b a P];unfold B1;rw[hk];simp
def zEz(S:Sv q c g)(b:F c.ce=2)(hk:c.kind=7):B3 q c g↔DG q c (Ax g)/\∀a,a<F c.ce->¬B1 q c (Ax g) a (AP c g a):=by
 refine eV (ϗ:=Hy c (AP c g 0) (AP c g 1)=T) (ϕ:=True) (ϙ:=Hy c (AP c g 0) (AP c g 1)=T) hk ?_ ?_ (λa P=>?_) ⟨λh=>⟨trivial,λ_=>h⟩,λh=>h.2 Z2⟩
 ·unfold B3;rw[hk];simp
 ·unfold DG;rw[hk];simp
 ·rw[←ue S b a P];unfold B1;rw[hk];simp
end
end
abbrev zBz:=@List.drop_eq_getElem_cons
abbrev zOO:=@List.drop_eq_nil_of_le
abbrev zOm:=@List.length_eq_zero_iff
abbrev zTN:=@forall_congr'
section
variable{q:AA}{i:E}{g:Ξ}{c:AE}
def Vy(c:AE)(b:U->ζ):U->Δ->Prop
 |0,t=>ak c t
 |m+1,s=>∃u,nx c s.1 s.2 (b<|F c.ce-1-m)=Z u/\Vy c b m u
variable{inn:ζ}{a:U}
def uh(S:Sv q c g)(P:a<F c.ce):kd c (Ax g) a inn=T↔inn=tb c.set (AP c g a):=by
 have l:AP c g a<64:=by have:=S.lt P;omega
 unfold kd;rw[S.set P];cases inn
 ·rw[zAJ,bne,dS l];cases tb c.set (AP c g a) <;> simp
 ·rw[zAI,dT l];cases tb c.set (AP c g a) <;> simp
def lS(S:Sv q c g)(P:a<F c.ce):∀(m:U) (s:Δ),m<=F c.ce->(Vz c (Ax g) a inn m s↔Vy c (λa=>tb c.set<|AP c g a) m s/\(F c.ce<=a+m->inn=tb c.set (AP c g a)))
 |0,s,_=>⟨λh=>⟨h,λh=>Z2⟩,λh=>h.1⟩
 |m+1,s,hm=>by
  constructor
  ·rintro⟨b,u,f,i,k,R⟩;obtain rfl:=(uh S Z2).1 f;obtain⟨X,n⟩:=(lS S P m u Z2).1 R;refine⟨⟨u,k,X⟩,λh=>?_⟩
   by_cases e:F c.ce-1-m=a
   ·rw[←i e,e]
   ·exact n Z2
  ·rintro⟨⟨u,k,X⟩,n⟩;refine⟨tb c.set<|AP c g<|F c.ce-1-m,u,(uh S Z2).2 rfl,λe=>?_,k,(lS S P m u Z2).2 ⟨X,λh=>n Z2⟩⟩;rw[n Z2,e]
def zBt(S:Sv q c g)(P:a<F c.ce):Kc c (Ax g) a inn↔Vy c (λa=>tb c.set<|AP c g a) (F c.ce) (0,0)/\inn=tb c.set (AP c g a):=by
 rw[zR1 P,lS S P _ _<|zAf _];exact⟨λh=>⟨h.1,h.2 Z2⟩,λh=>⟨h.1,λ_=>h.2⟩⟩
def vm{b:U->ζ}{n:U}:∀(m:U) (l:E),0<l->∃x r,rl b n m l=x::r/\l<=x
 |0,l,h=>⟨l,[],by unfold rl;rw[zAB h],zCs _⟩
 |m+1,l,h=>by
  unfold rl;cases b (n-1-m)
  ·rw[zAJ,zAB h];exact⟨l,_,rfl,zCs _⟩
  ·rw[zAI];obtain⟨x,r,a,h2⟩:=vm m (l+1) Z2;exact⟨x,r,a,Z2⟩
variable{Ϛ:U}{l:Ξ}
def zBG :l.drop Ϛ= []↔F l<=Ϛ:=List.drop_eq_nil_iff
def qY(h:Ϛ<F l):l.drop Ϛ=M l Ϛ 0::l.drop (Ϛ+1):=by
 rw[zBz h,zAL,zBx h];rfl
def cN{b:U->ζ}(g:∀x∈c.ru,1<=x):∀(m:U) (Ϛ l:E),OX c Ϛ l->(Vy c b m (Ϛ,l)↔rl b (F c.ce) m l=c.ru.drop Ϛ.toNat)
 |0,Ϛ,l,h=>by
  obtain⟨S,W,l0,k⟩:=h;have pos:∀j,j<F c.ru->1<=M c.ru j 0:=λj i=>g _ (by rw[zAL,zBx i];exact zOz i)
  show ak c (Ϛ,l)↔_
  unfold ak rl;simp only[zLJ]
  by_cases f:l>0
  ·obtain⟨o1,Q⟩:=k f;rw[zAB f,qY Z2];constructor
   ·rintro(⟨_,e⟩|⟨_,y,K⟩)
    ·omega
    ·rw[show Ϛ.toNat=F c.ru-1 by omega,←K,zOO Z2]
   ·intro e;injection e with y K
    have:=zBG.1 K.symm;exact .inr ⟨Z2,Z2,by rw[y,show Ϛ.toNat=F c.ru-1 by omega]⟩
  ·have:l=0:=Z2
   subst this;rw[zAt f,@eq_comm _ ([]:Ξ),zBG];constructor
   ·rintro(⟨e,_⟩|⟨e0,y,K⟩)
    ·omega
    ·have:=pos (F c.ru-1) Z2;omega
   ·intro e;exact .inl ⟨Z2,rfl⟩
 |m+1,Ϛ,l,h=>by
  have h':=h;obtain⟨S,W,l0,k⟩:=h;have pos:∀j,j<F c.ru->1<=M c.ru j 0:=λj i=>g _ (by rw[zAL,zBx i];exact zOz i)
  show(∃u,nx c Ϛ l (b<|F c.ce-1-m)=Z u/\Vy c b m u)↔_
  unfold rl;cases hb:b (F c.ce-1-m)with
  |true=>
   rw[zAI];unfold nx;rw[zAI]
   by_cases e:Ϛ<(F c.ru:E)/\l<M c.ru Ϛ.toNat 0
   ·rw[zAB e,←cN g m Ϛ (l+1) ⟨S,W,Z2,λ_=>⟨e.1,Z2⟩⟩];exact⟨λ⟨u,y,K⟩=>by cases y;exact K,λh=>⟨_,rfl,h⟩⟩
   ·rw[zAt e];refine⟨λ⟨u,y,_⟩=>by(cases y),λa=>?_⟩;obtain⟨x,r,y,K⟩:=vm (b:=b) (n:=F c.ce) m (l+1) Z2;rw[y]at a
    by_cases o:Ϛ.toNat<F c.ru
    ·rw[qY o]at a;injection a with a _
     exact τ ⟨Z2,Z2⟩ e
    ·rw[zOO Z2]at a;cases a
  |false=>
   rw[zAJ];unfold nx;rw[zAJ]
   by_cases f:l>0
   ·obtain⟨o1,Q⟩:=k f;rw[zAt Z2,zAB f,qY Z2]
    by_cases e:l=M c.ru Ϛ.toNat 0
    ·rw[zAB e,←e];have:=cN (b:=b) g m (Ϛ+1) 0 ⟨Z2,Z2,zCs _,λh=>Z2⟩;rw[show(Ϛ+1).toNat=Ϛ.toNat+1 by omega]at this;constructor
     ·rintro⟨u,y,K⟩;cases y;rw[this.1 K]
     ·intro a;injection a with _ a
      exact⟨_,rfl,this.2 a⟩
    ·rw[zAt e];refine⟨λ⟨u,y,_⟩=>by(cases y),λa=>?_⟩;injection a with a _
     exact τ a e
   ·have:l=0:=Z2
    subst this;rw[zAB rfl,zAt f,←cN g m Ϛ 0 h'];exact⟨λ⟨u,y,K⟩=>by cases y;exact K,λh=>⟨_,rfl,h⟩⟩
def zEx(S:Sv q c g)(f:∀x∈c.ru,1<=x)(hk:c.kind=5):B3 q c g↔DG q c (Ax g)/\∀a,a<F c.ce->¬B1 q c (Ax g) a (AP c g a):=by
 have key:=cN (b:=λa=>tb c.set<|AP c g a) f (F c.ce) 0 0 ⟨zCs _,Z2,zCs _,λh=>Z2⟩;refine eV (ϗ:=rl (λa=>tb c.set<|AP c g a) (F c.ce) (F c.ce) 0=c.ru) (ϕ:=MA c=T) (ϙ:=Vy c (λa=>tb c.set<|AP c g a) (F c.ce) (0,0)) hk ?_ ?_ (λa P=>?_) ?_
 ·unfold B3;rw[hk];simp
 ·unfold DG;rw[hk];simp
 ·have e:B1 q c (Ax g) a (AP c g a)↔Ku c (Ax g) a (AP c g a):=by unfold B1;rw[hk];simp
  rw[e];unfold Ku;rw[zBt S P,zBt S P];cases tb c.set (AP c g a) <;> simp
 ·rw[key];unfold MA
  show _↔_/\(_->rl _ _ _ _=c.ru.drop 0)
  rw[zMy];rcases zO1 (F c.ce)with e|e
  ·rw[e]
   show([]:Ξ)=c.ru↔(F c.ru==0)=T/\_
   rw[zB1,zOm];exact⟨λh=>⟨h.symm,λh=>τ h<|Nat.lt_irrefl 0⟩,λh=>h.1.symm⟩
  ·rw[zOF.2 (by omega:F c.ce≠0)];exact⟨λh=>⟨rfl,λ_=>h⟩,λh=>h.2 e⟩
def kw(S:Sv q c g):pB c (Ax g)=CT c g/\cB c (Ax g)=CT c g:=by
 have h:∀s∈g,s.toNat<64:=λs l=>by
  obtain⟨j,a,rfl⟩:=zJw l;have:=S.G.lt S.v a;rw[zAL,zBx a]at this;have:g[j].toNat<16:=this.2;omega
 unfold pB cB CT Ax;rw[List.map_map,List.map_map];exact⟨List.map_congr_left λs l=>dT (h s l) _,List.map_congr_left λs l=>dS (h s l) _⟩
def zCZ(W:FN c q<|Ax g)(P:a<F g):AP c g a=(M g a 0).toNat:=by
 unfold AP;rw[W.id a (by rw[Fh];exact P),u8]
def zAx(S:Sv q c g)(W:FN c q<|Ax g):(∀a,a<F c.ce->¬Fm c q (Ax g) a (AP c g a))↔Hs q.nb (CT c g):=by
 obtain⟨k,R⟩:=kw S;have m:=W.len;have G:=W.gl;have n:=W.g.gr;rw[Fh]at m G;unfold Fm;rw[k,R];constructor
 ·intro h u v t o f p;obtain⟨r,_,i⟩:=YP (l:=CT c g) (by rw[Nl];have:=W.l1;rw[Fh]at this;exact this);have x:=i;rcases i with⟨_,h0⟩|⟨h0,b,y,_⟩
  ·have:=h0 u (by rw[Nl];omega);rw[f]at this;cases this
  ·rw[Nl]at b;have z:∀w:U,w<F q.nb->M (CT c g) w D=T->Rc q.nb (CT c g) r w:=λw hw j=>Classical.byContradiction λs=>h w Z2 ⟨j,by rw[zCZ W Z2,←eQ Z2];exact j,r,h0,x,s⟩
   exact((z u t f).symm n h0 Z2 y).trans<|z v o p
 ·rintro h a ha ⟨b,_,r,h0,i,s⟩;rcases i with⟨e,_⟩|⟨_,I,J,_⟩
  ·omega
  ·rw[Nl]at I;have:=h r.toNat a Z2 Z2 J b;rw[show((r.toNat:U):E)=r by omega]at this;exact s this
def zE7(S:Sv q c g)(W:FN c q<|Ax g)(hk:c.kind=8):B3 q c g↔DG q c (Ax g)/\∀a,a<F c.ce->¬B1 q c (Ax g) a (AP c g a):=by
 obtain⟨i,R⟩:=kw S;have l:B3 q c g↔Hs q.nb (CT c g):=by unfold B3;rw[hk];simp
 have z:DG q c<|Ax g:=by unfold DG;rw[hk];simp
 rw[l,←zAx S W,and_iff_right z];refine zTN λa=>zTN λha=>not_congr ?_
 have e:B1 q c (Ax g) a (AP c g a)↔HI c q (Ax g) a (AP c g a):=by unfold B1;rw[hk];simp
 rw[e];unfold HI;refine⟨.inl,λh=>h.elim id λ⟨b,f,_⟩=>?_⟩;rw[i]at b;rw[R,b]at f;cases f
def zE1(S:Sv q c g)(W:FN c q<|Ax g)(hk:c.kind=9):B3 q c g↔DG q c (Ax g)/\∀a,a<F c.ce->¬B1 q c (Ax g) a (AP c g a):=by
 obtain⟨i,R⟩:=kw S;have m:=W.len;rw[Fh]at m;have l:B3 q c g↔Hs q.nb (CT c g)/\∀v,v<F g->M (CT c g) v D=T->Cj q.nb (CT c g) v=2:=by unfold B3;rw[hk];simp
 have z:DG q c (Ax g)↔∀v,v<F g->M (CT c g) v D=T->Cj q.nb (CT c g) v=2:=by
  have:DG q c (Ax g)↔Pd c q (Ax g):=by unfold DG;rw[hk];simp
  rw[this];unfold Pd;rw[i,R,Fh];refine zTN λv=>zTN λ_=>zTN λ_=>Z2
 rw[l,z,←zAx S W,and_comm];refine and_congr Iff.rfl<|zTN λa=>zTN λha=>not_congr ?_;have e:B1 q c (Ax g) a (AP c g a)↔No c q (Ax g) a (AP c g a):=by unfold B1;rw[hk];simp
 rw[e];unfold No eO;refine⟨.inl,λh=>h.elim id ?_⟩;rintro⟨v,_,_,_,b,⟨_,f⟩|⟨_,f,_⟩⟩
 ·rw[i,eQ Z2,←zCZ W Z2,f]at b;cases b
 ·rw[i]at b;rw[R,b]at f;cases f
def yB(ϛ:Bx q i<|Ax g)(G:Gd q g):(B3 q (con q i) g->GT q (con q i) (Ax g)/\PR q (con q i) (Ax g) (Ax g))/\(¬B3 q (con q i) g->¬GT q (con q i) (Ax g)):=by
 have S:=ϛ.sv G;have r:BM (Ax g)=D:=Fb.2 S.nz;refine zE2 S ?_;rcases Ph (Pg ϛ.kind)with hk|hk|hk|hk|hk|hk|hk|hk|hk
 ·exact zE5 S hk
 ·exact zE6 S hk
 ·exact zEw S ϛ.vals hk
 ·exact zEy S ϛ.work ϛ.vals hk
 ·refine zEx S (λx e=>?_) hk;have h:=ϛ.fine;unfold FY at h;simp only[zAK,zB0]at h;exact(WB.1 h.2 x e).1
 ·exact zE8 S (ϛ.two<|.inl hk) hk
 ·exact zEz S (ϛ.two<|.inr hk) hk
 ·exact zE7 S (ϛ.all (.inl hk) r) hk
 ·exact zE1 S (ϛ.all (.inr hk) r) hk
end
section
variable{q:AA}{i:E}{g:Ξ}
def zKh(k:E):Mc k<=4:=by
 unfold Mc;split
 ·decide
 ·split
  ·decide
  ·split <;> decide
def Gd.ctx(G:Gd q g)(k:DT q)(o:CR q=T)(h0:0<=i)(a:i<(F q.cons:E)):Bx q i<|Ax g:=⟨k,o,h0,a,G.pos o⟩
def Js(q:AA)(g:Ξ):Prop:=∀i,0<=i->i<(F q.cons:E)->B3 q (con q i) g
def MP(q:AA)(g:Ξ):Prop:=Gd q g/\Js q g
end
section
variable{q:AA}{g:Ξ}{c:AE}
def Sv.gi(S:Sv q c g){a:U}(P:a<F c.ce):M g (M c.ce a 0).toNat 0=((AP c g a:U):E):=by
 have h:=S.cell a P;have:=S.G.sym (M c.ce a 0).toNat Z2;unfold AP;omega
def ca{b:U->ζ}{N:U}:∀(m:U) (l:E),F (rl b N m l)<=m+1
 |0,l=>by unfold rl;split <;> simp
 |m+1,l=>by
  unfold rl;cases b (N-1-m)
  ·rw[zAJ];have:=ca (b:=b) (N:=N) m 0;split
   ·simp;omega
   ·omega
  ·rw[zAI];have:=ca (b:=b) (N:=N) m<|l+1;omega
end
section
set_option maxRecDepth 100000
set_option maxHeartbeats 40000000
def zGj:Ar (Am Tryz.f69 7) [] (θ 15) []:=Z0
def Tu:BZ:=λi=>match i with
 |7=>.ord [] (θ 15) []
 |_=>.no
inductive Zr where
 |l1 (x5:E)
 |l2 (x5 x6:E)
def Zq(n:U)(self:Zr->A ζ)(AD cells:Ξ)(l:E):A ζ:=L (H<|l<(F cells:E)) (self<|.l2 l 0)<|Z T
def Zo(n:U)(self:Zr->A ζ)(v cells:Ξ)(l x6:E):A ζ:=L (H<|x6<l) (C ((0<=l/\l<(F cells:E))/\(0<=M cells l.toNat 0/\M cells l.toNat 0<(F v:E))/\(0<=x6/\x6<(F cells:E))/\(0<=M cells x6.toNat 0/\M cells x6.toNat 0<(F v:E))) (L (M v (M cells l.toNat 0).toNat 0==M v (M cells x6.toNat 0).toNat 0) (Z D)<|C (AI<|x6+1) (self<|.l2 l<|x6+1) V) V)<|C (AI<|l+1) (self<|.l1<|l+1) V
def zQi(n:U)(self:Zr->A ζ)(AD cells:Ξ):A ζ:=self<|.l1 0
def Id(v cells:Ξ):U->Zr->A ζ
 |0,_=>V
 |n+1,.l1 l=>Zq n (Id v cells n) v cells l
 |n+1,.l2 l x6=>Zo n (Id v cells n) v cells l x6
def iY(n:U)(v cells:Ξ):A ζ:=zQi n (Id v cells n) v cells
def zQk(n ϙ:U)(N:Yd 0)(v cells:Ξ)(r:ζ):Zr->Prop:=px n ϙ η N (FQ Tryz.f69 0 (.bool r) []) (AZ Tryz.f69) λ
 | .l1 l=>(0,0,AF 33 [(0,.ints v),(1,.ints cells),(5,.i l)],[])
 | .l2 l x6=>(1,2,AF 33 [(0,.ints v),(1,.ints cells),(5,.i l),(6,.i x6)],[])
def zQl(ϙ:U)(N:Yd 0)(v cells:Ξ):Al (Id v cells) (zQk · ϙ N v cells):=ia (λ_=>rfl) λn I G r h=>by
 cases G
 case l1 x5=>
  intro q a;refine rd a λq a=>?_
  revert r;apply gO;exact bi 10 (lN Tu [] (I _ _ · q n a χ))<|lE Tu [4] []
 case l2 x5 x6=>
  intro q S a c;have a:=zBE a;refine rd c λS c=>?_
  revert r;apply gO;exact bi 15 (jg zGj (gc (gi (gc (gi (gc (gi (gi (bi 32 (lE Tu [4] []) (gw 17 (lG Tu [] (I _ _ · q S a c)))))))))))) (gw 12 (lG Tu [] (I _ _ · q a)))
variable{r:ζ}{v cells:Ξ}{n:U}
def zQh(h:iY n v cells=Z r):EQ 69 [.ints v,.ints cells] [] (.bool r) [] T:=by
 refine ot Tryz.func69 λϙ N=>?_
 revert r;apply gO;exact lN Tu [] ((zQl ϙ N v cells n) _ _ · n χ)
inductive im where
 |l1 (x7 x8:E)
def aC(n:U)(self:im->A E)(v cells:Ξ)(y:E)(p x8:E):A E:=L (H<|x8<(F cells:E)) (C ((0<=x8/\x8<(F cells:E))/\(0<=M cells x8.toNat 0/\M cells x8.toNat 0<(F v:E))) ((JS n y<|M v (M cells x8.toNat 0).toNat 0).bind λf=>L f (C (AI (p+1)/\AI (x8+1)) (self<|.l1 (p+1)<|x8+1) V)<|C (AI<|x8+1) (self<|.l1 p<|x8+1) V) V)<|Z p
def zQ7(n:U)(self:im->A E)(AD cells:Ξ)(AV:E):A E:=self<|.l1 0 0
def VZ(v cells:Ξ)(y:E):U->im->A E
 |0,_=>V
 |n+1,.l1 p x8=>aC n (VZ v cells y n) v cells y p x8
def io(n:U)(v cells:Ξ)(y:E):A E:=zQ7 n (VZ v cells y n) v cells y
def zQ9(n ϙ:U)(N:Yd 0)(v cells:Ξ)(y:E)(r:E):im->Prop:=px n ϙ η N (FQ Tryz.f70 0 (.i r) []) (AZ Tryz.f70) λ
 | .l1 p x8=>(0,0,AF 27 [(0,.ints v),(1,.ints cells),(2,.i y),(7,.i p),(8,.i x8)],[])
def zRA(ϙ:U)(N:Yd 0)(v cells:Ξ)(y:E):Al (VZ v cells y) (zQ9 · ϙ N v cells y):=ia (λ_=>rfl) λn I G r h=>by
 cases G
 case l1 x7 x8=>
  intro q a;refine rd a λq a=>?_
  revert r;apply gO;exact bi 12 (gc (gi (gi (cf MF [] λ_=>bi 23 (gc (gw 25 (gw 14 (lG AC [] (I _ _ · q a))))) (gw 14 (lG AC [] (I _ _ · q a)))))))<|lE AC [6] []
variable{y:E}
def zQ6{r:E}(h:io n v cells y=Z r):EQ 70 [.ints v,.ints cells,.i y] [] (.i r) [] T:=by
 refine ot Tryz.func70 λϙ N=>?_
 revert r;apply gO;exact lN AC [] ((zRA ϙ N v cells y n) _ _ · n χ)
inductive bW where
 |l1 (x7 x8:E)
def WP(n:U)(self:bW->A E)(X v cells:Ξ)(p x8:E):A E:=L (H<|x8<(F cells:E)) (C ((0<=x8/\x8<(F cells:E))/\(0<=M cells x8.toNat 0/\M cells x8.toNat 0<(F v:E))/\(0<=M v (M cells x8.toNat 0).toNat 0/\M v (M cells x8.toNat 0).toNat 0<(F X:E))/\AI (p+M X (M v (M cells x8.toNat 0).toNat 0).toNat 0)/\AI (x8+1)) (self<|.l1 (p+M X (M v (M cells x8.toNat 0).toNat 0).toNat 0)<|x8+1) V)<|Z p
def zEE(n:U)(self:bW->A E)(BH AD cells:Ξ):A E:=self<|.l1 0 0
def Te(X v cells:Ξ):U->bW->A E
 |0,_=>V
 |n+1,.l1 p x8=>WP n (Te X v cells n) X v cells p x8
def bX(n:U)(X v cells:Ξ):A E:=zEE n (Te X v cells n) X v cells
def zEG(n ϙ:U)(N:Yd 0)(X v cells:Ξ)(r:E):bW->Prop:=px n ϙ η N (FQ Tryz.f71 0 (.i r) []) (AZ Tryz.f71) λ
 | .l1 p x8=>(0,0,AF 28 [(0,.ints X),(1,.ints v),(2,.ints cells),(7,.i p),(8,.i x8)],[])
def zEH(ϙ:U)(N:Yd 0)(X v cells:Ξ):Al (Te X v cells) (zEG · ϙ N X v cells):=ia (λ_=>rfl) λn I G r h=>by
 cases G
 case l1 x7 x8=>
  intro q a;refine rd a λq a=>?_
  revert r;apply gO;exact bi 12 (gc (gi (gc (gi (gc (gi (gc (gw 26 (gw 14 (lG AC [] (I _ _ · q a)))))))))))<|lE AC [6] []
variable{X:Ξ}
def zED{r:E}(h:bX n X v cells=Z r):EQ 71 [.ints X,.ints v,.ints cells] [] (.i r) [] T:=by
 refine ot Tryz.func71 λϙ N=>?_
 revert r;apply gO;exact lN AC [] ((zEH ϙ N X v cells n) _ _ · n χ)
def zF0:Ar (Am Tryz.f72 4) [] (θ 22) []:=Z0
def cF:BZ:=λi=>match i with
 |4=>.ord [] (θ 22) []
 |_=>.no
inductive cv where
 |l1 (x7:E)
def XL(n:U)(self:cv->A ζ)(X v cells:Ξ)(p:E):A ζ:=L (H<|p<(F cells:E)) (C (AI (p-1)/\(0<=(p-1)/\(p-1)<(F cells:E))/\(0<=M cells (p-1).toNat 0/\M cells (p-1).toNat 0<(F v:E))/\(0<=M v (M cells (p-1).toNat 0).toNat 0/\M v (M cells (p-1).toNat 0).toNat 0<(F X:E))/\(0<=p/\p<(F cells:E))/\(0<=M cells p.toNat 0/\M cells p.toNat 0<(F v:E))/\(0<=M v (M cells p.toNat 0).toNat 0/\M v (M cells p.toNat 0).toNat 0<(F X:E))) (L (H<|M X (M v (M cells (p-1).toNat 0).toNat 0).toNat 0>=M X (M v (M cells p.toNat 0).toNat 0).toNat 0) (Z D)<|C (AI<|p+1) (self<|.l1<|p+1) V) V)<|Z T
def zH2(n:U)(self:cv->A ζ)(BH AD cells:Ξ):A ζ:=self<|.l1 1
def PB(X v cells:Ξ):U->cv->A ζ
 |0,_=>V
 |n+1,.l1 p=>XL n (PB X v cells n) X v cells p
def cw(n:U)(X v cells:Ξ):A ζ:=zH2 n (PB X v cells n) X v cells
def zH4(n ϙ:U)(N:Yd 0)(X v cells:Ξ)(r:ζ):cv->Prop:=px n ϙ η N (FQ Tryz.f72 0 (.bool r) []) (AZ Tryz.f72) λ
 | .l1 p=>(0,0,AF 36 [(0,.ints X),(1,.ints v),(2,.ints cells),(7,.i p)],[])
def zH5(ϙ:U)(N:Yd 0)(X v cells:Ξ):Al (PB X v cells) (zH4 · ϙ N X v cells):=ia (λ_=>rfl) λn I G r h=>by
 cases G
 case l1 x7=>
  intro q a;refine rd a λq a=>?_
  revert r;apply gO;exact bi 11 (jg zF0 (gc (gw 18 (gc (gi (gc (gi (gc (gi (gc (gi (gc (gi (gi (bi 35 (lE cF [6] []) (gw 13 (lG cF [] (I _ _ · q a))))))))))))))))))<|lE cF [6] []
def zH1(h:cw n X v cells=Z r):EQ 72 [.ints X,.ints v,.ints cells] [] (.bool r) [] T:=by
 refine ot Tryz.func72 λϙ N=>?_
 revert r;apply gO;exact lN cF [] ((zH5 ϙ N X v cells n) _ _ · n χ)
def zFn:Ar (Am Tryz.f26 6) [] (θ 9) []:=Z0
def Wm:BZ:=λi=>match i with
 |6=>.ord [] (θ 9) []
 |_=>.no
inductive cM where
 |l1 (x5:E)
def Ws(n:U)(self:cM->A ζ)(a P:Ξ)(l:E):A ζ:=L (H<|l<(F a:E)) (C ((0<=l/\l<(F a:E))/\(0<=l/\l<(F P:E))) (L (M a l.toNat 0 != M P l.toNat 0) (Z D)<|C (AI<|l+1) (self<|.l1<|l+1) V) V)<|Z T
def vA(n:U)(self:cM->A ζ)(a P:Ξ):A ζ:=L ((F a:E) != (F P:E)) (Z D)<|self<|.l1 0
def Tx(a P:Ξ):U->cM->A ζ
 |0,_=>V
 |n+1,.l1 l=>Ws n (Tx a P n) a P l
def Ty(n:U)(a P:Ξ):A ζ:=vA n (Tx a P n) a P
def zFa(n ϙ:U)(N:Yd 0)(a P:Ξ)(r:ζ):cM->Prop:=px n ϙ η N (FQ Tryz.f26 0 (.bool r) []) (AZ Tryz.f26) λ
 | .l1 l=>(0,0,AF 26 [(0,.ints a),(1,.ints P),(5,.i l)],[])
def zFb(ϙ:U)(N:Yd 0)(a P:Ξ):Al (Tx a P) (zFa · ϙ N a P):=ia (λ_=>rfl) λn I G r h=>by
 cases G
 case l1 x5=>
  intro q b;refine rd b λq b=>?_
  revert r;apply gO;exact bi 14 (jg zFn (gc (gi (gi (bi 25 (lE Wm [4] []) (gw 16 (lG Wm [] (I _ _ · q b))))))))<|lE Wm [4] []
def zFZ{a P:Ξ}(h:Ty n a P=Z r):EQ 26 [.ints a,.ints P] [] (.bool r) [] T:=by
 refine ot Tryz.func26 λϙ N=>?_
 revert r;apply gO;exact bi 10 (lE Wm [4] []) (lN Wm [] ((zFb ϙ N a P n) _ _ · n χ))
inductive Ww where
 |l1 (x8 x9:E)
 |l2 (x7:U) (x8 x9:E) (o0:Ξ)
def Wv(n:U)(self:Ww->A Ξ)(a cells:Ξ)(y:E)(x8 v:E):A Ξ:=L (H<|v<(F cells:E)) (C ((0<=v/\v<(F cells:E))/\(0<=M cells v.toNat 0/\M cells v.toNat 0<(F a:E))) ((JS n y<|M a (M cells v.toNat 0).toNat 0).bind λf=>L f (C (AI (x8+1)/\AI (v+1)) (self<|.l1 (x8+1)<|v+1) V)<|L (H<|x8>0) (C (((0=0/\1=F ([x8]:Ξ))/\0<F ([x8]:Ξ)/\F ([x8]:Ξ)<=Av)/\AI (v+1)) (self<|.l2 (F ([x8]:Ξ)) 0 (v+1) ([x8]:Ξ)) V)<|C (AI<|v+1) (self<|.l1 0<|v+1) V) V)<|L (H<|x8>0) (C ((0=0/\1=F ([x8]:Ξ))/\0<F ([x8]:Ξ)/\F ([x8]:Ξ)<=Av) (Z ([x8]:Ξ)) V)<|Z ([]:Ξ)
def Wu(n:U)(self:Ww->A Ξ)(a cells:Ξ)(y:E)(p:U)(x8 v:E)(o0:Ξ):A Ξ:=L (H<|v<(F cells:E)) (C ((0<=v/\v<(F cells:E))/\(0<=M cells v.toNat 0/\M cells v.toNat 0<(F a:E))) ((JS n y<|M a (M cells v.toNat 0).toNat 0).bind λf=>L f (C (AI (x8+1)/\AI (v+1)) (self<|.l2 p (x8+1) (v+1) o0) V)<|L (H<|x8>0) (C (((0=0/\1=F ([x8]:Ξ))/\(0=0/\p=F o0)/\F o0+F ([x8]:Ξ)<=Av)/\AI (v+1)) (self<|.l2 (F o0+F ([x8]:Ξ)) 0 (v+1)<|o0++([x8]:Ξ)) V)<|C (AI<|v+1) (self<|.l2 p 0 (v+1) o0) V) V)<|L (H<|x8>0) (C ((0=0/\1=F ([x8]:Ξ))/\(0=0/\p=F o0)/\F o0+F ([x8]:Ξ)<=Av) (C (F o0+F ([x8]:Ξ)=F (o0++([x8]:Ξ))) (Z<|o0++([x8]:Ξ)) V) V)<|C (p=F o0) (Z o0) V
def zHD(n:U)(self:Ww->A Ξ)(AD cells:Ξ)(AV:E):A Ξ:=self<|.l1 0 0
def Gx(v cells:Ξ)(y:E):U->Ww->A Ξ
 |0,_=>V
 |n+1,.l1 x8 a=>Wv n (Gx v cells y n) v cells y x8 a
 |n+1,.l2 p x8 a o0=>Wu n (Gx v cells y n) v cells y p x8 a o0
def cU(n:U)(v cells:Ξ)(y:E):A Ξ:=zHD n (Gx v cells y n) v cells y
def zHG(n ϙ:U)(N:Yd 0)(a cells:Ξ)(y:E)(r:Ξ):Ww->Prop:=px n ϙ η N (FQ Tryz.f73 0 (.ints r) []) (AZ Tryz.f73) λ
 | .l1 x8 v=>(0,0,AF 40 [(0,.ints a),(1,.ints cells),(2,.i y),(7,.nils),(8,.i x8),(9,.i v)],[])
 | .l2 p x8 v o0=>(0,0,AF 40 [(0,.ints a),(1,.ints cells),(2,.i y),(7,.msl 0 1 0 p),(8,.i x8),(9,.i v)],[oI o0])
def zHH(ϙ:U)(N:Yd 0)(v cells:Ξ)(y:E):Al (Gx v cells y) (zHG · ϙ N v cells y):=ia (λ_=>rfl) λn I G r h=>by
 cases G
 case l1 x8 x9=>
  intro q a;refine rd a λq a=>?_
  revert r;apply gO;exact bi 13 (gc (gi (gi (cf MF [] λ_=>bi 24 (gc (gw 26 (gw 15 (lG AC [] (I _ _ · q a))))) (bi 28 (gc (gi (gw 15 (lG AC [1] (I _ _ · q a))))) (gw 15 (lG AC [] (I _ _ · q a))))))))<|bi 34 (gi<|lF λp=>ez AC [6] [1] p [0]<|H0.g<|φ<|F ([x8]:Ξ))<|lF λp=>el AC [6] [] p [] H0 [.nils] AO.ints_nil
 case l2 x7 x8 x9 o0=>
  intro q a;refine rd a λq a=>?_
  revert r;apply gO;exact bi 13 (gc (gi (gi (cf MF [oI o0] λ_=>bi 24 (gc (gw 26 (gw 15 (lG AC [0] (I _ _ · q a))))) (bi 28 (gc (gi (gw 15 (lG AC [2] (I _ _ · q a))))) (gw 15 (lG AC [0] (I _ _ · q a))))))))<|bi 34 (gi<|gn λb=>lF λp=>ez AC [6] [2] p [0]<|H0.g b)<|gn λx=>lF λp=>ez AC [6] [0] p [0]<|H0.g x
def zHC{r:Ξ}(h:cU n v cells y=Z r):EQ 73 [.ints v,.ints cells,.i y] [] (.ints r) [] T:=by
 refine ot Tryz.func73 λϙ N=>?_
 revert r;apply gO;exact lN AC [] ((zHH ϙ N v cells y n) _ _ · n χ)
inductive Va where
 |l1 (x7:E)
 |l2 (x6:U) (x7:E) (o0:O Ξ)
def OO(n:U)(self:Va->X3)(J:O Ξ)(e:Ω)(p:E):X3:=L (H<|p<(F J:E)) (C (0<=p/\p<(F e:E)) (L (!(M e p.toNat D)) (C (AI<|p+1) (self<|.l1<|p+1) V)<|(ME n J e p).bind λf=>(PI n f).bind λG=>C ((0:E)<=0/\0<(F G:E)) (L (M G 0 0==p) (C (AI<|p+1) (self<|.l2 (F ([G]:O Ξ)) (p+1) ([G]:O Ξ)) V)<|C (AI<|p+1) (self<|.l1<|p+1) V) V) V)<|Z (([]:O Ξ),0)
def ON(n:U)(self:Va->X3)(J:O Ξ)(e:Ω)(x6:U)(p:E)(o0:O Ξ):X3:=L (H<|p<(F J:E)) (C (0<=p/\p<(F e:E)) (L (!(M e p.toNat D)) (C (AI<|p+1) (self<|.l2 x6 (p+1) o0) V)<|(ME n J e p).bind λf=>(PI n f).bind λG=>C ((0:E)<=0/\0<(F G:E)) (L (M G 0 0==p) (C (x6=F o0/\F o0+F ([G]:O Ξ)<=Av/\AI (p+1)) (self<|.l2 (F o0+F ([G]:O Ξ)) (p+1)<|o0++([G]:O Ξ)) V)<|C (AI<|p+1) (self<|.l2 x6 (p+1) o0) V) V) V)<|C (x6=F o0) (Z (o0,0)) V
def zRS(n:U)(self:Va->X3)(J:O Ξ)(e:Ω):X3:=(PH n J).bind λf=>L (f != 0) (Z (([]:O Ξ),120))<|L ((F e:E) != (F J:E)) (Z (([]:O Ξ),1))<|self<|.l1 0
def H7(J:O Ξ)(e:Ω):U->Va->X3
 |0,_=>V
 |n+1,.l1 p=>OO n (H7 J e n) J e p
 |n+1,.l2 x6 p o0=>ON n (H7 J e n) J e x6 p o0
def iz(n:U)(J:O Ξ)(e:Ω):X3:=zRS n (H7 J e n) J e
def zRT(n ϙ:U)(N:Yd 0)(J:O Ξ)(e:Ω)(r:(O Ξ)×E):Va->Prop:=px n ϙ η N (FQ Tryz.f103 0 (.tup 2<|L1 [.sl 1 (F r.1)<|AM AW r.1,.i r.2]) []) (AZ Tryz.f103) λ
 | .l1 p=>(0,0,AF 43 [(0,.sl 1 (F J)<|AM AW J),(1,.bools e),(6,.nils),(7,.i p)],[])
 | .l2 x6 p o0=>(0,0,AF 43 [(0,.sl 1 (F J)<|AM AW J),(1,.bools e),(6,.msl 0 1 0 x6),(7,.i p)],[Z<|.arr 1 (F o0)<|AM AW o0])
def zRU(ϙ:U)(N:Yd 0)(J:O Ξ)(e:Ω):Al (H7 J e) (zRT · ϙ N J e):=ia (λ_=>rfl) λn I b r h=>by
 cases b
 case l1 x7=>
  intro q a;refine rd a λq a=>?_
  revert r;apply gO;exact bi 20 (gi (bi 27 (gw 22 (lG AC [] (I _ _ · q a))) (cf mC [] λ_=>cf mF [] λG=>gi (bi 37 (ja 40 0 1 (ER (c:=AW) (Ϝ:=([G]:O Ξ)) (vals:=[.ints G]) rfl ⟨⟨_,rfl,⟨At,trivial⟩⟩,trivial⟩) (jg (γ (γ (γ (φ 0)<|φ 1)<|IP AW ([G]:O Ξ) (F ([G]:O Ξ)) 1 λ_=>⟨rfl,rfl⟩)<|γ (by decide:0<1) (by decide:1<=Av)) (gw 22 (lG AC [1] (I _ _ · q a))))) (gw 22 (lG AC [] (I _ _ · q a)))))))<|lF λp=>el AC [4,5] [] p [] H0 [.nils,.i 0]<|AO.tupL (l:=[.nils,.i 0]) (l':=[.sl 1 (F ([]:O Ξ))<|AM AW ([]:O Ξ),.i 0]) rfl ⟨AO.sl_nil _ _,At,trivial⟩
 case l2 x6 x7 o0=>
  intro q a;refine rd a λq a=>?_
  revert r;apply gO;exact bi 20 (gi (bi 27 (gw 22 (lG AC [0] (I _ _ · q a))) (cf mC [Z<|.arr 1 (F o0)<|AM AW o0] λ_=>cf mF [Z<|.arr 1 (F o0)<|AM AW o0] λG=>gi (bi 37 (ja 40 1 1 (ER (c:=AW) (Ϝ:=([G]:O Ξ)) (vals:=[.ints G]) rfl ⟨⟨_,rfl,⟨At,trivial⟩⟩,trivial⟩) (gc (gn λu=>gc (gn λf=>jg (γ (γ (γ (φ 0)<|φ 1)<|IP AW ([G]:O Ξ) (F ([G]:O Ξ)) 1 λ_=>⟨rfl,rfl⟩)<|γ (γ (φ 0) u) f) (ja 41 2 1 (Q8 (enc:=Sb AW) (Ϝ:=o0) (L':=([G]:O Ξ)) rfl rfl λ_ _ _ _=>At) (gw 22 (lG AC [2] (I _ _ · q a)))))))) (gw 22 (lG AC [0] (I _ _ · q a)))))))<|gn λx=>lF λp=>ez AC [4,5] [0] p [0]<|H0.g x
variable{e:Ω}{J:O Ξ}
def zBb{r:(O Ξ)×E}(h:iz n J e=Z r):EQ 103 [.sl 1 (F J)<|AM AW J,.bools e] [] (.tup 2<|L1 [.sl 1 (F r.1)<|AM AW r.1,.i r.2]) [] T:=by
 refine ot Tryz.func103 λϙ N=>?_
 revert r;apply gO;exact cf lz [] λ_=>bi 11 (lF λp=>el AC [4,5] [] p [] H0 [.nils,.i 120]<|AO.tupL (l:=[.nils,.i 120]) (l':=[.sl 1 (F ([]:O Ξ))<|AM AW ([]:O Ξ),.i 120]) rfl ⟨AO.sl_nil _ _,At,trivial⟩) (bi 16 (lF λp=>el AC [4,5] [] p [] H0 [.nils,.i 1]<|AO.tupL (l:=[.nils,.i 1]) (l':=[.sl 1 (F ([]:O Ξ))<|AM AW ([]:O Ξ),.i 1]) rfl ⟨AO.sl_nil _ _,At,trivial⟩) (lN AC [] ((zRU ϙ N J e n) _ _ · n χ)))
inductive XP where
 |l1 (x6:Ξ) (x7:Ω) (x8:E)
 |l2 (x6:Ξ) (x7:Ω) (x8 x9 x10:E)
def XO(n:U)(self:XP->X8)(g_:O Ξ)(AN:Ω)(x6:Ξ)(p:Ω)(x8:E):X8:=L (H<|x8<(F x6:E)) (self<|.l2 x6 p x8 0 0)<|Z (T,0)
def XN(n:U)(self:XP->X8)(J:O Ξ)(e:Ω)(x6:Ξ)(p:Ω)(x8 v x10:E):X8:=C ((0<=x8/\x8<(F x6:E))/\(0<=M x6 x8.toNat 0/\M x6 x8.toNat 0<(F J:E))) (L (H<|x10<((F<|M J (M x6 x8.toNat 0).toNat []:U):E)) (C ((0<=x10/\x10<((F<|M J (M x6 x8.toNat 0).toNat []:U):E))/\((0:E)<=M (M J (M x6 x8.toNat 0).toNat []) x10.toNat 0/\M (M J (M x6 x8.toNat 0).toNat []) x10.toNat 0<(F e:E))) (L (M e (M (M J (M x6 x8.toNat 0).toNat []) x10.toNat 0).toNat D) (C (AI (v+1)/\AI (x10+1)) (self<|.l2 x6 p x8 (v+1)<|x10+1) V)<|C (AI<|x10+1) (self<|.l2 x6 p x8 v<|x10+1) V) V)<|L (v != 2) (Z (D,0))<|C (0<=M x6 x8.toNat 0/\M x6 x8.toNat 0<(F p:E)) (L (!(M p (M x6 x8.toNat 0).toNat D)) (Z (D,0))<|C (AI<|x8+1) (self<|.l1 x6 p<|x8+1) V) V) V
def zIC(n:U)(self:XP->X8)(J:O Ξ)(e:Ω):X8:=(PH n J).bind λf=>L (f != 0) (Z (D,120))<|L ((F e:E) != (F J:E)) (Z (D,1))<|(PI n e).bind λG=>L (H<|(F G:E)<3) (Z (D,0))<|C ((0:E)<=0/\0<(F G:E)) ((ME n J e<|M G 0 0).bind λy3=>self<|.l1 G y3 0) V
def IF(J:O Ξ)(e:Ω):U->XP->X8
 |0,_=>V
 |n+1,.l1 x6 p x8=>XO n (IF J e n) J e x6 p x8
 |n+1,.l2 x6 p x8 v x10=>XN n (IF J e n) J e x6 p x8 v x10
def cx(n:U)(J:O Ξ)(e:Ω):X8:=zIC n (IF J e n) J e
def zIE(n ϙ:U)(N:Yd 0)(J:O Ξ)(e:Ω)(r:ζ×E):XP->Prop:=px n ϙ η N (FQ Tryz.f104 0 (.tup 2<|L1 [.bool r.1,.i r.2]) []) (AZ Tryz.f104) λ
 | .l1 x6 p x8=>(0,0,AF 75 [(0,.sl 1 (F J)<|AM AW J),(1,.bools e),(6,.ints x6),(7,.bools p),(8,.i x8)],[])
 | .l2 x6 p x8 v x10=>(1,2,AF 75 [(0,.sl 1 (F J)<|AM AW J),(1,.bools e),(6,.ints x6),(7,.bools p),(8,.i x8),(9,.i v),(10,.i x10)],[])
def zIF(ϙ:U)(N:Yd 0)(J:O Ξ)(e:Ω):Al (IF J e) (zIE · ϙ N J e):=ia (λ_=>rfl) λn I G r h=>by
 cases G
 case l1 x6 x7 x8=>
  intro q a;refine rd a λq a=>?_
  revert r;apply gO;exact bi 33 (lN AC [] (I _ _ · q n a χ))<|lE AC [4,5] []
 case l2 x6 x7 x8 x9 x10=>
  intro q S a c;have a:=zBE a;refine rd c λS c=>?_
  revert r;apply gO;exact gc (gn λx=>jg x (gn λp=>jg p (bi 45 (jg x (jg p (gc (gi (gi (bi 60 (gc (gw 62 (gw 47 (lG AC [] (I _ _ · q S a c))))) (gw 47 (lG AC [] (I _ _ · q S a c))))))))) (bi 64 (lE AC [4,5] []) (jg x (gi (bi 73 (lE AC [4,5] []) (gw 35 (lG AC [] (I _ _ · q a))))))))))
def zIB{r:ζ×E}(h:cx n J e=Z r):EQ 104 [.sl 1 (F J)<|AM AW J,.bools e] [] (.tup 2<|L1 [.bool r.1,.i r.2]) [] T:=by
 refine ot Tryz.func104 λϙ N=>?_
 revert r;apply gO;exact cf lz [] λ_=>bi 13 (lE AC [4,5] []) (bi 18 (lE AC [4,5] []) (cf mF [] λ_=>bi 23 (lE AC [4,5] []) (gi (cf mC [] λ_=>lN AC [] ((zIF ϙ N J e n) _ _ · n χ)))))
def zGU:Ar (Am Tryz.f77 5) [([0,1,2,3,4,5,6,7,8,9,10,11,12],13)] [14] [15]:=Z0
def lJ:BZ:=λi=>match i with
 |5=>.ord [([0,1,2,3,4,5,6,7,8,9,10,11,12],13)] [14] [15]
 |_=>.no
inductive eW where
 |l1 (x8:E) (o0:Ω)
def Xy(n:U)(self:eW->A Ω)(v cells:Ξ)(y:E)(x8:E)(o0:Ω):A Ω:=L (H<|x8<(F cells:E)) (C ((0<=x8/\x8<(F cells:E))/\(0<=M cells x8.toNat 0/\M cells x8.toNat 0<(F v:E))) ((JS n y<|M v (M cells x8.toNat 0).toNat 0).bind λf=>C (0+(M cells x8.toNat 0).toNat<F o0/\AI (x8+1)) (self<|.l1 (x8+1)<|o0.set (0+(M cells x8.toNat 0).toNat) f) V) V)<|C (F v=F o0) (Z o0) V
def yJ(n:U)(self:eW->A Ω)(v cells:Ξ)(AV:E):A Ω:=C (((F v:E):E)=(F v:E)/\0<=(F v:E)/\((F v:E):E)<=1000000000000) (self<|.l1 0<|d (F v) D) V
def Ub(v cells:Ξ)(y:E):U->eW->A Ω
 |0,_=>V
 |n+1,.l1 x8 o0=>Xy n (Ub v cells y n) v cells y x8 o0
def RU(n:U)(v cells:Ξ)(y:E):A Ω:=yJ n (Ub v cells y n) v cells y
def zKX(n ϙ:U)(N:Yd 0)(v cells:Ξ)(y:E)(r:Ω):eW->Prop:=px n ϙ η N (FQ Tryz.f77 0 (.bools r) []) (AZ Tryz.f77) λ
 | .l1 x8 o0=>(0,0,AF 34 [(0,.ints v),(1,.ints cells),(2,.i y),(7,.msl 0 1 0<|F v),(8,.i x8)],[Z<|.bools o0])
def zKY(ϙ:U)(N:Yd 0)(v cells:Ξ)(y:E):Al (Ub v cells y) (zKX · ϙ N v cells y):=ia (λ_=>rfl) λn I G r h=>by
 cases G
 case l1 x8 o0=>
  intro q a;refine rd a λq a=>?_
  revert r;apply gO;exact bi 15 (jg zGU (gc (gn λx=>jg x (jg x (gn λb=>jg b (cf MF [Z<|.bools o0] λ_=>jg b (gc (gi (gw 17 (lG lJ [0] (I _ _ · q a)))))))))))<|gn λx=>lF λp=>ez lJ [6] [0] p [0]<|H0.g x
def yI{r:Ω}(h:RU n v cells y=Z r):EQ 77 [.ints v,.ints cells,.i y] [] (.bools r) [] T:=by
 refine ot Tryz.func77 λϙ N=>?_
 revert r;apply gO;exact gi (lN lJ [0] ((zKY ϙ N v cells y n) _ _ · n χ))
def zBa(n:U)(a:O Ξ)(e:Ω):A ζ:=(iz n a e).bind λf=>L (f.2==0) (Z<|H<|(F f.1:E)<=1)<|Z D
def aD(n:U)(a:O Ξ)(e:Ω):A ζ:=zBa n a e
variable{a:O Ξ}
def zRP(h:aD n a e=Z r):EQ 76 [.sl 1 (F a)<|AM AW a,.bools e] [] (.bool r) [] T:=by
 unfold aD zBa at h;refine ot Tryz.func76 λϙ N=>?_
 revert r;apply gO;exact cf zBb [] λ_=>bi 14 (lE AC [4] [])<|lE AC [4] []
def yX(n:U)(a:O Ξ)(e:Ω):A ζ:=(iz n a e).bind λf=>(cx n a e).bind λG=>L (f.2==0) (L (G.2==0) (L ((F f.1:E)==0) (Z T)<|Z G.1)<|Z D)<|Z D
def YG(n:U)(a:O Ξ)(e:Ω):A ζ:=yX n a e
def zKv(h:YG n a e=Z r):EQ 78 [.sl 1 (F a)<|AM AW a,.bools e] [] (.bool r) [] T:=by
 unfold YG yX at h;refine ot Tryz.func78 λϙ N=>?_
 revert r;apply gO;exact cf zBb [] λ_=>cf zIB [] λ_=>bi 22 (bi 25 (bi 30 (lE AC [4] [])<|lE AC [4] [])<|lE AC [4] [])<|lE AC [4] []
def zGQ:Ar (Am Tryz.f50 13) [([0,1,2,3,4,6,7],5),([],8)] [9] []:=Z0
def zGP:Ar (Am Tryz.f50 15) [([0,1,2,3,4,5,6,7,8,9,10,11,12,13,14,15,16,17,18,19,20,21,22,23],24)] [25] []:=Z0
def zGO:Ar (Am Tryz.f50 21) [([0,1,2,3,4,5,6],7),([],8)] [9] []:=Z0
def zGN:Ar (Am Tryz.f50 22) [([0,1,2,3,4,5,6],7),([],8)] [9] []:=Z0
def NT:BZ:=λi=>match i with
 |13=>.ord [([0,1,2,3,4,6,7],5),([],8)] [9] []
 |15=>.ord [([0,1,2,3,4,5,6,7,8,9,10,11,12,13,14,15,16,17,18,19,20,21,22,23],24)] [25] []
 |21=>.ord [([0,1,2,3,4,5,6],7),([],8)] [9] []
 |22=>.ord [([0,1,2,3,4,5,6],7),([],8)] [9] []
 |_=>.no
def MZ(n:U)(q:AA)(Y:AE)(v:Ξ):A ζ:=L (Y.kind==1) ((iY n v Y.ce).bind λf=>Z f)<|L (Y.kind==2) ((io n v Y.ce Y.set).bind λf=>L (H<|Y.lo<=f) (Z<|H<|f<=Y.hi)<|Z D)<|L (Y.kind==3) ((bX n q.va v Y.ce).bind λf=>L (H<|Y.lo<=f) (Z<|H<|f<=Y.hi)<|Z D)<|L (Y.kind==4) ((cw n q.va v Y.ce).bind λf=>Z f)<|L (Y.kind==5) ((cU n v Y.ce Y.set).bind λf=>(Ty n f Y.ru).bind λG=>Z G)<|L (Y.kind==6) (C (((0:E)<=0/\0<(F Y.ce:E))/\(0<=M Y.ce 0 0/\M Y.ce 0 0<(F v:E))/\(0<=M v (M Y.ce 0 0).toNat 0/\M v (M Y.ce 0 0).toNat 0<(F q.va:E))/\((0:E)<=1/\1<(F Y.ce:E))/\(0<=M Y.ce 1 0/\M Y.ce 1 0<(F v:E))/\(0<=M v (M Y.ce 1 0).toNat 0/\M v (M Y.ce 1 0).toNat 0<(F q.va:E))) ((mG n (M q.va (M v (M Y.ce 0 0).toNat 0).toNat 0) (M q.va (M v (M Y.ce 1 0).toNat 0).toNat 0) Y.lo).bind λf=>Z f) V)<|L (Y.kind==7) (C (((0:E)<=0/\0<(F Y.ce:E))/\(0<=M Y.ce 0 0/\M Y.ce 0 0<(F v:E))/\((0:E)<=1/\1<(F Y.ce:E))/\(0<=M Y.ce 1 0/\M Y.ce 1 0<(F v:E))) ((JS n Y.set<|M v (M Y.ce 0 0).toNat 0).bind λf=>L f ((JS n Y.other<|M v (M Y.ce 1 0).toNat 0).bind λG=>L (!G) ((JS n Y.set<|M v (M Y.ce 1 0).toNat 0).bind λy3=>L y3 ((JS n Y.other<|M v (M Y.ce 0 0).toNat 0).bind λa=>Z<|!a)<|Z T)<|Z D)<|(JS n Y.set<|M v (M Y.ce 1 0).toNat 0).bind λG=>L G ((JS n Y.other<|M v (M Y.ce 0 0).toNat 0).bind λy3=>Z<|!y3)<|Z T) V)<|L (Y.kind==8) ((RU n v Y.ce Y.set).bind λf=>(aD n q.nb f).bind λG=>Z G)<|(RU n v Y.ce Y.set).bind λf=>(YG n q.nb f).bind λG=>Z G
def Hd(n:U)(q:AA)(Y:AE)(v:Ξ):A ζ:=MZ n q Y v
variable{q:AA}
def zKT{Y:AE}(h:Hd n q Y v=Z r):EQ 50 [.agg 5<|L1<|AG q,.agg 9<|L1<|BD Y,.ints v] [] (.bool r) [] T:=by
 refine ot Tryz.func50 λϙ N=>?_
 revert r;apply gO;exact bi 14 (cf zQh [oC<|AG q,oC<|BD Y] λ_=>lE AC [6] [])<|bi 20 (cf zQ6 [oC<|AG q,oC<|BD Y] λ_=>bi 30 (lE AC [6] [])<|lE AC [6] [])<|bi 38 (cf zED [oC<|AG q,oC<|BD Y] λ_=>bi 48 (lE AC [6] [])<|lE AC [6] [])<|bi 56 (cf zH1 [oC<|AG q,oC<|BD Y] λ_=>lE AC [6] [])<|bi 64 (jg zGQ<|cf zHC [oC<|AG q,oC<|BD Y] λ_=>cf zFZ [oC<|AG q,oC<|BD Y] λ_=>lE NT [6] [])<|bi 75 (jg zGP<|gc<|gi<|gc<|gi<|gc<|gi<|gc<|gi<|gc<|gi<|gi<|cf zIv [oC<|AG q,oC<|BD Y] λ_=>lE NT [6] [])<|bi 102 (gc<|gi<|gc<|gi<|gc<|gi<|gi<|cf MF [oC<|AG q,oC<|BD Y] λ_=>bi 120 (cf MF [oC<|AG q,oC<|BD Y] λ_=>bi 127 (cf MF [oC<|AG q,oC<|BD Y] λ_=>bi 132 (cf MF [oC<|AG q,oC<|BD Y] λ_=>lE NT [6] [])<|lE NT [6] [])<|lE NT [6] [])<|cf MF [oC<|AG q,oC<|BD Y] λ_=>bi 132 (cf MF [oC<|AG q,oC<|BD Y] λ_=>lE NT [6] [])<|lE NT [6] [])<|bi 142 (jg zGO<|cf yI [oC<|AG q,oC<|BD Y] λ_=>cf zRP [oC<|AG q,oC<|BD Y] λ_=>lE NT [6] [])<|jg zGN<|cf yI [oC<|AG q,oC<|BD Y] λ_=>cf zKv [oC<|AG q,oC<|BD Y] λ_=>lE NT [6] []
inductive iF where
 |l1 (x7:E)
def ZX(n:U)(self:iF->A ζ)(cells b:E)(v:Ξ)(p:E):A ζ:=L (H<|p<(F v:E)) (C (0<=p/\p<(F v:E)) (L (H<|M v p.toNat 0<0) (Z D)<|L (H<|M v p.toNat 0>=b) (Z D)<|C (AI<|p+1) (self<|.l1<|p+1) V) V)<|Z T
def zAo(n:U)(self:iF->A ζ)(cells BJ:E)(v:Ξ):A ζ:=L ((F v:E) != cells) (Z D)<|self<|.l1 0
def VM(cells b:E)(v:Ξ):U->iF->A ζ
 |0,_=>V
 |n+1,.l1 p=>ZX n (VM cells b v n) cells b v p
def iG(n:U)(cells b:E)(v:Ξ):A ζ:=zAo n (VM cells b v n) cells b v
def zPl(n ϙ:U)(N:Yd 0)(cells b:E)(v:Ξ)(r:ζ):iF->Prop:=px n ϙ η N (FQ Tryz.f68 0 (.bool r) []) (AZ Tryz.f68) λ
 | .l1 p=>(0,0,AF 31 [(1,.i b),(2,.ints v),(7,.i p)],[])
def zPm(ϙ:U)(N:Yd 0)(cells b:E)(v:Ξ):Al (VM cells b v) (zPl · ϙ N cells b v):=ia (λ_=>rfl) λn I G r h=>by
 cases G
 case l1 x7=>
  intro q a;refine rd a λq a=>?_
  revert r;apply gO;exact bi 15 (gn λx=>jg x (bi 22 (lE AC [6] []) (jg x (bi 29 (lE AC [6] []) (gw 17 (lG AC [] (I _ _ · q a)))))))<|lE AC [6] []
def zPk{cells b:E}(h:iG n cells b v=Z r):EQ 68 [.i cells,.i b,.ints v] [] (.bool r) [] T:=by
 refine ot Tryz.func68 λϙ N=>?_
 revert r;apply gO;exact bi 11 (lE AC [6] []) (lN AC [] ((zPm ϙ N cells b v n) _ _ · n χ))
def sX(n:U)(q:AA)(v:Ξ):A E:=(Tz n q).bind λf=>L (f != 0) (Z f)<|(iG n q.ce q.sy v).bind λG=>L (!G) (Z 200)<|Z 0
def az(n:U)(q:AA)(v:Ξ):A E:=sX n q v
def zDO{r:E}(h:az n q v=Z r):EQ 49 [.agg 5<|L1<|AG q,.ints v] [] (.i r) [] T:=by
 unfold az sX at h;refine ot Tryz.func49 λϙ N=>?_
 revert r;apply gO;exact cf vJ [oC<|AG q] λ_=>bi 9 (lE AC [4] [])<|cf zPk [oC<|AG q] λ_=>bi 17 (lE AC [4] [])<|lE AC [4] []
def zFk:Ar (Am Tryz.f35 7) [([0,1,2,3,4,5,6],7)] [8] []:=Z0
def Wk:BZ:=λi=>match i with
 |7=>.ord [([0,1,2,3,4,5,6],7)] [8] []
 |_=>.no
inductive bg where
 |l1 (x7:E)
def WX(n:U)(self:bg->X8)(q:AA)(v:Ξ)(p:E):X8:=L (H<|p<(F q.cons:E)) (C (0<=p/\p<(F q.cons:E)) ((Hd n q (M q.cons p.toNat ξ) v).bind λf=>L (!f) (Z (D,0))<|C (AI<|p+1) (self<|.l1<|p+1) V) V)<|Z (T,0)
def zEd(n:U)(self:bg->X8)(q:AA)(v:Ξ):X8:=(az n q v).bind λf=>L (f != 0) (Z (D,f))<|self<|.l1 0
def Oq(q:AA)(v:Ξ):U->bg->X8
 |0,_=>V
 |n+1,.l1 p=>WX n (Oq q v n) q v p
def L6(n:U)(q:AA)(v:Ξ):X8:=zEd n (Oq q v n) q v
def zEf(n ϙ:U)(N:Yd 0)(q:AA)(v:Ξ)(r:ζ×E):bg->Prop:=px n ϙ η N (FQ Tryz.f35 0 (.tup 2<|L1 [.bool r.1,.i r.2]) []) (AZ Tryz.f35) λ
 | .l1 p=>(0,0,AF 30 [(1,.ints v),(2,.ref 0 0),(7,.i p)],[oC<|AG q])
def zEg(ϙ:U)(N:Yd 0)(q:AA)(v:Ξ):Al (Oq q v) (zEf · ϙ N q v):=ia (λ_=>rfl) λn I G r h=>by
 cases G
 case l1 x7=>
  intro b a;refine rd a λb a=>?_
  revert r;apply gO;exact bi 18 (jg zFk (gi (cf zKT [oC<|AG q] λ_=>bi 29 (lE Wk [4,5] []) (gw 20 (lG Wk [0] (I _ _ · b a))))))<|lE Wk [4,5] []
def kg{r:ζ×E}(h:L6 n q v=Z r):EQ 35 [.agg 5<|L1<|AG q,.ints v] [] (.tup 2<|L1 [.bool r.1,.i r.2]) [] T:=by
 refine ot Tryz.func35 λϙ N=>?_
 revert r;apply gO;exact cf zDO [oC<|AG q] λ_=>bi 12 (lE Wk [4,5] []) (lN Wk [0] ((zEg ϙ N q v n) _ _ · n χ))
inductive b9 where
 |l1 (x3 x4:E)
def bz(n:U)(self:b9->A E)(y:E)(X c:E):A E:=L (H<|c<64) (C ((0<=IntKind.u64.wrap c/\IntKind.u64.wrap c<=(IntKind.u64.bits:E))/\AI (X+(IntKind.i64.wrap<|bits .and .u64 (IntKind.u64.wrap y/2^(IntKind.u64.wrap c).toNat) 1))/\AI (c+1)) (self<|.l1 (X+(IntKind.i64.wrap<|bits .and .u64 (IntKind.u64.wrap y/2^(IntKind.u64.wrap c).toNat) 1))<|c+1) V)<|Z X
def zFF(n:U)(self:b9->A E)(AV:E):A E:=self<|.l1 0 0
def Ts(y:E):U->b9->A E
 |0,_=>V
 |n+1,.l1 X c=>bz n (Ts y n) y X c
def cA(n:U)(y:E):A E:=zFF n (Ts y n) y
def zFH(n ϙ:U)(N:Yd 0)(y:E)(r:E):b9->Prop:=px n ϙ η N (FQ Tryz.f34 0 (.i r) []) (AZ Tryz.f34) λ
 | .l1 X c=>(0,0,AF 19 [(0,.i y),(3,.i X),(4,.i c)],[])
def zFI(ϙ:U)(N:Yd 0)(y:E):Al (Ts y) (zFH · ϙ N y):=ia (λ_=>rfl) λn I G r h=>by
 cases G
 case l1 x3 x4=>
  intro q a;refine rd a λq a=>?_
  revert r;apply gO;exact bi 6 (gc (gi (gc (gw 17 (gw 8 (lG AC [] (I _ _ · q a)))))))<|lE AC [2] []
def zFE{r:E}(h:cA n y=Z r):EQ 34 [.i y] [] (.i r) [] T:=by
 refine ot Tryz.func34 λϙ N=>?_
 revert r;apply gO;exact lN AC [] ((zFI ϙ N y n) _ _ · n χ)
end
abbrev zM2:=@iff_of_false
abbrev zPB:=@iff_of_true
abbrev zTa:=@decide_eq_decide
section
variable{q:AA}{c:AE}{g:Ξ}
theorem zQj(S:Sv q c g)(hl:F c.ce<=256):∃r,Ev (λn=>iY n g c.ce) r/\(r=T↔∀a b,a<F c.ce->b<F c.ce->AP c g a=AP c g b->a=b):=by
 have inn:∀(k i j:U),i<F c.ce->j+k=i->(∀b,b<j->AP c g b≠AP c g i)->((∃b,b<i/\AP c g b=AP c g i)/\Ev (λn=>Id g c.ce n<|.l2 (i:E) (j:E)) D)∨((∀b,b<i->AP c g b≠AP c g i)/\AX (Id g c.ce) (.l2 (i:E) (j:E)) (.l1 ((i+1:U):E))):=by
  intro k
  induction k with
  |zero=>
   intro i j hi e h;have e:j=i:=Z2
   subst e;refine .inr ⟨h,AX.one λn=>?_⟩
   show Zo n (Id g c.ce n) g c.ce (j:E) (j:E)=_
   unfold Zo;rw[zAF Z2,zAJ,zAB<|Ae.2 ⟨Z2,Z2⟩,show((j+1:U):E)=(j:E)+1 by omega]
  |succ k p=>
   intro i j hi e h;have u:j<F c.ce:=Z2
   have w:=S.cell i hi;have y:=S.cell j u
   have step:∀n,Id g c.ce (n+1) (.l2 (i:E) (j:E))=L (H<|AP c g j=AP c g i) (Z D) (Id g c.ce n<|.l2 (i:E) ((j+1:U):E)):=λn=>by
    show Zo n (Id g c.ce n) g c.ce (i:E) (j:E)=_
    unfold Zo;rw[zAA Z2,zAI,u8,u8,zAB ⟨⟨Z2,Z2⟩,w,⟨Z2,Z2⟩,y⟩,S.gi hi,S.gi u,zAB<|Ae.2 ⟨Z2,Z2⟩,show((j+1:U):E)=(j:E)+1 by omega]
    by_cases l:AP c g j=AP c g i
    ·rw[zAA l,l];simp
    ·rw[zAF l,show(((AP c g i:U):E)==((AP c g j:U):E))=D from zMS.2 Z2]
   by_cases l:AP c g j=AP c g i
   ·exact .inl ⟨⟨j,Z2,l⟩,Ev.one λn=>Z4⟩
   ·have v:AX (Id g c.ce) (.l2 (i:E) (j:E))<|.l2 (i:E) ((j+1:U):E):=AX.one λn=>by rw[step n,zAF l,zAJ]
    rcases p i (j+1) hi Z2 (λb f=>by
     rcases zBy.1 f with f|rfl
     ·exact h b f
     ·exact l)with⟨m,o⟩|⟨m,o⟩
    ·exact .inl ⟨m,AX.ev v o⟩
    ·exact .inr ⟨m,v.trans o⟩
 have key:∀(k i:U),i+k=F c.ce->(∀a b,a<i->b<i->AP c g a=AP c g b->a=b)->∃r,Ev (λn=>Id g c.ce n<|.l1 (i:E)) r/\(r=T↔∀a b,a<F c.ce->b<F c.ce->AP c g a=AP c g b->a=b):=by
  intro k
  induction k with
  |zero=>
   intro i e s;have e:i=F c.ce:=Z2
   subst e;refine⟨T,Ev.one λn=>?_,zPB rfl s⟩
   show Zq n (Id g c.ce n) g c.ce (F c.ce:E)=_
   unfold Zq;rw[zAF Z2,zAJ]
  |succ k p=>
   intro i e s;have hi:i<F c.ce:=Z2
   have x:AX (Id g c.ce) (.l1 (i:E))<|.l2 (i:E) ((0:U):E):=AX.one λn=>by
    show Zq n (Id g c.ce n) g c.ce (i:E)=_
    unfold Zq;rw[zAA Z2,zAI];rfl
   rcases inn i i 0 hi Z2 (λb f=>τ f<|zAR b)with⟨⟨b,m,o⟩,z⟩|⟨m,o⟩
   ·refine⟨D,AX.ev x z,zM2 Z6 λh=>?_⟩;have:=h b i Z2 hi o;omega
   ·obtain⟨r,G,I⟩:=p (i+1) Z2 (λa b P f t=>by
     rcases zBy.1 P with P|rfl <;> rcases zBy.1 f with f|rfl
     ·exact s a b P f t
     ·exact τ t<|m a P
     ·exact τ t.symm<|m b f
     ·rfl)
    exact⟨r,AX.ev (x.trans o) G,I⟩
 exact key (F c.ce) 0 Z2 λa b P=>τ P<|zAR a
def zQ8(S:Sv q c g)(hl:F c.ce<=256):Ev (λn=>io n g c.ce c.set)<|cnt (λa=>tb c.set<|AP c g a)<|F c.ce:=by
 have key:∀(k i:U),i+k=F c.ce->Ev (λn=>VZ g c.ce c.set n<|.l1 (cnt (λa=>tb c.set<|AP c g a) i) (i:E)) (cnt (λa=>tb c.set<|AP c g a)<|F c.ce):=by
  intro k
  induction k with
  |zero=>
   intro i e;have e:i=F c.ce:=Z2
   subst e;refine Ev.one λn=>?_
   show aC n (VZ g c.ce c.set n) g c.ce c.set _ (F c.ce:E)=_
   unfold aC;rw[zAF Z2,zAJ]
  |succ k b=>
   intro i e;have hi:i<F c.ce:=Z2
   have hc:=S.cell i hi;have R:=(S.lt hi).2;have hb:=aG (p:=λa=>tb c.set<|AP c g a) (i:=i);refine AX.ev (AX.one λn=>?_)<|b (i+1) Z2
   show aC n (VZ g c.ce c.set n) g c.ce c.set _ (i:E)=_
   unfold aC;rw[zAA Z2,zAI,u8,zAB ⟨⟨Z2,Z2⟩,hc⟩,S.gi hi,PJ R,zAD,QQ,show((i+1:U):E)=(i:E)+1 by omega];cases tb c.set (AP c g i)
   ·rw[zAJ,zAB<|Ae.2 ⟨Z2,Z2⟩];simp
   ·rw[zAI,zAB ⟨Ae.2 ⟨Z2,Z2⟩,Ae.2 ⟨Z2,Z2⟩⟩,zAB rfl]
 exact key (F c.ce) 0 Z2
def zEF(S:Sv q c g)(ο:Ep q q.sy.toNat)(hl:F c.ce<=256):Ev (λn=>bX n q.va g c.ce)<|Cf (λa=>M q.va (AP c g a) 0)<|F c.ce:=by
 have o:∀i,i<F c.ce->0<=M q.va (AP c g i) 0/\M q.va (AP c g i) 0<=99:=λi hi=>ο.val _ (S.lt hi).1
 have key:∀(k i:U),i+k=F c.ce->Ev (λn=>Te q.va g c.ce n<|.l1 (Cf (λa=>M q.va (AP c g a) 0) i) (i:E)) (Cf (λa=>M q.va (AP c g a) 0)<|F c.ce):=by
  intro k
  induction k with
  |zero=>
   intro i e;have e:i=F c.ce:=Z2
   subst e;refine Ev.one λn=>?_
   show WP n (Te q.va g c.ce n) q.va g c.ce _ (F c.ce:E)=_
   unfold WP;rw[zAF Z2,zAJ]
  |succ k b=>
   intro i e;have hi:i<F c.ce:=Z2
   have hc:=S.cell i hi;have AY:=(S.lt hi).1;have G7:=ο.len;have EB:=o i hi;have hb:=Qr (f:=λa=>M q.va (AP c g a) 0) i λa ha=>by have:=o a Z2;omega
   refine AX.ev (AX.one λn=>?_)<|b (i+1) Z2
   show WP n (Te q.va g c.ce n) q.va g c.ce _ (i:E)=_
   unfold WP;rw[zAA Z2,zAI,u8,S.gi hi,u8,zAB ⟨⟨Z2,Z2⟩,hc,⟨Z2,Z2⟩,Ae.2 ⟨Z2,Z2⟩,Ae.2 ⟨Z2,Z2⟩⟩,show((i+1:U):E)=(i:E)+1 by omega];rfl
 exact key (F c.ce) 0 Z2
def zH3(S:Sv q c g)(ο:Ep q q.sy.toNat)(hl:F c.ce<=256):∃r,Ev (λn=>cw n q.va g c.ce) r/\(r=T↔HN q 0 (F c.ce) (AP c g)):=by
 have key:∀(k i:U),(i+1)+k=F c.ce∨F c.ce=0/\k=0/\i=0->HN q 0 (i+1) (AP c g)->∃r,Ev (λn=>PB q.va g c.ce n<|.l1 ((i+1:U):E)) r/\(r=T↔HN q 0 (F c.ce) (AP c g)):=by
  intro k
  induction k with
  |zero=>
   intro i e Y;refine⟨T,Ev.one λn=>?_,zPB rfl λb a AY=>Y b a Z2⟩
   show XL n (PB q.va g c.ce n) q.va g c.ce ((i+1:U):E)=_
   unfold XL;rw[zAF Z2,zAJ]
  |succ k f=>
   intro i e Y;have hi:i<F c.ce:=Z2
   have Q:i+1<F c.ce:=Z2
   have j:=S.cell i hi;have l:=S.cell (i+1) Q;have l0:=(S.lt hi).1;have l1:=(S.lt Q).1;have vl:=ο.len
   have step:∀n,PB q.va g c.ce (n+1) (.l1 ((i+1:U):E))=L (H<|M q.va (AP c g i) 0>=M q.va (AP c g<|i+1) 0) (Z D) (PB q.va g c.ce n<|.l1 ((i+1+1:U):E)):=λn=>by
    show XL n (PB q.va g c.ce n) q.va g c.ce ((i+1:U):E)=_
    unfold XL;rw[show((i+1:U):E)-1=(i:E) by omega];simp only[u8,S.gi hi,S.gi Q];rw[zAA Z2,zAI,zAB ⟨Ae.2 ⟨Z2,Z2⟩,⟨Z2,Z2⟩,j,⟨Z2,Z2⟩,⟨Z2,Z2⟩,l,Z2,Z2⟩,zAB<|Ae.2 ⟨Z2,Z2⟩,show((i+1+1:U):E)=((i+1:U):E)+1 by omega]
   by_cases h:M q.va (AP c g i) 0>=M q.va (AP c g<|i+1) 0
   ·refine⟨D,Ev.one λn=>by rw[step n,zAA h,zAI],zM2 Z6 λm=>?_⟩;have:=m i (zMK _) Q;omega
   ·obtain⟨r,t,o⟩:=f (i+1) Z2 (λb R a=>by
     by_cases y:b=i
     ·subst y;omega
     ·exact Y b R Z2)
    exact⟨r,AX.ev (AX.one λn=>by rw[step n,zAF h,zAJ]) t,o⟩
 exact key (F c.ce-1) 0 Z2 λb _ h=>τ h Z2
def zHE(S:Sv q c g)(hl:F c.ce<=256):∀(m i:U) (l:E) (o:Ξ),i+m=F c.ce->0<=l/\l<=(i:E)->F o<=i->Ev (λn=>Gx g c.ce c.set n<|.l2 (F o) l (i:E) o) (o++rl (λa=>tb c.set<|AP c g a) (F c.ce) m l):=by
 have Ϝ:Av=1000000000000:=rfl;intro m
 induction m with
 |zero=>
  intro i l o e j x;have e:i=F c.ce:=Z2
  subst e;refine Ev.one λn=>?_
  show Wu n (Gx g c.ce c.set n) g c.ce c.set (F o) l (F c.ce:E) o=_
  unfold Wu rl;rw[zAF Z2,zAJ]
  by_cases h:l>0
  ·rw[zAA h,zAI,zAB h,zAB ⟨⟨rfl,rfl⟩,⟨rfl,rfl⟩,Z7⟩,zAB Z3]
  ·rw[zAF h,zAJ,zAt h,zAB rfl,zMz]
 |succ m b=>
  intro i l o e j x;have hi:i<F c.ce:=Z2
  have hc:=S.cell i hi;have R:=(S.lt hi).2;have k:F c.ce-1-m=i:=Z2
  have t:AI<|(i:E)+1:=Ae.2 ⟨Z2,Z2⟩
  have start:∀n,Gx g c.ce c.set (n+1) (.l2 (F o) l (i:E) o)=L (tb c.set<|AP c g i) (Gx g c.ce c.set n<|.l2 (F o) (l+1) ((i+1:U):E) o) (L (H<|l>0) (Gx g c.ce c.set n<|.l2 (F<|o++[l]) 0 ((i+1:U):E)<|o++[l])<|Gx g c.ce c.set n<|.l2 (F o) 0 ((i+1:U):E) o):=λn=>by
   show Wu n (Gx g c.ce c.set n) g c.ce c.set (F o) l (i:E) o=_
   unfold Wu;rw[zAA Z2,zAI,u8,zAB ⟨⟨Z2,Z2⟩,hc⟩,S.gi hi,PJ R,zAD,show((i+1:U):E)=(i:E)+1 by omega];cases tb c.set (AP c g i)
   ·rw[zAJ,zAJ,zAB ⟨⟨⟨rfl,rfl⟩,⟨rfl,rfl⟩,Z7⟩,t⟩,zAB t,zAi]
   ·rw[zAI,zAI,zAB ⟨Ae.2 ⟨Z2,Z2⟩,t⟩]
  unfold rl;rw[k];cases f:tb c.set (AP c g i)with
  |true=>exact AX.ev (AX.one λn=>by rw[start n,f,zAI])<|b (i+1) (l+1) o Z2 Z2 Z2
  |false=>
   rw[zAJ]
   by_cases h:l>0
   ·have h0:=b (i+1) 0 (o++[l]) Z2 Z2 Z7;rw[zAB h,show o++l::rl (λa=>tb c.set<|AP c g a) (F c.ce) m 0=(o++[l])++rl (λa=>tb c.set<|AP c g a) (F c.ce) m 0 by simp];exact AX.ev (AX.one λn=>by rw[start n,f,zAJ,zAA h,zAI]) h0
   ·rw[zAt h];exact AX.ev (AX.one λn=>by rw[start n,f,zAJ,zAF h,zAJ])<|b (i+1) 0 o Z2 Z2 Z2
def zHF(S:Sv q c g)(j:F c.ce<=256):Ev (λn=>cU n g c.ce c.set)<|rl (λa=>tb c.set<|AP c g a) (F c.ce) (F c.ce) 0:=by
 have Ϝ:Av=1000000000000:=rfl
 have key:∀(m i:U) (l:E),i+m=F c.ce->0<=l/\l<=(i:E)->Ev (λn=>Gx g c.ce c.set n<|.l1 l (i:E)) (rl (λa=>tb c.set<|AP c g a) (F c.ce) m l):=by
  intro m
  induction m with
  |zero=>
   intro i l e k;have e:i=F c.ce:=Z2
   subst e;refine Ev.one λn=>?_
   show Wv n (Gx g c.ce c.set n) g c.ce c.set l (F c.ce:E)=_
   unfold Wv rl;rw[zAF Z2,zAJ]
   by_cases h:l>0
   ·rw[zAA h,zAI,zAB h,zAB ⟨⟨rfl,rfl⟩,Z3,Z7⟩]
   ·rw[zAF h,zAJ,zAt h]
  |succ m f=>
   intro i l e k;have hi:i<F c.ce:=Z2
   have hc:=S.cell i hi;have R:=(S.lt hi).2;have o:F c.ce-1-m=i:=Z2
   have t:AI<|(i:E)+1:=Ae.2 ⟨Z2,Z2⟩
   have start:∀n,Gx g c.ce c.set (n+1) (.l1 l (i:E))=L (tb c.set<|AP c g i) (Gx g c.ce c.set n<|.l1 (l+1) ((i+1:U):E)) (L (H<|l>0) (Gx g c.ce c.set n<|.l2 (F ([l]:Ξ)) 0 ((i+1:U):E) [l])<|Gx g c.ce c.set n<|.l1 0 ((i+1:U):E)):=λn=>by
    show Wv n (Gx g c.ce c.set n) g c.ce c.set l (i:E)=_
    unfold Wv;rw[zAA Z2,zAI,u8,zAB ⟨⟨Z2,Z2⟩,hc⟩,S.gi hi,PJ R,zAD,show((i+1:U):E)=(i:E)+1 by omega];cases tb c.set (AP c g i)
    ·rw[zAJ,zAJ,zAB ⟨⟨⟨rfl,rfl⟩,Z3,Z7⟩,t⟩,zAB t]
    ·rw[zAI,zAI,zAB ⟨Ae.2 ⟨Z2,Z2⟩,t⟩]
   unfold rl;rw[o];cases b:tb c.set (AP c g i)with
   |true=>exact AX.ev (AX.one λn=>by rw[start n,b,zAI])<|f (i+1) (l+1) Z2 Z2
   |false=>
    rw[zAJ]
    by_cases h:l>0
    ·rw[zAB h];exact AX.ev (AX.one λn=>by rw[start n,b,zAJ,zAA h,zAI])<|zHE S j m (i+1) 0 [l] Z2 Z2 Z3
    ·rw[zAt h];exact AX.ev (AX.one λn=>by rw[start n,b,zAJ,zAF h,zAJ])<|f (i+1) 0 Z2 Z2
 exact key (F c.ce) 0 0 Z2 ⟨zCs _,Z2⟩
def zLm{a b:Ξ}{n:U}(hl:F a<=LB)(s:F a<n):Ty n a b=Z (H<|a=b):=by
 have hb:LB<=9223372036854775806:=Z6
 unfold Ty vA
 by_cases p:F a=F b
 ·have e:((F a:E) != (F b:E))=D:=by rw[p];simp
  rw[e,zAJ]
  have key:∀(k i n:U),i+k=F a->k+1<=n->Tx a b n (.l1 (i:E))=Z (H<|a.drop i=b.drop i):=by
   intro k
   induction k with
   |zero=>
    intro i n e s;obtain⟨n,rfl⟩:∃k,n=k+1:=⟨n-1,Z2⟩
    show Ws n (Tx a b n) a b (i:E)=_
    unfold Ws;rw[zAF Z2,zAJ,zOO Z2,zOO Z2];rfl
   |succ k c=>
    intro i n e s;obtain⟨n,rfl⟩:∃k,n=k+1:=⟨n-1,Z2⟩;have hi:i<F a:=Z2
    have Q:i<F b:=Z2
    have Ϛ:∀{l:Ξ},i<F l->l.drop i=M l i 0::l.drop (i+1):=λ{l} h=>by
     rw[zBz h,zAL,zBx h];rfl
    have:=c (i+1) n Z2 Z2
    show Ws n (Tx a b n) a b (i:E)=_
    unfold Ws;rw[zAA Z2,zAI,zAB ⟨⟨Z2,Z2⟩,Z2,Z2⟩,u8,Ϛ hi,Ϛ Q]
    by_cases h:M a i 0=M b i 0
    ·rw[h,show(M b i 0 != M b i 0)=D by simp,zAJ,zAB<|Ae.2 ⟨Z2,Z2⟩,show(i:E)+1=((i+1:U):E) by omega,this]
     congr 1
     rw[zTa];simp
    ·rw[show(M a i 0 != M b i 0)=T by simpa using h,zAI]
     congr 1
     exact(zAF λe=>h (List.cons.inj e).1).symm
  have:=key (F a) 0 n Z2 Z2;rw[zMy,zMy]at this;exact this
 ·have e:((F a:E) != (F b:E))=T:=by simpa using λh=>p Z2
  rw[e,zAI]
  congr 1
  exact(zAF λh=>p<|by rw[h]).symm
end
section
variable{g:O Ξ}{inn:Ω}
variable{v:U}
def zKM(G:Hr g)(o:v<F g):(nb g v).Pairwise (· < ·)/\(v:E)∉nb g v:=by
 have h:=G.ok;unfold LY at h;rw[zAK,zAP]at h;have a:=h.2 v<|zAV.2 o;unfold JO at a;rw[zAP]at a;have e:nb g v=M g v []:=by unfold nb;rw[u8]
 rw[e]
 generalize M g v []=l at a
 have S:∀k,k<F l->M l k 0≠v/\(0<k->M l (k-1) 0<M l k 0):=λk hk=>by
  have:=a k<|zAV.2 hk;unfold Hz at this;simp only[zAK,zOF,ne_eq,zCz,zKL,zMW,zB0]at this;exact⟨this.1.1.2,λh=>this.1.2.resolve_left λs=>s h⟩
 have m:∀Ϛ i,i+Ϛ+1<F l->M l i 0<M l (i+Ϛ+1) 0:=by
  intro Ϛ
  induction Ϛ with
  |zero=>intro i hi;exact(S (i+1) hi).2 Z2
  |succ Ϛ n=>
   intro i hi;have h1:=n i Z2;have c:=(S (i+(Ϛ+1)+1) hi).2 Z2;rw[show i+(Ϛ+1)+1-1=i+Ϛ+1 by omega]at c;omega
 constructor
 ·rw[zO4];intro i j hi b Yq;have:=m (j-i-1) i Z2;rw[show i+(j-i-1)+1=j by omega]at this;simpa[zAL,hi,b]using this
 ·intro z;obtain⟨k,hk,e⟩:=zJw z;refine(S k hk).1 ?_;rw[zAL,zBx hk];exact e
def sj(G:Hr g)(o:v<F g)(m:M inn v D=T)(r:Cj g inn v=2):3<=(θ<|F g).countP λx=>M inn x D:=by
 obtain⟨l,s⟩:=zKM G o;have i:=G.gr.rng v Z2 Z2;have Y:F ((nb g v).filter λx=>M inn x.toNat D)=2:=by rw[←zMP];exact r
 have n:=l.filter λx=>M inn x.toNat D;have c:∀x∈(nb g v).filter λx=>M inn x.toNat D,x∈nb g v/\M inn x.toNat D=T:=λx j=>zOR.1 j
 generalize ((nb g v).filter λx=>M inn x.toNat D)=ϖ at Y n c
 match ϖ,Y with
 |[x,y],_=>
  have n8:x<y:=by
   rw[zTp]at n;exact n.1 y Z3
  obtain⟨I,k⟩:=c x Z3;obtain⟨h,p⟩:=c y Z3;have xr:=i x I;have yr:=i y h;have xv:x≠v:=λe=>s<|e▸I
  have yv:y≠v:=λe=>s<|e▸h
  have a1:=OL (f:=λz=>M inn z D&&!(z==v)) (g:=λz=>M inn z D) (a:=v) Z3 m (θ<|F g) (λz _ b=>by rw[zAK]at b;exact b.1)<|zAV.2 o;have a2:=OL (f:=λz=>(M inn z D&&!(z==v))&&!(z==x.toNat)) (g:=λz=>M inn z D&&!(z==v)) (a:=x.toNat) Z3 (by rw[k];simp;omega) (θ<|F g) (λz _ b=>by rw[zAK]at b;exact b.1)<|zAV.2 Z2;have a3:=OL (f:=λz=>((M inn z D&&!(z==v))&&!(z==x.toNat))&&!(z==y.toNat)) (g:=λz=>(M inn z D&&!(z==v))&&!(z==x.toNat)) (a:=y.toNat) Z3 (by rw[p];simp;omega) (θ<|F g) (λz _ b=>by rw[zAK]at b;exact b.1)<|zAV.2 Z2;omega
end
abbrev zO5:=@List.range_succ
abbrev zTI:=@List.filter_eq_nil_iff
abbrev zTm:=@List.map_append
section
open Classical
def Ch(inn:Ω)(k:U):Ξ:=((θ k).filter λi=>M inn i D).map λi:U=>(i:E)
def WR(inn:Ω)(k:U):UH:=C (Ch inn k= []) (.l1 (k:E))<|.l2 (F<|Ch inn k) (k:E)<|Ch inn k
def qQ{p:U->ζ}:∀(n:U),(∃i,i<n/\p i=T)->∃m,m<n/\p m=T/\(∀v,v<m->p v=D)/\∃t,(θ n).filter p=m::t
 |0,⟨i,hi,_⟩=>τ hi<|zAR i
 |n+1,⟨i,hi,a⟩=>by
  rw[zO5,zTF]
  by_cases h:∃i,i<n/\p i=T
  ·obtain⟨m,h1,c,k,t,R⟩:=qQ n h;exact⟨m,Z2,c,k,t++[n].filter p,by rw[R];rfl⟩
  ·have all:∀v,v<n->p v=D:=λv o=>by
    cases b:p v with
    |false=>rfl
    |true=>exact τ ⟨v,o,b⟩ h
   have e:i=n:=by
    rcases zBy.1 hi with hi|hi
    ·rw[all i hi]at a;cases a
    ·exact hi
   subst e;refine⟨i,Nat.lt_succ_self i,a,all,[],?_⟩;rw[zTI.2 λv o=>by rw[all v<|zAV.1 o];decide];simp[a]
section
variable{q:AA}{c:AE}{AD:Ξ}{g:O Ξ}{inn:Ω}{s:E}
variable{k:U}
def zKj :Ch inn (k+1)=Ch inn k++C (M inn k D=T) [(k:E)] []:=by
 unfold Ch;rw[zO5,zTF,zTm]
 congr 1
 rw[zSI];cases M inn k D <;> rfl
def yS :F (Ch inn k)<=k:=by
 unfold Ch;rw[zAS];exact zAO (List.length_filter_le _ _) Z3
def eU{v:E}:v∈Ch inn k↔0<=v/\v<(k:E)/\M inn v.toNat D=T:=by
 unfold Ch;rw[zMa];constructor
 ·rintro⟨i,hi,rfl⟩;obtain⟨a,c⟩:=zOR.1 hi;have:=zAV.1 a;exact⟨Z2,Z2,by rw[u8];exact c⟩
 ·rintro⟨a,c,b⟩;exact⟨v.toNat,zOR.2 ⟨zAV.2 Z2,b⟩,Z2⟩
def zKk(hI:F inn<=256){n:U}(hk:k<F inn):Kz inn (n+1) (WR inn k)=Kz inn n (WR inn<|k+1):=by
 have Ϝ:Av=1000000000000:=rfl;have t:AI<|(k:E)+1:=Ae.2 ⟨Z2,Z2⟩;have hl:=yS (inn:=inn) (k:=k);unfold WR;rw[zKj,show((k+1:U):E)=(k:E)+1 by omega]
 by_cases h0:Ch inn k= []
 ·rw[zAB h0,h0]
  show XX n (Kz inn n) inn (k:E)=_
  unfold XX;rw[zAA Z2,zAI,zAB ⟨Z2,Z2⟩,u8];cases b:M inn k D with
  |false=>rw[zAJ,zAB t];simp
  |true=>rw[zAI,zAB ⟨⟨⟨rfl,rfl⟩,Z3,Z7⟩,t⟩];simp
 ·rw[zAt h0]
  show XW n (Kz inn n) inn (F<|Ch inn k) (k:E) (Ch inn k)=_
  unfold XW;rw[zAA Z2,zAI,zAB ⟨Z2,Z2⟩,u8];cases b:M inn k D with
  |false=>rw[zAJ,zAB t];simp[h0]
  |true=>rw[zAI,zAB ⟨⟨⟨rfl,rfl⟩,⟨rfl,rfl⟩,Z7⟩,t⟩];simp[h0]
def wT(Y:F inn<=256):Ev (λn=>PI n inn)<|Ch inn<|F inn:=by
 have key:∀(k i:U),i+k=F inn->Ev (λn=>Kz inn n<|WR inn i) (Ch inn<|F inn):=by
  intro k
  induction k with
  |zero=>
   intro i e;have e:i=F inn:=Z2
   subst e;refine Ev.one λn=>?_
   unfold WR
   by_cases h0:Ch inn (F inn)= []
   ·rw[zAB h0,h0]
    show XX n (Kz inn n) inn (F inn:E)=_
    unfold XX;rw[zAF Z2,zAJ]
   ·rw[zAt h0]
    show XW n (Kz inn n) inn (F<|Ch inn<|F inn) (F inn:E) (Ch inn<|F inn)=_
    unfold XW;rw[zAF Z2,zAJ,zAB rfl]
  |succ k a=>exact λi e=>AX.ev (AX.one λn=>zKk Y Z2)<|a (i+1) Z2
 exact(key (F inn) 0 Z2).eq λn=>rfl
def wK(G:Gr g)(Y:F inn=F g)(h0:0<=s)(a:s<(F g:E)):∃o,Vx g inn s o/\Ev (λn=>ME n g inn s) o:=(zIp G Y h0 a).ev λ_ _ h h'=>Vx.uniq h h'
def Ld(g:O Ξ)(inn:Ω)(i:U):Prop:=M inn i D=T/\∀v,v<i->¬Rc g inn (i:E) (v:E)
noncomputable def MY (g:O Ξ)(inn:Ω)(k:U):U:=F<|(θ k).filter λi=>decide (Ld g inn i)
def m7 :MY g inn (k+1)=MY g inn k+C (Ld g inn k) 1 0:=by
 unfold MY;rw[zO5,zTF,zAi]
 by_cases h:Ld g inn k <;> simp[h]
def WS(i:U)(o:O Ξ):Va:=C (o= []) (.l1 (i:E))<|.l2 (F o) (i:E) o
def iy(G:Gr g)(Y:F inn=F g):∀(k i:U) (o:O Ξ),i+k=F g->F o=MY g inn i->F o<=i->∃r,Ev (λn=>H7 g inn n<|WS i o) r/\r.2=0/\F r.1=MY g inn (F g)
 |0,i,o,e,x,_=>by
  have e:i=F g:=Z2
  subst e;refine⟨(o,0),Ev.one λn=>?_,rfl,x⟩;unfold WS
  by_cases h0:o= []
  ·rw[zAB h0,h0]
   show OO n (H7 g inn n) g inn (F g:E)=_
   unfold OO;rw[zAF Z2,zAJ]
  ·rw[zAt h0]
   show ON n (H7 g inn n) g inn (F o) (F g:E) o=_
   unfold ON;rw[zAF Z2,zAJ,zAB rfl]
 |k+1,i,o,e,x,hoi=>by
  have P:=G.len;have Ϝ:Av=1000000000000:=rfl;have hi:i<F g:=Z2
  have a:AI<|(i:E)+1:=Ae.2 ⟨Z2,Z2⟩;have q:((i+1:U):E)=(i:E)+1:=Z2
  cases b:M inn i D with
  |false=>
   have J:¬Ld g inn i:=λh=>by rw[h.1]at b;cases b
   obtain⟨r,c,j⟩:=iy G Y k (i+1) o Z2 (by rw[m7,zAt J];exact x) Z2;refine⟨r,AX.ev (m:=H7 g inn) (AX.one λn=>?_) c,j⟩;unfold WS;rw[q]
   by_cases h0:o= []
   ·rw[zAB h0,zAB h0]
    show OO n (H7 g inn n) g inn (i:E)=_
    unfold OO;rw[zAA Z2,zAI,zAB ⟨Z2,Z2⟩,u8,b,zMd,zAI,zAB a]
   ·rw[zAt h0,zAt h0]
    show ON n (H7 g inn n) g inn (F o) (i:E) o=_
    unfold ON;rw[zAA Z2,zAI,zAB ⟨Z2,Z2⟩,u8,b,zMd,zAI,zAB a]
  |true=>
   obtain⟨m,z,N,I⟩:=wK (s:=(i:E)) G Y Z2 Z2;obtain⟨ϗ,l⟩:=wT (inn:=m) (by rw[z.1];exact P);have u:M m i D=T:=(z.2 i hi).2 .start;obtain⟨f,f1,Q,R,t,S⟩:=qQ (p:=λi=>M m i D) (F m) ⟨i,by rw[z.1];exact hi,u⟩;have W:Ch m (F m)=(f:E)::t.map λi:U=>(i:E):=by unfold Ch;rw[S];rfl
   have I:∀n,N<=n->ME n g inn (i:E)=Z m:=I;have l:∀n,ϗ<=n->PI n m=Z ((f:E)::t.map λi:U=>(i:E)):=λn w=>by rw[←W];exact l n w
   have U3:f<=i:=zQM λh=>by
    rw[R i h]at u;cases u
   by_cases J:Ld g inn i
   ·have K:f=i:=by
     refine Classical.byContradiction λy=>J.2 f Z2<|(z.2 f Z2).1 Q
    obtain⟨r,c,j⟩:=iy G Y k (i+1) (o++[(f:E)::t.map λi:U=>(i:E)]) Z2 (by rw[m7,zAB J,zAi];simp;omega) (by rw[zAi];simp;omega);refine⟨r,AX.ev (m:=H7 g inn) (AX.oneN (max N ϗ) λn w=>?_) c,j⟩;unfold WS;rw[q,zAt<|show¬(o++[(f:E)::t.map λi:U=>(i:E)]= []) by simp]
    by_cases h0:o= []
    ·rw[zAB h0,h0]
     show OO n (H7 g inn n) g inn (i:E)=_
     unfold OO;rw[zAA Z2,zAI,zAB ⟨Z2,Z2⟩,u8,b,zMv,zAJ,I n Z2,zAD,l n Z2,zAD,zAB ⟨zCs _,Z3⟩,show(M ((f:E)::t.map λi:U=>(i:E)) 0 0==(i:E))=T by simp[K],zAI,zAB a];rfl
    ·rw[zAt h0]
     show ON n (H7 g inn n) g inn (F o) (i:E) o=_
     unfold ON;rw[zAA Z2,zAI,zAB ⟨Z2,Z2⟩,u8,b,zMv,zAJ,I n Z2,zAD,l n Z2,zAD,zAB ⟨zCs _,Z3⟩,show(M ((f:E)::t.map λi:U=>(i:E)) 0 0==(i:E))=T by simp[K],zAI,zAB ⟨rfl,Z7,a⟩,zAi]
   ·have K:f≠i:=λh=>J ⟨b,λv hv hR=>by
     have:=(z.2 v Z2).2 hR;rw[R v Z2]at this;cases this⟩
    obtain⟨r,c,j⟩:=iy G Y k (i+1) o Z2 (by rw[m7,zAt J];exact x) Z2;refine⟨r,AX.ev (m:=H7 g inn) (AX.oneN (max N ϗ) λn w=>?_) c,j⟩;unfold WS;rw[q]
    have y:(M ((f:E)::t.map λi:U=>(i:E)) 0 0==(i:E))=D:=by
     show((f:E)==(i:E))=D
     exact zMS.2 Z2
    by_cases h0:o= []
    ·rw[zAB h0,zAB h0]
     show OO n (H7 g inn n) g inn (i:E)=_
     unfold OO;rw[zAA Z2,zAI,zAB ⟨Z2,Z2⟩,u8,b,zMv,zAJ,I n Z2,zAD,l n Z2,zAD,zAB ⟨zCs _,Z3⟩,y,zAJ,zAB a]
    ·rw[zAt h0,zAt h0]
     show ON n (H7 g inn n) g inn (F o) (i:E) o=_
     unfold ON;rw[zAA Z2,zAI,zAB ⟨Z2,Z2⟩,u8,b,zMv,zAJ,I n Z2,zAD,l n Z2,zAD,zAB ⟨zCs _,Z3⟩,y,zAJ,zAB a]
def zBc(G:Hr g)(Y:F inn=F g):∃r,Ev (λn=>iz n g inn) r/\r.2=0/\F r.1=MY g inn (F g):=by
 obtain⟨r,a,c⟩:=iy G.gr Y (F g) 0 [] Z2 rfl (zAf _);refine⟨r,Ev.bind (wM G) ?_,c⟩;refine a.eq λn=>?_
 show(L ((0:E) != 0) _<|L ((F inn:E) != (F g:E)) _ _)=_
 rw[Y,show((F g:E) != (F g:E))=D by simp];rfl
def nS(G:Gr g){u:U}(t:u<F g)(b:M inn u D=T):∃a,a<F g/\Ld g inn a/\Rc g inn (u:E) (a:E):=by
 obtain⟨a,c,e,k,_⟩:=qQ (p:=λv=>decide (Rc g inn (u:E) (v:E))) (F g) ⟨u,t,zAA .start⟩;have hR:Rc g inn (u:E) (a:E):=zM0 e;refine⟨a,c,⟨?_,λv o h=>?_⟩,hR⟩
 ·have:=hR.isIn (by rw[u8];exact b)
  rwa[u8]at this
 ·exact of_decide_eq_false (k v o)<|hR.trans h
def zKN(G:Gr g):MY g inn (F g)=0↔∀v,v<F g->M inn v D=D:=by
 unfold MY;rw[zOm,zTI];constructor
 ·intro h v o;cases b:M inn v D with
  |false=>rfl
  |true=>
   obtain⟨a,c,e,_⟩:=nS G o b;exact τ (zAA e)<|h a<|zAV.2 c
 ·intro h i hi r;have:=(zM0 r).1;rw[h i<|zAV.1 hi]at this;cases this
def zK6{l:Θ}(s:l.Nodup):F l<=1↔∀a∈l,∀b∈l,a=b:=by
 match l,s with
 |[],_=>simp
 |[x],_=>simp
 |x::y::l,s=>
  refine zM2 Z3 λh=>?_
  have:=h x Z3 y Z3;subst this;simp at s
def zKO(G:Gr g):MY g inn (F g)<=1↔Hs g inn:=by
 unfold MY;rw[zK6<|List.Nodup.sublist zTf zQJ];constructor
 ·intro h u v t o f m;obtain⟨a,x,p,a3⟩:=nS G t f;obtain⟨b,z,s,i⟩:=nS G o m;have e:=h a (zOR.2 ⟨zAV.2 x,zAA p⟩) b<|zOR.2 ⟨zAV.2 z,zAA s⟩;subst e;exact a3.trans (i.symm G Z2 Z2<|by rw[u8];exact m)
 ·intro c a P b j;obtain⟨x,p⟩:=zOR.1 P;obtain⟨z,s⟩:=zOR.1 j;have x:=zAV.1 x;have z:=zAV.1 z;have p:=zM0 p;have s:=zM0 s;rcases Nat.lt_trichotomy a b with h|h|h
  ·exact τ (c b a z x s.1 p.1)<|s.2 a h
  ·exact h
  ·exact τ (c a b x z p.1 s.1)<|p.2 b h
end
end
end Go.Proofs.YtnkpdcmbppkkpaaGreatDoor
