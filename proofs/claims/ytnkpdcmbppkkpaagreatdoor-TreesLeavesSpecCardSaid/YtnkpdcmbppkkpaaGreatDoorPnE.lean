/- Part 5 of 8 of what the proofs of these laws stand on. -/
import Derived.Test.YtnkpdcmbppkkpaaGreatDoorPnD
set_option linter.all false
open And renaming intro->γ
open Bool renaming true->D,false->T
open Decidable renaming decide->C
open Eq renaming refl->φ
open Go renaming World->κ,Value->μ,Program->ν
open Go.Fence renaming wide->η
open Go.Proofs.Tryz renaming prog->L
open Inhabited renaming default->ξ
open List renaming length->F,getD->H,replicate->d,range->θ
open Nat.le renaming refl->χ
open Option renaming none->A,some->Z
open _root_ renaming cond->B,Nat->E,Option->M,List->O,Int->U,ite->u,Bool->ζ,absurd->τ,Array->υ
namespace Go.Proofs.YtnkpdcmbppkkpaaGreatDoor
open Go.RowKit
abbrev zLY:=@List.foldl_cons
abbrev zMk:=@List.countP_eq_length_filter
abbrev zSC:=@List.take_length
section
variable{c:AD}{k:E}{pos lost:Ξ}{q:AA}
structure Ee(c:AD)(q:AA)(pos:Ξ):Prop where
 len:F c.ce=F pos
 id:∀j,j<F pos->H c.ce j 0=(j:U)
 g:Fw q.nb
 gl:F q.nb=F pos
 l0:0<F pos
 l1:F pos<=256
 nz:∀j,j<F pos->CB (H pos j 0)/\H pos j 0≠0
def pB(c:AD)(pos:Ξ):Ω:=pos.map λx=>bits .and .i64 x c.set != 0
def cB(c:AD)(pos:Ξ):Ω:=pos.map λx=>bits .andNot .i64 x c.set==0
theorem Ha:F (pB c pos)=F pos:=zKB _
theorem IL:F (cB c pos)=F pos:=zKB _
variable{j:E}
theorem vE(hj:j<F pos):H (pB c pos) j T=(bits .and .i64 (H pos j 0) c.set != 0):=by
 grind[pB]
theorem zAA(hj:j<F pos):H (cB c pos) j T=(bits .andNot .i64 (H pos j 0) c.set==0):=by
 grind[cB]
def Ee.cp(W:Ee c q pos)(l:j<F pos)(h:H (cB c pos) j T=D):H (pB c pos) j T=D:=by
 rw[zAA l,zKq]at h;rw[vE l,zM8];obtain⟨a,e⟩:=W.nz j l;obtain⟨s,p,b⟩:=(Lw a).1 e;have m:=(NJ<|D5 .andNot _ _).1 h s p;rw[IT,b,zM4,Bool.not_eq_false']at m;exact(Lw<|D5 .and _ _).2 ⟨s,p,by rw[FG,b,m];rfl⟩
def CP(pos lost:Ξ)(ϒ:E->Ψ)(l:Ξ):Prop:=(F l=F pos/\∀j,CB<|H l j 0)/\∀j s,tb (H l j 0) s=D↔tb (H lost j 0) s=D∨(j<F pos/\tb (H pos j 0) s=D/\ϒ j s)
variable{l l':Ξ}{ϒ:E->Ψ}
theorem CP.unique(h:CP pos lost ϒ l)(h':CP pos lost ϒ l'):l=l':=by
 have e:F l=F l':=h.1.1.trans h'.1.1.symm;refine zOj e λj a c=>?_
 have R:H l j 0=l[j]:=by simp[a]
 have X:H l' j 0=l'[j]:=by simp[c]
 rw[←R,←X];refine Iz (h.1.2 j) (h'.1.2 j) λs _=>?_
 grind[CP]
theorem CP.by(W:Ee c q pos)(h:CP pos lost ϒ l):B4 c pos lost (F c.ce) ϒ l:=by
 refine⟨h.1.1,λj s=>?_⟩;have hl:=W.len;rw[h.2];constructor
 ·rintro(b|⟨b,f,m⟩)
  ·exact .inl b
  ·have e:=W.id j b
   grind[AY]
 ·rintro(b|⟨a,b,f,m,h4⟩)
  ·exact .inl b
  ·have e:=W.id a Z2
   grind[AY]
variable{D':E->Ψ}
theorem CP.step(h:CP pos lost ϒ l)(hl:F l'=F pos)(Dm:∀j,CB<|H l' j 0){ι:E->Ψ}(h1:∀j s,tb (H l' j 0) s=D↔tb (H l j 0) s=D∨(j<F pos/\tb (H pos j 0) s=D/\ι j s))
 (hD:∀j s,j<F pos->tb (H pos j 0) s=D->(D' j s↔ϒ j s∨ι j s)):CP pos lost D' l':=by
 grind[CP]
def CP.id'(h:CP pos lost ϒ l)(a:∀j s,j<F pos->tb (H pos j 0) s=D->(D' j s↔ϒ j s)):CP pos lost D' l:=
 h.step (ι:=λ_ _=>False) h.1.1 h.1.2 (λj s=>Z3) λj s b c=>by rw[a j s b c,or_false]
variable{cell:U}
theorem CP.lose(h:CP pos lost ϒ l){ss:U}(h0:0<=cell)(a:cell<(F pos:U))(b:∀j s,j<F pos->tb (H pos j 0) s=D->(D' j s↔ϒ j s∨((j:U)=cell/\tb ss s=D))):
 ∃l',(∀n,D0 n cell ss c q pos (F pos) l=Z l')/\CP pos lost D' l':=by
 obtain⟨l',e,f,m,h4⟩:=wA (ss:=ss) (c:=c) (q:=q) h0 a h.1.1 h.1.2;refine⟨l',e,h.step f m (ι:=λj s=>(j:U)=cell/\tb ss s=D) (λj s=>?_) b⟩
 grind
theorem CP.only(h:CP pos lost ϒ l)(h0:0<=cell)(a:cell<(F pos:U))(b:∀j s,j<F pos->tb (H pos j 0) s=D->(D' j s↔ϒ j s∨((j:U)=cell/\tb c.set s=T))):
 ∃l',(∀n,Hb n cell c q pos (F pos) l=Z l')/\CP pos lost D' l':=by
 obtain⟨l',e,f,m,h4⟩:=kn (c:=c) (q:=q) h0 a h.1.1 h.1.2;refine⟨l',e,h.step f m (ι:=λj s=>(j:U)=cell/\tb c.set s=T) (λj s=>?_) b⟩
 grind
def EJ(l:Ω)(r:U):Prop:=(r= -1/\∀j,j<F l->H l j T=T)∨(0<=r/\r<(F l:U)/\H l r.toNat T=D/\∀j:E,(j:U)<r->H l j T=T)
theorem lq{l:Ω}(hl:F l<=256):∃r,Ev (λn=>dj n l D) r/\EJ l r:=by
 have key:∀(k i:E),i+k=F l->(∀j,j<i->H l j T=T)->∃r,Ev (λn=>OV l D n<|.l1 (i:U)) r/\EJ l r:=by
  intro k
  induction k with
  |zero=>
   intro i e h;refine⟨-1,⟨1,λn b=>?_⟩,.inl ⟨rfl,λj a=>h j Z2⟩⟩;obtain⟨n,rfl⟩:∃k,n=k+1:=⟨n-1,Z2⟩
   simp_all[dh,OV]
  |succ k c=>
   intro i e h
   have ε:∀n,OV l D (n+1) (.l1 (i:U))=B (H l i T) (Z (i:U)) (OV l D n<|.l1<|(i:U)+1):=λn=>by
    show dh n (OV l D n) l D (i:U)=_
    unfold dh;rw[zAB Z2,zAG,zAF ⟨Z2,Z2⟩,u8,zAF<|AZ.2 ⟨Z2,Z2⟩];cases H l i T <;> rfl
   cases hi:H l i T
   ·obtain⟨r,f,g⟩:=c (i+1) Z2 λj a=>by
     grind
    refine⟨r,Ev.step 1 (λn=>?_) f,g⟩;rw[ε,hi,zAD];rfl
   ·refine⟨(i:U),⟨1,λn b=>?_⟩,.inr ⟨Z2,Z2,Z4,λj a=>h j Z2⟩⟩;obtain⟨n,rfl⟩:∃k,n=k+1:=⟨n-1,Z2⟩
    grind
 exact key (F l) 0 Z2 λj a=>τ a<|zBT j
theorem ny{l l':Ω}(h:F l=F l')(h2:∀j,j<F l->H l j T=H l' j T):l=l':=by
 grind[List.ext_getElem]
theorem Yb{l:Ω}{i:E}{b:ζ}(hi:i<F l):H (l.set i b) j T=u (j=i) b (H l j T):=by
 grind
def E0(c:AD)(q:AA)(pos:Ξ)(a s:E):Prop:=H (pB c pos) a T=D/\tb c.set s=D/\∃r:U,0<=r/\EJ (cB c pos) r/\¬Rc q.nb (pB c pos) r a
variable{r:U}
theorem EJ.uniq{l:Ω}{N:U}(h:EJ l r)(h':EJ l N):r=N:=by
 grind[EJ]
theorem pj(G:Fw q.nb)(hB:F (pB c pos)=F q.nb)(Gh:0<=r)(hF:EJ (cB c pos) r){s:E}:E0 c q pos j s↔H (pB c pos) j T=D/\tb c.set s=D/\¬Rc q.nb (pB c pos) r j:=by
 grind[E0,EJ]
def Rj(c:AD)(q:AA)(pos lost:Ξ)(r:U)(x:Ω×Ω×ζ×Ξ):Prop:=x.1=pB c pos/\x.2.1=cB c pos/\x.2.2.1=C (0<=r)/\CP pos lost (E0 c q pos) x.2.2.2
theorem Rj.uniq(x y:Ω×Ω×ζ×Ξ)(h:Rj c q pos lost r x)(h':Rj c q pos lost r y):x=y:=by
 obtain⟨x1,x2,x3,f⟩:=x;obtain⟨y1,y2,y3,Q⟩:=y;obtain⟨h1,h2,h3,W⟩:=h;obtain⟨Xh,h2',h3',G⟩:=h';have e4:f=Q:=W.unique G
 grind
theorem zIf{n:E}(W:Ee c q pos)(N:CP pos lost (λ_ _=>False) lost)(z:0<=r)(y:EJ (cB c pos) r){near:Ξ}(hn:F near<=256)(k:∀v,v∈near↔Rc q.nb (pB c pos) r v)(xc:600<=n):
 ∃x,FK c q pos (F pos) lost n (.l2 (pB c pos) (F<|pB c pos) near (F near:U) 0 (cB c pos)<|pB c pos)=Z x/\Rj c q pos lost r x:=by
 have Gj:=W.l1;have G:=W.gl
 have J:r<(F q.nb:U):=by
  grind[EJ,cB]
 have Q:∀v∈near,0<=v/\v<(F pos:U):=λv K=>by
  have:=((k v).1 K).rng W.g.gr z J;omega
 have S:=Ih (λn (w:Ω) i=>FK c q pos (F pos) lost n<|.l2 (pB c pos) (F<|pB c pos) near (F near:U) i (cB c pos) w) (F near) (F pos+3)
  (λi w=>F w=F pos/\∀j:E,H w j T=D↔H (pB c pos) j T=D/\(j:U)∉near.take i) (λn i w P hi m=>?_) (n:=n) (s:=pB c pos) Z2 ⟨Ha,λj=>Z3⟩
 ·obtain⟨o,w,Hg,_,R,hfl,I⟩:=S;obtain⟨a,rfl⟩:∃a,o=a+1:=⟨o-1,Z2⟩;rw[zSC]at I
  have ϑ:=Ih (λn (o1:Ξ) i=>FK c q pos (F pos) lost n<|.l3 (pB c pos) (F<|pB c pos) (F<|pB c pos:U) i o1 (cB c pos) w) (F pos) 1
   (λi o1=>CP pos lost (λj s=>j<i/\E0 c q pos j s) o1) (λn i o1 P hi m=>?_) (n:=a) (s:=lost) Z2 (N.id' λj s _ _=>⟨λh=>τ h.1<|zBT j,λh=>h.elim⟩)
  ·obtain⟨p,o1,Of,_,e2,V⟩:=ϑ;obtain⟨t,rfl⟩:∃t,p=t+1:=⟨p-1,Z2⟩;refine⟨(pB c pos,cB c pos,D,o1),?_,rfl,rfl,(zAB z).symm,V.id' λj s l _=>⟨λh=>⟨l,h⟩,λh=>h.2⟩⟩;refine Eq.trans R ?_
   show WY a (FK c q pos (F pos) lost a) c q pos (F pos) lost (pB c pos) (F<|pB c pos) near (F near:U) (F near:U) (cB c pos) w=_
   unfold WY
   simp_all[cW,FK,cB,Ha]
  ·show∃X,cW n (FK c q pos (F pos) lost n) c q pos (F pos) lost (pB c pos) (F<|pB c pos) (F<|pB c pos:U) (i:U) o1 (cB c pos) w=_/\_
   unfold cW;simp only[u8,zKx];have Y:AG<|(i:U)+1:=AZ.2 ⟨Z2,Z2⟩;rw[Ha,zAB Z2,zAG,zAF ⟨⟨Z2,Z2⟩,Z2⟩];have eA:H w i T=D↔H (pB c pos) i T=D/\¬Rc q.nb (pB c pos) r i:=by rw[I,k]
   cases hf:H w i T
   ·rw[zAD,zAF Y];refine⟨o1,rfl,m.id' λj s l _=>⟨λh=>⟨?_,h.2⟩,λh=>⟨Z2,h.2⟩⟩⟩;rcases zIY.1 h.1 with f|rfl
    ·exact f
    ·have b:=(pj W.g (by rw[Ha];exact G.symm) z y).1 h.2
     grind
   ·obtain⟨l',e,b⟩:=m.lose (c:=c) (q:=q) (D':=λj s=>j<i+1/\E0 c q pos j s) (cell:=(i:U)) (ss:=c.set) Z2 Z2 λj s l _=>by
     constructor
     ·grind[E0]
     ·rintro(⟨f,b⟩|⟨f,b⟩)
      ·exact⟨Z2,b⟩
      ·obtain rfl:j=i:=Z2
       grind[E0]
    grind
 ·obtain⟨hl,hf⟩:=m;have hx:H near i 0∈near:=Z4
  have J5:=Q _ hx
  show∃X,WY n (FK c q pos (F pos) lost n) c q pos (F pos) lost (pB c pos) (F<|pB c pos) near (F near:U) (i:U) (cB c pos) w=_/\_
  unfold WY;simp only[u8,zKx];rw[Ha,zAB Z2,zAG,zAF ⟨⟨Z2,Z2⟩,J5,Z2,AZ.2 ⟨Z2,Z2⟩⟩];refine⟨_,rfl,Z4,λj=>?_⟩
  have e3:near.take (i+1)=near.take i++[H near i 0]:=by
   simp_all
  grind[Yb,pB,cB]
theorem vW(W:Ee c q pos)(N:CP pos lost (λ_ _=>False) lost)(o:EJ (cB c pos) r):
 ∃l,Ev (λn=>QJ n c q pos (F pos) lost) (pB c pos,cB c pos,C<|0<=r,l)/\CP pos lost (E0 c q pos) l:=by
 have K:=W.l1;have P:=W.gl;have Ap:=W.len;have ϙ:(1000000000000:E)=Aw:=rfl
 suffices ϗ:Ag (λn=>QJ n c q pos (F pos) lost) (Rj c q pos lost r) by
  obtain⟨x,a,f⟩:=ϗ.ev Rj.uniq
  grind[Rj]
 have first:∀n,FK c q pos (F pos) lost (n+F c.ce) (.l1 0 (d (F pos) T)<|d (F pos) T)=FK c q pos (F pos) lost n (.l1 (F c.ce:U) (pB c pos)<|cB c pos):=λn=>by
  have z:∀j:E,H (d (F pos) T) j T=T:=λj=>by
   grind
  obtain⟨S,e,a,f,w,y⟩:=dB (λn (s:Ω×Ω) i=>FK c q pos (F pos) lost n<|.l1 i s.1 s.2) (F c.ce) 0
   (λi s=>F s.1=F pos/\F s.2=F pos/\(∀j,H s.1 j T=u (j<i) (H (pB c pos) j T) T)/\(∀j,H s.2 j T=u (j<i) (H (cB c pos) j T) T))
   (λn i s _ hi Q=>by
    obtain⟨k,o3⟩:=s;obtain⟨a,f,w,y⟩:=Q;have a:F k=F pos:=a;have f:F o3=F pos:=f;have hid:=W.id i Z2
    show∃S,cX n (FK c q pos (F pos) lost n) c q pos (F pos) lost (i:U) k o3=_/\_
    unfold cX;simp only[u8,zKx,hid];rw[zAB Z2,zAG,zAF ⟨⟨Z2,Z2⟩,⟨Z2,Z2⟩,Z2,Z2,AZ.2 ⟨Z2,Z2⟩⟩];refine⟨(_,_),rfl,Z4,Z4,λj=>?_,λj=>?_⟩
    ·show H (k.set i _) j T=_
     rw[Yb Z2]
     grind[pB]
    grind[cB,EJ])
   (F c.ce) 0 n (d (F pos) T,d (F pos) T) Z2 Z2 ⟨zK7,zK7,λj=>Z4,λj=>Z4⟩
  grind[ny,Ha,IL]
 have start:∀n,QJ n c q pos (F pos) lost=FK c q pos (F pos) lost n (.l1 0 (d (F pos) T)<|d (F pos) T):=λn=>by
  grind[QJ,vY]
 refine Ag.eq (Ag.step (F c.ce+1) (g:=λn=>(dj n (cB c pos) D).bind λG=>B (C<|G<0) (u (F pos=F (pB c pos)) (Z (pB c pos,cB c pos,T,lost)) A)<|u (F pos=F (pB c pos)) ((RG n<|pB c pos).bind λI=>(UZ n q.nb (pB c pos) G).bind λy3=>FK c q pos (F pos) lost n<|.l2 (pB c pos) (F I) y3.1 (F y3.1:U) 0 (cB c pos) I) A) (λn=>?_) ?_) start
 ·rw[show n+(F c.ce+1)=n+1+F c.ce by omega,first]
  simp_all[cX,FK,cB]
 ·obtain⟨R,a,f⟩:=lq (l:=cB c pos) (by rw[IL];exact K);obtain rfl:=o.uniq f;refine Ag.bind a ?_
  by_cases m:0<=r
  ·have BF:∀n,RG n (pB c pos)=Z (pB c pos):=λn=>by
    grind[RG,oQ,pB,EJ,cB]
   obtain⟨Qg,t⟩:r<(F pos:U)/\H (cB c pos) r.toNat T=D:=by
    grind[cB,EJ]
   have v:=W.cp Z2 t;refine Ag.eq (Ag.bindU (zP0 W.g (by rw[Ha];exact P.symm) m Z2 v) (b:=λn y3=>FK c q pos (F pos) lost n<|.l2 (pB c pos) (F<|pB c pos) y3.1 (F y3.1:U) 0 (cB c pos)<|pB c pos) ⟨600,λn V x J=>zIf W N m o J.2.1 J.2.2 V⟩) λn=>?_
   simp_all[zAE,pB]
  ·refine Ev.p (r:=(pB c pos,cB c pos,T,lost)) (Ev.now λn=>?_) ⟨rfl,rfl,(zAE m).symm,N.id' λj s _ _=>⟨λh=>?_,λh=>h.elim⟩⟩
   ·simp_all[pB]
   ·obtain⟨_,_,R,w,y,_⟩:=h
    grind[EJ]
def KN(c:AD)(q:AA)(pos:Ξ)(a s:E):Prop:=E0 c q pos a s∨(H (pB c pos) a T=D/\H (cB c pos) a T=T/\Sp q.nb (pB c pos) (cB c pos) (a:U)/\tb c.set s=T)
theorem zPk(W:Ee c q pos)(J:CP pos lost (λ_ _=>False) lost):∃l,Ev (λn=>gC n c q pos (F pos) lost) (D,l)/\CP pos lost (KN c q pos) l:=by
 have K:=W.l1;have t:=W.gl;obtain⟨r,_,P⟩:=lq (l:=cB c pos) (by rw[IL];exact K);obtain⟨l0,Q,S⟩:=vW W J P
 suffices ϗ:Ag (λn=>O4 c q pos (F pos) lost n<|.l1 (pB c pos) (cB c pos) (C<|0<=r) (F<|pB c pos:U) 0 l0) (λx=>x.1=D/\CP pos lost (KN c q pos) x.2) by
  obtain⟨x,⟨m,V⟩,h5⟩:=(Ag.bind Q (b:=λn f=>O4 c q pos (F pos) lost n<|.l1 f.1 f.2.1 f.2.2.1 (F f.1:U) 0 f.2.2.2) ϗ).ev λx y k hy=>by
   obtain⟨G,Y⟩:=x;obtain⟨f,y2⟩:=y;have R:G=D:=k.1;have X:f=D:=hy.1;have e3:Y=y2:=k.2.unique hy.2;rw[R,X,e3]
  obtain⟨G,Y⟩:=x;subst m;exact⟨Y,h5,V⟩
 obtain⟨N,hN⟩:=Ag.range (ϖ:=λ(i:E) n=>u (H (pB c pos) i T=D) (SN n q.nb (pB c pos) (cB c pos) i)<|Z (T,0)) (ο:=λi x=>H (pB c pos) i T=D->x.2=0/\(x.1=D↔Sp q.nb (pB c pos) (cB c pos) i)) (F pos) λi hi=>by
  by_cases h:H (pB c pos) i T=D
  ·refine((zB5 W.g (by rw[Ha];exact t.symm) (by rw[IL];exact t.symm) (a:=i) Z2 h).mono λx k _=>k).eq λn=>?_
   rw[zAF h]
  simp_all[Ag]
 refine⟨N+F pos+1,λn hn=>?_⟩
 have ϑ:=Ih (λn (o1:Ξ) i=>O4 c q pos (F pos) lost n<|.l1 (pB c pos) (cB c pos) (C<|0<=r) (F<|pB c pos:U) i o1) (F pos) (N+1)
  (λi o1=>CP pos lost (λa s=>E0 c q pos a s∨(a<i/\KN c q pos a s)) o1) (λn i o1 G9 hi v=>?_) (n:=n) (s:=l0) Z2 (S.id' λj s _ _=>⟨λh=>h.elim id λh=>τ h.1<|zBT j,.inl⟩)
 ·obtain⟨w,o1,Of,_,X,Gl⟩:=ϑ;obtain⟨z,rfl⟩:∃z,w=z+1:=⟨w-1,Z2⟩;refine⟨(D,o1),Eq.trans X ?_,rfl,Gl.id' λj s o _=>⟨λh=>.inr ⟨o,h⟩,λh=>h.elim .inl λh=>h.2⟩⟩
  grind[f9,O4,Ha]
 ·show∃s',f9 n (O4 c q pos (F pos) lost n) c q pos (F pos) lost (pB c pos) (cB c pos) (C<|0<=r) (F<|pB c pos:U) (i:U) o1=_/\_
  unfold f9;simp only[u8];have r1:AG<|(i:U)+1:=AZ.2 ⟨Z2,Z2⟩;have lp:F (pB c pos)=F pos:=Ha;have lc:F (cB c pos)=F pos:=IL;rw[lp,lc,zAB (p:=(i:U)<((F pos:E):U)) Z2,zAG]
  have skip:(∀s,¬(H (pB c pos) i T=D/\H (cB c pos) i T=T/\Sp q.nb (pB c pos) (cB c pos) (i:U)/\tb c.set s=T))->CP pos lost (λa s=>E0 c q pos a s∨(a<i+1/\KN c q pos a s)) o1:=λMg=>v.id' λj s o _=>by
   grind[KN]
  by_cases I:0<=r
  ·rw[zAB I,zLW,zAD,zAF ⟨Z2,Z2⟩];cases hp:H (pB c pos) i T
   ·grind
   ·cases hc:H (cB c pos) i T
    ·obtain⟨x,R,k⟩:=hN n Z2 i hi;obtain⟨_,k⟩:=k hp;cases hb:x.1
     ·grind
     ·obtain⟨l',e,m⟩:=v.only (c:=c) (q:=q) (D':=λa s=>E0 c q pos a s∨(a<i+1/\KN c q pos a s)) (cell:=(i:U)) Z2 Z2 λj s o _=>by
       constructor
       ·grind[KN]
       ·rintro((h|⟨h,m⟩)|⟨h,m⟩)
        ·exact .inl h
        ·exact .inr ⟨Z2,m⟩
        ·obtain rfl:j=i:=Z2
         grind[KN]
      grind
    grind
  ·rw[zAE I,zMj,zAG,zAF r1];refine⟨o1,rfl,skip λs h=>?_⟩
   grind[EJ,Sp]
def Bn(g:O Ξ)(S:Ω)(v:U):E:=(nb g v).countP λx=>H S x.toNat T
def dA(c:AD)(q:AA)(pos:Ξ):Prop:=∀v,v<F pos->H (cB c pos) v T=D->2<=Bn q.nb (pB c pos) v/\Bn q.nb (cB c pos) v<=2
def OK(c:AD)(q:AA)(pos:Ξ)(v a s:E):Prop:=H (cB c pos) v T=D/\(a:U)∈nb q.nb v/\H (pB c pos) a T=D/\((Bn q.nb (pB c pos) v=2/\tb c.set s=T)∨(Bn q.nb (cB c pos) v=2/\H (cB c pos) a T=T/\tb c.set s=D))
def Wk(c:AD)(q:AA)(pos:Ξ)(a s:E):Prop:=E0 c q pos a s∨∃v,v<F pos/\OK c q pos v a s
section
variable{P Ϙ:Ω}{o1:Ξ}{row:Ξ}{x20 x21:U}
def OG(P:Ω)(g:Ξ)(v:U):Ξ:=B (H P v.toNat T) (g++[v]) g
def MN(Ϙ:Ω)(x:U)(v:U):U:=B (H Ϙ v.toNat T) (x+1) x
theorem vR:∀(l g:Ξ),l.foldl (OG P) g=g++l.filter λx=>H P x.toNat T
 |[],g=>Z3
 |v::l,g=>by
  rw[zLY,vR l];unfold OG
  grind
theorem vm:∀(l:Ξ) (x:U),l.foldl (MN Ϙ) x=x+(l.countP λx=>H Ϙ x.toNat T:E)
 |[],x=>Z3
 |v::l,x=>by
  rw[zLY,vm l];unfold MN
  grind
def Jg(P Ϙ:Ω)(x20 x21:U)(row o1 g:Ξ)(x8 j:U):OM:=match g with
 |[]=>.l2 P Ϙ x8 x20 x21 row (F row:U) j o1
 |a::l=>.l3 P Ϙ (F<|a::l) x8 x20 x21 row (F row:U) j o1<|a::l
variable{x8:U}{g:Ξ}
theorem qz{j:U}(h:g≠[]):Jg P Ϙ x20 x21 row o1 g x8 j=.l3 P Ϙ (F g) x8 x20 x21 row (F row:U) j o1 g:=by
 cases g with
 |nil=>exact τ rfl h
 |cons a l=>rfl
variable{n:E}
theorem zIs{j:E}(hP:F P=F pos)(hC:F Ϙ=F pos)(k:∀ϛ∈row,0<=ϛ/\ϛ<(F pos:U))(hl:F row<=256)(hj:j<F row)(ho:F g<=256)(h8:0<=x8/\x8<=256):
 C0 c q pos (F pos) lost (n+1) (Jg P Ϙ x20 x21 row o1 g x8 j)=C0 c q pos (F pos) lost n (Jg P Ϙ x20 x21 row o1 (OG P g<|H row j 0) (MN Ϙ x8<|H row j 0)<|(j:U)+1):=by
 have ϙ:(1000000000000:E)=Aw:=rfl;have i:H row j 0∈row:=Z4
 have J5:=k _ i;have r1:AG<|(j:U)+1:=AZ.2 ⟨Z2,Z2⟩;have r8:AG<|x8+1:=AZ.2 ⟨Z2,Z2⟩;cases g with
 |nil=>
  show cx n (C0 c q pos (F pos) lost n) c q pos (F pos) lost P Ϙ x8 x20 x21 row (F row:U) (j:U) o1=_
  unfold cx OG MN
  grind[Jg]
 |cons a l=>
  grind[OG,qz,cw,C0,MN]
theorem vj(t:F P=F pos)(w:F Ϙ=F pos)(a:∀ϛ∈row,0<=ϛ/\ϛ<(F pos:U))(b:F row<=256):∀(k j n:E) (g:Ξ) (x8:U),j+k=F row->F g<=j->0<=x8/\x8<=(j:U)->
 C0 c q pos (F pos) lost (n+k) (Jg P Ϙ x20 x21 row o1 g x8 j)=C0 c q pos (F pos) lost n (Jg P Ϙ x20 x21 row o1 ((row.drop j).foldl (OG P) g) ((row.drop j).foldl (MN Ϙ) x8) (F row:U))
 |0,j,n,g,x8,e,_,_=>by
  grind
 |k+1,j,n,g,x8,e,h2,h8=>by
  have l:j<F row:=Z2
  have X:row.drop j=H row j 0::row.drop (j+1):=by
   simp_all
  rw[←zRk,zIs t w a b l Z2 Z2,X,zLY,zLY]
  have m:F (OG P g<|H row j 0)<=j+1:=by
   unfold OG
   grind
  have W:0<=MN Ϙ x8 (H row j 0)/\MN Ϙ x8 (H row j 0)<=((j+1:E):U):=by
   unfold MN
   grind
  exact vj t w a b k (j+1) n _ _ Z2 m W
theorem zAd{ϒ:E->Ψ}{near:Ξ}{v:E}(W:Ee c q pos)(k:CP pos lost ϒ o1)(K:∀ϛ∈near,0<=ϛ/\ϛ<(F pos:U))(Oe:F near<=256)(hv:v<F pos):
 ∃l',C0 c q pos (F pos) lost (n+1+F near) (.l4 (pB c pos) (cB c pos) (F near) x8 x20 (v:U) (F near) (F near:U) 0 o1 near)=C0 c q pos (F pos) lost n (.l1 (pB c pos) (cB c pos) x20 ((v:U)+1) l')/\
  CP pos lost (λa s=>ϒ a s∨((a:U)∈near/\((F near=2/\tb c.set s=T)∨(x8=2/\H (cB c pos) a T=T/\tb c.set s=D)))) l':=by
 have Gj:=W.l1;have lc:F (cB c pos)=F pos:=IL
 obtain⟨l',e,h⟩:=dB (λn (s:Ξ) i=>C0 c q pos (F pos) lost n<|.l4 (pB c pos) (cB c pos) (F near) x8 x20 (v:U) (F near) (F near:U) i s near) (F near) 0
  (λi s=>CP pos lost (λa t=>ϒ a t∨((a:U)∈near.take i/\((F near=2/\tb c.set t=T)∨(x8=2/\H (cB c pos) a T=T/\tb c.set t=D)))) s)
  (λn i s _ hi m=>by
   have l:H near i 0∈near:=Z4
   have b:=K _ l
   have e3:near.take (i+1)=near.take i++[H near i 0]:=by
    simp_all
   have r:AG<|(i:U)+1:=AZ.2 ⟨Z2,Z2⟩;have mem:∀a:E,(a:U)∈near.take (i+1)↔(a:U)∈near.take i∨(a:U)=H near i 0:=λa=>Z4
   obtain⟨l2,V,o⟩:=m.only (c:=c) (q:=q) (cell:=H near i 0) b.1 b.2 (D':=λa t=>(ϒ a t∨((a:U)∈near.take i/\((F near=2/\tb c.set t=T)∨(x8=2/\H (cB c pos) a T=T/\tb c.set t=D))))∨((a:U)=H near i 0/\tb c.set t=T)) λj s _ _=>Iff.rfl
   obtain⟨l3,p,hL3⟩:=o.lose (c:=c) (q:=q) (cell:=H near i 0) (ss:=c.set) b.1 b.2 (D':=λa t=>((ϒ a t∨((a:U)∈near.take i/\((F near=2/\tb c.set t=T)∨(x8=2/\H (cB c pos) a T=T/\tb c.set t=D))))∨((a:U)=H near i 0/\tb c.set t=T))∨((a:U)=H near i 0/\tb c.set t=D)) λj s _ _=>Iff.rfl
   obtain⟨l4,y,nK⟩:=m.lose (c:=c) (q:=q) (cell:=H near i 0) (ss:=c.set) b.1 b.2 (D':=λa t=>(ϒ a t∨((a:U)∈near.take i/\((F near=2/\tb c.set t=T)∨(x8=2/\H (cB c pos) a T=T/\tb c.set t=D))))∨((a:U)=H near i 0/\tb c.set t=D)) λj s _ _=>Iff.rfl
   show∃s',Wj n (C0 c q pos (F pos) lost n) c q pos (F pos) lost (pB c pos) (cB c pos) (F near) x8 x20 (v:U) (F near) (F near:U) (i:U) s near=_/\_
   unfold Wj;simp only[u8,zKx];rw[zAB Z2,zAG,zAF ⟨⟨Z2,Z2⟩,hi⟩];have Du:∀a:E,(a:U)=H near i 0->(H near i 0).toNat=a:=λa h=>Z2
   by_cases w:F near=2
   ·have g:(((F near:E):U)==2)=D:=by rw[w];rfl
    rw[g,zAG,V,zAC]
    by_cases f:x8=2
    ·have x:(x8==2)=D:=by rw[f];rfl
     rw[x,zAG,zAF ⟨Z2,Z2⟩];cases hc:H (cB c pos) (H near i 0).toNat T
     ·rw[zMj,zAG,p,zAC,zAF r]
      grind[CP]
     ·rw[zLW,zAD,zAF r]
      grind[CP]
    ·have x:(x8==2)=T:=zBE.2 f;rw[x,zAD,zAF r]
     grind[CP]
   ·have g:(((F near:E):U)==2)=T:=zBE.2 Z2;rw[g,zAD]
    by_cases f:x8=2
    ·have x:(x8==2)=D:=by rw[f];rfl
     rw[x,zAG,zAF ⟨Z2,Z2⟩];cases hc:H (cB c pos) (H near i 0).toNat T
     ·rw[zMj,zAG,y,zAC,zAF r]
      grind[CP]
     ·rw[zLW,zAD,zAF r]
      grind[CP]
    ·have x:(x8==2)=T:=zBE.2 f;rw[x,zAD,zAF r]
     grind[CP])
  (F near) 0 (n+1) o1 Z2 Z2 (k.id' λa t _ _=>Z3)
 refine⟨l',Eq.trans e ?_,h.id' λa t _ _=>by rw[zSC]⟩
 show Wj n (C0 c q pos (F pos) lost n) c q pos (F pos) lost (pB c pos) (cB c pos) (F near) x8 x20 (v:U) (F near) (F near:U) (F near:U) l' near=_
 unfold Wj;rw[zAE Z2,zAD,zAF<|AZ.2 ⟨Z2,Z2⟩]
end
def pT(c:AD)(q:AA)(pos lost:Ξ)(x:ζ×Ξ):Prop:=(x.1=D↔dA c q pos)/\(x.1=D->CP pos lost (Wk c q pos) x.2)
theorem zJN(W:Ee c q pos):∀(k v:E) (o1:Ξ),v+k=F pos->(∀ϛ,ϛ<v->H (cB c pos) ϛ T=D->2<=Bn q.nb (pB c pos) ϛ/\Bn q.nb (cB c pos) ϛ<=2)->CP pos lost (λa s=>E0 c q pos a s∨∃ϛ,ϛ<v/\OK c q pos ϛ a s) o1->
 Ag (λn=>C0 c q pos (F pos) lost n<|.l1 (pB c pos) (cB c pos) (F pos:U) (v:U) o1) (pT c q pos lost):=by
 have Gj:=W.l1;have Ez:=W.gl;have J:F (pB c pos)=F pos:=Ha;have P:F (cB c pos)=F pos:=IL;intro k
 induction k with
 |zero=>
  intro v o1 e f N;subst e;refine Ev.p (r:=(D,o1)) ⟨1,λn R=>?_⟩ ⟨⟨λ_ v t hc=>f v t hc,λ_=>rfl⟩,λ_=>N⟩;obtain⟨n,rfl⟩:∃k,n=k+1:=⟨n-1,Z2⟩
  simp_all[cy,C0]
 |succ k i=>
  intro v o1 e f N;have t:v<F pos:=Z2
  have r1:AG<|(v:U)+1:=AZ.2 ⟨Z2,Z2⟩
  have ε:∀n,C0 c q pos (F pos) lost (n+1) (.l1 (pB c pos) (cB c pos) (F pos:U) (v:U) o1)=B (H (cB c pos) v T) (C0 c q pos (F pos) lost n<|Jg (pB c pos) (cB c pos) (F pos:U) (v:U) (nb q.nb v) o1 [] 0 0) (C0 c q pos (F pos) lost n<|.l1 (pB c pos) (cB c pos) (F pos:U) ((v:U)+1) o1):=λn=>by
   show cy n (C0 c q pos (F pos) lost n) c q pos (F pos) lost (pB c pos) (cB c pos) (F pos:U) (v:U) o1=_
   unfold cy
   simp_all[Jg,nb]
  cases hc:H (cB c pos) v T
  ·refine Ag.step 1 (λn=>?_)<|i (v+1) o1 Z2 (λϛ b G=>?_)<|N.id' λa s _ _=>?_
   ·rw[ε,hc,zAD];rfl
   ·grind
   ·constructor
    ·rintro(h|⟨ϛ,b,h⟩)
     ·exact .inl h
     grind[OK]
    ·rintro(h|⟨ϛ,b,h⟩)
     ·exact .inl h
     grind
  ·have S:=W.g.gr.row (v:U) Z2 Z2
   have Q:∀ϛ∈nb q.nb (v:U),0<=ϛ/\ϛ<(F pos:U):=λϛ b=>by
    have:=W.g.gr.rng (v:U) Z2 Z2 ϛ b;omega
   have ο:=λn=>vj (c:=c) (q:=q) (lost:=lost) (o1:=o1) (x20:=(F pos:U)) (x21:=(v:U)) J P Q S (F<|nb q.nb v) 0 n [] 0 Z2 Z3 ⟨zKw _,Z2⟩
   rw[zNZ,vR,vm,zLP,Int.zero_add]at ο;have X:Bn q.nb (pB c pos) v=F ((nb q.nb v).filter λx=>H (pB c pos) x.toNat T):=zMk;have Y:Bn q.nb (cB c pos) v=(nb q.nb v).countP λx=>H (cB c pos) x.toNat T:=rfl
   rw[←Y]at ο
   generalize mZ:((nb q.nb v).filter λx=>H (pB c pos) x.toNat T)=near at ο X
   have V:∀ϛ,ϛ∈near↔ϛ∈nb q.nb v/\H (pB c pos) ϛ.toNat T=D:=λϛ=>Z4
   have j:F near<=256:=by
    grind
   have K:∀ϛ∈near,0<=ϛ/\ϛ<(F pos:U):=λϛ b=>Q ϛ ((V ϛ).1 b).1
   have U2:∀n,C0 c q pos (F pos) lost (n+(F (nb q.nb v)+1)) (.l1 (pB c pos) (cB c pos) (F pos:U) (v:U) o1)=C0 c q pos (F pos) lost n (Jg (pB c pos) (cB c pos) (F pos:U) (v:U) (nb q.nb v) o1 near (Bn q.nb (cB c pos) v:U) (F<|nb q.nb v:U)):=λn=>by
    grind
   refine Ag.step _ U2 ?_
   by_cases hbad:Bn q.nb (pB c pos) v<2∨2<Bn q.nb (cB c pos) v
   ·have Mg:¬dA c q pos:=λh=>by have:=h v t hc;omega
    refine Ev.p (r:=(T,o1)) ⟨1,λn R=>?_⟩ ⟨⟨λh=>(by cases h),λh=>τ h Mg⟩,λh=>by cases h⟩;obtain⟨n,rfl⟩:∃k,n=k+1:=⟨n-1,Z2⟩;cases near with
    |nil=>
     grind[cx,C0,Jg]
    |cons a l=>
     grind[cw,C0,Bn,nb,Jg]
   ·have Ay:near≠[]:=by
     grind
    obtain⟨l',e4,z⟩:=zAd (c:=c) (q:=q) (lost:=lost) (o1:=o1) (near:=near) (x20:=(F pos:U)) (x8:=(Bn q.nb (cB c pos) v:U)) (n:=0) W N K j t;have e5:∀n,∃l',C0 c q pos (F pos) lost (n+1+F near) (.l4 (pB c pos) (cB c pos) (F near) (Bn q.nb (cB c pos) v:U) (F pos:U) (v:U) (F near) (F near:U) 0 o1 near)=C0 c q pos (F pos) lost n (.l1 (pB c pos) (cB c pos) (F pos:U) ((v:U)+1) l')/\_:=λn=>zAd (c:=c) (q:=q) (lost:=lost) (o1:=o1) (near:=near) (x20:=(F pos:U)) (x8:=(Bn q.nb (cB c pos) v:U)) (n:=n) W N K j t
    have IH:=i (v+1) l' Z2 (λϛ b G=>by
     grind) (z.id' λa s _ _=>by
     constructor
     ·rintro(h|⟨ϛ,b,h⟩)
      ·exact .inl<|.inl h
      ·rcases zIY.1 b with b|rfl
       ·grind
       ·obtain⟨m,o,w,y⟩:=h;refine .inr ⟨(V _).2 ⟨o,by simp_all⟩,?_⟩
        grind
     ·rintro((h|⟨ϛ,b,h⟩)|⟨m,o⟩)
      ·exact .inl h
      ·grind
      ·obtain⟨w,y⟩:=(V _).1 m;refine .inr ⟨v,Z2,hc,w,y,?_⟩
       grind)
    refine Ag.step (1+F near+1) (g:=λn=>C0 c q pos (F pos) lost n<|.l1 (pB c pos) (cB c pos) (F pos:U) ((v:U)+1) l') (λn=>?_) IH;obtain⟨l2,e6,I⟩:=e5 n;have:l2=l':=I.unique z
    grind[qz,cw,C0]
theorem zJO(W:Ee c q pos)(N:CP pos lost (λ_ _=>False) lost):Ag (λn=>cz n c q pos (F pos) lost)<|pT c q pos lost:=by
 have f:=W.l1;obtain⟨r,_,g⟩:=lq (l:=cB c pos) (by rw[IL];exact f);obtain⟨l0,i,j⟩:=vW W N g;refine Ag.bind i (b:=λn e=>C0 c q pos (F pos) lost n<|.l1 e.1 e.2.1 (F e.2.1:U) 0 e.2.2.2) ?_;have:=zJN (q:=q) W (F pos) 0 l0 Z2 (λϛ x=>τ x<|zBT ϛ)<|j.id' λa s _ _=>⟨λh=>h.elim id λ⟨ϛ,x,_⟩=>τ x<|zBT ϛ,.inl⟩
 grind[IL]
end
section
set_option maxRecDepth 100000
set_option maxHeartbeats 40000000
def zDv:Ac (Ah Tryz.f117 6) [([0,1,2,3,4,5,6,7,8],9),([10],11)] [12] []:=Z0
def zDw:Ac (Ah Tryz.f117 13) [] (θ 13) [13]:=Z0
def Eg:BG:=λi=>match i with
 |6=>.ord [([0,1,2,3,4,5,6,7,8],9),([10],11)] [12] []
 |13=>.ord [] (θ 13) [13]
 |_=>.no
def zMK(q:AA)(pos:Ξ):DH:=[oC<|AJ q,oC [.cst .nilFunc,.fn 136 0<|L1 [],.fn 137 0<|L1 [],.fn 138 0<|L1 [],.fn 139 0<|L1 [],.fn 140 0<|L1 [],.fn 141 0<|L1 [],.fn 142 0<|L1 [],.fn 143 0<|L1 [],.fn 144 0<|L1 []],oI<|d (F pos) (0:U)]
def Mc(q:AA)(pos:Ξ)(i:U):DH:=[oC<|AJ q,oC [.cst .nilFunc,.fn 136 0<|L1 [],.fn 137 0<|L1 [],.fn 138 0<|L1 [],.fn 139 0<|L1 [],.fn 140 0<|L1 [],.fn 141 0<|L1 [],.fn 142 0<|L1 [],.fn 143 0<|L1 [],.fn 144 0<|L1 []],oI<|d (F pos) (0:U),oI<|d (F pos) (0:U),oC<|AW (H q.cons i.toNat ξ)++AJ q++[.ints pos,.msl 3 1 0<|F pos]]
def zMJ(pos:Ξ)(q:AA)(i:U)(g:Ξ):DH:=[oI<|d (F pos) (0:U),oC<|AW (H q.cons i.toNat ξ)++AJ q++[.ints pos,.msl 2 1 0<|F pos],oI g]
def zMI(pos:Ξ)(q:AA)(i:U)(g o3:Ξ):DH:=[oI<|d (F pos) (0:U),oC<|AW (H q.cons i.toNat ξ)++AJ q++[.ints pos,.msl 2 1 0<|F pos],oI g,oI o3]
inductive WL where
 |l1 (o2:Ξ)
 |l2 (x10:E) (NE CR:U) (o2 o3:Ξ)
def ue(n:E)(self:WL->W6)(q:AA)(i:U)(pos:Ξ)(g:Ξ):W6:=(gJ n pos).bind λe=>self<|.l2 (F e) (F e:U) 0 g e
def WK(n:E)(self:WL->W6)(q:AA)(i:U)(pos:Ξ)(x10:E)(y G:U)(g o3:Ξ):W6:=B (C<|G<y) (u ((0<=G/\G<(x10:U))/\0+G.toNat<F o3/\(0<=G/\G<(F pos:U))/\0+G.toNat<F g/\AG (G+1)) (self<|.l2 x10 y (G+1) g<|o3.set (0+G.toNat)<|bits .andNot .i64 (H o3 (0+G.toNat) 0)<|H g (0+G.toNat) 0) A)<|u (x10=F o3) ((LJ n o3).bind λe=>B e (u (F pos=F (d (F pos) (0:U))) (Z<|d (F pos) (0:U)) A)<|Z o3) A
def kR(n:E)(self:WL->W6)(q:AA)(i:U)(pos:Ξ):W6:=u (((F pos:U):U)=(F pos:U)/\0<=(F pos:U)/\((F pos:U):U)<=1000000000000) ((LJ n pos).bind λe=>B e (u (F pos=F (d (F pos) (0:U))) (Z<|d (F pos) (0:U)) A)<|u (0<=i/\i<(F q.cons:U)) (B ((H q.cons i.toNat ξ).kind==0) A<|B ((H q.cons i.toNat ξ).kind==1) ((UP n (H q.cons i.toNat ξ) q pos (F pos)<|d (F pos) (0:U)).bind λr=>B (!r.1) (u (F pos=F (d (F pos) (0:U))) (Z<|d (F pos) (0:U)) A)<|self<|.l1 r.2)<|B ((H q.cons i.toNat ξ).kind==2) ((UV n (H q.cons i.toNat ξ) q pos (F pos)<|d (F pos) (0:U)).bind λr=>B (!r.1) (u (F pos=F (d (F pos) (0:U))) (Z<|d (F pos) (0:U)) A)<|self<|.l1 r.2)<|B ((H q.cons i.toNat ξ).kind==3) ((SH n (H q.cons i.toNat ξ) q pos (F pos)<|d (F pos) (0:U)).bind λr=>B (!r.1) (u (F pos=F (d (F pos) (0:U))) (Z<|d (F pos) (0:U)) A)<|self<|.l1 r.2)<|B ((H q.cons i.toNat ξ).kind==4) ((Ni n (H q.cons i.toNat ξ) q pos (F pos)<|d (F pos) (0:U)).bind λr=>B (!r.1) (u (F pos=F (d (F pos) (0:U))) (Z<|d (F pos) (0:U)) A)<|self<|.l1 r.2)<|B ((H q.cons i.toNat ξ).kind==5) ((Sf n (H q.cons i.toNat ξ) q pos (F pos)<|d (F pos) (0:U)).bind λr=>B (!r.1) (u (F pos=F (d (F pos) (0:U))) (Z<|d (F pos) (0:U)) A)<|self<|.l1 r.2)<|B ((H q.cons i.toNat ξ).kind==6) ((Rf n (H q.cons i.toNat ξ) q pos (F pos)<|d (F pos) (0:U)).bind λr=>B (!r.1) (u (F pos=F (d (F pos) (0:U))) (Z<|d (F pos) (0:U)) A)<|self<|.l1 r.2)<|B ((H q.cons i.toNat ξ).kind==7) ((QI n (H q.cons i.toNat ξ) q pos (F pos)<|d (F pos) (0:U)).bind λr=>B (!r.1) (u (F pos=F (d (F pos) (0:U))) (Z<|d (F pos) (0:U)) A)<|self<|.l1 r.2)<|B ((H q.cons i.toNat ξ).kind==8) ((gC n (H q.cons i.toNat ξ) q pos (F pos)<|d (F pos) (0:U)).bind λr=>B (!r.1) (u (F pos=F (d (F pos) (0:U))) (Z<|d (F pos) (0:U)) A)<|self<|.l1 r.2)<|B ((H q.cons i.toNat ξ).kind==9) ((cz n (H q.cons i.toNat ξ) q pos (F pos)<|d (F pos) (0:U)).bind λr=>B (!r.1) (u (F pos=F (d (F pos) (0:U))) (Z<|d (F pos) (0:U)) A)<|self<|.l1 r.2) A) A) A
def Jz(q:AA)(i:U)(pos:Ξ):E->WL->W6
 |0,_=>A
 |n+1,.l1 g=>ue n (Jz q i pos n) q i pos g
 |n+1,.l2 x10 y G g o3=>WK n (Jz q i pos n) q i pos x10 y G g o3
def K5(n:E)(q:AA)(i:U)(pos:Ξ):W6:=kR n (Jz q i pos n) q i pos
def zHo(n Ϝ:E)(N:Yd 0)(q:AA)(i:U)(pos:Ξ)(r:Ξ):WL->Prop:=px n Ϝ η N (FQ Tryz.f117 0 (.ints r) []) (Af Tryz.f117) λ
 | .l1 g=>(3,9,AI 69 [(2,.ints pos),(8,.msl 0 1 0<|F pos),(9,.ref 1 0)],[oI<|d (F pos) (0:U),oC<|AW (H q.cons i.toNat ξ)++AJ q++[.ints pos,.msl 2 1 0<|F pos],oI g])
 | .l2 x10 y G g o3=>(0,0,AI 69 [(8,.msl 0 1 0<|F pos),(9,.ref 1 0),(10,.msl 3 1 0 x10),(47,.i y),(48,.i G)],[oI<|d (F pos) (0:U),oC<|AW (H q.cons i.toNat ξ)++AJ q++[.ints pos,.msl 2 1 0<|F pos],oI g,oI o3])
def zHp(Ϝ:E)(N:Yd 0)(q:AA)(i:U)(pos:Ξ):Al (Jz q i pos) (zHo · Ϝ N q i pos):=ia (λ_=>rfl) λn G b r h=>by
 cases b
 case l1 o2=>
  revert r;apply gO;exact cn λe f=>jc (ES.snapNew (ds:=[.ints pos]) (zP4 f) (zMJ pos q i o2) (pJ Z5) rfl) (lN Eg [0,1,2,3] (G _ _ · n χ))
 case l2 x10 NE CR o2 o3=>
  intro o a;refine rd a λo a=>?_
  revert r;apply gO;exact bi 49 (jg zDw (gc (gn λj=>jg j (gc (gn λs=>jg s (gc (gi (gc (gi (jg j (jg s (gw 64 (lG (AK 9 Eg) [0,1,2,3] (G _ _ · o a))))))))))))))<|gn λj=>cn λe f=>jc (sb [.msl 3 1 0 x10] (QV f) (zMI pos q i o2 o3) ⟨Am.ints rfl j,trivial⟩)<|bi 66 (gn λs=>lF λp=>ez (AK 9 Eg) [6] [0] p [0]<|H0.g s)<|lF λp=>ez (AK 9 Eg) [6] [3] p [0]<|H0.g j
variable{pos:Ξ}{i:U}{q:AA}{n:E}
def zHn{r:Ξ}(h:K5 n q i pos=Z r):EQ 117 [.agg 5<|L1<|AJ q,.i i,.ints pos] [] (.ints r) [] D:=by
 have G:=λϜ N=>zHp Ϝ N q i pos n
 refine ot Tryz.func117 λϜ N=>?_
 revert r;apply gO;exact jt (gn λj=>jg j (cf QV (zMK q pos) λ_=>bi 18 (gn λs=>lF λp=>ez (AK 9 Eg) [6] [2] p [0]<|H0.g s) (jg zDv (gi (jg j (bn (λQ=>nO) (λQ=>bn (λJ=>jo 36 (AO.int (k:=.i64)<|zMo J) (jg (by decide:(0:U)<=1/\1<((10:E):U)) (ce zO4 [4,3] (Mc q pos i) λ_=>bi 42 (gn λy=>lF λp=>ez (AK 9 Eg) [6] [2] p [0]<|H0.g y) (lG (AK 9 Eg) [2,4,3] ((G Ϝ N) _ _ ·))))) (λJ=>bn (λV=>jo 36 (AO.int (k:=.i64)<|zMo V) (jg (by decide:(0:U)<=2/\2<((10:E):U)) (ce zPS [4,3] (Mc q pos i) λ_=>bi 42 (gn λy=>lF λp=>ez (AK 9 Eg) [6] [2] p [0]<|H0.g y) (lG (AK 9 Eg) [2,4,3] ((G Ϝ N) _ _ ·))))) (λV=>bn (λP=>jo 36 (AO.int (k:=.i64)<|zMo P) (jg (by decide:(0:U)<=3/\3<((10:E):U)) (ce zBn [4,3] (Mc q pos i) λ_=>bi 42 (gn λy=>lF λp=>ez (AK 9 Eg) [6] [2] p [0]<|H0.g y) (lG (AK 9 Eg) [2,4,3] ((G Ϝ N) _ _ ·))))) (λP=>bn (λK=>jo 36 (AO.int (k:=.i64)<|zMo K) (jg (by decide:(0:U)<=4/\4<((10:E):U)) (ce zFY [4,3] (Mc q pos i) λ_=>bi 42 (gn λy=>lF λp=>ez (AK 9 Eg) [6] [2] p [0]<|H0.g y) (lG (AK 9 Eg) [2,4,3] ((G Ϝ N) _ _ ·))))) (λK=>bn (λW=>jo 36 (AO.int (k:=.i64)<|zMo W) (jg (by decide:(0:U)<=5/\5<((10:E):U)) (ce zEu [4,3] (Mc q pos i) λ_=>bi 42 (gn λy=>lF λp=>ez (AK 9 Eg) [6] [2] p [0]<|H0.g y) (lG (AK 9 Eg) [2,4,3] ((G Ϝ N) _ _ ·))))) (λW=>bn (λX=>jo 36 (AO.int (k:=.i64)<|zMo X) (jg (by decide:(0:U)<=6/\6<((10:E):U)) (ce zQz [4,3] (Mc q pos i) λ_=>bi 42 (gn λy=>lF λp=>ez (AK 9 Eg) [6] [2] p [0]<|H0.g y) (lG (AK 9 Eg) [2,4,3] ((G Ϝ N) _ _ ·))))) (λX=>bn (λY=>jo 36 (AO.int (k:=.i64)<|zMo Y) (jg (by decide:(0:U)<=7/\7<((10:E):U)) (ce zIc [4,3] (Mc q pos i) λ_=>bi 42 (gn λy=>lF λp=>ez (AK 9 Eg) [6] [2] p [0]<|H0.g y) (lG (AK 9 Eg) [2,4,3] ((G Ϝ N) _ _ ·))))) (λY=>bn (λa=>jo 36 (AO.int (k:=.i64)<|zMo a) (jg (by decide:(0:U)<=8/\8<((10:E):U)) (ce zPl [4,3] (Mc q pos i) λ_=>bi 42 (gn λy=>lF λp=>ez (AK 9 Eg) [6] [2] p [0]<|H0.g y) (lG (AK 9 Eg) [2,4,3] ((G Ϝ N) _ _ ·))))) (λa=>bn (λb=>jo 36 (AO.int (k:=.i64)<|zMo b) (jg (by decide:(0:U)<=9/\9<((10:E):U)) (ce zJP [4,3] (Mc q pos i) λ_=>bi 42 (gn λy=>lF λp=>ez (AK 9 Eg) [6] [2] p [0]<|H0.g y) (lG (AK 9 Eg) [2,4,3] ((G Ϝ N) _ _ ·))))) λb=>nO)))))))))))))))
def ui(n:E)(q:AA)(i:U)(pos:Ξ):X8:=(Ua n q i pos).bind λe=>B (e != 0) (Z (([]:Ξ),e))<|(K5 n q i pos).bind λr=>Z (r,0)
def TG(n:E)(q:AA)(i:U)(pos:Ξ):X8:=ui n q i pos
def zHv{r:Ξ×U}(h:TG n q i pos=Z r):EQ 92 [.agg 5<|L1<|AJ q,.i i,.ints pos] [] (.tup 2<|L1 [.ints r.1,.i r.2]) [] D:=by
 unfold TG ui at h;refine ot Tryz.func92 λϜ N=>?_
 revert r;apply gO;exact cf zQA [oC<|AJ q] λe=>bi 14 (lF λp=>el AC [6,7] [] p [] H0 [.nils,.i e]<|AO.tupL (l:=[.nils,.i e]) (l':=[.ints ([]:Ξ),.i e]) rfl ⟨AO.ints_nil,Ab,trivial⟩)<|cf zHn [oC<|AJ q] λ_=>lE AC [6,7] []
end
abbrev zNB:=@Bool.not_eq_true
section
def DG(pos:Ξ):ζ:=pos.any (· ==0)
variable{pos:Ξ}
theorem JW :DG pos=T↔∀j,j<F pos->H pos j 0≠0:=by
 unfold DG;rw[List.any_eq_false];constructor
 ·simp_all
 ·intro h x i;obtain⟨j,hj,rfl⟩:=zLD i
  grind
variable{n:E}
theorem zg(hl:F pos<=LB)(a:F pos<n):YN n pos=Z (DG pos):=by
 have hb:LB<=9223372036854775806:=Z6
 have key:∀(k i n:E),i+k=F pos->k+1<=n->UU pos n (.l1 (i:U))=Z ((pos.drop i).any (· ==0)):=by
  intro k
  induction k with
  |zero=>
   intro i n e a;obtain⟨n,rfl⟩:∃k,n=k+1:=⟨n-1,Z2⟩
   simp_all[fj,UU]
  |succ k ih=>
   intro i n e a;obtain⟨n,rfl⟩:∃k,n=k+1:=⟨n-1,Z2⟩;have hi:i<F pos:=Z2
   have X:pos.drop i=H pos i 0::pos.drop (i+1):=by
    simp_all
   show fj n (UU pos n) pos (i:U)=_
   unfold fj;rw[zAB Z2,zAG,zAF ⟨Z2,Z2⟩,zAF<|AZ.2 ⟨Z2,Z2⟩,u8,X,List.any_cons]
   grind
 grind[YN,zf,DG]
theorem Wu(hl:F pos<=LB)(hn:F pos<n):LJ n pos=Z (DG pos):=by
 grind[LJ,ld,zg]
def posOk(q:AA)(pos:Ξ):ζ:=((F pos:U)==q.ce)&&pos.all λx=>decide (0<=x)&&C (x<2^q.sy.toNat)
def JA(q:AA)(pos:Ξ):U:=u (CN q) (u (posOk q pos) 0 250) 191
section
variable{q:AA}{i:U}{pos:Ξ}{n:E}
theorem kW(l:DK q)(a:CX q<=n)(hl:F pos<=LB)(G8:F pos<n):QF n q pos=Z (JA q pos):=by
 have hb:LB<=9223372036854775806:=Z6
 unfold QF ur JA;rw[ZH l a,zAC];cases t:CN q with
 |false=>rfl
 |true=>
  obtain⟨_,p,_⟩:=ER t;obtain⟨s,p2,j⟩:=bp p.1 p.2
  show(B ((F pos:U) != q.ce) (Z 250)<|QD q pos n<|.l1 0)=Z (u (posOk q pos=D) 0 250)
  unfold posOk
  by_cases r:(F pos:U)=q.ce
  ·have b:((F pos:U) != q.ce)=T:=by simpa using r
   have c:((F pos:U)==q.ce)=D:=by simpa using r
   rw[b,zAD,c,zM4]
   have key:∀(k i n:E),i+k=F pos->k+1<=n->QD q pos n (.l1 (i:U))=Z (u (((pos.drop i).all λx=>decide (0<=x)&&C (x<2^q.sy.toNat))=D) 0 250):=by
    intro k
    induction k with
    |zero=>
     intro i n e a;obtain⟨n,rfl⟩:∃k,n=k+1:=⟨n-1,Z2⟩
     simp_all[bq,QD]
    |succ k f=>
     intro i n e a;obtain⟨n,rfl⟩:∃k,n=k+1:=⟨n-1,Z2⟩;have hi:i<F pos:=Z2
     have X:pos.drop i=H pos i 0::pos.drop (i+1):=by
      simp_all
     have:=f (i+1) n Z2 Z2
     show bq n (QD q pos n) q pos (i:U)=_
     unfold bq;rw[zAB Z2,zAG,zAF ⟨Z2,Z2⟩,zAF j,zAF<|AZ.2 ⟨Z2,Z2⟩,u8,X,zN0,s]
     grind
   grind
  grind
def Hm(q:AA)(i:U)(pos:Ξ):U:=u ((JE q i).2=0) (JA q pos) (JE q i).2
theorem zQB(hF:DK q)(hn:CX q<=n)(hl:F pos<=LB)(G8:F pos<n):Ua n q i pos=Z (Hm q i pos):=by
 grind[Ua,oS,Hm,zJc,kW]
structure Br(q:AA)(i:U)(pos:Ξ):Prop where
 fit:DK q
 valid:CN q=D
 i0:0<=i
 i1:i<(F q.cons:U)
 pos:posOk q pos=D
def con(q:AA)(i:U):AD:=H q.cons i.toNat ξ
theorem Br.of(l:DK q)(h:Hm q i pos=0):Br q i pos:=by
 unfold Hm JE JA at h
 by_cases t:CN q=T
 ·grind
 ·rw[zJz t]at h;have t:CN q=D:=by simpa using t
  by_cases hi:0<=i/\i<(F q.cons:U)
  ·by_cases w:posOk q pos=D
   ·exact⟨l,t,hi.1,hi.2,w⟩
   grind
  grind
def Br.check(Ϙ:Br q i pos):Hm q i pos=0:=by
 have a:JE q i=(lL<|(H q.cons i.toNat ξ).kind,0):=by
  unfold JE;rw[zJz (by rw[Ϙ.valid];exact λh=>by cases h),zAF ⟨Ϙ.i0,Ϙ.i1⟩]
 unfold Hm JA;rw[a,zAF rfl,zAF Ϙ.valid,zAF Ϙ.pos]
theorem Br.mem(Ϙ:Br q i pos):con q i∈q.cons:=by
 have h:=Ϙ.i0;have h1:=Ϙ.i1
 grind[con]
def Br.fine(Ϙ:Br q i pos):Er q (con q i)=D:=(ER Ϙ.valid).2.2.2.2.2 _ Ϙ.mem
def Br.kind(Ϙ:Br q i pos):Ii q.ce (con q i).kind (F (con q i).ce)=D:=wT Ϙ.fine
theorem Br.len(Ϙ:Br q i pos):(F pos:U)=q.ce:=by
 have h:=Ϙ.pos
 simp_all[posOk]
theorem Br.sm(Ϙ:Br q i pos):∀j,j<F pos->Sm q.sy.toNat (H pos j 0):=by
 intro j hj;have h:=Ϙ.pos
 simp_all[posOk,Sm]
def Br.len256(Ϙ:Br q i pos):0<F pos/\F pos<=256:=by
 have h:=(ER Ϙ.valid).1;have:=Ϙ.len;omega
theorem Br.ce(Ϙ:Br q i pos):(∀x∈(con q i).ce,0<=x/\x<q.ce)/\(con q i).ce.Nodup/\(8<=(con q i).kind->∀j,j<F (con q i).ce->H (con q i).ce j 0=(j:U)):=by
 have h:=Ϙ.fine
 simp_all[Er,zy]
theorem Br.work(Ϙ:Br q i pos):Ca (con q i) q.sy.toNat pos:=by
 obtain⟨b,c,_⟩:=Ϙ.ce;have e:=Ϙ.len;have h3:=(ER Ϙ.valid).1;have h4:=(ER Ϙ.valid).2.1;refine⟨λa ha=>?_,?_,Ϙ.sm,Z2⟩
 ·simp_all
 ·have:=cV (F pos) _ c λx f=>by rw[e];exact b x f
  omega
theorem Br.vals(Ϙ:Br q i pos):D6 q q.sy.toNat:=by
 obtain⟨_,h2,⟨h3,W⟩,_⟩:=ER Ϙ.valid;rw[Ru]at W;refine⟨Z2,λs hs=>W _ ?_⟩
 grind
theorem Br.ru(Ϙ:Br q i pos):Hq<|con q i:=by
 have h:=Ϙ.fine;unfold Er at h;simp only[zAx,zKv]at h
 grind[Ru,Hq]
theorem Br.two(Ϙ:Br q i pos)(hk:(con q i).kind=6∨(con q i).kind=7):F (con q i).ce=2:=by
 have h:=Ϙ.kind
 grind[Ii]
theorem Br.all(Ϙ:Br q i pos)(hk:(con q i).kind=8∨(con q i).kind=9)(z:DG pos=T):Ee (con q i) q pos:=by
 have h:=Ϙ.kind;have hl:=Ϙ.len;have c:=Ϙ.len256
 have h1:(F (con q i).ce:U)=q.ce:=by
  grind[Ii]
 obtain⟨_,_,_,⟨h5,p⟩,_⟩:=ER Ϙ.valid;exact⟨Z2,λj l=>Ϙ.ce.2.2 Z2 j Z2,⟨p,Ϙ.fit.nb⟩,Z2,c.1,c.2,λj l=>⟨(Ϙ.sm j l).in64<|zIX Ϙ.work.k Z6,JW.1 z j l⟩⟩
end
def JB(q:AA)(c:AD)(pos:Ξ):Prop:=(c.kind=2->O2 c pos=D)/\(c.kind=3->NL q c pos=D)/\(c.kind=5->Kk c=D)/\(c.kind=9->dA c q pos)
def Dz(q:AA)(c:AD)(pos:Ξ)(a s:E):Prop:=(c.kind=1/\O1 c pos a s)∨(c.kind=2/\KL c pos a s=D)∨(c.kind=3/\Hv q c pos a s=D)∨(c.kind=4/\Jr q c pos a s=D)∨(c.kind=5/\Jq c pos a s)∨ (c.kind=6/\HZ (Ge q c) c pos a s)∨(c.kind=7/\HZ (GC c) c pos a s)∨(c.kind=8/\KN c q pos a s)∨(c.kind=9/\Wk c q pos a s)
def KP(q:AA)(c:AD)(pos:Ξ)(r:ζ×Ξ):Prop:=(r.1=D↔JB q c pos)/\(r.1=D->B4 c pos (d (F pos) 0) (F c.ce) (Dz q c pos) r.2)
def LC(q:AA)(c:AD)(pos:Ξ)(j s:E):Prop:=∃a,a<F c.ce/\(H c.ce a 0).toNat=j/\Dz q c pos a s
structure Uq(q:AA)(c:AD)(pos:Ξ):Prop where
 nz:∀j,j<F pos->H pos j 0≠0
 ok:JB q c pos
 left:∀j,j<F pos->∃s,s<64/\tb (H pos j 0) s=D/\¬LC q c pos j s
structure PR(q:AA)(c:AD)(pos x:Ξ):Prop where
 len:F x=F pos
 live:Uq q c pos->∀j,j<F pos->CB (H x j 0)/\∀s,tb (H x j 0) s=D↔tb (H pos j 0) s=D/\¬LC q c pos j s
 dead:¬Uq q c pos->x=d (F pos) 0
def PR.uniq{q:AA}{c:AD}{pos:Ξ}(x y:Ξ)(h:PR q c pos x)(h':PR q c pos y):x=y:=by
 by_cases P:Uq q c pos
 ·have e:F x=F y:=h.len.trans h'.len.symm;refine zOj e λj a b=>?_
  have l:j<F pos:=by rw[←h.len];exact a
  have R:H x j 0=x[j]:=by simp[a]
  have X:H y j 0=y[j]:=by simp[b]
  rw[←R,←X];refine Iz (h.live P j l).1 (h'.live P j l).1 λs _=>?_
  rw[zLX,(h.live P j l).2,(h'.live P j l).2]
 ·rw[h.dead P,h'.dead P]
section
variable{q:AA}{i:U}{pos:Ξ}
def Jc:F (d (F pos) (0:U))=F pos:=zK7
theorem pV(j:E):H (d (F pos) (0:U)) j 0=0:=by
 grind
theorem Yw:∀j,CB<|H (d (F pos) (0:U)) j 0:=λj=>by grind[CB]
def pU:CP pos (d (F pos) 0) (λ_ _=>False)<|d (F pos) 0:=⟨⟨Jc,Yw⟩,λj s=>Z3⟩
theorem B4.congr{c:AD}{lost l:Ξ}{ϒ D':E->Ψ}{m:E}(h:B4 c pos lost m ϒ l)(hD:∀a s,D' a s↔ϒ a s):B4 c pos lost m D' l:=by
 grind[B4]
def I5(n:E)(q:AA)(c:AD)(pos:Ξ):X6:=B (c.kind==1) (UP n c q pos (F pos)<|d (F pos) 0)<|B (c.kind==2) (UV n c q pos (F pos)<|d (F pos) 0)<|B (c.kind==3) (SH n c q pos (F pos)<|d (F pos) 0)<|B (c.kind==4) (Ni n c q pos (F pos)<|d (F pos) 0)<|B (c.kind==5) (Sf n c q pos (F pos)<|d (F pos) 0)<|B (c.kind==6) (Rf n c q pos (F pos)<|d (F pos) 0)<|B (c.kind==7) (QI n c q pos (F pos)<|d (F pos) 0)<|B (c.kind==8) (gC n c q pos (F pos)<|d (F pos) 0)<|B (c.kind==9) (cz n c q pos (F pos)<|d (F pos) 0) A
theorem zFJ(Ϙ:Br q i pos)(j:DG pos=T):Ag (λn=>I5 n q (con q i) pos)<|KP q (con q i) pos:=by
 have W:=Ϙ.work;have z:F (d (F pos) (0:U))=F pos:=Jc
 have all:∀k:U,(con q i).kind=k->∀{f:E->X6} {N:E} {ok:ζ} {ϒ:E->Ψ},(∀n,N<=n->∃l,f n=Z (ok,l)/\(ok=D->B4 (con q i) pos (d (F pos) 0) (F (con q i).ce) ϒ l))->(ok=D↔JB q (con q i) pos)->(∀a s,Dz q (con q i) pos a s↔ϒ a s)->Ag f (KP q (con q i) pos):=by
  intro k _ f N ok ϒ h Dk hD;refine⟨N,λn b=>?_⟩
  grind[KP,B4]
 have m:=OP<|QS Ϙ.kind;have g:∀{k:U},(con q i).kind=k->k≠2->k≠3->k≠5->k≠9->JB q (con q i) pos:=λhk c o K p=>⟨λh=>τ (hk.symm.trans h) c,λh=>τ (hk.symm.trans h) o,λh=>τ (hk.symm.trans h) K,λh=>τ (hk.symm.trans h) p⟩
 rcases m with hk|hk|hk|hk|hk|hk|hk|hk|hk
 ·refine Ag.eq (all 1 hk (f:=λn=>UP n (con q i) q pos (F pos)<|d (F pos) 0) (N:=2*F (con q i).ce+2) (ok:=D) (ϒ:=O1 (con q i) pos) (λn b=>?_) ⟨λ_=>g hk Z6 Z6 Z6 Z6,λ_=>rfl⟩ λa s=>?_) λn=>?_
  ·obtain⟨l,e,c⟩:=zO1 (q:=q) W z b
   grind
  ·unfold Dz;rw[hk];simp
  ·unfold I5;rw[hk];rfl
 ·refine Ag.eq (all 2 hk (f:=λn=>UV n (con q i) q pos (F pos)<|d (F pos) 0) (N:=2*F (con q i).ce+3) (ok:=O2 (con q i) pos) (ϒ:=λa s=>KL (con q i) pos a s=D) (λn b=>?_) ⟨λh=>⟨λ_=>h,λh=>τ (hk.symm.trans h) Z6,λh=>τ (hk.symm.trans h) Z6,λh=>τ (hk.symm.trans h) Z6⟩,λh=>h.1 hk⟩ λa s=>?_) λn=>?_
  ·exact zPQ (q:=q) W z b
  ·unfold Dz;rw[hk];simp
  ·unfold I5;rw[hk];rfl
 ·refine Ag.eq (all 3 hk (f:=λn=>SH n (con q i) q pos (F pos)<|d (F pos) 0) (N:=2*F (con q i).ce+3) (ok:=NL q (con q i) pos) (ϒ:=λa s=>Hv q (con q i) pos a s=D) (λn b=>?_) ⟨λh=>⟨λh=>τ (hk.symm.trans h) Z6,λ_=>h,λh=>τ (hk.symm.trans h) Z6,λh=>τ (hk.symm.trans h) Z6⟩,λh=>h.2.1 hk⟩ λa s=>?_) λn=>?_
  ·exact zBk W Ϙ.vals z b
  ·unfold Dz;rw[hk];simp
  ·unfold I5;rw[hk];rfl
 ·refine Ag.eq (all 4 hk (f:=λn=>Ni n (con q i) q pos (F pos)<|d (F pos) 0) (N:=2*F (con q i).ce+3) (ok:=D) (ϒ:=λa s=>Jr q (con q i) pos a s=D) (λn b=>?_) ⟨λ_=>g hk Z6 Z6 Z6 Z6,λ_=>rfl⟩ λa s=>?_) λn=>?_
  ·obtain⟨l,e,c⟩:=zFV W Ϙ.vals z b
   grind
  ·unfold Dz;rw[hk];simp
  ·unfold I5;rw[hk];rfl
 ·obtain⟨l,⟨N,e⟩,c⟩:=zEt (q:=q) W Ϙ.ru z Yw;refine Ag.eq (all 5 hk (N:=N) (ok:=Kk<|con q i) (ϒ:=Jq (con q i) pos) (λn b=>⟨l,e n b,c⟩) ⟨λh=>⟨λh=>τ (hk.symm.trans h) Z6,λh=>τ (hk.symm.trans h) Z6,λ_=>h,λh=>τ (hk.symm.trans h) Z6⟩,λh=>h.2.2.1 hk⟩ λa s=>?_) λn=>?_
  ·unfold Dz;rw[hk];simp
  ·unfold I5;rw[hk];rfl
 ·refine Ag.eq (all 6 hk (f:=λn=>Rf n (con q i) q pos (F pos)<|d (F pos) 0) (N:=0) (ok:=D) (ϒ:=HZ (Ge q<|con q i) (con q i) pos) (λn b=>?_) ⟨λ_=>g hk Z6 Z6 Z6 Z6,λ_=>rfl⟩ λa s=>?_) λn=>?_
  ·obtain⟨l,e,c⟩:=zQy (n:=n) W Ϙ.vals (Ϙ.two<|.inl hk) z
   grind
  ·unfold Dz;rw[hk];simp
  ·unfold I5;rw[hk];rfl
 ·refine Ag.eq (all 7 hk (f:=λn=>QI n (con q i) q pos (F pos)<|d (F pos) 0) (N:=0) (ok:=D) (ϒ:=HZ (GC<|con q i) (con q i) pos) (λn b=>?_) ⟨λ_=>g hk Z6 Z6 Z6 Z6,λ_=>rfl⟩ λa s=>?_) λn=>?_
  ·obtain⟨l,e,c⟩:=zIb (n:=n) (q:=q) W (Ϙ.two<|.inr hk) z
   grind
  ·unfold Dz;rw[hk];simp
  ·unfold I5;rw[hk];rfl
 ·obtain⟨l,⟨N,e⟩,c⟩:=zPk (Ϙ.all (.inl hk) j) pU;refine Ag.eq (all 8 hk (N:=N) (ok:=D) (ϒ:=KN (con q i) q pos) (λn b=>⟨l,e n b,λ_=>c.by<|Ϙ.all (.inl hk) j⟩) ⟨λ_=>g hk Z6 Z6 Z6 Z6,λ_=>rfl⟩ λa s=>?_) λn=>?_
  ·unfold Dz;rw[hk];simp
  ·unfold I5;rw[hk];rfl
 ·refine Ag.eq ((zJO (Ϙ.all (.inr hk) j) pU).mono λr t=>⟨?_,λh=>((t.2 h).by<|Ϙ.all (.inr hk) j).congr λa s=>?_⟩) λn=>?_
  ·grind[JB,pT]
  ·unfold Dz;rw[hk];simp
  ·unfold I5;rw[hk];rfl
theorem zBZ{n:E}{g:Ξ}(hl:F g=F pos)(h256:F pos<=256)(hn:600<=n):
 ∃x,F x=F pos/\(∀j,j<F pos->H x j 0=bits .andNot .i64 (H pos j 0) (H g j 0))/\Jz q i pos n (.l2 (F pos) (F pos:U) 0 g pos)=Z (u (DG x) (d (F pos) 0) x):=by
 have lb:(256:E)<=LB:=Z6
 obtain⟨b,x,Hg,_,e,c,X,Qb⟩:=Ih (λn (o3:Ξ) k=>Jz q i pos n<|.l2 (F pos) (F pos:U) k g o3) (F pos) 260
  (λk o3=>F o3=F pos/\(∀j,j<k->H o3 j 0=bits .andNot .i64 (H pos j 0) (H g j 0))/\∀j,k<=j->H o3 j 0=H pos j 0) (λn k o3 G9 hk hI=>by
   show∃s',WK n (Jz q i pos n) q i pos (F pos) (F pos:U) (k:U) g o3=_/\_
   unfold WK;rw[zAB Z2,zAG,zAF ⟨⟨Z2,Z2⟩,Z2,⟨Z2,Z2⟩,Z2,AZ.2 ⟨Z2,Z2⟩⟩]
   grind) (n:=n) (s:=pos) Z2 ⟨rfl,λj l=>τ l<|zBT j,λj _=>rfl⟩
 obtain⟨a,rfl⟩:∃a,b=a+1:=⟨b-1,Z2⟩;refine⟨x,c,X,Eq.trans e ?_⟩
 show WK a (Jz q i pos a) q i pos (F pos) (F pos:U) (F pos:U) g x=_
 unfold WK;rw[zAE Z2,zAD,zAF c.symm,Wu Z2 Z2,zAC]
 grind
def ZS(n:E)(q:AA)(i:U)(pos:Ξ)(r:ζ×Ξ):W6:=B (!r.1) (u (F pos=F (d (F pos) (0:U))) (Z<|d (F pos) (0:U)) A)<|Jz q i pos n<|.l1 r.2
theorem zBc(Ϙ:Br q i pos)(a:DG pos=T){n:E}(hn:601<=n){r:ζ×Ξ}(hy:KP q (con q i) pos r):∃x,ZS n q i pos r=Z x/\PR q (con q i) pos x:=by
 have c:=Ϙ.len256;have ϙ:(1000000000000:E)=Aw:=rfl;have J:=JW.1 a;obtain⟨b,lost⟩:=r;obtain⟨t,z⟩:=hy;unfold ZS;cases b with
 |false=>
  refine⟨_,Z4,Jc,λP=>?_,λ_=>rfl⟩;have:=t.2 P.ok;cases this
 |true=>
  have t:=t.1 rfl;have z:B4 (con q i) pos (d (F pos) 0) (F (con q i).ce) (Dz q (con q i) pos) lost:=z rfl;obtain⟨n,rfl⟩:∃k,n=k+1:=⟨n-1,Z2⟩;obtain⟨x,f,g,h3⟩:=zBZ (q:=q) (i:=i) (n:=n) z.1 c.2 Z2
  have m:∀j,j<F pos->CB (H x j 0)/\∀s,tb (H x j 0) s=D↔tb (H pos j 0) s=D/\¬LC q (con q i) pos j s:=λj l=>by
   rw[g j l];refine⟨D5 _ _ _,λs=>?_⟩;rw[IT,zAx,zKr,←zNB,z.2,pV]
   grind[NK,AY,LC]
  have BF:gJ n pos=Z pos:=by
   grind[gJ,zr]
  have e:Jz q i pos (n+1) (.l1 lost)=Z (u (DG x) (d (F pos) 0) x):=by
   grind[ue,Jz]
  refine⟨_,by exact e,?_,λP j l=>?_,λP=>?_⟩
  ·grind
  ·rw[zJz]
   ·exact m j l
   ·rw[zNB,JW];intro j l;rw[f]at l;obtain⟨s,hs,h4,h5⟩:=P.left j l
    grind[Lw]
  ·rw[zAF];refine Classical.byContradiction λh=>P ?_
   rw[zNB,JW]at h;refine⟨J,t,λj l=>?_⟩
   grind[Lw]
def zHm(Ϙ:Br q i pos):∃x,Ev (λn=>K5 n q i pos) x/\PR q (con q i) pos x:=by
 have h256:=Ϙ.len256;have lb:(256:E)<=LB:=Z6
 have hi:0<=i/\i<(F q.cons:U):=⟨Ϙ.i0,Ϙ.i1⟩;cases z:DG pos
 ·suffices ϗ:Ag (λn=>K5 n q i pos) (PR q (con q i) pos) by
   obtain⟨x,a,c⟩:=ϗ.ev PR.uniq;exact⟨x,c,a⟩
  obtain⟨N,f⟩:=Ag.bindU (zFJ Ϙ z) (b:=λn r=>ZS n q i pos r) (Q:=PR q (con q i) pos) ⟨601,λn e r hy=>zBc Ϙ z e hy⟩;refine⟨N+300,λn e=>?_⟩;obtain⟨x,a,c⟩:=f n Z2;refine⟨x,Eq.trans ?_ a,c⟩
  show K5 n q i pos=(I5 n q (con q i) pos).bind λr=>ZS n q i pos r
  unfold K5 kR;rw[zAF ⟨rfl,Z2,Z2⟩,Wu Z2 Z2,z,zAC,zAD,zAF hi];have hc:H q.cons i.toNat ξ=con q i:=rfl;rw[hc];have g:=OP<|QS Ϙ.kind;unfold I5;rcases g with hk|hk|hk|hk|hk|hk|hk|hk|hk <;> rw[hk] <;> rfl
 ·refine⟨d (F pos) 0,⟨300,λn e=>?_⟩,Jc,λP=>?_,λ_=>rfl⟩
  ·show K5 n q i pos=_
   unfold K5 kR;rw[zAF ⟨rfl,Z2,Z2⟩,Wu Z2 Z2,z,zAC,zAG,zAF Jc.symm]
  ·have:=JW.2 P.nz;rw[z]at this;cases this
def PrP(q:AA)(i:U)(pos:Ξ)(r:Ξ×U):Prop:=r.2=Hm q i pos/\(r.2=0->PR q (con q i) pos r.1)/\(r.2≠0->r.1= [])
theorem uf(l:DK q)(f:F pos<=LB):∃r,Ev (λn=>TG n q i pos) r/\PrP q i pos r:=by
 have c:Ev (λn=>Ua n q i pos)<|Hm q i pos:=⟨CX q+F pos+1,λn hn=>zQB l Z2 f Z2⟩
 by_cases h0:Hm q i pos=0
 ·obtain⟨x,g,j⟩:=zHm<|Br.of l h0;refine⟨(x,0),?_,h0.symm,λ_=>j,λh=>τ rfl h⟩;refine Ev.eq (Ev.bind c (b:=λn e=>B (e != 0) (Z (([]:Ξ),e))<|(K5 n q i pos).bind λa=>Z (a,0)) ?_) λn=>rfl
  rw[h0];exact Ev.bind g (b:=λ_ a=>Z (a,0))<|Ev.now λn=>rfl
 ·refine⟨([],Hm q i pos),?_,rfl,λh=>τ h h0,λ_=>rfl⟩;refine Ev.eq (Ev.bind c (b:=λn e=>B (e != 0) (Z (([]:Ξ),e))<|(K5 n q i pos).bind λa=>Z (a,0))<|Ev.now λn=>?_) λn=>rfl
  grind
end
end
section
set_option maxRecDepth 100000
set_option maxHeartbeats 40000000
def zQ8(n:E)(s_:U):M Unit:=Z ()
def zQ9(n:E)(V:U):M Unit:=zQ8 n V
variable{n:E}
def zQ7(V:U){r:Unit}(h:zQ9 n V=Z r):EQ 100 [.int .u64 V] [] (.fn 128 1<|L1 [.ref 0 0]) [oC [.int .u64 V]] D:=by
 refine ot Tryz.func100 λϜ N=>?_
 revert r;apply gO;exact lE AC [2] [0]
inductive Un where
 |l1 (x3:U)
def PB(n:E)(self:Un->W6)(V:U)(S:U):W6:=u (0<=S/\S<=(IntKind.u64.bits:U)) (B ((V/2^(S).toNat) != 0) (B (C<|S<64) (B (bits .and .u64 (V/2^(S).toNat) 1==1) (u (0<=S/\S<=(IntKind.u64.bits:U)) (B (bits .and .u64 (V/2^(S).toNat) 1==1) (Option.map (λl=>S::l)<|u (AG<|S+1) (self<|.l1<|S+1) A)<|u (AG<|S+1) (self<|.l1<|S+1) A) A)<|u (AG<|S+1) (self<|.l1<|S+1) A)<|Z [])<|Z []) A
def zAo(n:E)(self:Un->W6)(s_:U):W6:=self<|.l1 0
def JY(V:U):E->Un->W6
 |0,_=>A
 |n+1,.l1 S=>PB n (JY V n) V S
def M8(n:E)(V:U):W6:=zAo n (JY V n) V
def pN(Ϙ:Bm L)(n:E)(V:U)(r:Ξ):Un->Prop
 | .l1 S=>∀o:E,n<=o->∀i:E,i<=F Ϙ.encs->Ϙ.encs.drop i=r.map BY->A2 L GG η A 1 (Ϙ.Y GG 1 i) (Ϙ.Q GG 1) (Du o<|FU (Af Tryz.f128) 0 []) ⟨AI 25 [(0,.yl Ϙ.l),(1,.ref 0 0),(3,.i S)],[oC [.int .u64 V]]⟩
def zRA(Ϙ:Bm L)(n:E)(self:Un->W6)(V:U)(G:∀f r,self f=Z r->pN Ϙ n V r f)(S:U)(r:Ξ)(h:PB n self V S=Z r):pN Ϙ (n+1) V r<|.l1 S:=by
 intro o j;intro i hi z;refine rd j λo j=>?_
 unfold PB at h;obtain⟨a,h⟩:=B8 h;have p:=H0.g a;rcases B7 h with⟨Y,h⟩|⟨Y,h⟩
 ·have p:=p.b 7 Y;rcases B7 h with⟨Q,h⟩|⟨Q,h⟩
  ·have p:=p.b 10 Q|>.g a
   rcases B7 h with⟨k,h⟩|⟨k,h⟩
   ·have p:=H0.g a|>.b 7 Y|>.b 10 Q
    refine gs (AK 3 AC) [0] p (CW (Af Tryz.f128) 3 [o]) (AI 25 [(0,.yl Ϙ.l),(1,.ref 0 0),(3,.i S)]) [oC [.int .u64 V]] ?_;obtain⟨s,h⟩:=B8 h;have p:=H0.g s;rcases B7 h with⟨Y,h⟩|⟨Y,h⟩
    ·have p:=p.b 18 Y;obtain⟨r,m,rfl⟩:=MQ h;clear h;have h:=m;clear m;obtain⟨q,hi,z⟩:=YG z;refine A2.y (ops:=Ah Tryz.f128 3) HC.x 8 [0,1,3,24] [0] p (x:=BY S) (AI 25 [(0,.yl Ϙ.l),(1,.ref 0 0),(3,.i S),(24,.bool T)]) [oC [.int .u64 V]] (AI 25 [(0,.yl Ϙ.l),(1,.ref 0 0),(3,.i S),(24,.bool D)]) [oC [.int .u64 V]] Z5 Z5 Z5 q Z5 ?_ ?_
     ·generalize i+1=i at hi z⊢
      obtain⟨c,h⟩:=B8 h;have p:=H0.w 13 c;exact gg AC [0] p<|G _ _ h o j i hi z
     ·exact TrI.e HC.x AC 6 H0 Z5<|.inr rfl
    ·obtain⟨c,h⟩:=B8 h;have p:=p.b 18 Y|>.w 13 c
     exact gg AC [0] p<|G _ _ h o j i hi z
   ·obtain⟨s,h⟩:=B8 h;have p:=p.b 18 k|>.w 13 s
    exact gg AC [0] p<|G _ _ h o j i hi z
  ·have p:=p.b 10 Q;cases h;exact TrI.e HC.x AC 10 p Z5 (.inl<|by rw[Q7 hi z])
 ·have p:=p.b 7 Y;cases h;exact TrI.e HC.x AC 10 p Z5 (.inl<|by rw[Q7 hi z])
def zAp(Ϙ:Bm L)(V:U):∀(n:E) (s:Un) (r:Ξ),JY V n s=Z r->pN Ϙ n V r s
 |0,_,_,h=>by cases h
 |n+1,.l1 S,r,h=>zRA Ϙ n (JY V n) V (zAp Ϙ V n) S r h
variable{r:Ξ}
def zRB(V:U)(h:M8 n V=Z r)(Ϙ:Bm L)(w:Ϙ.encs=r.map BY):A2 L GG η A 1 (Ϙ.Y GG 1 0) (Ϙ.Q GG 1) [.code<|Af Tryz.f128] ⟨AI 25 [(0,.yl Ϙ.l),(1,.ref 0 0)],[oC [.int .u64 V]]⟩:=by
 suffices ϗ:∀i:E,i<=F Ϙ.encs->Ϙ.encs.drop i=r.map BY->A2 L GG η A 1 (Ϙ.Y GG 1 i) (Ϙ.Q GG 1) [.code<|Af Tryz.f128] ⟨AI 25 [(0,.yl Ϙ.l),(1,.ref 0 0)],[oC [.int .u64 V]]⟩from ϗ 0 (zK5 _) (by rw[zNZ];exact w)
 intro i hi z;have G:=zAp Ϙ V n;unfold M8 at h
 generalize JY V n=self at h G
 unfold zAo at h;have p:=H0;exact gg AC [0] p<|en n<|G _ _ h n χ i hi z
variable{V:U}
def pL(h:M8 n V=Z r)(ϗ:DH):EQ 100 [.int .u64 V] ϗ (.it<|F ϗ) (ϗ++[Z<|.iter<|r.map BY]) D:=by
 refine ES.iterN (c:=L1 [.ref 0 0]) (h0:=[oC [.int .u64 V]]) (fn:=Tryz.f128) (zQ7 (n:=0) V (r:=()) rfl) Z5 Tryz.func128 Z5 Z5 Z5 (λϘ w=>?_) ϗ;have e:DV.yl Ϙ.l::(θ 1).map (L1 [.ref 0 0])++d (Tryz.f128.ntmps-(1+1)) .any=AI 25 [(0,.yl Ϙ.l),(1,.ref 0 0)]:=Z5
 rw[e];exact zRB V h Ϙ w
inductive NS where
 |s0 (K0:U)
def rY:NS->DH
 | .s0 f=>[oC [.i f],A]
def VG(n:E)(e5:U)(f:U):M NS:=u (AG<|f+1) (Z<|.s0<|f+1) A
def zCo(n:E)(X:U):NS->M NS
 | .s0 f=>VG n X f
def Zn(n:E)(X:U)(s:NS):M NS:=zCo n X s
def zCn(n:E)(l Ϝ:E)(N:Yd 2)(X:U)(s:NS)(r:NS)(h:Zn n X s=Z r):TA l Ϝ N (Cw 2 [] 0<|rY r) Tryz.f64 5 ⟨AI 10 [(2,.ref 0 0),(5,.it 1),(6,.i X)],rY s⟩:=by
 cases s with
 |s0 f=>
  replace h:VG n X f=Z r:=h;unfold VG at h;refine ag AC [0,1] H0 (AI 10 [(2,.ref 0 0)]) [oC [.i f],A] λN=>?_
  revert r;apply gO;exact gw 8<|jt<|lF λp=>rr AC [0,1] rfl p
def Zm(n:E)(V:U):W5:=
 (M8 n<|IntKind.u64.wrap V).bind λe=>
  (Bs (Zn n) e<|.s0 0).bind λr=>
   match r with
   | .s0 b=>
    Z b
def VH(n:E)(V:U):W5:=Zm n V
def rX{r:U}(h:VH n V=Z r):EQ 64 [.i V] [] (.i r) [] D:=by
 unfold VH Zm at h;refine ot Tryz.func64 λϜ N=>?_
 revert r;apply gO
 exact cn λe f=>jc (pL f [oC [.i 0]]) (cn λa K=>λp r h=>by
  refine gs AC [0,1] p (Gn (Af Tryz.f64) 5 []) (AI 10 [(2,.ref 0 0),(5,.it 1)]) [oC [.i 0],Z<|.iter<|(e).map BY] ?_;refine r0 1 5 #[6] BY 2 K (zCn n) ?_;cases a with
  |s0 Ew=>
   dsimp only at h
   revert r;apply gO;exact jt<|lE AC [2] [0])
end
abbrev zRI:=@List.filter_eq_nil_iff
section
def Bz(x:U)(i:E):Θ:=(List.range' i<|16-i).filter λs=>tb x s
variable{x:U}
def ri{i:E}(h:i<16):Bz x i=u (tb x i) (i::Bz x (i+1)) (Bz x<|i+1):=by
 unfold Bz;rw[show 16-i=(16-(i+1))+1 by omega,zSB,zRe]
theorem cq{s:E}:s∈Bz x 0↔s<16/\tb x s=D:=by
 unfold Bz
 grind
theorem zAJ(a:U):bits .and .u64 a 1=bits .and .i64 a 1:=by
 show IntKind.u64.wrap ((BitVec.ofInt 64 a&&& BitVec.ofInt 64 1).toNat:U)=IntKind.i64.wrap ((BitVec.ofInt 64 a&&& BitVec.ofInt 64 1).toNat:U)
 grind[IntKind.wrap_u64,IntKind.wrap_i64]
section
variable{x:U}
theorem re(h:Sm 16 x){i:E}(h0:x/2^i=0):Bz x i= []:=by
 have q:x<2^i:=by
  have w:(0:U)<2^i:=Int.pow_pos Z6;have:=Int.mul_ediv_add_emod x<|2^i;have hm:=Int.emod_lt_of_pos x w
  grind
 unfold Bz;rw[zRI];intro s p o;rw[List.mem_range'_1]at p;have:tb x s=T:=Sm.hi (k:=i) ⟨h.1,q⟩ p.1;rw[this]at o;cases o
theorem pM(h:Sm 16 x):∀(k i:E),i+k=16->Ev (λn=>JY x n<|.l1 (i:U)) ((Bz x i).map λ(s:E)=>(s:U))
 |0,i,e=>by
  have h0:x/2^i=0:=by
   grind[Sm]
  refine Ev.one λn=>?_
  show PB n (JY x n) x (i:U)=_
  unfold PB;rw[zAF ⟨Z2,by show(i:U)<=((64:E):U);omega⟩,u8,h0,re h h0];rfl
 |k+1,i,e=>by
  have a:=pM h k (i+1) Z2;have r:AG<|(i:U)+1:=AZ.2 ⟨Z2,Z2⟩;have g:(0:U)<=(i:U)/\(i:U)<=(IntKind.u64.bits:U):=⟨Z2,by show(i:U)<=((64:E):U);omega⟩
  by_cases h0:x/2^i=0
  ·simp_all[Ev.one,PB,JY,re]
  ·have step:∀n,JY x (n+1) (.l1 (i:U))=B (tb x i) ((JY x n<|.l1 ((i+1:E):U)).map λl=>(i:U)::l) (JY x n<|.l1 ((i+1:E):U)):=λn=>by
    show PB n (JY x n) x (i:U)=_
    unfold PB;rw[zAF g,u8,zM8.2 h0,zAG,zAB Z2,zAG,zAJ,Zr h Z6 Z2,zAF r,show((i+1:E):U)=(i:U)+1 by omega]
    grind
   rw[ri Z2];obtain⟨N,a⟩:=a;refine⟨N+1,λn hn=>?_⟩;obtain⟨n,rfl⟩:∃k,n=k+1:=⟨n-1,Z2⟩
   grind
theorem rW{n:E}:∀(l:Ξ) (k:E),k+F l<=64->Bs (Zn n) l (.s0 (k:U))=Z (.s0 ((k+F l:E):U))
 |[],k,_=>rfl
 |a::l,k,h=>by
  rw[zLA]at h
  show(VG n a (k:U)).bind _=_
  unfold VG;rw[zAF<|AZ.2 ⟨Z2,Z2⟩,zAC,show(k:U)+1=((k+1:E):U) by omega,rW l (k+1) Z2,zLA]
  congr 3
  omega
theorem zCx:F (Bz x 0)<=16:=by
 grind[Bz]
theorem zCm(h:Sm 16 x):Ev (λn=>VH n x) (F<|Bz x 0:U):=by
 have e:IntKind.u64.wrap x=x:=by
  grind[IntKind.wrap_u64,Sm]
 have hl:=zCx (x:=x);refine Ev.eq (Ev.bind (pM h 16 0 Z2) (b:=λn a=>(Bs (Zn n) a<|.s0 0).bind λr=>match r with| .s0 y=>Z y)<|Ev.now λn=>?_) λn=>?_
 ·grind[rW,Bz]
 ·show Zm n x=_
  unfold Zm;rw[e];rfl
end
end
section
variable{α:Type}
theorem zh{f g:α->ζ}:∀(l:O α),(∀x∈l,f x=D->g x=D)->l.countP f<=l.countP g
 |[],_=>zI1 _
 |x::l,h=>by
  have h1:=zh l λy hy=>h y<|zLL _ hy
  grind
theorem fm{f g:α->ζ}{a:α}(q:f a=T)(o:g a=D):∀(l:O α),(∀x∈l,f x=D->g x=D)->a∈l->l.countP f+1<=l.countP g
 |[],_,h=>by cases h
 |x::l,h,ha=>by
  rcases zLa.1 ha with rfl|ha
  ·simp_all[zh]
  ·have h1:=fm q o l (λy hy=>h y<|zLL _ hy) ha
   grind
theorem zCu{k:E}{x:U}(i:Sm k x)(f:k<=16)(h:NT x=D){s t:E}(p:tb x s=D)(ht:tb x t=D):s=t:=by
 have Xg:=K6 (k:=k)<|zIX f Z6;obtain⟨m,rfl⟩:=zNA i.1;have q:m<18446744073709551616:=by have:=i.2;omega
 have lo:∀{ϛ:E},tb (m:U) ϛ=D->ϛ<64:=λ{ϛ} hu=>zK4 λh=>by rw[Uw h]at hu;cases hu
 have h0:m≠0:=by
  rintro rfl;exact NK p
 have e:m&&& (m-1)=0:=by
  unfold NT at h;rw[zKq]at h;apply Nat.eq_of_testBit_eq;intro ϛ;rw[Nat.zero_testBit,Nat.testBit_and];rcases zK8 ϛ 64 with hu|hu
  ·have h2:=(NJ<|D5 .and _ _).1 h ϛ hu
   grind[FG,Je]
  ·rw[Nat.testBit_lt_two_pow<|zI0 q<|zSI (n:=2) Z6 hu,zSR]
 have S:=qr m q h0;rw[e,qq]at S
 have mem:∀{ϛ:E},tb (m:U) ϛ=D->ϛ∈FY m:=λ{ϛ} hu=>by
  grind[FY,Je]
 grind
section
variable{q:AA}{i:U}{p p':Ξ}
variable{s:E}{x:U}{c:AD}
theorem lr(h:bits .andNot .i64 x c.set=0)(hs:tb x s=D):tb c.set s=D:=by
 grind[NJ,D5,IT,tb]
def zQ4(a:tb x s=D)(b:tb c.set s=D):bits .and .i64 x c.set≠0:=by
 have e:s<64:=zK4 λh=>by rw[Uw h]at a;cases a
 exact(Lw<|D5 .and _ _).2 ⟨s,e,by rw[FG,a,b];rfl⟩
variable{n:U}
theorem wE :∀(l:Ξ) (a:U),n<=l.foldl (H6 q) a↔n<=a/\∀e∈l,n<=H q.va e.toNat 0
 |[],a=>Z3
 |e::l,a=>by
  rw[zLY,wE l];unfold H6
  grind
theorem xX :∀(l:Ξ) (a:U),l.foldl (ID q) a<=n↔a<=n/\∀e∈l,H q.va e.toNat 0<=n
 |[],a=>Z3
 |e::l,a=>by
  rw[zLY,xX l];unfold ID
  grind
variable{b:U}
theorem pw :∀(l:Ξ) (a:U),n<=l.foldl (Kd q b) a↔n<=a/\∀e∈l,H q.va e.toNat 0>b->n<=H q.va e.toNat 0
 |[],a=>Z3
 |e::l,a=>by
  rw[zLY,pw l];unfold Kd
  grind
theorem zU :∀(l:Ξ) (a:U),l.foldl (KH q b) a<=n↔a<=n/\∀e∈l,H q.va e.toNat 0<b->H q.va e.toNat 0<=n
 |[],a=>Z3
 |e::l,a=>by
  rw[zLY,zU l];unfold KH
  grind
section
variable{c:AD}
theorem EJ.at{r:U}(h0:0<=r)(h:EJ (cB c p) r):r<(F p:U)/\H (cB c p) r.toNat T=D:=by
 grind[cB,EJ]
theorem zQl{g:O Ξ}{inn:Ω}{ϛ a v:U}(K:¬Rc g inn ϛ a)(ha:0<=a)(G:Gr g)(Y:0<=ϛ)(m:ϛ<(F g:U))(h:Rc g inn ϛ v):Rc g (inn.set a.toNat T) ϛ v:=by
 induction h with
 |start=>exact .start
 |@step x y h b hi n=>
  refine .step n b ?_;have hr:=(Rc.step h b hi).rng G Y m
  have Ay:a.toNat≠y.toNat:=λe=>K (by
   have X:a=y:=Z2
   rw[X];exact Rc.step h b hi)
  grind
end
end
end
section
variable{q:AA}{i:U}{pos x:Ξ}
variable{c:AD}
def PR.sub(h:PR q c pos x){j s:E}(p:tb (H x j 0) s=D):j<F pos/\tb (H pos j 0) s=D:=by
 have l:j<F pos:=by
  refine zK4 λB2=>?_
  rw[zBD,List.getElem?_eq_none (by have:=h.len;omega)]at p;exact NK p
 refine⟨l,?_⟩
 by_cases P:Uq q c pos
 ·exact(((h.live P j l).2 s).1 p).1
 ·rw[h.dead P,pV]at p;exact τ p NK
theorem PR.in64(h:PR q c pos x)(j:E):CB<|H x j 0:=by
 by_cases P:Uq q c pos
 ·by_cases l:j<F pos
  ·exact(h.live P j l).1
  ·rw[zBD,List.getElem?_eq_none (by have:=h.len;omega)];grind[CB]
 ·rw[h.dead P];exact Yw j
theorem K7(hv:CN q=D){y:Ξ}:posOk q y=D↔(F y:U)=q.ce/\∀j,j<F y->Sm q.sy.toNat (H y j 0):=by
 unfold posOk;rw[zAx,zKq,zFy];constructor
 ·simp_all[Sm]
 ·rintro⟨a,h2⟩;refine⟨a,λz b=>?_⟩;obtain⟨j,hj,rfl⟩:=zLD b
  simp_all[Sm]
end
section
variable{q:AA}{i:U}{p p' x z:Ξ}
end
section
variable{q:AA}{i:U}{a b:Ξ}
theorem zHq(Ϙ:Br q i a):∃x,Ev (λn=>TG n q i a) (x,0)/\PR q (con q i) a x:=by
 obtain⟨r,h1,c,h3,_⟩:=uf (i:=i) Ϙ.fit (pos:=a)<|zIX Ϙ.len256.2 Z6;obtain⟨x,e⟩:=r;have e0:e=0:=c.trans Ϙ.check
 grind
theorem zHr(l:DK q)(b:F a<=LB)(h:Hm q i a≠0):∃e,e≠0/\Ev (λn=>TG n q i a) ([],e):=by
 obtain⟨r,h1,h2,_,h4⟩:=uf (i:=i) l b
 grind
end
section
variable{q:AA}{i j:U}{p p' x y z:Ξ}
def PR.posOk(Ϙ:Br q i p)(h:PR q (con q i) p x):posOk q x=D:=by
 refine(K7 Ϙ.valid).2 ⟨by rw[h.len];exact Ϙ.len,λj hj=>?_⟩;have hk:=Ϙ.work.k;refine NR Z2 (h.in64 j) λs a _=>?_
 cases o:tb (H x j 0) s with
 |false=>rfl
 |true=>
  obtain⟨b,c⟩:=h.sub o;rw[(Ϙ.sm j b).hi a]at c;cases c
end
section
set_option maxRecDepth 100000
set_option maxHeartbeats 40000000
def vM(n:E)(V v:U):W5:=u (0<=v/\v<=(IntKind.u64.bits:U)) (Z<|bits .and .u64 V<|IntKind.u64.wrap<|1*2^(v).toNat) A
def cN(n:E)(V v:U):W5:=vM n V v
variable{r v:U}{n:E}
def zIS{V:U}(h:cN n V v=Z r):EQ 115 [.int .u64 V,.i v] [] (.int .u64 r) [] D:=by
 refine ot Tryz.func115 λϜ N=>?_
 revert r;apply gO;exact gi<|lE AC [4] []
def oT(n:E)(q:AA)(pos:Ξ)(cell a:U):X8:=(QF n q pos).bind λe=>B (e != 0) (Z (([]:Ξ),e))<|B (C<|cell<0) (Z (([]:Ξ),1))<|B (C<|cell>=q.ce) (Z (([]:Ξ),1))<|B (C<|a<0) (Z (([]:Ξ),1))<|B (C<|a>=q.sy) (Z (([]:Ξ),1))<|u ((True/\(0=0/\0=F ([]:Ξ))/\F ([]:Ξ)+F pos<=Aw)/\(0<=cell/\cell<((F ([]:Ξ)+F pos:E):U))/\0+cell.toNat<F (([]:Ξ)++pos)) ((cN n (IntKind.u64.wrap<|H (([]:Ξ)++pos) (0+cell.toNat) 0) a).bind λr=>u (F ([]:Ξ)+F pos=F ((([]:Ξ)++pos).set (0+cell.toNat)<|IntKind.i64.wrap r)) ((cT n<|(([]:Ξ)++pos).set (0+cell.toNat)<|IntKind.i64.wrap r).bind λy3=>Z (y3,0)) A) A
def gP(n:E)(q:AA)(pos:Ξ)(cell a:U):X8:=oT n q pos cell a
variable{cell:U}{pos:Ξ}{q:AA}
def zQC{a:U}{r:Ξ×U}(h:gP n q pos cell a=Z r):EQ 114 [.agg 5<|L1<|AJ q,.ints pos,.i cell,.i a,.fn 115 0<|L1 []] [] (.tup 2<|L1 [.ints r.1,.i r.2]) [] D:=by
 unfold gP oT at h;refine ot Tryz.func114 λϜ N=>?_
 revert r;apply gO
 exact cf kV [oC<|AJ q] λe=>bi 18 (lF λp=>el AC [10,11] [] p [] H0 [.nils,.i e]<|AO.tupL (l:=[.nils,.i e]) (l':=[.ints ([]:Ξ),.i e]) rfl ⟨AO.ints_nil,Ab,trivial⟩)<|bi 21 (lF λp=>el AC [10,11] [] p [] H0 [.nils,.i 1]<|AO.tupL (l:=[.nils,.i 1]) (l':=[.ints ([]:Ξ),.i 1]) rfl ⟨AO.ints_nil,Ab,trivial⟩)<|bi 26 (lF λp=>el AC [10,11] [] p [] H0 [.nils,.i 1]<|AO.tupL (l:=[.nils,.i 1]) (l':=[.ints ([]:Ξ),.i 1]) rfl ⟨AO.ints_nil,Ab,trivial⟩)<|bi 30 (lF λp=>el AC [10,11] [] p [] H0 [.nils,.i 1]<|AO.tupL (l:=[.nils,.i 1]) (l':=[.ints ([]:Ξ),.i 1]) rfl ⟨AO.ints_nil,Ab,trivial⟩)<|bi 36 (lF λp=>el AC [10,11] [] p [] H0 [.nils,.i 1]<|AO.tupL (l:=[.nils,.i 1]) (l':=[.ints ([]:Ξ),.i 1]) rfl ⟨AO.ints_nil,Ab,trivial⟩)<|gc<|gi<|gc<|gn λs=>jg s<|gn λy=>jg y<|cf zIS [oC<|AJ q,A,oI<|([]:Ξ)++pos] λb=>jg s<|jg y (gn λc=>λp r h=>by
  refine gz (AK 8 AC) [2] p [0] (H0.g c) (CW (Af Tryz.f114) 8 []) (AI 55 [(13,.ints<|(([]:Ξ)++pos).set (0+cell.toNat)<|IntKind.i64.wrap b)]) [A] ?_;revert r;apply gO;exact cf zIe [A] λ_=>lE AC [10,11] [])
def nr(n:E)(q:AA)(pos:Ξ)(cell v:U):X8:=(gP n q pos cell v).bind λe=>Z (e.1,e.2)
def Q3(n:E)(q:AA)(pos:Ξ)(cell v:U):X8:=nr n q pos cell v
def zOD{r:Ξ×U}(h:Q3 n q pos cell v=Z r):EQ 90 [.agg 5<|L1<|AJ q,.ints pos,.i cell,.i v] [] (.tup 2<|L1 [.ints r.1,.i r.2]) [] D:=by
 unfold Q3 nr at h;refine ot Tryz.func90 λϜ N=>?_
 revert r;apply gO;exact cf zQC [oC<|AJ q] λ_=>lE AC [8,9] []
def zLq(t:E)(e o1:Ξ):DH:=[oC [.msl 4 1 0 t],oC [.bool T],oC [.i 0],Z<|.iter<|(e).map BY,oI o1]
def zLp(g:E)(y:U)(a:Ξ):DH:=[oC [.msl 4 1 0 g],oC [.bool T],oC [.i y],A,oI a]
def zLo(h:E)(z:U)(b:Ξ):DH:=[oC [.msl 4 1 0 h],oC [.bool T],oC [.i z],A,oI b]
inductive L2 where
 |s0 (Jy:E) (DU:U) (H3:Ξ)
 |s1 (DT:U)
def rN(pos:Ξ)(x10:U):L2->DH
 | .s0 h z b=>[oC [.msl 4 1 0 h],oC [.bool T],oC [.i z],A,oI b]
 | .s1 y=>[oC [.nils],oC [.bool T],oC [.i y],A]
def VB(n:E)(pos:Ξ)(x10 t:U)(h:E)(z:U)(b:Ξ):M<|L2×E:=u (AG<|z+1) (B (C<|(z+1)>1) (Z (.s1<|z+1,1))<|B (C<|t>=16) (Z (.s1<|z+1,1))<|u ((0=0/\1=F ([t]:Ξ))/\(0=0/\h=F b)/\F b+F ([t]:Ξ)<=Aw) (Z (.s0 (F b+F ([t]:Ξ)) (z+1)<|b++([t]:Ξ),0)) A) A
def i9(n:E)(pos:Ξ)(x10 t:U)(y:U):M<|L2×E:=u (AG<|y+1) (B (C<|(y+1)>1) (Z (.s1<|y+1,1))<|B (C<|t>=16) (Z (.s1<|y+1,1))<|u ((0=0/\1=F ([t]:Ξ))/\0<F ([t]:Ξ)/\F ([t]:Ξ)<=Aw) (Z (.s0 (F ([t]:Ξ)) (y+1) ([t]:Ξ),0)) A) A
def zCY(n:E)(pos:Ξ)(x10 t:U):L2->M (L2×E)
 | .s0 h z b=>VB n pos x10 t h z b
 | .s1 y=>i9 n pos x10 t y
def VC(n:E)(pos:Ξ)(x10 t:U)(s:L2):M<|L2×E:=zCY n pos x10 t s
def zCX(n:E)(pos:Ξ)(x10:U)(l Ϝ:E)(N:Yd 4)(t:U)(s:L2)(r:L2×E)(h:VC n pos x10 t s=Z r):TA l Ϝ N (Cw 4 [.ret] r.2<|rN pos x10 r.1) Tryz.f89 16 ⟨AI 34 [(2,.ref 0 0),(3,.ref 1 0),(6,.ref 2 0),(8,.ints pos),(9,.i (F pos:U)),(10,.i x10),(16,.it 3),(17,.i t)],rN pos x10 s⟩:=by
 cases s with
 |s0 a z b=>
  replace h:VB n pos x10 t a z b=Z r:=h;unfold VB at h;refine ag AC [0,1,2,3,4] H0 (AI 34 [(2,.ref 0 0),(3,.ref 1 0),(6,.ref 2 0),(7,.i t)]) (zLo a z b) λN=>?_
  revert r;apply gO;exact gw 19<|jt<|bi 21 (jt<|jt<|lF λp=>rr AC [0,1,2,3] rfl p)<|bi 24 (jt<|jt<|lF λp=>rr AC [0,1,2,3] rfl p)<|gi<|jt<|lF λp=>rr AC [0,1,2,3,6] rfl p
 |s1 y=>
  replace h:i9 n pos x10 t y=Z r:=h;unfold i9 at h;refine ag AC [0,1,2,3] H0 (AI 34 [(2,.ref 0 0),(3,.ref 1 0),(6,.ref 2 0),(7,.i t)]) [oC [.nils],oC [.bool T],oC [.i y],A] λN=>?_
  revert r;apply gO;exact gw 19<|jt<|bi 21 (jt<|jt<|lF λp=>rr AC [0,1,2,3] rfl p)<|bi 24 (jt<|jt<|lF λp=>rr AC [0,1,2,3] rfl p)<|gi<|jt<|lF λp=>rr AC [0,1,2,3,5] rfl p
inductive L5 where
 |s0 (DU:U)
 |s1 (Jw:E) (DT:U) (H2:Ξ)
def rM(pos:Ξ)(x10:U):L5->DH
 | .s0 z=>[oC [.nils],oC [.bool T],oC [.i z],A]
 | .s1 g y a=>[oC [.msl 4 1 0 g],oC [.bool T],oC [.i y],A,oI a]
def VA(n:E)(pos:Ξ)(x10 t:U)(z:U):M<|L5×E:=u (AG<|z+1) (B (C<|(z+1)>1) (Z (.s0<|z+1,1))<|B (C<|t>=16) (Z (.s0<|z+1,1))<|u ((0=0/\1=F ([t]:Ξ))/\0<F ([t]:Ξ)/\F ([t]:Ξ)<=Aw) (Z (.s1 (F ([t]:Ξ)) (z+1) ([t]:Ξ),0)) A) A
def i8(n:E)(pos:Ξ)(x10 t:U)(g:E)(y:U)(a:Ξ):M<|L5×E:=u (AG<|y+1) (B (C<|(y+1)>1) (Z (.s0<|y+1,1))<|B (C<|t>=16) (Z (.s0<|y+1,1))<|u ((0=0/\1=F ([t]:Ξ))/\(0=0/\g=F a)/\F a+F ([t]:Ξ)<=Aw) (Z (.s1 (F a+F ([t]:Ξ)) (y+1)<|a++([t]:Ξ),0)) A) A
def zCW(n:E)(pos:Ξ)(x10 t:U):L5->M (L5×E)
 | .s0 z=>VA n pos x10 t z
 | .s1 g y a=>i8 n pos x10 t g y a
def VD(n:E)(pos:Ξ)(x10 t:U)(s:L5):M<|L5×E:=zCW n pos x10 t s
def zCV(n:E)(pos:Ξ)(x10:U)(l Ϝ:E)(N:Yd 4)(t:U)(s:L5)(r:L5×E)(h:VD n pos x10 t s=Z r):TA l Ϝ N (Cw 4 [.ret] r.2<|rM pos x10 r.1) Tryz.f89 16 ⟨AI 34 [(2,.ref 0 0),(3,.ref 1 0),(6,.ref 2 0),(8,.ints pos),(9,.i (F pos:U)),(10,.i x10),(16,.it 3),(17,.i t)],rM pos x10 s⟩:=by
 cases s with
 |s0 z=>
  replace h:VA n pos x10 t z=Z r:=h;unfold VA at h;refine ag AC [0,1,2,3] H0 (AI 34 [(2,.ref 0 0),(3,.ref 1 0),(6,.ref 2 0),(7,.i t)]) [oC [.nils],oC [.bool T],oC [.i z],A] λN=>?_
  revert r;apply gO;exact gw 19<|jt<|bi 21 (jt<|jt<|lF λp=>rr AC [0,1,2,3] rfl p)<|bi 24 (jt<|jt<|lF λp=>rr AC [0,1,2,3] rfl p)<|gi<|jt<|lF λp=>rr AC [0,1,2,3,5] rfl p
 |s1 g y a=>
  replace h:i8 n pos x10 t g y a=Z r:=h;unfold i8 at h;refine ag AC [0,1,2,3,4] H0 (AI 34 [(2,.ref 0 0),(3,.ref 1 0),(6,.ref 2 0),(7,.i t)]) (zLp g y a) λN=>?_
  revert r;apply gO;exact gw 19<|jt<|bi 21 (jt<|jt<|lF λp=>rr AC [0,1,2,3] rfl p)<|bi 24 (jt<|jt<|lF λp=>rr AC [0,1,2,3] rfl p)<|gi<|jt<|lF λp=>rr AC [0,1,2,3,6] rfl p
inductive VE where
 |l1 (x10:U)
 |l2 (x10:U) (JC:E) (o1:Ξ)
def SS(n:E)(self:VE->X7)(pos:Ξ)(x10:U):X7:=
 bif(C<|x10<(F pos:U))then
  if 0<=x10/\x10<(F pos:U)then
   (M8 n<|IntKind.u64.wrap<|H pos x10.toNat 0).bind λe=>
    (DY (VD n pos x10) e<|.s0 0).bind λr=>
     bif r.2==0 then
      match r.1 with
      | .s0 b=>
       bif(b==0)then
        Z (([]:Ξ),T)
       else
        if AG (x10+1)then
         self (.l1<|x10+1)
        else A
      | .s1 i Q R=>
       bif(Q==0)then
        Z (([]:Ξ),T)
       else
        if AG (x10+1)then
         self (.l2 (x10+1) i R)
        else A
     else
      bif r.2==1 then
       match r.1 with
       | .s0 b=>
        Z (([]:Ξ),T)
       | .s1 i Q R=>
        if i=F R then
         Z (R,T)
        else A
      else
       A
  else A
 else
  Z (([]:Ξ),D)
def SR(n:E)(self:VE->X7)(pos:Ξ)(x10:U)(t:E)(o1:Ξ):X7:=
 bif(C<|x10<(F pos:U))then
  if 0<=x10/\x10<(F pos:U)then
   (M8 n<|IntKind.u64.wrap<|H pos x10.toNat 0).bind λe=>
    (DY (VC n pos x10) e<|.s0 t 0 o1).bind λr=>
     bif r.2==0 then
      match r.1 with
      | .s0 b R S=>
       bif(R==0)then
        Z (([]:Ξ),T)
       else
        if AG (x10+1)then
         self (.l2 (x10+1) b S)
        else A
      | .s1 i=>
       bif(i==0)then
        Z (([]:Ξ),T)
       else
        if AG (x10+1)then
         self (.l1<|x10+1)
        else A
     else
      bif r.2==1 then
       match r.1 with
       | .s0 b R S=>
        if b=F S then
         Z (S,T)
        else A
       | .s1 i=>
        Z (([]:Ξ),T)
      else
       A
  else A
 else
  if t=F o1 then
   Z (o1,D)
  else A
def zCU(n:E)(self:VE->X7)(pos:Ξ):X7:=self<|.l1 0
def HM(pos:Ξ):E->VE->X7
 |0,_=>A
 |n+1,.l1 x10=>SS n (HM pos n) pos x10
 |n+1,.l2 x10 t o1=>SR n (HM pos n) pos x10 t o1
def Zh(n:E)(pos:Ξ):X7:=zCU n (HM pos n) pos
def zCZ(n Ϝ:E)(N:Yd 0)(pos:Ξ)(r:Ξ×ζ):VE->Prop:=px n Ϝ η N (FQ Tryz.f89 0 (.tup 2<|L1 [.ints r.1,.bool r.2]) []) (Af Tryz.f89) λ
 | .l1 x10=>(0,0,AI 34 [(2,.ref 0 0),(3,.ref 1 0),(8,.ints pos),(9,.i (F pos:U)),(10,.i x10)],[oC [.nils],oC [.bool T]])
 | .l2 x10 t o1=>(0,0,AI 34 [(2,.ref 0 0),(3,.ref 2 0),(8,.ints pos),(9,.i (F pos:U)),(10,.i x10)],[oC [.msl 1 1 0 t],oI o1,oC [.bool T]])
def zCa(Ϝ:E)(N:Yd 0)(pos:Ξ):Al (HM pos) (zCZ · Ϝ N pos):=ia (λ_=>rfl) λn G q r h=>by
 cases q
 case l1 x10=>
  intro o j;refine rd j λo j=>?_
  revert r;apply gO
  exact bi 11 (gi (jt (cn λc f=>jc (pL f [oC [.nils],oC [.bool T],oC [.i 0]]) (cn λb K=>λp r h=>by
   refine gs AC [0,1,2,3] p (Gn (Af Tryz.f89) 16 [o]) (AI 34 [(2,.ref 0 0),(3,.ref 1 0),(6,.ref 2 0),(8,.ints pos),(9,.i (F pos:U)),(10,.i x10),(16,.it 3)]) [oC [.nils],oC [.bool T],oC [.i 0],Z<|.iter<|(c).map BY] ?_;refine rx [.ret] 3 16 #[17] BY 4 K (zCV n pos x10) λe a=>?_
   replace h:=B7 h;rcases h with⟨v,h⟩|⟨v,h⟩
   ·rw[zMo v]at a;cases a;revert h;cases b.1 with
    |s0 k=>
     intro h
     dsimp only at h
     revert r;apply gO;exact bi 31 (jt<|jt<|lF λp=>el AC [2,3] [0,1] p [] H0 [.nils,.bool T]<|AO.tupL (l:=[.nils,.bool T]) (l':=[.ints ([]:Ξ),.bool T]) rfl ⟨AO.ints_nil,Ab,trivial⟩) (gw 32 (lG AC [0,1] (G _ _ · o j)))
    |s1 m Q R=>
     intro h
     dsimp only at h
     revert r;apply gO;exact bi 31 (jt<|jt<|lF λp=>el AC [2,3] [0,1] p [] H0 [.nils,.bool T]<|AO.tupL (l:=[.nils,.bool T]) (l':=[.ints ([]:Ξ),.bool T]) rfl ⟨AO.ints_nil,Ab,trivial⟩) (gw 32 (lG AC [0,4,1] (G _ _ · o j)))
   ·replace h:=B7 h;rcases h with⟨v,h⟩|⟨v,h⟩
    ·rw[zMo v]at a;cases a;refine Nl ⟨rfl,?_⟩ _;revert h;cases b.1 with
     |s0 k=>
      intro h
      dsimp only at h
      revert r;apply gT;exact lF λ_=>Dd.el (.inr rfl) [] H0 [.nils,.bool T] (AO.tupL (l:=[.nils,.bool T]) (l':=[.ints ([]:Ξ),.bool T]) rfl ⟨AO.ints_nil,Ab,trivial⟩) Z5
     |s1 m Q R=>
      intro h
      dsimp only at h
      revert r;apply gT;exact gn λs=>lF λ_=>Dd.e (.inr rfl) [4] (H0.g s) Z5
    ·cases h))))<|jt<|jt<|lF λp=>el AC [2,3] [0,1] p [] H0 [.nils,.bool D]<|AO.tupL (l:=[.nils,.bool D]) (l':=[.ints ([]:Ξ),.bool D]) rfl ⟨AO.ints_nil,Ab,trivial⟩
 case l2 x10 JC o1=>
  intro o j;refine rd j λo j=>?_
  revert r;apply gO
  exact bi 11 (gi (jt (cn λc f=>jc (pL f [oC [.msl 1 1 0 JC],oI o1,oC [.bool T],oC [.i 0]]) (cn λb K=>λp r h=>by
   refine gs AC [0,2,3,4,1] p (Gn (Af Tryz.f89) 16 [o]) (AI 34 [(2,.ref 0 0),(3,.ref 1 0),(6,.ref 2 0),(8,.ints pos),(9,.i (F pos:U)),(10,.i x10),(16,.it 3)]) (zLq JC c o1) ?_;refine rx [.ret] 3 16 #[17] BY 4 K (zCX n pos x10) λe a=>?_
   replace h:=B7 h;rcases h with⟨v,h⟩|⟨v,h⟩
   ·rw[zMo v]at a;cases a;revert h;cases b.1 with
    |s0 k t S=>
     intro h
     dsimp only at h
     revert r;apply gO;exact bi 31 (jt<|jt<|lF λp=>el AC [2,3] [0,1] p [] H0 [.nils,.bool T]<|AO.tupL (l:=[.nils,.bool T]) (l':=[.ints ([]:Ξ),.bool T]) rfl ⟨AO.ints_nil,Ab,trivial⟩) (gw 32 (lG AC [0,4,1] (G _ _ · o j)))
    |s1 m=>
     intro h
     dsimp only at h
     revert r;apply gO;exact bi 31 (jt<|jt<|lF λp=>el AC [2,3] [0,1] p [] H0 [.nils,.bool T]<|AO.tupL (l:=[.nils,.bool T]) (l':=[.ints ([]:Ξ),.bool T]) rfl ⟨AO.ints_nil,Ab,trivial⟩) (gw 32 (lG AC [0,1] (G _ _ · o j)))
   ·replace h:=B7 h;rcases h with⟨v,h⟩|⟨v,h⟩
    ·rw[zMo v]at a;cases a;refine Nl ⟨rfl,?_⟩ _;revert h;cases b.1 with
     |s0 k t S=>
      intro h
      dsimp only at h
      revert r;apply gT;exact gn λs=>lF λ_=>Dd.e (.inr rfl) [4] (H0.g s) Z5
     |s1 m=>
      intro h
      dsimp only at h
      revert r;apply gT;exact lF λ_=>Dd.el (.inr rfl) [] H0 [.nils,.bool T] (AO.tupL (l:=[.nils,.bool T]) (l':=[.ints ([]:Ξ),.bool T]) rfl ⟨AO.ints_nil,Ab,trivial⟩) Z5
    ·cases h))))<|jt<|jt<|gn λw=>lF λp=>ez AC [2,3] [0,1,2] p [1]<|H0.g w
def zCT{r:Ξ×ζ}(h:Zh n pos=Z r):EQ 89 [.ints pos] [] (.tup 2<|L1 [.ints r.1,.bool r.2]) [] D:=by
 refine ot Tryz.func89 λϜ N=>?_
 revert r;apply gO;exact lN AC [0,1] ((zCa Ϝ N pos n) _ _ · n χ)
def iV(n:E)(q:AA)(pos:Ξ)(tree:O<|Δ):W5:=(valid n q).bind λe=>B (e != 0) (Z e)<|(QF n q pos).bind λr=>B (r != 0) (Z r)<|B (C<|(F tree:U)>65536) (Z 2)<|Z 0
def Lv(n:E)(q:AA)(pos:Ξ)(tree:O<|Δ):W5:=iV n q pos tree
def pq{tree:O Δ}(h:Lv n q pos tree=Z r):EQ 40 [.agg 5<|L1<|AJ q,.ints pos,.sl 2 (F tree)<|AM BA tree] [] (.i r) [] D:=by
 unfold Lv iV at h;refine ot Tryz.func40 λϜ N=>?_
 revert r;apply gO;exact cf ZG [oC<|AJ q] λ_=>bi 10 (lE AC [6] [])<|cf kV [oC<|AJ q] λ_=>bi 16 (lE AC [6] [])<|bi 20 (lE AC [6] [])<|lE AC [6] []
end
section
variable{q:AA}{pos:Ξ}
theorem kq(x:U):BitVec.ofInt 64 (IntKind.u64.wrap x)=BitVec.ofInt 64 x:=by
 grind[BitVec.toNat_ofInt,IntKind.wrap_u64]
variable{s:E}
theorem qS(a:U)(hs:s<63)(t:E):tb (IntKind.i64.wrap<|bits .and .u64 (IntKind.u64.wrap a)<|IntKind.u64.wrap<|1*2^s) t=(tb a t&&C (s=t)):=by
 rw[ij]
 have e:tb (bits .and .u64 (IntKind.u64.wrap a)<|IntKind.u64.wrap<|1*2^s) t=(BitVec.ofInt 64 (IntKind.u64.wrap a)&&& BitVec.ofInt 64 (IntKind.u64.wrap<|1*2^s)).getLsbD t:=by
  show(BitVec.ofInt 64<|IntKind.u64.wrap ((BitVec.ofInt 64 (IntKind.u64.wrap a)&&& BitVec.ofInt 64 (IntKind.u64.wrap<|1*2^s)).toNat:U)).getLsbD t=_
  grind[kq]
 rw[e,kq,kq,BitVec.getLsbD_and];have h2:=Hu (show s<64 by omega) t
 grind[ij,tb]
def La(y:Ξ)(j s:E):Ξ:=y.set j<|IntKind.i64.wrap<|bits .and .u64 (IntKind.u64.wrap<|H y j 0)<|IntKind.u64.wrap<|1*2^s
def GL(y:Ξ)(j s:E):Ξ:=u (DG<|La y j s) (d (F y) 0)<|La y j s
variable{j:E}{y:Ξ}
theorem zN1(a:CN q=D)(hy:posOk q y=D)(b:j<F y)(hs:s<q.sy.toNat):F (La y j s)=F y/\∀l,l<F y->CB (H (La y j s) l 0)/\∀t,tb (H (La y j s) l 0) t=(tb (H y l 0) t&&(!C (l=j)||C (t=s))):=by
 obtain⟨h1,c⟩:=(K7 a).1 hy;obtain⟨hc,He,_⟩:=ER a;unfold La;refine⟨zKy,λl f=>?_⟩
 by_cases e:j=l
 ·subst e;rw[Mr b];refine⟨Rt _,λt=>?_⟩;rw[qS _ Z2,zAB rfl,zLW,zRN]
  grind
 ·rw[getD_set_ne e];refine⟨(c l f).in64 Z2,λt=>?_⟩
  grind
theorem zAv(hv:CN q=D)(hy:posOk q y=D):posOk q (d (F y) 0)=D:=by
 simp_all[Int.pow_pos,posOk]
def zN2(a:CN q=D)(hy:posOk q y=D)(b:j<F y)(p:s<q.sy.toNat):posOk q (GL y j s)=D:=by
 obtain⟨c,e⟩:=(K7 a).1 hy;obtain⟨hc,He,_⟩:=ER a;obtain⟨R,f⟩:=zN1 a hy b p;unfold GL;split
 ·exact zAv a hy
 ·refine(K7 a).2 ⟨by rw[R];exact c,λl hl=>?_⟩;obtain⟨g,X⟩:=f l Z2;refine NR Z2 g λt o _=>?_
  rw[X,(e l Z2).hi o];rfl
variable{n:E}
theorem zOC(hF:DK q)(t:CN q=D)(hy:posOk q y=D)(l:j<F y)(hs:s<q.sy.toNat)(hn:CX q+300<=n):Q3 n q y j s=Z (GL y j s,0):=by
 obtain⟨h1,h2⟩:=(K7 t).1 hy;obtain⟨hc,He,_⟩:=ER t;have ϙ:(1000000000000:E)=Aw:=rfl;have lb:(256:E)<=LB:=Z6
 have sy:((q.sy.toNat:E):U)=q.sy:=Z2
 have N:QF n q y=Z 0:=by
  grind[kW,JA]
 unfold Q3 nr gP oT;rw[N,zAC];simp only[zLP,zKx,u8,zRJ];rw[zAE Z2,zAE Z2,zAE Z2,zAE Z2];simp only[zNG,zAD];rw[zAF ⟨⟨trivial,⟨trivial,trivial⟩,Z2⟩,⟨Z2,Z2⟩,l⟩]
 have v:cN n (IntKind.u64.wrap<|H y j 0) s=Z (bits .and .u64 (IntKind.u64.wrap<|H y j 0)<|IntKind.u64.wrap<|1*2^s):=by
  unfold cN vM;rw[zAF ⟨Z2,by show(s:U)<=((64:E):U);omega⟩,u8]
 rw[v,zAC,zAF<|by rw[zKy]]
 grind[cT,La,GL,kz,zg]
def Db:Ξ->W6
 |[]=>Z []
 |x::l=>match Bz x 0 with
  |[s]=>(Db l).map λr=>(s:U)::r
  |_=>A
def Zl:∀{p g:Ξ},Db p=Z g->F g=F p
 |[],g,h=>by cases h;rfl
 |x::p,g,h=>by
  unfold Db at h;split at h
  ·obtain⟨r,k,rfl⟩:=zQa.1 h;rw[zLA,zLA,Zl k]
  ·cases h
variable{x10:U}
theorem zCi :∀(l:Θ),(∀s∈l,s<16)->DY (VD n pos x10) (l.map λ(s:E)=>(s:U)) (.s0 0)=Z (match l with|[]=>(.s0 0,0)|[s]=>(.s1 1 1 [(s:U)],0)|_=>(.s0 2,1))
 |[],_=>rfl
 |s::l,h=>by
  have hs:=h s Z3
  have R:VD n pos x10 (s:U) (.s0 0)=Z (.s1 1 1 [(s:U)],0):=by
   show VA n pos x10 (s:U) 0=_
   unfold VA;rw[zAF Z6,zAE Z2,zAD,zAE Z2,zAD,zAF ⟨⟨rfl,rfl⟩,Z3,by simp[Aw]⟩];rfl
  rw[zNe];simp only[DY,R,zAC];cases l with
  |nil=>rfl
  |cons t l=>
   have e2:VD n pos x10 (t:U) (.s1 1 1 [(s:U)])=Z (.s0 2,1):=by
    rfl
   grind[DY]
theorem zCh{m:E}{o:Ξ}(K:m=F o)(hl:F o<=300):∀(l:Θ),(∀s∈l,s<16)->DY (VC n pos x10) (l.map λ(s:E)=>(s:U)) (.s0 m 0 o)=Z (match l with|[]=>(.s0 m 0 o,0)|[s]=>(.s0 (m+1) 1<|o++[(s:U)],0)|_=>(.s1 2,1))
 |[],_=>rfl
 |s::l,h=>by
  have hs:=h s Z3;have ϙ:(1000000000000:E)=Aw:=rfl
  have R:VC n pos x10 (s:U) (.s0 m 0 o)=Z (.s0 (m+1) 1<|o++[(s:U)],0):=by
   show VB n pos x10 (s:U) m 0 o=_
   unfold VB;rw[zAF Z6,zAE Z2,zAD,zAE Z2,zAD,zAF ⟨⟨rfl,rfl⟩,⟨rfl,K⟩,Z7⟩,K];rfl
  rw[zNe];simp only[DY,R,zAC];cases l with
  |nil=>rfl
  |cons t l=>
   have e2:VC n pos x10 (t:U) (.s0 (m+1) 1<|o++[(s:U)])=Z (.s1 2,1):=by
    rfl
   grind[DY]
def FZ(o:Ξ):W6->Ξ×ζ
 |some r=>(o++r,D)
 |none=>([],T)
variable{x:U}
theorem zAn(h:Sm 16 x):Ev (λn=>M8 n<|IntKind.u64.wrap x)<|(Bz x 0).map λ(s:E)=>(s:U):=by
 have e:IntKind.u64.wrap x=x:=by
  show x%18446744073709551616=x
  grind[Sm]
 rw[e];exact pM h 16 0 Z2
def Zt(h:s∈Bz x 0):s<16:=(cq.1 h).1
theorem rQ(w:∀j,j<F pos->Sm 16 (H pos j 0))(q:F pos<=256):∀(k j:E) (o:Ξ),j+k=F pos->F o<=256->F o+k<=256->Ev (λn=>HM pos n<|.l2 (j:U) (F o) o) (FZ o<|Db<|pos.drop j)
 |0,j,o,e,K,_=>by
  simp_all[Ev.one,SR,HM,Db,FZ]
 |k+1,j,o,e,K,hk=>by
  have b:j<F pos:=Z2
  have z:pos.drop j=H pos j 0::pos.drop (j+1):=by
   simp_all
  have P:=zAn<|w j b;have lb:AG<|(j:U)+1:=AZ.2 ⟨Z2,Z2⟩;have c:=λs:E=>rQ w q k (j+1) (o++[(s:U)]) Z2 Z7 Z7
  have start:∀n,HM pos (n+1) (.l2 (j:U) (F o) o)=SR n (HM pos n) pos (j:U) (F o) o:=λ_=>rfl
  obtain⟨N,i⟩:=P;have i:∀n,N<=n->M8 n (IntKind.u64.wrap<|H pos j 0)=Z ((Bz (H pos j 0) 0).map λ(s:E)=>(s:U)):=i;have hf:=λn=>zCh (n:=n) (pos:=pos) (x10:=(j:U)) (o:=o) rfl Z2 (Bz (H pos j 0) 0) λs p=>Zt p
  rw[z,Db];cases p:Bz (H pos j 0) 0 with
  |nil=>
   refine Ev.oneN N λn a=>?_
   rw[start];unfold SR
   simp_all[FZ]
  |cons s l=>
   cases l with
   |nil=>
    have g:AR (HM pos) (.l2 (j:U) (F o) o)<|.l2 ((j+1:E):U) (F<|o++[(s:U)])<|o++[(s:U)]:=AR.oneN N λn a=>by
     simp_all[SR]
    have:=g.ev<|c s;cases f:Db (pos.drop<|j+1)with
    |none=>rw[f]at this;exact this
    |some r=>grind[FZ]
   |cons t l=>
    refine Ev.oneN N λn a=>?_
    simp_all[SR,FZ]
theorem zCf(w:∀j,j<F pos->Sm 16 (H pos j 0))(q:F pos<=256):Ev (λn=>Zh n pos)<|FZ []<|Db pos:=by
 cases pos with
 |nil=>
  refine Ev.eq (g:=λn=>HM [] n<|.l1 0) (Ev.one λn=>?_) λn=>rfl
  grind[SS,HM,FZ,Db]
 |cons x p=>
  have c:=w 0 Z3;obtain⟨N,i⟩:=zAn c;have i:∀n,N<=n->M8 n (IntKind.u64.wrap x)=Z ((Bz x 0).map λ(s:E)=>(s:U)):=i;have e:=λn=>zCi (n:=n) (pos:=x::p) (x10:=0) (Bz x 0) λs a=>Zt a
  refine Ev.eq (g:=λn=>HM (x::p) n<|.l1 0) ?_ λn=>rfl
  have start:∀n,HM (x::p) (n+1) (.l1 0)=SS n (HM (x::p) n) (x::p) 0:=λ_=>rfl
  have P:C ((0:U)<((F<|x::p:E):U))=D:=zAB Z3;have f:H (x::p) (0:U).toNat 0=x:=rfl;rw[Db];cases a:Bz x 0 with
  |nil=>
   refine Ev.oneN N λn b=>?_
   rw[start];unfold SS
   simp_all[FZ]
  |cons s l=>
   cases l with
   |nil=>
    have g:AR (HM<|x::p) (.l1 0)<|.l2 ((1:E):U) [(s:U)].length [(s:U)]:=AR.oneN N λn b=>by
     rw[start];unfold SS;rw[P,zAG,zAF ⟨Z2,Z3⟩,f,i n b,zAC,e n,a];rfl
    have:=g.ev (rQ w q (F p) 1 [(s:U)] Z7 Z3<|by simp at q⊢;omega);simp only[List.drop_one,List.tail_cons]at this;cases k:Db p with
    |none=>rw[k]at this;exact this
    |some r=>grind[FZ]
   |cons t l=>
    refine Ev.oneN N λn b=>?_
    simp_all[SS,FZ]
end
section
variable{q:AA}{c:AD}{pos:Ξ}{k:E}
def Lq(c:AD)(pos:Ξ)(i j:E)(g:E->E):Prop:=∀b,i<=b->b<j->tb (AY c pos b) (g b)=D
def GR(q:AA)(i j:E)(g:E->E):Prop:=∀b,i<=b->b+1<j->H q.va (g b) 0<H q.va (g<|b+1) 0
variable{b:U}
def pu :∀(l:Ξ) (a:U),l.foldl (Kd q b) a=a∨∃e∈l,H q.va e.toNat 0=l.foldl (Kd q b) a/\H q.va e.toNat 0>b
 |[],a=>.inl rfl
 |e::l,a=>by
  rw[zLY];rcases pu l (Kd q b a e)with h|⟨x,c,f⟩
  ·rw[h];unfold Kd;split
   ·rename_i m;split
    ·exact .inr ⟨e,zMw,rfl,m⟩
    ·exact .inl rfl
   ·exact .inl rfl
  ·exact .inr ⟨x,zLL _ c,f⟩
def zT :∀(l:Ξ) (a:U),l.foldl (KH q b) a=a∨∃e∈l,H q.va e.toNat 0=l.foldl (KH q b) a/\H q.va e.toNat 0<b
 |[],a=>.inl rfl
 |e::l,a=>by
  rw[zLY];rcases zT l (KH q b a e)with h|⟨x,c,f⟩
  ·rw[h];unfold KH;split
   ·rename_i m;split
    ·exact .inr ⟨e,zMw,rfl,m⟩
    ·exact .inl rfl
   ·exact .inl rfl
  ·exact .inr ⟨x,zLL _ c,f⟩
def zAO(W:Ca c k pos):∀i,i<=F c.ce->IM q c pos i<100->∃g,Lq c pos 0 i g/\GR q 0 i g/\(0<i->H q.va (g<|i-1) 0=IM q c pos i)
 |0,_,_=>⟨λ_=>0,λb _ h=>τ h<|zBT b,λb _ h=>τ h<|zBT _,λh=>τ h<|Nat.lt_irrefl 0⟩
 |i+1,hi,h=>by
  rcases pu (q:=q) (b:=IM q c pos i) (By<|AY c pos i) 100 with f|⟨e,f,a,m⟩
  ·have:IM q c pos (i+1)=100:=f;omega
  ·have a:H q.va e.toNat 0=IM q c pos (i+1):=a;obtain⟨s,rfl,hs,o⟩:=(Fk (W.at Z2)<|zIX W.k Z6).1 f;rw[u8]at a m;obtain⟨g,l,y,n⟩:=zAO W i Z2 Z2;refine⟨λb=>u (b=i) s<|g b,λb j K=>?_,λb j K=>?_,λ_=>?_⟩
   ·dsimp only
    by_cases e:b=i
    ·subst e;rw[zAF rfl];exact o
    ·rw[zJz e];exact l b j Z2
   ·have R:b≠i:=Z2
    dsimp only
    rw[zJz R]
    by_cases X:b+1=i
    ·have:=n Z2;rw[zAF X,show b=i-1 by omega,this];exact m
    ·rw[zJz X];exact y b j Z2
   ·dsimp only
    rw[zAF Z2];exact a
variable{g:E->E}
def zQZ(W:Ca c k pos):∀i,i<F c.ce->Lq c pos 0 (i+1) g->GR q 0 (i+1) g->IM q c pos i<H q.va (g i) 0->IM q c pos (i+1)<=H q.va (g i) 0:=λi hi a _ m=>by
 have h:=(pw (q:=q) (b:=IM q c pos i) (By<|AY c pos i) 100).1<|zKw _;have o:=a i (zK5 _) Z2;have P:=(Fk (W.at hi) (zIX W.k Z6) (e:=(g i:U))).2 ⟨g i,rfl,zK4 λK=>(by rw[(W.at hi).hi K]at o;cases o),o⟩;have:=h.2 _ P;rw[u8]at this;exact this m
def zAP(W:Ca c k pos)(V:D6 q k):∀i,i<F c.ce->Lq c pos 0 (i+1) g->GR q 0 (i+1) g->IM q c pos i<H q.va (g i) 0
 |0,hi,a,_=>by
  have o:=a 0 (zI1 _) Z2;have:=V.val (g 0) (zK4 λK=>by rw[(W.at hi).hi K]at o;cases o)
  show(-1:U)<_
  omega
 |i+1,hi,a,e=>by
  have y:Lq c pos 0 (i+1) g:=λb m f=>a b m Z2
  have N:GR q 0 (i+1) g:=λb m f=>e b m Z2
  have m:=zAP W V i Z2 y N;have f:=zQZ W i Z2 y N m;have h5:=e i (zK5 _) Z2;omega
def zAq(W:Ca c k pos):∀m,m<=F c.ce->-1<KV q c pos m->∃g,Lq c pos (F c.ce-m) (F c.ce) g/\GR q (F c.ce-m) (F c.ce) g/\(0<m->H q.va (g<|F c.ce-m) 0=KV q c pos m)
 |0,_,_=>⟨λ_=>0,λb f a=>τ a Z2,λb f a=>τ a Z2,λh=>τ h<|Nat.lt_irrefl 0⟩
 |m+1,hm,h=>by
  rcases zT (q:=q) (b:=KV q c pos m) (By<|AY c pos<|F c.ce-1-m) (-1)with f|⟨e,f,a,i⟩
  ·have:KV q c pos (m+1)= -1:=f;omega
  ·have a:H q.va e.toNat 0=KV q c pos (m+1):=a;obtain⟨s,rfl,hs,o⟩:=(Fk (W.at Z2)<|zIX W.k Z6).1 f;rw[u8]at a i;obtain⟨g,j,y,l⟩:=zAq W m Z2 Z2;have X:F c.ce-(m+1)=F c.ce-1-m:=Z2
   refine⟨λb=>u (b=F c.ce-1-m) s<|g b,λb n K=>?_,λb n K=>?_,λ_=>?_⟩
   ·dsimp only
    by_cases e:b=F c.ce-1-m
    ·subst e;rw[zAF rfl];exact o
    ·rw[zJz e];exact j b Z2 K
   ·have p:b+1≠F c.ce-1-m:=Z2
    dsimp only
    rw[zJz p]
    by_cases R:b=F c.ce-1-m
    ·have:=l Z2;rw[zAF R,show b+1=F c.ce-m by omega,this];exact i
    ·rw[zJz R];exact y b Z2 K
   ·dsimp only
    rw[zAF X];exact a
def zAr(W:Ca c k pos)(V:D6 q k):∀m,m<F c.ce->Lq c pos (F c.ce-1-m) (F c.ce) g->GR q (F c.ce-1-m) (F c.ce) g->H q.va (g<|F c.ce-1-m) 0<KV q c pos m
 |0,P,i,_=>by
  have o:=i (F c.ce-1-0) Z2 Z2;have:=V.val (g<|F c.ce-1-0) (zK4 λK=>by rw[(W.at Z2).hi K]at o;cases o)
  show _<(100:U)
  omega
 |m+1,P,i,l=>by
  have R:F c.ce-1-m=F c.ce-1-(m+1)+1:=Z2
  have y:Lq c pos (F c.ce-1-m) (F c.ce) g:=λb j f=>i b Z2 f
  have N:GR q (F c.ce-1-m) (F c.ce) g:=λb j f=>l b Z2 f
  have j:=zAr W V m Z2 y N;have h:=(zU (q:=q) (b:=KV q c pos m) (By<|AY c pos<|F c.ce-1-m)<|-1).1<|zKw _;have o:=i (F c.ce-1-m) Z2 Z2;have S:=(Fk (W.at (a:=F c.ce-1-m) Z2) (zIX W.k Z6) (e:=(g<|F c.ce-1-m:U))).2 ⟨_,rfl,zK4 λK=>(by rw[(W.at Z2).hi K]at o;cases o),o⟩;have f:=h.2 _ S;rw[u8]at f;have f:_<=KV q c pos (m+1):=f j;have n:=l (F c.ce-1-(m+1)) (zI1 _) Z2;rw[←R]at n;omega
variable{a:E}
def zFW(W:Ca c k pos)(V:D6 q k){s:E}(j:a<F c.ce)(p:tb (AY c pos a) s=D):Jr q c pos a s=T↔∃g,Lq c pos 0 (F c.ce) g/\GR q 0 (F c.ce) g/\g a=s:=by
 have hv:=V.val s (zK4 λK=>by rw[(W.at j).hi K]at p;cases p);unfold Jr Lk;rw[Bool.or_eq_false_iff,zM9,zM9];constructor
 ·rintro⟨f,h⟩;obtain⟨l,n,o,t⟩:=zAO (q:=q) W a Z2 Z2;obtain⟨y,r,G,x⟩:=zAq (q:=q) W (F c.ce-(a+1)) Z2 Z2;have el:F c.ce-(F c.ce-(a+1))=a+1:=Z2
  rw[el]at r G x;refine⟨λb=>u (b<a) (l b)<|u (b=a) s<|y b,λb _ i=>?_,λb _ i=>?_,by dsimp only;rw[if_neg Z2,if_pos rfl]⟩
  ·dsimp only
   by_cases R:b<a
   ·rw[zAF R];exact n b (zK5 _) R
   ·by_cases X:b=a
    ·subst X;rw[zJz R,zAF rfl];exact p
    ·rw[zJz R,zJz X];exact r b Z2 i
  ·dsimp only
   by_cases R:b<a
   ·rw[zAF R]
    by_cases X:b+1<a
    ·rw[zAF X];exact o b (zK5 _) X
    ·have:=t Z2;rw[zJz X,zAF Z2,show b=a-1 by omega,this];omega
   ·rw[zJz R,zJz (by omega:¬b+1<a),zJz (by omega:¬b+1=a)]
    by_cases X:b=a
    ·have:=x Z2;rw[zAF X,X,this];omega
    ·rw[zJz X];exact G b Z2 i
 ·rintro⟨g,f,h,rfl⟩;have l1:=zAP W V a j (λb m e=>f b m Z2) λb m e=>h b m Z2;have v:=zAr W V (F c.ce-1-a) Z2 (λb m e=>f b Z2 e) λb m e=>h b Z2 e;have R:F c.ce-1-(F c.ce-1-a)=a:=Z2
  have X:F c.ce-(a+1)=F c.ce-1-a:=Z2
  rw[R]at v;rw[X];omega
def Hs(c:AD)(pos:Ξ)(a:E)(inn:ζ):E->Δ->Prop
 |0,t=>iI c t
 |m+1,s=>∃b ϛ,kd c pos (F c.ce-1-m) b=D/\(F c.ce-1-m=a->b=inn)/\nx c s.1 s.2 b=Z ϛ/\Hs c pos a inn m ϛ
variable{inn:ζ}
def aE :∀(m:E),m+a+1<=F c.ce->∀t,Fu c pos (F c.ce-m) t->(Hs c pos a inn m t↔Lp c pos m t)
 |0,_,t,_=>Iff.rfl
 |m+1,hm,s,k=>by
  have e:F c.ce-(m+1)=F c.ce-1-m:=Z2
  have X:F c.ce-m=F c.ce-1-m+1:=Z2
  rw[e]at k;constructor
  ·rintro⟨b,ϛ,f,_,g,W⟩;exact⟨k,ϛ,b,g,f,(aE m Z2 ϛ<|by rw[X];exact⟨s,b,k,g,f⟩).1 W⟩
  ·rintro⟨_,ϛ,b,g,f,W⟩;exact⟨b,ϛ,f,λh=>τ h Z2,g,(aE m Z2 ϛ<|by rw[X];exact⟨s,b,k,g,f⟩).2 W⟩
def sM(j:a<F c.ce):∀(i:E),i<=a->(Hs c pos a inn (F c.ce) (0,0)↔∃s,Fu c pos i s/\Hs c pos a inn (F c.ce-i) s)
 |0,_=>⟨λh=>⟨(0,0),rfl,h⟩,λ⟨s,f,g⟩=>by
  have f:s=(0,0):=f;subst f;exact g⟩
 |i+1,hi=>by
  rw[sM j i Z2];have e:F c.ce-i=(F c.ce-(i+1))+1:=Z2
  have X:F c.ce-1-(F c.ce-(i+1))=i:=Z2
  constructor
  ·rintro⟨s,f,g⟩;rw[e]at g;obtain⟨b,ϛ,m,_,K,p⟩:=g;rw[X]at m;exact⟨ϛ,⟨s,b,f,K,m⟩,p⟩
  ·rintro⟨ϛ,⟨s,b,f,K,m⟩,p⟩;refine⟨s,f,?_⟩;rw[e];exact⟨b,ϛ,by rw[X];exact m,λh=>τ h (by rw[X];omega),K,p⟩
theorem oX(i:a<F c.ce):Is c pos a inn↔Hs c pos a inn (F c.ce) (0,0):=by
 rw[sM i a<|zI1 _];have e:F c.ce-a=(F c.ce-1-a)+1:=Z2
 have X:F c.ce-1-(F c.ce-1-a)=a:=Z2
 have h:F c.ce-(F c.ce-1-a)=a+1:=Z2
 constructor
 ·rintro⟨s,t,f,g,m,W⟩;refine⟨s,f,?_⟩;rw[e];exact⟨inn,t,by rw[X];exact m,λ_=>rfl,g,(aE _ Z2 t<|by rw[h];exact⟨s,inn,f,g,m⟩).2 W⟩
 ·rintro⟨s,f,g⟩;rw[e]at g;obtain⟨b,t,m,W,K,p⟩:=g;rw[X]at m W;obtain rfl:=W rfl;exact⟨s,t,f,K,m,(aE _ Z2 t<|by rw[h];exact⟨s,b,f,K,m⟩).1 p⟩
end
section
structure Gd(q:AA)(g:Ξ):Prop where
 len:(F g:U)=q.ce
 sym:∀j,j<F g->0<=H g j 0/\H g j 0<q.sy
def FH(g:Ξ):Ξ:=g.map λs=>IntKind.i64.wrap<|1*2^s.toNat
def Ae(c:AD)(g:Ξ)(a:E):E:=(H g (H c.ce a 0).toNat 0).toNat
def Co(c:AD)(g:Ξ):Ω:=g.map λs=>tb c.set s.toNat
def rl(b:E->ζ)(len:E):E->U->Ξ
 |0,l=>u (l>0) [l] []
 |m+1,l=>B (b<|len-1-m) (rl b len m<|l+1)<|u (l>0) (l::rl b len m 0)<|rl b len m 0
def IP(n:O Ξ)(inn:Ω):Prop:=∀ϛ v:E,ϛ<F n->v<F n->H inn ϛ T=D->H inn v T=D->Rc n inn ϛ v
def Dq(q:AA)(c:AD)(g:Ξ):Prop:=(c.kind=1->∀a b,a<F c.ce->b<F c.ce->Ae c g a=Ae c g b->a=b)/\(c.kind=2->c.lo<=cnt (λa=>tb c.set<|Ae c g a) (F c.ce)/\cnt (λa=>tb c.set<|Ae c g a) (F c.ce)<=c.hi)/\(c.kind=3->c.lo<=B5 (λa=>H q.va (Ae c g a) 0) (F c.ce)/\B5 (λa=>H q.va (Ae c g a) 0) (F c.ce)<=c.hi)/\(c.kind=4->GR q 0 (F c.ce) (Ae c g))/\(c.kind=5->rl (λa=>tb c.set<|Ae c g a) (F c.ce) (F c.ce) 0=c.ru)/\(c.kind=6->Ge q c (Ae c g 0) (Ae c g 1)=D)/\(c.kind=7->GC c (Ae c g 0) (Ae c g 1)=D)/\(c.kind=8->IP q.nb (Co c g))/\(c.kind=9->IP q.nb (Co c g)/\∀v,v<F g->H (Co c g) v T=D->Bn q.nb (Co c g) v=2)
variable{g:Ξ}
def Jh :F (FH g)=F g:=zKB _
variable{j:E}
def jB(l:j<F g):H (FH g) j 0=IntKind.i64.wrap (1*2^(H g j 0).toNat):=by
 unfold FH;rw[zBD,zM2,zKA l,zBD,zKA l];rfl
variable{c:AD}
def Wc :F (Co c g)=F g:=zKB _
def vn(l:j<F g):H (Co c g) j T=tb c.set (H g j 0).toNat:=by
 unfold Co;rw[zBD,zM2,zKA l,zBD,zKA l];rfl
variable{s:E}
def zHw(p:s<64)(m:U):(bits .and .i64 (IntKind.i64.wrap<|1*2^s) m != 0)=tb m s:=by
 have:=Ue p m;rw[bne,this,Bool.not_not]
def uk{k:E}(hk:k<=16)(hs:s<k):Sm k<|IntKind.i64.wrap<|1*2^s:=
 NR Z2 (Rt _) λi hi _=>by rw[Hu Z2,zAE Z2]
section
variable{q:AA}{i:U}{g:Ξ}{c:AD}
def Gd.pos(G:Gd q g)(t:CN q=D):posOk q (FH g)=D:=by
 have hk:=(ER t).2.1;refine(K7 t).2 ⟨by rw[Jh];exact G.len,λj l=>?_⟩;rw[Jh]at l;have:=G.sym j l;rw[jB l];exact uk Z2 Z2
def Gd.lt(G:Gd q g)(t:CN q=D){j:E}(l:j<F g):(H g j 0).toNat<q.sy.toNat/\(H g j 0).toNat<16:=by
 have hk:=(ER t).2.1;have:=G.sym j l;omega
def zCg(G:Gd q g)(t:CN q=D){j:E}(l:j<F g)(s:E):tb (H (FH g) j 0) s=C ((H g j 0).toNat=s):=by
 rw[jB l,Hu (by have:=G.lt t l;omega)]
structure Sv(q:AA)(c:AD)(g:Ξ):Prop where
 v:CN q=D
 G:Gd q g
 cell:∀a,a<F c.ce->0<=H c.ce a 0/\H c.ce a 0<(F g:U)
def Sv.lt(S:Sv q c g){a:E}(b:a<F c.ce):Ae c g a<q.sy.toNat/\Ae c g a<16:=S.G.lt S.v (by have:=S.cell a b;omega)
def Br.sv(Ϙ:Br q i<|FH g)(G:Gd q g):Sv q (con q i) g:=⟨Ϙ.valid,G,λa c=>by have:=Ϙ.work.ce a c;rw[Jh]at this;exact this⟩
def Sv.nz(S:Sv q c g):∀j,j<F (FH g)->H (FH g) j 0≠0:=λj l=>by
 rw[Jh]at l;refine(Lw<|by rw[jB l];exact Rt _).2 ⟨(H g j 0).toNat,by have:=S.G.lt S.v l;omega,?_⟩;rw[zCg S.G S.v l,zAB rfl]
end
end
section
variable{q:AA}{g:Ξ}{c:AD}
def Sv.gi(S:Sv q c g){a:E}(b:a<F c.ce):H g (H c.ce a 0).toNat 0=((Ae c g a:E):U):=by
 have h:=S.cell a b;have:=S.G.sym (H c.ce a 0).toNat Z2;unfold Ae;omega
def aS{b:E->ζ}{N:E}:∀(m:E) (l:U),F (rl b N m l)<=m+1
 |0,l=>by unfold rl;split <;> simp
 |m+1,l=>by
  unfold rl;cases b (N-1-m)
  ·rw[zAD];have:=aS (b:=b) (N:=N) m 0;split
   ·simp;omega
   ·omega
  ·rw[zAG];have:=aS (b:=b) (N:=N) m<|l+1;omega
end
section
set_option maxRecDepth 100000
set_option maxHeartbeats 40000000
inductive gG where
 |l1 (x4:E) (C7:Ξ) (Ls EN:U) (o0:O Ξ)
def RC(n:E)(self:gG->X0)(g_:O Ξ)(AH:Ω)(f:E)(i:Ξ)(p Q:U)(o0:O Ξ):X0:=B (C<|Q<p) (u (0<=Q/\Q<(F i:U)) (B (C<|H i Q.toNat 0>0) (u (AG (H i Q.toNat 0-1)/\((0:U)<=(H i Q.toNat 0-1)/\(H i Q.toNat 0-1)<(f:U))/\0+(H i Q.toNat 0-1).toNat<F o0/\F (H o0 (0+(H i Q.toNat 0-1).toNat) ξ)+F ([Q]:Ξ)<=Aw/\AG (Q+1)) (self<|.l1 f i p (Q+1)<|o0.set (0+(H i Q.toNat 0-1).toNat)<|H o0 (0+(H i Q.toNat 0-1).toNat) ξ++([Q]:Ξ)) A)<|u (AG<|Q+1) (self<|.l1 f i p (Q+1) o0) A) A)<|u (f=F o0) (Z (o0,0)) A
def zPv(n:E)(self:gG->X0)(I:O Ξ)(N:Ω):X0:=(LV n I ([N]:O Ω)).bind λe=>B (e != 0) (Z (([]:O Ξ),e))<|(parts n I N).bind λr=>u ((r.2:U)=r.2/\0<=r.2/\(r.2:U)<=1000000000000) (self<|.l1 (r.2).toNat r.1 (F r.1:U) 0<|d (r.2).toNat ([]:Ξ)) A
def My(I:O Ξ)(N:Ω):E->gG->X0
 |0,_=>A
 |n+1,.l1 f i p Q o0=>RC n (My I N n) I N f i p Q o0
def gH(n:E)(I:O Ξ)(N:Ω):X0:=zPv n (My I N n) I N
def zPx(n Ϝ:E)(N:Yd 0)(g_:O Ξ)(AH:Ω)(r:(O Ξ)×U):gG->Prop:=px n Ϝ η N (FQ Tryz.f185 0 (.tup 2<|L1 [.sl 1 (F r.1)<|AM AS r.1,.i r.2]) []) (Af Tryz.f185) λ
 | .l1 f a p Q o0=>(0,0,AI 48 [(4,.msl 0 1 0 f),(25,.ints a),(26,.i p),(27,.i Q)],[Z<|.mo<|.rws o0 A])
def zPy(Ϝ:E)(N:Yd 0)(I:O Ξ)(a:Ω):Al (My I a) (zPx · Ϝ N I a):=ia (λ_=>rfl) λn G b r h=>by
 cases b
 case l1 x4 C7 Ls EN o0=>
  intro o j;refine rd j λo j=>?_
  revert r;apply gO;exact bi 28 (gi (bi 33 (gc (gn λs=>jw 36 s (jw 39 s (gc (gn λy=>jg y (gc (gn λi=>jg i (jg (γ (φ 0)<|φ 1) (jg (by decide:0<1) (jg i (gc (gi (jg y (jg (φ<|0+(H C7 EN.toNat 0-1).toNat) (jg i (gw 46 (lG AC [3] (G _ _ · o j)))))))))))))))))) (gw 46 (lG AC [0] (G _ _ · o j)))))<|gn λc=>lF λp=>ez AC [4,5] [0] p [0]<|H0.g c
variable{I:O Ξ}{n:E}
def zPu{a:Ω}{r:(O Ξ)×U}(h:gH n I a=Z r):EQ 185 [.sl 1 (F I)<|AM AS I,.bools a] [] (.tup 2<|L1 [.sl 1 (F r.1)<|AM AS r.1,.i r.2]) [] D:=by
 refine ot Tryz.func185 λϜ N=>?_
 revert r;apply gO;exact ja 12 0 1 (E4 (c:=Uc) (ϙ:=([a]:O Ω)) (vals:=[.bools a]) rfl ⟨⟨_,rfl,⟨Ab,trivial⟩⟩,trivial⟩) (jz 12 0 (jg (φ 1) (cf eV [A] λe=>bi 15 (lF λp=>el AC [4,5] [] p [] H0 [.nils,.i e]<|AO.tupL (l:=[.nils,.i e]) (l':=[.sl 1 (F ([]:O Ξ))<|AM AS ([]:O Ξ),.i e]) rfl ⟨AO.sl_nil _ _,Ab,trivial⟩) (cf kY [A] λ_=>gi (jk 24 (lN AC [1] ((zPy Ϝ N I a n) _ _ · n χ)))))))
inductive Vr where
 |l1 (x6 x23:U)
 |l2 (x6 x9 x23:U) (CC:Ξ) (BX CS:U)
def Pr(n:E)(self:Vr->X4)(I:O Ξ)(N:Ω)(x6 x23:U):X4:=B (C<|x23<(F I:U)) (u ((0<=x23/\x23<(F I:U))/\(0<=x23/\x23<(F N:U))) (B (!(H N x23.toNat T)) (u (AG<|x23+1) (self<|.l1 x6<|x23+1) A)<|u (AG<|x6+1) (self<|.l2 (x6+1) 0 x23 (H I x23.toNat []) ((F<|H I x23.toNat []:E):U) 0) A) A)<|(parts n I N).bind λe=>B (C<|x6>=3) (Z (e.2==1,0))<|Z (T,0)
def Pq(n:E)(self:Vr->X4)(g_:O Ξ)(N:Ω)(x6 Y x23:U)(m:Ξ)(G Q:U):X4:=B (C<|Q<G) (u ((0<=Q/\Q<(F m:U))/\(0<=H m Q.toNat 0/\H m Q.toNat 0<(F N:U))) (B (H N (H m Q.toNat 0).toNat T) (u (AG (Y+1)/\AG (Q+1)) (self<|.l2 x6 (Y+1) x23 m G<|Q+1) A)<|u (AG<|Q+1) (self<|.l2 x6 Y x23 m G<|Q+1) A) A)<|B (Y != 2) (Z (T,0))<|u (AG<|x23+1) (self<|.l1 x6<|x23+1) A
def zFp(n:E)(self:Vr->X4)(I:O Ξ)(N:Ω):X4:=(LV n I ([N]:O Ω)).bind λe=>B (e != 0) (Z (T,e))<|self<|.l1 0 0
def Ia(I:O Ξ)(N:Ω):E->Vr->X4
 |0,_=>A
 |n+1,.l1 x6 x23=>Pr n (Ia I N n) I N x6 x23
 |n+1,.l2 x6 Y x23 m G Q=>Pq n (Ia I N n) I N x6 Y x23 m G Q
def Sl(n:E)(I:O Ξ)(N:Ω):X4:=zFp n (Ia I N n) I N
def zFr(n Ϝ:E)(N:Yd 0)(I:O Ξ)(a:Ω)(r:ζ×U):Vr->Prop:=px n Ϝ η N (FQ Tryz.f186 0 (.tup 2<|L1 [.bool r.1,.i r.2]) []) (Af Tryz.f186) λ
 | .l1 x6 x23=>(0,0,AI 63 [(0,.sl 1 (F I)<|AM AS I),(1,.bools a),(6,.i x6),(21,.sl 1 (F I)<|AM AS I),(22,.i (F I:U)),(23,.i x23)],[])
 | .l2 x6 Y x23 m G Q=>(1,2,AI 63 [(0,.sl 1 (F I)<|AM AS I),(1,.bools a),(6,.i x6),(9,.i Y),(21,.sl 1 (F I)<|AM AS I),(22,.i (F I:U)),(23,.i x23),(35,.ints m),(36,.i G),(37,.i Q)],[])
def zFs(Ϝ:E)(N:Yd 0)(I:O Ξ)(a:Ω):Al (Ia I a) (zFr · Ϝ N I a):=ia (λ_=>rfl) λn G s r h=>by
 cases s
 case l1 x6 x23=>
  intro o j;refine rd j λo j=>?_
  revert r;apply gO;exact bi 24 (gc (gi (gi (bi 32 (gw 50 (lG AC [] (G _ _ · o j))) (gw 34 (lN AC [] (G _ _ · o n j χ)))))))<|cf kY [] λ_=>bi 58 (lE AC [4,5] [])<|lE AC [4,5] []
 case l2 x6 x9 x23 CC BX CS=>
  intro o w j z;have j:=zCG j;refine rd z λw z=>?_
  revert r;apply gO;exact bi 38 (gc (gi (gi (bi 44 (gc (gw 46 (gw 47 (lG AC [] (G _ _ · o w j z))))) (gw 47 (lG AC [] (G _ _ · o w j z))))))) (bi 49 (lE AC [4,5] []) (gw 50 (lG AC [] (G _ _ · o j))))
def zFo{a:Ω}{r:ζ×U}(h:Sl n I a=Z r):EQ 186 [.sl 1 (F I)<|AM AS I,.bools a] [] (.tup 2<|L1 [.bool r.1,.i r.2]) [] D:=by
 refine ot Tryz.func186 λϜ N=>?_
 revert r;apply gO;exact ja 16 0 1 (E4 (c:=Uc) (ϙ:=([a]:O Ω)) (vals:=[.bools a]) rfl ⟨⟨_,rfl,⟨Ab,trivial⟩⟩,trivial⟩) (jz 16 0 (jg (φ 1) (cf eV [A] λ_=>bi 19 (lE AC [4,5] []) (lN AC [] ((zFs Ϝ N I a n) _ _ · n χ)))))
def wq(n:E)(h v:U):X9:=u (0<=v/\v<=(IntKind.i64.bits:U)) (Z<|bits .and .i64 (h/2^(v).toNat) 1==1) A
def Ik(n:E)(h v:U):X9:=wq n h v
variable{r:ζ}{a:U}
def LM{v:U}(h:Ik n a v=Z r):EQ 155 [.i a,.i v] [] (.bool r) [] D:=by
 refine ot Tryz.func155 λϜ N=>?_
 revert r;apply gO;exact gi<|lE AC [4] []
def zE0(n:E)(AE cells:Ξ)(AP:U):M Unit:=Z ()
def zE2(n:E)(v cells:Ξ)(h:U):M Unit:=zE0 n v cells h
def zEz(v cells:Ξ)(a:U){r:Unit}(h:zE2 n v cells a=Z r):EQ 153 [.ints v,.ints cells,.i a] [] (.fn 183 3<|L1 [.ref 0 0,.ref 1 0,.ref 2 0]) [oC [.ints cells],oC [.i a],oC [.ints v]] D:=by
 refine ot Tryz.func153 λϜ N=>?_
 revert r;apply gO;exact lE AC [6] [1,2,0]
def zDU:Ac (Ah Tryz.f183 4) [([0,1,2,3,4],5)] [] []:=Z0
def L7:BG:=λi=>match i with
 |4=>.ord [([0,1,2,3,4],5)] [] []
 |_=>.no
inductive Sh where
 |l1 (x5 x10:U)
def Pn(n:E)(self:Sh->W6)(k:Ξ)(h:U)(v:Ξ)(P x10:U):W6:=B (C<|x10<(F k:U)) (u ((0<=x10/\x10<(F k:U))/\(0<=H k x10.toNat 0/\H k x10.toNat 0<(F v:U))) ((Ik n h<|H v (H k x10.toNat 0).toNat 0).bind λe=>B e (u (AG (P+1)/\AG (x10+1)) (self<|.l1 (P+1)<|x10+1) A)<|B (C<|P>0) (B (C<|P>0) (Option.map (λl=>P::l)<|u (AG<|x10+1) (self<|.l1 0<|x10+1) A)<|u (AG<|x10+1) (self<|.l1 0<|x10+1) A)<|u (AG<|x10+1) (self<|.l1 0<|x10+1) A) A)<|B (C<|P>0) (Option.map (λl=>P::l)<|Z [])<|Z []
def sV(n:E)(self:Sh->W6)(CM:Ξ)(AP:U)(AE:Ξ):W6:=self<|.l1 0 0
def Hz(k:Ξ)(h:U)(v:Ξ):E->Sh->W6
 |0,_=>A
 |n+1,.l1 P x10=>Pn n (Hz k h v n) k h v P x10
def Si(n:E)(k:Ξ)(h:U)(v:Ξ):W6:=sV n (Hz k h v n) k h v
def jT(Ϙ:Bm L)(n:E)(k:Ξ)(h:U)(v:Ξ)(r:Ξ):Sh->Prop
 | .l1 P x10=>∀o:E,n<=o->∀i:E,i<=F Ϙ.encs->Ϙ.encs.drop i=r.map BY->A2 L GG η A 3 (Ϙ.Y GG 3 i) (Ϙ.Q GG 3) (Du o<|FU (Af Tryz.f183) 0 []) ⟨AI 36 [(0,.yl Ϙ.l),(2,.ref 1 0),(3,.ref 2 0),(5,.i P),(8,.ints k),(9,.i (F k:U)),(10,.i x10)],[oC [.ints k],oC [.i h],oC [.ints v]]⟩
def zE3(Ϙ:Bm L)(n:E)(self:Sh->W6)(k:Ξ)(a:U)(v:Ξ)(G:∀s r,self s=Z r->jT Ϙ n k a v r s)(P x10:U)(r:Ξ)(h:Pn n self k a v P x10=Z r):jT Ϙ (n+1) k a v r<|.l1 P x10:=by
 intro o j;intro i hi z;refine rd j λo j=>?_
 unfold Pn at h;have p:=H0;rcases B7 h with⟨Y,h⟩|⟨Y,h⟩
 ·obtain⟨⟨I,J⟩,h⟩:=B8 h;obtain⟨y1,K,h⟩:=GP h;have p:=H0.b 11 Y|>.g I|>.g zDU|>.g J|>.c (fb (LM K) [oC [.ints k],oC [.i a],oC [.ints v]])
  rcases B7 h with⟨Q,h⟩|⟨Q,h⟩
  ·obtain⟨⟨f,N⟩,h⟩:=B8 h;have p:=p.b 19 Q|>.w 21 f|>.w 30 N
   exact gg L7 [0,1,2] p<|G _ _ h o j i hi z
  ·have p:=p.b 19 Q;rcases B7 h with⟨t,h⟩|⟨t,h⟩
   ·refine gs (AK 6 L7) [0,1,2] p (CW (Af Tryz.f183) 6 [o]) (AI 36 [(0,.yl Ϙ.l),(2,.ref 1 0),(3,.ref 2 0),(5,.i P),(8,.ints k),(9,.i (F k:U)),(10,.i x10)]) [oC [.ints k],oC [.i a],oC [.ints v]] ?_;have p:=H0;rcases B7 h with⟨Y,h⟩|⟨Y,h⟩
    ·have p:=H0.b 23 Y;obtain⟨r,m,rfl⟩:=MQ h;clear h;have h:=m;clear m;obtain⟨q,hi,z⟩:=YG z;refine A2.y (ops:=Ah Tryz.f183 6) HC.x 5 [0,2,3,8,9,10,29] [0,1,2] p (x:=BY P) (AI 36 [(0,.yl Ϙ.l),(2,.ref 1 0),(3,.ref 2 0),(8,.ints k),(9,.i (F k:U)),(10,.i x10),(29,.bool T)]) [oC [.ints k],oC [.i a],oC [.ints v]] (AI 36 [(0,.yl Ϙ.l),(2,.ref 1 0),(3,.ref 2 0),(8,.ints k),(9,.i (F k:U)),(10,.i x10),(29,.bool D)]) [oC [.ints k],oC [.i a],oC [.ints v]] Z5 Z5 Z5 q Z5 ?_ ?_
     ·generalize i+1=i at hi z⊢
      obtain⟨f,h⟩:=B8 h;have p:=H0.w 30 f;exact gg L7 [0,1,2] p<|G _ _ h o j i hi z
     ·exact TrI.e HC.x L7 6 H0 Z5<|.inr rfl
    ·obtain⟨f,h⟩:=B8 h;have p:=H0.b 23 Y|>.w 30 f
     exact gg L7 [0,1,2] p<|G _ _ h o j i hi z
   ·obtain⟨f,h⟩:=B8 h;have p:=p.b 23 t|>.w 30 f
    exact gg L7 [0,1,2] p<|G _ _ h o j i hi z
 ·have p:=H0.b 11 Y;rcases B7 h with⟨Q,h⟩|⟨Q,h⟩
  ·have p:=p.b 32 Q;refine gs (AK 10 L7) [0,1,2] p (CW (Af Tryz.f183) 10 []) (AI 36 [(0,.yl Ϙ.l),(5,.i P)]) [oC [.ints k],oC [.i a],oC [.ints v]] ?_;have p:=H0;obtain⟨r,m,rfl⟩:=MQ h;cases m;obtain⟨q,hi,z⟩:=YG z;exact A2.yE (ops:=Ah Tryz.f183 10) HC.x 2 p (x:=BY P) Z5 Z5 Z5 q<|Q7 hi z
  ·have p:=p.b 32 Q;cases h;exact TrI.e HC.x L7 14 p Z5 (.inl<|by rw[Q7 hi z])
def sW(Ϙ:Bm L)(k:Ξ)(a:U)(v:Ξ):∀(n:E) (s:Sh) (r:Ξ),Hz k a v n s=Z r->jT Ϙ n k a v r s
 |0,_,_,h=>by cases h
 |n+1,.l1 P x10,r,h=>zE3 Ϙ n (Hz k a v n) k a v (sW Ϙ k a v n) P x10 r h
def zE4(k:Ξ)(a:U)(v:Ξ){r:Ξ}(h:Si n k a v=Z r)(Ϙ:Bm L)(w:Ϙ.encs=r.map BY):A2 L GG η A 3 (Ϙ.Y GG 3 0) (Ϙ.Q GG 3) [.code<|Af Tryz.f183] ⟨AI 36 [(0,.yl Ϙ.l),(1,.ref 0 0),(2,.ref 1 0),(3,.ref 2 0)],[oC [.ints k],oC [.i a],oC [.ints v]]⟩:=by
 suffices ϗ:∀i:E,i<=F Ϙ.encs->Ϙ.encs.drop i=r.map BY->A2 L GG η A 3 (Ϙ.Y GG 3 i) (Ϙ.Q GG 3) [.code<|Af Tryz.f183] ⟨AI 36 [(0,.yl Ϙ.l),(1,.ref 0 0),(2,.ref 1 0),(3,.ref 2 0)],[oC [.ints k],oC [.i a],oC [.ints v]]⟩from ϗ 0 (zK5 _) (by rw[zNZ];exact w)
 intro i hi z;have G:=sW Ϙ k a v n;unfold Si at h
 generalize Hz k a v n=self at h G
 unfold sV at h;have p:=H0;exact gg L7 [0,1,2] p<|en n<|G _ _ h n χ i hi z
variable{cells v:Ξ}
def zE1{r:Ξ}(h:Si n cells a v=Z r)(ϗ:DH):EQ 153 [.ints v,.ints cells,.i a] ϗ (.it<|F ϗ) (ϗ++[Z<|.iter<|r.map BY]) D:=by
 refine ES.iterN (c:=L1 [.ref 0 0,.ref 1 0,.ref 2 0]) (h0:=[oC [.ints cells],oC [.i a],oC [.ints v]]) (fn:=Tryz.f183) (zEz (n:=0) v cells a (r:=()) rfl) Z5 Tryz.func183 Z5 Z5 Z5 (λϘ w=>?_) ϗ;have e:DV.yl Ϙ.l::(θ 3).map (L1 [.ref 0 0,.ref 1 0,.ref 2 0])++d (Tryz.f183.ntmps-(3+1)) .any=AI 36 [(0,.yl Ϙ.l),(1,.ref 0 0),(2,.ref 1 0),(3,.ref 2 0)]:=Z5
 rw[e];exact zE4 cells a v h Ϙ w
inductive M7 where
 |s0
 |s1 (Fh:E) (EC:Ξ)
def zAf:M7->DH
 | .s0=>[A,oC [.nils]]
 | .s1 h K=>[A,oC [.msl 2 1 0 h],oI K]
def Ym(n:E)(o:U):M M7:=u ((0=0/\1=F ([o]:Ξ))/\0<F ([o]:Ξ)/\F ([o]:Ξ)<=Aw) (Z<|.s1 (F ([o]:Ξ)) ([o]:Ξ)) A
def Yk(n:E)(o:U)(h:E)(K:Ξ):M M7:=u ((0=0/\1=F ([o]:Ξ))/\(0=0/\h=F K)/\F K+F ([o]:Ξ)<=Aw) (Z<|.s1 (F K+F ([o]:Ξ))<|K++([o]:Ξ)) A
def zQu(n:E)(o:U):M7->M M7
 | .s0=>Ym n o
 | .s1 h K=>Yk n o h K
def g9(n:E)(o:U)(s:M7):M M7:=zQu n o s
def zQt(n:E)(l Ϝ:E)(N:Yd 2)(o:U)(s:M7)(r:M7)(h:g9 n o s=Z r):TA l Ϝ N (Cw 2 [] 0<|zAf r) Tryz.f182 6 ⟨AI 13 [(2,.ref 1 0),(6,.it 0),(7,.i o)],zAf s⟩:=by
 cases s with
 |s0=>
  replace h:Ym n o=Z r:=h;unfold Ym at h;refine ag AC [0,1] H0 (AI 13 [(2,.ref 1 0),(5,.i o)]) [A,oC [.nils]] λN=>?_
  revert r;apply gO;exact gi<|jt<|lF λp=>rr AC [0,1,3] rfl p
 |s1 a K=>
  replace h:Yk n o a K=Z r:=h;unfold Yk at h;refine ag AC [0,1,2] H0 (AI 13 [(2,.ref 1 0),(5,.i o)]) [A,oC [.msl 2 1 0 a],oI K] λN=>?_
  revert r;apply gO;exact gi<|jt<|lF λp=>rr AC [0,1,4] rfl p
def pF(n:E)(l:Ξ):W6:=
 (Bs (g9 n) l<|.s0).bind λe=>
  match e with
  | .s0=>
   Z ([]:Ξ)
  | .s1 I v=>
   if I=F v then
    Z v
   else A
def iA(n:E)(l:Ξ):W6:=pF n l
variable{l:Ξ}
def zQs{r:Ξ}(h:iA n l=Z r):EQ 182 [.nils,.it 0] [Z<|.iter<|(l).map BY] (.ints r) [A] T:=by
 unfold iA pF at h;refine ot Tryz.func182 λϜ N=>?_
 revert r;apply gO
 exact cn λe f=>λp r h=>by
  refine gs AC [0,1] p (Gn (Af Tryz.f182) 6 []) (AI 13 [(2,.ref 1 0),(6,.it 0)]) [Z<|.iter<|(l).map BY,oC [.nils]] ?_;refine r0 0 6 #[7] BY 2 f (zQt n) ?_;cases e with
  |s0=>
   dsimp only at h
   revert r;apply gO;exact lF λp=>el AC [4] [0] p [] H0 [.nils] AO.ints_nil
  |s1 Rs PN=>
   dsimp only at h
   revert r;apply gO;exact gn λj=>lF λp=>ez AC [4] [0,2] p [1]<|H0.g j
def oM(n:E)(l:Ξ):W6:=(iA n l).bind λe=>Z e
def RD(n:E)(l:Ξ):W6:=oM n l
def zP2{r:Ξ}(h:RD n l=Z r):EQ 152 [.it 0] [Z<|.iter<|(l).map BY] (.ints r) [A] T:=by
 unfold RD oM at h;refine ot Tryz.func152 λϜ N=>?_
 revert r;apply gO;exact ce zQs [0] [Z<|.iter<|(l).map BY] λ_=>lE AC [2] [0]
inductive fX where
 |l1 (x5 x10:U)
def YH(n:E)(self:fX->X9)(v cells:Ξ)(P x10:U):X9:=B (C<|x10<(F cells:U)) (u ((0<=x10/\x10<(F cells:U))/\(0<=H cells x10.toNat 0/\H cells x10.toNat 0<(F v:U))) ((Ik n P<|H v (H cells x10.toNat 0).toNat 0).bind λe=>B e (Z T)<|u ((0<=H v (H cells x10.toNat 0).toNat 0/\H v (H cells x10.toNat 0).toNat 0<=(IntKind.i64.bits:U))/\AG (x10+1)) (self<|.l1 (bits .or .i64 P<|IntKind.i64.wrap<|1*2^(H v (H cells x10.toNat 0).toNat 0).toNat)<|x10+1) A) A)<|Z D
def zOy(n:E)(self:fX->X9)(AE cells:Ξ):X9:=self<|.l1 0 0
def O0(v cells:Ξ):E->fX->X9
 |0,_=>A
 |n+1,.l1 P x10=>YH n (O0 v cells n) v cells P x10
def fY(n:E)(v cells:Ξ):X9:=zOy n (O0 v cells n) v cells
def zOz(n Ϝ:E)(N:Yd 0)(v cells:Ξ)(r:ζ):fX->Prop:=px n Ϝ η N (FQ Tryz.f148 0 (.bool r) []) (Af Tryz.f148) λ
 | .l1 P x10=>(0,0,AI 28 [(0,.ints v),(5,.i P),(8,.ints cells),(9,.i (F cells:U)),(10,.i x10)],[])
def zO0(Ϝ:E)(N:Yd 0)(v cells:Ξ):Al (O0 v cells) (zOz · Ϝ N v cells):=ia (λ_=>rfl) λn G a r h=>by
 cases a
 case l1 x5 x10=>
  intro o j;refine rd j λo j=>?_
  revert r;apply gO;exact bi 11 (gc (gi (gn λs=>jg s (cf LM [] λ_=>bi 19 (lE AC [4] []) (jg s (gc (gi (gw 27 (lG AC [] (G _ _ · o j))))))))))<|lE AC [4] []
def zOx(h:fY n v cells=Z r):EQ 148 [.ints v,.ints cells] [] (.bool r) [] D:=by
 refine ot Tryz.func148 λϜ N=>?_
 revert r;apply gO;exact lN AC [] ((zO0 Ϝ N v cells n) _ _ · n χ)
inductive fq where
 |l1 (x6 AQ:U)
def YU(n:E)(self:fq->W5)(v cells:Ξ)(h:U)(x6 k:U):W5:=B (C<|k<(F cells:U)) (u ((0<=k/\k<(F cells:U))/\(0<=H cells k.toNat 0/\H cells k.toNat 0<(F v:U))) ((Ik n h<|H v (H cells k.toNat 0).toNat 0).bind λe=>B e (u (AG (x6+1)/\AG (k+1)) (self<|.l1 (x6+1)<|k+1) A)<|u (AG<|k+1) (self<|.l1 x6<|k+1) A) A)<|Z x6
def zPX(n:E)(self:fq->W5)(AE cells:Ξ)(AP:U):W5:=self<|.l1 0 0
def UW(v cells:Ξ)(h:U):E->fq->W5
 |0,_=>A
 |n+1,.l1 x6 k=>YU n (UW v cells h n) v cells h x6 k
def fu(n:E)(v cells:Ξ)(h:U):W5:=zPX n (UW v cells h n) v cells h
def zPY(n Ϝ:E)(N:Yd 0)(v cells:Ξ)(h:U)(r:U):fq->Prop:=px n Ϝ η N (FQ Tryz.f149 0 (.i r) []) (Af Tryz.f149) λ
 | .l1 x6 k=>(0,0,AI 25 [(0,.ints v),(2,.i h),(6,.i x6),(9,.ints cells),(10,.i (F cells:U)),(11,.i k)],[])
def zPZ(Ϝ:E)(N:Yd 0)(v cells:Ξ)(a:U):Al (UW v cells a) (zPY · Ϝ N v cells a):=ia (λ_=>rfl) λn G s r h=>by
 cases s
 case l1 x6 AQ=>
  intro o j;refine rd j λo j=>?_
  revert r;apply gO;exact bi 12 (gc (gi (gi (cf LM [] λ_=>bi 20 (gc (gw 22 (gw 23 (lG AC [] (G _ _ · o j))))) (gw 23 (lG AC [] (G _ _ · o j)))))))<|lE AC [6] []
def zPW{r:U}(h:fu n v cells a=Z r):EQ 149 [.ints v,.ints cells,.i a] [] (.i r) [] D:=by
 refine ot Tryz.func149 λϜ N=>?_
 revert r;apply gO;exact lN AC [] ((zPZ Ϝ N v cells a n) _ _ · n χ)
inductive ZX where
 |l1 (x6 AQ:U)
def Uz(n:E)(self:ZX->W5)(z v cells:Ξ)(x6 k:U):W5:=B (C<|k<(F cells:U)) (u ((0<=k/\k<(F cells:U))/\(0<=H cells k.toNat 0/\H cells k.toNat 0<(F v:U))/\(0<=H v (H cells k.toNat 0).toNat 0/\H v (H cells k.toNat 0).toNat 0<(F z:U))/\AG (x6+H z (H v (H cells k.toNat 0).toNat 0).toNat 0)/\AG (k+1)) (self<|.l1 (x6+H z (H v (H cells k.toNat 0).toNat 0).toNat 0)<|k+1) A)<|Z x6
def zBt(n:E)(self:ZX->W5)(BE AE cells:Ξ):W5:=self<|.l1 0 0
def SI(z v cells:Ξ):E->ZX->W5
 |0,_=>A
 |n+1,.l1 x6 k=>Uz n (SI z v cells n) z v cells x6 k
def ZY(n:E)(z v cells:Ξ):W5:=zBt n (SI z v cells n) z v cells
def zBu(n Ϝ:E)(N:Yd 0)(z v cells:Ξ)(r:U):ZX->Prop:=px n Ϝ η N (FQ Tryz.f150 0 (.i r) []) (Af Tryz.f150) λ
 | .l1 x6 k=>(0,0,AI 26 [(0,.ints z),(1,.ints v),(6,.i x6),(9,.ints cells),(10,.i (F cells:U)),(11,.i k)],[])
def zBv(Ϝ:E)(N:Yd 0)(z v cells:Ξ):Al (SI z v cells) (zBu · Ϝ N z v cells):=ia (λ_=>rfl) λn G s r h=>by
 cases s
 case l1 x6 AQ=>
  intro o j;refine rd j λo j=>?_
  revert r;apply gO;exact bi 12 (gc (gi (gc (gi (gc (gi (gc (gw 23 (gw 24 (lG AC [] (G _ _ · o j)))))))))))<|lE AC [6] []
variable{z:Ξ}
def zBs{r:U}(h:ZY n z v cells=Z r):EQ 150 [.ints z,.ints v,.ints cells] [] (.i r) [] D:=by
 refine ot Tryz.func150 λϜ N=>?_
 revert r;apply gO;exact lN AC [] ((zBv Ϝ N z v cells n) _ _ · n χ)
inductive aZ where
 |l1 (x7 AT:U)
def Vp(n:E)(self:aZ->X9)(z v cells:Ξ)(J G:U):X9:=B (C<|G<(F cells:U)) (u ((0<=G/\G<(F cells:U))/\(0<=H cells G.toNat 0/\H cells G.toNat 0<(F v:U))/\(0<=H v (H cells G.toNat 0).toNat 0/\H v (H cells G.toNat 0).toNat 0<(F z:U))) (B (C<|H z (H v (H cells G.toNat 0).toNat 0).toNat 0<=J) (Z T)<|u (AG<|G+1) (self<|.l1 (H z (H v (H cells G.toNat 0).toNat 0).toNat 0)<|G+1) A) A)<|Z D
def zFg(n:E)(self:aZ->X9)(BE AE cells:Ξ):X9:=self<|.l1 (-1) 0
def Nj(z v cells:Ξ):E->aZ->X9
 |0,_=>A
 |n+1,.l1 J G=>Vp n (Nj z v cells n) z v cells J G
def aa(n:E)(z v cells:Ξ):X9:=zFg n (Nj z v cells n) z v cells
def zFh(n Ϝ:E)(N:Yd 0)(z v cells:Ξ)(r:ζ):aZ->Prop:=px n Ϝ η N (FQ Tryz.f151 0 (.bool r) []) (Af Tryz.f151) λ
 | .l1 J G=>(0,0,AI 33 [(0,.ints z),(1,.ints v),(7,.i J),(10,.ints cells),(11,.i (F cells:U)),(12,.i G)],[])
def zFi(Ϝ:E)(N:Yd 0)(z v cells:Ξ):Al (Nj z v cells) (zFh · Ϝ N z v cells):=ia (λ_=>rfl) λn G a r h=>by
 cases a
 case l1 x7 AT=>
  intro o j;refine rd j λo j=>?_
  revert r;apply gO;exact bi 13 (gc (gi (gc (gn λs=>jg s (gn λy=>jg y (bi 24 (lE AC [6] []) (jg s (jg y (gw 32 (lG AC [] (G _ _ · o j)))))))))))<|lE AC [6] []
def zFf(h:aa n z v cells=Z r):EQ 151 [.ints z,.ints v,.ints cells] [] (.bool r) [] D:=by
 refine ot Tryz.func151 λϜ N=>?_
 revert r;apply gO;exact lN AC [] ((zFi Ϝ N z v cells n) _ _ · n χ)
def zAj(n:E)(a b i:U):X9:=u (AG (a-b)/\AG (b-a)) (Z<|C<|(u ((b-a)>(a-b)) (b-a)<|a-b)>=i) A
def pH(n:E)(a b i:U):X9:=zAj n a b i
def zQ0{b c:U}(h:pH n a b c=Z r):EQ 154 [.i a,.i b,.i c] [] (.bool r) [] D:=by
 refine ot Tryz.func154 λϜ N=>?_
 revert r;apply gO;exact gc<|gw 9<|gw 12<|lE AC [6] []
def zEO:Ac (Ah Tryz.f184 0) [([0,1,2,3,4,5,6],7)] [8] [9]:=Z0
def zC0:BG:=λi=>match i with
 |0=>.ord [([0,1,2,3,4,5,6],7)] [8] [9]
 |_=>.no
def vv(n:E)(g h:U)(v:Ξ)(ln:E)(b:Ω):W8:=u (0<=g/\g<(F v:U)) ((Ik n h<|H v g.toNat 0).bind λe=>u ((0<=g/\g<(ln:U))/\0+g.toNat<F b) (Z<|b.set (0+g.toNat) e) A) A
def lH(n:E)(g h:U)(v:Ξ)(ln:E)(b:Ω):W8:=vv n g h v ln b
def zJD{g:U}{ln:E}{b:Ω}{r:Ω}(h:lH n g a v ln b=Z r):EQ 184 [.i g,.ref 0 0,.ref 1 0,.ref 2 0] [oC [.i a],oC [.ints v],oC [.msl 3 1 0 ln],Z<|.bools b] (.tup 0 λj=>([]:O DV).getD j .any) [oC [.i a],oC [.ints v],oC [.msl 3 1 0 ln],Z<|.bools r] T:=by
 refine ot Tryz.func184 λϜ N=>?_
 revert r;apply gO;exact jg zEO<|gi<|cf LM [oC [.i a],oC [.ints v],oC [.msl 3 1 0 ln],Z<|.bools b] λ_=>gc<|gi<|gi<|lE zC0 [] [0,1,2,3]
inductive dS where
 |l1 (C7:U) (o1:Ω)
def Wt(n:E)(self:dS->X9)(y:O Ξ)(v cells:Ξ)(h:U)(loop:ζ)(i:U)(o1:Ω):X9:=B (C<|i<(F cells:U)) (u (0<=i/\i<(F cells:U)) ((lH n (H cells i.toNat 0) h v (F v) o1).bind λe=>u (AG<|i+1) (self<|.l1 (i+1) e) A) A)<|u (F v=F o1) ((gH n y o1).bind λe=>B (!loop) (Z<|C<|(F e.1:U)<=1)<|B ((F e.1:U)==0) (Z<|C<|(F e.1:U)<=1)<|(Sl n y o1).bind λr=>Z r.1) A
def wb(n:E)(self:dS->X9)(CU:O Ξ)(v cells:Ξ)(AP:U)(loop:ζ):X9:=u (((F v:U):U)=(F v:U)/\0<=(F v:U)/\((F v:U):U)<=1000000000000) (self<|.l1 0<|d (F v) T) A
def Th(y:O Ξ)(v cells:Ξ)(h:U)(loop:ζ):E->dS->X9
 |0,_=>A
 |n+1,.l1 i o1=>Wt n (Th y v cells h loop n) y v cells h loop i o1
def Ti(n:E)(y:O Ξ)(v cells:Ξ)(h:U)(loop:ζ):X9:=wb n (Th y v cells h loop n) y v cells h loop
def zKL(n Ϝ:E)(N:Yd 0)(y:O Ξ)(v cells:Ξ)(h:U)(loop:ζ)(r:ζ):dS->Prop:=px n Ϝ η N (FQ Tryz.f156 0 (.bool r) []) (Af Tryz.f156) λ
 | .l1 a o1=>(0,0,AI 56 [(0,.sl 1 (F y)<|AM AS y),(4,.bool loop),(11,.ref 0 0),(12,.fn 184 3<|L1 [.ref 2 0,.ref 3 0,.ref 0 0]),(23,.ints cells),(24,.i (F cells:U)),(25,.i a)],[oC [.msl 1 1 0<|F v],Z<|.bools o1,oC [.i h],oC [.ints v]])
def zKM(Ϝ:E)(N:Yd 0)(y:O Ξ)(v cells:Ξ)(a:U)(loop:ζ):Al (Th y v cells a loop) (zKL · Ϝ N y v cells a loop):=ia (λ_=>rfl) λn G s r h=>by
 cases s
 case l1 C7 o1=>
  intro o j;refine rd j λo j=>?_
  revert r;apply gO
  exact bi 26 (gi (ce zJD [2,3,0,1] [oC [.msl 1 1 0<|F v],Z<|.bools o1,oC [.i a],oC [.ints v]] λ_=>gw 32 (lG AC [0,1,2,3] (G _ _ · o j)))) (gn λb=>λp r h=>by
   refine gz (AK 8 AC) [0,1] p [1] (H0.g b) (CW (Af Tryz.f156) 8 []) (AI 56 [(0,.sl 1 (F y)<|AM AS y),(4,.bool loop),(11,.ref 0 0)]) [oC [.bools o1],A] ?_;revert r;apply gO;exact cf zPu [oC [.bools o1],A] λ_=>bi 40 (lE AC [10] [])<|bi 44 (lE AC [10] [])<|cf zFo [oC [.bools o1],A] λ_=>lE AC [10] [])
def zKK{y:O Ξ}{loop:ζ}(h:Ti n y v cells a loop=Z r):EQ 156 [.sl 1 (F y)<|AM AS y,.ints v,.ints cells,.i a,.bool loop] [] (.bool r) [] D:=by
 refine ot Tryz.func156 λϜ N=>?_
 revert r;apply gO;exact gi (jt (lN AC [3,2,1,0] ((zKM Ϝ N y v cells a loop n) _ _ · n χ)))
def og(n:E)(v:U)(c:AD):X9:=B (C<|c.lo<=v) (Z<|C<|v<=c.hi)<|Z T
def RT(n:E)(v:U)(c:AD):X9:=og n v c
def zAL{v:U}{c:AD}(h:RT n v c=Z r):EQ 147 [.i v,.fp 9<|L1<|AW c] [] (.bool r) [] D:=by
 refine ot Tryz.func147 λϜ N=>?_
 revert r;apply gO;exact bi 7 (lE AC [3] [])<|lE AC [3] []
def zEL:Ac (Ah Tryz.f120 12) [([0,1,2,3,4,7,8],5),([],6),([],9)] [10] []:=Z0
def zEK:Ac (Ah Tryz.f120 14) [([0,1,2,3,4,5,6,7,8,9,10,11,12,13,14,15,16,17,18,19,20,21,22,23],24)] [25] []:=Z0
def zEJ:Ac (Ah Tryz.f120 16) [] (θ 16) []:=Z0
def NZ:BG:=λi=>match i with
 |12=>.ord [([0,1,2,3,4,7,8],5),([],6),([],9)] [10] []
 |14=>.ord [([0,1,2,3,4,5,6,7,8,9,10,11,12,13,14,15,16,17,18,19,20,21,22,23],24)] [25] []
 |16=>.ord [] (θ 16) []
 |_=>.no
def LG(n:E)(q:AA)(g:AD)(v:Ξ):X9:=B (g.kind==1) ((fY n v g.ce).bind λe=>Z e)<|B (g.kind==2) ((fu n v g.ce g.set).bind λe=>(RT n e g).bind λr=>Z r)<|B (g.kind==3) ((ZY n q.va v g.ce).bind λe=>(RT n e g).bind λr=>Z r)<|B (g.kind==4) ((aa n q.va v g.ce).bind λe=>Z e)<|B (g.kind==5) ((Si n g.ce g.set v).bind λe=>(RD n e).bind λr=>(UM n r g.ru).bind λy3=>Z y3)<|B (g.kind==6) (u (((0:U)<=0/\0<(F g.ce:U))/\(0<=H g.ce 0 0/\H g.ce 0 0<(F v:U))/\(0<=H v (H g.ce 0 0).toNat 0/\H v (H g.ce 0 0).toNat 0<(F q.va:U))/\((0:U)<=1/\1<(F g.ce:U))/\(0<=H g.ce 1 0/\H g.ce 1 0<(F v:U))/\(0<=H v (H g.ce 1 0).toNat 0/\H v (H g.ce 1 0).toNat 0<(F q.va:U))) ((pH n (H q.va (H v (H g.ce 0 0).toNat 0).toNat 0) (H q.va (H v (H g.ce 1 0).toNat 0).toNat 0) g.lo).bind λe=>Z e) A)<|B (g.kind==7) (u (((0:U)<=0/\0<(F g.ce:U))/\(0<=H g.ce 0 0/\H g.ce 0 0<(F v:U))/\((0:U)<=1/\1<(F g.ce:U))/\(0<=H g.ce 1 0/\H g.ce 1 0<(F v:U))) ((Ik n g.set<|H v (H g.ce 0 0).toNat 0).bind λe=>B e ((Ik n g.other<|H v (H g.ce 1 0).toNat 0).bind λr=>B r (Z T)<|(Ik n g.set<|H v (H g.ce 1 0).toNat 0).bind λy3=>B y3 ((Ik n g.other<|H v (H g.ce 0 0).toNat 0).bind λQ=>Z<|!Q)<|Z D)<|(Ik n g.set<|H v (H g.ce 1 0).toNat 0).bind λr=>B r ((Ik n g.other<|H v (H g.ce 0 0).toNat 0).bind λy3=>Z<|!y3)<|Z D) A)<|(Ti n q.nb v g.ce g.set<|g.kind==9).bind λe=>Z e
def Gg(n:E)(q:AA)(g:AD)(v:Ξ):X9:=LG n q g v
variable{q:AA}
def zI6{g:AD}(h:Gg n q g v=Z r):EQ 120 [.agg 5<|L1<|AJ q,.agg 9<|L1<|AW g,.ints v] [] (.bool r) [] D:=by
 refine ot Tryz.func120 λϜ N=>?_
 revert r;apply gO;exact bi 14 (cf zOx [oC<|AJ q,oC<|AW g] λ_=>lE AC [6] [])<|bi 20 (cf zPW [oC<|AJ q,oC<|AW g] λe=>cn λa K=>jc (sb [.i e,.ref 1 0] (zAL K) [oC<|AJ q,oC<|AW g] ⟨Am.plain Z5,Am.refL (l:=AW g) (l0:=AW g) rfl ⟨Am.plain Z5,Am.plain Z5,Am.plain Z5,Am.plain Z5,Am.plain Z5,Am.plain Z5,Am.plain Z5,Am.plain Z5,Am.plain Z5,trivial⟩,trivial⟩)<|lE AC [6] [])<|bi 30 (cf zBs [oC<|AJ q,oC<|AW g] λe=>cn λa K=>jc (sb [.i e,.ref 1 0] (zAL K) [oC<|AJ q,oC<|AW g] ⟨Am.plain Z5,Am.refL (l:=AW g) (l0:=AW g) rfl ⟨Am.plain Z5,Am.plain Z5,Am.plain Z5,Am.plain Z5,Am.plain Z5,Am.plain Z5,Am.plain Z5,Am.plain Z5,Am.plain Z5,trivial⟩,trivial⟩)<|lE AC [6] [])<|bi 40 (cf zFf [oC<|AJ q,oC<|AW g] λ_=>lE AC [6] [])<|bi 48 (jg zEL<|cn λe f=>jc (zE1 f [oC<|AJ q,oC<|AW g])<|cn λa K=>jq (eu (zP2 K) [2] [oC<|AJ q,oC<|AW g,Z<|.iter<|(e).map BY] 2)<|cf zE [oC<|AJ q,oC<|AW g,A] λ_=>lE NZ [6] [])<|bi 60 (jg zEK<|gc<|gi<|gc<|gi<|gc<|gi<|gc<|gi<|gc<|gi<|gi<|cf zQ0 [oC<|AJ q,oC<|AW g] λ_=>lE NZ [6] [])<|bi 87 (jg zEJ<|gc<|gi<|gc<|gi<|gc<|gi<|gi<|cf LM [oC<|AJ q,oC<|AW g] λ_=>bi 105 (cf LM [oC<|AJ q,oC<|AW g] λ_=>bi 110 (lE NZ [6] [])<|cf LM [oC<|AJ q,oC<|AW g] λ_=>bi 116 (cf LM [oC<|AJ q,oC<|AW g] λ_=>lE NZ [6] [])<|lE NZ [6] [])<|cf LM [oC<|AJ q,oC<|AW g] λ_=>bi 116 (cf LM [oC<|AJ q,oC<|AW g] λ_=>lE NZ [6] [])<|lE NZ [6] [])<|cf zKK [oC<|AJ q,oC<|AW g] λ_=>lE NZ [6] []
def py(n:E)(v J:U):X9:=B (C<|v<0) (Z D)<|Z<|C<|v>=J
def ZL(n:E)(v J:U):X9:=py n v J
variable{J:U}
def zBP{v:U}(h:ZL n v J=Z r):EQ 181 [.i v,.fp 1<|L1 [.i J]] [] (.bool r) [] D:=by
 refine ot Tryz.func181 λϜ N=>?_
 revert r;apply gO;exact bi 5 (lE AC [3] [])<|lE AC [3] []
inductive da where
 |l1 (x8:U)
def Wx(n:E)(self:da->W5)(l:Ξ)(J:U)(x8:U):W5:=B (C<|x8<(F l:U)) (u (0<=x8/\x8<(F l:U)) ((ZL n (H l x8.toNat 0) J).bind λe=>B e (Z x8)<|u (AG<|x8+1) (self<|.l1<|x8+1) A) A)<|Z<|-1
def zKb(n:E)(self:da->W5)(l:Ξ)(C9:U):W5:=self<|.l1 0
def OU(l:Ξ)(J:U):E->da->W5
 |0,_=>A
 |n+1,.l1 x8=>Wx n (OU l J n) l J x8
def wm(n:E)(l:Ξ)(J:U):W5:=zKb n (OU l J n) l J
def zKc(n Ϝ:E)(N:Yd 0)(l:Ξ)(J:U)(r:U):da->Prop:=px n Ϝ η N (FQ Tryz.f111 0 (.i r) []) (Af Tryz.f111) λ
 | .l1 x8=>(0,0,AI 19 [(0,.ints l),(1,.fn 181 1<|L1 [.fp 1<|L1 [.i J]]),(7,.i (F l:U)),(8,.i x8)],[])
def zKd(Ϝ:E)(N:Yd 0)(l:Ξ)(J:U):Al (OU l J) (zKc · Ϝ N l J):=ia (λ_=>rfl) λn G s r h=>by
 cases s
 case l1 x8=>
  intro o j;refine rd j λo j=>?_
  revert r;apply gO;exact bi 9 (gi (cf zBP [] λ_=>bi 16 (lE AC [4] []) (gw 18 (lG AC [] (G _ _ · o j)))))<|lE AC [4] []
def zKa{r:U}(h:wm n l J=Z r):EQ 111 [.ints l,.fn 181 1<|L1 [.fp 1<|L1 [.i J]]] [] (.i r) [] D:=by
 refine ot Tryz.func111 λϜ N=>?_
 revert r;apply gO;exact lN AC [] ((zKd Ϝ N l J n) _ _ · n χ)
def zk(n:E)(l:Ξ)(J:U):X9:=(wm n l J).bind λe=>Z<|C<|e>=0
def oG(n:E)(l:Ξ)(J:U):X9:=zk n l J
def zPh(h:oG n l J=Z r):EQ 105 [.ints l,.fn 181 1<|L1 [.fp 1<|L1 [.i J]]] [] (.bool r) [] D:=by
 unfold oG zk at h;refine ot Tryz.func105 λϜ N=>?_
 revert r;apply gO;exact cf zKa [] λ_=>lE AC [4] []
def ns(n:E)(cells p:U)(v:Ξ):X9:=B ((F v:U)==cells) ((oG n v p).bind λe=>Z<|!e)<|Z T
def Xv(n:E)(cells p:U)(v:Ξ):X9:=ns n cells p v
def zOG{cells p:U}(h:Xv n cells p v=Z r):EQ 146 [.i cells,.i p,.ints v] [] (.bool r) [] D:=by
 refine ot Tryz.func146 λϜ N=>?_
 revert r;apply gO;exact bi 10 (cn λy1 f=>jc (sb [.ints v,.fn 181 1<|L1 [.ref 0 0]] (zPh f) [oC [.i p]] ⟨Am.plain Z5,Am.fnL (l:=[.ref 0 0]) (l0:=[.fp 1<|L1 [.i p]]) ⟨Am.refL (l:=[.i p]) (l0:=[.i p]) rfl ⟨Am.plain Z5,trivial⟩,trivial⟩,trivial⟩)<|lE AC [6] [])<|lE AC [6] []
def tL(n:E)(q:AA)(v:Ξ):W5:=(valid n q).bind λe=>B (e != 0) (Z e)<|(Xv n q.ce q.sy v).bind λr=>B (!r) (Z 200)<|Z 0
def ap(n:E)(q:AA)(v:Ξ):W5:=tL n q v
def zGA{r:U}(h:ap n q v=Z r):EQ 118 [.agg 5<|L1<|AJ q,.ints v] [] (.i r) [] D:=by
 unfold ap tL at h;refine ot Tryz.func118 λϜ N=>?_
 revert r;apply gO;exact cf ZG [oC<|AJ q] λ_=>bi 8 (lE AC [4] [])<|cf zOG [oC<|AJ q] λ_=>bi 16 (lE AC [4] [])<|lE AC [4] []
end
abbrev zM5:=@iff_of_false
abbrev zNi:=@Nat.zero_lt_one
abbrev zNm:=@iff_of_true
abbrev zR5:=@List.length_singleton
def OW{k s n:E}{x:U}(h:Sm k x)(f:k<=62)(p:s<64):Ik n x (s:U)=Z (tb x s):=by
 unfold Ik wq;rw[zAF ⟨Z2,by show(s:U)<=((64:E):U);omega⟩,u8,Zr h f p]
section
variable{q:AA}{g:Ξ}{c:AD}
variable{k:E}
def zCl{x y:U}(f:k<=62)(a:Sm k x)(hy:Sm k y):Sm k<|bits .or .i64 x y:=
 NR f (D5 _ _ _) λi hi _=>by rw[Ke,a.hi hi,hy.hi hi];rfl
def zO3(S:Sv q c g)(hl:F c.ce<=256):∃r,Ev (λn=>fY n g c.ce) r/\(r=D↔∀a b,a<F c.ce->b<F c.ce->Ae c g a=Ae c g b->a=b):=by
 have key:∀(k i:E) (x:U),i+k=F c.ce->Sm 16 x->(∀s,tb x s=D↔∃b,b<i/\Ae c g b=s)->(∀a b,a<i->b<i->Ae c g a=Ae c g b->a=b)->
  ∃r,Ev (λn=>O0 g c.ce n<|.l1 x (i:U)) r/\(r=D↔∀a b,a<F c.ce->b<F c.ce->Ae c g a=Ae c g b->a=b):=by
  intro k
  induction k with
  |zero=>
   intro i x e o p z;have e:i=F c.ce:=Z2
   subst e;refine⟨D,Ev.one λn=>?_,zNm rfl z⟩
   show YH n (O0 g c.ce n) g c.ce x (F c.ce:U)=_
   unfold YH;rw[zAE Z2,zAD]
  |succ k v=>
   intro i x e o p z;have hi:i<F c.ce:=Z2
   have hc:=S.cell i hi;have w:=(S.lt hi).2
   have step:∀n,O0 g c.ce (n+1) (.l1 x (i:U))=B (tb x<|Ae c g i) (Z T) (O0 g c.ce n<|.l1 (bits .or .i64 x<|IntKind.i64.wrap<|1*2^Ae c g i) ((i+1:E):U)):=λn=>by
    show YH n (O0 g c.ce n) g c.ce x (i:U)=_
    unfold YH;rw[zAB Z2,zAG,u8,zAF ⟨⟨Z2,Z2⟩,hc⟩,S.gi hi,OW o Z6 Z2,zAC];cases tb x (Ae c g i)
    ·rw[zAD,zAD,zAF ⟨⟨Z2,by show((Ae c g i:E):U)<=((64:E):U);omega⟩,AZ.2 ⟨Z2,Z2⟩⟩,u8,show((i+1:E):U)=(i:U)+1 by omega]
    ·rfl
   cases f:tb x (Ae c g i)with
   |true=>
    obtain⟨b,m,j⟩:=(p _).1 f;refine⟨T,Ev.one λn=>by rw[step n,f,zAG],zM5 Z6 λh=>?_⟩;have:=h b i Z2 hi j;omega
   |false=>
    have no:∀b,b<i->Ae c g b≠Ae c g i:=λb y e=>by
     rw[(p _).2 ⟨b,y,e⟩]at f;cases f
    obtain⟨r,m,j⟩:=v (i+1) (bits .or .i64 x<|IntKind.i64.wrap<|1*2^Ae c g i) Z2 (zCl Z6 o<|uk Z6 w) (λs=>by
     rw[Ke,Hu Z2,zKu,p,zKv];constructor
     ·rintro(⟨b,m,j⟩|h)
      ·exact⟨b,Z2,j⟩
      ·exact⟨i,Z2,h⟩
     ·rintro⟨b,m,j⟩;rcases zIY.1 m with h|rfl
      ·exact .inl ⟨b,h,j⟩
      ·exact .inr j) (λa b l f t=>by
     rcases zIY.1 l with l|rfl <;> rcases zIY.1 f with f|rfl
     ·exact z a b l f t
     ·exact τ t<|no a l
     ·exact τ t.symm<|no b f
     ·rfl)
    exact⟨r,AR.ev (AR.one λn=>by rw[step n,f,zAD]) m,j⟩
 exact key (F c.ce) 0 0 Z2 ⟨Z6,Z6⟩ (λs=>by rw[ZQ];simp) λa b l=>τ l<|zBT a
def zPR(S:Sv q c g)(hl:F c.ce<=256)(b:Sm k c.set)(hk:k<=16):Ev (λn=>fu n g c.ce c.set)<|cnt (λa=>tb c.set<|Ae c g a)<|F c.ce:=by
 have key:∀(k i:E),i+k=F c.ce->Ev (λn=>UW g c.ce c.set n<|.l1 (cnt (λa=>tb c.set<|Ae c g a) i) (i:U)) (cnt (λa=>tb c.set<|Ae c g a)<|F c.ce):=by
  intro k
  induction k with
  |zero=>
   intro i e;have e:i=F c.ce:=Z2
   subst e;refine Ev.one λn=>?_
   show YU n (UW g c.ce c.set n) g c.ce c.set _ (F c.ce:U)=_
   unfold YU;rw[zAE Z2,zAD]
  |succ k f=>
   intro i e;have hi:i<F c.ce:=Z2
   have hc:=S.cell i hi;have Ao:=(S.lt hi).2;have hb:=RF (p:=λa=>tb c.set<|Ae c g a) (i:=i);refine AR.ev (AR.one λn=>?_)<|f (i+1) Z2
   show YU n (UW g c.ce c.set n) g c.ce c.set _ (i:U)=_
   unfold YU;rw[zAB Z2,zAG,u8,zAF ⟨⟨Z2,Z2⟩,hc⟩,S.gi hi,OW b Z2 Z2,zAC,O5,show((i+1:E):U)=(i:U)+1 by omega];cases tb c.set (Ae c g i)
   ·rw[zAD,zAF<|AZ.2 ⟨Z2,Z2⟩];simp
   ·rw[zAG,zAF ⟨AZ.2 ⟨Z2,Z2⟩,AZ.2 ⟨Z2,Z2⟩⟩,zAF rfl]
 exact key (F c.ce) 0 Z2
def zBl(S:Sv q c g)(V:D6 q q.sy.toNat)(hl:F c.ce<=256):Ev (λn=>ZY n q.va g c.ce)<|B5 (λa=>H q.va (Ae c g a) 0)<|F c.ce:=by
 have t:∀i,i<F c.ce->0<=H q.va (Ae c g i) 0/\H q.va (Ae c g i) 0<=99:=λi hi=>V.val _ (S.lt hi).1
 have key:∀(k i:E),i+k=F c.ce->Ev (λn=>SI q.va g c.ce n<|.l1 (B5 (λa=>H q.va (Ae c g a) 0) i) (i:U)) (B5 (λa=>H q.va (Ae c g a) 0)<|F c.ce):=by
  intro k
  induction k with
  |zero=>
   intro i e;have e:i=F c.ce:=Z2
   subst e;refine Ev.one λn=>?_
   show Uz n (SI q.va g c.ce n) q.va g c.ce _ (F c.ce:U)=_
   unfold Uz;rw[zAE Z2,zAD]
  |succ k b=>
   intro i e;have hi:i<F c.ce:=Z2
   have hc:=S.cell i hi;have Ao:=(S.lt hi).1;have Fn:=V.len;have Dj:=t i hi;have hb:=PU (f:=λa=>H q.va (Ae c g a) 0) i λa ha=>by have:=t a Z2;omega
   refine AR.ev (AR.one λn=>?_)<|b (i+1) Z2
   show Uz n (SI q.va g c.ce n) q.va g c.ce _ (i:U)=_
   unfold Uz;rw[zAB Z2,zAG,u8,S.gi hi,u8,zAF ⟨⟨Z2,Z2⟩,hc,⟨Z2,Z2⟩,AZ.2 ⟨Z2,Z2⟩,AZ.2 ⟨Z2,Z2⟩⟩,show((i+1:E):U)=(i:U)+1 by omega];rfl
 exact key (F c.ce) 0 Z2
def zFX(S:Sv q c g)(V:D6 q q.sy.toNat)(hl:F c.ce<=256):∃r,Ev (λn=>aa n q.va g c.ce) r/\(r=D↔GR q 0 (F c.ce) (Ae c g)):=by
 have t:∀i,i<F c.ce->0<=H q.va (Ae c g i) 0/\H q.va (Ae c g i) 0<=99:=λi hi=>V.val _ (S.lt hi).1
 have key:∀(k i:E) (x:U),i+k=F c.ce->(i=0->x= -1)->(0<i->x=H q.va (Ae c g<|i-1) 0)->GR q 0 i (Ae c g)->
  ∃r,Ev (λn=>Nj q.va g c.ce n<|.l1 x (i:U)) r/\(r=D↔GR q 0 (F c.ce) (Ae c g)):=by
  intro k
  induction k with
  |zero=>
   intro i x e h0 a m;have e:i=F c.ce:=Z2
   subst e;refine⟨D,Ev.one λn=>?_,zNm rfl m⟩
   show Vp n (Nj q.va g c.ce n) q.va g c.ce x (F c.ce:U)=_
   unfold Vp;rw[zAE Z2,zAD]
  |succ k f=>
   intro i x e h0 a m;have hi:i<F c.ce:=Z2
   have hc:=S.cell i hi;have Ao:=(S.lt hi).1;have Fn:=V.len;have Dj:=t i hi
   have step:∀n,Nj q.va g c.ce (n+1) (.l1 x (i:U))=B (C<|H q.va (Ae c g i) 0<=x) (Z T) (Nj q.va g c.ce n<|.l1 (H q.va (Ae c g i) 0) ((i+1:E):U)):=λn=>by
    show Vp n (Nj q.va g c.ce n) q.va g c.ce x (i:U)=_
    unfold Vp;rw[zAB Z2,zAG,u8,S.gi hi,u8,zAF ⟨⟨Z2,Z2⟩,hc,Z2,Z2⟩,zAF<|AZ.2 ⟨Z2,Z2⟩,show((i+1:E):U)=(i:U)+1 by omega]
   by_cases h:H q.va (Ae c g i) 0<=x
   ·refine⟨T,Ev.one λn=>by rw[step n,zAB h,zAG],zM5 Z6 λP=>?_⟩;rcases zRn i with e0|e0
    ·have:=h0 e0;omega
    ·have j:=P (i-1) (zK5 _) Z2;rw[←a e0,show i-1+1=i by omega]at j;omega
   ·obtain⟨r,l,G⟩:=f (i+1) (H q.va (Ae c g i) 0) Z2 (λh=>τ h Z2) (λ_=>by rw[Nat.add_sub_cancel]) (λb o hb=>by
     by_cases R:b+1=i
     ·rw[R,show b=i-1 by omega,←a Z2];omega
     ·exact m b o Z2)
    exact⟨r,AR.ev (AR.one λn=>by rw[step n,zAE h,zAD]) l,G⟩
 exact key (F c.ce) 0 (-1) Z2 (λ_=>rfl) (λh=>τ h<|Nat.lt_irrefl 0) λb _ h=>τ h<|zBT _
def zEs(S:Sv q c g)(hl:F c.ce<=256)(p:Sm k c.set)(hk:k<=16):Ev (λn=>Si n c.ce c.set g)<|rl (λa=>tb c.set<|Ae c g a) (F c.ce) (F c.ce) 0:=by
 have key:∀(m i:E) (l:U),i+m=F c.ce->0<=l/\l<=(i:U)->Ev (λn=>Hz c.ce c.set g n<|.l1 l (i:U)) (rl (λa=>tb c.set<|Ae c g a) (F c.ce) m l):=by
  intro m
  induction m with
  |zero=>
   intro i l e Y;have e:i=F c.ce:=Z2
   subst e;refine Ev.one λn=>?_
   show Pn n (Hz c.ce c.set g n) c.ce c.set g l (F c.ce:U)=_
   unfold Pn rl;rw[zAE Z2,zAD]
   by_cases h:l>0
   ·rw[zAB h,zAG,zAF h];rfl
   ·rw[zAE h,zAD,zJz h]
  |succ m f=>
   intro i l e Y;have hi:i<F c.ce:=Z2
   have hc:=S.cell i hi;have Ao:=(S.lt hi).2;have X:F c.ce-1-m=i:=Z2
   have start:∀n,Hz c.ce c.set g (n+1) (.l1 l (i:U))=B (tb c.set<|Ae c g i) (Hz c.ce c.set g n<|.l1 (l+1) ((i+1:E):U)) (B (C<|l>0) ((Hz c.ce c.set g n<|.l1 0 ((i+1:E):U)).map λr=>l::r)<|Hz c.ce c.set g n<|.l1 0 ((i+1:E):U)):=λn=>by
    have j:AG<|(i:U)+1:=AZ.2 ⟨Z2,Z2⟩
    show Pn n (Hz c.ce c.set g n) c.ce c.set g l (i:U)=_
    unfold Pn;rw[zAB Z2,zAG,u8,zAF ⟨⟨Z2,Z2⟩,hc⟩,S.gi hi,OW p Z2 Z2,zAC,show((i+1:E):U)=(i:U)+1 by omega];cases tb c.set (Ae c g i)
    ·rw[zAD,zAD,zAF j];cases C (l>0) <;> rfl
    ·rw[zAG,zAG,zAF ⟨AZ.2 ⟨Z2,Z2⟩,j⟩]
   unfold rl;rw[X];cases b:tb c.set (Ae c g i)with
   |true=>exact AR.ev (AR.one λn=>by rw[start n,b,zAG])<|f (i+1) (l+1) Z2 Z2
   |false=>
    have h0:=f (i+1) 0 Z2 Z2
    by_cases h:l>0
    ·obtain⟨N,h0⟩:=h0;refine⟨N+1,λn hn=>?_⟩;obtain⟨n,rfl⟩:∃k,n=k+1:=⟨n-1,Z2⟩
     show Hz c.ce c.set g (n+1) (.l1 l (i:U))=_
     rw[start n,b,zAD,zAB h,zAG,show Hz c.ce c.set g n (.l1 0 ((i+1:E):U))=_ from h0 n Z2,zAD,zAF h];rfl
    ·rw[zAD,zJz h];exact AR.ev (AR.one λn=>by rw[start n,b,zAD,zAE h,zAD]) h0
 exact key (F c.ce) 0 0 Z2 ⟨zKw _,Z2⟩
variable{n:E}
def zAi :∀(l x:Ξ),F (x++l)<=Aw->Bs (g9 n) l (.s1 (F x) x)=Z (.s1 (F<|x++l)<|x++l)
 |[],x,h=>by rw[zNL];rfl
 |a::l,x,h=>by
  have e:x++a::l=x++[a]++l:=Z3
  have q:F x+F ([a]:Ξ)<=Aw:=by simp only[zKp,zLA]at h;simp only[zR5];omega
  show(Yk n a (F x) x).bind _=_
  unfold Yk;rw[zAF ⟨⟨rfl,rfl⟩,⟨rfl,rfl⟩,q⟩,zAC,e,←zKp];exact zAi l (x++[a]) (by rw[←e];exact h)
def zP3{l:Ξ}(q:F l<=300):RD n l=Z l:=by
 have ϙ:(1000000000000:E)=Aw:=rfl;unfold RD oM iA pF;cases l with
 |nil=>rfl
 |cons a l=>
  have e:Bs (g9 n) (a::l) .s0=Z (.s1 (F<|[a]++l)<|[a]++l):=by
   show(Ym n a).bind _=_
   unfold Ym;rw[zAF ⟨⟨rfl,rfl⟩,zNi,by rw[←ϙ];show 1<=_;omega⟩,zAC];exact zAi l [a] (by rw[←ϙ];simp only[zKp,zLA,zRJ]at q⊢;omega)
  rw[e,zAC]
  show(u (F ([a]++l)=F ([a]++l)) (Z<|[a]++l) A).bind _=_
  rw[zAF rfl];rfl
end
section
variable{q:AA}{i:U}{g:Ξ}{c:AD}
end
section
variable{g:O Ξ}{inn:Ω}
variable{v:E}
def zIt(G:Fw g)(t:v<F g):(nb g v).Pairwise (· < ·)/\(v:U)∉nb g v:=by
 have h:=G.ok;unfold KD at h;rw[zAx,zFy]at h;have a:=h.2 v<|zJ9.2 t;unfold IZ at a;rw[zFy]at a;have e:nb g v=H g v []:=by unfold nb;rw[u8]
 rw[e]
 generalize H g v []=l at a
 have at_:∀k,k<F l->H l k 0≠v/\(0<k->H l (k-1) 0<H l k 0):=λk f=>by
  have:=a k<|zJ9.2 f;unfold G6 at this;simp only[zAx,zM8,ne_eq,zKu,zKr,zM9,zKv]at this;exact⟨this.1.1.2,λh=>this.1.2.resolve_left λn=>n h⟩
 have Q:∀Ϛ i,i+Ϛ+1<F l->H l i 0<H l (i+Ϛ+1) 0:=by
  intro Ϛ
  induction Ϛ with
  |zero=>intro i hi;exact(at_ (i+1) hi).2 Z2
  |succ Ϛ b=>
   intro i hi;have h1:=b i Z2;have c:=(at_ (i+(Ϛ+1)+1) hi).2 Z2;rw[show i+(Ϛ+1)+1-1=i+Ϛ+1 by omega]at c;omega
 constructor
 ·rw[zNh];intro i j hi m XQ;have:=Q (j-i-1) i Z2;rw[show i+(j-i-1)+1=j by omega]at this;simpa[zBD,hi,m]using this
 ·intro P;obtain⟨k,f,e⟩:=zLD P;refine(at_ k f).1 ?_;rw[zBD,zKA f];exact e
def p7(G:Fw g)(t:v<F g)(R:H inn v T=D)(j:Bn g inn v=2):3<=(θ<|F g).countP λx=>H inn x T:=by
 obtain⟨p,n⟩:=zIt G t;have k:=G.gr.rng v Z2 Z2;have N:F ((nb g v).filter λx=>H inn x.toNat T)=2:=by rw[←zMk];exact j
 have i:=p.filter λx=>H inn x.toNat T;have P:∀x∈(nb g v).filter λx=>H inn x.toNat T,x∈nb g v/\H inn x.toNat T=D:=λx l=>zM0.1 l
 generalize ((nb g v).filter λx=>H inn x.toNat T)=ϖ at N i P
 match ϖ,N with
 |[x,y],_=>
  have mA:x<y:=by
   rw[zRp]at i;exact i.1 y Z3
  obtain⟨c,Y⟩:=P x Z3;obtain⟨h,r⟩:=P y Z3;have xr:=k x c;have yr:=k y h;have xv:x≠v:=λe=>n<|e▸c
  have yv:y≠v:=λe=>n<|e▸h
  have a1:=fm (f:=λz=>H inn z T&&!(z==v)) (g:=λz=>H inn z T) (a:=v) Z3 R (θ<|F g) (λz _ b=>by rw[zAx]at b;exact b.1)<|zJ9.2 t;have a2:=fm (f:=λz=>(H inn z T&&!(z==v))&&!(z==x.toNat)) (g:=λz=>H inn z T&&!(z==v)) (a:=x.toNat) Z3 (by rw[Y];simp;omega) (θ<|F g) (λz _ b=>by rw[zAx]at b;exact b.1)<|zJ9.2 Z2;have a3:=fm (f:=λz=>((H inn z T&&!(z==v))&&!(z==x.toNat))&&!(z==y.toNat)) (g:=λz=>(H inn z T&&!(z==v))&&!(z==x.toNat)) (a:=y.toNat) Z3 (by rw[r];simp;omega) (θ<|F g) (λz _ b=>by rw[zAx]at b;exact b.1)<|zJ9.2 Z2;omega
end
abbrev zRM:=@List.range_succ
abbrev zRg:=@List.length_take
abbrev zRr:=@List.countP_append
abbrev zRy:=@List.getElem?_set_self
abbrev zR6:=@List.countP_le_length
abbrev zR7:=@List.countP_singleton
section
variable{g:O Ξ}{inn:Ω}
def zRR(g:O Ξ)(inn:Ω)(r:O Ξ×U):Prop:=r.2=0/\(F r.1=0↔∀v,v<F g->H inn v T=T)/\(F r.1<=1↔IP g inn)
variable{part:Ξ}
def kQ{a:U}(h:Pt g inn (F g) part a):(a=0↔∀v,v<F g->H inn v T=T)/\(a<=1↔IP g inn):=by
 have m0:=h.m0;constructor
 ·constructor
  ·intro e v t;cases f:H inn v T with
   |false=>rfl
   |true=>
    have:=h.all v t t f;have:=(h.lo v t).2;omega
  ·intro n;refine Classical.byContradiction λQ=>?_
   obtain⟨v,c,h2⟩:=h.sur 1 Z6 Z2;have:=h.isIn v c Z2;rw[n v c]at this;cases this
 ·constructor
  ·intro e ϛ v x t i R;have y:=h.all ϛ x x i;have a2:=h.all v t t R;have b1:=(h.lo ϛ x).2;have b2:=(h.lo v t).2;exact h.con ϛ v x t y Z2
  ·intro w;refine Classical.byContradiction λQ=>?_
   obtain⟨ϛ,b,u2⟩:=h.sur 1 Z6 Z2;obtain⟨v,V,v2⟩:=h.sur 2 Z6 Z2;have:=h.same ϛ v b V Z2<|w ϛ v b V (h.isIn ϛ b Z2)<|h.isIn v V Z2;omega
def oK(G:Gr g){x:U}(t:Pt g inn (F g) part x):∀(k j:E) (o:O Ξ) (n:E),j+k=F part->F o=x.toNat->(∀r,F (H o r ξ)<=j)->k+1<=n->
 ∃o',My g inn n (.l1 x.toNat part (F part:U) (j:U) o)=Z (o',0)/\F o'=x.toNat
 |0,j,o,n,e,K,a,i=>by
  obtain⟨n,rfl⟩:∃k,n=k+1:=⟨n-1,Z2⟩;refine⟨o,?_,K⟩
  show RC n (My g inn n) g inn x.toNat part (F part:U) (j:U) o=_
  unfold RC;rw[zAE Z2,zAD,zAF K.symm]
 |k+1,j,o,n,e,K,a,i=>by
  obtain⟨n,rfl⟩:∃k,n=k+1:=⟨n-1,Z2⟩;have Ap:=t.len;have hG:=G.len;have xR:=t.lo j Z2;have ϙ:(1000000000000:E)=Aw:=rfl;have f:AG<|(j:U)+1:=AZ.2 ⟨Z2,Z2⟩;have hm:=t.m1
  by_cases h0:H part j 0>0
  ·have hrj:=a<|0+(H part j 0-1).toNat
   have key:=oK G t k (j+1) (o.set (0+(H part j 0-1).toNat)<|H o (0+(H part j 0-1).toNat) ξ++[(j:U)]) n Z2 (by rw[zKy];exact K) (λr=>by
    by_cases h:0+(H part j 0-1).toNat=r
    ·subst h;rw[zBD,zRy Z2,zOZ,zKp,zR5];omega
    ·have:=a r;rw[zBD,zRX h,←zBD];omega) Z2
   obtain⟨o',b,c⟩:=key;refine⟨o',?_,c⟩;rw[←b]
   show RC n (My g inn n) g inn x.toNat part (F part:U) (j:U) o=_
   unfold RC;rw[zAB Z2,zAG,zAF ⟨Z2,Z2⟩,u8,zAB h0,zAG,zAF ⟨AZ.2 ⟨Z2,Z2⟩,⟨Z2,Z2⟩,Z2,by rw[zR5,←ϙ];omega,f⟩,show((j+1:E):U)=(j:U)+1 by omega]
  ·obtain⟨o',b,c⟩:=oK G t k (j+1) o n Z2 K (λr=>by have:=a r;omega) Z2;refine⟨o',?_,c⟩;rw[←b]
   show RC n (My g inn n) g inn x.toNat part (F part:U) (j:U) o=_
   unfold RC;rw[zAB Z2,zAG,zAF ⟨Z2,Z2⟩,u8,zAE h0,zAD,zAF f,show((j+1:E):U)=(j:U)+1 by omega]
def zPw(G:Fw g)(m:F inn=F g):Ag (λn=>gH n g inn)<|zRR g inn:=by
 have hG:=G.gr.len;have h0:=eX G (sets:=[inn]) (λx i=>by rw[zMv]at i;rw[i,m]) Z3;refine Ag.bind h0 (b:=λn e=>B (e != 0) (Z (([]:O Ξ),e))<|(parts n g inn).bind λa=>u ((a.2:U)=a.2/\0<=a.2/\(a.2:U)<=1000000000000) (My g inn n<|.l1 a.2.toNat a.1 (F a.1:U) 0<|d a.2.toNat []) A) ?_;refine Ag.bindU (kX G.gr m) (b:=λn a=>u ((a.2:U)=a.2/\0<=a.2/\(a.2:U)<=1000000000000) (My g inn n<|.l1 a.2.toNat a.1 (F a.1:U) 0<|d a.2.toNat []) A) ⟨F g+1,λn hn r t=>?_⟩;obtain⟨part,c⟩:=r;have t:Pt g inn (F g) part c:=t;have o:=t.m0;have m1:=t.m1;have Ap:=t.len
 obtain⟨o',h,f⟩:=oK G.gr t (F part) 0 (d c.toNat []) n Z2 zK7 (λr=>by
  rw[zBD,List.getElem?_replicate];split <;> exact zI1 0) Z2
 refine⟨(o',0),?_,rfl,?_,?_⟩
 ·rw[zAF ⟨rfl,o,by show c<=_;omega⟩];exact h
 ·rw[←(kQ t).1,f];omega
 ·rw[←(kQ t).2,f];omega
def zAu(g:O Ξ)(inn:Ω)(r:ζ×U):Prop:=r.2=0/\(r.1=D↔(∀v,v<F g->H inn v T=D->Bn g inn v=2)/\(∃v,v<F g/\H inn v T=D)/\IP g inn)
def tF(m:F inn=F g){x6 x23:U}{row:Ξ}(b:∀ϛ∈row,0<=ϛ/\ϛ<(F g:U))(q:F row<=256):∀(k j:E),j+k=F row->AR (Ia g inn) (.l2 x6 (((row.take j).countP λx=>H inn x.toNat T:E):U) x23 row (F row:U) (j:U)) (.l2 x6 ((row.countP λx=>H inn x.toNat T:E):U) x23 row (F row:U) (F row:U))
 |0,j,e=>by
  have:j=F row:=Z2
  subst this;rw[zSC];exact AR.refl
 |k+1,j,e=>by
  have a:j<F row:=Z2
  have P:=b (H row j 0) (by rw[zBD,zKA a];exact zRd a);have hc:=zR6 (p:=λx:U=>H inn x.toNat T) (l:=row.take j);rw[zRg]at hc;have I:row.take (j+1)=row.take j++[H row j 0]:=by rw[List.take_succ_eq_append_getElem a];simp[a]
  have c:=tF m (x6:=x6) (x23:=x23) b q k (j+1) Z2;rw[I,zRr,zR7]at c;refine AR.trans (AR.one λn=>?_) c
  show Pq n (Ia g inn n) g inn x6 _ x23 row (F row:U) (j:U)=_
  unfold Pq;rw[zAB Z2,zAG,u8,zAF ⟨⟨Z2,Z2⟩,P.1,Z2⟩,show((j+1:E):U)=(j:U)+1 by omega];cases H inn (H row j 0).toNat T
  ·rw[zAD,zAF<|AZ.2 ⟨Z2,Z2⟩];simp
  ·rw[zAG,zAF ⟨AZ.2 ⟨Z2,Z2⟩,AZ.2 ⟨Z2,Z2⟩⟩];simp
def jf(G:Fw g)(m:F inn=F g):∀(k v:E),v+k=F g->(∀ϛ,ϛ<v->H inn ϛ T=D->Bn g inn ϛ=2)->Ag (λn=>Ia g inn n<|.l1 (((θ v).countP λx=>H inn x T:E):U) (v:U)) (zAu g inn)
 |0,v,e,z=>by
  have:v=F g:=Z2
  subst this;refine Ag.step 1 (g:=λn=>(parts n g inn).bind λq=>B (C<|(((θ<|F g).countP λx=>H inn x T:E):U)>=3) (Z (q.2==1,(0:U)))<|Z (T,0)) (λn=>?_) ?_
  ·show Pr n (Ia g inn n) g inn _ (F g:U)=_
   unfold Pr;rw[zAE Z2,zAD]
  ·refine Ag.bindU (kX G.gr m) (b:=λn q=>B (C<|(((θ<|F g).countP λx=>H inn x T:E):U)>=3) (Z (q.2==1,(0:U)))<|Z (T,0)) ⟨0,λn _ r w=>?_⟩;obtain⟨part,f⟩:=r;obtain⟨y,I⟩:=kQ w;have o:=w.m0
   by_cases J:(((θ<|F g).countP λx=>H inn x T:E):U)>=3
   ·rw[zAB J,zAG];refine⟨_,rfl,rfl,?_⟩
    show(f==1)=D↔_
    rw[zKq];constructor
    ·intro e1;refine⟨z,?_,I.1 Z2⟩;refine Classical.byContradiction λV=>?_
     have:=y.2 λv t=>by
      cases a:H inn v T with
      |false=>rfl
      |true=>exact τ ⟨v,t,a⟩ V
     have o:0<=f:=o;have:f=0:=this;omega
    ·rintro⟨_,⟨v,t,R⟩,W⟩;have K:=I.2 W
     have h0:¬f=0:=λe=>by
      have:=y.1 e v t;rw[R]at this;cases this
     have o:0<=f:=o;have K:f<=1:=K;omega
   ·rw[zAE J,zAD];refine⟨_,rfl,rfl,?_⟩;refine zM5 Z6 ?_;rintro⟨S,⟨v,t,R⟩,_⟩;have:=p7 G t R<|S v t R;omega
 |k+1,v,e,z=>by
  have t:v<F g:=Z2
  have hG:=G.gr.len;have N:AG<|(v:U)+1:=AZ.2 ⟨Z2,Z2⟩
  have P:(((θ<|v+1).countP λx=>H inn x T:E):U)=(((θ v).countP λx=>H inn x T:E):U)+u (H inn v T) 1 0:=by
   rw[zRM,zRr,zR7];split <;> simp
  have X:=zR6 (p:=λx=>H inn x T) (l:=θ v);rw[zRv]at X;cases a:H inn v T with
  |false=>
   have i:=jf G m k (v+1) Z2 λϛ c j=>by
    rcases zIY.1 c with c|rfl
    ·exact z ϛ c j
    ·rw[a]at j;cases j
   rw[P,a]at i;refine AR.pev (AR.one λn=>?_) i
   show Pr n (Ia g inn n) g inn _ (v:U)=_
   unfold Pr;rw[zAB Z2,zAG,zAF ⟨⟨Z2,Z2⟩,Z2,Z2⟩,u8,a,zMj,zAG,zAF N,show((v+1:E):U)=(v:U)+1 by omega];simp
  |true=>
   have Y:=G.gr.row v Z2 Z2;have Tq:=G.gr.rng v Z2 Z2;have en:nb g v=H g v []:=by unfold nb;rw[u8]
   refine AR.pev (AR.one (b:=.l2 ((((θ v).countP λx=>H inn x T:E):U)+1) 0 (v:U) (nb g v) (F<|nb g v:U) 0) λn=>?_) ?_
   ·show Pr n (Ia g inn n) g inn _ (v:U)=_
    unfold Pr;rw[zAB Z2,zAG,zAF ⟨⟨Z2,Z2⟩,Z2,Z2⟩,u8,a,zLW,zAD,zAF<|AZ.2 ⟨Z2,Z2⟩,en]
   ·have Q:=tF m (x6:=(((θ v).countP λx=>H inn x T:E):U)+1) (x23:=(v:U)) Tq Y (F<|nb g v) 0 Z2;rw[List.take_zero,List.countP_nil]at Q;refine AR.pev Q ?_
    by_cases s:Bn g inn v=2
    ·have i:=jf G m k (v+1) Z2 λϛ c j=>by
      rcases zIY.1 c with c|rfl
      ·exact z ϛ c j
      ·exact s
     rw[P,a,zAF rfl]at i;refine AR.pev (AR.one λn=>?_) i
     show Pq n (Ia g inn n) g inn _ ((Bn g inn v:E):U) (v:U) (nb g v) (F<|nb g v:U) (F<|nb g v:U)=_
     unfold Pq;rw[zAE Z2,zAD,s]
     show u (AG<|(v:U)+1) _ _=_
     rw[zAF N,show((v+1:E):U)=(v:U)+1 by omega]
    ·refine Ev.p (Ev.one (r:=(T,0)) λn=>?_) ⟨rfl,zM5 Z6 λh=>s<|h.1 v t a⟩
     show Pq n (Ia g inn n) g inn _ ((Bn g inn v:E):U) (v:U) (nb g v) (F<|nb g v:U) (F<|nb g v:U)=_
     unfold Pq;rw[zAE Z2,zAD,zM8.2 (by omega:((Bn g inn v:E):U)≠2),zAG]
def zFq(G:Fw g)(m:F inn=F g):Ag (λn=>Sl n g inn)<|zAu g inn:=by
 have h0:=eX G (sets:=[inn]) (λx i=>by rw[zMv]at i;rw[i,m]) Z3;refine Ag.bind h0 (b:=λn e=>B (e != 0) (Z (T,e))<|Ia g inn n<|.l1 0 0) ?_;exact jf G m (F g) 0 Z2 λϛ a=>τ a<|zBT ϛ
end
section
variable{q:AA}{i:U}{g:Ξ}
def Gd.ctx(G:Gd q g)(l:DK q)(t:CN q=D)(h0:0<=i)(a:i<(F q.cons:U)):Br q i<|FH g:=⟨l,t,h0,a,G.pos t⟩
def iE(q:AA)(g:Ξ):Prop:=∀i,0<=i->i<(F q.cons:U)->Dq q (con q i) g
end
theorem zG{a b:Ξ}{n:E}(hl:F a<=LB)(c:F a<n):UM n a b=Z (C<|a=b):=by
 have hb:LB<=9223372036854775806:=Z6
 unfold UM zF
 by_cases r:F a=F b
 ·have key:∀(k i n:E),i+k=F a->k+1<=n->UL a b n (.l1 (i:U))=Z (C<|a.drop i=b.drop i):=by
   intro k
   induction k with
   |zero=>
    intro i n e c;obtain⟨n,rfl⟩:∃k,n=k+1:=⟨n-1,Z2⟩
    simp_all[fR,UL]
   |succ k f=>
    intro i n e c;obtain⟨n,rfl⟩:∃k,n=k+1:=⟨n-1,Z2⟩;have hi:i<F a:=Z2
    have S:i<F b:=Z2
    have Ϛ:∀{l:Ξ},i<F l->l.drop i=H l i 0::l.drop (i+1):=λ{l} h=>by
     simp_all
    have:=f (i+1) n Z2 Z2
    show fR n (UL a b n) a b (i:U)=_
    unfold fR;rw[zAB Z2,zAG,zAF ⟨⟨Z2,Z2⟩,Z2,Z2⟩,u8,zAF<|AZ.2 ⟨Z2,Z2⟩,Ϛ hi,Ϛ S]
    by_cases h:H a i 0=H b i 0
    ·have:(H a i 0 != H b i 0)=T:=by rw[h];simp
     rw[this,zAD];refine Eq.trans (by assumption) ?_;rw[h];simp
    ·have:(H a i 0 != H b i 0)=D:=by simpa using h
     rw[this,zAG,zAE λe=>h (List.cons.inj e).1]
  grind
 ·have e:((F a:U) != (F b:U))=D:=Z7
  rw[e,zAG,zAE λh=>r<|by rw[h]]
section
set_option maxRecDepth 100000
set_option maxHeartbeats 40000000
def iZ(n:E)(c:AD)(q:AA)(v:Ξ):X9:=(Gg n q c v).bind λe=>Z<|!e
def ZJ(n:E)(c:AD)(q:AA)(v:Ξ):X9:=iZ n c q v
variable{r:ζ}{v:Ξ}{q:AA}{n:E}
def zBK{c:AD}(h:ZJ n c q v=Z r):EQ 119 [.agg 9<|L1<|AW c,.fp 5<|L1<|AJ q,.fp 1<|L1 [.ints v]] [] (.bool r) [] D:=by
 unfold ZJ iZ at h;refine ot Tryz.func119 λϜ N=>?_
 revert r;apply gO;exact cf zI6 [oC<|AW c] λ_=>lE AC [4] []
inductive dW where
 |l1 (x8:U)
def Ww(n:E)(self:dW->W5)(l:O AD)(q:AA)(v:Ξ)(x8:U):W5:=B (C<|x8<(F l:U)) (u (0<=x8/\x8<(F l:U)) ((ZJ n (H l x8.toNat ξ) q v).bind λe=>B e (Z x8)<|u (AG<|x8+1) (self<|.l1<|x8+1) A) A)<|Z<|-1
def zKU(n:E)(self:dW->W5)(l:O AD)(q:AA)(AE:Ξ):W5:=self<|.l1 0
def OS(l:O AD)(q:AA)(v:Ξ):E->dW->W5
 |0,_=>A
 |n+1,.l1 x8=>Ww n (OS l q v n) l q v x8
def wj(n:E)(l:O AD)(q:AA)(v:Ξ):W5:=zKU n (OS l q v n) l q v
def zKV(n Ϝ:E)(N:Yd 0)(l:O AD)(q:AA)(v:Ξ)(r:U):dW->Prop:=px n Ϝ η N (FQ Tryz.f108 0 (.i r) []) (Af Tryz.f108) λ
 | .l1 x8=>(0,0,AI 19 [(0,.sl 9 (F l)<|AM AW l),(1,.fn 119 2<|L1 [.fp 5<|L1<|AJ q,.fp 1<|L1 [.ints v]]),(7,.i (F l:U)),(8,.i x8)],[])
def zKW(Ϝ:E)(N:Yd 0)(l:O AD)(q:AA)(v:Ξ):Al (OS l q v) (zKV · Ϝ N l q v):=ia (λ_=>rfl) λn G s r h=>by
 cases s
 case l1 x8=>
  intro o j;refine rd j λo j=>?_
  revert r;apply gO;exact bi 9 (gi (cf zBK [] λ_=>bi 16 (lE AC [4] []) (gw 18 (lG AC [] (G _ _ · o j)))))<|lE AC [4] []
variable{l:O AD}
def zKT{r:U}(h:wj n l q v=Z r):EQ 108 [.sl 9 (F l)<|AM AW l,.fn 119 2<|L1 [.fp 5<|L1<|AJ q,.fp 1<|L1 [.ints v]]] [] (.i r) [] D:=by
 refine ot Tryz.func108 λϜ N=>?_
 revert r;apply gO;exact lN AC [] ((zKW Ϝ N l q v n) _ _ · n χ)
def zj(n:E)(l:O AD)(q:AA)(v:Ξ):X9:=(wj n l q v).bind λe=>Z<|C<|e>=0
def oE(n:E)(l:O AD)(q:AA)(v:Ξ):X9:=zj n l q v
def zPf(h:oE n l q v=Z r):EQ 81 [.sl 9 (F l)<|AM AW l,.fn 119 2<|L1 [.fp 5<|L1<|AJ q,.fp 1<|L1 [.ints v]]] [] (.bool r) [] D:=by
 unfold oE zj at h;refine ot Tryz.func81 λϜ N=>?_
 revert r;apply gO;exact cf zKT [] λ_=>lE AC [4] []
def rL(n:E)(q:AA)(v:Ξ):X4:=(ap n q v).bind λe=>B (e != 0) (Z (T,e))<|(oE n q.cons q v).bind λr=>Z (!r,0)
def Pf(n:E)(q:AA)(v:Ξ):X4:=rL n q v
def zCL{r:ζ×U}(h:Pf n q v=Z r):EQ 96 [.agg 5<|L1<|AJ q,.ints v] [] (.tup 2<|L1 [.bool r.1,.i r.2]) [] D:=by
 unfold Pf rL at h;refine ot Tryz.func96 λϜ N=>?_
 revert r;apply gO;exact cf zGA [oC<|AJ q,oC [.ints v]] λ_=>bi 10 (lE AC [4,5] [])<|cn λy2 K=>jc (sb [.sl 9 (F q.cons)<|AM AW q.cons,.fn 119 2<|L1 [.ref 0 0,.ref 1 0]] (zPf K) [oC<|AJ q,oC [.ints v]] ⟨Am.plain Z5,Am.fnL (l:=[.ref 0 0,.ref 1 0]) (l0:=[.fp 5<|L1<|AJ q,.fp 1<|L1 [.ints v]]) ⟨Am.refL (l:=AJ q) (l0:=AJ q) rfl ⟨Am.plain Z5,Am.plain Z5,Am.plain Z5,Am.plain Z5,Am.plain Z5,trivial⟩,Am.refL (l:=[.ints v]) (l0:=[.ints v]) rfl ⟨Am.plain Z5,trivial⟩,trivial⟩,trivial⟩)<|lE AC [4,5] []
end
section
variable{q:AA}{i:U}{g:Ξ}{c:AD}
def Br.sets(Ϙ:Br q i<|FH g):Sm q.sy.toNat (con q i).set/\Sm q.sy.toNat (con q i).other:=by
 have h:=Ϙ.fine;unfold Er at h;simp only[zAx]at h;have c:=Ru.1 h.1.1.1.2;have a:=c (con q i).set Z3;have b:=c (con q i).other Z3;exact⟨⟨a.1,Z2⟩,b.1,Z2⟩
def wa(S:Sv q c g)(W:Ee c q<|FH g){k:E}(hs:Sm k c.set)(hk:k<=16){loop:ζ}{ϕ:Prop}(t:ϕ↔u (loop=D) ((∀v,v<F g->H (Co c g) v T=T)∨((∀v,v<F g->H (Co c g) v T=D->Bn q.nb (Co c g) v=2)/\IP q.nb (Co c g))) (IP q.nb<|Co c g)):
 ∃r,Ev (λn=>Ti n q.nb g c.ce c.set loop) r/\(r=D↔ϕ):=by
 have ϙ:(1000000000000:E)=Aw:=rfl;have hl:=W.len;have Gj:=W.l1;have l:=W.gl;rw[Jh]at hl Gj l;have Y:F (Co c g)=F q.nb:=by rw[Wc];omega
 have w:∃r,Ev (λn=>(gH n q.nb<|Co c g).bind λa=>B (!loop) (Z<|C<|(F a.1:U)<=1)<|B ((F a.1:U)==0) (Z<|C<|(F a.1:U)<=1)<|(Sl n q.nb<|Co c g).bind λm=>Z m.1) r/\(r=D↔ϕ):=by
  obtain⟨N2,hR⟩:=zFq W.g Y;have:=Ag.bindU (zPw W.g Y) (b:=λn a=>B (!loop) (Z<|C<|(F a.1:U)<=1)<|B ((F a.1:U)==0) (Z<|C<|(F a.1:U)<=1)<|(Sl n q.nb<|Co c g).bind λm=>Z m.1) (Q:=λr=>r=D↔ϕ) ⟨N2,λn i x hx=>?_⟩
  ·obtain⟨r,f,I⟩:=this.ev λr r' h h'=>by
    rw[zLX,h,h']
   exact⟨r,I,f⟩
  ·obtain⟨x1,x2,x3⟩:=hx;have R:C ((F x.1:U)<=1)=D↔IP q.nb (Co c g):=by rw[zKv,←x3];omega
   cases loop with
   |false=>
    refine⟨_,rfl,?_⟩;rw[R,t];simp
   |true=>
    rw[zAF rfl]at t
    by_cases h0:F x.1=0
    ·have z:=x2.1 h0;rw[l]at z;refine⟨D,?_,zNm rfl (t.2<|.inl z)⟩
     show B ((F x.1:U)==0) (Z<|C<|(F x.1:U)<=1) _=_
     rw[h0];rfl
    ·obtain⟨y,a,m,y3⟩:=hR n i;refine⟨y.1,?_,?_⟩
     ·show B ((F x.1:U)==0) (Z<|C<|(F x.1:U)<=1) _=_
      rw[zBE.2 Z2,zAD,show Sl n q.nb (Co c g)=Z y from a];rfl
     ·rw[y3,t,l];have z:¬∀v,v<F g->H (Co c g) v T=T:=λh=>h0 (x2.2<|by rw[l];exact h)
      constructor
      ·rintro⟨f,_,J⟩;exact .inr ⟨f,J⟩
      ·rintro(h|⟨f,J⟩)
       ·exact τ h z
       ·refine⟨f,Classical.byContradiction λi=>z λv p=>?_,J⟩;cases hb:H (Co c g) v T with
        |false=>rfl
        |true=>exact τ ⟨v,p,hb⟩ i
 obtain⟨r,P,V⟩:=w;refine⟨r,?_,V⟩
 have key:∀(k j:E) (o:Ω),j+k=F g->F o=F g->(∀v,v<j->H o v T=H (Co c g) v T)->Ev (λn=>Th q.nb g c.ce c.set loop n<|.l1 (j:U) o) r:=by
  intro k
  induction k with
  |zero=>
   intro j o e K X
   have:o=Co c g:=by
    refine zOj (by rw[K,Wc]) λv f I=>?_
    have:=X v Z2;simpa[zBD,f,I]using this
   subst this;obtain⟨N,P⟩:=P;refine Ev.oneN N λn i=>?_
   show Wt n (Th q.nb g c.ce c.set loop n) q.nb g c.ce c.set loop (j:U) (Co c g)=_
   unfold Wt;rw[zAE Z2,zAD,zAF K.symm];exact P n i
  |succ k ih=>
   intro j o e K X;have s:j<F g:=Z2
   have hid:=W.id j (by rw[Jh];exact s);have He:=S.G.lt S.v s;have OZ:=S.G.sym j s;have eg:H g j 0=(((H g j 0).toNat:E):U):=Z2
   refine AR.ev (AR.one λn=>?_)<|ih (j+1) (o.set j<|tb c.set (H g j 0).toNat) Z2 (by rw[zKy];exact K) λv p=>?_
   ·show Wt n (Th q.nb g c.ce c.set loop n) q.nb g c.ce c.set loop (j:U) o=_
    unfold Wt;rw[zAB Z2,zAG,zAF ⟨Z2,Z2⟩,u8,hid];unfold lH vv;rw[zAF ⟨Z2,Z2⟩,u8,eg,OW hs Z2 Z2,zAC,zAF ⟨⟨Z2,Z2⟩,Z2⟩,zAC,zAF<|AZ.2 ⟨Z2,Z2⟩,zKx,u8,show((j+1:E):U)=(j:U)+1 by omega]
   ·by_cases R:v=j
    ·subst R;rw[zBD,zRy Z2,zOZ,vn s]
    ·rw[zBD,zRX λh=>R h.symm,←zBD];exact X v Z2
 have:=key (F g) 0 (d (F g) T) Z2 zK7 λv p=>τ p<|zBT v
 refine Ev.eq this λn=>?_
 unfold Ti wb;rw[zAF ⟨rfl,Z2,Z2⟩];rfl
def zI5(Ϙ:Br q i<|FH g)(G:Gd q g):∃b,Ev (λn=>Gg n q (con q i) g) b/\(b=D↔Dq q (con q i) g):=by
 have S:=Ϙ.sv G;have z:DG (FH g)=T:=JW.2 S.nz;have W:=Ϙ.work;have V:=Ϙ.vals;have l:=W.len;have o:=W.k;obtain⟨p,K⟩:=Ϙ.sets;have two:F (con q i).ce=2->∀a,a<2->(H (con q i).ce a 0).toNat=(H (con q i).ce a 0).toNat:=λ_ _ _=>rfl
 have ϒ:∀{k:U} {f:E->X9} {b:ζ} {ϕ:Prop},(con q i).kind=k->(∀n,Gg n q (con q i) g=f n)->Ev f b->(b=D↔ϕ)->(Dq q (con q i) g↔ϕ)->∃b,Ev (λn=>Gg n q (con q i) g) b/\(b=D↔Dq q (con q i) g):=
  λ_ I J P X=>⟨_,J.eq I,P.trans X.symm⟩
 have kc:=OP<|QS Ϙ.kind
 generalize hc:con q i=c at*
 rcases kc with hk|hk|hk|hk|hk|hk|hk|hk|hk
 ·obtain⟨r,j,e⟩:=zO3 S l;exact ϒ (f:=λn=>(fY n g c.ce).bind Z) hk (λn=>by unfold Gg LG;rw[hk];rfl) (Ev.bind j<|Ev.now λn=>rfl) e (by unfold Dq;rw[hk];simp)
 ·refine ϒ (f:=λn=>(fu n g c.ce c.set).bind λm=>(RT n m c).bind Z) (ϕ:=c.lo<=cnt (λa=>tb c.set<|Ae c g a) (F c.ce)/\cnt (λa=>tb c.set<|Ae c g a) (F c.ce)<=c.hi) (b:=C (c.lo<=cnt (λa=>tb c.set<|Ae c g a) (F c.ce))&&C (cnt (λa=>tb c.set<|Ae c g a) (F c.ce)<=c.hi)) hk (λn=>by unfold Gg LG;rw[hk];rfl) (Ev.bind (zPR S l p o)<|Ev.now λn=>?_) Z3 (by unfold Dq;rw[hk];simp);unfold RT og;cases C (c.lo<=cnt (λa=>tb c.set<|Ae c g a) (F c.ce)) <;> rfl
 ·refine ϒ (f:=λn=>(ZY n q.va g c.ce).bind λm=>(RT n m c).bind Z) (ϕ:=c.lo<=B5 (λa=>H q.va (Ae c g a) 0) (F c.ce)/\B5 (λa=>H q.va (Ae c g a) 0) (F c.ce)<=c.hi) (b:=C (c.lo<=B5 (λa=>H q.va (Ae c g a) 0) (F c.ce))&&C (B5 (λa=>H q.va (Ae c g a) 0) (F c.ce)<=c.hi)) hk (λn=>by unfold Gg LG;rw[hk];rfl) (Ev.bind (zBl S V l)<|Ev.now λn=>?_) Z3 (by unfold Dq;rw[hk];simp);unfold RT og;cases C (c.lo<=B5 (λa=>H q.va (Ae c g a) 0) (F c.ce)) <;> rfl
 ·obtain⟨r,j,e⟩:=zFX S V l;exact ϒ (f:=λn=>(aa n q.va g c.ce).bind Z) hk (λn=>by unfold Gg LG;rw[hk];rfl) (Ev.bind j<|Ev.now λn=>rfl) e (by unfold Dq;rw[hk];simp)
 ·have hr:=aS (b:=λa=>tb c.set<|Ae c g a) (N:=F c.ce) (F c.ce) 0;refine ϒ (f:=λn=>(Si n c.ce c.set g).bind λm=>(RD n m).bind λy2=>(UM n y2 c.ru).bind Z) (ϕ:=rl (λa=>tb c.set<|Ae c g a) (F c.ce) (F c.ce) 0=c.ru) (b:=C<|rl (λa=>tb c.set<|Ae c g a) (F c.ce) (F c.ce) 0=c.ru) hk (λn=>by unfold Gg LG;rw[hk];rfl) (Ev.bind (zEs S l p o) ⟨300,λn hn=>?_⟩) Z3 (by unfold Dq;rw[hk];simp)
  show(RD n _).bind _=_
  rw[zP3 Z2,zAC,zG (zIX hr<|zIX (by omega:F c.ce+1<=300) Z6) Z2];rfl
 ·have e:F c.ce=2:=by rw[←hc];exact Ϙ.two (.inl<|by rw[hc];exact hk)
  have Y:=S.cell 0 Z2;have Q:=S.cell 1 Z2;have t:=S.gi (a:=0) Z2;have w:=S.gi (a:=1) Z2;have l0:=(S.lt (a:=0) Z2).1;have R:=(S.lt (a:=1) Z2).1;have vl:=V.len;have v0:=V.val _ l0;have v1:=V.val _ R;refine ϒ (f:=λn=>Gg n q c g) (ϕ:=Ge q c (Ae c g 0) (Ae c g 1)=D) (b:=Ge q c (Ae c g 0)<|Ae c g 1) hk (λn=>rfl) (Ev.now λn=>?_) Iff.rfl (by unfold Dq;rw[hk];simp);unfold Gg LG;rw[hk]
  show u _ _ A=_
  rw[t,w,u8,u8,zAF ⟨⟨Z2,Z2⟩,Y,⟨Z2,Z2⟩,⟨Z2,Z2⟩,Q,Z2,Z2⟩];unfold pH zAj Ge;rw[zAF ⟨AZ.2 ⟨Z2,Z2⟩,AZ.2 ⟨Z2,Z2⟩⟩,zAC,show H q.va (Ae c g 1) 0-H q.va (Ae c g 0) 0=0-(H q.va (Ae c g 0) 0-H q.va (Ae c g 1) 0) by omega]
 ·have e:F c.ce=2:=by rw[←hc];exact Ϙ.two (.inr<|by rw[hc];exact hk)
  have Y:=S.cell 0 Z2;have Q:=S.cell 1 Z2;have t:=S.gi (a:=0) Z2;have w:=S.gi (a:=1) Z2;have l0:=(S.lt (a:=0) Z2).2;have R:=(S.lt (a:=1) Z2).2;refine ϒ (f:=λn=>Gg n q c g) (ϕ:=GC c (Ae c g 0) (Ae c g 1)=D) (b:=GC c (Ae c g 0)<|Ae c g 1) hk (λn=>rfl) (Ev.now λn=>?_) Iff.rfl (by unfold Dq;rw[hk];simp);unfold Gg LG;rw[hk]
  show u _ _ A=_
  rw[t,w,zAF ⟨⟨Z2,Z2⟩,Y,⟨Z2,Z2⟩,Q⟩,OW p Z2 Z2,OW p Z2 Z2,OW K Z2 Z2,OW K Z2 Z2];unfold GC;cases tb c.set (Ae c g 0) <;> cases tb c.set (Ae c g 1) <;> cases tb c.other (Ae c g 0) <;> cases tb c.other (Ae c g 1) <;> rfl
 ·have s:Ee c q<|FH g:=by rw[←hc];exact Ϙ.all (.inl<|by rw[hc];exact hk) z
  obtain⟨r,j,e⟩:=wa (loop:=T) (ϕ:=IP q.nb<|Co c g) S s p o Z3;exact ϒ (f:=λn=>(Ti n q.nb g c.ce c.set T).bind Z) hk (λn=>by unfold Gg LG;rw[hk];rfl) (Ev.bind j<|Ev.now λn=>rfl) e (by unfold Dq;rw[hk];simp)
 ·have s:Ee c q<|FH g:=by rw[←hc];exact Ϙ.all (.inr<|by rw[hc];exact hk) z
  obtain⟨r,j,e⟩:=wa (loop:=D) (ϕ:=IP q.nb (Co c g)/\∀v,v<F g->H (Co c g) v T=D->Bn q.nb (Co c g) v=2) S s p o (by
   rw[zAF rfl];have gl:=s.gl;rw[Jh]at gl;constructor
   ·rintro⟨j,e⟩;exact .inr ⟨e,j⟩
   ·rintro(h|⟨j,e⟩)
    ·exact⟨λϛ v hu _ x _=>(by rw[h ϛ Z2]at x;cases x),λv hv y=>by rw[h v hv]at y;cases y⟩
    ·exact⟨e,j⟩)
  exact ϒ (f:=λn=>(Ti n q.nb g c.ce c.set D).bind Z) hk (λn=>by unfold Gg LG;rw[hk];rfl) (Ev.bind j<|Ev.now λn=>rfl) e (by unfold Dq;rw[hk];simp)
def zBO{s:U}{l:Ξ}(hl:F l<=LB):∀(k j:E),j+k=F l->(∀K,K<j->0<=H l K 0/\H l K 0<s)->∃r:U,Ev (λn=>OU l s n<|.l1 (j:U)) r/\(C (r>=0)=T↔∀j,j<F l->0<=H l j 0/\H l j 0<s):=by
 have hb:LB<=9223372036854775806:=Z6
 intro k
 induction k with
 |zero=>
  intro j e h;refine⟨-1,Ev.one λn=>?_,zNm Z6 λK a=>h K Z2⟩
  show Wx n (OU l s n) l s (j:U)=_
  unfold Wx;rw[zAE Z2,zAD]
 |succ k c=>
  intro j e h;have f:j<F l:=Z2
  have ϛ:∀n,ZL n (H l j 0) s=Z (C<|¬(0<=H l j 0/\H l j 0<s)):=λn=>by
   unfold ZL py
   by_cases h0:H l j 0<0
   ·rw[zAB h0,zAG,zAB Z2]
   ·rw[zAE h0,zAD];exact congrArg Z<|decide_eq_decide.2 Z2
  have step:∀n,OU l s (n+1) (.l1 (j:U))=B (C<|¬(0<=H l j 0/\H l j 0<s)) (Z (j:U)) (OU l s n<|.l1 ((j+1:E):U)):=λn=>by
   show Wx n (OU l s n) l s (j:U)=_
   unfold Wx;rw[zAB Z2,zAG,zAF ⟨Z2,Z2⟩,u8,ϛ,zAC,zAF<|AZ.2 ⟨Z2,Z2⟩,show((j+1:E):U)=(j:U)+1 by omega]
  by_cases b:0<=H l j 0/\H l j 0<s
  ·obtain⟨r,g,i⟩:=c (j+1) Z2 λK a=>by
    rcases zIY.1 a with a|rfl
    ·exact h K a
    ·exact b
   exact⟨r,AR.ev (AR.one λn=>by rw[step n,zAE λh=>h b,zAD]) g,i⟩
  ·refine⟨(j:U),Ev.one λn=>by rw[step n,zAB b,zAG],zM5 (by rw[zAB Z2];decide) λh=>b<|h j f⟩
def zF9(l:DK q)(c:F g<=LB):∃e,Ev (λn=>ap n q g) e/\(e=0↔CN q=D/\Gd q g):=by
 have i:Ev (λn=>valid n q)<|C5 (CN q) 191:=⟨CX q,λn f=>ZH l f⟩;cases t:CN q with
 |false=>
  rw[t]at i;exact⟨191,Ev.bind i<|Ev.now λn=>rfl,Z3⟩
 |true=>
  rw[t]at i
  by_cases a:(F g:U)=q.ce
  ·obtain⟨r,k,m⟩:=zBO (s:=q.sy) c (F g) 0 Z2 λj o=>τ o<|zBT j
   refine⟨u (C (r>=0)=D) 200 0,Ev.bind i<|Ev.eq (Ev.bind (Ev.eq (Ev.bind (Ev.bind k (b:=λn y=>Z<|C<|y>=0)<|Ev.now λn=>rfl) (b:=λn y=>Z<|!y)<|Ev.now λn=>rfl) λn=>?_) (b:=λn p=>B (!p) (Z 200)<|Z 0)<|Ev.now λn=>?_) λn=>rfl,?_⟩
   ·unfold Xv ns;rw[zKq.2 a,zAG];rfl
   ·cases C (r>=0) <;> rfl
   ·have:u (C (r>=0)=D) (200:U) 0=0↔C (r>=0)=T:=by cases C (r>=0) <;> simp
    rw[this,m];exact⟨λh=>⟨rfl,a,h⟩,λh=>h.2.sym⟩
  ·refine⟨200,Ev.bind i<|Ev.now λn=>?_,zM5 Z6 λh=>a h.2.len⟩
   show(B ((0:U) != 0) _<|(Xv n q.ce q.sy g).bind _)=_
   unfold Xv ns;rw[zBE.2 a];rfl
def SvP(q:AA)(g:Ξ)(r:ζ×U):Prop:=(r.2=0↔CN q=D/\Gd q g)/\(r.2=0->(r.1=D↔iE q g))
def zBL(l:DK q)(t:CN q=D)(G:Gd q g):∀(k j:E),j+k=F q.cons->(∀i,0<=i->i<(j:U)->Dq q (con q i) g)->∃r:U,Ev (λn=>OS q.cons q g n<|.l1 (j:U)) r/\(C (r>=0)=T↔iE q g):=by
 have BF:F q.cons<=4096:=by have:=ER t;omega
 intro k
 induction k with
 |zero=>
  intro j e h;refine⟨-1,Ev.one λn=>?_,zNm Z6 λi h0 c=>h i h0 Z2⟩
  show Ww n (OS q.cons q g n) q.cons q g (j:U)=_
  unfold Ww;rw[zAE Z2,zAD]
 |succ k f=>
  intro j e h;have hj:j<F q.cons:=Z2
  obtain⟨b,⟨N,m⟩,x⟩:=zI5 (G.ctx l t (i:=(j:U)) Z2 Z2) G
  have step:∀n,N<=n->OS q.cons q g (n+1) (.l1 (j:U))=B (!b) (Z (j:U)) (OS q.cons q g n<|.l1 ((j+1:E):U)):=λn a=>by
   have R:Gg n q (H q.cons (j:U).toNat ξ) g=Z b:=m n a
   show Ww n (OS q.cons q g n) q.cons q g (j:U)=_
   unfold Ww ZJ iZ;rw[zAB Z2,zAG,zAF ⟨Z2,Z2⟩,R,zAC,zAC,zAF<|AZ.2 ⟨Z2,Z2⟩,show((j+1:E):U)=(j:U)+1 by omega]
  cases b with
  |true=>
   obtain⟨r,c,o⟩:=f (j+1) Z2 λi h0 c=>by
    by_cases e:i=(j:U)
    ·rw[e];exact x.1 rfl
    ·exact h i h0 Z2
   exact⟨r,AR.ev (AR.oneN N λn a=>by rw[step n a];rfl) c,o⟩
  |false=>
   refine⟨(j:U),Ev.oneN N λn a=>by rw[step n a];rfl,zM5 (by rw[zAB Z2];decide) λh=>?_⟩;have:=x.2<|h (j:U) Z2 Z2;cases this
def zCM(l:DK q)(f:F g<=LB):∃r,Ev (λn=>Pf n q g) r/\SvP q g r:=by
 obtain⟨e,a,c⟩:=zF9 l f
 by_cases h0:e=0
 ·subst h0;obtain⟨t,G⟩:=c.1 rfl;obtain⟨r,j,k⟩:=zBL l t G (F q.cons) 0 Z2 λi h0 a=>Z2
  refine⟨(!C (r>=0),0),Ev.bind a<|Ev.eq (Ev.bind (Ev.bind j (b:=λn m=>Z<|C<|m>=0)<|Ev.now λn=>rfl) (b:=λn o=>Z (!o,(0:U)))<|Ev.now λn=>rfl) λn=>rfl,⟨λ_=>⟨t,G⟩,λ_=>rfl⟩,λ_=>?_⟩;rw[←k]
  show(!C (r>=0))=D↔_
  cases C (r>=0) <;> simp
 ·refine⟨(T,e),Ev.bind a (Ev.now λn=>by rw[zM8.2 h0];rfl),⟨λh=>τ h h0,λh=>τ (c.2 h) h0⟩,λh=>τ h h0⟩
end
abbrev zRz:=@List.take_of_length_le
def Bm.nv{P:ν}(Ϙ:Bm P):Prop:=∀G R W,¬Ϙ.Jx G R W
def pan(v:μ):O PanicEntry:=[{ v:=v,recovered:=T }]
def Ri(Y:μ)(ϕ:Ψ)(w:κ)(ρ:O AN):M DV->Ending->Prop
 |some Ϛ,e=>∃v,e=.returned v/\AL ϕ w Ϛ ρ v
 |none,e=>e=.panicked (pan Y)
def YC(P:ν)(Γ:A1)(Y:μ)(f:E)(ds:E->O DV)(h:E->DH)(ys:O<|O DV)(n:M DV)(h':E->DH):Prop:=(∀args W,(callFunc f args).run P W=.ok (.enter f args) W)/\∀(Ϙ:Bm P),Ϙ.nv->∀i,(∃rest,Ϙ.encs.drop i=ys++rest)->∀N ρ args w G R,A9 P Γ N (h Ϙ.l) ρ w->BJ (MS N (h Ϙ.l) ρ) w ρ (ds Ϙ.l) args->Ϙ.J i G R w->IY Γ N G R (h Ϙ.l) ρ w->CallsIn η 0 P f args w λe w'=>∃b ρ' a R',A9 P Γ b (h' Ϙ.l) ρ' w'/\Ϙ.J (i+F ys) a R' w'/\IY Γ b a R' (h' Ϙ.l) ρ' w'/\CA (F<|h Ϙ.l) ρ ρ'/\Ri Y (MS b (h' Ϙ.l) ρ') w' ρ' n e
section
variable{P:ν}{Γ:A1}
def Bm.part(Ϙ:Bm P)(I:Ϙ.nv)(ϐ X N:Ψ)(w:κ)(z:∀b,ϐ b->b<w.heap.size)(eM:∀b,X b->b<w.heap.size):Bm P where
 l:=Ϙ.l
 encs:=Ϙ.encs
 J:=λj G R W=>Ϙ.J j (λb=>G b∨ϐ b) R W/\AV (λb=>¬(ϐ b∨X b)) w W/\(∀b,ϐ b->¬G b/\¬R b)/\(∀b,X b->R b)/\(∀b,G b->N b∨w.heap.size<=b)/\(∀b,G b->¬R b)
 Jx:=λ_ _ _=>False
 hJ:=by
  rintro j G R Q R' ο Ϝ ⟨o,f,q,r,K,s⟩ a S V Im t v;have p:=f.size;have Y:∀b,ϐ b->b<ο.heap.size:=λb n=>zI0 (z b n) p
  have y:∀b,ϐ b->¬Q b/\¬R' b:=λb n=>by
   grind
  refine⟨Ϙ.hJ j _ R _ R' ο Ϝ o (a.mono λ_ _ h=>.inl h) (λk hk=>hk.elim (λh=>(S k h).imp .inl id) λh=>.inl<|.inr h) (λk hk=>(V k hk).imp id λh=>h.imp .inl id) (λk hk=>?_) (λk hk=>hk.elim (t k) λh=>(y k h).2) λk hk=>?_,f.comp a λi hi c=>?_,y,λb n=>?_,λb n=>?_,t⟩
  ·grind
  ·rcases hk with(hk|hk)|hk
   ·exact v k<|.inl hk
   ·exact zI0 (Y k hk) a.size
   ·exact v k<|.inr hk
  ·grind
  ·grind
  grind
 hJx:=λ_ _ _ _ _ _ h _ _ _ _ _ _=>h.elim
 hy:=by
  rintro i x args G R W1 c hE ⟨o,f,q,r,K,s⟩ p
  obtain⟨fn,tmps,Re,g,hy,hR⟩:=Ϙ.hy i x args _ R W1 c hE o ⟨λk hk=>hk.elim (p.dis k) λh=>(q k h).2,λk hk=>by
   rcases hk with(hk|hk)|hk
   ·exact p.lt k<|.inl hk
   ·exact zI0 (z k hk) f.size
   ·exact p.lt k<|.inr hk⟩
  refine⟨fn,tmps,Re,g,hy,hR.mono ?_⟩;rintro e W' ⟨a,m⟩;refine⟨a.mono λk _ h c=>h<|c.imp .inl id,.inl ?_⟩;rcases m with⟨rfl,m⟩|⟨_,m⟩
  ·exact⟨rfl,m,f.comp a λi _ c Il=>c<|Il.imp .inr<|r i,q,r,K,s⟩
  ·exact(I _ _ _ m).elim
def MT(K:E)(h:DH)(ρ:O AN)(b:E):Prop:=∃k o p,K<=k/\h[k]?=Z (Z o)/\ρ[k]?=Z p/\p.foot b
variable{ρ:O AN}{h:DH}
theorem MO.split(K:E)(b:E):MO h ρ b↔MO (h.take K) (ρ.take K) b∨MT K h ρ b:=by
 constructor
 ·rintro⟨k,o,p,h1,h2,m⟩;rcases zK8 k K with hk|hk
  ·exact .inl ⟨k,o,p,Z4,Z4,m⟩
  grind[MT]
 grind[MO,MT]
def O6(K:E):M DO->ζ
 |some (.cells l)=>l.all<|Ce K
 |some (.ro l)=>l.all<|Ce K
 |_=>D
variable{w:κ}{N:Ψ}
theorem A9.take(ϗ:A9 P Γ N h ρ w){K:E}(hK:K<=F h)(hc:(h.take K).all (O6 K)=D):A9 P Γ (λb=>N b∨MT K h ρ b) (h.take K) (ρ.take K) w/\∀b,MS (λb=>N b∨MT K h ρ b) (h.take K) (ρ.take K) b↔MS N h ρ b:=by
 have J:∀b,MS (λb=>N b∨MT K h ρ b) (h.take K) (ρ.take K) b↔MS N h ρ b:=λb=>by
  grind[MO.split,MS]
 have a:∀{α:Type} {l:O α} {k:E} {x:α},(l.take K)[k]?=Z x->k<K/\l[k]?=Z x:=λ{α l k x} hx=>by
  grind
 refine⟨⟨by simp[ϗ.len],λk o q=>?_,λk o p b Y Q R=>?_,λi i' o o' p p' b Ay g1 g2 g3 g4 g5 g6=>ϗ.dis i i' o o' p p' b Ay (a g1).2 (a g2).2 (a g3).2 (a g4).2 g5 g6,λb r=>?_,ϗ.gi⟩,J⟩
 ·obtain⟨El,FP⟩:=a q;obtain⟨p,hp,g⟩:=ϗ.obj k o FP;refine⟨p,Z4,?_⟩;have e:MS (λb=>N b∨MT K h ρ b) (h.take K) (ρ.take K)=MS N h ρ:=funext λb=>propext<|J b
  rw[e];cases o with
  |cells l=>
   have s:l.all (Ce K)=D:=zFy.1 hc _<|zLU q;exact Ai.out g rfl λj ϛ hj v=>AL.take _ (zFy.1 s _ Z4) v
  |ints l=>exact g
  |bools l=>exact g
  |arr m n f=>exact g
  |gro m n f=>exact g
  |iter encs=>exact g
  |ro l=>
   obtain⟨r1,r2,r3⟩:=g;have s:l.all (Ce K)=D:=zFy.1 hc _<|zLU q;exact⟨r1,r2,Ai.out r3 rfl λj ϛ hj v=>AL.take _ (zFy.1 s _ Z4) v⟩
  |mo x=>exact g
 ·obtain⟨El,V⟩:=a Y;obtain⟨S,c2,W⟩:=ϗ.cel k o p b V (a Q).2 R;refine⟨S,?_,W⟩;rintro(hn|⟨X,o',p',q1,y,G,I⟩)
  ·exact c2 hn
  ·exact ϗ.dis k X o o' p p' b Z2 V y (a Q).2 G R I
 ·rcases r with r|⟨X,o',p',q1,y,G,I⟩
  ·exact ϗ.nlt b r
  ·obtain⟨S,_,c,t,z,W⟩:=ϗ.cel X o' p' b y G I
   grind
variable{n:M DV}{ϕ:Ψ}
theorem Ri.out{Y:μ}{M':Ψ}{ρ':O AN}{e:Ending}(ϗ:BW ϕ w ρ M' w ρ')(h:Ri Y ϕ w ρ n e):Ri Y M' w ρ' n e:=by
 cases n with
 |none=>exact h
 |some Ϛ=>obtain⟨v,a,c⟩:=h;exact⟨v,a,c.out _ ϗ⟩
variable{h':E->DH}{ys:O (O DV)}{ds:E->O DV}{f:E}
theorem YC.call{pv:μ}{h:E->DH}{a:M DV}(ϗ:YC P Γ pv f ds h ys a h'){Ϙ:Bm P}(hn:Ϙ.nv){i:E}(hi:∃rest,Ϙ.encs.drop i=ys++rest){G R:Ψ}{W ϑ:DH}{args:υ μ}
 (e:W=h Ϙ.l++ϑ) (X:A9 P Γ N W ρ w) (hl:F (h' Ϙ.l)=F (h Ϙ.l)) (hc:(h Ϙ.l).all (O6<|F<|h Ϙ.l)=D) (hd:(ds Ϙ.l).all (Ce<|F<|h Ϙ.l)=D) (fa:BJ (MS N W ρ) w ρ (ds Ϙ.l) args) (hj:Ϙ.J i G R w) (y:IY Γ N G R W ρ w):
 CallsIn η 0 P f args w λe w'=>∃r ρ2 G2 R2,A9 P Γ r (h' Ϙ.l++ϑ) ρ2 w'/\Ϙ.J (i+F ys) G2 R2 w'/\IY Γ r G2 R2 (h' Ϙ.l++ϑ) ρ2 w'/\CA (F W) ρ ρ2/\Ri pv (MS r (h' Ϙ.l++ϑ) ρ2) w' ρ2 a e/\
  BW (MS N W ρ) w ρ (MS r (h' Ϙ.l++ϑ) ρ2) w' ρ2/\AV (λb=>N b∨MO (h Ϙ.l) (ρ.take<|F<|h Ϙ.l) b∨w.heap.size<=b) w w':=by
 subst e;obtain⟨K,I⟩:∃K,K=F (h Ϙ.l):=⟨_,rfl⟩;have hK:(h Ϙ.l++ϑ).take K=h Ϙ.l:=Z4
 have hKl:K<=F (h Ϙ.l++ϑ):=Z4
 obtain⟨Rn,hM⟩:=X.take hKl (by rw[hK,I];exact hc);rw[hK]at Rn hM;obtain⟨R1,z1,g,z3,z4⟩:=IY.part (Ϙ.hJ i) hj y;have sp:=λb=>MO.split (h:=h Ϙ.l++ϑ) (ρ:=ρ) K b
 rw[hK]at sp;obtain⟨ϐ,j⟩:∃ϐ,ϐ=MT K (h Ϙ.l++ϑ) ρ:=⟨_,rfl⟩;obtain⟨Q,eQ⟩:∃Q,Q=MO (h Ϙ.l) (ρ.take K):=⟨_,rfl⟩;rw[←j]at Rn hM;rw[←I,←eQ];have sp':(λb=>Q b∨ϐ b)=MO (h Ϙ.l++ϑ) ρ:=by rw[eQ,j];grind
 have m:∀b,Q b∨ϐ b↔MO (h Ϙ.l++ϑ) ρ b:=λb=>iff_of_eq<|congrFun sp' b
 have Ao:∀b,MO (h Ϙ.l++ϑ) ρ b->b<w.heap.size:=λb hb=>g.sh.lt b<|.inl hb
 have T5:∀b,Q b->¬ϐ b:=λb h1 h2=>by
  rw[eQ]at h1;rw[j]at h2;obtain⟨k,o,p,q1,q,Y⟩:=h1;obtain⟨k',o',p',g1,g2,g3,g4⟩:=h2;rw[zRG]at q;split at q
  ·exact X.dis k k' o o' p p' b Z2 Z4 g2 q g3 Y g4
  ·cases q
 have hNG:∀b,N b->¬MO (h Ϙ.l++ϑ) ρ b:=λb hN=>((g.n b).1 hN).2.1
 let C':Bm P:=Ϙ.part hn ϐ R1 Q w (λb hb=>Ao b<|(m b).1<|.inr hb) λb hb=>g.sh.lt b<|.inr hb
 have fa':BJ (MS (λb=>N b∨ϐ b) (h Ϙ.l)<|ρ.take K) w (ρ.take K) (ds Ϙ.l) args:=by
  have e:MS (λb=>N b∨ϐ b) (h Ϙ.l) (ρ.take K)=MS N (h Ϙ.l++ϑ) ρ:=funext λb=>propext<|hM b
  rw[e];exact fa.take (by rw[I];exact hd)
 refine(ϗ.2 C' (λ_ _ _ h=>h) i hi (λb=>N b∨ϐ b) (ρ.take K) args w Q R1 Rn fa' ⟨Z4,AV.refl _ _,λb hb=>⟨λhg=>T5 b hg hb,g.sh.dis b<|(m b).1<|.inr hb⟩,λ_ h=>h,λ_ h=>.inl h,λb hb=>g.sh.dis b<|(m b).1<|.inl hb⟩
  ⟨⟨λb hb=>g.sh.dis b<|(m b).1<|.inl hb,λb hb=>hb.elim (λh=>Ao b<|(m b).1<|.inl h) λh=>g.sh.lt b<|.inr h⟩,g.lo,λb hb=>by rw[eQ];exact hb,λb=>?_⟩).mono ?_
 ·constructor
  ·rintro(hb|hb)
   ·exact⟨((g.n b).1 hb).1,λhg=>hNG b hb<|(m b).1<|.inl hg,((g.n b).1 hb).2.2⟩
   ·exact⟨Ao b<|(m b).1<|.inr hb,λhg=>T5 b hg hb,g.sh.dis b<|(m b).1<|.inr hb⟩
  grind[MS]
 ·rintro e w' ⟨N',ρs,G',R',Fv,⟨j1,j2,j3,j4,j5,j6⟩,s,kp,ho⟩;have BT:=j2.size;have hls:F ρs=K:=by rw[Fv.len,I];exact hl
  have Ap:F ρ=K+F ϑ:=by rw[X.len,zKp,I]
  have eN:∀b,(b<w'.heap.size/\¬(G' b∨ϐ b)/\¬R' b)->N' b:=λb ⟨q1,q,Y⟩=>(s.n b).2 ⟨q1,λh=>q<|.inl h,Y⟩
  have hON:∀b,ϐ b->N' b:=λb hb=>(s.n b).2 ⟨zI0 (Ao b<|(m b).1<|.inr hb) BT,(j3 b hb).1,(j3 b hb).2⟩
  have pl:∀(k:E) (p:AN),ρ[k]?=Z p->(ρs++ρ.drop K)[k]?=Z p:=λk p v=>by
   rcases zK8 k K with hk|hk
   ·rw[zLb Z2];exact kp k p (by show k<F (h Ϙ.l);rw[←I];exact hk) Z4
   grind
  have gl:∀{k:E} {p:AN},k<K->(ρs++ρ.drop K)[k]?=Z p->ρs[k]?=Z p:=λ{k p} hk v=>Z4
  have gr:∀{k:E} {p:AN},K<=k->(ρs++ρ.drop K)[k]?=Z p->ρ[k]?=Z p:=λ{k p} hk v=>by
   grind
  have V:∀{k:E} {o:DO},k<K->(h' Ϙ.l++ϑ)[k]?=Z (Z o)->(h' Ϙ.l)[k]?=Z (Z o):=λ{k o} hk ho=>Z4
  have cM:∀{k:E} {o:DO},K<=k->(h' Ϙ.l++ϑ)[k]?=Z (Z o)->(h Ϙ.l++ϑ)[k]?=Z (Z o):=λ{k o} hk ho=>by
   grind
  have LU:∀b,MO (h' Ϙ.l++ϑ) (ρs++ρ.drop K) b->G' b∨ϐ b:=by
   rintro b ⟨k,o,p,q1,q,Y⟩;rcases zK8 k K with hk|hk
   ·exact .inl<|s.own b ⟨k,o,p,V hk q1,gl hk q,Y⟩
   ·exact .inr (by rw[j];grind[MT])
  obtain⟨r,zNd⟩:∃r:Ψ,r=λb=>b<w'.heap.size/\¬(G' b∨ϐ b)/\¬R' b:=⟨_,rfl⟩
  have G8:∀b,r b->N' b:=λb hb=>Z4
  have eO:∀b,MS r (h' Ϙ.l++ϑ) (ρs++ρ.drop K) b->b<w'.heap.size/\¬R' b:=λb hb=>by
   rcases hb with hb|hb
   ·grind
   ·rcases LU b hb with hb|hb
    ·exact⟨s.sh.lt b<|.inl hb,j6 b hb⟩
    grind
  have a:BW (MS N (h Ϙ.l++ϑ) ρ) w ρ (MS r (h' Ϙ.l++ϑ)<|ρs++ρ.drop K) w'<|ρs++ρ.drop K:=by
   refine⟨λb hb hm _=>j2.block b hb λx=>x<|.inr ?_,λb hb=>?_,pl⟩
   ·grind
   grind
  have J2:BW (MS N' (h' Ϙ.l) ρs) w' ρs (MS r (h' Ϙ.l++ϑ)<|ρs++ρ.drop K) w'<|ρs++ρ.drop K:=by
   refine⟨λ_ _ _ _=>rfl,λb hb=>.inl ?_,λk p v=>?_⟩
   ·rcases hb with hb|hb
    ·exact .inl<|G8 b hb
    ·obtain⟨k,o,p,q1,q,Y⟩:=hb;rcases zK8 k K with hk|hk
     ·grind[MS,MO]
     ·exact .inl (hON b<|by rw[j];grind[MT])
   grind
  refine⟨r,ρs++ρ.drop K,λb=>G' b∨ϐ b,R',⟨by simp[hls,Ap,hl,I],λk o hk=>?_,λk o p b h1 h2 h3=>?_,λi i' o o' p p' b Ay g1 g2 g3 g4 g5 g6=>?_,λb hb=>?_,Fv.gi⟩,j1,⟨⟨λb hb=>hb.elim (j6 b) λh=>(j3 b h).2,λb hb=>?_⟩,s.lo,LU,λb=>by rw[zNd]⟩,λk p _ v=>pl k p v,ho.out J2,a,?_⟩
  ·rcases zK8 k K with El|El
   ·obtain⟨p,v,hr⟩:=Fv.obj k o<|V El hk;exact⟨p,J2.pl k p v,hr.out J2 (S:=λ_=>False) (AV.refl _ _) (λ_ h=>h.elim) λ_ _ _ h=>h⟩
   ·obtain⟨p,v,hr⟩:=X.obj k o<|cM El hk;refine⟨p,pl k p v,hr.out a (S:=λb=>b<w.heap.size/\¬(ϐ b∨R1 b)) (j2.mono λb hb x=>⟨hb,x⟩) (λb hb=>z3 b ⟨hb.1,λhr=>hb.2<|.inr hr⟩) λb _ hf x=>x.2<|.inl ?_⟩;rw[j];grind[MT]
  ·rcases zK8 k K with El|El
   ·obtain⟨c1,c2,c3⟩:=Fv.cel k o p b (V El h1) (gl El h2) h3
    grind
   ·have Dl:ϐ b:=by rw[j];grind[MT]
    obtain⟨c1,_,c,t,z,c3⟩:=X.cel k o p b (cM El h1) (gr El h2) h3;refine⟨c1,λx=>?_,c,t,z,(j2.block b (zAy.1 c3).1 λx=>x<|.inl Dl).trans c3⟩
    grind
  ·rcases zK8 i K with Hh|Hh <;> rcases zK8 i' K with HA|HA
   ·exact Fv.dis i i' o o' p p' b Ay (V Hh g1) (V HA g2) (gl Hh g3) (gl HA g4) g5 g6
   ·exact(j3 b<|by rw[j];grind[MT]).1<|s.own b ⟨i,o,p,V Hh g1,gl Hh g3,g5⟩
   ·exact(j3 b<|by rw[j];grind[MT]).1<|s.own b ⟨i',o',p',V HA g2,gl HA g4,g6⟩
   ·exact X.dis i i' o o' p p' b Ay (cM Hh g1) (cM HA g2) (gr Hh g3) (gr HA g4) g5 g6
  ·exact Fv.nlt b<|G8 b hb
  ·rcases hb with(hb|hb)|hb
   ·exact s.sh.lt b<|.inl hb
   ·grind
   ·exact s.sh.lt b<|.inr hb
  ·refine j2.mono λb hb x=>?_
   grind[MS]
def Bm.K(Ϙ:Bm P)(Γ:A1)(ϙ j:E)(ρ0:O AN):BR P Γ ϙ where
 I:=λN h ρ w=>(Ϙ.Y Γ ϙ j).I N h ρ w/\CA ϙ ρ0 ρ
 st:=λ⟨a,b⟩ ϗ S st k=>⟨(Ϙ.Y Γ ϙ j).st a ϗ S st k,b.trans k⟩
def YQ(Ϙ:Bm P)(Γ:A1)(b:μ)(fn:Func)(ϙ j:E)(ρ0:O AN)(n:M DV)(h':DH):QY P Γ ϙ:=λe S Y=>Y=Ϙ.K Γ ϙ j ρ0/\match n with
 |some Ϛ=>Dd P fn ϙ Ϛ h' e S
 |none=>e=.panic (pan b)/\∃a,A6 ϙ S a/\a.h=h'
variable{ϙ:E}
theorem YC.of{S:μ}{fn:Func}{h:E->DH}(hf:P.funcs[f]?=Z fn)(j:fn.body.isSome=D)(V:(fn.name== "runtime.NumGoroutine")=T)(hL:∀l,F (h l)=ϙ)
 (ϑ:∀(Ϙ:Bm P) (i:E) (ρ0:O AN),Ϙ.nv->(∃rest,Ϙ.encs.drop i=ys++rest)->A2 P Γ η A ϙ (Ϙ.K Γ ϙ i ρ0) (YQ Ϙ Γ S fn ϙ (i+F ys) ρ0 n<|h' Ϙ.l) [.code<|Af fn] ⟨ds Ϙ.l++d (fn.ntmps-F (ds Ϙ.l)) .any,h Ϙ.l⟩):YC P Γ S f ds h ys n h':=by
 refine⟨λargs W=>Ox hf j V args W,λϘ J7 i hi N ρ args w G R HR fa hj y=>?_⟩;refine z6 hf j (ϑ Ϙ i ρ J7 hi) HR fa ⟨⟨G,R,hj,y⟩,CA.refl _ _⟩ ?_;rintro e S' ρ' a Y' a' g ⟨rfl,q⟩ s ⟨q3,q4⟩;cases n with
 |none=>
  obtain⟨rfl,Cb,X,t⟩:=q;obtain⟨ρ3,r,m,x⟩:=X P Γ a ρ' a' g s;obtain⟨I,pS,Q,y3⟩:=(Ϙ.Y Γ ϙ<|i+F ys).st q3 s.hr r.hr m x;have o:=r.hr;rw[t]at o y3;exact⟨a,ρ3,I,pS,o,Q,y3,by rw[hL];exact q4.trans x,rfl⟩
 |some Ϛ=>
  obtain⟨he,Cb,X,rs,Oa,z⟩:=q;obtain⟨ρ'',p,U4,Ws⟩:=X P Γ a ρ' a' g s;have y2:=(Ϙ.Y Γ ϙ<|i+F ys).st q3 s.hr p.hr U4 Ws;obtain⟨v,g1,g2⟩:=al p Oa
  have key:∃v,(results fn a'.tmps).run P g=.ok v g/\∃a ρ' G' R',A9 P Γ a (h' Ϙ.l) ρ' g/\Ϙ.J (i+F ys) G' R' g/\IY Γ a G' R' (h' Ϙ.l) ρ' g/\CA (F<|h Ϙ.l) ρ ρ'/\Ri S (MS a (h' Ϙ.l) ρ') g ρ' (Z Ϛ) (.returned v):=by
   rcases z with⟨z,t⟩|⟨_,z,V,hl,t⟩
   ·obtain⟨I,r,Q,y3⟩:=y2;have g3:=z _ _ _ _ g2;have Rh:=p.hr
    grind[CA,Ri]
   ·obtain⟨ρ3,r,m,x⟩:=A6.compact (ϙ:=ϙ) (θ ϙ) Cb zR9 (λk hk=>zI0 (zJ9.1 hk) hl) (λk hk=>by simp[hk]) P Γ a ρ'' a' g p;obtain⟨I,pS,Q,y3⟩:=(Ϙ.Y Γ ϙ<|i+F ys).st y2 p.hr r.hr m x;have o:=r.hr;rw[t]at o m y3;refine⟨v,g1,a,ρ3,I,pS,o,Q,y3,by grind[CA],v,rfl,?_⟩;have r0:=V _ _ _ _<|z _ _ _ _ g2;have r1:AL (MS a (h' Ϙ.l) ρ3) g Ϛ [] v:=AL.out _ ⟨λ_ _ _ _=>rfl,λb j=>j.elim (λc=>.inl<|.inl c) λc=>(m.grow b c).imp .inr id,λ_ _ c=>by simp at c⟩ r0;exact AL.out _ ⟨λ_ _ _ _=>rfl,λb j=>.inl j,λ_ _ c=>by simp at c⟩ r1
  grind
def Rg(fr:O DV):O DV:=fr.map λ_=>.any
theorem zQ2{fr:O DV}{t:υ μ}(h:F fr=t.size):BJ ϕ w ρ (Rg fr) t:=⟨by simp[Rg,h],λj hj=>by
 grind[Rg,AL]⟩
def PO{ϙ:E}(Q:QY P Γ ϙ):Exit->Act->κ->Prop
 | .panic c,a,w=>∃fr h ρ N Y,Q (.panic c) ⟨Rg fr,h⟩ Y/\F fr=a.tmps.size/\A9 P Γ N h ρ w/\Y.I N h ρ w/\a.defers= []
 |e,a,w=>∃S ρ N Y,QE Q e S Y/\Ad P Γ N S ρ a w/\Y.I N S.h ρ w/\Jb A a.defers w/\Bd η A w
def PO.le{Q:QY P Γ ϙ}{e:Exit}{a:Act}(h:PO Q e a w):∃S ρ N Y,QE Q e S Y/\Ad P Γ N S ρ a w/\Y.I N S.h ρ w/\Jb A a.defers w/\Bd η A w:=by
 cases e with
 |panic c=>
  obtain⟨fr,h,ρ,N,Y,b,f,m,W,K⟩:=h;exact⟨⟨Rg fr,h⟩,ρ,N,Y,b,⟨m,zQ2 f⟩,W,K,Bd.none⟩
 |_=>exact h
def PO.put{Q:QY P Γ ϙ}(c:O PanicEntry)(a:Act)(Ϛ:M Tmp)(v:μ)(w:κ)(h:PO Q (.panic c) (Act.put a Ϛ v) w):PO Q (.panic c) a w:=by
 obtain⟨fr,h,ρ,N,Y,b,e,m,W,K⟩:=h;refine⟨fr,h,ρ,N,Y,b,e.trans ?_,m,W,?_⟩
 ·cases Ϛ <;> simp[Act.put]
 ·cases Ϛ <;> simpa[Act.put]using K
def Do(P:ν)(Γ:A1){ϙ:E}(Y:BR P Γ ϙ)(ops:υ Oper)(l:Θ)(S:St)(Q:QY P Γ ϙ):Prop:=∀N ρ a w,Ad P Γ N S ρ a w->Y.I N S.h ρ w->a.defers= []->wpListIn η 0 P ops (PO Q) (CV ops l) a w
variable{ops:υ Oper}
theorem WN :∀(l l':Θ),CV ops (l++l')=CV ops l++CV ops l'
 |[],_=>rfl
 |i::l,l'=>by
  simp only[zRc,CV];split
  ·rw[WN l l'];rfl
  ·exact WN l l'
theorem zH4 :CV ops (θ ops.size)=ops.toList:=by
 have go:∀(k:E),k<=ops.size->CV ops (θ k)=ops.toList.take k:=by
  intro k
  induction k with
  |zero=>intro _;rfl
  |succ k ih=>
   grind[List.range_succ,WN,List.take_add_one,CV]
 simp_all[zRz]
section
variable{ϙ:E}{Ϙ:Bm P}{i:E}{ρ0:O AN}{Q:QY P Γ ϙ}{ops:υ Oper}{S:St}{Ar:BM}{vs:O Prop}
variable{S':St}{Y:BR P Γ ϙ}
def Do.done{l:Θ}{b:BM}(c:DQ η P)(g:CY ops=D)(h:D1 P Γ ops (CV ops l) S Ar=Z (S',vs,b))(t:BU vs)(f:Q .normal S' Y):Do P Γ Y ops l S Q:=λN ρ a w R y m=>
 LW c g _ (TL l) R h t λρ' a' w' R' st z=>Tr.done R y m Bd.none f R' st.st (λk p _ e=>st.pl k p e) z
variable{id:E}
theorem Tr.ofO(h:Do P Γ Y ops (θ ops.size) S Q):Tr P Γ η A ϙ Y (.region id ops T) S Q:=λN ρ a w R y m _=>zNQ (zOf (by
 grind[zH4,Do,Jb])) λ_ _ _=>PO.le
def Li(P:ν)(Γ:A1)(ops:υ Oper)(l:Θ)(p:E)(S:St)(Ar:BM):M<|FuncId×O DV×M Tmp×St×O Prop×BM:=match D1 P Γ ops (CV ops l) S Ar with
 |none=>A
 |some (G,vs,a)=>match ops[p]? with
  |none=>A
  |some o=>match Kc ops G o with
   |some D=>match o.op with
    | .call c=>match c.callee with
     | .value f=>match Ak G.fr f with
      | .fn g m cap=>Z (g,c.args.toList.map (Ak G.fr)++(θ m).map cap,o.dst,G,vs,a)
      |_=>A
     |_=>A
    |_=>A
   |_=>A
variable{ϑ:DH}{FJ:BM}{t:M Tmp}{g:FuncId}{p:E}
def Do.call{s j:Θ}{Y:μ}{q:St}{ds:E->O DV}{h:E->DH}{ys:O (O DV)}{n:M DV}{h':E->DH}(J:DQ η P)(V:CY ops=D)(hC:Ϙ.nv)
 (b:Li P Γ ops s p S Ar=Z (g,ds Ϙ.l,t,q,vs,FJ)) (hv:BU vs) (ϗ:YC P Γ Y g ds h ys n h') (hS:q.h=h Ϙ.l++ϑ) (hl:F (h' Ϙ.l)=F (h Ϙ.l)) (hc:(h Ϙ.l).all (O6<|F<|h Ϙ.l)=D) (hd:(ds Ϙ.l).all (Ce<|F<|h Ϙ.l)=D) (hi:∃rest,Ϙ.encs.drop i=ys++rest)
 (r:match n with
  |some Ϛ=>Do P Γ (Ϙ.K Γ ϙ (i+F ys) ρ0) ops j ⟨Ct q.fr t Ϛ,h' Ϙ.l++ϑ⟩ Q
  |none=>Q (.panic<|pan Y) ⟨Rg q.fr,h' Ϙ.l++ϑ⟩<|Ϙ.K Γ ϙ (i+F ys) ρ0):Do P Γ (Ϙ.K Γ ϙ i ρ0) ops (s++p::j) S Q:=λN ρ a w R y m=>by
 unfold Li at b;split at b
 ·cases b
 rename_i S2 EP G5 h1;split at b
 ·cases b
 rename_i o x;split at b
 ·rename_i hw;split at b
  ·rename_i c Qk;split at b
   ·rename_i f XW;split at b
    ·rename_i g' m' cap hf;simp only[zK0,zLE]at b;obtain⟨rfl,e2,rfl,rfl,rfl,rfl⟩:=b;rw[WN];have e3:CV ops (p::j)=o::CV ops j:=by simp only[CV,x]
     rw[e3];refine Xj J V _ (TL s) R h1 hv λρ1 z w1 X W Qq=>?_
     obtain⟨⟨G,R0,j1,y1⟩,JF⟩:=(Ϙ.K Γ ϙ i ρ0).st y R.hr X.hr W.st λk p _ I=>W.pl k p I;obtain⟨args,Mb,XU⟩:=oY X o Qk XW hf ϗ.1;rw[e2]at XU;unfold wpListIn;rw[zAF<|Iy X hw];refine⟨λf _=>J.fn f,?_⟩;rw[zND _ _ _<|JD V x,Mb];refine⟨λhx=>(by cases hx),(YC.call ϗ hC hi hS X.hr hl hc hd XU j1 y1).mono ?_⟩;have AX:z.defers= []:=Qq.trans m;have Ci:∀v,(z.put o.dst v).defers=z.defers:=λv=>by cases x:o.dst <;> simp[Act.put]
     rintro e w2 ⟨N2,ρ2,G2,R2,Yv,j2,y2,wR,Md,hO,_⟩;have Q2:=X.fr.out hO;have Te:CA ϙ ρ0 ρ2:=λk p r I=>hO.pl k p<|JF k p r I
     cases n with
     |none=>
      have he:e=.panicked (pan Y):=Md;subst he;exact⟨_,_,ρ2,N2,_,r,Q2.1,Yv,⟨⟨G2,R2,j2,y2⟩,Te⟩,AX⟩
     |some Ϛ=>
      obtain⟨v,rfl,Qr⟩:=Md;exact r N2 ρ2 _ w2 (Hw (S:=⟨S2.fr,h' Ϙ.l++ϑ⟩) ⟨Yv,Q2⟩ o.dst Qr) ⟨⟨G2,R2,j2,y2⟩,Te⟩<|(Ci v).trans AX
    ·cases b
   ·cases b
  ·cases b
 ·cases b
theorem Tr.ordO{e:O (Θ×E)}{i b:Θ}{g:BM}(l:DQ η P)(j:P.follows .mixedOrders=D)(c:Ac ops e i b)
 (h:OY P Γ ops S.h e i S Ar=Z (S',vs,g)) (t:BU vs) (n:Do P Γ Y ops b S' Q):Tr P Γ η A ϙ Y (.region id ops D) S Q:=λN ρ a w R y m _=>by
 simp only[Ac,zAx]at c;obtain⟨⟨h1,o⟩,q⟩:=c;have f:A0 w w.drew:=A0.toDrew w;refine zNQ (pc l.fn e i b j Z4<|dp (Q:=PO Q) l o e i b q (R.ext f) (C6.refl _ _ _) (A0.refl _) h t λρ' a' w' R' st z=>?_) λ_ _ _=>PO.le
 exact n N ρ' a' w' R' (Y.st y R.hr R'.hr ((BD.ext f).trans st.st) λk p _ r=>st.pl k p r)<|z.trans m
def iL(P:ν)(Γ:A1)(ops:υ Oper)(l:Θ)(p:E)(S:St)(Ar:BM):M<|O DV×E×M Tmp×St×O Prop×BM:=match D1 P Γ ops (CV ops l) S Ar with
 |none=>A
 |some (G,vs,a)=>match ops[p]? with
  |none=>A
  |some o=>match Kc ops G o with
   |some D=>match o.op with
    | .call c=>match c.callee with
     | .value f=>match Ak G.fr f with
      | .yl l=>match(c.args.toList.map<|Ak G.fr).all Fi with
       |true=>Z (c.args.toList.map<|Ak G.fr,l,o.dst,G,vs,a)
       |false=>A
      |_=>A
     |_=>A
    |_=>A
   |_=>A
def Do.yield{r n:Θ}{x:O DV}{G:St}(I:DQ η P)(J:CY ops=D)(hC:Ϙ.nv)
 (b:iL P Γ ops r p S Ar=Z (x,Ϙ.l,t,G,vs,FJ)) (hv:BU vs) (s:Ϙ.encs[i]?=Z x) (hk:Do P Γ (Ϙ.K Γ ϙ (i+1) ρ0) ops n ⟨Ct G.fr t<|.bool D,G.h⟩ Q):Do P Γ (Ϙ.K Γ ϙ i ρ0) ops (r++p::n) S Q:=λN ρ a w R y m=>by
 unfold iL at b;split at b
 ·cases b
 rename_i V EP G5 h1;split at b
 ·cases b
 rename_i o z;split at b
 ·rename_i hw;split at b
  ·rename_i c Qk;split at b
   ·rename_i f XW;split at b
    ·rename_i l hl;split at b
     ·rename_i XA;simp only[zK0,zLE]at b;obtain⟨rfl,rfl,rfl,rfl,rfl,rfl⟩:=b;rw[WN];have e3:CV ops (p::n)=o::CV ops n:=by simp only[CV,z]
      rw[e3];refine Xj I J _ (TL r) R h1 hv λρ1 j w1 X W Qq=>?_
      obtain⟨⟨G0,R0,y1,y2⟩,JF⟩:=(Ϙ.K Γ ϙ i ρ0).st y R.hr X.hr W.st λk p _ hp=>W.pl k p hp;obtain⟨R',z1,q,z3,_⟩:=IY.part (Ϙ.hJ i) y1 y2;obtain⟨fn,tmps,Re,body,hy,hR⟩:=Ϙ.hy i _ _ _ R' w1 s (YV.of (g:=Ak V.fr) (f:=j.eval) (λx=>Bo X x) z3 XA) z1 q.sh;unfold wpListIn;rw[zAF<|Iy X hw]
      have my:j.eval f=.func (.yield Ϙ.l) #[] #[]:=by
       have b:=Bo X f;rw[hl]at b;exact b
      refine⟨λf _=>I.fn f,?_⟩;rw[zND _ _ _<|JD J z,sc Qk XW my rfl,hy];refine⟨λs=>(by cases s),hR.mono ?_⟩;have AX:j.defers= []:=Qq.trans m;have Ci:∀v,(j.put o.dst v).defers=j.defers:=λv=>by cases z:o.dst <;> simp[Act.put]
      rintro e W' ⟨Y,hj⟩;obtain⟨rfl,GJ⟩:=hj.resolve_right λh=>hC _ _ _ h.2
      obtain⟨H',fo⟩:=q.later X.hr Y;exact hk _ ρ1 _ W' (Hw (S:=V) ⟨H',X.fr.out fo⟩ o.dst (Ϛ:=.bool D) (v:=.bool D) rfl) ⟨⟨_,_,GJ,q.sh.upd Y,q.lo,λ_ h=>h,λ_=>Iff.rfl⟩,JF⟩<|(Ci _).trans AX
     ·cases b
    ·cases b
   ·cases b
  ·cases b
 ·cases b
def RB(ops:υ Oper)(p:E)(b:Θ):Θ->υ ζ->ζ
 |[],f=>(Region.ready .any ops f== [p])&&SE ops b (f.setIfInBounds p D)&&((θ ops.size).all λj=>b.contains j||(f.setIfInBounds p D).getD j D)
 |r::a,f=>So ops (λj=>j==p) r f&&((θ ops.size).all λj=>!b.contains j||F3 ops ops.size j r)&&RB ops p b a (f.setIfInBounds r D)
def Vd(P:ν)(ops:υ Oper)(xs:Θ):Θ->St->O (E×DV)->M (St×O Prop×O (E×DV))
 |[],S,j=>Z (S,[],j)
 |r::f,S,j=>match ops[r]? with
  |none=>A
  |some o=>match TF P ops ⟨S.fr,wW xs S.h⟩ j o with
   |none=>A
   |some (G,R,J)=>match Vd P ops xs f ⟨G.fr,S.h⟩ J with
    |none=>A
    |some (g,l,k)=>Z (g,R++l,k)
def pO(xs:Θ)(h:DH):ζ:=xs.all λk=>decide (F h<=k)||(h.getD k A).isSome
def Zp(xs:Θ)(ρ:O AN)(w:κ)(b:E):Prop:=(∃k q,k∈xs/\ρ[k]?=Z q/\q.foot b)∨w.heap.size<=b
variable{xs:Θ}
theorem ji{p:E}{e:Θ}{Q':Exit->Act->κ->Prop}(l:DQ η P)(n:CY ops=D)(s:Region.noSelect ops=D)(t:∀c a Ϛ v w,Q' (.panic c) (Act.put a Ϛ v) w->Q' (.panic c) a w){N:Ψ}{ρ:O AN}{w:κ}{g m:E}:
 ∀(f:Θ) {i:υ ζ} {S:St} {a:Act} {I:O (E×DV)} {S':St} {vs:O Prop} {J:O (E×DV)},GS ops i->Ad P Γ N S ρ a w->pO xs S.h=D->RB ops p e f i=D->Vd P ops xs f S I=Z (S',vs,J)->BU vs->
  (∀K a',GS ops K->RB ops p e [] K=D->Ad P Γ N S' ρ a' w->S'.h=S.h->a'.defers=a.defers->Iw η 0 P ops Q' (RZ ops (λj=>j==p) λ_ b=>N b∨Zp xs ρ w b) (λj=>e.contains j) g m K a' w)->
  Iw η 0 P ops Q' (RZ ops (λj=>j==p) λ_ b=>N b∨Zp xs ρ w b) (λj=>e.contains j) g (F f+m) i a w
 |[],i,S,a,I,S',vs,J,x,R,y,z,h,hv,Q=>by
  cases h
  grind
 |r::f,i,S,a,I,S',vs,J,x,R,y,z,h,hv,Q=>by
  simp only[RB,zAx]at z;obtain⟨⟨k1,k2⟩,k3⟩:=z;simp only[Vd]at h;split at h
  ·cases h
  rename_i o V;split at h
  ·cases h
  rename_i S1 Cc Mz X;split at h
  ·cases h
  rename_i S2 EP oN Y;cases h;obtain⟨CJ,CO⟩:=DP.1 hv
  have hT:∀j,j<ops.size->e.contains j=D->F3 ops ops.size j r=D:=λj hj ht=>by
   grind
  have OQ:∀W,AV (λb=>N b∨Zp xs ρ w b) w W->Keep (λb=>N b∨∃k o q,(!xs.contains k)=T/\S.h[k]?=Z (Z o)/\ρ[k]?=Z q/\q.foot b) w W:=λW hu b o ϛ hb hc=>by
   have Ao:b<w.heap.size:=zLJ w ⟨b,o,A⟩ hc;refine(oV<|hu.block b Ao ?_).trans hc;rintro(h|⟨k,q,X,Y,h3⟩|h)
   ·exact hb<|.inl h
   ·have z:k<F S.h:=by rw[←R.hr.len];grind
    have hx:=zFy.1 y k X;simp only[zKu,zK9]at hx;rcases hx with hx|hx
    ·omega
    ·cases hg:S.h.getD k A with
     |none=>rw[hg]at hx;cases hx
     |some ob=>grind
   ·omega
  have Oc:(Region.ready .any ops i).contains r=D:=by
   simp_all[So]
  have Ci:∀v,(a.put o.dst v).defers=a.defers:=λv=>by cases V:o.dst <;> simp[Act.put]
  obtain⟨e1,FO⟩:=WH (R.sel (p:=λk=>!xs.contains k)) X CJ
  have back:∀{a':Act},Ad P Γ (λb=>N b∨∃k o q,(!xs.contains k)=T/\S.h[k]?=Z (Z o)/\ρ[k]?=Z q/\q.foot b) S1 ρ a' w->Ad P Γ N ⟨S1.fr,S.h⟩ ρ a' w:=λ{a'} G=>by
   have G:=G.fr;rw[e1]at G;exact Ad.unsel (p:=λk=>!xs.contains k) R.hr G
  rw[show F (r::f)+m=(F f+m)+1 by simp;omega];rcases FO with⟨hw,v,g1,g2⟩|⟨hw,g2⟩
  ·refine ar (Zi:=λb=>N b∨Zp xs ρ w b) l.fn n s t V x k1 (λ_ _ _ h=>h) hT (.inl ⟨hw,λW hu=>g1 W<|OQ W hu⟩) ?_;exact ji l n s t f (Ya x Oc) (back g2) y k3 Y CO λl' a' q1 q2 q3 q4 q5=>Q l' a' q1 q2 q3 q4<|q5.trans<|Ci v
  ·refine ar (Zi:=λb=>N b∨Zp xs ρ w b) l.fn n s (v:=undef) t V x k1 (λ_ _ _ h=>h) hT (.inr ⟨hw,rfl⟩) ?_;exact ji l n s t f (Ya x Oc) (back g2) y k3 Y CO λl' a' q1 q2 q3 q4 q5=>Q l' a' q1 q2 q3 q4<|q5.trans<|Ci undef
def hidB(xs:Θ)(K:E)(h:DH):ζ:=(θ K).all λk=>xs.contains k||(match h.getD k A with
 |some (.ro _)=>D
 |none=>D
 |_=>T)
theorem Tr.drawC{z n:Θ}{Y:μ}{I:M Tmp}{co Mz:O (E×DV)}{s:St}{Cc:O Prop}{ds:E->O DV}{h:E->DH}{ys:O (O DV)}{x:M DV}{h':E->DH}(hF:DQ η P)(hm:P.follows .mixedOrders=D)
 (hB:(CY ops&&Region.noSelect ops&&(F z+1+F n==ops.size)&&(n.all λt=>decide (t<ops.size))&&RB ops p n z (Array.replicate ops.size T)&&pO xs S.h&&hidB xs (F<|h Ϙ.l) S.h)=D) (hC:Ϙ.nv)
 (hs:Vd P ops xs z S co=Z (s,Cc,Mz)) (CJ:BU Cc) (r:Li P Γ ops [] p s Ar=Z (g,ds Ϙ.l,I,s,vs,FJ)) (ϗ:YC P Γ Y g ds h ys x h') (hS:S.h=h Ϙ.l++ϑ) (hl:F (h' Ϙ.l)=F (h Ϙ.l)) (hc:(h Ϙ.l).all (O6<|F<|h Ϙ.l)=D) (hd:(ds Ϙ.l).all (Ce<|F<|h Ϙ.l)=D) (hi:∃rest,Ϙ.encs.drop i=ys++rest)
 (J:match x with
  |some Ϛ=>Do P Γ (Ϙ.K Γ ϙ (i+F ys) ρ0) ops n ⟨Ct s.fr I Ϛ,h' Ϙ.l++ϑ⟩ Q
  |none=>Q (.panic<|pan Y) ⟨Rg s.fr,h' Ϙ.l++ϑ⟩<|Ϙ.K Γ ϙ (i+F ys) ρ0):Tr P Γ η A ϙ (Ϙ.K Γ ϙ i ρ0) (.region id ops D) S Q:=λN ρ a w R y m _=>by
 simp only[zAx,zKq]at hB;obtain⟨⟨⟨⟨⟨⟨b1,b2⟩,b3⟩,b4⟩,b5⟩,b6⟩,b7⟩:=hB;have hE:A0 w w.drew:=A0.toDrew w;have Rd:=R.ext hE;have yd:=(Ϙ.K Γ ϙ i ρ0).st y R.hr Rd.hr (BD.ext hE) λ_ _ _ h=>h
 refine zNQ (iP (Q:=PO Q) (m:=F z+1) hm b3<|ji (Q':=PO Q) hF b1 b2 (λc a Ϛ v w h=>PO.put c a Ϛ v w h) z oP Rd b6 b5 hs CJ λAj W BF d7 X eh Qq=>?_) λ_ _ _=>PO.le
 simp only[RB,zAx,zKq]at d7;obtain⟨⟨c1,c2⟩,c3⟩:=d7;refine⟨λh0=>(by rw[c1]at h0;cases h0),λq hq=>?_⟩;rw[c1,zMv]at hq;subst hq;unfold Li at r;split at r
 ·cases r
 rename_i S2 EP G5 h1;simp only[CV,D1,zK0,zLE]at h1;obtain⟨rfl,_,_⟩:=h1;split at r
 ·cases r
 rename_i o ho;split at r
 ·rename_i hw;split at r
  ·rename_i c Qk;split at r
   ·rename_i f XW;split at r
    ·rename_i g' m' cap hf;simp only[zK0,zLE]at r;obtain⟨rfl,e2,rfl,_,_,_⟩:=r;rw[←eh]at yd hS;obtain⟨⟨G,R0,j1,y1⟩,JF⟩:=yd;obtain⟨args,Mb,XU⟩:=oY X o Qk XW hf ϗ.1;rw[e2]at XU;have AX:W.defers= []:=Qq.trans m;have Ci:∀v,(W.put o.dst v).defers=W.defers:=λv=>by cases ho:o.dst <;> simp[Act.put]
     unfold wpOpIn;simp only[ho];rw[zAF<|Iy X hw];refine⟨λf _=>hF.fn f,?_⟩;rw[zND _ _ _<|JD b1 ho,Mb];refine⟨λhx=>(by cases hx),(YC.call ϗ hC hi hS X.hr hl hc hd XU j1 y1).mono ?_⟩;rintro e w2 ⟨N2,ρ2,G2,R2,Yv,j2,y2,wR,Md,hO,hU⟩;have Q2:=X.fr.out hO;have Te:CA ϙ ρ0 ρ2:=λk p J hp=>hO.pl k p<|JF k p J hp
     cases x with
     |none=>
      have he:e=.panicked (pan Y):=Md;subst he;exact⟨_,_,ρ2,N2,_,J,Q2.1,Yv,⟨⟨G2,R2,j2,y2⟩,Te⟩,AX⟩
     |some Ϛ=>
      obtain⟨v,rfl,Qr⟩:=Md;refine⟨⟨λhp=>?_,λ_=>hU.mono λb _ hb=>?_⟩,λj hj ht=>?_,ik n _ _ _ c2<|il n _ _ (λt ht=>Z4)<|J N2 ρ2 _ w2 (Hw (S:=⟨s.fr,h' Ϙ.l++ϑ⟩) ⟨Yv,Q2⟩ o.dst Qr) ⟨⟨G2,R2,j2,y2⟩,Te⟩<|(Ci v).trans AX⟩
      ·grind[TK,TI]
      ·rcases hb with hb|⟨k,ob,q,q1,V,q3⟩|hb
       ·exact .inl hb
       ·rw[zRG]at V;split at V
        ·rename_i FP;have Xb:s.h[k]?=Z (Z ob):=Z4
         have hx:=zFy.1 b7 k<|zJ9.2 FP;rw[←eh,zBD,Xb]at hx;simp only[zKu]at hx;rcases hx with hx|hx
         ·grind[Zp]
         ·obtain⟨q',Qh,Cg⟩:=X.hr.obj k _ Xb;have eq:q'=q:=zBH<|Qh.symm.trans V;subst eq;cases ob <;> simp at hx;rw[Cg.1]at q3;exact q3.elim
        ·cases V
       ·exact .inr<|.inr hb
      grind
    ·cases r
   ·cases r
  ·cases r
 ·cases r
end
end
end Go.Proofs.YtnkpdcmbppkkpaaGreatDoor
