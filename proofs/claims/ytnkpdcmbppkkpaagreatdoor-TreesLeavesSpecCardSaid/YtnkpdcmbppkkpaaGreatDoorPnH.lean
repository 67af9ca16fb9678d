/- Part 8 of 8 of what the proofs of these laws stand on. -/
import Derived.Test.YtnkpdcmbppkkpaaGreatDoorPnG
import Derived.Test.YtnkpdcmbppkkpaaGreatDoorRows
import Derived.ProofKit
import Derived.OpenShut
import Derived.Deep.DeepHandedRow
import Derived.Lib.LaidTab
import Derived.Deep.Slices
import Derived.Stop.LaidErr
import Derived.Test.YtnkpdcmbppkkpaaGreatDoorCards
import Derived.Test.YtnkpdcmbppkkpaaGreatDoorTie
set_option linter.all false
open And renaming intro->γ
open Bool renaming true->D,false->T
open Decidable renaming decide->C
open Eq renaming refl->φ
open Go renaming World->κ,Value->μ,Program->ν,TypeId->ψ
open Go.Fence renaming wide->η
open Go.Proofs.Tryz renaming prog->L
open Inhabited renaming default->ξ
open List renaming length->F,getD->H,replicate->d,range->θ
open Nat.le renaming refl->χ
open Option renaming none->A,some->Z
open _root_ renaming cond->B,Nat->E,Option->M,List->O,Int->U,ite->u,Bool->ζ,absurd->τ,Array->υ
namespace Go.Proofs.YtnkpdcmbppkkpaaGreatDoor
open Go.RowKit
abbrev zR8:=@List.length_filter_le
section
open Classical
def CL(inn:Ω)(k:E):Ξ:=((θ k).filter λi=>H inn i T).map λi:E=>(i:U)
def U1(inn:Ω)(k:E):S6:=u (CL inn k= []) (.l1 (k:U))<|.l2 (F<|CL inn k) (k:U)<|CL inn k
def nu{p:E->ζ}:∀(n:E),(∃i,i<n/\p i=D)->∃m,m<n/\p m=D/\(∀v,v<m->p v=T)/\∃t,(θ n).filter p=m::t
 |0,⟨i,hi,_⟩=>τ hi<|zBT i
 |n+1,⟨i,hi,w⟩=>by
  rw[zRM,zRo]
  by_cases h:∃i,i<n/\p i=D
  ·obtain⟨m,h1,c,b,t,W⟩:=nu n h;exact⟨m,Z2,c,b,t++[n].filter p,by rw[W];rfl⟩
  ·have all:∀v,v<n->p v=T:=λv a=>by
    cases f:p v with
    |false=>rfl
    |true=>exact τ ⟨v,a,f⟩ h
   have e:i=n:=by
    rcases zIY.1 hi with hi|hi
    ·rw[all i hi]at w;cases w
    ·exact hi
   subst e;refine⟨i,Nat.lt_succ_self i,w,all,[],?_⟩;rw[zRI.2 λv a=>by rw[all v<|zJ9.1 a];decide];simp[w]
section
variable{q:AA}{c:AD}{AE:Ξ}{g:O Ξ}{inn:Ω}{s:U}
variable{k:E}
def zJI :CL inn (k+1)=CL inn k++u (H inn k T=D) [(k:U)] []:=by
 unfold CL;rw[zRM,zRo,zSK]
 congr 1
 rw[zRe];cases H inn k T <;> rfl
def v6 :F (CL inn k)<=k:=by
 unfold CL;rw[zKB];exact zIX (zR8 _ _) Z3
def ct{v:U}:v∈CL inn k↔0<=v/\v<(k:U)/\H inn v.toNat T=D:=by
 unfold CL;rw[zMf];constructor
 ·rintro⟨i,hi,rfl⟩;obtain⟨a,c⟩:=zM0.1 hi;have:=zJ9.1 a;exact⟨Z2,Z2,by rw[u8];exact c⟩
 ·rintro⟨a,c,m⟩;exact⟨v.toNat,zM0.2 ⟨zJ9.2 Z2,m⟩,Z2⟩
def zJJ(hI:F inn<=256){n:E}(hk:k<F inn):Fd inn (n+1) (U1 inn k)=Fd inn n (U1 inn<|k+1):=by
 have ϙ:Aw=1000000000000:=rfl;have r:AG<|(k:U)+1:=AZ.2 ⟨Z2,Z2⟩;have hl:=v6 (inn:=inn) (k:=k);unfold U1;rw[zJI,show((k+1:E):U)=(k:U)+1 by omega]
 by_cases h0:CL inn k= []
 ·rw[zAF h0,h0]
  show Kv n (Fd inn n) inn (k:U)=_
  unfold Kv;rw[zAB Z2,zAG,zAF ⟨Z2,Z2⟩,u8];cases b:H inn k T with
  |false=>rw[zAD,zAF r];simp
  |true=>rw[zAG,zAF ⟨⟨⟨rfl,rfl⟩,Z3,Z7⟩,r⟩];simp
 ·rw[zJz h0]
  show Ku n (Fd inn n) inn (F<|CL inn k) (k:U) (CL inn k)=_
  unfold Ku;rw[zAB Z2,zAG,zAF ⟨Z2,Z2⟩,u8];cases b:H inn k T with
  |false=>rw[zAD,zAF r];simp[h0]
  |true=>rw[zAG,zAF ⟨⟨⟨rfl,rfl⟩,⟨rfl,rfl⟩,Z7⟩,r⟩];simp[h0]
def t8(m:F inn<=256):Ev (λn=>Kw n inn)<|CL inn<|F inn:=by
 have key:∀(k i:E),i+k=F inn->Ev (λn=>Fd inn n<|U1 inn i) (CL inn<|F inn):=by
  intro k
  induction k with
  |zero=>
   intro i e;have e:i=F inn:=Z2
   subst e;refine Ev.one λn=>?_
   unfold U1
   by_cases h0:CL inn (F inn)= []
   ·rw[zAF h0,h0]
    show Kv n (Fd inn n) inn (F inn:U)=_
    unfold Kv;rw[zAE Z2,zAD]
   ·rw[zJz h0]
    show Ku n (Fd inn n) inn (F<|CL inn<|F inn) (F inn:U) (CL inn<|F inn)=_
    unfold Ku;rw[zAE Z2,zAD,zAF rfl]
  |succ k a=>exact λi e=>AR.ev (AR.one λn=>zJJ m Z2)<|a (i+1) Z2
 exact(key (F inn) 0 Z2).eq λn=>rfl
def tM(G:Gr g)(m:F inn=F g)(h0:0<=s)(a:s<(F g:U)):∃o,Ln g inn s o/\Ev (λn=>Gv n g inn s) o:=(bD G m h0 a).ev λ_ _ h h'=>Ln.uniq h h'
def Ld(g:O Ξ)(inn:Ω)(i:E):Prop:=H inn i T=D/\∀v,v<i->¬Rc g inn (i:U) (v:U)
noncomputable def LE (g:O Ξ)(inn:Ω)(k:E):E:=F<|(θ k).filter λi=>decide (Ld g inn i)
def k7 :LE g inn (k+1)=LE g inn k+u (Ld g inn k) 1 0:=by
 unfold LE;rw[zRM,zRo,zKp]
 by_cases h:Ld g inn k <;> simp[h]
def U3(i:E)(o:O Ξ):UY:=u (o= []) (.l1 (i:U))<|.l2 (F o) (i:U) o
def gE(G:Gr g)(x:F inn=F g):∀(k i:E) (o:O Ξ),i+k=F g->F o=LE g inn i->F o<=i->∃r,Ev (λn=>HE g inn n<|U3 i o) r/\r.2=0/\F r.1=LE g inn (F g)
 |0,i,o,e,K,_=>by
  have e:i=F g:=Z2
  subst e;refine⟨(o,0),Ev.one λn=>?_,rfl,K⟩;unfold U3
  by_cases h0:o= []
  ·rw[zAF h0,h0]
   show Mx n (HE g inn n) g inn (F g:U)=_
   unfold Mx;rw[zAE Z2,zAD]
  ·rw[zJz h0]
   show Mw n (HE g inn n) g inn (F o) (F g:U) o=_
   unfold Mw;rw[zAE Z2,zAD,zAF rfl]
 |k+1,i,o,e,K,hoi=>by
  have R:=G.len;have ϙ:Aw=1000000000000:=rfl;have hi:i<F g:=Z2
  have a:AG<|(i:U)+1:=AZ.2 ⟨Z2,Z2⟩;have y:((i+1:E):U)=(i:U)+1:=Z2
  cases b:H inn i T with
  |false=>
   have c:¬Ld g inn i:=λh=>by rw[h.1]at b;cases b
   obtain⟨r,q,w⟩:=gE G x k (i+1) o Z2 (by rw[k7,zJz c];exact K) Z2;refine⟨r,AR.ev (m:=HE g inn) (AR.one λn=>?_) q,w⟩;unfold U3;rw[y]
   by_cases h0:o= []
   ·rw[zAF h0,zAF h0]
    show Mx n (HE g inn n) g inn (i:U)=_
    unfold Mx;rw[zAB Z2,zAG,zAF ⟨Z2,Z2⟩,u8,b,zMj,zAG,zAF a]
   ·rw[zJz h0,zJz h0]
    show Mw n (HE g inn n) g inn (F o) (i:U) o=_
    unfold Mw;rw[zAB Z2,zAG,zAF ⟨Z2,Z2⟩,u8,b,zMj,zAG,zAF a]
  |true=>
   obtain⟨m,P,N,j⟩:=tM (s:=(i:U)) G x Z2 Z2;obtain⟨ϕ,l⟩:=t8 (inn:=m) (by rw[P.1];exact R);have z:H m i T=D:=(P.2 i hi).2 .start;obtain⟨f,f1,V,J,t,S⟩:=nu (p:=λi=>H m i T) (F m) ⟨i,by rw[P.1];exact hi,z⟩;have W:CL m (F m)=(f:U)::t.map λi:E=>(i:U):=by unfold CL;rw[S];rfl
   have j:∀n,N<=n->Gv n g inn (i:U)=Z m:=j;have l:∀n,ϕ<=n->Kw n m=Z ((f:U)::t.map λi:E=>(i:U)):=λn I=>by rw[←W];exact l n I
   have eA:f<=i:=zRb λh=>by
    rw[J i h]at z;cases z
   by_cases c:Ld g inn i
   ·have X:f=i:=by
     refine Classical.byContradiction λQ=>c.2 f Z2<|(P.2 f Z2).1 V
    obtain⟨r,q,w⟩:=gE G x k (i+1) (o++[(f:U)::t.map λi:E=>(i:U)]) Z2 (by rw[k7,zAF c,zKp];simp;omega) (by rw[zKp];simp;omega);refine⟨r,AR.ev (m:=HE g inn) (AR.oneN (max N ϕ) λn I=>?_) q,w⟩;unfold U3;rw[y,zJz<|show¬(o++[(f:U)::t.map λi:E=>(i:U)]= []) by simp]
    by_cases h0:o= []
    ·rw[zAF h0,h0]
     show Mx n (HE g inn n) g inn (i:U)=_
     unfold Mx;rw[zAB Z2,zAG,zAF ⟨Z2,Z2⟩,u8,b,zLW,zAD,j n Z2,zAC,l n Z2,zAC,zAF ⟨zKw _,Z3⟩,show(H ((f:U)::t.map λi:E=>(i:U)) 0 0==(i:U))=D by simp[X],zAG,zAF a];rfl
    ·rw[zJz h0]
     show Mw n (HE g inn n) g inn (F o) (i:U) o=_
     unfold Mw;rw[zAB Z2,zAG,zAF ⟨Z2,Z2⟩,u8,b,zLW,zAD,j n Z2,zAC,l n Z2,zAC,zAF ⟨zKw _,Z3⟩,show(H ((f:U)::t.map λi:E=>(i:U)) 0 0==(i:U))=D by simp[X],zAG,zAF ⟨rfl,Z7,a⟩,zKp]
   ·have X:f≠i:=λh=>c ⟨b,λv hv hR=>by
     have:=(P.2 v Z2).2 hR;rw[J v Z2]at this;cases this⟩
    obtain⟨r,q,w⟩:=gE G x k (i+1) o Z2 (by rw[k7,zJz c];exact K) Z2;refine⟨r,AR.ev (m:=HE g inn) (AR.oneN (max N ϕ) λn I=>?_) q,w⟩;unfold U3;rw[y]
    have Q:(H ((f:U)::t.map λi:E=>(i:U)) 0 0==(i:U))=T:=by
     show((f:U)==(i:U))=T
     exact zBE.2 Z2
    by_cases h0:o= []
    ·rw[zAF h0,zAF h0]
     show Mx n (HE g inn n) g inn (i:U)=_
     unfold Mx;rw[zAB Z2,zAG,zAF ⟨Z2,Z2⟩,u8,b,zLW,zAD,j n Z2,zAC,l n Z2,zAC,zAF ⟨zKw _,Z3⟩,Q,zAD,zAF a]
    ·rw[zJz h0,zJz h0]
     show Mw n (HE g inn n) g inn (F o) (i:U) o=_
     unfold Mw;rw[zAB Z2,zAG,zAF ⟨Z2,Z2⟩,u8,b,zLW,zAD,j n Z2,zAC,l n Z2,zAC,zAF ⟨zKw _,Z3⟩,Q,zAD,zAF a]
def zo(G:Fw g)(m:F inn=F g):∃r,Ev (λn=>gF n g inn) r/\r.2=0/\F r.1=LE g inn (F g):=by
 obtain⟨r,a,c⟩:=gE G.gr m (F g) 0 [] Z2 rfl (zI1 _);refine⟨r,Ev.bind (av G) ?_,c⟩;refine a.eq λn=>?_
 show(B ((0:U) != 0) _<|B ((F inn:U) != (F g:U)) _ _)=_
 rw[m,show((F g:U) != (F g:U))=T by simp];rfl
def lS(G:Gr g){ϛ:E}(x:ϛ<F g)(b:H inn ϛ T=D):∃a,a<F g/\Ld g inn a/\Rc g inn (ϛ:U) (a:U):=by
 obtain⟨a,c,e,m,_⟩:=nu (p:=λv=>decide (Rc g inn (ϛ:U) (v:U))) (F g) ⟨ϛ,x,zAB .start⟩;have hR:Rc g inn (ϛ:U) (a:U):=zM3 e;refine⟨a,c,⟨?_,λv t h=>?_⟩,hR⟩
 ·have:=hR.isIn (by rw[u8];exact b)
  rwa[u8]at this
 ·exact of_decide_eq_false (m v t)<|hR.trans h
def zIv(G:Gr g):LE g inn (F g)=0↔∀v,v<F g->H inn v T=T:=by
 unfold LE;rw[List.length_eq_zero_iff,zRI];constructor
 ·intro h v t;cases b:H inn v T with
  |false=>rfl
  |true=>
   obtain⟨a,c,e,_⟩:=lS G t b;exact τ (zAB e)<|h a<|zJ9.2 c
 ·intro h i hi z;have:=(zM3 z).1;rw[h i<|zJ9.1 hi]at this;cases this
def zJd{l:Θ}(n:l.Nodup):F l<=1↔∀a∈l,∀b∈l,a=b:=by
 match l,n with
 |[],_=>simp
 |[x],_=>simp
 |x::y::l,n=>
  refine zM5 Z3 λh=>?_
  have:=h x Z3 y Z3;subst this;simp at n
def zIw(G:Gr g):LE g inn (F g)<=1↔IP g inn:=by
 unfold LE;rw[zJd<|List.Nodup.sublist zSL zR9];constructor
 ·intro h ϛ v c t f R;obtain⟨a,y,N,a3⟩:=lS G c f;obtain⟨b,j,x,Q⟩:=lS G t R;have e:=h a (zM0.2 ⟨zJ9.2 y,zAB N⟩) b<|zM0.2 ⟨zJ9.2 j,zAB x⟩;subst e;exact a3.trans (Q.symm G Z2 Z2<|by rw[u8];exact R)
 ·intro w a i b k;obtain⟨y,N⟩:=zM0.1 i;obtain⟨j,x⟩:=zM0.1 k;have y:=zJ9.1 y;have j:=zJ9.1 j;have N:=zM3 N;have x:=zM3 x;rcases Nat.lt_trichotomy a b with h|h|h
  ·exact τ (w b a j y x.1 N.1)<|x.2 a h
  ·exact h
  ·exact τ (w a b y j N.1 x.1)<|N.2 b h
end
end
section
open Classical
section
variable{q:AA}{c:AD}{AE:Ξ}{g:O Ξ}{inn met:Ω}{s:U}{l:Ξ}
def tE(G:Gr g)(m:F inn=F g){i:E}(hi:i<F l)(h0:0<=H l i 0)(b:H l i 0<(F g:U)):∀(k j:E),j+k=F (nb g<|H l i 0)->AR (HO g inn) (.l2 l met (i:U) ((((nb g<|H l i 0).take j).countP λx=>H inn x.toNat T:E):U) (j:U)) (.l2 l met (i:U) ((Bn g inn<|H l i 0:E):U) (F<|nb g<|H l i 0:U))
 |0,j,e=>by
  have e:j=F (nb g<|H l i 0):=Z2
  subst e;rw[zSC];exact AR.refl
 |k+1,j,e=>by
  have a:j<F (nb g<|H l i 0):=Z2
  have t:=G.rng _ h0 b _<|LX a;have hw:=G.row _ h0 b;have hc:((nb g<|H l i 0).take j).countP (λx=>H inn x.toNat T)<=j:=zIX zR6 Z7;have R:H g (H l i 0).toNat []=nb g (H l i 0):=rfl
  have W:∀w:Ξ,j<F w->w.take (j+1)=w.take j++[H w j 0]:=λw a=>by
   rw[zBD,zKA a];exact(List.take_append_getElem a).symm
  refine(AR.one λn=>?_).trans<|tE G m hi h0 b k (j+1) Z2
  show Vs n (HO g inn n) g inn l met (i:U) _ (j:U)=_
  unfold Vs;simp only[u8,R];rw[zAF ⟨⟨Z2,Z2⟩,h0,b⟩,zAB Z2,zAG,zAF ⟨⟨Z2,Z2⟩,t.1,Z2⟩,W _ a,zRr,zR7,show((j+1:E):U)=(j:U)+1 by omega];cases H inn (H (nb g<|H l i 0) j 0).toNat T with
  |false=>rw[zAD,zAF<|AZ.2 ⟨Z2,Z2⟩];simp
  |true=>rw[zAG,zAF ⟨AZ.2 ⟨Z2,Z2⟩,AZ.2 ⟨Z2,Z2⟩⟩];simp
def tG(G:Gr g)(m:F inn=F g)(P:F met=F g)(q:∀v∈l,0<=v/\v<(F g:U))(f:F l<=256):∀(k i:E),i+k=F l->∃r,Ev (λn=>HO g inn n<|.l1 l met (i:U)) (r,0)/\(r=D↔∀a,i<=a->a<F l->Bn g inn (H l a 0)=2/\H met (H l a 0).toNat T=D)
 |0,i,e=>by
  refine⟨D,Ev.one λn=>?_,zNm rfl λa b c=>τ c Z2⟩
  show Vt n (HO g inn n) g inn l met (i:U)=_
  unfold Vt;rw[zAE Z2,zAD]
 |k+1,i,e=>by
  have hi:i<F l:=Z2
  obtain⟨h0,b⟩:=q _<|LX hi;have hw:=G.row _ h0 b;have R:H g (H l i 0).toNat []=nb g (H l i 0):=rfl
  have ο:AR (HO g inn) (.l1 l met (i:U))<|.l2 l met (i:U) ((Bn g inn<|H l i 0:E):U) (F<|nb g<|H l i 0:U):=by
   refine(AR.one λn=>?_).trans<|tE G m hi h0 b _ 0<|zKx _
   show Vt n (HO g inn n) g inn l met (i:U)=_
   unfold Vt;rw[zAB Z2,zAG];rfl
  have step:∀n,HO g inn (n+1) (.l2 l met (i:U) ((Bn g inn<|H l i 0:E):U) (F<|nb g<|H l i 0:U))=u (Bn g inn (H l i 0)=2/\H met (H l i 0).toNat T=D) (HO g inn n<|.l1 l met ((i+1:E):U)) (Z (T,0)):=λn=>by
   show Vs n (HO g inn n) g inn l met (i:U) _ _=_
   unfold Vs;simp only[u8,R];rw[zAF ⟨⟨Z2,Z2⟩,h0,b⟩,zAE Z2,zAD,zAF ⟨h0,Z2⟩,zAF<|AZ.2 ⟨Z2,Z2⟩,show((i+1:E):U)=(i:U)+1 by omega]
   by_cases z:Bn g inn (H l i 0)=2
   ·rw[z,show(((2:E):U) != 2)=T from rfl,zAD];cases H met (H l i 0).toNat T with
    |true=>simp
    |false=>simp
   ·rw[show(((Bn g inn<|H l i 0:E):U) != 2)=D from zM8.2 Z2,zAG,zJz λh=>z h.1]
  by_cases s:Bn g inn (H l i 0)=2/\H met (H l i 0).toNat T=D
  ·obtain⟨r,j,o⟩:=tG G m P q f k (i+1) Z2;refine⟨r,AR.ev (ο.trans<|AR.one λn=>by rw[step n,zAF s]) j,o.trans ⟨λh a b c=>?_,λh a b c=>h a Z2 c⟩⟩
   by_cases p:a=i
   ·rw[p];exact s
   ·exact h a Z2 c
  ·refine⟨T,AR.ev ο (Ev.one λn=>by rw[step n,zJz s]),zM5 Z6 λh=>s<|h i (zI1 _) hi⟩
def zJK:F (CL inn<|F inn)=(θ<|F inn).countP λx=>H inn x T:=by
 unfold CL;rw[zKB,zMk]
def zFv(G:Fw g)(i:F inn=F g):∃r,Ev (λn=>ae n g inn) (r,0)/\(r=D↔(∀v,v<F g->H inn v T=D->Bn g inn v=2)/\(∃v,v<F g/\H inn v T=D)/\IP g inn):=by
 have Ap:=G.gr.len;obtain⟨ϕ,j⟩:=t8 (inn:=inn) Z2;have j:∀n,ϕ<=n->Kw n inn=Z (CL inn<|F inn):=j
 have s:∀v∈CL inn (F inn),0<=v/\v<(F g:U):=λv t=>by
  have:=ct.1 t;omega
 have xS:=v6 (inn:=inn) (k:=F inn)
 have start:∀{f:E->X4} {r:ζ×U},Ev f r->(∀n,ϕ<=n->(B (C<|(F<|CL inn<|F inn:U)<3) (Z (T,0))<|u ((0:U)<=0/\0<(F<|CL inn<|F inn:U)) ((Gv n g inn<|H (CL inn<|F inn) 0 0).bind λy3=>HO g inn n<|.l1 (CL inn<|F inn) y3 0) A)=f n)->Ev (λn=>ae n g inn) r:=λ{f r} q Q=>by
  obtain⟨N,q⟩:=q;refine Ev.bind (av G) ⟨max ϕ N,λn hn=>?_⟩
  show(B ((0:U) != 0) _<|B ((F inn:U) != (F g:U)) (Z (T,1))<|(Kw n inn).bind λy2=>_)=_
  rw[i,show((F g:U) != (F g:U))=T by simp,zAD,j n Z2,zAC];exact(Q n Z2).trans (q n Z2)
 by_cases w:(F<|CL inn<|F inn:U)<3
 ·refine⟨T,start (f:=λ_=>Z (T,0)) (Ev.now λn=>rfl) λn _=>by rw[zAB w,zAG],zM5 Z6 λ⟨l,⟨v,V,W⟩,_⟩=>?_⟩;have:=p7 G V W<|l v V W;rw[←i,←zJK]at this;omega
 ·have x:0<F (CL inn<|F inn):=Z2
  obtain⟨z,I⟩:=s _<|LX x;have o:=(ct.1<|LX x).2.2;obtain⟨m,P,S⟩:=tM G.gr i z I;obtain⟨r,X,Y⟩:=tG (met:=m) G.gr i P.1 s Z2 (F<|CL inn<|F inn) 0 Z2;refine⟨r,start (f:=λn=>(Gv n g inn<|H (CL inn<|F inn) 0 0).bind λy3=>HO g inn n<|.l1 (CL inn<|F inn) y3 0) (Ev.bind S X) λn _=>by rw[zAE w,zAD,zAF ⟨zKw _,Z2⟩],Y.trans ?_⟩
  have at_:∀v,v<F g->H inn v T=D->∃a,a<F (CL inn<|F inn)/\H (CL inn<|F inn) a 0=(v:U):=λv t R=>by
   obtain⟨a,c,e⟩:=zLD (ct.2 ⟨Z2,Z2,by rw[u8];exact R⟩:(v:U)∈CL inn (F inn));exact⟨a,c,by rw[zBD,zKA c];exact e⟩
  constructor
  ·intro h;refine⟨λv t R=>?_,⟨(H (CL inn<|F inn) 0 0).toNat,Z2,o⟩,λϛ v J t mu R=>?_⟩
   ·obtain⟨a,y,p⟩:=at_ v t R;have:=(h a (zK5 _) y).1
    rwa[p]at this
   ·obtain⟨a,y,p⟩:=at_ ϛ J mu;obtain⟨b,c1,c2⟩:=at_ v t R;have c:=(h a (zK5 _) y).2;have K:=(h b (zK5 _) c1).2;rw[p,u8]at c;rw[c2,u8]at K;exact((P.2 ϛ J).1 c|>.symm G.gr z I o).trans<|(P.2 v t).1 K
  ·rintro⟨l,_,h2⟩ a _ c;obtain⟨v0,V,W⟩:=ct.1<|LX c;have e:H (CL inn<|F inn) a 0=((H (CL inn<|F inn) a 0).toNat:U):=Z2
   refine⟨by rw[e];exact l _ Z2 W,(P.2 _ Z2).2 ?_⟩;have:=h2 _ (H (CL inn<|F inn) a 0).toNat (show(H (CL inn<|F inn) 0 0).toNat<F g by omega) Z2 o W
   rwa[show(((H (CL inn<|F inn) 0 0).toNat:E):U)=H (CL inn<|F inn) 0 0 by omega]at this
end
end
section
variable{q:AA}{c:AD}{g:Ξ}{i:U}{inn:Ω}
def zPq(G:Fw q.nb)(m:F inn=F q.nb):∃b,Ev (λn=>YX n q.nb inn) b/\(b=D↔IP q.nb inn):=by
 obtain⟨r,a,c,e⟩:=zo G m;refine⟨C<|(F r.1:U)<=1,Ev.bind a (Ev.now λn=>by rw[c];rfl),?_⟩;rw[zKv,e,←zIw G.gr];omega
def zJU(G:Fw q.nb)(m:F inn=F q.nb):∃b,Ev (λn=>Wl n q.nb inn) b/\(b=D↔IP q.nb inn/\∀v,v<F q.nb->H inn v T=D->Bn q.nb inn v=2):=by
 obtain⟨r,a,c,f⟩:=zo G m;obtain⟨b,g,i⟩:=zFv G m;have z:=zIv (inn:=inn) G.gr;rw[←f]at z;refine⟨u (F r.1=0) D b,Ev.bind a<|Ev.bind g<|Ev.now λn=>?_,?_⟩
 ·rw[c]
  show(B ((F r.1:U)==0) (Z D)<|Z b)=_
  by_cases h0:F r.1=0
  ·rw[zAF h0,h0];rfl
  ·rw[zJz h0,zBE.2 Z2,zAD]
 ·by_cases h0:F r.1=0
  ·rw[zAF h0];have h:=z.1 h0;exact zNm rfl ⟨λϛ v x _ e _=>(by rw[h ϛ x]at e;cases e),λv t R=>by rw[h v t]at R;cases R⟩
  ·rw[zJz h0,i];constructor
   ·rintro⟨a,_,c⟩;exact⟨c,a⟩
   ·rintro⟨a,c⟩;refine⟨c,Classical.byContradiction λj=>h0<|z.2 λv t=>?_,a⟩;cases k:H inn v T with
    |false=>rfl
    |true=>exact τ ⟨v,t,k⟩ j
def vu(S:Sv q c g)(W:Ee c q<|FH g):Ev (λn=>QP n g c.ce c.set)<|Co c g:=by
 have ϙ:(1000000000000:E)=Aw:=rfl;have a:=W.len;have x:=W.l1;rw[Jh]at a x
 have key:∀(k j:E) (o:Ω),j+k=F g->F o=F g->(∀v,v<j->H o v T=H (Co c g) v T)->Ev (λn=>Ta g c.ce c.set n<|.l1 (j:U) o) (Co c g):=by
  intro k
  induction k with
  |zero=>
   intro j o e K P
   have:o=Co c g:=by
    refine zOj (by rw[K,Wc]) λv b f=>?_
    have:=P v Z2;simpa[zBD,b,f]using this
   subst this;refine Ev.one λn=>?_
   show Wh n (Ta g c.ce c.set n) g c.ce c.set (j:U) (Co c g)=_
   unfold Wh;rw[zAE Z2,zAD,zAF K.symm]
  |succ k i=>
   intro j o e K P;have l:j<F g:=Z2
   have hid:=W.id j (by rw[Jh];exact l);have He:=S.G.lt S.v l;have OZ:=S.G.sym j l;have y:H g j 0=(((H g j 0).toNat:E):U):=Z2
   refine AR.ev (AR.one λn=>?_)<|i (j+1) (o.set j<|tb c.set (H g j 0).toNat) Z2 (by rw[zKy];exact K) λv t=>?_
   ·show Wh n (Ta g c.ce c.set n) g c.ce c.set (j:U) o=_
    unfold Wh;rw[zAB Z2,zAG,u8,hid,zAF ⟨⟨Z2,Z2⟩,Z2,Z2⟩,u8,y,I8 Z2,zAC,zAF ⟨Z2,AZ.2 ⟨Z2,Z2⟩⟩,zKx,u8,show((j+1:E):U)=(j:U)+1 by omega]
   ·by_cases R:v=j
    ·subst R;rw[zBD,zRy Z2,zOZ,vn l]
    ·rw[zBD,zRX λh=>R h.symm,←zBD];exact P v Z2
 have:=key (F g) 0 (d (F g) T) Z2 zK7 λv t=>τ t<|zBT v
 refine Ev.eq this λn=>?_
 unfold QP vt;rw[zAF ⟨rfl,Z2,Z2⟩];rfl
def zI4(Ϙ:Br q i<|FH g)(G:Gd q g):∃b,Ev (λn=>Gf n q (con q i) g) b/\(b=D↔Dq q (con q i) g):=by
 have S:=Ϙ.sv G;have z:DG (FH g)=T:=JW.2 S.nz;have W:=Ϙ.work;have V:=Ϙ.vals;have o:=W.len
 have ϒ:∀{k:U} {f:E->X9} {b:ζ} {ϕ:Prop},(con q i).kind=k->(∀n,Gf n q (con q i) g=f n)->Ev f b->(b=D↔ϕ)->(Dq q (con q i) g↔ϕ)->∃b,Ev (λn=>Gf n q (con q i) g) b/\(b=D↔Dq q (con q i) g):=
  λ_ t v w x=>⟨_,v.eq t,w.trans x.symm⟩
 have y:=OP<|QS Ϙ.kind
 generalize hc:con q i=c at*
 rcases y with hk|hk|hk|hk|hk|hk|hk|hk|hk
 ·obtain⟨r,l,j⟩:=zO9 S o;exact ϒ (f:=λn=>(ff n g c.ce).bind Z) hk (λn=>by unfold Gf LF;rw[hk];rfl) (Ev.bind l<|Ev.now λn=>rfl) j (by unfold Dq;rw[hk];simp)
 ·refine ϒ (f:=λn=>(fw n g c.ce c.set).bind λe=>B (C<|c.lo<=e) (Z<|C<|e<=c.hi)<|Z T) (ϕ:=c.lo<=cnt (λa=>tb c.set<|Ae c g a) (F c.ce)/\cnt (λa=>tb c.set<|Ae c g a) (F c.ce)<=c.hi) (b:=C (c.lo<=cnt (λa=>tb c.set<|Ae c g a) (F c.ce))&&C (cnt (λa=>tb c.set<|Ae c g a) (F c.ce)<=c.hi)) hk (λn=>by unfold Gf LF;rw[hk];rfl) (Ev.bind (zPc S o)<|Ev.now λn=>?_) Z3 (by unfold Dq;rw[hk];simp);cases C (c.lo<=cnt (λa=>tb c.set<|Ae c g a) (F c.ce)) <;> rfl
 ·refine ϒ (f:=λn=>(Za n q.va g c.ce).bind λe=>B (C<|c.lo<=e) (Z<|C<|e<=c.hi)<|Z T) (ϕ:=c.lo<=B5 (λa=>H q.va (Ae c g a) 0) (F c.ce)/\B5 (λa=>H q.va (Ae c g a) 0) (F c.ce)<=c.hi) (b:=C (c.lo<=B5 (λa=>H q.va (Ae c g a) 0) (F c.ce))&&C (B5 (λa=>H q.va (Ae c g a) 0) (F c.ce)<=c.hi)) hk (λn=>by unfold Gf LF;rw[hk];rfl) (Ev.bind (zBy S V o)<|Ev.now λn=>?_) Z3 (by unfold Dq;rw[hk];simp);cases C (c.lo<=B5 (λa=>H q.va (Ae c g a) 0) (F c.ce)) <;> rfl
 ·obtain⟨r,l,j⟩:=zFl S V o;exact ϒ (f:=λn=>(ac n q.va g c.ce).bind Z) hk (λn=>by unfold Gf LF;rw[hk];rfl) (Ev.bind l<|Ev.now λn=>rfl) j (by unfold Dq;rw[hk];simp)
 ·have J:=aS (b:=λa=>tb c.set<|Ae c g a) (N:=F c.ce) (F c.ce) 0;refine ϒ (f:=λn=>(aM n g c.ce c.set).bind λe=>(Kj n e c.ru).bind Z) (ϕ:=rl (λa=>tb c.set<|Ae c g a) (F c.ce) (F c.ce) 0=c.ru) (b:=C<|rl (λa=>tb c.set<|Ae c g a) (F c.ce) (F c.ce) 0=c.ru) hk (λn=>by unfold Gf LF;rw[hk];rfl) (Ev.bind (zE8 S o) ⟨300,λn hn=>?_⟩) Z3 (by unfold Dq;rw[hk];simp)
  show(Kj n _ c.ru).bind Z=_
  rw[wf (zIX J<|zIX (by omega:F c.ce+1<=300) Z6) Z2];rfl
 ·have j:F c.ce=2:=by rw[←hc];exact Ϙ.two (.inl<|by rw[hc];exact hk)
  have Y:=S.cell 0 Z2;have Q:=S.cell 1 Z2;have p:=S.gi (a:=0) Z2;have s:=S.gi (a:=1) Z2;have l0:=(S.lt (a:=0) Z2).1;have R:=(S.lt (a:=1) Z2).1;have vl:=V.len;have v0:=V.val _ l0;have v1:=V.val _ R;refine ϒ (f:=λn=>Gf n q c g) (ϕ:=Ge q c (Ae c g 0) (Ae c g 1)=D) (b:=Ge q c (Ae c g 0)<|Ae c g 1) hk (λn=>rfl) (Ev.now λn=>?_) Iff.rfl (by unfold Dq;rw[hk];simp);unfold Gf LF;rw[hk]
  show u _ _ A=_
  rw[p,s,u8,u8,zAF ⟨⟨Z2,Z2⟩,Y,⟨Z2,Z2⟩,⟨Z2,Z2⟩,Q,Z2,Z2⟩];unfold WG kM Ge;rw[zAF<|AZ.2 ⟨Z2,Z2⟩,zAF<|AZ.2 ⟨Z2,Z2⟩]
  by_cases h:H q.va (Ae c g 0) 0-H q.va (Ae c g 1) 0>=c.lo
  ·rw[zAB h,zAG,zAC];refine congrArg Z (zAB ?_).symm;split <;> omega
  ·rw[zAE h,zAD,zAC];refine congrArg Z ?_;rw[decide_eq_decide];split <;> omega
 ·have j:F c.ce=2:=by rw[←hc];exact Ϙ.two (.inr<|by rw[hc];exact hk)
  have Y:=S.cell 0 Z2;have Q:=S.cell 1 Z2;have p:=S.gi (a:=0) Z2;have s:=S.gi (a:=1) Z2;have l0:=(S.lt (a:=0) Z2).2;have R:=(S.lt (a:=1) Z2).2;refine ϒ (f:=λn=>Gf n q c g) (ϕ:=GC c (Ae c g 0) (Ae c g 1)=D) (b:=GC c (Ae c g 0)<|Ae c g 1) hk (λn=>rfl) (Ev.now λn=>?_) Iff.rfl (by unfold Dq;rw[hk];simp);unfold Gf LF;rw[hk]
  show u _ _ A=_
  rw[p,s,zAF ⟨⟨Z2,Z2⟩,Y,⟨Z2,Z2⟩,Q⟩,I8 l0,I8 R,I8 l0,I8 R];unfold GC;cases tb c.set (Ae c g 0) <;> cases tb c.set (Ae c g 1) <;> cases tb c.other (Ae c g 0) <;> cases tb c.other (Ae c g 1) <;> rfl
 ·have m:Ee c q<|FH g:=by rw[←hc];exact Ϙ.all (.inl<|by rw[hc];exact hk) z
  have I:=m.gl;rw[Jh]at I;obtain⟨r,l,j⟩:=zPq (inn:=Co c g) m.g (by rw[Wc];omega);exact ϒ (f:=λn=>(QP n g c.ce c.set).bind λe=>(YX n q.nb e).bind Z) hk (λn=>by unfold Gf LF;rw[hk];rfl) (Ev.bind (vu S m)<|Ev.bind l<|Ev.now λn=>rfl) j (by unfold Dq;rw[hk];simp)
 ·have m:Ee c q<|FH g:=by rw[←hc];exact Ϙ.all (.inr<|by rw[hc];exact hk) z
  have I:=m.gl;rw[Jh]at I;obtain⟨r,l,j⟩:=zJU (inn:=Co c g) m.g (by rw[Wc];omega);rw[I]at j;exact ϒ (f:=λn=>(QP n g c.ce c.set).bind λe=>(Wl n q.nb e).bind Z) hk (λn=>by unfold Gf LF;rw[hk];rfl) (Ev.bind (vu S m)<|Ev.bind l<|Ev.now λn=>rfl) j (by unfold Dq;rw[hk];simp)
def zOS(G:Gd q g)(t:CN q=D):Ev (λn=>fI n q.ce q.sy g) D:=by
 have r:=G.len;have hc:=(ER t).1
 have key:∀(k j:E),j+k=F g->Ev (λn=>UI q.ce q.sy g n<|.l1 (j:U)) D:=by
  intro k
  induction k with
  |zero=>
   intro j e;refine Ev.one λn=>?_
   show Xw n (UI q.ce q.sy g n) q.ce q.sy g (j:U)=_
   unfold Xw;rw[zAE Z2,zAD]
  |succ k a=>
   intro j e;have l:j<F g:=Z2
   obtain⟨s0,s1⟩:=G.sym j l;refine AR.ev (AR.one λn=>?_)<|a (j+1) Z2
   show Xw n (UI q.ce q.sy g n) q.ce q.sy g (j:U)=_
   unfold Xw;rw[zAB Z2,zAG,zAF ⟨Z2,Z2⟩,u8,zAE Z2,zAD,zAE Z2,zAD,zAF<|AZ.2 ⟨Z2,Z2⟩,show((j+1:E):U)=(j:U)+1 by omega]
 refine(key (F g) 0 Z2).eq λn=>?_
 unfold fI yn;rw[show((F g:U) != q.ce)=T by simpa using r,zAD];rfl
def zCP(m:DK q)(t:CN q=D)(G:Gd q g)(BF:F q.cons<=LB):∃b,Ev (λn=>SQ n q g) (b,0)/\(b=D↔iE q g):=by
 have hb:LB<=9223372036854775806:=Z6
 have key:∀(k j:E),j+k=F q.cons->(∀i,0<=i->i<(j:U)->Dq q (con q i) g)->∃b,Ev (λn=>NQ q g n<|.l1 (j:U)) (b,0)/\(b=D↔iE q g):=by
  intro k
  induction k with
  |zero=>
   intro j e h;refine⟨D,Ev.one λn=>?_,zNm rfl λi h0 l=>h i h0 Z2⟩
   show U9 n (NQ q g n) q g (j:U)=_
   unfold U9;rw[zAE Z2,zAD]
  |succ k o=>
   intro j e h;have hj:j<F q.cons:=Z2
   obtain⟨b,⟨N,c⟩,f⟩:=zI4 (G.ctx m t (i:=(j:U)) Z2 Z2) G;have p:con q (j:U)=H q.cons j ξ:=by unfold con;rw[u8]
   rw[p]at c;have c:∀n,N<=n->Gf n q (H q.cons j ξ) g=Z b:=c
   have step:∀n,N<=n->NQ q g (n+1) (.l1 (j:U))=B (!b) (Z (T,0)) (NQ q g n<|.l1 ((j+1:E):U)):=λn a=>by
    show U9 n (NQ q g n) q g (j:U)=_
    unfold U9;rw[zAB Z2,zAG,zAF ⟨Z2,Z2⟩,u8,c n a,zAC,zAF<|AZ.2 ⟨Z2,Z2⟩,show((j+1:E):U)=(j:U)+1 by omega]
   cases b with
   |false=>
    refine⟨T,Ev.oneN N λn a=>by rw[step n a];rfl,zM5 Z6 λs=>?_⟩;have:=f.2<|s (j:U) Z2 Z2;cases this
   |true=>
    obtain⟨r,v,w⟩:=o (j+1) Z2 λi h0 l=>by
     by_cases R:i=(j:U)
     ·rw[R];exact f.1 rfl
     ·exact h i h0 Z2
    exact⟨r,AR.ev (AR.oneN N λn a=>by rw[step n a];rfl) v,w⟩
 obtain⟨b,y,f⟩:=key (F q.cons) 0 Z2 λi h0 l=>τ l Z2
 have J:Ev (λn=>ZI n q g) 0:=by
  refine Ev.bind (x:=0) ⟨CX q,λn a=>by show Nb n q=_;rw[aI m a,t];rfl⟩ ?_;exact Ev.eq (Ev.bind (zOS G t)<|Ev.now λn=>rfl) λn=>rfl
 exact⟨b,Ev.bind J y,f⟩
end
section
variable{q:AA}{pos p g:Ξ}
def rU:∀{p g:Ξ},Db p=Z g->∀j,j<F p->∃s:E,Bz (H p j 0) 0= [s]/\H g j 0=(s:U)
 |[],_,_,j,l=>by simp at l
 |x::p,g,h,j,l=>by
  unfold Db at h;split at h
  ·rename_i s a;obtain⟨r,k,rfl⟩:=zQa.1 h;cases j with
   |zero=>exact⟨s,by simpa using a,rfl⟩
   |succ j=>
    have:=rU k j (by simpa using l);simpa using this
  ·cases h
end
section
variable{q:AA}{p x g o:Ξ}
def ip(x:U):E:=F<|Bz x 0
end
abbrev zRY:=@List.mem_append_left
section
open Go.ChangeShapes Go.WideShapes Go.ChangeAt
def NA(w:κ)(cs:O μ)(l:O DV):Prop:=F cs=F l/\∀j,j<F l->AL (λ_=>False) w (l.getD j .any) [] (cs.getD j undef)
def Rd(P:ν)(t:ψ)(m:E){α:Type}(c:α->O DV):Prop:=(∀x,F (c x)=m)/\P.cellsOf t=m/\∀{ϗ:Type} (enc:ψ×μ->ϗ) (w:κ) (f:E) (cs:O μ) (x:DataW ϗ×O MemPlace),DataW.trod enc P w 0 (λ_=>D) D f t cs=Z x->(∀n∈x.1.weights P t,n<=reachBytes)->∃y:α,NA w cs<|c y
def po{ϗ:Type}{P:ν}{e:ψ}:∀{l:O (DataW ϗ)} {Ϛ:DataW ϗ} {n:E},Ϛ∈l->n∈Ϛ.weights P e->n∈DataW.weightsAll P e l
 |[],_,_,h,_=>by cases h
 |a::l,Ϛ,n,h,b=>by
  unfold DataW.weightsAll;rcases zLa.1 h with rfl|h
  ·exact zRY _ b
  ·exact zNO _<|po h b
section
variable{P:ν}{t e:ψ}{m:E}
variable{v:μ}{w:κ}
theorem NA.one{Ϛ:DV}(h:AL (λ_=>False) w Ϛ [] v):NA w [v] [Ϛ]:=⟨rfl,λj hj=>by
 grind⟩
variable{cs:O μ}
theorem NA.app{V:O μ}{l l':O DV}(h:NA w cs l)(h':NA w V l'):NA w (cs++V)<|l++l':=by
 refine⟨by simp[h.1,h'.1],λj a=>?_⟩;rcases zK8 j (F l)with hl|hl
 ·have:=h.2 j hl;have hc:j<F cs:=by rw[h.1];exact hl
  grind
 ·have:=h'.2 (j-F l) (by simp at a;omega);simp only[zBD]at this⊢;rw[zLZ hl,zLZ (by rw[h.1];exact hl),h.1];exact this
theorem Rd.int{k:IntKind}(o:P.underlying t=Z (.int k))(hc:P.cellsOf t=1):Rd P t 1 (λn:U=>[.int k n]):=⟨λ_=>rfl,hc,λenc w Ep cs x h hw=>by
 obtain⟨n,rfl,_⟩:=DataW.trod_int o h;exact⟨n,.one rfl⟩⟩
variable{n:E}{a:Addr}
theorem zx(h:w.cells? 0 a n=Z cs):F cs=n/\∀j,j<n->w.cell? (a.add j)=Z (cs.getD j undef):=by
 unfold World.cells? at h;rw[zAF<|zK5 _]at h;have q:F cs=n:=by simpa using Lib.mapM_length h
 refine⟨q,λj l=>?_⟩;obtain⟨b,h1,h2⟩:=Lib.mapM_at h j j (by simp[l])
 grind
theorem zRD(h:w.cell? a=Z v):∃b o,a=⟨b,o,A⟩:=by
 obtain⟨b,o,r⟩:=a;cases r with
 |none=>exact⟨b,o,rfl⟩
 |some r=>
  grind[World.cell?]
theorem zAs(b o x:E):(⟨b,o,A⟩:Addr).add x=⟨b,o+x,A⟩:=by
 grind[Addr.add]
variable{α:Type}
theorem Rd.row[Inhabited α]{c:α->O DV}(s:P.underlying t=Z (.slice e))(K:0<P.bytesOf e)(Q:0<m)(f:Rd P e m c){ϗ:Type}(enc:ψ×μ->ϗ)(w:κ)(R:E)(cs:O μ)(x:DataW ϗ×O MemPlace)(h:DataW.trod enc P w 0 (λ_=>D) D R t cs=Z x)(v:∀n∈x.1.weights P t,n<=reachBytes):
 ∃(ϙ:O α) (a:M Addr) (cap:E),cs= [.slice a (F ϙ) cap]/\F ϙ<=cap/\F ϙ<=LB/\∀i j,i<F ϙ->j<m->∃b o ϛ,a=Z ⟨b,o,A⟩/\w.cell? ⟨b,o+(i*m+j),A⟩=Z ϛ/\AL (λ_=>False) w ((c<|H ϙ i ξ).getD j .any) [] ϛ:=by
 rcases Deep.open_slice s h with⟨rfl,_⟩|⟨a,len,cap,z,n,ϒ,Pl,rfl,_,l,Qs,Y,S,G⟩
 ·exact⟨[],A,0,rfl,zI1 _,zK5 _,λi j hi=>τ hi<|zBT i⟩
 ·simp only[zMt]at Y;subst Y;subst S
  have plain:0<len->∃b o,a=⟨b,o,A⟩:=λh0=>by
   obtain⟨V,g,_⟩:=G 0 Z2;obtain⟨W,q⟩:=zx g;have I:=q 0 (by rw[f.2.1];exact Q)
   grind[Addr.add,zRD]
  have p:∀i,i<len->∃y:α,∀j,j<m->∃b o ϛ,a=⟨b,o,A⟩/\w.cell? ⟨b,o+(i*m+j),A⟩=Z ϛ/\AL (λ_=>False) w ((c y).getD j .any) [] ϛ:=λi hi=>by
   obtain⟨V,g,X⟩:=G i Z2
   obtain⟨y,h3,h4⟩:=f.2.2 enc w n V _ X λk J=>v k (by
    simp only[DataW.weights,s];refine zLL _<|zRY _<|po (Ϛ:=ϒ i) ?_ J
    grind)
   obtain⟨W,q⟩:=zx g;obtain⟨b,o,rfl⟩:=plain Z2;refine⟨y,λj r=>?_⟩;have I:=q j (by rw[f.2.1];exact r);refine⟨b,o,_,rfl,?_,h4 j<|by rw[f.1];exact r⟩;rw[←I,f.2.1,zAs,zAs,zRk]
  have N:∃ϙ:O α,F ϙ=len/\∀i,i<len->∀j,j<m->∃b o ϛ,a=⟨b,o,A⟩/\w.cell? ⟨b,o+(i*m+j),A⟩=Z ϛ/\AL (λ_=>False) w ((c<|H ϙ i ξ).getD j .any) [] ϛ:=by
   refine⟨(θ len).map λi=>if hi:i<len then(p i hi).choose else ξ,Z3,λi hi=>?_⟩
   grind
  obtain⟨ϙ,rfl,N⟩:=N;refine⟨ϙ,Z a,_,rfl,l,?_,λi j hi r=>?_⟩
  ·have J:=v ((F ϙ+(z-F ϙ))*P.bytesOf e) (by
    grind[DataW.weights])
   have g:=Nat.le_mul_of_pos_right (F ϙ+(z-F ϙ)) K
   grind[reachBytes,LB]
  grind
theorem Rd.rows[Inhabited α]{c:α->O DV}(o:P.underlying t=Z (.slice e))(hc:P.cellsOf t=1)(b:0<P.bytesOf e)(f:0<m)(g:Rd P e m c):Rd P t 1 (λϙ:O α=>[.sl m (F ϙ)<|AM c ϙ]):=⟨λ_=>rfl,hc,λenc w k cs x h v=>by
 obtain⟨ϙ,a,cap,rfl,l,n,h3⟩:=Rd.row o b f g enc w k cs x h v;refine⟨ϙ,NA.one ⟨a,cap,rfl,l,n,λi j hi hj=>?_⟩⟩
 grind⟩
def Rd.ints(c:P.underlying t=Z (.slice e))(hc:P.cellsOf t=1)(f:0<P.bytesOf e)(g:P.underlying e=Z (.int .i64))(I:P.cellsOf e=1):Rd P t 1 AS:=⟨λ_=>rfl,hc,λenc w i cs x h v=>by
 obtain⟨ϙ,a,cap,rfl,k,l,m⟩:=Rd.row c f zNi (Rd.int g I) enc w i cs x h v;refine⟨ϙ,.one ⟨a,cap,rfl,k,l,λj n=>?_⟩⟩;obtain⟨b,o,ϛ,s,y,p⟩:=m j 0 n zNi;refine⟨b,o,s,λh=>h,?_⟩;have:ϛ=.int .i64 (H ϙ j 0):=p;rw[←this,←y];simp⟩
def EI(P:ν):O Field->E->E->{α:Type}->(α->O DV)->Prop:=λa o n {α} c=>∀(ϗ:Type) (enc:ψ×μ->ϗ) (w:κ) (b:E) (cs:O μ) (xs:O<|DataW ϗ×O MemPlace),F cs=n->(a.mapM λf=>DataW.trod enc P w 0 (λ_=>D) D b f.type<|(cs.drop f.offset).take<|P.cellsOf f.type)=Z xs->(∀k∈DataW.weightsEach P (a.map (·.type)) (xs.map (·.1)),k<=reachBytes)->∃y:α,NA w (cs.drop o)<|c y
variable{o:E}
def EI.nil(ho:n=o):EI P [] o n (λ_:Unit=>[]):=λ_ enc w Ep cs xs hl _ _=>⟨(),by rw[zR1 Z2];exact⟨rfl,λj l=>τ l<|zBT j⟩⟩
variable{β:Type}
theorem EI.cons{c:α->O DV}{V:β->O DV}{f:Field}{g:O Field}(K:f.offset=o)(q:Rd P f.type m c)(p:EI P g (o+m) n V):EI P (f::g) o n (λx:α×β=>c x.1++V x.2):=λ_ enc w i cs xs j h v=>by
 rw[List.mapM_cons]at h;obtain⟨a,l,h⟩:=Option.bind_eq_some_iff.1 h;obtain⟨ys,b,e⟩:=Option.bind_eq_some_iff.1 h;cases e;obtain⟨y,r⟩:=q.2.2 enc w i _ a l λk s=>v k (by grind[DataW.weightsEach])
 obtain⟨z,t⟩:=p _ enc w i cs ys j b λk s=>v k (by grind[DataW.weightsEach])
 refine⟨(y,z),?_⟩
 have:cs.drop o=(cs.drop f.offset).take (P.cellsOf f.type)++cs.drop (o+m):=by
  rw[K,q.2.1,←List.drop_drop]
  grind[List.take_append_drop]
 rw[this];exact r.app t
theorem Rd.struct{c:α->O DV}{V:β->O DV}{n:υ Field}(o:P.underlying t=Z (.struct n))(hc:P.cellsOf t=m)(p:EI P n.toList 0 m c)(g:α->β)(hg:∀x,c x=V (g x))(a:∀x,F (V x)=m):Rd P t m V:=⟨a,hc,λenc w f cs x h v=>by
 cases f with
 |zero=>simp[DataW.trod]at h
 |succ f=>
  unfold DataW.trod at h;rw[o]at h;simp only at h;split at h
  ·rename_i q;obtain⟨xs,b,e⟩:=zQa.1 h;subst e;obtain⟨y,hy⟩:=p _ enc w f cs xs (by rw[q,hc]) b λk i=>v k (by simp only[DataW.weights,o];exact i)
   grind
  ·cases h⟩
end
end
abbrev zNc:=@Go.ChangeShapes.trodAll_cons
section
open Go.ChangeShapes Go.WideShapes Go.ChangeAt
def Hr(P:ν)(t:ψ){α:Type}(Ϛ:α->DV):Prop:=∀{ϗ:Type} (enc:ψ×μ->ϗ) (w:κ) (a:E) (v:μ) (x:DataW ϗ) (K:O MemPlace),Value.okWide P w .any a t v->DataW.Trod enc P w 0 (λ_=>D) D t v x K->(∀n∈x.weights P t,n<=reachBytes)->∃y:α,AL (λ_=>False) w (Ϛ y) [] v
section
variable{P:ν}{t e:ψ}
theorem Hr.int{k:IntKind}(o:P.underlying t=Z (.int k)):Hr P t (λn:U=>.int k n):=λenc w DN v x ps a _ _=>by
 obtain⟨n,rfl⟩:=okWide_int o a;exact⟨n,rfl⟩
variable{α:Type}
def Hr.one{c:α->O DV}(o:P.underlying t=Z (.slice e))(h:Rd P t 1 c):Hr P t λx=>(c x).getD 0 .any:=λenc w DN v x ps b ⟨f,i⟩ g=>by
 obtain⟨a,len,cap,rfl⟩:=okWide_slice o b;obtain⟨y,h1,j⟩:=h.2.2 enc w f _ _ i g;exact⟨y,by simpa[Value.cells]using j 0 (by rw[h.1];exact zNi)⟩
theorem Hr.agg{m:E}{c:α->O DV}{n:υ Field}(o:P.underlying t=Z (.struct n))(h:Rd P t m c):Hr P t λx=>.agg m<|L1<|c x:=λenc w DN v x ps f ⟨g,i⟩ k=>by
 obtain⟨cs,rfl,Ea⟩:=okWide_struct o f;obtain⟨y,p,q⟩:=h.2.2 enc w g _ _ i k;have a:F (c y)=m:=h.1 y
 have b:cs.size=m:=by
  have:F cs.toList=F (c y):=p;simpa[a]using this
 refine⟨y,cs,rfl,b,λj l=>?_⟩;have:=q j (by rw[a];exact l);refine⟨cs[j]'Z2,by simp[b,l],?_⟩
 have e:(Value.agg cs).cells.toList.getD j undef=cs[j]'Z2:=by
  show cs.toList.getD j undef=_
  grind
 rw[e]at this;exact this
def HI(P:ν)(i:O ψ){α:Type}(ds:α->O DV):Prop:=∀{ϗ:Type} (enc:ψ×μ->ϗ) (w:κ) (a:E) (vs:O μ) (xs:O<|DataW ϗ) (K:O MemPlace),(∀(j:E) t v,i[j]?=Z t->vs[j]?=Z v->Value.okWide P w .any a t v)->DataW.TrodAll enc P w 0 (λ_=>D) D i vs xs K->(∀n∈DataW.weightsEach P i xs,n<=reachBytes)->∃y:α,F (ds y)=F vs/\∀j,j<F vs->AL (λ_=>False) w ((ds y).getD j .any) [] (vs.getD j undef)
theorem HI.nil:HI P [] (λ_:Unit=>[]):=λenc w DN vs xs ps _ h _=>by
 obtain⟨rfl,_,_⟩:=trodAll_nil h
 simp_all
theorem HI.cons{β:Type}{Ϛ:α->DV}{ds:β->O DV}{c:O ψ}(h:Hr P t Ϛ)(k:HI P c ds):HI P (t::c) (λx:α×β=>Ϛ x.1::ds x.2):=λenc w e vs xs ps f h0 g=>by
 obtain⟨v,l,x,J,p,q,rfl,rfl,rfl,m,o⟩:=zNc h0;obtain⟨y,hy⟩:=h enc w e v x p (f 0 t v rfl rfl) m λn r=>g n (by grind[DataW.weightsEach])
 obtain⟨z,i,hz2⟩:=k enc w e l J q (λj K s a b=>f (j+1) K s (by simpa using a)<|by simpa using b) o λn r=>g n (by grind[DataW.weightsEach])
 refine⟨(y,z),by simp[i],λj hj=>?_⟩
 grind
variable{W g:κ}{ϗ:Type}
def p5{enc:ψ×μ->ϗ}(c:laidOutB P=D)(l:A0 W g):∀{i:O ψ} {vs:O μ} {ds:O (DataW ϗ)} {K:O MemPlace},(∀t∈i,P.readableRec t=D/\t<P.types.size)->DataW.TrodAll enc P W 0 (λ_=>D) D i vs ds K->(∀x∈K,x.block<W.heap.size)->DataW.TrodAll enc P g 0 (λb=>decide (b<W.heap.size)) D i vs ds K
 |[],_,_,_,_,h,_=>by
  obtain⟨rfl,rfl,rfl⟩:=trodAll_nil h;rfl
 |t::i,_,_,_,k,h,e=>by
  obtain⟨v,Bx,x,pZ,p,q,rfl,rfl,rfl,f,j⟩:=zNc h;exact⟨p,q,Below.trod c (k t Z3).1 (k t Z3).2 f l λx a=>e x<|zRY _ a,p5 c l (λt o=>k t<|by simp[o]) j λx a=>e x<|zNO _ a,rfl⟩
variable{tb:ψ}{I:O MemPlace}{args:υ μ}{s:ChangeSpec}{f:Func}
def zHx{enc:ψ×μ->ϗ}{ds gs:O (DataW ϗ)}(j:laidOutB P=D)(k:∀t∈f.params.toList,P.readableRec t=D/\t<P.types.size)(l:A0 W g)
 (a:DataW.Whole enc P f.params.toList s.vars T W args.toList ds gs I) (c:s.vars= []) (b:s.fn ϗ (ds++gs)= { results:=[.lit<|.bool D],args:=ds }) (m:f.resultTypes= #[tb]) (n:P.underlying tb=Z .bool):
 s.post enc P f T D T T W args (.bool D) g:=by
 have R:=a;have o:=a.lt;obtain⟨p,q,r,e,rfl,HB,A5⟩:=a;rw[c]at e;obtain⟨rfl,rfl⟩:=trodVars_none e;have v:=p5 j l k r λx i=>o x<|zRY _ i
 refine⟨ds,[],p++[],[],p,[],R,?_,?_,?_,World.keptBut_mono (λx i=>⟨i,.inr<|.inl<|by simpa using i⟩) (Below.frame l (· ∈p++[])),λh=>by cases h⟩
 ·rw[b,m];exact trodAll_mk1<|shut_bool n D
 ·rw[b];exact v
 ·rw[c,b];rfl
theorem wL{enc:ψ×μ->ϗ}{Γ:A1}{K:E}{g:E}{ds gs:O (DataW ϗ)}{dv:α->O DV}(o:laidOutB P=D)(r:∀t∈f.params.toList,P.readableRec t=D/\t<P.types.size)
 (l:HI P f.params.toList dv) (x:∀(w:κ) (y:α),(∀j,AL (λ_=>False) w ((dv y).getD j .any) []<|args.getD j undef)->ES P Γ K (dv y) [] (.bool D) [] D)
 (J:∀(j:E) t v,f.params[j]?=Z t->args[j]?=Z v->Value.okWide P W .any g t v) (h:DataW.Whole enc P f.params.toList s.vars T W args.toList ds gs I) (z:s.vars= []) (Q:s.fn ϗ (ds++gs)= { results:=[.lit<|.bool D],args:=ds }) (R:f.resultTypes= #[tb]) (S:P.underlying tb=Z .bool)
 (BT:(DataW.weightsEach P f.params.toList ds).all (· <=reachBytes)=D) (V:Γ.gi W):Calls P K args W λe k=>∃v,e=.returned v/\s.post enc P f T D T T W args v k:=by
 have X:=h;obtain⟨p,q,Y,hV,rfl,HB,A5⟩:=h
 obtain⟨y,h1,h2⟩:=l enc W g args.toList ds p (λj t v a b=>J j t v (by simpa using a)<|by simpa using b) Y λn hn=>by
  grind
 have Ap:F (dv y)=args.size:=by simpa using h1
 have N:∀j,AL (λ_=>False) W ((dv y).getD j .any) []<|args.getD j undef:=λj=>by
  rcases zK8 j args.size with hj|hj
  ·simp_all
  ·have:(dv y).getD j .any=.any:=Z4
   rw[this];trivial
 refine((x W y N).2 (λ_=>False) [] W args (Tt (λb c=>c.elim) V) ⟨Ap,λi hi=>?_⟩).mono ?_
 ·exact AL.out _ (Cz (λb c=>Rl.1 c) [])<|N i
 ·rintro e k ⟨v,rfl,G⟩;obtain⟨ρ',_,m,_⟩:=G.ex;have m:v=.bool D:=m;subst m;exact⟨_,rfl,zHx o r (G.ext rfl) X z Q R S⟩
end
end
section
open Go.ChangeShapes Go.WideShapes Go.ChangeAt
def own:ownKnob Tryz.prog.godebug=A:=Z5
def wP:laidOutB L=D:=Z5
def zQK:0<Tryz.prog.bytesOf 3:=zKs Z5
def Js:Rd L 3 1 (λn:U=>[.int .i64 n]):=Rd.int Tryz.underlying3 Z5
def Vy:Rd L 22 1 AS:=Rd.ints Tryz.underlying22 Z5 zQK Tryz.underlying3 Z5
def zGM:Rd L 23 1 (λϙ:O Ξ=>[.sl 1 (F ϙ)<|AM AS ϙ]):=Rd.rows Tryz.underlying23 Z5 (zKs Z5) zNi Vy
set_option maxRecDepth 100000 in
def zGR:Rd L 65 9 AW:=by
 refine Rd.struct Tryz.underlying65 Z5
  (EI.cons rfl Js<|EI.cons rfl Vy<|EI.cons rfl Js<|EI.cons rfl Js<|EI.cons rfl Js<|EI.cons rfl Js<|EI.cons rfl Vy<|EI.cons rfl Js<|EI.cons rfl Js<|EI.nil rfl)
  (λx:U×Ξ×U×U×U×U×Ξ×U×U×Unit=>(⟨x.1,x.2.1,x.2.2.1,x.2.2.2.1,x.2.2.2.2.1,x.2.2.2.2.2.1,x.2.2.2.2.2.2.1,x.2.2.2.2.2.2.2.1,x.2.2.2.2.2.2.2.2.1⟩:AD)) ?_ λ_=>rfl
 intro x;rfl
def zGQ:Rd L 24 1 (λϙ:O AD=>[.sl 9 (F ϙ)<|AM AW ϙ]):=Rd.rows Tryz.underlying24 Z5 (zKs Z5) Z6 zGR
set_option maxRecDepth 100000 in
def zGN:Rd L 26 5 AJ:=by
 refine Rd.struct Tryz.underlying26 Z5
  (EI.cons rfl Js<|EI.cons rfl Js<|EI.cons rfl Vy<|EI.cons rfl zGM<|EI.cons rfl zGQ<|EI.nil rfl)
  (λx:U×U×Ξ×O Ξ×O AD×Unit=>(⟨x.1,x.2.1,x.2.2.1,x.2.2.2.1,x.2.2.2.2.1⟩:AA)) ?_ λ_=>rfl
 intro x;rfl
def sS:Hr L 26 (λq:AA=>.agg 5<|L1<|AJ q):=Hr.agg Tryz.underlying26 zGN
def zEr:Hr L 3 (λn:U=>.int .i64 n):=Hr.int Tryz.underlying3
def jP:Hr L 22 (λl:Ξ=>.ints l):=Hr.one Tryz.underlying22 Vy
theorem DK.of{ϕ:Ψ}{w:κ}{ρ:O AN}{q:AA}{v:μ}(h:AL ϕ w (.agg 5<|L1<|AJ q) ρ v):DK q:=by
 obtain⟨cs,_,_,hc⟩:=h
 have row:∀{α:Type} [Inhabited α] {m:E} {c:α->O DV} {ϙ:O α} {ϛ:μ},0<m->AL ϕ w (.sl m (F ϙ)<|AM c ϙ) ρ ϛ->∀x∈ϙ,∀j,j<m->∃ϛ,AL ϕ w ((c x).getD j .any) [] ϛ:=by
  intro α _ m c ϙ ϛ hm ⟨a,cap,_,_,_,s⟩ x f j l;obtain⟨i,hi,rfl⟩:=zLD f;obtain⟨b,o,ϛ,_,_,_,k⟩:=s i j hi l;refine⟨ϛ,?_⟩;have e:H ϙ i ξ=ϙ[i]:=by simp[hi]
  have k:AL ϕ w ((c<|H ϙ i ξ).getD j .any) [] ϛ:=k;rw[e]at k;exact k
 refine⟨?_,λr k=>?_,λc n=>?_,λc n=>?_⟩
 ·obtain⟨ϛ,_,g⟩:=hc 2 Z6;exact QW g
 ·obtain⟨ϛ,_,p⟩:=hc 3 Z6;obtain⟨ϛ,h⟩:=row (c:=AS) (ϙ:=q.nb) zNi p r k 0 zNi;exact QW h
 ·obtain⟨ϛ,_,W⟩:=hc 4 Z6;obtain⟨ϛ,h⟩:=row (c:=AW) (ϙ:=q.cons) Z6 W c n 1 Z6;exact QW h
 ·obtain⟨ϛ,_,W⟩:=hc 4 Z6;obtain⟨ϛ,h⟩:=row (c:=AW) (ϙ:=q.cons) Z6 W c n 6 Z6;exact QW h
def ye:Tryz.prog.globalNamed "math/bits.deBruijn64tab" =Z 1:=Z5
def zNz:(Tryz.prog.globals[1]?).map (·.type)=Z 213:=Z5
abbrev lW{ϗ:Type}:O<|String×DataW ϗ:=[("math/bits.deBruijn32tab",Rows.laid_math_bits_deBruijn32tab),("math/bits.deBruijn64tab",Rows.laid_math_bits_deBruijn64tab)]
variable{W:κ}
def zBd(h:laidMetH L lW W):Lib.TabIs L W "math/bits.deBruijn64tab" .u8<|Lib.deBruijn64tab.map Int.ofNat:=
 Lib.tabIs_of_head (rest:=[]) ye zNz Tryz.underlying213 Tryz.underlying5 Z5 Z5 (laidMet.tail<|show laidMet L lW W from h)
def qT(h:laidMetH L lW W):GG.gi W:=by
 have ϑ:=zBd h;have c:∀j,j<64->W.cell? ⟨1,j,A⟩=Z (.int .u8<|H (Lib.deBruijn64tab.map Int.ofNat) j 0):=λj l=>ϑ.cell ye j (by rw[zKB];exact l)
 refine⟨λj l=>?_,?_⟩
 ·have l:j<64:=l;rw[c j l]
  have:H (Lib.deBruijn64tab.map Int.ofNat) j 0=((H Lib.deBruijn64tab j 0:E):U):=by
   have q:j<F Lib.deBruijn64tab:=l;simp[zBD,q]
  rw[this]
 ·have:=zLJ W _<|c 0 Z6;exact this
def wK(l:Θ)(o:Obj):Obj:=match o with
 | .cells _ t frozen=>.cells (l.map λn=>Value.int .u8<|Int.ofNat n).toArray t frozen
 |o=>o
noncomputable def Td (os:Os):κ:={ World.holding L os ⟨#[],#[],[]⟩with heap:=((World.holding L os ⟨#[],#[],[]⟩).heap.modify 0<|wK Lib.deBruijn32tab).modify 1 (wK Lib.deBruijn64tab) }
def N8:μ:=.agg #[.int .i64 0,.int .i64 0,.slice A 0 0,.slice A 0 0,.slice A 0 0]
end
abbrev zRf:=@Go.IntKind.wrap_u64
abbrev zSF:=@List.range_eq_range'
section
open Classical
theorem zCr{x:U}(h:Sm 16 x):Ev (λn=>VI n x) ((ip x:E):U):=by
 have J:IntKind.u64.wrap x=x:=by
  have h1:=h.1;have h2:x<65536:=h.2;rw[zRf];omega
 have key:∀(k i:E),i+k=64->Ev (λn=>SU x n<|.l1 (cnt (λs=>tb x s) i) (i:U)) (cnt (λs=>tb x s) 64):=by
  intro k
  induction k with
  |zero=>
   simp_all[Ev.one,Zo,SU]
  |succ k a=>
   intro i e;have hb:=RF (p:=λs=>tb x s) (i:=i);have v:IntKind.u64.wrap (i:U)=(i:U):=by rw[zRf];omega
   refine AR.ev (AR.one λn=>?_)<|a (i+1) Z2
   show Zo n (SU x n) x _ (i:U)=_
   unfold Zo;rw[zAB Z2,zAG,v,J,u8,zAJ,rf h Z6 Z2];have X:IntKind.i64.wrap (u (tb x i=D) 1 0)=u (tb x i=D) 1 0:=by split <;> decide
   rw[X,O5,show((i+1:E):U)=(i:U)+1 by omega,zAF ⟨⟨Z2,by show(i:U)<=((64:E):U);omega⟩,AZ.2 (by split <;> omega),AZ.2 ⟨Z2,Z2⟩⟩]
 have b:cnt (λs=>tb x s) 64=((ip x:E):U):=by
  unfold cnt ip Bz
  have z:(List.range' 16 48).countP (λs=>tb x s)=0:=List.countP_eq_zero.2 λs c=>by
   rw[h.hi (List.mem_range'_1.1 c).1];decide
  rw[←zMk,zSF,show List.range' 0 64=List.range' 0 (16-0)++List.range' 16 48 from rfl,zRr,z];rfl
 have:=key 64 0 Z2;rw[b]at this;exact this.eq λn=>rfl
variable{j:E}{α:Type}
theorem zBa{l:O α}{Ϛ:α}(hj:j<F l):l.take (j+1)=l.take j++[l.getD j Ϛ]:=by
 simp_all
theorem zOo{l:O α}{Ϛ:α}(hj:j<F l):l.drop j=l.getD j Ϛ::l.drop (j+1):=by
 simp_all
end
section
set_option maxRecDepth 100000
set_option maxHeartbeats 40000000
def zQS(n:E)(v:U):W5:=B (C<|v<0) (Z 0)<|B (C<|v>=16) (Z 0)<|u (0<=IntKind.u64.wrap v/\IntKind.u64.wrap v<=(IntKind.i64.bits:U)) (Z<|IntKind.i64.wrap<|1*2^(IntKind.u64.wrap v).toNat) A
def RS(n:E)(v:U):W5:=zQS n v
variable{v:U}{n:E}
def oc{r:U}(h:RS n v=Z r):EQ 63 [.i v] [] (.i r) [] D:=by
 refine ot Tryz.func63 λϜ N=>?_
 revert r;apply gO;exact bi 4 (lE AC [2] [])<|bi 7 (lE AC [2] [])<|gi<|lE AC [2] []
def sH:Ac (Ah Tryz.f59 6) [([0,1,2,3,4,5,6,7],8)] [9,10] []:=Z0
def HN:BG:=λi=>match i with
 |6=>.ord [([0,1,2,3,4,5,6,7],8)] [9,10] []
 |_=>.no
inductive Pg where
 |l1
 |l2 (x6:U)
 |l3 (x4:E) (x5:U) (o0:Ξ)
 |l4 (x4:E) (x5 x6:U) (o0:Ξ)
def rP(n:E)(self:Pg->X7)(pos:Ξ):X7:=B (C<|0<(F pos:U)) (self<|.l2 0)<|Z (([]:Ξ),D)
def Zk(n:E)(self:Pg->X7)(pos:Ξ)(x6:U):X7:=B (C<|x6<16) (u ((0:U)<=0/\0<(F pos:U)) ((RS n x6).bind λe=>B (H pos 0 0 != e) (u (AG<|x6+1) (self<|.l2<|x6+1) A)<|B (x6==16) (Z (([]:Ξ),T))<|u ((0=0/\1=F ([x6]:Ξ))/\0<F ([x6]:Ξ)/\F ([x6]:Ξ)<=Aw) (self<|.l3 (F ([x6]:Ξ)) 1 ([x6]:Ξ)) A) A)<|B (x6==16) (Z (([]:Ξ),T))<|u ((0=0/\1=F ([x6]:Ξ))/\0<F ([x6]:Ξ)/\F ([x6]:Ξ)<=Aw) (self<|.l3 (F ([x6]:Ξ)) 1 ([x6]:Ξ)) A
def jA(n:E)(self:Pg->X7)(pos:Ξ)(f:E)(P:U)(o0:Ξ):X7:=B (C<|P<(F pos:U)) (self<|.l4 f P 0 o0)<|u (f=F o0) (Z (o0,D)) A
def Zj(n:E)(self:Pg->X7)(pos:Ξ)(f:E)(P x6:U)(o0:Ξ):X7:=B (C<|x6<16) (u (0<=P/\P<(F pos:U)) ((RS n x6).bind λe=>B (H pos P.toNat 0 != e) (u (AG<|x6+1) (self<|.l4 f P (x6+1) o0) A)<|B (x6==16) (Z (([]:Ξ),T))<|u (((0=0/\1=F ([x6]:Ξ))/\(0=0/\f=F o0)/\F o0+F ([x6]:Ξ)<=Aw)/\AG (P+1)) (self<|.l3 (F o0+F ([x6]:Ξ)) (P+1)<|o0++([x6]:Ξ)) A) A)<|B (x6==16) (Z (([]:Ξ),T))<|u (((0=0/\1=F ([x6]:Ξ))/\(0=0/\f=F o0)/\F o0+F ([x6]:Ξ)<=Aw)/\AG (P+1)) (self<|.l3 (F o0+F ([x6]:Ξ)) (P+1)<|o0++([x6]:Ξ)) A
def zCc(n:E)(self:Pg->X7)(pos:Ξ):X7:=self<|.l1
def DA(pos:Ξ):E->Pg->X7
 |0,_=>A
 |n+1,.l1=>rP n (DA pos n) pos
 |n+1,.l2 x6=>Zk n (DA pos n) pos x6
 |n+1,.l3 f P o0=>jA n (DA pos n) pos f P o0
 |n+1,.l4 f P x6 o0=>Zj n (DA pos n) pos f P x6 o0
def VF(n:E)(pos:Ξ):X7:=zCc n (DA pos n) pos
def zCd(n Ϝ:E)(N:Yd 0)(pos:Ξ)(r:Ξ×ζ):Pg->Prop:=px n Ϝ η N (FQ Tryz.f59 0 (.tup 2<|L1 [.ints r.1,.bool r.2]) []) (Af Tryz.f59) λ
 | .l1=>(0,0,AI 33 [(0,.ints pos),(4,.nils),(5,.i 0)],[])
 | .l2 x6=>(1,2,AI 33 [(0,.ints pos),(4,.nils),(5,.i 0),(6,.i x6)],[])
 | .l3 f P o0=>(0,0,AI 33 [(0,.ints pos),(4,.msl 0 1 0 f),(5,.i P)],[oI o0])
 | .l4 f P x6 o0=>(1,2,AI 33 [(0,.ints pos),(4,.msl 0 1 0 f),(5,.i P),(6,.i x6)],[oI o0])
def zCe(Ϝ:E)(N:Yd 0)(pos:Ξ):Al (DA pos) (zCd · Ϝ N pos):=ia (λ_=>rfl) λn G s r h=>by
 cases s
 case l1=>
  intro o j;refine rd j λo j=>?_
  revert r;apply gO;exact bi 10 (lN HN [] (G _ _ · o n j χ))<|lF λp=>el HN [2,3] [] p [] H0 [.nils,.bool D]<|AO.tupL (l:=[.nils,.bool D]) (l':=[.ints ([]:Ξ),.bool D]) rfl ⟨AO.ints_nil,Ab,trivial⟩
 case l2 x6=>
  intro o w j z;have j:=zCG j;refine rd z λw z=>?_
  revert r;apply gO;exact jg sH (bi 14 (gi (cf oc [] λ_=>bi 22 (gw 25 (lG HN [] (G _ _ · o w j z))) (bi 27 (lF λp=>el HN [2,3] [] p [] H0 [.nils,.bool T]<|AO.tupL (l:=[.nils,.bool T]) (l':=[.ints ([]:Ξ),.bool T]) rfl ⟨AO.ints_nil,Ab,trivial⟩) (gi (lG HN [1] (G _ _ · o j)))))) (bi 27 (lF λp=>el HN [2,3] [] p [] H0 [.nils,.bool T]<|AO.tupL (l:=[.nils,.bool T]) (l':=[.ints ([]:Ξ),.bool T]) rfl ⟨AO.ints_nil,Ab,trivial⟩) (gi (lG HN [1] (G _ _ · o j)))))
 case l3 x4 x5 o0=>
  intro o j;refine rd j λo j=>?_
  revert r;apply gO;exact bi 10 (lN HN [0] (G _ _ · o n j χ))<|gn λa=>lF λp=>ez HN [2,3] [0] p [0]<|H0.g a
 case l4 x4 x5 x6 o0=>
  intro o w j z;have j:=zCG j;refine rd z λw z=>?_
  revert r;apply gO;exact jg sH (bi 14 (gi (cf oc [oI o0] λ_=>bi 22 (gw 25 (lG HN [0] (G _ _ · o w j z))) (bi 27 (lF λp=>el HN [2,3] [] p [] H0 [.nils,.bool T]<|AO.tupL (l:=[.nils,.bool T]) (l':=[.ints ([]:Ξ),.bool T]) rfl ⟨AO.ints_nil,Ab,trivial⟩) (gc (gi (gw 12 (lG HN [2] (G _ _ · o j)))))))) (bi 27 (lF λp=>el HN [2,3] [] p [] H0 [.nils,.bool T]<|AO.tupL (l:=[.nils,.bool T]) (l':=[.ints ([]:Ξ),.bool T]) rfl ⟨AO.ints_nil,Ab,trivial⟩) (gc (gi (gw 12 (lG HN [2] (G _ _ · o j)))))))
variable{pos:Ξ}
def zCb{r:Ξ×ζ}(h:VF n pos=Z r):EQ 59 [.ints pos] [] (.tup 2<|L1 [.ints r.1,.bool r.2]) [] D:=by
 refine ot Tryz.func59 λϜ N=>?_
 revert r;apply gO;exact lN HN [] ((zCe Ϝ N pos n) _ _ · n χ)
def TQ(n:E)(pos:Ξ):W6:=(Jv n pos).bind λe=>B e (u (((F pos:U):U)=(F pos:U)/\0<=(F pos:U)/\((F pos:U):U)<=1000000000000) (u (F pos=F (d (F pos) (0:U))) (Z<|d (F pos) (0:U)) A) A)<|Z pos
def cU(n:E)(pos:Ξ):W6:=TQ n pos
def vU{r:Ξ}(h:cU n pos=Z r):EQ 97 [.ints pos] [] (.ints r) [] D:=by
 unfold cU TQ at h;refine ot Tryz.func97 λϜ N=>?_
 revert r;apply gO;exact cf WB [] λ_=>bi 4 (gi<|gn λs=>lF λp=>ez AC [2] [0] p [0]<|H0.g s)<|lE AC [2] []
def gQ(n:E)(q:AA)(pos:Ξ)(cell v h:U):X8:=(Pp n q pos).bind λe=>B (e != 0) (Z (([]:Ξ),e))<|B (C<|cell<0) (Z (([]:Ξ),1))<|B (C<|cell>=q.ce) (Z (([]:Ξ),1))<|B (C<|v<0) (Z (([]:Ξ),1))<|B (C<|v>=q.sy) (Z (([]:Ξ),1))<|u ((True/\0<F pos/\F pos<=Aw)/\(0<=cell/\cell<(F pos:U))/\0+cell.toNat<F pos) (u (F pos=F (pos.set (0+cell.toNat)<|bits .and .i64 (H pos (0+cell.toNat) 0) h)) ((cU n<|pos.set (0+cell.toNat)<|bits .and .i64 (H pos (0+cell.toNat) 0) h).bind λr=>Z (r,0)) A) A
def oU(n:E)(q:AA)(pos:Ξ)(cell v h:U):X8:=gQ n q pos cell v h
variable{r:Ξ×U}{cell:U}{q:AA}
def zQD{a:U}(h:oU n q pos cell v a=Z r):EQ 62 [.agg 5<|L1<|AJ q,.ints pos,.i cell,.i v,.i a] [] (.tup 2<|L1 [.ints r.1,.i r.2]) [] D:=by
 unfold oU gQ at h;refine ot Tryz.func62 λϜ N=>?_
 revert r;apply gO
 exact cf jX [oC<|AJ q] λe=>bi 18 (lF λp=>el AC [10,11] [] p [] H0 [.nils,.i e]<|AO.tupL (l:=[.nils,.i e]) (l':=[.ints ([]:Ξ),.i e]) rfl ⟨AO.ints_nil,Ab,trivial⟩)<|bi 21 (lF λp=>el AC [10,11] [] p [] H0 [.nils,.i 1]<|AO.tupL (l:=[.nils,.i 1]) (l':=[.ints ([]:Ξ),.i 1]) rfl ⟨AO.ints_nil,Ab,trivial⟩)<|bi 26 (lF λp=>el AC [10,11] [] p [] H0 [.nils,.i 1]<|AO.tupL (l:=[.nils,.i 1]) (l':=[.ints ([]:Ξ),.i 1]) rfl ⟨AO.ints_nil,Ab,trivial⟩)<|bi 30 (lF λp=>el AC [10,11] [] p [] H0 [.nils,.i 1]<|AO.tupL (l:=[.nils,.i 1]) (l':=[.ints ([]:Ξ),.i 1]) rfl ⟨AO.ints_nil,Ab,trivial⟩)<|bi 36 (lF λp=>el AC [10,11] [] p [] H0 [.nils,.i 1]<|AO.tupL (l:=[.nils,.i 1]) (l':=[.ints ([]:Ξ),.i 1]) rfl ⟨AO.ints_nil,Ab,trivial⟩)<|gc<|gi<|gc<|gn λs=>jg s<|gn λy=>jg y<|jg s<|jg y (gn λb=>λp r h=>by
  refine gz (AK 9 AC) [1] p [0] (H0.g b) (CW (Af Tryz.f62) 9 []) (AI 52 [(13,.ints<|pos.set (0+cell.toNat)<|bits .and .i64 (H pos (0+cell.toNat) 0) a)]) [A] ?_;revert r;apply gO;exact cf vU [A] λ_=>lE AC [10,11] [])
def zEV:Ac (Ah Tryz.f46 1) [([0,1,2,3,4],5),([],6)] [7,8,9,10] []:=Z0
def zC3:BG:=λi=>match i with
 |1=>.ord [([0,1,2,3,4],5),([],6)] [7,8,9,10] []
 |_=>.no
def zOF(n:E)(q:AA)(pos:Ξ)(cell v:U):X8:=(RS n v).bind λe=>(oU n q pos cell v e).bind λr=>Z (r.1,r.2)
def Q4(n:E)(q:AA)(pos:Ξ)(cell v:U):X8:=zOF n q pos cell v
def ym(h:Q4 n q pos cell v=Z r):EQ 46 [.agg 5<|L1<|AJ q,.ints pos,.i cell,.i v] [] (.tup 2<|L1 [.ints r.1,.i r.2]) [] D:=by
 refine ot Tryz.func46 λϜ N=>?_
 revert r;apply gO;exact jg zEV<|cf oc [oC<|AJ q] λ_=>cf zQD [oC<|AJ q] λ_=>lE zC3 [8,9] []
end
section
variable{q:AA}{x:Ξ}{n c s:E}
def oa{s:E}(p:s<16):RS n (s:U)=Z ((2^s:E):U):=by
 have e:∀s:E,s<16->RS 0 (s:U)=Z ((2^s:E):U):=Z6
 exact e s p
theorem zQR{x:U}(c:Sm 16 x){s:E}(p:s<16):x=((2^s:E):U)↔Bz x 0= [s]:=by
 constructor
 ·intro e;have nd:=zCv (x:=x) (i:=0)
  have all:∀i,i∈Bz x 0↔i=s:=λi=>by
   rw[cq,e];constructor
   ·rintro⟨f,g⟩;rw[PX Z2]at g
    grind
   ·rintro rfl
    grind[PX]
  generalize Bz x 0=l at*
  match l with
  |[]=>simp_all
  |[a]=>rw[(all a).1 Z3]
  |a::b::l=>
   have f:=(all a).1 Z3
   simp_all
 ·intro e
  have w:Sm 16 ((2^s:E):U):=by
   have:∀s:E,s<16->0<=((2^s:E):U)/\((2^s:E):U)<2^16:=Z6
   exact this s p
  refine Iz (c.in64 Z6) (w.in64 Z6) λi hi=>?_
  rw[PX hi];rcases zK8 i 16 with Mq|Mq
  ·have:i∈Bz x 0↔i=s:=by rw[e];simp
   grind[cq]
  ·rw[c.hi Mq]
   grind
def EX(x:U):E:=match Bz x 0 with
 |[s]=>s
 |_=>16
def vO{x:U}{s:E}(h:Bz x 0= [s]):EX x=s/\s<16:=⟨by unfold EX;rw[h],Zt<|by rw[h];simp⟩
theorem vN{x:U}(hx:Sm 16 x){i:E}(hi:i<16):(x != ((2^i:E):U))=C (EX x≠i):=by
 grind[zQR,EX]
theorem jC{x:U}{l:Ξ}:Db (x::l)=u (EX x=16) A ((Db l).map λr=>(EX x:U)::r):=by
 have:Db (x::l)=match Bz x 0 with
  |[s]=>(Db l).map λr=>(s:U)::r
  |_=>A:=rfl
 rw[this];unfold EX;rcases h:Bz x 0 with _|⟨s,_|⟨b,l'⟩⟩
 ·rfl
 ·have:=Zt (x:=x) (s:=s) (by rw[h];simp)
  grind
 ·rfl
theorem rR{j:E}(h:Eu q x)(l:j<F x){g:Ξ}{r:Ξ×ζ}(o:F g<=256)
 (a:EX (H x j 0)≠16->Ev (λn=>DA x n<|.l3 (F g+1) ((j:U)+1)<|g++[(EX<|H x j 0:U)]) r) (b:EX (H x j 0)=16->r=([],T)):
 ∀(k i:E),i+k=16->i<=EX (H x j 0)->Ev (λn=>DA x n<|.l4 (F g) (j:U) (i:U) g) r
 |0,i,e,hi=>by
  have c:=h.len256
  have nT:EX (H x j 0)<=16:=by
   unfold EX;split
   ·rename_i s p;exact Nat.le_of_lt (vO p).2
   ·exact zI1 _
  rw[b Z2]
  simp_all[Ev.one,Zj,DA]
 |k+1,i,e,hi=>by
  have c:=h.len256;have ϙ:(1000000000000:E)=Aw:=rfl
  have step:∀n,DA x (n+1) (.l4 (F g) (j:U) (i:U) g)=B (C<|EX (H x j 0)≠i) (DA x n<|.l4 (F g) (j:U) ((i+1:E):U) g) (DA x n<|.l3 (F g+1) ((j:U)+1)<|g++[(i:U)]):=λn=>by
   show Zj n (DA x n) x (F g) (j:U) (i:U) g=_
   unfold Zj;rw[zAB Z2,zAG,zAF ⟨Z2,Z2⟩,oa Z2,zAC,u8,vN (h.sm16 j l) Z2,zAF<|AZ.2 ⟨Z2,Z2⟩,show((i:U)==16)=T from zBE.2 Z2,zAD,zAF ⟨⟨⟨rfl,rfl⟩,⟨rfl,rfl⟩,Z7⟩,AZ.2 ⟨Z2,Z2⟩⟩,show((i+1:E):U)=(i:U)+1 by omega];rfl
  by_cases p:EX (H x j 0)=i
  ·refine AR.ev (m:=DA x) (AR.one λn=>(step n).trans ?_)<|a Z2
   grind
  ·refine AR.ev (m:=DA x) (AR.one λn=>(step n).trans ?_)<|rR h l o a b k (i+1) Z2 Z2
   grind
theorem rS(h:Eu q x):∀(k j:E) (g:Ξ),j+k=F x->F g=j->Ev (λn=>DA x n<|.l3 (F g) (j:U) g) (FZ g<|Db<|x.drop j)
 |0,j,g,e,o=>by
  simp_all[Ev.one,jA,DA,Db,FZ]
 |k+1,j,g,e,o=>by
  have h256:=h.len256;have l:j<F x:=Z2
  refine AR.ev (m:=DA x) (b:=.l4 (F g) (j:U) 0 g) (AR.one λn=>?_) ?_
  ·simp_all[jA,DA]
  rw[zOo (Ϛ:=0) l,jC];refine rR h l Z2 (λa=>?_) (λa=>by rw[zAF a];rfl) 16 0 Z2<|zK5 _;rw[zJz a];have c:=rS h k (j+1) (g++[(EX<|H x j 0:U)]) Z2 (by simp[o]);rw[zKp]at c;cases p:Db (x.drop<|j+1)with
  |none=>rw[p]at c;exact c
  |some r=>
   grind[FZ]
theorem rT(h:Eu q x):∀(k i:E),i+k=16->i<=EX (H x 0 0)->Ev (λn=>DA x n<|.l2 (i:U)) (FZ []<|Db x)
 |0,i,e,hi=>by
  have c:=h.len256
  have o:EX (H x 0 0)<=16:=by
   unfold EX;split
   ·rename_i s p;exact Nat.le_of_lt (vO p).2
   ·exact zI1 _
  obtain⟨y,l,rfl⟩:∃y l,x=y::l:=by
   cases x with
   |nil=>simp at c
   |cons y l=>exact⟨y,l,rfl⟩
  have o:EX y<=16:=o;have hi:i<=EX y:=hi;rw[jC,zAF Z2];refine Ev.one λn=>?_
  grind[Zk,DA,FZ]
 |k+1,i,e,hi=>by
  have c:=h.len256;have ϙ:(1000000000000:E)=Aw:=rfl
  have step:∀n,DA x (n+1) (.l2 (i:U))=B (C<|EX (H x 0 0)≠i) (DA x n<|.l2 ((i+1:E):U)) (DA x n<|.l3 1 1 [(i:U)]):=λn=>by
   show Zk n (DA x n) x (i:U)=_
   unfold Zk;rw[zAB Z2,zAG,zAF ⟨Z2,Z2⟩,oa Z2,zAC,vN (h.sm16 0 c.1) Z2,zAF<|AZ.2 ⟨Z2,Z2⟩,show((i:U)==16)=T from zBE.2 Z2,zAD,zAF ⟨⟨rfl,rfl⟩,Z3,by rw[←ϙ];simp⟩,show((i+1:E):U)=(i:U)+1 by omega];rfl
  by_cases p:EX (H x 0 0)=i
  ·have key:Ev (λn=>DA x n<|.l2 (i:U))<|FZ [(i:U)]<|Db<|x.drop 1:=AR.ev (m:=DA x) (AR.one λn=>(step n).trans Z4)<|rS h (F x-1) 1 [(i:U)] Z2 rfl
   obtain⟨y,l,rfl⟩:∃y l,x=y::l:=by
    cases x with
    |nil=>simp at c
    |cons y l=>exact⟨y,l,rfl⟩
   have r:EX y=i:=p;have key:Ev _<|FZ [(i:U)]<|Db l:=key;rw[jC,zJz Z2,r];cases a:Db l <;> (rw[a]at key;exact key)
  ·refine AR.ev (m:=DA x) (AR.one λn=>(step n).trans ?_)<|rT h k (i+1) Z2 Z2
   grind
theorem zCS(h:Eu q x):Ev (λn=>VF n x)<|FZ []<|Db x:=by
 have h256:=h.len256;refine Ev.eq (g:=λn=>DA x n .l1) (AR.ev (m:=DA x) (b:=.l2 0) (AR.one λn=>?_)<|rT h 16 0 Z2<|zK5 _) λn=>rfl
 simp_all[rP,DA]
theorem zOE(h:Eu q x)(hc:c<F x)(hs:s<q.sy.toNat):Ev (λn=>Q4 n q x (c:U) (s:U)) (GL x c s,0):=by
 have h256:=h.len256;have hk:=h.k;have Ap:=h.len;have ϙ:(1000000000000:E)=Aw:=rfl;have lb:(256:E)<=LB:=Z6
 have h0:JA q x=0:=h.check;obtain⟨N,a⟩:∃N,∀n,N<=n->Pp n q x=Z 0:=⟨CX q+F x+1,λn b=>by rw[←h0];exact jY h.fit Z2 Z2 Z2⟩
 have e:bits .and .i64 (H x c 0) ((2^s:E):U)=IntKind.i64.wrap (bits .and .u64 (IntKind.u64.wrap<|H x c 0)<|IntKind.u64.wrap<|1*2^s):=
  Iz (D5 _ _ _) (Rt _) λi hi=>by grind[FG,qS,PX]
 refine⟨N+300,λn b=>?_⟩
 show(RS n (s:U)).bind _=_
 rw[oa Z2,zAC]
 show(gQ n q x (c:U) (s:U) ((2^s:E):U)).bind _=_
 unfold gQ;rw[a n Z2,zAC]
 show(B (C<|(c:U)<0) _ (_:X8)).bind _=_
 rw[zAE Z2,zAD,zAE Z2,zAD,zAE Z2,zAD,zAE Z2,zAD,u8,zKx,zAF ⟨⟨trivial,Z2,Z2⟩,⟨Z2,Z2⟩,hc⟩,zAF Z3,e]
 show((TQ n<|La x c s).bind _).bind _=_
 have hl:F (La x c s)=F x:=by simp[La]
 unfold TQ;rw[P8 Z2 Z2,zAC];unfold GL
 grind
end
abbrev zSQ:=@and_congr
section
variable{q:AA}{c:AD}{pos l:Ξ}
variable{j:E}
theorem zIN(ϗ:RW q c pos)(l:j<F pos):(bits .and .i64 (H pos j 0) c.set==H pos j 0)=(bits .andNot .i64 (H pos j 0) c.set==0):=by
 have h:=PZ (S:=c.set) (ϗ.W.sm j l)<|zIX ϗ.W.k Z6
 grind
theorem bH(ϗ:RW q c pos)(W:Ee c q pos)(all:ζ):Ev (λn=>MD n c pos all)<|B all (cB c pos)<|pB c pos:=by
 have h256:=ϗ.h256
 obtain⟨o,⟨a,b⟩,f⟩:=Fl (m:=S0 c pos all) (λi (o:Ω)=>.l1 (i:U) o) (λi o=>F o=F pos/\∀j,j<i->H o j T=H (B all (cB c pos)<|pB c pos) j T) (F pos) (λi o hi g=>by
  obtain⟨a,b⟩:=g;have r:AG<|(i:U)+1:=AZ.2 ⟨Z2,Z2⟩;have hc:=W.len;refine⟨o.set i<|H (B all (cB c pos)<|pB c pos) i T,⟨Z4,λj l=>?_⟩,AR.one λn=>?_⟩
  ·grind
  ·show bG n (S0 c pos all n) c pos all (i:U) o=_
   unfold bG;simp only[u8,W.id i hi,zKx];rw[zAB Z2,zAG,zAF ⟨⟨Z2,Z2⟩,Z2,Z2⟩,zAF ⟨Z2,r⟩,zAF ⟨Z2,r⟩,zAF ⟨Z2,r⟩];rw[zIN ϗ hi,←vE hi,←zAA hi];have:=W.cp hi
   grind) (F pos) 0 (d (F pos) T) Z2 ⟨zK7,λj l=>τ l<|zBT j⟩
 have e:o=(B all (cB c pos)<|pB c pos):=ny (a.trans<|by grind[cB,pB]) λj l=>b j Z2
 rw[e]at f;refine Ev.eq (f.ev<|Ev.one λn=>?_) λn=>?_
 ·have hc:=W.len
  simp_all[bG,S0]
 ·unfold MD tv
  grind
variable{inn:Ω}
theorem uH(q:F inn<=256):∀(k i:E),i+k=F inn->(∀j,j<i->H inn j T=T)->∃r,Ev (λn=>Nu inn n<|.l1 (i:U)) r/\EJ inn r
 |0,i,e,h=>⟨-1,Ev.one λn=>by
  simp_all[bP,Nu],.inl ⟨rfl,λj l=>h j Z2⟩⟩
 |k+1,i,e,h=>by
  have ε:∀n,Nu inn (n+1) (.l1 (i:U))=B (H inn i T) (Z (i:U)) (Nu inn n<|.l1 ((i+1:E):U)):=λn=>by
   show bP n (Nu inn n) inn (i:U)=_
   unfold bP;rw[zAB Z2,zAG,zAF ⟨Z2,Z2⟩,u8,zAF<|AZ.2 ⟨Z2,Z2⟩];rfl
  cases b:H inn i T
  ·obtain⟨r,a,c⟩:=uH q k (i+1) Z2 λj l=>by
    grind
   exact⟨r,Ev.step 1 (λn=>by rw[ε n,b,zAD]) a,c⟩
  ·exact⟨i,Ev.one λn=>by rw[ε n,b,zAG],.inr ⟨Z2,Z2,Z4,λj l=>h j Z2⟩⟩
def uI(q:F inn<=256):∃r,Ev (λn=>S9 n inn) r/\EJ inn r:=by
 obtain⟨r,a,c⟩:=uH q (F inn) 0 Z2 λj l=>τ l<|zBT j
 exact⟨r,a.eq λn=>rfl,c⟩
variable{r:U}
theorem uX(ϗ:RW q c pos)(W:Ee c q pos)(z:0<=r)(e:EJ (cB c pos) r):∃l,Ev (λn=>Ny n q c pos (pB c pos) r) l/\RL pos (λj s=>tb (H pos j 0) s=D/\E0 c q pos j s) l:=by
 have a:=ϗ.h256;have t:=W.gl;have K:=e;obtain⟨Qg,p⟩:=K.at z;have k:F (pB c pos)=F q.nb:=by rw[Ha];exact t.symm
 have b:=W.cp Z2 p;have wip:∀{j s},E0 c q pos j s↔H (pB c pos) j T=D/\tb c.set s=D/\¬Rc q.nb (pB c pos) r j:=pj W.g k z e;obtain⟨near,R,hn,hm⟩:=zHc W.g k z Z2 b;have LBd:(256:E)<=LB:=Z6
 obtain⟨l,v,g⟩:=Fl (m:=Kz q c pos (pB c pos) r) (λi (l:Ξ)=>.l1 l near (i:U)) (λi l=>RL pos (λj s=>j<i/\tb (H pos j 0) s=D/\E0 c q pos j s) l) (F pos) (λi l hi f=>by
  have r1:AG<|(i:U)+1:=AZ.2 ⟨Z2,Z2⟩
  have ε:∀n,257<=n->Kz q c pos (pB c pos) r (n+1) (.l1 l near (i:U))=B (H (pB c pos) i T&&!near.contains (i:U)) ((Fc n l (i:U)<|bits .and .i64 (H pos i 0) c.set).bind λy=>Kz q c pos (pB c pos) r n<|.l1 y near ((i+1:E):U)) (Kz q c pos (pB c pos) r n<|.l1 l near ((i+1:E):U)):=λn P=>by
   show bc n (Kz q c pos (pB c pos) r n) q c pos (pB c pos) r l near (i:U)=_
   unfold bc;rw[zAB Z2,zAG,zAF ⟨Z2,Z2⟩,xx Z2 Z2,zAC,zAF ⟨Z2,Z2⟩,u8]
   grind
  have Ϙ:near.contains (i:U)=D↔Rc q.nb (pB c pos) r i:=Z4
  cases o:H (pB c pos) i T&&!near.contains (i:U)
  ·refine⟨l,f.congr λj s=>⟨λ⟨w,x,G⟩=>⟨?_,x,G⟩,λ⟨w,x⟩=>⟨Z2,x⟩⟩,AR.oneN 257 λn P=>by rw[ε n P,o,zAD]⟩
   grind
  ·obtain⟨l',f1,V⟩:=f.lose a (cell:=(i:U)) (ss:=bits .and .i64 (H pos i 0) c.set) Z2 Z2;have I:=o;rw[zAx,zKr,←zNB,Ϙ]at I;refine⟨l',V.congr λj s=>?_,AR.oneN 257 λn P=>Z4⟩;rw[FG,zAx]
   grind) (F pos) 0 (d (F pos) 0) Z2<|(RL.zero pos).congr λj s=>⟨λh=>τ h.1<|zBT j,λh=>h.elim⟩
 refine⟨l,?_,v.congr λj s=>⟨λh=>⟨?_,h⟩,λh=>h.2⟩⟩
 ·refine Ev.eq (g:=λn=>(WD n q.nb (pB c pos) r).bind λJ=>Kz q c pos (pB c pos) r n<|.l1 (d (F pos) (0:U)) J.1 0) (Ev.bind R<|g.ev<|Ev.one λn=>?_) λn=>?_
  ·simp_all[bc,Kz]
  ·show Ny n q c pos (pB c pos) r=_
   unfold Ny uW
   grind
 grind
theorem zIJ(h:H (pB c pos) j T=D):j<F pos:=by
 grind[Ha]
theorem zA(hF:EJ (cB c pos) r)(h:r<0):(∀j,H (cB c pos) j T=T)/\∀a s,¬E0 c q pos a s:=by
 grind[E0,EJ]
theorem zHY(ϗ:RW q c pos)(W:Ee c q pos):Ag (λn=>kI n q c pos)<|RL pos λj s=>tb (H pos j 0) s=D/\KN c q pos j s:=by
 have f:=ϗ.h256;have I:=W.gl;obtain⟨r,P,J⟩:=uI (inn:=cB c pos) (by rw[IL];exact f);have Q:F (pB c pos)=F q.nb:=by rw[Ha];exact I.symm
 have R:F (cB c pos)=F q.nb:=by rw[IL];exact I.symm
 refine Ag.bind (b:=λn (y1:Ω)=>(MD n c pos D).bind λK=>_) (bH ϗ W T) (Ag.bind (b:=λn (K:Ω)=>(S9 n K).bind λy3=>_) (bH ϗ W D)<|Ag.bind (b:=λn (y3:U)=>B (C<|y3<0) _ _) P ?_)
 by_cases h0:r<0
 ·obtain⟨t,v⟩:=zA (q:=q) J h0;refine(Ev.now (r:=d (F pos) 0) λn=>?_).p<|(RL.zero pos).congr λj s=>⟨λ⟨_,h⟩=>h.elim (v j s) λ⟨_,_,h3,_⟩=>?_,λh=>h.elim⟩
  ·grind
  grind[Sp]
 ·obtain⟨l0,V,X⟩:=uX ϗ W Z2 J
  obtain⟨l,Y,g⟩:=Fl (m:=Ky q c pos) (λi (l:Ξ)=>.l1 (pB c pos) (cB c pos) l (i:U)) (λi l=>RL pos (λj s=>tb (H pos j 0) s=D/\(E0 c q pos j s∨(j<i/\H (pB c pos) j T=D/\H (cB c pos) j T=T/\Sp q.nb (pB c pos) (cB c pos) (j:U)/\tb c.set s=T))) l) (F pos) (λi l hi w=>by
   have r1:AG<|(i:U)+1:=AZ.2 ⟨Z2,Z2⟩;obtain⟨N,hN⟩:=zGd W.g Q R (a:=i) Z2;have hx:=ϗ.W.sm i hi;have hs:=PZ (S:=c.set) hx<|zIX ϗ.W.k Z6;have r2:AG<|H pos i 0-bits .and .i64 (H pos i 0) c.set:=by rw[hs];exact AZ.2<|D5 _ _ _
   have step:∀b:ζ,(b=D↔H (pB c pos) i T=D/\Sp q.nb (pB c pos) (cB c pos) (i:U))->∀n,N<=n->Ky q c pos (n+1) (.l1 (pB c pos) (cB c pos) l (i:U))=B (H (pB c pos) i T&&!H (cB c pos) i T&&b) ((Fc n l (i:U)<|bits .andNot .i64 (H pos i 0) c.set).bind λy=>Ky q c pos n<|.l1 (pB c pos) (cB c pos) y ((i+1:E):U)) (Ky q c pos n<|.l1 (pB c pos) (cB c pos) l ((i+1:E):U)):=λb hb n o=>by
    obtain⟨y,t,v⟩:=hN n o;have t:a7 n q.nb (pB c pos) (cB c pos) (i:U)=Z y:=t;have e:y.1=b:=by rw[zLX,v,hb]
    show bX n (Ky q c pos n) q c pos (pB c pos) (cB c pos) l (i:U)=_
    unfold bX
    grind
   by_cases z:H (pB c pos) i T=D/\Sp q.nb (pB c pos) (cB c pos) (i:U)
   ·have st:=step D ⟨λ_=>z,λ_=>rfl⟩;cases hc:H (cB c pos) i T
    ·obtain⟨l',f1,f2⟩:=w.lose f (cell:=(i:U)) (ss:=bits .andNot .i64 (H pos i 0) c.set) Z2 Z2;refine⟨l',f2.congr λj s=>?_,AR.oneN N λn o=>Z4⟩;rw[IT,zAx,zKr]
     grind
    ·refine⟨l,w.congr λj s=>zSQ Iff.rfl<|zSE Iff.rfl ⟨λ⟨G,x⟩=>⟨?_,x⟩,λ⟨G,x⟩=>⟨Z2,x⟩⟩,AR.oneN N λn o=>by rw[st n o,z.1,hc];rfl⟩
     grind
   ·have st:=step T ⟨λh=>(by cases h),λh=>τ h z⟩;refine⟨l,w.congr λj s=>zSQ Iff.rfl<|zSE Iff.rfl ⟨λ⟨G,x⟩=>⟨?_,x⟩,λ⟨G,x⟩=>⟨Z2,x⟩⟩,AR.oneN N λn o=>Z4⟩
    grind) (F pos) 0 l0 Z2<|X.congr λj s=>zSQ Iff.rfl ⟨λh=>h.elim id λh=>τ h.1<|zBT j,.inl⟩
  refine Ag.eq (g:=λn=>(Ny n q c pos (pB c pos) r).bind λy4=>Ky q c pos n<|.l1 (pB c pos) (cB c pos) y4 0) (Ag.bind V<|(g.ev<|Ev.one (r:=l) λn=>?_).p<|Y.congr λj s=>zSQ Iff.rfl<|zSE Iff.rfl ⟨λh=>⟨zIJ h.1,h⟩,λh=>h.2⟩) λn=>?_
  ·simp_all[bX,Ky]
  grind
end
section
variable{q:AA}{c:AD}{pos l:Ξ}
def Dy(g:O Ξ)(inn:Ω)(v:E):Ξ:=(nb g v).filter λx=>H inn x.toNat T
variable{v:E}{inn:Ω}
def cd{g:O Ξ}:F (Dy g inn v)=Bn g inn v:=zMk.symm
theorem jy(G:Gr q.nb)(m:F inn=F q.nb)(t:v<F q.nb):∀(k i n:E) (o:Ξ),i+k=F (nb q.nb v)->k<n->F o<=i->Su q (v:U) inn n (.l1 (F o) (i:U) o)=Z (o++((nb q.nb v).drop i).filter λx=>H inn x.toNat T)
 |0,i,n+1,o,e,_,K=>by
  simp_all[a8,Su,nb]
 |k+1,i,n+1,o,e,hn,K=>by
  have ϙ:Aw=1000000000000:=rfl;have R:nb q.nb (v:U)=H q.nb v []:=by grind[nb]
  have IA:=G.row v Z2 Z2;have hi:i<F (nb q.nb v):=Z2
  have a:=G.rng v Z2 Z2 _<|LX hi;have r:AG<|(i:U)+1:=AZ.2 ⟨Z2,Z2⟩
  have I:(nb q.nb v).drop i=H (nb q.nb v) i 0::(nb q.nb v).drop (i+1):=by
   simp_all
  show a8 n (Su q (v:U) inn n) q (v:U) inn (F o) (i:U) o=_
  unfold a8;simp only[u8,←R];rw[zAF ⟨Z2,Z2⟩,zAB Z2,zAG,zAF ⟨⟨Z2,Z2⟩,a.1,Z2⟩,I,zRe];cases hb:H inn (H (nb q.nb v) i 0).toNat T
  ·rw[zAD,zAF r,zJz Z6];exact jy G m t k (i+1) n o Z2 Z2 Z2
  ·rw[zAG,zAF ⟨⟨⟨trivial,rfl⟩,⟨trivial,trivial⟩,Z4⟩,r⟩,zAF rfl];have:=jy G m t k (i+1) n (o++[H (nb q.nb v) i 0]) Z2 Z2 Z7
   grind
def tY{n:E}(G:Gr q.nb)(m:F inn=F q.nb)(t:v<F q.nb)(hn:257<=n):bB n q (v:U) inn=Z (Dy q.nb inn v):=by
 have IA:=G.row v Z2 Z2;have:=jy G m t (F<|nb q.nb v) 0 n [] Z2 Z2<|zI1 _;exact this
def OJ(c:AD)(q:AA)(pos:Ξ)(v j a s:E):Prop:=(∃i,i<j/\H (Dy q.nb (pB c pos) v) i 0=(a:U)/\i<F (Dy q.nb (pB c pos) v))/\((Bn q.nb (pB c pos) v=2/\tb c.set s=T)∨(Bn q.nb (cB c pos) v=2/\H (cB c pos) a T=T/\tb c.set s=D))
theorem zIu(W:Ee c q pos){a s:E}(hv:v<F pos)(hc:H (cB c pos) v T=D):OJ c q pos v (F<|Dy q.nb (pB c pos) v) a s↔OK c q pos v a s:=by
 unfold OJ OK
 have:(∃i,i<F (Dy q.nb (pB c pos) v)/\H (Dy q.nb (pB c pos) v) i 0=(a:U)/\i<F (Dy q.nb (pB c pos) v))↔(a:U)∈nb q.nb v/\H (pB c pos) a T=D:=by
  constructor
  ·grind[LX,Int.toNat_natCast,Dy]
  ·rintro⟨b,h2⟩;obtain⟨i,hi,e⟩:=zLD (zM0.2 ⟨b,Z4⟩:(a:U)∈Dy q.nb (pB c pos) v);have hi:i<F (Dy q.nb (pB c pos) v):=hi;exact⟨i,hi,by grind[Dy],hi⟩
 grind
theorem zG7(ϗ:RW q c pos)(W:Ee c q pos){ϒ:E->Ψ}(hv:v<F pos)(x:RL pos ϒ l):∃l',RL pos (λj s=>ϒ j s∨(tb (H pos j 0) s=D/\OJ c q pos v (F<|Dy q.nb (pB c pos) v) j s)) l'/\
 AR (D9 q c pos) (.l2 (pB c pos) (cB c pos) l (v:U) (Dy q.nb (pB c pos) v) (Dy q.nb (cB c pos) v) 0) (.l1 (pB c pos) (cB c pos) l' ((v+1:E):U)):=by
 have b:=ϗ.h256;have Ez:=W.gl;have G:=W.g.gr;have nQ:F (cB c pos)=F pos:=IL;have y:=G.row v Z2 Z2;have z:F (Dy q.nb (pB c pos) v)=Bn q.nb (pB c pos) v:=cd;have Q:F (Dy q.nb (cB c pos) v)=Bn q.nb (cB c pos) v:=cd;have K:F (Dy q.nb (pB c pos) v)<=256:=zIX (zR8 _ _) y
 generalize t:Dy q.nb (pB c pos) v=P at z K⊢
 generalize hC:Dy q.nb (cB c pos) v=Ϙ at Q⊢
 have ι:∀j a s,OJ c q pos v j a s↔(∃i,i<j/\H P i 0=(a:U)/\i<F P)/\((Bn q.nb (pB c pos) v=2/\tb c.set s=T)∨(Bn q.nb (cB c pos) v=2/\H (cB c pos) a T=T/\tb c.set s=D)):=λj a s=>by
  unfold OJ;rw[t]
 obtain⟨l',X,g⟩:=Fl (m:=D9 q c pos) (λj (l:Ξ)=>.l2 (pB c pos) (cB c pos) l (v:U) P Ϙ (j:U)) (λj l=>RL pos (λa s=>ϒ a s∨(tb (H pos a 0) s=D/\OJ c q pos v j a s)) l) (F P) (λj l I r=>by
  have r1:AG<|(j:U)+1:=AZ.2 ⟨Z2,Z2⟩
  have J:0<=H P j 0/\H P j 0<(F q.nb:U):=by
   have w:=LX I;rw[←t]at w⊢;exact G.rng v Z2 Z2 _ (zM0.1 w).1
  obtain⟨ϛ,eu⟩:=zNA J.1;have f:ϛ<F pos:=Z2
  have N:=PZ (S:=c.set) (ϗ.W.sm ϛ f)<|zIX ϗ.W.k Z6;have r2:AG<|H pos ϛ 0-bits .and .i64 (H pos ϛ 0) c.set:=by rw[N];exact AZ.2<|D5 _ _ _
  have Y:∃R,RL pos (λa s=>(ϒ a s∨(tb (H pos a 0) s=D/\OJ c q pos v j a s))∨(a=ϛ/\tb (H pos a 0) s=D/\Bn q.nb (pB c pos) v=2/\tb c.set s=T)) R/\AR (D9 q c pos) (.l2 (pB c pos) (cB c pos) l (v:U) P Ϙ (j:U)) (.l3 (pB c pos) (cB c pos) R (v:U) P Ϙ (j:U)):=by
   by_cases o:Bn q.nb (pB c pos) v=2
   ·obtain⟨R,f1,V⟩:=r.lose b (cell:=(ϛ:U)) (ss:=bits .andNot .i64 (H pos ϛ 0) c.set) Z2 Z2;refine⟨R,V.congr λa s=>zSE Iff.rfl ?_,AR.one λn=>?_⟩
    ·rw[IT,zAx,zKr]
     grind
    ·show P0 n (D9 q c pos n) q c pos (pB c pos) (cB c pos) l (v:U) P Ϙ (j:U)=_
     unfold P0;simp only[u8,eu]
     grind
   ·refine⟨l,r.congr λa s=>⟨λh=>h.elim id λh=>τ h.2.2.1 o,.inl⟩,AR.one λn=>?_⟩
    show P0 n (D9 q c pos n) q c pos (pB c pos) (cB c pos) l (v:U) P Ϙ (j:U)=_
    unfold P0
    grind
  obtain⟨R,p,g1⟩:=Y
  have S2:∃e,RL pos (λa s=>((ϒ a s∨(tb (H pos a 0) s=D/\OJ c q pos v j a s))∨(a=ϛ/\tb (H pos a 0) s=D/\Bn q.nb (pB c pos) v=2/\tb c.set s=T))∨(a=ϛ/\tb (H pos a 0) s=D/\Bn q.nb (cB c pos) v=2/\H (cB c pos) a T=T/\tb c.set s=D)) e/\AR (D9 q c pos) (.l3 (pB c pos) (cB c pos) R (v:U) P Ϙ (j:U)) (.l4 (pB c pos) (cB c pos) e (v:U) P Ϙ (j:U)):=by
   by_cases o:Bn q.nb (cB c pos) v=2
   ·have ec:((F Ϙ:U)==2)=D:=by rw[zKq];omega
    cases hcb:H (cB c pos) ϛ T
    ·obtain⟨e,f1,V⟩:=p.lose b (cell:=(ϛ:U)) (ss:=bits .and .i64 (H pos ϛ 0) c.set) Z2 Z2;refine⟨e,V.congr λa s=>zSE Iff.rfl ?_,AR.one λn=>?_⟩
     ·rw[FG,zAx]
      grind
     ·show S5 n (D9 q c pos n) q c pos (pB c pos) (cB c pos) R (v:U) P Ϙ (j:U)=_
      simp_all[S5]
    ·refine⟨R,p.congr λa s=>⟨λh=>h.elim id λ⟨p0,_,_,p1,_⟩=>Z4,.inl⟩,AR.one λn=>?_⟩
     simp_all[S5,D9]
   ·refine⟨R,p.congr λa s=>⟨λh=>h.elim id λh=>τ h.2.2.1 o,.inl⟩,AR.one λn=>?_⟩
    show S5 n (D9 q c pos n) q c pos (pB c pos) (cB c pos) R (v:U) P Ϙ (j:U)=_
    unfold S5
    grind
  obtain⟨e,nI,g2⟩:=S2;refine⟨e,nI.congr λa s=>?_,g1.trans<|g2.trans<|AR.one λn=>?_⟩
  ·grind
  simp_all[tz,D9]) (F P) 0 l Z2<|x.congr λa s=>⟨λh=>h.elim id λh=>τ ((ι 0 a s).1 h.2).1 λ⟨i,h,_⟩=>zBT i h,.inl⟩
 refine⟨l',X,AR.trans g<|AR.one λn=>?_⟩
 show P0 n (D9 q c pos n) q c pos (pB c pos) (cB c pos) l' (v:U) P Ϙ (F P:U)=_
 unfold P0;rw[zAE Z2,zAD,zAF<|AZ.2 ⟨Z2,Z2⟩];rfl
theorem t6(ϗ:RW q c pos)(W:Ee c q pos):∀(k v:E) (l:Ξ),v+k=F pos->RL pos (λj s=>tb (H pos j 0) s=D/\(E0 c q pos j s∨∃ϛ,ϛ<v/\OK c q pos ϛ j s)) l->
 Ag (λn=>D9 q c pos n<|.l1 (pB c pos) (cB c pos) l (v:U)) (KR q c pos (λj s=>tb (H pos j 0) s=D/\Wk c q pos j s) (∀ϛ,v<=ϛ->ϛ<F pos->H (cB c pos) ϛ T=D->2<=Bn q.nb (pB c pos) ϛ/\Bn q.nb (cB c pos) ϛ<=2))
 |0,v,l,e,i=>by
  refine(Ev.one (r:=(l,D)) λn=>?_).p ⟨⟨λ_ ϛ b a=>τ a Z2,λ_=>rfl⟩,λ_=>i.congr λj s=>zSQ Iff.rfl<|zSE Iff.rfl ⟨λ⟨ϛ,b,a⟩=>⟨ϛ,Z2,a⟩,λ⟨ϛ,b,a⟩=>⟨ϛ,Z2,a⟩⟩⟩
  simp_all[bJ,D9]
 |k+1,v,l,e,i=>by
  have h256:=ϗ.h256;have Ez:=W.gl;have yH:F (pB c pos)=F pos:=Ha;have nQ:F (cB c pos)=F pos:=IL;have t:AG<|(v:U)+1:=AZ.2 ⟨Z2,Z2⟩;have d1:F (Dy q.nb (pB c pos) v)=Bn q.nb (pB c pos) v:=cd;have d2:F (Dy q.nb (cB c pos) v)=Bn q.nb (cB c pos) v:=cd
  have ε:∀n,257<=n->D9 q c pos (n+1) (.l1 (pB c pos) (cB c pos) l (v:U))=B (!H (cB c pos) v T) (D9 q c pos n<|.l1 (pB c pos) (cB c pos) l ((v+1:E):U)) (B (C<|(F<|Dy q.nb (pB c pos) v:U)<2) (Z (l,T))<|B (C<|(F<|Dy q.nb (cB c pos) v:U)>2) (Z (l,T))<|D9 q c pos n<|.l2 (pB c pos) (cB c pos) l (v:U) (Dy q.nb (pB c pos) v) (Dy q.nb (cB c pos) v) 0):=λn f=>by
   show bJ n (D9 q c pos n) q c pos (pB c pos) (cB c pos) l (v:U)=_
   unfold bJ;rw[zAB Z2,zAG,zAF ⟨Z2,Z2⟩,zAF t,u8,tY W.g.gr Z2 Z2 f,tY W.g.gr Z2 Z2 f];rfl
  have next:∀l',RL pos (λj s=>tb (H pos j 0) s=D/\(E0 c q pos j s∨∃ϛ,ϛ<v+1/\OK c q pos ϛ j s)) l'->(H (cB c pos) v T=D->2<=Bn q.nb (pB c pos) v/\Bn q.nb (cB c pos) v<=2)->Ag (λn=>D9 q c pos n<|.l1 (pB c pos) (cB c pos) l' ((v+1:E):U)) (KR q c pos (λj s=>tb (H pos j 0) s=D/\Wk c q pos j s) (∀ϛ,v<=ϛ->ϛ<F pos->H (cB c pos) ϛ T=D->2<=Bn q.nb (pB c pos) ϛ/\Bn q.nb (cB c pos) ϛ<=2)):=λl' X w=>by
   refine(t6 ϗ W k (v+1) l' Z2 X).mono λr o=>⟨o.1.trans ⟨λh ϛ b a m=>?_,λh ϛ b a m=>h ϛ Z2 a m⟩,o.2⟩
   by_cases x:ϛ=v
   ·subst x;exact w m
   ·exact h ϛ Z2 a m
  cases hc:H (cB c pos) v T
  ·refine AR.pev (AR.oneN 257 λn f=>by rw[ε n f,hc];rfl) (next l (i.congr λj s=>zSQ Iff.rfl<|zSE Iff.rfl ⟨λ⟨ϛ,b,a⟩=>⟨ϛ,?_,a⟩,λ⟨ϛ,b,a⟩=>⟨ϛ,Z2,a⟩⟩) λh=>by rw[hc]at h;cases h)
   grind[OK]
  ·by_cases c1:Bn q.nb (pB c pos) v<2
   ·refine(Ev.oneN (r:=(l,T)) 257 λn f=>?_).p ⟨⟨λh=>(by cases h),λh=>?_⟩,λh=>by cases h⟩
    ·grind
    grind
   ·by_cases c2:Bn q.nb (cB c pos) v>2
    ·refine(Ev.oneN (r:=(l,T)) 257 λn f=>?_).p ⟨⟨λh=>(by cases h),λh=>?_⟩,λh=>by cases h⟩
     ·grind
     grind
    ·obtain⟨l',b,a⟩:=zG7 ϗ W (v:=v) Z2 i;refine AR.pev ((AR.oneN 257 λn f=>Z4).trans a)<|next l' (b.congr λj s=>?_) λ_=>⟨Z2,Z2⟩;rw[zIu W Z2 hc]
     grind
theorem zG5(ϗ:RW q c pos)(W:Ee c q pos):Ag (λn=>kD n q c pos)<|KR q c pos (λj s=>tb (H pos j 0) s=D/\Wk c q pos j s)<|dA c q pos:=by
 have a:=ϗ.h256;obtain⟨r,k,l⟩:=uI (inn:=cB c pos) (by rw[IL];exact a);refine Ag.bind (b:=λn (y1:Ω)=>(MD n c pos D).bind λe=>_) (bH ϗ W T) (Ag.bind (b:=λn (e:Ω)=>(S9 n e).bind λy3=>_) (bH ϗ W D)<|Ag.bind (b:=λn (y3:U)=>B (C<|y3<0) _ _) k ?_)
 by_cases h0:r<0
 ·obtain⟨f,o⟩:=zA (q:=q) l h0;refine(Ev.now (r:=(d (F pos) 0,D)) λn=>?_).p ⟨⟨λ_ v _ h=>(by rw[f]at h;cases h),λ_=>rfl⟩,λ_=>(RL.zero pos).congr λj s=>⟨λ⟨_,h⟩=>h.elim (o j s) λ⟨v,_,m,_⟩=>(by rw[f]at m;cases m),λh=>h.elim⟩⟩
  grind
 ·obtain⟨l0,w,N⟩:=uX ϗ W Z2 l;refine Ag.eq (g:=λn=>(Ny n q c pos (pB c pos) r).bind λQ=>D9 q c pos n<|.l1 (pB c pos) (cB c pos) Q 0) (Ag.bind w<|(t6 ϗ W (F pos) 0 l0 Z2<|N.congr λj s=>zSQ Iff.rfl ⟨λh=>h.elim id λ⟨ϛ,h,_⟩=>τ h<|zBT ϛ,.inl⟩).mono λx i=>⟨i.1.trans ⟨λh v t hc=>h v (zK5 _) t hc,λh v _ t hc=>h v t hc⟩,i.2⟩) λn=>?_
  grind
end
section
open Classical
section
variable{q:AA}{c:AD}{i:U}{pos x:Ξ}
def Br.rw(Ϙ:Br q i pos)(z:DG pos=T):RW q (con q i) pos:=by
 obtain⟨_,a,m,_⟩:=ER Ϙ.valid;have c:=Ϙ.len256;exact⟨Ϙ.work,Ϙ.vals,a,m.1,c.1,c.2,JW.1 z⟩
theorem Br.runs1(Ϙ:Br q i pos):iF<|con q i:=by
 have h:=Ϙ.fine
 simp_all[Er,Ru,iF]
theorem Br.set(Ϙ:Br q i pos):Sm q.sy.toNat (con q i).set:=by
 have h:=Ϙ.fine;unfold Er at h;simp only[zAx,zKv]at h
 grind[Ru,Sm]
structure RK(q:AA)(c:AD)(pos:Ξ)(y:Ξ×ζ):Prop where
 no:y.2=T->¬Uq q c pos
 ok:y.2=D->JB q c pos
 len:y.2=D->F y.1=F pos
 lost:y.2=D->∀j s,j<F pos->tb (H pos j 0) s=D->(tb (H y.1 j 0) s=D↔LC q c pos j s)
variable{ϒ:E->Ψ}
theorem RK.of{ok:Prop}{y:Ξ×ζ}(h:KR q c pos ϒ ok y)(K:ok↔JB q c pos)(b:∀j s,j<F pos->tb (H pos j 0) s=D->(ϒ j s↔LC q c pos j s)):RK q c pos y where
 no:=λa P=>by have:=h.1.2<|K.2 P.ok;rw[a]at this;cases this
 ok:=λa=>K.1 (h.1.1 a)
 len:=λa=>(h.2 a).1.1
 lost:=λa j s l p=>((h.2 a).2 j s).trans<|b j s l p
def WU{k:U}(f:c.kind=k)(a:k≠2)(m:k≠3)(K:k≠5)(b:k≠9):JB q c pos:=⟨λh=>τ (f.symm.trans h) a,λh=>τ (f.symm.trans h) m,λh=>τ (f.symm.trans h) K,λh=>τ (f.symm.trans h) b⟩
variable{j s:E}{ι:E->Ψ}
theorem Yt(hL:∀a s,Dz q c pos a s↔ι a s)(h:(∃a,a<F c.ce/\(H c.ce a 0).toNat=j/\ι a s)↔ϒ j s):ϒ j s↔LC q c pos j s:=by
 grind[LC]
theorem gL(ϗ:RW q c pos){ϖ:E->E->ζ}(N:∀a s,Dz q c pos a s↔ι a s)(hE:∀a s,a<F c.ce->s<q.sy.toNat->tb (AY c pos a) s=D->(ϖ a s=T↔ι a s))(hj:j<F pos)(p:tb (H pos j 0) s=D):Nx q c pos ϖ (F c.ce) j s↔LC q c pos j s:=by
 refine Yt (ι:=ι) (ϒ:=Nx q c pos ϖ<|F c.ce) N ⟨?_,?_⟩
 ·rintro⟨a,b,rfl,h⟩;have hsk:=ϗ.low (ϗ.W.at b) p
  grind[Nx,AY]
 grind[Nx]
def pn(W:Ee c q pos)(N:∀a s,Dz q c pos a s↔ι a s)(l:j<F pos)(p:tb (H pos j 0) s=D):(tb (H pos j 0) s=D/\ι j s)↔LC q c pos j s:=by
 refine Yt (ι:=ι) (ϒ:=λj s=>tb (H pos j 0) s=D/\ι j s) N ⟨?_,?_⟩
 ·rintro⟨a,b,rfl,h⟩;rw[W.id a (by rw[←W.len];exact b),u8]at p⊢;exact⟨p,h⟩
 ·rintro⟨_,h⟩;exact⟨j,by rw[W.len];exact l,by rw[W.id j l,u8],h⟩
theorem zGo(Ϙ:Br q i pos)(K:DG pos=T):Ag (λn=>I7 n q (con q i) pos)<|RK q (con q i) pos:=by
 have ϗ:=Ϙ.rw K;have W:=ϗ.W;have Ij:=W.k;have kc:=OP<|QS Ϙ.kind;have V:=Ϙ.ce.2.1
 generalize z:con q i=c at*
 have plain:∀{f:E->W6} {ϒ:E->Ψ},Ag f (RL pos ϒ)->JB q c pos->(∀j s,j<F pos->tb (H pos j 0) s=D->(ϒ j s↔LC q c pos j s))->Ag (λn=>(f n).bind λG=>Z (G,D)) (RK q c pos):=λ{f ϒ} P Y hD=>by
  obtain⟨N,hN⟩:=P;refine⟨N,λn J=>?_⟩;obtain⟨l,x,o⟩:=hN n J;refine⟨(l,D),Z4,λh=>(by cases h),λ_=>Y,λ_=>o.1.1,λ_ j s v m=>(o.2 j s).trans<|hD j s v m⟩
 have Q:∀{f:E->X7} {ϒ:E->Ψ} {ok:Prop},Ag f (KR q c pos ϒ ok)->(ok↔JB q c pos)->(∀j s,j<F pos->tb (H pos j 0) s=D->(ϒ j s↔LC q c pos j s))->Ag (λn=>(f n).bind λG=>Z (G.1,G.2)) (RK q c pos):=λ{f ϒ ok} P Y hD=>by
  obtain⟨N,hN⟩:=P;refine⟨N,λn J=>?_⟩
  grind[RK.of]
 rcases kc with hk|hk|hk|hk|hk|hk|hk|hk|hk
 ·refine(plain (zHM ϗ) (WU hk Z6 Z6 Z6 Z6) λj s v m=>?_).eq λn=>by grind[I7,Kr]
  refine Yt (ι:=O1 c pos) (ϒ:=bS c pos q.sy.toNat) (λa s=>by unfold Dz;rw[hk];simp) ⟨?_,?_⟩
  ·rintro⟨a,t,rfl,h⟩;exact(uK ϗ t m V).2 h
  ·intro h;obtain⟨a,b,t,hb,x,o,y,I⟩:=h;have h:bS c pos q.sy.toNat (H c.ce a 0).toNat s:=⟨a,b,t,hb,x,o,y,rfl⟩;subst I;exact⟨a,t,rfl,(uK ϗ t m V).1 h⟩
 ·refine(Q (zHT ϗ) ⟨λh=>⟨λ_=>h,λh=>τ (hk.symm.trans h) Z6,λh=>τ (hk.symm.trans h) Z6,λh=>τ (hk.symm.trans h) Z6⟩,λh=>h.1 hk⟩ λj s v m=>?_).eq λn=>by grind[I7,Kr]
  refine Yt (ι:=λa s=>KL c pos a s=D) (ϒ:=Nw c pos<|F c.ce) (λa s=>by unfold Dz;rw[hk];simp) ⟨?_,?_⟩
  ·rintro⟨a,t,rfl,h⟩;refine⟨a,t,rfl,?_⟩;unfold KL at h;simp only[zKu,zAx,zKq,zKr]at h;rcases h with⟨⟨x,o⟩,y⟩|⟨⟨x,o⟩,y⟩
   ·grind[Cn,AY]
   ·exact .inr ⟨x,by simp_all[EZ],m,y⟩
  ·rintro⟨a,t,e,h⟩;refine⟨a,t,e,?_⟩;unfold KL;simp only[zKu,zAx,zKq,zKr];rcases h with⟨x,o,y,I⟩|⟨x,o,y,I⟩
   ·grind[Cn]
   ·refine .inr ⟨⟨x,?_⟩,I⟩;unfold EZ at o;rw[zKu]at o;refine o.elim (λh=>?_) id;rw[lr (zKq.1 h) y]at I;cases I
 ·refine(Q (zGa ϗ) ⟨λh=>⟨λh=>τ (hk.symm.trans h) Z6,λ_=>h,λh=>τ (hk.symm.trans h) Z6,λh=>τ (hk.symm.trans h) Z6⟩,λh=>h.2.1 hk⟩ λj s v m=>?_).eq λn=>by grind[I7,Kr]
  refine Yt (ι:=λa s=>Hv q c pos a s=D) (ϒ:=Ss q c pos<|F c.ce) (λa s=>by unfold Dz;rw[hk];simp) ⟨?_,?_⟩
  ·rintro⟨a,t,rfl,h⟩;exact⟨a,t,rfl,ϗ.low (W.at t) m,m,h⟩
  grind[Ss]
 ·refine(plain (bZ ϗ (ϖ:=λa s=>decide (RE q c pos a s (F c.ce)<|-1)) λa s t m=>?_) (WU hk Z6 Z6 Z6 Z6) λj s v m=>gL ϗ (ι:=λa s=>Jr q c pos a s=D) (λa s=>by unfold Dz;rw[hk];simp) (λa s t _ S=>?_) v m).eq λn=>by grind[I7,Kr]
  ·refine(tj ϗ (a:=a) (s:=s) (F c.ce) (zI1 _)<|-1).eq λn=>?_
   simp_all[Rb]
  simp_all[zGL]
 ·have R:=Ϙ.ru;have X:=Ϙ.runs1;rw[z]at R X;have Hf:=Ϙ.set;rw[z]at Hf;have EA:=tc ϗ R X (a:=F c.ce) (at_:=-1) (inn:=D) (λi hi=>⟨λh=>τ h Z2,λh=>τ h Z2⟩) (F c.ce) (zI1 _) 0 0 (zKw _) Z2 (zKw _) Z6;rw[Nat.sub_self]at EA
  have ho:(F c.ce=0->F c.ru=0)->JB q c pos:=λh=>⟨λh=>τ (hk.symm.trans h) Z6,λh=>τ (hk.symm.trans h) Z6,λ_=>by
   grind[Kk],λh=>τ (hk.symm.trans h) Z6⟩
  have LK:∀a s,Dz q c pos a s↔Jq c pos a s:=λa s=>by unfold Dz;rw[hk];simp
  refine Ag.eq (g:=λn=>(Eh n c pos 0 0 0 (-1) D).bind λG=>B (!G) (Z (pos,T))<|(TD n q c pos).bind λy2=>Z (y2,D)) ?_ λn=>by grind[I7,Kr]
  refine Ag.bind EA ?_
  by_cases hy:RY c pos (F c.ce) D (F c.ce) 0 0
  ·rw[zAB hy];have hy:=(sL X).1 hy;refine(plain (bZ ϗ (ϖ:=λa s=>decide (RY c pos a (tb c.set s) (F c.ce) 0 0)) λa s t m=>?_) (ho hy.1) λj s v m=>gL ϗ (ι:=Jq c pos) LK (λa s t _ S=>?_) v m).eq λn=>rfl
   ·obtain⟨s1,s2,s3⟩:=ϗ.sym m;have EB:=tc ϗ R X (a:=a) (at_:=(a:U)) (inn:=tb c.set s) (λi hi=>⟨λh=>Z2,λh=>Z2⟩) (F c.ce) (zI1 _) 0 0 (zKw _) Z2 (zKw _) Z6;rw[Nat.sub_self]at EB
    grind[Rb,P6]
   grind[zEk,sU]
  ·rw[zAE hy];refine(Ev.now (r:=(pos,T)) λn=>rfl).p ⟨λ_ hA=>hy<|(sL X).2 ⟨λh0=>?_,λh0=>?_⟩,λh=>(by cases h),λh=>(by cases h),λh=>by cases h⟩
   ·have h:=hA.ok.2.2.1 hk
    grind[Kk]
   ·have hc:=W.ce 0 h0;obtain⟨s,_,x,o⟩:=hA.left (H c.ce 0 0).toNat Z2;refine Classical.byContradiction λJ=>o ⟨0,h0,rfl,(LK 0 s).2<|sU.2 λhcn=>J ?_⟩
    cases hb:tb c.set s
    ·grind
    grind
 ·have o:=Ϙ.two;rw[z]at o;have o:=o<|.inl hk;have eo:J3 q c=Ge q c:=by grind[J3]
  refine(plain (bZ ϗ (ϖ:=λa s=>It (QO q c pos a s) q.sy.toNat 0) λa s t m=>?_) (WU hk Z6 Z6 Z6 Z6) λj s v m=>gL ϗ (ι:=HZ (Ge q c) c pos) (λa s=>by unfold Dz;rw[hk];simp) (λa s t _ S=>?_) v m).eq λn=>by grind[I7,Kr]
  ·grind[uU,Rb]
  grind[vq]
 ·have o:=Ϙ.two;rw[z]at o;have o:=o<|.inr hk;have eo:J3 q c=GC c:=by grind[J3]
  refine(plain (bZ ϗ (ϖ:=λa s=>It (QO q c pos a s) q.sy.toNat 0) λa s t m=>?_) (WU hk Z6 Z6 Z6 Z6) λj s v m=>gL ϗ (ι:=HZ (GC c) c pos) (λa s=>by unfold Dz;rw[hk];simp) (λa s t _ S=>?_) v m).eq λn=>by grind[I7,Kr]
  ·grind[uU,Rb]
  grind[vq]
 ·have w:=Ϙ.all;rw[z]at w;have w:=w (.inl hk) K;exact(plain (zHY ϗ w) (WU hk Z6 Z6 Z6 Z6) λj s v m=>pn w (λa s=>by unfold Dz;rw[hk];simp) v m).eq λn=>by grind[I7,Kr]
 ·have w:=Ϙ.all;rw[z]at w;have w:=w (.inr hk) K;exact(Q (zG5 ϗ w) ⟨λh=>⟨λh=>τ (hk.symm.trans h) Z6,λh=>τ (hk.symm.trans h) Z6,λh=>τ (hk.symm.trans h) Z6,λ_=>h⟩,λh=>h.2.2.2 hk⟩ λj s v m=>pn w (λa s=>by unfold Dz;rw[hk];simp) v m).eq λn=>by grind[I7,Kr]
end
end
section
variable{q:AA}{i:U}{pos x:Ξ}
def zGu(Ϙ:Br q i pos)(v:DG pos=T){y:Ξ×ζ}(hy:RK q (con q i) pos y){n:E}(t:520<=n):
 ∃x,(B (!y.2) (Z<|d (F pos) (0:U))<|Ns q (con q i) pos n<|.l1 y.1 0 0 ([]:Ξ))=Z x/\PR q (con q i) pos x:=by
 have h256:=Ϙ.len256;have ϙ:Aw=1000000000000:=rfl;obtain⟨lost,b⟩:=y;cases b
 ·exact⟨_,rfl,Jc,λP=>τ P<|hy.no rfl,λ_=>rfl⟩
 have w:JB q (con q i) pos:=hy.ok rfl;have Ap:F lost=F pos:=hy.len rfl;have z:∀j s,j<F pos->tb (H pos j 0) s=D->(tb (H lost j 0) s=D↔LC q (con q i) pos j s):=hy.lost rfl;rw[show(!D)=T from rfl,zAD]
 have key:∀(k j n:E) (o:Ξ),j+k=F pos->k+258<=n->F o=j->(∀a,a<j->H o a 0=bits .andNot .i64 (H pos a 0) (H lost a 0))->∃x:Ξ,(F x=F pos/\∀a,a<F pos->H x a 0=bits .andNot .i64 (H pos a 0) (H lost a 0))/\Ns q (con q i) pos n (.l1 lost (F o) (j:U) o)=Z (u (DG x) (d (F pos) 0) x):=by
  intro k
  induction k with
  |zero=>
   intro j n o e t G m;obtain⟨n,rfl⟩:∃k,n=k+1:=⟨n-1,Z2⟩;refine⟨o,⟨Z2,λa r=>m a Z2⟩,?_⟩
   show V8 n (Ns q (con q i) pos n) q (con q i) pos lost (F o) (j:U) o=_
   unfold V8;rw[zAE Z2,zAD,zAF rfl,P8 Z2 Z2,zAC];cases DG o <;> rfl
  |succ k I=>
   intro j n o e t G m;obtain⟨n,rfl⟩:∃k,n=k+1:=⟨n-1,Z2⟩;have p:=PZ (S:=H lost j 0) (Ϙ.sm j Z2)<|zIX Ϙ.work.k Z6
   obtain⟨x,f,g⟩:=I (j+1) n (o++[bits .andNot .i64 (H pos j 0)<|H lost j 0]) Z2 Z2 Z7 λa r=>by
    by_cases J:a=j
    ·subst J;rw[zBD,zLZ Z2,show a-F o=0 by omega];rfl
    ·rw[zBD,zLb Z2,←zBD];exact m a Z2
   rw[zKp]at g;refine⟨x,f,Eq.trans ?_ g⟩
   show V8 n (Ns q (con q i) pos n) q (con q i) pos lost (F o) (j:U) o=_
   unfold V8;rw[zAB Z2,zAG,u8,p,zAF ⟨⟨Z2,Z2⟩,⟨Z2,Z2⟩,AZ.2<|D5 _ _ _,⟨⟨rfl,rfl⟩,⟨rfl,rfl⟩,by show F o+1<=_;omega⟩,AZ.2 ⟨Z2,Z2⟩⟩];rfl
 obtain⟨x,⟨f,g⟩,N⟩:=key (F pos) 0 n [] Z2 Z2 rfl λa r=>τ r<|zBT a
 have c:∀j,j<F pos->CB (H x j 0)/\∀s,tb (H x j 0) s=D↔tb (H pos j 0) s=D/\¬LC q (con q i) pos j s:=λj l=>by
  rw[g j l];refine⟨D5 _ _ _,λs=>?_⟩;rw[IT,zAx,zKr,←zNB];exact⟨λ⟨W,K⟩=>⟨W,λh=>K<|(z j s l W).2 h⟩,λ⟨W,K⟩=>⟨W,λh=>K<|(z j s l W).1 h⟩⟩
 have Q:=JW.1 v;refine⟨_,N,?_,λP j l=>?_,λP=>?_⟩
 ·split
  ·exact Jc
  ·exact f
 ·rw[zJz]
  ·exact c j l
  ·rw[zNB,JW];intro j l;rw[f]at l;obtain⟨s,p,W,K⟩:=P.left j l;exact(Lw (c j l).1).2 ⟨s,p,((c j l).2 s).2 ⟨W,K⟩⟩
 ·rw[zAF];refine Classical.byContradiction λh=>P ?_
  rw[zNB,JW]at h;refine⟨Q,w,λj l=>?_⟩;obtain⟨s,p,W⟩:=(Lw (c j l).1).1<|h j Z2;exact⟨s,p,((c j l).2 s).1 W⟩
def zGw(Ϙ:Br q i pos):∃x,Ev (λn=>Ks n q (con q i) pos) x/\PR q (con q i) pos x:=by
 have h256:=Ϙ.len256;cases z:DG pos
 ·suffices ϗ:Ag (λn=>Ks n q (con q i) pos) (PR q (con q i) pos) by
   obtain⟨x,a,c⟩:=ϗ.ev PR.uniq;exact⟨x,c,a⟩
  obtain⟨N,f⟩:=Ag.bindU (zGo Ϙ z) (b:=λn r=>B (!r.2) (Z<|d (F pos) (0:U))<|Ns q (con q i) pos n<|.l1 r.1 0 0 ([]:Ξ)) (Q:=PR q (con q i) pos) ⟨520,λn e r hy=>zGu Ϙ z hy e⟩;refine⟨N+300,λn e=>?_⟩;obtain⟨x,a,c⟩:=f n Z2;refine⟨x,Eq.trans ?_ a,c⟩
  show Ks n q (con q i) pos=_
  unfold Ks kC;rw[zAF ⟨Jc.symm,rfl,Z2,Z2⟩,P8 Z2 Z2,z,zAC,zAD]
 ·refine⟨d (F pos) 0,⟨300,λn e=>?_⟩,Jc,λP=>?_,λ_=>rfl⟩
  ·show Ks n q (con q i) pos=_
   unfold Ks kC;rw[zAF ⟨Jc.symm,rfl,Z2,Z2⟩,P8 Z2 Z2,z,zAC,zAG]
  ·have:=JW.2 P.nz;rw[z]at this;cases this
end
section
variable{q:AA}{n:E}
def zFT(l:DK q)(b:CX q<=n)(i:U):Vj n q i=Z (JE q i):=by
 unfold Vj je JE;rw[aI l b];cases t:CN q with
 |false=>rfl
 |true=>
  by_cases h0:i<0
  ·have:¬(0<=i/\i<(F q.cons:U)):=Z2
   simp[C5,h0,this]
  ·by_cases hi:i>=(F q.cons:U)
   ·have:¬(0<=i/\i<(F q.cons:U)):=Z2
    simp[C5,h0,hi,this]
   ·have hc:0<=i/\i<(F q.cons:U):=Z2
    have f:=wU t hc.1 hc.2;simp only[C5,zMt,zAC,zNG,zAD,zAE h0,zAE hi,zAF hc,Bool.true_eq_false,zRK];obtain⟨k,a⟩:∃k,(H q.cons i.toNat ξ).kind=k:=⟨_,rfl⟩;rw[a]at f;simp only[a];rcases OP f with h|h|h|h|h|h|h|h|h <;> subst h <;> rfl
end
section
variable{q:AA}{i:U}{pos x:Ξ}
def zGt{n:E}(l:DK q)(a:CX q<=n)(b:F pos<=LB)(o:F pos<n):Sy n q i pos=Z (Hm q i pos):=by
 unfold Sy kB Hm;rw[zFT l a,zAC,jY l a b o,zAC]
 by_cases h:(JE q i).2=0
 ·have:((JE q i).2 != 0)=T:=by simpa using h
  rw[this,zAF h];rfl
 ·have:((JE q i).2 != 0)=D:=by simpa using h
  rw[this,zJz h];rfl
def zGs(l:DK q)(a:F pos<=LB):Ev (λn=>Sy n q i pos)<|Hm q i pos:=⟨CX q+F pos+1,λn hn=>zGt l Z2 a Z2⟩
def zGz(Ϙ:Br q i pos)(a:Ev (λn=>Ks n q (con q i) pos) x):Ev (λn=>Nt n q i pos) (x,0):=by
 have c:=Ϙ.len256;have l:=zGs (i:=i) (pos:=pos) Ϙ.fit<|zIX c.2 Z6;rw[Ϙ.check]at l;refine Ev.eq (Ev.bind l (b:=λn e=>B (e != 0) (Z (([]:Ξ),e))<|u (0<=i/\i<(F q.cons:U)) ((Ks n q (H q.cons i.toNat ξ) pos).bind λr=>Z (r,0)) A) ?_) λn=>rfl
 refine Ev.eq (Ev.bind a (b:=λ_ r=>Z (r,(0:U)))<|Ev.now λn=>rfl) λn=>?_
 rw[show((0:U) != 0)=T from rfl,zAD,zAF ⟨Ϙ.i0,Ϙ.i1⟩];rfl
end
section
set_option maxRecDepth 100000
set_option maxHeartbeats 40000000
def zEM:Ac (Ah Tryz.f57 7) [] (θ 12) [12]:=Z0
def VS:BG:=λi=>match i with
 |7=>.ord [] (θ 12) [12]
 |_=>.no
inductive cu where
 |l1 (x7:U) (o0:Ξ)
def We(n:E)(self:cu->X8)(a b:Ξ)(J:U)(o0:Ξ):X8:=B (C<|J<(F a:U)) (u ((0<=J/\J<(F a:U))/\(0<=J/\J<(F b:U))/\0+J.toNat<F o0/\AG (J+1)) (self<|.l1 (J+1)<|o0.set (0+J.toNat)<|bits .and .i64 (H a J.toNat 0)<|H b J.toNat 0) A)<|u (F a=F o0) ((cU n o0).bind λe=>Z (e,0)) A
def lB(n:E)(self:cu->X8)(a b:Ξ):X8:=B ((F a:U) != (F b:U)) (Z (([]:Ξ),250))<|u (((F a:U):U)=(F a:U)/\0<=(F a:U)/\((F a:U):U)<=1000000000000) (self<|.l1 0<|d (F a) (0:U)) A
def QN(a b:Ξ):E->cu->X8
 |0,_=>A
 |n+1,.l1 J o0=>We n (QN a b n) a b J o0
def Wf(n:E)(a b:Ξ):X8:=lB n (QN a b n) a b
def zI9(n Ϝ:E)(N:Yd 0)(a b:Ξ)(r:Ξ×U):cu->Prop:=px n Ϝ η N (FQ Tryz.f57 0 (.tup 2<|L1 [.ints r.1,.i r.2]) []) (Af Tryz.f57) λ
 | .l1 J o0=>(0,0,AI 36 [(0,.ints a),(1,.ints b),(6,.msl 0 1 0<|F a),(7,.i J)],[oI o0])
def zJA(Ϝ:E)(N:Yd 0)(a c:Ξ):Al (QN a c) (zI9 · Ϝ N a c):=ia (λ_=>rfl) λn G s r h=>by
 cases s
 case l1 x7 o0=>
  intro o b;refine rd b λo b=>?_
  revert r;apply gO
  exact bi 19 (jg zEM (gc (gn λj=>jg j (gc (gi (jg j (gc (gi (gw 21 (lG VS [0] (G _ _ · o b))))))))))) (gn λj=>λp r h=>by
   refine gz (AK 8 VS) [0] p [0] (H0.g j) (CW (Af Tryz.f57) 8 []) (AI 36 [(6,.ints o0)]) [A] ?_;revert r;apply gO;exact cf vU [A] λ_=>lE VS [4,5] [])
variable{a:Ξ}{n:E}
def zI8{b:Ξ}{r:Ξ×U}(h:Wf n a b=Z r):EQ 57 [.ints a,.ints b] [] (.tup 2<|L1 [.ints r.1,.i r.2]) [] D:=by
 refine ot Tryz.func57 λϜ N=>?_
 revert r;apply gO;exact bi 12 (lF λp=>el VS [4,5] [] p [] H0 [.nils,.i 250]<|AO.tupL (l:=[.nils,.i 250]) (l':=[.ints ([]:Ξ),.i 250]) rfl ⟨AO.ints_nil,Ab,trivial⟩) (gi (lN VS [0] ((zJA Ϝ N a b n) _ _ · n χ)))
def zDN:Ac (Ah Tryz.f56 8) [] (θ 8) []:=Z0
def Jk:BG:=λi=>match i with
 |8=>.ord [] (θ 8) []
 |_=>.no
def zLn(q:AA)(at_:U):DH:=[oC<|AJ q,oC [.i 0,.nils,.nils,.i 0],oC [.i<|at_+1,.nils,.nils,.i 0]]
def zLm(q:AA)(at_:U):DH:=[oC<|AJ q,oC [.i 0,.nils,.nils,.i 0],oC [.i<|at_+1,.gr 3,.nils,.i 0],Z<|.gro 1 (F ([]:O Ξ))<|AM AS ([]:O Ξ)]
def zLl(q:AA)(at_:U):DH:=[oC<|AJ q,oC [.i 0,.nils,.nils,.i 0],oC [.i<|at_+1,.gr 3,.gr 4,.i 0],Z<|.gro 1 (F ([]:O Ξ))<|AM AS ([]:O Ξ),Z<|.gro 1 (F ([]:O Ξ))<|AM AS ([]:O Ξ)]
def xE(q:AA)(P e:U)(o3 o4:O Ξ):DH:=[oC<|AJ q,oC [.i 0,.nils,.nils,.i 0],oC [.i P,.gr 3,.gr 4,.i e],Z<|.gro 1 (F o3)<|AM AS o3,Z<|.gro 1 (F o4)<|AM AS o4]
inductive Ze where
 |l1 (AT B0 H5:U) (o3 o4:O Ξ)
def U7(n:E)(J:AA->Ξ->(O<|Δ)->U->M ((U×(O Ξ)×(O Ξ)×U)×ζ))(self:Ze->M ((U×(O Ξ)×(O Ξ)×U)×ζ))(q:AA)(pos:Ξ)(tree:O<|Δ)(at_:U)(G P e:U)(o3 o4:O Ξ):M<|(U×(O Ξ)×(O Ξ)×U)×ζ:=B (C<|G<q.sy) (u (((0:U)<=(H tree at_.toNat ξ).2/\(H tree at_.toNat ξ).2<(F pos:U))/\(0<=G/\G<=(IntKind.i64.bits:U))) (B ((bits .and .i64 (H pos ((H tree at_.toNat ξ).2).toNat 0)<|IntKind.i64.wrap<|1*2^(G).toNat)==0) (u (AG<|G+1) (self<|.l1 (G+1) P e o3 o4) A)<|(Q4 n q pos (H tree at_.toNat ξ).2 G).bind λa=>(J q a.1 tree P).bind λr=>B (a.2 != 0) (Z ((0,([]:O Ξ),([]:O Ξ),0),T))<|B (!r.2) (Z ((0,([]:O Ξ),([]:O Ξ),0),T))<|u (F o3+F r.1.2.1<=Aw/\F o4+F r.1.2.2.1<=Aw/\AG (r.1.2.2.2+1)/\AG (G+1)) (self<|.l1 (G+1) r.1.1 (u ((r.1.2.2.2+1)>e) (r.1.2.2.2+1) e) (o3++r.1.2.1)<|o4++r.1.2.2.1) A) A)<|Z ((P,o3,o4,e),D)
def rG(n:E)(Aa:AA->Ξ->(O<|Δ)->U->M ((U×(O Ξ)×(O Ξ)×U)×ζ))(self:Ze->M ((U×(O Ξ)×(O Ξ)×U)×ζ))(q:AA)(pos:Ξ)(tree:O<|Δ)(at_:U):M<|(U×(O Ξ)×(O Ξ)×U)×ζ:=u (0<=at_/\at_<(F tree:U)) (B (C<|(H tree at_.toNat ξ).2<0) (Z ((0,([]:O Ξ),([]:O Ξ),0),T))<|B (C<|(H tree at_.toNat ξ).2>=(F pos:U)) (Z ((0,([]:O Ξ),([]:O Ξ),0),T))<|(Jv n pos).bind λe=>B e (Z ((0,([]:O Ξ),([]:O Ξ),0),T))<|u ((0:U)<=(H tree at_.toNat ξ).2/\(H tree at_.toNat ξ).2<(F pos:U)) ((VI n<|H pos ((H tree at_.toNat ξ).2).toNat 0).bind λr=>B (C<|r<2) (Z ((0,([]:O Ξ),([]:O Ξ),0),T))<|u (AG<|at_+1) (self<|.l1 0 (at_+1) 0 ([]:O Ξ) ([]:O Ξ)) A) A) A
def HL(J:AA->Ξ->(O<|Δ)->U->M ((U×(O Ξ)×(O Ξ)×U)×ζ))(q:AA)(pos:Ξ)(tree:O<|Δ)(at_:U):E->Ze->M ((U×(O Ξ)×(O Ξ)×U)×ζ)
 |0,_=>A
 |n+1,.l1 G P e o3 o4=>U7 n J (HL J q pos tree at_ n) q pos tree at_ G P e o3 o4
def Pd(n:E)(J:AA->Ξ->(O<|Δ)->U->M ((U×(O Ξ)×(O Ξ)×U)×ζ))(q:AA)(pos:Ξ)(tree:O<|Δ)(at_:U):M<|(U×(O Ξ)×(O Ξ)×U)×ζ:=rG n J (HL J q pos tree at_ n) q pos tree at_
def zCE(n Ϝ:E)(N:Yd 0)(q:AA)(pos:Ξ)(tree:O<|Δ)(at_:U)(r:(U×(O Ξ)×(O Ξ)×U)×ζ):Ze->Prop:=px n Ϝ η N (FQ Tryz.f56 0 (.tup 2<|L1 [.agg 4<|L1 [.i r.1.1,.sl 1 (F r.1.2.1)<|AM AS r.1.2.1,.sl 1 (F r.1.2.2.1)<|AM AS r.1.2.2.1,.i r.1.2.2.2],.bool r.2]) []) (Af Tryz.f56) λ
 | .l1 G P e o3 o4=>(0,0,AI 107 [(1,.ints pos),(2,.sl 2 (F tree)<|AM BA tree),(4,.ref 0 0),(8,.ref 1 0),(10,.i<|(H tree at_.toNat ξ).2),(11,.ref 2 0),(12,.i G)],[oC<|AJ q,oC [.i 0,.nils,.nils,.i 0],oC [.i P,.gr 3,.gr 4,.i e],Z<|.gro 1 (F o3)<|AM AS o3,Z<|.gro 1 (F o4)<|AM AS o4])
def zCF(Ϝ:E)(N:Yd 0)(J:AA->Ξ->(O<|Δ)->U->M ((U×(O Ξ)×(O Ξ)×U)×ζ))(w:∀{q:AA} {pos:Ξ} {tree:O Δ} {at_:U} {r:(U×(O Ξ)×(O Ξ)×U)×ζ},J q pos tree at_=Z r->EQ 44 [.agg 5<|L1<|AJ q,.ints pos,.sl 2 (F tree)<|AM BA tree,.i at_] [] (.tup 2<|L1 [.agg 4<|L1 [.i r.1.1,.sl 1 (F r.1.2.1)<|AM AS r.1.2.1,.sl 1 (F r.1.2.2.1)<|AM AS r.1.2.2.1,.i r.1.2.2.2],.bool r.2]) [] D)(q:AA)(pos:Ξ)(tree:O<|Δ)(at_:U):Al (HL J q pos tree at_) (zCE · Ϝ N q pos tree at_):=ia (λ_=>rfl) λn G s r h=>by
 cases s
 case l1 AT B0 H5 o3 o4=>
  intro o j;refine rd j λo j=>?_
  revert r;apply gO;exact bi 49 (jg zDN (gc (gi (gi (bi 59 (gw 51 (lG (AK 5 Jk) [0,1,2,3,4] (G _ _ · o j))) (cf ym (xE q B0 H5 o3 o4) λ_=>cn λa K=>jc (fb (w K)<|xE q B0 H5 o3 o4) (jt (bi 78 (jt<|lF λp=>el (AK 5 Jk) [8,9] [1] p [] H0 [.agg 4<|L1 [.i 0,.nils,.nils,.i 0],.bool T]<|AO.tupL (l:=[.agg 4<|L1 [.i 0,.nils,.nils,.i 0],.bool T]) (l':=[.agg 4<|L1 [.i 0,.sl 1 (F ([]:O Ξ))<|AM AS ([]:O Ξ),.sl 1 (F ([]:O Ξ))<|AM AS ([]:O Ξ),.i 0],.bool T]) rfl ⟨AO.aggL (l:=[.i 0,.nils,.nils,.i 0]) (l':=[.i 0,.sl 1 (F ([]:O Ξ))<|AM AS ([]:O Ξ),.sl 1 (F ([]:O Ξ))<|AM AS ([]:O Ξ),.i 0]) rfl ⟨Ab,AO.sl_nil _ _,AO.sl_nil _ _,Ab,trivial⟩,Ab,trivial⟩) (bi 81 (jt<|lF λp=>el (AK 5 Jk) [8,9] [1] p [] H0 [.agg 4<|L1 [.i 0,.nils,.nils,.i 0],.bool T]<|AO.tupL (l:=[.agg 4<|L1 [.i 0,.nils,.nils,.i 0],.bool T]) (l':=[.agg 4<|L1 [.i 0,.sl 1 (F ([]:O Ξ))<|AM AS ([]:O Ξ),.sl 1 (F ([]:O Ξ))<|AM AS ([]:O Ξ),.i 0],.bool T]) rfl ⟨AO.aggL (l:=[.i 0,.nils,.nils,.i 0]) (l':=[.i 0,.sl 1 (F ([]:O Ξ))<|AM AS ([]:O Ξ),.sl 1 (F ([]:O Ξ))<|AM AS ([]:O Ξ),.i 0]) rfl ⟨Ab,AO.sl_nil _ _,AO.sl_nil _ _,Ab,trivial⟩,Ab,trivial⟩) (jt (gc (gn λy=>jg (γ (γ trivial (OD AS a.1.2.1 (F a.1.2.1) 1 λ_=>⟨rfl,rfl⟩)) y) (ja 91 6 1 (Vf (enc:=YD AS) (ϙ:=o3) (L':=a.1.2.1) rfl rfl λ_ _ _ _=>Ab) (jt (gc (gn λb=>jg (γ (γ trivial (OD AS a.1.2.2.1 (F a.1.2.2.1) 1 λ_=>⟨rfl,rfl⟩)) b) (ja 97 7 1 (Vf (enc:=YD AS) (ϙ:=o4) (L':=a.1.2.2.1) rfl rfl λ_ _ _ _=>Ab) (jt (gc (gw 103 (jt (gw 51 (lG (AK 5 Jk) [0,1,2,6,7] (G _ _ · o j))))))))))))))))))))))))<|jt<|lF λp=>ez (AK 5 Jk) [8,9] [1,3,4] p [1,2] H0
variable{at_:U}{tree:O Δ}{pos:Ξ}{q:AA}
def zCD{J:AA->Ξ->(O<|Δ)->U->M ((U×(O Ξ)×(O Ξ)×U)×ζ)}(w:∀{q:AA} {pos:Ξ} {tree:O Δ} {at_:U} {r:(U×(O Ξ)×(O Ξ)×U)×ζ},J q pos tree at_=Z r->EQ 44 [.agg 5<|L1<|AJ q,.ints pos,.sl 2 (F tree)<|AM BA tree,.i at_] [] (.tup 2<|L1 [.agg 4<|L1 [.i r.1.1,.sl 1 (F r.1.2.1)<|AM AS r.1.2.1,.sl 1 (F r.1.2.2.1)<|AM AS r.1.2.2.1,.i r.1.2.2.2],.bool r.2]) [] D){r:(U×(O Ξ)×(O Ξ)×U)×ζ}(h:Pd n J q pos tree at_=Z r):EQ 56 [.agg 5<|L1<|AJ q,.ints pos,.sl 2 (F tree)<|AM BA tree,.i at_] [] (.tup 2<|L1 [.agg 4<|L1 [.i r.1.1,.sl 1 (F r.1.2.1)<|AM AS r.1.2.1,.sl 1 (F r.1.2.2.1)<|AM AS r.1.2.2.1,.i r.1.2.2.2],.bool r.2]) [] D:=by
 refine ot Tryz.func56 λϜ N=>?_
 revert r;apply gO
 exact gi (bi 23 (jt<|lF λp=>el (AK 5 Jk) [8,9] [1] p [] H0 [.agg 4<|L1 [.i 0,.nils,.nils,.i 0],.bool T]<|AO.tupL (l:=[.agg 4<|L1 [.i 0,.nils,.nils,.i 0],.bool T]) (l':=[.agg 4<|L1 [.i 0,.sl 1 (F ([]:O Ξ))<|AM AS ([]:O Ξ),.sl 1 (F ([]:O Ξ))<|AM AS ([]:O Ξ),.i 0],.bool T]) rfl ⟨AO.aggL (l:=[.i 0,.nils,.nils,.i 0]) (l':=[.i 0,.sl 1 (F ([]:O Ξ))<|AM AS ([]:O Ξ),.sl 1 (F ([]:O Ξ))<|AM AS ([]:O Ξ),.i 0]) rfl ⟨Ab,AO.sl_nil _ _,AO.sl_nil _ _,Ab,trivial⟩,Ab,trivial⟩) (bi 28 (jt<|lF λp=>el (AK 5 Jk) [8,9] [1] p [] H0 [.agg 4<|L1 [.i 0,.nils,.nils,.i 0],.bool T]<|AO.tupL (l:=[.agg 4<|L1 [.i 0,.nils,.nils,.i 0],.bool T]) (l':=[.agg 4<|L1 [.i 0,.sl 1 (F ([]:O Ξ))<|AM AS ([]:O Ξ),.sl 1 (F ([]:O Ξ))<|AM AS ([]:O Ξ),.i 0],.bool T]) rfl ⟨AO.aggL (l:=[.i 0,.nils,.nils,.i 0]) (l':=[.i 0,.sl 1 (F ([]:O Ξ))<|AM AS ([]:O Ξ),.sl 1 (F ([]:O Ξ))<|AM AS ([]:O Ξ),.i 0]) rfl ⟨Ab,AO.sl_nil _ _,AO.sl_nil _ _,Ab,trivial⟩,Ab,trivial⟩) (cf WB [oC<|AJ q,oC [.i 0,.nils,.nils,.i 0]] λ_=>bi 32 (jt<|lF λp=>el (AK 5 Jk) [8,9] [1] p [] H0 [.agg 4<|L1 [.i 0,.nils,.nils,.i 0],.bool T]<|AO.tupL (l:=[.agg 4<|L1 [.i 0,.nils,.nils,.i 0],.bool T]) (l':=[.agg 4<|L1 [.i 0,.sl 1 (F ([]:O Ξ))<|AM AS ([]:O Ξ),.sl 1 (F ([]:O Ξ))<|AM AS ([]:O Ξ),.i 0],.bool T]) rfl ⟨AO.aggL (l:=[.i 0,.nils,.nils,.i 0]) (l':=[.i 0,.sl 1 (F ([]:O Ξ))<|AM AS ([]:O Ξ),.sl 1 (F ([]:O Ξ))<|AM AS ([]:O Ξ),.i 0]) rfl ⟨Ab,AO.sl_nil _ _,AO.sl_nil _ _,Ab,trivial⟩,Ab,trivial⟩) (gi (cf zCp [oC<|AJ q,oC [.i 0,.nils,.nils,.i 0]] λ_=>bi 40 (jt<|lF λp=>el (AK 5 Jk) [8,9] [1] p [] H0 [.agg 4<|L1 [.i 0,.nils,.nils,.i 0],.bool T]<|AO.tupL (l:=[.agg 4<|L1 [.i 0,.nils,.nils,.i 0],.bool T]) (l':=[.agg 4<|L1 [.i 0,.sl 1 (F ([]:O Ξ))<|AM AS ([]:O Ξ),.sl 1 (F ([]:O Ξ))<|AM AS ([]:O Ξ),.i 0],.bool T]) rfl ⟨AO.aggL (l:=[.i 0,.nils,.nils,.i 0]) (l':=[.i 0,.sl 1 (F ([]:O Ξ))<|AM AS ([]:O Ξ),.sl 1 (F ([]:O Ξ))<|AM AS ([]:O Ξ),.i 0]) rfl ⟨Ab,AO.sl_nil _ _,AO.sl_nil _ _,Ab,trivial⟩,Ab,trivial⟩) (gw 44 (jt (λp r h=>by
  refine gs (AK 5 Jk) [0,1,2] p (CW (Af Tryz.f56) 5 []) (AI 107 [(1,.ints pos),(2,.sl 2 (F tree)<|AM BA tree),(4,.ref 0 0),(8,.ref 1 0),(10,.i<|(H tree at_.toNat ξ).2),(11,.ref 2 0)]) (zLn q at_) ?_;refine BV.le (A6.groE (g:=.gro 1 (F ([]:O Ξ))<|AM AS ([]:O Ξ)) ⟨_,_,rfl⟩ (Z 2) 1 ⟨AI 107 [(1,.ints pos),(2,.sl 2 (F tree)<|AM BA tree),(4,.ref 0 0),(8,.ref 1 0),(10,.i<|(H tree at_.toNat ξ).2),(11,.ref 2 0)],zLm q at_⟩ Z5 Z5) Z5 ?_;refine BV.le (A6.groE (g:=.gro 1 (F ([]:O Ξ))<|AM AS ([]:O Ξ)) ⟨_,_,rfl⟩ (Z 2) 2 ⟨AI 107 [(1,.ints pos),(2,.sl 2 (F tree)<|AM BA tree),(4,.ref 0 0),(8,.ref 1 0),(10,.i<|(H tree at_.toNat ξ).2),(11,.ref 2 0)],zLl q at_⟩ Z5 Z5) Z5 ?_;revert r;apply gO;exact lN Jk [0,1,2,3,4] ((zCF Ϝ N J w q pos tree at_ n) _ _ · n χ)))))))))
def Tv(q:AA)(tree:O<|Δ)(at_:U):DH:=[oC<|AJ q,oC [.i 0,.nils,.nils,.i 0],oC [.i<|(H tree at_.toNat ξ).1,.i<|(H tree at_.toNat ξ).2]]
def zLc(q:AA)(tree:O<|Δ)(at_:U)(e:Ξ×U):DH:=[oC<|AJ q,oC [.i 0,.nils,.nils,.i 0],oC [.i<|(H tree at_.toNat ξ).1,.i<|(H tree at_.toNat ξ).2],Z<|.arr 1 (F ([e.1]:O Ξ))<|AM AS ([e.1]:O Ξ)]
def NF(n:E)(J:AA->Ξ->(O<|Δ)->U->M ((U×(O Ξ)×(O Ξ)×U)×ζ))(q:AA)(pos:Ξ)(tree:O<|Δ)(at_:U):M<|(U×(O Ξ)×(O Ξ)×U)×ζ:=B (C<|at_>=(F tree:U)) (Z ((0,([]:O Ξ),([]:O Ξ),0),T))<|u (0<=at_/\at_<(F tree:U)) (B ((H tree at_.toNat ξ).1==1) (B (C<|(H tree at_.toNat ξ).2<0) (Z ((0,([]:O Ξ),([]:O Ξ),0),T))<|B (C<|(H tree at_.toNat ξ).2>=(F q.cons:U)) (Z ((0,([]:O Ξ),([]:O Ξ),0),T))<|(Nt n q (H tree at_.toNat ξ).2 pos).bind λe=>B (e.2 != 0) (Z ((0,([]:O Ξ),([]:O Ξ),0),T))<|u (AG<|at_+1) ((J q e.1 tree<|at_+1).bind λr=>Z ((r.1.1,r.1.2.1,r.1.2.2.1,r.1.2.2.2),r.2)) A)<|B ((H tree at_.toNat ξ).1==2) ((Pd n J q pos tree at_).bind λe=>Z ((e.1.1,e.1.2.1,e.1.2.2.1,e.1.2.2.2),e.2))<|B ((H tree at_.toNat ξ).1==3) ((Wf n pos pos).bind λe=>u (AG<|at_+1) (B ((H tree at_.toNat ξ).2==0) ((Jv n pos).bind λr=>Z ((at_+1,([e.1]:O Ξ),([]:O Ξ),0),r))<|Z ((at_+1,([e.1]:O Ξ),([]:O Ξ),0),T)) A)<|B ((H tree at_.toNat ξ).1==4) ((VF n pos).bind λe=>B (!e.2) (Z ((0,([]:O Ξ),([]:O Ξ),0),T))<|B ((H tree at_.toNat ξ).2 != 0) (Z ((0,([]:O Ξ),([]:O Ξ),0),T))<|(SQ n q e.1).bind λr=>u (AG<|at_+1) (B (r.2==0) (Z ((at_+1,([pos]:O Ξ),([e.1]:O Ξ),0),r.1))<|Z ((at_+1,([pos]:O Ξ),([e.1]:O Ξ),0),T)) A)<|Z ((0,([]:O Ξ),([]:O Ξ),0),T)) A
def CE:E->AA->Ξ->(O<|Δ)->U->M ((U×(O Ξ)×(O Ξ)×U)×ζ)
 |0,_,_,_,_=>A
 |n+1,q,pos,tree,at_=>NF n (CE n) q pos tree at_
def zBC :∀{q:AA} {pos:Ξ} {tree:O Δ} {at_:U} {r:(U×(O Ξ)×(O Ξ)×U)×ζ} (h:CE n q pos tree at_=Z r),EQ 44 [.agg 5<|L1<|AJ q,.ints pos,.sl 2 (F tree)<|AM BA tree,.i at_] [] (.tup 2<|L1 [.agg 4<|L1 [.i r.1.1,.sl 1 (F r.1.2.1)<|AM AS r.1.2.1,.sl 1 (F r.1.2.2.1)<|AM AS r.1.2.2.1,.i r.1.2.2.2],.bool r.2]) [] D:=by
 induction n with
 |zero=>intro q pos tree at_ r h;cases h
 |succ n w=>
  intro q pos tree at_ r h;refine ot Tryz.func44 λϜ N=>?_
  revert r;apply gO;exact bi 26 (jt<|lF λp=>el AC [8,9] [1] p [] H0 [.agg 4<|L1 [.i 0,.nils,.nils,.i 0],.bool T]<|AO.tupL (l:=[.agg 4<|L1 [.i 0,.nils,.nils,.i 0],.bool T]) (l':=[.agg 4<|L1 [.i 0,.sl 1 (F ([]:O Ξ))<|AM AS ([]:O Ξ),.sl 1 (F ([]:O Ξ))<|AM AS ([]:O Ξ),.i 0],.bool T]) rfl ⟨AO.aggL (l:=[.i 0,.nils,.nils,.i 0]) (l':=[.i 0,.sl 1 (F ([]:O Ξ))<|AM AS ([]:O Ξ),.sl 1 (F ([]:O Ξ))<|AM AS ([]:O Ξ),.i 0]) rfl ⟨Ab,AO.sl_nil _ _,AO.sl_nil _ _,Ab,trivial⟩,Ab,trivial⟩)<|gi<|jt<|bi 35 (bi 38 (jt<|lF λp=>el AC [8,9] [1] p [] H0 [.agg 4<|L1 [.i 0,.nils,.nils,.i 0],.bool T]<|AO.tupL (l:=[.agg 4<|L1 [.i 0,.nils,.nils,.i 0],.bool T]) (l':=[.agg 4<|L1 [.i 0,.sl 1 (F ([]:O Ξ))<|AM AS ([]:O Ξ),.sl 1 (F ([]:O Ξ))<|AM AS ([]:O Ξ),.i 0],.bool T]) rfl ⟨AO.aggL (l:=[.i 0,.nils,.nils,.i 0]) (l':=[.i 0,.sl 1 (F ([]:O Ξ))<|AM AS ([]:O Ξ),.sl 1 (F ([]:O Ξ))<|AM AS ([]:O Ξ),.i 0]) rfl ⟨Ab,AO.sl_nil _ _,AO.sl_nil _ _,Ab,trivial⟩,Ab,trivial⟩)<|bi 45 (jt<|lF λp=>el AC [8,9] [1] p [] H0 [.agg 4<|L1 [.i 0,.nils,.nils,.i 0],.bool T]<|AO.tupL (l:=[.agg 4<|L1 [.i 0,.nils,.nils,.i 0],.bool T]) (l':=[.agg 4<|L1 [.i 0,.sl 1 (F ([]:O Ξ))<|AM AS ([]:O Ξ),.sl 1 (F ([]:O Ξ))<|AM AS ([]:O Ξ),.i 0],.bool T]) rfl ⟨AO.aggL (l:=[.i 0,.nils,.nils,.i 0]) (l':=[.i 0,.sl 1 (F ([]:O Ξ))<|AM AS ([]:O Ξ),.sl 1 (F ([]:O Ξ))<|AM AS ([]:O Ξ),.i 0]) rfl ⟨Ab,AO.sl_nil _ _,AO.sl_nil _ _,Ab,trivial⟩,Ab,trivial⟩)<|cf tn (Tv q tree at_) λ_=>bi 57 (jt<|lF λp=>el AC [8,9] [1] p [] H0 [.agg 4<|L1 [.i 0,.nils,.nils,.i 0],.bool T]<|AO.tupL (l:=[.agg 4<|L1 [.i 0,.nils,.nils,.i 0],.bool T]) (l':=[.agg 4<|L1 [.i 0,.sl 1 (F ([]:O Ξ))<|AM AS ([]:O Ξ),.sl 1 (F ([]:O Ξ))<|AM AS ([]:O Ξ),.i 0],.bool T]) rfl ⟨AO.aggL (l:=[.i 0,.nils,.nils,.i 0]) (l':=[.i 0,.sl 1 (F ([]:O Ξ))<|AM AS ([]:O Ξ),.sl 1 (F ([]:O Ξ))<|AM AS ([]:O Ξ),.i 0]) rfl ⟨Ab,AO.sl_nil _ _,AO.sl_nil _ _,Ab,trivial⟩,Ab,trivial⟩)<|gw 64<|cn λa K=>jc (fb (w K)<|Tv q tree at_)<|jt<|jt<|lE AC [8,9] [1])<|bi 71 (cn λe f=>jc (fb (zCD w f)<|Tv q tree at_)<|jt<|jt<|lE AC [8,9] [1])<|bi 83 (cf zI8 (Tv q tree at_) λe=>gw 91<|ja 93 3 1 (E4 (c:=AS) (ϙ:=([e.1]:O Ξ)) (vals:=[.ints e.1]) rfl ⟨⟨_,rfl,⟨Ab,trivial⟩⟩,trivial⟩)<|bi 97 (cf WB (zLc q tree at_ e) λa=>jt<|lF λp=>el AC [8,9] [1,3] p [1] (H0.g<|φ 1) [.agg 4<|L1 [.i<|at_+1,.sl 1 (F ([e.1]:O Ξ))<|AM AS ([e.1]:O Ξ),.nils,.i 0],.bool a]<|AO.tupL (l:=[.agg 4<|L1 [.i<|at_+1,.sl 1 (F ([e.1]:O Ξ))<|AM AS ([e.1]:O Ξ),.nils,.i 0],.bool a]) (l':=[.agg 4<|L1 [.i<|at_+1,.sl 1 (F ([e.1]:O Ξ))<|AM AS ([e.1]:O Ξ),.sl 1 (F ([]:O Ξ))<|AM AS ([]:O Ξ),.i 0],.bool a]) rfl ⟨AO.aggL (l:=[.i<|at_+1,.sl 1 (F ([e.1]:O Ξ))<|AM AS ([e.1]:O Ξ),.nils,.i 0]) (l':=[.i<|at_+1,.sl 1 (F ([e.1]:O Ξ))<|AM AS ([e.1]:O Ξ),.sl 1 (F ([]:O Ξ))<|AM AS ([]:O Ξ),.i 0]) rfl ⟨Ab,Ab,AO.sl_nil _ _,Ab,trivial⟩,Ab,trivial⟩)<|jt<|lF λp=>el AC [8,9] [1,3] p [1] (H0.g<|φ 1) [.agg 4<|L1 [.i<|at_+1,.sl 1 (F ([e.1]:O Ξ))<|AM AS ([e.1]:O Ξ),.nils,.i 0],.bool T]<|AO.tupL (l:=[.agg 4<|L1 [.i<|at_+1,.sl 1 (F ([e.1]:O Ξ))<|AM AS ([e.1]:O Ξ),.nils,.i 0],.bool T]) (l':=[.agg 4<|L1 [.i<|at_+1,.sl 1 (F ([e.1]:O Ξ))<|AM AS ([e.1]:O Ξ),.sl 1 (F ([]:O Ξ))<|AM AS ([]:O Ξ),.i 0],.bool T]) rfl ⟨AO.aggL (l:=[.i<|at_+1,.sl 1 (F ([e.1]:O Ξ))<|AM AS ([e.1]:O Ξ),.nils,.i 0]) (l':=[.i<|at_+1,.sl 1 (F ([e.1]:O Ξ))<|AM AS ([e.1]:O Ξ),.sl 1 (F ([]:O Ξ))<|AM AS ([]:O Ξ),.i 0]) rfl ⟨Ab,Ab,AO.sl_nil _ _,Ab,trivial⟩,Ab,trivial⟩)<|bi 103 (cf zCb (Tv q tree at_) λe=>bi 110 (jt<|lF λp=>el AC [8,9] [1] p [] H0 [.agg 4<|L1 [.i 0,.nils,.nils,.i 0],.bool T]<|AO.tupL (l:=[.agg 4<|L1 [.i 0,.nils,.nils,.i 0],.bool T]) (l':=[.agg 4<|L1 [.i 0,.sl 1 (F ([]:O Ξ))<|AM AS ([]:O Ξ),.sl 1 (F ([]:O Ξ))<|AM AS ([]:O Ξ),.i 0],.bool T]) rfl ⟨AO.aggL (l:=[.i 0,.nils,.nils,.i 0]) (l':=[.i 0,.sl 1 (F ([]:O Ξ))<|AM AS ([]:O Ξ),.sl 1 (F ([]:O Ξ))<|AM AS ([]:O Ξ),.i 0]) rfl ⟨Ab,AO.sl_nil _ _,AO.sl_nil _ _,Ab,trivial⟩,Ab,trivial⟩)<|bi 114 (jt<|lF λp=>el AC [8,9] [1] p [] H0 [.agg 4<|L1 [.i 0,.nils,.nils,.i 0],.bool T]<|AO.tupL (l:=[.agg 4<|L1 [.i 0,.nils,.nils,.i 0],.bool T]) (l':=[.agg 4<|L1 [.i 0,.sl 1 (F ([]:O Ξ))<|AM AS ([]:O Ξ),.sl 1 (F ([]:O Ξ))<|AM AS ([]:O Ξ),.i 0],.bool T]) rfl ⟨AO.aggL (l:=[.i 0,.nils,.nils,.i 0]) (l':=[.i 0,.sl 1 (F ([]:O Ξ))<|AM AS ([]:O Ξ),.sl 1 (F ([]:O Ξ))<|AM AS ([]:O Ξ),.i 0]) rfl ⟨Ab,AO.sl_nil _ _,AO.sl_nil _ _,Ab,trivial⟩,Ab,trivial⟩)<|cf zCN (Tv q tree at_) λ_=>gw 124<|ja 126 3 1 (E4 (c:=AS) (ϙ:=([pos]:O Ξ)) (vals:=[.ints pos]) rfl ⟨⟨_,rfl,⟨Ab,trivial⟩⟩,trivial⟩)<|ja 128 4 1 (E4 (c:=AS) (ϙ:=([e.1]:O Ξ)) (vals:=[.ints e.1]) rfl ⟨⟨_,rfl,⟨Ab,trivial⟩⟩,trivial⟩)<|bi 131 (jt<|lF λp=>ez AC [8,9] [1,3,4] p [1,2] (H0.g (φ 1)|>.g (φ 1)))<|jt<|lF λp=>ez AC [8,9] [1,3,4] p [1,2] (H0.g (φ 1)|>.g (φ 1)))<|jt<|lF λp=>el AC [8,9] [1] p [] H0 [.agg 4<|L1 [.i 0,.nils,.nils,.i 0],.bool T]<|AO.tupL (l:=[.agg 4<|L1 [.i 0,.nils,.nils,.i 0],.bool T]) (l':=[.agg 4<|L1 [.i 0,.sl 1 (F ([]:O Ξ))<|AM AS ([]:O Ξ),.sl 1 (F ([]:O Ξ))<|AM AS ([]:O Ξ),.i 0],.bool T]) rfl ⟨AO.aggL (l:=[.i 0,.nils,.nils,.i 0]) (l':=[.i 0,.sl 1 (F ([]:O Ξ))<|AM AS ([]:O Ξ),.sl 1 (F ([]:O Ξ))<|AM AS ([]:O Ξ),.i 0]) rfl ⟨Ab,AO.sl_nil _ _,AO.sl_nil _ _,Ab,trivial⟩,Ab,trivial⟩
def iW(n:E)(q:AA)(pos:Ξ)(tree:O<|Δ):W5:=(Nb n q).bind λe=>B (e != 0) (Z e)<|(Pp n q pos).bind λr=>B (r != 0) (Z r)<|B (C<|(F tree:U)>65536) (Z 2)<|Z 0
def PP(n:E)(q:AA)(pos:Ξ)(tree:O<|Δ):W5:=iW n q pos tree
def zBF{r:U}(h:PP n q pos tree=Z r):EQ 43 [.agg 5<|L1<|AJ q,.ints pos,.sl 2 (F tree)<|AM BA tree] [] (.i r) [] D:=by
 unfold PP iW at h;refine ot Tryz.func43 λϜ N=>?_
 revert r;apply gO;exact cf aG [oC<|AJ q] λ_=>bi 12 (lE AC [6] [])<|cf jX [oC<|AJ q] λ_=>bi 18 (lE AC [6] [])<|bi 22 (lE AC [6] [])<|lE AC [6] []
def ZE(n:E)(q:AA)(pos:Ξ)(tree:O<|Δ):M<|(U×(O Ξ)×(O Ξ)×U)×U:=(PP n q pos tree).bind λe=>B (e != 0) (Z ((0,([]:O Ξ),([]:O Ξ),0),e))<|(CE n q pos tree 0).bind λr=>B (!r.2) (Z ((0,([]:O Ξ),([]:O Ξ),0),280))<|B (r.1.1 != (F tree:U)) (Z ((0,([]:O Ξ),([]:O Ξ),0),280))<|Z ((r.1.1,r.1.2.1,r.1.2.2.1,r.1.2.2.2),0)
def HK(n:E)(q:AA)(pos:Ξ)(tree:O<|Δ):M<|(U×(O Ξ)×(O Ξ)×U)×U:=ZE n q pos tree
def ZD{r:(U×(O Ξ)×(O Ξ)×U)×U}(h:HK n q pos tree=Z r):EQ 25 [.agg 5<|L1<|AJ q,.ints pos,.sl 2 (F tree)<|AM BA tree] [] (.tup 2<|L1 [.agg 4<|L1 [.i r.1.1,.sl 1 (F r.1.2.1)<|AM AS r.1.2.1,.sl 1 (F r.1.2.2.1)<|AM AS r.1.2.2.1,.i r.1.2.2.2],.i r.2]) [] D:=by
 unfold HK ZE at h;refine ot Tryz.func25 λϜ N=>?_
 revert r;apply gO;exact cf zBF [oC<|AJ q,oC [.i 0,.nils,.nils,.i 0]] λe=>bi 16 (jt<|lF λp=>el AC [6,7] [1] p [] H0 [.agg 4<|L1 [.i 0,.nils,.nils,.i 0],.i e]<|AO.tupL (l:=[.agg 4<|L1 [.i 0,.nils,.nils,.i 0],.i e]) (l':=[.agg 4<|L1 [.i 0,.sl 1 (F ([]:O Ξ))<|AM AS ([]:O Ξ),.sl 1 (F ([]:O Ξ))<|AM AS ([]:O Ξ),.i 0],.i e]) rfl ⟨AO.aggL (l:=[.i 0,.nils,.nils,.i 0]) (l':=[.i 0,.sl 1 (F ([]:O Ξ))<|AM AS ([]:O Ξ),.sl 1 (F ([]:O Ξ))<|AM AS ([]:O Ξ),.i 0]) rfl ⟨Ab,AO.sl_nil _ _,AO.sl_nil _ _,Ab,trivial⟩,Ab,trivial⟩)<|cf zBC [oC<|AJ q,oC [.i 0,.nils,.nils,.i 0]] λ_=>jt<|bi 27 (jt<|lF λp=>el AC [6,7] [1] p [] H0 [.agg 4<|L1 [.i 0,.nils,.nils,.i 0],.i 280]<|AO.tupL (l:=[.agg 4<|L1 [.i 0,.nils,.nils,.i 0],.i 280]) (l':=[.agg 4<|L1 [.i 0,.sl 1 (F ([]:O Ξ))<|AM AS ([]:O Ξ),.sl 1 (F ([]:O Ξ))<|AM AS ([]:O Ξ),.i 0],.i 280]) rfl ⟨AO.aggL (l:=[.i 0,.nils,.nils,.i 0]) (l':=[.i 0,.sl 1 (F ([]:O Ξ))<|AM AS ([]:O Ξ),.sl 1 (F ([]:O Ξ))<|AM AS ([]:O Ξ),.i 0]) rfl ⟨Ab,AO.sl_nil _ _,AO.sl_nil _ _,Ab,trivial⟩,Ab,trivial⟩)<|bi 33 (jt<|lF λp=>el AC [6,7] [1] p [] H0 [.agg 4<|L1 [.i 0,.nils,.nils,.i 0],.i 280]<|AO.tupL (l:=[.agg 4<|L1 [.i 0,.nils,.nils,.i 0],.i 280]) (l':=[.agg 4<|L1 [.i 0,.sl 1 (F ([]:O Ξ))<|AM AS ([]:O Ξ),.sl 1 (F ([]:O Ξ))<|AM AS ([]:O Ξ),.i 0],.i 280]) rfl ⟨AO.aggL (l:=[.i 0,.nils,.nils,.i 0]) (l':=[.i 0,.sl 1 (F ([]:O Ξ))<|AM AS ([]:O Ξ),.sl 1 (F ([]:O Ξ))<|AM AS ([]:O Ξ),.i 0]) rfl ⟨Ab,AO.sl_nil _ _,AO.sl_nil _ _,Ab,trivial⟩,Ab,trivial⟩)<|jt<|lE AC [6,7] [1]
def zMe(q:AA)(e:(U×(O Ξ)×(O Ξ)×U)×U):DH:=[oC<|AJ q,oC [.i e.1.1,.sl 1 (F e.1.2.1)<|AM AS e.1.2.1,.sl 1 (F e.1.2.2.1)<|AM AS e.1.2.2.1,.i e.1.2.2.2]]
def zv(n:E)(q:AA)(pos:Ξ)(tree:O<|Δ)(v:Ξ):X4:=(HK n q pos tree).bind λe=>B (e.2==280) (Z (T,0))<|B (e.2 != 0) (Z (T,e.2))<|B ((F v:U)==0) (Z ((F e.1.2.2.1:U)==0,0))<|B ((F e.1.2.2.1:U)==1) (u ((0:U)<=0/\0<(F e.1.2.2.1:U)) ((Kj n (H e.1.2.2.1 0 []) v).bind λr=>Z (r,0)) A)<|Z (T,0)
def M3(n:E)(q:AA)(pos:Ξ)(tree:O<|Δ)(v:Ξ):X4:=zv n q pos tree v
def zu{v:Ξ}{r:ζ×U}(h:M3 n q pos tree v=Z r):EQ 9 [.agg 5<|L1<|AJ q,.ints pos,.sl 2 (F tree)<|AM BA tree,.ints v] [] (.tup 2<|L1 [.bool r.1,.i r.2]) [] D:=by
 unfold M3 zv at h;refine ot Tryz.func9 λϜ N=>?_
 revert r;apply gO;exact cf ZD [oC<|AJ q] λe=>jt<|bi 20 (lE AC [8,9] [])<|bi 22 (lE AC [8,9] [])<|bi 26 (lE AC [8,9] [])<|bi 34 (gi<|cf sC (zMe q e) λ_=>lE AC [8,9] [])<|lE AC [8,9] []
def wI(n:E)(q:AA)(pos:Ξ)(tree:O<|Δ):X0:=(HK n q pos tree).bind λe=>Z (e.1.2.1,e.2)
def Tc(n:E)(q:AA)(pos:Ξ)(tree:O<|Δ):X0:=wI n q pos tree
def zJu{r:(O Ξ)×U}(h:Tc n q pos tree=Z r):EQ 11 [.agg 5<|L1<|AJ q,.ints pos,.sl 2 (F tree)<|AM BA tree] [] (.tup 2<|L1 [.sl 1 (F r.1)<|AM AS r.1,.i r.2]) [] D:=by
 unfold Tc wI at h;refine ot Tryz.func11 λϜ N=>?_
 revert r;apply gO;exact cf ZD [oC<|AJ q] λ_=>jt<|lE AC [6,7] []
def za(n:E)(q:AA)(pos:Ξ)(tree:O<|Δ):W7:=(HK n q pos tree).bind λe=>Z (e.1.2.2.2,e.2)
def UR(n:E)(q:AA)(pos:Ξ)(tree:O<|Δ):W7:=za n q pos tree
variable{r:Δ}
def zPG(h:UR n q pos tree=Z r):EQ 15 [.agg 5<|L1<|AJ q,.ints pos,.sl 2 (F tree)<|AM BA tree] [] (.tup 2<|L1 [.i r.1,.i r.2]) [] D:=by
 unfold UR za at h;refine ot Tryz.func15 λϜ N=>?_
 revert r;apply gO;exact cf ZD [oC<|AJ q] λ_=>jt<|lE AC [6,7] []
def zEh:Ac (Ah Tryz.f27 11) [] (θ 9) []:=Z0
def Ki:BG:=λi=>match i with
 |11=>.ord [] (θ 9) []
 |_=>.no
def dx(q:AA)(tree:O<|Δ)(at_:U):DH:=[oC<|AJ q,oC [.i<|(H tree at_.toNat ξ).1,.i<|(H tree at_.toNat ξ).2]]
inductive gq where
 |l1 (x13 A4 BC:U)
def Yf(n:E)(b:AA->Ξ->(O<|Δ)->U->U->W7)(self:gq->W7)(q:AA)(pos:Ξ)(tree:O<|Δ)(at_ I:U)(x13 a J:U):W7:=B (C<|J<q.sy) (u (((0:U)<=(H tree at_.toNat ξ).2/\(H tree at_.toNat ξ).2<(F pos:U))/\(0<=J/\J<=(IntKind.i64.bits:U))) (B ((bits .and .i64 (H pos ((H tree at_.toNat ξ).2).toNat 0)<|IntKind.i64.wrap<|1*2^(J).toNat) != 0) ((Q4 n q pos (H tree at_.toNat ξ).2 J).bind λe=>(b q e.1 tree x13 I).bind λr=>u (AG<|J+1) (self<|.l1 r.1 (u (r.2>a) r.2 a)<|J+1) A)<|u (AG<|J+1) (self<|.l1 x13 a<|J+1) A) A)<|B (at_==I) (Z (x13,x13))<|Z (x13,a)
def gp(n:E)(J:AA->Ξ->(O<|Δ)->U->U->W7)(self:gq->W7)(q:AA)(pos:Ξ)(tree:O<|Δ)(at_ I:U):W7:=u ((0<=at_/\at_<(F tree:U))/\AG (at_+1)) (B ((H tree at_.toNat ξ).1==1) ((Nt n q (H tree at_.toNat ξ).2 pos).bind λe=>(J q e.1 tree (at_+1) I).bind λr=>B ((H tree at_.toNat ξ).1==2) (self<|.l1 r.1 r.2 0)<|B (at_==I) (Z (r.1,r.1))<|Z (r.1,r.2))<|B ((H tree at_.toNat ξ).1==2) (self<|.l1 (at_+1) (-1) 0)<|B (at_==I) (Z (at_+1,at_+1))<|Z (at_+1,-1)) A
def Hn(J:AA->Ξ->(O<|Δ)->U->U->W7)(q:AA)(pos:Ξ)(tree:O<|Δ)(at_ I:U):E->gq->W7
 |0,_=>A
 |n+1,.l1 x13 a b=>Yf n J (Hn J q pos tree at_ I n) q pos tree at_ I x13 a b
def Cr:E->AA->Ξ->(O<|Δ)->U->U->W7
 |0,_,_,_,_,_=>A
 |n+1,q,pos,tree,at_,I=>gp n (Cr n) (Hn (Cr n) q pos tree at_ I n) q pos tree at_ I
def zQY(n Ϝ:E)(N:Yd 0)(q:AA)(pos:Ξ)(tree:O<|Δ)(at_ I:U)(r:Δ):gq->Prop:=px n Ϝ η N (FQ Tryz.f27 0 (.tup 2<|L1 [.i r.1,.i r.2]) []) (Af Tryz.f27) λ
 | .l1 x13 a J=>(0,0,AI 94 [(1,.ints pos),(2,.sl 2 (F tree)<|AM BA tree),(3,.i at_),(4,.i I),(5,.ref 0 0),(12,.ref 1 0),(13,.i x13),(14,.i a),(17,.i J)],[oC<|AJ q,oC [.i<|(H tree at_.toNat ξ).1,.i<|(H tree at_.toNat ξ).2]])
def zAN(Ϝ:E)(N:Yd 0)(J:AA->Ξ->(O<|Δ)->U->U->W7)(w:∀{q:AA} {pos:Ξ} {tree:O Δ} {at_ I:U} {r:Δ},J q pos tree at_ I=Z r->EQ 27 [.agg 5<|L1<|AJ q,.ints pos,.sl 2 (F tree)<|AM BA tree,.i at_,.i I] [] (.tup 2<|L1 [.i r.1,.i r.2]) [] D)(q:AA)(pos:Ξ)(tree:O<|Δ)(at_ I:U):Al (Hn J q pos tree at_ I) (zQY · Ϝ N q pos tree at_ I):=ia (λ_=>rfl) λn G s r h=>by
 cases s
 case l1 x13 A4 BC=>
  intro o j;refine rd j λo j=>?_
  revert r;apply gO;exact bi 54 (jg zEh (gc (gi (gi (bi 65 (cf ym (dx q tree at_) λ_=>cn λy2 K=>jc (fb (w K)<|dx q tree at_) (gw 56 (lG Ki [0,1] (G _ _ · o j)))) (gw 56 (lG Ki [0,1] (G _ _ · o j))))))))<|bi 90 (lE Ki [10,11] [])<|lE Ki [10,11] []
def zQX :∀{q:AA} {pos:Ξ} {tree:O Δ} {at_ I:U} {r:Δ} (h:Cr n q pos tree at_ I=Z r),EQ 27 [.agg 5<|L1<|AJ q,.ints pos,.sl 2 (F tree)<|AM BA tree,.i at_,.i I] [] (.tup 2<|L1 [.i r.1,.i r.2]) [] D:=by
 induction n with
 |zero=>intro q pos tree at_ I r h;cases h
 |succ n w=>
  intro q pos tree at_ I r h;refine ot Tryz.func27 λϜ N=>?_
  revert r;apply gO;exact gc (gi (jt (gw 27 (bi 30 (cf tn (dx q tree at_) λ_=>cn λy2 K=>jc (fb (w K)<|dx q tree at_) (bi 50 (lN Ki [0,1] ((zAN Ϝ N (Cr n) w q pos tree at_ I n) _ _ · n χ))<|bi 90 (lE Ki [10,11] [])<|lE Ki [10,11] [])) (bi 50 (lN Ki [0,1] ((zAN Ϝ N (Cr n) w q pos tree at_ I n) _ _ · n χ))<|bi 90 (lE Ki [10,11] [])<|lE Ki [10,11] [])))))
def zMW(q:AA)(e:(U×(O Ξ)×(O Ξ)×U)×U):DH:=[oC<|AJ q,oC [.i e.1.1,.sl 1 (F e.1.2.1)<|AM AS e.1.2.1,.sl 1 (F e.1.2.2.1)<|AM AS e.1.2.2.1,.i e.1.2.2.2]]
def vi(n:E)(q:AA)(pos:Ξ)(tree:O<|Δ)(at_:U):W7:=(HK n q pos tree).bind λe=>B (e.2 != 0) (Z (0,e.2))<|B (C<|at_<0) (Z (0,1))<|B (C<|at_>=(F tree:U)) (Z (0,1))<|(Cr n q pos tree 0 at_).bind λr=>Z (r.2,0)
def TU(n:E)(q:AA)(pos:Ξ)(tree:O<|Δ)(at_:U):W7:=vi n q pos tree at_
def zIq(h:TU n q pos tree at_=Z r):EQ 13 [.agg 5<|L1<|AJ q,.ints pos,.sl 2 (F tree)<|AM BA tree,.i at_] [] (.tup 2<|L1 [.i r.1,.i r.2]) [] D:=by
 unfold TU vi at h;refine ot Tryz.func13 λϜ N=>?_
 revert r;apply gO;exact cf ZD [oC<|AJ q] λe=>jt<|bi 22 (lE AC [8,9] [])<|bi 25 (lE AC [8,9] [])<|bi 30 (lE AC [8,9] [])<|cf zQX (zMW q e) λ_=>lE AC [8,9] []
def wN(n:E)(q:AA)(pos:Ξ)(tree:O<|Δ)(v:Ξ):X9:=(Pk n).bind λe=>B (!e) (Z T)<|(Mt n q pos tree).bind λr=>B (!r) (Z D)<|B (C<|(F v:U)>20) (Z D)<|(Ir n q pos tree v).bind λy3=>(M3 n q pos tree v).bind λQ=>(Ir n q pos tree ([]:Ξ)).bind λJ=>(M3 n q pos tree ([]:Ξ)).bind λI=>B (y3.1==Q.1) (B (y3.2==Q.2) (B (J.1==I.1) (Z<|J.2==I.2)<|Z T)<|Z T)<|Z T
def lU(n:E)(q:AA)(pos:Ξ)(tree:O<|Δ)(v:Ξ):X9:=wN n q pos tree v
def zJy{r:ζ}(h:lU n q pos tree a=Z r):EQ 3 [.agg 5<|L1<|AJ q,.ints pos,.sl 2 (F tree)<|AM BA tree,.ints a] [] (.bool r) [] D:=by
 unfold lU wN at h;refine ot Tryz.func3 λϜ N=>?_
 revert r;apply gO;exact cf r7 [oC<|AJ q] λ_=>bi 18 (lE AC [8] [])<|cf yz [oC<|AJ q] λ_=>bi 23 (lE AC [8] [])<|bi 27 (lE AC [8] [])<|cf RH [oC<|AJ q] λ_=>cf zu [oC<|AJ q] λ_=>cn λy5 G=>jc (sb [.agg 5<|L1<|AJ q,.ints pos,.sl 2 (F tree)<|AM BA tree,.nils] (RH G) [oC<|AJ q] ⟨Am.plain Z5,Am.plain Z5,Am.plain Z5,Am.nils,trivial⟩)<|cn λy6 v=>jc (sb [.agg 5<|L1<|AJ q,.ints pos,.sl 2 (F tree)<|AM BA tree,.nils] (zu v) [oC<|AJ q] ⟨Am.plain Z5,Am.plain Z5,Am.plain Z5,Am.nils,trivial⟩)<|bi 61 (bi 65 (bi 70 (lE AC [8] [])<|lE AC [8] [])<|lE AC [8] [])<|lE AC [8] []
def wM(n:E)(q:AA)(pos:Ξ)(tree:O<|Δ)(at_:U):X9:=(Pk n).bind λe=>B (!e) (Z T)<|(Mt n q pos tree).bind λa=>B (!a) (Z D)<|(MV n q pos tree).bind λy3=>(Tc n q pos tree).bind λQ=>(OH n q pos tree at_).bind λJ=>(TU n q pos tree at_).bind λI=>(UQ n q pos tree).bind λr=>(UR n q pos tree).bind λl=>(Pm n y3.1 Q.1).bind λP=>B P (B (y3.2==Q.2) (B (J.1==I.1) (B (J.2==I.2) (B (r.1==l.1) (Z<|r.2==l.2)<|Z T)<|Z T)<|Z T)<|Z T)<|Z T
def lT(n:E)(q:AA)(pos:Ξ)(tree:O<|Δ)(at_:U):X9:=wM n q pos tree at_
def zJw{r:ζ}(h:lT n q pos tree at_=Z r):EQ 4 [.agg 5<|L1<|AJ q,.ints pos,.sl 2 (F tree)<|AM BA tree,.i at_] [] (.bool r) [] D:=by
 unfold lT wM at h;refine ot Tryz.func4 λϜ N=>?_
 revert r;apply gO;exact cf r7 [oC<|AJ q] λ_=>bi 22 (lE AC [8] [])<|cf yz [oC<|AJ q] λ_=>bi 27 (lE AC [8] [])<|cf dH [oC<|AJ q] λ_=>cf zJu [oC<|AJ q] λ_=>cf vf [oC<|AJ q] λ_=>cf zIq [oC<|AJ q] λ_=>cf zZ [oC<|AJ q] λ_=>cf zPG [oC<|AJ q] λ_=>cf sA [oC<|AJ q] λ_=>bi 74 (bi 78 (bi 83 (bi 88 (bi 93 (lE AC [8] [])<|lE AC [8] [])<|lE AC [8] [])<|lE AC [8] [])<|lE AC [8] [])<|lE AC [8] []
end
section
abbrev Ll:=(U×O Ξ×O Ξ×U)×ζ
def CZ(l:O Av):O Ξ:=(l.map (·.2.1)).filter λg=>!g.isEmpty
def MM(m:U)(l:O Av):U:=l.foldl (λm x=>u (x.2.2>m) x.2.2 m) m
variable{a b:O Av}
def zNr :CZ (a++b)=CZ a++CZ b:=by simp[CZ]
def zIx{m:U}:MM m (a++b)=MM (MM m a) b:=List.foldl_append
def zNq{l:O Av}:F (CZ l)<=F l:=zIX (zR8 _ _) Z3
def zAl{s:E}(p:s<64)(m:U):(bits .and .i64 m (IntKind.i64.wrap<|1*2^s)==0)= !tb m s:=by
 rw[←zHw p,show bits .and .i64 m (IntKind.i64.wrap<|1*2^s)=bits .and .i64 (IntKind.i64.wrap<|1*2^s) m from by
  show IntKind.i64.wrap ((BitVec.ofInt 64 m&&& BitVec.ofInt 64 (IntKind.i64.wrap<|1*2^s)).toNat:U)=IntKind.i64.wrap ((BitVec.ofInt 64 (IntKind.i64.wrap<|1*2^s)&&& BitVec.ofInt 64 m).toNat:U)
  rw[BitVec.and_comm]]
 simp[bne]
section
variable{q:AA}{tree:O Δ}{pos0 pos e:Ξ}{a Ϛ:E}
structure ND(q:AA)(tree:O (Δ))(pos:Ξ)(a Ϛ:E)(e:Ξ)(v:E)(l:O Av)(o:Ξ)(k:E):Prop where
 kb:k+a+1<=v
 walk:Ev (λn=>CE n q pos tree (a:U)) ((((v:U),l.map (·.1),CZ l,(k:U)),D):Ll)
 mx:∀m,MM m l=max m ((Ϛ:U)+k)
 beh:∀An:U,Ev (λn=>Cr n q pos tree (a:U) An) ((v:U),u ((a:U)<=An/\An<v) (H o An.toNat 0) (-1))
 out:∀i,i<a∨v<=i->H o i 0=H e i 0
 inn:∀i,a<=i->i<v->0<=H o i 0
 rows:∀y∈l,F y.1<=256/\F y.2.1<=256
def FD(q:AA)(tree:O<|Δ)(pos:Ξ)(a:E):Prop:=∃x,Ev (λn=>CE n q pos tree (a:U)) ((x,T):Ll)
structure CD(q:AA)(tree:O (Δ))(pos:Ξ)(a Ϛ c j b:E)(e:Ξ)(v:E)(l:O Av)(o:Ξ)(k:E):Prop where
 kb:k+b<=v
 walk:∀(o3 o4:O Ξ) (ϒ:E),F o3<=b->F o4<=b->ϒ<=b->∃N,∀n m,N<=n->N<=m->HL (CE m) q pos tree (a:U) n (.l1 (j:U) (b:U) (ϒ:U) o3 o4)=Z ((((v:U),o3++l.map (·.1),o4++CZ l,((max ϒ k:E):U)),D):Ll)
 mx:∀m,(Ϛ:U)<=m->MM m l=max m ((Ϛ:U)+k)
 mx2:Bz (H pos c 0) j≠[]->∀m,MM m l=max m ((Ϛ:U)+k)
 beh:∀An f:U,-1<=f->∃N,∀n m,N<=n->N<=m->Hn (Cr m) q pos tree (a:U) An n (.l1 (b:U) f (j:U))=Z (u ((a:U)=An) ((v:U),(v:U)) ((v:U),max f (u ((b:U)<=An/\An<v) (H o An.toNat 0) (-1))))
 out:∀i,i<b∨v<=i->H o i 0=H e i 0
 inn:∀i,b<=i->i<v->0<=H o i 0
 rows:∀y∈l,F y.1<=256/\F y.2.1<=256
def CF(q:AA)(tree:O<|Δ)(pos:Ξ)(a j b:E):Prop:=∀(o3 o4:O Ξ) (ϒ:E),F o3<=b->F o4<=b->ϒ<=b->∃x N,∀n m,N<=n->N<=m->HL (CE m) q pos tree (a:U) n (.l1 (j:U) (b:U) (ϒ:U) o3 o4)=Z ((x,T):Ll)
def RQ(ϙ a:E)(ϑ:E->O Av->Ξ->Prop)(Ϝ:Prop)(r:YR Av U Ξ):Prop:=RP ϙ a ϑ r/\(r.2.1=A->Ϝ)
def RQ.fail{ϙ a:E}{ϑ:E->O Av->Ξ->Prop}{Ϝ:Prop}{l:O Av}{o:Ξ}(K:F o=ϙ)(q:F l+a<=ϙ)(b:Ϝ):RQ ϙ a ϑ Ϝ (l,A,o):=⟨RP.fail K q,λ_=>b⟩
variable{c j n m:E}
def rC{b ϒ:E}{o3 o4:O Ξ}(t:CN q=D)(hp:posOk q pos=D)(hc:(H tree a ξ).2=(c:U))(BF:c<F pos)(hj:j<q.sy.toNat):
 HL (CE m) q pos tree (a:U) (n+1) (.l1 (j:U) (b:U) (ϒ:U) o3 o4)=bif !tb (H pos c 0) j then HL (CE m) q pos tree (a:U) n<|.l1 ((j+1:E):U) (b:U) (ϒ:U) o3 o4 else
  (Q4 n q pos (c:U) (j:U)).bind λe=>(CE m q e.1 tree (b:U)).bind λr=>bif(e.2 != 0)then Z (((0,[],[],0),T):Ll)else bif(!r.2)then Z ((0,[],[],0),T)else
   u (F o3+F r.1.2.1<=Aw/\F o4+F r.1.2.2.1<=Aw/\AG (r.1.2.2.2+1)/\AG ((j:U)+1)) (HL (CE m) q pos tree (a:U) n<|.l1 ((j+1:E):U) r.1.1 (u ((r.1.2.2.2+1)>(ϒ:U)) (r.1.2.2.2+1) (ϒ:U)) (o3++r.1.2.1)<|o4++r.1.2.2.1) A:=by
 have hk:=(ER t).2.1;have f:AG<|(j:U)+1:=AZ.2 ⟨Z2,Z2⟩
 show U7 n (CE m) (HL (CE m) q pos tree (a:U) n) q pos tree (a:U) (j:U) (b:U) (ϒ:U) o3 o4=_
 unfold U7;rw[zAB Z2,zAG,u8,hc,zAF ⟨Z2,Z2,by show(j:U)<=((64:E):U);omega⟩,u8,u8,zAl Z2];simp only[zAF f];rfl
def zAM{b:E}{I f:U}(t:CN q=D)(hp:posOk q pos=D)(hc:(H tree a ξ).2=(c:U))(BF:c<F pos)(hj:j<q.sy.toNat):
 Hn (Cr m) q pos tree (a:U) I (n+1) (.l1 (b:U) f (j:U))=bif tb (H pos c 0) j then(Q4 n q pos (c:U) (j:U)).bind λe=>(Cr m q e.1 tree (b:U) I).bind λr=>Hn (Cr m) q pos tree (a:U) I n<|.l1 r.1 (u (r.2>f) r.2 f) ((j+1:E):U)else
  Hn (Cr m) q pos tree (a:U) I n (.l1 (b:U) f ((j+1:E):U)):=by
 have hk:=(ER t).2.1;have g:AG<|(j:U)+1:=AZ.2 ⟨Z2,Z2⟩
 show Yf n (Cr m) (Hn (Cr m) q pos tree (a:U) I n) q pos tree (a:U) I (b:U) f (j:U)=_
 unfold Yf;rw[zAB Z2,zAG,u8,hc,zAF ⟨Z2,Z2,by show(j:U)<=((64:E):U);omega⟩,u8,u8,bne,zAl Z2,Bool.not_not];simp only[zAF g];rfl
def zCC(hF:DK q)(G:CN q=D)(X:posOk q pos=D)(hc:(H tree a ξ).2=(c:U))(Y:c<F pos)(hT:F tree<=65536)(hd:Ϛ<=65536)
 (ih:∀(p:Ξ) (b:E) (o:Ξ),posOk q p=D->a<b->b<=F tree->F o=F tree->∃r,Ev (λn=>Bu n p b ((Ϛ+1:E):U) o q tree (F tree) pos0) r/\RQ (F tree) b (λv l Q=>∃k,ND q tree p b (Ϛ+1) o v l Q k) (FD q tree p b) r):
 ∀(k j b:E) (o:Ξ),j+k=q.sy.toNat->a<b->b<=F tree->F o=F tree->∃r,(∃N,∀n m,N<=n->N<=m->IU (Bu m) e q tree (F tree) pos0 pos a Ϛ (H tree a ξ) n (.l1 (b:U) (j:U) o)=Z r)/\RQ (F tree) b (λv l Q=>∃k,CD q tree pos a Ϛ c j b o v l Q k) (CF q tree pos a j b) r:=by
 obtain⟨h1,h2⟩:=(K7 G).1 X;obtain⟨_,He,_⟩:=ER G;have hx:=h2 c Y;have P:Eu q pos:=⟨hF,G,X⟩;have ϙ:(1000000000000:E)=Aw:=rfl;intro k
 induction k with
 |zero=>
  intro j b o ej hb Qu ho;refine⟨([],Z (b:U),o),⟨1,λn m g _=>?_⟩,⟨ho,by simpa using Qu,λx Il=>?_⟩,λh=>by cases h⟩
  ·obtain⟨n,rfl⟩:∃k,n=k+1:=⟨n-1,Z2⟩
   show Pc n (Bu m) (IU (Bu m) e q tree (F tree) pos0 pos a Ϛ (H tree a ξ) n) e q tree (F tree) pos0 pos a Ϛ (H tree a ξ) (b:U) (j:U) o=_
   unfold Pc;rw[zAE Z2,zAD]
  ·cases Il
   have z:Bz (H pos c 0) j= []:=by
    have:j=q.sy.toNat:=Z2
    rw[this];exact zCw hx Z2
   refine⟨b,rfl,zI1 _,Qu,Z3,0,Z2,λo3 o4 ϒ _ _ _=>⟨1,λn m g _=>?_⟩,λm s=>?_,λh=>τ z h,λI f hf=>⟨1,λn m g _=>?_⟩,λi _=>rfl,λi h1 h2=>Z2,λy hy=>by cases hy⟩
   ·obtain⟨n,rfl⟩:∃k,n=k+1:=⟨n-1,Z2⟩
    show U7 n (CE m) (HL (CE m) q pos tree (a:U) n) q pos tree (a:U) (j:U) (b:U) (ϒ:U) o3 o4=_
    unfold U7;rw[zAE Z2,zAD];simp[CZ]
   ·show m=_
    omega
   ·obtain⟨n,rfl⟩:∃k,n=k+1:=⟨n-1,Z2⟩
    show Yf n (Cr m) (Hn (Cr m) q pos tree (a:U) I n) q pos tree (a:U) I (b:U) f (j:U)=_
    unfold Yf;rw[zAE Z2,zAD,zJz<|show¬((b:U)<=I/\I<(b:U)) by omega]
    by_cases R:(a:U)=I
    ·rw[zAF R,zKq.2 R,zAG]
    ·rw[zJz R,zBE.2 R,zAD,show max f (-1)=f by omega]
 |succ k hk=>
  intro j b o ej hb Qu ho
  have step:∀n m,IU (Bu m) e q tree (F tree) pos0 pos a Ϛ (H tree a ξ) (n+1) (.l1 (b:U) (j:U) o)=B (tb (H pos c 0) j) ((Q3 n q pos c j).bind λy1=>B (y1.2==0) (yb (Bu m y1.1 b ((Ϛ+1:E):U) o q tree (F tree) pos0) λy2 Q=>IU (Bu m) e q tree (F tree) pos0 pos a Ϛ (H tree a ξ) n<|.l1 y2 ((j+1:E):U) Q)<|Z ([],A,o)) (IU (Bu m) e q tree (F tree) pos0 pos a Ϛ (H tree a ξ) n<|.l1 (b:U) ((j+1:E):U) o):=by
   intro n m
   show Pc n (Bu m) (IU (Bu m) e q tree (F tree) pos0 pos a Ϛ (H tree a ξ) n) e q tree (F tree) pos0 pos a Ϛ (H tree a ξ) (b:U) (j:U) o=_
   unfold Pc;have r1:AG<|(j:U)+1:=AZ.2 ⟨Z2,Z2⟩;have r2:AG<|(Ϛ:U)+1:=AZ.2 ⟨Z2,Z2⟩;rw[zAB Z2,zAG,zAF ⟨Z2,Z2,by show(j:U)<=((64:E):U);omega⟩,hc,u8,u8,Zr hx Z2 Z2];simp only[zAF r1,zAF r2];rfl
  have Hf:Bz (H pos c 0) j=u (tb (H pos c 0) j) (j::Bz (H pos c 0) (j+1)) (Bz (H pos c 0)<|j+1):=ri Z2
  cases S:tb (H pos c 0) j with
  |false=>
   rw[S]at Hf;have Hf:Bz (H pos c 0) j=Bz (H pos c 0) (j+1):=Hf;obtain⟨r,⟨N,hN⟩,⟨g1,g2,g3⟩,g4⟩:=hk (j+1) b o Z2 hb Qu ho;have sp:=λ(o3 o4:O Ξ) (ϒ n m:E)=>(rC (m:=m) (n:=n) (b:=b) (ϒ:=ϒ) (o3:=o3) (o4:=o4) G X hc Y<|show j<q.sy.toNat by omega).trans (by rw[S,zMj,zAG])
   refine⟨r,⟨N+1,λn m g s=>?_⟩,⟨g1,g2,λx hx=>?_⟩,λhr o3 o4 ϒ u1 u2 V=>?_⟩
   ·obtain⟨n,rfl⟩:∃k,n=k+1:=⟨n-1,Z2⟩;rw[step,S,zAD];exact hN n m Z2 Z2
   ·obtain⟨v,rfl,v1,v2,v3,K,Ϙ⟩:=g3 x hx;refine⟨v,rfl,v1,v2,v3,K,Ϙ.kb,λo3 o4 ϒ u1 u2 V=>?_,Ϙ.mx,λh=>Ϙ.mx2 (by rwa[Hf]at h),λI f hf=>?_,Ϙ.out,Ϙ.inn,Ϙ.rows⟩
    ·obtain⟨ϕ,t⟩:=Ϙ.walk o3 o4 ϒ u1 u2 V;refine⟨ϕ+1,λn m g s=>?_⟩;obtain⟨n,rfl⟩:∃k,n=k+1:=⟨n-1,Z2⟩;exact(sp o3 o4 ϒ n m).trans<|t n m Z2 Z2
    ·obtain⟨ϕ,t⟩:=Ϙ.beh I f hf;refine⟨ϕ+1,λn m g s=>?_⟩;obtain⟨n,rfl⟩:∃k,n=k+1:=⟨n-1,Z2⟩;rw[zAM G X hc Y Z2,S,zAD];exact t n m Z2 Z2
   ·obtain⟨x,ϕ,t⟩:=g4 hr o3 o4 ϒ u1 u2 V;refine⟨x,ϕ+1,λn m g s=>?_⟩;obtain⟨n,rfl⟩:∃k,n=k+1:=⟨n-1,Z2⟩;exact(sp o3 o4 ϒ n m).trans<|t n m Z2 Z2
  |true=>
   rw[S]at Hf;have Ay:Bz (H pos c 0) j≠[]:=by rw[Hf];simp
   obtain⟨⟨l,out,o1⟩,⟨N,hN⟩,⟨g1,g2,g3⟩,g4⟩:=ih (GL pos c j) b o (zN2 G X Y Z2) hb Qu ho;have Xe:∀n,N<=n->Bu n (GL pos c j,(0:U)).1 b ((Ϛ+1:E):U) o q tree (F tree) pos0=Z (l,out,o1):=hN;have fx:∀n,CX q+300<=n->Q3 n q pos c j=Z (GL pos c j,0):=λn g=>zOC hF G X Y Z2 g
   obtain⟨M0,fy⟩:=zOE P Y (show j<q.sy.toNat by omega);have fy:∀n,M0<=n->Q4 n q pos (c:U) (j:U)=Z (GL pos c j,0):=fy;have sp:=λ(o3 o4:O Ξ) (ϒ n m:E) (g:M0<=n)=>(rC (m:=m) (n:=n) (b:=b) (ϒ:=ϒ) (o3:=o3) (o4:=o4) G X hc Y<|show j<q.sy.toNat by omega).trans (by rw[S,zLW,zAD,fy n g,zAC])
   cases out with
   |none=>
    obtain⟨x,ϕ,t⟩:=g4 rfl;refine⟨(l,A,o1),⟨N+CX q+301,λn m g s=>?_⟩,RQ.fail g1 g2 λo3 o4 ϒ _ _ _=>⟨(0,[],[],0),M0+ϕ+1,λn m g s=>?_⟩⟩
    ·obtain⟨n,rfl⟩:∃k,n=k+1:=⟨n-1,Z2⟩;rw[step,S,zAG,fx n Z2,zAC];rw[show((GL pos c j,(0:U)).2==0)=D from rfl,zAG,Xe m Z2];rfl
    ·obtain⟨n,rfl⟩:∃k,n=k+1:=⟨n-1,Z2⟩;have t:∀n,ϕ<=n->CE n q (GL pos c j) tree (b:U)=Z (x,T):=t;rw[sp o3 o4 ϒ n m Z2]
     show((CE m q (GL pos c j) tree (b:U)).bind λy2=>_)=_
     rw[t m Z2];rfl
   |some x=>
    obtain⟨v,rfl,v1,v2,v3,J,C1⟩:=g3 x rfl;obtain⟨⟨l2,J2,Q⟩,⟨ϕ,t⟩,⟨w1,w2,w3⟩,w4⟩:=hk (j+1) v o1 Z2 Z2 v2 g1;have v3:F l+b<=v:=v3;have kb:=C1.kb;have w2:F l2+v<=F tree:=w2;have gl:F (CZ l)<=F l:=zNq;have rk:AG<|(J:U)+1:=AZ.2 ⟨Z2,Z2⟩;have rj:AG<|(j:U)+1:=AZ.2 ⟨Z2,Z2⟩;obtain⟨M1,hW⟩:=C1.walk;have hW:∀n,M1<=n->CE n q (GL pos c j) tree (b:U)=Z (((v:U),l.map (·.1),CZ l,(J:U)),D):=hW
    have rJ:∀(o3 o4:O Ξ) (ϒ n m:E),F o3<=b->F o4<=b->ϒ<=b->M0+M1<=n->M0+M1<=m->HL (CE m) q pos tree (a:U) (n+1) (.l1 (j:U) (b:U) (ϒ:U) o3 o4)=HL (CE m) q pos tree (a:U) n (.l1 ((j+1:E):U) (v:U) ((max ϒ<|J+1:E):U) (o3++l.map (·.1))<|o4++CZ l):=λo3 o4 ϒ n m u1 u2 V g s=>by
     rw[sp o3 o4 ϒ n m Z2]
     show((CE m q (GL pos c j) tree (b:U)).bind λy2=>_)=_
     rw[hW m Z2,zAC]
     show u _ _ _=_
     rw[zAF ⟨by rw[zKB,←ϙ];omega,by rw[←ϙ];show F o4+F (CZ l)<=_;omega,rk,rj⟩]
     show HL _ _ _ _ _ _ (.l1 _ _ (u ((J:U)+1>(ϒ:U)) ((J:U)+1) (ϒ:U)) _ _)=_
     rw[show u ((J:U)+1>(ϒ:U)) ((J:U)+1) (ϒ:U)=((max ϒ<|J+1:E):U) by split <;> omega]
    refine⟨(l++l2,J2,Q),⟨N+ϕ+CX q+301,λn m g s=>?_⟩,⟨w1,by rw[zKp];omega,λy hy=>?_⟩,λhr o3 o4 ϒ u1 u2 V=>?_⟩
    ·obtain⟨n,rfl⟩:∃k,n=k+1:=⟨n-1,Z2⟩;rw[step,S,zAG,fx n Z2,zAC];rw[show((GL pos c j,(0:U)).2==0)=D from rfl,zAG,Xe m Z2]
     show(IU _ _ _ _ _ _ _ _ _ _ _ _).map _=_
     rw[t n m Z2 Z2];rfl
    ·obtain⟨w,rfl,u1,u2,V,K2,W⟩:=w3 y hy;have V:F l2+v<=w:=V;have kb2:=W.kb;have dc:((Ϛ+1:E):U)=(Ϛ:U)+1:=Z2
     have mm:∀m,MM m (l++l2)=max m ((Ϛ:U)+((max (J+1) K2:E):U)):=λm=>by
      rw[zIx,C1.mx,W.mx _ Z2];omega
     refine⟨w,rfl,Z2,u2,by rw[zKp];omega,max (J+1) K2,Z2,λo3 o4 ϒ z1 z2 z3=>?_,λm _=>mm m,λ_=>mm,λI f hf=>?_,λi hi=>?_,λi i1 i2=>?_,λy hy=>(zNa.1 hy).elim (C1.rows y)<|W.rows y⟩
     ·obtain⟨M2,h2⟩:=W.walk (o3++l.map (·.1)) (o4++CZ l) (max ϒ<|J+1) (by rw[zKp,zKB];omega) (by rw[zKp];omega) Z2;refine⟨M0+M1+M2+1,λn m g s=>?_⟩;obtain⟨n,rfl⟩:∃k,n=k+1:=⟨n-1,Z2⟩;rw[rJ o3 o4 ϒ n m z1 z2 z3 Z2 Z2,h2 n m Z2 Z2,zSK,zNr,zRx,zRx,show max (max ϒ<|J+1) K2=max ϒ (max (J+1) K2) by omega]
     ·obtain⟨N3,h3⟩:=C1.beh I;have h3:∀n,N3<=n->Cr n q (GL pos c j) tree (b:U) I=_:=h3;obtain⟨N4,h4⟩:=W.beh I (max f<|u ((b:U)<=I/\I<v) (H o1 I.toNat 0)<|-1) Z2;refine⟨M0+N3+N4+1,λn m g s=>?_⟩;obtain⟨n,rfl⟩:∃k,n=k+1:=⟨n-1,Z2⟩;rw[zAM G X hc Y Z2,S,zAG,fy n Z2,zAC]
      show((Cr m q (GL pos c j) tree (b:U) I).bind λy2=>_)=_
      rw[h3 m Z2,zAC]
      show Hn _ _ _ _ _ _ _ (.l1 (v:U) (u ((u ((b:U)<=I/\I<v) (H o1 I.toNat 0)<|-1)>f) _ f) _)=_
      rw[show∀y:U,u (y>f) y f=max f y from λy=>by split <;> omega,h4 n m Z2 Z2];have Dm:=C1.inn I.toNat;have Md:=W.out I.toNat
      by_cases R:(a:U)=I
      ·rw[zAF R,zAF R]
      ·rw[zJz R,zJz R]
       congr 2
       by_cases q1:(b:U)<=I/\I<v
       ·rw[zAF q1,zJz Z2,zAF (show(b:U)<=I/\I<(w:U) by omega),Md Z2];have:=Dm Z2 Z2;omega
       ·rw[zJz q1]
        by_cases q2:(v:U)<=I/\I<w
        ·rw[zAF q2,zAF<|show(b:U)<=I/\I<(w:U) by omega]
         show max (max f<|-1) (H Q I.toNat 0)=max f (H Q I.toNat 0)
         omega
        ·rw[zJz q2,zJz<|show¬((b:U)<=I/\I<(w:U)) by omega];omega
     ·rw[W.out i Z2,C1.out i Z2]
     ·by_cases hi:i<v
      ·rw[W.out i Z2];exact C1.inn i i1 hi
      ·exact W.inn i Z2 i2
    ·obtain⟨x,M2,h2⟩:=w4 hr (o3++l.map (·.1)) (o4++CZ l) (max ϒ<|J+1) (by rw[zKp,zKB];omega) (by rw[zKp];omega) Z2;refine⟨x,M0+M1+M2+1,λn m g s=>?_⟩;obtain⟨n,rfl⟩:∃k,n=k+1:=⟨n-1,Z2⟩;rw[rJ o3 o4 ϒ n m u1 u2 V Z2 Z2];exact h2 n m Z2 Z2
end
end
section
variable{q:AA}{pos g:Ξ}{tree:O Δ}
def gK(l:O Av)(g:Ξ):ζ:=l.all (λx=>x.2.1.isEmpty||C (x.2.1=g))&&C (l.countP (λx=>!x.2.1.isEmpty)=min (F g) 1)
def zP7{l:O Av}{o:Ξ}{c:U}(h:Ev (λn=>Hk n q pos tree) (l,o,c))(hl:F l<=65536)(I:∀x∈l,F x.2.1<=256):Ev (λn=>Ir n q pos tree g)<|u (c=280) (T,0)<|u (c≠0) (T,c) (gK l g,0):=by
 have lb:(256:E)<=LB:=Z6
 have N:u ((F g:U)<1) (F g:U) 1=((min (F g) 1:E):U):=by split <;> omega
 have key:∀(k j a:E),j+k=F l->a<=j->Ev (λn=>Lj q pos tree g n<|.l1 (a:U) l (F l:U) (j:U)) ((l.drop j).all (λx=>x.2.1.isEmpty||C (x.2.1=g))&&C (a+(l.drop j).countP (λx=>!x.2.1.isEmpty)=min (F g) 1),0):=by
  intro k
  induction k with
  |zero=>
   intro j a e J;refine Ev.one λn=>?_
   show RM n (Lj q pos tree g n) q pos tree g (a:U) l (F l:U) (j:U)=_
   unfold RM;rw[zAE Z2,zAD,zR1 Z2,N]
   have:((a:U)==((min (F g) 1:E):U))=C (a=min (F g) 1):=by
    rw[zLX,zKq,zKv];omega
   rw[this];simp;rfl
  |succ k w=>
   intro j a e J;have r:j<F l:=Z2
   have z:H l j ξ=l[j]:=by simp[r]
   rw[zK3 r,zN0,List.countP_cons];have G:AG<|(j:U)+1:=AZ.2 ⟨Z2,Z2⟩;have K:AG<|(a:U)+1:=AZ.2 ⟨Z2,Z2⟩;cases s:(l[j]).2.1 with
   |nil=>
    refine AR.ev (AR.one λn=>?_) (Ev.eq (w (j+1) a Z2 Z2) λn=>rfl)|>λh=>by simpa using h
    show RM n (Lj q pos tree g n) q pos tree g (a:U) l (F l:U) (j:U)=_
    unfold RM;rw[zAB Z2,zAG,zAF ⟨Z2,Z2⟩,u8,z,s]
    show(B (C<|(0:U)>0) _<|u (AG<|(j:U)+1) _ A)=_
    rw[zAE (show¬(0:U)>0 by decide),zAD,zAF G];rfl
   |cons y t=>
    have h256:F (y::t)<=256:=by rw[←s];exact I _<|zRd r
    have step:∀n,300<=n->Lj q pos tree g (n+1) (.l1 (a:U) l (F l:U) (j:U))=B (!C (y::t=g)) (Z (T,0)) (Lj q pos tree g n<|.l1 ((a+1:E):U) l (F l:U) ((j+1:E):U)):=λn i=>by
     show RM n (Lj q pos tree g n) q pos tree g (a:U) l (F l:U) (j:U)=_
     unfold RM;rw[zAB Z2,zAG,zAF ⟨Z2,Z2⟩,u8,z,s,zAB (by rw[zLA];omega),zAG,zAF K,zG Z2 Z2,zAC,zAF G];rfl
    by_cases v:y::t=g
    ·have:=AR.ev (AR.oneN 300 λn i=>by rw[step n i,zAB v];rfl)<|w (j+1) (a+1) Z2 Z2;rw[zAB v];simp only[List.isEmpty_cons,Bool.or_true,zMj,zM4,zMt];rw[show a+((l.drop<|j+1).countP (λx=>!x.2.1.isEmpty)+1)=a+1+(l.drop<|j+1).countP (λx=>!x.2.1.isEmpty) by omega];exact this
    ·refine Ev.oneN 300 λn i=>?_
     rw[step n i,zAE v];simp
 refine Ev.eq (Ev.bind h (b:=λn f=>B (f.2.2==280) (Z (T,0))<|B (f.2.2 != 0) (Z (T,f.2.2))<|Lj q pos tree g n<|.l1 0 f.1 (F f.1:U) 0) ?_) λn=>rfl
 by_cases m:c=280
 ·rw[zAF m];refine Ev.now λn=>?_
  show B (c==280) _ _=_
  rw[zKq.2 m,zAG]
 rw[zJz m]
 by_cases p:c=0
 ·rw[zJz<|by simpa using p];subst p;have:=key (F l) 0 0 Z2 Z2;rw[zNZ,zKx]at this;exact this
 ·rw[zAF p];refine Ev.now λn=>?_
  show(B (c==280) _<|B (c != 0) _ _)=_
  rw[zBE.2 m,zAD,zM8.2 p,zAG]
end
section
variable{q:AA}{tree:O Δ}{pos0 pos e g:Ξ}{a Ϛ:E}
def zCj(h:Eu q pos)(p:Db pos=Z g):Gd q g:=⟨by rw[Zl p];exact h.len,λj hj=>by
 have hl:=Zl p;obtain⟨s,R,X⟩:=rU p j Z2;have:s∈Bz (H pos j 0) 0:=by rw[R];exact zMv.2 rfl
 have o:=(cq.1 this).2
 have:s<q.sy.toNat:=zK4 λK=>by
  rw[(h.sm j Z2).hi K]at o;cases o
 rw[X];omega⟩
def zI7(h:Eu q pos):∃y,Ev (λn=>Wf n pos pos) (y,(0:U))/\(DG pos=D->y=d (F pos) 0):=by
 have h256:=h.len256;have e (j:E):bits .and .i64 (H pos j 0) (H pos j 0)=H pos j 0:=Iz (D5 _ _ _) (h.in64 j) λi hi=>by rw[FG];simp
 have key:∀(k i:E),i+k=F pos->Ev (λn=>QN pos pos n<|.l1 (i:U)<|pos.take i++d k 0) (u (DG pos) (d (F pos) 0) pos,(0:U)):=by
  intro k
  induction k with
  |zero=>
   intro i X;refine Ev.oneN 300 λn hn=>?_
   show We n (QN pos pos n) pos pos (i:U) _=_
   unfold We;rw[zAE Z2,zAD,zRz Z2,List.replicate_zero,zNL,zAF rfl]
   show(TQ n pos).bind _=_
   unfold TQ;rw[P8 Z2 Z2,zAC];cases DG pos with
   |false=>rfl
   |true=>
    rw[zAG,zAF ⟨rfl,Z2,Z2⟩,zAF Z3];rfl
  |succ k a=>
   intro i X;refine AR.ev (AR.one λn=>?_)<|a (i+1) Z2
   show We n (QN pos pos n) pos pos (i:U) _=_
   unfold We;rw[zAB Z2,zAG,u8,zKx,e,zAF ⟨Z2,Z2,Z7,AZ.2 ⟨Z2,Z2⟩⟩]
   rw[show(pos.take i++d (k+1) (0:U):Ξ).set i (H pos i 0)=pos.take (i+1)++d k 0 by
    rw[zBa (Ϛ:=0) Z2,List.set_append_right _ _ Z7];simp[zRg,Nat.min_eq_left (show i<=F pos by omega),List.replicate_succ]]
   rfl
 refine⟨u (DG pos) (d (F pos) 0) pos,Ev.eq (key (F pos) 0 Z2) λn=>?_,λz=>by rw[zAF z]⟩
 show lB n (QN pos pos n) pos pos=_
 unfold lB;rw[zNG,zAD,zAF ⟨rfl,Z2,Z2⟩];rfl
def ND.close{v k:E}{l:O Av}{o:Ξ}(K:a<F o)(S:k+a+1<=v)(f:Ev (λn=>CE n q pos tree (a:U)) ((((v:U),l.map (·.1),CZ l,(k:U)),D):Ll))(P:∀m,MM m l=max m ((Ϛ:U)+k))
 (g:∀I:U,Ev (λn=>Cr n q pos tree (a:U) I) ((v:U),u ((a:U)=I) (v:U)<|u (((a+1:E):U)<=I/\I<v) (H o I.toNat 0)<|-1))
 (b:∀i,i<a+1∨v<=i->H o i 0=H e i 0) (inn:∀i,a+1<=i->i<v->0<=H o i 0) (r:∀y∈l,F y.1<=256/\F y.2.1<=256):ND q tree pos a Ϛ e v l (o.set a (v:U)) k:=by
 have off:∀i,i≠a->H (o.set a (v:U)) i 0=H o i 0:=λi hi=>getD_set_ne λh=>hi h.symm
 refine⟨S,f,P,λI=>?_,λi hi=>by rw[off i Z2];exact b i Z2,λi h1 c=>?_,r⟩
 ·have h:=g I
  by_cases W:(a:U)=I
  ·rw[zAF W]at h;rw[zAF Z2,show I.toNat=a by omega,Mr K];exact h
  ·rw[zJz W]at h
   by_cases c:((a+1:E):U)<=I/\I<v
   ·rw[zAF c]at h;rw[zAF Z2,off _ Z2];exact h
   ·rw[zJz c]at h;rw[zJz Z2];exact h
 ·by_cases hi:i=a
  ·subst hi;rw[Mr K];omega
  ·rw[off i hi];exact inn i Z2 c
def zIi{ο:E->M (YR Av U Ξ)}{r0:YR Av U Ξ}{ϑ:E->O Av->Ξ->Prop}{Ϝ:Prop}(ha:a<F tree)(f:Ev ο r0)(g:RQ (F tree) a (λv l o=>a<v/\ϑ v l (o.set a (v:U))) Ϝ r0):∃r,Ev (λn=>yb (ο n) λj o1=>u ((0<=(a:U)/\(a:U)<(F tree:U))/\0+(a:U).toNat<F o1) (E6 (Bu n) pos a Ϛ e q tree (F tree) pos0 n<|.l1<|o1.set (0+(a:U).toNat) j) A) r/\RQ (F tree) a ϑ Ϝ r:=by
 obtain⟨l,b,o⟩:=r0;obtain⟨N,i⟩:=f;obtain⟨⟨s,y,m⟩,J⟩:=g;cases b with
 |none=>
  refine⟨(l,A,o),⟨N,λn c=>?_⟩,RQ.fail s y<|J rfl⟩
  show yb (ο n) _=_
  rw[i n c];rfl
 |some x=>
  obtain⟨v,rfl,V,W,v3,v4,v5⟩:=m x rfl;have s:F o=F tree:=s;refine⟨(l,Z (v:U),o.set a (v:U)),⟨N+1,λn c=>?_⟩,⟨by rw[zKy];exact s,y,λx p=>?_⟩,λh=>by cases h⟩
  ·obtain⟨k,rfl⟩:∃k,n=k+1:=⟨n-1,Z2⟩
   show yb (ο<|k+1) _=_
   rw[i (k+1) Z2]
   show(u _ _ A).map _=_
   rw[zAF ⟨Z2,Z2⟩,u8,zKx]
   show(WZ k (Bu<|k+1) (E6 (Bu<|k+1) pos a Ϛ e q tree (F tree) pos0 k) pos a Ϛ e q tree (F tree) pos0<|o.set a (v:U)).map _=_
   unfold WZ;rw[zAF ⟨Z2,by rw[zKy];omega⟩,u8,zKx,Mr Z2];simp
  ·cases p;exact⟨v,rfl,V,W,v3,v5⟩
def zIl(hF:DK q)(hv:CN q=D)(hT:F tree<=65536):∀(m a Ϛ:E) (pos e:Ξ),F tree<=a+m->posOk q pos=D->F e=F tree->Ϛ<=a->a<=F tree->∃r,Ev (λn=>Bu n pos a Ϛ e q tree (F tree) pos0) r/\RQ (F tree) a (λv l o=>∃k,ND q tree pos a Ϛ e v l o k) (FD q tree pos a) r:=by
 intro m
 induction m with
 |zero=>
  intro a Ϛ pos e hm hp Q hda ha;refine⟨([],A,e),Ev.step 1 (λn=>(rfl:_=FL n (Bu n) (E6 (Bu n) pos a Ϛ e q tree (F tree) pos0 n) pos a Ϛ e q tree (F tree) pos0))<|Ev.now λn=>?_,RQ.fail Q (by simpa using ha) ⟨(0,[],[],0),Ev.step 1 (λn=>(rfl:_=NF n (CE n) q pos tree (a:U)))<|Ev.now λn=>?_⟩⟩
  ·unfold FL;rw[zAE Z2,zAD]
  ·unfold NF;rw[zAB Z2,zAG]
 |succ m ih=>
  intro a Ϛ pos e hm hp Q hda ha
  by_cases Ao:a<F tree
  rotate_left
  ·refine⟨([],A,e),Ev.step 1 (λn=>(rfl:_=FL n (Bu n) (E6 (Bu n) pos a Ϛ e q tree (F tree) pos0 n) pos a Ϛ e q tree (F tree) pos0))<|Ev.now λn=>?_,RQ.fail Q (by simpa using ha) ⟨(0,[],[],0),Ev.step 1 (λn=>(rfl:_=NF n (CE n) q pos tree (a:U)))<|Ev.now λn=>?_⟩⟩
   ·unfold FL;rw[zAE Z2,zAD]
   ·unfold NF;rw[zAB Z2,zAG]
  have P:Eu q pos:=⟨hF,hv,hp⟩;obtain⟨Ap,Cu⟩:=(K7 hv).1 hp;obtain⟨xm,He,_⟩:=ER hv;have lb:(4096:E)<=LB:=Z6
  have r1:AG<|(a:U)+1:=AZ.2 ⟨Z2,Z2⟩;have ra:(0:U)<=(a:U)/\(a:U)<(F tree:U):=⟨Z2,Z2⟩
  have W:∀{x:Ll} (N:E),(∀n,N<=n->(bif(H tree a ξ).1==1 then B (C<|(H tree a ξ).2<0) (Z ((0,[],[],0),T))<|B (C<|(H tree a ξ).2>=(F q.cons:U)) (Z ((0,[],[],0),T))<|(Nt n q (H tree a ξ).2 pos).bind λs=>B (s.2 != 0) (Z ((0,[],[],0),T))<|(CE n q s.1 tree<|(a:U)+1).bind λt=>Z ((t.1.1,t.1.2.1,t.1.2.2.1,t.1.2.2.2),t.2)
   else bif(H tree a ξ).1==2 then(Pd n (CE n) q pos tree (a:U)).bind λs=>Z ((s.1.1,s.1.2.1,s.1.2.2.1,s.1.2.2.2),s.2)
   else bif(H tree a ξ).1==3 then(Wf n pos pos).bind λs=>B ((H tree a ξ).2==0) ((Jv n pos).bind λt=>Z (((a:U)+1,[s.1],[],0),t))<|Z (((a:U)+1,[s.1],[],0),T)
   else bif(H tree a ξ).1==4 then(VF n pos).bind λs=>B (!s.2) (Z ((0,[],[],0),T))<|B ((H tree a ξ).2 != 0) (Z ((0,[],[],0),T))<|(SQ n q s.1).bind λt=>B (t.2==0) (Z (((a:U)+1,[pos],[s.1],0),t.1))<|Z (((a:U)+1,[pos],[s.1],0),T)
   else Z ((0,[],[],0),T))=Z x)->Ev (λn=>CE n q pos tree (a:U)) x:=λ{x} N h=>by
   refine Ev.step 1 (λn=>(rfl:_=NF n (CE n) q pos tree (a:U))) ⟨N,λn f=>?_⟩
   show NF n (CE n) q pos tree (a:U)=Z x
   rw[←h n f];unfold NF;rw[zAE Z2,zAD,zAF ra];simp only[zAF r1,u8]
  have ϗ:∀{J:U} {x:Δ} (N:E),(∀n,N<=n->(bif(H tree a ξ).1==1 then(Nt n q (H tree a ξ).2 pos).bind λs=>(Cr n q s.1 tree ((a:U)+1) J).bind λt=>B ((H tree a ξ).1==2) (Hn (Cr n) q pos tree (a:U) J n<|.l1 t.1 t.2 0)<|B ((a:U)==J) (Z (t.1,t.1))<|Z (t.1,t.2)
   else B ((H tree a ξ).1==2) (Hn (Cr n) q pos tree (a:U) J n<|.l1 ((a:U)+1) (-1) 0)<|B ((a:U)==J) (Z ((a:U)+1,(a:U)+1))<|Z ((a:U)+1,-1))=Z x)->Ev (λn=>Cr n q pos tree (a:U) J) x:=λ{J x} N h=>by
   refine Ev.step 1 (λn=>(rfl:_=gp n (Cr n) (Hn (Cr n) q pos tree (a:U) J n) q pos tree (a:U) J)) ⟨N,λn f=>?_⟩
   show gp n (Cr n) (Hn (Cr n) q pos tree (a:U) J n) q pos tree (a:U) J=Z x
   rw[←h n f];unfold gp;rw[zAF ⟨ra,r1⟩];simp only[u8]
  have w:∀{ο:E->M (YR Av U Ξ)} {r0:YR Av U Ξ},Ev ο r0->RQ (F tree) a (λv l o=>a<v/\∃k,ND q tree pos a Ϛ e v l (o.set a (v:U)) k) (FD q tree pos a) r0->(∀n,FL n (Bu n) (E6 (Bu n) pos a Ϛ e q tree (F tree) pos0 n) pos a Ϛ e q tree (F tree) pos0=yb (ο n) λs o1=>u ((0<=(a:U)/\(a:U)<(F tree:U))/\0+(a:U).toNat<F o1) (E6 (Bu n) pos a Ϛ e q tree (F tree) pos0 n<|.l1<|o1.set (0+(a:U).toNat) s) A)->∃r,Ev (λn=>Bu n pos a Ϛ e q tree (F tree) pos0) r/\RQ (F tree) a (λv l o=>∃k,ND q tree pos a Ϛ e v l o k) (FD q tree pos a) r:=λ{ο r0} e0 p0 R=>by
   obtain⟨r,e1,p1⟩:=zIi (pos0:=pos0) (pos:=pos) (Ϛ:=Ϛ) (e:=e) (q:=q) (ϑ:=λv l o=>∃k,ND q tree pos a Ϛ e v l o k) Ao e0 p0;exact⟨r,Ev.step 1 (λn=>(rfl:_=FL n (Bu n) (E6 (Bu n) pos a Ϛ e q tree (F tree) pos0 n) pos a Ϛ e q tree (F tree) pos0))<|Ev.eq e1 R,p1⟩
  have wJ:∀{y g:Ξ},F y<=256->F g<=256->Ev (λn=>CE n q pos tree (a:U)) (((((a+1:E):U),[y],CZ [((y,g,(Ϛ:U)):Av)],(0:U)),D):Ll)->(H tree a ξ).1≠1->(H tree a ξ).1≠2->ND q tree pos a Ϛ e (a+1) [(y,g,(Ϛ:U))] (e.set a ((a+1:E):U)) 0:=λ{y g} ly lg V n1 n2=>by
   refine ND.close Z2 Z2 V (λm=>?_) (λJ=>?_) (λi _=>rfl) (λi h1 h2=>Z2) λz hz=>by rw[zMv.1 hz];exact⟨ly,lg⟩
   ·show u ((Ϛ:U)>m) (Ϛ:U) m=_
    split <;> omega
   ·refine ϗ 0 λn _=>?_
    rw[zBE.2 n1,zAD,zBE.2 n2,zAD]
    by_cases V:(a:U)=J
    ·rw[zAF V,zKq.2 V];rfl
    ·rw[zJz V,zBE.2 V,zAD,zJz Z2];rfl
  by_cases X:(H tree a ξ).1=1
  ·by_cases eG:Hm q (H tree a ξ).2 pos=0
   ·have Ϙ:=Br.of hF eG;obtain⟨x,MY,Qb⟩:=zHq Ϙ;obtain⟨y,A3,Bi⟩:=zGw Ϙ;obtain rfl:x=y:=PR.uniq _ _ Qb Bi;obtain⟨Np,Xc⟩:=zGz Ϙ A3;have Xc:∀n,Np<=n->Nt n q (H tree a ξ).2 pos=Z (x,0):=Xc;have Y:=Ϙ.i0;have c1:=Ϙ.i1;obtain⟨⟨l,out,o⟩,hr,⟨g1,g2,g3⟩,g4⟩:=ih (a+1) Ϛ x e Z2 (Qb.posOk Ϙ) Q Z2 Z2;have g2:F l+(a+1)<=F tree:=g2;refine w (ο:=λn=>bo n (Bu n) e q tree (F tree) pos0 pos a Ϛ<|H tree a ξ) (r0:=(l,out,o)) (Ev.eq (Ev.bind MY (b:=λn s=>B (s.2==0) (u (AG<|(a:U)+1) (yb (Bu n s.1 ((a:U)+1) Ϛ e q tree (F tree) pos0) λt o2=>Z ([],Z t,o2)) A)<|Z ([],A,e)) ?_) λn=>rfl) ⟨⟨g1,by show F l+a<=_;omega,λy hy=>?_⟩,λho=>?_⟩ λn=>?_
    ·obtain⟨N,I⟩:=hr;refine⟨N,λn f=>?_⟩;have:Bu n x ((a+1:E):U) Ϛ e q tree (F tree) pos0=_:=I n f;rw[show((a+1:E):U)=(a:U)+1 by omega]at this
     show u (AG<|(a:U)+1) (yb (Bu n x ((a:U)+1) Ϛ e q tree (F tree) pos0) λt o2=>Z ([],Z t,o2)) A=_
     rw[zAF r1,this];cases out <;> simp[yb]
    ·obtain⟨v,rfl,v1,v2,v3,K,ϒ⟩:=g3 y hy;have v3:F l+(a+1)<=v:=v3;refine⟨v,rfl,Z2,v2,by show F l+a<=v;omega,Z2,K,ND.close (by have:F o=F tree:=g1;show a<F o;omega) (by have:=ϒ.kb;omega) ?_ ϒ.mx (λJ=>?_) ϒ.out ϒ.inn ϒ.rows⟩
     ·obtain⟨N,I⟩:=ϒ.walk;refine W (N+Np) λn f=>?_
      have I:CE n q x tree ((a:U)+1)=_:=I n Z2;rw[X,Xc n Z2]
      show B (C<|(H tree a ξ).2<0) _ _=_
      rw[zAE Z2,zAD,zAE Z2,zAD]
      show((CE n q x tree<|(a:U)+1).bind λt=>_)=_
      rw[I];rfl
     ·obtain⟨N,I⟩:=ϒ.beh J;refine ϗ (N+Np) λn f=>?_
      have I:Cr n q x tree ((a:U)+1) J=_:=I n Z2;rw[X,Xc n Z2]
      show((Cr n q x tree ((a:U)+1) J).bind λt=>_)=_
      rw[I,zAC]
      show B ((a:U)==J) _ _=_
      by_cases V:(a:U)=J
      ·rw[zAF V,zKq.2 V];rfl
      ·rw[zJz V,zBE.2 V];rfl
    ·obtain⟨z,N,I⟩:=g4 ho;refine⟨(z.1,z.2.1,z.2.2.1,z.2.2.2),W (N+Np) λn f=>?_⟩;have I:CE n q x tree ((a:U)+1)=_:=I n Z2;rw[X,Xc n Z2]
     show B (C<|(H tree a ξ).2<0) _ _=_
     rw[zAE Z2,zAD,zAE Z2,zAD]
     show((CE n q x tree<|(a:U)+1).bind λt=>_)=_
     rw[I];rfl
    ·unfold FL;rw[zAB Z2,zAG,zAF ra];simp only[u8,X];rfl
   ·obtain⟨e',JS,h1⟩:=zHr (a:=pos) hF Z2 eG;refine w (ο:=λn=>bo n (Bu n) e q tree (F tree) pos0 pos a Ϛ<|H tree a ξ) (r0:=([],A,e)) (Ev.eq (Ev.bind h1 (b:=λn s=>B (s.2==0) (u (AG<|(a:U)+1) (yb (Bu n s.1 ((a:U)+1) Ϛ e q tree (F tree) pos0) λt o2=>Z ([],Z t,o2)) A)<|Z ([],A,e))<|Ev.now λn=>?_) λn=>rfl) (RQ.fail Q (by simpa using ha) ⟨(0,[],[],0),W 0 λn _=>?_⟩) λn=>?_
    ·show B (e'==0) _ _=_
     rw[zBE.2 JS,zAD]
    ·rw[X]
     show B (C<|(H tree a ξ).2<0) _ _=_
     by_cases Y:(H tree a ξ).2<0
     ·rw[zAB Y,zAG]
     ·rw[zAE Y,zAD,zAB<|Classical.byContradiction λc1=>eG<|Br.check ⟨hF,hv,Z2,Z2,hp⟩,zAG]
    ·unfold FL;rw[zAB Z2,zAG,zAF ra];simp only[u8,X];rfl
  by_cases k2:(H tree a ξ).1=2
  ·have W2:∀{x:Ll} (N:E),(∀n,N<=n->Pd n (CE n) q pos tree (a:U)=Z x)->Ev (λn=>CE n q pos tree (a:U)) x:=λ{x} N h=>W N λn f=>by
    rw[k2,h n f];rfl
   have R:∀n,FL n (Bu n) (E6 (Bu n) pos a Ϛ e q tree (F tree) pos0 n) pos a Ϛ e q tree (F tree) pos0=yb (NO n (Bu n) e q tree (F tree) pos0 pos a Ϛ<|H tree a ξ) λs o1=>u ((0<=(a:U)/\(a:U)<(F tree:U))/\0+(a:U).toNat<F o1) (E6 (Bu n) pos a Ϛ e q tree (F tree) pos0 n<|.l1<|o1.set (0+(a:U).toNat) s) A:=λn=>by
    unfold FL;rw[zAB Z2,zAG,zAF ra];simp only[u8,k2];rfl
   have S:∀n,Pd n (CE n) q pos tree (a:U)=B (C<|(H tree a ξ).2<0) (Z ((0,[],[],0),T)) (B (C<|(H tree a ξ).2>=(F pos:U)) (Z ((0,[],[],0),T))<|(Jv n pos).bind λs=>B s (Z ((0,[],[],0),T))<|u ((0:U)<=(H tree a ξ).2/\(H tree a ξ).2<(F pos:U)) ((VI n<|H pos (H tree a ξ).2.toNat 0).bind λt=>B (C<|t<2) (Z ((0,[],[],0),T))<|HL (CE n) q pos tree (a:U) n<|.l1 0 ((a:U)+1) 0 [] []) A):=λn=>by
    unfold Pd rG;rw[zAF ra];simp only[zAF r1,u8]
   by_cases Y:(H tree a ξ).2>=0
   rotate_left
   ·refine w (r0:=([],A,e)) (Ev.now λn=>?_) (RQ.fail Q (by simpa using ha) ⟨(0,[],[],0),W2 0 λn _=>?_⟩) R
    ·unfold NO NN;rw[zAE Y,zAD]
    ·rw[S,zAB Z2,zAG]
   by_cases c1:(H tree a ξ).2<(F pos:U)
   rotate_left
   ·refine w (r0:=([],A,e)) (Ev.now λn=>?_) (RQ.fail Q (by simpa using ha) ⟨(0,[],[],0),W2 0 λn _=>?_⟩) R
    ·unfold NO NN;rw[zAB Y,zAG,zAE c1,zAD]
    ·rw[S,zAE Z2,zAD,zAB Z2,zAG]
   have T6:∀n,F pos<n->LJ n pos=Z (DG pos):=λn f=>Wu Z2 f
   have JT:∀n,F pos<n->Jv n pos=Z (DG pos):=λn f=>P8 Z2 f
   obtain⟨c,hc⟩:∃c:E,(H tree a ξ).2=(c:U):=⟨(H tree a ξ).2.toNat,Z2⟩;cases J9:DG pos with
   |true=>
    refine w (r0:=([],A,e)) (Ev.from (F pos+1) λn f=>?_) (RQ.fail Q (by simpa using ha) ⟨(0,[],[],0),W2 (F pos+1) λn f=>?_⟩) R
    ·unfold NO NN;rw[zAB Y,zAG,zAB c1,zAG,T6 n Z2,zAC,J9];rfl
    ·rw[S,zAE Z2,zAD,zAE Z2,zAD,JT n Z2,zAC,J9,zAG]
   |false=>
    have BF:c<F pos:=Z2
    obtain⟨N,I⟩:=zCm<|sm16 He<|Cu c BF;have I:∀n,N<=n->VH n (H pos c 0)=_:=I;obtain⟨N2,eN⟩:=zCr<|P.sm16 c BF;have eN:∀n,N2<=n->VI n (H pos c 0)=Z ((F<|Bz (H pos c 0) 0:E):U):=eN
    have S2:∀n,F pos+N2<n->Pd n (CE n) q pos tree (a:U)=B (C<|((F<|Bz (H pos c 0) 0:E):U)<2) (Z ((0,[],[],0),T)) (HL (CE n) q pos tree (a:U) n<|.l1 0 ((a:U)+1) 0 [] []):=λn f=>by
     rw[S,zAE Z2,zAD,zAE Z2,zAD,JT n Z2,zAC,J9,zAD,zAF ⟨Y,c1⟩,hc,u8,eN n Z2,zAC]
    by_cases h2:2<=F (Bz (H pos c 0) 0)
    ·obtain⟨⟨l,out,o⟩,⟨ϕ,hM⟩,⟨g1,g2,g3⟩,g4⟩:=zCC (pos0:=pos0) (a:=a) (Ϛ:=Ϛ) (e:=e) (tree:=tree) hF hv hp hc BF hT Z2 (λp b o hp hb Qu ho=>ih b (Ϛ+1) p o Z2 hp ho Z2 Qu) q.sy.toNat 0 (a+1) e Z2 Z2 Z2 Q;have g2:F l+(a+1)<=F tree:=g2;refine w (r0:=(l,out,o)) (Ev.from (N+ϕ+F pos+1) λn f=>?_) ⟨⟨g1,by show F l+a<=_;omega,λx hx=>?_⟩,λhr=>?_⟩ R
     ·unfold NO NN;have I:=I n Z2;rw[zAB Y,zAG,zAB c1,zAG,T6 n Z2,zAC,J9,zMj,zAG,zAF ⟨Y,c1⟩,hc,u8,I,zAC,zAB Z2,zAG,zAF r1];exact hM n n Z2 Z2
     ·obtain⟨v,rfl,v1,v2,v3,K,Ϙ⟩:=g3 x hx;have v3:F l+(a+1)<=v:=v3;have Ay:Bz (H pos c 0) 0≠[]:=λh=>by rw[h]at h2;simp at h2
      refine⟨v,rfl,Z2,v2,by show F l+a<=v;omega,Z2,K,ND.close (by have:F o=F tree:=g1;show a<F o;omega) (by have:=Ϙ.kb;omega) ?_ (Ϙ.mx2 Ay) (λJ=>?_) Ϙ.out Ϙ.inn Ϙ.rows⟩
      ·obtain⟨N3,h3⟩:=Ϙ.walk [] [] 0 Z3 Z3 Z2;refine W2 (N2+N3+F pos+1) λn f=>?_
       rw[S2 n Z2,zAE Z2,zAD];have:=h3 n n Z2 Z2;rw[Nat.zero_max,zLP,zLP]at this;exact this
      ·obtain⟨N3,h3⟩:=Ϙ.beh J (-1) Z2;refine ϗ N3 λn f=>?_
       rw[k2]
       show Hn (Cr n) q pos tree (a:U) J n (.l1 ((a:U)+1) (-1) 0)=_
       refine(h3 n n f f).trans ?_
       by_cases V:(a:U)=J
       ·rw[zAF V,zAF V]
       ·rw[zJz V,zJz V]
        by_cases q1:((a+1:E):U)<=J/\J<v
        ·rw[zAF q1];have:=Ϙ.inn J.toNat Z2 Z2
         congr 2;omega
        ·rw[zJz q1];rfl
     ·obtain⟨x,N3,h3⟩:=g4 hr [] [] 0 Z3 Z3 Z2;refine⟨x,W2 (N2+N3+F pos+1) λn f=>?_⟩;rw[S2 n Z2,zAE Z2,zAD];exact h3 n n Z2 Z2
    ·refine w (r0:=([],A,e)) (Ev.from (N+F pos+1) λn f=>?_) (RQ.fail Q (by simpa using ha) ⟨(0,[],[],0),W2 (N2+F pos+1) λn f=>?_⟩) R
     ·unfold NO NN;have I:=I n Z2;rw[zAB Y,zAG,zAB c1,zAG,T6 n Z2,zAC,J9,zMj,zAG,zAF ⟨Y,c1⟩,hc,u8,I,zAC,zAE Z2,zAD]
     ·rw[S2 n Z2,zAB Z2,zAG]
  by_cases k3:(H tree a ξ).1=3
  ·have R:∀n,FL n (Bu n) (E6 (Bu n) pos a Ϛ e q tree (F tree) pos0 n) pos a Ϛ e q tree (F tree) pos0=yb (UT n (Bu n) e q tree (F tree) pos0 pos a Ϛ<|H tree a ξ) λs o1=>u ((0<=(a:U)/\(a:U)<(F tree:U))/\0+(a:U).toNat<F o1) (E6 (Bu n) pos a Ϛ e q tree (F tree) pos0 n<|.l1<|o1.set (0+(a:U).toNat) s) A:=λn=>by
    unfold FL;rw[zAB Z2,zAG,zAF ra];simp only[u8,k3];rfl
   obtain⟨y,⟨N,I⟩,hy⟩:=zI7 P;have I:∀n,N<=n->Wf n pos pos=Z (y,0):=I;have T6:∀n,F pos<n->LJ n pos=Z (DG pos):=λn f=>Wu Z2 f
   have JT:∀n,F pos<n->Jv n pos=Z (DG pos):=λn f=>P8 Z2 f
   by_cases Y:(H tree a ξ).2=0
   rotate_left
   ·refine w (r0:=([],A,e)) (Ev.now λn=>?_) (RQ.fail Q (by simpa using ha) ⟨((a:U)+1,[y],[],0),W N λn f=>?_⟩) R
    ·unfold UT US;rw[zBE.2 Y,zAD]
    ·rw[zBE.2 X,zAD,zBE.2 k2,zAD,k3,I n f,zBE.2 Y];rfl
   cases J9:DG pos with
   |false=>
    refine w (r0:=([],A,e)) (Ev.from (F pos+1) λn f=>?_) (RQ.fail Q (by simpa using ha) ⟨((a:U)+1,[y],[],0),W (N+F pos+1) λn f=>?_⟩) R
    ·unfold UT US;rw[Y,zMn,zAG,T6 n Z2,zAC,J9,zAD]
    ·rw[zBE.2 X,zAD,zBE.2 k2,zAD,k3,I n Z2,JT n Z2,J9,Y];rfl
   |true=>
    have hy:=hy J9;refine w (r0:=([(d (F pos) 0,[],(Ϛ:U))],Z<|(a:U)+1,e)) (Ev.from (F pos+1) λn f=>?_) ⟨⟨Q,Z7,λx hx=>?_⟩,λh=>by cases h⟩ R
    ·unfold UT US;rw[Y,zMn,zAG,T6 n Z2,zAC,J9,zAG,zAF ⟨Z3,rfl,Z2,Z2⟩,zAF r1];rfl
    ·cases hx;refine⟨a+1,Z2,Z2,Z2,Z7,Z2,0,wJ Z7 Z3 (W (N+F pos+1) λn f=>?_) X k2⟩;rw[zBE.2 X,zAD,zBE.2 k2,zAD,k3,I n Z2,JT n Z2,J9,Y,hy];rfl
  by_cases k4:(H tree a ξ).1=4
  ·have R:∀n,FL n (Bu n) (E6 (Bu n) pos a Ϛ e q tree (F tree) pos0 n) pos a Ϛ e q tree (F tree) pos0=yb (Q9 n (Bu n) e q tree (F tree) pos0 pos a Ϛ<|H tree a ξ) λs o1=>u ((0<=(a:U)/\(a:U)<(F tree:U))/\0+(a:U).toNat<F o1) (E6 (Bu n) pos a Ϛ e q tree (F tree) pos0 n<|.l1<|o1.set (0+(a:U).toNat) s) A:=λn=>by
    unfold FL;rw[zAB Z2,zAG,zAF ra];simp only[u8,k4];rfl
   obtain⟨N,hS⟩:=zCf (pos:=pos) (λj hj=>sm16 He<|Cu j hj) Z2;have hS:∀n,N<=n->Zh n pos=_:=hS;obtain⟨N2,Xa⟩:=zCS P;have Xa:∀n,N2<=n->VF n pos=Z (FZ []<|Db pos):=Xa;cases hg:Db pos with
   |none=>
    refine w (r0:=([],A,e)) (Ev.from N λn f=>?_) (RQ.fail Q (by simpa using ha) ⟨(0,[],[],0),W N2 λn f=>?_⟩) R
    ·unfold Q9 Q8;rw[hS n f,zAC]
     by_cases Y:(H tree a ξ).2=0
     ·rw[Y,zMn,zAG,hg];rfl
     ·rw[zBE.2 Y,zAD]
    ·rw[zBE.2 X,zAD,zBE.2 k2,zAD,zBE.2 k3,zAD,k4,Xa n f,hg];rfl
   |some g=>
    by_cases Y:(H tree a ξ).2=0
    rotate_left
    ·refine w (r0:=([],A,e)) (Ev.from N λn f=>?_) (RQ.fail Q (by simpa using ha) ⟨(0,[],[],0),W N2 λn f=>?_⟩) R
     ·unfold Q9 Q8;rw[hS n f,zAC,zBE.2 Y,zAD]
     ·rw[zBE.2 X,zAD,zBE.2 k2,zAD,zBE.2 k3,zAD,k4,Xa n f,hg,zM8.2 Y];rfl
    have G:=zCj P hg;have Ez:=Zl hg;obtain⟨⟨b,er⟩,⟨ϕ,hM⟩,s1,s2⟩:=zCM (q:=q) (g:=g) hF Z2;have hM:∀n,ϕ<=n->Pf n q g=Z (b,er):=hM;obtain rfl:er=0:=s1.2 ⟨hv,G⟩;obtain⟨b2,⟨M2,eO⟩,t1⟩:=zCP hF hv G (by have:=ER hv;omega);have eO:∀n,M2<=n->SQ n q g=Z (b2,0):=eO;have eb:b=b2:=by rw[zLX];exact(s2 rfl).trans t1.symm
    subst eb
    have W4:Ev (λn=>CE n q pos tree (a:U)) ((((a:U)+1,[pos],[g],0),b):Ll):=W (N2+M2) λn f=>by
     rw[zBE.2 X,zAD,zBE.2 k2,zAD,zBE.2 k3,zAD,k4,Xa n Z2,hg,Y]
     show((SQ n q g).bind λt=>_)=_
     rw[eO n Z2];rfl
    cases b with
    |false=>
     refine w (r0:=([],A,e)) (Ev.from (N+ϕ) λn f=>?_) (RQ.fail Q (by simpa using ha) ⟨_,W4⟩) R;unfold Q9 Q8;rw[hS n Z2,zAC,Y,zMn,zAG,hg]
     show(Pf n q g).bind _=_
     rw[hM n Z2,zAC];rfl
    |true=>
     refine w (r0:=([(pos,g,(Ϛ:U))],Z<|(a:U)+1,e)) (Ev.from (N+ϕ) λn f=>?_) ⟨⟨Q,Z7,λx hx=>?_⟩,λh=>by cases h⟩ R
     ·unfold Q9 Q8;rw[hS n Z2,zAC,Y,zMn,zAG,hg]
      show(Pf n q g).bind _=_
      rw[hM n Z2,zAC]
      show yx _ (u _ _ A)=_
      rw[zAF r1];rfl
     ·cases hx;refine⟨a+1,Z2,Z2,Z2,Z7,Z2,0,wJ Z2 Z2 ?_ X k2⟩
      have:CZ [((pos,g,(Ϛ:U)):Av)]= [g]:=by
       have:g.isEmpty=T:=by
        cases g with
        |nil=>have:=P.len256;simp at Ez;omega
        |cons=>rfl
       simp[CZ,this]
      rw[this];exact W4
  ·refine⟨([],A,e),Ev.step 1 (λn=>(rfl:_=FL n (Bu n) (E6 (Bu n) pos a Ϛ e q tree (F tree) pos0 n) pos a Ϛ e q tree (F tree) pos0))<|Ev.now λn=>?_,RQ.fail Q (by simpa using ha) ⟨(0,[],[],0),W 0 λn _=>?_⟩⟩
   ·unfold FL;rw[zAB Z2,zAG,zAF ra,u8]
    by_cases k0:(H tree a ξ).1>=1
    ·rw[zAB k0,zAG,zAE Z2,zAD]
    ·rw[zAE k0,zAD]
   ·rw[zBE.2 X,zAD,zBE.2 k2,zAD,zBE.2 k3,zAD,zBE.2 k4,zAD]
end
section
variable{q:AA}{pos g:Ξ}{tree:O Δ}
structure Fo(q:AA)(pos:Ξ)(tree:O (Δ))(l:O Av)(o:Ξ)(c:U):Prop where
 prog:Ev (λn=>Hk n q pos tree) (l,o,c)
 len:F l<=65536
 bad:c≠0->l= []/\Ev (λn=>HK n q pos tree) ((0,[],[],0),c)
 good:c=0->F tree<=65536/\F o=F tree/\Ev (λn=>HK n q pos tree) (((F tree:U),l.map (·.1),CZ l,MM 0 l),0)/\∀An:U,0<=An->An<F tree->Ev (λn=>Cr n q pos tree 0 An) ((F tree:U),H o An.toNat 0)
 rows:∀y∈l,F y.1<=256/\F y.2.1<=256
def yi(e:DK q)(z:F pos<=LB):∃l o c,Fo q pos tree l o c:=by
 have k:∀n,CX q+F pos+1<=n->Lv n q pos tree=Z (u (CN q=D) (u (posOk q pos=D) (u (F tree>65536) 2 0) 250) 191)/\PP n q pos tree=Z (u (CN q=D) (u (posOk q pos=D) (u (F tree>65536) 2 0) 250) 191):=λn a=>by
  unfold Lv iV PP iW;rw[ZH e Z2,zAC,kW e Z2 z Z2,aI e Z2,zAC,jY e Z2 z Z2];unfold JA;cases CN q with
  |false=>exact⟨rfl,rfl⟩
  |true=>
   cases posOk q pos with
   |false=>exact⟨rfl,rfl⟩
   |true=>
    by_cases h:F tree>65536
    ·have:C ((F tree:U)>65536)=D:=zAB Z2;simp only[this,h,zMt];exact⟨rfl,rfl⟩
    ·have:C ((F tree:U)>65536)=T:=zAE Z2;simp only[this,h,zMt,zRK];exact⟨rfl,rfl⟩
 have s:∀c:U,c≠0->(∀n,CX q+F pos+1<=n->Lv n q pos tree=Z c/\PP n q pos tree=Z c)->∃l o c,Fo q pos tree l o c:=λc hc h=>by
  refine⟨[],[],c,⟨CX q+F pos+1,λn a=>?_⟩,Z3,λ_=>⟨rfl,CX q+F pos+1,λn a=>?_⟩,λh=>τ h hc,λy hy=>by cases hy⟩
  ·show Hk n q pos tree=_
   unfold Hk;rw[(h n a).1,zAC,zM8.2 hc,zAG]
  ·show HK n q pos tree=_
   unfold HK ZE;rw[(h n a).2,zAC,zM8.2 hc,zAG]
 by_cases f:CN q=D
 rotate_left
 ·exact s 191 Z6 λn a=>by have:=k n a;rwa[zJz f]at this
 by_cases w:posOk q pos=D
 rotate_left
 ·exact s 250 Z6 λn a=>by have:=k n a;rwa[zAF f,zJz w]at this
 by_cases G:F tree>65536
 ·exact s 2 Z6 λn a=>by have:=k n a;rwa[zAF f,zAF w,zAF G]at this
 have I:∀n,CX q+F pos+1<=n->Lv n q pos tree=Z 0/\PP n q pos tree=Z 0:=λn a=>by have:=k n a;rwa[zAF f,zAF w,zJz G]at this
 obtain⟨⟨l,g,o⟩,⟨N,i⟩,⟨m,J,P⟩,Q⟩:=zIl (pos0:=pos) e f (show F tree<=65536 by omega) (F tree) 0 0 pos (d (F tree) 0) Z2 w zK7 Z2 Z2;have i:∀n,N<=n->Bu n pos 0 0 (d (F tree) 0) q tree (F tree) pos=Z (l,g,o):=i;have m:F o=F tree:=m;have J:F l+0<=F tree:=J;have ϙ:(1000000000000:E)=Aw:=rfl
 have start:∀(j:M Unit),(∀n,N<=n->OO n (d (F tree) 0) q tree (F tree) pos=Z (l,j,o))->∀n,N+CX q+F pos+1<=n->Hk n q pos tree=Z (u j.isSome l [],u j.isSome o [],u j.isSome 0 280):=λj h n a=>by
  unfold Hk;rw[(I n Z2).1,zAC]
  show u _ _ A=_
  rw[zAF ⟨rfl,Z2,Z2⟩,h n Z2,zAC,zAF ⟨m.symm,by rw[←ϙ];show F l<=_;omega⟩]
 have b:∀n,CX q+F pos+1<=n->HK n q pos tree=(CE n q pos tree 0).bind λr=>B (!r.2) (Z ((0,[],[],0),280))<|B (r.1.1 != (F tree:U)) (Z ((0,[],[],0),280))<|Z ((r.1.1,r.1.2.1,r.1.2.2.1,r.1.2.2.2),0):=λn a=>by
  unfold HK ZE;rw[(I n a).2];rfl
 have fail:(∀n,N<=n->OO n (d (F tree) 0) q tree (F tree) pos=Z (l,A,o))->(∃ϕ,∀n,ϕ<=n->HK n q pos tree=Z ((0,[],[],0),280))->∃l o c,Fo q pos tree l o c:=λh R=>⟨[],[],280,⟨_,λn a=>start A h n a⟩,Z3,λ_=>⟨rfl,R⟩,λh=>τ h Z6,λy hy=>by cases hy⟩
 cases g with
 |none=>
  obtain⟨x,ϕ,t⟩:=Q rfl;have t:∀n,ϕ<=n->CE n q pos tree 0=Z (x,T):=t;refine fail (λn a=>?_) ⟨ϕ+CX q+F pos+1,λn a=>by rw[b n Z2,t n Z2];rfl⟩;unfold OO Tb;rw[i n a];rfl
 |some x=>
  obtain⟨v,rfl,v1,v2,v3,K,ϒ⟩:=P x rfl;obtain⟨ϕ,t⟩:=ϒ.walk;have t:∀n,ϕ<=n->CE n q pos tree 0=Z (((v:U),l.map (·.1),CZ l,(K:U)),D):=t
  by_cases p:v=F tree
  ·subst p;refine⟨l,o,0,⟨_,λn a=>start (Z ()) (λn a=>?_) n a⟩,Z2,λh=>τ rfl h,λ_=>⟨Z2,m,⟨ϕ+CX q+F pos+1,λn a=>?_⟩,λS w0 w1=>?_⟩,ϒ.rows⟩
   ·unfold OO Tb;rw[i n a]
    show(B ((F tree:U)==(F tree:U)) _ (_:M<|YR Av Unit Ξ)).map _=_
    rw[zMn,zAG];simp
   ·show HK n q pos tree=_
    rw[b n Z2,t n Z2,zAC]
    show B ((F tree:U) != (F tree:U)) _ _=_
    rw[zNG,zAD,ϒ.mx 0,show max (0:U) (((0:E):U)+(K:U))=(K:U) by omega]
   ·have:=ϒ.beh S;rw[zAF Z2]at this;exact this
  ·refine fail (λn a=>?_) ⟨ϕ+CX q+F pos+1,λn a=>?_⟩
   ·unfold OO Tb;rw[i n a]
    show(B ((v:U)==(F tree:U)) _ (_:M<|YR Av Unit Ξ)).map _=_
    rw[zBE.2 Z2,zAD];simp
   ·rw[b n Z2,t n Z2,zAC]
    show B ((v:U) != (F tree:U)) _ _=_
    rw[zM8.2 Z2,zAG]
variable{l:O Av}
def zP5 :gK l g=B ((F g:U)==0) ((F<|CZ l:U)==0) (B ((F<|CZ l:U)==1) (decide (H (CZ l) 0 []=g)) T):=by
 have R:l.all (λx=>x.2.1.isEmpty||C (x.2.1=g))=(CZ l).all λy=>decide (y=g):=by
  unfold CZ;rw[List.all_filter,List.all_map]
  congr 1
  funext x
  simp
 have X:l.countP (λx=>!x.2.1.isEmpty)=F (CZ l):=by
  unfold CZ;rw[←zMk,List.countP_map];rfl
 unfold gK;rw[R,X]
 generalize CZ l=G
 cases g with
 |nil=>
  cases G with
  |nil=>rfl
  |cons y G=>simp;omega
 |cons z g=>
  have:((F<|z::g:U)==0)=T:=zBE.2 (by rw[zLA];omega);rw[this,zAD]
  match G with
  |[]=>
   show(D&&C (0=min (F<|z::g) 1))=T
   rw[zAE<|by rw[zLA];omega];rfl
  |[y]=>simp
  |y::r::G=>
   have:((F<|y::r::G:U)==1)=T:=zBE.2 (by rw[zLA,zLA];omega);rw[this];simp
variable{c:U}{o:Ξ}
def zw(h:Fo q pos tree l o c):Ev (λn=>M3 n q pos tree g)<|u (c=280) (T,0)<|u (c≠0) (T,c) (gK l g,0):=by
 by_cases h0:c=0
 ·obtain⟨hT,_,f,_⟩:=h.good h0;subst h0;rw[zJz Z6,zJz Z3,zP5];refine Ev.eq (Ev.bind f (b:=λn e=>B (e.2==280) (Z (T,0))<|B (e.2 != 0) (Z (T,e.2))<|B ((F g:U)==0) (Z ((F e.1.2.2.1:U)==0,0))<|B ((F e.1.2.2.1:U)==1) (u ((0:U)<=0/\0<(F e.1.2.2.1:U)) ((Kj n (H e.1.2.2.1 0 []) g).bind λr=>Z (r,0)) A)<|Z (T,0)) ?_) λn=>rfl
  refine Ev.from 300 λn hn=>?_
  show(B ((F g:U)==0) (Z ((F<|CZ l:U)==0,(0:U)))<|B ((F<|CZ l:U)==1) (u ((0:U)<=0/\0<(F<|CZ l:U)) ((Kj n (H (CZ l) 0 []) g).bind λr=>Z (r,0)) A)<|Z (T,0))=_
  cases(F g:U)==0 with
  |true=>rfl
  |false=>
   rw[zAD,zAD];cases a:(F<|CZ l:U)==1 with
   |false=>rfl
   |true=>
    have a:=zKq.1 a
    have i:F (H (CZ l) 0 [])<=256:=by
     obtain⟨y,hy⟩:=List.length_eq_one_iff.1 (show F (CZ l)=1 by omega);rw[hy];have:y∈CZ l:=by rw[hy];simp
     unfold CZ at this;obtain⟨x,i,rfl⟩:=zMf.1 (zM0.1 this).1;exact(h.rows x i).2
    rw[zAG,zAG,zAF ⟨zKw _,Z2⟩,wf (zIX i Z6) Z2];rfl
 ·obtain⟨_,f⟩:=h.bad h0;refine Ev.eq (Ev.bind f (b:=λn e=>B (e.2==280) (Z (T,0))<|B (e.2 != 0) (Z (T,e.2))<|B ((F g:U)==0) (Z ((F e.1.2.2.1:U)==0,0))<|B ((F e.1.2.2.1:U)==1) (u ((0:U)<=0/\0<(F e.1.2.2.1:U)) ((Kj n (H e.1.2.2.1 0 []) g).bind λr=>Z (r,0)) A)<|Z (T,0))<|Ev.now λn=>?_) λn=>rfl
  show(B (c==280) (Z (T,(0:U)))<|B (c != 0) (Z (T,c)) _)=_
  by_cases a:c=280
  ·rw[zAF a,zKq.2 a,zAG]
  ·rw[zJz a,zAF h0,zBE.2 a,zAD,zM8.2 h0,zAG]
def zJx(q:AA)(pos:Ξ)(tree:O<|Δ)(g:Ξ)(j:DK q)(k:F pos<=LB)(_:F g<=LB):Ev (λn=>lU n q pos tree g) D:=by
 refine wO (f:=λm=>B (C<|(F g:U)>20) (Z D)<|(Ir m q pos tree g).bind λy3=>(M3 m q pos tree g).bind λQ=>(Ir m q pos tree []).bind λJ=>(M3 m q pos tree []).bind λI=>B (y3.1==Q.1) (B (y3.2==Q.2) (B (J.1==I.1) (Z<|J.2==I.2)<|Z T)<|Z T)<|Z T) (λm=>rfl) λ_ _=>?_
 by_cases R:(F g:U)>20
 ·exact Ev.now λn=>by rw[zAB R,zAG]
 obtain⟨l,o,c,h⟩:=yi (tree:=tree) j k;have ϑ:=λ(g:Ξ)=>zP7 (g:=g) h.prog h.len λx p=>(h.rows x p).2
 obtain⟨Y,a⟩:=ϑ g;obtain⟨r,b⟩:=zw (g:=g) h;obtain⟨i,e⟩:=ϑ [];obtain⟨V,W⟩:=zw (g:=[]) h;have a:∀n,Y<=n->Ir n q pos tree g=_:=a;have b:∀n,r<=n->M3 n q pos tree g=_:=b;have e:∀n,i<=n->Ir n q pos tree []=_:=e;have W:∀n,V<=n->M3 n q pos tree []=_:=W;refine⟨Y+r+i+V,λn hn=>?_⟩
 show B (C<|(F g:U)>20) _ _=_
 rw[zAE R,zAD,a n Z2,zAC,b n Z2,zAC,e n Z2,zAC,W n Z2,zAC];simp only[zMn,zAG]
def zDE{n:E}(hl:F g<=256)(a:F g<n):aD n g g=Z D:=by
 have key:∀(k j n:E),j+k=F g->k<n->Sb g g n (.l1 (j:U))=Z D:=by
  intro k
  induction k with
  |zero=>
   intro j n e a;obtain⟨n,rfl⟩:∃k,n=k+1:=⟨n-1,Z2⟩
   show VW n (Sb g g n) g g (j:U)=_
   unfold VW;rw[zAE Z2,zAD]
  |succ k b=>
   intro j n e a;obtain⟨n,rfl⟩:∃k,n=k+1:=⟨n-1,Z2⟩
   show VW n (Sb g g n) g g (j:U)=_
   unfold VW;rw[zAB Z2,zAG,zAF ⟨Z2,Z2⟩,zNG,zAD,zAF<|AZ.2 ⟨Z2,Z2⟩];exact b (j+1) n Z2 Z2
 unfold aD sF;rw[zNG,zAD];exact key (F g) 0 n Z2 a
def zJa{a:O Ξ}(hl:F a<=65536)(b:∀x∈a,F x<=256):Ev (λn=>Pm n a a) D:=by
 have key:∀(k j:E),j+k=F a->Ev (λn=>SZ a a n<|.l1 (j:U)) D:=by
  intro k
  induction k with
  |zero=>
   intro j e;refine Ev.one λn=>?_
   show VU n (SZ a a n) a a (j:U)=_
   unfold VU;rw[zAE Z2,zAD]
  |succ k c=>
   intro j e;have l:j<F a:=Z2
   have i:F (H a j [])<=256:=by
    rw[zBD,zKA l];exact b _<|zRd l
   refine AR.ev (AR.oneN 300 λn hn=>?_)<|c (j+1) Z2
   show VU n (SZ a a n) a a (j:U)=_
   unfold VU;rw[zAB Z2,zAG,zAF ⟨Z2,Z2⟩,u8,zDE i Z2,zAC,zLW,zAD,zAF<|AZ.2 ⟨Z2,Z2⟩];rfl
 refine Ev.eq (key (F a) 0 Z2) λn=>?_
 unfold Pm sB;rw[zNG,zAD];rfl
def zIo(h:Fo q pos tree l o c)(i:U):∃x,Ev (λn=>OH n q pos tree i) x/\Ev (λn=>TU n q pos tree i) x:=by
 by_cases h0:c=0
 ·obtain⟨hT,ho,f,g⟩:=h.good h0;subst h0
  by_cases hi:0<=i/\i<F tree
  ·obtain⟨k,rfl⟩:∃k:E,i=(k:U):=⟨i.toNat,Z2⟩;refine⟨(H o k 0,0),zIp h.prog rfl (show k<F o by omega),?_⟩;refine Ev.eq (Ev.bind f (b:=λn e=>B (e.2 != 0) (Z (0,e.2))<|B (C<|(k:U)<0) (Z (0,1))<|B (C<|(k:U)>=(F tree:U)) (Z (0,1))<|(Cr n q pos tree 0 k).bind λr=>Z (r.2,0)) ?_) λn=>rfl
   refine Ev.eq (Ev.bind (g k Z2 Z2) (b:=λ_ r=>Z (r.2,(0:U)))<|Ev.now λn=>rfl) λn=>?_
   show(B (C<|(k:U)<0) _<|B (C<|(k:U)>=(F tree:U)) _ _)=_
   rw[zAE Z2,zAD,zAE Z2,zAD]
  ·refine⟨(0,1),Ev.eq (Ev.bind h.prog (b:=λn e=>B (e.2.2 != 0) (Z (0,e.2.2))<|B (C<|i<0) (Z (0,1))<|B (C<|i>=(F e.2.1:U)) (Z (0,1))<|u (0<=i/\i<(F e.2.1:U)) (Z (H e.2.1 i.toNat 0,0)) A)<|Ev.now λn=>?_) λn=>rfl,Ev.eq (Ev.bind f (b:=λn e=>B (e.2 != 0) (Z (0,e.2))<|B (C<|i<0) (Z (0,1))<|B (C<|i>=(F tree:U)) (Z (0,1))<|(Cr n q pos tree 0 i).bind λr=>Z (r.2,0))<|Ev.now λn=>?_) λn=>rfl⟩
   ·show(B (C<|i<0) _<|B (C<|i>=(F o:U)) _ _)=_
    by_cases a:i<0
    ·rw[zAB a,zAG]
    ·rw[zAE a,zAD,zAB Z2,zAG]
   ·show(B (C<|i<0) _<|B (C<|i>=(F tree:U)) _ _)=_
    by_cases a:i<0
    ·rw[zAB a,zAG]
    ·rw[zAE a,zAD,zAB Z2,zAG]
 ·obtain⟨_,f⟩:=h.bad h0;refine⟨(0,c),Ev.eq (Ev.bind h.prog (b:=λn e=>B (e.2.2 != 0) (Z (0,e.2.2))<|B (C<|i<0) (Z (0,1))<|B (C<|i>=(F e.2.1:U)) (Z (0,1))<|u (0<=i/\i<(F e.2.1:U)) (Z (H e.2.1 i.toNat 0,0)) A)<|Ev.now λn=>?_) λn=>rfl,Ev.eq (Ev.bind f (b:=λn e=>B (e.2 != 0) (Z (0,e.2))<|B (C<|i<0) (Z (0,1))<|B (C<|i>=(F tree:U)) (Z (0,1))<|(Cr n q pos tree 0 i).bind λr=>Z (r.2,0))<|Ev.now λn=>?_) λn=>rfl⟩
  ·show B (c != 0) _ _=_
   rw[zM8.2 h0,zAG]
  ·show B (c != 0) _ _=_
   rw[zM8.2 h0,zAG]
def zJv(q:AA)(pos:Ξ)(tree:O<|Δ)(i:U)(hF:DK q)(hl:F pos<=LB):Ev (λn=>lT n q pos tree i) D:=by
 refine wO (f:=λm=>(MV m q pos tree).bind λy3=>(Tc m q pos tree).bind λQ=>(OH m q pos tree i).bind λJ=>(TU m q pos tree i).bind λI=>(UQ m q pos tree).bind λw=>(UR m q pos tree).bind λG=>(Pm m y3.1 Q.1).bind λy9=>B y9 (B (y3.2==Q.2) (B (J.1==I.1) (B (J.2==I.2) (B (w.1==G.1) (Z<|w.2==G.2)<|Z T)<|Z T)<|Z T)<|Z T)<|Z T) (λm=>rfl) λ_ _=>?_
 obtain⟨l,o,c,h⟩:=yi (tree:=tree) hF hl;obtain⟨x,n1,n2⟩:=zIo h i
 obtain⟨W,e,w1,w2⟩:∃W:U×O Ξ×O Ξ×U,Ev (λn=>HK n q pos tree) (W,c)/\W.2.1=l.map (·.1)/\W.2.2.2=cg l:=by
  by_cases h0:c=0
  ·obtain⟨_,_,e,_⟩:=h.good h0;subst h0;exact⟨_,e,rfl,rfl⟩
  ·obtain⟨rfl,e⟩:=h.bad h0;exact⟨_,e,rfl,rfl⟩
 have j:Ev (λn=>Tc n q pos tree) (l.map (·.1),c):=Ev.eq (Ev.bind e (b:=λ_ g=>Z (g.1.2.1,g.2))<|Ev.now λn=>by rw[w1]) λn=>rfl
 have z:Ev (λn=>UR n q pos tree) (cg l,c):=Ev.eq (Ev.bind e (b:=λ_ g=>Z (g.1.2.2.2,g.2))<|Ev.now λn=>by rw[w2]) λn=>rfl
 have S:=zJa (a:=l.map (·.1)) (by rw[zKB];exact h.len) λy hy=>by
  obtain⟨x,hx,rfl⟩:=zMf.1 hy;exact(h.rows x hx).1
 obtain⟨Y,k⟩:=zJp h.prog h.len;obtain⟨N,p⟩:=j;obtain⟨P,r⟩:=n1;obtain⟨V,s⟩:=n2;obtain⟨R,K⟩:=zPD h.prog h.len;obtain⟨X,t⟩:=z;obtain⟨N7,v⟩:=S;have k:∀n,Y<=n->MV n q pos tree=Z (l.map (·.1),c):=k;have p:∀n,N<=n->Tc n q pos tree=_:=p;have r:∀n,P<=n->OH n q pos tree i=_:=r;have s:∀n,V<=n->TU n q pos tree i=_:=s;have K:∀n,R<=n->UQ n q pos tree=Z (cg l,c):=K;have t:∀n,X<=n->UR n q pos tree=_:=t;have v:∀n,N7<=n->Pm n (l.map (·.1)) (l.map (·.1))=Z D:=v;refine⟨Y+N+P+V+R+X+N7,λn hn=>?_⟩
 show(MV n q pos tree).bind _=_
 rw[k n Z2,zAC,p n Z2,zAC,r n Z2,zAC,s n Z2,zAC,K n Z2,zAC,t n Z2,zAC,v n Z2,zAC];simp only[zMn,zAG]
end
section
open Go.ChangeShapes Go.WideShapes Go.ChangeAt
def zGP:Rd L 49 2 BA:=by
 refine Rd.struct Tryz.underlying49 Z5 (EI.cons rfl Js<|EI.cons rfl Js<|EI.nil rfl) (λx:U×U×Unit=>(x.1,x.2.1)) ?_ λ_=>rfl;intro x;rfl
def zGO:Rd L 27 1 (λϙ:O Δ=>[.sl 2 (F ϙ)<|AM BA ϙ]):=Rd.rows Tryz.underlying27 Z5 (zKs Z5) Z6 zGP
def sT:Hr L 27 (λϙ:O Δ=>.sl 2 (F ϙ)<|AM BA ϙ):=Hr.one Tryz.underlying27 zGO
end
end Go.Proofs.YtnkpdcmbppkkpaaGreatDoor
