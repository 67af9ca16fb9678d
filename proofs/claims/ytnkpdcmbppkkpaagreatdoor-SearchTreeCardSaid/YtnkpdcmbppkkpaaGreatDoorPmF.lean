/- Part 6 of 8 of what the proofs of these laws stand on. -/
import Derived.Test.YtnkpdcmbppkkpaaGreatDoorPmE
set_option linter.all false
open And renaming intro->γ
open Bool renaming false->D,true->T
open Decidable renaming decide->H
open Eq renaming refl->φ
open Go renaming World->κ,Value->μ,Program->ν
open Go.Fence renaming wide->η
open Go.Proofs.Tryz renaming prog->B
open Inhabited renaming default->ξ
open List renaming length->F,getD->M,replicate->d,range->θ
open Nat.le renaming refl->χ
open Option renaming none->V,some->Z
open _root_ renaming Option->A,ite->C,Int->E,cond->L,List->O,Nat->U,Bool->ζ,absurd->τ,Array->υ
namespace Go.Proofs.YtnkpdcmbppkkpaaGreatDoor
open Go.RowKit
abbrev zTr:=@List.countP_append
abbrev zT8:=@List.countP_le_length
abbrev zT9:=@List.countP_singleton
section
open Classical
section
variable{q:AA}{c:AE}{AD:Ξ}{g:O Ξ}{inn met:Ω}{s:E}{l:Ξ}
def v8(G:Gr g)(Y:F inn=F g){i:U}(hi:i<F l)(h0:0<=M l i 0)(b:M l i 0<(F g:E)):∀(k j:U),j+k=F (nb g<|M l i 0)->AX (IF g inn) (.l2 l met (i:E) ((((nb g<|M l i 0).take j).countP λx=>M inn x.toNat D:U):E) (j:E)) (.l2 l met (i:E) ((Cj g inn<|M l i 0:U):E) (F<|nb g<|M l i 0:E))
 |0,j,e=>by
  have e:j=F (nb g<|M l i 0):=Z2
  subst e;rw[zTZ];exact AX.refl
 |k+1,j,e=>by
  have a:j<F (nb g<|M l i 0):=Z2
  have o:=G.rng _ h0 b _<|SU a;have hw:=G.row _ h0 b;have hc:((nb g<|M l i 0).take j).countP (λx=>M inn x.toNat D)<=j:=zAO zT8 Z7;have y:M g (M l i 0).toNat []=nb g (M l i 0):=rfl
  have S:∀w:Ξ,j<F w->w.take (j+1)=w.take j++[M w j 0]:=λw a=>by
   rw[zAL,zBx a];exact(List.take_append_getElem a).symm
  refine(AX.one λn=>?_).trans<|v8 G Y hi h0 b k (j+1) Z2
  show XN n (IF g inn n) g inn l met (i:E) _ (j:E)=_
  unfold XN;simp only[u8,y];rw[zAB ⟨⟨Z2,Z2⟩,h0,b⟩,zAA Z2,zAI,zAB ⟨⟨Z2,Z2⟩,o.1,Z2⟩,S _ a,zTr,zT9,show((j+1:U):E)=(j:E)+1 by omega];cases M inn (M (nb g<|M l i 0) j 0).toNat D with
  |false=>rw[zAJ,zAB<|Ae.2 ⟨Z2,Z2⟩];simp
  |true=>rw[zAI,zAB ⟨Ae.2 ⟨Z2,Z2⟩,Ae.2 ⟨Z2,Z2⟩⟩];simp
def wB(G:Gr g)(Y:F inn=F g)(z:F met=F g)(m:∀v∈l,0<=v/\v<(F g:E))(x:F l<=256):∀(k i:U),i+k=F l->∃r,Ev (λn=>IF g inn n<|.l1 l met (i:E)) (r,0)/\(r=T↔∀a,i<=a->a<F l->Cj g inn (M l a 0)=2/\M met (M l a 0).toNat D=T)
 |0,i,e=>by
  refine⟨T,Ev.one λn=>?_,zPB rfl λa b c=>τ c Z2⟩
  show XO n (IF g inn n) g inn l met (i:E)=_
  unfold XO;rw[zAF Z2,zAJ]
 |k+1,i,e=>by
  have hi:i<F l:=Z2
  obtain⟨h0,b⟩:=m _<|SU hi;have hw:=G.row _ h0 b;have y:M g (M l i 0).toNat []=nb g (M l i 0):=rfl
  have ϕ:AX (IF g inn) (.l1 l met (i:E))<|.l2 l met (i:E) ((Cj g inn<|M l i 0:U):E) (F<|nb g<|M l i 0:E):=by
   refine(AX.one λn=>?_).trans<|v8 G Y hi h0 b _ 0<|zCx _
   show XO n (IF g inn n) g inn l met (i:E)=_
   unfold XO;rw[zAA Z2,zAI];rfl
  have step:∀n,IF g inn (n+1) (.l2 l met (i:E) ((Cj g inn<|M l i 0:U):E) (F<|nb g<|M l i 0:E))=C (Cj g inn (M l i 0)=2/\M met (M l i 0).toNat D=T) (IF g inn n<|.l1 l met ((i+1:U):E)) (Z (D,0)):=λn=>by
   show XN n (IF g inn n) g inn l met (i:E) _ _=_
   unfold XN;simp only[u8,y];rw[zAB ⟨⟨Z2,Z2⟩,h0,b⟩,zAF Z2,zAJ,zAB ⟨h0,Z2⟩,zAB<|Ae.2 ⟨Z2,Z2⟩,show((i+1:U):E)=(i:E)+1 by omega]
   by_cases j:Cj g inn (M l i 0)=2
   ·rw[j,show(((2:U):E) != 2)=D from rfl,zAJ];cases M met (M l i 0).toNat D with
    |true=>simp
    |false=>simp
   ·rw[show(((Cj g inn<|M l i 0:U):E) != 2)=T from zOF.2 Z2,zAI,zAt λh=>j h.1]
  by_cases f:Cj g inn (M l i 0)=2/\M met (M l i 0).toNat D=T
  ·obtain⟨r,t,o⟩:=wB G Y z m x k (i+1) Z2;refine⟨r,AX.ev (ϕ.trans<|AX.one λn=>by rw[step n,zAB f]) t,o.trans ⟨λh a b c=>?_,λh a b c=>h a Z2 c⟩⟩
   by_cases p:a=i
   ·rw[p];exact f
   ·exact h a Z2 c
  ·refine⟨D,AX.ev ϕ (Ev.one λn=>by rw[step n,zAt f]),zM2 Z6 λh=>f<|h i (zAf _) hi⟩
def zKl:F (Ch inn<|F inn)=(θ<|F inn).countP λx=>M inn x D:=by
 unfold Ch;rw[zAS,zMP]
def zID(G:Hr g)(Y:F inn=F g):∃r,Ev (λn=>cx n g inn) (r,0)/\(r=T↔(∀v,v<F g->M inn v D=T->Cj g inn v=2)/\(∃v,v<F g/\M inn v D=T)/\Hs g inn):=by
 have Aj:=G.gr.len;obtain⟨ϗ,l⟩:=wT (inn:=inn) Z2;have l:∀n,ϗ<=n->PI n inn=Z (Ch inn<|F inn):=l
 have t:∀v∈Ch inn (F inn),0<=v/\v<(F g:E):=λv o=>by
  have:=eU.1 o;omega
 have zq:=yS (inn:=inn) (k:=F inn)
 have start:∀{f:U->X8} {r:ζ×E},Ev f r->(∀n,ϗ<=n->(L (H<|(F<|Ch inn<|F inn:E)<3) (Z (D,0))<|C ((0:E)<=0/\0<(F<|Ch inn<|F inn:E)) ((ME n g inn<|M (Ch inn<|F inn) 0 0).bind λy3=>IF g inn n<|.l1 (Ch inn<|F inn) y3 0) V)=f n)->Ev (λn=>cx n g inn) r:=λ{f r} j W=>by
  obtain⟨N,j⟩:=j;refine Ev.bind (wM G) ⟨max ϗ N,λn hn=>?_⟩
  show(L ((0:E) != 0) _<|L ((F inn:E) != (F g:E)) (Z (D,1))<|(PI n inn).bind λy2=>_)=_
  rw[Y,show((F g:E) != (F g:E))=D by simp,zAJ,l n Z2,zAD];exact(W n Z2).trans (j n Z2)
 by_cases w:(F<|Ch inn<|F inn:E)<3
 ·refine⟨D,start (f:=λ_=>Z (D,0)) (Ev.now λn=>rfl) λn _=>by rw[zAA w,zAI],zM2 Z6 λ⟨p,⟨v,y,c⟩,_⟩=>?_⟩;have:=sj G y c<|p v y c;rw[←Y,←zKl]at this;omega
 ·have I:0<F (Ch inn<|F inn):=Z2
  obtain⟨Q,J⟩:=t _<|SU I;have q:=(eU.1<|SU I).2.2;obtain⟨m,z,X⟩:=wK G.gr Y Q J;obtain⟨r,r1,r2⟩:=wB (met:=m) G.gr Y z.1 t Z2 (F<|Ch inn<|F inn) 0 Z2;refine⟨r,start (f:=λn=>(ME n g inn<|M (Ch inn<|F inn) 0 0).bind λy3=>IF g inn n<|.l1 (Ch inn<|F inn) y3 0) (Ev.bind X r1) λn _=>by rw[zAF w,zAJ,zAB ⟨zCs _,Z2⟩],r2.trans ?_⟩
  have S:∀v,v<F g->M inn v D=T->∃a,a<F (Ch inn<|F inn)/\M (Ch inn<|F inn) a 0=(v:E):=λv o i=>by
   obtain⟨a,P,e⟩:=zJw (eU.2 ⟨Z2,Z2,by rw[u8];exact i⟩:(v:E)∈Ch inn (F inn));exact⟨a,P,by rw[zAL,zBx P];exact e⟩
  constructor
  ·intro h;refine⟨λv o i=>?_,⟨(M (Ch inn<|F inn) 0 0).toNat,Z2,q⟩,λu v K o mu i=>?_⟩
   ·obtain⟨a,x,s⟩:=S v o i;have:=(h a (zMK _) x).1
    rwa[s]at this
   ·obtain⟨a,x,s⟩:=S u K mu;obtain⟨b,c1,c2⟩:=S v o i;have P:=(h a (zMK _) x).2;have R:=(h b (zMK _) c1).2;rw[s,u8]at P;rw[c2,u8]at R;exact((z.2 u K).1 P|>.symm G.gr Q J q).trans<|(z.2 v o).1 R
  ·rintro⟨p,_,h2⟩ a _ P;obtain⟨v0,y,c⟩:=eU.1<|SU P;have e:M (Ch inn<|F inn) a 0=((M (Ch inn<|F inn) a 0).toNat:E):=Z2
   refine⟨by rw[e];exact p _ Z2 c,(z.2 _ Z2).2 ?_⟩;have:=h2 _ (M (Ch inn<|F inn) a 0).toNat (show(M (Ch inn<|F inn) 0 0).toNat<F g by omega) Z2 q c
   rwa[show(((M (Ch inn<|F inn) 0 0).toNat:U):E)=M (Ch inn<|F inn) 0 0 by omega]at this
end
end
section
variable{q:AA}{pos:Ξ}
def zHa{n:U}(g:DT q)(s:D0 q<=n)(hl:F pos<=LB)(Hh:F pos<n):XC n q pos=Z (EI q pos):=by
 have hb:LB<=9223372036854775806:=Z6
 unfold XC vd EI;rw[vL g s,zAD];cases o:CR q with
 |false=>rfl
 |true=>
  obtain⟨_,l,_⟩:=Dy o;obtain⟨h,p2,j⟩:=dR l.1 l.2
  have m:IntKind.u64.wrap q.sy=q.sy:=by
   show q.sy%18446744073709551616=q.sy
   omega
  show(L ((F pos:E) != q.ce) (Z 250)<|Q7 q pos n<|.l1 0)=Z (C (posOk q pos=T) 0 250)
  unfold posOk
  by_cases a:(F pos:E)=q.ce
  ·have b:((F pos:E) != q.ce)=D:=by simpa using a
   have c:((F pos:E)==q.ce)=T:=by simpa using a
   rw[b,zAJ,c,zOA]
   have key:∀(k i n:U),i+k=F pos->k+1<=n->Q7 q pos n (.l1 (i:E))=Z (C (((pos.drop i).all λx=>decide (0<=x)&&H (x<2^q.sy.toNat))=T) 0 250):=by
    intro k
    induction k with
    |zero=>
     intro i n e s;obtain⟨n,rfl⟩:∃k,n=k+1:=⟨n-1,Z2⟩
     show XB n (Q7 q pos n) q pos (i:E)=_
     unfold XB;rw[zAF Z2,zAJ,zOO Z2];rfl
    |succ k t=>
     intro i n e s;obtain⟨n,rfl⟩:∃k,n=k+1:=⟨n-1,Z2⟩;have hi:i<F pos:=Z2
     have K:pos.drop i=M pos i 0::pos.drop (i+1):=by
      rw[zBz hi,zAL,zBx hi];rfl
     have:=t (i+1) n Z2 Z2
     show XB n (Q7 q pos n) q pos (i:E)=_
     unfold XB;rw[zAA Z2,zAI,zAB ⟨Z2,Z2⟩,m,zAB j,zAB<|Ae.2 ⟨Z2,Z2⟩,u8,K,zPD,h]
     by_cases r:M pos i 0<0
     ·rw[zAA r,zAI,zAF (p:=0<=M pos i 0) Z2];rfl
     ·rw[zAF r,zAJ,zAA (p:=0<=M pos i 0) Z2,zOA]
      by_cases f:M pos i 0>=2^q.sy.toNat
      ·rw[zAA f,zAI,zAF (p:=M pos i 0<2^q.sy.toNat) Z2];rfl
      ·rw[zAF f,zAJ,zAA (p:=M pos i 0<2^q.sy.toNat) Z2,zOA];exact this
   exact key (F pos) 0 n Z2 Z2
  ·have b:((F pos:E) != q.ce)=T:=by simpa using a
   have c:((F pos:E)==q.ce)=D:=by simpa using a
   rw[b,zAI,c,zUN];rfl
end
abbrev zT2:=@List.getElem?_set_self
section
variable{q:AA}{c:AE}{g:Ξ}{i:E}{inn:Ω}
def zRQ(G:Hr q.nb)(Y:F inn=F q.nb):∃b,Ev (λn=>aD n q.nb inn) b/\(b=T↔Hs q.nb inn):=by
 obtain⟨r,a,c,k⟩:=zBc G Y;refine⟨H<|(F r.1:E)<=1,Ev.bind a (Ev.now λn=>by rw[c];rfl),?_⟩;rw[zB0,k,←zKO G.gr];omega
def zKw(G:Hr q.nb)(Y:F inn=F q.nb):∃b,Ev (λn=>YG n q.nb inn) b/\(b=T↔Hs q.nb inn/\∀v,v<F q.nb->M inn v D=T->Cj q.nb inn v=2):=by
 obtain⟨r,a,c,k⟩:=zBc G Y;obtain⟨b,t,g⟩:=zID G Y;have f:=zKN (inn:=inn) G.gr;rw[←k]at f;refine⟨C (F r.1=0) T b,Ev.bind a<|Ev.bind t<|Ev.now λn=>?_,?_⟩
 ·rw[c]
  show(L ((F r.1:E)==0) (Z T)<|Z b)=_
  by_cases h0:F r.1=0
  ·rw[zAB h0,h0];rfl
  ·rw[zAt h0,zMS.2 Z2,zAJ]
 ·by_cases h0:F r.1=0
  ·rw[zAB h0];have h:=f.1 h0;exact zPB rfl ⟨λu v i _ e _=>(by rw[h u i]at e;cases e),λv o m=>by rw[h v o]at m;cases m⟩
  ·rw[zAt h0,g];constructor
   ·rintro⟨a,_,c⟩;exact⟨c,a⟩
   ·rintro⟨a,c⟩;refine⟨c,Classical.byContradiction λs=>h0<|f.2 λv o=>?_,a⟩;cases j:M inn v D with
    |false=>rfl
    |true=>exact τ ⟨v,o,j⟩ s
def yK(S:Sv q c g)(W:FN c q<|Ax g):Ev (λn=>RU n g c.ce c.set)<|CT c g:=by
 have Ϝ:(1000000000000:U)=Av:=rfl;have m:=W.len;have f:=W.l1;rw[Fh]at m f
 have key:∀(k j:U) (o:Ω),j+k=F g->F o=F g->(∀v,v<j->M o v D=M (CT c g) v D)->Ev (λn=>Ub g c.ce c.set n<|.l1 (j:E) o) (CT c g):=by
  intro k
  induction k with
  |zero=>
   intro j o e x z
   have:o=CT c g:=by
    refine zOC (by rw[x,Nl]) λv i l=>?_
    have:=z v Z2;simpa[zAL,i,l]using this
   subst this;refine Ev.one λn=>?_
   show Xy n (Ub g c.ce c.set n) g c.ce c.set (j:E) (CT c g)=_
   unfold Xy;rw[zAF Z2,zAJ,zAB x.symm]
  |succ k p=>
   intro j o e x z;have a:j<F g:=Z2
   have hid:=W.id j (by rw[Fh];exact a);have Ya:=S.G.lt S.v a;have LG:=S.G.sym j a;have Q:M g j 0=(((M g j 0).toNat:U):E):=Z2
   refine AX.ev (AX.one λn=>?_)<|p (j+1) (o.set j<|tb c.set (M g j 0).toNat) Z2 (by rw[zIG];exact x) λv b=>?_
   ·show Xy n (Ub g c.ce c.set n) g c.ce c.set (j:E) o=_
    unfold Xy;rw[zAA Z2,zAI,u8,hid,zAB ⟨⟨Z2,Z2⟩,Z2,Z2⟩,u8,Q,PJ Z2,zAD,zAB ⟨Z2,Ae.2 ⟨Z2,Z2⟩⟩,zCx,u8,show((j+1:U):E)=(j:E)+1 by omega]
   ·by_cases y:v=j
    ·subst y;rw[zAL,zT2 Z2,zPU,eQ a]
    ·rw[zAL,zTU λh=>y h.symm,←zAL];exact z v Z2
 have:=key (F g) 0 (d (F g) D) Z2 zKR λv b=>τ b<|zAR v
 refine Ev.eq this λn=>?_
 unfold RU yJ;rw[zAB ⟨rfl,Z2,Z2⟩];rfl
def zKU(ϛ:Bx q i<|Ax g)(G:Gd q g):∃b,Ev (λn=>Hd n q (con q i) g) b/\(b=T↔B3 q (con q i) g):=by
 have S:=ϛ.sv G;have w:BM (Ax g)=D:=Fb.2 S.nz;have W:=ϛ.work;have ο:=ϛ.vals;have o:=W.len
 have ϑ:∀{k:E} {f:U->A ζ} {b:ζ} {ϗ:Prop},(con q i).kind=k->(∀n,Hd n q (con q i) g=f n)->Ev f b->(b=T↔ϗ)->(B3 q (con q i) g↔ϗ)->∃b,Ev (λn=>Hd n q (con q i) g) b/\(b=T↔B3 q (con q i) g):=
  λ_ y z I J=>⟨_,z.eq y,I.trans J.symm⟩
 have K:=Ph<|Pg ϛ.kind
 generalize hc:con q i=c at*
 rcases K with hk|hk|hk|hk|hk|hk|hk|hk|hk
 ·obtain⟨r,l,j⟩:=zQj S o;exact ϑ (f:=λn=>(iY n g c.ce).bind Z) hk (λn=>by unfold Hd MZ;rw[hk];rfl) (Ev.bind l<|Ev.now λn=>rfl) j (by unfold B3;rw[hk];simp)
 ·refine ϑ (f:=λn=>(io n g c.ce c.set).bind λe=>L (H<|c.lo<=e) (Z<|H<|e<=c.hi)<|Z D) (ϗ:=c.lo<=cnt (λa=>tb c.set<|AP c g a) (F c.ce)/\cnt (λa=>tb c.set<|AP c g a) (F c.ce)<=c.hi) (b:=H (c.lo<=cnt (λa=>tb c.set<|AP c g a) (F c.ce))&&H (cnt (λa=>tb c.set<|AP c g a) (F c.ce)<=c.hi)) hk (λn=>by unfold Hd MZ;rw[hk];rfl) (Ev.bind (zQ8 S o)<|Ev.now λn=>?_) Z3 (by unfold B3;rw[hk];simp);cases H (c.lo<=cnt (λa=>tb c.set<|AP c g a) (F c.ce)) <;> rfl
 ·refine ϑ (f:=λn=>(bX n q.va g c.ce).bind λe=>L (H<|c.lo<=e) (Z<|H<|e<=c.hi)<|Z D) (ϗ:=c.lo<=Cf (λa=>M q.va (AP c g a) 0) (F c.ce)/\Cf (λa=>M q.va (AP c g a) 0) (F c.ce)<=c.hi) (b:=H (c.lo<=Cf (λa=>M q.va (AP c g a) 0) (F c.ce))&&H (Cf (λa=>M q.va (AP c g a) 0) (F c.ce)<=c.hi)) hk (λn=>by unfold Hd MZ;rw[hk];rfl) (Ev.bind (zEF S ο o)<|Ev.now λn=>?_) Z3 (by unfold B3;rw[hk];simp);cases H (c.lo<=Cf (λa=>M q.va (AP c g a) 0) (F c.ce)) <;> rfl
 ·obtain⟨r,l,j⟩:=zH3 S ο o;exact ϑ (f:=λn=>(cw n q.va g c.ce).bind Z) hk (λn=>by unfold Hd MZ;rw[hk];rfl) (Ev.bind l<|Ev.now λn=>rfl) j (by unfold B3;rw[hk];simp)
 ·have P:=ca (b:=λa=>tb c.set<|AP c g a) (N:=F c.ce) (F c.ce) 0;refine ϑ (f:=λn=>(cU n g c.ce c.set).bind λe=>(Ty n e c.ru).bind Z) (ϗ:=rl (λa=>tb c.set<|AP c g a) (F c.ce) (F c.ce) 0=c.ru) (b:=H<|rl (λa=>tb c.set<|AP c g a) (F c.ce) (F c.ce) 0=c.ru) hk (λn=>by unfold Hd MZ;rw[hk];rfl) (Ev.bind (zHF S o) ⟨300,λn hn=>?_⟩) Z3 (by unfold B3;rw[hk];simp)
  show(Ty n _ c.ru).bind Z=_
  rw[zLm (zAO P<|zAO (by omega:F c.ce+1<=300) Z6) Z2];rfl
 ·have j:F c.ce=2:=by rw[←hc];exact ϛ.two (.inl<|by rw[hc];exact hk)
  have t:=S.cell 0 Z2;have u:=S.cell 1 Z2;have x:=S.gi (a:=0) Z2;have v:=S.gi (a:=1) Z2;have l0:=(S.lt (a:=0) Z2).1;have p:=(S.lt (a:=1) Z2).1;have vl:=ο.len;have v0:=ο.val _ l0;have v1:=ο.val _ p;refine ϑ (f:=λn=>Hd n q c g) (ϗ:=IQ q c (AP c g 0) (AP c g 1)=T) (b:=IQ q c (AP c g 0)<|AP c g 1) hk (λn=>rfl) (Ev.now λn=>?_) Iff.rfl (by unfold B3;rw[hk];simp);unfold Hd MZ;rw[hk]
  show C _ _ V=_
  rw[x,v,u8,u8,zAB ⟨⟨Z2,Z2⟩,t,⟨Z2,Z2⟩,⟨Z2,Z2⟩,u,Z2,Z2⟩];unfold mG wV IQ;rw[zAB<|Ae.2 ⟨Z2,Z2⟩,zAB<|Ae.2 ⟨Z2,Z2⟩]
  by_cases h:M q.va (AP c g 0) 0-M q.va (AP c g 1) 0>=c.lo
  ·rw[zAA h,zAI,zAD];refine congrArg Z (zAA ?_).symm;split <;> omega
  ·rw[zAF h,zAJ,zAD];refine congrArg Z ?_;rw[zTa];split <;> omega
 ·have j:F c.ce=2:=by rw[←hc];exact ϛ.two (.inr<|by rw[hc];exact hk)
  have t:=S.cell 0 Z2;have u:=S.cell 1 Z2;have x:=S.gi (a:=0) Z2;have v:=S.gi (a:=1) Z2;have l0:=(S.lt (a:=0) Z2).2;have p:=(S.lt (a:=1) Z2).2;refine ϑ (f:=λn=>Hd n q c g) (ϗ:=Hy c (AP c g 0) (AP c g 1)=T) (b:=Hy c (AP c g 0)<|AP c g 1) hk (λn=>rfl) (Ev.now λn=>?_) Iff.rfl (by unfold B3;rw[hk];simp);unfold Hd MZ;rw[hk]
  show C _ _ V=_
  rw[x,v,zAB ⟨⟨Z2,Z2⟩,t,⟨Z2,Z2⟩,u⟩,PJ l0,PJ p,PJ l0,PJ p];unfold Hy;cases tb c.set (AP c g 0) <;> cases tb c.set (AP c g 1) <;> cases tb c.other (AP c g 0) <;> cases tb c.other (AP c g 1) <;> rfl
 ·have m:FN c q<|Ax g:=by rw[←hc];exact ϛ.all (.inl<|by rw[hc];exact hk) w
  have s:=m.gl;rw[Fh]at s;obtain⟨r,l,j⟩:=zRQ (inn:=CT c g) m.g (by rw[Nl];omega);exact ϑ (f:=λn=>(RU n g c.ce c.set).bind λe=>(aD n q.nb e).bind Z) hk (λn=>by unfold Hd MZ;rw[hk];rfl) (Ev.bind (yK S m)<|Ev.bind l<|Ev.now λn=>rfl) j (by unfold B3;rw[hk];simp)
 ·have m:FN c q<|Ax g:=by rw[←hc];exact ϛ.all (.inr<|by rw[hc];exact hk) w
  have s:=m.gl;rw[Fh]at s;obtain⟨r,l,j⟩:=zKw (inn:=CT c g) m.g (by rw[Nl];omega);rw[s]at j;exact ϑ (f:=λn=>(RU n g c.ce c.set).bind λe=>(YG n q.nb e).bind Z) hk (λn=>by unfold Hd MZ;rw[hk];rfl) (Ev.bind (yK S m)<|Ev.bind l<|Ev.now λn=>rfl) j (by unfold B3;rw[hk];simp)
def zP2(G:Gd q g)(o:CR q=T):Ev (λn=>iG n q.ce q.sy g) T:=by
 have p:=G.len;have hc:=(Dy o).1
 have key:∀(k j:U),j+k=F g->Ev (λn=>VM q.ce q.sy g n<|.l1 (j:E)) T:=by
  intro k
  induction k with
  |zero=>
   intro j e;refine Ev.one λn=>?_
   show ZX n (VM q.ce q.sy g n) q.ce q.sy g (j:E)=_
   unfold ZX;rw[zAF Z2,zAJ]
  |succ k a=>
   intro j e;have b:j<F g:=Z2
   obtain⟨s0,s1⟩:=G.sym j b;refine AX.ev (AX.one λn=>?_)<|a (j+1) Z2
   show ZX n (VM q.ce q.sy g n) q.ce q.sy g (j:E)=_
   unfold ZX;rw[zAA Z2,zAI,zAB ⟨Z2,Z2⟩,u8,zAF Z2,zAJ,zAF Z2,zAJ,zAB<|Ae.2 ⟨Z2,Z2⟩,show((j+1:U):E)=(j:E)+1 by omega]
 refine(key (F g) 0 Z2).eq λn=>?_
 unfold iG zAo;rw[show((F g:E) != q.ce)=D by simpa using p,zAJ];rfl
def zEe(f:DT q)(o:CR q=T)(G:Gd q g)(BI:F q.cons<=LB):∃b,Ev (λn=>L6 n q g) (b,0)/\(b=T↔Js q g):=by
 have hb:LB<=9223372036854775806:=Z6
 have key:∀(k j:U),j+k=F q.cons->(∀i,0<=i->i<(j:E)->B3 q (con q i) g)->∃b,Ev (λn=>Oq q g n<|.l1 (j:E)) (b,0)/\(b=T↔Js q g):=by
  intro k
  induction k with
  |zero=>
   intro j e h;refine⟨T,Ev.one λn=>?_,zPB rfl λi h0 c=>h i h0 Z2⟩
   show WX n (Oq q g n) q g (j:E)=_
   unfold WX;rw[zAF Z2,zAJ]
  |succ k l=>
   intro j e h;have hj:j<F q.cons:=Z2
   obtain⟨b,⟨N,I⟩,a⟩:=zKU (G.ctx f o (i:=(j:E)) Z2 Z2) G;have m:con q (j:E)=M q.cons j ξ:=by unfold con;rw[u8]
   rw[m]at I;have I:∀n,N<=n->Hd n q (M q.cons j ξ) g=Z b:=I
   have step:∀n,N<=n->Oq q g (n+1) (.l1 (j:E))=L (!b) (Z (D,0)) (Oq q g n<|.l1 ((j+1:U):E)):=λn s=>by
    show WX n (Oq q g n) q g (j:E)=_
    unfold WX;rw[zAA Z2,zAI,zAB ⟨Z2,Z2⟩,u8,I n s,zAD,zAB<|Ae.2 ⟨Z2,Z2⟩,show((j+1:U):E)=(j:E)+1 by omega]
   cases b with
   |false=>
    refine⟨D,Ev.oneN N λn s=>by rw[step n s];rfl,zM2 Z6 λp=>?_⟩;have:=a.2<|p (j:E) Z2 Z2;cases this
   |true=>
    obtain⟨r,t,u⟩:=l (j+1) Z2 λi h0 c=>by
     by_cases y:i=(j:E)
     ·rw[y];exact a.1 rfl
     ·exact h i h0 Z2
    exact⟨r,AX.ev (AX.oneN N λn s=>by rw[step n s];rfl) t,u⟩
 obtain⟨b,z,a⟩:=key (F q.cons) 0 Z2 λi h0 c=>τ c Z2
 have v:Ev (λn=>az n q g) 0:=by
  refine Ev.bind (x:=0) ⟨D0 q,λn s=>by show Tz n q=_;rw[vL f s,o];rfl⟩ ?_;exact Ev.eq (Ev.bind (zP2 G o)<|Ev.now λn=>rfl) λn=>rfl
 exact⟨b,Ev.bind v z,a⟩
end
structure BC(q:AA)(p:Ξ):Prop where
 fit:DT q
 valid:CR q=T
 ok:posOk q p=T
def Le(a b:Ξ):Prop:=∀j s,tb (M a j 0) s=T->tb (M b j 0) s=T
def Up(q:AA)(level:E)(i:E):Prop:=0<=i/\i<(F q.cons:E)/\Mc (con q i).kind<=level
def Ju(q:AA)(ι:E->Prop)(p:Ξ):Prop:=∀i,ι i->PR q (con q i) p p
inductive Ec(q:AA)(ι:E->Prop):Ξ->Ξ->Prop
 |refl (p:Ξ):Ec q ι p p
 |step {p x y:Ξ} {i:E}:ι i->PR q (con q i) p x->Ec q ι x y->Ec q ι p y
section
variable{q:AA}{ι:E->Prop}{p x y z:Ξ}{i level:E}
def BC.ctx(h:BC q p)(h0:0<=i)(a:i<(F q.cons:E)):Bx q i p:=⟨h.fit,h.valid,h0,a,h.ok⟩
def BC.len(h:BC q p):(F p:E)=q.ce:=((MK h.valid).1 h.ok).1
def BC.sm(h:BC q p):∀j,j<F p->Sm q.sy.toNat (M p j 0):=((MK h.valid).1 h.ok).2
def BC.k(h:BC q p):q.sy.toNat<=16:=by have:=(Dy h.valid).2.1;omega
def BC.len256(h:BC q p):0<F p/\F p<=256:=by
 have h1:=(Dy h.valid).1;have:=h.len;omega
theorem BC.in64(h:BC q p)(j:U):CO<|M p j 0:=by
 by_cases g:j<F p
 ·exact(h.sm j g).in64 (by have:=h.k;omega)
 grind[CO]
def BC.pr(h:BC q p)(h0:0<=i)(a:i<(F q.cons:E))(e:PR q (con q i) p x):BC q x:=⟨h.fit,h.valid,e.posOk<|h.ctx h0 a⟩
def BC.eqlen(h:BC q p)(h':BC q x):F x=F p:=by have:=h.len;have:=h'.len;omega
theorem Le.refl(a:Ξ):Le a a:=λ_ _ h=>h
def Le.trans(h:Le x y)(h':Le y z):Le x z:=λj s l=>h' j s<|h j s l
def Le.eq(a:BC q x)(hy:BC q y)(h:Le x y)(h':Le y x):x=y:=by
 have e:F x=F y:=hy.eqlen a;refine zOC e λj b c=>?_
 have f:M x j 0=x[j]:=by simp[b]
 have K:M y j 0=y[j]:=by simp[c]
 rw[←f,←K];refine L3 (a.in64 j) (hy.in64 j) λs _=>?_
 rw[zMq];exact⟨h j s,h' j s⟩
variable{c:AE}
def PR.le(h:PR q c p x):Le x p:=λ_ _ l=>(h.sub l).2
def Ec.pos(a:∀i,ι i->0<=i/\i<(F q.cons:E))(r:Ec q ι p y):BC q p->BC q y:=by
 induction r with
 |refl p=>exact id
 |step hi e _ n=>exact λh=>n<|h.pr (a _ hi).1 (a _ hi).2 e
def Ec.le(r:Ec q ι p y):Le y p:=by
 induction r with
 |refl p=>exact Le.refl p
 |step hi e _ n=>exact n.trans e.le
def Ec.trans(h:Ec q ι p x)(h':Ec q ι x y):Ec q ι p y:=by
 induction h with
 |refl p=>exact h'
 |step hi e _ n=>exact .step hi e<|n h'
def Ec.one(hi:ι i)(e:PR q (con q i) p x):Ec q ι p x:=.step hi e<|.refl x
def Ec.above(c:∀i,ι i->0<=i/\i<(F q.cons:E))(r:Ec q ι p y):BC q p->BC q z->Le z p->Ju q ι z->Le z y:=by
 induction r with
 |refl p=>exact λ_ _ h _=>h
 |step hi e _ n=>
  intro b f X g;obtain⟨h0,a⟩:=c _ hi;exact n (b.pr h0 a e) f (wl (b.ctx h0 a) (f.ctx h0 a) X e<|g _ hi) g
theorem Ec.uniq(a:∀i,ι i->0<=i/\i<(F q.cons:E))(h:BC q p)(e:Ec q ι p x)(hy:Ec q ι p y)(b:Ju q ι x)(k:Ju q ι y):x=y:=
 Le.eq (e.pos a h) (hy.pos a h) (hy.above a h (e.pos a h) e.le b) (e.above a h (hy.pos a h) hy.le k)
def kE(i:E)(h:Up q level i):0<=i/\i<(F q.cons:E):=⟨h.1,h.2.1⟩
variable{m:U}
theorem wj(hm:0<m):PR q c (d m 0)<|d m 0:=by
 refine⟨rfl,λhA=>?_,λ_=>Z3⟩
 grind[CO,tb]
theorem qK(z:0<m):Ju q ι<|d m 0:=λ_ _=>wj z
theorem PR.zero(h:PR q c p x)(hd:BM x=T):x=d (F p) 0:=by
 refine Classical.byContradiction λe=>?_
 have a:GT q c p:=Classical.byContradiction λa=>e<|h.dead a
 have:¬BM x=D:=Z4
 refine this<|Fb.2 λj g=>?_;have b:j<F p:=by rw[←h.len];exact g
 obtain⟨s,f,i,k⟩:=a.left j b;exact(GV (h.live a j b).1).2 ⟨s,f,((h.live a j b).2 s).2 ⟨i,k⟩⟩
def wt(p:Ξ):U:=(θ<|64*F p).countP λk=>tb (M p (k/64) 0)<|k%64
theorem V8(b:BC q x)(c:BC q p)(h:Le x p)(f:x≠p):wt x+1<=wt p:=by
 have e:F x=F p:=c.eqlen b
 obtain⟨j,s,hj,l,g,i⟩:∃j s:U,j<F p/\s<64/\tb (M x j 0) s=D/\tb (M p j 0) s=T:=by
  refine Classical.byContradiction λhn=>f<|Le.eq b c h λj s l=>?_
  grind[tb]
 unfold wt;rw[e];have Q:(64*j+s)/64=j:=Z2
 have es:(64*j+s)%64=s:=Z2
 refine OL (a:=64*j+s) (by rw[Q,es];exact g) (by rw[Q,es];exact i) _ (λk _ hk=>h _ _ hk)<|zAV.2 Z2
end
section
set_option maxRecDepth 100000
set_option maxHeartbeats 40000000
inductive TU where
 |l1 (Ab:E)
 |l2 (x4:U) (Ab:E) (o1:Ξ)
def bD(n:U)(self:TU->A Ξ)(q:AA)(level:E)(a:E):A Ξ:=L (H<|a<(F q.cons:E)) ((Rf n q a).bind λf=>L (f.2==0) (L (H<|f.1<=level) (C (((0=0/\1=F ([a]:Ξ))/\0<F ([a]:Ξ)/\F ([a]:Ξ)<=Av)/\AI (a+1)) (self<|.l2 (F ([a]:Ξ)) (a+1) ([a]:Ξ)) V)<|C (AI<|a+1) (self<|.l1<|a+1) V)<|C (AI<|a+1) (self<|.l1<|a+1) V)<|Z ([]:Ξ)
def bC(n:U)(self:TU->A Ξ)(q:AA)(level:E)(c:U)(a:E)(o1:Ξ):A Ξ:=L (H<|a<(F q.cons:E)) ((Rf n q a).bind λf=>L (f.2==0) (L (H<|f.1<=level) (C (((0=0/\1=F ([a]:Ξ))/\(0=0/\c=F o1)/\F o1+F ([a]:Ξ)<=Av)/\AI (a+1)) (self<|.l2 (F o1+F ([a]:Ξ)) (a+1)<|o1++([a]:Ξ)) V)<|C (AI<|a+1) (self<|.l2 c (a+1) o1) V)<|C (AI<|a+1) (self<|.l2 c (a+1) o1) V)<|C (c=F o1) (Z o1) V
def zDU(n:U)(self:TU->A Ξ)(q:AA)(level:E):A Ξ:=self<|.l1 0
def J1(q:AA)(level:E):U->TU->A Ξ
 |0,_=>V
 |n+1,.l1 a=>bD n (J1 q level n) q level a
 |n+1,.l2 c a o1=>bC n (J1 q level n) q level c a o1
def WJ(n:U)(q:AA)(level:E):A Ξ:=zDU n (J1 q level n) q level
def zDV(n ϙ:U)(N:Yd 0)(q:AA)(level:E)(r:Ξ):TU->Prop:=px n ϙ η N (FQ Tryz.f109 0 (.ints r) []) (AZ Tryz.f109) λ
 | .l1 a=>(0,0,AF 33 [(1,.i level),(2,.ref 0 0),(4,.nils),(10,.i (F q.cons:E)),(11,.i a)],[oC<|AG q])
 | .l2 c a o1=>(0,0,AF 33 [(1,.i level),(2,.ref 0 0),(4,.msl 1 1 0 c),(10,.i (F q.cons:E)),(11,.i a)],[oC<|AG q,oI o1])
def zDW(ϙ:U)(N:Yd 0)(q:AA)(level:E):Al (J1 q level) (zDV · ϙ N q level):=ia (λ_=>rfl) λn I G r h=>by
 cases G
 case l1 Ab=>
  intro b a;refine rd a λb a=>?_
  revert r;apply gO;exact bi 12 (cf nM [oC<|AG q] λ_=>bi 21 (bi 25 (gc (gi (gw 31 (lG AC [0,2] (I _ _ · b a))))) (gw 31 (lG AC [0] (I _ _ · b a)))) (gw 31 (lG AC [0] (I _ _ · b a))))<|lF λp=>el AC [4] [] p [] H0 [.nils] AO.ints_nil
 case l2 x4 Ab o1=>
  intro b a;refine rd a λb a=>?_
  revert r;apply gO;exact bi 12 (cf nM [oC<|AG q,oI o1] λ_=>bi 21 (bi 25 (gc (gi (gw 31 (lG AC [0,3] (I _ _ · b a))))) (gw 31 (lG AC [0,1] (I _ _ · b a)))) (gw 31 (lG AC [0,1] (I _ _ · b a))))<|gn λx=>lF λp=>ez AC [4] [1] p [0]<|H0.g x
variable{level:E}{q:AA}{n:U}
def sc{r:Ξ}(h:WJ n q level=Z r):EQ 109 [.agg 5<|L1<|AG q,.i level] [] (.ints r) [] T:=by
 refine ot Tryz.func109 λϙ N=>?_
 revert r;apply gO;exact lN AC [0] ((zDW ϙ N q level n) _ _ · n χ)
inductive Vv where
 |l1 (x8:E)
 |l2 (x8:E) (o0:Ω) (DX:U) (o2:Ξ)
def re(n:U)(self:Vv->X1)(l:Ξ)(Q:Ω)(x8:E):X1:=L (H<|x8<(F l:E)) (C ((0<=x8/\x8<(F l:E))/\(0<=M l x8.toNat 0/\M l x8.toNat 0<((4096:U):E))/\0+(M l x8.toNat 0).toNat<F Q) (L (!(M Q (0+(M l x8.toNat 0).toNat) D)) (C (((0=0/\1=F ([M l x8.toNat 0]:Ξ))/\0<F ([M l x8.toNat 0]:Ξ)/\F ([M l x8.toNat 0]:Ξ)<=Av)/\AI (x8+1)) (self<|.l2 (x8+1) (Q.set (0+(M l x8.toNat 0).toNat) T) (F ([M l x8.toNat 0]:Ξ)) ([M l x8.toNat 0]:Ξ)) V)<|C (AI<|x8+1) (self<|.l1<|x8+1) V) V)<|Z (Q,0,0,([]:Ξ),T)
def aZ(n:U)(self:Vv->X1)(l:Ξ)(ws:Ω)(x8:E)(o0:Ω)(J:U)(Q:Ξ):X1:=L (H<|x8<(F l:E)) (C ((0<=x8/\x8<(F l:E))/\(0<=M l x8.toNat 0/\M l x8.toNat 0<((4096:U):E))/\0+(M l x8.toNat 0).toNat<F o0) (L (!(M o0 (0+(M l x8.toNat 0).toNat) D)) (C (0+J=F Q/\J+F ([M l x8.toNat 0]:Ξ)<=Av/\AI (x8+1)) (self<|.l2 (x8+1) (o0.set (0+(M l x8.toNat 0).toNat) T) (J+F ([M l x8.toNat 0]:Ξ))<|Q++([M l x8.toNat 0]:Ξ)) V)<|C (AI<|x8+1) (self<|.l2 (x8+1) o0 J Q) V) V)<|Z (o0,0,J,Q,D)
def zS1(n:U)(self:Vv->X1)(l:Ξ)(ws:Ω):X1:=self<|.l1 0
def Ls(l:Ξ)(Q:Ω):U->Vv->X1
 |0,_=>V
 |n+1,.l1 x8=>re n (Ls l Q n) l Q x8
 |n+1,.l2 x8 o0 J a=>aZ n (Ls l Q n) l Q x8 o0 J a
def Vw(n:U)(l:Ξ)(Q:Ω):X1:=zS1 n (Ls l Q n) l Q
def zS2(n ϙ:U)(N:Yd 2)(l:Ξ)(Q:Ω)(r:Ω×U×U×Ξ×ζ):Vv->Prop:=px n ϙ η N (FQ Tryz.f168 2 (.tup 0 λj=>([]:O DV).getD j .any)<|L r.2.2.2.2 [Z<|.bools r.1,oC [.nils]] [Z<|.bools r.1,oC [.mse 2 1 r.2.1 r.2.2.1],oI r.2.2.2.1]) (AZ Tryz.f168) λ
 | .l1 x8=>(0,0,AF 23 [(1,.mp 0 1 0 0),(2,.ref 1 0),(6,.ints l),(7,.i (F l:E)),(8,.i x8)],[Z<|.bools Q,oC [.nils]])
 | .l2 x8 o0 J a=>(0,0,AF 23 [(1,.mp 0 1 0 0),(2,.ref 1 0),(6,.ints l),(7,.i (F l:E)),(8,.i x8)],[Z<|.bools o0,oC [.mse 2 1 0 J],oI a])
def zS3(ϙ:U)(N:Yd 2)(l:Ξ)(Q:Ω):Al (Ls l Q) (zS2 · ϙ N l Q):=ia (λ_=>rfl) λn I G r h=>by
 cases G
 case l1 x8=>
  intro q a;refine rd a λq a=>?_
  revert r;apply gO;exact bi 9 (gc (gi (gc (gn λp=>jg p (gn λu=>jg u (bi 15 (jg p (jg u (gc (gi (jo 21 (AO.msl_mse (k:=3) (m:=1) (o:=0) (n:=F ([M l x8.toNat 0]:Ξ))) (jt (gw 22 (lG AC [0,1,3] (I _ _ · q a))))))))) (gw 22 (lG AC [0,1] (I _ _ · q a)))))))))<|lE AC [] [0,1]
 case l2 x8 o0 DX o2=>
  intro q a;refine rd a λq a=>?_
  revert r;apply gO;exact bi 9 (gc (gi (gc (gn λp=>jg p (gn λu=>jg u (bi 15 (jg p (jg u (jg (γ (φ 0)<|φ 1) (jg (by decide:0<1) (gc (gi (gc (gi (jt (gw 22 (lG AC [0,1,4] (I _ _ · q a)))))))))))) (gw 22 (lG AC [0,1,2] (I _ _ · q a)))))))))<|lE AC [] [0,1,2]
variable{r:Ω×U×U×Ξ×ζ}{Q:Ω}{l:Ξ}
def zCp(h:Vw n l Q=Z r):EQ 168 [.ints l,.mp 0 1 0 0,.ref 1 0] [Z<|.bools Q,oC [.nils]] (.tup 0 λj=>([]:O DV).getD j .any) (L r.2.2.2.2 [Z<|.bools r.1,oC [.nils]] [Z<|.bools r.1,oC [.mse 2 1 r.2.1 r.2.2.1],oI r.2.2.2.1]) D:=by
 refine ot Tryz.func168 (hni:=by cases r.2.2.2.2 <;> rfl) λϙ N=>?_
 revert r;apply gO;exact lN AC [0,1] ((zS3 ϙ N l Q n) _ _ · n χ)
def zCo(h:Vw n l Q=Z r)(c:r.2.2.2.2=T):EQ 168 [.ints l,.mp 0 1 0 0,.ref 1 0] [Z<|.bools Q,oC [.nils]] (.tup 0 λj=>([]:O DV).getD j .any) [Z<|.bools r.1,oC [.nils]] D:=by
 have:=zCp h;rw[c]at this;exact this
def zCn(h:Vw n l Q=Z r)(c:r.2.2.2.2=D):EQ 168 [.ints l,.mp 0 1 0 0,.ref 1 0] [Z<|.bools Q,oC [.nils]] (.tup 0 λj=>([]:O DV).getD j .any) [Z<|.bools r.1,oC [.mse 2 1 r.2.1 r.2.2.1],oI r.2.2.2.1] D:=by
 have:=zCp h;rw[c]at this;exact this
inductive jY where
 |l1 (x8:E) (o0:Ω) (MW DX:U) (o3:Ξ)
def aa(n:U)(self:jY->X4)(l:Ξ)(ws:Ω)(o_ n_:U)(qu:Ξ)(x8:E)(o0:Ω)(a J:U)(w:Ξ):X4:=L (H<|x8<(F l:E)) (C ((0<=x8/\x8<(F l:E))/\(0<=M l x8.toNat 0/\M l x8.toNat 0<((4096:U):E))/\0+(M l x8.toNat 0).toNat<F o0) (L (!(M o0 (0+(M l x8.toNat 0).toNat) D)) (C (a+J=F w/\J+F ([M l x8.toNat 0]:Ξ)<=Av/\AI (x8+1)) (self<|.l1 (x8+1) (o0.set (0+(M l x8.toNat 0).toNat) T) 0 (J+F ([M l x8.toNat 0]:Ξ))<|w.drop a++([M l x8.toNat 0]:Ξ)) V)<|C (AI<|x8+1) (self<|.l1 (x8+1) o0 a J w) V) V)<|Z (o0,a,J,w)
def zS4(n:U)(self:jY->X4)(l:Ξ)(Q:Ω)(J e:U)(a:Ξ):X4:=self<|.l1 0 Q J e a
def Sz(l:Ξ)(Q:Ω)(J e:U)(a:Ξ):U->jY->X4
 |0,_=>V
 |n+1,.l1 x8 o0 b c w=>aa n (Sz l Q J e a n) l Q J e a x8 o0 b c w
def OV(n:U)(l:Ξ)(Q:Ω)(J e:U)(a:Ξ):X4:=zS4 n (Sz l Q J e a n) l Q J e a
def zS6(n ϙ:U)(N:Yd 3)(l:Ξ)(ws:Ω)(o_ n_:U)(qu:Ξ)(r:Ω×U×U×Ξ):jY->Prop:=px n ϙ η N (FQ Tryz.f168 3 (.tup 0 λj=>([]:O DV).getD j .any) [Z<|.bools r.1,oC [.mse 3 1 r.2.1 r.2.2.1],V,oI r.2.2.2]) (AZ Tryz.f168) λ
 | .l1 x8 o0 a J w=>(0,0,AF 23 [(1,.mp 0 1 0 0),(2,.ref 1 0),(6,.ints l),(7,.i (F l:E)),(8,.i x8)],[Z<|.bools o0,oC [.mse 3 1 a J],V,oI w])
def zS7(ϙ:U)(N:Yd 3)(l:Ξ)(Q:Ω)(J e:U)(b:Ξ):Al (Sz l Q J e b) (zS6 · ϙ N l Q J e b):=ia (λ_=>rfl) λn I G r h=>by
 cases G
 case l1 x8 o0 MW DX o3=>
  intro q a;refine rd a λq a=>?_
  revert r;apply gO;exact bi 9 (gc (gi (gc (gn λp=>jg p (gn λu=>jg u (bi 15 (jg p (jg u (jg (γ (φ 0)<|φ 1) (jg (by decide:0<1) (gc (gi (gc (gi (jt (gw 22 (lG AC [0,1,2,5] (I _ _ · q a)))))))))))) (gw 22 (lG AC [0,1,2,3] (I _ _ · q a)))))))))<|lE AC [] [0,1,2,3]
def rf{J e:U}{a:Ξ}{r:Ω×U×U×Ξ}(h:OV n l Q J e a=Z r):EQ 168 [.ints l,.mp 0 1 0 0,.ref 1 0] [Z<|.bools Q,oC [.mse 2 1 J e],oI a] (.tup 0 λj=>([]:O DV).getD j .any) [Z<|.bools r.1,oC [.mse 3 1 r.2.1 r.2.2.1],V,oI r.2.2.2] D:=by
 refine ot Tryz.func168 λϙ N=>?_
 refine BY.le (BB.moveE 2 ⟨AF 23 [(0,.ints l),(1,.mp 0 1 0 0),(2,.ref 1 0)],[Z<|.bools Q,oC [.mse 3 1 J e],V,oI a]⟩ Z5) Z5 ?_;revert r;apply gO;exact lN AC [0,1,2,3] ((zS7 ϙ N l Q J e a n) _ _ · n χ)
def xT(n:U)(c:E)(q:AA):A ζ:=L (H<|c<0) (Z T)<|Z<|H<|c>=q.ce
def dq(n:U)(c:E)(q:AA):A ζ:=xT n c q
def zJc{c:E}{r:ζ}(h:dq n c q=Z r):EQ 133 [.i c,.fp 5<|L1<|AG q] [] (.bool r) [] T:=by
 refine ot Tryz.func133 λϙ N=>?_
 revert r;apply gO;exact bi 5 (lE AC [3] [])<|lE AC [3] []
inductive fc where
 |l1 (x8:E)
def Uj(n:U)(self:fc->A E)(l:Ξ)(q:AA)(x8:E):A E:=L (H<|x8<(F l:E)) (C (0<=x8/\x8<(F l:E)) ((dq n (M l x8.toNat 0) q).bind λf=>L f (Z x8)<|C (AI<|x8+1) (self<|.l1<|x8+1) V) V)<|Z<|-1
def zL7(n:U)(self:fc->A E)(l:Ξ)(q:AA):A E:=self<|.l1 0
def Nr(l:Ξ)(q:AA):U->fc->A E
 |0,_=>V
 |n+1,.l1 x8=>Uj n (Nr l q n) l q x8
def zL(n:U)(l:Ξ)(q:AA):A E:=zL7 n (Nr l q n) l q
def zL8(n ϙ:U)(N:Yd 0)(l:Ξ)(q:AA)(r:E):fc->Prop:=px n ϙ η N (FQ Tryz.f111 0 (.i r) []) (AZ Tryz.f111) λ
 | .l1 x8=>(0,0,AF 19 [(0,.ints l),(1,.fn 133 1<|L1 [.fp 5<|L1<|AG q]),(7,.i (F l:E)),(8,.i x8)],[])
def zL9(ϙ:U)(N:Yd 0)(l:Ξ)(q:AA):Al (Nr l q) (zL8 · ϙ N l q):=ia (λ_=>rfl) λn I G r h=>by
 cases G
 case l1 x8=>
  intro b a;refine rd a λb a=>?_
  revert r;apply gO;exact bi 9 (gi (cf zJc [] λ_=>bi 16 (lE AC [4] []) (gw 18 (lG AC [] (I _ _ · b a)))))<|lE AC [4] []
def zL6{r:E}(h:zL n l q=Z r):EQ 111 [.ints l,.fn 133 1<|L1 [.fp 5<|L1<|AG q]] [] (.i r) [] T:=by
 refine ot Tryz.func111 λϙ N=>?_
 revert r;apply gO;exact lN AC [] ((zL9 ϙ N l q n) _ _ · n χ)
def zBY(n:U)(l:Ξ)(q:AA):A ζ:=(zL n l q).bind λf=>Z<|H<|f>=0
def iq(n:U)(l:Ξ)(q:AA):A ζ:=zBY n l q
def zRH{r:ζ}(h:iq n l q=Z r):EQ 105 [.ints l,.fn 133 1<|L1 [.fp 5<|L1<|AG q]] [] (.bool r) [] T:=by
 unfold iq zBY at h;refine ot Tryz.func105 λϙ N=>?_
 revert r;apply gO;exact cf zL6 [] λ_=>lE AC [4] []
def zF2:Ar (Am Tryz.f134 32) [] (θ 9) []:=Z0
def Ft:BZ:=λi=>match i with
 |32=>.ord [] (θ 9) []
 |_=>.no
def zf(cells:Ξ)(q:AA)(Q:Ω)(o1:E->Ξ)(Y:E):DH:=[oC<|AG q,V,Z<|.bools Q,oC [.nils],Z<|.mo<|.rows o1<|Z (M cells Y.toNat 0,o1<|M cells Y.toNat 0,D)]
def zNk(cells:Ξ)(q:AA)(Q:Ω)(f z:U)(o4:Ξ)(o1:E->Ξ)(Y:E):DH:=[oC<|AG q,V,Z<|.bools Q,oC [.mse 4 1 f z],oI o4,Z<|.mo<|.rows o1<|Z (M cells Y.toNat 0,o1<|M cells Y.toNat 0,D)]
def ze(cells:Ξ)(q:AA)(o1:E->Ξ)(Q:Ω)(f z:U)(o4:Ξ):DH:=[oC<|AG q,Z<|.mo<|.rows o1 V,Z<|.bools Q,oC [.mse 4 1 f z],oI o4]
def zNj(cells:Ξ)(q:AA)(o1:E->Ξ)(Q:Ω)(o4:Ξ)(f z:U):DH:=[oC<|AG q,Z<|.mo<|.rows o1 V,Z<|.bools<|Q.set (0+(M o4 (f+0) 0).toNat) D,oC [.mse 4 1 (f+1)<|z-1],oI o4]
def zNi(cells:Ξ)(q:AA)(a:Ω)(f z:U)(o4:Ξ)(o1:E->Ξ)(Q:E):DH:=[oC<|AG q,V,Z<|.bools a,oC [.mse 4 1 f z],oI o4,Z<|.mo<|.rows o1<|Z (Q,o1 Q,D)]
inductive K2 where
 |l1 (x9 CH:Ξ) (Dc BR:E) (o1:E->Ξ)
 |l2 (x9:Ξ) (A4:E) (CH:Ξ) (Dc BR:E) (Jw:Ξ) (EN BA:E) (o1:E->Ξ)
 |l3 (x9:Ξ) (C8:E) (o1:E->Ξ) (o2:Ω)
 |l4 (x9:Ξ) (C8:E) (o1:E->Ξ) (o2:Ω) (CD Ao:U) (o4:Ξ)
 |l5 (o1:E->Ξ) (o2:Ω)
 |l6 (x1:Ξ) (o1:E->Ξ) (o2:Ω) (CD Ao:U) (o4:Ξ)
 |l7 (x1 x21:Ξ) (Ee Fe:E) (o1:E->Ξ) (o2:Ω) (CD Ao:U) (o4:Ξ)
def Xc(n:U)(self:K2->A Ξ)(q:AA)(pos cells:Ξ)(level:E)(v g:Ξ)(a I:E)(o1:E->Ξ):A Ξ:=L (H<|I<a) (C ((0<=I/\I<(F g:E))/\(0<=M g I.toNat 0/\M g I.toNat 0<(F q.cons:E))) (self<|.l2 v (M g I.toNat 0) g a I (M q.cons (M g I.toNat 0).toNat ξ).ce ((F<|(M q.cons (M g I.toNat 0).toNat ξ).ce:U):E) 0 o1) V)<|self<|.l3 v 0 o1<|d 4096 D
def dO(n:U)(self:K2->A Ξ)(q:AA)(pos cells:Ξ)(level:E)(v:Ξ)(m:E)(g:Ξ)(a I:E)(u:Ξ)(t s:E)(o1:E->Ξ):A Ξ:=L (H<|s<t) (C ((0<=s/\s<(F u:E))/\F (o1<|M u s.toNat 0)+F ([m]:Ξ)<=Av/\AI (s+1)) (self<|.l2 v m g a I u t (s+1)<|JF o1 (M u s.toNat 0)<|(o1<|M u s.toNat 0)++([m]:Ξ)) V)<|C (AI<|I+1) (self<|.l1 v g a (I+1) o1) V
def Xb(n:U)(self:K2->A Ξ)(q:AA)(pos cells:Ξ)(level:E)(v:Ξ)(Y:E)(o1:E->Ξ)(Q:Ω):A Ξ:=L (H<|Y<(F cells:E)) (C (0<=Y/\Y<(F cells:E)) ((Vw n (o1<|M cells Y.toNat 0) Q).bind λf=>L f.2.2.2.2 (C (AI<|Y+1) (self<|.l3 v (Y+1) o1 f.1) V)<|C (AI<|Y+1) (self<|.l4 v (Y+1) o1 f.1 f.2.1 f.2.2.1 f.2.2.2.1) V) V)<|(Vw n v Q).bind λf=>L f.2.2.2.2 (self<|.l5 o1 f.1)<|self<|.l6 pos o1 f.1 f.2.1 f.2.2.1 f.2.2.2.1
def mL(n:U)(self:K2->A Ξ)(q:AA)(pos cells:Ξ)(level:E)(v:Ξ)(Y:E)(o1:E->Ξ)(Q:Ω)(a z:U)(o4:Ξ):A Ξ:=L (H<|Y<(F cells:E)) (C (0<=Y/\Y<(F cells:E)) ((OV n (o1<|M cells Y.toNat 0) Q a z o4).bind λf=>C (AI<|Y+1) (self<|.l4 v (Y+1) o1 f.1 f.2.1 f.2.2.1 f.2.2.2) V) V)<|(OV n v Q a z o4).bind λf=>self<|.l6 pos o1 f.1 f.2.1 f.2.2.1 f.2.2.2
def zI0(n:U)(self:K2->A Ξ)(q:AA)(pos cells:Ξ)(level:E)(o1:E->Ξ)(o2:Ω):A Ξ:=Z pos
def dN(n:U)(self:K2->A Ξ)(q:AA)(pos cells:Ξ)(level:E)(I:Ξ)(o1:E->Ξ)(Q:Ω)(f z:U)(o4:Ξ):A Ξ:=L (z==0) (Z I)<|L (H<|(z:E)>0) ((GO n I).bind λa=>L (!a) (C (((0:E)<=0/\0<(z:E))/\f+0<F o4/\((0:E)<=1/\(1:E)<=(z:E)/\(z:E)<=(z:E))/\(0<=M o4 (f+0) 0/\M o4 (f+0) 0<((4096:U):E))/\0+(M o4 (f+0) 0).toNat<F Q) ((PL n q (M o4 (f+0) 0) I).bind λG=>L (G.2 != 0) (Z I)<|self<|.l7 I G.1 (F G.1:E) 0 o1 (Q.set (0+(M o4 (f+0) 0).toNat) D) (f+1) (z-1) o4) V)<|Z I)<|Z I
def dM(n:U)(self:K2->A Ξ)(q:AA)(pos cells:Ξ)(level:E)(I x21:Ξ)(P Q:E)(o1:E->Ξ)(a:Ω)(b z:U)(o4:Ξ):A Ξ:=L (H<|Q<P) (C ((0<=Q/\Q<(F x21:E))/\(0<=Q/\Q<(F I:E))) (L (M x21 Q.toNat 0 != M I Q.toNat 0) ((OV n (o1 Q) a b z o4).bind λf=>C (AI<|Q+1) (self<|.l7 I x21 P (Q+1) o1 f.1 f.2.1 f.2.2.1 f.2.2.2) V)<|C (AI<|Q+1) (self<|.l7 I x21 P (Q+1) o1 a b z o4) V) V)<|self<|.l6 x21 o1 a b z o4
def mM(n:U)(self:K2->A Ξ)(q:AA)(pos cells:Ξ)(level:E):A Ξ:=(GO n pos).bind λf=>L f (C (((F pos:E):E)=(F pos:E)/\0<=(F pos:E)/\((F pos:E):E)<=1000000000000) (C (F pos=F (d (F pos) (0:E))) (Z<|d (F pos) (0:E)) V) V)<|(WJ n q level).bind λG=>self<|.l1 G G (F G:E) 0 λ_=>[]
def Cz(q:AA)(pos cells:Ξ)(level:E):U->K2->A Ξ
 |0,_=>V
 |n+1,.l1 v g a I o1=>Xc n (Cz q pos cells level n) q pos cells level v g a I o1
 |n+1,.l2 v m g a I u t s o1=>dO n (Cz q pos cells level n) q pos cells level v m g a I u t s o1
 |n+1,.l3 v Y o1 Q=>Xb n (Cz q pos cells level n) q pos cells level v Y o1 Q
 |n+1,.l4 v Y o1 Q f z o4=>mL n (Cz q pos cells level n) q pos cells level v Y o1 Q f z o4
 |n+1,.l5 o1 Q=>zI0 n (Cz q pos cells level n) q pos cells level o1 Q
 |n+1,.l6 b o1 Q f z o4=>dN n (Cz q pos cells level n) q pos cells level b o1 Q f z o4
 |n+1,.l7 b x21 P c o1 Q f z o4=>dM n (Cz q pos cells level n) q pos cells level b x21 P c o1 Q f z o4
def Xd(n:U)(q:AA)(pos cells:Ξ)(level:E):A Ξ:=mM n (Cz q pos cells level n) q pos cells level
def zI1(n ϙ:U)(N:Yd 0)(q:AA)(pos cells:Ξ)(level:E)(r:Ξ):K2->Prop:=px n ϙ η N (FQ Tryz.f134 0 (.ints r) []) (AZ Tryz.f134) λ
 | .l1 v g a I o1=>(0,0,AF 123 [(1,.ints pos),(2,.ints cells),(4,.ref 0 0),(9,.ints v),(10,.mri 1 0),(33,.ints g),(34,.i a),(35,.i I)],[oC<|AG q,Z<|.mo<|.rows o1 V])
 | .l2 v m g a I u t s o1=>(1,2,AF 123 [(1,.ints pos),(2,.ints cells),(4,.ref 0 0),(9,.ints v),(10,.mri 1 0),(12,.i m),(33,.ints g),(34,.i a),(35,.i I),(44,.ints u),(45,.i t),(46,.i s)],[oC<|AG q,Z<|.mo<|.rows o1 V])
 | .l3 v Y o1 Q=>(0,4,AF 123 [(1,.ints pos),(4,.ref 0 0),(9,.ints v),(10,.mri 1 0),(15,.mp 2 1 0 0),(16,.ref 3 0),(17,.fn 168 2<|L1 [.mp 2 1 0 0,.ref 3 0]),(61,.ints cells),(62,.i (F cells:E)),(63,.i Y)],[oC<|AG q,Z<|.mo<|.rows o1 V,Z<|.bools Q,oC [.nils]])
 | .l4 v Y o1 Q f z o4=>(0,4,AF 123 [(1,.ints pos),(4,.ref 0 0),(9,.ints v),(10,.mri 1 0),(15,.mp 2 1 0 0),(16,.ref 3 0),(17,.fn 168 2<|L1 [.mp 2 1 0 0,.ref 3 0]),(61,.ints cells),(62,.i (F cells:E)),(63,.i Y)],[oC<|AG q,Z<|.mo<|.rows o1 V,Z<|.bools Q,oC [.mse 4 1 f z],oI o4])
 | .l5 o1 Q=>(0,6,AF 123 [(1,.ints pos),(4,.ref 0 0),(10,.mri 1 0),(15,.mp 2 1 0 0),(16,.ref 3 0),(17,.fn 168 2<|L1 [.mp 2 1 0 0,.ref 3 0])],[oC<|AG q,Z<|.mo<|.rows o1 V,Z<|.bools Q,oC [.nils]])
 | .l6 b o1 Q f z o4=>(0,6,AF 123 [(1,.ints b),(4,.ref 0 0),(10,.mri 1 0),(15,.mp 2 1 0 0),(16,.ref 3 0),(17,.fn 168 2<|L1 [.mp 2 1 0 0,.ref 3 0])],[oC<|AG q,Z<|.mo<|.rows o1 V,Z<|.bools Q,oC [.mse 4 1 f z],oI o4])
 | .l7 b x21 P c o1 Q f z o4=>(1,8,AF 123 [(1,.ints b),(4,.ref 0 0),(10,.mri 1 0),(15,.mp 2 1 0 0),(16,.ref 3 0),(17,.fn 168 2<|L1 [.mp 2 1 0 0,.ref 3 0]),(21,.ints x21),(102,.i P),(103,.i c)],[oC<|AG q,Z<|.mo<|.rows o1 V,Z<|.bools Q,oC [.mse 4 1 f z],oI o4])
def zI2(ϙ:U)(N:Yd 0)(q:AA)(pos cells:Ξ)(level:E):Al (Cz q pos cells level) (zI1 · ϙ N q pos cells level):=ia (λ_=>rfl) λn I G r h=>by
 cases G
 case l1 x9 CH Dc BR o1=>
  intro b a;refine rd a λb a=>?_
  revert r;apply gO;exact bi 36 (gc (gi (gi (lN Ft [0,1] (I _ _ · b n a χ))))) (lN Ft [0,1,2,3] (I _ _ · n χ))
 case l2 x9 A4 CH Dc BR Jw EN BA o1=>
  intro b S a c;have a:=zBE a;refine rd c λS c=>?_
  revert r;apply gO;exact bi 47 (gc (gi (jg (γ (φ 0)<|φ 1) (jg (by decide:0<1) (gc (gi (jg (φ<|M Jw BA.toNat 0) (gw 58 (lG Ft [0,4] (I _ _ · b S a c)))))))))) (gw 59 (lG Ft [0,1] (I _ _ · b a)))
 case l3 x9 C8 o1 o2=>
  intro b a;refine rd a λb a=>?_
  revert r;apply gO;exact bi 64 (gi (cn λg P=>bn (λe=>jc (es (zCo P e) [2,3] (zf cells q o2 o1 C8) [.mri 4 1,.mp 2 1 0 0,.ref 3 0] ⟨.inr<|Oa.own rfl rfl,.inl rfl,.inl rfl,trivial⟩) (ju 71 4 (gw 72 (lG Ft [0,4,2,3] (I _ _ · b a))))) (λe=>jc (es (zCn P e) [2,3] (zf cells q o2 o1 C8) [.mri 4 1,.mp 2 1 0 0,.ref 3 0] ⟨.inr<|Oa.own rfl rfl,.inl rfl,.inl rfl,trivial⟩) (ju 71 4 (gw 72 (lG Ft [0,4,2,3,5] (I _ _ · b a))))))) (cn λg P=>bn (λe=>jc (em (zCo P e) [2,3] [oC<|AG q,Z<|.mo<|.rows o1 V,Z<|.bools o2,oC [.nils]]) (lN Ft [0,1,2,3] (I _ _ · n χ))) (λe=>jc (em (zCn P e) [2,3] [oC<|AG q,Z<|.mo<|.rows o1 V,Z<|.bools o2,oC [.nils]]) (lN Ft [0,1,2,3,4] (I _ _ · n χ))))
 case l4 x9 C8 o1 o2 CD Ao o4=>
  intro b a;refine rd a λb a=>?_
  revert r;apply gO;exact bi 64 (gi (cn λg P=>jc (es (rf P) [2,3,4] (zNk cells q o2 CD Ao o4 o1 C8) [.mri 5 1,.mp 2 1 0 0,.ref 3 0] ⟨.inr<|Oa.own rfl rfl,.inl rfl,.inl rfl,trivial⟩) (ju 71 5 (gw 72 (lG Ft [0,5,2,3,6] (I _ _ · b a)))))) (ce rf [2,3,4] (ze cells q o1 o2 CD Ao o4) λ_=>lN Ft [0,1,2,3,5] (I _ _ · n χ))
 case l5 o1 o2=>
  intro b a;refine rd a λb a=>?_
  revert r;apply gO;exact lE Ft [8] []
 case l6 x1 o1 o2 CD Ao o4=>
  intro b a;refine rd a λb a=>?_
  revert r;apply gO;exact bn (λf=>jo 76 (AO.mse_nil (k:=4) (m:=1) (o:=CD)<|zMw f)<|lE Ft [8] []) (λf=>jo 76 (AO.mse_msl (k:=4) (m:=1) (o:=CD) (dU f) rfl) (bi 78 (cf KG (ze cells q o1 o2 CD Ao o4) λ_=>bi 82 (jo 84 (AO.mse_msl (k:=4) (m:=1) (o:=CD) (dU f) rfl) (gc (gi (gc (gi (jo 87 (AO.mse_msl (k:=4) (m:=1) (o:=CD) (dU f) rfl) (gc (gi (jt (gc (gi (gi (cf mR (zNj cells q o1 o2 o4 CD Ao) λ_=>bi 99 (lE Ft [8] []) (lN Ft [0,1,2,3,4] (I _ _ · b n a χ)))))))))))))))<|lE Ft [8] [])<|lE Ft [8] []))
 case l7 x1 x21 Ee Fe o1 o2 CD Ao o4=>
  intro b S a c;have a:=zBE a;refine rd c λS c=>?_
  revert r;apply gO;exact bi 104 (jg zF2 (gc (gi (gi (bi 114 (cn λg P=>jc (es (rf P) [2,3,4] (zNi cells q o2 CD Ao o4 o1 Fe) [.mri 5 1,.mp 2 1 0 0,.ref 3 0] ⟨.inr<|Oa.own rfl rfl,.inl rfl,.inl rfl,trivial⟩) (ju 119 5 (gw 120 (lG Ft [0,5,2,3,6] (I _ _ · b S a c))))) (gw 120 (lG Ft [0,1,2,3,4] (I _ _ · b S a c)))))))) (lG Ft [0,1,2,3,4] (I _ _ · b a))
variable{pos cells:Ξ}
def zIz{r:Ξ}(h:Xd n q pos cells level=Z r):EQ 134 [.agg 5<|L1<|AG q,.ints pos,.ints cells,.i level] [] (.ints r) [] T:=by
 refine ot Tryz.func134 λϙ N=>?_
 revert r;apply gO;exact cf KG [oC<|AG q] λ_=>bi 25 (gi<|gn λa=>lF λp=>ez Ft [8] [1] p [0]<|H0.g a) (cf sc [oC<|AG q] λ_=>lN Ft [0,1] ((zI2 ϙ N q pos cells level n) _ _ · n χ))
def zCi(n:U)(q:AA)(pos cells:Ξ)(level:E):W7:=(Gb n q pos).bind λf=>L (f != 0) (Z (([]:Ξ),f))<|(iq n cells q).bind λG=>L G (Z (([]:Ξ),1))<|(Xd n q pos cells level).bind λy3=>Z (y3,0)
def jX(n:U)(q:AA)(pos cells:Ξ)(level:E):W7:=zCi n q pos cells level
def zSz{r:Ξ×E}(h:jX n q pos cells level=Z r):EQ 112 [.agg 5<|L1<|AG q,.ints pos,.ints cells,.i level] [] (.tup 2<|L1 [.ints r.1,.i r.2]) [] T:=by
 unfold jX zCi at h;refine ot Tryz.func112 λϙ N=>?_
 revert r;apply gO;exact cf ML [oC<|AG q] λf=>bi 14 (lF λp=>el AC [8,9] [] p [] H0 [.nils,.i f]<|AO.tupL (l:=[.nils,.i f]) (l':=[.ints ([]:Ξ),.i f]) rfl ⟨AO.ints_nil,At,trivial⟩)<|cn λy2 x=>jc (sb [.ints cells,.fn 133 1<|L1 [.ref 0 0]] (zRH x) [oC<|AG q] ⟨Ad.plain Z5,Ad.fnL (l:=[.ref 0 0]) (l0:=[.fp 5<|L1<|AG q]) ⟨Ad.refL (l:=AG q) (l0:=AG q) rfl ⟨Ad.plain Z5,Ad.plain Z5,Ad.plain Z5,Ad.plain Z5,Ad.plain Z5,trivial⟩,trivial⟩,trivial⟩)<|bi 18 (lF λp=>el AC [8,9] [] p [] H0 [.nils,.i 1]<|AO.tupL (l:=[.nils,.i 1]) (l':=[.ints ([]:Ξ),.i 1]) rfl ⟨AO.ints_nil,At,trivial⟩)<|cf zIz [oC<|AG q] λ_=>lE AC [8,9] []
def zCh(n:U)(q:AA)(pos:Ξ)(level:E):W7:=(jX n q pos ([]:Ξ) level).bind λf=>Z (f.1,f.2)
def aX(n:U)(q:AA)(pos:Ξ)(level:E):W7:=zCh n q pos level
def zSx{r:Ξ×E}(h:aX n q pos level=Z r):EQ 87 [.agg 5<|L1<|AG q,.ints pos,.i level] [] (.tup 2<|L1 [.ints r.1,.i r.2]) [] T:=by
 unfold aX zCh at h;refine ot Tryz.func87 λϙ N=>?_
 revert r;apply gO;exact cn λy1 P=>jc (fb (ES.argsLe (ds:=[.agg 5<|L1<|AG q,.ints pos,.nils,.i level]) (zSz P) ⟨At,At,AO.ints_nil,At,trivial⟩) [oC<|AG q])<|lE AC [6,7] []
def zBm(n:U)(r:E)(q:AA)(pos:Ξ):W5:=(PL n q r pos).bind λf=>L (f.2 != 0) (Z (D,pos))<|(QJ n f.1 pos).bind λG=>L G (Z (D,pos))<|Z (T,f.1)
def jB(n:U)(r:E)(q:AA)(pos:Ξ):W5:=zBm n r q pos
def zRr{a:E}{r:ζ×Ξ}(h:jB n a q pos=Z r):EQ 110 [.i a,.ref 0 0,.ref 1 0] [oC<|AG q,oC [.ints pos]] (.bool r.1) [oC<|AG q,oC [.ints r.2]] D:=by
 unfold jB zBm at h;refine ot Tryz.func110 λϙ N=>?_
 revert r;apply gO;exact cf mR [oC<|AG q,oC [.ints pos]] λ_=>bi 15 (lE AC [4] [0,1])<|cf qW [oC<|AG q,oC [.ints pos]] λ_=>bi 19 (lE AC [4] [0,1])<|jt<|lE AC [4] [0,1]
inductive fj where
 |l1 (x8:E) (DX:Ξ)
def fh(n:U)(self:fj->W8)(l:Ξ)(q:AA)(pos:Ξ)(x8:E)(J:Ξ):W8:=L (H<|x8<(F l:E)) (C (0<=x8/\x8<(F l:E)) ((jB n (M l x8.toNat 0) q J).bind λf=>L f.1 (Z (x8,f.2))<|C (AI<|x8+1) (self<|.l1 (x8+1) f.2) V) V)<|Z (-1,J)
def zMD(n:U)(self:fj->W8)(l:Ξ)(q:AA)(pos:Ξ):W8:=self<|.l1 0 pos
def Ns(l:Ξ)(q:AA)(pos:Ξ):U->fj->W8
 |0,_=>V
 |n+1,.l1 x8 J=>fh n (Ns l q pos n) l q pos x8 J
def Uk(n:U)(l:Ξ)(q:AA)(pos:Ξ):W8:=zMD n (Ns l q pos n) l q pos
def zME(n ϙ:U)(N:Yd 2)(l:Ξ)(q:AA)(pos:Ξ)(r:E×Ξ):fj->Prop:=px n ϙ η N (FQ Tryz.f111 2 (.i r.1) [oC<|AG q,oC [.ints r.2]]) (AZ Tryz.f111) λ
 | .l1 x8 J=>(0,0,AF 19 [(0,.ints l),(1,.fn 110 2<|L1 [.ref 0 0,.ref 1 0]),(7,.i (F l:E)),(8,.i x8)],[oC<|AG q,oC [.ints J]])
def zMF(ϙ:U)(N:Yd 2)(l:Ξ)(q:AA)(pos:Ξ):Al (Ns l q pos) (zME · ϙ N l q pos):=ia (λ_=>rfl) λn I G r h=>by
 cases G
 case l1 x8 DX=>
  intro b a;refine rd a λb a=>?_
  revert r;apply gO;exact bi 9 (gi (ce zRr [0,1] [oC<|AG q,oC [.ints DX]] λ_=>bi 16 (lE AC [4] [0,1]) (gw 18 (lG AC [0,1] (I _ _ · b a)))))<|lE AC [4] [0,1]
def zN{r:E×Ξ}(h:Uk n l q pos=Z r):EQ 111 [.ints l,.fn 110 2<|L1 [.ref 0 0,.ref 1 0]] [oC<|AG q,oC [.ints pos]] (.i r.1) [oC<|AG q,oC [.ints r.2]] D:=by
 refine ot Tryz.func111 λϙ N=>?_
 revert r;apply gO;exact lN AC [0,1] ((zMF ϙ N l q pos n) _ _ · n χ)
inductive US where
 |l1 (x8:Ξ)
 |l2 (x6:U) (x8 DB o1:Ξ)
def Xn(n:U)(self:US->W7)(q:AA)(pos:Ξ)(level:E)(x8:Ξ):W7:=(GO n pos).bind λf=>L (!f) ((Uk n x8 q pos).bind λG=>L (H<|G.1<0) (Z (([]:Ξ),0))<|C ((0<=G.1/\G.1<(F x8:E))/\((0=0/\1=F ([M x8 (G.1).toNat 0]:Ξ))/\0<F ([M x8 (G.1).toNat 0]:Ξ)/\F ([M x8 (G.1).toNat 0]:Ξ)<=Av)) (self<|.l2 (F ([M x8 (G.1).toNat 0]:Ξ)) x8 G.2 ([M x8 (G.1).toNat 0]:Ξ)) V)<|Z (([]:Ξ),0)
def Xm(n:U)(self:US->W7)(q:AA)(pos:Ξ)(level:E)(x6:U)(x8 h o1:Ξ):W7:=(GO n h).bind λf=>L (!f) ((Uk n x8 q h).bind λG=>L (H<|G.1<0) (C (x6=F o1) (Z (o1,0)) V)<|C ((0<=G.1/\G.1<(F x8:E))/\((0=0/\1=F ([M x8 (G.1).toNat 0]:Ξ))/\(0=0/\x6=F o1)/\F o1+F ([M x8 (G.1).toNat 0]:Ξ)<=Av)) (self<|.l2 (F o1+F ([M x8 (G.1).toNat 0]:Ξ)) x8 G.2<|o1++([M x8 (G.1).toNat 0]:Ξ)) V)<|C (x6=F o1) (Z (o1,0)) V
def zJj(n:U)(self:US->W7)(q:AA)(pos:Ξ)(level:E):W7:=(Gb n q pos).bind λf=>L (f != 0) (Z (([]:Ξ),f))<|(WJ n q level).bind λG=>self<|.l1 G
def JV(q:AA)(pos:Ξ)(level:E):U->US->W7
 |0,_=>V
 |n+1,.l1 x8=>Xn n (JV q pos level n) q pos level x8
 |n+1,.l2 x6 x8 h o1=>Xm n (JV q pos level n) q pos level x6 x8 h o1
def d5(n:U)(q:AA)(pos:Ξ)(level:E):W7:=zJj n (JV q pos level n) q pos level
def zJk(n ϙ:U)(N:Yd 0)(q:AA)(pos:Ξ)(level:E)(r:Ξ×E):US->Prop:=px n ϙ η N (FQ Tryz.f86 0 (.tup 2<|L1 [.ints r.1,.i r.2]) []) (AZ Tryz.f86) λ
 | .l1 x8=>(0,0,AF 37 [(4,.ref 0 0),(6,.nils),(8,.ints x8),(9,.fn 110 2<|L1 [.ref 1 0,.ref 0 0])],[oC [.ints pos],oC<|AG q])
 | .l2 x6 x8 h o1=>(0,0,AF 37 [(4,.ref 0 0),(6,.msl 1 1 0 x6),(8,.ints x8),(9,.fn 110 2<|L1 [.ref 2 0,.ref 0 0])],[oC [.ints h],oI o1,oC<|AG q])
def zJl(ϙ:U)(N:Yd 0)(q:AA)(pos:Ξ)(level:E):Al (JV q pos level) (zJk · ϙ N q pos level):=ia (λ_=>rfl) λn I G r h=>by
 cases G
 case l1 x8=>
  intro b a;refine rd a λb a=>?_
  revert r;apply gO;exact cf KG [oC [.ints pos],oC<|AG q] λ_=>bi 23 (ce zN [1,0] [oC [.ints pos],oC<|AG q] λ_=>bi 28 (lF λp=>el AC [6,7] [] p [] H0 [.nils,.i 0]<|AO.tupL (l:=[.nils,.i 0]) (l':=[.ints ([]:Ξ),.i 0]) rfl ⟨AO.ints_nil,At,trivial⟩) (gc (gi (gi (lG AC [0,3,1] (I _ _ · b a))))))<|lF λp=>el AC [6,7] [] p [] H0 [.nils,.i 0]<|AO.tupL (l:=[.nils,.i 0]) (l':=[.ints ([]:Ξ),.i 0]) rfl ⟨AO.ints_nil,At,trivial⟩
 case l2 x6 x8 DB o1=>
  intro b a;refine rd a λb a=>?_
  revert r;apply gO;exact cf KG [oC [.ints DB],oI o1,oC<|AG q] λ_=>bi 23 (ce zN [2,0] [oC [.ints DB],oI o1,oC<|AG q] λ_=>bi 28 (gn λx=>lF λp=>ez AC [6,7] [1] p [0]<|H0.g x) (gc (gi (gi (lG AC [0,4,2] (I _ _ · b a))))))<|gn λx=>lF λp=>ez AC [6,7] [1] p [0]<|H0.g x
def zJi{r:Ξ×E}(h:d5 n q pos level=Z r):EQ 86 [.agg 5<|L1<|AG q,.ints pos,.i level] [] (.tup 2<|L1 [.ints r.1,.i r.2]) [] T:=by
 refine ot Tryz.func86 λϙ N=>?_
 revert r;apply gO;exact cf ML [oC<|AG q,oC [.ints pos]] λf=>bi 15 (lF λp=>el AC [6,7] [] p [] H0 [.nils,.i f]<|AO.tupL (l:=[.nils,.i f]) (l':=[.ints ([]:Ξ),.i f]) rfl ⟨AO.ints_nil,At,trivial⟩) (cf sc [oC<|AG q,oC [.ints pos]] λ_=>lN AC [1,0] ((zJl ϙ N q pos level n) _ _ · n χ))
end
section
variable{q:AA}{level:E}{p:Ξ}
def HT(q:AA)(level:E)(k:U):Ξ:=((θ k).filter λi:U=>decide (Mc (con q (i:E)).kind<=level)).map λi:U=>(i:E)
def A5(q:AA)(level:E):Ξ:=HT q level<|F q.cons
variable{k:U}
theorem zDR :HT q level (k+1)=HT q level k++C (Mc (con q (k:E)).kind<=level) [(k:E)] []:=by
 grind[HT,List.range_succ]
theorem WG :F (HT q level k)<=k:=by
 grind[HT]
theorem Ma{i:E}:i∈A5 q level↔Up q level i:=by
 unfold A5 HT Up
 grind[con]
def Kn(acc:Ξ)(k:U):TU:=C (acc= []) (.l1 (k:E))<|.l2 (F acc) (k:E) acc
theorem ye(hv:CR q=T)(hk:k<F q.cons):Np q (k:E)=(Mc (con q (k:E)).kind,0):=by
 simp_all[Np,con]
theorem zDT(a:DT q)(o:CR q=T){n:U}(s:D0 q<=n)(hk:k<F q.cons):J1 q level (n+1) (Kn (HT q level k) k)=J1 q level n (Kn (HT q level<|k+1)<|k+1):=by
 have h4:=(Dy o).2.2.2.2.1;have R:H ((k:E)<(F q.cons:E))=T:=zAA Z2;have i:AI<|(k:E)+1:=Ae.2 ⟨Z2,Z2⟩;rw[zDR]
 by_cases P:HT q level k= []
 ·rw[P,zMX]
  show bD n (J1 q level n) q level (k:E)=_
  unfold bD;rw[R,zAI,nP a s,zAD,ye o hk]
  grind[Av,Kn]
 ·have Aj:=WG (q:=q) (level:=level) (k:=k);have e0:Kn (HT q level k) k=.l2 (F<|HT q level k) (k:E) (HT q level k):=by unfold Kn;rw[zAt P]
  rw[e0]
  show bC n (J1 q level n) q level (F<|HT q level k) (k:E) (HT q level k)=_
  unfold bC;rw[R,zAI,nP a s,zAD,ye o hk]
  by_cases m:Mc (con q (k:E)).kind<=level
  ·rw[zAA m,zAI,zAB m,zAB ⟨⟨⟨rfl,rfl⟩,⟨rfl,rfl⟩,by unfold Av;simp;omega⟩,i⟩]
   simp_all[Kn]
  simp_all[zAF,zAt,Kn]
theorem sZ(a:DT q)(o:CR q=T):Ev (λn=>WJ n q level)<|A5 q level:=by
 obtain⟨_,_,h⟩:=Me (m:=J1 q level) (S:=Unit) (λk _=>Kn (HT q level k) k) (λ_ _=>True) (F q.cons) (λk s hk _=>⟨(),trivial,AX.oneN (D0 q) λn b=>zDT a o b hk⟩) (F q.cons) 0 () Z2 trivial;refine h.ev<|Ev.one λn=>?_;have AY:H ((F q.cons:E)<(F q.cons:E))=D:=zAF Z2
 show J1 q level (n+1) (Kn (A5 q level)<|F q.cons)=Z (A5 q level)
 by_cases ha:A5 q level= []
 ·simp_all[bD,J1,Kn]
 simp_all[Kn,bC,J1]
end
structure QI(K:U)(ws:Ω)(Q:Ξ):Prop where
 len:F ws=4096
 nd:Q.Nodup
 rng:∀i∈Q,0<=i/\i<(K:E)
 iff:∀i:U,i<4096->(M ws i D=T↔(i:E)∈Q)
section
variable{K o n:U}{ws:Ω}{Q l qu:Ξ}{v:E}
def QI.le(h:QI K ws Q):F Q<=K:=UU K Q h.nd h.rng
theorem QI.push(h:QI K ws Q)(hK:K<=4096)(h0:0<=v)(h1:v<(K:E))(R:M ws v.toNat D=D):QI K (ws.set v.toNat T)<|Q++[v]:=by
 have hv:v∉Q:=λz=>by
  have e:((v.toNat:U):E)=v:=Z2
  have:=(h.iff v.toNat Z2).2 (by rw[e];exact z);rw[R]at this;cases this
 refine⟨by rw[zIG];exact h.len,zTz.2 ⟨h.nd,Z3,λa ha b hb=>Z4⟩,λi hi=>?_,λi hi=>?_⟩
 ·rcases zMc.1 hi with hi|hi
  ·exact h.rng i hi
  grind
 ·rw[zMc,zCr,←h.iff i hi,zAL,zO7,zAL];have hl:v.toNat<F ws:=by rw[h.len];omega
  grind
theorem QI.pop(h:QI K ws<|v::Q)(hK:K<=4096):QI K (ws.set v.toNat D) Q:=by
 obtain⟨hv,Y⟩:=zUH.1 h.nd;have hr:=h.rng v Z3;refine⟨by rw[zIG];exact h.len,Y,λi hi=>h.rng i (by simp[hi]),λi hi=>?_⟩;rw[zAL,zO7]
 by_cases e:v.toNat=i
 ·grind
 ·rw[zAt e,←zAL,h.iff i hi,zMk]
  grind
structure MQ(K:U)(ws:Ω)(o n:U)(qu Q:Ξ):Prop where
 sum:o+n=F qu
 eq:qu.drop o=Q
 qi:QI K ws Q
theorem MQ.cnt(h:MQ K ws o n qu Q):n=F Q:=by rw[←h.eq,List.length_drop];have:=h.sum;omega
theorem zS5(q:K<=4096)(r:∀v∈l,0<=v/\v<(K:E))(u:F l<=LB)(h:MQ K ws o n qu Q):
 ∃t o' c f Q',Ev (λm=>OV m l ws o n qu) (t,o',c,f)/\MQ K t o' c f Q'/\∀i,i∈Q'↔i∈Q∨i∈l:=by
 obtain⟨⟨t,o',c,f,Q'⟩,⟨w,h2⟩,x⟩:=Me (m:=Sz l ws o n qu) (S:=Ω×U×U×Ξ×Ξ) (λj s=>.l1 (j:E) s.1 s.2.1 s.2.2.1 s.2.2.2.1) (λj s=>MQ K s.1 s.2.1 s.2.2.1 s.2.2.2.1 s.2.2.2.2/\∀i,i∈s.2.2.2.2↔i∈Q∨i∈l.take j) (F l) (λj s hj Y=>by
  obtain⟨b,o1,g,k,p⟩:=s;obtain⟨a,Df⟩:=Y;have a:MQ K b o1 g k p:=a;have y:H ((j:E)<(F l:E))=T:=zAA Z2;have z:AI<|(j:E)+1:=Ae.2 ⟨Z2,by unfold LB at u;omega⟩;have G:((j+1:U):E)=(j:E)+1:=Z2
  have I:M l j 0∈l:=Z4
  obtain⟨J,N⟩:=r _ I;have zR:l.take (j+1)=l.take j++[M l j 0]:=by simp_all
  have P:(0<=(j:E)/\(j:E)<(F l:E))/\(0<=M l ((j:E)).toNat 0/\M l ((j:E)).toNat 0<((4096:U):E))/\0+(M l ((j:E)).toNat 0).toNat<F b:=by
   rw[u8,a.qi.len];omega
  cases R:M b (M l j 0).toNat D with
  |false=>
   have Bq:=a.qi.le;have hn:=a.cnt;refine⟨(b.set (M l j 0).toNat T,0,g+1,p++[M l j 0],p++[M l j 0]),⟨⟨Z7,rfl,a.qi.push q J N R⟩,λi=>?_⟩,AX.one λm=>?_⟩
   ·grind
   ·show aa m (Sz l ws o n qu m) l ws o n qu (j:E) b o1 g k=_
    unfold aa;rw[y,zAI,zAB P,u8,zCx,R,zMd,zAI,zAB ⟨a.sum,by unfold Av;simp;omega,z⟩,a.eq,G];rfl
  |true=>
   refine⟨(b,o1,g,k,p),⟨a,λi=>?_⟩,AX.one λm=>?_⟩
   ·have DC:M l j 0∈p:=by
     have e:(((M l j 0).toNat:U):E)=M l j 0:=Z2
     have:=(a.qi.iff (M l j 0).toNat Z2).1 R;rw[e]at this;exact this
    grind
   simp_all[aa,Sz]) (F l) 0 (ws,o,n,qu,Q) Z2 ⟨h,λi=>Z3⟩
 refine⟨t,o',c,f,Q',x.ev<|Ev.one λm=>?_,w,λi=>Z4⟩
 grind[aa,Sz]
def NM(j:U)(s:Ω×Ξ):Vv:=C (s.2= []) (.l1 (j:E))<|.l2 (j:E) s.1 (F s.2) s.2
theorem zCq(r:K<=4096)(u:∀v∈l,0<=v/\v<(K:E))(w:F l<=LB)(h:QI K ws []):
 ∃t Q',Ev (λm=>Vw m l ws) (t,0,F Q',Q',H<|Q'= [])/\QI K t Q'/\∀i,i∈Q'↔i∈l:=by
 obtain⟨⟨t,Q'⟩,⟨x,f,g⟩,y⟩:=Me (m:=Ls l ws) (S:=Ω×Ξ) (λj s=>NM j s) (λj s=>QI K s.1 s.2/\(∀i,i∈s.2↔i∈l.take j)/\(s.2= []->s.1=ws)) (F l) (λj s hj Y=>by
  obtain⟨b,p⟩:=s;obtain⟨c,Df,q⟩:=Y;have c:QI K b p:=c;have k:H ((j:E)<(F l:E))=T:=zAA Z2;have z:AI<|(j:E)+1:=Ae.2 ⟨Z2,by unfold LB at w;omega⟩;have G:M l j 0∈l:=Z4
  obtain⟨I,J⟩:=u _ G;have zR:l.take (j+1)=l.take j++[M l j 0]:=by simp_all
  have N:(0<=(j:E)/\(j:E)<(F l:E))/\(0<=M l ((j:E)).toNat 0/\M l ((j:E)).toNat 0<((4096:U):E))/\0+(M l ((j:E)).toNat 0).toNat<F b:=by
   rw[u8,c.len];omega
  have Bq:=c.le;cases R:M b (M l j 0).toNat D with
  |false=>
   refine⟨(b.set (M l j 0).toNat T,p++[M l j 0]),⟨c.push r I J R,λi=>?_,λe=>by simp at e⟩,AX.one λm=>?_⟩
   ·grind
   ·have P:NM (j+1) (b.set (M l j 0).toNat T,p++[M l j 0])=.l2 ((j:E)+1) (b.set (M l j 0).toNat T) (F p+1) (p++[M l j 0]):=by
     simp_all[NM]
    rw[P]
    by_cases n:p= []
    ·simp_all[NM,re,Ls,Av]
    ·have Q:NM j (b,p)=.l2 (j:E) b (F p) p:=by unfold NM;rw[zAt n]
     rw[Q]
     show aZ m (Ls l ws m) l ws (j:E) b (F p) p=_
     unfold aZ;rw[k,zAI,zAB N,u8,zCx,R,zMd,zAI,zAB ⟨Z2,by unfold Av;simp;omega,z⟩];rfl
  |true=>
   have o:M l j 0∈p:=by
    have e:(((M l j 0).toNat:U):E)=M l j 0:=Z2
    have:=(c.iff (M l j 0).toNat Z2).1 R;rw[e]at this;exact this
   have n:p≠[]:=λe=>by rw[e]at o;cases o
   refine⟨(b,p),⟨c,λi=>?_,q⟩,AX.one λm=>?_⟩
   ·grind
   simp_all[NM,aZ,Ls]) (F l) 0 (ws,[]) Z2 ⟨h,λi=>Z3,λ_=>rfl⟩
 have f:∀i,i∈Q'↔i∈l:=λi=>Z4
 have g:Q'= []->t=ws:=g;refine⟨t,Q',?_,x,f⟩;have e0:Ls l ws=Ls l ws:=rfl;have k:H ((F l:E)<(F l:E))=D:=zAF Z2;refine AX.ev (a:=NM 0 (ws,[])) y<|Ev.one λm=>?_
 grind[NM,re,Ls,aZ]
end
abbrev zOW:=@List.length_singleton
def JC(q:AA)(level:E)(p g:Ξ):Prop:=(BM p=T/\g=d (F p) 0)∨(BM p=D/\Ec q (Up q level) p g/\Ju q (Up q level) g)
structure OF(q:AA)(level:E)(f:E->Ξ)(ϒ:U):Prop where
 snd:∀c i,i∈f c->Up q level i
 len:∀c,F (f c)<=ϒ
section
variable{q:AA}{level:E}{p cells:Ξ}{f:E->Ξ}
variable{a:U}
theorem bA(ha:a<F (A5 q level)):Up q level<|M (A5 q level) a 0:=by
 grind[Ma,List.getElem_mem]
theorem zRR(o:CR q=T){i:E}(h:Up q level i):(∀x∈(con q i).ce,0<=x/\x<q.ce)/\F (con q i).ce<=256:=by
 have z:con q i∈q.cons:=by
  grind[con,Up]
 have g:=(Dy o).2.2.2.2.2 _ z;unfold FY at g;simp only[zAK]at g;obtain⟨a,c,_⟩:=qv.1 g.1.1.1.1.1;have h3:=(Dy o).1;refine⟨a,?_⟩;have:=UU q.ce.toNat _ c λx e=>by have:=a x e;omega
 omega
theorem zJs(o:CR q=T)(P:a<F (A5 q level)){ϒ:U}(hT:ϒ<=2000000)(z:OF q level f ϒ):
 ∃t,AX (Cz q p cells level) (.l2 (A5 q level) (M (A5 q level) a 0) (A5 q level) (F<|A5 q level:E) (a:E) (con q<|M (A5 q level) a 0).ce (F (con q<|M (A5 q level) a 0).ce:E) 0 f) (.l1 (A5 q level) (A5 q level) (F<|A5 q level:E) ((a+1:U):E) t)/\
  OF q level t (ϒ+256)/\(∀c i,i∈f c->i∈t c)/\∀c∈(con q<|M (A5 q level) a 0).ce,M (A5 q level) a 0∈t c:=by
 have e:=bA P;obtain⟨G,I⟩:=zRR o e;have YX:F (A5 q level)<=4096:=zAO WG (Dy o).2.2.2.2.1
 generalize M (A5 q level) a 0=i at e G I⊢
 generalize (con q i).ce=cs at G I⊢
 obtain⟨t,⟨k,l,n⟩,R⟩:=Me (m:=Cz q p cells level) (S:=E->Ξ) (λb f=>.l2 (A5 q level) i (A5 q level) (F<|A5 q level:E) (a:E) cs (F cs:E) (b:E) f) (λb g=>OF q level g (ϒ+b)/\(∀c i,i∈f c->i∈g c)/\∀c∈cs.take b,i∈g c) (F cs) (λb g hb Y=>by
  obtain⟨s,hs,hd⟩:=Y;have r:H ((b:E)<(F cs:E))=T:=zAA Z2;have u:AI<|(b:E)+1:=Ae.2 ⟨Z2,Z2⟩;have v:((b+1:U):E)=(b:E)+1:=Z2
  have zR:cs.take (b+1)=cs.take b++[M cs b 0]:=by simp_all
  refine⟨JF g (M cs b 0)<|g (M cs b 0)++[i],⟨⟨λc j hj=>?_,λc=>?_⟩,λc j hj=>?_,λc hc=>?_⟩,AX.one λm=>?_⟩
  ·unfold JF at hj;split at hj
   ·rcases zMc.1 hj with hj|hj
    ·exact s.snd _ _ hj
    grind
   ·exact s.snd _ _ hj
  ·unfold JF;split
   ·rw[zAi,zOW];have:=s.len<|M cs b 0;omega
   ·have:=s.len c;omega
  ·grind[JF]
  ·grind[JF]
  ·show dO m (Cz q p cells level m) q p cells level (A5 q level) i (A5 q level) (F<|A5 q level:E) (a:E) cs (F cs:E) (b:E) g=_
   unfold dO;rw[r,zAI,u8,zAB ⟨Z2,by have:=s.len<|M cs b 0;grind[Av],u⟩,v]) (F cs) 0 f Z2 ⟨z,λc i h=>h,λc hc=>by simp at hc⟩
 refine⟨t,R.trans<|AX.one λm=>?_,⟨k.snd,λc=>zAO (k.len c) Z2⟩,l,λc hc=>n c<|by simpa using hc⟩
 grind[Ae,dO,Cz]
theorem zJt(b:CR q=T):
 ∃t,AX (Cz q p cells level) (.l1 (A5 q level) (A5 q level) (F<|A5 q level:E) 0 λ_=>[]) (.l3 (A5 q level) 0 t<|d 4096 D)/\OF q level t 2000000/\∀i,Up q level i->∀c∈(con q i).ce,i∈t c:=by
 have YX:F (A5 q level)<=4096:=zAO WG (Dy b).2.2.2.2.1
 obtain⟨t,⟨j,h2⟩,k⟩:=Me (m:=Cz q p cells level) (S:=E->Ξ) (λa f=>.l1 (A5 q level) (A5 q level) (F<|A5 q level:E) (a:E) f) (λa g=>OF q level g (256*a)/\∀o,o<a->∀c∈(con q<|M (A5 q level) o 0).ce,M (A5 q level) o 0∈g c) (F<|A5 q level) (λa g P Y=>by
  obtain⟨s,hd⟩:=Y;obtain⟨J,y,K,e3,e4⟩:=zJs (p:=p) (cells:=cells) b P Z2 s;have hU:=bA P;have R:H ((a:E)<(F<|A5 q level:E))=T:=zAA Z2;refine⟨J,⟨⟨K.snd,λc=>zAO (K.len c) Z2⟩,λo I c hc=>?_⟩,AX.trans (AX.one λm=>?_) y⟩
  ·grind
  ·show Xc m (Cz q p cells level m) q p cells level (A5 q level) (A5 q level) (F<|A5 q level:E) (a:E) g=_
   unfold Xc
   grind[con,Up]) (F<|A5 q level) 0 (λ_=>[]) Z2 ⟨⟨λc i h=>(by cases h),λc=>zAf 0⟩,λo I=>τ I<|zAR _⟩
 refine⟨t,k.trans<|AX.one λm=>?_,⟨j.snd,λc=>zAO (j.len c) Z2⟩,λi hi c hc=>?_⟩
 ·have R:H ((F<|A5 q level:E)<(F<|A5 q level:E))=D:=zAF Z2
  show Xc m (Cz q p cells level m) q p cells level (A5 q level) (A5 q level) (F<|A5 q level:E) (F<|A5 q level:E) t=_
  unfold Xc;rw[R,zAJ]
 ·obtain⟨a,P,e⟩:=zJw<|Ma.2 hi;have e':M (A5 q level) a 0=i:=Z4
  grind
structure WQ(q:AA)(level:E)(ws:Ω)(o n:U)(qu Q:Ξ):Prop where
 mq:MQ (F q.cons) ws o n qu Q
 up:∀i∈Q,Up q level i
def Ol(q:AA)(level:E)(f:E->Ξ)(j:U)(s:Ω×A (U×U×Ξ)):K2:=match s.2 with
 |none=>.l3 (A5 q level) (j:E) f s.1
 |some (o,n,a)=>.l4 (A5 q level) (j:E) f s.1 o n a
def IC(q:AA)(level:E)(s:Ω×A (U×U×Ξ)):Prop:=match s.2 with
 |none=>QI (F q.cons) s.1 []
 |some (o,n,a)=>∃Q,WQ q level s.1 o n a Q
variable{l:Ξ}
def kC(h:∀i∈l,Up q level i):∀i∈l,0<=i/\i<(F q.cons:E):=λi hi=>⟨(h i hi).1,(h i hi).2.1⟩
theorem WQ.add(S:F q.cons<=4096){c:Ω}{o n:U}{e Q:Ξ}(h:WQ q level c o n e Q)(f:∀i∈l,Up q level i)(p:F l<=LB):
 ∃t o' a b Q',Ev (λm=>OV m l c o n e) (t,o',a,b)/\WQ q level t o' a b Q'/\∀i,i∈Q'↔i∈Q∨i∈l:=by
 obtain⟨t,o',a,b,Q',g,j,k⟩:=zS5 S (kC f) p h.mq;exact⟨t,o',a,b,Q',g,⟨j,λi hi=>((k i).1 hi).elim (h.up i)<|f i⟩,k⟩
theorem zRw(u:CR q=T)(w:F cells<=LB)(z:OF q level f 2000000):
 ∃Y,IC q level Y/\AX (Cz q p cells level) (.l3 (A5 q level) 0 f<|d 4096 D) (Ol q level f (F cells) Y):=by
 have e:=(Dy u).2.2.2.2.1
 obtain⟨Y,x,G⟩:=Me (m:=Cz q p cells level) (S:=Ω×A (U×U×Ξ)) (Ol q level f) (λ_ s=>IC q level s) (F cells) (λj s hj g=>by
  have hr:AI<|(j:E)+1:=Ae.2 ⟨Z2,by unfold LB at w;omega⟩;have R:F (f<|M cells j 0)<=LB:=zAO (z.len _) Z6;have v:∀i∈f (M cells j 0),Up q level i:=λi hi=>z.snd _ i hi
  obtain⟨a,st⟩:=s;cases st with
  |none=>
   obtain⟨t,Q',⟨N,y⟩,K,I⟩:=zCq e (kC v) R g
   by_cases J:Q'= []
   ·refine⟨(t,V),by rw[J]at K;exact K,AX.oneN N λm k=>?_⟩
    grind[Xb,Cz,Ol]
   ·refine⟨(t,Z (0,F Q',Q')),⟨Q',⟨⟨Z2,rfl,K⟩,λi hi=>v i<|(I i).1 hi⟩⟩,AX.oneN N λm k=>?_⟩
    grind[Xb,Cz,Ol]
  |some P=>
   obtain⟨o,n,b⟩:=P;obtain⟨Q,c⟩:=(g:∃Q,WQ q level a o n b Q);have c:WQ q level a o n b Q:=c;obtain⟨t,o',l,r,Q',⟨N,y⟩,K,_⟩:=c.add e v R;have y:∀m,N<=m->OV m (f<|M cells j 0) a o n b=Z (t,o',l,r):=y;refine⟨(t,Z (o',l,r)),⟨Q',K⟩,AX.oneN N λm k=>?_⟩
   grind[mL,Cz,Ol]) (F cells) 0 (d 4096 D,V) Z2 (by
  refine⟨zKR,zUL,λi hi=>(by cases hi),λi hi=>⟨λh=>?_,λh=>by cases h⟩⟩
  grind)
 exact⟨Y,x,G⟩
theorem zSG(h:CR q=T)(Y:F cells<=LB):
 ∃f,OF q level f 2000000/\(∀i,Up q level i->∀c∈(con q i).ce,i∈f c)/\((AX (Cz q p cells level) (.l1 (A5 q level) (A5 q level) (F<|A5 q level:E) 0 λ_=>[]) (.l5 f<|d 4096 D)∨
  (∃a,AX (Cz q p cells level) (.l1 (A5 q level) (A5 q level) (F<|A5 q level:E) 0 λ_=>[])<|.l5 f a))/\(∀i,¬Up q level i)∨
  ∃a o n b Q,WQ q level a o n b Q/\(∀i,Up q level i->i∈Q)/\AX (Cz q p cells level) (.l1 (A5 q level) (A5 q level) (F<|A5 q level:E) 0 λ_=>[]) (.l6 p f a o n b)):=by
 have S:=(Dy h).2.2.2.2.1;obtain⟨f,v,u,w⟩:=zJt (q:=q) (level:=level) (p:=p) (cells:=cells) h;obtain⟨⟨a,st⟩,k,e⟩:=zRw (p:=p) h Y u;have e:=v.trans e;have l:F (A5 q level)<=LB:=zAO WG<|zAO S Z6;refine⟨f,u,w,?_⟩;cases st with
 |none=>
  obtain⟨t,Q',⟨N,y⟩,K,g⟩:=zCq S (kC λi hi=>Ma.1 hi) l k
  by_cases x:Q'= []
  ·refine .inl ⟨.inr ⟨t,e.trans<|AX.oneN N λm z=>?_⟩,λi hi=>by have:=(g i).2<|Ma.2 hi;rw[x]at this;cases this⟩
   grind[Xb,Cz,Ol]
  ·refine .inr ⟨t,0,F Q',Q',Q',⟨⟨Z2,rfl,K⟩,λi hi=>Ma.1<|(g i).1 hi⟩,λi hi=>(g i).2<|Ma.2 hi,e.trans<|AX.oneN N λm z=>?_⟩
   grind[Xb,Cz,Ol]
 |some G=>
  obtain⟨o,n,b⟩:=G;obtain⟨Q,j⟩:=(k:∃Q,WQ q level a o n b Q);have j:WQ q level a o n b Q:=j;obtain⟨t,o',r,s,Q',⟨N,y⟩,K,g⟩:=j.add S (λi hi=>Ma.1 hi) l;have y:∀m,N<=m->OV m (A5 q level) a o n b=Z (t,o',r,s):=y;refine .inr ⟨t,o',r,s,Q',K,λi hi=>(g i).2<|.inr<|Ma.2 hi,e.trans<|AX.oneN N λm z=>?_⟩
  grind[mL,Cz,Ol]
end
section
variable{q:AA}{level:E}{pos p x cells:Ξ}{f:E->Ξ}
theorem zRt(G:CR q=T)(z:OF q level f 2000000)(hl:F x=F p)(hp:F p<=256){j:Ω}{o n:U}{k Q:Ξ}(h:WQ q level j o n k Q):
 ∃t o' b e Q',WQ q level t o' b e Q'/\(∀i∈Q,i∈Q')/\(∀c,c<F p->M x c 0≠M p c 0->∀i∈f (c:E),i∈Q')/\((∀c,c<F p->M x c 0=M p c 0)->Q'=Q)/\
  AX (Cz q pos cells level) (.l7 p x (F x:E) 0 f j o n k) (.l6 x f t o' b e):=by
 have I:=(Dy G).2.2.2.2.1
 obtain⟨⟨t,o',b,e,Q'⟩,⟨J,K,P,R⟩,X⟩:=Me (m:=Cz q pos cells level) (S:=Ω×U×U×Ξ×Ξ) (λc s=>.l7 p x (F x:E) (c:E) f s.1 s.2.1 s.2.2.1 s.2.2.2.1)
  (λc s=>WQ q level s.1 s.2.1 s.2.2.1 s.2.2.2.1 s.2.2.2.2/\(∀i∈Q,i∈s.2.2.2.2)/\(∀a,a<c->M x a 0≠M p a 0->∀i∈f (a:E),i∈s.2.2.2.2)/\((∀a,a<c->M x a 0=M p a 0)->s.2.2.2.2=Q)) (F p) (λc s hc Y=>by
  obtain⟨l,o1,r,u,W⟩:=s;obtain⟨v,w,hd,he⟩:=Y;have AY:H ((c:E)<(F x:E))=T:=zAA Z2;have hr:AI<|(c:E)+1:=Ae.2 ⟨Z2,Z2⟩;have ec:((c+1:U):E)=(c:E)+1:=Z2
  by_cases hx:M x c 0=M p c 0
  ·refine⟨(l,o1,r,u,W),⟨v,w,λa g Af=>?_,λh=>he λa g=>h a Z2⟩,AX.one λm=>?_⟩
   ·grind
   simp_all[dM,Cz]
  ·have LP:∀i∈f (c:E),Up q level i:=λi hi=>z.snd _ i hi
   obtain⟨t,o',b,e,Q',⟨N,y⟩,e2,e3⟩:=v.add I LP<|zAO (z.len _) Z6;have y:∀m,N<=m->OV m (f (c:E)) l o1 r u=Z (t,o',b,e):=y;refine⟨(t,o',b,e,Q'),⟨e2,λi hi=>(e3 i).2<|.inl<|w i hi,λa g Af i hi=>?_,λh=>τ (h c Z2) hx⟩,AX.oneN N λm hm=>?_⟩
   ·grind
   grind[dM,Cz]) (F p) 0 (j,o,n,k,Q) Z2 ⟨h,λi hi=>hi,λa g=>τ g<|zAR _,λ_=>rfl⟩
 refine⟨t,o',b,e,Q',J,K,P,R,X.trans<|AX.one λm=>?_⟩
 grind[dM,Cz]
structure rn(q:AA)(level:E)(p0 p:Ξ)(Q:Ξ):Prop where
 pos:BC q p
 down:Ec q (Up q level) p0 p
 zero:BM p=T->p=d (F p) 0
 fix:∀i,Up q level i->i∉Q->PR q (con q i) p p
theorem PR.other{i:E}(h:PR q (con q i) p x)(r:BM x=D)(ϛ:Bx q i p){j:U}(hj:∀k,k<F (con q i).ce->(M (con q i).ce k 0).toNat≠j):M x j 0=M p j 0:=by
 have a:GT q (con q i) p:=Classical.byContradiction λa=>by
  have h0:=ϛ.len256.1;have:=Fb.1 r 0 (by rw[h.len];exact h0);rw[h.dead a,V4]at this;exact this rfl
 by_cases u:j<F p
 ·refine L3 (h.live a j u).1 ((ϛ.sm j u).in64 (by have:=ϛ.work.k;omega)) λs _=>?_
  rw[zMq,(h.live a j u).2]
  grind[LC]
 ·rw[zAL,zAL,zOV (by rw[h.len];omega),zOV Z2]
theorem zK3{a b:Ξ}(hl:F a=F b)(h:∀c,c<F b->M a c 0=M b c 0):a=b:=by
 grind[List.ext_getElem]
theorem zOy(hU:∀i,Up q level i->∀c∈(con q i).ce,i∈f c){v:E}{g Q':Ξ}(o:Up q level v)(h:rn q level pos p<|v::g)(j:BM p=D)(a:PR q (con q v) p x)(hs:∀i∈g,i∈Q')(hc:∀c,c<F p->M x c 0≠M p c 0->∀i∈f (c:E),i∈Q'):rn q level pos x Q':=by
 have n:BC q x:=h.pos.pr o.1 o.2.1 a;have m:F x=F p:=a.len;refine⟨n,h.down.trans<|Ec.one o a,λr=>by rw[m];exact a.zero r,λi hi hn=>?_⟩
 by_cases J:x=p
 ·subst J
  by_cases e:i=v
  ·subst e;exact a
  ·refine h.fix i hi λz=>?_
   grind
 ·cases r:BM x with
  |true=>
   have:=a.zero r
   grind[wj]
  |false=>
   have b:=h.pos.ctx hi.1 hi.2.1
   have own:∀k,k<F (con q i).ce->M x (M (con q i).ce k 0).toNat 0=M p (M (con q i).ce k 0).toNat 0:=λk hk=>by
    have hW:=b.work.ce k hk
    grind
   have Af:i≠v:=by
    rintro rfl;refine J (zK3 m λc BI=>?_)
    by_cases l:∃k,k<F (con q i).ce/\(M (con q i).ce k 0).toNat=c
    ·grind
    ·exact a.other r b λk hk e=>l ⟨k,hk,e⟩
   have s:PR q (con q i) p p:=h.fix i hi λz=>by
    grind
   exact zKx b (n.ctx hi.1 hi.2.1) own j r s
theorem zKg(S:OF q level f 2000000)(W:∀i,Up q level i->∀c∈(con q i).ce,i∈f c):∀(ϗ:U) {p:Ξ} {e:Ω} {o n:U} {a Q:Ξ},wt p*(F q.cons+1)+n<=ϗ->WQ q level e o n a Q->rn q level pos p Q->
 ∃g,Ev (λm=>Cz q pos cells level m<|.l6 p f e o n a) g/\Ec q (Up q level) pos g/\Ju q (Up q level) g:=by
 intro ϗ
 induction ϗ with
 |zero=>
  intro p e o n a Q X b h;have s:n=0:=Z2
  subst s;have j:Q= []:=zOL b.mq.cnt.symm;subst j;exact⟨p,Ev.one λm=>rfl,h.down,λi hi=>h.fix i hi Z3⟩
 |succ ϗ Y=>
  intro p e o n a Q X b h;have z:=h.pos.valid;have hK:=(Dy z).2.2.2.2.1;have G:=h.pos.len256.2
  by_cases s:n=0
  ·subst s;have j:Q= []:=zOL b.mq.cnt.symm;subst j;exact⟨p,Ev.one λm=>rfl,h.down,λi hi=>h.fix i hi Z3⟩
  have G9:(n==0)=D:=by simpa using s
  have k:H ((n:E)>0)=T:=zAA Z2;have SL:∀m,300<=m->GO m p=Z (BM p):=λm I=>Mg (zAO G Z6) Z2
  cases l:BM p with
  |true=>
   have hz:=h.zero l;refine⟨p,Ev.oneN 300 λm I=>?_,h.down,?_⟩
   ·grind[dN,Cz]
   grind[qK,BM]
  |false=>
   cases j:Q with
   |nil=>exact τ (by rw[b.mq.cnt,j];rfl) s
   |cons v K=>
    subst j;have r:Up q level v:=b.up v Z3;obtain⟨x,⟨N,t⟩,u⟩:=mO<|h.pos.ctx r.1 r.2.1;have t:∀m,N<=m->PL m q v p=Z (x,0):=t;have hsum:=b.mq.sum;have hdr:=b.mq.eq;have LL:o<F a:=Z2
    have w:M a (o+0) 0=v:=by
     grind[List.drop_eq_getElem_cons]
    have P:WQ q level (e.set v.toNat D) (o+1) (n-1) a K:=by
     refine⟨⟨Z2,?_,b.mq.qi.pop hK⟩,λi hi=>b.up i<|by simp[hi]⟩
     grind[List.drop_eq_getElem_cons]
    obtain⟨C9,o',n',FC,Q',y,e2,e3,e4,e5⟩:=zRt (pos:=pos) (cells:=cells) z S u.len G P;have R:=zOy W r h l u e2 e3
    have step:AX (Cz q pos cells level) (.l6 p f e o n a)<|.l7 p x (F x:E) 0 f (e.set v.toNat D) (o+1) (n-1) a:=AX.oneN (max N 300) λm I=>by
     show dN m (Cz q pos cells level m) q pos cells level p f e o n a=_
     unfold dN;rw[G9,zAJ,k,zAI,SL m Z2,zAD,l,zMd,zAI,w,zAB ⟨Z2,Z2,Z2,⟨r.1,by have:=r.2.1;omega⟩,by rw[b.mq.qi.len];grind[Up]⟩,t m Z2,zAD,zCx];rfl
    have AY:wt x*(F q.cons+1)+n'<=ϗ:=by
     have Pz:=y.mq.qi.le;have Uy:=y.mq.cnt
     by_cases J:x=p
     ·have:Q'=K:=e4 λc _=>by rw[J]
      rw[J];have h2:=P.mq.cnt
      grind
     ·have hw:=V8 R.pos h.pos u.le J;have h3:(wt x+1)*(F q.cons+1)<=wt p*(F q.cons+1):=zN8 _ hw
      grind
    obtain⟨g,g1,g2,g3⟩:=Y AY y R;exact⟨g,(step.trans e5).ev g1,g2,g3⟩
theorem zIy(b:BC q pos)(Y:F cells<=LB):∃g,Ev (λn=>Xd n q pos cells level) g/\JC q level pos g:=by
 have e:=b.len256;have SL:∀m,300<=m->GO m pos=Z (BM pos):=λm hm=>Mg (zAO e.2 Z6) Z2
 cases r:BM pos with
 |true=>
  refine⟨d (F pos) 0,⟨300,λn s=>?_⟩,.inl ⟨r,rfl⟩⟩
  grind[mM,Xd]
 |false=>
  have Ϙ:∃g,Ev (λn=>Cz q pos cells level n<|.l1 (A5 q level) (A5 q level) (F<|A5 q level:E) 0 λ_=>[]) g/\Ec q (Up q level) pos g/\Ju q (Up q level) g:=by
   obtain⟨f,j,u,k⟩:=zSG (q:=q) (level:=level) (p:=pos) (cells:=cells) b.valid Y;rcases k with⟨a,c⟩|⟨l,o,n,qu,Q,a,c,v⟩
   ·refine⟨pos,?_,.refl pos,λi hi=>τ hi<|c i⟩;rcases a with a|⟨l,a⟩
    ·exact a.ev<|Ev.one λm=>rfl
    ·exact a.ev<|Ev.one λm=>rfl
   ·obtain⟨g,y,K,w⟩:=zKg (pos:=pos) (cells:=cells) j u _ (zAf _) a (p:=pos) ⟨b,.refl pos,λh=>(by rw[r]at h;cases h),λi hi s=>τ (c i hi) s⟩;exact⟨g,v.ev y,K,w⟩
  obtain⟨g,⟨N,a⟩,c⟩:=Ϙ;have a:∀n,N<=n->Cz q pos cells level n (.l1 (A5 q level) (A5 q level) (F<|A5 q level:E) 0 λ_=>[])=Z g:=a;obtain⟨J,t⟩:=sZ (level:=level) b.fit b.valid;have t:∀n,J<=n->WJ n q level=Z (A5 q level):=t;refine⟨g,⟨max (max N J) 300,λn s=>?_⟩,.inr ⟨r,c⟩⟩
  grind[mM,Xd]
end
theorem qX{a b:Ξ}{n:U}(hl:F a<=LB)(s:F a<n):QJ n a b=Z (H<|a=b):=by
 have hb:LB<=9223372036854775806:=Z6
 unfold QJ zA4
 by_cases p:F a=F b
 ·have key:∀(k i n:U),i+k=F a->k+1<=n->VP a b n (.l1 (i:E))=Z (H<|a.drop i=b.drop i):=by
   intro k
   induction k with
   |zero=>
    intro i n e s;obtain⟨n,rfl⟩:∃k,n=k+1:=⟨n-1,Z2⟩
    simp_all[iL,VP]
   |succ k c=>
    intro i n e s;obtain⟨n,rfl⟩:∃k,n=k+1:=⟨n-1,Z2⟩;have hi:i<F a:=Z2
    have Q:i<F b:=Z2
    have Ϛ:∀{l:Ξ},i<F l->l.drop i=M l i 0::l.drop (i+1):=λ{l} h=>by
     simp_all
    have:=c (i+1) n Z2 Z2
    show iL n (VP a b n) a b (i:E)=_
    unfold iL;rw[zAA Z2,zAI,zAB ⟨⟨Z2,Z2⟩,Z2,Z2⟩,u8,zAB<|Ae.2 ⟨Z2,Z2⟩,Ϛ hi,Ϛ Q]
    by_cases h:M a i 0=M b i 0
    ·have:(M a i 0 != M b i 0)=D:=by rw[h];simp
     rw[this,zAJ];refine Eq.trans (by assumption) ?_;rw[h];simp
    ·have:(M a i 0 != M b i 0)=T:=by simpa using h
     rw[this,zAI,zAF λe=>h (List.cons.inj e).1]
  grind
 ·have e:((F a:E) != (F b:E))=T:=Z7
  rw[e,zAI,zAF λh=>p<|by rw[h]]
def dz(q:AA)(cells:Ξ):ζ:=cells.any λc=>decide (c<0)||H (c>=q.ce)
section
variable{q:AA}{level:E}{pos p x cells:Ξ}
theorem xU{n:U}{c:E}:dq n c q=Z (H (c<0)||H (c>=q.ce)):=by
 grind[dq,xT]
variable{l:Ξ}
def zQN{f:E->ζ}{j:U}(g:j<F l):(l.drop j).any f=(f (M l j 0)||(l.drop<|j+1).any f):=by
 rw[zBz g,List.any_cons,zAL,zBx g];rfl
theorem xV(m:F cells<=LB):∀(k j:U),j+k=F cells->∃r:E,Ev (λn=>Nr cells q n<|.l1 (j:E)) r/\H (r>=0)=(cells.drop j).any λc=>decide (c<0)||H (c>=q.ce)
 |0,j,e=>⟨-1,Ev.one λn=>by
  simp_all[Uj,Nr],Z4⟩
 |k+1,j,e=>by
  have g:j<F cells:=Z2
  have R:H ((j:E)<(F cells:E))=T:=zAA Z2;have i:AI<|(j:E)+1:=Ae.2 ⟨Z2,by unfold LB at m;omega⟩;rw[zQN g];cases x:H (M cells j 0<0)||H (M cells j 0>=q.ce)with
  |true=>
   refine⟨(j:E),Ev.one λn=>?_,Z4⟩
   show Uj n (Nr cells q n) cells q (j:E)=_
   unfold Uj;rw[R,zAI,zAB ⟨Z2,Z2⟩,u8,xU,zAD,x,zAI]
  |false=>
   obtain⟨r,a,b⟩:=xV m k (j+1) Z2;refine⟨r,AX.ev (AX.one λn=>?_) a,by rw[zPE];exact b⟩
   show Uj n (Nr cells q n) cells q (j:E)=_
   unfold Uj;rw[R,zAI,zAB ⟨Z2,Z2⟩,u8,xU,zAD,x,zAJ,zAB i,show((j+1:U):E)=(j:E)+1 by omega]
def zRG(m:F cells<=LB):Ev (λn=>iq n cells q)<|dz q cells:=by
 obtain⟨r,⟨N,a⟩,c⟩:=xV (q:=q) m (F cells) 0 Z2;have a:∀n,N<=n->Nr cells q n (.l1 0)=Z r:=a;refine⟨N,λn s=>?_⟩
 show(Nr cells q n<|.l1 0).bind (λf=>Z<|H<|f>=0)=_
 rw[a n s,zAD,c];rfl
def mU(k:DT q)(m:F pos<=LB):Ev (λn=>Gb n q pos)<|EI q pos:=⟨D0 q+F pos+1,λn hn=>dX k Z2 m Z2⟩
theorem BC.of(k:DT q)(h:EI q pos=0):BC q pos:=by
 unfold EI at h
 by_cases o:CR q=T
 ·rw[zAB o]at h
  by_cases a:posOk q pos=T
  ·exact⟨k,o,a⟩
  grind
 grind
def BC.check(h:BC q pos):EI q pos=0:=by
 unfold EI;rw[zAB h.valid,zAB h.ok]
def AgP(q:AA)(pos cells:Ξ)(level:E)(r:Ξ×E):Prop:=(EI q pos≠0/\r=([],EI q pos))∨(EI q pos=0/\dz q cells=T/\r=([],1))∨(EI q pos=0/\dz q cells=D/\r.2=0/\JC q level pos r.1)
theorem zSy(k:DT q)(m:F pos<=LB)(hc:F cells<=LB):∃r,Ev (λn=>jX n q pos cells level) r/\AgP q pos cells level r:=by
 have a:=mU k m
 by_cases h0:EI q pos=0
 ·have h:=BC.of k h0;have c:=zRG (q:=q) hc;cases x:dz q cells with
  |true=>
   rw[x]at c;refine⟨([],1),?_,.inr<|.inl ⟨h0,x,rfl⟩⟩;rw[h0]at a;exact Ev.bind a<|Ev.bind c<|Ev.now λn=>rfl
  |false=>
   rw[x]at c;rw[h0]at a;obtain⟨g,p,u⟩:=zIy (level:=level) (cells:=cells) h hc;exact⟨(g,0),Ev.bind a<|Ev.bind c<|Ev.bind p<|Ev.now λn=>rfl,.inr<|.inr ⟨h0,x,rfl,u⟩⟩
 ·refine⟨([],EI q pos),Ev.bind a<|Ev.now λn=>?_,.inl ⟨h0,rfl⟩⟩
  grind
def zSr(k:DT q)(m:F pos<=LB):∃r,Ev (λn=>aX n q pos level) r/\AgP q pos [] level r:=by
 obtain⟨r,a,c⟩:=zSy (level:=level) (cells:=[]) k m Z6;exact⟨r,Ev.bind a<|Ev.now λn=>rfl,c⟩
inductive HM(q:AA)(level:E):Ξ->Ξ->Ξ->Prop
 |done {p:Ξ}:Ju q (Up q level) p->HM q level p [] p
 |step {p x l g:Ξ} {i:E}:Up q level i->PR q (con q i) p x->x≠p->(∀i',Up q level i'->i'<i->PR q (con q i') p p)->HM q level x l g->HM q level p (i::l) g
variable{g:Ξ}
theorem HM.uniq{l' J:Ξ}(h:HM q level p l g):HM q level p l' J->l=l'/\g=J:=by
 induction h generalizing l' J with
 |done a=>
  intro h';cases h' with
  |done _=>exact⟨rfl,rfl⟩
  |step hi b j _ _=>exact τ ((a _ hi).uniq _ _ b) λe=>j e.symm
 |@step p x l g i hi b j hmin _ ih=>
  intro h';cases h' with
  |done a=>exact τ (PR.uniq _ _ (a _ hi) b) λe=>j e.symm
  |@step _ x' l2 _ i' CF Iu hne' hmin' h2=>
   grind[PR.uniq]
def HM.down(h:HM q level p l g):Ec q (Up q level) p g/\Ju q (Up q level) g:=by
 induction h with
 |done a=>exact⟨.refl _,a⟩
 |step hi e _ _ _ n=>exact⟨.step hi e n.1,n.2⟩
end
section
variable{q:AA}{level i:E}{pos p x:Ξ}
theorem zDP:(A5 q level).Pairwise (· < ·):=by
 grind[A5,HT,List.pairwise_lt_range]
theorem zDQ{b:U}(hb:b<F (A5 q level))(hi:Up q level i)(AY:i<M (A5 q level) b 0):∃a,a<b/\M (A5 q level) a 0=i:=by
 obtain⟨a,ha,e⟩:=zJw<|Ma.2 hi
 grind[Nat.lt_or_eq_of_le,List.pairwise_iff_getElem,zDP]
theorem zRs(ϛ:Bx q i p):∃x,Ev (λn=>jB n i q p) (H<|x≠p,x)/\PR q (con q i) p x:=by
 obtain⟨x,e,c⟩:=mO ϛ;refine⟨x,Ev.bind e ?_,c⟩;have m:F x<=LB:=by rw[c.len];exact zAO ϛ.len256.2 Z6
 refine Ev.eq (Ev.bind (a:=λn=>QJ n x p) (x:=H<|x=p) ⟨F x+1,λn hn=>qX m Z2⟩ (b:=λn G=>L G (Z (D,p))<|Z (T,x))<|Ev.now λn=>?_) λn=>rfl
 grind
theorem zG(c:BC q p):∀(k a:U),a+k=F (A5 q level)->(∀o,o<a->PR q (con q<|M (A5 q level) o 0) p p)->
 (Ev (λn=>Ns (A5 q level) q p n<|.l1 (a:E) p) (-1,p)/\Ju q (Up q level) p)∨
 ∃b x,Ev (λn=>Ns (A5 q level) q p n<|.l1 (a:E) p) ((b:U),x)/\b<F (A5 q level)/\PR q (con q<|M (A5 q level) b 0) p x/\x≠p/\∀o,o<b->PR q (con q<|M (A5 q level) o 0) p p
 |0,a,e,h=>by
  refine .inl ⟨Ev.one λn=>?_,λi hi=>?_⟩
  ·simp_all[fh,Ns]
  ·obtain⟨o,P,e1⟩:=zJw<|Ma.2 hi
   grind
 |k+1,a,e,h=>by
  have P:a<F (A5 q level):=Z2
  have g:=bA P;have YX:F (A5 q level)<=4096:=zAO WG (Dy c.valid).2.2.2.2.1;have hr:AI<|(a:E)+1:=Ae.2 ⟨Z2,Z2⟩;obtain⟨x,⟨N,h1⟩,j⟩:=zRs (c.ctx g.1 g.2.1)
  by_cases l:x=p
  ·have st:AX (Ns (A5 q level) q p) (.l1 (a:E) p)<|.l1 ((a+1:U):E) p:=AX.oneN N λn s=>by
    grind[fh,Ns]
   rcases zG c k (a+1) Z2 (λo SR=>by
    grind)with⟨f,u⟩|⟨b,y,f,u⟩
   ·exact .inl ⟨st.ev f,u⟩
   ·exact .inr ⟨b,y,st.ev f,u⟩
  ·refine .inr ⟨a,x,Ev.oneN N λn s=>?_,P,j,l,h⟩
   grind[fh,Ns]
theorem zLq(h:BC q p):(Ev (λn=>Uk n (A5 q level) q p) (-1,p)/\Ju q (Up q level) p)∨
 ∃b x,Ev (λn=>Uk n (A5 q level) q p) ((b:U),x)/\b<F (A5 q level)/\Up q level (M (A5 q level) b 0)/\PR q (con q<|M (A5 q level) b 0) p x/\x≠p/\∀R,Up q level R->R<M (A5 q level) b 0->PR q (con q R) p p:=by
 rcases zG (level:=level) h (F<|A5 q level) 0 Z2 (λa' I=>τ I<|zAR _)with⟨a,u⟩|⟨b,x,a,u,i,K,g5⟩
 ·exact .inl ⟨a,u⟩
 ·refine .inr ⟨b,x,a,u,bA u,i,K,λR CF AY=>?_⟩
  grind[zDQ]
theorem sB(h:BC q p):wt p<=16384:=by
 have:=h.len256.2
 grind[wt,List.length_range]
def NN(q:AA)(level:E)(p acc:Ξ):US:=C (acc= []) (.l1<|A5 q level)<|.l2 (F acc) (A5 q level) p acc
variable{acc:Ξ}
def ba(h:acc≠[]):NN q level p acc=.l2 (F acc) (A5 q level) p acc:=by unfold NN;rw[zAt h]
theorem xZ{ϗ:U}{p:Ξ}(v:∀{p' acc':Ξ},wt p'<ϗ->BC q p'->(BM p'=T->p'=d (F p') 0)->F acc'+wt p'<=20000->(acc'= []->p'=pos)->∃l g,Ev (λn=>JV q pos level n<|NN q level p' acc') (acc'++l,0)/\HM q level p' l g)
 (hM:wt p<=ϗ) (h:BC q p) (GC:BM pos=D) (hz:BM p=T->p=d (F p) 0) (hb:F acc+wt p<=20000) (P:acc= []->p=pos):
 ∃l g,Ev (λn=>JV q pos level n<|NN q level p acc) (acc++l,0)/\HM q level p l g:=by
 have y:=h.len256;have f:∀m,300<=m->GO m p=Z (BM p):=λm hm=>Mg (zAO y.2 Z6) Z2
 cases r:BM p with
 |true=>
  have j:acc≠[]:=λe=>Z4
  refine⟨[],p,?_,.done<|by grind[qK]⟩;rw[ba j,zMz];refine Ev.oneN 300 λn s=>?_
  grind[Xm,JV]
 |false=>
  rcases zLq (level:=level) h with⟨⟨N,a⟩,u⟩|⟨b,x,⟨N,a⟩,u,i,K,t,z⟩
  ·refine⟨[],p,?_,.done u⟩
   by_cases j:acc= []
   ·have e:=P j;subst e;refine Ev.oneN (max N 300) λn s=>?_
    have e0:NN q level p acc=.l1 (A5 q level):=by unfold NN;rw[zAB j]
    grind[Xn,JV]
   ·rw[ba j];refine Ev.oneN (max N 300) λn s=>?_
    grind[Xm,JV]
  ·have a:∀n,N<=n->Uk n (A5 q level) q p=Z ((b:E),x):=a;have k:=h.pr i.1 i.2.1 K;have hw:=V8 k h K.le t;have w:F x=F p:=K.len;have c:H ((b:E)<0)=D:=zAF Z2;obtain⟨l,g,o,G⟩:=v (p':=x) (acc':=acc++[M (A5 q level) b 0]) Z2 k (λI=>by rw[w];exact K.zero I) Z4 (λe=>by simp at e);rw[ba Z3,zOi,List.singleton_append]at o;refine⟨M (A5 q level) b 0::l,g,AX.ev (AX.oneN (max N 300) λn s=>?_) o,.step i K t z G⟩
   by_cases j:acc= []
   ·have e:=P j;subst e;have e0:NN q level p acc=.l1 (A5 q level):=by unfold NN;rw[zAB j]
    rw[e0,j]
    show Xn n (JV q p level n) q p level (A5 q level)=_
    unfold Xn;rw[f n Z2,zAD,r,zMd,zAI,a n Z2,zAD]
    simp_all[H,Av]
   ·rw[ba j]
    show Xm n (JV q pos level n) q pos level (F acc) (A5 q level) p acc=_
    unfold Xm;rw[f n Z2,zAD,r,zMd,zAI,a n Z2,zAD];rw[c,zAJ,zAB ⟨⟨Z2,Z2⟩,⟨rfl,rfl⟩,⟨rfl,rfl⟩,by grind[Av]⟩,u8,zAi]
def zJg:∀(ϗ:U) {p acc:Ξ},wt p<=ϗ->BC q p->BM pos=D->(BM p=T->p=d (F p) 0)->F acc+wt p<=20000->(acc= []->p=pos)->
 ∃l g,Ev (λn=>JV q pos level n<|NN q level p acc) (acc++l,0)/\HM q level p l g:=by
 intro ϗ
 induction ϗ with
 |zero=>exact λ{p acc} a b R f c P=>xZ (λ{p' acc'} h=>τ h Z2) a b R f c P
 |succ ϗ e=>exact λ{p acc} a b R f c P=>xZ (λ{p' acc'} h i j X I=>e Z2 i R j X I) a b R f c P
def S9(q:AA)(pos:Ξ)(level:E)(r:Ξ×E):Prop:=(EI q pos≠0/\r=([],EI q pos))∨(EI q pos=0/\BM pos=T/\r=([],0))∨(EI q pos=0/\BM pos=D/\r.2=0/\F r.1<=20000/\∃g,HM q level pos r.1 g)
def HM.len(a:BC q p){l g:Ξ}(h:HM q level p l g):F l+wt g<=wt p:=by
 induction h with
 |done _=>simp
 |step hi e j _ _ b=>
  have n:=a.pr hi.1 hi.2.1 e;have h1:=b n;have h2:=V8 n a e.le j;rw[zDM];omega
theorem zJh(k:DT q)(e:F pos<=LB):∃r,Ev (λn=>d5 n q pos level) r/\S9 q pos level r:=by
 have b:=mU k e
 by_cases h0:EI q pos=0
 ·have a:=BC.of k h0;rw[h0]at b;have t:=sZ (level:=level) a.fit a.valid;cases c:BM pos with
  |true=>
   refine⟨([],0),Ev.bind b<|Ev.bind t ?_,.inr<|.inl ⟨h0,c,rfl⟩⟩;have f:=a.len256;have SL:∀m,300<=m->GO m pos=Z (BM pos):=λm hm=>Mg (zAO f.2 Z6) Z2
   refine Ev.oneN 300 λn hn=>?_
   grind[Xn,JV]
  |false=>
   obtain⟨l,g,p,u⟩:=zJg (q:=q) (level:=level) (pos:=pos) (wt pos) (acc:=[]) (zAf _) a c (λh=>by rw[c]at h;cases h) (by have:=sB a;simp;omega) λ_=>rfl;exact⟨(l,0),Ev.bind b<|Ev.bind t p,.inr<|.inr ⟨h0,c,rfl,by have:=u.len a;grind[sB],g,u⟩⟩
 ·refine⟨([],EI q pos),Ev.bind b<|Ev.now λn=>?_,.inl ⟨h0,rfl⟩⟩
  grind
end
section
set_option maxRecDepth 100000
set_option maxHeartbeats 40000000
def zSt(n:U)(s_:E):A Unit:=Z ()
def zSu(n:U)(h:E):A Unit:=zSt n h
variable{n:U}
def zSs(a:E){r:Unit}(h:zSu n a=Z r):EQ 100 [.int .u64 a] [] (.fn 128 1<|L1 [.ref 0 0]) [oC [.int .u64 a]] T:=by
 refine ot Tryz.func100 λϙ N=>?_
 revert r;apply gO;exact lE AC [2] [0]
inductive Vt where
 |l1 (x3:E)
def QW(n:U)(self:Vt->A Ξ)(h:E)(X:E):A Ξ:=C (0<=X/\X<=(IntKind.u64.bits:E)) (L ((h/2^(X).toNat) != 0) (L (H<|X<64) (L (bits .and .u64 (h/2^(X).toNat) 1==1) (C (0<=X/\X<=(IntKind.u64.bits:E)) (L (bits .and .u64 (h/2^(X).toNat) 1==1) (Option.map (λl=>X::l)<|C (AI<|X+1) (self<|.l1<|X+1) V)<|C (AI<|X+1) (self<|.l1<|X+1) V) V)<|C (AI<|X+1) (self<|.l1<|X+1) V)<|Z [])<|Z []) V
def zCc(n:U)(self:Vt->A Ξ)(s_:E):A Ξ:=self<|.l1 0
def Kd(h:E):U->Vt->A Ξ
 |0,_=>V
 |n+1,.l1 X=>QW n (Kd h n) h X
def OU(n:U)(h:E):A Ξ:=zCc n (Kd h n) h
def rZ(ϛ:Bw B)(n:U)(h:E)(r:Ξ):Vt->Prop
 | .l1 X=>∀q:U,n<=q->∀i:U,i<=F ϛ.encs->ϛ.encs.drop i=r.map Bn->A6 B GG η V 1 (ϛ.Y GG 1 i) (ϛ.Q GG 1) (EH q<|Fo (AZ Tryz.f128) 0 []) ⟨AF 25 [(0,.yl ϛ.l),(1,.ref 0 0),(3,.i X)],[oC [.int .u64 h]]⟩
def zSv(ϛ:Bw B)(n:U)(self:Vt->A Ξ)(f:E)(I:∀G r,self G=Z r->rZ ϛ n f r G)(X:E)(r:Ξ)(h:QW n self f X=Z r):rZ ϛ (n+1) f r<|.l1 X:=by
 intro q j;intro i hi a;refine rd j λq j=>?_
 unfold QW at h;obtain⟨m,h⟩:=B6 h;have p:=H0.g m;rcases Bv h with⟨c,h⟩|⟨c,h⟩
 ·have p:=p.b 7 c;rcases Bv h with⟨k,h⟩|⟨k,h⟩
  ·have p:=p.b 10 k|>.g m
   rcases Bv h with⟨s,h⟩|⟨s,h⟩
   ·have p:=H0.g m|>.b 7 c|>.b 10 k
    refine gs (AQ 3 AC) [0] p (CY (AZ Tryz.f128) 3 [q]) (AF 25 [(0,.yl ϛ.l),(1,.ref 0 0),(3,.i X)]) [oC [.int .u64 f]] ?_;obtain⟨o,h⟩:=B6 h;have p:=H0.g o;rcases Bv h with⟨c,h⟩|⟨c,h⟩
    ·have p:=p.b 18 c;obtain⟨r,t,rfl⟩:=K9 h;clear h;have h:=t;clear t;obtain⟨v,hi,a⟩:=Zl a;refine A6.y (ops:=Am Tryz.f128 3) HC.x 8 [0,1,3,24] [0] p (x:=Bn X) (AF 25 [(0,.yl ϛ.l),(1,.ref 0 0),(3,.i X),(24,.bool D)]) [oC [.int .u64 f]] (AF 25 [(0,.yl ϛ.l),(1,.ref 0 0),(3,.i X),(24,.bool T)]) [oC [.int .u64 f]] Z5 Z5 Z5 v Z5 ?_ ?_
     ·generalize i+1=i at hi a⊢
      obtain⟨u,h⟩:=B6 h;have p:=H0.w 13 u;exact gg AC [0] p<|I _ _ h q j i hi a
     ·exact TrI.e HC.x AC 6 H0 Z5<|.inr rfl
    ·obtain⟨u,h⟩:=B6 h;have p:=p.b 18 c|>.w 13 u
     exact gg AC [0] p<|I _ _ h q j i hi a
   ·obtain⟨o,h⟩:=B6 h;have p:=p.b 18 s|>.w 13 o
    exact gg AC [0] p<|I _ _ h q j i hi a
  ·have p:=p.b 10 k;cases h;exact TrI.e HC.x AC 10 p Z5 (.inl<|by rw[Sd hi a])
 ·have p:=p.b 7 c;cases h;exact TrI.e HC.x AC 10 p Z5 (.inl<|by rw[Sd hi a])
def zCd(ϛ:Bw B)(a:E):∀(n:U) (G:Vt) (r:Ξ),Kd a n G=Z r->rZ ϛ n a r G
 |0,_,_,h=>by cases h
 |n+1,.l1 X,r,h=>zSv ϛ n (Kd a n) a (zCd ϛ a n) X r h
variable{r:Ξ}
def zSw(a:E)(h:OU n a=Z r)(ϛ:Bw B)(g:ϛ.encs=r.map Bn):A6 B GG η V 1 (ϛ.Y GG 1 0) (ϛ.Q GG 1) [.code<|AZ Tryz.f128] ⟨AF 25 [(0,.yl ϛ.l),(1,.ref 0 0)],[oC [.int .u64 a]]⟩:=by
 suffices Ϙ:∀i:U,i<=F ϛ.encs->ϛ.encs.drop i=r.map Bn->A6 B GG η V 1 (ϛ.Y GG 1 i) (ϛ.Q GG 1) [.code<|AZ Tryz.f128] ⟨AF 25 [(0,.yl ϛ.l),(1,.ref 0 0)],[oC [.int .u64 a]]⟩from Ϙ 0 (zMK _) (by rw[zMy];exact g)
 intro i hi b;have I:=zCd ϛ a n;unfold OU at h
 generalize Kd a n=self at h I
 unfold zCc at h;have p:=H0;exact gg AC [0] p<|en n<|I _ _ h n χ i hi b
variable{a:E}
def rX(h:OU n a=Z r)(Ϙ:DH):EQ 100 [.int .u64 a] Ϙ (.it<|F Ϙ) (Ϙ++[Z<|.iter<|r.map Bn]) T:=by
 refine ES.iterN (c:=L1 [.ref 0 0]) (h0:=[oC [.int .u64 a]]) (fn:=Tryz.f128) (zSs (n:=0) a (r:=()) rfl) Z5 Tryz.func128 Z5 Z5 Z5 (λϛ g=>?_) Ϙ;have e:DV.yl ϛ.l::(θ 1).map (L1 [.ref 0 0])++d (Tryz.f128.ntmps-(1+1)) .any=AF 25 [(0,.yl ϛ.l),(1,.ref 0 0)]:=Z5
 rw[e];exact zSw a h ϛ g
inductive Ot where
 |s0 (MG:E)
def um:Ot->DH
 | .s0 o=>[oC [.i o],V]
def Wh(n:U)(e5:E)(o:E):A Ot:=C (AI<|o+1) (Z<|.s0<|o+1) V
def zFD(n:U)(x:E):Ot->A Ot
 | .s0 o=>Wh n x o
def bx(n:U)(x:E)(s:Ot):A Ot:=zFD n x s
def zFC(n:U)(l ϙ:U)(N:Yd 2)(x:E)(s:Ot)(r:Ot)(h:bx n x s=Z r):TA l ϙ N (C3 2 [] 0<|um r) Tryz.f64 5 ⟨AF 10 [(2,.ref 0 0),(5,.it 1),(6,.i x)],um s⟩:=by
 cases s with
 |s0 o=>
  replace h:Wh n x o=Z r:=h;unfold Wh at h;refine ag AC [0,1] H0 (AF 10 [(2,.ref 0 0)]) [oC [.i o],V] λN=>?_
  revert r;apply gO;exact gw 8<|jt<|lF λp=>rr AC [0,1] rfl p
def bv(n:U)(h:E):A E:=
 (OU n<|IntKind.u64.wrap h).bind λf=>
  (CC (bx n) f<|.s0 0).bind λG=>
   match G with
   | .s0 Fd=>
    Z Fd
def Q0(n:U)(h:E):A E:=bv n h
def kz{r:E}(h:Q0 n a=Z r):EQ 64 [.i a] [] (.i r) [] T:=by
 unfold Q0 bv at h;refine ot Tryz.func64 λϙ N=>?_
 revert r;apply gO
 exact cn λf P=>jc (rX P [oC [.i 0]]) (cn λG x=>λp r h=>by
  refine gs AC [0,1] p (Ho (AZ Tryz.f64) 5 []) (AF 10 [(2,.ref 0 0),(5,.it 1)]) [oC [.i 0],Z<|.iter<|(f).map Bn] ?_;refine r0 1 5 #[6] Bn 2 x (zFC n) ?_;cases G with
  |s0 Fd=>
   dsimp only at h
   revert r;apply gO;exact jt<|lE AC [2] [0])
end
abbrev zT3:=@List.mem_range'_1
section
def B4(x:E)(i:U):Θ:=(List.range' i<|16-i).filter λs=>tb x s
variable{x:E}
def cD{i:U}(h:i<16):B4 x i=C (tb x i) (i::B4 x (i+1)) (B4 x<|i+1):=by
 unfold B4;rw[show 16-i=(16-(i+1))+1 by omega,zUB,zSI]
theorem IS{s:U}:s∈B4 x 0↔s<16/\tb x s=T:=by
 unfold B4
 grind
theorem zB5(a:E):bits .and .u64 a 1=bits .and .i64 a 1:=by
 show IntKind.u64.wrap ((BitVec.ofInt 64 a&&& BitVec.ofInt 64 1).toNat:E)=IntKind.i64.wrap ((BitVec.ofInt 64 a&&& BitVec.ofInt 64 1).toNat:E)
 grind[IntKind.wrap_u64,IntKind.wrap_i64]
section
variable{x:E}
theorem us(h:Sm 16 x){i:U}(h0:x/2^i=0):B4 x i= []:=by
 have R:x<2^i:=by
  have a:(0:E)<2^i:=Int.pow_pos Z6;have:=Int.mul_ediv_add_emod x<|2^i;have hm:=Int.emod_lt_of_pos x a
  grind
 unfold B4;rw[zTI];intro s l v;rw[zT3]at l;have:tb x s=D:=Sm.hi (k:=i) ⟨h.1,R⟩ l.1;rw[this]at v;cases v
theorem rY(h:Sm 16 x):∀(k i:U),i+k=16->Ev (λn=>Kd x n<|.l1 (i:E)) ((B4 x i).map λ(s:U)=>(s:E))
 |0,i,e=>by
  have h0:x/2^i=0:=by
   grind[Sm]
  refine Ev.one λn=>?_
  show QW n (Kd x n) x (i:E)=_
  unfold QW;rw[zAB ⟨Z2,by show(i:E)<=((64:U):E);omega⟩,u8,h0,us h h0];rfl
 |k+1,i,e=>by
  have a:=rY h k (i+1) Z2;have t:AI<|(i:E)+1:=Ae.2 ⟨Z2,Z2⟩;have g:(0:E)<=(i:E)/\(i:E)<=(IntKind.u64.bits:E):=⟨Z2,by show(i:E)<=((64:U):E);omega⟩
  by_cases h0:x/2^i=0
  ·simp_all[Ev.one,QW,Kd,us]
  ·have step:∀n,Kd x (n+1) (.l1 (i:E))=L (tb x i) ((Kd x n<|.l1 ((i+1:U):E)).map λl=>(i:E)::l) (Kd x n<|.l1 ((i+1:U):E)):=λn=>by
    show QW n (Kd x n) x (i:E)=_
    unfold QW;rw[zAB g,u8,zOF.2 h0,zAI,zAA Z2,zAI,zB5,Q2 h Z6 Z2,zAB t,show((i+1:U):E)=(i:E)+1 by omega]
    grind
   rw[cD Z2];obtain⟨N,a⟩:=a;refine⟨N+1,λn hn=>?_⟩;obtain⟨n,rfl⟩:∃k,n=k+1:=⟨n-1,Z2⟩
   grind
theorem uk{n:U}:∀(l:Ξ) (k:U),k+F l<=64->CC (bx n) l (.s0 (k:E))=Z (.s0 ((k+F l:U):E))
 |[],k,_=>rfl
 |a::l,k,h=>by
  rw[zDM]at h
  show(Wh n a (k:E)).bind _=_
  unfold Wh;rw[zAB<|Ae.2 ⟨Z2,Z2⟩,zAD,show(k:E)+1=((k+1:U):E) by omega,uk l (k+1) Z2,zDM]
  congr 3
  omega
theorem ux:F (B4 x 0)<=16:=by
 grind[B4]
theorem ul(h:Sm 16 x):Ev (λn=>Q0 n x) (F<|B4 x 0:E):=by
 have e:IntKind.u64.wrap x=x:=by
  grind[IntKind.wrap_u64,Sm]
 have hl:=ux (x:=x);refine Ev.eq (Ev.bind (rY h 16 0 Z2) (b:=λn f=>(CC (bx n) f<|.s0 0).bind λG=>match G with| .s0 y=>Z y)<|Ev.now λn=>?_) λn=>?_
 ·grind[uk,B4]
 ·show bv n x=_
  unfold bv;rw[e];rfl
end
end
section
set_option maxRecDepth 100000
set_option maxHeartbeats 40000000
def xb(n:U)(h G:E):A E:=C (0<=G/\G<=(IntKind.u64.bits:E)) (Z<|bits .and .u64 h<|IntKind.u64.wrap<|1*2^(G).toNat) V
def d8(n:U)(h G:E):A E:=xb n h G
variable{r a G:E}{n:U}
def zJn(h:d8 n a G=Z r):EQ 115 [.int .u64 a,.i G] [] (.int .u64 r) [] T:=by
 refine ot Tryz.func115 λϙ N=>?_
 revert r;apply gO;exact gi<|lE AC [4] []
def qt(n:U)(q:AA)(pos:Ξ)(cell f:E):W7:=(Gb n q pos).bind λa=>L (a != 0) (Z (([]:Ξ),a))<|L (H<|cell<0) (Z (([]:Ξ),1))<|L (H<|cell>=q.ce) (Z (([]:Ξ),1))<|L (H<|f<0) (Z (([]:Ξ),1))<|L (H<|f>=q.sy) (Z (([]:Ξ),1))<|C ((True/\(0=0/\0=F ([]:Ξ))/\F ([]:Ξ)+F pos<=Av)/\(0<=cell/\cell<((F ([]:Ξ)+F pos:U):E))/\0+cell.toNat<F (([]:Ξ)++pos)) ((d8 n (IntKind.u64.wrap<|M (([]:Ξ)++pos) (0+cell.toNat) 0) f).bind λG=>C (F ([]:Ξ)+F pos=F ((([]:Ξ)++pos).set (0+cell.toNat)<|IntKind.i64.wrap G)) ((eG n<|(([]:Ξ)++pos).set (0+cell.toNat)<|IntKind.i64.wrap G).bind λy3=>Z (y3,0)) V) V
def jC(n:U)(q:AA)(pos:Ξ)(cell f:E):W7:=qt n q pos cell f
variable{cell:E}{pos:Ξ}{q:AA}
def zRu{r:Ξ×E}(h:jC n q pos cell a=Z r):EQ 114 [.agg 5<|L1<|AG q,.ints pos,.i cell,.i a,.fn 115 0<|L1 []] [] (.tup 2<|L1 [.ints r.1,.i r.2]) [] T:=by
 unfold jC qt at h;refine ot Tryz.func114 λϙ N=>?_
 revert r;apply gO
 exact cf ML [oC<|AG q] λf=>bi 18 (lF λp=>el AC [10,11] [] p [] H0 [.nils,.i f]<|AO.tupL (l:=[.nils,.i f]) (l':=[.ints ([]:Ξ),.i f]) rfl ⟨AO.ints_nil,At,trivial⟩)<|bi 21 (lF λp=>el AC [10,11] [] p [] H0 [.nils,.i 1]<|AO.tupL (l:=[.nils,.i 1]) (l':=[.ints ([]:Ξ),.i 1]) rfl ⟨AO.ints_nil,At,trivial⟩)<|bi 26 (lF λp=>el AC [10,11] [] p [] H0 [.nils,.i 1]<|AO.tupL (l:=[.nils,.i 1]) (l':=[.ints ([]:Ξ),.i 1]) rfl ⟨AO.ints_nil,At,trivial⟩)<|bi 30 (lF λp=>el AC [10,11] [] p [] H0 [.nils,.i 1]<|AO.tupL (l:=[.nils,.i 1]) (l':=[.ints ([]:Ξ),.i 1]) rfl ⟨AO.ints_nil,At,trivial⟩)<|bi 36 (lF λp=>el AC [10,11] [] p [] H0 [.nils,.i 1]<|AO.tupL (l:=[.nils,.i 1]) (l':=[.ints ([]:Ξ),.i 1]) rfl ⟨AO.ints_nil,At,trivial⟩)<|gc<|gi<|gc<|gn λb=>jg b<|gn λu=>jg u<|cf zJn [oC<|AG q,V,oI<|([]:Ξ)++pos] λG=>jg b<|jg u (gn λc=>λp r h=>by
  refine gz (AQ 8 AC) [2] p [0] (H0.g c) (CY (AZ Tryz.f114) 8 []) (AF 55 [(13,.ints<|(([]:Ξ)++pos).set (0+cell.toNat)<|IntKind.i64.wrap G)]) [V] ?_;revert r;apply gO;exact cf zJ3 [V] λ_=>lE AC [10,11] [])
def qL(n:U)(q:AA)(pos:Ξ)(cell G:E):W7:=(jC n q pos cell G).bind λf=>Z (f.1,f.2)
def OG(n:U)(q:AA)(pos:Ξ)(cell G:E):W7:=qL n q pos cell G
def zAm{r:Ξ×E}(h:OG n q pos cell G=Z r):EQ 90 [.agg 5<|L1<|AG q,.ints pos,.i cell,.i G] [] (.tup 2<|L1 [.ints r.1,.i r.2]) [] T:=by
 unfold OG qL at h;refine ot Tryz.func90 λϙ N=>?_
 revert r;apply gO;exact cf zRu [oC<|AG q] λ_=>lE AC [8,9] []
def zND(h:U)(f o1:Ξ):DH:=[oC [.msl 4 1 0 h],oC [.bool D],oC [.i 0],Z<|.iter<|(f).map Bn,oI o1]
def zNC(a:U)(z:E)(N:Ξ):DH:=[oC [.msl 4 1 0 a],oC [.bool D],oC [.i z],V,oI N]
def zNB(j:U)(G:E)(P:Ξ):DH:=[oC [.msl 4 1 0 j],oC [.bool D],oC [.i G],V,oI P]
inductive NO where
 |s0 (K1:U) (D9:E) (Im:Ξ)
 |s1 (D8:E)
def uZ(pos:Ξ)(x10:E):NO->DH
 | .s0 j G P=>[oC [.msl 4 1 0 j],oC [.bool D],oC [.i G],V,oI P]
 | .s1 z=>[oC [.nils],oC [.bool D],oC [.i z],V]
def WZ(n:U)(pos:Ξ)(x10 W:E)(j:U)(G:E)(P:Ξ):A<|NO×U:=C (AI<|G+1) (L (H<|(G+1)>1) (Z (.s1<|G+1,1))<|L (H<|W>=16) (Z (.s1<|G+1,1))<|C ((0=0/\1=F ([W]:Ξ))/\(0=0/\j=F P)/\F P+F ([W]:Ξ)<=Av) (Z (.s0 (F P+F ([W]:Ξ)) (G+1)<|P++([W]:Ξ),0)) V) V
def kj(n:U)(pos:Ξ)(x10 W:E)(z:E):A<|NO×U:=C (AI<|z+1) (L (H<|(z+1)>1) (Z (.s1<|z+1,1))<|L (H<|W>=16) (Z (.s1<|z+1,1))<|C ((0=0/\1=F ([W]:Ξ))/\0<F ([W]:Ξ)/\F ([W]:Ξ)<=Av) (Z (.s0 (F ([W]:Ξ)) (z+1) ([W]:Ξ),0)) V) V
def zEl(n:U)(pos:Ξ)(x10 W:E):NO->A (NO×U)
 | .s0 j G P=>WZ n pos x10 W j G P
 | .s1 z=>kj n pos x10 W z
def Wa(n:U)(pos:Ξ)(x10 W:E)(s:NO):A<|NO×U:=zEl n pos x10 W s
def zEk(n:U)(pos:Ξ)(x10:E)(l ϙ:U)(N:Yd 4)(W:E)(s:NO)(r:NO×U)(h:Wa n pos x10 W s=Z r):TA l ϙ N (C3 4 [.ret] r.2<|uZ pos x10 r.1) Tryz.f89 16 ⟨AF 34 [(2,.ref 0 0),(3,.ref 1 0),(6,.ref 2 0),(8,.ints pos),(9,.i (F pos:E)),(10,.i x10),(16,.it 3),(17,.i W)],uZ pos x10 s⟩:=by
 cases s with
 |s0 j G P=>
  replace h:WZ n pos x10 W j G P=Z r:=h;unfold WZ at h;refine ag AC [0,1,2,3,4] H0 (AF 34 [(2,.ref 0 0),(3,.ref 1 0),(6,.ref 2 0),(7,.i W)]) (zNB j G P) λN=>?_
  revert r;apply gO;exact gw 19<|jt<|bi 21 (jt<|jt<|lF λp=>rr AC [0,1,2,3] rfl p)<|bi 24 (jt<|jt<|lF λp=>rr AC [0,1,2,3] rfl p)<|gi<|jt<|lF λp=>rr AC [0,1,2,3,6] rfl p
 |s1 z=>
  replace h:kj n pos x10 W z=Z r:=h;unfold kj at h;refine ag AC [0,1,2,3] H0 (AF 34 [(2,.ref 0 0),(3,.ref 1 0),(6,.ref 2 0),(7,.i W)]) [oC [.nils],oC [.bool D],oC [.i z],V] λN=>?_
  revert r;apply gO;exact gw 19<|jt<|bi 21 (jt<|jt<|lF λp=>rr AC [0,1,2,3] rfl p)<|bi 24 (jt<|jt<|lF λp=>rr AC [0,1,2,3] rfl p)<|gi<|jt<|lF λp=>rr AC [0,1,2,3,5] rfl p
inductive NQ where
 |s0 (D9:E)
 |s1 (K0:U) (D8:E) (Il:Ξ)
def uY(pos:Ξ)(x10:E):NQ->DH
 | .s0 G=>[oC [.nils],oC [.bool D],oC [.i G],V]
 | .s1 a z N=>[oC [.msl 4 1 0 a],oC [.bool D],oC [.i z],V,oI N]
def WY(n:U)(pos:Ξ)(x10 W:E)(G:E):A<|NQ×U:=C (AI<|G+1) (L (H<|(G+1)>1) (Z (.s0<|G+1,1))<|L (H<|W>=16) (Z (.s0<|G+1,1))<|C ((0=0/\1=F ([W]:Ξ))/\0<F ([W]:Ξ)/\F ([W]:Ξ)<=Av) (Z (.s1 (F ([W]:Ξ)) (G+1) ([W]:Ξ),0)) V) V
def ki(n:U)(pos:Ξ)(x10 W:E)(i:U)(z:E)(N:Ξ):A<|NQ×U:=C (AI<|z+1) (L (H<|(z+1)>1) (Z (.s0<|z+1,1))<|L (H<|W>=16) (Z (.s0<|z+1,1))<|C ((0=0/\1=F ([W]:Ξ))/\(0=0/\i=F N)/\F N+F ([W]:Ξ)<=Av) (Z (.s1 (F N+F ([W]:Ξ)) (z+1)<|N++([W]:Ξ),0)) V) V
def zEj(n:U)(pos:Ξ)(x10 W:E):NQ->A (NQ×U)
 | .s0 G=>WY n pos x10 W G
 | .s1 i z N=>ki n pos x10 W i z N
def Wb(n:U)(pos:Ξ)(x10 W:E)(s:NQ):A<|NQ×U:=zEj n pos x10 W s
def zEi(n:U)(pos:Ξ)(x10:E)(l ϙ:U)(N:Yd 4)(W:E)(s:NQ)(r:NQ×U)(h:Wb n pos x10 W s=Z r):TA l ϙ N (C3 4 [.ret] r.2<|uY pos x10 r.1) Tryz.f89 16 ⟨AF 34 [(2,.ref 0 0),(3,.ref 1 0),(6,.ref 2 0),(8,.ints pos),(9,.i (F pos:E)),(10,.i x10),(16,.it 3),(17,.i W)],uY pos x10 s⟩:=by
 cases s with
 |s0 G=>
  replace h:WY n pos x10 W G=Z r:=h;unfold WY at h;refine ag AC [0,1,2,3] H0 (AF 34 [(2,.ref 0 0),(3,.ref 1 0),(6,.ref 2 0),(7,.i W)]) [oC [.nils],oC [.bool D],oC [.i G],V] λN=>?_
  revert r;apply gO;exact gw 19<|jt<|bi 21 (jt<|jt<|lF λp=>rr AC [0,1,2,3] rfl p)<|bi 24 (jt<|jt<|lF λp=>rr AC [0,1,2,3] rfl p)<|gi<|jt<|lF λp=>rr AC [0,1,2,3,5] rfl p
 |s1 a z b=>
  replace h:ki n pos x10 W a z b=Z r:=h;unfold ki at h;refine ag AC [0,1,2,3,4] H0 (AF 34 [(2,.ref 0 0),(3,.ref 1 0),(6,.ref 2 0),(7,.i W)]) (zNC a z b) λN=>?_
  revert r;apply gO;exact gw 19<|jt<|bi 21 (jt<|jt<|lF λp=>rr AC [0,1,2,3] rfl p)<|bi 24 (jt<|jt<|lF λp=>rr AC [0,1,2,3] rfl p)<|gi<|jt<|lF λp=>rr AC [0,1,2,3,6] rfl p
inductive Wc where
 |l1 (x10:E)
 |l2 (x10:E) (DB:U) (o1:Ξ)
def Tm(n:U)(self:Wc->W6)(pos:Ξ)(x10:E):W6:=
 bif(H<|x10<(F pos:E))then
  if 0<=x10/\x10<(F pos:E)then
   (OU n<|IntKind.u64.wrap<|M pos x10.toNat 0).bind λf=>
    (C7 (Wb n pos x10) f<|.s0 0).bind λG=>
     bif G.2==0 then
      match G.1 with
      | .s0 Fd=>
       bif(Fd==0)then
        Z (([]:Ξ),D)
       else
        if AI (x10+1)then
         self (.l1<|x10+1)
        else V
      | .s1 k S e=>
       bif(S==0)then
        Z (([]:Ξ),D)
       else
        if AI (x10+1)then
         self (.l2 (x10+1) k e)
        else V
     else
      bif G.2==1 then
       match G.1 with
       | .s0 Fd=>
        Z (([]:Ξ),D)
       | .s1 k S e=>
        if k=F e then
         Z (e,D)
        else V
      else
       V
  else V
 else
  Z (([]:Ξ),T)
def Tl(n:U)(self:Wc->W6)(pos:Ξ)(x10:E)(h:U)(o1:Ξ):W6:=
 bif(H<|x10<(F pos:E))then
  if 0<=x10/\x10<(F pos:E)then
   (OU n<|IntKind.u64.wrap<|M pos x10.toNat 0).bind λa=>
    (C7 (Wa n pos x10) a<|.s0 h 0 o1).bind λG=>
     bif G.2==0 then
      match G.1 with
      | .s0 Fd W f=>
       bif(W==0)then
        Z (([]:Ξ),D)
       else
        if AI (x10+1)then
         self (.l2 (x10+1) Fd f)
        else V
      | .s1 k=>
       bif(k==0)then
        Z (([]:Ξ),D)
       else
        if AI (x10+1)then
         self (.l1<|x10+1)
        else V
     else
      bif G.2==1 then
       match G.1 with
       | .s0 Fd W f=>
        if Fd=F f then
         Z (f,D)
        else V
       | .s1 k=>
        Z (([]:Ξ),D)
      else
       V
  else V
 else
  if h=F o1 then
   Z (o1,T)
  else V
def zEh(n:U)(self:Wc->W6)(pos:Ξ):W6:=self<|.l1 0
def IA(pos:Ξ):U->Wc->W6
 |0,_=>V
 |n+1,.l1 x10=>Tm n (IA pos n) pos x10
 |n+1,.l2 x10 h o1=>Tl n (IA pos n) pos x10 h o1
def Tn(n:U)(pos:Ξ):W6:=zEh n (IA pos n) pos
def zEm(n ϙ:U)(N:Yd 0)(pos:Ξ)(r:Ξ×ζ):Wc->Prop:=px n ϙ η N (FQ Tryz.f89 0 (.tup 2<|L1 [.ints r.1,.bool r.2]) []) (AZ Tryz.f89) λ
 | .l1 x10=>(0,0,AF 34 [(2,.ref 0 0),(3,.ref 1 0),(8,.ints pos),(9,.i (F pos:E)),(10,.i x10)],[oC [.nils],oC [.bool D]])
 | .l2 x10 h o1=>(0,0,AF 34 [(2,.ref 0 0),(3,.ref 2 0),(8,.ints pos),(9,.i (F pos:E)),(10,.i x10)],[oC [.msl 1 1 0 h],oI o1,oC [.bool D]])
def zEn(ϙ:U)(N:Yd 0)(pos:Ξ):Al (IA pos) (zEm · ϙ N pos):=ia (λ_=>rfl) λn I j r h=>by
 cases j
 case l1 x10=>
  intro q a;refine rd a λq a=>?_
  revert r;apply gO
  exact bi 11 (gi (jt (cn λf P=>jc (rX P [oC [.nils],oC [.bool D],oC [.i 0]]) (cn λG x=>λp r h=>by
   refine gs AC [0,1,2,3] p (Ho (AZ Tryz.f89) 16 [q]) (AF 34 [(2,.ref 0 0),(3,.ref 1 0),(6,.ref 2 0),(8,.ints pos),(9,.i (F pos:E)),(10,.i x10),(16,.it 3)]) [oC [.nils],oC [.bool D],oC [.i 0],Z<|.iter<|(f).map Bn] ?_;refine rx [.ret] 3 16 #[17] Bn 4 x (zEi n pos x10) λe b=>?_
   replace h:=Bv h;rcases h with⟨v,h⟩|⟨v,h⟩
   ·rw[zMw v]at b;cases b;revert h;cases G.1 with
    |s0 Fd=>
     intro h
     dsimp only at h
     revert r;apply gO;exact bi 31 (jt<|jt<|lF λp=>el AC [2,3] [0,1] p [] H0 [.nils,.bool D]<|AO.tupL (l:=[.nils,.bool D]) (l':=[.ints ([]:Ξ),.bool D]) rfl ⟨AO.ints_nil,At,trivial⟩) (gw 32 (lG AC [0,1] (I _ _ · q a)))
    |s1 k S m=>
     intro h
     dsimp only at h
     revert r;apply gO;exact bi 31 (jt<|jt<|lF λp=>el AC [2,3] [0,1] p [] H0 [.nils,.bool D]<|AO.tupL (l:=[.nils,.bool D]) (l':=[.ints ([]:Ξ),.bool D]) rfl ⟨AO.ints_nil,At,trivial⟩) (gw 32 (lG AC [0,4,1] (I _ _ · q a)))
   ·replace h:=Bv h;rcases h with⟨v,h⟩|⟨v,h⟩
    ·rw[zMw v]at b;cases b;refine PC ⟨rfl,?_⟩ _;revert h;cases G.1 with
     |s0 Fd=>
      intro h
      dsimp only at h
      revert r;apply gT;exact lF λ_=>DD.el (.inr rfl) [] H0 [.nils,.bool D] (AO.tupL (l:=[.nils,.bool D]) (l':=[.ints ([]:Ξ),.bool D]) rfl ⟨AO.ints_nil,At,trivial⟩) Z5
     |s1 k S m=>
      intro h
      dsimp only at h
      revert r;apply gT;exact gn λc=>lF λ_=>DD.e (.inr rfl) [4] (H0.g c) Z5
    ·cases h))))<|jt<|jt<|lF λp=>el AC [2,3] [0,1] p [] H0 [.nils,.bool T]<|AO.tupL (l:=[.nils,.bool T]) (l':=[.ints ([]:Ξ),.bool T]) rfl ⟨AO.ints_nil,At,trivial⟩
 case l2 x10 DB o1=>
  intro q a;refine rd a λq a=>?_
  revert r;apply gO
  exact bi 11 (gi (jt (cn λf P=>jc (rX P [oC [.msl 1 1 0 DB],oI o1,oC [.bool D],oC [.i 0]]) (cn λG x=>λp r h=>by
   refine gs AC [0,2,3,4,1] p (Ho (AZ Tryz.f89) 16 [q]) (AF 34 [(2,.ref 0 0),(3,.ref 1 0),(6,.ref 2 0),(8,.ints pos),(9,.i (F pos:E)),(10,.i x10),(16,.it 3)]) (zND DB f o1) ?_;refine rx [.ret] 3 16 #[17] Bn 4 x (zEk n pos x10) λe b=>?_
   replace h:=Bv h;rcases h with⟨v,h⟩|⟨v,h⟩
   ·rw[zMw v]at b;cases b;revert h;cases G.1 with
    |s0 Fd W o=>
     intro h
     dsimp only at h
     revert r;apply gO;exact bi 31 (jt<|jt<|lF λp=>el AC [2,3] [0,1] p [] H0 [.nils,.bool D]<|AO.tupL (l:=[.nils,.bool D]) (l':=[.ints ([]:Ξ),.bool D]) rfl ⟨AO.ints_nil,At,trivial⟩) (gw 32 (lG AC [0,4,1] (I _ _ · q a)))
    |s1 k=>
     intro h
     dsimp only at h
     revert r;apply gO;exact bi 31 (jt<|jt<|lF λp=>el AC [2,3] [0,1] p [] H0 [.nils,.bool D]<|AO.tupL (l:=[.nils,.bool D]) (l':=[.ints ([]:Ξ),.bool D]) rfl ⟨AO.ints_nil,At,trivial⟩) (gw 32 (lG AC [0,1] (I _ _ · q a)))
   ·replace h:=Bv h;rcases h with⟨v,h⟩|⟨v,h⟩
    ·rw[zMw v]at b;cases b;refine PC ⟨rfl,?_⟩ _;revert h;cases G.1 with
     |s0 Fd W o=>
      intro h
      dsimp only at h
      revert r;apply gT;exact gn λc=>lF λ_=>DD.e (.inr rfl) [4] (H0.g c) Z5
     |s1 k=>
      intro h
      dsimp only at h
      revert r;apply gT;exact lF λ_=>DD.el (.inr rfl) [] H0 [.nils,.bool D] (AO.tupL (l:=[.nils,.bool D]) (l':=[.ints ([]:Ξ),.bool D]) rfl ⟨AO.ints_nil,At,trivial⟩) Z5
    ·cases h))))<|jt<|jt<|gn λs=>lF λp=>ez AC [2,3] [0,1,2] p [1]<|H0.g s
def uX{r:Ξ×ζ}(h:Tn n pos=Z r):EQ 89 [.ints pos] [] (.tup 2<|L1 [.ints r.1,.bool r.2]) [] T:=by
 refine ot Tryz.func89 λϙ N=>?_
 revert r;apply gO;exact lN AC [0,1] ((zEn ϙ N pos n) _ _ · n χ)
def kA(n:U)(q:AA)(pos:Ξ)(tree:O<|Δ):A E:=(valid n q).bind λf=>L (f != 0) (Z f)<|(Gb n q pos).bind λG=>L (G != 0) (Z G)<|L (H<|(F tree:E)>65536) (Z 2)<|Z 0
def Qp(n:U)(q:AA)(pos:Ξ)(tree:O<|Δ):A E:=kA n q pos tree
def sW{tree:O Δ}(h:Qp n q pos tree=Z r):EQ 40 [.agg 5<|L1<|AG q,.ints pos,.sl 2 (F tree)<|AM Az tree] [] (.i r) [] T:=by
 unfold Qp kA at h;refine ot Tryz.func40 λϙ N=>?_
 revert r;apply gO;exact cf ax [oC<|AG q] λ_=>bi 10 (lE AC [6] [])<|cf ML [oC<|AG q] λ_=>bi 16 (lE AC [6] [])<|bi 20 (lE AC [6] [])<|lE AC [6] []
end
section
variable{q:AA}{pos:Ξ}
theorem mh(x:E):BitVec.ofInt 64 (IntKind.u64.wrap x)=BitVec.ofInt 64 x:=by
 grind[BitVec.toNat_ofInt,IntKind.wrap_u64]
variable{s:U}
theorem zDl(a:E)(hs:s<63)(t:U):tb (IntKind.i64.wrap<|bits .and .u64 (IntKind.u64.wrap a)<|IntKind.u64.wrap<|1*2^s) t=(tb a t&&H (s=t)):=by
 rw[kM]
 have e:tb (bits .and .u64 (IntKind.u64.wrap a)<|IntKind.u64.wrap<|1*2^s) t=(BitVec.ofInt 64 (IntKind.u64.wrap a)&&& BitVec.ofInt 64 (IntKind.u64.wrap<|1*2^s)).getLsbD t:=by
  show(BitVec.ofInt 64<|IntKind.u64.wrap ((BitVec.ofInt 64 (IntKind.u64.wrap a)&&& BitVec.ofInt 64 (IntKind.u64.wrap<|1*2^s)).toNat:E)).getLsbD t=_
  grind[mh]
 rw[e,mh,mh,BitVec.getLsbD_and];have h2:=JH (show s<64 by omega) t
 grind[kM,tb]
def H4(y:Ξ)(j s:U):Ξ:=y.set j<|IntKind.i64.wrap<|bits .and .u64 (IntKind.u64.wrap<|M y j 0)<|IntKind.u64.wrap<|1*2^s
def Fl(y:Ξ)(j s:U):Ξ:=C (BM<|H4 y j s) (d (F y) 0)<|H4 y j s
variable{j:U}{y:Ξ}
theorem g9(o:CR q=T)(hy:posOk q y=T)(g:j<F y)(hs:s<q.sy.toNat):F (H4 y j s)=F y/\∀l,l<F y->CO (M (H4 y j s) l 0)/\∀t,tb (M (H4 y j s) l 0) t=(tb (M y l 0) t&&(!H (l=j)||H (t=s))):=by
 obtain⟨h1,c⟩:=(MK o).1 hy;obtain⟨hc,Ya,_⟩:=Dy o;unfold H4;refine⟨zIG,λl m=>?_⟩
 by_cases e:j=l
 ·subst e;rw[SV g];refine⟨TK _,λt=>?_⟩;rw[zDl _ Z2,zAA rfl,zMv,zPE]
  grind
 ·rw[getD_set_ne e];refine⟨(c l m).in64 Z2,λt=>?_⟩
  grind
theorem rt(hv:CR q=T)(hy:posOk q y=T):posOk q (d (F y) 0)=T:=by
 simp_all[Int.pow_pos,posOk]
def zPW(o:CR q=T)(hy:posOk q y=T)(g:j<F y)(a:s<q.sy.toNat):posOk q (Fl y j s)=T:=by
 obtain⟨b,c⟩:=(MK o).1 hy;obtain⟨hc,Ya,_⟩:=Dy o;obtain⟨R,K⟩:=g9 o hy g a;unfold Fl;split
 ·exact rt o hy
 ·refine(MK o).2 ⟨by rw[R];exact b,λl hl=>?_⟩;obtain⟨e,f⟩:=K l Z2;refine Wg Z2 e λt v _=>?_
  rw[f,(c l Z2).hi v];rfl
variable{n:U}
theorem zAl(hF:DT q)(o:CR q=T)(hy:posOk q y=T)(g:j<F y)(hs:s<q.sy.toNat)(hn:D0 q+300<=n):OG n q y j s=Z (Fl y j s,0):=by
 obtain⟨h1,h2⟩:=(MK o).1 hy;obtain⟨hc,Ya,_⟩:=Dy o;have Ϝ:(1000000000000:U)=Av:=rfl;have lb:(256:U)<=LB:=Z6
 have sy:((q.sy.toNat:U):E)=q.sy:=Z2
 have a:Gb n q y=Z 0:=by
  grind[dX,EI]
 unfold OG qL jC qt;rw[a,zAD];simp only[zMX,zCx,u8,zTL];rw[zAF Z2,zAF Z2,zAF Z2,zAF Z2];simp only[zT0,zAJ];rw[zAB ⟨⟨trivial,⟨trivial,trivial⟩,Z2⟩,⟨Z2,Z2⟩,g⟩]
 have R:d8 n (IntKind.u64.wrap<|M y j 0) s=Z (bits .and .u64 (IntKind.u64.wrap<|M y j 0)<|IntKind.u64.wrap<|1*2^s):=by
  unfold d8 xb;rw[zAB ⟨Z2,by show(s:E)<=((64:U):E);omega⟩,u8]
 rw[R,zAD,zAB<|by rw[zIG]]
 grind[eG,H4,Fl,my,zBU]
def Eh:Ξ->A Ξ
 |[]=>Z []
 |x::l=>match B4 x 0 with
  |[s]=>(Eh l).map λr=>(s:E)::r
  |_=>V
def Tq:∀{p g:Ξ},Eh p=Z g->F g=F p
 |[],g,h=>by cases h;rfl
 |x::p,g,h=>by
  unfold Eh at h;split at h
  ·obtain⟨r,i,rfl⟩:=zMb.1 h;rw[zDM,zDM,Tq i]
  ·cases h
variable{x10:E}
theorem zE4 :∀(l:Θ),(∀s∈l,s<16)->C7 (Wb n pos x10) (l.map λ(s:U)=>(s:E)) (.s0 0)=Z (match l with|[]=>(.s0 0,0)|[s]=>(.s1 1 1 [(s:E)],0)|_=>(.s0 2,1))
 |[],_=>rfl
 |s::l,h=>by
  have hs:=h s Z3
  have y:Wb n pos x10 (s:E) (.s0 0)=Z (.s1 1 1 [(s:E)],0):=by
   show WY n pos x10 (s:E) 0=_
   unfold WY;rw[zAB Z6,zAF Z2,zAJ,zAF Z2,zAJ,zAB ⟨⟨rfl,rfl⟩,Z3,by simp[Av]⟩];rfl
  rw[zOq];simp only[C7,y,zAD];cases l with
  |nil=>rfl
  |cons t l=>
   have e2:Wb n pos x10 (t:E) (.s1 1 1 [(s:E)])=Z (.s0 2,1):=by
    rfl
   grind[C7]
theorem zE3{m:U}{o:Ξ}(x:m=F o)(hl:F o<=300):∀(l:Θ),(∀s∈l,s<16)->C7 (Wa n pos x10) (l.map λ(s:U)=>(s:E)) (.s0 m 0 o)=Z (match l with|[]=>(.s0 m 0 o,0)|[s]=>(.s0 (m+1) 1<|o++[(s:E)],0)|_=>(.s1 2,1))
 |[],_=>rfl
 |s::l,h=>by
  have hs:=h s Z3;have Ϝ:(1000000000000:U)=Av:=rfl
  have y:Wa n pos x10 (s:E) (.s0 m 0 o)=Z (.s0 (m+1) 1<|o++[(s:E)],0):=by
   show WZ n pos x10 (s:E) m 0 o=_
   unfold WZ;rw[zAB Z6,zAF Z2,zAJ,zAF Z2,zAJ,zAB ⟨⟨rfl,rfl⟩,⟨rfl,x⟩,Z7⟩,x];rfl
  rw[zOq];simp only[C7,y,zAD];cases l with
  |nil=>rfl
  |cons t l=>
   have e2:Wa n pos x10 (t:E) (.s0 (m+1) 1<|o++[(s:E)])=Z (.s1 2,1):=by
    rfl
   grind[C7]
def IB(o:Ξ):A Ξ->Ξ×ζ
 |some r=>(o++r,T)
 |none=>([],D)
variable{x:E}
theorem zCb(h:Sm 16 x):Ev (λn=>OU n<|IntKind.u64.wrap x)<|(B4 x 0).map λ(s:U)=>(s:E):=by
 have e:IntKind.u64.wrap x=x:=by
  show x%18446744073709551616=x
  grind[Sm]
 rw[e];exact rY h 16 0 Z2
def uy(h:s∈B4 x 0):s<16:=(IS.1 h).1
theorem ub(h:∀j,j<F pos->Sm 16 (M pos j 0))(m:F pos<=256):∀(k j:U) (o:Ξ),j+k=F pos->F o<=256->F o+k<=256->Ev (λn=>IA pos n<|.l2 (j:E) (F o) o) (IB o<|Eh<|pos.drop j)
 |0,j,o,e,x,_=>by
  simp_all[Ev.one,Tl,IA,Eh,IB]
 |k+1,j,o,e,x,hk=>by
  have c:j<F pos:=Z2
  have f:pos.drop j=M pos j 0::pos.drop (j+1):=by
   simp_all
  have i:=zCb<|h j c;have lb:AI<|(j:E)+1:=Ae.2 ⟨Z2,Z2⟩;have p:=λs:U=>ub h m k (j+1) (o++[(s:E)]) Z2 Z7 Z7
  have start:∀n,IA pos (n+1) (.l2 (j:E) (F o) o)=Tl n (IA pos n) pos (j:E) (F o) o:=λ_=>rfl
  obtain⟨N,I⟩:=i;have I:∀n,N<=n->OU n (IntKind.u64.wrap<|M pos j 0)=Z ((B4 (M pos j 0) 0).map λ(s:U)=>(s:E)):=I;have hf:=λn=>zE3 (n:=n) (pos:=pos) (x10:=(j:E)) (o:=o) rfl Z2 (B4 (M pos j 0) 0) λs a=>uy a
  rw[f,Eh];cases a:B4 (M pos j 0) 0 with
  |nil=>
   refine Ev.oneN N λn b=>?_
   rw[start];unfold Tl
   simp_all[IB]
  |cons s l=>
   cases l with
   |nil=>
    have g:AX (IA pos) (.l2 (j:E) (F o) o)<|.l2 ((j+1:U):E) (F<|o++[(s:E)])<|o++[(s:E)]:=AX.oneN N λn b=>by
     simp_all[Tl]
    have:=g.ev<|p s;cases q:Eh (pos.drop<|j+1)with
    |none=>rw[q]at this;exact this
    |some r=>grind[IB]
   |cons t l=>
    refine Ev.oneN N λn b=>?_
    simp_all[Tl,IB]
theorem uc(h:∀j,j<F pos->Sm 16 (M pos j 0))(m:F pos<=256):Ev (λn=>Tn n pos)<|IB []<|Eh pos:=by
 cases pos with
 |nil=>
  refine Ev.eq (g:=λn=>IA [] n<|.l1 0) (Ev.one λn=>?_) λn=>rfl
  grind[Tm,IA,IB,Eh]
 |cons x p=>
  have e:=h 0 Z3;obtain⟨N,I⟩:=zCb e;have I:∀n,N<=n->OU n (IntKind.u64.wrap x)=Z ((B4 x 0).map λ(s:U)=>(s:E)):=I;have c:=λn=>zE4 (n:=n) (pos:=x::p) (x10:=0) (B4 x 0) λs a=>uy a
  refine Ev.eq (g:=λn=>IA (x::p) n<|.l1 0) ?_ λn=>rfl
  have start:∀n,IA (x::p) (n+1) (.l1 0)=Tm n (IA (x::p) n) (x::p) 0:=λ_=>rfl
  have X:H ((0:E)<((F<|x::p:U):E))=T:=zAA Z3;have f:M (x::p) (0:E).toNat 0=x:=rfl;rw[Eh];cases a:B4 x 0 with
  |nil=>
   refine Ev.oneN N λn b=>?_
   rw[start];unfold Tm
   simp_all[IB]
  |cons s l=>
   cases l with
   |nil=>
    have g:AX (IA<|x::p) (.l1 0)<|.l2 ((1:U):E) [(s:E)].length [(s:E)]:=AX.oneN N λn b=>by
     rw[start];unfold Tm;rw[X,zAI,zAB ⟨Z2,Z3⟩,f,I n b,zAD,c n,a];rfl
    have:=g.ev (ub h m (F p) 1 [(s:E)] Z7 Z3<|by simp at m⊢;omega);simp only[List.drop_one,List.tail_cons]at this;cases i:Eh p with
    |none=>rw[i]at this;exact this
    |some r=>grind[IB]
   |cons t l=>
    refine Ev.oneN N λn b=>?_
    simp_all[Tm,IB]
end
def Bw.nv{P:ν}(ϛ:Bw P):Prop:=∀G R W,¬ϛ.Jx G R W
def pan(v:μ):O PanicEntry:=[{ v:=v,recovered:=D }]
def S8(i:μ)(ϗ:Ψ)(w:κ)(ρ:O AK):A DV->Ending->Prop
 |some Ϛ,e=>∃v,e=.returned v/\AJ ϗ w Ϛ ρ v
 |none,e=>e=.panicked (pan i)
def YC(P:ν)(Γ:A2)(c:μ)(f:U)(ds:U->O DV)(h:U->DH)(ys:O<|O DV)(a:A DV)(h':U->DH):Prop:=(∀args W,(callFunc f args).run P W=.ok (.enter f args) W)/\∀(ϛ:Bw P),ϛ.nv->∀i,(∃rest,ϛ.encs.drop i=ys++rest)->∀N ρ args w G R,Ap P Γ N (h ϛ.l) ρ w->A3 (MS N (h ϛ.l) ρ) w ρ (ds ϛ.l) args->ϛ.J i G R w->IY Γ N G R (h ϛ.l) ρ w->CallsIn η 0 P f args w λe w'=>∃b ρ' y R',Ap P Γ b (h' ϛ.l) ρ' w'/\ϛ.J (i+F ys) y R' w'/\IY Γ b y R' (h' ϛ.l) ρ' w'/\Bm (F<|h ϛ.l) ρ ρ'/\S8 c (MS b (h' ϛ.l) ρ') w' ρ' a e
section
variable{P:ν}{Γ:A2}
def Bw.part(ϛ:Bw P)(I:ϛ.nv)(ϐ X K:Ψ)(w:κ)(z:∀b,ϐ b->b<w.heap.size)(hR1:∀b,X b->b<w.heap.size):Bw P where
 l:=ϛ.l
 encs:=ϛ.encs
 J:=λj G R W=>ϛ.J j (λb=>G b∨ϐ b) R W/\AR (λb=>¬(ϐ b∨X b)) w W/\(∀b,ϐ b->¬G b/\¬R b)/\(∀b,X b->R b)/\(∀b,G b->K b∨w.heap.size<=b)/\(∀b,G b->¬R b)
 Jx:=λ_ _ _=>False
 hJ:=by
  rintro j G R N R' ϕ ϙ ⟨o,c,p,q,r,s⟩ t Q S Iw u v;have f:=c.size;have Y:∀b,ϐ b->b<ϕ.heap.size:=λb n=>zAQ (z b n) f
  have y:∀b,ϐ b->¬N b/\¬R' b:=λb n=>by
   grind
  refine⟨ϛ.hJ j _ R _ R' ϕ ϙ o (t.mono λ_ _ h=>.inl h) (λk hk=>hk.elim (λh=>(Q k h).imp .inl id) λh=>.inl<|.inr h) (λk hk=>(S k hk).imp id λh=>h.imp .inl id) (λk hk=>?_) (λk hk=>hk.elim (u k) λh=>(y k h).2) λk hk=>?_,c.comp t λi hi a=>?_,y,λb n=>?_,λb n=>?_,u⟩
  ·grind
  ·rcases hk with(hk|hk)|hk
   ·exact v k<|.inl hk
   ·exact zAQ (Y k hk) t.size
   ·exact v k<|.inr hk
  ·grind
  ·grind
  grind
 hJx:=λ_ _ _ _ _ _ h _ _ _ _ _ _=>h.elim
 hy:=by
  rintro i x args G R W1 a hE ⟨o,c,p,q,r,s⟩ f
  obtain⟨fn,tmps,NA,g,hy,hR⟩:=ϛ.hy i x args _ R W1 a hE o ⟨λk hk=>hk.elim (f.dis k) λh=>(p k h).2,λk hk=>by
   rcases hk with(hk|hk)|hk
   ·exact f.lt k<|.inl hk
   ·exact zAQ (z k hk) c.size
   ·exact f.lt k<|.inr hk⟩
  refine⟨fn,tmps,NA,g,hy,hR.mono ?_⟩;rintro e W' ⟨t,m⟩;refine⟨t.mono λk _ h a=>h<|a.imp .inl id,.inl ?_⟩;rcases m with⟨rfl,m⟩|⟨_,m⟩
  ·exact⟨rfl,m,c.comp t λi _ a Iu=>a<|Iu.imp .inr<|q i,p,q,r,s⟩
  ·exact(I _ _ _ m).elim
def MT(K:U)(h:DH)(ρ:O AK)(b:U):Prop:=∃k o p,K<=k/\h[k]?=Z (Z o)/\ρ[k]?=Z p/\p.foot b
variable{ρ:O AK}{h:DH}
theorem MO.split(K:U)(b:U):MO h ρ b↔MO (h.take K) (ρ.take K) b∨MT K h ρ b:=by
 constructor
 ·rintro⟨k,o,p,h1,h2,a⟩;rcases zCv k K with hk|hk
  ·exact .inl ⟨k,o,p,Z4,Z4,a⟩
  grind[MT]
 grind[MO,MT]
def Jn(K:U):A DO->ζ
 |some (.cells l)=>l.all<|CS K
 |some (.ro l)=>l.all<|CS K
 |_=>T
variable{w:κ}{N:Ψ}
theorem Ap.take(Ϙ:Ap P Γ N h ρ w){K:U}(hK:K<=F h)(hc:(h.take K).all (Jn K)=T):Ap P Γ (λb=>N b∨MT K h ρ b) (h.take K) (ρ.take K) w/\∀b,MS (λb=>N b∨MT K h ρ b) (h.take K) (ρ.take K) b↔MS N h ρ b:=by
 have G:∀b,MS (λb=>N b∨MT K h ρ b) (h.take K) (ρ.take K) b↔MS N h ρ b:=λb=>by
  grind[MO.split,MS]
 have a:∀{α:Type} {l:O α} {k:U} {x:α},(l.take K)[k]?=Z x->k<K/\l[k]?=Z x:=λ{α l k x} hx=>by
  grind
 refine⟨⟨by simp[Ϙ.len],λk o hk=>?_,λk o p b X I J=>?_,λi i' o o' p p' b Af g1 g2 g3 g4 g5 g6=>Ϙ.dis i i' o o' p p' b Af (a g1).2 (a g2).2 (a g3).2 (a g4).2 g5 g6,λb q=>?_,Ϙ.gi⟩,G⟩
 ·obtain⟨Da,Gh⟩:=a hk;obtain⟨p,hp,g⟩:=Ϙ.obj k o Gh;refine⟨p,Z4,?_⟩;have e:MS (λb=>N b∨MT K h ρ b) (h.take K) (ρ.take K)=MS N h ρ:=funext λb=>propext<|G b
  rw[e];cases o with
  |cells l=>
   have Y:l.all (CS K)=T:=zAP.1 hc _<|zLW hk;exact Ac.out g rfl λj u hj r=>AJ.take _ (zAP.1 Y _ Z4) r
  |ints l=>exact g
  |bools l=>exact g
  |arr m n f=>exact g
  |gro m n f=>exact g
  |iter encs=>exact g
  |ro l=>
   obtain⟨r1,r2,r3⟩:=g;have Y:l.all (CS K)=T:=zAP.1 hc _<|zLW hk;exact⟨r1,r2,Ac.out r3 rfl λj u hj r=>AJ.take _ (zAP.1 Y _ Z4) r⟩
  |mo x=>exact g
 ·obtain⟨Da,Q⟩:=a X;obtain⟨R,c2,S⟩:=Ϙ.cel k o p b Q (a I).2 J;refine⟨R,?_,S⟩;rintro(hn|⟨W,o',p',q1,s,v,y⟩)
  ·exact c2 hn
  ·exact Ϙ.dis k W o o' p p' b Z2 Q s (a I).2 v J y
 ·rcases q with q|⟨W,o',p',q1,s,v,y⟩
  ·exact Ϙ.nlt b q
  ·obtain⟨R,_,c,t,z,S⟩:=Ϙ.cel W o' p' b s v y
   grind
variable{ϗ:Ψ}
theorem S8.out{i:μ}{S:Ψ}{ρ':O AK}{a:A DV}{e:Ending}(Ϙ:BQ ϗ w ρ S w ρ')(h:S8 i ϗ w ρ a e):S8 i S w ρ' a e:=by
 cases a with
 |none=>exact h
 |some Ϛ=>obtain⟨v,b,c⟩:=h;exact⟨v,b,c.out _ Ϙ⟩
variable{h':U->DH}{g:A DV}{ys:O (O DV)}{ds:U->O DV}{f:U}
theorem YC.call{pv:μ}{h:U->DH}(Ϙ:YC P Γ pv f ds h ys g h'){ϛ:Bw P}(hn:ϛ.nv){i:U}(hi:∃rest,ϛ.encs.drop i=ys++rest){G R:Ψ}{W ϒ:DH}{args:υ μ}
 (e:W=h ϛ.l++ϒ) (HR:Ap P Γ N W ρ w) (hl:F (h' ϛ.l)=F (h ϛ.l)) (hc:(h ϛ.l).all (Jn<|F<|h ϛ.l)=T) (hd:(ds ϛ.l).all (CS<|F<|h ϛ.l)=T) (fa:A3 (MS N W ρ) w ρ (ds ϛ.l) args) (hj:ϛ.J i G R w) (y:IY Γ N G R W ρ w):
 CallsIn η 0 P f args w λe w'=>∃a ρ2 G2 R2,Ap P Γ a (h' ϛ.l++ϒ) ρ2 w'/\ϛ.J (i+F ys) G2 R2 w'/\IY Γ a G2 R2 (h' ϛ.l++ϒ) ρ2 w'/\Bm (F W) ρ ρ2/\S8 pv (MS a (h' ϛ.l++ϒ) ρ2) w' ρ2 g e/\
  BQ (MS N W ρ) w ρ (MS a (h' ϛ.l++ϒ) ρ2) w' ρ2/\AR (λb=>N b∨MO (h ϛ.l) (ρ.take<|F<|h ϛ.l) b∨w.heap.size<=b) w w':=by
 subst e;obtain⟨K,x⟩:∃K,K=F (h ϛ.l):=⟨_,rfl⟩;have hK:(h ϛ.l++ϒ).take K=h ϛ.l:=Z4
 have pp:K<=F (h ϛ.l++ϒ):=Z4
 obtain⟨Dj,hM⟩:=HR.take pp (by rw[hK,x];exact hc);rw[hK]at Dj hM;obtain⟨R1,z1,j,z3,z4⟩:=IY.part (ϛ.hJ i) hj y;have sp:=λb=>MO.split (h:=h ϛ.l++ϒ) (ρ:=ρ) K b
 rw[hK]at sp;obtain⟨ϐ,m⟩:∃ϐ,ϐ=MT K (h ϛ.l++ϒ) ρ:=⟨_,rfl⟩;obtain⟨I,OE⟩:∃I,I=MO (h ϛ.l) (ρ.take K):=⟨_,rfl⟩;rw[←m]at Dj hM;rw[←x,←OE];have ke:(λb=>I b∨ϐ b)=MO (h ϛ.l++ϒ) ρ:=by rw[OE,m];grind
 have q:∀b,I b∨ϐ b↔MO (h ϛ.l++ϒ) ρ b:=λb=>iff_of_eq<|congrFun ke b
 have AY:∀b,MO (h ϛ.l++ϒ) ρ b->b<w.heap.size:=λb hb=>j.sh.lt b<|.inl hb
 have N8:∀b,I b->¬ϐ b:=λb h1 h2=>by
  rw[OE]at h1;rw[m]at h2;obtain⟨k,o,p,q1,r,X⟩:=h1;obtain⟨k',o',p',g1,g2,g3,g4⟩:=h2;rw[zO2]at r;split at r
  ·exact HR.dis k k' o o' p p' b Z2 Z4 g2 r g3 X g4
  ·cases r
 have pi:∀b,N b->¬MO (h ϛ.l++ϒ) ρ b:=λb hN=>((j.n b).1 hN).2.1
 let C':Bw P:=ϛ.part hn ϐ R1 I w (λb hb=>AY b<|(q b).1<|.inr hb) λb hb=>j.sh.lt b<|.inr hb
 have qS:A3 (MS (λb=>N b∨ϐ b) (h ϛ.l)<|ρ.take K) w (ρ.take K) (ds ϛ.l) args:=by
  have e:MS (λb=>N b∨ϐ b) (h ϛ.l) (ρ.take K)=MS N (h ϛ.l++ϒ) ρ:=funext λb=>propext<|hM b
  rw[e];exact fa.take (by rw[x];exact hd)
 refine(Ϙ.2 C' (λ_ _ _ h=>h) i hi (λb=>N b∨ϐ b) (ρ.take K) args w I R1 Dj qS ⟨Z4,AR.refl _ _,λb hb=>⟨λhg=>N8 b hg hb,j.sh.dis b<|(q b).1<|.inr hb⟩,λ_ h=>h,λ_ h=>.inl h,λb hb=>j.sh.dis b<|(q b).1<|.inl hb⟩
  ⟨⟨λb hb=>j.sh.dis b<|(q b).1<|.inl hb,λb hb=>hb.elim (λh=>AY b<|(q b).1<|.inl h) λh=>j.sh.lt b<|.inr h⟩,j.lo,λb hb=>by rw[OE];exact hb,λb=>?_⟩).mono ?_
 ·constructor
  ·rintro(hb|hb)
   ·exact⟨((j.n b).1 hb).1,λhg=>pi b hb<|(q b).1<|.inl hg,((j.n b).1 hb).2.2⟩
   ·exact⟨AY b<|(q b).1<|.inr hb,λhg=>N8 b hg hb,j.sh.dis b<|(q b).1<|.inr hb⟩
  grind[MS]
 ·rintro e w' ⟨N',ρs,G',R',Y,⟨j1,j2,j3,j4,j5,j6⟩,v,kp,ho⟩;have Bh:=j2.size;have ow:F ρs=K:=by rw[Y.len,x];exact hl
  have Aj:F ρ=K+F ϒ:=by rw[HR.len,zAi,x]
  have hN2:∀b,(b<w'.heap.size/\¬(G' b∨ϐ b)/\¬R' b)->N' b:=λb ⟨q1,r,X⟩=>(v.n b).2 ⟨q1,λh=>r<|.inl h,X⟩
  have ph:∀b,ϐ b->N' b:=λb hb=>(v.n b).2 ⟨zAQ (AY b<|(q b).1<|.inr hb) Bh,(j3 b hb).1,(j3 b hb).2⟩
  have pl:∀(k:U) (p:AK),ρ[k]?=Z p->(ρs++ρ.drop K)[k]?=Z p:=λk p s=>by
   rcases zCv k K with hk|hk
   ·rw[zMZ Z2];exact kp k p (by show k<F (h ϛ.l);rw[←x];exact hk) Z4
   grind
  have gl:∀{k:U} {p:AK},k<K->(ρs++ρ.drop K)[k]?=Z p->ρs[k]?=Z p:=λ{k p} hk s=>Z4
  have gr:∀{k:U} {p:AK},K<=k->(ρs++ρ.drop K)[k]?=Z p->ρ[k]?=Z p:=λ{k p} hk s=>by
   grind
  have Q:∀{k:U} {o:DO},k<K->(h' ϛ.l++ϒ)[k]?=Z (Z o)->(h' ϛ.l)[k]?=Z (Z o):=λ{k o} hk ho=>Z4
  have Ni:∀{k:U} {o:DO},K<=k->(h' ϛ.l++ϒ)[k]?=Z (Z o)->(h ϛ.l++ϒ)[k]?=Z (Z o):=λ{k o} hk ho=>by
   grind
  have Jk:∀b,MO (h' ϛ.l++ϒ) (ρs++ρ.drop K) b->G' b∨ϐ b:=by
   rintro b ⟨k,o,p,q1,r,X⟩;rcases zCv k K with hk|hk
   ·exact .inl<|v.own b ⟨k,o,p,Q hk q1,gl hk r,X⟩
   ·exact .inr (by rw[m];grind[MT])
  obtain⟨a,pj⟩:∃a:Ψ,a=λb=>b<w'.heap.size/\¬(G' b∨ϐ b)/\¬R' b:=⟨_,rfl⟩
  have Hh:∀b,a b->N' b:=λb hb=>Z4
  have pm:∀b,MS a (h' ϛ.l++ϒ) (ρs++ρ.drop K) b->b<w'.heap.size/\¬R' b:=λb hb=>by
   rcases hb with hb|hb
   ·grind
   ·rcases Jk b hb with hb|hb
    ·exact⟨v.sh.lt b<|.inl hb,j6 b hb⟩
    grind
  have g:BQ (MS N (h ϛ.l++ϒ) ρ) w ρ (MS a (h' ϛ.l++ϒ)<|ρs++ρ.drop K) w'<|ρs++ρ.drop K:=by
   refine⟨λb hb hm _=>j2.block b hb λu=>u<|.inr ?_,λb hb=>?_,pl⟩
   ·grind
   grind
  have RM:BQ (MS N' (h' ϛ.l) ρs) w' ρs (MS a (h' ϛ.l++ϒ)<|ρs++ρ.drop K) w'<|ρs++ρ.drop K:=by
   refine⟨λ_ _ _ _=>rfl,λb hb=>.inl ?_,λk p s=>?_⟩
   ·rcases hb with hb|hb
    ·exact .inl<|Hh b hb
    ·obtain⟨k,o,p,q1,r,X⟩:=hb;rcases zCv k K with hk|hk
     ·grind[MS,MO]
     ·exact .inl (ph b<|by rw[m];grind[MT])
   grind
  refine⟨a,ρs++ρ.drop K,λb=>G' b∨ϐ b,R',⟨by simp[ow,Aj,hl,x],λk o hk=>?_,λk o p b h1 h2 h3=>?_,λi i' o o' p p' b Af g1 g2 g3 g4 g5 g6=>?_,λb hb=>?_,Y.gi⟩,j1,⟨⟨λb hb=>hb.elim (j6 b) λh=>(j3 b h).2,λb hb=>?_⟩,v.lo,Jk,λb=>by rw[pj]⟩,λk p _ s=>pl k p s,ho.out RM,g,?_⟩
  ·rcases zCv k K with Da|Da
   ·obtain⟨p,s,hr⟩:=Y.obj k o<|Q Da hk;exact⟨p,RM.pl k p s,hr.out RM (S:=λ_=>False) (AR.refl _ _) (λ_ h=>h.elim) λ_ _ _ h=>h⟩
   ·obtain⟨p,s,hr⟩:=HR.obj k o<|Ni Da hk;refine⟨p,pl k p s,hr.out g (S:=λb=>b<w.heap.size/\¬(ϐ b∨R1 b)) (j2.mono λb hb u=>⟨hb,u⟩) (λb hb=>z3 b ⟨hb.1,λhr=>hb.2<|.inr hr⟩) λb _ hf u=>u.2<|.inl ?_⟩;rw[m];grind[MT]
  ·rcases zCv k K with Da|Da
   ·obtain⟨c1,c2,c3⟩:=Y.cel k o p b (Q Da h1) (gl Da h2) h3
    grind
   ·have EC:ϐ b:=by rw[m];grind[MT]
    obtain⟨c1,_,c,t,z,c3⟩:=HR.cel k o p b (Ni Da h1) (gr Da h2) h3;refine⟨c1,λu=>?_,c,t,z,(j2.block b (zAM.1 c3).1 λu=>u<|.inl EC).trans c3⟩
    grind
  ·rcases zCv i K with FW|FW <;> rcases zCv i' K with FI|FI
   ·exact Y.dis i i' o o' p p' b Af (Q FW g1) (Q FI g2) (gl FW g3) (gl FI g4) g5 g6
   ·exact(j3 b<|by rw[m];grind[MT]).1<|v.own b ⟨i,o,p,Q FW g1,gl FW g3,g5⟩
   ·exact(j3 b<|by rw[m];grind[MT]).1<|v.own b ⟨i',o',p',Q FI g2,gl FI g4,g6⟩
   ·exact HR.dis i i' o o' p p' b Af (Ni FW g1) (Ni FI g2) (gr FW g3) (gr FI g4) g5 g6
  ·exact Y.nlt b<|Hh b hb
  ·rcases hb with(hb|hb)|hb
   ·exact v.sh.lt b<|.inl hb
   ·grind
   ·exact v.sh.lt b<|.inr hb
  ·refine j2.mono λb hb u=>?_
   grind[MS]
def Bw.K(ϛ:Bw P)(Γ:A2)(Ϝ j:U)(ρ0:O AK):BS P Γ Ϝ where
 I:=λN h ρ w=>(ϛ.Y Γ Ϝ j).I N h ρ w/\Bm Ϝ ρ0 ρ
 st:=λ⟨a,b⟩ Ϙ v st k=>⟨(ϛ.Y Γ Ϝ j).st a Ϙ v st k,b.trans k⟩
def YQ(ϛ:Bw P)(Γ:A2)(i:μ)(fn:Func)(Ϝ j:U)(ρ0:O AK)(a:A DV)(h':DH):QY P Γ Ϝ:=λe S Y=>Y=ϛ.K Γ Ϝ j ρ0/\match a with
 |some Ϛ=>DD P fn Ϝ Ϛ h' e S
 |none=>e=.panic (pan i)/\∃p,BB Ϝ S p/\p.h=h'
variable{Ϝ:U}
theorem YC.of{S:μ}{fn:Func}{h:U->DH}(hf:P.funcs[f]?=Z fn)(m:fn.body.isSome=T)(X:(fn.name== "runtime.NumGoroutine")=D)(hL:∀l,F (h l)=Ϝ)
 (ϒ:∀(ϛ:Bw P) (i:U) (ρ0:O AK),ϛ.nv->(∃rest,ϛ.encs.drop i=ys++rest)->A6 P Γ η V Ϝ (ϛ.K Γ Ϝ i ρ0) (YQ ϛ Γ S fn Ϝ (i+F ys) ρ0 g<|h' ϛ.l) [.code<|AZ fn] ⟨ds ϛ.l++d (fn.ntmps-F (ds ϛ.l)) .any,h ϛ.l⟩):YC P Γ S f ds h ys g h':=by
 refine⟨λargs W=>HD hf m X args W,λϛ KU i hi N ρ args w G R HR fa hj y=>?_⟩;refine qx hf m (ϒ ϛ i ρ KU hi) HR fa ⟨⟨G,R,hj,y⟩,Bm.refl _ _⟩ ?_;rintro e S' ρ' a Y' s c ⟨rfl,q⟩ z ⟨q3,q4⟩;cases g with
 |none=>
  obtain⟨rfl,Cm,Bq,u⟩:=q;obtain⟨ρ3,r,n,x⟩:=Bq P Γ a ρ' s c z;obtain⟨I,S7,Q,y3⟩:=(ϛ.Y Γ Ϝ<|i+F ys).st q3 z.hr r.hr n x;have o:=r.hr;rw[u]at o y3;exact⟨a,ρ3,I,S7,o,Q,y3,by rw[hL];exact q4.trans x,rfl⟩
 |some Ϛ=>
  obtain⟨he,Cm,Bq,rs,Ml,p⟩:=q;obtain⟨ρ'',t,Qv,Rj⟩:=Bq P Γ a ρ' s c z;have y2:=(ϛ.Y Γ Ϝ<|i+F ys).st q3 z.hr t.hr Qv Rj;obtain⟨v,g1,g2⟩:=XR t Ml
  have key:∃v,(results fn s.tmps).run P c=.ok v c/\∃a ρ' G' R',Ap P Γ a (h' ϛ.l) ρ' c/\ϛ.J (i+F ys) G' R' c/\IY Γ a G' R' (h' ϛ.l) ρ' c/\Bm (F<|h ϛ.l) ρ ρ'/\S8 S (MS a (h' ϛ.l) ρ') c ρ' (Z Ϛ) (.returned v):=by
   rcases p with⟨p,u⟩|⟨_,p,X,hl,u⟩
   ·obtain⟨I,r,Q,y3⟩:=y2;have g3:=p _ _ _ _ g2;have Rh:=t.hr
    grind[Bm,S8]
   ·obtain⟨ρ3,r,n,x⟩:=BB.compact (Ϝ:=Ϝ) (θ Ϝ) Cm zQJ (λk hk=>zAQ (zAV.1 hk) hl) (λk hk=>by simp[hk]) P Γ a ρ'' s c t;obtain⟨I,S7,Q,y3⟩:=(ϛ.Y Γ Ϝ<|i+F ys).st y2 t.hr r.hr n x;have o:=r.hr;rw[u]at o n y3;refine⟨v,g1,a,ρ3,I,S7,o,Q,y3,by grind[Bm],v,rfl,?_⟩;have r0:=X _ _ _ _<|p _ _ _ _ g2;have r1:AJ (MS a (h' ϛ.l) ρ3) c Ϛ [] v:=AJ.out _ ⟨λ_ _ _ _=>rfl,λb m=>m.elim (λj=>.inl<|.inl j) λj=>(n.grow b j).imp .inr id,λ_ _ j=>by simp at j⟩ r0;exact AJ.out _ ⟨λ_ _ _ _=>rfl,λb m=>.inl m,λ_ _ j=>by simp at j⟩ r1
  grind
def Lp(fr:O DV):O DV:=fr.map λ_=>.any
theorem zCX{fr:O DV}{t:υ μ}(h:F fr=t.size):A3 ϗ w ρ (Lp fr) t:=⟨by simp[Lp,h],λj hj=>by
 grind[Lp,AJ]⟩
def PO{Ϝ:U}(Q:QY P Γ Ϝ):Exit->Act->κ->Prop
 | .panic c,a,w=>∃fr h ρ N Y,Q (.panic c) ⟨Lp fr,h⟩ Y/\F fr=a.tmps.size/\Ap P Γ N h ρ w/\Y.I N h ρ w/\a.defers= []
 |e,a,w=>∃S ρ N Y,QE Q e S Y/\AS P Γ N S ρ a w/\Y.I N S.h ρ w/\Ki V a.defers w/\Bd η V w
def PO.le{Q:QY P Γ Ϝ}{e:Exit}{a:Act}(h:PO Q e a w):∃S ρ N Y,QE Q e S Y/\AS P Γ N S ρ a w/\Y.I N S.h ρ w/\Ki V a.defers w/\Bd η V w:=by
 cases e with
 |panic c=>
  obtain⟨fr,h,ρ,N,Y,b,f,k,R,X⟩:=h;exact⟨⟨Lp fr,h⟩,ρ,N,Y,b,⟨k,zCX f⟩,R,X,Bd.none⟩
 |_=>exact h
def PO.put{Q:QY P Γ Ϝ}(c:O PanicEntry)(a:Act)(Ϛ:A Tmp)(v:μ)(w:κ)(h:PO Q (.panic c) (Act.put a Ϛ v) w):PO Q (.panic c) a w:=by
 obtain⟨fr,h,ρ,N,Y,b,e,k,R,X⟩:=h;refine⟨fr,h,ρ,N,Y,b,e.trans ?_,k,R,?_⟩
 ·cases Ϛ <;> simp[Act.put]
 ·cases Ϛ <;> simpa[Act.put]using X
def CN(P:ν)(Γ:A2){Ϝ:U}(Y:BS P Γ Ϝ)(ops:υ Oper)(l:Θ)(S:St)(Q:QY P Γ Ϝ):Prop:=∀N ρ a w,AS P Γ N S ρ a w->Y.I N S.h ρ w->a.defers= []->wpListIn η 0 P ops (PO Q) (CJ ops l) a w
variable{ops:υ Oper}
theorem PN :∀(l l':Θ),CJ ops (l++l')=CJ ops l++CJ ops l'
 |[],_=>rfl
 |i::l,l'=>by
  simp only[zTY,CJ];split
  ·rw[PN l l'];rfl
  ·exact PN l l'
theorem wv :CJ ops (θ ops.size)=ops.toList:=by
 have go:∀(k:U),k<=ops.size->CJ ops (θ k)=ops.toList.take k:=by
  intro k
  induction k with
  |zero=>intro _;rfl
  |succ k ih=>
   grind[List.range_succ,PN,List.take_add_one,CJ]
 simp_all[List.take_of_length_le]
section
variable{Ϝ:U}{ϛ:Bw P}{i:U}{ρ0:O AK}{Q:QY P Γ Ϝ}{ops:υ Oper}{S:St}{An:BT}{vs:O Prop}
variable{q:BT}{S':St}{Y:BS P Γ Ϝ}
def CN.done{l:Θ}(b:Dk η P)(c:Ca ops=T)(h:EL P Γ ops (CJ ops l) S An=Z (S',vs,q))(o:BX vs)(hk:Q .normal S' Y):CN P Γ Y ops l S Q:=λN ρ a w R y m=>
 Mv b c _ (NZ l) R h o λρ' a' w' R' st u=>Tr.done R y m Bd.none hk R' st.st (λk p _ e=>st.pl k p e) u
variable{id:U}
theorem Tr.ofO(h:CN P Γ Y ops (θ ops.size) S Q):Tr P Γ η V Ϝ Y (.region id ops D) S Q:=λN ρ a w R y m _=>zOa (zON (by
 grind[wv,CN,Ki])) λ_ _ _=>PO.le
def Ie(P:ν)(Γ:A2)(ops:υ Oper)(l:Θ)(p:U)(S:St)(An:BT):A<|FuncId×O DV×A Tmp×St×O Prop×BT:=match EL P Γ ops (CJ ops l) S An with
 |none=>V
 |some (y,vs,a)=>match ops[p]? with
  |none=>V
  |some o=>match Ly ops y o with
   |some T=>match o.op with
    | .call c=>match c.callee with
     | .value f=>match Ak y.fr f with
      | .fn g m cap=>Z (g,c.args.toList.map (Ak y.fr)++(θ m).map cap,o.dst,y,vs,a)
      |_=>V
     |_=>V
    |_=>V
   |_=>V
variable{ϒ:DH}{FD:BT}{dst:A Tmp}{p:U}{r n:Θ}
def CN.call{s:μ}{g:FuncId}{q:St}{ds:U->O DV}{h:U->DH}{ys:O (O DV)}{j:A DV}{h':U->DH}(z:Dk η P)(Y:Ca ops=T)(hC:ϛ.nv)
 (b:Ie P Γ ops r p S An=Z (g,ds ϛ.l,dst,q,vs,FD)) (hv:BX vs) (Ϙ:YC P Γ s g ds h ys j h') (hS:q.h=h ϛ.l++ϒ) (hl:F (h' ϛ.l)=F (h ϛ.l)) (hc:(h ϛ.l).all (Jn<|F<|h ϛ.l)=T) (hd:(ds ϛ.l).all (CS<|F<|h ϛ.l)=T) (hi:∃rest,ϛ.encs.drop i=ys++rest)
 (hk:match j with
  |some Ϛ=>CN P Γ (ϛ.K Γ Ϝ (i+F ys) ρ0) ops n ⟨Cq q.fr dst Ϛ,h' ϛ.l++ϒ⟩ Q
  |none=>Q (.panic<|pan s) ⟨Lp q.fr,h' ϛ.l++ϒ⟩<|ϛ.K Γ Ϝ (i+F ys) ρ0):CN P Γ (ϛ.K Γ Ϝ i ρ0) ops (r++p::n) S Q:=λN ρ a w R y m=>by
 unfold Ie at b;split at b
 ·cases b
 rename_i S2 Eg Gc h1;split at b
 ·cases b
 rename_i o x;split at b
 ·rename_i hw;split at b
  ·rename_i c Jf;split at b
   ·rename_i f LU;split at b
    ·rename_i g' m' cap hf;simp only[zB2,zLJ]at b;obtain⟨rfl,e2,rfl,rfl,rfl,rfl⟩:=b;rw[PN];have e3:CJ ops (p::n)=o::CJ ops n:=by simp only[CJ,x]
     rw[e3];refine QA z Y _ (NZ r) R h1 hv λρ1 t w1 X I Jh=>?_
     obtain⟨⟨G,R0,j1,y1⟩,Cs⟩:=(ϛ.K Γ Ϝ i ρ0).st y R.hr X.hr I.st λk p _ u=>I.pl k p u;obtain⟨args,Je,J⟩:=aJ X o Jf LU hf Ϙ.1;rw[e2]at J;unfold wpListIn;rw[zAB<|H9 X hw];refine⟨λf _=>z.fn f,?_⟩;rw[zMi _ _ _<|IR Y x,Je];refine⟨λhx=>(by cases hx),(YC.call Ϙ hC hi hS X.hr hl hc hd J j1 y1).mono ?_⟩;have W:t.defers= []:=Jh.trans m;have Cu:∀v,(t.put o.dst v).defers=t.defers:=λv=>by cases x:o.dst <;> simp[Act.put]
     rintro e w2 ⟨N2,ρ2,G2,R2,Ij,j2,y2,KE,LJ,hO,_⟩;have Lb:=X.fr.out hO;have Jc:Bm Ϝ ρ0 ρ2:=λk p hk u=>hO.pl k p<|Cs k p hk u
     cases j with
     |none=>
      have he:e=.panicked (pan s):=LJ;subst he;exact⟨_,_,ρ2,N2,_,hk,Lb.1,Ij,⟨⟨G2,R2,j2,y2⟩,Jc⟩,W⟩
     |some Ϛ=>
      obtain⟨v,rfl,E2⟩:=LJ;exact hk N2 ρ2 _ w2 (Gw (S:=⟨S2.fr,h' ϛ.l++ϒ⟩) ⟨Ij,Lb⟩ o.dst E2) ⟨⟨G2,R2,j2,y2⟩,Jc⟩<|(Cu v).trans W
    ·cases b
   ·cases b
  ·cases b
 ·cases b
theorem Tr.ordO{J:O (Θ×U)}{c b:Θ}(e:Dk η P)(z:P.follows .mixedOrders=T)(f:Ar ops J c b)
 (h:Pu P Γ ops S.h J c S An=Z (S',vs,q)) (o:BX vs) (hk:CN P Γ Y ops b S' Q):Tr P Γ η V Ϝ Y (.region id ops T) S Q:=λN ρ a w R y m _=>by
 simp only[Ar,zAK]at f;obtain⟨⟨h1,g⟩,i⟩:=f;have s:A9 w w.drew:=A9.toDrew w;refine zOa (sG e.fn J c b z Z4<|fv (Q:=PO Q) e g J c b i (R.ext s) (Di.refl _ _ _) (A9.refl _) h o λρ' j w' R' st u=>?_) λ_ _ _=>PO.le
 exact hk N ρ' j w' R' (Y.st y R.hr R'.hr ((A8.ext s).trans st.st) λk p _ l=>st.pl k p l)<|u.trans m
def TF(P:ν)(Γ:A2)(ops:υ Oper)(l:Θ)(p:U)(S:St)(An:BT):A<|O DV×U×A Tmp×St×O Prop×BT:=match EL P Γ ops (CJ ops l) S An with
 |none=>V
 |some (y,vs,a)=>match ops[p]? with
  |none=>V
  |some o=>match Ly ops y o with
   |some T=>match o.op with
    | .call c=>match c.callee with
     | .value f=>match Ak y.fr f with
      | .yl l=>match(c.args.toList.map<|Ak y.fr).all G5 with
       |true=>Z (c.args.toList.map<|Ak y.fr,l,o.dst,y,vs,a)
       |false=>V
      |_=>V
     |_=>V
    |_=>V
   |_=>V
variable{s:St}
def CN.yield{x:O DV}{W:BT}(z:Dk η P)(Y:Ca ops=T)(hC:ϛ.nv)
 (b:TF P Γ ops r p S An=Z (x,ϛ.l,dst,s,vs,W)) (hv:BX vs) (t:ϛ.encs[i]?=Z x) (hk:CN P Γ (ϛ.K Γ Ϝ (i+1) ρ0) ops n ⟨Cq s.fr dst<|.bool T,s.h⟩ Q):CN P Γ (ϛ.K Γ Ϝ i ρ0) ops (r++p::n) S Q:=λN ρ a w R y m=>by
 unfold TF at b;split at b
 ·cases b
 rename_i G Eg Gc h1;split at b
 ·cases b
 rename_i o u;split at b
 ·rename_i hw;split at b
  ·rename_i c Jf;split at b
   ·rename_i f LU;split at b
    ·rename_i l hl;split at b
     ·rename_i Rq;simp only[zB2,zLJ]at b;obtain⟨rfl,rfl,rfl,rfl,rfl,rfl⟩:=b;rw[PN];have e3:CJ ops (p::n)=o::CJ ops n:=by simp only[CJ,u]
      rw[e3];refine QA z Y _ (NZ r) R h1 hv λρ1 j w1 X I Jh=>?_
      obtain⟨⟨G0,R0,y1,y2⟩,Cs⟩:=(ϛ.K Γ Ϝ i ρ0).st y R.hr X.hr I.st λk p _ hp=>I.pl k p hp;obtain⟨R',z1,q,z3,_⟩:=IY.part (ϛ.hJ i) y1 y2;obtain⟨fn,tmps,NA,body,hy,hR⟩:=ϛ.hy i _ _ _ R' w1 t (YV.of (g:=Ak G.fr) (f:=j.eval) (λx=>Be X x) z3 Rq) z1 q.sh;unfold wpListIn;rw[zAB<|H9 X hw]
      have Yu:j.eval f=.func (.yield ϛ.l) #[] #[]:=by
       have b:=Be X f;rw[hl]at b;exact b
      refine⟨λf _=>z.fn f,?_⟩;rw[zMi _ _ _<|IR Y u,ld Jf LU Yu rfl,hy];refine⟨λt=>(by cases t),hR.mono ?_⟩;have Aa:j.defers= []:=Jh.trans m;have Cu:∀v,(j.put o.dst v).defers=j.defers:=λv=>by cases u:o.dst <;> simp[Act.put]
      rintro e W' ⟨J,hj⟩;obtain⟨rfl,Dg⟩:=hj.resolve_right λh=>hC _ _ _ h.2
      obtain⟨H',fo⟩:=q.later X.hr J;exact hk _ ρ1 _ W' (Gw (S:=G) ⟨H',X.fr.out fo⟩ o.dst (Ϛ:=.bool T) (v:=.bool T) rfl) ⟨⟨_,_,Dg,q.sh.upd J,q.lo,λ_ h=>h,λ_=>Iff.rfl⟩,Cs⟩<|(Cu _).trans Aa
     ·cases b
    ·cases b
   ·cases b
  ·cases b
 ·cases b
def Sf(ops:υ Oper)(p:U)(b:Θ):Θ->υ ζ->ζ
 |[],o=>(Region.ready .any ops o== [p])&&Ta ops b (o.setIfInBounds p T)&&((θ ops.size).all λj=>b.contains j||(o.setIfInBounds p T).getD j T)
 |r::y,o=>UD ops (λj=>j==p) r o&&((θ ops.size).all λj=>!b.contains j||Gu ops ops.size j r)&&Sf ops p b y (o.setIfInBounds r T)
def XA(P:ν)(ops:υ Oper)(xs:Θ):Θ->St->O (U×DV)->A (St×O Prop×O (U×DV))
 |[],S,k=>Z (S,[],k)
 |r::y,S,k=>match ops[r]? with
  |none=>V
  |some o=>match UK P ops ⟨S.fr,yp xs S.h⟩ k o with
   |none=>V
   |some (a,z,b)=>match XA P ops xs y ⟨a.fr,S.h⟩ b with
    |none=>V
    |some (c,e,f)=>Z (c,z++e,f)
def ra(xs:Θ)(h:DH):ζ:=xs.all λk=>decide (F h<=k)||(h.getD k V).isSome
def Zp(xs:Θ)(ρ:O AK)(w:κ)(b:U):Prop:=(∃k q,k∈xs/\ρ[k]?=Z q/\q.foot b)∨w.heap.size<=b
variable{xs:Θ}
theorem lu{p:U}{e:Θ}{Q':Exit->Act->κ->Prop}(l:Dk η P)(n:Ca ops=T)(s:Region.noSelect ops=T)(x:∀c a Ϛ v w,Q' (.panic c) (Act.put a Ϛ v) w->Q' (.panic c) a w){N:Ψ}{ρ:O AK}{w:κ}{g m:U}:
 ∀(y:Θ) {i:υ ζ} {S:St} {a:Act} {G:O (U×DV)} {S':St} {vs:O Prop} {I:O (U×DV)},HO ops i->AS P Γ N S ρ a w->ra xs S.h=T->Sf ops p e y i=T->XA P ops xs y S G=Z (S',vs,I)->BX vs->
  (∀J f,HO ops J->Sf ops p e [] J=T->AS P Γ N S' ρ f w->S'.h=S.h->f.defers=a.defers->Jz η 0 P ops Q' (RZ ops (λj=>j==p) λ_ b=>N b∨Zp xs ρ w b) (λj=>e.contains j) g m J f w)->
  Jz η 0 P ops Q' (RZ ops (λj=>j==p) λ_ b=>N b∨Zp xs ρ w b) (λj=>e.contains j) g (F y+m) i a w
 |[],i,S,a,G,S',vs,I,Y,R,t,hk,h,hv,K=>by
  cases h
  grind
 |r::y,i,S,a,G,S',vs,I,Y,R,t,hk,h,hv,K=>by
  simp only[Sf,zAK]at hk;obtain⟨⟨k1,k2⟩,k3⟩:=hk;simp only[XA]at h;split at h
  ·cases h
  rename_i o Q;split at h
  ·cases h
  rename_i S1 DE OQ X;split at h
  ·cases h
  rename_i S2 Eg qk h2;cases h;obtain⟨B2,Cn⟩:=D5.1 hv
  have hT:∀j,j<ops.size->e.contains j=T->Gu ops ops.size j r=T:=λj hj ht=>by
   grind
  have keep:∀W,AR (λb=>N b∨Zp xs ρ w b) w W->Keep (λb=>N b∨∃k o q,(!xs.contains k)=D/\S.h[k]?=Z (Z o)/\ρ[k]?=Z q/\q.foot b) w W:=λW hu b o u hb hc=>by
   have AY:b<w.heap.size:=zMU w ⟨b,o,V⟩ hc;refine(qw<|hu.block b AY ?_).trans hc;rintro(h|⟨k,q,X,h2,h3⟩|h)
   ·exact hb<|.inl h
   ·have hk:k<F S.h:=by rw[←R.hr.len];grind
    have hx:=zAP.1 t k X;simp only[zCz,zLV]at hx;rcases hx with hx|hx
    ·omega
    ·cases hg:S.h.getD k V with
     |none=>rw[hg]at hx;cases hx
     |some ob=>grind
   ·omega
  have Px:(Region.ready .any ops i).contains r=T:=by
   simp_all[UD]
  have Cu:∀v,(a.put o.dst v).defers=a.defers:=λv=>by cases Q:o.dst <;> simp[Act.put]
  obtain⟨e1,hst⟩:=XY (R.sel (p:=λk=>!xs.contains k)) X B2
  have back:∀{f:Act},AS P Γ (λb=>N b∨∃k o q,(!xs.contains k)=D/\S.h[k]?=Z (Z o)/\ρ[k]?=Z q/\q.foot b) S1 ρ f w->AS P Γ N ⟨S1.fr,S.h⟩ ρ f w:=λ{f} z=>by
   have z:=z.fr;rw[e1]at z;exact AS.unsel (p:=λk=>!xs.contains k) R.hr z
  rw[show F (r::y)+m=(F y+m)+1 by simp;omega];rcases hst with⟨hw,v,g1,g2⟩|⟨hw,g2⟩
  ·refine dG (Zi:=λb=>N b∨Zp xs ρ w b) l.fn n s x Q Y k1 (λ_ _ _ h=>h) hT (.inl ⟨hw,λW hu=>g1 W<|keep W hu⟩) ?_;exact lu l n s x y (aH Y Px) (back g2) t k3 h2 Cn λl' f q1 q2 q3 q4 q5=>K l' f q1 q2 q3 q4<|q5.trans<|Cu v
  ·refine dG (Zi:=λb=>N b∨Zp xs ρ w b) l.fn n s (v:=undef) x Q Y k1 (λ_ _ _ h=>h) hT (.inr ⟨hw,rfl⟩) ?_;exact lu l n s x y (aH Y Px) (back g2) t k3 h2 Cn λl' f q1 q2 q3 q4 q5=>K l' f q1 q2 q3 q4<|q5.trans<|Cu undef
def hidB(xs:Θ)(K:U)(h:DH):ζ:=(θ K).all λk=>xs.contains k||(match h.getD k V with
 |some (.ro _)=>T
 |none=>T
 |_=>D)
theorem Tr.drawC{x:Θ}{I:μ}{g:FuncId}{co OQ:O (U×DV)}{Y:O Prop}{ds:U->O DV}{h:U->DH}{ys:O (O DV)}{u:A DV}{h':U->DH}(hF:Dk η P)(hm:P.follows .mixedOrders=T)
 (hB:(Ca ops&&Region.noSelect ops&&(F x+1+F n==ops.size)&&(n.all λt=>decide (t<ops.size))&&Sf ops p n x (Array.replicate ops.size D)&&ra xs S.h&&hidB xs (F<|h ϛ.l) S.h)=T) (hC:ϛ.nv)
 (hs:XA P ops xs x S co=Z (s,Y,OQ)) (B2:BX Y) (r:Ie P Γ ops [] p s An=Z (g,ds ϛ.l,dst,s,vs,FD)) (Ϙ:YC P Γ I g ds h ys u h') (hS:S.h=h ϛ.l++ϒ) (hl:F (h' ϛ.l)=F (h ϛ.l)) (hc:(h ϛ.l).all (Jn<|F<|h ϛ.l)=T) (hd:(ds ϛ.l).all (CS<|F<|h ϛ.l)=T) (hi:∃rest,ϛ.encs.drop i=ys++rest)
 (hk:match u with
  |some Ϛ=>CN P Γ (ϛ.K Γ Ϝ (i+F ys) ρ0) ops n ⟨Cq s.fr dst Ϛ,h' ϛ.l++ϒ⟩ Q
  |none=>Q (.panic<|pan I) ⟨Lp s.fr,h' ϛ.l++ϒ⟩<|ϛ.K Γ Ϝ (i+F ys) ρ0):Tr P Γ η V Ϝ (ϛ.K Γ Ϝ i ρ0) (.region id ops T) S Q:=λN ρ a w R y m _=>by
 simp only[zAK,zB1]at hB;obtain⟨⟨⟨⟨⟨⟨b1,b2⟩,b3⟩,b4⟩,b5⟩,b6⟩,b7⟩:=hB;have hE:A9 w w.drew:=A9.toDrew w;have Rd:=R.ext hE;have yd:=(ϛ.K Γ Ϝ i ρ0).st y R.hr Rd.hr (A8.ext hE) λ_ _ _ h=>h
 refine zOa (jv (Q:=PO Q) (m:=F x+1) hm b3<|lu (Q':=PO Q) hF b1 b2 (λc a Ϛ v w h=>PO.put c a Ϛ v w h) x qn Rd b6 b5 hs B2 λAi J BI gI X eh Jh=>?_) λ_ _ _=>PO.le
 simp only[Sf,zAK,zB1]at gI;obtain⟨⟨c1,c2⟩,c3⟩:=gI;refine⟨λh0=>(by rw[c1]at h0;cases h0),λq hq=>?_⟩;rw[c1,zCr]at hq;subst hq;unfold Ie at r;split at r
 ·cases r
 rename_i S2 Eg Gc h1;simp only[CJ,EL,zB2,zLJ]at h1;obtain⟨rfl,_,_⟩:=h1;split at r
 ·cases r
 rename_i o W;split at r
 ·rename_i hw;split at r
  ·rename_i c Jf;split at r
   ·rename_i f LU;split at r
    ·rename_i g' m' cap hf;simp only[zB2,zLJ]at r;obtain⟨rfl,e2,rfl,_,_,_⟩:=r;rw[←eh]at yd hS;obtain⟨⟨G,R0,j1,y1⟩,Cs⟩:=yd;obtain⟨args,Je,LQ⟩:=aJ X o Jf LU hf Ϙ.1;rw[e2]at LQ;have Aa:J.defers= []:=Jh.trans m;have Cu:∀v,(J.put o.dst v).defers=J.defers:=λv=>by cases W:o.dst <;> simp[Act.put]
     unfold wpOpIn;simp only[W];rw[zAB<|H9 X hw];refine⟨λf _=>hF.fn f,?_⟩;rw[zMi _ _ _<|IR b1 W,Je];refine⟨λhx=>(by cases hx),(YC.call Ϙ hC hi hS X.hr hl hc hd LQ j1 y1).mono ?_⟩;rintro e w2 ⟨N2,ρ2,G2,R2,Ij,j2,y2,KE,LJ,hO,hU⟩;have Lb:=X.fr.out hO;have Jc:Bm Ϝ ρ0 ρ2:=λk p hk hp=>hO.pl k p<|Cs k p hk hp
     cases u with
     |none=>
      have he:e=.panicked (pan I):=LJ;subst he;exact⟨_,_,ρ2,N2,_,hk,Lb.1,Ij,⟨⟨G2,R2,j2,y2⟩,Jc⟩,Aa⟩
     |some Ϛ=>
      obtain⟨v,rfl,E2⟩:=LJ;refine⟨⟨λhp=>?_,λ_=>hU.mono λb _ hb=>?_⟩,λj hj ht=>?_,kN n _ _ _ c2<|kO n _ _ (λt ht=>Z4)<|hk N2 ρ2 _ w2 (Gw (S:=⟨s.fr,h' ϛ.l++ϒ⟩) ⟨Ij,Lb⟩ o.dst E2) ⟨⟨G2,R2,j2,y2⟩,Jc⟩<|(Cu v).trans Aa⟩
      ·grind[UN,UL]
      ·rcases hb with hb|⟨k,ob,q,q1,z,q3⟩|hb
       ·exact .inl hb
       ·rw[zO2]at z;split at z
        ·rename_i Gh;have ZC:s.h[k]?=Z (Z ob):=Z4
         have hx:=zAP.1 b7 k<|zAV.2 Gh;rw[←eh,zAL,ZC]at hx;simp only[zCz]at hx;rcases hx with hx|hx
         ·grind[Zp]
         ·obtain⟨q',Pz,Ct⟩:=X.hr.obj k _ ZC;have eq:q'=q:=zAN<|Pz.symm.trans z;subst eq;cases ob <;> simp at hx;rw[Ct.1]at q3;exact q3.elim
        ·cases z
       ·exact .inr<|.inr hb
      grind
    ·cases r
   ·cases r
  ·cases r
 ·cases r
end
end
def AJ.pl{ϗ I:Ψ}{w:κ}(J:∀b,I b->ϗ b){ρ ρ':O AK}(S:∀(k:U) (p:AK),ρ[k]?=Z p->∃q,ρ'[k]?=Z { p with foot:=q }):∀(Ϛ:DV) {v:μ},AJ ϗ w Ϛ ρ v->AJ I w Ϛ ρ' v:=by
 have low:∀(Ϛ:DV) {v:μ},AJ ϗ w Ϛ [] v->AJ I w Ϛ [] v:=λϚ v h=>h.out Ϛ ⟨λ_ _ _ _=>rfl,λb K=>.inl<|J b K,λk p hk=>by simp at hk⟩
 intro Ϛ
 induction Ϛ with
 |any=>intro v _;trivial
 |nils=>intro v h;exact h
 |int k n=>intro v h;exact h
 |bool b=>intro v h;exact h
 |str s=>intro v h;exact h
 |ints l=>intro v h;exact low (.ints l) h
 |bools l=>intro v h;exact low (.bools l) h
 |sl m n f _=>intro v h;exact low (.sl m n f) h
 |fp m f _=>intro v h;exact low (.fp m f) h
 |agg m f t=>rintro v ⟨cs,e,x,h⟩;exact⟨cs,e,x,λj y=>let⟨u,z,G⟩:=h j y;⟨u,z,t j G⟩⟩
 |tup m f t=>rintro v ⟨cs,e,x,h⟩;exact⟨cs,e,x,λj y=>let⟨u,z,G⟩:=h j y;⟨u,z,t j G⟩⟩
 |fn g m c t=>rintro v ⟨cs,e,x,h⟩;exact⟨cs,e,x,λj y=>let⟨u,z,G⟩:=h j y;⟨u,z,t j G⟩⟩
 |ref k j=>rintro v ⟨p,o,e⟩;obtain⟨q,h⟩:=S k p o;exact⟨_,h,e⟩
 |msl k m off n=>rintro v ⟨p,cap,o,r⟩;obtain⟨q,h⟩:=S k p o;exact⟨_,cap,h,r⟩
 |mp k m i j=>rintro v ⟨p,o,e⟩;obtain⟨q,h⟩:=S k p o;exact⟨_,h,e⟩
 |it k=>rintro v ⟨p,o,e⟩;obtain⟨q,h⟩:=S k p o;exact⟨_,h,e⟩
 |yl l=>intro v h;exact h
 |cst u=>intro v h;exact h
 |mri k i=>rintro v ⟨p,vs,o,r⟩;obtain⟨q,h⟩:=S k p o;exact⟨_,vs,h,r⟩
 |mse k m off n=>rintro v ⟨p,a,cap,o,r⟩;obtain⟨q,h⟩:=S k p o;exact⟨_,a,cap,h,r⟩
 |gr k=>rintro v ⟨p,a,n,cap,o,r⟩;obtain⟨q,h⟩:=S k p o;exact⟨_,a,n,cap,h,r⟩
theorem BB.ro{Ϝ k:U}{S:St}{l:O DV}(hk:S.h[k]?=Z (Z<|.cells l))(hL:Ϝ<=k):BB Ϝ S ⟨S.fr,S.h.set k<|Z<|.ro l⟩:=λP Γ N ρ a w R=>by
 obtain⟨p,Q,W⟩:=R.hr.obj k _ hk;have W:Ac w p (F l) _:=W;obtain⟨zz,Mm⟩:=W;have GA:k<F ρ:=(zDh.1 Q).1;have hkh:k<F S.h:=(zDh.1 hk).1
 let p':AK:={ p with foot:=λ_=>False }
 have G:∀(i:U) (q:AK),(ρ.set k p')[i]?=Z q->(i=k/\q=p')∨(i≠k/\ρ[i]?=Z q):=λi q h=>by
  grind
 have Y:∀(i:U) (q:AK),i≠k->ρ[i]?=Z q->(ρ.set k p')[i]?=Z q:=λi q hi h=>Z4
 have AH:(ρ.set k p')[k]?=Z p':=Z4
 have F3:∀(i:U) (q:AK),ρ[i]?=Z q->∃ft,(ρ.set k p')[i]?=Z { q with foot:=ft }:=λi q h=>by
  by_cases e:i=k
  ·grind
  ·exact⟨q.foot,Y i q e h⟩
 have X:∀(i:U) (o:DO),(S.h.set k<|Z<|.ro l)[i]?=Z (Z o)->(i=k/\o=.ro l)∨(i≠k/\S.h[i]?=Z (Z o)):=λi o h=>by
  grind
 have Jk:∀b,MO (S.h.set k<|Z<|.ro l) (ρ.set k p') b->MO S.h ρ b/\b≠p.blk:=by
  rintro b ⟨i,o,q,J,K,h3⟩;rcases G i q K with⟨rfl,rfl⟩|⟨hi,K⟩
  ·exact h3.elim
  ·rcases X i o J with⟨rfl,_⟩|⟨_,J⟩
   ·exact τ rfl hi
   ·exact⟨⟨i,o,q,J,K,h3⟩,λe=>R.hr.dis i k o _ q p b hi J hk K Q h3<|by rw[zz];exact e⟩
 have z:∀b,MS N (S.h.set k<|Z<|.ro l) (ρ.set k p') b->MS N S.h ρ b:=λb c=>c.imp id λh=>(Jk b h).1
 have zOn:=R.hr.cel k _ p p.blk hk Q (by rw[zz]);have I:∀(Ϛ:DV) {v:μ},AJ (MS N S.h ρ) w Ϛ ρ v->AJ (MS N (S.h.set k<|Z<|.ro l)<|ρ.set k p') w Ϛ (ρ.set k p') v:=λϚ v h=>h.pl z F3
 refine⟨ρ.set k p',⟨⟨by simp[R.hr.len],λi o hi=>?_,λi o q b r s y=>?_,λi i' o o' q q' b Af r s y g4 g5 g6=>?_,R.hr.nlt,R.hr.gi⟩,⟨R.fr.1,λj hj=>I _<|R.fr.2 j hj⟩⟩,⟨AR.refl _ _,λb c=>.inl (Jk b c).1⟩,λi q hi hq=>Y i q Z2 hq⟩
 ·rcases X i o hi with⟨rfl,rfl⟩|⟨Af,hi⟩
  ·refine⟨p',AH,rfl,λhx=>hx.elim zOn.2.1 λhx=>(Jk _ hx).2 rfl,?_⟩;exact Ac.out (R':=λj u=>AJ (MS N (S.h.set i<|Z<|.ro l)<|ρ.set i p') w (l.getD j .any) (ρ.set i p') u) (show Ac w { p' with foot:=λb=>b=p'.blk } (F l) _ from⟨rfl,Mm⟩) rfl λj u _ t=>I _ t
  ·obtain⟨q,hq,g⟩:=R.hr.obj i o hi;refine⟨q,Y i q Af hq,?_⟩;cases o with
   |cells l'=>exact Ac.out g rfl λj u _ t=>I _ t
   |ints l'=>exact Ac.out g rfl λj u _ t=>t
   |bools l'=>exact Ac.out g rfl λj u _ t=>t
   |arr m n f=>exact Ac.out g rfl λj u _ t=>AJ.out _ ⟨λ_ _ _ _=>rfl,λb c=>.inl<|z b c,λ_ _ h=>by simp at h⟩ t
   |gro m n f=>exact Bi.gr g (λ_=>rfl) λt=>AJ.out _ ⟨λ_ _ _ _=>rfl,λb c=>.inl<|z b c,λ_ _ h=>by simp at h⟩ t
   |iter encs=>
    obtain⟨gf,lb,Rd,q1,q2,q3,q4⟩:=g;exact⟨gf,lb,Rd,q1,q2,λb c=>⟨λhm=>(q3 b c).1<|z b hm,(q3 b c).2⟩,q4⟩
   |ro l'=>
    obtain⟨r1,r2,r3⟩:=g;exact⟨r1,λhm=>r2<|z _ hm,Ac.out r3 rfl λj u _ t=>I _ t⟩
   |mo x=>exact g
 ·rcases G i q s with⟨rfl,rfl⟩|⟨hi,s⟩
  ·exact y.elim
  ·rcases X i o r with⟨rfl,_⟩|⟨_,r⟩
   ·exact τ rfl hi
   ·exact R.hr.cel i o q b r s y
 ·rcases G i q y with⟨rfl,rfl⟩|⟨hi,y⟩
  ·exact g5.elim
  ·rcases G i' q' g4 with⟨rfl,rfl⟩|⟨CF,g4⟩
   ·exact g6.elim
   ·rcases X i o r with⟨rfl,_⟩|⟨_,r⟩
    ·exact τ rfl hi
    ·rcases X i' o' s with⟨rfl,_⟩|⟨_,s⟩
     ·exact τ rfl CF
     ·exact R.hr.dis i i' o o' q q' b Af r s y g4 g5 g6
section
theorem VQ{h1 h:DH}(hS:h1.take (F h)=h):h1=h++h1.drop (F h):=by
 grind[List.take_append_drop]
section
variable{Ϝ:U}{k K:O KI}{S:St}{ops:υ Oper}
 {c:O (DV×DH×ζ)} {o:O (U×DV)} {z:O (U×Fz)} {v:O Prop} {fr:O DV} {h h1:DH} {l l1 l2:Θ} {p:U} {dst:A Tmp}
variable{Q:QY B GG Ϝ}{Y:BS B GG Ϝ}
theorem MM{e:O PanicEntry}(h:Q (.panic e) S Y):∀(k:O KI),BN B GG η V Ϝ Q k (.panic e) S Y
 |[]=>h
 | .blk _::k=>MM h k
 | .code _::k=>MM h k
 | .lend _::k=>MM h k
 | .scp::k=>MM h k
 | .loopN _ _::k=>MM h k
def RL(Ϝ:U)(h:DH):DH:=(θ Ϝ).map λk=>PF (θ Ϝ)<|h.getD k V
def dD:O KI->A (υ Oper×O KI)
 | .code (.region _ ops T)::k=>Z (ops,k)
 |_=>V
def UQ(N:Θ)(r:St×O Prop×BT):O DV×DH×O Prop:=(forget N r.1.fr,r.1.h,r.2.1)
variable{N:Θ}
theorem dw{x:A (St×O Prop×BT)}(h:x.map (UQ N)=Z (fr,h1,v)):∃f a,x=Z (⟨f,h1⟩,v,a)/\fr=forget N f:=by
 cases x with
 |none=>cases h
 |some q=>
  obtain⟨⟨f,g⟩,w,a⟩:=q
  simp_all[UQ]
variable{S':St}
def CN.weaken(q:BB Ϝ S S')(hk:CN B GG Y ops l S' Q):CN B GG Y ops l S Q:=λN ρ a w R y m=>by
 obtain⟨ρ1,X,z,I⟩:=q B GG N ρ a w R;exact hk N ρ1 a w X (Y.st y R.hr X.hr z I) m
theorem Ov{f:O DV}{Ϛ:DV}(e0:fr=forget N f):BB Ϝ ⟨Cq f dst Ϛ,h⟩ ⟨Cq fr dst Ϛ,h⟩:=by
 subst e0;cases dst with
 |none=>exact BB.forget N f h
 |some t=>
  refine BB.fr (by simp[Cq,ZV]) λj g=>?_
  have g:j<F f:=by simpa[Cq]using g
  show AO ((f.set t Ϛ).getD j .any) (((forget N f).set t Ϛ).getD j .any)
  by_cases e:t=j
  ·grind[ZV,AO.refl]
  ·have e1:(f.set t Ϛ).getD j .any=f.getD j .any:=Z4
   have e2:((forget N f).set t Ϛ).getD j .any=(forget N f).getD j .any:=Z4
   grind[qF,AO.refl,AO.any]
def U6:O KI->ζ
 | .code _::_=>T
 | .blk _::k=>U6 k
 | .scp::k=>U6 k
 | .loopN _ _::_=>T
 |_=>D
def A6.leH{ϖ:Fence}{ϙ:A U}(q:BB Ϝ S S'):∀{k:O KI},U6 k=T->A6 B GG ϖ ϙ Ϝ Y Q k S'->A6 B GG ϖ ϙ Ϝ Y Q k S
 | .code _::_,_,h=>Tr.weaken q h
 | .blk _::k,e,h=>A6.leH (k:=k) q e h
 | .scp::k,e,h=>A6.leH (k:=k) q e h
 | .loopN 0 _::_,_,h=>h.elim
 | .loopN (_+1) _::_,_,h=>Tr.weaken q h
 | .lend _::_,e,_=>by cases e
 |[],e,_=>by cases e
def Ng(N:Θ)(r:FuncId×O DV×A Tmp×St×O Prop×BT):FuncId×O DV×A Tmp×O DV×DH×O Prop:=(r.1,r.2.1,r.2.2.1,forget N r.2.2.2.1.fr,r.2.2.2.1.h,r.2.2.2.2.1)
variable{ds:O DV}{g:FuncId}
theorem Xk{x:A (FuncId×O DV×A Tmp×St×O Prop×BT)}(h:x.map (Ng N)=Z (g,ds,dst,fr,h1,v)):∃f a,x=Z (g,ds,dst,⟨f,h1⟩,v,a)/\fr=forget N f:=by
 cases x with
 |none=>cases h
 |some q=>
  obtain⟨g,ds,dst,⟨f,g'⟩,w,a⟩:=q
  simp_all[Ng]
def du(N:Θ)(r:O DV×U×A Tmp×St×O Prop×BT):O DV×U×A Tmp×O DV×DH×O Prop:=(r.1,r.2.1,r.2.2.1,forget N r.2.2.2.1.fr,r.2.2.2.1.h,r.2.2.2.2.1)
theorem xW{x:A (O DV×U×A Tmp×St×O Prop×BT)}{g:O DV}{ds:U}(h:x.map (du N)=Z (g,ds,dst,fr,h1,v)):∃f a,x=Z (g,ds,dst,⟨f,h1⟩,v,a)/\fr=forget N f:=by
 cases x with
 |none=>cases h
 |some q=>
  obtain⟨g,ds,dst,⟨f,g'⟩,w,a⟩:=q
  simp_all[du]
theorem zQt{y:St}{vs:O Prop}{w a:BT}(h:Ie B GG ops [] p S w=Z (g,ds,dst,y,vs,a)):y=S:=by
 unfold Ie at h;simp only[CJ,EL]at h;split at h
 ·cases h
 grind
end
def cZ:Θ->DH->A DH
 |[],h=>Z h
 |k::s,h=>match h.getD k V with
  |some (.cells l)=>cZ s<|h.set k<|Z<|.ro l
  |_=>V
variable{fr:O DV}{Ϝ:U}
def BB.ros :∀(s:Θ) {h h':DH},cZ s h=Z h'->(s.all λk=>Nat.ble Ϝ k)=T->BB Ϝ ⟨fr,h⟩ ⟨fr,h'⟩
 |[],h,h',e,_=>by cases e;exact BB.refl _ _
 |k::s,h,h',e,hk=>by
  simp only[zPD,zAK]at hk;simp only[cZ]at e;split at e
  ·rename_i l a;exact(BB.ro (S:=⟨fr,h⟩) (getD_some a)<|zMQ hk.1).trans<|BB.ros s e hk.2
  ·cases e
def jn{Y:BS B GG Ϝ}{Q:QY B GG Ϝ}{K:O KI}{ϖ:Fence}{ϙ:A U}{h:DH}(s:Θ)(h':DH)(hk:A6 B GG ϖ ϙ Ϝ Y Q K ⟨fr,h'⟩)(e:cZ s h=Z h':=by kernel_rfl)(J:(s.all λk=>Nat.ble Ϝ k)=T:=by kernel_rfl)(hc:KH K=T:=by kernel_rfl):A6 B GG ϖ ϙ Ϝ Y Q K ⟨fr,h⟩:=
 BY.le (BB.ros s e J) hc hk
end
theorem YV.le{x y:O DV}(m:Ke x y){R:Ψ}{W:κ}{args:υ μ}(h:YV x R W args):YV y R W args:=by
 obtain⟨h1,h2⟩:=Vu m
 grind[YV,AO]
inductive Ys where
 |go (i:U)
 |stop
 |pan (c:O PanicEntry)
def YsY(j:U):Ys->Ending->Prop
 | .go k,e=>k=j/\e=.returned (.bool T)
 | .stop,e=>e=.returned (.bool D)
 | .pan c,e=>e=.panicked c
def S0(tD:ζ->DV)(j:U)(s:Ys)(e:Ending)(ϗ:Ψ)(w:κ)(ρ:O AK):Prop:=match s with
 | .go k=>k=j/\∃v,e=.returned v/\AJ ϗ w (tD T) ρ v
 | .stop=>∃v,e=.returned v/\AJ ϗ w (tD D) ρ v
 | .pan c=>e=.panicked c
theorem S0.out{tD:ζ->DV}{j:U}{s:Ys}{e:Ending}{ϗ S:Ψ}{w:κ}{ρ ρ':O AK}(Ϙ:BQ ϗ w ρ S w ρ')(h:S0 tD j s e ϗ w ρ):S0 tD j s e S w ρ':=by
 cases s with
 |go k=>obtain⟨h0,v,a,b⟩:=h;exact⟨h0,v,a,b.out _ Ϙ⟩
 |stop=>obtain⟨v,a,b⟩:=h;exact⟨v,a,b.out _ Ϙ⟩
 |pan c=>exact h
structure E5(P:ν) where
 l:U
 encs:O (O DV)
 J:Ys->(Ψ)->(Ψ)->κ->Prop
 hJ:∀s,DK (J s)
 hy:∀i x args G R W1,encs[i]?=Z x->YV x R W1 args->J (.go i) G R W1->EX G R W1->YieldAt η 0 P l args W1 λe W'=>
  AR (λk=>¬(G k∨R k)) W1 W'/\∃s,YsY (i+1) s e/\J s G R W'
def YW(P:ν)(Γ:A2)(tD:ζ->DV)(f:U)(ds:U->O DV)(h:U->DH)(ys:O<|O DV):Prop:=(∀args W,(callFunc f args).run P W=.ok (.enter f args) W)/\∀(ϛ:E5 P),∀i,(∃rest,ϛ.encs.drop i=ys++rest)->∀N ρ args w G R,Ap P Γ N (h ϛ.l) ρ w->A3 (MS N (h ϛ.l) ρ) w ρ (ds ϛ.l) args->ϛ.J (.go i) G R w->IY Γ N G R (h ϛ.l) ρ w->CallsIn η 0 P f args w λe w'=>∃s a ρ' y R',Ap P Γ a (h ϛ.l) ρ' w'/\ϛ.J s y R' w'/\IY Γ a y R' (h ϛ.l) ρ' w'/\Bm (F<|h ϛ.l) ρ ρ'/\S0 tD (i+F ys) s e (MS a (h ϛ.l) ρ') w' ρ'
section
variable{P:ν}{Γ:A2}
def E5.part(ϛ:E5 P)(ϐ X I:Ψ)(w:κ)(z:∀b,ϐ b->b<w.heap.size)(hR1:∀b,X b->b<w.heap.size):E5 P where
 l:=ϛ.l
 encs:=ϛ.encs
 J:=λs G R W=>ϛ.J s (λb=>G b∨ϐ b) R W/\AR (λb=>¬(ϐ b∨X b)) w W/\(∀b,ϐ b->¬G b/\¬R b)/\(∀b,X b->R b)/\(∀b,G b->I b∨w.heap.size<=b)/\(∀b,G b->¬R b)
 hJ:=by
  rintro s G R K R' ϕ ϙ ⟨m,c,n,o,q,r⟩ t N Q Iw u v;have f:=c.size;have Y:∀b,ϐ b->b<ϕ.heap.size:=λb g=>zAQ (z b g) f
  have y:∀b,ϐ b->¬K b/\¬R' b:=λb g=>by
   grind
  refine⟨ϛ.hJ s _ R _ R' ϕ ϙ m (t.mono λ_ _ h=>.inl h) (λk hk=>hk.elim (λh=>(N k h).imp .inl id) λh=>.inl<|.inr h) (λk hk=>(Q k hk).imp id λh=>h.imp .inl id) (λk hk=>?_) (λk hk=>hk.elim (u k) λh=>(y k h).2) λk hk=>?_,c.comp t λi hi a=>?_,y,λb g=>?_,λb g=>?_,u⟩
  ·grind
  ·rcases hk with(hk|hk)|hk
   ·exact v k<|.inl hk
   ·exact zAQ (Y k hk) t.size
   ·exact v k<|.inr hk
  ·grind
  ·grind
  grind
 hy:=by
  rintro i x args G R S a hE ⟨m,c,n,o,q,r⟩ f
  obtain⟨fn,tmps,NA,j,hy,hR⟩:=ϛ.hy i x args _ R S a hE m ⟨λk hk=>hk.elim (f.dis k) λh=>(n k h).2,λk hk=>by
   rcases hk with(hk|hk)|hk
   ·exact f.lt k<|.inl hk
   ·exact zAQ (z k hk) c.size
   ·exact f.lt k<|.inr hk⟩
  refine⟨fn,tmps,NA,j,hy,hR.mono ?_⟩;rintro e W' ⟨t,p⟩;obtain⟨s,zV,p⟩:=p;exact⟨t.mono λk _ h a=>h<|a.imp .inl id,s,zV,p,c.comp t λi _ a Iu=>a<|Iu.imp .inr<|o i,n,o,q,r⟩
variable{ys:O (O DV)}{h:U->DH}{ds:U->O DV}{f:U}{tD:ζ->DV}
theorem YW.call(Ϙ:YW P Γ tD f ds h ys){ϛ:E5 P}{i:U}(hi:∃rest,ϛ.encs.drop i=ys++rest){N G R:Ψ}{W ϒ:DH}{ρ:O AK}{w:κ}{args:υ μ}
 (e:W=h ϛ.l++ϒ) (HR:Ap P Γ N W ρ w) (hc:(h ϛ.l).all (Jn<|F<|h ϛ.l)=T) (hd:(ds ϛ.l).all (CS<|F<|h ϛ.l)=T) (fa:A3 (MS N W ρ) w ρ (ds ϛ.l) args) (hj:ϛ.J (.go i) G R w) (y:IY Γ N G R W ρ w):
 CallsIn η 0 P f args w λe w'=>∃s a ρ2 G2 R2,Ap P Γ a (h ϛ.l++ϒ) ρ2 w'/\ϛ.J s G2 R2 w'/\IY Γ a G2 R2 (h ϛ.l++ϒ) ρ2 w'/\Bm (F W) ρ ρ2/\S0 tD (i+F ys) s e (MS a (h ϛ.l++ϒ) ρ2) w' ρ2/\
  BQ (MS N W ρ) w ρ (MS a (h ϛ.l++ϒ) ρ2) w' ρ2/\AR (λb=>N b∨MO (h ϛ.l) (ρ.take<|F<|h ϛ.l) b∨w.heap.size<=b) w w':=by
 subst e;obtain⟨K,x⟩:∃K,K=F (h ϛ.l):=⟨_,rfl⟩;have hK:(h ϛ.l++ϒ).take K=h ϛ.l:=Z4
 have pp:K<=F (h ϛ.l++ϒ):=Z4
 obtain⟨Dj,hM⟩:=HR.take pp (by rw[hK,x];exact hc);rw[hK]at Dj hM;obtain⟨R1,z1,g,z3,z4⟩:=IY.part (ϛ.hJ<|.go i) hj y;have sp:=λb=>MO.split (h:=h ϛ.l++ϒ) (ρ:=ρ) K b
 rw[hK]at sp;obtain⟨ϐ,j⟩:∃ϐ,ϐ=MT K (h ϛ.l++ϒ) ρ:=⟨_,rfl⟩;obtain⟨I,OE⟩:∃I,I=MO (h ϛ.l) (ρ.take K):=⟨_,rfl⟩;rw[←j]at Dj hM;rw[←x,←OE];have ke:(λb=>I b∨ϐ b)=MO (h ϛ.l++ϒ) ρ:=by rw[OE,j];grind
 have m:∀b,I b∨ϐ b↔MO (h ϛ.l++ϒ) ρ b:=λb=>iff_of_eq<|congrFun ke b
 have AY:∀b,MO (h ϛ.l++ϒ) ρ b->b<w.heap.size:=λb hb=>g.sh.lt b<|.inl hb
 have N8:∀b,I b->¬ϐ b:=λb h1 h2=>by
  rw[OE]at h1;rw[j]at h2;obtain⟨k,o,p,q1,q,X⟩:=h1;obtain⟨k',o',p',g1,g2,g3,g4⟩:=h2;rw[zO2]at q;split at q
  ·exact HR.dis k k' o o' p p' b Z2 Z4 g2 q g3 X g4
  ·cases q
 have pi:∀b,N b->¬MO (h ϛ.l++ϒ) ρ b:=λb hN=>((g.n b).1 hN).2.1
 let C':E5 P:=ϛ.part ϐ R1 I w (λb hb=>AY b<|(m b).1<|.inr hb) λb hb=>g.sh.lt b<|.inr hb
 have qS:A3 (MS (λb=>N b∨ϐ b) (h ϛ.l)<|ρ.take K) w (ρ.take K) (ds ϛ.l) args:=by
  have e:MS (λb=>N b∨ϐ b) (h ϛ.l) (ρ.take K)=MS N (h ϛ.l++ϒ) ρ:=funext λb=>propext<|hM b
  rw[e];exact fa.take (by rw[x];exact hd)
 refine(Ϙ.2 C' i hi (λb=>N b∨ϐ b) (ρ.take K) args w I R1 Dj qS ⟨Z4,AR.refl _ _,λb hb=>⟨λhg=>N8 b hg hb,g.sh.dis b<|(m b).1<|.inr hb⟩,λ_ h=>h,λ_ h=>.inl h,λb hb=>g.sh.dis b<|(m b).1<|.inl hb⟩
  ⟨⟨λb hb=>g.sh.dis b<|(m b).1<|.inl hb,λb hb=>hb.elim (λh=>AY b<|(m b).1<|.inl h) λh=>g.sh.lt b<|.inr h⟩,g.lo,λb hb=>by rw[OE];exact hb,λb=>?_⟩).mono ?_
 ·constructor
  ·rintro(hb|hb)
   ·exact⟨((g.n b).1 hb).1,λhg=>pi b hb<|(m b).1<|.inl hg,((g.n b).1 hb).2.2⟩
   ·exact⟨AY b<|(m b).1<|.inr hb,λhg=>N8 b hg hb,g.sh.dis b<|(m b).1<|.inr hb⟩
  grind[MS]
 ·rintro e w' ⟨s,N',ρs,G',R',Y,⟨j1,j2,j3,j4,j5,j6⟩,v,kp,ho⟩;have Bh:=j2.size;have ow:F ρs=K:=by rw[Y.len,x];rfl
  have Aj:F ρ=K+F ϒ:=by rw[HR.len,zAi,x]
  have hN2:∀b,(b<w'.heap.size/\¬(G' b∨ϐ b)/\¬R' b)->N' b:=λb ⟨q1,q,X⟩=>(v.n b).2 ⟨q1,λh=>q<|.inl h,X⟩
  have ph:∀b,ϐ b->N' b:=λb hb=>(v.n b).2 ⟨zAQ (AY b<|(m b).1<|.inr hb) Bh,(j3 b hb).1,(j3 b hb).2⟩
  have pl:∀(k:U) (p:AK),ρ[k]?=Z p->(ρs++ρ.drop K)[k]?=Z p:=λk p r=>by
   rcases zCv k K with hk|hk
   ·rw[zMZ Z2];exact kp k p (by show k<F (h ϛ.l);rw[←x];exact hk) Z4
   grind
  have gl:∀{k:U} {p:AK},k<K->(ρs++ρ.drop K)[k]?=Z p->ρs[k]?=Z p:=λ{k p} hk r=>Z4
  have gr:∀{k:U} {p:AK},K<=k->(ρs++ρ.drop K)[k]?=Z p->ρ[k]?=Z p:=λ{k p} hk r=>by
   grind
  have Q:∀{k:U} {o:DO},k<K->(h ϛ.l++ϒ)[k]?=Z (Z o)->(h ϛ.l)[k]?=Z (Z o):=λ{k o} hk ho=>Z4
  have Ni:∀{k:U} {o:DO},K<=k->(h ϛ.l++ϒ)[k]?=Z (Z o)->(h ϛ.l++ϒ)[k]?=Z (Z o):=λ{k o} hk ho=>by
   grind
  have Jk:∀b,MO (h ϛ.l++ϒ) (ρs++ρ.drop K) b->G' b∨ϐ b:=by
   rintro b ⟨k,o,p,q1,q,X⟩;rcases zCv k K with hk|hk
   ·exact .inl<|v.own b ⟨k,o,p,Q hk q1,gl hk q,X⟩
   ·exact .inr (by rw[j];grind[MT])
  obtain⟨a,pj⟩:∃a:Ψ,a=λb=>b<w'.heap.size/\¬(G' b∨ϐ b)/\¬R' b:=⟨_,rfl⟩
  have Hh:∀b,a b->N' b:=λb hb=>Z4
  have pm:∀b,MS a (h ϛ.l++ϒ) (ρs++ρ.drop K) b->b<w'.heap.size/\¬R' b:=λb hb=>by
   rcases hb with hb|hb
   ·grind
   ·rcases Jk b hb with hb|hb
    ·exact⟨v.sh.lt b<|.inl hb,j6 b hb⟩
    grind
  have out:BQ (MS N (h ϛ.l++ϒ) ρ) w ρ (MS a (h ϛ.l++ϒ)<|ρs++ρ.drop K) w'<|ρs++ρ.drop K:=by
   refine⟨λb hb hm _=>j2.block b hb λu=>u<|.inr ?_,λb hb=>?_,pl⟩
   ·grind
   grind
  have RM:BQ (MS N' (h ϛ.l) ρs) w' ρs (MS a (h ϛ.l++ϒ)<|ρs++ρ.drop K) w'<|ρs++ρ.drop K:=by
   refine⟨λ_ _ _ _=>rfl,λb hb=>.inl ?_,λk p r=>?_⟩
   ·rcases hb with hb|hb
    ·exact .inl<|Hh b hb
    ·obtain⟨k,o,p,q1,q,X⟩:=hb;rcases zCv k K with hk|hk
     ·grind[MS,MO]
     ·exact .inl (ph b<|by rw[j];grind[MT])
   grind
  refine⟨s,a,ρs++ρ.drop K,λb=>G' b∨ϐ b,R',⟨by simp[ow,Aj,x],λk o hk=>?_,λk o p b h1 h2 h3=>?_,λi i' o o' p p' b Af g1 g2 g3 g4 g5 g6=>?_,λb hb=>?_,Y.gi⟩,j1,⟨⟨λb hb=>hb.elim (j6 b) λh=>(j3 b h).2,λb hb=>?_⟩,v.lo,Jk,λb=>by rw[pj]⟩,λk p _ r=>pl k p r,ho.out RM,out,?_⟩
  ·rcases zCv k K with Da|Da
   ·obtain⟨p,r,hr⟩:=Y.obj k o<|Q Da hk;exact⟨p,RM.pl k p r,hr.out RM (S:=λ_=>False) (AR.refl _ _) (λ_ h=>h.elim) λ_ _ _ h=>h⟩
   ·obtain⟨p,r,hr⟩:=HR.obj k o<|Ni Da hk;refine⟨p,pl k p r,hr.out out (S:=λb=>b<w.heap.size/\¬(ϐ b∨R1 b)) (j2.mono λb hb u=>⟨hb,u⟩) (λb hb=>z3 b ⟨hb.1,λhr=>hb.2<|.inr hr⟩) λb _ hf u=>u.2<|.inl ?_⟩;rw[j];grind[MT]
  ·rcases zCv k K with Da|Da
   ·obtain⟨c1,c2,c3⟩:=Y.cel k o p b (Q Da h1) (gl Da h2) h3
    grind
   ·have EC:ϐ b:=by rw[j];grind[MT]
    obtain⟨c1,_,c,t,z,c3⟩:=HR.cel k o p b (Ni Da h1) (gr Da h2) h3;refine⟨c1,λu=>?_,c,t,z,(j2.block b (zAM.1 c3).1 λu=>u<|.inl EC).trans c3⟩
    grind
  ·rcases zCv i K with FW|FW <;> rcases zCv i' K with FI|FI
   ·exact Y.dis i i' o o' p p' b Af (Q FW g1) (Q FI g2) (gl FW g3) (gl FI g4) g5 g6
   ·exact(j3 b<|by rw[j];grind[MT]).1<|v.own b ⟨i,o,p,Q FW g1,gl FW g3,g5⟩
   ·exact(j3 b<|by rw[j];grind[MT]).1<|v.own b ⟨i',o',p',Q FI g2,gl FI g4,g6⟩
   ·exact HR.dis i i' o o' p p' b Af (Ni FW g1) (Ni FI g2) (gr FW g3) (gr FI g4) g5 g6
  ·exact Y.nlt b<|Hh b hb
  ·rcases hb with(hb|hb)|hb
   ·exact v.sh.lt b<|.inl hb
   ·grind
   ·exact v.sh.lt b<|.inr hb
  ·refine j2.mono λb hb u=>?_
   grind[MS]
def E5.K(ϛ:E5 P)(Γ:A2)(Ϝ:U)(s:Ys)(ρ0:O AK):BS P Γ Ϝ where
 I:=λN h ρ w=>(Rk P Γ Ϝ (ϛ.J s)<|ϛ.hJ s).I N h ρ w/\Bm Ϝ ρ0 ρ
 st:=λ⟨a,b⟩ Ϙ v st k=>⟨(Rk P Γ Ϝ (ϛ.J s)<|ϛ.hJ s).st a Ϙ v st k,b.trans k⟩
def YQW(ϛ:E5 P)(Γ:A2)(tD:ζ->DV)(fn:Func)(Ϝ j:U)(ρ0:O AK)(h:DH):QY P Γ Ϝ:=λe S Y=>(Y=ϛ.K Γ Ϝ (.go j) ρ0/\DD P fn Ϝ (tD T) h e S)∨(Y=ϛ.K Γ Ϝ .stop ρ0/\DD P fn Ϝ (tD D) h e S)∨∃c,Y=ϛ.K Γ Ϝ (.pan c) ρ0/\e=.panic c/\∃p,BB Ϝ S p/\p.h=h
theorem YW.of{Ϝ:U}{fn:Func}(hf:P.funcs[f]?=Z fn)(n:fn.body.isSome=T)(hn:(fn.name== "runtime.NumGoroutine")=D)(hL:∀l,F (h l)=Ϝ)
 (ϒ:∀(ϛ:E5 P) (i:U) (ρ0:O AK),(∃rest,ϛ.encs.drop i=ys++rest)->A6 P Γ η V Ϝ (ϛ.K Γ Ϝ (.go i) ρ0) (YQW ϛ Γ tD fn Ϝ (i+F ys) ρ0<|h ϛ.l) [.code<|AZ fn] ⟨ds ϛ.l++d (fn.ntmps-F (ds ϛ.l)) .any,h ϛ.l⟩):YW P Γ tD f ds h ys:=by
 refine⟨λargs W=>HD hf n hn args W,λϛ i hi N ρ args w G R HR fa hj y=>?_⟩;refine qx hf n (ϒ ϛ i ρ hi) HR fa ⟨⟨G,R,hj,y⟩,Bm.refl _ _⟩ ?_
 have p:∀{s:Ys} {Ϛ:DV} {e:Exit} {S':St} {ρ':O AK} {g:Ψ} {o:Act} {a:κ},DD P fn Ϝ Ϛ (h ϛ.l) e S'->AS P Γ g S' ρ' o a->(ϛ.K Γ Ϝ s ρ).I g S'.h ρ' a->(∀ϗ ρ' v,AJ ϗ a Ϛ ρ' v->S0 tD (i+F ys) s (.returned v) ϗ a ρ')->∃v,(results fn o.tmps).run P a=.ok v a/\∃s g ρ' G' R',Ap P Γ g (h ϛ.l) ρ' a/\ϛ.J s G' R' a/\IY Γ g G' R' (h ϛ.l) ρ' a/\Bm (F<|h ϛ.l) ρ ρ'/\S0 tD (i+F ys) s (.returned v) (MS g (h ϛ.l) ρ') a ρ':=by
  rintro s Ϛ e S' ρ' g o a ⟨he,Cm,Bq,rs,Ml,t⟩ z ⟨j,q4⟩ hE;obtain⟨ρ'',u,Qv,Rj⟩:=Bq P Γ g ρ' o a z;have y2:=(Rk P Γ Ϝ (ϛ.J s)<|ϛ.hJ s).st j z.hr u.hr Qv Rj;obtain⟨v,g1,g2⟩:=XR u Ml;rcases t with⟨t,S⟩|⟨_,t,hn,hl,S⟩
  ·obtain⟨X,r,Y,y3⟩:=y2;have g3:=t _ _ _ _ g2;have Rh:=u.hr
   grind[Bm]
  ·obtain⟨ρ3,r,x,k3⟩:=BB.compact (Ϝ:=Ϝ) (θ Ϝ) Cm zQJ (λk hk=>zAQ (zAV.1 hk) hl) (λk hk=>by simp[hk]) P Γ g ρ'' o a u;obtain⟨X,S7,Y,y3⟩:=(Rk P Γ Ϝ (ϛ.J s)<|ϛ.hJ s).st y2 u.hr r.hr x k3;have Q:=r.hr;rw[S]at Q x y3;refine⟨v,g1,s,g,ρ3,X,S7,Q,Y,y3,by grind[Bm],hE _ _ _ ?_⟩;have r0:=hn _ _ _ _<|t _ _ _ _ g2;have r1:AJ (MS g (h ϛ.l) ρ3) a Ϛ [] v:=AJ.out _ ⟨λ_ _ _ _=>rfl,λb n=>n.elim (λm=>.inl<|.inl m) λm=>(x.grow b m).imp .inr id,λ_ _ m=>by simp at m⟩ r0;exact AJ.out _ ⟨λ_ _ _ _=>rfl,λb n=>.inl n,λ_ _ m=>by simp at m⟩ r1
 rintro e S' ρ' g Y' o a q z j;rcases q with⟨rfl,q⟩|⟨rfl,q⟩|⟨c,rfl,rfl,Cm,Bq,S⟩
 ·have:=p (s:=.go<|i+F ys) q z j λϗ ρ' v hv=>⟨rfl,v,rfl,hv⟩
  rcases q.1 with rfl|rfl <;> exact this
 ·have:=p (s:=.stop) q z j λϗ ρ' v hv=>⟨v,rfl,hv⟩
  rcases q.1 with rfl|rfl <;> exact this
 ·obtain⟨j,q4⟩:=j;obtain⟨ρ3,r,x,k3⟩:=Bq P Γ g ρ' o a z;obtain⟨X,S7,Y,y3⟩:=(Rk P Γ Ϝ (ϛ.J<|.pan c)<|ϛ.hJ<|.pan c).st j z.hr r.hr x k3;have Q:=r.hr;rw[S]at Q y3;exact⟨.pan c,g,ρ3,X,S7,Q,Y,y3,by rw[hL];exact q4.trans k3,rfl⟩
section
variable{Ϝ:U}{ϛ:E5 P}{i:U}{ρ0:O AK}{Q:QY P Γ Ϝ}{ops:υ Oper}{S:St}{An:BT}{vs:O Prop}
variable{FD:BT}{dst:A Tmp}{p:U}
def CN.callW{r j:Θ}{tD:ζ->DV}{g:FuncId}{n:St}{ds:U->O DV}{h:U->DH}{ys:O (O DV)}{ϒ:DH}(hF:Dk η P)(A1:Ca ops=T)
 (b:Ie P Γ ops r p S An=Z (g,ds ϛ.l,dst,n,vs,FD)) (hv:BX vs) (Ϙ:YW P Γ tD g ds h ys) (hS:n.h=h ϛ.l++ϒ) (hc:(h ϛ.l).all (Jn<|F<|h ϛ.l)=T) (hd:(ds ϛ.l).all (CS<|F<|h ϛ.l)=T) (hi:∃rest,ϛ.encs.drop i=ys++rest)
 (hk:CN P Γ (ϛ.K Γ Ϝ (.go<|i+F ys) ρ0) ops j ⟨Cq n.fr dst<|tD T,h ϛ.l++ϒ⟩ Q) (t:CN P Γ (ϛ.K Γ Ϝ .stop ρ0) ops j ⟨Cq n.fr dst<|tD D,h ϛ.l++ϒ⟩ Q)
 (q:∀c,Q (.panic c) ⟨Lp n.fr,h ϛ.l++ϒ⟩<|ϛ.K Γ Ϝ (.pan c) ρ0):CN P Γ (ϛ.K Γ Ϝ (.go i) ρ0) ops (r++p::j) S Q:=λN ρ a w R y m=>by
 unfold Ie at b;split at b
 ·cases b
 rename_i S2 Eg Gc h1;split at b
 ·cases b
 rename_i o x;split at b
 ·rename_i hw;split at b
  ·rename_i c Jf;split at b
   ·rename_i f LU;split at b
    ·rename_i g' m' cap hf;simp only[zB2,zLJ]at b;obtain⟨rfl,e2,rfl,rfl,rfl,rfl⟩:=b;rw[PN];have e3:CJ ops (p::j)=o::CJ ops j:=by simp only[CJ,x]
     rw[e3];refine QA hF A1 _ (NZ r) R h1 hv λρ1 u w1 X BV Jh=>?_
     obtain⟨⟨G,R0,j1,y1⟩,Cs⟩:=(ϛ.K Γ Ϝ (.go i) ρ0).st y R.hr X.hr BV.st λk p _ q=>BV.pl k p q;obtain⟨args,Je,LQ⟩:=aJ X o Jf LU hf Ϙ.1;rw[e2]at LQ;unfold wpListIn;rw[zAB<|H9 X hw];refine⟨λf _=>hF.fn f,?_⟩;rw[zMi _ _ _<|IR A1 x,Je];refine⟨λt=>(by cases t),(YW.call Ϙ hi hS X.hr hc hd LQ j1 y1).mono ?_⟩;have z:u.defers= []:=Jh.trans m;have Cu:∀v,(u.put o.dst v).defers=u.defers:=λv=>by cases x:o.dst <;> simp[Act.put]
     rintro e w2 ⟨s,J,ρ2,I,W,Y,j2,y2,KE,LJ,hO,_⟩;have Lb:=X.fr.out hO;have Jc:Bm Ϝ ρ0 ρ2:=λk p hk q=>hO.pl k p<|Cs k p hk q
     cases s with
     |go k=>
      obtain⟨rfl,v,rfl,E2⟩:=LJ;exact hk J ρ2 _ w2 (Gw (S:=⟨S2.fr,h ϛ.l++ϒ⟩) ⟨Y,Lb⟩ o.dst E2) ⟨⟨I,W,j2,y2⟩,Jc⟩<|(Cu v).trans z
     |stop=>
      obtain⟨v,rfl,E2⟩:=LJ;exact t J ρ2 _ w2 (Gw (S:=⟨S2.fr,h ϛ.l++ϒ⟩) ⟨Y,Lb⟩ o.dst E2) ⟨⟨I,W,j2,y2⟩,Jc⟩<|(Cu v).trans z
     |pan c=>
      have he:e=.panicked c:=LJ;subst he;exact⟨_,_,ρ2,J,_,q c,Lb.1,Y,⟨⟨I,W,j2,y2⟩,Jc⟩,z⟩
    ·cases b
   ·cases b
  ·cases b
 ·cases b
def CN.yieldW{z q:Θ}{x:O DV}{j:St}(hF:Dk η P)(A1:Ca ops=T)
 (b:TF P Γ ops z p S An=Z (x,ϛ.l,dst,j,vs,FD)) (hv:BX vs) {y:O DV} (G:ϛ.encs[i]?=Z y) (Bq:Ke x y) (hk:CN P Γ (ϛ.K Γ Ϝ (.go<|i+1) ρ0) ops q ⟨Cq j.fr dst<|.bool T,j.h⟩ Q) (hs:CN P Γ (ϛ.K Γ Ϝ .stop ρ0) ops q ⟨Cq j.fr dst<|.bool D,j.h⟩ Q) (I:∀c,Q (.panic c) ⟨Lp j.fr,j.h⟩<|ϛ.K Γ Ϝ (.pan c) ρ0):CN P Γ (ϛ.K Γ Ϝ (.go i) ρ0) ops (z++p::q) S Q:=λN ρ a w R y m=>by
 unfold TF at b;split at b
 ·cases b
 rename_i n Eg Gc h1;split at b
 ·cases b
 rename_i o J;split at b
 ·rename_i hw;split at b
  ·rename_i c Jf;split at b
   ·rename_i f LU;split at b
    ·rename_i l hl;split at b
     ·rename_i Rq;simp only[zB2,zLJ]at b;obtain⟨rfl,rfl,rfl,rfl,rfl,rfl⟩:=b;rw[PN];have e3:CJ ops (p::q)=o::CJ ops q:=by simp only[CJ,J]
      rw[e3];refine QA hF A1 _ (NZ z) R h1 hv λρ1 r w1 X BV Jh=>?_
      obtain⟨⟨G0,R0,y1,y2⟩,W⟩:=(ϛ.K Γ Ϝ (.go i) ρ0).st y R.hr X.hr BV.st λk p _ I=>BV.pl k p I;obtain⟨R',z1,t,z3,_⟩:=IY.part (ϛ.hJ<|.go i) y1 y2;obtain⟨fn,tmps,NA,body,hy,hR⟩:=ϛ.hy i _ _ _ R' w1 G (YV.le Bq<|YV.of (g:=Ak n.fr) (f:=r.eval) (λx=>Be X x) z3 Rq) z1 t.sh;unfold wpListIn;rw[zAB<|H9 X hw]
      have Yu:r.eval f=.func (.yield ϛ.l) #[] #[]:=by
       have b:=Be X f;rw[hl]at b;exact b
      refine⟨λf _=>hF.fn f,?_⟩;rw[zMi _ _ _<|IR A1 J,ld Jf LU Yu rfl,hy];refine⟨λG=>(by cases G),hR.mono ?_⟩;have Y:r.defers= []:=Jh.trans m;have Cu:∀v,(r.put o.dst v).defers=r.defers:=λv=>by cases J:o.dst <;> simp[Act.put]
      rintro e u ⟨hu,hj⟩;obtain⟨s,he,Dg⟩:=hj;obtain⟨H',fo⟩:=t.later X.hr hu;have yy:IY Γ (λbb=>bb<u.heap.size/\¬MO n.h ρ1 bb/\¬R' bb) (MO n.h ρ1) R' n.h ρ1 u:=⟨t.sh.upd hu,t.lo,λ_ h=>h,λ_=>Iff.rfl⟩;cases s with
      |go k=>
       obtain⟨rfl,rfl⟩:=he;exact hk _ ρ1 _ u (Gw (S:=n) ⟨H',X.fr.out fo⟩ o.dst (Ϛ:=.bool T) (v:=.bool T) rfl) ⟨⟨_,_,Dg,yy⟩,W⟩<|(Cu _).trans Y
      |stop=>
       subst he;exact hs _ ρ1 _ u (Gw (S:=n) ⟨H',X.fr.out fo⟩ o.dst (Ϛ:=.bool D) (v:=.bool D) rfl) ⟨⟨_,_,Dg,yy⟩,W⟩<|(Cu _).trans Y
      |pan c=>
       subst he;exact⟨_,_,ρ1,_,_,I c,X.fr.1,H',⟨⟨_,_,Dg,yy⟩,W⟩,Y⟩
     ·cases b
    ·cases b
   ·cases b
  ·cases b
 ·cases b
end
end
section
section
variable{P:ν}{Γ:A2}{ϖ:Fence}{ϙ:A U}{Ϝ:U}
variable{Q Q':QY P Γ Ϝ}
theorem Ih.mono{b:Code}(f:∀e S Y,Q e S Y->Q' e S Y):∀(m:U) {S:St} {Y:BS P Γ Ϝ},Ih P Γ ϖ ϙ Ϝ b Q m S Y->Ih P Γ ϖ ϙ Ϝ b Q' m S Y
 |0,_,_,h=>h
 |m+1,_,_,h=>Tr.mono h λe S Y h=>by
  cases e with
  |normal=>exact Ih.mono f m h
  |ret=>exact f _ _ _ h
  |exit id=>exact f _ _ _ h
  |goto t=>exact f _ _ _ h
  |panic c=>exact f _ _ _ h
  |outgrown=>exact f _ _ _ h
theorem BN.mono(f:∀e S Y,Q e S Y->Q' e S Y):∀(k:O KI) {e:Exit} {S:St} {Y:BS P Γ Ϝ},BN P Γ ϖ ϙ Ϝ Q k e S Y->BN P Γ ϖ ϙ Ϝ Q' k e S Y
 |[],_,_,_,h=>f _ _ _ h
 | .code c::k,e,S,Y,h=>by
  cases e with
  |normal=>exact Tr.mono (show Tr P Γ ϖ ϙ Ϝ Y c S (BN P Γ ϖ ϙ Ϝ Q k)from h) λ_ _ _ h=>BN.mono f k h
  |ret=>exact BN.mono f k (e:=.ret) h
  |exit id=>exact BN.mono f k (e:=.exit id) h
  |goto t=>exact BN.mono f k (e:=.goto t) h
  |panic c=>exact BN.mono f k (e:=.panic c) h
  |outgrown=>exact BN.mono f k (e:=.outgrown) h
 | .blk id::k,e,S,Y,h=>by
  cases e with
  |exit i=>
   have h:C (i=id) (BN P Γ ϖ ϙ Ϝ Q k .normal S Y)<|BN P Γ ϖ ϙ Ϝ Q k (.exit i) S Y:=h
   show C (i=id) (BN P Γ ϖ ϙ Ϝ Q' k .normal S Y) (BN P Γ ϖ ϙ Ϝ Q' k (.exit i) S Y)
   by_cases hi:i=id
   ·rw[zAB hi]at h⊢;exact BN.mono f k h
   ·rw[zAt hi]at h⊢;exact BN.mono f k h
  |normal=>exact BN.mono f k (e:=.normal) h
  |ret=>exact BN.mono f k (e:=.ret) h
  |goto t=>exact BN.mono f k (e:=.goto t) h
  |panic c=>exact BN.mono f k (e:=.panic c) h
  |outgrown=>exact BN.mono f k (e:=.outgrown) h
 | .scp::k,e,S,Y,h=>by
  cases e with
  |goto t=>exact h
  |normal=>exact BN.mono f k (e:=.normal) h
  |ret=>exact BN.mono f k (e:=.ret) h
  |exit id=>exact BN.mono f k (e:=.exit id) h
  |panic c=>exact BN.mono f k (e:=.panic c) h
  |outgrown=>exact BN.mono f k (e:=.outgrown) h
 | .lend J::k,e,S,Y,h=>by
  cases e with
  |normal=>exact h
  |ret=>exact BN.mono f k (e:=.ret) h
  |exit id=>exact BN.mono f k (e:=.exit id) h
  |goto t=>exact BN.mono f k (e:=.goto t) h
  |panic c=>exact BN.mono f k (e:=.panic c) h
  |outgrown=>exact BN.mono f k (e:=.outgrown) h
 | .loopN m b::k,e,S,Y,h=>by
  cases e with
  |normal=>exact Ih.mono (λ_ _ _ h=>BN.mono f k h) m h
  |ret=>exact BN.mono f k (e:=.ret) h
  |exit id=>exact BN.mono f k (e:=.exit id) h
  |goto t=>exact BN.mono f k (e:=.goto t) h
  |panic c=>exact BN.mono f k (e:=.panic c) h
  |outgrown=>exact BN.mono f k (e:=.outgrown) h
end
def wb{X:Type}(ϕ f:A<|O X):A<|O X:=ϕ.bind λa=>f.map λb=>a++b
def wx{X:Type}(x:X)(ϕ:A<|O X):A<|O X:=ϕ.map λb=>x::b
variable{X:Type}
theorem zDG{ϕ f:A (O X)}{r:O X}(h:wb ϕ f=Z r):∃a b,ϕ=Z a/\f=Z b/\r=a++b:=by
 obtain⟨a,ha,h⟩:=D4 h
 simp_all[K9]
def DW{X:Type}(ϛ:E5 B)(enc:X->O DV)(i:U)(r:O X):Prop:=∃rest,ϛ.encs.drop i=r.map enc++rest
variable{i:U}
def zBH{α:Type}{l a b:O α}(h:l.drop i=a++b):l.drop (i+F a)=b:=by
 rw[←zT1,h,List.drop_left'];rfl
variable{ϛ:E5 B}
theorem DW.split{enc:X->O DV}{y b:O X}(h:DW ϛ enc i<|y++b):(∃rest,ϛ.encs.drop i=y.map enc++rest)/\DW ϛ enc (i+F (y.map enc)) b:=by
 obtain⟨rest,h⟩:=h;have h:ϛ.encs.drop i=y.map enc++(b.map enc++rest):=Z4
 exact⟨⟨_,h⟩,rest,zBH h⟩
def DW.cons{enc:X->O DV}{x:X}{b:O X}(h:DW ϛ enc i<|x::b):ϛ.encs[i]?=Z (enc x)/\DW ϛ enc (i+1) b:=by
 obtain⟨rest,h⟩:=h;have h:ϛ.encs.drop i=enc x::(b.map enc++rest):=h;refine⟨?_,rest,?_⟩
 ·have:=congrArg (·[0]?) h;simpa using this
 ·have:=zBH (a:=[enc x]) h;simpa using this
section
variable{X:Type}{ϛ:E5 B}{tD:ζ->DV}{fn:Func}{Ϝ:U}{ρ0:O AK}{Ϙ:DH}{i:U}{r:O X}{enc:X->O DV}{k K:O KI}{S:St}{ops:υ Oper}
 {c:O (DV×DH×ζ)} {o:O (U×DV)} {z:O (U×Fz)} {v:O Prop} {fr:O DV} {h1:DH} {l l1 l2:Θ} {p:U} {dst:A Tmp}
abbrev WF(ϛ:E5 B)(tD:ζ->DV)(fn:Func)(Ϝ:U)(ρ0:O AK)(Ϙ:DH)(i:U)(r:O X):QY B GG Ϝ:=YQW ϛ GG tD fn Ϝ (i+F r) ρ0 Ϙ
abbrev S6(ϛ:E5 B)(tD:ζ->DV)(fn:Func)(Ϝ:U)(ρ0:O AK)(Ϙ:DH)(ops:υ Oper)(l:Θ)(k:O KI)(i:U)(r:O X)(S:St):Prop:=CN B GG (ϛ.K GG Ϝ (.go i) ρ0) ops l S<|BN B GG η V Ϝ (WF ϛ tD fn Ϝ ρ0 Ϙ i r) k
abbrev S5(ϛ:E5 B)(tD:ζ->DV)(fn:Func)(Ϝ:U)(ρ0:O AK)(Ϙ:DH)(k:O KI)(i:U)(r:O X)(S:St):Prop:=A6 B GG η V Ϝ (ϛ.K GG Ϝ (.go i) ρ0) (WF ϛ tD fn Ϝ ρ0 Ϙ i r) k S
abbrev TSW(ϛ:E5 B)(tD:ζ->DV)(fn:Func)(Ϝ:U)(ρ0:O AK)(Ϙ:DH)(k:O KI)(S:St):Prop:=BY B GG η V Ϝ (ϛ.K GG Ϝ .stop ρ0) (DD B fn Ϝ (tD D) Ϙ) k S
theorem WF.app{y b:O X}{j:U}(hj:j=i+F y):WF ϛ tD fn Ϝ ρ0 Ϙ i (y++b)=WF ϛ tD fn Ϝ ρ0 Ϙ j b:=by
 grind
theorem WF.pan{fr:O DV}{h:DH}(J:Nat.ble Ϝ (F h)=T)(a:RL Ϝ h=Ϙ)(e:O PanicEntry):WF ϛ tD fn Ϝ ρ0 Ϙ i r (.panic e) ⟨fr,h⟩<|ϛ.K GG Ϝ (.pan e) ρ0:=
 .inr (.inr ⟨e,rfl,rfl,_,BB.compact (θ Ϝ) ⟨fr,h⟩ zQJ (λk hk=>zAQ (zAV.1 hk)<|zMQ J) (λk hk=>by simp[hk]),a⟩)
def wO(a:Kx K=Z (ops,D6 K):=by kernel_rfl)(hk:S6 ϛ tD fn Ϝ ρ0 Ϙ ops (θ ops.size) (D6 K) i r S):S5 ϛ tD fn Ϝ ρ0 Ϙ K i r S:=by
 unfold Kx at a;split at a
 ·rename_i id g k;have y:g=ops:=congrArg Prod.fst<|zAN a;subst y;exact Tr.ofO hk
 ·cases a
def w0(hk:S5 ϛ tD fn Ϝ ρ0 Ϙ k i r S):S6 ϛ tD fn Ϝ ρ0 Ϙ ops [] k i r S:=λN ρ _ _ R y m=>⟨S,ρ,N,_,hk,R,y,m,Bd.none⟩
def wE(m:HS c o z v)(fr:O DV)(h1:DH)(hk:S5 ϛ tD fn Ϝ ρ0 Ϙ k i r ⟨fr,h1⟩)(h:(EL B GG ops (CJ ops l) S ⟨c,o,z,[]⟩).map (UQ<|FF 0 fr)=Z (fr,h1,v):=by kernel_rfl)(Y:Ca ops=T:=by kernel_rfl)(hc:U6 k=T:=by kernel_rfl):S6 ϛ tD fn Ϝ ρ0 Ϙ ops l k i r S:=by
 obtain⟨f,An,h,e⟩:=dw h;refine CN.done (HC.x (ϖ:=η)).f Y h m.all<|A6.leH (S':=⟨fr,h1⟩) ?_ hc hk;rw[e];exact BB.forget _ _ _
def wS(m:HS c o z v)(fr:O DV)(h1:DH)(hk:TSW ϛ tD fn Ϝ ρ0 Ϙ k ⟨fr,h1⟩)(h:(EL B GG ops (CJ ops l) S ⟨c,o,z,[]⟩).map (UQ<|FF 0 fr)=Z (fr,h1,v):=by kernel_rfl)(a:Ca ops=T:=by kernel_rfl)(hc:U6 k=T:=by kernel_rfl):CN B GG (ϛ.K GG Ϝ .stop ρ0) ops l S<|BN B GG η V Ϝ (WF ϛ tD fn Ϝ ρ0 Ϙ i r) k:=by
 obtain⟨f,An,h,e⟩:=dw h;refine CN.done (HC.x (ϖ:=η)).f a h m.all<|BN.mono (Q:=stay (ϛ.K GG Ϝ .stop ρ0)<|DD B fn Ϝ (tD D) Ϙ) (λe S Y b=>.inr<|.inl b) k<|A6.leH (S':=⟨fr,h1⟩) ?_ hc hk;rw[e];exact BB.forget _ _ _
def w0S(hk:TSW ϛ tD fn Ϝ ρ0 Ϙ k S):CN B GG (ϛ.K GG Ϝ .stop ρ0) ops [] S<|BN B GG η V Ϝ (WF ϛ tD fn Ϝ ρ0 Ϙ i r) k:=λN ρ _ _ R y m=>⟨S,ρ,N,_,BN.mono (Q:=stay (ϛ.K GG Ϝ .stop ρ0)<|DD B fn Ϝ (tD D) Ϙ) (λe S Y f=>.inr<|.inl f) k hk,R,y,m,Bd.none⟩
variable{ϕ:A (O X)}
def wY{x:X}{xs:O DV}(l1 l2:Θ)(p:U)(m:HS c o z v)(fr:O DV)(h1:DH)(dst:A Tmp)(a:wx x ϕ=Z r)(g:DW ϛ enc i r)(j:Ke xs<|enc x)
 (n:∀r:O X,CN B GG (ϛ.K GG Ϝ .stop ρ0) ops l2 ⟨Cq fr dst<|.bool D,h1⟩<|BN B GG η V Ϝ (WF ϛ tD fn Ϝ ρ0 Ϙ i r) k)
 (hk:∀b R,ϕ=Z b->DW ϛ enc R b->S6 ϛ tD fn Ϝ ρ0 Ϙ ops l2 k R b ⟨Cq fr dst<|.bool T,h1⟩)
 (e:l=l1++p::l2:=by kernel_rfl) (h:(TF B GG ops l1 p S ⟨c,o,z,[]⟩).map (du<|FF 0 fr)=Z (xs,ϛ.l,dst,fr,h1,v):=by kernel_rfl) (q:RL Ϝ h1=Ϙ:=by kernel_rfl) (J:Nat.ble Ϝ (F h1)=T:=by kernel_rfl) (Y:Ca ops=T:=by kernel_rfl):S6 ϛ tD fn Ϝ ρ0 Ϙ ops l k i r S:=by
 subst e;obtain⟨b,s,rfl⟩:=K9 a;obtain⟨W,t⟩:=DW.cons g;obtain⟨f1,An,hy,e0⟩:=xW h;refine CN.yieldW (HC.x (ϖ:=η)).f Y hy m.all W j ?_ (CN.weaken (Ov e0)<|n _) λc=>MM (WF.pan J q c) k
 have e:WF ϛ tD fn Ϝ ρ0 Ϙ i (x::b)=WF ϛ tD fn Ϝ ρ0 Ϙ (i+1) b:=WF.app (y:=[x]) rfl;rw[e];exact CN.weaken (Ov e0)<|hk _ _ s t
theorem wC{g:FuncId}{ds:U->O DV}{h:U->DH}{tD':ζ->DV}{f:A (O X)}(l1 l2:Θ)(p:U)(n:HS c o z v)(fr:O DV)(h1:DH)(dst:A Tmp)
 (s:wb ϕ f=Z r) (t:DW ϛ enc i r) (u:∀a,ϕ=Z a->YW B GG tD' g ds h (a.map enc))
 (w:∀(j:U) (r:O X),CN B GG (ϛ.K GG Ϝ .stop ρ0) ops l2 ⟨Cq fr dst<|tD' D,h1⟩<|BN B GG η V Ϝ (WF ϛ tD fn Ϝ ρ0 Ϙ j r) k)
 (hk:∀b R,f=Z b->DW ϛ enc R b->S6 ϛ tD fn Ϝ ρ0 Ϙ ops l2 k R b ⟨Cq fr dst<|tD' T,h1⟩)
 (e:l=l1++p::l2:=by kernel_rfl) (hc:(Ie B GG ops l1 p S ⟨c,o,z,[]⟩).map (Ng<|FF 0 fr)=Z (g,ds ϛ.l,dst,fr,h1,v):=by kernel_rfl) (q:h1.take (F<|h ϛ.l)=h ϛ.l:=by kernel_rfl)
 (Y:(h ϛ.l).all (Jn<|F<|h ϛ.l)=T:=by kernel_rfl) (y:(ds ϛ.l).all (CS<|F<|h ϛ.l)=T:=by kernel_rfl) (hp:RL Ϝ h1=Ϙ:=by kernel_rfl) (hL:Nat.ble Ϝ (F h1)=T:=by kernel_rfl) (G:Ca ops=T:=by kernel_rfl):S6 ϛ tD fn Ϝ ρ0 Ϙ ops l k i r S:=by
 subst e;obtain⟨f1,An,hc,e0⟩:=Xk hc;obtain⟨a,b,P,I,rfl⟩:=zDG s;obtain⟨W,J⟩:=DW.split t;have m:h ϛ.l++h1.drop (F<|h ϛ.l)=h1:=(VQ q).symm;refine CN.callW (ϒ:=h1.drop<|F<|h ϛ.l) (HC.x (ϖ:=η)).f G hc n.all (u a P) (VQ q) Y y W ?_ ?_ λc=>?_
 ·rw[WF.app (j:=i+F (a.map enc)) (by rw[zAS]),m];exact CN.weaken (Ov e0)<|hk _ _ I J
 ·rw[m];exact CN.weaken (Ov e0)<|w _ _
 grind[MM,WF.pan]
def wF(h:BY B GG η V Ϝ (ϛ.K GG Ϝ (.go i) ρ0) (DD B fn Ϝ (tD T) Ϙ) k S):S5 ϛ tD fn Ϝ ρ0 Ϙ k i ([]:O X) S:=
 BN.mono (Q:=stay (ϛ.K GG Ϝ (.go i) ρ0)<|DD B fn Ϝ (tD T) Ϙ) (λe S Y f=>.inl f) k h
end
theorem YW.ofW{X:Type}{f Ϝ:U}{fn:Func}{tD:ζ->DV}{r:O X}{enc:X->O DV}{ds:U->O DV}{h:U->DH}(g:Tryz.prog.funcs[f]?=Z fn)
 (ϒ:∀(ϛ:E5 B) (i:U) (ρ0:O AK),DW ϛ enc i r->S5 ϛ tD fn Ϝ ρ0 (h ϛ.l) [.code<|AZ fn] i r ⟨ds ϛ.l++d (fn.ntmps-F (ds ϛ.l)) .any,h ϛ.l⟩)
 (b:fn.body.isSome=T:=by kernel_rfl) (s:(fn.name== "runtime.NumGoroutine")=D:=by kernel_rfl) (J:∀l,F (h l)=Ϝ:=by intro;kernel_rfl):YW B GG tD f ds h<|r.map enc:=
 YW.of g b s J λϛ i ρ0 a=>by
  have:=ϒ ϛ i ρ0 a
  grind
end
section
set_option maxRecDepth 100000
set_option maxHeartbeats 40000000
def zGn:Ar (Am Tryz.f47 12) [] (θ 7) []:=Z0
def Q5:BZ:=λi=>match i with
 |12=>.ord [] (θ 7) []
 |_=>.no
inductive i9 where
 |l1 (A4 DB KC:E)
def Vc(n:U)(self:i9->X9)(pos:Ξ)(m h z:E):X9:=L (H<|m<(F pos:E)) (C (0<=m/\m<(F pos:E)) ((Q0 n<|M pos m.toNat 0).bind λf=>L (f==0) (Z (0,D))<|L (H<|f>1) (L ((h==0)&&((z==0)&&T)) (C (AI<|m+1) (self<|.l1 (m+1) f m) V)<|L (H<|f<h) (C (AI<|m+1) (self<|.l1 (m+1) f m) V)<|C (AI<|m+1) (self<|.l1 (m+1) h z) V)<|C (AI<|m+1) (self<|.l1 (m+1) h z) V) V)<|Z (z,!((h==0)&&((z==0)&&T)))
def zRh(n:U)(self:i9->X9)(pos:Ξ):X9:=self<|.l1 0 0 0
def QS(pos:Ξ):U->i9->X9
 |0,_=>V
 |n+1,.l1 m h z=>Vc n (QS pos n) pos m h z
def aI(n:U)(pos:Ξ):X9:=zRh n (QS pos n) pos
def zRi(n ϙ:U)(N:Yd 0)(pos:Ξ)(r:E×ζ):i9->Prop:=px n ϙ η N (FQ Tryz.f47 0 (.tup 2<|L1 [.i r.1,.bool r.2]) []) (AZ Tryz.f47) λ
 | .l1 m h z=>(0,0,AF 44 [(4,.ref 0 0),(10,.ints pos),(11,.i (F pos:E)),(12,.i m)],[oC [.i h,.i z]])
def zRj(ϙ:U)(N:Yd 0)(pos:Ξ):Al (QS pos) (zRi · ϙ N pos):=ia (λ_=>rfl) λn I G r h=>by
 cases G
 case l1 A4 DB KC=>
  intro q a;refine rd a λq a=>?_
  revert r;apply gO;exact bi 13 (gi (cf kz [oC [.i DB,.i KC]] λ_=>bi 20 (lE Q5 [2,3] []) (jt (bi 25 (bi 29 (jt (gw 38 (lG Q5 [0] (I _ _ · q a)))) (jg (by decide:(0:E)<=0/\0<((2:U):E)) (bi 34 (jt (gw 38 (lG Q5 [0] (I _ _ · q a)))) (gw 38 (lG Q5 [0] (I _ _ · q a)))))) (gw 38 (lG Q5 [0] (I _ _ · q a)))))))<|jg zGn<|jg (by decide:(0:E)<=1/\1<((2:U):E))<|lE Q5 [2,3] []
variable{pos:Ξ}{n:U}
def zBk{r:E×ζ}(h:aI n pos=Z r):EQ 47 [.ints pos] [] (.tup 2<|L1 [.i r.1,.bool r.2]) [] T:=by
 refine ot Tryz.func47 λϙ N=>?_
 revert r;apply gO;exact jt (lN Q5 [0] ((zRj ϙ N pos n) _ _ · n χ))
def zBl(n:U)(q:AA)(pos:Ξ):A<|E×ζ×E:=(Gb n q pos).bind λf=>L (f != 0) (Z (0,D,f))<|(aI n pos).bind λG=>Z (G.1,G.2,0)
def qr(n:U)(q:AA)(pos:Ξ):A<|E×ζ×E:=zBl n q pos
def qq{q:AA}{r:E×ζ×E}(h:qr n q pos=Z r):EQ 30 [.agg 5<|L1<|AG q,.ints pos] [] (.tup 3<|L1 [.i r.1,.bool r.2.1,.i r.2.2]) [] T:=by
 unfold qr zBl at h;refine ot Tryz.func30 λϙ N=>?_
 revert r;apply gO;exact cf ML [oC<|AG q] λ_=>bi 12 (lE AC [4,5,6] [])<|cf zBk [oC<|AG q] λ_=>lE AC [4,5,6] []
abbrev BU:=(Δ)×Ξ
def VS(x:BU):O DV:=[.agg 2<|L1 [.i x.1.1,.i x.1.2],.ints x.2]
def j8(pos:Ξ):U->O DV:=λ_=>[.ints pos,.ref 0 0,.ref 2 0,.ref 3 0]
def Dd(q:AA)(pos0:Ξ):U->DH:=λl=>[Z<|.ro<|AG q,Z<|.ro [.ints pos0],Z<|.ro [.yl l],Z<|.ro [.fn 85 3<|L1 [.ref 0 0,.ref 2 0,.ref 3 0]]]
def TM(b:ζ):DV:=.bool b
abbrev NG:=Ξ->AA->Ξ->A (O BU)
def TP(f:NG):Prop:=∀(pos:Ξ) (q:AA) (pos0:Ξ) (r:O BU),f pos q pos0=Z r->YW B GG TM 85 (j8 pos) (Dd q pos0) (r.map VS)
inductive Og where
 |l1 (CA:Ξ) (Ed CQ:E)
 |l2 (x10:Ξ) (Bl FO:E)
def Qo(n:U)(Ah:NG)(self:Og->A (O BU))(pos:Ξ)(q:AA)(pos0:Ξ)(c:Ξ)(R j:E):A<|O BU:=L (H<|j<R) (C (0<=j/\j<(F c:E)) (wx ((1,M c j.toNat 0),([]:Ξ))<|C (AI<|j+1) (self<|.l1 c R<|j+1) V) V)<|(aX n q pos 4).bind λf=>(GO n f.1).bind λa=>L a (wx ((3,0),([]:Ξ))<|Z [])<|(Tn n f.1).bind λy3=>L y3.2 (wx ((4,0),y3.1)<|Z [])<|(aI n f.1).bind λG=>wx ((2,G.1),([]:Ξ))<|self<|.l2 f.1 G.1 0
def TN(n:U)(m:NG)(self:Og->A (O BU))(pos:Ξ)(q:AA)(pos0:Ξ)(x10:Ξ)(g v:E):A<|O BU:=L (H<|v<q.sy) (C ((0<=g/\g<(F x10:E))/\(0<=v/\v<=(IntKind.i64.bits:E))) (L (bits .and .i64 (M x10 g.toNat 0/2^(v).toNat) 1==0) (C (AI<|v+1) (self<|.l2 x10 g<|v+1) V)<|(OG n q x10 g v).bind λf=>wb (m f.1 q pos0)<|C (AI<|v+1) (self<|.l2 x10 g<|v+1) V) V)<|Z []
def av(n:U)(Ah:NG)(self:Og->A (O BU))(pos:Ξ)(q:AA)(pos0:Ξ):A<|O BU:=(d5 n q pos 4).bind λf=>self<|.l1 f.1 (F f.1:E) 0
def Ff(m:NG)(pos:Ξ)(q:AA)(pos0:Ξ):U->Og->A (O BU)
 |0,_=>V
 |n+1,.l1 c R j=>Qo n m (Ff m pos q pos0 n) pos q pos0 c R j
 |n+1,.l2 x10 g v=>TN n m (Ff m pos q pos0 n) pos q pos0 x10 g v
def WC(ϛ:E5 B)(ρ0:O AK)(n:U)(pos:Ξ)(q:AA)(pos0:Ξ)(r:O BU):Og->Prop
 | .l1 c R j=>∀a:U,n<=a->∀i:U,DW ϛ VS i r->S5 ϛ TM Tryz.f85 4 ρ0 (Dd q pos0 ϛ.l) (EH a<|Fo (AZ Tryz.f85) 0 []) i r ⟨AF 94 [(0,.ints pos),(1,.ref 0 0),(2,.ref 2 0),(3,.ref 3 0),(25,.ints c),(26,.i R),(27,.i j)],[Z<|.ro<|AG q,Z<|.ro [.ints pos0],Z<|.ro [.yl ϛ.l],Z<|.ro [.fn 85 3<|L1 [.ref 0 0,.ref 2 0,.ref 3 0]]]⟩
 | .l2 x10 g v=>∀a:U,n<=a->∀i:U,DW ϛ VS i r->S5 ϛ TM Tryz.f85 4 ρ0 (Dd q pos0 ϛ.l) (EH a<|Fo (AZ Tryz.f85) 2 []) i r ⟨AF 94 [(1,.ref 0 0),(3,.ref 3 0),(10,.ints x10),(14,.i g),(69,.i q.sy),(70,.i v)],[Z<|.ro<|AG q,Z<|.ro [.ints pos0],Z<|.ro [.yl ϛ.l],Z<|.ro [.fn 85 3<|L1 [.ref 0 0,.ref 2 0,.ref 3 0]]]⟩
def zDK(ϛ:E5 B)(ρ0:O AK)(n:U)(u:NG)(CW:TP u)(self:Og->A (O BU))(pos:Ξ)(q:AA)(pos0:Ξ)(I:∀v r,self v=Z r->WC ϛ ρ0 n pos q pos0 r v)(e:Ξ)(R j:E)(r:O BU)(h:Qo n u self pos q pos0 e R j=Z r):WC ϛ ρ0 (n+1) pos q pos0 r<|.l1 e R j:=by
 intro k m;intro i a;refine rd m λk m=>?_
 unfold Qo at h;have p:=H0;rcases Bv h with⟨o,h⟩|⟨o,h⟩
 ·obtain⟨x,h⟩:=B6 h;have p:=H0.b 28 o|>.g x
  refine gs (AQ 22<|AQ 15<|AQ 13<|AQ 10<|AQ 5 AC) [0,1,2,3] p (CY (AZ Tryz.f85) 5 [k]) (AF 94 [(0,.ints pos),(1,.ref 0 0),(2,.ref 2 0),(3,.ref 3 0),(9,.i<|M e j.toNat 0),(25,.ints e),(26,.i R),(27,.i j)]) (Dd q pos0 ϛ.l) ?_;refine wO (ops:=Am Tryz.f85 5) Z5 ?_;refine wY (xs:=[.agg 2<|L1 [.i 1,.i<|M e j.toNat 0],.nils]) [0,1,2] [4] 3 H0 (AF 94 [(0,.ints pos),(1,.ref 0 0),(2,.ref 2 0),(3,.ref 3 0),(25,.ints e),(26,.i R),(27,.i j)]) (Dd q pos0 ϛ.l) (Z 34) h a ⟨At,AO.ints_nil,trivial⟩ (λr=>?_) λr i h a=>?_
  ·refine wS H0 (AF 94 [(0,.ints pos),(1,.ref 0 0),(2,.ref 2 0),(3,.ref 3 0),(25,.ints e),(26,.i R),(27,.i j),(35,.bool T)]) (Dd q pos0 ϛ.l) ?_;have p:=H0;exact ee AC [5] [0,1,2,3] p
  ·refine wE H0 (AF 94 [(0,.ints pos),(1,.ref 0 0),(2,.ref 2 0),(3,.ref 3 0),(25,.ints e),(26,.i R),(27,.i j),(35,.bool D)]) (Dd q pos0 ϛ.l) ?_;obtain⟨y,h⟩:=B6 h;have p:=H0.w 36 y;exact gg (AQ 22<|AQ 15<|AQ 13<|AQ 10<|AQ 5 AC) [0,1,2,3] p<|I _ _ h k m i a
 ·obtain⟨f,P,h⟩:=D4 h;obtain⟨y2,z,h⟩:=D4 h;have p:=H0.b 28 o|>.c (fb (zSx P)<|Dd q pos0 ϛ.l)|>.c (fb (KG z)<|Dd q pos0 ϛ.l)
  rcases Bv h with⟨s,h⟩|⟨s,h⟩
  ·have p:=p.b 44 s;refine gs (AQ 22<|AQ 15<|AQ 13<|AQ 10<|AQ 5 AC) [0,1,2,3] p (CY (AZ Tryz.f85) 10 []) (AF 94 [(2,.ref 2 0)]) (Dd q pos0 ϛ.l) ?_;refine wO (ops:=Am Tryz.f85 10) Z5 ?_;refine wY (xs:=[.agg 2<|L1 [.i 3,.i 0],.nils]) [0,1] [3] 2 H0 (AF 94 []) (Dd q pos0 ϛ.l) (Z 47) h a ⟨At,AO.ints_nil,trivial⟩ (λr=>?_) λr i h a=>?_
   ·refine wS H0 (AF 94 [(5,.bool D)]) (Dd q pos0 ϛ.l) ?_;have p:=H0;exact ee AC [5] [0,1,2,3] p
   ·refine wE H0 (AF 94 [(5,.bool T)]) (Dd q pos0 ϛ.l) ?_;have p:=H0;cases h;exact wF<|ee (AQ 22<|AQ 15<|AQ 13<|AQ 10<|AQ 5 AC) [5] [0,1,2,3] p
  ·obtain⟨y3,J,h⟩:=D4 h;have p:=p.b 44 s|>.c (fb (uX J)<|Dd q pos0 ϛ.l)
   rcases Bv h with⟨t,h⟩|⟨t,h⟩
   ·have p:=p.b 52 t;refine gs (AQ 22<|AQ 15<|AQ 13<|AQ 10<|AQ 5 AC) [0,1,2,3] p (CY (AZ Tryz.f85) 13 []) (AF 94 [(2,.ref 2 0),(12,.ints y3.1)]) (Dd q pos0 ϛ.l) ?_;refine wO (ops:=Am Tryz.f85 13) Z5 ?_;refine wY (xs:=[.agg 2<|L1 [.i 4,.i 0],.ints y3.1]) [0,1,2] [4] 3 H0 (AF 94 []) (Dd q pos0 ϛ.l) (Z 57) h a ⟨At,At,trivial⟩ (λr=>?_) λr i h a=>?_
    ·refine wS H0 (AF 94 [(5,.bool D)]) (Dd q pos0 ϛ.l) ?_;have p:=H0;exact ee AC [5] [0,1,2,3] p
    ·refine wE H0 (AF 94 [(5,.bool T)]) (Dd q pos0 ϛ.l) ?_;have p:=H0;cases h;exact wF<|ee (AQ 22<|AQ 15<|AQ 13<|AQ 10<|AQ 5 AC) [5] [0,1,2,3] p
   ·obtain⟨G,LE,h⟩:=D4 h;have p:=p.b 52 t|>.c (fb (zBk LE)<|Dd q pos0 ϛ.l)
    refine gs (AQ 22<|AQ 15<|AQ 13<|AQ 10<|AQ 5 AC) [0,1,2,3] p (CY (AZ Tryz.f85) 15 []) (AF 94 [(1,.ref 0 0),(2,.ref 2 0),(3,.ref 3 0),(10,.ints f.1),(14,.i G.1)]) (Dd q pos0 ϛ.l) ?_;refine wO (ops:=Am Tryz.f85 15) Z5 ?_;refine wY (xs:=[.agg 2<|L1 [.i 2,.i G.1],.nils]) [0,1,2] [4] 3 H0 (AF 94 [(1,.ref 0 0),(3,.ref 3 0),(10,.ints f.1),(14,.i G.1)]) (Dd q pos0 ϛ.l) (Z 66) h a ⟨At,AO.ints_nil,trivial⟩ (λr=>?_) λr i h a=>?_
    ·refine wS H0 (AF 94 [(1,.ref 0 0),(3,.ref 3 0),(10,.ints f.1),(14,.i G.1),(67,.bool T)]) (Dd q pos0 ϛ.l) ?_;have p:=H0;exact ee AC [5] [0,1,2,3] p
    ·refine wE H0 (AF 94 [(1,.ref 0 0),(3,.ref 3 0),(10,.ints f.1),(14,.i G.1),(67,.bool D)]) (Dd q pos0 ϛ.l) ?_;have p:=H0;exact gg (AQ 22<|AQ 15<|AQ 13<|AQ 10<|AQ 5 AC) [0,1,2,3] p<|en n<|I _ _ h n χ i a
def zDJ(ϛ:E5 B)(ρ0:O AK)(n:U)(s:NG)(x:TP s)(self:Og->A (O BU))(pos:Ξ)(q:AA)(pos0:Ξ)(I:∀G r,self G=Z r->WC ϛ ρ0 n pos q pos0 r G)(x10:Ξ)(e v:E)(r:O BU)(h:TN n s self pos q pos0 x10 e v=Z r):WC ϛ ρ0 (n+1) pos q pos0 r<|.l2 x10 e v:=by
 intro f j;intro i k;refine rd j λf j=>?_
 unfold TN at h;have p:=H0;rcases Bv h with⟨m,h⟩|⟨m,h⟩
 ·obtain⟨⟨y,z⟩,h⟩:=B6 h;have p:=H0.b 71 m|>.g y|>.g z
  rcases Bv h with⟨o,h⟩|⟨o,h⟩
  ·obtain⟨u,h⟩:=B6 h;have p:=p.b 80 o|>.w 93 u
   exact gg (AQ 22<|AQ 15<|AQ 13<|AQ 10<|AQ 5 AC) [0,1,2,3] p<|I _ _ h f j i k
  ·obtain⟨t,P,h⟩:=D4 h;have p:=p.b 80 o|>.c (fb (zAm P)<|Dd q pos0 ϛ.l)
   refine gs (AQ 22<|AQ 15<|AQ 13<|AQ 10<|AQ 5 AC) [0,1,2,3] p (CY (AZ Tryz.f85) 22 [f]) (AF 94 [(1,.ref 0 0),(3,.ref 3 0),(10,.ints x10),(14,.i e),(17,.ints t.1),(69,.i q.sy),(70,.i v)]) (Dd q pos0 ϛ.l) ?_;refine wO (ops:=Am Tryz.f85 22) Z5 ?_;refine wC (ds:=j8 t.1) (h:=Dd q pos0) (tD':=TM) [0,1] [3] 2 H0 (AF 94 [(1,.ref 0 0),(3,.ref 3 0),(10,.ints x10),(14,.i e),(69,.i q.sy),(70,.i v)]) (Dd q pos0 ϛ.l) (Z 91) h k (λa J=>x _ _ _ a J) (λi r=>?_) λr i h k=>?_
   ·refine wS H0 (AF 94 [(1,.ref 0 0),(3,.ref 3 0),(10,.ints x10),(14,.i e),(69,.i q.sy),(70,.i v),(92,.bool T)]) (Dd q pos0 ϛ.l) ?_;have p:=H0;exact ee AC [5] [0,1,2,3] p
   ·refine wE H0 (AF 94 [(1,.ref 0 0),(3,.ref 3 0),(10,.ints x10),(14,.i e),(69,.i q.sy),(70,.i v),(92,.bool D)]) (Dd q pos0 ϛ.l) ?_;obtain⟨u,h⟩:=B6 h;have p:=H0.w 93 u;exact gg (AQ 22<|AQ 15<|AQ 13<|AQ 10<|AQ 5 AC) [0,1,2,3] p<|I _ _ h f j i k
 ·have p:=H0.b 71 m;cases h;exact wF<|ee (AQ 22<|AQ 15<|AQ 13<|AQ 10<|AQ 5 AC) [5] [0,1,2,3] p
def j9(ϛ:E5 B)(ρ0:O AK)(m:NG)(i:TP m)(pos:Ξ)(q:AA)(pos0:Ξ):∀(n:U) (G:Og) (r:O BU),Ff m pos q pos0 n G=Z r->WC ϛ ρ0 n pos q pos0 r G
 |0,_,_,h=>by cases h
 |n+1,.l1 c R j,r,h=>zDK ϛ ρ0 n m i (Ff m pos q pos0 n) pos q pos0 (j9 ϛ ρ0 m i pos q pos0 n) c R j r h
 |n+1,.l2 x10 g v,r,h=>zDJ ϛ ρ0 n m i (Ff m pos q pos0 n) pos q pos0 (j9 ϛ ρ0 m i pos q pos0 n) x10 g v r h
def FP:U->Ξ->AA->Ξ->A (O BU)
 |0,_,_,_=>V
 |n+1,pos,q,pos0=>av n (FP n) (Ff (FP n) pos q pos0 n) pos q pos0
def zDI{m:NG}(a:TP m):TP λpos q pos0=>av n m (Ff m pos q pos0 n) pos q pos0:=λpos q pos0 r h=>YW.ofW (Ϝ:=4) (h:=Dd q pos0) (tD:=TM) Tryz.func85 (λϛ i ρ0 b=>by
 replace h:av n m (Ff m pos q pos0 n) pos q pos0=Z r:=h;have I:=j9 ϛ ρ0 m a pos q pos0 n;unfold av at h
 generalize Ff m pos q pos0 n=self at h I
 obtain⟨y1,P,h⟩:=D4 h;have p:=H0.c<|fb (zJi P)<|Dd q pos0 ϛ.l;exact gg (AQ 22<|AQ 15<|AQ 13<|AQ 10<|AQ 5 AC) [0,1,2,3] p<|en n<|I _ _ h n χ i b)
def sU:∀n,TP<|FP n
 |0=>λ_ _ _ r h=>by cases h
 |n+1=>zDI<|sU n
def zJ6:U->O DV:=λl=>[.yl l,.ref 0 0,.ref 1 0]
def RP(q:AA)(pos0:Ξ):U->DH:=λ_=>[Z<|.ro<|AG q,Z<|.ro [.ints pos0]]
def mz(b:ζ):DV:=Oh
abbrev zJ8:=AA->Ξ->A (O BU)
def zJ7(f:zJ8):Prop:=∀(q:AA) (pos0:Ξ) (r:O BU),f q pos0=Z r->YW B GG mz 84 zJ6 (RP q pos0) (r.map VS)
def m4(n:U)(q:AA)(pos0:Ξ):A<|O BU:=wb (FP n pos0 q pos0)<|Z []
def PZ(n:U)(q:AA)(pos0:Ξ):A<|O BU:=m4 n q pos0
def zJ5 :zJ7<|PZ n:=λq pos0 r h=>YW.ofW (Ϝ:=2) (h:=RP q pos0) (tD:=mz) Tryz.func84 (λϛ i ρ0 b=>by
 replace h:m4 n q pos0=Z r:=h;unfold m4 at h;have p:=H0.t;refine gs (AQ 3 AC) [0,1,2,3] p (CY (AZ Tryz.f84) 3 []) (AF 9 [(2,.ref 1 0),(4,.ref 3 0)]) (RP q pos0 ϛ.l++[oC [.yl ϛ.l],oC [.fn 85 3<|L1 [.ref 0 0,.ref 2 0,.ref 3 0]]]) ?_;refine jn [2,3] (RP q pos0 ϛ.l++[Z<|.ro [.yl ϛ.l],Z<|.ro [.fn 85 3<|L1 [.ref 0 0,.ref 2 0,.ref 3 0]]]) ?_;refine wO (ops:=Am Tryz.f84 3) Z5 ?_;refine wC (ds:=j8 pos0) (h:=Dd q pos0) (tD':=TM) [0,1] [] 2 H0 (AF 9 []) (RP q pos0 ϛ.l++[Z<|.ro [.yl ϛ.l],Z<|.ro [.fn 85 3<|L1 [.ref 0 0,.ref 2 0,.ref 3 0]]]) (Z 8) h b (λa P=>sU n _ _ _ a P) (λi r=>?_) λr i h b=>?_
 ·refine w0S ?_;have p:=H0;exact ee AC [] [0,1] p
 ·refine w0 ?_;have p:=H0;cases h;exact wF<|ee (AQ 3 AC) [] [0,1] p)
end
section
variable{k:U}{x:E}
theorem lB(h:Sm k x):B4 x k= []:=by
 unfold B4;rw[zTI];intro s l;have:=zT3.1 l;rw[h.hi this.1];decide
def zFA(hk:k<=16)(h:Sm k x):Sm 16 x:=
 Wg Z6 (h.in64 Z2) λi hi _=>h.hi Z2
def lC{i:U}:(B4 x i).Nodup:=List.Nodup.sublist zTf List.nodup_range'
def GW(p:Ξ)(k:U):U:=F<|B4 (M p k 0) 0
def EF(p:Ξ):U->U×U
 |0=>(0,0)
 |k+1=>C (1<GW p k/\(EF p k=(0,0)∨GW p k<(EF p k).1)) (GW p k,k)<|EF p k
def IM(i:E):BU:=((1,i),[])
inductive Sr(q:AA):W9->Ξ->O BU->Prop
 |dead {p x o:Ξ}:S9 q p 4 (o,0)->JC q 4 p x->BM x=T->Sr q V p (o.map IM++[((3,0),[])])
 |done {p x o g:Ξ}:S9 q p 4 (o,0)->JC q 4 p x->BM x=D->Eh x=Z g->Sr q V p (o.map IM++[((4,0),g)])
 |split {p x o:Ξ} {c:U} {l:O BU}:S9 q p 4 (o,0)->JC q 4 p x->BM x=D->Eh x=V->c=(EF x (F x)).2->c<F x->2<=GW x c->Sr q (Z (c,B4 (M x c 0) 0)) x l->Sr q V p (o.map IM++((2,(c:E)),[])::l)
 |nil {x:Ξ} {c:U}:Sr q (Z (c,[])) x []
 |cons {x:Ξ} {c s:U} {ss:Θ} {a b:O BU}:Sr q V (Fl x c s) a->Sr q (Z (c,ss)) x b->Sr q (Z (c,s::ss)) x (a++b)
section
variable{q:AA}{p x pos0 o:Ξ}{c s:U}
def BC.sm16(h:BC q x)(j:U)(g:j<F x):Sm 16<|M x j 0:=zFA h.k<|h.sm j g
theorem bO(h:BC q x){j:U}(g:j<F x):0<GW x j↔M x j 0≠0:=by
 rw[GV<|h.in64 j,GW,List.length_pos_iff_exists_mem];constructor
 ·grind[IS]
 ·rintro⟨s,_,l⟩;refine⟨s,IS.2 ⟨zDL λX=>?_,l⟩⟩;rw[(h.sm16 j g).hi X]at l;cases l
theorem zBn:∀k,(EF x k=(0,0)/\∀j,j<k->GW x j<=1)∨(2<=(EF x k).1/\(EF x k).2<k/\GW x (EF x k).2=(EF x k).1)
 |0=>.inl ⟨rfl,λj g=>τ g<|zAR j⟩
 |k+1=>by
  unfold EF;split
  ·grind
  ·rename_i h;rcases zBn k with⟨a,c⟩|⟨a,c,h3⟩
   ·grind
   grind
theorem ui:∀{l:Ξ},(∀j,j<F l->GW l j=1)->∃g,Eh l=Z g
 |[],_=>⟨[],rfl⟩
 |x::l,h=>by
  obtain⟨g,hg⟩:=ui (l:=l) λj a=>h (j+1) (by simpa using a)
  have h0:=h 0 Z3
  grind[List.length_eq_one_iff,Eh,GW]
theorem zRk(h:BC q x)(hd:BM x=D)(a:Eh x=V):EF x (F x)≠(0,0)/\(EF x<|F x).2<F x/\2<=GW x (EF x<|F x).2:=by
 rcases zBn (x:=x) (F x)with⟨_,c⟩|⟨h1,c,h3⟩
 ·obtain⟨g,s⟩:=ui (l:=x) λj hj=>by
   grind[bO,Fb]
  rw[s]at a;cases a
 grind
theorem zBj(h:BC q x):∀(k j:U),j+k=F x->(∀i,i<j->M x i 0≠0)->Ev (λn=>QS x n<|.l1 (j:E) ((EF x j).1:E) ((EF x j).2:E)) (C (BM x) (0,D) (((EF x<|F x).2:E),H<|EF x (F x)≠(0,0)))
 |0,j,e,f=>by
  have r:BM x=D:=Fb.2 λi hi=>f i Z2
  refine Ev.one λn=>?_
  show Vc n (QS x n) x (j:E) _ _=_
  unfold Vc;have e:j=F x:=Z2
  rw[zAF Z2,zAJ,r,zAt Z6,e]
  congr 2
  grind
 |k+1,j,e,f=>by
  have g:j<F x:=Z2
  have ED:=h.len256;obtain⟨N,I⟩:=ul<|h.sm16 j g;have I:∀n,N<=n->Q0 n (M x j 0)=Z ((GW x j:U):E):=I
  by_cases h0:M x j 0=0
  ·have r:BM x=T:=by
    grind[Fb]
   have l:GW x j=0:=Nat.eq_zero_of_not_pos λa=>(bO h g).1 a h0
   refine Ev.oneN N λn s=>?_
   grind[Vc,QS]
  ·have b:=zBj h k (j+1) Z2 λi hi=>by
    grind
   have l:GW x j≠0:=λl=>by
    grind[bO]
   refine AX.ev (m:=QS x) (AX.oneN N λn s=>?_) b
   show Vc n (QS x n) x (j:E) _ _=_
   unfold Vc;simp only[zAB<|show AI ((j:E)+1)from Ae.2 ⟨Z2,Z2⟩]
   have G:(((EF x j).1:E)==0&&(((EF x j).2:E)==0&&T))=H (EF x j=(0,0)):=by
    grind
   rw[G,show EF x (j+1)=C (1<GW x j/\(EF x j=(0,0)∨GW x j<(EF x j).1)) (GW x j,j) (EF x j)from rfl]
   grind
def zRg(h:BC q x):Ev (λn=>aI n x)<|C (BM x) (0,D) (((EF x<|F x).2:E),H<|EF x (F x)≠(0,0)):=
 (zBj h (F x) 0 Z2 λi hi=>τ hi<|zAR i).eq λ_=>rfl
theorem zAg(h:BC q x)(hc:c<F x)(a:s<q.sy.toNat){l t:U}(ht:tb (M (Fl x c s) l 0) t=T):tb (M x l 0) t=T/\(l=c->t=s):=by
 obtain⟨z1,z2⟩:=g9 h.valid h.ok hc a
 grind[Fl,JI]
def BC.fx(h:BC q x)(hc:c<F x)(l:s<q.sy.toNat):BC q<|Fl x c s:=⟨h.fit,h.valid,zPW h.valid h.ok hc l⟩
theorem zPV(h:BC q x)(hc:c<F x)(f:s<q.sy.toNat)(g:2<=GW x c):wt (Fl x c s)<wt x:=by
 refine V8 (h.fx hc f) h (λj t v=>(zAg h hc f v).1) λe=>?_
 have all:∀t∈B4 (M x c 0) 0,t=s:=λt v=>by
  have:=(IS.1 v).2;rw[←e]at this;exact(zAg h hc f this).2 rfl
 have nd:=lC (x:=M x c 0) (i:=0);unfold GW at g
 generalize B4 (M x c 0) 0=l at*
 match l,g with
 |a::b::l,_=>
  simp_all
theorem uQ(h:BC q x)(hc:c<F x)(g:∀s,s<q.sy.toNat->∃l,Sr q V (Fl x c s) l/\Ev (λn=>FP n (Fl x c s) q pos0) l):
 ∀(k j:U),j+k=q.sy.toNat->∃l,Sr q (Z (c,B4 (M x c 0) j)) x l/\∃N,∀n m,N<=n->N<=m->Ff (FP m) p q pos0 n (.l2 x (c:E) (j:E))=Z l
 |0,j,e=>by
  have f:=h.sm c hc;refine⟨[],?_,1,λn m i _=>?_⟩
  ·rw[show j=q.sy.toNat by omega,lB f];exact .nil
  ·obtain⟨n,rfl⟩:∃k,n=k+1:=⟨n-1,Z2⟩
   grind[TN,Ff]
 |k+1,j,e=>by
  have f:=h.sm c hc;have hk:=h.k;obtain⟨b,o,N,hN⟩:=uQ h hc g k (j+1) Z2
  have step:∀n m,Ff (FP m) p q pos0 (n+1) (.l2 x (c:E) (j:E))=L (!tb (M x c 0) j) (Ff (FP m) p q pos0 n<|.l2 x (c:E) ((j+1:U):E)) ((OG n q x c j).bind λr=>wb (FP m r.1 q pos0)<|Ff (FP m) p q pos0 n<|.l2 x (c:E) ((j+1:U):E)):=λn m=>by
   show TN n (FP m) (Ff (FP m) p q pos0 n) p q pos0 x (c:E) (j:E)=_
   unfold TN;have r1:AI<|(j:E)+1:=Ae.2 ⟨Z2,Z2⟩;rw[zAA Z2,zAI,zAB ⟨⟨Z2,Z2⟩,Z2,by show(j:E)<=((64:U):E);omega⟩,u8,u8,zFJ f Z2 Z2]
   grind
  rw[cD<|show j<16 by omega];cases v:tb (M x c 0) j with
  |false=>
   refine⟨b,o,N+1,λn m i z=>?_⟩;obtain⟨n,rfl⟩:∃k,n=k+1:=⟨n-1,Z2⟩
   grind
  |true=>
   obtain⟨a,P,ϗ,hM⟩:=g j Z2;refine⟨a++b,.cons P o,N+ϗ+D0 q+301,λn m i z=>?_⟩;obtain⟨n,rfl⟩:∃k,n=k+1:=⟨n-1,Z2⟩;rw[step,v,zAl h.fit h.valid h.ok hc Z2<|show D0 q+300<=n by omega]
   grind[wb]
theorem zAn{t:O BU}(x:F o<=20000)(h:∃N,∀n m,N<=n->N<=m->Ff (FP m) p q pos0 n (.l1 o (F o:E) (F o:E))=Z t):
 ∀(k j:U),j+k=F o->∃N,∀n m,N<=n->N<=m->Ff (FP m) p q pos0 n (.l1 o (F o:E) (j:E))=Z ((o.drop j).map IM++t)
 |0,j,e=>by
  simp_all
 |k+1,j,e=>by
  obtain⟨N,I⟩:=zAn x h k (j+1) Z2;refine⟨N+1,λn m hn hm=>?_⟩;obtain⟨n,rfl⟩:∃k,n=k+1:=⟨n-1,Z2⟩;have g:j<F o:=Z2
  show Qo n (FP m) (Ff (FP m) p q pos0 n) p q pos0 o (F o:E) (j:E)=_
  unfold Qo;rw[zAA Z2,zAI,zAB ⟨Z2,Z2⟩,zAB<|Ae.2 ⟨Z2,Z2⟩,u8,show(j:E)+1=((j+1:U):E) by omega,I n m Z2 Z2,zBz g]
  grind[wx,IM]
variable{level:E}
theorem S9.zero(a:BC q p){r:Ξ×E}(h:S9 q p level r):r.2=0/\F r.1<=20000:=by
 rcases h with⟨b,_⟩|⟨_,_,k⟩|⟨_,_,k,R,_⟩
 ·exact τ a.check b
 ·grind
 ·exact⟨k,R⟩
theorem JC.posn(a:BC q p)(h:JC q level p x):BC q x/\Le x p/\wt x<=wt p:=by
 have key:BC q x/\Le x p:=by
  rcases h with⟨_,rfl⟩|⟨_,b,_⟩
  ·exact⟨⟨a.fit,a.valid,rt a.valid a.ok⟩,λj s hs=>by
    grind[JI]⟩
  ·exact⟨b.pos kE a,b.le⟩
 refine⟨key.1,key.2,?_⟩
 by_cases e:x=p
 ·rw[e];exact zAf _
 ·have:=V8 key.1 a key.2 e;omega
theorem zSq(h:BC q p):∃x,Ev (λn=>aX n q p level) (x,0)/\JC q level p x:=by
 obtain⟨⟨x,e⟩,h1,c⟩:=zSr (level:=level) h.fit<|zAO h.len256.2 Z6;rcases c with⟨k,_⟩|⟨_,k,_⟩|⟨_,_,k,h4⟩
 ·exact τ h.check k
 ·cases k
 grind
theorem zDH:∀(ϗ:U) {p:Ξ},wt p<=ϗ->BC q p->∃l,Sr q V p l/\Ev (λn=>FP n p q pos0) l:=by
 intro ϗ
 induction ϗ using Nat.strongRecOn with
 |ind ϗ y=>
  intro p hM h;obtain⟨⟨o,e⟩,o1,Q⟩:=zJh (level:=4) h.fit<|zAO h.len256.2 Z6;obtain⟨i,j⟩:=Q.zero h;have i:e=0:=i;subst i;have j:F o<=20000:=j;obtain⟨x,u,c⟩:=zSq (level:=4) h;obtain⟨a,Rr,hxw⟩:=c.posn h;obtain⟨ϕ,u⟩:=u;have v:=a.len256;have SL:∀m,300<=m->GO m (x,(0:E)).1=Z (BM x):=λm G=>Mg (zAO v.2 Z6) (by show F x<m;omega)
  obtain⟨S,z⟩:=uc (pos:=x) a.sm16 v.2;have z:∀n,S<=n->Tn n (x,(0:E)).1=Z (IB []<|Eh x):=z;obtain⟨ϛ,w⟩:=zRg a;have w:∀n,ϛ<=n->aI n (x,(0:E)).1=_:=w
  have key:∃t,Sr q V p (o.map IM++t)/\∃N,∀n m,N<=n->N<=m->Ff (FP m) p q pos0 n (.l1 o (F o:E) (F o:E))=Z t:=by
   have step:∀n m,ϕ+300+S+ϛ<=n->Ff (FP m) p q pos0 (n+1) (.l1 o (F o:E) (F o:E))=L (BM x) (Z [((3,0),[])]) (L (IB []<|Eh x).2 (Z [((4,0),(IB []<|Eh x).1)])<|wx ((2,((EF x<|F x).2:E)),[])<|Ff (FP m) p q pos0 n<|.l2 x ((EF x<|F x).2:E) 0):=λn m f=>by
    show Qo n (FP m) (Ff (FP m) p q pos0 n) p q pos0 o (F o:E) (F o:E)=_
    unfold Qo
    grind[wx]
   cases r:BM x with
   |true=>
    refine⟨_,.dead Q c r,ϕ+300+S+ϛ+1,λn m f _=>?_⟩;obtain⟨n,rfl⟩:∃k,n=k+1:=⟨n-1,Z2⟩
    grind
   |false=>
    cases b:Eh x with
    |some g=>
     refine⟨_,.done Q c r b,ϕ+300+S+ϛ+1,λn m f _=>?_⟩;obtain⟨n,rfl⟩:∃k,n=k+1:=⟨n-1,Z2⟩
     grind[IB]
    |none=>
     obtain⟨_,K,R⟩:=zRk a r b;have hc:=λs (b:s<q.sy.toNat)=>y (wt<|Fl x (EF x<|F x).2 s) (by have:=zPV a K b R;omega) (zAf _)<|a.fx K b
     obtain⟨l,I,N,l2⟩:=uQ (p:=p) (pos0:=pos0) a K hc q.sy.toNat 0 Z2;refine⟨_,.split Q c r b rfl K R I,ϕ+300+S+ϛ+N+1,λn m f G=>?_⟩;obtain⟨n,rfl⟩:∃k,n=k+1:=⟨n-1,Z2⟩
     grind[IB,wx]
  obtain⟨t,J,P⟩:=key;obtain⟨N,hN⟩:=zAn j P (F o) 0 Z2;obtain⟨ϐ,o1⟩:=o1;refine⟨_,J,N+ϐ+1,λn f=>?_⟩;obtain⟨n,rfl⟩:∃k,n=k+1:=⟨n-1,Z2⟩
  show(d5 n q p 4).bind _=_
  grind
theorem xj(h:BC q p):∃l,Sr q V p l/\Ev (λn=>PZ n q p) l:=by
 obtain⟨l,a,N,h2⟩:=zDH (pos0:=p) (wt p) (zAf _) h;refine⟨l,a,N,λn hn=>?_⟩
 show wb (FP n p q p) (Z [])=_
 grind[wb]
end
end
end Go.Proofs.YtnkpdcmbppkkpaaGreatDoor
