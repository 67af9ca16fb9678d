/- Part 3 of 8 of what the proofs of these laws stand on. -/
import Derived.Test.YtnkpdcmbppkkpaaGreatDoorPnB
import Derived.LoopIn
import Derived.Laws.BitsLemmas
set_option linter.all false
open Bool renaming true->D,false->T
open Decidable renaming decide->C
open Eq renaming refl->φ
open Go renaming World->κ,Value->μ,Program->ν,TypeId->ψ,execOp->ω
open Go.Fence renaming wide->η
open Go.Proofs.Tryz renaming prog->L
open Inhabited renaming default->ξ
open List renaming length->F,getD->H,replicate->d,range->θ
open Nat.le renaming refl->χ
open Option renaming none->A,some->Z
open _root_ renaming cond->B,Nat->E,Option->M,List->O,Int->U,ite->u,Bool->ζ,absurd->τ,Array->υ
namespace Go.Proofs.YtnkpdcmbppkkpaaGreatDoor
open Go.RowKit
structure HX(ϖ:Fence)(P:ν):Prop where
 f:DQ ϖ P
 m:P.follows .mixedOrders=D
structure HS(c:O (DV×DH×ζ))(o:O (E×DV))(z:O (E×Fz))(v:O Prop):Prop where
 all:BU v
section
variable{P:ν}{Γ:A1}{cs:O (DV×DH×ζ)}{os:O (E×DV)}{zs:O (E×Fz)}{vs:O Prop}
def H0:HS [] [] [] []:=⟨trivial⟩
variable{p:Prop}
theorem HS.add(q:HS cs os zs vs){V:O (DV×DH×ζ)}{o':O (E×DV)}{Y:O (E×Fz)}(h:p):HS V o' Y<|vs++[p]:=⟨DP.2 ⟨q.all,h,trivial⟩⟩
variable{Ϛ:DV}
def HS.o(q:HS cs os zs vs)(t:E){d':DV}(x:AO Ϛ d'):HS cs (os++[(t,d')]) zs<|vs++[AO Ϛ d']:=q.add x
def HS.b(q:HS cs os zs vs)(t:E){a b:ζ}(x:a=b):HS cs (os++[(t,.bool b)]) zs<|vs++[AO (.bool a)<|.bool b]:=q.add<|AO.bool x
def HS.w(q:HS cs os zs vs)(t:E){x:U}(h:AG x):HS cs (os++[(t,.int .i64 x)]) zs<|vs++[AO (.int .i64<|IntKind.i64.wrap x)<|.int .i64 x]:=q.add<|zAz h
def HS.g(q:HS cs os zs vs)(x:p):HS cs os zs<|vs++[p]:=q.add x
def HS.t(q:HS cs os zs vs):HS cs os zs<|vs++[True]:=q.add trivial
variable{h' h:DH}{ds:O DV}{f:E}
def HS.c(q:HS cs os zs vs){e:ζ}(x:ES P Γ f ds h Ϛ h' e):HS (cs++[(Ϛ,h',e)]) os zs<|vs++[ES P Γ f ds h Ϛ h' e]:=q.add x
def HS.q(q:HS cs os zs vs){k:E}(x:Ro P Γ f ds h Ϛ h' k):HS (cs++[(Ϛ,h',T)]) os zs<|vs++[Ro P Γ f ds h Ϛ h' k]:=q.add x
def HS.a(q:HS cs os zs vs)(t k m:E){n P:E}{f b:E->E->DV}(x:n=P/\∀i j,i<n->j<m->AO (f i j) (b i j)):HS cs os (zs++[(t,.arr k P b)])<|vs++[n=P/\∀i j,i<n->j<m->AO (f i j) (b i j)]:=q.add x
def HS.z(q:HS cs os zs vs)(t k:E):HS cs os (zs++[(t,.frz k)]) vs:=⟨q.all⟩
def HS.k(q:HS cs os zs vs)(t:E):HS cs os (zs++[(t,.rws)]) vs:=⟨q.all⟩
end
def ES.emC{P:ν}{Γ:A1}{f:E}{ds:O DV}{h:DH}{Ϛ:DV}{h':DH}{ext:ζ}(a:ES P Γ f ds h Ϛ h' ext)(σ:Θ)(ϗ:DH)(b:Oz σ (F ϗ) (F h) (F h')=D)(s:(σ.map λk=>ϗ.getD k A)=h.map (ET σ<|F ϗ)):ES P Γ f (ds.map<|up σ<|F ϗ) ϗ (up σ (F ϗ) Ϛ) (Fq ϗ σ h') ext:=
 a.embedB σ ϗ b s rfl
def OD{α:Type}[Inhabited α](c:α->O DV)(ϙ:O α)(n m:E)(h:∀x,(c x).all Ie=D/\m=F (c x)):∀i j,i<n->j<m->Ie (AM c ϙ i j)=D:=λi j _ l=>zIT (h _).1 (h _).2 j l
def frzL:Θ->St->M (St×O Prop)
 |[],S=>Z (S,[])
 |k::Y,S=>match Xs k S with
  |some (S',vs)=>match frzL Y S' with
   |some (P,y)=>Z (P,vs++y)
   |none=>A
  |none=>A
def A6.frzL{ϙ:E}:∀(Y:Θ) {S S':St} {vs:O Prop},Proofs.YtnkpdcmbppkkpaaGreatDoor.frzL Y S=Z (S',vs)->BU vs->A6 ϙ S S'
 |[],S,S',vs,h,_=>by cases h;exact A6.refl ϙ S
 |k::Y,S,S',vs,h,t=>by
  simp only[Proofs.YtnkpdcmbppkkpaaGreatDoor.frzL]at h;split at h
  ·rename_i G R a;split at h
   ·rename_i S2 EP h2;cases h;obtain⟨b,l⟩:=DP.1 t;exact(A6.frzE k G R a b).trans<|A6.frzL Y h2 l
   ·cases h
  ·cases h
abbrev iG:=O Prop×O Prop×O (DV×DH×ζ)×O (E×DV)×ζ
def Sz(σ:Θ)(ϙ:E)(w:O Prop)(r:KO×St×O Prop×BM):iG:=(r.2.2.1,w,r.2.2.2.calls,r.2.2.2.co,Kg σ ϙ<|F r.2.1.h)
def OB(Q σ:Θ)(ϙ:E)(Y:Θ)(r:KO×St×O Prop×BM):M<|KO×O DV×DH×iG:=match frzL Y (comp Q σ r.2.1)with
 |some (S,w)=>Z (r.1,S.fr,S.h,Sz σ ϙ w r)
 |none=>A
def wS:KO->M Exit
 | .ret=>Z .ret
 | .at []=>Z .normal
 | .at (.code (.exit i)::k)=>u (J0 i k).isNone (Z<|.exit i) A
 |_=>A
def K8(P:ν)(Q σ:Θ)(ϙ:E)(Y:Θ)(fn:Func)(Ϛ:DV)(i:E)(r:KO×St×O Prop×BM):M<|ζ×O DV×DH×iG:=match frzL Y (comp Q σ r.2.1)with
 |some (S,w)=>match Nn P S fn.results.toList with
  |some f=>Z ((match r.1 with| .ret=>D| .at []=>D|_=>T)&&(C (F S.h<=i)||(S.h.all cZ&&Fi Ϛ&&C (ϙ<=F S.h))),f,u (F S.h<=i) S.h (GO (θ ϙ) S).h,Sz σ ϙ w r)
  |none=>A
 |none=>A
def kj(σ:Θ)(ϙ:E)(r:KO×St×O Prop×BM):M Exit×DH×iG:=(wS r.1,(comp [] σ r.2.1).h,Sz σ ϙ [] r)
section
variable{P:ν}{Γ:A1}{ϖ:Fence}{Ϝ:W0}{ϙ:E}{Y N:BR P Γ ϙ}{Q:QY P Γ ϙ}{k k':O KI}{S:St}{fr:O DV}{h' h2:DH}{c:O (DV×DH×ζ)}{o:O (E×DV)}{z:O (E×Fz)}{v w:O Prop}
def zIP{Q σ Y:Θ}{r:KO×St×O Prop×BM}{a:KO}(h:OB Q σ ϙ Y r=Z (a,fr,h',v,w,[],[],D))(b:BU w):r.1=a/\r.2.2.1=v/\A6 ϙ r.2.1 ⟨fr,h'⟩:=by
 unfold OB at h;split at h
 ·rename_i S1 w1 q;simp only[Sz,zK0,zLE]at h;obtain⟨rfl,rfl,rfl,rfl,rfl,_,_,p⟩:=h;exact⟨rfl,rfl,(A6.comp Q σ r.2.1 p).trans<|A6.frzL Y q b⟩
 ·cases h
def BV.gS(q:HX ϖ P)(e:BG)(n:E)(a σ:Θ)(tg:O<|O (E×E)×St)(i:HS c o z v)(j:Θ)(l:HS [] [] [] w)(k':O KI)(fr:O DV)(h':DH)
 (h:(CQ P Γ e n k S ⟨c,o,z,tg⟩).bind (OB a σ ϙ j)=Z (.at k',fr,h',v,w,[],[],D)) (hc:JH k'=D) (p:A2 P Γ ϖ Ϝ ϙ Y Q k' ⟨fr,h'⟩):A2 P Γ ϖ Ϝ ϙ Y Q k S:=by
 cases b:CQ P Γ e n k S ⟨c,o,z,tg⟩with
 |none=>rw[b]at h;cases h
 |some r=>
  obtain⟨g,G,V,o1⟩:=r;rw[b]at h;obtain⟨R,X,s⟩:=zIP (r:=(g,G,V,o1)) h l.all;have R:g=.at k':=R;have X:V=v:=X;subst R X;exact GF q.f q.m n k S _ _ _ _ _ b i.all<|BV.le s hc p
variable{Ϛ:DV}{fn:Func}
theorem BV.el(q:HX ϖ P)(l:BG)(n:E)(Q σ:Θ)(tg:O<|O (E×E)×St)(x:HS c o z v)(Y:Θ)(y:HS [] [] [] w)(a:O DV)(p:AO (IS a) Ϛ)
 (h:(CQ P Γ l n k S ⟨c,o,z,tg⟩).bind (K8 P Q σ ϙ Y fn Ϛ<|F h2)=Z (D,a,h2,v,w,[],[],D)):BV P Γ ϖ Ϝ ϙ N (Dd P fn ϙ Ϛ h2) k S:=by
 cases b:CQ P Γ l n k S ⟨c,o,z,tg⟩with
 |none=>rw[b]at h;cases h
 |some r=>
  obtain⟨t,G,V,o1⟩:=r;rw[b]at h;have h:K8 P Q σ ϙ Y fn Ϛ (F h2) (t,G,V,o1)=Z (D,a,h2,v,w,[],[],D):=h;unfold K8 at h;split at h
  ·rename_i g w1 J;split at h
   ·rename_i R W;simp only[Sz,zK0,zLE,zAx]at h;obtain⟨⟨i,I⟩,rfl,s,rfl,rfl,_,_,X⟩:=h;have hS:A6 ϙ G g:=(A6.comp Q σ G X).trans<|A6.frzL Y J y.all
    have K:∀e,(e=.normal∨e=.ret)->Dd P fn ϙ Ϛ h2 e G:=λe he=>by
     refine Dd.le hS ⟨he,g,A6.refl _ _,R,W,?_⟩
     by_cases j:F g.h<=F h2
     ·rw[zAF j]at s;exact .inl ⟨p,s⟩
     ·rw[zJz j]at s;simp only[j,decide_false,zRN,zAx,zK9]at I;exact .inr ⟨QK I.1.1,p,ML I.1.2,I.2,s⟩
    refine GF q.f q.m n k S _ _ _ _ _ b x.all ?_;rcases t with(_|⟨_,_⟩)|_
    ·exact⟨rfl,K _<|.inl rfl⟩
    ·cases i
    ·exact⟨rfl,K _<|.inr rfl⟩
   ·cases h
  ·cases h
def BV.e(f:HX ϖ P)(a:BG)(n:E)(Q σ:Θ)(tg:O<|O (E×E)×St)(g:HS c o z v)(Y:Θ)(i:HS [] [] [] w)
 (h:(CQ P Γ a n k S ⟨c,o,z,tg⟩).bind (λr=>(K8 P Q σ ϙ Y fn Ϛ (F h2) r).map λq=>(q.1,IS q.2.1,q.2.2))=Z (D,Ϛ,h2,v,w,[],[],D)):BV P Γ ϖ Ϝ ϙ N (Dd P fn ϙ Ϛ h2) k S:=by
 cases b:CQ P Γ a n k S ⟨c,o,z,tg⟩with
 |none=>rw[b]at h;cases h
 |some r=>
  rw[b]at h;have h:(K8 P Q σ ϙ Y fn Ϛ (F h2) r).map (λq=>(q.1,IS q.2.1,q.2.2))=Z (D,Ϛ,h2,v,w,[],[],D):=h;cases I:K8 P Q σ ϙ Y fn Ϛ (F h2) r with
  |none=>rw[I]at h;cases h
  |some q=>
   obtain⟨q1,j,q3⟩:=q;rw[I]at h;simp only[zMz,zK0,zLE]at h;obtain⟨rfl,l,rfl⟩:=h;exact BV.el f a n Q σ tg g Y i j (AO.of_eq l) (by rw[b];exact I)
def cI(P:ν)(ϙ:E)(Y:Θ)(fn:Func)(Ϛ:DV)(i:E)(S:St):M<|ζ×O DV×DH×O Prop:=match frzL Y S with
 |some (S,w)=>match Nn P S fn.results.toList with
  |some f=>Z (C (F S.h<=i)||(S.h.all cZ&&Fi Ϛ&&C (ϙ<=F S.h)),f,u (F S.h<=i) S.h (GO (θ ϙ) S).h,w)
  |none=>A
 |none=>A
theorem Dd.el{e:Exit}(a:e=.normal∨e=.ret)(Y:Θ)(z:HS [] [] [] w)(f:O DV)(q:AO (IS f) Ϛ)(h:cI P ϙ Y fn Ϛ (F h2) S=Z (D,f,h2,w)):Dd P fn ϙ Ϛ h2 e S:=by
 unfold cI at h;split at h
 ·rename_i g w1 b;split at h
  ·rename_i c i;simp only[zK0,zLE]at h;obtain⟨I,rfl,s,rfl⟩:=h;refine Dd.le (A6.frzL Y b z.all) ⟨a,g,A6.refl _ _,c,i,?_⟩
   by_cases r:F g.h<=F h2
   ·rw[zAF r]at s;exact .inl ⟨q,s⟩
   ·rw[zJz r]at s;simp only[r,decide_false,zRN,zAx,zK9]at I;exact .inr ⟨QK I.1.1,q,ML I.1.2,I.2,s⟩
  ·cases h
 ·cases h
theorem Dd.e{e:Exit}(he:e=.normal∨e=.ret)(Y:Θ)(hz:HS [] [] [] w)(h:(cI P ϙ Y fn Ϛ (F h2) S).map (λq=>(q.1,IS q.2.1,q.2.2))=Z (D,Ϛ,h2,w)):Dd P fn ϙ Ϛ h2 e S:=by
 cases I:cI P ϙ Y fn Ϛ (F h2) S with
 |none=>rw[I]at h;cases h
 |some q=>
  obtain⟨q1,rs,q3⟩:=q;rw[I]at h;simp only[zMz,zK0,zLE]at h;obtain⟨rfl,hd,rfl⟩:=h
  grind[Dd.el,AO.of_eq]
def BV.r(q:HX ϖ P){X:O Exit}{i:E}{e:Exit}(Q:BG)(n:E)(σ:Θ)(tg:O<|O (E×E)×St)(g:HS c o z v)(j:(Exit.normal::X)[i]?=Z e)
 (h:(CQ P Γ Q n k S ⟨c,o,z,tg⟩).map (kj σ ϙ)=Z (Z e,h2,v,[],[],[],D)):BV P Γ ϖ Ϝ ϙ N (Cw ϙ X i h2) k S:=by
 cases b:CQ P Γ Q n k S ⟨c,o,z,tg⟩with
 |none=>rw[b]at h;cases h
 |some r=>
  obtain⟨r1,G,v1,o1⟩:=r;rw[b]at h;simp only[zMz,kj,Sz,zK0,zLE]at h;obtain⟨a,s,rfl,_,_,_,p⟩:=h;have K:stay N (Cw ϙ X i h2) e G N:=⟨rfl,j,_,A6.comp [] σ G p,s⟩;refine GF q.f q.m n k S _ _ _ _ _ b g.all ?_;unfold wS at a;split at a
  ·cases a;exact K
  ·cases a;exact K
  ·rename_i i' k';split at a
   ·rename_i w;cases a;exact Tr.exit<|UK K k'<|Option.isNone_iff_eq_none.1 w
   ·cases a
  ·cases a
def HG.g(q:HX ϖ P){Q:Exit->St->Prop}{a p:Code}(e:BG)(n:E)(b σ:Θ)(i:HS c o z v)(fr:O DV)(h':DH)
 (h:(CQ P Γ e n [.code a] S ⟨c,o,z,[]⟩).map (WR b σ ϙ)=Z (.at [],fr,h',v,[],[],D)) (j:∀r:BR P Γ ϙ,BV P Γ ϖ Ϝ ϙ r Q [.code p] ⟨fr,h'⟩):HG P Γ ϖ Ϝ ϙ N Q a p S:=
 HG.go q.f q.m e n _ b σ fr h' v h i.all j
end
section
variable{P:ν}{Γ:A1}{ϙ:E}{k:O KI}{S:St}{c:O (DV×DH×ζ)}{o:O (E×DV)}{z:O (E×Fz)}{v:O Prop}
variable{Ϙ:Bm P}
def TrI.e{Y:BR P Γ ϙ}(q:HX η P)(b:BG)(n:E)(i:HS c o z v)
 (h:(CQ P Γ b n k S ⟨c,o,z,[]⟩).map (λr=>((match r.1 with| .ret=>D| .at []=>D|_=>T),r.2.2.1))=Z (D,v)) (g:Y=Ϙ.Y Γ ϙ (F Ϙ.encs)∨Y=Ϙ.X Γ ϙ):A2 P Γ η A ϙ Y (Ϙ.Q Γ ϙ) k S:=by
 cases a:CQ P Γ b n k S ⟨c,o,z,[]⟩with
 |none=>rw[a]at h;cases h
 |some r=>
  obtain⟨j,S1,Cc,o1⟩:=r;rw[a]at h;simp only[zMz,zK0,zLE]at h;obtain⟨l,rfl⟩:=h;refine GF q.f q.m n k S _ _ _ _ _ a i.all ?_;rcases j with(_|⟨_,_⟩)|_
  ·exact⟨.inl rfl,g⟩
  ·cases l
  ·exact⟨.inr rfl,g⟩
variable{x:O DV}{ops:υ Oper}{K:O KI}{i:E}
def A2.y{Q:QY P Γ ϙ}(q:HX η P)(p:E)(a σ:Θ)(j:HS c o z v)(w:O DV)(b:DH)(e:O DV)(g:DH)
 (k:MC K=Z (ops,Df K)) (m:CY ops=D) (h:(PM P Γ ops p S ⟨c,o,z,[]⟩).map (ki a σ ϙ)=Z (x,Ϙ.l,w,b,e,g,v,D)) (n:Ϙ.encs[i]?=Z x) (hc:JH (Df K)=D) (r:A2 P Γ η A ϙ (Ϙ.Y Γ ϙ<|i+1) Q (Df K) ⟨w,b⟩) (N:A2 P Γ η A ϙ (Ϙ.X Γ ϙ) Q (Df K) ⟨e,g⟩):A2 P Γ η A ϙ (Ϙ.Y Γ ϙ i) Q K S:=
 A2.yieldAt q.f k m p _ a σ w b e g v h j.all n hc r N
def A2.yE(q:HX η P)(p:E)(b:HS c o z v)(a:MC K=Z (ops,[]))(g:CY ops=D)
 (h:(PM P Γ ops p S ⟨c,o,z,[]⟩).map (λr=>(r.1,r.2.1,r.2.2.2.2))=Z (x,Ϙ.l,v)) (e:Ϙ.encs[i]?=Z x) (j:i+1=F Ϙ.encs):A2 P Γ η A ϙ (Ϙ.Y Γ ϙ i) (Ϙ.Q Γ ϙ) K S:=by
 unfold MC at a;split at a
 ·cases a;cases k:PM P Γ ops p S ⟨c,o,z,[]⟩with
  |none=>rw[k]at h;cases h
  |some r=>
   obtain⟨xs,l,ST,SF,Cc⟩:=r;rw[k]at h;simp only[zMz,zK0,zLE]at h;obtain⟨rfl,rfl,rfl⟩:=h;exact Tr.yield q.f g k b.all e ⟨.inl rfl,.inl<|by rw[j]⟩ ⟨.inl rfl,.inr rfl⟩
 ·cases a
end
section
variable{P:ν}{Γ:A1}{ϖ:Fence}{Ϝ ϙ:E}{Y:BR P Γ ϙ}{Q:QY P Γ ϙ}{fr:O DV}{h:DH}{K:O KI}{a b:Code}{α σ:Type}{l:O α}{ϗ:σ->DH}{FR:α->O DV}
def BV.rg(j:ϖ=η∨∃l,ϖ=Fence.wide.inRound l)(X:O Exit)(W:(X.all λe=>(Mu e).isSome)=D)(g t:E)(c:υ Tmp)(enc:α->O DV)(L':E){f:α->σ->M (σ×E)}{i:σ}{rE:σ×E}(q:DY f l i=Z rE)
 (k:∀(l Ϝ:E) (N:BR P Γ L') (x:α) (s:σ) (r:σ×E),f x s=Z r->HG P Γ (Fence.wide.inRound l) (Z Ϝ) L' N (Cw L' X r.2<|ϗ r.1) a b ⟨FR x,ϗ s⟩)
 (m:Pu K=Z (.tmp t,c,a,b,Df K)) (o:Ak fr (.tmp t)=.it g) (n:h[g]?=Z (Z<|.iter<|l.map enc)) (v:∀x,F (enc x)=c.size) (p:Nat.ble ϙ L'=D) (w:fr.all (Ce L')=D) (h0:h.set g A=ϗ i) (y:(λx=>I2 fr c.toList<|enc x)=FR)
 (S:∀e,(Exit.normal::X)[rE.2]?=Z e->Dp P Γ ϖ (Z Ϝ) ϙ Q (Df K) e ⟨fr,ϗ rE.1⟩ Y):A2 P Γ ϖ (Z Ϝ) ϙ Y Q K ⟨fr,h⟩:=
 BV.rangeAt j X W (.tmp t) c a b (Df K) enc l ϗ FR f q m o n v L' p w h0 y k S
def BV.rg0(i:ϖ=η∨∃l,ϖ=Fence.wide.inRound l)(e t:E)(c:υ Tmp)(enc:α->O DV)(L':E){f:α->σ->M σ}{g w:σ}(q:Bs f l g=Z w)
 (W:∀(l Ϝ:E) (N:BR P Γ L') (x:α) (s r:σ),f x s=Z r->HG P Γ (Fence.wide.inRound l) (Z Ϝ) L' N (Cw L' [] 0<|ϗ r) a b ⟨FR x,ϗ s⟩)
 (j:Pu K=Z (.tmp t,c,a,b,Df K)) (o:Ak fr (.tmp t)=.it e) (k:h[e]?=Z (Z<|.iter<|l.map enc)) (v:∀x,F (enc x)=c.size) (m:Nat.ble ϙ L'=D) (n:fr.all (Ce L')=D) (h0:h.set e A=ϗ g) (p:(λx=>I2 fr c.toList<|enc x)=FR)
 (S:A2 P Γ ϖ (Z Ϝ) ϙ Y Q (Df K) ⟨fr,ϗ w⟩):A2 P Γ ϖ (Z Ϝ) ϙ Y Q K ⟨fr,h⟩:=
 BV.rangeAt0 i (.tmp t) c a b (Df K) enc l ϗ FR f q j o k v L' m n h0 p W S
end
abbrev zRe:=@List.filter_cons
abbrev zSL:=@List.filter_sublist
section
abbrev LK:=E×υ MapEntry×E
variable{i:E}
def zJY :Wm A i:=λ_ h=>by cases h
def zJX{j:E}{g:LK}(h:i≠j):Wm (Z (i,g)) j:=λy e=>by cases e;exact h
def If{R:Type}[DecidableEq R](b:KS)(a:M R)(f:Ξ->M R):M R:=match b with
 |[]=>a
 |x::r=>match f x with
  |none=>A
  |some v=>u (r.all λy=>decide (f y=Z v)) (Z v) A
variable{b:KS}{R:Type}
theorem cP[DecidableEq R]  {a:M R}{f:Ξ->M R}{r:R}(h:If b a f=Z r):(b= []->a=Z r)/\∀y∈b,f y=Z r:=by
 cases b with
 |nil=>exact⟨λ_=>h,λy hy=>τ hy zNR⟩
 |cons x l=>
  refine⟨λe=>τ e<|List.cons_ne_nil x l,?_⟩;unfold If at h
  grind
def zIV[DecidableEq R]{a:M R}{f:Ξ->M R}:If [] a f=a:=rfl
theorem zIU[DecidableEq R]  {a:M R}{f:Ξ->M R}{r:R}(n:b≠[])(h:∀y∈b,f y=Z r):If b a f=Z r:=by
 cases b with
 |nil=>exact τ rfl n
 |cons x l=>
  simp_all[If]
theorem zFB{P:ν}{w:κ}{r X a Y b:E}{seen:υ E}{N:υ MapEntry}(k:w.heap[r]?=Z (.mapIter (Z X) a seen Y))(f:w.heap[X]?=Z (.map N b))(v:∀x∈N.toList,x.born<a)(R:a<=Y)(ty:ψ):
 ((leftOf N seen).size=0/\(Instr.next (.pointer<|Z ⟨r,0,A⟩) T ty).run P w=.ok (.tuple #[.bool T]) w)∨
 ∃e∈(leftOf N seen).toList,∃w1:κ,(w1=w∨w1=w.drew)/\(Instr.next (.pointer<|Z ⟨r,0,A⟩) T ty).run P w=.ok (.tuple #[.bool D,e.key,e.val]) { w1 with heap:=w1.heap.setIfInBounds r (.mapIter (Z X) a (seen.push e.born) b) }:=by
 simp only[Instr.next,getObj,zK6,Sem.run,k,f,Result.andThen,next_test_false seen N a Y v R,zLV,zRK];unfold leftOf;have V:∀x∈(Array.filter (λe=>!seen.contains e.born) N).toList,x.born<a:=λx i=>v x (by simp at i⊢;exact i.1)
 generalize Array.filter (λe=>!seen.contains e.born) N=ϙ at V⊢
 have g:ϙ.filter (λx=>decide (x.born<a))=ϙ:=Array.filter_eq_self.2 (λx i=>by simpa using V x (by simpa using i))
 have h:ϙ.filter (λx=>decide (x.born>=a))= #[]:=by
  simp_all
 simp only[g,h,Array.append_empty]
 by_cases h0:ϙ.size=0
 ·simp_all[Question.forced]
 ·right;have Q:ϙ.isEmpty=T:=by simp[Array.isEmpty,h0]
  simp only[Q,zLV,zRK,Array.empty_append,Array.size_map]
  have l:∃(j:E) (w1:κ),j<ϙ.size/\(w1=w∨w1=w.drew)/\(choose<|Question.mapNext ϙ.size).run P w=.ok j w1:=by
   by_cases q:ϙ.size<=1
   ·exact⟨0,w,Z2,.inl rfl,by simp[choose,Sem.run,Question.forced,q]⟩
   ·exact⟨_,w.drew,Nat.mod_lt _ Z2,.inr rfl,by
     simp only[choose,Sem.run,Question.forced,zK9,q,zRK,Question.cut];rfl⟩
  obtain⟨j,w1,hj,c,Mb⟩:=l;have Qg:w1.heap[r]?=Z (.mapIter (Z X) a seen Y):=by rcases c with rfl|rfl <;> exact k
  refine⟨ϙ[j],Z3,w1,c,?_⟩
  simp_all[setObj,Sem.run]
section
variable{P:ν}{Γ:A1}{N:Ψ}{S:St}{ρ:O AN}{a:Act}{w:κ}{ϖ:Fence}{Ϝ:W0}{ϙ:E}{Y:BR P Γ ϙ}{Q:QY P Γ ϙ}
variable{p:AN}
def Ad.setMo(R:Ad P Γ N S ρ a w){k:E}{x x':MX}(f:S.h[k]?=Z (Z<|.mo x))(c:ρ[k]?=Z p)(z:PH w p x')(hc:∀b,p.foot b->Dr w b):
 Ad P Γ N ⟨S.fr,S.h.set k<|Z<|.mo x'⟩ ρ a w/\BD S.h ρ w (S.h.set k<|Z<|.mo x') ρ w:=
 ⟨⟨R.hr.write f c (AV.refl _ _) hc z,R.fr.out<|BW.write trivial f c (AV.refl p.foot w)⟩,BD.write f c<|AV.refl _ _⟩
variable{vs:υ μ}{h:O (M KS)}{n:E}
theorem Ft.relock(a:Ft w p n h A vs){i:E}(hi:(h.getD i A).isSome=D):∃g:LK,Ft w p n h (Z (i,g)) vs:=by
 obtain⟨G,g1,g2,g3,N,X,g4,_⟩:=a.has i _<|Xn hi;refine⟨(G,N,X),{ a with has:=λj l q=>?_ }⟩
 by_cases e:j=i
 ·grind
 ·obtain⟨b,k1,k2,k3,Le,c1,k4,_⟩:=a.has j l q
  grind
def Ft.unlock{V:M (E×LK)}(e:Ft w p n h V vs):Ft w p n h A vs:=
 { e with has:=λj l q=>let⟨b,a,f,c,S,Q,s,_⟩:=e.has j l q;⟨b,a,f,c,S,Q,s,λx i=>by cases i⟩ }
variable{j:E}
def Tr.lock{c:Code}{i:E}{e:O (M KS)}(f:S.h[j]?=Z (Z<|.mo<|.sets n e A))(hi:(e.getD i A).isSome=D)(ϗ:∀g:LK,Tr P Γ ϖ Ϝ ϙ Y c ⟨S.fr,S.h.set j<|Z<|.mo<|.sets n e<|Z (i,g)⟩ Q):Tr P Γ ϖ Ϝ ϙ Y c S Q:=λN ρ a w R y m b=>by
 obtain⟨p,l,vs,k⟩:=R.hr.obj j _ f;obtain⟨g,o⟩:=k.relock hi;obtain⟨R',st⟩:=R.setMo f l (x':=.sets n e<|Z (i,g)) ⟨vs,o⟩ λb q=>k.lies q
 exact ϗ g N ρ a w R' (Y.st y R.hr R'.hr st<|CA.refl _ _) m b
def wd:O KI->ζ
 | .code _::_=>D
 |_=>T
variable{fr:O DV}{K:O KI}
def BV.lock{h:DH}(j i n:E){a:O (M KS)}(f:h[j]?=Z (Z<|.mo<|.sets n a A))(hi:(a.getD i A).isSome=D)(l:wd K=D)(h':LK->DH)(e:h'=λg=>h.set j<|Z<|.mo<|.sets n a<|Z (i,g))(ϗ:∀g:LK,A2 P Γ ϖ Ϝ ϙ Y Q K ⟨fr,h' g⟩):A2 P Γ ϖ Ϝ ϙ Y Q K ⟨fr,h⟩:=by
 subst e;unfold wd at l;split at l
 ·exact Tr.lock (S:=⟨fr,h⟩) f hi ϗ
 ·cases l
variable{FS:W6}{g:LK}{m:E}
theorem zIn(R:Ad P Γ N S ρ a w){n' i:E}{J:O (M KS)}{c:KS}(hm:S.h[m]?=Z (Z<|.mo<|.mit n g.1 g.2.1 g.2.2 c FS))(hj:S.h[j]?=Z (Z<|.mo<|.sets n' J<|Z (i,g)))(hi:(J.getD i A).isSome=D){v:μ}(hv:AL (MS N S.h ρ) w (.it m) ρ v)(ty:ψ):
 (c= []/\(Instr.next v T ty).run P w=.ok (.tuple #[.bool T]) w)∨∃y∈c,∃(k ϛ:μ) (w':κ) (p:AN),(Instr.next v T ty).run P w=.ok (.tuple #[.bool D,k,ϛ]) w'/\ρ[m]?=Z p/\AV p.foot w w'/\PH w' p (.mit n g.1 g.2.1 g.2.2 (c.erase y)<|Z y)/\∀b,p.foot b->Dr w' b:=by
 obtain⟨p,K,rfl⟩:=hv;obtain⟨p',BL,h0,Q,r,seen,s,W,h5⟩:=R.hr.obj m _ hm;have:p'=p:=zBH<|BL.symm.trans K;subst this;obtain⟨q,hq,vs,hS⟩:=R.hr.obj j _ hj;obtain⟨b,k1,k2,k3,Le,oR,t,Y⟩:=hS.has i _<|Xn hi;have Y:=Y _ rfl rfl;obtain⟨G,f,X⟩:=g
 have e3:G=b/\f=Le/\X=oR:=by
  grind
 obtain⟨rfl,rfl,rfl⟩:=e3;simp only at s W h5;rw[Q];have Me:∀x∈f.toList,x.born<X:=t.born;rcases zFB (P:=P) s t.blk Me (zI1 _) ty with⟨e1,e2⟩|⟨e,o,w1,dk,e2⟩
 ·simp_all
 ·have z:e.key∈c.map Bb:=W.mem_iff.1<|zMf.2 ⟨e,o,rfl⟩;obtain⟨y,hy,hye⟩:=zMf.1 z;have hes:e∈f.toList:=by simp[leftOf]at o⊢;exact o.1
  have hrlt:p'.blk<w.heap.size:=(zAy.1 s).1;have hw1h:w1.heap=w.heap:=by rcases dk with rfl|rfl <;> rfl
  have hU:AV p'.foot w { w1 with heap:=w1.heap.setIfInBounds p'.blk (.mapIter (Z G) X (seen.push e.born) X) }:=by
   rw[r]
   have u1:AV (λk=>k=p'.blk) w w1:=by
    rcases dk with rfl|rfl
    ·exact AV.refl _ _
    ·exact AV.ofExt<|A0.toDrew w
   exact u1.trans<|Uu _
  have JP:({ w1 with heap:=w1.heap.setIfInBounds p'.blk (.mapIter (Z G) X (seen.push e.born) X) }:κ).heap[p'.blk]?=Z (.mapIter (Z G) X (seen.push e.born) X):=by
   grind
  refine .inr ⟨y,hy,e.key,e.val,_,p',e2,K,hU,⟨λx I=>?_,Q,r,seen.push e.born,JP,?_,λx I=>?_⟩,λb hb=>?_⟩
  ·grind
  ·have hl:leftOf f (seen.push e.born)=(leftOf f seen).filter λx=>x.born != e.born:=by
    grind[leftOf,Array.filter_filter]
   have A5:((leftOf f seen).toList.map (·.born)).Nodup:=by
    have:((leftOf f seen).toList.map (·.born)).Sublist (f.toList.map (·.born)):=by
     unfold leftOf;rw[Array.toList_filter];exact zSL.map _
    exact this.nodup t.stamps
   have V:∀(l:O MapEntry),(l.map (·.born)).Nodup->e∈l->(l.map (·.key)).Perm (e.key::((l.filter λx=>x.born != e.born).map (·.key))):=by
    intro l
    induction l with
    |nil=>intro _ h;cases h
    |cons x l ih=>
     intro hn I;rw[zNe,List.nodup_cons]at hn
     by_cases wt:x=e
     ·subst wt
      have:(l.filter λy=>y.born != x.born)=l:=List.filter_eq_self.2 λy hy=>by
       grind
      simp[this]
     ·have eB:e∈l:=(zLa.1 I).resolve_left λh=>wt h.symm
      have Ay:(x.born != e.born)=D:=by
       grind
      rw[zRe,zAF Ay,zNe,zNe];exact((ih hn.2 eB).cons x.key).trans<|List.Perm.swap e.key x.key _
   have P1:=V _ A5 o;rw[hl,Array.toList_filter];have P2:(c.map Bb).Perm<|Bb y::(c.erase y).map Bb:=(List.perm_cons_erase hy).map Bb;have P3:=P1.symm.trans<|W.trans P2
   simp_all
  ·grind
  ·rw[r]at hb;exact⟨_,rfl,(),by rw[show b=p'.blk from hb];exact JP⟩
variable{ops:υ Oper}
theorem Tr.next(J:DQ ϖ P){id:E}(A5:CY ops=D){o:Oper}{rest:O Oper}(mV:ops.toList=o::rest){x:Operand}(V:o.op=.next x T)(hw:Kc ops S o=Z D){K i:E}{r:O (M KS)}{f:KS}(hx:Ak S.fr x=.it m)(t:S.h[m]?=Z (Z<|.mo<|.mit n g.1 g.2.1 g.2.2 f FS))(W:S.h[j]?=Z (Z<|.mo<|.sets K r<|Z (i,g)))(xQ:m≠j)(hi:(r.getD i A).isSome=D)
 (h0:f= []->∃S' vs o0 o',D1 P Γ ops rest ⟨Ct S.fr o.dst<|.tup 1<|L1 [.bool T],(S.h.set j<|Z<|.mo<|.sets K r A).set m A⟩ o0=Z (S',vs,o')/\BU vs/\Q .normal S' Y)
 (h1:∀y∈f,∃S' vs o0 o',D1 P Γ ops rest ⟨Ct S.fr o.dst<|.tup 3<|L1 [.bool D],S.h.set m<|Z<|.mo<|.mit n g.1 g.2.1 g.2.2 (f.erase y)<|Z y⟩ o0=Z (S',vs,o')/\BU vs/\Q .normal S' Y):Tr P Γ ϖ Ϝ ϙ Y (.region id ops T) S Q:=λN ρ a w R y mk b=>by
 refine zOf ?_;rw[mV];have hd:∀c,o.op≠.defer c:=λc e=>by rw[V]at e;cases e
 have EF:∀o'∈rest,o'∈ops:=λo' Tx=>by
  grind
 have Ci:∀v,(a.put o.dst v).defers=a.defers:=λv=>by cases V:o.dst <;> simp[Act.put]
 have rx:=Bo R x;rw[hx]at rx;unfold wpListIn;rw[zAF<|Iy R hw];have Mj:ω a.eval o=(do pure (.value (←Instr.next (a.eval x) T o.type))):=by unfold ω;rw[V]
 have Ao:m<F S.h:=(zLB.1 t).1;rcases zIn R t W hi rx o.type with⟨e1,e2⟩|⟨z,hky,k,ϛ,w',p,e2,l,hU,hO,hC⟩
 ·obtain⟨S',vs,o0,o',g1,g2,g3⟩:=h0 e1;obtain⟨q,hq,vsj,hS⟩:=R.hr.obj j _ W;obtain⟨X,Dg⟩:=R.setMo W hq (x':=.sets K r A) ⟨vsj,hS.unlock⟩ λb hb=>hS.lies hb
  have R2:Ad P Γ N ⟨S.fr,(S.h.set j<|Z<|.mo<|.sets K r A).set m A⟩ ρ a w:=⟨X.hr.kill m,X.fr.out<|BW.kill m⟩
  have R3:=Hw R2 o.dst (Ϛ:=.tup 1<|L1 [.bool T]) (v:=.tuple #[.bool T]) ⟨#[.bool T],rfl,rfl,λjj d8=>by
   have:jj=0:=Z2
   subst this;exact⟨_,rfl,rfl⟩⟩
  refine Lh J hd (G:=λv I=>v=.tuple #[.bool T]/\I=w) (BK.value (s:=Instr.next (a.eval x) T o.type) Mj e2 ⟨rfl,rfl⟩) λv I ⟨hv,mB⟩=>?_
  subst hv mB;refine LW J A5 rest EF R3 g1 g2 λρ' a' w3 R' st DF=>?_
  exact Tr.done R y mk b g3 R' ((Dg.trans<|BD.kill m).trans st.st) (λk p _ l=>st.pl k p l)<|DF.trans<|Ci _
 ·obtain⟨S',vs,o0,o',g1,g2,g3⟩:=h1 z hky;have Dg:=BD.write (h:=S.h) (o':=.mo<|.mit n g.1 g.2.1 g.2.2 (f.erase z)<|Z z) t l hU;have X:Ad P Γ N ⟨S.fr,S.h.set m<|Z<|.mo<|.mit n g.1 g.2.1 g.2.2 (f.erase z)<|Z z⟩ ρ a w':=⟨R.hr.write t l hU hC hO,R.fr.out<|BW.write trivial t l hU⟩
  have R3:=Hw X o.dst (Ϛ:=.tup 3<|L1 [.bool D]) (v:=.tuple #[.bool D,k,ϛ]) ⟨#[.bool D,k,ϛ],rfl,rfl,λjj d8=>by
   match jj,d8 with
   |0,_=>exact⟨_,rfl,rfl⟩
   |1,_=>exact⟨_,rfl,trivial⟩
   |2,_=>exact⟨_,rfl,trivial⟩⟩
  refine Lh J hd (G:=λv I=>v=.tuple #[.bool D,k,ϛ]/\I=w') (BK.value (s:=Instr.next (a.eval x) T o.type) Mj e2 ⟨rfl,rfl⟩) λv I ⟨hv,mB⟩=>?_
  subst hv mB;refine LW J A5 rest EF R3 g1 g2 λρ' a' w3 R' st DF=>?_
  exact Tr.done R y mk b g3 R' (Dg.trans st.st) (λk p _ l=>st.pl k p l)<|DF.trans<|Ci _
def ku(ops:υ Oper):Operand:=match ops.toList with
 |o::_=>match o.op with
  | .next x _=>x
  |_=>.tmp 0
 |[]=>.tmp 0
def cR(ops:υ Oper):M Tmp:=match ops.toList with
 |o::_=>o.dst
 |[]=>A
def QH(ops:υ Oper):O Oper:=ops.toList.tail
def kv(ops:υ Oper):ζ:=match ops.toList with
 |o::_=>match o.op with
  | .next _ T=>o.guard.isNone&&CY ops
  |_=>T
 |[]=>T
theorem zIZ(h:kv ops=D):CY ops=D/\∃o,ops.toList=o::QH ops/\o.op=.next (ku ops) T/\o.guard=A/\o.dst=cR ops:=by
 unfold kv at h;unfold ku cR QH;split at h
 ·rename_i o rest W;rw[W];split at h
  ·simp_all
  ·cases h
 ·cases h
def cL(Q σ:Θ)(ϙ:E)(r:St×O Prop×BM):O DV×DH×O Prop×ζ:=((comp Q σ r.1).fr,(comp Q σ r.1).h,r.2.1,Kg σ ϙ<|F r.1.h)
theorem A2.nx(w:HX ϖ P){h:DH}(l:MC K=Z (ops,Df K))(z:kv ops=D)(m j i n:E)(c:O<|M KS)(g:LK)(b:KS)(I:W6)(a σ:Θ)(p:O DV)(h0:DH)(σ1:Θ)(q:Ξ->O DV)(s:Ξ->DH)
 (N:Ak fr (ku ops)=.it m) (R:h[m]?=Z (Z<|.mo<|.mit n g.1 g.2.1 g.2.2 b I)) (V:h[j]?=Z (Z<|.mo<|.sets n c<|Z (i,g))) (W:m≠j) (hi:(c.getD i A).isSome=D) (hc:JH (Df K)=D)
 (X:(D1 P Γ ops (QH ops) ⟨Ct fr (cR ops)<|.tup 1<|L1 [.bool T],(h.set j<|Z<|.mo<|.sets n c A).set m A⟩ ⟨[],[],[],[]⟩).map (cL a σ ϙ)=Z (p,h0,[],D))
 (c1:∀y,(D1 P Γ ops (QH ops) ⟨Ct fr (cR ops)<|.tup 3<|L1 [.bool D],h.set m<|Z<|.mo<|.mit n g.1 g.2.1 g.2.2 (b.erase y)<|Z y⟩ ⟨[],[],[],[]⟩).map (cL a σ1 ϙ)=Z (q y,s y,[],D))
 (k0:b= []->A2 P Γ ϖ Ϝ ϙ Y Q (Df K) ⟨p,h0⟩) (k1:∀y∈b,A2 P Γ ϖ Ϝ ϙ Y Q (Df K) ⟨q y,s y⟩):A2 P Γ ϖ Ϝ ϙ Y Q K ⟨fr,h⟩:=by
 have t:∀{S:St} {a σ:Θ} {J:O DV} {h':DH},(D1 P Γ ops (QH ops) S ⟨[],[],[],[]⟩).map (cL a σ ϙ)=Z (J,h',[],D)->A2 P Γ ϖ Ϝ ϙ Y Q (Df K) ⟨J,h'⟩->∃S' vs o0 o',D1 P Γ ops (QH ops) S o0=Z (S',vs,o')/\BU vs/\A2 P Γ ϖ Ϝ ϙ Y Q (Df K) S':=by
  intro S a σ J h' x hk;cases k:D1 P Γ ops (QH ops) S ⟨[],[],[],[]⟩with
  |none=>rw[k]at x;cases x
  |some r=>
   obtain⟨G,v1,o1⟩:=r;rw[k]at x;simp only[zMz,cL,zK0,zLE]at x;obtain⟨rfl,rfl,rfl,hs⟩:=x;exact⟨G,_,_,_,k,trivial,BV.le (A6.comp a σ G hs) hc hk⟩
 unfold MC at l;split at l
 ·rename_i id TN k';have e:=zBH l;simp only[Df,zLE,and_true]at e;subst e;obtain⟨A5,o,q1,q2,q3,v⟩:=zIZ z;exact Tr.next (S:=⟨fr,h⟩) w.f A5 q1 q2 (by unfold Kc;rw[q3]) N R V W hi (λe=>by rw[v];exact t X<|k0 e) (λy hy=>by rw[v];exact t (c1 y)<|k1 y hy)
 ·cases l
end
end
abbrev zAC:=@Option.bind_some
abbrev zIY:=@Nat.lt_succ_iff_lt_or_eq
abbrev zLL:=@List.mem_cons_of_mem
abbrev zMw:=@List.mem_cons_self
def Ag{R:Type}(f:E->M R)(Q:R->Prop):Prop:=∃N,∀n,N<=n->∃r,f n=Z r/\Q r
def Ev{R:Type}(f:E->M R)(r:R):Prop:=∃N,∀n,N<=n->f n=Z r
section
variable{R ϑ:Type}{f g:E->M R}{Q Q':R->Prop}{r:R}
def Ev.p(h:Ev f r)(I:Q r):Ag f Q:=let⟨N,h⟩:=h;⟨N,λn a=>⟨r,h n a,I⟩⟩
theorem Ag.ev(h:Ag f Q)(hu:∀r a,Q r->Q a->r=a):∃r,Q r/\Ev f r:=by
 obtain⟨N,h⟩:=h;obtain⟨r,h1,c⟩:=h N<|zI1 _;refine⟨r,c,N,λn hn=>?_⟩
 grind
theorem Ag.mono(h:Ag f Q)(I:∀r,Q r->Q' r):Ag f Q':=let⟨N,h⟩:=h;⟨N,λn a=>let⟨r,b,c⟩:=h n a;⟨r,b,I r c⟩⟩
theorem Ag.step(k:E)(h:∀n,f (n+k)=g n)(o:Ag g Q):Ag f Q:=by
 obtain⟨N,o⟩:=o;refine⟨N+k,λn hn=>?_⟩;have:=o (n-k) Z2
 grind
theorem Ev.step(k:E)(h:∀n,f (n+k)=g n)(o:Ev g r):Ev f r:=by
 obtain⟨N,o⟩:=o;refine⟨N+k,λn hn=>?_⟩;have:=o (n-k) Z2
 grind
def Ev.now(h:∀n,f n=Z r):Ev f r:=⟨0,λn _=>h n⟩
def Ev.from(N:E)(h:∀n,N<=n->f n=Z r):Ev f r:=⟨N,h⟩
def Ev.eq{f g:E->M R}(h:Ev g r)(e:∀n,f n=g n):Ev f r:=let⟨N,h⟩:=h;⟨N,λn a=>(e n).trans<|h n a⟩
def Ag.eq{f g:E->M R}(h:Ag g Q)(e:∀n,f n=g n):Ag f Q:=let⟨N,h⟩:=h;⟨N,λn a=>by rw[e];exact h n a⟩
variable{b:E->ϑ->M R}{x:ϑ}{a:E->M ϑ}
theorem Ev.bind(c:Ev a x)(e:Ev (λn=>b n x) r):Ev (λn=>(a n).bind<|b n) r:=by
 obtain⟨N,c⟩:=c;obtain⟨ϕ,e⟩:=e;refine⟨max N ϕ,λn hn=>?_⟩
 grind
def Ag.bind(c:Ev a x)(e:Ag (λn=>b n x) Q):Ag (λn=>(a n).bind<|b n) Q:=by
 obtain⟨N,c⟩:=c;obtain⟨ϕ,e⟩:=e;refine⟨max N ϕ,λn hn=>?_⟩
 show∃r,(a n).bind (b n)=Z r/\_
 rw[c n Z2,zAC];exact e n Z2
theorem Ag.all{l:O ϑ}{ϖ:ϑ->E->M R}(h:∀y∈l,Ag (ϖ y) Q):∃N,∀n,N<=n->∀y∈l,∃r,ϖ y n=Z r/\Q r:=by
 induction l with
 |nil=>simp_all
 |cons x l a=>
  obtain⟨N,i⟩:=a λy hy=>h y<|zLL _ hy
  obtain⟨ϕ,t⟩:=h x zMw;refine⟨max N ϕ,λn hn y hy=>?_⟩;rcases zLa.1 hy with rfl|hy
  ·exact t n Z2
  ·exact i n Z2 y hy
def Ag.range{ϖ:E->E->M R}{ο:E->R->Prop}:∀(k:E),(∀i,i<k->Ag (ϖ i) (ο i))->∃N,∀n,N<=n->∀i,i<k->∃r,ϖ i n=Z r/\ο i r
 |0,_=>⟨0,λn _ i hi=>τ hi<|zBT i⟩
 |k+1,h=>by
  obtain⟨N,a⟩:=Ag.range k λi hi=>h i Z2
  obtain⟨ϕ,t⟩:=h k Z2;refine⟨max N ϕ,λn hn i hi=>?_⟩;rcases zIY.1 hi with hi|rfl
  ·exact a n Z2 i hi
  ·exact t n Z2
theorem Ag.next[DecidableEq R]{b:KS}{a:E->M R}{ϖ:E->Ξ->M R}(e:b≠[])(h:∀y∈b,Ag (λn=>ϖ n y) Q)(hu:∀r c,Q r->Q c->r=c):Ag (λn=>If b (a n)<|ϖ n) Q:=by
 obtain⟨N,hN⟩:=Ag.all h;refine⟨N,λn XK=>?_⟩;obtain⟨y0,hy0⟩:=List.exists_mem_of_ne_nil b e
 grind[zIU]
end
def AR{ϑ R:Type}(m:E->ϑ->M R)(a b:ϑ):Prop:=∃N S,∀n,N<=n->m (n+S) a=m n b
section
variable{ϑ R:Type}{m:E->ϑ->M R}{a b c:ϑ}{r:R}{Q:R->Prop}
theorem AR.refl:AR m a a:=⟨0,0,λ_ _=>rfl⟩
def AR.one(h:∀n,m (n+1) a=m n b):AR m a b:=⟨0,1,λn _=>h n⟩
def AR.oneN(N:E)(h:∀n,N<=n->m (n+1) a=m n b):AR m a b:=⟨N,1,h⟩
theorem AR.trans(h:AR m a b)(e:AR m b c):AR m a c:=by
 obtain⟨N,S,h⟩:=h;obtain⟨r,g,e⟩:=e;exact⟨max N r,g+S,λn hn=>Z4⟩
theorem AR.ev(h:AR m a b)(c:Ev (λn=>m n b) r):Ev (λn=>m n a) r:=by
 obtain⟨N,S,h⟩:=h;obtain⟨ϕ,c⟩:=c;refine⟨max N ϕ+S,λn hn=>?_⟩;have:=h (n-S) Z2
 grind
def AR.pev(h:AR m a b)(c:Ag (λn=>m n b) Q):Ag (λn=>m n a) Q:=by
 obtain⟨N,S,h⟩:=h;obtain⟨ϕ,c⟩:=c;refine⟨max N ϕ+S,λn hn=>?_⟩;have:=h (n-S) Z2;rw[show n-S+S=n by omega]at this;obtain⟨r,e,W⟩:=c (n-S) Z2;exact⟨r,this.trans e,W⟩
def Ev.one(h:∀n,m (n+1) a=Z r):Ev (λn=>m n a) r:=⟨1,λn hn=>by
 obtain⟨k,rfl⟩:∃k,n=k+1:=⟨n-1,Z2⟩;exact h k⟩
def Ev.oneN(N:E)(h:∀n,N<=n->m (n+1) a=Z r):Ev (λn=>m n a) r:=⟨N+1,λn hn=>by
 obtain⟨k,rfl⟩:∃k,n=k+1:=⟨n-1,Z2⟩;exact h k Z2⟩
theorem Fl{S:Type}(st:E->S->ϑ)(I:E->S->Prop)(len:E)(h:∀i s,i<len->I i s->∃a,I (i+1) a/\AR m (st i s) (st (i+1) a)):∀(k i:E) (s:S),i+k=len->I i s->∃a,I len a/\AR m (st i s) (st len a)
 |0,i,s,e,b=>by
  grind[AR.refl]
 |k+1,i,s,e,b=>by
  obtain⟨a,c,f⟩:=h i s Z2 b;obtain⟨R,g,W⟩:=Fl st I len h k (i+1) a Z2 c;exact⟨R,g,f.trans W⟩
end
section
class HC(ϖ:Fence):Prop where
 x:HX ϖ L
 w:ϖ=η∨∃l,ϖ=Fence.wide.inRound l
instance:HC η:=⟨⟨DQ.wide,Z5⟩,.inl rfl⟩
instance (l:E):HC<|Fence.wide.inRound l:=⟨⟨DQ.round l,Z5⟩,.inr ⟨l,rfl⟩⟩
abbrev DV.i(x:U):DV:=.int .i64 x
def AC:BG:=λ_=>.no
def Fm:E->O DV->Θ
 |_,[]=>[]
 |i,.any::r=>Fm (i+1) r
 |i,_::r=>i::Fm (i+1) r
section
variable{ϖ:Fence}{Ϝ:W0}{ϙ:E}{Y N:BR L GG ϙ}{Q:QY L GG ϙ}{k k':O KI}{S:St}{fr:O DV}{h' h2:DH}{c:O (DV×DH×ζ)}{o:O (E×DV)}{z:O (E×Fz)}{v w:O Prop}
def gz[q:HC ϖ](a:BG)(σ:Θ)(e:HS c o z v)(b:Θ)(f:HS [] [] [] w)(k':O KI)(fr:O DV)(h':DH)(g:A2 L GG ϖ Ϝ ϙ Y Q k' ⟨fr,h'⟩)(tg:O<|O (E×E)×St:=[])
 (h:(CQ L GG a 400 k S ⟨c,o,z,tg⟩).bind (OB (Fm 0 fr) σ ϙ b)=Z (.at k',fr,h',v,w,[],[],D):=by kernel_rfl) (hc:JH k'=D:=by kernel_rfl):A2 L GG ϖ Ϝ ϙ Y Q k S:=
 BV.gS q.x a 400 (Fm 0 fr) σ tg e b f k' fr h' h hc g
theorem gs[q:HC ϖ](a:BG)(σ:Θ)(b:HS c o z v)(k':O KI)(fr:O DV)(h':DH)(f:A2 L GG ϖ Ϝ ϙ Y Q k' ⟨fr,h'⟩)(tg:O<|O (E×E)×St:=[])
 (h:(CQ L GG a 400 k S ⟨c,o,z,tg⟩).bind (OB (Fm 0 fr) σ ϙ [])=Z (.at k',fr,h',v,[],[],[],D):=by kernel_rfl) (hc:JH k'=D:=by kernel_rfl):A2 L GG ϖ Ϝ ϙ Y Q k S:=
 BV.gS q.x a 400 (Fm 0 fr) σ tg b [] H0 k' fr h' h hc f
def gg[q:HC ϖ](a:BG)(σ:Θ)(b:HS c o z v)(f:A2 L GG ϖ Ϝ ϙ Y Q k' ⟨fr,h'⟩)(tg:O<|O (E×E)×St:=[])
 (h:(CQ L GG a 400 k S ⟨c,o,z,tg⟩).bind (OB (Fm 0 fr) σ ϙ [])=Z (.at k',fr,h',v,[],[],[],D):=by kernel_rfl) (hc:JH k'=D:=by kernel_rfl):A2 L GG ϖ Ϝ ϙ Y Q k S:=
 BV.gS q.x a 400 (Fm 0 fr) σ tg b [] H0 k' fr h' h hc f
variable{Ϛ:DV}{fn:Func}
theorem el[q:HC ϖ]   (a:BG)(Q σ:Θ)(b:HS c o z v)(Y:Θ)(e:HS [] [] [] w)(f:O DV)(g:AO (IS f) Ϛ)(tg:O<|O (E×E)×St:=[])
 (h:(CQ L GG a 400 k S ⟨c,o,z,tg⟩).bind (K8 L Q σ ϙ Y fn Ϛ<|F h2)=Z (D,f,h2,v,w,[],[],D):=by kernel_rfl):BV L GG ϖ Ϝ ϙ N (Dd L fn ϙ Ϛ h2) k S:=
 BV.el q.x a 400 Q σ tg b Y e f g h
def ez[b:HC ϖ]   (a:BG)(Q σ:Θ)(f:HS c o z v)(Y:Θ)(g:HS [] [] [] w)(tg:O<|O (E×E)×St:=[])
 (h:(CQ L GG a 400 k S ⟨c,o,z,tg⟩).bind (λr=>(K8 L Q σ ϙ Y fn Ϛ (F h2) r).map λq=>(q.1,IS q.2.1,q.2.2))=Z (D,Ϛ,h2,v,w,[],[],D):=by kernel_rfl):BV L GG ϖ Ϝ ϙ N (Dd L fn ϙ Ϛ h2) k S:=
 BV.e b.x a 400 Q σ tg f Y g h
def ee[b:HC ϖ]   (a:BG)(Q σ:Θ)(f:HS c o z v)(tg:O<|O (E×E)×St:=[])
 (h:(CQ L GG a 400 k S ⟨c,o,z,tg⟩).bind (λr=>(K8 L Q σ ϙ [] fn Ϛ (F h2) r).map λq=>(q.1,IS q.2.1,q.2.2))=Z (D,Ϛ,h2,v,[],[],[],D):=by kernel_rfl):BV L GG ϖ Ϝ ϙ N (Dd L fn ϙ Ϛ h2) k S:=
 BV.e b.x a 400 Q σ tg f [] H0 h
def rr[q:HC ϖ]{X:O Exit}{i:E}{e:Exit}(Q:BG)(σ:Θ)(a:(Exit.normal::X)[i]?=Z e)(b:HS c o z v)(tg:O<|O (E×E)×St:=[])
 (h:(CQ L GG Q 400 k S ⟨c,o,z,tg⟩).map (kj σ ϙ)=Z (Z e,h2,v,[],[],[],D):=by kernel_rfl):BV L GG ϖ Ϝ ϙ N (Cw ϙ X i h2) k S:=
 BV.r q.x Q 400 σ tg b a h
def ag[q:HC ϖ]{Q:Exit->St->Prop}{a p:Code}(b:BG)(σ:Θ)(e:HS c o z v)(fr:O DV)(h':DH)(f:∀r:BR L GG ϙ,BV L GG ϖ Ϝ ϙ r Q [.code p] ⟨fr,h'⟩)
 (h:(CQ L GG b 400 [.code a] S ⟨c,o,z,[]⟩).map (WR (Fm 0 fr) σ ϙ)=Z (.at [],fr,h',v,[],[],D):=by kernel_rfl):HG L GG ϖ Ϝ ϙ N Q a p S:=
 HG.g q.x b 400 (Fm 0 fr) σ e fr h' h f
def rd{n m:E}(P:n+1<=m)(h:∀m,n<=m->A2 L GG ϖ Ϝ ϙ Y Q (pz m k) S)(f:QU k=D:=by kernel_rfl):A2 L GG ϖ Ϝ ϙ Y Q (Du m k) S:=BV.round P f h
def en(m:E)(h:A2 L GG ϖ Ϝ ϙ Y Q (Du m k) S)(f:QU k=D:=by kernel_rfl):A2 L GG ϖ Ϝ ϙ Y Q k S:=BV.enter m f h
end
variable{ext:ζ}{h' h:DH}{Ϛ:DV}{ds:O DV}{f:E}
def eu(a:ES L GG f ds h Ϛ h' ext)(σ:Θ)(ϗ:DH)(k:E)(b:Oz σ (F ϗ) (F h) (F h')=D:=by kernel_rfl)(c:σ.all (λj=>Nat.ble k j)=D:=by kernel_rfl)(s:(σ.map λk=>ϗ.getD k A)=h.map (ET σ<|F ϗ):=by kernel_rfl):Ro L GG f (ds.map<|up σ<|F ϗ) ϗ (up σ (F ϗ) Ϛ) (Fq ϗ σ h') k:=a.embedU σ ϗ k b c s
def em(a:ES L GG f ds h Ϛ h' ext)(σ:Θ)(ϗ:DH)(b:Oz σ (F ϗ) (F h) (F h')=D:=by kernel_rfl)(s:(σ.map λk=>ϗ.getD k A)=h.map (ET σ<|F ϗ):=by kernel_rfl):ES L GG f (ds.map<|up σ<|F ϗ) ϗ (up σ (F ϗ) Ϛ) (Fq ϗ σ h') ext:=ES.emC a σ ϗ b s
def fb(h0:ES L GG f ds [] Ϛ [] D)(h:DH)(z:ds.all Fi=D:=by kernel_rfl):ES L GG f ds h Ϛ h D:=ES.frameB h0 h z
def sb(ds:O DV){m:O DV}(h0:ES L GG f m [] Ϛ [] D)(h:DH)(p:PA h ds m)(z:Zz Ϛ=D:=by kernel_rfl):ES L GG f ds h Ϛ h D:=ES.snapB h0 h p z
def ot{fn:Func}(q:Tryz.prog.funcs[f]?=Z fn)(ϗ:∀(Ϝ:E) (N:BR L GG<|F h),BV L GG η (Z Ϝ) (F h) N (Dd L fn (F h) Ϛ h') (start fn) ⟨ds++d (fn.ntmps-F ds) .any,h⟩)
 (b:fn.body.isSome=D:=by kernel_rfl) (a:(fn.name== "runtime.NumGoroutine")=T:=by kernel_rfl) (j:h'.all cZ=D:=by kernel_rfl) (Y:(!ext||h.isEmpty)=D:=by kernel_rfl):ES L GG f ds h Ϛ h' ext:=
 ES.of_trk q b a (QK j) (λe=>by subst e;simpa using Y) ϗ
section
variable{ϖ:Fence}{Ϝ ϙ:E}{Y:BR L GG ϙ}{Q:QY L GG ϙ}{fr:O DV}{h:DH}{K:O KI}{a b:Code}{α σ:Type}{l:O α}{ϗ:σ->DH}{FR:α->O DV}
variable{i:σ}
def rx[q:HC ϖ](X:O Exit)(c t:E)(g:υ Tmp)(enc:α->O DV)(L':E){f:α->σ->M (σ×E)}  {rE:σ×E}(j:DY f l i=Z rE)
 (W:∀(l Ϝ:E) (N:BR L GG L') (x:α) (s:σ) (r:σ×E),f x s=Z r->HG L GG (Fence.wide.inRound l) (Z Ϝ) L' N (Cw L' X r.2<|ϗ r.1) a b ⟨FR x,ϗ s⟩)
 (S:∀e,(Exit.normal::X)[rE.2]?=Z e->Dp L GG ϖ (Z Ϝ) ϙ Q (Df K) e ⟨fr,ϗ rE.1⟩ Y) (k:(X.all λe=>(Mu e).isSome)=D:=by kernel_rfl)
 (m:Pu K=Z (.tmp t,g,a,b,Df K):=by kernel_rfl) (o:Ak fr (.tmp t)=.it c:=by kernel_rfl) (n:h[c]?=Z (Z<|.iter<|l.map enc):=by kernel_rfl) (v:∀x,F (enc x)=g.size:=by exact λ_=>rfl) (p:Nat.ble ϙ L'=D:=by kernel_rfl) (y:fr.all (Ce L')=D:=by kernel_rfl) (h0:h.set c A=ϗ i:=by kernel_rfl) (z:(λx=>I2 fr g.toList<|enc x)=FR:=by kernel_rfl):A2 L GG ϖ (Z Ϝ) ϙ Y Q K ⟨fr,h⟩:=
 BV.rg q.w X k c t g enc L' j W m o n v p y h0 z S
def r0[q:HC ϖ](c t:E)(e:υ Tmp)(enc:α->O DV)(L':E){f:α->σ->M σ}{g:σ}(j:Bs f l g=Z i)
 (W:∀(l Ϝ:E) (N:BR L GG L') (x:α) (s r:σ),f x s=Z r->HG L GG (Fence.wide.inRound l) (Z Ϝ) L' N (Cw L' [] 0<|ϗ r) a b ⟨FR x,ϗ s⟩)
 (S:A2 L GG ϖ (Z Ϝ) ϙ Y Q (Df K) ⟨fr,ϗ i⟩)
 (k:Pu K=Z (.tmp t,e,a,b,Df K):=by kernel_rfl) (o:Ak fr (.tmp t)=.it c:=by kernel_rfl) (m:h[c]?=Z (Z<|.iter<|l.map enc):=by kernel_rfl) (v:∀x,F (enc x)=e.size:=by exact λ_=>rfl) (n:Nat.ble ϙ L'=D:=by kernel_rfl) (p:fr.all (Ce L')=D:=by kernel_rfl) (h0:h.set c A=ϗ g:=by kernel_rfl) (y:(λx=>I2 fr e.toList<|enc x)=FR:=by kernel_rfl):A2 L GG ϖ (Z Ϝ) ϙ Y Q K ⟨fr,h⟩:=
 BV.rg0 q.w c t e enc L' j W k o m v n p h0 y S
end
abbrev Yd(ϙ:E):=BR L GG ϙ
abbrev EQ:=ES L GG
abbrev FQ:=Dd L
def px{α:Type}(n Ϝ:E){ϙ:E}(ϖ:Fence)(N:Yd ϙ)(Q:Exit->St->Prop)(c:Code)(g:α->E×E×O DV×DH)(s:α):Prop:=match g s with
 |(0,b,f,h)=>∀o,n<=o->BV L GG ϖ (Z Ϝ) ϙ N Q (Du o<|FU c b []) ⟨f,h⟩
 |(1,b,f,h)=>∀o w,n<=o->n<=w->BV L GG ϖ (Z Ϝ) ϙ N Q (Du w<|FU c b [o]) ⟨f,h⟩
 |(2,b,f,h)=>∀o w y,n<=o->n<=w->n<=y->BV L GG ϖ (Z Ϝ) ϙ N Q (Du y<|FU c b [o,w]) ⟨f,h⟩
 |(3,b,f,h)=>BV L GG ϖ (Z Ϝ) ϙ N Q (CW c b []) ⟨f,h⟩
 |(4,b,f,h)=>∀o,n<=o->BV L GG ϖ (Z Ϝ) ϙ N Q (CW c b [o]) ⟨f,h⟩
 |(5,b,f,h)=>∀o w,n<=o->n<=w->BV L GG ϖ (Z Ϝ) ϙ N Q (CW c b [o,w]) ⟨f,h⟩
 |(_,b,f,h)=>∀o w y,n<=o->n<=w->n<=y->BV L GG ϖ (Z Ϝ) ϙ N Q (CW c b [o,w,y]) ⟨f,h⟩
abbrev TW(Ϝ:E){ϙ:E}(N:Yd ϙ)(Q:Exit->St->Prop)(k:O KI)(S:St):Prop:=BV L GG η (Z Ϝ) ϙ N Q k S
abbrev TA(l Ϝ:E){ϙ:E}(N:Yd ϙ)(Q:Exit->St->Prop)(fn:Func)(t:E)(S:St):Prop:=HG L GG (Fence.wide.inRound l) (Z Ϝ) ϙ N Q (rgA fn t) (af fn t) S
abbrev Al{X R:Type}(m:E->X->M R)(ϑ:E->R->X->Prop):Prop:=∀n x r,m n x=Z r->ϑ n r x
def ia{X R:Type}{m:E->X->M R}{ϑ:E->R->X->Prop}(h0:∀x,m 0 x=A)(h:∀n,(∀x r,m n x=Z r->ϑ n r x)->∀x r,m (n+1) x=Z r->ϑ (n+1) r x):Al m ϑ
 |0,x,_,e=>by rw[h0 x]at e;cases e
 |n+1,x,r,e=>h n (ia h0 h n) x r e
def Gt{R:Type}(ϑ:R->Prop)(c:O<|DV×DH×ζ)(o:O<|E×DV)(z:O<|E×Fz)(v:O Prop)(ο:M R):Prop:=HS c o z v->∀r,ο=Z r->ϑ r
section
variable{R R':Type}{ϑ:R->Prop}{c:O (DV×DH×ζ)}{o:O (E×DV)}{z:O (E×Fz)}{v:O Prop}{ο A':M R}{r0:R}{b b':ζ}{p q:Prop}{f:E}{ds:O DV}{h h':DH}{Ϛ d':DV}{e:ζ}{xi:U}
def gO{ϖ:Fence}{Ϝ:W0}{ϙ:E}{Y:Yd ϙ}{Q:R->QY L GG ϙ}{k:O KI}{S:St}(t:Gt (λr=>A2 L GG ϖ Ϝ ϙ Y (Q r) k S) [] [] [] [] ο):∀r,ο=Z r->A2 L GG ϖ Ϝ ϙ Y (Q r) k S:=t H0
def gT(t:Gt ϑ [] [] [] [] ο):∀r,ο=Z r->ϑ r:=t H0
def rO(t:Gt ϑ [] [] [] [] ο):Gt ϑ c o z v ο:=λ_=>t H0
def nO:Gt ϑ c o z v A:=λ_ _ h=>by cases h
def lF(x:HS c o z v->ϑ r0):Gt ϑ c o z v<|Z r0:=λp _ h=>zBH h▸x p
def bn(x:b=D->Gt ϑ c o z v ο)(y:b=T->Gt ϑ c o z v A'):Gt ϑ c o z v<|B b ο A':=λp r h=>(B7 h).elim (λh=>x h.1 p r h.2) λh=>y h.1 p r h.2
def bj(t:E)(x:b=D->Gt ϑ c (o++[(t,.bool D)]) z (v++[AO (.bool b)<|.bool D]) ο)(y:b=T->Gt ϑ c (o++[(t,.bool T)]) z (v++[AO (.bool b)<|.bool T]) A'):Gt ϑ c o z v<|B b ο A':=bn (λh p=>x h<|p.b t h) λh p=>y h<|p.b t h
def bi(t:E)(x:Gt ϑ c (o++[(t,.bool D)]) z (v++[AO (.bool b)<|.bool D]) ο)(y:Gt ϑ c (o++[(t,.bool T)]) z (v++[AO (.bool b)<|.bool T]) A'):Gt ϑ c o z v<|B b ο A':=bj t (λ_=>x) λ_=>y
def gn{_:Decidable p}(x:p->Gt ϑ c o z v ο):Gt ϑ c o z v<|u p ο A:=λw r h=>x (B8 h).1 w r (B8 h).2
def gi{_:Decidable p}(x:Gt ϑ c o z (v++[p]) ο):Gt ϑ c o z v<|u p ο A:=gn λg w=>x<|w.g g
def gc{_:Decidable p}{_:Decidable q}(x:Gt ϑ c o z v<|u p (u q ο A) A):Gt ϑ c o z v<|u (p/\q) ο A:=λw r h=>x w r (by obtain⟨⟨a,I⟩,h⟩:=B8 h;rw[zAF a,zAF I];exact h)
def gw{_:Decidable (AG xi)}(t:E)(x:Gt ϑ c (o++[(t,.int .i64 xi)]) z (v++[AO (.int .i64<|IntKind.i64.wrap xi)<|.int .i64 xi]) ο):Gt ϑ c o z v<|u (AG xi) ο A:=gn λg w=>x<|w.w t g
variable{ϖ:M R'}
def cn{ο:R'->M R}(x:∀y,ϖ=Z y->Gt ϑ c o z v (ο y)):Gt ϑ c o z v<|ϖ.bind ο:=λw r h=>let⟨y,hy,h⟩:=GP h;x y hy w r h
def cf{ο:R'->M R}{Ϛ:R'->DV}(k:∀{y},ϖ=Z y->ES L GG f ds [] (Ϛ y) [] D)(h:DH)(x:∀y,Gt ϑ (c++[(Ϛ y,h,D)]) o z (v++[ES L GG f ds h (Ϛ y) h D])<|ο y)(a:ds.all Fi=D:=by kernel_rfl):Gt ϑ c o z v<|ϖ.bind ο:=cn λy hy w=>x y<|w.c<|fb (k hy) h a
def ce{ο:R'->M R}{Ϛ:R'->DV}{h':R'->DH}(k:∀{y},ϖ=Z y->ES L GG f ds h (Ϛ y) (h' y) e)(σ:Θ)(ϗ:DH)(x:∀y,Gt ϑ (c++[(up σ (F ϗ)<|Ϛ y,Fq ϗ σ<|h' y,e)]) o z (v++[ES L GG f (ds.map<|up σ<|F ϗ) ϗ (up σ (F ϗ)<|Ϛ y) (Fq ϗ σ<|h' y) e])<|ο y)(b:∀y,Oz σ (F ϗ) (F h) (F<|h' y)=D:=by intro;kernel_rfl)(s:(σ.map λk=>ϗ.getD k A)=h.map (ET σ<|F ϗ):=by kernel_rfl):Gt ϑ c o z v<|ϖ.bind ο:=cn λy hy w=>x y<|w.c<|em (k hy) σ ϗ (b y) s
def jb(t:E)(g:b=b')(x:Gt ϑ c (o++[(t,.bool b')]) z (v++[AO (.bool b)<|.bool b']) ο):Gt ϑ c o z v ο:=λw=>x<|w.b t g
def jw(t:E)(g:AG xi)(x:Gt ϑ c (o++[(t,.int .i64 xi)]) z (v++[AO (.int .i64<|IntKind.i64.wrap xi)<|.int .i64 xi]) ο):Gt ϑ c o z v ο:=λw=>x<|w.w t g
def jg(g:p)(x:Gt ϑ c o z (v++[p]) ο):Gt ϑ c o z v ο:=λw=>x<|w.g g
def jt(x:Gt ϑ c o z (v++[True]) ο):Gt ϑ c o z v ο:=λw=>x w.t
def jo(t:E)(g:AO Ϛ d')(x:Gt ϑ c (o++[(t,d')]) z (v++[AO Ϛ d']) ο):Gt ϑ c o z v ο:=λw=>x<|w.o t g
def jc(g:ES L GG f ds h Ϛ h' e)(x:Gt ϑ (c++[(Ϛ,h',e)]) o z (v++[ES L GG f ds h Ϛ h' e]) ο):Gt ϑ c o z v ο:=λw=>x<|w.c g
def jq{k:E}(g:Ro L GG f ds h Ϛ h' k)(x:Gt ϑ (c++[(Ϛ,h',T)]) o z (v++[Ro L GG f ds h Ϛ h' k]) ο):Gt ϑ c o z v ο:=λw=>x<|w.q g
def ja(t k m:E){n P:E}{f b:E->E->DV}(g:n=P/\∀i j,i<n->j<m->AO (f i j) (b i j))(x:Gt ϑ c o (z++[(t,.arr k P b)]) (v++[n=P/\∀i j,i<n->j<m->AO (f i j) (b i j)]) ο):Gt ϑ c o z v ο:=λw=>x<|w.a t k m g
def jz(t k:E)(x:Gt ϑ c o (z++[(t,.frz k)]) v ο):Gt ϑ c o z v ο:=λw=>x<|w.z t k
def jk(t:E)(x:Gt ϑ c o (z++[(t,.rws)]) v ο):Gt ϑ c o z v ο:=λw=>x<|w.k t
end
section
variable{R:Type}{c:O (DV×DH×ζ)}{o:O (E×DV)}{z:O (E×Fz)}{v:O Prop}{ο:M R}{r0:R}{ϖ:Fence}{Ϝ:W0}{ϙ:E}{Y N:BR L GG ϙ}{k k':O KI}{S:St}{fr:O DV}{h':DH}
variable{Q:R->QY L GG ϙ}
def lG[hX:HC ϖ](a:BG)(σ:Θ)  (f:∀{r},ο=Z r->A2 L GG ϖ Ϝ ϙ Y (Q r) k' ⟨fr,h'⟩)(tg:O<|O (E×E)×St:=[])
 (h:(CQ L GG a 400 k S ⟨c,o,z,tg⟩).bind (OB (Fm 0 fr) σ ϙ [])=Z (.at k',fr,h',v,[],[],[],D):=by kernel_rfl) (hc:JH k'=D:=by kernel_rfl):Gt (λr=>A2 L GG ϖ Ϝ ϙ Y (Q r) k S) c o z v ο:=
 λp _ e=>gg a σ p (f e) tg h hc
def lN[hX:HC ϖ]{m:E}(a:BG)(σ:Θ)  (f:∀{r},ο=Z r->A2 L GG ϖ Ϝ ϙ Y (Q r) (Du m k') ⟨fr,h'⟩)(tg:O<|O (E×E)×St:=[])
 (h:(CQ L GG a 400 k S ⟨c,o,z,tg⟩).bind (OB (Fm 0 fr) σ ϙ [])=Z (.at k',fr,h',v,[],[],[],D):=by kernel_rfl) (hc:JH k'=D:=by kernel_rfl) (P:QU k'=D:=by kernel_rfl):Gt (λr=>A2 L GG ϖ Ϝ ϙ Y (Q r) k S) c o z v ο:=
 lG a σ (λe=>en m (f e) P) tg h hc
def lE[hX:HC ϖ]{fn:Func}{ϒ:R->DV}{ι:R->DH}(a:BG)(Q σ:Θ)(tg:O<|O (E×E)×St:=[])
 (h:(CQ L GG a 400 k S ⟨c,o,z,tg⟩).bind (λr=>(K8 L Q σ ϙ [] fn (ϒ r0) (F<|ι r0) r).map λq=>(q.1,IS q.2.1,q.2.2))=Z (D,ϒ r0,ι r0,v,[],[],[],D):=by kernel_rfl):Gt (λr=>BV L GG ϖ Ϝ ϙ N (Dd L fn ϙ (ϒ r)<|ι r) k S) c o z v<|Z r0:=
 lF λp=>ee a Q σ p tg h
end
end
abbrev zCG:=@Nat.le_of_succ_le
section
set_option maxRecDepth 100000
set_option maxHeartbeats 40000000
inductive eJ where
 |l1 (x5:U)
def nE(n:E)(self:eJ->X9)(S:Ξ)(i:U)(P:U):X9:=B (C<|P<(F S:U)) (u (0<=P/\P<(F S:U)) (B (H S P.toNat 0==i) (Z D)<|u (AG<|P+1) (self<|.l1<|P+1) A) A)<|Z T
def xw(n:E)(self:eJ->X9)(l_:Ξ)(n_:U):X9:=self<|.l1 0
def T9(S:Ξ)(i:U):E->eJ->X9
 |0,_=>A
 |n+1,.l1 P=>nE n (T9 S i n) S i P
def has(n:E)(S:Ξ)(i:U):X9:=xw n (T9 S i n) S i
def zNV(n Ϝ:E)(N:Yd 0)(S:Ξ)(a:U)(r:ζ):eJ->Prop:=px n Ϝ η N (FQ Tryz.f101 0 (.bool r) []) (Af Tryz.f101) λ
 | .l1 P=>(0,0,AI 18 [(0,.ints S),(1,.i a),(5,.i P)],[])
def zNW(Ϝ:E)(N:Yd 0)(S:Ξ)(i:U):Al (T9 S i) (zNV · Ϝ N S i):=ia (λ_=>rfl) λn G s r h=>by
 cases s
 case l1 x5=>
  intro o j;refine rd j λo j=>?_
  revert r;apply gO;exact bi 9 (gi (bi 17 (lE AC [4] []) (gw 11 (lG AC [] (G _ _ · o j)))))<|lE AC [4] []
variable{r:ζ}{S:Ξ}{n:E}
def nD{a:U}(h:has n S a=Z r):EQ 101 [.ints S,.i a] [] (.bool r) [] D:=by
 refine ot Tryz.func101 λϜ N=>?_
 revert r;apply gO;exact lN AC [] ((zNW Ϝ N S a n) _ _ · n χ)
inductive gm where
 |l1 (x7:U)
def oe(n:E)(self:gm->X9)(S:Ξ)(lo hi:U)(J:U):X9:=B (C<|J<(F S:U)) (u (0<=J/\J<(F S:U)) (B (C<|H S J.toNat 0<lo) (Z T)<|B (C<|H S J.toNat 0>hi) (Z T)<|u (AG<|J+1) (self<|.l1<|J+1) A) A)<|Z D
def zAK(n:E)(self:gm->X9)(l_:Ξ)(lo hi:U):X9:=self<|.l1 0
def Uf(S:Ξ)(lo hi:U):E->gm->X9
 |0,_=>A
 |n+1,.l1 J=>oe n (Uf S lo hi n) S lo hi J
def O8(n:E)(S:Ξ)(lo hi:U):X9:=zAK n (Uf S lo hi n) S lo hi
def zQV(n Ϝ:E)(N:Yd 0)(S:Ξ)(lo hi:U)(r:ζ):gm->Prop:=px n Ϝ η N (FQ Tryz.f65 0 (.bool r) []) (Af Tryz.f65) λ
 | .l1 J=>(0,0,AI 28 [(0,.ints S),(1,.i lo),(2,.i hi),(7,.i J)],[])
def zQW(Ϝ:E)(N:Yd 0)(S:Ξ)(lo hi:U):Al (Uf S lo hi) (zQV · Ϝ N S lo hi):=ia (λ_=>rfl) λn G s r h=>by
 cases s
 case l1 x7=>
  intro o j;refine rd j λo j=>?_
  revert r;apply gO;exact bi 11 (gn λa=>jg a (bi 19 (lE AC [6] []) (jg a (bi 26 (lE AC [6] []) (gw 13 (lG AC [] (G _ _ · o j)))))))<|lE AC [6] []
def Yc{lo hi:U}(h:O8 n S lo hi=Z r):EQ 65 [.ints S,.i lo,.i hi] [] (.bool r) [] D:=by
 refine ot Tryz.func65 λϜ N=>?_
 revert r;apply gO;exact lN AC [] ((zQW Ϝ N S lo hi n) _ _ · n χ)
def zEa:Ac (Ah Tryz.f102 7) [] (θ 9) []:=Z0
def SX:BG:=λi=>match i with
 |7=>.ord [] (θ 9) []
 |_=>.no
inductive UO where
 |l1 (x3:U)
 |l2 (x3 x4:U)
def oA(n:E)(self:UO->X9)(a:Ξ)(S:U):X9:=B (C<|S<(F a:U)) (self<|.l2 S 0)<|Z D
def fW(n:E)(self:UO->X9)(a:Ξ)(S f:U):X9:=B (C<|f<S) (u ((0<=S/\S<(F a:U))/\(0<=f/\f<(F a:U))) (B (H a S.toNat 0==H a f.toNat 0) (Z T)<|u (AG<|f+1) (self<|.l2 S<|f+1) A) A)<|u (AG<|S+1) (self<|.l1<|S+1) A
def zW(n:E)(self:UO->X9)(l_:Ξ):X9:=self<|.l1 0
def KJ(S:Ξ):E->UO->X9
 |0,_=>A
 |n+1,.l1 a=>oA n (KJ S n) S a
 |n+1,.l2 a f=>fW n (KJ S n) S a f
def fZ(n:E)(S:Ξ):X9:=zW n (KJ S n) S
def zOv(n Ϝ:E)(N:Yd 0)(a:Ξ)(r:ζ):UO->Prop:=px n Ϝ η N (FQ Tryz.f102 0 (.bool r) []) (Af Tryz.f102) λ
 | .l1 S=>(0,0,AI 25 [(0,.ints a),(3,.i S)],[])
 | .l2 S f=>(1,2,AI 25 [(0,.ints a),(3,.i S),(4,.i f)],[])
def zOw(Ϝ:E)(N:Yd 0)(S:Ξ):Al (KJ S) (zOv · Ϝ N S):=ia (λ_=>rfl) λn G s r h=>by
 cases s
 case l1 x3=>
  intro o j;refine rd j λo j=>?_
  revert r;apply gO;exact bi 8 (lN SX [] (G _ _ · o n j χ))<|lE SX [2] []
 case l2 x3 x4=>
  intro o w j z;have j:=zCG j;refine rd z λw z=>?_
  revert r;apply gO;exact bi 13 (jg zEa (gc (gi (gi (bi 24 (lE SX [2] []) (gw 15 (lG SX [] (G _ _ · o w j z)))))))) (gw 10 (lG SX [] (G _ _ · o j)))
def zOt(h:fZ n S=Z r):EQ 102 [.ints S] [] (.bool r) [] D:=by
 refine ot Tryz.func102 λϜ N=>?_
 revert r;apply gO;exact lN SX [] ((zOw Ϝ N S n) _ _ · n χ)
inductive df where
 |l1 (x8:U)
def lm(n:E)(self:df->W5)(V:Ξ)(v:U)(x8:U):W5:=B (C<|x8<(F V:U)) (u (0<=x8/\x8<(F V:U)) (B (v==H V x8.toNat 0) (Z x8)<|u (AG<|x8+1) (self<|.l1<|x8+1) A) A)<|Z<|-1
def wo(n:E)(self:df->W5)(s_:Ξ)(v:U):W5:=self<|.l1 0
def QZ(V:Ξ)(v:U):E->df->W5
 |0,_=>A
 |n+1,.l1 x8=>lm n (QZ V v n) V v x8
def dg(n:E)(V:Ξ)(v:U):W5:=wo n (QZ V v n) V v
def zKj(n Ϝ:E)(N:Yd 0)(V:Ξ)(v:U)(r:U):df->Prop:=px n Ϝ η N (FQ Tryz.f131 0 (.i r) []) (Af Tryz.f131) λ
 | .l1 x8=>(0,0,AI 19 [(0,.ints V),(1,.i v),(7,.i (F V:U)),(8,.i x8)],[])
def zKk(Ϝ:E)(N:Yd 0)(V:Ξ)(v:U):Al (QZ V v) (zKj · Ϝ N V v):=ia (λ_=>rfl) λn G s r h=>by
 cases s
 case l1 x8=>
  intro o j;refine rd j λo j=>?_
  revert r;apply gO;exact bi 9 (gi (bi 16 (lE AC [4] []) (gw 18 (lG AC [] (G _ _ · o j)))))<|lE AC [4] []
variable{v:U}{V:Ξ}
def zKi{r:U}(h:dg n V v=Z r):EQ 131 [.ints V,.i v] [] (.i r) [] D:=by
 refine ot Tryz.func131 λϜ N=>?_
 revert r;apply gO;exact lN AC [] ((zKk Ϝ N V v n) _ _ · n χ)
inductive di where
 |l1 (x8:U)
def dh(n:E)(self:di->W5)(V:Ω)(v:ζ)(x8:U):W5:=B (C<|x8<(F V:U)) (u (0<=x8/\x8<(F V:U)) (B (v==H V x8.toNat T) (Z x8)<|u (AG<|x8+1) (self<|.l1<|x8+1) A) A)<|Z<|-1
def zKm(n:E)(self:di->W5)(s_:Ω)(v:ζ):W5:=self<|.l1 0
def OV(V:Ω)(v:ζ):E->di->W5
 |0,_=>A
 |n+1,.l1 x8=>dh n (OV V v n) V v x8
def dj(n:E)(V:Ω)(v:ζ):W5:=zKm n (OV V v n) V v
def zKn(n Ϝ:E)(N:Yd 0)(V:Ω)(v:ζ)(r:U):di->Prop:=px n Ϝ η N (FQ Tryz.f192 0 (.i r) []) (Af Tryz.f192) λ
 | .l1 x8=>(0,0,AI 19 [(0,.bools V),(1,.bool v),(7,.i (F V:U)),(8,.i x8)],[])
def zKo(Ϝ:E)(N:Yd 0)(V:Ω)(v:ζ):Al (OV V v) (zKn · Ϝ N V v):=ia (λ_=>rfl) λn G s r h=>by
 cases s
 case l1 x8=>
  intro o j;refine rd j λo j=>?_
  revert r;apply gO;exact bi 9 (gi (bi 16 (lE AC [4] []) (gw 18 (lG AC [] (G _ _ · o j)))))<|lE AC [4] []
def zKl{V:Ω}{v:ζ}{r:U}(h:dj n V v=Z r):EQ 192 [.bools V,.bool v] [] (.i r) [] D:=by
 refine ot Tryz.func192 λϜ N=>?_
 revert r;apply gO;exact lN AC [] ((zKo Ϝ N V v n) _ _ · n χ)
def oJ(n:E)(V:Ξ)(v:U):X9:=(dg n V v).bind λe=>Z<|C<|e>=0
def O3(n:E)(V:Ξ)(v:U):X9:=oJ n V v
def zl(h:O3 n V v=Z r):EQ 107 [.ints V,.i v] [] (.bool r) [] D:=by
 unfold O3 oJ at h;refine ot Tryz.func107 λϜ N=>?_
 revert r;apply gO;exact cf zKi [] λ_=>lE AC [4] []
def zEX:Ac (Ah Tryz.f24 6) [] (θ 9) []:=Z0
def VT:BG:=λi=>match i with
 |6=>.ord [] (θ 9) []
 |_=>.no
inductive fS where
 |l1 (x13:U)
def fR(n:E)(self:fS->X9)(r c:Ξ)(x13:U):X9:=B (C<|x13<(F r:U)) (u ((0<=x13/\x13<(F r:U))/\(0<=x13/\x13<(F c:U))) (B (H r x13.toNat 0 != H c x13.toNat 0) (Z T)<|u (AG<|x13+1) (self<|.l1<|x13+1) A) A)<|Z D
def zF(n:E)(self:fS->X9)(r c:Ξ):X9:=B ((F r:U) != (F c:U)) (Z T)<|self<|.l1 0
def UL(r c:Ξ):E->fS->X9
 |0,_=>A
 |n+1,.l1 x13=>fR n (UL r c n) r c x13
def UM(n:E)(r c:Ξ):X9:=zF n (UL r c n) r c
def zOd(n Ϝ:E)(N:Yd 0)(a c:Ξ)(r:ζ):fS->Prop:=px n Ϝ η N (FQ Tryz.f24 0 (.bool r) []) (Af Tryz.f24) λ
 | .l1 x13=>(0,0,AI 26 [(0,.ints a),(1,.ints c),(12,.i (F a:U)),(13,.i x13)],[])
def zOe(Ϝ:E)(N:Yd 0)(a c:Ξ):Al (UL a c) (zOd · Ϝ N a c):=ia (λ_=>rfl) λn G s r h=>by
 cases s
 case l1 x13=>
  intro o j;refine rd j λo j=>?_
  revert r;apply gO;exact bi 14 (jg zEX (gc (gi (gi (bi 24 (lE VT [4] []) (gw 25 (lG VT [] (G _ _ · o j))))))))<|lE VT [4] []
def zE{a c:Ξ}(h:UM n a c=Z r):EQ 24 [.ints a,.ints c] [] (.bool r) [] D:=by
 refine ot Tryz.func24 λϜ N=>?_
 revert r;apply gO;exact bi 10 (lE VT [4] []) (lN VT [] ((zOe Ϝ N a c n) _ _ · n χ))
inductive Sq where
 |l1 (x3:U)
 |l2 (x3 x4:U)
def ju(n:E)(self:Sq->W5)(I:O Ξ)(S:U):W5:=B (C<|S<(F I:U)) (self<|.l2 S 0)<|Z 0
def au(n:E)(self:Sq->W5)(I:O Ξ)(S f:U):W5:=u (0<=S/\S<(F I:U)) (B (C<|f<((F<|H I S.toNat []:E):U)) (u (0<=f/\f<((F<|H I S.toNat []:E):U)) (B (C<|H (H I S.toNat []) f.toNat 0<0) (Z 120)<|B (C<|H (H I S.toNat []) f.toNat 0>=(F I:U)) (Z 120)<|B (H (H I S.toNat []) f.toNat 0==S) (Z 120)<|B (C<|f>0) (u (AG (f-1)/\(0<=(f-1)/\(f-1)<((F<|H I S.toNat []:E):U))) (B (C<|H (H I S.toNat []) (f-1).toNat 0>=H (H I S.toNat []) f.toNat 0) (Z 120)<|u ((0:U)<=H (H I S.toNat []) f.toNat 0/\H (H I S.toNat []) f.toNat 0<(F I:U)) ((has n (H I (H (H I S.toNat []) f.toNat 0).toNat []) S).bind λe=>B (!e) (Z 120)<|u (AG<|f+1) (self<|.l2 S<|f+1) A) A) A)<|u ((0:U)<=H (H I S.toNat []) f.toNat 0/\H (H I S.toNat []) f.toNat 0<(F I:U)) ((has n (H I (H (H I S.toNat []) f.toNat 0).toNat []) S).bind λe=>B (!e) (Z 120)<|u (AG<|f+1) (self<|.l2 S<|f+1) A) A) A)<|u (AG<|S+1) (self<|.l1<|S+1) A) A
def tN(n:E)(self:Sq->W5)(I:O Ξ):W5:=B (C<|(F I:U)>256) (Z 120)<|self<|.l1 0
def Jt(I:O Ξ):E->Sq->W5
 |0,_=>A
 |n+1,.l1 S=>ju n (Jt I n) I S
 |n+1,.l2 S f=>au n (Jt I n) I S f
def Kp(n:E)(I:O Ξ):W5:=tN n (Jt I n) I
def zGS(n Ϝ:E)(N:Yd 0)(I:O Ξ)(r:U):Sq->Prop:=px n Ϝ η N (FQ Tryz.f66 0 (.i r) []) (Af Tryz.f66) λ
 | .l1 S=>(0,0,AI 69 [(0,.sl 1 (F I)<|AM AS I),(3,.i S)],[])
 | .l2 S f=>(1,2,AI 69 [(0,.sl 1 (F I)<|AM AS I),(3,.i S),(4,.i f)],[])
def zGT(Ϝ:E)(N:Yd 0)(I:O Ξ):Al (Jt I) (zGS · Ϝ N I):=ia (λ_=>rfl) λn G s r h=>by
 cases s
 case l1 x3=>
  intro o j;refine rd j λo j=>?_
  revert r;apply gO;exact bi 12 (lN AC [] (G _ _ · o n j χ))<|lE AC [2] []
 case l2 x3 x4=>
  intro o w j z;have j:=zCG j;refine rd z λw z=>?_
  revert r;apply gO;exact gn λa=>jg a (bi 21 (jg a (gi (bi 32 (lE AC [2] []) (bi 37 (lE AC [2] []) (bi 42 (lE AC [2] []) (bi 46 (jg a (gc (gw 53 (gi (bi 57 (lE AC [2] []) (gi (cf nD [] λ_=>bi 67 (lE AC [2] []) (gw 23 (lG AC [] (G _ _ · o w j z)))))))))) (gi (cf nD [] λ_=>bi 67 (lE AC [2] []) (gw 23 (lG AC [] (G _ _ · o w j z))))))))))) (gw 14 (lG AC [] (G _ _ · o j))))
variable{I:O Ξ}
def Vz{r:U}(h:Kp n I=Z r):EQ 66 [.sl 1 (F I)<|AM AS I] [] (.i r) [] D:=by
 refine ot Tryz.func66 λϜ N=>?_
 revert r;apply gO;exact bi 8 (lE AC [2] []) (lN AC [] ((zGT Ϝ N I n) _ _ · n χ))
inductive UC where
 |l1 (AT:U)
 |l2 (x3:U) (x4:Ξ) (AT:U) (BC:Ξ) (Lt Da:U)
def nf(n:E)(self:UC->W5)(I:O Ξ)(G:U):W5:=B (C<|G<(F I:U)) (u (0<=G/\G<(F I:U)) (self<|.l2 G (H I G.toNat []) G (H I G.toNat []) ((F<|H I G.toNat []:E):U) 0) A)<|Z 0
def e9(n:E)(self:UC->W5)(I:O Ξ)(S:U)(f:Ξ)(G:U)(J:Ξ)(h w:U):W5:=B (C<|w<h) (u (0<=w/\w<(F J:U)) (B (C<|H J w.toNat 0<0) (Z 120)<|B (C<|H J w.toNat 0>=(F I:U)) (Z 120)<|B (H J w.toNat 0==S) (Z 120)<|B (C<|w>0) (u (AG (w-1)/\(0<=(w-1)/\(w-1)<(F f:U))) (B (C<|H f (w-1).toNat 0>=H J w.toNat 0) (Z 120)<|u (0<=H J w.toNat 0/\H J w.toNat 0<(F I:U)) ((O3 n (H I (H J w.toNat 0).toNat []) S).bind λe=>B (!e) (Z 120)<|u (AG<|w+1) (self<|.l2 S f G J h<|w+1) A) A) A)<|u (0<=H J w.toNat 0/\H J w.toNat 0<(F I:U)) ((O3 n (H I (H J w.toNat 0).toNat []) S).bind λe=>B (!e) (Z 120)<|u (AG<|w+1) (self<|.l2 S f G J h<|w+1) A) A) A)<|u (AG<|G+1) (self<|.l1<|G+1) A
def yZ(n:E)(self:UC->W5)(I:O Ξ):W5:=B (C<|(F I:U)>256) (Z 120)<|self<|.l1 0
def KE(I:O Ξ):E->UC->W5
 |0,_=>A
 |n+1,.l1 G=>nf n (KE I n) I G
 |n+1,.l2 S f G J h w=>e9 n (KE I n) I S f G J h w
def Xo(n:E)(I:O Ξ):W5:=yZ n (KE I n) I
def zNw(n Ϝ:E)(N:Yd 0)(I:O Ξ)(r:U):UC->Prop:=px n Ϝ η N (FQ Tryz.f80 0 (.i r) []) (Af Tryz.f80) λ
 | .l1 G=>(0,0,AI 61 [(0,.sl 1 (F I)<|AM AS I),(10,.sl 1 (F I)<|AM AS I),(11,.i (F I:U)),(12,.i G)],[])
 | .l2 S f G J h w=>(1,2,AI 61 [(0,.sl 1 (F I)<|AM AS I),(3,.i S),(4,.ints f),(10,.sl 1 (F I)<|AM AS I),(11,.i (F I:U)),(12,.i G),(17,.ints J),(18,.i h),(19,.i w)],[])
def zNx(Ϝ:E)(N:Yd 0)(I:O Ξ):Al (KE I) (zNw · Ϝ N I):=ia (λ_=>rfl) λn G s r h=>by
 cases s
 case l1 AT=>
  intro o j;refine rd j λo j=>?_
  revert r;apply gO;exact bi 13 (gi (lN AC [] (G _ _ · o n j χ)))<|lE AC [2] []
 case l2 x3 x4 AT BC Lt Da=>
  intro o w j z;have j:=zCG j;refine rd z λw z=>?_
  revert r;apply gO;exact bi 20 (gi (bi 25 (lE AC [2] []) (bi 30 (lE AC [2] []) (bi 35 (lE AC [2] []) (bi 39 (gc (gw 43 (gi (bi 47 (lE AC [2] []) (gi (cf zl [] λ_=>bi 57 (lE AC [2] []) (gw 59 (lG AC [] (G _ _ · o w j z))))))))) (gi (cf zl [] λ_=>bi 57 (lE AC [2] []) (gw 59 (lG AC [] (G _ _ · o w j z)))))))))) (gw 60 (lG AC [] (G _ _ · o j)))
def yX{r:U}(h:Xo n I=Z r):EQ 80 [.sl 1 (F I)<|AM AS I] [] (.i r) [] D:=by
 refine ot Tryz.func80 λϜ N=>?_
 revert r;apply gO;exact bi 9 (lE AC [2] []) (lN AC [] ((zNx Ϝ N I n) _ _ · n χ))
inductive fO where
 |l1 (x3:U)
def fN(n:E)(self:fO->X9)(q:AA)(S:U):X9:=B (C<|S<(F q.cons:U)) (u (0<=S/\S<(F q.cons:U)) (B (C<|((F<|(H q.cons S.toNat ξ).ce:E):U)>20) (Z T)<|B (C<|((F<|(H q.cons S.toNat ξ).ru:E):U)>10) (Z T)<|u (AG<|S+1) (self<|.l1<|S+1) A) A)<|Z D
def yw(n:E)(self:fO->X9)(q:AA):X9:=B (C<|q.ce>16) (Z T)<|B (C<|q.sy>6) (Z T)<|B (C<|(F q.va:U)>8) (Z T)<|B (C<|(F q.nb:U)>20) (Z T)<|B (C<|(F q.cons:U)>120) (Z T)<|self<|.l1 0
def Ms(q:AA):E->fO->X9
 |0,_=>A
 |n+1,.l1 S=>fN n (Ms q n) q S
def fP(n:E)(q:AA):X9:=yw n (Ms q n) q
def zOX(n Ϝ:E)(N:Yd 0)(q:AA)(r:ζ):fO->Prop:=px n Ϝ η N (FQ Tryz.f22 0 (.bool r) []) (Af Tryz.f22) λ
 | .l1 S=>(0,0,AI 55 [(1,.ref 0 0),(3,.i S)],[oC<|AJ q])
def zOY(Ϝ:E)(N:Yd 0)(q:AA):Al (Ms q) (zOX · Ϝ N q):=ia (λ_=>rfl) λn G s r h=>by
 cases s
 case l1 x3=>
  intro o j;refine rd j λo j=>?_
  revert r;apply gO;exact bi 34 (gn λa=>jg a (bi 44 (lE AC [2] []) (jg a (bi 53 (lE AC [2] []) (gw 36 (lG AC [0] (G _ _ · o j)))))))<|lE AC [2] []
def zOW{q:AA}(h:fP n q=Z r):EQ 22 [.agg 5<|L1<|AJ q] [] (.bool r) [] D:=by
 refine ot Tryz.func22 λϜ N=>?_
 revert r;apply gO;exact bi 6 (lE AC [2] []) (bi 10 (lE AC [2] []) (bi 16 (lE AC [2] []) (bi 22 (lE AC [2] []) (bi 28 (lE AC [2] []) (lN AC [0] ((zOY Ϝ N q n) _ _ · n χ))))))
end
section
set_option maxRecDepth 100000
set_option maxHeartbeats 40000000
def pm(n:E)(v lo hi:U):X9:=B (C<|v<lo) (Z D)<|Z<|C<|v>hi
def iU(n:E)(v lo hi:U):X9:=pm n v lo hi
variable{r:ζ}{lo hi:U}{n:E}
def zA9{v:U}(h:iU n v lo hi=Z r):EQ 106 [.i v,.fp 1<|L1 [.i lo],.fp 1<|L1 [.i hi]] [] (.bool r) [] D:=by
 refine ot Tryz.func106 λϜ N=>?_
 revert r;apply gO;exact bi 7 (lE AC [4] [])<|lE AC [4] []
inductive db where
 |l1 (x8:U)
def ll(n:E)(self:db->W5)(l:Ξ)(lo hi:U)(x8:U):W5:=B (C<|x8<(F l:U)) (u (0<=x8/\x8<(F l:U)) ((iU n (H l x8.toNat 0) lo hi).bind λe=>B e (Z x8)<|u (AG<|x8+1) (self<|.l1<|x8+1) A) A)<|Z<|-1
def wn(n:E)(self:db->W5)(l:Ξ)(lo hi:U):W5:=self<|.l1 0
def QX(l:Ξ)(lo hi:U):E->db->W5
 |0,_=>A
 |n+1,.l1 x8=>ll n (QX l lo hi n) l lo hi x8
def de(n:E)(l:Ξ)(lo hi:U):W5:=wn n (QX l lo hi n) l lo hi
def zKg(n Ϝ:E)(N:Yd 0)(l:Ξ)(lo hi:U)(r:U):db->Prop:=px n Ϝ η N (FQ Tryz.f111 0 (.i r) []) (Af Tryz.f111) λ
 | .l1 x8=>(0,0,AI 19 [(0,.ints l),(1,.fn 106 2<|L1 [.fp 1<|L1 [.i lo],.fp 1<|L1 [.i hi]]),(7,.i (F l:U)),(8,.i x8)],[])
def zKh(Ϝ:E)(N:Yd 0)(l:Ξ)(lo hi:U):Al (QX l lo hi) (zKg · Ϝ N l lo hi):=ia (λ_=>rfl) λn G s r h=>by
 cases s
 case l1 x8=>
  intro o j;refine rd j λo j=>?_
  revert r;apply gO;exact bi 9 (gi (cf zA9 [] λ_=>bi 16 (lE AC [4] []) (gw 18 (lG AC [] (G _ _ · o j)))))<|lE AC [4] []
variable{l:Ξ}
def zKe{r:U}(h:de n l lo hi=Z r):EQ 111 [.ints l,.fn 106 2<|L1 [.fp 1<|L1 [.i lo],.fp 1<|L1 [.i hi]]] [] (.i r) [] D:=by
 refine ot Tryz.func111 λϜ N=>?_
 revert r;apply gO;exact lN AC [] ((zKh Ϝ N l lo hi n) _ _ · n χ)
def oH(n:E)(l:Ξ)(lo hi:U):X9:=(de n l lo hi).bind λe=>Z<|C<|e>=0
def f7(n:E)(l:Ξ)(lo hi:U):X9:=oH n l lo hi
def zPi(h:f7 n l lo hi=Z r):EQ 105 [.ints l,.fn 106 2<|L1 [.fp 1<|L1 [.i lo],.fp 1<|L1 [.i hi]]] [] (.bool r) [] D:=by
 unfold f7 oH at h;refine ot Tryz.func105 λϜ N=>?_
 revert r;apply gO;exact cf zKe [] λ_=>lE AC [4] []
def kN(n:E)(S:Ξ)(lo hi:U):X9:=(f7 n S lo hi).bind λe=>Z<|!e
def Nz(n:E)(S:Ξ)(lo hi:U):X9:=kN n S lo hi
def bf{S:Ξ}(h:Nz n S lo hi=Z r):EQ 79 [.ints S,.i lo,.i hi] [] (.bool r) [] D:=by
 unfold Nz kN at h;refine ot Tryz.func79 λϜ N=>?_
 revert r;apply gO;exact cn λy1 f=>jc (sb [.ints S,.fn 106 2<|L1 [.ref 0 0,.ref 1 0]] (zPi f) [oC [.i lo],oC [.i hi]] ⟨Am.plain Z5,Am.fnL (l:=[.ref 0 0,.ref 1 0]) (l0:=[.fp 1<|L1 [.i lo],.fp 1<|L1 [.i hi]]) ⟨Am.refL (l:=[.i lo]) (l0:=[.i lo]) rfl ⟨Am.plain Z5,trivial⟩,Am.refL (l:=[.i hi]) (l0:=[.i hi]) rfl ⟨Am.plain Z5,trivial⟩,trivial⟩,trivial⟩)<|lE AC [6] []
def zEW:Ac (Ah Tryz.f83 24) [([0,1,2,3,5,6,7,8],4),([],9),([10,11,12,13,14],15),([],16),([17,18,19,20,21,22,23,24,25,26],27)] [28,29] []:=Z0
def D8:BG:=λi=>match i with
 |24=>.ord [([0,1,2,3,5,6,7,8],4),([],9),([10,11,12,13,14],15),([],16),([17,18,19,20,21,22,23,24,25,26],27)] [28,29] []
 |_=>.no
def xN(q:AA)(g:AD):DH:=[oC<|AJ q,oC<|AW g,oI ([g.set,g.other]:Ξ),oI ([g.lo,g.hi]:Ξ)]
inductive Oo where
 |l1 (AQ:U) (o2:Ω)
 |l2
def Xx(n:E)(self:Oo->X9)(q:AA)(g:AD)(k:U)(a:Ω):X9:=B (C<|k<(F g.ce:U)) (u (0<=k/\k<(F g.ce:U)) (B (C<|H g.ce k.toNat 0<0) (Z T)<|B (C<|H g.ce k.toNat 0>=q.ce) (Z T)<|u ((0<=H g.ce k.toNat 0/\H g.ce k.toNat 0<((256:E):U))/\0+(H g.ce k.toNat 0).toNat<F a) (B (H a (0+(H g.ce k.toNat 0).toNat) T) (Z T)<|B (C<|g.kind>=8) (B (H g.ce k.toNat 0 != k) (Z T)<|u (AG<|k+1) (self<|.l1 (k+1)<|a.set (0+(H g.ce k.toNat 0).toNat) D) A)<|u (AG<|k+1) (self<|.l1 (k+1)<|a.set (0+(H g.ce k.toNat 0).toNat) D) A) A) A)<|B (g.kind==1) (self<|.l2)<|B (g.kind==2) (self<|.l2)<|B (g.kind==3) (self<|.l2)<|B (g.kind==4) (self<|.l2)<|B (g.kind==5) (self<|.l2)<|B (g.kind==6) (B ((F g.ce:U) != 2) (Z T)<|self<|.l2)<|B (g.kind==7) (B ((F g.ce:U) != 2) (Z T)<|self<|.l2)<|B (g.kind==8) (B ((F g.ce:U) != q.ce) (Z T)<|self<|.l2)<|B (g.kind==9) (B ((F g.ce:U) != q.ce) (Z T)<|self<|.l2)<|Z T
def nt(n:E)(self:Oo->X9)(q:AA)(g:AD):X9:=u ((0<=q.sy/\q.sy<=(IntKind.i64.bits:U))/\AG ((IntKind.i64.wrap<|1*2^(q.sy).toNat)-1)) ((Nz n ([g.set,g.other]:Ξ) 0<|(IntKind.i64.wrap<|1*2^(q.sy).toNat)-1).bind λe=>B e ((Nz n ([g.lo,g.hi]:Ξ) 0 65536).bind λr=>B r (B (C<|(F g.ru:U)<=8) ((Nz n g.ru 1 256).bind λy3=>Z y3)<|Z T)<|Z T)<|Z T) A
def yp(n:E)(self:Oo->X9)(q:AA)(c_:AD):X9:=self<|.l1 0<|d 256 T
def UJ(q:AA)(g:AD):E->Oo->X9
 |0,_=>A
 |n+1,.l1 k a=>Xx n (UJ q g n) q g k a
 |n+1,.l2=>nt n (UJ q g n) q g
def fJ(n:E)(q:AA)(g:AD):X9:=yp n (UJ q g n) q g
def zOP(n Ϝ:E)(N:Yd 0)(q:AA)(g:AD)(r:ζ):Oo->Prop:=px n Ϝ η N (FQ Tryz.f83 0 (.bool r) []) (Af Tryz.f83) λ
 | .l1 k a=>(0,0,AI 95 [(2,.ref 0 0),(3,.ref 1 0),(5,.mp 2 1 0 0),(9,.ints g.ce),(10,.i (F g.ce:U)),(11,.i k)],[oC<|AJ q,oC<|AW g,Z<|.bools a])
 | .l2=>(3,24,AI 95 [(2,.ref 0 0),(3,.ref 1 0)],[oC<|AJ q,oC<|AW g])
def zOQ(Ϝ:E)(N:Yd 0)(q:AA)(g:AD):Al (UJ q g) (zOP · Ϝ N q g):=ia (λ_=>rfl) λn G a r h=>by
 cases a
 case l1 AQ o2=>
  intro o j;refine rd j λo j=>?_
  revert r;apply gO;exact bi 12 (gi (bi 17 (lE (AK 24 D8) [4] []) (bi 22 (lE (AK 24 D8) [4] []) (gc (gn λs=>jg s (gn λy=>jg y (bi 27 (lE (AK 24 D8) [4] []) (bi 32 (bi 36 (lE (AK 24 D8) [4] []) (jg s (jg y (gw 41 (lG (AK 24 D8) [0,1,2] (G _ _ · o j)))))) (jg s (jg y (gw 41 (lG (AK 24 D8) [0,1,2] (G _ _ · o j))))))))))))) (bi 45 (lG (AK 24 D8) [0,1] (G _ _ ·)) (bi 46 (lG (AK 24 D8) [0,1] (G _ _ ·)) (bi 47 (lG (AK 24 D8) [0,1] (G _ _ ·)) (bi 48 (lG (AK 24 D8) [0,1] (G _ _ ·)) (bi 49 (lG (AK 24 D8) [0,1] (G _ _ ·)) (bi 51 (bi 56 (lE (AK 24 D8) [4] []) (lG (AK 24 D8) [0,1] (G _ _ ·))) (bi 52 (bi 56 (lE (AK 24 D8) [4] []) (lG (AK 24 D8) [0,1] (G _ _ ·))) (bi 58 (bi 65 (lE (AK 24 D8) [4] []) (lG (AK 24 D8) [0,1] (G _ _ ·))) (bi 59 (bi 65 (lE (AK 24 D8) [4] []) (lG (AK 24 D8) [0,1] (G _ _ ·)))<|lE (AK 24 D8) [4] [])))))))))
 case l2=>
  revert r;apply gO;exact jg zEW<|gc<|gi<|gw 74<|cn λy1 f=>jc (sb [.msl 2 1 0 2,.i 0,.i<|(IntKind.i64.wrap<|1*2^(q.sy).toNat)-1] (bf f) [oC<|AJ q,oC<|AW g,oI ([g.set,g.other]:Ξ)] ⟨Am.ints rfl (φ 2),Am.plain Z5,Am.plain Z5,trivial⟩)<|bi 75 (cn λy2 K=>jc (sb [.msl 3 1 0 2,.i 0,.i 65536] (bf K) (xN q g) ⟨Am.ints rfl (φ 2),Am.plain Z5,Am.plain Z5,trivial⟩)<|bi 82 (bi 88 (cf bf (xN q g) λ_=>lE D8 [4] [])<|lE D8 [4] [])<|lE D8 [4] [])<|lE D8 [4] []
variable{g:AD}{q:AA}
def zON(h:fJ n q g=Z r):EQ 83 [.agg 5<|L1<|AJ q,.agg 9<|L1<|AW g] [] (.bool r) [] D:=by
 refine ot Tryz.func83 λϜ N=>?_
 revert r;apply gO;exact lN (AK 24 D8) [0,1,2] ((zOQ Ϝ N q g n) _ _ · n χ)
def ib(n:E)(c:AD)(q:AA):X9:=(fJ n q c).bind λe=>Z<|!e
def ZK(n:E)(c:AD)(q:AA):X9:=ib n c q
def zBM{c:AD}(h:ZK n c q=Z r):EQ 82 [.agg 9<|L1<|AW c,.fp 5<|L1<|AJ q] [] (.bool r) [] D:=by
 unfold ZK ib at h;refine ot Tryz.func82 λϜ N=>?_
 revert r;apply gO;exact cf zON [oC<|AW c] λ_=>lE AC [3] []
inductive dY where
 |l1 (x8:U)
def dX(n:E)(self:dY->W5)(l:O AD)(q:AA)(x8:U):W5:=B (C<|x8<(F l:U)) (u (0<=x8/\x8<(F l:U)) ((ZK n (H l x8.toNat ξ) q).bind λe=>B e (Z x8)<|u (AG<|x8+1) (self<|.l1<|x8+1) A) A)<|Z<|-1
def wl(n:E)(self:dY->W5)(l:O AD)(q:AA):W5:=self<|.l1 0
def OT(l:O AD)(q:AA):E->dY->W5
 |0,_=>A
 |n+1,.l1 x8=>dX n (OT l q n) l q x8
def dZ(n:E)(l:O AD)(q:AA):W5:=wl n (OT l q n) l q
def zKY(n Ϝ:E)(N:Yd 0)(l:O AD)(q:AA)(r:U):dY->Prop:=px n Ϝ η N (FQ Tryz.f108 0 (.i r) []) (Af Tryz.f108) λ
 | .l1 x8=>(0,0,AI 19 [(0,.sl 9 (F l)<|AM AW l),(1,.fn 82 1<|L1 [.fp 5<|L1<|AJ q]),(7,.i (F l:U)),(8,.i x8)],[])
def zKZ(Ϝ:E)(N:Yd 0)(l:O AD)(q:AA):Al (OT l q) (zKY · Ϝ N l q):=ia (λ_=>rfl) λn G s r h=>by
 cases s
 case l1 x8=>
  intro o j;refine rd j λo j=>?_
  revert r;apply gO;exact bi 9 (gi (cf zBM [] λ_=>bi 16 (lE AC [4] []) (gw 18 (lG AC [] (G _ _ · o j)))))<|lE AC [4] []
def zKX{l:O AD}{r:U}(h:dZ n l q=Z r):EQ 108 [.sl 9 (F l)<|AM AW l,.fn 82 1<|L1 [.fp 5<|L1<|AJ q]] [] (.i r) [] D:=by
 refine ot Tryz.func108 λϜ N=>?_
 revert r;apply gO;exact lN AC [] ((zKZ Ϝ N l q n) _ _ · n χ)
def oF(n:E)(l:O AD)(q:AA):X9:=(dZ n l q).bind λe=>Z<|C<|e>=0
def f5(n:E)(l:O AD)(q:AA):X9:=oF n l q
def zPg{l:O AD}(h:f5 n l q=Z r):EQ 81 [.sl 9 (F l)<|AM AW l,.fn 82 1<|L1 [.fp 5<|L1<|AJ q]] [] (.bool r) [] D:=by
 unfold f5 oF at h;refine ot Tryz.func81 λϜ N=>?_
 revert r;apply gO;exact cf zKX [] λ_=>lE AC [4] []
def pp(n:E)(q:AA):W5:=B (C<|q.ce<1) (Z 191)<|B (C<|q.ce>256) (Z 191)<|B (C<|q.sy<1) (Z 191)<|B (C<|q.sy>16) (Z 191)<|B ((F q.va:U) != q.sy) (Z 191)<|(Nz n q.va 0 99).bind λe=>B (!e) (Z 191)<|B ((F q.nb:U) != q.ce) (Z 191)<|(Xo n q.nb).bind λr=>B (r != 0) (Z 191)<|B (C<|(F q.cons:U)>4096) (Z 191)<|(f5 n q.cons q).bind λy3=>B y3 (Z 191)<|Z 0
def valid(n:E)(q:AA):W5:=pp n q
def ZG{r:U}(h:valid n q=Z r):EQ 51 [.agg 5<|L1<|AJ q] [] (.i r) [] D:=by
 refine ot Tryz.func51 λϜ N=>?_
 revert r;apply gO;exact bi 5 (lE AC [2] [])<|bi 9 (lE AC [2] [])<|bi 14 (lE AC [2] [])<|bi 19 (lE AC [2] [])<|bi 27 (lE AC [2] [])<|cf bf [oC<|AJ q] λ_=>bi 33 (lE AC [2] [])<|bi 40 (lE AC [2] [])<|cf yX [oC<|AJ q] λ_=>bi 45 (lE AC [2] [])<|bi 51 (lE AC [2] [])<|cn λy3 g=>jc (sb [.sl 9 (F q.cons)<|AM AW q.cons,.fn 82 1<|L1 [.ref 0 0]] (zPg g) [oC<|AJ q] ⟨Am.plain Z5,Am.fnL (l:=[.ref 0 0]) (l0:=[.fp 5<|L1<|AJ q]) ⟨Am.refL (l:=AJ q) (l0:=AJ q) rfl ⟨Am.plain Z5,Am.plain Z5,Am.plain Z5,Am.plain Z5,Am.plain Z5,trivial⟩,trivial⟩,trivial⟩)<|bi 56 (lE AC [2] [])<|lE AC [2] []
def lQ(n:E)(q:AA)(i:U):W7:=(valid n q).bind λe=>B (e != 0) (Z (0,e))<|B (C<|i<0) (Z (0,260))<|B (C<|i>=(F q.cons:U)) (Z (0,260))<|u ((0<=i/\i<(F q.cons:U))/\((0:U)<=(H q.cons i.toNat ξ).kind/\(H q.cons i.toNat ξ).kind<((10:E):U))) (Z (H ([0,1,1,2,2,3,1,1,4,4]:Ξ) ((H q.cons i.toNat ξ).kind).toNat 0,0)) A
def Wn(n:E)(q:AA)(i:U):W7:=lQ n q i
variable{i:U}
def zJb{r:Δ}(h:Wn n q i=Z r):EQ 132 [.agg 5<|L1<|AJ q,.i i] [] (.tup 2<|L1 [.i r.1,.i r.2]) [] D:=by
 unfold Wn lQ at h;refine ot Tryz.func132 λϜ N=>?_
 revert r;apply gO;exact cf ZG [oC<|AJ q] λ_=>bi 10 (lE AC [4,5] [])<|bi 13 (lE AC [4,5] [])<|bi 19 (lE AC [4,5] [])<|gc<|gi<|gn λs=>jg s<|jo 28 (AO.ixI [0,1,1,2,2,3,1,1,4,4] rfl s)<|lE AC [4,5] []
inductive ah where
 |l1 (x7:U)
def Vv(n:E)(self:ah->X9)(g:AD)(cells p:U)(J:U):X9:=B (C<|J<(F g.ce:U)) (B (g.kind==8) (u (0<=J/\J<(F g.ce:U)) (B (H g.ce J.toNat 0 != J) (Z T)<|u (AG<|J+1) (self<|.l1<|J+1) A) A)<|B (g.kind==9) (u (0<=J/\J<(F g.ce:U)) (B (H g.ce J.toNat 0 != J) (Z T)<|u (AG<|J+1) (self<|.l1<|J+1) A) A)<|u (AG<|J+1) (self<|.l1<|J+1) A)<|u ((0<=p/\p<=(IntKind.i64.bits:U))/\AG ((IntKind.i64.wrap<|1*2^(p).toNat)-1)) ((O8 n ([g.set,g.other]:Ξ) 0<|(IntKind.i64.wrap<|1*2^(p).toNat)-1).bind λe=>B e ((O8 n ([g.lo,g.hi]:Ξ) 0 65536).bind λr=>B r (B (C<|(F g.ru:U)<=8) ((O8 n g.ru 1 256).bind λy3=>Z y3)<|Z T)<|Z T)<|Z T) A
def tI(n:E)(self:ah->X9)(g:AD)(cells Bt:U):X9:=B (C<|g.kind<1) (Z T)<|B (C<|g.kind>9) (Z T)<|B (C<|(F g.ce:U)>cells) (Z T)<|u (AG<|cells-1) ((O8 n g.ce 0<|cells-1).bind λe=>B (!e) (Z T)<|(fZ n g.ce).bind λr=>B (!r) (Z T)<|B (g.kind==6) (B ((F g.ce:U) != 2) (Z T)<|B (g.kind==8) (B ((F g.ce:U) != cells) (Z T)<|self<|.l1 0)<|B (g.kind==9) (B ((F g.ce:U) != cells) (Z T)<|self<|.l1 0)<|self<|.l1 0)<|B (g.kind==7) (B ((F g.ce:U) != 2) (Z T)<|B (g.kind==8) (B ((F g.ce:U) != cells) (Z T)<|self<|.l1 0)<|B (g.kind==9) (B ((F g.ce:U) != cells) (Z T)<|self<|.l1 0)<|self<|.l1 0)<|B (g.kind==8) (B ((F g.ce:U) != cells) (Z T)<|self<|.l1 0)<|B (g.kind==9) (B ((F g.ce:U) != cells) (Z T)<|self<|.l1 0)<|self<|.l1 0) A
def Pv(g:AD)(cells p:U):E->ah->X9
 |0,_=>A
 |n+1,.l1 J=>Vv n (Pv g cells p n) g cells p J
def ak(n:E)(g:AD)(cells p:U):X9:=tI n (Pv g cells p n) g cells p
def zF3(n Ϝ:E)(N:Yd 0)(g:AD)(cells p:U)(r:ζ):ah->Prop:=px n Ϝ η N (FQ Tryz.f67 0 (.bool r) []) (Af Tryz.f67) λ
 | .l1 J=>(0,0,AI 120 [(2,.i p),(3,.ref 0 0),(7,.i J)],[oC<|AW g])
def zF4(Ϝ:E)(N:Yd 0)(g:AD)(cells p:U):Al (Pv g cells p) (zF3 · Ϝ N g cells p):=ia (λ_=>rfl) λn G s r h=>by
 cases s
 case l1 x7=>
  intro o j;refine rd j λo j=>?_
  revert r;apply gO;exact bi 71 (bi 76 (gi (bi 89 (lE AC [6] []) (gw 73 (lG AC [0] (G _ _ · o j))))) (bi 80 (gi (bi 89 (lE AC [6] []) (gw 73 (lG AC [0] (G _ _ · o j))))) (gw 73 (lG AC [0] (G _ _ · o j)))))<|gc<|gi<|gw 93<|cn λy1 f=>jc (sb [.msl 1 1 0 2,.i 0,.i<|(IntKind.i64.wrap<|1*2^(p).toNat)-1] (Yc f) [oC<|AW g,oI ([g.set,g.other]:Ξ)] ⟨Am.ints rfl (φ 2),Am.plain Z5,Am.plain Z5,trivial⟩)<|bi 100 (cn λy2 K=>jc (sb [.msl 2 1 0 2,.i 0,.i 65536] (Yc K) [oC<|AW g,oI ([g.set,g.other]:Ξ),oI ([g.lo,g.hi]:Ξ)] ⟨Am.ints rfl (φ 2),Am.plain Z5,Am.plain Z5,trivial⟩)<|bi 107 (bi 113 (cf Yc [oC<|AW g,oI ([g.set,g.other]:Ξ),oI ([g.lo,g.hi]:Ξ)] λ_=>lE AC [6] [])<|lE AC [6] [])<|lE AC [6] [])<|lE AC [6] []
def zFz{cells p:U}(h:ak n g cells p=Z r):EQ 67 [.agg 9<|L1<|AW g,.i cells,.i p] [] (.bool r) [] D:=by
 have G:=λϜ N=>zF4 Ϝ N g cells p n
 refine ot Tryz.func67 λϜ N=>?_
 revert r;apply gO;exact bi 11 (lE AC [6] []) (bi 15 (lE AC [6] []) (bi 22 (lE AC [6] []) (gw 28 (cf Yc [oC<|AW g] λ_=>bi 30 (lE AC [6] []) (cf zOt [oC<|AW g] λ_=>bi 36 (lE AC [6] []) (bi 40 (bi 50 (lE AC [6] []) (bi 54 (bi 65 (lE AC [6] []) (lN AC [0] ((G Ϝ N) _ _ · n χ))) (bi 58 (bi 65 (lE AC [6] []) (lN AC [0] ((G Ϝ N) _ _ · n χ))) (lN AC [0] ((G Ϝ N) _ _ · n χ))))) (bi 44 (bi 50 (lE AC [6] []) (bi 54 (bi 65 (lE AC [6] []) (lN AC [0] ((G Ϝ N) _ _ · n χ))) (bi 58 (bi 65 (lE AC [6] []) (lN AC [0] ((G Ϝ N) _ _ · n χ))) (lN AC [0] ((G Ϝ N) _ _ · n χ))))) (bi 54 (bi 65 (lE AC [6] []) (lN AC [0] ((G Ϝ N) _ _ · n χ))) (bi 58 (bi 65 (lE AC [6] []) (lN AC [0] ((G Ϝ N) _ _ · n χ))) (lN AC [0] ((G Ϝ N) _ _ · n χ)))))))))))
def zDS:Ac (Ah Tryz.f48 8) [([0,1,2,3,4,5,6,7,8],9)] [10] []:=Z0
def IW:BG:=λi=>match i with
 |8=>.ord [([0,1,2,3,4,5,6,7,8],9)] [10] []
 |_=>.no
inductive aJ where
 |l1 (x3:U)
def aH(n:E)(self:aJ->W5)(q:AA)(S:U):W5:=B (C<|S<(F q.cons:U)) (u (0<=S/\S<(F q.cons:U)) ((ak n (H q.cons S.toNat ξ) q.ce q.sy).bind λe=>B (!e) (Z 191)<|u (AG<|S+1) (self<|.l1<|S+1) A) A)<|Z 0
def sR(n:E)(self:aJ->W5)(q:AA):W5:=B (C<|q.ce<1) (Z 191)<|B (C<|q.ce>256) (Z 191)<|B (C<|q.sy<1) (Z 191)<|B (C<|q.sy>16) (Z 191)<|B ((F q.va:U) != q.sy) (Z 191)<|(O8 n q.va 0 99).bind λe=>B (!e) (Z 191)<|B ((F q.nb:U) != q.ce) (Z 191)<|(Kp n q.nb).bind λr=>B (r != 0) (Z 191)<|B (C<|(F q.cons:U)>4096) (Z 191)<|self<|.l1 0
def Na(q:AA):E->aJ->W5
 |0,_=>A
 |n+1,.l1 S=>aH n (Na q n) q S
def Nb(n:E)(q:AA):W5:=sR n (Na q n) q
def zEp(n Ϝ:E)(N:Yd 0)(q:AA)(r:U):aJ->Prop:=px n Ϝ η N (FQ Tryz.f48 0 (.i r) []) (Af Tryz.f48) λ
 | .l1 S=>(0,0,AI 72 [(1,.ref 0 0),(3,.i S)],[oC<|AJ q])
def zEq(Ϝ:E)(N:Yd 0)(q:AA):Al (Na q) (zEp · Ϝ N q):=ia (λ_=>rfl) λn G s r h=>by
 cases s
 case l1 x3=>
  intro o j;refine rd j λo j=>?_
  revert r;apply gO;exact bi 58 (jg zDS (gi (cf zFz [oC<|AJ q] λ_=>bi 71 (lE IW [2] []) (gw 60 (lG IW [0] (G _ _ · o j))))))<|lE IW [2] []
def aG{r:U}(h:Nb n q=Z r):EQ 48 [.agg 5<|L1<|AJ q] [] (.i r) [] D:=by
 refine ot Tryz.func48 λϜ N=>?_
 revert r;apply gO;exact bi 6 (lE IW [2] []) (bi 10 (lE IW [2] []) (bi 15 (lE IW [2] []) (bi 20 (lE IW [2] []) (bi 28 (lE IW [2] []) (cf Yc [oC<|AJ q] λ_=>bi 34 (lE IW [2] []) (bi 41 (lE IW [2] []) (cf Vz [oC<|AJ q] λ_=>bi 46 (lE IW [2] []) (bi 52 (lE IW [2] []) (lN IW [0] ((zEq Ϝ N q n) _ _ · n χ))))))))))
def je(n:E)(q:AA)(i:U):W7:=(Nb n q).bind λe=>B (e != 0) (Z (0,e))<|B (C<|i<0) (Z (0,260))<|B (C<|i>=(F q.cons:U)) (Z (0,260))<|u (0<=i/\i<(F q.cons:U)) (B ((H q.cons i.toNat ξ).kind==4) (Z (2,0))<|B ((H q.cons i.toNat ξ).kind==3) (Z (2,0))<|B ((H q.cons i.toNat ξ).kind==5) (Z (3,0))<|B ((H q.cons i.toNat ξ).kind==8) (Z (4,0))<|B ((H q.cons i.toNat ξ).kind==9) (Z (4,0))<|Z (1,0)) A
def Vj(n:E)(q:AA)(i:U):W7:=je n q i
def zFS{r:Δ}(h:Vj n q i=Z r):EQ 98 [.agg 5<|L1<|AJ q,.i i] [] (.tup 2<|L1 [.i r.1,.i r.2]) [] D:=by
 unfold Vj je at h;refine ot Tryz.func98 λϜ N=>?_
 revert r;apply gO;exact cf aG [oC<|AJ q] λ_=>bi 10 (lE AC [4,5] [])<|bi 13 (lE AC [4,5] [])<|bi 19 (lE AC [4,5] [])<|gi<|bi 28 (lE AC [4,5] [])<|bi 29 (lE AC [4,5] [])<|bi 31 (lE AC [4,5] [])<|bi 33 (lE AC [4,5] [])<|bi 34 (lE AC [4,5] [])<|lE AC [4,5] []
end
abbrev u8:=@Int.toNat_natCast
abbrev zAB:=@decide_eq_true
abbrev zAD:=@cond_false
abbrev zAE:=@decide_eq_false
abbrev zAG:=@cond_true
abbrev zBE:=@beq_eq_false_iff_ne
abbrev zLQ:=@Int.natCast_nonneg
abbrev zLX:=@Bool.eq_iff_iff
abbrev zM4:=@Bool.true_and
abbrev zM8:=@bne_iff_ne
abbrev zM9:=@decide_eq_false_iff_not
abbrev zNA:=@Int.eq_ofNat_of_zero_le
abbrev zNG:=@bne_self_eq_false
abbrev zNY:=@decide_true
abbrev zNh:=@List.pairwise_iff_getElem
abbrev zNl:=@List.exists_of_findSome?_eq_some
abbrev zRV:=@and_self
abbrev zRW:=@List.findSome?_eq_none_iff
abbrev zRh:=@List.mem_take_iff_getElem
abbrev zR4:=@List.contains_iff_mem
abbrev zSB:=@List.range'_succ
end Go.Proofs.YtnkpdcmbppkkpaaGreatDoor
namespace Go.Proofs.YtnkpdcmbppkkpaaGreatDoor
def LL(lo hi:U)(n:U):ζ:=C (lo<=n)&&C (n<=hi)
def Dt(xs:Ξ)(lo hi:U):ζ:=xs.all<|LL lo hi
def G6(g:O Ξ)(i:E)(l:Ξ)(k:E):ζ:=
 let n:=H l k 0
 decide (0<=n)&&C (n<F g)&&(n != i)&&(!C (0<k)||C (H l (k-1) 0<n))&&(H g n.toNat []).contains (i:U)
def IZ(g:O Ξ)(i:E)(l:Ξ):ζ:=(θ<|F l).all<|G6 g i l
def KD(g:O Ξ):ζ:=C (F g<=256)&&(θ<|F g).all λi=>IZ g i<|H g i []
def RN(n kind:U)(cells:Ξ)(i:E):ζ:=
 let x:=H cells i 0
 decide (0<=x)&&C (x<n)&&!(cells.take i).contains x&&(!C (8<=kind)||x==(i:U))
def gR(n kind:U)(cells:Ξ):ζ:=(θ<|F cells).all<|RN n kind cells
def Ii(n kind:U)(len:E):ζ:=(C (1<=kind)&&C (kind<=5))||((kind==6||kind==7)&&len==2)||((kind==8||kind==9)&&(len:U)==n)
def Er(q:AA)(c:AD):ζ:=gR q.ce c.kind c.ce&&Ii q.ce c.kind (F c.ce)&& Dt [c.set,c.other] 0 (2^q.sy.toNat-1)&&Dt [c.lo,c.hi] 0 65536&&C (F c.ru<=8)&&Dt c.ru 1 256
def TR(l:Ξ):ζ:=(θ<|F l).all λi=>!(l.take i).contains (H l i 0)
def aj(c:AD)(n sy:U):ζ:=(C (1<=c.kind)&&C (c.kind<=9))&&C ((F c.ce:U)<=n)&&Dt c.ce 0 (n-1)&&TR c.ce&& (!(c.kind==6||c.kind==7)||F c.ce==2)&&(!(c.kind==8||c.kind==9)||((F c.ce:U)==n))&& (!(c.kind==8||c.kind==9)||(θ<|F c.ce).all λi=>H c.ce i 0==(i:U))&& Dt [c.set,c.other] 0 (2^sy.toNat-1)&&Dt [c.lo,c.hi] 0 65536&&C (F c.ru<=8)&&Dt c.ru 1 256
theorem cV:∀(n:E) (l:Ξ),l.Nodup->(∀x∈l,0<=x/\x<(n:U))->F l<=n
 |0,l,_,h=>by
  cases l with
  |nil=>simp
  |cons a l=>have:=h a Z3;omega
 |n+1,l,z,h=>by
  have h1:F (l.erase (n:U))<=n:=cV n _ (z.erase _) (λx hx=>by
   grind)
  grind
variable{l:Ξ}
theorem vV :TR l=D↔l.Nodup:=by
 unfold TR List.Nodup;rw[zFy,zNh];constructor
 ·intro h i j hi a XQ e;have:=h j (by simpa using a);simp only[zBD,zKA a,zOZ,zKr]at this;rw[zNk,ne_eq,zR4,zRh]at this;exact this ⟨i,Z2,e⟩
 ·intro h i hi;have S:i<F l:=by simpa using hi
  simp only[zBD,zKA S,zOZ,zKr];rw[zNk,ne_eq,zR4,zRh]
  grind
theorem Ru{lo hi:U}:Dt l lo hi=D↔∀x∈l,lo<=x/\x<=hi:=by
 unfold Dt;simp[LL]
variable{n kind:U}
theorem zy{cells:Ξ}:gR n kind cells=D↔(∀x∈cells,0<=x/\x<n)/\cells.Nodup/\(8<=kind->∀j,j<F cells->H cells j 0=(j:U)):=by
 rw[←vV];unfold gR TR RN;simp only[zFy,zJ9,zAx,zK9,zKu,zKr,zKq,zM9];constructor
 ·intro h;refine⟨λx i=>?_,λj l=>(h j l).1.2,λh8 j l=>?_⟩
  ·obtain⟨j,l,rfl⟩:=zLD i
   grind
  grind
 grind
theorem zF2(q:AA)(c:AD)(h1:1<=q.ce):aj c q.ce q.sy=Er q c:=by
 rw[zLX];unfold aj Er;simp only[zAx,zy,vV,Ru (l:=c.ce),zKu,zKr,Bool.or_eq_false_iff,zKq,zBE,zK9,zFy,zJ9,Ii];constructor
 ·grind
 ·rintro⟨⟨⟨⟨⟨⟨a,f,k3⟩,k4⟩,k9⟩,k10⟩,k11⟩,k12⟩
  have Ap:(F c.ce:U)<=q.ce:=by
   have:=cV q.ce.toNat c.ce f (λx i=>by have:=a x i;omega);omega
  grind
def CN(q:AA):ζ:=C (1<=q.ce)&&C (q.ce<=256)&&C (1<=q.sy)&&C (q.sy<=16)&&((F q.va:U)==q.sy)&&Dt q.va 0 99&& ((F q.nb:U)==q.ce)&&KD q.nb&&C (F q.cons<=4096)&&q.cons.all (Er q)
def lL(kind:U):U:=u (kind=3∨kind=4) 2<|u (kind=5) 3<|u (kind=8∨kind=9) 4 1
def JE(q:AA)(i:U):Δ:=u (CN q=T) (0,191)<|u (0<=i/\i<F q.cons) (lL<|(H q.cons i.toNat ξ).kind,0) (0,260)
variable{q:AA}
theorem ER(h:CN q=D):(1<=q.ce/\q.ce<=256)/\(1<=q.sy/\q.sy<=16)/\((F q.va:U)=q.sy/\Dt q.va 0 99=D)/\
 ((F q.nb:U)=q.ce/\KD q.nb=D)/\F q.cons<=4096/\∀c∈q.cons,Er q c=D:=by
 simp_all[CN]
theorem wT{c:AD}(h:Er q c=D):Ii q.ce c.kind (F c.ce)=D:=by
 simp_all[Er]
theorem QS{len:E}(h:Ii n kind len=D):1<=kind/\kind<=9:=by
 grind[Ii]
theorem OP{k:U}(h:1<=k/\k<=9):k=1∨k=2∨k=3∨k=4∨k=5∨k=6∨k=7∨k=8∨k=9:=Z2
end Go.Proofs.YtnkpdcmbppkkpaaGreatDoor
namespace Go.Proofs.YtnkpdcmbppkkpaaGreatDoor
open Go.RowKit
section
variable{R:Type}
theorem rt(m:E->U->M R)(len a:E)(Ϝ:E->M R)(h0:∀(n i:E),a<=n->i<len->m (n+1) (i:U)=(Ϝ i).or (m n<|(i:U)+1)):
 ∀(k i n:E),i+k=len->a<=n->m (n+k) (i:U)=((List.range' i k).findSome? Ϝ).or (m n (len:U))
 |0,i,n,h,b=>by
  grind
 |k+1,i,n,h,b=>by
  show m (n+k+1) (i:U)=_
  rw[h0 (n+k) i Z2 Z2,zSB,List.findSome?_cons];cases Ϝ i with
  |some r=>rfl
  |none=>
   have:=rt m len a Ϝ h0 k (i+1) n Z2 b;rw[←this];simp
variable{n:E}
theorem Jo(m:E->U->M R)(len k:E)(Ϝ:E->M R)(h0:∀(n i:E),k<=n->i<len->m (n+1) (i:U)=(Ϝ i).or (m n<|(i:U)+1))(hn:k+len<=n):
 m n 0=((θ len).findSome? Ϝ).or (m (n-len) (len:U)):=by
 have:=rt m len k Ϝ h0 len 0 (n-len) Z2 Z2
 grind[List.range_eq_range']
theorem Oq{l:Θ}{p:E->ζ}{r:R}:(l.findSome? λi=>u (p i) A<|Z r)=u (l.all p) A (Z r):=by
 induction l with
 |nil=>rfl
 |cons a l ih=>
  grind
theorem V0{α:Type}{l:O α}{Ϛ:α}{p:α->ζ}:((θ<|F l).all λi=>p<|l.getD i Ϛ)=l.all p:=by
 rw[zLX,zFy,zFy];constructor
 ·intro h x a;obtain⟨i,hi,rfl⟩:=zLD a
  simp_all
 grind
theorem r64{i len:E}(h:i<len)(hl:len<=LB):AG<|(i:U)+1:=by grind[AZ,LB]
variable{lo up:U}{l:Ξ}
theorem Ye(q:F l<=LB)(hn:F l<n):O8 n l lo up=Z (Dt l lo up):=by
 unfold O8 zAK;have S:=Jo (λn i=>Uf l lo up n<|.l1 i) (F l) 0 (λi=>u (LL lo up<|H l i 0) A<|Z T) (λn i _ hi=>?_) (n:=n) Z2
 ·refine S.trans ?_;rw[Oq,V0 (p:=LL lo up)];unfold Dt;cases l.all (LL lo up)with
  |false=>rfl
  |true=>
   obtain⟨m,hm⟩:∃m,n-F l=m+1:=⟨n-F l-1,Z2⟩
   grind[Uf,oe]
 ·have a:(i:U)<(F l:U):=Z2
  have c:=r64 hi q;simp only[Uf,oe,a,c,zNY,zAG,zLQ,zRV,zMt,u8,LL]
  grind
theorem zKf(a:F l<=LB)(hn:F l<n):∃r:U,de n l lo up=Z r/\(0<=r↔Dt l lo up=T):=by
 unfold de wn;have S:=Jo (λn i=>QX l lo up n<|.l1 i) (F l) 0 (λi=>u (LL lo up<|H l i 0) A<|Z (i:U)) (λn i _ hi=>?_) (n:=n) Z2
 ·have S:=S;rw[show QX l lo up n (.l1 0)=_ from S];cases q:(θ<|F l).findSome? (λi=>u (LL lo up<|H l i 0) A<|Z (i:U))with
  |some r=>
   refine⟨r,rfl,?_⟩;obtain⟨i,hi,hr⟩:=zNl q
   grind[Dt]
  |none=>
   obtain⟨m,P⟩:∃m,n-F l=m+1:=⟨n-F l-1,Z2⟩;refine⟨-1,by rw[P];simp[QX,ll],?_⟩;rw[zRW]at q
   have:Dt l lo up=D:=by
    unfold Dt;rw[←V0 (p:=LL lo up) (Ϛ:=(0:U)),zFy]
    grind
   simp[this]
 ·have b:(i:U)<(F l:U):=Z2
  have c:=r64 hi a;simp only[QX,ll,iU,pm,b,c,zNY,zAG,zLQ,zRV,zMt,u8,LL]
  grind
theorem bg(q:F l<=LB)(a:F l<n):Nz n l lo up=Z (Dt l lo up):=by
 obtain⟨r,h1,h2⟩:=zKf (lo:=lo) (up:=up) q a
 grind[Nz,kN,f7,oH]
variable{x:U}
theorem xx(q:F l<=LB)(hn:F l<n):has n l x=Z (l.contains x):=by
 unfold has xw;have S:=Jo (λn i=>T9 l x n<|.l1 i) (F l) 0 (λi=>u (H l i 0 != x) A<|Z D) (λn i _ hi=>?_) (n:=n) Z2
 ·refine S.trans ?_;rw[Oq,V0 (p:=λy=>y != x)]
  have e:l.all (λy=>y != x)= !l.contains x:=by
   grind
  rw[e];cases l.contains x with
  |true=>rfl
  |false=>
   obtain⟨m,P⟩:∃m,n-F l=m+1:=⟨n-F l-1,Z2⟩;rw[P];simp[T9,nE]
 ·have a:(i:U)<(F l:U):=Z2
  have c:=r64 hi q;simp only[T9,nE,a,c,zNY,zAG,zLQ,zRV,zMt,u8]
  grind
theorem zPj(b:F l<=LB)(hn:F l<n):O3 n l x=Z (l.contains x):=by
 have:∃r:U,dg n l x=Z r/\(0<=r↔l.contains x=D):=by
  unfold dg wo;have S:=Jo (λn i=>QZ l x n<|.l1 i) (F l) 0 (λi=>u (x != H l i 0) A<|Z (i:U)) (λn i _ hi=>?_) (n:=n) Z2
  ·rw[show QZ l x n (.l1 0)=_ from S];cases q:(θ<|F l).findSome? (λi=>u (x != H l i 0) A<|Z (i:U))with
   |some r=>
    refine⟨r,rfl,?_⟩;obtain⟨i,hi,hr⟩:=zNl q
    grind
   |none=>
    obtain⟨m,P⟩:∃m,n-F l=m+1:=⟨n-F l-1,Z2⟩;refine⟨-1,by rw[P];simp[QZ,lm],?_⟩;rw[zRW]at q
    have:l.contains x=T:=by
     rw[zNk]
     grind[List.getElem_of_mem]
    rw[this];simp
  ·have a:(i:U)<(F l:U):=Z2
   have c:=r64 hi b;simp only[QZ,lm,a,c,zNY,zAG,zLQ,zRV,zMt,u8]
   grind
 obtain⟨r,a,c⟩:=this
 simp_all[O3,oJ]
end
section
def FX(g:O Ξ):E:=(g.map λr=>F r+2).sum
def iT:∀{g:O Ξ} {r:Ξ},r∈g->F r+2<=FX g
 |[],_,h=>by cases h
 |a::g,r,h=>by
  simp only[FX,zNe,List.sum_cons];rcases zLa.1 h with rfl|h
  ·omega
  ·have:=iT h;unfold FX at this;omega
variable{v:E}{g:O Ξ}
theorem pk(hv:v<F g):FX (g.drop v)=F (H g v [])+2+FX (g.drop<|v+1):=by
 grind[List.drop_eq_getElem_cons,FX]
theorem eZ(hv:v<F g):H g v []∈g:=by
 grind
section
variable{g:O Ξ}{v j n:E}
theorem vZ{R:Type}(next s:R)(c:ζ->R)(hc:c D=next)(T8:c T=s)(hv:v<F g)(hj:j<F (H g v [])):
 (u (G6 g v (H g v []) j) (next) s)=
  (if H (H g v []) j 0<0 then s else if H (H g v []) j 0>=(F g:U)then s else if H (H g v []) j 0=(v:U)then s else
   if 0<j then u (H (H g v []) (j-1) 0>=H (H g v []) j 0) s<|c<|(H g (H (H g v []) j 0).toNat []).contains (v:U)
   else c<|(H g (H (H g v []) j 0).toNat []).contains (v:U)):=by
 unfold G6
 grind
variable{len:E}
theorem uZ{j:E}(h:j<len)(hl:len<=LB):AG<|(j:U)-1:=by grind[AZ,LB]
def uj{j:E}(h:0<j)(h2:j<len):((0:U)<=(j:U)-1/\(j:U)-1<(len:U))/\((j:U)-1).toNat=j-1/\(j:U)>0:=Z2
theorem zGU{self:Sq->W5}(t:v<F g)(hg:F g<=256)(l:j<F (H g v []))(k:∀r∈g,F r<=LB)(h:∀r∈g,F r<n):
 au n self g (v:U) (j:U)=(u (G6 g v (H g v []) j) A<|Z (120:U)).or (self<|.l2 (v:U)<|(j:U)+1):=by
 have c:=k _<|eZ t;have i:(v:U)<(F g:U):=Z2
 have m:(j:U)<(F<|H g v []:U):=Z2
 have o:=r64 l c;have key:=vZ (g:=g) (v:=v) (j:=j) (self<|.l2 (v:U)<|(j:U)+1) (Z (120:U)) (λb=>B b (self<|.l2 (v:U)<|(j:U)+1)<|Z 120) rfl rfl t l
 have R:((u (G6 g v (H g v []) j) A<|Z (120:U)).or<|self<|.l2 (v:U)<|(j:U)+1)=(u (G6 g v (H g v []) j) (self<|.l2 (v:U)<|(j:U)+1)<|Z 120):=by
  grind
 rw[R,key];simp only[au,i,m,o,zNY,zAG,zLQ,zRV,zMt,u8];obtain⟨x,p⟩:∃x,H (H g v []) j 0=x:=⟨_,rfl⟩;simp only[p]
 by_cases a:x<0
 ·simp[a]
 by_cases b:x>=(F g:U)
 ·simp[a,b]
 by_cases Ϛ:x=(v:U)
 ·simp[a,b,Ϛ]
 have d':(x==(v:U))=T:=by simp[Ϛ]
 have f:H g x.toNat []∈g:=eZ Z2;have hh:has n (H g x.toNat []) (v:U)=Z ((H g x.toNat []).contains (v:U)):=xx (k _ f)<|h _ f;have J5:0<=x/\x<(F g:U):=Z2
 have fin:((has n (H g x.toNat []) (v:U)).bind λq=>B (!q) (Z (120:U))<|self<|.l2 (v:U)<|(j:U)+1)=(B ((H g x.toNat []).contains (v:U)) (self<|.l2 (v:U)<|(j:U)+1)<|Z 120):=by
  grind
 by_cases e:0<j
 ·have h4:AG ((j:U)-1)/\((0:U)<=(j:U)-1/\(j:U)-1<(F<|H g v []:U)):=⟨uZ l c,(uj e l).1⟩
  simp_all[zJz]
 grind
theorem zNy{self:UC->W5}{row:Ξ}(p:row=H g v [])(t:v<F g)(hg:F g<=256)(l:j<F (H g v []))(k:∀r∈g,F r<=LB)(h:∀r∈g,F r<n):
 e9 n self g (v:U) row (v:U) row (F row:U) (j:U)=(u (G6 g v (H g v []) j) A<|Z (120:U)).or (self<|.l2 (v:U) row (v:U) row (F row:U)<|(j:U)+1):=by
 subst p;have c:=k _<|eZ t;have m:(v:U)<(F g:U):=Z2
 have o:(j:U)<(F<|H g v []:U):=Z2
 have s:=r64 l c;obtain⟨i,q⟩:∃i,self (.l2 (v:U) (H g v []) (v:U) (H g v []) (F<|H g v []:U)<|(j:U)+1)=i:=⟨_,rfl⟩;have key:=vZ (g:=g) (v:=v) (j:=j) i (Z (120:U)) (λb=>B b i<|Z 120) rfl rfl t l
 have R:(u (G6 g v (H g v []) j) A<|Z (120:U)).or i=(u (G6 g v (H g v []) j) i<|Z 120):=by
  grind
 rw[q,R,key];simp only[e9,m,o,s,zNY,zAG,zLQ,zRV,zMt,u8,q];obtain⟨x,w⟩:∃x,H (H g v []) j 0=x:=⟨_,rfl⟩;simp only[w]
 by_cases a:x<0
 ·simp[a]
 by_cases b:x>=(F g:U)
 ·simp[a,b]
 by_cases Ϛ:x=(v:U)
 ·simp[a,b,Ϛ]
 have d':(x==(v:U))=T:=by simp[Ϛ]
 have f:H g x.toNat []∈g:=eZ Z2;have hh:O3 n (H g x.toNat []) (v:U)=Z ((H g x.toNat []).contains (v:U)):=zPj (k _ f)<|h _ f;have J5:0<=x/\x<(F g:U):=Z2
 have fin:((O3 n (H g x.toNat []) (v:U)).bind λy=>B (!y) (Z (120:U)) i)=(B ((H g x.toNat []).contains (v:U)) i<|Z 120):=by
  grind
 by_cases e:0<j
 ·have h4:AG ((j:U)-1)/\((0:U)<=(j:U)-1/\(j:U)-1<(F<|H g v []:U)):=⟨uZ l c,(uj e l).1⟩
  simp_all[zJz]
 grind
end
theorem sf{g:O Ξ}{v:E}(hv:v<F g):((List.range' v<|F g-v).all λi=>IZ g i<|H g i [])=(IZ g v (H g v [])&&(List.range' (v+1)<|F g-(v+1)).all λi=>IZ g i<|H g i []):=by
 grind
theorem tP{g:O Ξ}(o:F g<=256)(c:∀r∈g,F r<=LB):∀(k v n:E),v+k=F g->FX (g.drop v)+FX g+1<=n->Jt g n (.l1 (v:U))=Z (C5 ((List.range' v<|F g-v).all λi=>IZ g i<|H g i []) 120)
 |0,v,n,t,e=>by
  have:v=F g:=Z2
  subst this;obtain⟨m,rfl⟩:∃m,n=m+1:=⟨n-1,Z2⟩;simp[Jt,ju,C5]
 |k+1,v,n,t,e=>by
  have a:v<F g:=Z2
  rw[pk a]at e;obtain⟨m,rfl⟩:∃m,n=m+1:=⟨n-1,Z2⟩;have f:(v:U)<(F g:U):=Z2
  have R:Jt g (m+1) (.l1 (v:U))=Jt g m (.l2 (v:U) 0):=by simp[Jt,ju,f]
  rw[R];have S:=Jo (λn i=>Jt g n<|.l2 (v:U) i) (F<|H g v []) (FX g) (λj=>u (G6 g v (H g v []) j) A<|Z 120) (λP j G9 l=>zGU (n:=P) a o l c λr W=>by have:=iT W;omega) (n:=m) Z2;refine S.trans ?_;rw[Oq,sf a];have h:((θ<|F<|H g v []).all λi=>G6 g v (H g v []) i)=IZ g v (H g v []):=rfl;rw[h];cases IZ g v (H g v [])with
  |false=>rfl
  |true=>
   obtain⟨b,EE⟩:∃b,m-F (H g v [])=b+1:=⟨m-F (H g v [])-1,Z2⟩;have h2:AG<|(v:U)+1:=by rw[AZ];omega
   have ih:=tP o c k (v+1) b Z2 Z2
   simp_all[Jt,au]
theorem yc{g:O Ξ}(o:F g<=256)(c:∀r∈g,F r<=LB):∀(k v n:E),v+k=F g->FX (g.drop v)+FX g+1<=n->KE g n (.l1 (v:U))=Z (C5 ((List.range' v<|F g-v).all λi=>IZ g i<|H g i []) 120)
 |0,v,n,t,e=>by
  have:v=F g:=Z2
  subst this;obtain⟨m,rfl⟩:∃m,n=m+1:=⟨n-1,Z2⟩;simp[KE,nf,C5]
 |k+1,v,n,t,e=>by
  have a:v<F g:=Z2
  rw[pk a]at e;obtain⟨m,rfl⟩:∃m,n=m+1:=⟨n-1,Z2⟩;have h1:(v:U)<(F g:U):=Z2
  have R:KE g (m+1) (.l1 (v:U))=KE g m (.l2 (v:U) (H g v []) (v:U) (H g v []) (F<|H g v []:U) 0):=by
   simp_all[KE,nf]
  rw[R];have S:=Jo (λn i=>KE g n<|.l2 (v:U) (H g v []) (v:U) (H g v []) (F<|H g v []:U) i) (F<|H g v []) (FX g) (λj=>u (G6 g v (H g v []) j) A<|Z 120) (λP j G9 l=>zNy (n:=P) rfl a o l c λr W=>by have:=iT W;omega) (n:=m) Z2;refine S.trans ?_;rw[Oq,sf a];have h:((θ<|F<|H g v []).all λi=>G6 g v (H g v []) i)=IZ g v (H g v []):=rfl;rw[h];cases IZ g v (H g v [])with
  |false=>rfl
  |true=>
   obtain⟨b,EE⟩:∃b,m-F (H g v [])=b+1:=⟨m-F (H g v [])-1,Z2⟩;have h2:AG<|(v:U)+1:=by rw[AZ];omega
   have ih:=yc o c k (v+1) b Z2 Z2
   simp_all[KE,e9]
variable{n:E}
theorem tO{g:O Ξ}(k:∀r∈g,F r<=LB)(hn:2*FX g+1<=n):Kp n g=Z (C5 (KD g) 120):=by
 unfold Kp tN KD
 by_cases h:(F g:U)>256
 ·grind[C5]
 ·have h':F g<=256:=Z2
  have:=tP h' k (F g) 0 n Z2 Z7
  grind
theorem ya{g:O Ξ}(k:∀r∈g,F r<=LB)(hn:2*FX g+1<=n):Xo n g=Z (C5 (KD g) 120):=by
 unfold Xo yZ KD
 by_cases h:(F g:U)>256
 ·grind[C5]
 ·have h':F g<=256:=Z2
  have:=yc h' k (F g) 0 n Z2 Z7
  grind
end
section
def bp{s:U}(a:1<=s)(c:s<=16):IntKind.i64.wrap (1*2^s.toNat)=2^s.toNat/\AG ((2:U)^s.toNat-1)/\((0:U)<=s/\s<=((IntKind.i64.bits:E):U)):=by
 obtain⟨m,rfl⟩:=zNA (show 0<=s by omega);have h:m<17:=Z2
 refine⟨?_,?_,Z2,by show(m:U)<=64;omega⟩
 ·clear a c;revert m;decide
 ·clear a c;revert m;decide
variable{n i:E}{l:Ξ}
theorem zO2(q:F l<=LB)(hi:i<F l){self:UO->X9}(j:E)(hj:j<i):fW n self l (i:U) (j:U)=(u (H l i 0 != H l j 0) A<|Z T).or (self<|.l2 (i:U)<|(j:U)+1):=by
 have a:(j:U)<(i:U):=Z2
 have c:(i:U)<(F l:U):=Z2
 have m:(j:U)<(F l:U):=Z2
 have W:=r64 (show j<F l by omega) q;simp only[fW,a,c,m,W,zNY,zAG,zLQ,zRV,zMt,u8]
 grind
theorem zBb(hi:i<=F l){x:U}:((θ i).all λj=>x != H l j 0)= !(l.take i).contains x:=by
 rw[zLX];simp only[zFy,zJ9,zM8,ne_eq,zKr,zNk,zR4,zRh,not_exists]
 grind
theorem zX(q:F l<=LB):∀(k i n:E),i+k=F l->k*(F l+2)+1<=n->KJ l n (.l1 (i:U))=Z ((List.range' i k).all λi=>!(l.take i).contains (H l i 0))
 |0,i,n,hi,a=>by
  have:i=F l:=Z2
  subst this;obtain⟨m,rfl⟩:∃m,n=m+1:=⟨n-1,Z2⟩;simp[KJ,oA]
 |k+1,i,n,hi,a=>by
  have c:i<F l:=Z2
  rw[Nat.succ_mul]at a;obtain⟨m,rfl⟩:∃m,n=m+1:=⟨n-1,Z2⟩;have e:(i:U)<(F l:U):=Z2
  have R:KJ l (m+1) (.l1 (i:U))=KJ l m (.l2 (i:U) 0):=by simp[KJ,oA,e]
  rw[R];have S:=Jo (λn j=>KJ l n<|.l2 (i:U) j) i 0 (λj=>u (H l i 0 != H l j 0) A<|Z T) (λP j _ f=>zO2 (n:=P) q c j f) (n:=m) Z2;refine S.trans ?_;rw[Oq,zBb Z2,zSB,zN0];cases(l.take i).contains (H l i 0)with
  |true=>rfl
  |false=>
   obtain⟨b,Y⟩:∃b,m-i=b+1:=⟨m-i-1,Z2⟩;rw[Y];have ih:=zX q k (i+1) b Z2 Z2
   grind[r64,KJ,fW]
theorem zOu(hl:F l<=LB)(hn:F l*(F l+2)+1<=n):fZ n l=Z (TR l):=by
 unfold fZ zW TR
 grind[List.range_eq_range',zX,LB]
section
variable{c:AD}{n:E}
def Nm(sy:U)(c:AD):ζ:=Dt [c.set,c.other] 0 (2^sy.toNat-1)&&Dt [c.lo,c.hi] 0 65536&&C (F c.ru<=8)&&Dt c.ru 1 256
theorem dK{a b:U}:F ([a,b]:Ξ)<=LB:=by grind[LB]
variable{q:AA}{self:Oo->X9}
theorem zOK(a:1<=q.sy)(b:q.sy<=16)(k:F c.ru<=LB)(e:F c.ru<n)(o:2<n):nt n self q c=Z (Nm q.sy c):=by
 obtain⟨s,x,j⟩:=bp a b;unfold nt;rw[s,zAF ⟨j,x⟩,bg dK<|show 2<n from o,bg dK<|show 2<n from o,bg k e]
 grind[Nm]
variable{o:Ω}
theorem zOM(hq:q.ce<=256)(hc:F c.ce<=LB){i:E}(hi:i<F c.ce)(ho:F o=256)(hm:∀x:E,x<256->H o x T=(c.ce.take i).contains (x:U)):
 Xx n self q c (i:U) o=u (RN q.ce c.kind c.ce i) (self<|.l1 ((i:U)+1)<|o.set (0+(H c.ce i 0).toNat) D) (Z T):=by
 have a:(i:U)<(F c.ce:U):=Z2
 have b:=r64 hi hc;unfold RN;obtain⟨x,e⟩:∃x,H c.ce i 0=x:=⟨_,rfl⟩;simp only[Xx,a,b,zNY,zAG,zLQ,zRV,zMt,u8,e]
 grind
theorem zOL :Xx n self q c (F c.ce:U) o=u (Ii q.ce c.kind<|F c.ce) (self .l2) (Z T):=by
 have b:¬((F c.ce:U)<(F c.ce:U)):=Z2
 simp only[Xx,zAE b,zAD]
 by_cases f:1<=c.kind/\c.kind<=9
 ·obtain⟨k,a⟩:∃k,c.kind=k:=⟨_,rfl⟩;rw[a]at f;simp only[a];have e2:(((F c.ce:E):U) != 2)= !(F c.ce==2):=by rw[zLX];simp;omega
  have e3:(((F c.ce:E):U) != q.ce)= !(((F c.ce:E):U)==q.ce):=rfl
  grind[OP,Ii]
 ·have Mg:Ii q.ce c.kind (F c.ce)=T:=by
   rw[zNk];exact λh=>f<|QS h
  grind
theorem yo(I:q.ce<=256)(hc:F c.ce<=LB)(a:1<=q.sy)(e:q.sy<=16)(f:F c.ru<=LB):∀(k i n:E) (o:Ω),i+k=F c.ce->k+F c.ru+6<=n->F o=256->(∀x:E,x<256->H o x T=(c.ce.take i).contains (x:U))->
 UJ q c n (.l1 (i:U) o)=Z ((List.range' i k).all (RN q.ce c.kind c.ce)&&Ii q.ce c.kind (F c.ce)&&Nm q.sy c)
 |0,i,n,o,hi,g,K,P=>by
  have:i=F c.ce:=Z2
  subst this;obtain⟨m,rfl⟩:∃m,n=m+1:=⟨n-1,Z2⟩;refine(zOL (n:=m)).trans ?_;cases Ii q.ce c.kind (F c.ce)with
  |false=>simp
  |true=>
   obtain⟨b,rfl⟩:∃b,m=b+1:=⟨m-1,Z2⟩
   grind[UJ,zOK]
 |k+1,i,n,o,hi,g,K,P=>by
  obtain⟨m,rfl⟩:∃m,n=m+1:=⟨n-1,Z2⟩;refine(zOM (n:=m) I hc (show i<F c.ce by omega) K P).trans ?_;rw[zSB,zN0];cases eG:RN q.ce c.kind c.ce i with
  |false=>simp
  |true=>
   have hx:0<=H c.ce i 0/\H c.ce i 0<q.ce:=by
    simp_all[RN]
   have ih:=yo I hc a e f k (i+1) m (o.set (0+(H c.ce i 0).toNat) D) Z2 Z2 (by simp[K]) λx hx256=>?_
   ·grind
   ·have B6:i<F c.ce:=Z2
    have ht:c.ce.take (i+1)=c.ce.take i++[H c.ce i 0]:=by
     simp_all
    rw[zBD,zNj]
    grind
theorem zOO(I:q.ce<=256)(hc:F c.ce<=LB)(a:1<=q.sy)(b:q.sy<=16)(k:F c.ru<=LB)(hn:F c.ce+F c.ru+6<=n):fJ n q c=Z (Er q c):=by
 unfold fJ yp;have:=yo I hc a b k (F c.ce) 0 n (d 256 T) Z2 Z2 zK7 λx hx=>Z4
 grind[Er,gR,Nm]
end
end
section
variable{c:AD}{n:E}{cells sy:U}
def Wy(c:AD):ζ:=(θ<|F c.ce).all λi=>H c.ce i 0==(i:U)
theorem zF0(hc:F c.ce<=LB)(k:F c.ru<=LB)(b:1<=sy)(a:sy<=16)(hn:F c.ce+F c.ru+6<=n):Pv c cells sy n (.l1 0)=Z ((!(c.kind==8||c.kind==9)||Wy c)&&Nm sy c):=by
 have S:=Jo (λn i=>Pv c cells sy n<|.l1 i) (F c.ce) 0 (λi=>u (!(c.kind==8||c.kind==9)||H c.ce i 0==(i:U)) A<|Z T) (λn i _ hi=>?_) (n:=n) Z2
 ·refine S.trans ?_;rw[Oq]
  have e:((θ<|F c.ce).all λi=>!(c.kind==8||c.kind==9)||H c.ce i 0==(i:U))=(!(c.kind==8||c.kind==9)||Wy c):=by
   grind[Wy]
  rw[e];cases(!(c.kind==8||c.kind==9)||Wy c)with
  |false=>rfl
  |true=>
   obtain⟨m,P⟩:∃m,n-F c.ce=m+1:=⟨n-F c.ce-1,Z2⟩;rw[P];obtain⟨s,x,j⟩:=bp b a;have f:¬((F c.ce:U)<(F c.ce:U)):=Z2
   show Vv m (Pv c cells sy m) c cells sy (F c.ce:U)=_
   unfold Vv;rw[zAE f,zAD,s,zAF ⟨j,x⟩,Ye dK (show 2<m by omega),Ye dK (show 2<m by omega),Ye k<|show F c.ru<m by omega];unfold Nm
   grind
 ·have a:=r64 hi hc
  show Vv n (Pv c cells sy n) c cells sy (i:U)=_
  simp only[Vv,b,a,zNY,zAG,zLQ,zRV,zMt,u8]
  grind
theorem zF1(hc:F c.ce<=LB)(k:F c.ru<=LB)(h0:1<=cells)(h00:cells<=256)(a:1<=sy)(e:sy<=16)(hn:F c.ce*(F c.ce+2)+F c.ce+F c.ru+7<=n):ak n c cells sy=Z (aj c cells sy):=by
 have loop:=zF0 (cells:=cells) hc k a e (n:=n) Z2;have hR:AG<|cells-1:=by rw[AZ];omega
 unfold ak tI aj;simp only[hR,zMt,Ye hc (show F c.ce<n by omega),zOu hc (show F c.ce*(F c.ce+2)+1<=n by omega),loop,zAC];have hidB:((θ<|F c.ce).all λi=>H c.ce i 0==(i:U))=Wy c:=rfl;have j:∀b:ζ,(b&&Dt [c.set,c.other] 0 (2^sy.toNat-1)&&Dt [c.lo,c.hi] 0 65536&&C (F c.ru<=8)&&Dt c.ru 1 256)=(b&&Nm sy c):=λb=>by grind[Nm]
 rw[hidB,j];have e2:(((F c.ce:E):U) != 2)= !(F c.ce==2):=Z4
 grind
end
def SG(c:AD):E:=F c.ce*(F c.ce+2)+F c.ce+F c.ru+7
theorem qp(c:AD):SG c=F c.ce*(F c.ce+2)+F c.ce+F c.ru+7:=rfl
def CX(q:AA):E:=F q.va+2*FX q.nb+(q.cons.map SG).sum+F q.cons+10
structure DK(q:AA):Prop where
 va:F q.va<=LB
 nb:∀r∈q.nb,F r<=LB
 ce:∀c∈q.cons,F c.ce<=LB
 ru:∀c∈q.cons,F c.ru<=LB
def io:∀{l:O AD} {c:AD},c∈l->SG c<=(l.map SG).sum
 |[],_,h=>by cases h
 |a::l,c,h=>by
  rw[zNe,List.sum_cons];rcases zLa.1 h with rfl|h
  ·omega
  ·have:=io h;omega
section
variable{q:AA}{n:E}
def zD{b:ζ}:(C5 b 120==0)=b:=by cases b <;> rfl
theorem zBN(l:DK q)(h1:1<=q.ce)(c:q.ce<=256)(e:1<=q.sy)(W:q.sy<=16)(h5:F q.cons<=4096)(a:CX q<=n):∃r:U,dZ n q.cons q=Z r/\(0<=r↔q.cons.all (Er q)=T):=by
 unfold dZ wl;have S:=Jo (λn i=>OT q.cons q n<|.l1 i) (F q.cons) (q.cons.map SG).sum (λi=>u (Er q<|H q.cons i ξ) A<|Z (i:U)) (λn i G9 hi=>?_) (n:=n) (by unfold CX at a;omega)
 ·rw[show OT q.cons q n (.l1 0)=_ from S];cases b:(θ<|F q.cons).findSome? (λi=>u (Er q<|H q.cons i ξ) A<|Z (i:U))with
  |some r=>
   refine⟨r,rfl,?_⟩;obtain⟨i,hi,hr⟩:=zNl b
   grind
  |none=>
   obtain⟨m,P⟩:∃m,n-F q.cons=m+1:=⟨n-F q.cons-1,by unfold CX at a;omega⟩;refine⟨-1,by rw[P];simp[OT,dX],?_⟩;rw[zRW]at b
   have:q.cons.all (Er q)=D:=by
    rw[←V0 (p:=Er q) (Ϛ:=(ξ:AD)),zFy]
    grind
   simp[this]
 ·have f:(i:U)<(F q.cons:U):=Z2
  have hR:AG<|(i:U)+1:=by rw[AZ];omega
  have V:H q.cons i ξ∈q.cons:=Z4
  have BT:=io V;have s:=zOO (n:=n) c (l.ce _ V) e W (l.ru _ V) (by grind[qp])
  show dX n (OT q.cons q n) q.cons q (i:U)=_
  generalize OT q.cons q n=self
  simp only[dX,ZK,ib,f,hR,zNY,zAG,zLQ,zRV,zMt,u8,s,zAC]
  grind
theorem ZH(l:DK q)(a:CX q<=n):valid n q=Z (C5 (CN q) 191):=by
 unfold valid pp CN;have b:=bg (lo:=0) (up:=99) l.va (show F q.va<n by unfold CX at a;omega);have c:=ya l.nb (show 2*FX q.nb+1<=n by unfold CX at a;omega)
 by_cases Q:q.ce<1
 ·grind[C5]
 have t:1<=q.ce:=Z2
 by_cases p:q.ce>256
 ·grind[C5]
 have v:q.ce<=256:=Z2
 by_cases J:q.sy<1
 ·grind[C5]
 have w:1<=q.sy:=Z2
 by_cases G:q.sy>16
 ·grind[C5]
 have x:q.sy<=16:=Z2
 simp only[zAE Q,zAE p,zAE J,zAE G,zAB t,zAB v,zAB w,zAB x,zAD,zM4,b,c,zAC,bne,zD];cases((F q.va:E):U)==q.sy with
 |false=>rfl
 |true=>
 cases Dt q.va 0 99 with
 |false=>rfl
 |true=>
 cases((F q.nb:E):U)==q.ce with
 |false=>rfl
 |true=>
 cases KD q.nb with
 |false=>rfl
 |true=>
 by_cases V:((F q.cons:E):U)>4096
 ·grind[C5]
 have o:F q.cons<=4096:=Z2
 obtain⟨r,e,r2⟩:=zBN l t v w x o a;simp only[f5,oF,e,zAE V,zAB o,zAC,zAD,zM4,zLW,zOc,zMn]
 grind[C5]
theorem zEo(l:DK q)(a:1<=q.ce)(c:q.ce<=256)(e:1<=q.sy)(W:q.sy<=16)(h5:F q.cons<=4096)(b:CX q<=n):Na q n (.l1 0)=Z (C5 (q.cons.all<|Er q) 191):=by
 have S:=Jo (λn i=>Na q n<|.l1 i) (F q.cons) (q.cons.map SG).sum (λi=>u (Er q<|H q.cons i ξ) A<|Z 191) (λn i G9 hi=>?_) (n:=n) (by unfold CX at b;omega)
 ·refine S.trans ?_;rw[Oq,V0 (p:=Er q)];cases q.cons.all (Er q)with
  |false=>rfl
  |true=>
   obtain⟨m,hm⟩:∃m,n-F q.cons=m+1:=⟨n-F q.cons-1,by unfold CX at b;omega⟩
   grind[Na,aH,C5]
 ·have f:(i:U)<(F q.cons:U):=Z2
  have hR:AG<|(i:U)+1:=by rw[AZ];omega
  have V:H q.cons i ξ∈q.cons:=Z4
  have BT:=io V;have s:=zF1 (n:=n) (l.ce _ V) (l.ru _ V) a c e W (by grind[qp]);rw[zF2 q _ a]at s
  show aH n (Na q n) q (i:U)=_
  generalize Na q n=self
  simp only[aH,f,hR,zNY,zAG,zLQ,zRV,zMt,u8,s,zAC]
  grind
theorem aI(l:DK q)(a:CX q<=n):Nb n q=Z (C5 (CN q) 191):=by
 unfold Nb sR CN;have t:=Ye (lo:=0) (up:=99) l.va (show F q.va<n by unfold CX at a;omega);have o:=tO l.nb (show 2*FX q.nb+1<=n by unfold CX at a;omega)
 by_cases Q:q.ce<1
 ·grind[C5]
 have b:1<=q.ce:=Z2
 by_cases p:q.ce>256
 ·grind[C5]
 have v:q.ce<=256:=Z2
 by_cases J:q.sy<1
 ·grind[C5]
 have w:1<=q.sy:=Z2
 by_cases G:q.sy>16
 ·grind[C5]
 have x:q.sy<=16:=Z2
 simp only[zAE Q,zAE p,zAE J,zAE G,zAB b,zAB v,zAB w,zAB x,zAD,zM4,t,o,zAC,bne,zD];cases((F q.va:E):U)==q.sy with
 |false=>rfl
 |true=>
 cases Dt q.va 0 99 with
 |false=>rfl
 |true=>
 grind[C5,zEo]
def zJH{k:U}(h:1<=k/\k<=9):H ([0,1,1,2,2,3,1,1,4,4]:Ξ) k.toNat 0=lL k:=by
 rcases OP h with h|h|h|h|h|h|h|h|h <;> subst h <;> rfl
theorem wU(t:CN q=D){i:U}(h0:0<=i)(hi:i<(F q.cons:U)):1<=(H q.cons i.toNat ξ).kind/\(H q.cons i.toNat ξ).kind<=9:=by
 have V:H q.cons i.toNat ξ∈q.cons:=Z4
 exact QS<|wT<|(ER t).2.2.2.2.2 _ V
theorem zJc(l:DK q)(a:CX q<=n)(i:U):Wn n q i=Z (JE q i):=by
 unfold Wn lQ JE;rw[ZH l a];cases t:CN q with
 |false=>rfl
 |true=>
  by_cases h0:i<0
  ·grind[C5]
  ·by_cases hi:i>=(F q.cons:U)
   ·grind[C5]
   ·have hc:0<=i/\i<(F q.cons:U):=Z2
    have f:=wU t hc.1 hc.2;have o:(0<=i/\i<(F q.cons:U))/\(0<=(H q.cons i.toNat ξ).kind/\(H q.cons i.toNat ξ).kind<((10:E):U)):=⟨hc,Z2,Z2⟩;simp only[C5,zMt,zAC,zNG,zAD,zAE h0,zAE hi,zAF o,zAF hc,zJH f,Bool.true_eq_false,zRK]
end
abbrev zLA:=@List.length_cons
abbrev zRo:=@List.filter_append
abbrev zSG:=@Array.replicate_succ
abbrev zSH:=@Array.replicate_zero
abbrev zSM:=@List.append_toArray
abbrev zSP:=@Go.Lib.hid
theorem zBR(x k a:E)(w:κ)(Hd:((x:U)==0)=T)
 (key:IntKind.u64.wrap (bits BinOp.and IntKind.u64 (x:U) (IntKind.u64.wrap<|-(x:U))*285870213051353865)/288230376151711744=(a:U))
 (hi:a<64) (hk:k<64) (Gk:w.cell? ⟨1,a,A⟩=Z (.int .u8 k)):
 Calls L 200 #[.int .u64 x] w λe w'=>e=.returned (.int .i64 k)/\w=w':=by
 go_enter Tryz.func200,Tryz.ntmps200
 go_wp2_with (simp only[key])
 go_ret
 exact⟨rfl,rfl⟩
theorem zBS(x:E)(i:x<18446744073709551616)(W:x≠0)(w:κ)(l:PE w):
 Calls L 200 #[.int .u64 x] w λe w'=>e=.returned (.int .i64<|Lib.ctz 64 x)/\w=w':=by
 obtain⟨mf,f⟩:=Lib.lowest_bit 64 x W i;obtain⟨hi,htab⟩:=Lib.deBruijn64_at _ f;have Gk:=l _ hi
 grind[zBR,tz64_key]
def zBQ(x:E)(i:x<18446744073709551616)(W:x≠0)(w:κ)(l:PE w):
 Calls L 190 #[.int .u64 x] w λe w'=>e=.returned (.int .i64<|Lib.ctz 64 x)/\w=w':=by
 have a:=zBS x i W w l
 go_enter Tryz.func190,Tryz.ntmps190
 go_wp2_with (go_at_call 200;refine a.mono ?_;rintro e w' ⟨rfl,rfl⟩)
 go_ret
 exact⟨rfl,rfl⟩
def FY(x:E):Θ:=(θ 64).filter λs=>x.testBit s
theorem qq:FY 0= []:=by simp[FY]
theorem zJL(k m s:E):(2^k*(2*m+1)).testBit s=(C (k<=s)&&(2*m+1).testBit (s-k)):=by
 grind
def zIW(m s:E):(2*m+1).testBit s=(C (s=0)||(2*m).testBit s):=by
 cases s with
 |zero=>simp[Nat.testBit_zero]
 |succ s=>simp[Nat.testBit_succ];congr 1;omega
def zGV:∀k,k<64->θ 64=θ k++k::List.range' (k+1) (63-k):=by decide+kernel
theorem qr(x:E)(i:x<18446744073709551616)(W:x≠0):FY x=Lib.ctz 64 x::FY (x&&& (x-1)):=by
 have hc:Lib.ctz 64 x=Lib.ctzFrom 64 x:=by simp[Lib.ctz,W]
 obtain⟨m,P,f⟩:=Lib.ctzFrom_spec 64 x Z2 (by simpa using i);rw[hc]
 generalize Lib.ctzFrom 64 x=k at*
 have b:∀s,x.testBit s=(C (k<=s)&&(C (s-k=0)||(2*m).testBit (s-k))):=λs=>by rw[P,zJL,zIW]
 have hy:∀s,(x&&& (x-1)).testBit s=(x.testBit s&&C (s≠k)):=by
  intro s;have hp:0<2^k:=Nat.two_pow_pos k
  have X:x-1=2^k*(2*m)+(2^k-1):=by
   grind
  have hb1:(x-1).testBit s=u (s<k) ((2^k-1).testBit s) ((2*m).testBit<|s-k):=by
   rw[X,Nat.testBit_two_pow_mul_add _ Z2]
  grind
 unfold FY;have c:θ 64=θ k++k::List.range' (k+1) (63-k):=zGV k f;rw[c];simp only[zRo,zRe]
 have a:∀y:E,(∀s,s<k->y.testBit s=T)->(θ k).filter (λs=>y.testBit s)= []:=λy h=>by
  simp_all
 rw[a x (λs p=>by rw[b];simp;omega),a (x&&& (x-1)) λs p=>by rw[hy,b];simp;omega];have e:x.testBit k=D:=by rw[b];simp
 have g:(x&&& (x-1)).testBit k=T:=by rw[hy];simp
 simp only[e,g,zLP,zMt,zLV,zRK]
 congr 1
 apply List.filter_congr
 grind
theorem zQ3(x:E)(hx:x<9223372036854775808)(Hd:x≠0):bits .and .i64 (x:U) ((x:U)-1)=((x&&& (x-1):E):U):=by
 have e:((x:U)-1)=((x-1:E):U):=Z2
 have Ao:x&&& (x-1)<=x:=Nat.and_le_left;rw[e]
 have a:(BitVec.ofInt 64 (x:U)).toNat=x:=by
  grind
 have c:(BitVec.ofInt 64 ((x-1:E):U)).toNat=x-1:=by
  grind
 show IntKind.i64.wrap ((BitVec.ofInt 64 (x:U)&&& BitVec.ofInt 64 ((x-1:E):U)).toNat:U)=_
 rw[BitVec.toNat_and,a,c];have P:((x&&& (x-1):E):U)%2^64=((x&&& (x-1):E):U):=Z2
 simp only[IntKind.wrap,IntKind.signed,IntKind.bits,P]
 grind
def rn(w:κ)(b o:E):E:=match w.cell? ⟨b,o,A⟩with
 |some (.int _ x)=>x.toNat
 |_=>0
def ZT(s:E):O DV:=[.int .i64 s]
def hE1(R:Ψ)(W:κ)(x:E):YV (ZT x) R W #[.int .i64 x]:=⟨rfl,λj l=>by
 have:j=0:=Nat.lt_one_iff.1 l;subst this;rfl⟩
set_option maxRecDepth 100000 in
set_option maxHeartbeats 4000000 in
theorem zBf(set b o:E)(w:κ)(Hf:set<9223372036854775808)(hT:PE w)(Y:w.cell? ⟨b,o,A⟩=Z (.int .i64 set))(HB:w.frozen? ⟨b,o,A⟩=T)(Oj:b≠1):
 PJ L 189 #[.pointer<|Z ⟨b,o,A⟩] YV ((FY set).map ZT) Uo (λk=>k=b) (λk=>k=1) w:=by
 intro l J Jx W hJ hJx q hY h0 _;have HY:=zSP hY;clear hY;have xq:W.cell? ⟨b,o,A⟩=Z (.int .i64 set):=q.cell (λh=>h<|.inl rfl) Y
 have p:W.frozen? ⟨b,o,A⟩=T:=by
  rw[World.frozen?_of_block<|q.block b (zLJ w _ Y) λh=>h<|.inl rfl];exact HB
 have xz:PE W:=λj c=>q.cell (λh=>h<|.inr rfl)<|hT j c
 have f:∀r,W.heap.size<=r.heap.size->EH (λk=>k=b) (λk=>k=1) r:=λr h=>⟨λk e e2=>Oj<|e.symm.trans e2,λk hk=>zI0 (hk.elim (λe=>e▸zLJ W _ xq) λe=>e▸zLJ W _ (xz 0 Z6)) h⟩
 obtain⟨G,hG⟩:∃G:Ψ,(λk=>k=b)=G:=⟨_,rfl⟩;obtain⟨R,yG⟩:∃R:Ψ,(λk=>k=1)=R:=⟨_,rfl⟩;rw[hG,yG]at h0 f;have s:G b:=by rw[←hG]
 have t:R 1:=by rw[←yG]
 refine callsIn_of_wp Tryz.func189 rfl trivial ?_ rfl;simp only[Tryz.ntmps189,zRQ,zLA,zRJ,Nat.reduceAdd,Nat.reduceSub,zSG,zSH,List.push_toArray,zSM,zLP,zRc]
 gi_wp2
 gi_loopw [3,4,5,6,7,8,9,10,11,12,13,14] (λ_ _ _ _ _ _ _ _ _ _ _ _ wr=>∃(i x:E),W.heap.size<=wr.heap.size/\x<9223372036854775808/\i<=F (FY set)/\Hid ((FY set).drop i=FY x)/\Hid (J i G R wr)/\wr.cell? ⟨b,o,A⟩=Z (.int .i64 x)/\wr.frozen? ⟨b,o,A⟩=T/\Hid (PE wr))
  (λ_ _ _ _ _ _ _ _ _ _ _ _ wr=>rn wr b o)
 case atStart=>exact⟨0,set,zI1 _,Hf,zK5 _,zSP rfl,zSP h0,xq,p,zSP xz⟩
 case round=>
  obtain⟨i,x,g,hx,Dm,z,c,hc,hf,ht⟩:=hrel
  by_cases n:x=0
  ·subst n
   have v:i=F (FY set):=by
    have:=congrArg List.length z.out
    grind[qq]
   gi_wp2
   go_end0
   exact⟨G,R,f _ g,.inl ⟨v▸c.out,_,rfl⟩⟩
  ·have N0:((x:U)==0)=T:=by simp[n]
   have eF:(FY set).drop i=Lib.ctz 64 x::FY (x&&& (x-1)):=by rw[z.out,qr x Z2 n]
   have v:i<F (FY set):=by
    grind
   have hie:(FY set)[i]=Lib.ctz 64 x:=by
    grind[List.drop_eq_getElem_cons]
   obtain⟨fn,tmps,Re,body,hy,hR⟩:=HY.out i (ZT<|Lib.ctz 64 x) #[.int .i64<|Lib.ctz 64 x] G R wr Z4 (hE1 R wr _) c.out<|f _ g;have y:=zSP hR;clear hR;have I:=zSP<|zBQ x Z2 n wr ht.out;have K:=zSP eF;clear eF z
   gi_wp2_with (first|refine⟨trivial,rfl,?_⟩|(gi_at_call 190;refine(zSO.2 I.out).mono ?_;rintro e w' ⟨rfl,rfl⟩))
   refine⟨rfl,y.out.mono ?_⟩;rintro e a ⟨m,(⟨rfl,N⟩|⟨rfl,MY⟩)⟩
   ·have P:a.cell? ⟨b,o,A⟩=Z (.int .i64 x):=m.cell (λh=>h<|.inl s) hc
    have Q:a.frozen? ⟨b,o,A⟩=T:=by
     rw[World.frozen?_of_block<|m.block b (zLJ wr _ hc) λh=>h<|.inl s];exact hf
    have wx:PE a:=λj c=>m.cell (λh=>h<|.inr t)<|ht.out j c
    have S:AV G a<|a.setCell ⟨b,o,A⟩<|.int .i64 ((x&&& (x-1):E):U):=(AV.refl G a).setCell (λ_=>s) _;have V:=zIX g<|zIX m.size S.size;have XP:=zSP<|(hJ _).same (f _<|zIX g m.size) N S
    have X:Hid<|PE<|a.setCell ⟨b,o,A⟩<|.int .i64 ((x&&& (x-1):E):U):=zSP λj c=>
     ((AV.refl (λk=>k=b) a).setCell (λ_=>rfl) _).cell (λe=>Oj e.symm) (wx j c)
    have Ao:x&&& (x-1)<x:=Nat.lt_of_le_of_lt Nat.and_le_right Z2;clear S wx
    gi_wp2
    rw[zQ3 x hx n];have T8:(a.setCell ⟨b,o,A⟩<|.int .i64 ((x&&& (x-1):E):U)).cell? ⟨b,o,A⟩=Z (.int .i64 ((x&&& (x-1):E):U)):=World.cell?_setCell_same' a _ _ (by rw[P];rfl);refine⟨⟨_,_,_,_,_,_,_,_,_,_,_,_,⟨i+1,x&&& (x-1),V,Z2,v,zSP ?_,XP,T8,?_,X⟩,rfl⟩,?_⟩
    ·rw[←List.drop_drop,K.out];rfl
    ·rw[World.frozen?_setCell];exact Q
    grind[rn]
   ·gi_wp2
    refine bodyPost_ret (results_none rfl _ _ _) rfl ?_;exact⟨G,R,f _<|zIX g m.size,.inr ⟨⟨_,rfl⟩,MY⟩⟩
def By(x:U):Ξ:=(FY x.toNat).map λ(s:E)=>(s:U)
def zOl(x:U):(By x).map BY=(FY x.toNat).map ZT:=by
 unfold By;rw[List.map_map];rfl
def zBe{x:U}(hx:(0:U)<=x/\x<9223372036854775808)(w:κ)(b o:E)(ϛ:μ)(c:GG.gi w)(p:GG.ng<=b)(a:∃cs t,w.heap[b]?=Z (.cells cs t (0,0)))(hc:w.cell? ⟨b,o,A⟩=Z ϛ)(e:ϛ=.int .i64 x):
 PJ L 189 #[.pointer<|Z ⟨b,o,A⟩] YV ((By x).map BY) Uo (λk=>k=b) (λk=>k=1) w:=by
 rw[zOl];obtain⟨cs,t,a⟩:=a;have p:2<=b:=p;refine zBf x.toNat b o w Z2 c.1 ?_ ?_ Z2
 ·rw[hc,e];congr 2;omega
 ·unfold World.frozen?;simp[a]
theorem ES.iterOf{P:ν}{Γ:A1}{f I:E}{ds:O DV}{c:E->DV}{Ϛ:DV}{encs:O (O DV)}{Rd:Ψ}(h0:ES P Γ f ds [] (.fn I 1 c) [Z<|.cells [Ϛ]] D)(hc:c 0=.ref 0 0)(z:ds.all Fi=D)
 (K:∀args W,(callFunc I args).run P W=.ok (.enter I args) W)
 (G:∀(w:κ) (b o:E) (ϛ:μ),Γ.gi w->Γ.ng<=b->(∃cs t,w.heap[b]?=Z (.cells cs t (0,0)))->w.cell? ⟨b,o,A⟩=Z ϛ->AL (λ_=>False) w Ϛ [] ϛ->PJ P I #[.pointer<|Z ⟨b,o,A⟩] YV encs Uo (λk=>k=b) Rd w)
 (Q:TJ Ϛ=D) (m:∀b,Rd b->b<Γ.ng) (h:DH):ES P Γ f ds h (.it<|F h) (h++[Z<|.iter encs]) D:=by
 refine⟨h0.1,λN ρ w args R r=>?_⟩;refine(h0.2 (MS N h ρ) [] w args (Tt (λb a=>R.lt2 a) R.gi) ⟨r.1,λi hi=>?_⟩).mono ?_
 ·have S:=ML (zFy.1 z (ds.getD i .any)<|by simp[hi]);exact AL.out _ (Cz (λb a=>Rl.1 a) [])<|S _ _ _ _<|r.2 i hi
 ·rintro e w' ⟨v,rfl,⟨⟨ρ',s,X,Y,g4⟩,V⟩⟩;have n:=V rfl;obtain⟨p,l,g⟩:=s.obj 0 _ rfl;have g:Ai w' p 1 _:=g;have q:∀b,p.foot b->w.heap.size<=b:=λb a=>(Y.grow b ⟨0,_,p,rfl,l,a⟩).resolve_left λ⟨k,o',p',q1,_⟩=>by simp at q1
  obtain⟨lb,hv,hl,Ty⟩:=X;obtain⟨ϛ,hu,x⟩:=Ty 0 Z2;rw[hc]at x;obtain⟨p',BL,XD⟩:=x;have ep:p'=p:=zBH<|BL.symm.trans l;subst ep
  have J:lb= #[.pointer<|Z ⟨p'.blk,p'.off,A⟩]:=by
   grind
  subst J;obtain⟨u2,c1,c2⟩:=Ai.cell g (j:=0) Z2;have y:p'.foot=λb=>b=p'.blk:=g.1
  have Cv:Γ.ng<=w.heap.size:=Γ.lo _ R.gi;have Gk:=s.cel 0 _ p' p'.blk rfl l (by rw[y]);refine⟨v,rfl,⟨⟨ρ++[{ p' with val:=v }],R.snoc n (λb a=>⟨q b a,(s.cel 0 _ p' b rfl l a).2.2⟩) ?_,⟨{ p' with val:=v },by rw[←R.len];simp,rfl⟩,BD.snoc R n q,λ_ _ h=>Eo h⟩,V⟩⟩;obtain⟨_,cs,t,Ea,_⟩:=g;refine⟨I,_,Rd,⟨hv,K⟩,?_,λb a=>?_,λb a=>?_⟩
  ·show PJ P I _ YV encs Uo p'.foot Rd w'
   rw[y];refine G w' _ _ u2 s.gi Gk.1 ⟨cs,t,Ea⟩ (by simpa using c1) ?_;exact AL.out _ (Cz (λb a=>a.elim) [])<|kT Q c2
  ·have En:=m b a;refine⟨λhm=>?_,zI0 (zI0 En Cv) n.size⟩;rcases hm with hm|hm
   ·have:=(R.nlt b hm).2;omega
   ·rcases MO.snoc R hm with hm|hm
    ·have:=R.low hm;omega
    ·have:=q b hm;omega
  grind
section
set_option maxRecDepth 100000
set_option maxHeartbeats 40000000
inductive fk where
 |l1 (x7:U)
def fj(n:E)(self:fk->X9)(sets:Ξ)(J:U):X9:=B (C<|J<(F sets:U)) (u (0<=J/\J<(F sets:U)) (B (H sets J.toNat 0==0) (Z D)<|u (AG<|J+1) (self<|.l1<|J+1) A) A)<|Z T
def zf(n:E)(self:fk->X9)(sets:Ξ):X9:=self<|.l1 0
def UU(sets:Ξ):E->fk->X9
 |0,_=>A
 |n+1,.l1 J=>fj n (UU sets n) sets J
def YN(n:E)(sets:Ξ):X9:=zf n (UU sets n) sets
def zPL(n Ϝ:E)(N:Yd 0)(sets:Ξ)(r:ζ):fk->Prop:=px n Ϝ η N (FQ Tryz.f113 0 (.bool r) []) (Af Tryz.f113) λ
 | .l1 J=>(0,0,AI 14 [(5,.ints sets),(6,.i (F sets:U)),(7,.i J)],[])
def zPM(Ϝ:E)(N:Yd 0)(sets:Ξ):Al (UU sets) (zPL · Ϝ N sets):=ia (λ_=>rfl) λn G s r h=>by
 cases s
 case l1 x7=>
  intro o j;refine rd j λo j=>?_
  revert r;apply gO;exact bi 8 (gi (bi 12 (lE AC [2] []) (gw 13 (lG AC [] (G _ _ · o j)))))<|lE AC [2] []
variable{n:E}
def ze{sets:Ξ}{r:ζ}(h:YN n sets=Z r):EQ 113 [.ints sets] [] (.bool r) [] D:=by
 refine ot Tryz.func113 λϜ N=>?_
 revert r;apply gO;exact lN AC [] ((zPM Ϝ N sets n) _ _ · n χ)
def ld(n:E)(pos:Ξ):X9:=(YN n pos).bind λe=>Z e
def LJ(n:E)(pos:Ξ):X9:=ld n pos
variable{pos:Ξ}
def QV{r:ζ}(h:LJ n pos=Z r):EQ 88 [.ints pos] [] (.bool r) [] D:=by
 unfold LJ ld at h;refine ot Tryz.func88 λϜ N=>?_
 revert r;apply gO;exact cf ze [] λ_=>lE AC [2] []
def kz(n:E)(pos:Ξ):W6:=(YN n pos).bind λe=>B e (u (((F pos:U):U)=(F pos:U)/\0<=(F pos:U)/\((F pos:U):U)<=1000000000000) (u (F pos=F (d (F pos) (0:U))) (Z<|d (F pos) (0:U)) A) A)<|Z pos
def cT(n:E)(pos:Ξ):W6:=kz n pos
def zIe{r:Ξ}(h:cT n pos=Z r):EQ 135 [.ints pos] [] (.ints r) [] D:=by
 unfold cT kz at h;refine ot Tryz.func135 λϜ N=>?_
 revert r;apply gO;exact cf ze [] λ_=>bi 4 (gi<|gn λs=>lF λp=>ez AC [2] [0] p [0]<|H0.g s)<|lE AC [2] []
inductive br where
 |l1 (x20:U)
def bq(n:E)(self:br->W5)(q:AA)(pos:Ξ)(x20:U):W5:=B (C<|x20<(F pos:U)) (u (0<=x20/\x20<(F pos:U)) (B (C<|H pos x20.toNat 0<0) (Z 250)<|u (0<=q.sy/\q.sy<=(IntKind.i64.bits:U)) (B (C<|H pos x20.toNat 0>=(IntKind.i64.wrap<|1*2^(q.sy).toNat)) (Z 250)<|u (AG<|x20+1) (self<|.l1<|x20+1) A) A) A)<|Z 0
def ur(n:E)(self:br->W5)(q:AA)(pos:Ξ):W5:=(valid n q).bind λe=>B (e != 0) (Z e)<|B ((F pos:U) != q.ce) (Z 250)<|self<|.l1 0
def QD(q:AA)(pos:Ξ):E->br->W5
 |0,_=>A
 |n+1,.l1 x20=>bq n (QD q pos n) q pos x20
def QF(n:E)(q:AA)(pos:Ξ):W5:=ur n (QD q pos n) q pos
def zH5(n Ϝ:E)(N:Yd 0)(q:AA)(pos:Ξ)(r:U):br->Prop:=px n Ϝ η N (FQ Tryz.f36 0 (.i r) []) (Af Tryz.f36) λ
 | .l1 x20=>(0,0,AI 34 [(2,.ref 0 0),(18,.ints pos),(19,.i (F pos:U)),(20,.i x20)],[oC<|AJ q])
def zH6(Ϝ:E)(N:Yd 0)(q:AA)(pos:Ξ):Al (QD q pos) (zH5 · Ϝ N q pos):=ia (λ_=>rfl) λn G s r h=>by
 cases s
 case l1 x20=>
  intro o j;refine rd j λo j=>?_
  revert r;apply gO;exact bi 21 (gi (bi 25 (lE AC [4] []) (gi (bi 31 (lE AC [4] []) (gw 33 (lG AC [0] (G _ _ · o j)))))))<|lE AC [4] []
variable{r:U}{q:AA}
def kV(h:QF n q pos=Z r):EQ 36 [.agg 5<|L1<|AJ q,.ints pos] [] (.i r) [] D:=by
 refine ot Tryz.func36 λϜ N=>?_
 revert r;apply gO;exact cf ZG [oC<|AJ q] λ_=>bi 11 (lE AC [4] []) (bi 17 (lE AC [4] []) (lN AC [0] ((zH6 Ϝ N q pos n) _ _ · n χ)))
def zr(n:E)(V:Ξ):W6:=u (0<F V/\(True/\(0=0/\0=F ([]:Ξ))/\F ([]:Ξ)+F V<=Aw)) (u (F ([]:Ξ)+F V=F (([]:Ξ)++V)) (Z<|([]:Ξ)++V) A) A
def gJ(n:E)(V:Ξ):W6:=zr n V
def zP4{V:Ξ}{r:Ξ}(h:gJ n V=Z r):EQ 145 [.ints V] [] (.msl 0 1 0<|F r) [oI r] D:=by
 refine ot Tryz.func145 λϜ N=>?_
 revert r;apply gO;exact gc<|gi<|gi<|gn λy=>lF λp=>el AC [2] [1] p [] H0 [.msl 0 1 0<|F ([]:Ξ)+F V]<|AO.mslN y
def oQ(n:E)(V:Ω):W8:=u (0<F V/\(True/\(0=0/\0=F ([]:Ω))/\F ([]:Ω)+F V<=Aw)) (u (F ([]:Ω)+F V=F (([]:Ω)++V)) (Z<|([]:Ω)++V) A) A
def RG(n:E)(V:Ω):W8:=oQ n V
def zt{V:Ω}{r:Ω}(h:RG n V=Z r):EQ 193 [.bools V] [] (.msl 0 1 0<|F r) [Z<|.bools r] D:=by
 refine ot Tryz.func193 λϜ N=>?_
 revert r;apply gO;exact gc<|gi<|gi<|gn λy=>lF λp=>el AC [2] [1] p [] H0 [.msl 0 1 0<|F ([]:Ω)+F V]<|AO.mslN y
def oS(n:E)(q:AA)(i:U)(pos:Ξ):W5:=(Wn n q i).bind λe=>B (e.2 != 0) (Z e.2)<|(QF n q pos).bind λr=>Z r
def Ua(n:E)(q:AA)(i:U)(pos:Ξ):W5:=oS n q i pos
def zQA{i:U}(h:Ua n q i pos=Z r):EQ 116 [.agg 5<|L1<|AJ q,.i i,.ints pos] [] (.i r) [] D:=by
 unfold Ua oS at h;refine ot Tryz.func116 λϜ N=>?_
 revert r;apply gO;exact cf zJb [oC<|AJ q] λ_=>bi 16 (lE AC [6] [])<|cf kV [oC<|AJ q] λ_=>lE AC [6] []
inductive eY where
 |l1 (Au:U)
def eW(n:E)(self:eY->W5)(I:O Ξ)(sets:O Ω)(Y:U):W5:=B (C<|Y<(F sets:U)) (u (0<=Y/\Y<(F sets:U)) (B (((F<|H sets Y.toNat []:E):U) != (F I:U)) (Z 1)<|u (AG<|Y+1) (self<|.l1<|Y+1) A) A)<|Z 0
def yU(n:E)(self:eY->W5)(I:O Ξ)(sets:O Ω):W5:=(Xo n I).bind λe=>B (e != 0) (Z e)<|self<|.l1 0
def UA(I:O Ξ)(sets:O Ω):E->eY->W5
 |0,_=>A
 |n+1,.l1 Y=>eW n (UA I sets n) I sets Y
def LV(n:E)(I:O Ξ)(sets:O Ω):W5:=yU n (UA I sets n) I sets
def zNn(n Ϝ:E)(N:Yd 0)(I:O Ξ)(sets:O Ω)(r:U):eY->Prop:=px n Ϝ η N (FQ Tryz.f195 0 (.i r) []) (Af Tryz.f195) λ
 | .l1 Y=>(0,0,AI 25 [(0,.sl 1 (F I)<|AM AS I),(13,.sl 1 (F sets)<|AM Uc sets),(14,.i (F sets:U)),(15,.i Y)],[])
def zNo(Ϝ:E)(N:Yd 0)(I:O Ξ)(sets:O Ω):Al (UA I sets) (zNn · Ϝ N I sets):=ia (λ_=>rfl) λn G s r h=>by
 cases s
 case l1 Au=>
  intro o j;refine rd j λo j=>?_
  revert r;apply gO;exact bi 16 (gi (bi 23 (lE AC [4] []) (gw 24 (lG AC [] (G _ _ · o j)))))<|lE AC [4] []
def eV{I:O Ξ}{sets:O Ω}(h:LV n I sets=Z r):EQ 195 [.sl 1 (F I)<|AM AS I,.sl 1 (F sets)<|AM Uc sets] [] (.i r) [] D:=by
 refine ot Tryz.func195 λϜ N=>?_
 revert r;apply gO;exact cf yX [] λ_=>bi 11 (lE AC [4] []) (lN AC [] ((zNo Ϝ N I sets n) _ _ · n χ))
end
section
set_option maxRecDepth 100000
set_option maxHeartbeats 40000000
def zEP:Ac (Ah Tryz.f169 0) [] (θ 18) [18]:=Z0
def zC1:BG:=λi=>match i with
 |0=>.ord [] (θ 18) [18]
 |_=>.no
def lM(n:E)(cell ss:U)(c:AD)(q:AA)(pos:Ξ)(ln:E)(lost:Ξ):W6:=u ((0<=cell/\cell<(ln:U))/\0+cell.toNat<F lost/\(0<=cell/\cell<(F pos:U))) (Z<|lost.set (0+cell.toNat)<|bits .or .i64 (H lost (0+cell.toNat) 0)<|bits .and .i64 (H pos cell.toNat 0) ss) A
def D0(n:E)(cell ss:U)(c:AD)(q:AA)(pos:Ξ)(ln:E)(lost:Ξ):W6:=lM n cell ss c q pos ln lost
variable{r lost pos:Ξ}{ln n:E}{q:AA}{c:AD}{cell:U}
def G7{ss:U}(h:D0 n cell ss c q pos ln lost=Z r):EQ 169 [.ref 0 0,.i cell,.i ss] [oW c q pos 1 ln,oI lost] (.tup 0 λj=>([]:O DV).getD j .any) [oW c q pos 1 ln,oI r] T:=by
 refine ot Tryz.func169 λϜ N=>?_
 revert r;apply gO;exact jg zEP<|gc<|gn λa=>jg a<|gc<|gn λs=>jg s<|gi<|jg a<|jg s<|lE zC1 [] [0,1]
def zD7:Ac (Ah Tryz.f170 0) [] (θ 22) [22]:=Z0
def zCz:BG:=λi=>match i with
 |0=>.ord [] (θ 22) [22]
 |_=>.no
def ko(n:E)(cell:U)(c:AD)(q:AA)(pos:Ξ)(ln:E)(lost:Ξ):W6:=u ((0<=cell/\cell<(ln:U))/\0+cell.toNat<F lost/\(0<=cell/\cell<(F pos:U))) (Z<|lost.set (0+cell.toNat)<|bits .or .i64 (H lost (0+cell.toNat) 0)<|bits .andNot .i64 (H pos cell.toNat 0) c.set) A
def Hb(n:E)(cell:U)(c:AD)(q:AA)(pos:Ξ)(ln:E)(lost:Ξ):W6:=ko n cell c q pos ln lost
def OC(h:Hb n cell c q pos ln lost=Z r):EQ 170 [.ref 0 0,.i cell] [oW c q pos 1 ln,oI lost] (.tup 0 λj=>([]:O DV).getD j .any) [oW c q pos 1 ln,oI r] T:=by
 refine ot Tryz.func170 λϜ N=>?_
 revert r;apply gO;exact jg zD7<|gc<|gn λa=>jg a<|gc<|gn λs=>jg s<|gi<|jg a<|jg s<|lE zCz [] [0,1]
inductive YI where
 |l1 (x3 x4 BC:U)
 |l2 (x3 x4 CR:U) (o1:Ξ)
def fe(n:E)(self:YI->X6)(c:AD)(q:AA)(pos:Ξ)(ln:E)(lost:Ξ)(S f J:U):X6:=B (C<|J<(F c.ce:U)) (u ((0<=J/\J<(F c.ce:U))/\(0<=H c.ce J.toNat 0/\H c.ce J.toNat 0<(F pos:U))/\AG (H pos (H c.ce J.toNat 0).toNat 0-1)) (B ((bits .and .i64 (H pos (H c.ce J.toNat 0).toNat 0)<|H pos (H c.ce J.toNat 0).toNat 0-1)==0) (u (AG<|J+1) (self<|.l1 (bits .or .i64 S<|H pos (H c.ce J.toNat 0).toNat 0) (bits .or .i64 f<|bits .and .i64 S<|H pos (H c.ce J.toNat 0).toNat 0)<|J+1) A)<|u (AG<|J+1) (self<|.l1 S f<|J+1) A) A)<|self<|.l2 S f 0 lost
def fc(n:E)(self:YI->X6)(c:AD)(q:AA)(pos:Ξ)(ln:E)(lost:Ξ)(S f G:U)(o1:Ξ):X6:=B (C<|G<(F c.ce:U)) (u ((0<=G/\G<(F c.ce:U))/\(0<=H c.ce G.toNat 0/\H c.ce G.toNat 0<(F pos:U))/\AG (H pos (H c.ce G.toNat 0).toNat 0-1)) (B ((bits .and .i64 (H pos (H c.ce G.toNat 0).toNat 0)<|H pos (H c.ce G.toNat 0).toNat 0-1)==0) ((D0 n (H c.ce G.toNat 0) (bits .or .i64 (bits .andNot .i64 S<|H pos (H c.ce G.toNat 0).toNat 0) f) c q pos ln o1).bind λe=>u (AG<|G+1) (self<|.l2 S f (G+1) e) A)<|(D0 n (H c.ce G.toNat 0) S c q pos ln o1).bind λe=>u (AG<|G+1) (self<|.l2 S f (G+1) e) A) A)<|Z (D,o1)
def zY(n:E)(self:YI->X6)(c:AD)(q:AA)(pos:Ξ)(ln:E)(lost:Ξ):X6:=self<|.l1 0 0 0
def Mv(c:AD)(q:AA)(pos:Ξ)(ln:E)(lost:Ξ):E->YI->X6
 |0,_=>A
 |n+1,.l1 S f J=>fe n (Mv c q pos ln lost n) c q pos ln lost S f J
 |n+1,.l2 S f G o1=>fc n (Mv c q pos ln lost n) c q pos ln lost S f G o1
def UP(n:E)(c:AD)(q:AA)(pos:Ξ)(ln:E)(lost:Ξ):X6:=zY n (Mv c q pos ln lost n) c q pos ln lost
def zO5(n Ϝ:E)(N:Yd 2)(c:AD)(q:AA)(pos:Ξ)(ln:E)(lost:Ξ)(r:ζ×Ξ):YI->Prop:=px n Ϝ η N (FQ Tryz.f136 2 (.bool r.1) [oW c q pos 1 ln,oI r.2]) (Af Tryz.f136) λ
 | .l1 S f J=>(0,0,AI 77 [(0,.ref 0 0),(3,.i S),(4,.i f),(15,.ints c.ce),(16,.i (F c.ce:U)),(17,.i J)],[oW c q pos 1 ln,oI lost])
 | .l2 S f G o1=>(0,2,AI 77 [(0,.ref 0 0),(3,.i S),(4,.i f),(46,.ints c.ce),(47,.i (F c.ce:U)),(48,.i G)],[oW c q pos 1 ln,oI o1])
def zO6(Ϝ:E)(N:Yd 2)(c:AD)(q:AA)(pos:Ξ)(ln:E)(lost:Ξ):Al (Mv c q pos ln lost) (zO5 · Ϝ N c q pos ln lost):=ia (λ_=>rfl) λn G s r h=>by
 cases s
 case l1 x3 x4 BC=>
  intro o j;refine rd j λo j=>?_
  revert r;apply gO;exact bi 18 (gc (gi (gc (gi (gw 30 (bi 32 (gw 41 (lG AC [0,1] (G _ _ · o j))) (gw 41 (lG AC [0,1] (G _ _ · o j))))))))) (lN AC [0,1] (G _ _ · n χ))
 case l2 x3 x4 CR o1=>
  intro o j;refine rd j λo j=>?_
  revert r;apply gO;exact bi 49 (gc (gi (gc (gi (gw 61 (bi 63 (ce G7 [0,1] [oW c q pos 1 ln,oI o1] λ_=>gw 76 (lG AC [0,1] (G _ _ · o j))) (ce G7 [0,1] [oW c q pos 1 ln,oI o1] λ_=>gw 76 (lG AC [0,1] (G _ _ · o j)))))))))<|lE AC [2] [0,1]
def zO4{r:ζ×Ξ}(h:UP n c q pos ln lost=Z r):EQ 136 [.ref 0 0] [oW c q pos 1 ln,oI lost] (.bool r.1) [oW c q pos 1 ln,oI r.2] T:=by
 refine ot Tryz.func136 λϜ N=>?_
 revert r;apply gO;exact lN AC [0,1] ((zO6 Ϝ N c q pos ln lost n) _ _ · n χ)
def zEd:Ac (Ah Tryz.f137 5) [] (θ 15) []:=Z0
def zEc:Ac (Ah Tryz.f137 8) [] (θ 15) []:=Z0
def zEe:Ac (Ah Tryz.f137 16) [] (θ 23) []:=Z0
def jM:Ac (Ah Tryz.f137 18) [] (θ 23) []:=Z0
def GX:BG:=λi=>match i with
 |5=>.ord [] (θ 15) []
 |8=>.ord [] (θ 15) []
 |16=>.ord [] (θ 23) []
 |18=>.ord [] (θ 23) []
 |_=>.no
inductive YT where
 |l1 (x3 x4 Au:U)
 |l2 (x3 x4 CT:U) (o1:Ξ)
def YS(n:E)(self:YT->X6)(c:AD)(q:AA)(pos:Ξ)(ln:E)(lost:Ξ)(S f Y:U):X6:=B (C<|Y<(F c.ce:U)) (u ((0<=Y/\Y<(F c.ce:U))/\(0<=H c.ce Y.toNat 0/\H c.ce Y.toNat 0<(F pos:U))) (B (bits .andNot .i64 (H pos (H c.ce Y.toNat 0).toNat 0) c.set==0) (u (AG (S+1)/\AG (f+1)/\AG (Y+1)) (self<|.l1 (S+1) (f+1)<|Y+1) A)<|B (bits .and .i64 (H pos (H c.ce Y.toNat 0).toNat 0) c.set != 0) (u (AG (f+1)/\AG (Y+1)) (self<|.l1 S (f+1)<|Y+1) A)<|u (AG<|Y+1) (self<|.l1 S f<|Y+1) A) A)<|B (C<|S>c.hi) (Z (T,lost))<|B (C<|f<c.lo) (Z (T,lost))<|self<|.l2 S f 0 lost
def fl(n:E)(self:YT->X6)(c:AD)(q:AA)(pos:Ξ)(ln:E)(lost:Ξ)(S f I:U)(o1:Ξ):X6:=B (C<|I<(F c.ce:U)) (u (0<=I/\I<(F c.ce:U)) (B (S==c.hi) (u (0<=H c.ce I.toNat 0/\H c.ce I.toNat 0<(F pos:U)) (B (bits .andNot .i64 (H pos (H c.ce I.toNat 0).toNat 0) c.set != 0) ((D0 n (H c.ce I.toNat 0) c.set c q pos ln o1).bind λe=>B (f==c.lo) (B (bits .and .i64 (H pos (H c.ce I.toNat 0).toNat 0) c.set != 0) ((Hb n (H c.ce I.toNat 0) c q pos ln e).bind λr=>u (AG<|I+1) (self<|.l2 S f (I+1) r) A)<|u (AG<|I+1) (self<|.l2 S f (I+1) e) A)<|u (AG<|I+1) (self<|.l2 S f (I+1) e) A)<|B (f==c.lo) (B (bits .and .i64 (H pos (H c.ce I.toNat 0).toNat 0) c.set != 0) ((Hb n (H c.ce I.toNat 0) c q pos ln o1).bind λe=>u (AG<|I+1) (self<|.l2 S f (I+1) e) A)<|u (AG<|I+1) (self<|.l2 S f (I+1) o1) A)<|u (AG<|I+1) (self<|.l2 S f (I+1) o1) A) A)<|B (f==c.lo) (u (0<=H c.ce I.toNat 0/\H c.ce I.toNat 0<(F pos:U)) (B (bits .and .i64 (H pos (H c.ce I.toNat 0).toNat 0) c.set != 0) ((Hb n (H c.ce I.toNat 0) c q pos ln o1).bind λe=>u (AG<|I+1) (self<|.l2 S f (I+1) e) A)<|u (AG<|I+1) (self<|.l2 S f (I+1) o1) A) A)<|u (AG<|I+1) (self<|.l2 S f (I+1) o1) A) A)<|Z (D,o1)
def zPT(n:E)(self:YT->X6)(c:AD)(q:AA)(pos:Ξ)(ln:E)(lost:Ξ):X6:=self<|.l1 0 0 0
def KM(c:AD)(q:AA)(pos:Ξ)(ln:E)(lost:Ξ):E->YT->X6
 |0,_=>A
 |n+1,.l1 S f Y=>YS n (KM c q pos ln lost n) c q pos ln lost S f Y
 |n+1,.l2 S f I o1=>fl n (KM c q pos ln lost n) c q pos ln lost S f I o1
def UV(n:E)(c:AD)(q:AA)(pos:Ξ)(ln:E)(lost:Ξ):X6:=zPT n (KM c q pos ln lost n) c q pos ln lost
def zPU(n Ϝ:E)(N:Yd 2)(c:AD)(q:AA)(pos:Ξ)(ln:E)(lost:Ξ)(r:ζ×Ξ):YT->Prop:=px n Ϝ η N (FQ Tryz.f137 2 (.bool r.1) [oW c q pos 1 ln,oI r.2]) (Af Tryz.f137) λ
 | .l1 S f Y=>(0,0,AI 140 [(0,.ref 0 0),(3,.i S),(4,.i f),(13,.ints c.ce),(14,.i (F c.ce:U)),(15,.i Y)],[oW c q pos 1 ln,oI lost])
 | .l2 S f I o1=>(0,3,AI 140 [(0,.ref 0 0),(3,.i S),(4,.i f),(76,.ints c.ce),(77,.i (F c.ce:U)),(78,.i I)],[oW c q pos 1 ln,oI o1])
def zPV(Ϝ:E)(N:Yd 2)(c:AD)(q:AA)(pos:Ξ)(ln:E)(lost:Ξ):Al (KM c q pos ln lost) (zPU · Ϝ N c q pos ln lost):=ia (λ_=>rfl) λn G a r h=>by
 cases a
 case l1 x3 x4 Au=>
  intro o j;refine rd j λo j=>?_
  revert r;apply gO;exact bi 16 (gc (gi (jg zEd (gn λs=>jg s (bi 33 (gc (gw 35 (gc (gw 37 (gw 55 (lG GX [0,1] (G _ _ · o j))))))) (jg zEc (jg s (bi 52 (gc (gw 54 (gw 55 (lG GX [0,1] (G _ _ · o j))))) (gw 55 (lG GX [0,1] (G _ _ · o j))))))))))) (bi 62 (lE GX [2] [0,1]) (bi 70 (lE GX [2] [0,1]) (lN GX [0,1] (G _ _ · n χ))))
 case l2 x3 x4 CT o1=>
  intro o j;refine rd j λo j=>?_
  revert r;apply gO;exact bi 79 (gi (jg zEe (bi 88 (gn λs=>jg s (bi 103 (ce G7 [0,1] [oW c q pos 1 ln,oI o1] λe=>jg jM (bi 119 (jg s (bi 134 (ce OC [0,1] [oW c q pos 1 ln,oI e] λ_=>gw 139 (lG GX [0,1] (G _ _ · o j))) (gw 139 (lG GX [0,1] (G _ _ · o j))))) (gw 139 (lG GX [0,1] (G _ _ · o j))))) (jg jM (bi 119 (jg s (bi 134 (ce OC [0,1] [oW c q pos 1 ln,oI o1] λ_=>gw 139 (lG GX [0,1] (G _ _ · o j))) (gw 139 (lG GX [0,1] (G _ _ · o j))))) (gw 139 (lG GX [0,1] (G _ _ · o j))))))) (jg jM (bi 119 (gi (bi 134 (ce OC [0,1] [oW c q pos 1 ln,oI o1] λ_=>gw 139 (lG GX [0,1] (G _ _ · o j))) (gw 139 (lG GX [0,1] (G _ _ · o j))))) (gw 139 (lG GX [0,1] (G _ _ · o j))))))))<|lE GX [2] [0,1]
def zPS{r:ζ×Ξ}(h:UV n c q pos ln lost=Z r):EQ 137 [.ref 0 0] [oW c q pos 1 ln,oI lost] (.bool r.1) [oW c q pos 1 ln,oI r.2] T:=by
 refine ot Tryz.func137 λϜ N=>?_
 revert r;apply gO;exact lN GX [0,1] ((zPV Ϝ N c q pos ln lost n) _ _ · n χ)
end
section
set_option maxRecDepth 100000
set_option maxHeartbeats 40000000
def zBh(n:E)(AP:U):M Unit:=Z ()
def zBi(n:E)(h:U):M Unit:=zBh n h
variable{n:E}
def zBg(a:U){r:Unit}(h:zBi n a=Z r):EQ 172 [.i a] [] (.fn 189 1<|L1 [.ref 0 0]) [oC [.i a]] D:=by
 refine ot Tryz.func172 λϜ N=>?_
 revert r;apply gO;exact lE AC [2] [0]
def Lx{x:U}(c:0<=x/\x<9223372036854775808)(h:DH):EQ 172 [.i x] h (.it<|F h) (h++[Z<|.iter<|(By x).map BY]) D:=by
 refine ES.iterOf (zBg (n:=0) x (r:=()) rfl) rfl Z5 (λargs W=>?_) (λw b o ϛ e p a hc k=>zBe c w b o ϛ e p a hc k) rfl (λb a=>?_) h
 ·exact Ox Tryz.func189 Z5 Z5 args W
 ·rw[a];decide
def qm:ST:=.rd 0<|.rd 1<|.rd 2<|.rd 3<|.rd 4<|.rd 5<|.rd 6<|.rd 7<|.rd 8<|.rd 9<|.rd 10<|.rd 11<|.rd 12<|.rd 13<|.rd 14<|.rd 15<|.rd 16<|.rd 17<|.rd 18<|.rd 19<|.ef 20 (.ef 21 (.fin [] [4,5])<|.no)<|.no
def zEZ:B3 (Ah Tryz.f171 4) [20] qm:=Z1
def ql:ST:=.rd 0<|.rd 1<|.ef 2 (.ef 3 (.fin [] [4,5])<|.no)<|.no
def zEY:B3 (Ah Tryz.f171 5) [2] ql:=Z1
def Zy:BG:=λi=>match i with
 |4=>.tre [20] qm
 |5=>.tre [2] ql
 |_=>.no
def zMc(c:AD)(q:AA)(pos:Ξ)(ln:E)(lost:Ξ):DH:=[oW c q pos 1 ln,oI lost,oC [.ref 0 0],oC [.i 100],oC [.i<|-1]]
def zMb(c:AD)(q:AA)(pos:Ξ)(ln:E)(lost:Ξ)(ss:U):DH:=[oW c q pos 1 ln,oI lost,oC [.ref 0 0],oC [.i 100],oC [.i<|-1],Z<|.iter<|(By ss).map BY]
def qP(c:AD)(q:AA)(pos:Ξ)(ln:E)(lost:Ξ)(n o:U):St:=⟨AI 32 [(4,.ref 3 0),(5,.ref 4 0)],([oW c q pos 1 ln,oI lost,oC [.ref 0 0],oC [.i n],oC [.i o],A]:DH)⟩
def zMa(c:AD)(q:AA)(pos:Ξ)(ln:E)(lost:Ξ)(Y a:U):DH:=[oW c q pos 1 ln,oI lost,oC [.ref 0 0],oC [.i Y],oC [.i a],A]
def qO(c:AD)(q:AA)(pos:Ξ)(ln:E)(lost:Ξ)(I Y a:U):St:=⟨AI 32 [(4,.ref 3 0),(5,.ref 4 0)],([oW c q pos 1 ln,oI lost,oC [.ref 0 0],oC [.i<|u (H q.va I.toNat 0<Y) (H q.va I.toNat 0) Y],oC [.i<|u (H q.va I.toNat 0>a) (H q.va I.toNat 0) a],A]:DH)⟩
inductive Oy where
 |s0 (Gy Gx:U)
def zM(c:AD)(q:AA)(pos:Ξ)(ln:E)(lost:Ξ):Oy->DH
 | .s0 Y a=>[oW c q pos 1 ln,oI lost,oC [.ref 0 0],oC [.i Y],oC [.i a],A]
def zL(n:E)(c:AD)(q:AA)(pos:Ξ)(ln:E)(lost:Ξ)(I:U)(Y a:U):M Oy:=u (0<=I/\I<(F q.va:U)) (Z<|.s0 (u (H q.va I.toNat 0<Y) (H q.va I.toNat 0) Y)<|u (H q.va I.toNat 0>a) (H q.va I.toNat 0) a) A
def zK(n:E)(c:AD)(q:AA)(pos:Ξ)(ln:E)(lost:Ξ)(I:U):Oy->M Oy
 | .s0 Y a=>zL n c q pos ln lost I Y a
def YA(n:E)(c:AD)(q:AA)(pos:Ξ)(ln:E)(lost:Ξ)(I:U)(s:Oy):M Oy:=zK n c q pos ln lost I s
def zOk(n:E)(c:AD)(q:AA)(pos:Ξ)(ln:E)(lost:Ξ)(l Ϝ:E)(N:Yd 6)(I:U)(s:Oy)(r:Oy)(h:YA n c q pos ln lost I s=Z r):TA l Ϝ N (Cw 6 [] 0<|zM c q pos ln lost r) Tryz.f171 8 ⟨AI 32 [(2,.ref 2 0),(4,.ref 3 0),(5,.ref 4 0),(8,.it 5),(9,.i I)],zM c q pos ln lost s⟩:=by
 cases s with
 |s0 Y b=>
  refine ag Zy [0,1,2,3,4,5] H0 (AI 32 [(2,.ref 2 0),(4,.ref 3 0),(5,.ref 4 0),(6,.i I)]) (zMa c q pos ln lost Y b) λN=>?_
  revert r;apply gO;exact jg zEZ<|gn λa=>jg a<|jg a<|jt<|jt<|jg (φ<|qO c q pos ln lost I Y b)<|lF λp=>rr (tg:=[([(20,3)],qO c q pos ln lost I Y b)]) Zy [0,1,2,3,4,5] rfl p
def zJ(n:E)(ss:U)(c:AD)(q:AA)(pos:Ξ)(ln:E)(lost:Ξ):M<|U×U×Ξ:=
 if 0<=ss/\ss<9223372036854775808 then
  (Bs (YA n c q pos ln lost) (By ss)<|.s0 100<|-1).bind λe=>
   match e with
   | .s0 a o=>
    Z (a,o,lost)
 else A
def YB(n:E)(ss:U)(c:AD)(q:AA)(pos:Ξ)(ln:E)(lost:Ξ):M<|U×U×Ξ:=zJ n ss c q pos ln lost
variable{lost pos:Ξ}{ln:E}{q:AA}{c:AD}
def UN{ss:U}{r:U×U×Ξ}(h:YB n ss c q pos ln lost=Z r):EQ 171 [.ref 0 0,.i ss] [oW c q pos 1 ln,oI lost] (.tup 2<|L1 [.i r.1,.i r.2.1]) [oW c q pos 1 ln,oI r.2.2] T:=by
 refine ot Tryz.func171 λϜ N=>?_
 revert r;apply gO
 exact jt<|jt<|gn λj=>jc (Lx j<|zMc c q pos ln lost) (cn λe f=>λp r h=>by
  refine gs Zy [0,1,2,3,4,5] p (Gn (Af Tryz.f171) 8 []) (AI 32 [(2,.ref 2 0),(4,.ref 3 0),(5,.ref 4 0),(8,.it 5)]) (zMb c q pos ln lost ss) ?_;refine r0 5 8 #[9] BY 6 f (zOk n c q pos ln lost) ?_;cases e with
  |s0 a o=>
   dsimp only at h
   revert r;apply gO;exact jg zEY<|jt<|jt<|jg (φ<|qP c q pos ln lost a o)<|lE (tg:=[([(2,3)],qP c q pos ln lost a o)]) Zy [4,5] [0,1,3,4])
def qV:ST:=.rd 0<|.rd 1<|.rd 2<|.rd 3<|.rd 4<|.rd 5<|.rd 6<|.rd 7<|.ef 8 (.rd 9<|.rd 10<|.rd 11<|.rd 12<|.rd 13<|.fin [] [1,3,4,7,8,19,20,21,90])<|.no
def zDH:B3 (Ah Tryz.f138 5) [] qV:=Z1
def qU:ST:=.rd 0<|.rd 1<|.rd 2<|.rd 3<|.rd 4<|.rd 5<|.ef 6 (.ef 7 (.fin [] [1,3,4,19,20,21,90])<|.no)<|.no
def zDG:B3 (Ah Tryz.f138 6) [6] qU:=Z1
def zDF:Ac (Ah Tryz.f138 8) [] (θ 16) []:=Z0
def qX:ST:=.rd 0<|.rd 1<|.rd 2<|.rd 3<|.rd 4<|.rd 5<|.rd 6<|.rd 7<|.ef 8 (.rd 9<|.rd 10<|.rd 11<|.ef 12 (.ef 13 (.ef 14 (.ef 15 (.fin [0,1] [1,3,4,10,11,12,64,65,66,90])<|.no)<|.no)<|.no)<|.ef 13 (.ef 12 (.ef 14 (.ef 15 (.fin [1,0] [1,3,4,10,11,12,64,65,66,90])<|.no)<|.no)<|.no)<|.no)<|.ef 12 (.ef 8 (.rd 9<|.rd 10<|.rd 11<|.ef 13 (.ef 14 (.ef 15 (.fin [0,1] [1,3,4,10,11,12,64,65,66,90])<|.no)<|.no)<|.no)<|.ef 13 (.ef 8 (.rd 9<|.rd 10<|.rd 11<|.ef 14 (.ef 15 (.fin [0,1] [1,3,4,10,11,12,64,65,66,90])<|.no)<|.no)<|.no)<|.no)<|.ef 13 (.ef 8 (.rd 9<|.rd 10<|.rd 11<|.ef 12 (.ef 14 (.ef 15 (.fin [1,0] [1,3,4,10,11,12,64,65,66,90])<|.no)<|.no)<|.no)<|.ef 12 (.ef 8 (.rd 9<|.rd 10<|.rd 11<|.ef 14 (.ef 15 (.fin [1,0] [1,3,4,10,11,12,64,65,66,90])<|.no)<|.no)<|.no)<|.no)<|.no
def zDK:B3 (Ah Tryz.f138 13) [12,13,14] qX:=Z1
def zDJ:Ac (Ah Tryz.f138 14) [([0,1,2,3,4,5,6],7)] [] []:=Z0
def zDI:Ac (Ah Tryz.f138 17) [] (θ 24) []:=Z0
def qW:ST:=.rd 0<|.rd 1<|.rd 2<|.rd 3<|.ef 4 (.fin [] [2])<|.no
def sG:B3 (Ah Tryz.f138 18) [] qW:=Z1
def I3:BG:=λi=>match i with
 |5=>.tre [] qV
 |6=>.tre [6] qU
 |8=>.ord [] (θ 16) []
 |13=>.tre [12,13,14] qX
 |14=>.ord [([0,1,2,3,4,5,6],7)] [] []
 |17=>.ord [] (θ 24) []
 |18=>.tre [] qW
 |_=>.no
def zLg(c:AD)(q:AA)(pos:Ξ)(ln:E)(o1:Ξ)(v a:U):DH:=[oW c q pos 1 ln,oI o1,oC [.ref 0 0],oC [.i v],oC [.i a]]
def qA(e:U×U×Ξ)(c:AD)(x21:U)(q:AA)(pos:Ξ)(ln:E)(v a:U):St:=⟨AI 129 [(1,.ref 2 0),(3,.ref 3 0),(4,.ref 4 0),(7,.i e.1),(8,.i e.2.1),(19,.ints c.ce),(20,.i (F c.ce:U)),(21,.i x21)],([oW c q pos 1 ln,oI e.2.2,oC [.ref 0 0],oC [.i v],oC [.i a]]:DH)⟩
def p9(c:AD)(x21:U)(q:AA)(pos:Ξ)(ln:E)(e:U×U×Ξ)(v a:U):St:=⟨AI 129 [(1,.ref 2 0),(3,.ref 3 0),(4,.ref 4 0),(19,.ints c.ce),(20,.i (F c.ce:U)),(21,.i x21)],([oW c q pos 1 ln,oI e.2.2,oC [.ref 0 0],oC [.i<|v+e.1],oC [.i<|a+e.2.1]]:DH)⟩
def zLf(c:AD)(q:AA)(pos:Ξ)(ln:E)(o1:Ξ)(v a S:U):DH:=[oW c q pos 1 ln,oI o1,oC [.ref 0 0],oC [.i v],oC [.i a],oC [.i<|H c.ce S.toNat 0]]
def PW(c:AD)(S:U)(q:AA)(pos:Ξ)(ln:E)(e:U×U×Ξ)(v a:U):St:=⟨AI 129 [(1,.ref 2 0),(3,.ref 3 0),(4,.ref 4 0),(10,.ref 5 0),(11,.ref 6 0),(12,.ref 7 0),(64,.ints c.ce),(65,.i (F c.ce:U)),(66,.i S)],([oW c q pos 1 ln,oI e.2.2,oC [.ref 0 0],oC [.i v],oC [.i a],oC [.i<|H c.ce S.toNat 0],oC [.i e.1],oC [.i e.2.1]]:DH)⟩
def xC(c:AD)(q:AA)(pos:Ξ)(ln:E)(o1:Ξ)(v a S:U):DH:=[oW c q pos 1 ln,oI o1,oC [.ref 0 0],oC [.i v],oC [.i a],oC [.i<|H c.ce S.toNat 0],oC [.i 0]]
def xB(c:AD)(q:AA)(pos:Ξ)(ln:E)(o1:Ξ)(v a S:U):DH:=[oW c q pos 1 ln,oI o1,oC [.ref 0 0],oC [.i v],oC [.i a],oC [.i<|H c.ce S.toNat 0],oC [.i 0],oC [.i 0]]
def zLe(c:AD)(q:AA)(pos:Ξ)(ln:E)(e:U×U×Ξ)(v a S:U):DH:=[oW c q pos 1 ln,oI e.2.2,oC [.ref 0 0],oC [.i v],oC [.i a],oC [.i<|H c.ce S.toNat 0],oC [.i e.1],oC [.i e.2.1]]
def zLd(c:AD)(q:AA)(pos:Ξ)(ln:E)(e:U×U×Ξ)(v a S:U):DH:=[oW c q pos 1 ln,oI e.2.2,oC [.ref 0 0],oC [.i v],oC [.i a],oC [.i<|H c.ce S.toNat 0],oC [.i e.1],oC [.i e.2.1],Z<|.iter<|(By<|H pos (H c.ce S.toNat 0).toNat 0).map BY]
def mO(c:AD)(q:AA)(pos:Ξ)(ln:E)(s:Ξ)(v a S:U)(e:U×U×Ξ):DH:=[oW c q pos 1 ln,oI s,oC [.ref 0 0],oC [.i v],oC [.i a],oC [.i<|H c.ce S.toNat 0],oC [.i e.1],oC [.i e.2.1],A]
def ZO(c:AD)(q:AA)(pos:Ξ)(ln:E)(o:Ξ)(v a S:U)(e:U×U×Ξ):St:=⟨AI 129 [],([oW c q pos 1 ln,oI o,oC [.ref 0 0],oC [.i v],oC [.i a],oC [.i<|H c.ce S.toNat 0],oC [.i e.1],oC [.i e.2.1],A]:DH)⟩
inductive Ly where
 |s0 (HT:Ξ)
def qt(c:AD)(S:U)(q:AA)(pos:Ξ)(ln:E)(v a:U)(e:U×U×Ξ):Ly->DH
 | .s0 s=>[oW c q pos 1 ln,oI s,oC [.ref 0 0],oC [.i v],oC [.i a],oC [.i<|H c.ce S.toNat 0],oC [.i e.1],oC [.i e.2.1],A]
def ZV(n:E)(c:AD)(S:U)(q:AA)(pos:Ξ)(ln:E)(v a:U)(e:U×U×Ξ)(t:U)(s:Ξ):M Ly:=u ((0<=t/\t<(F q.va:U))/\AG (v-e.1)/\AG ((v-e.1)+H q.va t.toNat 0)) (B (C<|((v-e.1)+H q.va t.toNat 0)>c.hi) (u (0<=t/\t<=(IntKind.i64.bits:U)) ((D0 n (H c.ce S.toNat 0) (IntKind.i64.wrap<|1*2^(t).toNat) c q pos ln s).bind λo=>Z<|.s0 o) A)<|u (AG (a-e.2.1)/\AG ((a-e.2.1)+H q.va t.toNat 0)) (B (C<|((a-e.2.1)+H q.va t.toNat 0)<c.lo) (u (0<=t/\t<=(IntKind.i64.bits:U)) ((D0 n (H c.ce S.toNat 0) (IntKind.i64.wrap<|1*2^(t).toNat) c q pos ln s).bind λo=>Z<|.s0 o) A)<|Z<|.s0 s) A) A
def qs(n:E)(c:AD)(S:U)(q:AA)(pos:Ξ)(ln:E)(v a:U)(e:U×U×Ξ)(t:U):Ly->M Ly
 | .s0 s=>ZV n c S q pos ln v a e t s
def ZW(n:E)(c:AD)(S:U)(q:AA)(pos:Ξ)(ln:E)(v a:U)(e:U×U×Ξ)(t:U)(s:Ly):M Ly:=qs n c S q pos ln v a e t s
def zBp(n:E)(c:AD)(S:U)(q:AA)(pos:Ξ)(ln:E)(v a:U)(e:U×U×Ξ)(l Ϝ:E)(N:Yd 9)(t:U)(s:Ly)(r:Ly)(h:ZW n c S q pos ln v a e t s=Z r):TA l Ϝ N (Cw 9 [] 0<|qt c S q pos ln v a e r) Tryz.f138 89 ⟨AI 129 [(1,.ref 2 0),(3,.ref 3 0),(4,.ref 4 0),(10,.ref 5 0),(11,.ref 6 0),(12,.ref 7 0),(64,.ints c.ce),(65,.i (F c.ce:U)),(66,.i S),(89,.it 8),(90,.i t)],qt c S q pos ln v a e s⟩:=by
 cases s with
 |s0 b=>
  replace h:ZV n c S q pos ln v a e t b=Z r:=h;unfold ZV at h;refine ag I3 [0,1,2,3,4,5,6,7,8] H0 (AI 129 [(1,.ref 2 0),(3,.ref 3 0),(4,.ref 4 0),(10,.ref 5 0),(11,.ref 6 0),(12,.ref 7 0),(13,.i t)]) (mO c q pos ln b v a S e) λN=>?_
  revert r;apply gO;exact gc<|gi<|jg zDI<|gc<|gw 101<|gw 103<|bi 109 (jg sG<|gi<|ce G7 [0,1] (mO c q pos ln b v a S e) λo=>jg (φ<|ZO c q pos ln o v a S e)<|lF λp=>rr (tg:=[([],ZO c q pos ln o v a S e)]) I3 [0,1,2,3,4,5,6,7,8] rfl p)<|gc<|gw 113<|gw 115<|bi 121 (jg sG<|gi<|ce G7 [0,1] (mO c q pos ln b v a S e) λo=>jg (φ<|ZO c q pos ln o v a S e)<|lF λp=>rr (tg:=[([],ZO c q pos ln o v a S e)]) I3 [0,1,2,3,4,5,6,7,8] rfl p)<|lF λp=>rr I3 [0,1,2,3,4,5,6,7,8] rfl p
inductive Uy where
 |l1 (x21:U) (o1:Ξ) (BB Az:U)
 |l2 (Ax:U) (o1:Ξ) (BB Az:U)
def Ux(n:E)(self:Uy->X6)(c:AD)(q:AA)(pos:Ξ)(ln:E)(lost:Ξ)(x21:U)(o1:Ξ)(v a:U):X6:=B (C<|x21<(F c.ce:U)) (u ((0<=x21/\x21<(F c.ce:U))/\(0<=H c.ce x21.toNat 0/\H c.ce x21.toNat 0<(F pos:U))) ((YB n (H pos (H c.ce x21.toNat 0).toNat 0) c q pos ln o1).bind λe=>u (AG (v+e.1)/\AG (a+e.2.1)/\AG (x21+1)) (self<|.l1 (x21+1) e.2.2 (v+e.1)<|a+e.2.1) A) A)<|B (C<|v>c.hi) (Z (T,o1))<|B (C<|a<c.lo) (Z (T,o1))<|self<|.l2 0 o1 v a
def ZU(n:E)(self:Uy->X6)(c:AD)(q:AA)(pos:Ξ)(ln:E)(lost:Ξ)(S:U)(o1:Ξ)(v a:U):X6:=
 bif(C<|S<(F c.ce:U))then
  if(0<=S/\S<(F c.ce:U))/\(0<=H c.ce S.toNat 0/\H c.ce S.toNat 0<(F pos:U))then
   (YB n (H pos (H c.ce S.toNat 0).toNat 0) c q pos ln o1).bind λe=>
    if 0<=H pos (H c.ce S.toNat 0).toNat 0/\H pos (H c.ce S.toNat 0).toNat 0<9223372036854775808 then
     (Bs (ZW n c S q pos ln v a e) (By<|H pos (H c.ce S.toNat 0).toNat 0)<|.s0 e.2.2).bind λr=>
      match r with
      | .s0 b=>
       if AG (S+1)then
        self (.l2 (S+1) b v a)
       else A
    else A
  else A
 else
  Z (D,o1)
def zBo(n:E)(self:Uy->X6)(c:AD)(q:AA)(pos:Ξ)(ln:E)(lost:Ξ):X6:=self<|.l1 0 lost 0 0
def Jf(c:AD)(q:AA)(pos:Ξ)(ln:E)(lost:Ξ):E->Uy->X6
 |0,_=>A
 |n+1,.l1 x21 o1 v a=>Ux n (Jf c q pos ln lost n) c q pos ln lost x21 o1 v a
 |n+1,.l2 S o1 v a=>ZU n (Jf c q pos ln lost n) c q pos ln lost S o1 v a
def SH(n:E)(c:AD)(q:AA)(pos:Ξ)(ln:E)(lost:Ξ):X6:=zBo n (Jf c q pos ln lost n) c q pos ln lost
def zBq(n Ϝ:E)(N:Yd 2)(c:AD)(q:AA)(pos:Ξ)(ln:E)(lost:Ξ)(r:ζ×Ξ):Uy->Prop:=px n Ϝ η N (FQ Tryz.f138 2 (.bool r.1) [oW c q pos 1 ln,oI r.2]) (Af Tryz.f138) λ
 | .l1 x21 o1 v a=>(0,0,AI 129 [(1,.ref 2 0),(3,.ref 3 0),(4,.ref 4 0),(19,.ints c.ce),(20,.i (F c.ce:U)),(21,.i x21)],[oW c q pos 1 ln,oI o1,oC [.ref 0 0],oC [.i v],oC [.i a]])
 | .l2 S o1 v a=>(0,2,AI 129 [(1,.ref 2 0),(3,.ref 3 0),(4,.ref 4 0),(64,.ints c.ce),(65,.i (F c.ce:U)),(66,.i S)],[oW c q pos 1 ln,oI o1,oC [.ref 0 0],oC [.i v],oC [.i a]])
def zBr(Ϝ:E)(N:Yd 2)(c:AD)(q:AA)(pos:Ξ)(ln:E)(lost:Ξ):Al (Jf c q pos ln lost) (zBq · Ϝ N c q pos ln lost):=ia (λ_=>rfl) λn G a r h=>by
 cases a
 case l1 x21 o1 BB Az=>
  intro o j;refine rd j λo j=>?_
  revert r;apply gO;exact bi 22 (gc (gi (jg zDH (gi (ce UN [0,1] (zLg c q pos ln o1 BB Az) λe=>jg (φ<|qA e c x21 q pos ln BB Az) (jg zDG (gc (gw 39 (gc (gw 42 (jt (jt (jg (φ<|p9 c x21 q pos ln e BB Az) (gw 43 (lG (tg:=[([],qA e c x21 q pos ln BB Az),([(6,3)],p9 c x21 q pos ln e BB Az)]) I3 [0,1,2,3,4] (G _ _ · o j)))))))))))))))) (jg zDF (bi 50 (lE I3 [2] [0,1]) (bi 58 (lE I3 [2] [0,1]) (lN I3 [0,1,2,3,4] (G _ _ · n χ)))))
 case l2 Ax o1 BB Az=>
  intro o j;refine rd j λo j=>?_
  revert r;apply gO
  exact bi 67 (gc (gi (jt (jg zDK (gn λs=>jg s (cn λe f=>jc (em (UN f) [0,1]<|zLf c q pos ln o1 BB Az Ax) (jt (jt (jg (φ<|PW c Ax q pos ln e BB Az) (jt (jt (jg (φ<|PW c Ax q pos ln e BB Az) (jc (em (UN f) [0,1]<|xC c q pos ln o1 BB Az Ax) (jt (jt (jg (φ<|PW c Ax q pos ln e BB Az) (jc (em (UN f) [0,1]<|xB c q pos ln o1 BB Az Ax) (jt (jt (jg (φ<|PW c Ax q pos ln e BB Az) (jc (em (UN f) [0,1]<|xC c q pos ln o1 BB Az Ax) (jt (jt (jg (φ<|PW c Ax q pos ln e BB Az) (jc (em (UN f) [0,1]<|xB c q pos ln o1 BB Az Ax) (jt (jt (jg (φ<|PW c Ax q pos ln e BB Az) (jg zDJ (jg s (gn λy=>jc (Lx y<|zLe c q pos ln e BB Az Ax) (cn λb K=>λp r h=>by
   refine gs (tg:=[([],PW c Ax q pos ln e BB Az)]) I3 [0,1,2,3,4,5,6,7,8] p (Gn (Af Tryz.f138) 89 [o]) (AI 129 [(1,.ref 2 0),(3,.ref 3 0),(4,.ref 4 0),(10,.ref 5 0),(11,.ref 6 0),(12,.ref 7 0),(64,.ints c.ce),(65,.i (F c.ce:U)),(66,.i Ax),(89,.it 8)]) (zLd c q pos ln e BB Az Ax) ?_;refine r0 8 89 #[90] BY 9 K (zBp n c Ax q pos ln BB Az e) ?_;cases b with
   |s0 Ew=>
    dsimp only at h
    revert r;apply gO;exact gw 128 (lG I3 [0,1,2,3,4] (G _ _ · o j))))))))))))))))))))))))))))))))))<|lE I3 [2] [0,1]
def zBn{r:ζ×Ξ}(h:SH n c q pos ln lost=Z r):EQ 138 [.ref 0 0] [oW c q pos 1 ln,oI lost] (.bool r.1) [oW c q pos 1 ln,oI r.2] T:=by
 refine ot Tryz.func138 λϜ N=>?_
 revert r;apply gO;exact jt (jt (lN I3 [0,1,2,3,4] ((zBr Ϝ N c q pos ln lost n) _ _ · n χ)))
end
section
set_option maxRecDepth 100000
set_option maxHeartbeats 40000000
def zEi:Ac (Ah Tryz.f177 1) [] (θ 18) []:=Z0
def zC4:BG:=λi=>match i with
 |1=>.ord [] (θ 18) []
 |_=>.no
def zAk(n:E)(V p:U)(c:AD)(q:AA)(pos:Ξ)(ln:E)(lost:Ξ):X6:=u ((0<=V/\V<(F q.va:U))/\(0<=p/\p<(F q.va:U))/\AG (H q.va V.toNat 0-H q.va p.toNat 0)/\AG (0-(H q.va V.toNat 0-H q.va p.toNat 0))) (Z (C<|(u ((0-(H q.va V.toNat 0-H q.va p.toNat 0))>(H q.va V.toNat 0-H q.va p.toNat 0)) (0-(H q.va V.toNat 0-H q.va p.toNat 0))<|H q.va V.toNat 0-H q.va p.toNat 0)>=c.lo,lost)) A
def iC(n:E)(V p:U)(c:AD)(q:AA)(pos:Ξ)(ln:E)(lost:Ξ):X6:=zAk n V p c q pos ln lost
variable{r:ζ×Ξ}{lost pos:Ξ}{ln n:E}{q:AA}{c:AD}{V p:U}
def zQ1(h:iC n V p c q pos ln lost=Z r):EQ 177 [.i V,.i p,.ref 0 0] [oC [.ref 1 0],oW c q pos 2 ln,oI lost] (.bool r.1) [oC [.ref 1 0],oW c q pos 2 ln,oI r.2] T:=by
 refine ot Tryz.func177 λϜ N=>?_
 revert r;apply gO;exact jg zEi<|gc<|gi<|gc<|gi<|gc<|gw 23<|gw 26<|lE zC4 [5] [0,1,2]
def zD8:Ac (Ah Tryz.f178 1) [] (θ 6) []:=Z0
def VR:BG:=λi=>match i with
 |1=>.ord [] (θ 6) []
 |_=>.no
def vS(n:E)(V p:U)(c:AD)(q:AA)(pos:Ξ)(ln:E)(lost:Ξ):X6:=u ((0<=V/\V<=(IntKind.i64.bits:U))/\(0<=p/\p<=(IntKind.i64.bits:U))) (B (bits .and .i64 (IntKind.i64.wrap<|1*2^(V).toNat) c.set==0) (B (bits .and .i64 (IntKind.i64.wrap<|1*2^(p).toNat) c.set==0) (Z (D,lost))<|Z (bits .and .i64 (IntKind.i64.wrap<|1*2^(V).toNat) c.other==0,lost))<|B (bits .and .i64 (IntKind.i64.wrap<|1*2^(p).toNat) c.other==0) (B (bits .and .i64 (IntKind.i64.wrap<|1*2^(p).toNat) c.set==0) (Z (D,lost))<|Z (bits .and .i64 (IntKind.i64.wrap<|1*2^(V).toNat) c.other==0,lost))<|Z (T,lost)) A
def cS(n:E)(V p:U)(c:AD)(q:AA)(pos:Ξ)(ln:E)(lost:Ξ):X6:=vS n V p c q pos ln lost
def zId(h:cS n V p c q pos ln lost=Z r):EQ 178 [.i V,.i p,.ref 0 0] [oC [.ref 1 0],oW c q pos 2 ln,oI lost] (.bool r.1) [oC [.ref 1 0],oW c q pos 2 ln,oI r.2] T:=by
 refine ot Tryz.func178 λϜ N=>?_
 revert r;apply gO;exact jg zD8<|gc<|gi<|gi<|bi 19 (bi 38 (lE VR [5] [0,1,2])<|lE VR [5] [0,1,2])<|bi 28 (bi 38 (lE VR [5] [0,1,2])<|lE VR [5] [0,1,2])<|lE VR [5] [0,1,2]
def zD6:Ac (Ah Tryz.f176 1) [] (θ 16) []:=Z0
def zD4:Ac (Ah Tryz.f176 2) [([0,1,2,3,4,5,6,7,8,9,10,11,12,13],14)] [15] [16]:=Z0
def zD3:Ac (Ah Tryz.f176 9) [] [0,1,2,3] [4]:=Z0
def zD5:Ac (Ah Tryz.f176 10) [] [0,1,2,3] [4]:=Z0
def NW:BG:=λi=>match i with
 |1=>.ord [] (θ 16) []
 |2=>.ord [([0,1,2,3,4,5,6,7,8,9,10,11,12,13],14)] [15] [16]
 |9=>.ord [] [0,1,2,3] [4]
 |10=>.ord [] [0,1,2,3] [4]
 |_=>.no
def zMV(c:AD)(q:AA)(pos:Ξ)(ln:E)(lost:Ξ):DH:=[oC [.ref 1 0],oW c q pos 2 ln,oI lost,oC [.fn 177 1<|L1 [.ref 0 0]],oC [.i<|H pos (H c.ce 1 0).toNat 0],oC [.i 0],oC [.i 0]]
def zMU(c:AD)(q:AA)(pos:Ξ)(ln:E)(lost:Ξ):DH:=[oC [.ref 1 0],oW c q pos 2 ln,oI lost,oC [.fn 177 1<|L1 [.ref 0 0]],oC [.i<|H pos (H c.ce 1 0).toNat 0],oC [.i 0],oC [.i 0],Z<|.iter<|(By<|H pos (H c.ce 0 0).toNat 0).map BY]
def zMT(c:AD)(q:AA)(pos:Ξ)(ln:E)(n:Ξ)(o f:U):DH:=[oC [.ref 1 0],oW c q pos 2 ln,oI n,oC [.fn 177 1<|L1 [.ref 0 0]],oC [.i<|H pos (H c.ce 1 0).toNat 0],oC [.i o],oC [.i f],A]
def zMS(c:AD)(q:AA)(pos:Ξ)(ln:E)(r:Ξ)(o f:U):DH:=[oC [.ref 1 0],oW c q pos 2 ln,oI r,oC [.fn 177 1<|L1 [.ref 0 0]],oC [.i<|H pos (H c.ce 1 0).toNat 0],oC [.i o],oC [.i f],A]
def xK(c:AD)(q:AA)(pos:Ξ)(ln:E)(f:Ξ)(g h R:U):DH:=[oC [.ref 1 0],oW c q pos 2 ln,oI f,oC [.fn 177 1<|L1 [.ref 0 0]],oC [.i<|H pos (H c.ce 1 0).toNat 0],oC [.i g],oC [.i h],A,oC [.i R]]
def zMR(c:AD)(q:AA)(pos:Ξ)(ln:E)(f:Ξ)(g h R:U):DH:=[oC [.ref 1 0],oW c q pos 2 ln,oI f,oC [.fn 177 1<|L1 [.ref 0 0]],oC [.i<|H pos (H c.ce 1 0).toNat 0],oC [.i g],oC [.i h],A,oC [.i R],Z<|.iter<|(By<|H pos (H c.ce 1 0).toNat 0).map BY]
def xJ(c:AD)(q:AA)(pos:Ξ)(ln:E)(J:Ξ)(a e R:U):DH:=[oC [.ref 1 0],oW c q pos 2 ln,oI J,oC [.fn 177 1<|L1 [.ref 0 0]],oC [.i<|H pos (H c.ce 1 0).toNat 0],oC [.i a],oC [.i e],A,oC [.i R],A]
inductive MI where
 |s0 (ED:Ξ) (Di Dh:U)
def vC(c:AD)(q:AA)(pos:Ξ)(ln:E)(R:U):MI->DH
 | .s0 J a e=>[oC [.ref 1 0],oW c q pos 2 ln,oI J,oC [.fn 177 1<|L1 [.ref 0 0]],oC [.i<|H pos (H c.ce 1 0).toNat 0],oC [.i a],oC [.i e],A,oC [.i R],A]
def cD(n:E)(c:AD)(q:AA)(pos:Ξ)(ln:E)(R x:U)(J:Ξ)(a e:U):M MI:=(iC n R x c q pos ln J).bind λs=>B s.1 (u ((0<=R/\R<=(IntKind.i64.bits:U))/\(0<=x/\x<=(IntKind.i64.bits:U))) (Z<|.s0 s.2 (bits .or .i64 a<|IntKind.i64.wrap<|1*2^(R).toNat)<|bits .or .i64 e<|IntKind.i64.wrap<|1*2^(x).toNat) A)<|Z<|.s0 s.2 a e
def vB(n:E)(c:AD)(q:AA)(pos:Ξ)(ln:E)(R x:U):MI->M MI
 | .s0 J a e=>cD n c q pos ln R x J a e
def cE(n:E)(c:AD)(q:AA)(pos:Ξ)(ln:E)(R x:U)(s:MI):M MI:=vB n c q pos ln R x s
def zII(n:E)(c:AD)(q:AA)(pos:Ξ)(ln:E)(R:U)(l Ϝ:E)(N:Yd 10)(x:U)(s:MI)(r:MI)(h:cE n c q pos ln R x s=Z r):TA l Ϝ N (Cw 10 [] 0<|vC c q pos ln R r) Tryz.f176 45 ⟨AI 69 [(3,.ref 3 0),(9,.ref 5 0),(10,.ref 6 0),(11,.ref 8 0),(45,.it 9),(46,.i x)],vC c q pos ln R s⟩:=by
 cases s with
 |s0 J a e=>
  replace h:cD n c q pos ln R x J a e=Z r:=h;unfold cD at h;refine ag NW [0,1,2,3,4,5,6,7,8,9] H0 (AI 69 [(3,.ref 3 0),(9,.ref 5 0),(10,.ref 6 0),(11,.ref 8 0),(12,.i x)]) (xJ c q pos ln J a e R) λN=>?_
  revert r;apply gO;exact ce zQ1 [0,1,2] (xJ c q pos ln J a e R) λ_=>bi 50 (jg zD3<|gc<|gi<|jt<|jg zD5<|gi<|jt<|lF λp=>rr NW [0,1,2,3,4,5,6,7,8,9] rfl p)<|lF λp=>rr NW [0,1,2,3,4,5,6,7,8,9] rfl p
inductive MJ where
 |s0 (DE:Ξ) (DD DC:U)
def vD(c:AD)(q:AA)(pos:Ξ)(ln:E):MJ->DH
 | .s0 f g h=>[oC [.ref 1 0],oW c q pos 2 ln,oI f,oC [.fn 177 1<|L1 [.ref 0 0]],oC [.i<|H pos (H c.ce 1 0).toNat 0],oC [.i g],oC [.i h],A]
def cC(n:E)(c:AD)(q:AA)(pos:Ξ)(ln:E)(R:U)(f:Ξ)(g h:U):M MJ:=
 if 0<=H pos (H c.ce 1 0).toNat 0/\H pos (H c.ce 1 0).toNat 0<9223372036854775808 then
  (Bs (cE n c q pos ln R) (By<|H pos (H c.ce 1 0).toNat 0)<|.s0 f g h).bind λt=>
   match t with
   | .s0 r s a=>
    Z (.s0 r s a)
 else A
def vA(n:E)(c:AD)(q:AA)(pos:Ξ)(ln:E)(R:U):MJ->M MJ
 | .s0 f g h=>cC n c q pos ln R f g h
def cF(n:E)(c:AD)(q:AA)(pos:Ξ)(ln:E)(R:U)(s:MJ):M MJ:=vA n c q pos ln R s
def zIH(n:E)(c:AD)(q:AA)(pos:Ξ)(ln:E)(l Ϝ:E)(N:Yd 8)(R:U)(s:MJ)(r:MJ)(h:cF n c q pos ln R s=Z r):TA l Ϝ N (Cw 8 [] 0<|vD c q pos ln r) Tryz.f176 42 ⟨AI 69 [(0,.ref 1 0),(3,.ref 3 0),(5,.i<|H c.ce 0 0),(6,.i<|H c.ce 1 0),(8,.ref 4 0),(9,.ref 5 0),(10,.ref 6 0),(42,.it 7),(43,.i R)],vD c q pos ln s⟩:=by
 cases s with
 |s0 f g a=>
  replace h:cC n c q pos ln R f g a=Z r:=h;unfold cC at h;refine ag NW [0,1,2,3,4,5,6,7,8] H0.t (AI 69 [(3,.ref 3 0),(8,.ref 4 0),(9,.ref 5 0),(10,.ref 6 0),(11,.ref 8 0)]) (xK c q pos ln f g a R) λN=>?_
  revert r;apply gO
  exact gn λK=>jc (Lx K<|xK c q pos ln f g a R) (cn λb e=>λp r h=>by
   refine gs NW [0,1,2,3,4,5,6,7,8,9] p (Gn (af Tryz.f176 42) 45 []) (AI 69 [(3,.ref 3 0),(9,.ref 5 0),(10,.ref 6 0),(11,.ref 8 0),(45,.it 9)]) (zMR c q pos ln f g a R) ?_;refine r0 9 45 #[46] BY 10 e (zII n c q pos ln R) ?_;cases b with
   |s0 Yi Yh Yg=>
    dsimp only at h
    revert r;apply gO;exact lF λp=>rr NW [0,1,2,3,4,5,6,7] rfl p)
def u9(n:E)(c:AD)(q:AA)(pos:Ξ)(ln:E)(lost:Ξ):X6:=
 if((0:U)<=0/\0<(F c.ce:U))/\((0:U)<=1/\1<(F c.ce:U))/\(0<=H c.ce 0 0/\H c.ce 0 0<(F pos:U))/\(0<=H c.ce 1 0/\H c.ce 1 0<(F pos:U))/\(0<=H pos (H c.ce 0 0).toNat 0/\H pos (H c.ce 0 0).toNat 0<9223372036854775808)then
  (Bs (cF n c q pos ln) (By<|H pos (H c.ce 0 0).toNat 0)<|.s0 lost 0 0).bind λe=>
   match e with
   | .s0 a o f=>
    (D0 n (H c.ce 0 0) (bits .xor .i64 (-1) o) c q pos ln a).bind λr=>
     (D0 n (H c.ce 1 0) (bits .xor .i64 (-1) f) c q pos ln r).bind λy3=>
      Z (D,y3)
 else A
def ke(n:E)(c:AD)(q:AA)(pos:Ξ)(ln:E)(lost:Ξ):X6:=u9 n c q pos ln lost
def zIG(h:ke n c q pos ln lost=Z r):EQ 176 [.ref 1 0,.fn 177 1<|L1 [.ref 0 0]] [oC [.ref 1 0],oW c q pos 2 ln,oI lost] (.bool r.1) [oC [.ref 1 0],oW c q pos 2 ln,oI r.2] T:=by
 refine ot Tryz.func176 λϜ N=>?_
 revert r;apply gO
 exact jg zD6<|gc<|gi<|gc<|gi<|jg zD4<|gc<|gi<|gc<|gi<|jt<|gn λJ=>jc (Lx J<|zMV c q pos ln lost) (cn λe a=>λp r h=>by
  refine gs NW [0,1,2,3,4,5,6,7] p (Gn (Af Tryz.f176) 42 []) (AI 69 [(0,.ref 1 0),(3,.ref 3 0),(5,.i<|H c.ce 0 0),(6,.i<|H c.ce 1 0),(8,.ref 4 0),(9,.ref 5 0),(10,.ref 6 0),(42,.it 7)]) (zMU c q pos ln lost) ?_;refine r0 7 42 #[43] BY 8 a (zIH n c q pos ln) ?_;cases e with
  |s0 b o f=>
   dsimp only at h
   revert r;apply gO;exact ce G7 [1,2] (zMT c q pos ln b o f) λg=>ce G7 [1,2] (zMS c q pos ln g o f) λ_=>lE NW [4] [0,1,2])
def zD2:Ac (Ah Tryz.f176 1) [] (θ 16) []:=Z0
def zD0:Ac (Ah Tryz.f176 2) [([0,1,2,3,4,5,6,7,8,9,10,11,12,13],14)] [15] [16]:=Z0
def zDz:Ac (Ah Tryz.f176 9) [] [0,1,2,3] [4]:=Z0
def zD1:Ac (Ah Tryz.f176 10) [] [0,1,2,3] [4]:=Z0
def NV:BG:=λi=>match i with
 |1=>.ord [] (θ 16) []
 |2=>.ord [([0,1,2,3,4,5,6,7,8,9,10,11,12,13],14)] [15] [16]
 |9=>.ord [] [0,1,2,3] [4]
 |10=>.ord [] [0,1,2,3] [4]
 |_=>.no
def zMQ(c:AD)(q:AA)(pos:Ξ)(ln:E)(lost:Ξ):DH:=[oC [.ref 1 0],oW c q pos 2 ln,oI lost,oC [.fn 178 1<|L1 [.ref 0 0]],oC [.i<|H pos (H c.ce 1 0).toNat 0],oC [.i 0],oC [.i 0]]
def zMP(c:AD)(q:AA)(pos:Ξ)(ln:E)(lost:Ξ):DH:=[oC [.ref 1 0],oW c q pos 2 ln,oI lost,oC [.fn 178 1<|L1 [.ref 0 0]],oC [.i<|H pos (H c.ce 1 0).toNat 0],oC [.i 0],oC [.i 0],Z<|.iter<|(By<|H pos (H c.ce 0 0).toNat 0).map BY]
def zMO(c:AD)(q:AA)(pos:Ξ)(ln:E)(n:Ξ)(o f:U):DH:=[oC [.ref 1 0],oW c q pos 2 ln,oI n,oC [.fn 178 1<|L1 [.ref 0 0]],oC [.i<|H pos (H c.ce 1 0).toNat 0],oC [.i o],oC [.i f],A]
def zMN(c:AD)(q:AA)(pos:Ξ)(ln:E)(r:Ξ)(o f:U):DH:=[oC [.ref 1 0],oW c q pos 2 ln,oI r,oC [.fn 178 1<|L1 [.ref 0 0]],oC [.i<|H pos (H c.ce 1 0).toNat 0],oC [.i o],oC [.i f],A]
def xI(c:AD)(q:AA)(pos:Ξ)(ln:E)(f:Ξ)(g h R:U):DH:=[oC [.ref 1 0],oW c q pos 2 ln,oI f,oC [.fn 178 1<|L1 [.ref 0 0]],oC [.i<|H pos (H c.ce 1 0).toNat 0],oC [.i g],oC [.i h],A,oC [.i R]]
def zMM(c:AD)(q:AA)(pos:Ξ)(ln:E)(f:Ξ)(g h R:U):DH:=[oC [.ref 1 0],oW c q pos 2 ln,oI f,oC [.fn 178 1<|L1 [.ref 0 0]],oC [.i<|H pos (H c.ce 1 0).toNat 0],oC [.i g],oC [.i h],A,oC [.i R],Z<|.iter<|(By<|H pos (H c.ce 1 0).toNat 0).map BY]
def xH(c:AD)(q:AA)(pos:Ξ)(ln:E)(J:Ξ)(a e R:U):DH:=[oC [.ref 1 0],oW c q pos 2 ln,oI J,oC [.fn 178 1<|L1 [.ref 0 0]],oC [.i<|H pos (H c.ce 1 0).toNat 0],oC [.i a],oC [.i e],A,oC [.i R],A]
inductive MG where
 |s0 (ED:Ξ) (Di Dh:U)
def u6(c:AD)(q:AA)(pos:Ξ)(ln:E)(R:U):MG->DH
 | .s0 J a e=>[oC [.ref 1 0],oW c q pos 2 ln,oI J,oC [.fn 178 1<|L1 [.ref 0 0]],oC [.i<|H pos (H c.ce 1 0).toNat 0],oC [.i a],oC [.i e],A,oC [.i R],A]
def bz(n:E)(c:AD)(q:AA)(pos:Ξ)(ln:E)(R x:U)(J:Ξ)(a e:U):M MG:=(cS n R x c q pos ln J).bind λs=>B s.1 (u ((0<=R/\R<=(IntKind.i64.bits:U))/\(0<=x/\x<=(IntKind.i64.bits:U))) (Z<|.s0 s.2 (bits .or .i64 a<|IntKind.i64.wrap<|1*2^(R).toNat)<|bits .or .i64 e<|IntKind.i64.wrap<|1*2^(x).toNat) A)<|Z<|.s0 s.2 a e
def u5(n:E)(c:AD)(q:AA)(pos:Ξ)(ln:E)(R x:U):MG->M MG
 | .s0 J a e=>bz n c q pos ln R x J a e
def b9(n:E)(c:AD)(q:AA)(pos:Ξ)(ln:E)(R x:U)(s:MG):M MG:=u5 n c q pos ln R x s
def zIF(n:E)(c:AD)(q:AA)(pos:Ξ)(ln:E)(R:U)(l Ϝ:E)(N:Yd 10)(x:U)(s:MG)(r:MG)(h:b9 n c q pos ln R x s=Z r):TA l Ϝ N (Cw 10 [] 0<|u6 c q pos ln R r) Tryz.f176 45 ⟨AI 69 [(3,.ref 3 0),(9,.ref 5 0),(10,.ref 6 0),(11,.ref 8 0),(45,.it 9),(46,.i x)],u6 c q pos ln R s⟩:=by
 cases s with
 |s0 J a e=>
  replace h:bz n c q pos ln R x J a e=Z r:=h;unfold bz at h;refine ag NV [0,1,2,3,4,5,6,7,8,9] H0 (AI 69 [(3,.ref 3 0),(9,.ref 5 0),(10,.ref 6 0),(11,.ref 8 0),(12,.i x)]) (xH c q pos ln J a e R) λN=>?_
  revert r;apply gO;exact ce zId [0,1,2] (xH c q pos ln J a e R) λ_=>bi 50 (jg zDz<|gc<|gi<|jt<|jg zD1<|gi<|jt<|lF λp=>rr NV [0,1,2,3,4,5,6,7,8,9] rfl p)<|lF λp=>rr NV [0,1,2,3,4,5,6,7,8,9] rfl p
inductive MH where
 |s0 (DE:Ξ) (DD DC:U)
def u7(c:AD)(q:AA)(pos:Ξ)(ln:E):MH->DH
 | .s0 f g h=>[oC [.ref 1 0],oW c q pos 2 ln,oI f,oC [.fn 178 1<|L1 [.ref 0 0]],oC [.i<|H pos (H c.ce 1 0).toNat 0],oC [.i g],oC [.i h],A]
def bx(n:E)(c:AD)(q:AA)(pos:Ξ)(ln:E)(R:U)(f:Ξ)(g h:U):M MH:=
 if 0<=H pos (H c.ce 1 0).toNat 0/\H pos (H c.ce 1 0).toNat 0<9223372036854775808 then
  (Bs (b9 n c q pos ln R) (By<|H pos (H c.ce 1 0).toNat 0)<|.s0 f g h).bind λt=>
   match t with
   | .s0 r s a=>
    Z (.s0 r s a)
 else A
def u4(n:E)(c:AD)(q:AA)(pos:Ξ)(ln:E)(R:U):MH->M MH
 | .s0 f g h=>bx n c q pos ln R f g h
def cA(n:E)(c:AD)(q:AA)(pos:Ξ)(ln:E)(R:U)(s:MH):M MH:=u4 n c q pos ln R s
def zIE(n:E)(c:AD)(q:AA)(pos:Ξ)(ln:E)(l Ϝ:E)(N:Yd 8)(R:U)(s:MH)(r:MH)(h:cA n c q pos ln R s=Z r):TA l Ϝ N (Cw 8 [] 0<|u7 c q pos ln r) Tryz.f176 42 ⟨AI 69 [(0,.ref 1 0),(3,.ref 3 0),(5,.i<|H c.ce 0 0),(6,.i<|H c.ce 1 0),(8,.ref 4 0),(9,.ref 5 0),(10,.ref 6 0),(42,.it 7),(43,.i R)],u7 c q pos ln s⟩:=by
 cases s with
 |s0 f g a=>
  replace h:bx n c q pos ln R f g a=Z r:=h;unfold bx at h;refine ag NV [0,1,2,3,4,5,6,7,8] H0.t (AI 69 [(3,.ref 3 0),(8,.ref 4 0),(9,.ref 5 0),(10,.ref 6 0),(11,.ref 8 0)]) (xI c q pos ln f g a R) λN=>?_
  revert r;apply gO
  exact gn λK=>jc (Lx K<|xI c q pos ln f g a R) (cn λb e=>λp r h=>by
   refine gs NV [0,1,2,3,4,5,6,7,8,9] p (Gn (af Tryz.f176 42) 45 []) (AI 69 [(3,.ref 3 0),(9,.ref 5 0),(10,.ref 6 0),(11,.ref 8 0),(45,.it 9)]) (zMM c q pos ln f g a R) ?_;refine r0 9 45 #[46] BY 10 e (zIF n c q pos ln R) ?_;cases b with
   |s0 Yi Yh Yg=>
    dsimp only at h
    revert r;apply gO;exact lF λp=>rr NV [0,1,2,3,4,5,6,7] rfl p)
def u0(n:E)(c:AD)(q:AA)(pos:Ξ)(ln:E)(lost:Ξ):X6:=
 if((0:U)<=0/\0<(F c.ce:U))/\((0:U)<=1/\1<(F c.ce:U))/\(0<=H c.ce 0 0/\H c.ce 0 0<(F pos:U))/\(0<=H c.ce 1 0/\H c.ce 1 0<(F pos:U))/\(0<=H pos (H c.ce 0 0).toNat 0/\H pos (H c.ce 0 0).toNat 0<9223372036854775808)then
  (Bs (cA n c q pos ln) (By<|H pos (H c.ce 0 0).toNat 0)<|.s0 lost 0 0).bind λe=>
   match e with
   | .s0 a o f=>
    (D0 n (H c.ce 0 0) (bits .xor .i64 (-1) o) c q pos ln a).bind λr=>
     (D0 n (H c.ce 1 0) (bits .xor .i64 (-1) f) c q pos ln r).bind λy3=>
      Z (D,y3)
 else A
def kZ(n:E)(c:AD)(q:AA)(pos:Ξ)(ln:E)(lost:Ξ):X6:=u0 n c q pos ln lost
def zID(h:kZ n c q pos ln lost=Z r):EQ 176 [.ref 1 0,.fn 178 1<|L1 [.ref 0 0]] [oC [.ref 1 0],oW c q pos 2 ln,oI lost] (.bool r.1) [oC [.ref 1 0],oW c q pos 2 ln,oI r.2] T:=by
 refine ot Tryz.func176 λϜ N=>?_
 revert r;apply gO
 exact jg zD2<|gc<|gi<|gc<|gi<|jg zD0<|gc<|gi<|gc<|gi<|jt<|gn λJ=>jc (Lx J<|zMQ c q pos ln lost) (cn λe a=>λp r h=>by
  refine gs NV [0,1,2,3,4,5,6,7] p (Gn (Af Tryz.f176) 42 []) (AI 69 [(0,.ref 1 0),(3,.ref 3 0),(5,.i<|H c.ce 0 0),(6,.i<|H c.ce 1 0),(8,.ref 4 0),(9,.ref 5 0),(10,.ref 6 0),(42,.it 7)]) (zMP c q pos ln lost) ?_;refine r0 7 42 #[43] BY 8 a (zIE n c q pos ln) ?_;cases e with
  |s0 b o f=>
   dsimp only at h
   revert r;apply gO;exact ce G7 [1,2] (zMO c q pos ln b o f) λg=>ce G7 [1,2] (zMN c q pos ln g o f) λ_=>lE NV [4] [0,1,2])
def pG(n:E)(c:AD)(q:AA)(pos:Ξ)(ln:E)(lost:Ξ):X6:=(ke n c q pos ln lost).bind λe=>Z (e.1,e.2)
def Rf(n:E)(c:AD)(q:AA)(pos:Ξ)(ln:E)(lost:Ξ):X6:=pG n c q pos ln lost
def zQz(h:Rf n c q pos ln lost=Z r):EQ 141 [.ref 0 0] [oW c q pos 1 ln,oI lost] (.bool r.1) [oW c q pos 1 ln,oI r.2] T:=by
 unfold Rf pG at h;refine ot Tryz.func141 λϜ N=>?_
 revert r;apply gO;exact ce zIG [2,0,1] [oW c q pos 1 ln,oI lost,oC [.ref 0 0]] λ_=>lE AC [2] [0,1]
def kw(n:E)(c:AD)(q:AA)(pos:Ξ)(ln:E)(lost:Ξ):X6:=(kZ n c q pos ln lost).bind λe=>Z (e.1,e.2)
def QI(n:E)(c:AD)(q:AA)(pos:Ξ)(ln:E)(lost:Ξ):X6:=kw n c q pos ln lost
def zIc(h:QI n c q pos ln lost=Z r):EQ 142 [.ref 0 0] [oW c q pos 1 ln,oI lost] (.bool r.1) [oW c q pos 1 ln,oI r.2] T:=by
 unfold QI kw at h;refine ot Tryz.func142 λϜ N=>?_
 revert r;apply gO;exact ce zID [2,0,1] [oW c q pos 1 ln,oI lost,oC [.ref 0 0]] λ_=>lE AC [2] [0,1]
end
abbrev zNZ:=@List.drop_zero
section
set_option maxRecDepth 100000
set_option maxHeartbeats 40000000
def zQf(n:E)(s_:Ξ):M Unit:=Z ()
def zQh(n:E)(V:Ξ):M Unit:=zQf n V
variable{n:E}
def zQe(V:Ξ){r:Unit}(h:zQh n V=Z r):EQ 173 [.ints V] [] (.fn 191 1<|L1 [.ref 0 0]) [oC [.ints V]] D:=by
 refine ot Tryz.func173 λϜ N=>?_
 revert r;apply gO;exact lE AC [2] [0]
inductive Uh where
 |l1 (x3:U)
def Ug(n:E)(self:Uh->X3)(V:Ξ)(S:U):X3:=B (C<|S>=0) (u (0<=S/\S<(F V:U)) (Option.map (λl=>(S,H V S.toNat 0)::l)<|u (AG<|S-1) (self<|.l1<|S-1) A) A)<|Z []
def oh(n:E)(self:Uh->X3)(V:Ξ):X3:=u (AG<|(F V:U)-1) (self<|.l1<|(F V:U)-1) A
def O9(V:Ξ):E->Uh->X3
 |0,_=>A
 |n+1,.l1 S=>Ug n (O9 V n) V S
def back(n:E)(V:Ξ):X3:=oh n (O9 V n) V
def om(Ϙ:Bm L)(n:E)(V:Ξ)(r:O<|Δ):Uh->Prop
 | .l1 S=>∀o:E,n<=o->∀i:E,i<=F Ϙ.encs->Ϙ.encs.drop i=r.map Q5->A2 L GG η A 1 (Ϙ.Y GG 1 i) (Ϙ.Q GG 1) (Du o<|FU (Af Tryz.f191) 0 []) ⟨AI 19 [(0,.yl Ϙ.l),(1,.ref 0 0),(3,.i S)],[oC [.ints V]]⟩
def zQb(Ϙ:Bm L)(n:E)(self:Uh->X3)(V:Ξ)(G:∀s r,self s=Z r->om Ϙ n V r s)(S:U)(r:O<|Δ)(h:Ug n self V S=Z r):om Ϙ (n+1) V r<|.l1 S:=by
 intro o j;intro i hi z;refine rd j λo j=>?_
 unfold Ug at h;have p:=H0;rcases B7 h with⟨Y,h⟩|⟨Y,h⟩
 ·have p:=H0.b 8 Y;refine gs (AK 3 AC) [0] p (CW (Af Tryz.f191) 3 [o]) (AI 19 [(0,.yl Ϙ.l),(1,.ref 0 0),(3,.i S)]) [oC [.ints V]] ?_;obtain⟨a,h⟩:=B8 h;have p:=H0.g a;obtain⟨r,c,rfl⟩:=MQ h;clear h;have h:=c;clear c;obtain⟨f,hi,z⟩:=YG z;refine A2.y (ops:=Ah Tryz.f191 3) HC.x 6 [0,1,3,18] [0] p (x:=Q5 (S,H V S.toNat 0)) (AI 19 [(0,.yl Ϙ.l),(1,.ref 0 0),(3,.i S),(18,.bool T)]) [oC [.ints V]] (AI 19 [(0,.yl Ϙ.l),(1,.ref 0 0),(3,.i S),(18,.bool D)]) [oC [.ints V]] Z5 Z5 Z5 f Z5 ?_ ?_
  ·generalize i+1=i at hi z⊢
   obtain⟨k,h⟩:=B8 h;have p:=H0.w 10 k;exact gg AC [0] p<|G _ _ h o j i hi z
  ·exact TrI.e HC.x AC 6 H0 Z5<|.inr rfl
 ·have p:=H0.b 8 Y;cases h;exact TrI.e HC.x AC 10 p Z5 (.inl<|by rw[Q7 hi z])
def zAS(Ϙ:Bm L)(V:Ξ):∀(n:E) (s:Uh) (r:O<|Δ),O9 V n s=Z r->om Ϙ n V r s
 |0,_,_,h=>by cases h
 |n+1,.l1 S,r,h=>zQb Ϙ n (O9 V n) V (zAS Ϙ V n) S r h
variable{r:O Δ}
def zQc(V:Ξ)(h:back n V=Z r)(Ϙ:Bm L)(a:Ϙ.encs=r.map Q5):A2 L GG η A 1 (Ϙ.Y GG 1 0) (Ϙ.Q GG 1) [.code<|Af Tryz.f191] ⟨AI 19 [(0,.yl Ϙ.l),(1,.ref 0 0)],[oC [.ints V]]⟩:=by
 suffices ϗ:∀i:E,i<=F Ϙ.encs->Ϙ.encs.drop i=r.map Q5->A2 L GG η A 1 (Ϙ.Y GG 1 i) (Ϙ.Q GG 1) [.code<|Af Tryz.f191] ⟨AI 19 [(0,.yl Ϙ.l),(1,.ref 0 0)],[oC [.ints V]]⟩from ϗ 0 (zK5 _) (by rw[zNZ];exact a)
 intro i hi z;have G:=zAS Ϙ V n;unfold back at h
 generalize O9 V n=self at h G
 unfold oh at h;obtain⟨j,h⟩:=B8 h;have p:=H0.w 6 j;exact gg AC [0] p<|en n<|G _ _ h n χ i hi z
def zQg{V:Ξ}(h:back n V=Z r)(ϗ:DH):EQ 173 [.ints V] ϗ (.it<|F ϗ) (ϗ++[Z<|.iter<|r.map Q5]) D:=by
 refine ES.iterN (c:=L1 [.ref 0 0]) (h0:=[oC [.ints V]]) (fn:=Tryz.f191) (zQe (n:=0) V (r:=()) rfl) Z5 Tryz.func191 Z5 Z5 Z5 (λϘ w=>?_) ϗ;have e:DV.yl Ϙ.l::(θ 1).map (L1 [.ref 0 0])++d (Tryz.f191.ntmps-(1+1)) .any=AI 19 [(0,.yl Ϙ.l),(1,.ref 0 0)]:=Z5
 rw[e];exact zQc V h Ϙ w
end
abbrev zMo:=@LawfulBEq.eq_of_beq
section
set_option maxRecDepth 100000
set_option maxHeartbeats 40000000
def zGJ(n:E)(g_:O Ξ)(AH:Ω)(start:U):M Unit:=Z ()
def zGK(n:E)(I:O Ξ)(N:Ω)(start:U):M Unit:=zGJ n I N start
variable{n:E}
def zGI(I:O Ξ)(a:Ω)(start:U){r:Unit}(h:zGK n I a start=Z r):EQ 198 [.sl 1 (F I)<|AM AS I,.bools a,.i start] [] (.fn 202 3<|L1 [.ref 0 0,.ref 1 0,.ref 2 0]) [oC [.sl 1 (F I)<|AM AS I],oC [.i start],oC [.bools a]] D:=by
 refine ot Tryz.func198 λϜ N=>?_
 revert r;apply gO;exact lE AC [6] [0,2,1]
def zDc:Ac (Ah Tryz.f202 6) [] (θ 8) []:=Z0
def Jl:BG:=λi=>match i with
 |6=>.ord [] (θ 8) []
 |_=>.no
def dw(g:O Ξ)(start:U)(inn o3:Ω)(o4:Ξ):DH:=[oC [.sl 1 (F g)<|AM AS g],oC [.i start],oC [.bools inn],Z<|.bools o3,oI o4]
inductive Ko where
 |l1 (x6:E) (o3:Ω) (o4:Ξ)
 |l2 (x6:E) (Ds:Ξ) (Ht CC:U) (o3:Ω) (o4:Ξ)
 |l3 (o3:Ω)
def Vx(n:E)(self:Ko->W6)(g:O Ξ)(start:U)(inn:Ω)(x6:E)(o3:Ω)(o4:Ξ):W6:=B (C<|(x6:U)>0) (u (((0:U)<=0/\0<(x6:U))/\0+0<F o4) (Option.map (λl=>H o4 (0+0) 0::l)<|u (((0:U)<=0/\0<(x6:U))/\0+0<F o4/\(0<=H o4 (0+0) 0/\H o4 (0+0) 0<(F g:U))) (self<|.l2 x6 (H g (H o4 (0+0) 0).toNat []) ((F<|H g (H o4 (0+0) 0).toNat []:E):U) 0 o3 o4) A) A)<|Z []
def Nq(n:E)(self:Ko->W6)(g:O Ξ)(start:U)(inn:Ω)(x6:E)(f:Ξ)(W m:U)(o3:Ω)(o4:Ξ):W6:=B (C<|m<W) (u ((0<=m/\m<(F f:U))/\(0<=H f m.toNat 0/\H f m.toNat 0<(F inn:U))) (B (H inn (H f m.toNat 0).toNat T) (u ((0<=H f m.toNat 0/\H f m.toNat 0<(F g:U))/\0+(H f m.toNat 0).toNat<F o3) (B (!(H o3 (0+(H f m.toNat 0).toNat) T)) (u (((0=0/\1=F ([H f m.toNat 0]:Ξ))/\(0=0/\x6=F o4)/\F o4+F ([H f m.toNat 0]:Ξ)<=Aw)/\AG (m+1)) (self<|.l2 (F o4+F ([H f m.toNat 0]:Ξ)) f W (m+1) (o3.set (0+(H f m.toNat 0).toNat) D)<|o4++([H f m.toNat 0]:Ξ)) A)<|u (AG<|m+1) (self<|.l2 x6 f W (m+1) o3 o4) A) A)<|u (AG<|m+1) (self<|.l2 x6 f W (m+1) o3 o4) A) A)<|B ((x6-1)==0) (u ((0:U)<=1/\(1:U)<=(x6:U)/\(x6:U)<=(x6:U)) (self<|.l3 o3) A)<|u ((0:U)<=1/\(1:U)<=(x6:U)/\(x6:U)<=(x6:U)) (u (1<=F o4) (self<|.l1 (x6-1) o3<|o4.drop 1) A) A
def jm(n:E)(self:Ko->W6)(g:O Ξ)(start:U)(inn:Ω)(o3:Ω):W6:=Z []
def jn(n:E)(self:Ko->W6)(g:O Ξ)(start:U)(inn:Ω):W6:=u ((((F g:U):U)=(F g:U)/\0<=(F g:U)/\((F g:U):U)<=1000000000000)/\(0<=start/\start<(F g:U))/\0+start.toNat<F (d (F g) T)) (self<|.l1 1 ((d (F g) T).set (0+start.toNat) D) ([start]:Ξ)) A
def E5(g:O Ξ)(start:U)(inn:Ω):E->Ko->W6
 |0,_=>A
 |n+1,.l1 x6 o3 o4=>Vx n (E5 g start inn n) g start inn x6 o3 o4
 |n+1,.l2 x6 f W m o3 o4=>Nq n (E5 g start inn n) g start inn x6 f W m o3 o4
 |n+1,.l3 o3=>jm n (E5 g start inn n) g start inn o3
def Ib(n:E)(g:O Ξ)(start:U)(inn:Ω):W6:=jn n (E5 g start inn n) g start inn
def Pw(Ϙ:Bm L)(n:E)(g:O Ξ)(start:U)(inn:Ω)(r:Ξ):Ko->Prop
 | .l1 x6 o3 o4=>∀o:E,n<=o->∀i:E,i<=F Ϙ.encs->Ϙ.encs.drop i=r.map BY->A2 L GG η A 3 (Ϙ.Y GG 3 i) (Ϙ.Q GG 3) (Du o<|FU (Af Tryz.f202) 0 []) ⟨AI 58 [(0,.yl Ϙ.l),(1,.ref 0 0),(3,.ref 2 0),(5,.msl 3 1 0<|F g),(6,.msl 4 1 0 x6)],[oC [.sl 1 (F g)<|AM AS g],oC [.i start],oC [.bools inn],Z<|.bools o3,oI o4]⟩
 | .l2 x6 f W m o3 o4=>∀o w:E,n<=o->n<=w->∀i:E,i<=F Ϙ.encs->Ϙ.encs.drop i=r.map BY->A2 L GG η A 3 (Ϙ.Y GG 3 i) (Ϙ.Q GG 3) (Du w<|FU (Af Tryz.f202) 2 [o]) ⟨AI 58 [(0,.yl Ϙ.l),(1,.ref 0 0),(3,.ref 2 0),(5,.msl 3 1 0<|F g),(6,.msl 4 1 0 x6),(33,.ints f),(34,.i W),(35,.i m)],[oC [.sl 1 (F g)<|AM AS g],oC [.i start],oC [.bools inn],Z<|.bools o3,oI o4]⟩
 | .l3 o3=>∀o:E,n<=o->∀i:E,i<=F Ϙ.encs->Ϙ.encs.drop i=r.map BY->A2 L GG η A 3 (Ϙ.Y GG 3 i) (Ϙ.Q GG 3) (Du o<|FU (Af Tryz.f202) 0 []) ⟨AI 58 [(0,.yl Ϙ.l),(1,.ref 0 0),(3,.ref 2 0),(5,.msl 3 1 0<|F g),(6,.ints ([]:Ξ))],[oC [.sl 1 (F g)<|AM AS g],oC [.i start],oC [.bools inn],Z<|.bools o3]⟩
def zGD(Ϙ:Bm L)(n:E)(self:Ko->W6)(g:O Ξ)(start:U)(inn:Ω)(G:∀s r,self s=Z r->Pw Ϙ n g start inn r s)(x6:E)(o3:Ω)(o4:Ξ)(r:Ξ)(h:Vx n self g start inn x6 o3 o4=Z r):Pw Ϙ (n+1) g start inn r<|.l1 x6 o3 o4:=by
 intro o j;intro i hi z;refine rd j λo j=>?_
 unfold Vx at h;have p:=H0;rcases B7 h with⟨Y,h⟩|⟨Y,h⟩
 ·have p:=H0.b 19 Y;refine gs (AK 5 Jl) [0,1,2,3,4] p (CW (Af Tryz.f202) 5 [o]) (AI 58 [(0,.yl Ϙ.l),(1,.ref 0 0),(3,.ref 2 0),(5,.msl 3 1 0<|F g),(6,.msl 4 1 0 x6)]) (dw g start inn o3 o4) ?_;obtain⟨⟨a,f⟩,h⟩:=B8 h;have p:=H0.g a|>.g f
  obtain⟨r,c,rfl⟩:=MQ h;clear h;have h:=c;clear c;obtain⟨k,hi,z⟩:=YG z;refine A2.y (ops:=Ah Tryz.f202 5) HC.x 4 [0,1,3,5,6,27] [0,1,2,3,4] p (x:=BY<|H o4 (0+0) 0) (AI 58 [(0,.yl Ϙ.l),(1,.ref 0 0),(3,.ref 2 0),(5,.msl 3 1 0<|F g),(6,.msl 4 1 0 x6),(27,.bool T)]) (dw g start inn o3 o4) (AI 58 [(0,.yl Ϙ.l),(1,.ref 0 0),(3,.ref 2 0),(5,.msl 3 1 0<|F g),(6,.msl 4 1 0 x6),(27,.bool D)]) (dw g start inn o3 o4) Z5 Z5 Z5 k Z5 ?_ ?_
  ·generalize i+1=i at hi z⊢
   obtain⟨⟨m,q,J⟩,h⟩:=B8 h;have p:=H0.g zDc|>.g m|>.g q|>.g J
   exact gg Jl [0,1,2,3,4] p<|en n<|G _ _ h o n j χ i hi z
  ·exact TrI.e HC.x Jl 6 H0 Z5<|.inr rfl
 ·have p:=H0.b 19 Y;cases h;exact TrI.e HC.x Jl 10 p Z5 (.inl<|by rw[Q7 hi z])
def zGC(Ϙ:Bm L)(n:E)(self:Ko->W6)(g:O Ξ)(start:U)(inn:Ω)(G:∀t r,self t=Z r->Pw Ϙ n g start inn r t)(x6:E)(v:Ξ)(W x:U)(o3:Ω)(o4:Ξ)(r:Ξ)(h:Nq n self g start inn x6 v W x o3 o4=Z r):Pw Ϙ (n+1) g start inn r<|.l2 x6 v W x o3 o4:=by
 intro a f j z;intro i hi c;have j:=zCG j;refine rd z λf z=>?_
 unfold Nq at h;have p:=H0;rcases B7 h with⟨Y,h⟩|⟨Y,h⟩
 ·obtain⟨⟨e,s⟩,h⟩:=B8 h;have p:=H0.b 36 Y|>.g e|>.g s
  rcases B7 h with⟨Q,h⟩|⟨Q,h⟩
  ·obtain⟨⟨y,I⟩,h⟩:=B8 h;have p:=p.b 42 Q|>.g y|>.g I
   rcases B7 h with⟨q,h⟩|⟨q,h⟩
   ·obtain⟨⟨J,V⟩,h⟩:=B8 h;have p:=p.b 48 q|>.g y|>.g I|>.g J|>.w 57 V
    exact gg Jl [0,1,2,3,6] p<|G _ _ h a f j z i hi c
   ·obtain⟨J,h⟩:=B8 h;have p:=p.b 48 q|>.w 57 J
    exact gg Jl [0,1,2,3,4] p<|G _ _ h a f j z i hi c
  ·obtain⟨y,h⟩:=B8 h;have p:=p.b 42 Q|>.w 57 y
   exact gg Jl [0,1,2,3,4] p<|G _ _ h a f j z i hi c
 ·have p:=H0.b 36 Y;rcases B7 h with⟨Q,h⟩|⟨Q,h⟩
  ·obtain⟨e,h⟩:=B8 h;have p:=p.g e|>.o 21 (AO.mse_nil (k:=4) (m:=1) (o:=1)<|zMo Q)
   exact gg Jl [0,1,2,3] p<|G _ _ h a j i hi c
  ·obtain⟨e,h⟩:=B8 h;have p:=p.g e|>.o 21 (AO.mse_msl (k:=4) (m:=1) (o:=1) (zHz Q) rfl)
   obtain⟨s,h⟩:=B8 h;refine gs Jl [0,1,2,3,4] p (Du a<|FU (Af Tryz.f202) 0 []) (AI 58 [(0,.yl Ϙ.l),(1,.ref 0 0),(3,.ref 2 0),(5,.msl 3 1 0<|F g),(6,.msl 4 1 1<|x6-1)]) (dw g start inn o3 o4) ?_;refine BV.le (A6.rootE 4 1 ⟨AI 58 [(0,.yl Ϙ.l),(1,.ref 0 0),(3,.ref 2 0),(5,.msl 3 1 0<|F g),(6,.msl 5 1 0<|x6-1)],[oC [.sl 1 (F g)<|AM AS g],oC [.i start],oC [.bools inn],Z<|.bools o3,A,oI<|o4.drop 1]⟩ [1<=F o4] Z5 ⟨s,trivial⟩) Z5 ?_;refine BV.le (A6.compE [0,1,2,3,5] Z5) Z5 ?_;exact G _ _ h a j i hi c
def zGB(Ϙ:Bm L)(n:E)(self:Ko->W6)(g:O Ξ)(start:U)(inn:Ω)(AF:∀s r,self s=Z r->Pw Ϙ n g start inn r s)(o3:Ω)(r:Ξ)(h:jm n self g start inn o3=Z r):Pw Ϙ (n+1) g start inn r<|.l3 o3:=by
 intro o j;intro i hi z;refine rd j λo j=>?_
 unfold jm at h;have p:=H0;cases h;exact TrI.e HC.x Jl 10 p Z5 (.inl<|by rw[Q7 hi z])
def aq(Ϙ:Bm L)(g:O Ξ)(start:U)(inn:Ω):∀(n:E) (s:Ko) (r:Ξ),E5 g start inn n s=Z r->Pw Ϙ n g start inn r s
 |0,_,_,h=>by cases h
 |n+1,.l1 x6 o3 o4,r,h=>zGD Ϙ n (E5 g start inn n) g start inn (aq Ϙ g start inn n) x6 o3 o4 r h
 |n+1,.l2 x6 f W m o3 o4,r,h=>zGC Ϙ n (E5 g start inn n) g start inn (aq Ϙ g start inn n) x6 f W m o3 o4 r h
 |n+1,.l3 o3,r,h=>zGB Ϙ n (E5 g start inn n) g start inn (aq Ϙ g start inn n) o3 r h
variable{r:Ξ}
def zGG(g:O Ξ)(start:U)(inn:Ω)(h:Ib n g start inn=Z r)(Ϙ:Bm L)(w:Ϙ.encs=r.map BY):A2 L GG η A 3 (Ϙ.Y GG 3 0) (Ϙ.Q GG 3) [.code<|Af Tryz.f202] ⟨AI 58 [(0,.yl Ϙ.l),(1,.ref 0 0),(2,.ref 1 0),(3,.ref 2 0)],[oC [.sl 1 (F g)<|AM AS g],oC [.i start],oC [.bools inn]]⟩:=by
 suffices ϗ:∀i:E,i<=F Ϙ.encs->Ϙ.encs.drop i=r.map BY->A2 L GG η A 3 (Ϙ.Y GG 3 i) (Ϙ.Q GG 3) [.code<|Af Tryz.f202] ⟨AI 58 [(0,.yl Ϙ.l),(1,.ref 0 0),(2,.ref 1 0),(3,.ref 2 0)],[oC [.sl 1 (F g)<|AM AS g],oC [.i start],oC [.bools inn]]⟩from ϗ 0 (zK5 _) (by rw[zNZ];exact w)
 intro i hi z;have G:=aq Ϙ g start inn n;unfold Ib at h
 generalize E5 g start inn n=self at h G
 unfold jn at h;obtain⟨⟨j,s,y⟩,h⟩:=B8 h;have p:=H0.g j|>.g s|>.g y
 exact gg Jl [0,1,2,3,4] p<|en n<|G _ _ h n χ i hi z
def jr{I:O Ξ}{N:Ω}{start:U}(h:Ib n I start N=Z r)(ϗ:DH):EQ 198 [.sl 1 (F I)<|AM AS I,.bools N,.i start] ϗ (.it<|F ϗ) (ϗ++[Z<|.iter<|r.map BY]) D:=by
 refine ES.iterN (c:=L1 [.ref 0 0,.ref 1 0,.ref 2 0]) (h0:=[oC [.sl 1 (F I)<|AM AS I],oC [.i start],oC [.bools N]]) (fn:=Tryz.f202) (zGI (n:=0) I N start (r:=()) rfl) Z5 Tryz.func202 Z5 Z5 Z5 (λϘ w=>?_) ϗ;have e:DV.yl Ϙ.l::(θ 3).map (L1 [.ref 0 0,.ref 1 0,.ref 2 0])++d (Tryz.f202.ntmps-(3+1)) .any=AI 58 [(0,.yl Ϙ.l),(1,.ref 0 0),(2,.ref 1 0),(3,.ref 2 0)]:=Z5
 rw[e];exact zGG I start N h Ϙ w
end
abbrev zKv:=@decide_eq_true_iff
abbrev zMj:=@Bool.not_false
abbrev zNO:=@List.mem_append_right
abbrev zRx:=@List.append_assoc
def nb(g:O Ξ)(v:U):Ξ:=H g v.toNat []
structure Gr(g:O Ξ):Prop where
 len:F g<=256
 row:∀v,0<=v->v<(F g:U)->F (nb g v)<=256
 rng:∀v,0<=v->v<(F g:U)->∀ϛ∈nb g v,0<=ϛ/\ϛ<(F g:U)
 sym:∀v,0<=v->v<(F g:U)->∀ϛ∈nb g v,v∈nb g ϛ
theorem Gr.of{g:O Ξ}(h:KD g=D)(hr:∀r∈g,F r<=LB):Gr g:=by
 unfold KD at h;rw[zAx,zKv,zFy]at h
 have key:∀v,0<=v->v<(F g:U)->∀ϛ∈nb g v,(0<=ϛ/\ϛ<(F g:U))/\v∈nb g ϛ:=by
  intro v h0 a ϛ x;have c:=h.2 v.toNat<|zJ9.2 Z2;unfold IZ at c;rw[zFy]at c;obtain⟨j,l,e⟩:=zLD x;have m:=c j<|zJ9.2 l;unfold G6 at m
  have e2:H (H g v.toNat []) j 0=ϛ:=by
   grind[nb]
  grind[nb]
 have grow:∀v,0<=v->v<(F g:U)->∀k,k<F (nb g v)->(k:U)<=H (nb g v) k 0:=by
  intro v h0 a k;have c:=h.2 v.toNat<|zJ9.2 Z2;unfold IZ at c;rw[zFy]at c
  induction k with
  |zero=>
   grind
  |succ k ih=>
   intro f;have m:=c (k+1)<|zJ9.2 f;unfold G6 at m
   grind[nb]
 exact⟨h.1,λv h0 a=>by
  grind[List.getElem_mem],λv h0 a ϛ x=>(key v h0 a ϛ x).1,λv h0 a ϛ x=>(key v h0 a ϛ x).2⟩
inductive Rc(g:O Ξ)(inn:Ω)(s:U):U->Prop
 |start:Rc g inn s s
 |step {a b:U} (h:Rc g inn s a) (hb:b∈nb g a) (hi:H inn b.toNat T=D):Rc g inn s b
section
variable{g:O Ξ}{inn:Ω}{s:U}
variable{v:U}
def Rc.rng(G:Gr g)(h0:0<=s)(a:s<(F g:U))(h:Rc g inn s v):0<=v/\v<(F g:U):=by
 induction h with
 |start=>exact⟨h0,a⟩
 |step h b hi n=>exact G.rng _ n.1 n.2 _ b
def Rc.isIn(p:H inn s.toNat T=D)(h:Rc g inn s v):H inn v.toNat T=D:=by
 cases h with
 |start=>exact p
 |step h hb hi=>exact hi
def Rc.trans{a b:U}(h:Rc g inn s a)(c:Rc g inn a b):Rc g inn s b:=by
 induction c with
 |start=>exact h
 |step _ e hi n=>exact .step n e hi
def Rc.symm(G:Gr g)(h0:0<=s)(a:s<(F g:U))(p:H inn s.toNat T=D)(h:Rc g inn s v):Rc g inn v s:=by
 induction h with
 |start=>exact .start
 |step h b hi n=>
  have k:=h.rng G h0 a;exact(Rc.step Rc.start (G.sym _ k.1 k.2 _ b)<|h.isIn p).trans n
def Et(l:Ω):E:=l.countP λb=>!b
theorem oO:∀(l:Ω) (i:E),i<F l->H l i T=T->Et (l.set i D)+1=Et l
 |b::l,0,_,h=>by
  grind[Et]
 |b::l,i+1,hi,h=>by
  grind[Et]
def E9(inn:Ω)(st:Ω×Ξ)(v:U):Ω×Ξ:=B (H inn v.toNat T&&!H st.1 v.toNat T) (st.1.set v.toNat D,st.2++[v]) st
structure Bf(g:O Ξ)(inn:Ω)(s:U)(met:Ω)(Q P:Ξ):Prop where
 len:F met=F g
 cnt:F Q+Et met<=F g
 nd:(P++Q).Nodup
 rc:∀v∈P++Q,Rc g inn s v
 rng:∀v∈P++Q,0<=v/\v<(F g:U)
 met:∀v:U,0<=v->v<(F g:U)->(H met v.toNat T=D↔v∈P++Q)
 cl:∀p∈P,∀b∈nb g p,H inn b.toNat T=D->b∈P++Q
 st:s∈P++Q
variable{Q P:Ξ}{met:Ω}
theorem Bf.ex(G:Gr g)(h:Bf g inn s met Q P){ϛ:U}(j:v∈Q)(k:ϛ∈nb g v):
 Bf g inn s (E9 inn (met,Q) ϛ).1 (E9 inn (met,Q) ϛ).2 P/\(∃t,(E9 inn (met,Q) ϛ).2=Q++t)/\(H inn ϛ.toNat T=D->ϛ∈P++(E9 inn (met,Q) ϛ).2)/\2*Et (E9 inn (met,Q) ϛ).1+F (E9 inn (met,Q) ϛ).2<=2*Et met+F Q:=by
 have W:=h.rng v<|zNO _ j;have c:=G.rng v W.1 W.2 ϛ k;unfold E9;cases hi:H inn ϛ.toNat T
 ·simp_all
 ·cases e:H met ϛ.toNat T
  ·rw[zMj,Bool.and_true,zAG];have hn:ϛ∉P++Q:=λm=>by rw[(h.met ϛ c.1 c.2).2 m]at e;cases e
   have hl:=h.len;have hc:=oO met ϛ.toNat Z2 e;have hcnt:=h.cnt;have V:∀x,x∈P++(Q++[ϛ])↔x∈P++Q∨x=ϛ:=λx=>by simp[or_assoc]
   refine⟨⟨Z4,Z4,?_,λx i=>?_,λx i=>?_,λx n X=>?_,λp w b l f=>(V b).2<|.inl<|h.cl p w b l f,(V s).2<|.inl h.st⟩,⟨[ϛ],rfl⟩,λ_=>(V ϛ).2<|.inr rfl,Z4⟩
   ·rw[←zRx,List.nodup_append];exact⟨h.nd,Z3,λa ha b l=>Z4⟩
   ·rcases(V x).1 i with i|rfl
    ·exact h.rc x i
    ·exact .step (h.rc v<|zNO _ j) k hi
   ·rcases(V x).1 i with i|rfl
    ·exact h.rng x i
    ·exact c
   ·rw[V,←h.met x n X]
    grind
  ·exact⟨h,⟨[],Z3⟩,λ_=>(h.met ϛ c.1 c.2).1 e,zI1 _⟩
theorem Bf.exs(G:Gr g):∀(l:Ξ) {met:Ω} {Q:Ξ},Bf g inn s met Q P->v∈Q->(∀ϛ∈l,ϛ∈nb g v)->
 Bf g inn s (l.foldl (E9 inn) (met,Q)).1 (l.foldl (E9 inn) (met,Q)).2 P/\(∃t,(l.foldl (E9 inn) (met,Q)).2=Q++t)/\(∀ϛ∈l,H inn ϛ.toNat T=D->ϛ∈P++(l.foldl (E9 inn) (met,Q)).2)/\2*Et (l.foldl (E9 inn) (met,Q)).1+F (l.foldl (E9 inn) (met,Q)).2<=2*Et met+F Q
 |[],met,Q,h,a,q=>⟨h,⟨[],Z3⟩,λϛ b=>τ b zNR,zI1 _⟩
 |ϛ::l,met,Q,h,a,q=>by
  obtain⟨c,⟨t,ht⟩,h2,h3⟩:=h.ex G a<|q ϛ zMw;obtain⟨h4,⟨t',ht'⟩,h5,h6⟩:=Bf.exs G l c Z4 λx i=>q x<|zLL _ i
  grind
variable{l:Ξ}
theorem zJ8{n j:E}(hI:F inn=F g)(hG:F g<=256)(hm:F met=F g)(hQ:F Q+Et met<=F g)(hj:j<F l)(hl:F l<=256)(hr:0<=H l j 0/\H l j 0<(F g:U)):
 E5 g s inn (n+1) (.l2 (F Q) l (F l:U) (j:U) met Q)=E5 g s inn n (.l2 (F (E9 inn (met,Q)<|H l j 0).2) l (F l:U) ((j:U)+1) (E9 inn (met,Q)<|H l j 0).1 (E9 inn (met,Q)<|H l j 0).2):=by
 have r1:AG<|(j:U)+1:=AZ.2 ⟨Z2,Z2⟩;have ϙ:(1000000000000:E)=Aw:=rfl
 show Nq n (E5 g s inn n) g s inn (F Q) l (F l:U) (j:U) met Q=_
 unfold Nq E9
 grind
theorem wQ(m:F inn=F g)(G:Gr g)(q:F l<=256)(a:∀ϛ∈l,ϛ∈nb g v):∀(k j n:E) {met:Ω} {Q:Ξ},j+k=F l->Bf g inn s met Q P->v∈Q->
 E5 g s inn (n+k) (.l2 (F Q) l (F l:U) (j:U) met Q)=E5 g s inn n (.l2 (F ((l.drop j).foldl (E9 inn) (met,Q)).2) l (F l:U) (F l:U) ((l.drop j).foldl (E9 inn) (met,Q)).1 ((l.drop j).foldl (E9 inn) (met,Q)).2)
 |0,j,n,met,Q,e,h,b=>by
  grind
 |k+1,j,n,met,Q,e,h,b=>by
  have c:j<F l:=Z2
  have x:H l j 0∈l:=Z4
  have W:=h.rng v<|zNO _ b;have f:=G.rng v W.1 W.2 _<|a _ x;obtain⟨i,⟨t,ht⟩,_,_⟩:=h.ex G b<|a _ x;rw[←zRk,zJ8 m G.len h.len h.cnt c q f];have:=wQ m G q a k (j+1) n Z2 i Z4
  grind[List.drop_eq_getElem_cons]
def PL(g:O Ξ)(inn:Ω)(s:U)(P l:Ξ):Prop:=(P++l).Nodup/\(∀v,v∈P++l↔Rc g inn s v)
def Bf.done(h:Bf g inn s met [] P):PL g inn s P []:=by
 refine⟨h.nd,λv=>⟨h.rc v,λt=>?_⟩⟩
 induction t with
 |start=>exact h.st
 |step _ b hi n=>exact h.cl _ (by simpa using n) _ b hi
theorem Ag.map{R:Type}{f:E->M R}{Q:R->Prop}{Q':R->Prop}{m:R->R}(h:Ag f Q)(hq:∀r,Q r->Q' (m r)):Ag (λn=>(f n).map m) Q':=by
 obtain⟨N,h⟩:=h;refine⟨N,λn hn=>?_⟩
 grind
theorem zQU(G:Gr g)(l:F inn=F g):∀(z:E) (met:Ω) (Q P:Ξ),2*Et met+F Q=z->Bf g inn s met Q P->Ag (λn=>E5 g s inn n<|.l1 (F Q) met Q) (PL g inn s P):=by
 intro z
 induction z using Nat.strongRecOn with
 |_ z y=>
  intro met Q P hz h;cases Q with
  |nil=>
   refine Ev.p (r:=[]) ⟨1,λn I=>?_⟩ h.done;obtain⟨n,rfl⟩:∃k,n=k+1:=⟨n-1,Z2⟩
   simp_all[Vx,E5]
  |cons v q=>
   have f:v∈v::q:=zMw;have j:=h.rng v<|zNO _ f;obtain⟨c,⟨t,o⟩,J,K⟩:=h.exs G (nb g v) f λϛ x=>x;have N:=G.row v j.1 j.2
   generalize FO:(nb g v).foldl (E9 inn) (met,v::q)=st at c o J K
   obtain⟨w,Q'⟩:=st;have o:Q'=v::(q++t):=o;subst o
   have i:Bf g inn s w (q++t)<|P++[v]:=by
    have e:P++[v]++(q++t)=P++(v::(q++t)):=Z3
    have hc:=c.cnt;simp only[zLA]at hc;refine⟨c.len,Z2,by rw[e];exact c.nd,by rw[e];exact c.rc,by rw[e];exact c.rng,by rw[e];exact c.met,?_,by rw[e];exact c.st⟩;intro p hp b S hi;rw[e];rcases zNa.1 hp with hp|hp
    ·exact c.cl p hp b S hi
    grind
   have R:2*Et w+F (q++t)<z:=by
    grind
   have X:=y _ R w (q++t) (P++[v]) rfl i
   have key:Ag (λn=>E5 g s inn n<|.l2 (F<|v::(q++t)) (nb g v) (F<|nb g v:U) (F<|nb g v:U) w<|v::(q++t))<|PL g inn s<|P++[v]:=by
    have g0:(0:U)<=1/\(1:U)<=((F<|v::(q++t):E):U)/\((F<|v::(q++t):E):U)<=((F<|v::(q++t):E):U):=⟨Z2,by rw[zLA];omega,zKw _⟩;cases V:q++t with
    |nil=>
     rw[V]at i;refine Ev.p (r:=[]) ⟨2,λn I=>?_⟩ i.done;obtain⟨n,rfl⟩:∃k,n=k+2:=⟨n-2,Z2⟩
     show Nq (n+1) (E5 g s inn<|n+1) g s inn 1 (nb g v) (F<|nb g v:U) (F<|nb g v:U) w [v]=_
     unfold Nq;rw[zAE Z2,zAD];rfl
    |cons a r=>
     refine Ag.step 1 (λn=>?_) X
     simp_all[Nq,E5]
   have W:Ag (λn=>E5 g s inn n<|.l2 (F<|v::q) (nb g v) (F<|nb g v:U) 0 met<|v::q)<|PL g inn s<|P++[v]:=by
    refine Ag.step (F<|nb g v) (λn=>?_) key;have:=wQ l G N (λϛ x=>x) (F<|nb g v) 0 n Z2 h f
    grind
   have m:∀r:Ξ,PL g inn s (P++[v]) r->PL g inn s P (v::r):=λr hr=>by
    grind[PL]
   refine Ag.step 1 (λn=>?_)<|Ag.map W m
   simp_all[Vx,E5,nb]
theorem jp(G:Gr g)(m:F inn=F g)(h0:0<=s)(h1:s<(F g:U)):Ag (λn=>Ib n g s inn) (λl=>l.Nodup/\∀v,v∈l↔Rc g inn s v):=by
 have r:F ((d (F g) T).set s.toNat D)=F g:=Z3
 have hG:=G.len;have hc:=oO (d (F g) T) s.toNat Z4 Z4
 have T8:Et (d (F g) T)<=F g:=by
  grind[Et]
 have k:Bf g inn s ((d (F g) T).set s.toNat D) [s] []:=by
  refine⟨r,Z4,Z3,λv t=>?_,λv t=>?_,λv To CJ=>?_,λp w=>τ w zNR,Z3⟩
  ·have:v=s:=by simpa using t
   subst this;exact .start
  ·grind
  grind
 have:=zQU G m _ _ _ _ rfl k
 grind[Ag.mono,PL,Ib,jn]
end
abbrev zNS:=@BitVec.toNat_ofInt
abbrev zRu:=@BitVec.eq_of_getLsbD_eq
abbrev zSI:=@Nat.pow_le_pow_right
abbrev zSN:=@Nat.testBit_two_pow
abbrev zSR:=@Bool.false_and
end Go.Proofs.YtnkpdcmbppkkpaaGreatDoor
namespace Go.Proofs.YtnkpdcmbppkkpaaGreatDoor
def tb(x:U)(i:E):ζ:=(BitVec.ofInt 64 x).getLsbD i
def CB(x:U):Prop:=-9223372036854775808<=x/\x<=9223372036854775807
theorem WV(x:U):BitVec.ofInt 64 (IntKind.i64.wrap x)=BitVec.ofInt 64 x:=by
 grind[BitVec.eq_of_toNat_eq,BitVec.toNat_ofInt,IntKind.wrap_i64]
def kr(y:BitVec 64):BitVec.ofInt 64 (y.toNat:U)=y:=by
 rw[BitVec.ofInt_natCast];simp
theorem Rt(x:U):CB<|IntKind.i64.wrap x:=by
 rw[zSA];constructor <;> omega
theorem D5(m:BinOp)(a b:U):CB<|bits m .i64 a b:=Rt _
theorem Ke(a b:U)(i:E):tb (bits .or .i64 a b) i=(tb a i||tb b i):=by
 show(BitVec.ofInt 64<|IntKind.i64.wrap ((BitVec.ofInt 64 a|||BitVec.ofInt 64 b).toNat:U)).getLsbD i=_
 rw[WV,kr,BitVec.getLsbD_or];rfl
theorem FG(a b:U)(i:E):tb (bits .and .i64 a b) i=(tb a i&&tb b i):=by
 show(BitVec.ofInt 64<|IntKind.i64.wrap ((BitVec.ofInt 64 a&&& BitVec.ofInt 64 b).toNat:U)).getLsbD i=_
 rw[WV,kr,BitVec.getLsbD_and];rfl
variable{i:E}{x:U}
theorem Uw(h:64<=i):tb x i=T:=BitVec.getLsbD_of_ge _ _ h
theorem IT(a b:U)(i:E):tb (bits .andNot .i64 a b) i=(tb a i&&!tb b i):=by
 show(BitVec.ofInt 64<|IntKind.i64.wrap ((BitVec.ofInt 64 a&&& ~~~ BitVec.ofInt 64 b).toNat:U)).getLsbD i=_
 grind[WV,tb]
theorem ZR(a:U)(h:i<64):tb (bits .xor .i64 (-1) a) i= !tb a i:=by
 show(BitVec.ofInt 64<|IntKind.i64.wrap ((BitVec.ofInt 64 (-1)^^^BitVec.ofInt 64 a).toNat:U)).getLsbD i=_
 rw[WV,kr,BitVec.getLsbD_xor];have:BitVec.ofInt 64 (-1)=BitVec.allOnes 64:=Z6
 rw[this,BitVec.getLsbD_allOnes];simp[h,tb]
theorem ZQ(i:E):tb 0 i=T:=by
 simp_all[tb]
theorem NK :¬tb 0 i=D:=by rw[ZQ];decide
theorem Iz{y:U}(hx:CB x)(hy:CB y)(h:∀i,i<64->tb x i=tb y i):x=y:=by
 have e:BitVec.ofInt 64 x=BitVec.ofInt 64 y:=zRu λi hi=>h i hi
 have e2:=congrArg BitVec.toNat e
 grind[BitVec.toNat_ofInt,CB]
theorem Je(m i:E)(hi:i<64):tb (m:U) i=m.testBit i:=by
 grind[tb,BitVec.getLsbD_ofNat]
def Sm(k:E)(x:U):Prop:=0<=x/\x<2^k
variable{k:E}
theorem K6(f:k<=62):(2:U)^k<=4611686018427387904:=by
 have:(2:E)^k<=2^62:=zSI Z6 f
 grind
def Sm.in64(f:k<=62)(h:Sm k x):CB x:=by
 have:=K6 f;obtain⟨h1,h2⟩:=h;constructor <;> omega
theorem Sm.hi(h:Sm k x)(hi:k<=i):tb x i=T:=by
 rcases zK8 i 64 with Xf|Xf
 ·obtain⟨m,rfl⟩:=zNA h.1;rw[Je m i Xf];apply Nat.testBit_lt_two_pow;have c:(m:U)<2^k:=h.2;have h3:m<2^k:=by exact_mod_cast c
  grind[Nat.lt_of_lt_of_le,Nat.pow_le_pow_right]
 ·exact Uw Xf
theorem NR(f:k<=62)(hx:CB x)(h:∀i,k<=i->i<64->tb x i=T):Sm k x:=by
 have hy:(BitVec.ofInt 64 x).toNat<2^k:=by
  apply Nat.lt_pow_two_of_testBit
  grind[tb,BitVec.getLsbD]
 rw[zNS]at hy;have h1:=K6 f
 grind[CB,Sm]
variable{s:E}
theorem PX(hi:i<64):tb ((2^s:E):U) i=C (s=i):=by
 rw[Je _ _ hi,zSN]
theorem NJ(a:CB x):x=0↔∀i,i<64->tb x i=T:=
 ⟨λh i _=>by rw[h];exact ZQ i,λh=>Iz a ⟨Z6,Z6⟩ λi hi=>by rw[h i hi,ZQ]⟩
theorem Lw(a:CB x):x≠0↔∃i,i<64/\tb x i=D:=by
 rw[ne_eq,NJ a]
 grind
theorem rf(h:Sm k x)(f:k<=62)(p:s<64):bits .and .i64 (x/2^s) 1=u (tb x s) 1 0:=by
 obtain⟨m,rfl⟩:=zNA h.1;have hm:=h.2;have Xg:=K6 f;have e:(m:U)/2^s=((m/2^s:E):U):=Z3
 have key:∀t,t<64->tb (bits .and .i64 ((m:U)/2^s) 1) t=(C (t=0)&&tb (m:U) s):=λt o=>by
  rw[FG,e,Je _ _ o,Je m s p,show(1:U)=((1:E):U)from rfl,Je 1 t o,Nat.testBit_div_two_pow]
  by_cases h0:t=0
  ·subst h0;simp
  ·rw[zAE h0,zSR]
   have:Nat.testBit 1 t=T:=by
    rw[show(1:E)=2^0 from rfl,zSN];simpa using λh=>h0 h.symm
   rw[this,Bool.and_false]
 cases b:tb (m:U) s with
 |true=>
  rw[zAF rfl];refine Iz (D5 _ _ _) ⟨Z6,Z6⟩ λt o=>?_
  rw[key t o,b,show(1:U)=((1:E):U)from rfl,Je 1 t o,Bool.and_true]
  by_cases h0:t=0
  ·subst h0;rfl
  ·rw[zAE h0];rw[show(1:E)=2^0 from rfl,zSN];symm;simpa using λh=>h0 h.symm
 |false=>
  simp_all[NJ,D5]
theorem Zr(h:Sm k x)(hk:k<=62)(hs:s<64):(bits .and .i64 (x/2^s) 1==1)=tb x s:=by
 grind[rf]
end Go.Proofs.YtnkpdcmbppkkpaaGreatDoor
