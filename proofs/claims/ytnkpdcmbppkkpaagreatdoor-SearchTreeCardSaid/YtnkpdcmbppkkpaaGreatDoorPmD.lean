/- Part 4 of 8 of what the proofs of these laws stand on. -/
import Derived.Test.YtnkpdcmbppkkpaaGreatDoorPmC
import Derived.Laws.BitsLemmas
import Derived.Shelf.Sort.Plain
set_option linter.all false
open Bool renaming false->D,true->T
open Decidable renaming decide->H
open Eq renaming refl->φ
open Go renaming World->κ,Value->μ,TypeId->ψ
open Go.Fence renaming wide->η
open Go.Proofs.Tryz renaming prog->B
open List renaming length->F,getD->M,replicate->d,range->θ
open Nat.le renaming refl->χ
open Option renaming none->V,some->Z
open _root_ renaming Option->A,ite->C,Int->E,cond->L,List->O,Nat->U,Bool->ζ,absurd->τ,Array->υ
namespace Go.Proofs.YtnkpdcmbppkkpaaGreatDoor
open Go.RowKit
abbrev zMw:=@LawfulBEq.eq_of_beq
section
set_option maxRecDepth 100000
set_option maxHeartbeats 40000000
def zId(n:U)(g_:O Ξ)(AN:Ω)(start:E):A Unit:=Z ()
def zIe(n:U)(J:O Ξ)(e:Ω)(start:E):A Unit:=zId n J e start
variable{n:U}
def zIc(J:O Ξ)(e:Ω)(start:E){r:Unit}(h:zIe n J e start=Z r):EQ 198 [.sl 1 (F J)<|AM AW J,.bools e,.i start] [] (.fn 202 3<|L1 [.ref 0 0,.ref 1 0,.ref 2 0]) [oC [.sl 1 (F J)<|AM AW J],oC [.i start],oC [.bools e]] T:=by
 refine ot Tryz.func198 λϙ N=>?_
 revert r;apply gO;exact lE AC [6] [0,2,1]
def zF1:Ar (Am Tryz.f202 6) [] (θ 8) []:=Z0
def Ks:BZ:=λi=>match i with
 |6=>.ord [] (θ 8) []
 |_=>.no
def f9(g:O Ξ)(start:E)(inn w:Ω)(o4:Ξ):DH:=[oC [.sl 1 (F g)<|AM AW g],oC [.i start],oC [.bools inn],Z<|.bools w,oI o4]
inductive MD where
 |l1 (x6:U) (o3:Ω) (o4:Ξ)
 |l2 (x6:U) (CH:Ξ) (Dc BR:E) (o3:Ω) (o4:Ξ)
 |l3 (o3:Ω)
def XS(n:U)(self:MD->A Ξ)(g:O Ξ)(start:E)(inn:Ω)(x6:U)(w:Ω)(o4:Ξ):A Ξ:=L (H<|(x6:E)>0) (C (((0:E)<=0/\0<(x6:E))/\0+0<F o4) (Option.map (λl=>M o4 (0+0) 0::l)<|C (((0:E)<=0/\0<(x6:E))/\0+0<F o4/\(0<=M o4 (0+0) 0/\M o4 (0+0) 0<(F g:E))) (self<|.l2 x6 (M g (M o4 (0+0) 0).toNat []) ((F<|M g (M o4 (0+0) 0).toNat []:U):E) 0 w o4) V) V)<|Z []
def PG(n:U)(self:MD->A Ξ)(g:O Ξ)(start:E)(inn:Ω)(x6:U)(a:Ξ)(b I:E)(w:Ω)(o4:Ξ):A Ξ:=L (H<|I<b) (C ((0<=I/\I<(F a:E))/\(0<=M a I.toNat 0/\M a I.toNat 0<(F inn:E))) (L (M inn (M a I.toNat 0).toNat D) (C ((0<=M a I.toNat 0/\M a I.toNat 0<(F g:E))/\0+(M a I.toNat 0).toNat<F w) (L (!(M w (0+(M a I.toNat 0).toNat) D)) (C (((0=0/\1=F ([M a I.toNat 0]:Ξ))/\(0=0/\x6=F o4)/\F o4+F ([M a I.toNat 0]:Ξ)<=Av)/\AI (I+1)) (self<|.l2 (F o4+F ([M a I.toNat 0]:Ξ)) a b (I+1) (w.set (0+(M a I.toNat 0).toNat) T)<|o4++([M a I.toNat 0]:Ξ)) V)<|C (AI<|I+1) (self<|.l2 x6 a b (I+1) w o4) V) V)<|C (AI<|I+1) (self<|.l2 x6 a b (I+1) w o4) V) V)<|L ((x6-1)==0) (C ((0:E)<=1/\(1:E)<=(x6:E)/\(x6:E)<=(x6:E)) (self<|.l3 w) V)<|C ((0:E)<=1/\(1:E)<=(x6:E)/\(x6:E)<=(x6:E)) (C (1<=F o4) (self<|.l1 (x6-1) w<|o4.drop 1) V) V
def lv(n:U)(self:MD->A Ξ)(g:O Ξ)(start:E)(inn:Ω)(o3:Ω):A Ξ:=Z []
def lw(n:U)(self:MD->A Ξ)(g:O Ξ)(start:E)(inn:Ω):A Ξ:=C ((((F g:E):E)=(F g:E)/\0<=(F g:E)/\((F g:E):E)<=1000000000000)/\(0<=start/\start<(F g:E))/\0+start.toNat<F (d (F g) D)) (self<|.l1 1 ((d (F g) D).set (0+start.toNat) T) ([start]:Ξ)) V
def Fv(g:O Ξ)(start:E)(inn:Ω):U->MD->A Ξ
 |0,_=>V
 |n+1,.l1 x6 w o4=>XS n (Fv g start inn n) g start inn x6 w o4
 |n+1,.l2 x6 a b I w o4=>PG n (Fv g start inn n) g start inn x6 a b I w o4
 |n+1,.l3 w=>lv n (Fv g start inn n) g start inn w
def JR(n:U)(g:O Ξ)(start:E)(inn:Ω):A Ξ:=lw n (Fv g start inn n) g start inn
def RF(ϛ:Bw B)(n:U)(g:O Ξ)(start:E)(inn:Ω)(r:Ξ):MD->Prop
 | .l1 x6 w o4=>∀q:U,n<=q->∀i:U,i<=F ϛ.encs->ϛ.encs.drop i=r.map Bn->A6 B GG η V 3 (ϛ.Y GG 3 i) (ϛ.Q GG 3) (EH q<|Fo (AZ Tryz.f202) 0 []) ⟨AF 58 [(0,.yl ϛ.l),(1,.ref 0 0),(3,.ref 2 0),(5,.msl 3 1 0<|F g),(6,.msl 4 1 0 x6)],[oC [.sl 1 (F g)<|AM AW g],oC [.i start],oC [.bools inn],Z<|.bools w,oI o4]⟩
 | .l2 x6 a b I w o4=>∀q S:U,n<=q->n<=S->∀i:U,i<=F ϛ.encs->ϛ.encs.drop i=r.map Bn->A6 B GG η V 3 (ϛ.Y GG 3 i) (ϛ.Q GG 3) (EH S<|Fo (AZ Tryz.f202) 2 [q]) ⟨AF 58 [(0,.yl ϛ.l),(1,.ref 0 0),(3,.ref 2 0),(5,.msl 3 1 0<|F g),(6,.msl 4 1 0 x6),(33,.ints a),(34,.i b),(35,.i I)],[oC [.sl 1 (F g)<|AM AW g],oC [.i start],oC [.bools inn],Z<|.bools w,oI o4]⟩
 | .l3 w=>∀q:U,n<=q->∀i:U,i<=F ϛ.encs->ϛ.encs.drop i=r.map Bn->A6 B GG η V 3 (ϛ.Y GG 3 i) (ϛ.Q GG 3) (EH q<|Fo (AZ Tryz.f202) 0 []) ⟨AF 58 [(0,.yl ϛ.l),(1,.ref 0 0),(3,.ref 2 0),(5,.msl 3 1 0<|F g),(6,.ints ([]:Ξ))],[oC [.sl 1 (F g)<|AM AW g],oC [.i start],oC [.bools inn],Z<|.bools w]⟩
def zIX(ϛ:Bw B)(n:U)(self:MD->A Ξ)(g:O Ξ)(start:E)(inn:Ω)(I:∀G r,self G=Z r->RF ϛ n g start inn r G)(x6:U)(w:Ω)(o4:Ξ)(r:Ξ)(h:XS n self g start inn x6 w o4=Z r):RF ϛ (n+1) g start inn r<|.l1 x6 w o4:=by
 intro q c;intro i hi a;refine rd c λq c=>?_
 unfold XS at h;have p:=H0;rcases Bv h with⟨f,h⟩|⟨f,h⟩
 ·have p:=H0.b 19 f;refine gs (AQ 5 Ks) [0,1,2,3,4] p (CY (AZ Tryz.f202) 5 [q]) (AF 58 [(0,.yl ϛ.l),(1,.ref 0 0),(3,.ref 2 0),(5,.msl 3 1 0<|F g),(6,.msl 4 1 0 x6)]) (f9 g start inn w o4) ?_;obtain⟨⟨k,m⟩,h⟩:=B6 h;have p:=H0.g k|>.g m
  obtain⟨r,j,rfl⟩:=K9 h;clear h;have h:=j;clear j;obtain⟨o,hi,a⟩:=Zl a;refine A6.y (ops:=Am Tryz.f202 5) HC.x 4 [0,1,3,5,6,27] [0,1,2,3,4] p (x:=Bn<|M o4 (0+0) 0) (AF 58 [(0,.yl ϛ.l),(1,.ref 0 0),(3,.ref 2 0),(5,.msl 3 1 0<|F g),(6,.msl 4 1 0 x6),(27,.bool D)]) (f9 g start inn w o4) (AF 58 [(0,.yl ϛ.l),(1,.ref 0 0),(3,.ref 2 0),(5,.msl 3 1 0<|F g),(6,.msl 4 1 0 x6),(27,.bool T)]) (f9 g start inn w o4) Z5 Z5 Z5 o Z5 ?_ ?_
  ·generalize i+1=i at hi a⊢
   obtain⟨⟨u,s,K⟩,h⟩:=B6 h;have p:=H0.g zF1|>.g u|>.g s|>.g K
   exact gg Ks [0,1,2,3,4] p<|en n<|I _ _ h q n c χ i hi a
  ·exact TrI.e HC.x Ks 6 H0 Z5<|.inr rfl
 ·have p:=H0.b 19 f;cases h;exact TrI.e HC.x Ks 10 p Z5 (.inl<|by rw[Sd hi a])
def zIW(ϛ:Bw B)(n:U)(self:MD->A Ξ)(g:O Ξ)(start:E)(inn:Ω)(I:∀G r,self G=Z r->RF ϛ n g start inn r G)(x6:U)(y:Ξ)(z J:E)(j:Ω)(o4:Ξ)(r:Ξ)(h:PG n self g start inn x6 y z J j o4=Z r):RF ϛ (n+1) g start inn r<|.l2 x6 y z J j o4:=by
 intro q S a e;intro i hi f;have a:=zBE a;refine rd e λS e=>?_
 unfold PG at h;have p:=H0;rcases Bv h with⟨s,h⟩|⟨s,h⟩
 ·obtain⟨⟨x,t⟩,h⟩:=B6 h;have p:=H0.b 36 s|>.g x|>.g t
  rcases Bv h with⟨c,h⟩|⟨c,h⟩
  ·obtain⟨⟨u,N⟩,h⟩:=B6 h;have p:=p.b 42 c|>.g u|>.g N
   rcases Bv h with⟨v,h⟩|⟨v,h⟩
   ·obtain⟨⟨K,P⟩,h⟩:=B6 h;have p:=p.b 48 v|>.g u|>.g N|>.g K|>.w 57 P
    exact gg Ks [0,1,2,3,6] p<|I _ _ h q S a e i hi f
   ·obtain⟨K,h⟩:=B6 h;have p:=p.b 48 v|>.w 57 K
    exact gg Ks [0,1,2,3,4] p<|I _ _ h q S a e i hi f
  ·obtain⟨u,h⟩:=B6 h;have p:=p.b 42 c|>.w 57 u
   exact gg Ks [0,1,2,3,4] p<|I _ _ h q S a e i hi f
 ·have p:=H0.b 36 s;rcases Bv h with⟨c,h⟩|⟨c,h⟩
  ·obtain⟨x,h⟩:=B6 h;have p:=p.g x|>.o 21 (AO.mse_nil (k:=4) (m:=1) (o:=1)<|zMw c)
   exact gg Ks [0,1,2,3] p<|I _ _ h q a i hi f
  ·obtain⟨x,h⟩:=B6 h;have p:=p.g x|>.o 21 (AO.mse_msl (k:=4) (m:=1) (o:=1) (dU c) rfl)
   obtain⟨t,h⟩:=B6 h;refine gs Ks [0,1,2,3,4] p (EH q<|Fo (AZ Tryz.f202) 0 []) (AF 58 [(0,.yl ϛ.l),(1,.ref 0 0),(3,.ref 2 0),(5,.msl 3 1 0<|F g),(6,.msl 4 1 1<|x6-1)]) (f9 g start inn j o4) ?_;refine BY.le (BB.rootE 4 1 ⟨AF 58 [(0,.yl ϛ.l),(1,.ref 0 0),(3,.ref 2 0),(5,.msl 3 1 0<|F g),(6,.msl 5 1 0<|x6-1)],[oC [.sl 1 (F g)<|AM AW g],oC [.i start],oC [.bools inn],Z<|.bools j,V,oI<|o4.drop 1]⟩ [1<=F o4] Z5 ⟨t,trivial⟩) Z5 ?_;refine BY.le (BB.compE [0,1,2,3,5] Z5) Z5 ?_;exact I _ _ h q a i hi f
def zIV(ϛ:Bw B)(n:U)(self:MD->A Ξ)(g:O Ξ)(start:E)(inn:Ω)(AH:∀G r,self G=Z r->RF ϛ n g start inn r G)(w:Ω)(r:Ξ)(h:lv n self g start inn w=Z r):RF ϛ (n+1) g start inn r<|.l3 w:=by
 intro q a;intro i hi b;refine rd a λq a=>?_
 unfold lv at h;have p:=H0;cases h;exact TrI.e HC.x Ks 10 p Z5 (.inl<|by rw[Sd hi b])
def dF(ϛ:Bw B)(g:O Ξ)(start:E)(inn:Ω):∀(n:U) (G:MD) (r:Ξ),Fv g start inn n G=Z r->RF ϛ n g start inn r G
 |0,_,_,h=>by cases h
 |n+1,.l1 x6 w o4,r,h=>zIX ϛ n (Fv g start inn n) g start inn (dF ϛ g start inn n) x6 w o4 r h
 |n+1,.l2 x6 a b I w o4,r,h=>zIW ϛ n (Fv g start inn n) g start inn (dF ϛ g start inn n) x6 a b I w o4 r h
 |n+1,.l3 w,r,h=>zIV ϛ n (Fv g start inn n) g start inn (dF ϛ g start inn n) w r h
variable{r:Ξ}
def zIa(g:O Ξ)(start:E)(inn:Ω)(h:JR n g start inn=Z r)(ϛ:Bw B)(a:ϛ.encs=r.map Bn):A6 B GG η V 3 (ϛ.Y GG 3 0) (ϛ.Q GG 3) [.code<|AZ Tryz.f202] ⟨AF 58 [(0,.yl ϛ.l),(1,.ref 0 0),(2,.ref 1 0),(3,.ref 2 0)],[oC [.sl 1 (F g)<|AM AW g],oC [.i start],oC [.bools inn]]⟩:=by
 suffices Ϙ:∀i:U,i<=F ϛ.encs->ϛ.encs.drop i=r.map Bn->A6 B GG η V 3 (ϛ.Y GG 3 i) (ϛ.Q GG 3) [.code<|AZ Tryz.f202] ⟨AF 58 [(0,.yl ϛ.l),(1,.ref 0 0),(2,.ref 1 0),(3,.ref 2 0)],[oC [.sl 1 (F g)<|AM AW g],oC [.i start],oC [.bools inn]]⟩from Ϙ 0 (zMK _) (by rw[zMy];exact a)
 intro i hi b;have I:=dF ϛ g start inn n;unfold JR at h
 generalize Fv g start inn n=self at h I
 unfold lw at h;obtain⟨⟨x,c,u⟩,h⟩:=B6 h;have p:=H0.g x|>.g c|>.g u
 exact gg Ks [0,1,2,3,4] p<|en n<|I _ _ h n χ i hi b
def ly{J:O Ξ}{a:Ω}{start:E}(h:JR n J start a=Z r)(Ϙ:DH):EQ 198 [.sl 1 (F J)<|AM AW J,.bools a,.i start] Ϙ (.it<|F Ϙ) (Ϙ++[Z<|.iter<|r.map Bn]) T:=by
 refine ES.iterN (c:=L1 [.ref 0 0,.ref 1 0,.ref 2 0]) (h0:=[oC [.sl 1 (F J)<|AM AW J],oC [.i start],oC [.bools a]]) (fn:=Tryz.f202) (zIc (n:=0) J a start (r:=()) rfl) Z5 Tryz.func202 Z5 Z5 Z5 (λϛ g=>?_) Ϙ;have e:DV.yl ϛ.l::(θ 3).map (L1 [.ref 0 0,.ref 1 0,.ref 2 0])++d (Tryz.f202.ntmps-(3+1)) .any=AF 58 [(0,.yl ϛ.l),(1,.ref 0 0),(2,.ref 1 0),(3,.ref 2 0)]:=Z5
 rw[e];exact zIa J start a h ϛ g
end
abbrev zB0:=@decide_eq_true_iff
abbrev zMd:=@Bool.not_false
abbrev zOU:=@List.mem_append_right
abbrev zOi:=@List.append_assoc
def nb(g:O Ξ)(v:E):Ξ:=M g v.toNat []
structure Gr(g:O Ξ):Prop where
 len:F g<=256
 row:∀v,0<=v->v<(F g:E)->F (nb g v)<=256
 rng:∀v,0<=v->v<(F g:E)->∀u∈nb g v,0<=u/\u<(F g:E)
 sym:∀v,0<=v->v<(F g:E)->∀u∈nb g v,v∈nb g u
theorem Gr.of{g:O Ξ}(h:LY g=T)(hr:∀r∈g,F r<=LB):Gr g:=by
 unfold LY at h;rw[zAK,zB0,zAP]at h
 have key:∀v,0<=v->v<(F g:E)->∀u∈nb g v,(0<=u/\u<(F g:E))/\v∈nb g u:=by
  intro v h0 a u t;have c:=h.2 v.toNat<|zAV.2 Z2;unfold JO at c;rw[zAP]at c;obtain⟨j,f,e⟩:=zJw t;have b:=c j<|zAV.2 f;unfold Hz at b
  have e2:M (M g v.toNat []) j 0=u:=by
   grind[nb]
  grind[nb]
 have grow:∀v,0<=v->v<(F g:E)->∀k,k<F (nb g v)->(k:E)<=M (nb g v) k 0:=by
  intro v h0 a k;have c:=h.2 v.toNat<|zAV.2 Z2;unfold JO at c;rw[zAP]at c
  induction k with
  |zero=>
   grind
  |succ k ih=>
   intro hk;have b:=c (k+1)<|zAV.2 hk;unfold Hz at b
   grind[nb]
 exact⟨h.1,λv h0 a=>by
  grind[List.getElem_mem],λv h0 a u t=>(key v h0 a u t).1,λv h0 a u t=>(key v h0 a u t).2⟩
inductive Rc(g:O Ξ)(inn:Ω)(s:E):E->Prop
 |start:Rc g inn s s
 |step {a b:E} (h:Rc g inn s a) (hb:b∈nb g a) (hi:M inn b.toNat D=T):Rc g inn s b
section
variable{g:O Ξ}{inn:Ω}{s:E}
variable{v:E}
def Rc.rng(G:Gr g)(h0:0<=s)(a:s<(F g:E))(h:Rc g inn s v):0<=v/\v<(F g:E):=by
 induction h with
 |start=>exact⟨h0,a⟩
 |step h b hi n=>exact G.rng _ n.1 n.2 _ b
def Rc.isIn(l:M inn s.toNat D=T)(h:Rc g inn s v):M inn v.toNat D=T:=by
 cases h with
 |start=>exact l
 |step h hb hi=>exact hi
def Rc.trans{a b:E}(h:Rc g inn s a)(c:Rc g inn a b):Rc g inn s b:=by
 induction c with
 |start=>exact h
 |step _ e hi n=>exact .step n e hi
def Rc.symm(G:Gr g)(h0:0<=s)(a:s<(F g:E))(l:M inn s.toNat D=T)(h:Rc g inn s v):Rc g inn v s:=by
 induction h with
 |start=>exact .start
 |step h b hi n=>
  have i:=h.rng G h0 a;exact(Rc.step Rc.start (G.sym _ i.1 i.2 _ b)<|h.isIn l).trans n
theorem Rc.mono{c:Ω}(z:∀v:E,M inn v.toNat D=T->M c v.toNat D=T)(h:Rc g inn s v):Rc g c s v:=by
 induction h with
 |start=>exact .start
 |step h b hi n=>exact .step n b<|z _ hi
def Fc(l:Ω):U:=l.countP λb=>!b
theorem qm:∀(l:Ω) (i:U),i<F l->M l i D=D->Fc (l.set i T)+1=Fc l
 |b::l,0,_,h=>by
  grind[Fc]
 |b::l,i+1,hi,h=>by
  grind[Fc]
def GE(inn:Ω)(st:Ω×Ξ)(v:E):Ω×Ξ:=L (M inn v.toNat D&&!M st.1 v.toNat D) (st.1.set v.toNat T,st.2++[v]) st
structure Bf(g:O Ξ)(inn:Ω)(s:E)(met:Ω)(Q P:Ξ):Prop where
 len:F met=F g
 cnt:F Q+Fc met<=F g
 nd:(P++Q).Nodup
 rc:∀v∈P++Q,Rc g inn s v
 rng:∀v∈P++Q,0<=v/\v<(F g:E)
 met:∀v:E,0<=v->v<(F g:E)->(M met v.toNat D=T↔v∈P++Q)
 cl:∀p∈P,∀b∈nb g p,M inn b.toNat D=T->b∈P++Q
 st:s∈P++Q
variable{Q P:Ξ}{met:Ω}
theorem Bf.ex(G:Gr g)(h:Bf g inn s met Q P){u:E}(o:v∈Q)(i:u∈nb g v):
 Bf g inn s (GE inn (met,Q) u).1 (GE inn (met,Q) u).2 P/\(∃t,(GE inn (met,Q) u).2=Q++t)/\(M inn u.toNat D=T->u∈P++(GE inn (met,Q) u).2)/\2*Fc (GE inn (met,Q) u).1+F (GE inn (met,Q) u).2<=2*Fc met+F Q:=by
 have j:=h.rng v<|zOU _ o;have f:=G.rng v j.1 j.2 u i;unfold GE;cases hi:M inn u.toNat D
 ·simp_all
 ·cases z:M met u.toNat D
  ·rw[zMd,Bool.and_true,zAI];have hn:u∉P++Q:=λm=>by rw[(h.met u f.1 f.2).2 m]at z;cases z
   have hl:=h.len;have hc:=qm met u.toNat Z2 z;have hcnt:=h.cnt;have c:∀x,x∈P++(Q++[u])↔x∈P++Q∨x=u:=λx=>by simp[or_assoc]
   refine⟨⟨Z4,Z4,?_,λx e=>?_,λx e=>?_,λx n q=>?_,λp r b l k=>(c b).2<|.inl<|h.cl p r b l k,(c s).2<|.inl h.st⟩,⟨[u],rfl⟩,λ_=>(c u).2<|.inr rfl,Z4⟩
   ·rw[←zOi,zTz];exact⟨h.nd,Z3,λa ha b l=>Z4⟩
   ·rcases(c x).1 e with e|rfl
    ·exact h.rc x e
    ·exact .step (h.rc v<|zOU _ o) i hi
   ·rcases(c x).1 e with e|rfl
    ·exact h.rng x e
    ·exact f
   ·rw[c,←h.met x n q]
    grind
  ·exact⟨h,⟨[],Z3⟩,λ_=>(h.met u f.1 f.2).1 z,zAf _⟩
theorem Bf.exs(G:Gr g):∀(l:Ξ) {met:Ω} {Q:Ξ},Bf g inn s met Q P->v∈Q->(∀u∈l,u∈nb g v)->
 Bf g inn s (l.foldl (GE inn) (met,Q)).1 (l.foldl (GE inn) (met,Q)).2 P/\(∃t,(l.foldl (GE inn) (met,Q)).2=Q++t)/\(∀u∈l,M inn u.toNat D=T->u∈P++(l.foldl (GE inn) (met,Q)).2)/\2*Fc (l.foldl (GE inn) (met,Q)).1+F (l.foldl (GE inn) (met,Q)).2<=2*Fc met+F Q
 |[],met,Q,h,o,m=>⟨h,⟨[],Z3⟩,λu a=>τ a zQF,zAf _⟩
 |u::l,met,Q,h,o,m=>by
  obtain⟨b,⟨t,ht⟩,h2,h3⟩:=h.ex G o<|m u zMY;obtain⟨h4,⟨t',ht'⟩,h5,h6⟩:=Bf.exs G l b Z4 λx e=>m x<|zMO _ e
  grind
variable{l:Ξ}
theorem zLU{n j:U}(hI:F inn=F g)(hG:F g<=256)(hm:F met=F g)(hQ:F Q+Fc met<=F g)(hj:j<F l)(hl:F l<=256)(hr:0<=M l j 0/\M l j 0<(F g:E)):
 Fv g s inn (n+1) (.l2 (F Q) l (F l:E) (j:E) met Q)=Fv g s inn n (.l2 (F (GE inn (met,Q)<|M l j 0).2) l (F l:E) ((j:E)+1) (GE inn (met,Q)<|M l j 0).1 (GE inn (met,Q)<|M l j 0).2):=by
 have r1:AI<|(j:E)+1:=Ae.2 ⟨Z2,Z2⟩;have Ϝ:(1000000000000:U)=Av:=rfl
 show PG n (Fv g s inn n) g s inn (F Q) l (F l:E) (j:E) met Q=_
 unfold PG GE
 grind
theorem yj(Y:F inn=F g)(G:Gr g)(m:F l<=256)(a:∀u∈l,u∈nb g v):∀(k j n:U) {met:Ω} {Q:Ξ},j+k=F l->Bf g inn s met Q P->v∈Q->
 Fv g s inn (n+k) (.l2 (F Q) l (F l:E) (j:E) met Q)=Fv g s inn n (.l2 (F ((l.drop j).foldl (GE inn) (met,Q)).2) l (F l:E) (F l:E) ((l.drop j).foldl (GE inn) (met,Q)).1 ((l.drop j).foldl (GE inn) (met,Q)).2)
 |0,j,n,met,Q,e,h,o=>by
  grind
 |k+1,j,n,met,Q,e,h,o=>by
  have f:j<F l:=Z2
  have b:M l j 0∈l:=Z4
  have c:=h.rng v<|zOU _ o;have i:=G.rng v c.1 c.2 _<|a _ b;obtain⟨p,⟨t,ht⟩,_,_⟩:=h.ex G o<|a _ b;rw[←zTh,zLU Y G.len h.len h.cnt f m i];have:=yj Y G m a k (j+1) n Z2 p Z4
  grind[List.drop_eq_getElem_cons]
def Qi(g:O Ξ)(inn:Ω)(s:E)(P l:Ξ):Prop:=(P++l).Nodup/\(∀v,v∈P++l↔Rc g inn s v)
def Bf.done(h:Bf g inn s met [] P):Qi g inn s P []:=by
 refine⟨h.nd,λv=>⟨h.rc v,λo=>?_⟩⟩
 induction o with
 |start=>exact h.st
 |step _ b hi n=>exact h.cl _ (by simpa using n) _ b hi
theorem Aw.map{R:Type}{f:U->A R}{Q:R->Prop}{Q':R->Prop}{m:R->R}(h:Aw f Q)(hq:∀r,Q r->Q' (m r)):Aw (λn=>(f n).map m) Q':=by
 obtain⟨N,h⟩:=h;refine⟨N,λn hn=>?_⟩
 grind
theorem zSD(G:Gr g)(Y:F inn=F g):∀(z:U) (met:Ω) (Q P:Ξ),2*Fc met+F Q=z->Bf g inn s met Q P->Aw (λn=>Fv g s inn n<|.l1 (F Q) met Q) (Qi g inn s P):=by
 intro z
 induction z using Nat.strongRecOn with
 |_ z y=>
  intro met Q P hz h;cases Q with
  |nil=>
   refine Ev.p (r:=[]) ⟨1,λn I=>?_⟩ h.done;obtain⟨n,rfl⟩:∃k,n=k+1:=⟨n-1,Z2⟩
   simp_all[XS,Fv]
  |cons v q=>
   have o:v∈v::q:=zMY;have x:=h.rng v<|zOU _ o;obtain⟨c,⟨t,i⟩,J,K⟩:=h.exs G (nb g v) o λu j=>j;have R:=G.row v x.1 x.2
   generalize hst:(nb g v).foldl (GE inn) (met,v::q)=st at c i J K
   obtain⟨f,Q'⟩:=st;have i:Q'=v::(q++t):=i;subst i
   have N:Bf g inn s f (q++t)<|P++[v]:=by
    have e:P++[v]++(q++t)=P++(v::(q++t)):=Z3
    have hc:=c.cnt;simp only[zDM]at hc;refine⟨c.len,Z2,by rw[e];exact c.nd,by rw[e];exact c.rc,by rw[e];exact c.rng,by rw[e];exact c.met,?_,by rw[e];exact c.st⟩;intro p hp b S hi;rw[e];rcases zMc.1 hp with hp|hp
    ·exact c.cl p hp b S hi
    grind
   have W:2*Fc f+F (q++t)<z:=by
    grind
   have X:=y _ W f (q++t) (P++[v]) rfl N
   have key:Aw (λn=>Fv g s inn n<|.l2 (F<|v::(q++t)) (nb g v) (F<|nb g v:E) (F<|nb g v:E) f<|v::(q++t))<|Qi g inn s<|P++[v]:=by
    have g0:(0:E)<=1/\(1:E)<=((F<|v::(q++t):U):E)/\((F<|v::(q++t):U):E)<=((F<|v::(q++t):U):E):=⟨Z2,by rw[zDM];omega,zCs _⟩;cases l:q++t with
    |nil=>
     rw[l]at N;refine Ev.p (r:=[]) ⟨2,λn I=>?_⟩ N.done;obtain⟨n,rfl⟩:∃k,n=k+2:=⟨n-2,Z2⟩
     show PG (n+1) (Fv g s inn<|n+1) g s inn 1 (nb g v) (F<|nb g v:E) (F<|nb g v:E) f [v]=_
     unfold PG;rw[zAF Z2,zAJ];rfl
    |cons a r=>
     refine Aw.step 1 (λn=>?_) X
     simp_all[PG,Fv]
   have w:Aw (λn=>Fv g s inn n<|.l2 (F<|v::q) (nb g v) (F<|nb g v:E) 0 met<|v::q)<|Qi g inn s<|P++[v]:=by
    refine Aw.step (F<|nb g v) (λn=>?_) key;have:=yj Y G R (λu j=>j) (F<|nb g v) 0 n Z2 h o
    grind
   have m:∀r:Ξ,Qi g inn s (P++[v]) r->Qi g inn s P (v::r):=λr hr=>by
    grind[Qi]
   refine Aw.step 1 (λn=>?_)<|Aw.map w m
   simp_all[XS,Fv,nb]
theorem lx(G:Gr g)(Y:F inn=F g)(h0:0<=s)(h1:s<(F g:E)):Aw (λn=>JR n g s inn) (λl=>l.Nodup/\∀v,v∈l↔Rc g inn s v):=by
 have a:F ((d (F g) D).set s.toNat T)=F g:=Z3
 have hG:=G.len;have hc:=qm (d (F g) D) s.toNat Z4 Z4
 have N9:Fc (d (F g) D)<=F g:=by
  grind[Fc]
 have N:Bf g inn s ((d (F g) D).set s.toNat T) [s] []:=by
  refine⟨a,Z4,Z3,λv o=>?_,λv o=>?_,λv KR B2=>?_,λp h=>τ h zQF,Z3⟩
  ·have:v=s:=by simpa using o
   subst this;exact .start
  ·grind
  grind
 have:=zSD G Y _ _ _ _ rfl N
 grind[Aw.mono,Qi,JR,lw]
end
abbrev zTo:=@BitVec.toNat_ofInt
abbrev zUF:=@Nat.pow_le_pow_right
abbrev zUJ:=@Nat.testBit_two_pow
abbrev zUN:=@Bool.false_and
end Go.Proofs.YtnkpdcmbppkkpaaGreatDoor
namespace Go.Proofs.YtnkpdcmbppkkpaaGreatDoor
def tb(x:E)(i:U):ζ:=(BitVec.ofInt 64 x).getLsbD i
def CO(x:E):Prop:=-9223372036854775808<=x/\x<=9223372036854775807
theorem Xp(x:E):BitVec.ofInt 64 (IntKind.i64.wrap x)=BitVec.ofInt 64 x:=by
 grind[BitVec.eq_of_toNat_eq,BitVec.toNat_ofInt,IntKind.wrap_i64]
def mj(y:BitVec 64):BitVec.ofInt 64 (y.toNat:E)=y:=by
 rw[BitVec.ofInt_natCast];simp
def TK(x:E):CO<|IntKind.i64.wrap x:=by
 rw[zUA];constructor <;> omega
theorem HK(P:BinOp)(a b:E):CO<|bits P .i64 a b:=TK _
theorem NH(a b:E)(i:U):tb (bits .or .i64 a b) i=(tb a i||tb b i):=by
 show(BitVec.ofInt 64<|IntKind.i64.wrap ((BitVec.ofInt 64 a|||BitVec.ofInt 64 b).toNat:E)).getLsbD i=_
 rw[Xp,mj,BitVec.getLsbD_or];rfl
theorem Kl(a b:E)(i:U):tb (bits .and .i64 a b) i=(tb a i&&tb b i):=by
 show(BitVec.ofInt 64<|IntKind.i64.wrap ((BitVec.ofInt 64 a&&& BitVec.ofInt 64 b).toNat:E)).getLsbD i=_
 rw[Xp,mj,BitVec.getLsbD_and];rfl
variable{i:U}{x:E}
theorem TX(h:64<=i):tb x i=D:=BitVec.getLsbD_of_ge _ _ h
theorem NI(a b:E)(i:U):tb (bits .andNot .i64 a b) i=(tb a i&&!tb b i):=by
 show(BitVec.ofInt 64<|IntKind.i64.wrap ((BitVec.ofInt 64 a&&& ~~~ BitVec.ofInt 64 b).toNat:E)).getLsbD i=_
 grind[Xp,tb]
theorem bM(a:E)(h:i<64):tb (bits .xor .i64 (-1) a) i= !tb a i:=by
 show(BitVec.ofInt 64<|IntKind.i64.wrap ((BitVec.ofInt 64 (-1)^^^BitVec.ofInt 64 a).toNat:E)).getLsbD i=_
 rw[Xp,mj,BitVec.getLsbD_xor];have:BitVec.ofInt 64 (-1)=BitVec.allOnes 64:=Z6
 rw[this,BitVec.getLsbD_allOnes];simp[h,tb]
theorem bL(i:U):tb 0 i=D:=by
 simp_all[tb]
theorem JI :¬tb 0 i=T:=by rw[bL];decide
theorem L3{y:E}(hx:CO x)(hy:CO y)(h:∀i,i<64->tb x i=tb y i):x=y:=by
 have e:BitVec.ofInt 64 x=BitVec.ofInt 64 y:=BitVec.eq_of_getLsbD_eq λi hi=>h i hi
 have e2:=congrArg BitVec.toNat e
 grind[BitVec.toNat_ofInt,CO]
theorem L2(m i:U)(hi:i<64):tb (m:E) i=m.testBit i:=by
 grind[tb,BitVec.getLsbD_ofNat]
def Sm(k:U)(x:E):Prop:=0<=x/\x<2^k
variable{k:U}
theorem PM(hk:k<=62):(2:E)^k<=4611686018427387904:=by
 have:(2:U)^k<=2^62:=zUF Z6 hk
 grind
def Sm.in64(hk:k<=62)(h:Sm k x):CO x:=by
 have:=PM hk;obtain⟨h1,h2⟩:=h;constructor <;> omega
theorem Sm.hi(h:Sm k x)(hi:k<=i):tb x i=D:=by
 rcases zCv i 64 with ZF|ZF
 ·obtain⟨m,rfl⟩:=zOh h.1;rw[L2 m i ZF];apply Nat.testBit_lt_two_pow;have c:(m:E)<2^k:=h.2;have h3:m<2^k:=by exact_mod_cast c
  grind[Nat.lt_of_lt_of_le,Nat.pow_le_pow_right]
 ·exact TX ZF
theorem Wg(hk:k<=62)(hx:CO x)(h:∀i,k<=i->i<64->tb x i=D):Sm k x:=by
 have hy:(BitVec.ofInt 64 x).toNat<2^k:=by
  apply Nat.lt_pow_two_of_testBit
  grind[tb,BitVec.getLsbD]
 rw[zTo]at hy;have h1:=PM hk
 grind[CO,Sm]
variable{s:U}
theorem zDk(hi:i<64):tb ((2^s:U):E) i=H (s=i):=by
 rw[L2 _ _ hi,zUJ]
theorem Ok(e:CO x):x=0↔∀i,i<64->tb x i=D:=
 ⟨λh i _=>by rw[h];exact bL i,λh=>L3 e ⟨Z6,Z6⟩ λi hi=>by rw[h i hi,bL]⟩
theorem GV(e:CO x):x≠0↔∃i,i<64/\tb x i=T:=by
 rw[ne_eq,Ok e]
 grind
theorem k7(h:Sm k x)(hk:k<=62)(l:s<64):bits .and .i64 (x/2^s) 1=C (tb x s) 1 0:=by
 obtain⟨m,rfl⟩:=zOh h.1;have hm:=h.2;have p7:=PM hk;have e:(m:E)/2^s=((m/2^s:U):E):=Z3
 have key:∀t,t<64->tb (bits .and .i64 ((m:E)/2^s) 1) t=(H (t=0)&&tb (m:E) s):=λt v=>by
  rw[Kl,e,L2 _ _ v,L2 m s l,show(1:E)=((1:U):E)from rfl,L2 1 t v,Nat.testBit_div_two_pow]
  by_cases h0:t=0
  ·subst h0;simp
  ·rw[zAF h0,zUN]
   have:Nat.testBit 1 t=D:=by
    rw[show(1:U)=2^0 from rfl,zUJ];simpa using λh=>h0 h.symm
   rw[this,Bool.and_false]
 cases b:tb (m:E) s with
 |true=>
  rw[zAB rfl];refine L3 (HK _ _ _) ⟨Z6,Z6⟩ λt v=>?_
  rw[key t v,b,show(1:E)=((1:U):E)from rfl,L2 1 t v,Bool.and_true]
  by_cases h0:t=0
  ·subst h0;rfl
  ·rw[zAF h0];rw[show(1:U)=2^0 from rfl,zUJ];symm;simpa using λh=>h0 h.symm
 |false=>
  simp_all[Ok,HK]
theorem Q2(h:Sm k x)(hk:k<=62)(hs:s<64):(bits .and .i64 (x/2^s) 1==1)=tb x s:=by
 grind[k7]
theorem zFJ(h:Sm k x)(hk:k<=62)(hs:s<64):(bits .and .i64 (x/2^s) 1==0)= !tb x s:=by
 grind[k7]
end Go.Proofs.YtnkpdcmbppkkpaaGreatDoor
namespace Go.Proofs.YtnkpdcmbppkkpaaGreatDoor
open Go.RowKit
section
variable{S R:Type}
theorem e9(m:U->S->E->A R)(len a:U)(Inv:U->S->Prop)
 (h:∀(n i:U) (s:S),a<=n->i<len->Inv i s->∃Y,m (n+1) s (i:E)=m n Y ((i:E)+1)/\Inv (i+1) Y):
 ∀(k i n:U) (s:S),i+k=len->a<=n->Inv i s->∃Y,m (n+k) s (i:E)=m n Y (len:E)/\Inv len Y
 |0,i,n,s,e,_,b=>by
  grind
 |k+1,i,n,s,e,c,b=>by
  obtain⟨Y,h1,f⟩:=h (n+k) i s Z2 Z2 b;obtain⟨s2,h3,h4⟩:=e9 m len a Inv h k (i+1) n Y Z2 c f
  grind
theorem Jb(m:U->S->E->A R)(len a:U)(Inv:U->S->Prop)
 (h:∀(n i:U) (s:S),a<=n->i<len->Inv i s->∃Y,m (n+1) s (i:E)=m n Y ((i:E)+1)/\Inv (i+1) Y)
 {n:U} {s:S} (hn:a+len<=n) (c:Inv 0 s):∃b Y,a<=b/\b+len=n/\m n s 0=m b Y (len:E)/\Inv len Y:=by
 obtain⟨Y,h1,h2⟩:=e9 m len a Inv h len 0 (n-len) s Z2 Z2 c
 grind
structure CZ(c:AE)(k:U)(pos:Ξ):Prop where
 ce:∀a,a<F c.ce->0<=M c.ce a 0/\M c.ce a 0<(F pos:E)
 len:F c.ce<=256
 sm:∀i,i<F pos->Sm k (M pos i 0)
 k:k<=16
def Ag(c:AE)(pos:Ξ)(a:U):E:=M pos (M c.ce a 0).toNat 0
def Ou(x:E):ζ:=bits .and .i64 x (x-1)==0
section
variable{c:AE}{k:U}{pos lost:Ξ}{q:AA}
variable{a:U}
def CZ.at(W:CZ c k pos)(P:a<F c.ce):Sm k<|Ag c pos a:=by
 have:=W.ce a P;exact W.sm _ Z2
theorem CZ.r64(W:CZ c k pos)(P:a<F c.ce):AI (Ag c pos a-1)/\AI ((a:E)+1):=by
 have h:=W.at P;have h2:=PM (k:=k)<|zAO W.k Z6;have h3:=W.len
 grind[Ae,Sm]
variable{cell:E}{n:U}
theorem Nn{ss:E}(h0:0<=cell)(h1:cell<(F pos:E))(hl:F lost=F pos):
 ∃l',El n cell ss c q pos (F pos) lost=Z l'/\F l'=F pos/\∀j s,tb (M l' j 0) s=(tb (M lost j 0) s||(H (j=cell.toNat)&&(tb (M pos j 0) s&&tb ss s))):=by
 refine⟨lost.set cell.toNat<|bits .or .i64 (M lost cell.toNat 0)<|bits .and .i64 (M pos cell.toNat 0) ss,?_,Z4,λj s=>?_⟩
 ·simp_all[El,nI]
 grind[NH,Kl]
theorem me(h0:0<=cell)(h1:cell<(F pos:E))(hl:F lost=F pos):
 ∃l',IN n cell c q pos (F pos) lost=Z l'/\F l'=F pos/\∀j s,tb (M l' j 0) s=(tb (M lost j 0) s||(H (j=cell.toNat)&&(tb (M pos j 0) s&&!tb c.set s))):=by
 refine⟨lost.set cell.toNat<|bits .or .i64 (M lost cell.toNat 0)<|bits .andNot .i64 (M pos cell.toNat 0) c.set,?_,Z4,λj s=>?_⟩
 ·simp_all[IN,mg]
 grind[NH,NI]
def Sg(c:AE)(pos:Ξ)(a s:U):Prop:=Ou (Ag c pos a)=T/\tb (Ag c pos a) s=T
def CU(c:AE)(pos lost:Ξ)(i:U)(ϑ:U->Ψ)(l:Ξ):Prop:=F l=F pos/\∀j s,tb (M l j 0) s=T↔tb (M lost j 0) s=T∨∃a,a<i/\(M c.ce a 0).toNat=j/\tb (Ag c pos a) s=T/\ϑ a s
variable{ϑ:U->Ψ}
theorem CU.step{i:U}{l l':Ξ}(h:CU c pos lost i ϑ l)(hl:F l'=F pos)
 (h1:∀j s,tb (M l' j 0) s=T↔tb (M l j 0) s=T∨((M c.ce i 0).toNat=j/\tb (Ag c pos i) s=T/\ϑ i s)):CU c pos lost (i+1) ϑ l':=by
 grind[CU]
def CU.zero(m:F lost=F pos):CU c pos lost 0 ϑ lost:=
 ⟨m,λj s=>⟨.inl,λh=>h.elim id λ⟨a,P,_⟩=>τ P<|zAR a⟩⟩
def OK(c:AE)(pos:Ξ)(a s:U):Prop:=∃b,b<F c.ce/\b≠a/\Sg c pos b s
theorem zQa(W:CZ c k pos)(I:F lost=F pos)(hn:2*F c.ce+2<=n):
 ∃l,VV n c q pos (F pos) lost=Z (T,l)/\CU c pos lost (F c.ce) (OK c pos) l:=by
 have X:∀i,i<F c.ce->((i:U):E)<((F c.ce:U):E):=λi hi=>Z2
 have S:=Jb (λn (s:Δ) i=>OJ c q pos (F pos) lost n<|.l1 s.1 s.2 i) (F c.ce) (F c.ce+2)
  (λi s=>(∀j,tb s.1 j=T↔∃a,a<i/\Sg c pos a j)/\(∀j,tb s.2 j=T↔∃a b,a<b/\b<i/\Sg c pos a j/\Sg c pos b j))
  (λn i s _ hi Y=>?_) (n:=n) (s:=(0,0)) Z2 ?_
 ·obtain⟨y,⟨o,t⟩,IW,_,e1,ho,K⟩:=S;obtain⟨v,rfl⟩:∃v,y=v+1:=⟨y-1,Z2⟩
  have ϒ:=Jb (λn (s:Ξ) i=>OJ c q pos (F pos) lost n<|.l2 o t i s) (F c.ce) 1
   (λi s=>CU c pos lost i (OK c pos) s) (λn i s G9 hi Y=>?_) (n:=v) (s:=lost) Z2 (CU.zero I)
  ·obtain⟨J,l,LN,_,e2,hL⟩:=ϒ;obtain⟨z,rfl⟩:∃z,J=z+1:=⟨J-1,Z2⟩
   simp_all[VV,zBP,iX,OJ,iW]
  ·have hc:=W.ce i hi;have f:=W.r64 hi
   show∃N,iW n (OJ c q pos (F pos) lost n) c q pos (F pos) lost o t (i:E) s=_/\_
   unfold iW;rw[zAA<|X i hi,zAI];simp only[u8];rw[zAB ⟨⟨Z2,X i hi⟩,hc,f.1⟩];have w:(bits .and .i64 (M pos (M c.ce i 0).toNat 0) (M pos (M c.ce i 0).toNat 0-1)==0)=Ou (Ag c pos i):=rfl;rw[w];cases r:Ou<|Ag c pos i
   ·rw[zAJ];obtain⟨l',g,m,u⟩:=Nn (n:=n) (ss:=o) (c:=c) (q:=q) hc.1 hc.2 Y.1;rw[g,zAD,zAB f.2];refine⟨l',rfl,Y.step m λj x=>?_⟩
    grind[Ag,OK,Sg]
   ·obtain⟨l',g,m,u⟩:=Nn (n:=n) (ss:=bits .or .i64 (bits .andNot .i64 o<|M pos (M c.ce i 0).toNat 0) t) (c:=c) (q:=q) hc.1 hc.2 Y.1;rw[g,zAD,zAB f.2];refine⟨l',rfl,Y.step m λj x=>?_⟩;rw[u,zCz,zAK,zAK,zB0,NH,NI,zCz,zAK,K];constructor
    ·grind[Ag,OK]
    ·rintro(h|⟨rfl,R,b,e,h5,G⟩)
     ·exact .inl h
     ·refine .inr ⟨rfl,R,.inr ?_⟩;rcases Nat.lt_or_gt_of_ne h5 with h5|h5
      ·exact⟨b,i,h5,hi,G,r,R⟩
      ·exact⟨i,b,h5,e,⟨r,R⟩,G⟩
 ·obtain⟨o,t⟩:=s;obtain⟨g,m⟩:=Y;simp only at g m;have hc:=W.ce i hi;have f:=W.r64 hi
  show∃N,iX n (OJ c q pos (F pos) lost n) c q pos (F pos) lost o t (i:E)=_/\_
  unfold iX;rw[zAA<|X i hi,zAI];simp only[u8];rw[zAB ⟨⟨Z2,X i hi⟩,hc,f.1⟩];have w:(bits .and .i64 (M pos (M c.ce i 0).toNat 0) (M pos (M c.ce i 0).toNat 0-1)==0)=Ou (Ag c pos i):=rfl;rw[w];cases r:Ou<|Ag c pos i
  ·rw[zAJ,zAB f.2];refine⟨(o,t),rfl,λj=>?_,λj=>?_⟩
   ·grind[Sg]
   ·rw[m];constructor
    ·rintro⟨a,b,p,e,h⟩;exact⟨a,b,p,Z2,h⟩
    ·rintro⟨a,b,p,e,h⟩;rcases zBy.1 e with e|rfl
     ·exact⟨a,b,p,e,h⟩
     ·rw[h.2.1]at r;cases r
  ·rw[zAI,zAB f.2];refine⟨(bits .or .i64 o<|Ag c pos i,bits .or .i64 t<|bits .and .i64 o<|Ag c pos i),rfl,λj=>?_,λj=>?_⟩
   ·rw[NH,zCz,g];constructor
    ·rintro(⟨a,P,h⟩|h)
     ·exact⟨a,Z2,h⟩
     ·exact⟨i,Z2,r,h⟩
    grind[Sg]
   ·rw[NH,Kl,zCz,zAK,g,m];constructor
    ·rintro(⟨a,b,p,e,h⟩|⟨⟨a,P,h⟩,u⟩)
     ·exact⟨a,b,p,Z2,h⟩
     grind[Sg]
    ·rintro⟨a,b,p,e,h,u⟩;rcases zBy.1 e with e|rfl
     ·exact .inl ⟨a,b,p,e,h,u⟩
     grind[Sg]
 simp_all[JI]
end
end
end Go.Proofs.YtnkpdcmbppkkpaaGreatDoor
namespace Go.Proofs
open Go.Shelf
def Tryz.lays189_ren:Go.Shelf.Ren:=⟨λ|189=>203|125=>205|257=>204|128=>215|129=>216|294=>206|295=>207|296=>208|297=>209|298=>210|299=>211|216=>212|300=>213|301=>214|328=>217|329=>218|330=>219|331=>220|332=>221|215=>222|343=>223|n=>n,λ|28=>22|3=>3|46=>70|0=>0|51=>209|53=>88|4=>4|183=>217|182=>216|131=>85|5=>5|9=>9|218=>221|222=>225|228=>227|229=>60|n=>n,λ|n=>n⟩
def Tryz.lays189:Go.Proofs.Lays.n189 Tryz.prog Tryz.lays189_ren:={
 mixed:=by kernel_rfl
 f125:=Tryz.func205.trans (congrArg some<|by kernel_rfl)
 f128:=Tryz.func215.trans (congrArg some<|by kernel_rfl)
 f129:=Tryz.func216.trans (congrArg some<|by kernel_rfl)
 f189:=Tryz.func203.trans (congrArg some<|by kernel_rfl)
 f215:=Tryz.func222.trans (congrArg some<|by kernel_rfl)
 f216:=Tryz.func212.trans (congrArg some<|by kernel_rfl)
 f257:=Tryz.func204.trans (congrArg some<|by kernel_rfl)
 f294:=Tryz.func206.trans (congrArg some<|by kernel_rfl)
 f295:=Tryz.func207.trans (congrArg some<|by kernel_rfl)
 f296:=Tryz.func208.trans (congrArg some<|by kernel_rfl)
 f297:=Tryz.func209.trans (congrArg some<|by kernel_rfl)
 f298:=Tryz.func210.trans (congrArg some<|by kernel_rfl)
 f299:=Tryz.func211.trans (congrArg some<|by kernel_rfl)
 f300:=Tryz.func213.trans (congrArg some<|by kernel_rfl)
 f301:=Tryz.func214.trans (congrArg some<|by kernel_rfl)
 f328:=Tryz.func217.trans (congrArg some<|by kernel_rfl)
 f329:=Tryz.func218.trans (congrArg some<|by kernel_rfl)
 f330:=Tryz.func219.trans (congrArg some<|by kernel_rfl)
 f331:=Tryz.func220.trans (congrArg some<|by kernel_rfl)
 f332:=Tryz.func221.trans (congrArg some<|by kernel_rfl)
 f343:=Tryz.func223.trans (congrArg some<|by kernel_rfl)
 t0:=Tryz.underlying0
 a0:=Tryz.isAgg0
 z0:=Tryz.sizeOf0
 v0:=Tryz.zeroValue0
 t3:=Tryz.underlying3
 a3:=Tryz.isAgg3
 z3:=Tryz.sizeOf3
 v3:=Tryz.zeroValue3
 t4:=Tryz.underlying4
 a4:=Tryz.isAgg4
 z4:=Tryz.sizeOf4
 v4:=Tryz.zeroValue4
 t5:=Tryz.underlying5
 a5:=Tryz.isAgg5
 z5:=Tryz.sizeOf5
 v5:=Tryz.zeroValue5
 t9:=Tryz.underlying9
 a9:=Tryz.isAgg9
 z9:=Tryz.sizeOf9
 v9:=Tryz.zeroValue9
 t28:=Tryz.underlying22
 a28:=Tryz.isAgg22
 z28:=Tryz.sizeOf22
 v28:=Tryz.zeroValue22
 t46:=Tryz.underlying70
 a46:=Tryz.isAgg70
 z46:=Tryz.sizeOf70
 v46:=Tryz.zeroValue70
 t51:=Tryz.underlying209
 a51:=Tryz.isAgg209
 z51:=Tryz.sizeOf209
 v51:=Tryz.zeroValue209
 t53:=Tryz.underlying88
 a53:=Tryz.isAgg88
 z53:=Tryz.sizeOf88
 v53:=Tryz.zeroValue88
 t131:=Tryz.underlying85
 a131:=Tryz.isAgg85
 z131:=Tryz.sizeOf85
 v131:=Tryz.zeroValue85
 t182:=Tryz.underlying216
 a182:=Tryz.isAgg216
 z182:=Tryz.sizeOf216
 v182:=Tryz.zeroValue216
 t183:=Tryz.underlying217
 a183:=Tryz.isAgg217
 z183:=Tryz.sizeOf217
 v183:=Tryz.zeroValue217
 t218:=Tryz.underlying221
 a218:=Tryz.isAgg221
 z218:=Tryz.sizeOf221
 v218:=Tryz.zeroValue221
 t222:=Tryz.underlying225
 a222:=Tryz.isAgg225
 z222:=Tryz.sizeOf225
 v222:=Tryz.zeroValue225
 t228:=Tryz.underlying227
 a228:=Tryz.isAgg227
 z228:=Tryz.sizeOf227
 v228:=Tryz.zeroValue227
 t229:=Tryz.underlying60
 a229:=Tryz.isAgg60
 z229:=Tryz.sizeOf60
 v229:=Tryz.zeroValue60 }
open Go.Sort Go.RowKit in
def Tryz.slices_Sort_int(blk off cap:Nat)(o:List Int)(w:World)(N:Holds (Value.int .i64) w blk off o.toArray)(Q:blk<w.heap.size)(J:o.length<4611686018427387904):
 Calls Tryz.prog 203 #[.slice (some ⟨blk,off,none⟩) o.length cap] w λe w'=>
  e=.returned (.tuple #[])/\∃n m,w'=grow (putRow (Value.int .i64) (Sort.ahead w n) blk off (o.mergeSort λx y=>decide (x<=y)).toArray) m:=Any.slices_Sort_int Tryz.lays189 blk off cap o w N Q J
end Go.Proofs
namespace Go.Proofs.YtnkpdcmbppkkpaaGreatDoor
open Go.RowKit
abbrev zTp:=@List.pairwise_cons
section
def Ui(a:E):Ξ->Ξ
 |[]=>[a]
 |b::l=>C (a<=b) (a::b::l)<|b::Ui a l
def J5:Ξ->Ξ
 |[]=>[]
 |a::l=>Ui a<|J5 l
def nk(a:E):∀l:Ξ,(Ui a l).Perm<|a::l
 |[]=>zTy _
 |b::l=>by
  unfold Ui;split
  ·exact zTy _
  ·exact((nk a l).cons b).trans<|List.Perm.swap a b l
theorem bf:∀l:Ξ,(J5 l).Perm l
 |[]=>zTy _
 |a::l=>(nk a _).trans<|(bf l).cons a
theorem zE(a:E):∀l:Ξ,l.Pairwise (· <= ·)->(Ui a l).Pairwise (· <= ·)
 |[],_=>List.pairwise_singleton _ _
 |b::l,h=>by
  have h':=zTp.1 h;unfold Ui;split
  ·rename_i e;refine zTp.2 ⟨λx hx=>?_,h⟩
   grind
  ·rename_i e;refine zTp.2 ⟨λx hx=>?_,zE a l h'.2⟩;rcases zMk.1 ((nk a l).mem_iff.1 hx)with rfl|hx
   ·omega
   ·exact h'.1 x hx
theorem uV:∀l:Ξ,(J5 l).Pairwise (· <= ·)
 |[]=>List.Pairwise.nil
 |a::l=>zE a _<|uV l
theorem zEa(l:Ξ):(l.mergeSort λx y=>decide (x<=y))=J5 l:=by
 grind[List.Perm.eq_of_pairwise,uV,List.mergeSort_perm,bf,List.pairwise_mergeSort]
def WW(l:Ξ):F (J5 l)=F l:=(bf l).length_eq
variable{b o:U}{w:κ}
theorem zOg{l l':Ξ}{cs:υ μ}{t:ψ}{z:U×U}(h:w.heap[b]?=Z (.cells cs t z))(hl:F l=F l')(n:U)(m:υ Obj):
 ∃v,(Sort.grow (Sort.putRow (Value.int .i64) (Sort.ahead w n) b o l'.toArray) m).heap[b]?=Z (.cells v t z)/\v.size=cs.size/\∀j,j<F l->o+j<cs.size->v[o+j]?=Z (.int .i64<|M l' j 0):=by
 have a:b<w.heap.size:=(zAM.1 h).1;refine⟨Sort.putCells (Value.int .i64) o l'.toArray cs,?_,by simp[Sort.putCells],λj hj hs=>?_⟩
 ·simp only[Sort.grow,Sort.putRow,Sort.mapBlock,Sort.ahead];rw[Array.getElem?_append_left (by simpa using a),zT5,zAB rfl,h];rfl
 simp_all[Sort.putCells]
theorem zDS(hb:b<w.heap.size)(Ϛ:υ E)(n:U)(m:υ Obj):AR (λk=>k=b) w<|Sort.grow (Sort.putRow (Value.int .i64) (Sort.ahead w n) b o Ϛ) m:=by
 refine⟨rfl,rfl,rfl,by simp[Sort.ahead],λk hk Af=>?_⟩;simp only[Sort.grow,Sort.putRow,Sort.mapBlock,Sort.ahead]
 grind
theorem zEZ(l:Ξ){n:U}(G:n=F l)(s:F l<=Av):ES B GG 203 [.msl 0 1 0 n] [Z<|.ints l] (.tup 0 λj=>([]:O DV).getD j .any) [Z<|.ints<|J5 l] D:=by
 subst G;refine⟨⟨_,Tryz.func203,Z6,rfl⟩,λN ρ w args HR k=>?_⟩;obtain⟨p,f,X⟩:=HR.obj 0 _ rfl;have X:Ac w p (F l) λj u=>u=.int .i64 (M l j 0):=X
 have h0:=k.2 0 Z3;obtain⟨p',cap,J,hv,SM,N5,Pw⟩:=h0;have P:p'=p:=zAN<|J.symm.trans f;subst P;have Q:args.size=1:=by have:=k.1;simpa using this.symm
 have R:args= #[.slice (Z ⟨p'.blk,p'.off,V⟩) (F l) cap]:=by
  apply Array.ext
  ·simp[Q]
  simp_all
 have S:Sort.Holds (Value.int .i64) w p'.blk p'.off l.toArray:=λj g=>by
  have g:j<F l:=by simpa using g
  obtain⟨u,c1,c2⟩:=X.cell g;refine⟨Z4,X.frozen _⟩
 obtain⟨q,cs,t,r,W,Y,_⟩:=X;have a:p'.blk<w.heap.size:=(zAM.1 r).1;subst R;refine(Tryz.slices_Sort_int p'.blk p'.off cap l w S a<|by unfold Av at s;omega).mono ?_;rintro e w' ⟨rfl,m,i,rfl⟩;rw[zEa];obtain⟨x,I,K,k3⟩:=zOg (o:=p'.off) r (WW l).symm m i;have y:AR p'.foot w<|Sort.grow (Sort.putRow (Value.int .i64) (Sort.ahead w m) p'.blk p'.off (J5 l).toArray) i:=by grind[zDS]
 show∃v,Ending.returned (.tuple #[])=Ending.returned v/\CG B GG N _ ρ w D _ _ v (Sort.grow (Sort.putRow (Value.int .i64) (Sort.ahead w m) p'.blk p'.off (J5 l).toArray) i)
 refine⟨_,rfl,⟨⟨ρ,HR.write (o':=.ints<|J5 l) rfl f y (λb a=>?_) ?_,⟨#[],rfl,rfl,λj g=>τ g<|zAR j⟩,A8.write rfl f y,λ_ _ h=>h⟩,λh=>by cases h⟩⟩
 ·rw[q]at a;exact .cells (c:=x) (t:=t) (z:=(0,0)) (by rw[show b=p'.blk from a];exact I)
 ·refine⟨q,x,t,I,by rw[K,WW];exact W,by rw[K];exact Y,λj g=>?_⟩;rw[WW]at g;exact⟨_,k3 j g Z2,rfl⟩
end
section
set_option maxRecDepth 100000
set_option maxHeartbeats 40000000
inductive OR where
 |s0
 |s1 (Ga:U) (Ew:Ξ)
def zCQ:OR->DH
 | .s0=>[V,oC [.nils]]
 | .s1 x i=>[V,oC [.msl 2 1 0 x],oI i]
def jR(n:U)(b:E):A OR:=C ((0=0/\1=F ([b]:Ξ))/\0<F ([b]:Ξ)/\F ([b]:Ξ)<=Av) (Z<|.s1 (F ([b]:Ξ)) ([b]:Ξ)) V
def jQ(n:U)(b:E)(x:U)(i:Ξ):A OR:=C ((0=0/\1=F ([b]:Ξ))/\(0=0/\x=F i)/\F i+F ([b]:Ξ)<=Av) (Z<|.s1 (F i+F ([b]:Ξ))<|i++([b]:Ξ)) V
def rP(n:U)(b:E):OR->A OR
 | .s0=>jR n b
 | .s1 x i=>jQ n b x i
def OS(n:U)(b:E)(s:OR):A OR:=rP n b s
def zSb(n:U)(l ϙ:U)(N:Yd 2)(b:E)(s:OR)(r:OR)(h:OS n b s=Z r):TA l ϙ N (C3 2 [] 0<|zCQ r) Tryz.f182 6 ⟨AF 13 [(2,.ref 1 0),(6,.it 0),(7,.i b)],zCQ s⟩:=by
 cases s with
 |s0=>
  replace h:jR n b=Z r:=h;unfold jR at h;refine ag AC [0,1] H0 (AF 13 [(2,.ref 1 0),(5,.i b)]) [V,oC [.nils]] λN=>?_
  revert r;apply gO;exact gi<|jt<|lF λp=>rr AC [0,1,3] rfl p
 |s1 x a=>
  replace h:jQ n b x a=Z r:=h;unfold jQ at h;refine ag AC [0,1,2] H0 (AF 13 [(2,.ref 1 0),(5,.i b)]) [V,oC [.msl 2 1 0 x],oI a] λN=>?_
  revert r;apply gO;exact gi<|jt<|lF λp=>rr AC [0,1,4] rfl p
def rN(n:U)(l:Ξ):A Ξ:=
 (CC (OS n) l<|.s0).bind λf=>
  match f with
  | .s0=>
   V
  | .s1 P u=>
   if P=F u then
    Z u
   else V
def aW(n:U)(l:Ξ):A Ξ:=rN n l
variable{r l:Ξ}{n:U}
def zSa(h:aW n l=Z r):EQ 182 [.nils,.it 0] [Z<|.iter<|(l).map Bn] (.msl 1 1 0<|F r) [V,oI r] D:=by
 unfold aW rN at h;refine ot Tryz.func182 λϙ N=>?_
 revert r;apply gO
 exact cn λf P=>λp r h=>by
  refine gs AC [0,1] p (Ho (AZ Tryz.f182) 6 []) (AF 13 [(2,.ref 1 0),(6,.it 0)]) [Z<|.iter<|(l).map Bn,oC [.nils]] ?_;refine r0 0 6 #[7] Bn 2 P (zSb n) ?_;cases f with
  |s0=>
   dsimp only at h
   revert r;apply gO;exact nO
  |s1 a Qk=>
   dsimp only at h
   revert r;apply gO;exact gn λx=>lF λp=>el AC [4] [0,2] p [] H0 [.msl 1 1 0 a]<|AO.mslN x
def qh(n:U)(l:Ξ):A Ξ:=(aW n l).bind λf=>Z f
def i6(n:U)(l:Ξ):A Ξ:=qh n l
def zRc(h:i6 n l=Z r):EQ 152 [.it 0] [Z<|.iter<|(l).map Bn] (.msl 1 1 0<|F r) [V,oI r] D:=by
 unfold i6 qh at h;refine ot Tryz.func152 λϙ N=>?_
 revert r;apply gO;exact ce zSa [0] [Z<|.iter<|(l).map Bn] λf=>lF λp=>el AC [2] [0,1] p [] H0 [.msl 1 1 0<|F f]<|AO.mslN rfl
def kf(n:U)(l:Ξ):A Ξ:=(i6 n l).bind λf=>C (F f<=Av) (C (F f=F (J5 f)) (Z<|J5 f) V) V
def Tj(n:U)(l:Ξ):A Ξ:=kf n l
def zEX(h:Tj n l=Z r):EQ 201 [.it 0] [Z<|.iter<|(l).map Bn] (.msl 1 1 0<|F r) [V,oI r] D:=by
 unfold Tj kf at h;refine ot Tryz.func201 λϙ N=>?_
 revert r;apply gO;exact ce zRc [0] [Z<|.iter<|(l).map Bn] λf=>gn λx=>jc (em (zEZ f (n:=F f) (φ<|F f) x) [1] [V,oI f])<|gn λa=>lF λp=>el AC [2] [0,1] p [] H0 [.msl 1 1 0<|F f]<|AO.mslN a
def zBd(n:U)(J:O Ξ)(e:Ω)(start:E):W7:=(Mu n J ([e]:O Ω)).bind λf=>L (f != 0) (Z (([]:Ξ),f))<|L (H<|start<0) (Z (([]:Ξ),1))<|L (H<|start>=(F J:E)) (Z (([]:Ξ),1))<|C (0<=start/\start<(F e:E)) (L (!(M e start.toNat D)) (Z (([]:Ξ),1))<|(JR n J start e).bind λG=>(Tj n G).bind λy3=>Z (y3,0)) V
def Vb(n:U)(J:O Ξ)(e:Ω)(start:E):W7:=zBd n J e start
variable{e:Ω}{J:O Ξ}
def zRa{start:E}{r:Ξ×E}(h:Vb n J e start=Z r):EQ 194 [.sl 1 (F J)<|AM AW J,.bools e,.i start] [] (.tup 2<|L1 [.ints r.1,.i r.2]) [] T:=by
 refine ot Tryz.func194 λϙ N=>?_
 revert r;apply gO;exact ja 10 0 1 (ER (c:=Vg) (Ϝ:=([e]:O Ω)) (vals:=[.bools e]) rfl ⟨⟨_,rfl,⟨At,trivial⟩⟩,trivial⟩)<|jz 10 0<|jg (φ 1)<|cf gj [V] λf=>bi 13 (lF λp=>el AC [6,7] [] p [] H0 [.nils,.i f]<|AO.tupL (l:=[.nils,.i f]) (l':=[.ints ([]:Ξ),.i f]) rfl ⟨AO.ints_nil,At,trivial⟩)<|bi 16 (lF λp=>el AC [6,7] [] p [] H0 [.nils,.i 1]<|AO.tupL (l:=[.nils,.i 1]) (l':=[.ints ([]:Ξ),.i 1]) rfl ⟨AO.ints_nil,At,trivial⟩)<|bi 21 (lF λp=>el AC [6,7] [] p [] H0 [.nils,.i 1]<|AO.tupL (l:=[.nils,.i 1]) (l':=[.ints ([]:Ξ),.i 1]) rfl ⟨AO.ints_nil,At,trivial⟩)<|gi<|bi 28 (lF λp=>el AC [6,7] [] p [] H0 [.nils,.i 1]<|AO.tupL (l:=[.nils,.i 1]) (l':=[.ints ([]:Ξ),.i 1]) rfl ⟨AO.ints_nil,At,trivial⟩)<|cn λG x=>jc (ly x [V])<|ce zEX [1] [V,Z<|.iter<|(G).map Bn] λy3=>lF λp=>ez AC [6,7] [2] p [0]<|H0.g<|φ<|F y3
def tj:ST:=.rd 0<|.rd 1<|.ef 2 (.ef 3 (.fin [] [4,5])<|.no)<|.no
def zF6:Bz (Am Tryz.f197 11) [2] tj:=Z1
def Ow:BZ:=λi=>match i with
 |11=>.tre [2] tj
 |_=>.no
def zNo(J:O Ξ)(W:E)(f o1:Ξ):DH:=[oC [.msl 3 1 0<|F J],oC [.i<|W+1],Z<|.iter<|(f).map Bn,oI o1]
def tE(J:O Ξ)(o1:Ξ)(W:E):St:=⟨AF 42 [(4,.ref 0 0),(5,.ref 2 0)],([oC [.msl 1 1 0<|F J],oI o1,oC [.i W]]:DH)⟩
inductive PP where
 |s0 (MH:Ξ)
def xA(J:O Ξ)(AN:Ω)(x13 W:E):PP->DH
 | .s0 f=>[oC [.msl 3 1 0<|F J],oC [.i<|W+1],V,oI f]
def dZ(n:U)(a:O Ξ)(AN:Ω)(x13 W J:E)(f:Ξ):A PP:=C ((0<=J/\J<(F a:E))/\0+J.toNat<F f) (Z<|.s0<|f.set (0+J.toNat)<|W+1) V
def wz(n:U)(J:O Ξ)(e:Ω)(x13 W a:E):PP->A PP
 | .s0 f=>dZ n J e x13 W a f
def Xi(n:U)(J:O Ξ)(e:Ω)(x13 W a:E)(s:PP):A PP:=wz n J e x13 W a s
def zJM(n:U)(J:O Ξ)(e:Ω)(x13 W:E)(l ϙ:U)(N:Yd 3)(a:E)(s:PP)(r:PP)(h:Xi n J e x13 W a s=Z r):TA l ϙ N (C3 3 [] 0<|xA J e x13 W r) Tryz.f197 33 ⟨AF 42 [(0,.sl 1 (F J)<|AM AW J),(1,.bools e),(4,.ref 0 0),(5,.ref 1 0),(12,.i (F J:E)),(13,.i x13),(33,.it 2),(34,.i a)],xA J e x13 W s⟩:=by
 cases s with
 |s0 f=>
  replace h:dZ n J e x13 W a f=Z r:=h;unfold dZ at h;refine ag Ow [0,1,2,3] H0 (AF 42 [(4,.ref 0 0),(5,.ref 1 0),(7,.i a)]) [oC [.msl 3 1 0<|F J],oC [.i<|W+1],V,oI f] λN=>?_
  revert r;apply gO;exact gc<|gi<|gi<|lF λp=>rr Ow [0,1,2,3] rfl p
inductive da where
 |l1 (x13:E) (o1:Ξ) (DI:E)
def Xh(n:U)(self:da->W7)(J:O Ξ)(e:Ω)(x13:E)(o1:Ξ)(W:E):W7:=
 bif(H<|x13<(F J:E))then
  if 0<=x13/\x13<(F e:E)then
   bif(!(M e x13.toNat D))then
    if AI (x13+1)then
     self (.l1 (x13+1) o1 W)
    else V
   else
    if(0<=x13/\x13<(F J:E))/\0+x13.toNat<F o1 then
     bif(H<|M o1 (0+x13.toNat) 0>0)then
      if AI (x13+1)then
       self (.l1 (x13+1) o1 W)
      else V
     else
      if AI (W+1)then
       (JR n J x13 e).bind λf=>
        (CC (Xi n J e x13 W) f<|.s0 o1).bind λG=>
         match G with
         | .s0 Fd=>
          if AI (x13+1)then
           self (.l1 (x13+1) Fd<|W+1)
          else V
      else V
    else V
  else V
 else
  if F J=F o1 then
   Z (o1,W)
  else V
def wy(n:U)(self:da->W7)(J:O Ξ)(AN:Ω):W7:=C (((F J:E):E)=(F J:E)/\0<=(F J:E)/\((F J:E):E)<=1000000000000) (self<|.l1 0 (d (F J) (0:E)) 0) V
def UO(J:O Ξ)(e:Ω):U->da->W7
 |0,_=>V
 |n+1,.l1 x13 o1 W=>Xh n (UO J e n) J e x13 o1 W
def parts(n:U)(J:O Ξ)(e:Ω):W7:=wy n (UO J e n) J e
def zJN(n ϙ:U)(N:Yd 0)(J:O Ξ)(e:Ω)(r:Ξ×E):da->Prop:=px n ϙ η N (FQ Tryz.f197 0 (.tup 2<|L1 [.ints r.1,.i r.2]) []) (AZ Tryz.f197) λ
 | .l1 x13 o1 W=>(0,0,AF 42 [(0,.sl 1 (F J)<|AM AW J),(1,.bools e),(4,.ref 0 0),(5,.ref 2 0),(12,.i (F J:E)),(13,.i x13)],[oC [.msl 1 1 0<|F J],oI o1,oC [.i W]])
def zJO(ϙ:U)(N:Yd 0)(J:O Ξ)(e:Ω):Al (UO J e) (zJN · ϙ N J e):=ia (λ_=>rfl) λn I G r h=>by
 cases G
 case l1 x13 o1 DI=>
  intro q a;refine rd a λq a=>?_
  revert r;apply gO
  exact bi 14 (gi (bi 20 (gw 39 (lG Ow [0,1,2] (I _ _ · q a))) (gc (gi (gi (bi 26 (gw 39 (lG Ow [0,1,2] (I _ _ · q a))) (gw 29 (jt (cn λf P=>jc (ly P [oC [.msl 1 1 0<|F J],oI o1,oC [.i<|DI+1]]) (cn λb x=>λp r h=>by
   refine gs Ow [0,2,3,1] p (Ho (AZ Tryz.f197) 33 [q]) (AF 42 [(0,.sl 1 (F J)<|AM AW J),(1,.bools e),(4,.ref 0 0),(5,.ref 1 0),(12,.i (F J:E)),(13,.i x13),(33,.it 2)]) (zNo J DI f o1) ?_;refine r0 2 33 #[34] Bn 3 x (zJM n J e x13 DI) ?_;cases b with
   |s0 Fd=>
    dsimp only at h
    revert r;apply gO;exact gw 39 (lG Ow [0,3,1] (I _ _ · q a))))))))))))<|jg zF6<|jt<|jt<|jg (φ<|tE J o1 DI)<|gn λc=>lF λp=>ez (tg:=[([(2,0)],tE J o1 DI)]) Ow [4,5] [0,1,2] p [1]<|H0.g c
def mW{r:Ξ×E}(h:parts n J e=Z r):EQ 197 [.sl 1 (F J)<|AM AW J,.bools e] [] (.tup 2<|L1 [.ints r.1,.i r.2]) [] T:=by
 refine ot Tryz.func197 λϙ N=>?_
 revert r;apply gO;exact gi (jt (lN Ow [0,2,1] ((zJO ϙ N J e n) _ _ · n χ)))
end
section
set_option maxRecDepth 100000
set_option maxHeartbeats 40000000
def jy(n:U)(e:E)(inn:Ω):A Ω:=(Sj n inn).bind λf=>C ((0<=e/\e<(F f:E))/\0+e.toNat<F f) (C (F f=F (f.set (0+e.toNat) D)) (Z<|f.set (0+e.toNat) D) V) V
def V9(n:U)(e:E)(inn:Ω):A Ω:=jy n e inn
variable{n:U}
def zC9{e:E}{inn:Ω}{r:Ω}(h:V9 n e inn=Z r):EQ 196 [.i e,.fp 1<|L1 [.bools inn]] [] (.msl 0 1 0<|F r) [Z<|.bools r] T:=by
 unfold V9 jy at h;refine ot Tryz.func196 λϙ N=>?_
 revert r;apply gO;exact cn λf P=>jc (ES.snapNew (ds:=[.bools inn]) (zBi P) [] (rV Z5) rfl)<|gc<|gi<|gi<|gn λu=>lF λp=>el AC [3] [0] p [] H0 [.msl 0 1 0<|F f]<|AO.mslN u
def zFi:Ar (Am Tryz.f180 16) [] (θ 7) []:=Z0
def JM:BZ:=λi=>match i with
 |16=>.ord [] (θ 7) []
 |_=>.no
def zc(e X:Ω)(S:E):DH:=[oC [.bools e],oC [.bools X],oC [.i S],oC [.bool D],V]
def zNA(e X:Ω)(S:E):DH:=[oC [.bools e],oC [.bools X],oC [.i S],oC [.bool D],V,V]
def zM9(e X:Ω)(S:E)(y3:Ξ×E):DH:=[oC [.bools e],oC [.bools X],oC [.i S],oC [.bool D],V,V,oC [.ints y3.1],oC [.i 0]]
def zM8(X:Ω)(S:E)(y3:Ξ×E)(G:Ξ):DH:=[oC [.bools X],oC [.i S],oC [.bool D],oC [.ints y3.1],oC [.i 0],Z<|.iter<|(G).map Bn]
def zM7(X:Ω)(S:E)(n:ζ)(y3:Ξ×E)(g:E):DH:=[oC [.bools X],oC [.i S],oC [.bool n],oC [.ints y3.1],oC [.i g],V]
inductive Oo where
 |s0 (JT:ζ) (II:E)
def uP(X:Ω)(S:E)(y3:Ξ×E):Oo->DH
 | .s0 n g=>[oC [.bools X],oC [.i S],oC [.bool n],oC [.ints y3.1],oC [.i g],V]
def WV(n:U)(X:Ω)(S:E)(y3:Ξ×E)(e:E)(a:ζ)(g:E):A<|Oo×U:=L (e==S) (Z (.s0 a g,0))<|C (0<=e/\e<(F X:E)) (L (!(M X e.toNat D)) (Z (.s0 a g,0))<|L (g==0) (C (0<=e/\e<(F y3.1:E)) (Z (.s0 a<|M y3.1 e.toNat 0,0)) V)<|C (0<=e/\e<(F y3.1:E)) (L (M y3.1 e.toNat 0 != g) (Z (.s0 T g,1))<|Z (.s0 a g,0)) V) V
def zEQ(n:U)(X:Ω)(S:E)(y3:Ξ×E)(e:E):Oo->A (Oo×U)
 | .s0 a g=>WV n X S y3 e a g
def J4(n:U)(X:Ω)(S:E)(y3:Ξ×E)(e:E)(s:Oo):A<|Oo×U:=zEQ n X S y3 e s
def zEP(n:U)(X:Ω)(S:E)(y3:Ξ×E)(l ϙ:U)(N:Yd 6)(e:E)(s:Oo)(r:Oo×U)(h:J4 n X S y3 e s=Z r):TA l ϙ N (C3 6 [.exit 0] r.2<|uP X S y3 r.1) Tryz.f180 48 ⟨AF 76 [(6,.ref 0 0),(7,.ref 1 0),(8,.ref 2 0),(11,.ref 3 0),(13,.ref 4 0),(48,.it 5),(49,.i e)],uP X S y3 s⟩:=by
 cases s with
 |s0 a g=>
  refine ag JM [0,1,2,3,4,5] H0 (AF 76 [(6,.ref 0 0),(7,.ref 1 0),(8,.ref 2 0),(11,.ref 3 0),(13,.ref 4 0),(14,.i e)]) (zM7 X S a y3 g) λN=>?_
  revert r;apply gO;exact bi 53 (lF λp=>rr JM [0,1,2,3,4,5] rfl p)<|gi<|bi 59 (lF λp=>rr JM [0,1,2,3,4,5] rfl p)<|bi 63 (gi<|jt<|lF λp=>rr JM [0,1,2,3,4,5] rfl p)<|jg zFi<|gi<|bi 74 (jt<|lF λp=>rr JM [0,1,2,3,4,5] rfl p)<|lF λp=>rr JM [0,1,2,3,4,5] rfl p
def uO(n:U)(J:O Ξ)(e X:Ω)(S:E):X8:=
 (Mu n J ([e,X]:O Ω)).bind λf=>
  bif(f != 0)then
   Z (D,f)
  else
   bif(H<|S<0)then
    Z (D,1)
   else
    bif(H<|S>=(F J:E))then
     Z (D,1)
    else
     if 0<=S/\S<(F e:E)then
      bif(!(M e S.toNat D))then
       Z (D,0)
      else
       (V9 n S e).bind λG=>
        (parts n J G).bind λy3=>
         (JR n J S e).bind λa=>
          (C7 (J4 n X S y3) a<|.s0 D 0).bind λh=>
           bif h.2==0 then
            match h.1 with
            | .s0 m t=>
             Z (m,0)
           else
            bif h.2==1 then
             match h.1 with
             | .s0 m t=>
              Z (m,0)
            else
             V
     else V
def Th(n:U)(J:O Ξ)(e X:Ω)(S:E):X8:=uO n J e X S
def zEN{J:O Ξ}{a X:Ω}{S:E}{r:ζ×E}(h:Th n J a X S=Z r):EQ 180 [.sl 1 (F J)<|AM AW J,.bools a,.bools X,.i S] [] (.tup 2<|L1 [.bool r.1,.i r.2]) [] T:=by
 refine ot Tryz.func180 λϙ N=>?_
 revert r;apply gO
 exact ja 18 4 1 (ER (c:=Vg) (Ϝ:=([a,X]:O Ω)) (vals:=[.bools a,.bools X]) rfl ⟨⟨_,rfl,⟨At,trivial⟩⟩,⟨_,rfl,⟨At,trivial⟩⟩,trivial⟩) (jz 18 4 (jg (φ 2) (cf gj (zc a X S) λ_=>bi 21 (jt<|lE JM [8,9] [3]) (bi 24 (jt<|lE JM [8,9] [3]) (bi 29 (jt<|lE JM [8,9] [3]) (gi (bi 35 (jt<|lE JM [8,9] [3]) (cn λG x=>jc (ES.snapNew (ds:=[.i S,.ref 0 0]) (zC9 x) (zc a X S) ⟨Ad.plain Z5,Ad.refL (l:=[.bools a]) (l0:=[.bools a]) rfl ⟨Ad.plain Z5,trivial⟩,trivial⟩ rfl) (jz 41 5 (jg (φ<|F G) (cf mW (zNA a X S) λy3=>jt (jt (cn λj LE=>jc (ly LE<|zM9 a X S y3) (cn λg k=>λp r h=>by
  refine gs JM [1,2,3,6,7,8] p (Ho (AZ Tryz.f180) 48 []) (AF 76 [(6,.ref 0 0),(7,.ref 1 0),(8,.ref 2 0),(11,.ref 3 0),(13,.ref 4 0),(48,.it 5)]) (zM8 X S y3 j) ?_;refine rx [.exit 0] 5 48 #[49] Bn 6 k (zEP n X S y3) λe f=>?_
  replace h:=Bv h;rcases h with⟨b,h⟩|⟨b,h⟩
  ·rw[zMw b]at f;cases f;revert h;cases g.1 with
   |s0 m t=>
    intro h
    dsimp only at h
    revert r;apply gO;exact jt<|lE JM [8,9] [2]
  ·replace h:=Bv h;rcases h with⟨b,h⟩|⟨b,h⟩
   ·rw[zMw b]at f;cases f;refine BN.exitTo Z5 ?_;revert h;cases g.1 with
    |s0 m t=>
     intro h
     dsimp only at h
     revert r;apply gO;exact jt<|lE JM [8,9] [2]
   ·cases h))))))))))))))
end
abbrev zMz:=@List.append_nil
abbrev zTU:=@List.getElem?_set_ne
theorem Aw.bindU{R ϒ:Type}{a:U->A ϒ}{b:U->ϒ->A R}{ϕ:ϒ->Prop}{Q:R->Prop}(P:Aw a ϕ)(c:∃ϗ,∀n,ϗ<=n->∀x,ϕ x->∃r,b n x=Z r/\Q r):Aw (λn=>(a n).bind<|b n) Q:=by
 obtain⟨N,P⟩:=P;obtain⟨ϗ,c⟩:=c;refine⟨max N ϗ,λn hn=>?_⟩;obtain⟨x,h1,e⟩:=P n Z2;obtain⟨r,h3,h4⟩:=c n Z2 x e
 grind
structure Hr(g:O Ξ):Prop where
 ok:LY g=T
 row:∀r∈g,F r<=LB
def Hr.gr{g:O Ξ}(h:Hr g):Gr g:=Gr.of h.ok h.row
section
variable{g:O Ξ}{inn some':Ω}{s:E}
variable{sets:O Ω}
theorem zAT(l:∀x∈sets,F x=F g)(m:F sets<=256):∀(k i n:U),i+k=F sets->k+1<=n->VD g sets n (.l1 (i:E))=Z 0
 |0,i,n,e,s=>by
  obtain⟨n,rfl⟩:∃k,n=k+1:=⟨n-1,Z2⟩
  simp_all[gm,VD]
 |k+1,i,n,e,s=>by
  obtain⟨n,rfl⟩:∃k,n=k+1:=⟨n-1,Z2⟩;have z:M sets i []∈sets:=Z4
  have K:((F<|M sets i []:E) != (F g:E))=D:=by rw[l _ z];simp
  have:=zAT l m k (i+1) n Z2 Z2
  show gm n (VD g sets n) g sets i=_
  unfold gm;rw[zAA Z2,zAI,zAB ⟨Z2,Z2⟩,u8,K,zAJ,zAB<|Ae.2 ⟨Z2,Z2⟩];exact this
def gq(G:Hr g)(l:∀x∈sets,F x=F g)(m:F sets<=256):Ev (λn=>Mu n g sets) 0:=by
 refine⟨2*GU g+1+F sets+1,λn hn=>?_⟩
 show Mu n g sets=Z 0
 unfold Mu zAU;rw[zAc G.row Z2,G.ok];exact zAT l m (F sets) 0 n Z2 Z2
variable{n:U}
theorem zCT :∀(l x:Ξ),F (x++l)<=Av->CC (OS n) l (.s1 (F x) x)=Z (.s1 (F<|x++l)<|x++l)
 |[],x,h=>by rw[zMz];rfl
 |a::l,x,h=>by
  have e:x++a::l=x++[a]++l:=Z3
  rw[e]at h⊢
  have y:OS n a (.s1 (F x) x)=Z (.s1 (F<|x++[a])<|x++[a]):=by
   grind[OS,rP,jQ]
  show(OS n a<|.s1 (F x) x).bind (CC (OS n) l)=_
  rw[y,zAD];exact zCT l (x++[a]) h
variable{l:Ξ}
theorem zEY(h0:l≠[])(hl:F l<=256):Tj n l=Z (J5 l):=by
 have Ϝ:(1000000000000:U)=Av:=rfl;cases l with
 |nil=>exact τ rfl h0
 |cons a l=>
  have e1:OS n a .s0=Z (.s1 [a].length [a]):=by
   grind[OS,rP,jR]
  have e2:=zCT (n:=n) l [a] Z4
  have N:aW n (a::l)=Z (a::l):=by
   simp_all[aW,rN,CC]
  unfold Tj kf i6 qh;rw[N,zAD,zAD,zAB Z2,zAB (WW _).symm]
def zIY(h:∀v,v∈l↔Rc g inn s v):l≠[]:=λe=>by
 have:=(h s).2 .start;rw[e]at this;cases this
def zIZ(G:Gr g)(h0:0<=s)(a:s<(F g:E))(b:l.Nodup)(h:∀v,v∈l↔Rc g inn s v):F l<=256:=
 zAO (UU (F g) l b λx e=>((h x).1 e).rng G h0 a) G.len
theorem zRb(G:Hr g)(Y:F inn=F g)(h0:0<=s)(a:s<(F g:E))(hs:M inn s.toNat D=T):
 Aw (λn=>Vb n g inn s) (λr=>r.2=0/\F r.1<=256/\∀v,v∈r.1↔Rc g inn s v):=by
 have e:∀n,Vb n g inn s=(Mu n g [inn]).bind λf=>L (f != 0) (Z (([]:Ξ),f))<|(JR n g s inn).bind λb=>(Tj n b).bind λy3=>Z (y3,0):=λn=>by
  grind[Vb,zBd]
 refine Aw.eq ?_ e;refine Aw.bind (gq G (λx hx=>Z4) Z3) ?_;refine Aw.bindU (lx G.gr Y h0 a) ⟨0,λn _ l m=>?_⟩;have p:=zIZ G.gr h0 a m.1 m.2;rw[zEY (zIY m.2) p,zAD];exact⟨_,rfl,rfl,by rw[WW];exact p,λv=>by grind[bf]⟩
structure Pt(g:O Ξ)(inn:Ω)(i:U)(part:Ξ)(Cb:E):Prop where
 len:F part=F g
 m0:0<=Cb
 m1:Cb<=(i:E)
 lo:∀v,v<F g->0<=M part v 0/\M part v 0<=Cb
 isIn:∀v,v<F g->0<M part v 0->M inn v D=T
 same:∀u v:U,u<F g->v<F g->0<M part u 0->Rc g inn u v->M part v 0=M part u 0
 con:∀u v:U,u<F g->v<F g->0<M part u 0->M part v 0=M part u 0->Rc g inn u v
 all:∀v,v<i->v<F g->M inn v D=T->0<M part v 0
 sur:∀m,0<m->m<=Cb->∃v,v<F g/\M part v 0=m
theorem xB{n:U}{x13 m:E}:∀(l:Ξ) (part:Ξ),F part=F g->(∀v∈l,0<=v/\v<(F g:E))->
 ∃K,CC (Xi n g inn x13 m) l (.s0 part)=Z (.s0 K)/\F K=F g/\∀v:U,M K v 0=C ((v:E)∈l/\v<F g) (m+1) (M part v 0)
 |[],part,h,_=>⟨part,rfl,h,λv=>Z3⟩
 |a::l,part,h,b=>by
  have ha:=b a zMY
  have e1:Xi n g inn x13 m a (.s0 part)=Z (.s0<|part.set a.toNat<|m+1):=by
   simp_all[Xi,wz,dZ]
  obtain⟨K,h1,c,k⟩:=xB (n:=n) (x13:=x13) (m:=m) l (part.set a.toNat<|m+1) Z4 λv o=>b v<|zMO _ o
  refine⟨K,?_,c,λv=>?_⟩
  ·grind[CC]
  ·rw[k]
   grind
theorem Pt.go(G:Gr g){i:U}{part k:Ξ}{Y:E}(h:Pt g inn i part Y)(hi:i<F g)(s:M inn i D=T)(h0:¬M part i 0>0)(hl:∀v,v∈l↔Rc g inn i v)(p:F k=F g)
 (hp:∀v:U,M k v 0=C ((v:E)∈l/\v<F g) (Y+1) (M part v 0)):Pt g inn (i+1) k<|Y+1:=by
 have m0:=h.m0;have m1:=h.m1;have f:∀v:U,v<F g->Rc g inn i v->M k v 0=Y+1:=λv o a=>Z4
 have Q:∀v:U,¬Rc g inn i v->M k v 0=M part v 0:=λv a=>Z4
 have sym:∀u v:U,u<F g->M inn u D=T->Rc g inn u v->Rc g inn v u:=λu v t hui a=>a.symm G Z2 Z2 (by simp_all)
 refine⟨p,Z2,Z2,λv o=>?_,λv o K=>?_,λu v t o K a=>?_,λu v t o K j=>?_,λv o n W=>?_,λm b c=>?_⟩
 ·have:=h.lo v o
  grind
 ·by_cases a:Rc g inn i v
  ·have:=a.isIn (by simp_all)
   simp_all
  ·rw[Q v a]at K;exact h.isIn v o K
 ·by_cases b:Rc g inn i u
  ·rw[f u t b,f v o<|b.trans a]
  ·rw[Q u b]at K⊢;have c:¬Rc g inn i v:=λc=>b<|c.trans<|sym u v t (h.isIn u t K) a
   rw[Q v c];exact h.same u v t o K a
 ·have q:=(h.lo v o).2
  by_cases b:Rc g inn i u
  ·rw[f u t b]at j
   by_cases c:Rc g inn i v
   ·exact(sym i u hi s b).trans c
   ·rw[Q v c]at j;omega
  ·rw[Q u b]at K j;have q:=(h.lo u t).2
   by_cases c:Rc g inn i v
   ·rw[f v o c]at j;omega
   ·rw[Q v c]at j;exact h.con u v t o K j
 ·rcases zBy.1 o with o|rfl
  ·have:=h.all v o n W
   grind
  ·rw[f v n .start];omega
 ·by_cases e:m=Y+1
  ·exact⟨i,hi,by rw[f i hi .start,e]⟩
  ·obtain⟨v,o,r⟩:=h.sur m b Z2;refine⟨v,o,?_⟩;rw[Q v λa=>h0 ?_,r];have:=h.same v i o hi Z2<|sym i v hi s a;omega
def PtP(g:O Ξ)(inn:Ω)(r:Ξ×E):Prop:=F r.1=F g/\(∀v,v<F g->M inn v D=T->0<M r.1 v 0)/\∀u v:U,u<F g->v<F g->M inn u D=T->(M r.1 v 0=M r.1 u 0↔Rc g inn u v)
theorem mV(G:Gr g)(p:F inn=F g):Aw (λn=>parts n g inn) λr=>Pt g inn (F g) r.1 r.2:=by
 have hG:=G.len;obtain⟨N,I⟩:=Aw.range (ϖ:=λ(i:U) n=>JR n g i inn) (ϕ:=λi l=>l.Nodup/\∀v,v∈l↔Rc g inn i v) (F g) λi hi=>lx G p Z2 Z2
 refine⟨N+F g+1,λn hn=>?_⟩;have S:=Jb (λn (s:Ξ×E) i=>UO g inn n<|.l1 i s.1 s.2) (F g) (N+1) (λi s=>Pt g inn i s.1 s.2) (λn i s G9 hi a=>?_) (n:=n) (s:=(d (F g) 0,0)) Z2 ?_
 ·obtain⟨j,⟨part,Y⟩,IW,_,y,a⟩:=S;obtain⟨b,rfl⟩:∃b,j=b+1:=⟨j-1,Z2⟩;refine⟨(part,Y),?_,a⟩
  show parts n g inn=Z (part,Y)
  unfold parts wy;rw[zAB ⟨rfl,Z2,Z2⟩];refine Eq.trans y ?_
  show Xh b (UO g inn b) g inn (F g:E) part Y=_
  unfold Xh;rw[zAF Z2,zAJ,zAB a.len.symm]
 ·obtain⟨part,Y⟩:=s;have a:Pt g inn i part Y:=a;have t:AI<|(i:E)+1:=Ae.2 ⟨Z2,Z2⟩
  show∃s',Xh n (UO g inn n) g inn (i:E) part Y=_/\_
  unfold Xh;simp only[u8,zCx];rw[zAA Z2,zAI,zAB ⟨Z2,Z2⟩];cases e:M inn i D
  ·rw[zMd,zAI,zAB t];have f:=a.m1;refine⟨(part,Y),rfl,a.len,a.m0,Z4,a.lo,a.isIn,a.same,a.con,λv o c W=>?_,a.sur⟩;rcases zBy.1 o with o|rfl
   ·exact a.all v o c W
   ·rw[e]at W;cases W
  ·have Aj:=a.len;rw[zMv,zAJ,zAB ⟨⟨Z2,Z2⟩,Z2⟩]
   by_cases h0:M part i 0>0
   ·rw[zAA h0,zAI,zAB t];have f:=a.m1;refine⟨(part,Y),rfl,a.len,a.m0,Z4,a.lo,a.isIn,a.same,a.con,λv o c W=>?_,a.sur⟩;rcases zBy.1 o with o|rfl
    ·exact a.all v o c W
    ·exact h0
   ·obtain⟨l,K,A1,k⟩:=I n Z2 i hi;obtain⟨q,w,x,R⟩:=xB (n:=n) (inn:=inn) (x13:=(i:E)) (m:=Y) l part a.len λv o=>((k v).1 o).rng G Z2 Z2
    have m0:=a.m0;have f:=a.m1;rw[zAF h0,zAJ,zAB<|Ae.2 ⟨Z2,Z2⟩,K,zAD,w,zAD];rw[zAB t];exact⟨(q,Y+1),rfl,a.go G hi e h0 k x R⟩
 ·have z:∀v:U,M (d (F g) (0:E)) v 0=0:=λv=>by
   grind
  exact⟨Z3,zCs _,zCs _,λv _=>Z4,λv _ h=>by rw[z]at h;omega,λu v _ _ h=>by rw[z]at h;omega,λu v _ _ h=>by rw[z]at h;omega,λv o=>τ o<|zAR v,λm h1 h2=>Z4⟩
def zJL(G:Gr g)(Y:F inn=F g):Aw (λn=>parts n g inn)<|PtP g inn:=(mV G Y).mono λr a=>⟨a.len,λv o hi=>a.all v o o hi,λu v t o hi=>by
 have k:=a.all u t t hi;exact⟨a.con u v t o k,a.same u v t o k⟩⟩
def Sp(g:O Ξ)(inn some':Ω)(a:E):Prop:=∃u v:E,u≠a/\v≠a/\M some' u.toNat D=T/\M some' v.toNat D=T/\Rc g inn a u/\Rc g inn a v/\¬Rc g (inn.set a.toNat D) u v
variable{y3:Ξ×E}
theorem uT{n:U}{a f:E}(q:F some'=F g)(hy:F y3.1=F g)(e:f≠0):∀(l:Ξ),(∀v∈l,0<=v/\v<(F g:E))->
 ∃b t c,C7 (J4 n some' a y3) l (.s0 D f)=Z (.s0 b t,c)/\(c=0∨c=1)/\(b=T↔∃v∈l,v≠a/\M some' v.toNat D=T/\M y3.1 v.toNat 0≠f)
 |[],_=>⟨D,f,0,rfl,.inl rfl,Z3⟩
 |x::l,m=>by
  have hx:=m x zMY;obtain⟨b,t,c,h1,h2,h3⟩:=uT (n:=n) (a:=a) q hy e l λv o=>m v<|zMO _ o
  have skip:J4 n some' a y3 x (.s0 D f)=Z (.s0 D f,0)->¬(x≠a/\M some' x.toNat D=T/\M y3.1 x.toNat 0≠f)->∃b t c,C7 (J4 n some' a y3) (x::l) (.s0 D f)=Z (.s0 b t,c)/\(c=0∨c=1)/\(b=T↔∃v∈x::l,v≠a/\M some' v.toNat D=T/\M y3.1 v.toNat 0≠f):=by
   grind[C7]
  have f0:(f==0)=D:=zMS.2 e;have ι:J4 n some' a y3 x (.s0 D f)=WV n some' a y3 x D f:=rfl;unfold WV at ι
  by_cases y:x=a
  ·grind
  ·have:(x==a)=D:=zMS.2 y;rw[this,zAJ,zAB ⟨Z2,Z2⟩]at ι;cases e2:M some' x.toNat D
   ·grind
   ·by_cases e3:M y3.1 x.toNat 0=f
    ·grind
    ·refine⟨T,f,1,?_,.inr rfl,?_⟩
     ·grind[C7]
     grind
theorem uU{n:U}{a:E}(q:F some'=F g)(hy:F y3.1=F g):∀(l:Ξ),(∀v∈l,0<=v/\v<(F g:E))->(∀v∈l,v≠a->M y3.1 v.toNat 0≠0)->
 ∃b t c,C7 (J4 n some' a y3) l (.s0 D 0)=Z (.s0 b t,c)/\(c=0∨c=1)/\(b=T↔∃u∈l,∃v∈l,u≠a/\v≠a/\M some' u.toNat D=T/\M some' v.toNat D=T/\M y3.1 v.toNat 0≠M y3.1 u.toNat 0)
 |[],_,_=>⟨D,0,0,rfl,.inl rfl,Z3⟩
 |x::l,m,h=>by
  have hx:=m x zMY;have i:∀v∈l,0<=v/\v<(F g:E):=λv o=>m v<|zMO _ o
  have skip:J4 n some' a y3 x (.s0 D 0)=Z (.s0 D 0,0)->¬(x≠a/\M some' x.toNat D=T)->∃b t c,C7 (J4 n some' a y3) (x::l) (.s0 D 0)=Z (.s0 b t,c)/\(c=0∨c=1)/\(b=T↔∃u∈x::l,∃v∈x::l,u≠a/\v≠a/\M some' u.toNat D=T/\M some' v.toNat D=T/\M y3.1 v.toNat 0≠M y3.1 u.toNat 0):=by
   intro e hn;obtain⟨b,t,c,j,f,k⟩:=uU (n:=n) (a:=a) q hy l i λv o=>h v<|zMO _ o
   refine⟨b,t,c,?_,f,?_⟩
   ·grind[C7]
   grind
  have ι:J4 n some' a y3 x (.s0 D 0)=WV n some' a y3 x D 0:=rfl;unfold WV at ι
  by_cases y:x=a
  ·grind
  ·cases e2:M some' x.toNat D
   ·grind
   ·obtain⟨b,t,c,j,f,k⟩:=uT (n:=n) (a:=a) q hy (h x zMY y) l i;refine⟨b,t,c,?_,f,?_⟩
    ·grind[C7]
    grind
theorem zEO(G:Hr g)(Y:F inn=F g)(P:F some'=F g){a:U}(ha:a<F g)(hia:M inn a D=T):
 Aw (λn=>Th n g inn some' (a:E)) λr=>r.2=0/\(r.1=T↔Sp g inn some' (a:E)):=by
 have hG:=G.gr.len;have Ϝ:(1000000000000:U)=Av:=rfl
 have hw:∀n,V9 n (a:E) inn=Z (inn.set a D):=λn=>by
  unfold V9 jy Sj qo;rw[zAB ⟨Z2,trivial,⟨rfl,rfl⟩,Z4⟩,zAB Z3,zAD,zMX,zAB ⟨⟨Z2,Z2⟩,Z2⟩,zAB Z3,zCx,u8]
 have m:F (inn.set a D)=F g:=Z4
 have e:∀n,Th n g inn some' (a:E)=(Mu n g [inn,some']).bind λy=>L (y != 0) (Z (D,y))<|(parts n g<|inn.set a D).bind λy3=>(JR n g a inn).bind λp=>(C7 (J4 n some' a y3) p<|.s0 D 0).bind λf=>L (f.2==0) (match f.1 with| .s0 b _=>Z (b,0))<|L (f.2==1) (match f.1 with| .s0 b _=>Z (b,0)) V:=λn=>by
  grind[Th,uO]
 refine Aw.eq ?_ e
 refine Aw.bind (gq G (λx hx=>by
  grind) Z3) ?_
 show Aw (R:=ζ×E) (λn=>(parts n g<|inn.set a D).bind λy3=>(JR n g a inn).bind λp=>(C7 (J4 n some' a y3) p<|.s0 D 0).bind λf=>L (f.2==0) (match f.1 with| .s0 b _=>Z (b,0))<|L (f.2==1) (match f.1 with| .s0 b _=>Z (b,0)) V) _
 obtain⟨N,Q⟩:=lx G.gr Y (s:=(a:E)) Z2 Z2;refine Aw.bindU (zJL G.gr m) ⟨N,λn W y3 hy=>?_⟩;obtain⟨l,q,A1,J⟩:=Q n W;have q:JR n g (a:E) inn=Z l:=q;have i:∀v∈l,0<=v/\v<(F g:E):=λv o=>((J v).1 o).rng G.gr Z2 Z2
 have z:∀v∈l,v≠(a:E)->M (inn.set a D) v.toNat D=T:=λv o j=>by
  have k:=i v o;rw[zAL,zTU Z2,←zAL];exact((J v).1 o).isIn Z4
 obtain⟨b,f',c,k,h2,h3⟩:=uU (n:=n) (some':=some') (a:=(a:E)) (y3:=y3) P hy.1 l i λv o j=>by
  have k:=i v o;have:=hy.2.1 v.toNat Z2<|z v o j;omega
 rw[q,zAD,k,zAD];refine⟨(b,0),?_,rfl,?_⟩
 ·grind
 ·show b=T↔_
  rw[h3]
  have key:∀u v:E,u∈l->v∈l->u≠a->(M y3.1 v.toNat 0=M y3.1 u.toNat 0↔Rc g (inn.set a D) u v):=λu v t o j=>by
   have k:=i u t;have h2:=i v o;have:=hy.2.2 u.toNat v.toNat Z2 Z2<|z u t j
   grind
  constructor
  ·rintro⟨u,t,v,o,w,X,I,S,K⟩;exact⟨u,v,w,X,I,S,(J u).1 t,(J v).1 o,λh=>K<|(key u v t o w).2 h⟩
  ·rintro⟨u,v,w,X,I,S,K,h9,gh⟩
   grind
end
section
def FV(c:AE)(pos:Ξ)(a:U):ζ:=bits .andNot .i64 (Ag c pos a) c.set==0
def Gg(c:AE)(pos:Ξ)(a:U):ζ:=FV c pos a||(bits .and .i64 (Ag c pos a) c.set != 0)
def cnt(p:U->ζ)(i:U):E:=(((θ i).countP p:U):E)
variable{i:U}{p:U->ζ}
theorem QQ :cnt p (i+1)=cnt p i+C (p i) 1 0:=by
 grind[cnt,List.range_succ]
theorem aG :0<=cnt p i/\cnt p i<=i:=by
 grind[cnt,List.length_range]
def OM(c:AE)(pos:Ξ):ζ:=!H (cnt (FV c pos) (F c.ce)>c.hi)&&!H (cnt (Gg c pos) (F c.ce)<c.lo)
def Ka(c:AE)(pos:Ξ)(a s:U):ζ:=((cnt (FV c pos) (F c.ce)==c.hi)&&(bits .andNot .i64 (Ag c pos a) c.set != 0)&&tb c.set s)||((cnt (Gg c pos) (F c.ce)==c.lo)&&(bits .and .i64 (Ag c pos a) c.set != 0)&&!tb c.set s)
section
variable{c:AE}{k:U}{pos lost:Ξ}{q:AA}
variable{n:U}
theorem zQu{b e:E}(W:CZ c k pos)(m:F lost=F pos)(g:b=cnt (FV c pos) (F c.ce))(R:e=cnt (Gg c pos) (F c.ce))(hn:F c.ce+1<=n):
 ∃l,Lk c q pos (F pos) lost n (.l2 b e 0 lost)=Z (T,l)/\CU c pos lost (F c.ce) (λa s=>Ka c pos a s=T) l:=by
 have f:∀i,i<F c.ce->((i:U):E)<((F c.ce:U):E):=λi hi=>Z2
 have ϒ:=Jb (λn (s:Ξ) i=>Lk c q pos (F pos) lost n<|.l2 b e i s) (F c.ce) 1
  (λi s=>CU c pos lost i (λa s=>Ka c pos a s=T) s) (λn i s G9 hi Y=>?_) (n:=n) (s:=lost) Z2 (CU.zero m)
 ·obtain⟨J,l,LN,_,K,hL⟩:=ϒ;obtain⟨w,rfl⟩:∃w,J=w+1:=⟨J-1,Z2⟩
  simp_all[ij,Lk]
 ·have hc:=W.ce i hi;have h:=W.r64 hi
  have key:∀l':Ξ,F l'=F pos->(∀j x,tb (M l' j 0) x=(tb (M s j 0) x||(H (j=(M c.ce i 0).toNat)&&(tb (M pos j 0) x&&Ka c pos i x))))->CU c pos lost (i+1) (λa s=>Ka c pos a s=T) l':=by
   intro l' o h2;refine Y.step o λj x=>?_
   grind[Ag]
  obtain⟨p,y,r,f1⟩:=Nn (lost:=s) (n:=n) (ss:=c.set) (c:=c) (q:=q) hc.1 hc.2 Y.1;obtain⟨l2,K,n2,f2⟩:=me (lost:=p) (n:=n) (c:=c) (q:=q) hc.1 hc.2 r;obtain⟨l3,N,J,f3⟩:=me (lost:=s) (n:=n) (c:=c) (q:=q) hc.1 hc.2 Y.1;have S:H ((i:E)<((F c.ce:U):E))=T:=zAA<|f i hi;have t:(0:E)<=(i:E)/\(i:E)<((F c.ce:U):E):=⟨Z2,f i hi⟩
  show∃s',ij n (Lk c q pos (F pos) lost n) c q pos (F pos) lost b e (i:E) s=_/\_
  unfold ij;rw[S,zAI,zAB t];simp only[u8];have X:∀x,Ka c pos i x=(((b==c.hi)&&(bits .andNot .i64 (M pos (M c.ce i 0).toNat 0) c.set != 0)&&tb c.set x)||((e==c.lo)&&(bits .and .i64 (M pos (M c.ce i 0).toNat 0) c.set != 0)&&!tb c.set x)):=λx=>by rw[g,R];rfl
  cases u:(b==c.hi) <;> cases v:(e==c.lo) <;> cases z:(bits .andNot .i64 (M pos (M c.ce i 0).toNat 0) c.set != 0) <;> cases G:(bits .and .i64 (M pos (M c.ce i 0).toNat 0) c.set != 0) <;>
   simp only[u,z,v,G,zOA,zUN,Bool.and_false,Bool.and_true,Bool.or_false,zPE]at X <;>
   simp only[zAI,zAJ,zAB hc,y,K,N,zAD,zAB h.2]
  all_goals grind[CU]
theorem zQv(W:CZ c k pos)(m:F lost=F pos)(hn:2*F c.ce+3<=n):
 ∃l,VX n c q pos (F pos) lost=Z (OM c pos,l)/\(OM c pos=T->CU c pos lost (F c.ce) (λa s=>Ka c pos a s=T) l):=by
 have f:∀i,i<F c.ce->((i:U):E)<((F c.ce:U):E):=λi hi=>Z2
 have S:=Jb (λn (s:Δ) i=>Lk c q pos (F pos) lost n<|.l1 s.1 s.2 i) (F c.ce) (F c.ce+3)
  (λi s=>s.1=cnt (FV c pos) i/\s.2=cnt (Gg c pos) i) (λn i s _ hi Y=>?_) (n:=n) (s:=(0,0)) Z2 ⟨rfl,rfl⟩
 ·obtain⟨j,⟨X,b⟩,IW,_,y,e,R⟩:=S;obtain⟨r,rfl⟩:∃r,j=r+1:=⟨j-1,Z2⟩;have K:VX n c q pos (F pos) lost=Zy r (Lk c q pos (F pos) lost r) c q pos (F pos) lost X b (F c.ce:E):=y;unfold Zy at K;unfold OM;cases h5:H<|X>c.hi
  ·cases h6:H<|b<c.lo
   ·obtain⟨l,e3,hL⟩:=zQu (q:=q) (n:=r) W m e R Z2
    grind
   grind
  grind
 ·obtain⟨X,b⟩:=s;obtain⟨e,R⟩:=Y;simp only at e R;have hc:=W.ce i hi;have hr:=W.r64 hi;have b3:=aG (p:=FV c pos) (i:=i);have b4:=aG (p:=Gg c pos) (i:=i);have Aj:=W.len;have r3:AI<|X+1:=Ae.2 ⟨Z2,Z2⟩;have r4:AI<|b+1:=Ae.2 ⟨Z2,Z2⟩
  show∃s',Zy n (Lk c q pos (F pos) lost n) c q pos (F pos) lost X b (i:E)=_/\_
  unfold Zy;rw[zAA<|f i hi,zAI];simp only[u8];rw[zAB ⟨⟨Z2,f i hi⟩,hc⟩];have h:(bits .andNot .i64 (M pos (M c.ce i 0).toNat 0) c.set==0)=FV c pos i:=rfl;have g:(FV c pos i||(bits .and .i64 (M pos (M c.ce i 0).toNat 0) c.set != 0))=Gg c pos i:=rfl;rw[h];cases z:FV c pos i
  ·rw[z,zPE]at g;rw[zAJ,g];cases hy:Gg c pos i
   ·simp_all[QQ]
   simp_all[QQ]
  simp_all[QQ]
end
end
abbrev zDL:=@Nat.lt_of_not_le
abbrev zOR:=@List.mem_filter
theorem kM(x:E)(i:U):tb (IntKind.i64.wrap x) i=tb x i:=by unfold tb;rw[Xp]
theorem JH{s:U}(hs:s<64)(i:U):tb (IntKind.i64.wrap<|1*2^s) i=H (s=i):=by
 rw[kM,Int.one_mul]
 grind[zDk,TX]
theorem Gf{k:U}{x:E}(h:Sm k x)(hk:k<=62){e:E}:e∈By x↔∃s:U,e=(s:E)/\s<k/\tb x s=T:=by
 obtain⟨m,rfl⟩:=zOh h.1;unfold By GX;simp only[zMa,zOR,zAV,u8];constructor
 ·rintro⟨s,⟨b,c⟩,rfl⟩;have a:tb (m:E) s=T:=by rw[L2 m s b];exact c
  refine⟨s,rfl,?_,a⟩;refine zDL λX=>?_
  rw[h.hi X]at a;cases a
 ·rintro⟨s,rfl,b,c⟩;exact⟨s,⟨Z2,by grind[L2]⟩,rfl⟩
theorem iD{α σ:Type}{f:α->σ->A σ}(Inv:O α->σ->Prop):∀(l pre:O α) (s:σ),Inv pre s->(∀pre x s,x∈l->Inv pre s->∃Y,f x s=Z Y/\Inv (pre++[x]) Y)->∃Y,CC f l s=Z Y/\Inv (pre++l) Y
 |[],pre,s,h,_=>⟨s,rfl,by rw[zMz];exact h⟩
 |x::l,pre,s,h,a=>by
  obtain⟨Y,h1,c⟩:=a pre x s (.head _) h;obtain⟨s2,h3,h4⟩:=iD Inv l (pre++[x]) Y c λpre y s hy=>a pre y s<|.tail _ hy
  grind[CC]
structure Ep(q:AA)(k:U):Prop where
 len:k<=F q.va
 val:∀s,s<k->0<=M q.va s 0/\M q.va s 0<=99
def LA(q:AA)(a e:E):E:=C (M q.va e.toNat 0<a) (M q.va e.toNat 0) a
def LO(q:AA)(a e:E):E:=C (M q.va e.toNat 0>a) (M q.va e.toNat 0) a
def Fw(q:AA)(x:E):E:=(By x).foldl (LA q) 100
def GB(q:AA)(x:E):E:=(By x).foldl (LO q)<|-1
section
variable{c:AE}{k:U}{pos lost:Ξ}{q:AA}
def ya:∀(l:Ξ) (a:E),(∀e∈l,0<=M q.va e.toNat 0/\M q.va e.toNat 0<=99)->0<=a/\a<=100->0<=l.foldl (LA q) a/\l.foldl (LA q) a<=100
 |[],_,_,h=>h
 |e::l,a,o,h=>by
  have:=o e<|.head _;refine ya l (LA q a e) (λe b=>o e<|.tail _ b) ?_;unfold LA;split <;> omega
def zv:∀(l:Ξ) (a:E),(∀e∈l,0<=M q.va e.toNat 0/\M q.va e.toNat 0<=99)->-1<=a/\a<=99->-1<=l.foldl (LO q) a/\l.foldl (LO q) a<=99
 |[],_,_,h=>h
 |e::l,a,o,h=>by
  have:=o e<|.head _;refine zv l (LO q a e) (λe b=>o e<|.tail _ b) ?_;unfold LO;split <;> omega
variable{x:E}
def Ep.sym(ο:Ep q k)(hk:k<=16)(h:Sm k x):∀e∈By x,(0<=e/\e<((F q.va:U):E))/\0<=M q.va e.toNat 0/\M q.va e.toNat 0<=99:=by
 intro e a;obtain⟨s,rfl,b,_⟩:=(Gf h<|zAO hk Z6).1 a;have:=ο.len;exact⟨Z2,ο.val s b⟩
def Ep.lo(ο:Ep q k)(hk:k<=16)(h:Sm k x):0<=Fw q x/\Fw q x<=100:=ya _ _ (λe a=>(ο.sym hk h e a).2) Z6
def Ep.hi(ο:Ep q k)(hk:k<=16)(h:Sm k x):-1<=GB q x/\GB q x<=99:=zv _ _ (λe a=>(ο.sym hk h e a).2) Z6
variable{n ln:U}
theorem zA6 :∀(l:Ξ) (a b:E),(∀e∈l,0<=e/\e<((F q.va:U):E))->CC (Zf n c q pos ln lost) l (.s0 a b)=Z (.s0 (l.foldl (LA q) a)<|l.foldl (LO q) b)
 |[],_,_,_=>rfl
 |e::l,a,b,h=>by
  have y:Zf n c q pos ln lost e (.s0 a b)=Z (.s0 (LA q a e)<|LO q b e):=by
   simp_all[Zf,zA8,zA9,LA,LO]
  simp only[CC];rw[y,zAD,zA6 l _ _ λe f=>h e<|.tail _ f];rfl
def zA5(ο:Ep q k)(hk:k<=16)(h:Sm k x):Zg n x c q pos ln lost=Z (Fw q x,GB q x,lost):=by
 have p7:=PM (k:=k)<|zAO hk Z6;have h2:=h.2;unfold Zg zA7;rw[zAB ⟨h.1,Z2⟩,zA6 (By x) 100 (-1) λe a=>(ο.sym hk h e a).1];rfl
def Cf(f:U->E):U->E
 |0=>0
 |i+1=>Cf f i+f i
theorem Qr{f:U->E}:∀(i:U),(∀a,a<i->-1<=f a/\f a<=100)->-(i:E)<=Cf f i/\Cf f i<=100*(i:E)
 |0,_=>by simp[Cf]
 |i+1,h=>by
  have h1:=Qr i λa ha=>h a Z2
  grind[Cf]
def Md(q:AA)(c:AE)(pos:Ξ):E:=Cf (λa=>Fw q<|Ag c pos a)<|F c.ce
def Mr(q:AA)(c:AE)(pos:Ξ):E:=Cf (λa=>GB q<|Ag c pos a)<|F c.ce
def NL(q:AA)(c:AE)(pos:Ξ):ζ:=!H (Md q c pos>c.hi)&&!H (Mr q c pos<c.lo)
def J2(q:AA)(c:AE)(pos:Ξ)(a s:U):ζ:=H (Md q c pos-Fw q (Ag c pos a)+M q.va s 0>c.hi)||H (Mr q c pos-GB q (Ag c pos a)+M q.va s 0<c.lo)
variable{i:U}
theorem yV{ϒ:Type}(W:CZ c k pos)(hi:i<F c.ce)(m:F lost=F pos)(Y:Ξ->ϒ)(f:E->ϒ->A ϒ)(X:U->ζ)
 (g:∀(s:U) (l:Ξ),s<k->F l=F pos->f (s:E) (Y l)=L (X s) ((El n (M c.ce i 0) (IntKind.i64.wrap<|1*2^s) c q pos (F pos) l).map Y) (Z<|Y l)):
 ∃l',CC f (By<|Ag c pos i) (Y lost)=Z (Y l')/\F l'=F pos/\
  ∀j s,tb (M l' j 0) s=T↔tb (M lost j 0) s=T∨((M c.ce i 0).toNat=j/\tb (Ag c pos i) s=T/\X s=T):=by
 have hc:=W.ce i hi;have P:=W.at hi;have hk:=W.k
 have key:=iD (f:=f)
  (λpre s=>∃l',s=Y l'/\F l'=F pos/\∀j s,tb (M l' j 0) s=T↔tb (M lost j 0) s=T∨((M c.ce i 0).toNat=j/\tb (Ag c pos i) s=T/\(s:E)∈pre/\X s=T))
  (By<|Ag c pos i) [] (Y lost) ⟨lost,rfl,m,λj s=>⟨.inl,λh=>h.elim id λh=>by cases h.2.2.1⟩⟩ ?_
 ·obtain⟨_,o,l',rfl,a,b⟩:=key;refine⟨l',o,a,λj s=>?_⟩;rw[b,zMX];constructor
  ·grind
  ·rintro(h|⟨r,p,a3⟩)
   ·exact .inl h
   ·refine .inr ⟨r,p,(Gf P<|zAO hk Z6).2 ⟨s,rfl,zDL λt=>?_,p⟩,a3⟩;rw[P.hi t]at p;cases p
 ·rintro pre e _ u ⟨l',rfl,a,b⟩;obtain⟨s,rfl,v,hbit⟩:=(Gf P<|zAO hk Z6).1 u;rw[g s l' v a];cases hx:X s
  ·grind
  ·obtain⟨w,K,y,N⟩:=Nn (lost:=l') (n:=n) (ss:=IntKind.i64.wrap<|1*2^s) (c:=c) (q:=q) hc.1 hc.2 a;rw[zAI,K,zMp];refine⟨_,rfl,w,rfl,y,λj x=>?_⟩;rw[N,zCz,zAK,zAK,zB0,b,JH Z2,zB0];constructor
   ·grind
   grind[Ag]
theorem zD3(W:CZ c k pos)(ο:Ep q k)(hi:i<F c.ce){low high:E}(N:low=Md q c pos)(g:high=Mr q c pos)(m:F lost=F pos):
 ∃l',CC (bT n c (i:E) q pos (F pos) low high (Fw q<|Ag c pos i,GB q<|Ag c pos i,lost)) (By<|Ag c pos i) (.s0 lost)=Z (.s0 l')/\F l'=F pos/\
  ∀j s,tb (M l' j 0) s=T↔tb (M lost j 0) s=T∨((M c.ce i 0).toNat=j/\tb (Ag c pos i) s=T/\J2 q c pos i s=T):=by
 have hc:=W.ce i hi;have b:=W.at hi;have hk:=W.k;have Aj:=W.len;have bl:=ο.lo hk b;have bh:=ο.hi hk b;have h:=Qr (f:=λa=>Fw q<|Ag c pos a) (F c.ce) λa P=>by have:=ο.lo hk<|W.at P;omega
 have e:=Qr (f:=λa=>GB q<|Ag c pos a) (F c.ce) λa P=>by have:=ο.hi hk<|W.at P;omega
 have h:-(F c.ce:E)<=low/\low<=100*(F c.ce:E):=by rw[N];exact h
 have e:-(F c.ce:E)<=high/\high<=100*(F c.ce:E):=by rw[g];exact e
 refine yV (n:=n) (q:=q) W hi m NK.s0 _ (J2 q c pos i) λs l o m=>?_
 have hv:=ο.val s o;have G7:=ο.len;have r1:AI<|low-Fw q (Ag c pos i):=Ae.2 ⟨Z2,Z2⟩;have r2:AI<|low-Fw q (Ag c pos i)+M q.va s 0:=Ae.2 ⟨Z2,Z2⟩;have r3:AI<|high-GB q (Ag c pos i):=Ae.2 ⟨Z2,Z2⟩;have r4:AI<|high-GB q (Ag c pos i)+M q.va s 0:=Ae.2 ⟨Z2,Z2⟩;have g1:(0:E)<=(s:E)/\(s:E)<((F q.va:U):E):=Z2
 have g2:(0:E)<=(s:E)/\(s:E)<=((IntKind.i64.bits:U):E):=⟨Z2,by show(s:E)<=64;omega⟩;obtain⟨l2,e2,_,_⟩:=Nn (lost:=l) (n:=n) (ss:=IntKind.i64.wrap<|1*2^s) (c:=c) (q:=q) hc.1 hc.2 m;have X:J2 q c pos i s=(H (low-Fw q (Ag c pos i)+M q.va s 0>c.hi)||H (high-GB q (Ag c pos i)+M q.va s 0<c.lo)):=by rw[N,g];rfl
 rw[X];unfold bT uE bS
 grind
theorem zDz(W:CZ c k pos)(ο:Ep q k)(m:F lost=F pos)(hn:F c.ce+1<=n):
 ∃l,Km c q pos (F pos) lost n (.l2 0 lost (Md q c pos)<|Mr q c pos)=Z (T,l)/\CU c pos lost (F c.ce) (λa s=>J2 q c pos a s=T) l:=by
 have X:∀i,i<F c.ce->((i:U):E)<((F c.ce:U):E):=λi hi=>Z2
 have ϒ:=Jb (λn (s:Ξ) i=>Km c q pos (F pos) lost n<|.l2 i s (Md q c pos)<|Mr q c pos) (F c.ce) 1
  (λi s=>CU c pos lost i (λa s=>J2 q c pos a s=T) s) (λn i s G9 hi Y=>?_) (n:=n) (s:=lost) Z2 (CU.zero m)
 ·obtain⟨J,l,LN,_,e2,hL⟩:=ϒ;obtain⟨w,rfl⟩:∃w,J=w+1:=⟨J-1,Z2⟩
  simp_all[bR,Km]
 ·have hc:=W.ce i hi;have hr:=W.r64 hi;have P:=W.at hi;have p7:=PM (k:=k)<|zAO W.k Z6;have Hf:=P.2;obtain⟨l',e1,j,y⟩:=zD3 (n:=n) W ο hi rfl rfl Y.1
  show∃s',bR n (Km c q pos (F pos) lost n) c q pos (F pos) lost (i:E) s _ _=_/\_
  unfold bR;simp only[u8];have b:M pos (M c.ce i 0).toNat 0=Ag c pos i:=rfl;rw[zAB ⟨⟨Z2,X i hi⟩,hc⟩,b,zA5 ο W.k P,zAD,zAB ⟨P.1,Z2⟩];refine⟨l',?_,Y.step j y⟩
  grind
theorem zD0(W:CZ c k pos)(ο:Ep q k)(m:F lost=F pos)(hn:2*F c.ce+3<=n):
 ∃l,Tc n c q pos (F pos) lost=Z (NL q c pos,l)/\(NL q c pos=T->CU c pos lost (F c.ce) (λa s=>J2 q c pos a s=T) l):=by
 have h:∀i,i<F c.ce->((i:U):E)<((F c.ce:U):E):=λi hi=>Z2
 have S:=Jb (λn (s:Ξ×Δ) i=>Km c q pos (F pos) lost n<|.l1 i s.1 s.2.1 s.2.2) (F c.ce) (F c.ce+3)
  (λi s=>s.1=lost/\s.2.1=Cf (λa=>Fw q<|Ag c pos a) i/\s.2.2=Cf (λa=>GB q<|Ag c pos a) i) (λn i s _ hi Y=>?_) (n:=n) (s:=(lost,0,0)) Z2 ⟨rfl,rfl,rfl⟩
 ·obtain⟨j,⟨l0,X,b⟩,IW,_,y,h0,e,R⟩:=S;obtain⟨r,rfl⟩:∃r,j=r+1:=⟨j-1,Z2⟩;obtain rfl:l0=lost:=h0;obtain rfl:X=Md q c pos:=e;obtain rfl:b=Mr q c pos:=R;have K:Tc n c q pos (F pos) l0=WM r (Km c q pos (F pos) l0 r) c q pos (F pos) l0 (F c.ce:E) l0 (Md q c pos) (Mr q c pos):=y;unfold WM at K;unfold NL;cases h5:H<|Md q c pos>c.hi
  ·cases h6:H<|Mr q c pos<c.lo
   ·obtain⟨l,e3,hL⟩:=zDz (n:=r) W ο m Z2
    grind
   grind
  grind
 ·obtain⟨l0,X,b⟩:=s;obtain⟨h0,e,R⟩:=Y;simp only at h0 e R;have hc:=W.ce i hi;have o:=W.r64 hi;have P:=W.at hi;have p:=Qr (f:=λa=>Fw q<|Ag c pos a) i λa g=>by have:=ο.lo W.k<|W.at<|Nat.lt_trans g hi;omega
  have v:=Qr (f:=λa=>GB q<|Ag c pos a) i λa g=>by have:=ο.hi W.k<|W.at<|Nat.lt_trans g hi;omega
  have bl:=ο.lo W.k P;have bh:=ο.hi W.k P;have Aj:=W.len;rw[←e]at p;rw[←R]at v;have Q:AI<|X+Fw q (Ag c pos i):=Ae.2 ⟨Z2,Z2⟩;have t:AI<|b+GB q (Ag c pos i):=Ae.2 ⟨Z2,Z2⟩
  show∃s',WM n (Km c q pos (F pos) lost n) c q pos (F pos) lost (i:E) l0 X b=_/\_
  unfold WM;rw[zAA<|h i hi,zAI];simp only[u8];have w:M pos (M c.ce i 0).toNat 0=Ag c pos i:=rfl;rw[zAB ⟨⟨Z2,h i hi⟩,hc⟩,w,zA5 ο W.k P,zAD,zAB ⟨Q,t,o.2⟩];exact⟨(l0,X+Fw q (Ag c pos i),b+GB q (Ag c pos i)),rfl,h0,by simp only[Cf];rw[e],by simp only[Cf];rw[R]⟩
end
section
set_option maxRecDepth 100000
set_option maxHeartbeats 40000000
def tf:ST:=.rd 0<|.rd 1<|.rd 3<|.rd 4<|.ef 2 (.ef 5 (.ef 6 (.ef 7 (.ef 8 (.ef 9 (.fin [0,1,2,3] [1,3,4,5,58,91,92,104,148])<|.no)<|.no)<|.no)<|.ef 7 (.ef 6 (.ef 8 (.ef 9 (.fin [0,1,3,2] [1,3,4,5,58,91,92,104,148])<|.no)<|.no)<|.no)<|.no)<|.ef 6 (.ef 5 (.ef 7 (.ef 8 (.ef 9 (.fin [0,2,1,3] [1,3,4,5,58,91,92,104,148])<|.no)<|.no)<|.no)<|.ef 7 (.ef 5 (.ef 8 (.ef 9 (.fin [0,3,1,2] [1,3,4,5,58,91,92,104,148])<|.no)<|.no)<|.ef 8 (.ef 5 (.ef 9 (.fin [0,3,1,2] [1,3,4,5,58,91,92,104,148])<|.no)<|.no)<|.no)<|.no)<|.ef 7 (.ef 5 (.ef 6 (.ef 8 (.ef 9 (.fin [0,2,3,1] [1,3,4,5,58,91,92,104,148])<|.no)<|.no)<|.no)<|.ef 6 (.ef 5 (.ef 8 (.ef 9 (.fin [0,3,2,1] [1,3,4,5,58,91,92,104,148])<|.no)<|.no)<|.ef 8 (.ef 5 (.ef 9 (.fin [0,3,2,1] [1,3,4,5,58,91,92,104,148])<|.no)<|.no)<|.no)<|.no)<|.no)<|.ef 5 (.ef 2 (.ef 6 (.ef 7 (.ef 8 (.ef 9 (.fin [1,0,2,3] [1,3,4,5,58,91,92,104,148])<|.no)<|.no)<|.no)<|.ef 7 (.ef 6 (.ef 8 (.ef 9 (.fin [1,0,3,2] [1,3,4,5,58,91,92,104,148])<|.no)<|.no)<|.no)<|.no)<|.ef 6 (.ef 2 (.ef 7 (.ef 8 (.ef 9 (.fin [2,0,1,3] [1,3,4,5,58,91,92,104,148])<|.no)<|.no)<|.no)<|.ef 7 (.ef 2 (.ef 8 (.ef 9 (.fin [3,0,1,2] [1,3,4,5,58,91,92,104,148])<|.no)<|.no)<|.no)<|.no)<|.ef 7 (.ef 2 (.ef 6 (.ef 8 (.ef 9 (.fin [2,0,3,1] [1,3,4,5,58,91,92,104,148])<|.no)<|.no)<|.no)<|.ef 6 (.ef 2 (.ef 8 (.ef 9 (.fin [3,0,2,1] [1,3,4,5,58,91,92,104,148])<|.no)<|.no)<|.no)<|.no)<|.no)<|.ef 6 (.ef 2 (.ef 5 (.ef 7 (.ef 8 (.ef 9 (.fin [1,2,0,3] [1,3,4,5,58,91,92,104,148])<|.no)<|.no)<|.no)<|.ef 7 (.ef 5 (.ef 8 (.ef 9 (.fin [1,3,0,2] [1,3,4,5,58,91,92,104,148])<|.no)<|.no)<|.ef 8 (.ef 5 (.ef 9 (.fin [1,3,0,2] [1,3,4,5,58,91,92,104,148])<|.no)<|.no)<|.no)<|.no)<|.ef 5 (.ef 2 (.ef 7 (.ef 8 (.ef 9 (.fin [2,1,0,3] [1,3,4,5,58,91,92,104,148])<|.no)<|.no)<|.no)<|.ef 7 (.ef 2 (.ef 8 (.ef 9 (.fin [3,1,0,2] [1,3,4,5,58,91,92,104,148])<|.no)<|.no)<|.no)<|.no)<|.ef 7 (.ef 2 (.ef 5 (.ef 8 (.ef 9 (.fin [2,3,0,1] [1,3,4,5,58,91,92,104,148])<|.no)<|.no)<|.ef 8 (.ef 5 (.ef 9 (.fin [2,3,0,1] [1,3,4,5,58,91,92,104,148])<|.no)<|.no)<|.no)<|.ef 5 (.ef 2 (.ef 8 (.ef 9 (.fin [3,2,0,1] [1,3,4,5,58,91,92,104,148])<|.no)<|.no)<|.no)<|.no)<|.no)<|.ef 7 (.ef 2 (.ef 5 (.ef 6 (.ef 8 (.ef 9 (.fin [1,2,3,0] [1,3,4,5,58,91,92,104,148])<|.no)<|.no)<|.no)<|.ef 6 (.ef 5 (.ef 8 (.ef 9 (.fin [1,3,2,0] [1,3,4,5,58,91,92,104,148])<|.no)<|.no)<|.ef 8 (.ef 5 (.ef 9 (.fin [1,3,2,0] [1,3,4,5,58,91,92,104,148])<|.no)<|.no)<|.no)<|.no)<|.ef 5 (.ef 2 (.ef 6 (.ef 8 (.ef 9 (.fin [2,1,3,0] [1,3,4,5,58,91,92,104,148])<|.no)<|.no)<|.no)<|.ef 6 (.ef 2 (.ef 8 (.ef 9 (.fin [3,1,2,0] [1,3,4,5,58,91,92,104,148])<|.no)<|.no)<|.no)<|.no)<|.ef 6 (.ef 2 (.ef 5 (.ef 8 (.ef 9 (.fin [2,3,1,0] [1,3,4,5,58,91,92,104,148])<|.no)<|.no)<|.ef 8 (.ef 5 (.ef 9 (.fin [2,3,1,0] [1,3,4,5,58,91,92,104,148])<|.no)<|.no)<|.no)<|.ef 5 (.ef 2 (.ef 8 (.ef 9 (.fin [3,2,1,0] [1,3,4,5,58,91,92,104,148])<|.no)<|.no)<|.no)<|.no)<|.no)<|.no
def zFy:Bz (Am Tryz.f139 2) [2,5,6,7,8] tf:=Z1
def te:ST:=.rd 0<|.rd 1<|.rd 2<|.rd 3<|.ef 4 (.rd 5<|.ef 6 (.fin [] [1,4,5,58,91,92,104,148])<|.no)<|.no
def zFv:Bz (Am Tryz.f139 3) [4] te:=Z1
def zFz:Ar (Am Tryz.f139 12) [] (θ 11) [11]:=Z0
def zFx:Ar (Am Tryz.f139 22) [] (θ 9) [9]:=Z0
def zFw:Ar (Am Tryz.f139 26) [([0,1,2,3,4,5,6],7)] [] []:=Z0
def tc:ST:=.rd 0<|.rd 1<|.rd 2<|.rd 3<|.ef 4 (.fin [] [2])<|.no
def vD:Bz (Am Tryz.f139 30) [] tc:=Z1
def Fs:BZ:=λi=>match i with
 |2=>.tre [2,5,6,7,8] tf
 |3=>.tre [4] te
 |12=>.ord [] (θ 11) [11]
 |22=>.ord [] (θ 9) [9]
 |26=>.ord [([0,1,2,3,4,5,6],7)] [] []
 |30=>.tre [] tc
 |_=>.no
def Dl(c:AE)(q:AA)(pos:Ξ)(ln:U)(lost:Ξ):St:=⟨AF 178 [(1,.ref 2 0),(3,.i (F c.ce:E)),(4,.ref 5 0),(5,.ref 6 0)],([oW c q pos 1 ln,oI lost,oC [.ref 0 0],oI<|d ((F c.ce:E)+1).toNat (0:E),oI<|d ((F c.ce:E)+1).toNat (0:E),oC [.msl 3 1 0<|((F c.ce:E)+1).toNat],oC [.msl 4 1 0<|((F c.ce:E)+1).toNat]]:DH)⟩
def tC(c:AE)(q:AA)(pos:Ξ)(ln:U)(lost:Ξ):St:=⟨AF 178 [(1,.ref 2 0),(4,.ref 5 0),(5,.ref 6 0)],([oW c q pos 1 ln,oI lost,oC [.ref 0 0],oI<|(d ((F c.ce:E)+1).toNat (0:E)).set (0+0)<|-1,oI<|(d ((F c.ce:E)+1).toNat (0:E)).set (0+F c.ce) 100,oC [.msl 3 1 0<|((F c.ce:E)+1).toNat],oC [.msl 4 1 0<|((F c.ce:E)+1).toNat]]:DH)⟩
def zNe(c:AE)(q:AA)(pos:Ξ)(ln:U)(lost o4:Ξ)(k:E):DH:=[oW c q pos 1 ln,oI lost,oC [.ref 0 0],oC [.msl 4 1 0<|((F c.ce:E)+1).toNat],oI<|o4.set (0+(k+1).toNat) 100,oC [.msl 6 1 0<|((F c.ce:E)+1).toNat],oI<|(d ((F c.ce:E)+1).toNat (0:E)).set (0+F c.ce) 100,oC [.i k]]
def zNd(c:AE)(q:AA)(pos:Ξ)(ln:U)(lost:Ξ)(k:E)(o4:Ξ):DH:=[oW c q pos 1 ln,oI lost,oC [.ref 0 0],oC [.msl 7 1 0<|((F c.ce:E)+1).toNat],oC [.msl 8 1 0<|((F c.ce:E)+1).toNat],oC [.i k],Z<|.iter<|(By<|M pos (M c.ce k.toNat 0).toNat 0).map Bn,oI<|o4.set (0+(k+1).toNat) 100,oI<|(d ((F c.ce:E)+1).toNat (0:E)).set (0+F c.ce) 100]
def zNc(c:AE)(q:AA)(pos:Ξ)(ln:U)(lost o4:Ξ):DH:=[oW c q pos 1 ln,oI lost,oC [.ref 0 0],oC [.msl 4 1 0<|((F c.ce:E)+1).toNat],oI o4,oC [.msl 6 1 0<|((F c.ce:E)+1).toNat],oI<|(d ((F c.ce:E)+1).toNat (0:E)).set (0+F c.ce) 100]
def zNb(c:AE)(q:AA)(pos:Ξ)(ln:U)(lost:Ξ)(f:O<|Δ)(o4:Ξ):DH:=[oW c q pos 1 ln,oI lost,oC [.ref 0 0],oC [.msl 6 1 0<|((F c.ce:E)+1).toNat],oC [.msl 7 1 0<|((F c.ce:E)+1).toNat],Z<|.iter<|(f).map Sa,oI o4,oI<|(d ((F c.ce:E)+1).toNat (0:E)).set (0+F c.ce) 100]
def zNa(c:AE)(q:AA)(pos:Ξ)(ln:U)(o1 o4 e:Ξ)(N:E):DH:=[oW c q pos 1 ln,oI o1,oC [.ref 0 0],oC [.msl 4 1 0<|((F c.ce:E)+1).toNat],oI o4,oC [.msl 6 1 0<|((F c.ce:E)+1).toNat],oI e,oC [.i N],oC [.i<|M c.ce N.toNat 0]]
def zNZ(c:AE)(q:AA)(pos:Ξ)(ln:U)(o1:Ξ)(N:E)(o4 e:Ξ):DH:=[oW c q pos 1 ln,oI o1,oC [.ref 0 0],oC [.msl 8 1 0<|((F c.ce:E)+1).toNat],oC [.msl 9 1 0<|((F c.ce:E)+1).toNat],oC [.i N],oC [.i<|M c.ce N.toNat 0],Z<|.iter<|(By<|M pos (M c.ce N.toNat 0).toNat 0).map Bn,oI o4,oI e]
def zNY(c:AE)(q:AA)(pos:Ξ)(ln:U)(lost:Ξ)(k:E)(X:Ξ):DH:=[oW c q pos 1 ln,oI lost,oC [.ref 0 0],oC [.msl 7 1 0<|((F c.ce:E)+1).toNat],oC [.msl 8 1 0<|((F c.ce:E)+1).toNat],oC [.i k],V,oI X,oI<|(d ((F c.ce:E)+1).toNat (0:E)).set (0+F c.ce) 100]
def zNX(c:AE)(q:AA)(pos:Ξ)(ln:U)(lost o4 y:Ξ)(l:Δ):DH:=[oW c q pos 1 ln,oI lost,oC [.ref 0 0],oC [.msl 6 1 0<|((F c.ce:E)+1).toNat],oC [.msl 7 1 0<|((F c.ce:E)+1).toNat],V,oI o4,oI y,oC [.i l.1]]
def zNh(c:AE)(q:AA)(pos:Ξ)(ln:U)(lost o4 y:Ξ)(l:Δ):DH:=[oW c q pos 1 ln,oI lost,oC [.ref 0 0],oC [.msl 6 1 0<|((F c.ce:E)+1).toNat],oC [.msl 7 1 0<|((F c.ce:E)+1).toNat],V,oI o4,oI<|y.set (0+(l.1).toNat)<|-1,oC [.i l.1]]
def zNg(c:AE)(q:AA)(pos:Ξ)(ln:U)(lost:Ξ)(l:Δ)(o4 y:Ξ):DH:=[oW c q pos 1 ln,oI lost,oC [.ref 0 0],oC [.msl 8 1 0<|((F c.ce:E)+1).toNat],oC [.msl 9 1 0<|((F c.ce:E)+1).toNat],V,oC [.i l.1],Z<|.iter<|(By<|M pos (l.2).toNat 0).map Bn,oI o4,oI<|y.set (0+(l.1).toNat)<|-1]
def oe(c:AE)(q:AA)(pos:Ξ)(ln:U)(h:Ξ)(N:E)(o4 e:Ξ):DH:=[oW c q pos 1 ln,oI h,oC [.ref 0 0],oC [.msl 8 1 0<|((F c.ce:E)+1).toNat],oC [.msl 9 1 0<|((F c.ce:E)+1).toNat],oC [.i N],oC [.i<|M c.ce N.toNat 0],V,oI o4,oI e]
def bK(c:AE)(q:AA)(pos:Ξ)(ln:U)(r:Ξ)(N:E)(o4 e:Ξ):St:=⟨AF 178 [],([oW c q pos 1 ln,oI r,oC [.ref 0 0],oC [.msl 8 1 0<|((F c.ce:E)+1).toNat],oC [.msl 9 1 0<|((F c.ce:E)+1).toNat],oC [.i N],oC [.i<|M c.ce N.toNat 0],V,oI o4,oI e]:DH)⟩
def zNf(c:AE)(q:AA)(pos:Ξ)(ln:U)(lost:Ξ)(l:Δ)(o4 Y:Ξ):DH:=[oW c q pos 1 ln,oI lost,oC [.ref 0 0],oC [.msl 8 1 0<|((F c.ce:E)+1).toNat],oC [.msl 9 1 0<|((F c.ce:E)+1).toNat],V,oC [.i l.1],V,oI o4,oI Y]
inductive O6 where
 |s0 (Ha:Ξ)
def vu(c:AE)(q:AA)(pos:Ξ)(ln:U)(lost:Ξ)(l:Δ)(o4:Ξ):O6->DH
 | .s0 Y=>[oW c q pos 1 ln,oI lost,oC [.ref 0 0],oC [.msl 8 1 0<|((F c.ce:E)+1).toNat],oC [.msl 9 1 0<|((F c.ce:E)+1).toNat],V,oC [.i l.1],V,oI o4,oI Y]
def cg(n:U)(c:AE)(q:AA)(pos:Ξ)(ln:U)(lost:Ξ)(l:Δ)(o4:Ξ)(i:E)(Y:Ξ):A O6:=C ((0<=i/\i<(F q.va:E))/\AI (l.1+1)/\(0<=(l.1+1)/\(l.1+1)<((((F c.ce:E)+1).toNat:U):E))/\0+(l.1+1).toNat<F Y) (L (H<|M q.va i.toNat 0<M Y (0+(l.1+1).toNat) 0) (C ((0<=l.1/\l.1<((((F c.ce:E)+1).toNat:U):E))/\0+(l.1).toNat<F Y) (Z<|.s0<|Y.set (0+(l.1).toNat)<|C (M q.va i.toNat 0>M Y (0+(l.1).toNat) 0) (M q.va i.toNat 0)<|M Y (0+(l.1).toNat) 0) V)<|Z<|.s0 Y) V
def vt(n:U)(c:AE)(q:AA)(pos:Ξ)(ln:U)(lost:Ξ)(l:Δ)(o4:Ξ)(i:E):O6->A O6
 | .s0 Y=>cg n c q pos ln lost l o4 i Y
def XG(n:U)(c:AE)(q:AA)(pos:Ξ)(ln:U)(lost:Ξ)(l:Δ)(o4:Ξ)(i:E)(s:O6):A O6:=vt n c q pos ln lost l o4 i s
def zHs(n:U)(c:AE)(q:AA)(pos:Ξ)(ln:U)(lost:Ξ)(a:Δ)(o4:Ξ)(l ϙ:U)(N:Yd 8)(e:E)(s:O6)(r:O6)(h:XG n c q pos ln lost a o4 e s=Z r):TA l ϙ N (C3 8 [] 0<|vu c q pos ln lost a o4 r) Tryz.f139 103 ⟨AF 178 [(1,.ref 2 0),(5,.ref 4 0),(10,.ref 6 0),(103,.it 7),(104,.i e)],vu c q pos ln lost a o4 s⟩:=by
 cases s with
 |s0 Y=>
  replace h:cg n c q pos ln lost a o4 e Y=Z r:=h;unfold cg at h;refine ag Fs [0,1,2,3,4,5,6,7,8,9] H0 (AF 178 [(1,.ref 2 0),(5,.ref 4 0),(10,.ref 6 0),(12,.i e)]) (zNf c q pos ln lost a o4 Y) λN=>?_
  revert r;apply gO;exact gc<|gi<|gc<|gw 116<|gc<|gi<|gi<|bi 119 (jg zFx<|gc<|gn λo=>jg o<|gn λb=>jg b<|jg o<|jg b<|lF λp=>rr Fs [0,1,2,3,4,5,6,7,8,9] rfl p)<|lF λp=>rr Fs [0,1,2,3,4,5,6,7,8,9] rfl p
inductive NV where
 |s0 (IL:Ξ)
def v7(c:AE)(N:E)(q:AA)(pos:Ξ)(ln:U)(o4 e:Ξ):NV->DH
 | .s0 h=>[oW c q pos 1 ln,oI h,oC [.ref 0 0],oC [.msl 8 1 0<|((F c.ce:E)+1).toNat],oC [.msl 9 1 0<|((F c.ce:E)+1).toNat],oC [.i N],oC [.i<|M c.ce N.toNat 0],V,oI o4,oI e]
def cq(n:U)(c:AE)(N:E)(q:AA)(pos:Ξ)(ln:U)(o4 e:Ξ)(K:E)(h:Ξ):A NV:=C ((0<=K/\K<(F q.va:E))/\(0<=N/\N<((((F c.ce:E)+1).toNat:U):E))/\0+N.toNat<F o4) (L (H<|M q.va K.toNat 0<=M o4 (0+N.toNat) 0) (C (0<=K/\K<=(IntKind.i64.bits:E)) ((El n (M c.ce N.toNat 0) (IntKind.i64.wrap<|1*2^(K).toNat) c q pos ln h).bind λr=>Z<|.s0 r) V)<|C (AI (N+1)/\(0<=(N+1)/\(N+1)<((((F c.ce:E)+1).toNat:U):E))/\0+(N+1).toNat<F e) (L (H<|M q.va K.toNat 0>=M e (0+(N+1).toNat) 0) (C (0<=K/\K<=(IntKind.i64.bits:E)) ((El n (M c.ce N.toNat 0) (IntKind.i64.wrap<|1*2^(K).toNat) c q pos ln h).bind λr=>Z<|.s0 r) V)<|Z<|.s0 h) V) V
def v6(n:U)(c:AE)(N:E)(q:AA)(pos:Ξ)(ln:U)(o4 e:Ξ)(K:E):NV->A NV
 | .s0 h=>cq n c N q pos ln o4 e K h
def cr(n:U)(c:AE)(N:E)(q:AA)(pos:Ξ)(ln:U)(o4 e:Ξ)(K:E)(s:NV):A NV:=v6 n c N q pos ln o4 e K s
def zHu(n:U)(c:AE)(a:E)(q:AA)(pos:Ξ)(ln:U)(o4 e:Ξ)(l ϙ:U)(N:Yd 8)(K:E)(s:NV)(r:NV)(h:cr n c a q pos ln o4 e K s=Z r):TA l ϙ N (C3 8 [] 0<|v7 c a q pos ln o4 e r) Tryz.f139 147 ⟨AF 178 [(1,.ref 2 0),(4,.ref 3 0),(5,.ref 4 0),(14,.ref 5 0),(15,.ref 6 0),(133,.ints c.ce),(134,.i (F c.ce:E)),(135,.i a),(147,.it 7),(148,.i K)],v7 c a q pos ln o4 e s⟩:=by
 cases s with
 |s0 f=>
  replace h:cq n c a q pos ln o4 e K f=Z r:=h;unfold cq at h;refine ag Fs [0,1,2,3,4,5,6,7,8,9] H0 (AF 178 [(1,.ref 2 0),(4,.ref 3 0),(5,.ref 4 0),(14,.ref 5 0),(15,.ref 6 0),(16,.i K)]) (oe c q pos ln f a o4 e) λN=>?_
  revert r;apply gO;exact gc<|gi<|gc<|gi<|gi<|bi 162 (jg vD<|gi<|ce H2 [0,1] (oe c q pos ln f a o4 e) λb=>jg (φ<|bK c q pos ln b a o4 e)<|lF λp=>rr (tg:=[([],bK c q pos ln b a o4 e)]) Fs [0,1,2,3,4,5,6,7,8,9] rfl p)<|gc<|gw 167<|gc<|gi<|gi<|bi 170 (jg vD<|gi<|ce H2 [0,1] (oe c q pos ln f a o4 e) λb=>jg (φ<|bK c q pos ln b a o4 e)<|lF λp=>rr (tg:=[([],bK c q pos ln b a o4 e)]) Fs [0,1,2,3,4,5,6,7,8,9] rfl p)<|lF λp=>rr Fs [0,1,2,3,4,5,6,7,8,9] rfl p
inductive O7 where
 |s0 (Gy:Ξ)
def vv(c:AE)(q:AA)(pos:Ξ)(ln:U)(lost o4:Ξ):O7->DH
 | .s0 y=>[oW c q pos 1 ln,oI lost,oC [.ref 0 0],oC [.msl 6 1 0<|((F c.ce:E)+1).toNat],oC [.msl 7 1 0<|((F c.ce:E)+1).toNat],V,oI o4,oI y]
def cd(n:U)(c:AE)(q:AA)(pos:Ξ)(ln:U)(lost o4:Ξ)(l:Δ)(y:Ξ):A O7:=
 if(0<=l.1/\l.1<((((F c.ce:E)+1).toNat:U):E))/\0+(l.1).toNat<F y/\(0<=l.2/\l.2<(F pos:E))/\(0<=M pos (l.2).toNat 0/\M pos (l.2).toNat 0<9223372036854775808)then
  (CC (XG n c q pos ln lost l o4) (By<|M pos (l.2).toNat 0)<|.s0<|y.set (0+(l.1).toNat)<|-1).bind λx=>
   match x with
   | .s0 a=>
    Z (.s0 a)
 else V
def vr(n:U)(c:AE)(q:AA)(pos:Ξ)(ln:U)(lost o4:Ξ)(l:Δ):O7->A O7
 | .s0 y=>cd n c q pos ln lost o4 l y
def XH(n:U)(c:AE)(q:AA)(pos:Ξ)(ln:U)(lost o4:Ξ)(l:Δ)(s:O7):A O7:=vr n c q pos ln lost o4 l s
def zHr(n:U)(c:AE)(q:AA)(pos:Ξ)(ln:U)(lost o4:Ξ)(l ϙ:U)(N:Yd 6)(a:Δ)(s:O7)(r:O7)(h:XH n c q pos ln lost o4 a s=Z r):TA l ϙ N (C3 6 [] 0<|vv c q pos ln lost o4 r) Tryz.f139 90 ⟨AF 178 [(1,.ref 2 0),(4,.ref 3 0),(5,.ref 4 0),(90,.it 5),(91,.i a.1),(92,.i a.2)],vv c q pos ln lost o4 s⟩:=by
 cases s with
 |s0 y=>
  replace h:cd n c q pos ln lost o4 a y=Z r:=h;unfold cd at h;refine ag Fs [0,1,2,3,4,5,6,7,8] H0.t (AF 178 [(1,.ref 2 0),(5,.ref 4 0),(10,.ref 8 0),(11,.i a.2)]) (zNX c q pos ln lost o4 y a) λN=>?_
  revert r;apply gO
  exact gc<|gi<|gc<|gi<|gc<|gi<|gn λb=>jc (NJ b<|zNh c q pos ln lost o4 y a) (cn λx z=>λp r h=>by
   refine gs Fs [0,1,2,3,4,5,8,9,6,7] p (Ho (RD Tryz.f139 90) 103 []) (AF 178 [(1,.ref 2 0),(5,.ref 4 0),(10,.ref 6 0),(103,.it 7)]) (zNg c q pos ln lost a o4 y) ?_;refine r0 7 103 #[104] Bn 8 z (zHs n c q pos ln lost a o4) ?_;cases x with
   |s0 zCE=>
    dsimp only at h
    revert r;apply gO;exact lF λp=>rr Fs [0,1,2,3,4,5,8,9] rfl p)
inductive O8 where
 |s0 (HZ:Ξ)
def vz(c:AE)(k:E)(q:AA)(pos:Ξ)(ln:U)(lost:Ξ):O8->DH
 | .s0 X=>[oW c q pos 1 ln,oI lost,oC [.ref 0 0],oC [.msl 7 1 0<|((F c.ce:E)+1).toNat],oC [.msl 8 1 0<|((F c.ce:E)+1).toNat],oC [.i k],V,oI X,oI<|(d ((F c.ce:E)+1).toNat (0:E)).set (0+F c.ce) 100]
def cm(n:U)(c:AE)(k:E)(q:AA)(pos:Ξ)(ln:U)(lost:Ξ)(j:E)(X:Ξ):A O8:=C ((0<=j/\j<(F q.va:E))/\(0<=k/\k<((((F c.ce:E)+1).toNat:U):E))/\0+k.toNat<F X) (L (H<|M q.va j.toNat 0>M X (0+k.toNat) 0) (C (AI (k+1)/\(0<=(k+1)/\(k+1)<((((F c.ce:E)+1).toNat:U):E))/\0+(k+1).toNat<F X) (Z<|.s0<|X.set (0+(k+1).toNat)<|C (M q.va j.toNat 0<M X (0+(k+1).toNat) 0) (M q.va j.toNat 0)<|M X (0+(k+1).toNat) 0) V)<|Z<|.s0 X) V
def vw(n:U)(c:AE)(k:E)(q:AA)(pos:Ξ)(ln:U)(lost:Ξ)(j:E):O8->A O8
 | .s0 X=>cm n c k q pos ln lost j X
def XI(n:U)(c:AE)(k:E)(q:AA)(pos:Ξ)(ln:U)(lost:Ξ)(j:E)(s:O8):A O8:=vw n c k q pos ln lost j s
def zHt(n:U)(c:AE)(k:E)(q:AA)(pos:Ξ)(ln:U)(lost:Ξ)(l ϙ:U)(N:Yd 7)(j:E)(s:O8)(r:O8)(h:XI n c k q pos ln lost j s=Z r):TA l ϙ N (C3 7 [] 0<|vz c k q pos ln lost r) Tryz.f139 57 ⟨AF 178 [(1,.ref 2 0),(4,.ref 3 0),(5,.ref 4 0),(6,.ref 5 0),(39,.ints c.ce),(40,.i (F c.ce:E)),(41,.i k),(57,.it 6),(58,.i j)],vz c k q pos ln lost s⟩:=by
 cases s with
 |s0 X=>
  replace h:cm n c k q pos ln lost j X=Z r:=h;unfold cm at h;refine ag Fs [0,1,2,3,4,5,6,7,8] H0 (AF 178 [(1,.ref 2 0),(4,.ref 3 0),(6,.ref 5 0),(8,.i j)]) (zNY c q pos ln lost k X) λN=>?_
  revert r;apply gO;exact gc<|gi<|gc<|gi<|gi<|bi 72 (jg zFz<|gc<|gn λa=>jw 75 a<|jw 78 a<|gc<|gn λb=>jg b<|gn λt=>jg t<|jg b<|jg t<|lF λp=>rr Fs [0,1,2,3,4,5,6,7,8] rfl p)<|lF λp=>rr Fs [0,1,2,3,4,5,6,7,8] rfl p
inductive XJ where
 |l1 (Br:E) (o4:Ξ)
 |l2 (Bc:E) (o1 o4 o6:Ξ)
def XF(n:U)(self:XJ->W5)(c:AE)(q:AA)(pos:Ξ)(ln:U)(lost:Ξ)(k:E)(o4:Ξ):W5:=
 bif(H<|k<(F c.ce:E))then
  if(0<=k/\k<(F c.ce:E))/\AI (k+1)/\(0<=(k+1)/\(k+1)<((((F c.ce:E)+1).toNat:U):E))/\0+(k+1).toNat<F o4/\(0<=M c.ce k.toNat 0/\M c.ce k.toNat 0<(F pos:E))/\(0<=M pos (M c.ce k.toNat 0).toNat 0/\M pos (M c.ce k.toNat 0).toNat 0<9223372036854775808)then
   (CC (XI n c k q pos ln lost) (By<|M pos (M c.ce k.toNat 0).toNat 0)<|.s0<|o4.set (0+(k+1).toNat) 100).bind λf=>
    match f with
    | .s0 I=>
     if AI (k+1)then
      self (.l1 (k+1) I)
     else V
  else V
 else
  (back n c.ce).bind λf=>
   (CC (XH n c q pos ln lost o4) f<|.s0<|(d ((F c.ce:E)+1).toNat (0:E)).set (0+F c.ce) 100).bind λG=>
    match G with
    | .s0 Fd=>
     self (.l2 0 lost o4 Fd)
def cc(n:U)(self:XJ->W5)(c:AE)(q:AA)(pos:Ξ)(ln:U)(lost:Ξ)(N:E)(o1 o4 e:Ξ):W5:=
 bif(H<|N<(F c.ce:E))then
  if(0<=N/\N<(F c.ce:E))/\(0<=M c.ce N.toNat 0/\M c.ce N.toNat 0<(F pos:E))/\(0<=M pos (M c.ce N.toNat 0).toNat 0/\M pos (M c.ce N.toNat 0).toNat 0<9223372036854775808)then
   (CC (cr n c N q pos ln o4 e) (By<|M pos (M c.ce N.toNat 0).toNat 0)<|.s0 o1).bind λf=>
    match f with
    | .s0 I=>
     if AI (N+1)then
      self (.l2 (N+1) I o4 e)
     else V
  else V
 else
  Z (T,o1)
def vq(n:U)(self:XJ->W5)(c:AE)(q:AA)(pos:Ξ)(ln:U)(lost:Ξ):W5:=C (AI ((F c.ce:E)+1)/\(((F c.ce:E)+1:E)=((F c.ce:E)+1)/\(0:E)<=((F c.ce:E)+1)/\((F c.ce:E)+1:E)<=1000000000000)/\((0:E)<=0/\0<((((F c.ce:E)+1).toNat:U):E))/\0+0<F (d ((F c.ce:E)+1).toNat (0:E))/\(0<=(F c.ce:E)/\(F c.ce:E)<((((F c.ce:E)+1).toNat:U):E))/\0+F c.ce<F (d ((F c.ce:E)+1).toNat (0:E))) (self<|.l1 0<|(d ((F c.ce:E)+1).toNat (0:E)).set (0+0)<|-1) V
def KA(c:AE)(q:AA)(pos:Ξ)(ln:U)(lost:Ξ):U->XJ->W5
 |0,_=>V
 |n+1,.l1 k o4=>XF n (KA c q pos ln lost n) c q pos ln lost k o4
 |n+1,.l2 N o1 o4 e=>cc n (KA c q pos ln lost n) c q pos ln lost N o1 o4 e
def O9(n:U)(c:AE)(q:AA)(pos:Ξ)(ln:U)(lost:Ξ):W5:=vq n (KA c q pos ln lost n) c q pos ln lost
def zHv(n ϙ:U)(N:Yd 2)(c:AE)(q:AA)(pos:Ξ)(ln:U)(lost:Ξ)(r:ζ×Ξ):XJ->Prop:=px n ϙ η N (FQ Tryz.f139 2 (.bool r.1) [oW c q pos 1 ln,oI r.2]) (AZ Tryz.f139) λ
 | .l1 k o4=>(0,0,AF 178 [(1,.ref 2 0),(4,.ref 3 0),(5,.ref 5 0),(39,.ints c.ce),(40,.i (F c.ce:E)),(41,.i k)],[oW c q pos 1 ln,oI lost,oC [.ref 0 0],oC [.msl 4 1 0<|((F c.ce:E)+1).toNat],oI o4,oC [.msl 6 1 0<|((F c.ce:E)+1).toNat],oI<|(d ((F c.ce:E)+1).toNat (0:E)).set (0+F c.ce) 100])
 | .l2 a o1 o4 e=>(0,8,AF 178 [(1,.ref 2 0),(4,.ref 3 0),(5,.ref 5 0),(133,.ints c.ce),(134,.i (F c.ce:E)),(135,.i a)],[oW c q pos 1 ln,oI o1,oC [.ref 0 0],oC [.msl 4 1 0<|((F c.ce:E)+1).toNat],oI o4,oC [.msl 6 1 0<|((F c.ce:E)+1).toNat],oI e])
def zHw(ϙ:U)(N:Yd 2)(c:AE)(q:AA)(pos:Ξ)(ln:U)(lost:Ξ):Al (KA c q pos ln lost) (zHv · ϙ N c q pos ln lost):=ia (λ_=>rfl) λn I G r h=>by
 cases G
 case l1 Br o4=>
  intro a b;refine rd b λa b=>?_
  revert r;apply gO
  exact bi 42 (gc (gi (jt (gc (gw 48 (gc (gi (gc (gi (gc (gi (gn λt=>jc (NJ t<|zNe c q pos ln lost o4 Br) (cn λf P=>λp r h=>by
   refine gs Fs [0,1,2,3,5,7,8,4,6] p (Ho (AZ Tryz.f139) 57 [a]) (AF 178 [(1,.ref 2 0),(4,.ref 3 0),(5,.ref 4 0),(6,.ref 5 0),(39,.ints c.ce),(40,.i (F c.ce:E)),(41,.i Br),(57,.it 6)]) (zNd c q pos ln lost Br o4) ?_;refine r0 6 57 #[58] Bn 7 P (zHt n c Br q pos ln lost) ?_;cases f with
   |s0 e=>
    dsimp only at h
    revert r;apply gO;exact gw 84 (lG Fs [0,1,2,3,7,4,8] (I _ _ · a b))))))))))))))) (cn λf P=>jc (zSO P<|zNc c q pos ln lost o4) (cn λg x=>λp r h=>by
   refine gs Fs [0,1,2,3,5,7,4,6] p (Ho (AZ Tryz.f139) 90 []) (AF 178 [(1,.ref 2 0),(4,.ref 3 0),(5,.ref 4 0),(90,.it 5)]) (zNb c q pos ln lost f o4) ?_;refine r0 5 90 #[91,92] Sa 6 x (zHr n c q pos ln lost o4) ?_;cases g with
   |s0 Fd=>
    dsimp only at h
    revert r;apply gO;exact lN Fs [0,1,2,3,6,4,7] (I _ _ · n χ)))
 case l2 Bc o1 o4 o6=>
  intro a b;refine rd b λa b=>?_
  revert r;apply gO
  exact bi 136 (gc (gi (jt (jt (jg zFw (gc (gi (gn λu=>jc (NJ u<|zNa c q pos ln o1 o4 o6 Bc) (cn λf P=>λp r h=>by
   refine gs Fs [0,1,2,3,5,7,8,9,4,6] p (Ho (AZ Tryz.f139) 147 [a]) (AF 178 [(1,.ref 2 0),(4,.ref 3 0),(5,.ref 4 0),(14,.ref 5 0),(15,.ref 6 0),(133,.ints c.ce),(134,.i (F c.ce:E)),(135,.i Bc),(147,.it 7)]) (zNZ c q pos ln o1 Bc o4 o6) ?_;refine r0 7 147 #[148] Bn 8 P (zHu n c Bc q pos ln o4 o6) ?_;cases f with
   |s0 e=>
    dsimp only at h
    revert r;apply gO;exact gw 177 (lG Fs [0,1,2,3,8,4,9] (I _ _ · a b)))))))))))<|lE Fs [2] [0,1]
def zHq{n:U}{c:AE}{q:AA}{pos:Ξ}{ln:U}{lost:Ξ}{r:ζ×Ξ}(h:O9 n c q pos ln lost=Z r):EQ 139 [.ref 0 0] [oW c q pos 1 ln,oI lost] (.bool r.1) [oW c q pos 1 ln,oI r.2] D:=by
 refine ot Tryz.func139 λϙ N=>?_
 revert r;apply gO;exact jg zFy (gc (gn λx=>jw 25 x (jw 28 x (gc (gn λp=>jg p (jg p (jt (jt (jg (φ<|Dl c q pos ln lost) (jt (jt (jg (φ<|Dl c q pos ln lost) (jg p (jt (jt (jg (φ<|Dl c q pos ln lost) (jg p (jt (jt (jg (φ<|Dl c q pos ln lost) (jt (jg p (jt (jg (φ<|Dl c q pos ln lost) (jg p (jt (jt (jg (φ<|Dl c q pos ln lost) (jg p (jt (jt (jg (φ<|Dl c q pos ln lost) (jt (jg p (jt (jg (φ<|Dl c q pos ln lost) (jg p (jg p (jt (jt (jg (φ<|Dl c q pos ln lost) (jt (jt (jg (φ<|Dl c q pos ln lost) (jg p (jt (jt (jg (φ<|Dl c q pos ln lost) (jg p (jt (jt (jg (φ<|Dl c q pos ln lost) (jg p (jt (jt (jg (φ<|Dl c q pos ln lost) (jg p (jt (jt (jg (φ<|Dl c q pos ln lost) (jg p (jg p (jt (jt (jg (φ<|Dl c q pos ln lost) (jg p (jt (jt (jg (φ<|Dl c q pos ln lost) (jt (jg p (jt (jg (φ<|Dl c q pos ln lost) (jg p (jg p (jt (jt (jg (φ<|Dl c q pos ln lost) (jg p (jt (jt (jg (φ<|Dl c q pos ln lost) (jg p (jg p (jt (jt (jg (φ<|Dl c q pos ln lost) (jt (jg p (jt (jg (φ<|Dl c q pos ln lost) (jg p (jg p (jt (jt (jg (φ<|Dl c q pos ln lost) (jg p (jg p (jt (jt (jg (φ<|Dl c q pos ln lost) (jg p (jt (jt (jg (φ<|Dl c q pos ln lost) (jt (jg p (jt (jg (φ<|Dl c q pos ln lost) (jg p (jg p (jt (jt (jg (φ<|Dl c q pos ln lost) (jg p (jt (jt (jg (φ<|Dl c q pos ln lost) (jg p (jg p (jt (jt (jg (φ<|Dl c q pos ln lost) (jt (jg p (jt (jg (φ<|Dl c q pos ln lost) (jg p (jg p (jt (jt (jg (φ<|Dl c q pos ln lost) (jg zFv (gc (gi (gc (gi (gc (gi (gi (jg (φ<|tC c q pos ln lost) (lN (tg:=[([],Dl c q pos ln lost),([(4,3)],tC c q pos ln lost)]) Fs [0,1,2,5,3,6,4] ((zHw ϙ N c q pos ln lost n) _ _ · n χ)))))))))))))))))))))))))))))))))))))))))))))))))))))))))))))))))))))))))))))))))))))))))))))))))))))))))))))))))))))))))))))))))))))))))))))))
end
section
variable{a:E}{i:U}{l:Ξ}
theorem SV(h:i<F l):M (l.set i a) i 0=a:=by
 grind
theorem getD_set_ne{j:U}(h:i≠j):M (l.set i a) j 0=M l j 0:=by
 grind
def Lz(q:AA)(b a e:E):E:=C (M q.va e.toNat 0>b) (C (M q.va e.toNat 0<a) (M q.va e.toNat 0) a) a
def Li(q:AA)(b a e:E):E:=C (M q.va e.toNat 0<b) (C (M q.va e.toNat 0>a) (M q.va e.toNat 0) a) a
def Hn(q:AA)(c:AE)(pos:Ξ):U->E
 |0=>-1
 |i+1=>(By<|Ag c pos i).foldl (Lz q<|Hn q c pos i) 100
def I9(q:AA)(c:AE)(pos:Ξ):U->E
 |0=>100
 |m+1=>(By<|Ag c pos<|F c.ce-1-m).foldl (Li q<|I9 q c pos m)<|-1
def Lq(q:AA)(c:AE)(pos:Ξ)(i:U):E:=I9 q c pos<|F c.ce-i
def JP(q:AA)(c:AE)(pos:Ξ)(a s:U):ζ:=H (M q.va s 0<=Hn q c pos a)||H (M q.va s 0>=Lq q c pos (a+1))
def Vo(l:Ξ):U->O Δ
 |0=>[]
 |m+1=>((m:E),M l m 0)::Vo l m
theorem zCB :∀(m n:U),m<=F l->F l<=LB->m+1<=n->QU l n (.l1<|(m:E)-1)=Z (Vo l m)
 |0,n,_,_,s=>by
  obtain⟨n,rfl⟩:∃k,n=k+1:=⟨n-1,Z2⟩
  simp_all[Vm,QU,Vo]
 |m+1,n,hm,a,s=>by
  obtain⟨n,rfl⟩:∃k,n=k+1:=⟨n-1,Z2⟩;have e:((m+1:U):E)-1=(m:E):=Z2
  have hb:LB<=9223372036854775807:=Z6
  rw[e]
  show Vm n (QU l n) l _=_
  unfold Vm;rw[zAA Z2,zAI,zAB ⟨Z2,Z2⟩,zAB<|Ae.2 ⟨Z2,Z2⟩,zCB m n Z2 a Z2,u8];rfl
def zSL{n:U}(m:F l<=LB)(s:F l+1<=n):back n l=Z (Vo l<|F l):=by
 have hb:LB<=9223372036854775807:=Z6
 unfold back rA;rw[zAB<|Ae.2 ⟨Z2,Z2⟩,zCB (F l) n (zAf _) m s]
section
variable{c:AE}{k:U}{pos lost:Ξ}{q:AA}
variable{o:Ξ}{n ln:U}
theorem vn{i:U}(p:F c.ce<=256)(hi:i<F c.ce)(x:F o=F c.ce+1):∀(l:Ξ) (a:E),(∀e∈l,0<=e/\e<((F q.va:U):E))->
 CC (XI n c (i:E) q pos ln lost) l (.s0<|o.set (i+1) a)=Z (.s0<|o.set (i+1)<|l.foldl (Lz q<|M o i 0) a)
 |[],_,_=>rfl
 |e::l,a,h=>by
  have G:((((F c.ce:U):E)+1).toNat:U)=F c.ce+1:=Z2
  have f:(((i:E)+1).toNat:U)=i+1:=Z2
  have y:XI n c (i:E) q pos ln lost e (.s0<|o.set (i+1) a)=Z (.s0<|o.set (i+1)<|Lz q (M o i 0) a e):=by
   unfold XI vw cm
   dsimp only
   simp only[u8,G,f,zCx,zIG,x];rw[zAB ⟨h e<|.head _,Z2,Z2⟩,getD_set_ne Z2,SV Z2,List.set_set];unfold Lz
   by_cases b:M q.va e.toNat 0>M o i 0
   ·rw[zAA b,zAI,zAB ⟨Ae.2 ⟨Z2,Z2⟩,Z2,Z2⟩,zAB b]
   grind
  simp only[CC];rw[y,zAD,vn p hi x l _ λe g=>h e<|.tail _ g];rfl
variable{o4:Ξ}{x:E}
theorem vo{i:U}(p:F c.ce<=256)(hi:i<F c.ce)(b:F o=F c.ce+1):∀(l:Ξ) (a:E),(∀e∈l,0<=e/\e<((F q.va:U):E))->
 CC (XG n c q pos ln lost ((i:E),x) o4) l (.s0<|o.set i a)=Z (.s0<|o.set i<|l.foldl (Li q<|M o (i+1) 0) a)
 |[],_,_=>rfl
 |e::l,a,h=>by
  have G:((((F c.ce:U):E)+1).toNat:U)=F c.ce+1:=Z2
  have f:(((i:E)+1).toNat:U)=i+1:=Z2
  have y:XG n c q pos ln lost ((i:E),x) o4 e (.s0<|o.set i a)=Z (.s0<|o.set i<|Li q (M o (i+1) 0) a e):=by
   unfold XG vt cg
   dsimp only
   simp only[u8,G,f,zCx,zIG,b];rw[zAB ⟨h e<|.head _,Ae.2 ⟨Z2,Z2⟩,Z2,Z2⟩,getD_set_ne Z2,SV Z2,List.set_set];unfold Li
   grind
  simp only[CC];rw[y,zAD,vo p hi b l _ λe g=>h e<|.tail _ g];rfl
theorem Sm.i63(hk:k<=16)(h:Sm k x):0<=x/\x<9223372036854775808:=by
 have h1:=PM (k:=k)<|zAO hk Z6
 grind[Sm]
theorem vp(W:CZ c k pos)(ο:Ep q k):∀(m:U) (o:Ξ),m<=F c.ce->F o=F c.ce+1->(∀j,m<=j->j<=F c.ce->M o j 0=Lq q c pos j)->
 ∃o',CC (XH n c q pos (F pos) lost o4) (Vo c.ce m) (.s0 o)=Z (.s0 o')/\F o'=F c.ce+1/\∀j,j<=F c.ce->M o' j 0=Lq q c pos j
 |0,o,_,x,h=>⟨o,rfl,x,λj g=>h j (zMK _) g⟩
 |m+1,o,b,x,h=>by
  have hc:=W.ce m Z2;have P:=W.at (a:=m) Z2;have p:=W.len;have G:((((F c.ce:U):E)+1).toNat:U)=F c.ce+1:=Z2
  have y:XH n c q pos (F pos) lost o4 ((m:E),M c.ce m 0) (.s0 o)=Z (.s0<|o.set m<|Lq q c pos m):=by
   unfold XH vr cd
   dsimp only
   simp only[u8,G,zCx];rw[zAB ⟨Z2,Z2,hc,P.i63 W.k⟩];refine(congrArg (λz=>Option.bind z _)<|vo p Z2 x (By<|Ag c pos m) (-1) λe f=>(ο.sym W.k P e f).1).trans ?_;rw[zAD]
   have K:Lq q c pos m=(By<|Ag c pos m).foldl (Li q<|M o (m+1) 0) (-1):=by
    rw[h (m+1) (zAf _) b];unfold Lq;rw[show F c.ce-m=F c.ce-(m+1)+1 by omega]
    grind[I9]
   rw[K]
  obtain⟨o',i,l,r⟩:=vp W ο m (o.set m<|Lq q c pos m) Z2 (by rw[zIG];exact x) λj g Yp=>by
   grind
  refine⟨o',?_,l,r⟩;simp only[Vo,CC];rw[y,zAD,i]
theorem zHl{e:Ξ}(W:CZ c k pos)(ο:Ep q k)(R:F o4=F c.ce+1)(b:F e=F c.ce+1)(hb:∀j,j<=F c.ce->M o4 j 0=Hn q c pos j)(ha:∀j,j<=F c.ce->M e j 0=Lq q c pos j)(m:F lost=F pos)(hn:F c.ce+1<=n):
 ∃l,KA c q pos (F pos) lost n (.l2 0 lost o4 e)=Z (T,l)/\CU c pos lost (F c.ce) (λa s=>JP q c pos a s=T) l:=by
 have X:∀i,i<F c.ce->((i:U):E)<((F c.ce:U):E):=λi hi=>Z2
 have G:((((F c.ce:U):E)+1).toNat:U)=F c.ce+1:=Z2
 have Aj:=W.len
 have ϒ:=Jb (λn (s:Ξ) i=>KA c q pos (F pos) lost n<|.l2 i s o4 e) (F c.ce) 1
  (λi s=>CU c pos lost i (λa s=>JP q c pos a s=T) s) (λn i s G9 hi Y=>?_) (n:=n) (s:=lost) Z2 (CU.zero m)
 ·obtain⟨J,l,LN,_,K,hL⟩:=ϒ;obtain⟨w,rfl⟩:∃w,J=w+1:=⟨J-1,Z2⟩
  simp_all[cc,KA]
 ·have hc:=W.ce i hi;have hr:=W.r64 hi;have P:=W.at hi;have f:(((i:E)+1).toNat:U)=i+1:=Z2
  obtain⟨l',y,g,h⟩:=yV (n:=n) (q:=q) W hi Y.1 NV.s0 (cr n c (i:E) q pos (F pos) o4 e) (JP q c pos i) λs l hs m=>by
   have G7:=ο.len;have g1:(0:E)<=(s:E)/\(s:E)<((F q.va:U):E):=Z2
   have hk:=W.k;have g2:(0:E)<=(s:E)/\(s:E)<=((IntKind.i64.bits:U):E):=⟨Z2,by show(s:E)<=64;omega⟩;obtain⟨l2,K,_,_⟩:=Nn (lost:=l) (n:=n) (ss:=IntKind.i64.wrap<|1*2^s) (c:=c) (q:=q) hc.1 hc.2 m;unfold JP cr v6 cq
   dsimp only
   simp only[u8,G,f,zCx,R,b]
   grind
  show∃s',cc n (KA c q pos (F pos) lost n) c q pos (F pos) lost (i:E) s o4 e=_/\_
  unfold cc;rw[zAA<|X i hi,zAI];simp only[u8];rw[zAB ⟨⟨Z2,X i hi⟩,hc,P.i63 W.k⟩];refine⟨l',?_,Y.step g h⟩;refine(congrArg (λz=>Option.bind z _) y).trans ?_
  grind
theorem zHm(W:CZ c k pos)(ο:Ep q k)(m:F lost=F pos)(hn:2*F c.ce+3<=n):
 ∃l,O9 n c q pos (F pos) lost=Z (T,l)/\CU c pos lost (F c.ce) (λa s=>JP q c pos a s=T) l:=by
 have X:∀i,i<F c.ce->((i:U):E)<((F c.ce:U):E):=λi hi=>Z2
 have G:((((F c.ce:U):E)+1).toNat:U)=F c.ce+1:=Z2
 have p:=W.len
 have S:=Jb (λn (s:Ξ) i=>KA c q pos (F pos) lost n<|.l1 i s) (F c.ce) (F c.ce+3)
  (λi s=>F s=F c.ce+1/\∀j,j<=i->M s j 0=Hn q c pos j) (λn i s _ hi Y=>?_) (n:=n) (s:=(d (F c.ce+1) (0:E)).set 0<|-1) Z2 ⟨Z3,λj g=>?_⟩
 ·obtain⟨f,o4,IW,_,y,R,b⟩:=S;obtain⟨r,rfl⟩:∃r,f=r+1:=⟨f-1,Z2⟩
  have e0:O9 n c q pos (F pos) lost=KA c q pos (F pos) lost n (.l1 0<|(d (F c.ce+1) (0:E)).set 0<|-1):=by
   unfold O9 vq;simp only[G,zCx,zKR];rw[zAB ⟨Ae.2 ⟨Z2,Z2⟩,⟨trivial,Z2,Z2⟩,⟨Z2,Z2⟩,Z2,⟨Z2,Z2⟩,Z2⟩]
  have K:O9 n c q pos (F pos) lost=XF r (KA c q pos (F pos) lost r) c q pos (F pos) lost (F c.ce:E) o4:=e0.trans y;unfold XF at K;rw[zAF Z2,zAJ,zSL (zAO p Z6) Z2,zAD]at K;simp only[G,zCx]at K
  obtain⟨o6,N,o,t⟩:=vp (lost:=lost) (n:=r) (o4:=o4) W ο (F c.ce) ((d (F c.ce+1) (0:E)).set (F c.ce) 100) (zAf _) Z3 λj g Yp=>by
   obtain rfl:j=F c.ce:=Z2
   rw[SV Z3];unfold Lq;rw[Nat.sub_self];rfl
  rw[N,zAD]at K;obtain⟨l,u,J⟩:=zHl (n:=r) W ο R o (λj g=>b j g) t m Z2;exact⟨l,K.trans u,J⟩
 ·obtain⟨R,b⟩:=Y;have hc:=W.ce i hi;have h:=W.r64 hi;have P:=W.at hi;have v:(((i:E)+1).toNat:U)=i+1:=Z2
  show∃s',XF n (KA c q pos (F pos) lost n) c q pos (F pos) lost (i:E) s=_/\_
  unfold XF;rw[zAA<|X i hi,zAI];simp only[u8,G,v,zCx];rw[zAB ⟨⟨Z2,X i hi⟩,h.2,Z2,Z2,hc,P.i63 W.k⟩];refine⟨s.set (i+1)<|Hn q c pos<|i+1,?_,by rw[zIG];exact R,λj g=>?_⟩
  ·refine(congrArg (λz=>Option.bind z _)<|vn p hi R (By<|Ag c pos i) 100 λe w=>(ο.sym W.k P e w).1).trans ?_;rw[zAD];simp only;rw[zAB h.2,b i<|zAf _];rfl
  grind
 ·obtain rfl:j=0:=Z2
  rw[SV Z3];rfl
end
end
section
variable{k:U}
theorem xE{G I:Type}(c:Ξ->E->E->G)(S:Ξ->E->E->I)(o:E->E->G->A G)(N:E->I->A I)(ok:U->U->ζ){a b:E}(P:Sm k a)(j:Sm k b)(hk:k<=16)
 (z:∀(s t:U) (l:Ξ) (x y:E),s<k->t<k->o s t (c l x y)=Z (L (ok s t) (c l (bits .or .i64 x<|IntKind.i64.wrap<|1*2^s)<|bits .or .i64 y<|IntKind.i64.wrap<|1*2^t)<|c l x y))
 (h2:∀(s:U) (l:Ξ) (x y x' v:E),s<k->CC (o s) (By b) (c l x y)=Z (c l x' v)->N s (S l x y)=Z (S l x' v)) (l:Ξ):
 ∃x y,CC N (By a) (S l 0 0)=Z (S l x y)/\(∀u,tb x u=T↔tb a u=T/\∃t,tb b t=T/\ok u t=T)/\(∀u,tb y u=T↔tb b u=T/\∃s,tb a s=T/\ok s u=T):=by
 have g:k<=62:=zAO hk Z6
 have J:∀(s:U) (x y:E),s<k->∃x' v,CC (o s) (By b) (c l x y)=Z (c l x' v)/\(∀u,tb x' u=T↔tb x u=T∨(u=s/\∃t,tb b t=T/\ok s t=T))/\(∀u,tb v u=T↔tb y u=T∨(tb b u=T/\ok s u=T)):=by
  intro s x y p
  have key:=iD (f:=o s) (λpre st=>∃x' v,st=c l x' v/\(∀u,tb x' u=T↔tb x u=T∨(u=s/\∃t:U,(t:E)∈pre/\ok s t=T))/\(∀u:U,tb v u=T↔tb y u=T∨((u:E)∈pre/\ok s u=T)))
   (By b) [] (c l x y) ⟨x,y,rfl,λu=>⟨.inl,λh=>h.elim id λ⟨_,t,h,_⟩=>by cases h⟩,λu=>⟨.inl,λh=>h.elim id λ⟨h,_⟩=>by cases h⟩⟩ ?_
  ·obtain⟨st,e,x',v,rfl,m,hy⟩:=key;refine⟨x',v,e,λu=>?_,λu=>?_⟩
   ·rw[m,zMX];constructor
    ·rintro(h|⟨q,t,h,i⟩)
     ·exact .inl h
     ·obtain⟨n,K,_,R⟩:=(Gf j g).1 h;have:t=n:=Z2
      grind
    ·rintro(h|⟨q,t,h,i⟩)
     ·exact .inl h
     ·exact .inr ⟨q,t,(Gf j g).2 ⟨t,rfl,zDL λX=>(by rw[j.hi X]at h;cases h),h⟩,i⟩
   ·rw[hy,zMX];constructor
    ·rintro(h|⟨h,i⟩)
     ·exact .inl h
     ·obtain⟨n,K,_,R⟩:=(Gf j g).1 h;have:u=n:=Z2
      grind
    ·rintro(h|⟨h,i⟩)
     ·exact .inl h
     ·exact .inr ⟨(Gf j g).2 ⟨u,rfl,zDL λX=>(by rw[j.hi X]at h;cases h),h⟩,i⟩
  ·rintro pre e _ r ⟨x',v,rfl,m,hy⟩;obtain⟨t,rfl,Q,_⟩:=(Gf j g).1 r;rw[z s t l x' v p Q];cases ho:ok s t
   ·grind
   ·refine⟨_,rfl,_,_,rfl,λu=>?_,λu=>?_⟩
    ·rw[NH,zCz,m,JH Z2,zB0]
     grind
    ·rw[NH,zCz,hy,JH Z2,zB0]
     grind
 have key:=iD (f:=N) (λpre st=>∃x y,st=S l x y/\(∀u:U,tb x u=T↔(u:E)∈pre/\∃t,tb b t=T/\ok u t=T)/\(∀u,tb y u=T↔tb b u=T/\∃s:U,(s:E)∈pre/\ok s u=T))
  (By a) [] (S l 0 0) ⟨0,0,rfl,λu=>⟨λh=>τ h JI,λ⟨h,_⟩=>by cases h⟩,λu=>⟨λh=>τ h JI,λ⟨_,s,h,_⟩=>by cases h⟩⟩ ?_
 ·obtain⟨st,e,x,y,rfl,m,hy⟩:=key;refine⟨x,y,e,λu=>?_,λu=>?_⟩
  ·rw[m,zMX];constructor
   ·rintro⟨h,h2⟩;obtain⟨n,K,_,R⟩:=(Gf P g).1 h;have:u=n:=Z2
    grind
   ·rintro⟨h,h2⟩;exact⟨(Gf P g).2 ⟨u,rfl,zDL λX=>(by rw[P.hi X]at h;cases h),h⟩,h2⟩
  ·rw[hy,zMX];constructor
   ·rintro⟨h0,s,h,i⟩;obtain⟨n,K,_,R⟩:=(Gf P g).1 h;have:s=n:=Z2
    grind
   ·rintro⟨h0,s,h,i⟩;exact⟨h0,s,(Gf P g).2 ⟨s,rfl,zDL λX=>(by rw[P.hi X]at h;cases h),h⟩,i⟩
 ·rintro pre e _ r ⟨x,y,rfl,m,hy⟩;obtain⟨s,rfl,p,_⟩:=(Gf P g).1 r;obtain⟨x',v,q,W,w⟩:=J s x y p;refine⟨_,h2 s l x y x' v p q,x',v,rfl,λu=>?_,λu=>?_⟩
  ·rw[W,m];constructor
   ·grind
   ·rintro⟨h,h2⟩;rcases zMc.1 h with h|h
    ·exact .inl ⟨h,h2⟩
    ·have:u=s:=Z4
     grind
  ·rw[w,hy];constructor
   ·grind
   ·rintro⟨h,Y,h2,i⟩;rcases zMc.1 h2 with h2|h2
    ·grind
    ·have:Y=s:=Z4
     grind
end
theorem Vi{s:U}(l:s<64)(x:E):(bits .and .i64 (IntKind.i64.wrap<|1*2^s) x==0)= !tb x s:=by
 rw[zMq,zB1,Ok<|HK _ _ _];constructor
 ·intro h;have:=h s l;rw[Kl,JH l,zAA rfl,zOA]at this;rw[this];rfl
 grind[Kl,JH]
def IQ(q:AA)(c:AE)(s t:U):ζ:=H<|(C (0-(M q.va s 0-M q.va t 0)>M q.va s 0-M q.va t 0) (0-(M q.va s 0-M q.va t 0))<|M q.va s 0-M q.va t 0)>=c.lo
def Hy(c:AE)(s t:U):ζ:=(!tb c.set s|| !tb c.other t)&&(!tb c.set t|| !tb c.other s)
def Hx(ok:U->U->ζ)(c:AE)(pos:Ξ)(a s:U):Prop:=C (a=0) (¬∃t,tb (Ag c pos 1) t=T/\ok s t=T)<|¬∃t,tb (Ag c pos 0) t=T/\ok t s=T
section
variable{c:AE}{k:U}{pos lost:Ξ}{q:AA}
variable{s t n ln:U}
theorem zSh(ο:Ep q k)(l:s<k)(v:t<k):jV n s t c q pos ln lost=Z (IQ q c s t,lost):=by
 have h1:=ο.val s l;have h2:=ο.val t v;have h3:=ο.len;unfold jV zCW;simp only[u8];rw[zAB ⟨Z2,Z2,Ae.2 ⟨Z2,Z2⟩,Ae.2 ⟨Z2,Z2⟩⟩];rfl
theorem zJz(l:s<64)(v:t<64):eF n s t c q pos ln lost=Z (Hy c s t,lost):=by
 have g:∀s:U,s<64->(0:E)<=(s:E)/\(s:E)<=((IntKind.i64.bits:U):E):=λs l=>⟨Z2,by show(s:E)<=64;omega⟩
 unfold eF xf;simp only[u8];rw[zAB ⟨g s l,g t v⟩,Vi l,Vi l,Vi v,Vi v]
 grind[Hy]
theorem xF(W:CZ c k pos)(o:F c.ce=2)(m:F lost=F pos)(ok:U->U->ζ){x y:E}
 (hx:∀u,tb x u=T↔tb (Ag c pos 0) u=T/\∃t,tb (Ag c pos 1) t=T/\ok u t=T) (hy:∀u,tb y u=T↔tb (Ag c pos 1) u=T/\∃s,tb (Ag c pos 0) s=T/\ok s u=T):
 ∃g l,El n (M c.ce 0 0) (bits .xor .i64 (-1) x) c q pos (F pos) lost=Z g/\El n (M c.ce 1 0) (bits .xor .i64 (-1) y) c q pos (F pos) g=Z l/\CU c pos lost (F c.ce) (Hx ok c pos) l:=by
 have r:=W.ce 0 Z2;have e:=W.ce 1 Z2;obtain⟨g,p,f,v⟩:=Nn (lost:=lost) (n:=n) (ss:=bits .xor .i64 (-1) x) (c:=c) (q:=q) r.1 r.2 m;obtain⟨l,K,w,N⟩:=Nn (lost:=g) (n:=n) (ss:=bits .xor .i64 (-1) y) (c:=c) (q:=q) e.1 e.2 f;refine⟨g,l,p,K,?_⟩;have X:∀{a:U} {s:U},a<F c.ce->tb (Ag c pos a) s=T->s<64:=λ{a s} ha h=>zDL λz=>by rw[TX z]at h;cases h
 rw[o];refine CU.step (i:=1) (l:=g) (CU.step (i:=0) (l:=lost) (CU.zero m) f λj s=>?_) w λj s=>?_
 ·rw[v,zCz,zAK,zAK,zB0];constructor
  ·rintro(h|⟨rfl,b,R⟩)
   ·exact .inl h
   ·refine .inr ⟨rfl,b,?_⟩;rw[bM _<|X (a:=0) Z2 b]at R;unfold Hx
    grind[Ag]
  ·rintro(h|⟨rfl,b,R⟩)
   ·exact .inl h
   ·refine .inr ⟨rfl,b,?_⟩
    grind[bM,Hx]
 ·rw[N,zCz,zAK,zAK,zB0];constructor
  ·rintro(h|⟨rfl,b,R⟩)
   ·exact .inl h
   ·refine .inr ⟨rfl,b,?_⟩;rw[bM _<|X (a:=1) Z2 b]at R;unfold Hx
    grind[Ag]
  ·rintro(h|⟨rfl,b,R⟩)
   ·exact .inl h
   ·refine .inr ⟨rfl,b,?_⟩
    grind[bM,Hx]
theorem zSi(W:CZ c k pos)(ο:Ep q k)(i:F c.ce=2)(m:F lost=F pos):
 ∃l,Sy n c q pos (F pos) lost=Z (T,l)/\CU c pos lost (F c.ce) (Hx (IQ q c) c pos) l:=by
 have r:=W.ce 0 Z2;have j:=W.ce 1 Z2;have b:=W.at (a:=0) Z2;have f:=W.at (a:=1) Z2;have hk:=W.k;have g:∀s:U,s<k->(0:E)<=(s:E)/\(s:E)<=((IntKind.i64.bits:U):E):=λs h=>⟨Z2,by show(s:E)<=64;omega⟩
 obtain⟨x,y,e,o,hy⟩:=xE Nd.s0 Nf.s0 (di n c q pos<|F pos) (dj n c q pos<|F pos) (IQ q c) b f hk
  (λs t l x y h ht=>by
   grind[di,xN,dh,zSh])
  (λs l x y x' y' h he=>by
   unfold dj xM dg
   dsimp only
   rw[zAB<|show 0<=M pos (M c.ce 1 0).toNat 0/\M pos (M c.ce 1 0).toNat 0<9223372036854775808 from f.i63 hk]
   grind[Ag]) lost
 obtain⟨l1,l,e1,e2,J⟩:=xF (n:=n) (q:=q) W i m (IQ q c) o hy;refine⟨l,?_,J⟩;unfold Sy rR mY xL;rw[zAB ⟨Z2,Z2,r,j,b.i63 hk⟩];refine(congrArg (λz=>Option.bind (Option.bind z _) _) e).trans ?_
 grind
theorem zJ0(W:CZ c k pos)(i:F c.ce=2)(m:F lost=F pos):
 ∃l,RO n c q pos (F pos) lost=Z (T,l)/\CU c pos lost (F c.ce) (Hx (Hy c) c pos) l:=by
 have r:=W.ce 0 Z2;have j:=W.ce 1 Z2;have b:=W.at (a:=0) Z2;have f:=W.at (a:=1) Z2;have hk:=W.k;have g:∀s:U,s<k->(0:E)<=(s:E)/\(s:E)<=((IntKind.i64.bits:U):E):=λs h=>⟨Z2,by show(s:E)<=64;omega⟩
 obtain⟨x,y,e,o,hy⟩:=xE Nb.s0 Nc.s0 (de n c q pos<|F pos) (df n c q pos<|F pos) (Hy c) b f hk
  (λs t l x y h ht=>by
   grind[de,xI,dc,zJz])
  (λs l x y x' y' h he=>by
   unfold df xH db
   dsimp only
   rw[zAB<|show 0<=M pos (M c.ce 1 0).toNat 0/\M pos (M c.ce 1 0).toNat 0<9223372036854775808 from f.i63 hk]
   grind[Ag]) lost
 obtain⟨l1,l,e1,e2,J⟩:=xF (n:=n) (q:=q) W i m (Hy c) o hy;refine⟨l,?_,J⟩;unfold RO mx mX xG;rw[zAB ⟨Z2,Z2,r,j,b.i63 hk⟩];refine(congrArg (λz=>Option.bind (Option.bind z _) _) e).trans ?_
 grind
end
section
set_option maxRecDepth 100000
set_option maxHeartbeats 40000000
def tn:ST:=.rd 0<|.rd 1<|.rd 2<|.rd 3<|.rd 4<|.rd 6<|.rd 7<|.rd 8<|.rd 9<|.rd 10<|.ef 5 (.rd 12<|.ef 11 (.rd 13<|.fin [0,1] [0,2,3])<|.no)<|.ef 11 (.ef 5 (.rd 12<|.rd 13<|.fin [1,0] [0,2,3])<|.no)<|.no
def zGI:Bz (Am Tryz.f179 1) [5,11] tn:=Z1
def tm:ST:=.rd 0<|.rd 1<|.rd 2<|.rd 3<|.rd 4<|.rd 5<|.rd 6<|.rd 7<|.rd 8<|.rd 9<|.rd 10<|.rd 11<|.rd 12<|.rd 13<|.rd 14<|.rd 15<|.rd 16<|.rd 17<|.rd 18<|.rd 19<|.rd 20<|.rd 21<|.rd 22<|.rd 23<|.rd 24<|.rd 25<|.rd 26<|.rd 27<|.rd 28<|.rd 29<|.rd 30<|.rd 31<|.rd 32<|.ef 33 (.rd 34<|.ef 35 (.fin [] [0,2,3,30,31,32])<|.no)<|.no
def zGH:Bz (Am Tryz.f179 5) [33] tm:=Z1
def L8:BZ:=λi=>match i with
 |1=>.tre [5,11] tn
 |5=>.tre [33] tm
 |_=>.no
def kK(pos:Ξ)(c:AE)(q:AA)(ln:U)(lost:Ξ):St:=⟨AF 120 [(0,.ref 0 0),(2,.msl 2 1 0<|F pos),(3,.msl 3 1 0<|F pos)],([oW c q pos 1 ln,oI lost,Z<|.bools<|d (F pos) D,Z<|.bools<|d (F pos) D]:DH)⟩
def tF(pos:Ξ)(c:AE)(Y:E)(q:AA)(ln:U)(lost:Ξ)(Q w:Ω):St:=⟨AF 120 [(0,.ref 0 0),(2,.msl 2 1 0<|F pos),(3,.msl 3 1 0<|F pos),(30,.ints c.ce),(31,.i (F c.ce:E)),(32,.i Y)],([oW c q pos 1 ln,oI lost,Z<|.bools<|Q.set (0+(M c.ce Y.toNat 0).toNat)<|bits .and .i64 (M pos (M c.ce Y.toNat 0).toNat 0) c.set != 0,Z<|.bools<|w.set (0+(M c.ce Y.toNat 0).toNat)<|bits .andNot .i64 (M pos (M c.ce Y.toNat 0).toNat 0) c.set==0]:DH)⟩
def zl(c:AE)(q:AA)(pos:Ξ)(ln:U)(lost:Ξ)(Q w:Ω):DH:=[oW c q pos 1 ln,oI lost,Z<|.bools Q,Z<|.bools w]
def zk(c:AE)(q:AA)(pos:Ξ)(ln:U)(lost:Ξ)(w:Ω)(G:Ω):DH:=[oW c q pos 1 ln,oI lost,V,Z<|.bools w,Z<|.bools G]
inductive UW where
 |l1 (EO:E) (o2 o3:Ω)
 |l2 (Gs:Ω) (x8:U) (Jv:Ξ) (Od H8:E) (o2 o3:Ω)
 |l3 (Gs:Ω) (x8:U) (NF Ee:E) (o1:Ξ) (o2 o3:Ω)
def eJ(n:U)(self:UW->X6)(c:AE)(q:AA)(pos:Ξ)(ln:U)(lost:Ξ)(Y:E)(Q w:Ω):X6:=L (H<|Y<(F c.ce:E)) (C ((0<=Y/\Y<(F c.ce:E))/\(0<=M c.ce Y.toNat 0/\M c.ce Y.toNat 0<(F pos:E))/\0+(M c.ce Y.toNat 0).toNat<F Q/\0+(M c.ce Y.toNat 0).toNat<F w/\AI (Y+1)) (self<|.l1 (Y+1) (Q.set (0+(M c.ce Y.toNat 0).toNat)<|bits .and .i64 (M pos (M c.ce Y.toNat 0).toNat 0) c.set != 0)<|w.set (0+(M c.ce Y.toNat 0).toNat)<|bits .andNot .i64 (M pos (M c.ce Y.toNat 0).toNat 0) c.set==0) V)<|C (F pos=F w) ((fm n w T).bind λf=>L (H<|f<0) (C (F pos=F Q) (Z (Q,w,D,lost)) V)<|C (F pos=F Q) ((Sj n Q).bind λG=>(Vb n q.nb Q f).bind λy3=>self<|.l2 Q (F G) y3.1 (F y3.1:E) 0 w G) V) V
def Xr(n:U)(self:UW->X6)(c:AE)(q:AA)(pos:Ξ)(ln:U)(lost:Ξ)(a:Ω)(x8:U)(s:Ξ)(v k:E)(Q w:Ω):X6:=L (H<|k<v) (C ((0<=k/\k<(F s:E))/\(0<=M s k.toNat 0/\M s k.toNat 0<(x8:E))/\0+(M s k.toNat 0).toNat<F w/\AI (k+1)) (self<|.l2 a x8 s v (k+1) Q<|w.set (0+(M s k.toNat 0).toNat) D) V)<|self<|.l3 a x8 (x8:E) 0 lost Q w
def eH(n:U)(self:UW->X6)(c:AE)(q:AA)(pos:Ξ)(ln:U)(lost:Ξ)(a:Ω)(x8:U)(m P:E)(o1:Ξ)(Q w:Ω):X6:=L (H<|P<m) (C ((0<=P/\P<(x8:E))/\0+P.toNat<F w) (L (M w (0+P.toNat) D) ((El n P c.set c q pos ln o1).bind λf=>C (AI<|P+1) (self<|.l3 a x8 m (P+1) f Q w) V)<|C (AI<|P+1) (self<|.l3 a x8 m (P+1) o1 Q w) V) V)<|C (F pos=F Q) (Z (a,Q,T,o1)) V
def xl(n:U)(self:UW->X6)(c:AE)(q:AA)(pos:Ξ)(ln:U)(lost:Ξ):X6:=C (((F pos:E):E)=(F pos:E)/\0<=(F pos:E)/\((F pos:E):E)<=1000000000000) (self<|.l1 0 (d (F pos) D)<|d (F pos) D) V
def GN(c:AE)(q:AA)(pos:Ξ)(ln:U)(lost:Ξ):U->UW->X6
 |0,_=>V
 |n+1,.l1 Y Q w=>eJ n (GN c q pos ln lost n) c q pos ln lost Y Q w
 |n+1,.l2 a x8 s v k Q w=>Xr n (GN c q pos ln lost n) c q pos ln lost a x8 s v k Q w
 |n+1,.l3 a x8 m P o1 Q w=>eH n (GN c q pos ln lost n) c q pos ln lost a x8 m P o1 Q w
def RQ(n:U)(c:AE)(q:AA)(pos:Ξ)(ln:U)(lost:Ξ):X6:=xl n (GN c q pos ln lost n) c q pos ln lost
def zJ9(n ϙ:U)(N:Yd 2)(c:AE)(q:AA)(pos:Ξ)(ln:U)(lost:Ξ)(r:Ω×Ω×ζ×Ξ):UW->Prop:=px n ϙ η N (FQ Tryz.f179 2 (.tup 3<|L1 [.bools r.1,.bools r.2.1,.bool r.2.2.1]) [oW c q pos 1 ln,oI r.2.2.2]) (AZ Tryz.f179) λ
 | .l1 Y Q w=>(0,0,AF 120 [(0,.ref 0 0),(2,.msl 2 1 0<|F pos),(3,.msl 3 1 0<|F pos),(30,.ints c.ce),(31,.i (F c.ce:E)),(32,.i Y)],[oW c q pos 1 ln,oI lost,Z<|.bools Q,Z<|.bools w])
 | .l2 a x8 s v k Q w=>(0,2,AF 120 [(0,.ref 0 0),(2,.bools a),(3,.msl 2 1 0<|F pos),(8,.msl 3 1 0 x8),(90,.ints s),(91,.i v),(92,.i k)],[oW c q pos 1 ln,oI lost,Z<|.bools Q,Z<|.bools w])
 | .l3 a x8 m P o1 Q w=>(0,4,AF 120 [(0,.ref 0 0),(2,.bools a),(3,.msl 2 1 0<|F pos),(8,.msl 3 1 0 x8),(101,.i m),(102,.i P)],[oW c q pos 1 ln,oI o1,Z<|.bools Q,Z<|.bools w])
def zKA(ϙ:U)(N:Yd 2)(c:AE)(q:AA)(pos:Ξ)(ln:U)(lost:Ξ):Al (GN c q pos ln lost) (zJ9 · ϙ N c q pos ln lost):=ia (λ_=>rfl) λn I f r h=>by
 cases f
 case l1 EO o2 o3=>
  intro b a;refine rd a λb a=>?_
  revert r;apply gO
  exact bi 33 (gc (gi (jg zGH (gc (gn λe=>jg e (jg e (jg e (gc (gi (jg e (gc (gi (jg (φ<|tF pos c EO q ln lost o2 o3) (gw 70 (lG (tg:=[([(33,2)],tF pos c EO q ln lost o2 o3)]) L8 [0,1,2,3] (I _ _ · b a)))))))))))))))) (gn λx=>cn λj P=>jc (sb [.msl 3 1 0<|F pos,.bool T] (zMG P) (zl c q pos ln lost o2 o3) ⟨Ad.bools rfl x,Ad.plain Z5,trivial⟩) (bi 74 (gn λe=>lF λp=>ez L8 [2,3,4] [0,1,2,3] p [2,3] (H0.g e|>.g x)) (gn λe=>cn λG k=>jc (ES.snapNew (ds:=[.msl 2 1 0<|F pos]) (zBi k) (zl c q pos ln lost o2 o3) ⟨Ad.bools rfl e,trivial⟩ rfl) (λp r h=>by
   refine gz (AQ 11 L8) [0,1,2,3,4] p [2] (H0.g e) (CY (AZ Tryz.f179) 11 []) (AF 120 [(0,.ref 0 0),(2,.bools o2),(3,.msl 3 1 0<|F pos),(7,.i j),(8,.msl 4 1 0<|F G)]) (zk c q pos ln lost o3 G) ?_;revert r;apply gO;exact cf zRa (zk c q pos ln lost o3 G) λ_=>lN L8 [0,1,3,4] (I _ _ · n χ)))))
 case l2 Gs x8 Jv Od H8 o2 o3=>
  intro b a;refine rd a λb a=>?_
  revert r;apply gO;exact bi 93 (gc (gi (gc (gi (gc (gi (gw 99 (lG L8 [0,1,2,3] (I _ _ · b a))))))))) (lN L8 [0,1,2,3] (I _ _ · n χ))
 case l3 Gs x8 NF Ee o1 o2 o3=>
  intro b a;refine rd a λb a=>?_
  revert r;apply gO;exact bi 103 (gc (gi (gi (bi 108 (ce H2 [0,1] [oW c q pos 1 ln,oI o1,Z<|.bools o2,Z<|.bools o3] λ_=>gw 117 (lG L8 [0,1,2,3] (I _ _ · b a))) (gw 117 (lG L8 [0,1,2,3] (I _ _ · b a)))))))<|gn λx=>lF λp=>ez L8 [2,3,4] [0,1,2] p [2]<|H0.g x
variable{lost pos:Ξ}{ln n:U}{q:AA}{c:AE}
def xk{r:Ω×Ω×ζ×Ξ}(h:RQ n c q pos ln lost=Z r):EQ 179 [.ref 0 0] [oW c q pos 1 ln,oI lost] (.tup 3<|L1 [.bools r.1,.bools r.2.1,.bool r.2.2.1]) [oW c q pos 1 ln,oI r.2.2.2] D:=by
 refine ot Tryz.func179 λϙ N=>?_
 revert r;apply gO;exact jg zGI (gn λx=>jg x (jg x (jg (φ<|kK pos c q ln lost) (jg x (jg x (jg (φ<|kK pos c q ln lost) (lN (tg:=[([],kK pos c q ln lost)]) L8 [0,1,2,3] ((zKA ϙ N c q pos ln lost n) _ _ · n χ))))))))
inductive iv where
 |l1 (x3 x4:Ω) (x5:ζ) (Aq Bb:E) (o1:Ξ)
def iu(n:U)(self:iv->W5)(c:AE)(q:AA)(pos:Ξ)(ln:U)(lost:Ξ)(X a:Ω)(l:ζ)(Q W:E)(o1:Ξ):W5:=L (H<|W<Q) (L (!l) (C (AI<|W+1) (self<|.l1 X a l Q (W+1) o1) V)<|C (0<=W/\W<(F X:E)) (L (!(M X W.toNat D)) (C (AI<|W+1) (self<|.l1 X a l Q (W+1) o1) V)<|C (0<=W/\W<(F a:E)) (L (M a W.toNat D) (C (AI<|W+1) (self<|.l1 X a l Q (W+1) o1) V)<|(Th n q.nb X a W).bind λf=>L f.1 ((IN n W c q pos ln o1).bind λG=>C (AI<|W+1) (self<|.l1 X a l Q (W+1) G) V)<|C (AI<|W+1) (self<|.l1 X a l Q (W+1) o1) V) V) V)<|Z (T,o1)
def zRM(n:U)(self:iv->W5)(c:AE)(q:AA)(pos:Ξ)(ln:U)(lost:Ξ):W5:=(RQ n c q pos ln lost).bind λf=>self<|.l1 f.1 f.2.1 f.2.2.1 (F f.1:E) 0 f.2.2.2
def QP(c:AE)(q:AA)(pos:Ξ)(ln:U)(lost:Ξ):U->iv->W5
 |0,_=>V
 |n+1,.l1 X a l Q W o1=>iu n (QP c q pos ln lost n) c q pos ln lost X a l Q W o1
def iw(n:U)(c:AE)(q:AA)(pos:Ξ)(ln:U)(lost:Ξ):W5:=zRM n (QP c q pos ln lost n) c q pos ln lost
def zRN(n ϙ:U)(N:Yd 2)(c:AE)(q:AA)(pos:Ξ)(ln:U)(lost:Ξ)(r:ζ×Ξ):iv->Prop:=px n ϙ η N (FQ Tryz.f143 2 (.bool r.1) [oW c q pos 1 ln,oI r.2]) (AZ Tryz.f143) λ
 | .l1 X a l Q W o1=>(0,0,AF 52 [(0,.ref 0 0),(3,.bools X),(4,.bools a),(5,.bool l),(16,.i Q),(17,.i W)],[oW c q pos 1 ln,oI o1])
def zRO(ϙ:U)(N:Yd 2)(c:AE)(q:AA)(pos:Ξ)(ln:U)(lost:Ξ):Al (QP c q pos ln lost) (zRN · ϙ N c q pos ln lost):=ia (λ_=>rfl) λn I G r h=>by
 cases G
 case l1 x3 x4 x5 Aq Bb o1=>
  intro b a;refine rd a λb a=>?_
  revert r;apply gO;exact bi 18 (bi 21 (gw 51 (lG AC [0,1] (I _ _ · b a))) (gi (bi 27 (gw 51 (lG AC [0,1] (I _ _ · b a))) (gi (bi 33 (gw 51 (lG AC [0,1] (I _ _ · b a))) (cf zEN [oW c q pos 1 ln,oI o1] λ_=>bi 45 (ce PU [0,1] [oW c q pos 1 ln,oI o1] λ_=>gw 51 (lG AC [0,1] (I _ _ · b a))) (gw 51 (lG AC [0,1] (I _ _ · b a)))))))))<|lE AC [2] [0,1]
variable{r:ζ×Ξ}
def zRL(h:iw n c q pos ln lost=Z r):EQ 143 [.ref 0 0] [oW c q pos 1 ln,oI lost] (.bool r.1) [oW c q pos 1 ln,oI r.2] D:=by
 refine ot Tryz.func143 λϙ N=>?_
 revert r;apply gO;exact ce xk [0,1] [oW c q pos 1 ln,oI lost] λ_=>lN AC [0,1] ((zRO ϙ N c q pos ln lost n) _ _ · n χ)
inductive Pc where
 |l1 (x3 x4:Ω) (x20 x21:E) (o1:Ξ)
 |l2 (x3 x4:Ω) (x8 x20 x21:E) (Bj:Ξ) (Cw Ba:E) (o1:Ξ)
 |l3 (x3 x4:Ω) (x7:U) (x8 x20 x21:E) (Bj:Ξ) (Cw Ba:E) (o1 o2:Ξ)
 |l4 (x3 x4:Ω) (x7:U) (x8 x20 x21:E) (JE:U) (JD A0:E) (o1 o2:Ξ)
def eZ(n:U)(self:Pc->W5)(c:AE)(q:AA)(pos:Ξ)(ln:U)(lost:Ξ)(X a:Ω)(x20 x21:E)(o1:Ξ):W5:=L (H<|x21<x20) (C (0<=x21/\x21<(F a:E)) (L (!(M a x21.toNat D)) (C (AI<|x21+1) (self<|.l1 X a x20 (x21+1) o1) V)<|C (0<=x21/\x21<(F q.nb:E)) (self<|.l2 X a 0 x20 x21 (M q.nb x21.toNat []) ((F<|M q.nb x21.toNat []:U):E) 0 o1) V) V)<|Z (T,o1)
def eY(n:U)(self:Pc->W5)(c:AE)(q:AA)(pos:Ξ)(ln:U)(lost:Ξ)(X a:Ω)(x8 x20 x21:E)(f:Ξ)(p P:E)(o1:Ξ):W5:=L (H<|P<p) (C ((0<=P/\P<(F f:E))/\(0<=M f P.toNat 0/\M f P.toNat 0<(F X:E))) (L (M X (M f P.toNat 0).toNat D) (C (((0=0/\1=F ([M f P.toNat 0]:Ξ))/\0<F ([M f P.toNat 0]:Ξ)/\F ([M f P.toNat 0]:Ξ)<=Av)/\(0<=M f P.toNat 0/\M f P.toNat 0<(F a:E))) (L (M a (M f P.toNat 0).toNat D) (C (AI (x8+1)/\AI (P+1)) (self<|.l3 X a (F ([M f P.toNat 0]:Ξ)) (x8+1) x20 x21 f p (P+1) o1 ([M f P.toNat 0]:Ξ)) V)<|C (AI<|P+1) (self<|.l3 X a (F ([M f P.toNat 0]:Ξ)) x8 x20 x21 f p (P+1) o1 ([M f P.toNat 0]:Ξ)) V) V)<|C (0<=M f P.toNat 0/\M f P.toNat 0<(F a:E)) (L (M a (M f P.toNat 0).toNat D) (C (AI (x8+1)/\AI (P+1)) (self<|.l2 X a (x8+1) x20 x21 f p (P+1) o1) V)<|C (AI<|P+1) (self<|.l2 X a x8 x20 x21 f p (P+1) o1) V) V) V)<|Z (D,o1)
def eX(n:U)(self:Pc->W5)(c:AE)(q:AA)(pos:Ξ)(ln:U)(lost:Ξ)(X a:Ω)(p:U)(x8 x20 x21:E)(f:Ξ)(b P:E)(o1 Q:Ξ):W5:=L (H<|P<b) (C ((0<=P/\P<(F f:E))/\(0<=M f P.toNat 0/\M f P.toNat 0<(F X:E))) (L (M X (M f P.toNat 0).toNat D) (C (((0=0/\1=F ([M f P.toNat 0]:Ξ))/\(0=0/\p=F Q)/\F Q+F ([M f P.toNat 0]:Ξ)<=Av)/\(0<=M f P.toNat 0/\M f P.toNat 0<(F a:E))) (L (M a (M f P.toNat 0).toNat D) (C (AI (x8+1)/\AI (P+1)) (self<|.l3 X a (F Q+F ([M f P.toNat 0]:Ξ)) (x8+1) x20 x21 f b (P+1) o1<|Q++([M f P.toNat 0]:Ξ)) V)<|C (AI<|P+1) (self<|.l3 X a (F Q+F ([M f P.toNat 0]:Ξ)) x8 x20 x21 f b (P+1) o1<|Q++([M f P.toNat 0]:Ξ)) V) V)<|C (0<=M f P.toNat 0/\M f P.toNat 0<(F a:E)) (L (M a (M f P.toNat 0).toNat D) (C (AI (x8+1)/\AI (P+1)) (self<|.l3 X a p (x8+1) x20 x21 f b (P+1) o1 Q) V)<|C (AI<|P+1) (self<|.l3 X a p x8 x20 x21 f b (P+1) o1 Q) V) V) V)<|L (H<|(p:E)<2) (Z (D,o1))<|L (H<|x8>2) (Z (D,o1))<|self<|.l4 X a p x8 x20 x21 p (p:E) 0 o1 Q
def YE(n:U)(self:Pc->W5)(c:AE)(q:AA)(pos:Ξ)(ln:U)(lost:Ξ)(X b:Ω)(p:U)(x8 x20 x21:E)(o:U)(e a:E)(o1 Q:Ξ):W5:=L (H<|a<e) (C ((0<=a/\a<(o:E))/\0+a.toNat<F Q) (L ((p:E)==2) ((IN n (M Q (0+a.toNat) 0) c q pos ln o1).bind λf=>L (x8==2) (C (0<=M Q (0+a.toNat) 0/\M Q (0+a.toNat) 0<(F b:E)) (L (!(M b (M Q (0+a.toNat) 0).toNat D)) ((El n (M Q (0+a.toNat) 0) c.set c q pos ln f).bind λG=>C (AI<|a+1) (self<|.l4 X b p x8 x20 x21 o e (a+1) G Q) V)<|C (AI<|a+1) (self<|.l4 X b p x8 x20 x21 o e (a+1) f Q) V) V)<|C (AI<|a+1) (self<|.l4 X b p x8 x20 x21 o e (a+1) f Q) V)<|L (x8==2) (C (0<=M Q (0+a.toNat) 0/\M Q (0+a.toNat) 0<(F b:E)) (L (!(M b (M Q (0+a.toNat) 0).toNat D)) ((El n (M Q (0+a.toNat) 0) c.set c q pos ln o1).bind λf=>C (AI<|a+1) (self<|.l4 X b p x8 x20 x21 o e (a+1) f Q) V)<|C (AI<|a+1) (self<|.l4 X b p x8 x20 x21 o e (a+1) o1 Q) V) V)<|C (AI<|a+1) (self<|.l4 X b p x8 x20 x21 o e (a+1) o1 Q) V) V)<|C (AI<|x21+1) (self<|.l1 X b x20 (x21+1) o1) V
def zKs(n:U)(self:Pc->W5)(c:AE)(q:AA)(pos:Ξ)(ln:U)(lost:Ξ):W5:=(RQ n c q pos ln lost).bind λf=>self<|.l1 f.1 f.2.1 (F f.2.1:E) 0 f.2.2.2
def De(c:AE)(q:AA)(pos:Ξ)(ln:U)(lost:Ξ):U->Pc->W5
 |0,_=>V
 |n+1,.l1 X a x20 x21 o1=>eZ n (De c q pos ln lost n) c q pos ln lost X a x20 x21 o1
 |n+1,.l2 X a x8 x20 x21 f p P o1=>eY n (De c q pos ln lost n) c q pos ln lost X a x8 x20 x21 f p P o1
 |n+1,.l3 X a b x8 x20 x21 f p P o1 Q=>eX n (De c q pos ln lost n) c q pos ln lost X a b x8 x20 x21 f p P o1 Q
 |n+1,.l4 X a b x8 x20 x21 o e g o1 Q=>YE n (De c q pos ln lost n) c q pos ln lost X a b x8 x20 x21 o e g o1 Q
def eo(n:U)(c:AE)(q:AA)(pos:Ξ)(ln:U)(lost:Ξ):W5:=zKs n (De c q pos ln lost n) c q pos ln lost
def zKt(n ϙ:U)(N:Yd 2)(c:AE)(q:AA)(pos:Ξ)(ln:U)(lost:Ξ)(r:ζ×Ξ):Pc->Prop:=px n ϙ η N (FQ Tryz.f144 2 (.bool r.1) [oW c q pos 1 ln,oI r.2]) (AZ Tryz.f144) λ
 | .l1 X a x20 x21 o1=>(0,0,AF 95 [(0,.ref 0 0),(3,.bools X),(4,.bools a),(20,.i x20),(21,.i x21)],[oW c q pos 1 ln,oI o1])
 | .l2 X a x8 x20 x21 f p P o1=>(1,2,AF 95 [(0,.ref 0 0),(3,.bools X),(4,.bools a),(7,.nils),(8,.i x8),(20,.i x20),(21,.i x21),(36,.ints f),(37,.i p),(38,.i P)],[oW c q pos 1 ln,oI o1])
 | .l3 X a b x8 x20 x21 f p P o1 Q=>(1,2,AF 95 [(0,.ref 0 0),(3,.bools X),(4,.bools a),(7,.msl 2 1 0 b),(8,.i x8),(20,.i x20),(21,.i x21),(36,.ints f),(37,.i p),(38,.i P)],[oW c q pos 1 ln,oI o1,oI Q])
 | .l4 X a b x8 x20 x21 o e g o1 Q=>(1,4,AF 95 [(0,.ref 0 0),(3,.bools X),(4,.bools a),(7,.msl 2 1 0 b),(8,.i x8),(20,.i x20),(21,.i x21),(64,.msl 2 1 0 o),(65,.i e),(66,.i g)],[oW c q pos 1 ln,oI o1,oI Q])
def zKu(ϙ:U)(N:Yd 2)(c:AE)(q:AA)(pos:Ξ)(ln:U)(lost:Ξ):Al (De c q pos ln lost) (zKt · ϙ N c q pos ln lost):=ia (λ_=>rfl) λn I G r h=>by
 cases G
 case l1 x3 x4 x20 x21 o1=>
  intro b a;refine rd a λb a=>?_
  revert r;apply gO;exact bi 22 (gi (bi 28 (gw 94 (lG AC [0,1] (I _ _ · b a))) (gi (lN AC [0,1] (I _ _ · b n a χ)))))<|lE AC [2] [0,1]
 case l2 x3 x4 x8 x20 x21 Bj Cw Ba o1=>
  intro b S a e;have a:=zBE a;refine rd e λS e=>?_
  revert r;apply gO;exact bi 39 (gc (gi (gi (bi 45 (gc (gi (gi (bi 53 (gc (gw 55 (gw 56 (lG AC [0,1,3] (I _ _ · b S a e))))) (gw 56 (lG AC [0,1,3] (I _ _ · b S a e))))))) (gi (bi 53 (gc (gw 55 (gw 56 (lG AC [0,1] (I _ _ · b S a e))))) (gw 56 (lG AC [0,1] (I _ _ · b S a e)))))))))<|lE AC [2] [0,1]
 case l3 x3 x4 x7 x8 x20 x21 Bj Cw Ba o1 o2=>
  intro b S a e;have a:=zBE a;refine rd e λS e=>?_
  revert r;apply gO;exact bi 39 (gc (gi (gi (bi 45 (gc (gi (gi (bi 53 (gc (gw 55 (gw 56 (lG AC [0,1,4] (I _ _ · b S a e))))) (gw 56 (lG AC [0,1,4] (I _ _ · b S a e))))))) (gi (bi 53 (gc (gw 55 (gw 56 (lG AC [0,1,2] (I _ _ · b S a e))))) (gw 56 (lG AC [0,1,2] (I _ _ · b S a e))))))))) (bi 59 (lE AC [2] [0,1]) (bi 62 (lE AC [2] [0,1]) (lN AC [0,1,2] (I _ _ · b n a χ))))
 case l4 x3 x4 x7 x8 x20 x21 JE JD A0 o1 o2=>
  intro b S a e;have a:=zBE a;refine rd e λS e=>?_
  revert r;apply gO;exact bi 67 (gc (gi (gi (bi 72 (ce PU [0,1] [oW c q pos 1 ln,oI o1,oI o2] λf=>bi 77 (gi (bi 83 (ce H2 [0,1] [oW c q pos 1 ln,oI f,oI o2] λ_=>gw 93 (lG AC [0,1,2] (I _ _ · b S a e))) (gw 93 (lG AC [0,1,2] (I _ _ · b S a e))))) (gw 93 (lG AC [0,1,2] (I _ _ · b S a e)))) (bi 77 (gi (bi 83 (ce H2 [0,1] [oW c q pos 1 ln,oI o1,oI o2] λ_=>gw 93 (lG AC [0,1,2] (I _ _ · b S a e))) (gw 93 (lG AC [0,1,2] (I _ _ · b S a e))))) (gw 93 (lG AC [0,1,2] (I _ _ · b S a e)))))))) (gw 94 (lG AC [0,1] (I _ _ · b a)))
def zKr(h:eo n c q pos ln lost=Z r):EQ 144 [.ref 0 0] [oW c q pos 1 ln,oI lost] (.bool r.1) [oW c q pos 1 ln,oI r.2] D:=by
 refine ot Tryz.func144 λϙ N=>?_
 revert r;apply gO;exact ce xk [0,1] [oW c q pos 1 ln,oI lost] λ_=>lN AC [0,1] ((zKu ϙ N c q pos ln lost n) _ _ · n χ)
end
section
set_option maxRecDepth 100000
set_option maxHeartbeats 40000000
def tr:ST:=.rd 0<|.rd 1<|.rd 2<|.rd 3<|.rd 4<|.rd 5<|.rd 6<|.rd 7<|.rd 8<|.rd 9<|.rd 10<|.rd 11<|.rd 12<|.rd 13<|.rd 14<|.rd 15<|.rd 16<|.rd 17<|.rd 18<|.rd 19<|.rd 20<|.rd 21<|.rd 22<|.rd 23<|.rd 24<|.rd 25<|.rd 26<|.rd 27<|.rd 28<|.ef 29 (.rd 30<|.fin [] [5,6])<|.no
def zGM:Bz (Am Tryz.f174 2) [29] tr:=Z1
def tq:ST:=.rd 0<|.rd 1<|.rd 2<|.rd 3<|.rd 4<|.rd 5<|.rd 6<|.rd 7<|.rd 8<|.rd 9<|.rd 10<|.rd 11<|.rd 12<|.rd 13<|.rd 14<|.rd 15<|.ef 16 (.rd 17<|.fin [] [5,6])<|.no
def zGL:Bz (Am Tryz.f174 5) [16] tq:=Z1
def cG:BZ:=λi=>match i with
 |2=>.tre [29] tr
 |5=>.tre [16] tq
 |_=>.no
def tI(h:Δ)(c:AE)(q:AA)(pos:Ξ)(ln:U)(lost:Ξ):St:=⟨AF 59 [(5,.ref 4 0),(6,.bool<|H<|h.2<M c.ru (h.1).toNat 0)],([oC [.ref 1 0],oW c q pos 2 ln,oI lost,oC [.i h.1,.i h.2],oC [.i h.1,.i<|h.2+1]]:DH)⟩
def tH(c:AE)(q:AA)(pos:Ξ)(ln:U)(lost:Ξ)(h:Δ):St:=⟨AF 59 [(5,.ref 4 0),(6,.bool D)],([oC [.ref 1 0],oW c q pos 2 ln,oI lost,oC [.i h.1,.i h.2],oC [.i h.1,.i<|h.2+1]]:DH)⟩
def tG(h:Δ)(c:AE)(q:AA)(pos:Ξ)(ln:U)(lost:Ξ):St:=⟨AF 59 [(5,.ref 4 0),(6,.bool<|h.2==M c.ru (h.1).toNat 0)],([oC [.ref 1 0],oW c q pos 2 ln,oI lost,oC [.i h.1,.i h.2],oC [.i<|h.1+1,.i 0]]:DH)⟩
def xu(n:U)(h:Δ)(e:ζ)(c:AE)(q:AA)(pos:Ξ)(ln:U)(lost:Ξ):A<|(Δ)×ζ×Ξ:=L e (C (AI<|h.2+1) (L (H<|h.1<(F c.ru:E)) (C (0<=h.1/\h.1<(F c.ru:E)) (Z ((h.1,h.2+1),H<|h.2<M c.ru (h.1).toNat 0,lost)) V)<|Z ((h.1,h.2+1),D,lost)) V)<|L (h.2==0) (Z ((h.1,h.2),T,lost))<|C (AI (h.1+1)/\(0<=h.1/\h.1<(F c.ru:E))) (Z ((h.1+1,0),h.2==M c.ru (h.1).toNat 0,lost)) V
def Xv(n:U)(h:Δ)(e:ζ)(c:AE)(q:AA)(pos:Ξ)(ln:U)(lost:Ξ):A<|(Δ)×ζ×Ξ:=xu n h e c q pos ln lost
variable{lost pos:Ξ}{ln n:U}{q:AA}{c:AE}{e:ζ}
def Pa{a:Δ}{r:(Δ)×ζ×Ξ}(h:Xv n a e c q pos ln lost=Z r):EQ 174 [.agg 2<|L1 [.i a.1,.i a.2],.bool e,.ref 0 0] [oC [.ref 1 0],oW c q pos 2 ln,oI lost] (.tup 2<|L1 [.agg 2<|L1 [.i r.1.1,.i r.1.2],.bool r.2.1]) [oC [.ref 1 0],oW c q pos 2 ln,oI r.2.2] D:=by
 refine ot Tryz.func174 λϙ N=>?_
 revert r;apply gO;exact bi 8 (jg zGM<|gw 13<|bi 23 (gi<|jt<|jg (φ<|tI a c q pos ln lost)<|lE (tg:=[([(29,4)],tI a c q pos ln lost)]) cG [5,6] [0,1,2,4])<|jt<|jg (φ<|tH c q pos ln lost a)<|lE (tg:=[([(29,4)],tH c q pos ln lost a)]) cG [5,6] [0,1,2,4])<|bi 41 (jt<|lE cG [5,6] [0,1,2,4])<|jg zGL<|gc<|gw 45<|gi<|jt<|jg (φ<|tG a c q pos ln lost)<|lE (tg:=[([(16,4)],tG a c q pos ln lost)]) cG [5,6] [0,1,2,4]
def zGY:Ar (Am Tryz.f175 2) [] (θ 22) []:=Z0
def zGX:Ar (Am Tryz.f175 3) [] (θ 22) []:=Z0
def u4:BZ:=λi=>match i with
 |2=>.ord [] (θ 22) []
 |3=>.ord [] (θ 22) []
 |_=>.no
def yo(n:U)(r:E)(e:ζ)(c:AE)(q:AA)(pos:Ξ)(ln:U)(lost:Ξ):W5:=L e (C ((0<=r/\r<(F c.ce:E))/\(0<=M c.ce r.toNat 0/\M c.ce r.toNat 0<(F pos:E))) (Z (bits .and .i64 (M pos (M c.ce r.toNat 0).toNat 0) c.set != 0,lost)) V)<|C ((0<=r/\r<(F c.ce:E))/\(0<=M c.ce r.toNat 0/\M c.ce r.toNat 0<(F pos:E))) (Z (bits .andNot .i64 (M pos (M c.ce r.toNat 0).toNat 0) c.set != 0,lost)) V
def YJ(n:U)(r:E)(e:ζ)(c:AE)(q:AA)(pos:Ξ)(ln:U)(lost:Ξ):W5:=yo n r e c q pos ln lost
variable{r:ζ×Ξ}
def fM{a:E}(h:YJ n a e c q pos ln lost=Z r):EQ 175 [.i a,.bool e,.ref 0 0] [oC [.ref 1 0],oW c q pos 2 ln,oI lost] (.bool r.1) [oC [.ref 1 0],oW c q pos 2 ln,oI r.2] D:=by
 refine ot Tryz.func175 λϙ N=>?_
 revert r;apply gO;exact bi 6 (jg zGY<|gc<|gi<|gi<|lE u4 [5] [0,1,2])<|jg zGX<|gc<|gi<|gi<|lE u4 [5] [0,1,2]
def zFp:Ar (Am Tryz.f140 24) [] (θ 6) [6]:=Z0
def tV:ST:=.rd 0<|.rd 1<|.rd 2<|.rd 3<|.rd 4<|.rd 5<|.rd 6<|.rd 7<|.rd 8<|.rd 9<|.rd 10<|.rd 11<|.rd 12<|.rd 13<|.ef 14 (.fin [] [1,3,5,7,14,16,18])<|.no
def vC:Bz (Am Tryz.f140 49) [] tV:=Z1
def tU:ST:=.rd 0<|.rd 1<|.rd 2<|.rd 3<|.rd 4<|.rd 5<|.rd 6<|.rd 7<|.rd 8<|.ef 9 (.fin [] [1,3,5,7,14,16])<|.no
def lP:Bz (Am Tryz.f140 51) [] tU:=Z1
def DA:BZ:=λi=>match i with
 |24=>.ord [] (θ 6) [6]
 |49=>.tre [] tV
 |51=>.tre [] tU
 |_=>.no
def od(c:AE)(q:AA)(pos:Ξ)(ln:U)(o1:Ξ)(w:O<|A KS):DH:=[oW c q pos 1 ln,oI o1,oC [.ref 0 0],Z<|.mo<|.sets 2 w V]
def zNP(c:AE)(q:AA)(pos:Ξ)(ln:U)(o1:Ξ)(w:O<|A KS)(Q:E)(e:LK):DH:=[oW c q pos 1 ln,oI o1,oC [.ref 0 0],Z<|.mo<|.sets 2 w<|Z (0+Q.toNat,e)]
def zNJ(c:AE)(q:AA)(pos:Ξ)(ln:U)(o1:Ξ)(w:O<|A KS)(a:U)(e:LK)(o4:KS):DH:=[oW c q pos 1 ln,oI o1,oC [.ref 0 0],Z<|.mo<|.sets 2 w<|Z (a,e),Z<|.mo<|.mit 2 e.1 e.2.1 e.2.2 o4 V]
def zd(c:AE)(q:AA)(pos:Ξ)(ln:U)(o1:Ξ)(w:O<|A KS)(a:U)(e:LK)(o4:KS)(f:Ξ):DH:=[oW c q pos 1 ln,oI o1,oC [.ref 0 0],Z<|.mo<|.sets 2 w<|Z (a,e),Z<|.mo<|.mit 2 e.1 e.2.1 e.2.2 (o4.erase f)<|Z f]
def oZ(c:AE)(q:AA)(pos:Ξ)(ln:U)(o1:Ξ)(w:O<|A KS)(o4:KS):DH:=[oW c q pos 1 ln,oI o1,oC [.ref 0 0],Z<|.mo<|.sets 2 w V,Z<|.mo<|.set 2 o4,Z<|.mo<|.set 2 ([]:KS),oC [.bool D,.bool D]]
def zNH(c:AE)(q:AA)(pos:Ξ)(ln:U)(o1:Ξ)(w:O<|A KS)(Q:E)(e:LK)(o4:KS):DH:=[oW c q pos 1 ln,oI o1,oC [.ref 0 0],Z<|.mo<|.sets 2 w<|Z (0+Q.toNat,e),Z<|.mo<|.set 2 o4,Z<|.mo<|.set 2 ([]:KS),oC [.bool D,.bool D]]
def oY(c:AE)(q:AA)(pos:Ξ)(ln:U)(o1:Ξ)(w:O<|A KS)(a:U)(e:LK)(j z:E)(u:KS)(G:Ξ):DH:=[oW c q pos 1 ln,oI o1,oC [.ref 0 0],Z<|.mo<|.sets 2 w<|Z (a,e),oC [.i j,.i z],Z<|.mo<|.mit 2 e.1 e.2.1 e.2.2 u<|Z G,Z<|.bools ([D,T]:Ω)]
def zNG(c:AE)(q:AA)(pos:Ξ)(ln:U)(f:(Δ)×ζ×Ξ)(w:O<|A KS)(a:U)(e:LK)(j z:E)(u:KS)(G:Ξ):DH:=[oW c q pos 1 ln,oI f.2.2,oC [.ref 0 0],Z<|.mo<|.sets 2 w<|Z (a,e),oC [.i j,.i z],Z<|.mo<|.mit 2 e.1 e.2.1 e.2.2 u<|Z G,Z<|.bools ([D,T]:Ω),oC [.i f.1.1,.i f.1.2]]
def zNF(c:AE)(q:AA)(pos:Ξ)(ln:U)(o1:Ξ)(w:O<|A KS)(a:U)(e:LK)(o4 b:KS):DH:=[oW c q pos 1 ln,oI o1,oC [.ref 0 0],Z<|.mo<|.sets 2 w<|Z (a,e),Z<|.mo<|.set 2 o4,Z<|.mo<|.set 2 ([]:KS),oC [.bool D,.bool D],Z<|.mo<|.mit 2 e.1 e.2.1 e.2.2 b V]
def sr(c:AE)(Q:E)(q:AA)(pos:Ξ)(ln:U)(G:Ξ)(w:O<|A KS)(o4:KS):St:=⟨AF 208 [(1,.ref 2 0),(3,.fn 174 1<|L1 [.ref 2 0]),(5,.msl 3 1 0<|((F c.ce:E)+1).toNat),(7,.fn 175 1<|L1 [.ref 2 0]),(14,.it 5),(16,.i Q),(18,.ref 6 0)],([oW c q pos 1 ln,oI G,oC [.ref 0 0],Z<|.mo<|.sets 2 w V,Z<|.mo<|.set 2 o4,Z<|.mo<|.set 2 ([]:KS),oC [.bool D,.bool D]]:DH)⟩
def zNO(c:AE)(q:AA)(pos:Ξ)(ln:U)(G:Ξ)(w:O<|A KS)(o4:KS):DH:=[oW c q pos 1 ln,oI G,oC [.ref 0 0],Z<|.mo<|.sets 2 w V,Z<|.mo<|.set 2 o4,Z<|.mo<|.set 2 ([]:KS),oC [.bool D,.bool D]]
def s3(c:AE)(Q:E)(q:AA)(pos:Ξ)(ln:U)(y3:Ξ)(w:O<|A KS)(o4:KS):St:=⟨AF 208 [(1,.ref 2 0),(3,.fn 174 1<|L1 [.ref 2 0]),(5,.msl 3 1 0<|((F c.ce:E)+1).toNat),(7,.fn 175 1<|L1 [.ref 2 0]),(14,.it 5),(16,.i Q)],([oW c q pos 1 ln,oI y3,oC [.ref 0 0],Z<|.mo<|.sets 2 w V,Z<|.mo<|.set 2 o4,Z<|.mo<|.set 2 ([]:KS),oC [.bool D,.bool D]]:DH)⟩
def zNN(c:AE)(q:AA)(pos:Ξ)(ln:U)(o1:Ξ)(w:O<|A KS)(a:U)(e:LK)(o4 b:KS)(f:Ξ):DH:=[oW c q pos 1 ln,oI o1,oC [.ref 0 0],Z<|.mo<|.sets 2 w<|Z (a,e),Z<|.mo<|.set 2 o4,Z<|.mo<|.set 2 ([]:KS),oC [.bool D,.bool D],Z<|.mo<|.mit 2 e.1 e.2.1 e.2.2 (b.erase f)<|Z f]
def Ye(c:AE)(q:AA)(pos:Ξ)(ln:U)(o1:Ξ)(w:O<|A KS)(a:U)(e:LK)(o4 u:KS)(m b:ζ)(r s:E)(X:KS)(j:Ξ):DH:=[oW c q pos 1 ln,oI o1,oC [.ref 0 0],Z<|.mo<|.sets 2 w<|Z (a,e),Z<|.mo<|.set 2 o4,Z<|.mo<|.set 2 u,oC [.bool m,.bool b],oC [.i r,.i s],Z<|.mo<|.mit 2 e.1 e.2.1 e.2.2 X<|Z j,Z<|.bools ([D,T]:Ω)]
def oc(c:AE)(q:AA)(pos:Ξ)(ln:U)(f:(Δ)×ζ×Ξ)(w:O<|A KS)(a:U)(e:LK)(o4 u:KS)(m b:ζ)(r s:E)(X:KS)(j:Ξ):DH:=[oW c q pos 1 ln,oI f.2.2,oC [.ref 0 0],Z<|.mo<|.sets 2 w<|Z (a,e),Z<|.mo<|.set 2 o4,Z<|.mo<|.set 2 u,oC [.bool m,.bool b],oC [.i r,.i s],Z<|.mo<|.mit 2 e.1 e.2.1 e.2.2 X<|Z j,Z<|.bools ([D,T]:Ω),oC [.i f.1.1,.i f.1.2]]
def zNM(c:AE)(q:AA)(pos:Ξ)(ln:U)(o1:Ξ)(w:O<|A KS)(a:U)(e:LK)(o4:KS)(i:Ξ):DH:=[oW c q pos 1 ln,oI o1,oC [.ref 0 0],Z<|.mo<|.sets 2 w<|Z (a,e),Z<|.mo<|.mit 2 e.1 e.2.1 e.2.2 o4<|Z i]
def zNL(c:AE)(q:AA)(pos:Ξ)(ln:U)(o1:Ξ)(w:O<|A KS)(a:U)(e:LK)(o4 u:KS)(m b:ζ)(f:KS)(j:Ξ):DH:=[oW c q pos 1 ln,oI o1,oC [.ref 0 0],Z<|.mo<|.sets 2 w<|Z (a,e),Z<|.mo<|.set 2 o4,Z<|.mo<|.set 2 u,oC [.bool m,.bool b],Z<|.mo<|.mit 2 e.1 e.2.1 e.2.2 f<|Z j]
def oa(c:AE)(q:AA)(pos:Ξ)(ln:U)(o1:Ξ)(w:O<|A KS)(o4 u:KS)(m a:ζ):DH:=[oW c q pos 1 ln,oI o1,oC [.ref 0 0],Z<|.mo<|.sets 2 w V,Z<|.mo<|.set 2 o4,Z<|.mo<|.set 2 u,oC [.bool m,.bool a]]
def kJ(c:AE)(Q:E)(q:AA)(pos:Ξ)(ln:U)(G:Ξ)(w:O<|A KS)(o4 u:KS)(m a:ζ):St:=⟨AF 208 [(1,.ref 2 0),(3,.fn 174 1<|L1 [.ref 2 0]),(5,.msl 3 1 0<|((F c.ce:E)+1).toNat),(7,.fn 175 1<|L1 [.ref 2 0]),(14,.it 5),(16,.i Q),(18,.ref 6 0)],([oW c q pos 1 ln,oI G,oC [.ref 0 0],Z<|.mo<|.sets 2 w V,Z<|.mo<|.set 2 o4,Z<|.mo<|.set 2 u,oC [.bool m,.bool a]]:DH)⟩
def zNK(c:AE)(q:AA)(pos:Ξ)(ln:U)(G:Ξ)(w:O<|A KS)(o4 u:KS)(m a:ζ):DH:=[oW c q pos 1 ln,oI G,oC [.ref 0 0],Z<|.mo<|.sets 2 w V,Z<|.mo<|.set 2 o4,Z<|.mo<|.set 2 u,oC [.bool m,.bool a]]
def sw(c:AE)(Q:E)(q:AA)(pos:Ξ)(ln:U)(y3:Ξ)(w:O<|A KS)(o4 u:KS)(m a:ζ):St:=⟨AF 208 [(1,.ref 2 0),(3,.fn 174 1<|L1 [.ref 2 0]),(5,.msl 3 1 0<|((F c.ce:E)+1).toNat),(7,.fn 175 1<|L1 [.ref 2 0]),(14,.it 5),(16,.i Q)],([oW c q pos 1 ln,oI y3,oC [.ref 0 0],Z<|.mo<|.sets 2 w V,Z<|.mo<|.set 2 o4,Z<|.mo<|.set 2 u,oC [.bool m,.bool a]]:DH)⟩
def su(c:AE)(Q:E)(q:AA)(pos:Ξ)(ln:U)(G:Ξ)(w:O<|A KS)(o4 u:KS)(m a:ζ):St:=⟨AF 208 [(1,.ref 2 0),(3,.fn 174 1<|L1 [.ref 2 0]),(5,.msl 3 1 0<|((F c.ce:E)+1).toNat),(7,.fn 175 1<|L1 [.ref 2 0]),(14,.it 5),(16,.i Q)],([oW c q pos 1 ln,oI G,oC [.ref 0 0],Z<|.mo<|.sets 2 w V,Z<|.mo<|.set 2 o4,Z<|.mo<|.set 2 u,oC [.bool m,.bool a]]:DH)⟩
def zNI(c:AE)(q:AA)(pos:Ξ)(ln:U)(o1:Ξ)(w:O<|A KS)(a:U)(e:LK)(o4 u:KS)(m b:ζ)(g:KS)(f:Ξ):DH:=[oW c q pos 1 ln,oI o1,oC [.ref 0 0],Z<|.mo<|.sets 2 w<|Z (a,e),Z<|.mo<|.set 2 o4,Z<|.mo<|.set 2 u,oC [.bool m,.bool b],Z<|.mo<|.mit 2 e.1 e.2.1 e.2.2 (g.erase f)<|Z f]
inductive J7 where
 |l1 (EN:E) (o3:O (A KS))
 |l2 (BE:E) (o1:Ξ) (o3:O (A KS))
 |l3 (x8 BE:E) (o1:Ξ) (o3:O (A KS)) (Ay:U) (o4:KS)
 |l4 (Aq:E) (o1:Ξ) (o3:O (A KS)) (o4:KS)
 |l5 (x8 BE Gq:E) (o1:Ξ) (o3:O (A KS)) (Ay:U) (A7 G4:E) (o5:KS) (Gz:Ξ)
 |l6 (Aq:E) (o1:Ξ) (o3:O (A KS)) (Ay:U) (o4 o7:KS)
 |l7 (Aq E8:E) (o1:Ξ) (o3:O (A KS)) (Ay:U) (o4 o5:KS) (Bs Bt:ζ) (Ej Ei:E) (o8:KS) (FE:Ξ)
 |l8 (x8 BE:E) (o1:Ξ) (o3:O (A KS)) (Ay:U) (o4:KS) (MV:Ξ)
 |l9 (Aq:E) (o1:Ξ) (o3:O (A KS)) (Ay:U) (o4 o5:KS) (Bs Bt:ζ) (o7:KS) (MU:Ξ)
def cT(n:U)(self:J7->W5)(c:AE)(q:AA)(pos:Ξ)(ln:U)(lost:Ξ)(t:E)(w:O<|A KS):W5:=L (H<|t<((((F c.ce:E)+1).toNat:U):E)) (C ((0<=t/\t<((((F c.ce:E)+1).toNat:U):E))/\0+t.toNat<F w/\AI (t+1)) (self<|.l1 (t+1)<|w.set (0+t.toNat)<|Z ([]:KS)) V)<|C (((0:E)<=0/\0<((((F c.ce:E)+1).toNat:U):E))/\0+0<F w/\(w.getD (0+0) V).isSome=T) (self<|.l2 0 lost<|w.set (0+0)<|Z<|DN [0,0]<|(w.getD (0+0) V).getD []) V
def T4(n:U)(self:J7->W5)(c:AE)(q:AA)(pos:Ξ)(ln:U)(lost:Ξ)(Q:E)(o1:Ξ)(w:O<|A KS):W5:=L (H<|Q<(F c.ce:E)) (C ((w.getD (0+Q.toNat) V).isSome=T) (C ((0<=Q/\Q<((((F c.ce:E)+1).toNat:U):E))/\0+Q.toNat<F w/\(w.getD (0+Q.toNat) V).isSome=T) (self<|.l3 Q Q o1 w (0+Q.toNat)<|(w.getD (0+Q.toNat) V).getD []) V) V)<|L (H<|(F c.ru:E)>0) (C (AI ((F c.ru:E)-1)/\((0:E)<=((F c.ru:E)-1)/\((F c.ru:E)-1)<(F c.ru:E))/\AI ((F c.ce:E)-1)) (self<|.l4 ((F c.ce:E)-1) o1 w<|DN [(F c.ru:E)-1,M c.ru ((F c.ru:E)-1).toNat 0]<|DN [(F c.ru:E),0] ([]:KS)) V)<|C (AI<|(F c.ce:E)-1) (self<|.l4 ((F c.ce:E)-1) o1 w<|DN [(F c.ru:E),0] ([]:KS)) V
def zG3(n:U)(self:J7->W5)(c:AE)(q:AA)(pos:Ξ)(ln:U)(lost:Ξ)(x8 Q:E)(o1:Ξ)(w:O<|A KS)(e:U)(o4:KS):W5:=C ((w.getD e V).isSome=T) (JX o4 (C (AI<|Q+1) (self<|.l2 (Q+1) o1 w) V) λf=>C ((w.getD e V).isSome=T) (self<|.l5 x8 Q 0 o1 w e (M f 0 0) (M f 1 0) (o4.erase f) f) V) V
def cS(n:U)(self:J7->W5)(c:AE)(q:AA)(pos:Ξ)(ln:U)(lost:Ξ)(Q:E)(o1:Ξ)(w:O<|A KS)(o4:KS):W5:=L (H<|Q>=0) (C ((w.getD (0+Q.toNat) V).isSome=T) (C ((0<=Q/\Q<((((F c.ce:E)+1).toNat:U):E))/\0+Q.toNat<F w/\(w.getD (0+Q.toNat) V).isSome=T) (self<|.l6 Q o1 w (0+Q.toNat) o4<|(w.getD (0+Q.toNat) V).getD []) V) V)<|Z (T,o1)
def T3(n:U)(self:J7->W5)(c:AE)(q:AA)(pos:Ξ)(ln:U)(lost:Ξ)(x8 Q I:E)(o1:Ξ)(w:O<|A KS)(e:U)(j z:E)(u:KS)(G:Ξ):W5:=L (H<|I<2) (C ((0<=I/\I<((2:U):E))/\0+I.toNat<F ([D,T]:Ω)) ((Xv n (j,z) (M ([D,T]:Ω) (0+I.toNat) D) c q pos ln o1).bind λf=>L f.2.1 ((YJ n x8 (M ([D,T]:Ω) (0+I.toNat) D) c q pos ln f.2.2).bind λa=>L a.1 (C (AI (x8+1)/\(0<=(x8+1)/\(x8+1)<((((F c.ce:E)+1).toNat:U):E))/\0+(x8+1).toNat<F w/\e≠0+(x8+1).toNat/\(w.getD (0+(x8+1).toNat) V).isSome=T/\AI (I+1)) (self<|.l5 x8 Q (I+1) a.2 (w.set (0+(x8+1).toNat)<|Z<|DN [f.1.1,f.1.2]<|(w.getD (0+(x8+1).toNat) V).getD []) e j z u G) V)<|C (AI<|I+1) (self<|.l5 x8 Q (I+1) a.2 w e j z u G) V)<|C (AI<|I+1) (self<|.l5 x8 Q (I+1) f.2.2 w e j z u G) V) V)<|self<|.l8 x8 Q o1 w e u G
def zG2(n:U)(self:J7->W5)(c:AE)(q:AA)(pos:Ξ)(ln:U)(lost:Ξ)(Q:E)(o1:Ξ)(w:O<|A KS)(e:U)(o4 a:KS):W5:=C ((w.getD e V).isSome=T) (JX a (C (0<=Q/\Q<(F c.ce:E)) ((El n (M c.ce Q.toNat 0) c.set c q pos ln o1).bind λG=>(IN n (M c.ce Q.toNat 0) c q pos ln G).bind λy3=>C (AI<|Q-1) (self<|.l4 (Q-1) y3 w ([]:KS)) V) V) λf=>C ((w.getD e V).isSome=T) (self<|.l7 Q 0 o1 w e o4 ([]:KS) D D (M f 0 0) (M f 1 0) (a.erase f) f) V) V
def T0(n:U)(self:J7->W5)(c:AE)(q:AA)(pos:Ξ)(ln:U)(lost:Ξ)(Q k:E)(o1:Ξ)(w:O<|A KS)(e:U)(o4 u:KS)(m a:ζ)(r s:E)(X:KS)(j:Ξ):W5:=L (H<|k<2) (C ((0<=k/\k<((2:U):E))/\0+k.toNat<F ([D,T]:Ω)) ((Xv n (r,s) (M ([D,T]:Ω) (0+k.toNat) D) c q pos ln o1).bind λf=>L f.2.1 ((YJ n Q (M ([D,T]:Ω) (0+k.toNat) D) c q pos ln f.2.2).bind λG=>L G.1 (L (o4.contains [f.1.1,f.1.2]) (L (k==0) (C (AI<|k+1) (self<|.l7 Q (k+1) G.2 w e o4 (DN [r,s] u) T a r s X j) V)<|L (k==1) (C (AI<|k+1) (self<|.l7 Q (k+1) G.2 w e o4 (DN [r,s] u) m T r s X j) V) V)<|C (AI<|k+1) (self<|.l7 Q (k+1) G.2 w e o4 u m a r s X j) V)<|C (AI<|k+1) (self<|.l7 Q (k+1) G.2 w e o4 u m a r s X j) V)<|C (AI<|k+1) (self<|.l7 Q (k+1) f.2.2 w e o4 u m a r s X j) V) V)<|self<|.l9 Q o1 w e o4 u m a X j
def lV(n:U)(self:J7->W5)(c:AE)(q:AA)(pos:Ξ)(ln:U)(lost:Ξ)(x8 Q:E)(o1:Ξ)(w:O<|A KS)(e:U)(o4:KS)(MV:Ξ):W5:=C ((w.getD e V).isSome=T) (JX o4 (C (AI<|Q+1) (self<|.l2 (Q+1) o1 w) V) λf=>C ((w.getD e V).isSome=T) (self<|.l5 x8 Q 0 o1 w e (M f 0 0) (M f 1 0) (o4.erase f) f) V) V
def Wt(n:U)(self:J7->W5)(c:AE)(q:AA)(pos:Ξ)(ln:U)(lost:Ξ)(Q:E)(o1:Ξ)(w:O<|A KS)(e:U)(o4 u:KS)(m a:ζ)(b:KS)(MU:Ξ):W5:=C ((w.getD e V).isSome=T) (JX b (L (!a) (C (0<=Q/\Q<(F c.ce:E)) ((El n (M c.ce Q.toNat 0) c.set c q pos ln o1).bind λG=>L (!m) ((IN n (M c.ce Q.toNat 0) c q pos ln G).bind λy3=>C (AI<|Q-1) (self<|.l4 (Q-1) y3 w u) V)<|C (AI<|Q-1) (self<|.l4 (Q-1) G w u) V) V)<|L (!m) (C (0<=Q/\Q<(F c.ce:E)) ((IN n (M c.ce Q.toNat 0) c q pos ln o1).bind λG=>C (AI<|Q-1) (self<|.l4 (Q-1) G w u) V) V)<|C (AI<|Q-1) (self<|.l4 (Q-1) o1 w u) V) λf=>C ((w.getD e V).isSome=T) (self<|.l7 Q 0 o1 w e o4 u m a (M f 0 0) (M f 1 0) (b.erase f) f) V) V
def lW(n:U)(self:J7->W5)(c:AE)(q:AA)(pos:Ξ)(ln:U)(lost:Ξ):W5:=L ((F c.ce:E)==0) (Z ((F c.ru:E)==0,lost))<|C (AI ((F c.ce:E)+1)/\(((F c.ce:E)+1:E)=((F c.ce:E)+1)/\(0:E)<=((F c.ce:E)+1)/\((F c.ce:E)+1:E)<=1000000000000)) (self<|.l1 0<|d ((F c.ce:E)+1).toNat (V:A KS)) V
def Bo(c:AE)(q:AA)(pos:Ξ)(ln:U)(lost:Ξ):U->J7->W5
 |0,_=>V
 |n+1,.l1 t w=>cT n (Bo c q pos ln lost n) c q pos ln lost t w
 |n+1,.l2 Q o1 w=>T4 n (Bo c q pos ln lost n) c q pos ln lost Q o1 w
 |n+1,.l3 x8 Q o1 w e o4=>zG3 n (Bo c q pos ln lost n) c q pos ln lost x8 Q o1 w e o4
 |n+1,.l4 a o1 w o4=>cS n (Bo c q pos ln lost n) c q pos ln lost a o1 w o4
 |n+1,.l5 x8 Q I o1 w e j z u G=>T3 n (Bo c q pos ln lost n) c q pos ln lost x8 Q I o1 w e j z u G
 |n+1,.l6 a o1 w e o4 b=>zG2 n (Bo c q pos ln lost n) c q pos ln lost a o1 w e o4 b
 |n+1,.l7 a k o1 w e o4 u m f r s X g=>T0 n (Bo c q pos ln lost n) c q pos ln lost a k o1 w e o4 u m f r s X g
 |n+1,.l8 x8 Q o1 w e o4 i=>lV n (Bo c q pos ln lost n) c q pos ln lost x8 Q o1 w e o4 i
 |n+1,.l9 a o1 w e o4 u m f b h=>Wt n (Bo c q pos ln lost n) c q pos ln lost a o1 w e o4 u m f b h
def T5(n:U)(c:AE)(q:AA)(pos:Ξ)(ln:U)(lost:Ξ):W5:=lW n (Bo c q pos ln lost n) c q pos ln lost
def zG4(n ϙ:U)(N:Yd 2)(c:AE)(q:AA)(pos:Ξ)(ln:U)(lost:Ξ)(r:ζ×Ξ):J7->Prop
 | .l1 t w=>∀a:U,n<=a->TW ϙ N (FQ Tryz.f140 2 (.bool r.1) [oW c q pos 1 ln,oI r.2]) (EH a<|Fo (AZ Tryz.f140) 0 []) ⟨AF 208 [(1,.ref 2 0),(3,.fn 174 1<|L1 [.ref 2 0]),(4,.i (F c.ce:E)),(5,.msl 3 1 0<|((F c.ce:E)+1).toNat),(44,.i ((((F c.ce:E)+1).toNat:U):E)),(45,.i t)],[oW c q pos 1 ln,oI lost,oC [.ref 0 0],Z<|.mo<|.sets 2 w V]⟩
 | .l2 Q o1 w=>∀a:U,n<=a->TW ϙ N (FQ Tryz.f140 2 (.bool r.1) [oW c q pos 1 ln,oI r.2]) (EH a<|Fo (AZ Tryz.f140) 2 []) ⟨AF 208 [(1,.ref 2 0),(3,.fn 174 1<|L1 [.ref 2 0]),(4,.i (F c.ce:E)),(5,.msl 3 1 0<|((F c.ce:E)+1).toNat),(7,.fn 175 1<|L1 [.ref 2 0]),(58,.i (F c.ce:E)),(59,.i Q)],[oW c q pos 1 ln,oI o1,oC [.ref 0 0],Z<|.mo<|.sets 2 w V]⟩
 | .l3 x8 Q o1 w b o4=>∀a S:U,n<=a->n<=S->∀e:LK,TW ϙ N (FQ Tryz.f140 2 (.bool r.1) [oW c q pos 1 ln,oI r.2]) (EH S<|Fo (AZ Tryz.f140) 4 [a]) ⟨AF 208 [(1,.ref 2 0),(3,.fn 174 1<|L1 [.ref 2 0]),(4,.i (F c.ce:E)),(5,.msl 3 1 0<|((F c.ce:E)+1).toNat),(7,.fn 175 1<|L1 [.ref 2 0]),(8,.i x8),(58,.i (F c.ce:E)),(59,.i Q),(66,.it 4)],[oW c q pos 1 ln,oI o1,oC [.ref 0 0],Z<|.mo<|.sets 2 w<|Z (b,e),Z<|.mo<|.mit 2 e.1 e.2.1 e.2.2 o4 V]⟩
 | .l4 f o1 w o4=>∀a:U,n<=a->TW ϙ N (FQ Tryz.f140 2 (.bool r.1) [oW c q pos 1 ln,oI r.2]) (EH a<|Fo (AZ Tryz.f140) 8 []) ⟨AF 208 [(1,.ref 2 0),(3,.fn 174 1<|L1 [.ref 2 0]),(5,.msl 3 1 0<|((F c.ce:E)+1).toNat),(7,.fn 175 1<|L1 [.ref 2 0]),(14,.it 4),(16,.i f)],[oW c q pos 1 ln,oI o1,oC [.ref 0 0],Z<|.mo<|.sets 2 w V,Z<|.mo<|.set 2 o4]⟩
 | .l5 x8 Q I o1 w b j z u G=>∀a S R:U,n<=a->n<=S->n<=R->∀e:LK,TW ϙ N (FQ Tryz.f140 2 (.bool r.1) [oW c q pos 1 ln,oI r.2]) (EH R<|Fo (AZ Tryz.f140) 6 [a,S]) ⟨AF 208 [(1,.ref 2 0),(3,.fn 174 1<|L1 [.ref 2 0]),(4,.i (F c.ce:E)),(5,.msl 3 1 0<|((F c.ce:E)+1).toNat),(7,.fn 175 1<|L1 [.ref 2 0]),(8,.i x8),(9,.ref 4 0),(58,.i (F c.ce:E)),(59,.i Q),(66,.it 5),(71,.msl 6 1 0 2),(72,.i 2),(73,.i I)],[oW c q pos 1 ln,oI o1,oC [.ref 0 0],Z<|.mo<|.sets 2 w<|Z (b,e),oC [.i j,.i z],Z<|.mo<|.mit 2 e.1 e.2.1 e.2.2 u<|Z G,Z<|.bools ([D,T]:Ω)]⟩
 | .l6 f o1 w b o4 g=>∀a S:U,n<=a->n<=S->∀e:LK,TW ϙ N (FQ Tryz.f140 2 (.bool r.1) [oW c q pos 1 ln,oI r.2]) (EH S<|Fo (AZ Tryz.f140) 10 [a]) ⟨AF 208 [(1,.ref 2 0),(3,.fn 174 1<|L1 [.ref 2 0]),(5,.msl 3 1 0<|((F c.ce:E)+1).toNat),(7,.fn 175 1<|L1 [.ref 2 0]),(14,.it 4),(16,.i f),(17,.it 5),(18,.ref 6 0),(140,.it 7)],[oW c q pos 1 ln,oI o1,oC [.ref 0 0],Z<|.mo<|.sets 2 w<|Z (b,e),Z<|.mo<|.set 2 o4,Z<|.mo<|.set 2 ([]:KS),oC [.bool D,.bool D],Z<|.mo<|.mit 2 e.1 e.2.1 e.2.2 g V]⟩
 | .l7 f k o1 w b o4 u m h l s X o=>∀a S R:U,n<=a->n<=S->n<=R->∀e:LK,TW ϙ N (FQ Tryz.f140 2 (.bool r.1) [oW c q pos 1 ln,oI r.2]) (EH R<|Fo (AZ Tryz.f140) 12 [a,S]) ⟨AF 208 [(1,.ref 2 0),(3,.fn 174 1<|L1 [.ref 2 0]),(5,.msl 3 1 0<|((F c.ce:E)+1).toNat),(7,.fn 175 1<|L1 [.ref 2 0]),(14,.it 4),(16,.i f),(17,.it 5),(18,.ref 6 0),(19,.ref 7 0),(140,.it 8),(145,.msl 9 1 0 2),(146,.i 2),(147,.i k)],[oW c q pos 1 ln,oI o1,oC [.ref 0 0],Z<|.mo<|.sets 2 w<|Z (b,e),Z<|.mo<|.set 2 o4,Z<|.mo<|.set 2 u,oC [.bool m,.bool h],oC [.i l,.i s],Z<|.mo<|.mit 2 e.1 e.2.1 e.2.2 X<|Z o,Z<|.bools ([D,T]:Ω)]⟩
 | .l8 x8 Q o1 w b o4 p=>∀a S:U,n<=a->n<=S->∀e:LK,TW ϙ N (FQ Tryz.f140 2 (.bool r.1) [oW c q pos 1 ln,oI r.2]) (EH S<|Fo (AZ Tryz.f140) 4 [a]) ⟨AF 208 [(1,.ref 2 0),(3,.fn 174 1<|L1 [.ref 2 0]),(4,.i (F c.ce:E)),(5,.msl 3 1 0<|((F c.ce:E)+1).toNat),(7,.fn 175 1<|L1 [.ref 2 0]),(8,.i x8),(58,.i (F c.ce:E)),(59,.i Q),(66,.it 4)],[oW c q pos 1 ln,oI o1,oC [.ref 0 0],Z<|.mo<|.sets 2 w<|Z (b,e),Z<|.mo<|.mit 2 e.1 e.2.1 e.2.2 o4<|Z p]⟩
 | .l9 f o1 w b o4 u m h g v=>∀a S:U,n<=a->n<=S->∀e:LK,TW ϙ N (FQ Tryz.f140 2 (.bool r.1) [oW c q pos 1 ln,oI r.2]) (EH S<|Fo (AZ Tryz.f140) 10 [a]) ⟨AF 208 [(1,.ref 2 0),(3,.fn 174 1<|L1 [.ref 2 0]),(5,.msl 3 1 0<|((F c.ce:E)+1).toNat),(7,.fn 175 1<|L1 [.ref 2 0]),(14,.it 4),(16,.i f),(17,.it 5),(18,.ref 6 0),(140,.it 7)],[oW c q pos 1 ln,oI o1,oC [.ref 0 0],Z<|.mo<|.sets 2 w<|Z (b,e),Z<|.mo<|.set 2 o4,Z<|.mo<|.set 2 u,oC [.bool m,.bool h],Z<|.mo<|.mit 2 e.1 e.2.1 e.2.2 g<|Z v]⟩
def zG5(ϙ:U)(N:Yd 2)(c:AE)(q:AA)(pos:Ξ)(ln:U)(lost:Ξ):Al (Bo c q pos ln lost) (zG4 · ϙ N c q pos ln lost):=ia (λ_=>rfl) λn I J r h=>by
 cases J
 case l1 EN o3=>
  intro b a;refine rd a λb a=>?_
  revert r;apply gO;exact bi 46 (gc (gi (gc (gi (gw 52 (lG DA [0,1,2,5] (I _ _ · b a))))))) (gc (gi (gc (gi (gi (jg (zK0 (i:=0+0)) (lN DA [0,1,2,3] (I _ _ · n χ))))))))
 case l2 BE o1 o3=>
  intro b a;refine rd a λb a=>?_
  revert r;apply gO
  exact bi 60 (gn λl=>λp r h=>by
   refine gs (AQ 16 DA) [0,1,2,3] p (CY (AZ Tryz.f140) 16 [b]) (AF 208 [(1,.ref 2 0),(3,.fn 174 1<|L1 [.ref 2 0]),(4,.i (F c.ce:E)),(5,.msl 3 1 0<|((F c.ce:E)+1).toNat),(7,.fn 175 1<|L1 [.ref 2 0]),(8,.i BE),(58,.i (F c.ce:E)),(59,.i BE)]) (od c q pos ln o1 o3) ?_;refine BY.lock 3 (0+BE.toNat) 2 Z5 l Z5 (λe=>zNP c q pos ln o1 o3 BE e) Z5 λe=>?_
   revert r;apply gO;exact gc (gi (gc (gi (gi (jg (φ<|0+BE.toNat) (lN DA [0,1,2,3,4] (I _ _ · b n a χ e)))))))) (bi 115 (gc (gn λl=>jw 118 l (jw 125 l (gc (gi (gw 130 (lN DA [0,1,2,3,4] (I _ _ · n χ)))))))) (gw 130 (lN DA [0,1,2,3,4] (I _ _ · n χ))))
 case l3 x8 BE o1 o3 Ay o4=>
  intro b S a f e;have a:=zBE a;refine rd f λS f=>?_
  have p:=H0;refine gs (AQ 17 DA) [0,1,2,3,4] p (CY (AZ Tryz.f140) 17 [b,S]) (AF 208 [(1,.ref 2 0),(3,.fn 174 1<|L1 [.ref 2 0]),(4,.i (F c.ce:E)),(5,.msl 3 1 0<|((F c.ce:E)+1).toNat),(7,.fn 175 1<|L1 [.ref 2 0]),(8,.i x8),(58,.i (F c.ce:E)),(59,.i BE),(66,.it 4)]) (zNJ c q pos ln o1 o3 Ay e o4) ?_;revert r;apply gO
  exact gn λl=>λp r h=>by
   replace h:=eB h;refine A6.nx (ops:=Am Tryz.f140 17) HC.x Z5 Z5 4 3 Ay 2 o3 e o4 V [1,3,4,5,7,8,58,59,66,68] [0,1,2,3] (AF 208 [(1,.ref 2 0),(3,.fn 174 1<|L1 [.ref 2 0]),(4,.i (F c.ce:E)),(5,.msl 3 1 0<|((F c.ce:E)+1).toNat),(7,.fn 175 1<|L1 [.ref 2 0]),(8,.i x8),(58,.i (F c.ce:E)),(59,.i BE),(68,.bool D)]) (od c q pos ln o1 o3) [0,1,2,3,4] (λj=>AF 208 [(1,.ref 2 0),(3,.fn 174 1<|L1 [.ref 2 0]),(4,.i (F c.ce:E)),(5,.msl 3 1 0<|((F c.ce:E)+1).toNat),(7,.fn 175 1<|L1 [.ref 2 0]),(8,.i x8),(58,.i (F c.ce:E)),(59,.i BE),(66,.it 4),(68,.bool T)]) (λj=>zd c q pos ln o1 o3 Ay e o4 j) Z5 Z5 Z5 Z6 l Z5 Z5 (λ_=>Z5) (λm=>?_) λj m=>?_
   ·replace h:=h.1 m;revert r;apply gO;exact gw 98 (lG DA [0,1,2,3] (I _ _ · b a))
   ·replace h:=h.2 j m;revert r;apply gO;exact gi (jg (φ e.1) (jg (φ e.2.1) (jg (φ e.2.2) (jt (lN DA [0,1,2,3,5,4,6] (I _ _ · b S n a f χ e))))))
 case l4 Aq o1 o3 o4=>
  intro b a;refine rd a λb a=>?_
  revert r;apply gO
  exact bi 132 (gn λl=>λp r h=>by
   refine gs (AQ 36 DA) [0,1,2,3,4,5,6] p (CY (AZ Tryz.f140) 36 [b]) (AF 208 [(1,.ref 2 0),(3,.fn 174 1<|L1 [.ref 2 0]),(5,.msl 3 1 0<|((F c.ce:E)+1).toNat),(7,.fn 175 1<|L1 [.ref 2 0]),(14,.it 4),(16,.i Aq),(17,.it 5),(18,.ref 6 0)]) (oZ c q pos ln o1 o3 o4) ?_;refine BY.lock 3 (0+Aq.toNat) 2 Z5 l Z5 (λe=>zNH c q pos ln o1 o3 Aq e o4) Z5 λe=>?_
   revert r;apply gO;exact gc (gi (gc (gi (gi (jg (φ<|0+Aq.toNat) (lN DA [0,1,2,3,4,5,6,7] (I _ _ · b n a χ e))))))))<|lE DA [2] [0,1]
 case l5 x8 BE Gq o1 o3 Ay A7 G4 o5 Gz=>
  intro b S s a f R e;have a:=zBE a;have f:=zBE f;refine rd R λs R=>?_
  revert r;apply gO;exact bj 74 (λu=>gc (gn λl=>jg l (gn λo=>jg o (cn λj P=>jc (em (Pa P) [2,0,1]<|oY c q pos ln o1 o3 Ay e A7 G4 o5 Gz) (jt (bn (λt=>rO (jb 74 u (jg l (jg o (jc (em (Pa P) [2,0,1]<|oY c q pos ln o1 o3 Ay e A7 G4 o5 Gz) (jb 83 t (jt (ce fM [2,0,1] (zNG c q pos ln j o3 Ay e A7 G4 o5 Gz) λ_=>bi 89 (jg zFp (gc (gw 93 (gc (gi (gc (gi (gc (gn λQ=>gc (gi (jg (zKz (g:=e) Q) (gw 97 (lG DA [0,1,2,3,4,5,6] (I _ _ · b S s a f R e)))))))))))))) (gw 97 (lG DA [0,1,2,3,4,5,6] (I _ _ · b S s a f R e))))))))))) (λt=>rO (jb 74 u (jg l (jg o (jc (em (Pa P) [2,0,1]<|oY c q pos ln o1 o3 Ay e A7 G4 o5 Gz) (jb 83 t (jt (gw 97 (lG DA [0,1,2,3,4,5,6] (I _ _ · b S s a f R e)))))))))))))))) (λ_=>lG DA [0,1,2,3,5] (I _ _ · b S a f e))
 case l6 Aq o1 o3 Ay o4 o7=>
  intro b S a f e;have a:=zBE a;refine rd f λS f=>?_
  have p:=H0;refine gs (AQ 37 DA) [0,1,2,3,4,5,6,7] p (CY (AZ Tryz.f140) 37 [b,S]) (AF 208 [(1,.ref 2 0),(3,.fn 174 1<|L1 [.ref 2 0]),(5,.msl 3 1 0<|((F c.ce:E)+1).toNat),(7,.fn 175 1<|L1 [.ref 2 0]),(14,.it 4),(16,.i Aq),(17,.it 5),(18,.ref 6 0),(140,.it 7)]) (zNF c q pos ln o1 o3 Ay e o4 o7) ?_;revert r;apply gO
  exact gn λl=>λp r h=>by
   replace h:=eB h;refine A6.nx (ops:=Am Tryz.f140 37) HC.x Z5 Z5 7 3 Ay 2 o3 e o7 V [1,3,5,7,14,16,17,18,140,142] [0,1,2,3,4,5,6] (AF 208 [(1,.ref 2 0),(3,.fn 174 1<|L1 [.ref 2 0]),(5,.msl 3 1 0<|((F c.ce:E)+1).toNat),(7,.fn 175 1<|L1 [.ref 2 0]),(14,.it 4),(16,.i Aq),(17,.it 5),(18,.ref 6 0),(142,.bool D)]) (oZ c q pos ln o1 o3 o4) [0,1,2,3,4,5,6,7] (λj=>AF 208 [(1,.ref 2 0),(3,.fn 174 1<|L1 [.ref 2 0]),(5,.msl 3 1 0<|((F c.ce:E)+1).toNat),(7,.fn 175 1<|L1 [.ref 2 0]),(14,.it 4),(16,.i Aq),(17,.it 5),(18,.ref 6 0),(140,.it 7),(142,.bool T)]) (λj=>zNN c q pos ln o1 o3 Ay e o4 o7 j) Z5 Z5 Z5 Z6 l Z5 Z5 (λ_=>Z5) (λm=>?_) λj m=>?_
   ·replace h:=h.1 m;revert r;apply gO;exact jg (by decide:(0:E)<=1/\1<((2:U):E)) (jg vC (gn λo=>jg o (ce H2 [0,1] (oZ c q pos ln o1 o3 o4) λG=>jg (φ<|sr c Aq q pos ln G o3 o4) (jg (by decide:(0:E)<=0/\0<((2:U):E)) (jg lP (jg o (ce PU [0,1] (zNO c q pos ln G o3 o4) λy3=>jg (φ<|s3 c Aq q pos ln y3 o3 o4) (gw 134 (lG (tg:=[([],sr c Aq q pos ln G o3 o4),([],s3 c Aq q pos ln y3 o3 o4)]) DA [0,1,2,3,5] (I _ _ · b a))))))))))
   ·replace h:=h.2 j m;revert r;apply gO;exact gi (jg (φ e.1) (jg (φ e.2.1) (jg (φ e.2.2) (jt (lN DA [0,1,2,3,4,5,6,8,7,9] (I _ _ · b S n a f χ e))))))
 case l7 Aq E8 o1 o3 Ay o4 o5 Bs Bt Ej Ei o8 FE=>
  intro b S s a f R e;have a:=zBE a;have f:=zBE f;refine rd R λs R=>?_
  revert r;apply gO;exact bj 148 (λu=>gc (gn λl=>jg l (gn λo=>jg o (cn λj P=>jc (em (Pa P) [2,0,1]<|Ye c q pos ln o1 o3 Ay e o4 o5 Bs Bt Ej Ei o8 FE) (jt (bn (λt=>rO (jb 148 u (jg l (jg o (jc (em (Pa P) [2,0,1]<|Ye c q pos ln o1 o3 Ay e o4 o5 Bs Bt Ej Ei o8 FE) (jb 158 t (jt (cn λG v=>jc (em (fM v) [2,0,1]<|oc c q pos ln j o3 Ay e o4 o5 Bs Bt Ej Ei o8 FE) (bj 164 (λw=>bj 169 (λK=>bn (λy=>rO (jb 148 u (jo 149 (AO.int (k:=.i64)<|zMw y) (jg l (jg o (jc (em (Pa P) [2,0,1]<|Ye c q pos ln o1 o3 Ay e o4 o5 Bs Bt Ej Ei o8 FE) (jb 158 t (jt (jc (em (fM v) [2,0,1]<|oc c q pos ln j o3 Ay e o4 o5 Bs Bt Ej Ei o8 FE) (jb 164 w (jb 169 K (jg (by decide:(0:E)<=0/\0<((2:U):E)) (jt (gw 175 (lG DA [0,1,2,3,4,5,6,7,8,9] (I _ _ · b S s a f R e)))))))))))))))) (λy=>bn (λz=>rO (jb 148 u (jo 149 (AO.int (k:=.i64)<|zMw z) (jg l (jg o (jc (em (Pa P) [2,0,1]<|Ye c q pos ln o1 o3 Ay e o4 o5 Bs Bt Ej Ei o8 FE) (jb 158 t (jt (jc (em (fM v) [2,0,1]<|oc c q pos ln j o3 Ay e o4 o5 Bs Bt Ej Ei o8 FE) (jb 164 w (jb 169 K (jg (by decide:(0:E)<=1/\1<((2:U):E)) (jt (gw 175 (lG DA [0,1,2,3,4,5,6,7,8,9] (I _ _ · b S s a f R e)))))))))))))))) λz=>nO)) (λ_=>gw 175 (lG DA [0,1,2,3,4,5,6,7,8,9] (I _ _ · b S s a f R e)))) (λ_=>gw 175 (lG DA [0,1,2,3,4,5,6,7,8,9] (I _ _ · b S s a f R e)))))))))))) (λt=>rO (jb 148 u (jg l (jg o (jc (em (Pa P) [2,0,1]<|Ye c q pos ln o1 o3 Ay e o4 o5 Bs Bt Ej Ei o8 FE) (jb 158 t (jt (gw 175 (lG DA [0,1,2,3,4,5,6,7,8,9] (I _ _ · b S s a f R e)))))))))))))))) (λ_=>lG DA [0,1,2,3,4,5,6,8] (I _ _ · b S a f e))
 case l8 x8 BE o1 o3 Ay o4 MV=>
  intro b S a f e;have a:=zBE a;refine rd f λS f=>?_
  have p:=H0;refine gs (AQ 17 DA) [0,1,2,3,4] p (CY (AZ Tryz.f140) 17 [b,S]) (AF 208 [(1,.ref 2 0),(3,.fn 174 1<|L1 [.ref 2 0]),(4,.i (F c.ce:E)),(5,.msl 3 1 0<|((F c.ce:E)+1).toNat),(7,.fn 175 1<|L1 [.ref 2 0]),(8,.i x8),(58,.i (F c.ce:E)),(59,.i BE),(66,.it 4)]) (zNM c q pos ln o1 o3 Ay e o4 MV) ?_;revert r;apply gO
  exact gn λl=>λp r h=>by
   replace h:=eB h;refine A6.nx (ops:=Am Tryz.f140 17) HC.x Z5 Z5 4 3 Ay 2 o3 e o4 (Z MV) [1,3,4,5,7,8,58,59,66,68] [0,1,2,3] (AF 208 [(1,.ref 2 0),(3,.fn 174 1<|L1 [.ref 2 0]),(4,.i (F c.ce:E)),(5,.msl 3 1 0<|((F c.ce:E)+1).toNat),(7,.fn 175 1<|L1 [.ref 2 0]),(8,.i x8),(58,.i (F c.ce:E)),(59,.i BE),(68,.bool D)]) (od c q pos ln o1 o3) [0,1,2,3,4] (λj=>AF 208 [(1,.ref 2 0),(3,.fn 174 1<|L1 [.ref 2 0]),(4,.i (F c.ce:E)),(5,.msl 3 1 0<|((F c.ce:E)+1).toNat),(7,.fn 175 1<|L1 [.ref 2 0]),(8,.i x8),(58,.i (F c.ce:E)),(59,.i BE),(66,.it 4),(68,.bool T)]) (λj=>zd c q pos ln o1 o3 Ay e o4 j) Z5 Z5 Z5 Z6 l Z5 Z5 (λ_=>Z5) (λm=>?_) λj m=>?_
   ·replace h:=h.1 m;revert r;apply gO;exact gw 98 (lG DA [0,1,2,3] (I _ _ · b a))
   ·replace h:=h.2 j m;revert r;apply gO;exact gi (jg (φ e.1) (jg (φ e.2.1) (jg (φ e.2.2) (jt (lN DA [0,1,2,3,5,4,6] (I _ _ · b S n a f χ e))))))
 case l9 Aq o1 o3 Ay o4 o5 Bs Bt o7 MU=>
  intro b S a f e;have a:=zBE a;refine rd f λS f=>?_
  have p:=H0;refine gs (AQ 37 DA) [0,1,2,3,4,5,6,7] p (CY (AZ Tryz.f140) 37 [b,S]) (AF 208 [(1,.ref 2 0),(3,.fn 174 1<|L1 [.ref 2 0]),(5,.msl 3 1 0<|((F c.ce:E)+1).toNat),(7,.fn 175 1<|L1 [.ref 2 0]),(14,.it 4),(16,.i Aq),(17,.it 5),(18,.ref 6 0),(140,.it 7)]) (zNL c q pos ln o1 o3 Ay e o4 o5 Bs Bt o7 MU) ?_;revert r;apply gO
  exact gn λl=>λp r h=>by
   replace h:=eB h;refine A6.nx (ops:=Am Tryz.f140 37) HC.x Z5 Z5 7 3 Ay 2 o3 e o7 (Z MU) [1,3,5,7,14,16,17,18,140,142] [0,1,2,3,4,5,6] (AF 208 [(1,.ref 2 0),(3,.fn 174 1<|L1 [.ref 2 0]),(5,.msl 3 1 0<|((F c.ce:E)+1).toNat),(7,.fn 175 1<|L1 [.ref 2 0]),(14,.it 4),(16,.i Aq),(17,.it 5),(18,.ref 6 0),(142,.bool D)]) (oa c q pos ln o1 o3 o4 o5 Bs Bt) [0,1,2,3,4,5,6,7] (λj=>AF 208 [(1,.ref 2 0),(3,.fn 174 1<|L1 [.ref 2 0]),(5,.msl 3 1 0<|((F c.ce:E)+1).toNat),(7,.fn 175 1<|L1 [.ref 2 0]),(14,.it 4),(16,.i Aq),(17,.it 5),(18,.ref 6 0),(140,.it 7),(142,.bool T)]) (λj=>zNI c q pos ln o1 o3 Ay e o4 o5 Bs Bt o7 j) Z5 Z5 Z5 Z6 l Z5 Z5 (λ_=>Z5) (λm=>?_) λj m=>?_
   ·replace h:=h.1 m;revert r;apply gO;exact jg (by decide:(0:E)<=1/\1<((2:U):E)) (bi 179 (jg vC (gn λo=>jg o (ce H2 [0,1] (oa c q pos ln o1 o3 o4 o5 Bs Bt) λG=>jg (φ<|kJ c Aq q pos ln G o3 o4 o5 Bs Bt) (jg (by decide:(0:E)<=0/\0<((2:U):E)) (bi 197 (jg lP (jg o (ce PU [0,1] (zNK c q pos ln G o3 o4 o5 Bs Bt) λy3=>jg (φ<|sw c Aq q pos ln y3 o3 o4 o5 Bs Bt) (gw 134 (lG (tg:=[([],kJ c Aq q pos ln G o3 o4 o5 Bs Bt),([],sw c Aq q pos ln y3 o3 o4 o5 Bs Bt)]) DA [0,1,2,3,5] (I _ _ · b a)))))) (gw 134 (lG (tg:=[([],kJ c Aq q pos ln G o3 o4 o5 Bs Bt)]) DA [0,1,2,3,5] (I _ _ · b a)))))))) (jg (by decide:(0:E)<=0/\0<((2:U):E)) (bi 197 (jg lP (gi (ce PU [0,1] (oa c q pos ln o1 o3 o4 o5 Bs Bt) λG=>jg (φ<|su c Aq q pos ln G o3 o4 o5 Bs Bt) (gw 134 (lG (tg:=[([],su c Aq q pos ln G o3 o4 o5 Bs Bt)]) DA [0,1,2,3,5] (I _ _ · b a)))))) (gw 134 (lG DA [0,1,2,3,5] (I _ _ · b a))))))
   ·replace h:=h.2 j m;revert r;apply gO;exact gi (jg (φ e.1) (jg (φ e.2.1) (jg (φ e.2.2) (jt (lN DA [0,1,2,3,4,5,6,8,7,9] (I _ _ · b S n a f χ e))))))
def zG1(h:T5 n c q pos ln lost=Z r):EQ 140 [.ref 0 0] [oW c q pos 1 ln,oI lost] (.bool r.1) [oW c q pos 1 ln,oI r.2] D:=by
 refine ot Tryz.func140 λϙ N=>?_
 revert r;apply gO;exact bi 32 (lE DA [2] [0,1]) (gc (gw 41 (gi (lN DA [0,1,2,3] ((zG5 ϙ N c q pos ln lost n) _ _ · n χ)))))
end
end Go.Proofs.YtnkpdcmbppkkpaaGreatDoor
