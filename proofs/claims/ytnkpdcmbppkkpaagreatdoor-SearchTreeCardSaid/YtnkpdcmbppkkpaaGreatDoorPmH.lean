/- Part 8 of 8 of what the proofs of these laws stand on. -/
import Derived.Test.YtnkpdcmbppkkpaaGreatDoorPmG
set_option linter.all false
open And renaming intro->γ
open Bool renaming false->D,true->T
open Decidable renaming decide->H
open Eq renaming refl->φ
open Go renaming World->κ,Value->μ
open Go.Fence renaming wide->η
open Go.Proofs.Tryz renaming prog->B
open Inhabited renaming default->ξ
open List renaming length->F,getD->M,replicate->d,range->θ
open Nat.le renaming refl->χ
open Option renaming none->V,some->Z
open _root_ renaming Option->A,ite->C,Int->E,cond->L,List->O,Nat->U,Bool->ζ,absurd->τ,Array->υ
namespace Go.Proofs.YtnkpdcmbppkkpaaGreatDoor
open Go.RowKit
section
set_option maxRecDepth 100000
set_option maxHeartbeats 40000000
inductive i4 where
 |l1 (x4:U) (CA:Ξ) (Ed CQ:E) (o0:O Ξ)
def Sh(n:U)(self:i4->X3)(g_:O Ξ)(AN:Ω)(a:U)(c:Ξ)(R j:E)(o0:O Ξ):X3:=L (H<|j<R) (C (0<=j/\j<(F c:E)) (L (H<|M c j.toNat 0>0) (C (AI (M c j.toNat 0-1)/\((0:E)<=(M c j.toNat 0-1)/\(M c j.toNat 0-1)<(a:E))/\0+(M c j.toNat 0-1).toNat<F o0/\F (M o0 (0+(M c j.toNat 0-1).toNat) ξ)+F ([j]:Ξ)<=Av/\AI (j+1)) (self<|.l1 a c R (j+1)<|o0.set (0+(M c j.toNat 0-1).toNat)<|M o0 (0+(M c j.toNat 0-1).toNat) ξ++([j]:Ξ)) V)<|C (AI<|j+1) (self<|.l1 a c R (j+1) o0) V) V)<|C (a=F o0) (Z (o0,0)) V
def zRW(n:U)(self:i4->X3)(J:O Ξ)(e:Ω):X3:=(Mu n J ([e]:O Ω)).bind λf=>L (f != 0) (Z (([]:O Ξ),f))<|(parts n J e).bind λG=>C ((G.2:E)=G.2/\0<=G.2/\(G.2:E)<=1000000000000) (self<|.l1 (G.2).toNat G.1 (F G.1:E) 0<|d (G.2).toNat ([]:Ξ)) V
def OP(J:O Ξ)(e:Ω):U->i4->X3
 |0,_=>V
 |n+1,.l1 c a R j o0=>Sh n (OP J e n) J e c a R j o0
def i5(n:U)(J:O Ξ)(e:Ω):X3:=zRW n (OP J e n) J e
def zRY(n ϙ:U)(N:Yd 0)(g_:O Ξ)(AN:Ω)(r:(O Ξ)×E):i4->Prop:=px n ϙ η N (FQ Tryz.f185 0 (.tup 2<|L1 [.sl 1 (F r.1)<|AM AW r.1,.i r.2]) []) (AZ Tryz.f185) λ
 | .l1 c a R j o0=>(0,0,AF 48 [(4,.msl 0 1 0 c),(25,.ints a),(26,.i R),(27,.i j)],[Z<|.mo<|.rws o0 V])
def zRZ(ϙ:U)(N:Yd 0)(J:O Ξ)(e:Ω):Al (OP J e) (zRY · ϙ N J e):=ia (λ_=>rfl) λn I G r h=>by
 cases G
 case l1 x4 CA Ed CQ o0=>
  intro q a;refine rd a λq a=>?_
  revert r;apply gO;exact bi 28 (gi (bi 33 (gc (gn λb=>jw 36 b (jw 39 b (gc (gn λu=>jg u (gc (gn λi=>jg i (jg (γ (φ 0)<|φ 1) (jg (by decide:0<1) (jg i (gc (gi (jg u (jg (φ<|0+(M CA CQ.toNat 0-1).toNat) (jg i (gw 46 (lG AC [3] (I _ _ · q a)))))))))))))))))) (gw 46 (lG AC [0] (I _ _ · q a)))))<|gn λx=>lF λp=>ez AC [4,5] [0] p [0]<|H0.g x
variable{e:Ω}{J:O Ξ}{n:U}
def zRV{r:(O Ξ)×E}(h:i5 n J e=Z r):EQ 185 [.sl 1 (F J)<|AM AW J,.bools e] [] (.tup 2<|L1 [.sl 1 (F r.1)<|AM AW r.1,.i r.2]) [] T:=by
 refine ot Tryz.func185 λϙ N=>?_
 revert r;apply gO;exact ja 12 0 1 (ER (c:=Vg) (Ϝ:=([e]:O Ω)) (vals:=[.bools e]) rfl ⟨⟨_,rfl,⟨At,trivial⟩⟩,trivial⟩) (jz 12 0 (jg (φ 1) (cf gj [V] λf=>bi 15 (lF λp=>el AC [4,5] [] p [] H0 [.nils,.i f]<|AO.tupL (l:=[.nils,.i f]) (l':=[.sl 1 (F ([]:O Ξ))<|AM AW ([]:O Ξ),.i f]) rfl ⟨AO.sl_nil _ _,At,trivial⟩) (cf mW [V] λ_=>gi (jk 24 (lN AC [1] ((zRZ ϙ N J e n) _ _ · n χ)))))))
inductive XM where
 |l1 (x6 x23:E)
 |l2 (x6 x9 x23:E) (BR:Ξ) (Bj Cw:E)
def RB(n:U)(self:XM->X8)(J:O Ξ)(e:Ω)(x6 x23:E):X8:=L (H<|x23<(F J:E)) (C ((0<=x23/\x23<(F J:E))/\(0<=x23/\x23<(F e:E))) (L (!(M e x23.toNat D)) (C (AI<|x23+1) (self<|.l1 x6<|x23+1) V)<|C (AI<|x6+1) (self<|.l2 (x6+1) 0 x23 (M J x23.toNat []) ((F<|M J x23.toNat []:U):E) 0) V) V)<|(parts n J e).bind λf=>L (H<|x6>=3) (Z (f.2==1,0))<|Z (D,0)
def RA(n:U)(self:XM->X8)(g_:O Ξ)(e:Ω)(x6 v x23:E)(I:Ξ)(f p:E):X8:=L (H<|p<f) (C ((0<=p/\p<(F I:E))/\(0<=M I p.toNat 0/\M I p.toNat 0<(F e:E))) (L (M e (M I p.toNat 0).toNat D) (C (AI (v+1)/\AI (p+1)) (self<|.l2 x6 (v+1) x23 I f<|p+1) V)<|C (AI<|p+1) (self<|.l2 x6 v x23 I f<|p+1) V) V)<|L (v != 2) (Z (D,0))<|C (AI<|x23+1) (self<|.l1 x6<|x23+1) V
def zH7(n:U)(self:XM->X8)(J:O Ξ)(e:Ω):X8:=(Mu n J ([e]:O Ω)).bind λf=>L (f != 0) (Z (D,f))<|self<|.l1 0 0
def JQ(J:O Ξ)(e:Ω):U->XM->X8
 |0,_=>V
 |n+1,.l1 x6 x23=>RB n (JQ J e n) J e x6 x23
 |n+1,.l2 x6 v x23 I f p=>RA n (JQ J e n) J e x6 v x23 I f p
def UA(n:U)(J:O Ξ)(e:Ω):X8:=zH7 n (JQ J e n) J e
def zH9(n ϙ:U)(N:Yd 0)(J:O Ξ)(e:Ω)(r:ζ×E):XM->Prop:=px n ϙ η N (FQ Tryz.f186 0 (.tup 2<|L1 [.bool r.1,.i r.2]) []) (AZ Tryz.f186) λ
 | .l1 x6 x23=>(0,0,AF 63 [(0,.sl 1 (F J)<|AM AW J),(1,.bools e),(6,.i x6),(21,.sl 1 (F J)<|AM AW J),(22,.i (F J:E)),(23,.i x23)],[])
 | .l2 x6 v x23 I f p=>(1,2,AF 63 [(0,.sl 1 (F J)<|AM AW J),(1,.bools e),(6,.i x6),(9,.i v),(21,.sl 1 (F J)<|AM AW J),(22,.i (F J:E)),(23,.i x23),(35,.ints I),(36,.i f),(37,.i p)],[])
def zIA(ϙ:U)(N:Yd 0)(J:O Ξ)(e:Ω):Al (JQ J e) (zH9 · ϙ N J e):=ia (λ_=>rfl) λn I G r h=>by
 cases G
 case l1 x6 x23=>
  intro q a;refine rd a λq a=>?_
  revert r;apply gO;exact bi 24 (gc (gi (gi (bi 32 (gw 50 (lG AC [] (I _ _ · q a))) (gw 34 (lN AC [] (I _ _ · q n a χ)))))))<|cf mW [] λ_=>bi 58 (lE AC [4,5] [])<|lE AC [4,5] []
 case l2 x6 x9 x23 BR Bj Cw=>
  intro q S a c;have a:=zBE a;refine rd c λS c=>?_
  revert r;apply gO;exact bi 38 (gc (gi (gi (bi 44 (gc (gw 46 (gw 47 (lG AC [] (I _ _ · q S a c))))) (gw 47 (lG AC [] (I _ _ · q S a c))))))) (bi 49 (lE AC [4,5] []) (gw 50 (lG AC [] (I _ _ · q a))))
def zH6{r:ζ×E}(h:UA n J e=Z r):EQ 186 [.sl 1 (F J)<|AM AW J,.bools e] [] (.tup 2<|L1 [.bool r.1,.i r.2]) [] T:=by
 refine ot Tryz.func186 λϙ N=>?_
 revert r;apply gO;exact ja 16 0 1 (ER (c:=Vg) (Ϝ:=([e]:O Ω)) (vals:=[.bools e]) rfl ⟨⟨_,rfl,⟨At,trivial⟩⟩,trivial⟩) (jz 16 0 (jg (φ 1) (cf gj [V] λ_=>bi 19 (lE AC [4,5] []) (lN AC [] ((zIA ϙ N J e n) _ _ · n χ)))))
def zO(n:U)(y G:E):A ζ:=C (0<=G/\G<=(IntKind.i64.bits:E)) (Z<|bits .and .i64 (y/2^(G).toNat) 1==1) V
def Jd(n:U)(y G:E):A ζ:=zO n y G
variable{r:ζ}{y:E}
def Mi{G:E}(h:Jd n y G=Z r):EQ 155 [.i y,.i G] [] (.bool r) [] T:=by
 refine ot Tryz.func155 λϙ N=>?_
 revert r;apply gO;exact gi<|lE AC [4] []
def zG7(n:U)(AD cells:Ξ)(AV:E):A Unit:=Z ()
def zG9(n:U)(v cells:Ξ)(y:E):A Unit:=zG7 n v cells y
def zG6(v cells:Ξ)(y:E){r:Unit}(h:zG9 n v cells y=Z r):EQ 153 [.ints v,.ints cells,.i y] [] (.fn 183 3<|L1 [.ref 0 0,.ref 1 0,.ref 2 0]) [oC [.ints cells],oC [.i y],oC [.ints v]] T:=by
 refine ot Tryz.func153 λϙ N=>?_
 revert r;apply gO;exact lE AC [6] [1,2,0]
def zFq:Ar (Am Tryz.f183 4) [([0,1,2,3,4],5)] [] []:=Z0
def NS:BZ:=λi=>match i with
 |4=>.ord [([0,1,2,3,4],5)] [] []
 |_=>.no
inductive T6 where
 |l1 (x5 x10:E)
def Q6(n:U)(self:T6->A Ξ)(s:Ξ)(y:E)(v:Ξ)(a x10:E):A Ξ:=L (H<|x10<(F s:E)) (C ((0<=x10/\x10<(F s:E))/\(0<=M s x10.toNat 0/\M s x10.toNat 0<(F v:E))) ((Jd n y<|M v (M s x10.toNat 0).toNat 0).bind λf=>L f (C (AI (a+1)/\AI (x10+1)) (self<|.l1 (a+1)<|x10+1) V)<|L (H<|a>0) (L (H<|a>0) (Option.map (λl=>a::l)<|C (AI<|x10+1) (self<|.l1 0<|x10+1) V)<|C (AI<|x10+1) (self<|.l1 0<|x10+1) V)<|C (AI<|x10+1) (self<|.l1 0<|x10+1) V) V)<|L (H<|a>0) (Option.map (λl=>a::l)<|Z [])<|Z []
def vN(n:U)(self:T6->A Ξ)(Ck:Ξ)(AV:E)(AD:Ξ):A Ξ:=self<|.l1 0 0
def Ik(s:Ξ)(y:E)(v:Ξ):U->T6->A Ξ
 |0,_=>V
 |n+1,.l1 l x10=>Q6 n (Ik s y v n) s y v l x10
def T7(n:U)(s:Ξ)(y:E)(v:Ξ):A Ξ:=vN n (Ik s y v n) s y v
def lX(ϛ:Bw B)(n:U)(s:Ξ)(y:E)(v:Ξ)(r:Ξ):T6->Prop
 | .l1 a x10=>∀q:U,n<=q->∀i:U,i<=F ϛ.encs->ϛ.encs.drop i=r.map Bn->A6 B GG η V 3 (ϛ.Y GG 3 i) (ϛ.Q GG 3) (EH q<|Fo (AZ Tryz.f183) 0 []) ⟨AF 36 [(0,.yl ϛ.l),(2,.ref 1 0),(3,.ref 2 0),(5,.i a),(8,.ints s),(9,.i (F s:E)),(10,.i x10)],[oC [.ints s],oC [.i y],oC [.ints v]]⟩
def zHA(ϛ:Bw B)(n:U)(self:T6->A Ξ)(s:Ξ)(f:E)(v:Ξ)(I:∀G r,self G=Z r->lX ϛ n s f v r G)(m x10:E)(r:Ξ)(h:Q6 n self s f v m x10=Z r):lX ϛ (n+1) s f v r<|.l1 m x10:=by
 intro q o;intro i hi a;refine rd o λq o=>?_
 unfold Q6 at h;have p:=H0;rcases Bv h with⟨j,h⟩|⟨j,h⟩
 ·obtain⟨⟨K,N⟩,h⟩:=B6 h;obtain⟨y1,P,h⟩:=D4 h;have p:=H0.b 11 j|>.g K|>.g zFq|>.g N|>.c (fb (Mi P) [oC [.ints s],oC [.i f],oC [.ints v]])
  rcases Bv h with⟨k,h⟩|⟨k,h⟩
  ·obtain⟨⟨u,Q⟩,h⟩:=B6 h;have p:=p.b 19 k|>.w 21 u|>.w 30 Q
   exact gg NS [0,1,2] p<|I _ _ h q o i hi a
  ·have p:=p.b 19 k;rcases Bv h with⟨J,h⟩|⟨J,h⟩
   ·refine gs (AQ 6 NS) [0,1,2] p (CY (AZ Tryz.f183) 6 [q]) (AF 36 [(0,.yl ϛ.l),(2,.ref 1 0),(3,.ref 2 0),(5,.i m),(8,.ints s),(9,.i (F s:E)),(10,.i x10)]) [oC [.ints s],oC [.i f],oC [.ints v]] ?_;have p:=H0;rcases Bv h with⟨j,h⟩|⟨j,h⟩
    ·have p:=H0.b 23 j;obtain⟨r,t,rfl⟩:=K9 h;clear h;have h:=t;clear t;obtain⟨z,hi,a⟩:=Zl a;refine A6.y (ops:=Am Tryz.f183 6) HC.x 5 [0,2,3,8,9,10,29] [0,1,2] p (x:=Bn m) (AF 36 [(0,.yl ϛ.l),(2,.ref 1 0),(3,.ref 2 0),(8,.ints s),(9,.i (F s:E)),(10,.i x10),(29,.bool D)]) [oC [.ints s],oC [.i f],oC [.ints v]] (AF 36 [(0,.yl ϛ.l),(2,.ref 1 0),(3,.ref 2 0),(8,.ints s),(9,.i (F s:E)),(10,.i x10),(29,.bool T)]) [oC [.ints s],oC [.i f],oC [.ints v]] Z5 Z5 Z5 z Z5 ?_ ?_
     ·generalize i+1=i at hi a⊢
      obtain⟨u,h⟩:=B6 h;have p:=H0.w 30 u;exact gg NS [0,1,2] p<|I _ _ h q o i hi a
     ·exact TrI.e HC.x NS 6 H0 Z5<|.inr rfl
    ·obtain⟨u,h⟩:=B6 h;have p:=H0.b 23 j|>.w 30 u
     exact gg NS [0,1,2] p<|I _ _ h q o i hi a
   ·obtain⟨u,h⟩:=B6 h;have p:=p.b 23 J|>.w 30 u
    exact gg NS [0,1,2] p<|I _ _ h q o i hi a
 ·have p:=H0.b 11 j;rcases Bv h with⟨k,h⟩|⟨k,h⟩
  ·have p:=p.b 32 k;refine gs (AQ 10 NS) [0,1,2] p (CY (AZ Tryz.f183) 10 []) (AF 36 [(0,.yl ϛ.l),(5,.i m)]) [oC [.ints s],oC [.i f],oC [.ints v]] ?_;have p:=H0;obtain⟨r,t,rfl⟩:=K9 h;cases t;obtain⟨z,hi,a⟩:=Zl a;exact A6.yE (ops:=Am Tryz.f183 10) HC.x 2 p (x:=Bn m) Z5 Z5 Z5 z<|Sd hi a
  ·have p:=p.b 32 k;cases h;exact TrI.e HC.x NS 14 p Z5 (.inl<|by rw[Sd hi a])
def vO(ϛ:Bw B)(s:Ξ)(y:E)(v:Ξ):∀(n:U) (G:T6) (r:Ξ),Ik s y v n G=Z r->lX ϛ n s y v r G
 |0,_,_,h=>by cases h
 |n+1,.l1 l x10,r,h=>zHA ϛ n (Ik s y v n) s y v (vO ϛ s y v n) l x10 r h
def zHB(s:Ξ)(y:E)(v:Ξ){r:Ξ}(h:T7 n s y v=Z r)(ϛ:Bw B)(g:ϛ.encs=r.map Bn):A6 B GG η V 3 (ϛ.Y GG 3 0) (ϛ.Q GG 3) [.code<|AZ Tryz.f183] ⟨AF 36 [(0,.yl ϛ.l),(1,.ref 0 0),(2,.ref 1 0),(3,.ref 2 0)],[oC [.ints s],oC [.i y],oC [.ints v]]⟩:=by
 suffices Ϙ:∀i:U,i<=F ϛ.encs->ϛ.encs.drop i=r.map Bn->A6 B GG η V 3 (ϛ.Y GG 3 i) (ϛ.Q GG 3) [.code<|AZ Tryz.f183] ⟨AF 36 [(0,.yl ϛ.l),(1,.ref 0 0),(2,.ref 1 0),(3,.ref 2 0)],[oC [.ints s],oC [.i y],oC [.ints v]]⟩from Ϙ 0 (zMK _) (by rw[zMy];exact g)
 intro i hi a;have I:=vO ϛ s y v n;unfold T7 at h
 generalize Ik s y v n=self at h I
 unfold vN at h;have p:=H0;exact gg NS [0,1,2] p<|en n<|I _ _ h n χ i hi a
variable{cells v:Ξ}
def zG8{r:Ξ}(h:T7 n cells y v=Z r)(Ϙ:DH):EQ 153 [.ints v,.ints cells,.i y] Ϙ (.it<|F Ϙ) (Ϙ++[Z<|.iter<|r.map Bn]) T:=by
 refine ES.iterN (c:=L1 [.ref 0 0,.ref 1 0,.ref 2 0]) (h0:=[oC [.ints cells],oC [.i y],oC [.ints v]]) (fn:=Tryz.f183) (zG6 (n:=0) v cells y (r:=()) rfl) Z5 Tryz.func183 Z5 Z5 Z5 (λϛ g=>?_) Ϙ;have e:DV.yl ϛ.l::(θ 3).map (L1 [.ref 0 0,.ref 1 0,.ref 2 0])++d (Tryz.f183.ntmps-(3+1)) .any=AF 36 [(0,.yl ϛ.l),(1,.ref 0 0),(2,.ref 1 0),(3,.ref 2 0)]:=Z5
 rw[e];exact zHB cells y v h ϛ g
inductive OT where
 |s0
 |s1 (Ga:U) (Ew:Ξ)
def zCR:OT->DH
 | .s0=>[V,oC [.nils]]
 | .s1 x i=>[V,oC [.msl 2 1 0 x],oI i]
def aV(n:U)(b:E):A OT:=C ((0=0/\1=F ([b]:Ξ))/\0<F ([b]:Ξ)/\F ([b]:Ξ)<=Av) (Z<|.s1 (F ([b]:Ξ)) ([b]:Ξ)) V
def aU(n:U)(b:E)(x:U)(i:Ξ):A OT:=C ((0=0/\1=F ([b]:Ξ))/\(0=0/\x=F i)/\F i+F ([b]:Ξ)<=Av) (Z<|.s1 (F i+F ([b]:Ξ))<|i++([b]:Ξ)) V
def zSe(n:U)(b:E):OT->A OT
 | .s0=>aV n b
 | .s1 x i=>aU n b x i
def jS(n:U)(b:E)(s:OT):A OT:=zSe n b s
def zSd(n:U)(l ϙ:U)(N:Yd 2)(b:E)(s:OT)(r:OT)(h:jS n b s=Z r):TA l ϙ N (C3 2 [] 0<|zCR r) Tryz.f182 6 ⟨AF 13 [(2,.ref 1 0),(6,.it 0),(7,.i b)],zCR s⟩:=by
 cases s with
 |s0=>
  replace h:aV n b=Z r:=h;unfold aV at h;refine ag AC [0,1] H0 (AF 13 [(2,.ref 1 0),(5,.i b)]) [V,oC [.nils]] λN=>?_
  revert r;apply gO;exact gi<|jt<|lF λp=>rr AC [0,1,3] rfl p
 |s1 x a=>
  replace h:aU n b x a=Z r:=h;unfold aU at h;refine ag AC [0,1,2] H0 (AF 13 [(2,.ref 1 0),(5,.i b)]) [V,oC [.msl 2 1 0 x],oI a] λN=>?_
  revert r;apply gO;exact gi<|jt<|lF λp=>rr AC [0,1,4] rfl p
def rQ(n:U)(l:Ξ):A Ξ:=
 (CC (jS n) l<|.s0).bind λf=>
  match f with
  | .s0=>
   Z ([]:Ξ)
  | .s1 P u=>
   if P=F u then
    Z u
   else V
def jT(n:U)(l:Ξ):A Ξ:=rQ n l
variable{l:Ξ}
def zSc{r:Ξ}(h:jT n l=Z r):EQ 182 [.nils,.it 0] [Z<|.iter<|(l).map Bn] (.ints r) [V] D:=by
 unfold jT rQ at h;refine ot Tryz.func182 λϙ N=>?_
 revert r;apply gO
 exact cn λf P=>λp r h=>by
  refine gs AC [0,1] p (Ho (AZ Tryz.f182) 6 []) (AF 13 [(2,.ref 1 0),(6,.it 0)]) [Z<|.iter<|(l).map Bn,oC [.nils]] ?_;refine r0 0 6 #[7] Bn 2 P (zSd n) ?_;cases f with
  |s0=>
   dsimp only at h
   revert r;apply gO;exact lF λp=>el AC [4] [0] p [] H0 [.nils] AO.ints_nil
  |s1 TJ Qk=>
   dsimp only at h
   revert r;apply gO;exact gn λx=>lF λp=>ez AC [4] [0,2] p [1]<|H0.g x
def qj(n:U)(l:Ξ):A Ξ:=(jT n l).bind λf=>Z f
def Si(n:U)(l:Ξ):A Ξ:=qj n l
def zRd{r:Ξ}(h:Si n l=Z r):EQ 152 [.it 0] [Z<|.iter<|(l).map Bn] (.ints r) [V] D:=by
 unfold Si qj at h;refine ot Tryz.func152 λϙ N=>?_
 revert r;apply gO;exact ce zSc [0] [Z<|.iter<|(l).map Bn] λ_=>lE AC [2] [0]
inductive iT where
 |l1 (x5 x10:E)
def Zm(n:U)(self:iT->A ζ)(v cells:Ξ)(l x10:E):A ζ:=L (H<|x10<(F cells:E)) (C ((0<=x10/\x10<(F cells:E))/\(0<=M cells x10.toNat 0/\M cells x10.toNat 0<(F v:E))) ((Jd n l<|M v (M cells x10.toNat 0).toNat 0).bind λf=>L f (Z D)<|C ((0<=M v (M cells x10.toNat 0).toNat 0/\M v (M cells x10.toNat 0).toNat 0<=(IntKind.i64.bits:E))/\AI (x10+1)) (self<|.l1 (bits .or .i64 l<|IntKind.i64.wrap<|1*2^(M v (M cells x10.toNat 0).toNat 0).toNat)<|x10+1) V) V)<|Z T
def zQX(n:U)(self:iT->A ζ)(AD cells:Ξ):A ζ:=self<|.l1 0 0
def QN(v cells:Ξ):U->iT->A ζ
 |0,_=>V
 |n+1,.l1 l x10=>Zm n (QN v cells n) v cells l x10
def iU(n:U)(v cells:Ξ):A ζ:=zQX n (QN v cells n) v cells
def zQY(n ϙ:U)(N:Yd 0)(v cells:Ξ)(r:ζ):iT->Prop:=px n ϙ η N (FQ Tryz.f148 0 (.bool r) []) (AZ Tryz.f148) λ
 | .l1 l x10=>(0,0,AF 28 [(0,.ints v),(5,.i l),(8,.ints cells),(9,.i (F cells:E)),(10,.i x10)],[])
def zQZ(ϙ:U)(N:Yd 0)(v cells:Ξ):Al (QN v cells) (zQY · ϙ N v cells):=ia (λ_=>rfl) λn I G r h=>by
 cases G
 case l1 x5 x10=>
  intro q a;refine rd a λq a=>?_
  revert r;apply gO;exact bi 11 (gc (gi (gn λp=>jg p (cf Mi [] λ_=>bi 19 (lE AC [4] []) (jg p (gc (gi (gw 27 (lG AC [] (I _ _ · q a))))))))))<|lE AC [4] []
def zQW(h:iU n v cells=Z r):EQ 148 [.ints v,.ints cells] [] (.bool r) [] T:=by
 refine ot Tryz.func148 λϙ N=>?_
 revert r;apply gO;exact lN AC [] ((zQZ ϙ N v cells n) _ _ · n χ)
inductive ik where
 |l1 (x6 Ab:E)
def aB(n:U)(self:ik->A E)(v cells:Ξ)(y:E)(x6 a:E):A E:=L (H<|a<(F cells:E)) (C ((0<=a/\a<(F cells:E))/\(0<=M cells a.toNat 0/\M cells a.toNat 0<(F v:E))) ((Jd n y<|M v (M cells a.toNat 0).toNat 0).bind λf=>L f (C (AI (x6+1)/\AI (a+1)) (self<|.l1 (x6+1)<|a+1) V)<|C (AI<|a+1) (self<|.l1 x6<|a+1) V) V)<|Z x6
def zQ3(n:U)(self:ik->A E)(AD cells:Ξ)(AV:E):A E:=self<|.l1 0 0
def VY(v cells:Ξ)(y:E):U->ik->A E
 |0,_=>V
 |n+1,.l1 x6 a=>aB n (VY v cells y n) v cells y x6 a
def il(n:U)(v cells:Ξ)(y:E):A E:=zQ3 n (VY v cells y n) v cells y
def zQ4(n ϙ:U)(N:Yd 0)(v cells:Ξ)(y:E)(r:E):ik->Prop:=px n ϙ η N (FQ Tryz.f149 0 (.i r) []) (AZ Tryz.f149) λ
 | .l1 x6 a=>(0,0,AF 25 [(0,.ints v),(2,.i y),(6,.i x6),(9,.ints cells),(10,.i (F cells:E)),(11,.i a)],[])
def zQ5(ϙ:U)(N:Yd 0)(v cells:Ξ)(y:E):Al (VY v cells y) (zQ4 · ϙ N v cells y):=ia (λ_=>rfl) λn I G r h=>by
 cases G
 case l1 x6 Ab=>
  intro q a;refine rd a λq a=>?_
  revert r;apply gO;exact bi 12 (gc (gi (gi (cf Mi [] λ_=>bi 20 (gc (gw 22 (gw 23 (lG AC [] (I _ _ · q a))))) (gw 23 (lG AC [] (I _ _ · q a)))))))<|lE AC [6] []
def zQ2{r:E}(h:il n v cells y=Z r):EQ 149 [.ints v,.ints cells,.i y] [] (.i r) [] T:=by
 refine ot Tryz.func149 λϙ N=>?_
 revert r;apply gO;exact lN AC [] ((zQ5 ϙ N v cells y n) _ _ · n χ)
inductive bU where
 |l1 (x6 Ab:E)
def WO(n:U)(self:bU->A E)(X v cells:Ξ)(x6 a:E):A E:=L (H<|a<(F cells:E)) (C ((0<=a/\a<(F cells:E))/\(0<=M cells a.toNat 0/\M cells a.toNat 0<(F v:E))/\(0<=M v (M cells a.toNat 0).toNat 0/\M v (M cells a.toNat 0).toNat 0<(F X:E))/\AI (x6+M X (M v (M cells a.toNat 0).toNat 0).toNat 0)/\AI (a+1)) (self<|.l1 (x6+M X (M v (M cells a.toNat 0).toNat 0).toNat 0)<|a+1) V)<|Z x6
def zEA(n:U)(self:bU->A E)(BH AD cells:Ξ):A E:=self<|.l1 0 0
def Td(X v cells:Ξ):U->bU->A E
 |0,_=>V
 |n+1,.l1 x6 a=>WO n (Td X v cells n) X v cells x6 a
def bV(n:U)(X v cells:Ξ):A E:=zEA n (Td X v cells n) X v cells
def zEB(n ϙ:U)(N:Yd 0)(X v cells:Ξ)(r:E):bU->Prop:=px n ϙ η N (FQ Tryz.f150 0 (.i r) []) (AZ Tryz.f150) λ
 | .l1 x6 a=>(0,0,AF 26 [(0,.ints X),(1,.ints v),(6,.i x6),(9,.ints cells),(10,.i (F cells:E)),(11,.i a)],[])
def zEC(ϙ:U)(N:Yd 0)(X v cells:Ξ):Al (Td X v cells) (zEB · ϙ N X v cells):=ia (λ_=>rfl) λn I G r h=>by
 cases G
 case l1 x6 Ab=>
  intro q a;refine rd a λq a=>?_
  revert r;apply gO;exact bi 12 (gc (gi (gc (gi (gc (gi (gc (gw 23 (gw 24 (lG AC [] (I _ _ · q a)))))))))))<|lE AC [6] []
variable{X:Ξ}
def zD9{r:E}(h:bV n X v cells=Z r):EQ 150 [.ints X,.ints v,.ints cells] [] (.i r) [] T:=by
 refine ot Tryz.func150 λϙ N=>?_
 revert r;apply gO;exact lN AC [] ((zEC ϙ N X v cells n) _ _ · n χ)
inductive ct where
 |l1 (x7 A4:E)
def XK(n:U)(self:ct->A ζ)(X v cells:Ξ)(p m:E):A ζ:=L (H<|m<(F cells:E)) (C ((0<=m/\m<(F cells:E))/\(0<=M cells m.toNat 0/\M cells m.toNat 0<(F v:E))/\(0<=M v (M cells m.toNat 0).toNat 0/\M v (M cells m.toNat 0).toNat 0<(F X:E))) (L (H<|M X (M v (M cells m.toNat 0).toNat 0).toNat 0<=p) (Z D)<|C (AI<|m+1) (self<|.l1 (M X (M v (M cells m.toNat 0).toNat 0).toNat 0)<|m+1) V) V)<|Z T
def zHy(n:U)(self:ct->A ζ)(BH AD cells:Ξ):A ζ:=self<|.l1 (-1) 0
def PA(X v cells:Ξ):U->ct->A ζ
 |0,_=>V
 |n+1,.l1 p m=>XK n (PA X v cells n) X v cells p m
def cu(n:U)(X v cells:Ξ):A ζ:=zHy n (PA X v cells n) X v cells
def zHz(n ϙ:U)(N:Yd 0)(X v cells:Ξ)(r:ζ):ct->Prop:=px n ϙ η N (FQ Tryz.f151 0 (.bool r) []) (AZ Tryz.f151) λ
 | .l1 p m=>(0,0,AF 33 [(0,.ints X),(1,.ints v),(7,.i p),(10,.ints cells),(11,.i (F cells:E)),(12,.i m)],[])
def zH0(ϙ:U)(N:Yd 0)(X v cells:Ξ):Al (PA X v cells) (zHz · ϙ N X v cells):=ia (λ_=>rfl) λn I G r h=>by
 cases G
 case l1 x7 A4=>
  intro q a;refine rd a λq a=>?_
  revert r;apply gO;exact bi 13 (gc (gi (gc (gn λp=>jg p (gn λu=>jg u (bi 24 (lE AC [6] []) (jg p (jg u (gw 32 (lG AC [] (I _ _ · q a)))))))))))<|lE AC [6] []
def zHx(h:cu n X v cells=Z r):EQ 151 [.ints X,.ints v,.ints cells] [] (.bool r) [] T:=by
 refine ot Tryz.func151 λϙ N=>?_
 revert r;apply gO;exact lN AC [] ((zH0 ϙ N X v cells n) _ _ · n χ)
def zCV(n:U)(a P e:E):A ζ:=C (AI (a-P)/\AI (P-a)) (Z<|H<|(C ((P-a)>(a-P)) (P-a)<|a-P)>=e) V
def rS(n:U)(a P e:E):A ζ:=zCV n a P e
variable{a:E}
def zSk{P e:E}(h:rS n a P e=Z r):EQ 154 [.i a,.i P,.i e] [] (.bool r) [] T:=by
 refine ot Tryz.func154 λϙ N=>?_
 revert r;apply gO;exact gc<|gw 9<|gw 12<|lE AC [6] []
def zGV:Ar (Am Tryz.f184 0) [([0,1,2,3,4,5,6],7)] [8] [9]:=Z0
def zFL:BZ:=λi=>match i with
 |0=>.ord [([0,1,2,3,4,5,6],7)] [8] [9]
 |_=>.no
def yL(n:U)(Y y:E)(v:Ξ)(ln:U)(a:Ω):A Ω:=C (0<=Y/\Y<(F v:E)) ((Jd n y<|M v Y.toNat 0).bind λf=>C ((0<=Y/\Y<(ln:E))/\0+Y.toNat<F a) (Z<|a.set (0+Y.toNat) f) V) V
def nD(n:U)(Y y:E)(v:Ξ)(ln:U)(a:Ω):A Ω:=yL n Y y v ln a
def zKZ{ln:U}{Y:Ω}{r:Ω}(h:nD n a y v ln Y=Z r):EQ 184 [.i a,.ref 0 0,.ref 1 0,.ref 2 0] [oC [.i y],oC [.ints v],oC [.msl 3 1 0 ln],Z<|.bools Y] (.tup 0 λj=>([]:O DV).getD j .any) [oC [.i y],oC [.ints v],oC [.msl 3 1 0 ln],Z<|.bools r] D:=by
 refine ot Tryz.func184 λϙ N=>?_
 revert r;apply gO;exact jg zGV<|gi<|cf Mi [oC [.i y],oC [.ints v],oC [.msl 3 1 0 ln],Z<|.bools Y] λ_=>gc<|gi<|gi<|lE zFL [] [0,1,2,3]
inductive fQ where
 |l1 (CA:E) (o1:Ω)
def YK(n:U)(self:fQ->A ζ)(a:O Ξ)(v cells:Ξ)(y:E)(loop:ζ)(c:E)(o1:Ω):A ζ:=L (H<|c<(F cells:E)) (C (0<=c/\c<(F cells:E)) ((nD n (M cells c.toNat 0) y v (F v) o1).bind λf=>C (AI<|c+1) (self<|.l1 (c+1) f) V) V)<|C (F v=F o1) ((i5 n a o1).bind λf=>L (!loop) (Z<|H<|(F f.1:E)<=1)<|L ((F f.1:E)==0) (Z<|H<|(F f.1:E)<=1)<|(UA n a o1).bind λG=>Z G.1) V
def yz(n:U)(self:fQ->A ζ)(C0:O Ξ)(v cells:Ξ)(AV:E)(loop:ζ):A ζ:=C (((F v:E):E)=(F v:E)/\0<=(F v:E)/\((F v:E):E)<=1000000000000) (self<|.l1 0<|d (F v) D) V
def Uf(a:O Ξ)(v cells:Ξ)(y:E)(loop:ζ):U->fQ->A ζ
 |0,_=>V
 |n+1,.l1 c o1=>YK n (Uf a v cells y loop n) a v cells y loop c o1
def Ug(n:U)(a:O Ξ)(v cells:Ξ)(y:E)(loop:ζ):A ζ:=yz n (Uf a v cells y loop n) a v cells y loop
def zLh(n ϙ:U)(N:Yd 0)(a:O Ξ)(v cells:Ξ)(y:E)(loop:ζ)(r:ζ):fQ->Prop:=px n ϙ η N (FQ Tryz.f156 0 (.bool r) []) (AZ Tryz.f156) λ
 | .l1 c o1=>(0,0,AF 56 [(0,.sl 1 (F a)<|AM AW a),(4,.bool loop),(11,.ref 0 0),(12,.fn 184 3<|L1 [.ref 2 0,.ref 3 0,.ref 0 0]),(23,.ints cells),(24,.i (F cells:E)),(25,.i c)],[oC [.msl 1 1 0<|F v],Z<|.bools o1,oC [.i y],oC [.ints v]])
def zLi(ϙ:U)(N:Yd 0)(a:O Ξ)(v cells:Ξ)(y:E)(loop:ζ):Al (Uf a v cells y loop) (zLh · ϙ N a v cells y loop):=ia (λ_=>rfl) λn I G r h=>by
 cases G
 case l1 CA o1=>
  intro q b;refine rd b λq b=>?_
  revert r;apply gO
  exact bi 26 (gi (ce zKZ [2,3,0,1] [oC [.msl 1 1 0<|F v],Z<|.bools o1,oC [.i y],oC [.ints v]] λ_=>gw 32 (lG AC [0,1,2,3] (I _ _ · q b)))) (gn λx=>λp r h=>by
   refine gz (AQ 8 AC) [0,1] p [1] (H0.g x) (CY (AZ Tryz.f156) 8 []) (AF 56 [(0,.sl 1 (F a)<|AM AW a),(4,.bool loop),(11,.ref 0 0)]) [oC [.bools o1],V] ?_;revert r;apply gO;exact cf zRV [oC [.bools o1],V] λ_=>bi 40 (lE AC [10] [])<|bi 44 (lE AC [10] [])<|cf zH6 [oC [.bools o1],V] λ_=>lE AC [10] [])
def zLg{a:O Ξ}{loop:ζ}(h:Ug n a v cells y loop=Z r):EQ 156 [.sl 1 (F a)<|AM AW a,.ints v,.ints cells,.i y,.bool loop] [] (.bool r) [] T:=by
 refine ot Tryz.func156 λϙ N=>?_
 revert r;apply gO;exact gi (jt (lN AC [3,2,1,0] ((zLi ϙ N a v cells y loop n) _ _ · n χ)))
def q9(n:U)(v:E)(c:AE):A ζ:=L (H<|c.lo<=v) (Z<|H<|v<=c.hi)<|Z D
def Sq(n:U)(v:E)(c:AE):A ζ:=q9 n v c
def zB7{v:E}{c:AE}(h:Sq n v c=Z r):EQ 147 [.i v,.fp 9<|L1<|BD c] [] (.bool r) [] T:=by
 refine ot Tryz.func147 λϙ N=>?_
 revert r;apply gO;exact bi 7 (lE AC [3] [])<|lE AC [3] []
def zGT:Ar (Am Tryz.f120 12) [([0,1,2,3,4,7,8],5),([],6),([],9)] [10] []:=Z0
def zGS:Ar (Am Tryz.f120 14) [([0,1,2,3,4,5,6,7,8,9,10,11,12,13,14,15,16,17,18,19,20,21,22,23],24)] [25] []:=Z0
def zGR:Ar (Am Tryz.f120 16) [] (θ 16) []:=Z0
def O0:BZ:=λi=>match i with
 |12=>.ord [([0,1,2,3,4,7,8],5),([],6),([],9)] [10] []
 |14=>.ord [([0,1,2,3,4,5,6,7,8,9,10,11,12,13,14,15,16,17,18,19,20,21,22,23],24)] [25] []
 |16=>.ord [] (θ 16) []
 |_=>.no
def Mb(n:U)(q:AA)(Y:AE)(v:Ξ):A ζ:=L (Y.kind==1) ((iU n v Y.ce).bind λf=>Z f)<|L (Y.kind==2) ((il n v Y.ce Y.set).bind λf=>(Sq n f Y).bind λG=>Z G)<|L (Y.kind==3) ((bV n q.va v Y.ce).bind λf=>(Sq n f Y).bind λG=>Z G)<|L (Y.kind==4) ((cu n q.va v Y.ce).bind λf=>Z f)<|L (Y.kind==5) ((T7 n Y.ce Y.set v).bind λf=>(Si n f).bind λG=>(QJ n G Y.ru).bind λy3=>Z y3)<|L (Y.kind==6) (C (((0:E)<=0/\0<(F Y.ce:E))/\(0<=M Y.ce 0 0/\M Y.ce 0 0<(F v:E))/\(0<=M v (M Y.ce 0 0).toNat 0/\M v (M Y.ce 0 0).toNat 0<(F q.va:E))/\((0:E)<=1/\1<(F Y.ce:E))/\(0<=M Y.ce 1 0/\M Y.ce 1 0<(F v:E))/\(0<=M v (M Y.ce 1 0).toNat 0/\M v (M Y.ce 1 0).toNat 0<(F q.va:E))) ((rS n (M q.va (M v (M Y.ce 0 0).toNat 0).toNat 0) (M q.va (M v (M Y.ce 1 0).toNat 0).toNat 0) Y.lo).bind λf=>Z f) V)<|L (Y.kind==7) (C (((0:E)<=0/\0<(F Y.ce:E))/\(0<=M Y.ce 0 0/\M Y.ce 0 0<(F v:E))/\((0:E)<=1/\1<(F Y.ce:E))/\(0<=M Y.ce 1 0/\M Y.ce 1 0<(F v:E))) ((Jd n Y.set<|M v (M Y.ce 0 0).toNat 0).bind λf=>L f ((Jd n Y.other<|M v (M Y.ce 1 0).toNat 0).bind λG=>L G (Z D)<|(Jd n Y.set<|M v (M Y.ce 1 0).toNat 0).bind λy3=>L y3 ((Jd n Y.other<|M v (M Y.ce 0 0).toNat 0).bind λa=>Z<|!a)<|Z T)<|(Jd n Y.set<|M v (M Y.ce 1 0).toNat 0).bind λG=>L G ((Jd n Y.other<|M v (M Y.ce 0 0).toNat 0).bind λy3=>Z<|!y3)<|Z T) V)<|(Ug n q.nb v Y.ce Y.set<|Y.kind==9).bind λf=>Z f
def He(n:U)(q:AA)(Y:AE)(v:Ξ):A ζ:=Mb n q Y v
variable{q:AA}
def zKW{Y:AE}(h:He n q Y v=Z r):EQ 120 [.agg 5<|L1<|AG q,.agg 9<|L1<|BD Y,.ints v] [] (.bool r) [] T:=by
 refine ot Tryz.func120 λϙ N=>?_
 revert r;apply gO;exact bi 14 (cf zQW [oC<|AG q,oC<|BD Y] λ_=>lE AC [6] [])<|bi 20 (cf zQ2 [oC<|AG q,oC<|BD Y] λf=>cn λG x=>jc (sb [.i f,.ref 1 0] (zB7 x) [oC<|AG q,oC<|BD Y] ⟨Ad.plain Z5,Ad.refL (l:=BD Y) (l0:=BD Y) rfl ⟨Ad.plain Z5,Ad.plain Z5,Ad.plain Z5,Ad.plain Z5,Ad.plain Z5,Ad.plain Z5,Ad.plain Z5,Ad.plain Z5,Ad.plain Z5,trivial⟩,trivial⟩)<|lE AC [6] [])<|bi 30 (cf zD9 [oC<|AG q,oC<|BD Y] λf=>cn λG x=>jc (sb [.i f,.ref 1 0] (zB7 x) [oC<|AG q,oC<|BD Y] ⟨Ad.plain Z5,Ad.refL (l:=BD Y) (l0:=BD Y) rfl ⟨Ad.plain Z5,Ad.plain Z5,Ad.plain Z5,Ad.plain Z5,Ad.plain Z5,Ad.plain Z5,Ad.plain Z5,Ad.plain Z5,Ad.plain Z5,trivial⟩,trivial⟩)<|lE AC [6] [])<|bi 40 (cf zHx [oC<|AG q,oC<|BD Y] λ_=>lE AC [6] [])<|bi 48 (jg zGT<|cn λf P=>jc (zG8 P [oC<|AG q,oC<|BD Y])<|cn λG x=>jq (eu (zRd x) [2] [oC<|AG q,oC<|BD Y,Z<|.iter<|(f).map Bn] 2)<|cf qW [oC<|AG q,oC<|BD Y,V] λ_=>lE O0 [6] [])<|bi 60 (jg zGS<|gc<|gi<|gc<|gi<|gc<|gi<|gc<|gi<|gc<|gi<|gi<|cf zSk [oC<|AG q,oC<|BD Y] λ_=>lE O0 [6] [])<|bi 87 (jg zGR<|gc<|gi<|gc<|gi<|gc<|gi<|gi<|cf Mi [oC<|AG q,oC<|BD Y] λ_=>bi 105 (cf Mi [oC<|AG q,oC<|BD Y] λ_=>bi 110 (lE O0 [6] [])<|cf Mi [oC<|AG q,oC<|BD Y] λ_=>bi 116 (cf Mi [oC<|AG q,oC<|BD Y] λ_=>lE O0 [6] [])<|lE O0 [6] [])<|cf Mi [oC<|AG q,oC<|BD Y] λ_=>bi 116 (cf Mi [oC<|AG q,oC<|BD Y] λ_=>lE O0 [6] [])<|lE O0 [6] [])<|cf zLg [oC<|AG q,oC<|BD Y] λ_=>lE O0 [6] []
def sd(n:U)(v w:E):A ζ:=L (H<|v<0) (Z T)<|Z<|H<|v>=w
def bG(n:U)(v w:E):A ζ:=sd n v w
variable{w:E}
def zDd{v:E}(h:bG n v w=Z r):EQ 181 [.i v,.fp 1<|L1 [.i w]] [] (.bool r) [] T:=by
 refine ot Tryz.func181 λϙ N=>?_
 revert r;apply gO;exact bi 5 (lE AC [3] [])<|lE AC [3] []
inductive fY where
 |l1 (x8:E)
def YO(n:U)(self:fY->A E)(l:Ξ)(w:E)(x8:E):A E:=L (H<|x8<(F l:E)) (C (0<=x8/\x8<(F l:E)) ((bG n (M l x8.toNat 0) w).bind λf=>L f (Z x8)<|C (AI<|x8+1) (self<|.l1<|x8+1) V) V)<|Z<|-1
def zLz(n:U)(self:fY->A E)(l:Ξ)(Dm:E):A E:=self<|.l1 0
def Pm(l:Ξ)(w:E):U->fY->A E
 |0,_=>V
 |n+1,.l1 x8=>YO n (Pm l w n) l w x8
def zJ(n:U)(l:Ξ)(w:E):A E:=zLz n (Pm l w n) l w
def zL0(n ϙ:U)(N:Yd 0)(l:Ξ)(w:E)(r:E):fY->Prop:=px n ϙ η N (FQ Tryz.f111 0 (.i r) []) (AZ Tryz.f111) λ
 | .l1 x8=>(0,0,AF 19 [(0,.ints l),(1,.fn 181 1<|L1 [.fp 1<|L1 [.i w]]),(7,.i (F l:E)),(8,.i x8)],[])
def zL1(ϙ:U)(N:Yd 0)(l:Ξ)(w:E):Al (Pm l w) (zL0 · ϙ N l w):=ia (λ_=>rfl) λn I G r h=>by
 cases G
 case l1 x8=>
  intro q a;refine rd a λq a=>?_
  revert r;apply gO;exact bi 9 (gi (cf zDd [] λ_=>bi 16 (lE AC [4] []) (gw 18 (lG AC [] (I _ _ · q a)))))<|lE AC [4] []
def zLy{r:E}(h:zJ n l w=Z r):EQ 111 [.ints l,.fn 181 1<|L1 [.fp 1<|L1 [.i w]]] [] (.i r) [] T:=by
 refine ot Tryz.func111 λϙ N=>?_
 revert r;apply gO;exact lN AC [] ((zL1 ϙ N l w n) _ _ · n χ)
def zBX(n:U)(l:Ξ)(w:E):A ζ:=(zJ n l w).bind λf=>Z<|H<|f>=0
def qd(n:U)(l:Ξ)(w:E):A ζ:=zBX n l w
def zRE(h:qd n l w=Z r):EQ 105 [.ints l,.fn 181 1<|L1 [.fp 1<|L1 [.i w]]] [] (.bool r) [] T:=by
 unfold qd zBX at h;refine ot Tryz.func105 λϙ N=>?_
 revert r;apply gO;exact cf zLy [] λ_=>lE AC [4] []
def qM(n:U)(cells b:E)(v:Ξ):A ζ:=L ((F v:E)==cells) ((qd n v b).bind λf=>Z<|!f)<|Z D
def ZW(n:U)(cells b:E)(v:Ξ):A ζ:=qM n cells b v
def zPj{cells b:E}(h:ZW n cells b v=Z r):EQ 146 [.i cells,.i b,.ints v] [] (.bool r) [] T:=by
 refine ot Tryz.func146 λϙ N=>?_
 revert r;apply gO;exact bi 10 (cn λy1 P=>jc (sb [.ints v,.fn 181 1<|L1 [.ref 0 0]] (zRE P) [oC [.i b]] ⟨Ad.plain Z5,Ad.fnL (l:=[.ref 0 0]) (l0:=[.fp 1<|L1 [.i b]]) ⟨Ad.refL (l:=[.i b]) (l0:=[.i b]) rfl ⟨Ad.plain Z5,trivial⟩,trivial⟩,trivial⟩)<|lE AC [6] [])<|lE AC [6] []
def wJ(n:U)(q:AA)(v:Ξ):A E:=(valid n q).bind λf=>L (f != 0) (Z f)<|(ZW n q.ce q.sy v).bind λG=>L (!G) (Z 200)<|Z 0
def dE(n:U)(q:AA)(v:Ξ):A E:=wJ n q v
def zIT{r:E}(h:dE n q v=Z r):EQ 118 [.agg 5<|L1<|AG q,.ints v] [] (.i r) [] T:=by
 unfold dE wJ at h;refine ot Tryz.func118 λϙ N=>?_
 revert r;apply gO;exact cf ax [oC<|AG q] λ_=>bi 8 (lE AC [4] [])<|cf zPj [oC<|AG q] λ_=>bi 16 (lE AC [4] [])<|lE AC [4] []
end
def Po{k s n:U}{x:E}(h:Sm k x)(hk:k<=62)(l:s<64):Jd n x (s:E)=Z (tb x s):=by
 unfold Jd zO;rw[zAB ⟨Z2,by show(s:E)<=((64:U):E);omega⟩,u8,Q2 h hk l]
section
variable{q:AA}{g:Ξ}{c:AE}
variable{k:U}
def zFB{x y:E}(hk:k<=62)(e:Sm k x)(hy:Sm k y):Sm k<|bits .or .i64 x y:=
 Wg hk (HK _ _ _) λi hi _=>by rw[NH,e.hi hi,hy.hi hi];rfl
def zQd(S:Sv q c g)(hl:F c.ce<=256):∃r,Ev (λn=>iU n g c.ce) r/\(r=T↔∀a b,a<F c.ce->b<F c.ce->AP c g a=AP c g b->a=b):=by
 have key:∀(k i:U) (x:E),i+k=F c.ce->Sm 16 x->(∀s,tb x s=T↔∃b,b<i/\AP c g b=s)->(∀a b,a<i->b<i->AP c g a=AP c g b->a=b)->
  ∃r,Ev (λn=>QN g c.ce n<|.l1 x (i:E)) r/\(r=T↔∀a b,a<F c.ce->b<F c.ce->AP c g a=AP c g b->a=b):=by
  intro k
  induction k with
  |zero=>
   intro i x e o m p;have e:i=F c.ce:=Z2
   subst e;refine⟨T,Ev.one λn=>?_,zPB rfl p⟩
   show Zm n (QN g c.ce n) g c.ce x (F c.ce:E)=_
   unfold Zm;rw[zAF Z2,zAJ]
  |succ k u=>
   intro i x e o m p;have hi:i<F c.ce:=Z2
   have hc:=S.cell i hi;have R:=(S.lt hi).2
   have step:∀n,QN g c.ce (n+1) (.l1 x (i:E))=L (tb x<|AP c g i) (Z D) (QN g c.ce n<|.l1 (bits .or .i64 x<|IntKind.i64.wrap<|1*2^AP c g i) ((i+1:U):E)):=λn=>by
    show Zm n (QN g c.ce n) g c.ce x (i:E)=_
    unfold Zm;rw[zAA Z2,zAI,u8,zAB ⟨⟨Z2,Z2⟩,hc⟩,S.gi hi,Po o Z6 Z2,zAD];cases tb x (AP c g i)
    ·rw[zAJ,zAJ,zAB ⟨⟨Z2,by show((AP c g i:U):E)<=((64:U):E);omega⟩,Ae.2 ⟨Z2,Z2⟩⟩,u8,show((i+1:U):E)=(i:E)+1 by omega]
    ·rfl
   cases f:tb x (AP c g i)with
   |true=>
    obtain⟨b,l,j⟩:=(m _).1 f;refine⟨D,Ev.one λn=>by rw[step n,f,zAI],zM2 Z6 λh=>?_⟩;have:=h b i Z2 hi j;omega
   |false=>
    have Q:∀b,b<i->AP c g b≠AP c g i:=λb X e=>by
     rw[(m _).2 ⟨b,X,e⟩]at f;cases f
    obtain⟨r,l,j⟩:=u (i+1) (bits .or .i64 x<|IntKind.i64.wrap<|1*2^AP c g i) Z2 (zFB Z6 o<|wm Z6 R) (λs=>by
     rw[NH,JH Z2,zCz,m,zB0];constructor
     ·rintro(⟨b,l,j⟩|h)
      ·exact⟨b,Z2,j⟩
      ·exact⟨i,Z2,h⟩
     ·rintro⟨b,l,j⟩;rcases zBy.1 l with h|rfl
      ·exact .inl ⟨b,h,j⟩
      ·exact .inr j) (λa b P f t=>by
     rcases zBy.1 P with P|rfl <;> rcases zBy.1 f with f|rfl
     ·exact p a b P f t
     ·exact τ t<|Q a P
     ·exact τ t.symm<|Q b f
     ·rfl)
    exact⟨r,AX.ev (AX.one λn=>by rw[step n,f,zAJ]) l,j⟩
 exact key (F c.ce) 0 0 Z2 ⟨Z6,Z6⟩ (λs=>by rw[bL];simp) λa b P=>τ P<|zAR a
def zQx(S:Sv q c g)(hl:F c.ce<=256)(l:Sm k c.set)(hk:k<=16):Ev (λn=>il n g c.ce c.set)<|cnt (λa=>tb c.set<|AP c g a)<|F c.ce:=by
 have key:∀(k i:U),i+k=F c.ce->Ev (λn=>VY g c.ce c.set n<|.l1 (cnt (λa=>tb c.set<|AP c g a) i) (i:E)) (cnt (λa=>tb c.set<|AP c g a)<|F c.ce):=by
  intro k
  induction k with
  |zero=>
   intro i e;have e:i=F c.ce:=Z2
   subst e;refine Ev.one λn=>?_
   show aB n (VY g c.ce c.set n) g c.ce c.set _ (F c.ce:E)=_
   unfold aB;rw[zAF Z2,zAJ]
  |succ k b=>
   intro i e;have hi:i<F c.ce:=Z2
   have hc:=S.cell i hi;have AY:=(S.lt hi).2;have hb:=aG (p:=λa=>tb c.set<|AP c g a) (i:=i);refine AX.ev (AX.one λn=>?_)<|b (i+1) Z2
   show aB n (VY g c.ce c.set n) g c.ce c.set _ (i:E)=_
   unfold aB;rw[zAA Z2,zAI,u8,zAB ⟨⟨Z2,Z2⟩,hc⟩,S.gi hi,Po l Z2 Z2,zAD,QQ,show((i+1:U):E)=(i:E)+1 by omega];cases tb c.set (AP c g i)
   ·rw[zAJ,zAB<|Ae.2 ⟨Z2,Z2⟩];simp
   ·rw[zAI,zAB ⟨Ae.2 ⟨Z2,Z2⟩,Ae.2 ⟨Z2,Z2⟩⟩,zAB rfl]
 exact key (F c.ce) 0 Z2
def zD2(S:Sv q c g)(ο:Ep q q.sy.toNat)(hl:F c.ce<=256):Ev (λn=>bV n q.va g c.ce)<|Cf (λa=>M q.va (AP c g a) 0)<|F c.ce:=by
 have o:∀i,i<F c.ce->0<=M q.va (AP c g i) 0/\M q.va (AP c g i) 0<=99:=λi hi=>ο.val _ (S.lt hi).1
 have key:∀(k i:U),i+k=F c.ce->Ev (λn=>Td q.va g c.ce n<|.l1 (Cf (λa=>M q.va (AP c g a) 0) i) (i:E)) (Cf (λa=>M q.va (AP c g a) 0)<|F c.ce):=by
  intro k
  induction k with
  |zero=>
   intro i e;have e:i=F c.ce:=Z2
   subst e;refine Ev.one λn=>?_
   show WO n (Td q.va g c.ce n) q.va g c.ce _ (F c.ce:E)=_
   unfold WO;rw[zAF Z2,zAJ]
  |succ k b=>
   intro i e;have hi:i<F c.ce:=Z2
   have hc:=S.cell i hi;have AY:=(S.lt hi).1;have G7:=ο.len;have EB:=o i hi;have hb:=Qr (f:=λa=>M q.va (AP c g a) 0) i λa ha=>by have:=o a Z2;omega
   refine AX.ev (AX.one λn=>?_)<|b (i+1) Z2
   show WO n (Td q.va g c.ce n) q.va g c.ce _ (i:E)=_
   unfold WO;rw[zAA Z2,zAI,u8,S.gi hi,u8,zAB ⟨⟨Z2,Z2⟩,hc,⟨Z2,Z2⟩,Ae.2 ⟨Z2,Z2⟩,Ae.2 ⟨Z2,Z2⟩⟩,show((i+1:U):E)=(i:E)+1 by omega];rfl
 exact key (F c.ce) 0 Z2
def zHp(S:Sv q c g)(ο:Ep q q.sy.toNat)(hl:F c.ce<=256):∃r,Ev (λn=>cu n q.va g c.ce) r/\(r=T↔HN q 0 (F c.ce) (AP c g)):=by
 have o:∀i,i<F c.ce->0<=M q.va (AP c g i) 0/\M q.va (AP c g i) 0<=99:=λi hi=>ο.val _ (S.lt hi).1
 have key:∀(k i:U) (x:E),i+k=F c.ce->(i=0->x= -1)->(0<i->x=M q.va (AP c g<|i-1) 0)->HN q 0 i (AP c g)->
  ∃r,Ev (λn=>PA q.va g c.ce n<|.l1 x (i:E)) r/\(r=T↔HN q 0 (F c.ce) (AP c g)):=by
  intro k
  induction k with
  |zero=>
   intro i x e h0 a Y;have e:i=F c.ce:=Z2
   subst e;refine⟨T,Ev.one λn=>?_,zPB rfl Y⟩
   show XK n (PA q.va g c.ce n) q.va g c.ce x (F c.ce:E)=_
   unfold XK;rw[zAF Z2,zAJ]
  |succ k f=>
   intro i x e h0 a Y;have hi:i<F c.ce:=Z2
   have hc:=S.cell i hi;have AY:=(S.lt hi).1;have G7:=ο.len;have EB:=o i hi
   have step:∀n,PA q.va g c.ce (n+1) (.l1 x (i:E))=L (H<|M q.va (AP c g i) 0<=x) (Z D) (PA q.va g c.ce n<|.l1 (M q.va (AP c g i) 0) ((i+1:U):E)):=λn=>by
    show XK n (PA q.va g c.ce n) q.va g c.ce x (i:E)=_
    unfold XK;rw[zAA Z2,zAI,u8,S.gi hi,u8,zAB ⟨⟨Z2,Z2⟩,hc,Z2,Z2⟩,zAB<|Ae.2 ⟨Z2,Z2⟩,show((i+1:U):E)=(i:E)+1 by omega]
   by_cases h:M q.va (AP c g i) 0<=x
   ·refine⟨D,Ev.one λn=>by rw[step n,zAA h,zAI],zM2 Z6 λl=>?_⟩;rcases zO1 i with e0|e0
    ·have:=h0 e0;omega
    ·have j:=l (i-1) (zMK _) Z2;rw[←a e0,show i-1+1=i by omega]at j;omega
   ·obtain⟨r,t,m⟩:=f (i+1) (M q.va (AP c g i) 0) Z2 (λh=>τ h Z2) (λ_=>by rw[Nat.add_sub_cancel]) (λb R hb=>by
     by_cases y:b+1=i
     ·rw[y,show b=i-1 by omega,←a Z2];omega
     ·exact Y b R Z2)
    exact⟨r,AX.ev (AX.one λn=>by rw[step n,zAF h,zAJ]) t,m⟩
 exact key (F c.ce) 0 (-1) Z2 (λ_=>rfl) (λh=>τ h<|Nat.lt_irrefl 0) λb _ h=>τ h<|zAR _
def zGz(S:Sv q c g)(hl:F c.ce<=256)(j:Sm k c.set)(hk:k<=16):Ev (λn=>T7 n c.ce c.set g)<|rl (λa=>tb c.set<|AP c g a) (F c.ce) (F c.ce) 0:=by
 have key:∀(m i:U) (l:E),i+m=F c.ce->0<=l/\l<=(i:E)->Ev (λn=>Ik c.ce c.set g n<|.l1 l (i:E)) (rl (λa=>tb c.set<|AP c g a) (F c.ce) m l):=by
  intro m
  induction m with
  |zero=>
   intro i l e o;have e:i=F c.ce:=Z2
   subst e;refine Ev.one λn=>?_
   show Q6 n (Ik c.ce c.set g n) c.ce c.set g l (F c.ce:E)=_
   unfold Q6 rl;rw[zAF Z2,zAJ]
   by_cases h:l>0
   ·rw[zAA h,zAI,zAB h];rfl
   ·rw[zAF h,zAJ,zAt h]
  |succ m f=>
   intro i l e o;have hi:i<F c.ce:=Z2
   have hc:=S.cell i hi;have AY:=(S.lt hi).2;have p:F c.ce-1-m=i:=Z2
   have start:∀n,Ik c.ce c.set g (n+1) (.l1 l (i:E))=L (tb c.set<|AP c g i) (Ik c.ce c.set g n<|.l1 (l+1) ((i+1:U):E)) (L (H<|l>0) ((Ik c.ce c.set g n<|.l1 0 ((i+1:U):E)).map λr=>l::r)<|Ik c.ce c.set g n<|.l1 0 ((i+1:U):E)):=λn=>by
    have t:AI<|(i:E)+1:=Ae.2 ⟨Z2,Z2⟩
    show Q6 n (Ik c.ce c.set g n) c.ce c.set g l (i:E)=_
    unfold Q6;rw[zAA Z2,zAI,u8,zAB ⟨⟨Z2,Z2⟩,hc⟩,S.gi hi,Po j Z2 Z2,zAD,show((i+1:U):E)=(i:E)+1 by omega];cases tb c.set (AP c g i)
    ·rw[zAJ,zAJ,zAB t];cases H (l>0) <;> rfl
    ·rw[zAI,zAI,zAB ⟨Ae.2 ⟨Z2,Z2⟩,t⟩]
   unfold rl;rw[p];cases b:tb c.set (AP c g i)with
   |true=>exact AX.ev (AX.one λn=>by rw[start n,b,zAI])<|f (i+1) (l+1) Z2 Z2
   |false=>
    have h0:=f (i+1) 0 Z2 Z2
    by_cases h:l>0
    ·obtain⟨N,h0⟩:=h0;refine⟨N+1,λn hn=>?_⟩;obtain⟨n,rfl⟩:∃k,n=k+1:=⟨n-1,Z2⟩
     show Ik c.ce c.set g (n+1) (.l1 l (i:E))=_
     rw[start n,b,zAJ,zAA h,zAI,show Ik c.ce c.set g n (.l1 0 ((i+1:U):E))=_ from h0 n Z2,zAJ,zAB h];rfl
    ·rw[zAJ,zAt h];exact AX.ev (AX.one λn=>by rw[start n,b,zAJ,zAF h,zAJ]) h0
 exact key (F c.ce) 0 0 Z2 ⟨zCs _,Z2⟩
variable{n:U}
def zCU :∀(l x:Ξ),F (x++l)<=Av->CC (jS n) l (.s1 (F x) x)=Z (.s1 (F<|x++l)<|x++l)
 |[],x,h=>by rw[zMz];rfl
 |a::l,x,h=>by
  have e:x++a::l=x++[a]++l:=Z3
  have m:F x+F ([a]:Ξ)<=Av:=by simp only[zAi,zDM]at h;simp only[zOW];omega
  show(aU n a (F x) x).bind _=_
  unfold aU;rw[zAB ⟨⟨rfl,rfl⟩,⟨rfl,rfl⟩,m⟩,zAD,e,←zAi];exact zCU l (x++[a]) (by rw[←e];exact h)
def zRe{l:Ξ}(m:F l<=300):Si n l=Z l:=by
 have Ϝ:(1000000000000:U)=Av:=rfl;unfold Si qj jT rQ;cases l with
 |nil=>rfl
 |cons a l=>
  have e:CC (jS n) (a::l) .s0=Z (.s1 (F<|[a]++l)<|[a]++l):=by
   show(aV n a).bind _=_
   unfold aV;rw[zAB ⟨⟨rfl,rfl⟩,zO6,by rw[←Ϝ];show 1<=_;omega⟩,zAD];exact zCU l [a] (by rw[←Ϝ];simp only[zAi,zDM,zTL]at m⊢;omega)
  rw[e,zAD]
  show(C (F ([a]++l)=F ([a]++l)) (Z<|[a]++l) V).bind _=_
  rw[zAB rfl];rfl
end
section
variable{g:O Ξ}{inn:Ω}
def zTK(g:O Ξ)(inn:Ω)(r:O Ξ×E):Prop:=r.2=0/\(F r.1=0↔∀v,v<F g->M inn v D=D)/\(F r.1<=1↔Hs g inn)
variable{Y:E}{part:Ξ}
def mK(h:Pt g inn (F g) part Y):(Y=0↔∀v,v<F g->M inn v D=D)/\(Y<=1↔Hs g inn):=by
 have m0:=h.m0;constructor
 ·constructor
  ·intro e v o;cases b:M inn v D with
   |false=>rfl
   |true=>
    have:=h.all v o o b;have:=(h.lo v o).2;omega
  ·intro s;refine Classical.byContradiction λj=>?_
   obtain⟨v,a,h2⟩:=h.sur 1 Z6 Z2;have:=h.isIn v a Z2;rw[s v a]at this;cases this
 ·constructor
  ·intro e u v t o c m;have x:=h.all u t t c;have a2:=h.all v o o m;have b1:=(h.lo u t).2;have b2:=(h.lo v o).2;exact h.con u v t o x Z2
  ·intro f;refine Classical.byContradiction λj=>?_
   obtain⟨u,N,u2⟩:=h.sur 1 Z6 Z2;obtain⟨v,y,v2⟩:=h.sur 2 Z6 Z2;have:=h.same u v N y Z2<|f u v N y (h.isIn u N Z2)<|h.isIn v y Z2;omega
def qg(G:Gr g)(a:Pt g inn (F g) part Y):∀(k j:U) (o:O Ξ) (n:U),j+k=F part->F o=Y.toNat->(∀r,F (M o r ξ)<=j)->k+1<=n->
 ∃o',OP g inn n (.l1 Y.toNat part (F part:E) (j:E) o)=Z (o',0)/\F o'=Y.toNat
 |0,j,o,n,e,x,i,s=>by
  obtain⟨n,rfl⟩:∃k,n=k+1:=⟨n-1,Z2⟩;refine⟨o,?_,x⟩
  show Sh n (OP g inn n) g inn Y.toNat part (F part:E) (j:E) o=_
  unfold Sh;rw[zAF Z2,zAJ,zAB x.symm]
 |k+1,j,o,n,e,x,i,s=>by
  obtain⟨n,rfl⟩:∃k,n=k+1:=⟨n-1,Z2⟩;have Aj:=a.len;have hG:=G.len;have hlo:=a.lo j Z2;have Ϝ:(1000000000000:U)=Av:=rfl;have t:AI<|(j:E)+1:=Ae.2 ⟨Z2,Z2⟩;have hm:=a.m1
  by_cases h0:M part j 0>0
  ·have hrj:=i<|0+(M part j 0-1).toNat
   have key:=qg G a k (j+1) (o.set (0+(M part j 0-1).toNat)<|M o (0+(M part j 0-1).toNat) ξ++[(j:E)]) n Z2 (by rw[zIG];exact x) (λr=>by
    by_cases v:0+(M part j 0-1).toNat=r
    ·subst v;rw[zAL,zT2 Z2,zPU,zAi,zOW];omega
    ·have:=i r;rw[zAL,zTU v,←zAL];omega) Z2
   obtain⟨o',b,c⟩:=key;refine⟨o',?_,c⟩;rw[←b]
   show Sh n (OP g inn n) g inn Y.toNat part (F part:E) (j:E) o=_
   unfold Sh;rw[zAA Z2,zAI,zAB ⟨Z2,Z2⟩,u8,zAA h0,zAI,zAB ⟨Ae.2 ⟨Z2,Z2⟩,⟨Z2,Z2⟩,Z2,by rw[zOW,←Ϝ];omega,t⟩,show((j+1:U):E)=(j:E)+1 by omega]
  ·obtain⟨o',b,c⟩:=qg G a k (j+1) o n Z2 x (λr=>by have:=i r;omega) Z2;refine⟨o',?_,c⟩;rw[←b]
   show Sh n (OP g inn n) g inn Y.toNat part (F part:E) (j:E) o=_
   unfold Sh;rw[zAA Z2,zAI,zAB ⟨Z2,Z2⟩,u8,zAF h0,zAJ,zAB t,show((j+1:U):E)=(j:E)+1 by omega]
def zRX(G:Hr g)(e:F inn=F g):Aw (λn=>i5 n g inn)<|zTK g inn:=by
 have hG:=G.gr.len;have h0:=gq G (sets:=[inn]) (λx f=>by rw[zCr]at f;rw[f,e]) Z3;refine Aw.bind h0 (b:=λn h=>L (h != 0) (Z (([]:O Ξ),h))<|(parts n g inn).bind λa=>C ((a.2:E)=a.2/\0<=a.2/\(a.2:E)<=1000000000000) (OP g inn n<|.l1 a.2.toNat a.1 (F a.1:E) 0<|d a.2.toNat []) V) ?_;refine Aw.bindU (mV G.gr e) (b:=λn a=>C ((a.2:E)=a.2/\0<=a.2/\(a.2:E)<=1000000000000) (OP g inn n<|.l1 a.2.toNat a.1 (F a.1:E) 0<|d a.2.toNat []) V) ⟨F g+1,λn hn r c=>?_⟩;obtain⟨part,Y⟩:=r;have c:Pt g inn (F g) part Y:=c;have q:=c.m0;have m1:=c.m1;have Aj:=c.len
 obtain⟨o',j,i⟩:=qg G.gr c (F part) 0 (d Y.toNat []) n Z2 zKR (λr=>by
  rw[zAL,zTu];split <;> exact zAf 0) Z2
 refine⟨(o',0),?_,rfl,?_,?_⟩
 ·rw[zAB ⟨rfl,q,by show Y<=_;omega⟩];exact j
 ·rw[←(mK c).1,i];omega
 ·rw[←(mK c).2,i];omega
/-! ### Rings-/
def zCu(g:O Ξ)(inn:Ω)(r:ζ×E):Prop:=r.2=0/\(r.1=T↔(∀v,v<F g->M inn v D=T->Cj g inn v=2)/\(∃v,v<F g/\M inn v D=T)/\Hs g inn)
def wA(Y:F inn=F g){x6 x23:E}{row:Ξ}(i:∀u∈row,0<=u/\u<(F g:E))(m:F row<=256):∀(k j:U),j+k=F row->AX (JQ g inn) (.l2 x6 (((row.take j).countP λx=>M inn x.toNat D:U):E) x23 row (F row:E) (j:E)) (.l2 x6 ((row.countP λx=>M inn x.toNat D:U):E) x23 row (F row:E) (F row:E))
 |0,j,e=>by
  have:j=F row:=Z2
  subst this;rw[zTZ];exact AX.refl
 |k+1,j,e=>by
  have a:j<F row:=Z2
  have z:=i (M row j 0) (by rw[zAL,zBx a];exact zOz a);have hc:=zT8 (p:=λx:E=>M inn x.toNat D) (l:=row.take j);rw[List.length_take]at hc;have R:row.take (j+1)=row.take j++[M row j 0]:=by rw[List.take_succ_eq_append_getElem a];simp[a]
  have b:=wA Y (x6:=x6) (x23:=x23) i m k (j+1) Z2;rw[R,zTr,zT9]at b;refine AX.trans (AX.one λn=>?_) b
  show RA n (JQ g inn n) g inn x6 _ x23 row (F row:E) (j:E)=_
  unfold RA;rw[zAA Z2,zAI,u8,zAB ⟨⟨Z2,Z2⟩,z.1,Z2⟩,show((j+1:U):E)=(j:E)+1 by omega];cases M inn (M row j 0).toNat D
  ·rw[zAJ,zAB<|Ae.2 ⟨Z2,Z2⟩];simp
  ·rw[zAI,zAB ⟨Ae.2 ⟨Z2,Z2⟩,Ae.2 ⟨Z2,Z2⟩⟩];simp
def lr(G:Hr g)(i:F inn=F g):∀(k v:U),v+k=F g->(∀u,u<v->M inn u D=T->Cj g inn u=2)->Aw (λn=>JQ g inn n<|.l1 (((θ v).countP λx=>M inn x D:U):E) (v:E)) (zCu g inn)
 |0,v,e,j=>by
  have:v=F g:=Z2
  subst this;refine Aw.step 1 (g:=λn=>(parts n g inn).bind λs=>L (H<|(((θ<|F g).countP λx=>M inn x D:U):E)>=3) (Z (s.2==1,(0:E)))<|Z (D,0)) (λn=>?_) ?_
  ·show RB n (JQ g inn n) g inn _ (F g:E)=_
   unfold RB;rw[zAF Z2,zAJ]
  ·refine Aw.bindU (mV G.gr i) (b:=λn s=>L (H<|(((θ<|F g).countP λx=>M inn x D:U):E)>=3) (Z (s.2==1,(0:E)))<|Z (D,0)) ⟨0,λn _ r I=>?_⟩;obtain⟨part,Y⟩:=r;obtain⟨J,p2⟩:=mK I;have q:=I.m0
   by_cases K:(((θ<|F g).countP λx=>M inn x D:U):E)>=3
   ·rw[zAA K,zAI];refine⟨_,rfl,rfl,?_⟩
    show(Y==1)=T↔_
    rw[zB1];constructor
    ·intro e1;refine⟨j,?_,p2.1 Z2⟩;refine Classical.byContradiction λR=>?_
     have:=J.2 λv o=>by
      cases a:M inn v D with
      |false=>rfl
      |true=>exact τ ⟨v,o,a⟩ R
     have q:0<=Y:=q;have:Y=0:=this;omega
    ·rintro⟨_,⟨v,o,m⟩,S⟩;have N:=p2.2 S
     have h0:¬Y=0:=λe=>by
      have:=J.1 e v o;rw[m]at this;cases this
     have q:0<=Y:=q;have N:Y<=1:=N;omega
   ·rw[zAF K,zAJ];refine⟨_,rfl,rfl,?_⟩;refine zM2 Z6 ?_;rintro⟨y,⟨v,o,m⟩,_⟩;have:=sj G o m<|y v o m;omega
 |k+1,v,e,j=>by
  have o:v<F g:=Z2
  have hG:=G.gr.len;have P:AI<|(v:E)+1:=Ae.2 ⟨Z2,Z2⟩
  have Q:(((θ<|v+1).countP λx=>M inn x D:U):E)=(((θ v).countP λx=>M inn x D:U):E)+C (M inn v D) 1 0:=by
   rw[zO5,zTr,zT9];split <;> simp
  have W:=zT8 (p:=λx=>M inn x D) (l:=θ v);rw[zO8]at W;cases a:M inn v D with
  |false=>
   have c:=lr G i k (v+1) Z2 λu t f=>by
    rcases zBy.1 t with t|rfl
    ·exact j u t f
    ·rw[a]at f;cases f
   rw[Q,a]at c;refine AX.pev (AX.one λn=>?_) c
   show RB n (JQ g inn n) g inn _ (v:E)=_
   unfold RB;rw[zAA Z2,zAI,zAB ⟨⟨Z2,Z2⟩,Z2,Z2⟩,u8,a,zMd,zAI,zAB P,show((v+1:U):E)=(v:E)+1 by omega];simp
  |true=>
   have X:=G.gr.row v Z2 Z2;have Ur:=G.gr.rng v Z2 Z2;have en:nb g v=M g v []:=by unfold nb;rw[u8]
   refine AX.pev (AX.one (b:=.l2 ((((θ v).countP λx=>M inn x D:U):E)+1) 0 (v:E) (nb g v) (F<|nb g v:E) 0) λn=>?_) ?_
   ·show RB n (JQ g inn n) g inn _ (v:E)=_
    unfold RB;rw[zAA Z2,zAI,zAB ⟨⟨Z2,Z2⟩,Z2,Z2⟩,u8,a,zMv,zAJ,zAB<|Ae.2 ⟨Z2,Z2⟩,en]
   ·have w:=wA i (x6:=(((θ v).countP λx=>M inn x D:U):E)+1) (x23:=(v:E)) Ur X (F<|nb g v) 0 Z2;rw[zUO,List.countP_nil]at w;refine AX.pev w ?_
    by_cases z:Cj g inn v=2
    ·have c:=lr G i k (v+1) Z2 λu t f=>by
      rcases zBy.1 t with t|rfl
      ·exact j u t f
      ·exact z
     rw[Q,a,zAB rfl]at c;refine AX.pev (AX.one λn=>?_) c
     show RA n (JQ g inn n) g inn _ ((Cj g inn v:U):E) (v:E) (nb g v) (F<|nb g v:E) (F<|nb g v:E)=_
     unfold RA;rw[zAF Z2,zAJ,z]
     show C (AI<|(v:E)+1) _ _=_
     rw[zAB P,show((v+1:U):E)=(v:E)+1 by omega]
    ·refine Ev.p (Ev.one (r:=(D,0)) λn=>?_) ⟨rfl,zM2 Z6 λh=>z<|h.1 v o a⟩
     show RA n (JQ g inn n) g inn _ ((Cj g inn v:U):E) (v:E) (nb g v) (F<|nb g v:E) (F<|nb g v:E)=_
     unfold RA;rw[zAF Z2,zAJ,zOF.2 (by omega:((Cj g inn v:U):E)≠2),zAI]
def zH8(G:Hr g)(Y:F inn=F g):Aw (λn=>UA n g inn)<|zCu g inn:=by
 have h0:=gq G (sets:=[inn]) (λx e=>by rw[zCr]at e;rw[e,Y]) Z3;refine Aw.bind h0 (b:=λn f=>L (f != 0) (Z (D,f))<|JQ g inn n<|.l1 0 0) ?_;exact lr G Y (F g) 0 Z2 λu t=>τ t<|zAR u
end
section
set_option maxRecDepth 100000
set_option maxHeartbeats 40000000
def kF(n:U)(c:AE)(q:AA)(v:Ξ):A ζ:=(He n q c v).bind λf=>Z<|!f
def bE(n:U)(c:AE)(q:AA)(v:Ξ):A ζ:=kF n c q v
variable{r:ζ}{v:Ξ}{q:AA}{n:U}
def zDY{c:AE}(h:bE n c q v=Z r):EQ 119 [.agg 9<|L1<|BD c,.fp 5<|L1<|AG q,.fp 1<|L1 [.ints v]] [] (.bool r) [] T:=by
 unfold bE kF at h;refine ot Tryz.func119 λϙ N=>?_
 revert r;apply gO;exact cf zKW [oC<|BD c] λ_=>lE AC [4] []
inductive fU where
 |l1 (x8:E)
def YN(n:U)(self:fU->A E)(l:O AE)(q:AA)(v:Ξ)(x8:E):A E:=L (H<|x8<(F l:E)) (C (0<=x8/\x8<(F l:E)) ((bE n (M l x8.toNat ξ) q v).bind λf=>L f (Z x8)<|C (AI<|x8+1) (self<|.l1<|x8+1) V) V)<|Z<|-1
def zLs(n:U)(self:fU->A E)(l:O AE)(q:AA)(AD:Ξ):A E:=self<|.l1 0
def Pj(l:O AE)(q:AA)(v:Ξ):U->fU->A E
 |0,_=>V
 |n+1,.l1 x8=>YN n (Pj l q v n) l q v x8
def zH(n:U)(l:O AE)(q:AA)(v:Ξ):A E:=zLs n (Pj l q v n) l q v
def zLt(n ϙ:U)(N:Yd 0)(l:O AE)(q:AA)(v:Ξ)(r:E):fU->Prop:=px n ϙ η N (FQ Tryz.f108 0 (.i r) []) (AZ Tryz.f108) λ
 | .l1 x8=>(0,0,AF 19 [(0,.sl 9 (F l)<|AM BD l),(1,.fn 119 2<|L1 [.fp 5<|L1<|AG q,.fp 1<|L1 [.ints v]]),(7,.i (F l:E)),(8,.i x8)],[])
def zLu(ϙ:U)(N:Yd 0)(l:O AE)(q:AA)(v:Ξ):Al (Pj l q v) (zLt · ϙ N l q v):=ia (λ_=>rfl) λn I G r h=>by
 cases G
 case l1 x8=>
  intro b a;refine rd a λb a=>?_
  revert r;apply gO;exact bi 9 (gi (cf zDY [] λ_=>bi 16 (lE AC [4] []) (gw 18 (lG AC [] (I _ _ · b a)))))<|lE AC [4] []
variable{l:O AE}
def zLr{r:E}(h:zH n l q v=Z r):EQ 108 [.sl 9 (F l)<|AM BD l,.fn 119 2<|L1 [.fp 5<|L1<|AG q,.fp 1<|L1 [.ints v]]] [] (.i r) [] T:=by
 refine ot Tryz.func108 λϙ N=>?_
 revert r;apply gO;exact lN AC [] ((zLu ϙ N l q v n) _ _ · n χ)
def zBW(n:U)(l:O AE)(q:AA)(v:Ξ):A ζ:=(zH n l q v).bind λf=>Z<|H<|f>=0
def qb(n:U)(l:O AE)(q:AA)(v:Ξ):A ζ:=zBW n l q v
def zRC(h:qb n l q v=Z r):EQ 81 [.sl 9 (F l)<|AM BD l,.fn 119 2<|L1 [.fp 5<|L1<|AG q,.fp 1<|L1 [.ints v]]] [] (.bool r) [] T:=by
 unfold qb zBW at h;refine ot Tryz.func81 λϙ N=>?_
 revert r;apply gO;exact cf zLr [] λ_=>lE AC [4] []
def uW(n:U)(q:AA)(v:Ξ):X8:=(dE n q v).bind λf=>L (f != 0) (Z (D,f))<|(qb n q.cons q v).bind λG=>Z (!G,0)
def Tk(n:U)(q:AA)(v:Ξ):X8:=uW n q v
def zEb{r:ζ×E}(h:Tk n q v=Z r):EQ 96 [.agg 5<|L1<|AG q,.ints v] [] (.tup 2<|L1 [.bool r.1,.i r.2]) [] T:=by
 unfold Tk uW at h;refine ot Tryz.func96 λϙ N=>?_
 revert r;apply gO;exact cf zIT [oC<|AG q,oC [.ints v]] λ_=>bi 10 (lE AC [4,5] [])<|cn λy2 x=>jc (sb [.sl 9 (F q.cons)<|AM BD q.cons,.fn 119 2<|L1 [.ref 0 0,.ref 1 0]] (zRC x) [oC<|AG q,oC [.ints v]] ⟨Ad.plain Z5,Ad.fnL (l:=[.ref 0 0,.ref 1 0]) (l0:=[.fp 5<|L1<|AG q,.fp 1<|L1 [.ints v]]) ⟨Ad.refL (l:=AG q) (l0:=AG q) rfl ⟨Ad.plain Z5,Ad.plain Z5,Ad.plain Z5,Ad.plain Z5,Ad.plain Z5,trivial⟩,Ad.refL (l:=[.ints v]) (l0:=[.ints v]) rfl ⟨Ad.plain Z5,trivial⟩,trivial⟩,trivial⟩)<|lE AC [4,5] []
end
section
variable{q:AA}{i:E}{g:Ξ}{c:AE}
def Bx.sets(ϛ:Bx q i<|Ax g):Sm q.sy.toNat (con q i).set/\Sm q.sy.toNat (con q i).other:=by
 have h:=ϛ.fine;unfold FY at h;simp only[zAK]at h;have c:=WB.1 h.1.1.1.2;have a:=c (con q i).set Z3;have b:=c (con q i).other Z3;exact⟨⟨a.1,Z2⟩,b.1,Z2⟩
def yw(S:Sv q c g)(W:FN c q<|Ax g){k:U}(hs:Sm k c.set)(hk:k<=16){loop:ζ}{ϗ:Prop}(l:ϗ↔C (loop=T) ((∀v,v<F g->M (CT c g) v D=D)∨((∀v,v<F g->M (CT c g) v D=T->Cj q.nb (CT c g) v=2)/\Hs q.nb (CT c g))) (Hs q.nb<|CT c g)):
 ∃r,Ev (λn=>Ug n q.nb g c.ce c.set loop) r/\(r=T↔ϗ):=by
 have Ϝ:(1000000000000:U)=Av:=rfl;have hl:=W.len;have Hi:=W.l1;have m:=W.gl;rw[Fh]at hl Hi m;have Y:F (CT c g)=F q.nb:=by rw[Nl];omega
 have I:∃r,Ev (λn=>(i5 n q.nb<|CT c g).bind λf=>L (!loop) (Z<|H<|(F f.1:E)<=1)<|L ((F f.1:E)==0) (Z<|H<|(F f.1:E)<=1)<|(UA n q.nb<|CT c g).bind λp=>Z p.1) r/\(r=T↔ϗ):=by
  obtain⟨N2,hR⟩:=zH8 W.g Y;have:=Aw.bindU (zRX W.g Y) (b:=λn f=>L (!loop) (Z<|H<|(F f.1:E)<=1)<|L ((F f.1:E)==0) (Z<|H<|(F f.1:E)<=1)<|(UA n q.nb<|CT c g).bind λp=>Z p.1) (Q:=λr=>r=T↔ϗ) ⟨N2,λn s x hx=>?_⟩
  ·obtain⟨r,a,J⟩:=this.ev λr r' h h'=>by
    rw[zMq,h,h']
   exact⟨r,J,a⟩
  ·obtain⟨x1,x2,x3⟩:=hx;have t:H ((F x.1:E)<=1)=T↔Hs q.nb (CT c g):=by rw[zB0,←x3];omega
   cases loop with
   |false=>
    refine⟨_,rfl,?_⟩;rw[t,l];simp
   |true=>
    rw[zAB rfl]at l
    by_cases h0:F x.1=0
    ·have i:=x2.1 h0;rw[m]at i;refine⟨T,?_,zPB rfl (l.2<|.inl i)⟩
     show L ((F x.1:E)==0) (Z<|H<|(F x.1:E)<=1) _=_
     rw[h0];rfl
    ·obtain⟨y,f,p,y3⟩:=hR n s;refine⟨y.1,?_,?_⟩
     ·show L ((F x.1:E)==0) (Z<|H<|(F x.1:E)<=1) _=_
      rw[zMS.2 Z2,zAJ,show UA n q.nb (CT c g)=Z y from f];rfl
     ·rw[y3,l,m];have i:¬∀v,v<F g->M (CT c g) v D=D:=λh=>h0 (x2.2<|by rw[m];exact h)
      constructor
      ·rintro⟨a,_,K⟩;exact .inr ⟨a,K⟩
      ·rintro(h|⟨a,K⟩)
       ·exact τ h i
       ·refine⟨a,Classical.byContradiction λs=>i λv u=>?_,K⟩;cases hb:M (CT c g) v D with
        |false=>rfl
        |true=>exact τ ⟨v,u,hb⟩ s
 obtain⟨r,P,R⟩:=I;refine⟨r,?_,R⟩
 have key:∀(k j:U) (o:Ω),j+k=F g->F o=F g->(∀v,v<j->M o v D=M (CT c g) v D)->Ev (λn=>Uf q.nb g c.ce c.set loop n<|.l1 (j:E) o) r:=by
  intro k
  induction k with
  |zero=>
   intro j o e w X
   have:o=CT c g:=by
    refine zOC (by rw[w,Nl]) λv a J=>?_
    have:=X v Z2;simpa[zAL,a,J]using this
   subst this;obtain⟨N,P⟩:=P;refine Ev.oneN N λn s=>?_
   show YK n (Uf q.nb g c.ce c.set loop n) q.nb g c.ce c.set loop (j:E) (CT c g)=_
   unfold YK;rw[zAF Z2,zAJ,zAB w.symm];exact P n s
  |succ k ih=>
   intro j o e w X;have z:j<F g:=Z2
   have hid:=W.id j (by rw[Fh];exact z);have Ya:=S.G.lt S.v z;have LG:=S.G.sym j z;have eg:M g j 0=(((M g j 0).toNat:U):E):=Z2
   refine AX.ev (AX.one λn=>?_)<|ih (j+1) (o.set j<|tb c.set (M g j 0).toNat) Z2 (by rw[zIG];exact w) λv u=>?_
   ·show YK n (Uf q.nb g c.ce c.set loop n) q.nb g c.ce c.set loop (j:E) o=_
    unfold YK;rw[zAA Z2,zAI,zAB ⟨Z2,Z2⟩,u8,hid];unfold nD yL;rw[zAB ⟨Z2,Z2⟩,u8,eg,Po hs Z2 Z2,zAD,zAB ⟨⟨Z2,Z2⟩,Z2⟩,zAD,zAB<|Ae.2 ⟨Z2,Z2⟩,zCx,u8,show((j+1:U):E)=(j:E)+1 by omega]
   ·by_cases t:v=j
    ·subst t;rw[zAL,zT2 Z2,zPU,eQ z]
    ·rw[zAL,zTU λh=>t h.symm,←zAL];exact X v Z2
 have:=key (F g) 0 (d (F g) D) Z2 zKR λv u=>τ u<|zAR v
 refine Ev.eq this λn=>?_
 unfold Ug yz;rw[zAB ⟨rfl,Z2,Z2⟩];rfl
def zKV(ϛ:Bx q i<|Ax g)(G:Gd q g):∃b,Ev (λn=>He n q (con q i) g) b/\(b=T↔B3 q (con q i) g):=by
 have S:=ϛ.sv G;have z:BM (Ax g)=D:=Fb.2 S.nz;have W:=ϛ.work;have ο:=ϛ.vals;have m:=W.len;have p:=W.k;obtain⟨l,I⟩:=ϛ.sets;have two:F (con q i).ce=2->∀a,a<2->(M (con q i).ce a 0).toNat=(M (con q i).ce a 0).toNat:=λ_ _ _=>rfl
 have ϑ:∀{k:E} {f:U->A ζ} {b:ζ} {ϗ:Prop},(con q i).kind=k->(∀n,He n q (con q i) g=f n)->Ev f b->(b=T↔ϗ)->(B3 q (con q i) g↔ϗ)->∃b,Ev (λn=>He n q (con q i) g) b/\(b=T↔B3 q (con q i) g):=
  λ_ Q R X Y=>⟨_,R.eq Q,X.trans Y.symm⟩
 have kc:=Ph<|Pg ϛ.kind
 generalize hc:con q i=c at*
 rcases kc with hk|hk|hk|hk|hk|hk|hk|hk|hk
 ·obtain⟨r,j,e⟩:=zQd S m;exact ϑ (f:=λn=>(iU n g c.ce).bind Z) hk (λn=>by unfold He Mb;rw[hk];rfl) (Ev.bind j<|Ev.now λn=>rfl) e (by unfold B3;rw[hk];simp)
 ·refine ϑ (f:=λn=>(il n g c.ce c.set).bind λo=>(Sq n o c).bind Z) (ϗ:=c.lo<=cnt (λa=>tb c.set<|AP c g a) (F c.ce)/\cnt (λa=>tb c.set<|AP c g a) (F c.ce)<=c.hi) (b:=H (c.lo<=cnt (λa=>tb c.set<|AP c g a) (F c.ce))&&H (cnt (λa=>tb c.set<|AP c g a) (F c.ce)<=c.hi)) hk (λn=>by unfold He Mb;rw[hk];rfl) (Ev.bind (zQx S m l p)<|Ev.now λn=>?_) Z3 (by unfold B3;rw[hk];simp);unfold Sq q9;cases H (c.lo<=cnt (λa=>tb c.set<|AP c g a) (F c.ce)) <;> rfl
 ·refine ϑ (f:=λn=>(bV n q.va g c.ce).bind λo=>(Sq n o c).bind Z) (ϗ:=c.lo<=Cf (λa=>M q.va (AP c g a) 0) (F c.ce)/\Cf (λa=>M q.va (AP c g a) 0) (F c.ce)<=c.hi) (b:=H (c.lo<=Cf (λa=>M q.va (AP c g a) 0) (F c.ce))&&H (Cf (λa=>M q.va (AP c g a) 0) (F c.ce)<=c.hi)) hk (λn=>by unfold He Mb;rw[hk];rfl) (Ev.bind (zD2 S ο m)<|Ev.now λn=>?_) Z3 (by unfold B3;rw[hk];simp);unfold Sq q9;cases H (c.lo<=Cf (λa=>M q.va (AP c g a) 0) (F c.ce)) <;> rfl
 ·obtain⟨r,j,e⟩:=zHp S ο m;exact ϑ (f:=λn=>(cu n q.va g c.ce).bind Z) hk (λn=>by unfold He Mb;rw[hk];rfl) (Ev.bind j<|Ev.now λn=>rfl) e (by unfold B3;rw[hk];simp)
 ·have hr:=ca (b:=λa=>tb c.set<|AP c g a) (N:=F c.ce) (F c.ce) 0;refine ϑ (f:=λn=>(T7 n c.ce c.set g).bind λo=>(Si n o).bind λy2=>(QJ n y2 c.ru).bind Z) (ϗ:=rl (λa=>tb c.set<|AP c g a) (F c.ce) (F c.ce) 0=c.ru) (b:=H<|rl (λa=>tb c.set<|AP c g a) (F c.ce) (F c.ce) 0=c.ru) hk (λn=>by unfold He Mb;rw[hk];rfl) (Ev.bind (zGz S m l p) ⟨300,λn hn=>?_⟩) Z3 (by unfold B3;rw[hk];simp)
  show(Si n _).bind _=_
  rw[zRe Z2,zAD,qX (zAO hr<|zAO (by omega:F c.ce+1<=300) Z6) Z2];rfl
 ·have e:F c.ce=2:=by rw[←hc];exact ϛ.two (.inl<|by rw[hc];exact hk)
  have t:=S.cell 0 Z2;have w:=S.cell 1 Z2;have x:=S.gi (a:=0) Z2;have y:=S.gi (a:=1) Z2;have l0:=(S.lt (a:=0) Z2).1;have J:=(S.lt (a:=1) Z2).1;have vl:=ο.len;have v0:=ο.val _ l0;have v1:=ο.val _ J;refine ϑ (f:=λn=>He n q c g) (ϗ:=IQ q c (AP c g 0) (AP c g 1)=T) (b:=IQ q c (AP c g 0)<|AP c g 1) hk (λn=>rfl) (Ev.now λn=>?_) Iff.rfl (by unfold B3;rw[hk];simp);unfold He Mb;rw[hk]
  show C _ _ V=_
  rw[x,y,u8,u8,zAB ⟨⟨Z2,Z2⟩,t,⟨Z2,Z2⟩,⟨Z2,Z2⟩,w,Z2,Z2⟩];unfold rS zCV IQ;rw[zAB ⟨Ae.2 ⟨Z2,Z2⟩,Ae.2 ⟨Z2,Z2⟩⟩,zAD,show M q.va (AP c g 1) 0-M q.va (AP c g 0) 0=0-(M q.va (AP c g 0) 0-M q.va (AP c g 1) 0) by omega]
 ·have e:F c.ce=2:=by rw[←hc];exact ϛ.two (.inr<|by rw[hc];exact hk)
  have t:=S.cell 0 Z2;have w:=S.cell 1 Z2;have x:=S.gi (a:=0) Z2;have y:=S.gi (a:=1) Z2;have l0:=(S.lt (a:=0) Z2).2;have J:=(S.lt (a:=1) Z2).2;refine ϑ (f:=λn=>He n q c g) (ϗ:=Hy c (AP c g 0) (AP c g 1)=T) (b:=Hy c (AP c g 0)<|AP c g 1) hk (λn=>rfl) (Ev.now λn=>?_) Iff.rfl (by unfold B3;rw[hk];simp);unfold He Mb;rw[hk]
  show C _ _ V=_
  rw[x,y,zAB ⟨⟨Z2,Z2⟩,t,⟨Z2,Z2⟩,w⟩,Po l Z2 Z2,Po l Z2 Z2,Po I Z2 Z2,Po I Z2 Z2];unfold Hy;cases tb c.set (AP c g 0) <;> cases tb c.set (AP c g 1) <;> cases tb c.other (AP c g 0) <;> cases tb c.other (AP c g 1) <;> rfl
 ·have s:FN c q<|Ax g:=by rw[←hc];exact ϛ.all (.inl<|by rw[hc];exact hk) z
  obtain⟨r,j,e⟩:=yw (loop:=D) (ϗ:=Hs q.nb<|CT c g) S s l p Z3;exact ϑ (f:=λn=>(Ug n q.nb g c.ce c.set D).bind Z) hk (λn=>by unfold He Mb;rw[hk];rfl) (Ev.bind j<|Ev.now λn=>rfl) e (by unfold B3;rw[hk];simp)
 ·have s:FN c q<|Ax g:=by rw[←hc];exact ϛ.all (.inr<|by rw[hc];exact hk) z
  obtain⟨r,j,e⟩:=yw (loop:=T) (ϗ:=Hs q.nb (CT c g)/\∀v,v<F g->M (CT c g) v D=T->Cj q.nb (CT c g) v=2) S s l p (by
   rw[zAB rfl];have gl:=s.gl;rw[Fh]at gl;constructor
   ·rintro⟨j,e⟩;exact .inr ⟨e,j⟩
   ·rintro(h|⟨j,e⟩)
    ·exact⟨λu v hu _ K _=>(by rw[h u Z2]at K;cases K),λv hv P=>by rw[h v hv]at P;cases P⟩
    ·exact⟨e,j⟩)
  exact ϑ (f:=λn=>(Ug n q.nb g c.ce c.set T).bind Z) hk (λn=>by unfold He Mb;rw[hk];rfl) (Ev.bind j<|Ev.now λn=>rfl) e (by unfold B3;rw[hk];simp)
/-! ### Finished grids-/
def zDc{s:E}{l:Ξ}(hl:F l<=LB):∀(k j:U),j+k=F l->(∀y,y<j->0<=M l y 0/\M l y 0<s)->∃r:E,Ev (λn=>Pm l s n<|.l1 (j:E)) r/\(H (r>=0)=D↔∀j,j<F l->0<=M l j 0/\M l j 0<s):=by
 have hb:LB<=9223372036854775806:=Z6
 intro k
 induction k with
 |zero=>
  intro j e h;refine⟨-1,Ev.one λn=>?_,zPB Z6 λy a=>h y Z2⟩
  show YO n (Pm l s n) l s (j:E)=_
  unfold YO;rw[zAF Z2,zAJ]
 |succ k b=>
  intro j e h;have c:j<F l:=Z2
  have u:∀n,bG n (M l j 0) s=Z (H<|¬(0<=M l j 0/\M l j 0<s)):=λn=>by
   unfold bG sd
   by_cases h0:M l j 0<0
   ·rw[zAA h0,zAI,zAA Z2]
   ·rw[zAF h0,zAJ];exact congrArg Z<|zTa.2 Z2
  have step:∀n,Pm l s (n+1) (.l1 (j:E))=L (H<|¬(0<=M l j 0/\M l j 0<s)) (Z (j:E)) (Pm l s n<|.l1 ((j+1:U):E)):=λn=>by
   show YO n (Pm l s n) l s (j:E)=_
   unfold YO;rw[zAA Z2,zAI,zAB ⟨Z2,Z2⟩,u8,u,zAD,zAB<|Ae.2 ⟨Z2,Z2⟩,show((j+1:U):E)=(j:E)+1 by omega]
  by_cases g:0<=M l j 0/\M l j 0<s
  ·obtain⟨r,f,i⟩:=b (j+1) Z2 λy a=>by
    rcases zBy.1 a with a|rfl
    ·exact h y a
    ·exact g
   exact⟨r,AX.ev (AX.one λn=>by rw[step n,zAF λh=>h g,zAJ]) f,i⟩
  ·refine⟨(j:E),Ev.one λn=>by rw[step n,zAA g,zAI],zM2 (by rw[zAA Z2];decide) λh=>g<|h j c⟩
def zIS(k:DT q)(m:F g<=LB):∃e,Ev (λn=>dE n q g) e/\(e=0↔CR q=T/\Gd q g):=by
 have l:Ev (λn=>valid n q)<|EE (CR q) 191:=⟨D0 q,λn a=>ay k a⟩;cases o:CR q with
 |false=>
  rw[o]at l;exact⟨191,Ev.bind l<|Ev.now λn=>rfl,Z3⟩
 |true=>
  rw[o]at l
  by_cases p:(F g:E)=q.ce
  ·obtain⟨r,c,f⟩:=zDc (s:=q.sy) m (F g) 0 Z2 λj i=>τ i<|zAR j
   refine⟨C (H (r>=0)=T) 200 0,Ev.bind l<|Ev.eq (Ev.bind (Ev.eq (Ev.bind (Ev.bind c (b:=λn y=>Z<|H<|y>=0)<|Ev.now λn=>rfl) (b:=λn y=>Z<|!y)<|Ev.now λn=>rfl) λn=>?_) (b:=λn G=>L (!G) (Z 200)<|Z 0)<|Ev.now λn=>?_) λn=>rfl,?_⟩
   ·unfold ZW qM;rw[zB1.2 p,zAI];rfl
   ·cases H (r>=0) <;> rfl
   ·have:C (H (r>=0)=T) (200:E) 0=0↔H (r>=0)=D:=by cases H (r>=0) <;> simp
    rw[this,f];exact⟨λh=>⟨rfl,p,h⟩,λh=>h.2.sym⟩
  ·refine⟨200,Ev.bind l<|Ev.now λn=>?_,zM2 Z6 λh=>p h.2.len⟩
   show(L ((0:E) != 0) _<|(ZW n q.ce q.sy g).bind _)=_
   unfold ZW qM;rw[zMS.2 p];rfl
def SvP(q:AA)(g:Ξ)(r:ζ×E):Prop:=(r.2=0↔CR q=T/\Gd q g)/\(r.2=0->(r.1=T↔Js q g))
def zDZ(f:DT q)(o:CR q=T)(G:Gd q g):∀(k j:U),j+k=F q.cons->(∀i,0<=i->i<(j:E)->B3 q (con q i) g)->∃r:E,Ev (λn=>Pj q.cons q g n<|.l1 (j:E)) r/\(H (r>=0)=D↔Js q g):=by
 have BI:F q.cons<=4096:=by have:=Dy o;omega
 intro k
 induction k with
 |zero=>
  intro j e h;refine⟨-1,Ev.one λn=>?_,zPB Z6 λi h0 a=>h i h0 Z2⟩
  show YN n (Pj q.cons q g n) q.cons q g (j:E)=_
  unfold YN;rw[zAF Z2,zAJ]
 |succ k l=>
  intro j e h;have hj:j<F q.cons:=Z2
  obtain⟨b,⟨N,z⟩,c⟩:=zKV (G.ctx f o (i:=(j:E)) Z2 Z2) G
  have step:∀n,N<=n->Pj q.cons q g (n+1) (.l1 (j:E))=L (!b) (Z (j:E)) (Pj q.cons q g n<|.l1 ((j+1:U):E)):=λn s=>by
   have y:He n q (M q.cons (j:E).toNat ξ) g=Z b:=z n s
   show YN n (Pj q.cons q g n) q.cons q g (j:E)=_
   unfold YN bE kF;rw[zAA Z2,zAI,zAB ⟨Z2,Z2⟩,y,zAD,zAD,zAB<|Ae.2 ⟨Z2,Z2⟩,show((j+1:U):E)=(j:E)+1 by omega]
  cases b with
  |true=>
   obtain⟨r,a,m⟩:=l (j+1) Z2 λi h0 a=>by
    by_cases e:i=(j:E)
    ·rw[e];exact c.1 rfl
    ·exact h i h0 Z2
   exact⟨r,AX.ev (AX.oneN N λn s=>by rw[step n s];rfl) a,m⟩
  |false=>
   refine⟨(j:E),Ev.oneN N λn s=>by rw[step n s];rfl,zM2 (by rw[zAA Z2];decide) λh=>?_⟩;have:=c.2<|h (j:E) Z2 Z2;cases this
def zEc(k:DT q)(m:F g<=LB):∃r,Ev (λn=>Tk n q g) r/\SvP q g r:=by
 obtain⟨e,a,c⟩:=zIS k m
 by_cases h0:e=0
 ·subst h0;obtain⟨o,G⟩:=c.1 rfl;obtain⟨r,t,f⟩:=zDZ k o G (F q.cons) 0 Z2 λi h0 a=>Z2
  refine⟨(!H (r>=0),0),Ev.bind a<|Ev.eq (Ev.bind (Ev.bind t (b:=λn j=>Z<|H<|j>=0)<|Ev.now λn=>rfl) (b:=λn l=>Z (!l,(0:E)))<|Ev.now λn=>rfl) λn=>rfl,⟨λ_=>⟨o,G⟩,λ_=>rfl⟩,λ_=>?_⟩;rw[←f]
  show(!H (r>=0))=T↔_
  cases H (r>=0) <;> simp
 ·refine⟨(D,e),Ev.bind a (Ev.now λn=>by rw[zOF.2 h0];rfl),⟨λh=>τ h h0,λh=>τ (c.2 h) h0⟩,λh=>τ h h0⟩
end
def Eo:μ:=.iface 30<|.int .i64 280
def zQA(w:κ):CallsIn η 0 B 54 #[.bool T] w λe w'=>e=.returned (.tuple #[])/\w'=w:=by
 refine callsIn_of_wp Tryz.func54 rfl trivial ?_ rfl;simp only[Tryz.ntmps54,zTO,zDM,zTL,Nat.reduceAdd,Nat.reduceSub,zUD,zUE,List.push_toArray,zUI,zMX,zTY]
 gi_wp2
 go_end0
 exact⟨rfl,rfl⟩
def zQB(w:κ):CallsIn η 0 B 54 #[.bool D] w λe w'=>e=.panicked (pan Eo)/\w'=w:=by
 refine callsIn_of_wp Tryz.func54 rfl trivial ?_ rfl;simp only[Tryz.ntmps54,zTO,zDM,zTL,Nat.reduceAdd,Nat.reduceSub,zUD,zUE,List.push_toArray,zUI,zMX,zTY]
 gi_wp2
 exact⟨rfl,rfl,rfl⟩
def zA1(b:ζ):YC B GG Eo 54 (λ_=>[.bool b]) (λ_=>[]) [] (L b (Z<|.tup 0 λj=>([]:O DV).getD j .any) V) λ_=>[]:=by
 refine⟨λargs W=>HD Tryz.func54 Z5 Z5 args W,λϛ _ i _ N ρ args w G R HR a g y=>?_⟩
 have P:args= #[.bool b]:=by
  obtain⟨c,f⟩:=a;have h:=f 0 Nat.one_pos;have l:args.size=1:=c.symm;apply Array.ext
  ·simp[l]
  ·intro j g1 g2;have:j=0:=Z2
   subst this;have h:args.getD 0 undef=.bool b:=h;rw[zMR,zOS Z2]at h;exact h
 subst P;cases b with
 |true=>
  refine(zQA w).mono ?_;rintro e w' ⟨rfl,rfl⟩;exact⟨N,ρ,G,R,HR,g,y,Bm.refl _ _,.tuple #[],rfl,#[],rfl,rfl,λj g=>τ g<|zAR j⟩
 |false=>
  refine(zQB w).mono ?_;rintro e w' ⟨rfl,rfl⟩;exact⟨N,ρ,G,R,HR,g,y,Bm.refl _ _,rfl⟩
section
abbrev YR(X R ϐ:Type):=O X×A R×ϐ
def yb{X R R' ϐ:Type}(ϕ:A<|YR X R' ϐ)(f:R'->ϐ->A (YR X R ϐ)):A<|YR X R ϐ:=ϕ.bind λa=>match a.2.1 with
 |none=>Z (a.1,V,a.2.2)
 |some v=>(f v a.2.2).map λb=>(a.1++b.1,b.2)
def yx{X R ϐ:Type}(x:X)(ϕ:A<|YR X R ϐ):A<|YR X R ϐ:=ϕ.map λb=>(x::b.1,b.2)
variable{X R ϐ:Type}
def rz{R':Type}{ϕ:A (YR X R' ϐ)}{f:R'->ϐ->A (YR X R ϐ)}{r:YR X R ϐ}(h:yb ϕ f=Z r):∃a,ϕ=Z a/\((a.2.1=V/\r=(a.1,V,a.2.2))∨∃v b,a.2.1=Z v/\f v a.2.2=Z b/\r=(a.1++b.1,b.2)):=by
 obtain⟨a,P,h⟩:=D4 h;refine⟨a,P,?_⟩;split at h
 ·rename_i e;cases h;exact .inl ⟨e,rfl⟩
 ·rename_i v e;obtain⟨b,c,rfl⟩:=K9 h;exact .inr ⟨v,b,e,c,rfl⟩
def DR{X R ϐ:Type}(ϛ:Bw B)(enc:X->O DV)(i:U)(r:YR X R ϐ):Prop:=∃rest,ϛ.encs.drop i=r.1.map enc++rest
variable{i:U}
def zBF{α:Type}{l a b:O α}(h:l.drop i=a++b):l.drop (i+F a)=b:=by
 rw[←zT1,h,List.drop_left'];rfl
variable{ϛ:Bw B}
theorem DR.split{R':Type}{enc:X->O DV}{y:O X}{b:YR X R ϐ}(h:DR ϛ enc i ((y++b.1,b.2):YR X R ϐ)):(∃rest,ϛ.encs.drop i=y.map enc++rest)/\DR ϛ enc (i+F (y.map enc)) b:=by
 obtain⟨rest,h⟩:=h;have h:ϛ.encs.drop i=y.map enc++(b.1.map enc++rest):=by rw[h,zTm,zOi]
 exact⟨⟨_,h⟩,rest,zBF h⟩
def DR.cons{enc:X->O DV}{x:X}{b:YR X R ϐ}(h:DR ϛ enc i ((x::b.1,b.2):YR X R ϐ)):ϛ.encs[i]?=Z (enc x)/\DR ϛ enc (i+1) b:=by
 obtain⟨rest,h⟩:=h;have h:ϛ.encs.drop i=enc x::(b.1.map enc++rest):=h;refine⟨?_,rest,?_⟩
 ·have:=congrArg (·[0]?) h;simpa using this
 ·have:=zBF (a:=[enc x]) h;simpa using this
section
variable{X R R' ϐ:Type}
abbrev YF(ϛ:Bw B)(pv:μ)(fn:Func)(Ϝ:U)(ρ0:O AK)(tD:R->DV)(H':ϐ->DH)(i:U)(r:YR X R ϐ):QY B GG Ϝ:=YQ ϛ GG pv fn Ϝ (i+F r.1) ρ0 (r.2.1.map tD)<|H' r.2.2
variable{ϛ:Bw B}{pv:μ}{fn:Func}{Ϝ:U}{ρ0:O AK}{tD:R->DV}{H':ϐ->DH}{i:U}{r:YR X R ϐ}{enc:X->O DV}{k K:O KI}{S:St}{ops:υ Oper}
 {c:O (DV×DH×ζ)} {o:O (U×DV)} {z:O (U×Fz)} {v:O Prop} {fr:O DV} {h h1:DH} {l l1 l2:Θ} {p:U} {dst:A Tmp}
abbrev TO(ϛ:Bw B)(pv:μ)(fn:Func)(Ϝ:U)(ρ0:O AK)(tD:R->DV)(H':ϐ->DH)(ops:υ Oper)(l:Θ)(k:O KI)(i:U)(r:YR X R ϐ)(S:St):Prop:=CN B GG (ϛ.K GG Ϝ i ρ0) ops l S<|BN B GG η V Ϝ (YF ϛ pv fn Ϝ ρ0 tD H' i r) k
abbrev TY(ϛ:Bw B)(pv:μ)(fn:Func)(Ϝ:U)(ρ0:O AK)(tD:R->DV)(H':ϐ->DH)(k:O KI)(i:U)(r:YR X R ϐ)(S:St):Prop:=A6 B GG η V Ϝ (ϛ.K GG Ϝ i ρ0) (YF ϛ pv fn Ϝ ρ0 tD H' i r) k S
variable{j:U}{y:O X}
theorem YF.pan{o:ϐ}{fr:O DV}{h:DH}(J:Nat.ble Ϝ (F h)=T)(a:RL Ϝ h=H' o)(g:j=i+F y):YF ϛ pv fn Ϝ ρ0 tD H' i ((y,V,o):YR X R ϐ) (.panic<|pan pv) ⟨fr,h⟩<|ϛ.K GG Ϝ j ρ0:=by
 subst g;exact⟨rfl,rfl,_,BB.compact (θ Ϝ) ⟨fr,h⟩ zQJ (λk hk=>zAQ (zAV.1 hk)<|zMQ J) (λk hk=>by simp[hk]),a⟩
def YF.app{b:YR X R ϐ}(g:j=i+F y):YF ϛ pv fn Ϝ ρ0 tD H' i ((y++b.1,b.2):YR X R ϐ)=YF ϛ pv fn Ϝ ρ0 tD H' j b:=by
 subst g
 show YQ _ _ _ _ _ (i+F (y++b.1)) _ _ _=YQ _ _ _ _ _ (i+F y+F b.1) _ _ _
 rw[zAi,zTh]
def yO(a:Kx K=Z (ops,D6 K):=by kernel_rfl)(hk:TO ϛ pv fn Ϝ ρ0 tD H' ops (θ ops.size) (D6 K) i r S):TY ϛ pv fn Ϝ ρ0 tD H' K i r S:=by
 unfold Kx at a;split at a
 ·rename_i id g k;have y:g=ops:=congrArg Prod.fst<|zAN a;subst y;exact Tr.ofO hk
 ·cases a
def yD(J:O<|Θ×U)(w b:Θ)(g:HS c o z v)(fr:O DV)(h1:DH)(hk:TO ϛ pv fn Ϝ ρ0 tD H' ops b (D6 K) i r ⟨fr,h1⟩)
 (a:dD K=Z (ops,D6 K):=by kernel_rfl) (N:Ar ops J w b:=by unfold Ar;kernel_rfl) (h:(Pu B GG ops S.h J w S ⟨c,o,z,[]⟩).map (UQ<|FF 0 fr)=Z (fr,h1,v):=by kernel_rfl):TY ϛ pv fn Ϝ ρ0 tD H' K i r S:=by
 unfold dD at a;split at a
 ·rename_i id j k;have y:j=ops:=congrArg Prod.fst<|zAN a;subst y;obtain⟨f,An,h,e⟩:=dw h;refine Tr.ordO (HC.x (ϖ:=η)).f (HC.x (ϖ:=η)).m N h g.all<|CN.weaken (S':=⟨fr,h1⟩) ?_ hk;rw[e];exact BB.forget _ _ _
 ·cases a
def y0(hk:TY ϛ pv fn Ϝ ρ0 tD H' k i r S):TO ϛ pv fn Ϝ ρ0 tD H' ops [] k i r S:=λN ρ _ _ R y m=>⟨S,ρ,N,_,hk,R,y,m,Bd.none⟩
def yE(m:HS c o z v)(fr:O DV)(h1:DH)(hk:TY ϛ pv fn Ϝ ρ0 tD H' k i r ⟨fr,h1⟩)(h:(EL B GG ops (CJ ops l) S ⟨c,o,z,[]⟩).map (UQ<|FF 0 fr)=Z (fr,h1,v):=by kernel_rfl)(Y:Ca ops=T:=by kernel_rfl)(hc:U6 k=T:=by kernel_rfl):TO ϛ pv fn Ϝ ρ0 tD H' ops l k i r S:=by
 obtain⟨f,An,h,e⟩:=dw h;refine CN.done (HC.x (ϖ:=η)).f Y h m.all<|A6.leH (S':=⟨fr,h1⟩) ?_ hc hk;rw[e];exact BB.forget _ _ _
def yT(s:ϛ.nv)(l1 l2:Θ)(p:U)(m:HS c o z v)(fr:O DV)(h1:DH)(dst:A Tmp)(hk:TO ϛ Eo fn Ϝ ρ0 tD H' ops l2 k i r ⟨Cq fr dst Oh,h1⟩)(hr:DR ϛ enc i r)
 (e:l=l1++p::l2:=by kernel_rfl) (h:(Ie B GG ops l1 p S ⟨c,o,z,[]⟩).map (Ng<|FF 0 fr)=Z (54,[.bool T],dst,fr,h1,v):=by kernel_rfl) (Y:Ca ops=T:=by kernel_rfl):TO ϛ Eo fn Ϝ ρ0 tD H' ops l k i r S:=by
 subst e;obtain⟨f,An,h,e0⟩:=Xk h;exact CN.call (ϒ:=h1) (ds:=λ_=>[.bool T]) (h:=λ_=>[]) (h':=λ_=>[]) (ys:=[]) (HC.x (ϖ:=η)).f Y s h m.all (zA1 T) rfl rfl rfl rfl ⟨_,rfl⟩ (CN.weaken (Ov e0) hk)
variable{o':ϐ}
def yP(s:ϛ.nv)(l1 l2:Θ)(p:U)(m:HS c o z v)(fr:O DV)(h1:DH)(dst:A Tmp)(a:RL Ϝ h1=H' o':=by kernel_rfl)(J:Nat.ble Ϝ (F h1)=T:=by kernel_rfl)
 (e:l=l1++p::l2:=by kernel_rfl) (h:(Ie B GG ops l1 p S ⟨c,o,z,[]⟩).map (Ng<|FF 0 fr)=Z (54,[.bool D],dst,fr,h1,v):=by kernel_rfl) (Y:Ca ops=T:=by kernel_rfl):TO ϛ Eo fn Ϝ ρ0 tD H' ops l k i (([],V,o'):YR X R ϐ) S:=by
 subst e;obtain⟨f,An,h,_⟩:=Xk h;exact CN.call (ϒ:=h1) (ds:=λ_=>[.bool D]) (h:=λ_=>[]) (h':=λ_=>[]) (ys:=[]) (HC.x (ϖ:=η)).f Y s h m.all (zA1 D) rfl rfl rfl rfl ⟨_,rfl⟩ (MM (YF.pan J a rfl) k)
variable{f:R'->ϐ->A (YR X R ϐ)}{ϕ:A (YR X R' ϐ)}{tD':R'->DV}{h':U->ϐ->DH}{ds:U->O DV}{g:FuncId}
def yC{h:U->DH}(s:ϛ.nv)(l1 l2:Θ)(p:U)(m:HS c o z v)(fr:O DV)(h1:DH)(dst:A Tmp)
 (J:yb ϕ f=Z r) (n:DR ϛ enc i r) (Ϙ:∀a,ϕ=Z a->YC B GG pv g ds h (a.1.map enc) (a.2.1.map tD') λl=>h' l a.2.2)
 (hk:∀t o' b q,f t o'=Z b->DR ϛ enc q b->TO ϛ pv fn Ϝ ρ0 tD H' ops l2 k q b ⟨Cq fr dst<|tD' t,h' ϛ.l o'++h1.drop (F<|h ϛ.l)⟩)
 (e:l=l1++p::l2:=by kernel_rfl) (hc:(Ie B GG ops l1 p S ⟨c,o,z,[]⟩).map (Ng<|FF 0 fr)=Z (g,ds ϛ.l,dst,fr,h1,v):=by kernel_rfl) (u:h1.take (F<|h ϛ.l)=h ϛ.l:=by kernel_rfl) (w:∀o',F (h' ϛ.l o')=F (h ϛ.l):=by intro;kernel_rfl)
 (Y:(h ϛ.l).all (Jn<|F<|h ϛ.l)=T:=by kernel_rfl) (G:(ds ϛ.l).all (CS<|F<|h ϛ.l)=T:=by kernel_rfl) (K:∀o',RL Ϝ (h' ϛ.l o'++h1.drop (F<|h ϛ.l))=H' o':=by intro;kernel_rfl) (N:∀o',Nat.ble Ϝ (F<|h' ϛ.l o'++h1.drop (F<|h ϛ.l))=T:=by intro;kernel_rfl) (I:Ca ops=T:=by kernel_rfl):TO ϛ pv fn Ϝ ρ0 tD H' ops l k i r S:=by
 subst e;obtain⟨f1,An,hc,e0⟩:=Xk hc;obtain⟨a,P,h⟩:=rz J;have Ϙ:=Ϙ a P;rcases h with⟨y,rfl⟩|⟨t,b,y,Q,rfl⟩
 ·rw[y]at Ϙ;exact CN.call (ϒ:=h1.drop<|F<|h ϛ.l) (HC.x (ϖ:=η)).f I s hc m.all Ϙ (VQ u) (w _) Y G n<|MM (YF.pan (N _) (K _)<|by rw[zAS]) k
 ·rw[y]at Ϙ;obtain⟨W,d2⟩:=DR.split (R':=R') n;refine CN.call (ϒ:=h1.drop<|F<|h ϛ.l) (HC.x (ϖ:=η)).f I s hc m.all Ϙ (VQ u) (w _) Y G W ?_;rw[YF.app (j:=i+F (a.1.map enc))<|by rw[zAS]];exact CN.weaken (Ov e0)<|hk _ _ _ _ Q d2
def yY{x:X}{ϕ:A (YR X R ϐ)}(s:ϛ.nv)(l1 l2:Θ)(p:U)(m:HS c o z v)(fr:O DV)(h1:DH)(dst:A Tmp)(g:yx x ϕ=Z r)(j:DR ϛ enc i r)
 (hk:∀b a,ϕ=Z b->DR ϛ enc a b->TO ϛ pv fn Ϝ ρ0 tD H' ops l2 k a b ⟨Cq fr dst<|.bool T,h1⟩)
 (e:l=l1++p::l2:=by kernel_rfl) (h:(TF B GG ops l1 p S ⟨c,o,z,[]⟩).map (du<|FF 0 fr)=Z (enc x,ϛ.l,dst,fr,h1,v):=by kernel_rfl) (Y:Ca ops=T:=by kernel_rfl):TO ϛ pv fn Ϝ ρ0 tD H' ops l k i r S:=by
 subst e;obtain⟨b,n,rfl⟩:=K9 g;obtain⟨W,q⟩:=DR.cons j;obtain⟨f1,An,hy,e0⟩:=xW h;refine CN.yield (HC.x (ϖ:=η)).f Y s hy m.all W ?_;have e:YF ϛ pv fn Ϝ ρ0 tD H' i ((x::b.1,b.2):YR X R ϐ)=YF ϛ pv fn Ϝ ρ0 tD H' (i+1) b:=YF.app (y:=[x]) rfl;rw[e];exact CN.weaken (Ov e0)<|hk _ _ n q
def yR{hc:U->DH}(z:ϛ.nv)(u c xs:Θ)(p:U)(G:HS [] o [] v)(fr:O DV)(h1:DH)(dst:A Tmp)
 (hA:yb ϕ f=Z r) (I:DR ϛ enc i r) (Ϙ:∀a,ϕ=Z a->YC B GG pv g ds hc (a.1.map enc) (a.2.1.map tD') λl=>h' l a.2.2)
 (hk:∀w o' b J,f w o'=Z b->DR ϛ enc J b->TO ϛ pv fn Ϝ ρ0 tD H' ops c (D6 K) J b ⟨Cq fr dst<|tD' w,h' ϛ.l o'++h1.drop (F<|hc ϛ.l)⟩)
 (n:dD K=Z (ops,D6 K):=by kernel_rfl) (N:(Ca ops&&Region.noSelect ops&&(F u+1+F c==ops.size)&&(c.all λt=>decide (t<ops.size))&&Sf ops p c u (Array.replicate ops.size D)&&ra xs S.h&&hidB xs (F<|hc ϛ.l) S.h)=T:=by kernel_rfl)
 (s:(XA B ops xs u S o).bind (λq=>(Ie B GG ops [] p q.1 ⟨[],[],[],[]⟩).map λx=>(Ng (FF 0 fr) x,q.2.1,x.2.2.2.2.1))=Z ((g,ds ϛ.l,dst,fr,h1,[]),v,[]):=by kernel_rfl) (P:h1.take (F<|hc ϛ.l)=hc ϛ.l:=by kernel_rfl) (Q:h1=S.h:=by kernel_rfl) (W:∀o',F (h' ϛ.l o')=F (hc ϛ.l):=by intro;kernel_rfl)
 (Y:(hc ϛ.l).all (Jn<|F<|hc ϛ.l)=T:=by kernel_rfl) (EV:(ds ϛ.l).all (CS<|F<|hc ϛ.l)=T:=by kernel_rfl) (hp:∀o',RL Ϝ (h' ϛ.l o'++h1.drop (F<|hc ϛ.l))=H' o':=by intro;kernel_rfl) (hL:∀o',Nat.ble Ϝ (F<|h' ϛ.l o'++h1.drop (F<|hc ϛ.l))=T:=by intro;kernel_rfl):TY ϛ pv fn Ϝ ρ0 tD H' K i r S:=by
 unfold dD at n;split at n
 ·rename_i id PT k;have y:PT=ops:=congrArg Prod.fst<|zAN n;subst y;obtain⟨q,hq,e⟩:=D4 s;obtain⟨⟨q1,q2⟩,q3,q4⟩:=q;obtain⟨x,hx,e2⟩:=K9 e;obtain⟨g',ds',dst',⟨f2,h2⟩,v2,An⟩:=x;simp only[Ng,zLJ]at e2;obtain⟨⟨rfl,e3,rfl,e0,rfl,rfl⟩,rfl,_⟩:=e2;have s:=hq;have e:=hx;rw[←e3]at e;obtain⟨rfl,rfl⟩:=St.mk.inj<|zQt e;obtain⟨a,ha,h⟩:=rz hA;have Ϙ:=Ϙ a ha;rcases h with⟨y,rfl⟩|⟨w,b,y,hb,rfl⟩
  ·rw[y]at Ϙ;exact Tr.drawC (ϒ:=h1.drop<|F<|hc ϛ.l) (HC.x (ϖ:=η)).f (HC.x (ϖ:=η)).m N z s G.all e Ϙ (Q▸VQ P) (W _) Y EV I<|MM (YF.pan (hL _) (hp _)<|by rw[zAS]) k
  ·rw[y]at Ϙ;obtain⟨d1,d2⟩:=DR.split (R':=R') I;refine Tr.drawC (ϒ:=h1.drop<|F<|hc ϛ.l) (HC.x (ϖ:=η)).f (HC.x (ϖ:=η)).m N z s G.all e Ϙ (Q▸VQ P) (W _) Y EV d1 ?_;rw[YF.app (j:=i+F (a.1.map enc))<|by rw[zAS]];exact CN.weaken (Ov e0)<|hk _ _ _ _ hb d2
 ·cases n
def yF{t:R}(h:BY B GG η V Ϝ (ϛ.K GG Ϝ i ρ0) (DD B fn Ϝ (tD t)<|H' o') k S):TY ϛ pv fn Ϝ ρ0 tD H' k i (([],Z t,o'):YR X R ϐ) S:=h
end
def YC.ofY{X R ϐ:Type}{pv:μ}{f Ϝ:U}{fn:Func}{tD:R->DV}{r:YR X R ϐ}{enc:X->O DV}{ds:U->O DV}{h:U->DH}{h':U->ϐ->DH}(g:Tryz.prog.funcs[f]?=Z fn)
 (ϒ:∀(ϛ:Bw B) (i:U) (ρ0:O AK),ϛ.nv->DR ϛ enc i r->TY ϛ pv fn Ϝ ρ0 tD (λo=>h' ϛ.l o) [.code<|AZ fn] i r ⟨ds ϛ.l++d (fn.ntmps-F (ds ϛ.l)) .any,h ϛ.l⟩)
 (b:fn.body.isSome=T:=by kernel_rfl) (s:(fn.name== "runtime.NumGoroutine")=D:=by kernel_rfl) (J:∀l,F (h l)=Ϝ:=by intro;kernel_rfl):YC B GG pv f ds h (r.1.map enc) (r.2.1.map tD) λl=>h' l r.2.2:=
 YC.of g b s J λϛ i ρ0 a c=>by
  rw[zAS];exact ϒ ϛ i ρ0 a c
end
section
set_option maxRecDepth 100000
set_option maxHeartbeats 40000000
def M5(x:Ξ×Ξ×E):O DV:=[.agg 3<|L1 [.ints x.1,.ints x.2.1,.i x.2.2]]
abbrev BG:=Ξ×Ξ×E
def eM(pos:Ξ)(S j:E):U->O DV:=λ_=>[.ref 5 0,.ints pos,.i S,.i j]
def EA(u:Ξ)(q:AA)(tree:O<|Δ)(ln:U)(pos0:Ξ):U->DH:=λl=>[oI u,Z<|.ro<|AG q,Z<|.ro [.sl 2 (F tree)<|AM Az tree],Z<|.ro [.msl 0 1 0 ln],Z<|.ro [.ints pos0],Z<|.ro<|AG q++[.sl 2 (F tree)<|AM Az tree,.msl 0 1 0 ln,.yl l]]
def Xt(y:E):DV:=.i y
abbrev FU:=Ξ->E->E->Ξ->AA->(O<|Δ)->U->Ξ->A (YR BG E Ξ)
def K6(f:FU):Prop:=∀(pos:Ξ) (S j:E) (u:Ξ) (q:AA) (tree:O<|Δ) (ln:U) (pos0:Ξ) (r:YR BG E Ξ),f pos S j u q tree ln pos0=Z r->YC B GG Eo 55 (eM pos S j) (EA u q tree ln pos0) (r.1.map M5) (r.2.1.map Xt) (EA r.2.2 q tree ln pos0)
def we:U->O DV:=λ_=>[.ref 6 0,.ref 10 0,.ref 7 0,.ref 8 0,.ref 9 0]
def KB(u:Ξ)(q:AA)(tree:O<|Δ)(ln:U)(pos0 pos:Ξ)(S j:E)(nd:Δ):U->DH:=λl=>[oI u,Z<|.ro<|AG q,Z<|.ro [.sl 2 (F tree)<|AM Az tree],Z<|.ro [.msl 0 1 0 ln],Z<|.ro [.ints pos0],Z<|.ro<|AG q++[.sl 2 (F tree)<|AM Az tree,.msl 0 1 0 ln,.yl l],Z<|.ro [.ref 5 0],Z<|.ro [.ints pos],Z<|.ro [.i S],Z<|.ro [.i j],Z<|.ro [.i nd.1,.i nd.2]]
def wf(y:E):DV:=.i y
abbrev zJA:=Ξ->AA->(O<|Δ)->U->Ξ->Ξ->E->E->Δ->A (YR BG E Ξ)
def zI9(f:zJA):Prop:=∀(u:Ξ) (q:AA) (tree:O<|Δ) (ln:U) (pos0 pos:Ξ) (S j:E) (nd:Δ) (r:YR BG E Ξ),f u q tree ln pos0 pos S j nd=Z r->YC B GG Eo 91 we (KB u q tree ln pos0 pos S j nd) (r.1.map M5) (r.2.1.map wf) (KB r.2.2 q tree ln pos0 pos S j nd)
def zF5:Ar (Am Tryz.f91 1) [([0,1,2,3,4,5,6],7)] [8,9,10,11,12] []:=Z0
def lI:BZ:=λi=>match i with
 |1=>.ord [([0,1,2,3,4,5,6],7)] [8,9,10,11,12] []
 |_=>.no
def mP(n:U)(m:FU)(u:Ξ)(q:AA)(tree:O<|Δ)(ln:U)(pos0 pos:Ξ)(S j:E)(nd:Δ):A<|YR BG E Ξ:=(PL n q nd.2 pos).bind λf=>L (f.2==0) (C (AI<|S+1) (yb (m f.1 (S+1) j u q tree ln pos0) λG Q=>Z ([],Z G,Q)) V)<|Z ([],V,u)
def mQ(n:U)(m:FU)(u:Ξ)(q:AA)(tree:O<|Δ)(ln:U)(pos0 pos:Ξ)(S j:E)(nd:Δ):A<|YR BG E Ξ:=mP n m u q tree ln pos0 pos S j nd
variable{m:FU}{n:U}
def zI8(t:K6 m):zI9<|mQ n m:=λu q tree ln pos0 pos S j nd r h=>YC.ofY (Ϝ:=11) (h':=λl o=>KB o q tree ln pos0 pos S j nd l) Tryz.func91 (λϛ i ρ0 s e=>by
 replace h:mP n m u q tree ln pos0 pos S j nd=Z r:=h;unfold mP at h;obtain⟨f,P,h⟩:=D4 h;have p:=H0.g zF5|>.c (fb (mR P)<|KB u q tree ln pos0 pos S j nd ϛ.l)
 refine gs (AQ 3<|AQ 2 lI) [0,1,2,3,4,5,6,7,8,9,10] p (CY (AZ Tryz.f91) 2 []) (AF 28 [(0,.ref 6 0),(3,.ref 8 0),(4,.ref 9 0),(6,.ints f.1),(7,.i f.2)]) (KB u q tree ln pos0 pos S j nd ϛ.l) ?_;rcases Bv h with⟨k,h⟩|⟨k,h⟩
 ·refine yO (ops:=Am Tryz.f91 2) Z5 ?_;refine yT s [0,1] [] 2 (H0.b 20 k) (AF 28 [(0,.ref 6 0),(3,.ref 8 0),(4,.ref 9 0),(6,.ints f.1)]) (KB u q tree ln pos0 pos S j nd ϛ.l) (Z 21) ?_ e;refine y0 ?_;have p:=H0;refine gs (AQ 3<|AQ 2 lI) [0,1,2,3,4,5,6,7,8,9,10] p (CY (AZ Tryz.f91) 3 []) (AF 28 [(0,.ref 6 0),(3,.ref 8 0),(4,.ref 9 0),(6,.ints f.1)]) (KB u q tree ln pos0 pos S j nd ϛ.l) ?_;obtain⟨x,h⟩:=B6 h;refine yO (ops:=Am Tryz.f91 3) Z5 ?_;refine yC (ds:=eM f.1 (S+1) j) (h:=EA u q tree ln pos0) (h':=λl o=>EA o q tree ln pos0 l) (tD':=Xt) s [0,1,2,3,4] [6] 5 (H0.w 25 x) (AF 28 []) (KB u q tree ln pos0 pos S j nd ϛ.l) (Z 27) h e (λa v=>t _ _ _ _ _ _ _ _ a v) λG Q r i h e=>?_;refine yE H0 (AF 28 [(5,.i G)]) (KB Q q tree ln pos0 pos S j nd ϛ.l) ?_;have p:=H0;cases h;exact yF<|ee (AQ 3<|AQ 2 lI) [5] [0,1,2,3,4,5,6,7,8,9,10] p
 ·cases h;refine yO (ops:=Am Tryz.f91 2) Z5 ?_;exact yP s [0,1] [] 2 (H0.b 20 k) (AF 28 [(0,.ref 6 0),(3,.ref 8 0),(4,.ref 9 0),(6,.ints f.1)]) (KB u q tree ln pos0 pos S j nd ϛ.l)<|Z 21)
def uR:U->O DV:=λ_=>[.ref 10 0,.ref 7 0,.ref 8 0,.ref 6 0,.ref 9 0]
def E9(u:Ξ)(q:AA)(tree:O<|Δ)(ln:U)(pos0 pos:Ξ)(S j:E)(nd:Δ):U->DH:=λl=>[oI u,Z<|.ro<|AG q,Z<|.ro [.sl 2 (F tree)<|AM Az tree],Z<|.ro [.msl 0 1 0 ln],Z<|.ro [.ints pos0],Z<|.ro<|AG q++[.sl 2 (F tree)<|AM Az tree,.msl 0 1 0 ln,.yl l],Z<|.ro [.ref 5 0],Z<|.ro [.ints pos],Z<|.ro [.i S],Z<|.ro [.i j],Z<|.ro [.i nd.1,.i nd.2]]
def kY(y:E):DV:=.i y
abbrev zEV:=Ξ->AA->(O<|Δ)->U->Ξ->Ξ->E->E->Δ->A (YR BG E Ξ)
def zEU(f:zEV):Prop:=∀(u:Ξ) (q:AA) (tree:O<|Δ) (ln:U) (pos0 pos:Ξ) (S j:E) (nd:Δ) (r:YR BG E Ξ),f u q tree ln pos0 pos S j nd=Z r->YC B GG Eo 93 uR (E9 u q tree ln pos0 pos S j nd) (r.1.map M5) (r.2.1.map kY) (E9 r.2.2 q tree ln pos0 pos S j nd)
def zFj:Ar (Am Tryz.f93 7) [([0,1,2,3,4,5,6,7],8)] [9,10,11,12,13] []:=Z0
def Q3:BZ:=λi=>match i with
 |7=>.ord [([0,1,2,3,4,5,6,7],8)] [9,10,11,12,13] []
 |_=>.no
inductive Ti where
 |l1 (x6 Es:E) (o0:Ξ)
def Qw(n:U)(m:FU)(self:Ti->A (YR BG E Ξ))(AT:Ξ)(q:AA)(tree:O<|Δ)(ln:U)(pos0 pos:Ξ)(AL j:E)(nd:Δ)(x6 S:E)(o0:Ξ):A<|YR BG E Ξ:=L (H<|S<q.sy) (C ((0<=nd.2/\nd.2<(F pos:E))/\(0<=S/\S<=(IntKind.i64.bits:E))) (L (bits .and .i64 (M pos (nd.2).toNat 0/2^(S).toNat) 1==1) ((OG n q pos nd.2 S).bind λf=>L (f.2==0) (C (AI<|j+1) (yb (m f.1 x6 (j+1) o0 q tree ln pos0) λG Q=>C (AI<|S+1) (self<|.l1 G (S+1) Q) V) V)<|Z ([],V,o0))<|C (AI<|S+1) (self<|.l1 x6 (S+1) o0) V) V)<|Z ([],Z x6,o0)
def bc(n:U)(Ah:FU)(self:Ti->A (YR BG E Ξ))(u:Ξ)(q:AA)(tree:O<|Δ)(ln:U)(pos0 pos:Ξ)(S depth:E)(nd:Δ):A<|YR BG E Ξ:=L (H<|nd.2>=0) (L (H<|nd.2<(F pos:E)) ((GO n pos).bind λf=>L (!f) (C (0<=nd.2/\nd.2<(F pos:E)) ((Q0 n<|M pos (nd.2).toNat 0).bind λG=>L (H<|G>1) (C (AI<|S+1) (self<|.l1 (S+1) 0 u) V)<|Z ([],V,u)) V)<|Z ([],V,u))<|Z ([],V,u))<|Z ([],V,u)
def JK(m:FU)(u:Ξ)(q:AA)(tree:O<|Δ)(ln:U)(pos0 pos:Ξ)(S j:E)(nd:Δ):U->Ti->A (YR BG E Ξ)
 |0,_=>V
 |n+1,.l1 x6 a o0=>Qw n m (JK m u q tree ln pos0 pos S j nd n) u q tree ln pos0 pos S j nd x6 a o0
def kX(ϛ:Bw B)(ρ0:O AK)(n:U)(AT:Ξ)(q:AA)(tree:O<|Δ)(ln:U)(pos0 pos:Ξ)(S j:E)(nd:Δ)(r:YR BG E Ξ):Ti->Prop
 | .l1 x6 b o0=>∀a:U,n<=a->∀i:U,DR ϛ M5 i r->TY ϛ Eo Tryz.f93 11 ρ0 kY (λo=>E9 o q tree ln pos0 pos S j nd ϛ.l) (EH a<|Fo (AZ Tryz.f93) 0 []) i r ⟨AF 77 [(0,.ref 10 0),(1,.ref 7 0),(3,.ref 6 0),(4,.ref 9 0),(6,.i x6),(41,.i q.sy),(42,.i b)],[oI o0,Z<|.ro<|AG q,Z<|.ro [.sl 2 (F tree)<|AM Az tree],Z<|.ro [.msl 0 1 0 ln],Z<|.ro [.ints pos0],Z<|.ro<|AG q++[.sl 2 (F tree)<|AM Az tree,.msl 0 1 0 ln,.yl ϛ.l],Z<|.ro [.ref 5 0],Z<|.ro [.ints pos],Z<|.ro [.i S],Z<|.ro [.i j],Z<|.ro [.i nd.1,.i nd.2]]⟩
def zET(ϛ:Bw B)(u:ϛ.nv)(ρ0:O AK)(n:U)(z:FU)(J:K6 z)(self:Ti->A (YR BG E Ξ))(v:Ξ)(q:AA)(tree:O<|Δ)(ln:U)(pos0 pos:Ξ)(S j:E)(nd:Δ)(I:∀G r,self G=Z r->kX ϛ ρ0 n v q tree ln pos0 pos S j nd r G)(x6 e:E)(o0:Ξ)(r:YR BG E Ξ)(h:Qw n z self v q tree ln pos0 pos S j nd x6 e o0=Z r):kX ϛ ρ0 (n+1) v q tree ln pos0 pos S j nd r<|.l1 x6 e o0:=by
 intro m t;intro i s;refine rd t λm t=>?_
 unfold Qw at h;have p:=H0;rcases Bv h with⟨f,h⟩|⟨f,h⟩
 ·obtain⟨⟨K,N⟩,h⟩:=B6 h;have p:=H0.b 43 f|>.g K|>.g N
  rcases Bv h with⟨x,h⟩|⟨x,h⟩
  ·obtain⟨k,P,h⟩:=D4 h;have p:=p.b 53 x|>.g zFj|>.c (fb (zAm P)<|E9 o0 q tree ln pos0 pos S j nd ϛ.l)
   refine gs (AQ 9<|AQ 8<|AQ 1 Q3) [0,1,2,3,4,5,6,7,8,9,10] p (CY (AZ Tryz.f93) 8 [m]) (AF 77 [(0,.ref 10 0),(1,.ref 7 0),(3,.ref 6 0),(4,.ref 9 0),(6,.i x6),(8,.ints k.1),(9,.i k.2),(41,.i q.sy),(42,.i e)]) (E9 o0 q tree ln pos0 pos S j nd ϛ.l) ?_;rcases Bv h with⟨f,h⟩|⟨f,h⟩
   ·refine yO (ops:=Am Tryz.f93 8) Z5 ?_;refine yT u [0,1] [] 2 (H0.b 67 f) (AF 77 [(0,.ref 10 0),(1,.ref 7 0),(3,.ref 6 0),(4,.ref 9 0),(6,.i x6),(8,.ints k.1),(41,.i q.sy),(42,.i e)]) (E9 o0 q tree ln pos0 pos S j nd ϛ.l) (Z 68) ?_ s;refine y0 ?_;have p:=H0;refine gs (AQ 9<|AQ 8<|AQ 1 Q3) [0,1,2,3,4,5,6,7,8,9,10] p (CY (AZ Tryz.f93) 9 [m]) (AF 77 [(0,.ref 10 0),(1,.ref 7 0),(3,.ref 6 0),(4,.ref 9 0),(6,.i x6),(8,.ints k.1),(41,.i q.sy),(42,.i e)]) (E9 o0 q tree ln pos0 pos S j nd ϛ.l) ?_;obtain⟨y,h⟩:=B6 h;refine yO (ops:=Am Tryz.f93 9) Z5 ?_;refine yC (ds:=eM k.1 x6<|j+1) (h:=EA o0 q tree ln pos0) (h':=λl o=>EA o q tree ln pos0 l) (tD':=Xt) u [0,1,2,3,4] [6] 5 (H0.w 73 y) (AF 77 [(0,.ref 10 0),(1,.ref 7 0),(3,.ref 6 0),(4,.ref 9 0),(6,.i x6),(41,.i q.sy),(42,.i e)]) (E9 o0 q tree ln pos0 pos S j nd ϛ.l) (Z 74) h s (λa Q=>J _ _ _ _ _ _ _ _ a Q) λR W r i h s=>?_;refine yE H0 (AF 77 [(0,.ref 10 0),(1,.ref 7 0),(3,.ref 6 0),(4,.ref 9 0),(6,.i R),(41,.i q.sy),(42,.i e)]) (E9 W q tree ln pos0 pos S j nd ϛ.l) ?_;obtain⟨X,h⟩:=B6 h;have p:=H0.w 75 X;exact gg (AQ 9<|AQ 8<|AQ 1 Q3) [0,1,2,3,4,5,6,7,8,9,10] p<|I _ _ h m t i s
   ·cases h;refine yO (ops:=Am Tryz.f93 8) Z5 ?_;exact yP u [0,1] [] 2 (H0.b 67 f) (AF 77 [(0,.ref 10 0),(1,.ref 7 0),(3,.ref 6 0),(4,.ref 9 0),(6,.i x6),(8,.ints k.1),(41,.i q.sy),(42,.i e)]) (E9 o0 q tree ln pos0 pos S j nd ϛ.l)<|Z 68
  ·obtain⟨y,h⟩:=B6 h;have p:=p.b 53 x|>.w 75 y
   exact gg (AQ 9<|AQ 8<|AQ 1 Q3) [0,1,2,3,4,5,6,7,8,9,10] p<|I _ _ h m t i s
 ·have p:=H0.b 43 f;cases h;exact yF<|ee (AQ 9<|AQ 8<|AQ 1 Q3) [5] [0,1,2,3,4,5,6,7,8,9,10] p
def uS(ϛ:Bw B)(s:ϛ.nv)(ρ0:O AK)(m:FU)(i:K6 m)(u:Ξ)(q:AA)(tree:O<|Δ)(ln:U)(pos0 pos:Ξ)(S j:E)(nd:Δ):∀(n:U) (G:Ti) (r:YR BG E Ξ),JK m u q tree ln pos0 pos S j nd n G=Z r->kX ϛ ρ0 n u q tree ln pos0 pos S j nd r G
 |0,_,_,h=>by cases h
 |n+1,.l1 x6 a o0,r,h=>zET ϛ s ρ0 n m i (JK m u q tree ln pos0 pos S j nd n) u q tree ln pos0 pos S j nd (uS ϛ s ρ0 m i u q tree ln pos0 pos S j nd n) x6 a o0 r h
def be(n:U)(m:FU)(u:Ξ)(q:AA)(tree:O<|Δ)(ln:U)(pos0 pos:Ξ)(S j:E)(nd:Δ):A<|YR BG E Ξ:=bc n m (JK m u q tree ln pos0 pos S j nd n) u q tree ln pos0 pos S j nd
def zES(v:K6 m):zEU<|be n m:=λu q tree ln pos0 pos S j nd r h=>YC.ofY (Ϝ:=11) (h':=λl o=>E9 o q tree ln pos0 pos S j nd l) Tryz.func93 (λϛ i ρ0 s k=>by
 replace h:bc n m (JK m u q tree ln pos0 pos S j nd n) u q tree ln pos0 pos S j nd=Z r:=h;have I:=uS ϛ s ρ0 m v u q tree ln pos0 pos S j nd n;unfold bc at h
 generalize JK m u q tree ln pos0 pos S j nd n=self at h I
 have p:=H0;refine gs (AQ 9<|AQ 8<|AQ 1 Q3) [0,1,2,3,4,5,6,7,8,9,10] p (CY (AZ Tryz.f93) 1 []) (AF 77 [(0,.ref 10 0),(1,.ref 7 0),(2,.ref 8 0),(3,.ref 6 0),(4,.ref 9 0)]) (E9 u q tree ln pos0 pos S j nd ϛ.l) ?_;rcases Bv h with⟨a,h⟩|⟨a,h⟩
 ·rcases Bv h with⟨e,h⟩|⟨e,h⟩
  ·obtain⟨y1,P,h⟩:=D4 h;rcases Bv h with⟨f,h⟩|⟨f,h⟩
   ·obtain⟨x,h⟩:=B6 h;obtain⟨y2,t,h⟩:=D4 h;rcases Bv h with⟨K,h⟩|⟨K,h⟩
    ·refine yO (ops:=Am Tryz.f93 1) Z5 ?_;refine yT s [0,1,2,3,4,5,6,7,8,9,10,11,12,13,14,15,16,17,18,19,20,21,22,23] [] 24 (H0.b 12 a|>.b 18 e|>.c (fb (KG P)<|E9 u q tree ln pos0 pos S j nd ϛ.l)|>.b 23 f|>.g x|>.c (fb (kz t)<|E9 u q tree ln pos0 pos S j nd ϛ.l)|>.b 32 K) (AF 77 [(0,.ref 10 0),(1,.ref 7 0),(2,.ref 8 0),(3,.ref 6 0),(4,.ref 9 0)]) (E9 u q tree ln pos0 pos S j nd ϛ.l) (Z 34) ?_ k;refine y0 ?_;obtain⟨y,h⟩:=B6 h;have p:=H0.w 36 y;exact gg (AQ 9<|AQ 8<|AQ 1 Q3) [0,1,2,3,4,5,6,7,8,9,10] p<|en n<|I _ _ h n χ i k
    ·cases h;refine yO (ops:=Am Tryz.f93 1) Z5 ?_;exact yP s [0,1,2,3,4,5,6,7,8,9,10,11,12,13,14,15,16,17,18,19,20,21,22,23] [] 24 (H0.b 12 a|>.b 18 e|>.c (fb (KG P)<|E9 u q tree ln pos0 pos S j nd ϛ.l)|>.b 23 f|>.g x|>.c (fb (kz t)<|E9 u q tree ln pos0 pos S j nd ϛ.l)|>.b 32 K) (AF 77 [(0,.ref 10 0),(1,.ref 7 0),(2,.ref 8 0),(3,.ref 6 0),(4,.ref 9 0)]) (E9 u q tree ln pos0 pos S j nd ϛ.l)<|Z 34
   ·cases h;refine yO (ops:=Am Tryz.f93 1) Z5 ?_;exact yP s [0,1,2,3,4,5,6,7,8,9,10,11,12,13,14,15,16,17,18,19,20,21,22,23] [] 24 (H0.b 12 a|>.b 18 e|>.c (fb (KG P)<|E9 u q tree ln pos0 pos S j nd ϛ.l)|>.b 23 f) (AF 77 [(0,.ref 10 0),(1,.ref 7 0),(2,.ref 8 0),(3,.ref 6 0),(4,.ref 9 0)]) (E9 u q tree ln pos0 pos S j nd ϛ.l)<|Z 34
  ·cases h;refine yO (ops:=Am Tryz.f93 1) Z5 ?_;exact yP s [0,1,2,3,4,5,6,7,8,9,10,11,12,13,14,15,16,17,18,19,20,21,22,23] [] 24 (H0.b 12 a|>.b 18 e) (AF 77 [(0,.ref 10 0),(1,.ref 7 0),(2,.ref 8 0),(3,.ref 6 0),(4,.ref 9 0)]) (E9 u q tree ln pos0 pos S j nd ϛ.l)<|Z 34
 ·cases h;refine yO (ops:=Am Tryz.f93 1) Z5 ?_;exact yP s [0,1,2,3,4,5,6,7,8,9,10,11,12,13,14,15,16,17,18,19,20,21,22,23] [] 24 (H0.b 12 a) (AF 77 [(0,.ref 10 0),(1,.ref 7 0),(2,.ref 8 0),(3,.ref 6 0),(4,.ref 9 0)]) (E9 u q tree ln pos0 pos S j nd ϛ.l)<|Z 34)
def zBQ:U->O DV:=λ_=>[.ref 10 0,.ref 7 0,.ref 6 0,.ref 9 0,.ref 8 0]
def I7(u:Ξ)(q:AA)(tree:O<|Δ)(ln:U)(pos0 pos:Ξ)(S j:E)(nd:Δ):U->DH:=λl=>[oI u,Z<|.ro<|AG q,Z<|.ro [.sl 2 (F tree)<|AM Az tree],Z<|.ro [.msl 0 1 0 ln],Z<|.ro [.ints pos0],Z<|.ro<|AG q++[.sl 2 (F tree)<|AM Az tree,.msl 0 1 0 ln,.yl l],Z<|.ro [.ref 5 0],Z<|.ro [.ints pos],Z<|.ro [.i S],Z<|.ro [.i j],Z<|.ro [.i nd.1,.i nd.2]]
def zBR(y:E):DV:=.i y
abbrev zQp:=Ξ->AA->(O<|Δ)->U->Ξ->Ξ->E->E->Δ->A (YR BG E Ξ)
def zQo(f:zQp):Prop:=∀(u:Ξ) (q:AA) (tree:O<|Δ) (ln:U) (pos0 pos:Ξ) (S j:E) (nd:Δ) (r:YR BG E Ξ),f u q tree ln pos0 pos S j nd=Z r->YC B GG Eo 94 zBQ (I7 u q tree ln pos0 pos S j nd) (r.1.map M5) (r.2.1.map zBR) (I7 r.2.2 q tree ln pos0 pos S j nd)
def ib(n:U)(Ah:FU)(u:Ξ)(q:AA)(tree:O<|Δ)(ln:U)(pos0 pos:Ξ)(S j:E)(nd:Δ):A<|YR BG E Ξ:=L (nd.2==0) ((GO n pos).bind λf=>L f (C (F pos=F (d (F pos) (0:E))/\(((F pos:E):E)=(F pos:E)/\0<=(F pos:E)/\((F pos:E):E)<=1000000000000)) (yx (d (F pos) (0:E),([]:Ξ),j)<|C (AI<|S+1) (Z ([],Z<|S+1,u)) V) V)<|Z ([],V,u))<|Z ([],V,u)
def ic(n:U)(m:FU)(u:Ξ)(q:AA)(tree:O<|Δ)(ln:U)(pos0 pos:Ξ)(S j:E)(nd:Δ):A<|YR BG E Ξ:=ib n m u q tree ln pos0 pos S j nd
def zQn(CW:K6 m):zQo<|ic n m:=λu q tree ln pos0 pos S j nd r h=>YC.ofY (Ϝ:=11) (h':=λl o=>I7 o q tree ln pos0 pos S j nd l) Tryz.func94 (λϛ i ρ0 s e=>by
 replace h:ib n m u q tree ln pos0 pos S j nd=Z r:=h;unfold ib at h;have p:=H0;refine gs (AQ 2<|AQ 1 AC) [0,1,2,3,4,5,6,7,8,9,10] p (CY (AZ Tryz.f94) 1 []) (AF 26 [(0,.ref 10 0),(1,.ref 7 0),(2,.ref 6 0),(3,.ref 9 0),(4,.ref 8 0)]) (I7 u q tree ln pos0 pos S j nd ϛ.l) ?_;rcases Bv h with⟨a,h⟩|⟨a,h⟩
 ·obtain⟨y1,P,h⟩:=D4 h;rcases Bv h with⟨f,h⟩|⟨f,h⟩
  ·refine yO (ops:=Am Tryz.f94 1) Z5 ?_;refine yT s [0,1,2,3,4,5,6] [] 7 (H0.b 8 a|>.c (fb (KG P)<|I7 u q tree ln pos0 pos S j nd ϛ.l)|>.b 11 f) (AF 26 [(1,.ref 7 0),(2,.ref 6 0),(3,.ref 9 0),(4,.ref 8 0)]) (I7 u q tree ln pos0 pos S j nd ϛ.l) (Z 13) ?_ e;refine y0 ?_;have p:=H0;refine gs (AQ 2<|AQ 1 AC) [0,1,2,3,4,5,6,7,8,9,10] p (CY (AZ Tryz.f94) 2 []) (AF 26 [(1,.ref 7 0),(2,.ref 6 0),(3,.ref 9 0),(4,.ref 8 0)]) (I7 u q tree ln pos0 pos S j nd ϛ.l) ?_;obtain⟨⟨x,k⟩,h⟩:=B6 h;refine yD (ops:=Am Tryz.f94 2) [([0,1,2,3,4,5,7],6)] [8] [9] (H0.g k|>.z 20 11|>.g x|>.o 22 (AO.aggL (l:=[.ints<|d (F pos) (0:E),.nils,.i j]) (l':=[.ints<|d (F pos) (0:E),.ints ([]:Ξ),.i j]) rfl ⟨At,AO.ints_nil,At,trivial⟩)) (AF 26 [(4,.ref 8 0),(17,.yl ϛ.l),(22,.agg 3<|L1 [.ints<|d (F pos) (0:E),.ints ([]:Ξ),.i j])]) (I7 u q tree ln pos0 pos S j nd ϛ.l++[V]) ?_;refine yY s [] [] 9 H0 (AF 26 [(4,.ref 8 0)]) (I7 u q tree ln pos0 pos S j nd ϛ.l++[V]) (Z 23) h e λr i h e=>?_
   refine y0 ?_;obtain⟨t,h⟩:=B6 h;have p:=H0.w 25 t;cases h;exact yF<|ee (AQ 2<|AQ 1 AC) [5] [0,1,2,3,4,5,6,7,8,9,10] p
  ·cases h;refine yO (ops:=Am Tryz.f94 1) Z5 ?_;exact yP s [0,1,2,3,4,5,6] [] 7 (H0.b 8 a|>.c (fb (KG P)<|I7 u q tree ln pos0 pos S j nd ϛ.l)|>.b 11 f) (AF 26 [(1,.ref 7 0),(2,.ref 6 0),(3,.ref 9 0),(4,.ref 8 0)]) (I7 u q tree ln pos0 pos S j nd ϛ.l)<|Z 13
 ·cases h;refine yO (ops:=Am Tryz.f94 1) Z5 ?_;exact yP s [0,1,2,3,4,5,6] [] 7 (H0.b 8 a) (AF 26 [(1,.ref 7 0),(2,.ref 6 0),(3,.ref 9 0),(4,.ref 8 0)]) (I7 u q tree ln pos0 pos S j nd ϛ.l)<|Z 13)
def zBJ:U->O DV:=λ_=>[.ref 7 0,.ref 10 0,.ref 6 0,.ref 9 0,.ref 8 0]
def HG(u:Ξ)(q:AA)(tree:O<|Δ)(ln:U)(pos0 pos:Ξ)(S j:E)(nd:Δ):U->DH:=λl=>[oI u,Z<|.ro<|AG q,Z<|.ro [.sl 2 (F tree)<|AM Az tree],Z<|.ro [.msl 0 1 0 ln],Z<|.ro [.ints pos0],Z<|.ro<|AG q++[.sl 2 (F tree)<|AM Az tree,.msl 0 1 0 ln,.yl l],Z<|.ro [.ref 5 0],Z<|.ro [.ints pos],Z<|.ro [.i S],Z<|.ro [.i j],Z<|.ro [.i nd.1,.i nd.2]]
def zBK(y:E):DV:=.i y
abbrev zQQ:=Ξ->AA->(O<|Δ)->U->Ξ->Ξ->E->E->Δ->A (YR BG E Ξ)
def zQP(f:zQQ):Prop:=∀(u:Ξ) (q:AA) (tree:O<|Δ) (ln:U) (pos0 pos:Ξ) (S j:E) (nd:Δ) (r:YR BG E Ξ),f u q tree ln pos0 pos S j nd=Z r->YC B GG Eo 95 zBJ (HG u q tree ln pos0 pos S j nd) (r.1.map M5) (r.2.1.map zBK) (HG r.2.2 q tree ln pos0 pos S j nd)
def iP(n:U)(Ah:FU)(u:Ξ)(q:AA)(tree:O<|Δ)(ln:U)(pos0 pos:Ξ)(S j:E)(nd:Δ):A<|YR BG E Ξ:=(Tn n pos).bind λf=>L (nd.2==0) (L f.2 ((Tk n q f.1).bind λG=>L (G.2==0) (L G.1 (yx (pos,f.1,j)<|C (AI<|S+1) (Z ([],Z<|S+1,u)) V)<|Z ([],V,u))<|Z ([],V,u))<|Z ([],V,u))<|Z ([],V,u)
def iQ(n:U)(m:FU)(u:Ξ)(q:AA)(tree:O<|Δ)(ln:U)(pos0 pos:Ξ)(S j:E)(nd:Δ):A<|YR BG E Ξ:=iP n m u q tree ln pos0 pos S j nd
def zQO(CW:K6 m):zQP<|iQ n m:=λu q tree ln pos0 pos S j nd r h=>YC.ofY (Ϝ:=11) (h':=λl o=>HG o q tree ln pos0 pos S j nd l) Tryz.func95 (λϛ i ρ0 s g=>by
 replace h:iP n m u q tree ln pos0 pos S j nd=Z r:=h;unfold iP at h;obtain⟨f,P,h⟩:=D4 h;have p:=H0.c<|fb (uX P)<|HG u q tree ln pos0 pos S j nd ϛ.l;refine gs (AQ 5<|AQ 4<|AQ 2 AC) [0,1,2,3,4,5,6,7,8,9,10] p (CY (AZ Tryz.f95) 2 []) (AF 48 [(0,.ref 7 0),(1,.ref 10 0),(2,.ref 6 0),(3,.ref 9 0),(4,.ref 8 0),(6,.ints f.1),(7,.bool f.2)]) (HG u q tree ln pos0 pos S j nd ϛ.l) ?_;rcases Bv h with⟨a,h⟩|⟨a,h⟩
 ·rcases Bv h with⟨e,h⟩|⟨e,h⟩
  ·rw[e];refine yO (ops:=Am Tryz.f95 2) Z5 ?_;refine yT s [0,1,2,3,4,5] [] 6 (H0.b 17 a) (AF 48 [(0,.ref 7 0),(2,.ref 6 0),(3,.ref 9 0),(4,.ref 8 0),(6,.ints f.1)]) (HG u q tree ln pos0 pos S j nd ϛ.l) (Z 21) ?_ g;refine y0 ?_;obtain⟨G,x,h⟩:=D4 h;have p:=H0.c<|fb (zEb x)<|HG u q tree ln pos0 pos S j nd ϛ.l;refine gs (AQ 5<|AQ 4<|AQ 2 AC) [0,1,2,3,4,5,6,7,8,9,10] p (CY (AZ Tryz.f95) 4 []) (AF 48 [(0,.ref 7 0),(2,.ref 6 0),(3,.ref 9 0),(4,.ref 8 0),(6,.ints f.1),(8,.bool G.1),(9,.i G.2)]) (HG u q tree ln pos0 pos S j nd ϛ.l) ?_;rcases Bv h with⟨a,h⟩|⟨a,h⟩
   ·rcases Bv h with⟨e,h⟩|⟨e,h⟩
    ·rw[e];refine yO (ops:=Am Tryz.f95 4) Z5 ?_;refine yT s [0,1,2,3,4] [] 5 (H0.b 32 a) (AF 48 [(0,.ref 7 0),(2,.ref 6 0),(3,.ref 9 0),(4,.ref 8 0),(6,.ints f.1)]) (HG u q tree ln pos0 pos S j nd ϛ.l) (Z 36) ?_ g;refine y0 ?_;have p:=H0;refine gs (AQ 5<|AQ 4<|AQ 2 AC) [0,1,2,3,4,5,6,7,8,9,10] p (CY (AZ Tryz.f95) 5 []) (AF 48 [(0,.ref 7 0),(2,.ref 6 0),(3,.ref 9 0),(4,.ref 8 0),(6,.ints f.1)]) (HG u q tree ln pos0 pos S j nd ϛ.l) ?_;refine yD (ops:=Am Tryz.f95 5) [] [0,1,2,3,4,5,6,7] [8] H0 (AF 48 [(4,.ref 8 0),(40,.yl ϛ.l),(44,.agg 3<|L1 [.ints pos,.ints f.1,.i j])]) (HG u q tree ln pos0 pos S j nd ϛ.l) ?_;refine yY s [] [] 8 H0 (AF 48 [(4,.ref 8 0)]) (HG u q tree ln pos0 pos S j nd ϛ.l) (Z 45) h g λr i h g=>?_
     refine y0 ?_;obtain⟨k,h⟩:=B6 h;have p:=H0.w 47 k;cases h;exact yF<|ee (AQ 5<|AQ 4<|AQ 2 AC) [5] [0,1,2,3,4,5,6,7,8,9,10] p
    ·rw[e];cases h;refine yO (ops:=Am Tryz.f95 4) Z5 ?_;exact yP s [0,1,2,3,4] [] 5 (H0.b 32 a) (AF 48 [(0,.ref 7 0),(2,.ref 6 0),(3,.ref 9 0),(4,.ref 8 0),(6,.ints f.1)]) (HG u q tree ln pos0 pos S j nd ϛ.l)<|Z 36
   ·cases h;refine yO (ops:=Am Tryz.f95 4) Z5 ?_;exact yP s [0,1,2,3,4] [] 5 (H0.b 32 a) (AF 48 [(0,.ref 7 0),(2,.ref 6 0),(3,.ref 9 0),(4,.ref 8 0),(6,.ints f.1)]) (HG u q tree ln pos0 pos S j nd ϛ.l)<|Z 36
  ·rw[e];cases h;refine yO (ops:=Am Tryz.f95 2) Z5 ?_;exact yP s [0,1,2,3,4,5] [] 6 (H0.b 17 a) (AF 48 [(0,.ref 7 0),(2,.ref 6 0),(3,.ref 9 0),(4,.ref 8 0),(6,.ints f.1)]) (HG u q tree ln pos0 pos S j nd ϛ.l)<|Z 21
 ·cases h;refine yO (ops:=Am Tryz.f95 2) Z5 ?_;exact yP s [0,1,2,3,4,5] [] 6 (H0.b 17 a) (AF 48 [(0,.ref 7 0),(2,.ref 6 0),(3,.ref 9 0),(4,.ref 8 0),(6,.ints f.1)]) (HG u q tree ln pos0 pos S j nd ϛ.l)<|Z 21)
def zGK:Ar (Am Tryz.f55 2) [([0,1,2,3,4,5,6],7)] [] [8]:=Z0
def zGJ:Ar (Am Tryz.f55 6) [] (θ 8) []:=Z0
def Oz:BZ:=λi=>match i with
 |2=>.ord [([0,1,2,3,4,5,6],7)] [] [8]
 |6=>.ord [] (θ 8) []
 |_=>.no
inductive UX where
 |l1 (o0:Ξ)
def Xs(n:U)(Ah:FU)(self:UX->A (YR BG E Ξ))(pos:Ξ)(S depth:E)(AT:Ξ)(q:AA)(tree:O<|Δ)(ln:U)(pos0:Ξ)(o0:Ξ):A<|YR BG E Ξ:=C ((0<=S/\S<(ln:E))/\0+S.toNat<F o0) (Z ([],Z<|M o0 (0+S.toNat) 0,o0)) V
def KD(n:U)(m:FU)(self:UX->A (YR BG E Ξ))(pos:Ξ)(S j:E)(u:Ξ)(q:AA)(tree:O<|Δ)(ln:U)(pos0:Ξ):A<|YR BG E Ξ:=L (H<|S<(F tree:E)) (C (0<=S/\S<(F tree:E)) (L (H<|(M tree S.toNat ξ).1>=1) (L (H<|(M tree S.toNat ξ).1<=4) (L ((M tree S.toNat ξ).1==0) V<|L ((M tree S.toNat ξ).1==1) (yb (mQ n m u q tree ln pos0 pos S j<|M tree S.toNat ξ) λf o1=>C ((0<=S/\S<(ln:E))/\0+S.toNat<F o1) (self<|.l1<|o1.set (0+S.toNat) f) V)<|L ((M tree S.toNat ξ).1==2) (yb (be n m u q tree ln pos0 pos S j<|M tree S.toNat ξ) λf o1=>C ((0<=S/\S<(ln:E))/\0+S.toNat<F o1) (self<|.l1<|o1.set (0+S.toNat) f) V)<|L ((M tree S.toNat ξ).1==3) (yb (ic n m u q tree ln pos0 pos S j<|M tree S.toNat ξ) λf o1=>C ((0<=S/\S<(ln:E))/\0+S.toNat<F o1) (self<|.l1<|o1.set (0+S.toNat) f) V)<|L ((M tree S.toNat ξ).1==4) (yb (iQ n m u q tree ln pos0 pos S j<|M tree S.toNat ξ) λf o1=>C ((0<=S/\S<(ln:E))/\0+S.toNat<F o1) (self<|.l1<|o1.set (0+S.toNat) f) V) V)<|Z ([],V,u))<|Z ([],V,u)) V)<|Z ([],V,u)
def Ja(m:FU)(pos:Ξ)(S j:E)(u:Ξ)(q:AA)(tree:O<|Δ)(ln:U)(pos0:Ξ):U->UX->A (YR BG E Ξ)
 |0,_=>V
 |n+1,.l1 o0=>Xs n m (Ja m pos S j u q tree ln pos0 n) pos S j u q tree ln pos0 o0
def m5(ϛ:Bw B)(ρ0:O AK)(n:U)(pos:Ξ)(S depth:E)(AT:Ξ)(q:AA)(tree:O<|Δ)(ln:U)(pos0:Ξ)(r:YR BG E Ξ):UX->Prop
 | .l1 o0=>∀i:U,DR ϛ M5 i r->TY ϛ Eo Tryz.f55 6 ρ0 Xt (λo=>EA o q tree ln pos0 ϛ.l) (CY (AZ Tryz.f55) 6 []) i r ⟨AF 58 [(4,.ref 6 0),(6,.ref 7 0)],[oI o0,Z<|.ro<|AG q,Z<|.ro [.sl 2 (F tree)<|AM Az tree],Z<|.ro [.msl 0 1 0 ln],Z<|.ro [.ints pos0],Z<|.ro<|AG q++[.sl 2 (F tree)<|AM Az tree,.msl 0 1 0 ln,.yl ϛ.l],Z<|.ro [.ref 5 0],Z<|.ro [.i S]]⟩
def zKG(ϛ:Bw B)(hn:ϛ.nv)(ρ0:O AK)(n:U)(m:FU)(CW:K6 m)(self:UX->A (YR BG E Ξ))(pos:Ξ)(S j:E)(u:Ξ)(q:AA)(tree:O<|Δ)(ln:U)(pos0:Ξ)(AH:∀G r,self G=Z r->m5 ϛ ρ0 n pos S j u q tree ln pos0 r G)(o0:Ξ)(r:YR BG E Ξ)(h:Xs n m self pos S j u q tree ln pos0 o0=Z r):m5 ϛ ρ0 (n+1) pos S j u q tree ln pos0 r<|.l1 o0:=by
 intro i hd;unfold Xs at h;obtain⟨⟨x,a⟩,h⟩:=B6 h;have p:=H0.g zGJ|>.g x|>.g a
 cases h;exact yF<|ee (AQ 5<|AQ 4<|AQ 1 Oz) [8] [0,1,2,3,4,5] p
def xq(ϛ:Bw B)(s:ϛ.nv)(ρ0:O AK)(m:FU)(i:K6 m)(pos:Ξ)(S j:E)(u:Ξ)(q:AA)(tree:O<|Δ)(ln:U)(pos0:Ξ):∀(n:U) (G:UX) (r:YR BG E Ξ),Ja m pos S j u q tree ln pos0 n G=Z r->m5 ϛ ρ0 n pos S j u q tree ln pos0 r G
 |0,_,_,h=>by cases h
 |n+1,.l1 o0,r,h=>zKG ϛ s ρ0 n m i (Ja m pos S j u q tree ln pos0 n) pos S j u q tree ln pos0 (xq ϛ s ρ0 m i pos S j u q tree ln pos0 n) o0 r h
def DP:U->Ξ->E->E->Ξ->AA->(O<|Δ)->U->Ξ->A (YR BG E Ξ)
 |0,_,_,_,_,_,_,_,_=>V
 |n+1,pos,S,j,u,q,tree,ln,pos0=>KD n (DP n) (Ja (DP n) pos S j u q tree ln pos0 n) pos S j u q tree ln pos0
def zKF(x:K6 m):K6 λpos S j u q tree ln pos0=>KD n m (Ja m pos S j u q tree ln pos0 n) pos S j u q tree ln pos0:=λpos S j u q tree ln pos0 r h=>YC.ofY (Ϝ:=6) (h':=λl o=>EA o q tree ln pos0 l) Tryz.func55 (λϛ i ρ0 s c=>by
 replace h:KD n m (Ja m pos S j u q tree ln pos0 n) pos S j u q tree ln pos0=Z r:=h;have I:=xq ϛ s ρ0 m x pos S j u q tree ln pos0 n;unfold KD at h
 generalize Ja m pos S j u q tree ln pos0 n=self at h I
 have p:=H0;refine gs (AQ 6<|AQ 5<|AQ 4<|AQ 1 Oz) [0,1,2,3,4,5,6,7,8,9] p (CY (AZ Tryz.f55) 1 []) (AF 58 [(4,.ref 6 0),(5,.ref 7 0),(6,.ref 8 0),(7,.ref 9 0)]) (EA u q tree ln pos0 ϛ.l++[oC [.ref 5 0],oC [.ints pos],oC [.i S],oC [.i j]]) ?_;rcases Bv h with⟨e,h⟩|⟨e,h⟩
 ·refine yD (ops:=Am Tryz.f55 1) [] [0,1,2,3,4,5,6] [7] (H0.b 17 e) (AF 58 [(4,.ref 6 0),(5,.ref 7 0),(6,.ref 8 0),(7,.ref 9 0),(17,.bool T)]) (EA u q tree ln pos0 ϛ.l++[oC [.ref 5 0],oC [.ints pos],oC [.i S],oC [.i j]]) ?_;refine yT s [] [] 7 H0 (AF 58 [(4,.ref 6 0),(5,.ref 7 0),(6,.ref 8 0),(7,.ref 9 0)]) (EA u q tree ln pos0 ϛ.l++[oC [.ref 5 0],oC [.ints pos],oC [.i S],oC [.i j]]) (Z 18) ?_ c;refine y0 ?_;obtain⟨K,h⟩:=B6 h;have p:=H0.g zGK|>.g K|>.t|>.t
  refine gs (AQ 6<|AQ 5<|AQ 4<|AQ 1 Oz) [0,1,2,3,4,5,6,7,8,9,10,11] p (CY (AZ Tryz.f55) 4 []) (AF 58 [(4,.ref 6 0),(6,.ref 8 0),(9,.ref 10 0),(10,.ref 11 0)]) (EA u q tree ln pos0 ϛ.l++[oC [.ref 5 0],oC [.ints pos],oC [.i S],oC [.i j],oC [.i<|(M tree S.toNat ξ).1,.i<|(M tree S.toNat ξ).2],oC [.cst .nilFunc,.fn 91 5<|L1 [.ref 6 0,.ref 10 0,.ref 7 0,.ref 8 0,.ref 9 0],.fn 93 5<|L1 [.ref 10 0,.ref 7 0,.ref 8 0,.ref 6 0,.ref 9 0],.fn 94 5<|L1 [.ref 10 0,.ref 7 0,.ref 6 0,.ref 9 0,.ref 8 0],.fn 95 5<|L1 [.ref 7 0,.ref 10 0,.ref 6 0,.ref 9 0,.ref 8 0]]]) ?_;rcases Bv h with⟨e,h⟩|⟨e,h⟩
  ·rcases Bv h with⟨y,h⟩|⟨y,h⟩
   ·refine yO (ops:=Am Tryz.f55 4) Z5 ?_;refine yT s [0,1,2,3,4,5,6,7] [] 8 (H0.b 33 e|>.b 37 y) (AF 58 [(4,.ref 6 0),(6,.ref 8 0),(9,.ref 10 0),(10,.ref 11 0)]) (EA u q tree ln pos0 ϛ.l++[oC [.ref 5 0],oC [.ints pos],oC [.i S],oC [.i j],oC [.i<|(M tree S.toNat ξ).1,.i<|(M tree S.toNat ξ).2],oC [.cst .nilFunc,.fn 91 5<|L1 [.ref 6 0,.ref 10 0,.ref 7 0,.ref 8 0,.ref 9 0],.fn 93 5<|L1 [.ref 10 0,.ref 7 0,.ref 8 0,.ref 6 0,.ref 9 0],.fn 94 5<|L1 [.ref 10 0,.ref 7 0,.ref 6 0,.ref 9 0,.ref 8 0],.fn 95 5<|L1 [.ref 7 0,.ref 10 0,.ref 6 0,.ref 9 0,.ref 8 0]]]) (Z 39) ?_ c;refine y0 ?_;have p:=H0;refine gs (AQ 6<|AQ 5<|AQ 4<|AQ 1 Oz) [0,1,2,3,4,5,6,7,8,9,10,11] p (CY (AZ Tryz.f55) 5 []) (AF 58 [(4,.ref 6 0),(6,.ref 8 0),(9,.ref 10 0),(10,.ref 11 0)]) (EA u q tree ln pos0 ϛ.l++[oC [.ref 5 0],oC [.ints pos],oC [.i S],oC [.i j],oC [.i<|(M tree S.toNat ξ).1,.i<|(M tree S.toNat ξ).2],oC [.cst .nilFunc,.fn 91 5<|L1 [.ref 6 0,.ref 10 0,.ref 7 0,.ref 8 0,.ref 9 0],.fn 93 5<|L1 [.ref 10 0,.ref 7 0,.ref 8 0,.ref 6 0,.ref 9 0],.fn 94 5<|L1 [.ref 10 0,.ref 7 0,.ref 6 0,.ref 9 0,.ref 8 0],.fn 95 5<|L1 [.ref 7 0,.ref 10 0,.ref 6 0,.ref 9 0,.ref 8 0]]]) ?_;refine jn [6,7,8,9,10,11] (EA u q tree ln pos0 ϛ.l++[Z<|.ro [.ref 5 0],Z<|.ro [.ints pos],Z<|.ro [.i S],Z<|.ro [.i j],Z<|.ro [.i<|(M tree S.toNat ξ).1,.i<|(M tree S.toNat ξ).2],Z<|.ro [.cst .nilFunc,.fn 91 5<|L1 [.ref 6 0,.ref 10 0,.ref 7 0,.ref 8 0,.ref 9 0],.fn 93 5<|L1 [.ref 10 0,.ref 7 0,.ref 8 0,.ref 6 0,.ref 9 0],.fn 94 5<|L1 [.ref 10 0,.ref 7 0,.ref 6 0,.ref 9 0,.ref 8 0],.fn 95 5<|L1 [.ref 7 0,.ref 10 0,.ref 6 0,.ref 9 0,.ref 8 0]]]) ?_;rcases Bv h with⟨e,h⟩|⟨e,h⟩
    ·cases h
    ·rcases Bv h with⟨z,h⟩|⟨z,h⟩
     ·refine yR (ops:=Am Tryz.f55 5) (ds:=we) (hc:=KB u q tree ln pos0 pos S j<|M tree S.toNat ξ) (h':=λl o=>KB o q tree ln pos0 pos S j (M tree S.toNat ξ) l) (tD':=wf) s [0,1,2,3,4,5,6,7,8] [10,11] [0] 9 (H0.o 46 (AO.int (k:=.i64)<|zMw z)|>.g (by decide:(0:E)<=1/\1<((5:U):E))) (AF 58 [(4,.ref 6 0),(6,.ref 8 0),(43,.msl 0 1 0 ln),(44,.i S)]) (EA u q tree ln pos0 ϛ.l++[Z<|.ro [.ref 5 0],Z<|.ro [.ints pos],Z<|.ro [.i S],Z<|.ro [.i j],Z<|.ro [.i<|(M tree S.toNat ξ).1,.i<|(M tree S.toNat ξ).2],Z<|.ro [.cst .nilFunc,.fn 91 5<|L1 [.ref 6 0,.ref 10 0,.ref 7 0,.ref 8 0,.ref 9 0],.fn 93 5<|L1 [.ref 10 0,.ref 7 0,.ref 8 0,.ref 6 0,.ref 9 0],.fn 94 5<|L1 [.ref 10 0,.ref 7 0,.ref 6 0,.ref 9 0,.ref 8 0],.fn 95 5<|L1 [.ref 7 0,.ref 10 0,.ref 6 0,.ref 9 0,.ref 8 0]]]) (Z 49) h c (λa P=>zI8 x _ _ _ _ _ _ _ _ _ a P) λf o1 r i h c=>?_;obtain⟨⟨v,w⟩,h⟩:=B6 h;refine yE (H0.g v|>.g w) (AF 58 [(4,.ref 6 0),(6,.ref 8 0)]) (EA (o1.set (0+S.toNat) f) q tree ln pos0 ϛ.l++[Z<|.ro [.ref 5 0],Z<|.ro [.ints pos],Z<|.ro [.i S],Z<|.ro [.i j],Z<|.ro [.i<|(M tree S.toNat ξ).1,.i<|(M tree S.toNat ξ).2],Z<|.ro [.cst .nilFunc,.fn 91 5<|L1 [.ref 6 0,.ref 10 0,.ref 7 0,.ref 8 0,.ref 9 0],.fn 93 5<|L1 [.ref 10 0,.ref 7 0,.ref 8 0,.ref 6 0,.ref 9 0],.fn 94 5<|L1 [.ref 10 0,.ref 7 0,.ref 6 0,.ref 9 0,.ref 8 0],.fn 95 5<|L1 [.ref 7 0,.ref 10 0,.ref 6 0,.ref 9 0,.ref 8 0]]]) ?_;have p:=H0;exact gg (AQ 6<|AQ 5<|AQ 4<|AQ 1 Oz) [0,1,2,3,4,5,6,8] p<|I _ _ h i c
     ·rcases Bv h with⟨G,h⟩|⟨G,h⟩
      ·refine yR (ops:=Am Tryz.f55 5) (ds:=uR) (hc:=E9 u q tree ln pos0 pos S j<|M tree S.toNat ξ) (h':=λl o=>E9 o q tree ln pos0 pos S j (M tree S.toNat ξ) l) (tD':=kY) s [0,1,2,3,4,5,6,7,8] [10,11] [0] 9 (H0.o 46 (AO.int (k:=.i64)<|zMw G)|>.g (by decide:(0:E)<=2/\2<((5:U):E))) (AF 58 [(4,.ref 6 0),(6,.ref 8 0),(43,.msl 0 1 0 ln),(44,.i S)]) (EA u q tree ln pos0 ϛ.l++[Z<|.ro [.ref 5 0],Z<|.ro [.ints pos],Z<|.ro [.i S],Z<|.ro [.i j],Z<|.ro [.i<|(M tree S.toNat ξ).1,.i<|(M tree S.toNat ξ).2],Z<|.ro [.cst .nilFunc,.fn 91 5<|L1 [.ref 6 0,.ref 10 0,.ref 7 0,.ref 8 0,.ref 9 0],.fn 93 5<|L1 [.ref 10 0,.ref 7 0,.ref 8 0,.ref 6 0,.ref 9 0],.fn 94 5<|L1 [.ref 10 0,.ref 7 0,.ref 6 0,.ref 9 0,.ref 8 0],.fn 95 5<|L1 [.ref 7 0,.ref 10 0,.ref 6 0,.ref 9 0,.ref 8 0]]]) (Z 49) h c (λa P=>zES x _ _ _ _ _ _ _ _ _ a P) λf o1 r i h c=>?_;obtain⟨⟨v,w⟩,h⟩:=B6 h;refine yE (H0.g v|>.g w) (AF 58 [(4,.ref 6 0),(6,.ref 8 0)]) (EA (o1.set (0+S.toNat) f) q tree ln pos0 ϛ.l++[Z<|.ro [.ref 5 0],Z<|.ro [.ints pos],Z<|.ro [.i S],Z<|.ro [.i j],Z<|.ro [.i<|(M tree S.toNat ξ).1,.i<|(M tree S.toNat ξ).2],Z<|.ro [.cst .nilFunc,.fn 91 5<|L1 [.ref 6 0,.ref 10 0,.ref 7 0,.ref 8 0,.ref 9 0],.fn 93 5<|L1 [.ref 10 0,.ref 7 0,.ref 8 0,.ref 6 0,.ref 9 0],.fn 94 5<|L1 [.ref 10 0,.ref 7 0,.ref 6 0,.ref 9 0,.ref 8 0],.fn 95 5<|L1 [.ref 7 0,.ref 10 0,.ref 6 0,.ref 9 0,.ref 8 0]]]) ?_;have p:=H0;exact gg (AQ 6<|AQ 5<|AQ 4<|AQ 1 Oz) [0,1,2,3,4,5,6,8] p<|I _ _ h i c
      ·rcases Bv h with⟨J,h⟩|⟨J,h⟩
       ·refine yR (ops:=Am Tryz.f55 5) (ds:=zBQ) (hc:=I7 u q tree ln pos0 pos S j<|M tree S.toNat ξ) (h':=λl o=>I7 o q tree ln pos0 pos S j (M tree S.toNat ξ) l) (tD':=zBR) s [0,1,2,3,4,5,6,7,8] [10,11] [0] 9 (H0.o 46 (AO.int (k:=.i64)<|zMw J)|>.g (by decide:(0:E)<=3/\3<((5:U):E))) (AF 58 [(4,.ref 6 0),(6,.ref 8 0),(43,.msl 0 1 0 ln),(44,.i S)]) (EA u q tree ln pos0 ϛ.l++[Z<|.ro [.ref 5 0],Z<|.ro [.ints pos],Z<|.ro [.i S],Z<|.ro [.i j],Z<|.ro [.i<|(M tree S.toNat ξ).1,.i<|(M tree S.toNat ξ).2],Z<|.ro [.cst .nilFunc,.fn 91 5<|L1 [.ref 6 0,.ref 10 0,.ref 7 0,.ref 8 0,.ref 9 0],.fn 93 5<|L1 [.ref 10 0,.ref 7 0,.ref 8 0,.ref 6 0,.ref 9 0],.fn 94 5<|L1 [.ref 10 0,.ref 7 0,.ref 6 0,.ref 9 0,.ref 8 0],.fn 95 5<|L1 [.ref 7 0,.ref 10 0,.ref 6 0,.ref 9 0,.ref 8 0]]]) (Z 49) h c (λa P=>zQn x _ _ _ _ _ _ _ _ _ a P) λf o1 r i h c=>?_;obtain⟨⟨v,w⟩,h⟩:=B6 h;refine yE (H0.g v|>.g w) (AF 58 [(4,.ref 6 0),(6,.ref 8 0)]) (EA (o1.set (0+S.toNat) f) q tree ln pos0 ϛ.l++[Z<|.ro [.ref 5 0],Z<|.ro [.ints pos],Z<|.ro [.i S],Z<|.ro [.i j],Z<|.ro [.i<|(M tree S.toNat ξ).1,.i<|(M tree S.toNat ξ).2],Z<|.ro [.cst .nilFunc,.fn 91 5<|L1 [.ref 6 0,.ref 10 0,.ref 7 0,.ref 8 0,.ref 9 0],.fn 93 5<|L1 [.ref 10 0,.ref 7 0,.ref 8 0,.ref 6 0,.ref 9 0],.fn 94 5<|L1 [.ref 10 0,.ref 7 0,.ref 6 0,.ref 9 0,.ref 8 0],.fn 95 5<|L1 [.ref 7 0,.ref 10 0,.ref 6 0,.ref 9 0,.ref 8 0]]]) ?_;have p:=H0;exact gg (AQ 6<|AQ 5<|AQ 4<|AQ 1 Oz) [0,1,2,3,4,5,6,8] p<|I _ _ h i c
       ·rcases Bv h with⟨W,h⟩|⟨W,h⟩
        ·refine yR (ops:=Am Tryz.f55 5) (ds:=zBJ) (hc:=HG u q tree ln pos0 pos S j<|M tree S.toNat ξ) (h':=λl o=>HG o q tree ln pos0 pos S j (M tree S.toNat ξ) l) (tD':=zBK) s [0,1,2,3,4,5,6,7,8] [10,11] [0] 9 (H0.o 46 (AO.int (k:=.i64)<|zMw W)|>.g (by decide:(0:E)<=4/\4<((5:U):E))) (AF 58 [(4,.ref 6 0),(6,.ref 8 0),(43,.msl 0 1 0 ln),(44,.i S)]) (EA u q tree ln pos0 ϛ.l++[Z<|.ro [.ref 5 0],Z<|.ro [.ints pos],Z<|.ro [.i S],Z<|.ro [.i j],Z<|.ro [.i<|(M tree S.toNat ξ).1,.i<|(M tree S.toNat ξ).2],Z<|.ro [.cst .nilFunc,.fn 91 5<|L1 [.ref 6 0,.ref 10 0,.ref 7 0,.ref 8 0,.ref 9 0],.fn 93 5<|L1 [.ref 10 0,.ref 7 0,.ref 8 0,.ref 6 0,.ref 9 0],.fn 94 5<|L1 [.ref 10 0,.ref 7 0,.ref 6 0,.ref 9 0,.ref 8 0],.fn 95 5<|L1 [.ref 7 0,.ref 10 0,.ref 6 0,.ref 9 0,.ref 8 0]]]) (Z 49) h c (λa P=>zQO x _ _ _ _ _ _ _ _ _ a P) λf o1 r i h c=>?_;obtain⟨⟨v,w⟩,h⟩:=B6 h;refine yE (H0.g v|>.g w) (AF 58 [(4,.ref 6 0),(6,.ref 8 0)]) (EA (o1.set (0+S.toNat) f) q tree ln pos0 ϛ.l++[Z<|.ro [.ref 5 0],Z<|.ro [.ints pos],Z<|.ro [.i S],Z<|.ro [.i j],Z<|.ro [.i<|(M tree S.toNat ξ).1,.i<|(M tree S.toNat ξ).2],Z<|.ro [.cst .nilFunc,.fn 91 5<|L1 [.ref 6 0,.ref 10 0,.ref 7 0,.ref 8 0,.ref 9 0],.fn 93 5<|L1 [.ref 10 0,.ref 7 0,.ref 8 0,.ref 6 0,.ref 9 0],.fn 94 5<|L1 [.ref 10 0,.ref 7 0,.ref 6 0,.ref 9 0,.ref 8 0],.fn 95 5<|L1 [.ref 7 0,.ref 10 0,.ref 6 0,.ref 9 0,.ref 8 0]]]) ?_;have p:=H0;exact gg (AQ 6<|AQ 5<|AQ 4<|AQ 1 Oz) [0,1,2,3,4,5,6,8] p<|I _ _ h i c
        ·cases h
   ·cases h;refine yO (ops:=Am Tryz.f55 4) Z5 ?_;exact yP s [0,1,2,3,4,5,6,7] [] 8 (H0.b 33 e|>.b 37 y) (AF 58 [(4,.ref 6 0),(6,.ref 8 0),(9,.ref 10 0),(10,.ref 11 0)]) (EA u q tree ln pos0 ϛ.l++[oC [.ref 5 0],oC [.ints pos],oC [.i S],oC [.i j],oC [.i<|(M tree S.toNat ξ).1,.i<|(M tree S.toNat ξ).2],oC [.cst .nilFunc,.fn 91 5<|L1 [.ref 6 0,.ref 10 0,.ref 7 0,.ref 8 0,.ref 9 0],.fn 93 5<|L1 [.ref 10 0,.ref 7 0,.ref 8 0,.ref 6 0,.ref 9 0],.fn 94 5<|L1 [.ref 10 0,.ref 7 0,.ref 6 0,.ref 9 0,.ref 8 0],.fn 95 5<|L1 [.ref 7 0,.ref 10 0,.ref 6 0,.ref 9 0,.ref 8 0]]])<|Z 39
  ·cases h;refine yO (ops:=Am Tryz.f55 4) Z5 ?_;exact yP s [0,1,2,3,4,5,6,7] [] 8 (H0.b 33 e) (AF 58 [(4,.ref 6 0),(6,.ref 8 0),(9,.ref 10 0),(10,.ref 11 0)]) (EA u q tree ln pos0 ϛ.l++[oC [.ref 5 0],oC [.ints pos],oC [.i S],oC [.i j],oC [.i<|(M tree S.toNat ξ).1,.i<|(M tree S.toNat ξ).2],oC [.cst .nilFunc,.fn 91 5<|L1 [.ref 6 0,.ref 10 0,.ref 7 0,.ref 8 0,.ref 9 0],.fn 93 5<|L1 [.ref 10 0,.ref 7 0,.ref 8 0,.ref 6 0,.ref 9 0],.fn 94 5<|L1 [.ref 10 0,.ref 7 0,.ref 6 0,.ref 9 0,.ref 8 0],.fn 95 5<|L1 [.ref 7 0,.ref 10 0,.ref 6 0,.ref 9 0,.ref 8 0]]])<|Z 39
 ·refine yD (ops:=Am Tryz.f55 1) [] [0,1,2,3,4,5,6] [7] (H0.b 17 e) (AF 58 [(4,.ref 6 0),(5,.ref 7 0),(6,.ref 8 0),(7,.ref 9 0),(17,.bool D)]) (EA u q tree ln pos0 ϛ.l++[oC [.ref 5 0],oC [.ints pos],oC [.i S],oC [.i j]]) ?_;cases h;exact yP s [] [] 7 H0 (AF 58 [(4,.ref 6 0),(5,.ref 7 0),(6,.ref 8 0),(7,.ref 9 0)]) (EA u q tree ln pos0 ϛ.l++[oC [.ref 5 0],oC [.ints pos],oC [.i S],oC [.i j]])<|Z 18)
def xp:∀n,K6<|DP n
 |0=>λ_ _ _ _ _ _ _ _ r h=>by cases h
 |n+1=>zKF<|xp n
def zLB:U->O DV:=λl=>[.yl l,.ref 1 0,.ref 2 0,.ref 3 0,.ref 4 0]
def CE(u:Ξ)(q:AA)(tree:O<|Δ)(ln:U)(pos0:Ξ):U->DH:=λl=>[oI u,Z<|.ro<|AG q,Z<|.ro [.sl 2 (F tree)<|AM Az tree],Z<|.ro [.msl 0 1 0 ln],Z<|.ro [.ints pos0]]
def yf(_:Unit):DV:=Oh
abbrev zLD:=Ξ->AA->(O<|Δ)->U->Ξ->A (YR BG Unit Ξ)
def zLC(f:zLD):Prop:=∀(u:Ξ) (q:AA) (tree:O<|Δ) (ln:U) (pos0:Ξ) (r:YR BG Unit Ξ),f u q tree ln pos0=Z r->YC B GG Eo 53 zLB (CE u q tree ln pos0) (r.1.map M5) (r.2.1.map yf) (CE r.2.2 q tree ln pos0)
def fG(n:U)(u:Ξ)(q:AA)(tree:O<|Δ)(ln:U)(pos0:Ξ):A<|YR BG Unit Ξ:=yb (DP n pos0 0 0 u q tree ln pos0) λf o1=>L (f==(F tree:E)) (Z ([],Z (),o1))<|Z ([],V,o1)
def YI(n:U)(u:Ξ)(q:AA)(tree:O<|Δ)(ln:U)(pos0:Ξ):A<|YR BG Unit Ξ:=fG n u q tree ln pos0
def zLA :zLC<|YI n:=λu q tree ln pos0 r h=>YC.ofY (Ϝ:=5) (h':=λl o=>CE o q tree ln pos0 l) Tryz.func53 (λϛ i ρ0 s c=>by
 replace h:fG n u q tree ln pos0=Z r:=h;unfold fG at h;have p:=H0;refine gs (AQ 1 AC) [0,1,2,3,4,5] p (CY (AZ Tryz.f53) 1 []) (AF 20 [(2,.ref 2 0),(4,.ref 4 0),(6,.ref 5 0)]) (CE u q tree ln pos0 ϛ.l++[oC<|AG q++[.sl 2 (F tree)<|AM Az tree,.msl 0 1 0 ln,.yl ϛ.l]]) ?_;refine jn [5] (CE u q tree ln pos0 ϛ.l++[Z<|.ro<|AG q++[.sl 2 (F tree)<|AM Az tree,.msl 0 1 0 ln,.yl ϛ.l]]) ?_;refine yR (ops:=Am Tryz.f53 1) (ds:=eM pos0 0 0) (hc:=EA u q tree ln pos0) (h':=λl o=>EA o q tree ln pos0 l) (tD':=Xt) s [0,1,3,4] [5,6] [0] 2 H0 (AF 20 [(17,.i (F tree:E))]) (CE u q tree ln pos0 ϛ.l++[Z<|.ro<|AG q++[.sl 2 (F tree)<|AM Az tree,.msl 0 1 0 ln,.yl ϛ.l]]) (Z 15) h c (λa P=>xp n _ _ _ _ _ _ _ _ a P) λy1 o1 r i h c=>?_;rcases Bv h with⟨e,h⟩|⟨e,h⟩
 ·refine yT s [5] [] 6 (H0.b 18 e) (AF 20 []) (CE o1 q tree ln pos0 ϛ.l++[Z<|.ro<|AG q++[.sl 2 (F tree)<|AM Az tree,.msl 0 1 0 ln,.yl ϛ.l]]) (Z 19) ?_ c;refine y0 ?_;have p:=H0;cases h;exact yF<|ee (AQ 1 AC) [] [0,1,2,3,4] p
 ·cases h;exact yP s [5] [] 6 (H0.b 18 e) (AF 20 []) (CE o1 q tree ln pos0 ϛ.l++[Z<|.ro<|AG q++[.sl 2 (F tree)<|AM Az tree,.msl 0 1 0 ln,.yl ϛ.l]])<|Z 19)
end
section
set_option maxRecDepth 100000
set_option maxHeartbeats 40000000
def zLF(n:U)(q:AA)(pos:Ξ)(tree:O<|Δ)(ln:U)(AT:Ξ):A Unit:=Z ()
def yg(n:U)(q:AA)(pos:Ξ)(tree:O<|Δ)(ln:U)(u:Ξ):A Unit:=zLF n q pos tree ln u
variable{n:U}
def zLE(q:AA)(pos:Ξ)(tree:O<|Δ)(ln:U)(u:Ξ){r:Unit}(h:yg n q pos tree ln u=Z r):EQ 42 [.agg 5<|L1<|AG q,.ints pos,.sl 2 (F tree)<|AM Az tree,.msl 0 1 0 ln] [oI u] (.fn 53 4<|L1 [.ref 1 0,.ref 2 0,.ref 3 0,.ref 4 0]) [oI u,oC<|AG q,oC [.sl 2 (F tree)<|AM Az tree],oC [.msl 0 1 0 ln],oC [.ints pos]] D:=by
 refine ot Tryz.func42 λϙ N=>?_
 revert r;apply gO;exact lE AC [8] [0,1,3,4,2]
def tz:ST:=.rd 0<|.ef 1 (.ef 2 (.ef 3 (.fin [] [6,7,8])<|.no)<|.no)<|.no
def zGc:Bz (Am Tryz.f23 3) [1,2] tz:=Z1
def zFO:BZ:=λi=>match i with
 |3=>.tre [1,2] tz
 |_=>.no
def tL(q:AA)(f:E):St:=⟨AF 33 [(6,.ref 1 0),(7,.ref 2 0),(8,.ref 3 0)],([oC<|AG q,oC [.nils],oC [.nils],oC [.i f]]:DH)⟩
def qG(n:U)(q:AA)(pos:Ξ)(tree:O<|Δ):A<|(O<|Ξ×Ξ×E)×Ξ×E:=(Qp n q pos tree).bind λf=>L (f != 0) (Z (([]:O<|Ξ×Ξ×E),([]:Ξ),f)) V
def qH(n:U)(q:AA)(pos:Ξ)(tree:O<|Δ):A<|(O<|Ξ×Ξ×E)×Ξ×E:=qG n q pos tree
def zPd{q:AA}{pos:Ξ}{tree:O Δ}{r:(O<|Ξ×Ξ×E)×Ξ×E}(h:qH n q pos tree=Z r):EQ 23 [.agg 5<|L1<|AG q,.ints pos,.sl 2 (F tree)<|AM Az tree] [] (.tup 3<|L1 [.sl 3 (F r.1)<|AM (λ(x:Ξ×Ξ×E)=>[.ints x.1,.ints x.2.1,.i x.2.2]) r.1,.ints r.2.1,.i r.2.2]) [] T:=by
 unfold qH qG at h;refine ot Tryz.func23 λϙ N=>?_
 revert r;apply gO;exact cf sW [oC<|AG q,oC [.nils],oC [.nils],oC [.i 0]] λf=>jt<|bi 15 (jg zGc<|jt<|jt<|jt<|jg (φ<|tL q f)<|lF λp=>el (tg:=[([(1,1),(2,2)],tL q f)]) zFO [6,7,8] [1,2,3] p [] H0 [.nils,.nils,.i f]<|AO.tupL (l:=[.nils,.nils,.i f]) (l':=[.sl 3 (F ([]:O<|Ξ×Ξ×E))<|AM (λ(x:Ξ×Ξ×E)=>[.ints x.1,.ints x.2.1,.i x.2.2]) ([]:O<|Ξ×Ξ×E),.ints ([]:Ξ),.i f]) rfl ⟨AO.sl_nil _ _,AO.ints_nil,At,trivial⟩) nO
def zN1(ln:U)(v:BG):DH:=[V,V,V,V,V,oC [.nils],oC [.msl 0 1 0 ln],oC [.i 0],oC [.ints v.1,.ints v.2.1,.i v.2.2]]
def zN0(u ln:U)(P:O<|Ξ×Ξ×E)(v:BG):DH:=[V,V,V,V,V,oC [.msl 8 3 0 u],oC [.msl 0 1 0 ln],oC [.i 0],Z<|.arr 3 (F P)<|AM (λ(x:Ξ×Ξ×E)=>[.ints x.1,.ints x.2.1,.i x.2.2]) P,oC [.ints v.1,.ints v.2.1,.i v.2.2]]
inductive Mz where
 |s0
 |s1 (MI:U) (Hw:O (Ξ×Ξ×E))
def VK(ln:U):Mz->DH
 | .s0=>[V,V,V,V,V,oC [.nils],oC [.msl 0 1 0 ln],oC [.i 0]]
 | .s1 u P=>[V,V,V,V,V,oC [.msl 8 3 0 u],oC [.msl 0 1 0 ln],oC [.i 0],Z<|.arr 3 (F P)<|AM (λ(x:Ξ×Ξ×E)=>[.ints x.1,.ints x.2.1,.i x.2.2]) P]
def zPg(n:U)(ln:U)(v:BG):A Mz:=Z<|.s1 (F ([(v.1,v.2.1,v.2.2)]:O<|Ξ×Ξ×E)) ([(v.1,v.2.1,v.2.2)]:O<|Ξ×Ξ×E)
def qI(n:U)(ln:U)(v:BG)(u:U)(P:O<|Ξ×Ξ×E):A Mz:=C (u=F P/\F P+F ([(v.1,v.2.1,v.2.2)]:O<|Ξ×Ξ×E)<=Av) (Z<|.s1 (F P+F ([(v.1,v.2.1,v.2.2)]:O<|Ξ×Ξ×E))<|P++([(v.1,v.2.1,v.2.2)]:O<|Ξ×Ξ×E)) V
def zPf(n:U)(ln:U)(v:BG):Mz->A Mz
 | .s0=>zPg n ln v
 | .s1 u P=>qI n ln v u P
def VL(n:U)(ln:U)(v:BG)(s:Mz):A Mz:=zPf n ln v s
def zPe(n:U)(ln:U)(l ϙ:U)(N:Yd 8)(v:BG)(s:Mz)(r:Mz)(h:VL n ln v s=Z r):TA l ϙ N (C3 8 [] 0<|VK ln r) Tryz.f23 25 ⟨AF 33 [(6,.ref 5 0),(7,.ref 6 0),(8,.ref 7 0),(25,.fn 53 4<|L1 [.ref 1 0,.ref 2 0,.ref 3 0,.ref 4 0]),(26,.agg 3<|L1 [.ints v.1,.ints v.2.1,.i v.2.2])],VK ln s⟩:=by
 cases s with
 |s0=>
  refine ag AC [0,1,2,3,4,5,6,7,8] H0.t (AF 33 [(6,.ref 5 0),(7,.ref 6 0),(8,.ref 7 0),(9,.ref 8 0)]) (zN1 ln v) λN=>?_
  revert r;apply gO;exact ja 29 9 3 (ER (c:=λ(x:Ξ×Ξ×E)=>[.ints x.1,.ints x.2.1,.i x.2.2]) (Ϝ:=([(v.1,v.2.1,v.2.2)]:O<|Ξ×Ξ×E)) (vals:=[.agg 3<|L1 [.ints v.1,.ints v.2.1,.i v.2.2]]) rfl ⟨⟨_,rfl,⟨At,At,At,trivial⟩⟩,trivial⟩)<|jg (γ (γ (γ (φ 0)<|φ 1)<|IP (λ(x:Ξ×Ξ×E)=>[.ints x.1,.ints x.2.1,.i x.2.2]) ([(v.1,v.2.1,v.2.2)]:O<|Ξ×Ξ×E) (F ([(v.1,v.2.1,v.2.2)]:O<|Ξ×Ξ×E)) 3 λ_=>⟨rfl,rfl⟩)<|γ (by decide:0<1) (by decide:1<=Av))<|jt<|lF λp=>rr AC [0,1,2,3,4,5,6,7,10] rfl p
 |s1 u P=>
  refine ag AC [0,1,2,3,4,5,6,7,8,9] H0.t (AF 33 [(6,.ref 5 0),(7,.ref 6 0),(8,.ref 7 0),(9,.ref 9 0)]) (zN0 u ln P v) λN=>?_
  revert r;apply gO;exact ja 29 10 3 (ER (c:=λ(x:Ξ×Ξ×E)=>[.ints x.1,.ints x.2.1,.i x.2.2]) (Ϝ:=([(v.1,v.2.1,v.2.2)]:O<|Ξ×Ξ×E)) (vals:=[.agg 3<|L1 [.ints v.1,.ints v.2.1,.i v.2.2]]) rfl ⟨⟨_,rfl,⟨At,At,At,trivial⟩⟩,trivial⟩)<|gc<|gn λm=>gn λa=>jg (γ (γ (γ (φ 0)<|φ 1)<|IP (λ(x:Ξ×Ξ×E)=>[.ints x.1,.ints x.2.1,.i x.2.2]) ([(v.1,v.2.1,v.2.2)]:O<|Ξ×Ξ×E) (F ([(v.1,v.2.1,v.2.2)]:O<|Ξ×Ξ×E)) 3 λ_=>⟨rfl,rfl⟩)<|γ (γ (φ 0) m) a)<|ja 30 11 3 (Q8 (enc:=Sb λ(x:Ξ×Ξ×E)=>[.ints x.1,.ints x.2.1,.i x.2.2]) (Ϝ:=P) (L':=([(v.1,v.2.1,v.2.2)]:O<|Ξ×Ξ×E)) rfl rfl λ_ _ _ _=>At)<|jt<|lF λp=>rr AC [0,1,2,3,4,5,6,7,11] rfl p
end
section
set_option maxRecDepth 100000
set_option maxHeartbeats 40000000
def uA:ST:=.rd 0<|.rd 1<|.ef 2 (.ef 3 (.ef 4 (.fin [] [])<|.no)<|.no)<|.no
def zGp:Bz (Am Tryz.f41 2) [2,3] uA:=Z1
def tP(o:Ξ)(q:AA)(tree:O<|Δ)(pos:Ξ):St:=⟨AF 9 [],CE o q tree (F tree) pos 0++[oC [.nils],oC [.nils],oC [.i 280]]⟩
variable{b p2 c:μ}{w0:κ}{ρ0:O AK}{N:Ψ}{o pos:Ξ}{tree:O Δ}{q:AA}
def zR0(HR:Ap B GG N (CE o q tree (F tree) pos 0++[oC [.nils],oC [.msl 0 1 0<|F tree],oC [.i 0]]) ρ0 w0)(y:AJ (MS N (CE o q tree (F tree) pos 0++[oC [.nils],oC [.msl 0 1 0<|F tree],oC [.i 0]]) ρ0) w0 (.ref 5 0) ρ0 b)(K:AJ (MS N (CE o q tree (F tree) pos 0++[oC [.nils],oC [.msl 0 1 0<|F tree],oC [.i 0]]) ρ0) w0 (.ref 6 0) ρ0 p2)(f:AJ (MS N (CE o q tree (F tree) pos 0++[oC [.nils],oC [.msl 0 1 0<|F tree],oC [.i 0]]) ρ0) w0 (.ref 7 0) ρ0 c):
 CallsDIn η (0-1) B 41 #[b,p2,c] (.panicking<|pan Eo) w0 λe h w'=>(∃v,e=.returned v)/\h=.panicking [{ v:=Eo,recovered:=T }]/\∃ρ',Ap B GG N (CE o q tree (F tree) pos 0++[oC [.nils],oC [.nils],oC [.i 280]]) ρ' w'/\A8 (CE o q tree (F tree) pos 0++[oC [.nils],oC [.msl 0 1 0<|F tree],oC [.i 0]]) ρ0 w0 (CE o q tree (F tree) pos 0++[oC [.nils],oC [.nils],oC [.i 280]]) ρ' w'/\Bm 8 ρ0 ρ':=by
 refine zPC Tryz.func41 rfl trivial λc₀ cs k=>?_
 apply zTA;apply zOQ;simp[wpOpsSIn,go_sem,recoverD,k,Tryz.ntmps41,Exit.thenS,η,pan,Eo];apply zTA;apply zOQ;simp[wpOpsSIn,go_sem,Exit.thenS];refine zUP (t:=T) (by simp[Act.eval,Array.replicate]) ?_;simp only[zN6];refine zTj rfl ?_
 have l:AS B GG N ⟨AF 9 [(0,.ref 5 0),(1,.ref 6 0),(2,.ref 7 0),(3,.cst Eo)],CE o q tree (F tree) pos 0++[oC [.nils],oC [.msl 0 1 0<|F tree],oC [.i 0]]⟩ ρ0 { tmps:=#[b,p2,c]++((((Array.replicate 6 undef).setIfInBounds 1<|Value.iface 30<|Value.int IntKind.i64 280).setIfInBounds 0<|Value.iface 30<|Value.int IntKind.i64 280).setIfInBounds 2<|Value.iface 30<|Value.int IntKind.i64 280).setIfInBounds 3 (Value.bool T),defers:=[] } w0:=by
  refine⟨HR,rfl,λj a=>?_⟩;have a:j<9:=a
  match j,a with
  |0,_=>exact y
  |1,_=>exact K
  |2,_=>exact f
  |3,_=>exact⟨rfl,rfl⟩
  |4,_=>trivial
  |5,_=>trivial
  |6,_=>trivial
  |7,_=>trivial
  |8,_=>trivial
  |j+9,a=>exact τ a Z2
 refine Qn (Ϝ:=8) HC.x [2,3] uA zGp [([(2,5),(3,6)],tP o q tree pos)] [] [0,1,2,3,4,5,6,7] [] (H0.t|>.t|>.t|>.t|>.g (φ<|tP o q tree pos)) H0 (AF 9 []) (CE o q tree (F tree) pos 0++[oC [.nils],oC [.nils],oC [.i 280]]) l Z5 λρ1 a1 w1 X u m n=>?_
 simp[bodyPostS,results,Tryz.results41,m,go_sem,Eo];exact⟨ρ1,X.hr,u,n⟩
def t8:ST:=.rd 0<|.rd 1<|.ef 2 (.ef 3 (.ef 4 (.fin [] [])<|.no)<|.no)<|.no
def zGo:Bz (Am Tryz.f41 2) [2,3] t8:=Z1
def tO(o:Ξ)(q:AA)(tree:O<|Δ)(pos:Ξ)(x:BG)(t:O BG):St:=⟨AF 9 [],CE o q tree (F tree) pos 0++[oC [.nils],oC [.nils],oC [.i 280],Z<|.arr 3 (F<|x::t)<|AM (λ(x:Ξ×Ξ×E)=>[.ints x.1,.ints x.2.1,.i x.2.2])<|x::t]⟩
def zRz{x:BG}{t:O BG}(HR:Ap B GG N (CE o q tree (F tree) pos 0++[oC [.msl 8 3 0<|F<|x::t],oC [.msl 0 1 0<|F tree],oC [.i 0],Z<|.arr 3 (F<|x::t)<|AM (λ(x:Ξ×Ξ×E)=>[.ints x.1,.ints x.2.1,.i x.2.2])<|x::t]) ρ0 w0)(y:AJ (MS N (CE o q tree (F tree) pos 0++[oC [.msl 8 3 0<|F<|x::t],oC [.msl 0 1 0<|F tree],oC [.i 0],Z<|.arr 3 (F<|x::t)<|AM (λ(x:Ξ×Ξ×E)=>[.ints x.1,.ints x.2.1,.i x.2.2])<|x::t]) ρ0) w0 (.ref 5 0) ρ0 b)(K:AJ (MS N (CE o q tree (F tree) pos 0++[oC [.msl 8 3 0<|F<|x::t],oC [.msl 0 1 0<|F tree],oC [.i 0],Z<|.arr 3 (F<|x::t)<|AM (λ(x:Ξ×Ξ×E)=>[.ints x.1,.ints x.2.1,.i x.2.2])<|x::t]) ρ0) w0 (.ref 6 0) ρ0 p2)(f:AJ (MS N (CE o q tree (F tree) pos 0++[oC [.msl 8 3 0<|F<|x::t],oC [.msl 0 1 0<|F tree],oC [.i 0],Z<|.arr 3 (F<|x::t)<|AM (λ(x:Ξ×Ξ×E)=>[.ints x.1,.ints x.2.1,.i x.2.2])<|x::t]) ρ0) w0 (.ref 7 0) ρ0 c):
 CallsDIn η (0-1) B 41 #[b,p2,c] (.panicking<|pan Eo) w0 λe h w'=>(∃v,e=.returned v)/\h=.panicking [{ v:=Eo,recovered:=T }]/\∃ρ',Ap B GG N (CE o q tree (F tree) pos 0++[oC [.nils],oC [.nils],oC [.i 280],Z<|.arr 3 (F<|x::t)<|AM (λ(x:Ξ×Ξ×E)=>[.ints x.1,.ints x.2.1,.i x.2.2])<|x::t]) ρ' w'/\A8 (CE o q tree (F tree) pos 0++[oC [.msl 8 3 0<|F<|x::t],oC [.msl 0 1 0<|F tree],oC [.i 0],Z<|.arr 3 (F<|x::t)<|AM (λ(x:Ξ×Ξ×E)=>[.ints x.1,.ints x.2.1,.i x.2.2])<|x::t]) ρ0 w0 (CE o q tree (F tree) pos 0++[oC [.nils],oC [.nils],oC [.i 280],Z<|.arr 3 (F<|x::t)<|AM (λ(x:Ξ×Ξ×E)=>[.ints x.1,.ints x.2.1,.i x.2.2])<|x::t]) ρ' w'/\Bm 8 ρ0 ρ':=by
 refine zPC Tryz.func41 rfl trivial λc₀ cs k=>?_
 apply zTA;apply zOQ;simp[wpOpsSIn,go_sem,recoverD,k,Tryz.ntmps41,Exit.thenS,η,pan,Eo];apply zTA;apply zOQ;simp[wpOpsSIn,go_sem,Exit.thenS];refine zUP (t:=T) (by simp[Act.eval,Array.replicate]) ?_;simp only[zN6];refine zTj rfl ?_
 have l:AS B GG N ⟨AF 9 [(0,.ref 5 0),(1,.ref 6 0),(2,.ref 7 0),(3,.cst Eo)],CE o q tree (F tree) pos 0++[oC [.msl 8 3 0<|F<|x::t],oC [.msl 0 1 0<|F tree],oC [.i 0],Z<|.arr 3 (F<|x::t)<|AM (λ(x:Ξ×Ξ×E)=>[.ints x.1,.ints x.2.1,.i x.2.2])<|x::t]⟩ ρ0 { tmps:=#[b,p2,c]++((((Array.replicate 6 undef).setIfInBounds 1<|Value.iface 30<|Value.int IntKind.i64 280).setIfInBounds 0<|Value.iface 30<|Value.int IntKind.i64 280).setIfInBounds 2<|Value.iface 30<|Value.int IntKind.i64 280).setIfInBounds 3 (Value.bool T),defers:=[] } w0:=by
  refine⟨HR,rfl,λj a=>?_⟩;have a:j<9:=a
  match j,a with
  |0,_=>exact y
  |1,_=>exact K
  |2,_=>exact f
  |3,_=>exact⟨rfl,rfl⟩
  |4,_=>trivial
  |5,_=>trivial
  |6,_=>trivial
  |7,_=>trivial
  |8,_=>trivial
  |j+9,a=>exact τ a Z2
 refine Qn (Ϝ:=8) HC.x [2,3] t8 zGo [([(2,5),(3,6)],tO o q tree pos x t)] [] [0,1,2,3,4,5,6,7,8] [] (H0.t|>.t|>.t|>.t|>.g (φ<|tO o q tree pos x t)) H0 (AF 9 []) (CE o q tree (F tree) pos 0++[oC [.nils],oC [.nils],oC [.i 280],Z<|.arr 3 (F<|x::t)<|AM (λ(x:Ξ×Ξ×E)=>[.ints x.1,.ints x.2.1,.i x.2.2])<|x::t]) l Z5 λρ1 a1 w1 X u m n=>?_
 simp[bodyPostS,results,Tryz.results41,m,go_sem,Eo];exact⟨ρ1,X.hr,u,n⟩
theorem zBs(b p2 o:μ)(w0:κ):CallsDIn η (0-1) B 41 #[b,p2,o] .returning w0 λe a w'=>(∃v,e=.returned v)/\a=.returning/\w'=w0:=by
 refine zPC Tryz.func41 rfl trivial λm cs c=>?_
 apply zTA;apply zOQ;simp[wpOpsSIn,go_sem,recoverD,c,Tryz.ntmps41,Exit.thenS,η];apply zTA;apply zOQ;simp[wpOpsSIn,go_sem,Exit.thenS];refine zUP (t:=D) (by simp[Act.eval,Array.replicate]) ?_;simp only[zMe,zTQ];refine zTj rfl (zTM ?_);cases m
 simp_all[bodyPostS,results,Tryz.results41,go_sem]
def tw:ST:=.rd 0<|.rd 1<|.ef 2 (.ef 3 (.ef 4 (.fin [] [6,7,8])<|.no)<|.no)<|.no
def zGb:Bz (Am Tryz.f23 9) [2] tw:=Z1
def tK(o:Ξ)(q:AA)(tree:O<|Δ)(pos:Ξ):St:=⟨AF 33 [(6,.ref 5 0),(7,.ref 6 0),(8,.ref 7 0)],CE o q tree (F tree) pos 0++[oC [.nils],oC [.msl 0 1 0<|F tree],oC [.i 0]]⟩
variable{a:μ}{ϑ:U}{a0:Act}{Q:κ}{ρs:O AK}
def zIO(J:Ap B GG N [] ρs Q)(j:A8 [] ρs Q (CE o q tree (F tree) pos 0++[oC [.nils],oC [.msl 0 1 0<|F tree],oC [.i 0]]) ρ0 w0)(c:AS B GG N ⟨AF 33 [(6,.ref 5 0),(7,.ref 6 0),(8,.ref 7 0)],CE o q tree (F tree) pos 0++[oC [.nils],oC [.msl 0 1 0<|F tree],oC [.i 0]]⟩ ρ0 a0 w0)(G:w0.heap[ϑ]?=Z (.deferred<|Z []))(k:GG.ng<=ϑ)(m:Q.heap.size<=ϑ)(n:F tree=F o)(p:a0.defers= [{ target:=.collected ϑ,args:=#[] },{ target:=.fn (.func 41) #[b,p2,a],args:=#[] }]):
 (Code.seq (.region 9 (Am Tryz.f23 9) T) .ret).wpIn η 0 B (bodyPostM η 0 B Tryz.f23 λe w'=>∃v,e=.returned v/\CG B GG N [] ρs Q T (.tup 3<|L1 [.sl 3 (F ([]:O BG))<|AM (λ(x:Ξ×Ξ×E)=>[.ints x.1,.ints x.2.1,.i x.2.2]) ([]:O BG),.ints o,.i 0]) [] v w') a0 w0:=by
 refine zMT ?_;refine Qn (Ϝ:=0) HC.x [2] tw zGb [([(2,5)],tK o q tree pos)] [6,7,8] [0,5,6,7] [] (H0.t|>.t|>.t|>.g (φ<|tK o q tree pos)) H0 (AF 33 [(6,.ref 1 0),(7,.ref 2 0),(8,.ref 3 0)]) ([oI o,oC [.nils],oC [.msl 0 1 0<|F tree],oC [.i 0]]:DH) c Z5 λρ1 r w1 X u s Cs=>?_
 refine zTS ?_
 show LeavesInM _ _ _ _ _ _ r.defers .returning w1
 rw[s,p];refine fI Z3 (Zt c.hr u G) (λargs W=>HD Tryz.func41 Z5 Z5 args W) λW f=>?_
 refine(zBs b p2 a W).mono ?_;rintro e u' w' ⟨⟨v,rfl⟩,rfl,rfl⟩;have w:=X.shut (K7 Z5) k f;obtain⟨v,y,z⟩:=OH (fn:=Tryz.f23) w J ((j.trans u).shut<|f.mono λ_ _ h=>⟨zAO m h.1,h.2⟩) [0] (H0.g n) [.nils,.ints o,.i 0] (AO.tupL (l:=[.nils,.ints o,.i 0]) (l':=[.sl 3 (F ([]:O BG))<|AM (λ(x:Ξ×Ξ×E)=>[.ints x.1,.ints x.2.1,.i x.2.2]) ([]:O BG),.ints o,.i 0]) rfl ⟨AO.sl_nil _ _,At,At,trivial⟩) Z5 Z5;exact⟨v,y,v,rfl,z⟩
def zJR(J:Ap B GG N [] ρs Q)(k:A8 [] ρs Q (CE o q tree (F tree) pos 0++[oC [.nils],oC [.msl 0 1 0<|F tree],oC [.i 0]]) ρ0 w0)(c:AS B GG N ⟨AF 33 [(6,.ref 5 0),(7,.ref 6 0),(8,.ref 7 0)],CE o q tree (F tree) pos 0++[oC [.nils],oC [.msl 0 1 0<|F tree],oC [.i 0]]⟩ ρ0 a0 w0)(G:w0.heap[ϑ]?=Z (.deferred<|Z []))(m:GG.ng<=ϑ)(n:Q.heap.size<=ϑ)(p:A3 (MS N (CE o q tree (F tree) pos 0++[oC [.nils],oC [.msl 0 1 0<|F tree],oC [.i 0]]) ρ0) w0 ρ0 [.ref 5 0,.ref 6 0,.ref 7 0] #[b,p2,a]):
 LeavesInM η 0 B Tryz.f23 a0.tmps (λe w'=>∃v,e=.returned v/\CG B GG N [] ρs Q T (.tup 3<|L1 [.sl 3 (F ([]:O BG))<|AM (λ(x:Ξ×Ξ×E)=>[.ints x.1,.ints x.2.1,.i x.2.2]) ([]:O BG),.ints ([]:Ξ),.i 280]) [] v w') [{ target:=.collected ϑ,args:=#[] },{ target:=.fn (.func 41) #[b,p2,a],args:=#[] }] (.panicking<|pan Eo) w0:=by
 refine fI Z3 G (λargs W=>HD Tryz.func41 Z5 Z5 args W) λW g=>?_
 have r:AS B GG N ⟨AF 33 [(6,.ref 5 0),(7,.ref 6 0),(8,.ref 7 0)]++[.ref 5 0,.ref 6 0,.ref 7 0],CE o q tree (F tree) pos 0++[oC [.nils],oC [.msl 0 1 0<|F tree],oC [.i 0]]⟩ ρ0 { a0 with tmps:=a0.tmps++#[b,p2,a] } w0:=⟨c.hr,A3.append c.fr p⟩;have y:=r.shut (K7 Z5) m g;obtain⟨s,f⟩:=A3.split y.fr c.fr.1;have j:AS B GG N ⟨AF 33 [(6,.ref 5 0),(7,.ref 6 0),(8,.ref 7 0)],CE o q tree (F tree) pos 0++[oC [.nils],oC [.msl 0 1 0<|F tree],oC [.i 0]]⟩ ρ0 a0 W:=⟨y.hr,s⟩;refine(zR0 j.hr (f.at 0) (f.at 1)<|f.at 2).mono ?_;rintro e u' w' ⟨⟨v,rfl⟩,rfl,ρ',I,u,t⟩;have w:AS B GG N ⟨AF 33 [(6,.ref 5 0),(7,.ref 6 0),(8,.ref 7 0)],CE o q tree (F tree) pos 0++[oC [.nils],oC [.nils],oC [.i 280]]⟩ ρ' a0 w':=⟨I,GD (Ϝ:=8) j.fr Z5 I u t⟩;obtain⟨v,z,K⟩:=OH (fn:=Tryz.f23) w J ((k.shut<|g.mono λ_ _ h=>⟨zAO n h.1,h.2⟩).trans u) [] H0 [.nils,.nils,.i 280] (AO.tupL (l:=[.nils,.nils,.i 280]) (l':=[.sl 3 (F ([]:O BG))<|AM (λ(x:Ξ×Ξ×E)=>[.ints x.1,.ints x.2.1,.i x.2.2]) ([]:O BG),.ints ([]:Ξ),.i 280]) rfl ⟨AO.sl_nil _ _,AO.ints_nil,At,trivial⟩) Z5 Z5;exact⟨v,z,v,rfl,K⟩
def tv:ST:=.rd 0<|.rd 1<|.ef 2 (.ef 3 (.ef 4 (.fin [] [6,7,8])<|.no)<|.no)<|.no
def zGa:Bz (Am Tryz.f23 9) [2] tv:=Z1
def tJ(o:Ξ)(q:AA)(tree:O<|Δ)(pos:Ξ)(x:BG)(t:O BG):St:=⟨AF 33 [(6,.ref 5 0),(7,.ref 6 0),(8,.ref 7 0)],CE o q tree (F tree) pos 0++[oC [.msl 8 3 0<|F<|x::t],oC [.msl 0 1 0<|F tree],oC [.i 0],Z<|.arr 3 (F<|x::t)<|AM (λ(x:Ξ×Ξ×E)=>[.ints x.1,.ints x.2.1,.i x.2.2])<|x::t]⟩
def zIN(x:BG)(t:O BG)(J:Ap B GG N [] ρs Q)(j:A8 [] ρs Q (CE o q tree (F tree) pos 0++[oC [.msl 8 3 0<|F<|x::t],oC [.msl 0 1 0<|F tree],oC [.i 0],Z<|.arr 3 (F<|x::t)<|AM (λ(x:Ξ×Ξ×E)=>[.ints x.1,.ints x.2.1,.i x.2.2])<|x::t]) ρ0 w0)(c:AS B GG N ⟨AF 33 [(6,.ref 5 0),(7,.ref 6 0),(8,.ref 7 0)],CE o q tree (F tree) pos 0++[oC [.msl 8 3 0<|F<|x::t],oC [.msl 0 1 0<|F tree],oC [.i 0],Z<|.arr 3 (F<|x::t)<|AM (λ(x:Ξ×Ξ×E)=>[.ints x.1,.ints x.2.1,.i x.2.2])<|x::t]⟩ ρ0 a0 w0)(G:w0.heap[ϑ]?=Z (.deferred<|Z []))(k:GG.ng<=ϑ)(m:Q.heap.size<=ϑ)(n:F tree=F o)(p:a0.defers= [{ target:=.collected ϑ,args:=#[] },{ target:=.fn (.func 41) #[b,p2,a],args:=#[] }]):
 (Code.seq (.region 9 (Am Tryz.f23 9) T) .ret).wpIn η 0 B (bodyPostM η 0 B Tryz.f23 λe w'=>∃v,e=.returned v/\CG B GG N [] ρs Q T (.tup 3<|L1 [.sl 3 (F<|x::t)<|AM (λ(x:Ξ×Ξ×E)=>[.ints x.1,.ints x.2.1,.i x.2.2])<|x::t,.ints o,.i 0]) [] v w') a0 w0:=by
 refine zMT ?_;refine Qn (Ϝ:=0) HC.x [2] tv zGa [([(2,5)],tJ o q tree pos x t)] [6,7,8] [0,5,6,7,8] [] (H0.t|>.t|>.t|>.g (φ<|tJ o q tree pos x t)) H0 (AF 33 [(6,.ref 1 0),(7,.ref 2 0),(8,.ref 3 0)]) ([oI o,oC [.msl 4 3 0<|F<|x::t],oC [.msl 0 1 0<|F tree],oC [.i 0],Z<|.arr 3 (F<|x::t)<|AM (λ(x:Ξ×Ξ×E)=>[.ints x.1,.ints x.2.1,.i x.2.2])<|x::t]:DH) c Z5 λρ1 r w1 X u s Cs=>?_
 refine zTS ?_
 show LeavesInM _ _ _ _ _ _ r.defers .returning w1
 rw[s,p];refine fI Z3 (Zt c.hr u G) (λargs W=>HD Tryz.func41 Z5 Z5 args W) λW f=>?_
 refine(zBs b p2 a W).mono ?_;rintro e u' w' ⟨⟨v,rfl⟩,rfl,rfl⟩;have w:=X.shut (K7 Z5) k f;obtain⟨v,y,z⟩:=OH (fn:=Tryz.f23) w J ((j.trans u).shut<|f.mono λ_ _ h=>⟨zAO m h.1,h.2⟩) [0,4] (H0.g n|>.g (φ<|F<|x::t)) [.sl 3 (F<|x::t)<|AM (λ(x:Ξ×Ξ×E)=>[.ints x.1,.ints x.2.1,.i x.2.2])<|x::t,.ints o,.i 0] (AO.tupL (l:=[.sl 3 (F<|x::t)<|AM (λ(x:Ξ×Ξ×E)=>[.ints x.1,.ints x.2.1,.i x.2.2])<|x::t,.ints o,.i 0]) (l':=[.sl 3 (F<|x::t)<|AM (λ(x:Ξ×Ξ×E)=>[.ints x.1,.ints x.2.1,.i x.2.2])<|x::t,.ints o,.i 0]) rfl ⟨At,At,At,trivial⟩) Z5 Z5;exact⟨v,y,v,rfl,z⟩
def zJQ(x:BG)(t:O BG)(J:Ap B GG N [] ρs Q)(k:A8 [] ρs Q (CE o q tree (F tree) pos 0++[oC [.msl 8 3 0<|F<|x::t],oC [.msl 0 1 0<|F tree],oC [.i 0],Z<|.arr 3 (F<|x::t)<|AM (λ(x:Ξ×Ξ×E)=>[.ints x.1,.ints x.2.1,.i x.2.2])<|x::t]) ρ0 w0)(c:AS B GG N ⟨AF 33 [(6,.ref 5 0),(7,.ref 6 0),(8,.ref 7 0)],CE o q tree (F tree) pos 0++[oC [.msl 8 3 0<|F<|x::t],oC [.msl 0 1 0<|F tree],oC [.i 0],Z<|.arr 3 (F<|x::t)<|AM (λ(x:Ξ×Ξ×E)=>[.ints x.1,.ints x.2.1,.i x.2.2])<|x::t]⟩ ρ0 a0 w0)(G:w0.heap[ϑ]?=Z (.deferred<|Z []))(m:GG.ng<=ϑ)(n:Q.heap.size<=ϑ)(p:A3 (MS N (CE o q tree (F tree) pos 0++[oC [.msl 8 3 0<|F<|x::t],oC [.msl 0 1 0<|F tree],oC [.i 0],Z<|.arr 3 (F<|x::t)<|AM (λ(x:Ξ×Ξ×E)=>[.ints x.1,.ints x.2.1,.i x.2.2])<|x::t]) ρ0) w0 ρ0 [.ref 5 0,.ref 6 0,.ref 7 0] #[b,p2,a]):
 LeavesInM η 0 B Tryz.f23 a0.tmps (λe w'=>∃v,e=.returned v/\CG B GG N [] ρs Q T (.tup 3<|L1 [.sl 3 (F ([]:O BG))<|AM (λ(x:Ξ×Ξ×E)=>[.ints x.1,.ints x.2.1,.i x.2.2]) ([]:O BG),.ints ([]:Ξ),.i 280]) [] v w') [{ target:=.collected ϑ,args:=#[] },{ target:=.fn (.func 41) #[b,p2,a],args:=#[] }] (.panicking<|pan Eo) w0:=by
 refine fI Z3 G (λargs W=>HD Tryz.func41 Z5 Z5 args W) λW g=>?_
 have r:AS B GG N ⟨AF 33 [(6,.ref 5 0),(7,.ref 6 0),(8,.ref 7 0)]++[.ref 5 0,.ref 6 0,.ref 7 0],CE o q tree (F tree) pos 0++[oC [.msl 8 3 0<|F<|x::t],oC [.msl 0 1 0<|F tree],oC [.i 0],Z<|.arr 3 (F<|x::t)<|AM (λ(x:Ξ×Ξ×E)=>[.ints x.1,.ints x.2.1,.i x.2.2])<|x::t]⟩ ρ0 { a0 with tmps:=a0.tmps++#[b,p2,a] } w0:=⟨c.hr,A3.append c.fr p⟩;have y:=r.shut (K7 Z5) m g;obtain⟨s,f⟩:=A3.split y.fr c.fr.1;have j:AS B GG N ⟨AF 33 [(6,.ref 5 0),(7,.ref 6 0),(8,.ref 7 0)],CE o q tree (F tree) pos 0++[oC [.msl 8 3 0<|F<|x::t],oC [.msl 0 1 0<|F tree],oC [.i 0],Z<|.arr 3 (F<|x::t)<|AM (λ(x:Ξ×Ξ×E)=>[.ints x.1,.ints x.2.1,.i x.2.2])<|x::t]⟩ ρ0 a0 W:=⟨y.hr,s⟩;refine(zRz j.hr (f.at 0) (f.at 1)<|f.at 2).mono ?_;rintro e u' w' ⟨⟨v,rfl⟩,rfl,ρ',I,u,w⟩;have z:AS B GG N ⟨AF 33 [(6,.ref 5 0),(7,.ref 6 0),(8,.ref 7 0)],CE o q tree (F tree) pos 0++[oC [.nils],oC [.nils],oC [.i 280],Z<|.arr 3 (F<|x::t)<|AM (λ(x:Ξ×Ξ×E)=>[.ints x.1,.ints x.2.1,.i x.2.2])<|x::t]⟩ ρ' a0 w':=⟨I,GD (Ϝ:=8) j.fr Z5 I u w⟩;obtain⟨v,K,P⟩:=OH (fn:=Tryz.f23) z J ((k.shut<|g.mono λ_ _ h=>⟨zAO n h.1,h.2⟩).trans u) [] H0 [.nils,.nils,.i 280] (AO.tupL (l:=[.nils,.nils,.i 280]) (l':=[.sl 3 (F ([]:O BG))<|AM (λ(x:Ξ×Ξ×E)=>[.ints x.1,.ints x.2.1,.i x.2.2]) ([]:O BG),.ints ([]:Ξ),.i 280]) rfl ⟨AO.sl_nil _ _,AO.ints_nil,At,trivial⟩) Z5 Z5;exact⟨v,K,v,rfl,P⟩
def zNz(q:AA)(tree:O<|Δ):DH:=[oC<|AG q,oC [.nils],oC [.msl 4 1 0<|F tree],oC [.i 0],oI<|d (F tree) (0:E)]
def fK(l:O BG):Mz:=match l with
 |[]=>.s0
 |x::t=>.s1 (F<|x::t)<|x::t
variable{n ln:U}
def zAk :∀(l a:O BG),F a+F l<=Av->CC (VL n ln) l (.s1 (F a) a)=Z (.s1 (F<|a++l)<|a++l)
 |[],a,_=>by simp[CC]
 |x::l,a,h=>by
  have b:VL n ln x (.s1 (F a) a)=Z (.s1 (F<|a++[x])<|a++[x]):=by
   have m:F a+1<=Av:=by simp at h;omega
   show qI n ln x (F a) a=_
   unfold qI;rw[zAB ⟨rfl,m⟩];simp
  simp only[CC,b,zAD];rw[zAk l (a++[x])<|by simp at h⊢;omega];simp
variable{l:O BG}
def zPh(h:F l<=Av):CC (VL n ln) (l.drop 0) .s0=Z (fK l):=by
 rw[zMy];cases l with
 |nil=>rfl
 |cons x t=>exact zAk (n:=n) (ln:=ln) t [x] (by simp at h⊢;omega)
def zPa{a:A Unit}(As:Qp n q pos tree=Z 0)(g0:((F tree:E):E)=(F tree:E)/\0<=(F tree:E)/\((F tree:E):E)<=1000000000000)(hy:YI n (d (F tree) (0:E)) q tree (F tree) pos=Z (l,a,o))(Y:F tree=F o)(g2:F l<=Av)
     (m:AS B GG N ⟨AF 33 [(0,.agg 5<|L1<|AG q),(1,.ints pos),(2,.sl 2 (F tree)<|AM Az tree)],[]⟩ ρ0 a0 w0) (GC:a0.defers= []):
 (AZ Tryz.f23).wpIn η 0 B (bodyPostM η 0 B Tryz.f23 λe w'=>∃v,e=.returned v/\CG B GG N [] ρ0 w0 T (.tup 3<|L1 [.sl 3 (F<|C a.isSome l [])<|AM (λ(x:Ξ×Ξ×E)=>[.ints x.1,.ints x.2.1,.i x.2.2])<|C a.isSome l [],.ints<|C a.isSome o [],.i<|C a.isSome 0 280]) [] v w') a0 w0:=by
 refine zMT ?_;refine wr (Ϝ:=0) HC.x [1,2,3,6,7,8] [0,1,2,3] [] H0 H0 (AF 33 [(1,.ints pos),(2,.sl 2 (F tree)<|AM Az tree),(3,.ref 0 0),(6,.ref 1 0),(7,.ref 2 0),(8,.ref 3 0)]) ([oC<|AG q,oC [.nils],oC [.nils],oC [.i 0]]:DH) m Z5 Z5 λρ1 a1 w1 R1 BV EJ Cs=>?_
 refine zMT<|zMT ?_;refine wr (Ϝ:=0) HC.x [1,2,3,6,7,8] [0,1,2,3] [] (H0.c (fb (sW As) [oC<|AG q,oC [.nils],oC [.nils],oC [.i 0]])|>.t) H0 (AF 33 [(1,.ints pos),(2,.sl 2 (F tree)<|AM Az tree),(3,.ref 0 0),(6,.ref 1 0),(7,.ref 2 0),(8,.ref 3 0)]) ([oC<|AG q,oC [.nils],oC [.nils],oC [.i 0]]:DH) R1 Z5 Z5 λρ2 a2 w2 R2 Et I2 KE=>?_
 refine zMT ?_;refine wr (Ϝ:=0) HC.x [1,2,3,6,7,8,15] [0,1,2,3] [] H0 H0 (AF 33 [(1,.ints pos),(2,.sl 2 (F tree)<|AM Az tree),(3,.ref 0 0),(6,.ref 1 0),(7,.ref 2 0),(8,.ref 3 0),(15,.bool D)]) ([oC<|AG q,oC [.nils],oC [.nils],oC [.i 0]]:DH) R2 Z5 Z5 λρ3 a3 w3 f D1 Yx Jc=>?_
 refine zOo (Be f<|.tmp 15)<|zTM ?_;have Bh:a3.tmps.size=33:=by simpa[AF]using f.fr.1.symm
 refine zMT<|sS (o0:=_) (o1:=_) rfl rfl rfl rfl rfl rfl rfl (by rw[Bh];decide) λa4 P Ji=>?_;have R4:=f.idle 17 P Z5;have F4:A3 (MS N [oC<|AG q,oC [.nils],oC [.nils],oC [.i 0]] ρ3) w3 ρ3 [.ref 1 0,.ref 2 0,.ref 3 0] #[a3.tmps.getD 6 undef,a3.tmps.getD 7 undef,a3.tmps.getD 8 undef]:=⟨rfl,λj p=>match j,p with|0,_=>f.fr.at 6|1,_=>f.fr.at 7|2,_=>f.fr.at 8|j+3,p=>τ p Z3⟩;refine zMT ?_;refine wr (Ϝ:=4) HC.x [1,2,3,6,7,8] [0,1,2,3,4] [] (H0.g g0|>.t) H0 (AF 33 [(1,.ints pos),(2,.sl 2 (F tree)<|AM Az tree),(3,.ref 0 0),(6,.ref 1 0),(7,.ref 2 0),(8,.ref 3 0)]) ([oC<|AG q,oC [.nils],oC [.msl 4 1 0<|F tree],oC [.i 0],oI<|d (F tree) (0:E)]:DH) R4 Z5 Z5 λρ5 a5 w5 R5 Q pS R=>?_
 have F5:=GD (Ϝ:=4) F4 Z5 R5.hr Q R;refine zMT<|zMT ?_;refine wr (Ϝ:=4) HC.x [6,7,8,25] [0,1,2,3,4,5,6,7,8] [] (H0.c<|em (zLE q pos tree (F tree) (d (F tree) (0:E)) (rfl:yg n q pos tree (F tree) (d (F tree) (0:E))=Z ())) [4]<|zNz q tree) H0 (AF 33 [(6,.ref 1 0),(7,.ref 2 0),(8,.ref 3 0),(25,.fn 53 4<|L1 [.ref 5 0,.ref 6 0,.ref 7 0,.ref 8 0])]) ([oC<|AG q,oC [.nils],oC [.msl 4 1 0<|F tree],oC [.i 0],oI<|d (F tree) (0:E),oC<|AG q,oC [.sl 2 (F tree)<|AM Az tree],oC [.msl 4 1 0<|F tree],oC [.ints pos]]:DH) R5 Z5 Z5 λρ6 u w6 R6 S K W=>?_
 have F6:=GD (Ϝ:=4) F5 Z5 R6.hr S W
 have s7:BB 0 ⟨AF 33 [(6,.ref 1 0),(7,.ref 2 0),(8,.ref 3 0),(25,.fn 53 4<|L1 [.ref 5 0,.ref 6 0,.ref 7 0,.ref 8 0])]++[.ref 1 0,.ref 2 0,.ref 3 0],[oC<|AG q,oC [.nils],oC [.msl 4 1 0<|F tree],oC [.i 0],oI<|d (F tree) (0:E),oC<|AG q,oC [.sl 2 (F tree)<|AM Az tree],oC [.msl 4 1 0<|F tree],oC [.ints pos]]⟩ ⟨AF 33 [(6,.ref 5 0),(7,.ref 6 0),(8,.ref 7 0),(25,.fn 53 4<|L1 [.ref 1 0,.ref 2 0,.ref 3 0,.ref 4 0])]++[.ref 5 0,.ref 6 0,.ref 7 0],[oI<|d (F tree) (0:E),oC<|AG q,oC [.sl 2 (F tree)<|AM Az tree],oC [.msl 0 1 0<|F tree],oC [.ints pos],oC [.nils],oC [.msl 0 1 0<|F tree],oC [.i 0]]⟩:=by
  have e:HJ [4,5,6,7,8,1,2,3] ⟨AF 33 [(6,.ref 1 0),(7,.ref 2 0),(8,.ref 3 0),(25,.fn 53 4<|L1 [.ref 5 0,.ref 6 0,.ref 7 0,.ref 8 0])]++[.ref 1 0,.ref 2 0,.ref 3 0],[oC<|AG q,oC [.nils],oC [.msl 4 1 0<|F tree],oC [.i 0],oI<|d (F tree) (0:E),oC<|AG q,oC [.sl 2 (F tree)<|AM Az tree],oC [.msl 4 1 0<|F tree],oC [.ints pos]]⟩=⟨AF 33 [(6,.ref 5 0),(7,.ref 6 0),(8,.ref 7 0),(25,.fn 53 4<|L1 [.ref 1 0,.ref 2 0,.ref 3 0,.ref 4 0])]++[.ref 5 0,.ref 6 0,.ref 7 0],[oI<|d (F tree) (0:E),oC<|AG q,oC [.sl 2 (F tree)<|AM Az tree],oC [.msl 0 1 0<|F tree],oC [.ints pos],oC [.nils],oC [.msl 0 1 0<|F tree],oC [.i 0]]⟩:=Z5
  rw[←e];exact BB.compE [4,5,6,7,8,1,2,3] Z5
 obtain⟨ρx,Rx,Fx,uH,_⟩:=BB.both s7 Z5 R6 F6;obtain⟨ρ7,R7,F7,GL,_⟩:=BB.both (BB.ros (Ϝ:=0) (fr:=AF 33 [(6,.ref 5 0),(7,.ref 6 0),(8,.ref 7 0),(25,.fn 53 4<|L1 [.ref 1 0,.ref 2 0,.ref 3 0,.ref 4 0])]++[.ref 5 0,.ref 6 0,.ref 7 0]) (h:=[oI<|d (F tree) (0:E),oC<|AG q,oC [.sl 2 (F tree)<|AM Az tree],oC [.msl 0 1 0<|F tree],oC [.ints pos],oC [.nils],oC [.msl 0 1 0<|F tree],oC [.i 0]]) (h':=CE (d (F tree) (0:E)) q tree (F tree) pos 0++[oC [.nils],oC [.msl 0 1 0<|F tree],oC [.i 0]]) [1,2,3,4] Z5 Z5) rfl Rx Fx;refine wpIn_block ?_;have HY:YC B GG Eo 53 (λl=>.yl l::(θ 4).map (L1 [.ref 1 0,.ref 2 0,.ref 3 0,.ref 4 0])) (λ_=>CE (d (F tree) (0:E)) q tree (F tree) pos 0) (l.map M5) (a.map yf) λ_=>CE o q tree (F tree) pos 0:=zLA _ _ _ _ _ (l,a,o) hy;refine zIo (KK:=8) (ϒ:=[oC [.nils],oC [.msl 0 1 0<|F tree],oC [.i 0]]) (J:=λi h=>∃s,CC (VL n<|F tree) (l.drop i) s=Z (fK l)/\h=VK (F tree) s) R7 Z5 HY rfl Z5 Z5 (λx hx=>by obtain⟨z,_,rfl⟩:=zMa.1 hx;rfl) Z5 (show 5<=8 by decide) ⟨.s0,zPh g2,rfl⟩ (λi h=>by rintro⟨s,_,rfl⟩;cases s <;> exact⟨_,rfl⟩) (roundOf M5 l (VL n<|F tree) (VK<|F tree) (λX=>AF 33 [(6,.ref 5 0),(7,.ref 6 0),(8,.ref 7 0),(25,.fn 53 4<|L1 [.ref 1 0,.ref 2 0,.ref 3 0,.ref 4 0]),(26,.agg 3<|L1 [.ints X.1,.ints X.2.1,.i X.2.2])]) (λl ϙ N x s r h=>zPe n (F tree) l ϙ N x s r h) Z5) λϑ T' ρ8 e w8 p R8 Kp Uc G Fy he=>?_
 obtain⟨s,hs,hT⟩:=p;rw[zAS,zTb]at hs;cases hs;have eT:T'=(VK (F tree)<|fK l).drop 5:=by rw[←hT];rfl
 subst eT;have w:=((((((BV.trans Et).trans D1).trans Q).trans S).trans uH).trans GL).trans Kp;have y:GG.ng<=ϑ:=zAO (GG.lo _ R7.hr.gi) Fy;have I:w0.heap.size<=ϑ:=zAO ((((((BV.trans Et).trans D1).trans Q).trans S).trans uH).trans GL).upd.size Fy;have K:u.defers= [{ target:=.fn (.func 41) #[a3.tmps.getD 6 undef,a3.tmps.getD 7 undef,a3.tmps.getD 8 undef],args:=#[] }]:=by rw[K,pS,Ji,Yx,I2,EJ,GC];simp[Act.eval]
 have k:AS B GG N ⟨AF 33 [(6,.ref 5 0),(7,.ref 6 0),(8,.ref 7 0)],CE o q tree (F tree) pos 0++(VK (F tree)<|fK l).drop 5⟩ ρ8 { u with defers:={ target:=.collected ϑ,args:=#[] }::u.defers } w8:=R8.forg [6,7,8] rfl Z5;have F9:=GD (Ϝ:=8) F7 Z5 R8.hr Kp Uc;rcases he with⟨v,rfl,b⟩|⟨rfl,b⟩
 ·have b:a.isSome=T:=by simpa using b
  simp only[b,zN6];cases l with
  |nil=>exact zIO m.hr w k G y I Y (by show _::u.defers=_;rw[K])
  |cons x t=>exact zIN x t m.hr w k G y I Y (by show _::u.defers=_;rw[K])
 ·have b:a.isSome=D:=by simpa using b
  simp only[b,zMe,zTQ]
  show LeavesInM _ _ _ _ _ _ (_::u.defers) _ _
  rw[K];cases l with
  |nil=>exact zJR m.hr w ⟨k.hr,k.fr⟩ G y I F9
  |cons x t=>exact zJQ x t m.hr w ⟨k.hr,k.fr⟩ G y I F9
def SX(n:U)(q:AA)(pos:Ξ)(tree:O<|Δ):A<|(O<|Ξ×Ξ×E)×Ξ×E:=(Qp n q pos tree).bind λf=>L (f != 0) (Z ([],[],f))<|C (((F tree:E):E)=(F tree:E)/\0<=(F tree:E)/\((F tree:E):E)<=1000000000000) ((YI n (d (F tree) (0:E)) q tree (F tree) pos).bind λy=>C (F tree=F y.2.2/\F y.1<=Av) (Z (C y.2.1.isSome y.1 [],C y.2.1.isSome y.2.2 [],C y.2.1.isSome 0 280)) V) V
def zPc{r:(O<|Ξ×Ξ×E)×Ξ×E}(h:SX n q pos tree=Z r):EQ 23 [.agg 5<|L1<|AG q,.ints pos,.sl 2 (F tree)<|AM Az tree] [] (.tup 3<|L1 [.sl 3 (F r.1)<|AM (λ(x:Ξ×Ξ×E)=>[.ints x.1,.ints x.2.1,.i x.2.2]) r.1,.ints r.2.1,.i r.2.2]) [] T:=by
 unfold SX at h;obtain⟨f,P,h⟩:=D4 h;rcases Bv h with⟨a,h⟩|⟨a,h⟩
 ·refine zPd (n:=n) ?_;unfold qH qG;rw[P]
  show L (f != 0) _ _=_
  rw[a];exact h
 ·have e0:f=0:=by simpa using a
  subst e0;obtain⟨b,h⟩:=B6 h;obtain⟨⟨l,out,o⟩,hy,h⟩:=D4 h;obtain⟨⟨p,g⟩,h⟩:=B6 h;cases h;have W:(Tryz.f23.name== "runtime.NumGoroutine")=D:=Z5
  refine⟨⟨Tryz.f23,Tryz.func23,by simpa using W,Z5⟩,λN ρ w args HR u=>(zTC (n:=0)).1<|zTd (c:=AZ Tryz.f23) Tryz.func23 Z5 trivial ?_⟩;refine zPa P b hy p g (N:=N) (ρ0:=ρ) ⟨HR,?_⟩ rfl;have j:F ([.agg 5<|L1<|AG q,.ints pos,.sl 2 (F tree)<|AM Az tree]:O DV)=args.size:=u.1;have e:([.agg 5<|L1<|AG q,.ints pos,.sl 2 (F tree)<|AM Az tree]:O DV)++d (Tryz.f23.ntmps-F ([.agg 5<|L1<|AG q,.ints pos,.sl 2 (F tree)<|AM Az tree]:O DV)) .any=AF 33 [(0,.agg 5<|L1<|AG q),(1,.ints pos),(2,.sl 2 (F tree)<|AM Az tree)]:=Z5
  rw[←e,j];exact A3.append u<|A3.anys _ _ _ _
end
def LD(l:O BG):O Ξ:=(l.filter λx=>!x.2.1.isEmpty).map (·.2.1)
def zK5{a b:O BG}:LD (a++b)=LD a++LD b:=by simp[LD]
def jf(Ϝ a v:U)(G:O Ξ)(l:O BG)(o:Ξ):Prop:=F o=Ϝ/\LD l=G/\F l+a<=v/\v<=Ϝ/\∀x∈l,F x.2.1<=256
def OZ(q:AA)(tree:O<|Δ)(pos0 p:Ξ)(a Ϛ v:U)(G:O Ξ):Prop:=∀e:Ξ,F e=F tree->∃l o,Ev (λn=>DP n p (a:E) (Ϛ:E) e q tree (F tree) pos0) (l,Z (v:E),o)/\jf (F tree) a v G l o
section
variable{q:AA}{tree:O Δ}{pos0 pos p x:Ξ}{a Ϛ v:U}{G:O Ξ}
variable{o:Ξ}
def eK{ϕ:U->A (YR BG E Ξ)}{l:O BG}{e:Ξ}(ha:a<F tree)(b:Ev ϕ (l,Z (v:E),o))(c:jf (F tree) a v G l o):
 ∃o',Ev (λn=>yb (ϕ n) λf o1=>C ((0<=(a:E)/\(a:E)<(F tree:E))/\0+(a:E).toNat<F o1) (Ja (DP n) pos a Ϛ e q tree (F tree) pos0 n<|.l1<|o1.set (0+(a:E).toNat) f) V) (l,Z (v:E),o')/\jf (F tree) a v G l o':=by
 obtain⟨N,I⟩:=b;obtain⟨p,u⟩:=c;have p:F o=F tree:=p;refine⟨o.set a (v:E),⟨N+1,λn hn=>?_⟩,by rw[zIG];exact p,u⟩;obtain⟨k,rfl⟩:∃k,n=k+1:=⟨n-1,Z2⟩
 show yb (ϕ<|k+1) _=_
 rw[I (k+1) Z2]
 show(C _ _ V).map _=_
 rw[zAB ⟨Z2,by show 0+(a:E).toNat<F o;omega⟩,u8,zCx]
 show(Xs k (DP<|k+1) (Ja (DP<|k+1) pos a Ϛ e q tree (F tree) pos0 k) pos a Ϛ e q tree (F tree) pos0<|o.set a (v:E)).map _=_
 unfold Xs;rw[zAB ⟨Z2,by rw[zIG];omega⟩,u8,zCx,SV Z2];simp
def zKD{i:E}(hx:BC q x)(ϛ:Bx q i p)(g:PR q (con q i) p x)(hT:F tree<=65536)(P:a<F tree)(s:M tree a ξ=(1,i))(h:OZ q tree pos0 x (a+1) Ϛ v G):OZ q tree pos0 p a Ϛ v G:=λe j=>by
 obtain⟨y,k,m⟩:=mO ϛ;obtain rfl:y=x:=PR.uniq _ _ m g;obtain⟨l,o,⟨N,I⟩,r,u,g3,K⟩:=h e j;have t:AI<|(a:E)+1:=Ae.2 ⟨Z2,Z2⟩
 have e0:Ev (λn=>mQ n (DP n) e q tree (F tree) pos0 p a Ϛ<|M tree a ξ) (l,Z (v:E),o):=by
  rw[s];refine Ev.eq (Ev.bind k (b:=λn f=>L (f.2==0) (C (AI<|(a:E)+1) (yb (DP n f.1 ((a:E)+1) Ϛ e q tree (F tree) pos0) λc Q=>Z ([],Z c,Q)) V)<|Z ([],V,e)) ⟨N,λn s=>?_⟩) λn=>rfl
  have:DP n y ((a+1:U):E) Ϛ e q tree (F tree) pos0=_:=I n s;rw[show((a+1:U):E)=(a:E)+1 by omega]at this
  show C (AI<|(a:E)+1) (yb (DP n y ((a:E)+1) Ϛ e q tree (F tree) pos0) λc Q=>Z ([],Z c,Q)) V=_
  rw[zAB t,this];simp[yb]
 obtain⟨o',w,z⟩:=eK (pos:=p) (Ϛ:=Ϛ) (e:=e) (pos0:=pos0) P e0 ⟨r,u,Z2,K⟩;refine⟨l,o',Ev.step 1 (λn=>(rfl:_=KD n (DP n) (Ja (DP n) p a Ϛ e q tree (F tree) pos0 n) p a Ϛ e q tree (F tree) pos0))<|Ev.eq w λn=>?_,z⟩;unfold KD;rw[zAA Z2,zAI,zAB ⟨Z2,Z2⟩];simp only[u8,s];rfl
def xn(h:BC q p)(r:BM p=T)(hT:F tree<=65536)(P:a<F tree)(U7:Ϛ<=a)(s:M tree a ξ=(3,0)):OZ q tree pos0 p a Ϛ (a+1) []:=λe b=>by
 have ED:=h.len256;have lb:(256:U)<=LB:=Z6
 have t:AI<|(a:E)+1:=Ae.2 ⟨Z2,Z2⟩;have u:∀n,F p<n->GO n p=Z (BM p):=λn s=>Mg Z2 s
 have e0:Ev (λn=>ic n (DP n) e q tree (F tree) pos0 p a Ϛ<|M tree a ξ) ([(d (F p) 0,[],(Ϛ:E))],Z ((a+1:U):E),e):=by
  rw[s];refine Ev.from (F p+1) λn s=>?_
  unfold ic ib;rw[zTX,zAI,u n Z2,zAD,r,zAI,zAB ⟨Z3,rfl,Z2,Z2⟩,zAB t];rfl
 obtain⟨o',y,c⟩:=eK (pos:=p) (Ϛ:=Ϛ) (e:=e) (pos0:=pos0) P e0 (G:=[]) ⟨b,rfl,Z7,Z2,Z3⟩;refine⟨_,o',Ev.step 1 (λn=>(rfl:_=KD n (DP n) (Ja (DP n) p a Ϛ e q tree (F tree) pos0 n) p a Ϛ e q tree (F tree) pos0))<|Ev.eq y λn=>?_,c⟩;unfold KD;rw[zAA Z2,zAI,zAB ⟨Z2,Z2⟩];simp only[u8,s];rfl
variable{g:Ξ}
def zKE(h:BC q p)(f:Eh p=Z g)(i:MP q g)(hT:F tree<=65536)(P:a<F tree)(s:M tree a ξ=(4,0)):OZ q tree pos0 p a Ϛ (a+1) [g]:=λe m=>by
 have o:=h.len256;have j:=Tq f;have lb:(256:U)<=LB:=Z6
 have r:AI<|(a:E)+1:=Ae.2 ⟨Z2,Z2⟩;obtain⟨N,c⟩:=uc (pos:=p) h.sm16 o.2;have c:∀n,N<=n->Tn n p=_:=c;obtain⟨⟨b,k⟩,⟨ϗ,l⟩,z,u⟩:=zEc (q:=q) (g:=g) h.fit Z2;have l:∀n,ϗ<=n->Tk n q g=Z (b,k):=l;have v:k=0:=z.2 ⟨h.valid,i.1⟩;subst v;have w:b=T:=(u rfl).2 i.2;subst w
 have e0:Ev (λn=>iQ n (DP n) e q tree (F tree) pos0 p a Ϛ<|M tree a ξ) ([(p,g,(Ϛ:E))],Z ((a+1:U):E),e):=by
  rw[s];refine Ev.from (N+ϗ) λn s=>?_
  unfold iQ iP;rw[c n Z2,zAD,zTX,zAI,f]
  show(Tk n q g).bind _=_
  rw[l n Z2,zAD]
  show yx _ (C _ _ V)=_
  rw[zAB r];rfl
 have x:g≠[]:=λe=>by rw[e]at j;simp at j;omega
 have I:LD [(p,g,(Ϛ:E))]= [g]:=by
  cases g with
  |nil=>exact τ rfl x
  |cons y t=>rfl
 obtain⟨o',J,K⟩:=eK (pos:=p) (Ϛ:=Ϛ) (e:=e) (pos0:=pos0) P e0 (G:=[g]) ⟨m,I,Z7,Z2,Z7⟩;refine⟨_,o',Ev.step 1 (λn=>(rfl:_=KD n (DP n) (Ja (DP n) p a Ϛ e q tree (F tree) pos0 n) p a Ϛ e q tree (F tree) pos0))<|Ev.eq J λn=>?_,K⟩;unfold KD;rw[zAA Z2,zAI,zAB ⟨Z2,Z2⟩];simp only[u8,s];rfl
def Ii(tree:O<|Δ)(a:U)(l:O BU):Prop:=∃ϙ,tree.drop a=l.map (·.1)++ϙ
variable{l m:O BU}
def Ii.left(h:Ii tree a<|l++m):Ii tree a l:=by
 obtain⟨ϙ,h⟩:=h;exact⟨m.map (·.1)++ϙ,by rw[h,zTm,zOi]⟩
def Ii.right(h:Ii tree a<|l++m):Ii tree (a+F l) m:=by
 obtain⟨ϙ,h⟩:=h;exact⟨ϙ,by rw[←zT1,h,zTm,zOi,List.drop_left' Z3]⟩
def Ii.head{y:BU}(h:Ii tree a<|y::l):a<F tree/\M tree a ξ=y.1:=by
 obtain⟨ϙ,h⟩:=h;have h0:(tree.drop a)[0]?=Z y.1:=by rw[h];rfl
 rw[zOb,Nat.add_zero]at h0;exact⟨(zDh.1 h0).1,by rw[zAL,h0];rfl⟩
def md(h:HM q 4 p o g):BC q p->F tree<=65536->∀a,Ii tree a (o.map IM)->OZ q tree pos0 g (a+F o) Ϛ v G->OZ q tree pos0 p a Ϛ v G:=by
 induction h with
 |done _=>exact λ_ _ a _ h=>h
 |@step p x l g i hi e _ _ _ f=>
  intro b c a J h;obtain⟨j,k⟩:=J.head;have n:=b.pr hi.1 hi.2.1 e;refine zKD n (b.ctx hi.1 hi.2.1) e c j k<|f n c (a+1) (Ii.right (l:=[IM i]) J) ?_;rw[zDM]at h
  rwa[show a+1+F l=a+(F l+1) by omega]
def zER{c:U}{nd:Δ}{e0:Ξ}{a0:U}(e:BC q x)(hc:c<F x)(Y:nd.2=(c:E))(hT:F tree<=65536)(ϗ:U)
 (v:∀(l:O BU) (s b:U),F l<=ϗ->s<q.sy.toNat->Sr q V (Fl x c s) l->Ϛ+1<=b->b<=F tree->Ii tree b l->OZ q tree pos0 (Fl x c s) b (Ϛ+1) (b+F l) (Dh l)) (hd:Ϛ<=65536):
 ∀(k j b:U) (l:O BU) (o:Ξ),j+k=q.sy.toNat->F l<=ϗ->Sr q (Z (c,B4 (M x c 0) j)) x l->Ϛ+1<=b->b<=F tree->Ii tree b l->F o=F tree->
  ∃Ϝ o',(∃N,∀n m,N<=n->N<=m->JK (DP m) e0 q tree (F tree) pos0 x a0 Ϛ nd n (.l1 (b:E) (j:E) o)=Z (Ϝ,Z ((b+F l:U):E),o'))/\jf (F tree) b (b+F l) (Dh l) Ϝ o':=by
 have z:=e.sm c hc;have hk:=e.k;intro k
 induction k with
 |zero=>
  intro j b l o G h a i p J f
  have:B4 (M x c 0) j= []:=by
   have:j=q.sy.toNat:=Z2
   rw[this];exact lB z
  rw[this]at a;cases a;refine⟨[],o,⟨1,λn m g _=>?_⟩,f,rfl,Z3,by simpa using p,Z3⟩;obtain⟨n,rfl⟩:∃k,n=k+1:=⟨n-1,Z2⟩
  show Qw n (DP m) (JK (DP m) e0 q tree (F tree) pos0 x a0 Ϛ nd n) e0 q tree (F tree) pos0 x a0 Ϛ nd (b:E) (j:E) o=_
  unfold Qw;rw[zAF Z2,zAJ];rfl
 |succ k X=>
  intro j b l o G h a i p J f
  have step:∀n m,JK (DP m) e0 q tree (F tree) pos0 x a0 Ϛ nd (n+1) (.l1 (b:E) (j:E) o)=L (tb (M x c 0) j) ((OG n q x c j).bind λr=>L (r.2==0) (yb (DP m r.1 b ((Ϛ+1:U):E) o q tree (F tree) pos0) λP Q=>JK (DP m) e0 q tree (F tree) pos0 x a0 Ϛ nd n<|.l1 P ((j+1:U):E) Q)<|Z ([],V,o)) (JK (DP m) e0 q tree (F tree) pos0 x a0 Ϛ nd n<|.l1 (b:E) ((j+1:U):E) o):=by
   intro n m
   show Qw n (DP m) (JK (DP m) e0 q tree (F tree) pos0 x a0 Ϛ nd n) e0 q tree (F tree) pos0 x a0 Ϛ nd (b:E) (j:E) o=_
   unfold Qw;have R:AI<|(j:E)+1:=Ae.2 ⟨Z2,Z2⟩;have S:AI<|(Ϛ:E)+1:=Ae.2 ⟨Z2,Z2⟩;rw[zAA Z2,zAI,zAB ⟨Z2,Z2,by show(j:E)<=((64:U):E);omega⟩,Y,u8,u8,Q2 z Z2 Z2];simp only[zAB R,zAB S];rfl
  rw[cD<|show j<16 by omega]at a;cases K:tb (M x c 0) j with
  |false=>
   rw[K]at a;obtain⟨Ϝ,o',⟨N,I⟩,W⟩:=X (j+1) b l o Z2 h a i p J f;refine⟨Ϝ,o',⟨N+1,λn m g z=>?_⟩,W⟩;obtain⟨n,rfl⟩:∃k,n=k+1:=⟨n-1,Z2⟩;rw[step,K,zAJ];exact I n m Z2 Z2
  |true=>
   rw[K,zAB rfl]at a;cases a with
   |@cons _ _ _ _ u w hu hw=>
    rw[zAi]at h;obtain⟨t,o1,⟨N,I⟩,g1,g2,g3,g4,g5⟩:=v u j b Z2 Z2 hu i p J.left o f;have gZ:∀n,N<=n->DP n (Fl x c j,(0:E)).1 b ((Ϛ+1:U):E) o q tree (F tree) pos0=Z (t,Z ((b+F u:U):E),o1):=I;have fx:∀n,D0 q+300<=n->OG n q x c j=Z (Fl x c j,0):=λn g=>zAl e.fit e.valid e.ok hc Z2 g
    obtain⟨l2,Q,⟨M2,pm⟩,w1,w2,w3,w4,w5⟩:=X (j+1) (b+F u) w o1 Z2 Z2 hw Z2 g4 J.right g1;refine⟨t++l2,Q,⟨N+M2+D0 q+301,λn m g z=>?_⟩,w1,by rw[zK5,g2,w2,QM],by rw[zAi,zAi];omega,by rw[zAi];omega,λy hy=>(zMc.1 hy).elim (g5 y)<|w5 y⟩;obtain⟨n,rfl⟩:∃k,n=k+1:=⟨n-1,Z2⟩;rw[step,K,zAI,fx n Z2,zAD];rw[show((Fl x c j,(0:E)).2==0)=T from rfl,zAI,gZ m Z2]
    show(JK _ _ _ _ _ _ _ _ _ _ _ _).map _=_
    rw[pm n m Z2 Z2,zAi,show b+(F u+F w)=b+F u+F w by omega];rfl
def zEM(t:F tree<=65536):∀(ϗ:U) (l:O BU) (p:Ξ) (a Ϛ:U),F l<=ϗ->BC q p->Sr q V p l->Ϛ<=a->a<=F tree->Ii tree a l->OZ q tree pos0 p a Ϛ (a+F l) (Dh l):=by
 intro ϗ
 induction ϗ with
 |zero=>
  intro l p a Ϛ r i u;have:l= []:=zOm.1 Z2;subst this
  generalize K:(V:W9)=m at u
  generalize r:([]:O BU)=l at u
  cases u with
  |dead=>exact τ r.symm Z3
  |done=>exact τ r.symm Z3
  |split=>exact τ r.symm Z3
  |nil=>cases K
  |cons=>cases K
 |succ ϗ W=>
  intro l p a Ϛ r i u X ha J;cases u with
  |@dead _ x o w j k=>
   have f:=J.right.head;rw[zAS]at f;have e:a+F (o.map IM++[((3,0),([]:Ξ))])=a+F o+1:=Z7
   rw[e,QM,Se];rcases UR i w j with⟨y,rfl⟩|⟨_,h⟩
   ·exact xn i y t f.1 X f.2
   ·exact md h i t a J.left<|xn (j.posn i).1 k t f.1 Z2 f.2
  |@done _ x o g w j k R=>
   obtain⟨Y,k2⟩:=zBB i j k R;have f:=J.right.head;rw[zAS]at f;have e:a+F (o.map IM++[((4,0),g)])=a+F o+1:=Z7
   rw[e,QM,Se];have v:=(j.posn i).1;rcases UR i w j with⟨y,rfl⟩|⟨_,h⟩
   ·rcases j with⟨_,rfl⟩|⟨z,_⟩
    ·rw[Zu i.len256.1]at k;cases k
    ·rw[y]at z;cases z
   ·exact md h i t a J.left<|zKE v R Y t f.1 f.2
  |@split _ x o c l w j k R h5 G S h8=>
   have v:=(j.posn i).1;have f:=J.right.head
   have po:Ii tree (a+F o+1) l:=by
    have:=Ii.right (l:=[((2,(c:E)),([]:Ξ))]) J.right
    rwa[zAS]at this
   rw[zAS]at f;have P:M tree (a+F o) ξ=(2,(c:E)):=f.2;have e:a+F (o.map IM++((2,(c:E)),([]:Ξ))::l)=a+F o+1+F l:=Z7
   have eg:Dh (o.map IM++((2,(c:E)),([]:Ξ))::l)=Dh l:=by rw[QM,Se];rfl
   rw[e,eg];have Bq:F o+F l<=ϗ:=by rw[zAi,zDM,zAS]at r;omega
   have key:OZ q tree pos0 x (a+F o) Ϛ (a+F o+1+F l)<|Dh l:=λe he=>by
    have ED:=v.len256;have lb:(256:U)<=LB:=Z6
    have pQ:∀n,F x<n->GO n x=Z (BM x):=λn Q=>Mg Z2 Q
    have r1:AI<|((a+F o:U):E)+1:=Ae.2 ⟨Z2,Z2⟩;obtain⟨N,I⟩:=ul<|v.sm16 c G;have I:∀n,N<=n->Q0 n (M x c 0)=_:=I;have S:2<=F (B4 (M x c 0) 0):=S
    obtain⟨Ϝ,o',⟨M2,hM⟩,hP⟩:=zER (pos0:=pos0) (tree:=tree) (Ϛ:=Ϛ) (nd:=(2,(c:E))) (e0:=e) (a0:=a+F o) v G rfl t ϗ
     (λl s b r hs u f U9 J=>W l _ b (Ϛ+1) r (v.fx G hs) u f U9 J) Z2 q.sy.toNat 0 (a+F o+1) l e Z2 Z2 h8 Z2 Z2 po he
    have e0:Ev (λn=>be n (DP n) e q tree (F tree) pos0 x ((a+F o:U):E) Ϛ<|M tree (a+F o) ξ) (Ϝ,Z ((a+F o+1+F l:U):E),o'):=by
     rw[P];refine Ev.from (N+M2+F x+1) λn Q=>?_
     unfold be bc;have I:=I n Z2;rw[zAA Z2,zAI,zAA Z2,zAI,pQ n Z2,zAD,k,zMd,zAI,zAB ⟨Z2,Z2⟩,u8,I,zAD,zAA Z2,zAI,zAB r1];exact hM n n Z2 Z2
    obtain⟨p1,p2,p3,p4⟩:=hP;obtain⟨o2,e1,q1⟩:=eK (pos:=x) (Ϛ:=Ϛ) (e:=e) (pos0:=pos0) f.1 e0 ⟨p1,p2,Z2,p4⟩;refine⟨Ϝ,o2,Ev.step 1 (λn=>(rfl:_=KD n (DP n) (Ja (DP n) x ((a+F o:U):E) Ϛ e q tree (F tree) pos0 n) x ((a+F o:U):E) Ϛ e q tree (F tree) pos0))<|Ev.eq e1 λn=>?_,q1⟩;unfold KD;rw[zAA Z2,zAI,zAB ⟨Z2,Z2⟩];simp only[u8,P];rfl
   rcases UR i w j with⟨y,rfl⟩|⟨_,h⟩
   ·rcases j with⟨_,rfl⟩|⟨z,_⟩
    ·rw[Zu i.len256.1]at k;cases k
    ·rw[y]at z;cases z
   ·exact md h i t a J.left key
def zPb(h:BC q p)(b:Sr q V p l)(hl:F l<=65536)(Af:l≠[]):∃Ϝ o,Ev (λn=>SX n q p (l.map (·.1))) (Ϝ,o,0)/\F Ϝ<=65536/\LD Ϝ=Dh l/\∀x∈Ϝ,F x.2.1<=256:=by
 have lb:(256:U)<=LB:=Z6
 have c:(1000000000000:U)=Av:=rfl;have ED:=h.len256;obtain⟨tree,v⟩:∃tree,tree=l.map (·.1):=⟨_,rfl⟩;have htl:F tree=F l:=by rw[v,zAS]
 rw[←v];obtain⟨Ϝ,o,⟨N,I⟩,e,u,g3,g4,t⟩:=zEM (pos0:=p) (tree:=tree) Z2 (F l) l p 0 0 (zAf _) h b (zAf _) Z2 ⟨[],by rw[v];simp⟩ (d (F tree) 0) zKR;have I:∀n,N<=n->DP n p 0 0 (d (F tree) 0) q tree (F tree) p=Z (Ϝ,Z ((0+F l:U):E),o):=I
 have a:∀n,D0 q+F p+1<=n->Qp n q p tree=Z 0:=λn s=>by
  unfold Qp kA;rw[ay h.fit Z2,zAD,dX h.fit Z2 Z2 Z2];have:EI q p=0:=h.check;rw[this,h.valid];have:H ((F tree:E)>65536)=D:=zAF Z2;simp only[this];rfl
 refine⟨Ϝ,o,⟨N+D0 q+F p+1,λn s=>?_⟩,Z2,u,t⟩
 show SX n q p tree=_
 unfold SX;rw[a n Z2,zAD]
 show C _ _ V=_
 have j:YI n (d (F tree) 0) q tree (F tree) p=Z (Ϝ,Z (),o):=by
  unfold YI fG;rw[I n Z2]
  show(L (((0+F l:U):E)==(F tree:E)) _ (_:A<|YR BG Unit Ξ)).map _=_
  rw[zB1.2 Z2,zAI];simp
 rw[zAB ⟨rfl,Z2,Z2⟩,j,zAD,zAB ⟨e.symm,by rw[←c];show F Ϝ<=_;omega⟩];rfl
end
section
set_option maxRecDepth 100000
set_option maxHeartbeats 40000000
def zN5(g:O<|Ξ×Ξ×E)(Q:E):DH:=[oC [.ints<|(M g Q.toNat ξ).1,.ints<|(M g Q.toNat ξ).2.1,.i<|(M g Q.toNat ξ).2.2]]
inductive jA where
 |l1 (A4:E) (HQ:O (Ξ×Ξ×E)) (ND GJ:E)
def Sk(n:U)(self:jA->X8)(q:AA)(pos:Ξ)(tree:O<|Δ)(v:Ξ)(m:E)(g:O<|Ξ×Ξ×E)(t Q:E):X8:=L (H<|Q<t) (C (0<=Q/\Q<(F g:E)) (L (H<|((F<|(M g Q.toNat ξ).2.1:U):E)>0) (C (AI<|m+1) ((QJ n (M g Q.toNat ξ).2.1 v).bind λf=>L (!f) (Z (D,0))<|C (AI<|Q+1) (self<|.l1 (m+1) g t<|Q+1) V) V)<|C (AI<|Q+1) (self<|.l1 m g t<|Q+1) V) V)<|Z (m==C ((F v:E)<1) (F v:E) 1,0)
def zRl(n:U)(self:jA->X8)(q:AA)(pos:Ξ)(tree:O<|Δ)(AD:Ξ):X8:=(SX n q pos tree).bind λf=>L (f.2.2==280) (Z (D,0))<|L (f.2.2 != 0) (Z (D,f.2.2))<|self<|.l1 0 f.1 (F f.1:E) 0
def M9(q:AA)(pos:Ξ)(tree:O<|Δ)(v:Ξ):U->jA->X8
 |0,_=>V
 |n+1,.l1 m g t Q=>Sk n (M9 q pos tree v n) q pos tree v m g t Q
def Jo(n:U)(q:AA)(pos:Ξ)(tree:O<|Δ)(v:Ξ):X8:=zRl n (M9 q pos tree v n) q pos tree v
def zRn(n ϙ:U)(N:Yd 0)(q:AA)(pos:Ξ)(tree:O<|Δ)(v:Ξ)(r:ζ×E):jA->Prop:=px n ϙ η N (FQ Tryz.f8 0 (.tup 2<|L1 [.bool r.1,.i r.2]) []) (AZ Tryz.f8) λ
 | .l1 m g t Q=>(0,0,AF 51 [(3,.ints v),(12,.i m),(28,.sl 3 (F g)<|AM (λ(x:Ξ×Ξ×E)=>[.ints x.1,.ints x.2.1,.i x.2.2]) g),(29,.i t),(30,.i Q)],[])
def zRo(ϙ:U)(N:Yd 0)(q:AA)(pos:Ξ)(tree:O<|Δ)(v:Ξ):Al (M9 q pos tree v) (zRn · ϙ N q pos tree v):=ia (λ_=>rfl) λn I G r h=>by
 cases G
 case l1 A4 HQ ND GJ=>
  intro b a;refine rd a λb a=>?_
  revert r;apply gO;exact bi 31 (gi (jt (bi 37 (gw 39 (cf qW (zN5 HQ GJ) λ_=>bi 44 (lE AC [8,9] []) (gw 45 (lG AC [] (I _ _ · b a))))) (gw 45 (lG AC [] (I _ _ · b a))))))<|lE AC [8,9] []
def Kb{n:U}{q:AA}{pos:Ξ}{tree:O Δ}{v:Ξ}{r:ζ×E}(h:Jo n q pos tree v=Z r):EQ 8 [.agg 5<|L1<|AG q,.ints pos,.sl 2 (F tree)<|AM Az tree,.ints v] [] (.tup 2<|L1 [.bool r.1,.i r.2]) [] T:=by
 refine ot Tryz.func8 λϙ N=>?_
 revert r;apply gO;exact cf zPc [oC<|AG q] λ_=>bi 24 (lE AC [8,9] []) (bi 26 (lE AC [8,9] []) (lN AC [] ((zRo ϙ N q pos tree v n) _ _ · n χ)))
end
section
variable{q:AA}{pos g:Ξ}{tree:O Δ}
def QR(l:O BG)(g:Ξ):ζ:=l.all (λx=>x.2.1.isEmpty||H (x.2.1=g))&&H (l.countP (λx=>!x.2.1.isEmpty)=min (F g) 1)
def zRm{l:O BG}{o:Ξ}{c:E}(h:Ev (λn=>SX n q pos tree) (l,o,c))(hl:F l<=65536)(z:∀x∈l,F x.2.1<=256):Ev (λn=>Jo n q pos tree g)<|C (c=280) (D,0)<|C (c≠0) (D,c) (QR l g,0):=by
 have lb:(256:U)<=LB:=Z6
 have G:C ((F g:E)<1) (F g:E) 1=((min (F g) 1:U):E):=by split <;> omega
 have key:∀(k j a:U),j+k=F l->a<=j->Ev (λn=>M9 q pos tree g n<|.l1 (a:E) l (F l:E) (j:E)) ((l.drop j).all (λx=>x.2.1.isEmpty||H (x.2.1=g))&&H (a+(l.drop j).countP (λx=>!x.2.1.isEmpty)=min (F g) 1),0):=by
  intro k
  induction k with
  |zero=>
   intro j a e P;refine Ev.one λn=>?_
   show Sk n (M9 q pos tree g n) q pos tree g (a:E) l (F l:E) (j:E)=_
   unfold Sk;rw[zAF Z2,zAJ,List.drop_of_length_le Z2,G]
   have:((a:E)==((min (F g) 1:U):E))=H (a=min (F g) 1):=by
    rw[zMq,zB1,zB0];omega
   rw[this];simp;rfl
  |succ k v=>
   intro j a e P;have p:j<F l:=Z2
   have Q:M l j ξ=l[j]:=by simp[p]
   rw[zBz p,zPD,List.countP_cons];have w:AI<|(j:E)+1:=Ae.2 ⟨Z2,Z2⟩;have I:AI<|(a:E)+1:=Ae.2 ⟨Z2,Z2⟩;cases r:(l[j]).2.1 with
   |nil=>
    refine AX.ev (AX.one λn=>?_) (Ev.eq (v (j+1) a Z2 Z2) λn=>rfl)|>λh=>by simpa using h
    show Sk n (M9 q pos tree g n) q pos tree g (a:E) l (F l:E) (j:E)=_
    unfold Sk;rw[zAA Z2,zAI,zAB ⟨Z2,Z2⟩,u8,Q,r]
    show(L (H<|(0:E)>0) _<|C (AI<|(j:E)+1) _ V)=_
    rw[zAF (show¬(0:E)>0 by decide),zAJ,zAB w];rfl
   |cons y t=>
    have ED:F (y::t)<=256:=by rw[←r];exact z _<|zOz p
    have step:∀n,300<=n->M9 q pos tree g (n+1) (.l1 (a:E) l (F l:E) (j:E))=L (!H (y::t=g)) (Z (D,0)) (M9 q pos tree g n<|.l1 ((a+1:U):E) l (F l:E) ((j+1:U):E)):=λn s=>by
     show Sk n (M9 q pos tree g n) q pos tree g (a:E) l (F l:E) (j:E)=_
     unfold Sk;rw[zAA Z2,zAI,zAB ⟨Z2,Z2⟩,u8,Q,r,zAA (by rw[zDM];omega),zAI,zAB I,qX Z2 Z2,zAD,zAB w];rfl
    by_cases u:y::t=g
    ·have:=AX.ev (AX.oneN 300 λn s=>by rw[step n s,zAA u];rfl)<|v (j+1) (a+1) Z2 Z2;rw[zAA u];simp only[List.isEmpty_cons,Bool.or_true,zMd,zOA,zN6];rw[show a+((l.drop<|j+1).countP (λx=>!x.2.1.isEmpty)+1)=a+1+(l.drop<|j+1).countP (λx=>!x.2.1.isEmpty) by omega];exact this
    ·refine Ev.oneN 300 λn s=>?_
     rw[step n s,zAF u];simp
 refine Ev.eq (Ev.bind h (b:=λn f=>L (f.2.2==280) (Z (D,0))<|L (f.2.2 != 0) (Z (D,f.2.2))<|M9 q pos tree g n<|.l1 0 f.1 (F f.1:E) 0) ?_) λn=>rfl
 by_cases i:c=280
 ·rw[zAB i];refine Ev.now λn=>?_
  show L (c==280) _ _=_
  rw[zB1.2 i,zAI]
 rw[zAt i]
 by_cases m:c=0
 ·rw[zAt<|by simpa using m];subst m;have:=key (F l) 0 0 Z2 Z2;rw[zMy,zCx]at this;exact this
 ·rw[zAB m];refine Ev.now λn=>?_
  show(L (c==280) _<|L (c != 0) _ _)=_
  rw[zMS.2 i,zAJ,zOF.2 m,zAI]
end
theorem zFS{a b:Ξ}{n:U}(hl:F a<=LB)(s:F a<n):same n a b=Z (H<|a=b):=by
 have hb:LB<=9223372036854775806:=Z6
 unfold same u9
 by_cases p:F a=F b
 ·have e:((F a:E) != (F b:E))=D:=by rw[p];simp
  rw[e,zAJ]
  have key:∀(k i n:U),i+k=F a->k+1<=n->Tv a b n (.l1 (i:E))=Z (H<|a.drop i=b.drop i):=by
   intro k
   induction k with
   |zero=>
    intro i n e s;obtain⟨n,rfl⟩:∃k,n=k+1:=⟨n-1,Z2⟩
    simp_all[cJ,Tv]
   |succ k c=>
    intro i n e s;obtain⟨n,rfl⟩:∃k,n=k+1:=⟨n-1,Z2⟩;have hi:i<F a:=Z2
    have Q:i<F b:=Z2
    have Ϛ:∀{l:Ξ},i<F l->l.drop i=M l i 0::l.drop (i+1):=λ{l} h=>by
     simp_all
    have:=c (i+1) n Z2 Z2
    show cJ n (Tv a b n) a b (i:E)=_
    unfold cJ;rw[zAA Z2,zAI,zAB ⟨⟨Z2,Z2⟩,Z2,Z2⟩,u8,zAB<|Ae.2 ⟨Z2,Z2⟩,Ϛ hi,Ϛ Q]
    by_cases h:M a i 0=M b i 0
    ·have:(M a i 0 != M b i 0)=D:=by rw[h];simp
     rw[this,zAJ];refine Eq.trans (by assumption) ?_;rw[h];simp
    ·have:(M a i 0 != M b i 0)=T:=by simpa using h
     rw[this,zAI,zAF λe=>h (List.cons.inj e).1]
  grind
 ·have e:((F a:E) != (F b:E))=T:=Z7
  rw[e,zAI,zAF λh=>p<|by rw[h]]
section
set_option maxRecDepth 100000
set_option maxHeartbeats 40000000
def yi(n:U)(q:AA)(pos G:Ξ):A ζ:=(Wr n).bind λc=>L (!c) (Z D)<|(kr n q pos).bind λa=>L (!a.2) (Z T)<|L (H<|(F a.1:E)>1) (Z T)<|L (H<|(F G:E)>100) (Z T)<|(Lf n q pos 60000).bind λy3=>L (y3.2.2 != 0) (Z D)<|L ((F y3.1:E) != (F a.1:E)) (Z D)<|L (H<|(F y3.2.1:E)>65536) (Z D)<|L ((F a.1:E)==1) (C ((0:E)<=0/\0<(F a.1:E)) ((Jo n q pos y3.2.1<|M a.1 0 []).bind λb=>(Jo n q pos y3.2.1 G).bind λh=>L b.1 (L (b.2==0) (L (h.2==0) ((same n (M a.1 0 []) G).bind λf=>Z<|h.1==f)<|Z D)<|Z D)<|Z D) V)<|(Jo n q pos y3.2.1 ([]:Ξ)).bind λb=>(Jo n q pos y3.2.1 G).bind λh=>L b.1 (L (b.2==0) (L (h.2==0) ((same n ([]:Ξ) G).bind λf=>Z<|h.1==f)<|Z D)<|Z D)<|Z D
def nT(n:U)(q:AA)(pos G:Ξ):A ζ:=yi n q pos G
def zLI{n:U}{q:AA}{pos G:Ξ}{r:ζ}(h:nT n q pos G=Z r):EQ 5 [.agg 5<|L1<|AG q,.ints pos,.ints G] [] (.bool r) [] T:=by
 unfold nT yi at h;refine ot Tryz.func5 λϙ N=>?_
 revert r;apply gO;exact cn λy1 P=>jc (fb (Wq P) [oC<|AG q])<|bj 18 (λ_=>lE AC [6] []) λa=>cn λy2 x=>jc (fb (Wd x) [oC<|AG q])<|bj 26 (λ_=>lE AC [6] []) λb=>bj 30 (λ_=>lE AC [6] []) λe=>bj 35 (λ_=>lE AC [6] []) λK=>cn λy3 c=>jc (fb (M1 c) [oC<|AG q])<|bj 45 (λ_=>lE AC [6] []) λf=>bj 51 (λ_=>lE AC [6] []) λp=>bj 56 (λ_=>lE AC [6] []) λi=>bj 60 (λt=>gn λj=>jg j<|cn λk LE=>jc (fb (Kb LE) [oC<|AG q])<|cn λl g=>jc (fb (Kb g) [oC<|AG q])<|bn (λW=>rO<|jc (fb (Wq P) [oC<|AG q])<|jb 18 a<|jc (fb (Wd x) [oC<|AG q])<|jb 26 b<|jb 30 e<|jb 35 K<|jc (fb (M1 c) [oC<|AG q])<|jb 45 f<|jb 51 p<|jb 56 i<|jb 60 t<|jg j<|jc (fb (Kb LE) [oC<|AG q])<|jb 70 W<|jc (fb (Kb g) [oC<|AG q])<|bi 83 (bi 87 (cf lK [oC<|AG q] λ_=>lE AC [6] [])<|lE AC [6] [])<|lE AC [6] []) λW=>rO<|jc (fb (Wq P) [oC<|AG q])<|jb 18 a<|jc (fb (Wd x) [oC<|AG q])<|jb 26 b<|jb 30 e<|jb 35 K<|jc (fb (M1 c) [oC<|AG q])<|jb 45 f<|jb 51 p<|jb 56 i<|jb 60 t<|jg j<|jc (fb (Kb LE) [oC<|AG q])<|jb 70 W<|jc (fb (Kb g) [oC<|AG q])<|lE AC [6] []) λt=>cn λk LE=>jc (sb [.agg 5<|L1<|AG q,.ints pos,.sl 2 (F y3.2.1)<|AM Az y3.2.1,.nils] (Kb LE) [oC<|AG q] ⟨Ad.plain Z5,Ad.plain Z5,Ad.plain Z5,Ad.nils,trivial⟩)<|cn λl g=>jc (fb (Kb g) [oC<|AG q])<|bn (λW=>rO<|jc (fb (Wq P) [oC<|AG q])<|jb 18 a<|jc (fb (Wd x) [oC<|AG q])<|jb 26 b<|jb 30 e<|jb 35 K<|jc (fb (M1 c) [oC<|AG q])<|jb 45 f<|jb 51 p<|jb 56 i<|jb 60 t<|jc (sb [.agg 5<|L1<|AG q,.ints pos,.sl 2 (F y3.2.1)<|AM Az y3.2.1,.nils] (Kb LE) [oC<|AG q] ⟨Ad.plain Z5,Ad.plain Z5,Ad.plain Z5,Ad.nils,trivial⟩)<|jb 70 W<|jc (fb (Kb g) [oC<|AG q])<|bi 83 (bi 87 (cn λy6 y=>jc (sb [.nils,.ints G] (lK y) [oC<|AG q] ⟨Ad.nils,Ad.plain Z5,trivial⟩)<|lE AC [6] [])<|lE AC [6] [])<|lE AC [6] []) λW=>rO<|jc (fb (Wq P) [oC<|AG q])<|jb 18 a<|jc (fb (Wd x) [oC<|AG q])<|jb 26 b<|jb 30 e<|jb 35 K<|jc (fb (M1 c) [oC<|AG q])<|jb 45 f<|jb 51 p<|jb 56 i<|jb 60 t<|jc (sb [.agg 5<|L1<|AG q,.ints pos,.sl 2 (F y3.2.1)<|AM Az y3.2.1,.nils] (Kb LE) [oC<|AG q] ⟨Ad.plain Z5,Ad.plain Z5,Ad.plain Z5,Ad.nils,trivial⟩)<|jb 70 W<|jc (fb (Kb g) [oC<|AG q])<|lE AC [6] []
end
def oB{most:E}:∀(l:O BU) (gs:O Ξ) (t:O<|Δ),(FH most l gs t).2.2=D->(FH most l gs t).2.1=t++l.map (·.1)
 |[],gs,t,_=>by simp[FH]
 |x::l,gs,t,h=>by
  have a:=oB (most:=most) l (gs++[x.2])<|t++[x.1];have b:=oB (most:=most) l gs<|t++[x.1];unfold FH at h⊢;split at h
  ·rename_i R;rw[zAB R];split at h
   ·cases h
   ·rename_i X;rw[zAt X,a h];simp
  ·rename_i R;rw[zAt R,b h];simp
def i8{l:O BG}{g:Ξ}:QR l g=((LD l).all (λx=>decide (x=g))&&H (F (LD l)=min (F g) 1)):=by
 unfold QR LD;rw[zAS,←zMP,List.all_map,List.all_filter]
 congr 1
 refine congrArg (List.all l)<|funext λx=>?_;simp
def zK2{α:Type}{ϑ W:O α}(h:F ϑ=F W)(a:F W<=1)(z:∀x∈ϑ,x∈W):ϑ=W:=by
 match ϑ,W with
 |[],[]=>rfl
 |[u],[v]=>rw[zCr.1<|z u<|zCr.2 rfl]
 |[],_::_=>simp at h
 |_::_,[]=>simp at h
 |_::_::_,[_]=>simp at h
 |_::_,_::_::_=>simp at a
section
variable{q:AA}{pos:Ξ}
def zLH(q:AA)(pos G:Ξ)(Q:DT q)(S:Qf q)(X:F pos<=LB):Ev (λn=>nT n q pos G) T:=by
 obtain⟨r,Y,w⟩:=zEp Q S X;obtain⟨W,b⟩:=r;refine Ev.bind zFR<|Ev.bind Y ?_;cases b with
 |false=>exact Ev.now λn=>rfl
 |true=>
  obtain⟨j,s,w1,w2,t⟩:=w rfl;have t:∀g,g∈W↔MP q g/\WI g pos:=t;have ED:=j.len256
  by_cases N:F W<=1
  rotate_left
  ·refine Ev.now λn=>?_
   show L (H<|(F W:E)>1) (Z T) _=Z T
   rw[zAA Z2,zAI]
  by_cases h100:F G<=100
  rotate_left
  ·refine Ev.now λn=>?_
   show(L (H<|(F W:E)>1) (Z T)<|L (H<|(F G:E)>100) (Z T) _)=Z T
   rw[zAF Z2,zAJ,zAA Z2,zAI]
  obtain⟨l,I,l2,l3,J,l5⟩:=zEL j s;obtain⟨l',s1,y⟩:=xj j;obtain rfl:=Ev.uniq y I;have lD:F (Dh l')=F W:=(zEo j J w rfl).2;have K:Dh l'=W:=zK2 lD N λx p=>(t x).2<|(J.mem x).1 p
  obtain⟨R,y,e2,e3,_⟩:=zJd (l:=l') (k:=2) Z6 l3;have y:PQ 2 l' 60000=Z R:=y
  have hR:R=FH 2 l' [] []:=by
   unfold PQ at y;split at y
   ·exact(zAN y).symm
   ·cases y
  have u:R.2.2=D:=by rw[e3];exact zAF Z2
  have hT:R.2.1=l'.map (·.1):=by
   rw[hR]at u⊢;rw[oB l' [] [] u];rfl
  have z:Ev (λn=>Lf n q pos 60000) (W,l'.map (·.1),0):=by
   have:=zPv j I (f:=60000) Z6;rw[y]at this;have this:Ev (λn=>Lf n q pos 60000) (R.1,C (R.2.2=T) [] R.2.1,0):=this;have e:R.1=W:=by rw[e2,List.take_of_length_le Z2,K]
   rw[e,u,hT]at this;exact this
  obtain⟨Ϝ,o,hf,hL,m,p⟩:=zPb j s1 Z2 l2;have m:LD Ϝ=W:=m.trans K;have P:∀g,Ev (λn=>Jo n q pos (l'.map (·.1)) g) (QR Ϝ g,0):=λg=>zRm hf hL p
  have a:∀g:Ξ,F g<=256->QR Ϝ g=T->QR Ϝ G=H (g=G)->Ev (λn=>(Jo n q pos (l'.map (·.1)) g).bind λc=>(Jo n q pos (l'.map (·.1)) G).bind λh=>L c.1 (L (c.2==0) (L (h.2==0) ((same n g G).bind λi=>Z<|h.1==i)<|Z D)<|Z D)<|Z D) T:=λg s c1 c2=>by
   refine Ev.bind (P g)<|Ev.bind (P G)<|Ev.from 300 λn hn=>?_
   show(L (QR Ϝ g) ((same n g G).bind λi=>Z<|QR Ϝ G==i)<|Z D)=Z T
   obtain⟨k,rfl⟩:∃k,n=k+1:=⟨n-1,Z2⟩;rw[c1,zAI,zFS (zAO s Z6) Z2,zAD,c2,zTX]
  have Aj:H ((F (l'.map (·.1)):E)>65536)=D:=zAF (by rw[zAS];omega);refine Ev.eq (Ev.bind z (b:=λn y3=>L (y3.2.2 != 0) (Z D)<|L ((F y3.1:E) != (F W:E)) (Z D)<|L (H<|(F y3.2.1:E)>65536) (Z D)<|L ((F W:E)==1) (C ((0:E)<=0/\0<(F W:E)) ((Jo n q pos y3.2.1<|M W 0 []).bind λc=>(Jo n q pos y3.2.1 G).bind λh=>L c.1 (L (c.2==0) (L (h.2==0) ((same n (M W 0 []) G).bind λi=>Z<|h.1==i)<|Z D)<|Z D)<|Z D) V)<|(Jo n q pos y3.2.1 ([]:Ξ)).bind λc=>(Jo n q pos y3.2.1 G).bind λh=>L c.1 (L (c.2==0) (L (h.2==0) ((same n ([]:Ξ) G).bind λi=>Z<|h.1==i)<|Z D)<|Z D)<|Z D) ?_) λn=>?_
  rotate_left
  ·show(L (H<|(F W:E)>1) (Z T)<|L (H<|(F G:E)>100) (Z T) _)=_
   rw[zAF (show¬(F W:E)>1 by omega),zAJ,zAF (show¬(F G:E)>100 by omega),zAJ]
  have e0:∀(ϕ:A ζ),(L ((0:E) != 0) (Z D) (L ((F W:E) != (F W:E)) (Z D) (L (H ((F (l'.map (·.1)):E)>65536)) (Z D) ϕ)))=ϕ:=λϕ=>by
   rw[zT0,zAJ,zT0,zAJ,Aj,zAJ]
  refine Ev.eq ?_ λn=>e0 _
  rcases W with _|⟨g,_|⟨g2,W⟩⟩
  ·refine a [] Z6 ?_ ?_
   ·rw[i8,m];rfl
   ·rw[i8,m];cases G <;> simp
  ·have v:=(t g).1<|zCr.2 rfl;have Gi:F g=F pos:=v.2.1
   refine Ev.eq (a g Z2 ?_ ?_) λn=>by
    show C ((0:E)<=0/\0<(F ([g]:O Ξ):E)) _ V=_
    rw[zAB ⟨zCs _,Int.zero_lt_one⟩];rfl
   ·rw[i8,m];simp;omega
   ·rw[i8,m]
    by_cases e:g=G
    ·subst e;simp;omega
    ·simp[e]
  ·simp at N
end
end Go.Proofs.YtnkpdcmbppkkpaaGreatDoor
