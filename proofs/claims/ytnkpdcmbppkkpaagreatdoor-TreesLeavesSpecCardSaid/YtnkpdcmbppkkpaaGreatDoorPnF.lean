/- Part 6 of 8 of what the proofs of these laws stand on. -/
import Derived.Test.YtnkpdcmbppkkpaaGreatDoorPnE
import Derived.RangeFuncLeaves
import Derived.RecoverIn
set_option linter.all false
open And renaming intro->γ
open Bool renaming true->D,false->T
open Decidable renaming decide->C
open Eq renaming refl->φ
open Go renaming World->κ,Value->μ,Program->ν,TypeId->ψ,execOp->ω
open Go.Fence renaming wide->η
open Go.Proofs.Tryz renaming prog->L
open Inhabited renaming default->ξ
open List renaming length->F,getD->H,replicate->d,range->θ
open Nat.le renaming refl->χ
open Option renaming none->A,some->Z
open _root_ renaming cond->B,Nat->E,Option->M,List->O,Int->U,ite->u,Bool->ζ,absurd->τ,Array->υ
namespace Go.Proofs.YtnkpdcmbppkkpaaGreatDoor
open Go.RowKit
def AL.pl{ϕ M':Ψ}{w:κ}(I:∀b,M' b->ϕ b){ρ ρ':O AN}(X:∀(k:E) (p:AN),ρ[k]?=Z p->∃q,ρ'[k]?=Z { p with foot:=q }):∀(Ϛ:DV) {v:μ},AL ϕ w Ϛ ρ v->AL M' w Ϛ ρ' v:=by
 have low:∀(Ϛ:DV) {v:μ},AL ϕ w Ϛ [] v->AL M' w Ϛ [] v:=λϚ v h=>h.out Ϛ ⟨λ_ _ _ _=>rfl,λb J=>.inl<|I b J,λk p K=>by simp at K⟩
 intro Ϛ
 induction Ϛ with
 |any=>intro v _;trivial
 |nils=>intro v h;exact h
 |int k n=>intro v h;exact h
 |bool b=>intro v h;exact h
 |str s=>intro v h;exact h
 |ints l=>intro v h;exact low (.ints l) h
 |bools l=>intro v h;exact low (.bools l) h
 |sl m n f _=>intro v h;exact low (.sl m n f) h
 |fp m f _=>intro v h;exact low (.fp m f) h
 |agg m f t=>rintro v ⟨cs,e,x,h⟩;exact⟨cs,e,x,λj y=>let⟨ϛ,z,G⟩:=h j y;⟨ϛ,z,t j G⟩⟩
 |tup m f t=>rintro v ⟨cs,e,x,h⟩;exact⟨cs,e,x,λj y=>let⟨ϛ,z,G⟩:=h j y;⟨ϛ,z,t j G⟩⟩
 |fn g m c t=>rintro v ⟨cs,e,x,h⟩;exact⟨cs,e,x,λj y=>let⟨ϛ,z,G⟩:=h j y;⟨ϛ,z,t j G⟩⟩
 |ref k j=>rintro v ⟨p,o,e⟩;obtain⟨q,h⟩:=X k p o;exact⟨_,h,e⟩
 |msl k m off n=>rintro v ⟨p,cap,o,r⟩;obtain⟨q,h⟩:=X k p o;exact⟨_,cap,h,r⟩
 |mp k m i j=>rintro v ⟨p,o,e⟩;obtain⟨q,h⟩:=X k p o;exact⟨_,h,e⟩
 |it k=>rintro v ⟨p,o,e⟩;obtain⟨q,h⟩:=X k p o;exact⟨_,h,e⟩
 |yl l=>intro v h;exact h
 |cst ϛ=>intro v h;exact h
 |mri k i=>rintro v ⟨p,vs,o,r⟩;obtain⟨q,h⟩:=X k p o;exact⟨_,vs,h,r⟩
 |mse k m off n=>rintro v ⟨p,a,cap,o,r⟩;obtain⟨q,h⟩:=X k p o;exact⟨_,a,cap,h,r⟩
 |gr k=>rintro v ⟨p,a,n,cap,o,r⟩;obtain⟨q,h⟩:=X k p o;exact⟨_,a,n,cap,h,r⟩
theorem A6.ro{ϙ k:E}{S:St}{l:O DV}(I:S.h[k]?=Z (Z<|.cells l))(hL:ϙ<=k):A6 ϙ S ⟨S.fr,S.h.set k<|Z<|.ro l⟩:=λP Γ N ρ a w R=>by
 obtain⟨p,V,W⟩:=R.hr.obj k _ I;have W:Ai w p (F l) _:=W;obtain⟨xd,IA⟩:=W;have IC:k<F ρ:=(zLB.1 V).1;have hkh:k<F S.h:=(zLB.1 I).1
 let p':AN:={ p with foot:=λ_=>False }
 have X:∀(i:E) (q:AN),(ρ.set k p')[i]?=Z q->(i=k/\q=p')∨(i≠k/\ρ[i]?=Z q):=λi q h=>by
  grind
 have Y:∀(i:E) (q:AN),i≠k->ρ[i]?=Z q->(ρ.set k p')[i]?=Z q:=λi q hi h=>Z4
 have AF:(ρ.set k p')[k]?=Z p':=Z4
 have Gi:∀(i:E) (q:AN),ρ[i]?=Z q->∃ft,(ρ.set k p')[i]?=Z { q with foot:=ft }:=λi q h=>by
  by_cases e:i=k
  ·grind
  ·exact⟨q.foot,Y i q e h⟩
 have z:∀(i:E) (o:DO),(S.h.set k<|Z<|.ro l)[i]?=Z (Z o)->(i=k/\o=.ro l)∨(i≠k/\S.h[i]?=Z (Z o)):=λi o h=>by
  grind
 have LU:∀b,MO (S.h.set k<|Z<|.ro l) (ρ.set k p') b->MO S.h ρ b/\b≠p.blk:=by
  rintro b ⟨i,o,q,J,Q,h3⟩;rcases X i q Q with⟨rfl,rfl⟩|⟨hi,Q⟩
  ·exact h3.elim
  ·rcases z i o J with⟨rfl,_⟩|⟨_,J⟩
   ·exact τ rfl hi
   ·exact⟨⟨i,o,q,J,Q,h3⟩,λe=>R.hr.dis i k o _ q p b hi J I Q V h3<|by rw[xd];exact e⟩
 have G:∀b,MS N (S.h.set k<|Z<|.ro l) (ρ.set k p') b->MS N S.h ρ b:=λb g=>g.imp id λh=>(LU b h).1
 have zNN:=R.hr.cel k _ p p.blk I V (by rw[xd]);have r:∀(Ϛ:DV) {v:μ},AL (MS N S.h ρ) w Ϛ ρ v->AL (MS N (S.h.set k<|Z<|.ro l)<|ρ.set k p') w Ϛ (ρ.set k p') v:=λϚ v h=>h.pl G Gi
 refine⟨ρ.set k p',⟨⟨by simp[R.hr.len],λi o hi=>?_,λi o q b s y t=>?_,λi i' o o' q q' b Ay s y t g4 g5 g6=>?_,R.hr.nlt,R.hr.gi⟩,⟨R.fr.1,λj hj=>r _<|R.fr.2 j hj⟩⟩,⟨AV.refl _ _,λb g=>.inl (LU b g).1⟩,λi q hi hq=>Y i q Z2 hq⟩
 ·rcases z i o hi with⟨rfl,rfl⟩|⟨Ay,hi⟩
  ·refine⟨p',AF,rfl,λhx=>hx.elim zNN.2.1 λhx=>(LU _ hx).2 rfl,?_⟩;exact Ai.out (R':=λj ϛ=>AL (MS N (S.h.set i<|Z<|.ro l)<|ρ.set i p') w (l.getD j .any) (ρ.set i p') ϛ) (show Ai w { p' with foot:=λb=>b=p'.blk } (F l) _ from⟨rfl,IA⟩) rfl λj ϛ _ c=>r _ c
  ·obtain⟨q,hq,K⟩:=R.hr.obj i o hi;refine⟨q,Y i q Ay hq,?_⟩;cases o with
   |cells l'=>exact Ai.out K rfl λj ϛ _ c=>r _ c
   |ints l'=>exact Ai.out K rfl λj ϛ _ c=>c
   |bools l'=>exact Ai.out K rfl λj ϛ _ c=>c
   |arr m n f=>exact Ai.out K rfl λj ϛ _ c=>AL.out _ ⟨λ_ _ _ _=>rfl,λb g=>.inl<|G b g,λ_ _ h=>by simp at h⟩ c
   |gro m n f=>exact Bc.gr K (λ_=>rfl) λc=>AL.out _ ⟨λ_ _ _ _=>rfl,λb g=>.inl<|G b g,λ_ _ h=>by simp at h⟩ c
   |iter encs=>
    obtain⟨gf,lb,Rd,q1,q2,q3,q4⟩:=K;exact⟨gf,lb,Rd,q1,q2,λb g=>⟨λhm=>(q3 b g).1<|G b hm,(q3 b g).2⟩,q4⟩
   |ro l'=>
    obtain⟨r1,r2,r3⟩:=K;exact⟨r1,λhm=>r2<|G _ hm,Ai.out r3 rfl λj ϛ _ c=>r _ c⟩
   |mo x=>exact K
 ·rcases X i q y with⟨rfl,rfl⟩|⟨hi,y⟩
  ·exact t.elim
  ·rcases z i o s with⟨rfl,_⟩|⟨_,s⟩
   ·exact τ rfl hi
   ·exact R.hr.cel i o q b s y t
 ·rcases X i q t with⟨rfl,rfl⟩|⟨hi,t⟩
  ·exact g5.elim
  ·rcases X i' q' g4 with⟨rfl,rfl⟩|⟨B6,g4⟩
   ·exact g6.elim
   ·rcases z i o s with⟨rfl,_⟩|⟨_,s⟩
    ·exact τ rfl hi
    ·rcases z i' o' y with⟨rfl,_⟩|⟨_,y⟩
     ·exact τ rfl B6
     ·exact R.hr.dis i i' o o' q q' b Ay s y t g4 g5 g6
section
theorem fU{h1 h:DH}(hS:h1.take (F h)=h):h1=h++h1.drop (F h):=by
 grind[List.take_append_drop]
section
variable{ϙ:E}{k K:O KI}{S:St}{ops:υ Oper}
 {c:O (DV×DH×ζ)} {o:O (E×DV)} {z:O (E×Fz)} {v:O Prop} {fr:O DV} {h h1:DH} {l l1 l2:Θ} {p:E} {dst:M Tmp}
variable{Y:BR L GG ϙ}
def OA{Q:QY L GG ϙ}{e:O PanicEntry}(h:Q (.panic e) S Y):∀(k:O KI),Dp L GG η A ϙ Q k (.panic e) S Y
 |[]=>h
 | .blk _::k=>OA h k
 | .code _::k=>OA h k
 | .lend _::k=>OA h k
 | .scp::k=>OA h k
 | .loopN _ _::k=>OA h k
def bv(ϙ:E)(h:DH):DH:=(θ ϙ).map λk=>No (θ ϙ)<|h.getD k A
def ao:O KI->M (υ Oper×O KI)
 | .code (.region _ ops D)::k=>Z (ops,k)
 |_=>A
def cJ(Q:Θ)(r:St×O Prop×BM):O DV×DH×O Prop:=(forget Q r.1.fr,r.1.h,r.2.1)
variable{Q:Θ}
theorem vI{x:M (St×O Prop×BM)}(h:x.map (cJ Q)=Z (fr,h1,v)):∃f a,x=Z (⟨f,h1⟩,v,a)/\fr=forget Q f:=by
 cases x with
 |none=>cases h
 |some q=>
  obtain⟨⟨f,g⟩,w,a⟩:=q
  simp_all[cJ]
variable{S':St}
def Do.weaken{Q:QY L GG ϙ}(e:A6 ϙ S S')(f:Do L GG Y ops l S' Q):Do L GG Y ops l S Q:=λN ρ a w R y m=>by
 obtain⟨ρ1,X,b,q⟩:=e L GG N ρ a w R;exact f N ρ1 a w X (Y.st y R.hr X.hr b q) m
theorem Zu{f:O DV}{Ϛ:DV}(J:fr=forget Q f):A6 ϙ ⟨Ct f dst Ϛ,h⟩ ⟨Ct fr dst Ϛ,h⟩:=by
 subst J;cases dst with
 |none=>exact A6.forget Q f h
 |some t=>
  refine A6.fr (by simp[Ct,Xu]) λj l=>?_
  have l:j<F f:=by simpa[Ct]using l
  show AO ((f.set t Ϛ).getD j .any) (((forget Q f).set t Ϛ).getD j .any)
  by_cases e:t=j
  ·grind[Xu,AO.refl]
  ·have e1:(f.set t Ϛ).getD j .any=f.getD j .any:=Z4
   have e2:((forget Q f).set t Ϛ).getD j .any=(forget Q f).getD j .any:=Z4
   grind[nk,AO.refl,AO.any]
def eE:O KI->ζ
 | .code _::_=>D
 | .blk _::k=>eE k
 | .scp::k=>eE k
 | .loopN _ _::_=>D
 |_=>T
def A2.leH{ϖ:Fence}{Ϝ:W0}{Q:QY L GG ϙ}(a:A6 ϙ S S'):∀{k:O KI},eE k=D->A2 L GG ϖ Ϝ ϙ Y Q k S'->A2 L GG ϖ Ϝ ϙ Y Q k S
 | .code _::_,_,h=>Tr.weaken a h
 | .blk _::k,e,h=>A2.leH (k:=k) a e h
 | .scp::k,e,h=>A2.leH (k:=k) a e h
 | .loopN 0 _::_,_,h=>h.elim
 | .loopN (_+1) _::_,_,h=>Tr.weaken a h
 | .lend _::_,e,_=>by cases e
 |[],e,_=>by cases e
def QG(Q:Θ)(r:FuncId×O DV×M Tmp×St×O Prop×BM):FuncId×O DV×M Tmp×O DV×DH×O Prop:=(r.1,r.2.1,r.2.2.1,forget Q r.2.2.2.1.fr,r.2.2.2.1.h,r.2.2.2.2.1)
variable{ds:O DV}{g:FuncId}
theorem kf{x:M (FuncId×O DV×M Tmp×St×O Prop×BM)}(h:x.map (QG Q)=Z (g,ds,dst,fr,h1,v)):∃f a,x=Z (g,ds,dst,⟨f,h1⟩,v,a)/\fr=forget Q f:=by
 cases x with
 |none=>cases h
 |some q=>
  obtain⟨g,ds,dst,⟨f,g'⟩,w,a⟩:=q
  simp_all[QG]
def kg(Q:Θ)(r:O DV×E×M Tmp×St×O Prop×BM):O DV×E×M Tmp×O DV×DH×O Prop:=(r.1,r.2.1,r.2.2.1,forget Q r.2.2.2.1.fr,r.2.2.2.1.h,r.2.2.2.2.1)
theorem zIO{x:M (O DV×E×M Tmp×St×O Prop×BM)}{g:O DV}{ds:E}(h:x.map (kg Q)=Z (g,ds,dst,fr,h1,v)):∃f a,x=Z (g,ds,dst,⟨f,h1⟩,v,a)/\fr=forget Q f:=by
 cases x with
 |none=>cases h
 |some q=>
  obtain⟨g,ds,dst,⟨f,g'⟩,w,a⟩:=q
  simp_all[kg]
theorem zPO{G:St}{vs:O Prop}{w P:BM}(h:Li L GG ops [] p S w=Z (g,ds,dst,G,vs,P)):G=S:=by
 unfold Li at h;simp only[CV,D1]at h;split at h
 ·cases h
 grind
end
def aR:Θ->DH->M DH
 |[],h=>Z h
 |k::Y,h=>match h.getD k A with
  |some (.cells l)=>aR Y<|h.set k<|Z<|.ro l
  |_=>A
variable{fr:O DV}{ϙ:E}
def A6.ros :∀(Y:Θ) {h h':DH},aR Y h=Z h'->(Y.all λk=>Nat.ble ϙ k)=D->A6 ϙ ⟨fr,h⟩ ⟨fr,h'⟩
 |[],h,h',e,_=>by cases e;exact A6.refl _ _
 |k::Y,h,h',e,f=>by
  simp only[zN0,zAx]at f;simp only[aR]at e;split at e
  ·rename_i l o;exact(A6.ro (S:=⟨fr,h⟩) (getD_some o)<|zKs f.1).trans<|A6.ros Y e f.2
  ·cases e
def pW{Y:BR L GG ϙ}{Q:QY L GG ϙ}{K:O KI}{ϖ:Fence}{Ϝ:W0}{h:DH}(a:Θ)(h':DH)(f:A2 L GG ϖ Ϝ ϙ Y Q K ⟨fr,h'⟩)(e:aR a h=Z h':=by kernel_rfl)(N:(a.all λk=>Nat.ble ϙ k)=D:=by kernel_rfl)(hc:JH K=D:=by kernel_rfl):A2 L GG ϖ Ϝ ϙ Y Q K ⟨fr,h⟩:=
 BV.le (A6.ros a e N) hc f
end
abbrev zSJ:=@List.take_left'
section
variable{P:ν}{Γ:A1}{N:Ψ}{ρ:O AN}{w:κ}{hc ϑ:DH}
def hid(K:E)(ϑ:DH):DH:=d K A++ϑ
variable{K:E}
theorem XR{k:E}{o:DO}(h:(hid K ϑ)[k]?=Z (Z o)):K<=k/\∀l:DH,F l=K->(l++ϑ)[k]?=Z (Z o):=by
 rcases zK8 k K with hk|hk
 ·simp_all[hid,zLb]
 grind[hid]
variable{b:E}
theorem MO.hid(h:MO (hid (F hc) ϑ) ρ b):MT (F hc) (hc++ϑ) ρ b:=by
 obtain⟨k,o,p,a,c,m⟩:=h;obtain⟨f,V⟩:=XR a;exact⟨k,o,p,f,V hc rfl,c,m⟩
def MT.mo{h:DH}(x:MT K h ρ b):MO h ρ b:=by
 obtain⟨k,o,p,_,a,c,m⟩:=x;exact⟨k,o,p,a,c,m⟩
theorem A9.hide(ϗ:A9 P Γ N (hc++ϑ) ρ w):A9 P Γ (λb=>N b∨MO hc (ρ.take<|F hc) b) (hid (F hc) ϑ) ρ w:=by
 have l:∀b,MO (hc++ϑ) ρ b↔MO hc (ρ.take<|F hc) b∨MT (F hc) (hc++ϑ) ρ b:=λb=>by
  have:=MO.split (h:=hc++ϑ) (ρ:=ρ) (F hc) b
  rwa[zSJ]at this
  rfl
 have j:∀b,MO hc (ρ.take<|F hc) b->¬MT (F hc) (hc++ϑ) ρ b:=by
  rintro b ⟨k,o,p,W,a,g⟩ ⟨X,o',p',s,y,e,J⟩;rw[zRG]at a;split at a
  ·rename_i f;exact ϗ.dis k X o o' p p' b Z2 Z4 y a e g J
  ·cases a
 have q:∀b,MS (λb=>N b∨MO hc (ρ.take<|F hc) b) (hid (F hc) ϑ) ρ b->MS N (hc++ϑ) ρ b:=λb hb=>by
  rcases hb with(hb|hb)|hb
  ·exact .inl hb
  ·exact .inr<|(l b).2<|.inl hb
  ·exact .inr (MO.hid hb).mo
 refine⟨by rw[ϗ.len];simp[hid],λk o f=>?_,λk o p b s y e=>?_,λi I o o' p p' b n s y e J V r=>ϗ.dis i I o o' p p' b n ((XR s).2 hc rfl) ((XR y).2 hc rfl) e J V r,λb hb=>?_,ϗ.gi⟩
 ·obtain⟨p,v,x⟩:=ϗ.obj k o<|(XR f).2 hc rfl;exact⟨p,v,x.out (Cz q ρ) (S:=λ_=>False) (AV.refl _ _) (λ_ h=>h.elim) λ_ _ _ h=>h⟩
 ·obtain⟨f,Y⟩:=XR s;obtain⟨Q,G,m⟩:=ϗ.cel k o p b (Y hc rfl) y e;exact⟨Q,λhb=>hb.elim G λhb=>j b hb ⟨k,o,p,f,Y hc rfl,y,e⟩,m⟩
 ·rcases hb with hb|hb
  ·exact ϗ.nlt b hb
  ·obtain⟨k,o,p,W,a,g⟩:=(l b).2<|.inl hb;obtain⟨Q,_,c,t,z,m⟩:=ϗ.cel k o p b W a g
   grind
variable{pv:μ}{gf m:E}{cap:E->DV}{Dc:DH}{ys:O (O DV)}{out:M DV}
def zRL(P:ν)(Γ:A1)(pv:μ)(Dc:DH)(ρ0:O AN)(out:M DV)(e:Ending)(G R:Ψ)(W:κ):Prop:=((∃v,e=.returned v/\out.isSome=D)∨(e=.panicked (pan pv)/\out.isSome=T))/\∃b ρ',A9 P Γ b Dc ρ' W/\IY Γ b G R Dc ρ' W/\CA (F ρ0) ρ0 ρ'
theorem YC.iter(ϗ:YC P Γ pv gf (λl=>.yl l::(θ m).map cap) (λ_=>hc) ys out λ_=>Dc)(R:A9 P Γ N (hc++ϑ) ρ w)(r:hc.all (O6<|F hc)=D)(LT:((θ m).map cap).all (Ce<|F hc)=D)
 {s:υ μ} (y:s.size=m) (Ty:∀j,j<m->∃ϛ,s[j]?=Z ϛ/\AL (MS N (hc++ϑ) ρ) w (cap j) ρ ϛ):
 iH True P gf s YV ys (zRL P Γ pv Dc (ρ.take<|F hc) out) (MO hc<|ρ.take<|F hc) (λb=>b<w.heap.size/\¬MS N (hc++ϑ) ρ b) w:=by
 intro l z Jx W hJ hJx q G J Q
 let Ϙ:Bm P:=⟨l,ys,z,Jx,hJ,hJx,G⟩
 obtain⟨I,c⟩:=R.take (K:=F hc) Z3 (by rw[zSJ rfl];exact r);rw[zSJ rfl]at I c;have Cv:Γ.ng<=w.heap.size:=Γ.lo _ R.gi
 have x:AV (λb=>N b∨MT (F hc) (hc++ϑ) ρ b) w W:=q.mono λb f i=>by
  grind[MS]
 have lo:∀b,b<Γ.ng->b<w.heap.size/\¬MS N (hc++ϑ) ρ b:=λb a=>⟨Z2,λi=>by
  have:=(R.lt2 i).2;omega⟩
 have f:∀b,MO hc (ρ.take<|F hc) b->b<w.heap.size:=λb a=>(R.lt2<|(c b).1<|.inr a).1
 have g:∀b,N b∨MT (F hc) (hc++ϑ) ρ b->(N b∨MT (F hc) (hc++ϑ) ρ b)/\Γ.ng<=b:=λb a=>⟨a,(I.nlt b a).2⟩
 have k:∀b,(b<W.heap.size/\¬MO hc (ρ.take<|F hc) b/\¬(b<w.heap.size/\¬MS N (hc++ϑ) ρ b))->(N b∨MT (F hc) (hc++ϑ) ρ b)∨w.heap.size<=b:=λb ⟨_,q2,q3⟩=>by
  grind[MS]
 have S:A9 P Γ (λb=>b<W.heap.size/\¬MO hc (ρ.take<|F hc) b/\¬(b<w.heap.size/\¬MS N (hc++ϑ) ρ b)) hc (ρ.take<|F hc) W:=I.foreign x g k λb a=>⟨a.1,zRb λV=>a.2.2<|lo b V⟩
 have X:BJ (MS (λb=>N b∨MT (F hc) (hc++ϑ) ρ b) hc<|ρ.take<|F hc) w (ρ.take<|F hc) ((θ m).map cap) s:=by
  have e:MS (λb=>N b∨MT (F hc) (hc++ϑ) ρ b) hc (ρ.take<|F hc)=MS N (hc++ϑ) ρ:=funext λb=>propext<|c b
  rw[e];refine BJ.take ⟨by simp[y],λj n=>?_⟩ LT
  simp_all
 have Y:=X.out<|BW.foreign (Γ:=Γ) x g k
 refine(ϗ.2 Ϙ (Q trivial) 0 ⟨[],by simp[Ϙ]⟩ _ _ _ W _ _ S (BJ.append (l:=[.yl Ϙ.l]) (t:=#[.func (.yield l) #[] #[]]) ⟨rfl,λj n=>by
  have:j=0:=Nat.lt_one_iff.1 n;subst this;rfl⟩ Y) J ⟨⟨λb a hr=>hr.2<|(c b).1<|.inr a,λb a=>zI0 (a.elim (f b) λh=>h.1) q.size⟩,lo,λ_ h=>h,λ_=>Iff.rfl⟩).mono ?_
 rintro e w' ⟨N',ρ',G',R',Fv,j',o,kp,p⟩;refine⟨G',R',o.sh,.inl ⟨?_,?_,N',ρ',Fv,o,?_⟩⟩
 ·simpa[Ϙ]using j'
 ·cases out with
  |none=>exact .inr ⟨p,rfl⟩
  |some Ϛ=>obtain⟨v,rfl,_⟩:=p;exact .inl ⟨v,rfl,rfl⟩
 ·have Ap:F (ρ.take<|F hc)=F hc:=by rw[zRg,R.len];simp
  rw[Ap];exact kp
variable{fr:O DV}
theorem zGW{a:Act}{g:Operand}{ps:υ Tmp}{j Y:Code}{J:E->DH->Prop}{KK:E}{Q:Exit->Act->κ->Prop}(R:Ad P Γ N ⟨fr,hc++ϑ⟩ ρ a w)(hg:Ak fr g=.fn gf m cap)
 (ϗ:YC P Γ pv gf (λl=>.yl l::(θ m).map cap) (λ_=>hc) ys out λ_=>Dc) (hl:F Dc=F hc) (BF:hc.all (O6<|F hc)=D) (LT:((θ m).map cap).all (Ce<|F hc)=D)
 (Ek:∀x∈ys,F x=ps.size) (C3:fr.all (Ce KK)=D) (hKK:F hc<=KK) (h0:J 0<|hid (F hc) ϑ) (hJ:∀i h,J i h->∃f,h=hid (F hc) f) (DX:Yr P Γ fr ps.toList j Y KK J (λ_ _=>False) ys)
 (hQ:∀(ϒ:E) (f:DH) (ρ':O AN) (e:Ending) (w':κ),J (F ys) (hid (F hc) f)->Ad P Γ N ⟨fr,Dc++f⟩ ρ' a w'->BD (hc++ϑ) ρ w (Dc++f) ρ' w'->CA KK ρ ρ'->w'.heap[ϒ]?=Z (.deferred<|Z [])->w.heap.size<=ϒ->((∃v,e=.returned v/\out.isSome=D)∨(e=.panicked (pan pv)/\out.isSome=T))->
  match e with
  | .returned _=>Q .normal { a with defers:={ target:=.collected ϒ,args:=#[] }::a.defers } w'
  | .panicked c=>Q (.panic c) { a with defers:={ target:=.collected ϒ,args:=#[] }::a.defers } w'
  | .outgrown=>False):(Code.rangeFunc g ps j Y).wpIn η 0 P Q a w:=by
 have hx:=Bo R g;rw[hg]at hx;obtain⟨lb,hv,hs,Ty⟩:=hx;have HR:A9 P Γ N (hc++ϑ) ρ w:=R.hr;have Cv:Γ.ng<=w.heap.size:=Γ.lo _ HR.gi
 have sp:∀b,MO (hc++ϑ) ρ b↔MO hc (ρ.take<|F hc) b∨MT (F hc) (hc++ϑ) ρ b:=λb=>by
  have:=MO.split (h:=hc++ϑ) (ρ:=ρ) (F hc) b
  rwa[zSJ]at this
  rfl
 have hN:∀b,N b->b<w.heap.size/\¬MO (hc++ϑ) ρ b:=λb hb=>⟨(HR.nlt b hb).1,λ⟨k,o,p,q1,q2,V⟩=>(HR.cel k o p b q1 q2 V).2.1 hb⟩
 have Ao:∀b,MO (hc++ϑ) ρ b->b<w.heap.size/\Γ.ng<=b:=λb hb=>HR.lt2<|.inr hb
 have JL:EH (MO hc<|ρ.take<|F hc) (λb=>b<w.heap.size/\¬MS N (hc++ϑ) ρ b) w:=⟨λb hb s=>s.2<|.inr<|(sp b).2<|.inl hb,λb hb=>hb.elim (λh=>(Ao b<|(sp b).2<|.inl h).1) λh=>h.1⟩
 have eP:RJ P Γ N (hc++ϑ) ρ w KK J 0 (MO hc<|ρ.take<|F hc) (λb=>b<w.heap.size/\¬MS N (hc++ϑ) ρ b) w:=
  ⟨_,ρ,h0,HR.hide,AV.refl _ _,λb hb=>.inl (MO.hid hb).mo,λb hb=>⟨(Ao b<|(sp b).2<|.inl hb).2,.inl<|(sp b).2<|.inl hb⟩,λb hb=>⟨λhn=>hb.2<|.inl hn,λhm=>hb.2<|.inr (MO.hid hm).mo⟩,CA.refl _ _⟩
 have FO:∀i,DJ<|RJ P Γ N (hc++ϑ) ρ w KK J i:=λi G R' G' R2 ο Ϙ ⟨h,ρ',q,h2⟩ q1 q2 V q4 q5 q6=>⟨h,ρ',q,RI.stable Cv hN _ _ _ _ _ _ h2 q1 q2 V q4 q5 q6⟩
 have dl:∀c,DJ<|RX P Γ N (hc++ϑ) ρ w KK (λ_ _=>False) c:=λc G R' G' R2 ο Ϙ ⟨e,he,h,ρ',q,h2⟩ _ _ _ _ _ _=>q.elim
 have eg:∀args w,(callFunc gf args).run P w=.ok (.enter gf args) w:=ϗ.1;refine pd hv eg (ϗ.iter HR BF LT hs Ty).gen JL (λx hx R W args h=>h.1.symm.trans<|Ek x hx) _ _ _ FO dl (λc G R' G' R2 ο Ϙ ⟨h,ρ',q,h2⟩ _ _ _ _ _ _=>q.elim) (λ_ c G R W ⟨e,_,h,ρ',q,_⟩=>q.elim) (λc G R W ⟨h,ρ',q,h2⟩=>q.elim) eP (jv R hN (λ_ h=>h) C3<|DX.p λ_ _=>False) ?_ ?_
 ·rintro ϒ e G R1 own W W' ⟨he,N',ρ',Fv,y',kp⟩ ⟨h,ρ1,q,hR⟩ zLM XH JK hD J6;obtain⟨f,rfl⟩:=hJ _ _ q;have Ap:F (ρ.take<|F hc)=F hc:=by rw[zRg,HR.len];simp
  rw[Ap]at kp;have Cg:F ρ'=F hc:=by rw[Fv.len,hl]
  have Qg:F ρ1=F hc+F f:=by rw[hR.hr.len];simp[hid]
  have eqp:∀k,k<F hc->∃p,ρ'[k]?=Z p/\ρ1[k]?=Z p:=λk hk=>by
   have IC:k<F ρ:=by rw[HR.len];simp;omega
   have e1:ρ[k]?=Z ρ[k]:=zKA IC;exact⟨ρ[k],kp k _ hk Z4,hR.kept k _ Z2 e1⟩
  have vH:∀b,own b->b<W.heap.size->N' b:=λb hb hl=>(y'.n b).2 ⟨hl,XH b hb,λs=>zLM.dis b (.inr hb) s⟩
  have gN:∀b,N b->¬G b:=λb hb hg=>(hR.g b<|.inl hg).2.elim (hN b hb).2 (by have:=(hN b hb).1;omega)
  have k8:∀{b},MO (Dc++f) ρ1 b->MO Dc ρ' b∨MO (hid (F hc) f) ρ1 b:=by
   rintro b ⟨k,o,p,q1,q2,V⟩;rcases zK8 k (F hc)with hk|hk
   ·obtain⟨p',e1,e2⟩:=eqp k hk;rw[e2]at q2;cases q2;exact .inl ⟨k,o,p,Z4,e1,V⟩
   ·refine .inr ⟨k,o,p,?_,q2,V⟩
    grind[hid]
  have qv:∀b,MS N (Dc++f) ρ1 b->MS (λb=>N b∨(G b∨own b)) (hid (F hc) f) ρ1 b:=λb hb=>by
   rcases hb with hb|hb
   ·exact .inl<|.inl hb
   ·rcases k8 hb with hb|hb
    ·exact .inl<|.inr<|.inl<|y'.own b hb
    ·exact .inr hb
  have vK:BW (MS N' Dc ρ') W ρ' (MS N (Dc++f) ρ1) W' ρ1:=by
   refine⟨λb hb hm _=>JK.block b hb λho=>hm<|.inl<|vH b ho hb,λb hb=>?_,λk p hp=>?_⟩
   ·rcases zK8 b W.heap.size with dz|dz
    ·rcases hb with hb|hb
     ·exact .inl<|.inl<|(y'.n b).2 ⟨dz,gN b hb,λs=>(hR.r b s).1 hb⟩
     ·rcases k8 hb with hb|hb
      ·exact .inl<|.inr hb
      ·obtain⟨_,_,V⟩:=hR.off b hb;exact .inl<|.inl<|(y'.n b).2 ⟨dz,λhg=>V<|.inl<|.inl hg,λs=>V<|.inr s⟩
    ·exact .inr dz
   grind
  have left:∀{k:E} {o:DO},k<F hc->(Dc++f)[k]?=Z (Z o)->Dc[k]?=Z (Z o):=λ{k o} hk h=>Z4
  have right:∀{k:E} {o:DO},F hc<=k->(Dc++f)[k]?=Z (Z o)->(hid (F hc) f)[k]?=Z (Z o):=λ{k o} hk h=>by
   grind[hid]
  have pl:∀{k:E} {p:AN},k<F hc->ρ1[k]?=Z p->ρ'[k]?=Z p:=λ{k p} hk h=>by
   grind
  have HF:A9 P Γ N (Dc++f) ρ1 W':=by
   refine⟨by rw[Qg];simp[hl],λk o hk=>?_,λk o p b y I K=>?_,λi X o o' p p' b Ay y I K g4 g5 g6=>?_,λb hb=>hR.hr.nlt b<|.inl hb,hR.hr.gi⟩
   ·rcases zK8 k (F hc)with El|El
    ·obtain⟨p,hp,s⟩:=Fv.obj k o<|left El hk;exact⟨p,vK.pl k p hp,s.out vK (S:=λb=>own b/\b<W.heap.size) (JK.mono λb hb hx=>⟨hx,hb⟩) (λb hb=>.inl<|vH b hb.1 hb.2) λb _ hf hx=>XH b hx.1<|y'.own b ⟨k,o,p,left El hk,hp,hf⟩⟩
    ·obtain⟨p,hp,s⟩:=hR.hr.obj k o<|right El hk;exact⟨p,hp,s.out (Cz qv ρ1) (S:=λ_=>False) (AV.refl _ _) (λ_ h=>h.elim) λ_ _ _ h=>h⟩
   ·rcases zK8 k (F hc)with El|El
    ·have hg:=y'.own b ⟨k,o,p,left El y,pl El I,K⟩;obtain⟨c1,c2,c,t,z,c3⟩:=Fv.cel k o p b (left El y) (pl El I) K;exact⟨c1,λhn=>gN b hn hg,c,t,z,(JK.block b (zAy.1 c3).1 λho=>XH b ho hg).trans c3⟩
    ·obtain⟨c1,c2,c3⟩:=hR.hr.cel k o p b (right El y) I K
     grind
   ·have HD:∀{i X:E} {o o':DO} {p p':AN},i<F hc->F hc<=X->(Dc++f)[i]?=Z (Z o)->(Dc++f)[X]?=Z (Z o')->ρ1[i]?=Z p->ρ1[X]?=Z p'->p.foot b->p'.foot b->False:=λ{i X o o' p p'} k1 k2 y I K g4 g5 g6=>
     (hR.off b ⟨X,o',p',right k2 I,g4,g6⟩).2.2 (.inl<|.inl<|y'.own b ⟨i,o,p,left k1 y,pl k1 K,g5⟩)
    rcases zK8 i (F hc)with Hh|Hh <;> rcases zK8 X (F hc)with HA|HA
    ·exact Fv.dis i X o o' p p' b Ay (left Hh y) (left HA I) (pl Hh K) (pl HA g4) g5 g6
    ·exact HD Hh HA y I K g4 g5 g6
    ·exact HD HA Hh I y g4 K g6 g5
    ·exact hR.hr.dis i X o o' p p' b Ay (right Hh y) (right HA I) K g4 g5 g6
  have Q2:BJ (MS N (Dc++f) ρ1) W' ρ1 fr a.tmps:=((R.fr.take C3).out<|hR.outl.weak λb hb=>hb).out<|Cz qv ρ1;exact hQ ϒ f ρ1 e W' q ⟨HF,Q2⟩ ⟨hR.upd,λb hb=>(k8 hb).elim (λh=>(hR.g b<|.inl<|y'.own b h).2)<|hR.grow b⟩ hR.kept hD J6 he
 grind
theorem roundOf{α σ:Type}{m:O Tmp}{a p:Code}{K:E}(enc:α->O DV)(ys:O α)(f:α->σ->M σ)(X:σ->DH){w:σ}(n:α->O DV)
 (W:∀(l Ϝ:E) (N:BR P Γ K) (x:α) (s r:σ),f x s=Z r->HG P Γ (Fence.wide.inRound l) (Z Ϝ) K N (Cw K [] 0<|X r) a p ⟨n x,X s⟩) (G:(λx=>I2 fr m<|enc x)=n):
 Yr P Γ fr m a p K (λi h=>∃s,Bs f (ys.drop i) s=Z w/\h=X s) (λ_ _=>False) (ys.map enc):=by
 subst G;rintro l' o J i x h b ⟨s,q,rfl⟩;rw[zM2]at b;cases hy:ys[i]? with
 |none=>rw[hy]at b;cases b
 |some y=>
  rw[hy]at b;cases b;have Ao:=(zLB.1 hy).1
  have Q:ys.drop i=y::ys.drop (i+1):=by
   grind[List.drop_eq_getElem_cons]
  rw[Q]at q;obtain⟨r,R,S⟩:=GP q
  have j:∀{e:Exit} {g:St},Cw K [] 0 (X r) e g->PF K (λh=>∃s,Bs f (ys.drop<|i+1) s=Z w/\h=X s) (λ_ _=>False) e g:=by
   rintro e g ⟨V,v,Y,r3⟩;cases V;exact⟨v,Y,.inl ⟨rfl,r,S,r3⟩⟩
  refine Tr.mono (W l' o J y s r R) λe g Y2 I=>?_
  cases e with
  |normal=>exact⟨I.1,λk=>Tr.mono (show Tr P Γ (Fence.wide.inRound l') (Z o) K k p g (stay k<|Cw K [] 0<|X r)from I.2 k) λe v Y3 z=>⟨z.1,j z.2⟩⟩
  |ret=>exact I.elim
  |exit id=>exact I.elim
  |goto t=>exact I.elim
  |panic c=>exact I.elim
  |outgrown=>exact I.elim
end
section
section
variable{P:ν}{Γ:A1}{N:Ψ}{ρ:O AN}{a:Act}{w:κ}{S:St}{Q:Exit->Act->κ->Prop}{fr:O DV}{h':DH}{c:O (DV×DH×ζ)}{o:O (E×DV)}{z:O (E×Fz)}{v v2:O Prop}{id:E}{ops:υ Oper}
def cK(ϙ:E)(Q σ Y:Θ)(r:St×O Prop×BM):M<|O DV×DH×O Prop×O Prop×ζ:=match frzL Y (comp Q σ r.1)with
 |some (S,w)=>Z (S.fr,S.h,r.2.1,w,Kg σ ϙ<|F r.1.h)
 |none=>A
variable{ϙ:E}
def vJ{Q σ Y:Θ}{r:St×O Prop×BM}(h:cK ϙ Q σ Y r=Z (fr,h',v,v2,D))(z:BU v2):r.2.1=v/\A6 ϙ r.1 ⟨fr,h'⟩:=by
 unfold cK at h;split at h
 ·rename_i S1 w1 q;simp only[zK0,zLE]at h;obtain⟨rfl,rfl,rfl,rfl,p⟩:=h;exact⟨rfl,(A6.comp Q σ r.1 p).trans<|A6.frzL Y q z⟩
 ·cases h
def wr(q:HX η P)(b σ Y:Θ)(e:HS c o z v)(g:HS [] [] [] v2)(fr:O DV)(h':DH)(R:Ad P Γ N S ρ a w)(h:(D1 P Γ ops ops.toList S ⟨c,o,z,[]⟩).bind (cK ϙ b σ Y)=Z (fr,h',v,v2,D))(i:CY ops=D)
 (j:∀ρ' a' w',Ad P Γ N ⟨fr,h'⟩ ρ' a' w'->BD S.h ρ w h' ρ' w'->a'.defers=a.defers->CA ϙ ρ ρ'->Q .normal a' w'):(Code.region id ops T).wpIn η 0 P Q a w:=by
 obtain⟨⟨S1,v1,o1⟩,l,h⟩:=GP h;obtain⟨rfl,m⟩:=vJ h g.all;refine zOf<|LW q.f i _ (λo K=>by simpa using K) R l e.all λρ' a' w' R' st n=>?_;obtain⟨ρ2,r,s,t⟩:=m P Γ N ρ' a' w' R';exact j ρ2 a' w' r (st.st.trans s) n<|CA.trans (λk p _ x=>st.pl k p x) t
theorem ZB(q:HX η P)(early:Θ)(t:ST)(g:B3 ops early t)(tg:O<|O (E×E)×St)(e σ Y:Θ)(i:HS c o z v)(j:HS [] [] [] v2)(fr:O DV)(h':DH)(R:Ad P Γ N S ρ a w)(h:(Uv P Γ ops early t S ⟨c,o,z,tg⟩).bind (cK ϙ e σ Y)=Z (fr,h',v,v2,D))
 (n:∀ρ' a' w',Ad P Γ N ⟨fr,h'⟩ ρ' a' w'->BD S.h ρ w h' ρ' w'->a'.defers=a.defers->CA ϙ ρ ρ'->Q .normal a' w'):(Code.region id ops D).wpIn η 0 P Q a w:=by
 obtain⟨⟨S1,v1,o1⟩,b,h⟩:=GP h;obtain⟨rfl,r⟩:=vJ h j.all;simp only[B3,zAx]at g;obtain⟨⟨s,x⟩,y⟩:=g;unfold Uv at b;split at b
 ·cases b
 split at b
 ·cases b
 ·rename_i G;cases b;have l:A0 w w.drew:=A0.toDrew w;refine pf<|iP q.m (Nat.add_zero _)<|(p6 q.f y x t ops.size _ oP (R.ext l) G i.all λρ' a' w' R' st V I=>?_).1 s;obtain⟨ρ2,J,K,W⟩:=r P Γ N ρ' a' w' R';exact n ρ2 a' w' J ((BD.ext l).trans<|st.trans K) I<|CA.trans (λk p _ X=>V k p (by rw[←R.hr.len];grind) X) W
theorem zNt{h:DH}{ρ ρ':O AN}{w w':κ}{Ϛ:DV}{v:μ}(h0:A9 P Γ N [] ρ w)(R:A9 P Γ N h ρ' w')(st:BD [] ρ w h ρ' w')(c:AL (MS N h ρ') w' Ϛ ρ' v)(z:Fi Ϛ=D):Cj P Γ N [] ρ w D Ϛ [] v w':=by
 have e:ρ= []:=List.length_eq_zero_iff.1 h0.len;subst e;have i:=ML z _ _ _ _ c;have low:∀b,MO [] ([]:O AN) b->False:=λb ⟨k,_,_,q,_⟩=>by simp at q
 have x:AV (λ_=>False) w w':=st.upd.mono λb _ a=>low b a
 refine⟨⟨[],⟨rfl,λk o f=>by simp at f,λk o p b f=>by simp at f,λk k' o o' p p' b _ f=>by simp at f,R.nlt,R.gi⟩,?_,⟨x.mono λ_ _ h=>h.elim,λb a=>(low b a).elim⟩,λk p f=>by simp at f⟩,λ_=>x.toExt λ_ _ h=>h⟩;exact i.out _ ⟨λ_ _ _ _=>rfl,λb a=>.inl<|a.imp id λh=>(low b h).elim,λk p f=>by simp at f⟩
end
variable{g:E}{w:κ}{a:Act}{P:ν}
theorem zBB{Q:Exit->Act->κ->Prop}{ops:υ Oper}{id t:E}{o0 o1:Oper}{j:υ Operand}{W:υ ψ}(q:ops.toList= [o0,o1])(h0:o0.op=.makeFunc (.func g) #[] j)(xk:o0.dst=Z t)(r:o0.guard=A)(h1:o1.op=.defer { callee:=.value (.tmp t),args:=#[],argTypes:=W })(JU:o1.dst=A)(n:o1.guard=A)(ht:t<a.tmps.size)
 (hQ:∀a',a'.tmps=a.tmps.setIfInBounds t (.func (.func g) #[]<|j.map a.eval)->a'.defers= { target:=.fn (.func g) (j.map a.eval),args:=#[] }::a.defers->Q .normal a' w):(Code.region id ops T).wpIn η 0 P Q a w:=by
 refine zOf ?_;rw[q];simp only[wpListIn,Oper.wpIn,Region.wanted,r,n,zMt];refine⟨λ_ _=>trivial,?_⟩
 have J:(o0.semAt Fence.wide.round a.eval).run P w=.ok (.value<|.func (.func g) #[]<|j.map a.eval) w:=by
  rw[zND _ _ _<|by rw[h0];intro c e;cases e];unfold ω;rw[h0];simp only[zK6,Array.map_empty];simp[go_sem]
 rw[J,Oper.uponIn_value];refine⟨λ_ _=>trivial,?_⟩
 simp_all[Act.eval,Act.put,Oper.semAt_none,ω,resolve,Deferred.ofValue,Oper.uponIn_defer]
variable{a':Act}{ρ:O AN}{h:DH}{fr:O DV}{N:Ψ}{Γ:A1}
theorem Ad.idle(R:Ad P Γ N ⟨fr,h⟩ ρ a w)(t:E){v:μ}(ha:a'.tmps=a.tmps.setIfInBounds t v)(e:fr.set t .any=fr):Ad P Γ N ⟨fr,h⟩ ρ a' w:=by
 refine⟨R.hr,?_⟩;have:=R.fr.set t (Ϛ:=.any) (v:=v) trivial
 grind
variable{ϒ:E}{ρ':O AN}{h':DH}
def zb{w':κ}(ϗ:A9 P Γ N h ρ w)(st:BD h ρ w h' ρ' w')(j:w.heap[ϒ]?=Z (.deferred<|Z [])):w'.heap[ϒ]?=Z (.deferred<|Z []):=by
 refine(st.upd.block ϒ (zAy.1 j).1 ?_).trans j;rintro⟨k,o,p,a,b,m⟩;obtain⟨_,_,c,t,z,W⟩:=ϗ.cel k o p ϒ a b m;rw[j]at W;cases W;cases t
variable{fn:Func}
def dJ{tmps:υ μ}{R:Ending->κ->Prop}{j:υ μ}{ϛ:FrameMode}(x:ϛ≠.run)(a:w.heap[ϒ]?=Z (.deferred<|Z []))(y:∀args W,(callFunc g args).run P W=.ok (.enter g args) W)
 (h:∀W,KY ϒ w W->CallsDIn η (0-1) P g j ϛ W λ
  | .returned _,o,w'=>LeavesIn η 0 P fn tmps R [] (settle o) w'
  | .panicked r,o,w'=>LeavesIn η 0 P fn tmps R [] (raised o r) w'
  | .outgrown,_,w'=>R .outgrown w'):LeavesInM η 0 P fn tmps R [{ target:=.collected ϒ,args:=#[] },{ target:=.fn (.func g) j,args:=#[] }] ϛ w:=by
 refine⟨x,.inl ⟨ϒ,_,rfl,run_takeDeferred a,x,.inr ⟨λh=>(by cases h),.func g,j,g,#[]++j,rfl,?_,λ_ _=>trivial,?_⟩⟩⟩
 ·simp[invoke,go_sem,y]
 ·have p:KY ϒ w<|w.putObj ϒ<|.deferred A:=((AV.refl (λk=>k=ϒ) w).putObj (λ_=>rfl) _).mono λi _ e=>by cases e;exact⟨zI1 _,a⟩
  have:=h _ p;rw[Array.empty_append];exact this.mono λe o w' I=>by cases e <;> exact I
variable{t ϛ:υ μ}{l:O DV}
theorem BJ.split{ϕ:Ψ}(ϖ:BJ ϕ w ρ (fr++l)<|t++ϛ)(q:F fr=t.size):BJ ϕ w ρ fr t/\BJ ϕ w ρ l ϛ:=by
 have hs:F fr+F l=t.size+ϛ.size:=by simpa using ϖ.1
 refine⟨⟨q,λj a=>?_⟩,⟨Z2,λj a=>?_⟩⟩
 ·have h:=ϖ.2 j Z7
  simp_all[zLb,Array.getElem?_append_left]
 ·have h:=ϖ.2 (F fr+j) Z7
  simp_all
variable{J:O DV}{ϙ:E}
def A6.both{l':O DV}(e:A6 ϙ ⟨fr++l,h⟩ ⟨J++l',h'⟩)(q:F J=F fr)(R:Ad P Γ N ⟨fr,h⟩ ρ a w)(ϖ:BJ (MS N h ρ) w ρ l ϛ):∃ρ',Ad P Γ N ⟨J,h'⟩ ρ' a w/\BJ (MS N h' ρ') w ρ' l' ϛ/\BD h ρ w h' ρ' w/\CA ϙ ρ ρ':=by
 obtain⟨ρ',R',s,k⟩:=e P Γ N ρ { a with tmps:=a.tmps++ϛ } w ⟨R.hr,BJ.append R.fr ϖ⟩;obtain⟨I,V⟩:=BJ.split R'.fr<|q.trans R.fr.1;exact⟨ρ',⟨R'.hr,I⟩,V,s,k⟩
theorem Ad.forg(Q:Θ)(R:Ad P Γ N ⟨fr,h⟩ ρ a w)(c:a'.tmps=a.tmps)(e:forget Q fr=J):Ad P Γ N ⟨J,h⟩ ρ a' w:=by
 subst e;refine⟨R.hr,?_⟩;rw[c];refine⟨(Xu Q fr).trans R.fr.1,λi hi=>?_⟩;have hi:i<F fr:=by grind[Xu]
 show AL _ _ ((forget Q fr).getD i .any) _ _
 rw[nk Q fr hi];split
 ·exact R.fr.2 i hi
 ·trivial
def Xt{w':κ}(ϖ:BJ (MS N h ρ) w ρ fr t)(e:fr.all (Ce ϙ)=D)(H':A9 P Γ N h' ρ' w')(st:BD h ρ w h' ρ' w')(V:CA ϙ ρ ρ'):BJ (MS N h' ρ') w' ρ' fr t:=
 (ϖ.take e).out ⟨λb c f _=>st.upd.block b c λi=>f<|.inr i,λb c=>c.elim (λh=>.inl<|.inl h) λh=>(st.grow b h).imp .inr id,λk p a=>by
  rw[zRG]at a;split at a
  ·rename_i g;exact V k p g a
  ·cases a⟩
def fK{S:St}{ρ0:O AN}{W:κ}(R:Ad P Γ N S ρ a W)(h0:A9 P Γ N [] ρ0 w)(st:BD [] ρ0 w S.h ρ W)(Y:Θ){e:O Prop}(z:HS [] [] [] e)(f:O DV){Ϛ:DV}(c:AO (IS f) Ϛ)
 (g:(frzL Y S).bind (λq=>(Nn P q.1 fn.results.toList).map λr=>(r,q.2))=Z (f,e)) (n:Fi Ϛ=D):∃v,(results fn a.tmps).run P W=.ok v W/\Cj P Γ N [] ρ0 w D Ϛ [] v W:=by
 obtain⟨⟨S2,w2⟩,i,j⟩:=GP g;obtain⟨r,m,k⟩:=MQ j;cases k;obtain⟨ρ2,b,l,_⟩:=A6.frzL (ϙ:=0) Y i z.all P Γ N ρ a W R;obtain⟨v,s,y⟩:=al b m;exact⟨v,s,zNt h0 b.hr (st.trans l) (c _ _ _ _ y) n⟩
end
def D4:μ:=.iface 30<|.int .i64 280
def zOa(w:κ):CallsIn η 0 L 54 #[.bool D] w λe w'=>e=.returned (.tuple #[])/\w'=w:=by
 refine callsIn_of_wp Tryz.func54 rfl trivial ?_ rfl;simp only[Tryz.ntmps54,zRQ,zLA,zRJ,Nat.reduceAdd,Nat.reduceSub,zSG,zSH,List.push_toArray,zSM,zLP,zRc]
 gi_wp2
 go_end0
 exact⟨rfl,rfl⟩
def zOb(w:κ):CallsIn η 0 L 54 #[.bool T] w λe w'=>e=.panicked (pan D4)/\w'=w:=by
 refine callsIn_of_wp Tryz.func54 rfl trivial ?_ rfl;simp only[Tryz.ntmps54,zRQ,zLA,zRJ,Nat.reduceAdd,Nat.reduceSub,zSG,zSH,List.push_toArray,zSM,zLP,zRc]
 gi_wp2
 exact⟨rfl,rfl,rfl⟩
def zC(b:ζ):YC L GG D4 54 (λ_=>[.bool b]) (λ_=>[]) [] (B b (Z<|.tup 0 λj=>([]:O DV).getD j .any) A) λ_=>[]:=by
 refine⟨λargs W=>Ox Tryz.func54 Z5 Z5 args W,λϘ _ i _ N ρ args w G R a f l y=>?_⟩
 have c:args= #[.bool b]:=by
  obtain⟨g,k⟩:=f;have h:=k 0 Nat.one_pos;have p:args.size=1:=g.symm;apply Array.ext
  ·simp[p]
  ·intro j g1 g2;have:j=0:=Z2
   subst this;have h:args.getD 0 undef=.bool b:=h;rw[zLC,zNM Z2]at h;exact h
 subst c;cases b with
 |true=>
  refine(zOa w).mono ?_;rintro e w' ⟨rfl,rfl⟩;exact⟨N,ρ,G,R,a,l,y,CA.refl _ _,.tuple #[],rfl,#[],rfl,rfl,λj l=>τ l<|zBT j⟩
 |false=>
  refine(zOb w).mono ?_;rintro e w' ⟨rfl,rfl⟩;exact⟨N,ρ,G,R,a,l,y,CA.refl _ _,rfl⟩
abbrev zSK:=@List.map_append
section
abbrev YR(X R ϐ:Type):=O X×M R×ϐ
def yb{X R R' ϐ:Type}(ο:M<|YR X R' ϐ)(f:R'->ϐ->M (YR X R ϐ)):M<|YR X R ϐ:=ο.bind λa=>match a.2.1 with
 |none=>Z (a.1,A,a.2.2)
 |some v=>(f v a.2.2).map λb=>(a.1++b.1,b.2)
def yx{X R ϐ:Type}(x:X)(ο:M<|YR X R ϐ):M<|YR X R ϐ:=ο.map λb=>(x::b.1,b.2)
variable{X R ϐ:Type}
def pX{R':Type}{ο:M (YR X R' ϐ)}{f:R'->ϐ->M (YR X R ϐ)}{r:YR X R ϐ}(h:yb ο f=Z r):∃a,ο=Z a/\((a.2.1=A/\r=(a.1,A,a.2.2))∨∃v b,a.2.1=Z v/\f v a.2.2=Z b/\r=(a.1++b.1,b.2)):=by
 obtain⟨a,c,h⟩:=GP h;refine⟨a,c,?_⟩;split at h
 ·rename_i e;cases h;exact .inl ⟨e,rfl⟩
 ·rename_i v e;obtain⟨b,g,rfl⟩:=MQ h;exact .inr ⟨v,b,e,g,rfl⟩
def DR{X R ϐ:Type}(Ϙ:Bm L)(enc:X->O DV)(i:E)(r:YR X R ϐ):Prop:=∃rest,Ϙ.encs.drop i=r.1.map enc++rest
variable{i:E}
def zQ{α:Type}{l a b:O α}(h:l.drop i=a++b):l.drop (i+F a)=b:=by
 rw[←List.drop_drop,h,List.drop_left'];rfl
variable{Ϙ:Bm L}
theorem DR.split{R':Type}{enc:X->O DV}{y:O X}{b:YR X R ϐ}(h:DR Ϙ enc i ((y++b.1,b.2):YR X R ϐ)):(∃rest,Ϙ.encs.drop i=y.map enc++rest)/\DR Ϙ enc (i+F (y.map enc)) b:=by
 obtain⟨rest,h⟩:=h;have h:Ϙ.encs.drop i=y.map enc++(b.1.map enc++rest):=by rw[h,zSK,zRx]
 exact⟨⟨_,h⟩,rest,zQ h⟩
def DR.cons{enc:X->O DV}{x:X}{b:YR X R ϐ}(h:DR Ϙ enc i ((x::b.1,b.2):YR X R ϐ)):Ϙ.encs[i]?=Z (enc x)/\DR Ϙ enc (i+1) b:=by
 obtain⟨rest,h⟩:=h;have h:Ϙ.encs.drop i=enc x::(b.1.map enc++rest):=h;refine⟨?_,rest,?_⟩
 ·have:=congrArg (·[0]?) h;simpa using this
 ·have:=zQ (a:=[enc x]) h;simpa using this
section
variable{X R R' ϐ:Type}
abbrev YF(Ϙ:Bm L)(pv:μ)(fn:Func)(ϙ:E)(ρ0:O AN)(tD:R->DV)(H':ϐ->DH)(i:E)(r:YR X R ϐ):QY L GG ϙ:=YQ Ϙ GG pv fn ϙ (i+F r.1) ρ0 (r.2.1.map tD)<|H' r.2.2
variable{Ϙ:Bm L}{pv:μ}{fn:Func}{ϙ:E}{ρ0:O AN}{tD:R->DV}{H':ϐ->DH}{i:E}{r:YR X R ϐ}{enc:X->O DV}{k K:O KI}{S:St}{ops:υ Oper}
 {c:O (DV×DH×ζ)} {o:O (E×DV)} {z:O (E×Fz)} {v:O Prop} {fr:O DV} {h h1:DH} {l l1 l2:Θ} {p:E} {dst:M Tmp}
abbrev TO(Ϙ:Bm L)(pv:μ)(fn:Func)(ϙ:E)(ρ0:O AN)(tD:R->DV)(H':ϐ->DH)(ops:υ Oper)(l:Θ)(k:O KI)(i:E)(r:YR X R ϐ)(S:St):Prop:=Do L GG (Ϙ.K GG ϙ i ρ0) ops l S<|Dp L GG η A ϙ (YF Ϙ pv fn ϙ ρ0 tD H' i r) k
abbrev TY(Ϙ:Bm L)(pv:μ)(fn:Func)(ϙ:E)(ρ0:O AN)(tD:R->DV)(H':ϐ->DH)(k:O KI)(i:E)(r:YR X R ϐ)(S:St):Prop:=A2 L GG η A ϙ (Ϙ.K GG ϙ i ρ0) (YF Ϙ pv fn ϙ ρ0 tD H' i r) k S
variable{j:E}{y:O X}
def YF.pan{o:ϐ}{fr:O DV}{h:DH}(N:Nat.ble ϙ (F h)=D)(w:bv ϙ h=H' o)(l:j=i+F y):YF Ϙ pv fn ϙ ρ0 tD H' i ((y,A,o):YR X R ϐ) (.panic<|pan pv) ⟨fr,h⟩<|Ϙ.K GG ϙ j ρ0:=by
 subst l;exact⟨rfl,rfl,_,A6.compact (θ ϙ) ⟨fr,h⟩ zR9 (λk f=>zI0 (zJ9.1 f)<|zKs N) (λk f=>by simp[f]),w⟩
def YF.app{b:YR X R ϐ}(l:j=i+F y):YF Ϙ pv fn ϙ ρ0 tD H' i ((y++b.1,b.2):YR X R ϐ)=YF Ϙ pv fn ϙ ρ0 tD H' j b:=by
 subst l
 show YQ _ _ _ _ _ (i+F (y++b.1)) _ _ _=YQ _ _ _ _ _ (i+F y+F b.1) _ _ _
 rw[zKp,zRk]
def yO(l:MC K=Z (ops,Df K):=by kernel_rfl)(f:TO Ϙ pv fn ϙ ρ0 tD H' ops (θ ops.size) (Df K) i r S):TY Ϙ pv fn ϙ ρ0 tD H' K i r S:=by
 unfold MC at l;split at l
 ·rename_i id y k;have R:y=ops:=congrArg Prod.fst<|zBH l;subst R;exact Tr.ofO f
 ·cases l
def yD(a:O<|Θ×E)(g b:Θ)(q:HS c o z v)(fr:O DV)(h1:DH)(j:TO Ϙ pv fn ϙ ρ0 tD H' ops b (Df K) i r ⟨fr,h1⟩)
 (l:ao K=Z (ops,Df K):=by kernel_rfl) (n:Ac ops a g b:=by unfold Ac;kernel_rfl) (h:(OY L GG ops S.h a g S ⟨c,o,z,[]⟩).map (cJ<|Fm 0 fr)=Z (fr,h1,v):=by kernel_rfl):TY Ϙ pv fn ϙ ρ0 tD H' K i r S:=by
 unfold ao at l;split at l
 ·rename_i id y k;have R:y=ops:=congrArg Prod.fst<|zBH l;subst R;obtain⟨f,Ar,h,e⟩:=vI h;refine Tr.ordO (HC.x (ϖ:=η)).f (HC.x (ϖ:=η)).m n h q.all<|Do.weaken (S':=⟨fr,h1⟩) ?_ j;rw[e];exact A6.forget _ _ _
 ·cases l
def y0(f:TY Ϙ pv fn ϙ ρ0 tD H' k i r S):TO Ϙ pv fn ϙ ρ0 tD H' ops [] k i r S:=λN ρ _ _ R y m=>⟨S,ρ,N,_,f,R,y,m,Bd.none⟩
def yE(q:HS c o z v)(fr:O DV)(h1:DH)(a:TY Ϙ pv fn ϙ ρ0 tD H' k i r ⟨fr,h1⟩)(h:(D1 L GG ops (CV ops l) S ⟨c,o,z,[]⟩).map (cJ<|Fm 0 fr)=Z (fr,h1,v):=by kernel_rfl)(g:CY ops=D:=by kernel_rfl)(hc:eE k=D:=by kernel_rfl):TO Ϙ pv fn ϙ ρ0 tD H' ops l k i r S:=by
 obtain⟨f,Ar,h,e⟩:=vI h;refine Do.done (HC.x (ϖ:=η)).f g h q.all<|A2.leH (S':=⟨fr,h1⟩) ?_ hc a;rw[e];exact A6.forget _ _ _
def yT(n:Ϙ.nv)(l1 l2:Θ)(p:E)(q:HS c o z v)(fr:O DV)(h1:DH)(dst:M Tmp)(a:TO Ϙ D4 fn ϙ ρ0 tD H' ops l2 k i r ⟨Ct fr dst PS,h1⟩)(hr:DR Ϙ enc i r)
 (e:l=l1++p::l2:=by kernel_rfl) (h:(Li L GG ops l1 p S ⟨c,o,z,[]⟩).map (QG<|Fm 0 fr)=Z (54,[.bool D],dst,fr,h1,v):=by kernel_rfl) (g:CY ops=D:=by kernel_rfl):TO Ϙ D4 fn ϙ ρ0 tD H' ops l k i r S:=by
 subst e;obtain⟨f,Ar,h,J⟩:=kf h;exact Do.call (ϑ:=h1) (ds:=λ_=>[.bool D]) (h:=λ_=>[]) (h':=λ_=>[]) (ys:=[]) (HC.x (ϖ:=η)).f g n h q.all (zC D) rfl rfl rfl rfl ⟨_,rfl⟩ (Do.weaken (Zu J) a)
variable{o':ϐ}
def yP(n:Ϙ.nv)(l1 l2:Θ)(p:E)(q:HS c o z v)(fr:O DV)(h1:DH)(dst:M Tmp)(w:bv ϙ h1=H' o':=by kernel_rfl)(N:Nat.ble ϙ (F h1)=D:=by kernel_rfl)
 (e:l=l1++p::l2:=by kernel_rfl) (h:(Li L GG ops l1 p S ⟨c,o,z,[]⟩).map (QG<|Fm 0 fr)=Z (54,[.bool T],dst,fr,h1,v):=by kernel_rfl) (g:CY ops=D:=by kernel_rfl):TO Ϙ D4 fn ϙ ρ0 tD H' ops l k i (([],A,o'):YR X R ϐ) S:=by
 subst e;obtain⟨f,Ar,h,_⟩:=kf h;exact Do.call (ϑ:=h1) (ds:=λ_=>[.bool T]) (h:=λ_=>[]) (h':=λ_=>[]) (ys:=[]) (HC.x (ϖ:=η)).f g n h q.all (zC T) rfl rfl rfl rfl ⟨_,rfl⟩ (OA (YF.pan N w rfl) k)
variable{f:R'->ϐ->M (YR X R ϐ)}{ο:M (YR X R' ϐ)}{tD':R'->DV}{h':E->ϐ->DH}{ds:E->O DV}{g:FuncId}
def yC{h:E->DH}(q:Ϙ.nv)(l1 l2:Θ)(p:E)(s:HS c o z v)(fr:O DV)(h1:DH)(dst:M Tmp)
 (P:yb ο f=Z r) (t:DR Ϙ enc i r) (ϗ:∀a,ο=Z a->YC L GG pv g ds h (a.1.map enc) (a.2.1.map tD') λl=>h' l a.2.2)
 (N:∀m o' b I,f m o'=Z b->DR Ϙ enc I b->TO Ϙ pv fn ϙ ρ0 tD H' ops l2 k I b ⟨Ct fr dst<|tD' m,h' Ϙ.l o'++h1.drop (F<|h Ϙ.l)⟩)
 (e:l=l1++p::l2:=by kernel_rfl) (hc:(Li L GG ops l1 p S ⟨c,o,z,[]⟩).map (QG<|Fm 0 fr)=Z (g,ds Ϙ.l,dst,fr,h1,v):=by kernel_rfl) (w:h1.take (F<|h Ϙ.l)=h Ϙ.l:=by kernel_rfl) (y:∀o',F (h' Ϙ.l o')=F (h Ϙ.l):=by intro;kernel_rfl)
 (G:(h Ϙ.l).all (O6<|F<|h Ϙ.l)=D:=by kernel_rfl) (J:(ds Ϙ.l).all (Ce<|F<|h Ϙ.l)=D:=by kernel_rfl) (Q:∀o',bv ϙ (h' Ϙ.l o'++h1.drop (F<|h Ϙ.l))=H' o':=by intro;kernel_rfl) (V:∀o',Nat.ble ϙ (F<|h' Ϙ.l o'++h1.drop (F<|h Ϙ.l))=D:=by intro;kernel_rfl) (K:CY ops=D:=by kernel_rfl):TO Ϙ pv fn ϙ ρ0 tD H' ops l k i r S:=by
 subst e;obtain⟨f1,Ar,hc,W⟩:=kf hc;obtain⟨a,Y,h⟩:=pX P;have ϗ:=ϗ a Y;rcases h with⟨n,rfl⟩|⟨m,b,n,hb,rfl⟩
 ·rw[n]at ϗ;exact Do.call (ϑ:=h1.drop<|F<|h Ϙ.l) (HC.x (ϖ:=η)).f K q hc s.all ϗ (fU w) (y _) G J t<|OA (YF.pan (V _) (Q _)<|by rw[zKB]) k
 ·rw[n]at ϗ;obtain⟨d1,d2⟩:=DR.split (R':=R') t;refine Do.call (ϑ:=h1.drop<|F<|h Ϙ.l) (HC.x (ϖ:=η)).f K q hc s.all ϗ (fU w) (y _) G J d1 ?_;rw[YF.app (j:=i+F (a.1.map enc))<|by rw[zKB]];exact Do.weaken (Zu W)<|N _ _ _ _ hb d2
def yY{x:X}{ο:M (YR X R ϐ)}(n:Ϙ.nv)(l1 l2:Θ)(p:E)(q:HS c o z v)(fr:O DV)(h1:DH)(dst:M Tmp)(P:yx x ο=Z r)(a:DR Ϙ enc i r)
 (g:∀b I,ο=Z b->DR Ϙ enc I b->TO Ϙ pv fn ϙ ρ0 tD H' ops l2 k I b ⟨Ct fr dst<|.bool D,h1⟩)
 (e:l=l1++p::l2:=by kernel_rfl) (h:(iL L GG ops l1 p S ⟨c,o,z,[]⟩).map (kg<|Fm 0 fr)=Z (enc x,Ϙ.l,dst,fr,h1,v):=by kernel_rfl) (j:CY ops=D:=by kernel_rfl):TO Ϙ pv fn ϙ ρ0 tD H' ops l k i r S:=by
 subst e;obtain⟨b,m,rfl⟩:=MQ P;obtain⟨s,Q⟩:=DR.cons a;obtain⟨f1,Ar,hy,J⟩:=zIO h;refine Do.yield (HC.x (ϖ:=η)).f j n hy q.all s ?_;have e:YF Ϙ pv fn ϙ ρ0 tD H' i ((x::b.1,b.2):YR X R ϐ)=YF Ϙ pv fn ϙ ρ0 tD H' (i+1) b:=YF.app (y:=[x]) rfl;rw[e];exact Do.weaken (Zu J)<|g _ _ m Q
def yR{hc:E->DH}(z:Ϙ.nv)(w c xs:Θ)(p:E)(G:HS [] o [] v)(fr:O DV)(h1:DH)(dst:M Tmp)
 (hA:yb ο f=Z r) (I:DR Ϙ enc i r) (ϗ:∀a,ο=Z a->YC L GG pv g ds hc (a.1.map enc) (a.2.1.map tD') λl=>h' l a.2.2)
 (hk:∀y o' b J,f y o'=Z b->DR Ϙ enc J b->TO Ϙ pv fn ϙ ρ0 tD H' ops c (Df K) J b ⟨Ct fr dst<|tD' y,h' Ϙ.l o'++h1.drop (F<|hc Ϙ.l)⟩)
 (n:ao K=Z (ops,Df K):=by kernel_rfl) (N:(CY ops&&Region.noSelect ops&&(F w+1+F c==ops.size)&&(c.all λt=>decide (t<ops.size))&&RB ops p c w (Array.replicate ops.size T)&&pO xs S.h&&hidB xs (F<|hc Ϙ.l) S.h)=D:=by kernel_rfl)
 (s:(Vd L ops xs w S o).bind (λq=>(Li L GG ops [] p q.1 ⟨[],[],[],[]⟩).map λx=>(QG (Fm 0 fr) x,q.2.1,x.2.2.2.2.1))=Z ((g,ds Ϙ.l,dst,fr,h1,[]),v,[]):=by kernel_rfl) (P:h1.take (F<|hc Ϙ.l)=hc Ϙ.l:=by kernel_rfl) (Q:h1=S.h:=by kernel_rfl) (V:∀o',F (h' Ϙ.l o')=F (hc Ϙ.l):=by intro;kernel_rfl)
 (W:(hc Ϙ.l).all (O6<|F<|hc Ϙ.l)=D:=by kernel_rfl) (Y:(ds Ϙ.l).all (Ce<|F<|hc Ϙ.l)=D:=by kernel_rfl) (hp:∀o',bv ϙ (h' Ϙ.l o'++h1.drop (F<|hc Ϙ.l))=H' o':=by intro;kernel_rfl) (hL:∀o',Nat.ble ϙ (F<|h' Ϙ.l o'++h1.drop (F<|hc Ϙ.l))=D:=by intro;kernel_rfl):TY Ϙ pv fn ϙ ρ0 tD H' K i r S:=by
 unfold ao at n;split at n
 ·rename_i id TN k;have e:TN=ops:=congrArg Prod.fst<|zBH n;subst e;obtain⟨q,hq,LT⟩:=GP s;obtain⟨⟨q1,q2⟩,q3,q4⟩:=q;obtain⟨x,hx,e2⟩:=MQ LT;obtain⟨g',zP,dst',⟨f2,h2⟩,v2,Ar⟩:=x;simp only[QG,zLE]at e2;obtain⟨⟨rfl,e3,rfl,e0,rfl,rfl⟩,rfl,_⟩:=e2;have s:=hq;have LT:=hx;rw[←e3]at LT;obtain⟨rfl,rfl⟩:=St.mk.inj<|zPO LT;obtain⟨a,ha,h⟩:=pX hA;have ϗ:=ϗ a ha;rcases h with⟨e,rfl⟩|⟨y,b,e,hb,rfl⟩
  ·rw[e]at ϗ;exact Tr.drawC (ϑ:=h1.drop<|F<|hc Ϙ.l) (HC.x (ϖ:=η)).f (HC.x (ϖ:=η)).m N z s G.all LT ϗ (Q▸fU P) (V _) W Y I<|OA (YF.pan (hL _) (hp _)<|by rw[zKB]) k
  ·rw[e]at ϗ;obtain⟨d1,d2⟩:=DR.split (R':=R') I;refine Tr.drawC (ϑ:=h1.drop<|F<|hc Ϙ.l) (HC.x (ϖ:=η)).f (HC.x (ϖ:=η)).m N z s G.all LT ϗ (Q▸fU P) (V _) W Y d1 ?_;rw[YF.app (j:=i+F (a.1.map enc))<|by rw[zKB]];exact Do.weaken (Zu e0)<|hk _ _ _ _ hb d2
 ·cases n
def yF{e:R}(h:BV L GG η A ϙ (Ϙ.K GG ϙ i ρ0) (Dd L fn ϙ (tD e)<|H' o') k S):TY Ϙ pv fn ϙ ρ0 tD H' k i (([],Z e,o'):YR X R ϐ) S:=h
end
def YC.ofY{X R ϐ:Type}{pv:μ}{f ϙ:E}{fn:Func}{tD:R->DV}{r:YR X R ϐ}{enc:X->O DV}{ds:E->O DV}{h:E->DH}{h':E->ϐ->DH}(q:Tryz.prog.funcs[f]?=Z fn)
 (ϑ:∀(Ϙ:Bm L) (i:E) (ρ0:O AN),Ϙ.nv->DR Ϙ enc i r->TY Ϙ pv fn ϙ ρ0 tD (λo=>h' Ϙ.l o) [.code<|Af fn] i r ⟨ds Ϙ.l++d (fn.ntmps-F (ds Ϙ.l)) .any,h Ϙ.l⟩)
 (b:fn.body.isSome=D:=by kernel_rfl) (n:(fn.name== "runtime.NumGoroutine")=T:=by kernel_rfl) (N:∀l,F (h l)=ϙ:=by intro;kernel_rfl):YC L GG pv f ds h (r.1.map enc) (r.2.1.map tD) λl=>h' l r.2.2:=
 YC.of q b n N λϘ i ρ0 t k=>by
  rw[zKB];exact ϑ Ϙ i ρ0 t k
end
section
set_option maxRecDepth 100000
set_option maxHeartbeats 40000000
def Lf(x:Ξ×Ξ×U):O DV:=[.agg 3<|L1 [.ints x.1,.ints x.2.1,.i x.2.2]]
abbrev Av:=Ξ×Ξ×U
def cY(pos:Ξ)(at_ h:U):E->O DV:=λ_=>[.ref 5 0,.ints pos,.i at_,.i h]
def DW(v:Ξ)(q:AA)(tree:O<|Δ)(ln:E)(pos0:Ξ):E->DH:=λl=>[oI v,Z<|.ro<|AJ q,Z<|.ro [.sl 2 (F tree)<|AM BA tree],Z<|.ro [.msl 0 1 0 ln],Z<|.ro [.ints pos0],Z<|.ro<|AJ q++[.sl 2 (F tree)<|AM BA tree,.msl 0 1 0 ln,.yl l]]
def Wa(y:U):DV:=.i y
abbrev Ej:=Ξ->U->U->Ξ->AA->(O<|Δ)->E->Ξ->M (YR Av U Ξ)
def J4(f:Ej):Prop:=∀(pos:Ξ) (at_ h:U) (v:Ξ) (q:AA) (tree:O<|Δ) (ln:E) (pos0:Ξ) (r:YR Av U Ξ),f pos at_ h v q tree ln pos0=Z r->YC L GG D4 55 (cY pos at_ h) (DW v q tree ln pos0) (r.1.map Lf) (r.2.1.map Wa) (DW r.2.2 q tree ln pos0)
def ug:E->O DV:=λ_=>[.ref 6 0,.ref 10 0,.ref 7 0,.ref 8 0,.ref 9 0]
def I9(v:Ξ)(q:AA)(tree:O<|Δ)(ln:E)(pos0 pos:Ξ)(at_ h:U)(k:Δ):E->DH:=λl=>[oI v,Z<|.ro<|AJ q,Z<|.ro [.sl 2 (F tree)<|AM BA tree],Z<|.ro [.msl 0 1 0 ln],Z<|.ro [.ints pos0],Z<|.ro<|AJ q++[.sl 2 (F tree)<|AM BA tree,.msl 0 1 0 ln,.yl l],Z<|.ro [.ref 5 0],Z<|.ro [.ints pos],Z<|.ro [.i at_],Z<|.ro [.i h],Z<|.ro [.i k.1,.i k.2]]
def uh(y:U):DV:=.i y
abbrev zHu:=Ξ->AA->(O<|Δ)->E->Ξ->Ξ->U->U->Δ->M (YR Av U Ξ)
def zHt(f:zHu):Prop:=∀(v:Ξ) (q:AA) (tree:O<|Δ) (ln:E) (pos0 pos:Ξ) (at_ h:U) (k:Δ) (r:YR Av U Ξ),f v q tree ln pos0 pos at_ h k=Z r->YC L GG D4 91 ug (I9 v q tree ln pos0 pos at_ h k) (r.1.map Lf) (r.2.1.map uh) (I9 r.2.2 q tree ln pos0 pos at_ h k)
def zDx:Ac (Ah Tryz.f91 1) [([0,1,2,3,4,5,6],7)] [8,9,10,11,12] []:=Z0
def jI:BG:=λi=>match i with
 |1=>.ord [([0,1,2,3,4,5,6],7)] [8,9,10,11,12] []
 |_=>.no
def kS(n:E)(J:Ej)(v:Ξ)(q:AA)(tree:O<|Δ)(ln:E)(pos0 pos:Ξ)(at_ h:U)(k:Δ):M<|YR Av U Ξ:=(TG n q k.2 pos).bind λe=>B (e.2==0) (u (AG<|at_+1) (yb (J e.1 (at_+1) h v q tree ln pos0) λr g=>Z ([],Z r,g)) A)<|Z ([],A,v)
def bo(n:E)(J:Ej)(v:Ξ)(q:AA)(tree:O<|Δ)(ln:E)(pos0 pos:Ξ)(at_ h:U)(k:Δ):M<|YR Av U Ξ:=kS n J v q tree ln pos0 pos at_ h k
variable{J:Ej}{n:E}
def zHs(m:J4 J):zHt<|bo n J:=λv q tree ln pos0 pos at_ e k r h=>YC.ofY (ϙ:=11) (h':=λl o=>I9 o q tree ln pos0 pos at_ e k l) Tryz.func91 (λϘ i ρ0 j z=>by
 replace h:kS n J v q tree ln pos0 pos at_ e k=Z r:=h;unfold kS at h;obtain⟨f,s,h⟩:=GP h;have p:=H0.g zDx|>.c (fb (zHv s)<|I9 v q tree ln pos0 pos at_ e k Ϙ.l)
 refine gs (AK 3<|AK 2 jI) [0,1,2,3,4,5,6,7,8,9,10] p (CW (Af Tryz.f91) 2 []) (AI 28 [(0,.ref 6 0),(3,.ref 8 0),(4,.ref 9 0),(6,.ints f.1),(7,.i f.2)]) (I9 v q tree ln pos0 pos at_ e k Ϙ.l) ?_;rcases B7 h with⟨Y,h⟩|⟨Y,h⟩
 ·refine yO (ops:=Ah Tryz.f91 2) Z5 ?_;refine yT j [0,1] [] 2 (H0.b 20 Y) (AI 28 [(0,.ref 6 0),(3,.ref 8 0),(4,.ref 9 0),(6,.ints f.1)]) (I9 v q tree ln pos0 pos at_ e k Ϙ.l) (Z 21) ?_ z;refine y0 ?_;have p:=H0;refine gs (AK 3<|AK 2 jI) [0,1,2,3,4,5,6,7,8,9,10] p (CW (Af Tryz.f91) 3 []) (AI 28 [(0,.ref 6 0),(3,.ref 8 0),(4,.ref 9 0),(6,.ints f.1)]) (I9 v q tree ln pos0 pos at_ e k Ϙ.l) ?_;obtain⟨t,h⟩:=B8 h;refine yO (ops:=Ah Tryz.f91 3) Z5 ?_;refine yC (ds:=cY f.1 (at_+1) e) (h:=DW v q tree ln pos0) (h':=λl o=>DW o q tree ln pos0 l) (tD':=Wa) j [0,1,2,3,4] [6] 5 (H0.w 25 t) (AI 28 []) (I9 v q tree ln pos0 pos at_ e k Ϙ.l) (Z 27) h z (λa x=>m _ _ _ _ _ _ _ _ a x) λy G r i h z=>?_;refine yE H0 (AI 28 [(5,.i y)]) (I9 G q tree ln pos0 pos at_ e k Ϙ.l) ?_;have p:=H0;cases h;exact yF<|ee (AK 3<|AK 2 jI) [5] [0,1,2,3,4,5,6,7,8,9,10] p
 ·cases h;refine yO (ops:=Ah Tryz.f91 2) Z5 ?_;exact yP j [0,1] [] 2 (H0.b 20 Y) (AI 28 [(0,.ref 6 0),(3,.ref 8 0),(4,.ref 9 0),(6,.ints f.1)]) (I9 v q tree ln pos0 pos at_ e k Ϙ.l)<|Z 21)
def rD:E->O DV:=λ_=>[.ref 10 0,.ref 7 0,.ref 8 0,.ref 6 0,.ref 9 0]
def EU(v:Ξ)(q:AA)(tree:O<|Δ)(ln:E)(pos0 pos:Ξ)(at_ h:U)(k:Δ):E->DH:=λl=>[oI v,Z<|.ro<|AJ q,Z<|.ro [.sl 2 (F tree)<|AM BA tree],Z<|.ro [.msl 0 1 0 ln],Z<|.ro [.ints pos0],Z<|.ro<|AJ q++[.sl 2 (F tree)<|AM BA tree,.msl 0 1 0 ln,.yl l],Z<|.ro [.ref 5 0],Z<|.ro [.ints pos],Z<|.ro [.i at_],Z<|.ro [.i h],Z<|.ro [.i k.1,.i k.2]]
def iz(y:U):DV:=.i y
abbrev zCB:=Ξ->AA->(O<|Δ)->E->Ξ->Ξ->U->U->Δ->M (YR Av U Ξ)
def zCA(f:zCB):Prop:=∀(v:Ξ) (q:AA) (tree:O<|Δ) (ln:E) (pos0 pos:Ξ) (at_ h:U) (k:Δ) (r:YR Av U Ξ),f v q tree ln pos0 pos at_ h k=Z r->YC L GG D4 93 rD (EU v q tree ln pos0 pos at_ h k) (r.1.map Lf) (r.2.1.map iz) (EU r.2.2 q tree ln pos0 pos at_ h k)
def zDM:Ac (Ah Tryz.f93 7) [([0,1,2,3,4,5,6,7],8)] [9,10,11,12,13] []:=Z0
def Ph:BG:=λi=>match i with
 |7=>.ord [([0,1,2,3,4,5,6,7],8)] [9,10,11,12,13] []
 |_=>.no
inductive SO where
 |l1 (x6 D7:U) (o0:Ξ)
def Pc(n:E)(J:Ej)(self:SO->M (YR Av U Ξ))(AU:Ξ)(q:AA)(tree:O<|Δ)(ln:E)(pos0 pos:Ξ)(at_ h:U)(k:Δ)(x6 r:U)(o0:Ξ):M<|YR Av U Ξ:=B (C<|r<q.sy) (u ((0<=k.2/\k.2<(F pos:U))/\(0<=r/\r<=(IntKind.i64.bits:U))) (B (bits .and .i64 (H pos (k.2).toNat 0/2^(r).toNat) 1==1) ((Q3 n q pos k.2 r).bind λe=>B (e.2==0) (u (AG<|h+1) (yb (J e.1 x6 (h+1) o0 q tree ln pos0) λa g=>u (AG<|r+1) (self<|.l1 a (r+1) g) A) A)<|Z ([],A,o0))<|u (AG<|r+1) (self<|.l1 x6 (r+1) o0) A) A)<|Z ([],Z x6,o0)
def NN(n:E)(Aa:Ej)(self:SO->M (YR Av U Ξ))(v:Ξ)(q:AA)(tree:O<|Δ)(ln:E)(pos0 pos:Ξ)(at_ depth:U)(k:Δ):M<|YR Av U Ξ:=B (C<|k.2>=0) (B (C<|k.2<(F pos:U)) ((LJ n pos).bind λe=>B (!e) (u (0<=k.2/\k.2<(F pos:U)) ((VH n<|H pos (k.2).toNat 0).bind λr=>B (C<|r>1) (u (AG<|at_+1) (self<|.l1 (at_+1) 0 v) A)<|Z ([],A,v)) A)<|Z ([],A,v))<|Z ([],A,v))<|Z ([],A,v)
def IU(J:Ej)(v:Ξ)(q:AA)(tree:O<|Δ)(ln:E)(pos0 pos:Ξ)(at_ h:U)(k:Δ):E->SO->M (YR Av U Ξ)
 |0,_=>A
 |n+1,.l1 x6 r o0=>Pc n J (IU J v q tree ln pos0 pos at_ h k n) v q tree ln pos0 pos at_ h k x6 r o0
def iy(Ϙ:Bm L)(ρ0:O AN)(n:E)(AU:Ξ)(q:AA)(tree:O<|Δ)(ln:E)(pos0 pos:Ξ)(at_ h:U)(k:Δ)(r:YR Av U Ξ):SO->Prop
 | .l1 x6 b o0=>∀a:E,n<=a->∀i:E,DR Ϙ Lf i r->TY Ϙ D4 Tryz.f93 11 ρ0 iz (λo=>EU o q tree ln pos0 pos at_ h k Ϙ.l) (Du a<|FU (Af Tryz.f93) 0 []) i r ⟨AI 77 [(0,.ref 10 0),(1,.ref 7 0),(3,.ref 6 0),(4,.ref 9 0),(6,.i x6),(41,.i q.sy),(42,.i b)],[oI o0,Z<|.ro<|AJ q,Z<|.ro [.sl 2 (F tree)<|AM BA tree],Z<|.ro [.msl 0 1 0 ln],Z<|.ro [.ints pos0],Z<|.ro<|AJ q++[.sl 2 (F tree)<|AM BA tree,.msl 0 1 0 ln,.yl Ϙ.l],Z<|.ro [.ref 5 0],Z<|.ro [.ints pos],Z<|.ro [.i at_],Z<|.ro [.i h],Z<|.ro [.i k.1,.i k.2]]⟩
def zB9(Ϙ:Bm L)(t:Ϙ.nv)(ρ0:O AN)(n:E)(J:Ej)(I:J4 J)(self:SO->M (YR Av U Ξ))(v:Ξ)(q:AA)(tree:O<|Δ)(ln:E)(pos0 pos:Ξ)(at_ e:U)(k:Δ)(G:∀x r,self x=Z r->iy Ϙ ρ0 n v q tree ln pos0 pos at_ e k r x)(x6 f:U)(o0:Ξ)(r:YR Av U Ξ)(h:Pc n J self v q tree ln pos0 pos at_ e k x6 f o0=Z r):iy Ϙ ρ0 (n+1) v q tree ln pos0 pos at_ e k r<|.l1 x6 f o0:=by
 intro m s;intro i z;refine rd s λm s=>?_
 unfold Pc at h;have p:=H0;rcases B7 h with⟨Y,h⟩|⟨Y,h⟩
 ·obtain⟨⟨K,N⟩,h⟩:=B8 h;have p:=H0.b 43 Y|>.g K|>.g N
  rcases B7 h with⟨Q,h⟩|⟨Q,h⟩
  ·obtain⟨j,P,h⟩:=GP h;have p:=p.b 53 Q|>.g zDM|>.c (fb (zOD P)<|EU o0 q tree ln pos0 pos at_ e k Ϙ.l)
   refine gs (AK 9<|AK 8<|AK 1 Ph) [0,1,2,3,4,5,6,7,8,9,10] p (CW (Af Tryz.f93) 8 [m]) (AI 77 [(0,.ref 10 0),(1,.ref 7 0),(3,.ref 6 0),(4,.ref 9 0),(6,.i x6),(8,.ints j.1),(9,.i j.2),(41,.i q.sy),(42,.i f)]) (EU o0 q tree ln pos0 pos at_ e k Ϙ.l) ?_;rcases B7 h with⟨Y,h⟩|⟨Y,h⟩
   ·refine yO (ops:=Ah Tryz.f93 8) Z5 ?_;refine yT t [0,1] [] 2 (H0.b 67 Y) (AI 77 [(0,.ref 10 0),(1,.ref 7 0),(3,.ref 6 0),(4,.ref 9 0),(6,.i x6),(8,.ints j.1),(41,.i q.sy),(42,.i f)]) (EU o0 q tree ln pos0 pos at_ e k Ϙ.l) (Z 68) ?_ z;refine y0 ?_;have p:=H0;refine gs (AK 9<|AK 8<|AK 1 Ph) [0,1,2,3,4,5,6,7,8,9,10] p (CW (Af Tryz.f93) 9 [m]) (AI 77 [(0,.ref 10 0),(1,.ref 7 0),(3,.ref 6 0),(4,.ref 9 0),(6,.i x6),(8,.ints j.1),(41,.i q.sy),(42,.i f)]) (EU o0 q tree ln pos0 pos at_ e k Ϙ.l) ?_;obtain⟨y,h⟩:=B8 h;refine yO (ops:=Ah Tryz.f93 9) Z5 ?_;refine yC (ds:=cY j.1 x6<|e+1) (h:=DW o0 q tree ln pos0) (h':=λl o=>DW o q tree ln pos0 l) (tD':=Wa) t [0,1,2,3,4] [6] 5 (H0.w 73 y) (AI 77 [(0,.ref 10 0),(1,.ref 7 0),(3,.ref 6 0),(4,.ref 9 0),(6,.i x6),(41,.i q.sy),(42,.i f)]) (EU o0 q tree ln pos0 pos at_ e k Ϙ.l) (Z 74) h z (λa R=>I _ _ _ _ _ _ _ _ a R) λS V r i h z=>?_;refine yE H0 (AI 77 [(0,.ref 10 0),(1,.ref 7 0),(3,.ref 6 0),(4,.ref 9 0),(6,.i S),(41,.i q.sy),(42,.i f)]) (EU V q tree ln pos0 pos at_ e k Ϙ.l) ?_;obtain⟨W,h⟩:=B8 h;have p:=H0.w 75 W;exact gg (AK 9<|AK 8<|AK 1 Ph) [0,1,2,3,4,5,6,7,8,9,10] p<|G _ _ h m s i z
   ·cases h;refine yO (ops:=Ah Tryz.f93 8) Z5 ?_;exact yP t [0,1] [] 2 (H0.b 67 Y) (AI 77 [(0,.ref 10 0),(1,.ref 7 0),(3,.ref 6 0),(4,.ref 9 0),(6,.i x6),(8,.ints j.1),(41,.i q.sy),(42,.i f)]) (EU o0 q tree ln pos0 pos at_ e k Ϙ.l)<|Z 68
  ·obtain⟨y,h⟩:=B8 h;have p:=p.b 53 Q|>.w 75 y
   exact gg (AK 9<|AK 8<|AK 1 Ph) [0,1,2,3,4,5,6,7,8,9,10] p<|G _ _ h m s i z
 ·have p:=H0.b 43 Y;cases h;exact yF<|ee (AK 9<|AK 8<|AK 1 Ph) [5] [0,1,2,3,4,5,6,7,8,9,10] p
def rF(Ϙ:Bm L)(b:Ϙ.nv)(ρ0:O AN)(J:Ej)(w:J4 J)(v:Ξ)(q:AA)(tree:O<|Δ)(ln:E)(pos0 pos:Ξ)(at_ a:U)(k:Δ):∀(n:E) (s:SO) (r:YR Av U Ξ),IU J v q tree ln pos0 pos at_ a k n s=Z r->iy Ϙ ρ0 n v q tree ln pos0 pos at_ a k r s
 |0,_,_,h=>by cases h
 |n+1,.l1 x6 c o0,r,h=>zB9 Ϙ b ρ0 n J w (IU J v q tree ln pos0 pos at_ a k n) v q tree ln pos0 pos at_ a k (rF Ϙ b ρ0 J w v q tree ln pos0 pos at_ a k n) x6 c o0 r h
def NO(n:E)(J:Ej)(v:Ξ)(q:AA)(tree:O<|Δ)(ln:E)(pos0 pos:Ξ)(at_ h:U)(k:Δ):M<|YR Av U Ξ:=NN n J (IU J v q tree ln pos0 pos at_ h k n) v q tree ln pos0 pos at_ h k
def zB8(t:J4 J):zCA<|NO n J:=λv q tree ln pos0 pos at_ a k r h=>YC.ofY (ϙ:=11) (h':=λl o=>EU o q tree ln pos0 pos at_ a k l) Tryz.func93 (λϘ i ρ0 e z=>by
 replace h:NN n J (IU J v q tree ln pos0 pos at_ a k n) v q tree ln pos0 pos at_ a k=Z r:=h;have G:=rF Ϙ e ρ0 J t v q tree ln pos0 pos at_ a k n;unfold NN at h
 generalize IU J v q tree ln pos0 pos at_ a k n=self at h G
 have p:=H0;refine gs (AK 9<|AK 8<|AK 1 Ph) [0,1,2,3,4,5,6,7,8,9,10] p (CW (Af Tryz.f93) 1 []) (AI 77 [(0,.ref 10 0),(1,.ref 7 0),(2,.ref 8 0),(3,.ref 6 0),(4,.ref 9 0)]) (EU v q tree ln pos0 pos at_ a k Ϙ.l) ?_;rcases B7 h with⟨Y,h⟩|⟨Y,h⟩
 ·rcases B7 h with⟨Q,h⟩|⟨Q,h⟩
  ·obtain⟨y1,j,h⟩:=GP h;rcases B7 h with⟨f,h⟩|⟨f,h⟩
   ·obtain⟨s,h⟩:=B8 h;obtain⟨y2,K,h⟩:=GP h;rcases B7 h with⟨m,h⟩|⟨m,h⟩
    ·refine yO (ops:=Ah Tryz.f93 1) Z5 ?_;refine yT e [0,1,2,3,4,5,6,7,8,9,10,11,12,13,14,15,16,17,18,19,20,21,22,23] [] 24 (H0.b 12 Y|>.b 18 Q|>.c (fb (QV j)<|EU v q tree ln pos0 pos at_ a k Ϙ.l)|>.b 23 f|>.g s|>.c (fb (rX K)<|EU v q tree ln pos0 pos at_ a k Ϙ.l)|>.b 32 m) (AI 77 [(0,.ref 10 0),(1,.ref 7 0),(2,.ref 8 0),(3,.ref 6 0),(4,.ref 9 0)]) (EU v q tree ln pos0 pos at_ a k Ϙ.l) (Z 34) ?_ z;refine y0 ?_;obtain⟨x,h⟩:=B8 h;have p:=H0.w 36 x;exact gg (AK 9<|AK 8<|AK 1 Ph) [0,1,2,3,4,5,6,7,8,9,10] p<|en n<|G _ _ h n χ i z
    ·cases h;refine yO (ops:=Ah Tryz.f93 1) Z5 ?_;exact yP e [0,1,2,3,4,5,6,7,8,9,10,11,12,13,14,15,16,17,18,19,20,21,22,23] [] 24 (H0.b 12 Y|>.b 18 Q|>.c (fb (QV j)<|EU v q tree ln pos0 pos at_ a k Ϙ.l)|>.b 23 f|>.g s|>.c (fb (rX K)<|EU v q tree ln pos0 pos at_ a k Ϙ.l)|>.b 32 m) (AI 77 [(0,.ref 10 0),(1,.ref 7 0),(2,.ref 8 0),(3,.ref 6 0),(4,.ref 9 0)]) (EU v q tree ln pos0 pos at_ a k Ϙ.l)<|Z 34
   ·cases h;refine yO (ops:=Ah Tryz.f93 1) Z5 ?_;exact yP e [0,1,2,3,4,5,6,7,8,9,10,11,12,13,14,15,16,17,18,19,20,21,22,23] [] 24 (H0.b 12 Y|>.b 18 Q|>.c (fb (QV j)<|EU v q tree ln pos0 pos at_ a k Ϙ.l)|>.b 23 f) (AI 77 [(0,.ref 10 0),(1,.ref 7 0),(2,.ref 8 0),(3,.ref 6 0),(4,.ref 9 0)]) (EU v q tree ln pos0 pos at_ a k Ϙ.l)<|Z 34
  ·cases h;refine yO (ops:=Ah Tryz.f93 1) Z5 ?_;exact yP e [0,1,2,3,4,5,6,7,8,9,10,11,12,13,14,15,16,17,18,19,20,21,22,23] [] 24 (H0.b 12 Y|>.b 18 Q) (AI 77 [(0,.ref 10 0),(1,.ref 7 0),(2,.ref 8 0),(3,.ref 6 0),(4,.ref 9 0)]) (EU v q tree ln pos0 pos at_ a k Ϙ.l)<|Z 34
 ·cases h;refine yO (ops:=Ah Tryz.f93 1) Z5 ?_;exact yP e [0,1,2,3,4,5,6,7,8,9,10,11,12,13,14,15,16,17,18,19,20,21,22,23] [] 24 (H0.b 12 Y) (AI 77 [(0,.ref 10 0),(1,.ref 7 0),(2,.ref 8 0),(3,.ref 6 0),(4,.ref 9 0)]) (EU v q tree ln pos0 pos at_ a k Ϙ.l)<|Z 34)
def zc:E->O DV:=λ_=>[.ref 10 0,.ref 7 0,.ref 6 0,.ref 9 0,.ref 8 0]
def IK(v:Ξ)(q:AA)(tree:O<|Δ)(ln:E)(pos0 pos:Ξ)(at_ h:U)(k:Δ):E->DH:=λl=>[oI v,Z<|.ro<|AJ q,Z<|.ro [.sl 2 (F tree)<|AM BA tree],Z<|.ro [.msl 0 1 0 ln],Z<|.ro [.ints pos0],Z<|.ro<|AJ q++[.sl 2 (F tree)<|AM BA tree,.msl 0 1 0 ln,.yl l],Z<|.ro [.ref 5 0],Z<|.ro [.ints pos],Z<|.ro [.i at_],Z<|.ro [.i h],Z<|.ro [.i k.1,.i k.2]]
def zd(y:U):DV:=.i y
abbrev zPK:=Ξ->AA->(O<|Δ)->E->Ξ->Ξ->U->U->Δ->M (YR Av U Ξ)
def zPJ(f:zPK):Prop:=∀(v:Ξ) (q:AA) (tree:O<|Δ) (ln:E) (pos0 pos:Ξ) (at_ h:U) (k:Δ) (r:YR Av U Ξ),f v q tree ln pos0 pos at_ h k=Z r->YC L GG D4 94 zc (IK v q tree ln pos0 pos at_ h k) (r.1.map Lf) (r.2.1.map zd) (IK r.2.2 q tree ln pos0 pos at_ h k)
def US(n:E)(Aa:Ej)(v:Ξ)(q:AA)(tree:O<|Δ)(ln:E)(pos0 pos:Ξ)(at_ h:U)(k:Δ):M<|YR Av U Ξ:=B (k.2==0) ((LJ n pos).bind λe=>B e (u (F pos=F (d (F pos) (0:U))/\(((F pos:U):U)=(F pos:U)/\0<=(F pos:U)/\((F pos:U):U)<=1000000000000)) (yx (d (F pos) (0:U),([]:Ξ),h)<|u (AG<|at_+1) (Z ([],Z<|at_+1,v)) A) A)<|Z ([],A,v))<|Z ([],A,v)
def UT(n:E)(J:Ej)(v:Ξ)(q:AA)(tree:O<|Δ)(ln:E)(pos0 pos:Ξ)(at_ h:U)(k:Δ):M<|YR Av U Ξ:=US n J v q tree ln pos0 pos at_ h k
def zPI(Be:J4 J):zPJ<|UT n J:=λv q tree ln pos0 pos at_ a k r h=>YC.ofY (ϙ:=11) (h':=λl o=>IK o q tree ln pos0 pos at_ a k l) Tryz.func94 (λϘ i ρ0 e f=>by
 replace h:US n J v q tree ln pos0 pos at_ a k=Z r:=h;unfold US at h;have p:=H0;refine gs (AK 2<|AK 1 AC) [0,1,2,3,4,5,6,7,8,9,10] p (CW (Af Tryz.f94) 1 []) (AI 26 [(0,.ref 10 0),(1,.ref 7 0),(2,.ref 6 0),(3,.ref 9 0),(4,.ref 8 0)]) (IK v q tree ln pos0 pos at_ a k Ϙ.l) ?_;rcases B7 h with⟨Y,h⟩|⟨Y,h⟩
 ·obtain⟨y1,j,h⟩:=GP h;rcases B7 h with⟨Q,h⟩|⟨Q,h⟩
  ·refine yO (ops:=Ah Tryz.f94 1) Z5 ?_;refine yT e [0,1,2,3,4,5,6] [] 7 (H0.b 8 Y|>.c (fb (QV j)<|IK v q tree ln pos0 pos at_ a k Ϙ.l)|>.b 11 Q) (AI 26 [(1,.ref 7 0),(2,.ref 6 0),(3,.ref 9 0),(4,.ref 8 0)]) (IK v q tree ln pos0 pos at_ a k Ϙ.l) (Z 13) ?_ f;refine y0 ?_;have p:=H0;refine gs (AK 2<|AK 1 AC) [0,1,2,3,4,5,6,7,8,9,10] p (CW (Af Tryz.f94) 2 []) (AI 26 [(1,.ref 7 0),(2,.ref 6 0),(3,.ref 9 0),(4,.ref 8 0)]) (IK v q tree ln pos0 pos at_ a k Ϙ.l) ?_;obtain⟨⟨m,s⟩,h⟩:=B8 h;refine yD (ops:=Ah Tryz.f94 2) [([0,1,2,3,4,5,7],6)] [8] [9] (H0.g s|>.z 20 11|>.g m|>.o 22 (AO.aggL (l:=[.ints<|d (F pos) (0:U),.nils,.i a]) (l':=[.ints<|d (F pos) (0:U),.ints ([]:Ξ),.i a]) rfl ⟨Ab,AO.ints_nil,Ab,trivial⟩)) (AI 26 [(4,.ref 8 0),(17,.yl Ϙ.l),(22,.agg 3<|L1 [.ints<|d (F pos) (0:U),.ints ([]:Ξ),.i a])]) (IK v q tree ln pos0 pos at_ a k Ϙ.l++[A]) ?_;refine yY e [] [] 9 H0 (AI 26 [(4,.ref 8 0)]) (IK v q tree ln pos0 pos at_ a k Ϙ.l++[A]) (Z 23) h f λr i h f=>?_
   refine y0 ?_;obtain⟨y,h⟩:=B8 h;have p:=H0.w 25 y;cases h;exact yF<|ee (AK 2<|AK 1 AC) [5] [0,1,2,3,4,5,6,7,8,9,10] p
  ·cases h;refine yO (ops:=Ah Tryz.f94 1) Z5 ?_;exact yP e [0,1,2,3,4,5,6] [] 7 (H0.b 8 Y|>.c (fb (QV j)<|IK v q tree ln pos0 pos at_ a k Ϙ.l)|>.b 11 Q) (AI 26 [(1,.ref 7 0),(2,.ref 6 0),(3,.ref 9 0),(4,.ref 8 0)]) (IK v q tree ln pos0 pos at_ a k Ϙ.l)<|Z 13
 ·cases h;refine yO (ops:=Ah Tryz.f94 1) Z5 ?_;exact yP e [0,1,2,3,4,5,6] [] 7 (H0.b 8 Y) (AI 26 [(1,.ref 7 0),(2,.ref 6 0),(3,.ref 9 0),(4,.ref 8 0)]) (IK v q tree ln pos0 pos at_ a k Ϙ.l)<|Z 13)
def zR:E->O DV:=λ_=>[.ref 7 0,.ref 10 0,.ref 6 0,.ref 9 0,.ref 8 0]
def GN(v:Ξ)(q:AA)(tree:O<|Δ)(ln:E)(pos0 pos:Ξ)(at_ h:U)(k:Δ):E->DH:=λl=>[oI v,Z<|.ro<|AJ q,Z<|.ro [.sl 2 (F tree)<|AM BA tree],Z<|.ro [.msl 0 1 0 ln],Z<|.ro [.ints pos0],Z<|.ro<|AJ q++[.sl 2 (F tree)<|AM BA tree,.msl 0 1 0 ln,.yl l],Z<|.ro [.ref 5 0],Z<|.ro [.ints pos],Z<|.ro [.i at_],Z<|.ro [.i h],Z<|.ro [.i k.1,.i k.2]]
def zS(y:U):DV:=.i y
abbrev zOs:=Ξ->AA->(O<|Δ)->E->Ξ->Ξ->U->U->Δ->M (YR Av U Ξ)
def zOr(f:zOs):Prop:=∀(v:Ξ) (q:AA) (tree:O<|Δ) (ln:E) (pos0 pos:Ξ) (at_ h:U) (k:Δ) (r:YR Av U Ξ),f v q tree ln pos0 pos at_ h k=Z r->YC L GG D4 95 zR (GN v q tree ln pos0 pos at_ h k) (r.1.map Lf) (r.2.1.map zS) (GN r.2.2 q tree ln pos0 pos at_ h k)
def Q8(n:E)(Aa:Ej)(v:Ξ)(q:AA)(tree:O<|Δ)(ln:E)(pos0 pos:Ξ)(at_ h:U)(k:Δ):M<|YR Av U Ξ:=(Zh n pos).bind λe=>B (k.2==0) (B e.2 ((Pf n q e.1).bind λr=>B (r.2==0) (B r.1 (yx (pos,e.1,h)<|u (AG<|at_+1) (Z ([],Z<|at_+1,v)) A)<|Z ([],A,v))<|Z ([],A,v))<|Z ([],A,v))<|Z ([],A,v)
def Q9(n:E)(J:Ej)(v:Ξ)(q:AA)(tree:O<|Δ)(ln:E)(pos0 pos:Ξ)(at_ h:U)(k:Δ):M<|YR Av U Ξ:=Q8 n J v q tree ln pos0 pos at_ h k
def zOq(Be:J4 J):zOr<|Q9 n J:=λv q tree ln pos0 pos at_ a k r h=>YC.ofY (ϙ:=11) (h':=λl o=>GN o q tree ln pos0 pos at_ a k l) Tryz.func95 (λϘ i ρ0 f z=>by
 replace h:Q8 n J v q tree ln pos0 pos at_ a k=Z r:=h;unfold Q8 at h;obtain⟨e,j,h⟩:=GP h;have p:=H0.c<|fb (zCT j)<|GN v q tree ln pos0 pos at_ a k Ϙ.l;refine gs (AK 5<|AK 4<|AK 2 AC) [0,1,2,3,4,5,6,7,8,9,10] p (CW (Af Tryz.f95) 2 []) (AI 48 [(0,.ref 7 0),(1,.ref 10 0),(2,.ref 6 0),(3,.ref 9 0),(4,.ref 8 0),(6,.ints e.1),(7,.bool e.2)]) (GN v q tree ln pos0 pos at_ a k Ϙ.l) ?_;rcases B7 h with⟨Y,h⟩|⟨Y,h⟩
 ·rcases B7 h with⟨Q,h⟩|⟨Q,h⟩
  ·rw[Q];refine yO (ops:=Ah Tryz.f95 2) Z5 ?_;refine yT f [0,1,2,3,4,5] [] 6 (H0.b 17 Y) (AI 48 [(0,.ref 7 0),(2,.ref 6 0),(3,.ref 9 0),(4,.ref 8 0),(6,.ints e.1)]) (GN v q tree ln pos0 pos at_ a k Ϙ.l) (Z 21) ?_ z;refine y0 ?_;obtain⟨g,K,h⟩:=GP h;have p:=H0.c<|fb (zCL K)<|GN v q tree ln pos0 pos at_ a k Ϙ.l;refine gs (AK 5<|AK 4<|AK 2 AC) [0,1,2,3,4,5,6,7,8,9,10] p (CW (Af Tryz.f95) 4 []) (AI 48 [(0,.ref 7 0),(2,.ref 6 0),(3,.ref 9 0),(4,.ref 8 0),(6,.ints e.1),(8,.bool g.1),(9,.i g.2)]) (GN v q tree ln pos0 pos at_ a k Ϙ.l) ?_;rcases B7 h with⟨Y,h⟩|⟨Y,h⟩
   ·rcases B7 h with⟨Q,h⟩|⟨Q,h⟩
    ·rw[Q];refine yO (ops:=Ah Tryz.f95 4) Z5 ?_;refine yT f [0,1,2,3,4] [] 5 (H0.b 32 Y) (AI 48 [(0,.ref 7 0),(2,.ref 6 0),(3,.ref 9 0),(4,.ref 8 0),(6,.ints e.1)]) (GN v q tree ln pos0 pos at_ a k Ϙ.l) (Z 36) ?_ z;refine y0 ?_;have p:=H0;refine gs (AK 5<|AK 4<|AK 2 AC) [0,1,2,3,4,5,6,7,8,9,10] p (CW (Af Tryz.f95) 5 []) (AI 48 [(0,.ref 7 0),(2,.ref 6 0),(3,.ref 9 0),(4,.ref 8 0),(6,.ints e.1)]) (GN v q tree ln pos0 pos at_ a k Ϙ.l) ?_;refine yD (ops:=Ah Tryz.f95 5) [] [0,1,2,3,4,5,6,7] [8] H0 (AI 48 [(4,.ref 8 0),(40,.yl Ϙ.l),(44,.agg 3<|L1 [.ints pos,.ints e.1,.i a])]) (GN v q tree ln pos0 pos at_ a k Ϙ.l) ?_;refine yY f [] [] 8 H0 (AI 48 [(4,.ref 8 0)]) (GN v q tree ln pos0 pos at_ a k Ϙ.l) (Z 45) h z λr i h z=>?_
     refine y0 ?_;obtain⟨m,h⟩:=B8 h;have p:=H0.w 47 m;cases h;exact yF<|ee (AK 5<|AK 4<|AK 2 AC) [5] [0,1,2,3,4,5,6,7,8,9,10] p
    ·rw[Q];cases h;refine yO (ops:=Ah Tryz.f95 4) Z5 ?_;exact yP f [0,1,2,3,4] [] 5 (H0.b 32 Y) (AI 48 [(0,.ref 7 0),(2,.ref 6 0),(3,.ref 9 0),(4,.ref 8 0),(6,.ints e.1)]) (GN v q tree ln pos0 pos at_ a k Ϙ.l)<|Z 36
   ·cases h;refine yO (ops:=Ah Tryz.f95 4) Z5 ?_;exact yP f [0,1,2,3,4] [] 5 (H0.b 32 Y) (AI 48 [(0,.ref 7 0),(2,.ref 6 0),(3,.ref 9 0),(4,.ref 8 0),(6,.ints e.1)]) (GN v q tree ln pos0 pos at_ a k Ϙ.l)<|Z 36
  ·rw[Q];cases h;refine yO (ops:=Ah Tryz.f95 2) Z5 ?_;exact yP f [0,1,2,3,4,5] [] 6 (H0.b 17 Y) (AI 48 [(0,.ref 7 0),(2,.ref 6 0),(3,.ref 9 0),(4,.ref 8 0),(6,.ints e.1)]) (GN v q tree ln pos0 pos at_ a k Ϙ.l)<|Z 21
 ·cases h;refine yO (ops:=Ah Tryz.f95 2) Z5 ?_;exact yP f [0,1,2,3,4,5] [] 6 (H0.b 17 Y) (AI 48 [(0,.ref 7 0),(2,.ref 6 0),(3,.ref 9 0),(4,.ref 8 0),(6,.ints e.1)]) (GN v q tree ln pos0 pos at_ a k Ϙ.l)<|Z 21)
def zEC:Ac (Ah Tryz.f55 2) [([0,1,2,3,4,5,6],7)] [] [8]:=Z0
def zEB:Ac (Ah Tryz.f55 6) [] (θ 8) []:=Z0
def NY:BG:=λi=>match i with
 |2=>.ord [([0,1,2,3,4,5,6],7)] [] [8]
 |6=>.ord [] (θ 8) []
 |_=>.no
inductive TT where
 |l1 (o0:Ξ)
def WZ(n:E)(Aa:Ej)(self:TT->M (YR Av U Ξ))(pos:Ξ)(at_ depth:U)(AU:Ξ)(q:AA)(tree:O<|Δ)(ln:E)(pos0:Ξ)(o0:Ξ):M<|YR Av U Ξ:=u ((0<=at_/\at_<(ln:U))/\0+at_.toNat<F o0) (Z ([],Z<|H o0 (0+at_.toNat) 0,o0)) A
def FL(n:E)(J:Ej)(self:TT->M (YR Av U Ξ))(pos:Ξ)(at_ h:U)(v:Ξ)(q:AA)(tree:O<|Δ)(ln:E)(pos0:Ξ):M<|YR Av U Ξ:=B (C<|at_<(F tree:U)) (u (0<=at_/\at_<(F tree:U)) (B (C<|(H tree at_.toNat ξ).1>=1) (B (C<|(H tree at_.toNat ξ).1<=4) (B ((H tree at_.toNat ξ).1==0) A<|B ((H tree at_.toNat ξ).1==1) (yb (bo n J v q tree ln pos0 pos at_ h<|H tree at_.toNat ξ) λe o1=>u ((0<=at_/\at_<(ln:U))/\0+at_.toNat<F o1) (self<|.l1<|o1.set (0+at_.toNat) e) A)<|B ((H tree at_.toNat ξ).1==2) (yb (NO n J v q tree ln pos0 pos at_ h<|H tree at_.toNat ξ) λe o1=>u ((0<=at_/\at_<(ln:U))/\0+at_.toNat<F o1) (self<|.l1<|o1.set (0+at_.toNat) e) A)<|B ((H tree at_.toNat ξ).1==3) (yb (UT n J v q tree ln pos0 pos at_ h<|H tree at_.toNat ξ) λe o1=>u ((0<=at_/\at_<(ln:U))/\0+at_.toNat<F o1) (self<|.l1<|o1.set (0+at_.toNat) e) A)<|B ((H tree at_.toNat ξ).1==4) (yb (Q9 n J v q tree ln pos0 pos at_ h<|H tree at_.toNat ξ) λe o1=>u ((0<=at_/\at_<(ln:U))/\0+at_.toNat<F o1) (self<|.l1<|o1.set (0+at_.toNat) e) A) A)<|Z ([],A,v))<|Z ([],A,v)) A)<|Z ([],A,v)
def E6(J:Ej)(pos:Ξ)(at_ h:U)(v:Ξ)(q:AA)(tree:O<|Δ)(ln:E)(pos0:Ξ):E->TT->M (YR Av U Ξ)
 |0,_=>A
 |n+1,.l1 o0=>WZ n J (E6 J pos at_ h v q tree ln pos0 n) pos at_ h v q tree ln pos0 o0
def k6(Ϙ:Bm L)(ρ0:O AN)(n:E)(pos:Ξ)(at_ depth:U)(AU:Ξ)(q:AA)(tree:O<|Δ)(ln:E)(pos0:Ξ)(r:YR Av U Ξ):TT->Prop
 | .l1 o0=>∀i:E,DR Ϙ Lf i r->TY Ϙ D4 Tryz.f55 6 ρ0 Wa (λo=>DW o q tree ln pos0 Ϙ.l) (CW (Af Tryz.f55) 6 []) i r ⟨AI 58 [(4,.ref 6 0),(6,.ref 7 0)],[oI o0,Z<|.ro<|AJ q,Z<|.ro [.sl 2 (F tree)<|AM BA tree],Z<|.ro [.msl 0 1 0 ln],Z<|.ro [.ints pos0],Z<|.ro<|AJ q++[.sl 2 (F tree)<|AM BA tree,.msl 0 1 0 ln,.yl Ϙ.l],Z<|.ro [.ref 5 0],Z<|.ro [.i at_]]⟩
def zIk(Ϙ:Bm L)(hn:Ϙ.nv)(ρ0:O AN)(n:E)(J:Ej)(Be:J4 J)(self:TT->M (YR Av U Ξ))(pos:Ξ)(at_ a:U)(v:Ξ)(q:AA)(tree:O<|Δ)(ln:E)(pos0:Ξ)(AF:∀s r,self s=Z r->k6 Ϙ ρ0 n pos at_ a v q tree ln pos0 r s)(o0:Ξ)(r:YR Av U Ξ)(h:WZ n J self pos at_ a v q tree ln pos0 o0=Z r):k6 Ϙ ρ0 (n+1) pos at_ a v q tree ln pos0 r<|.l1 o0:=by
 intro i hd;unfold WZ at h;obtain⟨⟨j,b⟩,h⟩:=B8 h;have p:=H0.g zEB|>.g j|>.g b
 cases h;exact yF<|ee (AK 5<|AK 4<|AK 1 NY) [8] [0,1,2,3,4,5] p
def vd(Ϙ:Bm L)(b:Ϙ.nv)(ρ0:O AN)(J:Ej)(w:J4 J)(pos:Ξ)(at_ a:U)(v:Ξ)(q:AA)(tree:O<|Δ)(ln:E)(pos0:Ξ):∀(n:E) (s:TT) (r:YR Av U Ξ),E6 J pos at_ a v q tree ln pos0 n s=Z r->k6 Ϙ ρ0 n pos at_ a v q tree ln pos0 r s
 |0,_,_,h=>by cases h
 |n+1,.l1 o0,r,h=>zIk Ϙ b ρ0 n J w (E6 J pos at_ a v q tree ln pos0 n) pos at_ a v q tree ln pos0 (vd Ϙ b ρ0 J w pos at_ a v q tree ln pos0 n) o0 r h
def Bu:E->Ξ->U->U->Ξ->AA->(O<|Δ)->E->Ξ->M (YR Av U Ξ)
 |0,_,_,_,_,_,_,_,_=>A
 |n+1,pos,at_,h,v,q,tree,ln,pos0=>FL n (Bu n) (E6 (Bu n) pos at_ h v q tree ln pos0 n) pos at_ h v q tree ln pos0
def zIj(w:J4 J):J4 λpos at_ c v q tree ln pos0=>FL n J (E6 J pos at_ c v q tree ln pos0 n) pos at_ c v q tree ln pos0:=λpos at_ c v q tree ln pos0 r h=>YC.ofY (ϙ:=6) (h':=λl o=>DW o q tree ln pos0 l) Tryz.func55 (λϘ i ρ0 e z=>by
 replace h:FL n J (E6 J pos at_ c v q tree ln pos0 n) pos at_ c v q tree ln pos0=Z r:=h;have G:=vd Ϙ e ρ0 J w pos at_ c v q tree ln pos0 n;unfold FL at h
 generalize E6 J pos at_ c v q tree ln pos0 n=self at h G
 have p:=H0;refine gs (AK 6<|AK 5<|AK 4<|AK 1 NY) [0,1,2,3,4,5,6,7,8,9] p (CW (Af Tryz.f55) 1 []) (AI 58 [(4,.ref 6 0),(5,.ref 7 0),(6,.ref 8 0),(7,.ref 9 0)]) (DW v q tree ln pos0 Ϙ.l++[oC [.ref 5 0],oC [.ints pos],oC [.i at_],oC [.i c]]) ?_;rcases B7 h with⟨Y,h⟩|⟨Y,h⟩
 ·refine yD (ops:=Ah Tryz.f55 1) [] [0,1,2,3,4,5,6] [7] (H0.b 17 Y) (AI 58 [(4,.ref 6 0),(5,.ref 7 0),(6,.ref 8 0),(7,.ref 9 0),(17,.bool D)]) (DW v q tree ln pos0 Ϙ.l++[oC [.ref 5 0],oC [.ints pos],oC [.i at_],oC [.i c]]) ?_;refine yT e [] [] 7 H0 (AI 58 [(4,.ref 6 0),(5,.ref 7 0),(6,.ref 8 0),(7,.ref 9 0)]) (DW v q tree ln pos0 Ϙ.l++[oC [.ref 5 0],oC [.ints pos],oC [.i at_],oC [.i c]]) (Z 18) ?_ z;refine y0 ?_;obtain⟨K,h⟩:=B8 h;have p:=H0.g zEC|>.g K|>.t|>.t
  refine gs (AK 6<|AK 5<|AK 4<|AK 1 NY) [0,1,2,3,4,5,6,7,8,9,10,11] p (CW (Af Tryz.f55) 4 []) (AI 58 [(4,.ref 6 0),(6,.ref 8 0),(9,.ref 10 0),(10,.ref 11 0)]) (DW v q tree ln pos0 Ϙ.l++[oC [.ref 5 0],oC [.ints pos],oC [.i at_],oC [.i c],oC [.i<|(H tree at_.toNat ξ).1,.i<|(H tree at_.toNat ξ).2],oC [.cst .nilFunc,.fn 91 5<|L1 [.ref 6 0,.ref 10 0,.ref 7 0,.ref 8 0,.ref 9 0],.fn 93 5<|L1 [.ref 10 0,.ref 7 0,.ref 8 0,.ref 6 0,.ref 9 0],.fn 94 5<|L1 [.ref 10 0,.ref 7 0,.ref 6 0,.ref 9 0,.ref 8 0],.fn 95 5<|L1 [.ref 7 0,.ref 10 0,.ref 6 0,.ref 9 0,.ref 8 0]]]) ?_;rcases B7 h with⟨Y,h⟩|⟨Y,h⟩
  ·rcases B7 h with⟨Q,h⟩|⟨Q,h⟩
   ·refine yO (ops:=Ah Tryz.f55 4) Z5 ?_;refine yT e [0,1,2,3,4,5,6,7] [] 8 (H0.b 33 Y|>.b 37 Q) (AI 58 [(4,.ref 6 0),(6,.ref 8 0),(9,.ref 10 0),(10,.ref 11 0)]) (DW v q tree ln pos0 Ϙ.l++[oC [.ref 5 0],oC [.ints pos],oC [.i at_],oC [.i c],oC [.i<|(H tree at_.toNat ξ).1,.i<|(H tree at_.toNat ξ).2],oC [.cst .nilFunc,.fn 91 5<|L1 [.ref 6 0,.ref 10 0,.ref 7 0,.ref 8 0,.ref 9 0],.fn 93 5<|L1 [.ref 10 0,.ref 7 0,.ref 8 0,.ref 6 0,.ref 9 0],.fn 94 5<|L1 [.ref 10 0,.ref 7 0,.ref 6 0,.ref 9 0,.ref 8 0],.fn 95 5<|L1 [.ref 7 0,.ref 10 0,.ref 6 0,.ref 9 0,.ref 8 0]]]) (Z 39) ?_ z;refine y0 ?_;have p:=H0;refine gs (AK 6<|AK 5<|AK 4<|AK 1 NY) [0,1,2,3,4,5,6,7,8,9,10,11] p (CW (Af Tryz.f55) 5 []) (AI 58 [(4,.ref 6 0),(6,.ref 8 0),(9,.ref 10 0),(10,.ref 11 0)]) (DW v q tree ln pos0 Ϙ.l++[oC [.ref 5 0],oC [.ints pos],oC [.i at_],oC [.i c],oC [.i<|(H tree at_.toNat ξ).1,.i<|(H tree at_.toNat ξ).2],oC [.cst .nilFunc,.fn 91 5<|L1 [.ref 6 0,.ref 10 0,.ref 7 0,.ref 8 0,.ref 9 0],.fn 93 5<|L1 [.ref 10 0,.ref 7 0,.ref 8 0,.ref 6 0,.ref 9 0],.fn 94 5<|L1 [.ref 10 0,.ref 7 0,.ref 6 0,.ref 9 0,.ref 8 0],.fn 95 5<|L1 [.ref 7 0,.ref 10 0,.ref 6 0,.ref 9 0,.ref 8 0]]]) ?_;refine pW [6,7,8,9,10,11] (DW v q tree ln pos0 Ϙ.l++[Z<|.ro [.ref 5 0],Z<|.ro [.ints pos],Z<|.ro [.i at_],Z<|.ro [.i c],Z<|.ro [.i<|(H tree at_.toNat ξ).1,.i<|(H tree at_.toNat ξ).2],Z<|.ro [.cst .nilFunc,.fn 91 5<|L1 [.ref 6 0,.ref 10 0,.ref 7 0,.ref 8 0,.ref 9 0],.fn 93 5<|L1 [.ref 10 0,.ref 7 0,.ref 8 0,.ref 6 0,.ref 9 0],.fn 94 5<|L1 [.ref 10 0,.ref 7 0,.ref 6 0,.ref 9 0,.ref 8 0],.fn 95 5<|L1 [.ref 7 0,.ref 10 0,.ref 6 0,.ref 9 0,.ref 8 0]]]) ?_;rcases B7 h with⟨Y,h⟩|⟨Y,h⟩
    ·cases h
    ·rcases B7 h with⟨m,h⟩|⟨m,h⟩
     ·refine yR (ops:=Ah Tryz.f55 5) (ds:=ug) (hc:=I9 v q tree ln pos0 pos at_ c<|H tree at_.toNat ξ) (h':=λl o=>I9 o q tree ln pos0 pos at_ c (H tree at_.toNat ξ) l) (tD':=uh) e [0,1,2,3,4,5,6,7,8] [10,11] [0] 9 (H0.o 46 (AO.int (k:=.i64)<|zMo m)|>.g (by decide:(0:U)<=1/\1<((5:E):U))) (AI 58 [(4,.ref 6 0),(6,.ref 8 0),(43,.msl 0 1 0 ln),(44,.i at_)]) (DW v q tree ln pos0 Ϙ.l++[Z<|.ro [.ref 5 0],Z<|.ro [.ints pos],Z<|.ro [.i at_],Z<|.ro [.i c],Z<|.ro [.i<|(H tree at_.toNat ξ).1,.i<|(H tree at_.toNat ξ).2],Z<|.ro [.cst .nilFunc,.fn 91 5<|L1 [.ref 6 0,.ref 10 0,.ref 7 0,.ref 8 0,.ref 9 0],.fn 93 5<|L1 [.ref 10 0,.ref 7 0,.ref 8 0,.ref 6 0,.ref 9 0],.fn 94 5<|L1 [.ref 10 0,.ref 7 0,.ref 6 0,.ref 9 0,.ref 8 0],.fn 95 5<|L1 [.ref 7 0,.ref 10 0,.ref 6 0,.ref 9 0,.ref 8 0]]]) (Z 49) h z (λa f=>zHs w _ _ _ _ _ _ _ _ _ a f) λj o1 r i h z=>?_;obtain⟨⟨s,y⟩,h⟩:=B8 h;refine yE (H0.g s|>.g y) (AI 58 [(4,.ref 6 0),(6,.ref 8 0)]) (DW (o1.set (0+at_.toNat) j) q tree ln pos0 Ϙ.l++[Z<|.ro [.ref 5 0],Z<|.ro [.ints pos],Z<|.ro [.i at_],Z<|.ro [.i c],Z<|.ro [.i<|(H tree at_.toNat ξ).1,.i<|(H tree at_.toNat ξ).2],Z<|.ro [.cst .nilFunc,.fn 91 5<|L1 [.ref 6 0,.ref 10 0,.ref 7 0,.ref 8 0,.ref 9 0],.fn 93 5<|L1 [.ref 10 0,.ref 7 0,.ref 8 0,.ref 6 0,.ref 9 0],.fn 94 5<|L1 [.ref 10 0,.ref 7 0,.ref 6 0,.ref 9 0,.ref 8 0],.fn 95 5<|L1 [.ref 7 0,.ref 10 0,.ref 6 0,.ref 9 0,.ref 8 0]]]) ?_;have p:=H0;exact gg (AK 6<|AK 5<|AK 4<|AK 1 NY) [0,1,2,3,4,5,6,8] p<|G _ _ h i z
     ·rcases B7 h with⟨x,h⟩|⟨x,h⟩
      ·refine yR (ops:=Ah Tryz.f55 5) (ds:=rD) (hc:=EU v q tree ln pos0 pos at_ c<|H tree at_.toNat ξ) (h':=λl o=>EU o q tree ln pos0 pos at_ c (H tree at_.toNat ξ) l) (tD':=iz) e [0,1,2,3,4,5,6,7,8] [10,11] [0] 9 (H0.o 46 (AO.int (k:=.i64)<|zMo x)|>.g (by decide:(0:U)<=2/\2<((5:E):U))) (AI 58 [(4,.ref 6 0),(6,.ref 8 0),(43,.msl 0 1 0 ln),(44,.i at_)]) (DW v q tree ln pos0 Ϙ.l++[Z<|.ro [.ref 5 0],Z<|.ro [.ints pos],Z<|.ro [.i at_],Z<|.ro [.i c],Z<|.ro [.i<|(H tree at_.toNat ξ).1,.i<|(H tree at_.toNat ξ).2],Z<|.ro [.cst .nilFunc,.fn 91 5<|L1 [.ref 6 0,.ref 10 0,.ref 7 0,.ref 8 0,.ref 9 0],.fn 93 5<|L1 [.ref 10 0,.ref 7 0,.ref 8 0,.ref 6 0,.ref 9 0],.fn 94 5<|L1 [.ref 10 0,.ref 7 0,.ref 6 0,.ref 9 0,.ref 8 0],.fn 95 5<|L1 [.ref 7 0,.ref 10 0,.ref 6 0,.ref 9 0,.ref 8 0]]]) (Z 49) h z (λa f=>zB8 w _ _ _ _ _ _ _ _ _ a f) λj o1 r i h z=>?_;obtain⟨⟨s,y⟩,h⟩:=B8 h;refine yE (H0.g s|>.g y) (AI 58 [(4,.ref 6 0),(6,.ref 8 0)]) (DW (o1.set (0+at_.toNat) j) q tree ln pos0 Ϙ.l++[Z<|.ro [.ref 5 0],Z<|.ro [.ints pos],Z<|.ro [.i at_],Z<|.ro [.i c],Z<|.ro [.i<|(H tree at_.toNat ξ).1,.i<|(H tree at_.toNat ξ).2],Z<|.ro [.cst .nilFunc,.fn 91 5<|L1 [.ref 6 0,.ref 10 0,.ref 7 0,.ref 8 0,.ref 9 0],.fn 93 5<|L1 [.ref 10 0,.ref 7 0,.ref 8 0,.ref 6 0,.ref 9 0],.fn 94 5<|L1 [.ref 10 0,.ref 7 0,.ref 6 0,.ref 9 0,.ref 8 0],.fn 95 5<|L1 [.ref 7 0,.ref 10 0,.ref 6 0,.ref 9 0,.ref 8 0]]]) ?_;have p:=H0;exact gg (AK 6<|AK 5<|AK 4<|AK 1 NY) [0,1,2,3,4,5,6,8] p<|G _ _ h i z
      ·rcases B7 h with⟨W,h⟩|⟨W,h⟩
       ·refine yR (ops:=Ah Tryz.f55 5) (ds:=zc) (hc:=IK v q tree ln pos0 pos at_ c<|H tree at_.toNat ξ) (h':=λl o=>IK o q tree ln pos0 pos at_ c (H tree at_.toNat ξ) l) (tD':=zd) e [0,1,2,3,4,5,6,7,8] [10,11] [0] 9 (H0.o 46 (AO.int (k:=.i64)<|zMo W)|>.g (by decide:(0:U)<=3/\3<((5:E):U))) (AI 58 [(4,.ref 6 0),(6,.ref 8 0),(43,.msl 0 1 0 ln),(44,.i at_)]) (DW v q tree ln pos0 Ϙ.l++[Z<|.ro [.ref 5 0],Z<|.ro [.ints pos],Z<|.ro [.i at_],Z<|.ro [.i c],Z<|.ro [.i<|(H tree at_.toNat ξ).1,.i<|(H tree at_.toNat ξ).2],Z<|.ro [.cst .nilFunc,.fn 91 5<|L1 [.ref 6 0,.ref 10 0,.ref 7 0,.ref 8 0,.ref 9 0],.fn 93 5<|L1 [.ref 10 0,.ref 7 0,.ref 8 0,.ref 6 0,.ref 9 0],.fn 94 5<|L1 [.ref 10 0,.ref 7 0,.ref 6 0,.ref 9 0,.ref 8 0],.fn 95 5<|L1 [.ref 7 0,.ref 10 0,.ref 6 0,.ref 9 0,.ref 8 0]]]) (Z 49) h z (λa f=>zPI w _ _ _ _ _ _ _ _ _ a f) λj o1 r i h z=>?_;obtain⟨⟨s,y⟩,h⟩:=B8 h;refine yE (H0.g s|>.g y) (AI 58 [(4,.ref 6 0),(6,.ref 8 0)]) (DW (o1.set (0+at_.toNat) j) q tree ln pos0 Ϙ.l++[Z<|.ro [.ref 5 0],Z<|.ro [.ints pos],Z<|.ro [.i at_],Z<|.ro [.i c],Z<|.ro [.i<|(H tree at_.toNat ξ).1,.i<|(H tree at_.toNat ξ).2],Z<|.ro [.cst .nilFunc,.fn 91 5<|L1 [.ref 6 0,.ref 10 0,.ref 7 0,.ref 8 0,.ref 9 0],.fn 93 5<|L1 [.ref 10 0,.ref 7 0,.ref 8 0,.ref 6 0,.ref 9 0],.fn 94 5<|L1 [.ref 10 0,.ref 7 0,.ref 6 0,.ref 9 0,.ref 8 0],.fn 95 5<|L1 [.ref 7 0,.ref 10 0,.ref 6 0,.ref 9 0,.ref 8 0]]]) ?_;have p:=H0;exact gg (AK 6<|AK 5<|AK 4<|AK 1 NY) [0,1,2,3,4,5,6,8] p<|G _ _ h i z
       ·rcases B7 h with⟨I,h⟩|⟨I,h⟩
        ·refine yR (ops:=Ah Tryz.f55 5) (ds:=zR) (hc:=GN v q tree ln pos0 pos at_ c<|H tree at_.toNat ξ) (h':=λl o=>GN o q tree ln pos0 pos at_ c (H tree at_.toNat ξ) l) (tD':=zS) e [0,1,2,3,4,5,6,7,8] [10,11] [0] 9 (H0.o 46 (AO.int (k:=.i64)<|zMo I)|>.g (by decide:(0:U)<=4/\4<((5:E):U))) (AI 58 [(4,.ref 6 0),(6,.ref 8 0),(43,.msl 0 1 0 ln),(44,.i at_)]) (DW v q tree ln pos0 Ϙ.l++[Z<|.ro [.ref 5 0],Z<|.ro [.ints pos],Z<|.ro [.i at_],Z<|.ro [.i c],Z<|.ro [.i<|(H tree at_.toNat ξ).1,.i<|(H tree at_.toNat ξ).2],Z<|.ro [.cst .nilFunc,.fn 91 5<|L1 [.ref 6 0,.ref 10 0,.ref 7 0,.ref 8 0,.ref 9 0],.fn 93 5<|L1 [.ref 10 0,.ref 7 0,.ref 8 0,.ref 6 0,.ref 9 0],.fn 94 5<|L1 [.ref 10 0,.ref 7 0,.ref 6 0,.ref 9 0,.ref 8 0],.fn 95 5<|L1 [.ref 7 0,.ref 10 0,.ref 6 0,.ref 9 0,.ref 8 0]]]) (Z 49) h z (λa f=>zOq w _ _ _ _ _ _ _ _ _ a f) λj o1 r i h z=>?_;obtain⟨⟨s,y⟩,h⟩:=B8 h;refine yE (H0.g s|>.g y) (AI 58 [(4,.ref 6 0),(6,.ref 8 0)]) (DW (o1.set (0+at_.toNat) j) q tree ln pos0 Ϙ.l++[Z<|.ro [.ref 5 0],Z<|.ro [.ints pos],Z<|.ro [.i at_],Z<|.ro [.i c],Z<|.ro [.i<|(H tree at_.toNat ξ).1,.i<|(H tree at_.toNat ξ).2],Z<|.ro [.cst .nilFunc,.fn 91 5<|L1 [.ref 6 0,.ref 10 0,.ref 7 0,.ref 8 0,.ref 9 0],.fn 93 5<|L1 [.ref 10 0,.ref 7 0,.ref 8 0,.ref 6 0,.ref 9 0],.fn 94 5<|L1 [.ref 10 0,.ref 7 0,.ref 6 0,.ref 9 0,.ref 8 0],.fn 95 5<|L1 [.ref 7 0,.ref 10 0,.ref 6 0,.ref 9 0,.ref 8 0]]]) ?_;have p:=H0;exact gg (AK 6<|AK 5<|AK 4<|AK 1 NY) [0,1,2,3,4,5,6,8] p<|G _ _ h i z
        ·cases h
   ·cases h;refine yO (ops:=Ah Tryz.f55 4) Z5 ?_;exact yP e [0,1,2,3,4,5,6,7] [] 8 (H0.b 33 Y|>.b 37 Q) (AI 58 [(4,.ref 6 0),(6,.ref 8 0),(9,.ref 10 0),(10,.ref 11 0)]) (DW v q tree ln pos0 Ϙ.l++[oC [.ref 5 0],oC [.ints pos],oC [.i at_],oC [.i c],oC [.i<|(H tree at_.toNat ξ).1,.i<|(H tree at_.toNat ξ).2],oC [.cst .nilFunc,.fn 91 5<|L1 [.ref 6 0,.ref 10 0,.ref 7 0,.ref 8 0,.ref 9 0],.fn 93 5<|L1 [.ref 10 0,.ref 7 0,.ref 8 0,.ref 6 0,.ref 9 0],.fn 94 5<|L1 [.ref 10 0,.ref 7 0,.ref 6 0,.ref 9 0,.ref 8 0],.fn 95 5<|L1 [.ref 7 0,.ref 10 0,.ref 6 0,.ref 9 0,.ref 8 0]]])<|Z 39
  ·cases h;refine yO (ops:=Ah Tryz.f55 4) Z5 ?_;exact yP e [0,1,2,3,4,5,6,7] [] 8 (H0.b 33 Y) (AI 58 [(4,.ref 6 0),(6,.ref 8 0),(9,.ref 10 0),(10,.ref 11 0)]) (DW v q tree ln pos0 Ϙ.l++[oC [.ref 5 0],oC [.ints pos],oC [.i at_],oC [.i c],oC [.i<|(H tree at_.toNat ξ).1,.i<|(H tree at_.toNat ξ).2],oC [.cst .nilFunc,.fn 91 5<|L1 [.ref 6 0,.ref 10 0,.ref 7 0,.ref 8 0,.ref 9 0],.fn 93 5<|L1 [.ref 10 0,.ref 7 0,.ref 8 0,.ref 6 0,.ref 9 0],.fn 94 5<|L1 [.ref 10 0,.ref 7 0,.ref 6 0,.ref 9 0,.ref 8 0],.fn 95 5<|L1 [.ref 7 0,.ref 10 0,.ref 6 0,.ref 9 0,.ref 8 0]]])<|Z 39
 ·refine yD (ops:=Ah Tryz.f55 1) [] [0,1,2,3,4,5,6] [7] (H0.b 17 Y) (AI 58 [(4,.ref 6 0),(5,.ref 7 0),(6,.ref 8 0),(7,.ref 9 0),(17,.bool T)]) (DW v q tree ln pos0 Ϙ.l++[oC [.ref 5 0],oC [.ints pos],oC [.i at_],oC [.i c]]) ?_;cases h;exact yP e [] [] 7 H0 (AI 58 [(4,.ref 6 0),(5,.ref 7 0),(6,.ref 8 0),(7,.ref 9 0)]) (DW v q tree ln pos0 Ϙ.l++[oC [.ref 5 0],oC [.ints pos],oC [.i at_],oC [.i c]])<|Z 18)
def vb:∀n,J4<|Bu n
 |0=>λ_ _ _ _ _ _ _ _ r h=>by cases h
 |n+1=>zIj<|vb n
def zJl:E->O DV:=λl=>[.yl l,.ref 1 0,.ref 2 0,.ref 3 0,.ref 4 0]
def Bw(v:Ξ)(q:AA)(tree:O<|Δ)(ln:E)(pos0:Ξ):E->DH:=λl=>[oI v,Z<|.ro<|AJ q,Z<|.ro [.sl 2 (F tree)<|AM BA tree],Z<|.ro [.msl 0 1 0 ln],Z<|.ro [.ints pos0]]
def wG(_:Unit):DV:=PS
abbrev zJn:=Ξ->AA->(O<|Δ)->E->Ξ->M (YR Av Unit Ξ)
def zJm(f:zJn):Prop:=∀(v:Ξ) (q:AA) (tree:O<|Δ) (ln:E) (pos0:Ξ) (r:YR Av Unit Ξ),f v q tree ln pos0=Z r->YC L GG D4 53 zJl (Bw v q tree ln pos0) (r.1.map Lf) (r.2.1.map wG) (Bw r.2.2 q tree ln pos0)
def Tb(n:E)(v:Ξ)(q:AA)(tree:O<|Δ)(ln:E)(pos0:Ξ):M<|YR Av Unit Ξ:=yb (Bu n pos0 0 0 v q tree ln pos0) λe o1=>B (e==(F tree:U)) (Z ([],Z (),o1))<|Z ([],A,o1)
def OO(n:E)(v:Ξ)(q:AA)(tree:O<|Δ)(ln:E)(pos0:Ξ):M<|YR Av Unit Ξ:=Tb n v q tree ln pos0
def zJk :zJm<|OO n:=λv q tree ln pos0 r h=>YC.ofY (ϙ:=5) (h':=λl o=>Bw o q tree ln pos0 l) Tryz.func53 (λϘ i ρ0 c z=>by
 replace h:Tb n v q tree ln pos0=Z r:=h;unfold Tb at h;have p:=H0;refine gs (AK 1 AC) [0,1,2,3,4,5] p (CW (Af Tryz.f53) 1 []) (AI 20 [(2,.ref 2 0),(4,.ref 4 0),(6,.ref 5 0)]) (Bw v q tree ln pos0 Ϙ.l++[oC<|AJ q++[.sl 2 (F tree)<|AM BA tree,.msl 0 1 0 ln,.yl Ϙ.l]]) ?_;refine pW [5] (Bw v q tree ln pos0 Ϙ.l++[Z<|.ro<|AJ q++[.sl 2 (F tree)<|AM BA tree,.msl 0 1 0 ln,.yl Ϙ.l]]) ?_;refine yR (ops:=Ah Tryz.f53 1) (ds:=cY pos0 0 0) (hc:=DW v q tree ln pos0) (h':=λl o=>DW o q tree ln pos0 l) (tD':=Wa) c [0,1,3,4] [5,6] [0] 2 H0 (AI 20 [(17,.i (F tree:U))]) (Bw v q tree ln pos0 Ϙ.l++[Z<|.ro<|AJ q++[.sl 2 (F tree)<|AM BA tree,.msl 0 1 0 ln,.yl Ϙ.l]]) (Z 15) h z (λa e=>vb n _ _ _ _ _ _ _ _ a e) λy1 o1 r i h z=>?_;rcases B7 h with⟨Y,h⟩|⟨Y,h⟩
 ·refine yT c [5] [] 6 (H0.b 18 Y) (AI 20 []) (Bw o1 q tree ln pos0 Ϙ.l++[Z<|.ro<|AJ q++[.sl 2 (F tree)<|AM BA tree,.msl 0 1 0 ln,.yl Ϙ.l]]) (Z 19) ?_ z;refine y0 ?_;have p:=H0;cases h;exact yF<|ee (AK 1 AC) [] [0,1,2,3,4] p
 ·cases h;exact yP c [5] [] 6 (H0.b 18 Y) (AI 20 []) (Bw o1 q tree ln pos0 Ϙ.l++[Z<|.ro<|AJ q++[.sl 2 (F tree)<|AM BA tree,.msl 0 1 0 ln,.yl Ϙ.l]])<|Z 19)
end
section
set_option maxRecDepth 100000
set_option maxHeartbeats 40000000
def zJt(n:E)(q:AA)(pos:Ξ)(tree:O<|Δ)(ln:E)(AU:Ξ):M Unit:=Z ()
def wH(n:E)(q:AA)(pos:Ξ)(tree:O<|Δ)(ln:E)(v:Ξ):M Unit:=zJt n q pos tree ln v
variable{n:E}
def zJs(q:AA)(pos:Ξ)(tree:O<|Δ)(ln:E)(v:Ξ){r:Unit}(h:wH n q pos tree ln v=Z r):EQ 42 [.agg 5<|L1<|AJ q,.ints pos,.sl 2 (F tree)<|AM BA tree,.msl 0 1 0 ln] [oI v] (.fn 53 4<|L1 [.ref 1 0,.ref 2 0,.ref 3 0,.ref 4 0]) [oI v,oC<|AJ q,oC [.sl 2 (F tree)<|AM BA tree],oC [.msl 0 1 0 ln],oC [.ints pos]] T:=by
 refine ot Tryz.func42 λϜ N=>?_
 revert r;apply gO;exact lE AC [8] [0,1,3,4,2]
def qk:ST:=.rd 0<|.ef 1 (.ef 2 (.ef 3 (.fin [] [6,7,8])<|.no)<|.no)<|.no
def zEU:B3 (Ah Tryz.f23 3) [1,2] qk:=Z1
def zC2:BG:=λi=>match i with
 |3=>.tre [1,2] qk
 |_=>.no
def qN(q:AA)(e:U):St:=⟨AI 33 [(6,.ref 1 0),(7,.ref 2 0),(8,.ref 3 0)],([oC<|AJ q,oC [.nils],oC [.nils],oC [.i e]]:DH)⟩
def nl(n:E)(q:AA)(pos:Ξ)(tree:O<|Δ):M<|(O<|Ξ×Ξ×U)×Ξ×U:=(Lv n q pos tree).bind λe=>B (e != 0) (Z (([]:O<|Ξ×Ξ×U),([]:Ξ),e)) A
def nm(n:E)(q:AA)(pos:Ξ)(tree:O<|Δ):M<|(O<|Ξ×Ξ×U)×Ξ×U:=nl n q pos tree
def zN6{q:AA}{pos:Ξ}{tree:O Δ}{r:(O<|Ξ×Ξ×U)×Ξ×U}(h:nm n q pos tree=Z r):EQ 23 [.agg 5<|L1<|AJ q,.ints pos,.sl 2 (F tree)<|AM BA tree] [] (.tup 3<|L1 [.sl 3 (F r.1)<|AM (λ(x:Ξ×Ξ×U)=>[.ints x.1,.ints x.2.1,.i x.2.2]) r.1,.ints r.2.1,.i r.2.2]) [] D:=by
 unfold nm nl at h;refine ot Tryz.func23 λϜ N=>?_
 revert r;apply gO;exact cf pq [oC<|AJ q,oC [.nils],oC [.nils],oC [.i 0]] λe=>jt<|bi 15 (jg zEU<|jt<|jt<|jt<|jg (φ<|qN q e)<|lF λp=>el (tg:=[([(1,1),(2,2)],qN q e)]) zC2 [6,7,8] [1,2,3] p [] H0 [.nils,.nils,.i e]<|AO.tupL (l:=[.nils,.nils,.i e]) (l':=[.sl 3 (F ([]:O<|Ξ×Ξ×U))<|AM (λ(x:Ξ×Ξ×U)=>[.ints x.1,.ints x.2.1,.i x.2.2]) ([]:O<|Ξ×Ξ×U),.ints ([]:Ξ),.i e]) rfl ⟨AO.sl_nil _ _,AO.ints_nil,Ab,trivial⟩) nO
def zMZ(ln:E)(h:Av):DH:=[A,A,A,A,A,oC [.nils],oC [.msl 0 1 0 ln],oC [.i 0],oC [.ints h.1,.ints h.2.1,.i h.2.2]]
def zMY(k ln:E)(g:O<|Ξ×Ξ×U)(h:Av):DH:=[A,A,A,A,A,oC [.msl 8 3 0 k],oC [.msl 0 1 0 ln],oC [.i 0],Z<|.arr 3 (F g)<|AM (λ(x:Ξ×Ξ×U)=>[.ints x.1,.ints x.2.1,.i x.2.2]) g,oC [.ints h.1,.ints h.2.1,.i h.2.2]]
inductive Lb where
 |s0
 |s1 (K4:E) (Gz:O (Ξ×Ξ×U))
def UG(ln:E):Lb->DH
 | .s0=>[A,A,A,A,A,oC [.nils],oC [.msl 0 1 0 ln],oC [.i 0]]
 | .s1 k g=>[A,A,A,A,A,oC [.msl 8 3 0 k],oC [.msl 0 1 0 ln],oC [.i 0],Z<|.arr 3 (F g)<|AM (λ(x:Ξ×Ξ×U)=>[.ints x.1,.ints x.2.1,.i x.2.2]) g]
def zN9(n:E)(ln:E)(h:Av):M Lb:=Z<|.s1 (F ([(h.1,h.2.1,h.2.2)]:O<|Ξ×Ξ×U)) ([(h.1,h.2.1,h.2.2)]:O<|Ξ×Ξ×U)
def nn(n:E)(ln:E)(h:Av)(k:E)(g:O<|Ξ×Ξ×U):M Lb:=u (k=F g/\F g+F ([(h.1,h.2.1,h.2.2)]:O<|Ξ×Ξ×U)<=Aw) (Z<|.s1 (F g+F ([(h.1,h.2.1,h.2.2)]:O<|Ξ×Ξ×U))<|g++([(h.1,h.2.1,h.2.2)]:O<|Ξ×Ξ×U)) A
def zN8(n:E)(ln:E)(h:Av):Lb->M Lb
 | .s0=>zN9 n ln h
 | .s1 k g=>nn n ln h k g
def UH(n:E)(ln:E)(h:Av)(s:Lb):M Lb:=zN8 n ln h s
def zN7(n:E)(ln:E)(l Ϝ:E)(N:Yd 8)(a:Av)(s:Lb)(r:Lb)(h:UH n ln a s=Z r):TA l Ϝ N (Cw 8 [] 0<|UG ln r) Tryz.f23 25 ⟨AI 33 [(6,.ref 5 0),(7,.ref 6 0),(8,.ref 7 0),(25,.fn 53 4<|L1 [.ref 1 0,.ref 2 0,.ref 3 0,.ref 4 0]),(26,.agg 3<|L1 [.ints a.1,.ints a.2.1,.i a.2.2])],UG ln s⟩:=by
 cases s with
 |s0=>
  refine ag AC [0,1,2,3,4,5,6,7,8] H0.t (AI 33 [(6,.ref 5 0),(7,.ref 6 0),(8,.ref 7 0),(9,.ref 8 0)]) (zMZ ln a) λN=>?_
  revert r;apply gO;exact ja 29 9 3 (E4 (c:=λ(x:Ξ×Ξ×U)=>[.ints x.1,.ints x.2.1,.i x.2.2]) (ϙ:=([(a.1,a.2.1,a.2.2)]:O<|Ξ×Ξ×U)) (vals:=[.agg 3<|L1 [.ints a.1,.ints a.2.1,.i a.2.2]]) rfl ⟨⟨_,rfl,⟨Ab,Ab,Ab,trivial⟩⟩,trivial⟩)<|jg (γ (γ (γ (φ 0)<|φ 1)<|OD (λ(x:Ξ×Ξ×U)=>[.ints x.1,.ints x.2.1,.i x.2.2]) ([(a.1,a.2.1,a.2.2)]:O<|Ξ×Ξ×U) (F ([(a.1,a.2.1,a.2.2)]:O<|Ξ×Ξ×U)) 3 λ_=>⟨rfl,rfl⟩)<|γ (by decide:0<1) (by decide:1<=Aw))<|jt<|lF λp=>rr AC [0,1,2,3,4,5,6,7,10] rfl p
 |s1 k g=>
  refine ag AC [0,1,2,3,4,5,6,7,8,9] H0.t (AI 33 [(6,.ref 5 0),(7,.ref 6 0),(8,.ref 7 0),(9,.ref 9 0)]) (zMY k ln g a) λN=>?_
  revert r;apply gO;exact ja 29 10 3 (E4 (c:=λ(x:Ξ×Ξ×U)=>[.ints x.1,.ints x.2.1,.i x.2.2]) (ϙ:=([(a.1,a.2.1,a.2.2)]:O<|Ξ×Ξ×U)) (vals:=[.agg 3<|L1 [.ints a.1,.ints a.2.1,.i a.2.2]]) rfl ⟨⟨_,rfl,⟨Ab,Ab,Ab,trivial⟩⟩,trivial⟩)<|gc<|gn λo=>gn λb=>jg (γ (γ (γ (φ 0)<|φ 1)<|OD (λ(x:Ξ×Ξ×U)=>[.ints x.1,.ints x.2.1,.i x.2.2]) ([(a.1,a.2.1,a.2.2)]:O<|Ξ×Ξ×U) (F ([(a.1,a.2.1,a.2.2)]:O<|Ξ×Ξ×U)) 3 λ_=>⟨rfl,rfl⟩)<|γ (γ (φ 0) o) b)<|ja 30 11 3 (Vf (enc:=YD λ(x:Ξ×Ξ×U)=>[.ints x.1,.ints x.2.1,.i x.2.2]) (ϙ:=g) (L':=([(a.1,a.2.1,a.2.2)]:O<|Ξ×Ξ×U)) rfl rfl λ_ _ _ _=>Ab)<|jt<|lF λp=>rr AC [0,1,2,3,4,5,6,7,11] rfl p
end
abbrev zR0:=@Go.wpSIn_region
section
set_option maxRecDepth 100000
set_option maxHeartbeats 40000000
def qo:ST:=.rd 0<|.rd 1<|.ef 2 (.ef 3 (.ef 4 (.fin [] [])<|.no)<|.no)<|.no
def zEg:B3 (Ah Tryz.f41 2) [2,3] qo:=Z1
def qR(o:Ξ)(q:AA)(tree:O<|Δ)(pos:Ξ):St:=⟨AI 9 [],Bw o q tree (F tree) pos 0++[oC [.nils],oC [.nils],oC [.i 280]]⟩
variable{s b:μ}{w:κ}{ρ0:O AN}{N:Ψ}{o pos:Ξ}{tree:O Δ}{q:AA}
def zQH{a:μ}(R:A9 L GG N (Bw o q tree (F tree) pos 0++[oC [.nils],oC [.msl 0 1 0<|F tree],oC [.i 0]]) ρ0 w)(c:AL (MS N (Bw o q tree (F tree) pos 0++[oC [.nils],oC [.msl 0 1 0<|F tree],oC [.i 0]]) ρ0) w (.ref 5 0) ρ0 s)(X:AL (MS N (Bw o q tree (F tree) pos 0++[oC [.nils],oC [.msl 0 1 0<|F tree],oC [.i 0]]) ρ0) w (.ref 6 0) ρ0 a)(f:AL (MS N (Bw o q tree (F tree) pos 0++[oC [.nils],oC [.msl 0 1 0<|F tree],oC [.i 0]]) ρ0) w (.ref 7 0) ρ0 b):
 CallsDIn η (0-1) L 41 #[s,a,b] (.panicking<|pan D4) w λe h w'=>(∃v,e=.returned v)/\h=.panicking [{ v:=D4,recovered:=D }]/\∃ρ',A9 L GG N (Bw o q tree (F tree) pos 0++[oC [.nils],oC [.nils],oC [.i 280]]) ρ' w'/\BD (Bw o q tree (F tree) pos 0++[oC [.nils],oC [.msl 0 1 0<|F tree],oC [.i 0]]) ρ0 w (Bw o q tree (F tree) pos 0++[oC [.nils],oC [.nils],oC [.i 280]]) ρ' w'/\CA 8 ρ0 ρ':=by
 refine callsDIn_of_wpSIn Tryz.func41 rfl trivial λc₀ cs k=>?_
 apply wpSIn_seq;apply zR0;simp[wpOpsSIn,go_sem,recoverD,k,Tryz.ntmps41,Exit.thenS,η,pan,D4];apply wpSIn_seq;apply zR0;simp[wpOpsSIn,go_sem,Exit.thenS];refine wpSIn_cond (t:=D) (by simp[Act.eval,Array.replicate]) ?_;simp only[zMt];refine wpSIn_of_wpIn rfl ?_
 have m:Ad L GG N ⟨AI 9 [(0,.ref 5 0),(1,.ref 6 0),(2,.ref 7 0),(3,.cst D4)],Bw o q tree (F tree) pos 0++[oC [.nils],oC [.msl 0 1 0<|F tree],oC [.i 0]]⟩ ρ0 { tmps:=#[s,a,b]++((((Array.replicate 6 undef).setIfInBounds 1<|Value.iface 30<|Value.int IntKind.i64 280).setIfInBounds 0<|Value.iface 30<|Value.int IntKind.i64 280).setIfInBounds 2<|Value.iface 30<|Value.int IntKind.i64 280).setIfInBounds 3 (Value.bool D),defers:=[] } w:=by
  refine⟨R,rfl,λj l=>?_⟩;have l:j<9:=l
  match j,l with
  |0,_=>exact c
  |1,_=>exact X
  |2,_=>exact f
  |3,_=>exact⟨rfl,rfl⟩
  |4,_=>trivial
  |5,_=>trivial
  |6,_=>trivial
  |7,_=>trivial
  |8,_=>trivial
  |j+9,l=>exact τ l Z2
 refine ZB (ϙ:=8) HC.x [2,3] qo zEg [([(2,5),(3,6)],qR o q tree pos)] [] [0,1,2,3,4,5,6,7] [] (H0.t|>.t|>.t|>.t|>.g (φ<|qR o q tree pos)) H0 (AI 9 []) (Bw o q tree (F tree) pos 0++[oC [.nils],oC [.nils],oC [.i 280]]) m Z5 λρ1 a1 w1 n p r I=>?_
 simp[bodyPostS,results,Tryz.results41,r,go_sem,D4];exact⟨ρ1,n.hr,p,I⟩
def qn:ST:=.rd 0<|.rd 1<|.ef 2 (.ef 3 (.ef 4 (.fin [] [])<|.no)<|.no)<|.no
def zEf:B3 (Ah Tryz.f41 2) [2,3] qn:=Z1
def qQ(o:Ξ)(q:AA)(tree:O<|Δ)(pos:Ξ)(x:Av)(t:O Av):St:=⟨AI 9 [],Bw o q tree (F tree) pos 0++[oC [.nils],oC [.nils],oC [.i 280],Z<|.arr 3 (F<|x::t)<|AM (λ(x:Ξ×Ξ×U)=>[.ints x.1,.ints x.2.1,.i x.2.2])<|x::t]⟩
def zQG{x:Av}{t:O Av}{a:μ}(R:A9 L GG N (Bw o q tree (F tree) pos 0++[oC [.msl 8 3 0<|F<|x::t],oC [.msl 0 1 0<|F tree],oC [.i 0],Z<|.arr 3 (F<|x::t)<|AM (λ(x:Ξ×Ξ×U)=>[.ints x.1,.ints x.2.1,.i x.2.2])<|x::t]) ρ0 w)(c:AL (MS N (Bw o q tree (F tree) pos 0++[oC [.msl 8 3 0<|F<|x::t],oC [.msl 0 1 0<|F tree],oC [.i 0],Z<|.arr 3 (F<|x::t)<|AM (λ(x:Ξ×Ξ×U)=>[.ints x.1,.ints x.2.1,.i x.2.2])<|x::t]) ρ0) w (.ref 5 0) ρ0 s)(X:AL (MS N (Bw o q tree (F tree) pos 0++[oC [.msl 8 3 0<|F<|x::t],oC [.msl 0 1 0<|F tree],oC [.i 0],Z<|.arr 3 (F<|x::t)<|AM (λ(x:Ξ×Ξ×U)=>[.ints x.1,.ints x.2.1,.i x.2.2])<|x::t]) ρ0) w (.ref 6 0) ρ0 a)(f:AL (MS N (Bw o q tree (F tree) pos 0++[oC [.msl 8 3 0<|F<|x::t],oC [.msl 0 1 0<|F tree],oC [.i 0],Z<|.arr 3 (F<|x::t)<|AM (λ(x:Ξ×Ξ×U)=>[.ints x.1,.ints x.2.1,.i x.2.2])<|x::t]) ρ0) w (.ref 7 0) ρ0 b):
 CallsDIn η (0-1) L 41 #[s,a,b] (.panicking<|pan D4) w λe h w'=>(∃v,e=.returned v)/\h=.panicking [{ v:=D4,recovered:=D }]/\∃ρ',A9 L GG N (Bw o q tree (F tree) pos 0++[oC [.nils],oC [.nils],oC [.i 280],Z<|.arr 3 (F<|x::t)<|AM (λ(x:Ξ×Ξ×U)=>[.ints x.1,.ints x.2.1,.i x.2.2])<|x::t]) ρ' w'/\BD (Bw o q tree (F tree) pos 0++[oC [.msl 8 3 0<|F<|x::t],oC [.msl 0 1 0<|F tree],oC [.i 0],Z<|.arr 3 (F<|x::t)<|AM (λ(x:Ξ×Ξ×U)=>[.ints x.1,.ints x.2.1,.i x.2.2])<|x::t]) ρ0 w (Bw o q tree (F tree) pos 0++[oC [.nils],oC [.nils],oC [.i 280],Z<|.arr 3 (F<|x::t)<|AM (λ(x:Ξ×Ξ×U)=>[.ints x.1,.ints x.2.1,.i x.2.2])<|x::t]) ρ' w'/\CA 8 ρ0 ρ':=by
 refine callsDIn_of_wpSIn Tryz.func41 rfl trivial λc₀ cs k=>?_
 apply wpSIn_seq;apply zR0;simp[wpOpsSIn,go_sem,recoverD,k,Tryz.ntmps41,Exit.thenS,η,pan,D4];apply wpSIn_seq;apply zR0;simp[wpOpsSIn,go_sem,Exit.thenS];refine wpSIn_cond (t:=D) (by simp[Act.eval,Array.replicate]) ?_;simp only[zMt];refine wpSIn_of_wpIn rfl ?_
 have m:Ad L GG N ⟨AI 9 [(0,.ref 5 0),(1,.ref 6 0),(2,.ref 7 0),(3,.cst D4)],Bw o q tree (F tree) pos 0++[oC [.msl 8 3 0<|F<|x::t],oC [.msl 0 1 0<|F tree],oC [.i 0],Z<|.arr 3 (F<|x::t)<|AM (λ(x:Ξ×Ξ×U)=>[.ints x.1,.ints x.2.1,.i x.2.2])<|x::t]⟩ ρ0 { tmps:=#[s,a,b]++((((Array.replicate 6 undef).setIfInBounds 1<|Value.iface 30<|Value.int IntKind.i64 280).setIfInBounds 0<|Value.iface 30<|Value.int IntKind.i64 280).setIfInBounds 2<|Value.iface 30<|Value.int IntKind.i64 280).setIfInBounds 3 (Value.bool D),defers:=[] } w:=by
  refine⟨R,rfl,λj l=>?_⟩;have l:j<9:=l
  match j,l with
  |0,_=>exact c
  |1,_=>exact X
  |2,_=>exact f
  |3,_=>exact⟨rfl,rfl⟩
  |4,_=>trivial
  |5,_=>trivial
  |6,_=>trivial
  |7,_=>trivial
  |8,_=>trivial
  |j+9,l=>exact τ l Z2
 refine ZB (ϙ:=8) HC.x [2,3] qn zEf [([(2,5),(3,6)],qQ o q tree pos x t)] [] [0,1,2,3,4,5,6,7,8] [] (H0.t|>.t|>.t|>.t|>.g (φ<|qQ o q tree pos x t)) H0 (AI 9 []) (Bw o q tree (F tree) pos 0++[oC [.nils],oC [.nils],oC [.i 280],Z<|.arr 3 (F<|x::t)<|AM (λ(x:Ξ×Ξ×U)=>[.ints x.1,.ints x.2.1,.i x.2.2])<|x::t]) m Z5 λρ1 a1 w1 n p r I=>?_
 simp[bodyPostS,results,Tryz.results41,r,go_sem,D4];exact⟨ρ1,n.hr,p,I⟩
theorem zz(s x j:μ)(w:κ):CallsDIn η (0-1) L 41 #[s,x,j] .returning w λe o w'=>(∃v,e=.returned v)/\o=.returning/\w'=w:=by
 refine callsDIn_of_wpSIn Tryz.func41 rfl trivial λz cs a=>?_
 apply wpSIn_seq;apply zR0;simp[wpOpsSIn,go_sem,recoverD,a,Tryz.ntmps41,Exit.thenS,η];apply wpSIn_seq;apply zR0;simp[wpOpsSIn,go_sem,Exit.thenS];refine wpSIn_cond (t:=T) (by simp[Act.eval,Array.replicate]) ?_;simp only[zLV,zRK];refine wpSIn_of_wpIn rfl (wpIn_skip ?_);cases z
 simp_all[bodyPostS,results,Tryz.results41,go_sem]
def qj:ST:=.rd 0<|.rd 1<|.ef 2 (.ef 3 (.ef 4 (.fin [] [6,7,8])<|.no)<|.no)<|.no
def zET:B3 (Ah Tryz.f23 9) [2] qj:=Z1
def qM(o:Ξ)(q:AA)(tree:O<|Δ)(pos:Ξ):St:=⟨AI 33 [(6,.ref 5 0),(7,.ref 6 0),(8,.ref 7 0)],Bw o q tree (F tree) pos 0++[oC [.nils],oC [.msl 0 1 0<|F tree],oC [.i 0]]⟩
variable{j:μ}{ϒ:E}{a0:Act}{a:κ}{ρs:O AN}
def zF6(k:A9 L GG N [] ρs a)(P:BD [] ρs a (Bw o q tree (F tree) pos 0++[oC [.nils],oC [.msl 0 1 0<|F tree],oC [.i 0]]) ρ0 w)(c:Ad L GG N ⟨AI 33 [(6,.ref 5 0),(7,.ref 6 0),(8,.ref 7 0)],Bw o q tree (F tree) pos 0++[oC [.nils],oC [.msl 0 1 0<|F tree],oC [.i 0]]⟩ ρ0 a0 w)(m:w.heap[ϒ]?=Z (.deferred<|Z []))(n:GG.ng<=ϒ)(J:a.heap.size<=ϒ)(y:F tree=F o)(z:a0.defers= [{ target:=.collected ϒ,args:=#[] },{ target:=.fn (.func 41) #[s,b,j],args:=#[] }]):
 (Code.seq (.region 9 (Ah Tryz.f23 9) D) .ret).wpIn η 0 L (bodyPostM η 0 L Tryz.f23 λe w'=>∃v,e=.returned v/\Cj L GG N [] ρs a D (.tup 3<|L1 [.sl 3 (F ([]:O Av))<|AM (λ(x:Ξ×Ξ×U)=>[.ints x.1,.ints x.2.1,.i x.2.2]) ([]:O Av),.ints o,.i 0]) [] v w') a0 w:=by
 refine zRl ?_;refine ZB (ϙ:=0) HC.x [2] qj zET [([(2,5)],qM o q tree pos)] [6,7,8] [0,5,6,7] [] (H0.t|>.t|>.t|>.g (φ<|qM o q tree pos)) H0 (AI 33 [(6,.ref 1 0),(7,.ref 2 0),(8,.ref 3 0)]) ([oI o,oC [.nils],oC [.msl 0 1 0<|F tree],oC [.i 0]]:DH) c Z5 λρ1 r w1 X f G JF=>?_
 refine wpIn_ret ?_
 show LeavesInM _ _ _ _ _ _ r.defers .returning w1
 rw[G,z];refine dJ Z3 (zb c.hr f m) (λargs W=>Ox Tryz.func41 Z5 Z5 args W) λW p=>?_
 refine(zz s b j W).mono ?_;rintro e u' w' ⟨⟨v,rfl⟩,rfl,rfl⟩;have I:=X.shut (QK Z5) n p;obtain⟨v,K,Q⟩:=fK (fn:=Tryz.f23) I k ((P.trans f).shut<|p.mono λ_ _ h=>⟨zIX J h.1,h.2⟩) [0] (H0.g y) [.nils,.ints o,.i 0] (AO.tupL (l:=[.nils,.ints o,.i 0]) (l':=[.sl 3 (F ([]:O Av))<|AM (λ(x:Ξ×Ξ×U)=>[.ints x.1,.ints x.2.1,.i x.2.2]) ([]:O Av),.ints o,.i 0]) rfl ⟨AO.sl_nil _ _,Ab,Ab,trivial⟩) Z5 Z5;exact⟨v,K,v,rfl,Q⟩
def zIC(k:A9 L GG N [] ρs a)(P:BD [] ρs a (Bw o q tree (F tree) pos 0++[oC [.nils],oC [.msl 0 1 0<|F tree],oC [.i 0]]) ρ0 w)(c:Ad L GG N ⟨AI 33 [(6,.ref 5 0),(7,.ref 6 0),(8,.ref 7 0)],Bw o q tree (F tree) pos 0++[oC [.nils],oC [.msl 0 1 0<|F tree],oC [.i 0]]⟩ ρ0 a0 w)(n:w.heap[ϒ]?=Z (.deferred<|Z []))(t:GG.ng<=ϒ)(J:a.heap.size<=ϒ)(y:BJ (MS N (Bw o q tree (F tree) pos 0++[oC [.nils],oC [.msl 0 1 0<|F tree],oC [.i 0]]) ρ0) w ρ0 [.ref 5 0,.ref 6 0,.ref 7 0] #[s,b,j]):
 LeavesInM η 0 L Tryz.f23 a0.tmps (λe w'=>∃v,e=.returned v/\Cj L GG N [] ρs a D (.tup 3<|L1 [.sl 3 (F ([]:O Av))<|AM (λ(x:Ξ×Ξ×U)=>[.ints x.1,.ints x.2.1,.i x.2.2]) ([]:O Av),.ints ([]:Ξ),.i 280]) [] v w') [{ target:=.collected ϒ,args:=#[] },{ target:=.fn (.func 41) #[s,b,j],args:=#[] }] (.panicking<|pan D4) w:=by
 refine dJ Z3 n (λargs W=>Ox Tryz.func41 Z5 Z5 args W) λW p=>?_
 have z:Ad L GG N ⟨AI 33 [(6,.ref 5 0),(7,.ref 6 0),(8,.ref 7 0)]++[.ref 5 0,.ref 6 0,.ref 7 0],Bw o q tree (F tree) pos 0++[oC [.nils],oC [.msl 0 1 0<|F tree],oC [.i 0]]⟩ ρ0 { a0 with tmps:=a0.tmps++#[s,b,j] } w:=⟨c.hr,BJ.append c.fr y⟩;have m:=z.shut (QK Z5) t p;obtain⟨I,V⟩:=BJ.split m.fr c.fr.1;have r:Ad L GG N ⟨AI 33 [(6,.ref 5 0),(7,.ref 6 0),(8,.ref 7 0)],Bw o q tree (F tree) pos 0++[oC [.nils],oC [.msl 0 1 0<|F tree],oC [.i 0]]⟩ ρ0 a0 W:=⟨m.hr,I⟩;refine(zQH r.hr (V.at 0) (V.at 1)<|V.at 2).mono ?_;rintro e u' w' ⟨⟨v,rfl⟩,rfl,ρ',f,g,G⟩;have K:Ad L GG N ⟨AI 33 [(6,.ref 5 0),(7,.ref 6 0),(8,.ref 7 0)],Bw o q tree (F tree) pos 0++[oC [.nils],oC [.nils],oC [.i 280]]⟩ ρ' a0 w':=⟨f,Xt (ϙ:=8) r.fr Z5 f g G⟩;obtain⟨v,Q,R⟩:=fK (fn:=Tryz.f23) K k ((P.shut<|p.mono λ_ _ h=>⟨zIX J h.1,h.2⟩).trans g) [] H0 [.nils,.nils,.i 280] (AO.tupL (l:=[.nils,.nils,.i 280]) (l':=[.sl 3 (F ([]:O Av))<|AM (λ(x:Ξ×Ξ×U)=>[.ints x.1,.ints x.2.1,.i x.2.2]) ([]:O Av),.ints ([]:Ξ),.i 280]) rfl ⟨AO.sl_nil _ _,AO.ints_nil,Ab,trivial⟩) Z5 Z5;exact⟨v,Q,v,rfl,R⟩
def qi:ST:=.rd 0<|.rd 1<|.ef 2 (.ef 3 (.ef 4 (.fin [] [6,7,8])<|.no)<|.no)<|.no
def zES:B3 (Ah Tryz.f23 9) [2] qi:=Z1
def qL(o:Ξ)(q:AA)(tree:O<|Δ)(pos:Ξ)(x:Av)(t:O Av):St:=⟨AI 33 [(6,.ref 5 0),(7,.ref 6 0),(8,.ref 7 0)],Bw o q tree (F tree) pos 0++[oC [.msl 8 3 0<|F<|x::t],oC [.msl 0 1 0<|F tree],oC [.i 0],Z<|.arr 3 (F<|x::t)<|AM (λ(x:Ξ×Ξ×U)=>[.ints x.1,.ints x.2.1,.i x.2.2])<|x::t]⟩
def zF5(x:Av)(t:O Av)(k:A9 L GG N [] ρs a)(P:BD [] ρs a (Bw o q tree (F tree) pos 0++[oC [.msl 8 3 0<|F<|x::t],oC [.msl 0 1 0<|F tree],oC [.i 0],Z<|.arr 3 (F<|x::t)<|AM (λ(x:Ξ×Ξ×U)=>[.ints x.1,.ints x.2.1,.i x.2.2])<|x::t]) ρ0 w)(c:Ad L GG N ⟨AI 33 [(6,.ref 5 0),(7,.ref 6 0),(8,.ref 7 0)],Bw o q tree (F tree) pos 0++[oC [.msl 8 3 0<|F<|x::t],oC [.msl 0 1 0<|F tree],oC [.i 0],Z<|.arr 3 (F<|x::t)<|AM (λ(x:Ξ×Ξ×U)=>[.ints x.1,.ints x.2.1,.i x.2.2])<|x::t]⟩ ρ0 a0 w)(m:w.heap[ϒ]?=Z (.deferred<|Z []))(n:GG.ng<=ϒ)(J:a.heap.size<=ϒ)(y:F tree=F o)(z:a0.defers= [{ target:=.collected ϒ,args:=#[] },{ target:=.fn (.func 41) #[s,b,j],args:=#[] }]):
 (Code.seq (.region 9 (Ah Tryz.f23 9) D) .ret).wpIn η 0 L (bodyPostM η 0 L Tryz.f23 λe w'=>∃v,e=.returned v/\Cj L GG N [] ρs a D (.tup 3<|L1 [.sl 3 (F<|x::t)<|AM (λ(x:Ξ×Ξ×U)=>[.ints x.1,.ints x.2.1,.i x.2.2])<|x::t,.ints o,.i 0]) [] v w') a0 w:=by
 refine zRl ?_;refine ZB (ϙ:=0) HC.x [2] qi zES [([(2,5)],qL o q tree pos x t)] [6,7,8] [0,5,6,7,8] [] (H0.t|>.t|>.t|>.g (φ<|qL o q tree pos x t)) H0 (AI 33 [(6,.ref 1 0),(7,.ref 2 0),(8,.ref 3 0)]) ([oI o,oC [.msl 4 3 0<|F<|x::t],oC [.msl 0 1 0<|F tree],oC [.i 0],Z<|.arr 3 (F<|x::t)<|AM (λ(x:Ξ×Ξ×U)=>[.ints x.1,.ints x.2.1,.i x.2.2])<|x::t]:DH) c Z5 λρ1 r w1 X f G JF=>?_
 refine wpIn_ret ?_
 show LeavesInM _ _ _ _ _ _ r.defers .returning w1
 rw[G,z];refine dJ Z3 (zb c.hr f m) (λargs W=>Ox Tryz.func41 Z5 Z5 args W) λW p=>?_
 refine(zz s b j W).mono ?_;rintro e u' w' ⟨⟨v,rfl⟩,rfl,rfl⟩;have I:=X.shut (QK Z5) n p;obtain⟨v,K,Q⟩:=fK (fn:=Tryz.f23) I k ((P.trans f).shut<|p.mono λ_ _ h=>⟨zIX J h.1,h.2⟩) [0,4] (H0.g y|>.g (φ<|F<|x::t)) [.sl 3 (F<|x::t)<|AM (λ(x:Ξ×Ξ×U)=>[.ints x.1,.ints x.2.1,.i x.2.2])<|x::t,.ints o,.i 0] (AO.tupL (l:=[.sl 3 (F<|x::t)<|AM (λ(x:Ξ×Ξ×U)=>[.ints x.1,.ints x.2.1,.i x.2.2])<|x::t,.ints o,.i 0]) (l':=[.sl 3 (F<|x::t)<|AM (λ(x:Ξ×Ξ×U)=>[.ints x.1,.ints x.2.1,.i x.2.2])<|x::t,.ints o,.i 0]) rfl ⟨Ab,Ab,Ab,trivial⟩) Z5 Z5;exact⟨v,K,v,rfl,Q⟩
def zIB(x:Av)(t:O Av)(k:A9 L GG N [] ρs a)(P:BD [] ρs a (Bw o q tree (F tree) pos 0++[oC [.msl 8 3 0<|F<|x::t],oC [.msl 0 1 0<|F tree],oC [.i 0],Z<|.arr 3 (F<|x::t)<|AM (λ(x:Ξ×Ξ×U)=>[.ints x.1,.ints x.2.1,.i x.2.2])<|x::t]) ρ0 w)(c:Ad L GG N ⟨AI 33 [(6,.ref 5 0),(7,.ref 6 0),(8,.ref 7 0)],Bw o q tree (F tree) pos 0++[oC [.msl 8 3 0<|F<|x::t],oC [.msl 0 1 0<|F tree],oC [.i 0],Z<|.arr 3 (F<|x::t)<|AM (λ(x:Ξ×Ξ×U)=>[.ints x.1,.ints x.2.1,.i x.2.2])<|x::t]⟩ ρ0 a0 w)(n:w.heap[ϒ]?=Z (.deferred<|Z []))(y:GG.ng<=ϒ)(J:a.heap.size<=ϒ)(z:BJ (MS N (Bw o q tree (F tree) pos 0++[oC [.msl 8 3 0<|F<|x::t],oC [.msl 0 1 0<|F tree],oC [.i 0],Z<|.arr 3 (F<|x::t)<|AM (λ(x:Ξ×Ξ×U)=>[.ints x.1,.ints x.2.1,.i x.2.2])<|x::t]) ρ0) w ρ0 [.ref 5 0,.ref 6 0,.ref 7 0] #[s,b,j]):
 LeavesInM η 0 L Tryz.f23 a0.tmps (λe w'=>∃v,e=.returned v/\Cj L GG N [] ρs a D (.tup 3<|L1 [.sl 3 (F ([]:O Av))<|AM (λ(x:Ξ×Ξ×U)=>[.ints x.1,.ints x.2.1,.i x.2.2]) ([]:O Av),.ints ([]:Ξ),.i 280]) [] v w') [{ target:=.collected ϒ,args:=#[] },{ target:=.fn (.func 41) #[s,b,j],args:=#[] }] (.panicking<|pan D4) w:=by
 refine dJ Z3 n (λargs W=>Ox Tryz.func41 Z5 Z5 args W) λW p=>?_
 have G:Ad L GG N ⟨AI 33 [(6,.ref 5 0),(7,.ref 6 0),(8,.ref 7 0)]++[.ref 5 0,.ref 6 0,.ref 7 0],Bw o q tree (F tree) pos 0++[oC [.msl 8 3 0<|F<|x::t],oC [.msl 0 1 0<|F tree],oC [.i 0],Z<|.arr 3 (F<|x::t)<|AM (λ(x:Ξ×Ξ×U)=>[.ints x.1,.ints x.2.1,.i x.2.2])<|x::t]⟩ ρ0 { a0 with tmps:=a0.tmps++#[s,b,j] } w:=⟨c.hr,BJ.append c.fr z⟩;have m:=G.shut (QK Z5) y p;obtain⟨I,V⟩:=BJ.split m.fr c.fr.1;have r:Ad L GG N ⟨AI 33 [(6,.ref 5 0),(7,.ref 6 0),(8,.ref 7 0)],Bw o q tree (F tree) pos 0++[oC [.msl 8 3 0<|F<|x::t],oC [.msl 0 1 0<|F tree],oC [.i 0],Z<|.arr 3 (F<|x::t)<|AM (λ(x:Ξ×Ξ×U)=>[.ints x.1,.ints x.2.1,.i x.2.2])<|x::t]⟩ ρ0 a0 W:=⟨m.hr,I⟩;refine(zQG r.hr (V.at 0) (V.at 1)<|V.at 2).mono ?_;rintro e u' w' ⟨⟨v,rfl⟩,rfl,ρ',f,g,K⟩;have Q:Ad L GG N ⟨AI 33 [(6,.ref 5 0),(7,.ref 6 0),(8,.ref 7 0)],Bw o q tree (F tree) pos 0++[oC [.nils],oC [.nils],oC [.i 280],Z<|.arr 3 (F<|x::t)<|AM (λ(x:Ξ×Ξ×U)=>[.ints x.1,.ints x.2.1,.i x.2.2])<|x::t]⟩ ρ' a0 w':=⟨f,Xt (ϙ:=8) r.fr Z5 f g K⟩;obtain⟨v,R,S⟩:=fK (fn:=Tryz.f23) Q k ((P.shut<|p.mono λ_ _ h=>⟨zIX J h.1,h.2⟩).trans g) [] H0 [.nils,.nils,.i 280] (AO.tupL (l:=[.nils,.nils,.i 280]) (l':=[.sl 3 (F ([]:O Av))<|AM (λ(x:Ξ×Ξ×U)=>[.ints x.1,.ints x.2.1,.i x.2.2]) ([]:O Av),.ints ([]:Ξ),.i 280]) rfl ⟨AO.sl_nil _ _,AO.ints_nil,Ab,trivial⟩) Z5 Z5;exact⟨v,R,v,rfl,S⟩
def zMX(q:AA)(tree:O<|Δ):DH:=[oC<|AJ q,oC [.nils],oC [.msl 4 1 0<|F tree],oC [.i 0],oI<|d (F tree) (0:U)]
def dL(l:O Av):Lb:=match l with
 |[]=>.s0
 |x::t=>.s1 (F<|x::t)<|x::t
variable{n ln:E}
def yk :∀(l a:O Av),F a+F l<=Aw->Bs (UH n ln) l (.s1 (F a) a)=Z (.s1 (F<|a++l)<|a++l)
 |[],a,_=>by simp[Bs]
 |x::l,a,h=>by
  have b:UH n ln x (.s1 (F a) a)=Z (.s1 (F<|a++[x])<|a++[x]):=by
   have q:F a+1<=Aw:=by simp at h;omega
   show nn n ln x (F a) a=_
   unfold nn;rw[zAF ⟨rfl,q⟩];simp
  simp only[Bs,b,zAC];rw[yk l (a++[x])<|by simp at h⊢;omega];simp
variable{l:O Av}
def zOA(h:F l<=Aw):Bs (UH n ln) (l.drop 0) .s0=Z (dL l):=by
 rw[zNZ];cases l with
 |nil=>rfl
 |cons x t=>exact yk (n:=n) (ln:=ln) t [x] (by simp at h⊢;omega)
def zN5{a:M Unit}(A3:Lv n q pos tree=Z 0)(g0:((F tree:U):U)=(F tree:U)/\0<=(F tree:U)/\((F tree:U):U)<=1000000000000)(hy:OO n (d (F tree) (0:U)) q tree (F tree) pos=Z (l,a,o))(g1:F tree=F o)(g2:F l<=Aw)
     (k:Ad L GG N ⟨AI 33 [(0,.agg 5<|L1<|AJ q),(1,.ints pos),(2,.sl 2 (F tree)<|AM BA tree)],[]⟩ ρ0 a0 w) (xk:a0.defers= []):
 (Af Tryz.f23).wpIn η 0 L (bodyPostM η 0 L Tryz.f23 λe w'=>∃v,e=.returned v/\Cj L GG N [] ρ0 w D (.tup 3<|L1 [.sl 3 (F<|u a.isSome l [])<|AM (λ(x:Ξ×Ξ×U)=>[.ints x.1,.ints x.2.1,.i x.2.2])<|u a.isSome l [],.ints<|u a.isSome o [],.i<|u a.isSome 0 280]) [] v w') a0 w:=by
 refine zRl ?_;refine wr (ϙ:=0) HC.x [1,2,3,6,7,8] [0,1,2,3] [] H0 H0 (AI 33 [(1,.ints pos),(2,.sl 2 (F tree)<|AM BA tree),(3,.ref 0 0),(6,.ref 1 0),(7,.ref 2 0),(8,.ref 3 0)]) ([oC<|AJ q,oC [.nils],oC [.nils],oC [.i 0]]:DH) k Z5 Z5 λρ1 a1 w1 R1 Dg JU JF=>?_
 refine zRl<|zRl ?_;refine wr (ϙ:=0) HC.x [1,2,3,6,7,8] [0,1,2,3] [] (H0.c (fb (pq A3) [oC<|AJ q,oC [.nils],oC [.nils],oC [.i 0]])|>.t) H0 (AI 33 [(1,.ints pos),(2,.sl 2 (F tree)<|AM BA tree),(3,.ref 0 0),(6,.ref 1 0),(7,.ref 2 0),(8,.ref 3 0)]) ([oC<|AJ q,oC [.nils],oC [.nils],oC [.i 0]]:DH) R1 Z5 Z5 λρ2 a2 w2 R2 Kf JT wR=>?_
 refine zRl ?_;refine wr (ϙ:=0) HC.x [1,2,3,6,7,8,15] [0,1,2,3] [] H0 H0 (AI 33 [(1,.ints pos),(2,.sl 2 (F tree)<|AM BA tree),(3,.ref 0 0),(6,.ref 1 0),(7,.ref 2 0),(8,.ref 3 0),(15,.bool T)]) ([oC<|AJ q,oC [.nils],oC [.nils],oC [.i 0]]:DH) R2 Z5 Z5 λρ3 a3 w3 b GV Q Te=>?_
 refine wpIn_cond_false (Bo b<|.tmp 15)<|wpIn_skip ?_;have BT:a3.tmps.size=33:=by simpa[AI]using b.fr.1.symm
 refine zRl<|zBB (o0:=_) (o1:=_) rfl rfl rfl rfl rfl rfl rfl (by rw[BT];decide) λa4 R Mm=>?_;have R4:=b.idle 17 R Z5;have F4:BJ (MS N [oC<|AJ q,oC [.nils],oC [.nils],oC [.i 0]] ρ3) w3 ρ3 [.ref 1 0,.ref 2 0,.ref 3 0] #[a3.tmps.getD 6 undef,a3.tmps.getD 7 undef,a3.tmps.getD 8 undef]:=⟨rfl,λj m=>match j,m with|0,_=>b.fr.at 6|1,_=>b.fr.at 7|2,_=>b.fr.at 8|j+3,m=>τ m Z3⟩;refine zRl ?_;refine wr (ϙ:=4) HC.x [1,2,3,6,7,8] [0,1,2,3,4] [] (H0.g g0|>.t) H0 (AI 33 [(1,.ints pos),(2,.sl 2 (F tree)<|AM BA tree),(3,.ref 0 0),(6,.ref 1 0),(7,.ref 2 0),(8,.ref 3 0)]) ([oC<|AJ q,oC [.nils],oC [.msl 4 1 0<|F tree],oC [.i 0],oI<|d (F tree) (0:U)]:DH) R4 Z5 Z5 λρ5 a5 w5 R5 S V W=>?_
 have F5:=Xt (ϙ:=4) F4 Z5 R5.hr S W;refine zRl<|zRl ?_;refine wr (ϙ:=4) HC.x [6,7,8,25] [0,1,2,3,4,5,6,7,8] [] (H0.c<|em (zJs q pos tree (F tree) (d (F tree) (0:U)) (rfl:wH n q pos tree (F tree) (d (F tree) (0:U))=Z ())) [4]<|zMX q tree) H0 (AI 33 [(6,.ref 1 0),(7,.ref 2 0),(8,.ref 3 0),(25,.fn 53 4<|L1 [.ref 5 0,.ref 6 0,.ref 7 0,.ref 8 0])]) ([oC<|AJ q,oC [.nils],oC [.msl 4 1 0<|F tree],oC [.i 0],oI<|d (F tree) (0:U),oC<|AJ q,oC [.sl 2 (F tree)<|AM BA tree],oC [.msl 4 1 0<|F tree],oC [.ints pos]]:DH) R5 Z5 Z5 λρ6 Y w6 R6 X p kp6=>?_
 have F6:=Xt (ϙ:=4) F5 Z5 R6.hr X kp6
 have s7:A6 0 ⟨AI 33 [(6,.ref 1 0),(7,.ref 2 0),(8,.ref 3 0),(25,.fn 53 4<|L1 [.ref 5 0,.ref 6 0,.ref 7 0,.ref 8 0])]++[.ref 1 0,.ref 2 0,.ref 3 0],[oC<|AJ q,oC [.nils],oC [.msl 4 1 0<|F tree],oC [.i 0],oI<|d (F tree) (0:U),oC<|AJ q,oC [.sl 2 (F tree)<|AM BA tree],oC [.msl 4 1 0<|F tree],oC [.ints pos]]⟩ ⟨AI 33 [(6,.ref 5 0),(7,.ref 6 0),(8,.ref 7 0),(25,.fn 53 4<|L1 [.ref 1 0,.ref 2 0,.ref 3 0,.ref 4 0])]++[.ref 5 0,.ref 6 0,.ref 7 0],[oI<|d (F tree) (0:U),oC<|AJ q,oC [.sl 2 (F tree)<|AM BA tree],oC [.msl 0 1 0<|F tree],oC [.ints pos],oC [.nils],oC [.msl 0 1 0<|F tree],oC [.i 0]]⟩:=by
  have e:GO [4,5,6,7,8,1,2,3] ⟨AI 33 [(6,.ref 1 0),(7,.ref 2 0),(8,.ref 3 0),(25,.fn 53 4<|L1 [.ref 5 0,.ref 6 0,.ref 7 0,.ref 8 0])]++[.ref 1 0,.ref 2 0,.ref 3 0],[oC<|AJ q,oC [.nils],oC [.msl 4 1 0<|F tree],oC [.i 0],oI<|d (F tree) (0:U),oC<|AJ q,oC [.sl 2 (F tree)<|AM BA tree],oC [.msl 4 1 0<|F tree],oC [.ints pos]]⟩=⟨AI 33 [(6,.ref 5 0),(7,.ref 6 0),(8,.ref 7 0),(25,.fn 53 4<|L1 [.ref 1 0,.ref 2 0,.ref 3 0,.ref 4 0])]++[.ref 5 0,.ref 6 0,.ref 7 0],[oI<|d (F tree) (0:U),oC<|AJ q,oC [.sl 2 (F tree)<|AM BA tree],oC [.msl 0 1 0<|F tree],oC [.ints pos],oC [.nils],oC [.msl 0 1 0<|F tree],oC [.i 0]]⟩:=Z5
  rw[←e];exact A6.compE [4,5,6,7,8,1,2,3] Z5
 obtain⟨ρx,Rx,Fx,qw,_⟩:=A6.both s7 Z5 R6 F6;obtain⟨ρ7,R7,F7,q9,_⟩:=A6.both (A6.ros (ϙ:=0) (fr:=AI 33 [(6,.ref 5 0),(7,.ref 6 0),(8,.ref 7 0),(25,.fn 53 4<|L1 [.ref 1 0,.ref 2 0,.ref 3 0,.ref 4 0])]++[.ref 5 0,.ref 6 0,.ref 7 0]) (h:=[oI<|d (F tree) (0:U),oC<|AJ q,oC [.sl 2 (F tree)<|AM BA tree],oC [.msl 0 1 0<|F tree],oC [.ints pos],oC [.nils],oC [.msl 0 1 0<|F tree],oC [.i 0]]) (h':=Bw (d (F tree) (0:U)) q tree (F tree) pos 0++[oC [.nils],oC [.msl 0 1 0<|F tree],oC [.i 0]]) [1,2,3,4] Z5 Z5) rfl Rx Fx;refine wpIn_block ?_;have HY:YC L GG D4 53 (λl=>.yl l::(θ 4).map (L1 [.ref 1 0,.ref 2 0,.ref 3 0,.ref 4 0])) (λ_=>Bw (d (F tree) (0:U)) q tree (F tree) pos 0) (l.map Lf) (a.map wG) λ_=>Bw o q tree (F tree) pos 0:=zJk _ _ _ _ _ (l,a,o) hy;refine zGW (KK:=8) (ϑ:=[oC [.nils],oC [.msl 0 1 0<|F tree],oC [.i 0]]) (J:=λi h=>∃s,Bs (UH n<|F tree) (l.drop i) s=Z (dL l)/\h=UG (F tree) s) R7 Z5 HY rfl Z5 Z5 (λx hx=>by obtain⟨z,_,rfl⟩:=zMf.1 hx;rfl) Z5 (show 5<=8 by decide) ⟨.s0,zOA g2,rfl⟩ (λi h=>by rintro⟨s,_,rfl⟩;cases s <;> exact⟨_,rfl⟩) (roundOf Lf l (UH n<|F tree) (UG<|F tree) (λBN=>AI 33 [(6,.ref 5 0),(7,.ref 6 0),(8,.ref 7 0),(25,.fn 53 4<|L1 [.ref 1 0,.ref 2 0,.ref 3 0,.ref 4 0]),(26,.agg 3<|L1 [.ints BN.1,.ints BN.2.1,.i BN.2.2])]) (λl Ϝ N x s r h=>zN7 n (F tree) l Ϝ N x s r h) Z5) λϒ T' ρ8 e w8 m R8 q8 kp8 y J6 he=>?_
 obtain⟨s,hs,hT⟩:=m;rw[zKB,List.drop_length]at hs;cases hs;have eT:T'=(UG (F tree)<|dL l).drop 5:=by rw[←hT];rfl
 subst eT;have G:=((((((Dg.trans Kf).trans GV).trans S).trans X).trans qw).trans q9).trans q8;have I:GG.ng<=ϒ:=zIX (GG.lo _ R7.hr.gi) J6;have P:w.heap.size<=ϒ:=zIX ((((((Dg.trans Kf).trans GV).trans S).trans X).trans qw).trans q9).upd.size J6;have p:Y.defers= [{ target:=.fn (.func 41) #[a3.tmps.getD 6 undef,a3.tmps.getD 7 undef,a3.tmps.getD 8 undef],args:=#[] }]:=by rw[p,V,Mm,Q,JT,JU,xk];simp[Act.eval]
 have f:Ad L GG N ⟨AI 33 [(6,.ref 5 0),(7,.ref 6 0),(8,.ref 7 0)],Bw o q tree (F tree) pos 0++(UG (F tree)<|dL l).drop 5⟩ ρ8 { Y with defers:={ target:=.collected ϒ,args:=#[] }::Y.defers } w8:=R8.forg [6,7,8] rfl Z5;have F9:=Xt (ϙ:=8) F7 Z5 R8.hr q8 kp8;rcases he with⟨v,rfl,K⟩|⟨rfl,K⟩
 ·have K:a.isSome=D:=by simpa using K
  simp only[K,zMt];cases l with
  |nil=>exact zF6 k.hr G f y I P g1 (by show _::Y.defers=_;rw[p])
  |cons x t=>exact zF5 x t k.hr G f y I P g1 (by show _::Y.defers=_;rw[p])
 ·have K:a.isSome=T:=by simpa using K
  simp only[K,zLV,zRK]
  show LeavesInM _ _ _ _ _ _ (_::Y.defers) _ _
  rw[p];cases l with
  |nil=>exact zIC k.hr G ⟨f.hr,f.fr⟩ y I P F9
  |cons x t=>exact zIB x t k.hr G ⟨f.hr,f.fr⟩ y I P F9
def Hk(n:E)(q:AA)(pos:Ξ)(tree:O<|Δ):M<|(O<|Ξ×Ξ×U)×Ξ×U:=(Lv n q pos tree).bind λe=>B (e != 0) (Z ([],[],e))<|u (((F tree:U):U)=(F tree:U)/\0<=(F tree:U)/\((F tree:U):U)<=1000000000000) ((OO n (d (F tree) (0:U)) q tree (F tree) pos).bind λy=>u (F tree=F y.2.2/\F y.1<=Aw) (Z (u y.2.1.isSome y.1 [],u y.2.1.isSome y.2.2 [],u y.2.1.isSome 0 280)) A) A
def fE{r:(O<|Ξ×Ξ×U)×Ξ×U}(h:Hk n q pos tree=Z r):EQ 23 [.agg 5<|L1<|AJ q,.ints pos,.sl 2 (F tree)<|AM BA tree] [] (.tup 3<|L1 [.sl 3 (F r.1)<|AM (λ(x:Ξ×Ξ×U)=>[.ints x.1,.ints x.2.1,.i x.2.2]) r.1,.ints r.2.1,.i r.2.2]) [] D:=by
 unfold Hk at h;obtain⟨a,f,h⟩:=GP h;rcases B7 h with⟨Y,h⟩|⟨Y,h⟩
 ·refine zN6 (n:=n) ?_;unfold nm nl;rw[f]
  show B (a != 0) _ _=_
  rw[Y];exact h
 ·have J:a=0:=by simpa using Y
  subst J;obtain⟨j,h⟩:=B8 h;obtain⟨⟨l,out,o⟩,hy,h⟩:=GP h;obtain⟨⟨s,y⟩,h⟩:=B8 h;cases h;have m:(Tryz.f23.name== "runtime.NumGoroutine")=T:=Z5
  refine⟨⟨Tryz.f23,Tryz.func23,by simpa using m,Z5⟩,λN ρ w args R v=>(zSO (n:=0)).1<|callsIn_of_wp_marks (c:=Af Tryz.f23) Tryz.func23 Z5 trivial ?_⟩;refine zN5 f j hy s y (N:=N) (ρ0:=ρ) ⟨R,?_⟩ rfl;have b:F ([.agg 5<|L1<|AJ q,.ints pos,.sl 2 (F tree)<|AM BA tree]:O DV)=args.size:=v.1;have e:([.agg 5<|L1<|AJ q,.ints pos,.sl 2 (F tree)<|AM BA tree]:O DV)++d (Tryz.f23.ntmps-F ([.agg 5<|L1<|AJ q,.ints pos,.sl 2 (F tree)<|AM BA tree]:O DV)) .any=AI 33 [(0,.agg 5<|L1<|AJ q),(1,.ints pos),(2,.sl 2 (F tree)<|AM BA tree)]:=Z5
  rw[←e,b];exact BJ.append v<|BJ.anys _ _ _ _
end
section
def RP(ϙ a:E)(ϑ:E->O Av->Ξ->Prop)(r:YR Av U Ξ):Prop:=F r.2.2=ϙ/\F r.1+a<=ϙ/\∀x,r.2.1=Z x->∃v:E,x=(v:U)/\a<=v/\v<=ϙ/\F r.1+a<=v/\ϑ v r.1 r.2.2
def RP.fail{ϙ a:E}{ϑ:E->O Av->Ξ->Prop}{l:O Av}{o:Ξ}(K:F o=ϙ)(q:F l+a<=ϙ):RP ϙ a ϑ (l,A,o):=⟨K,q,λx h=>by cases h⟩
variable{x:U}
def zCw{k:E}(h:Sm k x)(hk:k<=62):Bz x k= []:=by
 unfold Bz;rw[zRI];intro s p;have:=List.mem_range'_1.1 p;rw[h.hi this.1];decide
def sm16{k:U}(h1:1<=k/\k<=16)(h:Sm k.toNat x):Sm 16 x:=
 NR Z6 (h.in64 Z2) λi hi _=>h.hi Z2
section
variable{q:AA}{tree:O Δ}{pos0:Ξ}{pos e:Ξ}{a Ϛ:E}
end
end
section
variable{n:E}{q:AA}
def yu(hn:F q.cons<n):∃b,fP n q=Z b:=by
 unfold fP yw
 have loop:F q.cons<=120->∃b,Ms q n (.l1 0)=Z b:=λhl=>by
  have S:=Jo (λn i=>Ms q n<|.l1 i) (F q.cons) 0 (λi=>u (!(C<|(F (H q.cons i ξ).ce:U)>20)&&!(C<|(F (H q.cons i ξ).ru:U)>10)) A<|Z T) (λn i _ hi=>?_) (n:=n) Z2
  ·rw[show Ms q n (.l1 0)=_ from S];rw[Oq];split
   ·obtain⟨m,P⟩:∃m,n-F q.cons=m+1:=⟨n-F q.cons-1,Z2⟩;exact⟨D,by rw[P];simp[Ms,fN]⟩
   ·exact⟨T,rfl⟩
  ·have a:(i:U)<(F q.cons:U):=Z2
   have hR:AG<|(i:U)+1:=by rw[AZ];omega
   show fN n (Ms q n) q (i:U)=_
   generalize Ms q n=self
   simp only[fN,a,hR,zNY,zAG,zLQ,zRV,zMt,u8];cases C ((F (H q.cons i ξ).ce:U)>20) <;> cases C ((F (H q.cons i ξ).ru:U)>10) <;> rfl
 cases C (q.ce>16)with
 |true=>exact⟨_,rfl⟩
 |false=>
 cases C (q.sy>6)with
 |true=>exact⟨_,rfl⟩
 |false=>
 cases C (((F q.va:E):U)>8)with
 |true=>exact⟨_,rfl⟩
 |false=>
 cases C (((F q.nb:E):U)>20)with
 |true=>exact⟨_,rfl⟩
 |false=>
 by_cases h:((F q.cons:E):U)>120
 ·rw[zAB h];exact⟨_,rfl⟩
 ·rw[zAE h];exact loop Z2
end
section
set_option maxRecDepth 100000
set_option maxHeartbeats 40000000
def zMd(G:O<|Ξ×Ξ×U)(j:U):DH:=[oC [.ints<|(H G j.toNat ξ).1,.ints<|(H G j.toNat ξ).2.1,.i<|(H G j.toNat ξ).2.2]]
inductive gM where
 |l1 (AT:U) (GU:O (Ξ×Ξ×U)) (Lr FE:U)
def RM(n:E)(self:gM->X4)(q:AA)(pos:Ξ)(tree:O<|Δ)(v:Ξ)(a:U)(G:O<|Ξ×Ξ×U)(b j:U):X4:=B (C<|j<b) (u (0<=j/\j<(F G:U)) (B (C<|((F<|(H G j.toNat ξ).2.1:E):U)>0) (u (AG<|a+1) ((UM n (H G j.toNat ξ).2.1 v).bind λe=>B (!e) (Z (T,0))<|u (AG<|j+1) (self<|.l1 (a+1) G b<|j+1) A) A)<|u (AG<|j+1) (self<|.l1 a G b<|j+1) A) A)<|Z (a==u ((F v:U)<1) (F v:U) 1,0)
def zP6(n:E)(self:gM->X4)(q:AA)(pos:Ξ)(tree:O<|Δ)(AE:Ξ):X4:=(Hk n q pos tree).bind λe=>B (e.2.2==280) (Z (T,0))<|B (e.2.2 != 0) (Z (T,e.2.2))<|self<|.l1 0 e.1 (F e.1:U) 0
def Lj(q:AA)(pos:Ξ)(tree:O<|Δ)(v:Ξ):E->gM->X4
 |0,_=>A
 |n+1,.l1 G a b j=>RM n (Lj q pos tree v n) q pos tree v G a b j
def Ir(n:E)(q:AA)(pos:Ξ)(tree:O<|Δ)(v:Ξ):X4:=zP6 n (Lj q pos tree v n) q pos tree v
def zP8(n Ϝ:E)(N:Yd 0)(q:AA)(pos:Ξ)(tree:O<|Δ)(v:Ξ)(r:ζ×U):gM->Prop:=px n Ϝ η N (FQ Tryz.f8 0 (.tup 2<|L1 [.bool r.1,.i r.2]) []) (Af Tryz.f8) λ
 | .l1 a G b j=>(0,0,AI 51 [(3,.ints v),(12,.i a),(28,.sl 3 (F G)<|AM (λ(x:Ξ×Ξ×U)=>[.ints x.1,.ints x.2.1,.i x.2.2]) G),(29,.i b),(30,.i j)],[])
def zP9(Ϝ:E)(N:Yd 0)(q:AA)(pos:Ξ)(tree:O<|Δ)(v:Ξ):Al (Lj q pos tree v) (zP8 · Ϝ N q pos tree v):=ia (λ_=>rfl) λn G s r h=>by
 cases s
 case l1 AT GU Lr FE=>
  intro o j;refine rd j λo j=>?_
  revert r;apply gO;exact bi 31 (gi (jt (bi 37 (gw 39 (cf zE (zMd GU FE) λ_=>bi 44 (lE AC [8,9] []) (gw 45 (lG AC [] (G _ _ · o j))))) (gw 45 (lG AC [] (G _ _ · o j))))))<|lE AC [8,9] []
variable{tree:O Δ}{pos:Ξ}{q:AA}{n:E}
def RH{v:Ξ}{r:ζ×U}(h:Ir n q pos tree v=Z r):EQ 8 [.agg 5<|L1<|AJ q,.ints pos,.sl 2 (F tree)<|AM BA tree,.ints v] [] (.tup 2<|L1 [.bool r.1,.i r.2]) [] D:=by
 refine ot Tryz.func8 λϜ N=>?_
 revert r;apply gO;exact cf fE [oC<|AJ q] λ_=>bi 24 (lE AC [8,9] []) (bi 26 (lE AC [8,9] []) (lN AC [] ((zP9 Ϝ N q pos tree v n) _ _ · n χ)))
inductive Wq where
 |l1 (x7:U) (x20:O (Ξ×Ξ×U)) (x21:U)
 |l2 (x6:E) (x7:U) (x20:O (Ξ×Ξ×U)) (x21 Cs:U) (o0:O Ξ)
def dI(n:E)(self:Wq->X0)(q:AA)(pos:Ξ)(tree:O<|Δ)(J:U)(x20:O<|Ξ×Ξ×U)(x21:U):X0:=B (C<|0<x21) (u ((0:U)<=0/\0<(F x20:U)) (self<|.l2 (F ([(H x20 0 ξ).1]:O Ξ)) J x20 x21 1 ([(H x20 0 ξ).1]:O Ξ)) A)<|Z (([]:O Ξ),J)
def Wp(n:E)(self:Wq->X0)(q:AA)(pos:Ξ)(tree:O<|Δ)(x6:E)(J:U)(x20:O<|Ξ×Ξ×U)(x21 K:U)(o0:O Ξ):X0:=B (C<|K<x21) (u ((0<=K/\K<(F x20:U))/\x6=F o0/\F o0+F ([(H x20 K.toNat ξ).1]:O Ξ)<=Aw/\AG (K+1)) (self<|.l2 (F o0+F ([(H x20 K.toNat ξ).1]:O Ξ)) J x20 x21 (K+1)<|o0++([(H x20 K.toNat ξ).1]:O Ξ)) A)<|u (x6=F o0) (Z (o0,J)) A
def zJo(n:E)(self:Wq->X0)(q:AA)(pos:Ξ)(tree:O<|Δ):X0:=(Hk n q pos tree).bind λe=>self<|.l1 e.2.2 e.1 (F e.1:U)
def LH(q:AA)(pos:Ξ)(tree:O<|Δ):E->Wq->X0
 |0,_=>A
 |n+1,.l1 J x20 x21=>dI n (LH q pos tree n) q pos tree J x20 x21
 |n+1,.l2 x6 J x20 x21 K o0=>Wp n (LH q pos tree n) q pos tree x6 J x20 x21 K o0
def MV(n:E)(q:AA)(pos:Ξ)(tree:O<|Δ):X0:=zJo n (LH q pos tree n) q pos tree
def zJq(n Ϝ:E)(N:Yd 0)(q:AA)(pos:Ξ)(tree:O<|Δ)(r:(O Ξ)×U):Wq->Prop:=px n Ϝ η N (FQ Tryz.f10 0 (.tup 2<|L1 [.sl 1 (F r.1)<|AM AS r.1,.i r.2]) []) (Af Tryz.f10) λ
 | .l1 J x20 x21=>(0,0,AI 34 [(6,.nils),(7,.i J),(20,.sl 3 (F x20)<|AM (λ(x:Ξ×Ξ×U)=>[.ints x.1,.ints x.2.1,.i x.2.2]) x20),(21,.i x21),(22,.i 0)],[])
 | .l2 x6 J x20 x21 K o0=>(0,0,AI 34 [(6,.msl 0 1 0 x6),(7,.i J),(20,.sl 3 (F x20)<|AM (λ(x:Ξ×Ξ×U)=>[.ints x.1,.ints x.2.1,.i x.2.2]) x20),(21,.i x21),(22,.i K)],[Z<|.arr 1 (F o0)<|AM AS o0])
def zJr(Ϝ:E)(N:Yd 0)(q:AA)(pos:Ξ)(tree:O<|Δ):Al (LH q pos tree) (zJq · Ϝ N q pos tree):=ia (λ_=>rfl) λn G s r h=>by
 cases s
 case l1 x7 x20 x21=>
  intro o j;refine rd j λo j=>?_
  revert r;apply gO;exact bi 23 (gi (jt (ja 29 1 1 (E4 (c:=AS) (ϙ:=([(H x20 0 ξ).1]:O Ξ)) (vals:=[.ints<|(H x20 0 ξ).1]) rfl ⟨⟨_,rfl,⟨Ab,trivial⟩⟩,trivial⟩) (jg (γ (γ (γ (φ 0)<|φ 1)<|OD AS ([(H x20 0 ξ).1]:O Ξ) (F ([(H x20 0 ξ).1]:O Ξ)) 1 λ_=>⟨rfl,rfl⟩)<|γ (by decide:0<1) (by decide:1<=Aw)) (lG AC [2] (G _ _ · o j))))))<|lF λp=>el AC [6,7] [] p [] H0 [.nils,.i x7]<|AO.tupL (l:=[.nils,.i x7]) (l':=[.sl 1 (F ([]:O Ξ))<|AM AS ([]:O Ξ),.i x7]) rfl ⟨AO.sl_nil _ _,Ab,trivial⟩
 case l2 x6 x7 x20 x21 Cs o0=>
  intro o j;refine rd j λo j=>?_
  revert r;apply gO;exact bi 23 (gc (gi (jt (ja 29 2 1 (E4 (c:=AS) (ϙ:=([(H x20 Cs.toNat ξ).1]:O Ξ)) (vals:=[.ints<|(H x20 Cs.toNat ξ).1]) rfl ⟨⟨_,rfl,⟨Ab,trivial⟩⟩,trivial⟩) (gc (gn λa=>gc (gn λy=>jg (γ (γ (γ (φ 0)<|φ 1)<|OD AS ([(H x20 Cs.toNat ξ).1]:O Ξ) (F ([(H x20 Cs.toNat ξ).1]:O Ξ)) 1 λ_=>⟨rfl,rfl⟩)<|γ (γ (φ 0) a) y) (ja 30 3 1 (Vf (enc:=YD AS) (ϙ:=o0) (L':=([(H x20 Cs.toNat ξ).1]:O Ξ)) rfl rfl λ_ _ _ _=>Ab) (gw 31 (lG AC [3] (G _ _ · o j)))))))))))<|gn λb=>lF λp=>ez AC [6,7] [0] p [0]<|H0.g b
def dH{r:(O Ξ)×U}(h:MV n q pos tree=Z r):EQ 10 [.agg 5<|L1<|AJ q,.ints pos,.sl 2 (F tree)<|AM BA tree] [] (.tup 2<|L1 [.sl 1 (F r.1)<|AM AS r.1,.i r.2]) [] D:=by
 refine ot Tryz.func10 λϜ N=>?_
 revert r;apply gO;exact cf fE [oC<|AJ q] λ_=>lN AC [] ((zJr Ϝ N q pos tree n) _ _ · n χ)
def vg(n:E)(q:AA)(pos:Ξ)(tree:O<|Δ)(at_:U):W7:=(Hk n q pos tree).bind λe=>B (e.2.2 != 0) (Z (0,e.2.2))<|B (C<|at_<0) (Z (0,1))<|B (C<|at_>=(F e.2.1:U)) (Z (0,1))<|u (0<=at_/\at_<(F e.2.1:U)) (Z (H e.2.1 at_.toNat 0,0)) A
def OH(n:E)(q:AA)(pos:Ξ)(tree:O<|Δ)(at_:U):W7:=vg n q pos tree at_
variable{r:Δ}
def vf{at_:U}(h:OH n q pos tree at_=Z r):EQ 12 [.agg 5<|L1<|AJ q,.ints pos,.sl 2 (F tree)<|AM BA tree,.i at_] [] (.tup 2<|L1 [.i r.1,.i r.2]) [] D:=by
 unfold OH vg at h;refine ot Tryz.func12 λϜ N=>?_
 revert r;apply gO;exact cf fE [oC<|AJ q] λ_=>bi 21 (lE AC [8,9] [])<|bi 24 (lE AC [8,9] [])<|bi 29 (lE AC [8,9] [])<|gi<|lE AC [8,9] []
inductive fg where
 |l1 (x6 x7:U) (x20:O (Ξ×Ξ×U)) (x21 Cs:U)
def YM(n:E)(self:fg->W7)(q:AA)(pos:Ξ)(tree:O<|Δ)(x6 J:U)(x20:O<|Ξ×Ξ×U)(x21 K:U):W7:=B (C<|K<x21) (u ((0<=K/\K<(F x20:U))/\AG (K+1)) (self<|.l1 (u ((H x20 K.toNat ξ).2.2>x6) (H x20 K.toNat ξ).2.2 x6) J x20 x21<|K+1) A)<|Z (x6,J)
def zPC(n:E)(self:fg->W7)(q:AA)(pos:Ξ)(tree:O<|Δ):W7:=(Hk n q pos tree).bind λe=>self<|.l1 0 e.2.2 e.1 (F e.1:U) 0
def RA(q:AA)(pos:Ξ)(tree:O<|Δ):E->fg->W7
 |0,_=>A
 |n+1,.l1 x6 J x20 x21 K=>YM n (RA q pos tree n) q pos tree x6 J x20 x21 K
def UQ(n:E)(q:AA)(pos:Ξ)(tree:O<|Δ):W7:=zPC n (RA q pos tree n) q pos tree
def zPE(n Ϝ:E)(N:Yd 0)(q:AA)(pos:Ξ)(tree:O<|Δ)(r:Δ):fg->Prop:=px n Ϝ η N (FQ Tryz.f14 0 (.tup 2<|L1 [.i r.1,.i r.2]) []) (Af Tryz.f14) λ
 | .l1 x6 J x20 x21 K=>(0,0,AI 33 [(6,.i x6),(7,.i J),(20,.sl 3 (F x20)<|AM (λ(x:Ξ×Ξ×U)=>[.ints x.1,.ints x.2.1,.i x.2.2]) x20),(21,.i x21),(22,.i K)],[])
def zPF(Ϝ:E)(N:Yd 0)(q:AA)(pos:Ξ)(tree:O<|Δ):Al (RA q pos tree) (zPE · Ϝ N q pos tree):=ia (λ_=>rfl) λn G s r h=>by
 cases s
 case l1 x6 x7 x20 x21 Cs=>
  intro o j;refine rd j λo j=>?_
  revert r;apply gO;exact bi 23 (gc (gi (jt (gw 30 (lG AC [] (G _ _ · o j))))))<|lE AC [6,7] []
def zZ(h:UQ n q pos tree=Z r):EQ 14 [.agg 5<|L1<|AJ q,.ints pos,.sl 2 (F tree)<|AM BA tree] [] (.tup 2<|L1 [.i r.1,.i r.2]) [] D:=by
 refine ot Tryz.func14 λϜ N=>?_
 revert r;apply gO;exact cf fE [oC<|AJ q] λ_=>lN AC [] ((zPF Ϝ N q pos tree n) _ _ · n χ)
end
section
set_option maxRecDepth 100000
set_option maxHeartbeats 40000000
def zDR:Ac (Ah Tryz.f26 6) [] (θ 9) []:=Z0
def VO:BG:=λi=>match i with
 |6=>.ord [] (θ 9) []
 |_=>.no
inductive aC where
 |l1 (x5:U)
def VW(n:E)(self:aC->X9)(a b:Ξ)(P:U):X9:=B (C<|P<(F a:U)) (u ((0<=P/\P<(F a:U))/\(0<=P/\P<(F b:U))) (B (H a P.toNat 0 != H b P.toNat 0) (Z T)<|u (AG<|P+1) (self<|.l1<|P+1) A) A)<|Z D
def sF(n:E)(self:aC->X9)(a b:Ξ):X9:=B ((F a:U) != (F b:U)) (Z T)<|self<|.l1 0
def Sb(a b:Ξ):E->aC->X9
 |0,_=>A
 |n+1,.l1 P=>VW n (Sb a b n) a b P
def aD(n:E)(a b:Ξ):X9:=sF n (Sb a b n) a b
def zDC(n Ϝ:E)(N:Yd 0)(a b:Ξ)(r:ζ):aC->Prop:=px n Ϝ η N (FQ Tryz.f26 0 (.bool r) []) (Af Tryz.f26) λ
 | .l1 P=>(0,0,AI 26 [(0,.ints a),(1,.ints b),(5,.i P)],[])
def zDD(Ϝ:E)(N:Yd 0)(a b:Ξ):Al (Sb a b) (zDC · Ϝ N a b):=ia (λ_=>rfl) λn G s r h=>by
 cases s
 case l1 x5=>
  intro o j;refine rd j λo j=>?_
  revert r;apply gO;exact bi 14 (jg zDR (gc (gi (gi (bi 25 (lE VO [4] []) (gw 16 (lG VO [] (G _ _ · o j))))))))<|lE VO [4] []
variable{r:ζ}{n:E}
def zDB{a b:Ξ}(h:aD n a b=Z r):EQ 26 [.ints a,.ints b] [] (.bool r) [] D:=by
 refine ot Tryz.func26 λϜ N=>?_
 revert r;apply gO;exact bi 10 (lE VO [4] []) (lN VO [] ((zDD Ϝ N a b n) _ _ · n χ))
def zDP:Ac (Ah Tryz.f16 6) [([0,1,2,3,4,5,6,7],8)] [9] []:=Z0
def VM:BG:=λi=>match i with
 |6=>.ord [([0,1,2,3,4,5,6,7],8)] [9] []
 |_=>.no
inductive aA where
 |l1 (x5:U)
def VU(n:E)(self:aA->X9)(a b:O Ξ)(P:U):X9:=B (C<|P<(F a:U)) (u ((0<=P/\P<(F a:U))/\(0<=P/\P<(F b:U))) ((aD n (H a P.toNat [])<|H b P.toNat []).bind λe=>B (!e) (Z T)<|u (AG<|P+1) (self<|.l1<|P+1) A) A)<|Z D
def sB(n:E)(self:aA->X9)(a b:O Ξ):X9:=B ((F a:U) != (F b:U)) (Z T)<|self<|.l1 0
def SZ(a b:O Ξ):E->aA->X9
 |0,_=>A
 |n+1,.l1 P=>VU n (SZ a b n) a b P
def Pm(n:E)(a b:O Ξ):X9:=sB n (SZ a b n) a b
def zC7(n Ϝ:E)(N:Yd 0)(a b:O Ξ)(r:ζ):aA->Prop:=px n Ϝ η N (FQ Tryz.f16 0 (.bool r) []) (Af Tryz.f16) λ
 | .l1 P=>(0,0,AI 27 [(0,.sl 1 (F a)<|AM AS a),(1,.sl 1 (F b)<|AM AS b),(5,.i P)],[])
def zC8(Ϝ:E)(N:Yd 0)(a b:O Ξ):Al (SZ a b) (zC7 · Ϝ N a b):=ia (λ_=>rfl) λn G s r h=>by
 cases s
 case l1 x5=>
  intro o j;refine rd j λo j=>?_
  revert r;apply gO;exact bi 14 (jg zDP (gc (gi (gi (cf zDB [] λ_=>bi 26 (lE VM [4] []) (gw 16 (lG VM [] (G _ _ · o j))))))))<|lE VM [4] []
def sA{a b:O Ξ}(h:Pm n a b=Z r):EQ 16 [.sl 1 (F a)<|AM AS a,.sl 1 (F b)<|AM AS b] [] (.bool r) [] D:=by
 refine ot Tryz.func16 λϜ N=>?_
 revert r;apply gO;exact bi 10 (lE VM [4] []) (lN VM [] ((zC8 Ϝ N a b n) _ _ · n χ))
def fQ(n:E)(q:AA)(pos:Ξ)(tree:O<|Δ):X9:=(fP n q).bind λe=>B e (B (C<|(F pos:U)<=20) (Z<|C<|(F tree:U)<=400)<|Z T)<|Z T
def Mt(n:E)(q:AA)(pos:Ξ)(tree:O<|Δ):X9:=fQ n q pos tree
def yz{q:AA}{pos:Ξ}{tree:O Δ}(h:Mt n q pos tree=Z r):EQ 7 [.agg 5<|L1<|AJ q,.ints pos,.sl 2 (F tree)<|AM BA tree] [] (.bool r) [] D:=by
 unfold Mt fQ at h;refine ot Tryz.func7 λϜ N=>?_
 revert r;apply gO;exact cf zOW [oC<|AJ q] λ_=>bi 8 (bi 12 (lE AC [6] [])<|lE AC [6] [])<|lE AC [6] []
def zBV(n:E):M AA:=Z (⟨2,2,([1,2]:Ξ),([([1]:Ξ),([0]:Ξ)]:O Ξ),([(⟨1,([0,1]:Ξ),0,0,0,0,([]:Ξ),0,0⟩:AD)]:O AD)⟩:AA)
def p4(n:E):M AA:=zBV n
def zBU{r:AA}(h:p4 n=Z r):EQ 21 [] [] (.agg 5<|L1<|AJ r) [] D:=by
 refine ot Tryz.func21 λϜ N=>?_
 revert r;apply gO;exact jz 2 2<|jg (by decide:1=F ([1]:Ξ))<|jz 3 3<|jg (by decide:1=F ([0]:Ξ))<|ja 4 4 1 (E4 (c:=AS) (ϙ:=([([1]:Ξ),([0]:Ξ)]:O Ξ)) (vals:=[.ints ([1]:Ξ),.ints ([0]:Ξ)]) rfl ⟨⟨_,rfl,⟨Ab,trivial⟩⟩,⟨_,rfl,⟨Ab,trivial⟩⟩,trivial⟩)<|jz 5 5<|jg (by decide:2=F ([0,1]:Ξ))<|ja 7 6 9 (E4 (c:=AW) (ϙ:=([(⟨1,([0,1]:Ξ),0,0,0,0,([]:Ξ),0,0⟩:AD)]:O AD)) (vals:=[.agg 9<|L1 [.i 1,.ints ([0,1]:Ξ),.i 0,.i 0,.i 0,.i 0,.nils,.i 0,.i 0]]) rfl ⟨⟨_,rfl,⟨Ab,Ab,Ab,Ab,Ab,Ab,AO.ints_nil,Ab,Ab,trivial⟩⟩,trivial⟩)<|jt<|lF λp=>ez AC [0] [0,1,4,6] p [1,2,3] (H0.g (by decide:2=F ([1,2]:Ξ))|>.g (by decide:2=F ([([1]:Ξ),([0]:Ξ)]:O Ξ))|>.g (φ 1))
def zLv(e:AA):DH:=[oC<|AJ e,oI ([0,0]:Ξ),A,oI ([3,3]:Ξ),oI ([1,2]:Ξ),A,oI ([0,1]:Ξ)]
def zLu(e:AA):DH:=[oC<|AJ e,oI ([0,0]:Ξ),A,oI ([3,3]:Ξ),oI ([1,2]:Ξ),A,oI ([0,1]:Ξ),oI ([1,2]:Ξ),A]
def zLt(e:AA):DH:=[oC<|AJ e,A,A,oI ([3,1]:Ξ),oI ([3,1]:Ξ),oI ([3,1]:Ξ),oI ([1,0]:Ξ)]
def zLs(e:AA):DH:=[oC<|AJ e,A,A,oI ([3,1]:Ξ),oI ([3,1]:Ξ),oI ([3,1]:Ξ),oI ([1,0]:Ξ),A]
def zLr(e:AA):DH:=[oC<|AJ e,A,A,oI ([3,1]:Ξ),oI ([3,1]:Ξ),oI ([3,1]:Ξ),oI ([1,0]:Ξ),A,A,A,A]
def r9(n:E):X9:=(p4 n).bind λe=>(Ir n e ([0,0]:Ξ) ([(3,0)]:O<|Δ) ([]:Ξ)).bind λr=>(Ir n e ([3,3]:Ξ) ([]:O<|Δ) ([]:Ξ)).bind λy3=>(Ir n e ([1,2]:Ξ) ([(4,0)]:O<|Δ) ([0,1]:Ξ)).bind λQ=>(Ir n e ([1,2]:Ξ) ([(4,0)]:O<|Δ) ([]:Ξ)).bind λa=>(MV n e ([3,1]:Ξ) ([(2,0),(3,0),(4,0)]:O<|Δ)).bind λc=>(MV n e ([3,1]:Ξ) ([(2,0),(1,0),(3,0),(4,0)]:O<|Δ)).bind λb=>(UQ n e ([3,1]:Ξ) ([(2,0),(1,0),(3,0),(4,0)]:O<|Δ)).bind λl=>(OH n e ([3,1]:Ξ) ([(2,0),(1,0),(3,0),(4,0)]:O<|Δ) 1).bind λP=>(Ir n e ([3,1]:Ξ) ([(2,0),(1,0),(3,0),(4,0)]:O<|Δ) ([1,0]:Ξ)).bind λI=>(MV n e ([3,3]:Ξ) ([]:O<|Δ)).bind λf=>B (r.2 != 0) (Z T)<|B (y3.2 != 0) (Z T)<|B (Q.2 != 0) (Z T)<|B (a.2 != 0) (Z T)<|B (c.2 != 280) (Z T)<|B (b.2 != 0) (Z T)<|B (l.2 != 0) (Z T)<|B (P.2 != 0) (Z T)<|B (I.2 != 0) (Z T)<|B (f.2 != 280) (Z T)<|B r.1 (B (!y3.1) (B Q.1 (B (!a.1) ((Pm n b.1 ([([0,0]:Ξ),([2,1]:Ξ)]:O Ξ)).bind λJ=>B J (B (l.1==1) (B (P.1==3) (Z I.1)<|Z T)<|Z T)<|Z T)<|Z T)<|Z T)<|Z T)<|Z T
def Pk(n:E):X9:=r9 n
def r7(h:Pk n=Z r):EQ 6 [] [] (.bool r) [] D:=by
 unfold Pk r9 at h;refine ot Tryz.func6 λϜ N=>?_
 revert r;apply gO
 exact cf zBU [] λe=>jt<|ja 29 2 2 (E4 (c:=BA) (ϙ:=([(3,0)]:O<|Δ)) (vals:=[.agg 2<|L1 [.i 3,.i 0]]) rfl ⟨⟨_,rfl,⟨Ab,Ab,trivial⟩⟩,trivial⟩)<|jz 29 2<|jg (by decide:1=F ([(3,0)]:O<|Δ))<|cn λa j=>jc (sb [.agg 5<|L1<|AJ e,.msl 1 1 0 2,.sl 2 (F ([(3,0)]:O<|Δ))<|AM BA ([(3,0)]:O<|Δ),.nils] (RH j) [oC<|AJ e,oI ([0,0]:Ξ),A] ⟨Am.plain Z5,Am.ints rfl (by decide:2=F ([0,0]:Ξ)),Am.plain Z5,Am.nils,trivial⟩)<|cn λy3 k=>jc (sb [.agg 5<|L1<|AJ e,.msl 3 1 0 2,.nils,.nils] (RH k) [oC<|AJ e,oI ([0,0]:Ξ),A,oI ([3,3]:Ξ)] ⟨Am.plain Z5,Am.ints rfl (by decide:2=F ([3,3]:Ξ)),Am.dle Z5<|AO.sl_nil _ _,Am.nils,trivial⟩)<|ja 43 5 2 (E4 (c:=BA) (ϙ:=([(4,0)]:O<|Δ)) (vals:=[.agg 2<|L1 [.i 4,.i 0]]) rfl ⟨⟨_,rfl,⟨Ab,Ab,trivial⟩⟩,trivial⟩)<|jz 43 5<|jg (by decide:1=F ([(4,0)]:O<|Δ))<|cn λQ l=>jc (sb [.agg 5<|L1<|AJ e,.msl 4 1 0 2,.sl 2 (F ([(4,0)]:O<|Δ))<|AM BA ([(4,0)]:O<|Δ),.msl 6 1 0 2] (RH l) (zLv e) ⟨Am.plain Z5,Am.ints rfl (by decide:2=F ([1,2]:Ξ)),Am.plain Z5,Am.ints rfl (by decide:2=F ([0,1]:Ξ)),trivial⟩)<|ja 52 8 2 (E4 (c:=BA) (ϙ:=([(4,0)]:O<|Δ)) (vals:=[.agg 2<|L1 [.i 4,.i 0]]) rfl ⟨⟨_,rfl,⟨Ab,Ab,trivial⟩⟩,trivial⟩)<|jz 52 8<|jg (by decide:1=F ([(4,0)]:O<|Δ))<|cn λJ G=>jc (sb [.agg 5<|L1<|AJ e,.msl 7 1 0 2,.sl 2 (F ([(4,0)]:O<|Δ))<|AM BA ([(4,0)]:O<|Δ),.nils] (RH G) (zLu e) ⟨Am.plain Z5,Am.ints rfl (by decide:2=F ([1,2]:Ξ)),Am.plain Z5,Am.nils,trivial⟩)<|ja 59 9 2 (E4 (c:=BA) (ϙ:=([(2,0),(3,0),(4,0)]:O<|Δ)) (vals:=[.agg 2<|L1 [.i 2,.i 0],.agg 2<|L1 [.i 3,.i 0],.agg 2<|L1 [.i 4,.i 0]]) rfl ⟨⟨_,rfl,⟨Ab,Ab,trivial⟩⟩,⟨_,rfl,⟨Ab,Ab,trivial⟩⟩,⟨_,rfl,⟨Ab,Ab,trivial⟩⟩,trivial⟩) (λp r h=>by
  refine gz (AK 7 AC) [0,9] p [1] (H0.g (by decide:3=F ([(2,0),(3,0),(4,0)]:O<|Δ))) (CW (Af Tryz.f6) 7 []) (AI 175 [(1,.ref 0 0),(2,.bool a.1),(3,.i a.2),(4,.bool y3.1),(5,.i y3.2),(6,.bool Q.1),(7,.i Q.2),(8,.bool J.1),(9,.i J.2),(10,.sl 2 (F ([(2,0),(3,0),(4,0)]:O<|Δ))<|AM BA ([(2,0),(3,0),(4,0)]:O<|Δ))]) [oC<|AJ e,A] ?_;revert r;apply gO
  exact jz 62 2<|jg (by decide:2=F ([3,1]:Ξ))<|cf dH [oC<|AJ e,A,A] λI=>ja 71 3 2 (E4 (c:=BA) (ϙ:=([(2,0),(1,0),(3,0),(4,0)]:O<|Δ)) (vals:=[.agg 2<|L1 [.i 2,.i 0],.agg 2<|L1 [.i 1,.i 0],.agg 2<|L1 [.i 3,.i 0],.agg 2<|L1 [.i 4,.i 0]]) rfl ⟨⟨_,rfl,⟨Ab,Ab,trivial⟩⟩,⟨_,rfl,⟨Ab,Ab,trivial⟩⟩,⟨_,rfl,⟨Ab,Ab,trivial⟩⟩,⟨_,rfl,⟨Ab,Ab,trivial⟩⟩,trivial⟩) (λp r h=>by
   refine gz (AK 9 AC) [0,3] p [1] (H0.g (by decide:4=F ([(2,0),(1,0),(3,0),(4,0)]:O<|Δ))) (CW (Af Tryz.f6) 9 []) (AI 175 [(1,.ref 0 0),(2,.bool a.1),(3,.i a.2),(4,.bool y3.1),(5,.i y3.2),(6,.bool Q.1),(7,.i Q.2),(8,.bool J.1),(9,.i J.2),(12,.i I.2),(13,.sl 2 (F ([(2,0),(1,0),(3,0),(4,0)]:O<|Δ))<|AM BA ([(2,0),(1,0),(3,0),(4,0)]:O<|Δ))]) [oC<|AJ e,A] ?_;revert r;apply gO;exact jz 74 2<|jg (by decide:2=F ([3,1]:Ξ))<|cf dH [oC<|AJ e,A,A] λ_=>cn λy8 K=>jc (sb [.agg 5<|L1<|AJ e,.msl 3 1 0 2,.sl 2 (F ([(2,0),(1,0),(3,0),(4,0)]:O<|Δ))<|AM BA ([(2,0),(1,0),(3,0),(4,0)]:O<|Δ)] (zZ K) [oC<|AJ e,A,A,oI ([3,1]:Ξ)] ⟨Am.plain Z5,Am.ints rfl (by decide:2=F ([3,1]:Ξ)),Am.plain Z5,trivial⟩)<|cn λy9 b=>jc (sb [.agg 5<|L1<|AJ e,.msl 4 1 0 2,.sl 2 (F ([(2,0),(1,0),(3,0),(4,0)]:O<|Δ))<|AM BA ([(2,0),(1,0),(3,0),(4,0)]:O<|Δ),.i 1] (vf b) [oC<|AJ e,A,A,oI ([3,1]:Ξ),oI ([3,1]:Ξ)] ⟨Am.plain Z5,Am.ints rfl (by decide:2=F ([3,1]:Ξ)),Am.plain Z5,Am.plain Z5,trivial⟩)<|cn λiN P=>jc (sb [.agg 5<|L1<|AJ e,.msl 5 1 0 2,.sl 2 (F ([(2,0),(1,0),(3,0),(4,0)]:O<|Δ))<|AM BA ([(2,0),(1,0),(3,0),(4,0)]:O<|Δ),.msl 6 1 0 2] (RH P) (zLt e) ⟨Am.plain Z5,Am.ints rfl (by decide:2=F ([3,1]:Ξ)),Am.plain Z5,Am.ints rfl (by decide:2=F ([1,0]:Ξ)),trivial⟩)<|jz 103 7<|jg (by decide:2=F ([3,3]:Ξ))<|cn λpY f=>jc (fb (ES.argsLe (ds:=[.agg 5<|L1<|AJ e,.ints ([3,3]:Ξ),.nils]) (dH f) ⟨Ab,Ab,AO.sl_nil _ _,trivial⟩)<|zLs e)<|bi 108 (lE AC [0] [])<|bi 111 (lE AC [0] [])<|bi 115 (lE AC [0] [])<|bi 119 (lE AC [0] [])<|bi 123 (lE AC [0] [])<|bi 127 (lE AC [0] [])<|bi 131 (lE AC [0] [])<|bi 135 (lE AC [0] [])<|bi 139 (lE AC [0] [])<|bi 143 (lE AC [0] [])<|bi 145 (bi 148 (bi 151 (bi 155 (jz 159 8<|jg (by decide:2=F ([0,0]:Ξ))<|jz 160 9<|jg (by decide:2=F ([2,1]:Ξ))<|ja 161 10 1 (E4 (c:=AS) (ϙ:=([([0,0]:Ξ),([2,1]:Ξ)]:O Ξ)) (vals:=[.ints ([0,0]:Ξ),.ints ([2,1]:Ξ)]) rfl ⟨⟨_,rfl,⟨Ab,trivial⟩⟩,⟨_,rfl,⟨Ab,trivial⟩⟩,trivial⟩)<|jz 161 10<|jg (by decide:2=F ([([0,0]:Ξ),([2,1]:Ξ)]:O Ξ))<|cf sA (zLr e) λ_=>bi 162 (bi 166 (bi 170 (lE AC [0] [])<|lE AC [0] [])<|lE AC [0] [])<|lE AC [0] [])<|lE AC [0] [])<|lE AC [0] [])<|lE AC [0] [])<|lE AC [0] []))
end
abbrev zK3:=@List.drop_eq_getElem_cons
abbrev zR1:=@List.drop_of_length_le
def zC6:Ev Pk D:=⟨300,λn hn=>by
 obtain⟨k,rfl⟩:∃k,n=k+300:=⟨n-300,Z2⟩
 show Pk (k+300)=Z D
 kernel_rfl⟩
section
variable{q:AA}{pos:Ξ}{tree:O Δ}
def wO{n f:E->X9}(h:∀m,n m=(Pk m).bind λe=>B (!e) (Z T)<|(Mt m q pos tree).bind λr=>B (!r) (Z D)<|f m)(g:F pos<=20->F tree<=400->Ev f D):Ev n D:=by
 obtain⟨Y,c⟩:=zC6
 by_cases w:F pos<=20/\F tree<=400
 ·obtain⟨i,j⟩:=g w.1 w.2;refine⟨Y+i+F q.cons+1,λm P=>?_⟩;obtain⟨b,a⟩:=yu (q:=q) (n:=m) Z2;rw[h m,c m Z2,zAC]
  show((Mt m q pos tree).bind λr=>B (!r) (Z D)<|f m)=_
  unfold Mt fQ;rw[a,zAC,zAB Z2,zAB Z2];cases b with
  |false=>rfl
  |true=>exact j m Z2
 ·refine⟨Y+F q.cons+1,λm P=>?_⟩;obtain⟨b,a⟩:=yu (q:=q) (n:=m) Z2;rw[h m,c m Z2,zAC]
  show((Mt m q pos tree).bind λr=>B (!r) (Z D)<|f m)=_
  unfold Mt fQ;rw[a,zAC];cases b with
  |false=>rfl
  |true=>
   rw[zAG]
   by_cases nS:F pos<=20
   ·rw[zAB Z2,zAE Z2];rfl
   ·rw[zAE Z2];rfl
variable{r:O Av×Ξ×U}
def zJp(h:Ev (λn=>Hk n q pos tree) r)(f:F r.1<=65536):Ev (λn=>MV n q pos tree) (r.1.map (·.1),r.2.2):=by
 obtain⟨l,o,c⟩:=r;have f:F l<=65536:=f;have ϙ:(1000000000000:E)=Aw:=rfl
 have key:∀(k j:E),j+k=F l->Ev (λn=>LH q pos tree n (.l2 j c l (F l:U) (j:U) ((l.take j).map (·.1)))) (l.map (·.1),c):=by
  intro k
  induction k with
  |zero=>
   intro j e;refine Ev.one λn=>?_
   show Wp n (LH q pos tree n) q pos tree j c l (F l:U) (j:U) _=_
   unfold Wp;rw[zAE Z2,zAD,zRz Z2,zAF<|by rw[zKB];omega]
  |succ k m=>
   intro j e;have g:j<F l:=Z2
   refine AR.ev (AR.one λn=>?_)<|m (j+1) Z2
   show Wp n (LH q pos tree n) q pos tree j c l (F l:U) (j:U) _=_
   unfold Wp;have R:F ((l.take j).map (·.1))=j:=by rw[zKB,zRg];omega
   rw[zAB Z2,zAG,zAF ⟨⟨Z2,Z2⟩,R.symm,by rw[R,←ϙ];show j+1<=_;omega,AZ.2 ⟨Z2,Z2⟩⟩,u8,R]
   rw[show(l.take<|j+1).map (·.1)=(l.take j).map (·.1)++[(H l j ξ).1] by
    rw[List.take_succ_eq_append_getElem g,zSK,zBD,zKA g];rfl]
   rfl
 refine Ev.eq (Ev.bind h (b:=λn a=>LH q pos tree n<|.l1 a.2.2 a.1 (F a.1:U)) ?_) λn=>rfl
 cases i:l with
 |nil=>
  refine Ev.one λn=>?_
  show dI n (LH q pos tree n) q pos tree c [] 0=_
  rfl
 |cons x t=>
  have:=key (F t) 1 (by rw[i,zLA];omega);rw[i]at this;refine AR.ev (AR.one λn=>?_) this
  show dI n (LH q pos tree n) q pos tree c (x::t) ((F<|x::t:E):U)=_
  unfold dI;rw[zAB Z3,zAG,zAF ⟨zKw _,Z3⟩];rfl
def zIp(h:Ev (λn=>Hk n q pos tree) r)(h0:r.2.2=0){a:E}(f:a<F r.2.1):Ev (λn=>OH n q pos tree a) (H r.2.1 a 0,0):=by
 obtain⟨l,o,c⟩:=r;have h0:c=0:=h0;subst h0;have f:a<F o:=f;refine Ev.eq (Ev.bind h (b:=λn e=>B (e.2.2 != 0) (Z (0,e.2.2))<|B (C<|(a:U)<0) (Z (0,1))<|B (C<|(a:U)>=(F e.2.1:U)) (Z (0,1))<|u (0<=(a:U)/\(a:U)<(F e.2.1:U)) (Z (H e.2.1 ((a:U)).toNat 0,0)) A)<|Ev.now λn=>?_) λn=>rfl
 show B (C<|(a:U)<0) _ _=_
 rw[zAE Z2,zAD]
 show B (C<|(a:U)>=(F o:U)) _ _=_
 rw[zAE Z2,zAD,zAF ⟨Z2,Z2⟩,u8]
def cg(l:O Av):U:=l.foldl (λm x=>u (x.2.2>m) x.2.2 m) 0
def zPD(h:Ev (λn=>Hk n q pos tree) r)(f:F r.1<=65536):Ev (λn=>UQ n q pos tree) (cg r.1,r.2.2):=by
 obtain⟨l,o,c⟩:=r;have f:F l<=65536:=f
 have key:∀(k j:E) (m:U),j+k=F l->Ev (λn=>RA q pos tree n<|.l1 m c l (F l:U) (j:U)) ((l.drop j).foldl (λm x=>u (x.2.2>m) x.2.2 m) m,c):=by
  intro k
  induction k with
  |zero=>
   intro j m e;refine Ev.one λn=>?_
   show YM n (RA q pos tree n) q pos tree m c l (F l:U) (j:U)=_
   unfold YM;rw[zAE Z2,zAD,zR1 Z2];rfl
  |succ k i=>
   intro j m e;have g:j<F l:=Z2
   rw[zK3 g,zLY];refine AR.ev (AR.one λn=>?_)<|i (j+1) _ Z2
   show YM n (RA q pos tree n) q pos tree m c l (F l:U) (j:U)=_
   unfold YM;rw[zAB Z2,zAG,zAF ⟨⟨Z2,Z2⟩,AZ.2 ⟨Z2,Z2⟩⟩,u8,zBD,zKA g];rfl
 exact Ev.eq (Ev.bind h (b:=λn a=>RA q pos tree n<|.l1 0 a.2.2 a.1 (F a.1:U) 0)<|key (F l) 0 0 Z2) λn=>rfl
end
section
set_option maxRecDepth 100000
set_option maxHeartbeats 40000000
end
end Go.Proofs.YtnkpdcmbppkkpaaGreatDoor
