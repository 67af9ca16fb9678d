/- Part 7 of 8 of what the proofs of these laws stand on. -/
import Derived.Test.YtnkpdcmbppkkpaaGreatDoorPmF
import Derived.RangeFuncLeaves
import Derived.RecoverIn
import Derived.Test.YtnkpdcmbppkkpaaGreatDoorRows
import Derived.ProofKit
import Derived.OpenShut
import Derived.Deep.DeepHandedRow
import Derived.Lib.LaidTab
import Derived.Deep.Slices
import Derived.Stop.LaidErr
import Derived.Test.YtnkpdcmbppkkpaaGreatDoorCards
import Derived.Test.YtnkpdcmbppkkpaaGreatDoorTie
set_option linter.all false
open And renaming intro->γ
open Bool renaming false->D,true->T
open Decidable renaming decide->H
open Eq renaming refl->φ
open Go renaming World->κ,Value->μ,Program->ν,TypeId->ψ,execOp->ω
open Go.Fence renaming wide->η
open Go.Proofs.Tryz renaming prog->B
open Inhabited renaming default->ξ
open List renaming length->F,getD->M,replicate->d,range->θ
open Nat.le renaming refl->χ
open Option renaming none->V,some->Z
open _root_ renaming Option->A,ite->C,Int->E,cond->L,List->O,Nat->U,Bool->ζ,absurd->τ,Array->υ
namespace Go.Proofs.YtnkpdcmbppkkpaaGreatDoor
open Go.RowKit
abbrev zTn:=@List.take_left'
section
variable{P:ν}{Γ:A2}{N:Ψ}{ρ:O AK}{w:κ}{hc ϒ:DH}
def hid(K:U)(ϒ:DH):DH:=d K V++ϒ
variable{K:U}
theorem Yr{k:U}{o:DO}(h:(hid K ϒ)[k]?=Z (Z o)):K<=k/\∀l:DH,F l=K->(l++ϒ)[k]?=Z (Z o):=by
 rcases zCv k K with hk|hk
 ·simp_all[hid,zMZ]
 grind[hid]
variable{b:U}
theorem MO.hid(h:MO (hid (F hc) ϒ) ρ b):MT (F hc) (hc++ϒ) ρ b:=by
 obtain⟨k,o,p,a,c,e⟩:=h;obtain⟨hk,w⟩:=Yr a;exact⟨k,o,p,hk,w hc rfl,c,e⟩
def MT.mo{h:DH}(x:MT K h ρ b):MO h ρ b:=by
 obtain⟨k,o,p,_,a,c,e⟩:=x;exact⟨k,o,p,a,c,e⟩
theorem Ap.hide(Ϙ:Ap P Γ N (hc++ϒ) ρ w):Ap P Γ (λb=>N b∨MO hc (ρ.take<|F hc) b) (hid (F hc) ϒ) ρ w:=by
 have l:∀b,MO (hc++ϒ) ρ b↔MO hc (ρ.take<|F hc) b∨MT (F hc) (hc++ϒ) ρ b:=λb=>by
  have:=MO.split (h:=hc++ϒ) (ρ:=ρ) (F hc) b
  rwa[zTn]at this
  rfl
 have g:∀b,MO hc (ρ.take<|F hc) b->¬MT (F hc) (hc++ϒ) ρ b:=by
  rintro b ⟨k,o,p,m,a,j⟩ ⟨q,o',p',f,u,e,K⟩;rw[zO2]at a;split at a
  ·rename_i hk;exact Ϙ.dis k q o o' p p' b Z2 Z4 u a e j K
  ·cases a
 have s:∀b,MS (λb=>N b∨MO hc (ρ.take<|F hc) b) (hid (F hc) ϒ) ρ b->MS N (hc++ϒ) ρ b:=λb hb=>by
  rcases hb with(hb|hb)|hb
  ·exact .inl hb
  ·exact .inr<|(l b).2<|.inl hb
  ·exact .inr (MO.hid hb).mo
 refine⟨by rw[Ϙ.len];simp[hid],λk o hk=>?_,λk o p b f u e=>?_,λi R o o' p p' b v f u e K x y=>Ϙ.dis i R o o' p p' b v ((Yr f).2 hc rfl) ((Yr u).2 hc rfl) e K x y,λb hb=>?_,Ϙ.gi⟩
 ·obtain⟨p,G,I⟩:=Ϙ.obj k o<|(Yr hk).2 hc rfl;exact⟨p,G,I.out (DU s ρ) (S:=λ_=>False) (AR.refl _ _) (λ_ h=>h.elim) λ_ _ _ h=>h⟩
 ·obtain⟨hk,W⟩:=Yr f;obtain⟨r,J,n⟩:=Ϙ.cel k o p b (W hc rfl) u e;exact⟨r,λhb=>hb.elim J λhb=>g b hb ⟨k,o,p,hk,W hc rfl,u,e⟩,n⟩
 ·rcases hb with hb|hb
  ·exact Ϙ.nlt b hb
  ·obtain⟨k,o,p,m,a,j⟩:=(l b).2<|.inl hb;obtain⟨r,_,c,t,z,n⟩:=Ϙ.cel k o p b m a j
   grind
variable{pv:μ}{gf m:U}{cap:U->DV}{Db:DH}{ys:O (O DV)}{out:A DV}
def zTE(P:ν)(Γ:A2)(pv:μ)(Db:DH)(ρ0:O AK)(out:A DV)(e:Ending)(G R:Ψ)(W:κ):Prop:=((∃v,e=.returned v/\out.isSome=T)∨(e=.panicked (pan pv)/\out.isSome=D))/\∃l ρ',Ap P Γ l Db ρ' W/\IY Γ l G R Db ρ' W/\Bm (F ρ0) ρ0 ρ'
theorem YC.iter(Ϙ:YC P Γ pv gf (λl=>.yl l::(θ m).map cap) (λ_=>hc) ys out λ_=>Db)(HR:Ap P Γ N (hc++ϒ) ρ w)(Y:hc.all (Jn<|F hc)=T)(q:((θ m).map cap).all (CS<|F hc)=T)
 {n:υ μ} (s:n.size=m) (N5:∀j,j<m->∃u,n[j]?=Z u/\AJ (MS N (hc++ϒ) ρ) w (cap j) ρ u):
 jh True P gf n YV ys (zTE P Γ pv Db (ρ.take<|F hc) out) (MO hc<|ρ.take<|F hc) (λb=>b<w.heap.size/\¬MS N (hc++ϒ) ρ b) w:=by
 intro l y Jx W hJ hJx p z J G
 let ϛ:Bw P:=⟨l,ys,y,Jx,hJ,hJx,z⟩
 obtain⟨r,c⟩:=HR.take (K:=F hc) Z3 (by rw[zTn rfl];exact Y);rw[zTn rfl]at r c;have CB:Γ.ng<=w.heap.size:=Γ.lo _ HR.gi
 have f:AR (λb=>N b∨MT (F hc) (hc++ϒ) ρ b) w W:=p.mono λb R g=>by
  grind[MS]
 have lo:∀b,b<Γ.ng->b<w.heap.size/\¬MS N (hc++ϒ) ρ b:=λb a=>⟨Z2,λg=>by
  have:=(HR.lt2 g).2;omega⟩
 have R:∀b,MO hc (ρ.take<|F hc) b->b<w.heap.size:=λb a=>(HR.lt2<|(c b).1<|.inr a).1
 have X:∀b,N b∨MT (F hc) (hc++ϒ) ρ b->(N b∨MT (F hc) (hc++ϒ) ρ b)/\Γ.ng<=b:=λb a=>⟨a,(r.nlt b a).2⟩
 have i:∀b,(b<W.heap.size/\¬MO hc (ρ.take<|F hc) b/\¬(b<w.heap.size/\¬MS N (hc++ϒ) ρ b))->(N b∨MT (F hc) (hc++ϒ) ρ b)∨w.heap.size<=b:=λb ⟨_,q2,q3⟩=>by
  grind[MS]
 have I:Ap P Γ (λb=>b<W.heap.size/\¬MO hc (ρ.take<|F hc) b/\¬(b<w.heap.size/\¬MS N (hc++ϒ) ρ b)) hc (ρ.take<|F hc) W:=r.foreign f X i λb a=>⟨a.1,zQM λQ=>a.2.2<|lo b Q⟩
 have S:A3 (MS (λb=>N b∨MT (F hc) (hc++ϒ) ρ b) hc<|ρ.take<|F hc) w (ρ.take<|F hc) ((θ m).map cap) n:=by
  have e:MS (λb=>N b∨MT (F hc) (hc++ϒ) ρ b) hc (ρ.take<|F hc)=MS N (hc++ϒ) ρ:=funext λb=>propext<|c b
  rw[e];refine A3.take ⟨by simp[s],λj k=>?_⟩ q
  simp_all
 have ZU:=S.out<|BQ.foreign (Γ:=Γ) f X i
 refine(Ϙ.2 ϛ (G trivial) 0 ⟨[],by simp[ϛ]⟩ _ _ _ W _ _ I (A3.append (l:=[.yl ϛ.l]) (t:=#[.func (.yield l) #[] #[]]) ⟨rfl,λj k=>by
  have:j=0:=zUM.1 k;subst this;rfl⟩ ZU) J ⟨⟨λb a hr=>hr.2<|(c b).1<|.inr a,λb a=>zAQ (a.elim (R b) λh=>h.1) p.size⟩,lo,λ_ h=>h,λ_=>Iff.rfl⟩).mono ?_
 rintro e w' ⟨N',ρ',G',R',Eb,j',o,kp,x⟩;refine⟨G',R',o.sh,.inl ⟨?_,?_,N',ρ',Eb,o,?_⟩⟩
 ·simpa[ϛ]using j'
 ·cases out with
  |none=>exact .inr ⟨x,rfl⟩
  |some Ϛ=>obtain⟨v,rfl,_⟩:=x;exact .inl ⟨v,rfl,rfl⟩
 ·have Aj:F (ρ.take<|F hc)=F hc:=by rw[List.length_take,HR.len];simp
  rw[Aj];exact kp
variable{j:Code}{fr:O DV}
theorem zIo{a:Act}{g:Operand}{ps:υ Tmp}{Y:Code}{J:U->DH->Prop}{KK:U}{Q:Exit->Act->κ->Prop}(R:AS P Γ N ⟨fr,hc++ϒ⟩ ρ a w)(hg:Ak fr g=.fn gf m cap)
 (Ϙ:YC P Γ pv gf (λl=>.yl l::(θ m).map cap) (λ_=>hc) ys out λ_=>Db) (hl:F Db=F hc) (BI:hc.all (Jn<|F hc)=T) (I3:((θ m).map cap).all (CS<|F hc)=T)
 (Ez:∀x∈ys,F x=ps.size) (CM:fr.all (CS KK)=T) (hKK:F hc<=KK) (h0:J 0<|hid (F hc) ϒ) (hJ:∀i h,J i h->∃f,h=hid (F hc) f) (DY:af P Γ fr ps.toList j Y KK J (λ_ _=>False) ys)
 (hQ:∀(ϑ:U) (f:DH) (ρ':O AK) (e:Ending) (w':κ),J (F ys) (hid (F hc) f)->AS P Γ N ⟨fr,Db++f⟩ ρ' a w'->A8 (hc++ϒ) ρ w (Db++f) ρ' w'->Bm KK ρ ρ'->w'.heap[ϑ]?=Z (.deferred<|Z [])->w.heap.size<=ϑ->((∃v,e=.returned v/\out.isSome=T)∨(e=.panicked (pan pv)/\out.isSome=D))->
  match e with
  | .returned _=>Q .normal { a with defers:={ target:=.collected ϑ,args:=#[] }::a.defers } w'
  | .panicked c=>Q (.panic c) { a with defers:={ target:=.collected ϑ,args:=#[] }::a.defers } w'
  | .outgrown=>False):(Code.rangeFunc g ps j Y).wpIn η 0 P Q a w:=by
 have hx:=Be R g;rw[hg]at hx;obtain⟨lb,hv,hs,N5⟩:=hx;have HR:Ap P Γ N (hc++ϒ) ρ w:=R.hr;have CB:Γ.ng<=w.heap.size:=Γ.lo _ HR.gi
 have sp:∀b,MO (hc++ϒ) ρ b↔MO hc (ρ.take<|F hc) b∨MT (F hc) (hc++ϒ) ρ b:=λb=>by
  have:=MO.split (h:=hc++ϒ) (ρ:=ρ) (F hc) b
  rwa[zTn]at this
  rfl
 have hN:∀b,N b->b<w.heap.size/\¬MO (hc++ϒ) ρ b:=λb hb=>⟨(HR.nlt b hb).1,λ⟨k,o,p,q1,q2,K⟩=>(HR.cel k o p b q1 q2 K).2.1 hb⟩
 have AY:∀b,MO (hc++ϒ) ρ b->b<w.heap.size/\Γ.ng<=b:=λb hb=>HR.lt2<|.inr hb
 have IV:EX (MO hc<|ρ.take<|F hc) (λb=>b<w.heap.size/\¬MS N (hc++ϒ) ρ b) w:=⟨λb hb s=>s.2<|.inr<|(sp b).2<|.inl hb,λb hb=>hb.elim (λh=>(AY b<|(sp b).2<|.inl h).1) λh=>h.1⟩
 have VC:RJ P Γ N (hc++ϒ) ρ w KK J 0 (MO hc<|ρ.take<|F hc) (λb=>b<w.heap.size/\¬MS N (hc++ϒ) ρ b) w:=
  ⟨_,ρ,h0,HR.hide,AR.refl _ _,λb hb=>.inl (MO.hid hb).mo,λb hb=>⟨(AY b<|(sp b).2<|.inl hb).2,.inl<|(sp b).2<|.inl hb⟩,λb hb=>⟨λhn=>hb.2<|.inl hn,λhm=>hb.2<|.inr (MO.hid hm).mo⟩,Bm.refl _ _⟩
 have hst:∀i,DK<|RJ P Γ N (hc++ϒ) ρ w KK J i:=λi G R' G' R2 ϕ ϛ ⟨h,ρ',q,h2⟩ q1 q2 K q4 q5 q6=>⟨h,ρ',q,RI.stable CB hN _ _ _ _ _ _ h2 q1 q2 K q4 q5 q6⟩
 have Uq:∀c,DK<|RX P Γ N (hc++ϒ) ρ w KK (λ_ _=>False) c:=λc G R' G' R2 ϕ ϛ ⟨e,he,h,ρ',q,h2⟩ _ _ _ _ _ _=>q.elim
 have eg:∀args w,(callFunc gf args).run P w=.ok (.enter gf args) w:=Ϙ.1;refine sH hv eg (Ϙ.iter HR BI I3 hs N5).gen IV (λx hx R W args h=>h.1.symm.trans<|Ez x hx) _ _ _ hst Uq (λc G R' G' R2 ϕ ϛ ⟨h,ρ',q,h2⟩ _ _ _ _ _ _=>q.elim) (λ_ c G R W ⟨e,_,h,ρ',q,_⟩=>q.elim) (λc G R W ⟨h,ρ',q,h2⟩=>q.elim) VC (dI R hN (λ_ h=>h) CM<|DY.p λ_ _=>False) ?_ ?_
 ·rintro ϑ e G R1 own W W' ⟨he,N',ρ',Eb,y',kp⟩ ⟨h,ρ1,q,hR⟩ zMm Ny KT hD Fy;obtain⟨f,rfl⟩:=hJ _ _ q;have Aj:F (ρ.take<|F hc)=F hc:=by rw[List.length_take,HR.len];simp
  rw[Aj]at kp;have Ct:F ρ'=F hc:=by rw[Eb.len,hl]
  have SB:F ρ1=F hc+F f:=by rw[hR.hr.len];simp[hid]
  have eqp:∀k,k<F hc->∃p,ρ'[k]?=Z p/\ρ1[k]?=Z p:=λk hk=>by
   have GA:k<F ρ:=by rw[HR.len];simp;omega
   have e1:ρ[k]?=Z ρ[k]:=zBx GA;exact⟨ρ[k],kp k _ hk Z4,hR.kept k _ Z2 e1⟩
  have xS:∀b,own b->b<W.heap.size->N' b:=λb hb hl=>(y'.n b).2 ⟨hl,Ny b hb,λs=>zMm.dis b (.inr hb) s⟩
  have gN:∀b,N b->¬G b:=λb hb hg=>(hR.g b<|.inl hg).2.elim (hN b hb).2 (by have:=(hN b hb).1;omega)
  have m9:∀{b},MO (Db++f) ρ1 b->MO Db ρ' b∨MO (hid (F hc) f) ρ1 b:=by
   rintro b ⟨k,o,p,q1,q2,K⟩;rcases zCv k (F hc)with hk|hk
   ·obtain⟨p',e1,e2⟩:=eqp k hk;rw[e2]at q2;cases q2;exact .inl ⟨k,o,p,Z4,e1,K⟩
   ·refine .inr ⟨k,o,p,?_,q2,K⟩
    grind[hid]
  have uG:∀b,MS N (Db++f) ρ1 b->MS (λb=>N b∨(G b∨own b)) (hid (F hc) f) ρ1 b:=λb hb=>by
   rcases hb with hb|hb
   ·exact .inl<|.inl hb
   ·rcases m9 hb with hb|hb
    ·exact .inl<|.inr<|.inl<|y'.own b hb
    ·exact .inr hb
  have xY:BQ (MS N' Db ρ') W ρ' (MS N (Db++f) ρ1) W' ρ1:=by
   refine⟨λb hb hm _=>KT.block b hb λho=>hm<|.inl<|xS b ho hb,λb hb=>?_,λk p hp=>?_⟩
   ·rcases zCv b W.heap.size with gC|gC
    ·rcases hb with hb|hb
     ·exact .inl<|.inl<|(y'.n b).2 ⟨gC,gN b hb,λs=>(hR.r b s).1 hb⟩
     ·rcases m9 hb with hb|hb
      ·exact .inl<|.inr hb
      ·obtain⟨_,_,K⟩:=hR.off b hb;exact .inl<|.inl<|(y'.n b).2 ⟨gC,λhg=>K<|.inl<|.inl hg,λs=>K<|.inr s⟩
    ·exact .inr gC
   grind
  have left:∀{k:U} {o:DO},k<F hc->(Db++f)[k]?=Z (Z o)->Db[k]?=Z (Z o):=λ{k o} hk h=>Z4
  have right:∀{k:U} {o:DO},F hc<=k->(Db++f)[k]?=Z (Z o)->(hid (F hc) f)[k]?=Z (Z o):=λ{k o} hk h=>by
   grind[hid]
  have pl:∀{k:U} {p:AK},k<F hc->ρ1[k]?=Z p->ρ'[k]?=Z p:=λ{k p} hk h=>by
   grind
  have HF:Ap P Γ N (Db++f) ρ1 W':=by
   refine⟨by rw[SB];simp[hl],λk o hk=>?_,λk o p b u y I=>?_,λi X o o' p p' b Af u y I g4 g5 g6=>?_,λb hb=>hR.hr.nlt b<|.inl hb,hR.hr.gi⟩
   ·rcases zCv k (F hc)with Da|Da
    ·obtain⟨p,hp,s⟩:=Eb.obj k o<|left Da hk;exact⟨p,xY.pl k p hp,s.out xY (S:=λb=>own b/\b<W.heap.size) (KT.mono λb hb hx=>⟨hx,hb⟩) (λb hb=>.inl<|xS b hb.1 hb.2) λb _ hf hx=>Ny b hx.1<|y'.own b ⟨k,o,p,left Da hk,hp,hf⟩⟩
    ·obtain⟨p,hp,s⟩:=hR.hr.obj k o<|right Da hk;exact⟨p,hp,s.out (DU uG ρ1) (S:=λ_=>False) (AR.refl _ _) (λ_ h=>h.elim) λ_ _ _ h=>h⟩
   ·rcases zCv k (F hc)with Da|Da
    ·have hg:=y'.own b ⟨k,o,p,left Da u,pl Da y,I⟩;obtain⟨c1,c2,c,t,z,c3⟩:=Eb.cel k o p b (left Da u) (pl Da y) I;exact⟨c1,λhn=>gN b hn hg,c,t,z,(KT.block b (zAM.1 c3).1 λho=>Ny b ho hg).trans c3⟩
    ·obtain⟨c1,c2,c3⟩:=hR.hr.cel k o p b (right Da u) y I
     grind
   ·have H5:∀{i X:U} {o o':DO} {p p':AK},i<F hc->F hc<=X->(Db++f)[i]?=Z (Z o)->(Db++f)[X]?=Z (Z o')->ρ1[i]?=Z p->ρ1[X]?=Z p'->p.foot b->p'.foot b->False:=λ{i X o o' p p'} k1 k2 u y I g4 g5 g6=>
     (hR.off b ⟨X,o',p',right k2 y,g4,g6⟩).2.2 (.inl<|.inl<|y'.own b ⟨i,o,p,left k1 u,pl k1 I,g5⟩)
    rcases zCv i (F hc)with FW|FW <;> rcases zCv X (F hc)with FI|FI
    ·exact Eb.dis i X o o' p p' b Af (left FW u) (left FI y) (pl FW I) (pl FI g4) g5 g6
    ·exact H5 FW FI u y I g4 g5 g6
    ·exact H5 FI FW y u g4 I g6 g5
    ·exact hR.hr.dis i X o o' p p' b Af (right FW u) (right FI y) I g4 g5 g6
  have Lb:A3 (MS N (Db++f) ρ1) W' ρ1 fr a.tmps:=((R.fr.take CM).out<|hR.outl.weak λb hb=>hb).out<|DU uG ρ1;exact hQ ϑ f ρ1 e W' q ⟨HF,Lb⟩ ⟨hR.upd,λb hb=>(m9 hb).elim (λh=>(hR.g b<|.inl<|y'.own b h).2)<|hR.grow b⟩ hR.kept hD Fy he
 grind
theorem roundOf{α σ:Type}{n:O Tmp}{W:Code}{K:U}(enc:α->O DV)(ys:O α)(f:α->σ->A σ)(b:σ->DH){o:σ}(q:α->O DV)
 (w:∀(l ϙ:U) (N:BS P Γ K) (x:α) (s r:σ),f x s=Z r->Hq P Γ (Fence.wide.inRound l) (Z ϙ) K N (C3 K [] 0<|b r) W j ⟨q x,b s⟩) (z:(λx=>JL fr n<|enc x)=q):
 af P Γ fr n W j K (λi h=>∃s,CC f (ys.drop i) s=Z o/\h=b s) (λ_ _=>False) (ys.map enc):=by
 subst z;rintro l' Y G i x h g ⟨s,p,rfl⟩;rw[zMN]at g;cases hy:ys[i]? with
 |none=>rw[hy]at g;cases g
 |some y=>
  rw[hy]at g;cases g;have AY:=(zDh.1 hy).1
  have I:ys.drop i=y::ys.drop (i+1):=by
   grind[List.drop_eq_getElem_cons]
  rw[I]at p;obtain⟨r,Q,R⟩:=D4 p
  have m:∀{e:Exit} {k:St},C3 K [] 0 (b r) e k->Qb K (λh=>∃s,CC f (ys.drop<|i+1) s=Z o/\h=b s) (λ_ _=>False) e k:=by
   rintro e k ⟨S,u,X,r3⟩;cases S;exact⟨u,X,.inl ⟨rfl,r,R,r3⟩⟩
  refine Tr.mono (w l' Y G y s r Q) λe k Y2 a=>?_
  cases e with
  |normal=>exact⟨a.1,λJ=>Tr.mono (show Tr P Γ (Fence.wide.inRound l') (Z Y) K J j k (stay J<|C3 K [] 0<|b r)from a.2 J) λe u Y3 v=>⟨v.1,m v.2⟩⟩
  |ret=>exact a.elim
  |exit id=>exact a.elim
  |goto t=>exact a.elim
  |panic c=>exact a.elim
  |outgrown=>exact a.elim
end
section
section
variable{P:ν}{Γ:A2}{N:Ψ}{ρ:O AK}{a:Act}{w:κ}{S:St}{Q:Exit->Act->κ->Prop}{fr:O DV}{h':DH}{c:O (DV×DH×ζ)}{o:O (U×DV)}{z:O (U×Fz)}{v v2:O Prop}{id:U}{ops:υ Oper}
def dx(Ϝ:U)(N σ s:Θ)(r:St×O Prop×BT):A<|O DV×DH×O Prop×O Prop×ζ:=match frzL s (comp N σ r.1)with
 |some (S,w)=>Z (S.fr,S.h,r.2.1,w,L7 σ Ϝ<|F r.1.h)
 |none=>V
variable{Ϝ:U}
def xX{N σ s:Θ}{r:St×O Prop×BT}(h:dx Ϝ N σ s r=Z (fr,h',v,v2,T))(f:BX v2):r.2.1=v/\BB Ϝ r.1 ⟨fr,h'⟩:=by
 unfold dx at h;split at h
 ·rename_i S1 w1 g;simp only[zB2,zLJ]at h;obtain⟨rfl,rfl,rfl,rfl,l⟩:=h;exact⟨rfl,(BB.comp N σ r.1 l).trans<|BB.frzL s g f⟩
 ·cases h
def wr(t:HX η P)(e σ s:Θ)(m:HS c o z v)(g:HS [] [] [] v2)(fr:O DV)(h':DH)(R:AS P Γ N S ρ a w)(h:(EL P Γ ops ops.toList S ⟨c,o,z,[]⟩).bind (dx Ϝ e σ s)=Z (fr,h',v,v2,T))(Y:Ca ops=T)
 (hk:∀ρ' b w',AS P Γ N ⟨fr,h'⟩ ρ' b w'->A8 S.h ρ w h' ρ' w'->b.defers=a.defers->Bm Ϝ ρ ρ'->Q .normal b w'):(Code.region id ops D).wpIn η 0 P Q a w:=by
 obtain⟨⟨S1,v1,o1⟩,i,h⟩:=D4 h;obtain⟨rfl,l⟩:=xX h g.all;refine zON<|Mv t.f Y _ (λo x=>by simpa using x) R i m.all λρ' b w' R' st r=>?_;obtain⟨ρ2,j,n,K⟩:=l P Γ N ρ' b w' R';exact hk ρ2 b w' j (st.st.trans n) r<|Bm.trans (λk p _ q=>st.pl k p q) K
theorem Qn(g:HX η P)(early:Θ)(t:ST)(j:Bz ops early t)(tg:O<|O (U×U)×St)(e σ l:Θ)(n:HS c o z v)(q:HS [] [] [] v2)(fr:O DV)(h':DH)(R:AS P Γ N S ρ a w)(h:(WK P Γ ops early t S ⟨c,o,z,tg⟩).bind (dx Ϝ e σ l)=Z (fr,h',v,v2,T))
 (hk:∀ρ' b w',AS P Γ N ⟨fr,h'⟩ ρ' b w'->A8 S.h ρ w h' ρ' w'->b.defers=a.defers->Bm Ϝ ρ ρ'->Q .normal b w'):(Code.region id ops T).wpIn η 0 P Q a w:=by
 obtain⟨⟨S1,v1,o1⟩,i,h⟩:=D4 h;obtain⟨rfl,r⟩:=xX h q.all;simp only[Bz,zAK]at j;obtain⟨⟨u,x⟩,y⟩:=j;unfold WK at i;split at i
 ·cases i
 split at i
 ·cases i
 ·rename_i G;cases i;have s:A9 w w.drew:=A9.toDrew w;refine sI<|jv g.m (Nat.add_zero _)<|(si g.f y x t ops.size _ qn (R.ext s) G n.all λρ' b w' R' st I J=>?_).1 u;obtain⟨ρ2,K,W,X⟩:=r P Γ N ρ' b w' R';exact hk ρ2 b w' K ((A8.ext s).trans<|st.trans W) J<|Bm.trans (λk p _ Y=>I k p (by rw[←R.hr.len];grind) Y) X
theorem zPN{h:DH}{ρ ρ':O AK}{w w':κ}{Ϛ:DV}{v:μ}(h0:Ap P Γ N [] ρ w)(R:Ap P Γ N h ρ' w')(st:A8 [] ρ w h ρ' w')(i:AJ (MS N h ρ') w' Ϛ ρ' v)(r:G5 Ϛ=T):CG P Γ N [] ρ w T Ϛ [] v w':=by
 have e:ρ= []:=zOm.1 h0.len;subst e;have c:=PX r _ _ _ _ i;have low:∀b,MO [] ([]:O AK) b->False:=λb ⟨k,_,_,q,_⟩=>by simp at q
 have t:AR (λ_=>False) w w':=st.upd.mono λb _ a=>low b a
 refine⟨⟨[],⟨rfl,λk o hk=>by simp at hk,λk o p b hk=>by simp at hk,λk k' o o' p p' b _ hk=>by simp at hk,R.nlt,R.gi⟩,?_,⟨t.mono λ_ _ h=>h.elim,λb a=>(low b a).elim⟩,λk p hk=>by simp at hk⟩,λ_=>t.toExt λ_ _ h=>h⟩;exact c.out _ ⟨λ_ _ _ _=>rfl,λb a=>.inl<|a.imp id λh=>(low b h).elim,λk p hk=>by simp at hk⟩
end
variable{g:U}{w:κ}{P:ν}
theorem sS{Q:Exit->Act->κ->Prop}{a:Act}{ops:υ Oper}{id t:U}{o0 o1:Oper}{p:υ Operand}{b:υ ψ}(m:ops.toList= [o0,o1])(h0:o0.op=.makeFunc (.func g) #[] p)(GC:o0.dst=Z t)(k:o0.guard=V)(h1:o1.op=.defer { callee:=.value (.tmp t),args:=#[],argTypes:=b })(EJ:o1.dst=V)(Y:o1.guard=V)(ht:t<a.tmps.size)
 (hQ:∀o,o.tmps=a.tmps.setIfInBounds t (.func (.func g) #[]<|p.map a.eval)->o.defers= { target:=.fn (.func g) (p.map a.eval),args:=#[] }::a.defers->Q .normal o w):(Code.region id ops D).wpIn η 0 P Q a w:=by
 refine zON ?_;rw[m];simp only[wpListIn,Oper.wpIn,Region.wanted,k,Y,zN6];refine⟨λ_ _=>trivial,?_⟩
 have e0:(o0.semAt Fence.wide.round a.eval).run P w=.ok (.value<|.func (.func g) #[]<|p.map a.eval) w:=by
  rw[zMi _ _ _<|by rw[h0];intro c e;cases e];unfold ω;rw[h0];simp only[zLX,Array.map_empty];simp[go_sem]
 rw[e0,Oper.uponIn_value];refine⟨λ_ _=>trivial,?_⟩
 simp_all[Act.eval,Act.put,Oper.semAt_none,ω,resolve,Deferred.ofValue,Oper.uponIn_defer]
variable{o:Act}{ρ:O AK}{h:DH}{fr:O DV}{N:Ψ}{Γ:A2}
theorem AS.idle{a:Act}(R:AS P Γ N ⟨fr,h⟩ ρ a w)(t:U){v:μ}(ha:o.tmps=a.tmps.setIfInBounds t v)(e:fr.set t .any=fr):AS P Γ N ⟨fr,h⟩ ρ o w:=by
 refine⟨R.hr,?_⟩;have:=R.fr.set t (Ϛ:=.any) (v:=v) trivial
 grind
variable{ϑ:U}{ρ':O AK}{h':DH}
def Zt{w':κ}(Ϙ:Ap P Γ N h ρ w)(st:A8 h ρ w h' ρ' w')(G:w.heap[ϑ]?=Z (.deferred<|Z [])):w'.heap[ϑ]?=Z (.deferred<|Z []):=by
 refine(st.upd.block ϑ (zAM.1 G).1 ?_).trans G;rintro⟨k,o,p,a,b,e⟩;obtain⟨_,_,c,t,z,R⟩:=Ϙ.cel k o p ϑ a b e;rw[G]at R;cases R;cases t
variable{fn:Func}
def fI{tmps:υ μ}{R:Ending->κ->Prop}{p:υ μ}{u:FrameMode}(t:u≠.run)(G:w.heap[ϑ]?=Z (.deferred<|Z []))(Q:∀args W,(callFunc g args).run P W=.ok (.enter g args) W)
 (h:∀W,Lu ϑ w W->CallsDIn η (0-1) P g p u W λ
  | .returned _,a,w'=>LeavesIn η 0 P fn tmps R [] (settle a) w'
  | .panicked b,a,w'=>LeavesIn η 0 P fn tmps R [] (raised a b) w'
  | .outgrown,_,w'=>R .outgrown w'):LeavesInM η 0 P fn tmps R [{ target:=.collected ϑ,args:=#[] },{ target:=.fn (.func g) p,args:=#[] }] u w:=by
 refine⟨t,.inl ⟨ϑ,_,rfl,run_takeDeferred G,t,.inr ⟨λh=>(by cases h),.func g,p,g,#[]++p,rfl,?_,λ_ _=>trivial,?_⟩⟩⟩
 ·simp[invoke,go_sem,Q]
 ·have l:Lu ϑ w<|w.putObj ϑ<|.deferred V:=((AR.refl (λk=>k=ϑ) w).putObj (λ_=>rfl) _).mono λi _ e=>by cases e;exact⟨zAf _,G⟩
  have:=h _ l;rw[Array.empty_append];exact this.mono λe a w' f=>by cases e <;> exact f
variable{t u:υ μ}{l:O DV}
theorem A3.split{ϗ:Ψ}(ϖ:A3 ϗ w ρ (fr++l)<|t++u)(m:F fr=t.size):A3 ϗ w ρ fr t/\A3 ϗ w ρ l u:=by
 have hs:F fr+F l=t.size+u.size:=by simpa using ϖ.1
 refine⟨⟨m,λj g=>?_⟩,⟨Z2,λj g=>?_⟩⟩
 ·have h:=ϖ.2 j Z7
  simp_all[zMZ,Array.getElem?_append_left]
 ·have h:=ϖ.2 (F fr+j) Z7
  simp_all
variable{fr':O DV}{Ϝ:U}
def BB.both{l':O DV}{a:Act}(q:BB Ϝ ⟨fr++l,h⟩ ⟨fr'++l',h'⟩)(m:F fr'=F fr)(R:AS P Γ N ⟨fr,h⟩ ρ a w)(ϖ:A3 (MS N h ρ) w ρ l u):∃ρ',AS P Γ N ⟨fr',h'⟩ ρ' a w/\A3 (MS N h' ρ') w ρ' l' u/\A8 h ρ w h' ρ' w/\Bm Ϝ ρ ρ':=by
 obtain⟨ρ',R',s,k⟩:=q P Γ N ρ { a with tmps:=a.tmps++u } w ⟨R.hr,A3.append R.fr ϖ⟩;obtain⟨y,b⟩:=A3.split R'.fr<|m.trans R.fr.1;exact⟨ρ',⟨R'.hr,y⟩,b,s,k⟩
theorem AS.forg{a:Act}(b:Θ)(R:AS P Γ N ⟨fr,h⟩ ρ a w)(c:o.tmps=a.tmps)(e:forget b fr=fr'):AS P Γ N ⟨fr',h⟩ ρ o w:=by
 subst e;refine⟨R.hr,?_⟩;rw[c];refine⟨(ZV b fr).trans R.fr.1,λi hi=>?_⟩;have hi:i<F fr:=by grind[ZV]
 show AJ _ _ ((forget b fr).getD i .any) _ _
 rw[qF b fr hi];split
 ·exact R.fr.2 i hi
 ·trivial
def GD{w':κ}(ϖ:A3 (MS N h ρ) w ρ fr t)(e:fr.all (CS Ϝ)=T)(H':Ap P Γ N h' ρ' w')(st:A8 h ρ w h' ρ' w')(f:Bm Ϝ ρ ρ'):A3 (MS N h' ρ') w' ρ' fr t:=
 (ϖ.take e).out ⟨λb c z _=>st.upd.block b c λg=>z<|.inr g,λb c=>c.elim (λh=>.inl<|.inl h) λh=>(st.grow b h).imp .inr id,λk p a=>by
  rw[zO2]at a;split at a
  ·rename_i hk;exact f k p hk a
  ·cases a⟩
def OH{S:St}{ρ0:O AK}{a:Act}{w0 W:κ}(R:AS P Γ N S ρ a W)(h0:Ap P Γ N [] ρ0 w0)(st:A8 [] ρ0 w0 S.h ρ W)(s:Θ){Q:O Prop}(f:HS [] [] [] Q)(k:O DV){Ϛ:DV}(b:AO (JG k) Ϛ)
 (c:(frzL s S).bind (λq=>(PE P q.1 fn.results.toList).map λr=>(r,q.2))=Z (k,Q)) (e:G5 Ϛ=T):∃v,(results fn a.tmps).run P W=.ok v W/\CG P Γ N [] ρ0 w0 T Ϛ [] v W:=by
 obtain⟨⟨S2,w2⟩,i,j⟩:=D4 c;obtain⟨r,l,m⟩:=K9 j;cases m;obtain⟨ρ2,g,n,_⟩:=BB.frzL (Ϝ:=0) s i f.all P Γ N ρ a W R;obtain⟨v,p,u⟩:=XR g l;exact⟨v,p,zPN h0 g.hr (st.trans n) (b _ _ _ _ u) e⟩
end
abbrev zUO:=@List.take_zero
section
variable{P:ν}{Γ:A2}{N:Ψ}{ρ:O AK}{w:κ}{hc ϒ:DH}{gf m:U}{cap:U->DV}{ys:O (O DV)}{tD:ζ->DV}
def uL(J:U->Ψ->Ψ->κ->Prop)(Jx:Ψ->Ψ->κ->Prop)(u:O PanicEntry->Ψ->Ψ->κ->Prop):Ys->Ψ->Ψ->κ->Prop
 | .go i=>J i
 | .stop=>Jx
 | .pan c=>u c
theorem YW.iterW(Ϙ:YW P Γ tD gf (λl=>.yl l::(θ m).map cap) (λ_=>hc) ys)(HR:Ap P Γ N (hc++ϒ) ρ w)(BI:hc.all (Jn<|F hc)=T)(I3:((θ m).map cap).all (CS<|F hc)=T)
 {n:υ μ} (hs:n.size=m) (N5:∀j,j<m->∃u,n[j]?=Z u/\AJ (MS N (hc++ϒ) ρ) w (cap j) ρ u):
 V1 False False P gf n YV ys (λe _ _ _=>∃v,e=.returned v) (MO hc<|ρ.take<|F hc) (λb=>b<w.heap.size/\¬MS N (hc++ϒ) ρ b) w:=by
 intro l Jj Jx Jp W hJ hJx g p hY ZH KU Mp
 let ϛ:E5 P:=⟨l,ys,uL Jj Jx Jp,λs=>by
  cases s with
  |go i=>exact hJ i
  |stop=>exact hJx
  |pan c=>exact g c,λi x args G R W1 h1 h2 h3 h4=>YieldAt.mono (hY i x args G R W1 h1 h2 h3 h4) λe W' ⟨q1,z⟩=>⟨q1,by
   rcases z with⟨rfl,q⟩|⟨rfl,q⟩|⟨c,rfl,q⟩
   ·exact⟨.go<|i+1,⟨rfl,rfl⟩,q⟩
   ·exact⟨.stop,rfl,q⟩
   ·exact⟨.pan c,rfl,q⟩⟩⟩
 obtain⟨r,f⟩:=HR.take (K:=F hc) Z3 Z4;rw[zTn rfl]at r f;have CB:Γ.ng<=w.heap.size:=Γ.lo _ HR.gi
 have I:AR (λb=>N b∨MT (F hc) (hc++ϒ) ρ b) w W:=p.mono λb J Q=>by
  grind[MS]
 have lo:∀b,b<Γ.ng->b<w.heap.size/\¬MS N (hc++ϒ) ρ b:=λb a=>⟨Z2,λQ=>by
  have:=(HR.lt2 Q).2;omega⟩
 have J:∀b,MO hc (ρ.take<|F hc) b->b<w.heap.size:=λb a=>(HR.lt2<|(f b).1<|.inr a).1
 have X:∀b,N b∨MT (F hc) (hc++ϒ) ρ b->(N b∨MT (F hc) (hc++ϒ) ρ b)/\Γ.ng<=b:=λb a=>⟨a,(r.nlt b a).2⟩
 have S:∀b,(b<W.heap.size/\¬MO hc (ρ.take<|F hc) b/\¬(b<w.heap.size/\¬MS N (hc++ϒ) ρ b))->(N b∨MT (F hc) (hc++ϒ) ρ b)∨w.heap.size<=b:=λb ⟨_,z,q3⟩=>by
  grind[MS]
 have HW:Ap P Γ (λb=>b<W.heap.size/\¬MO hc (ρ.take<|F hc) b/\¬(b<w.heap.size/\¬MS N (hc++ϒ) ρ b)) hc (ρ.take<|F hc) W:=r.foreign I X S λb a=>⟨a.1,zQM λhl=>a.2.2<|lo b hl⟩
 have ZT:A3 (MS (λb=>N b∨MT (F hc) (hc++ϒ) ρ b) hc<|ρ.take<|F hc) w (ρ.take<|F hc) ((θ m).map cap) n:=by
  have e:MS (λb=>N b∨MT (F hc) (hc++ϒ) ρ b) hc (ρ.take<|F hc)=MS N (hc++ϒ) ρ:=funext λb=>propext<|f b
  refine A3.take ⟨by simp[hs],λj Y=>?_⟩ I3
  simp_all
 have ZU:=ZT.out<|BQ.foreign (Γ:=Γ) I X S
 refine(Ϙ.2 ϛ 0 ⟨[],by simp[ϛ]⟩ _ _ _ W _ _ HW (A3.append (l:=[.yl ϛ.l]) (t:=#[.func (.yield l) #[] #[]]) ⟨rfl,λj Y=>by
  have:j=0:=zUM.1 Y;subst this;rfl⟩ ZU) ZH ⟨⟨λb a hr=>hr.2<|(f b).1<|.inr a,λb a=>zAQ (a.elim (J b) λh=>h.1) p.size⟩,lo,λ_ h=>h,λ_=>Iff.rfl⟩).mono ?_
 rintro e w' ⟨s,N',ρ',G',R',Eb,y,y',kp,o⟩;refine⟨G',R',y'.sh,?_⟩;cases s with
 |go k=>
  obtain⟨rfl,v,rfl,_⟩:=o;refine .inl ⟨?_,v,rfl⟩;simpa[ϛ,uL]using y
 |stop=>
  obtain⟨v,rfl,_⟩:=o;exact .inr<|.inl ⟨⟨v,rfl⟩,y⟩
 |pan c=>exact .inr<|.inr ⟨c,o,y⟩
def zTG(J:DH->Prop)(Jx:Exit->DH->Prop)(u:O PanicEntry->DH->Prop)(e:Exit)(h:DH):Prop:=(e=.normal/\J h)∨((Lg e).isSome=T/\Jx e h)∨∃c,e=.panic c/\u c h
variable{fr:O DV}
theorem zIn{fi:FuncId}{a:Act}{g:Operand}{ps:υ Tmp}{n r:Code}{J:U->DH->Prop}{Jx:Exit->DH->Prop}{Jp:O PanicEntry->DH->Prop}{KK:U}{Q:Exit->Act->κ->Prop}(U3:∃f,P.funcs[fi]?=Z f)(R:AS P Γ N ⟨fr,hc++ϒ⟩ ρ a w)(hg:Ak fr g=.fn gf m cap)
 (Ϙ:YW P Γ tD gf (λl=>.yl l::(θ m).map cap) (λ_=>hc) ys) (BI:hc.all (Jn<|F hc)=T) (I3:((θ m).map cap).all (CS<|F hc)=T)
 (Ez:∀x∈ys,F x=ps.size) (CM:fr.all (CS KK)=T) (h0:J 0<|hid (F hc) ϒ) (DY:jd P Γ fr ps.toList n r KK J Jx Jp ys)
 (hQ:∀(ϑ:U) (e:Exit) (h':DH) (ρ':O AK) (w':κ),zTG (J<|F ys) Jx Jp e h'->AS P Γ N ⟨fr,h'⟩ ρ' a w'->A8 (hc++ϒ) ρ w h' ρ' w'->Bm KK ρ ρ'->w'.heap[ϑ]?=Z (.deferred<|Z [])->w.heap.size<=ϑ->
  Q e { a with defers:={ target:=.collected ϑ,args:=#[] }::a.defers } w'):J0 η 0 P fi (.rangeFunc g ps n r) Q a w:=by
 have hx:=Be R g;rw[hg]at hx;obtain⟨lb,hv,hs,N5⟩:=hx;have HR:Ap P Γ N (hc++ϒ) ρ w:=R.hr;have CB:Γ.ng<=w.heap.size:=Γ.lo _ HR.gi
 have sp:∀b,MO (hc++ϒ) ρ b↔MO hc (ρ.take<|F hc) b∨MT (F hc) (hc++ϒ) ρ b:=λb=>by
  grind[MO,MT]
 have hN:∀b,N b->b<w.heap.size/\¬MO (hc++ϒ) ρ b:=λb j=>⟨(HR.nlt b j).1,λ⟨k,o,p,u,z,y⟩=>(HR.cel k o p b u z y).2.1 j⟩
 have AY:∀b,MO (hc++ϒ) ρ b->b<w.heap.size/\Γ.ng<=b:=λb j=>HR.lt2<|.inr j
 have IV:EX (MO hc<|ρ.take<|F hc) (λb=>b<w.heap.size/\¬MS N (hc++ϒ) ρ b) w:=⟨λb j hr=>hr.2<|.inr<|(sp b).2<|.inl j,λb j=>j.elim (λh=>(AY b<|(sp b).2<|.inl h).1) λh=>h.1⟩
 have VC:RJ P Γ N (hc++ϒ) ρ w KK J 0 (MO hc<|ρ.take<|F hc) (λb=>b<w.heap.size/\¬MS N (hc++ϒ) ρ b) w:=
  ⟨_,ρ,h0,HR.hide,AR.refl _ _,λb j=>.inl (MO.hid j).mo,λb j=>⟨(AY b<|(sp b).2<|.inl j).2,.inl<|(sp b).2<|.inl j⟩,λb j=>⟨λhn=>j.2<|.inl hn,λhm=>j.2<|.inr (MO.hid hm).mo⟩,Bm.refl _ _⟩
 have hst:∀i,DK<|RJ P Γ N (hc++ϒ) ρ w KK J i:=λi G R' G' R2 ϕ ϛ ⟨h,ρ',q,X⟩ u z y Y q5 q6=>⟨h,ρ',q,RI.stable CB hN _ _ _ _ _ _ X u z y Y q5 q6⟩
 have Uq:∀c,DK<|RX P Γ N (hc++ϒ) ρ w KK Jx c:=λc G R' G' R2 ϕ ϛ ⟨e,s,h,ρ',q,X⟩ u z y Y q5 q6=>⟨e,s,h,ρ',q,RI.stable CB hN _ _ _ _ _ _ X u z y Y q5 q6⟩
 have hsp:∀c,DK<|RPn P Γ N (hc++ϒ) ρ w KK Jp c:=λc G R' G' R2 ϕ ϛ ⟨h,ρ',q,X⟩ u z y Y q5 q6=>⟨h,ρ',q,RI.stable CB hN _ _ _ _ _ _ X u z y Y q5 q6⟩
 have eg:∀args w,(callFunc gf args).run P w=.ok (.enter gf args) w:=Ϙ.1;have stp:∀{G R':Ψ} {W:κ} {h:DH} {ρ':O AK},RI KK P Γ N (hc++ϒ) ρ w G R' W h ρ'->A8 (hc++ϒ) ρ w h ρ' W:=λhR=>⟨hR.upd,hR.grow⟩
 have Kw:∀{G R':Ψ} {W:κ} {h:DH} {ρ':O AK},RI KK P Γ N (hc++ϒ) ρ w G R' W h ρ'->AS P Γ N ⟨fr,h⟩ ρ' a W:=λhR=>⟨hR.hrel,hR.frame (S:=⟨fr,hc++ϒ⟩) R (λ_ h=>h) CM⟩
 refine sJ (nv:=False) (np:=False) (.inr U3) hv eg (Ϙ.iterW HR BI I3 hs N5) IV (λx hx R W args h=>h.1.symm.trans<|Ez x hx) _ _ _ hst Uq hsp (λh=>h.elim) (λh=>h.elim) VC (dI R hN (λ_ h=>h) CM DY) ?_ ?_ ?_
 ·rintro ϑ e G R1 own W W' ⟨v,rfl⟩ ⟨h,ρ1,q,hR⟩ _ _ _ I K;exact hQ ϑ .normal h ρ1 W' (.inl ⟨rfl,q⟩) (Kw hR) (stp hR) hR.kept I K
 ·rintro ϑ c G R1 W ⟨e,s,h,ρ',q,hR⟩ I K;cases e with
  |ret=>cases s;exact zTS<|hQ ϑ .ret h ρ' W (.inr<|.inl ⟨rfl,q⟩) (Kw hR) (stp hR) hR.kept I K
  |exit id=>cases s;exact wpIn_exit<|hQ ϑ (.exit id) h ρ' W (.inr<|.inl ⟨rfl,q⟩) (Kw hR) (stp hR) hR.kept I K
  |normal=>cases s
  |goto t=>cases s
  |panic c=>cases s
  |outgrown=>cases s
 ·rintro ϑ c G R1 W ⟨h,ρ',q,hR⟩ I K;exact hQ ϑ (.panic c) h ρ' W (.inr<|.inr ⟨c,rfl,q⟩) (Kw hR) (stp hR) hR.kept I K
theorem zHj{α σ:Type}{G:O Tmp}{W j:Code}{K:U}(q:O Exit)(X:(q.all λe=>(Lg e).isSome)=T)(Q:O PanicEntry)(enc:α->O DV)(ys:O α)(f:α->σ->A (σ×U))(a:σ->DH){rE:σ×U}(I:α->O DV)
 (DY:∀(l ϙ:U) (N:BS P Γ K) (x:α) (s:σ) (r:σ×U),f x s=Z r->Hq P Γ (Fence.wide.inRound l) (Z ϙ) K N (C3 K (q++[.panic Q]) r.2<|a r.1) W j ⟨I x,a s⟩) (hni:∀s,(a s).all Xu=T) (CM:(λx=>JL fr G<|enc x)=I):
 jd P Γ fr G W j K (λi h=>∃s,C7 f (ys.drop i) s=Z rE/\h=a s) (λe h=>(Exit.normal::q)[rE.2]?=Z e/\h=a rE.1) (λc h=>c=Q/\rE.2=F q+1/\h=a rE.1) (ys.map enc):=by
 subst CM;rintro l' Y N' i x h b ⟨s,R,rfl⟩;rw[zMN]at b;cases hy:ys[i]? with
 |none=>rw[hy]at b;cases b
 |some y=>
  rw[hy]at b;cases b;have AY:=(zDh.1 hy).1
  have hd:ys.drop i=y::ys.drop (i+1):=by
   grind[List.drop_eq_getElem_cons]
  rw[hd]at R;obtain⟨r,h1,o⟩:=D4 R
  have w:∀{e:Exit} {n:St},C3 K (q++[.panic Q]) r.2 (a r.1) e n->zCt K (λh=>∃s,C7 f (ys.drop<|i+1) s=Z rE/\h=a s) (λe h=>(Exit.normal::q)[rE.2]?=Z e/\h=a rE.1) (λc h=>c=Q/\rE.2=F q+1/\h=a rE.1) e n:=by
   rintro e n ⟨p,u,z,v⟩;cases hc:r.2 with
   |zero=>
    rw[hc]at p;cases p
    have o:C7 f (ys.drop<|i+1) r.1=Z rE:=by
     grind
    exact .inl ⟨u,z,.inl ⟨rfl,r.1,o,v⟩⟩
   |succ k=>
    have o:r=rE:=by
     grind
    subst o;rw[hc]at p;rcases zCv k (F q)with hk|hk
    ·have m:q[k]?=Z e:=by
      grind
     have b:=zAP.1 X e<|zLW m;exact .inl ⟨u,z,.inr ⟨b,by rw[hc];exact m,v⟩⟩
    ·have m:(q++[Exit.panic Q])[k]?=Z e:=p;rw[zML hk]at m
     have gJ:k-F q=0:=by
      grind
     rw[gJ]at m;cases m;exact .inr ⟨Q,u,rfl,z,by rw[v];exact K7<|hni _,rfl,by rw[hc];omega,v⟩
  refine Tr.mono (DY l' Y N' y s r h1) λe n Y2 g=>?_
  cases e with
  |normal=>exact⟨g.1,λJ=>Tr.mono (show Tr P Γ (Fence.wide.inRound l') (Z Y) K J j n (stay J<|C3 K (q++[.panic Q]) r.2<|a r.1)from g.2 J) λe u Y3 S=>⟨S.1,w S.2⟩⟩
  |ret=>exact g.elim
  |exit id=>exact g.elim
  |goto t=>exact g.elim
  |panic c=>exact g.elim
  |outgrown=>exact g.elim
end
def H6:μ:=.iface 30<|.int .i64 220
section
variable{ϖ:Fence}{ϙ:A U}{Ϝ:U}{Y N:BS B GG Ϝ}{Q:QY B GG Ϝ}
variable{S:St}
def UP{e:O PanicEntry}(h:Q (.panic e) S Y):∀(k:O KI),BN B GG ϖ ϙ Ϝ Q k (.panic e) S Y
 |[]=>h
 | .blk _::k=>UP h k
 | .code _::k=>UP h k
 | .lend _::k=>UP h k
 | .scp::k=>UP h k
 | .loopN _ _::k=>UP h k
variable{x:μ}{k:O KI}{o0 o1:Oper}{ops:υ Oper}{ty:ψ}{id t:U}
theorem zJP[g:HC ϖ]        (n:ops.toList= [o0,o1])(h0:o0.op=.makeInterface ty (.const x))(i:o0.dst=Z t)(o:o0.guard=V)(l:o1.op=.panic (.tmp t))(q:o1.guard=V)(ht:Nat.blt t (F S.fr)=T)(hc:Tryz.prog.concrete ty=T)
 (r:Q (.panic<|pan<|.iface ty x) ⟨Lp S.fr,S.h⟩ Y):A6 B GG ϖ ϙ Ϝ Y Q (.code (.region id ops D)::k) S:=by
 show Tr B GG ϖ ϙ Ϝ Y (.region id ops D) S _
 intro N ρ a w R y m b
 have hts:t<a.tmps.size:=by
  have:=R.fr.1
  simp_all
 refine zON ?_;rw[n];simp only[wpListIn,Oper.wpIn,Region.wanted,o,q,zN6];refine⟨λf _=>g.x.f.fn f,?_⟩
 have e0:(o0.semAt ϖ.round a.eval).run B w=.ok (.value<|.iface ty x) w:=by
  rw[zMi _ _ _<|by rw[h0];intro c e;cases e];unfold ω;rw[h0];have:=run_makeInterface (P:=B) w ty x hc;simp[go_sem,this]
 rw[e0,Oper.uponIn_value];refine⟨λf _=>g.x.f.fn f,?_⟩;obtain⟨p,j⟩:∃p,p=a.put o0.dst (.iface ty x):=⟨_,rfl⟩;rw[←j]
 have s:p.eval (.tmp t)=.iface ty x:=by
  simp_all[Act.eval,Act.put]
 have u:(o1.semAt ϖ.round p.eval).run B w=.halt (.panic<|.iface ty x) w:=by
  rw[zMi _ _ _<|by rw[l];intro c e;cases e];unfold ω;rw[l];have v:p.eval (.tmp t)=.iface ty x:=s;simp only[v];simp[go_sem]
 rw[u,Oper.uponIn_panic];have z:p.defers=a.defers:=by rw[j,i];simp[Act.put]
 have G:F S.fr=p.tmps.size:=by rw[j,i];simpa[Act.put]using R.fr.1
 exact⟨⟨Lp S.fr,S.h⟩,ρ,N,Y,UP r k,⟨R.hr,zCX G⟩,y,by rw[z];exact m,b⟩
def pX[hX:HC ϖ]{q:O Exit}{i:U}{c:DH}      {fr:O DV}  (a:(Exit.normal::q)[i]?=Z (.panic<|pan<|.iface ty x))(m:ops.toList= [o0,o1]:=by rfl)(h0:o0.op=.makeInterface ty (.const x):=by rfl)(R:o0.dst=Z t:=by rfl)(b:o0.guard=V:=by rfl)(e:o1.op=.panic (.tmp t):=by rfl)(Y:o1.guard=V:=by rfl)(v:Nat.blt t (F fr)=T:=by kernel_rfl)(hc:Tryz.prog.concrete ty=T:=by kernel_rfl):BY B GG ϖ ϙ Ϝ N (C3 Ϝ q i c) (.code (.region id ops D)::k) ⟨fr,c⟩:=
 zJP m h0 R b e Y v hc ⟨rfl,a,_,BB.refl _ _,rfl⟩
end
def zCw(f:FuncId)(ds:O DV)(i:μ):Prop:=(∀args W,(callFunc f args).run B W=.ok (.enter f args) W)/\∀(N:Ψ) (ρ:O AK) (w:κ) (args:υ μ),Ap B GG N [] ρ w->A3 (MS N [] ρ) w ρ ds args->CallsIn η 0 B f args w λe w'=>e=.panicked (pan i)/\A9 w w'
section
variable{N:Ψ}{ρ:O AK}{a:Act}{w:κ}{S:St}{Q:Exit->Act->κ->Prop}{fr:O DV}{h':DH}{c:O (DV×DH×ζ)}{o:O (U×DV)}{z:O (U×Fz)}{v:O Prop}{id:U}{ops:υ Oper}
def sC{g:FuncId}{ds:O DV}{n:μ}{dst:A Tmp}(Ϙ:zCw g ds n)(j l:Θ)(p:U)(I:HS c o z v)(fr:O DV)(h':DH)(R:AS B GG N S ρ a w)(i:(Ie B GG ops j p S ⟨c,o,z,[]⟩).map (Ng<|FF 0 fr)=Z (g,ds,dst,fr,h',v))(J:θ ops.size=j++p::l)(Y:Ca ops=T)(P:ds.all (CS 0)=T)
 (hk:∀ρ' m w',AS B GG N ⟨fr,h'⟩ ρ' m w'->A8 S.h ρ w h' ρ' w'->m.defers=a.defers->Bm (F S.h) ρ ρ'->Q (.panic<|pan n) m w'):(Code.region id ops D).wpIn η 0 B Q a w:=by
 obtain⟨f1,An,i,e0⟩:=Xk i;refine zON ?_;rw[←wv,J];unfold Ie at i;split at i
 ·cases i
 rename_i S2 Eg Gc W;split at i
 ·cases i
 rename_i o q;split at i
 ·rename_i hw;split at i
  ·rename_i c' Jf;split at i
   ·rename_i f LU;split at i
    ·rename_i g' m' cap hf;simp only[zB2,zLJ]at i;obtain⟨rfl,e2,rfl,rfl,rfl,rfl⟩:=i;rw[PN];have e3:CJ ops (p::l)=o::CJ ops l:=by simp only[CJ,q]
     rw[e3];refine QA (HC.x (ϖ:=η)).f Y _ (NZ j) R W I.all λρ1 r w1 X u Jh=>?_
     obtain⟨args,Je,s⟩:=aJ X o Jf LU hf Ϙ.1;rw[e2]at s;unfold wpListIn;rw[zAB<|H9 X hw];refine⟨λf _=>trivial,?_⟩;rw[zMi _ _ _<|IR Y q,Je];obtain⟨t,y⟩:=X.hr.take (K:=0) (zMK _) (by rw[zUO];rfl);rw[zUO,zUO]at t y
     have fa:A3 (MS (λb=>N b∨MT 0 h' ρ1 b) [] []) w1 [] ds args:=by
      have e:MS (λb=>N b∨MT 0 h' ρ1 b) [] []=MS N h' ρ1:=funext λb=>propext<|y b
      rw[e];exact s.take P
     refine⟨λhx=>(by cases hx),(Ϙ.2 _ _ _ _ t fa).mono ?_⟩;rintro e w' ⟨rfl,G⟩;have R2:AS B GG N ⟨fr,h'⟩ ρ1 r w':=(X.ext G).forg (fr':=fr) _ rfl e0.symm;exact hk ρ1 r w' R2 (u.st.trans<|A8.ext G) Jh λk p _ hp=>u.pl k p hp
    ·cases i
   ·cases i
  ·cases i
 ·cases i
variable{g:U}{P:ν}
theorem sR{o0:Oper}{x:Operand}{b:υ ψ}(m:ops.toList= [o0])(h0:o0.op=.defer { callee:=.value (.func g),args:=#[x],argTypes:=b })(R:o0.dst=V)(k:o0.guard=V)
 (c:∀o,o.tmps=a.tmps->o.defers= { target:=.fn (.func g) #[],args:=#[a.eval x] }::a.defers->Q .normal o w):(Code.region id ops D).wpIn η 0 P Q a w:=by
 refine zON ?_;rw[m];simp only[wpListIn,Oper.wpIn,Region.wanted,k,zN6];refine⟨λ_ _=>trivial,?_⟩
 have y:(o0.semAt Fence.wide.round a.eval).run P w=.ok (.defer { target:=.fn (.func g) #[],args:=#[a.eval x] }) w:=by
  simp_all[Oper.semAt_none,ω,resolve,Deferred.ofValue,Act.eval]
 rw[y,Oper.uponIn_defer,R];exact c _ rfl rfl
def Pf{fn:Func}{tmps:υ μ}{R:Ending->κ->Prop}{p args a:υ μ}{ds:O Deferred}{u:FrameMode}{w:κ}(t:u≠.run)(Q:∀args W,(callFunc g args).run P W=.ok (.enter g args) W)(hc:args++p=a)
 (h:CallsDIn η (0-1) P g a u w λ
  | .returned _,b,w'=>LeavesInM η 0 P fn tmps R ds (settle b) w'
  | .panicked c,b,w'=>LeavesInM η 0 P fn tmps R ds (raised b c) w'
  | .outgrown,_,w'=>R .outgrown w'):LeavesInM η 0 P fn tmps R ({ target:=.fn (.func g) p,args:=args }::ds) u w:=by
 subst hc;refine⟨t,.inr ⟨λh=>(by cases h),.func g,p,g,args++p,rfl,?_,λ_ _=>trivial,h.mono λe b w' f=>by cases e <;> exact f⟩⟩;simp[invoke,go_sem,Q]
end
section
set_option maxRecDepth 100000
set_option maxHeartbeats 40000000
def zKC(n:U)(q:AA)(pos:Ξ):A Unit:=Z ()
def xm(n:U)(q:AA)(pos:Ξ):A Unit:=zKC n q pos
def zKB{n:U}(q:AA)(pos:Ξ){r:Unit}(h:xm n q pos=Z r):EQ 52 [.agg 5<|L1<|AG q,.ints pos] [] (.fn 84 2<|L1 [.ref 0 0,.ref 1 0]) [oC<|AG q,oC [.ints pos]] T:=by
 refine ot Tryz.func52 λϙ N=>?_
 revert r;apply gO;exact lE AC [4] [0,1]
def tZ:ST:=.rd 0<|.rd 1<|.ef 2 (.ef 3 (.ef 4 (.fin [] [8,9,10])<|.no)<|.no)<|.no
def lQ:Bz (Am Tryz.f39 11) [2] tZ:=Z1
def ID:BZ:=λi=>match i with
 |11=>.tre [2] tZ
 |_=>.no
def zNW(most fuel:E)(w:BU):DH:=[V,V,oC [.i most],oC [.i fuel],oC [.nils],oC [.nils],oC [.bool D],oC [.i w.1.1,.i w.1.2]]
def zNV(most fuel:E):DH:=[V,V,oC [.i most],oC [.i fuel],oC [.nils],oC [.nils],oC [.bool D]]
def tB(most fuel:E)(w:BU):St:=⟨AF 42 [(8,.ref 4 0),(9,.ref 5 0),(10,.ref 6 0)],([V,V,oC [.i most],oC [.i<|fuel-1],oC [.msl 11 1 0<|F ([w.2]:O Ξ)],oC [.msl 9 2 0<|F ([(w.1.1,w.1.2)]:O<|Δ)],oC [.bool T],oC [.i w.1.1,.i w.1.2],Z<|.arr 2 (F ([(w.1.1,w.1.2)]:O<|Δ))<|AM Az ([(w.1.1,w.1.2)]:O<|Δ),Z<|.arr 2 (F ([(w.1.1,w.1.2)]:O<|Δ))<|AM Az ([(w.1.1,w.1.2)]:O<|Δ),Z<|.arr 1 (F ([w.2]:O Ξ))<|AM AW ([w.2]:O Ξ),Z<|.arr 1 (F ([w.2]:O Ξ))<|AM AW ([w.2]:O Ξ)]:DH)⟩
def zNU(most X:E)(R:U)(K:O<|Δ)(w:BU):DH:=[V,V,oC [.i most],oC [.i X],oC [.nils],oC [.msl 7 2 0 R],oC [.bool D],Z<|.arr 2 (F K)<|AM Az K,oC [.i w.1.1,.i w.1.2]]
def zNT(most X:E)(R:U)(K:O<|Δ):DH:=[V,V,oC [.i most],oC [.i X],oC [.nils],oC [.msl 7 2 0 R],oC [.bool D],Z<|.arr 2 (F K)<|AM Az K]
def tA(most X:E)(w:BU)(K:O<|Δ):St:=⟨AF 42 [(8,.ref 4 0),(9,.ref 5 0),(10,.ref 6 0)],([V,V,oC [.i most],oC [.i<|X-1],oC [.msl 12 1 0<|F ([w.2]:O Ξ)],oC [.msl 10 2 0<|F K+F ([(w.1.1,w.1.2)]:O<|Δ)],oC [.bool T],V,oC [.i w.1.1,.i w.1.2],Z<|.arr 2 (F ([(w.1.1,w.1.2)]:O<|Δ))<|AM Az ([(w.1.1,w.1.2)]:O<|Δ),Z<|.arr 2 (F<|K++([(w.1.1,w.1.2)]:O<|Δ))<|AM Az<|K++([(w.1.1,w.1.2)]:O<|Δ),Z<|.arr 1 (F ([w.2]:O Ξ))<|AM AW ([w.2]:O Ξ),Z<|.arr 1 (F ([w.2]:O Ξ))<|AM AW ([w.2]:O Ξ)]:DH)⟩
def zNS(most Y:E)(q S:U)(r:ζ)(N:O Ξ)(P:O<|Δ)(w:BU):DH:=[V,V,oC [.i most],oC [.i Y],oC [.msl 7 1 0 q],oC [.msl 8 2 0 S],oC [.bool r],Z<|.arr 1 (F N)<|AM AW N,Z<|.arr 2 (F P)<|AM Az P,oC [.i w.1.1,.i w.1.2]]
def zNR(most Y:E)(q S:U)(r:ζ)(N:O Ξ)(P:O<|Δ):DH:=[V,V,oC [.i most],oC [.i Y],oC [.msl 7 1 0 q],oC [.msl 8 2 0 S],oC [.bool r],Z<|.arr 1 (F N)<|AM AW N,Z<|.arr 2 (F P)<|AM Az P]
def s9(most Y:E)(N:O Ξ)(w:BU)(P:O<|Δ):St:=⟨AF 42 [(8,.ref 4 0),(9,.ref 5 0),(10,.ref 6 0)],([V,V,oC [.i most],oC [.i<|Y-1],oC [.msl 13 1 0<|F N+F ([w.2]:O Ξ)],oC [.msl 11 2 0<|F P+F ([(w.1.1,w.1.2)]:O<|Δ)],oC [.bool T],V,V,oC [.i w.1.1,.i w.1.2],Z<|.arr 2 (F ([(w.1.1,w.1.2)]:O<|Δ))<|AM Az ([(w.1.1,w.1.2)]:O<|Δ),Z<|.arr 2 (F<|P++([(w.1.1,w.1.2)]:O<|Δ))<|AM Az<|P++([(w.1.1,w.1.2)]:O<|Δ),Z<|.arr 1 (F ([w.2]:O Ξ))<|AM AW ([w.2]:O Ξ),Z<|.arr 1 (F<|N++([w.2]:O Ξ))<|AM AW<|N++([w.2]:O Ξ)]:DH)⟩
inductive IE where
 |s0
 |s1 (Fj:E) (Io:U) (Dt:O (Δ))
 |s2 (Fi:E) (IK In:U) (IJ:ζ) (Ds:O Ξ) (Dr:O (Δ))
def Wz(most fuel:E):IE->DH
 | .s0=>[V,V,oC [.i most],oC [.i fuel],oC [.nils],oC [.nils],oC [.bool D]]
 | .s1 X R K=>[V,V,oC [.i most],oC [.i X],oC [.nils],oC [.msl 7 2 0 R],oC [.bool D],Z<|.arr 2 (F K)<|AM Az K]
 | .s2 Y q S r N P=>[V,V,oC [.i most],oC [.i Y],oC [.msl 7 1 0 q],oC [.msl 8 2 0 S],oC [.bool r],Z<|.arr 1 (F N)<|AM AW N,Z<|.arr 2 (F P)<|AM Az P]
def lj(n:U)(most fuel:E)(w:BU):A<|IE×U:=L (fuel==0) (Z (.s0,2))<|C (AI<|fuel-1) (L (w.1.1 != 4) (Z (.s1 (fuel-1) (F ([(w.1.1,w.1.2)]:O<|Δ)) ([(w.1.1,w.1.2)]:O<|Δ),0))<|L (((F ([w.2]:O Ξ):U):E)==most) (Z (.s2 (fuel-1) (F ([w.2]:O Ξ)) (F ([(w.1.1,w.1.2)]:O<|Δ)) T ([w.2]:O Ξ) ([(w.1.1,w.1.2)]:O<|Δ),1))<|Z (.s2 (fuel-1) (F ([w.2]:O Ξ)) (F ([(w.1.1,w.1.2)]:O<|Δ)) D ([w.2]:O Ξ) ([(w.1.1,w.1.2)]:O<|Δ),0)) V
def li(n:U)(most fuel:E)(w:BU)(X:E)(R:U)(K:O<|Δ):A<|IE×U:=L (X==0) (Z (.s1 X R K,2))<|C (AI (X-1)/\R=F K/\F K+F ([(w.1.1,w.1.2)]:O<|Δ)<=Av) (L (w.1.1 != 4) (Z (.s1 (X-1) (F K+F ([(w.1.1,w.1.2)]:O<|Δ))<|K++([(w.1.1,w.1.2)]:O<|Δ),0))<|L (((F ([w.2]:O Ξ):U):E)==most) (Z (.s2 (X-1) (F ([w.2]:O Ξ)) (F K+F ([(w.1.1,w.1.2)]:O<|Δ)) T ([w.2]:O Ξ)<|K++([(w.1.1,w.1.2)]:O<|Δ),1))<|Z (.s2 (X-1) (F ([w.2]:O Ξ)) (F K+F ([(w.1.1,w.1.2)]:O<|Δ)) D ([w.2]:O Ξ)<|K++([(w.1.1,w.1.2)]:O<|Δ),0)) V
def lh(n:U)(most fuel:E)(w:BU)(Y:E)(q S:U)(r:ζ)(N:O Ξ)(P:O<|Δ):A<|IE×U:=L (Y==0) (Z (.s2 Y q S r N P,2))<|C (AI (Y-1)/\S=F P/\F P+F ([(w.1.1,w.1.2)]:O<|Δ)<=Av) (L (w.1.1 != 4) (Z (.s2 (Y-1) q (F P+F ([(w.1.1,w.1.2)]:O<|Δ)) r N<|P++([(w.1.1,w.1.2)]:O<|Δ),0))<|C (q=F N/\F N+F ([w.2]:O Ξ)<=Av) (L (((F N+F ([w.2]:O Ξ):U):E)==most) (Z (.s2 (Y-1) (F N+F ([w.2]:O Ξ)) (F P+F ([(w.1.1,w.1.2)]:O<|Δ)) T (N++([w.2]:O Ξ))<|P++([(w.1.1,w.1.2)]:O<|Δ),1))<|Z (.s2 (Y-1) (F N+F ([w.2]:O Ξ)) (F P+F ([(w.1.1,w.1.2)]:O<|Δ)) r (N++([w.2]:O Ξ))<|P++([(w.1.1,w.1.2)]:O<|Δ),0)) V) V
def zHU(n:U)(most fuel:E)(w:BU):IE->A (IE×U)
 | .s0=>lj n most fuel w
 | .s1 X R K=>li n most fuel w X R K
 | .s2 Y q S r N P=>lh n most fuel w Y q S r N P
def J8(n:U)(most fuel:E)(w:BU)(s:IE):A<|IE×U:=zHU n most fuel w s
def zHT(n:U)(most fuel:E)(l ϙ:U)(N:Yd 7)(w:BU)(s:IE)(r:IE×U)(h:J8 n most fuel w s=Z r):TA l ϙ N (C3 7 [.ret,.panic<|pan H6] r.2<|Wz most fuel r.1) Tryz.f39 15 ⟨AF 42 [(6,.ref 2 0),(7,.ref 3 0),(8,.ref 4 0),(9,.ref 5 0),(10,.ref 6 0),(15,.fn 84 2<|L1 [.ref 0 0,.ref 1 0]),(16,.agg 2<|L1 [.i w.1.1,.i w.1.2]),(17,.ints w.2)],Wz most fuel s⟩:=by
 cases s with
 |s0=>
  refine ag ID [0,1,2,3,4,5,6,7] H0.t (AF 42 [(6,.ref 2 0),(7,.ref 3 0),(8,.ref 4 0),(9,.ref 5 0),(10,.ref 6 0),(11,.ref 7 0),(12,.ints w.2)]) (zNW most fuel w) λN=>?_
  revert r;apply gO
  exact bi 19 (λp r h=>by
   cases h;refine gs (AQ 5 ID) [0,1,2,3,4,5,6] p (CY (RD Tryz.f39 15) 5 []) (AF 42 []) (zNV most fuel) ?_;exact pX (o0:=_) (o1:=_) rfl)<|gw 22<|jt<|ja 25 8 2 (ER (c:=Az) (Ϝ:=([(w.1.1,w.1.2)]:O<|Δ)) (vals:=[.agg 2<|L1 [.i w.1.1,.i w.1.2]]) rfl ⟨⟨_,rfl,⟨At,At,trivial⟩⟩,trivial⟩)<|jg (γ (γ (γ (φ 0)<|φ 1)<|IP Az ([(w.1.1,w.1.2)]:O<|Δ) (F ([(w.1.1,w.1.2)]:O<|Δ)) 2 λ_=>⟨rfl,rfl⟩)<|γ (by decide:0<1) (by decide:1<=Av))<|jt<|bi 29 (lF λp=>rr ID [0,1,2,3,4,5,6,9] rfl p)<|ja 32 10 1 (ER (c:=AW) (Ϝ:=([w.2]:O Ξ)) (vals:=[.ints w.2]) rfl ⟨⟨_,rfl,⟨At,trivial⟩⟩,trivial⟩)<|jg (γ (γ (γ (φ 0)<|φ 1)<|IP AW ([w.2]:O Ξ) (F ([w.2]:O Ξ)) 1 λ_=>⟨rfl,rfl⟩)<|γ (by decide:0<1) (by decide:1<=Av))<|jt<|bi 37 (jg lQ<|jt<|jt<|jt<|jg (φ<|tB most fuel w)<|lF λp=>rr (tg:=[([(2,4)],tB most fuel w)]) ID [0,1,2,3,4,5,6,11,9] rfl p)<|lF λp=>rr ID [0,1,2,3,4,5,6,11,9] rfl p
 |s1 X R K=>
  refine ag ID [0,1,2,3,4,5,6,7,8] H0.t (AF 42 [(6,.ref 2 0),(7,.ref 3 0),(8,.ref 4 0),(9,.ref 5 0),(10,.ref 6 0),(11,.ref 8 0),(12,.ints w.2)]) (zNU most X R K w) λN=>?_
  revert r;apply gO
  exact bi 19 (λp r h=>by
   cases h;refine gs (AQ 5 ID) [0,1,2,3,4,5,6,7] p (CY (RD Tryz.f39 15) 5 []) (AF 42 []) (zNT most X R K) ?_;exact pX (o0:=_) (o1:=_) rfl)<|gc<|gw 22<|jt<|ja 25 9 2 (ER (c:=Az) (Ϝ:=([(w.1.1,w.1.2)]:O<|Δ)) (vals:=[.agg 2<|L1 [.i w.1.1,.i w.1.2]]) rfl ⟨⟨_,rfl,⟨At,At,trivial⟩⟩,trivial⟩)<|gc<|gn λk=>gn λb=>jg (γ (γ (γ (φ 0)<|φ 1)<|IP Az ([(w.1.1,w.1.2)]:O<|Δ) (F ([(w.1.1,w.1.2)]:O<|Δ)) 2 λ_=>⟨rfl,rfl⟩)<|γ (γ (φ 0) k) b)<|ja 26 10 2 (Q8 (enc:=Sb Az) (Ϝ:=K) (L':=([(w.1.1,w.1.2)]:O<|Δ)) rfl rfl λ_ _ _ _=>At)<|jt<|bi 29 (lF λp=>rr ID [0,1,2,3,4,5,6,10] rfl p)<|ja 32 11 1 (ER (c:=AW) (Ϝ:=([w.2]:O Ξ)) (vals:=[.ints w.2]) rfl ⟨⟨_,rfl,⟨At,trivial⟩⟩,trivial⟩)<|jg (γ (γ (γ (φ 0)<|φ 1)<|IP AW ([w.2]:O Ξ) (F ([w.2]:O Ξ)) 1 λ_=>⟨rfl,rfl⟩)<|γ (by decide:0<1) (by decide:1<=Av))<|jt<|bi 37 (jg lQ<|jt<|jt<|jt<|jg (φ<|tA most X w K)<|lF λp=>rr (tg:=[([(2,4)],tA most X w K)]) ID [0,1,2,3,4,5,6,12,10] rfl p)<|lF λp=>rr ID [0,1,2,3,4,5,6,12,10] rfl p
 |s2 Y q S f a P=>
  refine ag ID [0,1,2,3,4,5,6,7,8,9] H0.t (AF 42 [(6,.ref 2 0),(7,.ref 3 0),(8,.ref 4 0),(9,.ref 5 0),(10,.ref 6 0),(11,.ref 9 0),(12,.ints w.2)]) (zNS most Y q S f a P w) λN=>?_
  revert r;apply gO
  exact bi 19 (λp r h=>by
   cases h;refine gs (AQ 5 ID) [0,1,2,3,4,5,6,7,8] p (CY (RD Tryz.f39 15) 5 []) (AF 42 []) (zNR most Y q S f a P) ?_;exact pX (o0:=_) (o1:=_) rfl)<|gc<|gw 22<|jt<|ja 25 10 2 (ER (c:=Az) (Ϝ:=([(w.1.1,w.1.2)]:O<|Δ)) (vals:=[.agg 2<|L1 [.i w.1.1,.i w.1.2]]) rfl ⟨⟨_,rfl,⟨At,At,trivial⟩⟩,trivial⟩)<|gc<|gn λk=>gn λb=>jg (γ (γ (γ (φ 0)<|φ 1)<|IP Az ([(w.1.1,w.1.2)]:O<|Δ) (F ([(w.1.1,w.1.2)]:O<|Δ)) 2 λ_=>⟨rfl,rfl⟩)<|γ (γ (φ 0) k) b)<|ja 26 11 2 (Q8 (enc:=Sb Az) (Ϝ:=P) (L':=([(w.1.1,w.1.2)]:O<|Δ)) rfl rfl λ_ _ _ _=>At)<|jt<|bi 29 (lF λp=>rr ID [0,1,2,3,4,5,6,7,11] rfl p)<|ja 32 12 1 (ER (c:=AW) (Ϝ:=([w.2]:O Ξ)) (vals:=[.ints w.2]) rfl ⟨⟨_,rfl,⟨At,trivial⟩⟩,trivial⟩)<|gc<|gn λm=>gn λe=>jg (γ (γ (γ (φ 0)<|φ 1)<|IP AW ([w.2]:O Ξ) (F ([w.2]:O Ξ)) 1 λ_=>⟨rfl,rfl⟩)<|γ (γ (φ 0) m) e)<|ja 33 13 1 (Q8 (enc:=Sb AW) (Ϝ:=a) (L':=([w.2]:O Ξ)) rfl rfl λ_ _ _ _=>At)<|jt<|bi 37 (jg lQ<|jt<|jt<|jt<|jg (φ<|s9 most Y a w P)<|lF λp=>rr (tg:=[([(2,4)],s9 most Y a w P)]) ID [0,1,2,3,4,5,6,13,11] rfl p)<|lF λp=>rr ID [0,1,2,3,4,5,6,13,11] rfl p
end
abbrev zTb:=@List.drop_length
section
set_option maxRecDepth 100000
set_option maxHeartbeats 40000000
def lf:IE->X0
 | .s0=>Z ([],[],D)
 | .s1 _ n t=>C (n=F t) (Z ([],t,D)) V
 | .s2 _ k n b l t=>C (k=F l/\n=F t) (Z (l,t,b)) V
def O3(r:IE×U):A<|X0:=C (r.2=2) (Z V)<|(lf r.1).map λx=>Z (x.1,x.2.1,r.2==1&&x.2.2)
def NU(n:U)(q:AA)(pos:Ξ)(most fuel:E):A<|X0:=(PZ n q pos).bind λl=>(C7 (J8 n most fuel) l .s0).bind O3
def vX(N:Ψ)(ρ:O AK)(w:κ):X0->Ending->κ->Prop
 |some r,e,w'=>∃v,e=.returned v/\CG B GG N [] ρ w T (.tup 3<|L1 [.sl 1 (F r.1)<|AM AW r.1,.sl 2 (F r.2.1)<|AM Az r.2.1,.bool r.2.2]) [] v w'
 |none,e,w'=>e=.panicked (pan H6)/\A9 w w'
variable{w:κ}{ρ:O AK}{N:Ψ}
def zEK{h:DH}{ρ':O AK}{w':κ}(h0:Ap B GG N [] ρ w)(st:A8 [] ρ w h ρ' w'):A9 w w':=by
 have low:∀b,MO [] ρ b->False:=λb ⟨k,_,_,q,_⟩=>by simp at q
 have t:AR (λ_=>False) w w':=st.upd.mono λb _ a=>low b a
 exact t.toExt λ_ _ h=>h
variable{ϑ:U}
def d9(G:w.heap[ϑ]?=Z (.deferred<|Z [])):E4 ϑ [{ target:=.collected ϑ,args:=#[] }] w:=⟨ϑ,rfl,zAf _,G,λ_ h=>(by cases h),trivial⟩
variable{a0:Act}{Q w0:κ}{ρs ρ0:O AK}{most:E}
def vb(f:E)(b:ζ)(J:Ap B GG N [] ρs Q)(c:A8 [] ρs Q [V,V,oC [.i most],oC [.i f],oC [.nils],oC [.nils],oC [.bool b]] ρ0 w0)(x:AS B GG N ⟨AF 42 [(8,.ref 4 0),(9,.ref 5 0),(10,.ref 6 0)],[V,V,oC [.i most],oC [.i f],oC [.nils],oC [.nils],oC [.bool b]]⟩ ρ0 a0 w0)(G:w0.heap[ϑ]?=Z (.deferred<|Z []))(g:GG.ng<=ϑ)(j:Q.heap.size<=ϑ):
 LeavesInM η 0 B Tryz.f39 a0.tmps (λe w'=>∃v,e=.returned v/\CG B GG N [] ρs Q T (.tup 3<|L1 [.sl 1 (F ([]:O Ξ))<|AM AW ([]:O Ξ),.sl 2 (F ([]:O<|Δ))<|AM Az ([]:O<|Δ),.bool b]) [] v w') [{ target:=.collected ϑ,args:=#[] }] .returning w0:=by
 refine fF (ϙ:=ϑ) _ _ (d9 G) λW a=>?_
 have k:=x.shut (K7 Z5) g a;obtain⟨v,m,n⟩:=OH (fn:=Tryz.f39) k J (c.shut<|a.mono λ_ _ h=>⟨zAO j h.1,h.2⟩) [] H0 [.nils,.nils,.bool b] (AO.tupL (l:=[.nils,.nils,.bool b]) (l':=[.sl 1 (F ([]:O Ξ))<|AM AW ([]:O Ξ),.sl 2 (F ([]:O<|Δ))<|AM Az ([]:O<|Δ),.bool b]) rfl ⟨AO.sl_nil _ _,AO.sl_nil _ _,At,trivial⟩) Z5 Z5;exact⟨v,m,v,rfl,n⟩
def vZ(t:O<|Δ)(f:E)(b:ζ)(J:Ap B GG N [] ρs Q)(c:A8 [] ρs Q [V,V,oC [.i most],oC [.i f],oC [.nils],oC [.msl 7 2 0<|F t],oC [.bool b],Z<|.arr 2 (F t)<|AM Az t] ρ0 w0)(x:AS B GG N ⟨AF 42 [(8,.ref 4 0),(9,.ref 5 0),(10,.ref 6 0)],[V,V,oC [.i most],oC [.i f],oC [.nils],oC [.msl 7 2 0<|F t],oC [.bool b],Z<|.arr 2 (F t)<|AM Az t]⟩ ρ0 a0 w0)(G:w0.heap[ϑ]?=Z (.deferred<|Z []))(j:GG.ng<=ϑ)(k:Q.heap.size<=ϑ):
 LeavesInM η 0 B Tryz.f39 a0.tmps (λe w'=>∃v,e=.returned v/\CG B GG N [] ρs Q T (.tup 3<|L1 [.sl 1 (F ([]:O Ξ))<|AM AW ([]:O Ξ),.sl 2 (F t)<|AM Az t,.bool b]) [] v w') [{ target:=.collected ϑ,args:=#[] }] .returning w0:=by
 refine fF (ϙ:=ϑ) _ _ (d9 G) λW a=>?_
 have m:=x.shut (K7 Z5) j a;obtain⟨v,n,o⟩:=OH (fn:=Tryz.f39) m J (c.shut<|a.mono λ_ _ h=>⟨zAO k h.1,h.2⟩) [7] (H0.g<|φ<|F t) [.nils,.sl 2 (F t)<|AM Az t,.bool b] (AO.tupL (l:=[.nils,.sl 2 (F t)<|AM Az t,.bool b]) (l':=[.sl 1 (F ([]:O Ξ))<|AM AW ([]:O Ξ),.sl 2 (F t)<|AM Az t,.bool b]) rfl ⟨AO.sl_nil _ _,At,At,trivial⟩) Z5 Z5;exact⟨v,n,v,rfl,o⟩
def vY(l:O Ξ)(t:O<|Δ)(f:E)(b:ζ)(J:Ap B GG N [] ρs Q)(c:A8 [] ρs Q [V,V,oC [.i most],oC [.i f],oC [.msl 7 1 0<|F l],oC [.msl 8 2 0<|F t],oC [.bool b],Z<|.arr 1 (F l)<|AM AW l,Z<|.arr 2 (F t)<|AM Az t] ρ0 w0)(x:AS B GG N ⟨AF 42 [(8,.ref 4 0),(9,.ref 5 0),(10,.ref 6 0)],[V,V,oC [.i most],oC [.i f],oC [.msl 7 1 0<|F l],oC [.msl 8 2 0<|F t],oC [.bool b],Z<|.arr 1 (F l)<|AM AW l,Z<|.arr 2 (F t)<|AM Az t]⟩ ρ0 a0 w0)(G:w0.heap[ϑ]?=Z (.deferred<|Z []))(j:GG.ng<=ϑ)(k:Q.heap.size<=ϑ):
 LeavesInM η 0 B Tryz.f39 a0.tmps (λe w'=>∃v,e=.returned v/\CG B GG N [] ρs Q T (.tup 3<|L1 [.sl 1 (F l)<|AM AW l,.sl 2 (F t)<|AM Az t,.bool b]) [] v w') [{ target:=.collected ϑ,args:=#[] }] .returning w0:=by
 refine fF (ϙ:=ϑ) _ _ (d9 G) λW a=>?_
 have m:=x.shut (K7 Z5) j a;obtain⟨v,n,o⟩:=OH (fn:=Tryz.f39) m J (c.shut<|a.mono λ_ _ h=>⟨zAO k h.1,h.2⟩) [7,8] (H0.g (φ<|F l)|>.g (φ<|F t)) [.sl 1 (F l)<|AM AW l,.sl 2 (F t)<|AM Az t,.bool b] (AO.tupL (l:=[.sl 1 (F l)<|AM AW l,.sl 2 (F t)<|AM Az t,.bool b]) (l':=[.sl 1 (F l)<|AM AW l,.sl 2 (F t)<|AM Az t,.bool b]) rfl ⟨At,At,At,trivial⟩) Z5 Z5;exact⟨v,n,v,rfl,o⟩
def tY:ST:=.rd 0<|.rd 1<|.ef 2 (.ef 3 (.ef 4 (.fin [] [8,9,10])<|.no)<|.no)<|.no
def zFt:Bz (Am Tryz.f39 12) [2] tY:=Z1
def s8(most fuel:E):St:=⟨AF 42 [(8,.ref 4 0),(9,.ref 5 0),(10,.ref 6 0)],([V,V,oC [.i most],oC [.i fuel],oC [.nils],oC [.nils],oC [.bool D]]:DH)⟩
def tX:ST:=.rd 0<|.rd 1<|.ef 2 (.ef 3 (.ef 4 (.fin [] [8,9,10])<|.no)<|.no)<|.no
def zFs:Bz (Am Tryz.f39 12) [2] tX:=Z1
def s6(most f:E)(t:O<|Δ):St:=⟨AF 42 [(8,.ref 4 0),(9,.ref 5 0),(10,.ref 6 0)],([V,V,oC [.i most],oC [.i f],oC [.nils],oC [.msl 7 2 0<|F t],oC [.bool D],Z<|.arr 2 (F t)<|AM Az t]:DH)⟩
def tW:ST:=.rd 0<|.rd 1<|.ef 2 (.ef 3 (.ef 4 (.fin [] [8,9,10])<|.no)<|.no)<|.no
def zFr:Bz (Am Tryz.f39 12) [2] tW:=Z1
def s5(most f:E)(l:O Ξ)(t:O<|Δ):St:=⟨AF 42 [(8,.ref 4 0),(9,.ref 5 0),(10,.ref 6 0)],([V,V,oC [.i most],oC [.i f],oC [.msl 7 1 0<|F l],oC [.msl 8 2 0<|F t],oC [.bool D],Z<|.arr 1 (F l)<|AM AW l,Z<|.arr 2 (F t)<|AM Az t]:DH)⟩
def zNQ(q:AA)(most fuel:E):DH:=[oC<|AG q,oC [.i most],oC [.i fuel],oC [.nils],oC [.nils],oC [.bool D]]
variable{fuel:E}{pos:Ξ}{q:AA}{n:U}
def zHI{l:O BU}{rE:IE×U}{k:X0}(hy:PZ n q pos=Z l)(hf:C7 (J8 n most fuel) l .s0=Z rE)(j:O3 rE=Z k)
     (u:AS B GG N ⟨AF 42 [(0,.agg 5<|L1<|AG q),(1,.ints pos),(2,.i most),(3,.i fuel)],[]⟩ ρ0 a0 w0) (GC:a0.defers= []):
 J0 η 0 B 39 (AZ Tryz.f39) (bodyPostM η 0 B Tryz.f39<|vX N ρ0 w0 k) a0 w0:=by
 refine TL<|Of ?_;refine wr (Ϝ:=0) HC.x [1,4,6,7,8,9,10] [0,1,2,3,4,5] [] H0 H0 (AF 42 [(1,.ints pos),(4,.ref 0 0),(6,.ref 1 0),(7,.ref 2 0),(8,.ref 3 0),(9,.ref 4 0),(10,.ref 5 0)]) ([oC<|AG q,oC [.i most],oC [.i fuel],oC [.nils],oC [.nils],oC [.bool D]]:DH) u Z5 Z5 λρ1 a1 w1 R1 BV EJ Cs=>?_
 refine TL<|TL<|Of ?_;refine wr (Ϝ:=0) HC.x [6,7,8,9,10,15] [6,7,1,2,3,4,5] [] (H0.c<|em (zKB q pos (rfl:xm n q pos=Z ())) []<|zNQ q most fuel) H0 (AF 42 [(6,.ref 2 0),(7,.ref 3 0),(8,.ref 4 0),(9,.ref 5 0),(10,.ref 6 0),(15,.fn 84 2<|L1 [.ref 0 0,.ref 1 0])]) ([oC<|AG q,oC [.ints pos],oC [.i most],oC [.i fuel],oC [.nils],oC [.nils],oC [.bool D]]:DH) R1 Z5 Z5 λρ2 p w2 R2 Et I2 KE=>?_
 obtain⟨ρ3,R3,D1,Jc⟩:=BB.ros (Ϝ:=0) (fr:=AF 42 [(6,.ref 2 0),(7,.ref 3 0),(8,.ref 4 0),(9,.ref 5 0),(10,.ref 6 0),(15,.fn 84 2<|L1 [.ref 0 0,.ref 1 0])]) (h:=[oC<|AG q,oC [.ints pos],oC [.i most],oC [.i fuel],oC [.nils],oC [.nils],oC [.bool D]]) (h':=RP q pos 0++[oC [.i most],oC [.i fuel],oC [.nils],oC [.nils],oC [.bool D]]) [0,1] Z5 Z5 B GG N _ _ _ R2;refine zC8 ?_;have HY:YW B GG mz 84 (λl=>.yl l::(θ 2).map (L1 [.ref 0 0,.ref 1 0])) (λ_=>RP q pos 0)<|l.map VS:=zJ5 q pos l hy;refine zIn (KK:=7) (ϒ:=[oC [.i most],oC [.i fuel],oC [.nils],oC [.nils],oC [.bool D]]) ⟨_,Tryz.func39⟩ R3 Z5 HY Z5 Z5 (λx m=>by obtain⟨z,_,rfl⟩:=zMa.1 m;rfl) Z5 ⟨.s0,by rw[zMy];exact hf,rfl⟩ (zHj [.ret] rfl (pan H6) VS l (J8 n most fuel) (Wz most fuel) (λAU=>AF 42 [(6,.ref 2 0),(7,.ref 3 0),(8,.ref 4 0),(9,.ref 5 0),(10,.ref 6 0),(15,.fn 84 2<|L1 [.ref 0 0,.ref 1 0]),(16,.agg 2<|L1 [.i AU.1.1,.i AU.1.2]),(17,.ints AU.2)]) (λl ϙ N x s r h=>zHT n most fuel l ϙ N x s r h) (λs=>by cases s <;> kernel_rfl) Z5) λϑ e h8 ρ8 X hl R8 Kp Uc G Fy=>?_
 have w:=((BV.trans Et).trans D1).trans Kp;have K:GG.ng<=ϑ:=zAO (GG.lo _ R3.hr.gi) Fy;have y:w0.heap.size<=ϑ:=zAO ((BV.trans Et).trans D1).upd.size Fy;have U7:p.defers= []:=by rw[I2,EJ,GC]
 have pO:∀{a:Act},a.defers= { target:=.collected ϑ,args:=#[] }::p.defers->a.defers= [{ target:=.collected ϑ,args:=#[] }]:=λh=>by rw[h,U7]
 rcases hl with⟨rfl,s,Y,rfl⟩|⟨m,he,rfl⟩|⟨c,rfl,rfl,h2,rfl⟩
 ·rw[zAS,zTb]at Y;have e:(s,0)=rE:=zAN Y;subst e;have o:AS B GG N ⟨AF 42 [(6,.ref 2 0),(7,.ref 3 0),(8,.ref 4 0),(9,.ref 5 0),(10,.ref 6 0),(15,.fn 84 2<|L1 [.ref 0 0,.ref 1 0])],Wz most fuel s⟩ ρ8 { p with defers:={ target:=.collected ϑ,args:=#[] }::p.defers } X:=⟨R8.hr,R8.fr⟩;cases s with
  |s0=>
   cases j;refine TL<|Of ?_;refine Qn (Ϝ:=0) HC.x [2] tY zFt [([(2,4)],s8 most fuel)] [8,9,10] [0,1,2,3,4,5,6] [] (H0.t|>.t|>.t|>.g (φ<|s8 most fuel)) H0 (AF 42 [(8,.ref 4 0),(9,.ref 5 0),(10,.ref 6 0)]) ([V,V,oC [.i most],oC [.i fuel],oC [.nils],oC [.nils],oC [.bool D]]:DH) o Z5 λρ10 P Q R v S yk=>?_
   refine Of<|zTS ?_
   show LeavesInM _ _ _ _ _ _ P.defers .returning Q
   rw[pO S];exact vb fuel D u.hr (w.trans v) R (Zt o.hr v G) K y
  |s1 f I t=>
   have j:(C (I=F t) (Z ([],t,D)) (V:X0)).map (λx=>Z (x.1,x.2.1,D))=Z k:=j;obtain⟨x,m,rfl⟩:=zMb.1 j;obtain⟨rfl,J⟩:=B6 m;cases J;refine TL<|Of ?_;refine Qn (Ϝ:=0) HC.x [2] tX zFs [([(2,4)],s6 most f t)] [8,9,10] [0,1,2,3,4,5,6,7] [] (H0.t|>.t|>.t|>.g (φ<|s6 most f t)) H0 (AF 42 [(8,.ref 4 0),(9,.ref 5 0),(10,.ref 6 0)]) ([V,V,oC [.i most],oC [.i f],oC [.nils],oC [.msl 7 2 0<|F t],oC [.bool D],Z<|.arr 2 (F t)<|AM Az t]:DH) o Z5 λρ10 P Q R v S yk=>?_
   refine Of<|zTS ?_
   show LeavesInM _ _ _ _ _ _ P.defers .returning Q
   rw[pO S];exact vZ t f D u.hr (w.trans v) R (Zt o.hr v G) K y
  |s2 f n2 I b l t=>
   have j:(C (n2=F l/\I=F t) (Z (l,t,b)) (V:X0)).map (λx=>Z (x.1,x.2.1,D))=Z k:=j;obtain⟨x,m,rfl⟩:=zMb.1 j;obtain⟨⟨rfl,rfl⟩,J⟩:=B6 m;cases J;refine TL<|Of ?_;refine Qn (Ϝ:=0) HC.x [2] tW zFr [([(2,4)],s5 most f l t)] [8,9,10] [0,1,2,3,4,5,6,7,8] [] (H0.t|>.t|>.t|>.g (φ<|s5 most f l t)) H0 (AF 42 [(8,.ref 4 0),(9,.ref 5 0),(10,.ref 6 0)]) ([V,V,oC [.i most],oC [.i f],oC [.msl 7 1 0<|F l],oC [.msl 8 2 0<|F t],oC [.bool D],Z<|.arr 1 (F l)<|AM AW l,Z<|.arr 2 (F t)<|AM Az t]:DH) o Z5 λρ10 P Q R v S yk=>?_
   refine Of<|zTS ?_
   show LeavesInM _ _ _ _ _ _ P.defers .returning Q
   rw[pO S];exact vY l t f D u.hr (w.trans v) R (Zt o.hr v G) K y
 ·obtain⟨s,c⟩:=rE
  have hc:c=1/\e=.ret:=by
   rcases c with _|_|c
   ·cases he;cases m
   ·cases he;exact⟨rfl,rfl⟩
   ·exact τ he Z3
  obtain⟨rfl,rfl⟩:=hc;have o:AS B GG N ⟨AF 42 [(8,.ref 4 0),(9,.ref 5 0),(10,.ref 6 0)],Wz most fuel s⟩ ρ8 p X:=R8.forg [8,9,10] rfl Z5
  show LeavesInM _ _ _ _ _ _ ({ target:=.collected ϑ,args:=#[] }::p.defers) .returning X
  rw[U7];cases s with
  |s0=>
   cases j;exact vb (a0:=p) fuel D u.hr w o G K y
  |s1 f I t=>
   have j:(C (I=F t) (Z ([],t,D)) (V:X0)).map (λx=>Z (x.1,x.2.1,x.2.2))=Z k:=j;obtain⟨x,m,rfl⟩:=zMb.1 j;obtain⟨rfl,J⟩:=B6 m;cases J;exact vZ (a0:=p) t f D u.hr w o G K y
  |s2 f n2 I b l t=>
   have j:(C (n2=F l/\I=F t) (Z (l,t,b)) (V:X0)).map (λx=>Z (x.1,x.2.1,x.2.2))=Z k:=j;obtain⟨x,m,rfl⟩:=zMb.1 j;obtain⟨⟨rfl,rfl⟩,J⟩:=B6 m;cases J;exact vY (a0:=p) l t f b u.hr w o G K y
 ·have j:(Z V:A<|X0)=Z k:=by
   rw[←j];unfold O3;exact(zAB<|show rE.2=2 from h2).symm
  cases j
  show LeavesInM _ _ _ _ _ _ ({ target:=.collected ϑ,args:=#[] }::p.defers) (.panicking<|pan H6) X
  rw[U7];exact fH (ϙ:=ϑ) Z3 _ _ (d9 G) λW Y=>⟨rfl,zEK u.hr<|w.shut<|Y.mono λ_ _ h=>⟨zAO y h.1,h.2⟩⟩
def vS{a:X0}(h:NU n q pos most fuel=Z a){args:υ μ}(HR:Ap B GG N [] ρ w)(b:A3 (MS N [] ρ) w ρ [.agg 5<|L1<|AG q,.ints pos,.i most,.i fuel] args):CallsIn η 0 B 39 args w<|vX N ρ w a:=by
 obtain⟨l,hy,h⟩:=D4 h;obtain⟨rE,g,x⟩:=D4 h;refine zR3 (c:=AZ Tryz.f39) Tryz.func39 Z5 trivial ?_;refine zHI hy g x (N:=N) (ρ0:=ρ) ⟨HR,?_⟩ rfl;have p:F ([.agg 5<|L1<|AG q,.ints pos,.i most,.i fuel]:O DV)=args.size:=b.1;have e:([.agg 5<|L1<|AG q,.ints pos,.i most,.i fuel]:O DV)++d (Tryz.f39.ntmps-F ([.agg 5<|L1<|AG q,.ints pos,.i most,.i fuel]:O DV)) .any=AF 42 [(0,.agg 5<|L1<|AG q),(1,.ints pos),(2,.i most),(3,.i fuel)]:=Z5
 rw[←e,p];exact A3.append b<|A3.anys _ _ _ _
def vQ{r:O Ξ×O Δ×ζ}(h:NU n q pos most fuel=Z (Z r)):EQ 39 [.agg 5<|L1<|AG q,.ints pos,.i most,.i fuel] [] (.tup 3<|L1 [.sl 1 (F r.1)<|AM AW r.1,.sl 2 (F r.2.1)<|AM Az r.2.1,.bool r.2.2]) [] T:=by
 have W:(Tryz.f39.name== "runtime.NumGoroutine")=D:=Z5
 exact⟨⟨Tryz.f39,Tryz.func39,by simpa using W,Z5⟩,λN ρ w args HR u=>(zTC (n:=0)).1<|vS h HR u⟩
def vP(h:NU n q pos most fuel=Z V):zCw 39 [.agg 5<|L1<|AG q,.ints pos,.i most,.i fuel] H6:=
 ⟨λargs W=>HD Tryz.func39 Z5 Z5 args W,λ_ _ _ _ HR b=>vS h HR b⟩
end
abbrev zOQ:=@Go.wpSIn_region
abbrev zOo:=@Go.wpIn_cond_false
abbrev zPC:=@Go.callsDIn_of_wpSIn
abbrev zTA:=@Go.wpSIn_seq
abbrev zTj:=@Go.wpSIn_of_wpIn
abbrev zUP:=@Go.wpSIn_cond
section
set_option maxRecDepth 100000
set_option maxHeartbeats 40000000
theorem zBq(b:μ)(w0:κ):CallsDIn η (0-1) B 38 #[b] .returning w0 λe a w'=>(∃v,e=.returned v)/\a=.returning/\w'=w0:=by
 refine zPC Tryz.func38 rfl trivial λm cs c=>?_
 apply zTA;apply zOQ;simp[wpOpsSIn,go_sem,recoverD,c,Tryz.ntmps38,Exit.thenS,η];apply zTA;apply zOQ;simp[wpOpsSIn,go_sem,Exit.thenS];refine zUP (t:=D) (by simp[Act.eval,Array.replicate]) ?_;simp only[zMe,zTQ];refine zTj rfl (zTM ?_);cases m
 simp_all[bodyPostS,results,Tryz.results38,go_sem]
variable{b:μ}{w0:κ}{ρ0:O AK}{N:Ψ}{x:E}{q:AA}
def zRy(HR:Ap B GG N [oC [.i x],oC<|AG q] ρ0 w0)(y:AJ (MS N [oC [.i x],oC<|AG q] ρ0) w0 (.ref 0 0) ρ0 b):
 CallsDIn η (0-1) B 38 #[b] (.panicking<|pan H6) w0 λe a w'=>(∃v,e=.returned v)/\a=.panicking [{ v:=H6,recovered:=T }]/\∃ρ',Ap B GG N [oC [.i 220],oC<|AG q] ρ' w'/\A8 [oC [.i x],oC<|AG q] ρ0 w0 [oC [.i 220],oC<|AG q] ρ' w'/\Bm 2 ρ0 ρ':=by
 refine zPC Tryz.func38 rfl trivial λc₀ cs c=>?_
 apply zTA;apply zOQ;simp[wpOpsSIn,go_sem,recoverD,c,Tryz.ntmps38,Exit.thenS,η,pan,H6];apply zTA;apply zOQ;simp[wpOpsSIn,go_sem,Exit.thenS];refine zUP (t:=T) (by simp[Act.eval,Array.replicate]) ?_;simp only[zN6];refine zTj rfl ?_
 have f:AS B GG N ⟨AF 13 [(0,.ref 0 0),(2,.i 220)],[oC [.i x],oC<|AG q]⟩ ρ0 { tmps:=#[b]++((((((((Array.replicate 12 undef).setIfInBounds 4<|Value.iface 30<|Value.int IntKind.i64 220).setIfInBounds 5<|Value.tuple #[Value.int IntKind.i64 220,Value.bool T]).setIfInBounds 3<|Value.tuple #[Value.int IntKind.i64 220,Value.bool T]).setIfInBounds 6<|Value.int IntKind.i64 220).setIfInBounds 7<|Value.bool T).setIfInBounds 1<|Value.int IntKind.i64 220).setIfInBounds 2<|Value.bool T).setIfInBounds 8 (Value.bool T),defers:=[] } w0:=by
  refine⟨HR,rfl,λj g=>?_⟩;have g:j<13:=g
  match j,g with
  |0,_=>exact y
  |2,_=>exact rfl
  |1,_=>trivial
  |3,_=>trivial
  |4,_=>trivial
  |5,_=>trivial
  |6,_=>trivial
  |7,_=>trivial
  |8,_=>trivial
  |9,_=>trivial
  |10,_=>trivial
  |11,_=>trivial
  |12,_=>trivial
  |j+13,g=>exact τ g Z2
 refine wr (Ϝ:=2) HC.x [] [0,1] [] H0.t H0 (AF 13 []) ([oC [.i 220],oC<|AG q]:DH) f Z5 Z5 λρ1 a1 w1 X u l K=>?_
 simp[bodyPostS,results,Tryz.results38,l,go_sem];exact⟨ρ1,X.hr,u,K⟩
variable{fuel:E}
def zBr(HR:Ap B GG N [oC [.i x],oC [.i fuel],oC<|AG q] ρ0 w0)(y:AJ (MS N [oC [.i x],oC [.i fuel],oC<|AG q] ρ0) w0 (.ref 0 0) ρ0 b):
 CallsDIn η (0-1) B 38 #[b] (.panicking<|pan H6) w0 λe a w'=>(∃v,e=.returned v)/\a=.panicking [{ v:=H6,recovered:=T }]/\∃ρ',Ap B GG N [oC [.i 220],oC [.i fuel],oC<|AG q] ρ' w'/\A8 [oC [.i x],oC [.i fuel],oC<|AG q] ρ0 w0 [oC [.i 220],oC [.i fuel],oC<|AG q] ρ' w'/\Bm 3 ρ0 ρ':=by
 refine zPC Tryz.func38 rfl trivial λc₀ cs c=>?_
 apply zTA;apply zOQ;simp[wpOpsSIn,go_sem,recoverD,c,Tryz.ntmps38,Exit.thenS,η,pan,H6];apply zTA;apply zOQ;simp[wpOpsSIn,go_sem,Exit.thenS];refine zUP (t:=T) (by simp[Act.eval,Array.replicate]) ?_;simp only[zN6];refine zTj rfl ?_
 have f:AS B GG N ⟨AF 13 [(0,.ref 0 0),(2,.i 220)],[oC [.i x],oC [.i fuel],oC<|AG q]⟩ ρ0 { tmps:=#[b]++((((((((Array.replicate 12 undef).setIfInBounds 4<|Value.iface 30<|Value.int IntKind.i64 220).setIfInBounds 5<|Value.tuple #[Value.int IntKind.i64 220,Value.bool T]).setIfInBounds 3<|Value.tuple #[Value.int IntKind.i64 220,Value.bool T]).setIfInBounds 6<|Value.int IntKind.i64 220).setIfInBounds 7<|Value.bool T).setIfInBounds 1<|Value.int IntKind.i64 220).setIfInBounds 2<|Value.bool T).setIfInBounds 8 (Value.bool T),defers:=[] } w0:=by
  refine⟨HR,rfl,λj g=>?_⟩;have g:j<13:=g
  match j,g with
  |0,_=>exact y
  |2,_=>exact rfl
  |1,_=>trivial
  |3,_=>trivial
  |4,_=>trivial
  |5,_=>trivial
  |6,_=>trivial
  |7,_=>trivial
  |8,_=>trivial
  |9,_=>trivial
  |10,_=>trivial
  |11,_=>trivial
  |12,_=>trivial
  |j+13,g=>exact τ g Z2
 refine wr (Ϝ:=3) HC.x [] [0,1,2] [] H0.t H0 (AF 13 []) ([oC [.i 220],oC [.i fuel],oC<|AG q]:DH) f Z5 Z5 λρ1 a1 w1 X u l K=>?_
 simp[bodyPostS,results,Tryz.results38,l,go_sem];exact⟨ρ1,X.hr,u,K⟩
variable{p2:μ}{u:FrameMode}
def zP1(HR:Ap B GG N [oC [.i 0],oC [.i fuel],oC<|AG q] ρ0 w0)(y:AJ (MS N [oC [.i 0],oC [.i fuel],oC<|AG q] ρ0) w0 (.ref 0 0) ρ0 b)(K:AJ (MS N [oC [.i 0],oC [.i fuel],oC<|AG q] ρ0) w0 (.ref 1 0) ρ0 p2):
 CallsDIn η (0-1) B 37 #[b,p2] u w0 λe a w'=>(∃v,e=.returned v)/\a=u/\∃ρ',Ap B GG N [oC [.i 0],oC [.i fuel],oC<|AG q] ρ' w'/\A8 [oC [.i 0],oC [.i fuel],oC<|AG q] ρ0 w0 [oC [.i 0],oC [.i fuel],oC<|AG q] ρ' w'/\Bm 3 ρ0 ρ':=by
 have key:CallsDIn η (0-1) B 37 #[b,p2] u w0 λe a w'=>a=u/\((∃v,e=.returned v)/\∃ρ',Ap B GG N [oC [.i 0],oC [.i fuel],oC<|AG q] ρ' w'/\A8 [oC [.i 0],oC [.i fuel],oC<|AG q] ρ0 w0 [oC [.i 0],oC [.i fuel],oC<|AG q] ρ' w'/\Bm 3 ρ0 ρ'):=by
  refine callsDIn_of_wp (c:=AZ Tryz.f37) Tryz.func37 Z5 trivial ?_
  have h:AS B GG N ⟨AF 8 [(0,.ref 0 0),(1,.ref 1 0)],[oC [.i 0],oC [.i fuel],oC<|AG q]⟩ ρ0 { tmps:=#[b,p2]++Array.replicate (Tryz.f37.ntmps- #[b,p2].size) undef,defers:=[] } w0:=by
   refine⟨HR,?_⟩;have f:A3 (MS N [oC [.i 0],oC [.i fuel],oC<|AG q] ρ0) w0 ρ0 [.ref 0 0,.ref 1 0] #[b,p2]:=⟨rfl,λj g=>match j,g with|0,_=>y|1,_=>K|j+2,g=>τ g Z3⟩;exact A3.append f<|A3.anys _ _ _ 6
  refine zMT ?_;refine wr (Ϝ:=3) HC.x [0,7] [0,1,2] [] H0 H0 (AF 8 [(0,.ref 0 0),(7,.bool D)]) ([oC [.i 0],oC [.i fuel],oC<|AG q]:DH) h Z5 Z5 λρ1 a1 w1 X k l m=>?_
  refine zOo (Be X<|.tmp 7)<|zTM ?_;refine⟨by rw[l],?_⟩;simp[results,Tryz.results37,go_sem];exact⟨ρ1,X.hr,k,m⟩
 exact key.mono λe a w' ⟨n,o,p⟩=>⟨o,n,p⟩
def zP0(c:H (fuel>65536)=T)(HR:Ap B GG N [oC [.i 220],oC [.i fuel],oC<|AG q] ρ0 w0)(y:AJ (MS N [oC [.i 220],oC [.i fuel],oC<|AG q] ρ0) w0 (.ref 0 0) ρ0 b)(K:AJ (MS N [oC [.i 220],oC [.i fuel],oC<|AG q] ρ0) w0 (.ref 1 0) ρ0 p2):
 CallsDIn η (0-1) B 37 #[b,p2] u w0 λe a w'=>(∃v,e=.returned v)/\a=u/\∃ρ',Ap B GG N [oC [.i 2],oC [.i fuel],oC<|AG q] ρ' w'/\A8 [oC [.i 220],oC [.i fuel],oC<|AG q] ρ0 w0 [oC [.i 2],oC [.i fuel],oC<|AG q] ρ' w'/\Bm 3 ρ0 ρ':=by
 have key:CallsDIn η (0-1) B 37 #[b,p2] u w0 λe a w'=>a=u/\((∃v,e=.returned v)/\∃ρ',Ap B GG N [oC [.i 2],oC [.i fuel],oC<|AG q] ρ' w'/\A8 [oC [.i 220],oC [.i fuel],oC<|AG q] ρ0 w0 [oC [.i 2],oC [.i fuel],oC<|AG q] ρ' w'/\Bm 3 ρ0 ρ'):=by
  refine callsDIn_of_wp (c:=AZ Tryz.f37) Tryz.func37 Z5 trivial ?_
  have h:AS B GG N ⟨AF 8 [(0,.ref 0 0),(1,.ref 1 0)],[oC [.i 220],oC [.i fuel],oC<|AG q]⟩ ρ0 { tmps:=#[b,p2]++Array.replicate (Tryz.f37.ntmps- #[b,p2].size) undef,defers:=[] } w0:=by
   refine⟨HR,?_⟩;have f:A3 (MS N [oC [.i 220],oC [.i fuel],oC<|AG q] ρ0) w0 ρ0 [.ref 0 0,.ref 1 0] #[b,p2]:=⟨rfl,λj g=>match j,g with|0,_=>y|1,_=>K|j+2,g=>τ g Z3⟩;exact A3.append f<|A3.anys _ _ _ 6
  refine zMT ?_;refine wr (Ϝ:=3) HC.x [0,7] [0,1,2] [] H0 H0 (AF 8 [(0,.ref 0 0),(7,.bool<|H<|fuel>65536)]) ([oC [.i 220],oC [.i fuel],oC<|AG q]:DH) h Z5 Z5 λρ1 k w1 X l m n=>?_
  refine wpIn_cond_true ((show k.eval (.tmp 7)=.bool (H<|fuel>65536)from Be X<|.tmp 7).trans<|by rw[c]) ?_;refine wr (Ϝ:=3) HC.x [] [0,1,2] [] H0.t H0 (AF 8 []) ([oC [.i 2],oC [.i fuel],oC<|AG q]:DH) X Z5 Z5 λρ2 a2 w2 o p r s=>?_
  refine⟨by rw[r,m],?_⟩;simp[results,Tryz.results37,go_sem];exact⟨ρ2,o.hr,l.trans p,Bm.trans n s⟩
 exact key.mono λe a w' ⟨w,z,G⟩=>⟨z,w,G⟩
def zPz(c:H (fuel>65536)=D)(HR:Ap B GG N [oC [.i 220],oC [.i fuel],oC<|AG q] ρ0 w0)(y:AJ (MS N [oC [.i 220],oC [.i fuel],oC<|AG q] ρ0) w0 (.ref 0 0) ρ0 b)(K:AJ (MS N [oC [.i 220],oC [.i fuel],oC<|AG q] ρ0) w0 (.ref 1 0) ρ0 p2):
 CallsDIn η (0-1) B 37 #[b,p2] u w0 λe a w'=>(∃v,e=.returned v)/\a=u/\∃ρ',Ap B GG N [oC [.i 220],oC [.i fuel],oC<|AG q] ρ' w'/\A8 [oC [.i 220],oC [.i fuel],oC<|AG q] ρ0 w0 [oC [.i 220],oC [.i fuel],oC<|AG q] ρ' w'/\Bm 3 ρ0 ρ':=by
 have key:CallsDIn η (0-1) B 37 #[b,p2] u w0 λe a w'=>a=u/\((∃v,e=.returned v)/\∃ρ',Ap B GG N [oC [.i 220],oC [.i fuel],oC<|AG q] ρ' w'/\A8 [oC [.i 220],oC [.i fuel],oC<|AG q] ρ0 w0 [oC [.i 220],oC [.i fuel],oC<|AG q] ρ' w'/\Bm 3 ρ0 ρ'):=by
  refine callsDIn_of_wp (c:=AZ Tryz.f37) Tryz.func37 Z5 trivial ?_
  have h:AS B GG N ⟨AF 8 [(0,.ref 0 0),(1,.ref 1 0)],[oC [.i 220],oC [.i fuel],oC<|AG q]⟩ ρ0 { tmps:=#[b,p2]++Array.replicate (Tryz.f37.ntmps- #[b,p2].size) undef,defers:=[] } w0:=by
   refine⟨HR,?_⟩;have f:A3 (MS N [oC [.i 220],oC [.i fuel],oC<|AG q] ρ0) w0 ρ0 [.ref 0 0,.ref 1 0] #[b,p2]:=⟨rfl,λj g=>match j,g with|0,_=>y|1,_=>K|j+2,g=>τ g Z3⟩;exact A3.append f<|A3.anys _ _ _ 6
  refine zMT ?_;refine wr (Ϝ:=3) HC.x [0,7] [0,1,2] [] H0 H0 (AF 8 [(0,.ref 0 0),(7,.bool<|H<|fuel>65536)]) ([oC [.i 220],oC [.i fuel],oC<|AG q]:DH) h Z5 Z5 λρ1 k w1 X l m n=>?_
  refine zOo ((show k.eval (.tmp 7)=.bool (H<|fuel>65536)from Be X<|.tmp 7).trans<|by rw[c])<|zTM ?_;refine⟨by rw[m],?_⟩;simp[results,Tryz.results37,go_sem];exact⟨ρ1,X.hr,l,n⟩
 exact key.mono λe a w' ⟨o,p,r⟩=>⟨p,o,r⟩
end
section
set_option maxRecDepth 100000
set_option maxHeartbeats 40000000
variable{a0:Act}{Q w0:κ}{ρs ρ0:O AK}{N:Ψ}{a b:DV}{e fuel:E}{t:O Δ}{l:O Ξ}{q:AA}
def qO(n:AO a<|.sl 1 (F l)<|AM AW l)(S:AO b<|.sl 2 (F t)<|AM Az t)(J:Ap B GG N [] ρs Q)(c:A8 [] ρs Q [oC [.i e],oC [.i fuel],oC<|AG q] ρ0 w0)(x:AS B GG N ⟨AF 39 [(6,a),(7,b),(8,.ref 0 0)],[oC [.i e],oC [.i fuel],oC<|AG q]⟩ ρ0 a0 w0):LeavesInM η 0 B Tryz.f19 a0.tmps (λy w'=>∃v,y=.returned v/\CG B GG N [] ρs Q T (.tup 3<|L1 [.sl 1 (F l)<|AM AW l,.sl 2 (F t)<|AM Az t,.i e]) [] v w') [] .returning w0:=by
 obtain⟨v,f,g⟩:=OH (fn:=Tryz.f19) x J c [] H0 [a,b,.i e] (AO.tupL (l:=[a,b,.i e]) (l':=[.sl 1 (F l)<|AM AW l,.sl 2 (F t)<|AM Az t,.i e]) rfl ⟨n,S,At,trivial⟩) Z5 Z5;exact⟨v,f,v,rfl,g⟩
variable{u g:μ}
def zAr(n:AO a<|.sl 1 (F l)<|AM AW l)(S:AO b<|.sl 2 (F t)<|AM Az t)(f:Ap B GG N [] ρs Q)(h:A8 [] ρs Q [oC [.i 0],oC [.i fuel],oC<|AG q] ρ0 w0)(j:(AF 39 [(6,a),(7,b),(8,.ref 0 0)]).all (CS 3)=T)(x:AS B GG N ⟨AF 39 [(6,a),(7,b),(8,.ref 0 0)],[oC [.i 0],oC [.i fuel],oC<|AG q]⟩ ρ0 a0 w0)(J:A3 (MS N [oC [.i 0],oC [.i fuel],oC<|AG q] ρ0) w0 ρ0 [.ref 0 0,.ref 1 0] #[u,g]):LeavesInM η 0 B Tryz.f19 a0.tmps (λy w'=>∃v,y=.returned v/\CG B GG N [] ρs Q T (.tup 3<|L1 [.sl 1 (F l)<|AM AW l,.sl 2 (F t)<|AM Az t,.i 0]) [] v w') [{ target:=.fn (.func 38) #[],args:=#[u] },{ target:=.fn (.func 37) #[u,g],args:=#[] }] .returning w0:=by
 refine Pf Z3 (λargs W=>HD Tryz.func38 Z5 Z5 args W) (by simp:#[u]++(#[]:υ μ)= #[u]) ?_;refine(zBq u w0).mono ?_;rintro e k w1 ⟨⟨v,rfl⟩,rfl,rfl⟩;refine Pf (by simp[settle]) (λargs W=>HD Tryz.func37 Z5 Z5 args W) (by simp:(#[]:υ μ)++#[u,g]= #[u,g]) ?_;refine(zP1 x.hr (J.at 0)<|J.at 1).mono ?_;rintro e k w' ⟨⟨v,rfl⟩,rfl,ρ1,r,c,K⟩;exact qO (a0:=a0) (e:=0) n S f (h.trans c) ⟨r,GD (Ϝ:=3) x.fr j r c K⟩
def zPx(k:AO a<|.sl 1 (F l)<|AM AW l)(S:AO b<|.sl 2 (F t)<|AM Az t)(m:Ap B GG N [] ρs Q)(o:A8 [] ρs Q [oC [.i 0],oC [.i fuel],oC<|AG q] ρ0 w0)(h:(AF 39 [(6,a),(7,b),(8,.ref 0 0)]).all (CS 3)=T)(x:AS B GG N ⟨AF 39 [(6,a),(7,b),(8,.ref 0 0)],[oC [.i 0],oC [.i fuel],oC<|AG q]⟩ ρ0 a0 w0)(J:A3 (MS N [oC [.i 0],oC [.i fuel],oC<|AG q] ρ0) w0 ρ0 [.ref 0 0,.ref 1 0] #[u,g])(c:H (fuel>65536)=T):LeavesInM η 0 B Tryz.f19 a0.tmps (λy w'=>∃v,y=.returned v/\CG B GG N [] ρs Q T (.tup 3<|L1 [.sl 1 (F l)<|AM AW l,.sl 2 (F t)<|AM Az t,.i 2]) [] v w') [{ target:=.fn (.func 38) #[],args:=#[u] },{ target:=.fn (.func 37) #[u,g],args:=#[] }] (.panicking<|pan H6) w0:=by
 refine Pf Z3 (λargs W=>HD Tryz.func38 Z5 Z5 args W) (by simp:#[u]++(#[]:υ μ)= #[u]) ?_;refine(zBr x.hr<|J.at 0).mono ?_;rintro e p w1 ⟨⟨v,rfl⟩,rfl,ρ1,r,f,K⟩;have s:=GD (Ϝ:=3) x.fr h r f K;have j:=GD (Ϝ:=3) J Z5 r f K;refine Pf (by simp[settle]) (λargs W=>HD Tryz.func37 Z5 Z5 args W) (by simp:(#[]:υ μ)++#[u,g]= #[u,g]) ?_;refine(zP0 c r (j.at 0)<|j.at 1).mono ?_;rintro e p w' ⟨⟨v,rfl⟩,rfl,ρ2,G,n,w⟩;exact qO (a0:=a0) (e:=2) k S m ((o.trans f).trans n) ⟨G,GD (Ϝ:=3) s h G n w⟩
def zPw(k:AO a<|.sl 1 (F l)<|AM AW l)(S:AO b<|.sl 2 (F t)<|AM Az t)(m:Ap B GG N [] ρs Q)(o:A8 [] ρs Q [oC [.i 0],oC [.i fuel],oC<|AG q] ρ0 w0)(h:(AF 39 [(6,a),(7,b),(8,.ref 0 0)]).all (CS 3)=T)(x:AS B GG N ⟨AF 39 [(6,a),(7,b),(8,.ref 0 0)],[oC [.i 0],oC [.i fuel],oC<|AG q]⟩ ρ0 a0 w0)(J:A3 (MS N [oC [.i 0],oC [.i fuel],oC<|AG q] ρ0) w0 ρ0 [.ref 0 0,.ref 1 0] #[u,g])(c:H (fuel>65536)=D):LeavesInM η 0 B Tryz.f19 a0.tmps (λy w'=>∃v,y=.returned v/\CG B GG N [] ρs Q T (.tup 3<|L1 [.sl 1 (F l)<|AM AW l,.sl 2 (F t)<|AM Az t,.i 220]) [] v w') [{ target:=.fn (.func 38) #[],args:=#[u] },{ target:=.fn (.func 37) #[u,g],args:=#[] }] (.panicking<|pan H6) w0:=by
 refine Pf Z3 (λargs W=>HD Tryz.func38 Z5 Z5 args W) (by simp:#[u]++(#[]:υ μ)= #[u]) ?_;refine(zBr x.hr<|J.at 0).mono ?_;rintro e p w1 ⟨⟨v,rfl⟩,rfl,ρ1,r,f,K⟩;have s:=GD (Ϝ:=3) x.fr h r f K;have j:=GD (Ϝ:=3) J Z5 r f K;refine Pf (by simp[settle]) (λargs W=>HD Tryz.func37 Z5 Z5 args W) (by simp:(#[]:υ μ)++#[u,g]= #[u,g]) ?_;refine(zPz c r (j.at 0)<|j.at 1).mono ?_;rintro e p w' ⟨⟨v,rfl⟩,rfl,ρ2,G,n,w⟩;exact qO (a0:=a0) (e:=220) k S m ((o.trans f).trans n) ⟨G,GD (Ϝ:=3) s h G n w⟩
def QD(fuel:E):X0->O Ξ×O Δ×E
 |none=>([],[],C (fuel>65536) 2 220)
 |some r=>(r.1,C r.2.2 [] r.2.1,0)
def Lf(n:U)(q:AA)(pos:Ξ)(fuel:E):A<|O Ξ×O Δ×E:=(Gb n q pos).bind λf=>L (f != 0) (Z ([],[],f))<|L (H<|fuel<0) (Z ([],[],1))<|L (H<|fuel>16777216) (Z ([],[],1))<|(NU n q pos 2<|C (65536<fuel) 65536 fuel).map<|QD fuel
variable{pos:Ξ}{n:U}
def zPu{a:X0}(As:Gb n q pos=Z 0)(c1:H (fuel<0)=D)(c2:H (fuel>16777216)=D)(hr:NU n q pos 2 (C (65536<fuel) 65536 fuel)=Z a)
     (k:AS B GG N ⟨AF 39 [(0,.agg 5<|L1<|AG q),(1,.ints pos),(2,.i fuel)],[]⟩ ρ0 a0 w0) (GC:a0.defers= []):
 (AZ Tryz.f19).wpIn η 0 B (bodyPostM η 0 B Tryz.f19 λe w'=>∃v,e=.returned v/\CG B GG N [] ρ0 w0 T (.tup 3<|L1 [.sl 1 (F<|(QD fuel a).1)<|AM AW<|(QD fuel a).1,.sl 2 (F<|(QD fuel a).2.1)<|AM Az<|(QD fuel a).2.1,.i (QD fuel a).2.2]) [] v w') a0 w0:=by
 refine zMT ?_;refine wr (Ϝ:=0) HC.x [1,3,5,6,7,8] [2,1,0] [] H0 H0 (AF 39 [(1,.ints pos),(3,.ref 2 0),(5,.ref 1 0),(6,.nils),(7,.nils),(8,.ref 0 0)]) ([oC [.i 0],oC [.i fuel],oC<|AG q]:DH) k Z5 Z5 λρ1 a1 w1 R1 BV EJ Cs=>?_
 refine zMT<|zMT ?_;refine wr (Ϝ:=0) HC.x [1,3,5,6,7,8,9] [0,1,2] [] (H0.c<|fb (ML As) [oC [.i 0],oC [.i fuel],oC<|AG q]) H0 (AF 39 [(1,.ints pos),(3,.ref 2 0),(5,.ref 1 0),(6,.nils),(7,.nils),(8,.ref 0 0),(9,.i 0)]) ([oC [.i 0],oC [.i fuel],oC<|AG q]:DH) R1 Z5 Z5 λρ2 a2 w2 R2 Et I2 KE=>?_
 refine zMT ?_;refine wr (Ϝ:=0) HC.x [1,3,5,6,7,8,9,17] [0,1,2] [] H0 H0 (AF 39 [(1,.ints pos),(3,.ref 2 0),(5,.ref 1 0),(6,.nils),(7,.nils),(8,.ref 0 0),(9,.i 0),(17,.bool D)]) ([oC [.i 0],oC [.i fuel],oC<|AG q]:DH) R2 Z5 Z5 λρ3 a3 w3 R3 D1 Yx Jc=>?_
 refine zOo (Be R3<|.tmp 17)<|zTM ?_;refine zMT<|zMT ?_;refine wr (Ϝ:=0) HC.x [1,3,5,6,7,8,24] [0,1,2] [] (H0.b 20 c1|>.b 23 c2) H0 (AF 39 [(1,.ints pos),(3,.ref 2 0),(5,.ref 1 0),(6,.nils),(7,.nils),(8,.ref 0 0),(24,.bool D)]) ([oC [.i 0],oC [.i fuel],oC<|AG q]:DH) R3 Z5 Z5 λρ4 a4 y h m Ji kp4=>?_
 refine zOo (Be h<|.tmp 24)<|zTM ?_;have h:AS B GG N ⟨AF 39 [(1,.ints pos),(3,.ref 2 0),(5,.ref 1 0),(6,.nils),(7,.nils),(8,.ref 0 0)],[oC [.i 0],oC [.i fuel],oC<|AG q]⟩ ρ4 a4 y:=h.forg [1,3,5,6,7,8] rfl Z5;have Bh:a4.tmps.size=39:=by simpa[AF]using h.fr.1.symm
 refine zMT<|sS (o0:=_) (o1:=_) rfl rfl rfl rfl rfl rfl rfl (by rw[Bh];decide) λa5 zS pS=>?_;have R5:=h.idle 25 zS Z5;refine zMT<|sR (o0:=_) rfl rfl rfl rfl λa6 oG K=>?_;have R6:AS B GG N ⟨AF 39 [(1,.ints pos),(3,.ref 2 0),(5,.ref 1 0),(6,.nils),(7,.nils),(8,.ref 0 0)],[oC [.i 0],oC [.i fuel],oC<|AG q]⟩ ρ4 a6 y:=⟨R5.hr,by rw[oG];exact R5.fr⟩;obtain⟨u,z⟩:∃x,x=a4.eval (.tmp 8):=⟨_,rfl⟩;obtain⟨G,zZ⟩:∃x,x=a4.eval (.tmp 5):=⟨_,rfl⟩;have J:a5.eval (.tmp 8)=u:=by rw[z];simp[Act.eval,zS]
 have K:a6.defers= [{ target:=.fn (.func 38) #[],args:=#[u] },{ target:=.fn (.func 37) #[u,G],args:=#[] }]:=by rw[K,pS,Ji,Yx,I2,EJ,GC,J,z,zZ];simp
 have F4:A3 (MS N [oC [.i 0],oC [.i fuel],oC<|AG q] ρ4) y ρ4 [.ref 0 0,.ref 1 0] #[u,G]:=⟨rfl,λj P=>match j,P with|0,_=>(by show AJ _ _ _ _ u;rw[z];exact h.fr.at 8)|1,_=>(by show AJ _ _ _ _ G;rw[zZ];exact h.fr.at 5)|j+2,P=>τ P Z3⟩;have m:=((BV.trans Et).trans D1).trans m;refine zMT ?_;cases a with
 |none=>
  refine sC (dst:=Z 31) (vP hr) [0,1,2,3] [5,6,7,8,9,10,11] 4 H0 (AF 39 [(6,.nils),(7,.nils),(8,.ref 0 0)]) [oC [.i 0],oC [.i fuel],oC<|AG q] R6 Z5 Z5 Z5 Z5 λρ7 S w7 g f LT W=>?_
  have s:=GD (Ϝ:=3) F4 Z5 g.hr f W
  show LeavesInM _ _ _ _ _ _ S.defers (.panicking<|pan H6) w7
  rw[LT,K];cases c:H (fuel>65536)with
  |true=>
   show LeavesInM η 0 B Tryz.f19 S.tmps (λQ w'=>∃v,Q=.returned v/\CG B GG N [] ρ0 w0 T (.tup 3<|L1 [.sl 1 (F ([]:O Ξ))<|AM AW ([]:O Ξ),.sl 2 (F ([]:O<|Δ))<|AM Az ([]:O<|Δ),.i<|C (fuel>65536) (2:E) 220]) [] v w') _ _ _
   rw[show C (fuel>65536) (2:E) 220=2 from zAB<|zM0 c];exact zPx (l:=[]) (t:=[]) (AO.sl_nil _ _) (AO.sl_nil _ _) k.hr (m.trans f) Z5 g s c
  |false=>
   show LeavesInM η 0 B Tryz.f19 S.tmps (λQ w'=>∃v,Q=.returned v/\CG B GG N [] ρ0 w0 T (.tup 3<|L1 [.sl 1 (F ([]:O Ξ))<|AM AW ([]:O Ξ),.sl 2 (F ([]:O<|Δ))<|AM Az ([]:O<|Δ),.i<|C (fuel>65536) (2:E) 220]) [] v w') _ _ _
   rw[show C (fuel>65536) (2:E) 220=220 from zAt<|of_decide_eq_false c];exact zPw (l:=[]) (t:=[]) (AO.sl_nil _ _) (AO.sl_nil _ _) k.hr (m.trans f) Z5 g s c
 |some r=>
  refine wr (Ϝ:=3) HC.x [6,7,8,10,11,12] [0,1,2] [] (H0.c<|fb (vQ hr) [oC [.i 0],oC [.i fuel],oC<|AG q]) H0 (AF 39 [(6,.nils),(7,.nils),(8,.ref 0 0),(10,.sl 1 (F r.1)<|AM AW r.1),(11,.sl 2 (F r.2.1)<|AM Az r.2.1),(12,.bool r.2.2)]) ([oC [.i 0],oC [.i fuel],oC<|AG q]:DH) R6 Z5 Z5 λρ7 S w7 g f LT W=>?_
  have s:=GD (Ϝ:=3) F4 Z5 g.hr f W;have f:=m.trans f;have LT:=LT.trans K;refine zMT<|zMT ?_;refine wr (Ϝ:=3) HC.x [6,7,8,10,11,35] [0,1,2] [] H0 H0 (AF 39 [(6,.nils),(7,.nils),(8,.ref 0 0),(10,.sl 1 (F r.1)<|AM AW r.1),(11,.sl 2 (F r.2.1)<|AM Az r.2.1),(35,.bool r.2.2)]) ([oC [.i 0],oC [.i fuel],oC<|AG q]:DH) g Z5 Z5 λρ8 a8 w8 I R w Uc=>?_
  have F8:=GD (Ϝ:=3) s Z5 I.hr R Uc;have w:=w.trans LT;cases c:r.2.2 with
  |true=>
   refine wpIn_cond_true ((show a8.eval (.tmp 35)=.bool r.2.2 from Be I<|.tmp 35).trans<|by rw[c]) ?_;refine zMT ?_;refine wr (Ϝ:=3) HC.x [6,7,8] [0,1,2] [] H0.t H0 (AF 39 [(6,.sl 1 (F r.1)<|AM AW r.1),(7,.nils),(8,.ref 0 0)]) ([oC [.i 0],oC [.i fuel],oC<|AG q]:DH) I Z5 Z5 λρ9 a9 X o p Y nW=>?_
   have F9:=GD (Ϝ:=3) F8 Z5 o.hr p nW;refine zTS ?_
   show LeavesInM _ _ _ _ _ _ a9.defers .returning X
   rw[Y,w];have e:QD fuel (Z r)=(r.1,([]:O<|Δ),0):=by show(r.1,C (r.2.2=T) [] r.2.1,(0:E))=_;rw[c];rfl
   rw[e];exact zAr (l:=r.1) (t:=([]:O<|Δ)) (AO.of_eq Z5) (AO.sl_nil _ _) k.hr ((f.trans R).trans p) Z5 o F9
  |false=>
   refine zOo ((show a8.eval (.tmp 35)=.bool r.2.2 from Be I<|.tmp 35).trans<|by rw[c]) ?_;refine zTM<|zMT ?_;refine wr (Ϝ:=3) HC.x [6,7,8] [0,1,2] [] H0.t H0 (AF 39 [(6,.sl 1 (F r.1)<|AM AW r.1),(7,.sl 2 (F r.2.1)<|AM Az r.2.1),(8,.ref 0 0)]) ([oC [.i 0],oC [.i fuel],oC<|AG q]:DH) I Z5 Z5 λρ9 a9 X o p Y nW=>?_
   have F9:=GD (Ϝ:=3) F8 Z5 o.hr p nW;refine zTS ?_
   show LeavesInM _ _ _ _ _ _ a9.defers .returning X
   rw[Y,w];have e:QD fuel (Z r)=(r.1,r.2.1,0):=by show(r.1,C (r.2.2=T) [] r.2.1,(0:E))=_;rw[c];rfl
   rw[e];exact zAr (l:=r.1) (t:=r.2.1) (AO.of_eq Z5) (AO.of_eq Z5) k.hr ((f.trans R).trans p) Z5 o F9
def Za(n:U)(q:AA)(pos:Ξ)(fuel:E):A<|(O Ξ)×(O<|Δ)×E:=(Gb n q pos).bind λf=>L (f != 0) (Z (([]:O Ξ),([]:O<|Δ),f))<|L (H<|fuel<0) (Z (([]:O Ξ),([]:O<|Δ),1))<|L (H<|fuel>16777216) (Z (([]:O Ξ),([]:O<|Δ),1)) V
def Zb(n:U)(q:AA)(pos:Ξ)(fuel:E):A<|(O Ξ)×(O<|Δ)×E:=Za n q pos fuel
def qP{r:(O Ξ)×(O<|Δ)×E}(h:Zb n q pos fuel=Z r):EQ 19 [.agg 5<|L1<|AG q,.ints pos,.i fuel] [] (.tup 3<|L1 [.sl 1 (F r.1)<|AM AW r.1,.sl 2 (F r.2.1)<|AM Az r.2.1,.i r.2.2]) [] T:=by
 unfold Zb Za at h;refine ot Tryz.func19 λϙ N=>?_
 revert r;apply gO;exact cf ML [oC<|AG q,oC [.i fuel],oC [.i 0]] λf=>bi 17 (jt<|lF λp=>el AC [6,7,8] [2] p [] H0 [.nils,.nils,.i f]<|AO.tupL (l:=[.nils,.nils,.i f]) (l':=[.sl 1 (F ([]:O Ξ))<|AM AW ([]:O Ξ),.sl 2 (F ([]:O<|Δ))<|AM Az ([]:O<|Δ),.i f]) rfl ⟨AO.sl_nil _ _,AO.sl_nil _ _,At,trivial⟩)<|bi 20 (jt<|lF λp=>el AC [6,7,8] [2] p [] H0 [.nils,.nils,.i 1]<|AO.tupL (l:=[.nils,.nils,.i 1]) (l':=[.sl 1 (F ([]:O Ξ))<|AM AW ([]:O Ξ),.sl 2 (F ([]:O<|Δ))<|AM Az ([]:O<|Δ),.i 1]) rfl ⟨AO.sl_nil _ _,AO.sl_nil _ _,At,trivial⟩)<|bi 23 (jt<|lF λp=>el AC [6,7,8] [2] p [] H0 [.nils,.nils,.i 1]<|AO.tupL (l:=[.nils,.nils,.i 1]) (l':=[.sl 1 (F ([]:O Ξ))<|AM AW ([]:O Ξ),.sl 2 (F ([]:O<|Δ))<|AM Az ([]:O<|Δ),.i 1]) rfl ⟨AO.sl_nil _ _,AO.sl_nil _ _,At,trivial⟩) nO
def M1{r:O Ξ×O Δ×E}(h:Lf n q pos fuel=Z r):EQ 19 [.agg 5<|L1<|AG q,.ints pos,.i fuel] [] (.tup 3<|L1 [.sl 1 (F r.1)<|AM AW r.1,.sl 2 (F r.2.1)<|AM Az r.2.1,.i r.2.2]) [] T:=by
 unfold Lf at h;obtain⟨f,P,h⟩:=D4 h;rcases Bv h with⟨S,h⟩|⟨S,h⟩
 ·refine qP (n:=n) ?_;unfold Zb Za;rw[P,zAD,S,zAI];exact h
 rcases Bv h with⟨W,h⟩|⟨W,h⟩
 ·refine qP (n:=n) ?_;unfold Zb Za;rw[P,zAD,S,zAJ,W,zAI];exact h
 rcases Bv h with⟨s,h⟩|⟨s,h⟩
 ·refine qP (n:=n) ?_;unfold Zb Za;rw[P,zAD,S,zAJ,W,zAJ,s,zAI];exact h
 obtain⟨out,a,rfl⟩:=zMb.1 h;have e0:f=0:=by simpa using S
 subst e0;have b:(Tryz.f19.name== "runtime.NumGoroutine")=D:=Z5
 refine⟨⟨Tryz.f19,Tryz.func19,by simpa using b,Z5⟩,λN ρ w args HR u=>(zTC (n:=0)).1<|zTd (c:=AZ Tryz.f19) Tryz.func19 Z5 trivial ?_⟩;refine zPu P W s a (N:=N) (ρ0:=ρ) ⟨HR,?_⟩ rfl;have p:F ([.agg 5<|L1<|AG q,.ints pos,.i fuel]:O DV)=args.size:=u.1;have e:([.agg 5<|L1<|AG q,.ints pos,.i fuel]:O DV)++d (Tryz.f19.ntmps-F ([.agg 5<|L1<|AG q,.ints pos,.i fuel]:O DV)) .any=AF 39 [(0,.agg 5<|L1<|AG q),(1,.ints pos),(2,.i fuel)]:=Z5
 rw[←e,p];exact A3.append u<|A3.anys _ _ _ _
variable{m:E}
def yM(n:AO a<|.i m)(J:Ap B GG N [] ρs Q)(b:A8 [] ρs Q [oC [.i e],oC<|AG q] ρ0 w0)(x:AS B GG N ⟨AF 45 [(8,a),(9,.ref 0 0)],[oC [.i e],oC<|AG q]⟩ ρ0 a0 w0):LeavesInM η 0 B Tryz.f29 a0.tmps (λy w'=>∃v,y=.returned v/\CG B GG N [] ρs Q T (.tup 2<|L1 [.i m,.i e]) [] v w') [] .returning w0:=by
 obtain⟨v,c,f⟩:=OH (fn:=Tryz.f29) x J b [] H0 [a,.i e] (AO.tupL (l:=[a,.i e]) (l':=[.i m,.i e]) rfl ⟨n,At,trivial⟩) Z5 Z5;exact⟨v,c,v,rfl,f⟩
def zKc(n:AO a<|.i m)(J:Ap B GG N [] ρs Q)(b:A8 [] ρs Q [oC [.i 0],oC<|AG q] ρ0 w0)(CM:(AF 45 [(8,a),(9,.ref 0 0)]).all (CS 2)=T)(x:AS B GG N ⟨AF 45 [(8,a),(9,.ref 0 0)],[oC [.i 0],oC<|AG q]⟩ ρ0 a0 w0)(F0:A3 (MS N [oC [.i 0],oC<|AG q] ρ0) w0 ρ0 [.ref 0 0] #[u]):LeavesInM η 0 B Tryz.f29 a0.tmps (λy w'=>∃v,y=.returned v/\CG B GG N [] ρs Q T (.tup 2<|L1 [.i m,.i 0]) [] v w') [{ target:=.fn (.func 38) #[],args:=#[u] }] .returning w0:=by
 refine Pf Z3 (λargs W=>HD Tryz.func38 Z5 Z5 args W) (by simp:#[u]++(#[]:υ μ)= #[u]) ?_;refine(zBq u w0).mono ?_;rintro e u' w1 ⟨⟨v,rfl⟩,rfl,rfl⟩;exact yM (a0:=a0) (e:=0) n J b x
def zKd(n:AO a<|.i m)(J:Ap B GG N [] ρs Q)(c:A8 [] ρs Q [oC [.i 0],oC<|AG q] ρ0 w0)(f:(AF 45 [(8,a),(9,.ref 0 0)]).all (CS 2)=T)(x:AS B GG N ⟨AF 45 [(8,a),(9,.ref 0 0)],[oC [.i 0],oC<|AG q]⟩ ρ0 a0 w0)(g:A3 (MS N [oC [.i 0],oC<|AG q] ρ0) w0 ρ0 [.ref 0 0] #[u]):LeavesInM η 0 B Tryz.f29 a0.tmps (λy w'=>∃v,y=.returned v/\CG B GG N [] ρs Q T (.tup 2<|L1 [.i m,.i 220]) [] v w') [{ target:=.fn (.func 38) #[],args:=#[u] }] (.panicking<|pan H6) w0:=by
 refine Pf Z3 (λargs W=>HD Tryz.func38 Z5 Z5 args W) (by simp:#[u]++(#[]:υ μ)= #[u]) ?_;refine(zRy x.hr<|g.at 0).mono ?_;rintro e u' w1 ⟨⟨v,rfl⟩,rfl,ρ1,r,b,K⟩;have h:=GD (Ϝ:=2) x.fr f r b K;exact yM (a0:=a0) (e:=220) n J (c.trans b) ⟨r,h⟩
def nG:X0->Δ
 |none=>(0,220)
 |some r=>((F r.1:E),0)
def YA(n:U)(q:AA)(pos:Ξ)(most fuel:E):A Δ:=(Gb n q pos).bind λf=>L (f != 0) (Z (0,f))<|L (H<|most<1) (Z (0,1))<|L (H<|most>65536) (Z (0,1))<|L (H<|fuel<0) (Z (0,1))<|L (H<|fuel>16777216) (Z (0,1))<|(NU n q pos most fuel).map nG
variable{most:E}
def zKb{a:X0}(X:Gb n q pos=Z 0)(Y:H (most<1)=D)(c4:H (most>65536)=D)(c1:H (fuel<0)=D)(c2:H (fuel>16777216)=D)(w:NU n q pos most fuel=Z a)
     (l:AS B GG N ⟨AF 45 [(0,.agg 5<|L1<|AG q),(1,.ints pos),(2,.i most),(3,.i fuel)],[]⟩ ρ0 a0 w0) (GC:a0.defers= []):
 (AZ Tryz.f29).wpIn η 0 B (bodyPostM η 0 B Tryz.f29 λe w'=>∃v,e=.returned v/\CG B GG N [] ρ0 w0 T (.tup 2<|L1 [.i (nG a).1,.i (nG a).2]) [] v w') a0 w0:=by
 refine zMT ?_;refine wr (Ϝ:=0) HC.x [1,2,3,4,8,9] [1,0] [] H0 H0 (AF 45 [(1,.ints pos),(2,.i most),(3,.i fuel),(4,.ref 1 0),(8,.i 0),(9,.ref 0 0)]) ([oC [.i 0],oC<|AG q]:DH) l Z5 Z5 λρ1 a1 w1 R1 BV EJ Cs=>?_
 refine zMT<|zMT ?_;refine wr (Ϝ:=0) HC.x [1,2,3,4,8,9,10] [0,1] [] (H0.c<|fb (ML X) [oC [.i 0],oC<|AG q]) H0 (AF 45 [(1,.ints pos),(2,.i most),(3,.i fuel),(4,.ref 1 0),(8,.i 0),(9,.ref 0 0),(10,.i 0)]) ([oC [.i 0],oC<|AG q]:DH) R1 Z5 Z5 λρ2 a2 w2 R2 Et I2 KE=>?_
 refine zMT ?_;refine wr (Ϝ:=0) HC.x [1,2,3,4,8,9,10,18] [0,1] [] H0 H0 (AF 45 [(1,.ints pos),(2,.i most),(3,.i fuel),(4,.ref 1 0),(8,.i 0),(9,.ref 0 0),(10,.i 0),(18,.bool D)]) ([oC [.i 0],oC<|AG q]:DH) R2 Z5 Z5 λρ3 a3 w3 y D1 Yx Jc=>?_
 refine zOo (Be y<|.tmp 18)<|zTM ?_;refine zMT<|zMT ?_;refine wr (Ϝ:=0) HC.x [1,2,3,4,8,9,33] [0,1] [] (H0.b 21 Y|>.b 24 c4|>.b 28 c1|>.b 32 c2) H0 (AF 45 [(1,.ints pos),(2,.i most),(3,.i fuel),(4,.ref 1 0),(8,.i 0),(9,.ref 0 0),(33,.bool D)]) ([oC [.i 0],oC<|AG q]:DH) y Z5 Z5 λρ4 a4 o h k Ji kp4=>?_
 refine zOo (Be h<|.tmp 33)<|zTM ?_;have h:AS B GG N ⟨AF 45 [(1,.ints pos),(2,.i most),(3,.i fuel),(4,.ref 1 0),(8,.i 0),(9,.ref 0 0)],[oC [.i 0],oC<|AG q]⟩ ρ4 a4 o:=h.forg [1,2,3,4,8,9] rfl Z5;refine zMT<|sR (o0:=_) rfl rfl rfl rfl λz oG K=>?_;have G:AS B GG N ⟨AF 45 [(1,.ints pos),(2,.i most),(3,.i fuel),(4,.ref 1 0),(8,.i 0),(9,.ref 0 0)],[oC [.i 0],oC<|AG q]⟩ ρ4 z o:=⟨h.hr,by rw[oG];exact h.fr⟩;obtain⟨u,I⟩:∃x,x=a4.eval (.tmp 9):=⟨_,rfl⟩;have K:z.defers= [{ target:=.fn (.func 38) #[],args:=#[u] }]:=by rw[K,Ji,Yx,I2,EJ,GC,I]
 have R:A3 (MS N [oC [.i 0],oC<|AG q] ρ4) o ρ4 [.ref 0 0] #[u]:=⟨rfl,λj p=>match j,p with|0,_=>(by show AJ _ _ _ _ u;rw[I];exact h.fr.at 9)|j+1,p=>τ p Z3⟩;have k:=((BV.trans Et).trans D1).trans k;refine zMT ?_;cases a with
 |none=>
  refine sC (dst:=Z 39) (vP w) [0,1,2,3] [5,6,7,8,9,10,11] 4 H0 (AF 45 [(8,.i 0),(9,.ref 0 0)]) [oC [.i 0],oC<|AG q] G Z5 Z5 Z5 Z5 λρ7 S J g f LT W=>?_
  have s:=GD (Ϝ:=2) R Z5 g.hr f W
  show LeavesInM _ _ _ _ _ _ S.defers (.panicking<|pan H6) J
  rw[LT,K];exact zKd (m:=0) At l.hr (k.trans f) Z5 g s
 |some r=>
  refine wr (Ϝ:=2) HC.x [8,9,11] [0,1] [] (H0.c<|fb (vQ w) [oC [.i 0],oC<|AG q]) H0 (AF 45 [(8,.i 0),(9,.ref 0 0),(11,.sl 1 (F r.1)<|AM AW r.1)]) ([oC [.i 0],oC<|AG q]:DH) G Z5 Z5 λρ7 S J g f LT W=>?_
  have s:=GD (Ϝ:=2) R Z5 g.hr f W;have f:=k.trans f;have LT:=LT.trans K;refine zMT ?_;refine wr (Ϝ:=2) HC.x [8,9] [0,1] [] H0.t H0 (AF 45 [(8,.i (F r.1:E)),(9,.ref 0 0)]) ([oC [.i 0],oC<|AG q]:DH) g Z5 Z5 λρ8 a8 w8 P Q U8 Uc=>?_
  have F8:=GD (Ϝ:=2) s Z5 P.hr Q Uc;refine zTS ?_
  show LeavesInM _ _ _ _ _ _ a8.defers .returning w8
  rw[U8,LT];exact zKc (m:=(F r.1:E)) At l.hr (f.trans Q) Z5 P F8
def Ra(n:U)(q:AA)(pos:Ξ)(most fuel:E):A Δ:=(Gb n q pos).bind λf=>L (f != 0) (Z (0,f))<|L (H<|most<1) (Z (0,1))<|L (H<|most>65536) (Z (0,1))<|L (H<|fuel<0) (Z (0,1))<|L (H<|fuel>16777216) (Z (0,1)) V
def Rb(n:U)(q:AA)(pos:Ξ)(most fuel:E):A Δ:=Ra n q pos most fuel
variable{r:Δ}
def YB(h:Rb n q pos most fuel=Z r):EQ 29 [.agg 5<|L1<|AG q,.ints pos,.i most,.i fuel] [] (.tup 2<|L1 [.i r.1,.i r.2]) [] T:=by
 unfold Rb Ra at h;refine ot Tryz.func29 λϙ N=>?_
 revert r;apply gO;exact cf ML [oC<|AG q,oC [.i 0]] λ_=>bi 18 (jt<|lE AC [8,9] [1])<|bi 21 (jt<|lE AC [8,9] [1])<|bi 24 (jt<|lE AC [8,9] [1])<|bi 28 (jt<|lE AC [8,9] [1])<|bi 32 (jt<|lE AC [8,9] [1]) nO
def RY(h:YA n q pos most fuel=Z r):EQ 29 [.agg 5<|L1<|AG q,.ints pos,.i most,.i fuel] [] (.tup 2<|L1 [.i r.1,.i r.2]) [] T:=by
 unfold YA at h;obtain⟨f,P,h⟩:=D4 h;rcases Bv h with⟨S,h⟩|⟨S,h⟩
 ·refine YB (n:=n) ?_;unfold Rb Ra;rw[P,zAD,S,zAI];exact h
 rcases Bv h with⟨W,h⟩|⟨W,h⟩
 ·refine YB (n:=n) ?_;unfold Rb Ra;rw[P,zAD,S,zAJ,W,zAI];exact h
 rcases Bv h with⟨s,h⟩|⟨s,h⟩
 ·refine YB (n:=n) ?_;unfold Rb Ra;rw[P,zAD,S,zAJ,W,zAJ,s,zAI];exact h
 rcases Bv h with⟨I,h⟩|⟨I,h⟩
 ·refine YB (n:=n) ?_;unfold Rb Ra;rw[P,zAD,S,zAJ,W,zAJ,s,zAJ,I,zAI];exact h
 rcases Bv h with⟨a,h⟩|⟨a,h⟩
 ·refine YB (n:=n) ?_;unfold Rb Ra;rw[P,zAD,S,zAJ,W,zAJ,s,zAJ,I,zAJ,a,zAI];exact h
 obtain⟨out,b,rfl⟩:=zMb.1 h;have e0:f=0:=by simpa using S
 subst e0;have g:(Tryz.f29.name== "runtime.NumGoroutine")=D:=Z5
 refine⟨⟨Tryz.f29,Tryz.func29,by simpa using g,Z5⟩,λN ρ w args HR u=>(zTC (n:=0)).1<|zTd (c:=AZ Tryz.f29) Tryz.func29 Z5 trivial ?_⟩;refine zKb P W s I a b (N:=N) (ρ0:=ρ) ⟨HR,?_⟩ rfl;have p:F ([.agg 5<|L1<|AG q,.ints pos,.i most,.i fuel]:O DV)=args.size:=u.1;have e:([.agg 5<|L1<|AG q,.ints pos,.i most,.i fuel]:O DV)++d (Tryz.f29.ntmps-F ([.agg 5<|L1<|AG q,.ints pos,.i most,.i fuel]:O DV)) .any=AF 45 [(0,.agg 5<|L1<|AG q),(1,.ints pos),(2,.i most),(3,.i fuel)]:=Z5
 rw[←e,p];exact A3.append u<|A3.anys _ _ _ _
end
abbrev HR:=O Ξ×O Δ×ζ
def FH(most:E):O BU->O Ξ->O Δ->HR
 |[],gs,t=>(gs,t,D)
 |x::l,gs,t=>C (x.1.1=4) (C ((F<|gs++[x.2]:E)=most) (gs++[x.2],t++[x.1],T)<|FH most l (gs++[x.2])<|t++[x.1])<|FH most l gs<|t++[x.1]
def hst(fuel:E)(f:U)(gs:O Ξ)(t:O<|Δ):IE:=C (gs= []) (C (t= []) .s0<|.s1 (f:E) (F t) t)<|.s2 (f:E) (F gs) (F t) D gs t
theorem fu{most:E}:∀(l:O BU) (gs:O Ξ) (t:O<|Δ),F t<=F (FH most l gs t).2.1/\(l≠[]->F t<F (FH most l gs t).2.1)
 |[],gs,t=>⟨zAf _,λh=>τ rfl h⟩
 |x::l,gs,t=>by
  have h1:=(fu (most:=most) l (gs++[x.2])<|t++[x.1]).1;have h2:=(fu (most:=most) l gs<|t++[x.1]).1
  grind[FH]
section
variable{n:U}{most fuel:E}{f:U}{gs:O Ξ}{t:O Δ}{x:BU}
def stp(fuel most:E)(x:BU)(gs:O Ξ)(t:O<|Δ):U->IE×U
 |0=>(hst fuel 0 gs t,2)
 |f+1=>C (x.1.1=4) (C ((F<|gs++[x.2]:E)=most) (.s2 (f:E) (F<|gs++[x.2]) (F<|t++[x.1]) T (gs++[x.2])<|t++[x.1],1) (hst fuel f (gs++[x.2])<|t++[x.1],0)) (hst fuel f gs<|t++[x.1],0)
def uI:stp fuel most x gs t (f+1)=C (x.1.1=4) (C ((F<|gs++[x.2]:E)=most) (.s2 (f:E) (F<|gs++[x.2]) (F<|t++[x.1]) T (gs++[x.2])<|t++[x.1],1) (hst fuel f (gs++[x.2])<|t++[x.1],0)) (hst fuel f gs<|t++[x.1],0):=rfl
theorem zHX:J8 n most fuel x .s0=lj n most fuel x:=rfl
variable{b:U}{a:E}
theorem zHW{c:O Δ}:J8 n most fuel x (.s1 a b c)=li n most fuel x a b c:=rfl
theorem zHV{c:U}{Ϛ:ζ}{u:O Ξ}{v:O Δ}:J8 n most fuel x (.s2 a b c Ϛ u v)=lh n most fuel x a b c Ϛ u v:=rfl
theorem zU:hst fuel f [] []=.s0:=rfl
theorem oK(h:t≠[]):hst fuel f [] t=.s1 (f:E) (F t) t:=by simp_all[hst]
theorem oJ(h:gs≠[]):hst fuel f gs t=.s2 (f:E) (F gs) (F t) D gs t:=by unfold hst;rw[zAt h]
theorem zHJ(hf:f<=16777216)(ht:F t<=16777216)(hg:F gs<=F t)(h0:t= []->(f:E)=fuel):J8 n most fuel x (hst fuel f gs t)=Z (stp fuel most x gs t f):=by
 have Ϝ:(1000000000000:U)=Av:=rfl;have b:t++[x.1]≠[]:=Z3
 have a:gs++[x.2]≠[]:=Z3
 cases f with
 |zero=>
  show _=Z (hst fuel 0 gs t,2)
  by_cases c:gs= []
  ·subst c
   by_cases s:t= []
   ·subst s;have v:=h0 rfl;subst v;rfl
   ·rw[oK s];rfl
  ·rw[oJ c];rfl
 |succ f=>
  have r1:AI<|((f+1:U):E)-1:=Ae.2 ⟨Z2,Z2⟩;have r2:((f+1:U):E)-1=(f:E):=Z2
  have b1:(((f+1:U):E)==0)=D:=zMS.2 Z2;rw[uI,oJ (f:=f) a]
  by_cases c:gs= []
  ·subst c;rw[oK (f:=f) b]
   by_cases s:t= []
   ·subst s;have v:=h0 rfl
    grind[zU,zHX,lj]
   grind[oK,zHW,li]
  grind[oJ,zHV,lh]
theorem vU:∀(l:O BU) {f:U} {gs:O Ξ} {t:O Δ},f<=16777216->F t+f<=16777216->F gs<=F t->(t= []->(f:E)=fuel)->
 (C7 (J8 n most fuel) l<|hst fuel f gs t).bind O3=Z (C (F (FH most l gs t).2.1<=F t+f) (Z<|FH most l gs t) V)
 |[],f,gs,t,g,y,s,h0=>by
  show O3 (hst fuel f gs t,0)=_
  rw[show FH most [] gs t=(gs,t,D)from rfl,zAB Z3]
  grind[hst,O3,lf]
 |x::l,f,gs,t,g,y,s,h0=>by
  have hl:=fu (most:=most) (x::l) gs t;rw[show C7 (J8 n most fuel) (x::l) (hst fuel f gs t)=(J8 n most fuel x<|hst fuel f gs t).bind λr=>L (r.2==0) (C7 (J8 n most fuel) l r.1) (Z r)from rfl,zHJ g Z2 s h0,zAD];cases f with
  |zero=>
   simp_all[stp,O3]
  |succ f=>
   have b:=λ(a:O Ξ) (hg':F a<=F t+1)=>vU l (f:=f) (gs:=a) (t:=t++[x.1]) Z2 Z4 Z4 λh=>by simp at h
   have e:F (t++[x.1])+f=F t+(f+1):=Z4
   rw[e]at b;rw[uI]
   by_cases R:x.1.1=4
   ·rw[zAB R]
    grind[FH,O3,lf]
   ·rw[zAt R];have eh:FH most (x::l) gs t=FH most l gs (t++[x.1]):=by rw[FH,zAt R]
    grind
def PQ(most:E)(l:O BU)(f:U):A HR:=C (F (FH most l [] []).2.1<=f) (Z<|FH most l [] []) V
theorem zHO{q:AA}{p:Ξ}{l:O BU}(h:Ev (λn=>PZ n q p) l){f:U}(g:f<=16777216):Ev (λn=>NU n q p most (f:E))<|PQ most l f:=by
 obtain⟨N,hN⟩:=h;refine⟨N,λn hn=>?_⟩
 show(PZ n q p).bind _=_
 have:=vU (n:=n) (most:=most) (fuel:=(f:E)) l (f:=f) (gs:=[]) (t:=[]) g (by simpa using g) Z3 λ_=>rfl
 grind[zU,PQ]
def zPv{q:AA}{p:Ξ}{l:O BU}(a:BC q p)(h:Ev (λn=>PZ n q p) l){f:U}(hf:f<=65536):Ev (λn=>Lf n q p (f:E)) (match PQ 2 l f with|none=>([],[],220)|some r=>(r.1,C r.2.2 [] r.2.1,0)):=by
 obtain⟨ϗ,b⟩:=mU a.fit<|zAO a.len256.2 Z6;obtain⟨N,I⟩:=zHO (most:=2) h (f:=f) Z2;rw[a.check]at b;refine⟨max ϗ N,λn hn=>?_⟩
 show(Gb n q p).bind _=_
 rw[show Gb n q p=Z 0 from b n Z2,zAD];rw[zAF Z2,zAJ,zAF Z2,zAJ,zAt Z2,show NU n q p 2 (f:E)=_ from I n Z2];cases PQ 2 l f with
 |none=>show Z ([],[],C ((f:E)>65536) (2:E) 220)=_;rw[zAt Z2]
 |some r=>rfl
end
section
variable{q:AA}{i:E}{g pos x:Ξ}
def WI(g p:Ξ):Prop:=F g=F p/\∀j,j<F g->(0<=M g j 0/\M g j 0<=15)/\tb (M p j 0) (M g j 0).toNat=T
def sO(G:Gd q g)(o:CR q=T):(∀j s,tb (M (Ax g) j 0) s=T->tb (M pos j 0) s=T)↔∀j,j<F g->tb (M pos j 0) (M g j 0).toNat=T:=by
 constructor
 ·intro h j a;exact h j _ (by rw[To G o a,zAA rfl])
 ·intro h j s l
  by_cases a:j<F g
  ·rw[To G o a,zB0]at l;subst l;exact h j a
  ·rw[zAL,zOV<|by rw[Fh];omega]at l;exact τ l JI
def zEW(ϛ:Bx q i pos)(G:Gd q g)(l:B3 q (con q i) g)(N:WI g pos)(e:PR q (con q i) pos x):WI g x:=by
 have Y:=G.ctx ϛ.fit ϛ.valid ϛ.i0 ϛ.i1;have:=wl ϛ Y ((sO G ϛ.valid).2 λj a=>(N.2 j a).2) e<|((yB Y G).1 l).2;have c:=(sO G ϛ.valid).1 this;exact⟨by rw[e.len];exact N.1,λj a=>⟨(N.2 j a).1,c j a⟩⟩
end
abbrev zTu:=@List.getElem?_replicate
section
variable{q:AA}{pos p g:Ξ}
def WI.alive(h:WI g p)(a:∀j,j<F p->CO (M p j 0)):BM p=D:=
 Fb.2 λj b=>(GV<|a j b).2 ⟨(M g j 0).toNat,by have:=(h.2 j (by have:=h.1;omega)).1;omega,(h.2 j (by have:=h.1;omega)).2⟩
def rq(h:0<F p){n:U}:¬WI g (d n 0)∨n=0:=by
 by_cases s:n=0
 ·exact .inr s
 ·refine .inl λN=>?_
  have a:=N.1;rw[zKR]at a;have:=(N.2 0 Z2).2
  have e:M (d n (0:E)) 0 0=0:=by
   rw[zAL,zTu];split <;> rfl
  rw[e]at this;exact τ this JI
def zDD(o:CR q=T)(e:posOk q p=T){c s:U}(hc:c<F p)(l:s<q.sy.toNat):WI g (Fl p c s)↔WI g p/\(M g c 0).toNat=s:=by
 obtain⟨Aj,DQ⟩:=(MK o).1 e;obtain⟨R,K⟩:=g9 o e hc l
 have i:WI g (H4 p c s)↔WI g p/\(M g c 0).toNat=s:=by
  constructor
  ·intro h;have b:=h.1;rw[R]at b;have key:=λj (a:j<F g)=>(h.2 j a).2
   refine⟨⟨b,λj a=>⟨(h.2 j a).1,?_⟩⟩,?_⟩
   ·have:=key j a;rw[(K j Z2).2,zAK]at this;exact this.1
   ·have:=key c Z2;rw[(K c hc).2,zAK]at this;simpa using this.2
  ·rintro⟨h,l⟩;have b:=h.1;refine⟨by rw[R];exact b,λj a=>⟨(h.2 j a).1,?_⟩⟩;rw[(K j Z2).2,(h.2 j a).2,zOA]
   by_cases f:j=c
   ·subst f;rw[zAA l,Bool.or_true]
   ·simp[f]
 rw[←i];unfold Fl;cases r:BM (H4 p c s)with
 |false=>rfl
 |true=>
  rw[zAB rfl];refine⟨λh=>?_,λh=>?_⟩
  ·rcases rq (g:=g) (p:=p) Z2 (n:=F p)with h0|h0
   ·exact τ h h0
   ·omega
  ·have:=h.alive λj a=>(K j Z2).1
   rw[r]at this;cases this
def zDC{i:E}{x:Ξ}(ϛ:Bx q i p)(s:MP q g)(e:PR q (con q i) p x):WI g x↔WI g p:=by
 constructor
 ·intro h;have a:=h.1;rw[e.len]at a;exact⟨a,λj b=>⟨(h.2 j b).1,(e.sub (h.2 j b).2).2⟩⟩
 ·exact λh=>zEW ϛ s.1 (s.2 i ϛ.i0 ϛ.i1) h e
def bu:∀{p g:Ξ},Eh p=Z g->∀j,j<F p->∃s:U,B4 (M p j 0) 0= [s]/\M g j 0=(s:E)
 |[],_,_,j,a=>by simp at a
 |x::p,g,h,j,a=>by
  unfold Eh at h;split at h
  ·rename_i s l;obtain⟨r,i,rfl⟩:=zMb.1 h;cases j with
   |zero=>exact⟨s,by simpa using l,rfl⟩
   |succ j=>
    have:=bu i j (by simpa using a);simpa using this
  ·cases h
def uf(o:CR q=T)(b:posOk q p=T){J:Ξ}(l:Eh p=Z J)(h:WI g p):g=J/\p=Ax g:=by
 obtain⟨Aj,P⟩:=(MK o).1 b;obtain⟨_,Ya,_⟩:=Dy o;have hl:=Tq l;have h1:=h.1
 have key:∀j,j<F p->B4 (M p j 0) 0= [(M g j 0).toNat]/\M g j 0=M J j 0:=λj a=>by
  obtain⟨s,y,K⟩:=bu l j a;have c:=h.2 j Z2;have:(M g j 0).toNat∈B4 (M p j 0) 0:=IS.2 ⟨Z2,c.2⟩;rw[y,zCr]at this;exact⟨by rw[y,this],by rw[K];omega⟩
 refine⟨zOC Z2 λj c k=>?_,zOC (by rw[Fh];omega) λj c k=>?_⟩
 ·have:=(key j Z2).2;simpa[zAL,c,k]using this
 ·have a:j<F p:=c;have y:p[j]=M p j 0:=by simp[c]
  have K:(Ax g)[j]=M (Ax g) j 0:=by simp[k]
  have h4:=(h.2 j Z2).1;rw[y,K,Tp Z2];refine L3 ((P j a).in64 Z2) (TK _) λt ht=>?_
  rw[JH Z2]
  by_cases e:t<16
  ·have:tb (M p j 0) t=H (t∈B4 (M p j 0) 0):=by
    rw[zMq,zB0,IS];exact⟨λh=>⟨e,h⟩,λh=>h.2⟩
   rw[this,(key j a).1,zTa,zCr];exact eq_comm
  ·rw[(P j a).hi Z2,zAF Z2]
def zEv(hv:CR q=T)(hp:posOk q p=T)(l:Eh p=Z g):WI g p:=by
 have m:=Tq l;refine⟨m,λj hj=>?_⟩;obtain⟨s,y,K⟩:=bu l j Z2;have:s∈B4 (M p j 0) 0:=by rw[y];exact zCr.2 rfl
 have:=IS.1 this;rw[K];exact⟨Z2,by rw[u8];exact this.2⟩
end
abbrev zTk:=@Nat.mul_assoc
def Dh(l:O BU):O Ξ:=(l.filter λy=>y.1.1==4).map (·.2)
def QM{a b:O BU}:Dh (a++b)=Dh a++Dh b:=by unfold Dh;rw[zTF,zTm]
def Se:∀o:Ξ,Dh (o.map IM)= []
 |[]=>rfl
 |_::o=>Se o
def zQR{y:BU}{l:O BU}:Dh (y::l)=C (y.1.1=4) (y.2::Dh l) (Dh l):=by
 unfold Dh;rw[zSI]
 by_cases h:y.1.1=4
 ·rw[zAB h,zAB<|by simpa using h];rfl
 ·rw[zAt h,zAt<|by simpa using h]
def oD{k:U}:∀(l:O BU) (gs:O Ξ) (t:O<|Δ),F gs<k->(FH (k:E) l gs t).1=gs++(Dh l).take (k-F gs)/\(FH (k:E) l gs t).2.2=H (k<=F gs+F (Dh l))/\F (FH (k:E) l gs t).2.1<=F t+F l
 |[],gs,t,h=>by
  refine⟨?_,?_,zAf _⟩
  ·show gs=gs++([]:O Ξ).take _
   simp
  ·exact(zAF<|by simp[Dh];omega).symm
 |y::l,gs,t,h=>by
  rw[zQR];unfold FH;have e0:F (gs++[y.2])=F gs+1:=Z3
  by_cases R:y.1.1=4
  ·rw[zAB R,zAB R]
   by_cases X:(F<|gs++[y.2]:E)=(k:E)
   ·rw[zAB X];have e:k-F gs=1:=Z2
    refine⟨by rw[e];rfl,(zAA Z7).symm,Z3⟩
   ·rw[zAt X];obtain⟨c,f,N⟩:=oD (k:=k) l (gs++[y.2]) (t++[y.1]) Z2;have e:k-F gs=(k-F (gs++[y.2]))+1:=Z2
    refine⟨by rw[c,e,List.take_succ_cons,zOi];rfl,?_,by simp at N⊢;omega⟩;rw[f,zTa];simp;omega
  ·rw[zAt R,zAt R];obtain⟨c,f,N⟩:=oD l gs (t++[y.1]) h;exact⟨c,f,by simp at N⊢;omega⟩
section
variable{q:AA}{p x g o:Ξ}
def Ec.wi{ι:E->Prop}(a:∀i,ι i->0<=i/\i<(F q.cons:E))(s:MP q g)(h:Ec q ι p x):BC q p->(WI g x↔WI g p):=by
 induction h with
 |refl=>exact λ_=>Iff.rfl
 |step hi e _ n=>exact λb=>(n<|b.pr (a _ hi).1 (a _ hi).2 e).trans<|zDC (b.ctx (a _ hi).1 (a _ hi).2) s e
def zDB(h:0<F p):¬WI g (d (F p) 0):=by
 rcases rq (g:=g) h (n:=F p)with h0|h0
 ·exact h0
 ·omega
def WI.live(a:BC q p)(h:WI g p):BM p=D:=h.alive λj _=>a.in64 j
def JC.wi(s:MP q g)(a:BC q p)(h:JC q 4 p x):WI g x↔WI g p:=by
 rcases h with⟨r,rfl⟩|⟨_,h,_⟩
 ·refine zM2 (zDB a.len256.1) λN=>?_
  rw[N.live a]at r;cases r
 ·exact h.wi kE s a
def Zu(h:0<F p):BM (d (F p) 0)=T:=by
 cases r:BM (d (F p) (0:E))with
 |true=>rfl
 |false=>
  refine τ ?_ (Fb.1 r 0<|by simpa using h);rw[zAL,zTu];split <;> rfl
def zBB(b:BC q p)(h:JC q 4 p x)(r:BM x=D)(l:Eh x=Z g):MP q g/\WI g x:=by
 obtain⟨a,_,_⟩:=h.posn b;have N:=zEv a.valid a.ok l;have e:=(uf a.valid a.ok l N).2;have m:=Tq l
 have G:Gd q g:=⟨by rw[m];exact a.len,λj hj=>by
  obtain⟨s,y,K⟩:=bu l j Z2;have:s∈B4 (M x j 0) 0:=by rw[y];exact zCr.2 rfl
  have v:=(IS.1 this).2
  have:s<q.sy.toNat:=zDL λX=>by
   rw[(a.sm j Z2).hi X]at v;cases v
  rw[K];omega⟩
 have k:Ju q (Up q 4) x:=by
  rcases h with⟨_,rfl⟩|⟨_,_,f⟩
  ·rw[Zu b.len256.1]at r;cases r
  ·exact f
 refine⟨⟨G,λi h0 c=>Classical.byContradiction λz=>?_⟩,N⟩;have n:=k i ⟨h0,c,zKh _⟩
 have o:¬GT q (con q i) x:=by
  rw[e];exact(yB (G.ctx a.fit a.valid h0 c) G).2 z
 have t:=n.dead o;rw[t,Zu a.len256.1]at r;cases r
variable{c:U}
def cC(e:BC q x)(hc:c<F x):∀s∈B4 (M x c 0) 0,s<q.sy.toNat:=λs l=>zDL λX=>by
 have:=(IS.1 l).2;rw[(e.sm c hc).hi X]at this;cases this
variable{l:O BU}{m:W9}
def Sr.sols(h:Sr q m p l):BC q p->(m=V->(Dh l).Nodup/\∀g,g∈Dh l↔MP q g/\WI g p)/\
 (∀c ss,m=Z (c,ss)->c<F p->ss.Nodup->(∀s∈ss,s<q.sy.toNat)->(Dh l).Nodup/\∀g,g∈Dh l↔MP q g/\WI g p/\(M g c 0).toNat∈ss):=by
 induction h with
 |@dead p x o _ i h3=>
  refine λj=>⟨λ_=>?_,λ_ _ e=>by cases e⟩
  rw[QM,Se];refine⟨zUL,λg=>zM2 (by simp[Dh]) λ⟨r,N⟩=>?_⟩;have:=((i.wi r j).2 N).live (i.posn j).1;rw[h3]at this;cases this
 |@done p x o g k i h3 R=>
  refine λj=>⟨λ_=>?_,λ_ _ e=>by cases e⟩
  obtain⟨I,K⟩:=zBB j i h3 R;have n:=(i.posn j).1;rw[QM,Se]
  show([g]:O Ξ).Nodup/\∀J,J∈[g]↔_
  refine⟨Z3,λJ=>?_⟩;rw[zCr];constructor
  ·rintro rfl;exact⟨I,(i.wi I j).1 K⟩
  ·rintro⟨r,N⟩;exact(uf n.valid n.ok R<|(i.wi r j).2 N).1
 |@split p x o c l k i h3 R h5 t h7 _ G=>
  refine λj=>⟨λ_=>?_,λ_ _ e=>by cases e⟩
  have n:=(i.posn j).1;obtain⟨P,Q⟩:=(G n).2 c _ rfl t lC (cC n t);rw[QM,Se]
  show(Dh l).Nodup/\∀g,g∈Dh l↔_
  refine⟨P,λg=>(Q g).trans ?_⟩;constructor
  ·rintro⟨r,N,_⟩;exact⟨r,(i.wi r j).1 N⟩
  ·rintro⟨r,N⟩;have N:=(i.wi r j).2 N;have:=N.2 c (by rw[N.1];exact t);exact⟨r,N,IS.2 ⟨Z2,this.2⟩⟩
 |nil=>
  refine λ_=>⟨λe=>(by cases e),λc ss e=>?_⟩
  cases e;exact λ_ _ _=>⟨zUL,λg=>by simp[Dh]⟩
 |@cons x c s ss a b _ _ S W=>
  refine λn=>⟨λe=>(by cases e),λc' uN e=>?_⟩
  cases e;intro hc X w;obtain⟨Y,n2⟩:=zUH.1 X;obtain⟨a1,y⟩:=(S<|n.fx hc<|w s zMY).1 rfl;obtain⟨b1,z⟩:=(W n).2 c ss rfl hc n2 λs h=>w s<|zMO _ h
  have f:=λg=>zDD (g:=g) n.valid n.ok hc<|w s zMY
  rw[QM];refine⟨zTz.2 ⟨a1,b1,λu hu v hv e=>?_⟩,λg=>?_⟩
  ·subst e;have k:=((f u).1 ((y u).1 hu).2).2;have i:=((z u).1 hv).2.2;rw[k]at i;exact Y i
  ·rw[zMc,y,z,f,zMk];constructor
   ·rintro(⟨k,i,h3⟩|⟨k,i,h3⟩)
    ·exact⟨k,i,.inl h3⟩
    ·exact⟨k,i,.inr h3⟩
   ·rintro⟨k,i,h3|h3⟩
    ·exact .inl ⟨k,i,h3⟩
    ·exact .inr ⟨k,i,h3⟩
def B0(x:E):U:=F<|B4 x 0
def gp:Ξ->U
 |[]=>1
 |x::l=>max (B0 x) 1*gp l
def VE:∀l:Ξ,1<=gp l
 |[]=>zAf _
 |x::l=>Nat.mul_pos Z2<|VE l
def gv:∀(l:Ξ) (c:U) (v:E),c<F l->gp (l.set c v)*max (B0<|M l c 0) 1=gp l*max (B0 v) 1
 |x::l,0,v,_=>by
  show max (B0 v) 1*gp l*max (B0 x) 1=max (B0 x) 1*gp l*max (B0 v) 1
  rw[zOc<|max (B0 x) 1,zOc<|max (B0 v) 1,zTk,zTk,zOc<|max (B0 x) 1]
 |x::l,c+1,v,h=>by
  have n:=gv l c v (by simpa using h)
  show max (B0 x) 1*gp (l.set c v)*max (B0<|M l c 0) 1=max (B0 x) 1*gp l*max (B0 v) 1
  rw[zTk,n,zTk]
def zAW:∀(a b:Ξ),F a=F b->(∀j,j<F a->1<=B0 (M a j 0)/\B0 (M a j 0)<=B0 (M b j 0))->gp a<=gp b/\((∃j,j<F a/\B0 (M a j 0)<B0 (M b j 0))->gp a<gp b)
 |[],[],_,_=>⟨zAf _,λ⟨j,h,_⟩=>τ h<|zAR j⟩
 |u::a,v::b,e,h=>by
  obtain⟨c,f⟩:=zAW a b (by simpa using e) λj g=>h (j+1) (by simpa using g)
  have h0:=h 0 Z3;have h0:1<=B0 u/\B0 u<=B0 v:=h0;have i:=VE b;have z:max (B0 u) 1<=max (B0 v) 1:=Z2
  refine⟨zTx z c,λ⟨j,g,R⟩=>?_⟩;cases j with
  |zero=>
   have R:B0 u<B0 v:=R;exact Nat.mul_lt_mul_of_lt_of_le (show max (B0 u) 1<max (B0 v) 1 by omega) c i
  |succ j=>exact Nat.mul_lt_mul_of_le_of_lt z (f ⟨j,by simpa using g,R⟩) Z2
variable{a b:E}
def zDt(h:∀s,tb a s=T->tb b s=T):B0 a<=B0 b:=by
 unfold B0 B4;rw[←zMP,←zMP];exact List.countP_mono_left λs _=>h s
variable{s:U}
def zDs(h:∀s,tb a s=T->tb b s=T)(hs:s<16)(c:tb a s=D)(e:tb b s=T):B0 a<B0 b:=by
 unfold B0 B4;rw[←zMP,←zMP];exact OL (a:=s) c e _ (λk _ hk=>h k hk)<|zT3.2 ⟨Z2,Z2⟩
def zPL(a:BC q x)(b:BC q p)(h:Le x p)(c:x≠p)(r:BM x=D):gp x<gp p:=by
 have e:F x=F p:=b.eqlen a;refine(zAW x p e λj g=>⟨(bO a g).2<|Fb.1 r j g,zDt λs l=>h j s l⟩).2 ?_;refine Classical.byContradiction λf=>c<|Le.eq a b h λj s l=>?_
 cases i:tb (M x j 0) s with
 |true=>rfl
 |false=>
  have g:j<F x:=zDL λX=>by
   rw[zAL,zOV Z2]at l;exact JI l
  have k:s<16:=zDL λX=>by
   rw[(b.sm16 j Z2).hi X]at l;cases l
  exact τ ⟨j,g,zDs (λs l=>h j s l) k i l⟩ f
def HM.gp{l g:Ξ}(h:HM q 4 p l g):BC q p->BM p=D->(BM g=D->F l+gp g<=gp p)/\F l<=gp p:=by
 induction h with
 |done _=>exact λ_ _=>⟨λ_=>Z3,zMK _⟩
 |@step p x l g i hi e j _ b c=>
  intro a hd;have n:=a.pr hi.1 hi.2.1 e;cases r:BM x with
  |false=>
   obtain⟨f,i2⟩:=c n r;have:=zPL n a e.le j r;exact⟨λh=>by have:=f h;rw[zDM];omega,by rw[zDM];omega⟩
  |true=>
   have ez:=e.zero r;have k:Ju q (Up q 4) x:=by rw[ez];exact qK a.len256.1
   obtain⟨y,K⟩:=b.uniq<|.done k;subst y;subst K;exact⟨λh=>(by rw[r]at h;cases h),VE p⟩
def UR(a:BC q p)(b:S9 q p 4 (o,0))(c:JC q 4 p x):(BM p=T/\o= [])∨(BM p=D/\HM q 4 p o x):=by
 rcases b with⟨h,_⟩|⟨_,h,e⟩|⟨_,h,_,_,g,s⟩
 ·exact τ a.check h
 ·exact .inl ⟨h,congrArg Prod.fst e⟩
 ·refine .inr ⟨h,?_⟩;rcases c with⟨r,_⟩|⟨_,k,R⟩
  ·rw[h]at r;cases r
  ·have e:x=g:=Ec.uniq kE a k s.down.1 R s.down.2;rw[e];exact s
def zJo:∀s:U,s<16->F ((List.range' 0 16).filter λt=>decide (t=s))=1:=Z6
def zPM(h:BC q x)(hc:c<F x)(r:BM x=D)(l:s∈B4 (M x c 0) 0):gp (Fl x c s)=gp (x.set c 1):=by
 have n:=cC h hc s l;have hk:=h.k;obtain⟨R,K⟩:=g9 h.valid h.ok hc n
 have X:BM (H4 x c s)=D:=Fb.2 λj g=>by
  rw[R]at g;refine(GV (K j g).1).2 ?_
  by_cases e:j=c
  ·subst e;exact⟨s,Z2,by rw[(K j g).2,(IS.1 l).2];simp⟩
  ·obtain⟨t,b,f⟩:=(GV<|h.in64 j).1<|Fb.1 r j g;exact⟨t,b,by rw[(K j g).2,f,zAF e];rfl⟩
 have i:Fl x c s=H4 x c s:=by unfold Fl;rw[zAt<|by rw[X];decide]
 rw[i];have y:=gv x c (M (H4 x c s) c 0) hc;have a:=gv x c 1 hc
 have w1:B0 (M (H4 x c s) c 0)=1:=by
  unfold B0 B4;rw[show(List.range' 0<|16-0)=List.range' 0 16 from rfl,List.filter_congr (q:=λt=>decide (t=s)) λt _=>?_]
  ·exact zJo s Z2
  ·rw[(K c hc).2,zAA rfl,zMv,zPE]
   by_cases e:t=s
   ·subst e;rw[(IS.1 l).2];rfl
   ·rw[zAF e,Bool.and_false]
 have u:B0 1=1:=Z6
 have N:x.set c (M (H4 x c s) c 0)=H4 x c s:=by
  unfold H4;rw[SV hc]
 rw[w1,N]at y;rw[u]at a;exact Nat.eq_of_mul_eq_mul_right (show 0<max (B0<|M x c 0) 1 by omega)<|y.trans a.symm
def Sr.size(h:Sr q m p l):BC q p->(m=V->F l+1<=3*gp p)/\
 (∀c ss,m=Z (c,ss)->c<F p->BM p=D->(∀s∈ss,s∈B4 (M p c 0) 0)->F l+F ss<=3*(F ss*gp (p.set c 1))):=by
 induction h with
 |@dead p x o t j k=>
  refine λf=>⟨λ_=>?_,λ_ _ e=>by cases e⟩
  have:=VE p;rw[zAi,zAS,zOW];rcases UR f t j with⟨_,rfl⟩|⟨r,h⟩
  ·simp;omega
  ·have:=(h.gp f r).2;omega
 |@done p x o g t j k R=>
  refine λf=>⟨λ_=>?_,λ_ _ e=>by cases e⟩
  have:=VE p;rw[zAi,zAS,zOW];rcases UR f t j with⟨_,rfl⟩|⟨r,h⟩
  ·simp;omega
  ·have:=(h.gp f r).2;omega
 |@split p x o c l t j k R h5 u S _ y=>
  refine λf=>⟨λ_=>?_,λ_ _ e=>by cases e⟩
  have n:=(j.posn f).1;have i:=(y n).2 c _ rfl u k λs h=>h
  have K:=gv x c 1 u;have z:B0 1=1:=Z6
  have S:2<=F (B4 (M x c 0) 0):=S;have N:max (B0<|M x c 0) 1=F (B4 (M x c 0) 0):=Nat.max_eq_left<|zAO Z6 S;rw[z,N,zOc,Nat.max_self,zOG]at K;rw[K]at i;rw[zAi,zAS,zDM];rcases UR f t j with⟨r,rfl⟩|⟨r,h⟩
  ·rcases j with⟨_,rfl⟩|⟨v,_⟩
   ·rw[Zu f.len256.1]at k;cases k
   ·rw[r]at v;cases v
  ·have:=(h.gp f r).1 k;omega
 |nil=>
  refine λ_=>⟨λe=>(by cases e),λc ss e=>?_⟩
  cases e;exact λ_ _ _=>Z3
 |@cons x c s ss a b _ _ G I=>
  refine λn=>⟨λe=>(by cases e),λc' uN e=>?_⟩
  cases e;intro hc r w;have P:=w s zMY;have J:=(G<|n.fx hc<|cC n hc s P).1 rfl;have i2:=(I n).2 c ss rfl hc r λs h=>w s<|zMO _ h
  rw[zPM n hc r P]at J;have e:(F ss+1)*gp (x.set c 1)=F ss*gp (x.set c 1)+gp (x.set c 1):=zTw _ _;rw[zAi,zDM,e];omega
end
section
set_option maxRecDepth 100000
set_option maxHeartbeats 40000000
def zFm:Ar (Am Tryz.f31 6) [([0,1,2,3,4,5,6,7],8)] [9] []:=Z0
def Wl:BZ:=λi=>match i with
 |6=>.ord [([0,1,2,3,4,5,6,7],8)] [9] []
 |_=>.no
inductive cL where
 |l1 (x5:E)
def zFV(n:U)(self:cL->A ζ)(a P:O Ξ)(l:E):A ζ:=L (H<|l<(F a:E)) (C ((0<=l/\l<(F a:E))/\(0<=l/\l<(F P:E))) ((same n (M a l.toNat [])<|M P l.toNat []).bind λf=>L (!f) (Z D)<|C (AI<|l+1) (self<|.l1<|l+1) V) V)<|Z T
def zFW(n:U)(self:cL->A ζ)(a P:O Ξ):A ζ:=L ((F a:E) != (F P:E)) (Z D)<|self<|.l1 0
def lM(a P:O Ξ):U->cL->A ζ
 |0,_=>V
 |n+1,.l1 l=>zFV n (lM a P n) a P l
def lO(n:U)(a P:O Ξ):A ζ:=zFW n (lM a P n) a P
def zFX(n ϙ:U)(N:Yd 0)(a P:O Ξ)(r:ζ):cL->Prop:=px n ϙ η N (FQ Tryz.f31 0 (.bool r) []) (AZ Tryz.f31) λ
 | .l1 l=>(0,0,AF 27 [(0,.sl 1 (F a)<|AM AW a),(1,.sl 1 (F P)<|AM AW P),(5,.i l)],[])
def zFY(ϙ:U)(N:Yd 0)(a P:O Ξ):Al (lM a P) (zFX · ϙ N a P):=ia (λ_=>rfl) λn I G r h=>by
 cases G
 case l1 x5=>
  intro q b;refine rd b λq b=>?_
  revert r;apply gO;exact bi 14 (jg zFm (gc (gi (gi (cf lK [] λ_=>bi 26 (lE Wl [4] []) (gw 16 (lG Wl [] (I _ _ · q b))))))))<|lE Wl [4] []
variable{r:ζ}{n:U}
def Tw{a P:O Ξ}(h:lO n a P=Z r):EQ 31 [.sl 1 (F a)<|AM AW a,.sl 1 (F P)<|AM AW P] [] (.bool r) [] T:=by
 refine ot Tryz.func31 λϙ N=>?_
 revert r;apply gO;exact bi 10 (lE Wl [4] []) (lN Wl [] ((zFY ϙ N a P n) _ _ · n χ))
def tu:ST:=.rd 0<|.rd 1<|.rd 2<|.rd 4<|.ef 3 (.ef 5 (.rd 6<|.ef 7 (.fin [0,1] [4])<|.no)<|.no)<|.ef 5 (.ef 3 (.rd 6<|.ef 7 (.fin [1,0] [4])<|.no)<|.no)<|.no
def zGZ:Bz (Am Tryz.f28 1) [3,5] tu:=Z1
def zFN:BZ:=λi=>match i with
 |1=>.tre [3,5] tu
 |_=>.no
def kL(cells b:E):St:=⟨AF 12 [(4,.ref 0 0)],([oC [.i cells,.i b,.msl 1 1 0 b.toNat,.msl 2 1 0 cells.toNat,.nils],oI<|d b.toNat (0:E),Z<|.arr 1 (F<|d cells.toNat ([]:Ξ))<|AM AW<|d cells.toNat ([]:Ξ)]:DH)⟩
def zPZ(n:U)(cells b:E):A AA:=C (((b:E)=b/\0<=b/\(b:E)<=1000000000000)/\((cells:E)=cells/\0<=cells/\(cells:E)<=1000000000000)) (C ((b).toNat=F (d b.toNat (0:E))/\(cells).toNat=F (d cells.toNat ([]:Ξ))) (Z (⟨cells,b,d b.toNat (0:E),d cells.toNat ([]:Ξ),([]:O AE)⟩:AA)) V) V
def iB(n:U)(cells b:E):A AA:=zPZ n cells b
def ZS{cells b:E}{r:AA}(h:iB n cells b=Z r):EQ 28 [.i cells,.i b] [] (.agg 5<|L1<|AG r) [] T:=by
 refine ot Tryz.func28 λϙ N=>?_
 revert r;apply gO;exact jg zGZ<|gc<|gn λa=>jg a<|gn λe=>jg e<|ja 10 2 1 (vf (c:=AW) (x:=([]:Ξ)) (n:=(cells).toNat) (l:=[.nils]) ⟨AO.ints_nil,trivial⟩)<|jt<|jg (φ<|kL cells b)<|jg e<|ja 10 1 1 (vf (c:=AW) (x:=([]:Ξ)) (n:=(cells).toNat) (l:=[.nils]) ⟨AO.ints_nil,trivial⟩)<|jg a<|jt<|jg (φ<|kL cells b)<|gc<|gn λu=>gn λf=>lF λp=>el (tg:=[([],kL cells b)]) zFN [4] [0,1,2] p [1,2] (H0.g u|>.g f) [.agg 5<|L1 [.i cells,.i b,.ints<|d b.toNat (0:E),.sl 1 (F<|d cells.toNat ([]:Ξ))<|AM AW<|d cells.toNat ([]:Ξ),.nils]]<|AO.aggL (l:=[.i cells,.i b,.ints<|d b.toNat (0:E),.sl 1 (F<|d cells.toNat ([]:Ξ))<|AM AW<|d cells.toNat ([]:Ξ),.nils]) (l':=[.i cells,.i b,.ints<|d b.toNat (0:E),.sl 1 (F<|d cells.toNat ([]:Ξ))<|AM AW<|d cells.toNat ([]:Ξ),.sl 9 (F ([]:O AE))<|AM BD ([]:O AE)]) rfl ⟨At,At,At,At,AO.sl_nil _ _,trivial⟩
def zGe:Ar (Am Tryz.f32 9) [] (θ 18) []:=Z0
def Kt:BZ:=λi=>match i with
 |9=>.ord [] (θ 18) []
 |_=>.no
inductive Zd where
 |l1 (x3 x4:E)
 |l2 (x3 x5:E)
def Zc(n:U)(self:Zd->A ζ)(q:AA)(X c:E):A ζ:=L (H<|c<(F q.nb:E)) (L (H<|X<200) (C ((0<=c/\c<(F q.nb:E))/\AI (X+((F<|M q.nb c.toNat []:U):E))/\AI (c+1)) (self<|.l1 (X+((F<|M q.nb c.toNat []:U):E))<|c+1) V)<|self<|.l2 X 0)<|self<|.l2 X 0
def SZ(n:U)(self:Zd->A ζ)(q:AA)(X l:E):A ζ:=L (H<|l<(F q.cons:E)) (L (H<|X<200) (C ((0<=l/\l<(F q.cons:E))/\AI (((F<|(M q.cons l.toNat ξ).ce:U):E)+((F<|(M q.cons l.toNat ξ).ru:U):E))/\AI (X+(((F<|(M q.cons l.toNat ξ).ce:U):E)+((F<|(M q.cons l.toNat ξ).ru:U):E)))) (L ((M q.cons l.toNat ξ).kind==5) (L (H<|((F<|(M q.cons l.toNat ξ).ce:U):E)>9) (Z D)<|C (AI<|l+1) (self<|.l2 (X+(((F<|(M q.cons l.toNat ξ).ce:U):E)+((F<|(M q.cons l.toNat ξ).ru:U):E)))<|l+1) V)<|C (AI<|l+1) (self<|.l2 (X+(((F<|(M q.cons l.toNat ξ).ce:U):E)+((F<|(M q.cons l.toNat ξ).ru:U):E)))<|l+1) V) V)<|Z D)<|L (H<|X<200) (L (H<|q.ce<=16) (Z<|H<|q.sy<=4)<|Z D)<|Z D
def zAv(n:U)(self:Zd->A ζ)(q:AA):A ζ:=C (AI ((F q.va:E)+(F q.nb:E))/\AI (((F q.va:E)+(F q.nb:E))+(F q.cons:E))) (self<|.l1 (((F q.va:E)+(F q.nb:E))+(F q.cons:E)) 0) V
def Hm(q:AA):U->Zd->A ζ
 |0,_=>V
 |n+1,.l1 X c=>Zc n (Hm q n) q X c
 |n+1,.l2 X l=>SZ n (Hm q n) q X l
def iK(n:U)(q:AA):A ζ:=zAv n (Hm q n) q
def zP8(n ϙ:U)(N:Yd 0)(q:AA)(r:ζ):Zd->Prop:=px n ϙ η N (FQ Tryz.f32 0 (.bool r) []) (AZ Tryz.f32) λ
 | .l1 X c=>(0,0,AF 93 [(1,.ref 0 0),(3,.i X),(4,.i c)],[oC<|AG q])
 | .l2 X l=>(0,2,AF 93 [(1,.ref 0 0),(3,.i X),(5,.i l)],[oC<|AG q])
def zP9(ϙ:U)(N:Yd 0)(q:AA):Al (Hm q) (zP8 · ϙ N q):=ia (λ_=>rfl) λn I G r h=>by
 cases G
 case l1 x3 x4=>
  intro b a;refine rd a λb a=>?_
  revert r;apply gO;exact bi 21 (bi 24 (gc (gi (gc (gw 35 (gw 27 (lG Kt [0] (I _ _ · b a))))))) (lN Kt [0] (I _ _ · n χ))) (lN Kt [0] (I _ _ · n χ))
 case l2 x3 x5=>
  intro b a;refine rd a λb a=>?_
  revert r;apply gO;exact bi 40 (bj 43 (λ_=>jg zGe (gc (gn λx=>jg x (jg x (gc (gw 62 (gw 63 (jg x (bi 70 (jg x (bi 79 (lE Kt [2] []) (gw 46 (lG Kt [0] (I _ _ · b a))))) (gw 46 (lG Kt [0] (I _ _ · b a)))))))))))) λc=>jb 82 c<|lE Kt [2] [])<|bi 82 (bi 86 (lE Kt [2] [])<|lE Kt [2] [])<|lE Kt [2] []
def zP6{q:AA}(h:iK n q=Z r):EQ 32 [.agg 5<|L1<|AG q] [] (.bool r) [] T:=by
 refine ot Tryz.func32 λϙ N=>?_
 revert r;apply gO;exact gc (gw 12 (gw 16 (lN Kt [0] ((zP9 ϙ N q n) _ _ · n χ) []<|show _=Z (_,_,_,[_,_],_) by kernel_rfl)))
def zNE(o:AA):DH:=[oC [.i o.ce,.i o.sy,.ints o.va,.sl 1 (F o.nb)<|AM AW o.nb,.sl 9 (F ([(⟨1,([0,1]:Ξ),0,0,0,0,([]:Ξ),0,0⟩:AE)]:O AE))<|AM BD ([(⟨1,([0,1]:Ξ),0,0,0,0,([]:Ξ),0,0⟩:AE)]:O AE)],V]
def oX(o:AA):DH:=[oC [.i o.ce,.i o.sy,.ints o.va,.sl 1 (F o.nb)<|AM AW o.nb,.sl 9 (F ([(⟨1,([0,1]:Ξ),0,0,0,0,([]:Ξ),0,0⟩:AE)]:O AE))<|AM BD ([(⟨1,([0,1]:Ξ),0,0,0,0,([]:Ξ),0,0⟩:AE)]:O AE)],V,oI ([7,7]:Ξ)]
def Uv(o:AA):DH:=[oC [.i o.ce,.i o.sy,.ints o.va,.sl 1 (F o.nb)<|AM AW o.nb,.sl 9 (F ([(⟨1,([0,1]:Ξ),0,0,0,0,([]:Ξ),0,0⟩:AE)]:O AE))<|AM BD ([(⟨1,([0,1]:Ξ),0,0,0,0,([]:Ξ),0,0⟩:AE)]:O AE)],V,oI ([7,7]:Ξ),oI ([7,7]:Ξ)]
def oV(o:AA):DH:=[oC [.i o.ce,.i o.sy,.ints o.va,.sl 1 (F o.nb)<|AM AW o.nb,.sl 9 (F ([(⟨1,([0,1]:Ξ),0,0,0,0,([]:Ξ),0,0⟩:AE)]:O AE))<|AM BD ([(⟨1,([0,1]:Ξ),0,0,0,0,([]:Ξ),0,0⟩:AE)]:O AE)],V,oI ([7,7]:Ξ),oI ([7,7]:Ξ),oI ([7,3,3]:Ξ)]
def oU(o:AA):DH:=[oC [.i o.ce,.i o.sy,.ints o.va,.sl 1 (F o.nb)<|AM AW o.nb,.sl 9 (F ([(⟨1,([0,1]:Ξ),0,0,0,0,([]:Ξ),0,0⟩:AE)]:O AE))<|AM BD ([(⟨1,([0,1]:Ξ),0,0,0,0,([]:Ξ),0,0⟩:AE)]:O AE)],V,oI ([7,7]:Ξ),oI ([7,7]:Ξ),oI ([7,3,3]:Ξ),V,V,V]
def oT(o:AA):DH:=[oC [.i o.ce,.i o.sy,.ints o.va,.sl 1 (F o.nb)<|AM AW o.nb,.sl 9 (F ([(⟨1,([0,1]:Ξ),0,0,0,0,([]:Ξ),0,0⟩:AE)]:O AE))<|AM BD ([(⟨1,([0,1]:Ξ),0,0,0,0,([]:Ξ),0,0⟩:AE)]:O AE)],V,oI ([7,7]:Ξ),oI ([7,7]:Ξ),oI ([7,3,3]:Ξ),V,V,V,V,V]
def u7(n:U):A ζ:=(iB n 1 2).bind λf=>(Lf n f ([3]:Ξ) 3).bind λa=>(Lf n f ([3]:Ξ) 2).bind λy3=>(Lf n f ([1]:Ξ) 1).bind λG=>(Lf n f ([0]:Ξ) 1).bind λh=>(Lf n f ([1]:Ξ)<|-1).bind λe=>(YA n f ([3]:Ξ) 0 9).bind λz=>(iB n 2 3).bind λo=>(YA n (⟨o.ce,o.sy,o.va,o.nb,([(⟨1,([0,1]:Ξ),0,0,0,0,([]:Ξ),0,0⟩:AE)]:O AE)⟩:AA) ([7,7]:Ξ) 100 1000).bind λc=>(YA n (⟨o.ce,o.sy,o.va,o.nb,([(⟨1,([0,1]:Ξ),0,0,0,0,([]:Ξ),0,0⟩:AE)]:O AE)⟩:AA) ([7,7]:Ξ) 2 1000).bind λI=>(iB n 3 3).bind λm=>(qr n m ([7,3,3]:Ξ)).bind λb=>L (a.2.2==0) ((lO n a.1 ([([0]:Ξ),([1]:Ξ)]:O Ξ)).bind λg=>L g (L ((F a.2.1:E)==0) (L (y3.2.2==220) (L (G.2.2==0) ((lO n G.1 ([([0]:Ξ)]:O Ξ)).bind λi=>L i (L ((F G.2.1:E)==1) (C ((0:E)<=0/\0<(F G.2.1:E)) (L ((M G.2.1 0 ξ).1==4) (L (h.2.2==0) (L ((F h.1:E)==0) (L ((F h.2.1:E)==1) (C ((0:E)<=0/\0<(F h.2.1:E)) (L ((M h.2.1 0 ξ).1==3) (L (e.2.2==1) (L (z.2==1) (L (c.1==6) (L (c.2==0) (L (I.1==2) (L (I.2==0) (L (b.1==1) (L b.2.1 (Z<|b.2.2==0)<|Z D)<|Z D)<|Z D)<|Z D)<|Z D)<|Z D)<|Z D)<|Z D)<|Z D) V)<|Z D)<|Z D)<|Z D)<|Z D) V)<|Z D)<|Z D)<|Z D)<|Z D)<|Z D)<|Z D)<|Z D
def Wr(n:U):A ζ:=u7 n
def Wq(h:Wr n=Z r):EQ 17 [] [] (.bool r) [] T:=by
 unfold Wr u7 at h;refine ot Tryz.func17 λϙ N=>?_
 revert r;apply gO
 exact cf ZS [] λf=>jt<|jz 31 1<|jg (by decide:1=F ([3]:Ξ))<|cf M1 [oC<|AG f,V] λG=>jz 38 2<|jg (by decide:1=F ([3]:Ξ))<|cf M1 [oC<|AG f,V,V] λy3=>jz 45 3<|jg (by decide:1=F ([1]:Ξ))<|cf M1 [oC<|AG f,V,V,V] λa=>jz 52 4<|jg (by decide:1=F ([0]:Ξ))<|cf M1 [oC<|AG f,V,V,V,V] λb=>jz 59 5<|jg (by decide:1=F ([1]:Ξ))<|cf M1 [oC<|AG f,V,V,V,V,V] λy6=>cn λy7 J=>jc (sb [.agg 5<|L1<|AG f,.msl 6 1 0 1,.i 0,.i 9] (RY J) [oC<|AG f,V,V,V,V,V,oI ([3]:Ξ)] ⟨Ad.plain Z5,Ad.ints rfl (by decide:1=F ([3]:Ξ)),Ad.plain Z5,Ad.plain Z5,trivial⟩)<|cf ZS [oC<|AG f,V,V,V,V,V,oI ([3]:Ξ)] λo=>jt<|jz 71 8<|jg (by decide:2=F ([0,1]:Ξ))<|ja 73 9 9 (ER (c:=BD) (Ϝ:=([(⟨1,([0,1]:Ξ),0,0,0,0,([]:Ξ),0,0⟩:AE)]:O AE)) (vals:=[.agg 9<|L1 [.i 1,.ints ([0,1]:Ξ),.i 0,.i 0,.i 0,.i 0,.nils,.i 0,.i 0]]) rfl ⟨⟨_,rfl,⟨At,At,At,At,At,At,AO.ints_nil,At,At,trivial⟩⟩,trivial⟩)<|jt (λp r h=>by
  refine gz (AQ 10 AC) [7,9] p [1] (H0.g<|φ 1) (CY (AZ Tryz.f17) 10 []) (AF 191 [(2,.sl 1 (F G.1)<|AM AW G.1),(3,.sl 2 (F G.2.1)<|AM Az G.2.1),(4,.i G.2.2),(7,.i y3.2.2),(8,.sl 1 (F a.1)<|AM AW a.1),(9,.sl 2 (F a.2.1)<|AM Az a.2.1),(10,.i a.2.2),(11,.sl 1 (F b.1)<|AM AW b.1),(12,.sl 2 (F b.2.1)<|AM Az b.2.1),(13,.i b.2.2),(16,.i y6.2.2),(18,.i y7.2),(19,.ref 0 0)]) (zNE o) ?_;revert r;apply gO;exact cn λy9 K=>jc (sb [.agg 5<|L1 [.i o.ce,.i o.sy,.ints o.va,.sl 1 (F o.nb)<|AM AW o.nb,.sl 9 (F ([(⟨1,([0,1]:Ξ),0,0,0,0,([]:Ξ),0,0⟩:AE)]:O AE))<|AM BD ([(⟨1,([0,1]:Ξ),0,0,0,0,([]:Ξ),0,0⟩:AE)]:O AE)],.msl 2 1 0 2,.i 100,.i 1000] (RY K) (oX o) ⟨Ad.plain Z5,Ad.ints rfl (by decide:2=F ([7,7]:Ξ)),Ad.plain Z5,Ad.plain Z5,trivial⟩)<|cn λjr m=>jc (sb [.agg 5<|L1 [.i o.ce,.i o.sy,.ints o.va,.sl 1 (F o.nb)<|AM AW o.nb,.sl 9 (F ([(⟨1,([0,1]:Ξ),0,0,0,0,([]:Ξ),0,0⟩:AE)]:O AE))<|AM BD ([(⟨1,([0,1]:Ξ),0,0,0,0,([]:Ξ),0,0⟩:AE)]:O AE)],.msl 3 1 0 2,.i 2,.i 1000] (RY m) (Uv o) ⟨Ad.plain Z5,Ad.ints rfl (by decide:2=F ([7,7]:Ξ)),Ad.plain Z5,Ad.plain Z5,trivial⟩)<|cn λs P=>jc (fb (ZS P)<|Uv o)<|cn λap Q=>jc (sb [.agg 5<|L1<|AG s,.msl 4 1 0 3] (qq Q) (oV o) ⟨Ad.plain Z5,Ad.ints rfl (by decide:3=F ([7,3,3]:Ξ)),trivial⟩)<|bj 95 (λv=>jz 98 5<|jg (by decide:1=F ([0]:Ξ))<|jz 99 6<|jg (by decide:1=F ([1]:Ξ))<|ja 100 7 1 (ER (c:=AW) (Ϝ:=([([0]:Ξ),([1]:Ξ)]:O Ξ)) (vals:=[.ints ([0]:Ξ),.ints ([1]:Ξ)]) rfl ⟨⟨_,rfl,⟨At,trivial⟩⟩,⟨_,rfl,⟨At,trivial⟩⟩,trivial⟩)<|jz 100 7<|jg (by decide:2=F ([([0]:Ξ),([1]:Ξ)]:O Ξ))<|cn λr9 R=>jc (fb (Tw R)<|oU o)<|bj 101 (λw=>bj 106 (λy=>bj 110 (λz=>bj 114 (λI=>jz 118 8<|jg (by decide:1=F ([0]:Ξ))<|ja 119 9 1 (ER (c:=AW) (Ϝ:=([([0]:Ξ)]:O Ξ)) (vals:=[.ints ([0]:Ξ)]) rfl ⟨⟨_,rfl,⟨At,trivial⟩⟩,trivial⟩)<|jz 119 9<|jg (by decide:1=F ([([0]:Ξ)]:O Ξ))<|cn λr7 S=>jc (fb (Tw S)<|oT o)<|bj 120 (λW=>bj 125 (λX=>gn λx=>jg x<|bj 132 (λY=>bj 136 (λc8=>bj 141 (λc9=>bj 146 (λe=>gn λt=>jg t<|bj 153 (λaN=>bj 158 (λj=>bj 162 (λaM=>bj 166 (λk=>bj 170 (λaL=>bj 174 (λq=>bj 178 (λaK=>bj 182 (λl=>bn (λu=>rO<|jc (sb [.agg 5<|L1 [.i o.ce,.i o.sy,.ints o.va,.sl 1 (F o.nb)<|AM AW o.nb,.sl 9 (F ([(⟨1,([0,1]:Ξ),0,0,0,0,([]:Ξ),0,0⟩:AE)]:O AE))<|AM BD ([(⟨1,([0,1]:Ξ),0,0,0,0,([]:Ξ),0,0⟩:AE)]:O AE)],.msl 2 1 0 2,.i 100,.i 1000] (RY K) (oX o) ⟨Ad.plain Z5,Ad.ints rfl (by decide:2=F ([7,7]:Ξ)),Ad.plain Z5,Ad.plain Z5,trivial⟩)<|jc (sb [.agg 5<|L1 [.i o.ce,.i o.sy,.ints o.va,.sl 1 (F o.nb)<|AM AW o.nb,.sl 9 (F ([(⟨1,([0,1]:Ξ),0,0,0,0,([]:Ξ),0,0⟩:AE)]:O AE))<|AM BD ([(⟨1,([0,1]:Ξ),0,0,0,0,([]:Ξ),0,0⟩:AE)]:O AE)],.msl 3 1 0 2,.i 2,.i 1000] (RY m) (Uv o) ⟨Ad.plain Z5,Ad.ints rfl (by decide:2=F ([7,7]:Ξ)),Ad.plain Z5,Ad.plain Z5,trivial⟩)<|jc (fb (ZS P)<|Uv o)<|jc (sb [.agg 5<|L1<|AG s,.msl 4 1 0 3] (qq Q) (oV o) ⟨Ad.plain Z5,Ad.ints rfl (by decide:3=F ([7,3,3]:Ξ)),trivial⟩)<|jb 92 u<|jb 95 v<|jz 98 5<|jg (by decide:1=F ([0]:Ξ))<|jz 99 6<|jg (by decide:1=F ([1]:Ξ))<|ja 100 7 1 (ER (c:=AW) (Ϝ:=([([0]:Ξ),([1]:Ξ)]:O Ξ)) (vals:=[.ints ([0]:Ξ),.ints ([1]:Ξ)]) rfl ⟨⟨_,rfl,⟨At,trivial⟩⟩,⟨_,rfl,⟨At,trivial⟩⟩,trivial⟩)<|jz 100 7<|jg (by decide:2=F ([([0]:Ξ),([1]:Ξ)]:O Ξ))<|jc (fb (Tw R)<|oU o)<|jb 101 w<|jb 106 y<|jb 110 z<|jb 114 I<|jz 118 8<|jg (by decide:1=F ([0]:Ξ))<|ja 119 9 1 (ER (c:=AW) (Ϝ:=([([0]:Ξ)]:O Ξ)) (vals:=[.ints ([0]:Ξ)]) rfl ⟨⟨_,rfl,⟨At,trivial⟩⟩,trivial⟩)<|jz 119 9<|jg (by decide:1=F ([([0]:Ξ)]:O Ξ))<|jc (fb (Tw S)<|oT o)<|jb 120 W<|jb 125 X<|jg x<|jb 132 Y<|jb 136 c8<|jb 141 c9<|jb 146 e<|jg t<|jb 153 aN<|jb 158 j<|jb 162 aM<|jb 166 k<|jb 170 aL<|jb 174 q<|jb 178 aK<|jb 182 l<|lE AC [0] []) λu=>rO<|jc (sb [.agg 5<|L1 [.i o.ce,.i o.sy,.ints o.va,.sl 1 (F o.nb)<|AM AW o.nb,.sl 9 (F ([(⟨1,([0,1]:Ξ),0,0,0,0,([]:Ξ),0,0⟩:AE)]:O AE))<|AM BD ([(⟨1,([0,1]:Ξ),0,0,0,0,([]:Ξ),0,0⟩:AE)]:O AE)],.msl 2 1 0 2,.i 100,.i 1000] (RY K) (oX o) ⟨Ad.plain Z5,Ad.ints rfl (by decide:2=F ([7,7]:Ξ)),Ad.plain Z5,Ad.plain Z5,trivial⟩)<|jc (sb [.agg 5<|L1 [.i o.ce,.i o.sy,.ints o.va,.sl 1 (F o.nb)<|AM AW o.nb,.sl 9 (F ([(⟨1,([0,1]:Ξ),0,0,0,0,([]:Ξ),0,0⟩:AE)]:O AE))<|AM BD ([(⟨1,([0,1]:Ξ),0,0,0,0,([]:Ξ),0,0⟩:AE)]:O AE)],.msl 3 1 0 2,.i 2,.i 1000] (RY m) (Uv o) ⟨Ad.plain Z5,Ad.ints rfl (by decide:2=F ([7,7]:Ξ)),Ad.plain Z5,Ad.plain Z5,trivial⟩)<|jc (fb (ZS P)<|Uv o)<|jc (sb [.agg 5<|L1<|AG s,.msl 4 1 0 3] (qq Q) (oV o) ⟨Ad.plain Z5,Ad.ints rfl (by decide:3=F ([7,3,3]:Ξ)),trivial⟩)<|jb 92 u<|jb 95 v<|jz 98 5<|jg (by decide:1=F ([0]:Ξ))<|jz 99 6<|jg (by decide:1=F ([1]:Ξ))<|ja 100 7 1 (ER (c:=AW) (Ϝ:=([([0]:Ξ),([1]:Ξ)]:O Ξ)) (vals:=[.ints ([0]:Ξ),.ints ([1]:Ξ)]) rfl ⟨⟨_,rfl,⟨At,trivial⟩⟩,⟨_,rfl,⟨At,trivial⟩⟩,trivial⟩)<|jz 100 7<|jg (by decide:2=F ([([0]:Ξ),([1]:Ξ)]:O Ξ))<|jc (fb (Tw R)<|oU o)<|jb 101 w<|jb 106 y<|jb 110 z<|jb 114 I<|jz 118 8<|jg (by decide:1=F ([0]:Ξ))<|ja 119 9 1 (ER (c:=AW) (Ϝ:=([([0]:Ξ)]:O Ξ)) (vals:=[.ints ([0]:Ξ)]) rfl ⟨⟨_,rfl,⟨At,trivial⟩⟩,trivial⟩)<|jz 119 9<|jg (by decide:1=F ([([0]:Ξ)]:O Ξ))<|jc (fb (Tw S)<|oT o)<|jb 120 W<|jb 125 X<|jg x<|jb 132 Y<|jb 136 c8<|jb 141 c9<|jb 146 e<|jg t<|jb 153 aN<|jb 158 j<|jb 162 aM<|jb 166 k<|jb 170 aL<|jb 174 q<|jb 178 aK<|jb 182 l<|lE AC [0] []) λ_=>lE AC [0] []) λ_=>lE AC [0] []) λ_=>lE AC [0] []) λ_=>lE AC [0] []) λ_=>lE AC [0] []) λ_=>lE AC [0] []) λ_=>lE AC [0] []) λ_=>lE AC [0] []) λ_=>lE AC [0] []) λ_=>lE AC [0] []) λ_=>lE AC [0] []) λ_=>lE AC [0] []) λ_=>lE AC [0] []) λ_=>lE AC [0] []) λ_=>lE AC [0] []) λ_=>lE AC [0] []) λ_=>lE AC [0] []) λ_=>lE AC [0] []) λ_=>lE AC [0] [])
end
abbrev zO6:=@Nat.zero_lt_one
abbrev zTV:=@List.mem_append_left
section
open Go.ChangeShapes Go.WideShapes Go.ChangeAt
def Ob(w:κ)(cs:O μ)(l:O DV):Prop:=F cs=F l/\∀j,j<F l->AJ (λ_=>False) w (l.getD j .any) [] (cs.getD j undef)
def Rd(P:ν)(t:ψ)(m:U){α:Type}(c:α->O DV):Prop:=(∀x,F (c x)=m)/\P.cellsOf t=m/\∀{Ϙ:Type} (enc:ψ×μ->Ϙ) (w:κ) (fuel:U) (cs:O μ) (x:DataW Ϙ×O MemPlace),DataW.trod enc P w 0 (λ_=>T) T fuel t cs=Z x->(∀n∈x.1.weights P t,n<=reachBytes)->∃y:α,Ob w cs<|c y
def sQ{Ϙ:Type}{P:ν}{e:ψ}:∀{l:O (DataW Ϙ)} {Ϛ:DataW Ϙ} {n:U},Ϛ∈l->n∈Ϛ.weights P e->n∈DataW.weightsAll P e l
 |[],_,_,h,_=>by cases h
 |a::l,Ϛ,n,h,s=>by
  unfold DataW.weightsAll;rcases zMk.1 h with rfl|h
  ·exact zTV _ s
  ·exact zOU _<|sQ h s
section
variable{P:ν}{t e:ψ}{m:U}
variable{v:μ}{w:κ}
theorem Ob.one{Ϛ:DV}(h:AJ (λ_=>False) w Ϛ [] v):Ob w [v] [Ϛ]:=⟨rfl,λj hj=>by
 grind⟩
variable{cs:O μ}
theorem Ob.app{v:O μ}{l l':O DV}(h:Ob w cs l)(h':Ob w v l'):Ob w (cs++v)<|l++l':=by
 refine⟨by simp[h.1,h'.1],λj g=>?_⟩;rcases zCv j (F l)with hl|hl
 ·have:=h.2 j hl;have hc:j<F cs:=by rw[h.1];exact hl
  grind
 ·have:=h'.2 (j-F l) (by simp at g;omega);simp only[zAL]at this⊢;rw[zML hl,zML (by rw[h.1];exact hl),h.1];exact this
theorem Rd.int{k:IntKind}(v:P.underlying t=Z (.int k))(hc:P.cellsOf t=1):Rd P t 1 (λn:E=>[.int k n]):=⟨λ_=>rfl,hc,λenc w fuel cs x h hw=>by
 obtain⟨n,rfl,_⟩:=DataW.trod_int v h;exact⟨n,.one rfl⟩⟩
variable{n:U}{a:Addr}
theorem zBp(h:w.cells? 0 a n=Z cs):F cs=n/\∀j,j<n->w.cell? (a.add j)=Z (cs.getD j undef):=by
 unfold World.cells? at h;rw[zAB<|zMK _]at h;have m:F cs=n:=by simpa using Lib.mapM_length h
 refine⟨m,λj g=>?_⟩;obtain⟨b,h1,h2⟩:=Lib.mapM_at h j j (by simp[g])
 grind
theorem zS0(h:w.cell? a=Z v):∃b o,a=⟨b,o,V⟩:=by
 obtain⟨b,o,r⟩:=a;cases r with
 |none=>exact⟨b,o,rfl⟩
 |some r=>
  grind[World.cell?]
theorem zCm(b o x:U):(⟨b,o,V⟩:Addr).add x=⟨b,o+x,V⟩:=by
 grind[Addr.add]
variable{α:Type}
theorem Rd.row[Inhabited α]{c:α->O DV}(v:P.underlying t=Z (.slice e))(K:0<P.bytesOf e)(N:0<m)(f:Rd P e m c){Ϙ:Type}(enc:ψ×μ->Ϙ)(w:κ)(fuel:U)(cs:O μ)(x:DataW Ϙ×O MemPlace)(h:DataW.trod enc P w 0 (λ_=>T) T fuel t cs=Z x)(R:∀n∈x.1.weights P t,n<=reachBytes):
 ∃(Ϝ:O α) (a:A Addr) (cap:U),cs= [.slice a (F Ϝ) cap]/\F Ϝ<=cap/\F Ϝ<=LB/\∀i j,i<F Ϝ->j<m->∃b o u,a=Z ⟨b,o,V⟩/\w.cell? ⟨b,o+(i*m+j),V⟩=Z u/\AJ (λ_=>False) w ((c<|M Ϝ i ξ).getD j .any) [] u:=by
 rcases Deep.open_slice v h with⟨rfl,_⟩|⟨a,len,cap,q,n,ϑ,Pl,rfl,_,W,SM,r,Q,z⟩
 ·exact⟨[],V,0,rfl,zAf _,zMK _,λi j hi=>τ hi<|zAR i⟩
 ·simp only[zN6]at r;subst r;subst Q
  have plain:0<len->∃b o,a=⟨b,o,V⟩:=λh0=>by
   obtain⟨G,g,_⟩:=z 0 Z2;obtain⟨S,l⟩:=zBp g;have I:=l 0 (by rw[f.2.1];exact N)
   grind[Addr.add,zS0]
  have s:∀i,i<len->∃y:α,∀j,j<m->∃b o u,a=⟨b,o,V⟩/\w.cell? ⟨b,o+(i*m+j),V⟩=Z u/\AJ (λ_=>False) w ((c y).getD j .any) [] u:=λi hi=>by
   obtain⟨G,g,X⟩:=z i Z2
   obtain⟨y,h3,Y⟩:=f.2.2 enc w n G _ X λk hk=>R k (by
    simp only[DataW.weights,v];refine zMO _<|zTV _<|sQ (Ϛ:=ϑ i) ?_ hk
    grind)
   obtain⟨S,l⟩:=zBp g;obtain⟨b,o,rfl⟩:=plain Z2;refine⟨y,λj p=>?_⟩;have I:=l j (by rw[f.2.1];exact p);refine⟨b,o,_,rfl,?_,Y j<|by rw[f.1];exact p⟩;rw[←I,f.2.1,zCm,zCm,zTh]
  have J:∃Ϝ:O α,F Ϝ=len/\∀i,i<len->∀j,j<m->∃b o u,a=⟨b,o,V⟩/\w.cell? ⟨b,o+(i*m+j),V⟩=Z u/\AJ (λ_=>False) w ((c<|M Ϝ i ξ).getD j .any) [] u:=by
   refine⟨(θ len).map λi=>if hi:i<len then(s i hi).choose else ξ,Z3,λi hi=>?_⟩
   grind
  obtain⟨Ϝ,rfl,J⟩:=J;refine⟨Ϝ,Z a,_,rfl,W,?_,λi j hi p=>?_⟩
  ·have hk:=R ((F Ϝ+(q-F Ϝ))*P.bytesOf e) (by
    grind[DataW.weights])
   have g:=Nat.le_mul_of_pos_right (F Ϝ+(q-F Ϝ)) K
   grind[reachBytes,LB]
  grind
theorem Rd.rows[Inhabited α]{c:α->O DV}(v:P.underlying t=Z (.slice e))(hc:P.cellsOf t=1)(b:0<P.bytesOf e)(z:0<m)(f:Rd P e m c):Rd P t 1 (λϜ:O α=>[.sl m (F Ϝ)<|AM c Ϝ]):=⟨λ_=>rfl,hc,λenc w fuel cs x h R=>by
 obtain⟨Ϝ,a,cap,rfl,g,k,h3⟩:=Rd.row v b z f enc w fuel cs x h R;refine⟨Ϝ,Ob.one ⟨a,cap,rfl,g,k,λi j hi hj=>?_⟩⟩
 grind⟩
def Rd.ints(v:P.underlying t=Z (.slice e))(hc:P.cellsOf t=1)(c:0<P.bytesOf e)(f:P.underlying e=Z (.int .i64))(X:P.cellsOf e=1):Rd P t 1 AW:=⟨λ_=>rfl,hc,λenc w fuel cs x h R=>by
 obtain⟨Ϝ,a,cap,rfl,g,i,k⟩:=Rd.row v c zO6 (Rd.int f X) enc w fuel cs x h R;refine⟨Ϝ,.one ⟨a,cap,rfl,g,i,λj l=>?_⟩⟩;obtain⟨b,o,u,p,m,n⟩:=k j 0 l zO6;refine⟨b,o,p,λh=>h,?_⟩;have:u=.int .i64 (M Ϝ j 0):=n;rw[←this,←m];simp⟩
def Fq(P:ν):O Field->U->U->{α:Type}->(α->O DV)->Prop:=λz o n {α} c=>∀(Ϙ:Type) (enc:ψ×μ->Ϙ) (w:κ) (fuel:U) (cs:O μ) (xs:O<|DataW Ϙ×O MemPlace),F cs=n->(z.mapM λf=>DataW.trod enc P w 0 (λ_=>T) T fuel f.type<|(cs.drop f.offset).take<|P.cellsOf f.type)=Z xs->(∀k∈DataW.weightsEach P (z.map (·.type)) (xs.map (·.1)),k<=reachBytes)->∃y:α,Ob w (cs.drop o)<|c y
variable{o:U}
def Fq.nil(ho:n=o):Fq P [] o n (λ_:Unit=>[]):=λ_ enc w fuel cs xs hl _ _=>⟨(),by rw[List.drop_of_length_le Z2];exact⟨rfl,λj g=>τ g<|zAR j⟩⟩
variable{β:Type}
theorem Fq.cons{c:α->O DV}{b:β->O DV}{f:Field}{g:O Field}(j:f.offset=o)(i:Rd P f.type m c)(l:Fq P g (o+m) n b):Fq P (f::g) o n (λx:α×β=>c x.1++b x.2):=λ_ enc w fuel cs xs p h R=>by
 rw[List.mapM_cons]at h;obtain⟨a,q,h⟩:=Option.bind_eq_some_iff.1 h;obtain⟨ys,Y,e⟩:=Option.bind_eq_some_iff.1 h;cases e;obtain⟨y,r⟩:=i.2.2 enc w fuel _ a q λk hk=>R k (by grind[DataW.weightsEach])
 obtain⟨z,s⟩:=l _ enc w fuel cs ys p Y λk hk=>R k (by grind[DataW.weightsEach])
 refine⟨(y,z),?_⟩
 have:cs.drop o=(cs.drop f.offset).take (P.cellsOf f.type)++cs.drop (o+m):=by
  rw[j,i.2.1,←zT1]
  grind[List.take_append_drop]
 rw[this];exact r.app s
theorem Rd.struct{c:α->O DV}{n:β->O DV}{z:υ Field}(v:P.underlying t=Z (.struct z))(hc:P.cellsOf t=m)(l:Fq P z.toList 0 m c)(g:α->β)(hg:∀x,c x=n (g x))(a:∀x,F (n x)=m):Rd P t m n:=⟨a,hc,λenc w fuel cs x h R=>by
 cases fuel with
 |zero=>simp[DataW.trod]at h
 |succ fuel=>
  unfold DataW.trod at h;rw[v]at h;simp only at h;split at h
  ·rename_i b;obtain⟨xs,f,e⟩:=zMb.1 h;subst e;obtain⟨y,hy⟩:=l _ enc w fuel cs xs (by rw[b,hc]) f λk hk=>R k (by simp only[DataW.weights,v];exact hk)
   grind
  ·cases h⟩
end
end
section
open Go.ChangeShapes Go.WideShapes Go.ChangeAt
def OY(P:ν)(t:ψ){α:Type}(Ϛ:α->DV):Prop:=∀{Ϙ:Type} (enc:ψ×μ->Ϙ) (w:κ) (c:U) (v:μ) (x:DataW Ϙ) (W:O MemPlace),Value.okWide P w .any c t v->DataW.Trod enc P w 0 (λ_=>T) T t v x W->(∀n∈x.weights P t,n<=reachBytes)->∃y:α,AJ (λ_=>False) w (Ϛ y) [] v
section
variable{P:ν}{t e:ψ}
variable{α:Type}
def OY.one{c:α->O DV}(b:P.underlying t=Z (.slice e))(h:Rd P t 1 c):OY P t λx=>(c x).getD 0 .any:=λenc w E3 v x ps g ⟨fuel,f⟩ R=>by
 obtain⟨a,len,cap,rfl⟩:=okWide_slice b g;obtain⟨y,h1,i⟩:=h.2.2 enc w fuel _ _ f R;exact⟨y,by simpa[Value.cells]using i 0 (by rw[h.1];exact zO6)⟩
theorem OY.agg{m:U}{c:α->O DV}{a:υ Field}(b:P.underlying t=Z (.struct a))(h:Rd P t m c):OY P t λx=>.agg m<|L1<|c x:=λenc w E3 v x ps f ⟨fuel,i⟩ R=>by
 obtain⟨cs,rfl,FJ⟩:=okWide_struct b f;obtain⟨y,k,l⟩:=h.2.2 enc w fuel _ _ i R;have z:F (c y)=m:=h.1 y
 have J:cs.size=m:=by
  have:F cs.toList=F (c y):=k;simpa[z]using this
 refine⟨y,cs,rfl,J,λj g=>?_⟩;have:=l j (by rw[z];exact g);refine⟨cs[j]'Z2,by simp[J,g],?_⟩
 have e:(Value.agg cs).cells.toList.getD j undef=cs[j]'Z2:=by
  show cs.toList.getD j undef=_
  grind
 rw[e]at this;exact this
def NC(P:ν)(W:O ψ){α:Type}(ds:α->O DV):Prop:=∀{Ϙ:Type} (enc:ψ×μ->Ϙ) (w:κ) (c:U) (vs:O μ) (xs:O<|DataW Ϙ) (a:O MemPlace),(∀(j:U) t v,W[j]?=Z t->vs[j]?=Z v->Value.okWide P w .any c t v)->DataW.TrodAll enc P w 0 (λ_=>T) T W vs xs a->(∀n∈DataW.weightsEach P W xs,n<=reachBytes)->∃y:α,F (ds y)=F vs/\∀j,j<F vs->AJ (λ_=>False) w ((ds y).getD j .any) [] (vs.getD j undef)
theorem NC.nil:NC P [] (λ_:Unit=>[]):=λenc w E3 vs xs ps _ h _=>by
 obtain⟨rfl,_,_⟩:=trodAll_nil h
 simp_all
theorem NC.cons{β:Type}{Ϛ:α->DV}{ds:β->O DV}{W:O ψ}(h:OY P t Ϛ)(l:NC P W ds):NC P (t::W) (λx:α×β=>Ϛ x.1::ds x.2):=λenc w e vs xs ps g h0 R=>by
 obtain⟨v,Y,x,f,p,q,rfl,rfl,rfl,i,k⟩:=trodAll_cons h0;obtain⟨y,hy⟩:=h enc w e v x p (g 0 t v rfl rfl) i λn s=>R n (by grind[DataW.weightsEach])
 obtain⟨z,c,hz2⟩:=l enc w e Y f q (λj m o a b=>g (j+1) m o (by simpa using a)<|by simpa using b) k λn s=>R n (by grind[DataW.weightsEach])
 refine⟨(y,z),by simp[c],λj hj=>?_⟩
 grind
variable{W K:κ}{Ϙ:Type}
def sf{enc:ψ×μ->Ϙ}(m:laidOutB P=T)(s:A9 W K):∀{a:O ψ} {vs:O μ} {ds:O (DataW Ϙ)} {c:O MemPlace},(∀t∈a,P.readableRec t=T/\t<P.types.size)->DataW.TrodAll enc P W 0 (λ_=>T) T a vs ds c->(∀x∈c,x.block<W.heap.size)->DataW.TrodAll enc P K 0 (λb=>decide (b<W.heap.size)) T a vs ds c
 |[],_,_,_,_,h,_=>by
  obtain⟨rfl,rfl,rfl⟩:=trodAll_nil h;rfl
 |t::a,_,_,_,i,h,R=>by
  obtain⟨v,CI,x,sA,p,q,rfl,rfl,rfl,f,g⟩:=trodAll_cons h;exact⟨p,q,Below.trod m (i t Z3).1 (i t Z3).2 f s λx e=>R x<|zTV _ e,sf m s (λt j=>i t<|by simp[j]) g λx e=>R x<|zOU _ e,rfl⟩
variable{tb:ψ}{Y:O MemPlace}{args:υ μ}{s:ChangeSpec}{f:Func}
def zJD{enc:ψ×μ->Ϙ}{ds gs:O (DataW Ϙ)}(m:laidOutB P=T)(i:∀t∈f.params.toList,P.readableRec t=T/\t<P.types.size)(a:A9 W K)
 (N:DataW.Whole enc P f.params.toList s.vars D W args.toList ds gs Y) (o:s.vars= []) (l:s.fn Ϙ (ds++gs)= { results:=[.lit<|.bool T],args:=ds }) (c:f.resultTypes= #[tb]) (g:P.underlying tb=Z .bool):
 s.post enc P f D T D D W args (.bool T) K:=by
 have j:=N;have R:=N.lt;obtain⟨p,q,k,b,rfl,IX,A1⟩:=N;rw[o]at b;obtain⟨rfl,rfl⟩:=trodVars_none b;have u:=sf m a i k λx e=>R x<|zTV _ e
 refine⟨ds,[],p++[],[],p,[],j,?_,?_,?_,World.keptBut_mono (λx e=>⟨e,.inr<|.inl<|by simpa using e⟩) (Below.frame a (· ∈p++[])),λh=>by cases h⟩
 ·rw[l,c];exact trodAll_mk1<|shut_bool g T
 ·rw[l];exact u
 ·rw[o,l];rfl
theorem zLG{enc:ψ×μ->Ϙ}{Γ:A2}{u:U}{k:U}{ds gs:O (DataW Ϙ)}{dv:α->O DV}(m:laidOutB P=T)(o:∀t∈f.params.toList,P.readableRec t=T/\t<P.types.size)
 (c:NC P f.params.toList dv) (r:∀(w:κ) (y:α),(∀j,AJ (λ_=>False) w ((dv y).getD j .any) []<|args.getD j undef)->ES P Γ u (dv y) [] (.bool T) [] T)
 (x:∀(j:U) t v,f.params[j]?=Z t->args[j]?=Z v->Value.okWide P W .any k t v) (N:DataW.Whole enc P f.params.toList s.vars D W args.toList ds gs Y) (z:s.vars= []) (I:s.fn Ϙ (ds++gs)= { results:=[.lit<|.bool T],args:=ds }) (J:f.resultTypes= #[tb]) (Q:P.underlying tb=Z .bool)
 (Bh:(DataW.weightsEach P f.params.toList ds).all (· <=reachBytes)=T) (R:Γ.gi W):Calls P u args W λe K=>∃v,e=.returned v/\s.post enc P f D T D D W args v K:=by
 have S:=N;obtain⟨p,q,X,hV,rfl,IX,A1⟩:=N
 obtain⟨y,h1,h2⟩:=c enc W k args.toList ds p (λj t v a b=>x j t v (by simpa using a)<|by simpa using b) X λn hn=>by
  grind
 have Aj:F (dv y)=args.size:=by simpa using h1
 have l:∀j,AJ (λ_=>False) W ((dv y).getD j .any) []<|args.getD j undef:=λj=>by
  rcases zCv j args.size with hj|hj
  ·simp_all
  ·have:(dv y).getD j .any=.any:=Z4
   rw[this];trivial
 refine((r W y l).2 (λ_=>False) [] W args (Ut (λb g=>g.elim) R) ⟨Aj,λi hi=>?_⟩).mono ?_
 ·exact AJ.out _ (DU (λb g=>TD.1 g) [])<|l i
 ·rintro e K ⟨v,rfl,G⟩;obtain⟨ρ',_,h,_⟩:=G.ex;have h:v=.bool T:=h;subst h;exact⟨_,rfl,zJD m o (G.ext rfl) S z I J Q⟩
end
end
section
open Go.ChangeShapes Go.WideShapes Go.ChangeAt
def own:ownKnob Tryz.prog.godebug=V:=Z5
def zLL:laidOutB B=T:=Z5
def zR5:0<Tryz.prog.bytesOf 3:=zMQ Z5
def NY:Rd B 3 1 (λn:E=>[.int .i64 n]):=Rd.int Tryz.underlying3 Z5
def XT:Rd B 22 1 AW:=Rd.ints Tryz.underlying22 Z5 zR5 Tryz.underlying3 Z5
def zIf:Rd B 23 1 (λϜ:O Ξ=>[.sl 1 (F Ϝ)<|AM AW Ϝ]):=Rd.rows Tryz.underlying23 Z5 (zMQ Z5) zO6 XT
set_option maxRecDepth 100000 in
def zIi:Rd B 65 9 BD:=by
 refine Rd.struct Tryz.underlying65 Z5
  (Fq.cons rfl NY<|Fq.cons rfl XT<|Fq.cons rfl NY<|Fq.cons rfl NY<|Fq.cons rfl NY<|Fq.cons rfl NY<|Fq.cons rfl XT<|Fq.cons rfl NY<|Fq.cons rfl NY<|Fq.nil rfl)
  (λx:E×Ξ×E×E×E×E×Ξ×E×E×Unit=>(⟨x.1,x.2.1,x.2.2.1,x.2.2.2.1,x.2.2.2.2.1,x.2.2.2.2.2.1,x.2.2.2.2.2.2.1,x.2.2.2.2.2.2.2.1,x.2.2.2.2.2.2.2.2.1⟩:AE)) ?_ λ_=>rfl
 intro x;rfl
def zIh:Rd B 24 1 (λϜ:O AE=>[.sl 9 (F Ϝ)<|AM BD Ϝ]):=Rd.rows Tryz.underlying24 Z5 (zMQ Z5) Z6 zIi
set_option maxRecDepth 100000 in
def zIg:Rd B 26 5 AG:=by
 refine Rd.struct Tryz.underlying26 Z5
  (Fq.cons rfl NY<|Fq.cons rfl NY<|Fq.cons rfl XT<|Fq.cons rfl zIf<|Fq.cons rfl zIh<|Fq.nil rfl)
  (λx:E×E×Ξ×O Ξ×O AE×Unit=>(⟨x.1,x.2.1,x.2.2.1,x.2.2.2.1,x.2.2.2.2.1⟩:AA)) ?_ λ_=>rfl
 intro x;rfl
def zGx:OY B 26 (λq:AA=>.agg 5<|L1<|AG q):=OY.agg Tryz.underlying26 zIg
def vM:OY B 22 (λl:Ξ=>.ints l):=OY.one Tryz.underlying22 XT
def DT.of{ϗ:Ψ}{w:κ}{ρ:O AK}{q:AA}{v:μ}(h:AJ ϗ w (.agg 5<|L1<|AG q) ρ v):DT q:=by
 obtain⟨cs,_,_,hc⟩:=h
 have row:∀{α:Type} [Inhabited α] {m:U} {c:α->O DV} {Ϝ:O α} {u:μ},0<m->AJ ϗ w (.sl m (F Ϝ)<|AM c Ϝ) ρ u->∀x∈Ϝ,∀j,j<m->∃u,AJ ϗ w ((c x).getD j .any) [] u:=by
  intro α _ m c Ϝ u hm ⟨a,cap,_,_,_,k⟩ x l j n;obtain⟨i,hi,rfl⟩:=zJw l;obtain⟨b,o,u,_,_,_,f⟩:=k i j hi n;refine⟨u,?_⟩;have e:M Ϝ i ξ=Ϝ[i]:=by simp[hi]
  have f:AJ ϗ w ((c<|M Ϝ i ξ).getD j .any) [] u:=f;rw[e]at f;exact f
 refine⟨?_,λr f=>?_,λc g=>?_,λc g=>?_⟩
 ·obtain⟨u,_,p⟩:=hc 2 Z6;exact YL p
 ·obtain⟨u,_,s⟩:=hc 3 Z6;obtain⟨u,h⟩:=row (c:=AW) (Ϝ:=q.nb) zO6 s r f 0 zO6;exact YL h
 ·obtain⟨u,_,R⟩:=hc 4 Z6;obtain⟨u,h⟩:=row (c:=BD) (Ϝ:=q.cons) Z6 R c g 1 Z6;exact YL h
 ·obtain⟨u,_,R⟩:=hc 4 Z6;obtain⟨u,h⟩:=row (c:=BD) (Ϝ:=q.cons) Z6 R c g 6 Z6;exact YL h
def zAe:Tryz.prog.globalNamed "math/bits.deBruijn64tab" =Z 1:=Z5
def zPT:(Tryz.prog.globals[1]?).map (·.type)=Z 213:=Z5
abbrev nV{Ϙ:Type}:O<|String×DataW Ϙ:=[("math/bits.deBruijn32tab",Rows.laid_math_bits_deBruijn32tab),("math/bits.deBruijn64tab",Rows.laid_math_bits_deBruijn64tab)]
variable{W:κ}
def zDr(h:laidMetH B nV W):Lib.TabIs B W "math/bits.deBruijn64tab" .u8<|Lib.deBruijn64tab.map Int.ofNat:=
 Lib.tabIs_of_head (rest:=[]) zAe zPT Tryz.underlying213 Tryz.underlying5 Z5 Z5 (laidMet.tail<|show laidMet B nV W from h)
def zDq(h:laidMetH B nV W):GG.gi W:=by
 have ϒ:=zDr h;have c:∀j,j<64->W.cell? ⟨1,j,V⟩=Z (.int .u8<|M (Lib.deBruijn64tab.map Int.ofNat) j 0):=λj g=>ϒ.cell zAe j (by rw[zAS];exact g)
 refine⟨λj g=>?_,?_⟩
 ·have g:j<64:=g;rw[c j g]
  have:M (Lib.deBruijn64tab.map Int.ofNat) j 0=((M Lib.deBruijn64tab j 0:U):E):=by
   have m:j<F Lib.deBruijn64tab:=g;simp[zAL,m]
  rw[this]
 ·have:=zMU W _<|c 0 Z6;exact this
def yh(l:Θ)(o:Obj):Obj:=match o with
 | .cells _ t frozen=>.cells (l.map λn=>Value.int .u8<|Int.ofNat n).toArray t frozen
 |o=>o
noncomputable def nU (os:Os):κ:={ World.holding B os ⟨#[],#[],[]⟩with heap:=((World.holding B os ⟨#[],#[],[]⟩).heap.modify 0<|yh Lib.deBruijn32tab).modify 1 (yh Lib.deBruijn64tab) }
def dQ:μ:=.agg #[.int .i64 0,.int .i64 0,.slice V 0 0,.slice V 0 0,.slice V 0 0]
end
section
open Go.ChangeShapes Go.WideShapes Go.ChangeAt
structure Qf(q:AA):Prop where
 nb:F q.nb<=LB
 cons:F q.cons<=LB
def Qf.of{ϗ:Ψ}{w:κ}{ρ:O AK}{q:AA}{v:μ}(h:AJ ϗ w (.agg 5<|L1<|AG q) ρ v):Qf q:=by
 obtain⟨cs,_,_,hc⟩:=h;have row:∀{m k:U} {f:U->U->DV} {u:μ},AJ ϗ w (.sl m k f) ρ u->k<=LB:=λ⟨_,_,_,_,h,_⟩=>h
 obtain⟨_,_,a⟩:=hc 3 Z6;obtain⟨_,_,R⟩:=hc 4 Z6;exact⟨row a,row R⟩
end
section
variable{q:AA}
theorem qR(a:DT q)(c:Qf q):∀(k j:U) (x:E),j+k=F q.cons->0<=x->x<=562949953421312->∃b,Ev (λn=>Hm q n<|.l2 x (j:E)) b/\(b=T->q.ce<=16/\q.sy<=4)
 |0,j,x,e,h0,f=>by
  refine⟨H (x<200)&&(H (q.ce<=16)&&H (q.sy<=4)),Ev.one λn=>?_,λh=>?_⟩
  ·grind[SZ,Hm]
  grind
 |k+1,j,x,e,h0,f=>by
  have hj:j<F q.cons:=Z2
  have hb:LB=140737488355328:=rfl;have hc:=c.cons
  have z:M q.cons j ξ∈q.cons:=by
   grind
  have c1:=a.ce _ z;have c2:=a.ru _ z
  by_cases g:x<200
  ·obtain⟨b,i,K⟩:=qR a c k (j+1) (x+(((F (M q.cons j ξ).ce:U):E)+((F (M q.cons j ξ).ru:U):E))) Z2 Z2 Z2
   by_cases X:(M q.cons j ξ).kind=5/\9<F (M q.cons j ξ).ce
   ·refine⟨D,Ev.one λn=>?_,λh=>by cases h⟩
    show SZ n (Hm q n) q x (j:E)=_
    unfold SZ;rw[zAA Z2,zAI,zAA g,zAI];simp only[u8];rw[zAB (by grind[Ae]),show((M q.cons j ξ).kind==5)=T from zB1.2 X.1,zAI,zAA Z2,zAI]
   ·refine⟨b,AX.ev (m:=Hm q) (AX.one λn=>?_) i,K⟩
    show SZ n (Hm q n) q x (j:E)=_
    unfold SZ;rw[zAB<|by grind[Ae]];simp only[zAB<|show AI ((j:E)+1)from Ae.2 ⟨Z2,Z2⟩]
    grind
  simp_all[Ev.one,SZ,Hm,zAF]
theorem zAu(c:DT q)(f:Qf q):∀(k j:U) (x:E),j+k=F q.nb->0<=x->x<=562949953421312->∃b,Ev (λn=>Hm q n<|.l1 x (j:E)) b/\(b=T->q.ce<=16/\q.sy<=4)
 |0,j,x,e,h0,g=>by
  obtain⟨b,a,K⟩:=qR c f (F q.cons) 0 x Z2 h0 g;refine⟨b,AX.ev (m:=Hm q) (AX.one λn=>?_) a,K⟩
  simp_all[Zc,Hm]
 |k+1,j,x,e,h0,g=>by
  have hb:LB=140737488355328:=rfl;have hc:=f.nb
  have z:M q.nb j []∈q.nb:=by
   grind
  have c1:=c.nb _ z
  by_cases h:x<200
  ·obtain⟨b,a,K⟩:=zAu c f k (j+1) (x+((F<|M q.nb j []:U):E)) Z2 Z2 Z2;refine⟨b,AX.ev (m:=Hm q) (AX.one λn=>?_) a,K⟩
   show Zc n (Hm q n) q x (j:E)=_
   unfold Zc;rw[zAA Z2,zAI,zAA h,zAI];simp only[u8];rw[zAB (by grind[Ae]),show((j+1:U):E)=(j:E)+1 by omega]
  ·obtain⟨b,a,K⟩:=qR c f (F q.cons) 0 x Z2 h0 g;refine⟨b,AX.ev (m:=Hm q) (AX.one λn=>?_) a,K⟩
   grind[Zc,Hm]
def zP7(k:DT q)(c:Qf q):∃b,Ev (λn=>iK n q) b/\(b=T->q.ce<=16/\q.sy<=4):=by
 have hb:LB=140737488355328:=rfl;have c1:=k.va;have c2:=c.nb;have c3:=c.cons;obtain⟨b,e,K⟩:=zAu k c (F q.nb) 0 ((F q.va:E)+(F q.nb:E)+(F q.cons:E)) Z2 Z2 Z2;refine⟨b,e.eq λn=>?_,K⟩;unfold iK zAv;rw[zAB<|by simp only[Ae];omega];rfl
end
section
set_option maxRecDepth 100000
set_option maxHeartbeats 40000000
inductive GM where
 |l1 (x6 Jy:E)
 |l2 (x9:U) (BA:E) (o1:O Ξ)
 |l3 (Ab BA:E) (Qm:U) (CP:E) (o1:O Ξ)
 |l4 (Ql:U) (Dx:E) (o1:O Ξ)
 |l5 (Ab:E) (Bl:Ξ) (BF BA:E) (Ce:O Ξ) (CP CV:E)
 |l6 (x4:U) (C4:O Ξ) (Dx Cd:E) (o1:O Ξ)
 |l7 (C4:O Ξ) (Dx Cd:E)
 |l8 (Ab:E) (A4:U) (Bl:Ξ) (BF BA:E) (Ce:O Ξ) (CP CV:E) (o1:O Ξ)
 |l9 (Ab BA:E) (Ce:O Ξ) (CP CV:E)
 |l10 (Ab:E) (A4:U) (BA:E) (Ce:O Ξ) (CP CV:E) (o1:O Ξ)
 |l11 (BA:E)
 |l12 (Ab BA:E)
 |l13
def br(n:U)(self:GM->X2)(q:AA)(pos:Ξ)(x6 I:E):X2:=L (H<|I<(F pos:E)) (C (0<=I/\I<(F pos:E)) ((cA n<|M pos I.toNat 0).bind λf=>C (AI<|x6*C (1>f) 1 f) (L (H<|(x6*C (1>f) 1 f)>1024) (Z (([]:O Ξ),D))<|C (AI<|I+1) (self<|.l1 (x6*C (1>f) 1 f)<|I+1) V) V) V)<|self<|.l2 1 0 ([([]:Ξ)]:O Ξ)
def ko(n:U)(self:GM->X2)(q:AA)(pos:Ξ)(v:U)(s:E)(o1:O Ξ):X2:=L (H<|s<(F pos:E)) (C (0<=s/\s<(F pos:E)) (self<|.l3 (M pos s.toNat 0) s v (v:E) o1) V)<|self<|.l4 v (v:E) o1
def kn(n:U)(self:GM->X2)(q:AA)(pos:Ξ)(a s:E)(l:U)(w:E)(o1:O Ξ):X2:=L (H<|0<w) (C (l=F o1) (C ((0:E)<=0/\0<(F o1:E)) (self<|.l5 a (M o1 0 []) 0 s o1 w 0) V) V)<|C (AI<|s+1) (self<|.l11<|s+1) V
def km(n:U)(self:GM->X2)(q:AA)(pos:Ξ)(m:U)(K:E)(o1:O Ξ):X2:=L (H<|0<K) (C (m=F o1) (C ((0:E)<=0/\0<(F o1:E)) ((L6 n q<|M o1 0 []).bind λf=>L f.1 (self<|.l6 (F ([M o1 0 []]:O Ξ)) o1 K 1 ([M o1 0 []]:O Ξ))<|self<|.l7 o1 K 1) V) V)<|Z (([]:O Ξ),T)
def Qz(n:U)(self:GM->X2)(q:AA)(pos:Ξ)(a:E)(g:Ξ)(W s:E)(b:O Ξ)(w N:E):X2:=L (H<|W<q.sy) (C (0<=IntKind.u64.wrap W/\IntKind.u64.wrap W<=(IntKind.i64.bits:E)) (L (bits .and .i64 (a/2^(IntKind.u64.wrap W).toNat) 1==1) (C ((True/\(0=0/\0=F ([]:Ξ))/\F ([]:Ξ)+F g<=Av)/\F (([]:Ξ)++g)+F ([W]:Ξ)=F ((([]:Ξ)++g)++([W]:Ξ))/\((0=0/\1=F ([W]:Ξ))/\(0=0/\F ([]:Ξ)+F g=F (([]:Ξ)++g))/\F (([]:Ξ)++g)+F ([W]:Ξ)<=Av)/\AI (W+1)) (self<|.l8 a (F ([(([]:Ξ)++g)++([W]:Ξ)]:O Ξ)) g (W+1) s b w N ([(([]:Ξ)++g)++([W]:Ξ)]:O Ξ)) V)<|C (AI<|W+1) (self<|.l5 a g (W+1) s b w N) V) V)<|C (AI<|N+1) (self<|.l9 a s b w<|N+1) V
def bp(n:U)(self:GM->X2)(q:AA)(pos:Ξ)(c:U)(I:O Ξ)(K P:E)(o1:O Ξ):X2:=L (H<|P<K) (C (0<=P/\P<(F I:E)) ((L6 n q<|M I P.toNat []).bind λf=>L f.1 (C (c=F o1/\F o1+F ([M I P.toNat []]:O Ξ)<=Av/\AI (P+1)) (self<|.l6 (F o1+F ([M I P.toNat []]:O Ξ)) I K (P+1)<|o1++([M I P.toNat []]:O Ξ)) V)<|C (AI<|P+1) (self<|.l6 c I K (P+1) o1) V) V)<|C (c=F o1) (Z (o1,T)) V
def bo(n:U)(self:GM->X2)(q:AA)(pos:Ξ)(I:O Ξ)(K P:E):X2:=L (H<|P<K) (C (0<=P/\P<(F I:E)) ((L6 n q<|M I P.toNat []).bind λf=>L f.1 (C (AI<|P+1) (self<|.l6 (F ([M I P.toNat []]:O Ξ)) I K (P+1) ([M I P.toNat []]:O Ξ)) V)<|C (AI<|P+1) (self<|.l7 I K<|P+1) V) V)<|Z (([]:O Ξ),T)
def Qy(n:U)(self:GM->X2)(q:AA)(pos:Ξ)(a:E)(m:U)(g:Ξ)(W s:E)(b:O Ξ)(w N:E)(o1:O Ξ):X2:=L (H<|W<q.sy) (C (0<=IntKind.u64.wrap W/\IntKind.u64.wrap W<=(IntKind.i64.bits:E)) (L (bits .and .i64 (a/2^(IntKind.u64.wrap W).toNat) 1==1) (C ((True/\(0=0/\0=F ([]:Ξ))/\F ([]:Ξ)+F g<=Av)/\F (([]:Ξ)++g)+F ([W]:Ξ)=F ((([]:Ξ)++g)++([W]:Ξ))/\((0=0/\1=F ([W]:Ξ))/\(0=0/\F ([]:Ξ)+F g=F (([]:Ξ)++g))/\F (([]:Ξ)++g)+F ([W]:Ξ)<=Av)/\m=F o1/\F o1+F ([(([]:Ξ)++g)++([W]:Ξ)]:O Ξ)<=Av/\AI (W+1)) (self<|.l8 a (F o1+F ([(([]:Ξ)++g)++([W]:Ξ)]:O Ξ)) g (W+1) s b w N<|o1++([(([]:Ξ)++g)++([W]:Ξ)]:O Ξ)) V)<|C (AI<|W+1) (self<|.l8 a m g (W+1) s b w N o1) V) V)<|C (AI<|N+1) (self<|.l10 a m s b w (N+1) o1) V
def bk(n:U)(self:GM->X2)(q:AA)(pos:Ξ)(a s:E)(b:O Ξ)(w N:E):X2:=L (H<|N<w) (C (0<=N/\N<(F b:E)) (self<|.l5 a (M b N.toNat []) 0 s b w N) V)<|C (AI<|s+1) (self<|.l11<|s+1) V
def bq(n:U)(self:GM->X2)(q:AA)(pos:Ξ)(a:E)(m:U)(s:E)(b:O Ξ)(w N:E)(o1:O Ξ):X2:=L (H<|N<w) (C (0<=N/\N<(F b:E)) (self<|.l8 a m (M b N.toNat []) 0 s b w N o1) V)<|C (AI<|s+1) (self<|.l2 m (s+1) o1) V
def We(n:U)(self:GM->X2)(q:AA)(pos:Ξ)(s:E):X2:=L (H<|s<(F pos:E)) (C (0<=s/\s<(F pos:E)) (self<|.l12 (M pos s.toNat 0) s) V)<|self<|.l13
def kq(n:U)(self:GM->X2)(q:AA)(pos:Ξ)(Ab s:E):X2:=C (AI<|s+1) (self<|.l11<|s+1) V
def zEq(n:U)(self:GM->X2)(q:AA)(pos:Ξ):X2:=Z (([]:O Ξ),T)
def zEr(n:U)(self:GM->X2)(q:AA)(pos:Ξ):X2:=(iK n q).bind λf=>L (!f) (Z (([]:O Ξ),D))<|(XC n q pos).bind λG=>L (G != 0) (Z (([]:O Ξ),D))<|self<|.l1 1 0
def B8(q:AA)(pos:Ξ):U->GM->X2
 |0,_=>V
 |n+1,.l1 x6 c=>br n (B8 q pos n) q pos x6 c
 |n+1,.l2 v s o1=>ko n (B8 q pos n) q pos v s o1
 |n+1,.l3 a s l w o1=>kn n (B8 q pos n) q pos a s l w o1
 |n+1,.l4 e K o1=>km n (B8 q pos n) q pos e K o1
 |n+1,.l5 a g W s b w N=>Qz n (B8 q pos n) q pos a g W s b w N
 |n+1,.l6 f I K P o1=>bp n (B8 q pos n) q pos f I K P o1
 |n+1,.l7 I K P=>bo n (B8 q pos n) q pos I K P
 |n+1,.l8 a m g W s b w N o1=>Qy n (B8 q pos n) q pos a m g W s b w N o1
 |n+1,.l9 a s b w N=>bk n (B8 q pos n) q pos a s b w N
 |n+1,.l10 a m s b w N o1=>bq n (B8 q pos n) q pos a m s b w N o1
 |n+1,.l11 s=>We n (B8 q pos n) q pos s
 |n+1,.l12 a s=>kq n (B8 q pos n) q pos a s
 |n+1,.l13=>zEq n (B8 q pos n) q pos
def kr(n:U)(q:AA)(pos:Ξ):X2:=zEr n (B8 q pos n) q pos
def zEs(n ϙ:U)(N:Yd 0)(q:AA)(pos:Ξ)(r:(O Ξ)×ζ):GM->Prop:=px n ϙ η N (FQ Tryz.f18 0 (.tup 2<|L1 [.sl 1 (F r.1)<|AM AW r.1,.bool r.2]) []) (AZ Tryz.f18) λ
 | .l1 x6 e=>(0,0,AF 99 [(1,.ints pos),(2,.ref 0 0),(4,.nils),(6,.i x6),(29,.ints pos),(30,.i (F pos:E)),(31,.i e)],[oC<|AG q])
 | .l2 v s o1=>(0,2,AF 99 [(2,.ref 0 0),(4,.nils),(9,.msl 1 1 0 v),(44,.ints pos),(45,.i (F pos:E)),(46,.i s)],[oC<|AG q,Z<|.arr 1 (F o1)<|AM AW o1])
 | .l3 a s l w o1=>(1,4,AF 99 [(2,.ref 0 0),(4,.nils),(11,.i a),(12,.nils),(44,.ints pos),(45,.i (F pos:E)),(46,.i s),(50,.msl 1 1 0 l),(51,.i w),(52,.i 0)],[oC<|AG q,Z<|.arr 1 (F o1)<|AM AW o1])
 | .l4 f K o1=>(0,8,AF 99 [(2,.ref 0 0),(4,.nils),(80,.msl 1 1 0 f),(81,.i K),(82,.i 0)],[oC<|AG q,Z<|.arr 1 (F o1)<|AM AW o1])
 | .l5 a g W s b w c=>(2,6,AF 99 [(2,.ref 0 0),(4,.nils),(11,.i a),(12,.nils),(14,.ints g),(15,.i W),(44,.ints pos),(45,.i (F pos:E)),(46,.i s),(50,.sl 1 (F b)<|AM AW b),(51,.i w),(52,.i c)],[oC<|AG q])
 | .l6 h I K P o1=>(0,8,AF 99 [(2,.ref 0 0),(4,.msl 1 1 0 h),(80,.sl 1 (F I)<|AM AW I),(81,.i K),(82,.i P)],[oC<|AG q,Z<|.arr 1 (F o1)<|AM AW o1])
 | .l7 I K P=>(0,8,AF 99 [(2,.ref 0 0),(4,.nils),(80,.sl 1 (F I)<|AM AW I),(81,.i K),(82,.i P)],[oC<|AG q])
 | .l8 a m g W s b w c o1=>(2,6,AF 99 [(2,.ref 0 0),(4,.nils),(11,.i a),(12,.msl 1 1 0 m),(14,.ints g),(15,.i W),(44,.ints pos),(45,.i (F pos:E)),(46,.i s),(50,.sl 1 (F b)<|AM AW b),(51,.i w),(52,.i c)],[oC<|AG q,Z<|.arr 1 (F o1)<|AM AW o1])
 | .l9 a s b w c=>(1,4,AF 99 [(2,.ref 0 0),(4,.nils),(11,.i a),(12,.nils),(44,.ints pos),(45,.i (F pos:E)),(46,.i s),(50,.sl 1 (F b)<|AM AW b),(51,.i w),(52,.i c)],[oC<|AG q])
 | .l10 a m s b w c o1=>(1,4,AF 99 [(2,.ref 0 0),(4,.nils),(11,.i a),(12,.msl 1 1 0 m),(44,.ints pos),(45,.i (F pos:E)),(46,.i s),(50,.sl 1 (F b)<|AM AW b),(51,.i w),(52,.i c)],[oC<|AG q,Z<|.arr 1 (F o1)<|AM AW o1])
 | .l11 s=>(0,2,AF 99 [(2,.ref 0 0),(4,.nils),(9,.nils),(44,.ints pos),(45,.i (F pos:E)),(46,.i s)],[oC<|AG q])
 | .l12 a s=>(1,4,AF 99 [(2,.ref 0 0),(4,.nils),(11,.i a),(12,.nils),(44,.ints pos),(45,.i (F pos:E)),(46,.i s),(50,.nils),(51,.i 0),(52,.i 0)],[oC<|AG q])
 | .l13=>(0,8,AF 99 [(2,.ref 0 0),(4,.nils),(80,.nils),(81,.i 0),(82,.i 0)],[oC<|AG q])
def zEt(ϙ:U)(N:Yd 0)(q:AA)(pos:Ξ):Al (B8 q pos) (zEs · ϙ N q pos):=ia (λ_=>rfl) λn I G r h=>by
 cases G
 case l1 x6 Jy=>
  intro b a;refine rd a λb a=>?_
  revert r;apply gO;exact bi 32 (gi (cf zFE [oC<|AG q] λ_=>gw 39 (bi 41 (lF λp=>el AC [4,5] [] p [] H0 [.nils,.bool D]<|AO.tupL (l:=[.nils,.bool D]) (l':=[.sl 1 (F ([]:O Ξ))<|AM AW ([]:O Ξ),.bool D]) rfl ⟨AO.sl_nil _ _,At,trivial⟩) (gw 42 (lG AC [0] (I _ _ · b a)))))) (ja 43 1 1 (ER (c:=AW) (Ϝ:=([([]:Ξ)]:O Ξ)) (vals:=[.nils]) rfl ⟨⟨_,rfl,⟨AO.ints_nil,trivial⟩⟩,trivial⟩) (lN AC [0,1] (I _ _ · n χ)))
 case l2 x9 BA o1=>
  intro b a;refine rd a λb a=>?_
  revert r;apply gO;exact bi 47 (gi (lN AC [0,1] (I _ _ · b n a χ))) (lN AC [0,1] (I _ _ · n χ))
 case l3 Ab BA Qm CP o1=>
  intro b S a e;have a:=zBE a;refine rd e λS e=>?_
  revert r;apply gO
  exact bi 53 (gn λx=>λp r h=>by
   refine gz (AQ 18 AC) [0,1] p [1] (H0.g x) (CY (AZ Tryz.f18) 18 [b,S]) (AF 99 [(2,.ref 0 0),(4,.nils),(11,.i Ab),(12,.nils),(44,.ints pos),(45,.i (F pos:E)),(46,.i BA),(50,.sl 1 (F o1)<|AM AW o1),(51,.i CP),(52,.i 0)]) [oC<|AG q,V] ?_;revert r;apply gO;exact gi (lN AC [0] (I _ _ · b S n a e χ))) (gw 79 (lG AC [0] (I _ _ · b a)))
 case l4 Ql Dx o1=>
  intro b a;refine rd a λb a=>?_
  revert r;apply gO
  exact bi 83 (gn λx=>λp r h=>by
   refine gz (AQ 29 AC) [0,1] p [1] (H0.g x) (CY (AZ Tryz.f18) 29 [b]) (AF 99 [(2,.ref 0 0),(4,.nils),(80,.sl 1 (F o1)<|AM AW o1),(81,.i Dx),(82,.i 0)]) [oC<|AG q,V] ?_;revert r;apply gO;exact gi (cf kg [oC<|AG q,V] λ_=>bi 90 (ja 95 2 1 (ER (c:=AW) (Ϝ:=([M o1 0 []]:O Ξ)) (vals:=[.ints<|M o1 0 []]) rfl ⟨⟨_,rfl,⟨At,trivial⟩⟩,trivial⟩) (jg (γ (γ (γ (φ 0)<|φ 1)<|IP AW ([M o1 0 []]:O Ξ) (F ([M o1 0 []]:O Ξ)) 1 λ_=>⟨rfl,rfl⟩)<|γ (by decide:0<1) (by decide:1<=Av)) (lG AC [0,3] (I _ _ · b a)))) (lG AC [0] (I _ _ · b a))))<|lF λp=>el AC [4,5] [] p [] H0 [.nils,.bool T]<|AO.tupL (l:=[.nils,.bool T]) (l':=[.sl 1 (F ([]:O Ξ))<|AM AW ([]:O Ξ),.bool T]) rfl ⟨AO.sl_nil _ _,At,trivial⟩
 case l5 Ab Bl BF BA Ce CP CV=>
  intro b S f a e R;have a:=zBE a;have e:=zBE e;refine rd R λf R=>?_
  revert r;apply gO;exact bi 59 (gi (bi 67 (gc (gi (gc (gn λu=>gc (gi (jz 74 4 (jg u (ja 75 5 1 (ER (c:=AW) (Ϝ:=([(([]:Ξ)++Bl)++([BF]:Ξ)]:O Ξ)) (vals:=[.ints<|(([]:Ξ)++Bl)++([BF]:Ξ)]) rfl ⟨⟨_,rfl,⟨At,trivial⟩⟩,trivial⟩) (jg (γ (γ (γ (φ 0)<|φ 1)<|IP AW ([(([]:Ξ)++Bl)++([BF]:Ξ)]:O Ξ) (F ([(([]:Ξ)++Bl)++([BF]:Ξ)]:O Ξ)) 1 λ_=>⟨rfl,rfl⟩)<|γ (by decide:0<1) (by decide:1<=Av)) (gw 61 (lG AC [0,6] (I _ _ · b S f a e R)))))))))))) (gw 61 (lG AC [0] (I _ _ · b S f a e R))))) (gw 77 (lG AC [0] (I _ _ · b S a e)))
 case l6 x4 C4 Dx Cd o1=>
  intro b a;refine rd a λb a=>?_
  revert r;apply gO;exact bi 83 (gi (cf kg [oC<|AG q,Z<|.arr 1 (F o1)<|AM AW o1] λ_=>bi 90 (ja 95 2 1 (ER (c:=AW) (Ϝ:=([M C4 Cd.toNat []]:O Ξ)) (vals:=[.ints<|M C4 Cd.toNat []]) rfl ⟨⟨_,rfl,⟨At,trivial⟩⟩,trivial⟩) (gc (gn λj=>gc (gn λu=>jg (γ (γ (γ (φ 0)<|φ 1)<|IP AW ([M C4 Cd.toNat []]:O Ξ) (F ([M C4 Cd.toNat []]:O Ξ)) 1 λ_=>⟨rfl,rfl⟩)<|γ (γ (φ 0) j) u) (ja 96 3 1 (Q8 (enc:=Sb AW) (Ϝ:=o1) (L':=([M C4 Cd.toNat []]:O Ξ)) rfl rfl λ_ _ _ _=>At) (gw 97 (lG AC [0,3] (I _ _ · b a)))))))) (gw 97 (lG AC [0,1] (I _ _ · b a)))))<|gn λx=>lF λp=>ez AC [4,5] [1] p [0]<|H0.g x
 case l7 C4 Dx Cd=>
  intro b a;refine rd a λb a=>?_
  revert r;apply gO;exact bi 83 (gi (cf kg [oC<|AG q] λ_=>bi 90 (ja 95 1 1 (ER (c:=AW) (Ϝ:=([M C4 Cd.toNat []]:O Ξ)) (vals:=[.ints<|M C4 Cd.toNat []]) rfl ⟨⟨_,rfl,⟨At,trivial⟩⟩,trivial⟩) (jg (γ (γ (γ (φ 0)<|φ 1)<|IP AW ([M C4 Cd.toNat []]:O Ξ) (F ([M C4 Cd.toNat []]:O Ξ)) 1 λ_=>⟨rfl,rfl⟩)<|γ (by decide:0<1) (by decide:1<=Av)) (gw 97 (lG AC [0,2] (I _ _ · b a))))) (gw 97 (lG AC [0] (I _ _ · b a)))))<|lF λp=>el AC [4,5] [] p [] H0 [.nils,.bool T]<|AO.tupL (l:=[.nils,.bool T]) (l':=[.sl 1 (F ([]:O Ξ))<|AM AW ([]:O Ξ),.bool T]) rfl ⟨AO.sl_nil _ _,At,trivial⟩
 case l8 Ab A4 Bl BF BA Ce CP CV o1=>
  intro b S f a e R;have a:=zBE a;have e:=zBE e;refine rd R λf R=>?_
  revert r;apply gO;exact bi 59 (gi (bi 67 (gc (gi (gc (gn λu=>gc (gi (jz 74 5 (jg u (ja 75 6 1 (ER (c:=AW) (Ϝ:=([(([]:Ξ)++Bl)++([BF]:Ξ)]:O Ξ)) (vals:=[.ints<|(([]:Ξ)++Bl)++([BF]:Ξ)]) rfl ⟨⟨_,rfl,⟨At,trivial⟩⟩,trivial⟩) (gc (gn λK=>gc (gn λt=>jg (γ (γ (γ (φ 0)<|φ 1)<|IP AW ([(([]:Ξ)++Bl)++([BF]:Ξ)]:O Ξ) (F ([(([]:Ξ)++Bl)++([BF]:Ξ)]:O Ξ)) 1 λ_=>⟨rfl,rfl⟩)<|γ (γ (φ 0) K) t) (ja 76 7 1 (Q8 (enc:=Sb AW) (Ϝ:=o1) (L':=([(([]:Ξ)++Bl)++([BF]:Ξ)]:O Ξ)) rfl rfl λ_ _ _ _=>At) (gw 61 (lG AC [0,7] (I _ _ · b S f a e R))))))))))))))) (gw 61 (lG AC [0,1] (I _ _ · b S f a e R))))) (gw 77 (lG AC [0,1] (I _ _ · b S a e)))
 case l9 Ab BA Ce CP CV=>
  intro b S a e;have a:=zBE a;refine rd e λS e=>?_
  revert r;apply gO;exact bi 53 (gi (lN AC [0] (I _ _ · b S n a e χ))) (gw 79 (lG AC [0] (I _ _ · b a)))
 case l10 Ab A4 BA Ce CP CV o1=>
  intro b S a e;have a:=zBE a;refine rd e λS e=>?_
  revert r;apply gO;exact bi 53 (gi (lN AC [0,1] (I _ _ · b S n a e χ))) (gw 79 (lG AC [0,1] (I _ _ · b a)))
 case l11 BA=>
  intro b a;refine rd a λb a=>?_
  revert r;apply gO;exact bi 47 (gi (lN AC [0] (I _ _ · b n a χ))) (lN AC [0] (I _ _ · n χ))
 case l12 Ab BA=>
  intro b S a e;have a:=zBE a;refine rd e λS e=>?_
  revert r;apply gO;exact gw 79 (lG AC [0] (I _ _ · b a))
 case l13=>
  intro b a;refine rd a λb a=>?_
  revert r;apply gO;exact lF λp=>el AC [4,5] [] p [] H0 [.nils,.bool T]<|AO.tupL (l:=[.nils,.bool T]) (l':=[.sl 1 (F ([]:O Ξ))<|AM AW ([]:O Ξ),.bool T]) rfl ⟨AO.sl_nil _ _,At,trivial⟩
def Wd{n:U}{q:AA}{pos:Ξ}{r:(O Ξ)×ζ}(h:kr n q pos=Z r):EQ 18 [.agg 5<|L1<|AG q,.ints pos] [] (.tup 2<|L1 [.sl 1 (F r.1)<|AM AW r.1,.bool r.2]) [] T:=by
 refine ot Tryz.func18 λϙ N=>?_
 revert r;apply gO;exact cf zP6 [oC<|AG q] λ_=>bi 22 (lF λp=>el AC [4,5] [] p [] H0 [.nils,.bool D]<|AO.tupL (l:=[.nils,.bool D]) (l':=[.sl 1 (F ([]:O Ξ))<|AM AW ([]:O Ξ),.bool D]) rfl ⟨AO.sl_nil _ _,At,trivial⟩) (cf zHZ [oC<|AG q] λ_=>bi 27 (lF λp=>el AC [4,5] [] p [] H0 [.nils,.bool D]<|AO.tupL (l:=[.nils,.bool D]) (l':=[.sl 1 (F ([]:O Ξ))<|AM AW ([]:O Ξ),.bool D]) rfl ⟨AO.sl_nil _ _,At,trivial⟩) (lN AC [0] ((zEt ϙ N q pos n) _ _ · n χ)))
end
abbrev zSW:=@Go.IntKind.wrap_u64
abbrev zUC:=@List.range_eq_range'
section
open Classical
variable{x:E}
theorem zFG(h:Sm 16 x):Ev (λn=>cA n x) ((B0 x:U):E):=by
 have e0:IntKind.u64.wrap x=x:=by
  have h1:=h.1;have h2:x<65536:=h.2;rw[zSW];omega
 have key:∀(k i:U),i+k=64->Ev (λn=>Ts x n<|.l1 (cnt (λs=>tb x s) i) (i:E)) (cnt (λs=>tb x s) 64):=by
  intro k
  induction k with
  |zero=>
   simp_all[Ev.one,bz,Ts]
  |succ k a=>
   intro i e;have hb:=aG (p:=λs=>tb x s) (i:=i);have b:IntKind.u64.wrap (i:E)=(i:E):=by rw[zSW];omega
   refine AX.ev (AX.one λn=>?_)<|a (i+1) Z2
   show bz n (Ts x n) x _ (i:E)=_
   unfold bz;rw[zAA Z2,zAI,b,e0,u8,zB5,k7 h Z6 Z2];have K:IntKind.i64.wrap (C (tb x i=T) 1 0)=C (tb x i=T) 1 0:=by split <;> decide
   rw[K,QQ,show((i+1:U):E)=(i:E)+1 by omega,zAB ⟨⟨Z2,by show(i:E)<=((64:U):E);omega⟩,Ae.2 (by split <;> omega),Ae.2 ⟨Z2,Z2⟩⟩]
 have N:cnt (λs=>tb x s) 64=((B0 x:U):E):=by
  unfold cnt B0 B4
  have z:(List.range' 16 48).countP (λs=>tb x s)=0:=List.countP_eq_zero.2 λs l=>by
   rw[h.hi (zT3.1 l).1];decide
  rw[←zMP,zUC,show List.range' 0 64=List.range' 0 (16-0)++List.range' 16 48 from rfl,zTr,z];rfl
 have:=key 64 0 Z2;rw[N]at this;exact this.eq λn=>rfl
def zAX:∀(a b:Ξ),gp (a++b)=gp a*gp b
 |[],b=>(Nat.one_mul _).symm
 |x::a,b=>by
  show max (B0 x) 1*gp (a++b)=max (B0 x) 1*gp a*gp b
  rw[zAX a b,zTk]
variable{j:U}{α:Type}
theorem zDn{l:O α}{Ϛ:α}(hj:j<F l):l.take (j+1)=l.take j++[l.getD j Ϛ]:=by
 simp_all
theorem Zk{l:O α}{Ϛ:α}(hj:j<F l):l.drop j=l.getD j Ϛ::l.drop (j+1):=by
 simp_all
def Gl(x:E)(y:Ξ)(j:U):O Ξ:=(B4 x j).map λs:U=>y++[(s:E)]
def M3(x:E)(ϕ:O Ξ):O Ξ:=ϕ.flatMap λy=>Gl x y 0
def Kf:Ξ->O Ξ->O Ξ
 |[],ϕ=>ϕ
 |x::p,ϕ=>Kf p<|M3 x ϕ
def zA0 :∀ϕ:O Ξ,F (M3 x ϕ)=F ϕ*B0 x
 |[]=>(Nat.zero_mul _).symm
 |y::ϕ=>by
  show F (Gl x y 0++M3 x ϕ)=_
  rw[zAi,zA0 ϕ,zDM,zTw,Nat.add_comm];unfold Gl B0;rw[zAS]
theorem zCg:∀(p:Ξ) (ϕ:O Ξ) (g:Ξ),g∈Kf p ϕ↔∃y z,y∈ϕ/\g=y++z/\F z=F p/\∀j,j<F p->∃s:U,s∈B4 (M p j 0) 0/\M z j 0=(s:E)
 |[],ϕ,g=>by
  constructor
  ·intro h;exact⟨g,[],h,(zMz g).symm,rfl,λj a=>τ a<|zAR j⟩
  ·rintro⟨y,z,h,rfl,f,_⟩;have:z= []:=zOm.1 f;subst this;rw[zMz];exact h
 |x::p,ϕ,g=>by
  show g∈Kf p (M3 x ϕ)↔_
  rw[zCg p];constructor
  ·rintro⟨y,z,h,rfl,f,a⟩;obtain⟨y0,h0,b⟩:=List.mem_flatMap.1 h;obtain⟨s,l,rfl⟩:=zMa.1 b
   grind
  ·rintro⟨y,z,h,rfl,f,a⟩
   match z,f with
   |v::z,f=>
    obtain⟨s,l,e⟩:=a 0 Z3;have e:v=(s:E):=e;subst e;refine⟨y++[(s:E)],z,List.mem_flatMap.2 ⟨y,h,zMa.2 ⟨s,l,rfl⟩⟩,Z3,by simpa using f,λj c=>a (j+1)<|by simpa using c⟩
def zCf:∀(p:Ξ) (ϕ:O Ξ),ϕ.Nodup->(Kf p ϕ).Nodup
 |[],ϕ,h=>h
 |x::p,ϕ,h=>by
  refine zCf p _ ?_;unfold M3 List.Nodup;rw[List.pairwise_flatMap];refine⟨λy _=>?_,h.imp λj u a v o e=>?_⟩
  ·unfold Gl;rw[List.pairwise_map];exact lC.imp λj e=>j (Int.ofNat_inj.1<|by simpa using e)
  ·obtain⟨s,_,rfl⟩:=zMa.1 a;obtain⟨t,_,rfl⟩:=zMa.1 o;exact j<|List.append_inj_left' e rfl
section
variable{q:AA}{pos:Ξ}
def p5(x:E)(y:Ξ)(j:E)(c:E)(ϕ:O Ξ)(r:E)(o:O Ξ):GM:=C (o= []) (.l5 x y j c ϕ (F ϕ:E) r)<|.l8 x (F o) y j c ϕ (F ϕ:E) r o
def p9(x:E)(c:E)(ϕ:O Ξ)(r:E)(o:O Ξ):GM:=C (o= []) (.l9 x c ϕ (F ϕ:E) r)<|.l10 x (F o) c ϕ (F ϕ:E) r o
def p2(c:E)(ϕ:O Ξ):GM:=C (ϕ= []) (.l11 c)<|.l2 (F ϕ) c ϕ
def p6(ϕ:O Ξ)(j:E)(o:O Ξ):GM:=C (o= []) (.l7 ϕ (F ϕ:E) j)<|.l6 (F o) ϕ (F ϕ:E) j o
variable{ϕ:O Ξ}{y:Ξ}
theorem bP(s:q.sy<=16){x:E}(a:Sm q.sy.toNat x)(hy:F y<=300){c:E}{r:U}(i:r<=1000000):∀(k j:U) (o:O Ξ),j+k=q.sy.toNat->F o+k<=1000000->AX (B8 q pos) (p5 x y (j:E) c ϕ (r:E) o) (p9 x c ϕ ((r+1:U):E)<|o++Gl x y j)
 |0,j,o,e,l=>by
  have b:Gl x y j= []:=by
   grind[Gl,lB]
  rw[b,zMz];refine AX.one λn=>?_
  unfold p5 p9
  by_cases h0:o= []
  ·rw[zAB h0,zAB h0]
   show Qz n (B8 q pos n) q pos x y (j:E) c ϕ (F ϕ:E) (r:E)=_
   unfold Qz;rw[zAF Z2,zAJ,zAB<|Ae.2 ⟨Z2,Z2⟩];rfl
  ·rw[zAt h0,zAt h0]
   show Qy n (B8 q pos n) q pos x (F o) y (j:E) c ϕ (F ϕ:E) (r:E) o=_
   unfold Qy;rw[zAF Z2,zAJ,zAB<|Ae.2 ⟨Z2,Z2⟩];rfl
 |k+1,j,o,e,l=>by
  have Ϝ:Av=1000000000000:=rfl;have g:IntKind.u64.wrap (j:E)=(j:E):=by rw[zSW];omega
  have t:AI<|(j:E)+1:=Ae.2 ⟨Z2,Z2⟩;have h:((j+1:U):E)=(j:E)+1:=Z2
  have m:B4 x j=C (tb x j) (j::B4 x (j+1)) (B4 x<|j+1):=cD Z2
  cases f:tb x j with
  |false=>
   have b:Gl x y j=Gl x y (j+1):=by unfold Gl;rw[m,f];rfl
   rw[b];refine(AX.one λn=>?_).trans<|bP s a hy i k (j+1) o Z2 Z2;unfold p5;rw[h]
   by_cases h0:o= []
   ·rw[zAB h0,zAB h0]
    show Qz n (B8 q pos n) q pos x y (j:E) c ϕ (F ϕ:E) (r:E)=_
    unfold Qz;rw[zAA Z2,zAI,g,u8,zAB ⟨Z2,by show(j:E)<=((64:U):E);omega⟩,Q2 a Z2 Z2,f,zAJ,zAB t]
   ·rw[zAt h0,zAt h0]
    show Qy n (B8 q pos n) q pos x (F o) y (j:E) c ϕ (F ϕ:E) (r:E) o=_
    unfold Qy;rw[zAA Z2,zAI,g,u8,zAB ⟨Z2,by show(j:E)<=((64:U):E);omega⟩,Q2 a Z2 Z2,f,zAJ,zAB t]
  |true=>
   have b:o++Gl x y j=(o++[y++[(j:E)]])++Gl x y (j+1):=by simp_all[Gl]
   rw[b];refine(AX.one λn=>?_).trans<|bP s a hy i k (j+1) (o++[y++[(j:E)]]) Z2 Z7;unfold p5;rw[h,zAt<|show¬(o++[y++[(j:E)]]= []) by simp]
   by_cases h0:o= []
   ·rw[zAB h0,h0]
    show Qz n (B8 q pos n) q pos x y (j:E) c ϕ (F ϕ:E) (r:E)=_
    unfold Qz;rw[zAA Z2,zAI,g,u8,zAB ⟨Z2,by show(j:E)<=((64:U):E);omega⟩,Q2 a Z2 Z2,f,zAI,zAB ⟨⟨trivial,⟨rfl,rfl⟩,Z7⟩,Z3,⟨⟨rfl,rfl⟩,⟨rfl,Z3⟩,Z7⟩,t⟩];rfl
   ·rw[zAt h0]
    show Qy n (B8 q pos n) q pos x (F o) y (j:E) c ϕ (F ϕ:E) (r:E) o=_
    unfold Qy;rw[zAA Z2,zAI,g,u8,zAB ⟨Z2,by show(j:E)<=((64:U):E);omega⟩,Q2 a Z2 Z2,f,zAI,zAB ⟨⟨trivial,⟨rfl,rfl⟩,Z7⟩,Z3,⟨⟨rfl,rfl⟩,⟨rfl,Z3⟩,Z7⟩,rfl,Z7,t⟩,zAi];rfl
theorem zA2{x:E}{j:U}:F (Gl x y j)<=16:=by
 grind[Gl,B4]
variable{c:U}
theorem vi(s:q.sy<=16){x:E}(a:Sm q.sy.toNat x)(hc:c<=1000000)(h:∀y∈ϕ,F y<=300)(f:F ϕ<=10000):∀(k r:U) (o:O Ξ),r+k=F ϕ->F o<=16*r->AX (B8 q pos) (p9 x (c:E) ϕ (r:E) o) (p2 ((c+1:U):E)<|o++(ϕ.drop r).flatMap λy=>Gl x y 0)
 |0,r,o,e,g=>by
  have e:r=F ϕ:=Z2
  subst e;rw[zTb,List.flatMap_nil,zMz];refine AX.one λn=>?_
  unfold p9 p2
  by_cases h0:o= []
  ·rw[zAB h0,zAB h0]
   show bk n (B8 q pos n) q pos x (c:E) ϕ (F ϕ:E) (F ϕ:E)=_
   unfold bk;rw[zAF Z2,zAJ,zAB<|Ae.2 ⟨Z2,Z2⟩];rfl
  ·rw[zAt h0,zAt h0]
   show bq n (B8 q pos n) q pos x (F o) (c:E) ϕ (F ϕ:E) (F ϕ:E) o=_
   unfold bq;rw[zAF Z2,zAJ,zAB<|Ae.2 ⟨Z2,Z2⟩];rfl
 |k+1,r,o,e,g=>by
  have i:r<F ϕ:=Z2
  have z:M ϕ r []∈ϕ:=by
   grind
  have hy:=h _ z;have hl:=zA2 (x:=x) (y:=M ϕ r []) (j:=0);rw[Zk (Ϛ:=[]) i,zTv,←zOi];refine((AX.one (b:=p5 x (M ϕ r []) ((0:U):E) (c:E) ϕ (r:E) o) λn=>?_).trans<|bP s a hy Z2 q.sy.toNat 0 o Z2 Z2).trans (vi s a hc h f k (r+1) (o++Gl x (M ϕ r []) 0) Z2<|by rw[zAi];omega);unfold p9 p5
  by_cases h0:o= []
  ·simp_all[bk,B8]
  simp_all[bq,B8]
theorem zRx(h:BC q pos)(hc:c<F pos)(a:∀y∈ϕ,F y<=300)(g:F ϕ<=10000):AX (B8 q pos) (p2 (c:E) ϕ)<|p2 ((c+1:U):E)<|M3 (M pos c 0) ϕ:=by
 have ED:=h.len256;have s:q.sy<=16:=by have:=(Dy h.valid).2.1;omega
 by_cases h0:ϕ= []
 ·subst h0;refine(AX.one (b:=.l12 (M pos c 0) (c:E)) λn=>?_).trans<|AX.one λn=>?_
  ·show We n (B8 q pos n) q pos (c:E)=_
   simp_all[We]
  ·show kq n (B8 q pos n) q pos (M pos c 0) (c:E)=_
   unfold kq;rw[zAB<|Ae.2 ⟨Z2,Z2⟩];rfl
 ·have m:0<F ϕ:=by
   grind
  have z:M ϕ 0 []∈ϕ:=by
   grind
  have f:=h.sm c hc;have l:=zA2 (x:=M pos c 0) (y:=M ϕ 0 []) (j:=0)
  have e:M3 (M pos c 0) ϕ=([]++Gl (M pos c 0) (M ϕ 0 []) 0)++(ϕ.drop 1).flatMap λy=>Gl (M pos c 0) y 0:=by
   unfold M3;have:=Zk (Ϛ:=([]:Ξ)) m
   grind
  rw[e];refine(((AX.one (b:=.l3 (M pos c 0) (c:E) (F ϕ) (F ϕ:E) ϕ) λn=>?_).trans<|AX.one (b:=p5 (M pos c 0) (M ϕ 0 []) ((0:U):E) (c:E) ϕ ((0:U):E) []) λn=>?_).trans<|bP s f (a _ z) Z2 q.sy.toNat 0 [] Z2 Z7).trans (vi s f Z2 a g (F ϕ-1) 1 _ Z2<|by simpa using l)
  ·simp_all[p2,ko,B8]
  ·show kn n (B8 q pos n) q pos (M pos c 0) (c:E) (F ϕ) (F ϕ:E) ϕ=_
   unfold kn;rw[zAA Z2,zAI,zAB rfl,zAB ⟨zCs _,Z2⟩];rfl
def zBo(b:BC q pos):∀(k c:U) (ϕ:O Ξ),c+k=F pos->(∀y∈ϕ,F y=c)->F ϕ*gp (pos.drop c)<=1024->AX (B8 q pos) (p2 (c:E) ϕ) (p2 (F pos:E)<|Kf (pos.drop c) ϕ)/\F (Kf (pos.drop c) ϕ)<=1024
 |0,c,ϕ,e,_,a=>by
  have e:c=F pos:=Z2
  subst e;rw[zTb]at a⊢;exact⟨AX.refl,by show F ϕ<=1024;simpa[gp]using a⟩
 |k+1,c,ϕ,e,hy,a=>by
  have hc:c<F pos:=Z2
  have ED:=b.len256;rw[Zk (Ϛ:=0) hc]at a⊢;have a:F ϕ*(max (B0<|M pos c 0) 1*gp (pos.drop<|c+1))<=1024:=a;have f:=VE<|pos.drop<|c+1;have hl:F ϕ<=1024:=zAO (Nat.le_mul_of_pos_right _<|Nat.mul_pos Z2 f) a
  have g:F (M3 (M pos c 0) ϕ)*gp (pos.drop<|c+1)<=1024:=by
   rw[zA0,zTk];exact zAO (Nat.mul_le_mul_left _<|zN8 _ Z2) a
  obtain⟨i,j⟩:=zBo b k (c+1) (M3 (M pos c 0) ϕ) Z2 (λy h=>by
   obtain⟨y0,h0,l⟩:=List.mem_flatMap.1 h;obtain⟨s,_,rfl⟩:=zMa.1 l;rw[zAi,hy y0 h0];rfl) g
  exact⟨(zRx b hc (λy h=>by rw[hy y h];omega) Z2).trans i,j⟩
theorem zJY(hA:F ϕ<=1024){j:U}(hj:j<F ϕ){o:O Ξ}(ho:F o<=j){b:ζ}(a:Ev (λn=>L6 n q<|M ϕ j []) (b,0)):AX (B8 q pos) (p6 ϕ (j:E) o)<|p6 ϕ ((j+1:U):E)<|C (b=T) (o++[M ϕ j []]) o:=by
 have Ϝ:Av=1000000000000:=rfl;obtain⟨N,I⟩:=a;have I:∀n,N<=n->L6 n q (M ϕ j [])=Z (b,0):=I;have r1:AI<|(j:E)+1:=Ae.2 ⟨Z2,Z2⟩;refine AX.oneN N λn s=>?_
 unfold p6;rw[show((j+1:U):E)=(j:E)+1 by omega]
 by_cases h0:o= []
 ·rw[zAB h0,h0]
  show bo n (B8 q pos n) q pos ϕ (F ϕ:E) (j:E)=_
  unfold bo
  grind
 ·rw[zAt h0]
  show bp n (B8 q pos n) q pos (F o) ϕ (F ϕ:E) (j:E) o=_
  unfold bp;rw[zAA Z2,zAI,zAB ⟨Z2,Z2⟩,u8,I n s,zAD]
  grind
theorem mZ(h:F ϕ<=1024)(a:∀g∈ϕ,∃b,Ev (λn=>L6 n q g) (b,0)/\(b=T↔Js q g)):∀(k j:U) (o:O Ξ),j+k=F ϕ->F o<=j->Ev (λn=>B8 q pos n<|p6 ϕ (j:E) o) (o++(ϕ.drop j).filter λg=>decide (Js q g),T)
 |0,j,o,e,x=>by
  have e:j=F ϕ:=Z2
  subst e;rw[zTb,List.filter_nil,zMz];refine Ev.one λn=>?_
  unfold p6
  by_cases h0:o= []
  ·simp_all[bo,B8]
  simp_all[bp,B8]
 |k+1,j,o,e,x=>by
  have c:j<F ϕ:=Z2
  have z:M ϕ j []∈ϕ:=by
   grind
  obtain⟨b,f,b2⟩:=a _ z;refine AX.ev (zJY h c x f) ?_;have i:=mZ h a k (j+1) (C (b=T) (o++[M ϕ j []]) o) Z2 (by cases b <;> simp <;> omega)
  have K:o++(ϕ.drop j).filter (λg=>decide (Js q g))=C (b=T) (o++[M ϕ j []]) o++(ϕ.drop<|j+1).filter λg=>decide (Js q g):=by
   rw[Zk (Ϛ:=[]) c,zSI]
   grind
  rw[K];exact i
def jZ(q:AA)(pos:Ξ)(r:O Ξ×ζ):Prop:=r.2=T->BC q pos/\gp pos<=1024/\r.1.Nodup/\F r.1<=1024/\∀g,g∈r.1↔MP q g/\WI g pos
theorem zAZ(a:BC q pos){g:Ξ}:g∈Kf pos [[]]↔Gd q g/\WI g pos:=by
 have Aj:=a.len;rw[zCg];constructor
 ·rintro⟨y,z,hy,rfl,f,b⟩;have hy:y= []:=zCr.1 hy;subst hy;rw[zMX];refine⟨⟨Z2,λj h=>?_⟩,f,λj h=>?_⟩
  ·obtain⟨s,l,e⟩:=b j Z2;have:=cC a Z2 s l;rw[e];omega
  grind[IS]
 ·rintro⟨G,N⟩;refine⟨[],g,zCr.2 rfl,rfl,N.1,λj h=>?_⟩;have h1:=N.2 j (by rw[N.1];exact h)
  grind[IS]
theorem zIP(a:BC q pos)(j:DT q)(Y:F q.cons<=LB)(s:gp pos<=1024):∃r,Ev (λn=>B8 q pos n<|.l2 1 0 [[]]) r/\jZ q pos r:=by
 obtain⟨p,u⟩:=zBo a (F pos) 0 [[]] Z2 (λy h=>by rw[zCr.1 h];rfl) (by simpa using s);rw[zMy]at p u;have c:∀g∈Kf pos [[]],∃b,Ev (λn=>L6 n q g) (b,0)/\(b=T↔Js q g):=λg h=>zEe j a.valid ((zAZ a).1 h).1 Y
 refine⟨((Kf pos [[]]).filter λg=>decide (Js q g),T),AX.ev (m:=B8 q pos) p ?_,λ_=>⟨a,s,List.Nodup.sublist zTf<|zCf pos [[]] Z3,zAO (List.length_filter_le _ _) u,λg=>?_⟩⟩
 ·by_cases h0:Kf pos [[]]= []
  ·rw[h0];refine AX.ev (m:=B8 q pos) (AX.one (b:=.l13) λn=>?_)<|Ev.one λn=>?_
   ·show We n (B8 q pos n) q pos (F pos:E)=_
    simp_all[We]
   ·rfl
  ·have l:0<F (Kf pos [[]]):=by
    grind
   generalize hA:Kf pos [[]]=ϕ at*
   have z:M ϕ 0 []∈ϕ:=by
    grind
   have:=mZ (pos:=pos) u c (F ϕ) 0 [] Z2<|zAf _;rw[zMy,zMX]at this;obtain⟨b,o,b2⟩:=c _ z;have e:=mZ (pos:=pos) u c (F ϕ-1) 1 (C (b=T) ([]++[M ϕ 0 []]) []) Z2 (by split <;> simp)
   have K:ϕ.filter (λg=>decide (Js q g))=C (b=T) ([]++[M ϕ 0 []]) []++(ϕ.drop 1).filter λg=>decide (Js q g):=by
    have hd:=Zk (Ϛ:=([]:Ξ)) l
    grind
   rw[K];obtain⟨N,I⟩:=o;have I:∀n,N<=n->L6 n q (M ϕ 0 [])=Z (b,0):=I;refine AX.ev (m:=B8 q pos) ((AX.one (b:=.l4 (F ϕ) (F ϕ:E) ϕ) λn=>?_).trans<|AX.oneN N λn t=>?_) e
   ·simp_all[p2,ko,B8]
   ·show km n (B8 q pos n) q pos (F ϕ) (F ϕ:E) ϕ=_
    unfold km;rw[zAA Z2,zAI,zAB rfl,zAB ⟨zCs _,Z2⟩,I n t,zAD];cases b <;> rfl
 ·rw[zOR,zAZ a];constructor
  ·rintro⟨⟨f,i⟩,k⟩;exact⟨⟨f,zM0 k⟩,i⟩
  ·rintro⟨⟨f,k⟩,i⟩
   grind
theorem zEp(c:DT q)(i:Qf q)(o:F pos<=LB):∃r,Ev (λn=>kr n q pos) r/\jZ q pos r:=by
 obtain⟨b,z,_⟩:=zP7 c i;cases b with
 |false=>exact⟨([],D),Ev.bind z<|Ev.now λn=>rfl,λh=>by cases h⟩
 |true=>
  have hc:Ev (λn=>XC n q pos)<|EI q pos:=⟨D0 q+F pos+1,λn s=>zHa c Z2 o Z2⟩
  by_cases h0:EI q pos=0
  ·have g:=BC.of c h0;have ED:=g.len256
   have key:∀(k j:U),j+k=F pos->gp (pos.take j)<=1024->∃r,Ev (λn=>B8 q pos n<|.l1 ((gp<|pos.take j:U):E) (j:E)) r/\jZ q pos r:=by
    intro k
    induction k with
    |zero=>
     intro j e f;have e:j=F pos:=Z2
     subst e;rw[zTZ]at f⊢;obtain⟨r,t,a⟩:=zIP g c i.cons f;refine⟨r,AX.ev (m:=B8 q pos) (AX.one λn=>?_) t,a⟩
     simp_all[br,B8]
    |succ k p=>
     intro j e f;have l:j<F pos:=Z2
     obtain⟨N,I⟩:=zFG<|g.sm16 j l;have I:∀n,N<=n->cA n (M pos j 0)=Z ((B0<|M pos j 0:U):E):=I;have gb:B0 (M pos j 0)<=16:=ux
     have Q:gp (pos.take<|j+1)=gp (pos.take j)*max (B0<|M pos j 0) 1:=by
      rw[zDn (Ϛ:=0) l,zAX]
      show _*(max (B0<|M pos j 0) 1*1)=_
      rw[zOG]
     have em:C ((1:E)>((B0<|M pos j 0:U):E)) 1 ((B0<|M pos j 0:U):E)=((max (B0<|M pos j 0) 1:U):E):=by split <;> omega
     have K:((gp<|pos.take j:U):E)*((max (B0<|M pos j 0) 1:U):E)=((gp<|pos.take<|j+1:U):E):=by rw[Q,Int.natCast_mul]
     have Bq:gp (pos.take<|j+1)<=1024*16:=by rw[Q];exact zTx f Z2
     have step:∀n,N<=n->B8 q pos (n+1) (.l1 ((gp<|pos.take j:U):E) (j:E))=L (H<|((gp<|pos.take<|j+1:U):E)>1024) (Z ([],D)) (B8 q pos n<|.l1 ((gp<|pos.take<|j+1:U):E) ((j+1:U):E)):=λn s=>by
      show br n (B8 q pos n) q pos _ (j:E)=_
      unfold br;rw[zAA Z2,zAI,zAB ⟨Z2,Z2⟩,u8,I n s,zAD,em,K,zAB<|Ae.2 ⟨Z2,Z2⟩,zAB<|Ae.2 ⟨Z2,Z2⟩,show((j+1:U):E)=(j:E)+1 by omega]
     by_cases h:((gp<|pos.take<|j+1:U):E)>1024
     ·exact⟨([],D),Ev.oneN N λn s=>Z4,λh=>by cases h⟩
     ·obtain⟨r,t,a⟩:=p (j+1) Z2 Z2;exact⟨r,AX.ev (m:=B8 q pos) (AX.oneN N λn s=>Z4) t,a⟩
   obtain⟨r,t,a⟩:=key (F pos) 0 Z2 (by show 1<=1024;decide);rw[h0]at hc;exact⟨r,Ev.bind z<|Ev.bind hc<|t.eq λn=>rfl,a⟩
  ·refine⟨([],D),Ev.bind z<|Ev.bind hc<|Ev.now λn=>?_,λh=>by cases h⟩
   grind
end
end
def zFR:Ev Wr T:=⟨300,λn hn=>by
 obtain⟨k,rfl⟩:∃k,n=k+300:=⟨n-300,Z2⟩
 show Wr (k+300)=Z T
 kernel_rfl⟩
section
variable{q:AA}{p:Ξ}
def JC.len(a:BC q p){x:Ξ}(h:JC q 4 p x):F x<=256:=(h.posn a).1.len256.2
variable{l:O BU}
theorem Sr.short{m:W9}(h:Sr q m p l):BC q p->(∀c ss,m=Z (c,ss)->c<F p/\∀s∈ss,s<q.sy.toNat)->∀y∈l,F y.2<=256:=by
 have i:∀{o:Ξ} {y:BU},y∈o.map IM->F y.2<=256:=λh=>by
  grind[IM]
 induction h with
 |dead _ _ _=>
  grind
 |done _ g _ R=>
  intro f _ y hy;rcases zMc.1 hy with hy|hy
  ·exact i hy
  ·rw[zCr.1 hy];rw[Tq R];exact g.len f
 |@split p x o c l h1 g h3 R h5 n h7 _ k=>
  intro f _ y hy;have j:=(g.posn f).1;rcases zMc.1 hy with hy|hy
  ·exact i hy
  ·rcases zMk.1 hy with rfl|hy
   ·exact zMK _
   ·refine k j (λr ss e=>?_) y hy;cases e;refine⟨n,λs t=>zDL λX=>?_⟩;have:=(IS.1 t).2;rw[(j.sm c n).hi X]at this;cases this
 |nil=>intro _ _ y hy;cases hy
 |@cons x c s ss a b _ _ u v=>
  intro f hc y hy;obtain⟨w,z⟩:=hc c (s::ss) rfl;rcases zMc.1 hy with hy|hy
  ·exact u (f.fx w<|z s zMY) (λ_ _ e=>by cases e) y hy
  ·exact v f (λr uN e=>Z4) y hy
def Sr.ne(h:Sr q V p l):l≠[]:=by
 cases h <;> simp
end
section
variable{q:AA}{pos:Ξ}
structure ac(q:AA)(pos:Ξ)(ϑ:O Ξ):Prop where
 nd:ϑ.Nodup
 mem:∀g,g∈ϑ↔MP q g/\WI g pos
variable{ϑ:O Ξ}
def ac.perm{ε:O Ξ}(h:ac q pos ϑ)(h':ac q pos ε):F ϑ=F ε:=
 ((List.perm_ext_iff_of_nodup h.nd h'.nd).2 λg=>(h.mem g).trans (h'.mem g).symm).length_eq
def zEL(h:BC q pos)(hg:gp pos<=1024):∃l,Ev (λn=>PZ n q pos) l/\l≠[]/\F l<=3072/\ac q pos (Dh l)/\∀y∈l,F y.2<=256:=by
 obtain⟨l,g,k⟩:=xj h;have hz:=(g.size h).1 rfl;obtain⟨W,s⟩:=(g.sols h).1 rfl;exact⟨l,k,g.ne,Z2,⟨W,s⟩,g.short h λ_ _ e=>by cases e⟩
def zJd{l:O BU}{k:U}(hk:0<k)(hl:F l<=3072):∃R:HR,PQ (k:E) l 60000=Z R/\R.1=(Dh l).take k/\R.2.2=H (k<=F (Dh l))/\(l≠[]->0<F R.2.1):=by
 obtain⟨a,c,b⟩:=oD (k:=k) l [] [] hk;refine⟨FH (k:E) l [] [],?_,by simpa using a,by simpa using c,λj=>(fu l [] []).2 j⟩;unfold PQ;rw[zAB<|by simp at b;omega]
def zEo(hp:BC q pos)(h:ac q pos ϑ){r:O Ξ×ζ}(i:jZ q pos r)(c:r.2=T):F ϑ<=1024/\F ϑ=F r.1:=by
 obtain⟨_,_,t,r2,Q⟩:=i c;have:=h.perm ⟨t,Q⟩;omega
end
end Go.Proofs.YtnkpdcmbppkkpaaGreatDoor
