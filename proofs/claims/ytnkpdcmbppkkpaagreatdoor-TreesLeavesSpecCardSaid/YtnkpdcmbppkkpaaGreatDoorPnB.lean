/- Part 2 of 8 of what the proofs of these laws stand on. -/
import Derived.Test.YtnkpdcmbppkkpaaGreatDoorPnA
import Derived.Test.YtnkpdcmbppkkpaaGreatDoorProg
import Derived.Shelf.Spec.TrailingZeros
set_option linter.all false
open Bool renaming true->D,false->T
open Decidable renaming decide->C
open Go renaming World->κ,Value->μ,Program->ν,TypeId->ψ,execOp->ω
open Go.Fence renaming wide->η
open Inhabited renaming default->ξ
open List renaming length->F,getD->H,replicate->d,range->θ
open Option renaming none->A,some->Z
open _root_ renaming cond->B,Nat->E,Option->M,List->O,Int->U,ite->u,Bool->ζ,absurd->τ,Array->υ
namespace Go.Proofs.YtnkpdcmbppkkpaaGreatDoor
open Go.RowKit
def ck(P:ν)(t:ψ):M<|E×ψ×TypeInfo:=match P.underlying t with
 |some (.slice e)=>match QQ P e with
  |some (n,_)=>match P.info? e with
   |some i=>match i.zero with
    |some (.map A)=>u (i.size=1/\i.bytes<=128) (Z (n,e,i)) A
    |_=>A
   |none=>A
  |none=>A
 |_=>A
theorem zIy{P:ν}{t e:ψ}{n:E}{i:TypeInfo}(h:ck P t=Z (n,e,i)):P.underlying t=Z (.slice e)/\P.info? e=Z i/\i.zero=Z (.map A)/\i.size=1/\i.bytes<=128:=by
 grind[ck]
section
variable{P:ν}{Γ:A1}{N:Ψ}{S:St}{ρ:O AN}{a:Act}{w:κ}{h:DH}
variable{n:E}
theorem zJG(R:Ad P Γ N S ρ a w){t e:ψ}{x y:Operand}{i:TypeInfo}{z g:IntKind}{m:U}(G:ck P t=Z (n,e,i))(I:Ak S.fr x=.int z m)(hy:Ak S.fr y=.int g m)
 (k:0<=m/\m<=1000000000000) (o:Oper) (K:o.op=.makeSlice t x y) (ext:ζ):
 BK P (ω a.eval o) w (Cj P Γ N S.h ρ w ext (.msl (F S.h) 1 0 m.toNat) (S.h++[Z<|.mo<|.sets n (d m.toNat A) A])):=by
 obtain⟨J,hi,Q,p,Eb⟩:=zIy G;have q:=k.1;have V:=k.2;have rx:=Bo R x;have r:=Bo R y;rw[I]at rx;rw[hy]at r;have f:(madeCells (Value.map A).cells<|m.toNat*i.size).size=m.toNat:=by rw[size_madeCells,p,zNK]
 have W:∀j,j<m.toNat->(madeCells (Value.map A).cells<|m.toNat*i.size)[j]?=Z (Value.map A):=λj c=>by
  simp[madeCells,p,c,Value.cells,Nat.mod_one]
 refine BK.value (s:=Instr.makeSlice t (a.eval x)<|a.eval y) (by unfold ω;rw[K]) (v:=.slice (Z ⟨w.heap.size,0,A⟩) m.toNat m.toNat) (w':=w.alloc<|.cells (madeCells (Value.map A).cells<|m.toNat*i.size) e) ?_ ?_
 ·rw[show a.eval x=_ from rx,show a.eval y=_ from r];refine run_make w t e i _ J hi Q z g m m q (zKw _) ?_ Z2;have:(i.bytes:U)*m<=128*1000000000000:=Int.mul_le_mul Z2 V q Z2;omega
 ·generalize hC:madeCells (Value.map A).cells (m.toNat*i.size)=cs at f W⊢
  refine Xk (ob:=.cells cs e) (o:=.mo<|.sets n (d m.toNat A) A) (Ϛ:=.msl (F S.h) 1 0 m.toNat) (pl:=⟨w.heap.size,0,cs.size,.tuple<|Array.replicate m.toNat<|Value.map A,λb=>b=w.heap.size⟩) R.hr rfl rfl (λϕ ρ'=>?_) (λϕ ρ' X=>⟨_,m.toNat,X,Z3,zI1 _,by unfold LB;omega,by simp[f]⟩) ext;refine⟨Array.replicate m.toNat<|Value.map A,rfl,Z3,⟨cs,e,zNf w _,by simp[f],zI1 _,λj c=>?_⟩,rfl,λj l c=>?_,λj c=>?_,λb Y=>.inl Y,λi j b h1 h2=>?_⟩
  ·grind
  ·grind
  ·grind
  grind
variable{p:AN}
theorem A9.merge(ϗ:A9 P Γ N h ρ w){w':κ}{k j:E}{o G o':DO}{q p':AN}(mg:k≠j)(l:h[k]?=Z (Z o))(n:ρ[k]?=Z p)(K:h[j]?=Z (Z G))(R:ρ[j]?=Z q)(x:AV p.foot w w')(hf:∀b,p'.foot b->(p.foot b∨q.foot b)/\Dr w' b)
 (ho:Bc P (MS N ((h.set k A).set j A++[Z o'])<|ρ++[p']) w' (ρ++[p']) p' o'):
 A9 P Γ N ((h.set k A).set j A++[Z o']) (ρ++[p']) w'/\BD h ρ w ((h.set k A).set j A++[Z o']) (ρ++[p']) w':=by
 have S:F ((h.set k A).set j A)=F h:=Z3
 have V:∀b,p.foot b->MO h ρ b:=λb a=>⟨k,o,p,l,n,a⟩
 have hMq:∀b,q.foot b->MO h ρ b:=λb a=>⟨j,G,q,K,R,a⟩
 have W:∀{i:E} {o1:DO},((h.set k A).set j A)[i]?=Z (Z o1)->i≠k/\i≠j/\h[i]?=Z (Z o1):=λ{i o1} hi=>by
  grind
 have I:∀{i:E} {o1:DO} {s:AN},((h.set k A).set j A++[Z o'])[i]?=Z (Z o1)->(ρ++[p'])[i]?=Z s->(i≠k/\i≠j/\i<F h/\h[i]?=Z (Z o1)/\ρ[i]?=Z s)∨(i=F h/\o1=o'/\s=p'):=by
  intro i o1 s f e;rcases Ec f with⟨r,f⟩|⟨r,f⟩
  ·rw[S]at r;rcases Ec e with⟨_,e⟩|⟨Ch,_⟩
   ·grind
   ·rw[ϗ.len]at Ch;omega
  ·rw[S]at r;rcases Ec e with⟨Ch,_⟩|⟨_,e⟩
   ·rw[ϗ.len]at Ch;omega
   grind
 have Y:∀b,MO ((h.set k A).set j A++[Z o']) (ρ++[p']) b->MO h ρ b:=by
  rintro b ⟨i,o1,s,f,e,m⟩;rcases I f e with⟨_,_,_,g,y⟩|⟨_,_,rfl⟩
  ·exact⟨i,o1,s,g,y,m⟩
  grind
 have ϐ:BW (MS N h ρ) w ρ (MS N ((h.set k A).set j A++[Z o'])<|ρ++[p']) w'<|ρ++[p']:=
  ⟨λb a hm _=>x.block b a λhx=>hm<|.inr<|V b hx,λb a=>.inl<|a.imp id<|Y b,λi q hi=>Eo hi⟩
 refine⟨⟨by simp[ϗ.len],λi o1 hi=>?_,λi o1 s b f e m=>?_,λi i' o1 o2 s p2 b Q f e m h4 h5 h6=>?_,λb a=>⟨zI0 (ϗ.nlt b a).1 x.size,(ϗ.nlt b a).2⟩,Γ.st _ _ ϗ.gi<|x.mono λb _ a=>(ϗ.cel k o p b l n a).1⟩,⟨x.mono λb _ a=>V b a,λb a=>.inl<|Y b a⟩⟩
 ·rcases Ec hi with⟨r,hi⟩|⟨r,hi⟩
  ·obtain⟨e1,X,v⟩:=W hi;obtain⟨s,LO,hr⟩:=ϗ.obj i o1 v;exact⟨s,Eo LO,hr.out ϐ x (λb a=>.inr<|V b a) λb _ f e=>ϗ.dis i k o1 o s p b e1 v l LO n f e⟩
  ·cases hi;exact⟨p',by rw[r,S,←ϗ.len];simp,ho⟩
 ·rcases I f e with⟨Q,_,_,g,y⟩|⟨_,_,rfl⟩
  ·obtain⟨e1,X,c,t,z,v⟩:=ϗ.cel i o1 s b g y m;exact⟨e1,X,c,t,z,(x.block b (zAy.1 v).1 λhx=>ϗ.dis i k o1 o s p b Q g l y n m hx).trans v⟩
  ·obtain⟨e1,X⟩:=hf b m;rcases e1 with e1|e1
   ·obtain⟨q1,q2,_⟩:=ϗ.cel k o p b l n e1;exact⟨q1,q2,X⟩
   ·obtain⟨q1,q2,_⟩:=ϗ.cel j G q b K R e1;exact⟨q1,q2,X⟩
 ·have key:∀{i o1 s},i≠k->i≠j->h[i]?=Z (Z o1)->ρ[i]?=Z s->s.foot b->p'.foot b->False:=λ{i o1 s} Q ma g y J g4=>by
   rcases(hf b g4).1 with e1|e1
   ·exact ϗ.dis i k o1 o s p b Q g l y n J e1
   ·exact ϗ.dis i j o1 G s q b ma g K y R J e1
  rcases I f m with⟨mc,ma,_,g,y⟩|⟨e1,_,rfl⟩
  ·rcases I e h4 with⟨hne3,_,_,J,g4⟩|⟨X,_,rfl⟩
   ·exact ϗ.dis i i' o1 o2 s p2 b Q g J y g4 h5 h6
   ·exact key mc ma g y h5 h6
  grind
def OL(k X:E):DV->DV
 | .msl q m o n=>u (q=k) (.msl X m o n)<|.msl q m o n
 |Ϛ=>Ϛ
def ir(P:ν)(S:St)(o:Oper):M<|St×O Prop:=match o.op with
 | .store t x y=>match o.dst with
  |none=>match Ak S.fr x with
   | .mp k 1 i 0=>match Ak S.fr y with
    | .it j=>match S.h[k]? with
     |some (Z<|.mo<|.sets n a A)=>match S.h[j]? with
      |some (Z<|.mo<|.set b l)=>u (b=n/\(P.info? t).any (λi=>i.size==1)=D) (Z (⟨S.fr.map<|OL k<|F S.h,(S.h.set k A).set j A++[Z<|.mo<|.sets n (a.set i<|Z l) A]⟩,[i<F a])) A
      |_=>A
     |_=>A
    |_=>A
   |_=>A
  |some _=>A
 |_=>A
theorem Ft.of_map{a:O (M KS)}{V:M (E×E×υ MapEntry×E)}{vs:υ μ}(e:Ft w p n a V vs){i b:E}(h:vs[i]?=Z (Value.map<|Z b)):∃l,a[i]?=Z (Z l)/\p.foot b/\b≠p.blk/\∃N X,FW w b n l N X:=by
 have hi:i<F a:=by rw[←e.size];grind
 cases q:a[i]with
 |none=>
  have:=e.nil i (by rw[zKA hi,q]);rw[this]at h;cases h
 |some l=>
  have c:a[i]?=Z (Z l):=by rw[zKA hi,q]
  obtain⟨b',g1,g2,g3,N,X,g4,_⟩:=e.has i l c
  grind
theorem zB1(R:Ad P Γ N S ρ a w){o:Oper}{S':St}{vs:O Prop}(h:ir P S o=Z (S',vs))(hv:BU vs):
 BK P (ω a.eval o) w (λv w'=>(∃ρ',Ad P Γ N S' ρ' (a.put o.dst v) w'/\C6 S.h ρ w S'.h ρ' w')/\∃k i p t x y,o.op=.store t x y/\Ak S.fr x=.mp k 1 i 0/\ρ[k]?=Z p/\AV p.foot w w'):=by
 unfold ir at h;split at h
 case h_2=>cases h
 rename_i t x y ho;split at h
 case h_2=>cases h
 rename_i m5;split at h
 case h_2=>cases h
 rename_i k i hX;split at h
 case h_2=>cases h
 rename_i j hY;split at h
 case h_2=>cases h
 rename_i n I hK;split at h
 case h_2=>cases h
 rename_i n' l hJ;split at h
 case isFalse=>cases h
 rename_i hc;cases h;obtain⟨XJ,BT⟩:=hc;subst XJ;have hi:i<F I:=hv.1;have rx:=Bo R x;have ry:=Bo R y;rw[hX]at rx;rw[hY]at ry;obtain⟨p,J,ex⟩:=rx;obtain⟨q,es,As,hq,ey,hqf,hqv,hA⟩:=jG R hJ ry;obtain⟨p',BL,Rv,g⟩:=R.hr.obj k _ hK;have:p'=p:=zBH<|BL.symm.trans J;subst this;have mg:k≠j:=λe=>by subst e;rw[hK]at hJ;cases hJ
 obtain⟨cs,ty,f,Gj,Ch,Gk⟩:=g.row;cases Ma:P.info? t with
 |none=>rw[Ma]at BT;cases BT
 |some ti=>
 rw[Ma]at BT;have Tp:ti.size=1:=by simpa using BT
 have hisz:i<Rv.size:=by rw[g.size];exact hi
 have mM:∀b,p'.foot b->b≠q.blk:=λb f e=>R.hr.dis k j _ _ p' q b mg hK hJ J hq f (by rw[hqf];exact e)
 have n6:a.eval x=.pointer (Z ⟨p'.blk,p'.off+i,A⟩):=by rw[ex];simp
 have BF:w.cell? ⟨p'.blk,p'.off+i,A⟩=Z Rv[i]:=by
  grind[World.cell?]
 have HB:∀jj,w.frozen? ⟨p'.blk,jj,A⟩=T:=λjj=>by unfold World.frozen?;simp[f]
 have K:AV p'.foot w<|w.setCells p'.blk (p'.off+i) (a.eval y).cells.toList:=(SC _ _ _ _).mono λb _ e=>by rw[show b=p'.blk from e];exact g.blk
 refine BK.skip (s:=Instr.storeAt t (a.eval x)<|a.eval y) (by unfold ω;rw[ho]) (w':=w.setCells p'.blk (p'.off+i) (a.eval y).cells.toList) ?_ ?_
 ·rw[n6];refine jU Ma (by rw[ey,Tp];rfl) (λjj d8=>?_) HB λϛ hu=>?_
  ·simp_all[Value.cells]
  ·rw[ey]at hu;have:ϛ=.map (Z q.blk):=by simpa[Value.cells]using hu
   subst this;rfl
 ·rw[m5];rw[ey]at K⊢;have eC:(Value.map<|Z q.blk).cells.toList= [Value.map<|Z q.blk]:=rfl;rw[eC]at K⊢;obtain⟨Fs,e1,X,e3⟩:=T3 p'.blk ty (0,0) [Value.map<|Z q.blk] (p'.off+i) w cs f Z7
  generalize hW:w.setCells p'.blk (p'.off+i) [Value.map<|Z q.blk]=W at K e1⊢
  have at_:∀{b ob},b≠p'.blk->w.heap[b]?=Z ob->W.heap[b]?=Z ob:=λ{b ob} Ay Dl=>by
   rw[←Dl,←hW];exact(SC p'.blk [Value.map<|Z q.blk] (p'.off+i) w).block b (zAy.1 Dl).1 Ay
  have ua:q.blk≠p'.blk:=λe=>mM p'.blk g.blk e.symm
  let Q:=Rv.setIfInBounds i<|Value.map<|Z q.blk
  have V:∀m:E,Q[m]?=u (i=m) (Z<|Value.map<|Z q.blk) (Rv[m]?) :=λm=>by
   grind
  let r:AN:=⟨p'.blk,p'.off,p'.room,.tuple Q,λb=>b=p'.blk∨∃m:E,Q[m]?=Z (Value.map<|Z b)⟩
  have v7:∀{m:E} {z:M KS},(I.set i<|Z l)[m]?=Z z->(m=i/\z=Z l)∨(m≠i/\I[m]?=Z z):=λ{m z} c=>by
   grind
  have SA:Ft W r n' (I.set i<|Z l) A Q:=by
   refine⟨rfl,by simp[Q,g.size],⟨Fs,ty,e1,by simpa[X]using Gj,by rw[X];exact Ch,λm c=>?_⟩,.inl rfl,λm l1 c=>?_,λm c=>?_,λb f=>?_,λm m' b Y G=>?_⟩
   ·grind
   ·rcases v7 c with⟨rfl,e⟩|⟨Ay,c⟩
    ·cases e;refine⟨q.blk,by rw[V,zAF rfl],ua,.inr ⟨m,by rw[V,zAF rfl]⟩,es,As,{ hA with blk:=at_ ua hA.blk },λx hx=>by cases hx⟩
    ·obtain⟨b,k1,k2,k3,Le,c1,k4,_⟩:=g.has m l1 c;exact⟨b,Z4,k2,.inr ⟨m,Z4⟩,Le,c1,{ k4 with blk:=at_ k2 k4.blk },λx hx=>by cases hx⟩
   ·rcases v7 c with⟨rfl,e⟩|⟨Ay,c⟩
    ·cases e
    ·rw[V,zJz<|Ne.symm Ay];exact g.nil m c
   ·rcases f with f|⟨m,c⟩
    ·exact .inl f
    ·refine .inr ?_;have AB:=c;rw[V]at c
     by_cases e:i=m
     ·grind
     ·rw[zJz e]at c;obtain⟨l1,g1,_⟩:=g.of_map c
      grind
   ·rw[V]at Y G
    by_cases c1:i=m
    ·by_cases c2:i=m'
     ·omega
     ·rw[zAF c1]at Y;rw[zJz c2]at G;cases Y;obtain⟨_,_,g2,_⟩:=g.of_map G;exact τ rfl (mM _ g2)
    ·rw[zJz c1]at Y
     by_cases c2:i=m'
     ·rw[zAF c2]at G;cases G;obtain⟨_,_,g2,_⟩:=g.of_map Y;exact τ rfl (mM _ g2)
     ·rw[zJz c2]at G;exact g.inj m m' b Y G
  have Hi:∀b,r.foot b->(p'.foot b∨q.foot b)/\Dr W b:=λb f=>by
   refine⟨?_,SA.lies f⟩;rcases f with f|⟨m,c⟩
   ·exact .inl (by rw[f];exact g.blk)
   ·rw[V]at c
    by_cases e:i=m
    ·grind
    ·rw[zJz e]at c;exact .inl (g.of_map c).choose_spec.2.1
  obtain⟨g1,g2⟩:=R.hr.merge (o':=.mo<|.sets n' (I.set i<|Z l) A) (p':=r) mg hK J hJ hq K Hi ⟨Q,SA⟩
  have ϐ:BW (MS N S.h ρ) w ρ (MS N ((S.h.set k A).set j A++[Z<|.mo<|.sets n' (I.set i<|Z l) A])<|ρ++[r]) W<|ρ++[r]:=
   ⟨λb f c _=>K.block b f λhx=>c<|.inr ⟨k,_,p',hK,J,hx⟩,λb f=>f.elim (λh=>.inl<|.inl h) λh=>(g2.grow b h).imp .inr id,λk q hk=>Eo hk⟩
  refine⟨⟨ρ++[r],⟨g1,by simp[R.fr.1,Act.put],λm c=>?_⟩,g2,λk q hk=>Eo hk⟩,k,i,p',t,x,y,ho,hX,J,K⟩;have EE:m<F S.fr:=by simpa using c
  have e:(S.fr.map<|OL k<|F S.h).getD m .any=OL k (F S.h) (S.fr.getD m .any):=by simp[EE]
  show AL _ W ((S.fr.map<|OL k<|F S.h).getD m .any) _ _
  rw[e];have r0:=R.fr.2 m EE;cases hd:S.fr.getD m .any with
  |msl k1 m1 o1 n1=>
   rw[hd]at r0
   by_cases hc:k1=k
   ·have X:OL k (F S.h) (.msl k1 m1 o1 n1)=.msl (F S.h) m1 o1 n1:=by simp only[OL,zAF hc]
    rw[X];rw[hc]at r0;obtain⟨q0,cap,w9,mD,u1,u2,u3⟩:=r0;have eq0:q0=p':=zBH<|w9.symm.trans J;subst eq0;exact⟨r,cap,by rw[←R.hr.len];simp,mD,u1,u2,u3⟩
   ·have X:OL k (F S.h) (.msl k1 m1 o1 n1)=.msl k1 m1 o1 n1:=by simp only[OL,zJz hc]
    rw[X];exact AL.out _ ϐ r0
  |_=>rw[hd]at r0;exact AL.out _ ϐ r0
end
section
def PS:DV:=.tup 0 λj=>([]:O DV).getD j .any
def ZM{ϕ:Ψ}{w:κ}{ρ:O AN}:AL ϕ w PS ρ undef:=⟨#[],rfl,rfl,λj l=>τ l<|zBT j⟩
def Ct(fr:O DV)(a:W0)(Ϛ:DV):O DV:=match a with
 |some t=>fr.set t Ϛ
 |none=>fr
section
variable{P:ν}{Γ:A1}{N:Ψ}{S:St}{ρ:O AN}{a:Act}{w:κ}
variable{v:μ}{Ϛ:DV}
def Hw(R:Ad P Γ N S ρ a w)(b:W0)(c:AL (MS N S.h ρ) w Ϛ ρ v):Ad P Γ N ⟨Ct S.fr b Ϛ,S.h⟩ ρ (a.put b v) w:=by
 refine⟨R.hr,?_⟩;cases b with
 |none=>exact R.fr
 |some t=>exact R.fr.set t c
def Om(R:Ad P Γ N S ρ a w){d':DV}{h':DH}{ext:ζ}{w':κ}(t:W0)(G:Cj P Γ N S.h ρ w ext Ϛ h' v w')(z:∀ϕ ρ',AL ϕ w' Ϛ ρ' v->AL ϕ w' d' ρ' v):
 ∃ρ',Ad P Γ N ⟨Ct S.fr t d',h'⟩ ρ' (a.put t v) w'/\C6 S.h ρ w h' ρ' w':=by
 obtain⟨ρ',s,y,i,J⟩:=G.ex;have ϐ:BW (MS N S.h ρ) w ρ (MS N h' ρ') w' ρ':=⟨λb c e _=>i.upd.block b c λf=>e<|.inr f,λb c=>c.elim (λh=>.inl<|.inl h) λh=>(i.grow b h).imp .inr id,J⟩;have R':Ad P Γ N ⟨S.fr,h'⟩ ρ' a w':=⟨s,R.fr.out ϐ⟩;exact⟨ρ',Hw R' t<|z _ _ y,i,J⟩
end
def Vg(P:ν)(t:ψ):M<|ψ×ψ:=match P.underlying t with
 |some (.map k e)=>if Tj P k then match P.info? e with
  |some i=>match i.zero with
   |some (.slice A 0 0)=>Z (k,e)
   |_=>A
  |none=>A
  else A
 |_=>A
variable{t:ψ}{P:ν}
theorem si{k e:ψ}(h:Vg P t=Z (k,e)):P.underlying t=Z (.map k e)/\Hc P k=Z 1/\∀w,(zeroValue e).run P w=.ok (.slice A 0 0) w:=by
 unfold Vg at h;split at h
 ·split at h
  ·split at h
   ·split at h
    ·simp_all[Hc,zKQ,zeroValue,typeInfo]
    ·cases h
   ·cases h
  ·cases h
 ·cases h
def TX(j q:E):DV->DV
 | .mri k i=>u (k=j) (u (i=0) (.mri q 0) .any)<|.mri k i
 |Ϛ=>Ϛ
def PQ(f:U->Ξ)(k:U)(ϙ:Ξ):U->Ξ:=λx=>u (x=k) ϙ<|f x
def Vh(P:ν)(S:St)(o:Oper):M<|St×O Prop:=match o.op with
 | .makeMap t A=>match Vg P t with
  |some _=>Z (⟨Ct S.fr o.dst<|.mri (F S.h) 0,S.h++[Z<|.mo<|.rows (λ_=>[]) A]⟩,[])
  |none=>A
 | .lookup t m k T=>match Vg P t with
  |some _=>match Ak S.fr m,Ak S.fr k with
   | .mri j 0,.int .i64 x=>match S.h[j]? with
    |some (Z<|.mo<|.rows f B9)=>u (B9.all λy=>!y.2.2) (Z (⟨Ct (S.fr.map<|TX j<|F S.h) o.dst<|.mri (F S.h) 1,S.h.set j A++[Z<|.mo<|.rows f<|Z (x,f x,T)]⟩,[])) A
    |_=>A
   |_,_=>A
  |none=>A
 | .mapUpdate t m k y=>match Vg P t with
  |some _=>match Ak S.fr m,Ak S.fr k,Ak S.fr y with
   | .mri j 0,.int .i64 x,.mri K 1=>match S.h[j]? with
    |some (Z<|.mo<|.rows f<|Z (x',ϙ,_))=>u (K=j) (Z (⟨Ct S.fr o.dst PS,S.h.set j<|Z<|.mo<|.rows (PQ f x' ϙ) A⟩,[x'=x])) A
    |_=>A
   |_,_,_=>A
  |none=>A
 | .call c=>match c.callee with
  | .builtin .append=>match c.args.toList with
   |[x,y]=>match c.argTypes.toList with
    |[t,a]=>if t=a then match Lg P t with
     |some (.ints,_,i,_)=>if 128<i.bytes then A else match Ak S.fr x,MW S (Ak S.fr y)with
      | .mse j 1 off n,Z (ys,I)=>match S.h[j]? with
       |some (Z<|.ints xs)=>Z (⟨Ct S.fr o.dst<|.mse (F S.h) 1 0<|n+F ys,S.h.set j A++[Z<|.ints<|xs.drop off++ys]⟩,[I,0<F ys,off+n=F xs,n+F ys<=Aw])
       |_=>A
      | .mri j 1,Z (ys,I)=>match S.h[j]? with
       |some (Z<|.mo<|.rows f<|Z (x',ϙ,_))=>Z (⟨Ct (S.fr.map<|TX j<|F S.h) o.dst<|.mri (F S.h) 1,S.h.set j A++[Z<|.mo<|.rows f<|Z (x',ϙ++ys,D)]⟩,[I,0<F ys,F ϙ+F ys<=Aw])
       |_=>A
      |_,_=>A
     |_=>A
     else A
    |_=>A
   |_=>A
  |_=>A
 |_=>A
theorem zFN{S:St}{o:Oper}{r:St×O Prop}(h:Vh P S o=Z r){x y:Operand}:o.op≠.store t x y:=by
 grind[Vh]
theorem BJ.map{ϕ:Ψ}{w:κ}{ρ:O AN}{fr:O DV}{t:υ μ}(h:BJ ϕ w ρ fr t){g:DV->DV}(hg:∀Ϛ v,AL ϕ w Ϛ ρ v->AL ϕ w (g Ϛ) ρ v):BJ ϕ w ρ (fr.map g) t:=
 ⟨by simp[h.1],λi hi=>by
  grind[BJ]⟩
section
variable{P:ν}{Γ:A1}{N:Ψ}{S:St}{ρ:O AN}{a:Act}{w w':κ}{p p':AN}{f:U->Ξ}{B9:X1}{ϛ:μ}{es:υ MapEntry}{As:E}
variable{l:ψ}
theorem vG(h:FC w p f B9 ϛ es As)(a:P.underlying l=Z (.int .i64))(x:U):
 ((Instr.findKey l (.int .i64 x) es.toList).run P w=.ok A w/\∀e∈es.toList,e.key≠.int .i64 x)∨∃j e,(Instr.findKey l (.int .i64 x) es.toList).run P w=.ok (Z (j,e.val)) w/\es[j]?=Z e/\e.key=.int .i64 x:=by
 rcases MapKept.findNow_spec (d:=.int .i64) (k:=.int .i64 x) (by trivial) es.toList 0 (λe b=>by
  obtain⟨k,a,_⟩:=h.key e b;rw[a];trivial)with⟨c,g⟩|⟨j,e,c,g,h3⟩
 ·grind[MapKept.run_findKey]
 grind[MapKept.run_findKey]
variable{v:μ}{j:E}
theorem cH(R:Ad P Γ N S ρ a w){i:E}(b:S.h[j]?=Z (Z<|.mo<|.rows f B9))(t:AL (MS N S.h ρ) w (.mri j i) ρ v):∃p ϛ es As,ρ[j]?=Z p/\FC w p f B9 ϛ es As/\(#[Value.map<|Z p.blk,ϛ]:υ μ)[i]?=Z v:=by
 obtain⟨p,vs,c,J,Dj⟩:=t;obtain⟨p',e,ϛ,es,As,g⟩:=R.hr.obj j _ b;have:p'=p:=zBH<|e.symm.trans c;subst this;have:#[Value.map<|Z p'.blk,ϛ]=vs:=by have:=g.val.symm.trans J;cases this;rfl
 grind
def FC.lies(h:FC w p f B9 ϛ es As):Dr w p.blk:=⟨_,rfl,(),h.blk⟩
def se(R:Ad P Γ N S ρ a w)(n:S.h[j]?=Z (Z<|.mo<|.rows f B9))(i:ρ[j]?=Z p)(s:FC w p f B9 ϛ es As){c:U->Ξ}{V:X1}{o:μ}{G:υ MapEntry}{I:E}
 (x:AV p.foot w w') (J:∀b,p'.foot b->(p.foot b∨w.heap.size<=b)/\Dr w' b) (Y:FC w' p' c V o G I) (K:p'.blk=p.blk) (t:W0):
 ∃ρ',Ad P Γ N ⟨Ct (S.fr.map<|TX j<|F S.h) t<|.mri (F S.h) 1,S.h.set j A++[Z<|.mo<|.rows c V]⟩ ρ' (a.put t o) w'/\C6 S.h ρ w (S.h.set j A++[Z<|.mo<|.rows c V]) ρ' w':=by
 obtain⟨Q,y⟩:=R.hr.regrow (o':=.mo<|.rows c V) n i x J ⟨o,G,I,Y⟩;have l:∀(k:E) (q:AN),ρ[k]?=Z q->(ρ++[p'])[k]?=Z q:=λk q W=>Eo W
 have ϐ:BW (MS N S.h ρ) w ρ (MS N (S.h.set j A++[Z<|.mo<|.rows c V])<|ρ++[p']) w'<|ρ++[p']:=
  ⟨λb m X _=>x.block b m λhx=>X<|.inr ⟨j,_,p,n,i,hx⟩,λb m=>m.elim (λh=>.inl<|.inl h) λh=>(y.grow b h).imp .inr id,l⟩
 have r:(ρ++[p'])[F S.h]?=Z p':=by rw[←R.hr.len];simp
 have C3:=(R.fr.out ϐ).map (g:=TX j<|F S.h) (λϚ v z=>by
  unfold TX;split
  ·split
   ·rename_i e;split
    ·rename_i e2;subst e e2;obtain⟨q,vs,h1,h2,h3⟩:=z;have:q=p:=zBH<|h1.symm.trans<|l _ _ i;subst this;have e3:#[Value.map<|Z q.blk,ϛ]=vs:=by have:=s.val.symm.trans h2;cases this;rfl
     subst e3;exact⟨p',_,r,Y.val,by rw[K];simpa using h3⟩
    ·trivial
   ·exact z
  ·exact z)
 exact⟨ρ++[p'],Hw (S:=⟨S.fr.map<|TX j<|F S.h,_⟩) ⟨Q,C3⟩ t ⟨p',_,r,Y.val,rfl⟩,y,l⟩
theorem zIL(h:FC w p f B9 ϛ es As)(s:∀k ϙ,B9≠Z (k,ϙ,D)){t W:ψ}(q:P.underlying t=Z (.map l W))(v:Hc P l=Z 1)(z:(zeroValue W).run P w=.ok (.slice A 0 0) w)(x:U):
 ∃o,(Instr.lookup t (.map<|Z p.blk) (.int .i64 x) T).run P w=.ok o w/\FC w { p with val:=.tuple #[Value.map<|Z p.blk,o] } f (Z (x,f x,T)) o es As:=by
 have y:P.underlying l=Z (.int .i64):=by
  grind[Tg]
 have hc:=λe=>Tf (w:=w) v (x:=[x]) rfl e
 have r:∀o,(Hp w (λb=>p.foot b/\b≠p.blk) o (f x)/\∀e∈es.toList,∀b,DB o=Z b->DB e.val=Z b->e.key=.int .i64 x)->FC w { p with val:=.tuple #[Value.map<|Z p.blk,o] } f (Z (x,f x,T)) o es As:=λo G=>
  ⟨rfl,h.blk,h.own,λe I=>let⟨k,a,c⟩:=h.key e I;⟨k,a,λ_=>c λϙ=>s k ϙ⟩,h.no,h.nd,h.apart,h.born,h.stamps,λk ϙ g e=>by cases e;exact G⟩
 rcases vG h y x with⟨a,c⟩|⟨j,e,a,c,i⟩
 ·refine⟨.slice A 0 0,?_,r _ ⟨.inl ⟨h.no x c,rfl⟩,λe _ b n=>by cases n⟩⟩;have m:=hc es.isEmpty;simp only[Bb]at m;simp[Instr.lookup,zKz q,zMh h.blk,m,a,z,Result.andThen]
 ·have Y:e∈es.toList:=Array.mem_toList_iff.2<|zRO c;obtain⟨k,J,K⟩:=h.key e Y;have:k=x:=by rw[J]at i;cases i;rfl
  subst this;refine⟨e.val,?_,r _ ⟨K λϙ=>s k ϙ,λN Q b n R=>(h.apart N Q e Y b R n).trans i⟩⟩;have m:=hc es.isEmpty;simp only[Bb]at m;simp[Instr.lookup,zKz q,zMh h.blk,m,a,Result.andThen]
variable{ys ϙ:Ξ}{I z:μ}{i:TypeInfo}{e ty:ψ}
theorem rV{ϖ:Ψ}(s:Hp w ϖ ϛ ϙ){t:ψ}(x:P.underlying t=Z (.slice e))(hi:P.info? e=Z i)(a:i.zero=Z z)(m:i.size=1)(f:z.cells.size=i.size)(k:i.bytes<=128)
   (hy:Src P i.size t I (F ys) (ys.map<|Value.int .i64) w) (hc:0<F ys) (g:F ϙ+F ys<=Aw):
 ∃w' q c,(Builtin.append_ #[t,t] ty #[ϛ,I]).run P w=.ok (.slice (Z ⟨q.blk,q.off,A⟩) (F<|ϙ++ys) c) w'/\F (ϙ++ys)<=c/\q.off+c<=q.room/\AV (λb=>DB ϛ=Z b) w w'/\(DB ϛ=Z q.blk∨w.heap.size<=q.blk)/\Ai w' q (F<|ϙ++ys) λj v=>v=.int .i64 (H (ϙ++ys) j 0):=by
 have h:F (ϙ++ys)=F ϙ+F ys:=zKp;rcases s with⟨rfl,rfl⟩|⟨q,cap,rfl,y,h2,h3,h4,K⟩
 ·obtain⟨w',c,r,G,cs,rfl,W,l⟩:=gx A (ty:=ty) x hi a f k hy hc (by grind[Aw]);rw[m,zNK]at W;refine⟨_,Dx w cs.size,c,by simpa[Dx]using r,by simpa using G,by simp[Dx,W],AV.ofExt<|(A0.toDrew w).allocR _,.inr<|zI1 _,Nc rfl Z7 λj hj=>?_⟩
  grind
 ·obtain⟨w',n,c,r,G,o,W,l,p⟩:=gv (ty:=ty) (R:=λj v=>v=.int .i64 (H ϙ j 0)) (cap:=cap) x hi a Z2 f k (by rw[m,zNK];exact K) y Z4 hy (by unfold Aw at g;omega);rw[m,zNK]at o;have hq:q.foot=(λb=>b=q.blk):=K.1;have hR:=lh (P:=P) (ϕ:=λ_=>False) (ρ':=[]) m p;refine⟨w',n,c,by rw[h];exact r,by rw[h];exact G,o,W.mono λb _ g=>by grind[DB],?_,hR⟩;have J:=p.1;rcases l n.blk (by rw[J])with e|e
  ·grind[DB]
  ·exact .inr e
variable{g:ζ}{x:U}
theorem zIM(h:FC w p f B9 ϛ es As)(V:B9=Z (x,ϙ,g))(v:∀b,p.foot b->Dr w b){t:ψ}(S:P.underlying t=Z (.slice e))(hi:P.info? e=Z i)(X:i.zero=Z z)(Y:i.size=1)(Cf:z.cells.size=i.size)(Eb:i.bytes<=128)
   (hy:Src P i.size t I (F ys) (ys.map<|Value.int .i64) w) (hc:0<F ys) (a:F ϙ+F ys<=Aw):
 ∃w' y p',(Builtin.append_ #[t,t] ty #[ϛ,I]).run P w=.ok y w'/\AV p.foot w w'/\(∀b,p'.foot b->(p.foot b∨w.heap.size<=b)/\Dr w' b)/\FC w' p' f (Z (x,ϙ++ys,D)) y es As/\p'.blk=p.blk:=by
 obtain⟨G,hd⟩:=h.inHand x ϙ g V;have Ap:F (ϙ++ys)=F ϙ+F ys:=zKp;have lK:=rV (ty:=ty) G S hi X Y Cf Eb hy hc a;obtain⟨w',q,J,r1,r2,r3,W,r5,K⟩:=lK;have m:∀b,DB ϛ=Z b->(p.foot b/\b≠p.blk)/\b<w.heap.size:=λb a=>G.blk a
 have N:∀b,b<w.heap.size->DB ϛ≠Z b->w'.heap[b]?=w.heap[b]? :=λb a n=>W.block b a n
 have o:DB ϛ≠Z p.blk:=λe=>(m _ e).1.2 rfl
 have mN:p.blk<w.heap.size:=(zAy.1 h.blk).1;have mL:q.blk≠p.blk:=λe=>r5.elim (λc=>o<|by rw[←e];exact c) λc=>Z2
 refine⟨w',_,⟨p.blk,p.off,p.room,.tuple #[Value.map<|Z p.blk,.slice (Z ⟨q.blk,q.off,A⟩) (F<|ϙ++ys) J],λb=>(p.foot b/\DB ϛ≠Z b)∨b=q.blk⟩,r1,W.mono λb _ a=>(m b a).1.1,λb a=>?_,?_,rfl⟩
 ·rcases a with⟨g1,g2⟩|g1
  ·grind
  ·obtain⟨_,cs,tt,g,_⟩:=K;subst g1;exact⟨r5.imp (λe=>(m _ e).1.1) id,.cells g⟩
 ·have OE:∀c∈es.toList,∀k,c.key=.int .i64 k->k≠x->Hp w (λb=>p.foot b/\b≠p.blk) c.val (f k):=λc j k r Tz=>by
   obtain⟨k',l,h2⟩:=h.key c j
   grind
  refine⟨rfl,(N _ mN o).trans h.blk,.inl ⟨h.own,o⟩,λc j=>?_,h.no,h.nd,h.apart,h.born,h.stamps,λk L' g' c=>?_⟩
  ·obtain⟨k,l,_⟩:=h.key c j;refine⟨k,l,λn=>?_⟩;have r:k≠x:=λe=>by subst e;exact n _ rfl
   have Q:∀b,DB c.val=Z b->DB ϛ≠Z b:=λb a R=>r Z4
   exact(OE c j k l r).out (λb s a v=>N b v<|Q b a) λb s a=>⟨.inl ⟨s.1,Q b a⟩,s.2⟩
  ·cases c;refine⟨.inr ⟨q,J,rfl,r2,r3,by grind[LB,Aw],⟨.inr rfl,mL⟩,K⟩,λc j b a R=>?_⟩;cases a;rcases r5 with r5|r5
   ·exact hd c j _ r5 R
   ·obtain⟨k',l,_⟩:=h.key c j
    grind[Hp,DB]
theorem zIK(h:FC w p f B9 ϛ es As)(W:B9=Z (x,ϙ,g)){t o X:ψ}(z:P.underlying t=Z (.map o X))(J:Hc P o=Z 1):
 ∃w' G I,(Instr.mapUpdate t (.map<|Z p.blk) (.int .i64 x) ϛ).run P w=.ok () w'/\AV (λb=>b=p.blk) w w'/\FC w' p (PQ f x ϙ) A ϛ G I:=by
 have hu:P.underlying o=Z (.int .i64):=by
  grind[Tg]
 have hc:=Tf (w:=w) J (x:=[x]) rfl T;simp only[Bb]at hc;obtain⟨hs,hd⟩:=h.inHand x ϙ g W;have Ao:p.blk<w.heap.size:=(zAy.1 h.blk).1
 have K:∀(G:υ MapEntry) (I:E),(∀e∈G.toList,(e.key=.int .i64 x/\e.val=ϛ)∨(e∈es.toList/\e.key≠.int .i64 x))->(∃e∈G.toList,e.key=.int .i64 x)->(∀e∈es.toList,e.key≠.int .i64 x->e∈G.toList)->MapKept.Stamped G I->
  FC { w with heap:=w.heap.setIfInBounds p.blk (.map G I) } p (PQ f x ϙ) A ϛ G I:=λG I q m2 m3 st=>by
  have stay:∀b,b≠p.blk->(w.heap.setIfInBounds p.blk<|.map G I)[b]?=w.heap[b]? :=λb r=>by simp[Ne.symm r]
  have OE:∀c∈es.toList,∀k,c.key=.int .i64 k->k≠x->Hp w (λb=>p.foot b/\b≠p.blk) c.val (f k):=λc a k J n=>by
   obtain⟨k',i,l⟩:=h.key c a
   grind
  refine⟨h.val,by simp[Ao],h.own,λe a=>?_,λk Q=>?_,st.2.2,λe a c R b r En=>?_,st.1,st.2.1,λk L' g' e=>by cases e⟩
  ·rcases q e a with⟨y,N⟩|⟨y,N⟩
   ·refine⟨x,y,λ_=>?_⟩;rw[N];unfold PQ;rw[zAF rfl];exact hs.out (λb s _ _=>stay b s.2) λ_ h _=>h
   ·obtain⟨k,i,_⟩:=h.key e y;have n:k≠x:=λc=>N (by rw[i,c])
    refine⟨k,i,λ_=>?_⟩;unfold PQ;rw[zJz n];exact(OE e y k i n).out (λb s _ _=>stay b s.2) λ_ h _=>h
  ·have n:k≠x:=λe=>Z4
   unfold PQ;rw[zJz n];refine h.no k λe a hk2=>?_
   grind
  ·rcases q e a with⟨y,N⟩|⟨y,N⟩
   ·grind
   ·rcases q c R with⟨S,b2⟩|⟨S,b2⟩
    ·grind
    ·exact h.apart e y c S b r En
 have st:MapKept.Stamped es As:=⟨h.born,h.stamps,h.nd⟩;rcases vG h hu x with⟨i,l⟩|⟨j,e,i,l,V⟩
 ·refine⟨_,es.push { key:=.int .i64 x,val:=ϛ,born:=As },As+1,?_,Uu _,K _ _ (λe a=>?_) ⟨{ key:=.int .i64 x,val:=ϛ,born:=As },Z3,rfl⟩ (λe a _=>Z4)<|MapKept.stamped_push st l⟩
  ·simp[Instr.mapUpdate,zKz z,zMh h.blk,hc,i,zOn _ h.blk,Result.andThen]
  grind
 ·have GH:((es[j]?).map (·.key)).getD (.int .i64 x)=.int .i64 x:=by rw[l];exact V
  have FO:=MapKept.run_keyThatStays (P:=P) (w:=w) (d:=.int .i64) (k:=.int .i64 x) (by trivial);have hj:j<es.size:=(zAy.1 l).1
  have inj:∀(m:E) (c:MapEntry),es[m]?=Z c->c.key=.int .i64 x->m=j:=λm c Y Q=>by
   have DM:m<es.size:=(zAy.1 Y).1;have g1:(es.toList.map (·.key))[m]?=Z (.int .i64 x):=by simp[Y,Q]
   have g2:(es.toList.map (·.key))[j]?=Z (.int .i64 x):=by simp[l,V]
   exact(List.getElem?_inj (by simpa using DM) h.nd).1<|g1.trans g2.symm
  have get:∀(m:E),(es.modify j λe=>{ e with key:=.int .i64 x,val:=ϛ })[m]?=u (j=m) ((es[m]?).map λe=>{ e with key:=.int .i64 x,val:=ϛ }) (es[m]?) :=λm=>zR2
  refine⟨_,es.modify j λe=>{ e with key:=.int .i64 x,val:=ϛ },As,?_,Uu _,K _ _ (λe1 v=>?_) ⟨{ e with key:=.int .i64 x,val:=ϛ },?_,rfl⟩ (λe1 v Ay=>?_)<|MapKept.stamped_modify st _ _ (λ_ _=>rfl) λc _ R=>Z4⟩
  ·simp[Instr.mapUpdate,zKz z,zMh h.blk,hc,i,GH,FO,zOn _ h.blk,Result.andThen]
  ·grind[List.mem_iff_getElem?]
  ·grind
  grind[List.mem_iff_getElem?]
theorem zIz(R:Ad P Γ N S ρ a w){off n:E}{xs:Ξ}(X:S.h[j]?=Z (Z<|.ints xs))(Y:AL (MS N S.h ρ) w (.mse j 1 off n) ρ v)(hn:off+n=F xs){t:ψ}(k:P.underlying t=Z (.slice e))(hi:P.info? e=Z i)(l:i.zero=Z z)(m:i.size=1)(o:z.cells.size=i.size)(q:i.bytes<=128)
   (hy:Src P i.size t I (F ys) (ys.map<|Value.int .i64) w) (hc:0<F ys) (g:n+F ys<=Aw):
 ∃ϛ w' p' f,v=ϛ/\(Builtin.append_ #[t,t] ty #[ϛ,I]).run P w=.ok (.slice (Z ⟨p'.blk,p'.off,A⟩) (n+F ys) f) w'/\n+F ys<=f/\p'.off+f<=p'.room/\(∃p,ρ[j]?=Z p/\AV p.foot w w'/\∀b,p'.foot b->(p.foot b∨w.heap.size<=b)/\Dr w' b)/\
  (∀{ϕ ρ'},Bc P ϕ w' ρ' p'<|.ints<|xs.drop off++ys)/\True:=by
 obtain⟨p,s,cap,y,rfl,h1,h2,h3⟩:=Y;obtain⟨x,Qj,hr⟩:=R.hr.obj j _ X;have:x=p:=zBH<|Qj.symm.trans y;subst this;have eF:F (xs.drop off)=n:=Z7
 have lK:∃w' p' f,(Builtin.append_ #[t,t] ty #[.slice s n cap,I]).run P w=.ok (.slice (Z ⟨p'.blk,p'.off,A⟩) (n+F ys) f) w'/\n+F ys<=f/\p'.off+f*i.size<=p'.room/\AV x.foot w w'/\(∀b,p'.foot b->x.foot b∨w.heap.size<=b)/\Ai w' p' ((n+F ys)*i.size) (Ho (n*i.size) (λj ϛ=>ϛ=.int .i64 (H (xs.drop off) j 0))<|ys.map<|Value.int .i64):=by
  by_cases Qs:cap=0
  ·subst Qs;have G9:n=0:=Z2
   subst G9;obtain⟨w',f,r,G,cs,rfl,W,J⟩:=gx s (ty:=ty) k hi l o q hy hc (by unfold Aw at g;omega);refine⟨_,Dx w cs.size,f,by simpa[Dx]using r,Z2,by simp[Dx,W],AV.ofExt<|(A0.toDrew w).allocR _,λb g=>.inr<|Nat.le_of_eq<|Eq.symm g,Nc rfl ?_ λj hj=>?_⟩
   ·grind
   simp_all[Ho]
  ·obtain⟨rfl,h4⟩:=h3 Z2;obtain⟨c1,cs,K,c2,c3,c4,c5⟩:=hr
   exact gv (ty:=ty) (p:={ x with off:=x.off+off*1 }) (cap:=cap) k hi l Z2 o q (R:=λj ϛ=>ϛ=.int .i64 (H (xs.drop off) j 0)) (by
    grind[Ai]) h1 (by rw[m];simpa using h4) hy (by unfold Aw at g;omega)
 obtain⟨w',p',f,r,G,Q,W,J,V⟩:=lK;rw[m,zNK]at Q;refine⟨_,w',p',f,rfl,r,G,Q,⟨x,y,W,λb g=>⟨J b g,?_⟩⟩,λ{ϕ ρ'}=>lh (xs:=xs.drop off) (ys:=ys) m (by rw[eF];exact V),trivial⟩;obtain⟨e1,cs,K,e2,_⟩:=V;rw[e1]at g;exact .cells (c:=cs) (t:=K) (z:=(0,0)) Z4
variable{vs:O Prop}{S':St}{o:Oper}
theorem zFM(R:Ad P Γ N S ρ a w)(h:Vh P S o=Z (S',vs))(hv:BU vs):
 BK P (ω a.eval o) w (λv w'=>∃ρ',Ad P Γ N S' ρ' (a.put o.dst v) w'/\C6 S.h ρ w S'.h ρ' w'):=by
 unfold Vh at h;split at h
 ·rename_i t K;split at h
  ·cases h;refine BK.value (s:=Instr.makeMap t A) (by unfold ω;rw[K];rfl) (v:=.map<|Z w.heap.size) (w':=w.alloc<|.map #[] 0) (by rfl) ?_;have G:=Xk (ob:=.map #[] 0) (o:=.mo<|.rows (λ_=>[]) A) (Ϛ:=.mri (F S.h) 0) (v:=.map<|Z w.heap.size) (pl:=⟨w.heap.size,0,0,.tuple #[.map<|Z w.heap.size,undef],λb=>b=w.heap.size⟩) R.hr rfl rfl (λϕ ρ'=>⟨undef,#[],0,rfl,zNf w _,rfl,λe he=>τ he Z3,λ_ _=>rfl,Z3,λe he=>τ he Z3,λe he=>τ he Z3,Z3,λk ϙ g e=>by cases e⟩) (λϕ ρ' l=>⟨_,_,l,rfl,rfl⟩) D;exact Om R o.dst G λ_ _ h=>h
  ·cases h
 ·rename_i t m k K;split at h
  ·rename_i r hT;obtain⟨J,hk,hz⟩:=si hT;have rm:=Bo R m;have rk:=Bo R k;split at h
   ·rename_i j x hM hK;split at h
    ·rename_i f B9 q;split at h
     ·rename_i hh;cases h;rw[hM]at rm;rw[hK]at rk;obtain⟨p,ϛ,es,As,l,I,Dj⟩:=cH R q rm;have em:a.eval m=.map (Z p.blk):=by simpa using Dj.symm
      have ek:a.eval k=.int .i64 x:=rk;obtain⟨u',W,Q⟩:=zIL I (λk ϙ e=>by subst e;simp at hh) J hk (hz w) x;refine BK.value (s:=Instr.lookup t (a.eval m) (a.eval k) T) (by unfold ω;rw[K]) (by rw[em,ek];exact W) ?_;exact se (p':={ p with val:=.tuple #[Value.map<|Z p.blk,u'] }) R q l I (AV.refl _ _) (λb V=>⟨.inl V,(R.hr.cel j _ p b q l V).2.2⟩) Q rfl o.dst
     ·cases h
    ·cases h
   ·cases h
  ·cases h
 ·rename_i t m k y K;split at h
  ·rename_i r hT;obtain⟨J,hk,hz⟩:=si hT;have rm:=Bo R m;have rk:=Bo R k;have ry:=Bo R y;split at h
   ·rename_i j x j' hM hK hY;split at h
    ·rename_i f x' ϙ g q;split at h
     ·rename_i hj;cases h;subst hj;have hx:x'=x:=hv.1;subst hx;rw[hM]at rm;rw[hK]at rk;rw[hY]at ry;obtain⟨p,ϛ,es,As,l,I,Dj⟩:=cH R q rm;obtain⟨X,u2,es2,clock2,Qj,hA2,hvi2⟩:=cH R q ry;have:X=p:=zBH<|Qj.symm.trans l;subst this;have eu:u2=ϛ:=by have:=hA2.val.symm.trans I.val;simp at this;exact this
      have em:a.eval m=.map (Z X.blk):=by simpa using Dj.symm
      have ek:a.eval k=.int .i64 x':=rk;have ey:a.eval y=ϛ:=Z4
      obtain⟨w',Es,FT,W,Q,Y⟩:=zIK I rfl J hk;refine BK.skip (s:=Instr.mapUpdate t (a.eval m) (a.eval k)<|a.eval y) (by unfold ω;rw[K]) (w':=w') (by rw[em,ek,ey];exact W) ?_;have JK:AV X.foot w w':=Q.mono λb _ V=>by rw[show b=X.blk from V];exact I.own
      have hl:∀b,X.foot b->Dr w' b:=λb V=>by
       by_cases e:b=X.blk
       ·rw[e];exact Y.lies
       ·obtain⟨c,t1,t2,hc⟩:=(R.hr.cel _ _ X b q l V).2.2;exact⟨c,t1,t2,(Q.block b (zAy.1 hc).1 e).trans hc⟩
      have G:Cj P Γ N S.h ρ w T PS (S.h.set j'<|Z<|.mo<|.rows (PQ f x' ϙ) A) undef w':=⟨⟨ρ,R.hr.write q l JK hl ⟨ϛ,Es,FT,Y⟩,ZM,BD.write q l JK,λ_ _ h=>h⟩,λh=>by cases h⟩;exact Om R o.dst G λ_ _ h=>h
     ·cases h
    ·cases h
   ·cases h
  ·cases h
 ·rename_i c K;split at h
  ·rename_i hc;split at h
   ·rename_i x y ha;split at h
    ·rename_i t t' ht;split at h
     ·rename_i e;subst e;split at h
      ·rename_i e i z hk;obtain⟨J,hi,hz,h0,Cf,GH,_⟩:=YE hk;have E8:i.size=1:=GH.symm;split at h
       ·cases h
       ·have rx:=Bo R x;have ry:=Bo R y;split at h
        ·rename_i j off n ys vy hX hY;split at h
         ·rename_i xs q;cases h;obtain⟨v1,v2,v3,v4,_⟩:=hv;rw[hX]at rx;obtain⟨ad,w',p',Bp,e0,W,Q,Y,g4,g5,_⟩:=zIz (ty:=o.type) R q rx v3 J hi hz E8 Cf Z2 (by rw[E8];exact Wv R J ry hY v1) v2 v4;refine BK.value (Lc K hc ha ht) (by rw[e0];exact W) ?_;obtain⟨p,l⟩:=g4;obtain⟨q1,q2⟩:=R.hr.regrow (o':=.ints<|xs.drop off++ys) q l.1 l.2.1 l.2.2 g5
          have G:Cj P Γ N S.h ρ w T (.mse (F S.h) 1 0<|n+F ys) (S.h.set j A++[Z<|.ints<|xs.drop off++ys]) (.slice (Z ⟨p'.blk,p'.off,A⟩) (n+F ys) Bp) w':=
           ⟨⟨ρ++[p'],q1,⟨p',_,Bp,by rw[←R.hr.len];simp,rfl,Q,by grind[LB,Aw],λ_=>⟨Z3,by simpa using Y⟩⟩,q2,λ_ _ h=>Eo h⟩,λh=>by cases h⟩
          exact Om R o.dst G λ_ _ h=>h
         ·cases h
        ·rename_i j ys vy hX hY;split at h
         ·rename_i f x' ϙ g q;cases h;obtain⟨v1,v2,v3,_⟩:=hv;rw[hX]at rx;obtain⟨p,ϛ,es,As,l,I,Dj⟩:=cH R q rx;have ex:a.eval x=ϛ:=by simpa using Dj.symm
          obtain⟨w',u',p',W,Q,Y,g4,g5⟩:=zIM (ty:=o.type) I rfl (λb V=>(R.hr.cel j _ p b q l V).2.2) J hi hz E8 Cf Z2 (by rw[E8];exact Wv R J ry hY v1) v2 v3;refine BK.value (Lc K hc ha ht) (by rw[ex];exact W) ?_;exact se R q l I Q Y g4 g5 o.dst
         ·cases h
        ·cases h
      ·cases h
     ·cases h
    ·cases h
   ·cases h
  ·cases h
 ·cases h
def Zc(P:ν)(S:St)(o:Oper):M<|St×O Prop:=match ir P S o with
 |some r=>Z r
 |none=>Vh P S o
theorem qx(R:Ad P Γ N S ρ a w)(h:Zc P S o=Z (S',vs))(hv:BU vs):
 BK P (ω a.eval o) w λv w'=>(∃ρ',Ad P Γ N S' ρ' (a.put o.dst v) w'/\C6 S.h ρ w S'.h ρ' w')/\((∀t x y,o.op≠.store t x y)∨∃k i p t x y,o.op=.store t x y/\Ak S.fr x=.mp k 1 i 0/\ρ[k]?=Z p/\AV p.foot w w'):=by
 have wk:∀{G g:μ->κ->Prop},(∀v w',G v w'->g v w')->BK P (ω a.eval o) w G->BK P (ω a.eval o) w g:=λj ϒ=>by
  rcases ϒ with⟨v,w',b,c⟩|⟨w',b,c⟩|⟨f,args,w',b,c⟩
  ·grind[BK]
  ·grind[BK]
  ·exact .inr<|.inr ⟨f,args,w',b,c.mono λe Cx ⟨v,l,X⟩=>⟨v,l,j _ _ X⟩⟩
 grind[Zc,zB1,zFN,zFM]
end
end
def jO(P:ν)(t:ψ):M<|ψ×TypeInfo:=match P.underlying t with
 |some (.slice e)=>match P.info? e with
  |some i=>match i.zero with
   |some (.slice A 0 0)=>u (i.size=1/\i.bytes<=128) (Z (e,i)) A
   |_=>A
  |none=>A
 |_=>A
theorem zEn{P:ν}{t e:ψ}{i:TypeInfo}(h:jO P t=Z (e,i)):P.underlying t=Z (.slice e)/\P.info? e=Z i/\i.zero=Z (.slice A 0 0)/\i.size=1/\i.bytes<=128:=by
 grind[jO]
def TV(j q:E):DV->DV
 | .msl k m o n=>u (k=j) (.msl q m o n)<|.msl k m o n
 | .mp k m i c=>u (k=j) (.mp q m i c)<|.mp k m i c
 | .mri k i=>u (k=j) .any<|.mri k i
 |Ϛ=>Ϛ
def aF(P:ν)(S:St)(G:O<|E×Fz)(o:Oper):M<|St×O Prop×O (E×Fz):=match o.op with
 | .makeSlice t x y=>match G with
  |(Ϛ,.rws)::rest=>if o.dst=Z Ϛ then match jO P t with
   |some _=>match Ak S.fr x,Ak S.fr y with
    | .int _ m,.int _ b=>Z (⟨Ct S.fr o.dst<|.msl (F S.h) 1 0 m.toNat,S.h++[Z<|.mo<|.rws (d m.toNat []) A]⟩,[b=m/\0<=m/\m<=1000000000000],rest)
    |_,_=>A
   |none=>A
   else A
  |_=>A
 | .call c=>match c.callee with
  | .builtin .append=>match c.args.toList with
   |[x,y]=>match c.argTypes.toList with
    |[t,K]=>if t=K then match Lg P t with
     |some (.ints,_,i,_)=>if 128<i.bytes then A else match Ak S.fr x,MW S (Ak S.fr y)with
      | .mri j (r+1),Z (ys,I)=>match S.h[j]? with
       |some (Z<|.mo<|.rws ls A)=>Z (⟨Ct (S.fr.map<|TV j<|F S.h) o.dst<|.mri (F S.h) 0,S.h.set j A++[Z<|.mo<|.rws ls<|Z (r,H ls r ξ++ys)]⟩,[I,0<F ys,r<F ls,F (H ls r ξ)+F ys<=Aw],G)
       |_=>A
      |_,_=>A
     |_=>A
     else A
    |_=>A
   |_=>A
  |_=>A
 | .store t x y=>match o.dst with
  |none=>match Ak S.fr x,Ak S.fr y with
   | .mp j 1 r 0,.mri a 0=>match S.h[j]? with
    |some (Z<|.mo<|.rws ls<|Z (N,ϙ))=>u (a=j/\(P.info? t).any (λi=>i.size==1)=D) (Z (⟨S.fr.map<|TV j<|F S.h,S.h.set j A++[Z<|.mo<|.rws (ls.set r ϙ) A]⟩,[N=r,r<F ls],G)) A
    |_=>A
   |_,_=>A
  |some _=>A
 |_=>A
section
variable{P:ν}{Γ:A1}{N:Ψ}{S:St}{ρ:O AN}{a:Act}{w w':κ}{p p':AN}{ls Wi:O Ξ}{B9 KG:M (E×Ξ)}{vs Bx:υ μ}
variable{v:μ}{j:E}
theorem sP(R:Ad P Γ N S ρ a w){i:E}(f:S.h[j]?=Z (Z<|.mo<|.rws ls B9))(t:AL (MS N S.h ρ) w (.mri j i) ρ v):∃p vs,ρ[j]?=Z p/\Lm w p ls B9 vs/\vs[i]?=Z v:=by
 obtain⟨p,vs,b,J,Dj⟩:=t;obtain⟨p',e,Bx,c⟩:=R.hr.obj j _ f;have:p'=p:=zBH<|e.symm.trans b;subst this;have:Bx=vs:=by have:=c.val.symm.trans J;cases this;rfl
 grind
def sO(R:Ad P Γ N S ρ a w)(x:S.h[j]?=Z (Z<|.mo<|.rws ls B9))(f:ρ[j]?=Z p)(y:AV p.foot w w')(K:∀b,p'.foot b->(p.foot b∨w.heap.size<=b)/\Dr w' b)(Y:Lm w' p' Wi KG Bx)
 (G:p'.blk=p.blk) (X:p'.off=p.off) (Q:p'.room=p.room) (t:W0) {Ϛ:DV}  (z:∀ϕ ρ',ρ'[F S.h]?=Z p'->AL ϕ w' Ϛ ρ' v):
 ∃ρ',Ad P Γ N ⟨Ct (S.fr.map<|TV j<|F S.h) t Ϛ,S.h.set j A++[Z<|.mo<|.rws Wi KG]⟩ ρ' (a.put t v) w'/\C6 S.h ρ w (S.h.set j A++[Z<|.mo<|.rws Wi KG]) ρ' w':=by
 obtain⟨W,J⟩:=R.hr.regrow (o':=.mo<|.rws Wi KG) x f y K ⟨Bx,Y⟩;have V:∀(k:E) (q:AN),ρ[k]?=Z q->(ρ++[p'])[k]?=Z q:=λk q hk=>Eo hk
 have ϐ:BW (MS N S.h ρ) w ρ (MS N (S.h.set j A++[Z<|.mo<|.rws Wi KG])<|ρ++[p']) w'<|ρ++[p']:=
  ⟨λb l hm _=>y.block b l λhx=>hm<|.inr ⟨j,_,p,x,f,hx⟩,λb l=>l.elim (λh=>.inl<|.inl h) λh=>(J.grow b h).imp .inr id,V⟩
 have I:(ρ++[p'])[F S.h]?=Z p':=by rw[←R.hr.len];simp
 have C3:=(R.fr.out ϐ).map (g:=TV j<|F S.h) (λϚ v z=>by
  unfold TV;split
  ·rename_i k m o n;split
   ·rename_i e;subst e;obtain⟨q,cap,r,s,h3,h4,h5⟩:=z;have:q=p:=zBH<|r.symm.trans<|V _ _ f;subst this;exact⟨p',cap,I,by rw[G,X];exact s,h3,h4,by rw[X,Q];exact h5⟩
   ·exact z
  ·rename_i k m i c;split
   ·rename_i e;subst e;obtain⟨q,r,s⟩:=z;have:q=p:=zBH<|r.symm.trans<|V _ _ f;subst this;exact⟨p',I,by rw[G,X];exact s⟩
   ·exact z
  ·split
   ·trivial
   ·exact z
  ·exact z)
 exact⟨ρ++[p'],Hw (S:=⟨S.fr.map<|TV j<|F S.h,_⟩) ⟨W,C3⟩ t<|z _ _ I,J,V⟩
variable{t:ψ}{r:E}
theorem zEm(h:Lm w p ls A vs)(v:r<F ls)(x:∀b,p.foot b->Dr w b){e ty:ψ}{i:TypeInfo}{z:μ}(hu:P.underlying t=Z (.slice e))(hi:P.info? e=Z i)(hz:i.zero=Z z)(BT:i.size=1)(Cf:z.cells.size=i.size)(Eb:i.bytes<=128)
 {I:μ} {ys:Ξ} (hy:Src P i.size t I (F ys) (ys.map<|Value.int .i64) w) (hc:0<F ys) (a:F (H ls r ξ)+F ys<=Aw):
 ∃w' y p',(Builtin.append_ #[t,t] ty #[vs.getD (r+1) undef,I]).run P w=.ok y w'/\AV p.foot w w'/\(∀b,p'.foot b->(p.foot b∨w.heap.size<=b)/\Dr w' b)/\Lm w' p' ls (Z (r,H ls r ξ++ys)) (vs.setIfInBounds 0 y)/\p'.blk=p.blk/\p'.off=p.off/\p'.room=p.room:=by
 have G:=h.has r v λϙ e=>by cases e
 obtain⟨w',q,c,r1,r2,r3,W,r5,J⟩:=rV (ty:=ty) G hu hi hz BT Cf Eb hy hc a
 generalize hU:vs.getD (r+1) undef=ϛ at*
 have f:∀b,DB ϛ=Z b->(p.foot b/\b≠p.blk)/\b<w.heap.size:=λb a=>G.blk a
 have K:∀b,b<w.heap.size->DB ϛ≠Z b->w'.heap[b]?=w.heap[b]? :=λb a hn=>W.block b a hn
 have m:DB ϛ≠Z p.blk:=λe=>(f _ e).1.2 rfl
 obtain⟨cs,N,R,k2,k3,k4⟩:=h.row;have mN:p.blk<w.heap.size:=(zAy.1 R).1;have mL:q.blk≠p.blk:=λe=>r5.elim (λS=>m<|by rw[←e];exact S) λS=>Z2
 have n:∀j,(vs.setIfInBounds 0<|.slice (Z ⟨q.blk,q.off,A⟩) (F<|H ls r ξ++ys) c).getD (j+1) undef=vs.getD (j+1) undef:=λj=>by
  simp_all
 have To:(vs.setIfInBounds 0<|.slice (Z ⟨q.blk,q.off,A⟩) (F<|H ls r ξ++ys) c).getD 0 undef=.slice (Z ⟨q.blk,q.off,A⟩) (F<|H ls r ξ++ys) c:=by
  have:0<vs.size:=by rw[h.size];omega
  simp_all
 have V:∀j b,j<F ls->j≠r->DB (vs.getD (j+1) undef)=Z b->DB ϛ≠Z b:=λj b l Q a s=>Q (h.apart j r b l v (λϙ e=>by cases e) (λϙ e=>by cases e) a<|by rw[hU];exact s)
 refine⟨w',_,⟨p.blk,p.off,p.room,.tuple<|vs.setIfInBounds 0<|.slice (Z ⟨q.blk,q.off,A⟩) (F<|H ls r ξ++ys) c,λb=>(p.foot b/\DB ϛ≠Z b)∨b=q.blk⟩,r1,W.mono λb _ a=>(f b a).1.1,λb a=>?_,?_,rfl,rfl,rfl⟩
 ·rcases a with⟨g1,g2⟩|g1
  ·grind
  ·obtain⟨_,cs,N,g,_⟩:=J;subst g1;exact⟨r5.imp (λe=>(f _ e).1.1) id,.cells g⟩
 ·refine⟨rfl,by simpa using h.size,⟨cs,N,(K _ mN m).trans R,k2,k3,λj l=>?_⟩,.inl ⟨h.blk,m⟩,λj l hh=>?_,λi j b hi l _ _ X Y=>?_,λk ϙ e=>?_⟩
  ·grind
  ·have Q:j≠r:=λe=>hh _ (by rw[e])
   rw[n];exact(h.has j l λϙ e=>by cases e).out (λb o a x=>K b x<|V j b l Q a) λb o a=>⟨.inl ⟨o.1,V j b l Q a⟩,o.2⟩
  ·rw[n]at X Y;exact h.apart i j b hi l (λϙ e=>by cases e) (λϙ e=>by cases e) X Y
  ·cases e;rw[To];refine⟨.inr ⟨q,c,rfl,r2,r3,by grind[LB,Aw],⟨.inr rfl,mL⟩,J⟩,λj b l a s=>?_⟩;cases a;rw[n]at s;rcases r5 with r5|r5
   ·grind
   ·exact τ ((h.has j l λϙ e=>by cases e).blk s).2<|Nat.not_lt.2 r5
theorem zEl(h:Lm w p ls B9 vs){ϙ:Ξ}(V:B9=Z (r,ϙ))(hr:r<F ls){K:TypeInfo}(S:P.info? t=Z K)(Y:K.size=1):
 ∃w',(Instr.storeAt t (.pointer<|Z ⟨p.blk,p.off+r,A⟩)<|vs.getD 0 undef).run P w=.ok () w'/\AV (λb=>b=p.blk) w w'/\Lm w' { p with val:=.tuple (vs.setIfInBounds (r+1)<|vs.getD 0 undef) } (ls.set r ϙ) A (vs.setIfInBounds (r+1)<|vs.getD 0 undef)/\Dr w' p.blk:=by
 obtain⟨f,hd⟩:=h.inHand r ϙ V;obtain⟨cs,y,z,k2,k3,k4⟩:=h.row
 generalize hU:vs.getD 0 undef=ϛ at*
 have hc:ϛ.cells= #[ϛ]:=by rcases f with⟨_,rfl⟩|⟨q,cap,rfl,_⟩ <;> rfl
 have Qg:r+1<vs.size:=by rw[h.size];omega
 have BF:w.cell? ⟨p.blk,p.off+r,A⟩=Z vs[r+1]:=by
  grind[World.cell?]
 have HB:∀g,w.frozen? ⟨p.blk,g,A⟩=T:=λg=>by unfold World.frozen?;simp[z]
 have m:∀j,j≠r->(vs.setIfInBounds (r+1) ϛ).getD (j+1) undef=vs.getD (j+1) undef:=λj l=>by
  rw[zLC,zLC,Array.getElem?_setIfInBounds_ne Z2]
 have LN:(vs.setIfInBounds (r+1) ϛ).getD (r+1) undef=ϛ:=by
  simp_all
 obtain⟨Fs,R,X,e3⟩:=T3 p.blk y (0,0) [ϛ] (p.off+r) w cs z Z7;have n:AV (λb=>b=p.blk) w<|w.setCells p.blk (p.off+r) [ϛ]:=SC _ _ _ _
 generalize hW:w.setCells p.blk (p.off+r) [ϛ]=W at n R
 have stay:∀b,b≠p.blk->b<w.heap.size->W.heap[b]?=w.heap[b]? :=λb hb a=>n.block b a hb
 refine⟨W,?_,n,?_,.cells R⟩
 ·rw[←hW]
  have:=jU (w:=w) (b:=p.blk) (o:=p.off+r) (v:=ϛ) S (by rw[hc,Y];rfl) (λg d8=>by
   grind) HB (λx G=>by
   have:x=ϛ:=by rw[hc]at G;simpa using G
   subst this;rcases f with⟨_,rfl⟩|⟨q,cap,rfl,_⟩ <;> rfl)
  rw[hc]at this;exact this
 ·have lg:∀j,j≠r->H (ls.set r ϙ) j ξ=H ls j ξ:=λj l=>by
   grind
  refine⟨rfl,by simpa using h.size,⟨Fs,y,R,by simpa[X]using k2,by rw[X];exact k3,λj l=>?_⟩,h.blk,λj l _=>?_,λi j b hi l _ _ I J=>?_,λk ϙ e=>by cases e⟩
  ·grind
  ·rw[zKy]at l
   by_cases e:j=r
   ·subst e;rw[LN,show H (ls.set j ϙ) j ξ=ϙ by simp[zBD,l]];exact f.out (λb s _ a=>stay b s.2 a) λ_ h _=>h
   ·rw[m j e,lg j e];exact(h.has j l λL' c=>by rw[V]at c;cases c;exact e rfl).out (λb s _ a=>stay b s.2 a) λ_ h _=>h
  ·rw[zKy]at hi l
   by_cases N:i=r
   ·grind
   ·rw[m i N]at I
    by_cases Q:j=r
    ·grind
    ·rw[m j Q]at J;exact h.apart i j b hi l (λL' c=>by rw[V]at c;cases c;exact N rfl) (λL' c=>by rw[V]at c;cases c;exact Q rfl) I J
theorem sQ(R:Ad P Γ N S ρ a w){o:Oper}{S':St}{fz LZ:O (E×Fz)}{vc:O Prop}(h:aF P S fz o=Z (S',vc,LZ))(hv:BU vc):
 BK P (ω a.eval o) w λv w'=>(∃ρ',Ad P Γ N S' ρ' (a.put o.dst v) w'/\C6 S.h ρ w S'.h ρ' w')/\((∀t x y,o.op≠.store t x y)∨∃k i p t x y,o.op=.store t x y/\Ak S.fr x=.mp k 1 i 0/\ρ[k]?=Z p/\AV p.foot w w'):=by
 unfold aF at h;split at h
 ·rename_i t x y K;split at h
  case h_2=>cases h
  rename_i Ϛ rest;split at h
  case isFalse=>cases h
  split at h
  case h_2=>cases h
  rename_i r hT;obtain⟨e,i⟩:=r;split at h
  case h_2=>cases h
  rename_i k1 m k2 f hx hy;cases h;obtain⟨⟨rfl,Hg,G8⟩,_⟩:=hv;obtain⟨V,hi,hz,hs,Eb⟩:=zEn hT;have rx:=Bo R x;have q:=Bo R y;rw[hx]at rx;rw[hy]at q;have Ea:(madeCells (Value.slice A 0 0).cells<|f.toNat*i.size).size=f.toNat:=by rw[size_madeCells,hs,zNK]
  have Gk:∀j,j<f.toNat->(madeCells (Value.slice A 0 0).cells<|f.toNat*i.size)[j]?=Z (Value.slice A 0 0):=λj I=>by
   simp[madeCells,hs,I,Value.cells,Nat.mod_one]
  refine BK.value (s:=Instr.makeSlice t (a.eval x)<|a.eval y) (by unfold ω;rw[K]) (v:=.slice (Z ⟨w.heap.size,0,A⟩) f.toNat f.toNat) (w':=w.alloc<|.cells (madeCells (Value.slice A 0 0).cells<|f.toNat*i.size) e) ?_ ?_
  ·rw[show a.eval x=_ from rx,show a.eval y=_ from q];refine run_make w t e i _ V hi hz k1 k2 f f Hg (zKw _) ?_ Z2;have:(i.bytes:U)*f<=128*1000000000000:=Int.mul_le_mul Z2 G8 Hg Z2;omega
  ·generalize hC:madeCells (Value.slice A 0 0).cells (f.toNat*i.size)=cs at Ea Gk⊢
   have hg:∀j,j<f.toNat->(#[undef]++Array.replicate f.toNat (Value.slice A 0 0)).getD (j+1) undef=.slice A 0 0:=λj I=>by
    simp[zLC,Array.getElem?_append,I]
   refine⟨Om R o.dst (Xk (ob:=.cells cs e) (o:=.mo<|.rws (d f.toNat []) A) (Ϛ:=.msl (F S.h) 1 0 f.toNat) (pl:=⟨w.heap.size,0,cs.size,.tuple<|#[undef]++Array.replicate f.toNat (Value.slice A 0 0),λb=>b=w.heap.size⟩) R.hr rfl rfl (λϕ ρ'=>?_) (λϕ ρ' g=>⟨_,f.toNat,g,Z3,zI1 _,by unfold LB;omega,by simp[Ea]⟩) D) λ_ _ h=>h,.inl λt x y e=>by rw[K]at e;cases e⟩;refine⟨#[undef]++Array.replicate f.toNat (Value.slice A 0 0),rfl,Z7,⟨cs,e,zNf w _,by simp[Ea],zI1 _,λj I=>?_⟩,rfl,λj I _=>.inl ⟨?_,?_⟩,λi j b hi I _ _ h1 h2=>?_,λk ϙ e=>by cases e⟩
   ·grind
   ·grind
   ·grind
   ·rw[zK7]at hi;rw[hg i hi]at h1;cases h1
 ·rename_i c K;split at h
  case h_2=>cases h
  rename_i hc;split at h
  case h_2=>cases h
  rename_i x y ha;split at h
  case h_2=>cases h
  rename_i t t' ht;split at h
  case isFalse=>cases h
  rename_i e;subst e;split at h
  case h_2=>cases h
  rename_i e i z hk;obtain⟨V,hi,hz,h0,Cf,GH,_⟩:=YE hk;have E8:i.size=1:=GH.symm;split at h
  case isTrue=>cases h
  rename_i Eb;have rx:=Bo R x;have q:=Bo R y;split at h
  case h_2=>cases h
  rename_i j r ys vy X hY;split at h
  case h_2=>cases h
  rename_i ls G;cases h;obtain⟨v1,v2,v3,v4,_⟩:=hv;rw[X]at rx;obtain⟨p,vs,g,J,Dj⟩:=sP R G rx;have ex:a.eval x=vs.getD (r+1) undef:=by simp[zLC,Dj]
  obtain⟨w',u',p',g1,Q,g3,Y,g5,g6,g7⟩:=zEm (ty:=o.type) J v3 (λb n=>(R.hr.cel j _ p b G g n).2.2) V hi hz E8 Cf Z2 (by rw[E8];exact Wv R V q hY v1) v2 v4;refine BK.value (Lc K hc ha ht) (by rw[ex];exact g1) ?_
  exact⟨sO R G g Q g3 Y g5 g6 g7 o.dst λϕ ρ' hq=>⟨p',_,hq,Y.val,by
   grind⟩,.inl λt x y e=>by rw[K]at e;cases e⟩
 ·rename_i t x y K;split at h
  case h_2=>cases h
  rename_i m5;split at h
  case h_2=>cases h
  rename_i j r j' X hY;split at h
  case h_2=>cases h
  rename_i ls r' ϙ G;split at h
  case isFalse=>cases h
  rename_i hc;cases h;obtain⟨rfl,BT⟩:=hc;obtain⟨rfl,v2,_⟩:=hv;have rx:=Bo R x;have q:=Bo R y;rw[X]at rx;rw[hY]at q;obtain⟨p,vs,g,J,Dj⟩:=sP R G q;obtain⟨l,Qj,ex⟩:=rx;have:l=p:=zBH<|Qj.symm.trans g;subst this;cases Ma:P.info? t with
  |none=>rw[Ma]at BT;cases BT
  |some ti=>
  rw[Ma]at BT;have n6:a.eval x=.pointer (Z ⟨l.blk,l.off+r',A⟩):=by rw[ex];simp
  have ey:a.eval y=vs.getD 0 undef:=by simp[zLC,Dj]
  obtain⟨W,g1,Q,g3,Y⟩:=zEl J rfl v2 Ma (by simpa using BT);refine BK.skip (s:=Instr.storeAt t (a.eval x)<|a.eval y) (by unfold ω;rw[K]) (w':=W) (by rw[n6,ey];exact g1) ?_
  have:=sO (a:=a) (p':={ l with val:=.tuple (vs.setIfInBounds (r'+1)<|vs.getD 0 undef) }) R G g (Q.mono λb _ n=>by rw[show b=l.blk from n];exact J.blk) (λb n=>⟨.inl n,by
   by_cases e:b=l.blk
   ·rw[e];exact Y
   ·obtain⟨c,t1,t2,hc⟩:=(R.hr.cel _ _ l b G g n).2.2;exact⟨c,t1,t2,(Q.block b (zAy.1 hc).1 e).trans hc⟩⟩) g3 rfl rfl rfl A (Ϛ:=.any) (v:=undef) λ_ _ _=>trivial
  rw[m5];exact⟨this,.inr ⟨j',r',l,t,x,y,K,X,g,Q.mono λb _ n=>by rw[show b=l.blk from n];exact J.blk⟩⟩
 ·cases h
end
abbrev zRN:=@Bool.false_or
def ES(P:ν)(Γ:A1)(f:E)(ds:O DV)(h:DH)(Ϛ:DV)(h':DH)(ext:ζ):Prop:=
 (∃fn,P.funcs[f]?=Z fn/\fn.name≠ "runtime.NumGoroutine" /\fn.body.isSome=D)/\
 ∀(N:Ψ) (ρ:O AN) (w:κ) (args:υ μ),A9 P Γ N h ρ w->BJ (MS N h ρ) w ρ ds args->
  Calls P f args w λe w'=>∃v,e=.returned v/\Cj P Γ N h ρ w ext Ϛ h' v w'
def dR(h h':DH):ζ:=(θ<|F h).all λk=>!(h.getD k A).isSome||(h'.getD k A).isSome
def Ro(P:ν)(Γ:A1)(f:E)(ds:O DV)(h:DH)(Ϛ:DV)(h':DH)(k:E):Prop:=
 (∃fn,P.funcs[f]?=Z fn/\fn.name≠ "runtime.NumGoroutine" /\fn.body.isSome=D)/\
 ∀(N:Ψ) (ρ:O AN) (w:κ) (args:υ μ),A9 P Γ N h ρ w->BJ (MS N h ρ) w ρ ds args->
  Calls P f args w λe w'=>∃v,e=.returned v/\Cj P Γ N h ρ w T Ϛ h' v w'/\AV (λb=>∃i o p,k<=i/\h[i]?=Z (Z o)/\ρ[i]?=Z p/\p.foot b) w w'
structure BM where
 calls:O (DV×DH×ζ)
 co:O (E×DV)
 fz:O (E×Fz):=[]
 tg:O (O (E×E)×St):=[]
def Kc(ops:υ Oper)(S:St)(o:Oper):X9:=match o.guard with
 |none=>Z D
 |some (j,I)=>match(ops[j]?).bind (·.dst)with
  |some t=>match S.fr.getD t .any with
   | .bool b=>Z<|b==I
   | .tup _ _=>Z T
   |_=>A
  |none=>A
def YZ(j:O<|E×DV)(a:W0)(Ϛ:DV):DV×O Prop×O (E×DV):=match j with
 |[]=>(Ϛ,[],[])
 |(t,d')::rest=>match a with
  |some K=>u (K=t) (d',[AO Ϛ d'],rest) (Ϛ,[],j)
  |none=>(Ϛ,[],j)
def NH(S:St):Op->ζ
 | .move _=>D
 | .assign _=>D
 | .pick .. =>D
 | .binOp .shl .. =>T
 | .binOp .shr .. =>T
 | .binOp .quo .. =>T
 | .binOp .rem .. =>T
 | .binOp _ _ _ y _=>match Ak S.fr y with
  | .nils=>T
  |_=>D
 | .unOp .. =>D
 | .convert .. =>D
 | .nilCheck _=>D
 | .fieldAddr .. =>D
 | .extract .. =>D
 | .makeFunc .. =>D
 | .build .. =>D
 | .field .. =>D
 | .call _=>D
 | .load _ x=>match Ak S.fr x with
  | .mp .. =>T
  |_=>D
 |_=>T
def zKP:Op->ζ
 | .box .. =>D
 | .alloc _=>D
 | .buildSlice .. =>D
 | .makeSlice .. =>D
 | .store .. =>D
 | .makeMap .. =>D
 | .mapUpdate .. =>D
 | .insert .. =>D
 | .lookup .. =>D
 | .range .. =>D
 | .entry _=>D
 | .call c=>match c.callee with
  | .builtin .append=>D
  | .value _=>D
  |_=>T
 |_=>T
def TF(P:ν)(ops:υ Oper)(S:St)(j:O<|E×DV)(o:Oper):M<|St×O Prop×O (E×DV):=match Kc ops S o with
 |none=>A
 |some T=>Z (⟨Ct S.fr o.dst PS,S.h⟩,[],j)
 |some D=>match WM P S o.op with
  |none=>A
  |some (Ϛ,W)=>match YZ j o.dst Ϛ with
   |(d',vs,y)=>Z (⟨Ct S.fr o.dst d',S.h⟩,u (NH S o.op) vs<|W::vs,y)
def WJ(P:ν)(ops:υ Oper):O Oper->St->O (E×DV)->M (St×O Prop×O (E×DV))
 |[],S,j=>Z (S,[],j)
 |o::rest,S,j=>match TF P ops S j o with
  |none=>A
  |some (S',vs,y)=>match WJ P ops rest S' y with
   |none=>A
   |some (a,b,J)=>Z (a,vs++b,J)
def PD(P:ν)(Γ:A1)(S:St)(a:O<|DV×DH×ζ):Op->M (DV×DH×O Prop×ζ×O (DV×DH×ζ))
 | .box _ x=>match JX (Ak S.fr x)with
  |some l=>Z (.ref (F S.h) 0,S.h++[Z<|.cells l],[],D,a)
  |none=>A
 | .alloc t=>match P.info? t with
  |some i=>match i.zero with
   |some z=>if iK z then Z (.mp (F S.h) 1 0 0,S.h++[Z<|.bools<|d z.cells.size T],[],D,a)
    else Z (.ref (F S.h) 0,S.h++[Z<|.cells<|z.cells.toList.map OF],[],D,a)
   |none=>A
  |none=>A
 | .buildSlice t len parts=>match Lg P t with
  |some (k,_,_,_)=>if fh parts.toList len&&C (len<=65536/\k.cells<=64)then match Ub k (parts.toList.map λx=>Ak S.fr x.2)with
   |some ob=>Z (.msl (F S.h) k.cells 0 len,S.h++[Z ob],[],D,a)
   |none=>A
   else A
  |none=>A
 | .makeSlice t x y=>match ck P t with
  |some (n,_,_)=>match Ak S.fr x,Ak S.fr y with
   | .int _ m,.int _ b=>Z (.msl (F S.h) 1 0 m.toNat,S.h++[Z<|.mo<|.sets n (d m.toNat A) A],[b=m/\0<=m/\m<=1000000000000],D,a)
   |_,_=>A
  |none=>match Lg P t with
   |some (k,_,i,z)=>if C (i.bytes<=128)then match Ak S.fr x,Ak S.fr y with
    | .int _ n,.int _ e=>Z (.msl (F S.h) k.cells 0 n.toNat,S.h++[Z<|vw k n.toNat z],[e=n/\0<=n/\n<=1000000000000],D,a)
    |_,_=>A
    else A
   |none=>A
 | .store t x y=>match Pa P S t (Ak S.fr x) (Ak S.fr y)with
  |some (h',W)=>Z (.any,h',[W],T,a)
  |none=>A
 | .call c=>match c.callee with
  | .builtin .append=>match c.args.toList with
   |[x,y]=>match c.argTypes.toList with
    |[t,K]=>if t=K then match Uj P S t (Ak S.fr x) (Ak S.fr y)with
     |some (Ϛ,h',W)=>Z (Ϛ,h',[W],T,a)
     |none=>A
     else A
    |_=>A
   |_=>A
  | .value f=>match Ak S.fr f,a with
   | .fn g m cap,(Ϛ,h',ext)::rest=>Z (Ϛ,h',[ES P Γ g (c.args.toList.map (Ak S.fr)++(θ m).map cap) S.h Ϛ h' ext],ext,rest)
   |_,_=>A
  |_=>A
 |op=>match lJ P S op with
  |some (Ϛ,h',vs,ext)=>Z (Ϛ,h',vs,ext,a)
  |none=>A
def Ra(P:ν)(Γ:A1)(ops:υ Oper)(S:St)(w:BM)(o:Oper):M<|St×O Prop×ζ×BM:=match Kc ops S o with
 |none=>A
 |some T=>Z (⟨Ct S.fr o.dst PS,S.h⟩,[],D,w)
 |some D=>match aF P S w.fz o with
  |some (S',vs,X)=>Z (S',vs,T,⟨w.calls,w.co,X,w.tg⟩)
  |none=>match Zc P S o with
  |some (S',vs)=>Z (S',vs,T,w)
  |none=>match PD P Γ S w.calls o.op with
   |none=>A
   |some (Ϛ,h',vs,ext,a)=>match YZ w.co o.dst Ϛ with
    |(d',y,b)=>match Xq w.fz o.dst ⟨Ct S.fr o.dst d',h'⟩with
     |none=>A
     |some (S',m,X)=>Z (S',vs++(y++m),ext,⟨a,b,X,w.tg⟩)
def D1(P:ν)(Γ:A1)(ops:υ Oper):O Oper->St->BM->M (St×O Prop×BM)
 |[],S,w=>Z (S,[],w)
 |o::rest,S,w=>match zKP o.op with
  |true=>match Ra P Γ ops S w o with
   |none=>A
   |some (S',vs,_,h)=>match D1 P Γ ops rest S' h with
    |none=>A
    |some (a,y,R)=>Z (a,vs++y,R)
  |false=>match TF P ops S w.co o with
   |none=>A
   |some (S',vs,b)=>match D1 P Γ ops rest S' ⟨w.calls,b,w.fz,w.tg⟩with
    |none=>A
    |some (a,y,R)=>Z (a,vs++y,R)
def oZ(P:ν)(Γ:A1)(b:DH)(ops:υ Oper)(S:St)(w:BM)(o:Oper):M<|St×O Prop×BM:=match o.op with
 | .call c=>match c.callee with
  | .value f=>match Ak S.fr f,w.calls with
   | .fn g m cap,(Ϛ,h',T)::rest=>match Kc ops S o,dR b S.h with
    |some D,D=>match YZ w.co o.dst Ϛ with
     |(d',y,a)=>match Xq w.fz o.dst ⟨Ct S.fr o.dst d',h'⟩with
      |some (S',e,X)=>Z (S',Ro P Γ g (c.args.toList.map (Ak S.fr)++(θ m).map cap) S.h Ϛ h' (F b)::(y++e),⟨rest,a,X,w.tg⟩)
      |none=>A
    |_,_=>A
   |_,_=>A
  |_=>A
 |_=>A
def bh(f:Θ)(b h:DH):DH:=match f with
 |[]=>b
 |_=>h
def OY(P:ν)(Γ:A1)(ops:υ Oper):DH->O (Θ×E)->Θ->St->BM->M (St×O Prop×BM)
 |_,[],a,S,w=>match WJ P ops (CV ops a) S w.co with
  |none=>A
  |some (S',vs,y)=>Z (S',vs,⟨w.calls,y,w.fz,w.tg⟩)
 |hb,(f,i)::R,a,S,w=>match WJ P ops (CV ops f) S w.co with
  |none=>A
  |some (S',vs,y)=>match ops[i]? with
   |none=>A
   |some o=>match oZ P Γ (bh f hb S.h) ops S' ⟨w.calls,y,w.fz,w.tg⟩ o with
    |some (b,c,e)=>match OY P Γ ops (bh f hb S.h) R a b e with
     |none=>A
     |some (g,X,I)=>Z (g,vs++(c++X),I)
    |none=>match Ra P Γ ops S' ⟨w.calls,y,w.fz,w.tg⟩ o with
     |none=>A
     |some (b,c,ext,e)=>match ext with
      |false=>A
      |true=>match OY P Γ ops (bh f hb S.h) R a b e with
       |none=>A
       |some (g,X,I)=>Z (g,vs++(c++X),I)
def hseq(P:ν)(Γ:A1)(ops:υ Oper)(a:DH)(e:O<|Θ×E)(i b:Θ)(S:St)(w:BM):M<|St×O Prop×BM:=match OY P Γ ops a e i S w with
 |none=>A
 |some (S',vs,h)=>match D1 P Γ ops (CV ops b) S' h with
  |none=>A
  |some (c,y,R)=>Z (c,vs++y,R)
section
variable{P:ν}{Γ:A1}{N:Ψ}{S:St}{ρ:O AN}{a:Act}{w:κ}{ϖ:Fence}
structure DQ(ϖ:Fence)(P:ν):Prop where
 fn:∀f,ϖ.fn f
 dep:ϖ.depth=A
 calls:∀{f:FuncId} {args:υ μ} {w:κ} {R:Ending->κ->Prop},Calls P f args w R->CallsIn ϖ 0 P f args w R
def DQ.wide:DQ η P:=⟨λ_=>trivial,rfl,λh=>zSO.2 h⟩
def DQ.round(l:E):DQ (Fence.wide.inRound l) P:=⟨λ_=>trivial,rfl,λh=>CallsIn.inRound _<|zSO.2 h⟩
variable{o:Oper}{ops:υ Oper}
theorem Iy(R:Ad P Γ N S ρ a w){r:ζ}(h:Kc ops S o=Z r):Region.wanted o (yielded ops a.tmps)=r:=by
 unfold Kc at h;unfold Region.wanted;split at h
 ·grind
 ·rename_i j An g;rw[g];split at h
  ·rename_i t i;split at h
   ·rename_i b e;cases h;have k:=R.fr.at t;rw[e]at k;have c:a.tmps.getD t undef=.bool b:=k
    have:a.tmps[t]?=Z (.bool b):=by
     rw[zLC]at c;cases l:a.tmps[t]? with
     |none=>rw[l]at c;cases c
     |some ϛ=>grind
    simp[yielded,i,this]
   ·rename_i m f e;cases h;have k:=R.fr.at t;rw[e]at k;obtain⟨cs,c,_⟩:=k
    have:yielded ops a.tmps j=A:=by
     unfold yielded;rw[zLC]at c
     grind
    simp[this]
   ·cases h
  ·cases h
variable{ϕ:Ψ}{y j:O (E×DV)}{Ϛ:DV}
theorem YY{t:W0}{d':DV}{vs:O Prop}(h:YZ j t Ϛ=(d',vs,y))(hv:BU vs){v:μ}(k:AL ϕ w Ϛ ρ v):AL ϕ w d' ρ v:=by
 unfold YZ at h;split at h
 ·cases h;exact k
 ·split at h
  ·grind[BU,AO]
  ·cases h;exact k
variable{W:Prop}
theorem um{m:Op}(h:TH P S m=Z (Ϛ,W))(o:NH S m=D):W:=by
 unfold TH at h;split at h
 ·cases h;trivial
 ·cases h;trivial
 ·grind
 ·simp only[NH]at o;unfold QR at h
  grind
 ·unfold gj at h;split at h
  ·grind
  ·grind
  ·grind[NH]
  ·grind[NH]
  ·grind[NH]
  ·cases o
  ·cases o
  ·cases o
  ·cases o
  ·split at h
   ·unfold gh at h
    grind
   ·cases h
  ·cases h
 ·grind
 ·grind
 ·grind
 ·grind
 ·cases o
 ·grind
 ·grind
 ·split at h
  ·unfold gY at h;split at h
   ·split at h
    ·split at h
     ·unfold dF at h;split at h;· grind
      unfold dG at h;grind
     ·cases h
    ·cases h
   ·split at h
    ·unfold lC at h
     grind
    ·cases h
   ·split at h
    ·unfold lA at h
     grind
    ·cases h
   ·cases h
  ·cases h
 ·cases h
theorem zOg{m:BinOp}{t:ψ}{x y:DV}(h:Xz P m t x y=Z (Ϛ,W)):W:=by
 unfold Xz at h
 grind
theorem zBW{m:Op}(h:WM P S m=Z (Ϛ,W))(o:NH S m=D):W:=by
 unfold WM at h;split at h
 ·grind
 ·grind[dE]
 ·cases o
 ·unfold fG at h
  repeat' (split at h)
  all_goals grind
 ·cases o
 ·grind[zOg,um]
 ·exact um h o
theorem WH(R:Ad P Γ N S ρ a w){S':St}{vs:O Prop}(h:TF P ops S j o=Z (S',vs,y))(t:BU vs):
 S'.h=S.h/\((Region.wanted o (yielded ops a.tmps)=D/\∃v,(∀W,Keep N w W->(ω a.eval o).run P W=.ok (.value v) W)/\Ad P Γ N S' ρ (a.put o.dst v) w)∨(Region.wanted o (yielded ops a.tmps)=T/\Ad P Γ N S' ρ (a.put o.dst undef) w)):=by
 unfold TF at h;split at h
 ·cases h
 ·rename_i b;cases h;exact⟨rfl,.inr ⟨Iy R b,Hw R _ ZM⟩⟩
 ·rename_i b;split at h
  ·cases h
  ·rename_i Ϛ c e;split at h;rename_i d' f zq Y;cases h
   have n:c/\BU f:=by
    by_cases g:NH S o.op=D
    ·rw[zAF g]at t;grind[zBW]
    simp_all[BU]
   obtain⟨v,s,i⟩:=zH0 R o e n.1;exact⟨rfl,.inl ⟨Iy R b,v,s,Hw R _<|YY Y n.2 i⟩⟩
theorem WI{Q:Act->Prop}:∀(l:O Oper) {S:St} {a:Act} {j:O (E×DV)} {S':St} {vs:O Prop} {y:O (E×DV)},Ad P Γ N S ρ a w->WJ P ops l S j=Z (S',vs,y)->BU vs->
 (∀a',S'.h=S.h->Ad P Γ N S' ρ a' w->a'.defers=a.defers->Q a')->wpQuiet P ops (λw'=>∃x:Ys w,w'=x.W) Q l a
 |[],S,a,j,S',vs,y,R,h,_,b=>by
  cases h;exact b a rfl R rfl
 |o::rest,S,a,j,S',vs,y,R,h,t,b=>by
  simp only[WJ]at h;split at h
  ·cases h
  ·rename_i S1 Cc Mz q;split at h
   ·cases h
   ·rename_i S2 EP oN g;cases h;obtain⟨Y,i⟩:=DP.1 t;obtain⟨k,r⟩:=WH R q Y;unfold wpQuiet;have m:∀v,(a.put o.dst v).defers=a.defers:=λv=>by cases ho:o.dst <;> simp[Act.put]
    rcases r with⟨n,v,s,c⟩|⟨n,c⟩
    ·rw[zAF n];refine⟨v,?_,WI rest c g i λa' e f p=>b a' (e.trans k) f<|p.trans<|m v⟩;rintro W ⟨x,rfl⟩;unfold Oper.quietAt;rw[s x.W<|Keep.ofExt x.le];exact⟨rfl,rfl⟩
    ·rw[zJz Z4];exact WI rest c g i λa' e f p=>b a' (e.trans k) f<|p.trans<|m undef
theorem BJ.append{l l':O DV}{t K:υ μ}(h:BJ ϕ w ρ l t)(h':BJ ϕ w ρ l' K):BJ ϕ w ρ (l++l')<|t++K:=by
 refine⟨by simp[h.1,h'.1],λi hi=>?_⟩;rcases zK8 i (F l)with hl|hl
 ·have:=h.2 i hl
  simp_all[BJ]
 ·have S:i-F l<F l':=by simp at hi;omega
  have:=h'.2 _ S
  simp_all[BJ]
variable{g:E}
theorem zFG{args:υ μ}{fn:Func}(a:P.funcs[g]?=Z fn)(f:fn.name≠ "runtime.NumGoroutine")(xp:fn.body.isSome=D):(callFunc g args).run P w=.ok (.enter g args) w:=by
 have l:fn.body.isNone=T:=by simp_all
 have m:(fn.name== "runtime.NumGoroutine")=T:=by simpa using f
 unfold callFunc;rw[zK6,show Sem.run P program w=.ok P w from rfl];simp only[Result.andThen,a,m,l,zLV,zRK];rfl
variable{cap:E->DV}{m:E}{f:Operand}{c:Call}
theorem oY(R:Ad P Γ N S ρ a w)(o:Oper)(K:o.op=.call c)(hc:c.callee=.value f)(q:Ak S.fr f=.fn g m cap)
 (n:∀args W,(callFunc g args).run P W=.ok (.enter g args) W):∃args,(ω a.eval o).run P w=.ok (.enter g args) w/\BJ (MS N S.h ρ) w ρ (c.args.toList.map (Ak S.fr)++(θ m).map cap) args:=by
 have k:=Bo R f;rw[q]at k;obtain⟨s,t,p,Qs⟩:=k;refine⟨c.args.map a.eval++s,?_,BJ.append ⟨Z3,λi hi=>?_⟩ ⟨by simp[p],λi hi=>?_⟩⟩
 ·unfold ω;rw[K]
  show(resolve a.eval c o.type>>=λϚ=>invoke Ϛ.target Ϛ.args).run P w=_
  unfold resolve;rw[hc];simp only[Deferred.ofValue,t];have e:((pure { target:=.fn (.func g) s,args:=#[]++Array.map a.eval c.args }:Sem Deferred)>>=λϚ=>invoke Ϛ.target Ϛ.args).run P w=(callFunc g<|#[]++Array.map a.eval c.args++s).run P w:=rfl;rw[e,n];simp
 ·have b:i<c.args.size:=by simpa using hi
  have:=Bo R c.args[i];simp[b,this]
 simp_all
variable{G:μ->κ->Prop}
def z7(R:Ad P Γ N S ρ a w)(o:Oper)(K:o.op=.call c)(hc:c.callee=.value f)(q:Ak S.fr f=.fn g m cap)
 (b:∃fn,P.funcs[g]?=Z fn/\fn.name≠ "runtime.NumGoroutine" /\fn.body.isSome=D) (l:∀args,BJ (MS N S.h ρ) w ρ (c.args.toList.map (Ak S.fr)++(θ m).map cap) args->Calls P g args w λe w'=>∃v,e=.returned v/\G v w'):BK P (ω a.eval o) w G:=
 let⟨_,i,j,k⟩:=b
 let⟨args,W,n⟩:=oY R o K hc q λ_ _=>zFG i j k
 .inr (.inr ⟨g,args,w,W,l _ n⟩)
variable{ext:ζ}{h':DH}
theorem zQJ(R:Ad P Γ N S ρ a w)(o:Oper)(K:o.op=.call c)(hc:c.callee=.value f)(q:Ak S.fr f=.fn g m cap)
 (l:ES P Γ g (c.args.toList.map (Ak S.fr)++(θ m).map cap) S.h Ϛ h' ext):BK P (ω a.eval o) w<|Cj P Γ N S.h ρ w ext Ϛ h':=
 z7 R o K hc q l.1 λargs b=>l.2 N ρ w args R.hr b
theorem pQ(R:Ad P Γ N S ρ a w){b:O (DV×DH×ζ)}{vs:O Prop}{i:O (DV×DH×ζ)}(h:PD P Γ S b o.op=Z (Ϛ,h',vs,ext,i))(g:BU vs):
 BK P (ω a.eval o) w (Cj P Γ N S.h ρ w ext Ϛ h'):=by
 unfold PD at h;split at h
 ·grind[zQO]
 ·grind[zQ6,zQ5]
 ·split at h
  ·split at h
   ·grind[zQM]
   ·cases h
  ·cases h
 ·split at h
  ·split at h
   ·cases h;obtain⟨⟨rfl,V,W⟩,_⟩:=g
    grind[zJG]
   ·cases h
  split at h
  ·split at h
   ·split at h
    ·cases h;obtain⟨⟨rfl,V,W⟩,_⟩:=g
     grind[zJF]
    ·cases h
   ·cases h
  ·cases h
 ·rename_i t x y K;split at h
  ·grind[qy,BU]
  ·cases h
 ·rename_i c K;split at h
  ·rename_i hc;split at h
   ·rename_i x y ha;split at h
    ·rename_i t t' ht;split at h
     ·rename_i e;subst e;split at h
      ·grind[zAg,BU]
      ·cases h
     ·cases h
    ·cases h
   ·cases h
  ·rename_i f hc;split at h
   ·grind[zQJ,BU]
   ·cases h
  ·cases h
 grind[zJE]
variable{Q:Exit->Act->κ->Prop}{K:Act->κ->Prop}
theorem Lh(l:DQ ϖ P)(z:∀c,o.op≠.defer c)(h:BK P (ω a.eval o) w G)(g:∀v w',G v w'->K (a.put o.dst v) w'):o.wpIn ϖ 0 P a w K Q:=by
 refine⟨λf _=>l.fn f,?_⟩;rw[zND _ _ _ z];rcases h with⟨v,w',b,e⟩|⟨w',b,e⟩|⟨f,args,w',b,e⟩
 ·rw[b];exact g v w' e
 ·rw[b];exact g undef w' e
 ·rw[b];refine⟨λi=>(by rw[l.dep]at i;cases i),(l.calls e).mono ?_⟩
  grind
variable{n:BM}
def ov(l:DQ ϖ P)(R:Ad P Γ N S ρ a w){m:BM}(z:∀c,o.op≠.defer c){S':St}{vs:O Prop}(h:Ra P Γ ops S m o=Z (S',vs,ext,n))(t:BU vs)
   (b:∀ρ' a' w',Ad P Γ N S' ρ' a' w'->C6 S.h ρ w S'.h ρ' w'->a'.defers=a.defers->(ext=D->A0 w w')->K a' w'):
 u (Region.wanted o<|yielded ops a.tmps) (o.wpIn ϖ 0 P a w K Q) ((∀f,o.about P w a.eval=Z f->ϖ.fn f)/\K (a.put o.dst undef) w):=by
 have g:∀v,(a.put o.dst v).defers=a.defers:=λv=>by cases ho:o.dst <;> simp[Act.put]
 unfold Ra at h;split at h
 ·cases h
 ·rename_i i;cases h;rw[zJz<|by rw[Iy R i];exact Bool.false_ne_true];exact⟨λf _=>l.fn f,b ρ _ _ (Hw R _ ZM) (C6.refl _ _ _) (g _) λ_=>A0.refl w⟩
 ·rename_i i;rw[zAF<|Iy R i];split at h
  ·rename_i p k fz1 j;cases h;exact Lh l z (sQ R j t) λv w' ⟨⟨ρ',s,y⟩,_⟩=>b ρ' _ _ s y (g v) λe=>by cases e
  split at h
  ·rename_i p k j;cases h;exact Lh l z (qx R j t) λv w' ⟨⟨ρ',s,y⟩,_⟩=>b ρ' _ _ s y (g v) λe=>by cases e
  split at h
  ·cases h
  ·rename_i Ϛ h1 k ext1 calls q;split at h;rename_i d' Bx DI Y;split at h
   ·cases h
   ·rename_i S2 Rz LZ r;cases h;obtain⟨x,I⟩:=DP.1 t;obtain⟨J,V⟩:=DP.1 I;refine Lh l z (pQ R q x) λv w' G=>?_
    obtain⟨ρ',s,y⟩:=Om R o.dst G (d':=d') λϕ ρ' W=>YY Y J W
    obtain⟨X,g4⟩:=Xp _ r V P Γ N ρ' _ _ s;exact b ρ' _ _ X (y.trans ⟨g4,λ_ _ h=>h⟩) (g v) G.ext
theorem LW(b:DQ ϖ P)(z:CY ops=D):∀(l:O Oper) (_:∀o∈l,o∈ops) {S:St} {ρ:O AN} {a:Act} {w:κ} {i:BM} {S':St} {vs:O Prop} {k:BM},
 Ad P Γ N S ρ a w->D1 P Γ ops l S i=Z (S',vs,k)->BU vs->
 (∀ρ' a' w',Ad P Γ N S' ρ' a' w'->C6 S.h ρ w S'.h ρ' w'->a'.defers=a.defers->Q .normal a' w')->wpListIn ϖ 0 P ops Q l a w
 |[],_,S,ρ,a,w,i,S',vs,k,R,h,_,g=>by
  cases h;exact g ρ a w R (C6.refl _ _ _) rfl
 |o::rest,G,S,ρ,a,w,i,S',vs,k,R,h,I,g=>by
  have J:∀c,o.op≠.defer c:=by
   obtain⟨j,hj,e⟩:=Array.getElem_of_mem<|G o Z3
   grind[CY]
  have X:∀o∈rest,o∈ops:=λo K=>G o (by simp[K])
  have Ci:∀v,(a.put o.dst v).defers=a.defers:=λv=>by cases K:o.dst <;> simp[Act.put]
  simp only[D1]at h;unfold wpListIn;split at h
  ·split at h
   ·cases h
   ·rename_i V Cc ext1 FJ m;split at h
    ·cases h
    ·rename_i S2 EP G5 n;cases h;obtain⟨Y,p⟩:=DP.1 I;exact ov b R J m Y λρ' a' w' R' st DF _=>LW b z rest X R' n p λρ'' s q r t x=>g ρ'' s q r (st.trans t)<|x.trans DF
  ·split at h
   ·cases h
   ·rename_i V Cc Mz m;split at h
    ·cases h
    ·rename_i S2 EP G5 n;cases h;obtain⟨Y,p⟩:=DP.1 I;obtain⟨e1,hs⟩:=WH R m Y
     have W:∀v,Ad P Γ N V ρ (a.put o.dst v) w->wpListIn ϖ 0 P ops Q rest (a.put o.dst v) w:=λv R'=>
      LW b z rest X R' n p λρ'' s q r t x=>g ρ'' s q r (by rw[←e1];exact t)<|x.trans<|Ci v
     rcases hs with⟨hw,v,g1,y⟩|⟨hw,y⟩
     ·rw[zAF hw];refine⟨λf _=>b.fn f,?_⟩;rw[zND _ _ _ J,g1 w<|Keep.ofExt<|A0.refl w];exact W v y
     ·rw[zJz Z4];exact⟨λf _=>b.fn f,W undef y⟩
theorem TL :∀(l:Θ),∀o∈CV ops l,o∈ops
 |[],o,h=>by simp[CV]at h
 |i::l,o,h=>by
  simp only[CV]at h;split at h
  ·rename_i o' ho;rcases zLa.1 h with rfl|h
   ·grind
   ·exact TL l o h
  ·exact TL l o h
def z8(l:DQ ϖ P)(R:Ad P Γ N S ρ a w){j:DH}{S':St}{vs:O Prop}{q:BM}(h:oZ P Γ j ops S n o=Z (S',vs,q))(t:BU vs)
   (r:∀ρ' a' w',Ad P Γ N S' ρ' a' w'->C6 S.h ρ w S'.h ρ' w'->a'.defers=a.defers->AV (λb=>∃i o p,F j<=i/\S.h[i]?=Z (Z o)/\ρ[i]?=Z p/\p.foot b) w w'->K a' w'):
 dR j S.h=D/\u (Region.wanted o<|yielded ops a.tmps) (o.wpIn ϖ 0 P a w K Q) ((∀f,o.about P w a.eval=Z f->ϖ.fn f)/\K (a.put o.dst undef) w):=by
 have s:∀v,(a.put o.dst v).defers=a.defers:=λv=>by cases k:o.dst <;> simp[Act.put]
 unfold oZ at h;split at h
 case h_2=>cases h
 rename_i c k;split at h
 case h_2=>cases h
 rename_i f hc;split at h
 case h_2=>cases h
 rename_i g m cap Ϛ h' rest x hcalls;split at h
 case h_2=>cases h
 rename_i y z;split at h;rename_i d' Bx DI I;split at h
 case h_2=>cases h
 rename_i S1 Rz LZ J;cases h;obtain⟨Y,V⟩:=t;obtain⟨W,X⟩:=DP.1 V;refine⟨z,?_⟩;rw[zAF<|Iy R y];refine Lh l (λc e=>by rw[k]at e;cases e) (z7 R o k hc x Y.1 λargs ha=>Y.2 N ρ w args R.hr ha) λv w' G=>?_
 obtain⟨ρ',g1,g2⟩:=Om R o.dst G.1 (d':=d') λϕ ρ' hr=>YY I W hr
 obtain⟨g3,g4⟩:=Xp _ J X P Γ N ρ' _ _ g1;exact r ρ' _ _ g3 (g2.trans ⟨g4,λ_ _ h=>h⟩) (s v) G.2
variable{b:κ}{ρb:O AN}
theorem zIr{a h:DH}{ρ:O AN}{w w':κ}(R:A9 P Γ N h ρ w)(e:C6 a ρb b h ρ w)(l:A0 b w)(j:dR a h=D)(n:AV (λx=>∃i o p,F a<=i/\h[i]?=Z (Z o)/\ρ[i]?=Z p/\p.foot x) w w'):A0 b w':=by
 refine((AV.ofExt (S:=λx=>∃i o p,F a<=i/\h[i]?=Z (Z o)/\ρ[i]?=Z p/\p.foot x) l).comp n λ_ _ h=>h).toExt ?_;rintro x hx ⟨i,o,p,h1,f,m,W⟩;rcases e.st.grow x ⟨i,o,p,f,m,W⟩with⟨k,o',q,s,y,r⟩|Il
 ·have t:=(zLB.1 s).1;have:=zFy.1 j k<|zJ9.2 t;rw[show(a.getD k A).isSome=D by grind,zLW,zRN]at this;obtain⟨g,c⟩:=zRj.1 this;have c:h[k]?=Z (Z g):=getD_some c;exact R.dis i k o g p q x Z2 f c m (e.pl k q y) W r
 ·omega
theorem dp(l:DQ ϖ P)(q:CY ops=D){Q:Exit->Act->κ->Prop}:∀(Ck:O<|Θ×E) (g c:Θ) {S:St} {ρ:O AN} {a:Act} {w:κ} {r:BM} {S':St} {vs:O Prop} {s:BM} {j:DH} {ρb:O AN} {b:κ},
 (c.all λt=>decide (t<ops.size))=D->Ad P Γ N S ρ a w->C6 j ρb b S.h ρ w->A0 b w->OY P Γ ops j Ck g S r=Z (S',vs,s)->BU vs->
 (∀ρ' a' w',Ad P Γ N S' ρ' a' w'->C6 S.h ρ w S'.h ρ' w'->a'.defers=a.defers->wpListIn ϖ 0 P ops Q (CV ops c) a' w')->Qp ϖ 0 P ops Q b Ck g c a w
 |[],g,c,S,ρ,a,w,r,S',vs,s,j,ρb,b,v,R,_,_,h,x,y=>by
  grind[OY,zNC,WI,C6.refl]
 |(f,i)::Fj,g,c,S,ρ,a,w,r,S',vs,s,j,ρb,b,v,R,hS,hE,h,x,y=>by
  have DN:∃ρb',C6 (bh f j S.h) ρb' (bw f b w) S.h ρ w/\A0 (bw f b w) w:=by
   cases f with
   |nil=>exact⟨ρb,hS,hE⟩
   |cons s0 ss=>exact⟨ρ,C6.refl _ _ _,A0.refl w⟩
  obtain⟨ρb',z,yN⟩:=DN;simp only[OY]at h;split at h
  ·cases h
  ·rename_i S1 Cc Mz h1;split at h
   ·cases h
   ·rename_i o G;split at h
    ·rename_i S2 EP G5 m;split at h
     ·cases h
     ·rename_i S3 NG MK I;cases h;obtain⟨Y,J⟩:=DP.1 x;obtain⟨n,V⟩:=DP.1 J;refine WI _ R h1 Y λa' p R' W=>?_
      unfold wpOpIn;simp only[G];have hk:dR (bh f j S.h) S1.h=D:=(z8 (K:=λ_ _=>True) (Q:=λ_ _ _=>True) l R' m n λ_ _ _ _ _ _ _=>trivial).1;refine(z8 l R' m n λρ'' Gp X FB e J8 hu=>?_).2;rw[p]at e hk;have k:A0 (bw f b w) X:=zIr R.hr z yN hk (by rw[p]at hu;exact hu);exact⟨k,dp l q Fj g c v FB (z.trans e) k I V λρ3 a3 w3 R3 GV m6=>y ρ3 a3 w3 R3 (e.trans GV)<|m6.trans<|J8.trans W⟩
    ·split at h
     ·cases h
     ·rename_i S2 EP ext G5 m;split at h
      ·cases h
      ·split at h
       ·cases h
       ·rename_i S3 NG MK I;cases h;obtain⟨Y,J⟩:=DP.1 x;obtain⟨n,V⟩:=DP.1 J;refine WI _ R h1 Y λa' p R' W=>?_
        unfold wpOpIn;simp only[G];refine ov l R' (JD q G) m n λρ'' Gp X FB e J8 LS=>?_
        rw[p]at e;have k:A0 (bw f b w) X:=yN.trans<|LS rfl;exact⟨k,dp l q Fj g c v FB (z.trans e) k I V λρ3 a3 w3 R3 GV m6=>y ρ3 a3 w3 R3 (e.trans GV)<|m6.trans<|J8.trans W⟩
def zLO(l:DQ ϖ P)(g:CY ops=D)(e:O<|Θ×E)(i c:Θ){S:St}{ρ:O AN}{a:Act}{w:κ}{j:BM}{S':St}{vs:O Prop}{k:BM}{f:DH}
 (o:(c.all λt=>decide (t<ops.size))=D) (R:Ad P Γ N S ρ a w) (m:C6 f ρb b S.h ρ w) (n:A0 b w) (h:hseq P Γ ops f e i c S j=Z (S',vs,k)) (p:BU vs)
 (v:∀ρ' a' w',Ad P Γ N S' ρ' a' w'->C6 S.h ρ w S'.h ρ' w'->a'.defers=a.defers->Q .normal a' w'):Qp ϖ 0 P ops Q b e i c a w:=by
 unfold hseq at h;split at h
 ·cases h
 rename_i S1 Cc FJ s;split at h
 ·cases h
 rename_i S2 EP G5 y;cases h;obtain⟨Y,q⟩:=DP.1 p;exact dp l g e i c o R m n s Y λρ1 a1 w1 X r x=>LW l g _ (TL c) X y q λρ2 z G I J K=>v ρ2 z G I (r.trans J)<|K.trans x
end
abbrev zRl:=@Go.wpIn_seq
section
def CA(ϙ:E)(ρ ρ':O AN):Prop:=∀(k:E) (p:AN),k<ϙ->ρ[k]?=Z p->ρ'[k]?=Z p
theorem CA.refl(ϙ:E)(ρ:O AN):CA ϙ ρ ρ:=λ_ _ _ h=>h
variable{ϙ:E}
def CA.trans{a b c:O AN}(h:CA ϙ a b)(k:CA ϙ b c):CA ϙ a c:=λi p hi w=>k i p hi<|h i p hi w
structure Bd(ϖ:Fence)(Ϝ:W0)(w:κ):Prop where
 le:∀b,Ϝ=Z b->b<=w.heap.size
 rd:∀l,ϖ.round=Z l->∃r,w.heap[l]?=Z (.loop r)
variable{w:κ}
theorem Bd.step{P:ν}{Γ:A1}{N:Ψ}{h h':DH}{ρ ρ':O AN}{ϖ:Fence}{Ϝ:W0}{w':κ}(b:Bd ϖ Ϝ w)(ϗ:A9 P Γ N h ρ w)(st:BD h ρ w h' ρ' w'):Bd ϖ Ϝ w':=
 ⟨λx e=>zIX (b.le x e) st.upd.size,λl q=>by
  obtain⟨r,a⟩:=b.rd l q;refine⟨r,(st.upd.block l (zAy.1 a).1 ?_).trans a⟩;rintro⟨k,o,p,f,g,m⟩;obtain⟨_,_,c,t,z,h4⟩:=ϗ.cel k o p l f g m
  grind[eD]⟩
def Bd.wide{Ϝ:E}(h:Ϝ<=w.heap.size):Bd η (Z Ϝ) w:=⟨λb e=>by cases e;exact h,λl q=>by cases q⟩
def Bd.none :Bd η A w:=⟨λb e=>(by cases e),λl q=>by cases q⟩
def Jb:W0->O Deferred->κ->Prop
 |none,ds,_=>ds= []
 |some Ϝ,ds,w=>Ef Ϝ ds w
structure BR(P:ν)(Γ:A1)(ϙ:E) where
 I:(Ψ)->DH->O AN->κ->Prop
 st:∀{N:Ψ} {h:DH} {ρ:O AN} {w:κ} {h':DH} {ρ':O AN} {w':κ},I N h ρ w->A9 P Γ N h ρ w->A9 P Γ N h' ρ' w'->BD h ρ w h' ρ' w'->CA ϙ ρ ρ'->I N h' ρ' w'
def SL(P:ν)(Γ:A1)(ϙ:E)(a:Ψ)(h0:DH)(ρ0:O AN)(b:κ):BR P Γ ϙ where
 I:=λN h ρ w=>N=a/\BD h0 ρ0 b h ρ w/\CA ϙ ρ0 ρ
 st:=λ⟨e,s,k⟩ _ _ st X=>⟨e,s.trans st,k.trans X⟩
abbrev QY(P:ν)(Γ:A1)(ϙ:E):=Exit->St->BR P Γ ϙ->Prop
def QE{P:ν}{Γ:A1}{ϙ:E}(Q:QY P Γ ϙ):Exit->St->BR P Γ ϙ->Prop
 | .outgrown,_,_=>False
 |e,S,Y=>Q e S Y
def Tr(P:ν)(Γ:A1)(ϖ:Fence)(Ϝ:W0)(ϙ:E)(Y:BR P Γ ϙ)(c:Code)(S:St)(Q:QY P Γ ϙ):Prop:=∀N ρ a w,Ad P Γ N S ρ a w->Y.I N S.h ρ w->Jb Ϝ a.defers w->Bd ϖ Ϝ w->c.wpIn ϖ 0 P (λe a' w'=>∃S' ρ' b s,QE Q e S' s/\Ad P Γ b S' ρ' a' w'/\s.I b S'.h ρ' w'/\Jb Ϝ a'.defers w'/\Bd ϖ Ϝ w') a w
def A6(ϙ:E)(S S':St):Prop:=∀P Γ N ρ a w,Ad P Γ N S ρ a w->∃ρ',Ad P Γ N S' ρ' a w/\BD S.h ρ w S'.h ρ' w/\CA ϙ ρ ρ'
theorem A6.refl(ϙ:E)(S:St):A6 ϙ S S:=λ_ _ _ ρ _ _ R=>⟨ρ,R,BD.refl _ _ _,CA.refl _ _⟩
def A6.trans{ο Ϝ Ϙ:St}(h:A6 ϙ ο Ϝ)(k:A6 ϙ Ϝ Ϙ):A6 ϙ ο Ϙ:=λP Γ N ρ a w R=>by
 obtain⟨ρ1,X,b,q⟩:=h P Γ N ρ a w R;obtain⟨ρ2,r,c,f⟩:=k P Γ N ρ1 a w X;exact⟨ρ2,r,b.trans c,q.trans f⟩
section
variable{P:ν}{Γ:A1}{N:Ψ}{S:St}{ϖ:Fence}{Ϝ:W0}{ϙ:E}{Y:BR P Γ ϙ}{Q Q':QY P Γ ϙ}
variable{e:Exit}
theorem QE.mono(h:∀e S Y,Q e S Y->Q' e S Y){S:St}(I:QE Q e S Y):QE Q' e S Y:=by
 cases e <;> first|exact I|exact h _ _ _ I
variable{c:Code}
theorem Tr.mono(h:Tr P Γ ϖ Ϝ ϙ Y c S Q)(I:∀e S Y,Q e S Y->Q' e S Y):Tr P Γ ϖ Ϝ ϙ Y c S Q':=λN ρ a w R y m b=>
 zNQ (h N ρ a w R y m b) λ_ _ _ ⟨S',ρ',f,s,g,i⟩=>⟨S',ρ',f,s,g.mono I,i⟩
variable{S':St}
def Tr.weaken(e:A6 ϙ S S')(h:Tr P Γ ϖ Ϝ ϙ Y c S' Q):Tr P Γ ϖ Ϝ ϙ Y c S Q:=λN ρ a w R y m b=>by
 obtain⟨ρ1,X,f,q⟩:=e P Γ N ρ a w R;exact h N ρ1 a w X (Y.st y R.hr X.hr f q) m b
variable{w':κ}{ρ ρ':O AN}
theorem Wg{h':DH}{ds:O Deferred}{w:κ}(ϗ:A9 P Γ N S.h ρ w)(st:BD S.h ρ w h' ρ' w')(m:Jb Ϝ ds w):Jb Ϝ ds w':=by
 cases Ϝ with
 |none=>exact m
 |some Ϝ=>
 refine Ef.upd st.upd m λk _ f e=>?_
 obtain⟨i,o,p,a,b,g⟩:=f;obtain⟨_,_,c,t,z,h4⟩:=ϗ.cel i o p k a b g
 grind[eD]
theorem Tr.skip(h:Q .normal S Y):Tr P Γ ϖ Ϝ ϙ Y .skip S Q:=λN ρ _ _ R y m b=>wpIn_skip ⟨S,ρ,N,Y,h,R,y,m,b⟩
def Tr.ret(h:Q .ret S Y):Tr P Γ ϖ Ϝ ϙ Y .ret S Q:=λN ρ _ _ R y m b=>wpIn_ret ⟨S,ρ,N,Y,h,R,y,m,b⟩
variable{id:E}
def Tr.exit(h:Q (.exit id) S Y):Tr P Γ ϖ Ϝ ϙ Y (.exit id) S Q:=λN ρ _ _ R y m b=>wpIn_exit ⟨S,ρ,N,Y,h,R,y,m,b⟩
def PV(K:St->BR P Γ ϙ->Prop)(Q:QY P Γ ϙ):QY P Γ ϙ
 | .normal,S,Y=>K S Y
 |e,S,Y=>Q e S Y
variable{x y:Code}
def Tr.seq(h:Tr P Γ ϖ Ϝ ϙ Y x S<|PV (λS' s=>Tr P Γ ϖ Ϝ ϙ s y S' Q) Q):Tr P Γ ϖ Ϝ ϙ Y (.seq x y) S Q:=λN ρ a w R y m b=>by
 refine zRl<|zNQ (h N ρ a w R y m b) ?_;rintro e a' w' ⟨S',ρ',g,s,f,i,j,W,K⟩;cases e with
 |normal=>exact f g ρ' a' w' i j W K
 |ret=>exact⟨S',ρ',g,s,f,i,j,W,K⟩
 |exit id=>exact⟨S',ρ',g,s,f,i,j,W,K⟩
 |goto t=>exact⟨S',ρ',g,s,f,i,j,W,K⟩
 |panic c=>exact⟨S',ρ',g,s,f,i,j,W,K⟩
 |outgrown=>exact f.elim
variable{b:ζ}
theorem Tr.cond{c:Operand}(hc:Ak S.fr c=.bool b)(h1:b=D->Tr P Γ ϖ Ϝ ϙ Y x S Q)(h2:b=T->Tr P Γ ϖ Ϝ ϙ Y y S Q):Tr P Γ ϖ Ϝ ϙ Y (.cond c x y) S Q:=λN ρ a w R y m bb=>by
 have k:=Bo R c;rw[hc]at k;refine wpIn_cond (t:=b) k ?_
 grind[Tr]
variable{a:Act}
def zA3{ϖ:Fence}{n:E}{P:ν}{Q:Exit->Act->κ->Prop}{w:κ}(h:c.wpIn ϖ n P (Exit.noGoto Q) a w):(Code.scope c).wpIn ϖ n P Q a w:=by
 intro b k cs m f g;have h0:(lone (b.atR a<|.code (.scope c)::k) cs w).fenced P ϖ:=zRT f g rfl;have N:step P (lone (b.atR a<|.code (.scope c)::k) cs w)=.next (lone (b.atR a<|.code c:: .inScope c::k) cs w):=step_lone_go (by simp[stepG,stepG.exec,Frame.atR]);obtain⟨e,G,z,I,j⟩:=h b (.inScope c::k) cs m f g;have o:step P (lone (b.atR G<|.inScope c::k) cs z)=.next (lone (b.atR G k) cs z):=step_lone_go (by simp[stepG,stepG.exec,Frame.atR]);cases e with
 |normal=>exact⟨.normal,G,z,I,.head h0 N<|zMy j<|.one (zRT f g rfl) o⟩
 |exit id=>exact⟨.exit id,G,z,I,λX i=>.head h0 N<|j.1 X i,λW i=>let⟨t,p,q⟩:=j.2 W i;⟨t,p,.head h0 N q⟩⟩
 |goto l=>exact I.elim
 |ret=>exact⟨_,G,z,I,.of_steps (.one h0 N) j⟩
 |panic ch=>exact⟨_,G,z,I,.of_steps (.one h0 N) j⟩
 |outgrown=>exact⟨_,G,z,I,.of_steps (.one h0 N) j⟩
def zIm(Q:QY P Γ ϙ):QY P Γ ϙ
 | .goto _,_,_=>False
 |e,S,Y=>Q e S Y
def Tr.scope(h:Tr P Γ ϖ Ϝ ϙ Y c S<|zIm Q):Tr P Γ ϖ Ϝ ϙ Y (.scope c) S Q:=λN ρ a w R y m b=>by
 refine zA3<|zNQ (h N ρ a w R y m b) ?_;rintro e a' w' ⟨S',ρ',g,s,f,i⟩;cases e with
 |goto l=>exact f.elim
 |_=>exact⟨S',ρ',g,s,f,i⟩
def Tr.label{l:E}(h:Q .normal S Y):Tr P Γ ϖ Ϝ ϙ Y (.label l) S Q:=λN ρ a w R y m b=>wpIn_label ⟨S,ρ,N,Y,h,R,y,m,b⟩
def zAI(id:E)(Q:QY P Γ ϙ):QY P Γ ϙ
 | .exit i,S,Y=>u (i=id) (Q .normal S Y)<|Q (.exit i) S Y
 |e,S,Y=>Q e S Y
theorem Tr.block(h:Tr P Γ ϖ Ϝ ϙ Y c S<|zAI id Q):Tr P Γ ϖ Ϝ ϙ Y (.block id c) S Q:=λN ρ a w R y m b=>by
 refine wpIn_block<|zNQ (h N ρ a w R y m b) ?_;rintro e a' w' ⟨S',ρ',g,s,f,j⟩;cases e with
 |exit i=>
  show u (i=id) _ _
  grind[QE,zAI]
 |normal=>exact⟨S',ρ',g,s,f,j⟩
 |ret=>exact⟨S',ρ',g,s,f,j⟩
 |goto t=>exact⟨S',ρ',g,s,f,j⟩
 |panic c=>exact⟨S',ρ',g,s,f,j⟩
 |outgrown=>exact f.elim
def Tr.loop(I:E->St->BR P Γ ϙ->Prop)(n:E)(h0:I n S Y)(h:∀n S Y,I n S Y->Tr P Γ ϖ Ϝ ϙ Y c S (PV (λS' s=>∃l,l<n/\I l S' s) Q)):Tr P Γ ϖ Ϝ ϙ Y (.loop c) S Q:=λN ρ a w R y m b=>by
 refine wpIn_loop_ghost (λk a' w'=>∃S' ρ' o s,I k S' s/\Ad P Γ o S' ρ' a' w'/\s.I o S'.h ρ' w'/\Jb Ϝ a'.defers w'/\Bd ϖ Ϝ w') n ⟨S,ρ,N,Y,h0,R,y,m,b⟩ ?_;rintro k a' w' ⟨S',ρ',o,s,q,v,x,W,K⟩;refine zNQ (h k S' s q o ρ' a' w' v x W K) ?_;rintro e a2 w2 ⟨g,ρ2,r,p,f,i,j,J,V⟩;cases e with
 |normal=>
  obtain⟨l,z,G⟩:=f;exact⟨l,z,g,ρ2,r,p,G,i,j,J,V⟩
 |ret=>exact⟨g,ρ2,r,p,f,i,j,J,V⟩
 |exit id=>exact⟨g,ρ2,r,p,f,i,j,J,V⟩
 |goto t=>exact⟨g,ρ2,r,p,f,i,j,J,V⟩
 |panic c=>exact⟨g,ρ2,r,p,f,i,j,J,V⟩
 |outgrown=>exact f.elim
def Ad.ext{w:κ}(R:Ad P Γ N S ρ a w)(l:A0 w w'):Ad P Γ N S ρ a w':=⟨R.hr.ext l,R.fr.out<|BW.ext ρ l⟩
def Tr.done{a':Act}{w:κ}(R:Ad P Γ N S ρ a w)(y:Y.I N S.h ρ w)(m:Jb Ϝ a.defers w)(b:Bd ϖ Ϝ w)(f:QE Q e S' Y)(R':Ad P Γ N S' ρ' a' w')(st:BD S.h ρ w S'.h ρ' w')(V:CA ϙ ρ ρ')(z:a'.defers=a.defers):
 ∃S' ρ' c s,QE Q e S' s/\Ad P Γ c S' ρ' a' w'/\s.I c S'.h ρ' w'/\Jb Ϝ a'.defers w'/\Bd ϖ Ϝ w':=
 ⟨S',ρ',N,Y,f,R',Y.st y R.hr R'.hr st V,by rw[z];exact Wg R.hr st m,b.step R.hr st⟩
def A6.fr{fr J:O DV}{h:DH}(q:F J=F fr)(z:∀i,i<F fr->AO (fr.getD i .any) (J.getD i .any)):A6 ϙ ⟨fr,h⟩ ⟨J,h⟩:=λP Γ N ρ a w R=>
 ⟨ρ,⟨R.hr,⟨by rw[q];exact R.fr.1,λi hi=>z i (by rw[←q];exact hi) _ _ _ _<|R.fr.2 i<|by rw[←q];exact hi⟩⟩,BD.refl _ _ _,CA.refl _ _⟩
theorem AO.refl(Ϛ:DV):AO Ϛ Ϛ:=λ_ _ _ _ h=>h
theorem AO.any(Ϛ:DV):AO Ϛ .any:=λ_ _ _ _ _=>trivial
theorem AO.int{k:IntKind}{a b:U}(h:a=b):AO (.int k a)<|.int k b:=by rw[h];exact AO.refl _
theorem AO.bool{a:ζ}(h:a=b):AO (.bool a)<|.bool b:=by rw[h];exact AO.refl _
def AO.ints_nil:AO .nils<|.ints []:=λϕ w ρ v h=>⟨A,0,h,zI1 _,zK5 _,λj l=>τ l<|zBT j⟩
def AO.sl_nil(m:E)(f:E->E->DV):AO .nils<|.sl m 0 f:=λϕ w ρ v h=>⟨A,0,h,zI1 _,zK5 _,λi j hi=>τ hi<|zBT i⟩
def forget(Q:Θ)(fr:O DV):O DV:=(fr.zipIdx).map λx=>u (Q.contains x.2) x.1 .any
theorem Xu(Q:Θ)(fr:O DV):F (forget Q fr)=F fr:=by simp[forget]
theorem nk(Q:Θ)(fr:O DV){i:E}(hi:i<F fr):(forget Q fr).getD i .any=u (Q.contains i) (fr.getD i .any) .any:=by
 simp[forget,hi]
theorem A6.forget(Q:Θ)(fr:O DV)(h:DH):A6 ϙ ⟨fr,h⟩ ⟨forget Q fr,h⟩:=A6.fr (Xu _ _) λi hi=>by
 grind[nk,AO.refl,AO.any]
def FI:Θ->E->W0
 |[],_=>A
 |x::σ,k=>u (x=k) (Z 0) ((FI σ k).map (· +1))
def EV(σ:Θ):DV->DV
 | .ref k j=>match FI σ k with
  |some X=>.ref X j
  |none=>.any
 | .mse k m off n=>match FI σ k with
  |some X=>.mse X m off n
  |none=>.any
 | .mri k i=>match FI σ k with
  |some X=>.mri X i
  |none=>.any
 | .msl k m off n=>match FI σ k with
  |some X=>.msl X m off n
  |none=>.any
 | .mp k m i j=>match FI σ k with
  |some X=>.mp X m i j
  |none=>.any
 | .it k=>match FI σ k with
  |some X=>.it X
  |none=>.any
 | .gr k=>match FI σ k with
  |some X=>.gr X
  |none=>.any
 | .agg m f=>.agg m λj=>((θ m).map λi=>EV σ<|f i).getD j .any
 | .tup m f=>.tup m λj=>((θ m).map λi=>EV σ<|f i).getD j .any
 | .fn g m c=>.fn g m λj=>((θ m).map λi=>EV σ<|c i).getD j .any
 |Ϛ=>Ϛ
def No(σ:Θ):M DO->M DO
 |some (.cells l)=>Z<|.cells<|l.map<|EV σ
 |some (.ro l)=>Z<|.ro<|l.map<|EV σ
 |o=>o
def GO(σ:Θ)(S:St):St:=⟨S.fr.map<|EV σ,σ.map λk=>No σ<|S.h.getD k A⟩
theorem Km:∀{σ:Θ} {k X:E},FI σ k=Z X->σ[X]?=Z k
 |[],_,_,h=>by cases h
 |x::σ,k,X,h=>by
  unfold FI at h;split at h
  ·grind
  ·cases a:FI σ k with
   |none=>rw[a]at h;cases h
   |some i=>
    rw[a]at h;have e:X=i+1:=(zBH h).symm;subst e;have:=Km a;simpa using this
theorem zF7{ϕ M':Ψ}{w:κ}{σ:Θ}(x:∀b,M' b->ϕ b)(q:∀(k X:E) (p:AN),σ[X]?=Z k->ρ[k]?=Z p->ρ'[X]?=Z p):∀(Ϛ:DV) {v:μ},AL ϕ w Ϛ ρ v->AL M' w (EV σ Ϛ) ρ' v:=by
 have low:∀(Ϛ:DV) {v:μ},AL ϕ w Ϛ [] v->AL M' w Ϛ [] v:=λϚ v h=>h.out Ϛ ⟨λ_ _ _ _=>rfl,λb y=>.inl<|x b y,λk p e=>by simp at e⟩
 intro Ϛ
 induction Ϛ with
 |any=>intro v _;trivial
 |nils=>intro v h;exact h
 |int k n=>intro v h;exact h
 |bool b=>intro v h;exact h
 |str s=>intro v h;exact h
 |ints l=>grind[AL,EV]
 |bools l=>grind[AL,EV]
 |sl m n f _=>grind[AL,EV]
 |fp m f _=>grind[AL,EV]
 |agg m f t=>
  grind[AL,EV]
 |tup m f t=>
  grind[AL,EV]
 |fn g m c t=>
  grind[AL,EV]
 |ref k j=>
  grind[EV,Km,AL]
 |msl k m off n=>
  grind[EV,Km,AL]
 |mp k m i j=>
  grind[EV,Km,AL]
 |yl l=>intro v h;exact h
 |cst ϛ=>intro v h;exact h
 |mse k m off n=>
  grind[EV,Km,AL]
 |mri k i=>
  rintro v ⟨p,vs,o,r⟩;simp only[EV];cases e:FI σ k with
  |none=>trivial
  |some X=>exact⟨p,vs,q k X p (Km e) o,r⟩
 |gr k=>
  rintro v ⟨p,a,n,cap,o,r⟩;simp only[EV];cases e:FI σ k with
  |none=>trivial
  |some X=>exact⟨p,a,n,cap,q k X p (Km e) o,r⟩
 |it k=>
  grind[EV,Km,AL]
def ve:AN:=⟨0,0,0,undef,λ_=>False⟩
theorem A6.compact(σ:Θ)(S:St)(h1:σ.Nodup)(h2:∀k∈σ,k<F S.h)(h3:∀k,k<ϙ->σ[k]?=Z k):A6 ϙ S<|GO σ S:=λP Γ N ρ a w R=>by
 obtain⟨ρ',Qa⟩:∃ρ',ρ'=σ.map λk=>ρ.getD k ve:=⟨_,rfl⟩
 have get:∀{X:E} {p:AN},ρ'[X]?=Z p->∃k,σ[X]?=Z k/\ρ[k]?=Z p:=λ{X p} h=>by
  rw[Qa,zM2]at h;cases c:σ[X]? with
  |none=>rw[c]at h;cases h
  |some k=>
   have Ao:k<F ρ:=by rw[R.hr.len];exact h2 k<|zLU c
   grind
 have q:∀(k X:E) (p:AN),σ[X]?=Z k->ρ[k]?=Z p->ρ'[X]?=Z p:=λk X p c G=>by
  grind
 have I:∀{X:E} {o':DO},(GO σ S).h[X]?=Z (Z o')->∃k o,σ[X]?=Z k/\S.h[k]?=Z (Z o)/\No σ (Z o)=Z o':=λ{X o'} h=>by
  have h:(σ.map λk=>No σ<|S.h.getD k A)[X]?=Z (Z o'):=h;rw[zM2]at h;cases c:σ[X]? with
  |none=>rw[c]at h;cases h
  |some k=>
   rw[c]at h;have Ao:k<F S.h:=h2 k<|zLU c;have h:No σ (S.h.getD k A)=Z o':=zBH h;have e:S.h.getD k A=S.h[k]:=by simp[Ao]
   rw[e]at h;cases ho:S.h[k]with
   |none=>rw[ho]at h;cases h
   |some o=>grind
 have hM:∀b,MO (GO σ S).h ρ' b->MO S.h ρ b:=by
  grind[MO]
 have K:∀b,MS N (GO σ S).h ρ' b->MS N S.h ρ b:=λb r=>r.imp id<|hM b
 have ϐ:BW (MS N S.h ρ) w [] (MS N (GO σ S).h ρ') w []:=⟨λ_ _ _ _=>rfl,λb r=>.inl<|K b r,λk p c=>by simp at c⟩;have low:∀(Ϛ:DV) {v:μ},AL (MS N S.h ρ) w Ϛ ρ v->AL (MS N (GO σ S).h ρ') w (EV σ Ϛ) ρ' v:=λϚ v h=>zF7 K q Ϛ h
 refine⟨ρ',⟨⟨by simp[Qa,GO],λX o' FP=>?_,λX o' p b Q V W=>?_,λi i' o1 o2 p1 p2 b Ay Q V W g4 g5 g6=>?_,R.hr.nlt,R.hr.gi⟩,⟨by simp[GO,R.fr.1],λi hi=>?_⟩⟩,⟨AV.refl _ w,λb r=>.inl<|hM b r⟩,λk p c G=>q k k p (h3 k c) G⟩
 ·obtain⟨k,o,s,t,g⟩:=I FP;obtain⟨p,G,y⟩:=R.hr.obj k o t;refine⟨p,q k X p s G,?_⟩;cases o with
  |cells l=>
   cases g
   show Ai w p (F<|l.map<|EV σ) _
   rw[zKB];refine Ai.out y rfl λj ϛ hj z=>?_
   grind
  |ints l=>grind[Bc,No]
  |bools l=>grind[Bc,No]
  |arr m n f=>cases g;exact Ai.out y rfl λj ϛ _ z=>AL.out _ ϐ z
  |gro m n f=>cases g;exact Bc.gr y (λ_=>rfl) λz=>AL.out _ ϐ z
  |iter encs=>
   grind[Bc,No]
  |ro l=>
   cases g;obtain⟨r1,r2,r3⟩:=y;refine⟨r1,λhm=>r2<|K _ hm,?_⟩;rw[zKB];refine Ai.out r3 rfl λj ϛ hj z=>?_
   grind
  |mo x=>cases g;exact y
 ·obtain⟨k,o,s,t,_⟩:=I Q;obtain⟨J,g,Y⟩:=get V;have:J=k:=zBH<|g.symm.trans s;subst this;exact R.hr.cel J o p b t Y W
 ·obtain⟨k,o,s,t,_⟩:=I Q;obtain⟨J,o2,g,Y,_⟩:=I V;obtain⟨k3,e5,e6⟩:=get W;obtain⟨k4,e7,e8⟩:=get g4;have:k3=k:=zBH<|e5.symm.trans s;subst this;have:k4=J:=zBH<|e7.symm.trans g;subst this;refine R.hr.dis k3 k4 o o2 p1 p2 b (λe=>Ay ?_) t Y e6 e8 g5 g6
  grind[List.getElem?_inj]
 ·have B6:i<F S.fr:=by simpa[GO]using hi
  have:(GO σ S).fr.getD i .any=EV σ (S.fr.getD i .any):=by simp[GO,B6]
  rw[this];exact low _<|R.fr.2 i B6
end
end
abbrev zOm:=@List.eq_nil_of_length_eq_zero
abbrev zR9:=@List.nodup_range
def tJ(P:ν)(S:St):ResultVar->M DV
 | .tmp t=>Z<|S.fr.getD t .any
 | .cell x t=>match S.fr.getD x .any with
  | .ref k j=>match QR P S t (.ref k j)with
   |some (Ϛ,_)=>Z Ϛ
   |none=>A
  |_=>A
def Nn(P:ν)(S:St):O ResultVar->M (O DV)
 |[]=>Z []
 |r::f=>match tJ P S r with
  |some Ϛ=>match Nn P S f with
   |some ds=>Z<|Ϛ::ds
   |none=>A
  |none=>A
def IS:O DV->DV
 |[Ϛ]=>Ϛ
 |ds=>.tup (F ds) λj=>ds.getD j .any
section
variable{P:ν}{Γ:A1}{N:Ψ}{S:St}{ρ:O AN}{a:Act}{w:κ}
variable{Ϛ:DV}{k:E}
theorem zJV{t:ψ}{j:E}{W:Prop}(h:QR P S t (.ref k j)=Z (Ϛ,W)):W:=by
 grind[QR]
def am(tmps:υ μ):ResultVar->Sem μ
 | .tmp t=>pure<|tmps.getD t undef
 | .cell x t=>do loadVar t (←asAddr (tmps.getD x undef))
theorem tK(R:Ad P Γ N S ρ a w):∀(f:O ResultVar) (ds:O DV),Nn P S f=Z ds->∃vs:O μ,(f.mapM<|am a.tmps).run P w=.ok vs w/\F vs=F ds/\∀i,i<F ds->AL (MS N S.h ρ) w (ds.getD i .any) ρ (vs.getD i undef)
 |[],ds,h=>by
  cases h
  simp_all
 |r::f,ds,h=>by
  simp only[Nn]at h;split at h
  ·rename_i Ϛ z;split at h
   ·rename_i l m;cases h;obtain⟨vs,h1,n,h3⟩:=tK R f l m
    obtain⟨v,g1,g2⟩:∃v,(am a.tmps r).run P w=.ok v w/\AL (MS N S.h ρ) w Ϛ ρ v:=by
     unfold tJ at z;split at z
     ·cases z;exact⟨_,rfl,R.fr.at _⟩
     ·rename_i x t;split at z
      ·rename_i k j e;split at z
       ·rename_i d' vc c;cases z;have b:=R.fr.at x;rw[e]at b;obtain⟨v,W,o⟩:=wC R b c<|zJV c;obtain⟨p,hp,g⟩:=b;have q:=W w<|Keep.ofExt<|A0.refl w;rw[g,sX]at q;refine⟨v,?_,o⟩
        show(do loadVar t (←asAddr (a.tmps.getD x undef)):Sem μ).run P w=_
        rw[g];exact q
       ·cases z
      ·cases z
    refine⟨v::vs,?_,by simp[n],λi hi=>?_⟩
    ·simp_all
    grind
   ·cases h
  ·cases h
variable{ds:O DV}{fn:Func}
theorem al(R:Ad P Γ N S ρ a w)(h:Nn P S fn.results.toList=Z ds):∃v,(results fn a.tmps).run P w=.ok v w/\AL (MS N S.h ρ) w (IS ds) ρ v:=by
 obtain⟨vs,b,c,m⟩:=tK R _ _ h
 have e:(fn.results.mapM<|am a.tmps).run P w=.ok vs.toArray w:=by
  rw[Array.mapM_eq_mapM_toList,←bind_pure_comp,zK6,b];rfl
 have f:(results fn a.tmps).run P w=.ok (if h:vs.toArray.size=1 then vs.toArray[0]else .tuple vs.toArray) w:=by
  show(do let vs←fn.results.mapM (am a.tmps);pure (if h:vs.size=1 then vs[0]else .tuple vs):Sem μ).run P w=_
  rw[zK6,e];rfl
 refine⟨_,f,?_⟩
 match ds,vs,c,m with
 |[],[],_,_=>exact⟨#[],rfl,rfl,λj l=>τ l<|zBT j⟩
 |[Ϛ],[v],_,m=>exact m 0 Z3
 |Ϛ::d'::ds,v::g::vs,c,m=>
  have:¬((v::g::vs).toArray.size=1):=Z3
  rw[dif_neg this];refine⟨_,rfl,by simpa using c,λj l=>?_⟩
  grind
def QL(h:DH):Prop:=∀(k:E) (encs:O<|O DV),h[k]? ≠Z (Z<|.iter encs)
variable{W:κ}
theorem Ad.shut(R:Ad P Γ N S ρ a w)(hi:QL S.h){Ϝ:E}(Q:Γ.ng<=Ϝ)(s:KY Ϝ w W):Ad P Γ N S ρ a W:=by
 have v:∀{b:E},Dr w b->W.heap[b]?=w.heap[b]? :=λ{b} ⟨c,t,z,h⟩=>
  s.block b (zAy.1 h).1 λq=>by rw[h]at q;cases q.2;cases t
 have ϐ:BW (MS N S.h ρ) w ρ (MS N S.h ρ) W ρ:=⟨λb _ _ ⟨_,_,_,hc⟩=>v<|.cells hc,λb h=>.inl h,λ_ _ h=>h⟩
 have g:∀{p:AN} {n:E} {Rw:E->μ->Prop},Ai w p n Rw->W.heap[p.blk]?=w.heap[p.blk]? :=λ{p n Rw} h=>by
  obtain⟨_,cs,t,y,_⟩:=h;exact v<|.cells y
 refine⟨⟨R.hr.len,λk o G=>?_,λk o p b V y X=>?_,R.hr.dis,λb r=>⟨zI0 (R.hr.nlt b r).1 s.size,(R.hr.nlt b r).2⟩,Γ.st _ _ R.hr.gi<|s.mono λi _ q=>zIX Q q.1⟩,R.fr.out ϐ⟩
 ·obtain⟨p,I,K⟩:=R.hr.obj k o G;refine⟨p,I,?_⟩;cases o with
  |cells l=>exact Ai.out K (g K) λj ϛ _ e=>AL.out _ ϐ e
  |ints l=>exact Ai.out K (g K) λj ϛ _ e=>e
  |bools l=>exact Ai.out K (g K) λj ϛ _ e=>e
  |arr m n f=>exact Ai.out K (g K) λj ϛ _ e=>AL.out _ ϐ.nil e
  |gro m n f=>exact Bc.gr K g λe=>AL.out _ ϐ.nil e
  |iter encs=>exact τ G<|hi k encs
  |ro l=>obtain⟨Y,r2,J⟩:=K;exact⟨Y,r2,Ai.out J (g J) λj ϛ _ e=>AL.out _ ϐ e⟩
  |mo x=>exact PH.out K λb r Ao=>v (R.hr.cel k _ p b G I r).2.2
 ·obtain⟨g1,g2,c,t,z,g3⟩:=R.hr.cel k o p b V y X
  grind
variable{h:DH}
def BD.shut{h0:DH}{ρ0 ρ:O AN}{a w:κ}(st:BD h0 ρ0 a h ρ w)(p:KY a.heap.size w W):BD h0 ρ0 a h ρ W:=
 ⟨st.upd.comp p λi hi b=>τ b.1 Z2,st.grow⟩
theorem BJ.anys(ϕ:Ψ)(w:κ)(ρ:O AN)(n:E):BJ ϕ w ρ (d n .any)<|Array.replicate n undef:=
 ⟨Z3,λi hi=>by
  have:(d n DV.any).getD i .any=.any:=by
   grind
  rw[this];trivial⟩
def Ja(Ϛ:DV):Prop:=∀(ϕ:Ψ) (w:κ) (ρ:O AN) (v:μ),AL ϕ w Ϛ ρ v->AL ϕ w Ϛ [] v
def zRP(ϙ:E)(S:St)(f:O DV)(Ϛ:DV)(h':DH):Prop:=(AO (IS f) Ϛ/\S.h=h')∨(QL S.h/\AO (IS f) Ϛ/\Ja Ϛ/\ϙ<=F S.h/\(GO (θ ϙ) S).h=h')
def Dd(P:ν)(fn:Func)(ϙ:E)(Ϛ:DV)(h':DH)(e:Exit)(S':St):Prop:=(e=.normal∨e=.ret)/\∃a,A6 ϙ S' a/\∃f,Nn P a fn.results.toList=Z f/\zRP ϙ a f Ϛ h'
theorem ES.of_tr{f:E}{c:Code}{h':DH}{ext:ζ}(hf:P.funcs[f]?=Z fn)(l:fn.body=Z c)(Qm:fn.name≠ "runtime.NumGoroutine")(Ql:QL h')
 (ϗ:∀(Ϝ:E) (N:BR P Γ<|F h),Tr P Γ η (Z Ϝ) (F h) N c ⟨ds++d (fn.ntmps-F ds) .any,h⟩ λe S Y=>Y=N/\Dd P fn (F h) Ϛ h' e S) (LS:ext=D->h= []):ES P Γ f ds h Ϛ h' ext:=by
 refine⟨⟨fn,hf,Qm,by rw[l];rfl⟩,λN ρ w args m C4=>?_⟩;refine zQI w.heap.size hf l ?_;have Ap:F ds=args.size:=C4.1
 have R:Ad P Γ N ⟨ds++d (fn.ntmps-F ds) .any,h⟩ ρ { tmps:=args++Array.replicate (fn.ntmps-args.size) undef,defers:=[] } w:=
  ⟨m,BJ.append C4<|by rw[Ap];exact BJ.anys _ _ _ _⟩
 have:=ϗ w.heap.size (SL P Γ (F h) N h ρ w) N ρ _ w R ⟨rfl,BD.refl _ _ _,CA.refl _ _⟩ trivial (Bd.wide<|zI1 _);refine wpIn_wide.1<|zNQ this ?_;rintro e a' w' ⟨S',ρ',N',Y',g,h2,q,h4,K⟩
 have key:Y'=SL P Γ (F h) N h ρ w->Dd P fn (F h) Ϛ h' e S'->Ef w.heap.size a'.defers w'/\∀W,KY w.heap.size w' W->∃v,(results fn a'.tmps).run P W=.ok v W/\∃v',Ending.returned v=.returned v'/\Cj P Γ N h ρ w ext Ϛ h' v' W:=by
  rintro rfl ⟨_,s,B2,rs,Oa,z|⟨hi,z,hn,hl,hh⟩⟩
  all_goals
   obtain⟨J,q,K⟩:=q;have J:=J.symm;subst J
  ·obtain⟨z,rfl⟩:=z;refine⟨h4,λW n=>?_⟩;obtain⟨ρ'',x,y,X⟩:=B2 P Γ N ρ' a' w' h2;have RW:=x.shut Ql (Γ.lo _ m.gi) n;obtain⟨v,G,I⟩:=al RW Oa;have st:BD h ρ w s.h ρ'' W:=(q.trans y).shut n;refine⟨v,G,v,rfl,⟨⟨ρ'',RW.hr,z _ _ _ _ I,st,λk p Q=>?_⟩,λV=>?_⟩⟩
   ·have a:k<F h:=by rw[←m.len];grind
    exact X k p a<|K k p a Q
   ·have:=LS V;subst this;exact st.upd.toExt λi _ ⟨k,o,p,q1,_⟩=>by simp at q1
  ·refine⟨h4,λW n=>?_⟩;obtain⟨ρ'',x,y,X⟩:=B2 P Γ N ρ' a' w' h2;have RW:=x.shut hi (Γ.lo _ m.gi) n;obtain⟨v,G,I⟩:=al RW Oa;have st:BD h ρ w s.h ρ'' W:=(q.trans y).shut n;obtain⟨ρ3,R3,r,k3⟩:=A6.compact (ϙ:=F h) (θ<|F h) s zR9 (λk a=>zI0 (zJ9.1 a) hl) (λk a=>by simp[a]) P Γ N ρ'' a' W RW;rw[hh]at r;have PG:=R3.hr;rw[hh]at PG;refine⟨v,G,v,rfl,⟨⟨ρ3,PG,?_,st.trans r,λk p Q=>?_⟩,λV=>?_⟩⟩
   ·have r0:=hn _ _ _ _<|z _ _ _ _ I;have r1:AL (MS N h' ρ3) W Ϛ [] v:=AL.out _ ⟨λ_ _ _ _=>rfl,λb l=>l.elim (λj=>.inl<|.inl j) λj=>(r.grow b j).imp .inr id,λ_ _ j=>by simp at j⟩ r0;exact AL.out _ ⟨λ_ _ _ _=>rfl,λb l=>.inl l,λ_ _ j=>by simp at j⟩ r1
   ·have a:k<F h:=by rw[←m.len];grind
    exact k3 k p a<|X k p a<|K k p a Q
   ·have:=LS V;subst this;exact(st.trans r).upd.toExt λi _ ⟨k,o,p,q1,_⟩=>by simp at q1
 cases e with
 |normal=>exact key g.1 g.2
 |ret=>exact key g.1 g.2
 |exit id=>exact τ g.2.1 Z3
 |goto t=>exact τ g.2.1 Z3
 |panic ch=>exact τ g.2.1 Z3
 |outgrown=>exact g.elim
def JZ(Ϛ:DV):Prop:=∀(ϕ M':Ψ) (w w':κ) (ρ ρ':O AN) (v:μ),AL ϕ w Ϛ ρ v->AL M' w' Ϛ ρ' v
variable{f:E->DV}{m:E}
def Ja.agg(h:∀j,j<m->Ja (f j)):Ja<|.agg m f:=λϕ w ρ _ ⟨cs,e,p,hc⟩=>⟨cs,e,p,λj l=>let⟨ϛ,a,c⟩:=hc j l;⟨ϛ,a,h j l ϕ w ρ ϛ c⟩⟩
theorem Ja.tup(h:∀j,j<m->Ja (f j)):Ja<|.tup m f:=λϕ w ρ _ ⟨cs,e,p,hc⟩=>⟨cs,e,p,λj l=>let⟨ϛ,a,c⟩:=hc j l;⟨ϛ,a,h j l ϕ w ρ ϛ c⟩⟩
theorem JZ.int(k:IntKind)(n:U):JZ<|.int k n:=λ_ _ _ _ _ _ _ h=>h
theorem JZ.bool(b:ζ):JZ<|.bool b:=λ_ _ _ _ _ _ _ h=>h
theorem JZ.tup(h:∀j,j<m->JZ (f j)):JZ<|.tup m f:=λϕ M' w w' ρ ρ' _ ⟨cs,e,p,hc⟩=>⟨cs,e,p,λj l=>let⟨ϛ,a,c⟩:=hc j l;⟨ϛ,a,h j l ϕ M' w w' ρ ρ' ϛ c⟩⟩
variable{ϕ:Ψ}
def Tt(t:∀b,ϕ b->b<w.heap.size/\Γ.ng<=b)(c:Γ.gi w):A9 P Γ ϕ [] [] w:=
 ⟨rfl,λk o f=>by simp at f,λk o p b a=>by simp at a,λk k' o o' p p' b _ a=>by simp at a,t,c⟩
def Rl{b:E}:MS ϕ [] [] b↔ϕ b:=⟨λh=>h.elim id λ⟨k,o,p,a,_⟩=>by simp at a,.inl⟩
def ES.frame{f:E}(h0:ES P Γ f ds [] Ϛ [] D)(z:∀x∈ds,Ja x)(h:DH):ES P Γ f ds h Ϛ h D:=by
 refine⟨h0.1,λN ρ w args R c=>?_⟩;refine(h0.2 (MS N h ρ) [] w args (Tt (λb a=>R.lt2 a) R.gi) ⟨c.1,λi hi=>?_⟩).mono ?_
 ·have g:=z (ds.getD i .any) (by simp[hi]);exact AL.out _ (Cz (λb a=>Rl.1 a) [])<|g _ _ _ _<|c.2 i hi
 ·rintro e w' ⟨v,rfl,⟨⟨ρ',s,y,g3,g4⟩,V⟩⟩;have l:=V rfl;have X:ρ'= []:=zOm (by rw[s.len];rfl);subst X;exact⟨v,rfl,⟨⟨ρ,R.ext l,Vw<|AL.out _ (Cz (λb a=>Rl.2 a) []) y,BD.ext l,λ_ _ h=>h⟩,V⟩⟩
def Am(h:DH)(Ϛ i:DV):Prop:=∀(P:ν) (Γ:A1) (N:Ψ) (ρ:O AN) (w:κ) (v:μ),A9 P Γ N h ρ w->AL (MS N h ρ) w Ϛ ρ v->AL (λ_=>False) w i [] v
def Am.nref(n:Ja Ϛ):Am h Ϛ Ϛ:=λ_ _ _ _ _ _ _ k=>AL.out _ (Cz (λ_ b=>b.elim) [])<|n _ _ _ _ k
variable{n:E}
def Am.ints{l:Ξ}(f:h[k]?=Z (Z<|.ints l))(a:n=F l):Am h (.msl k 1 0 n)<|.ints l:=by
 rintro P Γ N ρ w v ϗ ⟨p,cap,b,e,s,y,_⟩;subst a;obtain⟨p',c,g⟩:=ϗ.obj k _ f;have X:p'=p:=zBH<|c.symm.trans b;subst X;refine⟨_,cap,e,s,y,λj i=>⟨p'.blk,p'.off,Z3,id,?_⟩⟩;obtain⟨ϛ,R,m⟩:=Ai.cell g i;rw[R,m]
def Am.bools{l:Ω}(f:h[k]?=Z (Z<|.bools l))(a:n=F l):Am h (.msl k 1 0 n)<|.bools l:=by
 rintro P Γ N ρ w v ϗ ⟨p,cap,b,e,s,y,_⟩;subst a;obtain⟨p',c,g⟩:=ϗ.obj k _ f;have X:p'=p:=zBH<|c.symm.trans b;subst X;refine⟨_,cap,e,s,y,λj i=>⟨p'.blk,p'.off,Z3,id,?_⟩⟩;obtain⟨ϛ,R,m⟩:=Ai.cell g i;rw[R,m]
def Am.ref{l:O DV}(a:h[k]?=Z (Z<|.cells l))(hm:m<=F l)(q:∀j,j<m->Am h (l.getD j .any) (f j)):Am h (.ref k 0)<|.fp m f:=by
 rintro P Γ N ρ w v ϗ ⟨p,b,e⟩;obtain⟨p',c,g⟩:=ϗ.obj k _ a;have X:p'=p:=zBH<|c.symm.trans b;subst X;refine⟨p'.blk,p'.off,e,λj i=>⟨id,?_⟩⟩;obtain⟨ϛ,R,n⟩:=Ai.cell g (j:=j) Z2;exact⟨ϛ,R,q j i P Γ N ρ w ϛ ϗ n⟩
def ES.snap{f:E}{m:O DV}(h0:ES P Γ f m [] Ϛ [] D)(h:DH)(q:F m=F ds)(p:∀i,i<F ds->Am h (ds.getD i .any) (m.getD i .any))(z:JZ Ϛ):ES P Γ f ds h Ϛ h D:=by
 refine⟨h0.1,λN ρ w args R c=>?_⟩;refine(h0.2 (λ_=>False) [] w args (Tt (λb a=>a.elim) R.gi) ⟨by rw[q];exact c.1,λi hi=>?_⟩).mono ?_
 ·rw[q]at hi;exact AL.out _ (Cz (λb a=>Rl.1 a) [])<|p i hi P Γ N ρ w _ R<|c.2 i hi
 ·rintro e w' ⟨v,rfl,⟨⟨ρ',g1,y,g3,g4⟩,V⟩⟩;have l:=V rfl;exact⟨v,rfl,⟨⟨ρ,R.ext l,z _ _ _ _ _ _ _ y,BD.ext l,λ_ _ h=>h⟩,V⟩⟩
end
section
variable{ϖ:Fence}{n:E}{P:ν}{ops:υ Oper}{Q:Exit->Act->κ->Prop}
def Iw(ϖ:Fence)(n:E)(P:ν)(ops:υ Oper)(Q:Exit->Act->κ->Prop)(R:E->κ->κ->Prop)(CI:E->ζ)(g:E):E->υ ζ->Act->κ->Prop
 |0,f,a,w=>(∀j,j<ops.size->CI j=T->f.getD j D=D)/\wpAnyIn ϖ n P .any ops Q g f a w
 |m+1,f,a,w=>Region.ready .any ops f≠[]/\∀i∈Region.ready .any ops f,wpOpIn ϖ n P ops Q i (λa' w'=>R i w w'/\Iw ϖ n P ops Q R CI g m (f.setIfInBounds i D) a' w') a w
abbrev ZC(ϖ:Fence)(n:E)(P:ν)(ops:υ Oper)(Q:Exit->Act->κ->Prop)(R:E->κ->κ->Prop):E->υ ζ->Act->κ->Prop:=Iw ϖ n P ops Q R (λ_=>T) 0
section
variable{CI:E->ζ}{g:E}
variable{R:E->κ->κ->Prop}
def pa{R':E->κ->κ->Prop}(hR:∀i w w',R' i w w'->R i w w'):∀(m:E) (f:υ ζ) (a:Act) (w:κ),Iw ϖ n P ops Q R' CI g m f a w->Iw ϖ n P ops Q R CI g m f a w
 |0,_,_,_,h=>h
 |m+1,_,_,_,h=>⟨h.1,λi hi=>zRS (λ_ _ h'=>⟨hR _ _ _ h'.1,pa hR m _ _ _ h'.2⟩)<|h.2 i hi⟩
variable{f:υ ζ}
theorem zF8(h:∀j,j<ops.size->f.getD j D=D):Region.ready .any ops f= []:=by
 simp_all[Region.ready]
variable{w:κ}{a:Act}
def zA1(h:∀j,j<ops.size->f.getD j D=D)(I:Q .normal a w):ZC ϖ n P ops Q R 0 f a w:=⟨λj l _=>h j l,zF8 h,I⟩
def pi :∀(m:E) (f:υ ζ) (a:Act) (w:κ),Iw ϖ n P ops Q R CI g m f a w->wpAnyIn ϖ n P .any ops Q (m+g) f a w
 |0,_,_,_,h=>by rw[zKx];exact h.2
 |m+1,_,_,_,h=>by
  rw[show m+1+g=(m+g)+1 by omega];exact⟨λh0=>τ h0 h.1,λi hi=>zRS (λa' w' h'=>pi m _ a' w' h'.2)<|h.2 i hi⟩
variable{v:μ}{i:E}
theorem zA0(hF:∀f,ϖ.fn f)(A5:CY ops=D){ϑ:κ->Prop}{r:Oper}(hQ:∀c a Ϛ v w,Q (.panic c) (Act.put a Ϛ v) w->Q (.panic c) a w)(hi:ops[i]?=Z r)(N:∀(j:E) (o:Oper) cs b,ops[j]?=Z o->o.op≠.select cs b)(hRi:∀w,R i w w)(xy:∀j,j<ops.size->CI j=D->F3 ops ops.size j i=D):
 ∀(m:E) (l:υ ζ) (a:Act) (w:κ),GS ops l->
  (∀j s,ops[j]?=Z s->j≠i->l.getD j D=T->(∀e∈s.after,Region.binds .any e=D->e.on≠i)->r.apart ops s=D)->
  (∀j,j<ops.size->j≠i->l.getD j D=T->F3 ops ops.size j i=T->∀w w',ϑ w->R j w w'->ϑ w')->
  i∈Region.ready .any ops l->YieldsIf P ops ϑ r v a->ϑ w->
  Iw ϖ n P ops Q R CI g m (l.setIfInBounds i D) (a.put r.dst v) w->Iw ϖ n P ops Q R CI g (m+1) l a w:=by
 intro m
 induction m with
 |zero=>
  intro l a w S _ _ p hy V ϗ;have mn:=(zRs.1 p).1;refine⟨λh=>(by rw[h]at p;cases p),λj t=>?_⟩
  by_cases x:j=i
  ·grind[Yx,JD]
  ·exfalso
   obtain⟨y,s,q,Qv⟩:=zRs.1 t;have z:=(zAy.1 q).1;cases ht:CI j with
   |true=>
    grind[ZF]
   |false=>
    have:=ϗ.1 j z ht
    simp_all[Ne.symm]
 |succ m ih=>
  intro l a w S W X p hy V ϗ;have mn:=(zRs.1 p).1;refine⟨λh=>(by rw[h]at p;cases p),λj t=>?_⟩
  by_cases x:j=i
  ·grind[Yx,JD]
  ·have h1:=ϗ.2 j<|ready_mono t x;obtain⟨y,s,q,Qv⟩:=zRs.1 t;have z:=(zAy.1 q).1
   have mW:F3 ops ops.size j i=T:=by
    grind[ZF]
   have mX:∀e∈s.after,Region.binds .any e=D->e.on≠i:=λe he hb heq=>by
    grind
   have h2:=pb hF (JD A5 q) q (W j s q x y mX) (λcs b=>N i r cs b hi) (λcs b=>N j s cs b q) (λc a w h=>hQ c a _ _ w h) hy h1
   have Y:∀{k:E},(l.setIfInBounds j D).getD k D=T->l.getD k D=T:=λ{k} K=>by
    by_cases ml:j=k
    ·subst ml;exact y
    simp_all
   refine zRS (λa' w' G=>⟨G.2.1,ih (l.setIfInBounds j D) a' w' (S.set t) (λk ok hk I K Mg=>W k ok hk I (Y K) Mg) (λk GH I K J=>X k GH I (Y K) J) (ready_mono p<|Ne.symm x) G.1 (X j z x y mW w w' V G.2.1) ?_⟩) h2
   grind[Array.setIfInBounds_comm]
variable{m:E}
def iP{id:E}(b:P.follows .mixedOrders=D)(p:m+g=ops.size)(h:Iw ϖ n P ops Q R CI g m (Array.replicate ops.size T) a w.drew):(Code.region id ops D).wpIn ϖ n P Q a w:=
 wpIn_region_any b (by
  have:=pi (g:=g) m _ _ _ h;rw[p]at this;exact this)
def pf{c:Code}(h:c.wpIn ϖ n P (NP Q) a w):c.wpIn ϖ n P Q a w:=zNQ h λe _ _ I=>by
 cases e <;> first|exact I|exact I.elim
def oP:GS ops<|Array.replicate ops.size T:=λj oj _ q=>by
 exfalso
 rcases zK8 j ops.size with h|h
 ·simp[h]at q
 ·simp[h]at q
def TK(ops:υ Oper)(i:E):ζ:=match ops[i]? with
 |some o=>TI o.op
 |none=>T
def RZ(ops:υ Oper)(early:E->ζ)(δ:E->Ψ)(j:E)(w w':κ):Prop:=(TK ops j=D->w'=w)/\(early j=D->AV (δ j) w w')
def So(ops:υ Oper)(early:E->ζ)(i:E)(f:υ ζ):ζ:=(Region.ready .any ops f).contains i&&Region.free .any ops f i&&TK ops i&& ((θ ops.size).all λj=>f.getD j D||j==i||TK ops j||early j||F3 ops ops.size j i)
def ar(o:∀f,ϖ.fn f)(p:CY ops=D)(r:Region.noSelect ops=D){early:E->ζ}{δ:E->Ψ}{Zi:Ψ}{e:υ ζ}{q:Oper}(s:∀c a Ϛ v w,Q (.panic c) (Act.put a Ϛ v) w->Q (.panic c) a w)(hi:ops[i]?=Z q)(x:GS ops e)(t:So ops early i e=D)(y:∀j,F3 ops ops.size j i=T->∀b,δ j b->Zi b)(z:∀j,j<ops.size->CI j=D->F3 ops ops.size j i=D)
 (hy:YieldsIf P ops (AV Zi w) q v a) (h:Iw ϖ n P ops Q (RZ ops early δ) CI g m (e.setIfInBounds i D) (a.put q.dst v) w):Iw ϖ n P ops Q (RZ ops early δ) CI g (m+1) e a w:=by
 simp only[So,zAx,zFy,zJ9,zKu,zKq]at t;obtain⟨⟨⟨G,I⟩,h3⟩,W⟩:=t;refine zA0 o p s hi (Region.noSelect_spec r) (λw=>⟨λ_=>rfl,λ_=>AV.refl _ _⟩) z m e a w x (Region.free_spec hi I) (λj J K N k w1 w2 l hR=>?_) (by simpa using G) hy (AV.refl _ _) h;rcases W j J with(((h|h)|h)|h)|h
 ·rw[N]at h;cases h
 ·exact τ h K
 ·rw[hR.1 h];exact l
 ·exact l.trans<|(hR.2 h).mono λb _ R=>y j k b R
 ·rw[k]at h;cases h
def Ya(x:GS ops f)(h:(Region.ready .any ops f).contains i=D):GS ops<|f.setIfInBounds i D:=x.set (by simpa using h)
end
end
abbrev zNk:=@Bool.eq_false_iff
abbrev zQa:=@Option.map_eq_some_iff
section
inductive ST where
 |fin (π live:Θ)
 |rd (i:E) (t:ST)
 |ef (i:E) (t Iu:ST)
 |no
def Ul:ST->Θ
 | .ef i _ t=>i::Ul t
 |_=>[]
def Ex(ops:υ Oper)(early:Θ):ζ->E->ST->υ ζ->ζ
 |false,0,.fin _ _,ϙ=>(θ ops.size).all λj=>ϙ.getD j D
 |false,m+1,.rd i t,ϙ=>So ops (λj=>early.contains j) i ϙ&&Ex ops early T m t (ϙ.setIfInBounds i D)
 |b,m+1,.ef i t a,ϙ=>(b||Region.ready .any ops ϙ==Ul (.ef i .no a))&&!TK ops i&&Ex ops early T m t (ϙ.setIfInBounds i D)&&Ex ops early D (m+1) a ϙ
 |true,_,.no,_=>D
 |_,_,_,_=>T
def E1(p:E->ζ)(h:DH):DH:=(θ<|F h).map λi=>u (p i) (h.getD i A) A
def wW(xs:Θ)(h:DH):DH:=E1 (λi=>!xs.contains i) h
def SK(S:St)(o:Oper):W0:=match o.op with
 | .store _ x _=>match Ak S.fr x with
  | .ref k _=>Z k
  | .mp k _ _ _=>Z k
  |_=>A
 |_=>A
def Ig:DV->Θ
 | .gr k=>[k]
 | .msl k _ _ _=>[k]
 |_=>[]
def iB(S:St)(o:Oper):M Θ:=match o.op with
 | .call c=>match c.callee with
  | .builtin .append=>match c.args.toList with
   |[x,y]=>Z<|Ig (Ak S.fr x)++Ig (Ak S.fr y)
   |_=>A
  |_=>A
 |_=>A
def Uk(P:ν)(S:St)(G:O<|E×Fz)(o:Oper):M Θ:=match aF P S G o,Zc P S o with
 |none,A=>iB S o
 |_,_=>A
def zKH(G:Θ)(h h':DH):ζ:=(θ<|F h).all λk=>G.contains k|| !(h.getD k A).isSome||(h'.getD k A).isSome
def rZ(σ:Θ)(ϙ n:E):ζ:=C σ.Nodup&&σ.all (λk=>decide (k<n))&&(θ ϙ).all λk=>decide (σ[k]?=Z k)
def Ka(xs:O<|E×E)(G:Θ)(j:E):Θ:=(xs.filter λq=>q.1==j).map (·.2)++G
def NB(ops:υ Oper)(xs:O<|E×E)(G:Θ)(i:E):Θ:=(xs.filter λq=>!F3 ops ops.size q.1 i).map (·.2)++G
def zO(P:ν)(a:O<|E×Fz)(early:Θ)(xs:O<|E×E)(G:Θ)(S b:St)(i:E)(o:Oper)(ext:ζ):ζ:=
 zKH G S.h b.h&&(!(early.contains i)||ext||(match SK S o with|some k=>(Ka xs G i).contains k&&(S.h.getD k A).isSome|none=>T)||(match Uk P S a o with|some l=>l.all λk=>(Ka xs G i).contains k|none=>T))
def jD(π:Θ)(S:E):Θ:=θ S++π.map (· +S)
def NI(P:ν)(Γ:A1)(ops:υ Oper)(early:Θ)(xs:O<|E×E)(G:Θ)(a:E)(S':St):ST->St->BM->M (O Prop×BM)
 | .no,_,w=>Z ([],w)
 | .fin π Q,S,w=>u (rZ (jD π a) a<|F S.h) (Z ([GO (jD π a) ⟨forget Q S.fr,S.h⟩=S'],w)) A
 | .rd i t,S,w=>match ops[i]? with
  |none=>A
  |some o=>match TF P ops ⟨S.fr,wW (NB ops xs G i) S.h⟩ w.co o with
   |none=>A
   |some (b,vs,y)=>match NI P Γ ops early xs G a S' t ⟨b.fr,S.h⟩ ⟨w.calls,y,w.fz,w.tg⟩with
    |none=>A
    |some (c,e)=>Z (vs++c,e)
 | .ef i t f,S,w=>match ops[i]? with
  |none=>A
  |some o=>match Ra P Γ ops S w o with
   |none=>A
   |some (b,vs,ext,g)=>if zO P w.fz early xs G S b i o ext then
    match NI P Γ ops early xs G a S' t b g with
    |none=>A
    |some (R,r)=>match NI P Γ ops early xs G a S' f S r with
     |none=>A
     |some (l,I)=>Z (vs++(R++l),I)
    else A
def B3(ops:υ Oper)(early:Θ)(t:ST):Prop:=(Ex ops early T ops.size t (Array.replicate ops.size T)&&Region.noSelect ops&&CY ops)=D
def Uv(P:ν)(Γ:A1)(ops:υ Oper)(early:Θ)(t:ST)(S:St)(w:BM):M<|St×O Prop×BM:=match w.tg with
 |[]=>A
 |(Y,S')::rest=>match NI P Γ ops early Y (List.range' (F S.h) ops.size) (F S.h) S' t S ⟨w.calls,w.co,w.fz,rest⟩with
  |none=>A
  |some (vs,a)=>Z (S',vs,a)
variable{h:DH}{p:E->ζ}
theorem Xl{i:E}{o:DO}(hi:(E1 p h)[i]?=Z (Z o)):h[i]?=Z (Z o)/\p i=D:=by
 unfold E1 at hi
 grind
theorem rp :F (E1 p h)=F h:=by simp[E1]
theorem nZ{k:E}(hp:p k=D)(hk:k<F h):(E1 p h)[k]?=h[k]? :=by
 grind[E1]
section
variable{P:ν}{Γ:A1}{N:Ψ}{S:St}{ρ:O AN}{a:Act}{w:κ}
theorem Ad.sel(R:Ad P Γ N S ρ a w)(p:E->ζ):Ad P Γ (λb=>N b∨∃k o q,p k=T/\S.h[k]?=Z (Z o)/\ρ[k]?=Z q/\q.foot b) ⟨S.fr,E1 p S.h⟩ ρ a w:=by
 have n:∀b,MS (λb=>N b∨∃k o q,p k=T/\S.h[k]?=Z (Z o)/\ρ[k]?=Z q/\q.foot b) (E1 p S.h) ρ b->MS N S.h ρ b:=by
  rintro b ((h|⟨k,o,q,g,f,m,W⟩)|⟨k,o,q,g,f,m⟩)
  ·exact .inl h
  ·exact .inr ⟨k,o,q,f,m,W⟩
  ·exact .inr ⟨k,o,q,(Xl g).1,f,m⟩
 refine⟨⟨by rw[rp];exact R.hr.len,λi o hi=>?_,λi o q b s y j=>?_,λi I o1 r v x b G s y j K V X=>R.hr.dis i I o1 r v x b G (Xl s).1 (Xl y).1 j K V X,?_,R.hr.gi⟩,R.fr.out<|Cz n ρ⟩
 ·obtain⟨q,Y,hr⟩:=R.hr.obj i o (Xl hi).1;exact⟨q,Y,hr.out (Cz n ρ) (S:=λ_=>False) (AV.refl _ _) (λ_ h=>h.elim) λ_ _ _ h=>h⟩
 ·obtain⟨hi,hpi⟩:=Xl s;obtain⟨Q,c2,J⟩:=R.hr.cel i o q b hi y j;refine⟨Q,?_,J⟩;rintro(h|⟨k,o',l,g,f,m,W⟩)
  ·exact c2 h
  ·exact R.hr.dis i k o o' q l b (λe=>Z4) hi f y m j W
 ·rintro b (h|⟨k,o',l,g,f,m,W⟩)
  ·exact R.hr.nlt b h
  ·obtain⟨Q,_,c,t,z,J⟩:=R.hr.cel k o' l b f m W
   grind
theorem Ad.unsel{p:E->ζ}{fr:O DV}(c:A9 P Γ N S.h ρ w)(R:BJ (MS (λb=>N b∨∃k o q,p k=T/\S.h[k]?=Z (Z o)/\ρ[k]?=Z q/\q.foot b) (E1 p S.h) ρ) w ρ fr a.tmps):Ad P Γ N ⟨fr,S.h⟩ ρ a w:=by
 refine⟨c,R.out<|Cz (λb e=>?_) ρ⟩;rcases e with h|⟨k,o,q,h1,f,m⟩
 ·exact .inl<|.inl h
 ·cases hp:p k with
  |false=>grind[MS]
  |true=>
   refine .inr ⟨k,o,q,?_,f,m⟩
   grind[nZ]
def Zs(xs:Θ)(h:DH)(ρ:O AN)(w:κ)(b:E):Prop:=(∃k o q,k∈xs/\h[k]?=Z (Z o)/\ρ[k]?=Z q/\q.foot b)∨w.heap.size<=b
theorem zKI{xs:Θ}{W:κ}(x:AV (Zs xs S.h ρ w) w W):Keep (λb=>N b∨∃k o q,(!xs.contains k)=T/\S.h[k]?=Z (Z o)/\ρ[k]?=Z q/\q.foot b) w W:=by
 intro b o ϛ hb hc;have a:b<w.heap.size:=zLJ w ⟨b,o,A⟩ hc;refine(oV<|x.block b a ?_).trans hc
 grind[Zs]
variable{x y:Operand}{t:ψ}{o:Oper}{ρ':Operand->μ}
theorem n5(ho:o.op=.store t x y){nx:Next}{w w':κ}(h:(ω ρ' o).run P w=.ok nx w'):nx=.skip:=by
 unfold ω at h;cases hs:(Instr.storeAt t (ρ' x)<|ρ' y).run P w with
 |ok v w1=>simp_all
 |halt x w1=>simp_all
variable{G:μ->κ->Prop}
theorem BK.store(ho:o.op=.store t x y){w:κ}{a:μ->κ->Prop}(h:BK P (ω ρ' o) w G)(h':BK P (ω ρ' o) w a):BK P (ω ρ' o) w λv W=>G v W/\a v W:=by
 grind[n5,BK]
variable{h':DH}{k:E}{Ϛ:DV}
theorem zB2{x:DV}{W:Prop}(a:(∃j,x=.ref k j)∨∃m i j,x=.mp k m i j)(h:Pa P S t x Ϛ=Z (h',W)):k<F S.h/\∃c,Pa P ⟨S.fr,E1 (λi=>i==k) S.h⟩ t x Ϛ=Z (c,W):=by
 have key:∀{o:DO},S.h[k]?=Z (Z o)->k<F S.h/\(E1 (λi=>i==k) S.h)[k]?=Z (Z o):=λ{o} ho=>by
  grind[nZ]
 unfold Pa at h⊢;rcases a with⟨j,rfl⟩|⟨m,i,j,rfl⟩
 ·simp only at h⊢;split at h
  ·grind
  ·cases h
 grind
theorem BK.appendB{c:Call}{N:ψ}(K:o.op=.call c)(hc:c.callee=.builtin .append)(b:c.args.toList= [x,y])(g:c.argTypes.toList= [t,N]){w:κ}{a:μ->κ->Prop}(h:BK P (ω ρ' o) w G)(h':BK P (ω ρ' o) w a):BK P (ω ρ' o) w λv W=>G v W/\a v W:=by
 have hv:∀{nx:Next} {w':κ},(ω ρ' o).run P w=.ok nx w'->∃v,nx=.value v:=λe=>by
  rw[Lc K hc b g]at e;exact SB (f:=λx=>x) e
 grind[BK]
theorem Xm{p:E->ζ}{h:DH}(hp:p k=D):(E1 p h)[k]?=h[k]? :=by
 grind[nZ,rp]
theorem zQv{p:E->ζ}{x y:DV}(a:∀k∈Ig x,p k=D)(hy:∀k∈Ig y,p k=D):(Uj P ⟨S.fr,E1 p S.h⟩ t x y).map (·.2.2)=(Uj P S t x y).map (·.2.2):=by
 have R:MW ⟨S.fr,E1 p S.h⟩ y=MW S y:=by
  cases y <;> try rfl
  grind[MW,Xm,Ig]
 have X:RR ⟨S.fr,E1 p S.h⟩ y=RR S y:=by
  cases y <;> try rfl
  grind[RR,Xm,Ig]
 have c:∀m,Q1 ⟨S.fr,E1 p S.h⟩ m y=Q1 S m y:=λm=>by
  cases y <;> try rfl
  grind[Q1,Xm,Ig]
 have f:∀k,x=.gr k->(E1 p S.h)[k]?=S.h[k]? :=λk e=>Xm (a k<|by subst e;simp[Ig])
 have ex:∀k m off n,x=.msl k m off n->(E1 p S.h)[k]?=S.h[k]? :=λk m off n e=>Xm (a k<|by subst e;simp[Ig])
 unfold Uj;cases Lg P t with
 |none=>rfl
 |some v=>
  obtain⟨k,e,i,z⟩:=v;simp only
  by_cases b:128<i.bytes
  ·simp only[b,zMt]
  simp only[b,zRK];cases k with
  |ints=>
   simp only[R];cases MW S y with
   |none=>rfl
   |some v=>
    cases x <;> try rfl
    grind
  |bools=>
   simp only[X];cases RR S y with
   |none=>rfl
   |some v=>
    cases x <;> try rfl
    grind
  |gen g=>
   simp only[c];cases Q1 S g y with
   |none=>rfl
   |some v=>
    cases x <;> try rfl
    ·grind
    ·simp only[f _ rfl];split <;> try rfl
     split <;> rfl
variable{ext:ζ}{vs:O Prop}
theorem zQw(R:Ad P Γ N S ρ a w){i:O (DV×DH×ζ)}{W:O (DV×DH×ζ)}(h:PD P Γ S i o.op=Z (Ϛ,h',vs,ext,W))(X:BU vs){l:Θ}(g:iB S o=Z l)(Y:BK P (ω a.eval o) w G):
 BK P (ω a.eval o) w λv w'=>G v w'/\AV (λb=>∃k o q,k∈l/\S.h[k]?=Z (Z o)/\ρ[k]?=Z q/\q.foot b) w w':=by
 unfold iB at g;split at g
 rotate_left
 ·cases g
 rename_i c K;split at g
 rotate_left
 ·cases g
 rename_i hc;split at g
 rotate_left
 ·cases g
 rename_i x y j;cases g;rw[K]at h;simp only[PD,hc,j]at h;split at h
 rotate_left
 ·cases h
 rename_i t t' n;split at h
 rotate_left
 ·cases h
 rename_i r;subst r;split at h
 rotate_left
 ·cases h
 rename_i d1 h1 vc XZ;cases h;have J:=zQv (P:=P) (S:=S) (t:=t) (x:=Ak S.fr x) (y:=Ak S.fr y) (p:=λk=>(Ig (Ak S.fr x)++Ig (Ak S.fr y)).contains k) (λk s=>by simp[s]) (λk s=>by simp[s]);rw[XZ]at J;obtain⟨⟨d2,h2,z⟩,hs,I⟩:=zQa.1 J;have I:z=vc:=I;subst I;have D2:=zAg (Ad.sel R λk=>(Ig (Ak S.fr x)++Ig (Ak S.fr y)).contains k) hs X.1 o K hc j n;rcases BK.appendB K hc j n Y D2 with⟨v,w1,m,Q,V⟩|⟨w1,m,Q,V⟩|⟨f,ag,w1,m,BF⟩
 ·refine .inl ⟨v,w1,m,Q,?_⟩;obtain⟨ρ2,_,_,st,_⟩:=V.ex;refine st.upd.mono λb _ hb=>?_
  grind[E1,MO]
 ·rw[Lc K hc j n]at m;obtain⟨_,e⟩:=SB (f:=λx=>x) m;cases e
 ·rw[Lc K hc j n]at m;obtain⟨_,e⟩:=SB (f:=λx=>x) m;cases e
theorem iq(h:SK S o=Z k):∃t x y,o.op=.store t x y/\((∃j,Ak S.fr x=.ref k j)∨∃m i j,Ak S.fr x=.mp k m i j):=by
 grind[SK]
theorem zRE{a:O (DV×DH×ζ)}(ho:o.op=.store t x y){g:O (DV×DH×ζ)}(h:PD P Γ S a o.op=Z (Ϛ,h',vs,ext,g)):∃W,Pa P S t (Ak S.fr x) (Ak S.fr y)=Z (h',W)/\vs= [W]:=by
 grind[PD]
theorem zRF(R:Ad P Γ N S ρ a w){c:O (DV×DH×ζ)}{l:O (DV×DH×ζ)}(h:PD P Γ S c o.op=Z (Ϛ,h',vs,ext,l))(g:BU vs):
 BK P (ω a.eval o) w (λv w'=>Cj P Γ N S.h ρ w ext Ϛ h' v w'/\∀k,SK S o=Z k->AV (λb=>∃q,ρ[k]?=Z q/\q.foot b) w w'):=by
 cases m:SK S o with
 |none=>
  have ϒ:=pQ R h g
  simp_all
 |some k=>
  obtain⟨t,x,y,K,n⟩:=iq m;have ϒ:=pQ R h g;obtain⟨vc,p,rfl⟩:=zRE K h;obtain⟨_,h2,r⟩:=zB2 n p;have z:=qy (Ad.sel R λi=>i==k) (tx:=x) (x:=y) r g.1 o K;have J:=BK.store K ϒ z;rcases J with⟨v,w1,e,s,j⟩|⟨w1,e,s,j⟩|⟨f,ag,w1,e,_⟩
  ·cases n5 K e
  ·refine .inr<|.inl ⟨w1,e,s,λk' G=>?_⟩;cases G;obtain⟨ρ2,_,_,st,_⟩:=j.ex;refine st.upd.mono λb _ I=>?_
   obtain⟨i,o',q,q1,q2,q3⟩:=I
   grind[E1]
  ·cases n5 K e
variable{Q:Exit->Act->κ->Prop}{S':St}{ops:υ Oper}{ϖ:Fence}
theorem zQm(j:DQ ϖ P)(R:Ad P Γ N S ρ a w){Ar:BM}(z:∀c,o.op≠.defer c){CK:BM}(h:Ra P Γ ops S Ar o=Z (S',vs,ext,CK))(I:BU vs)
 {K:Act->κ->Prop}  (m:∀ρ' a' w',Ad P Γ N S' ρ' a' w'->C6 S.h ρ w S'.h ρ' w'->a'.defers=a.defers->(ext=D->A0 w w')->(∀k,SK S o=Z k->AV (λb=>∃q,ρ[k]?=Z q/\q.foot b) w w')->(∀l,Uk P S Ar.fz o=Z l->AV (λb=>∃k o q,k∈l/\S.h[k]?=Z (Z o)/\ρ[k]?=Z q/\q.foot b) w w')->K a' w'):
 u (Region.wanted o<|yielded ops a.tmps) (o.wpIn ϖ 0 P a w K Q) ((∀f,o.about P w a.eval=Z f->ϖ.fn f)/\K (a.put o.dst undef) w):=by
 have n:∀v,(a.put o.dst v).defers=a.defers:=λv=>by cases ho:o.dst <;> simp[Act.put]
 unfold Ra at h;split at h
 ·cases h
 ·rename_i J;cases h;rw[zJz<|by rw[Iy R J];exact Bool.false_ne_true];exact⟨λf _=>j.fn f,m ρ _ _ (Hw R _ ZM) (C6.refl _ _ _) (n _) (λ_=>A0.refl w) (λ_ _=>AV.refl _ _) λ_ _=>AV.refl _ _⟩
 ·rename_i J;rw[zAF<|Iy R J];split at h
  ·rename_i S1 Cc fz1 V;cases h;refine Lh j z (sQ R V I) λv w' ⟨⟨ρ',s,g⟩,r⟩=>m ρ' _ _ s g (n v) (λe=>by cases e) (λX W=>?_) λl Y=>?_
   obtain⟨t0,x0,y0,OZ,_⟩:=iq W;rcases r with r|⟨k,i,p,t,x,y,q1,q2,q3,q4⟩
   ·grind
   have e:X=k:=by
    grind
   subst e;exact q4.mono λb _ hb=>⟨p,q3,hb⟩
   grind[Uk]
  split at h
  ·rename_i S1 Cc V;cases h;refine Lh j z (qx R V I) λv w' ⟨⟨ρ',s,g⟩,r⟩=>m ρ' _ _ s g (n v) (λe=>by cases e) (λX W=>?_) λl Y=>?_
   obtain⟨t0,x0,y0,OZ,_⟩:=iq W;rcases r with r|⟨k,i,p,t,x,y,q1,q2,q3,q4⟩
   ·grind
   have e:X=k:=by
    grind
   subst e;exact q4.mono λb _ hb=>⟨p,q3,hb⟩
   grind[Uk]
  split at h
  ·cases h
  ·rename_i Ϛ h1 Cc ext1 calls eK;split at h;rename_i d' Bx DI Oi;split at h
   ·cases h
   ·rename_i S2 Rz LZ HB;cases h;obtain⟨CJ,XB⟩:=DP.1 I;obtain⟨CO,JJ⟩:=DP.1 XB;have ϒ:=zRF R eK CJ;cases XZ:iB S o with
    |none=>
     refine Lh j z ϒ λv w' G=>?_
     obtain⟨ρ',s,g⟩:=Om R o.dst G.1 (d':=d') λϕ ρ' hr=>YY Oi CO hr
     obtain⟨g3,g4⟩:=Xp _ HB JJ P Γ N ρ' _ _ s;refine m ρ' _ _ g3 (g.trans ⟨g4,λ_ _ h=>h⟩) (n v) G.1.ext G.2 λl Y=>?_
     grind[Uk]
    |some l0=>
     refine Lh j z (zQw R eK CJ XZ ϒ) λv w' G=>?_
     obtain⟨ρ',s,g⟩:=Om R o.dst G.1.1 (d':=d') λϕ ρ' hr=>YY Oi CO hr
     obtain⟨g3,g4⟩:=Xp _ HB JJ P Γ N ρ' _ _ s;refine m ρ' _ _ g3 (g.trans ⟨g4,λ_ _ h=>h⟩) (n v) G.1.1.ext G.1.2 λl Y=>?_
     grind[Uk]
variable{early:Θ}
theorem p6(hF:DQ ϖ P)(A5:CY ops=D)(hs:Region.noSelect ops=D){xs:O (E×E)}{G:Θ}{X:E}:
 ∀(t:ST) (m:E) (ϙ:υ ζ) {S:St} {ρ:O AN} {a:Act} {w:κ} {vs:O Prop} {Ar CK:BM},GS ops ϙ->Ad P Γ N S ρ a w->NI P Γ ops early xs G X S' t S Ar=Z (vs,CK)->BU vs->
 (∀ρ' a' w',Ad P Γ N S' ρ' a' w'->BD S.h ρ w S'.h ρ' w'->(∀k p,k<X->ρ[k]?=Z p->ρ'[k]?=Z p)->a'.defers=a.defers->Q .normal a' w')->
 (Ex ops early T m t ϙ=D->ZC ϖ 0 P ops (NP Q) (RZ ops (λj=>early.contains j) λj=>Zs (Ka xs G j) S.h ρ w) m ϙ a w)/\
 (Ex ops early D m t ϙ=D->∀i∈Ul t,i∈Region.ready .any ops ϙ->∃g,m=g+1/\wpOpIn ϖ 0 P ops (NP Q) i (λa' w'=>RZ ops (λj=>early.contains j) (λj=>Zs (Ka xs G j) S.h ρ w) i w w'/\ZC ϖ 0 P ops (NP Q) (RZ ops (λj=>early.contains j) λj=>Zs (Ka xs G j) S.h ρ w) g (ϙ.setIfInBounds i D) a' w') a w):=by
 intro t
 induction t with
 |no=>
  grind[Ex,Ul]
 |fin π n=>
  intro m ϙ S ρ a w vs Ar vL x R f hv z;refine⟨λh=>?_,λh=>by cases m <;> simp[Ex]at h⟩;cases m with
  |succ m=>simp[Ex]at h
  |zero=>
   simp only[Ex,zFy,zJ9]at h;refine zA1 h ?_;simp only[NI]at f;split at f
   ·rename_i hσ;cases f;simp only[rZ,zAx,zK9,zFy,zJ9]at hσ;obtain⟨ρ0,R0,Lz,Y⟩:=A6.forget (ϙ:=X) n S.fr S.h P Γ N ρ a w R;obtain⟨ρ',R',DS,k'⟩:=A6.compact (ϙ:=X) (jD π X) ⟨forget n S.fr,S.h⟩ hσ.1.1 (λk r=>hσ.1.2 k r) (λk r=>hσ.2 k r) P Γ N ρ0 a w R0;have st:=Lz.trans DS
    grind[NP,BU,CA]
   ·cases f
 |rd i t ih=>
  intro m ϙ S ρ a w vs Ar vL x R f hv z;refine⟨λh=>?_,λh=>by cases m <;> simp[Ex]at h⟩;cases m with
  |zero=>simp[Ex]at h
  |succ m=>
   simp only[Ex,zAx]at h;simp only[NI]at f;split at f
   ·cases f
   ·rename_i o K
    ·split at f
     ·cases f
     ·rename_i S1 Cc Mz hp;split at f
      ·cases f
      ·rename_i EP G5 h2;cases f;obtain⟨CJ,CO⟩:=DP.1 hv;have RK:=Ad.sel R λk=>!(NB ops xs G i).contains k;obtain⟨e1,FO⟩:=WH RK hp CJ;have Ci:∀v,(a.put o.dst v).defers=a.defers:=λv=>by cases K:o.dst <;> simp[Act.put]
       have Oc:(Region.ready .any ops ϙ).contains i=D:=by
        simp_all[So]
       have back:∀v,BJ (MS (λb=>N b∨∃k o q,(!(NB ops xs G i).contains k)=T/\S.h[k]?=Z (Z o)/\ρ[k]?=Z q/\q.foot b) S1.h ρ) w ρ S1.fr (a.put o.dst v).tmps->Ad P Γ N ⟨S1.fr,S.h⟩ ρ (a.put o.dst v) w:=λv s=>by
        rw[e1]at s;exact Ad.unsel (p:=λk=>!(NB ops xs G i).contains k) R.hr s
       have hZ:∀j,F3 ops ops.size j i=T->∀b,Zs (Ka xs G j) S.h ρ w b->Zs (NB ops xs G i) S.h ρ w b:=by
        rintro j hj b (⟨k,ob,q,k1,Y,k2,k3⟩|hb)
        ·refine .inl ⟨k,ob,q,?_,Y,k2,k3⟩;unfold Ka at k1;unfold NB;rcases zNa.1 k1 with k1|k1
         ·obtain⟨p,p1,p2⟩:=zMf.1 k1
          grind
         grind
        ·exact .inr hb
       rcases FO with⟨I,v,g1,g2⟩|⟨I,g2⟩
       ·refine ar (Zi:=Zs (NB ops xs G i) S.h ρ w) hF.fn A5 hs (λc a Ϛ v w h=>NP.put c a Ϛ v w h) K x h.1 hZ (λ_ _ h=>by cases h) (.inl ⟨I,λW hu=>g1 W<|zKI hu⟩) ?_;exact(ih m _ (Ya x Oc) (back v g2.fr) h2 CO λρ' a' w' J V q3 q4=>z ρ' a' w' J V q3<|q4.trans<|Ci v).1 h.2
       ·refine ar (Zi:=Zs (NB ops xs G i) S.h ρ w) hF.fn A5 hs (v:=undef) (λc a Ϛ v w h=>NP.put c a Ϛ v w h) K x h.1 hZ (λ_ _ h=>by cases h) (.inr ⟨I,rfl⟩) ?_;exact(ih m _ (Ya x Oc) (back undef g2.fr) h2 CO λρ' a' w' J V q3 q4=>z ρ' a' w' J V q3<|q4.trans<|Ci undef).1 h.2
 |ef i t Iu ih1 ih2=>
  intro m ϙ S ρ a w vs Ar vL x R f hv z;simp only[NI]at f;split at f
  ·cases f
  ·rename_i o K;split at f
   ·cases f
   ·rename_i S1 Cc ext FJ h1;split at f
    ·rename_i eH;simp only[zO,zAx,zKu]at eH;obtain⟨zMx,zNE⟩:=eH;split at f
     ·cases f
     rename_i EP G5 h2;split at f
     ·cases f
     ·rename_i NG MK h3;cases f;obtain⟨CJ,E7⟩:=DP.1 hv;obtain⟨CO,JJ⟩:=DP.1 E7;have ο:=ih2 m ϙ x R h3 JJ z
      have one:∀b,Ex ops early b m (.ef i t Iu) ϙ=D->(Region.ready .any ops ϙ).contains i=D->∃g,m=g+1/\Ex ops early D m Iu ϙ=D/\wpOpIn ϖ 0 P ops (NP Q) i (λa' w'=>RZ ops (λj=>early.contains j) (λj=>Zs (Ka xs G j) S.h ρ w) i w w'/\ZC ϖ 0 P ops (NP Q) (RZ ops (λj=>early.contains j) λj=>Zs (Ka xs G j) S.h ρ w) g (ϙ.setIfInBounds i D) a' w') a w:=by
       intro b hb s;cases m with
       |zero=>cases b <;> simp[Ex]at hb
       |succ m=>
        have En:(!TK ops i)=D/\Ex ops early T m t (ϙ.setIfInBounds i D)=D/\Ex ops early D (m+1) Iu ϙ=D:=by
         cases b <;> simp only[Ex,zAx]at hb <;> exact⟨hb.1.1.2,hb.1.2,hb.2⟩
        obtain⟨b1,b2,b3⟩:=En;refine⟨m,rfl,b3,?_⟩;unfold wpOpIn;simp only[K];refine zQm hF R (JD A5 K) h1 CJ λρ' a' w' R' st DF LS zLG zNX=>?_
        refine⟨⟨λhp=>(by rw[hp]at b1;cases b1),λhe=>?_⟩,?_⟩
        ·rcases zNE with((h|h)|h)|h
         ·grind
         ·exact AV.ofExt<|LS h
         ·split at h
          ·rename_i k r;rw[zAx]at h;refine(zLG k r).mono λb _ hb=>?_
           obtain⟨q,J,V⟩:=hb;cases hg:S.h.getD k A with
           |none=>rw[hg]at h;cases h.2
           |some ob=>grind[Zs]
          ·cases h
         ·split at h
          ·rename_i l hl;refine(zNX l hl).mono λb _ hb=>?_
           grind[Zs]
          ·cases h
        ·have ϑ:=(ih1 m _ (Ya x s) R' h2 CO λρ2 a2 w2 J V q3 q4=>z ρ2 a2 w2 J (st.st.trans V) (λk p r hp=>q3 k p r<|st.pl k p hp)<|q4.trans DF).1 b2;refine pa (λj w1 w2 hR=>⟨hR.1,λhe=>(hR.2 he).mono λb hb1 hb=>?_⟩) _ _ _ _ ϑ;rcases hb with⟨k,ob,q,k1,Y,k2,k3⟩|hb
         ·rcases st.st.grow b ⟨k,ob,q,Y,k2,k3⟩with⟨y,o2,p2,g1,g2,g3⟩|h
          ·by_cases Dm:y∈Ka xs G j
           ·grind[Zs]
           ·exfalso
            have HA:=(zLB.1 g1).1;have Qb:=zFy.1 zMx y<|zJ9.2 HA;have e2:S.h.getD y A=Z o2:=Z4
            have mW:G.contains y=T:=zNk.2 λh=>Dm (zNa.2<|.inr<|by simpa using h)
            rw[e2,mW]at Qb;cases xb:S1.h.getD y A with
            |none=>rw[xb]at Qb;cases Qb
            |some ob2=>exact R'.hr.dis y k ob2 ob p2 q b (λe=>Dm<|e▸k1) (getD_some xb) Y (st.pl y p2 g2) k2 g3 k3
          ·exact .inr h
         ·exact .inr<|zIX st.st.upd.size hb
      refine⟨λh=>?_,λh j hj s=>?_⟩
      ·have Oc:Region.ready .any ops ϙ=i::Ul Iu:=by
        cases m <;> simp only[Ex,zAx,zKu,zKq,Ul,zLV,false_or]at h;exact h.1.1.1
       obtain⟨g,e,ha,I⟩:=one T h (by rw[Oc];simp);subst e;refine⟨by rw[Oc];simp,λj hj=>?_⟩
       grind
      ·rcases zLa.1 hj with rfl|hj
       ·obtain⟨g,e,ha,I⟩:=one D h (by simpa using s);exact⟨g,e,I⟩
       ·have ha:Ex ops early D m Iu ϙ=D:=by
         cases m <;> simp only[Ex,zAx]at h
         ·cases h
         ·exact h.2
        exact ο.2 ha j hj s
    ·cases f
theorem Tr.tree{Ϝ:W0}{ϙ:E}{Y:BR P Γ ϙ}{Q:QY P Γ ϙ}(e:DQ ϖ P){id:E}{t:ST}{f g:BM}(i:P.follows .mixedOrders=D)(c:B3 ops early t)
 (h:Uv P Γ ops early t S f=Z (S',vs,g)) (j:BU vs) (n:Q .normal S' Y):Tr P Γ ϖ Ϝ ϙ Y (.region id ops D) S Q:=λN ρ a w R y m b=>by
 simp only[B3,zAx]at c;obtain⟨⟨o,q⟩,r⟩:=c;unfold Uv at h;split at h
 ·cases h
 split at h
 ·cases h
 ·rename_i s;cases h;have l:A0 w w.drew:=A0.toDrew w;refine pf<|iP i (Nat.add_zero _)<|(p6 e r q t ops.size _ oP (R.ext l) s j λρ' a' w' R' st V z=>?_).1 o;have v:BD S.h ρ w S'.h ρ' w':=(BD.ext l).trans st;exact Tr.done R y m b n R' v (λk p _ x=>V k p (by rw[←R.hr.len];grind) x) z
end
end
abbrev zOf:=@Go.wpIn_region_list
abbrev zSA:=@Go.IntKind.wrap_i64
inductive KI where
 |code (c:Code)
 |blk (id:E)
 |scp
 |lend (J:St->Prop)
 |loopN (m:E) (b:Code)
def Lo(P:ν)(Γ:A1)(ϖ:Fence)(Ϝ:W0)(ϙ:E)(b:Code)(Q:QY P Γ ϙ):E->St->BR P Γ ϙ->Prop
 |0,_,_=>False
 |m+1,S,Y=>Tr P Γ ϖ Ϝ ϙ Y b S<|PV (Lo P Γ ϖ Ϝ ϙ b Q m) Q
def Lo.loop{P:ν}{Γ:A1}{ϖ:Fence}{Ϝ:W0}{ϙ:E}{Y:BR P Γ ϙ}{b:Code}{Q:QY P Γ ϙ}{m:E}{S:St}(h:Lo P Γ ϖ Ϝ ϙ b Q m S Y):Tr P Γ ϖ Ϝ ϙ Y (.loop b) S Q:=by
 refine Tr.loop (λm S Y=>Lo P Γ ϖ Ϝ ϙ b Q m S Y) m h λm S Y a=>?_
 cases m with
 |zero=>exact a.elim
 |succ m=>
  refine Tr.mono a λe S' Y' I=>?_
  cases e with
  |normal=>exact⟨m,Nat.lt_succ_self m,I⟩
  |_=>exact I
def Dp(P:ν)(Γ:A1)(ϖ:Fence)(Ϝ:W0)(ϙ:E)(Q:QY P Γ ϙ):O KI->QY P Γ ϙ
 |[],e,S,Y=>Q e S Y
 | .code c::k,e,S,Y=>match e with
  | .normal=>Tr P Γ ϖ Ϝ ϙ Y c S<|Dp P Γ ϖ Ϝ ϙ Q k
  |e=>Dp P Γ ϖ Ϝ ϙ Q k e S Y
 | .blk id::k,e,S,Y=>match e with
  | .exit i=>u (i=id) (Dp P Γ ϖ Ϝ ϙ Q k .normal S Y)<|Dp P Γ ϖ Ϝ ϙ Q k (.exit i) S Y
  |e=>Dp P Γ ϖ Ϝ ϙ Q k e S Y
 | .scp::k,e,S,Y=>match e with
  | .goto _=>False
  |e=>Dp P Γ ϖ Ϝ ϙ Q k e S Y
 | .lend J::k,e,S,Y=>match e with
  | .normal=>J S
  |e=>Dp P Γ ϖ Ϝ ϙ Q k e S Y
 | .loopN m b::k,e,S,Y=>match e with
  | .normal=>Lo P Γ ϖ Ϝ ϙ b (Dp P Γ ϖ Ϝ ϙ Q k) m S Y
  |e=>Dp P Γ ϖ Ϝ ϙ Q k e S Y
def A2(P:ν)(Γ:A1)(ϖ:Fence)(Ϝ:W0)(ϙ:E)(Y:BR P Γ ϙ)(Q:QY P Γ ϙ)(k:O KI)(S:St):Prop:=Dp P Γ ϖ Ϝ ϙ Q k .normal S Y
def stay{P:ν}{Γ:A1}{ϙ:E}(N:BR P Γ ϙ)(Q:Exit->St->Prop):QY P Γ ϙ:=λe S Y=>Y=N/\Q e S
abbrev BV(P:ν)(Γ:A1)(ϖ:Fence)(Ϝ:W0)(ϙ:E)(N:BR P Γ ϙ)(Q:Exit->St->Prop)(k:O KI)(S:St):Prop:=A2 P Γ ϖ Ϝ ϙ N (stay N Q) k S
def J0(id:E):O KI->M (O KI)
 |[]=>A
 | .blk i::k=>u (id=i) (Z k)<|J0 id k
 |_::k=>J0 id k
inductive pR where
 |no
 |ord (st:O (Θ×E)) (la ta:Θ)
 |stop
 |tre (early:Θ) (t:ST)
abbrev BG:=E->pR
def pR.isStop:pR->ζ
 | .stop=>D
 |_=>T
def AK(i:E)(s:BG):BG:=λj=>u (j=i) .stop<|s j
def Ac(ops:υ Oper)(e:O<|Θ×E)(i b:Θ):Prop:=(jH ops e i b&&CY ops&&b.all λt=>decide (t<ops.size))=D
inductive KO where
 |at(k:O KI)
 |ret
def CQ(P:ν)(Γ:A1)(Q:BG):E->O KI->St->BM->M (KO×St×O Prop×BM)
 |0,_,_,_=>A
 |n+1,k,S,o=>match k with
  |[]=>Z (.at [],S,[],o)
  | .blk _::k=>CQ P Γ Q n k S o
  | .scp::k=>CQ P Γ Q n k S o
  | .lend J::k=>Z (.at<|.lend J::k,S,[],o)
  | .loopN m b::k=>Z (.at<|.loopN m b::k,S,[],o)
  | .code c::k=>match c with
   | .skip=>CQ P Γ Q n k S o
   | .seq a b=>CQ P Γ Q n (.code a:: .code b::k) S o
   | .block id b=>CQ P Γ Q n (.code b:: .blk id::k) S o
   | .scope b=>CQ P Γ Q n (.code b:: .scp::k) S o
   | .label _=>CQ P Γ Q n k S o
   | .exit id=>match J0 id k with
    |some X=>CQ P Γ Q n X S o
    |none=>Z (.at<|.code (.exit id)::k,S,[],o)
   | .ret=>Z (.ret,S,[],o)
   | .cond x a b=>match Ak S.fr x with
    | .bool D=>CQ P Γ Q n (.code a::k) S o
    | .bool T=>CQ P Γ Q n (.code b::k) S o
    |_=>A
   | .region id ops p=>if(Q id).isStop then Z (.at<|.code (.region id ops p)::k,S,[],o)else match p with
    |false=>if CY ops then match D1 P Γ ops ops.toList S o with
     |none=>A
     |some (S',vs,o')=>match CQ P Γ Q n k S' o' with
      |none=>A
      |some (r,e,y,Y)=>Z (r,e,vs++y,Y)
     else A
    |true=>match Q id with
     | .no=>A
     | .stop=>A
     | .tre early t=>match Uv P Γ ops early t S o with
      |none=>A
      |some (S',vs,o')=>match CQ P Γ Q n k S' o' with
       |none=>A
       |some (r,e,y,Y)=>Z (r,e,B3 ops early t::(vs++y),Y)
     | .ord st f R=>match hseq P Γ ops S.h st f R S o with
      |none=>A
      |some (S',vs,o')=>match CQ P Γ Q n k S' o' with
       |none=>A
       |some (r,e,y,Y)=>Z (r,e,Ac ops st f R::(vs++y),Y)
   |c=>Z (.at<|.code c::k,S,[],o)
section
variable{P:ν}{Γ:A1}{ϖ:Fence}{Ϝ:W0}{ϙ:E}{Y:BR P Γ ϙ}{Q:QY P Γ ϙ}
variable{vs:O Prop}{S' S:St}{ops:υ Oper}{id:E}
def zNp(l:DQ ϖ P){c e:BM}{Q:QY P Γ ϙ}(g:CY ops=D)(h:D1 P Γ ops ops.toList S c=Z (S',vs,e))(t:BU vs)(f:Q .normal S' Y):Tr P Γ ϖ Ϝ ϙ Y (.region id ops T) S Q:=λN ρ a w R y m b=>
 zOf (LW l g _ (λo K=>by simpa using K) R h t λρ' a' w' R' st z=>Tr.done R y m b f R' st.st (λk p _ i=>st.pl k p i) z)
theorem zLN(l:DQ ϖ P){e:O (Θ×E)}{i c:Θ}{j n:BM}{Q:QY P Γ ϙ}(o:P.follows .mixedOrders=D)(f:Ac ops e i c)
 (h:hseq P Γ ops S.h e i c S j=Z (S',vs,n)) (t:BU vs) (q:Q .normal S' Y):Tr P Γ ϖ Ϝ ϙ Y (.region id ops D) S Q:=λN ρ a w R y m b=>by
 simp only[Ac,zAx]at f;obtain⟨⟨h1,r⟩,s⟩:=f;have g:A0 w w.drew:=A0.toDrew w;refine pc l.fn e i c o Z4<|zLO l r e i c s (R.ext g) (C6.refl _ _ _) (A0.refl _) h t λρ' a' w' R' st z=>?_;have v:BD S.h ρ w S'.h ρ' w':=(BD.ext g).trans st.st;exact Tr.done R y m b q R' v (λk p _ x=>st.pl k p x) z
theorem QB :∀{k X:O KI},J0 id k=Z X->Dp P Γ ϖ Ϝ ϙ Q X .normal S Y->Dp P Γ ϖ Ϝ ϙ Q k (.exit id) S Y
 |[],_,h,_=>by cases h
 | .blk i::k,X,h,I=>by
  unfold J0 at h;split at h
  ·rename_i e;cases h;subst e
   show u (id=id) _ _
   rw[zAF rfl];exact I
  ·rename_i e
   show u (id=i) _ _
   rw[zJz e];exact QB h I
 | .code c::k,X,h,I=>QB (k:=k) h I
 | .lend J::k,X,h,I=>QB (k:=k) h I
 | .scp::k,X,h,I=>QB (k:=k) h I
 | .loopN m b::k,X,h,I=>QB (k:=k) h I
def Nl(h:Q .ret S Y):∀(k:O KI),Dp P Γ ϖ Ϝ ϙ Q k .ret S Y
 |[]=>h
 | .blk _::k=>Nl h k
 | .code _::k=>Nl h k
 | .lend _::k=>Nl h k
 | .scp::k=>Nl h k
 | .loopN _ _::k=>Nl h k
def KOk(P:ν)(Γ:A1)(ϖ:Fence)(Ϝ:W0)(ϙ:E)(Y:BR P Γ ϙ)(Q:QY P Γ ϙ):KO->St->Prop
 | .at k,S=>A2 P Γ ϖ Ϝ ϙ Y Q k S
 | .ret,S=>Q .ret S Y
def GF(j:DQ ϖ P)(p:P.follows .mixedOrders=D){BH:BG}:∀(n:E) (k:O KI) (S:St) (o:BM) (r:KO) (S':St) (vs:O Prop) (o':BM),CQ P Γ BH n k S o=Z (r,S',vs,o')->BU vs->KOk P Γ ϖ Ϝ ϙ Y Q r S'->A2 P Γ ϖ Ϝ ϙ Y Q k S
 |0,_,_,_,_,_,_,_,h,_,_=>by cases h
 |n+1,k,S,o,r,S',vs,o',h,q,g=>by
  unfold CQ at h;cases k with
  |nil=>cases h;exact g
  |cons i k=>
   cases i with
   |blk id=>exact GF j p n k S o r S' vs o' h q g
   |scp=>exact GF j p n k S o r S' vs o' h q g
   |lend J=>cases h;exact g
   |loopN m b=>cases h;exact g
   |code c=>
    show Tr P Γ ϖ Ϝ ϙ Y c S<|Dp P Γ ϖ Ϝ ϙ Q k
    cases c with
    |skip=>exact Tr.skip<|GF j p n k S o r S' vs o' h q g
    |seq a b=>
     refine Tr.seq<|Tr.mono (GF j p n (.code a:: .code b::k) S o r S' vs o' h q g) λe s V I=>?_;cases e <;> exact I
    |block id b=>
     refine Tr.block<|Tr.mono (GF j p n (.code b:: .blk id::k) S o r S' vs o' h q g) λe s V I=>?_;cases e <;> exact I
    |exit id=>
     simp only at h;split at h
     ·rename_i k' hp;exact Tr.exit<|QB hp<|GF j p n k' S o r S' vs o' h q g
     ·cases h;exact g
    |ret=>cases h;exact Tr.ret<|Nl g k
    |cond x a b=>
     simp only at h;split at h
     ·rename_i hc;exact Tr.cond hc (λ_=>GF j p n (.code a::k) S o r S' vs o' h q g) (λe=>by cases e)
     ·rename_i hc;exact Tr.cond hc (λe=>by cases e) λ_=>GF j p n (.code b::k) S o r S' vs o' h q g
     ·cases h
    |region id ops dr=>
     simp only at h;split at h
     ·cases h;exact g
     ·cases dr with
      |false=>
       simp only at h;split at h
       ·rename_i A5;split at h
        ·cases h
        ·rename_i G W o1 v;split at h
         ·cases h
         ·rename_i X s EP o2 y;cases h;obtain⟨z,K⟩:=DP.1 q;exact zNp j A5 v z<|GF j p n k G o1 _ _ _ _ y K g
       ·cases h
      |true=>
       simp only at h;split at h
       ·cases h
       ·cases h
       ·rename_i early t hs;split at h
        ·cases h
        ·rename_i G W o1 v;split at h
         ·cases h
         ·rename_i X s EP o2 y;cases h;obtain⟨N,R⟩:=q;obtain⟨z,K⟩:=DP.1 R;exact Tr.tree j p N v z<|GF j p n k G o1 _ _ _ _ y K g
       ·rename_i st la ta hs;split at h
        ·cases h
        ·rename_i G W o1 v;split at h
         ·cases h
         ·rename_i X s EP o2 y;cases h;obtain⟨N,R⟩:=q;obtain⟨z,K⟩:=DP.1 R;exact zLN j p N v z<|GF j p n k G o1 _ _ _ _ y K g
    |loop b=>cases h;exact g
    |rangeFunc f ps Re bd=>cases h;exact g
    |scope b=>
     refine Tr.scope<|Tr.mono (GF j p n (.code b:: .scp::k) S o r S' vs o' h q g) λe s V I=>?_;cases e <;> exact I
    |label l=>exact Tr.label<|GF j p n k S o r S' vs o' h q g
    |goto l=>cases h;exact g
    |refuse w=>cases h;exact g
variable{k:O KI}
def A2.weaken(e:A6 ϙ S S')(h:A2 P Γ ϖ Ϝ ϙ Y Q k S')(f:∃c X,k=.code c::X):A2 P Γ ϖ Ϝ ϙ Y Q k S:=by
 obtain⟨c,X,rfl⟩:=f;exact Tr.weaken e h
def QU:O KI->ζ
 | .code (.loop _)::_=>D
 |_=>T
def Df(k:O KI):O KI:=match k with
 |_::rest=>rest
 |[]=>[]
def Ou(id:E):Θ->Code->O KI->M (O KI)
 |ms,.seq a b,k=>match Ou id ms a (.code b::k)with
  |some r=>Z r
  |none=>Ou id ms b k
 |ms,.cond _ a b,k=>match Ou id ms a k with
  |some r=>Z r
  |none=>Ou id ms b k
 |ms,.block i c,k=>u (i=id) (Z<|.code c:: .blk i::k)<|Ou id ms c<|.blk i::k
 |ms,.scope c,k=>Ou id ms c<|.scp::k
 |m::ms,.loop b,k=>Ou id ms b<|.loopN m b::k
 |_,_,_=>A
def Ov(id:E):Θ->Code->O KI->M (O KI)
 |ms,.seq a b,k=>match Ov id ms a (.code b::k)with
  |some r=>Z r
  |none=>Ov id ms b k
 |ms,.cond _ a b,k=>match Ov id ms a k with
  |some r=>Z r
  |none=>Ov id ms b k
 |ms,.block i c,k=>Ov id ms c<|.blk i::k
 |ms,.scope c,k=>Ov id ms c<|.scp::k
 |m::ms,.loop b,k=>Ov id ms b<|.loopN m b::k
 |_,.region i ops p,k=>u (i=id) (Z<|.code (.region i ops p)::k) A
 |_,_,_=>A
def Du(m:E)(k:O KI):O KI:=match k with
 | .code (.loop b)::rest=>.loopN m b::rest
 |_=>[]
def pz(m:E)(k:O KI):O KI:=match k with
 | .code (.loop b)::rest=>.code b:: .loopN m b::rest
 |_=>[]
def start(f:Func):O KI:=match f.body with
 |some c=>[.code c]
 |none=>[]
def Kn(c:Code)(id:E):υ Oper:=match c with
 | .region i ops _=>u (i=id) ops<|#[]
 | .seq a b=>let x:=Kn a id;u (x.size=0) (Kn b id) x
 | .cond _ a b=>let x:=Kn a id;u (x.size=0) (Kn b id) x
 | .block _ c=>Kn c id
 | .loop c=>Kn c id
 | .scope c=>Kn c id
 | .rangeFunc _ _ a b=>let x:=Kn a id;u (x.size=0) (Kn b id) x
 |_=>#[]
def Ah(f:Func)(id:E):υ Oper:=match f.body with
 |some c=>Kn c id
 |none=>#[]
def BV.enter(m:E)(f:QU k=D)(h:A2 P Γ ϖ Ϝ ϙ Y Q (Du m k) S):A2 P Γ ϖ Ϝ ϙ Y Q k S:=by
 unfold QU at f;split at f
 ·exact Lo.loop h
 ·cases f
def BV.round{n m:E}(a:n+1<=m)(f:QU k=D)(h:∀m,n<=m->A2 P Γ ϖ Ϝ ϙ Y Q (pz m k) S):A2 P Γ ϖ Ϝ ϙ Y Q (Du m k) S:=by
 cases m with
 |zero=>omega
 |succ m=>
  have h:=h m<|Nat.le_of_succ_le_succ a;unfold QU at f;split at f
  ·refine Tr.mono h λe S' Y' I=>?_
   cases e <;> exact I
  ·cases f
def AI(n:E)(l:O<|E×DV):O DV:=(θ n).map λi=>match l.find? (λx=>x.1==i)with
 |some x=>x.2
 |none=>.any
variable{h':DH}{Ϛ:DV}{fn:Func}
def Dd.le{e:Exit}(a:A6 ϙ S S')(h:Dd P fn ϙ Ϛ h' e S'):Dd P fn ϙ Ϛ h' e S:=by
 obtain⟨b,c,f,g⟩:=h;exact⟨b,c,a.trans f,g⟩
variable{h:DH}{ds:O DV}{f:E}
def ES.of_trk{ext:ζ}(q:P.funcs[f]?=Z fn)(b:fn.body.isSome=D)(a:(fn.name== "runtime.NumGoroutine")=T)(j:QL h')(g:ext=D->h= [])
 (ϗ:∀(Ϝ:E) (N:BR P Γ<|F h),BV P Γ η (Z Ϝ) (F h) N (Dd P fn (F h) Ϛ h') (start fn) ⟨ds++d (fn.ntmps-F ds) .any,h⟩):ES P Γ f ds h Ϛ h' ext:=by
 cases hc:fn.body with
 |none=>rw[hc]at b;cases b
 |some c=>
  refine ES.of_tr q hc (by simpa using a) j (λϜ N=>?_) g;have:=ϗ Ϝ N;unfold start at this;rw[hc]at this;refine Tr.mono this λe S Y I=>?_
  cases e <;> exact I
def Fi:DV->ζ
 | .mse .. =>T
 | .gr .. =>T
 | .mri .. =>T
 | .ref .. =>T
 | .msl .. =>T
 | .mp .. =>T
 | .it _=>T
 | .agg m f=>(θ m).all λj=>Fi<|f j
 | .tup m f=>(θ m).all λj=>Fi<|f j
 | .fn _ m f=>(θ m).all λj=>Fi<|f j
 |_=>D
def ML:∀{Ϛ:DV},Fi Ϛ=D->Ja Ϛ:=by
 intro Ϛ
 induction Ϛ with
 |any=>exact λ_ _ _ _ _ _=>trivial
 |nils=>exact λ_ _ _ _ _ h=>h
 |int k n=>exact λ_ _ _ _ _ h=>h
 |bool b=>exact λ_ _ _ _ _ h=>h
 |str s=>exact λ_ _ _ _ _ h=>h
 |ints l=>exact λ_ _ _ _ _ h=>h
 |bools l=>exact λ_ _ _ _ _ h=>h
 |sl m n f _=>exact λ_ _ _ _ _ h=>h
 |fp m f _=>exact λ_ _ _ _ _ h=>h
 |agg m f q=>exact λa=>Ja.agg λj p=>q j<|zFy.1 a j<|zJ9.2 p
 |tup m f q=>exact λa=>Ja.tup λj p=>q j<|zFy.1 a j<|zJ9.2 p
 |ref k j=>exact λa=>by cases a
 |msl k m o n=>exact λa=>by cases a
 |mp k m i j=>exact λa=>by cases a
 |fn g m c q=>exact λa ϕ w ρ v ⟨cs,e,r,hc⟩=>⟨cs,e,r,λj p=>let⟨ϛ,t,x⟩:=hc j p;⟨ϛ,t,q j (zFy.1 a j<|zJ9.2 p) ϕ w ρ ϛ x⟩⟩
 |it k=>exact λa=>by cases a
 |yl l=>exact λ_ _ _ _ _ h=>h
 |cst ϛ=>exact λ_ _ _ _ _ h=>h
 |mse k m o n=>exact λa=>by cases a
 |gr k=>exact λa=>by cases a
 |mri k i=>exact λa=>by cases a
def ES.frameB(h0:ES P Γ f ds [] Ϛ [] D)(h:DH)(z:ds.all Fi=D):ES P Γ f ds h Ϛ h D:=h0.frame (λx i=>ML<|zFy.1 z x i) h
def Zz:DV->ζ
 | .int .. =>D
 | .bool _=>D
 | .tup m f=>(θ m).all λj=>match f j with
  | .int .. =>D
  | .bool _=>D
  |_=>T
 |_=>T
theorem zC5(h:Zz Ϛ=D):JZ Ϛ:=by
 unfold Zz at h
 grind[JZ.int,JZ.bool,JZ.tup]
def PA(h:DH):O DV->O DV->Prop
 |[],[]=>True
 |Ϛ::ds,i::m=>Am h Ϛ i/\PA h ds m
 |_,_=>False
theorem Um :∀{ds m:O DV},PA h ds m->F m=F ds/\∀i,i<F ds->Am h (ds.getD i .any) (m.getD i .any)
 |[],[],_=>⟨rfl,λi hi=>τ hi<|zBT i⟩
 |Ϛ::ds,d0::m,⟨h1,c⟩=>by
  obtain⟨e,g⟩:=Um c
  grind
 |[],_::_,h=>h.elim
 |_::_,[],h=>h.elim
def Am.plain(n:Fi Ϛ=D):Am h Ϛ Ϛ:=Am.nref<|ML n
def Am.nils :Am h .nils<|.ints []:=λ_ _ _ _ _ _ _ k=>AO.ints_nil _ _ _ _<|AL.out _ (Cz (ϕ:=λ_=>False) (λ_ b=>b) []) k
def ES.snapB{m:O DV}(h0:ES P Γ f m [] Ϛ [] D)(h:DH)(p:PA h ds m)(z:Zz Ϛ=D):ES P Γ f ds h Ϛ h D:=ES.snap h0 h (Um p).1 (Um p).2<|zC5 z
theorem AO.of_eq{d':DV}(h:Ϛ=d'):AO Ϛ d':=by rw[h];exact AO.refl _
def QW{ϕ:Ψ}{w:κ}{ρ:O AN}{v:μ}{l:Ξ}(h:AL ϕ w (.ints l) ρ v):F l<=LB:=let⟨_,_,_,_,h,_⟩:=h;h
def wrC{x c:U}(a:x=c)(h2:-9223372036854775808<=c)(h3:c<=9223372036854775807):IntKind.i64.wrap x=c:=by
 subst a;rw[zSA];omega
end
def PE(w:κ):Prop:=TabAt 1 Lib.deBruijn64tab w
def GG:A1 where
 ng:=2
 gi:=λw=>PE w/\2<=w.heap.size
 st:=λw w' h x=>⟨λj l=>x.cell (by show¬(2<=1);omega)<|h.1 j l,zIX h.2 x.size⟩
 lo:=λw h=>h.2
section
variable{α:Type}
theorem B8{c:Prop}[Decidable c]{a:M α}{r:α}(h:u c a A=Z r):c/\a=Z r:=by
 grind
def GP{β:Type}{o:M β}{f:β->M α}{r:α}(h:o.bind f=Z r):∃v,o=Z v/\f v=Z r:=by
 cases o with
 |none=>cases h
 |some v=>exact⟨v,rfl,h⟩
theorem B7{b:ζ}{x y:M α}{r:α}(h:B b x y=Z r):(b=D/\x=Z r)∨(b=T/\y=Z r):=by
 grind
def zHk:U->ζ
 | .ofNat n=>Nat.ble n 9223372036854775807
 | .negSucc n=>Nat.ble n 9223372036854775807
def AG(x:U):Prop:=zHk x=D
instance (x:U):Decidable<|AG x:=by unfold AG;infer_instance
variable{x:U}
theorem AZ :AG x↔-9223372036854775808<=x/\x<=9223372036854775807:=by
 unfold AG;cases x with
 |ofNat n=>
  show Nat.ble n 9223372036854775807=D↔_
  grind[Nat.ble_eq]
 |negSucc n=>
  show Nat.ble n 9223372036854775807=D↔_
  rw[Nat.ble_eq];omega
def zAz(h:AG x):AO (.int .i64<|IntKind.i64.wrap x)<|.int .i64 x:=AO.int<|wrC rfl (AZ.1 h).1 (AZ.1 h).2
def comp(Q σ:Θ)(S:St):St:=GO σ ⟨forget Q S.fr,S.h⟩
def Kg(σ:Θ)(ϙ n:E):ζ:=C σ.Nodup&&σ.all (λk=>decide (k<n))&&(θ ϙ).all λk=>decide (σ[k]?=Z k)
def A6.comp{ϙ:E}(Q σ:Θ)(S:St)(h:Kg σ ϙ (F S.h)=D):A6 ϙ S<|comp Q σ S:=by
 simp only[Kg,zAx,zK9,zFy,zJ9]at h;exact(A6.forget Q S.fr S.h).trans<|A6.compact σ _ h.1.1 (λk f=>h.1.2 k f) λk f=>h.2 k f
def WR(Q σ:Θ)(ϙ:E)(r:KO×St×O Prop×BM):KO×O DV×DH×O Prop×O (DV×DH×ζ)×O (E×DV)×ζ:=(r.1,(Proofs.YtnkpdcmbppkkpaaGreatDoor.comp Q σ r.2.1).fr,(Proofs.YtnkpdcmbppkkpaaGreatDoor.comp Q σ r.2.1).h,r.2.2.1,r.2.2.2.calls,r.2.2.2.co,Kg σ ϙ<|F r.2.1.h)
section
variable{P:ν}{Γ:A1}{ϖ:Fence}{Ϝ:W0}{ϙ:E}{Y N:BR P Γ ϙ}{Q:QY P Γ ϙ}
variable{h':DH}{S:St}{n:E}
def zIQ{a:BG}{k:O KI}{o:BM}{Q σ:Θ}{r:KO}{fr:O DV}{vs:O Prop}(h:(CQ P Γ a n k S o).map (WR Q σ ϙ)=Z (r,fr,h',vs,[],[],D)):
 ∃S' o',CQ P Γ a n k S o=Z (r,S',vs,o')/\A6 ϙ S' ⟨fr,h'⟩:=by
 cases b:CQ P Γ a n k S o with
 |none=>rw[b]at h;cases h
 |some r=>
  obtain⟨r1,G,Cc,⟨c1,o1,z1,g1⟩⟩:=r;rw[b]at h;simp only[zMz,WR,zK0,zLE]at h;obtain⟨rfl,rfl,rfl,rfl,rfl,rfl,p⟩:=h;exact⟨G,_,rfl,A6.comp Q σ G p⟩
def JH:O KI->ζ
 | .code _::_=>D
 | .loopN _ _::_=>D
 |_=>T
variable{S':St}{m:E}
def Lo.weaken{b:Code}(e:A6 ϙ S S')(h:Lo P Γ ϖ Ϝ ϙ b Q m S' Y):Lo P Γ ϖ Ϝ ϙ b Q m S Y:=by
 cases m with
 |zero=>exact h.elim
 |succ m=>exact Tr.weaken e h
def BV.le{k:O KI}(e:A6 ϙ S S')(hc:JH k=D)(h:A2 P Γ ϖ Ϝ ϙ Y Q k S'):A2 P Γ ϖ Ϝ ϙ Y Q k S:=by
 unfold JH at hc;split at hc
 ·exact A2.weaken e h ⟨_,_,rfl⟩
 ·exact Lo.weaken e h
 ·cases hc
def A6.frzE(k:E)(S':St)(vs:O Prop)(h:Xs k S=Z (S',vs))(t:BU vs):A6 ϙ S S':=λP Γ N ρ a w R=>
 ⟨ρ,(DZ.frzE k S' vs h t P Γ N ρ a w R).1,(DZ.frzE k S' vs h t P Γ N ρ a w R).2,CA.refl _ _⟩
theorem A6.compE(σ:Θ)(h:Kg σ ϙ (F S.h)=D):A6 ϙ S<|GO σ S:=by
 simp_all[Kg,A6.compact]
def cZ:M DO->ζ
 |some (.iter _)=>T
 |_=>D
variable{h:DH}
def QK(b:h.all cZ=D):QL h:=λk encs f=>by
 have:=zFy.1 b _<|zLU f;cases this
variable{l l0:O DV}{k:E}
def Am.refL(f:h[k]?=Z (Z<|.cells l))(p:PA h l l0):Am h (.ref k 0)<|.fp (F l) λj=>l0.getD j .any:=
 Am.ref f (zI1 _) λj a=>(Um p).2 j a
def Am.fnL{g:E}(p:PA h l l0):Am h (.fn g (F l) λj=>l.getD j .any)<|.fn g (F l) λj=>l0.getD j .any:=by
 rintro P Γ N ρ w v ϗ ⟨s,e,q,hc⟩;exact⟨s,e,q,λj a=>let⟨ϛ,b,c⟩:=hc j a;⟨ϛ,b,(Um p).2 j a P Γ N ρ w ϛ ϗ c⟩⟩
theorem AO.ixI(l:Ξ){n:U}(hm:m=F l)(h:(0:U)<=n/\n<((m:E):U)):AO ((l.map<|DV.int .i64).getD n.toNat .any)<|.int .i64<|H l n.toNat 0:=by
 grind[AO.refl]
variable{o:E}
def AO.mslN{P:E}(h:n=P):AO (.msl k m o n)<|.msl k m o P:=by rw[h];exact AO.refl _
def zFO:DO->ζ
 | .ints _=>D
 | .bools _=>D
 |_=>T
variable{ds:O DV}{f:E}
def ES.snapNew{r:O DV}{o:DO}(h0:ES P Γ f r [] (.msl 0 m 0 n) [Z o] D)(h:DH)(c:PA h ds r)(K:zFO o=D):ES P Γ f ds h (.msl (F h) m 0 n) (h++[Z o]) D:=by
 obtain⟨s,c⟩:=Um c;refine⟨h0.1,λN ρ w args R t=>?_⟩;refine(h0.2 (λ_=>False) [] w args (Tt (λb a=>a.elim) R.gi) ⟨by rw[s];exact t.1,λi hi=>?_⟩).mono ?_
 ·rw[s]at hi;exact AL.out _ (Cz (λb a=>Rl.1 a) [])<|c i hi P Γ N ρ w _ R<|t.2 i hi
 ·rintro e w' ⟨v,rfl,⟨⟨ρ',y,J,Q,g4⟩,V⟩⟩;have z:=V rfl;obtain⟨p,g,G⟩:=y.obj 0 o rfl;have I:∀b,p.foot b->w.heap.size<=b:=λb a=>(Q.grow b ⟨0,o,p,rfl,g,a⟩).resolve_left λ⟨k,o',p',W,_⟩=>by simp at W
  obtain⟨p',cap,S,X,Y,e3,e4⟩:=J;have ep:p'=p:=zBH<|S.symm.trans g;subst ep;refine⟨v,rfl,⟨⟨ρ++[p'],R.snoc z (λb a=>⟨I b a,(y.cel 0 o p' b rfl g a).2.2⟩) ?_,⟨p',cap,by rw[←R.len];simp,X,Y,e3,e4⟩,BD.snoc R z I,λ_ _ h=>Eo h⟩,V⟩⟩;cases o with
  |ints l=>exact Ai.out G rfl λj ϛ _ q=>q
  |bools l=>exact Ai.out G rfl λj ϛ _ q=>q
  |cells l=>cases K
  |arr m n f=>cases K
  |gro m n f=>cases K
  |iter encs=>cases K
  |mo x=>cases K
  |ro l=>cases K
def pJ :∀{ds:O DV},ds.all Fi=D->PA h ds ds
 |[],_=>trivial
 |Ϛ::ds,z=>by
  simp only[zN0,zAx]at z;exact⟨Am.plain z.1,pJ z.2⟩
variable{l':O DV}
def AO.aggL(P:m=F l)(h:PC l l'):AO (.agg m λj=>l.getD j .any)<|.agg m λj=>l'.getD j .any:=by
 subst P;rintro ϕ w ρ v ⟨cs,e,p,hc⟩;exact⟨cs,e,p,λj a=>let⟨ϛ,b,c⟩:=hc j a;⟨ϛ,b,(Yo h).2 j a ϕ w ρ ϛ c⟩⟩
def AO.tupL(P:m=F l)(h:PC l l'):AO (.tup m λj=>l.getD j .any)<|.tup m λj=>l'.getD j .any:=by
 subst P;rintro ϕ w ρ v ⟨cs,e,p,hc⟩;exact⟨cs,e,p,λj a=>let⟨ϛ,b,c⟩:=hc j a;⟨ϛ,b,(Yo h).2 j a ϕ w ρ ϛ c⟩⟩
variable{Ϛ:DV}
def Am.dle{i:DV}(n:Fi Ϛ=D)(z:AO Ϛ i):Am h Ϛ i:=λP Γ N ρ w v ϗ k=>z _ _ _ _<|(Am.nref<|ML n) P Γ N ρ w v ϗ k
def ES.argsLe{m:O DV}{ext:ζ}(h0:ES P Γ f m h Ϛ h' ext)(z:PC ds m):ES P Γ f ds h Ϛ h' ext:=by
 obtain⟨q,z⟩:=Yo z;exact⟨h0.1,λN ρ w args R v=>h0.2 N ρ w args R ⟨by rw[←q];exact v.1,λi hi=>z i Z2 _ _ _ _<|v.2 i Z2⟩⟩
def AO.mse_msl{P:E}(h:0<n)(e:n=P):AO (.mse k m o n)<|.msl k m o P:=by
 subst e;rintro ϕ w ρ v ⟨p,a,cap,b,rfl,c,f,g⟩;obtain⟨rfl,W⟩:=g Z2;exact⟨p,cap,b,rfl,c,f,W⟩
def AO.mse_nil(h:n=0):AO (.mse k m o n)<|.ints []:=by
 subst h;rintro ϕ w ρ v ⟨p,a,cap,hp,rfl,h1,h2,h3⟩;exact⟨a,cap,rfl,zK5 _,zK5 _,λj l=>τ l<|zBT j⟩
theorem zHz(h:(n==0)=T):0<n:=by
 grind
def Nd(k off X:E):DV->DV
 | .msl q m o n=>u (q=k/\m=1/\o=off) (.msl X 1 0 n)<|.msl q m o n
 |Ϛ=>Ϛ
def sk(k off:E)(S:St):M<|St×O Prop:=match S.h.getD k A with
 |some (.ints l)=>Z (⟨S.fr.map<|Nd k off<|F S.h,S.h.set k A++[Z<|.ints<|l.drop off]⟩,[off<=F l])
 |_=>A
theorem A6.rootE(k off:E)(S':St)(vs:O Prop)(h:sk k off S=Z (S',vs))(v:BU vs):A6 ϙ S S':=λP Γ N ρ a w R=>by
 unfold sk at h;split at h
 ·rename_i l G;cases h;have v:=v.1;have g:=getD_some G;obtain⟨p,r,s⟩:=R.hr.obj k _ g;have s:Ai w p (F l) _:=s;obtain⟨I,cs,t,Q,c2,J,c4⟩:=s
  let p':AN:={ p with off:=p.off+off }
  obtain⟨K,y⟩:=R.hr.regrow (o':=.ints<|l.drop off) (p':=p') g r (AV.refl _ _) (λb c=>⟨.inl c,(R.hr.cel k _ p b g r c).2.2⟩) (by
   refine⟨I,cs,t,Q,?_,J,λj hj=>?_⟩
   ·simp only[List.length_drop,p'];omega
   grind)
  have ϐ:BW (MS N S.h ρ) w ρ (MS N (S.h.set k A++[Z<|.ints<|l.drop off])<|ρ++[p']) w<|ρ++[p']:=⟨λ_ _ _ _=>rfl,λb c=>c.elim (λh=>.inl<|.inl h) λh=>(y.grow b h).imp .inr id,λ_ _ h=>Eo h⟩;refine⟨ρ++[p'],⟨K,by simp[R.fr.1],λi hi=>?_⟩,y,λ_ _ _ h=>Eo h⟩;have x:i<F S.fr:=by simpa using hi
  have e:(S.fr.map<|Nd k off<|F S.h).getD i .any=Nd k off (F S.h) (S.fr.getD i .any):=by simp[x]
  show AL _ w ((S.fr.map<|Nd k off<|F S.h).getD i .any) _ _
  rw[e];have r0:=R.fr.2 i x;cases z:S.fr.getD i .any with
  |msl f m o n=>
   rw[z]at r0
   by_cases hc:f=k/\m=1/\o=off
   ·have X:Nd k off (F S.h) (.msl f m o n)=.msl (F S.h) 1 0 n:=by simp only[Nd,zAF hc]
    rw[X];obtain⟨V,W,Y⟩:=hc;rw[V,W,Y]at r0;obtain⟨q,cap,hq,hu,u1,u2,u3⟩:=r0;have eq:q=p:=zBH<|hq.symm.trans r;subst eq;exact⟨p',cap,by rw[←R.hr.len];simp,by rw[hu];simp[p'],u1,u2,by simp only[p'];omega⟩
   ·have X:Nd k off (F S.h) (.msl f m o n)=.msl f m o n:=by simp only[Nd,zJz hc]
    rw[X];exact AL.out _ ϐ r0
  |_=>rw[z]at r0;exact AL.out _ ϐ r0
 ·cases h
def yV(g:DO)(x:W0)(j:E)(S:St):M St:=match x with
 |none=>match S.fr.getD j .any with
  | .nils=>Z ⟨S.fr.set j<|.gr<|F S.h,S.h++[Z g]⟩
  |_=>A
 |some k=>match S.h.getD k A with
  |some (.cells l)=>match l.getD j .any with
   | .nils=>Z ⟨S.fr,S.h.set k (Z<|.cells<|l.set j<|.gr<|F S.h)++[Z g]⟩
   |_=>A
  |_=>A
theorem A6.groE{g:DO}(G:∃m f,g=.gro m 0 f)(x:W0)(j:E)(S':St)(I:Nat.ble ϙ (F S.h)=D)(h:yV g x j S=Z S'):A6 ϙ S S':=λP Γ N ρ a w R=>by
 let q:AN:=⟨0,0,0,.slice A 0 0,λ_=>False⟩
 have y:=R.hr.len;have ϗ:=R.hr.snoc (A0.refl w) (p:=q) (o:=g) (λb n=>n.elim) (by obtain⟨m,f,rfl⟩:=G;exact Or.inl ⟨rfl,rfl,rfl⟩);have ϐ:BW (MS N S.h ρ) w ρ (MS N (S.h++[Z g])<|ρ++[q]) w<|ρ++[q]:=BW.snoc R.hr (A0.refl w) λb n=>n.elim
 have st:BD S.h ρ w (S.h++[Z g]) (ρ++[q]) w:=BD.snoc R.hr (A0.refl w) λb n=>n.elim
 have c:CA ϙ ρ<|ρ++[q]:=λk r=>by
  have:=zKs I
  grind
 have K:∀{ϕ:Ψ} {v:μ},AL ϕ w .nils ρ v->AL ϕ w (.gr<|F S.h) (ρ++[q]) v:=λ{ϕ v} z=>⟨q,_,_,_,by rw[←y];simp,z,z⟩
 have fr:=R.fr.out ϐ;unfold yV at h;split at h
 ·split at h
  ·rename_i t;cases h;refine⟨ρ++[q],⟨ϗ,by simpa using fr.1,λi hi=>?_⟩,st,c⟩;have hi:i<F S.fr:=by simpa using hi
   by_cases e:j=i
   ·subst e;have:=R.fr.2 j hi;rw[t]at this;simpa[hi]using K (AL.out _ (M':=MS N (S.h++[Z g])<|ρ++[q]) ⟨ϐ.blk,ϐ.m,λ_ _ h=>h⟩ this)
   ·simpa[zNj,e]using fr.2 i hi
  ·cases h
 ·rename_i k;split at h
  ·rename_i l r;split at h
   ·rename_i t;cases h;have r:=getD_some r;have J:(S.h++[Z g])[k]?=Z (Z<|.cells l):=Z4
    have Q:=(zLB.1 r).1;have V:S.h.set k (Z<|.cells<|l.set j<|.gr<|F S.h)++[Z g]=(S.h++[Z g]).set k (Z<|.cells<|l.set j<|.gr<|F S.h):=by rw[List.set_append_left _ _ Q]
    rw[V]
    obtain⟨R',W⟩:=DZ.objR (S:=⟨S.fr,S.h++[Z g]⟩) (o':=.cells<|l.set j<|.gr<|F S.h) (a:=a) ⟨ϗ,fr⟩ J λp hp X=>by
     show Ai w p (F<|l.set j<|.gr<|F S.h) _
     rw[zKy];refine Ai.out X rfl λi ϛ hi s=>?_
     by_cases e:j=i
     ·subst e;rw[t]at s;have e:(l.set j<|.gr<|F S.h).getD j .any=.gr (F S.h):=by simp[hi]
      rw[e];exact⟨q,_,_,_,by rw[←y];simp,s,s⟩
     ·have e:(l.set j<|.gr<|F S.h).getD i .any=l.getD i .any:=by simp[zNj,e]
      rw[e];exact s
    exact⟨ρ++[q],R',st.trans W,c⟩
   ·cases h
  ·cases h
end
end
section
def FF(σ:Θ)(b k:E):E:=u (k<F σ) (H σ k 0)<|b+(k-F σ)
def up(σ:Θ)(b:E):DV->DV
 | .ref k j=>.ref (FF σ b k) j
 | .msl k m o n=>.msl (FF σ b k) m o n
 | .mse k m o n=>.mse (FF σ b k) m o n
 | .gr k=>.gr<|FF σ b k
 | .mri k i=>.mri (FF σ b k) i
 | .mp k m i j=>.mp (FF σ b k) m i j
 | .it k=>.it<|FF σ b k
 | .agg m f=>.agg m<|F8 m λj=>up σ b<|f j
 | .tup m f=>.tup m<|F8 m λj=>up σ b<|f j
 | .fn g m c=>.fn g m<|F8 m λj=>up σ b<|c j
 |Ϛ=>Ϛ
def ET(σ:Θ)(b:E):M DO->M DO
 |some (.cells l)=>Z<|.cells<|l.map<|up σ b
 |some (.ro l)=>Z<|.ro<|l.map<|up σ b
 |o=>o
def Fq(ϗ:DH)(σ:Θ)(h':DH):DH:=((θ<|F ϗ).map λk=>match FI σ k with
 |some i=>ET σ (F ϗ)<|h'.getD i A
 |none=>ϗ.getD k A)++(h'.drop<|F σ).map (ET σ<|F ϗ)
variable{σ:Θ}
theorem jh(hn:σ.Nodup){i k:E}(h:σ[i]?=Z k):FI σ k=Z i:=by
 induction σ generalizing i with
 |nil=>simp at h
 |cons x σ ih=>
  unfold FI
  grind
theorem iY{b:E}{x:M DO}{o:DO}(h:ET σ b x=Z o):∃o0,x=Z o0:=by
 cases x with
 |none=>cases h
 |some o0=>exact⟨o0,rfl⟩
section
variable{P:ν}{Γ:A1}
variable{ρ ρ':O AN}{b:E}{w:κ}{ϕ M':Ψ}
theorem iX{σ:Θ}(t:∀b,M' b->ϕ b)(X:∀(k:E) (p:AN),ρ[k]?=Z p->ρ'[FF σ b k]?=Z p):∀(Ϛ:DV) {v:μ},AL ϕ w Ϛ ρ v->AL M' w (up σ b Ϛ) ρ' v:=by
 have low:∀(Ϛ:DV) {v:μ},AL ϕ w Ϛ [] v->AL M' w Ϛ [] v:=λϚ v h=>h.out Ϛ<|Cz t []
 intro Ϛ
 induction Ϛ with
 |any=>intro v _;trivial
 |nils=>intro v h;exact h
 |int k n=>intro v h;exact h
 |bool b=>intro v h;exact h
 |str s=>intro v h;exact h
 |ints l=>grind[AL,up]
 |bools l=>grind[AL,up]
 |sl m n f _=>grind[AL,up]
 |fp m f _=>grind[AL,up]
 |agg m f q=>
  grind[PY,AL,up]
 |tup m f q=>
  grind[PY,AL,up]
 |fn g m c q=>
  grind[PY,AL,up]
 |ref k j=>grind[AL,up]
 |msl k m o n=>grind[AL,up]
 |mp k m i j=>grind[AL,up]
 |it k=>grind[AL,up]
 |cst ϛ=>intro v h;exact h
 |yl l=>intro v h;exact h
 |mse k m o n=>rintro v ⟨p,a,cap,e,r⟩;exact⟨p,a,cap,X k p e,r⟩
 |gr k=>rintro v ⟨p,a,n,cap,e,r⟩;exact⟨p,a,n,cap,X k p e,r⟩
 |mri k i=>rintro v ⟨p,vs,e,r⟩;exact⟨p,vs,X k p e,r⟩
theorem n9{σ:Θ}(t:∀b,M' b->ϕ b)(X:∀(k:E) (p:AN),ρ[FF σ b k]?=Z p->ρ'[k]?=Z p):∀(Ϛ:DV) {v:μ},AL ϕ w (up σ b Ϛ) ρ v->AL M' w Ϛ ρ' v:=by
 have low:∀(Ϛ:DV) {v:μ},AL ϕ w Ϛ [] v->AL M' w Ϛ [] v:=λϚ v h=>h.out Ϛ<|Cz t []
 have unt:∀{m j:E} {f:E->DV} {ϛ:μ},j<m->AL ϕ w (F8 m f j) ρ ϛ->AL ϕ w (f j) ρ ϛ:=λx h=>by rw[im x]at h;exact h
 intro Ϛ
 induction Ϛ with
 |any=>intro v _;trivial
 |nils=>intro v h;exact h
 |int k n=>intro v h;exact h
 |bool b=>intro v h;exact h
 |str s=>intro v h;exact h
 |ints l=>grind[AL,up]
 |bools l=>grind[AL,up]
 |sl m n f _=>grind[AL,up]
 |fp m f _=>grind[AL,up]
 |agg m f q=>
  grind[AL,up]
 |tup m f q=>
  grind[AL,up]
 |fn g m c q=>
  grind[AL,up]
 |ref k j=>grind[AL,up]
 |msl k m o n=>grind[AL,up]
 |mp k m i j=>grind[AL,up]
 |it k=>grind[AL,up]
 |cst ϛ=>intro v h;exact h
 |yl l=>intro v h;exact h
 |mse k m o n=>rintro v ⟨p,a,cap,e,r⟩;exact⟨p,a,cap,X k p e,r⟩
 |gr k=>rintro v ⟨p,a,n,cap,e,r⟩;exact⟨p,a,n,cap,X k p e,r⟩
 |mri k i=>rintro v ⟨p,vs,e,r⟩;exact⟨p,vs,X k p e,r⟩
variable{o o':DO}{p:AN}
theorem zBJ{σ:Θ}(t:∀b,M' b->ϕ b)(hρ:∀(k:E) (p:AN),ρ[k]?=Z p->ρ'[FF σ b k]?=Z p)(K:ET σ b (Z o)=Z o')(h:Bc P ϕ w ρ p o):Bc P M' w ρ' p o':=by
 cases o with
 |cells l=>
  cases K
  show Ai w p (F<|l.map<|up σ b) _
  rw[zKB];refine Ai.out h rfl λj ϛ c a=>?_
  grind[iX]
 |ints l=>grind[Bc,ET]
 |bools l=>grind[Bc,ET]
 |arr m n f=>cases K;exact Ai.out h rfl λj ϛ _ a=>AL.out _ (Cz t []) a
 |gro m n f=>cases K;exact Bc.gr h (λ_=>rfl) λa=>AL.out _ (Cz t []) a
 |iter encs=>
  grind[Bc,ET]
 |ro l=>
  cases K;obtain⟨r,G,e⟩:=h;refine⟨r,λg=>G<|t _ g,?_⟩;rw[zKB];refine Ai.out e rfl λj ϛ c a=>?_
  grind[iX]
 |mo x=>cases K;exact h
theorem zOp{σ:Θ}(t:∀b,M' b->ϕ b)(hρ:∀(k:E) (p:AN),ρ[FF σ b k]?=Z p->ρ'[k]?=Z p)(K:ET σ b (Z o)=Z o')(h:Bc P ϕ w ρ p o'):Bc P M' w ρ' p o:=by
 cases o with
 |cells l=>
  cases K;have h:Ai w p (F<|l.map<|up σ b) _:=h;rw[zKB]at h;refine Ai.out h rfl λj ϛ c a=>?_
  grind[n9]
 |ints l=>grind[Bc,ET]
 |bools l=>grind[Bc,ET]
 |arr m n f=>cases K;exact Ai.out h rfl λj ϛ _ a=>AL.out _ (Cz t []) a
 |gro m n f=>cases K;exact Bc.gr h (λ_=>rfl) λa=>AL.out _ (Cz t []) a
 |iter encs=>
  grind[Bc,ET]
 |ro l=>
  cases K;obtain⟨r,G,e⟩:=h;refine⟨r,λg=>G<|t _ g,?_⟩;have h:Ai w _ (F<|l.map<|up σ b) _:=e;rw[zKB]at h;refine Ai.out h rfl λj ϛ c a=>?_
  grind[n9]
 |mo x=>cases K;exact h
variable{ext:ζ}{h' h:DH}{Ϛ:DV}{ds:O DV}{f:E}
theorem ES.embedX(Fp:ES P Γ f ds h Ϛ h' ext)(σ:Θ)(ϗ:DH)(hn:σ.Nodup)(Ao:∀k∈σ,k<F ϗ)(hl:F σ=F h)(EF:F h<=F h')
 (hh:(σ.map λk=>ϗ.getD k A)=h.map (ET σ<|F ϗ)):(∃fn,P.funcs[f]?=Z fn/\fn.name≠ "runtime.NumGoroutine" /\fn.body.isSome=D)/\
 ∀(N:Ψ) (ρ:O AN) (w:κ) (args:υ μ),A9 P Γ N ϗ ρ w->BJ (MS N ϗ ρ) w ρ (ds.map<|up σ<|F ϗ) args->
  Calls P f args w λe w'=>∃v,e=.returned v/\Cj P Γ N ϗ ρ w ext (up σ (F ϗ) Ϛ) (Fq ϗ σ h') v w'/\AV (λb=>∃i o p,i∈σ/\ϗ[i]?=Z (Z o)/\ρ[i]?=Z p/\p.foot b) w w':=by
 refine⟨Fp.1,λN ρ w args R C4=>?_⟩;obtain⟨ρ0,hρ0⟩:∃ρ0,ρ0=σ.map λk=>ρ.getD k ve:=⟨_,rfl⟩
 have zJh:F ρ0=F σ:=by rw[hρ0];simp
 have gu:∀{i k:E},σ[i]?=Z k->ρ0[i]?=ρ[k]? :=λ{i k} a=>by
  have FP:k<F ρ:=by rw[R.len];exact Ao k<|zLU a
  grind
 have sig:∀{i:E},i<F σ->∃k,σ[i]?=Z k/\FF σ (F ϗ) i=k:=λ{i} hi=>by
  simp_all[FF]
 have WW:∀{i:E} {o:DO},h[i]?=Z (Z o)->∃k o',σ[i]?=Z k/\ϗ[k]?=Z (Z o')/\ET σ (F ϗ) (Z o)=Z o':=λ{i o} hi=>by
  have e:=congrArg (·[i]?) hh;have X:∃o',ET σ (F ϗ) (Z o)=Z o':=by cases o <;> exact⟨_,rfl⟩
  grind
 have objH:∀{i k:E} {o':DO},σ[i]?=Z k->ϗ[k]?=Z (Z o')->∃o,h[i]?=Z (Z o)/\ET σ (F ϗ) (Z o)=Z o':=λ{i k o'} a ho=>by
  have e:=congrArg (·[i]?) hh
  grind[iY]
 obtain⟨q,hN0⟩:∃q:Ψ,q=λb=>N b∨∃k o p,FI σ k=A/\ϗ[k]?=Z (Z o)/\ρ[k]?=Z p/\p.foot b:=⟨_,rfl⟩
 have cm:∀b,MO h ρ0 b->MO ϗ ρ b:=by
  grind[MO]
 have ms0:∀b,MS q h ρ0 b->MS N ϗ ρ b:=by
  grind[MS,MO]
 have ms1:∀b,MS N ϗ ρ b->MS q h ρ0 b:=by
  rintro b (g|⟨k,o,p,s,r,j⟩)
  ·grind[MS]
  ·cases a:FI σ k with
   |none=>exact .inl Z4
   |some i=>
    have hi:=Km a
    grind[MS,MO]
 have dn:∀(k:E) (p:AN),ρ[FF σ (F ϗ) k]?=Z p->ρ0[k]?=Z p:=λk p l=>by
  by_cases a:k<F σ
  ·grind
  ·unfold FF at l;rw[zJz a]at l;have:=(zLB.1 l).1;rw[R.len]at this;omega
 have foreign:∀{b:E},q b->¬MO h ρ0 b:=by
  rintro b g ⟨i,o,p,s,r,j⟩;obtain⟨k,o',G,X,_⟩:=WW s;have l:=(gu G).symm.trans r;rw[hN0]at g;rcases g with g|⟨k',o2,K,W,n,m,q4⟩
  ·exact(R.cel k o' p b X l j).2.1 g
  ·refine R.dis k k' o' o2 p K b ?_ X n l m j q4;rintro rfl;rw[jh hn G]at W;cases W
 have H0:A9 P Γ q h ρ0 w:=by
  refine⟨by rw[zJh,hl],λi o hi=>?_,λi o p b s r j=>?_,λi i' o1 o2 p1 K b Ay s r j g4 g5 g6=>?_,λb g=>R.lt2<|ms0 b<|.inl g,R.gi⟩
  ·obtain⟨k,o',G,X,e3⟩:=WW hi;obtain⟨p,l,hr⟩:=R.obj k o' X
   grind[zOp]
  ·obtain⟨k,o',G,X,e3⟩:=WW s;obtain⟨W,n,m⟩:=R.cel k o' p b X ((gu G).symm.trans r) j
   grind[MO]
  ·obtain⟨k,o',G,X,e3⟩:=WW s;obtain⟨k',o2',n8,n7,e3'⟩:=WW r;refine R.dis k k' o' o2' p1 K b ?_ X n7 ((gu G).symm.trans j) ((gu n8).symm.trans g4) g5 g6;have y:=jh hn G;have I:=jh hn n8
   grind
 refine(Fp.2 q ρ0 w args H0 ⟨by rw[←C4.1];simp,λi hi=>?_⟩).mono ?_
 ·grind[n9,ES,BJ]
 ·rintro e w' ⟨v,rfl,⟨⟨ρ1,s,r,j,g4⟩,g5⟩⟩;have l1:F ρ1=F h':=s.len;obtain⟨ρ',Qa⟩:∃ρ',ρ'=ρ++ρ1.drop (F σ):=⟨_,rfl⟩
  have at1:∀{i k:E},σ[i]?=Z k->ρ1[i]?=ρ[k]? :=λ{i k} a=>by
   grind
  have OE:∀{k:E},k<F ϗ->ρ'[k]?=ρ[k]? :=λ{k} a=>by rw[Qa,zLb<|by rw[R.len];exact a]
  have upρ:∀(k:E) (p:AN),ρ1[k]?=Z p->ρ'[FF σ (F ϗ) k]?=Z p:=λk p l=>by
   by_cases a:k<F σ
   ·grind
   ·unfold FF;rw[zJz a,Qa,zLZ (by rw[R.len];omega),List.getElem?_drop,R.len]
    simp_all
  have zJf:F (Fq ϗ σ h')=F ϗ+(F h'-F σ):=by simp[Fq]
  have S:∀{k:E} {o':DO},(Fq ϗ σ h')[k]?=Z (Z o')->(k<F ϗ/\FI σ k=A/\ϗ[k]?=Z (Z o')/\ρ'[k]?=ρ[k]?)∨∃i o,h'[i]?=Z (Z o)/\ET σ (F ϗ) (Z o)=Z o'/\ρ'[k]?=ρ1[i]?/\k=FF σ (F ϗ) i:=by
   intro k o' a
   by_cases IC:k<F ϗ
   ·unfold Fq at a;rw[zLb (by simpa using IC),zM2,List.getElem?_range IC]at a;simp only[zMz,zK0]at a;split at a
    ·grind[Km,iY,FF]
    grind
   ·unfold Fq at a;rw[zLZ Z7,zM2,List.getElem?_drop]at a;simp only[zKB,zRv]at a;cases V:h'[F σ+(k-F ϗ)]? with
    |none=>rw[V]at a;cases a
    |some x=>
     rw[V]at a;have a:ET σ (F ϗ) x=Z o':=zBH a;obtain⟨o0,e0⟩:=iY a;subst e0;refine .inr ⟨F σ+(k-F ϗ),o0,V,a,?_,?_⟩
     ·rw[Qa,zLZ (by rw[R.len];omega),List.getElem?_drop,R.len]
     simp_all[FF,zJz]
  have back:∀{k:E} {o:DO},FI σ k=A->ϗ[k]?=Z (Z o)->(Fq ϗ σ h')[k]?=Z (Z o):=by
   grind[Fq]
  have msE:∀b,MS N (Fq ϗ σ h') ρ' b->MS q h' ρ1 b:=by
   rintro b (g|⟨k,o',p,W,n,m⟩)
   ·grind[MS]
   grind[MS,MO]
  have Y:∀b,MO (Fq ϗ σ h') ρ' b->MO ϗ ρ b∨w.heap.size<=b:=by
   rintro b ⟨k,o',p,W,n,m⟩;rcases S W with⟨y,I,a3,a4⟩|⟨i,o,y,I,a3,a4⟩
   ·exact .inl ⟨k,o',p,a3,a4.symm.trans n,m⟩
   ·exact(j.grow b ⟨i,o,p,y,a3.symm.trans n,m⟩).imp (cm b) id
  have pl:∀(k:E) (p:AN),ρ[k]?=Z p->ρ'[k]?=Z p:=λk p l=>by
   grind
  have ϐ:BW (MS N ϗ ρ) w ρ (MS N (Fq ϗ σ h') ρ') w' ρ':=
   ⟨λb g hm _=>j.upd.block b g λV=>hm<|.inr<|cm b V,λb g=>g.elim (λg=>.inl<|.inl g) λg=>(Y b g).imp .inr id,pl⟩
  refine⟨v,rfl,⟨⟨ρ',⟨?_,λk o' a=>?_,λk o' p b W n m=>?_,λk k' o1 o2 p1 K b Ay W n m q4 q5 q6=>?_,λb g=>⟨zI0 (R.nlt b g).1 j.upd.size,(R.nlt b g).2⟩,s.gi⟩,iX msE upρ _ r,⟨j.upd.mono λb _ g=>cm b g,Y⟩,pl⟩,g5⟩,j.upd.mono λb _ ⟨i,o,p,W,n,m⟩=>?_⟩
  ·rw[zJf,Qa];simp[R.len,l1]
  ·rcases S a with⟨y,I,a3,a4⟩|⟨i,o,y,I,a3,a4⟩
   ·obtain⟨p,l,hr⟩:=R.obj k o' a3;refine⟨p,a4.trans l,hr.out ϐ j.upd (λb g=>.inr<|cm b g) λb _ hf hs=>?_⟩
    grind
   ·obtain⟨p,l,hr⟩:=s.obj i o y
    grind[zBJ]
  ·rcases S W with⟨y,I,a3,a4⟩|⟨i,o,y,I,a3,a4⟩
   ·have l:=a4.symm.trans n;obtain⟨Q,c2,c,t,z,J⟩:=R.cel k o' p b a3 l m;refine⟨Q,c2,c,t,z,(j.upd.block b (zAy.1 J).1 λV=>?_).trans J⟩
    grind
   ·obtain⟨Q,c2,J⟩:=s.cel i o p b y (a3.symm.trans n) m
    grind
  ·rcases S W with⟨y,I,a3,a4⟩|⟨i,o,y,I,a3,a4⟩
   ·rcases S n with⟨Q,c2,J,c4⟩|⟨i',o',Q,c2,J,c4⟩
    ·exact R.dis k k' o1 o2 p1 K b Ay a3 J (a4.symm.trans m) (c4.symm.trans q4) q5 q6
    ·exact(s.cel i' o' K b Q (J.symm.trans q4) q6).2.1 Z4
   ·rcases S n with⟨Q,c2,J,c4⟩|⟨i',o',Q,c2,J,c4⟩
    ·exact(s.cel i o p1 b y (a3.symm.trans m) q5).2.1 Z4
    ·refine s.dis i i' o o' p1 K b ?_ y Q (a3.symm.trans m) (J.symm.trans q4) q5 q6
     grind
  grind
def ES.embed(a:ES P Γ f ds h Ϛ h' ext)(σ:Θ)(ϗ:DH)(n:σ.Nodup)(q:∀k∈σ,k<F ϗ)(b:F σ=F h)(X:F h<=F h')
 (s:(σ.map λk=>ϗ.getD k A)=h.map (ET σ<|F ϗ)):ES P Γ f (ds.map<|up σ<|F ϗ) ϗ (up σ (F ϗ) Ϛ) (Fq ϗ σ h') ext:=
 let⟨c,i⟩:=a.embedX σ ϗ n q b X s
 ⟨c,λN ρ w args R j=>(i N ρ w args R j).mono λ_ _ ⟨v,e,g,_⟩=>⟨v,e,g⟩⟩
def Oz(σ:Θ)(n l l':E):ζ:=C σ.Nodup&&σ.all (λk=>decide (k<n))&&C (F σ=l)&&C (l<=l')
def ES.embedB(g:ES P Γ f ds h Ϛ h' ext)(σ:Θ)(ϗ:DH)(b:Oz σ (F ϗ) (F h) (F h')=D)(s:(σ.map λk=>ϗ.getD k A)=h.map (ET σ<|F ϗ))
 {a:O DV} {p:DV} {c:DH} (e:(ds.map<|up σ<|F ϗ,up σ (F ϗ) Ϛ,Fq ϗ σ h')=(a,p,c)):ES P Γ f a ϗ p c ext:=by
 simp only[Oz,zAx,zK9,zFy]at b;cases e;exact g.embed σ ϗ b.1.1.1 (λk i=>b.1.1.2 k i) b.1.2 b.2 s
def ES.embedU(g:ES P Γ f ds h Ϛ h' ext)(σ:Θ)(ϗ:DH)(k:E)(a:Oz σ (F ϗ) (F h) (F h')=D)(c:σ.all (λj=>Nat.ble k j)=D)(s:(σ.map λk=>ϗ.getD k A)=h.map (ET σ<|F ϗ)):Ro P Γ f (ds.map<|up σ<|F ϗ) ϗ (up σ (F ϗ) Ϛ) (Fq ϗ σ h') k:=by
 simp only[Oz,zAx,zK9,zFy]at a;obtain⟨l,m⟩:=g.embedX σ ϗ a.1.1.1 (λk c=>a.1.1.2 k c) a.1.2 a.2 s;refine⟨l,λN ρ w args R n=>(m N ρ w args R n).mono ?_⟩;rintro e w' ⟨v,e,⟨q,g2⟩,x⟩;exact⟨v,e,⟨q,λh=>by cases h⟩,x.mono λb _ ⟨i,o,p,W,r⟩=>⟨i,o,p,zKs<|zFy.1 c i W,r⟩⟩
end
end
abbrev zM3:=@of_decide_eq_true
abbrev zRG:=@List.getElem?_take
section
section
variable{P:ν}{Γ:A1}
variable{ο Ϝ:κ}{ρ:O AN}{h:DH}{Y G:Ψ}
def A9.foreign{r:Ψ}(ϗ:A9 P Γ Y h ρ ο)(x:AV G ο Ϝ)(y:∀b,G b->Y b/\Γ.ng<=b)(f:∀b,r b->Y b∨ο.heap.size<=b)(a:∀b,r b->b<Ϝ.heap.size/\Γ.ng<=b):A9 P Γ r h ρ Ϝ:=by
 have ϐ:BW (MS Y h ρ) ο ρ (MS r h ρ) Ϝ ρ:=⟨λb q l _=>x.block b q λe=>l<|.inl (y b e).1,λb a=>a.elim (λh=>(f b h).imp .inl id) λh=>.inl<|.inr h,λ_ _ h=>h⟩;refine⟨ϗ.len,λk o g=>?_,λk o p b m n s=>?_,ϗ.dis,a,Γ.st _ _ ϗ.gi<|x.mono λi _ e=>(y i e).2⟩
 ·obtain⟨p,w,v⟩:=ϗ.obj k o g;exact⟨p,w,v.out ϐ x (λb a=>.inl (y b a).1) λb _ I K=>(ϗ.cel k o p b g w I).2.1 (y b K).1⟩
 ·obtain⟨Q,j,c,t,z,J⟩:=ϗ.cel k o p b m n s;have q:=(zAy.1 J).1;exact⟨Q,λN=>(f b N).elim j Z2,c,t,z,(x.block b q λe=>j (y b e).1).trans J⟩
def BW.foreign{r:Ψ}(x:AV G ο Ϝ)(y:∀b,G b->Y b/\Γ.ng<=b)(i:∀b,r b->Y b∨ο.heap.size<=b):BW (MS Y h ρ) ο ρ (MS r h ρ) Ϝ ρ:=
 ⟨λb q P _=>x.block b q λa=>P<|.inl (y b a).1,λb c=>c.elim (λh=>(i b h).imp .inl id) λh=>.inl<|.inr h,λ_ _ h=>h⟩
def I2(fr:O DV)(K:O Tmp)(x:O DV):O DV:=(K.zip x).foldl (λt q=>t.set q.1 q.2) fr
variable{w:κ}{ϕ:Ψ}
def rh :∀(K:O Tmp) (x:O DV) (v:O μ) {fr:O DV} {t:υ μ},F x=F v->(∀j,j<F x->AL ϕ w (x.getD j .any) ρ (v.getD j undef))->BJ ϕ w ρ fr t->
 BJ ϕ w ρ (I2 fr K x) ((K.zip v).foldl (λt (q:Tmp×μ)=>t.setIfInBounds q.1 q.2) t)
 |[],_,_,_,_,_,_,h=>h
 |_::_,[],[],_,_,_,_,h=>h
 |p::K,Ϛ::x,ϛ::v,_,_,a,i,h=>rh K x v (Nat.succ.inj a) (λj l=>i (j+1)<|Nat.succ_lt_succ l)<|h.set p<|i 0<|Nat.succ_pos _
variable{W:κ}{R:Ψ}
theorem YV.rep{ds:O DV}{args:υ μ}(h:YV ds R W args)(t:∀b,ϕ b->b<W.heap.size/\¬R b)(ρ:O AN):∀j,j<F ds->AL ϕ W (ds.getD j .any) ρ (args.toList.getD j undef):=λj l=>by
 have e:args.toList.getD j undef=args.getD j undef:=by simp_all
 rw[e];exact(h.2 j l).out _ ⟨λ_ _ _ _=>rfl,λb a=>.inl<|t b a,λk p f=>by simp at f⟩
def Ce(K:E):DV->ζ
 | .ref k _=>decide (k<K)
 | .msl k _ _ _=>decide (k<K)
 | .mse k _ _ _=>decide (k<K)
 | .gr k=>decide (k<K)
 | .mri k _=>decide (k<K)
 | .mp k _ _ _=>decide (k<K)
 | .it k=>decide (k<K)
 | .agg m f=>(θ m).all λj=>Ce K<|f j
 | .tup m f=>(θ m).all λj=>Ce K<|f j
 | .fn _ m f=>(θ m).all λj=>Ce K<|f j
 |_=>D
variable{K:E}
theorem nX{α:Type}{l:O α}{k:E}{x:α}(hk:k<K)(h:l[k]?=Z x):(l.take K)[k]?=Z x:=Z4
theorem AL.take :∀(Ϛ:DV) {ρ:O AN} {v:μ},Ce K Ϛ=D->AL ϕ w Ϛ ρ v->AL ϕ w Ϛ (ρ.take K) v:=by
 intro Ϛ
 induction Ϛ with
 |ref k j=>simp_all[Ce,AL]
 |msl k m off n=>grind[Ce,AL]
 |mp k m i j=>simp_all[Ce,AL]
 |it k=>simp_all[Ce,AL]
 |agg m f o=>
  grind[Ce,AL]
 |tup m f o=>
  grind[Ce,AL]
 |fn g m f o=>
  grind[Ce,AL]
 |yl l=>rintro ρ v _ h;exact h
 |cst ϛ=>rintro ρ v _ h;exact h
 |mse k m off n=>rintro ρ v c ⟨p,a,cap,h,e⟩;exact⟨p,a,cap,nX (zM3 c) h,e⟩
 |gr k=>rintro ρ v c ⟨p,a,n,cap,h,e⟩;exact⟨p,a,n,cap,nX (zM3 c) h,e⟩
 |mri k i=>rintro ρ v c ⟨p,vs,h,e⟩;exact⟨p,vs,nX (zM3 c) h,e⟩
 |any=>rintro ρ v _ h;trivial
 |nils=>rintro ρ v _ h;exact h
 |int k n=>rintro ρ v _ h;exact h
 |bool b=>rintro ρ v _ h;exact h
 |str s=>rintro ρ v _ h;exact h
 |ints l=>rintro ρ v _ h;exact h
 |bools l=>rintro ρ v _ h;exact h
 |sl m n f=>rintro ρ v _ h;exact h
 |fp m f=>rintro ρ v _ h;exact h
variable{fr:O DV}
theorem BJ.take{t:υ μ}(h:BJ ϕ w ρ fr t)(hb:fr.all (Ce K)=D):BJ ϕ w (ρ.take K) fr t:=by
 grind[AL.take,BJ]
def BW.weak{k:Ψ}{M':Ψ}{w':κ}{ρ':O AN}(h:BW k w ρ M' w' ρ')(t:∀b,k b->ϕ b):BW ϕ w ρ M' w' ρ':=
 ⟨λb q n=>h.blk b q λi=>n<|t b i,λb a=>(h.m b a).imp (t b) id,h.pl⟩
structure RI(K:E)(P:ν)(Γ:A1)(N:Ψ)(h0:DH)(ρ0:O AN)(w0:κ)(G R:Ψ)(W:κ)(h:DH)(ρ:O AN):Prop where
 hr:A9 P Γ (λb=>N b∨G b) h ρ W
 upd:AV (MO h0 ρ0) w0 W
 grow:∀b,MO h ρ b->MO h0 ρ0 b∨w0.heap.size<=b
 g:∀b,G b->Γ.ng<=b/\(MO h0 ρ0 b∨w0.heap.size<=b)
 r:∀b,R b->¬N b/\¬MO h ρ b
 kept:CA K ρ0 ρ
variable{ρ0:O AN}{h0:DH}{N:Ψ}
def RI.off(hR:RI K P Γ N h0 ρ0 w G R W h ρ):∀b,MO h ρ b->b<W.heap.size/\¬N b/\¬(G b∨R b):=λb a=>by
 obtain⟨k,o,p,f,g,i⟩:=id a;obtain⟨_,e,c,_,_,J⟩:=hR.hr.cel k o p b f g i;exact⟨(zAy.1 J).1,λh=>e<|.inl h,λh=>h.elim (λh=>e<|.inr h) λh=>(hR.r b h).2 a⟩
theorem RI.stable(Cv:Γ.ng<=w.heap.size)(a:∀b,N b->b<w.heap.size/\¬MO h0 ρ0 b):DJ λG R W=>RI K P Γ N h0 ρ0 w G R W h ρ:=λG R G' R' ο Ϝ hR x o k _ _ e=>by
 have hs:w.heap.size<=ο.heap.size:=hR.upd.size;refine⟨hR.hr.foreign x (λb hx=>⟨.inr hx,(hR.g b hx).1⟩) (λb hx=>?_) λb hx=>?_,hR.upd.comp x λi hi hx=>(hR.g i hx).2.resolve_right Z2,hR.grow,λb hx=>?_,λb hx=>?_,hR.kept⟩
 ·grind
 ·rcases hx with hx|hx
  ·exact⟨zI0 (hR.hr.nlt b<|.inl hx).1 x.size,(hR.hr.nlt b<|.inl hx).2⟩
  ·exact⟨e b<|.inl hx,(o b hx).elim (λh=>(hR.g b h).1) λh=>Z2⟩
 ·rcases o b hx with hx|hx
  ·exact hR.g b hx
  grind
 ·rcases k b hx with hx|hx|hx
  ·exact hR.r b hx
  ·exact⟨λn=>(hR.g b hx).2.elim (a b n).2 (by have:=(a b n).1;omega),λc=>(hR.off b c).2.2<|.inl hx⟩
  ·exact⟨λn=>by have:=(a b n).1;omega,λc=>by have:=(hR.off b c).1;omega⟩
theorem RI.outl{o:Ψ}(R:RI K P Γ N h0 ρ0 w G o W h ρ):BW (MS N h0 ρ0) w (ρ0.take K) (MS (λb=>N b∨G b) h ρ) W ρ:=
 ⟨λb q a _=>R.upd.block b q λi=>a<|.inr i,λb hb=>by
  rcases hb with(hb|hb)|hb
  ·exact .inl<|.inl hb
  ·exact(R.g b hb).2.imp .inr id
  ·exact(R.grow b hb).imp .inr id,λk p f=>by
  rw[zRG]at f
  by_cases e:k<K
  ·rw[zAF e]at f;exact R.kept k p e f
  grind⟩
def Mu:Exit->M Code
 | .ret=>Z .ret
 | .exit id=>Z<|.exit id
 |_=>A
def PF(ϙ:E)(J:DH->Prop)(Jx:Exit->DH->Prop)(e:Exit)(S:St):Prop:=∃c,A6 ϙ S c/\((e=.normal/\J c.h)∨((Mu e).isSome=D/\Jx e c.h))
def Yr(P:ν)(Γ:A1)(fr:O DV)(K:O Tmp)(a p:Code)(ϙ:E)(J:E->DH->Prop)(Jx:Exit->DH->Prop)(encs:O<|O DV):Prop:=∀(l Ϝ:E) (Y:BR P Γ ϙ) (i:E) (x:O DV) (h:DH),encs[i]?=Z x->J i h->Tr P Γ (Fence.wide.inRound l) (Z Ϝ) ϙ Y a ⟨I2 fr K x,h⟩ (PV (λS' s=>s=Y/\∀b:BR P Γ ϙ,Tr P Γ (Fence.wide.inRound l) (Z Ϝ) ϙ b p S'<|stay b<|PF ϙ (J<|i+1) Jx) λ_ _ _=>False)
def zRH(ϙ:E)(J:DH->Prop)(Jx:Exit->DH->Prop)(k:O PanicEntry->DH->Prop)(e:Exit)(S:St):Prop:=PF ϙ J Jx e S∨∃c a,e=.panic c/\A6 ϙ S a/\QL a.h/\k c a.h
def zAt(P:ν)(Γ:A1)(fr:O DV)(K:O Tmp)(a p:Code)(ϙ:E)(J:E->DH->Prop)(Jx:Exit->DH->Prop)(k:O PanicEntry->DH->Prop)(encs:O<|O DV):Prop:=∀(l Ϝ:E) (Y:BR P Γ ϙ) (i:E) (x:O DV) (h:DH),encs[i]?=Z x->J i h->Tr P Γ (Fence.wide.inRound l) (Z Ϝ) ϙ Y a ⟨I2 fr K x,h⟩ (PV (λS' s=>s=Y/\∀b:BR P Γ ϙ,Tr P Γ (Fence.wide.inRound l) (Z Ϝ) ϙ b p S'<|stay b<|zRH ϙ (J<|i+1) Jx k) λ_ _ _=>False)
variable{encs:O (O DV)}{Jx:Exit->DH->Prop}{J:E->DH->Prop}
def Yr.p{K:O Tmp}{a b:Code}{ϙ:E}(k:Yr P Γ fr K a b ϙ J Jx encs)(f:O PanicEntry->DH->Prop):zAt P Γ fr K a b ϙ J Jx f encs:=λl Ϝ Y i x h g j=>by
 refine Tr.mono (k l Ϝ Y i x h g j) λe n Y2 I=>?_
 cases e with
 |normal=>exact⟨I.1,λr=>Tr.mono (show Tr P Γ (Fence.wide.inRound l) (Z Ϝ) ϙ r b n (stay r<|PF ϙ (J<|i+1) Jx)from I.2 r) λe S3 Y3 m=>⟨m.1,.inl m.2⟩⟩
 |ret=>exact I.elim
 |exit id=>exact I.elim
 |goto t=>exact I.elim
 |panic c=>exact I.elim
 |outgrown=>exact I.elim
abbrev RJ(P:ν)(Γ:A1)(N:Ψ)(h0:DH)(ρ:O AN)(w:κ)(KK:E)(J:E->DH->Prop)(i:E)(G R:Ψ)(W:κ):Prop:=∃h ρ',J i h/\RI KK P Γ N h0 ρ w G R W h ρ'
abbrev RX(P:ν)(Γ:A1)(N:Ψ)(h0:DH)(ρ:O AN)(w:κ)(KK:E)(Jx:Exit->DH->Prop)(c:Code)(G R:Ψ)(W:κ):Prop:=∃e,Mu e=Z c/\∃h ρ',Jx e h/\RI KK P Γ N h0 ρ w G R W h ρ'
abbrev RPn(P:ν)(Γ:A1)(N:Ψ)(h0:DH)(ρ:O AN)(w:κ)(KK:E)(Jp:O PanicEntry->DH->Prop)(c:O PanicEntry)(G R:Ψ)(W:κ):Prop:=∃h ρ',Jp c h/\RI KK P Γ N h0 ρ w G R W h ρ'
variable{KK:E}
def RI.shut{x:κ}(hR:RI KK P Γ N h0 ρ0 w G R W h ρ)(hi:QL h){Ϝ:E}(b:Γ.ng<=w.heap.size)(k:w.heap.size<=Ϝ)(p:KY Ϝ W x):RI KK P Γ N h0 ρ0 w G R x h ρ:=
 ⟨(Ad.shut (S:=⟨[],h⟩) (a:={ tmps:=#[],defers:=[] }) ⟨hR.hr,rfl,λi hi=>τ hi<|zBT i⟩ hi (zIX b k) p).hr,hR.upd.comp p λi hi c=>τ c.1 Z2,hR.grow,hR.g,hR.r,hR.kept⟩
theorem jv{S:St}{a:Act}(Q:Ad P Γ N S ρ a w)(hN:∀b,N b->b<w.heap.size/\¬MO h0 ρ b)(hh:∀b,MO h0 ρ b->MO S.h ρ b){ps:υ Tmp}{n V:Code}{Jp:O PanicEntry->DH->Prop}(C3:S.fr.all (Ce KK)=D)
 (DX:zAt P Γ S.fr ps.toList n V KK J Jx Jp encs) (l:E):Yq P YV encs ps n V a l (RJ P Γ N h0 ρ w KK J) (RX P Γ N h0 ρ w KK Jx)<|RPn P Γ N h0 ρ w KK Jp:=by
 rintro G R i x args W q hE ⟨h,ρ1,hJ,hR⟩ hS hl Ez;have Cv:Γ.ng<=w.heap.size:=Γ.lo _ Q.hr.gi
 have hM:∀{h:DH} {ρ1:O AN} {W:κ},RI KK P Γ N h0 ρ w G R W h ρ1->∀b,MS (λb=>N b∨G b) h ρ1 b->b<W.heap.size/\¬R b:=λhR b hb=>by
  rcases hb with(hb|hb)|hb
  ·exact⟨(hR.hr.nlt b<|.inl hb).1,λh=>(hR.r b h).1 hb⟩
  ·exact⟨(hR.hr.nlt b<|.inr hb).1,hS.dis b hb⟩
  ·exact⟨(hR.off b hb).1,λh=>(hR.off b hb).2.2<|.inr h⟩
 have Md:BW (MS N S.h ρ) w (ρ.take KK) (MS (λb=>N b∨G b) h ρ1) W ρ1:=hR.outl.weak λb hb=>hb.imp id<|hh b
 have fC:BJ (MS (λb=>N b∨G b) h ρ1) W ρ1 (I2 S.fr ps.toList x)<|(ps.zip args).foldl (λt (p,v)=>t.setIfInBounds p v) a.tmps:=by
  have:=rh ps.toList x args.toList (by simpa using hE.1) (hE.rep (hM hR) ρ1)<|(Q.fr.take C3).out Md
  grind[Array.toList_zip]
 have step:∀{G R:Ψ} {W o:κ} {h h':DH} {ρ1 ρ2:O AN},RI KK P Γ N h0 ρ w G R W h ρ1->(∀b,R b->b<W.heap.size)->A9 P Γ (λb=>N b∨G b) h' ρ2 o->BD h ρ1 W h' ρ2 o->CA KK ρ1 ρ2->RI KK P Γ N h0 ρ w G R o h' ρ2:=by
  intro G R W o h h' ρ1 ρ2 hR Ao Cg st hk;have hs:=hR.upd.size;exact⟨Cg,hR.upd.comp st.upd λb hb s=>(hR.grow b s).resolve_right Z2,λb hb=>(st.grow b hb).elim (hR.grow b) λh=>.inr Z2,hR.g,λb hb=>⟨(hR.r b hb).1,λs=>(st.grow b s).elim (hR.r b hb).2 (by have:=Ao b hb;omega)⟩,hR.kept.trans hk⟩
 have yB:∀b,R b->b<W.heap.size:=λb h=>hS.lt b<|.inr h
 have bd:Bd (Fence.wide.inRound l) (Z W.heap.size) W:=⟨λb e=>by cases e;exact zI1 _,λl' e=>by cases e;exact hl⟩;refine zNQ (DX l W.heap.size (SL P Γ KK (λb=>N b∨G b) h ρ1 W) i x h q hJ _ ρ1 _ W ⟨hR.hr,fC⟩ ⟨rfl,BD.refl _ _ _,CA.refl _ _⟩ trivial bd) ?_;rintro e a1 W1 ⟨S',ρ2,N2,Y2,X,h2,h3,h4,_⟩;cases e with
 |normal=>
  obtain⟨rfl,X⟩:=X;obtain⟨rfl,h3,h5⟩:=h3;refine⟨λG' R' o=>RI KK P Γ N h0 ρ w G' R' o S'.h ρ2/\BJ (MS (λb=>N b∨G' b) S'.h ρ2) o ρ2 S'.fr a1.tmps/\Ef W.heap.size a1.defers o/\W1.heap.size<=o.heap.size/\(∀b,G' b->b<W.heap.size∨W1.heap.size<=b)/\(∀Ϛ∈a1.defers,∀ϒ,Ϛ.target=.collected ϒ->ϒ<W1.heap.size)/\(∀b,R' b->b<o.heap.size),?_,h3.upd.mono λb _ s=>(hR.off b s).2.2,⟨step hR yB h2.hr h3 h5,h2.fr,h4,zI1 _,λb hg=>.inl (hR.hr.nlt b<|.inr hg).1,λϚ hd ϒ ht=>Ef.lt h4 hd ht,λb hb=>zI0 (yB b hb) h3.upd.size⟩,?_⟩
  ·rintro G1 R1 G2 R2 ο Ϙ ⟨Y,q2,q3,q4,q5,q6,q7⟩ hu hg hr Im hd hb;have nI:=RI.stable Cv hN _ _ _ _ _ _ Y hu hg hr Im hd hb;refine⟨nI,q2.out<|BW.foreign (Γ:=Γ) hu (λb q=>⟨.inr q,(Y.g b q).1⟩) λb q=>?_,?_,zIX q4 hu.size,λb q=>(hg b q).elim (q5 b) λh=>.inr Z2,q6,λb h=>hb b<|.inr h⟩
   ·grind
   ·have go:∀{ds:O Deferred},Ef W.heap.size ds ο->(∀Ϛ∈ds,∀ϒ,Ϛ.target=.collected ϒ->ϒ<W1.heap.size)->Ef W.heap.size ds Ϙ:=by
     intro ds
     induction ds with
     |nil=>intros;trivial
     |cons Ϛ ds ih=>
      rintro⟨ϒ,f,r2,m,r4,r5⟩ Ao;have hD:ϒ<W1.heap.size:=Ao Ϛ Z3 ϒ (by rw[f]);refine⟨ϒ,f,r2,(hu.block ϒ (zAy.1 m).1 λq=>?_).trans m,r4,ih r5 λd' Qr=>Ao d'<|by simp[Qr]⟩
      grind
    exact go q3 q6
  ·rintro W2 ⟨Y,q2,q3,q4,q5,q6,q7⟩ Ch;have bd2:Bd (Fence.wide.inRound l) (Z W.heap.size) W2:=⟨λb e=>by cases e;exact zIX h3.upd.size q4,λl' e=>by cases e;exact Ch⟩;refine zNQ (X (SL P Γ KK (λb=>N b∨G b) S'.h ρ2 W2) _ ρ2 a1 W2 ⟨Y.hr,q2⟩ ⟨rfl,BD.refl _ _ _,CA.refl _ _⟩ q3 bd2) ?_;rintro e a3 z ⟨S3,ρ3,N3,Y3,f,r2,m,r4,_⟩
   have K:∀e,(SL P Γ KK (λb=>N b∨G b) S'.h ρ2 W2).I N3 S3.h ρ3 z->PF KK (J<|i+1) Jx e S3->AV (λk=>¬(G k∨R k)) W2 z/\((e=.normal/\RJ P Γ N h0 ρ w KK J (i+1) G R z)∨((Mu e).isSome=D/\∃h ρ',Jx e h/\RI KK P Γ N h0 ρ w G R z h ρ')):=by
    rintro e r0 ⟨S4,B2,hJ4⟩;obtain⟨rfl,m,r5⟩:=r0;obtain⟨ρ4,R4,s4,k4⟩:=B2 P Γ _ ρ3 a3 z r2;have dt:=step Y q7 R4.hr (m.trans s4)<|r5.trans k4;exact⟨m.upd.mono λb _ s=>(Y.off b s).2.2,hJ4.imp (λ⟨x,y⟩=>⟨x,S4.h,ρ4,y,dt⟩) λ⟨x,y⟩=>⟨x,S4.h,ρ4,y,dt⟩⟩
   have Ey:∀{e c},Mu e=Z c->(SL P Γ KK (λb=>N b∨G b) S'.h ρ2 W2).I N3 S3.h ρ3 z->PF KK (J<|i+1) Jx e S3->AV (λk=>¬(G k∨R k)) W2 z/\RX P Γ N h0 ρ w KK Jx c G R z:=λhe m f=>by
    obtain⟨o1,j⟩:=K _ m f;rcases j with⟨rfl,_⟩|⟨_,j⟩
    ·cases he
    ·exact⟨o1,_,he,j⟩
   cases e with
   |normal=>
    obtain⟨rfl,f⟩:=f;obtain⟨o1,j⟩:=K _ m<|f.resolve_right Z4;rcases j with⟨_,j⟩|⟨j,_⟩
    ·exact⟨o1,j⟩
    ·cases j
   |ret=>obtain⟨rfl,f⟩:=f;exact Ey rfl m (f.resolve_right Z4)
   |exit id=>obtain⟨rfl,f⟩:=f;exact Ey rfl m (f.resolve_right Z4)
   |goto t=>
    obtain⟨rfl,f⟩:=f;obtain⟨o1,j⟩:=K _ m<|f.resolve_right Z4;rcases j with⟨j,_⟩|⟨j,_⟩ <;> cases j
   |panic c=>
    obtain⟨rfl,f⟩:=f;rcases f with f|⟨c',S4,he,B2,Ql,hjp⟩
    ·obtain⟨o1,j⟩:=K _ m f;rcases j with⟨j,_⟩|⟨j,_⟩ <;> cases j
    ·cases he;obtain⟨rfl,m,r5⟩:=m;obtain⟨ρ4,R4,s4,k4⟩:=B2 P Γ _ ρ3 a3 z r2;have dt:=step Y q7 R4.hr (m.trans s4)<|r5.trans k4;refine⟨W.heap.size,r4,λW4 JL=>⟨(m.upd.mono λb _ s=>(Y.off b s).2.2).comp JL λk _ q hgr=>?_,S4.h,ρ4,hjp,dt.shut Ql Cv hR.upd.size JL⟩⟩;have:=hS.lt k hgr;omega
   |outgrown=>exact f.elim
 |ret=>exact X.elim
 |exit id=>exact X.elim
 |goto t=>exact X.elim
 |panic c=>exact X.elim
 |outgrown=>exact X.elim
section
variable{N:Ψ}{S:St}{ρ:O AN}{a:Act}{w:κ}{G R:Ψ}{W:κ}{h h0:DH}{ρ':O AN}{KK:E}
def RI.hrel(hR:RI KK P Γ N h0 ρ w G R W h ρ'):A9 P Γ N h ρ' W:=
 hR.hr.foreign (G:=λ_=>False) (AV.refl _ _) (λ_ h=>h.elim) (λb a=>.inl<|.inl a) λb a=>hR.hr.nlt b<|.inl a
def RI.frame(hR:RI KK P Γ N h0 ρ w G R W h ρ')(Q:Ad P Γ N S ρ a w)(s:∀b,MO h0 ρ b->MO S.h ρ b)(t:S.fr.all (Ce KK)=D):BJ (MS N h ρ') W ρ' S.fr a.tmps:=
 ((Q.fr.take t).out<|hR.outl.weak λb c=>c.imp id<|s b).out (Cz (λb c=>c.imp .inl id) ρ')
end
variable{g:Operand}{S:St}{ϙ:E}{ϖ:Fence}
theorem Tr.range(KB:ϖ=η∨∃l,ϖ=Fence.wide.inRound l){Ϝ:E}{Y:BR P Γ ϙ}{ps:υ Tmp}{r z:Code}{Q:QY P Γ ϙ}{k:E}{encs:O (O DV)}(J:E->DH->Prop)(Jx:Exit->DH->Prop)
 (hg:Ak S.fr g=.it k) (K:S.h[k]?=Z (Z<|.iter encs)) (Ek:∀x∈encs,F x=ps.size) {KK:E} (hL:ϙ<=KK) (C3:S.fr.all (Ce KK)=D) (h0:J 0<|S.h.set k A)
 (DX:Yr P Γ S.fr ps.toList r z KK J Jx encs) (EG:∀h,J (F encs) h->Q .normal ⟨S.fr,h⟩ Y) (OX:∀e h,(Mu e).isSome=D->Jx e h->Q e ⟨S.fr,h⟩ Y):Tr P Γ ϖ (Z Ϝ) ϙ Y (.rangeFunc g ps r z) S Q:=λN ρ a w R y m b=>by
 have hx:=Bo R g;rw[hg]at hx;obtain⟨p,V,hv⟩:=hx;obtain⟨p',BL,gf,lb,Rd,⟨e1,e2⟩,I,s,q4⟩:=R.hr.obj k _ K;have ep:p'=p:=zBH<|BL.symm.trans V;subst ep;have xa:a.eval g=.func (.func gf) #[] lb:=hv.trans e1;have Cv:Γ.ng<=w.heap.size:=Γ.lo _ R.hr.gi;have yJ:∀b,p'.foot b->MO S.h ρ b:=λb f=>⟨k,_,p',K,V,f⟩
 have hN:∀b,N b->b<w.heap.size/\¬MO S.h ρ b:=λb f=>⟨(R.hr.nlt b f).1,λ⟨k,o,p,q1,I,s⟩=>(R.hr.cel k o p b q1 I s).2.1 f⟩
 have JL:EH p'.foot Rd w:=⟨λb f hr=>(s b hr).1<|.inr<|yJ b f,λb f=>f.elim (q4 b) λh=>(s b h).2⟩
 have eP:RJ P Γ N S.h ρ w KK J 0 p'.foot Rd w:=by
  refine⟨S.h.set k A,ρ,h0,?_,AV.refl _ _,λb f=>.inl<|MO.kill f,λb f=>⟨(R.hr.cel k _ p' b K V f).1,.inl<|yJ b f⟩,λb f=>⟨λhn=>(s b f).1<|.inl hn,λhm=>(s b f).1<|.inr<|MO.kill hm⟩,CA.refl _ _⟩;have H1:A9 P Γ N (S.h.set k A) ρ w:=R.hr.kill k
  have mF:∀b,MS (λb=>N b∨p'.foot b) (S.h.set k A) ρ b->MS N S.h ρ b:=λb f=>by
   grind[MS,MO]
  refine⟨H1.len,λi o hi=>?_,λi o p2 b g1 g2 g3=>?_,H1.dis,λb f=>f.elim (R.hr.nlt b) λh=>⟨q4 b h,(R.hr.cel k _ p' b K V h).1⟩,R.hr.gi⟩
  ·obtain⟨Ay,B6⟩:=LY hi;obtain⟨p2,Qj,hr⟩:=R.hr.obj i o B6;exact⟨p2,Qj,hr.out (Cz mF ρ) (S:=λ_=>False) (AV.refl _ _) (λ_ h=>h.elim) λ_ _ _ h=>h⟩
  ·obtain⟨Ay,B6⟩:=LY g1;obtain⟨c1,c2,c3⟩:=R.hr.cel i o p2 b B6 g2 g3;exact⟨c1,λf=>f.elim c2 λf=>R.hr.dis i k o _ p2 p' b Ay B6 K g2 V g3 f,c3⟩
 have FO:∀i,DJ<|RJ P Γ N S.h ρ w KK J i:=λi G R' G' R2 ο Ϙ ⟨h,ρ',j,X⟩ q1 I s q4 q5 q6=>⟨h,ρ',j,RI.stable Cv hN _ _ _ _ _ _ X q1 I s q4 q5 q6⟩
 have dl:∀c,DJ<|RX P Γ N S.h ρ w KK Jx c:=λc G R' G' R2 ο Ϙ ⟨e,n,h,ρ',j,X⟩ q1 I s q4 q5 q6=>⟨e,n,h,ρ',j,RI.stable Cv hN _ _ _ _ _ _ X q1 I s q4 q5 q6⟩
 have q:∀{G R':Ψ} {W:κ} {h:DH} {ρ':O AN},RI KK P Γ N S.h ρ w G R' W h ρ'->BD S.h ρ w h ρ' W:=λhR=>⟨hR.upd,hR.grow⟩
 have kp:∀{G R':Ψ} {W:κ} {h:DH} {ρ':O AN},RI KK P Γ N S.h ρ w G R' W h ρ'->CA ϙ ρ ρ':=λhR k p K V=>hR.kept k p (zI0 K hL) V
 have xA:∀x∈encs,∀R W args,YV x R W args->args.size=ps.size:=λx hx R W args h=>h.1.symm.trans<|Ek x hx
 have Sn:∀{G R':Ψ} {W:κ} {h:DH} {ρ':O AN} {a':Act},RI KK P Γ N S.h ρ w G R' W h ρ'->a'.tmps=a.tmps->Ad P Γ N ⟨S.fr,h⟩ ρ' a' W:=λhR e=>⟨hR.hrel,by rw[e];exact hR.frame (S:=S) R (λ_ h=>h) C3⟩
 rcases KB with rfl|⟨l0,rfl⟩
 ·have mk:∀{ϒ:E} {G R':Ψ} {W:κ} {h:DH} {ρ':O AN},RI KK P Γ N S.h ρ w G R' W h ρ'->W.heap[ϒ]?=Z (.deferred<|Z [])->w.heap.size<=ϒ->Ef Ϝ ({ target:=.collected ϒ,args:=#[] }::a.defers) W:=λ{ϒ G R' W h ρ'} hR hD J6=>
   ⟨ϒ,rfl,zIX (b.le _ rfl) J6,hD,λd' Qr ht=>by have:=Ef.lt m Qr ht;omega,Wg R.hr (q hR) m⟩
  refine pd xa e2 I.gen JL xA _ _ _ FO dl (λc G R' G' R2 ο Ϙ ⟨h,ρ',j,X⟩ _ _ _ _ _ _=>j.elim) (λh=>h.elim) (λc G R W ⟨h,ρ',j,X⟩=>j.elim) eP (jv R hN (λ_ h=>h) C3<|DX.p λ_ _=>False) ?_ ?_
  ·rintro ϒ e G R' own W W' ⟨v,rfl⟩ ⟨h,ρ',j,hR⟩ _ _ _ hD J6;exact⟨⟨S.fr,h⟩,ρ',N,Y,EG h j,Sn hR rfl,Y.st y R.hr hR.hrel (q hR)<|kp hR,mk hR hD J6,b.step R.hr<|q hR⟩
  ·rintro ϒ c G R' W ⟨e,n,h,ρ',j,hR⟩ hD J6;have hq:=OX e h (by rw[n];rfl) j;cases e with
   |ret=>cases n;exact wpIn_ret ⟨⟨S.fr,h⟩,ρ',N,Y,hq,Sn hR rfl,Y.st y R.hr hR.hrel (q hR)<|kp hR,mk hR hD J6,b.step R.hr<|q hR⟩
   |exit id=>cases n;exact wpIn_exit ⟨⟨S.fr,h⟩,ρ',N,Y,hq,Sn hR rfl,Y.st y R.hr hR.hrel (q hR)<|kp hR,mk hR hD J6,b.step R.hr<|q hR⟩
   |normal=>cases n
   |goto t=>cases n
   |panic c=>cases n
   |outgrown=>cases n
 ·refine zA4 xa e2 (b.rd l0 rfl) I.gen JL xA _ _ _ FO dl (λc G R' G' R2 ο Ϙ ⟨h,ρ',j,X⟩ _ _ _ _ _ _=>j.elim) (λh=>h.elim) (λc G R W ⟨h,ρ',j,X⟩=>j.elim) eP (jv R hN (λ_ h=>h) C3<|DX.p λ_ _=>False) ?_ ?_
  ·rintro e G R' own W W' ⟨v,rfl⟩ ⟨h,ρ',j,hR⟩ _ _ _;exact⟨⟨S.fr,h⟩,ρ',N,Y,EG h j,Sn hR rfl,Y.st y R.hr hR.hrel (q hR)<|kp hR,Wg R.hr (q hR) m,b.step R.hr<|q hR⟩
  ·rintro c G R' W ⟨e,n,h,ρ',j,hR⟩;have hq:=OX e h (by rw[n];rfl) j;cases e with
   |ret=>cases n;exact wpIn_ret ⟨⟨S.fr,h⟩,ρ',N,Y,hq,Sn hR rfl,Y.st y R.hr hR.hrel (q hR)<|kp hR,Wg R.hr (q hR) m,b.step R.hr<|q hR⟩
   |exit id=>cases n;exact wpIn_exit ⟨⟨S.fr,h⟩,ρ',N,Y,hq,Sn hR rfl,Y.st y R.hr hR.hrel (q hR)<|kp hR,Wg R.hr (q hR) m,b.step R.hr<|q hR⟩
   |normal=>cases n
   |goto t=>cases n
   |panic c=>cases n
   |outgrown=>cases n
def DY{α σ:Type}(f:α->σ->M (σ×E)):O α->σ->M (σ×E)
 |[],s=>Z (s,0)
 |x::l,s=>(f x s).bind λr=>B (r.2==0) (DY f l r.1)<|Z r
def Bs{α σ:Type}(f:α->σ->M σ):O α->σ->M σ
 |[],s=>Z s
 |x::l,s=>(f x s).bind<|Bs f l
variable{α σ:Type}
def yj(f:α->σ->M σ):∀(l:O α) (s:σ),DY (λx s=>(f x s).map λS=>(S,0)) l s=(Bs f l s).map λS=>(S,0)
 |[],s=>rfl
 |x::l,s=>by
  simp only[DY,Bs];cases f x s with
  |none=>rfl
  |some S=>exact yj f l S
def Cw(ϙ:E)(X:O Exit)(c:E)(h':DH)(e:Exit)(S:St):Prop:=(Exit.normal::X)[c]?=Z e/\∃a,A6 ϙ S a/\a.h=h'
def HG(P:ν)(Γ:A1)(ϖ:Fence)(Ϝ:W0)(ϙ:E)(N:BR P Γ ϙ)(Q:Exit->St->Prop)(a p:Code)(S:St):Prop:=Tr P Γ ϖ Ϝ ϙ N a S<|PV (λS' s=>s=N/\∀r:BR P Γ ϙ,BV P Γ ϖ Ϝ ϙ r Q [.code p] S') λ_ _ _=>False
variable{a p:Code}
theorem HG.go{Ϝ:W0}{N:BR P Γ ϙ}{Q:Exit->St->Prop}(l:DQ ϖ P)(f:P.follows .mixedOrders=D)(i:BG)(n:E)(o:BM)(b σ:Θ)(fr:O DV)(h':DH)(vs:O Prop)
 (h:(CQ P Γ i n [.code a] S o).map (WR b σ ϙ)=Z (.at [],fr,h',vs,[],[],D)) (t:BU vs) (j:∀r:BR P Γ ϙ,BV P Γ ϖ Ϝ ϙ r Q [.code p] ⟨fr,h'⟩):HG P Γ ϖ Ϝ ϙ N Q a p S:=by
 obtain⟨S',_,k,m⟩:=zIQ h;have ϑ:=GF (ϖ:=ϖ) (Ϝ:=Ϝ) (ϙ:=ϙ) (Y:=N) (Q:=λe g c=>e=.normal/\c=N/\∀r:BR P Γ ϙ,BV P Γ ϖ Ϝ ϙ r Q [.code p] g) l f n [.code a] S o _ _ _ _ k t ⟨rfl,rfl,λr=>BV.le m rfl (j r)⟩;refine Tr.mono (show Tr P Γ ϖ Ϝ ϙ N a S _ from ϑ) λe g c hq=>?_
 grind[PV,Dp]
theorem BV.rangeFold(J:ϖ=η∨∃l,ϖ=Fence.wide.inRound l){Ϝ:E}{Y:BR P Γ ϙ}{Q:QY P Γ ϙ}{m:υ Tmp}{k:O KI}{n:E}(X:O Exit)(Mj:(X.all λe=>(Mu e).isSome)=D)(enc:α->O DV)(l:O α)(ϗ:σ->DH)(f:α->σ->M (σ×E)){o:σ}{rE:σ×E}(R:DY f l o=Z rE)
 (V:Ak S.fr g=.it n) (W:S.h[n]?=Z (Z<|.iter<|l.map enc)) (Ek:∀x,F (enc x)=m.size) {K:E} (hL:ϙ<=K) (C3:S.fr.all (Ce K)=D) (h0:S.h.set n A=ϗ o)
 (DX:∀(l Ϝ:E) (N:BR P Γ K) (x:α) (s:σ) (r:σ×E),f x s=Z r->HG P Γ (Fence.wide.inRound l) (Z Ϝ) K N (Cw K X r.2<|ϗ r.1) a p ⟨I2 S.fr m.toList<|enc x,ϗ s⟩)
 (EG:∀e,(Exit.normal::X)[rE.2]?=Z e->Dp P Γ ϖ (Z Ϝ) ϙ Q k e ⟨S.fr,ϗ rE.1⟩ Y):A2 P Γ ϖ (Z Ϝ) ϙ Y Q (.code (.rangeFunc g m a p)::k) S:=by
 refine Tr.range (Q:=Dp P Γ ϖ (Z Ϝ) ϙ Q k) (KK:=K) J (λi h=>∃s,DY f (l.drop i) s=Z rE/\h=ϗ s) (λe h=>(Exit.normal::X)[rE.2]?=Z e/\h=ϗ rE.1) V W (λx b=>?_) hL C3 ⟨o,R,h0⟩ ?_ ?_ ?_
 ·grind
 ·rintro l' w N' i x h b ⟨s,z,rfl⟩;rw[zM2]at b;cases hy:l[i]? with
  |none=>rw[hy]at b;cases b
  |some y=>
   rw[hy]at b;cases b
   have hd:l.drop i=y::l.drop (i+1):=by
    grind[List.drop_eq_getElem_cons]
   rw[hd]at z;obtain⟨r,h1,h2⟩:=GP z;have ϑ:=DX l' w N' y s r h1
   have q:∀{e:Exit} {j:St},Cw K X r.2 (ϗ r.1) e j->PF K (λh=>∃s,DY f (l.drop<|i+1) s=Z rE/\h=ϗ s) (λe h=>(Exit.normal::X)[rE.2]?=Z e/\h=ϗ rE.1) e j:=by
    rintro e j ⟨r1,S3,r2,r3⟩
    grind[PF]
   refine Tr.mono ϑ λe j Y2 I=>?_
   cases e with
   |normal=>exact⟨I.1,λv=>Tr.mono (show Tr P Γ (Fence.wide.inRound l') (Z w) K v p j (stay v<|Cw K X r.2<|ϗ r.1)from I.2 v) λe S3 Y3 G=>⟨G.1,q G.2⟩⟩
   |ret=>exact I.elim
   |exit id=>exact I.elim
   |goto t=>exact I.elim
   |panic c=>exact I.elim
   |outgrown=>exact I.elim
 ·grind[DY]
 grind
def UK{Ϝ:W0}{Y:BR P Γ ϙ}{Q:QY P Γ ϙ}{id:E}(h:Q (.exit id) S Y):∀(k:O KI),J0 id k=A->Dp P Γ ϖ Ϝ ϙ Q k (.exit id) S Y
 |[],_=>h
 | .blk i::k,w=>by
  unfold J0 at w;split at w
  ·cases w
  ·rename_i e
   show u (id=i) _ _
   rw[zJz e];exact UK h k w
 | .code c::k,w=>UK (k:=k) h w
 | .lend J::k,w=>UK (k:=k) h w
 | .scp::k,w=>UK (k:=k) h w
 | .loopN m b::k,w=>UK (k:=k) h w
end
def MB(t:E):Code->M (υ Tmp×Code×Code)
 | .rangeFunc (.tmp K) e a b=>u (K=t) (Z (e,a,b))<|MB t b
 | .seq a b=>match MB t a with
  |some r=>Z r
  |none=>MB t b
 | .cond _ a b=>match MB t a with
  |some r=>Z r
  |none=>MB t b
 | .block _ c=>MB t c
 | .loop c=>MB t c
 | .scope c=>MB t c
 |_=>A
def tH(f:Func)(t:E):υ Tmp×Code×Code:=match f.body with
 |some c=>(MB t c).getD (#[],.skip,.skip)
 |none=>(#[],.skip,.skip)
def af(f:Func)(t:E):Code:=(tH f t).2.2
def rgA(f:Func)(t:E):Code:=(tH f t).2.1
def Af(f:Func):Code:=f.body.getD .skip
def uq(id:E)(k:O KI):O KI:=(J0 id k).getD []
variable{ϙ:E}{ϖ:Fence}{Γ:A1}{P:ν}
theorem Dp.exitTo{Ϝ:W0}{Y:BR P Γ ϙ}{Q:QY P Γ ϙ}{id:E}{k:O KI}{S:St}(h:(J0 id k).isSome=D)(f:A2 P Γ ϖ Ϝ ϙ Y Q (uq id k) S):Dp P Γ ϖ Ϝ ϙ Q k (.exit id) S Y:=by
 unfold uq at f;cases w:J0 id k with
 |none=>rw[w]at h;cases h
 |some k'=>grind[QB,A2]
def Pu:O KI->M (Operand×υ Tmp×Code×Code×O KI)
 | .code (.rangeFunc g K a b)::k=>Z (g,K,a,b,k)
 |_=>A
variable{α σ:Type}{j Ϝ:E}{K:O KI}{h:DH}{fr:O DV}
def BV.rangeAt(o:ϖ=η∨∃l,ϖ=Fence.wide.inRound l){Y:BR P Γ ϙ}{Q:QY P Γ ϙ}(X:O Exit)(W:(X.all λe=>(Mu e).isSome)=D)(g:Operand)(i:υ Tmp)(a b:Code)(k:O KI)(enc:α->O DV)(l:O α)(ϗ:σ->DH)(m:α->O DV)(f:α->σ->M (σ×E)){n:σ}{rE:σ×E}(q:DY f l n=Z rE)
 (c:Pu K=Z (g,i,a,b,k)) (p:Ak fr g=.it j) (t:h[j]?=Z (Z<|.iter<|l.map enc)) (v:∀x,F (enc x)=i.size) (L':E) (w:Nat.ble ϙ L'=D) (y:fr.all (Ce L')=D) (h0:h.set j A=ϗ n) (z:(λx=>I2 fr i.toList<|enc x)=m)
 (G:∀(l Ϝ:E) (N:BR P Γ L') (x:α) (s:σ) (r:σ×E),f x s=Z r->HG P Γ (Fence.wide.inRound l) (Z Ϝ) L' N (Cw L' X r.2<|ϗ r.1) a b ⟨m x,ϗ s⟩)
 (S:∀e,(Exit.normal::X)[rE.2]?=Z e->Dp P Γ ϖ (Z Ϝ) ϙ Q k e ⟨fr,ϗ rE.1⟩ Y):A2 P Γ ϖ (Z Ϝ) ϙ Y Q K ⟨fr,h⟩:=by
 unfold Pu at c;split at c
 ·cases c;subst z;exact BV.rangeFold o X W enc l ϗ f q p t v (zKs w) y h0 G S
 ·cases c
theorem BV.rangeAt0(o:ϖ=η∨∃l,ϖ=Fence.wide.inRound l){Y:BR P Γ ϙ}{Q:QY P Γ ϙ}(g:Operand)(c:υ Tmp)(a b:Code)(i:O KI)(enc:α->O DV)(l:O α)(ϗ:σ->DH)(k:α->O DV)(f:α->σ->M σ){m w:σ}(q:Bs f l m=Z w)
 (p:Pu K=Z (g,c,a,b,i)) (t:Ak fr g=.it j) (v:h[j]?=Z (Z<|.iter<|l.map enc)) (y:∀x,F (enc x)=c.size) (L':E) (z:Nat.ble ϙ L'=D) (G:fr.all (Ce L')=D) (h0:h.set j A=ϗ m) (I:(λx=>I2 fr c.toList<|enc x)=k)
 (DX:∀(l Ϝ:E) (N:BR P Γ L') (x:α) (s r:σ),f x s=Z r->HG P Γ (Fence.wide.inRound l) (Z Ϝ) L' N (Cw L' [] 0<|ϗ r) a b ⟨k x,ϗ s⟩)
 (J:A2 P Γ ϖ (Z Ϝ) ϙ Y Q i ⟨fr,ϗ w⟩):A2 P Γ ϖ (Z Ϝ) ϙ Y Q K ⟨fr,h⟩:=by
 refine BV.rangeAt o [] rfl g c a b i enc l ϗ k (λx s=>(f x s).map λS=>(S,0)) (rE:=(w,0)) (by rw[yj,q];rfl) p t v y L' z G h0 I (λl' B' N' x s r n=>?_) λe R=>?_
 ·cases V:f x s with
  |none=>rw[V]at n;cases n
  |some S=>
   grind
 ·cases R;exact J
def Ot(t:E):Θ->Code->O KI->M (O KI)
 |ms,.seq a b,k=>match Ot t ms a (.code b::k)with
  |some r=>Z r
  |none=>Ot t ms b k
 |ms,.cond _ a b,k=>match Ot t ms a k with
  |some r=>Z r
  |none=>Ot t ms b k
 |ms,.block i c,k=>Ot t ms c<|.blk i::k
 |ms,.scope c,k=>Ot t ms c<|.scp::k
 |m::ms,.loop b,k=>Ot t ms b<|.loopN m b::k
 |_,.rangeFunc (.tmp K) e a b,k=>u (K=t) (Z<|.code (.rangeFunc (.tmp K) e a b)::k) A
 |_,_,_=>A
def Gn(c:Code)(t:E)(r:Θ):O KI:=(Ot t r c []).getD []
def FU(c:Code)(id:E)(r:Θ):O KI:=(Ou id r c []).getD []
def CW(c:Code)(id:E)(r:Θ):O KI:=(Ov id r c []).getD []
end
abbrev L1(l:O DV):E->DV:=λj=>l.getD j .any
abbrev AM{α:Type}[Inhabited α](c:α->O DV)(l:O α):E->E->DV:=λi j=>(c<|H l i ξ).getD j .any
abbrev YD{α:Type}(c:α->O DV):α->E->DV:=λx j=>(c x).getD j .any
def AW(c:AD):O DV:=[.int .i64 c.kind,.ints c.ce,.int .i64 c.set,.int .i64 c.other,.int .i64 c.lo,.int .i64 c.hi,.ints c.ru,.int .i64 c.rule,.int .i64 c.spot]
def AS(x:Ξ):O DV:=[.ints x]
def Uc(x:Ω):O DV:=[.bools x]
def BA(x:Δ):O DV:=[.int .i64 x.1,.int .i64 x.2]
def AJ(q:AA):O DV:=[.int .i64 q.ce,.int .i64 q.sy,.ints q.va,.sl 1 (F q.nb)<|AM AS q.nb,.sl 9 (F q.cons)<|AM AW q.cons]
abbrev oC(l:O DV):M DO:=Z<|.cells l
abbrev oI(l:Ξ):M DO:=Z<|.ints l
abbrev oW(c:AD)(q:AA)(pos:Ξ)(k ln:E):M DO:=Z<|.cells<|AW c++AJ q++[.ints pos,.msl k 1 0 ln]
abbrev zRb:=@Nat.le_of_not_lt
abbrev zRc:=@List.cons_append
abbrev zRd:=@List.getElem_mem
section
structure Bm(P:ν) where
 l:E
 encs:O (O DV)
 J:E->(Ψ)->(Ψ)->κ->Prop
 Jx:(Ψ)->(Ψ)->κ->Prop
 hJ:∀i,DJ (J i)
 hJx:DJ Jx
 hy:∀i x args G R W1,encs[i]?=Z x->YV x R W1 args->J i G R W1->EH G R W1->YieldAt η 0 P l args W1 λe W'=>
  AV (λk=>¬(G k∨R k)) W1 W'/\((e=.returned (.bool D)/\J (i+1) G R W')∨(e=.returned (.bool T)/\Jx G R W'))
structure IY(Γ:A1)(N G R:Ψ)(h:DH)(ρ:O AN)(w:κ):Prop where
 sh:EH G R w
 lo:∀b,b<Γ.ng->R b
 own:∀b,MO h ρ b->G b
 n:∀b,N b↔(b<w.heap.size/\¬G b/\¬R b)
def IY.ng{Γ:A1}{N G R:Ψ}{h:DH}{ρ:O AN}{w:κ}(y:IY Γ N G R h ρ w){b:E}(a:N b):Γ.ng<=b:=zRb λq=>((y.n b).1 a).2.2<|y.lo b q
def wc(P:ν)(Γ:A1)(ϙ:E)(J:Ψ->Ψ->κ->Prop)(hJ:DJ J):BR P Γ ϙ where
 I:=λN h ρ w=>∃G R,J G R w/\IY Γ N G R h ρ w
 st:=by
  rintro N h ρ w h' ρ' w' ⟨G,R,j,y⟩ ϗ S st _;have a:=st.upd.size;have g:∀b,(G b∨(w.heap.size<=b/\b<w'.heap.size))->¬R b:=λb hb i=>hb.elim (λh=>y.sh.dis b h i) λh=>by have:=y.sh.lt b<|.inr i;omega
  have q:∀b,(G b∨(w.heap.size<=b/\b<w'.heap.size))∨R b->b<w'.heap.size:=λb hb=>by
   rcases hb with(hb|hb)|hb
   ·exact zI0 (y.sh.lt b<|.inl hb) a
   ·exact hb.2
   ·exact zI0 (y.sh.lt b<|.inr hb) a
  refine⟨λb=>G b∨(w.heap.size<=b/\b<w'.heap.size),R,hJ G R _ R w w' j (st.upd.mono λb _ hb=>y.own b hb) (λk f=>f.imp id λh=>h.1) (λk f=>.inl f) (λk f=>f.imp .inl id) g q,⟨g,q⟩,y.lo,λb hb=>?_,λb=>?_⟩
  ·rcases st.grow b hb with h|h
   ·exact .inl<|y.own b h
   ·obtain⟨k,o,p,W,l,m⟩:=hb;obtain⟨_,_,c,t,z,e⟩:=S.cel k o p b W l m
    grind
  ·rw[y.n]
   grind
section
variable{P:ν}{Γ:A1}
def Bm.Y(Ϙ:Bm P)(Γ:A1)(ϙ i:E):BR P Γ ϙ:=wc P Γ ϙ (Ϙ.J i)<|Ϙ.hJ i
def Bm.X(Ϙ:Bm P)(Γ:A1)(ϙ:E):BR P Γ ϙ:=wc P Γ ϙ Ϙ.Jx Ϙ.hJx
def Bm.Q(Ϙ:Bm P)(Γ:A1)(ϙ:E):QY P Γ ϙ:=λe _ Y=>(e=.normal∨e=.ret)/\(Y=Ϙ.Y Γ ϙ (F Ϙ.encs)∨Y=Ϙ.X Γ ϙ)
def PM(P:ν)(Γ:A1)(ops:υ Oper)(p:E)(S:St)(w:BM):M<|O DV×E×St×St×O Prop:=match D1 P Γ ops (ops.toList.take p) S w with
 |none=>A
 |some (G,vs,a)=>match ops[p]? with
  |none=>A
  |some o=>match Kc ops G o with
   |some D=>match o.op with
    | .call c=>match c.callee with
     | .value f=>match Ak G.fr f with
      | .yl l=>match(c.args.toList.map<|Ak G.fr).all Fi with
       |false=>A
       |true=>match D1 P Γ ops (ops.toList.drop<|p+1) ⟨Ct G.fr o.dst<|.bool D,G.h⟩ a with
        |none=>A
        |some (ST,b,r)=>match D1 P Γ ops (ops.toList.drop<|p+1) ⟨Ct G.fr o.dst<|.bool T,G.h⟩ r with
         |none=>A
         |some (e,g,_)=>Z (c.args.toList.map<|Ak G.fr,l,ST,e,vs++(b++g))
      |_=>A
     |_=>A
    |_=>A
   |_=>A
end
section
variable{P:ν}{Γ:A1}{N:Ψ}{S:St}{ρ:O AN}{a:Act}{w:κ}{ϖ:Fence}
variable{ops:υ Oper}
theorem Xj(b:DQ ϖ P)(G:CY ops=D){Q:Exit->Act->κ->Prop}{i:O Oper}:∀(l:O Oper) (_:∀o∈l,o∈ops) {S:St} {ρ:O AN} {a:Act} {w:κ} {k:BM} {S':St} {vs:O Prop} {m:BM},
 Ad P Γ N S ρ a w->D1 P Γ ops l S k=Z (S',vs,m)->BU vs->
 (∀ρ' a' w',Ad P Γ N S' ρ' a' w'->C6 S.h ρ w S'.h ρ' w'->a'.defers=a.defers->wpListIn ϖ 0 P ops Q i a' w')->wpListIn ϖ 0 P ops Q (l++i) a w
 |[],_,S,ρ,a,w,k,S',vs,m,R,h,_,g=>by
  cases h;exact g ρ a w R (C6.refl _ _ _) rfl
 |o::rest,I,S,ρ,a,w,k,S',vs,m,R,h,J,g=>by
  have K:∀c,o.op≠.defer c:=by
   obtain⟨j,hj,e⟩:=Array.getElem_of_mem<|I o Z3
   grind[CY]
  have X:∀o∈rest,o∈ops:=λo V=>I o (by simp[V])
  have Ci:∀v,(a.put o.dst v).defers=a.defers:=λv=>by cases V:o.dst <;> simp[Act.put]
  simp only[D1]at h;rw[zRc];unfold wpListIn;split at h
  ·split at h
   ·cases h
   ·rename_i W Cc ext1 FJ n;split at h
    ·cases h
    ·rename_i S2 EP G5 p;cases h;obtain⟨Y,q⟩:=DP.1 J;exact ov b R K n Y λρ' a' w' R' st DF _=>Xj b G rest X R' p q λρ'' s r t x y=>g ρ'' s r t (st.trans x)<|y.trans DF
  ·split at h
   ·cases h
   ·rename_i W Cc Mz n;split at h
    ·cases h
    ·rename_i S2 EP G5 p;cases h;obtain⟨Y,q⟩:=DP.1 J;obtain⟨e1,hs⟩:=WH R n Y
     have go:∀v,Ad P Γ N W ρ (a.put o.dst v) w->wpListIn ϖ 0 P ops Q (rest++i) (a.put o.dst v) w:=λv R'=>
      Xj b G rest X R' p q λρ'' s r t x y=>g ρ'' s r t (by rw[←e1];exact x)<|y.trans<|Ci v
     rcases hs with⟨hw,v,g1,z⟩|⟨hw,z⟩
     ·rw[zAF hw];refine⟨λf _=>b.fn f,?_⟩;rw[zND _ _ _ K,g1 w<|Keep.ofExt<|A0.refl w];exact go v z
     ·rw[zJz Z4];exact⟨λf _=>b.fn f,go undef z⟩
theorem sc{l:E}{ρ':Operand->μ}{o:Oper}{c:Call}{f:Operand}{vs:O μ}(K:o.op=.call c)(hc:c.callee=.value f)(q:ρ' f=.func (.yield l) #[] #[])(hv:c.args.toList.map ρ'=vs):(ω ρ' o).run P w=(Instr.yield l vs.toArray).run P w:=by
 unfold ω;rw[K]
 show(resolve ρ' c o.type>>=λϚ=>invoke Ϛ.target Ϛ.args).run P w=_
 unfold resolve;rw[hc];simp only[Deferred.ofValue,q]
 have e:#[]++Array.map ρ' c.args=vs.toArray:=by
  grind
 have a:((pure { target:=.fn (.yield l) #[],args:=#[]++Array.map ρ' c.args }:Sem Deferred)>>=λϚ=>invoke Ϛ.target Ϛ.args).run P w=(Instr.yield l<|#[]++Array.map ρ' c.args).run P w:=rfl;rw[a,e]
variable{R:Ψ}
theorem YV.of{ϕ:Ψ}{ρ:O AN}{g:Operand->DV}{f:Operand->μ}(k:∀x,AL ϕ w (g x) ρ<|f x)(t:∀b,b<w.heap.size/\¬R b->ϕ b):∀{l:O Operand},(l.map g).all Fi=D->YV (l.map g) R w (l.map f).toArray:=λ{l} h=>by
 refine⟨Z3,λj a=>?_⟩;have c:j<F l:=by simpa using a
 have e:(l.map g).getD j .any=g l[j]:=Z4
 have X:(l.map f).toArray.getD j undef=f l[j]:=by simp_all
 rw[e,X];have n:=ML<|zFy.1 h (g l[j])<|zMf.2 ⟨_,zRd c,rfl⟩;exact(n _ _ _ _<|k l[j]).out _<|Cz t []
variable{h:DH}
theorem IY.part{N G:Ψ}{I:Ψ->Ψ->κ->Prop}(m:DJ I)(hi:I G R w)(y:IY Γ N G R h ρ w):∃R',I (MO h ρ) R' w/\IY Γ N (MO h ρ) R' h ρ w/\(∀b,b<w.heap.size/\¬R' b->MS N h ρ b)/\(∀b,R b->R' b):=by
 have z:∀b,MO h ρ b->¬(R b∨(G b/\¬MO h ρ b)):=λb P hx=>hx.elim (y.sh.dis b<|y.own b P) λhx=>hx.2 P
 have q:∀b,MO h ρ b∨(R b∨(G b/\¬MO h ρ b))->b<w.heap.size:=λb hx=>by
  rcases hx with hx|hx|hx
  ·exact y.sh.lt b<|.inl<|y.own b hx
  ·exact y.sh.lt b<|.inr hx
  ·exact y.sh.lt b<|.inl hx.1
 have x:∀b,G b->MO h ρ b∨(R b∨(G b/\¬MO h ρ b)):=λb o=>(Classical.em<|MO h ρ b).imp id λP=>.inr ⟨o,P⟩
 refine⟨λb=>R b∨(G b/\¬MO h ρ b),m G R _ _ w w hi (AV.refl _ _) (λk f=>.inl<|y.own k f) (λk f=>f.imp id λh=>.inl h.1) (λk f=>f.elim (x k) λh=>.inr<|.inl h) z q,⟨⟨z,q⟩,λb h=>.inl<|y.lo b h,λ_ h=>h,λb=>(y.n b).trans ⟨λ⟨W,a,p⟩=>⟨W,λP=>a<|y.own b P,λhx=>hx.elim p λhx=>a hx.1⟩,λ⟨W,a,p⟩=>⟨W,λo=>(x b o).elim a p,λc=>p<|.inl c⟩⟩⟩,λb ⟨W,a⟩=>?_,λb h=>.inl h⟩
 by_cases o:G b
 ·grind[MS]
 ·exact .inl<|(y.n b).2 ⟨W,o,λc=>a<|.inl c⟩
def IY.later{N R':Ψ}{g:κ}(z:IY Γ N (MO h ρ) R' h ρ w)(ϗ:A9 P Γ N h ρ w)(x:AV (λk=>¬(MO h ρ k∨R' k)) w g):A9 P Γ (λa=>a<g.heap.size/\¬MO h ρ a/\¬R' a) h ρ g/\BW (MS N h ρ) w ρ (MS (λa=>a<g.heap.size/\¬MO h ρ a/\¬R' a) h ρ) g ρ:=by
 have b:AV N w g:=x.mono λa q c=>(z.n a).2 ⟨q,λi=>c<|.inl i,λi=>c<|.inr i⟩
 have e:∀a,N a->N a/\Γ.ng<=a:=λa f=>⟨f,z.ng f⟩
 have j:∀a,(a<g.heap.size/\¬MO h ρ a/\¬R' a)->N a∨w.heap.size<=a:=λa ⟨W,l,p⟩=>by
  rcases zK8 a w.heap.size with h|h
  ·exact .inl<|(z.n a).2 ⟨h,l,p⟩
  ·exact .inr h
 exact⟨ϗ.foreign b e j λa ⟨W,_,p⟩=>⟨W,zRb λm=>p<|z.lo a m⟩,BW.foreign (Γ:=Γ) b e j⟩
theorem Tr.yield{ϙ:E}{Ϙ:Bm P}{i:E}{Q:QY P Γ ϙ}(J:DQ η P){id:E}{p:E}{Ar:BM}{x:O DV}{ST SF:St}{vs:O Prop}(K:CY ops=D)
 (h:PM P Γ ops p S Ar=Z (x,Ϙ.l,ST,SF,vs)) (hv:BU vs) (hx:Ϙ.encs[i]?=Z x) (hT:Q .normal ST<|Ϙ.Y Γ ϙ<|i+1) (hE:Q .normal SF<|Ϙ.X Γ ϙ):Tr P Γ η A ϙ (Ϙ.Y Γ ϙ i) (.region id ops T) S Q:=λN ρ a w R y m b=>by
 unfold PM at h;split at h
 ·cases h
 rename_i G Cc FJ h1;split at h
 ·cases h
 rename_i o ho;split at h
 ·rename_i hw;split at h
  ·rename_i c Qk;split at h
   ·rename_i f hc;split at h
    ·rename_i l hl;split at h
     ·cases h
     rename_i XA;split at h
     ·cases h
     rename_i ST' vT G5 h2;split at h
     ·cases h
     rename_i SF' vF MK h3;cases h;obtain⟨CJ,E7⟩:=DP.1 hv;obtain⟨hvT,hvF⟩:=DP.1 E7;have n:p<F ops.toList:=Z4
     have zLH:ops.toList=ops.toList.take p++o::ops.toList.drop (p+1):=by
      grind[List.drop_eq_getElem_cons,List.take_append_drop]
     have DL:∀o'∈ops.toList,o'∈ops:=λo' h=>by simpa using h
     have hd:∀c,o.op≠.defer c:=JD K ho;refine zOf ?_;rw[zLH];refine Xj J K _ (λo' t=>DL o'<|List.mem_of_mem_take t) R h1 CJ λρ1 q w1 r Dg Qq=>?_
     obtain⟨G0,R0,y1,y2⟩:=(Ϙ.Y Γ ϙ i).st y R.hr r.hr Dg.st λk p _ n=>Dg.pl k p n;obtain⟨R',z1,V,z3,_⟩:=IY.part (Ϙ.hJ i) y1 y2;obtain⟨fn,tmps,Re,body,hy,hR⟩:=Ϙ.hy i _ _ _ R' w1 hx (YV.of (g:=Ak G.fr) (f:=q.eval) (λx=>Bo r x) z3 XA) z1 V.sh;unfold wpListIn;rw[zAF<|Iy r hw]
     have my:q.eval f=.func (.yield Ϙ.l) #[] #[]:=by
      have hr:=Bo r f;rw[hl]at hr;exact hr
     refine⟨λf _=>J.fn f,?_⟩;rw[zND _ _ _ hd,sc Qk hc my rfl,hy];refine⟨λhx=>(by cases hx),hR.mono ?_⟩;have AX:q.defers= []:=Qq.trans m;rintro e W ⟨hu,s⟩;obtain⟨H',fo⟩:=V.later r.hr hu;have DN:Ad P Γ (λj=>j<W.heap.size/\¬MO G.h ρ1 j/\¬R' j) G ρ1 q W:=⟨H',r.fr.out fo⟩;have Ci:∀v,(q.put o.dst v).defers=q.defers:=λv=>by cases ho:o.dst <;> simp[Act.put]
     have yy:IY Γ (λj=>j<W.heap.size/\¬MO G.h ρ1 j/\¬R' j) (MO G.h ρ1) R' G.h ρ1 W:=⟨V.sh.upd hu,V.lo,λ_ h=>h,λ_=>Iff.rfl⟩;rcases s with⟨rfl,s⟩|⟨rfl,s⟩
     ·have R':=Hw DN o.dst (Ϛ:=.bool D) (v:=.bool D) rfl;refine LW J K _ (λo' t=>DL o'<|List.mem_of_mem_drop t) R' h2 hvT λρ2 a2 w2 z I zNI=>?_
      refine⟨ST,ρ2,_,Ϙ.Y Γ ϙ<|i+1,hT,z,(Ϙ.Y Γ ϙ<|i+1).st ⟨_,_,s,yy⟩ R'.hr z.hr I.st λk p _ n=>I.pl k p n,?_,Bd.none⟩
      grind[Jb]
     ·have R':=Hw DN o.dst (Ϛ:=.bool T) (v:=.bool T) rfl;refine LW J K _ (λo' t=>DL o'<|List.mem_of_mem_drop t) R' h3 hvF λρ2 a2 w2 z I zNI=>?_
      refine⟨SF,ρ2,_,Ϙ.X Γ ϙ,hE,z,(Ϙ.X Γ ϙ).st ⟨_,_,s,yy⟩ R'.hr z.hr I.st λk p _ n=>I.pl k p n,?_,Bd.none⟩
      grind[Jb]
    ·cases h
   ·cases h
  ·cases h
 ·cases h
end
variable{fn:Func}{f:E}{P:ν}
theorem Ox(hf:P.funcs[f]?=Z fn)(hb:fn.body.isSome=D)(n:(fn.name== "runtime.NumGoroutine")=T)(args:υ μ)(W:κ):(callFunc f args).run P W=.ok (.enter f args) W:=by
 have XK:¬fn.name= "runtime.NumGoroutine" :=by simpa using n
 have En:¬fn.body=A:=Z4
 simp_all[callFunc]
variable{ds:O DV}{Γ:A1}
theorem z6(q:P.funcs[f]?=Z fn)(o:fn.body.isSome=D){ϙ:E}{Y:BR P Γ ϙ}{Q:QY P Γ ϙ}{h:DH}(ϑ:A2 P Γ η A ϙ Y Q [.code<|Af fn] ⟨ds++d (fn.ntmps-F ds) .any,h⟩)
 {N:Ψ} {ρ:O AN} {W:κ} {args:υ μ} (ϗ:A9 P Γ N h ρ W) (fr:BJ (MS N h ρ) W ρ ds args) (y:Y.I N h ρ W) {R:Ending->κ->Prop}
 (i:∀e S' ρ' b s a' g,Q e S' s->Ad P Γ b S' ρ' a' g->s.I b S'.h ρ' g->match e with
  | .normal| .ret=>∃v,(results fn a'.tmps).run P g=.ok v g/\R (.returned v) g
  | .panic c=>R (.panicked c) g
  |_=>False):CallsIn η 0 P f args W R:=by
 cases hc:fn.body with
 |none=>rw[hc]at o;cases o
 |some j=>
 have r:Af fn=j:=by unfold Af;rw[hc];rfl
 rw[r]at ϑ;refine callsIn_of_wp q hc trivial (zNQ ((show Tr P Γ η A ϙ Y j _ (Dp P Γ η A ϙ Q [])from ϑ) N ρ _ W ⟨ϗ,?_⟩ y rfl Bd.none) ?_) rfl
 ·rw[←fr.1];grind[BJ.append,BJ.anys]
 ·rintro e a' g ⟨S',ρ',b,s,a,k,p,l,_⟩;cases e with
  |outgrown=>exact a.elim
  |normal=>obtain⟨v,m,n⟩:=i _ S' ρ' b s a' g a k p;exact⟨l,v,m,n⟩
  |ret=>obtain⟨v,m,n⟩:=i _ S' ρ' b s a' g a k p;exact⟨l,v,m,n⟩
  |exit id=>exact(i _ S' ρ' b s a' g a k p).elim
  |goto t=>exact(i _ S' ρ' b s a' g a k p).elim
  |panic c=>exact⟨l,i _ S' ρ' b s a' g a k p⟩
theorem ES.iterN{I m:E}{c:E->DV}{h0:DH}{encs:O (O DV)}(V:ES P Γ f ds [] (.fn I m c) h0 D)(Em:ds.all Fi=D)
 (X:P.funcs[I]?=Z fn) (a:fn.body.isSome=D) (hn:(fn.name== "runtime.NumGoroutine")=T) (Ts:fn.results= #[])
 (s:∀Ϙ:Bm P,Ϙ.encs=encs->A2 P Γ η A (F h0) (Ϙ.Y Γ (F h0) 0) (Ϙ.Q Γ<|F h0) [.code<|Af fn] ⟨.yl Ϙ.l::(θ m).map c++d (fn.ntmps-(m+1)) .any,h0⟩) (h:DH):ES P Γ f ds h (.it<|F h) (h++[Z<|.iter encs]) D:=by
 refine⟨V.1,λN ρ w args g C4=>?_⟩;refine(V.2 (MS N h ρ) [] w args (Tt (λb a=>g.lt2 a) g.gi) ⟨C4.1,λi hi=>?_⟩).mono ?_
 ·have hx:=ML (zFy.1 Em (ds.getD i .any)<|by simp[hi]);exact AL.out _ (Cz (λb a=>Rl.1 a) [])<|hx _ _ _ _<|C4.2 i hi
 ·rintro e w' ⟨v,rfl,⟨⟨ρ',g1,g2,g3,g4⟩,g5⟩⟩;have y:=g5 rfl;obtain⟨lb,hv,z,Ty⟩:=g2;have JP:∀b,MO h0 ρ' b->w.heap.size<=b:=λb a=>(g3.grow b a).resolve_left λ⟨k,o',p',n,_⟩=>by simp at n
  have Gk:∀b,MO h0 ρ' b->Γ.ng<=b/\¬MS N h ρ b/\Dr w' b:=λb ⟨k,o,q,n,q2,x⟩=>g1.cel k o q b n q2 x
  have Cv:Γ.ng<=w.heap.size:=Γ.lo _ g.gi;have BT:=y.size
  have S:∀b,MO h0 ρ' b->b<w'.heap.size:=λb a=>by
   grind
  have lo:∀b,b<Γ.ng->b<w'.heap.size/\¬MS (MS N h ρ) h0 ρ' b:=λb a=>⟨zI0 a<|zIX Cv BT,λhx=>by
   rcases hx with hx|hx
   ·have:=(g.lt2 hx).2;omega
   grind⟩
  let p:AN:=⟨0,0,0,v,λb=>MO h0 ρ' b⟩
  have hp:∀b,p.foot b->w.heap.size<=b/\Dr w' b:=λb a=>⟨JP b a,(Gk b a).2.2⟩
  refine⟨v,rfl,⟨⟨ρ++[p],g.snoc y hp ?_,⟨p,by rw[←g.len];simp,rfl⟩,BD.snoc g y λb a=>(hp b a).1,λ_ _ h=>Eo h⟩,g5⟩⟩;refine⟨I,lb,λb=>b<w'.heap.size/\¬MS (MS N h ρ) h0 ρ' b,⟨hv,λargs W=>Ox X a hn args W⟩,?_,λb a=>⟨λhm=>?_,a.1⟩,S⟩
  ·intro l J Jx W hJ hJx hU hY nU _
   let Ϙ:Bm P:=⟨l,encs,J,Jx,hJ,hJx,hY⟩
   have Xd:∀b,(b<W.heap.size/\¬MO h0 ρ' b/\¬(b<w'.heap.size/\¬MS (MS N h ρ) h0 ρ' b))->MS N h ρ b∨w'.heap.size<=b:=λb ⟨_,x,q4⟩=>by
    grind[MS]
   have hu:AV (λb=>MS N h ρ b) w' W:=hU.mono λb S hx=>by
    grind[MS]
   have yK:∀b,MS N h ρ b->MS N h ρ b/\Γ.ng<=b:=λb a=>⟨a,(g.lt2 a).2⟩
   have HW:A9 P Γ (λb=>b<W.heap.size/\¬MO h0 ρ' b/\¬(b<w'.heap.size/\¬MS (MS N h ρ) h0 ρ' b)) h0 ρ' W:=g1.foreign hu yK Xd λb a=>⟨a.1,zRb λz=>a.2.2<|lo b z⟩
   have ni:BJ (MS (MS N h ρ) h0 ρ') w' ρ' ((θ m).map c) lb:=⟨by simp[z],λj hj=>by
    simp_all⟩
   have nj:=ni.out<|BW.foreign (Γ:=Γ) hu yK Xd;have ϑ:=s Ϙ rfl;have e3:fn.ntmps-(m+1)=fn.ntmps-F (.yl Ϙ.l::(θ m).map c):=Z3
   rw[e3]at ϑ
   refine z6 X a ϑ HW (BJ.append (l:=[.yl Ϙ.l]) (t:=#[.func (.yield l) #[] #[]]) ⟨rfl,λj hj=>by
    have:j=0:=Nat.lt_one_iff.1 hj;subst this;rfl⟩ nj) ⟨_,_,nU,⟨⟨λb a hr=>hr.2<|.inr a,λb a=>zI0 (a.elim (S b) λh=>h.1) hU.size⟩,lo,λ_ h=>h,λ_=>Iff.rfl⟩⟩ ?_
   rintro e S' ρ2 N' Y' a' r n q2 x
   have K:∃v,(results fn a'.tmps).run P r=.ok v r/\∃G R,EH G R r/\((Ϙ.J (F encs) G R r/\Uo (.returned v) G R r)∨((∃ϛ,Ending.returned v=.returned ϛ)/\Ϙ.Jx G R r)):=by
    obtain⟨_,(rfl|rfl)⟩:=n <;> obtain⟨G',R',k1,k2⟩:=x
    ·exact⟨_,results_none Ts _ _ _,G',R',k2.sh,.inl ⟨k1,_,rfl⟩⟩
    ·exact⟨_,results_none Ts _ _ _,G',R',k2.sh,.inr ⟨⟨_,rfl⟩,k1⟩⟩
   cases e with
   |normal=>exact K
   |ret=>exact K
   |exit id=>exact τ n.1 Z3
   |goto t=>exact τ n.1 Z3
   |panic ch=>exact τ n.1 Z3
   |outgrown=>exact τ n.1 Z3
  ·rcases hm with hm|hm
   ·exact a.2<|.inl<|.inl hm
   ·rcases MO.snoc g hm with hm|hm
    ·exact a.2<|.inl<|.inr hm
    ·exact a.2<|.inr hm
section
variable{P:ν}{Γ:A1}
def MC:O KI->M (υ Oper×O KI)
 | .code (.region _ ops T)::k=>Z (ops,k)
 |_=>A
def ki(Q σ:Θ)(ϙ:E)(r:O DV×E×St×St×O Prop):O DV×E×O DV×DH×O DV×DH×O Prop×ζ:=(r.1,r.2.1,(Proofs.YtnkpdcmbppkkpaaGreatDoor.comp Q σ r.2.2.1).fr,(Proofs.YtnkpdcmbppkkpaaGreatDoor.comp Q σ r.2.2.1).h,(Proofs.YtnkpdcmbppkkpaaGreatDoor.comp Q σ r.2.2.2.1).fr,(Proofs.YtnkpdcmbppkkpaaGreatDoor.comp Q σ r.2.2.2.1).h,r.2.2.2.2,Kg σ ϙ (F r.2.2.1.h)&&Kg σ ϙ (F r.2.2.2.1.h))
variable{i:E}
def A2.yieldAt{ϙ:E}{Ϙ:Bm P}{Q:QY P Γ ϙ}{S:St}{K k:O KI}{ops:υ Oper}(m:DQ η P)(b:MC K=Z (ops,k))(n:CY ops=D)(p:E)(w:BM){x:O DV}(a σ:Θ)(e:O DV)(f:DH)(g:O DV)(j:DH)(vs:O Prop)
 (h:(PM P Γ ops p S w).map (ki a σ ϙ)=Z (x,Ϙ.l,e,f,g,j,vs,D)) (t:BU vs) (o:Ϙ.encs[i]?=Z x) (hc:JH k=D) (q:A2 P Γ η A ϙ (Ϙ.Y Γ ϙ<|i+1) Q k ⟨e,f⟩) (N:A2 P Γ η A ϙ (Ϙ.X Γ ϙ) Q k ⟨g,j⟩):A2 P Γ η A ϙ (Ϙ.Y Γ ϙ i) Q K S:=by
 unfold MC at b;split at b
 ·cases b;cases c:PM P Γ ops p S w with
  |none=>rw[c]at h;cases h
  |some r=>
   obtain⟨xs,l,ST,s,Cc⟩:=r;rw[c]at h;simp only[zMz,ki,zK0,zLE,zAx]at h;obtain⟨rfl,rfl,rfl,rfl,rfl,rfl,rfl,v,R⟩:=h;exact Tr.yield m n c t o (BV.le (A6.comp a σ ST v) hc q)<|BV.le (A6.comp a σ s R) hc N
 ·cases b
variable{α β:Type}
theorem MQ{o:M α}{f:α->β}{r:β}(h:o.map f=Z r):∃a,o=Z a/\r=f a:=by
 cases o with
 |none=>cases h
 |some a=>grind
theorem YG{l:O β}{f:α->β}{x:α}{r:O α}(hd:l.drop i=(x::r).map f):l[i]?=Z (f x)/\i+1<=F l/\l.drop (i+1)=r.map f:=by
 grind[List.drop_eq_nil_of_le,List.drop_eq_getElem_cons]
def Q7{l:O β}{f:α->β}(hi:i<=F l)(z:l.drop i=([]:O α).map f):i=F l:=by
 have:=congrArg List.length z;simp at this;omega
end
def BY(x:U):O DV:=[.int .i64 x]
def Q5(x:Δ):O DV:=[.int .i64 x.1,.int .i64 x.2]
end
section
variable{P:ν}{Γ:A1}
end
end Go.Proofs.YtnkpdcmbppkkpaaGreatDoor
