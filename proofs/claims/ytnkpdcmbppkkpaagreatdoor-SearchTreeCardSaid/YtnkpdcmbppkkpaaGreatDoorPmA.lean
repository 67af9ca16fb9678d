/- Part 1 of 8 of what the proofs of these laws stand on. -/
import Derived.WalkKit
import Derived.WalkSpells
import Derived.WalkLawsBesides
import Derived.Lib.Hide
import Derived.OrdersHeld
import Derived.Deep.RegionHeld
import Derived.BigQuiet
import Derived.OrdersIn
import Derived.TacticsIn
import Derived.RangeFuncOwn
import Derived.RangeFuncNested
import Derived.RangeFuncCalls
import Derived.Laws.IdiomRangeMap
import Derived.Laws.Cells
import Derived.Laws.Cover3
import Derived.Laws.StructEq
import Derived.ChangeKeysEq
import Derived.RowKit
import Derived.Deep.AppendSrc
import Derived.Laws.MakeOwn
import Derived.Great.BuildSlice
import Derived.Sort.LoopGhostIn
set_option linter.all false
open Bool renaming false->D,true->T
open Decidable renaming decide->H
open Go renaming World->κ,Value->μ,Program->ν,TypeId->ψ,execOp->ω
open Go.Fence renaming wide->η
open Inhabited renaming default->ξ
open List renaming length->F,getD->M,replicate->d,range->θ
open Option renaming none->V,some->Z
open _root_ renaming Option->A,ite->C,Int->E,List->O,Nat->U,Bool->ζ,absurd->τ,Array->υ
namespace Go.Proofs.YtnkpdcmbppkkpaaGreatDoor
variable{p:Prop}
def Z0(h:p:=by unfold Ar;kernel_rfl):p:=h
def Z1(h:p:=by unfold Bz;kernel_rfl):p:=h
def Z2(h:p:=by omega):p:=h
def Z3(h:p:=by simp):p:=h
theorem Z4(h:p:=by grind):p:=h
def Z5(h:p:=by kernel_rfl):p:=h
def Z6(h:p:=by decide):p:=h
def Z7(h:p:=by simp;omega):p:=h
abbrev Ξ:=O E
abbrev Ω:=O ζ
abbrev Ψ:=U->Prop
abbrev Θ:=O U
abbrev Δ:=E×E
abbrev X0:=A<|O Ξ×O Δ×ζ
abbrev X1:=A<|Ω×U×U×Ξ×ζ
abbrev X2:=A<|(O Ξ)×ζ
abbrev X3:=A<|(O Ξ)×E
abbrev X4:=A<|Ω×U×U×Ξ
abbrev X5:=A<|E×Ξ×ζ
abbrev X6:=A<|Ω×Ω×ζ×Ξ
abbrev X7:=A<|O<|Δ
abbrev X8:=A<|ζ×E
abbrev X9:=A<|E×ζ
abbrev W0:=A<|U×U
abbrev W5:=A<|ζ×Ξ
abbrev W6:=A<|Ξ×ζ
abbrev W7:=A<|Ξ×E
abbrev W8:=A<|E×Ξ
abbrev W9:=A<|U×Θ
end Go.Proofs.YtnkpdcmbppkkpaaGreatDoor
namespace Go.Proofs.YtnkpdcmbppkkpaaGreatDoor
open Go.RowKit
abbrev zAf:=@Nat.le_refl
abbrev zMU:=@Go.World.block_lt_of_cell?
section
def A9(w w':κ):Prop:=Below w.heap.size w w'
theorem A9.refl(w:κ):A9 w w:=Below.refl _ _
def A9.trans{a b c:κ}(h:A9 a b)(k:A9 b c):A9 a c:=Below.trans h<|Below.mono k h.size
def A9.alloc(w:κ)(o:Obj):A9 w<|w.alloc o:=(Below.refl _ _).alloc (zAf _) o
variable{w w':κ}
def A9.allocR(h:A9 w w')(o:Obj):A9 w<|w'.alloc o:=h.trans<|A9.alloc w' o
def A9.drewR(h:A9 w w'):A9 w w'.drew:=Below.drew h
def A9.size(h:A9 w w'):w.heap.size<=w'.heap.size:=Below.size h
theorem A9.cells(h:A9 w w'):∀b o,b<w.heap.size->w'.cell? ⟨b,o,V⟩=w.cell? ⟨b,o,V⟩:=
 λb o a=>Below.cell h (p:=⟨b,o,V⟩) a
theorem A9.cell(h:A9 w w'){b o:U}{u:μ}(hc:w.cell? ⟨b,o,V⟩=Z u):w'.cell? ⟨b,o,V⟩=Z u:=by
 rw[h.cells b o<|zMU w ⟨b,o,V⟩ hc];exact hc
def EE(b:ζ)(e:E):E:=C b 0 e
def zQC(e:E):EE T e=0:=rfl
structure AE where
 kind:E
 ce:Ξ
 set:E
 other:E
 lo:E
 hi:E
 ru:Ξ
 rule:E
 spot:E
 deriving DecidableEq,Inhabited
structure AA where
 ce:E
 sy:E
 va:Ξ
 nb:O Ξ
 cons:O AE
 deriving DecidableEq,Inhabited
end
abbrev zAB:=@if_pos
abbrev zAK:=@Bool.and_eq_true
abbrev zAt:=@if_neg
abbrev zB1:=@beq_iff_eq
abbrev zCz:=@Bool.or_eq_true
abbrev zLX:=@Go.Sem.run_bind
abbrev zMe:=@Bool.false_eq_true
abbrev zTs:=@Go.mem_ready
section
def UL:Op->ζ
 | .move _| .assign _| .pick ..| .load ..| .binOp ..| .unOp ..| .convert ..| .makeFunc ..| .slice ..| .fieldAddr ..| .field ..| .indexAddr ..| .index ..| .extract ..| .build ..| .lookup ..| .makeInterface ..| .nilCheck _| .typeAssert .. =>T
 | .call c=>match c.callee with
  | .builtin .len| .builtin .cap| .builtin .min| .builtin .max=>T
  |_=>D
 |_=>D
variable{n:Next}{w w':κ}{P:ν}
theorem TS{α:Type}{s:Sem α}{f:α->μ}(h:(s>>=λx=>(pure<|.value<|f x:Sem Next)).run P w=.ok n w'):∃v,n=.value v:=by
 rw[zLX]at h;cases l:s.run P w with
 |ok v w1=>rw[l]at h;simp only[Result.andThen]at h;cases h;exact⟨_,rfl⟩
 |halt x w1=>simp_all
theorem zJG{ρ:Operand->μ}{o:Oper}(g:UL o.op=T)(h:(ω ρ o).run P w=.ok n w'):∃v,n=.value v:=by
 unfold ω at h;cases t:o.op <;> rw[t]at g h <;> simp only[UL,zMe]at g
 all_goals first|exact TS (f:=λx=>x) h|(cases h;exact⟨_,rfl⟩)|skip
 ·rename_i c x y;exact TS (s:=asBool<|ρ c) (f:=λb=>C b (ρ x)<|ρ y) h
 ·rename_i x
  have k:∀{α:Type} (s:Sem α) (f:α->Sem Next) (w0:κ),(∀a w1,(f a).run P w1=.ok n w'->∃v,n=.value v)->(s>>=f).run P w0=.ok n w'->∃v,n=.value v:=by
   intro α s f w0 u j;rw[zLX]at j;cases z:s.run P w0 with
   |ok v w1=>rw[z]at j;exact u _ _ j
   |halt x w1=>simp_all
  have i:(runtimePanic .nilDeref:Sem Next).run P w=.ok n w'->∃v,n=.value v:=by
   simp_all[runtimePanic]
  simp only at h;split at h
  ·exact i h
  ·exact i h
  ·exact i h
  ·split at h
   ·exact i h
   ·refine k _ _ _ ?_ h;intro p w1 G;refine k _ _ _ ?_ G;intro q w2 l;split at l
    ·simp_all
    ·cases l;exact⟨_,rfl⟩
   ·cases h;exact⟨_,rfl⟩
  ·cases h;exact⟨_,rfl⟩
 ·rename_i c;replace h:(resolve ρ c o.type>>=λϚ=>invoke Ϛ.target Ϛ.args).run P w=.ok n w':=h;rw[zLX]at h;unfold resolve at h;cases hc:c.callee with
  |value f=>rw[hc]at g;simp at g
  |invoke r m=>rw[hc]at g;simp at g
  |builtin b=>
   rw[hc]at g h;have e:∀Ϛ:Deferred,(pure Ϛ:Sem Deferred).run P w=.ok Ϛ w:=λ_=>rfl
   simp only[e,Result.andThen]at h;unfold invoke at h;cases b <;> simp at g <;> exact TS (f:=λx=>x) h
structure aj(w:κ) where
 W:κ
 le:A9 w W
def V2(w:κ):κ->Prop:=λw'=>∃x:aj w,w'=x.W
def V2.iff :V2 w w'↔A9 w w':=⟨λ⟨x,e⟩=>e▸x.le,λh=>⟨⟨w',h⟩,rfl⟩⟩
def A9.toDrew(w:κ):A9 w w.drew:=A9.drewR<|A9.refl w
section
variable{P:ν}{ops:υ Oper}{Q:Exit->Act->κ->Prop}
theorem zCy{w:κ}{o:Oper}{a:Act}{v:μ}(b:UL o.op=T)(R:Region.wanted o (yielded ops a.tmps)=T)
 (h:∀w',V2 w w'->o.quietAt P a (V2 w) w' v):YieldsIf P ops (A9 w) o v a:=by
 refine .inl ⟨R,λw' s=>?_⟩;have:=h w'<|V2.iff.2 s;unfold Oper.quietAt at this;cases i:(ω a.eval o).run P w' with
 |halt x w1=>grind[Oper.quietUpon]
 |ok n w1=>
  obtain⟨u,rfl⟩:=zJG b i;rw[i]at this;obtain⟨rfl,rfl⟩:=this;rfl
def NP(Q:Exit->Act->κ->Prop):Exit->Act->κ->Prop
 | .panic _,_,_=>False
 |e,a,w=>Q e a w
def NP.put(c:O PanicEntry)(a:Act)(Ϛ:A Tmp)(v:μ)(w:κ)(h:NP Q (.panic c) (a.put Ϛ v) w):NP Q (.panic c) a w:=h.elim
def HO(ops:υ Oper)(o:υ ζ):Prop:=∀(j:U) (Q:Oper),ops[j]?=Z Q->o.getD j D=T->∀e∈Q.after,Region.binds .any e=T->o.getD e.on D=T
theorem HO.set{o:υ ζ}{i:U}(h:HO ops o)(hi:i∈Region.ready .any ops o):HO ops<|o.setIfInBounds i T:=by
 obtain⟨_,oi,hoi,SP⟩:=zTs.1 hi;intro j Q g m e a b
 by_cases r:i=j
 ·grind[getD_set_true]
 ·rw[getD_set_ne D r]at m;exact getD_set_true<|h j Q g m e a b
def Gu(ops:υ Oper):U->U->U->ζ
 |0,_,_=>D
 |n+1,t,i=>match ops[t]? with
  |none=>D
  |some o=>o.after.any λe=>Region.binds .any e&&(e.on==i||Gu ops n e.on i)
theorem aw{a:υ ζ}(hc:HO ops a):∀(n t i:U) (o:Oper),ops[t]?=Z o->(∀e∈o.after,Region.binds .any e=T->a.getD e.on D=T)->Gu ops n t i=T->a.getD i D=T
 |0,_,_,_,_,_,h=>by simp[Gu]at h
 |n+1,t,i,o,x,v,h=>by
  simp only[Gu,x]at h;obtain⟨e,f,b⟩:=Array.any_eq_true'.1 h;simp only[zAK,zCz,zB1]at b;obtain⟨b,h1|h1⟩:=b
  ·rw[←h1];exact v e f b
  ·cases c:ops[e.on]? with
   |none=>cases n <;> simp[Gu,c]at h1
   |some Q=>exact aw hc n e.on i Q c (hc e.on Q c<|v e f b) h1
def CJ(ops:υ Oper):Θ->O Oper
 |[]=>[]
 |i::l=>match ops[i]? with|some o=>o::CJ ops l|none=>CJ ops l
def Wi(ops:υ Oper)(n:U->ζ):Θ->υ ζ->ζ
 |[],_=>T
 |i::l,a=>(Region.ready .any ops a).contains i&&Region.free .any ops a i&&(match ops[i]? with|some o=>UL o.op|none=>D)&&
  ((θ ops.size).all λj=>!n j||Gu ops ops.size j i)&&Wi ops n l (a.setIfInBounds i T)
def NR(l:Θ)(o:υ ζ):υ ζ:=l.foldl (λs i=>s.setIfInBounds i T) o
def Ta(ops:υ Oper):Θ->υ ζ->ζ
 |[],o=>(Region.ready .any ops o).isEmpty
 |t::W,o=>Region.ready .any ops o== [t]&&Ta ops W (o.setIfInBounds t T)
def Wj(ops:υ Oper)(n:U->ζ):O (Θ×U)->Θ->Θ->υ ζ->ζ
 |[],w,b,o=>Wi ops n w o&&((θ ops.size).all λj=>n j||(NR w o).getD j T)&&Ta ops b (NR w o)
 |(y,i)::k,w,b,o=>Wi ops n y o&&(Region.ready .any ops (NR y o)== [i])&&Wj ops n k w b ((NR y o).setIfInBounds i T)
def U5:O (Θ×U)->Θ->U
 |[],w=>F w
 |(y,_)::k,w=>F y+(1+U5 k w)
def lH(ops:υ Oper)(J:O<|Θ×U)(w b:Θ):ζ:=Region.noSelect ops&&U5 J w+F b==ops.size&&Wj ops (λj=>b.contains j) J w b (Array.replicate ops.size D)
def js{ϛ:κ->Prop}:∀(l:O Oper) (a:Act) (K b:Act->Prop),(∀a,K a->b a)->wpQuiet P ops ϛ K l a->wpQuiet P ops ϛ b l a
 |[],a,K,b,hk,h=>hk a h
 |o::l,a,K,b,hk,h=>by
  unfold wpQuiet at*
  by_cases R:Region.wanted o (yielded ops a.tmps)=T
  ·rw[zAB R]at h⊢;exact Oper.quiet_mono (λa h=>js l a K b hk h) h
  ·rw[zAt R]at h⊢;exact js l _ K b hk h
end
end
abbrev zAM:=@Array.getElem?_eq_some_iff
abbrev zCr:=@List.mem_singleton
abbrev zCv:=@Nat.lt_or_ge
abbrev zCx:=@Nat.zero_add
abbrev zMi:=@Go.Oper.semAt_eq
abbrev zN6:=@if_true
abbrev zOS:=@Array.getElem?_eq_getElem
abbrev zTL:=@List.length_nil
abbrev zTP:=@Go.wpOpIn_mono
abbrev zT4:=@Array.mem_of_getElem?
def Ca(ops:υ Oper):ζ:=ops.all λo=>match o.op with
 | .defer _=>D
 |_=>T
theorem IR{ops:υ Oper}(h:Ca ops=T){j:U}{o:Oper}(g:ops[j]?=Z o):∀c,o.op≠.defer c:=by
 intro c hc;have z:o∈ops:=zT4 g;have:=Array.all_eq_true'.1 h o z;rw[hc]at this;cases this
section
variable{ϖ:Fence}{n:U}{P:ν}{ops:υ Oper}{Q:Exit->Act->κ->Prop}
variable{w:κ}{K:Act->κ->Prop}{a:Act}{v:μ}{i:U}{S:κ->Prop}
theorem al{o:Oper}(hF:∀f,ϖ.fn f)(hd:∀c,o.op≠.defer c)(hi:ops[i]?=Z o)(hy:YieldsIf P ops S o v a)
   (hS:S w) (h:K (a.put o.dst v) w):wpOpIn ϖ n P ops Q i K a w:=by
 unfold Go.wpOpIn;simp only[hi];rcases hy with⟨R,hv⟩|⟨R,rfl⟩
 ·simp_all[Oper.wpIn,zMi,Oper.uponIn]
 grind
theorem sF{j:U}{e g:Oper}(p:∀f,ϖ.fn f)(s:∀c,g.op≠.defer c)(q:ops[j]?=Z g)(t:e.apart ops g=T)
 (i:∀cs b,e.op≠.select cs b) (k:∀cs b,g.op≠.select cs b)
 (y:∀c a w,Q (.panic c) (a.put e.dst v) w->Q (.panic c) a w)   
 (hy:YieldsIf P ops S e v a) (h:wpOpIn ϖ n P ops Q j K (a.put e.dst v) w):
 wpOpIn ϖ n P ops Q j (λo w'=>YieldsIf P ops S e v o/\K (o.put e.dst v) w') a w:=by
 obtain⟨l,h2,m⟩:=Oper.apart_spec t
 have keep:∀(a:Act),YieldsIf P ops S e v a->∀u,YieldsIf P ops S e v<|a.put g.dst u:=λa hy u=>
  hy.of_same (execOp_put e i a g.dst u m) (wanted_put e a g.dst u m)
 have keepD:∀Ϛ,YieldsIf P ops S e v { a with defers:=Ϛ::a.defers }:=λϚ=>hy.of_same rfl rfl
 unfold wpOpIn at*;simp only[q]at*;rw[wanted_put g a e.dst v l]at h;split
 ·rename_i R;simp only[R,zN6]at h;unfold Oper.wpIn at*;refine⟨λf _=>p f,?_⟩;have h:=h.2;rw[zMi _ _ _ s,execOp_put g k a e.dst v l]at h;rw[zMi _ _ _ s]
  generalize (ω a.eval g).run P w=r at*
  cases r with
  |ok x w'=>
   cases x <;> simp only[Oper.uponIn]at h⊢
   case value u=>grind[Act.put_comm]
   case skip=>grind[Act.put_comm]
   case defer Ϛ=>
    grind[Act.put_comm,Act.put_defers]
   case enter f args=>
    grind[CallsIn.mono,Act.put_comm]
   case row row args=>grind[Act.put_comm]
   grind[RoundIn.mono,Act.put_comm]
  |halt x w'=>
   cases x <;> simp only[Oper.uponIn]at h⊢
   case panic u=>exact y _ _ _ h
 grind[Act.put_comm]
theorem zC3(h:wpOpIn ϖ n P ops (NP Q) i K a w):wpOpIn ϖ n P ops Q i K a w:=by
 unfold wpOpIn at*;split
 ·grind
 ·rename_i o f;simp only[f]at h;have m:LetsOut (NP Q)->LetsOut Q:=λ⟨a,w,h⟩=>⟨a,w,h⟩
  by_cases R:Region.wanted o (yielded ops a.tmps)=T
  ·rw[zAB R]at h⊢;unfold Oper.wpIn at*;refine⟨h.1,?_⟩;have h:=h.2
   generalize (o.semAt ϖ.round a.eval).run P w=r at*
   cases r with
   |ok x w'=>
    cases x <;> simp only[Oper.uponIn]at h⊢ <;> first|exact h|skip
    ·refine⟨h.1,CallsIn.mono h.2 λe g b=>?_⟩;cases e with
     |returned v=>exact b
     |panicked c=>exact b.elim
     |outgrown=>exact m b
    ·refine⟨h.1,RoundIn.mono h.2 λe g b=>?_⟩;cases e with
     |returned v=>exact b
     |panicked c=>exact b.elim
     |outgrown=>exact m b
   |halt x w'=>cases x <;> simp only[Oper.uponIn]at h⊢;exact h.elim
  ·rw[zAt R]at h⊢;exact h
def Lx(ϖ:Fence)(n:U)(P:ν)(ops:υ Oper)(Q:Exit->Act->κ->Prop)(b:U->ζ)(g:U)(S:κ->Prop):U->υ ζ->Act->κ->Prop
 |0,o,a,w=>(∀j,j<ops.size->b j=D->o.getD j T=T)/\wpAnyIn ϖ n P .any ops Q g o a w
 |m+1,o,a,w=>Region.ready .any ops o≠[]/\∀i∈Region.ready .any ops o,wpOpIn ϖ n P ops (NP Q) i (λc w'=>S w'/\Lx ϖ n P ops Q b g S m (o.setIfInBounds i T) c w') a w
variable{g:U}{b:U->ζ}
def jx{S':κ->Prop}(q:∀w,S' w->S w):∀(m:U) (o:υ ζ) (a:Act) (w:κ),
 Lx ϖ n P ops Q b g S' m o a w->Lx ϖ n P ops Q b g S m o a w
 |0,_,_,_,h=>h
 |m+1,_,_,_,h=>⟨h.1,λi hi=>zTP (λ_ _ h'=>⟨q _ h'.1,jx q m _ _ _ h'.2⟩)<|h.2 i hi⟩
def sL :∀(m:U) (o:υ ζ) (a:Act) (w:κ),Lx ϖ n P ops Q b g S m o a w->wpAnyIn ϖ n P .any ops Q (m+g) o a w
 |0,_,_,_,h=>by rw[zCx];exact h.2
 |m+1,_,_,_,h=>by
  rw[show m+1+g=(m+g)+1 by omega];exact⟨λh0=>τ h0 h.1,λi hi=>zTP (λc w' h'=>sL m _ c w' h'.2)<|zC3<|h.2 i hi⟩
variable{u:U->ζ}
theorem sK(J:∀f,ϖ.fn f)(K:Ca ops=T){k:U}{r:Oper}(hi:ops[i]?=Z r)(G:∀(j:U) (o:Oper) cs b,ops[j]?=Z o->o.op≠.select cs b)
 (hT:∀j,j<ops.size->u j=T->Gu ops k j i=T):
 ∀(m:U) (l:υ ζ) (a:Act) (w:κ),HO ops l->
  (∀j p,ops[j]?=Z p->j≠i->l.getD j T=D->(∀e∈p.after,Region.binds .any e=T->e.on≠i)->r.apart ops p=T)->
  i∈Region.ready .any ops l->YieldsIf P ops S r v a->S w->
  Lx ϖ n P ops Q u g S m (l.setIfInBounds i T) (a.put r.dst v) w->Lx ϖ n P ops Q u g S (m+1) l a w:=by
 intro m
 induction m with
 |zero=>
  intro l a w Y _ q hy N Ϙ;have R:=(zTs.1 q).1;refine⟨λh=>(by rw[h]at q;cases q),λj t=>?_⟩
  by_cases X:j=i
  ·grind[al,IR]
  ·exfalso
   obtain⟨x,p,s,W⟩:=zTs.1 t;have Yn:=(zAM.1 s).1;cases ht:u j with
   |true=>
    grind[aw]
   |false=>
    have:=Ϙ.1 j Yn ht
    simp_all[Ne.symm]
 |succ m ih=>
  intro l a w Y I q hy N Ϙ;have R:=(zTs.1 q).1;refine⟨λh=>(by rw[h]at q;cases q),λj t=>?_⟩
  by_cases X:j=i
  ·grind[al,IR]
  ·have h1:=Ϙ.2 j<|ready_mono t X;obtain⟨x,p,s,W⟩:=zTs.1 t
   have oh:∀e∈p.after,Region.binds .any e=T->e.on≠i:=λe he hb pL=>by
    grind
   have h2:=sF J (IR K s) s (I j p s X x oh) (λcs b=>G i r cs b hi) (λcs b=>G j p cs b s) (λc a w h=>NP.put c a _ _ w h) hy h1
   have y:∀k ok,ops[k]?=Z ok->k≠i->(l.setIfInBounds j T).getD k T=D->
    (∀e∈ok.after,Region.binds .any e=T->e.on≠i)->r.apart ops ok=T:=λk ok hk Ym Iw SG=>by
    refine I k ok hk Ym ?_ SG
    by_cases pE:j=k
    ·subst pE;exact x
    simp_all
   refine zTP (λa' w' z=>⟨z.2.1,ih (l.setIfInBounds j T) a' w' (Y.set t) y (ready_mono q<|Ne.symm X) z.1 z.2.1 ?_⟩) h2
   grind[Array.setIfInBounds_comm]
def TZ(ϖ:Fence)(n:U)(P:ν)(ops:υ Oper)(Q:Exit->Act->κ->Prop):Θ->Act->κ->Prop
 |[],a,w=>Q .normal a w
 |t::W,a,w=>wpOpIn ϖ n P ops Q t (TZ ϖ n P ops Q W) a w
def bw(y:Θ)(b w:κ):κ:=match y with
 |[]=>b
 |_=>w
def SK(ϖ:Fence)(n:U)(P:ν)(ops:υ Oper)(Q:Exit->Act->κ->Prop):κ->O (Θ×U)->Θ->Θ->Act->κ->Prop
 |_,[],e,c,a,w=>wpQuiet P ops (λw'=>∃x:aj w,w'=x.W) (λo=>TZ ϖ n P ops Q c o w) (CJ ops e) a
 |b,(y,i)::k,e,c,a,w=>wpQuiet P ops (λw'=>∃x:aj w,w'=x.W) (λo=>wpOpIn ϖ n P ops (NP Q) i (λg f=>A9 (bw y b w) f/\SK ϖ n P ops Q (bw y b w) k e c g f) o w) (CJ ops y) a
def kN:∀(b:Θ) (o:υ ζ) (a:Act) (w:κ),Ta ops b o=T->TZ ϖ n P ops Q b a w->wpAnyIn ϖ n P .any ops Q (F b) o a w
 |[],o,a,w,hk,h=>⟨by simpa[Ta]using hk,h⟩
 |t::W,o,a,w,hk,h=>by
  simp only[Ta,zAK,zB1]at hk;refine⟨λh0=>(by rw[hk.1]at h0;cases h0),λi hi=>?_⟩;rw[hk.1,zCr]at hi;subst hi;exact zTP (λc w' h'=>kN W _ c w' hk.2 h') h
theorem cE(k:∀f,ϖ.fn f)(c:Ca ops=T){e:U->ζ}(p:Region.noSelect ops=T){next:Act->Prop}{m:U}:
 ∀(l:Θ) (b:υ ζ) (a:Act),HO ops b->Wi ops e l b=T->wpQuiet P ops (V2 w) next (CJ ops l) a->
  (∀r,HO ops (NR l b)->next r->Lx ϖ n P ops Q e g (A9 w) m (NR l b) r w)->Lx ϖ n P ops Q e g (A9 w) (F l+m) b a w
 |[],b,a,Y,_,h,s=>by
  simp only[zTL,zCx];exact s a Y h
 |i::l,b,a,Y,hk,h,s=>by
  simp only[Wi,zAK]at hk;obtain⟨⟨⟨⟨z,t⟩,q⟩,hT⟩,u⟩:=hk;have x:i∈Region.ready .any ops b:=by simpa using z
  have y:∀j,j<ops.size->e j=T->Gu ops ops.size j i=T:=λj hj ht=>by
   grind
  have G:F (i::l)+m=(F l+m)+1:=Z7
  rw[G];cases hi:ops[i]? with
  |none=>rw[hi]at q;simp at q
  |some o=>
   rw[hi]at q;simp only[CJ,hi]at h;unfold wpQuiet at h
   by_cases R:Region.wanted o (yielded ops a.tmps)=T
   ·rw[zAB R]at h;obtain⟨v,I,J⟩:=h;exact sK k c hi (Region.noSelect_spec p) y _ b a w Y (Region.free_spec hi t) x (zCy q R I) (A9.refl _)<|cE k c p l _ _ (Y.set x) u J s
   ·rw[zAt R]at h;exact sK k c hi (Region.noSelect_spec p) y _ b a w Y (Region.free_spec hi t) x (.inr ⟨by simpa using R,rfl⟩) (A9.refl _)<|cE k c p l _ _ (Y.set x) u h s
theorem z8(s:∀f,ϖ.fn f)(t:Ca ops=T)(v:Region.noSelect ops=T):
 ∀(J:O<|Θ×U) (e c:Θ) (o:υ ζ) (a:Act) (b w:κ),A9 b w->HO ops o->Wj ops u J e c o=T->SK ϖ n P ops Q b J e c a w->
  Lx ϖ n P ops Q u (F c) (A9 b) (U5 J e) o a w
 |[],e,c,o,a,b,w,p,Y,hk,h=>by
  simp only[Wj,zAK]at hk;obtain⟨⟨x,y⟩,z⟩:=hk
  have:=cE (m:=0) s t v e o a Y x h λg _ l=>⟨λj q ht=>by
   grind,kN c _ g w z l⟩
  refine jx (λW N=>p.trans N) _ _ _ _ ?_;simpa[U5]using this
 |(G,i)::I,e,c,o,a,b,w,p,Y,hk,h=>by
  simp only[Wj,zAK,zB1]at hk;obtain⟨⟨x,y⟩,z⟩:=hk
  have one:∀(g:Act) (k:κ),A9 k w->HO ops (NR G o)->wpOpIn ϖ n P ops (NP Q) i (λK r=>A9 k r/\SK ϖ n P ops Q k I e c K r) g w->
   Lx ϖ n P ops Q u (F c) (A9 k) (U5 I e+1) (NR G o) g w:=λg k FX R l=>by
   refine⟨λh0=>(by rw[y]at h0;cases h0),λj q=>?_⟩;have S:=q;rw[y,zCr]at q;subst q;refine zTP (λK r h'=>⟨h'.1,?_⟩) l;exact z8 s t v I e c _ K k r h'.1 (R.set S) z h'.2
  cases G with
  |nil=>
   have:=one a b p Y h;simpa[U5,Nat.add_comm,NR]using this
  |cons X ss=>
   refine jx (λW N=>p.trans N) _ _ _ _ ?_;refine cE s t v (X::ss) o a Y x h λg R l=>?_
   rw[Nat.add_comm 1];exact one g w (A9.refl w) R l
def sG{id:U}(k:∀f,ϖ.fn f)(J:O<|Θ×U)(c b:Θ)(z:P.follows .mixedOrders=T)(N:(lH ops J c b&&Ca ops)=T)
 (h:SK ϖ n P ops Q w.drew J c b a w.drew):(Code.region id ops T).wpIn ϖ n P Q a w:=by
 simp only[lH,zAK,zB1]at N;obtain⟨⟨⟨e,g⟩,i⟩,R⟩:=N
 have Y:HO ops<|Array.replicate ops.size D:=λj oj _ m=>by
  exfalso
  rcases zCv j ops.size with h|h
  ·simp[h]at m
  ·simp[h]at m
 have:=sL _ _ _ _<|z8 k R e J c b _ a w.drew w.drew (A9.refl _) Y i h;rw[g]at this;exact wpIn_region_any z this
theorem kO:∀(b:Θ) (a:Act) (w:κ),(∀t∈b,t<ops.size)->wpListIn ϖ n P ops Q (CJ ops b) a w->TZ ϖ n P ops Q b a w
 |[],_,_,_,h=>h
 |t::W,a,w,m,h=>by
  have v:ops[t]?=Z (ops[t]'(m t Z3)):=zOS _;simp only[CJ,v]at h;unfold TZ wpOpIn;simp only[v];unfold wpListIn at h;have z:∀a w,wpListIn ϖ n P ops Q (CJ ops W) a w->TZ ϖ n P ops Q W a w:=λa w h=>kO W a w (λt v=>m t<|by simp[v]) h
  by_cases R:Region.wanted (ops[t]'(m t Z3)) (yielded ops a.tmps)=T
  ·rw[zAB R]at h⊢;exact Oper.wpIn_mono z h
  grind
theorem zOd{e c:Θ}{b:κ}(ht:(c.all λt=>decide (t<ops.size))=T)
 (h:wpQuiet P ops (λw'=>∃x:aj w,w'=x.W) (λo=>wpListIn ϖ n P ops Q (CJ ops c) o w) (CJ ops e) a):
 SK ϖ n P ops Q b [] e c a w:=by
 refine js _ _ _ _ (λo h=>?_) h
 grind[kO]
end
abbrev zAO:=@Nat.le_trans
abbrev zAQ:=@Nat.lt_of_lt_of_le
abbrev zLW:=@List.mem_of_getElem?
abbrev zMV:=@Go.World.putObj_heap_other
abbrev zMk:=@List.mem_cons
abbrev zMu:=@Go.StepsIn.trans
abbrev zOa:=@Go.wpIn_mono
abbrev zOe:=@Go.fenced_calm
abbrev zTB:=@Go.stepR_block
abbrev zTC:=@Go.callsIn_wide
abbrev zTQ:=@if_false
abbrev zTd:=@Go.callsIn_of_wp_marks
abbrev zTt:=@Go.RowKit.Below.block
abbrev zUG:=@Go.leaves_stepsInM
section
structure AR(S:Ψ)(w w':κ):Prop where
 os:w'.os=w.os
 tape:w'.tape=w.tape
 output:w'.output=w.output
 size:w.heap.size<=w'.heap.size
 block:∀k,k<w.heap.size->¬S k->w'.heap[k]?=w.heap[k]?
theorem AR.refl(S:Ψ)(w:κ):AR S w w:=⟨rfl,rfl,rfl,zAf _,λ_ _ _=>rfl⟩
variable{a b c:κ}{S S':Ψ}
def AR.comp(h:AR S a b)(k:AR S' b c)(l:∀i,i<a.heap.size->S' i->S i):AR S a c:=
 ⟨k.os.trans h.os,k.tape.trans h.tape,k.output.trans h.output,zAO h.size k.size,
  λi hi s=>(k.block i (zAQ hi h.size) λe=>s<|l i hi e).trans<|h.block i hi s⟩
def AR.trans(h:AR S a b)(k:AR S b c):AR S a c:=h.comp k λ_ _ h=>h
theorem AR.mono(h:AR S a b)(l:∀i,i<a.heap.size->S i->S' i):AR S' a b:=
 ⟨h.os,h.tape,h.output,h.size,λi hi s=>h.block i hi λe=>s<|l i hi e⟩
def AR.ofExt(h:A9 a b):AR S a b:=⟨Below.os h,Below.tape h,Below.output h,Below.size h,λi hi _=>zTt h i hi⟩
def AR.toExt(h:AR S a b)(l:∀i,i<a.heap.size->¬S i):A9 a b:=⟨h.os,h.tape,h.output,h.size,λi hi=>h.block i hi<|l i hi⟩
def AR.alloc(h:AR S a b)(o:Obj):AR S a<|b.alloc o:=h.trans<|AR.ofExt<|A9.alloc b o
variable{p:Addr}
theorem AR.setCell(h:AR S a b)(c:p.block<a.heap.size->S p.block)(u:μ):AR S a<|b.setCell p u:=by
 refine h.comp (S':=λk=>k=p.block) ⟨rfl,rfl,rfl,?_,λk _ hk=>?_⟩ (λi hi e=>by cases e;exact c hi)
 ·simp_all
 grind[Below.heap_setCell]
def AR.putObj(h:AR S a b){l:U}(m:l<a.heap.size->S l)(o:Obj):AR S a<|b.putObj l o:=by
 refine h.comp (S':=λk=>k=l) ⟨rfl,rfl,rfl,Z3,λk _ hk=>zMV hk⟩ (λi hi e=>by cases e;exact m hi)
theorem AR.cell(h:AR S a b){u:μ}(l:¬S p.block)(hc:a.cell? p=Z u):b.cell? p=Z u:=by
 rw[World.cell?_of_block<|h.block p.block (zMU a p hc) l];exact hc
def DK(I:Ψ->Ψ->κ->Prop):Prop:=∀(G R y R':Ψ) (ϕ ϙ:κ),I G R ϕ->AR G ϕ ϙ->(∀k,y k->G k∨ϕ.heap.size<=k)->(∀k,R' k->R k∨G k∨ϕ.heap.size<=k)->(∀k,G k∨R k->y k∨R' k)->(∀k,y k->¬R' k)->(∀k,y k∨R' k->k<ϙ.heap.size)->I y R' ϙ
structure EX(G R:Ψ)(W:κ):Prop where
 dis:∀k,G k->¬R k
 lt:∀k,G k∨R k->k<W.heap.size
variable{ϕ:κ}{G R:Ψ}
def EX.upd{ϙ:κ}(h:EX G R ϕ)(t:AR S ϕ ϙ):EX G R ϙ:=⟨h.dis,λk hk=>zAQ (h.lt k hk) t.size⟩
def DK.same{I:Ψ->Ψ->κ->Prop}(h:DK I){ϙ:κ}(l:EX G R ϕ)(hi:I G R ϕ)(t:AR G ϕ ϙ):I G R ϙ:=
 h G R G R ϕ ϙ hi t (λ_ h=>.inl h) (λ_ h=>.inl h) (λ_ h=>h) l.dis (l.upd t).lt
def E4(ϙ:U):O Deferred->κ->Prop
 |[],_=>True
 |Ϛ::ds,w=>∃ϑ,Ϛ= { target:=.collected ϑ,args:=#[] }/\ϙ<=ϑ/\w.heap[ϑ]?=Z (.deferred<|Z [])/\(∀d'∈ds,d'.target≠.collected ϑ)/\E4 ϙ ds w
variable{w:κ}{ϙ:U}
def E4.upd{w':κ}(t:AR S w w'):∀{ds:O Deferred},E4 ϙ ds w->(∀k,ϙ<=k->S k->w.heap[k]? ≠Z (.deferred<|Z []))->E4 ϙ ds w'
 |[],_,_=>trivial
 |_::_,⟨ϑ,b,c,a,R,X⟩,l=>⟨ϑ,b,c,(t.block ϑ (zAM.1 a).1 λe=>l ϑ c e a).trans a,R,E4.upd t X l⟩
theorem E4.lt :∀{ds:O Deferred} (_:E4 ϙ ds w) {Ϛ:Deferred} {ϑ:U},Ϛ∈ds->Ϛ.target=.collected ϑ->ϑ<w.heap.size
 |_::_,⟨ϑ,h1,h2,h3,h4,X⟩,Ϛ,D',hm,v=>by
  rcases zMk.1 hm with rfl|hm
  ·grind
  ·exact E4.lt X hm v
def Lu(ϙ:U)(w W:κ):Prop:=AR (λk=>ϙ<=k/\w.heap[k]?=Z (.deferred<|Z [])) w W
variable{tmps:υ μ}{fn:Func}{P:ν}
theorem fH{ϖ:Fence}{n:U}{R:Ending->κ->Prop}{u:FrameMode}(t:u≠.run):∀(ds:O Deferred) (w:κ),E4 ϙ ds w->
 (∀W,Lu ϙ w W->LeavesIn ϖ n P fn tmps R [] u W)->LeavesInM ϖ n P fn tmps R ds u w
 |[],w,_,h=>h w<|AR.refl _ w
 |_::ds,w,⟨ϑ,b,c,a,f,X⟩,h=>by
  refine⟨t,.inl ⟨ϑ,_,by rw[b],run_takeDeferred a,?_⟩⟩;have z:AR (λk=>k=ϑ) w<|w.putObj ϑ<|.deferred V:=(AR.refl (λk=>k=ϑ) w).putObj (λ_=>rfl) _
  have j:∀{ds:O Deferred},(∀d'∈ds,d'.target≠.collected ϑ)->E4 ϙ ds w->E4 ϙ ds (w.putObj ϑ<|.deferred V):=by
   intro ds
   induction ds with
   |nil=>intro _ _;trivial
   |cons Ϛ ds ih=>
    intro hd ⟨D',g1,g2,g3,g4,g5⟩
    simp_all[zMV,E4]
  refine fH t ds _ (j f X) λW N=>h W ?_
  refine z.mono (S':=λk=>ϙ<=k/\w.heap[k]?=Z (.deferred<|Z [])) (λi _ e=>by cases e;exact⟨c,a⟩)|>.comp N λi hi g=>⟨g.1,?_⟩
  grind[World.putObj_heap_other]
def fF{R:Ending->κ->Prop}(ds:O Deferred)(w:κ)(z:E4 ϙ ds w)
 (h:∀W,Lu ϙ w W->∃v,(results fn tmps).run P W=.ok v W/\R (.returned v) W):LeavesInM η 0 P fn tmps R ds .returning w:=
 fH Z3 ds w z h
def J0(ϖ:Fence)(n:U)(P:ν)(fn:FuncId)(c:Code)(Q:Exit->Act->κ->Prop)(a:Act)(w:κ):Prop:=∀(b:Frame) (k:O Item) (cs:O Frame),b.roundOf=ϖ.round->ϖ.fn b.fn->ϖ.room (F cs+1+n)->b.fn=fn->∃e o w',Q e o w'/\ArrivesIn (Machine.fenced P ϖ) P (lone (b.atR a<|.code c::k) cs w) b k cs e o w'
section
variable{ϖ:Fence}{n:U}{P:ν}{fi:FuncId}{c:Code}{Q:Exit->Act->κ->Prop}{a:Act}{w:κ}
def Of(h:c.wpIn ϖ n P Q a w):J0 ϖ n P fi c Q a w:=λb k cs e f g _=>h b k cs e f g
def zC6(h:∀fi,J0 ϖ n P fi c Q a w):c.wpIn ϖ n P Q a w:=λb k cs e f g=>h b.fn b k cs e f g rfl
def TL{x y:Code}(h:J0 ϖ n P fi x (Exit.then (J0 ϖ n P fi y Q) Q) a w):J0 ϖ n P fi (.seq x y) Q a w:=by
 intro b k cs j g i m;have h0:(lone (b.atR a<|.code (.seq x y)::k) cs w).fenced P ϖ:=zOe g i rfl;obtain⟨e,u,v,f,c⟩:=h b (.code y::k) cs j g i m;cases e with
 |normal=>
  obtain⟨o,N,p,J,q⟩:=f b k cs j g i m;exact⟨o,N,p,J,.of_steps (.head h0 stepR_seq c) q⟩
 |exit id=>exact⟨_,u,v,f,.of_steps (.one h0 stepR_seq)<|.pass (x:=.code y) rfl (λ_ _=>.inl Z3) c⟩
 |goto l=>exact⟨_,u,v,f,.of_steps (.one h0 stepR_seq)<|.pass (x:=.code y) rfl (λ_ _=>.inl Z3) c⟩
 |ret=>exact⟨_,u,v,f,.of_steps (.one h0 stepR_seq)<|.pass (x:=.code y) rfl (λ_ _=>.inl Z3) c⟩
 |panic ch=>exact⟨_,u,v,f,.of_steps (.one h0 stepR_seq)<|.pass (x:=.code y) rfl (λ_ _=>.inl Z3) c⟩
 |outgrown=>exact⟨_,u,v,f,.of_steps (.one h0 stepR_seq)<|.pass (x:=.code y) rfl (λ_ _=>.inl Z3) c⟩
theorem zC8{id:U}(h:J0 ϖ n P fi c (Exit.inBlock id Q) a w):J0 ϖ n P fi (.block id c) Q a w:=by
 intro b k cs r i j s;have h0:(lone (b.atR a<|.code (.block id c)::k) cs w).fenced P ϖ:=zOe i j rfl;obtain⟨e,u,v,f,g⟩:=h b (.inBlock id::k) cs r i j s;cases e with
 |normal=>exact⟨.normal,u,v,f,.head h0 zTB<|zMu g<|.one (zOe i j rfl) stepR_inBlock⟩
 |exit y=>
  by_cases hid:y=id
  ·simp only[Exit.inBlock,hid,zN6]at f;exact⟨.normal,u,v,f,.head h0 zTB<|g.1 k<|by simp[exitTo,hid]⟩
  ·simp only[Exit.inBlock,hid,zTQ]at f;have this:(id==y)=D:=Z4
   have m:exitTo y (.inBlock id::k)=exitTo y k:=by simp[exitTo,this]
   exact⟨.exit y,u,v,f,λW hk=>.head h0 zTB (g.1 W<|by rw[m];exact hk),
    λx hk=>let⟨o,p,q⟩:=g.2 x (by rw[m];exact hk);⟨o,p,.head h0 zTB q⟩⟩
 |goto l=>
  have m:gotoIn l (.inBlock id::k)=gotoIn l k:=by simp[gotoIn]
  exact⟨_,u,v,f,λW hk=>.head h0 zTB (g.1 W<|by exact hk),
   λx hk=>let⟨o,p,q⟩:=g.2 x (by exact hk);⟨o,p,.head h0 zTB q⟩⟩
 |ret=>exact⟨_,u,v,f,.of_steps (.one h0 zTB) g⟩
 |panic ch=>exact⟨_,u,v,f,.of_steps (.one h0 zTB) g⟩
 |outgrown=>exact⟨_,u,v,f,.of_steps (.one h0 zTB) g⟩
variable{assign body:Code}
theorem zC7{g:Operand}{ps:υ Tmp}
 (h:ϖ.fn fi->∃(l:U) (mark:O Deferred) (i:κ) (Ϛ:Deferred) (z:κ) (f:FuncId) (args:υ μ) (j:κ),
  (Instr.enterLoop fi a.tmps ps assign body ϖ.round).run P w=.ok (l,mark) i/\
  (resolve a.eval (rangeCall g l) 0).run P i=.ok Ϛ z/\
  (∀x,Target.leads P z Ϛ.target Ϛ.args=Z x->ϖ.fn x)/\
  (invoke Ϛ.target Ϛ.args).run P z=.ok (.enter f args) j/\
  (ϖ.depth.isSome=T->1<=n)/\
  CallsIn ϖ (n-1) P f args j (rangePost ϖ n P l Q { a with defers:=mark++a.defers })):
 J0 ϖ n P fi (.rangeFunc g ps assign body) Q a w:=by
 intro b k cs y m o I;obtain⟨l,mark,i,Ϛ,z,f,args,j,J,Us,hlead,hinv,hn,K,u⟩:=h<|I▸m;rw[←y,←I]at J
 have h0:(lone (b.atR a<|.code (.rangeFunc g ps assign body)::k) cs w).fenced P ϖ:=by
  grind[fenced_lone,Fence.room_le,Frame.eval_atR,Frame.atR,Frame.about]
 have G:=stepR_rangeFunc (P:=P) (b:=b) (a:=a) (k:=k) (cs:=cs) (w:=w) J Us hinv;have p:ϖ.room<|F (b.atR { a with defers:=mark++a.defers } (.inRangeFunc l::k)::cs)+1+(n-1):=Fence.room_enter o hn;obtain⟨e,q,fr,hR,r,N,R⟩:=u (b.atR { a with defers:=mark++a.defers } (.inRangeFunc l::k)::cs) p;cases e with
 |outgrown=>
  obtain⟨a₀,w₀,s⟩:=hR;exact⟨.outgrown,a₀,w₀,s,.inr<|Outgrown.of_steps (.one G) r⟩
 |returned v=>
  have t:(lone fr (b.atR { a with defers:=mark++a.defers } (.inRangeFunc l::k)::cs) q).fenced P ϖ:=fenced_leaving (N▸K) p R;obtain⟨S,W,N7,X⟩:=hR
  have Y:StepsIn (Machine.fenced P ϖ) P (lone (b.atR a<|.code (.rangeFunc g ps assign body)::k) cs w)<|lone (b.atR { a with defers:=mark++a.defers } ((S.map Item.code).toList++k)) cs W:=by
   refine .head h0 G<|zMu r<|.head t ?_<|.one (zOe (fr:=b.atR { a with defers:=mark++a.defers } (.endRangeFunc l::k)) m o rfl)<|stepR_endRangeFunc N7;rw[←finish_atR_inRangeFunc l v];grind[step_leave_returned]
  cases S with
  |none=>exact⟨.normal,_,W,X,Y⟩
  |some c=>
   obtain⟨e',Hp,w₅,s,C6⟩:=X b k cs y m o;exact⟨e',Hp,w₅,s,.of_steps Y C6⟩
 |panicked Jq=>
  have t:(lone fr (b.atR { a with defers:=mark++a.defers } (.inRangeFunc l::k)::cs) q).fenced P ϖ:=fenced_leaving (N▸K) p R;refine⟨.panic Jq,_,q,hR,.inRangeFunc l::k,.head h0 G<|zMu r<|.one t ?_⟩;rw[←Frame.raise_atR];grind[step_leave_panicked]
theorem zR3{fn:Func}{args:υ μ}{R:Ending->κ->Prop}(q:P.funcs[fi]?=Z fn)(hb:fn.body=Z c)(k:ϖ.fn fi)
 (h:J0 ϖ n P fi c (bodyPostM ϖ n P fn R) { tmps:=args++Array.replicate (fn.ntmps-args.size) undef,defers:=[] } w) (u:ϖ.round=V:=by rfl):CallsIn ϖ n P fi args w R:=by
 refine⟨k,λcs i=>?_⟩
 let b:Frame:={ (ξ:Frame)with fn:=fi,kind:=.normal,roundOf:=V }
 have G:Frame.enter P fi args .normal=b.atR { tmps:=args++Array.replicate (fn.ntmps-args.size) undef,defers:=[] } [.code c]:=by
  grind[Frame.enter,Frame.atR]
 obtain⟨e,o,w',f,a⟩:=h b [] cs u.symm k i rfl;rw[←G]at a;cases e with
 |normal=>
  obtain⟨m,g,fr',hR,j,N,p⟩:=zUG o.defers .returning w' { b.atR o []with mode:=.returning } cs rfl rfl rfl q rfl k i f;exact⟨m,g,fr',hR,ComesIn.of_steps (zMu a<|.one (zOe (fr:=b.atR o []) k i rfl)<|stepR_end rfl) j,N,p⟩
 |ret=>
  obtain⟨r,s⟩:=a.1 rfl;obtain⟨m,g,fr',hR,j,N,p⟩:=zUG o.defers .returning w' { b.atR o r with mode:=.returning } cs rfl rfl rfl q rfl k i f;exact⟨m,g,fr',hR,ComesIn.of_steps s j,N,p⟩
 |panic t=>
  obtain⟨r,s⟩:=a;obtain⟨m,g,fr',hR,j,N,p⟩:=zUG o.defers (.panicking t) w' { b.atR o r with mode:=.panicking t } cs rfl rfl rfl q rfl k i f;exact⟨m,g,fr',hR,ComesIn.of_steps s j,N,p⟩
 |exit id=>exact f.elim
 |goto l=>exact f.elim
 |outgrown=>exact⟨.outgrown,w',b,f,a.resolve_left (by simp[b]),rfl,trivial⟩
def zHi(ϖ:Fence)(n:U)(P:ν)(l:U)(f:FuncId)(R:Ending->κ->Prop):Exit->Act->κ->Prop
 | .panic K,a,w=>∃fn,P.funcs[f]?=Z fn/\LeavesInM (ϖ.inRound l) n P fn a.tmps (λe w'=>e=.panicked K/\R e w') a.defers (.panicking K) w
 |e,a,w=>roundPost P l R e a w
def zHk{l:U}{f:FuncId}{tmps:υ μ}{R:Ending->κ->Prop}(G:ϖ.fn f)
 (h:assign.wpIn (ϖ.inRound l) n P (Exit.then (λu s=>∃q,(Instr.beginRound l).run P s=.ok () q/\body.wpIn (ϖ.inRound l) n P (zHi ϖ n P l f R) u q) λ_ _ _=>False)
  { tmps:=tmps,defers:=[] } w):
 RoundIn ϖ n P l f tmps assign body w R:=by
 refine⟨G,λc cs K=>?_⟩
 let b:Frame:={ (ξ:Frame)with fn:=f,kind:=.normal,roundOf:=Z l }
 have x:(ϖ.inRound l).room<|F (c::cs)+1+n:=K;have j:(ϖ.inRound l).fn b.fn:=G;obtain⟨e,u,s,i,k⟩:=h b [.beginRound,.code body] (c::cs) rfl j x;cases e with
 |normal=>
  obtain⟨q,y,Q⟩:=i
  have z:StepsIn (Machine.fenced P<|ϖ.inRound l) P (lone (b.atR u [.beginRound,.code body]) (c::cs) s)<|lone (b.atR u [.code body]) (c::cs) q:=
   .one (zOe (fr:=b.atR u [.beginRound,.code body]) j x rfl) (stepR_beginRound rfl y)
  obtain⟨S,N,W,J,m⟩:=Q b [] (c::cs) rfl j x;cases S with
  |normal=>
   obtain⟨v,a,o,hR⟩:=J;exact⟨.returned v,a,hR,(zMu k z).trans<|zMu m<|.one (zOe (fr:=b.atR N []) j x rfl)<|stepR_round_end rfl rfl o⟩
  |ret=>
   obtain⟨v,a,o,hR⟩:=J;obtain⟨p,g⟩:=m.2 rfl;exact⟨.returned v,a,hR,(zMu k z).trans<|zMu g<|.one (zOe (fr:=b.atR N<|.code .ret::p) j x rfl)<|stepR_round_ret rfl rfl o⟩
  |exit id=>
   obtain⟨v,a,o,hR⟩:=J;obtain⟨p,hk,g⟩:=m.2 rfl rfl;exact⟨.returned v,a,hR,(zMu k z).trans<|zMu g<|.one (zOe (fr:=b.atR N<|.code (.exit id)::p) j x rfl)<|stepR_round_exit rfl rfl hk o⟩
  |goto t=>
   obtain⟨v,a,o,hR⟩:=J;obtain⟨p,hk,g⟩:=m.2 rfl rfl;exact⟨.returned v,a,hR,(zMu k z).trans<|zMu g<|.one (zOe (fr:=b.atR N<|.code (.goto t)::p) j x rfl)<|stepR_round_goto rfl rfl hk o⟩
  |panic r=>
   obtain⟨fn,X,J⟩:=J;obtain⟨Y,YZ⟩:=m;obtain⟨e',C1,fr',⟨rfl,hR⟩,g,H3,I⟩:=zUG N.defers (.panicking r) W { b.atR N Y with mode:=.panicking r } (c::cs) rfl rfl rfl X rfl j x J;exact⟨.panicked r,C1,hR,(zMu k z).trans<|(zMu YZ g).trans<|.one (fenced_leaving (n:=n) (by rw[H3];exact j) x I)<|step_leave_panicked I⟩
  |outgrown=>exact J.elim
 |exit id=>exact i.elim
 |goto t=>exact i.elim
 |ret=>exact i.elim
 |panic r=>exact i.elim
 |outgrown=>exact i.elim
end
def zHh(Keep:Ψ)(I:κ->Prop)(x:Code->κ->Prop)(q:O PanicEntry->κ->Prop)(W:κ):Exit->Act->κ->Prop
 | .normal,_,K=>AR (λk=>¬Keep k) W K/\I K
 | .ret,_,K=>AR (λk=>¬Keep k) W K/\x .ret K
 | .exit id,_,K=>AR (λk=>¬Keep k) W K/\x (.exit id) K
 | .goto t,_,K=>AR (λk=>¬Keep k) W K/\x (.goto t) K
 | .panic c,a,K=>∃ϙ,E4 ϙ a.defers K/\∀b,Lu ϙ K b->AR (λk=>¬Keep k) W b/\q c b
 | .outgrown,_,_=>False
def jh(nv:Prop)(P:ν)(g:U)(lb:υ μ){X:Type}(ε:X->Ψ->κ->υ μ->Prop)(encs:O X)(HL:Ending->Ψ->Ψ->κ->Prop)(G0 Rd:Ψ)(w:κ):Prop:=∀(l:U) (J:U->Ψ->Ψ->κ->Prop) (Jx:Ψ->Ψ->κ->Prop) (W:κ), (∀i,DK<|J i)->DK Jx->AR (λk=>¬(G0 k∨Rd k)) w W->(∀i x args G R b,encs[i]?=Z x->ε x R b args->J i G R b->EX G R b->YieldAt η 0 P l args b λe K=>AR (λk=>¬(G k∨R k)) b K/\((e=.returned (.bool T)/\J (i+1) G R K)∨(e=.returned (.bool D)/\Jx G R K)))->J 0 G0 Rd W->(nv->∀G R W,¬Jx G R W)->CallsIn η 0 P g (#[.func (.yield l) #[] #[]]++lb) W λe K=>∃G R,EX G R K/\((J (F encs) G R K/\HL e G R K)∨((∃v,e=.returned v)/\Jx G R K))
def V1(nv np:Prop)(P:ν)(g:U)(lb:υ μ){X:Type}(ε:X->Ψ->κ->υ μ->Prop)(encs:O X)(HL:Ending->Ψ->Ψ->κ->Prop)(G0 Rd:Ψ)(w:κ):Prop:=∀(l:U) (J:U->Ψ->Ψ->κ->Prop) (Jx:Ψ->Ψ->κ->Prop) (u:O PanicEntry->Ψ->Ψ->κ->Prop) (W:κ), (∀i,DK<|J i)->DK Jx->(∀c,DK<|u c)->AR (λk=>¬(G0 k∨Rd k)) w W->(∀i x args G R b,encs[i]?=Z x->ε x R b args->J i G R b->EX G R b->YieldAt η 0 P l args b λe K=>AR (λk=>¬(G k∨R k)) b K/\((e=.returned (.bool T)/\J (i+1) G R K)∨(e=.returned (.bool D)/\Jx G R K)∨∃c,e=.panicked c/\u c G R K))->J 0 G0 Rd W->(nv->∀G R W,¬Jx G R W)->(np->∀c G R W,¬u c G R W)->CallsIn η 0 P g (#[.func (.yield l) #[] #[]]++lb) W λe K=>∃G R,EX G R K/\((J (F encs) G R K/\HL e G R K)∨((∃v,e=.returned v)/\Jx G R K)∨∃c,e=.panicked c/\u c G R K)
theorem YieldAt.mono{P:ν}{l:U}{args:υ μ}{w:κ}{R R':Ending->κ->Prop}(h:YieldAt η 0 P l args w R)(hR:∀e w',R e w'->R' e w'):YieldAt η 0 P l args w R':=by
 obtain⟨fn,tmps,N,body,a,c⟩:=h;exact⟨fn,tmps,N,body,a,c.mono hR⟩
def jh.gen{nv:Prop}{P:ν}{g:U}{lb:υ μ}{X:Type}{ε:X->Ψ->κ->υ μ->Prop}{encs:O X}{HL:Ending->Ψ->Ψ->κ->Prop}{G0 Rd:Ψ}{w:κ}(h:jh nv P g lb ε encs HL G0 Rd w):V1 nv True P g lb ε encs HL G0 Rd w:=
 λl J Jx Jp W hJ a _ t hy h0 o b=>(h l J Jx W hJ a t (λi x args G R f j k m n=>YieldAt.mono (hy i x args G R f j k m n) λe K ⟨N,z⟩=>⟨N,z.imp id λq=>q.resolve_right λ⟨c,_,q⟩=>b trivial c _ _ _ q⟩) h0 o).mono λe K ⟨G,R,N,z⟩=>⟨G,R,N,z.imp id .inl⟩
abbrev Qe:=@jh False
section
variable{P:ν}{X:Type}{ε:X->Ψ->κ->υ μ->Prop}{HL:Ending->Ψ->Ψ->κ->Prop}{encs:O X}{G0 Rd:Ψ}{ps:υ Tmp}{assign body:Code}{a:Act}{gf:U}{lb:υ μ}
def ae(P:ν)(ε:X->Ψ->κ->υ μ->Prop)(encs:O X)(ps:υ Tmp)(assign body:Code)(a:Act)(l:U)(I:U->Ψ->Ψ->κ->Prop)(e:Code->Ψ->Ψ->κ->Prop)(q:O PanicEntry->Ψ->Ψ->κ->Prop):Prop:=∀(G R:Ψ) (i:U) (x:X) (args:υ μ) (W:κ),encs[i]?=Z x->ε x R W args->I i G R W->EX G R W->(∃r,W.heap[l]?=Z (.loop r))->G l->assign.wpIn (Fence.wide.inRound l) 0 P (Exit.then (λu b=>∃K:Ψ->Ψ->κ->Prop,DK K/\AR (λk=>¬(G k∨R k)) W b/\K G R b/\∀S,K G R S->(∃r,S.heap[l]?=Z (.loop r))->body.wpIn (Fence.wide.inRound l) 0 P (zHh (λk=>G k∨R k) (I (i+1) G R) (λc=>e c G R) (λc=>q c G R) S) u S) λ_ _ _=>False) { tmps:=(ps.zip args).foldl (λt (p,v)=>t.setIfInBounds p v) a.tmps,defers:=[] } W
variable{nv np:Prop}
theorem wQ{w0 Q:κ}{l ϑ dd:U}{fn:FuncId}{loose:ζ}(oO:np∨∃f,P.funcs[fn]?=Z f)
 (hseq:V1 nv np P gf lb ε encs HL G0 Rd w0) (Yz:AR (λk=>¬(G0 k∨Rd k)) w0 Q) (Hl:∀k,G0 k∨Rd k->k<l/\k≠ϑ) (N8:∀k,G0 k->¬Rd k) (Ez:∀x∈encs,∀R W args,ε x R W args->args.size=ps.size)
 (m:LoopState->A Code->Loop) (CW:∀st pe,m st pe= { state:=st,pending:=pe,fn,tmps:=a.tmps,params:=ps,assign,body,defers:=dd })
 (Hi:Q.heap[l]?=Z (.loop<|m .ready V)) (hD1:loose=D->Q.heap[ϑ]?=Z (.deferred<|Z [])) (zt:ϑ≠l)
 (I:U->Ψ->Ψ->κ->Prop) (Ix:Code->Ψ->Ψ->κ->Prop) (X:O PanicEntry->Ψ->Ψ->κ->Prop) (hI:∀i,DK<|I i) (KY:∀c,DK<|Ix c) (SS:∀c,DK<|X c) (KU:nv->∀c G R W,¬Ix c G R W) (Mp:np->∀c G R W,¬X c G R W) (own:Ψ) (Ny:∀k,own k->k=l∨(loose=D/\k=ϑ)) (J:own l) (Yg:loose=D->own ϑ)
 (h0:I 0 (λk=>G0 k∨own k) Rd Q) (DY:ae P ε encs ps assign body a l I Ix X):
 CallsIn η 0 P gf (#[.func (.yield l) #[] #[]]++lb) Q λe N=>∃G R,EX (λk=>G k∨own k) R N/\(∀k,own k->¬G k)/\(loose=D->N.heap[ϑ]?=Z (.deferred<|Z []))/\
  ((I (F encs) (λk=>G k∨own k) R N/\HL e G R N/\N.heap[l]?=Z (.loop<|m .ready V))∨((∃v,e=.returned v)/\∃c,Ix c (λk=>G k∨own k) R N/\N.heap[l]?=Z (.loop<|m .done<|Z c))∨∃c,e=.panicked c/\X c (λk=>G k∨own k) R N):=by
 have dl:∀{W:κ} {r:Loop} {k:U},W.heap[l]?=Z (.loop r)->(loose=D->W.heap[ϑ]?=Z (.deferred<|Z []))->own k->k<W.heap.size:=λY h5 ho=>
  (Ny _ ho).elim (λe=>e▸(zAM.1 Y).1) λe=>e.2▸(zAM.1<|h5 e.1).1
 have shr:∀{G R:Ψ} {W:κ} {r:Loop},EX G R W->(∀k,own k->¬G k/\¬R k)->W.heap[l]?=Z (.loop r)->(loose=D->W.heap[ϑ]?=Z (.deferred<|Z []))->EX (λk=>G k∨own k) R W:=λhs s Y h5=>
  ⟨λk hk=>hk.elim (hs.dis k) λh=>(s k h).2,λk hk=>hk.elim (λh=>h.elim (λh=>hs.lt k<|.inl h)<|dl Y h5) λh=>hs.lt k<|.inr h⟩
 have E3:∀(Φ:Ψ->Ψ->κ->Prop) (r:Loop),DK Φ->DK λG R W=>Φ (λk=>G k∨own k) R W/\(∀k,own k->¬G k/\¬R k)/\W.heap[l]?=Z (.loop r)/\(loose=D->W.heap[ϑ]?=Z (.deferred<|Z [])):=by
  rintro Φ r hΦ G R G' R' ϕ ϙ ⟨h1,h2,Y,h5⟩ hu hg o Iw w p
  have s:∀k,own k->¬G' k/\¬R' k:=λk ho=>by
   grind
  have ga:=(hu.block l (dl Y h5 J) (h2 l J).1).trans Y;have h5':loose=D->ϙ.heap[ϑ]?=Z (.deferred<|Z []):=λq=>(hu.block ϑ (dl Y h5<|Yg q) (h2 ϑ<|Yg q).1).trans<|h5 q
  refine⟨hΦ _ R _ R' ϕ ϙ h1 (hu.mono λi _ h=>.inl h) (λk hk=>hk.elim (λh=>(hg k h).imp .inl id) λh=>.inl<|.inr h) (λk hk=>(o k hk).imp id λh=>h.imp .inl id) (λk hk=>?_) (λk hk=>hk.elim (w k) λh=>(s k h).2) λk hk=>hk.elim (λh=>h.elim (λh=>p k<|.inl h)<|dl ga h5') λh=>p k<|.inr h,s,ga,h5'⟩
  grind
 have hGl:∀k,G0 k∨Rd k->k<Q.heap.size:=λk h=>Nat.lt_trans (Hl k h).1 (zAM.1 Hi).1
 have G9:∀k,own k->¬G0 k/\¬Rd k:=λk ho=>by
  grind
 refine(hseq l
  (λi G R W=>I i (λk=>G k∨own k) R W/\(∀k,own k->¬G k/\¬R k)/\W.heap[l]?=Z (.loop<|m .ready V)/\(loose=D->W.heap[ϑ]?=Z (.deferred<|Z [])))
  (λG R W=>∃c,Ix c (λk=>G k∨own k) R W/\(∀k,own k->¬G k/\¬R k)/\W.heap[l]?=Z (.loop<|m .done<|Z c)/\(loose=D->W.heap[ϑ]?=Z (.deferred<|Z [])))
  (λc G R W=>X c (λk=>G k∨own k) R W/\(∀k,own k->¬G k/\¬R k)/\W.heap[l]?=Z (.loop { m .ready V with state:=.busy })/\(loose=D->W.heap[ϑ]?=Z (.deferred<|Z [])))
  Q (λi=>E3 (I i) _<|hI i) (λG R G' R' ϕ ϙ ⟨c,h⟩ hu hg o Iw w p=>⟨c,E3 (Ix c) _ (KY c) G R G' R' ϕ ϙ h hu hg o Iw w p⟩) (λc=>E3 (X c) _<|SS c) Yz ?_ ⟨h0,G9,Hi,hD1⟩ (λs G R W ⟨c,h,_⟩=>KU s c _ _ _ h) λs c G R W ⟨h,_⟩=>Mp s c _ _ _ h).mono ?_
 ·rintro i x args G R W g hE ⟨hi,s,q,w⟩ hs;have Ul:x∈encs:=zLW g;have p:l<W.heap.size:=(zAM.1 q).1;have Hf:=shr hs s q w;have hy:=run_yield (P:=P) (args:=args) q Z4;rw[CW]at hy;refine⟨fn,_,assign,body,hy,zHk trivial (zOa (DY _ R i x args W g hE hi Hf ⟨_,q⟩<|.inr J) ?_)⟩;rintro e a1 y hq;cases e <;> first|exact hq.elim|skip
  obtain⟨K,hK,Iy,gI,hb⟩:=hq;have zQ:AR (λk=>¬(G k∨R k)) W y:=Iy.mono λk _ h g=>h<|g.imp .inl id
  have q:=(Iy.block l p λh=>h<|.inl<|.inr J).trans q;have w:loose=D->y.heap[ϑ]?=Z (.deferred<|Z []):=λh=>(Iy.block ϑ (zAM.1<|w h).1 λg=>g<|.inl<|.inr<|Yg h).trans<|w h
  have p:l<y.heap.size:=zAQ p Iy.size;have fw:=Hf.upd Iy;refine⟨_,run_beginRound q (by rw[CW]),?_⟩;have C5:(y.putObj l<|.loop { m .ready V with state:=.busy }).heap[l]?=Z (.loop { m .ready V with state:=.busy }):=World.putObj_heap_same p;have I2:loose=D->(y.putObj l<|.loop { m .ready V with state:=.busy }).heap[ϑ]?=Z (.deferred<|Z []):=λh=>(zMV zt).trans<|w h
  have YY:AR (λk=>G k∨own k) y<|y.putObj l<|.loop { m .ready V with state:=.busy }:=(AR.refl _ y).putObj (λ_=>.inr J) _;refine zOa (hb _ (hK.same fw gI YY) ⟨_,C5⟩) ?_
  have z:∀(n:A Code) (b:κ),AR (λk=>¬((G k∨own k)∨R k)) (y.putObj l<|.loop { m .ready V with state:=.busy }) b->
   (Instr.endRound l n).run P b=.ok (.bool n.isNone) (b.putObj l<|.loop<|m (C n.isNone .ready .done) n)/\
   (b.putObj l<|.loop<|m (C n.isNone .ready .done) n).heap[l]?=Z (.loop<|m (C n.isNone .ready .done) n)/\
   (loose=D->(b.putObj l<|.loop<|m (C n.isNone .ready .done) n).heap[ϑ]?=Z (.deferred<|Z []))/\
   AR (λk=>¬(G k∨R k)) W (b.putObj l<|.loop<|m (C n.isNone .ready .done) n)/\
   EX (λk=>G k∨own k) R b/\AR (λk=>G k∨own k) b (b.putObj l<|.loop<|m (C n.isNone .ready .done) n):=λn b S=>by
   have gG:b.heap[l]?=Z (.loop { m .ready V with state:=.busy }):=(S.block l (by simpa using p) λh=>h<|.inl<|.inr J).trans C5;have:=run_endRound (P:=P) n gG;refine⟨Z4,World.putObj_heap_same (zAM.1 gG).1,λh=>(zMV zt).trans<|(S.block ϑ ?_ λg=>g<|.inl<|.inr<|Yg h).trans<|I2 h,zQ.comp (S':=λk=>¬(G k∨R k)) ?_ λ_ _ h=>h,(fw.upd YY).upd S,(AR.refl _ b).putObj (λ_=>.inr J) _⟩
   ·grind
   ·refine⟨S.os,S.tape,S.output,by simpa using S.size,λk hk Uy=>?_⟩;have py:G k∨R k:=Classical.not_not.1 Uy
    by_cases GA:k=l
    ·grind
    ·rw[zMV GA,S.block k (by simpa using hk) λg=>g<|py.imp .inl id,zMV GA]
  rintro e a3 b j;cases e with
  |normal=>
   obtain⟨S,pH⟩:=j;obtain⟨o,SI,Ji,Rv,Rz,Ru⟩:=z V b S;exact⟨_,_,o,Rv,.inl ⟨rfl,(hI _).same Rz pH Ru,s,SI,Ji⟩⟩
  |ret=>
   obtain⟨o,SI,Ji,Rv,Rz,Ru⟩:=z (Z .ret) b j.1;exact⟨_,_,o,Rv,.inr<|.inl ⟨rfl,.ret,(KY _).same Rz j.2 Ru,s,SI,Ji⟩⟩
  |exit id=>
   obtain⟨o,SI,Ji,Rv,Rz,Ru⟩:=z (Z<|.exit id) b j.1;exact⟨_,_,o,Rv,.inr<|.inl ⟨rfl,.exit id,(KY _).same Rz j.2 Ru,s,SI,Ji⟩⟩
  |goto t=>
   obtain⟨o,SI,Ji,Rv,Rz,Ru⟩:=z (Z<|.goto t) b j.1;exact⟨_,_,o,Rv,.inr<|.inl ⟨rfl,.goto t,(KY _).same Rz j.2 Ru,s,SI,Ji⟩⟩
  |panic ch=>
   obtain⟨ϙ,hm,j⟩:=j
   have key:∀u,Lu ϙ b u->AR (λk=>¬(G k∨R k)) W u/\(X ch (λk=>G k∨own k) R u/\(∀k,own k->¬G k/\¬R k)/\u.heap[l]?=Z (.loop { m .ready V with state:=.busy })/\(loose=D->u.heap[ϑ]?=Z (.deferred<|Z []))):=λu IV=>by
    obtain⟨S,pH⟩:=j u IV;have gG:u.heap[l]?=Z (.loop { m .ready V with state:=.busy }):=(S.block l (by simpa using p) λh=>h<|.inl<|.inr J).trans C5;refine⟨zQ.comp (S':=λk=>¬(G k∨R k)) ⟨S.os,S.tape,S.output,by simpa using S.size,λk hk Uy=>?_⟩ λ_ _ h=>h,pH,s,gG,λh=>(S.block ϑ ?_ λg=>g<|.inl<|.inr<|Yg h).trans<|I2 h⟩
    ·have py:G k∨R k:=Classical.not_not.1 Uy;have GA:k≠l:=λe=>Z4
     rw[S.block k (by simpa using hk) λg=>g<|py.imp .inl id,zMV GA]
    grind
   rcases oO with zN9|⟨f,hf⟩
   ·exact(Mp zN9 _ _ _ _ (j b<|AR.refl _ _).2).elim
   ·exact⟨f,hf,fH Z3 _ _ hm λu IV=>⟨rfl,(key u IV).1,.inr<|.inr ⟨ch,rfl,(key u IV).2⟩⟩⟩
  |outgrown=>exact j.elim
 grind
variable{Q:Exit->Act->κ->Prop}{g:Operand}
theorem sJ{fi:FuncId}(oO:np∨∃f,P.funcs[fi]?=Z f){w:κ}(hg:a.eval g=.func (.func gf) #[] lb)(eg:∀args w,(callFunc gf args).run P w=.ok (.enter gf args) w)
 (hseq:V1 nv np P gf lb ε encs HL G0 Rd w) (j:EX G0 Rd w) (Ez:∀x∈encs,∀R W args,ε x R W args->args.size=ps.size)
 (I:U->Ψ->Ψ->κ->Prop) (m:Code->Ψ->Ψ->κ->Prop) (q:O PanicEntry->Ψ->Ψ->κ->Prop) (Y:∀i,DK<|I i) (X:∀c,DK<|m c) (SS:∀c,DK<|q c) (KU:nv->∀c G R W,¬m c G R W) (Mp:np->∀c G R W,¬q c G R W) (h0:I 0 G0 Rd w) (DY:∀l,ae P ε encs ps assign body a l I m q)
 (s:∀(ϑ:U) (e:Ending) (G R own:Ψ) (W K:κ),HL e G R W->I (F encs) (λk=>G k∨own k) R K->EX (λk=>G k∨own k) R K->(∀k,own k->¬G k)->AR own W K->K.heap[ϑ]?=Z (.deferred<|Z [])->w.heap.size<=ϑ->
  match e with
  | .returned _=>Q .normal { a with defers:={ target:=.collected ϑ,args:=#[] }::a.defers } K
  | .panicked c=>Q (.panic c) { a with defers:={ target:=.collected ϑ,args:=#[] }::a.defers } K
  | .outgrown=>False)
 (Pq:∀(ϑ:U) (c:Code) (G R:Ψ) (W:κ),m c G R W->W.heap[ϑ]?=Z (.deferred<|Z [])->w.heap.size<=ϑ->
  c.wpIn η 0 P Q { a with defers:={ target:=.collected ϑ,args:=#[] }::a.defers } W)
 (Uu:∀(ϑ:U) (c:O PanicEntry) (G R:Ψ) (W:κ),q c G R W->W.heap[ϑ]?=Z (.deferred<|Z [])->w.heap.size<=ϑ->Q (.panic c) { a with defers:={ target:=.collected ϑ,args:=#[] }::a.defers } W):
 J0 η 0 P fi (.rangeFunc g ps assign body) Q a w:=by
 refine zC7 λ_=>?_
 have Hf:(w.alloc<|.deferred<|Z []).heap.size=w.heap.size+1:=World.size_alloc _ _;obtain⟨n,p⟩:∃n:LoopState->A Code->Loop,∀st pe,n st pe= { state:=st,pending:=pe,fn:=fi,tmps:=a.tmps,params:=ps,assign,body,defers:=w.heap.size }:=⟨_,λ_ _=>rfl⟩;obtain⟨b,VB⟩:∃b,(w.alloc<|.deferred<|Z []).alloc (.loop<|n .ready V)=b:=⟨_,rfl⟩
 have OD:b.heap[w.heap.size+1]?=Z (.loop<|n .ready V):=by
  grind[World.alloc_heap_new]
 have N:b.heap[w.heap.size]?=Z (.deferred<|Z []):=by
  grind[Below.heap_alloc,World.alloc_heap_new]
 have hu:∀S,AR S w b:=λS=>by rw[←VB];exact((AR.refl S w).alloc _).alloc _
 have AY:=(zAM.1 OD).1
 refine⟨w.heap.size+1,[{ target:=.collected w.heap.size,args:=#[] }],b,{ target:=.fn (.func gf) lb,args:=#[.func (.yield<|w.heap.size+1) #[] #[]] },b,gf,
  #[.func (.yield<|w.heap.size+1) #[] #[]]++lb,b,?_,?_,λ_ _=>trivial,?_,(λh=>by cases h),?_⟩
 ·simp_all[run_enterLoop_outer]
 ·simp only[resolve,hg];simp[go_sem]
 ·simp[invoke,go_sem,eg]
 ·refine(wQ oO (loose:=D) (ϑ:=w.heap.size) hseq (hu _) (λk h=>by have:=j.lt k h;omega) j.dis Ez n p OD (λ_=>N) Z2
   I m q Y X SS KU Mp (λk=>k=w.heap.size+1∨k=w.heap.size) (λk h=>h.imp id λh=>⟨rfl,h⟩) (.inl rfl) (λ_=>.inr rfl)
   (Y 0 G0 Rd _ Rd _ _ h0 (hu _) (λk h=>h.imp id Z2) (λk h=>.inl h) (λk h=>h.imp .inl id) (λk h hr=>?_) λk h=>?_) (DY _)).mono ?_
  ·rcases h with h|h
   ·exact j.dis k h hr
   ·have:=j.lt k<|.inr hr;omega
  ·rcases h with(h|h)|h
   ·have:=j.lt k<|.inl h;omega
   ·omega
   ·have:=j.lt k<|.inr h;omega
  rintro e y ⟨G,R,r,t,hk,(⟨hi,u,z⟩|⟨⟨v,rfl⟩,c,hi,z⟩|⟨c,rfl,hi⟩)⟩
  ·have J:∀o,AR (λk=>k=w.heap.size+1∨k=w.heap.size) y<|y.putObj (w.heap.size+1) o:=λo=>(AR.refl _ y).putObj (λ_=>.inl rfl) _
   have BO:∀o,AR (λk=>G k∨k=w.heap.size+1∨k=w.heap.size) y<|y.putObj (w.heap.size+1) o:=λo=>(J o).mono λ_ _ h=>.inr h
   cases e with
   |returned v=>exact⟨V,_,by have:=run_endLoop (P:=P) z (by rw[p];simp);rw[p]at this;exact this,
    s _ (.returned v) G R _ y _ u ((Y _).same r hi<|BO _) (r.upd<|J _) t (J _) ((zMV Z2).trans<|hk rfl) (zAf _)⟩
   |panicked c=>exact s _ (.panicked c) G R _ y y u hi r t (AR.refl _ _) (hk rfl)<|zAf _
   |outgrown=>exact(s _ .outgrown G R _ y y u hi r t (AR.refl _ _) (hk rfl)<|zAf _).elim
  ·exact⟨Z c,_,by have:=run_endLoop (P:=P) z (by rw[p];simp);rw[p]at this;exact this,
    Pq _ c _ _ _ ((X _).same r hi<|(AR.refl _ y).putObj (λ_=>.inr<|.inl rfl) _) ((zMV Z2).trans<|hk rfl) (zAf _)⟩
  ·exact Uu _ c _ _ _ hi (hk rfl)<|zAf _
def sH{w:κ}(s:a.eval g=.func (.func gf) #[] lb)(j:∀args w,(callFunc gf args).run P w=.ok (.enter gf args) w)
 (hseq:V1 nv True P gf lb ε encs HL G0 Rd w) (m:EX G0 Rd w) (n:∀x∈encs,∀R W args,ε x R W args->args.size=ps.size)
 (I:U->Ψ->Ψ->κ->Prop) (b:Code->Ψ->Ψ->κ->Prop) (q:O PanicEntry->Ψ->Ψ->κ->Prop) (Y:∀i,DK<|I i) (o:∀c,DK<|b c) (y:∀c,DK<|q c) (p:nv->∀c G R W,¬b c G R W) (f:∀c G R W,¬q c G R W) (h0:I 0 G0 Rd w) (r:∀l,ae P ε encs ps assign body a l I b q)
 (t:∀(ϑ:U) (e:Ending) (G R own:Ψ) (W K:κ),HL e G R W->I (F encs) (λk=>G k∨own k) R K->EX (λk=>G k∨own k) R K->(∀k,own k->¬G k)->AR own W K->K.heap[ϑ]?=Z (.deferred<|Z [])->w.heap.size<=ϑ->
  match e with
  | .returned _=>Q .normal { a with defers:={ target:=.collected ϑ,args:=#[] }::a.defers } K
  | .panicked c=>Q (.panic c) { a with defers:={ target:=.collected ϑ,args:=#[] }::a.defers } K
  | .outgrown=>False)
 (u:∀(ϑ:U) (c:Code) (G R:Ψ) (W:κ),b c G R W->W.heap[ϑ]?=Z (.deferred<|Z [])->w.heap.size<=ϑ->
  c.wpIn η 0 P Q { a with defers:={ target:=.collected ϑ,args:=#[] }::a.defers } W):
 (Code.rangeFunc g ps assign body).wpIn η 0 P Q a w:=
 zC6 λ_=>sJ (.inl trivial) s j hseq m n I b q Y o y p (λ_=>f) h0 r t u λϑ c G R W h=>(f c G R W h).elim
theorem zC5{l0:U}{w:κ}(hg:a.eval g=.func (.func gf) #[] lb)(eg:∀args w,(callFunc gf args).run P w=.ok (.enter gf args) w)(U0:∃r,w.heap[l0]?=Z (.loop r))
 (hseq:V1 nv True P gf lb ε encs HL G0 Rd w) (f:EX G0 Rd w) (Ez:∀x∈encs,∀R W args,ε x R W args->args.size=ps.size)
 (I:U->Ψ->Ψ->κ->Prop) (j:Code->Ψ->Ψ->κ->Prop) (q:O PanicEntry->Ψ->Ψ->κ->Prop) (Y:∀i,DK<|I i) (N:∀c,DK<|j c) (SS:∀c,DK<|q c) (KU:nv->∀c G R W,¬j c G R W) (Mp:∀c G R W,¬q c G R W) (h0:I 0 G0 Rd w) (DY:∀l,ae P ε encs ps assign body a l I j q)
 (s:∀(e:Ending) (G R own:Ψ) (W K:κ),HL e G R W->I (F encs) (λk=>G k∨own k) R K->EX (λk=>G k∨own k) R K->(∀k,own k->¬G k)->AR own W K->
  match e with
  | .returned _=>Q .normal a K
  | .panicked c=>Q (.panic c) a K
  | .outgrown=>False)
 (Pq:∀(c:Code) (G R:Ψ) (W:κ),j c G R W->c.wpIn (Fence.wide.inRound l0) 0 P Q a W):
 (Code.rangeFunc g ps assign body).wpIn (Fence.wide.inRound l0) 0 P Q a w:=by
 refine wpIn_rangeFunc ?_;intro fn _;obtain⟨r0,Hg⟩:=U0;obtain⟨m,n⟩:∃m:LoopState->A Code->Loop,∀st X,m st X= { state:=st,pending:=X,fn,tmps:=a.tmps,params:=ps,assign,body,defers:=r0.defers }:=⟨_,λ_ _=>rfl⟩;obtain⟨b,VB⟩:∃b,w.alloc (.loop<|m .ready V)=b:=⟨_,rfl⟩
 have OD:b.heap[w.heap.size]?=Z (.loop<|m .ready V):=by
  grind[World.alloc_heap_new]
 have hu:∀S,AR S w b:=λS=>by rw[←VB];exact(AR.refl S w).alloc _
 have AY:=(zAM.1 OD).1
 refine⟨w.heap.size,[],b,{ target:=.fn (.func gf) lb,args:=#[.func (.yield w.heap.size) #[] #[]] },b,gf,
  #[.func (.yield w.heap.size) #[] #[]]++lb,b,?_,?_,λ_ _=>trivial,?_,(λh=>by cases h),?_⟩
 ·simp_all[run_enterLoop_inner]
 ·simp only[resolve,hg];simp[go_sem]
 ·simp[invoke,go_sem,eg]
 ·refine CallsIn.inRound _<|(wQ (.inl trivial) (loose:=T) (ϑ:=w.heap.size+1) (G0:=G0) hseq (hu _) (λk h=>by have:=f.lt k h;omega) f.dis Ez m n OD (λh=>by cases h) Z2
   I j q Y N SS KU (λ_=>Mp) (λk=>k=w.heap.size) (λk h=>.inl h) rfl (λh=>by cases h)
   (Y 0 G0 Rd _ Rd _ _ h0 (hu _) (λk h=>h.imp id Z2) (λk h=>.inl h) (λk h=>h.imp .inl id) (λk h hr=>?_) λk h=>?_) (DY _)).mono ?_
  ·rcases h with h|h
   ·exact f.dis k h hr
   ·have:=f.lt k<|.inr hr;omega
  ·rcases h with(h|h)|h
   ·have:=f.lt k<|.inl h;omega
   ·omega
   ·have:=f.lt k<|.inr h;omega
  rintro e y ⟨G,R,p,t,_,(⟨hi,u,z⟩|⟨⟨v,rfl⟩,c,hi,z⟩|⟨c,rfl,hi⟩)⟩
  ·have J:∀o,AR (λk=>k=w.heap.size) y<|y.putObj w.heap.size o:=λo=>(AR.refl (λk=>k=w.heap.size) y).putObj (λ_=>rfl) _
   cases e with
   |returned v=>exact⟨V,_,by have:=run_endLoop (P:=P) z (by rw[n];simp);rw[n]at this;exact this,
    s (.returned v) G R _ y _ u ((Y _).same p hi<|(J _).mono λ_ _ h=>.inr h) (p.upd<|J _) t (J _)⟩
   |panicked c=>exact s (.panicked c) G R _ y y u hi p t<|AR.refl _ _
   |outgrown=>exact(s .outgrown G R _ y y u hi p t<|AR.refl _ _).elim
  ·exact⟨Z c,_,by have:=run_endLoop (P:=P) z (by rw[n];simp);rw[n]at this;exact this,
    Pq c _ _ _ ((N _).same p hi<|(AR.refl _ y).putObj (λ_=>.inr rfl) _)⟩
  grind
end
def zJE(ϙ:U)(P:ν)(fn:Func)(R:Ending->κ->Prop):Exit->Act->κ->Prop
 | .normal,a,w| .ret,a,w=>E4 ϙ a.defers w/\∀W,Lu ϙ w W->∃v,(results fn a.tmps).run P W=.ok v W/\R (.returned v) W
 |_,_,_=>False
def zR2(ϙ:U){P:ν}{f:FuncId}{fn:Func}{c:Code}{args:υ μ}{w:κ}{R:Ending->κ->Prop}
 (g:P.funcs[f]?=Z fn) (b:fn.body=Z c)
 (h:c.wp P (zJE ϙ P fn R) { tmps:=args++Array.replicate (fn.ntmps-args.size) undef,defers:=[] } w):Calls P f args w R:=by
 refine(zTC (n:=0)).1<|zTd g b trivial ?_;refine zOa (wpIn_wide.2 h) λe a' w' a=>?_
 cases e <;> first|exact fF _ _ a.1 a.2|exact a.elim
end
abbrev zAL:=@List.getD_eq_getElem?_getD
abbrev zAN:=@Option.some.inj
abbrev zIG:=@List.length_set
abbrev zMR:=@Array.getD_eq_getD_getElem?
abbrev zO7:=@List.getElem?_set
section
inductive DV where
 |any
 |nils
 |int (k:IntKind) (n:E)
 |bool (b:ζ)
 |str (s:ByteArray)
 |ints (l:Ξ)
 |bools (l:Ω)
 |sl (m n:U) (f:U->U->DV)
 |fp (m:U) (f:U->DV)
 |agg (m:U) (f:U->DV)
 |tup (m:U) (f:U->DV)
 |ref (k j:U)
 |msl (k m off n:U)
 |mp (k m i j:U)
 |fn (g:U) (m:U) (c:U->DV)
 |it (k:U)
 |yl (l:U)
 |mse (k m off n:U)
 |mri (k i:U)
 |cst (u:μ)
 |gr (k:U)
structure AK where
 blk:U
 off:U
 room:U
 val:μ
 foot:Ψ
def Gv(m:U)(f:U->DV):U->DV:=λj=>((θ m).map f).getD j .any
variable{j m:U}{f:U->DV}
def kP(h:j<m):Gv m f j=f j:=by simp[Gv,h]
def LB:U:=140737488355328
def AJ(ϗ:Ψ)(w:κ):DV->O AK->μ->Prop
 | .any,_,_=>True
 | .nils,_,v=>v=.slice V 0 0
 | .int k n,_,v=>v=.int k n
 | .bool b,_,v=>v=.bool b
 | .str s,_,v=>v=.string s
 | .ints l,_,v=>∃(a:A Addr) (cap:U),v=.slice a (F l) cap/\F l<=cap/\F l<=LB/\
  ∀j,j<F l->∃b o,a=Z ⟨b,o,V⟩/\¬ϗ b/\w.cell? ⟨b,o+j,V⟩=Z (.int .i64<|M l j 0)
 | .bools l,_,v=>∃(a:A Addr) (cap:U),v=.slice a (F l) cap/\F l<=cap/\F l<=LB/\
  ∀j,j<F l->∃b o,a=Z ⟨b,o,V⟩/\¬ϗ b/\w.cell? ⟨b,o+j,V⟩=Z (.bool<|l.getD j D)
 | .sl m n f,_,v=>∃(a:A Addr) (cap:U),v=.slice a n cap/\n<=cap/\n<=LB/\
  ∀i j,i<n->j<m->∃b o u,a=Z ⟨b,o,V⟩/\¬ϗ b/\w.cell? ⟨b,o+(i*m+j),V⟩=Z u/\AJ ϗ w (f i j) [] u
 | .fp m f,_,v=>∃b o,v=.pointer (Z ⟨b,o,V⟩)/\∀j,j<m->¬ϗ b/\∃u,w.cell? ⟨b,o+j,V⟩=Z u/\AJ ϗ w (f j) [] u
 | .agg m f,ρ,v=>∃cs,v=.agg cs/\cs.size=m/\∀j,j<m->∃u,cs[j]?=Z u/\AJ ϗ w (f j) ρ u
 | .tup m f,ρ,v=>∃cs,v=.tuple cs/\cs.size=m/\∀j,j<m->∃u,cs[j]?=Z u/\AJ ϗ w (f j) ρ u
 | .ref k j,ρ,v=>∃p:AK,ρ[k]?=Z p/\v=.pointer (Z ⟨p.blk,p.off+j,V⟩)
 | .msl k m off n,ρ,v=>∃(p:AK) (cap:U),ρ[k]?=Z p/\v=.slice (Z ⟨p.blk,p.off+off*m,V⟩) n cap/\n<=cap/\n<=LB/\p.off+off*m+cap*m<=p.room
 | .mp k m i j,ρ,v=>∃p:AK,ρ[k]?=Z p/\v=.pointer (Z ⟨p.blk,p.off+(i*m+j),V⟩)
 | .fn g m c,ρ,v=>∃e,v=.func (.func g) #[] e/\e.size=m/\∀j,j<m->∃u,e[j]?=Z u/\AJ ϗ w (c j) ρ u
 | .it k,ρ,v=>∃p:AK,ρ[k]?=Z p/\v=p.val
 | .yl l,_,v=>v=.func (.yield l) #[] #[]
 | .cst u,_,v=>v=u/\u.oneCell'=T
 | .gr k,ρ,v=>∃(p:AK) (a:A Addr) (n cap:U),ρ[k]?=Z p/\v=p.val/\v=.slice a n cap
 | .mri k i,ρ,v=>∃(p:AK) (vs:υ μ),ρ[k]?=Z p/\p.val=.tuple vs/\vs[i]?=Z v
 | .mse k m off n,ρ,v=>∃(p:AK) (a:A Addr) (cap:U),ρ[k]?=Z p/\v=.slice a n cap/\n<=cap/\n<=LB/\(0<cap->a=Z ⟨p.blk,p.off+off*m,V⟩/\p.off+off*m+cap*m<=p.room)
variable{v:μ}{ρ:O AK}{w:κ}{ϗ:Ψ}
theorem L4(h:j<m)(i:AJ ϗ w (f j) ρ v):AJ ϗ w (Gv m f j) ρ v:=by rw[kP h];exact i
def Ac(w:κ)(p:AK)(n:U)(R:U->μ->Prop):Prop:=p.foot=(λb=>b=p.blk)/\∃cs t,w.heap[p.blk]?=Z (.cells cs t (0,0))/\p.off+n<=cs.size/\p.room<=cs.size/\∀j,j<n->∃u,cs[p.off+j]?=Z u/\R j u
/-! ### Rows that an object owns-/
def Ig(w:κ)(ϖ:Ψ)(u:μ)(Ϝ:Ξ):Prop:=(Ϝ= []/\u=.slice V 0 0)∨∃(q:AK) (cap:U),u=.slice (Z ⟨q.blk,q.off,V⟩) (F Ϝ) cap/\F Ϝ<=cap/\q.off+cap<=q.room/\F Ϝ<=LB/\ϖ q.blk/\Ac w q (F Ϝ) λj x=>x=.int .i64 (M Ϝ j 0)
def Dn:μ->A U
 | .slice (Z a) _ _=>Z a.block
 |_=>V
variable{b:U}{Ϝ:Ξ}{u:μ}{ϖ:Ψ}
theorem Ig.blk(h:Ig w ϖ u Ϝ)(a:Dn u=Z b):ϖ b/\b<w.heap.size:=by
 rcases h with⟨_,rfl⟩|⟨q,cap,rfl,_,_,_,h5,_,cs,t,h6,_⟩
 ·cases a
 ·cases a;grind
variable{w':κ}
theorem Ig.out{W:Ψ}(h:Ig w ϖ u Ϝ)(hb:∀b,ϖ b->Dn u=Z b->b<w.heap.size->w'.heap[b]?=w.heap[b]?)(hF:∀b,ϖ b->Dn u=Z b->W b):Ig w' W u Ϝ:=by
 rcases h with h|⟨q,cap,h1,h2,h3,h4,h5,h6⟩
 ·exact .inl h
 grind[Ig,Dn,Ac]
structure GI(w:κ)(p:AK)(f:E->Ξ)(CX:X5)(u:μ)(es:υ MapEntry)(Au:U):Prop where
 val:p.val=.tuple #[Value.map (Z p.blk),u]
 blk:w.heap[p.blk]?=Z (.map es Au)
 own:p.foot p.blk
 key:∀e∈es.toList,∃k,e.key=.int .i64 k/\((∀Ϝ,CX≠Z (k,Ϝ,T))->Ig w (λb=>p.foot b/\b≠p.blk) e.val (f k))
 no:∀k,(∀e∈es.toList,e.key≠.int .i64 k)->f k= []
 nd:(es.toList.map (·.key)).Nodup
 apart:∀e∈es.toList,∀e'∈es.toList,∀b,Dn e.val=Z b->Dn e'.val=Z b->e.key=e'.key
 born:∀e∈es.toList,e.born<Au
 stamps:(es.toList.map (·.born)).Nodup
 inHand:∀k Ϝ g,CX=Z (k,Ϝ,g)->Ig w (λb=>p.foot b/\b≠p.blk) u Ϝ/\∀e∈es.toList,∀b,Dn u=Z b->Dn e.val=Z b->e.key=.int .i64 k
variable{n:U}{es:υ MapEntry}{p:AK}
theorem GI.out{f:E->Ξ}{l:X5}(h:GI w p f l u es n)(a:∀b,p.foot b->b<w.heap.size->w'.heap[b]?=w.heap[b]?):GI w' p f l u es n:=
 { h with
  blk:=(a _ h.own (zAM.1 h.blk).1).trans h.blk
  key:=λe o=>let⟨k,c,i⟩:=h.key e o;⟨k,c,λq=>(i q).out (λb j _ m=>a b j.1 m) λ_ h _=>h⟩
  inHand:=λk Ϝ g e=>let⟨c,i⟩:=h.inHand k Ϝ g e;⟨c.out (λb j _ m=>a b j.1 m) λ_ h _=>h,i⟩ }
/-! ### Maps:sets of keys-/
abbrev KS:=O Ξ
def Bp:Ξ->μ
 |[a]=>.int .i64 a
 |l=>.agg (l.map λa=>.int .i64 a).toArray
theorem yq:∀{a b:Ξ},Bp a=Bp b->a=b:=by
 have P:∀{l m:Ξ},(l.map λa=>Value.int .i64 a).toArray=(m.map λa=>Value.int .i64 a).toArray->l=m:=λ{l m} h=>by
  grind[List.map_inj_right]
 intro a b h
 match a,b with
 |[x],[y]=>cases h;rfl
 |[],[]=>rfl
 |[x],[]=>cases h
 |[],[y]=>cases h
 |[x],y::v::m=>cases h
 |x::x'::l,[y]=>cases h
 |x::x'::l,[]=>exact P<|Value.agg.inj h
 |[],y::v::m=>exact P<|Value.agg.inj h
 |x::x'::l,y::v::m=>exact P<|Value.agg.inj h
structure GS(w:κ)(b n:U)(l:KS)(es:υ MapEntry)(Au:U):Prop where
 blk:w.heap[b]?=Z (.map es Au)
 keys:(es.toList.map (·.key)).Perm (l.map Bp)
 nd:l.Nodup
 len:∀y∈l,F y=n
 tru:∀e∈es.toList,e.val=.bool T
 born:∀e∈es.toList,e.born<Au
 stamps:(es.toList.map (·.born)).Nodup
theorem GS.out{l:KS}{a:U}(h:GS w b n l es a)(c:w'.heap[b]?=w.heap[b]?):GS w' b n l es a:={ h with blk:=c.trans h.blk }
inductive MX where
 |set (n:U) (l:KS)
 |sets (n:U) (ls:O (A KS)) (lk:A (U×U×υ MapEntry×U))
 |mit (n mb:U) (es:υ MapEntry) (Au:U) (rem:KS) (GQ:A Ξ)
 |rows (f:E->Ξ) (CX:X5)
 |rws (ls:O Ξ) (CX:A (U×Ξ))
structure NB(w:κ)(p:AK)(ls:O Ξ)(CX:A (U×Ξ))(vs:υ μ):Prop where
 val:p.val=.tuple vs
 size:vs.size=F ls+1
 row:∃cs t,w.heap[p.blk]?=Z (.cells cs t (0,0))/\p.off+F ls<=cs.size/\p.room<=cs.size/\∀j,j<F ls->cs[p.off+j]?=vs[j+1]?
 blk:p.foot p.blk
 has:∀j,j<F ls->(∀Ϝ,CX≠Z (j,Ϝ))->Ig w (λb=>p.foot b/\b≠p.blk) (vs.getD (j+1) undef) (M ls j ξ)
 apart:∀(i j b:U),i<F ls->j<F ls->(∀Ϝ,CX≠Z (i,Ϝ))->(∀Ϝ,CX≠Z (j,Ϝ))->Dn (vs.getD (i+1) undef)=Z b->Dn (vs.getD (j+1) undef)=Z b->i=j
 inHand:∀k Ϝ,CX=Z (k,Ϝ)->Ig w (λb=>p.foot b/\b≠p.blk) (vs.getD 0 undef) Ϝ/\∀(j b:U),j<F ls->Dn (vs.getD 0 undef)=Z b->Dn (vs.getD (j+1) undef)=Z b->j=k
variable{vs:υ μ}
theorem NB.out{q:O Ξ}{i:A (U×Ξ)}(h:NB w p q i vs)(c:∀b,p.foot b->b<w.heap.size->w'.heap[b]?=w.heap[b]?):NB w' p q i vs:=
 { h with
  row:=let⟨cs,t,a,f⟩:=h.row;⟨cs,t,(c _ h.blk (zAM.1 a).1).trans a,f⟩
  has:=λj l n=>(h.has j l n).out (λb g _ m=>c b g.1 m) λ_ h _=>h
  inHand:=λk Ϝ e=>let⟨a,f⟩:=h.inHand k Ϝ e;⟨a.out (λb g _ m=>c b g.1 m) λ_ h _=>h,f⟩ }
structure Gp(w:κ)(p:AK)(n:U)(ls:O (A KS))(lk:A (U×U×υ MapEntry×U))(vs:υ μ):Prop where
 val:p.val=.tuple vs
 size:vs.size=F ls
 row:∃cs t,w.heap[p.blk]?=Z (.cells cs t (0,0))/\p.off+F ls<=cs.size/\p.room<=cs.size/\∀j,j<F ls->cs[p.off+j]?=vs[j]?
 blk:p.foot p.blk
 has:∀(j:U) (l:KS),ls[j]?=Z (Z l)->∃b:U,vs[j]?=Z (Value.map (Z b))/\b≠p.blk/\p.foot b/\∃es Au,GS w b n l es Au/\∀x,lk=Z x->x.1=j->x.2=(b,es,Au)
 nil:∀(j:U),ls[j]?=Z V->vs[j]?=Z (Value.map V)
 foot:∀b,p.foot b->b=p.blk∨∃(j:U) (l:KS),ls[j]?=Z (Z l)/\vs[j]?=Z (Value.map (Z b))
 inj:∀(i j b:U),vs[i]?=Z (Value.map (Z b))->vs[j]?=Z (Value.map (Z b))->i=j
theorem Gp.out{q:O (A KS)}{f:A (U×U×υ MapEntry×U)}(h:Gp w p n q f vs)(e:∀b,p.foot b->b<w.heap.size->w'.heap[b]?=w.heap[b]?):Gp w' p n q f vs:=by
 have S:∀{b o},p.foot b->w.heap[b]?=Z o->w'.heap[b]?=Z o:=λ{b o} g x=>(e b g (zAM.1 x).1).trans x
 refine{ h with row:=?_,has:=λj l m=>?_ }
 ·obtain⟨cs,t,a,c⟩:=h.row;exact⟨cs,t,S h.blk a,c⟩
 ·obtain⟨b,a,c,k,es,i,R,X⟩:=h.has j l m;exact⟨b,a,c,k,es,i,{ R with blk:=S k R.blk },X⟩
def Qc(w:κ)(p:AK):MX->Prop
 | .set n l=>p.val=Value.map (Z p.blk)/\p.foot=(λb=>b=p.blk)/\∃es a,GS w p.blk n l es a
 | .sets n q g=>∃vs,Gp w p n q g vs
 | .mit n h es a k m=>(∀x,(x∈k∨m=Z x)->F x=n)/\p.val=.pointer (Z ⟨p.blk,0,V⟩)/\p.foot=(λb=>b=p.blk)/\∃seen,w.heap[p.blk]?=Z (.mapIter (Z h) a seen a)/\((leftOf es seen).toList.map (·.key)).Perm (k.map Bp)/\
  ∀x,m=Z x->∃e∈es.toList,e.key=Bp x/\seen.back? =Z e.born
 | .rows f c=>∃u es a,GI w p f c u es a
 | .rws q c=>∃vs,NB w p q c vs
theorem Qc.out :∀{x:MX},Qc w p x->(∀b,p.foot b->b<w.heap.size->w'.heap[b]?=w.heap[b]?)->Qc w' p x
 | .set n l,⟨g,c,es,e,k⟩,a=>⟨g,c,es,e,k.out<|a _ (by rw[c]) (zAM.1 k.blk).1⟩
 | .sets n q lk,⟨vs,h⟩,a=>⟨vs,h.out a⟩
 | .rows f i,⟨u,es,e,h⟩,a=>⟨u,es,e,h.out a⟩
 | .rws q i,⟨vs,h⟩,a=>⟨vs,h.out a⟩
 | .mit n mb es e rem GQ,⟨h0,g,c,seen,k,R⟩,a=>⟨h0,g,c,seen,(a _ (by rw[c]) (zAM.1 k).1).trans k,R⟩
inductive DO where
 |cells (l:O DV)
 |ints (l:Ξ)
 |bools (l:Ω)
 |arr (m n:U) (f:U->U->DV)
 |iter (encs:O (O DV))
 |ro (l:O DV)
 |mo (x:MX)
 |gro (m n:U) (f:U->U->DV)
abbrev DH:=O<|A DO
def MO(h:DH)(ρ:O AK)(b:U):Prop:=∃(k:U) (o:DO) (p:AK),h[k]?=Z (Z o)/\ρ[k]?=Z p/\p.foot b
def MS(N:Ψ)(h:DH)(ρ:O AK)(b:U):Prop:=N b∨MO h ρ b
def YV(ds:O DV)(R:Ψ)(W:κ)(args:υ μ):Prop:=F ds=args.size/\∀j,j<F ds->AJ (λb=>b<W.heap.size/\¬R b) W (ds.getD j .any) [] (args.getD j undef)
def V0:Ending->Ψ->Ψ->κ->Prop:=λe _ _ _=>∃v,e=.returned v
def Bi(P:ν)(ϗ:Ψ)(w:κ)(ρ:O AK)(p:AK):DO->Prop
 | .cells l=>Ac w p (F l) λj u=>AJ ϗ w (l.getD j .any) ρ u
 | .ints l=>Ac w p (F l) λj u=>u=.int .i64 (M l j 0)
 | .bools l=>Ac w p (F l) λj u=>u=.bool (l.getD j D)
 | .arr m n f=>Ac w p (n*m) λj u=>AJ ϗ w (f (j/m)<|j%m) [] u
 | .iter encs=>∃s a Rd,(p.val=.func (.func s) #[] a/\∀args W,(callFunc s args).run P W=.ok (.enter s args) W)/\Qe P s a YV encs V0 p.foot Rd w/\(∀b,Rd b->¬ϗ b/\b<w.heap.size)/\∀b,p.foot b->b<w.heap.size
 | .ro l=>p.foot=(λ_=>False)/\¬ϗ p.blk/\Ac w { p with foot:=λb=>b=p.blk } (F l) λj u=>AJ ϗ w (l.getD j .any) ρ u
 | .mo x=>Qc w p x
 | .gro m n f=>(n=0/\p.val=.slice V 0 0/\p.foot=λ_=>False)∨∃cap,p.val=.slice (Z ⟨p.blk,p.off,V⟩) n cap/\n<=cap/\n<=LB/\p.off+cap*m<=p.room/\Ac w p (n*m) λj u=>AJ ϗ w (f (j/m)<|j%m) [] u
def gQ:Obj->ζ
 | .cells .. =>T
 | .map .. =>T
 | .mapIter .. =>T
 |_=>D
abbrev EZ(w:κ)(b:U):Prop:=∃(c:Obj) (_:gQ c=T) (_:Unit),w.heap[b]?=Z c
theorem EZ.cells{c:υ μ}{t:ψ}{z:U×U}(h:w.heap[b]?=Z (.cells c t z)):EZ w b:=⟨_,rfl,(),h⟩
structure A2 where
 ng:U
 gi:κ->Prop
 st:∀w w',gi w->AR (λb=>ng<=b) w w'->gi w'
 lo:∀w,gi w->ng<=w.heap.size
structure Ap(P:ν)(Γ:A2)(N:Ψ)(h:DH)(ρ:O AK)(w:κ):Prop where
 len:F ρ=F h
 obj:∀(k:U) (o:DO),h[k]?=Z (Z o)->∃p:AK,ρ[k]?=Z p/\Bi P (MS N h ρ) w ρ p o
 cel:∀(k:U) (o:DO) (p:AK) (b:U),h[k]?=Z (Z o)->ρ[k]?=Z p->p.foot b->Γ.ng<=b/\¬N b/\EZ w b
 dis:∀(k k':U) (o o':DO) (p p':AK) (b:U),k≠k'->h[k]?=Z (Z o)->h[k']?=Z (Z o')->ρ[k]?=Z p->ρ[k']?=Z p'->p.foot b->p'.foot b->False
 nlt:∀b,N b->b<w.heap.size/\Γ.ng<=b
 gi:Γ.gi w
structure St where
 fr:O DV
 h:DH
def A3(ϗ:Ψ)(w:κ)(ρ:O AK)(fr:O DV)(t:υ μ):Prop:=F fr=t.size/\∀i,i<F fr->AJ ϗ w (fr.getD i .any) ρ (t.getD i undef)
structure AS(P:ν)(Γ:A2)(N:Ψ)(S:St)(ρ:O AK)(a:Act)(w:κ):Prop where
 hr:Ap P Γ N S.h ρ w
 fr:A3 (MS N S.h ρ) w ρ S.fr a.tmps
structure A8(h:DH)(ρ:O AK)(w:κ)(h':DH)(ρ':O AK)(w':κ):Prop where
 upd:AR (MO h ρ) w w'
 grow:∀b,MO h' ρ' b->MO h ρ b∨w.heap.size<=b
theorem A8.refl(h:DH)(ρ:O AK)(w:κ):A8 h ρ w h ρ w:=⟨AR.refl _ _,λ_ h=>.inl h⟩
variable{c:κ}{ρ' ρ'':O AK}{h' X:DH}
def A8.trans{h:DH}(x:A8 h ρ w h' ρ' w')(y:A8 h' ρ' w' X ρ'' c):A8 h ρ w X ρ'' c:=
 ⟨x.upd.comp y.upd λi hi z=>(x.grow i z).resolve_right Z2,λb a=>(y.grow b a).elim (λh=>x.grow b h) λh=>.inr<|zAO x.upd.size h⟩
structure Di(h:DH)(ρ:O AK)(w:κ)(h':DH)(ρ':O AK)(w':κ):Prop where
 st:A8 h ρ w h' ρ' w'
 pl:∀(k:U) (p:AK),ρ[k]?=Z p->ρ'[k]?=Z p
theorem Di.refl(h:DH)(ρ:O AK)(w:κ):Di h ρ w h ρ w:=⟨A8.refl _ _ _,λ_ _ h=>h⟩
def Di.trans{h:DH}(x:Di h ρ w h' ρ' w')(y:Di h' ρ' w' X ρ'' c):Di h ρ w X ρ'' c:=
 ⟨x.st.trans y.st,λk p hk=>y.pl k p<|x.pl k p hk⟩
structure BQ(ϗ:Ψ)(w:κ)(ρ:O AK)(M':Ψ)(w':κ)(ρ':O AK):Prop where
 blk:∀b,b<w.heap.size->¬ϗ b->(∃c t z,w.heap[b]?=Z (.cells c t z))->w'.heap[b]?=w.heap[b]?
 m:∀b,M' b->ϗ b∨w.heap.size<=b
 pl:∀(k:U) (p:AK),ρ[k]?=Z p->ρ'[k]?=Z p
variable{o:U}
theorem zRv(h:w.cell? ⟨b,o,V⟩=Z u):∃c t z,w.heap[b]?=Z (.cells c t z):=by
 grind[World.cell?]
variable{S:Ψ}
def BQ.nil(h:BQ ϗ w ρ S w' ρ'):BQ ϗ w [] S w' []:=⟨h.blk,h.m,λk p hk=>by simp at hk⟩
def qw(h:w'.heap[b]?=w.heap[b]?):w'.cell? ⟨b,o,V⟩=w.cell? ⟨b,o,V⟩:=by
 unfold World.cell?;rw[h]
theorem BQ.cell(h:BQ ϗ w ρ S w' ρ')(l:¬ϗ b)(hc:w.cell? ⟨b,o,V⟩=Z u):w'.cell? ⟨b,o,V⟩=Z u/\¬S b:=by
 have R:b<w.heap.size:=zMU w ⟨b,o,V⟩ hc;exact⟨(qw<|h.blk b R l<|zRv hc).trans hc,λz=>(h.m b z).elim l Z2⟩
theorem AJ.out :∀(Ϛ:DV) {ρ ρ':O AK} {v:μ},BQ ϗ w ρ S w' ρ'->AJ ϗ w Ϛ ρ v->AJ S w' Ϛ ρ' v:=by
 intro Ϛ
 induction Ϛ with
 |any=>intros;trivial
 |nils=>intro ρ ρ' v _ h;exact h
 |int k n=>intro ρ ρ' v _ h;exact h
 |bool b=>intro ρ ρ' v _ h;exact h
 |str s=>intro ρ ρ' v _ h;exact h
 |ints l=>
  rintro ρ ρ' v Ϙ ⟨a,cap,e,G,I,J⟩;refine⟨a,cap,e,G,I,λj q=>?_⟩;obtain⟨b,o,P,t,hc⟩:=J j q;obtain⟨x,y⟩:=Ϙ.cell t hc;exact⟨b,o,P,y,x⟩
 |bools l=>
  rintro ρ ρ' v Ϙ ⟨a,cap,e,G,I,J⟩;refine⟨a,cap,e,G,I,λj q=>?_⟩;obtain⟨b,o,P,t,hc⟩:=J j q;obtain⟨x,y⟩:=Ϙ.cell t hc;exact⟨b,o,P,y,x⟩
 |sl m n f z=>
  rintro ρ ρ' v Ϙ ⟨a,cap,e,G,I,J⟩;refine⟨a,cap,e,G,I,λi j hi q=>?_⟩;obtain⟨b,o,u,P,t,hc,K⟩:=J i j hi q;obtain⟨x,y⟩:=Ϙ.cell t hc;exact⟨b,o,u,P,y,x,z i j Ϙ.nil K⟩
 |fp m f z=>
  rintro ρ ρ' v Ϙ ⟨b,o,e,h⟩;refine⟨b,o,e,λj q=>?_⟩;obtain⟨t,u,hc,K⟩:=h j q;obtain⟨x,y⟩:=Ϙ.cell t hc;exact⟨y,u,x,z j Ϙ.nil K⟩
 |agg m f z=>
  grind[AJ]
 |tup m f z=>
  grind[AJ]
 |ref k j=>rintro ρ ρ' v Ϙ ⟨p,h,e⟩;exact⟨p,Ϙ.pl _ _ h,e⟩
 |msl k m off n=>rintro ρ ρ' v Ϙ ⟨p,cap,h,r⟩;exact⟨p,cap,Ϙ.pl _ _ h,r⟩
 |mp k m i j=>rintro ρ ρ' v Ϙ ⟨p,h,e⟩;exact⟨p,Ϙ.pl _ _ h,e⟩
 |fn g m c z=>
  grind[AJ]
 |it k=>rintro ρ ρ' v Ϙ ⟨p,h,e⟩;exact⟨p,Ϙ.pl _ _ h,e⟩
 |yl l=>intro ρ ρ' v _ h;exact h
 |mse k m off n=>rintro ρ ρ' v Ϙ ⟨p,a,cap,h,r⟩;exact⟨p,a,cap,Ϙ.pl _ _ h,r⟩
 |mri k i=>rintro ρ ρ' v Ϙ ⟨p,vs,h,r⟩;exact⟨p,vs,Ϙ.pl _ _ h,r⟩
 |cst u=>intro ρ ρ' v _ h;exact h
 |gr k=>rintro ρ ρ' v Ϙ ⟨p,a,n,cap,h,r⟩;exact⟨p,a,n,cap,Ϙ.pl _ _ h,r⟩
variable{t:υ μ}
theorem A3.out{fr:O DV}(h:A3 ϗ w ρ fr t)(Ϙ:BQ ϗ w ρ S w' ρ'):A3 S w' ρ' fr t:=
 ⟨h.1,λi hi=>(h.2 i hi).out _ Ϙ⟩
theorem A3.at{fr:O DV}(h:A3 ϗ w ρ fr t)(i:U):AJ ϗ w (fr.getD i .any) ρ<|t.getD i undef:=by
 grind[AJ,A3]
theorem A3.set{fr:O DV}(h:A3 ϗ w ρ fr t)(i:U){Ϛ:DV}(hv:AJ ϗ w Ϛ ρ v):A3 ϗ w ρ (fr.set i Ϛ)<|t.setIfInBounds i v:=by
 refine⟨by simp[h.1],λj g=>?_⟩;rw[zIG]at g;have Dg:j<t.size:=by rw[←h.1];exact g
 have h0:=h.2 j g;simp only[zAL,zMR,zO7,Array.getElem?_setIfInBounds]at h0⊢
 grind
variable{P:ν}
def Qe.later{g:U}{n:υ μ}{X:Type}{ε:X->Ψ->κ->υ μ->Prop}{encs:O X}{k:Ending->Ψ->Ψ->κ->Prop}{G0 Rd:Ψ}(h:Qe P g n ε encs k G0 Rd w)(t:AR S w w')(a:∀b,b<w.heap.size->S b->¬(G0 b∨Rd b)):Qe P g n ε encs k G0 Rd w':=
 λl J Jx W c e f=>h l J Jx W c e (t.mono (λi hi j=>a i hi j)|>.trans f)
variable{R:U->μ->Prop}
theorem Ac.out{R':U->μ->Prop}(h:Ac w p n R)(hb:w'.heap[p.blk]?=w.heap[p.blk]?)(hR:∀j u,j<n->R j u->R' j u):Ac w' p n R':=by
 grind[Ac]
theorem Ac.cell(h:Ac w p n R)(hj:j<n):∃u,w.cell? ⟨p.blk,p.off+j,V⟩=Z u/\R j u:=by
 grind[World.cell?,Ac]
theorem Ac.frozen(h:Ac w p n R)(o:U):w.frozen? ⟨p.blk,o,V⟩=D:=by
 grind[World.frozen?,Ac]
def Bi.gr{f:U->U->DV}(h:Bi P ϗ w ρ p<|.gro m n f)(b:∀{n R},Ac w p n R->w'.heap[p.blk]?=w.heap[p.blk]?)(i:∀{Ϛ u},AJ ϗ w Ϛ [] u->AJ S w' Ϛ [] u):Bi P S w' ρ' p<|.gro m n f:=by
 rcases h with h|⟨cap,y,K,N,a,h⟩
 ·exact .inl h
 ·exact .inr ⟨cap,y,K,N,a,Ac.out h (b h) λj u _ h=>i h⟩
theorem Bi.out{r:Ψ}{o:DO}(h:Bi P ϗ w ρ p o)(Ϙ:BQ ϗ w ρ r w' ρ')(e:AR S w w')(G:∀b,S b->ϗ b)(s:∀b,b<w.heap.size->p.foot b->¬S b):Bi P r w' ρ' p o:=by
 have a:∀{n R},Ac w p n R->w'.heap[p.blk]?=w.heap[p.blk]? :=λ{n R} i=>by
  obtain⟨g,cs,t,k,_⟩:=i;have c:=(zAM.1 k).1;exact e.block _ c (s _ c<|by rw[g])
 cases o with
 |cells l=>grind[AJ.out,Bi,Ac]
 |ints l=>grind[Bi,Ac]
 |bools l=>grind[Bi,Ac]
 |arr m n f=>exact Ac.out h (a h) λj u _ i=>AJ.out _ Ϙ.nil i
 |iter encs=>
  obtain⟨I,J,Rd,g,k,q,K⟩:=h;refine⟨I,J,Rd,g,k.later e λb a v hx=>?_,λb a=>⟨λz=>(Ϙ.m b z).elim (q b a).1 (by have:=(q b a).2;omega),zAQ (q b a).2 e.size⟩,λb a=>zAQ (K b a) e.size⟩
  grind
 |ro l=>
  obtain⟨N,y,Q⟩:=h
  have c:p.blk<w.heap.size:=by
   grind[Ac]
  exact⟨N,λz=>(Ϙ.m _ z).elim y Z2,Ac.out Q (e.block _ c λv=>y<|G _ v) λj u _ i=>AJ.out _ Ϙ i⟩
 |mo x=>exact Qc.out h λb a c=>e.block b c<|s b c a
 |gro m n f=>exact Bi.gr h a λi=>AJ.out _ Ϙ.nil i
section
variable{P:ν}{Γ:A2}{N:Ψ}{h:DH}{ρ:O AK}{w:κ}
variable{k:U}
theorem MO.unset{b:U}(hm:MO (h.set k V) ρ b):MO h ρ b:=by
 grind[MO]
theorem Ap.lt(Ϙ:Ap P Γ N h ρ w){b:U}(a:MS N h ρ b):b<w.heap.size:=by
 rcases a with a|⟨k,o,p,e,f,g⟩
 ·exact(Ϙ.nlt b a).1
 ·obtain⟨_,_,c,t,z,h4⟩:=Ϙ.cel k o p b e f g
  grind
def Ap.low(Ϙ:Ap P Γ N h ρ w){b:U}(a:MO h ρ b):Γ.ng<=b:=by
 obtain⟨k,o,p,c,e,f⟩:=a;exact(Ϙ.cel k o p b c e f).1
def Ap.lt2(Ϙ:Ap P Γ N h ρ w){b:U}(a:MS N h ρ b):b<w.heap.size/\Γ.ng<=b:=⟨Ϙ.lt a,a.elim (λh=>(Ϙ.nlt b h).2) Ϙ.low⟩
theorem Ap.ext(Ϙ:Ap P Γ N h ρ w){w':κ}(s:A9 w w'):Ap P Γ N h ρ w':=by
 have ϐ:BQ (MS N h ρ) w ρ (MS N h ρ) w' ρ:=⟨λb a _ _=>zTt s b a,λb h=>.inl h,λ_ _ h=>h⟩;refine⟨Ϙ.len,λk o hk=>?_,λk o p b e f g=>?_,Ϙ.dis,λb a=>⟨zAQ (Ϙ.nlt b a).1 s.size,(Ϙ.nlt b a).2⟩,Γ.st _ _ Ϙ.gi<|AR.ofExt s⟩
 ·obtain⟨p,i,x⟩:=Ϙ.obj k o hk;exact⟨p,i,x.out ϐ (S:=λ_=>False) (AR.ofExt s) (λ_ h=>h.elim) λ_ _ _ h=>h⟩
 ·obtain⟨g1,g2,c,t,z,g3⟩:=Ϙ.cel k o p b e f g
  grind[Below.block,A9]
def BQ.ext{ϗ:Ψ}{w w':κ}(ρ:O AK)(s:A9 w w'):BQ ϗ w ρ ϗ w' ρ:=⟨λb a _ _=>zTt s b a,λb h=>.inl h,λ_ _ h=>h⟩
def A8.ext{w w':κ}(s:A9 w w'):A8 h ρ w h ρ w':=⟨AR.ofExt s,λ_ h=>.inl h⟩
variable{α:Type}
theorem FM{l:O α}{x y:α}(hk:(l++[x])[k]?=Z y):(k<F l/\l[k]?=Z y)∨(k=F l/\x=y):=by
 grind
theorem FL{l:O α}{x y:α}(hk:l[k]?=Z y):(l++[x])[k]?=Z y:=by
 grind
theorem MO.snoc(Ϙ:Ap P Γ N h ρ w){o:DO}{p:AK}{b:U}(e:MO (h++[Z o]) (ρ++[p]) b):MO h ρ b∨p.foot b:=by
 obtain⟨k,o',p',a,c,f⟩:=e;rcases FM a with⟨m,a⟩|⟨m,a⟩
 ·grind[MO]
 ·rcases FM c with⟨l,_⟩|⟨_,c⟩
  ·rw[Ϙ.len,←m]at l;omega
  ·subst c;exact .inr f
theorem Ap.snoc(Ϙ:Ap P Γ N h ρ w){w':κ}(s:A9 w w'){o:DO}{p:AK}(g:∀b,p.foot b->w.heap.size<=b/\EZ w' b)
 (x:Bi P (MS N (h++[Z o])<|ρ++[p]) w' (ρ++[p]) p o):Ap P Γ N (h++[Z o]) (ρ++[p]) w':=by
 have ϐ:BQ (MS N h ρ) w ρ (MS N (h++[Z o])<|ρ++[p]) w'<|ρ++[p]:=by
  refine⟨λb hb _ _=>zTt s b hb,λb hb=>?_,λk q hk=>FL hk⟩;rcases hb with hb|hb
  ·exact .inl<|.inl hb
  ·rcases MO.snoc Ϙ hb with hb|hb
   ·exact .inl<|.inr hb
   ·exact .inr (g b hb).1
 refine⟨by simp[Ϙ.len],λk o' hk=>?_,λk o' p' b e a f=>?_,λk W o1 Q n p2 b j e a f R X r=>?_,λb hb=>⟨zAQ (Ϙ.nlt b hb).1 s.size,(Ϙ.nlt b hb).2⟩,Γ.st _ _ Ϙ.gi<|AR.ofExt s⟩
 ·rcases FM hk with⟨m,hk⟩|⟨m,hk⟩
  ·obtain⟨p',v,y⟩:=Ϙ.obj k o' hk;exact⟨p',FL v,y.out ϐ (S:=λ_=>False) (AR.ofExt s) (λ_ h=>h.elim) λ_ _ _ h=>h⟩
  ·cases hk;exact⟨p,by rw[m,←Ϙ.len];simp,x⟩
 ·rcases FM e with⟨m,e⟩|⟨m,e⟩
  ·rcases FM a with⟨_,a⟩|⟨l,_⟩
   ·obtain⟨i,u,c,t,z,g3⟩:=Ϙ.cel k o' p' b e a f
    grind[Below.block,A9]
   ·rw[l,Ϙ.len]at m;omega
  ·rcases FM a with⟨l,_⟩|⟨_,a⟩
   ·rw[Ϙ.len,←m]at l;omega
   ·subst a;obtain⟨i,u⟩:=g b f;exact⟨zAO (Γ.lo _ Ϙ.gi) i,λG=>by have:=Ϙ.nlt b G;omega,u⟩
 ·have Nj:∀{k:U} {o':DO} {p':AK},(h++[Z o])[k]?=Z (Z o')->(ρ++[p])[k]?=Z p'->p'.foot b->k≠F h->b<w.heap.size:=by
   intro k o' p' e a f j;rcases FM e with⟨m,e⟩|⟨m,e⟩
   ·rcases FM a with⟨_,a⟩|⟨l,_⟩
    ·exact Ϙ.lt<|.inr ⟨k,o',p',e,a,f⟩
    ·rw[l,Ϙ.len]at m;omega
   ·exact τ m j
  have new:∀{k:U} {o':DO} {p':AK},(h++[Z o])[k]?=Z (Z o')->(ρ++[p])[k]?=Z p'->p'.foot b->k=F h->w.heap.size<=b:=by
   intro k o' p' e a f I;rcases FM a with⟨l,_⟩|⟨_,a⟩
   ·rw[Ϙ.len,←I]at l;omega
   grind
  by_cases J:k=F h
  ·grind
  ·by_cases K:W=F h
   ·grind
   ·rcases FM e with⟨_,e⟩|⟨m,_⟩
    ·rcases FM a with⟨_,a⟩|⟨m,_⟩
     ·rcases FM f with⟨_,f⟩|⟨m,_⟩
      ·rcases FM R with⟨_,R⟩|⟨m,_⟩
       ·exact Ϙ.dis k W o1 Q n p2 b j e a f R X r
       grind
      grind
     ·exact K m
    ·exact J m
def BQ.snoc(Ϙ:Ap P Γ N h ρ w){w':κ}(s:A9 w w'){o:DO}{p:AK}(g:∀b,p.foot b->w.heap.size<=b):BQ (MS N h ρ) w ρ (MS N (h++[Z o])<|ρ++[p]) w'<|ρ++[p]:=by
 refine⟨λb hb _ _=>zTt s b hb,λb hb=>?_,λk q hk=>FL hk⟩;rcases hb with hb|hb
 ·exact .inl<|.inl hb
 ·rcases MO.snoc Ϙ hb with hb|hb
  ·exact .inl<|.inr hb
  ·exact .inr<|g b hb
def A8.snoc(Ϙ:Ap P Γ N h ρ w){w':κ}(s:A9 w w'){o:DO}{p:AK}(g:∀b,p.foot b->w.heap.size<=b):A8 h ρ w (h++[Z o]) (ρ++[p]) w':=
 ⟨AR.ofExt s,λb a=>(MO.snoc Ϙ a).imp id<|g b⟩
variable{o':DO}
theorem MO.set{o:DO}(hk:h[k]?=Z (Z o)){b:U}:MO (h.set k<|Z o') ρ b↔MO h ρ b:=by
 grind[MO]
def MS.set{o:DO}(hk:h[k]?=Z (Z o)){b:U}:MS N (h.set k<|Z o') ρ b↔MS N h ρ b:=by unfold MS;rw[MO.set hk]
theorem Ap.write(Ϙ:Ap P Γ N h ρ w){w':κ}{o:DO}{p:AK}(hk:h[k]?=Z (Z o))(l:ρ[k]?=Z p)(n:AR p.foot w w')
 (hc:∀b,p.foot b->EZ w' b) (ho:Bi P (MS N (h.set k<|Z o') ρ) w' ρ p o'):Ap P Γ N (h.set k<|Z o') ρ w':=by
 have s:∀b,p.foot b->MS N h ρ b:=λb a=>.inr ⟨k,o,p,hk,l,a⟩
 have ϐ:BQ (MS N h ρ) w ρ (MS N (h.set k<|Z o') ρ) w' ρ:=⟨λb a J _=>n.block b a λr=>J<|s b r,λb a=>.inl<|(MS.set hk).1 a,λ_ _ h=>h⟩;have v:∀{i:U} {o1:DO},i≠k->(h.set k<|Z o')[i]?=Z (Z o1)->h[i]?=Z (Z o1):=λ{i} {o1} x f=>Z4
 refine⟨by simp[Ϙ.len],λi o1 hi=>?_,λi o1 g b f j m=>?_,λi R o1 Q g p2 b x f j m K X S=>?_,λb a=>⟨zAQ (Ϙ.nlt b a).1 n.size,(Ϙ.nlt b a).2⟩,Γ.st _ _ Ϙ.gi<|n.mono λb _ a=>(Ϙ.cel k o p b hk l a).1⟩
 ·by_cases e:i=k
  ·grind
  ·obtain⟨g,y,W⟩:=Ϙ.obj i o1<|v e hi;exact⟨g,y,W.out ϐ n s λb _ f j=>Ϙ.dis i k o1 o g p b e (v e hi) hk y l f j⟩
 ·by_cases e:i=k
  ·subst e;have:p=g:=zAN<|l.symm.trans j;subst this;obtain⟨q,u,_⟩:=Ϙ.cel i o p b hk l m;exact⟨q,u,hc b m⟩
  ·obtain⟨q,u,c,t,z,G⟩:=Ϙ.cel i o1 g b (v e f) j m;refine⟨q,u,c,t,z,(n.block b (zAM.1 G).1 λr=>Ϙ.dis i k o1 o g p b e (v e f) hk j l m r).trans G⟩
 ·have I:∀{i:U} {o1:DO},(h.set k<|Z o')[i]?=Z (Z o1)->∃Q,h[i]?=Z (Z Q):=λ{i} {o1} f=>by
   grind
  obtain⟨Y,q⟩:=I f;obtain⟨q2,u⟩:=I j;exact Ϙ.dis i R Y q2 g p2 b x q u m K X S
def BQ.write(hN:True){w':κ}{o:DO}{p:AK}(hk:h[k]?=Z (Z o))(c:ρ[k]?=Z p)(t:AR p.foot w w'):BQ (MS N h ρ) w ρ (MS N (h.set k<|Z o') ρ) w' ρ:=
 ⟨λb a z _=>t.block b a λe=>z<|.inr ⟨k,o,p,hk,c,e⟩,λb a=>.inl<|(MS.set hk).1 a,λ_ _ h=>h⟩
def A8.write{w':κ}{o:DO}{p:AK}(hk:h[k]?=Z (Z o))(c:ρ[k]?=Z p)(t:AR p.foot w w'):A8 h ρ w (h.set k<|Z o') ρ w':=
 ⟨t.mono λb _ a=>⟨k,o,p,hk,c,a⟩,λb a=>.inl<|(MO.set hk).1 a⟩
end
end
abbrev zAR:=@Nat.not_lt_zero
abbrev zB2:=@Option.some.injEq
abbrev zDN:=@Go.run_underlying
abbrev zKL:=@Bool.not_eq_true'
abbrev zLJ:=@Prod.mk.injEq
abbrev zLV:=@decide_eq_true_eq
abbrev zN8:=@Nat.mul_le_mul_right
abbrev zOc:=@Nat.mul_comm
abbrev zTR:=@Nat.add_mul
abbrev zTg:=@Option.isSome_iff_exists
abbrev zTh:=@Nat.add_assoc
def PW:μ->DV
 | .int k n=>.int k n
 | .bool b=>.bool b
 | .string s=>.str s
 | .slice V 0 0=>.nils
 |v=>C v.oneCell' (.cst v) .any
def Ak(fr:O DV):Operand->DV
 | .tmp t=>fr.getD t .any
 | .const v=>PW v
 | .global _=>.any
 | .func f=>.fn f 0 λ_=>.any
def KJ(P:ν)(t:ψ):ζ:=match P.underlying t with
 |some (.struct _)=>T
 |some (.array _ _)=>T
 |_=>D
def Sc(P:ν)(t:ψ)(m:U):ζ:=match P.underlying t with
 |some (.slice e)=>match P.info? e with
  |some i=>i.size==m&&m != 0
  |none=>D
 |_=>D
def Hc(P:ν)(t:ψ):ζ:=(P.underlying t).isSome&&!KJ P t
def aY(P:ν)(t:ψ)(m:U):ζ:=KJ P t&&(match P.info? t with|some i=>i.size==m|none=>D)
def iJ(P:ν)(s:ψ)(f:U):W0:=match P.underlying s with
 |some (.struct z)=>match z[f]? with
  |some e=>match P.info? e.type with
   |some i=>C (i.size=0) V<|Z (e.offset,i.size)
   |none=>V
  |none=>V
 |_=>V
def aT(P:ν)(t:ψ):W0:=match P.underlying t with
 |some (.array n e)=>match P.info? e with
  |some i=>C (n<=1) V<|Z (n,i.size)
  |none=>V
 |_=>V
def nj(P:ν)(t:ψ):A IntKind:=match P.underlying t with
 |some (.int k)=>Z k
 |_=>V
def jL(P:BinOp)(k:IntKind)(a b:E):A<|DV×Prop:=match P with
 | .add=>Z (.int k<|k.wrap<|a+b,True)
 | .sub=>Z (.int k<|k.wrap<|a-b,True)
 | .mul=>Z (.int k<|k.wrap<|a*b,True)
 | .and=>Z (.int k<|bits .and k a b,True)
 | .or=>Z (.int k<|bits .or k a b,True)
 | .xor=>Z (.int k<|bits .xor k a b,True)
 | .andNot=>Z (.int k<|bits .andNot k a b,True)
 | .eql=>Z (.bool<|a==b,True)
 | .neq=>Z (.bool<|a != b,True)
 | .lss=>Z (.bool<|H<|a<b,True)
 | .leq=>Z (.bool<|H<|a<=b,True)
 | .gtr=>Z (.bool<|H<|a>b,True)
 | .geq=>Z (.bool<|H<|a>=b,True)
 |_=>V
def Vh(P:ν)(t:ψ):U:=match P.underlying t with
 |some .bool=>1
 |some (.slice _)=>2
 |_=>0
def jM(Y:U)(op:BinOp)(x y:DV):A<|DV×Prop:=match op,x,y with
 | .eql,.bool a,.bool b=>C (Y=1) (Z (.bool<|a==b,True)) V
 | .neq,.bool a,.bool b=>C (Y=1) (Z (.bool<|!(a==b),True)) V
 | .eql,.ints l,.nils=>C (Y=2) (Z (.bool D,0<F l)) V
 | .eql,.bools l,.nils=>C (Y=2) (Z (.bool D,0<F l)) V
 | .neq,.ints l,.nils=>C (Y=2) (Z (.bool T,0<F l)) V
 | .shl,.int k a,.int _ b=>Z (.int k<|k.wrap<|a*2^b.toNat,0<=b/\b<=k.bits)
 | .shr,.int k a,.int _ b=>Z (.int k<|a/2^b.toNat,0<=b/\b<=k.bits)
 | .quo,.int k a,.int W b=>C (k=W) (Z (.int k<|k.wrap<|a.tdiv b,b≠0)) V
 | .rem,.int k a,.int W b=>C (k=W) (Z (.int k<|a.tmod b,b≠0)) V
 |op,.int k a,.int W b=>C (k=W) (jL op k a b) V
 |_,_,_=>V
def Re(P:ν)(S:St)(t:ψ):DV->A (DV×Prop)
 | .fp m f=>C (Hc P t) (C (m=0) V<|Z (f 0,True))<|C (aY P t m) (Z (.agg m f,True)) V
 | .ref k j=>match S.h[k]? with
  |some (Z<|.cells l)=>if Hc P t then C (j<F l) (Z (l.getD j .any,True)) V
   else match P.info? t with
    |some i=>C (KJ P t&&H (j+i.size<=F l)) (Z (.agg i.size<|Gv i.size λc=>l.getD (j+c) .any,True)) V
    |none=>V
  |some (Z<|.ro l)=>if Hc P t then C (j<F l) (Z (l.getD j .any,True)) V
   else match P.info? t with
    |some i=>C (KJ P t&&H (j+i.size<=F l)) (Z (.agg i.size<|Gv i.size λc=>l.getD (j+c) .any,True)) V
    |none=>V
  |_=>V
 | .mp k m i j=>match S.h[k]? with
  |some (Z<|.ints l)=>C (Hc P t&&(m==1)&&(j==0)) (Z (.int .i64<|M l i 0,i<F l)) V
  |some (Z<|.bools l)=>C (Hc P t&&(m==1)&&(j==0)) (Z (.bool<|l.getD i D,i<F l)) V
  |some (Z<|.arr a n f)=>if Hc P t&&(m==a)&&H (j<m)then Z (f i j,i<n)
   else C (aY P t m&&(m==a)&&(j==0)) (Z (.agg m<|f i,i<n)) V
  |some (Z<|.mo<|.sets _ q _)=>C (Hc P t&&(m==1)&&(j==0)) (Z (.mri k i,i<F q)) V
  |some (Z<|.mo<|.rws q V)=>C (Hc P t&&(m==1)&&(j==0)) (Z (.mri k<|i+1,i<F q)) V
  |_=>V
 |_=>V
def nq(P:ν)(t:ψ)(x:DV)(n:E):A<|DV×Prop:=match x with
 | .ints l=>C (Sc P t 1) (Z (.fp 1 λ_=>.int .i64<|M l n.toNat 0,0<=n/\n<F l)) V
 | .bools l=>C (Sc P t 1) (Z (.fp 1 λ_=>.bool<|l.getD n.toNat D,0<=n/\n<F l)) V
 | .sl m c f=>C (Sc P t m) (Z (.fp m<|f n.toNat,0<=n/\n<c)) V
 | .msl k m off c=>C (Sc P t m) (Z (.mp k m (off+n.toNat) 0,0<=n/\n<c)) V
 | .ref k j=>match aT P t with
  |some (len,Y)=>Z (.ref k<|j+n.toNat*Y,0<=n/\n<len)
  |none=>V
 | .mp k m i 0=>match aT P t with
  |some (len,Y)=>C (Y=m) (Z (.mp k m (i+n.toNat) 0,0<=n/\n<len)) V
  |none=>V
 | .fp m f=>match aT P t with
  |some (len,Y)=>C (n.toNat*Y+Y<=m) (Z (.fp Y<|Gv Y λj=>f<|n.toNat*Y+j,0<=n/\n<len)) V
  |none=>V
 |_=>V
def fE(P:ν)(t:ψ)(Ϛ:DV):A<|DV×Prop:=match P.underlying t,Ϛ with
 |some (.slice _),.nils=>Z (.int .i64 0,True)
 |some (.slice _),.ints l=>Z (.int .i64<|F l,True)
 |some (.slice _),.bools l=>Z (.int .i64<|F l,True)
 |some (.slice _),.sl _ n _=>Z (.int .i64 n,True)
 |some (.slice _),.msl _ _ _ n=>Z (.int .i64 n,True)
 |some .string,.str s=>Z (.int .i64 s.size,True)
 |_,_=>V
def nB(x y:DV):A<|DV×Prop:=match x,y with
 | .int k a,.int _ b=>Z (.int k<|C (b>a) b a,True)
 |_,_=>V
def nA(x y:DV):A<|DV×Prop:=match x,y with
 | .int k a,.int _ b=>Z (.int k<|C (b<a) b a,True)
 |_,_=>V
def fD(P:ν)(S:St)(t:ψ)(Ϛ:DV):A<|DV×Prop:=match Ϛ with
 | .gr k=>match P.underlying t,S.h[k]? with
  |some (.slice _),Z (Z<|.gro _ n _)=>Z (.int .i64 n,True)
  |_,_=>V
 |Ϛ=>fE P t Ϛ
def jJ(P:ν)(S:St)(b:Builtin)(args:O Operand)(Q:O ψ):A<|DV×Prop:=match b with
 | .len=>match args with
  |[x]=>match Q with
   |[t]=>fD P S t<|Ak S.fr x
   |_=>V
  |_=>V
 | .max=>match args with
  |[x,y]=>nB (Ak S.fr x)<|Ak S.fr y
  |_=>V
 | .min=>match args with
  |[x,y]=>nA (Ak S.fr x)<|Ak S.fr y
  |_=>V
 |_=>V
def pop(P:ν)(S:St):Op->A (DV×Prop)
 | .move x=>Z (Ak S.fr x,True)
 | .assign x=>Z (Ak S.fr x,True)
 | .pick c a b=>match Ak S.fr c with
  | .bool T=>Z (Ak S.fr a,True)
  | .bool D=>Z (Ak S.fr b,True)
  |_=>V
 | .load t x=>Re P S t<|Ak S.fr x
 | .binOp e t x y _=>jM (Vh P t) e (Ak S.fr x)<|Ak S.fr y
 | .unOp e _ x=>match e,Ak S.fr x with
  | .not,.bool b=>Z (.bool !b,True)
  | .neg,.int k n=>Z (.int k<|k.wrap<|0-n,True)
  | .xor,.int k n=>Z (.int k<|bits .xor k (C k.signed (-1) k.max) n,True)
  |_,_=>V
 | .convert s Ϛ x=>match P.underlying s,nj P Ϛ,Ak S.fr x with
  |some _,Z k,.int _ n=>Z (.int k<|k.wrap n,True)
  |_,_,_=>V
 | .nilCheck x=>match Ak S.fr x with
  | .fp m f=>Z (.fp m f,True)
  | .ref k j=>Z (.ref k j,True)
  | .mp k m i j=>Z (.mp k m i j,True)
  | .fn g m c=>Z (.fn g m c,True)
  |_=>V
 | .fieldAddr s x f=>match iJ P s f with
  |some (off,Y)=>match Ak S.fr x with
   | .fp m g=>C (off+Y<=m) (Z (.fp Y<|Gv Y λj=>g<|off+j,True)) V
   | .ref k j=>Z (.ref k<|j+off,True)
   | .mp k m i j=>Z (.mp k m i<|j+off,True)
   |_=>V
  |none=>V
 | .indexAddr t x i=>match Ak S.fr i with
  | .int _ n=>nq P t (Ak S.fr x) n
  |_=>V
 | .extract x i=>match Ak S.fr x with
  | .tup m f=>C (i<m) (Z (f i,True)) V
  |_=>V
 | .makeFunc (.func g) first c=>C (first.size=0) (Z (.fn g c.size<|Gv c.size λj=>Ak S.fr<|c.getD j<|.const undef,True)) V
 | .call c=>match c.callee with
  | .builtin b=>jJ P S b c.args.toList c.argTypes.toList
  |_=>V
 |_=>V
section
variable{P:ν}{Γ:A2}{N:Ψ}{S:St}{ρ:O AK}{a:Act}{w:κ}
variable{ϗ:Ψ}
theorem eD(v:μ):AJ ϗ w (PW v) ρ v:=by
 unfold PW;split
 ·rfl
 ·rfl
 ·rfl
 ·rfl
 grind[AJ]
theorem Be(R:AS P Γ N S ρ a w)(x:Operand):AJ (MS N S.h ρ) w (Ak S.fr x) ρ<|a.eval x:=by
 cases x with
 |tmp t=>exact R.fr.at t
 |const v=>exact eD v
 |global g=>trivial
 |func f=>exact⟨#[],rfl,rfl,λj b=>τ b<|zAR j⟩
variable{t:ψ}
def Wy{Ϛ:TypeDesc}(h:P.underlying t=Z Ϛ):(isAgg t).run P w=.ok (KJ P t) w:=by
 unfold isAgg KJ;rw[zLX,zDN h];simp only[Result.andThen,h];cases Ϛ <;> rfl
variable{i:TypeInfo}
theorem MB(h:P.info? t=Z i):(sizeOf t).run P w=.ok i.size w:=by
 grind[run_sizeOf,Program.cellsOf]
variable{u:μ}
theorem zHL{b:Addr}(h:Hc P t=T)(hc:w.cell? b=Z u):(loadVar t b).run P w=.ok u w:=by
 unfold Hc at h;simp only[zAK,zTg,zKL]at h;obtain⟨⟨Ϛ,hd⟩,hn⟩:=h
 simp_all[loadVar,Wy]
theorem zB(h:KJ P t=T):∃Ϛ,P.underlying t=Z Ϛ:=by
 grind[KJ]
variable{b o:U}
theorem zHM(h:KJ P t=T)(hi:P.info? t=Z i)(g:U->μ)(hc:∀j,j<i.size->w.cell? ⟨b,o+j,V⟩=Z (g j)):
 (loadVar t ⟨b,o,V⟩).run P w=.ok (.agg ((θ i.size).map g).toArray) w:=by
 obtain⟨Ϛ,r⟩:=zB h;unfold loadVar;rw[zLX,Wy r];simp only[Result.andThen,h,zN6];rw[zLX,MB hi];simp only[Result.andThen]
 rw[zLX,run_loadCells w ⟨b,o,V⟩ i.size g (λj hj=>by
  grind[Addr.add])]
 simp[Result.andThen]
def Keep(N:Ψ)(w W:κ):Prop:=∀b o u,¬N b->w.cell? ⟨b,o,V⟩=Z u->W.cell? ⟨b,o,V⟩=Z u
variable{W:κ}
def Keep.ofExt{N:Ψ}{w:κ}(h:A9 w W):Keep N w W:=λ_ _ _ _ hc=>h.cell hc
def Yl(P:ν)(N:Ψ)(w:κ)(ϗ:Ψ)(ρ:O AK)(s:Sem μ)(Ϛ:DV):Prop:=∃v,(∀W,Keep N w W->s.run P W=.ok v W)/\AJ ϗ w Ϛ ρ v
variable{n:U}
theorem T9{k:U}{o:DO}{p:AK}{Rw:U->μ->Prop}(R:AS P Γ N S ρ a w)(hk:S.h[k]?=Z (Z o))(b:ρ[k]?=Z p)(i:Ac w p n Rw):¬N p.blk:=(R.hr.cel k o p p.blk hk b<|by rw[i.1]).2.1
variable{v:μ}{f:U->DV}{m:U}
def iC(h:AJ ϗ w (.fp m f) ρ v):∃b o,v=.pointer (Z ⟨b,o,V⟩)/\∀j,j<m->¬ϗ b/\∃u,w.cell? ⟨b,o+j,V⟩=Z u/\AJ ϗ w (f j) [] u:=h
variable{Ϛ:DV}
theorem UB(h:AJ ϗ w Ϛ [] v):AJ ϗ w Ϛ ρ v:=h.out Ϛ ⟨λ_ _ _ _=>rfl,λ_ h=>.inl h,λk p hk=>by simp at hk⟩
theorem vR{b:Addr}:(Instr.loadAt t<|.pointer<|Z b).run P W=(loadVar t b).run P W:=rfl
theorem Pe(hN:¬N b)(h1:Hc P t=T)(hc:w.cell? ⟨b,o,V⟩=Z u)(i:AJ ϗ w Ϛ ρ u):Yl P N w ϗ ρ (Instr.loadAt t<|.pointer<|Z ⟨b,o,V⟩) Ϛ:=
 ⟨u,λW hE=>by grind[vR,zHL,Keep],i⟩
theorem fB(I:0<i.size->¬N b)(c:KJ P t=T)(hi:P.info? t=Z i)(h:∀j,j<i.size->∃u,w.cell? ⟨b,o+j,V⟩=Z u/\AJ ϗ w (f j) ρ u):
 Yl P N w ϗ ρ (Instr.loadAt t<|.pointer<|Z ⟨b,o,V⟩) (.agg i.size f):=by
 obtain⟨g,s⟩:∃g:U->μ,∀j,j<i.size->w.cell? ⟨b,o+j,V⟩=Z (g j)/\AJ ϗ w (f j) ρ (g j):=by
  refine⟨λj=>(w.cell? ⟨b,o+j,V⟩).getD undef,λj a=>?_⟩
  grind
 refine⟨_,λW e=>by exact zHM c hi g λj a=>e _ _ _ (I Z2) (s j a).1,_,rfl,Z3,λj a=>?_⟩
 grind
theorem rb(h:aY P t m=T):KJ P t=T/\∃i,P.info? t=Z i/\i.size=m:=by
 unfold aY at h
 grind
variable{x:DV}
theorem yZ(R:AS P Γ N S ρ a w){W:Prop}(K:AJ (MS N S.h ρ) w x ρ v)(h:Re P S t x=Z (Ϛ,W))(Q:W):
 Yl P N w (MS N S.h ρ) ρ (Instr.loadAt t v) Ϛ:=by
 unfold Re at h;split at h
 ·obtain⟨b,o,rfl,hc⟩:=iC K;split at h
  ·rename_i g;split at h
   ·cases h
   ·cases h;obtain⟨hM,u,I,J⟩:=hc 0 Z2
    grind[Pe,UB,MS]
  ·split at h
   ·rename_i s;cases h;obtain⟨Y,i,hi,rfl⟩:=rb s
    grind[fB,UB,MS]
   ·cases h
 ·rename_i k j;obtain⟨p,q,rfl⟩:=K;split at h
  ·rename_i l hk;obtain⟨p',r,z⟩:=R.hr.obj k _ hk;have e:p'=p:=zAN<|r.symm.trans q;subst e;split at h
   ·grind[Ac.cell,Pe,T9,Bi]
   ·split at h
    ·rename_i i hi;split at h
     ·rename_i s;cases h;simp only[zAK,zLV]at s;refine fB (λ_=>T9 R hk q z) s.1 hi λc hc=>?_
      grind[Ac.cell,Gv,Bi]
     ·cases h
    ·cases h
  ·rename_i l hk;obtain⟨p',r,_,r2,z⟩:=R.hr.obj k _ hk;have e:p'=p:=zAN<|r.symm.trans q;subst e;split at h
   ·grind[Ac.cell,Pe,MS]
   ·split at h
    ·rename_i i hi;split at h
     ·rename_i s;cases h;simp only[zAK,zLV]at s;refine fB (λ_ h=>r2<|.inl h) s.1 hi λc hc=>?_
      grind[Ac.cell,Gv]
     ·cases h
    ·cases h
  ·cases h
 ·rename_i k m i j;obtain⟨p,q,rfl⟩:=K;split at h
  ·rename_i l hk;obtain⟨p',r,z⟩:=R.hr.obj k _ hk;have e:p'=p:=zAN<|r.symm.trans q;subst e;split at h
   ·rename_i g;cases h;simp only[zAK,zB1]at g;obtain⟨⟨g,rfl⟩,rfl⟩:=g;obtain⟨u,I,J⟩:=Ac.cell z Q;exact Pe (T9 R hk q z) g (by simpa using I) J
   ·cases h
  ·rename_i l hk;obtain⟨p',r,z⟩:=R.hr.obj k _ hk;have e:p'=p:=zAN<|r.symm.trans q;subst e;split at h
   ·rename_i g;cases h;simp only[zAK,zB1]at g;obtain⟨⟨g,rfl⟩,rfl⟩:=g;obtain⟨u,I,J⟩:=Ac.cell z Q;exact Pe (T9 R hk q z) g (by simpa using I) J
   ·cases h
  ·rename_i y n f hk;obtain⟨p',r,z⟩:=R.hr.obj k _ hk;have e:p'=p:=zAN<|r.symm.trans q;subst e
   have inb:∀{i j:U},i<n->j<y->i*y+j<n*y:=λ{i j} hi X=>by
    have:(i+1)*y<=n*y:=zN8 _ hi
    grind
   have dv:∀{i j:U},j<y->(i*y+j)/y=i/\(i*y+j)%y=j:=λ{i j} X=>by
    have hm:0<y:=Z2
    simp_all[zOc,Nat.mul_add_div,Nat.mod_eq_of_lt]
   split at h
   ·rename_i g;cases h;simp only[zAK,zB1,zLV]at g;obtain⟨⟨g,rfl⟩,X⟩:=g
    grind[Ac.cell,Pe,T9,UB,Bi]
   ·split at h
    ·rename_i s;cases h;simp only[zAK,zB1]at s;obtain⟨⟨s,rfl⟩,rfl⟩:=s;obtain⟨Y,ti,hi,rfl⟩:=rb s
     grind[fB,T9,Ac.cell,UB,Bi]
    ·cases h
  ·rename_i n ls lk hk;obtain⟨p',r,vs,G⟩:=R.hr.obj k _ hk;have e:p'=p:=zAN<|r.symm.trans q;subst e;split at h
   ·rename_i g;cases h;simp only[zAK,zB1]at g;obtain⟨⟨g,rfl⟩,rfl⟩:=g;obtain⟨cs,tt,q1,q2,q3,q4⟩:=G.row;have hi:i<vs.size:=by rw[G.size];exact Q
    refine Pe (u:=vs[i]) (R.hr.cel k _ p' p'.blk hk q G.blk).2.1 g ?_ ⟨p',vs,q,G.val,zOS hi⟩
    grind[World.cell?]
   ·cases h
  ·rename_i ls hk;obtain⟨p',r,vs,G⟩:=R.hr.obj k _ hk;have e:p'=p:=zAN<|r.symm.trans q;subst e;split at h
   ·rename_i g;cases h;simp only[zAK,zB1]at g;obtain⟨⟨g,rfl⟩,rfl⟩:=g;obtain⟨cs,tt,q1,q2,q3,q4⟩:=G.row;have hi:i+1<vs.size:=by rw[G.size];omega
    refine Pe (u:=vs[i+1]) (R.hr.cel k _ p' p'.blk hk q G.blk).2.1 g ?_ ⟨p',vs,q,G.val,zOS hi⟩
    grind[World.cell?]
   ·cases h
  ·cases h
 ·cases h
variable{s:Sem μ}
def Yl.pure(h:∀W,s.run P W=.ok v W)(i:AJ ϗ w Ϛ ρ v):Yl P N w ϗ ρ s Ϛ:=⟨v,λW _=>h W,i⟩
theorem zBC(h:Sc P t m=T):P.underlying t=Z (.slice<|P.elem t)/\(∃i,P.info? (P.elem t)=Z i/\i.size=m)/\m≠0:=by
 grind[Sc,Program.elem]
theorem rK(h:aT P t=Z (n,m)):P.underlying t=Z (.array (P.arrayLen t)<|P.elem t)/\P.arrayLen t=n/\∃i,P.info? (P.elem t)=Z i/\i.size=m:=by
 grind[aT,Program.elem,Program.arrayLen]
theorem Lr(b o n:U):Addr.add ⟨b,o,V⟩ n=⟨b,o+n,V⟩:=by
 grind[Addr.add]
variable{k:IntKind}
theorem cW{len cap:U}{n:E}(h:Sc P t m=T)(h1:0<=n)(h2:n<len)(W:κ):
 (Instr.indexAt t (.slice (Z ⟨b,o,V⟩) len cap)<|.int k n).run P W=.ok (.pointer<|Z ⟨b,o+n.toNat*m,V⟩) W:=by
 obtain⟨hu,⟨i,hi,rfl⟩,_⟩:=zBC h
 simp_all[run_indexAt_slice,MB,Lr]
variable{K:Prop}
theorem zMM(R:AS P Γ N S ρ a w){n:E}(q:AJ (MS N S.h ρ) w x ρ v)(h:nq P t x n=Z (Ϛ,K))(g:K):
 Yl P N w (MS N S.h ρ) ρ (Instr.indexAt t v<|.int k n) Ϛ:=by
 unfold nq at h;split at h
 ·obtain⟨Q,cap,rfl,G,I,r⟩:=q;split at h
  ·rename_i l;cases h;obtain⟨b,o,rfl,s,hc⟩:=r n.toNat Z2;refine Yl.pure (λW=>cW l g.1 g.2 W) ⟨b,o+n.toNat*1,rfl,λj J=>⟨s,_,?_,rfl⟩⟩
   grind
  ·cases h
 ·obtain⟨Q,cap,rfl,G,I,r⟩:=q;split at h
  ·rename_i l;cases h;obtain⟨b,o,rfl,s,hc⟩:=r n.toNat Z2;refine Yl.pure (λW=>cW l g.1 g.2 W) ⟨b,o+n.toNat*1,rfl,λj J=>⟨s,_,?_,rfl⟩⟩
   grind
  ·cases h
 ·rename_i m c f;obtain⟨Q,cap,rfl,G,I,r⟩:=q;split at h
  ·rename_i l;cases h;have hm:=(zBC l).2;obtain⟨b,o,u,rfl,s,hc,hr⟩:=r n.toNat 0 Z2 Z2;refine Yl.pure (λW=>cW l g.1 g.2 W) ⟨b,o+n.toNat*m,rfl,λj J=>?_⟩;obtain⟨b',o',u',e,hM',Db,Ct⟩:=r n.toNat j Z2 J
   grind
  ·cases h
 ·obtain⟨p,cap,y,rfl,G,I,r⟩:=q;split at h
  ·rename_i l;cases h;exact Yl.pure (λW=>cW l g.1 g.2 W) ⟨p,y,Z4⟩
  ·cases h
 ·obtain⟨p,y,rfl⟩:=q;split at h
  ·rename_i len Y z;cases h;obtain⟨X,hl,i,hi,rfl⟩:=rK z;refine Yl.pure (λW=>?_) ⟨p,y,rfl⟩
   simp_all[run_indexAt_array,MB,Lr]
  ·cases h
 ·obtain⟨p,y,rfl⟩:=q;split at h
  ·rename_i len Y z;split at h
   ·cases h;obtain⟨X,hl,i,hi,rfl⟩:=rK z;refine Yl.pure (λW=>?_) ⟨p,y,rfl⟩
    simp_all[run_indexAt_array,MB,Lr,zTR]
   ·cases h
  ·cases h
 ·obtain⟨b,o,rfl,hc⟩:=iC q;split at h
  ·rename_i len Y z;split at h
   ·cases h;obtain⟨X,hl,i,hi,rfl⟩:=rK z;refine Yl.pure (λW=>?_) ⟨b,o+n.toNat*i.size,rfl,λj J=>?_⟩
    ·simp_all[run_indexAt_array,MB,Lr]
    ·obtain⟨s,u,G,I⟩:=hc (n.toNat*i.size+j) Z2
     grind[L4]
   ·cases h
  ·cases h
 ·cases h
theorem zHS{a:BinOp}{x y:E}{o:Prop}(t:ψ)(h:jL a k x y=Z (Ϛ,o))(ϗ:Ψ):Yl P N w ϗ ρ (binOp a t (.int k x)<|.int k y) Ϛ:=by
 cases a <;> simp only[jL,zB2,zLJ,reduceCtorEq]at h <;> obtain⟨rfl,-⟩:=h
 ·exact Yl.pure (λW=>by rw[binOp_add];rfl) rfl
 ·exact Yl.pure (λW=>by rw[binOp_sub];rfl) rfl
 ·exact Yl.pure (λW=>by rw[binOp_mul];rfl) rfl
 ·exact Yl.pure (λW=>by rw[binOp_and];rfl) rfl
 ·exact Yl.pure (λW=>by rw[binOp_or];rfl) rfl
 ·exact Yl.pure (λW=>by rw[binOp_xor];rfl) rfl
 ·exact Yl.pure (λW=>by rw[binOp_andNot];rfl) rfl
 ·exact Yl.pure (λW=>by rw[binOp_eql];rfl) rfl
 ·exact Yl.pure (λW=>by rw[binOp_neq];rfl) rfl
 ·exact Yl.pure (λW=>by rw[binOp_lss];rfl) rfl
 ·exact Yl.pure (λW=>by rw[binOp_leq];rfl) rfl
 ·exact Yl.pure (λW=>by rw[binOp_gtr];rfl) rfl
 ·exact Yl.pure (λW=>by rw[binOp_geq];rfl) rfl
theorem zQI{P:BinOp}{x y:Operand}{n:E}:eqGuard P t x y (.int k n) v=pure ():=by
 cases P <;> rfl
theorem zSC{j:BinOp}{y:DV}{g i:μ}{v:Prop}(p q:Operand)(f:AJ ϗ w x ρ g)(hy:AJ ϗ w y ρ i)(h:jM (Vh P t) j x y=Z (Ϛ,v))(r:v):
 Yl P N w ϗ ρ (do eqGuard j t p q g i;binOp j t g i) Ϛ:=by
 have key:∀{k z:IntKind} {n G:E},g=.int k n->i=.int z G->Yl P N w ϗ ρ (binOp j t (.int k n)<|.int z G) Ϛ->Yl P N w ϗ ρ (do eqGuard j t p q g i;binOp j t g i) Ϛ:=by
  grind[zQI]
 have I:Vh P t=1->P.underlying t=Z .bool:=λh=>by
  grind[Vh]
 have s:Vh P t=2->∃e,P.underlying t=Z (.slice e):=λh=>by
  grind[Vh]
 have eqn:∀{e:ψ} {a:Addr} {l c:U} (W:κ),P.underlying t=Z (.slice e)->(do eqGuard .eql t p q (.slice (Z a) l c) (.slice V 0 0);binOp .eql t (.slice (Z a) l c) (.slice V 0 0):Sem μ).run P W=.ok (.bool D) W:=by
  simp_all[eqGuard,binOp,run_equal_slice_nil]
 have nen:∀{e:ψ} {a:Addr} {l c:U} (W:κ),P.underlying t=Z (.slice e)->(do eqGuard .neq t p q (.slice (Z a) l c) (.slice V 0 0);binOp .neq t (.slice (Z a) l c) (.slice V 0 0):Sem μ).run P W=.ok (.bool T) W:=by
  simp_all[eqGuard,binOp,run_equal_slice_nil]
 unfold jM at h;split at h
 ·split at h
  ·rename_i e;cases h;have u:g=.bool _:=f;have K:i=.bool _:=hy;subst u;subst K;exact Yl.pure (λW=>run_eql_bool W t _ _<|I e) rfl
  ·cases h
 ·split at h
  ·rename_i e;cases h;have u:g=.bool _:=f;have K:i=.bool _:=hy;subst u;subst K;exact Yl.pure (λW=>run_neq_bool W t _ _<|I e) rfl
  ·cases h
 ·split at h
  ·rename_i e;cases h;obtain⟨e0,J⟩:=s e;obtain⟨Q,cap,rfl,R,S,m⟩:=f;obtain⟨b,o,rfl,_⟩:=m 0 r
   simp_all[Yl,AJ]
  ·cases h
 ·split at h
  ·rename_i e;cases h;obtain⟨e0,J⟩:=s e;obtain⟨Q,cap,rfl,R,S,m⟩:=f;obtain⟨b,o,rfl,_⟩:=m 0 r
   simp_all[Yl,AJ]
  ·cases h
 ·split at h
  ·rename_i e;cases h;obtain⟨e0,J⟩:=s e;obtain⟨Q,cap,rfl,R,S,m⟩:=f;obtain⟨b,o,rfl,_⟩:=m 0 r
   simp_all[Yl,AJ]
  ·cases h
 ·cases h;refine key f hy ?_
  simp_all[binOp_shl,shift_shl,Yl,AJ]
 ·cases h;refine key f hy ?_
  simp_all[binOp_shr,shift_shr,Yl,AJ]
 ·split at h
  ·rename_i e;subst e;cases h;exact key f hy<|Yl.pure (λW=>by simp_all[binOp_quo,Op.intDiv]) rfl
  ·cases h
 ·split at h
  ·rename_i e;subst e;cases h;exact key f hy<|Yl.pure (λW=>by simp_all[binOp_rem,Op.intDiv]) rfl
  ·cases h
 ·grind[zHS,AJ]
 ·cases h
variable{ρ':Operand->μ}
theorem I4{o:Oper}(he:ω ρ' o=(do pure (.value (←s))))(h:Yl P N w ϗ ρ s Ϛ):∃v,(∀W,Keep N w W->(ω ρ' o).run P W=.ok (.value v) W)/\AJ ϗ w Ϛ ρ v:=by
 obtain⟨v,h1,c⟩:=h;refine⟨v,λW hE=>?_,c⟩
 simp_all
variable{off Y:U}
theorem zP5{s:ψ}{f:U}(h:iJ P s f=Z (off,Y)):∃z e i,P.underlying s=Z (.struct z)/\z[f]?=Z e/\e.offset=off/\P.info? e.type=Z i/\i.size=Y/\Y≠0:=by
 unfold iJ at h
 grind
theorem lZ{s:ψ}{f:U}(h:iJ P s f=Z (off,Y))(W:κ):(Instr.fieldAt s (.pointer<|Z ⟨b,o,V⟩) f).run P W=.ok (.pointer<|Z ⟨b,o+off,V⟩) W:=by
 obtain⟨fs,fd,i,h1,h2,rfl,h4,rfl,h6⟩:=zP5 h
 simp_all[Instr.fieldAt,zDN,Instr.sureAddr,fieldPlace,MB,Lr]
theorem zLo(h:nj P t=Z k):P.underlying t=Z (.int k):=by
 grind[nj]
variable{ty:ψ}
def T8{e:ψ}{o:A Addr}{c:U}(h:P.underlying t=Z (.slice e))(W:κ):(Builtin.len_ #[t] ty #[.slice o n c]).run P W=.ok (.int .i64 n) W:=by
 simp[Builtin.len_,zDN h,goInt]
def zHN{s:ByteArray}(h:P.underlying t=Z .string)(W:κ):(Builtin.len_ #[t] ty #[.string s]).run P W=.ok (.int .i64 s.size) W:=by
 simp[Builtin.len_,zDN h,goInt]
variable{c:Call}
theorem qT{o:Oper}{b:Builtin}(ho:o.op=.call c)(hc:c.callee=.builtin b)
 (hb:builtin b c.argTypes o.type (c.args.map λ| .const _=>T|_=>D) (c.args.map ρ')=(do pure (.value (←s)))) (h:Yl P N w ϗ ρ s Ϛ):
 ∃v,(∀W,Keep N w W->(ω ρ' o).run P W=.ok (.value v) W)/\AJ ϗ w Ϛ ρ v:=by
 refine I4 (s:=s) ?_ h
 grind[ω,resolve,invoke]
theorem zK8{c:Prop}(e:AJ ϗ w x ρ v)(h:fE P t x=Z (Ϛ,c)):Yl P N w ϗ ρ (Builtin.len_ #[t] ty #[v]) Ϛ:=by
 unfold fE at h;split at h
 ·rename_i b a;cases h;simp_all[T8,Yl,AJ]
 ·rename_i b l a;cases h;obtain⟨o,cap,rfl,_⟩:=e;exact Yl.pure (λW=>T8 a W) rfl
 ·rename_i b l a;cases h;obtain⟨o,cap,rfl,_⟩:=e;exact Yl.pure (λW=>T8 a W) rfl
 ·rename_i b m n f a;cases h;obtain⟨o,cap,rfl,_⟩:=e
  simp_all[T8,Yl,AJ]
 ·rename_i b k m off n a;cases h;obtain⟨p,cap,_,rfl,_⟩:=e;exact Yl.pure (λW=>T8 a W) rfl
 ·rename_i s a;cases h;simp_all[zHN,Yl,AJ]
 ·cases h
def zK7(R:AS P Γ N S ρ a w){o:Prop}(b:AJ (MS N S.h ρ) w x ρ v)(h:fD P S t x=Z (Ϛ,o)):Yl P N w (MS N S.h ρ) ρ (Builtin.len_ #[t] ty #[v]) Ϛ:=by
 unfold fD at h;split at h
 ·split at h
  ·rename_i c hk;cases h;obtain⟨p,_,_,_,f,rfl,_⟩:=b;obtain⟨q,g,i⟩:=R.hr.obj _ _ hk;obtain rfl:q=p:=zAN<|g.symm.trans f;rcases i with⟨rfl,e,_⟩|⟨cap,e,_⟩ <;> rw[e] <;> exact Yl.pure (λW=>T8 c W) rfl
  ·cases h
 ·exact zK8 b h
variable{α:Type}
theorem zDj{l:υ α}{x:α}(h:l.toList= [x]):l= #[x]:=by cases l;simp at h;rw[h]
theorem bI{l:υ α}{x y:α}(h:l.toList= [x,y]):l= #[x,y]:=by cases l;simp at h;rw[h]
theorem zR6(R:AS P Γ N S ρ a w)(o:Oper){b:Builtin}{j:Prop}(e:o.op=.call c)(hc:c.callee=.builtin b)(h:jJ P S b c.args.toList c.argTypes.toList=Z (Ϛ,j)):
 ∃v,(∀W,Keep N w W->(ω a.eval o).run P W=.ok (.value v) W)/\AJ (MS N S.h ρ) w Ϛ ρ v:=by
 have I:=λx=>Be R x
 unfold jJ at h;split at h
 ·split at h
  ·rename_i x i;split at h
   ·rename_i t ht;exact qT (s:=Builtin.len_ #[t] o.type #[a.eval x]) e hc (by grind[zDj,builtin])<|zK7 R (I x) h
   ·cases h
  ·cases h
 ·split at h
  ·rename_i x y i;have f:=I x;have hy:=I y;unfold nB at h;split at h
   ·rename_i k n l m g K;cases h;rw[g]at f;rw[K]at hy;refine qT (s:=Builtin.max_ c.argTypes o.type #[a.eval x,a.eval y]) e hc (by grind[bI,builtin]) ?_
    simp_all[Builtin.max_,Builtin.max2,Yl,AJ]
   ·cases h
  ·cases h
 ·split at h
  ·rename_i x y i;have f:=I x;have hy:=I y;unfold nA at h;split at h
   ·rename_i k n l m g K;cases h;rw[g]at f;rw[K]at hy;refine qT (s:=Builtin.min_ c.argTypes o.type #[a.eval x,a.eval y]) e hc (by grind[bI,builtin]) ?_
    simp_all[Builtin.min_,Builtin.min2,Yl,AJ]
   ·cases h
  ·cases h
 ·cases h
theorem wo(R:AS P Γ N S ρ a w)(o:Oper)(h:pop P S o.op=Z (Ϛ,K))(Q:K):
 ∃v,(∀W,Keep N w W->(ω a.eval o).run P W=.ok (.value v) W)/\AJ (MS N S.h ρ) w Ϛ ρ v:=by
 have I:=λx=>Be R x
 unfold pop at h;split at h
 ·rename_i x q;cases h;exact⟨a.eval x,λW _=>by unfold ω;rw[q];rfl,I x⟩
 ·rename_i x q;cases h;exact⟨a.eval x,λW _=>by unfold ω;rw[q];rfl,I x⟩
 ·rename_i c x y q;have hc:=I c;split at h
  ·rename_i e;cases h;rw[e]at hc;exact⟨a.eval x,λW _=>by unfold ω;rw[q];simp only[show a.eval c=.bool T from hc];rfl,I x⟩
  ·rename_i e;cases h;rw[e]at hc;exact⟨a.eval y,λW _=>by unfold ω;rw[q];simp only[show a.eval c=.bool D from hc];rfl,I y⟩
  ·cases h
 ·rename_i t x q;exact I4 (by unfold ω;rw[q])<|yZ R (I x) h Q
 ·rename_i X t x y t' q;exact I4 (by unfold ω;rw[q])<|zSC x y (I x) (I y) h Q
 ·rename_i X t x q;have l:=I x;refine I4 (s:=Op.unary X<|a.eval x) (by unfold ω;rw[q]) ?_;split at h
  ·rename_i b e;cases h;rw[e]at l;rw[show a.eval x=.bool b from l];exact Yl.pure (λW=>rfl) rfl
  ·rename_i k n e;cases h;rw[e]at l;rw[show a.eval x=.int k n from l];exact Yl.pure (λW=>rfl) rfl
  ·rename_i k n e;cases h;rw[e]at l;rw[show a.eval x=.int k n from l];exact Yl.pure (λW=>rfl) rfl
  ·cases h
 ·rename_i ts td x q;have l:=I x;split at h
  ·rename_i dd k k' n hs hd e;cases h;rw[e]at l;refine I4 (s:=convert ts td<|a.eval x) (by unfold ω;rw[q]) ?_
   simp_all[convert,zDN,zLo,Conv.intToInt,Yl,AJ]
  ·cases h
 ·rename_i x q;have l:=I x;split at h
  ·rename_i m f e;cases h;rw[e]at l;obtain⟨b,Y,r,z⟩:=iC l;exact⟨_,λW _=>by simp_all[ω],b,Y,rfl,z⟩
  ·rename_i k j e;cases h;rw[e]at l;obtain⟨p,G,r⟩:=l
   simp_all[ω,AJ]
  ·rename_i k m i j e;cases h;rw[e]at l;obtain⟨p,G,r⟩:=l
   simp_all[ω,AJ]
  ·rename_i g m c e;cases h;rw[e]at l;obtain⟨lb,r,z⟩:=l;exact⟨_,λW _=>by simp_all[ω],lb,rfl,z⟩
  ·cases h
 ·rename_i st x f q;have l:=I x;split at h
  ·rename_i off sz J;refine I4 (s:=Instr.fieldAt st (a.eval x) f) (by unfold ω;rw[q]) ?_;split at h
   ·rename_i m g e;split at h
    ·cases h;rw[e]at l;obtain⟨b,Y,r,z⟩:=iC l;rw[r];refine Yl.pure (λW=>lZ J W) ⟨b,_,rfl,λj hj=>?_⟩;obtain⟨g1,u,g2,g3⟩:=z (off+j) Z2
     grind[L4]
    ·cases h
   ·rename_i k j e;cases h;rw[e]at l;obtain⟨p,G,r⟩:=l;rw[r];exact Yl.pure (λW=>lZ J W) ⟨p,G,by rw[zTh]⟩
   ·rename_i k m i j e;cases h;rw[e]at l;obtain⟨p,G,r⟩:=l;rw[r];exact Yl.pure (λW=>lZ J W) ⟨p,G,Z4⟩
   ·cases h
  ·cases h
 ·rename_i t x i q;have hi:=I i;split at h
  ·rename_i k n e;rw[e]at hi;refine I4 (s:=Instr.indexAt t (a.eval x)<|a.eval i) (by unfold ω;rw[q]) ?_
   grind[zMM,AJ]
  ·cases h
 ·rename_i x i q;have l:=I x;split at h
  ·rename_i m f e;split at h
   ·cases h;rw[e]at l;obtain⟨cs,r,hs,z⟩:=l;refine I4 (s:=Instr.extract (a.eval x) i) (by unfold ω;rw[q]) ?_
    simp_all[Yl.pure,Instr.extract]
   ·cases h
  ·cases h
 ·rename_i g first c q
  split at h
  ·cases h;refine⟨.func (.func g) #[]<|c.map a.eval,λW _=>?_,c.map a.eval,rfl,Z3,λj hj=>?_⟩
   ·simp_all[ω,Instr.makeFunc]
   simp_all[L4]
  ·cases h
 ·grind[zR6]
 ·cases h
end
abbrev zAP:=@List.all_eq_true
abbrev zAS:=@List.length_map
abbrev zBx:=@List.getElem?_eq_getElem
abbrev zCs:=@Int.le_refl
abbrev zJw:=@List.getElem_of_mem
abbrev zKR:=@List.length_replicate
abbrev zML:=@List.getElem?_append_right
abbrev zOG:=@Nat.mul_one
abbrev zO3:=@Nat.div_lt_iff_lt_mul
abbrev zTv:=@List.flatMap_cons
abbrev zTw:=@Nat.succ_mul
abbrev zTx:=@Nat.mul_le_mul
def JW:DV->ζ
 | .any=>D
 | .agg .. =>D
 | .tup .. =>D
 | .it _=>D
 | .mri .. =>D
 |_=>T
def KZ:DV->A (O DV)
 | .agg m f=>Z<|(θ m).map f
 | .any=>V
 | .tup .. =>V
 | .it _=>V
 | .mri .. =>V
 |Ϛ=>Z [Ϛ]
def UM:DV->ζ
 | .int .. =>T
 | .bool _=>T
 | .str _=>T
 | .nils=>T
 | .ints _=>T
 | .bools _=>T
 | .sl .. =>T
 |_=>D
section
variable{P:ν}{Γ:A2}{N:Ψ}{S:St}{ρ:O AK}{a:Act}{w:κ}
variable{v:μ}{Ϛ:DV}{ϗ:Ψ}
theorem eA(h:JW Ϛ=T)(a:AJ ϗ w Ϛ ρ v):v.oneCell'=T/\v.cells= #[v]:=by
 have key:(∀cs,v≠.agg cs)->(∀cs,v≠.tuple cs)->v.oneCell'=T/\v.cells= #[v]:=λp q=>by
  cases v <;> first|exact⟨rfl,rfl⟩|exact τ rfl (p _)|exact τ rfl (q _)
 cases Ϛ with
 |any=>cases h
 |agg m f=>cases h
 |tup m f=>cases h
 |nils=>grind[AJ]
 |int k n=>grind[AJ]
 |bool b=>grind[AJ]
 |str s=>grind[AJ]
 |ints l=>grind[AJ]
 |bools l=>grind[AJ]
 |sl m n f=>grind[AJ]
 |fp m f=>grind[AJ]
 |ref k j=>grind[AJ]
 |msl k m off n=>grind[AJ]
 |mp k m i j=>grind[AJ]
 |fn g m c=>grind[AJ]
 |it k=>cases h
 |yl l=>exact key (λcs e=>by rw[a]at e;cases e) (λcs e=>by rw[a]at e;cases e)
 |mse k m o n=>obtain⟨_,_,_,_,rfl,_⟩:=a;exact⟨rfl,rfl⟩
 |gr k=>obtain⟨_,_,_,_,_,_,rfl⟩:=a;exact⟨rfl,rfl⟩
 |mri k i=>cases h
 |cst u=>obtain⟨rfl,t⟩:=a;cases v <;> first|exact⟨rfl,rfl⟩|(cases t)
variable{l:O DV}
theorem Zw(h:KZ Ϛ=Z l)(a:AJ ϗ w Ϛ ρ v):v.cells.size=F l/\∀j,j<F l->∃u,v.cells[j]?=Z u/\AJ ϗ w (l.getD j .any) ρ u:=by
 have one:JW Ϛ=T->l= [Ϛ]->v.cells.size=F l/\∀j,j<F l->∃u,v.cells[j]?=Z u/\AJ ϗ w (l.getD j .any) ρ u:=by
  intro e h2;rw[(eA e a).2]
  grind
 cases Ϛ with
 |any=>cases h
 |tup m f=>cases h
 |it k=>cases h
 |yl l=>cases h;exact one rfl rfl
 |mse k m o n=>cases h;exact one rfl rfl
 |gr k=>cases h;exact one rfl rfl
 |mri k i=>cases h
 |cst u=>grind[KZ,JW]
 |agg m f=>
  cases h;obtain⟨cs,rfl,hs,hc⟩:=a
  grind[Value.cells]
 |nils=>cases h;exact one rfl rfl
 |int k n=>cases h;exact one rfl rfl
 |bool b=>cases h;exact one rfl rfl
 |str s=>cases h;exact one rfl rfl
 |ints l=>cases h;exact one rfl rfl
 |bools l=>cases h;exact one rfl rfl
 |sl m n f=>cases h;exact one rfl rfl
 |fp m f=>cases h;exact one rfl rfl
 |ref k j=>cases h;exact one rfl rfl
 |msl k m off n=>cases h;exact one rfl rfl
 |mp k m i j=>cases h;exact one rfl rfl
 |fn g m c=>cases h;exact one rfl rfl
def mS(h:UM Ϛ=T)(i:AJ ϗ w Ϛ ρ v):AJ ϗ w Ϛ [] v:=by
 cases Ϛ <;> first|exact i|(cases h)
structure CG(P:ν)(Γ:A2)(N:Ψ)(h:DH)(ρ:O AK)(w:κ)(ext:ζ)(Ϛ:DV)(h':DH)(v:μ)(w':κ):Prop where
 ex:∃ρ',Ap P Γ N h' ρ' w'/\AJ (MS N h' ρ') w' Ϛ ρ' v/\A8 h ρ w h' ρ' w'/\(∀(k:U) (p:AK),ρ[k]?=Z p->ρ'[k]?=Z p)
 ext:ext=T->A9 w w'
def BP(P:ν)(s:Sem Next)(w:κ)(G:μ->κ->Prop):Prop:=(∃v w',s.run P w=.ok (.value v) w'/\G v w')∨(∃w',s.run P w=.ok .skip w'/\G undef w')∨ (∃f args w',s.run P w=.ok (.enter f args) w'/\Calls P f args w' λe c=>∃v,e=.returned v/\G v c)
variable{w':κ}{o:Oper}{ρ':Operand->μ}{G:μ->κ->Prop}
def BP.value{s:Sem μ}(a:ω ρ' o=(do pure (.value (←s))))(h:s.run P w=.ok v w')(j:G v w'):BP P (ω ρ' o) w G:=
 .inl ⟨v,w',by rw[a,zLX,h];rfl,j⟩
theorem BP.skip{s:Sem Unit}(a:ω ρ' o=(do s;pure .skip))(h:s.run P w=.ok () w')(j:G undef w'):BP P (ω ρ' o) w G:=
 .inr (.inl ⟨w',by rw[a,zLX,h];rfl,j⟩)
def Ek(w:κ)(a:U):AK:=⟨w.heap.size,0,a,undef,λb=>b=w.heap.size⟩
variable{w1:κ}{t:ψ}{cs:υ μ}
theorem VF(Ϙ:Ap P Γ N S.h ρ w){o:DO}(e:A9 w w1/\w1.heap.size=w.heap.size)
 (x:∀ϗ ρ',BQ (MS N S.h ρ) w ρ ϗ (w1.alloc<|.cells cs t) ρ'->Bi P ϗ (w1.alloc<|.cells cs t) ρ' (Ek w cs.size) o)
 (f:∀ϗ ρ',ρ'[F S.h]?=Z (Ek w cs.size)->AJ ϗ (w1.alloc<|.cells cs t) Ϛ ρ' v) (ext:ζ):
 CG P Γ N S.h ρ w ext Ϛ (S.h++[Z o]) v (w1.alloc<|.cells cs t):=by
 have s:A9 w<|w1.alloc<|.cells cs t:=e.1.allocR _;have g:∀b,(Ek w cs.size).foot b->w.heap.size<=b:=λb a=>Nat.le_of_eq<|Eq.symm a
 have a:(w1.alloc<|.cells cs t).heap[w.heap.size]?=Z (.cells cs t (0,0)):=by grind[heap_alloc_new]
 refine⟨⟨ρ++[Ek w cs.size],Ϙ.snoc s (λb i=>⟨g b i,.cells (c:=cs) (t:=t) (z:=(0,0))<|by grind[Ek]⟩)<|x _ _<|BQ.snoc Ϙ s g,?_,A8.snoc Ϙ s g,λk p hk=>FL hk⟩,λ_=>s⟩;exact f _ _ (by rw[←Ϙ.len];simp)
variable{n:U}
theorem O4(hs:w1.heap.size=w.heap.size){R:U->μ->Prop}(s:n<=cs.size)(hR:∀j,j<n->∃u,cs[j]?=Z u/\R j u):Ac (w1.alloc<|.cells cs t) (Ek w cs.size) n R:=by
 refine⟨rfl,cs,t,?_,by simpa[Ek]using s,zAf _,λj hj=>by grind[Ek]⟩
 grind[heap_alloc_new,Ek]
variable{x:Operand}
theorem zR9(R:AS P Γ N S ρ a w)(h:KZ (Ak S.fr x)=Z l)(o:Oper)(b:o.op=.box t x)(ext:ζ):
 BP P (ω a.eval o) w (CG P Γ N S.h ρ w ext (.ref (F S.h) 0) (S.h++[Z<|.cells l])):=by
 obtain⟨h1,c⟩:=Zw h<|Be R x;refine BP.value (s:=Instr.box t<|a.eval x) (by unfold ω;rw[b]) (v:=.pointer<|Z ⟨w.heap.size,0,V⟩) (w':=w.alloc<|.cells (a.eval x).cells t) ?_ ?_
 ·rfl
 ·refine VF (Ϛ:=.ref (F S.h) 0) R.hr ⟨A9.refl w,rfl⟩ (λϗ ρ' ϐ=>?_) (λϗ ρ' e=>⟨_,e,rfl⟩) ext;refine O4 rfl Z2 λj g=>?_
  obtain⟨u,p,f⟩:=c j g;exact⟨u,p,f.out _ ϐ⟩
variable{z:μ}{i:TypeInfo}
theorem zSo(R:AS P Γ N S ρ a w)(hi:P.info? t=Z i)(f:i.zero=Z z)(o:Oper)(x:o.op=.alloc t)(ext:ζ):
 BP P (ω a.eval o) w (CG P Γ N S.h ρ w ext (.ref (F S.h) 0) (S.h++[Z<|.cells<|z.cells.toList.map PW])):=by
 refine BP.value (s:=Instr.alloc t T<|.tuple #[]) (by unfold ω;rw[x]) (v:=.pointer<|Z ⟨w.heap.size,0,V⟩) (w':=w.alloc<|.cells z.cells t) ?_ ?_
 ·simp[Instr.alloc,zeroValue,typeInfo,hi,f,newVar,newRow,newObj];rfl
 ·refine VF (Ϛ:=.ref (F S.h) 0) R.hr ⟨A9.refl w,rfl⟩ (λϗ ρ' ϐ=>?_) (λϗ ρ' b=>⟨_,b,rfl⟩) ext;refine O4 rfl Z3 λj hj=>?_
  grind[eD]
def zAy:μ->ζ
 | .bool D=>T
 |_=>D
def jm(z:μ):ζ:=H (2<z.cells.size)&&z.cells.toList.all zAy
theorem zSp(R:AS P Γ N S ρ a w)(hi:P.info? t=Z i)(f:i.zero=Z z)(b:jm z=T)(o:Oper)(x:o.op=.alloc t)(ext:ζ):
 BP P (ω a.eval o) w (CG P Γ N S.h ρ w ext (.mp (F S.h) 1 0 0) (S.h++[Z<|.bools<|d z.cells.size D])):=by
 refine BP.value (s:=Instr.alloc t T<|.tuple #[]) (by unfold ω;rw[x]) (v:=.pointer<|Z ⟨w.heap.size,0,V⟩) (w':=w.alloc<|.cells z.cells t) ?_ ?_
 ·simp[Instr.alloc,zeroValue,typeInfo,hi,f,newVar,newRow,newObj];rfl
 ·refine VF (Ϛ:=.mp (F S.h) 1 0 0) R.hr ⟨A9.refl w,rfl⟩ (λϗ ρ' ϐ=>?_) (λϗ ρ' c=>⟨_,c,rfl⟩) ext;refine O4 rfl Z3 λj g=>?_
  have Dg:j<z.cells.size:=by simpa using g
  simp only[jm,zAK,zAP]at b;have:=b.2 z.cells[j] Z3
  grind[zAy]
inductive EK where
 |ints
 |bools
 |gen (m:U)
def M6(P:ν)(t:ψ):A<|EK×ψ×TypeInfo×μ:=match P.underlying t with
 |some (.slice e)=>match P.info? e with
  |some i=>match i.zero with
   |some z=>if i.size=0 then V else if z.cells.size≠i.size then V else match P.underlying e with
    |some (.int .i64)=>C (i.size=1) (match z with| .int .i64 0=>Z (.ints,e,i,z)|_=>V) V
    |some .bool=>C (i.size=1) (match z with| .bool D=>Z (.bools,e,i,z)|_=>V) V
    |_=>Z (.gen i.size,e,i,z)
   |none=>V
  |none=>V
 |_=>V
def EK.cells:EK->U
 | .ints=>1
 | .bools=>1
 | .gen m=>m
variable{e:ψ}{k:EK}
theorem Zh(h:M6 P t=Z (k,e,i,z)):P.underlying t=Z (.slice e)/\P.info? e=Z i/\i.zero=Z z/\i.size≠0/\z.cells.size=i.size/\k.cells=i.size/\
 (k=.ints->z=.int .i64 0)/\(k=.bools->z=.bool D):=by
 unfold M6 at h
 repeat' (split at h)
 all_goals first
  |(cases h;done)
  |skip
 all_goals
  simp only[zB2,zLJ]at h;obtain⟨rfl,rfl,rfl,rfl⟩:=h
  grind[EK.cells]
theorem qA{s:U}(l:0<s):∀(vs:O μ),(∀v∈vs,v.cells.size=s)->∀i j,i<F vs->j<s->(vs.flatMap λv=>v.cells.toList)[i*s+j]?=(vs[i]?).bind λv=>v.cells[j]?
 |[],_,i,j,hi,_=>τ hi<|zAR i
 |v::vs,o,i,j,hi,g=>by
  have y:F v.cells.toList=s:=by simpa using o v Z3
  rw[zTv];cases i with
  |zero=>grind
  |succ i=>
   rw[zML (by rw[y,zTw];omega),y,show(i+1)*s+j-s=i*s+j by rw[zTw];omega];rw[qA l vs (λv h=>o v<|by simp[h]) i j (by simpa using hi) g];simp
def It:DV->E
 | .int _ n=>n
 |_=>0
def jK:DV->ζ
 | .bool b=>b
 |_=>D
def KF:DV->ζ
 | .int .i64 _=>T
 |_=>D
def nh:DV->ζ
 | .bool _=>T
 |_=>D
def Vf(k:EK)(ds:O DV):A DO:=match k with
 | .ints=>C (ds.all KF) (Z<|.ints<|ds.map It) V
 | .bools=>C (ds.all nh) (Z<|.bools<|ds.map jK) V
 | .gen m=>if ds.all λϚ=>(match KZ Ϛ with|some l=>F l==m&&l.all UM|none=>D)then
  Z (.arr m (F ds) (λi j=>match KZ (ds.getD i .any)with|some l=>l.getD j .any|none=>.any))else V
theorem fR(h:KF Ϛ=T)(i:AJ ϗ w Ϛ ρ v):v=.int .i64 (It Ϛ):=by
 unfold KF at h;split at h
 ·exact i
 ·cases h
def zLk(h:nh Ϛ=T)(i:AJ ϗ w Ϛ ρ v):v=.bool (jK Ϛ):=by
 unfold nh at h;split at h
 ·exact i
 ·cases h
theorem zR8{ds:O DV}{o:DO}{vs:O μ}(hk:0<k.cells)(h:Vf k ds=Z o)(N:F vs=F ds)(f:∀i,i<F ds->AJ ϗ w (ds.getD i .any) ρ (vs.getD i undef)):
 (∀v∈vs,v.cells.size=k.cells)/\∀S (w':κ) ρ',BQ ϗ w ρ S w' ρ'->∀(cs:υ μ) (t:ψ) (p:AK),cs.toList=(vs.flatMap λv=>v.cells.toList)->Ac w' p (F ds*k.cells) (λj u=>cs[j]?=Z u)->Bi P S w' ρ' p o:=by
 have one:∀{j:U},k.cells=1->j<F ds*k.cells->(∀v∈vs,v.cells.size=k.cells)->∀{u},(vs.flatMap λv=>v.cells.toList)[j]?=Z u->(vs[j]?).bind (λv=>v.cells[0]?)=Z u:=λ{j} n g a {u} q=>by
  rw[n]at g a;have:=qA (s:=1) Z2 vs a j 0 Z2 Z2
  grind
 have b:∀v∈vs,∃i,i<F ds/\v=vs.getD i undef/\vs[i]?=Z v:=λv f=>by
  obtain⟨i,hi,rfl⟩:=zJw f
  grind
 have r:∀i,i<F ds->ds.getD i .any∈ds:=λi hi=>by simp[hi]
 cases k with
 |ints=>
  simp only[Vf]at h;split at h
  ·rename_i z;cases h;have Y:∀i,i<F ds->vs.getD i undef=.int .i64 (It<|ds.getD i .any):=λi hi=>fR (zAP.1 z _<|r i hi)<|f i hi
   have a:∀v∈vs,v.cells.size=EK.ints.cells:=λv x=>by obtain⟨i,hi,e,_⟩:=b v x;rw[e,Y i hi];rfl
   refine⟨a,λS w' ρ' ϐ cs t p G c=>?_⟩;have I:F ds*EK.ints.cells=F (ds.map It):=by simp[EK.cells]
   rw[I]at c;refine Ac.out c rfl λj u g q=>?_
   have J:j<F ds:=by simpa using g
   have y:=one rfl (by simpa[EK.cells]using J) a (u:=u) (by rw[←G];simpa using q)
   grind[Value.cells]
  ·cases h
 |bools=>
  simp only[Vf]at h;split at h
  ·rename_i z;cases h;have Y:∀i,i<F ds->vs.getD i undef=.bool (jK<|ds.getD i .any):=λi hi=>zLk (zAP.1 z _<|r i hi)<|f i hi
   have a:∀v∈vs,v.cells.size=EK.bools.cells:=λv x=>by obtain⟨i,hi,e,_⟩:=b v x;rw[e,Y i hi];rfl
   refine⟨a,λS w' ρ' ϐ cs t p G c=>?_⟩;have I:F ds*EK.bools.cells=F (ds.map jK):=by simp[EK.cells]
   rw[I]at c;refine Ac.out c rfl λj u g q=>?_
   have J:j<F ds:=by simpa using g
   have y:=one rfl (by simpa[EK.cells]using J) a (u:=u) (by rw[←G];simpa using q)
   grind[Value.cells]
  ·cases h
 |gen m=>
  simp only[Vf]at h;split at h
  ·rename_i z;cases h;have K:0<m:=hk
   have Y:∀i,i<F ds->∃l,KZ (ds.getD i .any)=Z l/\F l=m/\(∀Ϛ∈l,UM Ϛ=T):=λi hi=>by
    grind
   have a:∀v∈vs,v.cells.size=(EK.gen m).cells:=λv x=>by
    obtain⟨i,hi,e,_⟩:=b v x;obtain⟨l,n,y,_⟩:=Y i hi;rw[e,(Zw n<|f i hi).1,y];rfl
   refine⟨a,λS w' ρ' ϐ cs t p G c=>?_⟩;refine Ac.out c rfl λj u g q=>?_
   have hj0:j<F ds*m:=g;have hi:j/m<F ds:=by simp_all[zO3]
   have hc:j%m<m:=Nat.mod_lt _ K;obtain⟨l,n,y,Q⟩:=Y (j/m) hi;have R:=qA (s:=m) K vs a (j/m) (j%m) Z2 hc;rw[show j/m*m+j%m=j by grind[Nat.div_add_mod]]at R;obtain⟨_,X⟩:=Zw n<|f (j/m) hi;obtain⟨W,g1,g2⟩:=X (j%m) Z2;have h6:vs.getD (j/m) undef=vs[j/m]'Z2:=by simp[N,hi]
   have AY:j/m<F vs:=Z2
   rw[zBx AY]at R;rw[h6]at g1
   have:u=W:=by
    grind
   subst this;simp only[n];refine AJ.out _ ϐ.nil<|mS (Q _ ?_) g2;simp[y,hc]
  ·cases h
theorem lm(hs:w1.heap.size=w.heap.size)(s:cs.size=n):Ac (w1.alloc<|.cells cs t) (Ek w n) n λj u=>cs[j]?=Z u:=by
 subst s
 simp_all[O4]
def iZ(parts:O<|U×Operand)(len:U):ζ:=parts.map (·.1)==θ len
theorem zQm{parts:O (U×Operand)}{len:U}(h:iZ parts len=T)(f:Operand->μ):F parts=len/\(parts.map λx=>(x.1,f x.2))=((parts.map λx=>f x.2).zipIdx 0).map λx=>(x.2,x.1):=by
 simp only[iZ,zB1]at h;have m:F parts=len:=by have:=congrArg List.length h;simpa using this
 refine⟨m,List.ext_getElem? λi=>?_⟩
 by_cases hi:i<F parts
 ·have a:parts[i].1=i:=by
   have h2:=congrArg (λl:Θ=>l[i]?) h
   grind
  simp[hi,a]
 grind
theorem zR7(R:AS P Γ N S ρ a w){t:ψ}{len:U}{parts:υ (U×Operand)}{k:EK}{e:ψ}{i:TypeInfo}{z:μ}{ob:DO}(hk:M6 P t=Z (k,e,i,z))(r:iZ parts.toList len=T)(p:len<=65536/\k.cells<=64)
 (m:Vf k (parts.toList.map λx=>Ak S.fr x.2)=Z ob) (o:Oper) (n:o.op=.buildSlice t len parts) (ext:ζ):
 BP P (ω a.eval o) w (CG P Γ N S.h ρ w ext (.msl (F S.h) k.cells 0 len) (S.h++[Z ob])):=by
 obtain⟨g,hi,q,h0,DJ,HA,_,_⟩:=Zh hk;obtain⟨y,SD⟩:=zQm r a.eval;have X:=p.1;have zOJ:=p.2;have K:0<k.cells:=Z2
 obtain⟨hs,u⟩:=zR8 (w:=w) (ϗ:=MS N S.h ρ) (ρ:=ρ) (vs:=parts.toList.map λx=>a.eval x.2) K m Z3 (λj hj=>by
  grind[Be])
 have G7:F (parts.toList.map λx=>a.eval x.2)=len:=by simpa using y
 have Y:((parts.toList.map λx=>a.eval x.2).flatMap λv=>v.cells.toList).toArray.size=len*k.cells:=by
  have:∀(l:O μ),(∀v∈l,v.cells.size=k.cells)->F (l.flatMap λv=>v.cells.toList)=F l*k.cells:=by
   intro l
   induction l with
   |nil=>simp
   |cons v l ih=>grind
  grind
 refine BP.value (s:=Instr.buildSlice t len<|parts.map λ(i,x)=>(i,a.eval x)) (by unfold ω;rw[n]) (v:=.slice (Z ⟨w.heap.size,0,V⟩) len len) (w':=w.alloc<|.cells ((parts.toList.map λx=>a.eval x.2).flatMap λv=>v.cells.toList).toArray e) ?_ ?_
 ·have b:¬len*i.size>2^24:=by
   have:len*i.size<=65536*64:=zTx X Z2;omega
  by_cases G:len=0
  ·subst G
   have c:parts= #[]:=by
    grind
   subst c;have Hg:Array.map (λ(x:U)=>(ξ:μ)) (Array.range 0)= #[]:=by simp[Array.range_zero']
   simp[Instr.buildSlice,zDN g,sizeOf,typeInfo,hi,newRow,Instr.fill,Array.range_zero']
  ·have f:¬len*i.size=0:=by rw[Nat.mul_eq_zero];omega
   refine run_buildSlice w t e len _ _ i z g hi q b f ?_;have e1:(parts.map λ(i,x)=>(i,a.eval x)).toList=parts.toList.map λx=>(x.1,a.eval x.2):=Z3
   grind[Great.fill_whole]
 ·have:=VF (Ϛ:=.msl (F S.h) k.cells 0 len) (o:=ob) (v:=.slice (Z ⟨w.heap.size,0,V⟩) len len) (cs:=((parts.toList.map λx=>a.eval x.2).flatMap λv=>v.cells.toList).toArray) (t:=e) R.hr ⟨A9.refl w,rfl⟩
   (λϗ ρ' ϐ=>u _ _ _ ϐ ((parts.toList.map λx=>a.eval x.2).flatMap λv=>v.cells.toList).toArray e _ rfl (by rw[Y,zAS,y];exact lm (w:=w) (w1:=w) (t:=e) rfl Y))
   (λϗ ρ' c=>⟨_,len,c,by simp[Ek],zAf _,by unfold LB;omega,by grind[Ek]⟩) ext
  exact this
def yN(k:EK)(n:U)(z:μ):DO:=match k with
 | .ints=>.ints<|d n 0
 | .bools=>.bools<|d n D
 | .gen m=>.arr m n λ_ j=>(z.cells.toList.map PW).getD j .any
theorem zKe(R:AS P Γ N S ρ a w){y:Operand}{c f:IntKind}{n:E}(hk:M6 P t=Z (k,e,i,z))(J:Ak S.fr x=.int c n)(hy:Ak S.fr y=.int f n)
 (g:0<=n/\n<=1000000000000) (FK:i.bytes<=128) (o:Oper) (K:o.op=.makeSlice t x y) (ext:ζ):
 BP P (ω a.eval o) w (CG P Γ N S.h ρ w ext (.msl (F S.h) k.cells 0 n.toNat) (S.h++[Z<|yN k n.toNat z])):=by
 obtain⟨Q,hi,W,h0,DJ,Y,hzi,hzb⟩:=Zh hk;have l:=g.1;have X:=g.2;have rx:=Be R x;have p:=Be R y;rw[J]at rx;rw[hy]at p;have q:(madeCells z.cells<|n.toNat*i.size).size=n.toNat*k.cells:=by rw[size_madeCells,Y]
 refine BP.value (s:=Instr.makeSlice t (a.eval x)<|a.eval y) (by unfold ω;rw[K]) (v:=.slice (Z ⟨w.heap.size,0,V⟩) n.toNat n.toNat) (w':=w.alloc<|.cells (madeCells z.cells<|n.toNat*i.size) e) ?_ ?_
 ·rw[show a.eval x=_ from rx,show a.eval y=_ from p];refine run_make w t e i z Q hi W c f n n l (zCs _) ?_ Z2;have:(i.bytes:E)*n<=128*1000000000000:=Int.mul_le_mul Z2 X l Z2;omega
 ·refine VF (Ϛ:=.msl (F S.h) k.cells 0 n.toNat) R.hr ⟨A9.refl w,rfl⟩ (λϗ ρ' ϐ=>?_) (λϗ ρ' hp=>⟨_,n.toNat,hp,by simp[Ek],zAf _,by unfold LB;omega,by grind[Ek]⟩) ext;have b:=lm (w:=w) (w1:=w) (t:=e) rfl q;rw[q]
  have r:∀j u,j<n.toNat*k.cells->(madeCells z.cells<|n.toNat*i.size)[j]?=Z u->z.cells[j%z.cells.size]?=Z u:=by
   grind[Nat.mod_lt,madeCells]
  cases k with
  |ints=>
   show Ac _ _ (F<|d n.toNat (0:E)) _
   rw[zKR];simp only[EK.cells,zOG]at b r⊢;refine Ac.out b rfl λj u G I=>?_
   grind[Value.cells]
  |bools=>
   show Ac _ _ (F<|d n.toNat D) _
   rw[zKR];simp only[EK.cells,zOG]at b r⊢;refine Ac.out b rfl λj u G I=>?_
   grind[Value.cells]
  |gen m=>
   refine Ac.out b rfl λj u G I=>?_
   grind[eD,EK.cells]
end
abbrev zAi:=@List.length_append
abbrev zMX:=@List.nil_append
abbrev zO8:=@List.length_range
abbrev zTO:=@List.size_toArray
section
variable{P:ν}{Γ:A2}{N:Ψ}{S:St}{ρ:O AK}{a:Act}{w:κ}{h:DH}
theorem U4(b:U)(t:ψ)(z:U×U):∀(vs:O μ) (o:U) (w:κ) (m:υ μ),w.heap[b]?=Z (.cells m t z)->o+F vs<=m.size->
 ∃e,(w.setCells b o vs).heap[b]?=Z (.cells e t z)/\e.size=m.size/\∀k,e[k]?=C (o<=k/\k<o+F vs) (vs[k-o]?) (m[k]?)
 |[],o,w,m,a,_=>⟨m,a,rfl,λk=>Z4⟩
 |v::vs,o,w,m,a,c=>by
  have GP:o+(F vs+1)<=m.size:=c;obtain⟨e,f,g,h3⟩:=U4 b t z vs (o+1) (w.setCell ⟨b,o,V⟩ v) (m.setIfInBounds o v) (by grind[World.setCell]) Z7;refine⟨e,f,by simpa using g,λk=>?_⟩
  grind
theorem TT(b:U):∀(vs:O μ) (o:U) (w:κ),AR (λk=>k=b) w<|w.setCells b o vs
 |[],_,w=>AR.refl _ w
 |v::vs,o,w=>((AR.refl (λk=>k=b) w).setCell (p:=⟨b,o,V⟩) (λ_=>rfl) v).trans<|TT b vs (o+1)<|w.setCell ⟨b,o,V⟩ v
variable{o n:U}{R:U->μ->Prop}{p:AK}
theorem Ac.writes{R':U->μ->Prop}(a:Ac w p n R){vs:O μ}(hl:o+F vs<=n)(h1:∀i v,vs[i]?=Z v->R' (o+i) v)
 (h2:∀i u,i<n->(i<o∨o+F vs<=i)->R i u->R' i u):Ac (w.setCells p.blk (p.off+o) vs) p n R':=by
 obtain⟨g1,cs,t,b,g3,g4,g5⟩:=a;obtain⟨Gn,e1,e2,e3⟩:=U4 p.blk t (0,0) vs (p.off+o) w cs b Z2
 grind[Ac]
def Qx(l:O DV)(o:U)(ds:O DV):O DV:=(ds.zipIdx).foldl (λcs x=>cs.set (o+x.2) x.1) l
theorem ka:∀(ds:O DV) (k o:U) (l:O DV),F ((ds.zipIdx k).foldl (λcs x=>cs.set (o+x.2) x.1) l)=F l/\
 ∀j,j<F l->((ds.zipIdx k).foldl (λcs x=>cs.set (o+x.2) x.1) l).getD j .any=C (o+k<=j/\j<o+k+F ds) (ds.getD (j-(o+k)) .any) (l.getD j .any)
 |[],k,o,l=>⟨rfl,λj _=>by
  simp_all[zAt]⟩
 |Ϛ::ds,k,o,l=>by
  obtain⟨h1,h2⟩:=ka ds (k+1) o<|l.set (o+k) Ϛ
  grind[List.zipIdx_cons]
def kZ(l:O DV)(o:U)(ds:O DV):F (Qx l o ds)=F l:=(ka ds 0 o l).1
def kb(l:O DV)(o:U)(ds:O DV){j:U}(g:j<F l):(Qx l o ds).getD j .any=C (o<=j/\j<o+F ds) (ds.getD (j-o) .any) (l.getD j .any):=by
 have:=(ka ds 0 o l).2 j g;simpa[Qx]using this
def Qu(P:ν)(S:St)(t:ψ)(x Ϛ:DV):A<|DH×Prop:=match x with
 | .ref k j=>match S.h[k]? with
  |some (Z<|.cells l)=>match KZ Ϛ with
   |some ds=>if P.info? t|>.any λi=>i.size==F ds then C (ds.all JW&&H (j+F ds<=F l)) (Z (S.h.set k<|Z<|.cells<|Qx l j ds,True)) V else V
   |none=>V
  |_=>V
 | .mp k m i j=>if P.info? t|>.any λi=>i.size==1 then match S.h[k]? with
  |some (Z<|.ints l)=>match Ϛ with
   | .int .i64 n=>C (m==1&&j==0) (Z (S.h.set k<|Z<|.ints<|l.set i n,i<F l)) V
   |_=>V
  |some (Z<|.bools l)=>match Ϛ with
   | .bool b=>C (m==1&&j==0) (Z (S.h.set k<|Z<|.bools<|l.set i b,i<F l)) V
   |_=>V
  |some (Z<|.arr a n f)=>C (UM Ϛ&&(m==a)&&H (j<m)) (Z (S.h.set k<|Z<|.arr m n λR y=>C (R=i/\y=j) Ϛ<|f R y,i<n)) V
  |_=>V
  else V
 |_=>V
def zJH{Ϛ:DV}(h:UM Ϛ=T):JW Ϛ=T:=by cases Ϛ <;> first|rfl|cases h
variable{v:μ}{b:U}{i:TypeInfo}{t:ψ}
theorem lY(hi:P.info? t=Z i)(hs:v.cells.size=i.size)(hc:∀j,j<v.cells.size->(w.cell? ⟨b,o+j,V⟩).isSome=T)(hf:∀j,w.frozen? ⟨b,j,V⟩=D)(h1:∀u∈v.cells.toList,u.oneCell'=T):
 (Instr.storeAt t (.pointer<|Z ⟨b,o,V⟩) v).run P w=.ok () (w.setCells b o v.cells.toList):=by
 simp_all[run_storeCells_cells,Instr.storeAt,Instr.sureAddr,storeVar,MB]
variable{k:U}
theorem bY(R:AS P Γ N S ρ a w){ob ob':DO}(hk:S.h[k]?=Z (Z ob))(f:ρ[k]?=Z p){Rw:U->μ->Prop}(e:Ac w p n Rw){o':U}
 (hi:P.info? t=Z i) (l:v.cells.size=i.size) (hl:o'+v.cells.size<=n) (q:∀u∈v.cells.toList,u.oneCell'=T)
 (r:∀ϗ ρ' w',BQ (MS N S.h ρ) w ρ ϗ w' ρ'->w'=w.setCells p.blk (p.off+o') v.cells.toList->Bi P ϗ w' ρ' p ob')
 (o:Oper) (tx x:Operand) (y:o.op=.store t tx x) (G:a.eval tx=.pointer (Z ⟨p.blk,p.off+o',V⟩)) (I:a.eval x=v):
 BP P (ω a.eval o) w (CG P Γ N S.h ρ w D .any<|S.h.set k<|Z ob'):=by
 have J:p.foot=λb=>b=p.blk:=e.1
 have g:AR p.foot w<|w.setCells p.blk (p.off+o') v.cells.toList:=by grind[TT]
 refine BP.skip (s:=Instr.storeAt t (a.eval tx)<|a.eval x) (by unfold ω;rw[y]) (w':=w.setCells p.blk (p.off+o') v.cells.toList) ?_ ?_
 ·rw[G,I];refine lY hi l (λj hj=>?_) (λj=>e.frozen j) q;obtain⟨u,hc,_⟩:=e.cell (j:=o'+j) Z2;rw[zTh,hc];rfl
 ·have K:∀b,p.foot b->EZ (w.setCells p.blk (p.off+o') v.cells.toList) b:=λb Q=>by
   rw[J]at Q;obtain⟨_,cs,m,W,g3,_⟩:=e;obtain⟨c,e1,_⟩:=U4 p.blk m (0,0) v.cells.toList (p.off+o') w cs W Z7;exact .cells (c:=c) (t:=m) (z:=(0,0)) Z4
  exact⟨⟨ρ,R.hr.write hk f g K<|r _ _ _ (BQ.write trivial hk f g) rfl,trivial,A8.write hk f g,λ_ _ h=>h⟩,λh=>by cases h⟩
theorem uK(R:AS P Γ N S ρ a w){tx x:Operand}{h':DH}{vc:Prop}(r:Qu P S t (Ak S.fr tx) (Ak S.fr x)=Z (h',vc))(hv:vc)(o:Oper)(W:o.op=.store t tx x):
 BP P (ω a.eval o) w (CG P Γ N S.h ρ w D .any h'):=by
 have rx:=Be R tx;have s:=Be R x;unfold Qu at r;split at r
 ·rename_i k j e;rw[e]at rx;obtain⟨p,b,I⟩:=rx;split at r
  ·rename_i l hk;obtain⟨p',y,c⟩:=R.hr.obj k _ hk;have e:p'=p:=zAN<|y.symm.trans b;subst e;split at r
   ·rename_i ds EV;split at r
    ·rename_i J;split at r
     ·rename_i hc;cases r;simp only[zAK,zLV]at hc;cases hi:P.info? t with
      |none=>rw[hi]at J;cases J
      |some i=>
       rw[hi]at J;have X:i.size=F ds:=by simpa using J
       obtain⟨c1,c2⟩:=Zw EV s
       have Y:∀u∈(a.eval x).cells.toList,u.oneCell'=T:=λu K=>by
        obtain⟨q,g,rfl⟩:=zJw K;have Pz:q<F ds:=by rw[←c1];simpa using g
        have h3:=zAP.1 hc.1 (ds.getD q .any) (by simp[Pz])
        grind[eA]
       refine bY R hk b c hi Z2 (o':=j) Z2 Y (λϗ ρ' w' ϐ G=>?_) o tx x W I rfl;subst G
       show Ac _ _ (F<|Qx l j ds) _
       rw[kZ];refine Ac.writes c Z7 (λq v g=>?_) λq u g f7 K=>?_
       ·have Py:q<(a.eval x).cells.size:=Z4
        have Pz:q<F ds:=Z2
        obtain⟨u,g1,g2⟩:=c2 q Pz
        have:u=v:=by
         grind
        subst this;rw[kb l j ds Z2,zAB Z2,show j+q-j=q by omega];exact g2.out _ ϐ
       ·rw[kb l j ds g,zAt<|by simp at f7;omega];exact K.out _ ϐ
     ·cases r
    ·cases r
   ·cases r
  ·cases r
 ·rename_i k m i j e;rw[e]at rx;obtain⟨p,b,I⟩:=rx;split at r
  ·rename_i J;cases hi:P.info? t with
   |none=>rw[hi]at J;cases J
   |some ti=>
    rw[hi]at J;have X:ti.size=1:=by simpa using J
    split at r
    ·rename_i l hk;obtain⟨p',y,c⟩:=R.hr.obj k _ hk;have e:p'=p:=zAN<|y.symm.trans b;subst e;split at r
     ·rename_i n ed;split at r
      ·rename_i z;cases r;simp only[zAK,zB1]at z;obtain⟨rfl,rfl⟩:=z;rw[ed]at s;have lU:a.eval x=.int .i64 n:=s;refine bY R hk b c hi (v:=.int .i64 n) (by rw[X];rfl) (o':=i) (by simp[Value.cells];omega) (by simp[Value.cells,Value.oneCell']) (λϗ ρ' w' ϐ G=>?_) o tx x W (by simpa using I) lU;subst G
       show Ac _ _ (F<|l.set i n) _
       rw[zIG]
       grind[Ac.writes,Value.cells,Bi]
      ·cases r
     ·cases r
    ·rename_i l hk;obtain⟨p',y,c⟩:=R.hr.obj k _ hk;have e:p'=p:=zAN<|y.symm.trans b;subst e;split at r
     ·rename_i n ed;split at r
      ·rename_i z;cases r;simp only[zAK,zB1]at z;obtain⟨rfl,rfl⟩:=z;rw[ed]at s;have lU:a.eval x=.bool n:=s;refine bY R hk b c hi (v:=.bool n) (by rw[X];rfl) (o':=i) (by simp[Value.cells];omega) (by simp[Value.cells,Value.oneCell']) (λϗ ρ' w' ϐ G=>?_) o tx x W (by simpa using I) lU;subst G
       show Ac _ _ (F<|l.set i n) _
       rw[zIG]
       grind[Ac.writes,Value.cells,Bi]
      ·cases r
     ·cases r
    ·rename_i m' n f hk;obtain⟨p',y,c⟩:=R.hr.obj k _ hk;have e:p'=p:=zAN<|y.symm.trans b;subst e;split at r
     ·rename_i z;cases r;simp only[zAK,zB1,zLV]at z;obtain⟨⟨F3,rfl⟩,hj⟩:=z;have FG:i<n:=hv;obtain⟨o1,Q⟩:=eA (zJH F3) s
      have inb:i*m+j<n*m:=by
       have:(i+1)*m<=n*m:=zN8 _ FG
       grind
      have AB:0<m:=Z2
      refine bY R hk b c hi (v:=a.eval x) (by rw[X,Q];rfl) (o':=i*m+j) (by rw[Q];simp;omega) (by rw[Q];simp[o1]) (λϗ ρ' w' ϐ G=>?_) o tx x W I rfl;subst G;refine Ac.writes c (by rw[Q];simp;omega) (λq v g=>?_) λq u g f7 K=>?_
      ·rw[Q]at g;have:q=0:=Z4
       subst this;have:v=a.eval x:=by simpa using g.symm
       rw[this,Nat.add_zero];have e1:(i*m+j)/m=i:=by simp_all[zOc,Nat.mul_add_div]
       have e2:(i*m+j)%m=j:=by rw[zOc,Nat.mul_add_mod,Nat.mod_eq_of_lt hj]
       show AJ ϗ _ (C ((i*m+j)/m=i/\(i*m+j)%m=j) (Ak S.fr x)<|f ((i*m+j)/m)<|(i*m+j)%m) [] _
       rw[zAB ⟨e1,e2⟩];exact AJ.out _ ϐ.nil<|mS F3 s
      ·have:¬(q/m=i/\q%m=j):=λ⟨e1,e2⟩=>by
        grind[Nat.div_add_mod,Nat.mul_comm]
       show AJ ϗ _ (C (q/m=i/\q%m=j) (Ak S.fr x)<|f (q/m)<|q%m) [] _
       rw[zAt this];exact AJ.out _ ϐ.nil K
     ·cases r
    ·cases r
  ·cases r
 ·cases r
def MO.kill(a:MO (h.set k V) ρ b):MO h ρ b:=MO.unset a
theorem Mw{i:U}{o:DO}(hi:(h.set k V)[i]?=Z (Z o)):i≠k/\h[i]?=Z (Z o):=by
 grind
def Ap.kill(Ϙ:Ap P Γ N h ρ w)(k:U):Ap P Γ N (h.set k V) ρ w:=by
 have ϐ:BQ (MS N h ρ) w ρ (MS N (h.set k V) ρ) w ρ:=⟨λ_ _ _ _=>rfl,λb f=>.inl<|f.imp id MO.kill,λ_ _ h=>h⟩;refine⟨by simp[Ϙ.len],λi o hi=>?_,λi o p b a c e=>Ϙ.cel i o p b (Mw a).2 c e,λi R o o' p p' b j a c e g X n=>Ϙ.dis i R o o' p p' b j (Mw a).2 (Mw c).2 e g X n,Ϙ.nlt,Ϙ.gi⟩;obtain⟨p,l,m⟩:=Ϙ.obj i o (Mw hi).2;exact⟨p,l,m.out ϐ (S:=λ_=>False) (AR.refl _ w) (λ_ h=>h.elim) λ_ _ _ h=>h⟩
def BQ.kill(k:U):BQ (MS N h ρ) w ρ (MS N (h.set k V) ρ) w ρ:=⟨λ_ _ _ _=>rfl,λb a=>.inl<|a.imp id MO.kill,λ_ _ h=>h⟩
def A8.kill(k:U):A8 h ρ w (h.set k V) ρ w:=⟨AR.refl _ w,λb a=>.inl<|MO.kill a⟩
theorem Ap.regrow(Ϙ:Ap P Γ N h ρ w){w':κ}{o o':DO}{p':AK}(hk:h[k]?=Z (Z o))(l:ρ[k]?=Z p)(m:AR p.foot w w')(R:∀b,p'.foot b->(p.foot b∨w.heap.size<=b)/\EZ w' b)
 (ho:Bi P (MS N (h.set k V++[Z o'])<|ρ++[p']) w' (ρ++[p']) p' o'):
 Ap P Γ N (h.set k V++[Z o']) (ρ++[p']) w'/\A8 h ρ w (h.set k V++[Z o']) (ρ++[p']) w':=by
 have Aj:F (h.set k V)=F h:=Z3
 have y:∀b,p.foot b->MO h ρ b:=λb e=>⟨k,o,p,hk,l,e⟩
 have J:∀{i:U} {o1:DO} {a:AK},(h.set k V++[Z o'])[i]?=Z (Z o1)->(ρ++[p'])[i]?=Z a->(i≠k/\i<F h/\h[i]?=Z (Z o1)/\ρ[i]?=Z a)∨(i=F h/\o1=o'/\a=p'):=by
  intro i o1 a g f;rcases FM g with⟨v,g⟩|⟨v,g⟩
  ·rcases FM f with⟨_,f⟩|⟨G,_⟩
   ·grind
   ·rw[Ϙ.len]at G;omega
  ·rcases FM f with⟨G,_⟩|⟨_,f⟩
   ·rw[Ϙ.len]at G;omega
   grind
 have n:∀b,MO (h.set k V++[Z o']) (ρ++[p']) b->MO h ρ b∨w.heap.size<=b:=by
  grind[MO]
 have ϐ:BQ (MS N h ρ) w ρ (MS N (h.set k V++[Z o'])<|ρ++[p']) w'<|ρ++[p']:=by
  refine⟨λb e hm _=>m.block b e λI=>hm<|.inr<|y b I,λb e=>?_,λi q hi=>FL hi⟩
  grind[MS]
 refine⟨⟨by simp[Ϙ.len],λi o1 hi=>?_,λi o1 a b g f r=>?_,λi i' o1 o2 a p2 b s g f r h4 X S=>?_,λb e=>⟨zAQ (Ϙ.nlt b e).1 m.size,(Ϙ.nlt b e).2⟩,Γ.st _ _ Ϙ.gi<|m.mono λb _ e=>(Ϙ.cel k o p b hk l e).1⟩,⟨m.mono λb _ e=>y b e,n⟩⟩
 ·rcases FM hi with⟨v,hi⟩|⟨v,hi⟩
  ·obtain⟨a,W,hr⟩:=Ϙ.obj i o1 (Mw hi).2;refine⟨a,FL W,hr.out ϐ m (λb e=>.inr<|y b e) λb _ g f=>Ϙ.dis i k o1 o a p b (Mw hi).1 (Mw hi).2 hk W l g f⟩
  ·cases hi;exact⟨p',by rw[v,Aj,←Ϙ.len];simp,ho⟩
 ·rcases J g f with⟨s,_,j,u⟩|⟨_,_,rfl⟩
  ·obtain⟨e1,K,c,t,z,Y⟩:=Ϙ.cel i o1 a b j u r;exact⟨e1,K,c,t,z,(m.block b (zAM.1 Y).1 λI=>Ϙ.dis i k o1 o a p b s j hk u l r I).trans Y⟩
  ·obtain⟨e1,K⟩:=R b r;rcases e1 with e1|e1
   ·obtain⟨q1,q2,_⟩:=Ϙ.cel k o p b hk l e1;exact⟨q1,q2,K⟩
   ·exact⟨zAO (Γ.lo _ Ϙ.gi) e1,λhn=>by have:=Ϙ.nlt b hn;omega,K⟩
 ·have key:∀{i o1 a},i≠k->h[i]?=Z (Z o1)->ρ[i]?=Z a->a.foot b->p'.foot b->False:=λ{i o1 a} s j u x Q=>by
   rcases(R b Q).1 with e1|e1
   ·exact Ϙ.dis i k o1 o a p b s j hk u l x e1
   ·have:=Ϙ.lt<|.inr ⟨i,o1,a,j,u,x⟩;omega
  rcases J g r with⟨ou,_,j,u⟩|⟨e1,_,rfl⟩
  ·rcases J f h4 with⟨_,_,x,Q⟩|⟨_,_,rfl⟩
   ·exact Ϙ.dis i i' o1 o2 a p2 b s j x u Q X S
   ·exact key ou j u X S
  grind
def If(n:U)(R:U->μ->Prop)(X:O μ)(j:U)(u:μ):Prop:=C (j<n) (R j u)<|X[j-n]?=Z u
variable{X:O μ}{c:U}{z:μ}{ty e:ψ}
theorem jO(q:P.underlying t=Z (.slice e))(hi:P.info? e=Z i)(s:i.zero=Z z)(LG:i.size≠0)(x:z.cells.size=i.size)(v:i.bytes<=128)
  {cap:U}  (k:Ac w p (n*i.size) R) (SM:n<=cap) (y:p.off+cap*i.size<=p.room)
 {h:μ}   (hy:Src P i.size t h c X w) (a:n+c<=1000000000000):
 ∃w' p' l,(Builtin.append_ #[t,t] ty #[.slice (Z ⟨p.blk,p.off,V⟩) n cap,h]).run P w=.ok (.slice (Z ⟨p'.blk,p'.off,V⟩) (n+c) l) w'/\n+c<=l/\p'.off+l*i.size<=p'.room/\
  AR p.foot w w'/\(∀b,p'.foot b->p.foot b∨w.heap.size<=b)/\Ac w' p' ((n+c)*i.size) (If (n*i.size) R X):=by
 have K:F X=c*i.size:=hy.newsLen
 by_cases m:n+c<=cap
 ·obtain⟨G,cs,r,I,g3,g4,g5⟩:=k;have o:(n+c)*i.size<=cap*i.size:=zN8 _ m;rw[zTR]at o;have J:p.off+n*i.size+F X<=cs.size:=Z2
  refine⟨w.setCells p.blk (p.off+n*i.size) X,p,cap,run_append_room_src w t t ty e i q hi p.blk p.off n cap h c X hy m (λj f=>?_) (λj _=>by grind[World.frozen?]),m,y,?_,λb a=>.inl a,?_⟩
  ·grind[World.cell?]
  ·grind[TT]
  ·obtain⟨N,Q,e2,S⟩:=U4 p.blk r (0,0) X (p.off+n*i.size) w cs I J;refine⟨G,N,r,Q,by rw[zTR];omega,Z2,λj f=>?_⟩;rw[zTR]at f;rw[S]
   by_cases hjn:j<n*i.size
   ·rw[zAt Z2]
    simp_all[If]
   ·have AY:j-n*i.size<F X:=Z2
    refine⟨X[j-n*i.size],Z4,?_⟩
    simp_all[If,zAt]
 ·obtain⟨g,hg⟩:∃g:U->μ,∀j,j<n*i.size->w.cell? ⟨p.blk,p.off+j,V⟩=Z (g j)/\R j (g j):=by
   refine⟨λj=>(w.cell? ⟨p.blk,p.off+j,V⟩).getD undef,λj f=>?_⟩;obtain⟨u,W,Y⟩:=k.cell f;simp[W,Y]
  have P0:(Builtin.firstCells i.size n<|.slice (Z ⟨p.blk,p.off,V⟩) n cap).run P w.drew=.ok ((θ<|n*i.size).map g).toArray w.drew:=by
   simp_all[run_loadCells,Lr,Builtin.firstCells]
  have zOD:(n+c)*i.bytes<=1000000000000*128:=zTx a v;have Je:=run_append_grow_src (P:=P) w t t ty e i z q hi s (Z ⟨p.blk,p.off,V⟩) n cap _ P0 h c X hy Z2 Z2<|growslice_fits Z2 Z2;have pI:n+c<=grownCap w (n+c) cap e:=grownCap_ge w (n+c) cap e
  have FJ:(((θ<|n*i.size).map g++X).toArray++Builtin.zeroCells z.cells (grownCap w (n+c) cap e-(n+c))).size=grownCap w (n+c) cap e*i.size:=by
   simp only[Array.size_append,zTO,zAi,zAS,zO8,K,size_zeroCells,x,←zTR]
   congr 1;omega
  refine⟨_,Ek w<|grownCap w (n+c) cap e*i.size,grownCap w (n+c) cap e,Je,pI,by simp[Ek],?_,λb a=>.inr<|Nat.le_of_eq<|Eq.symm a,?_⟩
  ·exact AR.ofExt<|(A9.toDrew w).allocR _
  ·refine Ac.out (lm (w:=w) (w1:=w.drew) (t:=e) (cs:=((θ<|n*i.size).map g++X).toArray++Builtin.zeroCells z.cells (grownCap w (n+c) cap e-(n+c))) rfl FJ|>λk=>?_) rfl (R:=λj u=>(((θ<|n*i.size).map g++X).toArray++Builtin.zeroCells z.cells (grownCap w (n+c) cap e-(n+c)))[j]?=Z u) λj u f Ey=>?_
   ·grind[Ac]
   grind[If]
theorem jP(o:A Addr:=V)(g:P.underlying t=Z (.slice e))(hi:P.info? e=Z i)(h:i.zero=Z z)(x:z.cells.size=i.size)(k:i.bytes<=128)
 {f:μ}   (hy:Src P i.size t f c X w) (hc:0<c) (l:c<=1000000000000):
 ∃w' a,(Builtin.append_ #[t,t] ty #[.slice o 0 0,f]).run P w=.ok (.slice (Z ⟨w.heap.size,0,V⟩) c a) w'/\c<=a/\∃cs,w'=w.drew.alloc (.cells cs e)/\cs.size=a*i.size/\∀j,j<c*i.size->cs[j]?=X[j]? :=by
 have K:F X=c*i.size:=hy.newsLen;have N:(Builtin.firstCells i.size 0<|.slice o 0 0).run P w.drew=.ok ([]:O μ).toArray w.drew:=by cases o <;> simp[Builtin.firstCells,loadCells,loadCellsFrom]
 have zOD:c*i.bytes<=1000000000000*128:=zTx l k;have b:=run_append_grow_src (P:=P) w t t ty e i z g hi h o 0 0 [] N f c X hy Z2 Z2 (growslice_fits Z2<|by rw[zCx];omega);rw[zCx]at b;have m:c<=grownCap w c 0 e:=grownCap_ge w c 0 e;refine⟨_,_,b,m,_,rfl,?_,λj hj=>?_⟩
 ·simp only[zMX,Array.size_append,zTO,K,size_zeroCells,x,←zTR]
  congr 1;omega
 grind
end
abbrev zMa:=@List.mem_map
abbrev zO1:=@Nat.eq_zero_or_pos
def Nq(S:St):DV->A (Ξ×Prop)
 | .nils=>Z ([],True)
 | .ints l=>Z (l,True)
 | .msl k m off n=>match S.h[k]? with
  |some (Z<|.ints l)=>C (m==1) (Z (l,off=0/\n=F l)) V
  |_=>V
 |_=>V
def So(S:St):DV->A (Ω×Prop)
 | .nils=>Z ([],True)
 | .bools l=>Z (l,True)
 | .msl k m off n=>match S.h[k]? with
  |some (Z<|.bools l)=>C (m==1) (Z (l,off=0/\n=F l)) V
  |_=>V
 |_=>V
def SW(S:St)(m:U):DV->A (U×(U->U->DV)×Prop)
 | .nils=>Z (0,λ_ _=>.any,True)
 | .sl a n f=>C (a==m) (Z (n,f,True)) V
 | .msl k a off n=>match S.h[k]? with
  |some (Z<|.arr R r f)=>C (a==m&&R==m) (Z (r,f,off=0/\n=r)) V
  |_=>V
 |_=>V
def Av:U:=1000000000000
def Vp(P:ν)(S:St)(t:ψ)(x y:DV):A<|DV×DH×Prop:=match M6 P t with
 |some (k,_,i,_)=>if 128<i.bytes then V else match k with
  | .ints=>match Nq S y with
   |some (ys,a)=>match x with
    | .nils=>Z (.msl (F S.h) 1 0<|F ys,S.h++[Z<|.ints ys],a/\0<F ys/\F ys<=Av)
    | .msl k m off n=>match S.h[k]? with
     |some (Z<|.ints xs)=>C (m==1) (Z (.msl (F S.h) 1 0<|F xs+F ys,S.h.set k V++[Z<|.ints<|xs++ys],a/\(off=0/\n=F xs)/\F xs+F ys<=Av)) V
     |_=>V
    |_=>V
   |none=>V
  | .bools=>match So S y with
   |some (ys,a)=>match x with
    | .nils=>Z (.msl (F S.h) 1 0<|F ys,S.h++[Z<|.bools ys],a/\0<F ys/\F ys<=Av)
    | .msl k m off n=>match S.h[k]? with
     |some (Z<|.bools xs)=>C (m==1) (Z (.msl (F S.h) 1 0<|F xs+F ys,S.h.set k V++[Z<|.bools<|xs++ys],a/\(off=0/\n=F xs)/\F xs+F ys<=Av)) V
     |_=>V
    |_=>V
   |none=>V
  | .gen m=>match SW S m y with
   |some (c,g,a)=>match x with
    | .nils=>Z (.msl (F S.h) m 0 c,S.h++[Z<|.arr m c g],(a/\∀i j,i<c->j<m->JW (g i j)=T)/\0<c/\c<=Av)
    | .msl k b off n=>match S.h[k]? with
     |some (Z<|.arr R r f)=>C (b==m&&R==m) (Z (.msl (F S.h) m 0<|r+c,S.h.set k V++[Z<|.arr m (r+c) λi j=>C (i<r) (f i j)<|g (i-r) j],(a/\∀i j,i<c->j<m->JW (g i j)=T)/\(off=0/\n=r)/\r+c<=Av)) V
     |_=>V
    | .gr k=>match S.h[k]? with
     |some (Z<|.gro R r f)=>C (R==m) (Z (.gr<|F S.h,S.h.set k V++[Z<|.gro m (r+c) λi j=>C (i<r) (f i j)<|g (i-r) j],(a/\∀i j,i<c->j<m->JW (g i j)=T)/\0<c/\r+c<=Av)) V
     |_=>V
    |_=>V
   |none=>V
 |none=>V
section
variable{P:ν}{Γ:A2}{N:Ψ}{S:St}{ρ:O AK}{a:Act}{w:κ}{h:DH}
variable{X:O μ}{c cap m:U}{t e:ψ}
theorem WU(hu:P.underlying t=Z (.slice e)){a:A Addr}(hl:F X=c*m)(hc:∀j u,X[j]?=Z u->∃b o,a=Z ⟨b,o,V⟩/\w.cell? ⟨b,o+j,V⟩=Z u)
 (h1:∀u∈X,u.oneCell'=T) (hm:0<m) (zo:a=V->c=0):Src P m t (.slice a c cap) c X w:=by
 cases a with
 |none=>
  simp_all[Src.ofNil]
 |some a=>
  grind[Src.ofSlice,Lr]
variable{f:Prop}{ys:Ξ}{v:μ}
theorem YM(R:AS P Γ N S ρ a w)(b:P.underlying t=Z (.slice e)){y:DV}(hy:AJ (MS N S.h ρ) w y ρ v)(h:Nq S y=Z (ys,f))(o:f):
 Src P 1 t v (F ys) (ys.map<|Value.int .i64) w:=by
 have one:∀u∈ys.map (Value.int .i64),u.oneCell'=T:=λu b=>by obtain⟨n,_,rfl⟩:=zMa.1 b;rfl
 have val:∀{j:U} {u:μ},(ys.map<|Value.int .i64)[j]?=Z u->j<F ys/\u=.int .i64 (M ys j 0):=λ{j u} g=>by
  grind
 unfold Nq at h;split at h
 ·grind[Src.ofNil,AJ]
 ·cases h;obtain⟨ad,cap,rfl,c,i,q⟩:=hy;refine WU b Z3 (λj u g=>?_) one Z2 λe=>?_
  ·grind
  ·rcases zO1 (F ys)with h0|h0
   ·exact h0
   grind
 ·rename_i k m off n;obtain⟨p,cap,r,rfl,c,i,q⟩:=hy;split at h
  ·rename_i l hk;split at h
   ·rename_i z;cases h;have s:m=1:=by simpa using z
    subst s;obtain⟨p',x,hr⟩:=R.hr.obj k _ hk;have e:p'=p:=zAN<|x.symm.trans r;subst e;obtain⟨rfl,rfl⟩:=o;refine WU b Z3 (λj u g=>?_) one Z2 (λe=>by cases e);obtain⟨AY,rfl⟩:=val g
    grind[Ac.cell,Bi]
   ·cases h
  ·cases h
 ·cases h
theorem zB3(R:AS P Γ N S ρ a w)(b:P.underlying t=Z (.slice e)){y:DV}(hy:AJ (MS N S.h ρ) w y ρ v){ys:Ω}(h:So S y=Z (ys,f))(o:f):
 Src P 1 t v (F ys) (ys.map Value.bool) w:=by
 have one:∀u∈ys.map Value.bool,u.oneCell'=T:=λu b=>by obtain⟨n,_,rfl⟩:=zMa.1 b;rfl
 have val:∀{j:U} {u:μ},(ys.map Value.bool)[j]?=Z u->j<F ys/\u=.bool (ys.getD j D):=λ{j u} g=>by
  grind
 unfold So at h;split at h
 ·grind[Src.ofNil,AJ]
 ·cases h;obtain⟨ad,cap,rfl,c,i,q⟩:=hy;refine WU b Z3 (λj u g=>?_) one Z2 λe=>?_
  ·grind
  ·rcases zO1 (F ys)with h0|h0
   ·exact h0
   grind
 ·rename_i k m off n;obtain⟨p,cap,r,rfl,c,i,q⟩:=hy;split at h
  ·rename_i l hk;split at h
   ·rename_i z;cases h;have s:m=1:=by simpa using z
    subst s;obtain⟨p',x,hr⟩:=R.hr.obj k _ hk;have e:p'=p:=zAN<|x.symm.trans r;subst e;obtain⟨rfl,rfl⟩:=o;refine WU b Z3 (λj u g=>?_) one Z2 (λe=>by cases e);obtain⟨AY,rfl⟩:=val g
    grind[Ac.cell,Bi]
   ·cases h
  ·cases h
 ·cases h
variable{x y:Operand}
def OI{ρ':Operand->μ}{o:Oper}{c:Call}{q:ψ}(a:o.op=.call c)(hc:c.callee=.builtin .append)(P:c.args.toList= [x,y])(v:c.argTypes.toList= [t,q]):
 ω ρ' o=(do pure (.value (←Builtin.append_ #[t,q] o.type #[ρ' x,ρ' y]))):=by
 unfold ω;rw[a]
 show(resolve ρ' c o.type>>=λϚ=>invoke Ϛ.target Ϛ.args)=_
 unfold resolve;rw[hc,bI P,bI v];simp;rfl
variable{p p':AK}{k:U}{w':κ}
def Ap.regrowO(Ϙ:Ap P Γ N h ρ w){o o':DO}(hk:h[k]?=Z (Z o))(c:ρ[k]?=Z p)(R:AR p.foot w w')(X:∀b,p'.foot b->p.foot b∨w.heap.size<=b):
 BQ (MS N h ρ) w ρ (MS N (h.set k V++[Z o'])<|ρ++[p']) w' (ρ++[p']):=by
 have f:F (h.set k V)=F h:=Z3
 refine⟨λb hb z _=>R.block b hb λe=>z<|.inr ⟨k,o,p,hk,c,e⟩,λb hb=>?_,λi q hi=>FL hi⟩;rcases hb with hb|hb
 ·exact .inl<|.inl hb
 ·obtain⟨j,o1,n,a,u,g⟩:=hb;rcases FM a with⟨m,a⟩|⟨m,_⟩
  ·rcases FM u with⟨_,u⟩|⟨l,_⟩
   ·exact .inl<|.inr ⟨j,o1,n,(Mw a).2,u,g⟩
   ·rw[f]at m;rw[Ϙ.len]at l;omega
  ·rcases FM u with⟨l,_⟩|⟨_,rfl⟩
   ·rw[f]at m;rw[Ϙ.len]at l;omega
   ·exact(X b g).imp (λe=>.inr ⟨k,o,p,hk,c,e⟩) id
variable{n:U}{ob':DO}{z:μ}{i:TypeInfo}
theorem rL(R:AS P Γ N S ρ a w)(s:P.underlying t=Z (.slice e))(hi:P.info? e=Z i)(u:i.zero=Z z)(v:i.size≠0)(G:z.cells.size=i.size)(I:i.bytes<=128)
  {ob:DO}  (hk:S.h[k]?=Z (Z ob)) (j:ρ[k]?=Z p)  {Rw:U->μ->Prop} (J:Ac w p (n*i.size) Rw) (Q:n<=cap) (K:p.off+cap*i.size<=p.room)
 {l:μ}  (hy:Src P i.size t l c X w) (f:n+c<=Av)
 (W:∀ϗ ρ' w' p',BQ (MS N S.h ρ) w ρ ϗ w' ρ'->Ac w' p' ((n+c)*i.size) (If (n*i.size) Rw X)->Bi P ϗ w' ρ' p' ob')
 (o:Oper) {g:Call}  (Y:o.op=.call g) (hc:g.callee=.builtin .append) (ha:g.args.toList= [x,y]) (ht:g.argTypes.toList= [t,t]) (hx:a.eval x=.slice (Z ⟨p.blk,p.off,V⟩) n cap) (YT:a.eval y=l):
 BP P (ω a.eval o) w (CG P Γ N S.h ρ w D (.msl (F S.h) i.size 0<|n+c)<|S.h.set k V++[Z ob']):=by
 obtain⟨w',p',B7,h1,h2,h3,m,q,r⟩:=jO (ty:=o.type) s hi u v G I J Q K hy f;refine BP.value (OI Y hc ha ht) (by rw[hx,YT];exact h1) ?_
 have pV:∀b,p'.foot b->EZ w' b:=λb f=>by
  obtain⟨e1,cs,tt,e2,_⟩:=r;rw[e1]at f;exact .cells (c:=cs) (t:=tt) (z:=(0,0)) (by rw[show b=p'.blk from f];exact e2)
 have ϐ:=R.hr.regrowO (o':=ob') hk j m q;obtain⟨g1,g2⟩:=R.hr.regrow (o':=ob') hk j m (λb f=>⟨q b f,pV b f⟩)<|W _ _ _ _ ϐ r;refine⟨⟨ρ++[p'],g1,⟨p',B7,by rw[←R.hr.len];simp,Z3,h2,by grind[LB,Av],by simpa using h3⟩,g2,λ_ _ h=>FL h⟩,λh=>by cases h⟩
theorem rM(R:AS P Γ N S ρ a w)(l:P.underlying t=Z (.slice e))(hi:P.info? e=Z i)(m:i.zero=Z z)(n:z.cells.size=i.size)(p:i.bytes<=128)
   {f:μ}  (hy:Src P i.size t f c X w) (q:0<c) (r:c<=Av)
 (s:∀ϗ ρ' w' p',BQ (MS N S.h ρ) w ρ ϗ w' ρ'->Ac w' p' (c*i.size) (λj u=>X[j]?=Z u)->Bi P ϗ w' ρ' p' ob') (ext:ζ)
 (o:Oper) {b:Call}  (v:o.op=.call b) (hc:b.callee=.builtin .append) (G:b.args.toList= [x,y]) (I:b.argTypes.toList= [t,t]) (J:a.eval x=.slice V 0 0) (K:a.eval y=f):
 BP P (ω a.eval o) w (CG P Γ N S.h ρ w ext (.msl (F S.h) i.size 0 c) (S.h++[Z ob'])):=by
 obtain⟨w',g,Q,k,cs,rfl,h4,h5⟩:=jP V (ty:=o.type) l hi m n p hy q r;refine BP.value (OI v hc G I) (by rw[J,K];exact Q) ?_;have Bq:c*i.size<=g*i.size:=zN8 _ k;refine VF (Ϛ:=.msl (F S.h) i.size 0 c) R.hr ⟨A9.toDrew w,rfl⟩ (λϗ ρ' ϐ=>s _ _ _ _ ϐ ?_) (λϗ ρ' W=>⟨_,g,W,by simp[Ek],k,by grind[LB,Av],by simp only[Ek];omega⟩) ext;refine O4 rfl Z2 λj hj=>?_
 grind
variable{s:U}{ρ':O AK}{ϗ:Ψ}
theorem ni{xs:Ξ}(l:s=1)(h:Ac w' p' ((F xs+F ys)*s)<|If (F xs*s) (λj u=>u=.int .i64 (M xs j 0))<|ys.map<|Value.int .i64):Bi P ϗ w' ρ' p'<|.ints<|xs++ys:=by
 subst l
 show Ac _ _ (F<|xs++ys) _
 rw[zAi];rw[zOG,zOG]at h;refine Ac.out h rfl λj u hj hu=>?_
 grind[If]
theorem zSA{xs ys:Ω}(l:s=1)(h:Ac w' p' ((F xs+F ys)*s)<|If (F xs*s) (λj u=>u=.bool (xs.getD j D))<|ys.map Value.bool):Bi P ϗ w' ρ' p'<|.bools<|xs++ys:=by
 subst l
 show Ac _ _ (F<|xs++ys) _
 rw[zAi];rw[zOG,zOG]at h;refine Ac.out h rfl λj u hj hu=>?_
 grind[If]
variable{g:U->U->DV}
theorem qC(R:AS P Γ N S ρ a w)(Q:P.underlying t=Z (.slice e)){y:DV}(hy:AJ (MS N S.h ρ) w y ρ v)(x:0<m){G:Prop}(h:SW S m y=Z (c,g,G))(W:G)
 (h1:∀i j,i<c->j<m->JW (g i j)=T):∃X,Src P m t v c X w/\∀j u,X[j]?=Z u->AJ (MS N S.h ρ) w (g (j/m)<|j%m) [] u:=by
 have I:∀{j:U},j<c*m->j/m<c/\j%m<m/\j/m*m+j%m=j:=λ{j} q=>⟨by simp_all[zO3],Nat.mod_lt _ x,by grind[Nat.div_add_mod]⟩
 have r:∀(l:A Addr) (cap:U),(∀j,j<c*m->∃b o u,l=Z ⟨b,o,V⟩/\w.cell? ⟨b,o+j,V⟩=Z u/\AJ (MS N S.h ρ) w (g (j/m)<|j%m) [] u)->v=.slice l c cap->(l=V->c=0)->
  ∃X,Src P m t v c X w/\∀j u,X[j]?=Z u->AJ (MS N S.h ρ) w (g (j/m)<|j%m) [] u:=by
  intro l cap hc s Y
  obtain⟨f,hf⟩:∃f:U->μ,∀j,j<c*m->∃b o,l=Z ⟨b,o,V⟩/\w.cell? ⟨b,o+j,V⟩=Z (f j)/\AJ (MS N S.h ρ) w (g (j/m)<|j%m) [] (f j):=by
   refine⟨λj=>(match l with|some a=>w.cell? ⟨a.block,a.off+j,V⟩|none=>V).getD undef,λj q=>?_⟩
   grind
  refine⟨(θ<|c*m).map f,?_,λj u q=>?_⟩
  ·rw[s];refine WU Q Z3 (λj u q=>?_) (λu Ey=>?_) x Y
   ·grind
   ·grind[eA]
  grind
 unfold SW at h;split at h
 ·grind[AJ]
 ·rename_i J n f;split at h
  ·rename_i z;cases h;have E0:J=m:=by simpa using z
   subst E0;obtain⟨l,cap,rfl,g1,g2,K⟩:=hy;refine r l cap (λj q=>?_) rfl (λe=>?_)
   ·obtain⟨b,o,u,e1,_,e2,e3⟩:=K _ _ (I q).1 (I q).2.1;exact⟨b,o,u,e1,by simp_all,e3⟩
   ·rcases zO1 c with h0|h0
    ·exact h0
    grind
  ·cases h
 ·rename_i k J off n;obtain⟨p,cap,hp,rfl,g1,g2,K⟩:=hy;split at h
  ·rename_i m2 n2 f hk;split at h
   ·rename_i z;cases h;simp only[zAK,zB1]at z;obtain⟨rfl,rfl⟩:=z;obtain⟨p',BO,hr⟩:=R.hr.obj k _ hk;have e:p'=p:=zAN<|BO.symm.trans hp;subst e;obtain⟨rfl,rfl⟩:=W;refine r (Z ⟨p'.blk,p'.off+0*m2,V⟩) cap (λj q=>?_) rfl (λe=>by cases e)
    grind[Ac.cell,Bi]
   ·cases h
  ·cases h
 ·cases h
def zCM{f:U->U->DV}{S:Ψ}(a:0<m)(ϐ:BQ ϗ w ρ S w' ρ')(G:∀j u,X[j]?=Z u->AJ ϗ w (g (j/m)<|j%m) [] u)
 (i:Ac w' p' ((n+c)*m)<|If (n*m) (λj u=>AJ ϗ w (f (j/m)<|j%m) [] u) X):Ac w' p' ((n+c)*m) λj u=>AJ S w' (C (j/m<n) (f (j/m)<|j%m)<|g (j/m-n)<|j%m) [] u:=by
 refine Ac.out i rfl λj u hj k=>?_
 unfold If at k
 by_cases R:j<n*m
 ·rw[zAB R]at k;rw[zAB<|by rw[zO3 a];exact R];exact AJ.out _ ϐ.nil k
 ·rw[zAt R]at k;rw[zAt<|by rw[zO3 a];exact R];have b:=G _ _ k;have y:(j-n*m)/m=j/m-n:=by rw[zOc n m];exact Nat.sub_mul_div ..
  have K:(j-n*m)%m=j%m:=by
   have h:j=(j-n*m)+n*m:=Z2
   rw[h,Nat.add_mul_mod_self_right,Nat.add_sub_cancel]
  rw[y,K]at b;exact AJ.out _ ϐ.nil b
theorem zSZ(R:AS P Γ N S ρ a w)(hu:P.underlying t=Z (.slice e))(hi:P.info? e=Z i)(hz:i.zero=Z z)(LG:i.size≠0)(DJ:z.cells.size=i.size)(FK:i.bytes<=128)
  {f:U->U->DV}  (hk:S.h[k]?=Z (Z<|.gro i.size n f)) (v:ρ[k]?=Z p) {G:μ}  (hy:Src P i.size t G c X w) (OB:0<c) (l:n+c<=Av)
 (N4:∀j u,X[j]?=Z u->AJ (MS N S.h ρ) w (g (j/i.size)<|j%i.size) [] u)
 (o:Oper) {s:Call}  (ho:o.op=.call s) (hc:s.callee=.builtin .append) (ha:s.args.toList= [x,y]) (ht:s.argTypes.toList= [t,t]) (hx:a.eval x=p.val) (YT:a.eval y=G):
 BP P (ω a.eval o) w (CG P Γ N S.h ρ w D (.gr<|F S.h)<|S.h.set k V++[Z<|.gro i.size (n+c) λi j=>C (i<n) (f i j)<|g (i-n) j]):=by
 have key:∃w' p' m,(Builtin.append_ #[t,t] o.type #[p.val,G]).run P w=.ok (.slice (Z ⟨p'.blk,p'.off,V⟩) (n+c) m) w'/\n+c<=m/\p'.off+m*i.size<=p'.room/\
  AR p.foot w w'/\(∀b,p'.foot b->p.foot b∨w.heap.size<=b)/\Ac w' p' ((n+c)*i.size) (If (n*i.size) (λj u=>AJ (MS N S.h ρ) w (f (j/i.size)<|j%i.size) [] u) X):=by
  obtain⟨p1,Mo,I⟩:=R.hr.obj k _ hk;obtain rfl:p1=p:=zAN<|Mo.symm.trans v;rcases I with⟨rfl,r,K⟩|⟨cap,r,K,e3,e4,I⟩
  ·obtain⟨w',m,J,Q,cs,rfl,W,Y⟩:=jP V (ty:=o.type) hu hi hz DJ FK hy OB (by unfold Av at l;omega);have Bq:c*i.size<=m*i.size:=zN8 _ Q;have P4:F X=c*i.size:=hy.newsLen;refine⟨_,Ek w cs.size,m,by rw[r,zCx];exact J,Z2,by simp only[Ek];omega,AR.ofExt<|(A9.toDrew w).allocR _,λb l=>.inr<|Nat.le_of_eq<|Eq.symm l,?_⟩;rw[zCx];refine O4 rfl Z2 λj hj=>?_
   grind[If]
  ·rw[r];exact jO (ty:=o.type) hu hi hz LG DJ FK I K e4 hy l
 obtain⟨w',p',m,J,Q,h3,W,Y,h6⟩:=key
 let q:AK:={ p' with val:=.slice (Z ⟨p'.blk,p'.off,V⟩) (n+c) m }
 refine BP.value (OI ho hc ha ht) (by rw[hx,YT];exact J) ?_
 have pV:∀b,q.foot b->EZ w' b:=λb l=>by
  obtain⟨r,cs,tt,K,_⟩:=h6;have l:p'.foot b:=l;rw[r]at l;exact .cells (c:=cs) (t:=tt) (z:=(0,0)) (by rw[show b=p'.blk from l];exact K)
 have ϐ:=R.hr.regrowO (o':=.gro i.size (n+c) λi j=>C (i<n) (f i j)<|g (i-n) j) (p':=q) hk v W Y;obtain⟨g1,g2⟩:=R.hr.regrow (o':=.gro i.size (n+c) λi j=>C (i<n) (f i j)<|g (i-n) j) (p':=q) hk v W (λb l=>⟨Y b l,pV b l⟩)<|Or.inr ⟨m,rfl,Q,by unfold LB;unfold Av at l;omega,h3,zCM (p':=q) Z2 ϐ N4 h6⟩;exact⟨⟨ρ++[q],g1,⟨q,_,_,_,by rw[←R.hr.len];simp,rfl,rfl⟩,g2,λ_ _ h=>FL h⟩,λh=>by cases h⟩
theorem zCS(R:AS P Γ N S ρ a w){Ϛ:DV}{h':DH}{vc:Prop}(r:Vp P S t (Ak S.fr x) (Ak S.fr y)=Z (Ϛ,h',vc))(b:vc)(o:Oper){cl:Call}(J:o.op=.call cl)(hc:cl.callee=.builtin .append)
 (K:cl.args.toList= [x,y]) (Q:cl.argTypes.toList= [t,t]):BP P (ω a.eval o) w<|CG P Γ N S.h ρ w D Ϛ h':=by
 have rx:=Be R x;have ry:=Be R y;unfold Vp at r;split at r
 ·rename_i kk e i z hk;obtain⟨s,hi,W,h0,X,HA,hq1,f7⟩:=Zh hk;clear hq1 f7;split at r
  ·cases r
  ·have Y:i.bytes<=128:=Z2
   split at r
   ·have F2:i.size=1:=HA.symm;split at r
    ·rename_i ys vy hy;split at r
     ·rename_i q;cases r;rw[q]at rx
      have:=rM (ob':=.ints ys) R s hi W X Y (by rw[F2];exact YM R s ry hy b.1) b.2.1 b.2.2 (λϗ ρ' w' p' ϐ l=>by
       simp_all[Bi,Ac]) D o J hc K Q rx rfl
      grind
     ·rename_i k m off n q;rw[q]at rx;obtain⟨p,cap,v,hx,g1,g2,g3⟩:=rx;split at r
      ·rename_i xs G;split at r
       ·rename_i I;cases r;have E0:m=1:=by simpa using I
        subst E0;obtain⟨q1,⟨rfl,rfl⟩,q3⟩:=b;obtain⟨p',BO,l⟩:=R.hr.obj k _ G;have e:p'=p:=zAN<|BO.symm.trans v;subst e
        have:=rL (ob':=.ints<|xs++ys) (n:=F xs) (cap:=cap) (c:=F ys) R s hi W h0 X Y G v (Rw:=λj u=>u=.int .i64 (M xs j 0)) (by simp_all[Bi]) g1 (by rw[F2];simpa using g3) (by grind[YM]) q3
         (λϗ ρ' w' p' ϐ l=>ni F2 l) o J hc K Q (by simpa using hx) rfl
        grind
       ·cases r
      ·cases r
     ·cases r
    ·cases r
   ·have F2:i.size=1:=HA.symm;split at r
    ·rename_i ys vy hy;split at r
     ·rename_i q;cases r;rw[q]at rx
      have:=rM (ob':=.bools ys) R s hi W X Y (by rw[F2];exact zB3 R s ry hy b.1) b.2.1 b.2.2 (λϗ ρ' w' p' ϐ l=>by
       simp_all[Bi,Ac]) D o J hc K Q rx rfl
      grind
     ·rename_i k m off n q;rw[q]at rx;obtain⟨p,cap,v,hx,g1,g2,g3⟩:=rx;split at r
      ·rename_i xs G;split at r
       ·rename_i I;cases r;have E0:m=1:=by simpa using I
        subst E0;obtain⟨q1,⟨rfl,rfl⟩,q3⟩:=b;obtain⟨p',BO,l⟩:=R.hr.obj k _ G;have e:p'=p:=zAN<|BO.symm.trans v;subst e
        have:=rL (ob':=.bools<|xs++ys) (n:=F xs) (cap:=cap) (c:=F ys) R s hi W h0 X Y G v (Rw:=λj u=>u=.bool (xs.getD j D)) (by simp_all[Bi]) g1 (by rw[F2];simpa using g3) (by grind[zB3]) q3
         (λϗ ρ' w' p' ϐ l=>zSA F2 l) o J hc K Q (by simpa using hx) rfl
        grind
       ·cases r
      ·cases r
     ·cases r
    ·cases r
   ·rename_i m;have DQ:i.size=m:=HA.symm;have AB:0<m:=Z2
    split at r
    ·rename_i c g vy hy;split at r
     ·rename_i q;cases r;rw[q]at rx;obtain⟨CL,Yb,N4⟩:=qC R s ry AB hy b.1.1 b.1.2
      have:=rM (ob':=.arr m c g) R s hi W X Y (by rw[DQ];exact Yb) b.2.1 b.2.2 (λϗ ρ' w' p' ϐ l=>by
       rw[DQ]at l;exact Ac.out l rfl λj u hj Ey=>AJ.out _ ϐ.nil<|N4 j u Ey) D o J hc K Q rx rfl
      grind
     ·rename_i k m' off n q;rw[q]at rx;obtain⟨p,cap,v,hx,g1,g2,g3⟩:=rx;split at r
      ·rename_i m2 n2 f G;split at r
       ·rename_i I;cases r;simp only[zAK,zB1]at I;obtain⟨rfl,rfl⟩:=I;obtain⟨q1,⟨rfl,rfl⟩,q3⟩:=b;obtain⟨p',BO,l⟩:=R.hr.obj k _ G;have e:p'=p:=zAN<|BO.symm.trans v;subst e;obtain⟨CL,Yb,N4⟩:=qC R s ry AB hy q1.1 q1.2
        have:=rL (ob':=.arr m2 (n+c) λi j=>C (i<n) (f i j)<|g (i-n) j) (n:=n) (cap:=cap) (c:=c) R s hi W h0 X Y G v (Rw:=λj u=>AJ (MS N S.h ρ) w (f (j/m2)<|j%m2) [] u) (by rw[DQ];exact l) g1 (by rw[DQ];simpa using g3) (by rw[DQ];exact Yb) q3
         (λϗ ρ' w' p' ϐ l=>by rw[DQ]at l;exact zCM AB ϐ N4 l) o J hc K Q (by simpa using hx) rfl
        grind
       ·cases r
      ·cases r
     ·rename_i k q;rw[q]at rx;obtain⟨p,_,_,_,v,e1,e2⟩:=rx;split at r
      ·rename_i m2 n2 f G;split at r
       ·rename_i I;cases r;obtain rfl:m2=m:=by simpa using I
        obtain⟨CL,Yb,N4⟩:=qC R s ry AB hy b.1.1 b.1.2;subst DQ;exact zSZ R s hi W h0 X Y G v Yb b.2.1 b.2.2 N4 o J hc K Q e1 rfl
       ·cases r
      ·cases r
     ·cases r
    ·cases r
 ·cases r
end
abbrev zAV:=@List.mem_range
abbrev zMQ:=@Nat.le_of_ble_eq_true
abbrev zMp:=@Option.map_some
abbrev zOq:=@List.map_cons
abbrev zPD:=@List.all_cons
abbrev zPU:=@Option.getD_some
abbrev zTl:=@Go.run_equalIn_int
def iI(Q:U->W0)(cells:O DV):O (U×DV)->A (O DV)
 |[]=>Z cells
 |(i,Ϛ)::rest=>match Q i with
  |none=>V
  |some (off,f)=>match KZ Ϛ with
   |none=>V
   |some l=>C (F l=f/\off+F l<=F cells) (iI Q (Qx cells off l) rest) V
def mT(P:ν)(t:ψ):A<|μ×(U->W0):=match P.info? t with
 |some b=>match P.underlying t with
  |some (.array _ e)=>match b.zero with
   |some z=>match P.info? e with
    |some h=>Z (z,λi=>Z (i*h.size,h.size))
    |none=>V
   |none=>V
  |some (.struct o)=>match b.zero with
   |some z=>match o.toList.mapM (λf=>(P.info? f.type).map λi=>(f.offset,i.size))with
    |some X=>Z (z,λi=>X.toArray[i]?)
    |none=>V
   |none=>V
  |_=>V
 |none=>V
def fC(P:ν)(S:St)(t:ψ)(parts:O<|U×Operand):A<|DV×Prop:=match mT P t with
 |some (z,Q)=>match iI Q (z.cells.toList.map PW) (parts.map λx=>(x.1,Ak S.fr x.2))with
  |some l=>Z (.agg (F l) λj=>l.getD j .any,True)
  |none=>V
 |none=>V
def Na(P:ν)(t:ψ)(m:U)(f:U->DV)(off a:U):A DV:=C (off+a<=m) (C (Hc P t) (C (a=1) (Z<|f off) V)<|C (aY P t a) (Z<|.agg a<|Gv a λj=>f<|off+j) V) V
def na(P:ν)(t:ψ)(x:DV)(n:E):A<|DV×Prop:=match x with
 | .agg m f=>match P.underlying t with
  |some (.array len e)=>match P.info? e with
   |some i=>C (Hc P e&&i.size==1&&len==m) (Z (f n.toNat,0<=n/\n<len)) V
   |none=>V
  |_=>V
 |_=>V
def iE(P:ν)(t:ψ)(x:DV)(j:U):A<|DV×Prop:=match x with
 | .agg m f=>match P.underlying t with
  |some (.struct z)=>match z[j]? with
   |some e=>match P.info? e.type with
    |some i=>match Na P e.type m f e.offset i.size with
     |some Ϛ=>Z (Ϛ,True)
     |none=>V
    |none=>V
   |none=>V
  |_=>V
 |_=>V
def qa(P:ν)(t:ψ)(x:DV)(lo hi:A E):A<|DV×Prop:=match P.underlying t with
 |some (.slice e)=>match P.info? e with
  |some i=>match x with
   | .ints l=>C (i.size=1) (Z (.ints<|(l.take (hi.getD<|F l).toNat).drop (lo.getD 0).toNat,0<=lo.getD 0/\lo.getD 0<=hi.getD (F l)/\hi.getD (F l)<=F l)) V
   | .bools l=>C (i.size=1) (Z (.bools<|(l.take (hi.getD<|F l).toNat).drop (lo.getD 0).toNat,0<=lo.getD 0/\lo.getD 0<=hi.getD (F l)/\hi.getD (F l)<=F l)) V
   | .sl m n f=>C (i.size=m) (Z (.sl m ((hi.getD n).toNat-(lo.getD 0).toNat) λi j=>f ((lo.getD 0).toNat+i) j,0<=lo.getD 0/\lo.getD 0<=hi.getD n/\hi.getD n<=n)) V
   | .msl k m off n=>C (i.size=m) (Z (.mse k m (off+(lo.getD 0).toNat)<|(hi.getD n).toNat-(lo.getD 0).toNat,0<=lo.getD 0/\lo.getD 0<=hi.getD n/\hi.getD n<=n)) V
   |_=>V
  |none=>V
 |_=>V
def fS(S:St):A Operand->A (A E)
 |none=>Z V
 |some x=>match Ak S.fr x with
  | .int _ n=>Z<|Z n
  |_=>V
def QK(f g:U->DV):Θ->ζ
 |[]=>T
 |i::o=>(It (f i)==It (g i))&&QK f g o
def qJ(P:ν)(m:U)(f g:U->DV)(e:Field):ζ:=e.name != "_" &&((match P.info? e.type with|some i=>i.size==1|none=>D)&&(Hc P e.type&&((match P.underlying e.type with|some (.int _)=>T|_=>D)&&(Nat.blt e.offset m&&(KF (f e.offset)&&KF (g e.offset))))))
def iN(P:ν)(t:ψ)(f g:U->DV)(m a:U):A Θ:=match P.underlying t with
 |some (.struct z)=>C (P.stoodInHeld t==D&&(P.eqGuardType P.depth t==D&&(m==a&&z.toList.all (qJ P m f g)))) (Z (z.toList.map (·.offset))) V
 |some (.array n e)=>match P.info? e with
  |some i=>match P.underlying e with
   |some (.int _)=>C (i.size==1&&Hc P e&&P.eqGuardType P.depth t==D&&n==m&&n==a&&(θ n).all λi=>KF (f i)&&KF (g i)) (Z<|θ n) V
   |_=>V
  |none=>V
 |_=>V
def Ze(P:ν)(b:BinOp)(t:ψ)(x y:DV):A<|DV×Prop:=match b,x,y with
 | .eql,.agg m f,.agg a g=>match iN P t f g m a with
  |some o=>Z (.bool<|QK f g o,True)
  |none=>V
 | .neq,.agg m f,.agg a g=>match iN P t f g m a with
  |some o=>Z (.bool<|!(QK f g o),True)
  |none=>V
 |_,_,_=>V
def ix(P:ν)(t:ψ):ζ:=match P.underlying t with
 |some (.interface _)=>D
 |some _=>T
 |none=>D
def rI(P:ν)(R:ψ)(ok:ζ):DV->A DV
 | .cst (.iface t<|.int k n)=>C (t=R&&ix P R) (Z<|C ok (.tup 2 λj=>[DV.int k n,.bool T].getD j .any)<|.int k n) V
 | .cst .nilIface=>if ok&&ix P R then match P.info? R with
  |some i=>match i.zero with
   |some (.int k n)=>Z<|.tup 2 λj=>[DV.int k n,.bool D].getD j .any
   |_=>V
  |none=>V
  else V
 |_=>V
theorem zSY{P:ν}{ϗ:Ψ}{w:κ}{ρ:O AK}{xt R:ψ}{ok:ζ}{Ϛ d':DV}{v:μ}(i:AJ ϗ w Ϛ ρ v)(h:rI P R ok Ϛ=Z d'):∃u,(∀W,(Instr.typeAssert v xt R ok).run P W=.ok u W)/\AJ ϗ w d' ρ u:=by
 have two:∀(k:IntKind) (n:E) (b:ζ),AJ ϗ w (.tup 2 λj=>[DV.int k n,.bool b].getD j .any) ρ<|.tuple #[.int k n,.bool b]:=λk n b=>⟨_,rfl,rfl,λj g=>match j,g with
  |0,_=>⟨_,rfl,rfl⟩
  |1,_=>⟨_,rfl,rfl⟩
  |j+2,g=>τ g Z2⟩
 unfold rI at h;split at h
 ·rename_i t k n;split at h
  ·rename_i hc;simp only[zAK,zLV]at hc;obtain⟨rfl,hc⟩:=hc;obtain⟨rfl,_⟩:=i;unfold ix at hc;cases h;cases ok
   ·refine⟨.int k n,λW=>?_,rfl⟩;split at hc <;> first|(cases hc)|skip
    simp_all[Instr.typeAssert,zDN]
   ·split at hc <;> first|(cases hc)|skip
    simp_all[Instr.typeAssert,zDN]
  ·cases h
 ·split at h
  ·rename_i hc;simp only[zAK]at hc;obtain⟨rfl,hc⟩:=hc;obtain⟨rfl,_⟩:=i;unfold ix at hc;split at h
   ·split at h
    ·cases h;split at hc <;> first|(cases hc)|skip
     simp_all[Instr.typeAssert,zDN,zeroValue,typeInfo]
    ·cases h
   ·cases h
  ·cases h
 ·cases h
def Xg(P:ν)(S:St):Op->A (DV×Prop)
 | .typeAssert x _ R ok=>match rI P R ok (Ak S.fr x)with
  |some Ϛ=>Z (Ϛ,True)
  |none=>V
 | .build t parts=>fC P S t parts.toList
 | .index t x i=>match Ak S.fr i with
  | .int _ n=>na P t (Ak S.fr x) n
  |_=>V
 | .field t x f=>iE P t (Ak S.fr x) f
 | .slice t x lo hi V=>match fS S lo with
  |some l=>match fS S hi with
   |some h=>qa P t (Ak S.fr x) l h
   |none=>V
  |none=>V
 | .binOp op t x y m=>match Ze P op t (Ak S.fr x) (Ak S.fr y)with
  |some r=>Z r
  |none=>pop P S<|.binOp op t x y m
 |op=>pop P S op
section
variable{P:ν}{Γ:A2}{N:Ψ}{S:St}{ρ:O AK}{a:Act}{w:κ}
def ji(ϗ:Ψ)(w:κ)(ρ:O AK)(l:O DV)(cs:υ μ):Prop:=cs.size=F l/\∀j,j<F l->∃u,cs[j]?=Z u/\AJ ϗ w (l.getD j .any) ρ u
theorem zCL:∀(vs:O μ) (k off:U) (cs:υ μ),((vs.zipIdx k).foldl (λ(cs:υ μ) (x:μ×U)=>cs.setIfInBounds (off+x.2) x.1) cs).size=cs.size/\
 ∀j,((vs.zipIdx k).foldl (λ(cs:υ μ) (x:μ×U)=>cs.setIfInBounds (off+x.2) x.1) cs)[j]?=C (off+k<=j/\j<off+k+F vs/\j<cs.size) (vs[j-(off+k)]?) (cs[j]?)
 |[],k,off,cs=>⟨rfl,λj=>by
  rw[zAt]
  ·rfl
  grind⟩
 |v::vs,k,off,cs=>by
  obtain⟨h1,h2⟩:=zCL vs (k+1) off<|cs.setIfInBounds (off+k) v
  grind[List.zipIdx_cons]
variable{Q:U->W0}{ϗ:Ψ}
theorem zAs :∀(parts:O<|U×Operand) (l:O DV) (cs:υ μ) (r:O DV),ji ϗ w ρ l cs->(∀x,AJ ϗ w (Ak S.fr x) ρ<|a.eval x)->
 iI Q l (parts.map λx=>(x.1,Ak S.fr x.2))=Z r->∃k,Instr.fill Q cs (parts.map λx=>(x.1,a.eval x.2))=Z k/\ji ϗ w ρ r k
 |[],l,cs,r,hc,_,h=>by cases h;exact⟨cs,rfl,hc⟩
 |(i,x)::rest,l,cs,r,hc,b,h=>by
  simp only[zOq,iI]at h;split at h
  ·cases h
  ·rename_i off size F3;split at h
   ·cases h
   ·rename_i ds f;split at h
    ·obtain⟨m,c2⟩:=Zw f<|b x;have z6:¬(off+(a.eval x).cells.size>cs.size):=by rw[m,hc.1];omega
     obtain⟨z,n⟩:=zCL (a.eval x).cells.toList 0 off cs
     have o:ji ϗ w ρ (Qx l off ds)<|(a.eval x).cells.zipIdx.foldl (λcs (c,j)=>cs.setIfInBounds (off+j) c) cs:=by
      have e0:(a.eval x).cells.zipIdx.foldl (λcs (c,j)=>cs.setIfInBounds (off+j) c) cs=((a.eval x).cells.toList.zipIdx 0).foldl (λ(cs:υ μ) (x:μ×U)=>cs.setIfInBounds (off+x.2) x.1) cs:=by
       rw[←Array.foldl_toList];simp
      rw[e0];refine⟨by rw[z,kZ,hc.1],λj g=>?_⟩;rw[kZ]at g;rw[n j,kb l off ds g]
      by_cases e:off<=j/\j<off+F ds
      ·grind
      ·rw[zAt Z7,zAt e];exact hc.2 j g
     obtain⟨k,g1,g2⟩:=zAs rest _ _ r o b h
     simp_all[Instr.fill]
    ·cases h
variable{t:ψ}
theorem zJI{z:μ}(h:mT P t=Z (z,Q))(parts:O<|U×μ):P.built t parts=Instr.fill Q z.cells parts:=by
 grind[mT,Program.built]
variable{o:Prop}{Ϛ:DV}
theorem zK1(R:AS P Γ N S ρ a w){parts:υ (U×Operand)}(h:fC P S t parts.toList=Z (Ϛ,o)):Yl P N w (MS N S.h ρ) ρ (Instr.build t<|parts.map λ(i,x)=>(i,a.eval x)) Ϛ:=by
 unfold fC at h;split at h
 ·rename_i z K5 b;split at h
  ·rename_i l m;cases h
   have h0:ji (MS N S.h ρ) w ρ (z.cells.toList.map PW) z.cells:=⟨Z3,λj hj=>by
    grind[eD]⟩
   obtain⟨k,g1,u,c⟩:=zAs parts.toList _ _ _ h0 (Be R) m;refine Yl.pure (v:=.agg k) (λW=>run_build W t _ k ?_) ⟨k,rfl,u,c⟩;rw[zJI b]
   simp_all
  ·cases h
 ·cases h
variable{i:TypeInfo}{f:U->DV}{m:U}
theorem cV{cs:υ μ}{off a:U}(hi:P.info? t=Z i)(Bh:i.size=a)(FJ:cs.size=m)(c:∀j,j<m->∃u,cs[j]?=Z u/\AJ ϗ w (f j) ρ u)(h:Na P t m f off a=Z Ϛ):Yl P N w ϗ ρ (part t cs off) Ϛ:=by
 unfold Na at h;split at h
 ·split at h
  ·rename_i b;split at h
   ·obtain⟨u,p,e⟩:=c off Z2;unfold Hc at b;simp only[zAK,zTg,zKL]at b;obtain⟨⟨G,r⟩,hn⟩:=b
    simp_all[Yl.pure,part,Wy]
   ·cases h
  ·split at h
   ·rename_i g;cases h;obtain⟨k,i',CF,zV⟩:=rb g;obtain⟨G,r⟩:=zB k;refine Yl.pure (v:=.agg<|cs.extract off<|off+a) (λW=>?_) ⟨_,rfl,Z7,λj hj=>?_⟩
    ·simp_all[part,Wy,MB]
    ·obtain⟨u,p,e⟩:=c (off+j) Z2
     grind[L4]
   ·cases h
 ·cases h
variable{n:E}{k:IntKind}{v:μ}
theorem zLj(R:AS P Γ N S ρ a w){x:DV}(g:AJ (MS N S.h ρ) w x ρ v)(h:na P t x n=Z (Ϛ,o))(b:o):Yl P N w (MS N S.h ρ) ρ (Instr.index t v<|.int k n) Ϛ:=by
 unfold na at h;split at h
 ·rename_i m f;obtain⟨cs,rfl,l,j⟩:=g;split at h
  ·rename_i len e p;split at h
   ·rename_i i hi;split at h
    ·rename_i hc;cases h;simp only[zAK,zB1]at hc;obtain⟨⟨h1,c⟩,rfl⟩:=hc
     have q:Na P e len f n.toNat 1=Z (f n.toNat):=by
      grind[Na]
     obtain⟨u,r,s⟩:=cV (P:=P) hi c l j q;refine⟨u,λW y=>?_,s⟩;unfold Instr.index;simp only[asIntOf,zLX,Sem.run_pure,Result.andThen,zDN p];rw[zAB ⟨b.1,b.2⟩];simp only[zLX,MB hi,Result.andThen,c,zOG];exact r W y
    ·cases h
   ·cases h
  ·cases h
 ·cases h
def zPi(R:AS P Γ N S ρ a w){x:DV}{j:U}(e:AJ (MS N S.h ρ) w x ρ v)(h:iE P t x j=Z (Ϛ,o)):Yl P N w (MS N S.h ρ) ρ (Instr.field t v j) Ϛ:=by
 unfold iE at h;split at h
 ·obtain⟨cs,rfl,l,b⟩:=e;split at h
  ·rename_i fs c;split at h
   ·rename_i fd g;split at h
    ·rename_i i hi;split at h
     ·rename_i d' f;cases h;obtain⟨u,p,k⟩:=cV (P:=P) hi rfl l b f;refine⟨u,λW s=>?_,k⟩;unfold Instr.field;simp only[zLX,zDN c,Result.andThen,g,asAgg,Sem.run_pure];exact p W s
     ·cases h
    ·cases h
   ·cases h
  ·cases h
 ·cases h
theorem zHR{y:U}{c:BoundsCode}(h0:0<=n)(h1:n<=y)(W:κ):(Instr.sliceBound (.int k n) y c).run P W=.ok n.toNat W:=by
 simp_all[Instr.sliceBound,asIntOf]
theorem zC(R:AS P Γ N S ρ a w){o:A Operand}{l:A E}(h:fS S o=Z l):∃k,o.map a.eval=l.map (Value.int k):=by
 cases o with
 |none=>cases h;exact⟨.i64,rfl⟩
 |some x=>
  simp only[fS]at h;split at h
  ·rename_i k n e;cases h;have:=Be R x
   grind[AJ]
  ·cases h
variable{lo hi:A E}{e:ψ}
theorem cX{o:A Addr}{len cap:U}{Y a:IntKind}(hu:P.underlying t=Z (.slice e))(CF:P.info? e=Z i)(h0:0<=lo.getD 0)(h1:lo.getD 0<=hi.getD len)(h2:hi.getD len<=len)(h3:len<=cap)(W:κ):
 (Instr.sliceAt t (.slice o len cap) (lo.map<|Value.int Y) (hi.map<|Value.int a) V).run P W=
  .ok (.slice (C (cap=(lo.getD 0).toNat) o (o.map (·.add ((lo.getD 0).toNat*i.size)))) ((hi.getD len).toNat-(lo.getD 0).toNat)<|cap-(lo.getD 0).toNat) W:=by
 have hb:(Instr.sliceBounds T len cap (lo.map<|Value.int Y) (hi.map<|Value.int a) V).run P W=.ok ((lo.getD 0).toNat,(hi.getD len).toNat,cap) W:=by
  cases lo <;> cases hi <;> simp only[Option.map_none,zMp,Option.getD_none,zPU]at* <;>
   simp(disch:=omega) [Instr.sliceBounds,zHR,zLX,Result.andThen]
 simp_all[Instr.sliceAt,zDN,Instr.slice,MB]
theorem zQs(R:AS P Γ N S ρ a w){x:DV}{vc:Prop}{kl kh:IntKind}(G:AJ (MS N S.h ρ) w x ρ v)(h:qa P t x lo hi=Z (Ϛ,vc))(I:vc):
 Yl P N w (MS N S.h ρ) ρ (Instr.sliceAt t v (lo.map<|Value.int kl) (hi.map<|Value.int kh) V) Ϛ:=by
 unfold qa at h;split at h
 ·rename_i e J;split at h
  ·rename_i i Q
   have gd:∀{α:Type} (l:O α) (q c j:U) (Ϛ:α),j<F ((l.take c).drop q)->((l.take c).drop q).getD j Ϛ=l.getD (q+j) Ϛ:=λl q c j Ϛ K=>by
    grind
   split at h
   ·rename_i l;split at h
    ·rename_i X;cases h;obtain⟨ad,cap,rfl,g,Y,s⟩:=G;obtain⟨y,r,v3⟩:=I;have hl:F ((l.take (hi.getD<|F l).toNat).drop (lo.getD 0).toNat)=(hi.getD<|F l).toNat-(lo.getD 0).toNat:=Z7
     refine Yl.pure (λW=>cX J Q y r v3 g W) ⟨_,_,by rw[hl],Z2,Z2,λj K=>?_⟩;obtain⟨b,o,rfl,z,q2⟩:=s ((lo.getD 0).toNat+j) Z2;refine⟨b,o+(lo.getD 0).toNat,?_,z,?_⟩
     ·rw[zAt Z2];simp_all[Lr]
     grind
    ·cases h
   ·rename_i l;split at h
    ·rename_i X;cases h;obtain⟨ad,cap,rfl,g,Y,s⟩:=G;obtain⟨y,r,v3⟩:=I;have hl:F ((l.take (hi.getD<|F l).toNat).drop (lo.getD 0).toNat)=(hi.getD<|F l).toNat-(lo.getD 0).toNat:=Z7
     refine Yl.pure (λW=>cX J Q y r v3 g W) ⟨_,_,by rw[hl],Z2,Z2,λj K=>?_⟩;obtain⟨b,o,rfl,z,q2⟩:=s ((lo.getD 0).toNat+j) Z2;refine⟨b,o+(lo.getD 0).toNat,?_,z,?_⟩
     ·rw[zAt Z2];simp_all[Lr]
     grind
    ·cases h
   ·rename_i m n f;split at h
    ·rename_i X;cases h;obtain⟨ad,cap,rfl,g,Y,s⟩:=G;obtain⟨y,r,v3⟩:=I;refine Yl.pure (λW=>cX J Q y r v3 g W) ⟨_,_,rfl,Z2,Z2,λi1 j FW K=>?_⟩;obtain⟨b,o,u,rfl,z,q2,q3⟩:=s ((lo.getD 0).toNat+i1) j Z2 K;refine⟨b,o+(lo.getD 0).toNat*m,u,?_,z,?_,q3⟩
     ·rw[zAt Z2];grind[Lr]
     grind
    ·cases h
   ·rename_i k m off n;split at h
    ·rename_i X;cases h;obtain⟨p,cap,hp,rfl,g,Y,s⟩:=G;obtain⟨y,r,v3⟩:=I;refine Yl.pure (λW=>cX J Q y r v3 g W) ⟨p,_,cap-(lo.getD 0).toNat,hp,rfl,Z2,Z2,λhc=>⟨?_,?_⟩⟩
     ·rw[zAt Z2];grind[Lr]
     ·have:cap*m=(lo.getD 0).toNat*m+(cap-(lo.getD 0).toNat)*m:=by rw[←zTR];congr 1;omega
      rw[zTR];omega
    ·cases h
   ·cases h
  ·cases h
 ·cases h
variable{g:U->DV}{xs ys:υ μ}
theorem vV{b:IntKind}{n Ϛ:U}(hi:P.info? e=Z i)(l:i.size=1)(m:Hc P e=T)(hk:P.underlying e=Z (.int b))(c:xs.size=n)(hy:ys.size=n)
 (rx:∀j,j<n->∃u,xs[j]?=Z u/\AJ ϗ w (f j) ρ u) (S:∀j,j<n->∃u,ys[j]?=Z u/\AJ ϗ w (g j) ρ u) (Y:∀j,j<n->KF (f j)=T/\KF (g j)=T):
 ∀(o:Θ),(∀j∈o,j<n)->∀W,Keep N w W->(Op.eqItems (Ϛ+1) e 1 xs ys o).run P W=.ok (QK f g o) W
 |[],_,W,_=>rfl
 |j::o,h,W,s=>by
  have a:j<n:=h j Z3
  have k:∀{cs:υ μ} {f:U->DV},cs.size=n->(∀j,j<n->∃u,cs[j]?=Z u/\AJ ϗ w (f j) ρ u)->KF (f j)=T->(part e cs<|j*1).run P W=.ok (.int .i64<|It<|f j) W:=by
   intro cs f hc p q
   have r:Na P e n f (j*1) 1=Z (f j):=by
    unfold Na
    grind
   obtain⟨u,t,v⟩:=cV (P:=P) hi l hc p r;rw[t W s,fR q v]
  simp only[Op.eqItems,zLX,k c rx (Y j a).1,k hy S (Y j a).2,Result.andThen,zTl W Ϛ e .i64 b _ _ hk];unfold QK;cases hq:(It (f j)==It (g j))with
  |false=>rfl
  |true=>
   exact vV hi l m hk c hy rx S Y o (λj a=>h j<|by simp[a]) W s
theorem vW{Ϛ:U}(e:xs.size=m)(hy:ys.size=m)
 (rx:∀j,j<m->∃u,xs[j]?=Z u/\AJ ϗ w (f j) ρ u) (S:∀j,j<m->∃u,ys[j]?=Z u/\AJ ϗ w (g j) ρ u):
 ∀(z:O Field),z.all (qJ P m f g)=T->∀W,Keep N w W->(Op.eqFields (Ϛ+1) xs ys z).run P W=.ok (QK f g (z.map (·.offset))) W
 |[],_,W,_=>rfl
 |fd::z,h,W,s=>by
  rw[zPD,zAK]at h;obtain⟨h,a⟩:=h;unfold qJ at h;simp only[zAK]at h;obtain⟨b,c,h3,R,X,n,l⟩:=h;have b:fd.name≠ "_" :=by simpa using b
  have X:fd.offset<m:=zMQ X;split at c
  ·rename_i i hi;have c:i.size=1:=by simpa using c
   split at R
   ·rename_i o hk
    have k:∀{cs:υ μ} {f:U->DV},cs.size=m->(∀j,j<m->∃u,cs[j]?=Z u/\AJ ϗ w (f j) ρ u)->KF (f fd.offset)=T->(part fd.type cs fd.offset).run P W=.ok (.int .i64<|It<|f fd.offset) W:=by
     intro cs f hc a p
     have q:Na P fd.type m f fd.offset 1=Z (f fd.offset):=by
      grind[Na]
     obtain⟨u,r,t⟩:=cV (P:=P) hi c hc a q;rw[r W s,fR p t]
    simp only[Op.eqFields,zAB b,zLX,k e rx n,k hy S l,Result.andThen,zTl W Ϛ fd.type .i64 o _ _ hk];rw[zOq];unfold QK;cases hq:(It (f fd.offset)==It (g fd.offset))with
    |false=>rfl
    |true=>
     exact vW e hy rx S z a W s
   ·cases R
  ·cases c
theorem zQH{l:BinOp}{x y:DV}{o p:μ}{Q:Prop}(R X:Operand)(I:AJ ϗ w x ρ o)(hy:AJ ϗ w y ρ p)(h:Ze P l t x y=Z (Ϛ,Q)):
 Yl P N w ϗ ρ (do eqGuard l t R X o p;binOp l t o p) Ϛ:=by
 have key:∀{m a:U} {f g:U->DV} {q:Θ} {xs ys:υ μ},iN P t f g m a=Z q->xs.size=m->ys.size=a->(∀j,j<m->∃u,xs[j]?=Z u/\AJ ϗ w (f j) ρ u)->(∀j,j<a->∃u,ys[j]?=Z u/\AJ ϗ w (g j) ρ u)->
  P.eqGuardType P.depth t=D/\∀W,Keep N w W->(Op.equalIn 10000 t (.agg xs)<|.agg ys).run P W=.ok (QK f g q) W:=by
  intro m a f g q xs ys b c k rx S;unfold iN at b;split at b
  ·rename_i J r;split at b
   ·rename_i hc;cases b;simp only[zAK,zB1]at hc;obtain⟨v,z,K,G⟩:=hc;subst K;have e:P.fieldsOf t=J:=by grind[Program.fieldsOf]
    refine⟨z,λW s=>?_⟩;rw[run_equalIn_struct W 9999 t xs ys (by rw[e];exact r) v,e];exact vW (Ϛ:=9998) c k rx S J.toList G W s
   ·cases b
  ·rename_i n e r;split at b
   ·rename_i i hi;split at b
    ·rename_i k' hk;split at b
     ·rename_i hc;cases b;simp only[zAK,zB1,zAP,zAV]at hc;obtain⟨⟨⟨⟨⟨v,z⟩,K⟩,G⟩,Y⟩,c6⟩:=hc;subst G;subst Y;refine⟨K,λW s=>?_⟩;have Hj:P.cellsOf e=1:=by grind[Program.cellsOf]
      rw[run_equalIn_array W 9999 xs ys r hi,Hj];exact vV (Ϛ:=9998) hi v z hk c k rx S c6 _ (λj hj=>zAV.1 hj) W s
     ·cases b
    ·cases b
   ·cases b
  ·cases b
 unfold Ze at h;split at h
 ·split at h
  ·cases h;obtain⟨xs,rfl,c,rx⟩:=I;obtain⟨ys,rfl,k,S⟩:=hy;refine⟨.bool _,λW s=>?_,rfl⟩
   grind[Sem.run_bind,run_eqGuard_agg,Result.andThen,run_eql_struct]
  ·cases h
 ·split at h
  ·cases h;obtain⟨xs,rfl,c,rx⟩:=I;obtain⟨ys,rfl,k,S⟩:=hy;refine⟨.bool _,λW s=>?_,rfl⟩
   grind[Sem.run_bind,run_eqGuard_agg,Result.andThen,run_neq_struct]
  ·cases h
 ·cases h
theorem zJF(R:AS P Γ N S ρ a w)(o:Oper){g:Prop}(h:Xg P S o.op=Z (Ϛ,g))(c:g):
 ∃v,(∀W,Keep N w W->(ω a.eval o).run P W=.ok (.value v) W)/\AJ (MS N S.h ρ) w Ϛ ρ v:=by
 unfold Xg at h;split at h
 ·rename_i x xt j ok b;split at h
  ·rename_i d' m;cases h;obtain⟨u,p,z⟩:=zSY (xt:=xt) (Be R x) m;exact I4 (s:=Instr.typeAssert (a.eval x) xt j ok) (by unfold ω;rw[b]) ⟨u,λW _=>p W,z⟩
  ·cases h
 ·rename_i t parts b;exact I4 (by unfold ω;rw[b])<|zK1 R h
 ·rename_i t x i b;have hi:=Be R i;split at h
  ·rename_i k n e;rw[e]at hi;refine I4 (s:=Instr.index t (a.eval x)<|a.eval i) (by unfold ω;rw[b]) ?_;rw[show a.eval i=_ from hi];exact zLj R (Be R x) h c
  ·cases h
 ·rename_i t x f b;exact I4 (s:=Instr.field t (a.eval x) f) (by unfold ω;rw[b])<|zPi R (Be R x) h
 ·rename_i t x lo hi b;split at h
  ·rename_i l G;split at h
   ·rename_i hh q;obtain⟨k1,I⟩:=zC R G;obtain⟨k2,K⟩:=zC R q;refine I4 (s:=Instr.sliceAt t (a.eval x) (lo.map a.eval) (hi.map a.eval) V) (by unfold ω;rw[b];rfl) ?_;rw[I,K];exact zQs R (Be R x) h c
   ·cases h
  ·cases h
 ·rename_i op t x y t' b;split at h
  ·rename_i r J;cases h;exact I4 (by unfold ω;rw[b])<|zQH x y (Be R x) (Be R y) J
  grind[wo]
 ·exact wo R o h c
end
abbrev zDh:=@List.getElem?_eq_some_iff
abbrev zMK:=@Nat.zero_le
abbrev zMN:=@List.getElem?_map
abbrev zMZ:=@List.getElem?_append_left
def BX:O Prop->Prop
 |[]=>True
 |p::W=>p/\BX W
def D5{l l':O Prop}:BX (l++l')↔BX l/\BX l':=by
 induction l with
 |nil=>simp[BX]
 |cons p ps n=>simp[BX,n,and_assoc]
def AO(Ϛ d':DV):Prop:=∀(ϗ:Ψ) (w:κ) (ρ:O AK) (v:μ),AJ ϗ w Ϛ ρ v->AJ ϗ w d' ρ v
section
variable{P:ν}{Γ:A2}{N:Ψ}
variable{ϗ:Ψ}{w:κ}
def DU{S:Ψ}(h:∀b,S b->ϗ b)(ρ:O AK):BQ ϗ w ρ S w ρ:=⟨λ_ _ _ _=>rfl,λb a=>.inl<|h b a,λ_ _ h=>h⟩
def qE:DO->A (U×U×DV)
 | .ints l=>Z (1,F l,.ints l)
 | .bools l=>Z (1,F l,.bools l)
 | .arr m n f=>Z (m,n,.sl m n f)
 | .gro m n f=>Z (m,n,.sl m n f)
 | .mo (.rws q V)=>Z (1,F q,.sl 1 (F q) λi j=>([.ints<|M q i ξ]:O DV).getD j .any)
 |_=>V
def gB:DO->ζ
 | .gro .. =>T
 |_=>D
def Jl(b:ζ)(k m:U)(v:DV):DV->DV
 | .msl W f off n=>C (W=k/\f=m/\off=0) v<|.msl W f off n
 | .gr W=>C (b=T/\W=k) v<|.gr W
 |Ϛ=>Ϛ
def VH(k m n:U):DV->O Prop
 | .msl W f off h=>C (W=k/\f=m/\off=0) [h=n] []
 |_=>[]
def iA(b:ζ)(k m:U)(v:DV):A DO->A DO
 |some (.cells l)=>Z<|.cells<|l.map<|Jl b k m v
 |some (.ro l)=>Z<|.ro<|l.map<|Jl b k m v
 |o=>o
def zAh(k m n:U):A DO->O Prop
 |some (.cells l)=>l.flatMap<|VH k m n
 |some (.ro l)=>l.flatMap<|VH k m n
 |_=>[]
def La(b:ζ)(k m:U)(v:DV)(S:St):St:=⟨S.fr.map<|Jl b k m v,(S.h.set k V).map<|iA b k m v⟩
variable{Ϛ:DV}
theorem rW{l:O DV}{f:DV->O Prop}(h:BX<|l.flatMap f)(r:Ϛ∈l):BX<|f Ϛ:=by
 induction l with
 |nil=>simp at r
 |cons x l ih=>
  rw[zTv]at h;obtain⟨h1,h2⟩:=D5.1 h
  grind
theorem zCa{l:O (A DO)}{f:A DO->O Prop}(h:BX<|l.flatMap f){Ϛ:A DO}(r:Ϛ∈l):BX<|f Ϛ:=by
 induction l with
 |nil=>simp at r
 |cons x l ih=>
  rw[zTv]at h;obtain⟨h1,h2⟩:=D5.1 h
  grind
variable{cap m n:U}{u:μ}{f:U->U->DV}{p:AK}{ρ:O AK}
def rJ{S:Ψ}(a:Ac w p (n*m) λj u=>AJ ϗ w (f (j/m)<|j%m) [] u)(I:¬S p.blk)(l:∀b,S b->ϗ b)(t:u=.slice (Z ⟨p.blk,p.off+0*m,V⟩) n cap)(c:n<=cap)(e:n<=LB):AJ S w (.sl m n f) ρ u:=by
 refine⟨_,cap,t,c,e,λi j hi g=>?_⟩;have R:i*m+j<n*m:=zAQ (by rw[zTw];omega:i*m+j<(i+1)*m)<|zN8 m hi;obtain⟨x,y,K⟩:=Ac.cell a R;have z:0<m:=Z2
 have W:(i*m+j)/m=i:=by rw[zOc,Nat.mul_add_div z];simp[Nat.div_eq_of_lt g]
 have s:(i*m+j)%m=j:=by rw[zOc,Nat.mul_add_mod];exact Nat.mod_eq_of_lt g
 rw[W,s]at K;exact⟨p.blk,p.off,x,Z3,I,y,AJ.out _ (DU l []) K⟩
variable{v:DV}{o:DO}
theorem zPX{S:Ψ}(g:qE o=Z (m,n,v))(a:Bi P ϗ w ρ p o)(I:∀b,p.foot b->¬S b)(N:∀b,S b->ϗ b)(h:u=.slice (Z ⟨p.blk,p.off+0*m,V⟩) n cap)(r:n<=cap)(s:n<=LB):AJ S w v ρ u:=by
 cases o with
 |cells l=>cases g
 |iter e=>cases g
 |ro l=>cases g
 |mo x=>
  cases x with
  |rws ls X=>
   cases X with
   |some y=>cases g
   |none=>
    cases g;obtain⟨vs,G⟩:=a;obtain⟨cs,t,z,K,e3,Y⟩:=G.row;refine⟨_,cap,h,r,s,λi j hi J=>?_⟩;obtain rfl:j=0:=Z2
    have Q:i+1<vs.size:=by rw[G.size];omega
    have R:=Y i hi;rw[zOS Q]at R;refine⟨p.blk,p.off,vs[i+1],Z3,I _ G.blk,by unfold World.cell?;simp[z,R],?_⟩;have W:=G.has i hi λϜ e=>by cases e
    rw[show vs.getD (i+1) undef=vs[i+1] by simp[Q]]at W;rcases W with⟨e,e'⟩|⟨q,c,e,g1,g2,g3,g4,g5⟩
    ·simp_all[AJ]
    ·rw[e];refine⟨_,c,rfl,g1,g3,λk hk=>⟨q.blk,q.off,rfl,I _ g4.1,?_⟩⟩;obtain⟨x,k1,k2⟩:=g5.cell hk;rw[k1,k2]
  |_=>cases g
 |ints l=>
  cases g;have I:=I p.blk (by rw[a.1]);refine⟨_,cap,h,r,s,λj J=>⟨p.blk,p.off,Z3,I,?_⟩⟩;obtain⟨x,z,K⟩:=Ac.cell a J;rw[z,K]
 |bools l=>
  cases g;have I:=I p.blk (by rw[a.1]);refine⟨_,cap,h,r,s,λj J=>⟨p.blk,p.off,Z3,I,?_⟩⟩;obtain⟨x,z,K⟩:=Ac.cell a J;rw[z,K]
 |arr m n f=>cases g;exact rJ a (I p.blk<|by rw[a.1]) N h r s
 |gro m n f=>
  cases g;rcases a with⟨rfl,_⟩|⟨_,_,_,_,_,a⟩
  ·exact⟨_,cap,h,r,s,λi j hi _=>τ hi<|zAR i⟩
  ·exact rJ a (I p.blk<|by rw[a.1]) N h r s
def zPI{S:Ψ}{ρ':O AK}(a:Bi P ϗ w ρ p<|.gro m n f)(I:∀b,p.foot b->¬S b)(l:∀b,S b->ϗ b):AJ S w (.sl m n f) ρ' p.val:=by
 rcases a with⟨rfl,h,_⟩|⟨cap,h,c,e,_,a⟩
 ·exact⟨_,0,h,zAf _,zMK _,λi j hi _=>τ hi<|zAR i⟩
 ·exact rJ a (I p.blk<|by rw[a.1]) l (by simpa using h) c e
variable{o':DO}{h:DH}{k:U}
theorem ZQ{b:ζ}{i:U}(hi:((h.set k V).map<|iA b k m v)[i]?=Z (Z o')):i≠k/\∃o,h[i]?=Z (Z o)/\iA b k m v (Z o)=Z o':=by
 rw[zMN]at hi;cases e:(h.set k V)[i]? with
 |none=>rw[e]at hi;cases hi
 |some x=>
  rw[e]at hi;have hi:iA b k m v x=Z o':=zAN hi;cases x with
  |none=>cases hi
  |some o=>grind
def EM(S S':St):Prop:=∀(P:ν) (Γ:A2) (N:Ψ) (ρ:O AK) (a:Act) (w:κ),AS P Γ N S ρ a w->AS P Γ N S' ρ a w/\A8 S.h ρ w S'.h ρ w
variable{S:St}
theorem EM.frz(k:U)(hk:S.h[k]?=Z (Z o))(ho:qE o=Z (m,n,v))(hc:BX<|S.fr.flatMap<|VH k m n)(N9:BX<|S.h.flatMap<|zAh k m n):EM S<|La (gB o) k m v S:=λP Γ N ρ a w R=>by
 obtain⟨p,W,hr⟩:=R.hr.obj k _ hk
 have Y:∀b,MO (La (gB o) k m v S).h ρ b->∃i o p',i≠k/\S.h[i]?=Z (Z o)/\ρ[i]?=Z p'/\p'.foot b:=by
  rintro b ⟨i,o',p',y,c,g⟩;obtain⟨z,Q,K,_⟩:=ZQ y;exact⟨i,Q,p',z,K,c,g⟩
 have hN:∀b,p.foot b->¬MS N (La (gB o) k m v S).h ρ b:=by
  rintro b hf (hn|hb)
  ·exact(R.hr.cel k _ p b hk W hf).2.1 hn
  ·obtain⟨i,Q,p',z,K,c,g⟩:=Y _ hb;exact R.hr.dis i k _ _ p' p b z K hk c W g hf
 have r:∀b,MS N (La (gB o) k m v S).h ρ b->MS N S.h ρ b:=λb hb=>hb.imp id λhb=>by
  obtain⟨i,Q,p',_,K,c,g⟩:=Y _ hb;exact⟨i,Q,p',K,c,g⟩
 have conv:∀(Ϛ:DV) (u:μ),BX (VH k m n Ϛ)->AJ (MS N S.h ρ) w Ϛ ρ u->AJ (MS N (La (gB o) k m v S).h ρ) w (Jl (gB o) k m v Ϛ) ρ u:=by
  intro Ϛ u pW G;cases Ϛ with
  |msl k' m' off n'=>
   simp only[VH,Jl]at pW⊢;split at pW
   ·rename_i e;obtain⟨rfl,rfl,rfl⟩:=e;rw[zAB ⟨rfl,rfl,rfl⟩];obtain⟨p',cap,I,e,y,c,_⟩:=G;have ep:p'=p:=zAN<|I.symm.trans W;subst ep;have en:=pW.1
    grind[zPX]
   ·rename_i e;rw[zAt e];exact AJ.out _ (DU r ρ) G
  |gr k'=>
   simp only[Jl];split
   ·rename_i e;obtain⟨p',_,_,_,I,rfl,_⟩:=G;obtain rfl:p'=p:=zAN<|(e.2▸I).symm.trans W;cases o with
    |gro m n f=>cases ho;exact zPI hr hN r
    |_=>cases e.1
   ·exact AJ.out _ (DU r ρ) G
  |_=>exact AJ.out _ (DU r ρ) G
 refine⟨⟨⟨by simp[La,R.hr.len],λi o' hi=>?_,λi o' p' b y c g=>?_,λi i' o1 Q p1 p2 b Af y c g g4 g5 g6=>?_,R.hr.nlt,R.hr.gi⟩,⟨by simp[La,R.fr.1],λi hi=>?_⟩⟩,⟨AR.refl _ w,λb hb=>.inl ?_⟩⟩
 ·obtain⟨z,Q,K,q⟩:=ZQ hi;obtain⟨p',I,s⟩:=R.hr.obj i Q K;refine⟨p',I,?_⟩;cases Q with
  |cells l=>
   cases q
   show Ac w p' (F<|l.map<|Jl (gB o) k m v) _
   rw[zAS];refine Ac.out s rfl λj u J t=>?_
   have:(l.map<|Jl (gB o) k m v).getD j .any=Jl (gB o) k m v (l.getD j .any):=by simp[J]
   rw[this];refine conv _ _ ?_ t
   have Aa:Z (DO.cells l)∈S.h:=zLW K;have:=zCa N9 Aa;exact rW (l:=l) this (by simp[J])
  |ints l=>cases q;exact Ac.out s rfl λj u _ t=>t
  |bools l=>cases q;exact Ac.out s rfl λj u _ t=>t
  |arr m n f=>cases q;exact Ac.out s rfl λj u _ t=>AJ.out _ (DU r []) t
  |gro m n f=>cases q;exact Bi.gr s (λ_=>rfl) λt=>AJ.out _ (DU r []) t
  |iter encs=>
   cases q;obtain⟨gf,lb,Rd,q1,q2,X,q4⟩:=s;exact⟨gf,lb,Rd,q1,q2,λb hb=>⟨λhm=>(X b hb).1<|r b hm,(X b hb).2⟩,q4⟩
  |ro l=>
   cases q;obtain⟨r1,r2,r3⟩:=s;refine⟨r1,λhm=>r2<|r _ hm,?_⟩
   show Ac w _ (F<|l.map<|Jl (gB o) k m v) _
   rw[zAS];refine Ac.out r3 rfl λj u J t=>?_
   have:(l.map<|Jl (gB o) k m v).getD j .any=Jl (gB o) k m v (l.getD j .any):=by simp[J]
   rw[this];refine conv _ _ ?_ t
   have Aa:Z (DO.ro l)∈S.h:=zLW K;have:=zCa N9 Aa;exact rW (l:=l) this (by simp[J])
  |mo x=>cases q;exact s
 ·obtain⟨z,Q,K,q⟩:=ZQ y;obtain⟨q1,q2,X⟩:=R.hr.cel i Q p' b K c g;exact⟨q1,q2,X⟩
 ·obtain⟨z,o3,K,_⟩:=ZQ y;obtain⟨VT,o4,Zj,_⟩:=ZQ c;exact R.hr.dis i i' o3 o4 p1 p2 b Af K Zj g g4 g5 g6
 ·have CF:i<F S.fr:=by simpa[La]using hi
  have:(La (gB o) k m v S).fr.getD i .any=Jl (gB o) k m v (S.fr.getD i .any):=by simp[La,CF]
  rw[this];refine conv _ _ (rW hc<|by simp[CF])<|R.fr.2 i CF
 ·obtain⟨i,Q,p',_,K,c,g⟩:=Y _ hb;exact⟨i,Q,p',K,c,g⟩
def ZR(k:U)(S:St):A<|St×O Prop:=match S.h.getD k V with
 |some o=>match qE o with
  |some (m,n,v)=>Z (La (gB o) k m v S,S.fr.flatMap (VH k m n)++S.h.flatMap (zAh k m n))
  |none=>V
 |none=>V
theorem EM.frzE(k:U)(S':St)(vs:O Prop)(h:ZR k S=Z (S',vs))(a:BX vs):EM S S':=by
 unfold ZR at h;split at h
 ·rename_i o ho;split at h
  ·rename_i m n v g;cases h;obtain⟨b,c⟩:=D5.1 a;refine EM.frz k ?_ g b c
   grind
  ·cases h
 ·cases h
theorem EM.refl(S:St):EM S S:=λ_ _ _ _ _ _ R=>⟨R,A8.refl _ _ _⟩
def EM.trans{ϕ ϙ ϛ:St}(h:EM ϕ ϙ)(k:EM ϙ ϛ):EM ϕ ϛ:=λP Γ N ρ a w R=>by
 obtain⟨X,z⟩:=h P Γ N ρ a w R;obtain⟨g,b⟩:=k P Γ N ρ a w X;exact⟨g,z.trans b⟩
theorem MO.put(hk:h[k]?=Z (Z o)){b:U}:MO (h.set k<|Z o') ρ b↔MO h ρ b:=by
 have R:=(zDh.1 hk).1;constructor
 ·rintro⟨i,x,p,f,c,a⟩;rw[zO7]at f
  by_cases e:k=i
  ·subst e;exact⟨k,o,p,hk,c,a⟩
  ·rw[zAt e]at f;exact⟨i,x,p,f,c,a⟩
 ·rintro⟨i,x,p,f,c,a⟩
  by_cases e:k=i
  ·subst e;exact⟨k,o',p,by simp[R],c,a⟩
  ·exact⟨i,x,p,Z4,c,a⟩
theorem EM.objR{a:Act}(R:AS P Γ N S ρ a w)(hk:S.h[k]?=Z (Z o))(z:∀p,ρ[k]?=Z p->Bi P (MS N (S.h.set k<|Z o') ρ) w ρ p o->Bi P (MS N (S.h.set k<|Z o') ρ) w ρ p o'):AS P Γ N ⟨S.fr,S.h.set k<|Z o'⟩ ρ a w/\A8 S.h ρ w (S.h.set k<|Z o') ρ w:=by
 have m:∀b,MS N (S.h.set k<|Z o') ρ b↔MS N S.h ρ b:=λb=>or_congr Iff.rfl<|MO.put hk
 have back:∀{i:U} {x:DO},(S.h.set k<|Z o')[i]?=Z (Z x)->∃y,S.h[i]?=Z (Z y)/\(i=k/\x=o'∨y=x):=by
  grind
 have ϐ:BQ (MS N S.h ρ) w ρ (MS N (S.h.set k<|Z o') ρ) w ρ:=DU (λb f=>(m b).1 f) ρ;refine⟨⟨⟨by simp[R.hr.len],λi x hi=>?_,λi x p b g u j=>?_,λi n o1 o2 q p2 b r g u j K t s=>?_,R.hr.nlt,R.hr.gi⟩,R.fr.out ϐ⟩,⟨AR.refl _ w,λb f=>.inl<|(MO.put hk).1 f⟩⟩
 ·rw[zO7]at hi
  by_cases e:k=i
  ·subst e;rw[zAB rfl,zAB (zDh.1 hk).1]at hi;cases hi;obtain⟨p,c,l⟩:=R.hr.obj k o hk;exact⟨p,c,z p c<|l.out ϐ (S:=λ_=>False) (AR.refl _ _) (λ_ h=>h.elim) λ_ _ _ h=>h⟩
  ·rw[zAt e]at hi;obtain⟨p,c,l⟩:=R.hr.obj i x hi;exact⟨p,c,l.out ϐ (S:=λ_=>False) (AR.refl _ _) (λ_ h=>h.elim) λ_ _ _ h=>h⟩
 ·obtain⟨y,e,_⟩:=back g;exact R.hr.cel i y p b e u j
 ·obtain⟨v,G,_⟩:=back g;obtain⟨I,J,_⟩:=back u;exact R.hr.dis i n v I q p2 b r G J j K t s
def EM.obj(hk:S.h[k]?=Z (Z o))(z:∀(P:ν) (ϗ:Ψ) (w:κ) (ρ:O AK) (p:AK),Bi P ϗ w ρ p o->Bi P ϗ w ρ p o'):EM S ⟨S.fr,S.h.set k<|Z o'⟩:=λP _ _ ρ _ w R=>EM.objR R hk λp _=>z P _ w ρ p
inductive Fz where
 |frz (k:U)
 |arr (k n:U) (f:U->U->DV)
 |unf (k:U)
 |rws
def zCN(k a:U)(t:U->U->DV)(S:St):A<|St×O Prop:=match S.h.getD k V with
 |some (.arr m n f)=>Z (⟨S.fr,S.h.set k<|Z<|.arr m a t⟩,[n=a/\∀i j,i<n->j<m->AO (f i j) (t i j)])
 |some (.gro m n f)=>Z (⟨S.fr,S.h.set k<|Z<|.gro m a t⟩,[n=a/\∀i j,i<n->j<m->AO (f i j) (t i j)])
 |_=>V
def g8:Fz->St->A (St×O Prop)
 | .frz k,S=>ZR k S
 | .arr k n f,S=>zCN k n f S
 | .unf k,S=>match S.h.getD k V with
  |some (.mo<|.rows f<|Z (_,_,D))=>Z (⟨S.fr,S.h.set k<|Z<|.mo<|.rows f V⟩,[])
  |_=>V
 | .rws,_=>V
def GI.unf{f:E->Ξ}{x:E}{Ϝ:Ξ}{es:υ MapEntry}{a:U}(h:GI w p f (Z (x,Ϝ,D)) u es a):GI w p f V u es a:=
 { h with
  key:=λe b=>let⟨k,c,i⟩:=h.key e b;⟨k,c,λ_=>i λϜ e=>by cases e⟩
  inHand:=λk Ϝ g e=>by cases e }
theorem getD_some(ho:h.getD k V=Z o):h[k]?=Z (Z o):=by
 grind
theorem EM.fz(z:Fz)(S':St)(vs:O Prop)(h:g8 z S=Z (S',vs))(o:BX vs):EM S S':=by
 have row:∀(m n:U) (f t:U->U->DV),(∀i j,i<n->j<m->AO (f i j) (t i j))->∀(ϗ:Ψ) (w:κ) (p:AK),Ac w p (n*m) (λj u=>AJ ϗ w (f (j/m)<|j%m) [] u)->Ac w p (n*m) λj u=>AJ ϗ w (t (j/m)<|j%m) [] u:=λm n f t r ϗ w p a=>
  Ac.out a rfl λj u g e=>by
   have c:0<m:=by
    grind
   exact r _ _ ((zO3 c).2 g) (Nat.mod_lt _ c) ϗ w [] u e
 cases z with
 |frz k=>exact EM.frzE k S' vs h o
 |arr k n' t=>
  simp only[g8,zCN]at h;split at h
  ·rename_i m n f b;cases h;obtain⟨⟨rfl,r⟩,_⟩:=o;exact EM.obj (getD_some b) λP ϗ w ρ p a=>row _ _ _ _ r _ _ _ a
  ·rename_i m n f b;cases h;obtain⟨⟨rfl,r⟩,_⟩:=o;exact EM.obj (getD_some b) λP ϗ w ρ p a=>a.imp id λ⟨cap,y,K,N,l,a⟩=>⟨cap,y,K,N,l,row _ _ _ _ r _ _ _ a⟩
  ·cases h
 |unf k=>
  simp only[g8]at h;split at h
  ·rename_i f x Ϝ b;cases h;exact EM.obj (getD_some b) λP ϗ w ρ p ⟨u,es,q,s⟩=>⟨u,es,q,s.unf⟩
  ·cases h
 |rws=>cases h
def ZP:O (U×Fz)->A U->St->A (St×O Prop×O (U×Fz))
 |[],_,S=>Z (S,[],[])
 |(t,z)::rest,dst,S=>if dst=Z t then match g8 z S with
  |some (S',vs)=>match ZP rest dst S' with
   |some (p,Y,r)=>Z (p,vs++Y,r)
   |none=>V
  |none=>Z (S,[],(t,z)::rest)
  else Z (S,[],(t,z)::rest)
def ZO:∀(l:O<|U×Fz) {dst:A U} {S S':St} {vs:O Prop} {r:O (U×Fz)},ZP l dst S=Z (S',vs,r)->BX vs->EM S S'
 |[],dst,S,S',vs,r,h,_=>by cases h;exact EM.refl S
 |(t,z)::rest,dst,S,S',vs,r,h,o=>by
  simp only[ZP]at h;split at h
  ·split at h
   ·rename_i y a b;split at h
    ·rename_i S2 Eg r2 c;cases h;obtain⟨e,f⟩:=D5.1 o;exact(EM.fz z y a b e).trans<|ZO rest c f
    ·cases h
   ·cases h;exact EM.refl S
  ·cases h;exact EM.refl S
abbrev Q9{α:Type}[Inhabited α](enc:α->U->DV)(Ϝ:O α):U->U->DV:=λi j=>enc (M Ϝ i ξ) j
variable{g:U->U->DV}{α:Type}
theorem Q8[Inhabited α]{enc:α->U->DV}{Ϝ L':O α}{c:U}  (s:n=F Ϝ)(hc:c=F L')(a:∀i j,i<c->j<m->AO (g i j) (Q9 enc L' i j)):n+c=F (Ϝ++L')/\∀i j,i<n+c->j<m->AO (C (i<n) (Q9 enc Ϝ i j)<|g (i-n) j) (Q9 enc (Ϝ++L') i j):=by
 subst s;subst hc;refine⟨Z3,λi j hi hj=>?_⟩;simp only[Q9,zAL]at a⊢
 by_cases h:i<F Ϝ
 ·rw[zAB h,zMZ h];exact λ_ _ _ _ h=>h
 grind
theorem zHd[Inhabited α]{enc:α->U->DV}  {x:α}  (hg:∀i j,j<m->AO (g i j) (enc x j)):n=F (d n x)/\∀i j,i<n->j<m->AO (g i j) (Q9 enc (d n x) i j):=by
 grind
theorem At :AO Ϛ Ϛ:=λ_ _ _ _ h=>h
theorem zJp{l:O DV}(hl:l.all JW=T)(hm:m=F l):∀j,j<m->JW (l.getD j .any)=T:=λj hj=>by
 grind
def Ke:O DV->O DV->Prop
 |[],[]=>True
 |Ϛ::ds,e::es=>AO Ϛ e/\Ke ds es
 |_,_=>False
theorem Vu:∀{l l':O DV},Ke l l'->F l=F l'/\∀j,j<F l->AO (l.getD j .any) (l'.getD j .any)
 |[],[],_=>⟨rfl,λj g=>τ g<|zAR j⟩
 |Ϛ::ds,e::es,⟨h1,c⟩=>by
  obtain⟨q1,q2⟩:=Vu c
  grind
 |[],_::_,h=>h.elim
 |_::_,[],h=>h.elim
theorem zCe{l l':O DV}(h:Ke l l')(j:U):AO (l.getD j .any)<|l'.getD j .any:=by
 grind[Vu,At]
def lq:O DV->O (O DV)->Prop
 |[],[]=>True
 |v::vs,c::cs=>(∃l,KZ v=Z l/\Ke l c)/\lq vs cs
 |_,_=>False
theorem vj:∀{vs:O DV} {cs:O (O DV)},lq vs cs->F vs=F cs/\∀i,i<F vs->∃l,KZ (vs.getD i .any)=Z l/\Ke l (M cs i [])
 |[],[],_=>⟨rfl,λi hi=>τ hi<|zAR i⟩
 |v::vs,c::cs,⟨h1,a⟩=>by
  obtain⟨q1,q2⟩:=vj a
  grind
 |[],_::_,h=>h.elim
 |_::_,[],h=>h.elim
theorem ER[Inhabited α]{c:α->O DV}{Ϝ:O α}{vals:O DV}  (hn:n=F vals)(h:lq vals<|Ϝ.map c):n=F Ϝ/\∀i j,i<n->j<m->AO (match KZ (vals.getD i .any)with|some l=>l.getD j .any|none=>.any) (Q9 (λx j=>(c x).getD j .any) Ϝ i j):=by
 grind[vj,List.length_map,zCe]
def vf[Inhabited α]{c:α->O DV}{x:α}{l:O DV}  (h:Ke l<|c x):n=F (d n x)/\∀i j,i<n->j<m->AO (l.getD j .any) (Q9 (λx j=>(c x).getD j .any) (d n x) i j):=
 zHd λ_ j _=>zCe h j
end
end Go.Proofs.YtnkpdcmbppkkpaaGreatDoor
