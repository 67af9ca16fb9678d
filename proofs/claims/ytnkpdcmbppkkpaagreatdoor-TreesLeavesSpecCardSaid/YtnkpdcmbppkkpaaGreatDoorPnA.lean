/- Part 1 of 8 of what the proofs of these laws stand on. -/
import Derived.WalkKit
import Derived.WalkSpells
import Derived.WalkLawsBesides
import Derived.Lib.Hide
import Derived.OrdersHeld
import Derived.Deep.RegionHeld
import Derived.BigQuiet
import Derived.OrdersIn
import Derived.TacticsIn
import Derived.RangeFuncOwn
import Derived.RangeFuncNested
import Derived.RangeFuncCalls
import Derived.Laws.IdiomRangeMap
import Derived.Laws.Cells
import Derived.Laws.Cover3
import Derived.Laws.StructEq
import Derived.ChangeKeysEq
import Derived.RowKit
import Derived.Deep.AppendSrc
import Derived.Laws.MakeOwn
import Derived.Great.BuildSlice
import Derived.Sort.LoopGhostIn
import Derived.MapKept
set_option linter.all false
open Bool renaming true->D,false->T
open Decidable renaming decide->C
open Go renaming World->κ,Value->μ,Program->ν,TypeId->ψ,execOp->ω
open Go.Fence renaming wide->η
open Inhabited renaming default->ξ
open List renaming length->F,getD->H,replicate->d,range->θ
open Option renaming none->A,some->Z
open _root_ renaming Nat->E,Option->M,List->O,Int->U,ite->u,Bool->ζ,absurd->τ,Array->υ
namespace Go.Proofs.YtnkpdcmbppkkpaaGreatDoor
variable{p:Prop}
def Z0(h:p:=by unfold Ac;kernel_rfl):p:=h
def Z1(h:p:=by unfold B3;kernel_rfl):p:=h
def Z2(h:p:=by omega):p:=h
def Z3(h:p:=by simp):p:=h
theorem Z4(h:p:=by grind):p:=h
def Z5(h:p:=by kernel_rfl):p:=h
def Z6(h:p:=by decide):p:=h
def Z7(h:p:=by simp;omega):p:=h
abbrev Ξ:=O U
abbrev Ω:=O ζ
abbrev Ψ:=E->Prop
abbrev Θ:=O E
abbrev Δ:=U×U
abbrev X0:=M<|(O Ξ)×U
abbrev X1:=M<|U×Ξ×ζ
abbrev X2:=M<|Ω×Ω×ζ×Ξ
abbrev X3:=M<|O<|Δ
abbrev X4:=M<|ζ×U
abbrev X5:=M<|E×E
abbrev X6:=M<|ζ×Ξ
abbrev X7:=M<|Ξ×ζ
abbrev X8:=M<|Ξ×U
abbrev X9:=M ζ
abbrev W0:=M E
abbrev W5:=M U
abbrev W6:=M Ξ
abbrev W7:=M Δ
abbrev W8:=M Ω
end Go.Proofs.YtnkpdcmbppkkpaaGreatDoor
namespace Go.Proofs.YtnkpdcmbppkkpaaGreatDoor
open Go.RowKit
abbrev zI1:=@Nat.le_refl
abbrev zLJ:=@Go.World.block_lt_of_cell?
section
def A0(w w':κ):Prop:=Below w.heap.size w w'
theorem A0.refl(w:κ):A0 w w:=Below.refl _ _
def A0.trans{a b c:κ}(h:A0 a b)(k:A0 b c):A0 a c:=Below.trans h<|Below.mono k h.size
def A0.alloc(w:κ)(o:Obj):A0 w<|w.alloc o:=(Below.refl _ _).alloc (zI1 _) o
variable{w w':κ}
def A0.allocR(h:A0 w w')(o:Obj):A0 w<|w'.alloc o:=h.trans<|A0.alloc w' o
def A0.drewR(h:A0 w w'):A0 w w'.drew:=Below.drew h
def A0.size(h:A0 w w'):w.heap.size<=w'.heap.size:=Below.size h
theorem A0.cells(h:A0 w w'):∀b o,b<w.heap.size->w'.cell? ⟨b,o,A⟩=w.cell? ⟨b,o,A⟩:=
 λb o a=>Below.cell h (p:=⟨b,o,A⟩) a
theorem A0.cell(h:A0 w w'){b o:E}{ϛ:μ}(hc:w.cell? ⟨b,o,A⟩=Z ϛ):w'.cell? ⟨b,o,A⟩=Z ϛ:=by
 rw[h.cells b o<|zLJ w ⟨b,o,A⟩ hc];exact hc
def C5(b:ζ)(e:U):U:=u b 0 e
def zOc(e:U):C5 D e=0:=rfl
structure AD where
 kind:U
 ce:Ξ
 set:U
 other:U
 lo:U
 hi:U
 ru:Ξ
 rule:U
 spot:U
 deriving DecidableEq,Inhabited
structure AA where
 ce:U
 sy:U
 va:Ξ
 nb:O Ξ
 cons:O AD
 deriving DecidableEq,Inhabited
end
abbrev zAF:=@if_pos
abbrev zAx:=@Bool.and_eq_true
abbrev zJz:=@if_neg
abbrev zKq:=@beq_iff_eq
abbrev zKu:=@Bool.or_eq_true
abbrev zK6:=@Go.Sem.run_bind
abbrev zLV:=@Bool.false_eq_true
abbrev zRs:=@Go.mem_ready
section
def TI:Op->ζ
 | .move _| .assign _| .pick ..| .load ..| .binOp ..| .unOp ..| .convert ..| .makeFunc ..| .slice ..| .fieldAddr ..| .field ..| .indexAddr ..| .index ..| .extract ..| .build ..| .lookup ..| .makeInterface ..| .nilCheck _| .typeAssert .. =>D
 | .call c=>match c.callee with
  | .builtin .len| .builtin .cap| .builtin .min| .builtin .max=>D
  |_=>T
 |_=>T
variable{n:Next}{w w':κ}{P:ν}
theorem SB{α:Type}{s:Sem α}{f:α->μ}(h:(s>>=λx=>(pure<|.value<|f x:Sem Next)).run P w=.ok n w'):∃v,n=.value v:=by
 rw[zK6]at h;cases p:s.run P w with
 |ok v w1=>rw[p]at h;simp only[Result.andThen]at h;cases h;exact⟨_,rfl⟩
 |halt x w1=>simp_all
theorem zH1{ρ:Operand->μ}{o:Oper}(g:TI o.op=D)(h:(ω ρ o).run P w=.ok n w'):∃v,n=.value v:=by
 unfold ω at h;cases K:o.op <;> rw[K]at g h <;> simp only[TI,zLV]at g
 all_goals first|exact SB (f:=λx=>x) h|(cases h;exact⟨_,rfl⟩)|skip
 ·rename_i c x y;exact SB (s:=asBool<|ρ c) (f:=λb=>u b (ρ x)<|ρ y) h
 ·rename_i x
  have j:∀{α:Type} (s:Sem α) (f:α->Sem Next) (i:κ),(∀a w1,(f a).run P w1=.ok n w'->∃v,n=.value v)->(s>>=f).run P i=.ok n w'->∃v,n=.value v:=by
   intro α s f i t k;rw[zK6]at k;cases z:s.run P i with
   |ok v w1=>rw[z]at k;exact t _ _ k
   |halt x w1=>simp_all
  have X:(runtimePanic .nilDeref:Sem Next).run P w=.ok n w'->∃v,n=.value v:=by
   simp_all[runtimePanic]
  simp only at h;split at h
  ·exact X h
  ·exact X h
  ·exact X h
  ·split at h
   ·exact X h
   ·refine j _ _ _ ?_ h;intro p w1 G;refine j _ _ _ ?_ G;intro q w2 l;split at l
    ·simp_all
    ·cases l;exact⟨_,rfl⟩
   ·cases h;exact⟨_,rfl⟩
  ·cases h;exact⟨_,rfl⟩
 ·rename_i c;replace h:(resolve ρ c o.type>>=λϚ=>invoke Ϛ.target Ϛ.args).run P w=.ok n w':=h;rw[zK6]at h;unfold resolve at h;cases hc:c.callee with
  |value f=>rw[hc]at g;simp at g
  |invoke r m=>rw[hc]at g;simp at g
  |builtin b=>
   rw[hc]at g h;have e:∀Ϛ:Deferred,(pure Ϛ:Sem Deferred).run P w=.ok Ϛ w:=λ_=>rfl
   simp only[e,Result.andThen]at h;unfold invoke at h;cases b <;> simp at g <;> exact SB (f:=λx=>x) h
structure Ys(w:κ) where
 W:κ
 le:A0 w W
def Up(w:κ):κ->Prop:=λw'=>∃x:Ys w,w'=x.W
def Up.iff :Up w w'↔A0 w w':=⟨λ⟨x,e⟩=>e▸x.le,λh=>⟨⟨w',h⟩,rfl⟩⟩
def A0.toDrew(w:κ):A0 w w.drew:=A0.drewR<|A0.refl w
section
variable{P:ν}{ops:υ Oper}{Q:Exit->Act->κ->Prop}
theorem zAw{w:κ}{o:Oper}{a:Act}{v:μ}(b:TI o.op=D)(c:Region.wanted o (yielded ops a.tmps)=D)
 (h:∀w',Up w w'->o.quietAt P a (Up w) w' v):YieldsIf P ops (A0 w) o v a:=by
 refine .inl ⟨c,λw' l=>?_⟩;have:=h w'<|Up.iff.2 l;unfold Oper.quietAt at this;cases k:(ω a.eval o).run P w' with
 |halt x w1=>grind[Oper.quietUpon]
 |ok n w1=>
  obtain⟨ϛ,rfl⟩:=zH1 b k;rw[k]at this;obtain⟨rfl,rfl⟩:=this;rfl
def NP(Q:Exit->Act->κ->Prop):Exit->Act->κ->Prop
 | .panic _,_,_=>False
 |e,a,w=>Q e a w
def NP.put(c:O PanicEntry)(a:Act)(Ϛ:M Tmp)(v:μ)(w:κ)(h:NP Q (.panic c) (a.put Ϛ v) w):NP Q (.panic c) a w:=h.elim
def GS(ops:υ Oper)(f:υ ζ):Prop:=∀(j:E) (s:Oper),ops[j]?=Z s->f.getD j T=D->∀e∈s.after,Region.binds .any e=D->f.getD e.on T=D
variable{f:υ ζ}
theorem GS.set{i:E}(h:GS ops f)(hi:i∈Region.ready .any ops f):GS ops<|f.setIfInBounds i D:=by
 obtain⟨_,oi,hoi,Qv⟩:=zRs.1 hi;intro j s l q e a b
 by_cases c:i=j
 ·grind[getD_set_true]
 ·rw[getD_set_ne T c]at q;exact getD_set_true<|h j s l q e a b
def F3(ops:υ Oper):E->E->E->ζ
 |0,_,_=>T
 |n+1,t,i=>match ops[t]? with
  |none=>T
  |some o=>o.after.any λe=>Region.binds .any e&&(e.on==i||F3 ops n e.on i)
theorem ZF(hc:GS ops f):∀(n t i:E) (o:Oper),ops[t]?=Z o->(∀e∈o.after,Region.binds .any e=D->f.getD e.on T=D)->F3 ops n t i=D->f.getD i T=D
 |0,_,_,_,_,_,h=>by simp[F3]at h
 |n+1,t,i,o,K,a,h=>by
  simp only[F3,K]at h;obtain⟨e,c,b⟩:=Array.any_eq_true'.1 h;simp only[zAx,zKu,zKq]at b;obtain⟨b,h1|h1⟩:=b
  ·rw[←h1];exact a e c b
  ·cases l:ops[e.on]? with
   |none=>cases n <;> simp[F3,l]at h1
   |some g=>exact ZF hc n e.on i g l (hc e.on g l<|a e c b) h1
def CV(ops:υ Oper):Θ->O Oper
 |[]=>[]
 |i::l=>match ops[i]? with|some o=>o::CV ops l|none=>CV ops l
def VJ(ops:υ Oper)(b:E->ζ):Θ->υ ζ->ζ
 |[],_=>D
 |i::l,f=>(Region.ready .any ops f).contains i&&Region.free .any ops f i&&(match ops[i]? with|some o=>TI o.op|none=>T)&&
  ((θ ops.size).all λj=>!b j||F3 ops ops.size j i)&&VJ ops b l (f.setIfInBounds i D)
def L6(l:Θ)(f:υ ζ):υ ζ:=l.foldl (λs i=>s.setIfInBounds i D) f
def SE(ops:υ Oper):Θ->υ ζ->ζ
 |[],f=>(Region.ready .any ops f).isEmpty
 |t::i,f=>Region.ready .any ops f== [t]&&SE ops i (f.setIfInBounds t D)
def VK(ops:υ Oper)(c:E->ζ):O (Θ×E)->Θ->Θ->υ ζ->ζ
 |[],a,b,f=>VJ ops c a f&&((θ ops.size).all λj=>c j||(L6 a f).getD j D)&&SE ops b (L6 a f)
 |(e,i)::R,a,b,f=>VJ ops c e f&&(Region.ready .any ops (L6 e f)== [i])&&VK ops c R a b ((L6 e f).setIfInBounds i D)
def T4:O (Θ×E)->Θ->E
 |[],i=>F i
 |(f,_)::R,i=>F f+(1+T4 R i)
def jH(ops:υ Oper)(e:O<|Θ×E)(i b:Θ):ζ:=Region.noSelect ops&&T4 e i+F b==ops.size&&VK ops (λj=>b.contains j) e i b (Array.replicate ops.size T)
def iO{Ϙ:κ->Prop}:∀(l:O Oper) (a:Act) (K Y:Act->Prop),(∀a,K a->Y a)->wpQuiet P ops Ϙ K l a->wpQuiet P ops Ϙ Y l a
 |[],a,K,Y,f,h=>f a h
 |o::l,a,K,Y,f,h=>by
  unfold wpQuiet at*
  by_cases v:Region.wanted o (yielded ops a.tmps)=D
  ·rw[zAF v]at h⊢;exact Oper.quiet_mono (λa h=>iO l a K Y f h) h
  ·rw[zJz v]at h⊢;exact iO l _ K Y f h
end
end
abbrev zAy:=@Array.getElem?_eq_some_iff
abbrev zKx:=@Nat.zero_add
abbrev zK8:=@Nat.lt_or_ge
abbrev zMt:=@if_true
abbrev zMv:=@List.mem_singleton
abbrev zND:=@Go.Oper.semAt_eq
abbrev zNM:=@Array.getElem?_eq_getElem
abbrev zRJ:=@List.length_nil
abbrev zRO:=@Array.mem_of_getElem?
abbrev zRS:=@Go.wpOpIn_mono
def CY(ops:υ Oper):ζ:=ops.all λo=>match o.op with
 | .defer _=>T
 |_=>D
theorem JD{ops:υ Oper}(h:CY ops=D){j:E}{o:Oper}(l:ops[j]?=Z o):∀c,o.op≠.defer c:=by
 intro c hc;have P:o∈ops:=zRO l;have:=Array.all_eq_true'.1 h o P;rw[hc]at this;cases this
section
variable{ϖ:Fence}{n:E}{P:ν}{ops:υ Oper}{Q:Exit->Act->κ->Prop}
variable{w:κ}{K:Act->κ->Prop}{a:Act}{v:μ}{i:E}{S:κ->Prop}
theorem Yx{o:Oper}(hF:∀f,ϖ.fn f)(hd:∀c,o.op≠.defer c)(hi:ops[i]?=Z o)(hy:YieldsIf P ops S o v a)
   (hS:S w) (h:K (a.put o.dst v) w):wpOpIn ϖ n P ops Q i K a w:=by
 unfold Go.wpOpIn;simp only[hi];rcases hy with⟨b,hv⟩|⟨b,rfl⟩
 ·simp_all[Oper.wpIn,zND,Oper.uponIn]
 grind
variable{q:Oper}
theorem pb{j:E}{s:Oper}(l:∀f,ϖ.fn f)(g:∀c,s.op≠.defer c)(o:ops[j]?=Z s)(p:q.apart ops s=D)
 (m:∀cs b,q.op≠.select cs b) (e:∀cs b,s.op≠.select cs b)
 (t:∀c a w,Q (.panic c) (a.put q.dst v) w->Q (.panic c) a w)   
 (hy:YieldsIf P ops S q v a) (h:wpOpIn ϖ n P ops Q j K (a.put q.dst v) w):
 wpOpIn ϖ n P ops Q j (λa' w'=>YieldsIf P ops S q v a'/\K (a'.put q.dst v) w') a w:=by
 obtain⟨i,h2,k⟩:=Oper.apart_spec p
 have OQ:∀(a:Act),YieldsIf P ops S q v a->∀ϛ,YieldsIf P ops S q v<|a.put s.dst ϛ:=λa hy ϛ=>
  hy.of_same (execOp_put q m a s.dst ϛ k) (wanted_put q a s.dst ϛ k)
 have keepD:∀Ϛ,YieldsIf P ops S q v { a with defers:=Ϛ::a.defers }:=λϚ=>hy.of_same rfl rfl
 unfold wpOpIn at*;simp only[o]at*;rw[wanted_put s a q.dst v i]at h;split
 ·rename_i y;simp only[y,zMt]at h;unfold Oper.wpIn at*;refine⟨λf _=>l f,?_⟩;have h:=h.2;rw[zND _ _ _ g,execOp_put s e a q.dst v i]at h;rw[zND _ _ _ g]
  generalize (ω a.eval s).run P w=r at*
  cases r with
  |ok x w'=>
   cases x <;> simp only[Oper.uponIn]at h⊢
   case value ϛ=>grind[Act.put_comm]
   case skip=>grind[Act.put_comm]
   case defer Ϛ=>
    grind[Act.put_comm,Act.put_defers]
   case enter f args=>
    grind[CallsIn.mono,Act.put_comm]
   case row row args=>grind[Act.put_comm]
   grind[RoundIn.mono,Act.put_comm]
  |halt x w'=>
   cases x <;> simp only[Oper.uponIn]at h⊢
   case panic ϛ=>exact t _ _ _ h
 grind[Act.put_comm]
theorem zA2(h:wpOpIn ϖ n P ops (NP Q) i K a w):wpOpIn ϖ n P ops Q i K a w:=by
 unfold wpOpIn at*;split
 ·grind
 ·rename_i o g;simp only[g]at h;have q:LetsOut (NP Q)->LetsOut Q:=λ⟨a,w,h⟩=>⟨a,w,h⟩
  by_cases f:Region.wanted o (yielded ops a.tmps)=D
  ·rw[zAF f]at h⊢;unfold Oper.wpIn at*;refine⟨h.1,?_⟩;have h:=h.2
   generalize (o.semAt ϖ.round a.eval).run P w=r at*
   cases r with
   |ok x w'=>
    cases x <;> simp only[Oper.uponIn]at h⊢ <;> first|exact h|skip
    ·refine⟨h.1,CallsIn.mono h.2 λe j b=>?_⟩;cases e with
     |returned v=>exact b
     |panicked c=>exact b.elim
     |outgrown=>exact q b
    ·refine⟨h.1,RoundIn.mono h.2 λe j b=>?_⟩;cases e with
     |returned v=>exact b
     |panicked c=>exact b.elim
     |outgrown=>exact q b
   |halt x w'=>cases x <;> simp only[Oper.uponIn]at h⊢;exact h.elim
  ·rw[zJz f]at h⊢;exact h
def Kb(ϖ:Fence)(n:E)(P:ν)(ops:υ Oper)(Q:Exit->Act->κ->Prop)(b:E->ζ)(g:E)(S:κ->Prop):E->υ ζ->Act->κ->Prop
 |0,f,a,w=>(∀j,j<ops.size->b j=T->f.getD j D=D)/\wpAnyIn ϖ n P .any ops Q g f a w
 |m+1,f,a,w=>Region.ready .any ops f≠[]/\∀i∈Region.ready .any ops f,wpOpIn ϖ n P ops (NP Q) i (λa' w'=>S w'/\Kb ϖ n P ops Q b g S m (f.setIfInBounds i D) a' w') a w
variable{g:E}{b:E->ζ}
def iR{S':κ->Prop}(e:∀w,S' w->S w):∀(m:E) (f:υ ζ) (a:Act) (w:κ),
 Kb ϖ n P ops Q b g S' m f a w->Kb ϖ n P ops Q b g S m f a w
 |0,_,_,_,h=>h
 |m+1,_,_,_,h=>⟨h.1,λi hi=>zRS (λ_ _ h'=>⟨e _ h'.1,iR e m _ _ _ h'.2⟩)<|h.2 i hi⟩
def ph :∀(m:E) (f:υ ζ) (a:Act) (w:κ),Kb ϖ n P ops Q b g S m f a w->wpAnyIn ϖ n P .any ops Q (m+g) f a w
 |0,_,_,_,h=>by rw[zKx];exact h.2
 |m+1,_,_,_,h=>by
  rw[show m+1+g=(m+g)+1 by omega];exact⟨λh0=>τ h0 h.1,λi hi=>zRS (λa' w' h'=>ph m _ a' w' h'.2)<|zA2<|h.2 i hi⟩
theorem pg(R:∀f,ϖ.fn f)(V:CY ops=D){x:E->ζ}{k:E}(hi:ops[i]?=Z q)(J:∀(j:E) (o:Oper) cs b,ops[j]?=Z o->o.op≠.select cs b)
 (hT:∀j,j<ops.size->x j=D->F3 ops k j i=D):
 ∀(m:E) (l:υ ζ) (a:Act) (w:κ),GS ops l->
  (∀j s,ops[j]?=Z s->j≠i->l.getD j D=T->(∀e∈s.after,Region.binds .any e=D->e.on≠i)->q.apart ops s=D)->
  i∈Region.ready .any ops l->YieldsIf P ops S q v a->S w->
  Kb ϖ n P ops Q x g S m (l.setIfInBounds i D) (a.put q.dst v) w->Kb ϖ n P ops Q x g S (m+1) l a w:=by
 intro m
 induction m with
 |zero=>
  intro l a w K _ p hy W ϗ;have X:=(zRs.1 p).1;refine⟨λh=>(by rw[h]at p;cases p),λj t=>?_⟩
  by_cases y:j=i
  ·grind[Yx,JD]
  ·exfalso
   obtain⟨z,s,r,Y⟩:=zRs.1 t;have XO:=(zAy.1 r).1;cases ht:x j with
   |true=>
    grind[ZF]
   |false=>
    have:=ϗ.1 j XO ht
    simp_all[Ne.symm]
 |succ m ih=>
  intro l a w K N p hy W ϗ;have X:=(zRs.1 p).1;refine⟨λh=>(by rw[h]at p;cases p),λj t=>?_⟩
  by_cases y:j=i
  ·grind[Yx,JD]
  ·have h1:=ϗ.2 j<|ready_mono t y;obtain⟨z,s,r,Y⟩:=zRs.1 t
   have mX:∀e∈s.after,Region.binds .any e=D->e.on≠i:=λe he hb heq=>by
    grind
   have h2:=pb R (JD V r) r (N j s r y z mX) (λcs b=>J i q cs b hi) (λcs b=>J j s cs b r) (λc a w h=>NP.put c a _ _ w h) hy h1
   have G:∀k ok,ops[k]?=Z ok->k≠i->(l.setIfInBounds j D).getD k D=T->
    (∀e∈ok.after,Region.binds .any e=D->e.on≠i)->q.apart ops ok=D:=λk ok hk XM Im Mg=>by
    refine N k ok hk XM ?_ Mg
    by_cases ml:j=k
    ·subst ml;exact z
    simp_all
   refine zRS (λa' w' I=>⟨I.2.1,ih (l.setIfInBounds j D) a' w' (K.set t) G (ready_mono p<|Ne.symm y) I.1 I.2.1 ?_⟩) h2
   grind[Array.setIfInBounds_comm]
def SD(ϖ:Fence)(n:E)(P:ν)(ops:υ Oper)(Q:Exit->Act->κ->Prop):Θ->Act->κ->Prop
 |[],a,w=>Q .normal a w
 |t::i,a,w=>wpOpIn ϖ n P ops Q t (SD ϖ n P ops Q i) a w
def bw(f:Θ)(b w:κ):κ:=match f with
 |[]=>b
 |_=>w
def Qp(ϖ:Fence)(n:E)(P:ν)(ops:υ Oper)(Q:Exit->Act->κ->Prop):κ->O (Θ×E)->Θ->Θ->Act->κ->Prop
 |_,[],e,c,a,w=>wpQuiet P ops (λw'=>∃x:Ys w,w'=x.W) (λa'=>SD ϖ n P ops Q c a' w) (CV ops e) a
 |b,(f,i)::R,e,c,a,w=>wpQuiet P ops (λw'=>∃x:Ys w,w'=x.W) (λa'=>wpOpIn ϖ n P ops (NP Q) i (λs q=>A0 (bw f b w) q/\Qp ϖ n P ops Q (bw f b w) R e c s q) a' w) (CV ops f) a
def ik:∀(b:Θ) (c:υ ζ) (a:Act) (w:κ),SE ops b c=D->SD ϖ n P ops Q b a w->wpAnyIn ϖ n P .any ops Q (F b) c a w
 |[],c,a,w,f,h=>⟨by simpa[SE]using f,h⟩
 |t::e,c,a,w,f,h=>by
  simp only[SE,zAx,zKq]at f;refine⟨λh0=>(by rw[f.1]at h0;cases h0),λi hi=>?_⟩;rw[f.1,zMv]at hi;subst hi;exact zRS (λa' w' h'=>ik e _ a' w' f.2 h') h
theorem Zv(c:∀f,ϖ.fn f)(e:CY ops=D){k:E->ζ}(p:Region.noSelect ops=D){next:Act->Prop}{m:E}:
 ∀(l:Θ) (b:υ ζ) (a:Act),GS ops b->VJ ops k l b=D->wpQuiet P ops (Up w) next (CV ops l) a->
  (∀a',GS ops (L6 l b)->next a'->Kb ϖ n P ops Q k g (A0 w) m (L6 l b) a' w)->Kb ϖ n P ops Q k g (A0 w) (F l+m) b a w
 |[],b,a,x,_,h,q=>by
  simp only[zRJ,zKx];exact q a x h
 |i::l,b,a,x,t,h,q=>by
  simp only[VJ,zAx]at t;obtain⟨⟨⟨⟨G,y⟩,r⟩,hT⟩,z⟩:=t;have W:i∈Region.ready .any ops b:=by simpa using G
  have N:∀j,j<ops.size->k j=D->F3 ops ops.size j i=D:=λj hj ht=>by
   grind
  have I:F (i::l)+m=(F l+m)+1:=Z7
  rw[I];cases hi:ops[i]? with
  |none=>rw[hi]at r;simp at r
  |some o=>
   rw[hi]at r;simp only[CV,hi]at h;unfold wpQuiet at h
   by_cases s:Region.wanted o (yielded ops a.tmps)=D
   ·rw[zAF s]at h;obtain⟨v,J,K⟩:=h;exact pg c e hi (Region.noSelect_spec p) N _ b a w x (Region.free_spec hi y) W (zAw r s J) (A0.refl _)<|Zv c e p l _ _ (x.set W) z K q
   ·rw[zJz s]at h;exact pg c e hi (Region.noSelect_spec p) N _ b a w x (Region.free_spec hi y) W (.inr ⟨by simpa using s,rfl⟩) (A0.refl _)<|Zv c e p l _ _ (x.set W) z h q
theorem xg(r:∀f,ϖ.fn f)(s:CY ops=D){t:E->ζ}(v:Region.noSelect ops=D):
 ∀(y:O<|Θ×E) (e c:Θ) (g:υ ζ) (a:Act) (b w:κ),A0 b w->GS ops g->VK ops t y e c g=D->Qp ϖ n P ops Q b y e c a w->
  Kb ϖ n P ops Q t (F c) (A0 b) (T4 y e) g a w
 |[],e,c,g,a,b,w,o,x,l,h=>by
  simp only[VK,zAx]at l;obtain⟨⟨z,G⟩,J⟩:=l
  have:=Zv (m:=0) r s v e g a x z h λa' _ I=>⟨λj p ht=>by
   grind,ik c _ a' w J I⟩
  refine iR (λW K=>o.trans K) _ _ _ _ ?_;simpa[T4]using this
 |(N,i)::R,e,c,g,a,b,w,o,x,l,h=>by
  simp only[VK,zAx,zKq]at l;obtain⟨⟨z,G⟩,J⟩:=l
  have one:∀(a':Act) (k:κ),A0 k w->GS ops (L6 N g)->wpOpIn ϖ n P ops (NP Q) i (λS q=>A0 k q/\Qp ϖ n P ops Q k R e c S q) a' w->
   Kb ϖ n P ops Q t (F c) (A0 k) (T4 R e+1) (L6 N g) a' w:=λa' k En V I=>by
   refine⟨λh0=>(by rw[G]at h0;cases h0),λj p=>?_⟩;have X:=p;rw[G,zMv]at p;subst p;refine zRS (λS q h'=>⟨h'.1,?_⟩) I;exact xg r s v R e c _ S k q h'.1 (V.set X) J h'.2
  cases N with
  |nil=>
   have:=one a b o x h;simpa[T4,Nat.add_comm,L6]using this
  |cons Y ss=>
   refine iR (λW K=>o.trans K) _ _ _ _ ?_;refine Zv r s v (Y::ss) g a x z h λa' V I=>?_
   rw[Nat.add_comm 1];exact one a' w (A0.refl w) V I
def pc{id:E}(l:∀f,ϖ.fn f)(e:O<|Θ×E)(i b:Θ)(c:P.follows .mixedOrders=D)(k:(jH ops e i b&&CY ops)=D)
 (h:Qp ϖ n P ops Q w.drew e i b a w.drew):(Code.region id ops D).wpIn ϖ n P Q a w:=by
 simp only[jH,zAx,zKq]at k;obtain⟨⟨⟨g,m⟩,o⟩,W⟩:=k
 have x:GS ops<|Array.replicate ops.size T:=λj oj _ q=>by
  exfalso
  rcases zK8 j ops.size with h|h
  ·simp[h]at q
  ·simp[h]at q
 have:=ph _ _ _ _<|xg l W g e i b _ a w.drew w.drew (A0.refl _) x o h;rw[m]at this;exact wpIn_region_any c this
theorem il:∀(b:Θ) (a:Act) (w:κ),(∀t∈b,t<ops.size)->wpListIn ϖ n P ops Q (CV ops b) a w->SD ϖ n P ops Q b a w
 |[],_,_,_,h=>h
 |t::i,a,w,q,h=>by
  have o:ops[t]?=Z (ops[t]'(q t Z3)):=zNM _;simp only[CV,o]at h;unfold SD wpOpIn;simp only[o];unfold wpListIn at h;have c:∀a w,wpListIn ϖ n P ops Q (CV ops i) a w->SD ϖ n P ops Q i a w:=λa w h=>il i a w (λt o=>q t<|by simp[o]) h
  by_cases v:Region.wanted (ops[t]'(q t Z3)) (yielded ops a.tmps)=D
  ·rw[zAF v]at h⊢;exact Oper.wpIn_mono c h
  grind
theorem zNC{i c:Θ}{b:κ}(ht:(c.all λt=>decide (t<ops.size))=D)
 (h:wpQuiet P ops (λw'=>∃x:Ys w,w'=x.W) (λa'=>wpListIn ϖ n P ops Q (CV ops c) a' w) (CV ops i) a):
 Qp ϖ n P ops Q b [] i c a w:=by
 refine iO _ _ _ _ (λa' h=>?_) h
 grind[il]
end
abbrev zIX:=@Nat.le_trans
abbrev zI0:=@Nat.lt_of_lt_of_le
abbrev zLK:=@Go.World.putObj_heap_other
abbrev zLU:=@List.mem_of_getElem?
abbrev zLa:=@List.mem_cons
abbrev zMy:=@Go.StepsIn.trans
abbrev zNQ:=@Go.wpIn_mono
abbrev zRT:=@Go.fenced_calm
abbrev zRt:=@Go.RowKit.Below.block
abbrev zSO:=@Go.callsIn_wide
section
structure AV(S:Ψ)(w w':κ):Prop where
 os:w'.os=w.os
 tape:w'.tape=w.tape
 output:w'.output=w.output
 size:w.heap.size<=w'.heap.size
 block:∀k,k<w.heap.size->¬S k->w'.heap[k]?=w.heap[k]?
theorem AV.refl(S:Ψ)(w:κ):AV S w w:=⟨rfl,rfl,rfl,zI1 _,λ_ _ _=>rfl⟩
variable{a b c:κ}{S S':Ψ}
def AV.comp(h:AV S a b)(k:AV S' b c)(p:∀i,i<a.heap.size->S' i->S i):AV S a c:=
 ⟨k.os.trans h.os,k.tape.trans h.tape,k.output.trans h.output,zIX h.size k.size,
  λi hi n=>(k.block i (zI0 hi h.size) λe=>n<|p i hi e).trans<|h.block i hi n⟩
def AV.trans(h:AV S a b)(k:AV S b c):AV S a c:=h.comp k λ_ _ h=>h
theorem AV.mono(h:AV S a b)(p:∀i,i<a.heap.size->S i->S' i):AV S' a b:=
 ⟨h.os,h.tape,h.output,h.size,λi hi n=>h.block i hi λc=>n<|p i hi c⟩
def AV.ofExt(h:A0 a b):AV S a b:=⟨Below.os h,Below.tape h,Below.output h,Below.size h,λi hi _=>zRt h i hi⟩
def AV.toExt(h:AV S a b)(p:∀i,i<a.heap.size->¬S i):A0 a b:=⟨h.os,h.tape,h.output,h.size,λi hi=>h.block i hi<|p i hi⟩
def AV.alloc(h:AV S a b)(o:Obj):AV S a<|b.alloc o:=h.trans<|AV.ofExt<|A0.alloc b o
variable{p:Addr}
theorem AV.setCell(h:AV S a b)(w:p.block<a.heap.size->S p.block)(ϛ:μ):AV S a<|b.setCell p ϛ:=by
 refine h.comp (S':=λk=>k=p.block) ⟨rfl,rfl,rfl,?_,λk _ hk=>?_⟩ (λi hi e=>by cases e;exact w hi)
 ·simp_all
 grind[Below.heap_setCell]
def AV.putObj(h:AV S a b){l:E}(q:l<a.heap.size->S l)(o:Obj):AV S a<|b.putObj l o:=by
 refine h.comp (S':=λk=>k=l) ⟨rfl,rfl,rfl,Z3,λk _ f=>zLK f⟩ (λi hi e=>by cases e;exact q hi)
theorem AV.cell(h:AV S a b){ϛ:μ}(c:¬S p.block)(hc:a.cell? p=Z ϛ):b.cell? p=Z ϛ:=by
 rw[World.cell?_of_block<|h.block p.block (zLJ a p hc) c];exact hc
def DJ(I:Ψ->Ψ->κ->Prop):Prop:=∀(G R w R':Ψ) (ο Ϝ:κ),I G R ο->AV G ο Ϝ->(∀k,w k->G k∨ο.heap.size<=k)->(∀k,R' k->R k∨G k∨ο.heap.size<=k)->(∀k,G k∨R k->w k∨R' k)->(∀k,w k->¬R' k)->(∀k,w k∨R' k->k<Ϝ.heap.size)->I w R' Ϝ
structure EH(G R:Ψ)(W:κ):Prop where
 dis:∀k,G k->¬R k
 lt:∀k,G k∨R k->k<W.heap.size
variable{ο:κ}{G R:Ψ}
def EH.upd{Ϝ:κ}(h:EH G R ο)(x:AV S ο Ϝ):EH G R Ϝ:=⟨h.dis,λk f=>zI0 (h.lt k f) x.size⟩
def DJ.same{I:Ψ->Ψ->κ->Prop}(h:DJ I){Ϝ:κ}(p:EH G R ο)(hi:I G R ο)(x:AV G ο Ϝ):I G R Ϝ:=
 h G R G R ο Ϝ hi x (λ_ h=>.inl h) (λ_ h=>.inl h) (λ_ h=>h) p.dis (p.upd x).lt
def Ef(Ϝ:E):O Deferred->κ->Prop
 |[],_=>True
 |Ϛ::ds,w=>∃ϒ,Ϛ= { target:=.collected ϒ,args:=#[] }/\Ϝ<=ϒ/\w.heap[ϒ]?=Z (.deferred<|Z [])/\(∀d'∈ds,d'.target≠.collected ϒ)/\Ef Ϝ ds w
variable{w:κ}{Ϝ:E}
def Ef.upd{w':κ}(x:AV S w w'):∀{ds:O Deferred},Ef Ϝ ds w->(∀k,Ϝ<=k->S k->w.heap[k]? ≠Z (.deferred<|Z []))->Ef Ϝ ds w'
 |[],_,_=>trivial
 |_::_,⟨ϒ,a,c,m,W,K⟩,p=>⟨ϒ,a,c,(x.block ϒ (zAy.1 m).1 λi=>p ϒ c i m).trans m,W,Ef.upd x K p⟩
theorem Ef.lt :∀{ds:O Deferred} (_:Ef Ϝ ds w) {Ϛ:Deferred} {ϒ:E},Ϛ∈ds->Ϛ.target=.collected ϒ->ϒ<w.heap.size
 |_::_,⟨ϒ,h1,h2,h3,h4,K⟩,Ϛ,D',hm,o=>by
  rcases zLa.1 hm with rfl|hm
  ·grind
  ·exact Ef.lt K hm o
def KY(Ϝ:E)(w W:κ):Prop:=AV (λk=>Ϝ<=k/\w.heap[k]?=Z (.deferred<|Z [])) w W
variable{tmps:υ μ}{fn:Func}{P:ν}
theorem lR{ϖ:Fence}{n:E}{R:Ending->κ->Prop}{ϛ:FrameMode}(x:ϛ≠.run):∀(ds:O Deferred) (w:κ),Ef Ϝ ds w->
 (∀W,KY Ϝ w W->LeavesIn ϖ n P fn tmps R [] ϛ W)->LeavesInM ϖ n P fn tmps R ds ϛ w
 |[],w,_,h=>h w<|AV.refl _ w
 |_::ds,w,⟨ϒ,a,c,m,b,K⟩,h=>by
  refine⟨x,.inl ⟨ϒ,_,by rw[a],run_takeDeferred m,?_⟩⟩;have l:AV (λk=>k=ϒ) w<|w.putObj ϒ<|.deferred A:=(AV.refl (λk=>k=ϒ) w).putObj (λ_=>rfl) _
  have Q:∀{ds:O Deferred},(∀d'∈ds,d'.target≠.collected ϒ)->Ef Ϝ ds w->Ef Ϝ ds (w.putObj ϒ<|.deferred A):=by
   intro ds
   induction ds with
   |nil=>intro _ _;trivial
   |cons Ϛ ds ih=>
    intro hd ⟨D',g1,g2,g3,g4,g5⟩
    simp_all[zLK,Ef]
  refine lR x ds _ (Q b K) λW f=>h W ?_
  refine l.mono (S':=λk=>Ϝ<=k/\w.heap[k]?=Z (.deferred<|Z [])) (λi _ e=>by cases e;exact⟨c,m⟩)|>.comp f λi hi g=>⟨g.1,?_⟩
  grind[World.putObj_heap_other]
def zJj{R:Ending->κ->Prop}(ds:O Deferred)(w:κ)(a:Ef Ϝ ds w)
 (h:∀W,KY Ϝ w W->∃v,(results fn tmps).run P W=.ok v W/\R (.returned v) W):LeavesInM η 0 P fn tmps R ds .returning w:=
 lR Z3 ds w a h
def iQ(ϖ:Fence)(n:E)(P:ν)(fn:FuncId)(c:Code)(Q:Exit->Act->κ->Prop)(a:Act)(w:κ):Prop:=∀(b:Frame) (k:O Item) (cs:O Frame),b.roundOf=ϖ.round->ϖ.fn b.fn->ϖ.room (F cs+1+n)->b.fn=fn->∃e a' w',Q e a' w'/\ArrivesIn (Machine.fenced P ϖ) P (lone (b.atR a<|.code c::k) cs w) b k cs e a' w'
section
variable{ϖ:Fence}{n:E}{P:ν}{fi:FuncId}{c:Code}{Q:Exit->Act->κ->Prop}{a:Act}{w:κ}
def zA5(h:∀fi,iQ ϖ n P fi c Q a w):c.wpIn ϖ n P Q a w:=λb k cs e f m=>h b.fn b k cs e f m rfl
variable{assign body:Code}
theorem zA7{g:Operand}{ps:υ Tmp}
 (h:ϖ.fn fi->∃(l:E) (mark:O Deferred) (z:κ) (Ϛ:Deferred) (i:κ) (f:FuncId) (args:υ μ) (I:κ),
  (Instr.enterLoop fi a.tmps ps assign body ϖ.round).run P w=.ok (l,mark) z/\
  (resolve a.eval (rangeCall g l) 0).run P z=.ok Ϛ i/\
  (∀s,Target.leads P i Ϛ.target Ϛ.args=Z s->ϖ.fn s)/\
  (invoke Ϛ.target Ϛ.args).run P i=.ok (.enter f args) I/\
  (ϖ.depth.isSome=D->1<=n)/\
  CallsIn ϖ (n-1) P f args I (rangePost ϖ n P l Q { a with defers:=mark++a.defers })):
 iQ ϖ n P fi (.rangeFunc g ps assign body) Q a w:=by
 intro b k cs x j m J;obtain⟨l,mark,z,Ϛ,i,f,args,I,K,Ts,hlead,hinv,hn,N,y⟩:=h<|J▸j;rw[←x,←J]at K
 have h0:(lone (b.atR a<|.code (.rangeFunc g ps assign body)::k) cs w).fenced P ϖ:=by
  grind[fenced_lone,Fence.room_le,Frame.eval_atR,Frame.atR,Frame.about]
 have o:=stepR_rangeFunc (P:=P) (b:=b) (a:=a) (k:=k) (cs:=cs) (w:=w) K Ts hinv;have q:ϖ.room<|F (b.atR { a with defers:=mark++a.defers } (.inRangeFunc l::k)::cs)+1+(n-1):=Fence.room_enter m hn;obtain⟨e,t,fr,hR,G,R,S⟩:=y (b.atR { a with defers:=mark++a.defers } (.inRangeFunc l::k)::cs) q;cases e with
 |outgrown=>
  obtain⟨a₀,w₀,p⟩:=hR;exact⟨.outgrown,a₀,w₀,p,.inr<|Outgrown.of_steps (.one o) G⟩
 |returned v=>
  have r:(lone fr (b.atR { a with defers:=mark++a.defers } (.inRangeFunc l::k)::cs) t).fenced P ϖ:=fenced_leaving (R▸N) q S;obtain⟨V,W,Ml,X⟩:=hR
  have Y:StepsIn (Machine.fenced P ϖ) P (lone (b.atR a<|.code (.rangeFunc g ps assign body)::k) cs w)<|lone (b.atR { a with defers:=mark++a.defers } ((V.map Item.code).toList++k)) cs W:=by
   refine .head h0 o<|zMy G<|.head r ?_<|.one (zRT (fr:=b.atR { a with defers:=mark++a.defers } (.endRangeFunc l::k)) j m rfl)<|stepR_endRangeFunc Ml;rw[←finish_atR_inRangeFunc l v];grind[step_leave_returned]
  cases V with
  |none=>exact⟨.normal,_,W,X,Y⟩
  |some c=>
   obtain⟨e',Gp,w₅,p,IF⟩:=X b k cs x j m;exact⟨e',Gp,w₅,p,.of_steps Y IF⟩
 |panicked O7=>
  have r:(lone fr (b.atR { a with defers:=mark++a.defers } (.inRangeFunc l::k)::cs) t).fenced P ϖ:=fenced_leaving (R▸N) q S;refine⟨.panic O7,_,t,hR,.inRangeFunc l::k,.head h0 o<|zMy G<|.one r ?_⟩;rw[←Frame.raise_atR];grind[step_leave_panicked]
def zFQ(ϖ:Fence)(n:E)(P:ν)(l:E)(f:FuncId)(R:Ending->κ->Prop):Exit->Act->κ->Prop
 | .panic s,a,w=>∃fn,P.funcs[f]?=Z fn/\LeavesInM (ϖ.inRound l) n P fn a.tmps (λe w'=>e=.panicked s/\R e w') a.defers (.panicking s) w
 |e,a,w=>roundPost P l R e a w
def zFR{l:E}{f:FuncId}{tmps:υ μ}{R:Ending->κ->Prop}(Q:ϖ.fn f)
 (h:assign.wpIn (ϖ.inRound l) n P (Exit.then (λG z=>∃k,(Instr.beginRound l).run P z=.ok () k/\body.wpIn (ϖ.inRound l) n P (zFQ ϖ n P l f R) G k) λ_ _ _=>False)
  { tmps:=tmps,defers:=[] } w):
 RoundIn ϖ n P l f tmps assign body w R:=by
 refine⟨Q,λc cs V=>?_⟩
 let b:Frame:={ (ξ:Frame)with fn:=f,kind:=.normal,roundOf:=Z l }
 have W:(ϖ.inRound l).room<|F (c::cs)+1+n:=V;have K:(ϖ.inRound l).fn b.fn:=Q;obtain⟨e,G,z,I,j⟩:=h b [.beginRound,.code body] (c::cs) rfl K W;cases e with
 |normal=>
  obtain⟨k,s,X⟩:=I
  have g:StepsIn (Machine.fenced P<|ϖ.inRound l) P (lone (b.atR G [.beginRound,.code body]) (c::cs) z)<|lone (b.atR G [.code body]) (c::cs) k:=
   .one (zRT (fr:=b.atR G [.beginRound,.code body]) K W rfl) (stepR_beginRound rfl s)
  obtain⟨Y,x,w₃,a,q⟩:=X b [] (c::cs) rfl K W;cases Y with
  |normal=>
   obtain⟨v,r,m,hR⟩:=a;exact⟨.returned v,r,hR,(zMy j g).trans<|zMy q<|.one (zRT (fr:=b.atR x []) K W rfl)<|stepR_round_end rfl rfl m⟩
  |ret=>
   obtain⟨v,r,m,hR⟩:=a;obtain⟨i,p⟩:=q.2 rfl;exact⟨.returned v,r,hR,(zMy j g).trans<|zMy p<|.one (zRT (fr:=b.atR x<|.code .ret::i) K W rfl)<|stepR_round_ret rfl rfl m⟩
  |exit id=>
   obtain⟨v,r,m,hR⟩:=a;obtain⟨i,y,p⟩:=q.2 rfl rfl;exact⟨.returned v,r,hR,(zMy j g).trans<|zMy p<|.one (zRT (fr:=b.atR x<|.code (.exit id)::i) K W rfl)<|stepR_round_exit rfl rfl y m⟩
  |goto t=>
   obtain⟨v,r,m,hR⟩:=a;obtain⟨i,y,p⟩:=q.2 rfl rfl;exact⟨.returned v,r,hR,(zMy j g).trans<|zMy p<|.one (zRT (fr:=b.atR x<|.code (.goto t)::i) K W rfl)<|stepR_round_goto rfl rfl y m⟩
  |panic o=>
   obtain⟨fn,hf,a⟩:=a;obtain⟨J,N⟩:=q;obtain⟨e',Cx,Hj,⟨rfl,hR⟩,p,JR,S⟩:=leaves_stepsInM x.defers (.panicking o) w₃ { b.atR x J with mode:=.panicking o } (c::cs) rfl rfl rfl hf rfl K W a;exact⟨.panicked o,Cx,hR,(zMy j g).trans<|(zMy N p).trans<|.one (fenced_leaving (n:=n) (by rw[JR];exact K) W S)<|step_leave_panicked S⟩
  |outgrown=>exact a.elim
 |exit id=>exact I.elim
 |goto t=>exact I.elim
 |ret=>exact I.elim
 |panic o=>exact I.elim
 |outgrown=>exact I.elim
end
def zFP(Keep:Ψ)(I:κ->Prop)(N:Code->κ->Prop)(l:O PanicEntry->κ->Prop)(W:κ):Exit->Act->κ->Prop
 | .normal,_,g=>AV (λk=>¬Keep k) W g/\I g
 | .ret,_,g=>AV (λk=>¬Keep k) W g/\N .ret g
 | .exit id,_,g=>AV (λk=>¬Keep k) W g/\N (.exit id) g
 | .goto t,_,g=>AV (λk=>¬Keep k) W g/\N (.goto t) g
 | .panic c,a,g=>∃Ϝ,Ef Ϝ a.defers g/\∀j,KY Ϝ g j->AV (λk=>¬Keep k) W j/\l c j
 | .outgrown,_,_=>False
def iH(c:Prop)(P:ν)(g:E)(lb:υ μ){X:Type}(ι:X->Ψ->κ->υ μ->Prop)(encs:O X)(GQ:Ending->Ψ->Ψ->κ->Prop)(G0 Rd:Ψ)(w:κ):Prop:=∀(l:E) (J:E->Ψ->Ψ->κ->Prop) (Jx:Ψ->Ψ->κ->Prop) (W:κ), (∀i,DJ<|J i)->DJ Jx->AV (λk=>¬(G0 k∨Rd k)) w W->(∀i x args G R b,encs[i]?=Z x->ι x R b args->J i G R b->EH G R b->YieldAt η 0 P l args b λe a=>AV (λk=>¬(G k∨R k)) b a/\((e=.returned (.bool D)/\J (i+1) G R a)∨(e=.returned (.bool T)/\Jx G R a)))->J 0 G0 Rd W->(c->∀G R W,¬Jx G R W)->CallsIn η 0 P g (#[.func (.yield l) #[] #[]]++lb) W λe a=>∃G R,EH G R a/\((J (F encs) G R a/\GQ e G R a)∨((∃v,e=.returned v)/\Jx G R a))
def Yu(h n:Prop)(P:ν)(g:E)(lb:υ μ){X:Type}(ι:X->Ψ->κ->υ μ->Prop)(encs:O X)(GQ:Ending->Ψ->Ψ->κ->Prop)(G0 Rd:Ψ)(w:κ):Prop:=∀(l:E) (J:E->Ψ->Ψ->κ->Prop) (Jx:Ψ->Ψ->κ->Prop) (f:O PanicEntry->Ψ->Ψ->κ->Prop) (W:κ), (∀i,DJ<|J i)->DJ Jx->(∀c,DJ<|f c)->AV (λk=>¬(G0 k∨Rd k)) w W->(∀i x args G R b,encs[i]?=Z x->ι x R b args->J i G R b->EH G R b->YieldAt η 0 P l args b λe a=>AV (λk=>¬(G k∨R k)) b a/\((e=.returned (.bool D)/\J (i+1) G R a)∨(e=.returned (.bool T)/\Jx G R a)∨∃c,e=.panicked c/\f c G R a))->J 0 G0 Rd W->(h->∀G R W,¬Jx G R W)->(n->∀c G R W,¬f c G R W)->CallsIn η 0 P g (#[.func (.yield l) #[] #[]]++lb) W λe a=>∃G R,EH G R a/\((J (F encs) G R a/\GQ e G R a)∨((∃v,e=.returned v)/\Jx G R a)∨∃c,e=.panicked c/\f c G R a)
theorem YieldAt.mono{P:ν}{l:E}{args:υ μ}{w:κ}{R R':Ending->κ->Prop}(h:YieldAt η 0 P l args w R)(hR:∀e w',R e w'->R' e w'):YieldAt η 0 P l args w R':=by
 obtain⟨fn,tmps,a,body,b,c⟩:=h;exact⟨fn,tmps,a,body,b,c.mono hR⟩
def iH.gen{f:Prop}{P:ν}{g:E}{lb:υ μ}{X:Type}{ι:X->Ψ->κ->υ μ->Prop}{encs:O X}{GQ:Ending->Ψ->Ψ->κ->Prop}{G0 Rd:Ψ}{w:κ}(h:iH f P g lb ι encs GQ G0 Rd w):Yu f True P g lb ι encs GQ G0 Rd w:=
 λl J Jx Jp W hJ j _ k hy h0 t m=>(h l J Jx W hJ j k (λi x args G R n o p r s=>YieldAt.mono (hy i x args G R n o p r s) λe v ⟨a,b⟩=>⟨a,b.imp id λq=>q.resolve_right λ⟨c,_,q⟩=>m trivial c _ _ _ q⟩) h0 t).mono λe v ⟨G,R,a,b⟩=>⟨G,R,a,b.imp id .inl⟩
abbrev PJ:=@iH False
section
variable{P:ν}{X:Type}{ι:X->Ψ->κ->υ μ->Prop}{GQ:Ending->Ψ->Ψ->κ->Prop}{encs:O X}{G0 Rd:Ψ}{ps:υ Tmp}{assign body:Code}{a:Act}{gf:E}{lb:υ μ}
def Yq(P:ν)(ι:X->Ψ->κ->υ μ->Prop)(encs:O X)(ps:υ Tmp)(assign body:Code)(a:Act)(l:E)(I:E->Ψ->Ψ->κ->Prop)(N:Code->Ψ->Ψ->κ->Prop)(f:O PanicEntry->Ψ->Ψ->κ->Prop):Prop:=∀(G R:Ψ) (i:E) (x:X) (args:υ μ) (W:κ),encs[i]?=Z x->ι x R W args->I i G R W->EH G R W->(∃r,W.heap[l]?=Z (.loop r))->G l->assign.wpIn (Fence.wide.inRound l) 0 P (Exit.then (λg e=>∃K:Ψ->Ψ->κ->Prop,DJ K/\AV (λk=>¬(G k∨R k)) W e/\K G R e/\∀b,K G R b->(∃r,b.heap[l]?=Z (.loop r))->body.wpIn (Fence.wide.inRound l) 0 P (zFP (λk=>G k∨R k) (I (i+1) G R) (λc=>N c G R) (λc=>f c G R) b) g b) λ_ _ _=>False) { tmps:=(ps.zip args).foldl (λt (p,v)=>t.setIfInBounds p v) a.tmps,defers:=[] } W
variable{nv:Prop}
theorem tQ{np:Prop}{w0 X:κ}{l ϒ dd:E}{fn:FuncId}{loose:ζ}(mK:np∨∃f,P.funcs[fn]?=Z f)
 (hseq:Yu nv np P gf lb ι encs GQ G0 Rd w0) (XX:AV (λk=>¬(G0 k∨Rd k)) w0 X) (Gm:∀k,G0 k∨Rd k->k<l/\k≠ϒ) (T5:∀k,G0 k->¬Rd k) (Ek:∀x∈encs,∀R W args,ι x R W args->args.size=ps.size)
 (J:LoopState->M Code->Loop) (Be:∀st pe,J st pe= { state:=st,pending:=pe,fn,tmps:=a.tmps,params:=ps,assign,body,defers:=dd })
 (Gj:X.heap[l]?=Z (.loop<|J .ready A)) (hD1:loose=T->X.heap[ϒ]?=Z (.deferred<|Z [])) (xU:ϒ≠l)
 (I:E->Ψ->Ψ->κ->Prop) (Ix:Code->Ψ->Ψ->κ->Prop) (Y:O PanicEntry->Ψ->Ψ->κ->Prop) (hI:∀i,DJ<|I i) (JV:∀c,DJ<|Ix c) (Q0:∀c,DJ<|Y c) (J7:nv->∀c G R W,¬Ix c G R W) (Mf:np->∀c G R W,¬Y c G R W) (own:Ψ) (XH:∀k,own k->k=l∨(loose=T/\k=ϒ)) (Q:own l) (XI:loose=T->own ϒ)
 (h0:I 0 (λk=>G0 k∨own k) Rd X) (DX:Yq P ι encs ps assign body a l I Ix Y):
 CallsIn η 0 P gf (#[.func (.yield l) #[] #[]]++lb) X λe S=>∃G R,EH (λk=>G k∨own k) R S/\(∀k,own k->¬G k)/\(loose=T->S.heap[ϒ]?=Z (.deferred<|Z []))/\
  ((I (F encs) (λk=>G k∨own k) R S/\GQ e G R S/\S.heap[l]?=Z (.loop<|J .ready A))∨((∃v,e=.returned v)/\∃c,Ix c (λk=>G k∨own k) R S/\S.heap[l]?=Z (.loop<|J .done<|Z c))∨∃c,e=.panicked c/\Y c (λk=>G k∨own k) R S):=by
 have cG:∀{W:κ} {r:Loop} {k:E},W.heap[l]?=Z (.loop r)->(loose=T->W.heap[ϒ]?=Z (.deferred<|Z []))->own k->k<W.heap.size:=λh4 h5 ho=>
  (XH _ ho).elim (λe=>e▸(zAy.1 h4).1) λe=>e.2▸(zAy.1<|h5 e.1).1
 have shr:∀{G R:Ψ} {W:κ} {r:Loop},EH G R W->(∀k,own k->¬G k/\¬R k)->W.heap[l]?=Z (.loop r)->(loose=T->W.heap[ϒ]?=Z (.deferred<|Z []))->EH (λk=>G k∨own k) R W:=λhs n h4 h5=>
  ⟨λk b=>b.elim (hs.dis k) λh=>(n k h).2,λk b=>b.elim (λh=>h.elim (λh=>hs.lt k<|.inl h)<|cG h4 h5) λh=>hs.lt k<|.inr h⟩
 have DN:∀(Φ:Ψ->Ψ->κ->Prop) (r:Loop),DJ Φ->DJ λG R W=>Φ (λk=>G k∨own k) R W/\(∀k,own k->¬G k/\¬R k)/\W.heap[l]?=Z (.loop r)/\(loose=T->W.heap[ϒ]?=Z (.deferred<|Z [])):=by
  rintro Φ r hΦ G R G' R' ο Ϝ ⟨h1,h2,h4,h5⟩ hu hg o Im z q
  have n:∀k,own k->¬G' k/\¬R' k:=λk ho=>by
   grind
  have eU:=(hu.block l (cG h4 h5 Q) (h2 l Q).1).trans h4;have yQ:loose=T->Ϝ.heap[ϒ]?=Z (.deferred<|Z []):=λp=>(hu.block ϒ (cG h4 h5<|XI p) (h2 ϒ<|XI p).1).trans<|h5 p
  refine⟨hΦ _ R _ R' ο Ϝ h1 (hu.mono λi _ h=>.inl h) (λk b=>b.elim (λh=>(hg k h).imp .inl id) λh=>.inl<|.inr h) (λk b=>(o k b).imp id λh=>h.imp .inl id) (λk b=>?_) (λk b=>b.elim (z k) λh=>(n k h).2) λk b=>b.elim (λh=>h.elim (λh=>q k<|.inl h)<|cG eU yQ) λh=>q k<|.inr h,n,eU,yQ⟩
  grind
 have hGl:∀k,G0 k∨Rd k->k<X.heap.size:=λk h=>Nat.lt_trans (Gm k h).1 (zAy.1 Gj).1
 have G9:∀k,own k->¬G0 k/\¬Rd k:=λk ho=>by
  grind
 refine(hseq l
  (λi G R W=>I i (λk=>G k∨own k) R W/\(∀k,own k->¬G k/\¬R k)/\W.heap[l]?=Z (.loop<|J .ready A)/\(loose=T->W.heap[ϒ]?=Z (.deferred<|Z [])))
  (λG R W=>∃c,Ix c (λk=>G k∨own k) R W/\(∀k,own k->¬G k/\¬R k)/\W.heap[l]?=Z (.loop<|J .done<|Z c)/\(loose=T->W.heap[ϒ]?=Z (.deferred<|Z [])))
  (λc G R W=>Y c (λk=>G k∨own k) R W/\(∀k,own k->¬G k/\¬R k)/\W.heap[l]?=Z (.loop { J .ready A with state:=.busy })/\(loose=T->W.heap[ϒ]?=Z (.deferred<|Z [])))
  X (λi=>DN (I i) _<|hI i) (λG R G' R' ο Ϝ ⟨c,h⟩ hu hg o Im z q=>⟨c,DN (Ix c) _ (JV c) G R G' R' ο Ϝ h hu hg o Im z q⟩) (λc=>DN (Y c) _<|Q0 c) XX ?_ ⟨h0,G9,Gj,hD1⟩ (λn G R W ⟨c,h,_⟩=>J7 n c _ _ _ h) λn c G R W ⟨h,_⟩=>Mf n c _ _ _ h).mono ?_
 ·rintro i x args G R W g hE ⟨hi,n,p,z⟩ hs;have Tl:x∈encs:=zLU g;have q:l<W.heap.size:=(zAy.1 p).1;have JN:=shr hs n p z;have hy:=run_yield (P:=P) (args:=args) p Z4;rw[Be]at hy;refine⟨fn,_,assign,body,hy,zFR trivial (zNQ (DX _ R i x args W g hE hi JN ⟨_,p⟩<|.inr Q) ?_)⟩;rintro e a1 y hq;cases e <;> first|exact hq.elim|skip
  obtain⟨K,hK,H9,d7,hb⟩:=hq;have ww:AV (λk=>¬(G k∨R k)) W y:=H9.mono λk _ h g=>h<|g.imp .inl id
  have p:=(H9.block l q λh=>h<|.inl<|.inr Q).trans p;have z:loose=T->y.heap[ϒ]?=Z (.deferred<|Z []):=λh=>(H9.block ϒ (zAy.1<|z h).1 λg=>g<|.inl<|.inr<|XI h).trans<|z h
  have q:l<y.heap.size:=zI0 q H9.size;have wy:=JN.upd H9;refine⟨_,run_beginRound p (by rw[Be]),?_⟩;have Ch:(y.putObj l<|.loop { J .ready A with state:=.busy }).heap[l]?=Z (.loop { J .ready A with state:=.busy }):=World.putObj_heap_same q;have JT:loose=T->(y.putObj l<|.loop { J .ready A with state:=.busy }).heap[ϒ]?=Z (.deferred<|Z []):=λh=>(zLK xU).trans<|z h
  have XD:AV (λk=>G k∨own k) y<|y.putObj l<|.loop { J .ready A with state:=.busy }:=(AV.refl _ y).putObj (λ_=>.inr Q) _;refine zNQ (hb _ (hK.same wy d7 XD) ⟨_,Ch⟩) ?_
  have N:∀(V:M Code) (j:κ),AV (λk=>¬((G k∨own k)∨R k)) (y.putObj l<|.loop { J .ready A with state:=.busy }) j->
   (Instr.endRound l V).run P j=.ok (.bool V.isNone) (j.putObj l<|.loop<|J (u V.isNone .ready .done) V)/\
   (j.putObj l<|.loop<|J (u V.isNone .ready .done) V).heap[l]?=Z (.loop<|J (u V.isNone .ready .done) V)/\
   (loose=T->(j.putObj l<|.loop<|J (u V.isNone .ready .done) V).heap[ϒ]?=Z (.deferred<|Z []))/\
   AV (λk=>¬(G k∨R k)) W (j.putObj l<|.loop<|J (u V.isNone .ready .done) V)/\
   EH (λk=>G k∨own k) R j/\AV (λk=>G k∨own k) j (j.putObj l<|.loop<|J (u V.isNone .ready .done) V):=λV j m=>by
   have d5:j.heap[l]?=Z (.loop { J .ready A with state:=.busy }):=(m.block l (by simpa using q) λh=>h<|.inl<|.inr Q).trans Ch;have:=run_endRound (P:=P) V d5;refine⟨Z4,World.putObj_heap_same (zAy.1 d5).1,λh=>(zLK xU).trans<|(m.block ϒ ?_ λg=>g<|.inl<|.inr<|XI h).trans<|JT h,ww.comp (S':=λk=>¬(G k∨R k)) ?_ λ_ _ h=>h,(wy.upd XD).upd m,(AV.refl _ j).putObj (λ_=>.inr Q) _⟩
   ·grind
   ·refine⟨m.os,m.tape,m.output,by simpa using m.size,λk b XK=>?_⟩;have nP:G k∨R k:=Classical.not_not.1 XK
    by_cases IC:k=l
    ·grind
    ·rw[zLK IC,m.block k (by simpa using b) λg=>g<|nP.imp .inl id,zLK IC]
  rintro e a3 j w;cases e with
  |normal=>
   obtain⟨m,mq⟩:=w;obtain⟨o,Qo,Mm,Qe,Qf,Qd⟩:=N A j m;exact⟨_,_,o,Qe,.inl ⟨rfl,(hI _).same Qf mq Qd,n,Qo,Mm⟩⟩
  |ret=>
   obtain⟨o,Qo,Mm,Qe,Qf,Qd⟩:=N (Z .ret) j w.1;exact⟨_,_,o,Qe,.inr<|.inl ⟨rfl,.ret,(JV _).same Qf w.2 Qd,n,Qo,Mm⟩⟩
  |exit id=>
   obtain⟨o,Qo,Mm,Qe,Qf,Qd⟩:=N (Z<|.exit id) j w.1;exact⟨_,_,o,Qe,.inr<|.inl ⟨rfl,.exit id,(JV _).same Qf w.2 Qd,n,Qo,Mm⟩⟩
  |goto t=>
   obtain⟨o,Qo,Mm,Qe,Qf,Qd⟩:=N (Z<|.goto t) j w.1;exact⟨_,_,o,Qe,.inr<|.inl ⟨rfl,.goto t,(JV _).same Qf w.2 Qd,n,Qo,Mm⟩⟩
  |panic ch=>
   obtain⟨Ϝ,hm,w⟩:=w
   have key:∀s,KY Ϝ j s->AV (λk=>¬(G k∨R k)) W s/\(Y ch (λk=>G k∨own k) R s/\(∀k,own k->¬G k/\¬R k)/\s.heap[l]?=Z (.loop { J .ready A with state:=.busy })/\(loose=T->s.heap[ϒ]?=Z (.deferred<|Z []))):=λs JL=>by
    obtain⟨m,mq⟩:=w s JL;have d5:s.heap[l]?=Z (.loop { J .ready A with state:=.busy }):=(m.block l (by simpa using q) λh=>h<|.inl<|.inr Q).trans Ch;refine⟨ww.comp (S':=λk=>¬(G k∨R k)) ⟨m.os,m.tape,m.output,by simpa using m.size,λk b XK=>?_⟩ λ_ _ h=>h,mq,n,d5,λh=>(m.block ϒ ?_ λg=>g<|.inl<|.inr<|XI h).trans<|JT h⟩
    ·have nP:G k∨R k:=Classical.not_not.1 XK;have IC:k≠l:=λe=>Z4
     rw[m.block k (by simpa using b) λg=>g<|nP.imp .inl id,zLK IC]
    grind
   rcases mK with zMi|⟨f,hf⟩
   ·exact(Mf zMi _ _ _ _ (w j<|AV.refl _ _).2).elim
   ·exact⟨f,hf,lR Z3 _ _ hm λs JL=>⟨rfl,(key s JL).1,.inr<|.inr ⟨ch,rfl,(key s JL).2⟩⟩⟩
  |outgrown=>exact w.elim
 grind
variable{Q:Exit->Act->κ->Prop}{g:Operand}
theorem zA6{t:Prop}{fi:FuncId}(mK:t∨∃f,P.funcs[fi]?=Z f){w:κ}(hg:a.eval g=.func (.func gf) #[] lb)(eg:∀args w,(callFunc gf args).run P w=.ok (.enter gf args) w)
 (hseq:Yu nv t P gf lb ι encs GQ G0 Rd w) (m:EH G0 Rd w) (Ek:∀x∈encs,∀R W args,ι x R W args->args.size=ps.size)
 (I:E->Ψ->Ψ->κ->Prop) (N:Code->Ψ->Ψ->κ->Prop) (p:O PanicEntry->Ψ->Ψ->κ->Prop) (y:∀i,DJ<|I i) (JV:∀c,DJ<|N c) (Q0:∀c,DJ<|p c) (J7:nv->∀c G R W,¬N c G R W) (Mf:t->∀c G R W,¬p c G R W) (h0:I 0 G0 Rd w) (DX:∀l,Yq P ι encs ps assign body a l I N p)
 (z:∀(ϒ:E) (e:Ending) (G R own:Ψ) (W n:κ),GQ e G R W->I (F encs) (λk=>G k∨own k) R n->EH (λk=>G k∨own k) R n->(∀k,own k->¬G k)->AV own W n->n.heap[ϒ]?=Z (.deferred<|Z [])->w.heap.size<=ϒ->
  match e with
  | .returned _=>Q .normal { a with defers:={ target:=.collected ϒ,args:=#[] }::a.defers } n
  | .panicked c=>Q (.panic c) { a with defers:={ target:=.collected ϒ,args:=#[] }::a.defers } n
  | .outgrown=>False)
 (OX:∀(ϒ:E) (c:Code) (G R:Ψ) (W:κ),N c G R W->W.heap[ϒ]?=Z (.deferred<|Z [])->w.heap.size<=ϒ->
  c.wpIn η 0 P Q { a with defers:={ target:=.collected ϒ,args:=#[] }::a.defers } W)
 (Tu:∀(ϒ:E) (c:O PanicEntry) (G R:Ψ) (W:κ),p c G R W->W.heap[ϒ]?=Z (.deferred<|Z [])->w.heap.size<=ϒ->Q (.panic c) { a with defers:={ target:=.collected ϒ,args:=#[] }::a.defers } W):
 iQ η 0 P fi (.rangeFunc g ps assign body) Q a w:=by
 refine zA7 λ_=>?_
 have JN:(w.alloc<|.deferred<|Z []).heap.size=w.heap.size+1:=World.size_alloc _ _;obtain⟨J,q⟩:∃J:LoopState->M Code->Loop,∀st pe,J st pe= { state:=st,pending:=pe,fn:=fi,tmps:=a.tmps,params:=ps,assign,body,defers:=w.heap.size }:=⟨_,λ_ _=>rfl⟩;obtain⟨j,nG⟩:∃j,(w.alloc<|.deferred<|Z []).alloc (.loop<|J .ready A)=j:=⟨_,rfl⟩
 have Gl:j.heap[w.heap.size+1]?=Z (.loop<|J .ready A):=by
  grind[World.alloc_heap_new]
 have X:j.heap[w.heap.size]?=Z (.deferred<|Z []):=by
  grind[Below.heap_alloc,World.alloc_heap_new]
 have hu:∀S,AV S w j:=λS=>by rw[←nG];exact((AV.refl S w).alloc _).alloc _
 have Ao:=(zAy.1 Gl).1
 refine⟨w.heap.size+1,[{ target:=.collected w.heap.size,args:=#[] }],j,{ target:=.fn (.func gf) lb,args:=#[.func (.yield<|w.heap.size+1) #[] #[]] },j,gf,
  #[.func (.yield<|w.heap.size+1) #[] #[]]++lb,j,?_,?_,λ_ _=>trivial,?_,(λh=>by cases h),?_⟩
 ·simp_all[run_enterLoop_outer]
 ·simp only[resolve,hg];simp[go_sem]
 ·simp[invoke,go_sem,eg]
 ·refine(tQ mK (loose:=T) (ϒ:=w.heap.size) hseq (hu _) (λk h=>by have:=m.lt k h;omega) m.dis Ek J q Gl (λ_=>X) Z2
   I N p y JV Q0 J7 Mf (λk=>k=w.heap.size+1∨k=w.heap.size) (λk h=>h.imp id λh=>⟨rfl,h⟩) (.inl rfl) (λ_=>.inr rfl)
   (y 0 G0 Rd _ Rd _ _ h0 (hu _) (λk h=>h.imp id Z2) (λk h=>.inl h) (λk h=>h.imp .inl id) (λk h hr=>?_) λk h=>?_) (DX _)).mono ?_
  ·rcases h with h|h
   ·exact m.dis k h hr
   ·have:=m.lt k<|.inr hr;omega
  ·rcases h with(h|h)|h
   ·have:=m.lt k<|.inl h;omega
   ·omega
   ·have:=m.lt k<|.inr h;omega
  rintro e b ⟨G,R,r,K,s,(⟨hi,V,Y⟩|⟨⟨v,rfl⟩,c,hi,Y⟩|⟨c,rfl,hi⟩)⟩
  ·have hp:∀o,AV (λk=>k=w.heap.size+1∨k=w.heap.size) b<|b.putObj (w.heap.size+1) o:=λo=>(AV.refl _ b).putObj (λ_=>.inl rfl) _
   have BL:∀o,AV (λk=>G k∨k=w.heap.size+1∨k=w.heap.size) b<|b.putObj (w.heap.size+1) o:=λo=>(hp o).mono λ_ _ h=>.inr h
   cases e with
   |returned v=>exact⟨A,_,by have:=run_endLoop (P:=P) Y (by rw[q];simp);rw[q]at this;exact this,
    z _ (.returned v) G R _ b _ V ((y _).same r hi<|BL _) (r.upd<|hp _) K (hp _) ((zLK Z2).trans<|s rfl) (zI1 _)⟩
   |panicked c=>exact z _ (.panicked c) G R _ b b V hi r K (AV.refl _ _) (s rfl)<|zI1 _
   |outgrown=>exact(z _ .outgrown G R _ b b V hi r K (AV.refl _ _) (s rfl)<|zI1 _).elim
  ·exact⟨Z c,_,by have:=run_endLoop (P:=P) Y (by rw[q];simp);rw[q]at this;exact this,
    OX _ c _ _ _ ((JV _).same r hi<|(AV.refl _ b).putObj (λ_=>.inr<|.inl rfl) _) ((zLK Z2).trans<|s rfl) (zI1 _)⟩
  ·exact Tu _ c _ _ _ hi (s rfl)<|zI1 _
def pd{j:Prop}{w:κ}(m:a.eval g=.func (.func gf) #[] lb)(y:∀args w,(callFunc gf args).run P w=.ok (.enter gf args) w)
 (hseq:Yu j True P gf lb ι encs GQ G0 Rd w) (n:EH G0 Rd w) (v:∀x∈encs,∀R W args,ι x R W args->args.size=ps.size)
 (I:E->Ψ->Ψ->κ->Prop) (N:Code->Ψ->Ψ->κ->Prop) (f:O PanicEntry->Ψ->Ψ->κ->Prop) (p:∀i,DJ<|I i) (q:∀c,DJ<|N c) (r:∀c,DJ<|f c) (s:j->∀c G R W,¬N c G R W) (o:∀c G R W,¬f c G R W) (h0:I 0 G0 Rd w) (t:∀l,Yq P ι encs ps assign body a l I N f)
 (S:∀(ϒ:E) (e:Ending) (G R own:Ψ) (W b:κ),GQ e G R W->I (F encs) (λk=>G k∨own k) R b->EH (λk=>G k∨own k) R b->(∀k,own k->¬G k)->AV own W b->b.heap[ϒ]?=Z (.deferred<|Z [])->w.heap.size<=ϒ->
  match e with
  | .returned _=>Q .normal { a with defers:={ target:=.collected ϒ,args:=#[] }::a.defers } b
  | .panicked c=>Q (.panic c) { a with defers:={ target:=.collected ϒ,args:=#[] }::a.defers } b
  | .outgrown=>False)
 (z:∀(ϒ:E) (c:Code) (G R:Ψ) (W:κ),N c G R W->W.heap[ϒ]?=Z (.deferred<|Z [])->w.heap.size<=ϒ->
  c.wpIn η 0 P Q { a with defers:={ target:=.collected ϒ,args:=#[] }::a.defers } W):
 (Code.rangeFunc g ps assign body).wpIn η 0 P Q a w:=
 zA5 λ_=>zA6 (.inl trivial) m y hseq n v I N f p q r s (λ_=>o) h0 t S z λϒ c G R W h=>(o c G R W h).elim
theorem zA4{X:Prop}{l0:E}{w:κ}(hg:a.eval g=.func (.func gf) #[] lb)(eg:∀args w,(callFunc gf args).run P w=.ok (.enter gf args) w)(LQ:∃r,w.heap[l0]?=Z (.loop r))
 (hseq:Yu X True P gf lb ι encs GQ G0 Rd w) (j:EH G0 Rd w) (Ek:∀x∈encs,∀R W args,ι x R W args->args.size=ps.size)
 (I:E->Ψ->Ψ->κ->Prop) (N:Code->Ψ->Ψ->κ->Prop) (q:O PanicEntry->Ψ->Ψ->κ->Prop) (s:∀i,DJ<|I i) (Y:∀c,DJ<|N c) (Q0:∀c,DJ<|q c) (J7:X->∀c G R W,¬N c G R W) (Mf:∀c G R W,¬q c G R W) (h0:I 0 G0 Rd w) (DX:∀l,Yq P ι encs ps assign body a l I N q)
 (t:∀(e:Ending) (G R own:Ψ) (W m:κ),GQ e G R W->I (F encs) (λk=>G k∨own k) R m->EH (λk=>G k∨own k) R m->(∀k,own k->¬G k)->AV own W m->
  match e with
  | .returned _=>Q .normal a m
  | .panicked c=>Q (.panic c) a m
  | .outgrown=>False)
 (OX:∀(c:Code) (G R:Ψ) (W:κ),N c G R W->c.wpIn (Fence.wide.inRound l0) 0 P Q a W):
 (Code.rangeFunc g ps assign body).wpIn (Fence.wide.inRound l0) 0 P Q a w:=by
 refine wpIn_rangeFunc ?_;intro fn _;obtain⟨r0,Gh⟩:=LQ;obtain⟨J,n⟩:∃J:LoopState->M Code->Loop,∀st pe,J st pe= { state:=st,pending:=pe,fn,tmps:=a.tmps,params:=ps,assign,body,defers:=r0.defers }:=⟨_,λ_ _=>rfl⟩;obtain⟨f,nG⟩:∃f,w.alloc (.loop<|J .ready A)=f:=⟨_,rfl⟩
 have Gl:f.heap[w.heap.size]?=Z (.loop<|J .ready A):=by
  grind[World.alloc_heap_new]
 have hu:∀S,AV S w f:=λS=>by rw[←nG];exact(AV.refl S w).alloc _
 have Ao:=(zAy.1 Gl).1
 refine⟨w.heap.size,[],f,{ target:=.fn (.func gf) lb,args:=#[.func (.yield w.heap.size) #[] #[]] },f,gf,
  #[.func (.yield w.heap.size) #[] #[]]++lb,f,?_,?_,λ_ _=>trivial,?_,(λh=>by cases h),?_⟩
 ·simp_all[run_enterLoop_inner]
 ·simp only[resolve,hg];simp[go_sem]
 ·simp[invoke,go_sem,eg]
 ·refine CallsIn.inRound _<|(tQ (.inl trivial) (loose:=D) (ϒ:=w.heap.size+1) (G0:=G0) hseq (hu _) (λk h=>by have:=j.lt k h;omega) j.dis Ek J n Gl (λh=>by cases h) Z2
   I N q s Y Q0 J7 (λ_=>Mf) (λk=>k=w.heap.size) (λk h=>.inl h) rfl (λh=>by cases h)
   (s 0 G0 Rd _ Rd _ _ h0 (hu _) (λk h=>h.imp id Z2) (λk h=>.inl h) (λk h=>h.imp .inl id) (λk h hr=>?_) λk h=>?_) (DX _)).mono ?_
  ·rcases h with h|h
   ·exact j.dis k h hr
   ·have:=j.lt k<|.inr hr;omega
  ·rcases h with(h|h)|h
   ·have:=j.lt k<|.inl h;omega
   ·omega
   ·have:=j.lt k<|.inr h;omega
  rintro e b ⟨G,R,p,y,_,(⟨hi,K,z⟩|⟨⟨v,rfl⟩,c,hi,z⟩|⟨c,rfl,hi⟩)⟩
  ·have V:∀o,AV (λk=>k=w.heap.size) b<|b.putObj w.heap.size o:=λo=>(AV.refl (λk=>k=w.heap.size) b).putObj (λ_=>rfl) _
   cases e with
   |returned v=>exact⟨A,_,by have:=run_endLoop (P:=P) z (by rw[n];simp);rw[n]at this;exact this,
    t (.returned v) G R _ b _ K ((s _).same p hi<|(V _).mono λ_ _ h=>.inr h) (p.upd<|V _) y (V _)⟩
   |panicked c=>exact t (.panicked c) G R _ b b K hi p y<|AV.refl _ _
   |outgrown=>exact(t .outgrown G R _ b b K hi p y<|AV.refl _ _).elim
  ·exact⟨Z c,_,by have:=run_endLoop (P:=P) z (by rw[n];simp);rw[n]at this;exact this,
    OX c _ _ _ ((Y _).same p hi<|(AV.refl _ b).putObj (λ_=>.inr rfl) _)⟩
  grind
end
def zHy(Ϝ:E)(P:ν)(fn:Func)(R:Ending->κ->Prop):Exit->Act->κ->Prop
 | .normal,a,w| .ret,a,w=>Ef Ϝ a.defers w/\∀W,KY Ϝ w W->∃v,(results fn a.tmps).run P W=.ok v W/\R (.returned v) W
 |_,_,_=>False
def zQI(Ϝ:E){P:ν}{f:FuncId}{fn:Func}{c:Code}{args:υ μ}{w:κ}{R:Ending->κ->Prop}
 (q:P.funcs[f]?=Z fn) (b:fn.body=Z c)
 (h:c.wp P (zHy Ϝ P fn R) { tmps:=args++Array.replicate (fn.ntmps-args.size) undef,defers:=[] } w):Calls P f args w R:=by
 refine(zSO (n:=0)).1<|callsIn_of_wp_marks q b trivial ?_;refine zNQ (wpIn_wide.2 h) λe a' w' I=>?_
 cases e <;> first|exact zJj _ _ I.1 I.2|exact I.elim
end
abbrev zBD:=@List.getD_eq_getElem?_getD
abbrev zBH:=@Option.some.inj
abbrev zKy:=@List.length_set
abbrev zLC:=@Array.getD_eq_getD_getElem?
abbrev zNj:=@List.getElem?_set
section
inductive DV where
 |any
 |nils
 |int (k:IntKind) (n:U)
 |bool (b:ζ)
 |str (s:ByteArray)
 |ints (l:Ξ)
 |bools (l:Ω)
 |sl (m n:E) (f:E->E->DV)
 |fp (m:E) (f:E->DV)
 |agg (m:E) (f:E->DV)
 |tup (m:E) (f:E->DV)
 |ref (k j:E)
 |msl (k m off n:E)
 |mp (k m i j:E)
 |fn (g:E) (m:E) (c:E->DV)
 |it (k:E)
 |yl (l:E)
 |mse (k m off n:E)
 |mri (k i:E)
 |cst (ϛ:μ)
 |gr (k:E)
structure AN where
 blk:E
 off:E
 room:E
 val:μ
 foot:Ψ
def F8(m:E)(f:E->DV):E->DV:=λj=>((θ m).map f).getD j .any
variable{j m:E}{f:E->DV}
def im(h:j<m):F8 m f j=f j:=by simp[F8,h]
def LB:E:=140737488355328
def AL(ϕ:Ψ)(w:κ):DV->O AN->μ->Prop
 | .any,_,_=>True
 | .nils,_,v=>v=.slice A 0 0
 | .int k n,_,v=>v=.int k n
 | .bool b,_,v=>v=.bool b
 | .str s,_,v=>v=.string s
 | .ints l,_,v=>∃(a:M Addr) (cap:E),v=.slice a (F l) cap/\F l<=cap/\F l<=LB/\
  ∀j,j<F l->∃b o,a=Z ⟨b,o,A⟩/\¬ϕ b/\w.cell? ⟨b,o+j,A⟩=Z (.int .i64<|H l j 0)
 | .bools l,_,v=>∃(a:M Addr) (cap:E),v=.slice a (F l) cap/\F l<=cap/\F l<=LB/\
  ∀j,j<F l->∃b o,a=Z ⟨b,o,A⟩/\¬ϕ b/\w.cell? ⟨b,o+j,A⟩=Z (.bool<|l.getD j T)
 | .sl m n f,_,v=>∃(a:M Addr) (cap:E),v=.slice a n cap/\n<=cap/\n<=LB/\
  ∀i j,i<n->j<m->∃b o ϛ,a=Z ⟨b,o,A⟩/\¬ϕ b/\w.cell? ⟨b,o+(i*m+j),A⟩=Z ϛ/\AL ϕ w (f i j) [] ϛ
 | .fp m f,_,v=>∃b o,v=.pointer (Z ⟨b,o,A⟩)/\∀j,j<m->¬ϕ b/\∃ϛ,w.cell? ⟨b,o+j,A⟩=Z ϛ/\AL ϕ w (f j) [] ϛ
 | .agg m f,ρ,v=>∃cs,v=.agg cs/\cs.size=m/\∀j,j<m->∃ϛ,cs[j]?=Z ϛ/\AL ϕ w (f j) ρ ϛ
 | .tup m f,ρ,v=>∃cs,v=.tuple cs/\cs.size=m/\∀j,j<m->∃ϛ,cs[j]?=Z ϛ/\AL ϕ w (f j) ρ ϛ
 | .ref k j,ρ,v=>∃p:AN,ρ[k]?=Z p/\v=.pointer (Z ⟨p.blk,p.off+j,A⟩)
 | .msl k m off n,ρ,v=>∃(p:AN) (cap:E),ρ[k]?=Z p/\v=.slice (Z ⟨p.blk,p.off+off*m,A⟩) n cap/\n<=cap/\n<=LB/\p.off+off*m+cap*m<=p.room
 | .mp k m i j,ρ,v=>∃p:AN,ρ[k]?=Z p/\v=.pointer (Z ⟨p.blk,p.off+(i*m+j),A⟩)
 | .fn g m c,ρ,v=>∃e,v=.func (.func g) #[] e/\e.size=m/\∀j,j<m->∃ϛ,e[j]?=Z ϛ/\AL ϕ w (c j) ρ ϛ
 | .it k,ρ,v=>∃p:AN,ρ[k]?=Z p/\v=p.val
 | .yl l,_,v=>v=.func (.yield l) #[] #[]
 | .cst ϛ,_,v=>v=ϛ/\ϛ.oneCell'=D
 | .gr k,ρ,v=>∃(p:AN) (a:M Addr) (n cap:E),ρ[k]?=Z p/\v=p.val/\v=.slice a n cap
 | .mri k i,ρ,v=>∃(p:AN) (vs:υ μ),ρ[k]?=Z p/\p.val=.tuple vs/\vs[i]?=Z v
 | .mse k m off n,ρ,v=>∃(p:AN) (a:M Addr) (cap:E),ρ[k]?=Z p/\v=.slice a n cap/\n<=cap/\n<=LB/\(0<cap->a=Z ⟨p.blk,p.off+off*m,A⟩/\p.off+off*m+cap*m<=p.room)
variable{v:μ}{ρ:O AN}{w:κ}{ϕ:Ψ}
theorem PY(h:j<m)(k:AL ϕ w (f j) ρ v):AL ϕ w (F8 m f j) ρ v:=by rw[im h];exact k
def Ai(w:κ)(p:AN)(n:E)(R:E->μ->Prop):Prop:=p.foot=(λb=>b=p.blk)/\∃cs t,w.heap[p.blk]?=Z (.cells cs t (0,0))/\p.off+n<=cs.size/\p.room<=cs.size/\∀j,j<n->∃ϛ,cs[p.off+j]?=Z ϛ/\R j ϛ
def Hp(w:κ)(ϖ:Ψ)(ϛ:μ)(ϙ:Ξ):Prop:=(ϙ= []/\ϛ=.slice A 0 0)∨∃(q:AN) (cap:E),ϛ=.slice (Z ⟨q.blk,q.off,A⟩) (F ϙ) cap/\F ϙ<=cap/\q.off+cap<=q.room/\F ϙ<=LB/\ϖ q.blk/\Ai w q (F ϙ) λj x=>x=.int .i64 (H ϙ j 0)
def DB:μ->W0
 | .slice (Z a) _ _=>Z a.block
 |_=>A
variable{b:E}{ϙ:Ξ}{ϛ:μ}{ϖ:Ψ}
theorem Hp.blk(h:Hp w ϖ ϛ ϙ)(a:DB ϛ=Z b):ϖ b/\b<w.heap.size:=by
 rcases h with⟨_,rfl⟩|⟨q,cap,rfl,_,_,_,h5,_,cs,t,h6,_⟩
 ·cases a
 ·cases a;grind
variable{w':κ}
theorem Hp.out{c:Ψ}(h:Hp w ϖ ϛ ϙ)(hb:∀b,ϖ b->DB ϛ=Z b->b<w.heap.size->w'.heap[b]?=w.heap[b]?)(hF:∀b,ϖ b->DB ϛ=Z b->c b):Hp w' c ϛ ϙ:=by
 rcases h with h|⟨q,cap,h1,h2,h3,h4,h5,h6⟩
 ·exact .inl h
 grind[Hp,DB,Ai]
structure FC(w:κ)(p:AN)(f:U->Ξ)(B9:X1)(ϛ:μ)(es:υ MapEntry)(As:E):Prop where
 val:p.val=.tuple #[Value.map (Z p.blk),ϛ]
 blk:w.heap[p.blk]?=Z (.map es As)
 own:p.foot p.blk
 key:∀e∈es.toList,∃k,e.key=.int .i64 k/\((∀ϙ,B9≠Z (k,ϙ,D))->Hp w (λb=>p.foot b/\b≠p.blk) e.val (f k))
 no:∀k,(∀e∈es.toList,e.key≠.int .i64 k)->f k= []
 nd:(es.toList.map (·.key)).Nodup
 apart:∀e∈es.toList,∀e'∈es.toList,∀b,DB e.val=Z b->DB e'.val=Z b->e.key=e'.key
 born:∀e∈es.toList,e.born<As
 stamps:(es.toList.map (·.born)).Nodup
 inHand:∀k ϙ g,B9=Z (k,ϙ,g)->Hp w (λb=>p.foot b/\b≠p.blk) ϛ ϙ/\∀e∈es.toList,∀b,DB ϛ=Z b->DB e.val=Z b->e.key=.int .i64 k
variable{X:E}{N:υ MapEntry}{p:AN}
theorem FC.out{f:U->Ξ}{l:X1}(h:FC w p f l ϛ N X)(a:∀b,p.foot b->b<w.heap.size->w'.heap[b]?=w.heap[b]?):FC w' p f l ϛ N X:=
 { h with
  blk:=(a _ h.own (zAy.1 h.blk).1).trans h.blk
  key:=λe m=>let⟨k,c,i⟩:=h.key e m;⟨k,c,λs=>(i s).out (λb q _ j=>a b q.1 j) λ_ h _=>h⟩
  inHand:=λk ϙ g e=>let⟨c,i⟩:=h.inHand k ϙ g e;⟨c.out (λb q _ j=>a b q.1 j) λ_ h _=>h,i⟩ }
abbrev KS:=O Ξ
def Bb:Ξ->μ
 |[a]=>.int .i64 a
 |l=>.agg (l.map λa=>.int .i64 a).toArray
theorem wX:∀{a b:Ξ},Bb a=Bb b->a=b:=by
 have Y:∀{l m:Ξ},(l.map λa=>Value.int .i64 a).toArray=(m.map λa=>Value.int .i64 a).toArray->l=m:=λ{l m} h=>by
  grind[List.map_inj_right]
 intro a b h
 match a,b with
 |[x],[y]=>cases h;rfl
 |[],[]=>rfl
 |[x],[]=>cases h
 |[],[y]=>cases h
 |[x],y::c::m=>cases h
 |x::x'::l,[y]=>cases h
 |x::x'::l,[]=>exact Y<|Value.agg.inj h
 |[],y::c::m=>exact Y<|Value.agg.inj h
 |x::x'::l,y::c::m=>exact Y<|Value.agg.inj h
structure FW(w:κ)(b n:E)(l:KS)(es:υ MapEntry)(As:E):Prop where
 blk:w.heap[b]?=Z (.map es As)
 keys:(es.toList.map (·.key)).Perm (l.map Bb)
 nd:l.Nodup
 len:∀y∈l,F y=n
 tru:∀e∈es.toList,e.val=.bool D
 born:∀e∈es.toList,e.born<As
 stamps:(es.toList.map (·.born)).Nodup
variable{n:E}
theorem FW.out{l:KS}(h:FW w b n l N X)(a:w'.heap[b]?=w.heap[b]?):FW w' b n l N X:={ h with blk:=a.trans h.blk }
inductive MX where
 |set (n:E) (l:KS)
 |sets (n:E) (ls:O (M KS)) (lk:M (E×E×υ MapEntry×E))
 |mit (n mb:E) (es:υ MapEntry) (As:E) (rem:KS) (FS:W6)
 |rows (f:U->Ξ) (B9:X1)
 |rws (ls:O Ξ) (B9:M (E×Ξ))
structure Lm(w:κ)(p:AN)(ls:O Ξ)(B9:M (E×Ξ))(vs:υ μ):Prop where
 val:p.val=.tuple vs
 size:vs.size=F ls+1
 row:∃cs t,w.heap[p.blk]?=Z (.cells cs t (0,0))/\p.off+F ls<=cs.size/\p.room<=cs.size/\∀j,j<F ls->cs[p.off+j]?=vs[j+1]?
 blk:p.foot p.blk
 has:∀j,j<F ls->(∀ϙ,B9≠Z (j,ϙ))->Hp w (λb=>p.foot b/\b≠p.blk) (vs.getD (j+1) undef) (H ls j ξ)
 apart:∀(i j b:E),i<F ls->j<F ls->(∀ϙ,B9≠Z (i,ϙ))->(∀ϙ,B9≠Z (j,ϙ))->DB (vs.getD (i+1) undef)=Z b->DB (vs.getD (j+1) undef)=Z b->i=j
 inHand:∀k ϙ,B9=Z (k,ϙ)->Hp w (λb=>p.foot b/\b≠p.blk) (vs.getD 0 undef) ϙ/\∀(j b:E),j<F ls->DB (vs.getD 0 undef)=Z b->DB (vs.getD (j+1) undef)=Z b->j=k
variable{vs:υ μ}
theorem Lm.out{i:O Ξ}{l:M (E×Ξ)}(h:Lm w p i l vs)(c:∀b,p.foot b->b<w.heap.size->w'.heap[b]?=w.heap[b]?):Lm w' p i l vs:=
 { h with
  row:=let⟨cs,t,a,f⟩:=h.row;⟨cs,t,(c _ h.blk (zAy.1 a).1).trans a,f⟩
  has:=λj m s=>(h.has j m s).out (λb q _ g=>c b q.1 g) λ_ h _=>h
  inHand:=λk ϙ e=>let⟨a,f⟩:=h.inHand k ϙ e;⟨a.out (λb q _ g=>c b q.1 g) λ_ h _=>h,f⟩ }
structure Ft(w:κ)(p:AN)(n:E)(ls:O (M KS))(lk:M (E×E×υ MapEntry×E))(vs:υ μ):Prop where
 val:p.val=.tuple vs
 size:vs.size=F ls
 row:∃cs t,w.heap[p.blk]?=Z (.cells cs t (0,0))/\p.off+F ls<=cs.size/\p.room<=cs.size/\∀j,j<F ls->cs[p.off+j]?=vs[j]?
 blk:p.foot p.blk
 has:∀(j:E) (l:KS),ls[j]?=Z (Z l)->∃b:E,vs[j]?=Z (Value.map (Z b))/\b≠p.blk/\p.foot b/\∃es As,FW w b n l es As/\∀x,lk=Z x->x.1=j->x.2=(b,es,As)
 nil:∀(j:E),ls[j]?=Z A->vs[j]?=Z (Value.map A)
 foot:∀b,p.foot b->b=p.blk∨∃(j:E) (l:KS),ls[j]?=Z (Z l)/\vs[j]?=Z (Value.map (Z b))
 inj:∀(i j b:E),vs[i]?=Z (Value.map (Z b))->vs[j]?=Z (Value.map (Z b))->i=j
theorem Ft.out{e:O (M KS)}{V:M (E×E×υ MapEntry×E)}(h:Ft w p n e V vs)(f:∀b,p.foot b->b<w.heap.size->w'.heap[b]?=w.heap[b]?):Ft w' p n e V vs:=by
 have at_:∀{b o},p.foot b->w.heap[b]?=Z o->w'.heap[b]?=Z o:=λ{b o} q K=>(f b q (zAy.1 K).1).trans K
 refine{ h with row:=?_,has:=λj l g=>?_ }
 ·obtain⟨cs,t,a,c⟩:=h.row;exact⟨cs,t,at_ h.blk a,c⟩
 ·obtain⟨b,a,c,m,N,X,W,i⟩:=h.has j l g;exact⟨b,a,c,m,N,X,{ W with blk:=at_ m W.blk },i⟩
def PH(w:κ)(p:AN):MX->Prop
 | .set n l=>p.val=Value.map (Z p.blk)/\p.foot=(λb=>b=p.blk)/\∃N X,FW w p.blk n l N X
 | .sets n h V=>∃vs,Ft w p n h V vs
 | .mit n G N X a S=>(∀x,(x∈a∨S=Z x)->F x=n)/\p.val=.pointer (Z ⟨p.blk,0,A⟩)/\p.foot=(λb=>b=p.blk)/\∃seen,w.heap[p.blk]?=Z (.mapIter (Z G) X seen X)/\((leftOf N seen).toList.map (·.key)).Perm (a.map Bb)/\
  ∀x,S=Z x->∃e∈N.toList,e.key=Bb x/\seen.back? =Z e.born
 | .rows f k=>∃ϛ N X,FC w p f k ϛ N X
 | .rws h k=>∃vs,Lm w p h k vs
theorem PH.out :∀{x:MX},PH w p x->(∀b,p.foot b->b<w.heap.size->w'.heap[b]?=w.heap[b]?)->PH w' p x
 | .set n l,⟨e,c,N,X,m⟩,a=>⟨e,c,N,X,m.out<|a _ (by rw[c]) (zAy.1 m.blk).1⟩
 | .sets n g lk,⟨vs,h⟩,a=>⟨vs,h.out a⟩
 | .rows f k,⟨ϛ,N,X,h⟩,a=>⟨ϛ,N,X,h.out a⟩
 | .rws g k,⟨vs,h⟩,a=>⟨vs,h.out a⟩
 | .mit n mb N X rem FS,⟨h0,e,c,seen,m,W⟩,a=>⟨h0,e,c,seen,(a _ (by rw[c]) (zAy.1 m).1).trans m,W⟩
inductive DO where
 |cells (l:O DV)
 |ints (l:Ξ)
 |bools (l:Ω)
 |arr (m n:E) (f:E->E->DV)
 |iter (encs:O (O DV))
 |ro (l:O DV)
 |mo (x:MX)
 |gro (m n:E) (f:E->E->DV)
abbrev DH:=O<|M DO
def MO(h:DH)(ρ:O AN)(b:E):Prop:=∃(k:E) (o:DO) (p:AN),h[k]?=Z (Z o)/\ρ[k]?=Z p/\p.foot b
def MS(N:Ψ)(h:DH)(ρ:O AN)(b:E):Prop:=N b∨MO h ρ b
def YV(ds:O DV)(R:Ψ)(W:κ)(args:υ μ):Prop:=F ds=args.size/\∀j,j<F ds->AL (λb=>b<W.heap.size/\¬R b) W (ds.getD j .any) [] (args.getD j undef)
def Uo:Ending->Ψ->Ψ->κ->Prop:=λe _ _ _=>∃v,e=.returned v
def Bc(P:ν)(ϕ:Ψ)(w:κ)(ρ:O AN)(p:AN):DO->Prop
 | .cells l=>Ai w p (F l) λj ϛ=>AL ϕ w (l.getD j .any) ρ ϛ
 | .ints l=>Ai w p (F l) λj ϛ=>ϛ=.int .i64 (H l j 0)
 | .bools l=>Ai w p (F l) λj ϛ=>ϛ=.bool (l.getD j T)
 | .arr m n f=>Ai w p (n*m) λj ϛ=>AL ϕ w (f (j/m)<|j%m) [] ϛ
 | .iter encs=>∃I s Rd,(p.val=.func (.func I) #[] s/\∀args W,(callFunc I args).run P W=.ok (.enter I args) W)/\PJ P I s YV encs Uo p.foot Rd w/\(∀b,Rd b->¬ϕ b/\b<w.heap.size)/\∀b,p.foot b->b<w.heap.size
 | .ro l=>p.foot=(λ_=>False)/\¬ϕ p.blk/\Ai w { p with foot:=λb=>b=p.blk } (F l) λj ϛ=>AL ϕ w (l.getD j .any) ρ ϛ
 | .mo x=>PH w p x
 | .gro m n f=>(n=0/\p.val=.slice A 0 0/\p.foot=λ_=>False)∨∃cap,p.val=.slice (Z ⟨p.blk,p.off,A⟩) n cap/\n<=cap/\n<=LB/\p.off+cap*m<=p.room/\Ai w p (n*m) λj ϛ=>AL ϕ w (f (j/m)<|j%m) [] ϛ
def eD:Obj->ζ
 | .cells .. =>D
 | .map .. =>D
 | .mapIter .. =>D
 |_=>T
abbrev Dr(w:κ)(b:E):Prop:=∃(c:Obj) (_:eD c=D) (_:Unit),w.heap[b]?=Z c
theorem Dr.cells{c:υ μ}{t:ψ}{z:E×E}(h:w.heap[b]?=Z (.cells c t z)):Dr w b:=⟨_,rfl,(),h⟩
structure A1 where
 ng:E
 gi:κ->Prop
 st:∀w w',gi w->AV (λb=>ng<=b) w w'->gi w'
 lo:∀w,gi w->ng<=w.heap.size
structure A9(P:ν)(Γ:A1)(N:Ψ)(h:DH)(ρ:O AN)(w:κ):Prop where
 len:F ρ=F h
 obj:∀(k:E) (o:DO),h[k]?=Z (Z o)->∃p:AN,ρ[k]?=Z p/\Bc P (MS N h ρ) w ρ p o
 cel:∀(k:E) (o:DO) (p:AN) (b:E),h[k]?=Z (Z o)->ρ[k]?=Z p->p.foot b->Γ.ng<=b/\¬N b/\Dr w b
 dis:∀(k k':E) (o o':DO) (p p':AN) (b:E),k≠k'->h[k]?=Z (Z o)->h[k']?=Z (Z o')->ρ[k]?=Z p->ρ[k']?=Z p'->p.foot b->p'.foot b->False
 nlt:∀b,N b->b<w.heap.size/\Γ.ng<=b
 gi:Γ.gi w
structure St where
 fr:O DV
 h:DH
def BJ(ϕ:Ψ)(w:κ)(ρ:O AN)(fr:O DV)(t:υ μ):Prop:=F fr=t.size/\∀i,i<F fr->AL ϕ w (fr.getD i .any) ρ (t.getD i undef)
structure Ad(P:ν)(Γ:A1)(N:Ψ)(S:St)(ρ:O AN)(a:Act)(w:κ):Prop where
 hr:A9 P Γ N S.h ρ w
 fr:BJ (MS N S.h ρ) w ρ S.fr a.tmps
structure BD(h:DH)(ρ:O AN)(w:κ)(h':DH)(ρ':O AN)(w':κ):Prop where
 upd:AV (MO h ρ) w w'
 grow:∀b,MO h' ρ' b->MO h ρ b∨w.heap.size<=b
theorem BD.refl(h:DH)(ρ:O AN)(w:κ):BD h ρ w h ρ w:=⟨AV.refl _ _,λ_ h=>.inl h⟩
variable{q:κ}{ρ' ρ'':O AN}{h' a:DH}
def BD.trans{h:DH}(x:BD h ρ w h' ρ' w')(y:BD h' ρ' w' a ρ'' q):BD h ρ w a ρ'' q:=
 ⟨x.upd.comp y.upd λi hi P=>(x.grow i P).resolve_right Z2,λb c=>(y.grow b c).elim (λh=>x.grow b h) λh=>.inr<|zIX x.upd.size h⟩
structure C6(h:DH)(ρ:O AN)(w:κ)(h':DH)(ρ':O AN)(w':κ):Prop where
 st:BD h ρ w h' ρ' w'
 pl:∀(k:E) (p:AN),ρ[k]?=Z p->ρ'[k]?=Z p
theorem C6.refl(h:DH)(ρ:O AN)(w:κ):C6 h ρ w h ρ w:=⟨BD.refl _ _ _,λ_ _ h=>h⟩
def C6.trans{h:DH}(x:C6 h ρ w h' ρ' w')(y:C6 h' ρ' w' a ρ'' q):C6 h ρ w a ρ'' q:=
 ⟨x.st.trans y.st,λk p f=>y.pl k p<|x.pl k p f⟩
structure BW(ϕ:Ψ)(w:κ)(ρ:O AN)(M':Ψ)(w':κ)(ρ':O AN):Prop where
 blk:∀b,b<w.heap.size->¬ϕ b->(∃c t z,w.heap[b]?=Z (.cells c t z))->w'.heap[b]?=w.heap[b]?
 m:∀b,M' b->ϕ b∨w.heap.size<=b
 pl:∀(k:E) (p:AN),ρ[k]?=Z p->ρ'[k]?=Z p
variable{o:E}
theorem zQE(h:w.cell? ⟨b,o,A⟩=Z ϛ):∃c t z,w.heap[b]?=Z (.cells c t z):=by
 grind[World.cell?]
variable{M':Ψ}
def BW.nil(h:BW ϕ w ρ M' w' ρ'):BW ϕ w [] M' w' []:=⟨h.blk,h.m,λk p f=>by simp at f⟩
def oV(h:w'.heap[b]?=w.heap[b]?):w'.cell? ⟨b,o,A⟩=w.cell? ⟨b,o,A⟩:=by
 unfold World.cell?;rw[h]
theorem BW.cell(h:BW ϕ w ρ M' w' ρ')(t:¬ϕ b)(hc:w.cell? ⟨b,o,A⟩=Z ϛ):w'.cell? ⟨b,o,A⟩=Z ϛ/\¬M' b:=by
 have q:b<w.heap.size:=zLJ w ⟨b,o,A⟩ hc;exact⟨(oV<|h.blk b q t<|zQE hc).trans hc,λP=>(h.m b P).elim t Z2⟩
theorem AL.out :∀(Ϛ:DV) {ρ ρ':O AN} {v:μ},BW ϕ w ρ M' w' ρ'->AL ϕ w Ϛ ρ v->AL M' w' Ϛ ρ' v:=by
 intro Ϛ
 induction Ϛ with
 |any=>intros;trivial
 |nils=>intro ρ ρ' v _ h;exact h
 |int k n=>intro ρ ρ' v _ h;exact h
 |bool b=>intro ρ ρ' v _ h;exact h
 |str s=>intro ρ ρ' v _ h;exact h
 |ints l=>
  rintro ρ ρ' v ϗ ⟨a,cap,e,G,I,J⟩;refine⟨a,cap,e,G,I,λj q=>?_⟩;obtain⟨b,o,K,t,hc⟩:=J j q;obtain⟨x,y⟩:=ϗ.cell t hc;exact⟨b,o,K,y,x⟩
 |bools l=>
  rintro ρ ρ' v ϗ ⟨a,cap,e,G,I,J⟩;refine⟨a,cap,e,G,I,λj q=>?_⟩;obtain⟨b,o,K,t,hc⟩:=J j q;obtain⟨x,y⟩:=ϗ.cell t hc;exact⟨b,o,K,y,x⟩
 |sl m n f z=>
  rintro ρ ρ' v ϗ ⟨a,cap,e,G,I,J⟩;refine⟨a,cap,e,G,I,λi j hi q=>?_⟩;obtain⟨b,o,ϛ,K,t,hc,N⟩:=J i j hi q;obtain⟨x,y⟩:=ϗ.cell t hc;exact⟨b,o,ϛ,K,y,x,z i j ϗ.nil N⟩
 |fp m f z=>
  rintro ρ ρ' v ϗ ⟨b,o,e,h⟩;refine⟨b,o,e,λj q=>?_⟩;obtain⟨t,ϛ,hc,N⟩:=h j q;obtain⟨x,y⟩:=ϗ.cell t hc;exact⟨y,ϛ,x,z j ϗ.nil N⟩
 |agg m f z=>
  grind[AL]
 |tup m f z=>
  grind[AL]
 |ref k j=>rintro ρ ρ' v ϗ ⟨p,h,e⟩;exact⟨p,ϗ.pl _ _ h,e⟩
 |msl k m off n=>rintro ρ ρ' v ϗ ⟨p,cap,h,r⟩;exact⟨p,cap,ϗ.pl _ _ h,r⟩
 |mp k m i j=>rintro ρ ρ' v ϗ ⟨p,h,e⟩;exact⟨p,ϗ.pl _ _ h,e⟩
 |fn g m c z=>
  grind[AL]
 |it k=>rintro ρ ρ' v ϗ ⟨p,h,e⟩;exact⟨p,ϗ.pl _ _ h,e⟩
 |yl l=>intro ρ ρ' v _ h;exact h
 |mse k m off n=>rintro ρ ρ' v ϗ ⟨p,a,cap,h,r⟩;exact⟨p,a,cap,ϗ.pl _ _ h,r⟩
 |mri k i=>rintro ρ ρ' v ϗ ⟨p,vs,h,r⟩;exact⟨p,vs,ϗ.pl _ _ h,r⟩
 |cst ϛ=>intro ρ ρ' v _ h;exact h
 |gr k=>rintro ρ ρ' v ϗ ⟨p,a,n,cap,h,r⟩;exact⟨p,a,n,cap,ϗ.pl _ _ h,r⟩
variable{t:υ μ}
theorem BJ.out{fr:O DV}(h:BJ ϕ w ρ fr t)(ϗ:BW ϕ w ρ M' w' ρ'):BJ M' w' ρ' fr t:=
 ⟨h.1,λi hi=>(h.2 i hi).out _ ϗ⟩
theorem BJ.at{fr:O DV}(h:BJ ϕ w ρ fr t)(i:E):AL ϕ w (fr.getD i .any) ρ<|t.getD i undef:=by
 grind[AL,BJ]
theorem BJ.set{fr:O DV}(h:BJ ϕ w ρ fr t)(i:E){Ϛ:DV}(hv:AL ϕ w Ϛ ρ v):BJ ϕ w ρ (fr.set i Ϛ)<|t.setIfInBounds i v:=by
 refine⟨by simp[h.1],λj l=>?_⟩;rw[zKy]at l;have GJ:j<t.size:=by rw[←h.1];exact l
 have h0:=h.2 j l;simp only[zBD,zLC,zNj,Array.getElem?_setIfInBounds]at h0⊢
 grind
variable{S:Ψ}{P:ν}
def PJ.later{g:E}{s:υ μ}{X:Type}{ι:X->Ψ->κ->υ μ->Prop}{encs:O X}{v:Ending->Ψ->Ψ->κ->Prop}{G0 Rd:Ψ}(h:PJ P g s ι encs v G0 Rd w)(x:AV S w w')(p:∀b,b<w.heap.size->S b->¬(G0 b∨Rd b)):PJ P g s ι encs v G0 Rd w':=
 λl J Jx W a c m=>h l J Jx W a c (x.mono (λi hi e=>p i hi e)|>.trans m)
variable{R:E->μ->Prop}
theorem Ai.out{R':E->μ->Prop}(h:Ai w p n R)(hb:w'.heap[p.blk]?=w.heap[p.blk]?)(hR:∀j ϛ,j<n->R j ϛ->R' j ϛ):Ai w' p n R':=by
 grind[Ai]
theorem Ai.cell(h:Ai w p n R)(hj:j<n):∃ϛ,w.cell? ⟨p.blk,p.off+j,A⟩=Z ϛ/\R j ϛ:=by
 grind[World.cell?,Ai]
theorem Ai.frozen(h:Ai w p n R)(o:E):w.frozen? ⟨p.blk,o,A⟩=T:=by
 grind[World.frozen?,Ai]
def Bc.gr{f:E->E->DV}(h:Bc P ϕ w ρ p<|.gro m n f)(b:∀{n R},Ai w p n R->w'.heap[p.blk]?=w.heap[p.blk]?)(k:∀{Ϛ ϛ},AL ϕ w Ϛ [] ϛ->AL M' w' Ϛ [] ϛ):Bc P M' w' ρ' p<|.gro m n f:=by
 rcases h with h|⟨cap,a,X,e,W,h⟩
 ·exact .inl h
 ·exact .inr ⟨cap,a,X,e,W,Ai.out h (b h) λj ϛ _ h=>k h⟩
theorem Bc.out{o:DO}(h:Bc P ϕ w ρ p o)(ϗ:BW ϕ w ρ M' w' ρ')(c:AV S w w')(y:∀b,S b->ϕ b)(s:∀b,b<w.heap.size->p.foot b->¬S b):Bc P M' w' ρ' p o:=by
 have a:∀{n R},Ai w p n R->w'.heap[p.blk]?=w.heap[p.blk]? :=λ{n R} k=>by
  obtain⟨e,cs,t,g,_⟩:=k;have q:=(zAy.1 g).1;exact c.block _ q (s _ q<|by rw[e])
 cases o with
 |cells l=>grind[AL.out,Bc,Ai]
 |ints l=>grind[Bc,Ai]
 |bools l=>grind[Bc,Ai]
 |arr m n f=>exact Ai.out h (a h) λj ϛ _ k=>AL.out _ ϗ.nil k
 |iter encs=>
  obtain⟨I,z,Rd,e,g,i,W⟩:=h;refine⟨I,z,Rd,e,g.later c λb a v hx=>?_,λb a=>⟨λr=>(ϗ.m b r).elim (i b a).1 (by have:=(i b a).2;omega),zI0 (i b a).2 c.size⟩,λb a=>zI0 (W b a) c.size⟩
  grind
 |ro l=>
  obtain⟨J,G,K⟩:=h
  have q:p.blk<w.heap.size:=by
   grind[Ai]
  exact⟨J,λr=>(ϗ.m _ r).elim G Z2,Ai.out K (c.block _ q λv=>G<|y _ v) λj ϛ _ k=>AL.out _ ϗ k⟩
 |mo x=>exact PH.out h λb a q=>c.block b q<|s b q a
 |gro m n f=>exact Bc.gr h a λk=>AL.out _ ϗ.nil k
section
variable{P:ν}{Γ:A1}{N:Ψ}{h:DH}{ρ:O AN}{w:κ}
variable{k:E}
theorem MO.unset{b:E}(hm:MO (h.set k A) ρ b):MO h ρ b:=by
 grind[MO]
theorem A9.lt(ϗ:A9 P Γ N h ρ w){b:E}(a:MS N h ρ b):b<w.heap.size:=by
 rcases a with a|⟨k,o,p,e,f,m⟩
 ·exact(ϗ.nlt b a).1
 ·obtain⟨_,_,c,t,z,h4⟩:=ϗ.cel k o p b e f m
  grind
def A9.low(ϗ:A9 P Γ N h ρ w){b:E}(a:MO h ρ b):Γ.ng<=b:=by
 obtain⟨k,o,p,c,e,m⟩:=a;exact(ϗ.cel k o p b c e m).1
def A9.lt2(ϗ:A9 P Γ N h ρ w){b:E}(a:MS N h ρ b):b<w.heap.size/\Γ.ng<=b:=⟨ϗ.lt a,a.elim (λh=>(ϗ.nlt b h).2) ϗ.low⟩
theorem A9.ext(ϗ:A9 P Γ N h ρ w){w':κ}(l:A0 w w'):A9 P Γ N h ρ w':=by
 have ϐ:BW (MS N h ρ) w ρ (MS N h ρ) w' ρ:=⟨λb a _ _=>zRt l b a,λb h=>.inl h,λ_ _ h=>h⟩;refine⟨ϗ.len,λk o f=>?_,λk o p b e g m=>?_,ϗ.dis,λb a=>⟨zI0 (ϗ.nlt b a).1 l.size,(ϗ.nlt b a).2⟩,Γ.st _ _ ϗ.gi<|AV.ofExt l⟩
 ·obtain⟨p,i,K⟩:=ϗ.obj k o f;exact⟨p,i,K.out ϐ (S:=λ_=>False) (AV.ofExt l) (λ_ h=>h.elim) λ_ _ _ h=>h⟩
 ·obtain⟨g1,g2,c,t,z,g3⟩:=ϗ.cel k o p b e g m
  grind[Below.block,A0]
def BW.ext{ϕ:Ψ}{w w':κ}(ρ:O AN)(l:A0 w w'):BW ϕ w ρ ϕ w' ρ:=⟨λb a _ _=>zRt l b a,λb h=>.inl h,λ_ _ h=>h⟩
def BD.ext{w w':κ}(l:A0 w w'):BD h ρ w h ρ w':=⟨AV.ofExt l,λ_ h=>.inl h⟩
variable{α:Type}
theorem Ec{l:O α}{x y:α}(hk:(l++[x])[k]?=Z y):(k<F l/\l[k]?=Z y)∨(k=F l/\x=y):=by
 grind
theorem Eo{l:O α}{x y:α}(hk:l[k]?=Z y):(l++[x])[k]?=Z y:=by
 grind
theorem MO.snoc(ϗ:A9 P Γ N h ρ w){o:DO}{p:AN}{b:E}(e:MO (h++[Z o]) (ρ++[p]) b):MO h ρ b∨p.foot b:=by
 obtain⟨k,o',p',a,c,m⟩:=e;rcases Ec a with⟨q,a⟩|⟨q,a⟩
 ·grind[MO]
 ·rcases Ec c with⟨Y,_⟩|⟨_,c⟩
  ·rw[ϗ.len,←q]at Y;omega
  ·subst c;exact .inr m
theorem A9.snoc(ϗ:A9 P Γ N h ρ w){w':κ}(l:A0 w w'){o:DO}{p:AN}(i:∀b,p.foot b->w.heap.size<=b/\Dr w' b)
 (K:Bc P (MS N (h++[Z o])<|ρ++[p]) w' (ρ++[p]) p o):A9 P Γ N (h++[Z o]) (ρ++[p]) w':=by
 have ϐ:BW (MS N h ρ) w ρ (MS N (h++[Z o])<|ρ++[p]) w'<|ρ++[p]:=by
  refine⟨λb hb _ _=>zRt l b hb,λb hb=>?_,λk q g=>Eo g⟩;rcases hb with hb|hb
  ·exact .inl<|.inl hb
  ·rcases MO.snoc ϗ hb with hb|hb
   ·exact .inl<|.inr hb
   ·exact .inr (i b hb).1
 refine⟨by simp[ϗ.len],λk o' g=>?_,λk o' p' b f a m=>?_,λk X o1 j n x b Q f a m W r v=>?_,λb hb=>⟨zI0 (ϗ.nlt b hb).1 l.size,(ϗ.nlt b hb).2⟩,Γ.st _ _ ϗ.gi<|AV.ofExt l⟩
 ·rcases Ec g with⟨e,g⟩|⟨e,g⟩
  ·obtain⟨p',G,I⟩:=ϗ.obj k o' g;exact⟨p',Eo G,I.out ϐ (S:=λ_=>False) (AV.ofExt l) (λ_ h=>h.elim) λ_ _ _ h=>h⟩
  ·cases g;exact⟨p,by rw[e,←ϗ.len];simp,K⟩
 ·rcases Ec f with⟨e,f⟩|⟨e,f⟩
  ·rcases Ec a with⟨_,a⟩|⟨Y,_⟩
   ·obtain⟨s,y,c,t,z,g3⟩:=ϗ.cel k o' p' b f a m
    grind[Below.block,A0]
   ·rw[Y,ϗ.len]at e;omega
  ·rcases Ec a with⟨Y,_⟩|⟨_,a⟩
   ·rw[ϗ.len,←e]at Y;omega
   ·subst a;obtain⟨s,y⟩:=i b m;exact⟨zIX (Γ.lo _ ϗ.gi) s,λJ=>by have:=ϗ.nlt b J;omega,y⟩
 ·have OE:∀{k:E} {o':DO} {p':AN},(h++[Z o])[k]?=Z (Z o')->(ρ++[p])[k]?=Z p'->p'.foot b->k≠F h->b<w.heap.size:=by
   intro k o' p' f a m Q;rcases Ec f with⟨e,f⟩|⟨e,f⟩
   ·rcases Ec a with⟨_,a⟩|⟨Y,_⟩
    ·exact ϗ.lt<|.inr ⟨k,o',p',f,a,m⟩
    ·rw[Y,ϗ.len]at e;omega
   ·exact τ e Q
  have new:∀{k:E} {o':DO} {p':AN},(h++[Z o])[k]?=Z (Z o')->(ρ++[p])[k]?=Z p'->p'.foot b->k=F h->w.heap.size<=b:=by
   intro k o' p' f a m R;rcases Ec a with⟨Y,_⟩|⟨_,a⟩
   ·rw[ϗ.len,←R]at Y;omega
   grind
  by_cases V:k=F h
  ·grind
  ·by_cases e2:X=F h
   ·grind
   ·rcases Ec f with⟨_,f⟩|⟨e,_⟩
    ·rcases Ec a with⟨_,a⟩|⟨e,_⟩
     ·rcases Ec m with⟨_,m⟩|⟨e,_⟩
      ·rcases Ec W with⟨_,W⟩|⟨e,_⟩
       ·exact ϗ.dis k X o1 j n x b Q f a m W r v
       grind
      grind
     ·exact e2 e
    ·exact V e
def BW.snoc(ϗ:A9 P Γ N h ρ w){w':κ}(l:A0 w w'){o:DO}{p:AN}(a:∀b,p.foot b->w.heap.size<=b):BW (MS N h ρ) w ρ (MS N (h++[Z o])<|ρ++[p]) w'<|ρ++[p]:=by
 refine⟨λb hb _ _=>zRt l b hb,λb hb=>?_,λk q f=>Eo f⟩;rcases hb with hb|hb
 ·exact .inl<|.inl hb
 ·rcases MO.snoc ϗ hb with hb|hb
  ·exact .inl<|.inr hb
  ·exact .inr<|a b hb
def BD.snoc(ϗ:A9 P Γ N h ρ w){w':κ}(l:A0 w w'){o:DO}{p:AN}(q:∀b,p.foot b->w.heap.size<=b):BD h ρ w (h++[Z o]) (ρ++[p]) w':=
 ⟨AV.ofExt l,λb a=>(MO.snoc ϗ a).imp id<|q b⟩
variable{o':DO}
theorem MO.set{o:DO}(hk:h[k]?=Z (Z o)){b:E}:MO (h.set k<|Z o') ρ b↔MO h ρ b:=by
 grind[MO]
def MS.set{o:DO}(f:h[k]?=Z (Z o)){b:E}:MS N (h.set k<|Z o') ρ b↔MS N h ρ b:=by unfold MS;rw[MO.set f]
theorem A9.write(ϗ:A9 P Γ N h ρ w){w':κ}{o:DO}{p:AN}(j:h[k]?=Z (Z o))(l:ρ[k]?=Z p)(x:AV p.foot w w')
 (hc:∀b,p.foot b->Dr w' b) (ho:Bc P (MS N (h.set k<|Z o') ρ) w' ρ p o'):A9 P Γ N (h.set k<|Z o') ρ w':=by
 have v:∀b,p.foot b->MS N h ρ b:=λb a=>.inr ⟨k,o,p,j,l,a⟩
 have ϐ:BW (MS N h ρ) w ρ (MS N (h.set k<|Z o') ρ) w' ρ:=⟨λb a R _=>x.block b a λr=>R<|v b r,λb a=>.inl<|(MS.set j).1 a,λ_ _ h=>h⟩;have q:∀{i:E} {o1:DO},i≠k->(h.set k<|Z o')[i]?=Z (Z o1)->h[i]?=Z (Z o1):=λ{i} {o1} Q f=>Z4
 refine⟨by simp[ϗ.len],λi o1 hi=>?_,λi o1 s b f g m=>?_,λi S o1 G s V b Q f g m W X Y=>?_,λb a=>⟨zI0 (ϗ.nlt b a).1 x.size,(ϗ.nlt b a).2⟩,Γ.st _ _ ϗ.gi<|x.mono λb _ a=>(ϗ.cel k o p b j l a).1⟩
 ·by_cases e:i=k
  ·grind
  ·obtain⟨s,I,hr⟩:=ϗ.obj i o1<|q e hi;exact⟨s,I,hr.out ϐ x v λb _ f g=>ϗ.dis i k o1 o s p b e (q e hi) j I l f g⟩
 ·by_cases e:i=k
  ·subst e;have:p=s:=zBH<|l.symm.trans g;subst this;obtain⟨n,y,_⟩:=ϗ.cel i o p b j l m;exact⟨n,y,hc b m⟩
  ·obtain⟨n,y,c,t,z,J⟩:=ϗ.cel i o1 s b (q e f) g m;refine⟨n,y,c,t,z,(x.block b (zAy.1 J).1 λr=>ϗ.dis i k o1 o s p b e (q e f) j g l m r).trans J⟩
 ·have K:∀{i:E} {o1:DO},(h.set k<|Z o')[i]?=Z (Z o1)->∃G,h[i]?=Z (Z G):=λ{i} {o1} f=>by
   grind
  obtain⟨q1,n⟩:=K f;obtain⟨q2,y⟩:=K g;exact ϗ.dis i S q1 q2 s V b Q n y m W X Y
def BW.write(hN:True){w':κ}{o:DO}{p:AN}(f:h[k]?=Z (Z o))(c:ρ[k]?=Z p)(x:AV p.foot w w'):BW (MS N h ρ) w ρ (MS N (h.set k<|Z o') ρ) w' ρ:=
 ⟨λb a P _=>x.block b a λi=>P<|.inr ⟨k,o,p,f,c,i⟩,λb a=>.inl<|(MS.set f).1 a,λ_ _ h=>h⟩
def BD.write{w':κ}{o:DO}{p:AN}(f:h[k]?=Z (Z o))(c:ρ[k]?=Z p)(x:AV p.foot w w'):BD h ρ w (h.set k<|Z o') ρ w':=
 ⟨x.mono λb _ a=>⟨k,o,p,f,c,a⟩,λb a=>.inl<|(MO.set f).1 a⟩
end
end
abbrev zBT:=@Nat.not_lt_zero
abbrev zKr:=@Bool.not_eq_true'
abbrev zKz:=@Go.run_underlying
abbrev zK0:=@Option.some.injEq
abbrev zK9:=@decide_eq_true_eq
abbrev zLE:=@Prod.mk.injEq
abbrev zNU:=@Nat.mul_le_mul_right
abbrev zRU:=@Nat.add_mul
abbrev zRa:=@Nat.mul_comm
abbrev zRj:=@Option.isSome_iff_exists
abbrev zRk:=@Nat.add_assoc
def OF:μ->DV
 | .int k n=>.int k n
 | .bool b=>.bool b
 | .string s=>.str s
 | .slice A 0 0=>.nils
 |v=>u v.oneCell' (.cst v) .any
def Ak(fr:O DV):Operand->DV
 | .tmp t=>fr.getD t .any
 | .const v=>OF v
 | .global _=>.any
 | .func f=>.fn f 0 λ_=>.any
def JI(P:ν)(t:ψ):ζ:=match P.underlying t with
 |some (.struct _)=>D
 |some (.array _ _)=>D
 |_=>T
def Q6(P:ν)(t:ψ)(m:E):ζ:=match P.underlying t with
 |some (.slice e)=>match P.info? e with
  |some i=>i.size==m&&m != 0
  |none=>T
 |_=>T
def Gc(P:ν)(t:ψ):ζ:=(P.underlying t).isSome&&!JI P t
def Yp(P:ν)(t:ψ)(m:E):ζ:=JI P t&&(match P.info? t with|some i=>i.size==m|none=>T)
def fM(P:ν)(s:ψ)(f:E):X5:=match P.underlying s with
 |some (.struct n)=>match n[f]? with
  |some l=>match P.info? l.type with
   |some i=>u (i.size=0) A<|Z (l.offset,i.size)
   |none=>A
  |none=>A
 |_=>A
def Yj(P:ν)(t:ψ):X5:=match P.underlying t with
 |some (.array n e)=>match P.info? e with
  |some i=>u (n<=1) A<|Z (n,i.size)
  |none=>A
 |_=>A
def li(P:ν)(t:ψ):M IntKind:=match P.underlying t with
 |some (.int k)=>Z k
 |_=>A
def gh(m:BinOp)(k:IntKind)(a b:U):M<|DV×Prop:=match m with
 | .add=>Z (.int k<|k.wrap<|a+b,True)
 | .sub=>Z (.int k<|k.wrap<|a-b,True)
 | .mul=>Z (.int k<|k.wrap<|a*b,True)
 | .and=>Z (.int k<|bits .and k a b,True)
 | .or=>Z (.int k<|bits .or k a b,True)
 | .xor=>Z (.int k<|bits .xor k a b,True)
 | .andNot=>Z (.int k<|bits .andNot k a b,True)
 | .eql=>Z (.bool<|a==b,True)
 | .neq=>Z (.bool<|a != b,True)
 | .lss=>Z (.bool<|C<|a<b,True)
 | .leq=>Z (.bool<|C<|a<=b,True)
 | .gtr=>Z (.bool<|C<|a>b,True)
 | .geq=>Z (.bool<|C<|a>=b,True)
 |_=>A
def Ud(P:ν)(t:ψ):E:=match P.underlying t with
 |some .bool=>1
 |some (.slice _)=>2
 |_=>0
def gj(c:E)(op:BinOp)(x y:DV):M<|DV×Prop:=match op,x,y with
 | .eql,.bool a,.bool b=>u (c=1) (Z (.bool<|a==b,True)) A
 | .neq,.bool a,.bool b=>u (c=1) (Z (.bool<|!(a==b),True)) A
 | .eql,.ints l,.nils=>u (c=2) (Z (.bool T,0<F l)) A
 | .eql,.bools l,.nils=>u (c=2) (Z (.bool T,0<F l)) A
 | .neq,.ints l,.nils=>u (c=2) (Z (.bool D,0<F l)) A
 | .shl,.int k a,.int _ b=>Z (.int k<|k.wrap<|a*2^b.toNat,0<=b/\b<=k.bits)
 | .shr,.int k a,.int _ b=>Z (.int k<|a/2^b.toNat,0<=b/\b<=k.bits)
 | .quo,.int k a,.int X b=>u (k=X) (Z (.int k<|k.wrap<|a.tdiv b,b≠0)) A
 | .rem,.int k a,.int X b=>u (k=X) (Z (.int k<|a.tmod b,b≠0)) A
 |op,.int k a,.int X b=>u (k=X) (gh op k a b) A
 |_,_,_=>A
def QR(P:ν)(S:St)(t:ψ):DV->M (DV×Prop)
 | .fp m f=>u (Gc P t) (u (m=0) A<|Z (f 0,True))<|u (Yp P t m) (Z (.agg m f,True)) A
 | .ref k j=>match S.h[k]? with
  |some (Z<|.cells l)=>if Gc P t then u (j<F l) (Z (l.getD j .any,True)) A
   else match P.info? t with
    |some i=>u (JI P t&&C (j+i.size<=F l)) (Z (.agg i.size<|F8 i.size λc=>l.getD (j+c) .any,True)) A
    |none=>A
  |some (Z<|.ro l)=>if Gc P t then u (j<F l) (Z (l.getD j .any,True)) A
   else match P.info? t with
    |some i=>u (JI P t&&C (j+i.size<=F l)) (Z (.agg i.size<|F8 i.size λc=>l.getD (j+c) .any,True)) A
    |none=>A
  |_=>A
 | .mp k m i j=>match S.h[k]? with
  |some (Z<|.ints l)=>u (Gc P t&&(m==1)&&(j==0)) (Z (.int .i64<|H l i 0,i<F l)) A
  |some (Z<|.bools l)=>u (Gc P t&&(m==1)&&(j==0)) (Z (.bool<|l.getD i T,i<F l)) A
  |some (Z<|.arr b n f)=>if Gc P t&&(m==b)&&C (j<m)then Z (f i j,i<n)
   else u (Yp P t m&&(m==b)&&(j==0)) (Z (.agg m<|f i,i<n)) A
  |some (Z<|.mo<|.sets _ a _)=>u (Gc P t&&(m==1)&&(j==0)) (Z (.mri k i,i<F a)) A
  |some (Z<|.mo<|.rws a A)=>u (Gc P t&&(m==1)&&(j==0)) (Z (.mri k<|i+1,i<F a)) A
  |_=>A
 |_=>A
def lu(P:ν)(t:ψ)(x:DV)(n:U):M<|DV×Prop:=match x with
 | .ints l=>u (Q6 P t 1) (Z (.fp 1 λ_=>.int .i64<|H l n.toNat 0,0<=n/\n<F l)) A
 | .bools l=>u (Q6 P t 1) (Z (.fp 1 λ_=>.bool<|l.getD n.toNat T,0<=n/\n<F l)) A
 | .sl m c f=>u (Q6 P t m) (Z (.fp m<|f n.toNat,0<=n/\n<c)) A
 | .msl k m off c=>u (Q6 P t m) (Z (.mp k m (off+n.toNat) 0,0<=n/\n<c)) A
 | .ref k j=>match Yj P t with
  |some (len,a)=>Z (.ref k<|j+n.toNat*a,0<=n/\n<len)
  |none=>A
 | .mp k m i 0=>match Yj P t with
  |some (len,a)=>u (a=m) (Z (.mp k m (i+n.toNat) 0,0<=n/\n<len)) A
  |none=>A
 | .fp m f=>match Yj P t with
  |some (len,a)=>u (n.toNat*a+a<=m) (Z (.fp a<|F8 a λj=>f<|n.toNat*a+j,0<=n/\n<len)) A
  |none=>A
 |_=>A
def dG(P:ν)(t:ψ)(Ϛ:DV):M<|DV×Prop:=match P.underlying t,Ϛ with
 |some (.slice _),.nils=>Z (.int .i64 0,True)
 |some (.slice _),.ints l=>Z (.int .i64<|F l,True)
 |some (.slice _),.bools l=>Z (.int .i64<|F l,True)
 |some (.slice _),.sl _ n _=>Z (.int .i64 n,True)
 |some (.slice _),.msl _ _ _ n=>Z (.int .i64 n,True)
 |some .string,.str s=>Z (.int .i64 s.size,True)
 |_,_=>A
def lC(x y:DV):M<|DV×Prop:=match x,y with
 | .int k a,.int _ b=>Z (.int k<|u (b>a) b a,True)
 |_,_=>A
def lA(x y:DV):M<|DV×Prop:=match x,y with
 | .int k a,.int _ b=>Z (.int k<|u (b<a) b a,True)
 |_,_=>A
def dF(P:ν)(S:St)(t:ψ)(Ϛ:DV):M<|DV×Prop:=match Ϛ with
 | .gr k=>match P.underlying t,S.h[k]? with
  |some (.slice _),Z (Z<|.gro _ n _)=>Z (.int .i64 n,True)
  |_,_=>A
 |Ϛ=>dG P t Ϛ
def gY(P:ν)(S:St)(b:Builtin)(args:O Operand)(a:O ψ):M<|DV×Prop:=match b with
 | .len=>match args with
  |[x]=>match a with
   |[t]=>dF P S t<|Ak S.fr x
   |_=>A
  |_=>A
 | .max=>match args with
  |[x,y]=>lC (Ak S.fr x)<|Ak S.fr y
  |_=>A
 | .min=>match args with
  |[x,y]=>lA (Ak S.fr x)<|Ak S.fr y
  |_=>A
 |_=>A
def TH(P:ν)(S:St):Op->M (DV×Prop)
 | .move x=>Z (Ak S.fr x,True)
 | .assign x=>Z (Ak S.fr x,True)
 | .pick c a b=>match Ak S.fr c with
  | .bool D=>Z (Ak S.fr a,True)
  | .bool T=>Z (Ak S.fr b,True)
  |_=>A
 | .load t x=>QR P S t<|Ak S.fr x
 | .binOp e t x y _=>gj (Ud P t) e (Ak S.fr x)<|Ak S.fr y
 | .unOp e _ x=>match e,Ak S.fr x with
  | .not,.bool b=>Z (.bool !b,True)
  | .neg,.int k n=>Z (.int k<|k.wrap<|0-n,True)
  | .xor,.int k n=>Z (.int k<|bits .xor k (u k.signed (-1) k.max) n,True)
  |_,_=>A
 | .convert s Ϛ x=>match P.underlying s,li P Ϛ,Ak S.fr x with
  |some _,Z k,.int _ n=>Z (.int k<|k.wrap n,True)
  |_,_,_=>A
 | .nilCheck x=>match Ak S.fr x with
  | .fp m f=>Z (.fp m f,True)
  | .ref k j=>Z (.ref k j,True)
  | .mp k m i j=>Z (.mp k m i j,True)
  | .fn g m c=>Z (.fn g m c,True)
  |_=>A
 | .fieldAddr s x f=>match fM P s f with
  |some (off,h)=>match Ak S.fr x with
   | .fp m g=>u (off+h<=m) (Z (.fp h<|F8 h λj=>g<|off+j,True)) A
   | .ref k j=>Z (.ref k<|j+off,True)
   | .mp k m i j=>Z (.mp k m i<|j+off,True)
   |_=>A
  |none=>A
 | .indexAddr t x i=>match Ak S.fr i with
  | .int _ n=>lu P t (Ak S.fr x) n
  |_=>A
 | .extract x i=>match Ak S.fr x with
  | .tup m f=>u (i<m) (Z (f i,True)) A
  |_=>A
 | .makeFunc (.func g) first c=>u (first.size=0) (Z (.fn g c.size<|F8 c.size λj=>Ak S.fr<|c.getD j<|.const undef,True)) A
 | .call c=>match c.callee with
  | .builtin b=>gY P S b c.args.toList c.argTypes.toList
  |_=>A
 |_=>A
section
variable{P:ν}{Γ:A1}{N:Ψ}{S:St}{ρ:O AN}{a:Act}{w:κ}
variable{ϕ:Ψ}
theorem cQ(v:μ):AL ϕ w (OF v) ρ v:=by
 unfold OF;split
 ·rfl
 ·rfl
 ·rfl
 ·rfl
 grind[AL]
theorem Bo(R:Ad P Γ N S ρ a w)(x:Operand):AL (MS N S.h ρ) w (Ak S.fr x) ρ<|a.eval x:=by
 cases x with
 |tmp t=>exact R.fr.at t
 |const v=>exact cQ v
 |global g=>trivial
 |func f=>exact⟨#[],rfl,rfl,λj l=>τ l<|zBT j⟩
variable{t:ψ}
def Vc{Ϛ:TypeDesc}(h:P.underlying t=Z Ϛ):(isAgg t).run P w=.ok (JI P t) w:=by
 unfold isAgg JI;rw[zK6,zKz h];simp only[Result.andThen,h];cases Ϛ <;> rfl
variable{i:TypeInfo}
theorem Kl(h:P.info? t=Z i):(sizeOf t).run P w=.ok i.size w:=by
 grind[run_sizeOf,Program.cellsOf]
variable{ϛ:μ}
theorem zFC{b:Addr}(h:Gc P t=D)(hc:w.cell? b=Z ϛ):(loadVar t b).run P w=.ok ϛ w:=by
 unfold Gc at h;simp only[zAx,zRj,zKr]at h;obtain⟨⟨Ϛ,hd⟩,hn⟩:=h
 simp_all[loadVar,Vc]
theorem we(h:JI P t=D):∃Ϛ,P.underlying t=Z Ϛ:=by
 grind[JI]
variable{b o:E}
theorem zFD(h:JI P t=D)(hi:P.info? t=Z i)(g:E->μ)(hc:∀j,j<i.size->w.cell? ⟨b,o+j,A⟩=Z (g j)):
 (loadVar t ⟨b,o,A⟩).run P w=.ok (.agg ((θ i.size).map g).toArray) w:=by
 obtain⟨Ϛ,z⟩:=we h;unfold loadVar;rw[zK6,Vc z];simp only[Result.andThen,h,zMt];rw[zK6,Kl hi];simp only[Result.andThen]
 rw[zK6,run_loadCells w ⟨b,o,A⟩ i.size g (λj hj=>by
  grind[Addr.add])]
 simp[Result.andThen]
def Keep(N:Ψ)(w W:κ):Prop:=∀b o ϛ,¬N b->w.cell? ⟨b,o,A⟩=Z ϛ->W.cell? ⟨b,o,A⟩=Z ϛ
variable{W:κ}
def Keep.ofExt{N:Ψ}{w:κ}(h:A0 w W):Keep N w W:=λ_ _ _ _ hc=>h.cell hc
def Yl(P:ν)(N:Ψ)(w:κ)(ϕ:Ψ)(ρ:O AN)(s:Sem μ)(Ϛ:DV):Prop:=∃v,(∀W,Keep N w W->s.run P W=.ok v W)/\AL ϕ w Ϛ ρ v
variable{n:E}
theorem Sk{k:E}{o:DO}{p:AN}{Rw:E->μ->Prop}(R:Ad P Γ N S ρ a w)(f:S.h[k]?=Z (Z o))(b:ρ[k]?=Z p)(c:Ai w p n Rw):¬N p.blk:=(R.hr.cel k o p p.blk f b<|by rw[c.1]).2.1
variable{v:μ}{f:E->DV}{m:E}
def fD(h:AL ϕ w (.fp m f) ρ v):∃b o,v=.pointer (Z ⟨b,o,A⟩)/\∀j,j<m->¬ϕ b/\∃ϛ,w.cell? ⟨b,o+j,A⟩=Z ϛ/\AL ϕ w (f j) [] ϛ:=h
variable{Ϛ:DV}
theorem Vw(h:AL ϕ w Ϛ [] v):AL ϕ w Ϛ ρ v:=h.out Ϛ ⟨λ_ _ _ _=>rfl,λ_ h=>.inl h,λk p f=>by simp at f⟩
theorem sX{b:Addr}:(Instr.loadAt t<|.pointer<|Z b).run P W=(loadVar t b).run P W:=rfl
theorem ON(hN:¬N b)(h1:Gc P t=D)(hc:w.cell? ⟨b,o,A⟩=Z ϛ)(k:AL ϕ w Ϛ ρ ϛ):Yl P N w ϕ ρ (Instr.loadAt t<|.pointer<|Z ⟨b,o,A⟩) Ϛ:=
 ⟨ϛ,λW hE=>by grind[sX,zFC,Keep],k⟩
theorem dD(a:0<i.size->¬N b)(c:JI P t=D)(hi:P.info? t=Z i)(h:∀j,j<i.size->∃ϛ,w.cell? ⟨b,o+j,A⟩=Z ϛ/\AL ϕ w (f j) ρ ϛ):
 Yl P N w ϕ ρ (Instr.loadAt t<|.pointer<|Z ⟨b,o,A⟩) (.agg i.size f):=by
 obtain⟨g,e⟩:∃g:E->μ,∀j,j<i.size->w.cell? ⟨b,o+j,A⟩=Z (g j)/\AL ϕ w (f j) ρ (g j):=by
  refine⟨λj=>(w.cell? ⟨b,o+j,A⟩).getD undef,λj l=>?_⟩
  grind
 refine⟨_,λW k=>by exact zFD c hi g λj l=>k _ _ _ (a Z2) (e j l).1,_,rfl,Z3,λj l=>?_⟩
 grind
theorem pP(h:Yp P t m=D):JI P t=D/\∃i,P.info? t=Z i/\i.size=m:=by
 unfold Yp at h
 grind
variable{x:DV}
theorem wC(R:Ad P Γ N S ρ a w){W:Prop}(Q:AL (MS N S.h ρ) w x ρ v)(h:QR P S t x=Z (Ϛ,W))(V:W):
 Yl P N w (MS N S.h ρ) ρ (Instr.loadAt t v) Ϛ:=by
 unfold QR at h;split at h
 ·obtain⟨b,o,rfl,hc⟩:=fD Q;split at h
  ·rename_i g;split at h
   ·cases h
   ·cases h;obtain⟨hM,ϛ,J,K⟩:=hc 0 Z2
    grind[ON,Vw,MS]
  ·split at h
   ·rename_i y;cases h;obtain⟨Y,i,hi,rfl⟩:=pP y
    grind[dD,Vw,MS]
   ·cases h
 ·rename_i k j;obtain⟨p,r,rfl⟩:=Q;split at h
  ·rename_i l q;obtain⟨p',s,G⟩:=R.hr.obj k _ q;have e:p'=p:=zBH<|s.symm.trans r;subst e;split at h
   ·grind[Ai.cell,ON,Sk,Bc]
   ·split at h
    ·rename_i i hi;split at h
     ·rename_i y;cases h;simp only[zAx,zK9]at y;refine dD (λ_=>Sk R q r G) y.1 hi λc hc=>?_
      grind[Ai.cell,F8,Bc]
     ·cases h
    ·cases h
  ·rename_i l q;obtain⟨p',s,_,r2,G⟩:=R.hr.obj k _ q;have e:p'=p:=zBH<|s.symm.trans r;subst e;split at h
   ·grind[Ai.cell,ON,MS]
   ·split at h
    ·rename_i i hi;split at h
     ·rename_i y;cases h;simp only[zAx,zK9]at y;refine dD (λ_ h=>r2<|.inl h) y.1 hi λc hc=>?_
      grind[Ai.cell,F8]
     ·cases h
    ·cases h
  ·cases h
 ·rename_i k m i j;obtain⟨p,r,rfl⟩:=Q;split at h
  ·rename_i l q;obtain⟨p',s,G⟩:=R.hr.obj k _ q;have e:p'=p:=zBH<|s.symm.trans r;subst e;split at h
   ·rename_i g;cases h;simp only[zAx,zKq]at g;obtain⟨⟨g,rfl⟩,rfl⟩:=g;obtain⟨ϛ,J,K⟩:=Ai.cell G V;exact ON (Sk R q r G) g (by simpa using J) K
   ·cases h
  ·rename_i l q;obtain⟨p',s,G⟩:=R.hr.obj k _ q;have e:p'=p:=zBH<|s.symm.trans r;subst e;split at h
   ·rename_i g;cases h;simp only[zAx,zKq]at g;obtain⟨⟨g,rfl⟩,rfl⟩:=g;obtain⟨ϛ,J,K⟩:=Ai.cell G V;exact ON (Sk R q r G) g (by simpa using J) K
   ·cases h
  ·rename_i z n f q;obtain⟨p',s,G⟩:=R.hr.obj k _ q;have e:p'=p:=zBH<|s.symm.trans r;subst e
   have inb:∀{i j:E},i<n->j<z->i*z+j<n*z:=λ{i j} hi X=>by
    have:(i+1)*z<=n*z:=zNU _ hi
    grind
   have dv:∀{i j:E},j<z->(i*z+j)/z=i/\(i*z+j)%z=j:=λ{i j} X=>by
    have hm:0<z:=Z2
    simp_all[zRa,Nat.mul_add_div,Nat.mod_eq_of_lt]
   split at h
   ·rename_i g;cases h;simp only[zAx,zKq,zK9]at g;obtain⟨⟨g,rfl⟩,X⟩:=g
    grind[Ai.cell,ON,Sk,Vw,Bc]
   ·split at h
    ·rename_i y;cases h;simp only[zAx,zKq]at y;obtain⟨⟨y,rfl⟩,rfl⟩:=y;obtain⟨Y,ti,hi,rfl⟩:=pP y
     grind[dD,Sk,Ai.cell,Vw,Bc]
    ·cases h
  ·rename_i n ls lk q;obtain⟨p',s,vs,I⟩:=R.hr.obj k _ q;have e:p'=p:=zBH<|s.symm.trans r;subst e;split at h
   ·rename_i g;cases h;simp only[zAx,zKq]at g;obtain⟨⟨g,rfl⟩,rfl⟩:=g;obtain⟨cs,tt,q1,q2,q3,q4⟩:=I.row;have hi:i<vs.size:=by rw[I.size];exact V
    refine ON (ϛ:=vs[i]) (R.hr.cel k _ p' p'.blk q r I.blk).2.1 g ?_ ⟨p',vs,r,I.val,zNM hi⟩
    grind[World.cell?]
   ·cases h
  ·rename_i ls q;obtain⟨p',s,vs,I⟩:=R.hr.obj k _ q;have e:p'=p:=zBH<|s.symm.trans r;subst e;split at h
   ·rename_i g;cases h;simp only[zAx,zKq]at g;obtain⟨⟨g,rfl⟩,rfl⟩:=g;obtain⟨cs,tt,q1,q2,q3,q4⟩:=I.row;have hi:i+1<vs.size:=by rw[I.size];omega
    refine ON (ϛ:=vs[i+1]) (R.hr.cel k _ p' p'.blk q r I.blk).2.1 g ?_ ⟨p',vs,r,I.val,zNM hi⟩
    grind[World.cell?]
   ·cases h
  ·cases h
 ·cases h
variable{s:Sem μ}
def Yl.pure(h:∀W,s.run P W=.ok v W)(k:AL ϕ w Ϛ ρ v):Yl P N w ϕ ρ s Ϛ:=⟨v,λW _=>h W,k⟩
theorem zN(h:Q6 P t m=D):P.underlying t=Z (.slice<|P.elem t)/\(∃i,P.info? (P.elem t)=Z i/\i.size=m)/\m≠0:=by
 grind[Q6,Program.elem]
theorem o9(h:Yj P t=Z (n,m)):P.underlying t=Z (.array (P.arrayLen t)<|P.elem t)/\P.arrayLen t=n/\∃i,P.info? (P.elem t)=Z i/\i.size=m:=by
 grind[Yj,Program.elem,Program.arrayLen]
theorem KW(b o n:E):Addr.add ⟨b,o,A⟩ n=⟨b,o+n,A⟩:=by
 grind[Addr.add]
variable{k:IntKind}
theorem aO{len cap:E}{n:U}(h:Q6 P t m=D)(h1:0<=n)(h2:n<len)(W:κ):
 (Instr.indexAt t (.slice (Z ⟨b,o,A⟩) len cap)<|.int k n).run P W=.ok (.pointer<|Z ⟨b,o+n.toNat*m,A⟩) W:=by
 obtain⟨hu,⟨i,hi,rfl⟩,_⟩:=zN h
 simp_all[run_indexAt_slice,Kl,KW]
theorem zKt(R:Ad P Γ N S ρ a w){K:Prop}{n:U}(q:AL (MS N S.h ρ) w x ρ v)(h:lu P t x n=Z (Ϛ,K))(g:K):
 Yl P N w (MS N S.h ρ) ρ (Instr.indexAt t v<|.int k n) Ϛ:=by
 unfold lu at h;split at h
 ·obtain⟨Q,cap,rfl,G,I,r⟩:=q;split at h
  ·rename_i l;cases h;obtain⟨b,o,rfl,s,hc⟩:=r n.toNat Z2;refine Yl.pure (λW=>aO l g.1 g.2 W) ⟨b,o+n.toNat*1,rfl,λj J=>⟨s,_,?_,rfl⟩⟩
   grind
  ·cases h
 ·obtain⟨Q,cap,rfl,G,I,r⟩:=q;split at h
  ·rename_i l;cases h;obtain⟨b,o,rfl,s,hc⟩:=r n.toNat Z2;refine Yl.pure (λW=>aO l g.1 g.2 W) ⟨b,o+n.toNat*1,rfl,λj J=>⟨s,_,?_,rfl⟩⟩
   grind
  ·cases h
 ·rename_i m c f;obtain⟨Q,cap,rfl,G,I,r⟩:=q;split at h
  ·rename_i l;cases h;have hm:=(zN l).2;obtain⟨b,o,ϛ,rfl,s,hc,hr⟩:=r n.toNat 0 Z2 Z2;refine Yl.pure (λW=>aO l g.1 g.2 W) ⟨b,o+n.toNat*m,rfl,λj J=>?_⟩;obtain⟨b',o',u',e,hM',Dc,Cg⟩:=r n.toNat j Z2 J
   grind
  ·cases h
 ·obtain⟨p,cap,y,rfl,G,I,r⟩:=q;split at h
  ·rename_i l;cases h;exact Yl.pure (λW=>aO l g.1 g.2 W) ⟨p,y,Z4⟩
  ·cases h
 ·obtain⟨p,y,rfl⟩:=q;split at h
  ·rename_i len V z;cases h;obtain⟨X,Y,i,hi,rfl⟩:=o9 z;refine Yl.pure (λW=>?_) ⟨p,y,rfl⟩
   simp_all[run_indexAt_array,Kl,KW]
  ·cases h
 ·obtain⟨p,y,rfl⟩:=q;split at h
  ·rename_i len V z;split at h
   ·cases h;obtain⟨X,Y,i,hi,rfl⟩:=o9 z;refine Yl.pure (λW=>?_) ⟨p,y,rfl⟩
    simp_all[run_indexAt_array,Kl,KW,zRU]
   ·cases h
  ·cases h
 ·obtain⟨b,o,rfl,hc⟩:=fD q;split at h
  ·rename_i len V z;split at h
   ·cases h;obtain⟨X,Y,i,hi,rfl⟩:=o9 z;refine Yl.pure (λW=>?_) ⟨b,o+n.toNat*i.size,rfl,λj J=>?_⟩
    ·simp_all[run_indexAt_array,Kl,KW]
    ·obtain⟨s,ϛ,G,I⟩:=hc (n.toNat*i.size+j) Z2
     grind[PY]
   ·cases h
  ·cases h
 ·cases h
theorem zFI{m:BinOp}{x y:U}{a:Prop}(t:ψ)(h:gh m k x y=Z (Ϛ,a))(ϕ:Ψ):Yl P N w ϕ ρ (binOp m t (.int k x)<|.int k y) Ϛ:=by
 cases m <;> simp only[gh,zK0,zLE,reduceCtorEq]at h <;> obtain⟨rfl,-⟩:=h
 ·exact Yl.pure (λW=>by rw[binOp_add];rfl) rfl
 ·exact Yl.pure (λW=>by rw[binOp_sub];rfl) rfl
 ·exact Yl.pure (λW=>by rw[binOp_mul];rfl) rfl
 ·exact Yl.pure (λW=>by rw[binOp_and];rfl) rfl
 ·exact Yl.pure (λW=>by rw[binOp_or];rfl) rfl
 ·exact Yl.pure (λW=>by rw[binOp_xor];rfl) rfl
 ·exact Yl.pure (λW=>by rw[binOp_andNot];rfl) rfl
 ·exact Yl.pure (λW=>by rw[binOp_eql];rfl) rfl
 ·exact Yl.pure (λW=>by rw[binOp_neq];rfl) rfl
 ·exact Yl.pure (λW=>by rw[binOp_lss];rfl) rfl
 ·exact Yl.pure (λW=>by rw[binOp_leq];rfl) rfl
 ·exact Yl.pure (λW=>by rw[binOp_gtr];rfl) rfl
 ·exact Yl.pure (λW=>by rw[binOp_geq];rfl) rfl
theorem zOi{m:BinOp}{x y:Operand}{n:U}:eqGuard m t x y (.int k n) v=pure ():=by
 cases m <;> rfl
theorem zQT{m:BinOp}{y:DV}{f I:μ}{s:Prop}(j p:Operand)(i:AL ϕ w x ρ f)(hy:AL ϕ w y ρ I)(h:gj (Ud P t) m x y=Z (Ϛ,s))(q:s):
 Yl P N w ϕ ρ (do eqGuard m t j p f I;binOp m t f I) Ϛ:=by
 have key:∀{k v:IntKind} {n z:U},f=.int k n->I=.int v z->Yl P N w ϕ ρ (binOp m t (.int k n)<|.int v z) Ϛ->Yl P N w ϕ ρ (do eqGuard m t j p f I;binOp m t f I) Ϛ:=by
  grind[zOi]
 have G:Ud P t=1->P.underlying t=Z .bool:=λh=>by
  grind[Ud]
 have r:Ud P t=2->∃e,P.underlying t=Z (.slice e):=λh=>by
  grind[Ud]
 have eqn:∀{e:ψ} {a:Addr} {l c:E} (W:κ),P.underlying t=Z (.slice e)->(do eqGuard .eql t j p (.slice (Z a) l c) (.slice A 0 0);binOp .eql t (.slice (Z a) l c) (.slice A 0 0):Sem μ).run P W=.ok (.bool T) W:=by
  simp_all[eqGuard,binOp,run_equal_slice_nil]
 have nen:∀{e:ψ} {a:Addr} {l c:E} (W:κ),P.underlying t=Z (.slice e)->(do eqGuard .neq t j p (.slice (Z a) l c) (.slice A 0 0);binOp .neq t (.slice (Z a) l c) (.slice A 0 0):Sem μ).run P W=.ok (.bool D) W:=by
  simp_all[eqGuard,binOp,run_equal_slice_nil]
 unfold gj at h;split at h
 ·split at h
  ·rename_i e;cases h;have R:f=.bool _:=i;have X:I=.bool _:=hy;subst R;subst X;exact Yl.pure (λW=>run_eql_bool W t _ _<|G e) rfl
  ·cases h
 ·split at h
  ·rename_i e;cases h;have R:f=.bool _:=i;have X:I=.bool _:=hy;subst R;subst X;exact Yl.pure (λW=>run_neq_bool W t _ _<|G e) rfl
  ·cases h
 ·split at h
  ·rename_i e;cases h;obtain⟨J,K⟩:=r e;obtain⟨Q,cap,rfl,S,V,g⟩:=i;obtain⟨b,o,rfl,_⟩:=g 0 q
   simp_all[Yl,AL]
  ·cases h
 ·split at h
  ·rename_i e;cases h;obtain⟨J,K⟩:=r e;obtain⟨Q,cap,rfl,S,V,g⟩:=i;obtain⟨b,o,rfl,_⟩:=g 0 q
   simp_all[Yl,AL]
  ·cases h
 ·split at h
  ·rename_i e;cases h;obtain⟨J,K⟩:=r e;obtain⟨Q,cap,rfl,S,V,g⟩:=i;obtain⟨b,o,rfl,_⟩:=g 0 q
   simp_all[Yl,AL]
  ·cases h
 ·cases h;refine key i hy ?_
  simp_all[binOp_shl,shift_shl,Yl,AL]
 ·cases h;refine key i hy ?_
  simp_all[binOp_shr,shift_shr,Yl,AL]
 ·split at h
  ·rename_i e;subst e;cases h;exact key i hy<|Yl.pure (λW=>by simp_all[binOp_quo,Op.intDiv]) rfl
  ·cases h
 ·split at h
  ·rename_i e;subst e;cases h;exact key i hy<|Yl.pure (λW=>by simp_all[binOp_rem,Op.intDiv]) rfl
  ·cases h
 ·grind[zFI,AL]
 ·cases h
variable{ρ':Operand->μ}
theorem IG{o:Oper}(he:ω ρ' o=(do pure (.value (←s))))(h:Yl P N w ϕ ρ s Ϛ):∃v,(∀W,Keep N w W->(ω ρ' o).run P W=.ok (.value v) W)/\AL ϕ w Ϛ ρ v:=by
 obtain⟨v,h1,c⟩:=h;refine⟨v,λW hE=>?_,c⟩
 simp_all
variable{off:E}
theorem zOV{s:ψ}{f x:E}(h:fM P s f=Z (off,x)):∃n l i,P.underlying s=Z (.struct n)/\n[f]?=Z l/\l.offset=off/\P.info? l.type=Z i/\i.size=x/\x≠0:=by
 unfold fM at h
 grind
theorem jV{s:ψ}{f x:E}(h:fM P s f=Z (off,x))(W:κ):(Instr.fieldAt s (.pointer<|Z ⟨b,o,A⟩) f).run P W=.ok (.pointer<|Z ⟨b,o+off,A⟩) W:=by
 obtain⟨fs,fd,i,h1,h2,rfl,h4,rfl,h6⟩:=zOV h
 simp_all[Instr.fieldAt,zKz,Instr.sureAddr,fieldPlace,Kl,KW]
theorem zKR(h:li P t=Z k):P.underlying t=Z (.int k):=by
 grind[li]
variable{ty:ψ}
def Sj{e:ψ}{a:M Addr}{c:E}(h:P.underlying t=Z (.slice e))(W:κ):(Builtin.len_ #[t] ty #[.slice a n c]).run P W=.ok (.int .i64 n) W:=by
 simp[Builtin.len_,zKz h,goInt]
def zFE{s:ByteArray}(h:P.underlying t=Z .string)(W:κ):(Builtin.len_ #[t] ty #[.string s]).run P W=.ok (.int .i64 s.size) W:=by
 simp[Builtin.len_,zKz h,goInt]
variable{c:Call}
theorem n0{o:Oper}{b:Builtin}(ho:o.op=.call c)(hc:c.callee=.builtin b)
 (hb:builtin b c.argTypes o.type (c.args.map λ| .const _=>D|_=>T) (c.args.map ρ')=(do pure (.value (←s)))) (h:Yl P N w ϕ ρ s Ϛ):
 ∃v,(∀W,Keep N w W->(ω ρ' o).run P W=.ok (.value v) W)/\AL ϕ w Ϛ ρ v:=by
 refine IG (s:=s) ?_ h
 grind[ω,resolve,invoke]
theorem zJg{b:Prop}(i:AL ϕ w x ρ v)(h:dG P t x=Z (Ϛ,b)):Yl P N w ϕ ρ (Builtin.len_ #[t] ty #[v]) Ϛ:=by
 unfold dG at h;split at h
 ·rename_i c a;cases h;simp_all[Sj,Yl,AL]
 ·rename_i c l a;cases h;obtain⟨e,cap,rfl,_⟩:=i;exact Yl.pure (λW=>Sj a W) rfl
 ·rename_i c l a;cases h;obtain⟨e,cap,rfl,_⟩:=i;exact Yl.pure (λW=>Sj a W) rfl
 ·rename_i c m n f a;cases h;obtain⟨e,cap,rfl,_⟩:=i
  simp_all[Sj,Yl,AL]
 ·rename_i c k m off n a;cases h;obtain⟨p,cap,_,rfl,_⟩:=i;exact Yl.pure (λW=>Sj a W) rfl
 ·rename_i s a;cases h;simp_all[zFE,Yl,AL]
 ·cases h
def zJe(R:Ad P Γ N S ρ a w){b:Prop}(i:AL (MS N S.h ρ) w x ρ v)(h:dF P S t x=Z (Ϛ,b)):Yl P N w (MS N S.h ρ) ρ (Builtin.len_ #[t] ty #[v]) Ϛ:=by
 unfold dF at h;split at h
 ·split at h
  ·rename_i c f;cases h;obtain⟨p,_,_,_,g,rfl,_⟩:=i;obtain⟨q,I,k⟩:=R.hr.obj _ _ f;obtain rfl:q=p:=zBH<|I.symm.trans g;rcases k with⟨rfl,e,_⟩|⟨cap,e,_⟩ <;> rw[e] <;> exact Yl.pure (λW=>Sj c W) rfl
  ·cases h
 ·exact zJg i h
variable{α:Type}
theorem zBY{l:υ α}{x:α}(h:l.toList= [x]):l= #[x]:=by cases l;simp at h;rw[h]
theorem ZN{l:υ α}{x y:α}(h:l.toList= [x,y]):l= #[x,y]:=by cases l;simp at h;rw[h]
theorem zQL(R:Ad P Γ N S ρ a w)(o:Oper){b:Builtin}{j:Prop}(K:o.op=.call c)(hc:c.callee=.builtin b)(h:gY P S b c.args.toList c.argTypes.toList=Z (Ϛ,j)):
 ∃v,(∀W,Keep N w W->(ω a.eval o).run P W=.ok (.value v) W)/\AL (MS N S.h ρ) w Ϛ ρ v:=by
 have e:=λx=>Bo R x
 unfold gY at h;split at h
 ·split at h
  ·rename_i x g;split at h
   ·rename_i t ht;exact n0 (s:=Builtin.len_ #[t] o.type #[a.eval x]) K hc (by grind[zBY,builtin])<|zJe R (e x) h
   ·cases h
  ·cases h
 ·split at h
  ·rename_i x y g;have i:=e x;have hy:=e y;unfold lC at h;split at h
   ·rename_i k n l m f X;cases h;rw[f]at i;rw[X]at hy;refine n0 (s:=Builtin.max_ c.argTypes o.type #[a.eval x,a.eval y]) K hc (by grind[ZN,builtin]) ?_
    simp_all[Builtin.max_,Builtin.max2,Yl,AL]
   ·cases h
  ·cases h
 ·split at h
  ·rename_i x y g;have i:=e x;have hy:=e y;unfold lA at h;split at h
   ·rename_i k n l m f X;cases h;rw[f]at i;rw[X]at hy;refine n0 (s:=Builtin.min_ c.argTypes o.type #[a.eval x,a.eval y]) K hc (by grind[ZN,builtin]) ?_
    simp_all[Builtin.min_,Builtin.min2,Yl,AL]
   ·cases h
  ·cases h
 ·cases h
theorem uo(R:Ad P Γ N S ρ a w)(o:Oper){J:Prop}(h:TH P S o.op=Z (Ϛ,J))(Q:J):
 ∃v,(∀W,Keep N w W->(ω a.eval o).run P W=.ok (.value v) W)/\AL (MS N S.h ρ) w Ϛ ρ v:=by
 have l:=λx=>Bo R x
 unfold TH at h;split at h
 ·rename_i x K;cases h;exact⟨a.eval x,λW _=>by unfold ω;rw[K];rfl,l x⟩
 ·rename_i x K;cases h;exact⟨a.eval x,λW _=>by unfold ω;rw[K];rfl,l x⟩
 ·rename_i c x y K;have hc:=l c;split at h
  ·rename_i e;cases h;rw[e]at hc;exact⟨a.eval x,λW _=>by unfold ω;rw[K];simp only[show a.eval c=.bool D from hc];rfl,l x⟩
  ·rename_i e;cases h;rw[e]at hc;exact⟨a.eval y,λW _=>by unfold ω;rw[K];simp only[show a.eval c=.bool T from hc];rfl,l y⟩
  ·cases h
 ·rename_i t x K;exact IG (by unfold ω;rw[K])<|wC R (l x) h Q
 ·rename_i V t x y t' K;exact IG (by unfold ω;rw[K])<|zQT x y (l x) (l y) h Q
 ·rename_i V t x K;have q:=l x;refine IG (s:=Op.unary V<|a.eval x) (by unfold ω;rw[K]) ?_;split at h
  ·rename_i b e;cases h;rw[e]at q;rw[show a.eval x=.bool b from q];exact Yl.pure (λW=>rfl) rfl
  ·rename_i k n e;cases h;rw[e]at q;rw[show a.eval x=.int k n from q];exact Yl.pure (λW=>rfl) rfl
  ·rename_i k n e;cases h;rw[e]at q;rw[show a.eval x=.int k n from q];exact Yl.pure (λW=>rfl) rfl
  ·cases h
 ·rename_i Y td x K;have q:=l x;split at h
  ·rename_i dd k k' n hs hd e;cases h;rw[e]at q;refine IG (s:=convert Y td<|a.eval x) (by unfold ω;rw[K]) ?_
   simp_all[convert,zKz,zKR,Conv.intToInt,Yl,AL]
  ·cases h
 ·rename_i x K;have q:=l x;split at h
  ·rename_i m f e;cases h;rw[e]at q;obtain⟨b,X,r,z⟩:=fD q;exact⟨_,λW _=>by simp_all[ω],b,X,rfl,z⟩
  ·rename_i k j e;cases h;rw[e]at q;obtain⟨p,G,r⟩:=q
   simp_all[ω,AL]
  ·rename_i k m i j e;cases h;rw[e]at q;obtain⟨p,G,r⟩:=q
   simp_all[ω,AL]
  ·rename_i g m c e;cases h;rw[e]at q;obtain⟨lb,r,z⟩:=q;exact⟨_,λW _=>by simp_all[ω],lb,rfl,z⟩
  ·cases h
 ·rename_i st x f K;have q:=l x;split at h
  ·rename_i off sz I;refine IG (s:=Instr.fieldAt st (a.eval x) f) (by unfold ω;rw[K]) ?_;split at h
   ·rename_i m g e;split at h
    ·cases h;rw[e]at q;obtain⟨b,X,r,z⟩:=fD q;rw[r];refine Yl.pure (λW=>jV I W) ⟨b,_,rfl,λj hj=>?_⟩;obtain⟨g1,ϛ,g2,g3⟩:=z (off+j) Z2
     grind[PY]
    ·cases h
   ·rename_i k j e;cases h;rw[e]at q;obtain⟨p,G,r⟩:=q;rw[r];exact Yl.pure (λW=>jV I W) ⟨p,G,by rw[zRk]⟩
   ·rename_i k m i j e;cases h;rw[e]at q;obtain⟨p,G,r⟩:=q;rw[r];exact Yl.pure (λW=>jV I W) ⟨p,G,Z4⟩
   ·cases h
  ·cases h
 ·rename_i t x i K;have hi:=l i;split at h
  ·rename_i k n e;rw[e]at hi;refine IG (s:=Instr.indexAt t (a.eval x)<|a.eval i) (by unfold ω;rw[K]) ?_
   grind[zKt,AL]
  ·cases h
 ·rename_i x i K;have q:=l x;split at h
  ·rename_i m f e;split at h
   ·cases h;rw[e]at q;obtain⟨cs,r,hs,z⟩:=q;refine IG (s:=Instr.extract (a.eval x) i) (by unfold ω;rw[K]) ?_
    simp_all[Yl.pure,Instr.extract]
   ·cases h
  ·cases h
 ·rename_i g first c K
  split at h
  ·cases h;refine⟨.func (.func g) #[]<|c.map a.eval,λW _=>?_,c.map a.eval,rfl,Z3,λj hj=>?_⟩
   ·simp_all[ω,Instr.makeFunc]
   simp_all[PY]
  ·cases h
 ·grind[zQL]
 ·cases h
end
abbrev zFy:=@List.all_eq_true
abbrev zKA:=@List.getElem?_eq_getElem
abbrev zKB:=@List.length_map
abbrev zKw:=@Int.le_refl
abbrev zK7:=@List.length_replicate
abbrev zLD:=@List.getElem_of_mem
abbrev zLZ:=@List.getElem?_append_right
abbrev zNK:=@Nat.mul_one
abbrev zNg:=@Nat.div_lt_iff_lt_mul
def Ie:DV->ζ
 | .any=>T
 | .agg .. =>T
 | .tup .. =>T
 | .it _=>T
 | .mri .. =>T
 |_=>D
def JX:DV->M (O DV)
 | .agg m f=>Z<|(θ m).map f
 | .any=>A
 | .tup .. =>A
 | .it _=>A
 | .mri .. =>A
 |Ϛ=>Z [Ϛ]
def TJ:DV->ζ
 | .int .. =>D
 | .bool _=>D
 | .str _=>D
 | .nils=>D
 | .ints _=>D
 | .bools _=>D
 | .sl .. =>D
 |_=>T
section
variable{P:ν}{Γ:A1}{N:Ψ}{S:St}{ρ:O AN}{a:Act}{w:κ}
variable{v:μ}{Ϛ:DV}{ϕ:Ψ}
theorem cO(h:Ie Ϛ=D)(a:AL ϕ w Ϛ ρ v):v.oneCell'=D/\v.cells= #[v]:=by
 have key:(∀cs,v≠.agg cs)->(∀cs,v≠.tuple cs)->v.oneCell'=D/\v.cells= #[v]:=λp q=>by
  cases v <;> first|exact⟨rfl,rfl⟩|exact τ rfl (p _)|exact τ rfl (q _)
 cases Ϛ with
 |any=>cases h
 |agg m f=>cases h
 |tup m f=>cases h
 |nils=>grind[AL]
 |int k n=>grind[AL]
 |bool b=>grind[AL]
 |str s=>grind[AL]
 |ints l=>grind[AL]
 |bools l=>grind[AL]
 |sl m n f=>grind[AL]
 |fp m f=>grind[AL]
 |ref k j=>grind[AL]
 |msl k m off n=>grind[AL]
 |mp k m i j=>grind[AL]
 |fn g m c=>grind[AL]
 |it k=>cases h
 |yl l=>exact key (λcs e=>by rw[a]at e;cases e) (λcs e=>by rw[a]at e;cases e)
 |mse k m o n=>obtain⟨_,_,_,_,rfl,_⟩:=a;exact⟨rfl,rfl⟩
 |gr k=>obtain⟨_,_,_,_,_,_,rfl⟩:=a;exact⟨rfl,rfl⟩
 |mri k i=>cases h
 |cst ϛ=>obtain⟨rfl,x⟩:=a;cases v <;> first|exact⟨rfl,rfl⟩|(cases x)
variable{l:O DV}
theorem YO(h:JX Ϛ=Z l)(a:AL ϕ w Ϛ ρ v):v.cells.size=F l/\∀j,j<F l->∃ϛ,v.cells[j]?=Z ϛ/\AL ϕ w (l.getD j .any) ρ ϛ:=by
 have one:Ie Ϛ=D->l= [Ϛ]->v.cells.size=F l/\∀j,j<F l->∃ϛ,v.cells[j]?=Z ϛ/\AL ϕ w (l.getD j .any) ρ ϛ:=by
  intro e h2;rw[(cO e a).2]
  grind
 cases Ϛ with
 |any=>cases h
 |tup m f=>cases h
 |it k=>cases h
 |yl l=>cases h;exact one rfl rfl
 |mse k m o n=>cases h;exact one rfl rfl
 |gr k=>cases h;exact one rfl rfl
 |mri k i=>cases h
 |cst ϛ=>grind[JX,Ie]
 |agg m f=>
  cases h;obtain⟨cs,rfl,hs,hc⟩:=a
  grind[Value.cells]
 |nils=>cases h;exact one rfl rfl
 |int k n=>cases h;exact one rfl rfl
 |bool b=>cases h;exact one rfl rfl
 |str s=>cases h;exact one rfl rfl
 |ints l=>cases h;exact one rfl rfl
 |bools l=>cases h;exact one rfl rfl
 |sl m n f=>cases h;exact one rfl rfl
 |fp m f=>cases h;exact one rfl rfl
 |ref k j=>cases h;exact one rfl rfl
 |msl k m off n=>cases h;exact one rfl rfl
 |mp k m i j=>cases h;exact one rfl rfl
 |fn g m c=>cases h;exact one rfl rfl
def kT(h:TJ Ϛ=D)(k:AL ϕ w Ϛ ρ v):AL ϕ w Ϛ [] v:=by
 cases Ϛ <;> first|exact k|(cases h)
structure Cj(P:ν)(Γ:A1)(N:Ψ)(h:DH)(ρ:O AN)(w:κ)(ext:ζ)(Ϛ:DV)(h':DH)(v:μ)(w':κ):Prop where
 ex:∃ρ',A9 P Γ N h' ρ' w'/\AL (MS N h' ρ') w' Ϛ ρ' v/\BD h ρ w h' ρ' w'/\(∀(k:E) (p:AN),ρ[k]?=Z p->ρ'[k]?=Z p)
 ext:ext=D->A0 w w'
def BK(P:ν)(s:Sem Next)(w:κ)(G:μ->κ->Prop):Prop:=(∃v w',s.run P w=.ok (.value v) w'/\G v w')∨(∃w',s.run P w=.ok .skip w'/\G undef w')∨ (∃f args w',s.run P w=.ok (.enter f args) w'/\Calls P f args w' λe q=>∃v,e=.returned v/\G v q)
variable{w':κ}{o:Oper}{ρ':Operand->μ}{G:μ->κ->Prop}
def BK.value{s:Sem μ}(e:ω ρ' o=(do pure (.value (←s))))(h:s.run P w=.ok v w')(y:G v w'):BK P (ω ρ' o) w G:=
 .inl ⟨v,w',by rw[e,zK6,h];rfl,y⟩
theorem BK.skip{s:Sem Unit}(e:ω ρ' o=(do s;pure .skip))(h:s.run P w=.ok () w')(y:G undef w'):BK P (ω ρ' o) w G:=
 .inr (.inl ⟨w',by rw[e,zK6,h];rfl,y⟩)
def Dx(w:κ)(y:E):AN:=⟨w.heap.size,0,y,undef,λb=>b=w.heap.size⟩
variable{w1:κ}{t:ψ}{cs:υ μ}
theorem UB(ϗ:A9 P Γ N S.h ρ w){o:DO}(e:A0 w w1/\w1.heap.size=w.heap.size)
 (K:∀ϕ ρ',BW (MS N S.h ρ) w ρ ϕ (w1.alloc<|.cells cs t) ρ'->Bc P ϕ (w1.alloc<|.cells cs t) ρ' (Dx w cs.size) o)
 (f:∀ϕ ρ',ρ'[F S.h]?=Z (Dx w cs.size)->AL ϕ (w1.alloc<|.cells cs t) Ϛ ρ' v) (ext:ζ):
 Cj P Γ N S.h ρ w ext Ϛ (S.h++[Z o]) v (w1.alloc<|.cells cs t):=by
 have l:A0 w<|w1.alloc<|.cells cs t:=e.1.allocR _;have q:∀b,(Dx w cs.size).foot b->w.heap.size<=b:=λb a=>Nat.le_of_eq<|Eq.symm a
 have a:(w1.alloc<|.cells cs t).heap[w.heap.size]?=Z (.cells cs t (0,0)):=by grind[heap_alloc_new]
 refine⟨⟨ρ++[Dx w cs.size],ϗ.snoc l (λb i=>⟨q b i,.cells (c:=cs) (t:=t) (z:=(0,0))<|by grind[Dx]⟩)<|K _ _<|BW.snoc ϗ l q,?_,BD.snoc ϗ l q,λk p g=>Eo g⟩,λ_=>l⟩;exact f _ _ (by rw[←ϗ.len];simp)
variable{n:E}
theorem Nc(hs:w1.heap.size=w.heap.size){R:E->μ->Prop}(a:n<=cs.size)(hR:∀j,j<n->∃ϛ,cs[j]?=Z ϛ/\R j ϛ):Ai (w1.alloc<|.cells cs t) (Dx w cs.size) n R:=by
 refine⟨rfl,cs,t,?_,by simpa[Dx]using a,zI1 _,λj hj=>by grind[Dx]⟩
 grind[heap_alloc_new,Dx]
variable{x:Operand}
theorem zQO(R:Ad P Γ N S ρ a w)(h:JX (Ak S.fr x)=Z l)(o:Oper)(K:o.op=.box t x)(ext:ζ):
 BK P (ω a.eval o) w (Cj P Γ N S.h ρ w ext (.ref (F S.h) 0) (S.h++[Z<|.cells l])):=by
 obtain⟨h1,c⟩:=YO h<|Bo R x;refine BK.value (s:=Instr.box t<|a.eval x) (by unfold ω;rw[K]) (v:=.pointer<|Z ⟨w.heap.size,0,A⟩) (w':=w.alloc<|.cells (a.eval x).cells t) ?_ ?_
 ·rfl
 ·refine UB (Ϛ:=.ref (F S.h) 0) R.hr ⟨A0.refl w,rfl⟩ (λϕ ρ' ϐ=>?_) (λϕ ρ' b=>⟨_,b,rfl⟩) ext;refine Nc rfl Z2 λj e=>?_
  obtain⟨ϛ,f,y⟩:=c j e;exact⟨ϛ,f,y.out _ ϐ⟩
variable{z:μ}{i:TypeInfo}
theorem zQ5(R:Ad P Γ N S ρ a w)(hi:P.info? t=Z i)(b:i.zero=Z z)(o:Oper)(K:o.op=.alloc t)(ext:ζ):
 BK P (ω a.eval o) w (Cj P Γ N S.h ρ w ext (.ref (F S.h) 0) (S.h++[Z<|.cells<|z.cells.toList.map OF])):=by
 refine BK.value (s:=Instr.alloc t D<|.tuple #[]) (by unfold ω;rw[K]) (v:=.pointer<|Z ⟨w.heap.size,0,A⟩) (w':=w.alloc<|.cells z.cells t) ?_ ?_
 ·simp[Instr.alloc,zeroValue,typeInfo,hi,b,newVar,newRow,newObj];rfl
 ·refine UB (Ϛ:=.ref (F S.h) 0) R.hr ⟨A0.refl w,rfl⟩ (λϕ ρ' ϐ=>?_) (λϕ ρ' c=>⟨_,c,rfl⟩) ext;refine Nc rfl Z3 λj hj=>?_
  grind[cQ]
def zB:μ->ζ
 | .bool T=>D
 |_=>T
def iK(z:μ):ζ:=C (2<z.cells.size)&&z.cells.toList.all zB
theorem zQ6(R:Ad P Γ N S ρ a w)(hi:P.info? t=Z i)(c:i.zero=Z z)(b:iK z=D)(o:Oper)(K:o.op=.alloc t)(ext:ζ):
 BK P (ω a.eval o) w (Cj P Γ N S.h ρ w ext (.mp (F S.h) 1 0 0) (S.h++[Z<|.bools<|d z.cells.size T])):=by
 refine BK.value (s:=Instr.alloc t D<|.tuple #[]) (by unfold ω;rw[K]) (v:=.pointer<|Z ⟨w.heap.size,0,A⟩) (w':=w.alloc<|.cells z.cells t) ?_ ?_
 ·simp[Instr.alloc,zeroValue,typeInfo,hi,c,newVar,newRow,newObj];rfl
 ·refine UB (Ϛ:=.mp (F S.h) 1 0 0) R.hr ⟨A0.refl w,rfl⟩ (λϕ ρ' ϐ=>?_) (λϕ ρ' e=>⟨_,e,rfl⟩) ext;refine Nc rfl Z3 λj l=>?_
  have GJ:j<z.cells.size:=by simpa using l
  simp only[iK,zAx,zFy]at b;have:=b.2 z.cells[j] Z3
  grind[zB]
inductive EK where
 |ints
 |bools
 |gen (m:E)
def Lg(P:ν)(t:ψ):M<|EK×ψ×TypeInfo×μ:=match P.underlying t with
 |some (.slice e)=>match P.info? e with
  |some i=>match i.zero with
   |some z=>if i.size=0 then A else if z.cells.size≠i.size then A else match P.underlying e with
    |some (.int .i64)=>u (i.size=1) (match z with| .int .i64 0=>Z (.ints,e,i,z)|_=>A) A
    |some .bool=>u (i.size=1) (match z with| .bool T=>Z (.bools,e,i,z)|_=>A) A
    |_=>Z (.gen i.size,e,i,z)
   |none=>A
  |none=>A
 |_=>A
def EK.cells:EK->E
 | .ints=>1
 | .bools=>1
 | .gen m=>m
variable{e:ψ}{k:EK}
theorem YE(h:Lg P t=Z (k,e,i,z)):P.underlying t=Z (.slice e)/\P.info? e=Z i/\i.zero=Z z/\i.size≠0/\z.cells.size=i.size/\k.cells=i.size/\
 (k=.ints->z=.int .i64 0)/\(k=.bools->z=.bool T):=by
 unfold Lg at h
 repeat' (split at h)
 all_goals first
  |(cases h;done)
  |skip
 all_goals
  simp only[zK0,zLE]at h;obtain⟨rfl,rfl,rfl,rfl⟩:=h
  grind[EK.cells]
theorem nY{s:E}(p:0<s):∀(vs:O μ),(∀v∈vs,v.cells.size=s)->∀i j,i<F vs->j<s->(vs.flatMap λv=>v.cells.toList)[i*s+j]?=(vs[i]?).bind λv=>v.cells[j]?
 |[],_,i,j,hi,_=>τ hi<|zBT i
 |v::vs,t,i,j,hi,l=>by
  have a:F v.cells.toList=s:=by simpa using t v Z3
  rw[List.flatMap_cons];cases i with
  |zero=>grind
  |succ i=>
   rw[zLZ (by rw[a,Nat.succ_mul];omega),a,show(i+1)*s+j-s=i*s+j by rw[Nat.succ_mul];omega];rw[nY p vs (λv h=>t v<|by simp[h]) i j (by simpa using hi) l];simp
def H7:DV->U
 | .int _ n=>n
 |_=>0
def gZ:DV->ζ
 | .bool b=>b
 |_=>T
def JG:DV->ζ
 | .int .i64 _=>D
 |_=>T
def lf:DV->ζ
 | .bool _=>D
 |_=>T
def Ub(k:EK)(ds:O DV):M DO:=match k with
 | .ints=>u (ds.all JG) (Z<|.ints<|ds.map H7) A
 | .bools=>u (ds.all lf) (Z<|.bools<|ds.map gZ) A
 | .gen m=>if ds.all λϚ=>(match JX Ϛ with|some l=>F l==m&&l.all TJ|none=>T)then
  Z (.arr m (F ds) (λi j=>match JX (ds.getD i .any)with|some l=>l.getD j .any|none=>.any))else A
theorem dT(h:JG Ϛ=D)(k:AL ϕ w Ϛ ρ v):v=.int .i64 (H7 Ϛ):=by
 unfold JG at h;split at h
 ·exact k
 ·cases h
def zKO(h:lf Ϛ=D)(k:AL ϕ w Ϛ ρ v):v=.bool (gZ Ϛ):=by
 unfold lf at h;split at h
 ·exact k
 ·cases h
theorem zQN{ds:O DV}{o:DO}{vs:O μ}(Q:0<k.cells)(h:Ub k ds=Z o)(R:F vs=F ds)(f:∀i,i<F ds->AL ϕ w (ds.getD i .any) ρ (vs.getD i undef)):
 (∀v∈vs,v.cells.size=k.cells)/\∀M' (w':κ) ρ',BW ϕ w ρ M' w' ρ'->∀(cs:υ μ) (t:ψ) (p:AN),cs.toList=(vs.flatMap λv=>v.cells.toList)->Ai w' p (F ds*k.cells) (λj ϛ=>cs[j]?=Z ϛ)->Bc P M' w' ρ' p o:=by
 have one:∀{j:E},k.cells=1->j<F ds*k.cells->(∀v∈vs,v.cells.size=k.cells)->∀{ϛ},(vs.flatMap λv=>v.cells.toList)[j]?=Z ϛ->(vs[j]?).bind (λv=>v.cells[0]?)=Z ϛ:=λ{j} g b a {ϛ} x=>by
  rw[g]at b a;have:=nY (s:=1) Z2 vs a j 0 Z2 Z2
  grind
 have n:∀v∈vs,∃i,i<F ds/\v=vs.getD i undef/\vs[i]?=Z v:=λv f=>by
  obtain⟨i,hi,rfl⟩:=zLD f
  grind
 have K:∀i,i<F ds->ds.getD i .any∈ds:=λi hi=>by simp[hi]
 cases k with
 |ints=>
  simp only[Ub]at h;split at h
  ·rename_i z;cases h;have q:∀i,i<F ds->vs.getD i undef=.int .i64 (H7<|ds.getD i .any):=λi hi=>dT (zFy.1 z _<|K i hi)<|f i hi
   have a:∀v∈vs,v.cells.size=EK.ints.cells:=λv r=>by obtain⟨i,hi,e,_⟩:=n v r;rw[e,q i hi];rfl
   refine⟨a,λM' w' ρ' ϐ cs t p G c=>?_⟩;have I:F ds*EK.ints.cells=F (ds.map H7):=by simp[EK.cells]
   rw[I]at c;refine Ai.out c rfl λj ϛ b x=>?_
   have J:j<F ds:=by simpa using b
   have y:=one rfl (by simpa[EK.cells]using J) a (ϛ:=ϛ) (by rw[←G];simpa using x)
   grind[Value.cells]
  ·cases h
 |bools=>
  simp only[Ub]at h;split at h
  ·rename_i z;cases h;have q:∀i,i<F ds->vs.getD i undef=.bool (gZ<|ds.getD i .any):=λi hi=>zKO (zFy.1 z _<|K i hi)<|f i hi
   have a:∀v∈vs,v.cells.size=EK.bools.cells:=λv r=>by obtain⟨i,hi,e,_⟩:=n v r;rw[e,q i hi];rfl
   refine⟨a,λM' w' ρ' ϐ cs t p G c=>?_⟩;have I:F ds*EK.bools.cells=F (ds.map gZ):=by simp[EK.cells]
   rw[I]at c;refine Ai.out c rfl λj ϛ b x=>?_
   have J:j<F ds:=by simpa using b
   have y:=one rfl (by simpa[EK.cells]using J) a (ϛ:=ϛ) (by rw[←G];simpa using x)
   grind[Value.cells]
  ·cases h
 |gen m=>
  simp only[Ub]at h;split at h
  ·rename_i z;cases h;have N:0<m:=Q
   have q:∀i,i<F ds->∃l,JX (ds.getD i .any)=Z l/\F l=m/\(∀Ϛ∈l,TJ Ϛ=D):=λi hi=>by
    grind
   have a:∀v∈vs,v.cells.size=(EK.gen m).cells:=λv r=>by
    obtain⟨i,hi,e,_⟩:=n v r;obtain⟨l,g,y,_⟩:=q i hi;rw[e,(YO g<|f i hi).1,y];rfl
   refine⟨a,λM' w' ρ' ϐ cs t p G c=>?_⟩;refine Ai.out c rfl λj ϛ b x=>?_
   have hj0:j<F ds*m:=b;have hi:j/m<F ds:=by simp_all[zNg]
   have hc:j%m<m:=Nat.mod_lt _ N;obtain⟨l,g,y,S⟩:=q (j/m) hi;have W:=nY (s:=m) N vs a (j/m) (j%m) Z2 hc;rw[show j/m*m+j%m=j by grind[Nat.div_add_mod]]at W;obtain⟨_,V⟩:=YO g<|f (j/m) hi;obtain⟨X,Y,g2⟩:=V (j%m) Z2;have h6:vs.getD (j/m) undef=vs[j/m]'Z2:=by simp[R,hi]
   have Ao:j/m<F vs:=Z2
   rw[zKA Ao]at W;rw[h6]at Y
   have:ϛ=X:=by
    grind
   subst this;simp only[g];refine AL.out _ ϐ.nil<|kT (S _ ?_) g2;simp[y,hc]
  ·cases h
theorem jZ(hs:w1.heap.size=w.heap.size)(a:cs.size=n):Ai (w1.alloc<|.cells cs t) (Dx w n) n λj ϛ=>cs[j]?=Z ϛ:=by
 subst a
 simp_all[Nc]
def fh(parts:O<|E×Operand)(len:E):ζ:=parts.map (·.1)==θ len
theorem zPH{parts:O (E×Operand)}{len:E}(h:fh parts len=D)(f:Operand->μ):F parts=len/\(parts.map λx=>(x.1,f x.2))=((parts.map λx=>f x.2).zipIdx 0).map λx=>(x.2,x.1):=by
 simp only[fh,zKq]at h;have q:F parts=len:=by have:=congrArg List.length h;simpa using this
 refine⟨q,List.ext_getElem? λi=>?_⟩
 by_cases hi:i<F parts
 ·have a:parts[i].1=i:=by
   have h2:=congrArg (λl:Θ=>l[i]?) h
   grind
  simp[hi,a]
 grind
theorem zQM(R:Ad P Γ N S ρ a w){t:ψ}{len:E}{parts:υ (E×Operand)}{k:EK}{e:ψ}{i:TypeInfo}{z:μ}{ob:DO}(p:Lg P t=Z (k,e,i,z))(q:fh parts.toList len=D)(r:len<=65536/\k.cells<=64)
 (y:Ub k (parts.toList.map λx=>Ak S.fr x.2)=Z ob) (o:Oper) (K:o.op=.buildSlice t len parts) (ext:ζ):
 BK P (ω a.eval o) w (Cj P Γ N S.h ρ w ext (.msl (F S.h) k.cells 0 len) (S.h++[Z ob])):=by
 obtain⟨m,hi,G,h0,Cf,GH,_,_⟩:=YE p;obtain⟨V,hpe⟩:=zPH q a.eval;have f:=r.1;have zMr:=r.2;have I:0<k.cells:=Z2
 obtain⟨hs,J⟩:=zQN (w:=w) (ϕ:=MS N S.h ρ) (ρ:=ρ) (vs:=parts.toList.map λx=>a.eval x.2) I y Z3 (λj hj=>by
  grind[Bo])
 have Fn:F (parts.toList.map λx=>a.eval x.2)=len:=by simpa using V
 have n:((parts.toList.map λx=>a.eval x.2).flatMap λv=>v.cells.toList).toArray.size=len*k.cells:=by
  have:∀(l:O μ),(∀v∈l,v.cells.size=k.cells)->F (l.flatMap λv=>v.cells.toList)=F l*k.cells:=by
   intro l
   induction l with
   |nil=>simp
   |cons v l ih=>grind
  grind
 refine BK.value (s:=Instr.buildSlice t len<|parts.map λ(i,x)=>(i,a.eval x)) (by unfold ω;rw[K]) (v:=.slice (Z ⟨w.heap.size,0,A⟩) len len) (w':=w.alloc<|.cells ((parts.toList.map λx=>a.eval x.2).flatMap λv=>v.cells.toList).toArray e) ?_ ?_
 ·have b:¬len*i.size>2^24:=by
   have:len*i.size<=65536*64:=Nat.mul_le_mul f Z2;omega
  by_cases Q:len=0
  ·subst Q
   have c:parts= #[]:=by
    grind
   subst c;have Gh:Array.map (λ(x:E)=>(ξ:μ)) (Array.range 0)= #[]:=by simp[Array.range_zero']
   simp[Instr.buildSlice,zKz m,sizeOf,typeInfo,hi,newRow,Instr.fill,Array.range_zero']
  ·have g:¬len*i.size=0:=by rw[Nat.mul_eq_zero];omega
   refine run_buildSlice w t e len _ _ i z m hi G b g ?_;have e1:(parts.map λ(i,x)=>(i,a.eval x)).toList=parts.toList.map λx=>(x.1,a.eval x.2):=Z3
   grind[Great.fill_whole]
 ·have:=UB (Ϛ:=.msl (F S.h) k.cells 0 len) (o:=ob) (v:=.slice (Z ⟨w.heap.size,0,A⟩) len len) (cs:=((parts.toList.map λx=>a.eval x.2).flatMap λv=>v.cells.toList).toArray) (t:=e) R.hr ⟨A0.refl w,rfl⟩
   (λϕ ρ' ϐ=>J _ _ _ ϐ ((parts.toList.map λx=>a.eval x.2).flatMap λv=>v.cells.toList).toArray e _ rfl (by rw[n,zKB,V];exact jZ (w:=w) (w1:=w) (t:=e) rfl n))
   (λϕ ρ' c=>⟨_,len,c,by simp[Dx],zI1 _,by unfold LB;omega,by grind[Dx]⟩) ext
  exact this
def vw(k:EK)(n:E)(z:μ):DO:=match k with
 | .ints=>.ints<|d n 0
 | .bools=>.bools<|d n T
 | .gen m=>.arr m n λ_ j=>(z.cells.toList.map OF).getD j .any
theorem zJF(R:Ad P Γ N S ρ a w){y:Operand}{c f:IntKind}{n:U}(I:Lg P t=Z (k,e,i,z))(J:Ak S.fr x=.int c n)(hy:Ak S.fr y=.int f n)
 (g:0<=n/\n<=1000000000000) (Eb:i.bytes<=128) (o:Oper) (K:o.op=.makeSlice t x y) (ext:ζ):
 BK P (ω a.eval o) w (Cj P Γ N S.h ρ w ext (.msl (F S.h) k.cells 0 n.toNat) (S.h++[Z<|vw k n.toNat z])):=by
 obtain⟨Q,hi,V,h0,Cf,X,hzi,hzb⟩:=YE I;have l:=g.1;have Y:=g.2;have rx:=Bo R x;have p:=Bo R y;rw[J]at rx;rw[hy]at p;have q:(madeCells z.cells<|n.toNat*i.size).size=n.toNat*k.cells:=by rw[size_madeCells,X]
 refine BK.value (s:=Instr.makeSlice t (a.eval x)<|a.eval y) (by unfold ω;rw[K]) (v:=.slice (Z ⟨w.heap.size,0,A⟩) n.toNat n.toNat) (w':=w.alloc<|.cells (madeCells z.cells<|n.toNat*i.size) e) ?_ ?_
 ·rw[show a.eval x=_ from rx,show a.eval y=_ from p];refine run_make w t e i z Q hi V c f n n l (zKw _) ?_ Z2;have:(i.bytes:U)*n<=128*1000000000000:=Int.mul_le_mul Z2 Y l Z2;omega
 ·refine UB (Ϛ:=.msl (F S.h) k.cells 0 n.toNat) R.hr ⟨A0.refl w,rfl⟩ (λϕ ρ' ϐ=>?_) (λϕ ρ' hp=>⟨_,n.toNat,hp,by simp[Dx],zI1 _,by unfold LB;omega,by grind[Dx]⟩) ext;have b:=jZ (w:=w) (w1:=w) (t:=e) rfl q;rw[q]
  have W:∀j ϛ,j<n.toNat*k.cells->(madeCells z.cells<|n.toNat*i.size)[j]?=Z ϛ->z.cells[j%z.cells.size]?=Z ϛ:=by
   grind[Nat.mod_lt,madeCells]
  cases k with
  |ints=>
   show Ai _ _ (F<|d n.toNat (0:U)) _
   rw[zK7];simp only[EK.cells,zNK]at b W⊢;refine Ai.out b rfl λj ϛ r G=>?_
   grind[Value.cells]
  |bools=>
   show Ai _ _ (F<|d n.toNat T) _
   rw[zK7];simp only[EK.cells,zNK]at b W⊢;refine Ai.out b rfl λj ϛ r G=>?_
   grind[Value.cells]
  |gen m=>
   refine Ai.out b rfl λj ϛ r G=>?_
   grind[cQ,EK.cells]
end
abbrev zKp:=@List.length_append
abbrev zLP:=@List.nil_append
abbrev zRQ:=@List.size_toArray
abbrev zRv:=@List.length_range
section
variable{P:ν}{Γ:A1}{N:Ψ}{S:St}{ρ:O AN}{a:Act}{w:κ}{h:DH}
theorem T3(b:E)(t:ψ)(z:E×E):∀(vs:O μ) (o:E) (w:κ) (S:υ μ),w.heap[b]?=Z (.cells S t z)->o+F vs<=S.size->
 ∃G,(w.setCells b o vs).heap[b]?=Z (.cells G t z)/\G.size=S.size/\∀k,G[k]?=u (o<=k/\k<o+F vs) (vs[k-o]?) (S[k]?)
 |[],o,w,S,a,_=>⟨S,a,rfl,λk=>Z4⟩
 |v::vs,o,w,S,a,q=>by
  have EF:o+(F vs+1)<=S.size:=q;obtain⟨G,c,e,h3⟩:=T3 b t z vs (o+1) (w.setCell ⟨b,o,A⟩ v) (S.setIfInBounds o v) (by grind[World.setCell]) Z7;refine⟨G,c,by simpa using e,λk=>?_⟩
  grind
theorem SC(b:E):∀(vs:O μ) (o:E) (w:κ),AV (λk=>k=b) w<|w.setCells b o vs
 |[],_,w=>AV.refl _ w
 |v::vs,o,w=>((AV.refl (λk=>k=b) w).setCell (p:=⟨b,o,A⟩) (λ_=>rfl) v).trans<|SC b vs (o+1)<|w.setCell ⟨b,o,A⟩ v
variable{o n:E}{R:E->μ->Prop}{p:AN}
theorem Ai.writes{R':E->μ->Prop}(k:Ai w p n R){vs:O μ}(hl:o+F vs<=n)(h1:∀i v,vs[i]?=Z v->R' (o+i) v)
 (h2:∀i ϛ,i<n->(i<o∨o+F vs<=i)->R i ϛ->R' i ϛ):Ai (w.setCells p.blk (p.off+o) vs) p n R':=by
 obtain⟨g1,cs,t,y,g3,g4,g5⟩:=k;obtain⟨Fs,e1,e2,e3⟩:=T3 p.blk t (0,0) vs (p.off+o) w cs y Z2
 grind[Ai]
def Pe(l:O DV)(o:E)(ds:O DV):O DV:=(ds.zipIdx).foldl (λcs x=>cs.set (o+x.2) x.1) l
theorem i5:∀(ds:O DV) (k o:E) (l:O DV),F ((ds.zipIdx k).foldl (λcs x=>cs.set (o+x.2) x.1) l)=F l/\
 ∀j,j<F l->((ds.zipIdx k).foldl (λcs x=>cs.set (o+x.2) x.1) l).getD j .any=u (o+k<=j/\j<o+k+F ds) (ds.getD (j-(o+k)) .any) (l.getD j .any)
 |[],k,o,l=>⟨rfl,λj _=>by
  simp_all[zJz]⟩
 |Ϛ::ds,k,o,l=>by
  obtain⟨h1,h2⟩:=i5 ds (k+1) o<|l.set (o+k) Ϛ
  grind[List.zipIdx_cons]
def i4(l:O DV)(o:E)(ds:O DV):F (Pe l o ds)=F l:=(i5 ds 0 o l).1
def i6(l:O DV)(o:E)(ds:O DV){j:E}(a:j<F l):(Pe l o ds).getD j .any=u (o<=j/\j<o+F ds) (ds.getD (j-o) .any) (l.getD j .any):=by
 have:=(i5 ds 0 o l).2 j a;simpa[Pe]using this
def Pa(P:ν)(S:St)(t:ψ)(x Ϛ:DV):M<|DH×Prop:=match x with
 | .ref k j=>match S.h[k]? with
  |some (Z<|.cells l)=>match JX Ϛ with
   |some ds=>if P.info? t|>.any λi=>i.size==F ds then u (ds.all Ie&&C (j+F ds<=F l)) (Z (S.h.set k<|Z<|.cells<|Pe l j ds,True)) A else A
   |none=>A
  |_=>A
 | .mp k m i j=>if P.info? t|>.any λi=>i.size==1 then match S.h[k]? with
  |some (Z<|.ints l)=>match Ϛ with
   | .int .i64 n=>u (m==1&&j==0) (Z (S.h.set k<|Z<|.ints<|l.set i n,i<F l)) A
   |_=>A
  |some (Z<|.bools l)=>match Ϛ with
   | .bool b=>u (m==1&&j==0) (Z (S.h.set k<|Z<|.bools<|l.set i b,i<F l)) A
   |_=>A
  |some (Z<|.arr a n f)=>u (TJ Ϛ&&(m==a)&&C (j<m)) (Z (S.h.set k<|Z<|.arr m n λI K=>u (I=i/\K=j) Ϛ<|f I K,i<n)) A
  |_=>A
  else A
 |_=>A
def zH2{Ϛ:DV}(h:TJ Ϛ=D):Ie Ϛ=D:=by cases Ϛ <;> first|rfl|cases h
variable{v:μ}{b:E}{i:TypeInfo}{t:ψ}
theorem jU(hi:P.info? t=Z i)(hs:v.cells.size=i.size)(hc:∀j,j<v.cells.size->(w.cell? ⟨b,o+j,A⟩).isSome=D)(hf:∀j,w.frozen? ⟨b,j,A⟩=T)(h1:∀ϛ∈v.cells.toList,ϛ.oneCell'=D):
 (Instr.storeAt t (.pointer<|Z ⟨b,o,A⟩) v).run P w=.ok () (w.setCells b o v.cells.toList):=by
 simp_all[run_storeCells_cells,Instr.storeAt,Instr.sureAddr,storeVar,Kl]
variable{k:E}
theorem Zb(R:Ad P Γ N S ρ a w){ob ob':DO}(f:S.h[k]?=Z (Z ob))(g:ρ[k]?=Z p){Rw:E->μ->Prop}(e:Ai w p n Rw){o':E}
 (hi:P.info? t=Z i) (m:v.cells.size=i.size) (hl:o'+v.cells.size<=n) (q:∀ϛ∈v.cells.toList,ϛ.oneCell'=D)
 (r:∀ϕ ρ' w',BW (MS N S.h ρ) w ρ ϕ w' ρ'->w'=w.setCells p.blk (p.off+o') v.cells.toList->Bc P ϕ w' ρ' p ob')
 (o:Oper) (tx x:Operand) (y:o.op=.store t tx x) (G:a.eval tx=.pointer (Z ⟨p.blk,p.off+o',A⟩)) (I:a.eval x=v):
 BK P (ω a.eval o) w (Cj P Γ N S.h ρ w T .any<|S.h.set k<|Z ob'):=by
 have J:p.foot=λb=>b=p.blk:=e.1
 have l:AV p.foot w<|w.setCells p.blk (p.off+o') v.cells.toList:=by grind[SC]
 refine BK.skip (s:=Instr.storeAt t (a.eval tx)<|a.eval x) (by unfold ω;rw[y]) (w':=w.setCells p.blk (p.off+o') v.cells.toList) ?_ ?_
 ·rw[G,I];refine jU hi m (λj hj=>?_) (λj=>e.frozen j) q;obtain⟨ϛ,hc,_⟩:=e.cell (j:=o'+j) Z2;rw[zRk,hc];rfl
 ·have W:∀b,p.foot b->Dr (w.setCells p.blk (p.off+o') v.cells.toList) b:=λb Q=>by
   rw[J]at Q;obtain⟨_,cs,K,V,g3,_⟩:=e;obtain⟨c,e1,_⟩:=T3 p.blk K (0,0) v.cells.toList (p.off+o') w cs V Z7;exact .cells (c:=c) (t:=K) (z:=(0,0)) Z4
  exact⟨⟨ρ,R.hr.write f g l W<|r _ _ _ (BW.write trivial f g l) rfl,trivial,BD.write f g l,λ_ _ h=>h⟩,λh=>by cases h⟩
theorem qy(R:Ad P Γ N S ρ a w){tx x:Operand}{h':DH}{vc:Prop}(z:Pa P S t (Ak S.fr tx) (Ak S.fr x)=Z (h',vc))(hv:vc)(o:Oper)(W:o.op=.store t tx x):
 BK P (ω a.eval o) w (Cj P Γ N S.h ρ w T .any h'):=by
 have rx:=Bo R tx;have J:=Bo R x;unfold Pa at z;split at z
 ·rename_i k j e;rw[e]at rx;obtain⟨p,c,K⟩:=rx;split at z
  ·rename_i l b;obtain⟨p',y,g⟩:=R.hr.obj k _ b;have e:p'=p:=zBH<|y.symm.trans c;subst e;split at z
   ·rename_i ds Em;split at z
    ·rename_i r;split at z
     ·rename_i hc;cases z;simp only[zAx,zK9]at hc;cases hi:P.info? t with
      |none=>rw[hi]at r;cases r
      |some i=>
       rw[hi]at r;have X:i.size=F ds:=by simpa using r
       obtain⟨c1,c2⟩:=YO Em J
       have Y:∀ϛ∈(a.eval x).cells.toList,ϛ.oneCell'=D:=λϛ Q=>by
        obtain⟨q,I,rfl⟩:=zLD Q;have Qh:q<F ds:=by rw[←c1];simpa using I
        have h3:=zFy.1 hc.1 (ds.getD q .any) (by simp[Qh])
        grind[cO]
       refine Zb R b c g hi Z2 (o':=j) Z2 Y (λϕ ρ' w' ϐ G=>?_) o tx x W K rfl;subst G
       show Ai _ _ (F<|Pe l j ds) _
       rw[i4];refine Ai.writes g Z7 (λq v I=>?_) λq ϛ I du Q=>?_
       ·have w9:q<(a.eval x).cells.size:=Z4
        have Qh:q<F ds:=Z2
        obtain⟨ϛ,g1,g2⟩:=c2 q Qh
        have:ϛ=v:=by
         grind
        subst this;rw[i6 l j ds Z2,zAF Z2,show j+q-j=q by omega];exact g2.out _ ϐ
       ·rw[i6 l j ds I,zJz<|by simp at du;omega];exact Q.out _ ϐ
     ·cases z
    ·cases z
   ·cases z
  ·cases z
 ·rename_i k m i j e;rw[e]at rx;obtain⟨p,c,K⟩:=rx;split at z
  ·rename_i r;cases hi:P.info? t with
   |none=>rw[hi]at r;cases r
   |some ti=>
    rw[hi]at r;have X:ti.size=1:=by simpa using r
    split at z
    ·rename_i l b;obtain⟨p',y,g⟩:=R.hr.obj k _ b;have e:p'=p:=zBH<|y.symm.trans c;subst e;split at z
     ·rename_i n ed;split at z
      ·rename_i s;cases z;simp only[zAx,zKq]at s;obtain⟨rfl,rfl⟩:=s;rw[ed]at J;have jQ:a.eval x=.int .i64 n:=J;refine Zb R b c g hi (v:=.int .i64 n) (by rw[X];rfl) (o':=i) (by simp[Value.cells];omega) (by simp[Value.cells,Value.oneCell']) (λϕ ρ' w' ϐ G=>?_) o tx x W (by simpa using K) jQ;subst G
       show Ai _ _ (F<|l.set i n) _
       rw[zKy]
       grind[Ai.writes,Value.cells,Bc]
      ·cases z
     ·cases z
    ·rename_i l b;obtain⟨p',y,g⟩:=R.hr.obj k _ b;have e:p'=p:=zBH<|y.symm.trans c;subst e;split at z
     ·rename_i n ed;split at z
      ·rename_i s;cases z;simp only[zAx,zKq]at s;obtain⟨rfl,rfl⟩:=s;rw[ed]at J;have jQ:a.eval x=.bool n:=J;refine Zb R b c g hi (v:=.bool n) (by rw[X];rfl) (o':=i) (by simp[Value.cells];omega) (by simp[Value.cells,Value.oneCell']) (λϕ ρ' w' ϐ G=>?_) o tx x W (by simpa using K) jQ;subst G
       show Ai _ _ (F<|l.set i n) _
       rw[zKy]
       grind[Ai.writes,Value.cells,Bc]
      ·cases z
     ·cases z
    ·rename_i m' n f b;obtain⟨p',y,g⟩:=R.hr.obj k _ b;have e:p'=p:=zBH<|y.symm.trans c;subst e;split at z
     ·rename_i s;cases z;simp only[zAx,zKq,zK9]at s;obtain⟨⟨Gi,rfl⟩,hj⟩:=s;have E7:i<n:=hv;obtain⟨o1,V⟩:=cO (zH2 Gi) J
      have inb:i*m+j<n*m:=by
       have:(i+1)*m<=n*m:=zNU _ E7
       grind
      have AB:0<m:=Z2
      refine Zb R b c g hi (v:=a.eval x) (by rw[X,V];rfl) (o':=i*m+j) (by rw[V];simp;omega) (by rw[V];simp[o1]) (λϕ ρ' w' ϐ G=>?_) o tx x W K rfl;subst G;refine Ai.writes g (by rw[V];simp;omega) (λq v I=>?_) λq ϛ I du Q=>?_
      ·rw[V]at I;have:q=0:=Z4
       subst this;have:v=a.eval x:=by simpa using I.symm
       rw[this,Nat.add_zero];have e1:(i*m+j)/m=i:=by simp_all[zRa,Nat.mul_add_div]
       have e2:(i*m+j)%m=j:=by rw[zRa,Nat.mul_add_mod,Nat.mod_eq_of_lt hj]
       show AL ϕ _ (u ((i*m+j)/m=i/\(i*m+j)%m=j) (Ak S.fr x)<|f ((i*m+j)/m)<|(i*m+j)%m) [] _
       rw[zAF ⟨e1,e2⟩];exact AL.out _ ϐ.nil<|kT Gi J
      ·have:¬(q/m=i/\q%m=j):=λ⟨e1,e2⟩=>by
        grind[Nat.div_add_mod,Nat.mul_comm]
       show AL ϕ _ (u (q/m=i/\q%m=j) (Ak S.fr x)<|f (q/m)<|q%m) [] _
       rw[zJz this];exact AL.out _ ϐ.nil Q
     ·cases z
    ·cases z
  ·cases z
 ·cases z
def MO.kill(a:MO (h.set k A) ρ b):MO h ρ b:=MO.unset a
theorem LY{i:E}{o:DO}(hi:(h.set k A)[i]?=Z (Z o)):i≠k/\h[i]?=Z (Z o):=by
 grind
def A9.kill(ϗ:A9 P Γ N h ρ w)(k:E):A9 P Γ N (h.set k A) ρ w:=by
 have ϐ:BW (MS N h ρ) w ρ (MS N (h.set k A) ρ) w ρ:=⟨λ_ _ _ _=>rfl,λb e=>.inl<|e.imp id MO.kill,λ_ _ h=>h⟩;refine⟨by simp[ϗ.len],λi o hi=>?_,λi o p b a c m=>ϗ.cel i o p b (LY a).2 c m,λi I o o' p p' b Q a c m W K f=>ϗ.dis i I o o' p p' b Q (LY a).2 (LY c).2 m W K f,ϗ.nlt,ϗ.gi⟩;obtain⟨p,g,j⟩:=ϗ.obj i o (LY hi).2;exact⟨p,g,j.out ϐ (S:=λ_=>False) (AV.refl _ w) (λ_ h=>h.elim) λ_ _ _ h=>h⟩
def BW.kill(k:E):BW (MS N h ρ) w ρ (MS N (h.set k A) ρ) w ρ:=⟨λ_ _ _ _=>rfl,λb a=>.inl<|a.imp id MO.kill,λ_ _ h=>h⟩
def BD.kill(k:E):BD h ρ w (h.set k A) ρ w:=⟨AV.refl _ w,λb a=>.inl<|MO.kill a⟩
theorem A9.regrow(ϗ:A9 P Γ N h ρ w){w':κ}{o o':DO}{p':AN}(j:h[k]?=Z (Z o))(l:ρ[k]?=Z p)(x:AV p.foot w w')(R:∀b,p'.foot b->(p.foot b∨w.heap.size<=b)/\Dr w' b)
 (ho:Bc P (MS N (h.set k A++[Z o'])<|ρ++[p']) w' (ρ++[p']) p' o'):
 A9 P Γ N (h.set k A++[Z o']) (ρ++[p']) w'/\BD h ρ w (h.set k A++[Z o']) (ρ++[p']) w':=by
 have Ap:F (h.set k A)=F h:=Z3
 have v:∀b,p.foot b->MO h ρ b:=λb a=>⟨k,o,p,j,l,a⟩
 have G:∀{i:E} {o1:DO} {s:AN},(h.set k A++[Z o'])[i]?=Z (Z o1)->(ρ++[p'])[i]?=Z s->(i≠k/\i<F h/\h[i]?=Z (Z o1)/\ρ[i]?=Z s)∨(i=F h/\o1=o'/\s=p'):=by
  intro i o1 s f e;rcases Ec f with⟨n,f⟩|⟨n,f⟩
  ·rcases Ec e with⟨_,e⟩|⟨I,_⟩
   ·grind
   ·rw[ϗ.len]at I;omega
  ·rcases Ec e with⟨I,_⟩|⟨_,e⟩
   ·rw[ϗ.len]at I;omega
   grind
 have Y:∀b,MO (h.set k A++[Z o']) (ρ++[p']) b->MO h ρ b∨w.heap.size<=b:=by
  grind[MO]
 have ϐ:BW (MS N h ρ) w ρ (MS N (h.set k A++[Z o'])<|ρ++[p']) w'<|ρ++[p']:=by
  refine⟨λb a hm _=>x.block b a λJ=>hm<|.inr<|v b J,λb a=>?_,λi q hi=>Eo hi⟩
  grind[MS]
 refine⟨⟨by simp[ϗ.len],λi o1 hi=>?_,λi o1 s b f e m=>?_,λi i' o1 o2 s p2 b Q f e m h4 S V=>?_,λb a=>⟨zI0 (ϗ.nlt b a).1 x.size,(ϗ.nlt b a).2⟩,Γ.st _ _ ϗ.gi<|x.mono λb _ a=>(ϗ.cel k o p b j l a).1⟩,⟨x.mono λb _ a=>v b a,Y⟩⟩
 ·rcases Ec hi with⟨n,hi⟩|⟨n,hi⟩
  ·obtain⟨s,W,hr⟩:=ϗ.obj i o1 (LY hi).2;refine⟨s,Eo W,hr.out ϐ x (λb a=>.inr<|v b a) λb _ f e=>ϗ.dis i k o1 o s p b (LY hi).1 (LY hi).2 j W l f e⟩
  ·cases hi;exact⟨p',by rw[n,Ap,←ϗ.len];simp,ho⟩
 ·rcases G f e with⟨Q,_,g,y⟩|⟨_,_,rfl⟩
  ·obtain⟨e1,X,c,t,z,e3⟩:=ϗ.cel i o1 s b g y m;exact⟨e1,X,c,t,z,(x.block b (zAy.1 e3).1 λJ=>ϗ.dis i k o1 o s p b Q g j y l m J).trans e3⟩
  ·obtain⟨e1,X⟩:=R b m;rcases e1 with e1|e1
   ·obtain⟨q1,q2,_⟩:=ϗ.cel k o p b j l e1;exact⟨q1,q2,X⟩
   ·exact⟨zIX (Γ.lo _ ϗ.gi) e1,λhn=>by have:=ϗ.nlt b hn;omega,X⟩
 ·have key:∀{i o1 s},i≠k->h[i]?=Z (Z o1)->ρ[i]?=Z s->s.foot b->p'.foot b->False:=λ{i o1 s} Q g y r K=>by
   rcases(R b K).1 with e1|e1
   ·exact ϗ.dis i k o1 o s p b Q g j y l r e1
   ·have:=ϗ.lt<|.inr ⟨i,o1,s,g,y,r⟩;omega
  rcases G f m with⟨mc,_,g,y⟩|⟨e1,_,rfl⟩
  ·rcases G e h4 with⟨_,_,r,K⟩|⟨_,_,rfl⟩
   ·exact ϗ.dis i i' o1 o2 s p2 b Q g r y K S V
   ·exact key mc g y S V
  grind
def Ho(n:E)(R:E->μ->Prop)(a:O μ)(j:E)(ϛ:μ):Prop:=u (j<n) (R j ϛ)<|a[j-n]?=Z ϛ
variable{c:E}{I z:μ}{ty e:ψ}
theorem gv(x:P.underlying t=Z (.slice e))(hi:P.info? e=Z i)(r:i.zero=Z z)(OZ:i.size≠0)(s:z.cells.size=i.size)(v:i.bytes<=128)
  {cap:E}  (k:Ai w p (n*i.size) R) (Qs:n<=cap) (y:p.off+cap*i.size<=p.room)
   {a:O μ} (hy:Src P i.size t I c a w) (f:n+c<=1000000000000):
 ∃w' p' h,(Builtin.append_ #[t,t] ty #[.slice (Z ⟨p.blk,p.off,A⟩) n cap,I]).run P w=.ok (.slice (Z ⟨p'.blk,p'.off,A⟩) (n+c) h) w'/\n+c<=h/\p'.off+h*i.size<=p'.room/\
  AV p.foot w w'/\(∀b,p'.foot b->p.foot b∨w.heap.size<=b)/\Ai w' p' ((n+c)*i.size) (Ho (n*i.size) R a):=by
 have Q:F a=c*i.size:=hy.newsLen
 by_cases m:n+c<=cap
 ·obtain⟨G,cs,q,J,g3,g4,g5⟩:=k;have o:(n+c)*i.size<=cap*i.size:=zNU _ m;rw[zRU]at o;have K:p.off+n*i.size+F a<=cs.size:=Z2
  refine⟨w.setCells p.blk (p.off+n*i.size) a,p,cap,run_append_room_src w t t ty e i x hi p.blk p.off n cap I c a hy m (λj l=>?_) (λj _=>by grind[World.frozen?]),m,y,?_,λb f=>.inl f,?_⟩
  ·grind[World.cell?]
  ·grind[SC]
  ·obtain⟨V,N,e2,S⟩:=T3 p.blk q (0,0) a (p.off+n*i.size) w cs J K;refine⟨G,V,q,N,by rw[zRU];omega,Z2,λj l=>?_⟩;rw[zRU]at l;rw[S]
   by_cases hjn:j<n*i.size
   ·rw[zJz Z2]
    simp_all[Ho]
   ·have Ao:j-n*i.size<F a:=Z2
    refine⟨a[j-n*i.size],Z4,?_⟩
    simp_all[Ho,zJz]
 ·obtain⟨g,hg⟩:∃g:E->μ,∀j,j<n*i.size->w.cell? ⟨p.blk,p.off+j,A⟩=Z (g j)/\R j (g j):=by
   refine⟨λj=>(w.cell? ⟨p.blk,p.off+j,A⟩).getD undef,λj l=>?_⟩;obtain⟨ϛ,W,X⟩:=k.cell l;simp[W,X]
  have Y:(Builtin.firstCells i.size n<|.slice (Z ⟨p.blk,p.off,A⟩) n cap).run P w.drew=.ok ((θ<|n*i.size).map g).toArray w.drew:=by
   simp_all[run_loadCells,KW,Builtin.firstCells]
  have zMl:(n+c)*i.bytes<=1000000000000*128:=Nat.mul_le_mul f v;have Mb:=run_append_grow_src (P:=P) w t t ty e i z x hi r (Z ⟨p.blk,p.off,A⟩) n cap _ Y I c a hy Z2 Z2<|growslice_fits Z2 Z2;have mr:n+c<=grownCap w (n+c) cap e:=grownCap_ge w (n+c) cap e
  have Ea:(((θ<|n*i.size).map g++a).toArray++Builtin.zeroCells z.cells (grownCap w (n+c) cap e-(n+c))).size=grownCap w (n+c) cap e*i.size:=by
   simp only[Array.size_append,zRQ,zKp,zKB,zRv,Q,size_zeroCells,s,←zRU]
   congr 1;omega
  refine⟨_,Dx w<|grownCap w (n+c) cap e*i.size,grownCap w (n+c) cap e,Mb,mr,by simp[Dx],?_,λb f=>.inr<|Nat.le_of_eq<|Eq.symm f,?_⟩
  ·exact AV.ofExt<|(A0.toDrew w).allocR _
  ·refine Ai.out (jZ (w:=w) (w1:=w.drew) (t:=e) (cs:=((θ<|n*i.size).map g++a).toArray++Builtin.zeroCells z.cells (grownCap w (n+c) cap e-(n+c))) rfl Ea|>λk=>?_) rfl (R:=λj ϛ=>(((θ<|n*i.size).map g++a).toArray++Builtin.zeroCells z.cells (grownCap w (n+c) cap e-(n+c)))[j]?=Z ϛ) λj ϛ l FN=>?_
   ·grind[Ai]
   grind[Ho]
theorem gx(a:M Addr:=A)(x:P.underlying t=Z (.slice e))(hi:P.info? e=Z i)(g:i.zero=Z z)(h:z.cells.size=i.size)(k:i.bytes<=128)
   {n:O μ} (hy:Src P i.size t I c n w) (hc:0<c) (l:c<=1000000000000):
 ∃w' b,(Builtin.append_ #[t,t] ty #[.slice a 0 0,I]).run P w=.ok (.slice (Z ⟨w.heap.size,0,A⟩) c b) w'/\c<=b/\∃cs,w'=w.drew.alloc (.cells cs e)/\cs.size=b*i.size/\∀j,j<c*i.size->cs[j]?=n[j]? :=by
 have Q:F n=c*i.size:=hy.newsLen;have v:(Builtin.firstCells i.size 0<|.slice a 0 0).run P w.drew=.ok ([]:O μ).toArray w.drew:=by cases a <;> simp[Builtin.firstCells,loadCells,loadCellsFrom]
 have zMl:c*i.bytes<=1000000000000*128:=Nat.mul_le_mul l k;have f:=run_append_grow_src (P:=P) w t t ty e i z x hi g a 0 0 [] v I c n hy Z2 Z2 (growslice_fits Z2<|by rw[zKx];omega);rw[zKx]at f;have p:c<=grownCap w c 0 e:=grownCap_ge w c 0 e;refine⟨_,_,f,p,_,rfl,?_,λj hj=>?_⟩
 ·simp only[zLP,Array.size_append,zRQ,Q,size_zeroCells,h,←zRU]
  congr 1;omega
 grind
end
abbrev zMf:=@List.mem_map
abbrev zRn:=@Nat.eq_zero_or_pos
def MW(S:St):DV->M (Ξ×Prop)
 | .nils=>Z ([],True)
 | .ints l=>Z (l,True)
 | .msl k m off n=>match S.h[k]? with
  |some (Z<|.ints l)=>u (m==1) (Z (l,off=0/\n=F l)) A
  |_=>A
 |_=>A
def RR(S:St):DV->M (Ω×Prop)
 | .nils=>Z ([],True)
 | .bools l=>Z (l,True)
 | .msl k m off n=>match S.h[k]? with
  |some (Z<|.bools l)=>u (m==1) (Z (l,off=0/\n=F l)) A
  |_=>A
 |_=>A
def Q1(S:St)(m:E):DV->M (E×(E->E->DV)×Prop)
 | .nils=>Z (0,λ_ _=>.any,True)
 | .sl b n f=>u (b==m) (Z (n,f,True)) A
 | .msl k b off n=>match S.h[k]? with
  |some (Z<|.arr y a f)=>u (b==m&&y==m) (Z (a,f,off=0/\n=a)) A
  |_=>A
 |_=>A
def Aw:E:=1000000000000
def Uj(P:ν)(S:St)(t:ψ)(x y:DV):M<|DV×DH×Prop:=match Lg P t with
 |some (k,_,i,_)=>if 128<i.bytes then A else match k with
  | .ints=>match MW S y with
   |some (ys,I)=>match x with
    | .nils=>Z (.msl (F S.h) 1 0<|F ys,S.h++[Z<|.ints ys],I/\0<F ys/\F ys<=Aw)
    | .msl k m off n=>match S.h[k]? with
     |some (Z<|.ints xs)=>u (m==1) (Z (.msl (F S.h) 1 0<|F xs+F ys,S.h.set k A++[Z<|.ints<|xs++ys],I/\(off=0/\n=F xs)/\F xs+F ys<=Aw)) A
     |_=>A
    |_=>A
   |none=>A
  | .bools=>match RR S y with
   |some (ys,I)=>match x with
    | .nils=>Z (.msl (F S.h) 1 0<|F ys,S.h++[Z<|.bools ys],I/\0<F ys/\F ys<=Aw)
    | .msl k m off n=>match S.h[k]? with
     |some (Z<|.bools xs)=>u (m==1) (Z (.msl (F S.h) 1 0<|F xs+F ys,S.h.set k A++[Z<|.bools<|xs++ys],I/\(off=0/\n=F xs)/\F xs+F ys<=Aw)) A
     |_=>A
    |_=>A
   |none=>A
  | .gen m=>match Q1 S m y with
   |some (c,g,I)=>match x with
    | .nils=>Z (.msl (F S.h) m 0 c,S.h++[Z<|.arr m c g],(I/\∀i j,i<c->j<m->Ie (g i j)=D)/\0<c/\c<=Aw)
    | .msl k e off n=>match S.h[k]? with
     |some (Z<|.arr b a f)=>u (e==m&&b==m) (Z (.msl (F S.h) m 0<|a+c,S.h.set k A++[Z<|.arr m (a+c) λi j=>u (i<a) (f i j)<|g (i-a) j],(I/\∀i j,i<c->j<m->Ie (g i j)=D)/\(off=0/\n=a)/\a+c<=Aw)) A
     |_=>A
    | .gr k=>match S.h[k]? with
     |some (Z<|.gro b a f)=>u (b==m) (Z (.gr<|F S.h,S.h.set k A++[Z<|.gro m (a+c) λi j=>u (i<a) (f i j)<|g (i-a) j],(I/\∀i j,i<c->j<m->Ie (g i j)=D)/\a+c<=Aw)) A
     |_=>A
    |_=>A
   |none=>A
 |none=>A
section
variable{P:ν}{Γ:A1}{N:Ψ}{S:St}{ρ:O AN}{a:Act}{w:κ}{h:DH}
variable{n:O μ}{c cap m:E}{t e:ψ}
theorem U5(hu:P.underlying t=Z (.slice e)){a:M Addr}(hl:F n=c*m)(hc:∀j ϛ,n[j]?=Z ϛ->∃b o,a=Z ⟨b,o,A⟩/\w.cell? ⟨b,o+j,A⟩=Z ϛ)
 (h1:∀ϛ∈n,ϛ.oneCell'=D) (hm:0<m) (xP:a=A->c=0):Src P m t (.slice a c cap) c n w:=by
 cases a with
 |none=>
  simp_all[Src.ofNil]
 |some a=>
  grind[Src.ofSlice,KW]
variable{I:Prop}{ys:Ξ}{v:μ}
theorem Wv(R:Ad P Γ N S ρ a w)(x:P.underlying t=Z (.slice e)){y:DV}(hy:AL (MS N S.h ρ) w y ρ v)(h:MW S y=Z (ys,I))(c:I):
 Src P 1 t v (F ys) (ys.map<|Value.int .i64) w:=by
 have one:∀ϛ∈ys.map (Value.int .i64),ϛ.oneCell'=D:=λϛ x=>by obtain⟨n,_,rfl⟩:=zMf.1 x;rfl
 have val:∀{j:E} {ϛ:μ},(ys.map<|Value.int .i64)[j]?=Z ϛ->j<F ys/\ϛ=.int .i64 (H ys j 0):=λ{j ϛ} b=>by
  grind
 unfold MW at h;split at h
 ·grind[Src.ofNil,AL]
 ·cases h;obtain⟨ad,cap,rfl,f,g,i⟩:=hy;refine U5 x Z3 (λj ϛ b=>?_) one Z2 λe=>?_
  ·grind
  ·rcases zRn (F ys)with h0|h0
   ·exact h0
   grind
 ·rename_i k m off n;obtain⟨p,cap,o,rfl,f,g,i⟩:=hy;split at h
  ·rename_i l q;split at h
   ·rename_i r;cases h;have Y:m=1:=by simpa using r
    subst Y;obtain⟨p',s,hr⟩:=R.hr.obj k _ q;have e:p'=p:=zBH<|s.symm.trans o;subst e;obtain⟨rfl,rfl⟩:=c;refine U5 x Z3 (λj ϛ b=>?_) one Z2 (λe=>by cases e);obtain⟨Ao,rfl⟩:=val b
    grind[Ai.cell,Bc]
   ·cases h
  ·cases h
 ·cases h
theorem zAH(R:Ad P Γ N S ρ a w)(x:P.underlying t=Z (.slice e)){y:DV}(hy:AL (MS N S.h ρ) w y ρ v){ys:Ω}(h:RR S y=Z (ys,I))(c:I):
 Src P 1 t v (F ys) (ys.map Value.bool) w:=by
 have one:∀ϛ∈ys.map Value.bool,ϛ.oneCell'=D:=λϛ x=>by obtain⟨n,_,rfl⟩:=zMf.1 x;rfl
 have val:∀{j:E} {ϛ:μ},(ys.map Value.bool)[j]?=Z ϛ->j<F ys/\ϛ=.bool (ys.getD j T):=λ{j ϛ} b=>by
  grind
 unfold RR at h;split at h
 ·grind[Src.ofNil,AL]
 ·cases h;obtain⟨ad,cap,rfl,f,g,i⟩:=hy;refine U5 x Z3 (λj ϛ b=>?_) one Z2 λe=>?_
  ·grind
  ·rcases zRn (F ys)with h0|h0
   ·exact h0
   grind
 ·rename_i k m off n;obtain⟨p,cap,o,rfl,f,g,i⟩:=hy;split at h
  ·rename_i l q;split at h
   ·rename_i r;cases h;have Y:m=1:=by simpa using r
    subst Y;obtain⟨p',s,hr⟩:=R.hr.obj k _ q;have e:p'=p:=zBH<|s.symm.trans o;subst e;obtain⟨rfl,rfl⟩:=c;refine U5 x Z3 (λj ϛ b=>?_) one Z2 (λe=>by cases e);obtain⟨Ao,rfl⟩:=val b
    grind[Ai.cell,Bc]
   ·cases h
  ·cases h
 ·cases h
variable{x y:Operand}
def Lc{ρ':Operand->μ}{o:Oper}{c:Call}{N:ψ}(K:o.op=.call c)(hc:c.callee=.builtin .append)(a:c.args.toList= [x,y])(b:c.argTypes.toList= [t,N]):
 ω ρ' o=(do pure (.value (←Builtin.append_ #[t,N] o.type #[ρ' x,ρ' y]))):=by
 unfold ω;rw[K]
 show(resolve ρ' c o.type>>=λϚ=>invoke Ϛ.target Ϛ.args)=_
 unfold resolve;rw[hc,ZN a,ZN b];simp;rfl
variable{p p':AN}{k:E}{w':κ}
def A9.regrowO(ϗ:A9 P Γ N h ρ w){o o':DO}(f:h[k]?=Z (Z o))(e:ρ[k]?=Z p)(W:AV p.foot w w')(K:∀b,p'.foot b->p.foot b∨w.heap.size<=b):
 BW (MS N h ρ) w ρ (MS N (h.set k A++[Z o'])<|ρ++[p']) w' (ρ++[p']):=by
 have r:F (h.set k A)=F h:=Z3
 refine⟨λb hb j _=>W.block b hb λa=>j<|.inr ⟨k,o,p,f,e,a⟩,λb hb=>?_,λi q hi=>Eo hi⟩;rcases hb with hb|hb
 ·exact .inl<|.inl hb
 ·obtain⟨Q,o1,l,s,y,g⟩:=hb;rcases Ec s with⟨c,s⟩|⟨c,_⟩
  ·rcases Ec y with⟨_,y⟩|⟨Y,_⟩
   ·exact .inl<|.inr ⟨Q,o1,l,(LY s).2,y,g⟩
   ·rw[r]at c;rw[ϗ.len]at Y;omega
  ·rcases Ec y with⟨Y,_⟩|⟨_,rfl⟩
   ·rw[r]at c;rw[ϗ.len]at Y;omega
   ·exact(K b g).imp (λa=>.inr ⟨k,o,p,f,e,a⟩) id
variable{W:Call}{ob':DO}{z:μ}{i:TypeInfo}
theorem pA(R:Ad P Γ N S ρ a w)(r:P.underlying t=Z (.slice e))(hi:P.info? e=Z i)(s:i.zero=Z z)(v:i.size≠0)(G:z.cells.size=i.size)(J:i.bytes<=128)
  {ob:DO}  (g:S.h[k]?=Z (Z ob)) (j:ρ[k]?=Z p) {n:E} {Rw:E->μ->Prop} (Q:Ai w p (n*i.size) Rw) (V:n<=cap) (X:p.off+cap*i.size<=p.room)
 {I:μ} {l:O μ} (hy:Src P i.size t I c l w) (f:n+c<=Aw)
 (Y:∀ϕ ρ' w' p',BW (MS N S.h ρ) w ρ ϕ w' ρ'->Ai w' p' ((n+c)*i.size) (Ho (n*i.size) Rw l)->Bc P ϕ w' ρ' p' ob')
 (o:Oper)   (ho:o.op=.call W) (hc:W.callee=.builtin .append) (ha:W.args.toList= [x,y]) (ht:W.argTypes.toList= [t,t]) (hx:a.eval x=.slice (Z ⟨p.blk,p.off,A⟩) n cap) (Tm:a.eval y=I):
 BK P (ω a.eval o) w (Cj P Γ N S.h ρ w T (.msl (F S.h) i.size 0<|n+c)<|S.h.set k A++[Z ob']):=by
 obtain⟨w',p',Bp,h1,h2,h3,m,K,q⟩:=gv (ty:=o.type) r hi s v G J Q V X hy f;refine BK.value (Lc ho hc ha ht) (by rw[hx,Tm];exact h1) ?_
 have m9:∀b,p'.foot b->Dr w' b:=λb f=>by
  obtain⟨e1,cs,tt,e2,_⟩:=q;rw[e1]at f;exact .cells (c:=cs) (t:=tt) (z:=(0,0)) (by rw[show b=p'.blk from f];exact e2)
 have ϐ:=R.hr.regrowO (o':=ob') g j m K;obtain⟨g1,g2⟩:=R.hr.regrow (o':=ob') g j m (λb f=>⟨K b f,m9 b f⟩)<|Y _ _ _ _ ϐ q;refine⟨⟨ρ++[p'],g1,⟨p',Bp,by rw[←R.hr.len];simp,Z3,h2,by grind[LB,Aw],by simpa using h3⟩,g2,λ_ _ h=>Eo h⟩,λh=>by cases h⟩
theorem pC(R:Ad P Γ N S ρ a w)(g:P.underlying t=Z (.slice e))(hi:P.info? e=Z i)(k:i.zero=Z z)(l:z.cells.size=i.size)(m:i.bytes<=128)
   {I:μ}  (hy:Src P i.size t I c n w) (p:0<c) (q:c<=Aw)
 (r:∀ϕ ρ' w' p',BW (MS N S.h ρ) w ρ ϕ w' ρ'->Ai w' p' (c*i.size) (λj ϛ=>n[j]?=Z ϛ)->Bc P ϕ w' ρ' p' ob') (ext:ζ)
 (o:Oper)   (K:o.op=.call W) (hc:W.callee=.builtin .append) (s:W.args.toList= [x,y]) (v:W.argTypes.toList= [t,t]) (G:a.eval x=.slice A 0 0) (J:a.eval y=I):
 BK P (ω a.eval o) w (Cj P Γ N S.h ρ w ext (.msl (F S.h) i.size 0 c) (S.h++[Z ob'])):=by
 obtain⟨w',b,Q,f,cs,rfl,h4,h5⟩:=gx A (ty:=o.type) g hi k l m hy p q;refine BK.value (Lc K hc s v) (by rw[G,J];exact Q) ?_;have B2:c*i.size<=b*i.size:=zNU _ f;refine UB (Ϛ:=.msl (F S.h) i.size 0 c) R.hr ⟨A0.toDrew w,rfl⟩ (λϕ ρ' ϐ=>r _ _ _ _ ϐ ?_) (λϕ ρ' V=>⟨_,b,V,by simp[Dx],f,by grind[LB,Aw],by simp only[Dx];omega⟩) ext;refine Nc rfl Z2 λj hj=>?_
 grind
variable{s:E}{ρ':O AN}{ϕ:Ψ}
theorem lh{xs:Ξ}(p:s=1)(h:Ai w' p' ((F xs+F ys)*s)<|Ho (F xs*s) (λj ϛ=>ϛ=.int .i64 (H xs j 0))<|ys.map<|Value.int .i64):Bc P ϕ w' ρ' p'<|.ints<|xs++ys:=by
 subst p
 show Ai _ _ (F<|xs++ys) _
 rw[zKp];rw[zNK,zNK]at h;refine Ai.out h rfl λj ϛ hj hu=>?_
 grind[Ho]
theorem zQP{xs ys:Ω}(p:s=1)(h:Ai w' p' ((F xs+F ys)*s)<|Ho (F xs*s) (λj ϛ=>ϛ=.bool (xs.getD j T))<|ys.map Value.bool):Bc P ϕ w' ρ' p'<|.bools<|xs++ys:=by
 subst p
 show Ai _ _ (F<|xs++ys) _
 rw[zKp];rw[zNK,zNK]at h;refine Ai.out h rfl λj ϛ hj hu=>?_
 grind[Ho]
variable{g:E->E->DV}
theorem na(R:Ad P Γ N S ρ a w)(V:P.underlying t=Z (.slice e)){y:DV}(hy:AL (MS N S.h ρ) w y ρ v)(z:0<m)(h:Q1 S m y=Z (c,g,I))(W:I)
 (h1:∀i j,i<c->j<m->Ie (g i j)=D):∃r,Src P m t v c r w/\∀j ϛ,r[j]?=Z ϛ->AL (MS N S.h ρ) w (g (j/m)<|j%m) [] ϛ:=by
 have G:∀{j:E},j<c*m->j/m<c/\j%m<m/\j/m*m+j%m=j:=λ{j} q=>⟨by simp_all[zNg],Nat.mod_lt _ z,by grind[Nat.div_add_mod]⟩
 have J:∀(l:M Addr) (cap:E),(∀j,j<c*m->∃b o ϛ,l=Z ⟨b,o,A⟩/\w.cell? ⟨b,o+j,A⟩=Z ϛ/\AL (MS N S.h ρ) w (g (j/m)<|j%m) [] ϛ)->v=.slice l c cap->(l=A->c=0)->
  ∃r,Src P m t v c r w/\∀j ϛ,r[j]?=Z ϛ->AL (MS N S.h ρ) w (g (j/m)<|j%m) [] ϛ:=by
  intro l cap hc x X
  obtain⟨f,hf⟩:∃f:E->μ,∀j,j<c*m->∃b o,l=Z ⟨b,o,A⟩/\w.cell? ⟨b,o+j,A⟩=Z (f j)/\AL (MS N S.h ρ) w (g (j/m)<|j%m) [] (f j):=by
   refine⟨λj=>(match l with|some a=>w.cell? ⟨a.block,a.off+j,A⟩|none=>A).getD undef,λj q=>?_⟩
   grind
  refine⟨(θ<|c*m).map f,?_,λj ϛ q=>?_⟩
  ·rw[x];refine U5 V Z3 (λj ϛ q=>?_) (λϛ FN=>?_) z X
   ·grind
   ·grind[cO]
  grind
 unfold Q1 at h;split at h
 ·grind[AL]
 ·rename_i K n f;split at h
  ·rename_i s;cases h;have Y:K=m:=by simpa using s
   subst Y;obtain⟨l,cap,rfl,g1,g2,Q⟩:=hy;refine J l cap (λj q=>?_) rfl (λe=>?_)
   ·obtain⟨b,o,ϛ,e1,_,e2,e3⟩:=Q _ _ (G q).1 (G q).2.1;exact⟨b,o,ϛ,e1,by simp_all,e3⟩
   ·rcases zRn c with h0|h0
    ·exact h0
    grind
  ·cases h
 ·rename_i k K off n;obtain⟨p,cap,hp,rfl,g1,g2,Q⟩:=hy;split at h
  ·rename_i m2 n2 f hk;split at h
   ·rename_i s;cases h;simp only[zAx,zKq]at s;obtain⟨rfl,rfl⟩:=s;obtain⟨p',BL,hr⟩:=R.hr.obj k _ hk;have e:p'=p:=zBH<|BL.symm.trans hp;subst e;obtain⟨rfl,rfl⟩:=W;refine J (Z ⟨p'.blk,p'.off+0*m2,A⟩) cap (λj q=>?_) rfl (λe=>by cases e)
    grind[Ai.cell,Bc]
   ·cases h
  ·cases h
 ·cases h
variable{f:E->E->DV}
def zAb{n:E}{a:O μ}{M':Ψ}(b:0<m)(ϐ:BW ϕ w ρ M' w' ρ')(y:∀j ϛ,a[j]?=Z ϛ->AL ϕ w (g (j/m)<|j%m) [] ϛ)
 (k:Ai w' p' ((n+c)*m)<|Ho (n*m) (λj ϛ=>AL ϕ w (f (j/m)<|j%m) [] ϛ) a):Ai w' p' ((n+c)*m) λj ϛ=>AL M' w' (u (j/m<n) (f (j/m)<|j%m)<|g (j/m-n)<|j%m) [] ϛ:=by
 refine Ai.out k rfl λj ϛ hj z=>?_
 unfold Ho at z
 by_cases q:j<n*m
 ·rw[zAF q]at z;rw[zAF<|by rw[zNg b];exact q];exact AL.out _ ϐ.nil z
 ·rw[zJz q]at z;rw[zJz<|by rw[zNg b];exact q];have e:=y _ _ z;have R:(j-n*m)/m=j/m-n:=by rw[zRa n m];exact Nat.sub_mul_div ..
  have X:(j-n*m)%m=j%m:=by
   have J:j=(j-n*m)+n*m:=Z2
   rw[J,Nat.add_mul_mod_self_right,Nat.add_sub_cancel]
  rw[R,X]at e;exact AL.out _ ϐ.nil e
def zQo{ty:ψ}(x:P.underlying t=Z (.slice e))(hi:P.info? e=Z i){I:μ}(p:Src P i.size t I 0 n w):
 (Builtin.append_ #[t,t] ty #[.slice A 0 0,I]).run P w=.ok (.slice A 0 0) w:=by
 simp[Builtin.append_,zKz x,sizeOf,typeInfo,hi,p.len,p.cells]
theorem zQp(R:Ad P Γ N S ρ a w)(I:P.underlying t=Z (.slice e))(hi:P.info? e=Z i)(hz:i.zero=Z z)(OZ:i.size≠0)(Cf:z.cells.size=i.size)(Eb:i.bytes<=128)
 {n:E}   (s:S.h[k]?=Z (Z<|.gro i.size n f)) (v:ρ[k]?=Z p) {J:μ} {G:O μ} (hy:Src P i.size t J c G w) (l:n+c<=Aw)
 (Mh:∀j ϛ,G[j]?=Z ϛ->AL (MS N S.h ρ) w (g (j/i.size)<|j%i.size) [] ϛ)
 (o:Oper)   (ho:o.op=.call W) (hc:W.callee=.builtin .append) (ha:W.args.toList= [x,y]) (ht:W.argTypes.toList= [t,t]) (hx:a.eval x=p.val) (Tm:a.eval y=J):
 BK P (ω a.eval o) w (Cj P Γ N S.h ρ w T (.gr<|F S.h)<|S.h.set k A++[Z<|.gro i.size (n+c) λi j=>u (i<n) (f i j)<|g (i-n) j]):=by
 by_cases xl:c=0/\n=0/\p.val=.slice A 0 0/\p.foot=λ_=>False
 ·obtain⟨rfl,rfl,m,X⟩:=xl;refine BK.value (Lc ho hc ha ht) (by rw[hx,Tm,m];exact zQo I hi hy) ?_;obtain⟨K,Q⟩:=R.hr.regrow (o':=.gro i.size (0+0) λi j=>u (i<0) (f i j)<|g (i-0) j) (p':=p) s v (AV.refl _ _) (λb l=>by rw[X]at l;exact l.elim)<|Or.inl ⟨rfl,m,X⟩;exact⟨⟨ρ++[p],K,⟨p,_,_,_,by rw[←R.hr.len];simp,m.symm,rfl⟩,Q,λ_ _ h=>Eo h⟩,λh=>by cases h⟩
 have key:∃w' p' r,(Builtin.append_ #[t,t] o.type #[p.val,J]).run P w=.ok (.slice (Z ⟨p'.blk,p'.off,A⟩) (n+c) r) w'/\n+c<=r/\p'.off+r*i.size<=p'.room/\
  AV p.foot w w'/\(∀b,p'.foot b->p.foot b∨w.heap.size<=b)/\Ai w' p' ((n+c)*i.size) (Ho (n*i.size) (λj ϛ=>AL (MS N S.h ρ) w (f (j/i.size)<|j%i.size) [] ϛ) G):=by
  obtain⟨p1,LO,V⟩:=R.hr.obj k _ s;obtain rfl:p1=p:=zBH<|LO.symm.trans v;rcases V with⟨rfl,m,X⟩|⟨cap,m,X,e3,e4,V⟩
  ·have Mn:0<c:=Nat.pos_of_ne_zero λh=>xl ⟨h,rfl,m,X⟩
   obtain⟨w',r,Y,h2,cs,rfl,h4,h5⟩:=gx A (ty:=o.type) I hi hz Cf Eb hy Mn (by unfold Aw at l;omega);have B2:c*i.size<=r*i.size:=zNU _ h2;have Oe:F G=c*i.size:=hy.newsLen;refine⟨_,Dx w cs.size,r,by rw[m,zKx];exact Y,Z2,by simp only[Dx];omega,AV.ofExt<|(A0.toDrew w).allocR _,λb l=>.inr<|Nat.le_of_eq<|Eq.symm l,?_⟩;rw[zKx];refine Nc rfl Z2 λj hj=>?_
   grind[Ho]
  ·rw[m];exact gv (ty:=o.type) I hi hz OZ Cf Eb V X e4 hy l
 obtain⟨w',p',r,Y,h2,h3,h4,h5,h6⟩:=key
 let q:AN:={ p' with val:=.slice (Z ⟨p'.blk,p'.off,A⟩) (n+c) r }
 refine BK.value (Lc ho hc ha ht) (by rw[hx,Tm];exact Y) ?_
 have m9:∀b,q.foot b->Dr w' b:=λb l=>by
  obtain⟨m,cs,tt,X,_⟩:=h6;have l:p'.foot b:=l;rw[m]at l;exact .cells (c:=cs) (t:=tt) (z:=(0,0)) (by rw[show b=p'.blk from l];exact X)
 have ϐ:=R.hr.regrowO (o':=.gro i.size (n+c) λi j=>u (i<n) (f i j)<|g (i-n) j) (p':=q) s v h4 h5;obtain⟨K,Q⟩:=R.hr.regrow (o':=.gro i.size (n+c) λi j=>u (i<n) (f i j)<|g (i-n) j) (p':=q) s v h4 (λb l=>⟨h5 b l,m9 b l⟩)<|Or.inr ⟨r,rfl,h2,by unfold LB;unfold Aw at l;omega,h3,zAb (p':=q) Z2 ϐ Mh h6⟩;exact⟨⟨ρ++[q],K,⟨q,_,_,_,by rw[←R.hr.len];simp,rfl,rfl⟩,Q,λ_ _ h=>Eo h⟩,λh=>by cases h⟩
theorem zAg(R:Ad P Γ N S ρ a w){Ϛ:DV}{h':DH}{vc:Prop}(b:Uj P S t (Ak S.fr x) (Ak S.fr y)=Z (Ϛ,h',vc))(l:vc)(o:Oper){cl:Call}(K:o.op=.call cl)(hc:cl.callee=.builtin .append)
 (G:cl.args.toList= [x,y]) (I:cl.argTypes.toList= [t,t]):BK P (ω a.eval o) w<|Cj P Γ N S.h ρ w T Ϛ h':=by
 have rx:=Bo R x;have ry:=Bo R y;unfold Uj at b;split at b
 ·rename_i kk e i z hk;obtain⟨r,hi,J,h0,V,GH,hq1,du⟩:=YE hk;clear hq1 du;split at b
  ·cases b
  ·have W:i.bytes<=128:=Z2
   split at b
   ·have Y:i.size=1:=GH.symm;split at b
    ·rename_i ys vy hy;split at b
     ·rename_i X;cases b;rw[X]at rx
      have:=pC (ob':=.ints ys) R r hi J V W (by rw[Y];exact Wv R r ry hy l.1) l.2.1 l.2.2 (λϕ ρ' w' p' ϐ q=>by
       simp_all[Bc,Ai]) T o K hc G I rx rfl
      grind
     ·rename_i k m off n X;rw[X]at rx;obtain⟨p,cap,s,hx,g1,g2,g3⟩:=rx;split at b
      ·rename_i xs Q;split at b
       ·rename_i v;cases b;have EE:m=1:=by simpa using v
        subst EE;obtain⟨q1,⟨rfl,rfl⟩,q3⟩:=l;obtain⟨p',BL,q⟩:=R.hr.obj k _ Q;have e:p'=p:=zBH<|BL.symm.trans s;subst e
        have:=pA (ob':=.ints<|xs++ys) (n:=F xs) (cap:=cap) (c:=F ys) R r hi J h0 V W Q s (Rw:=λj ϛ=>ϛ=.int .i64 (H xs j 0)) (by simp_all[Bc]) g1 (by rw[Y];simpa using g3) (by grind[Wv]) q3
         (λϕ ρ' w' p' ϐ q=>lh Y q) o K hc G I (by simpa using hx) rfl
        grind
       ·cases b
      ·cases b
     ·cases b
    ·cases b
   ·have Y:i.size=1:=GH.symm;split at b
    ·rename_i ys vy hy;split at b
     ·rename_i X;cases b;rw[X]at rx
      have:=pC (ob':=.bools ys) R r hi J V W (by rw[Y];exact zAH R r ry hy l.1) l.2.1 l.2.2 (λϕ ρ' w' p' ϐ q=>by
       simp_all[Bc,Ai]) T o K hc G I rx rfl
      grind
     ·rename_i k m off n X;rw[X]at rx;obtain⟨p,cap,s,hx,g1,g2,g3⟩:=rx;split at b
      ·rename_i xs Q;split at b
       ·rename_i v;cases b;have EE:m=1:=by simpa using v
        subst EE;obtain⟨q1,⟨rfl,rfl⟩,q3⟩:=l;obtain⟨p',BL,q⟩:=R.hr.obj k _ Q;have e:p'=p:=zBH<|BL.symm.trans s;subst e
        have:=pA (ob':=.bools<|xs++ys) (n:=F xs) (cap:=cap) (c:=F ys) R r hi J h0 V W Q s (Rw:=λj ϛ=>ϛ=.bool (xs.getD j T)) (by simp_all[Bc]) g1 (by rw[Y];simpa using g3) (by grind[zAH]) q3
         (λϕ ρ' w' p' ϐ q=>zQP Y q) o K hc G I (by simpa using hx) rfl
        grind
       ·cases b
      ·cases b
     ·cases b
    ·cases b
   ·rename_i m;have Cu:i.size=m:=GH.symm;have AB:0<m:=Z2
    split at b
    ·rename_i c g vy hy;split at b
     ·rename_i X;cases b;rw[X]at rx;obtain⟨Bv,XE,Mh⟩:=na R r ry AB hy l.1.1 l.1.2
      have:=pC (ob':=.arr m c g) R r hi J V W (by rw[Cu];exact XE) l.2.1 l.2.2 (λϕ ρ' w' p' ϐ q=>by
       rw[Cu]at q;exact Ai.out q rfl λj ϛ hj FN=>AL.out _ ϐ.nil<|Mh j ϛ FN) T o K hc G I rx rfl
      grind
     ·rename_i k m' off n X;rw[X]at rx;obtain⟨p,cap,s,hx,g1,g2,g3⟩:=rx;split at b
      ·rename_i m2 n2 f Q;split at b
       ·rename_i v;cases b;simp only[zAx,zKq]at v;obtain⟨rfl,rfl⟩:=v;obtain⟨q1,⟨rfl,rfl⟩,q3⟩:=l;obtain⟨p',BL,q⟩:=R.hr.obj k _ Q;have e:p'=p:=zBH<|BL.symm.trans s;subst e;obtain⟨Bv,XE,Mh⟩:=na R r ry AB hy q1.1 q1.2
        have:=pA (ob':=.arr m2 (n+c) λi j=>u (i<n) (f i j)<|g (i-n) j) (n:=n) (cap:=cap) (c:=c) R r hi J h0 V W Q s (Rw:=λj ϛ=>AL (MS N S.h ρ) w (f (j/m2)<|j%m2) [] ϛ) (by rw[Cu];exact q) g1 (by rw[Cu];simpa using g3) (by rw[Cu];exact XE) q3
         (λϕ ρ' w' p' ϐ q=>by rw[Cu]at q;exact zAb AB ϐ Mh q) o K hc G I (by simpa using hx) rfl
        grind
       ·cases b
      ·cases b
     ·rename_i k X;rw[X]at rx;obtain⟨p,_,_,_,s,e1,e2⟩:=rx;split at b
      ·rename_i m2 n2 f Q;split at b
       ·rename_i v;cases b;obtain rfl:m2=m:=by simpa using v
        obtain⟨Bv,XE,Mh⟩:=na R r ry AB hy l.1.1 l.1.2;subst Cu;exact zQp R r hi J h0 V W Q s XE l.2 Mh o K hc G I e1 rfl
       ·cases b
      ·cases b
     ·cases b
    ·cases b
 ·cases b
end
abbrev zJ9:=@List.mem_range
abbrev zKs:=@Nat.le_of_ble_eq_true
abbrev zMz:=@Option.map_some
abbrev zNe:=@List.map_cons
abbrev zN0:=@List.all_cons
abbrev zOZ:=@Option.getD_some
abbrev zRm:=@Go.run_equalIn_int
def fL(S:E->X5)(cells:O DV):O (E×DV)->M (O DV)
 |[]=>Z cells
 |(i,Ϛ)::rest=>match S i with
  |none=>A
  |some (off,z)=>match JX Ϛ with
   |none=>A
   |some l=>u (F l=z/\off+F l<=F cells) (fL S (Pe cells off l) rest) A
def kU(P:ν)(t:ψ):M<|μ×(E->X5):=match P.info? t with
 |some Q=>match P.underlying t with
  |some (.array _ e)=>match Q.zero with
   |some z=>match P.info? e with
    |some q=>Z (z,λi=>Z (i*q.size,q.size))
    |none=>A
   |none=>A
  |some (.struct a)=>match Q.zero with
   |some z=>match a.toList.mapM (λf=>(P.info? f.type).map λi=>(f.offset,i.size))with
    |some S=>Z (z,λi=>S.toArray[i]?)
    |none=>A
   |none=>A
  |_=>A
 |none=>A
def dE(P:ν)(S:St)(t:ψ)(parts:O<|E×Operand):M<|DV×Prop:=match kU P t with
 |some (z,a)=>match fL a (z.cells.toList.map OF) (parts.map λx=>(x.1,Ak S.fr x.2))with
  |some l=>Z (.agg (F l) λj=>l.getD j .any,True)
  |none=>A
 |none=>A
def MF(P:ν)(t:ψ)(m:E)(f:E->DV)(off z:E):M DV:=u (off+z<=m) (u (Gc P t) (u (z=1) (Z<|f off) A)<|u (Yp P t z) (Z<|.agg z<|F8 z λj=>f<|off+j) A) A
def lZ(P:ν)(t:ψ)(x:DV)(n:U):M<|DV×Prop:=match x with
 | .agg m f=>match P.underlying t with
  |some (.array len e)=>match P.info? e with
   |some i=>u (Gc P e&&i.size==1&&len==m) (Z (f n.toNat,0<=n/\n<len)) A
   |none=>A
  |_=>A
 |_=>A
def fG(P:ν)(t:ψ)(x:DV)(N:E):M<|DV×Prop:=match x with
 | .agg m f=>match P.underlying t with
  |some (.struct n)=>match n[N]? with
   |some l=>match P.info? l.type with
    |some i=>match MF P l.type m f l.offset i.size with
     |some Ϛ=>Z (Ϛ,True)
     |none=>A
    |none=>A
   |none=>A
  |_=>A
 |_=>A
def oB(P:ν)(t:ψ)(x:DV)(lo hi:W5):M<|DV×Prop:=match P.underlying t with
 |some (.slice e)=>match P.info? e with
  |some i=>match x with
   | .ints l=>u (i.size=1) (Z (.ints<|(l.take (hi.getD<|F l).toNat).drop (lo.getD 0).toNat,0<=lo.getD 0/\lo.getD 0<=hi.getD (F l)/\hi.getD (F l)<=F l)) A
   | .bools l=>u (i.size=1) (Z (.bools<|(l.take (hi.getD<|F l).toNat).drop (lo.getD 0).toNat,0<=lo.getD 0/\lo.getD 0<=hi.getD (F l)/\hi.getD (F l)<=F l)) A
   | .sl m n f=>u (i.size=m) (Z (.sl m ((hi.getD n).toNat-(lo.getD 0).toNat) λi j=>f ((lo.getD 0).toNat+i) j,0<=lo.getD 0/\lo.getD 0<=hi.getD n/\hi.getD n<=n)) A
   | .msl k m off n=>u (i.size=m) (Z (.mse k m (off+(lo.getD 0).toNat)<|(hi.getD n).toNat-(lo.getD 0).toNat,0<=lo.getD 0/\lo.getD 0<=hi.getD n/\hi.getD n<=n)) A
   |_=>A
  |none=>A
 |_=>A
def dU(S:St):M Operand->M W5
 |none=>Z A
 |some x=>match Ak S.fr x with
  | .int _ n=>Z<|Z n
  |_=>A
def Ow(f g:E->DV):Θ->ζ
 |[]=>D
 |i::Q=>(H7 (f i)==H7 (g i))&&Ow f g Q
def nq(P:ν)(m:E)(f g:E->DV)(l:Field):ζ:=l.name != "_" &&((match P.info? l.type with|some i=>i.size==1|none=>T)&&(Gc P l.type&&((match P.underlying l.type with|some (.int _)=>D|_=>T)&&(Nat.blt l.offset m&&(JG (f l.offset)&&JG (g l.offset))))))
def fT(P:ν)(t:ψ)(f g:E->DV)(m b:E):M Θ:=match P.underlying t with
 |some (.struct a)=>u (P.stoodInHeld t==T&&(P.eqGuardType P.depth t==T&&(m==b&&a.toList.all (nq P m f g)))) (Z (a.toList.map (·.offset))) A
 |some (.array n e)=>match P.info? e with
  |some i=>match P.underlying e with
   |some (.int _)=>u (i.size==1&&Gc P e&&P.eqGuardType P.depth t==T&&n==m&&n==b&&(θ n).all λi=>JG (f i)&&JG (g i)) (Z<|θ n) A
   |_=>A
  |none=>A
 |_=>A
def Xz(P:ν)(a:BinOp)(t:ψ)(x y:DV):M<|DV×Prop:=match a,x,y with
 | .eql,.agg m f,.agg b g=>match fT P t f g m b with
  |some Q=>Z (.bool<|Ow f g Q,True)
  |none=>A
 | .neq,.agg m f,.agg b g=>match fT P t f g m b with
  |some Q=>Z (.bool<|!(Ow f g Q),True)
  |none=>A
 |_,_,_=>A
def gD(P:ν)(t:ψ):ζ:=match P.underlying t with
 |some (.interface _)=>T
 |some _=>D
 |none=>T
def ow(P:ν)(V:ψ)(ok:ζ):DV->M DV
 | .cst (.iface t<|.int k n)=>u (t=V&&gD P V) (Z<|u ok (.tup 2 λj=>[DV.int k n,.bool D].getD j .any)<|.int k n) A
 | .cst .nilIface=>if ok&&gD P V then match P.info? V with
  |some i=>match i.zero with
   |some (.int k n)=>Z<|.tup 2 λj=>[DV.int k n,.bool T].getD j .any
   |_=>A
  |none=>A
  else A
 |_=>A
theorem zQn{P:ν}{ϕ:Ψ}{w:κ}{ρ:O AN}{xt V:ψ}{ok:ζ}{Ϛ d':DV}{v:μ}(a:AL ϕ w Ϛ ρ v)(h:ow P V ok Ϛ=Z d'):∃ϛ,(∀W,(Instr.typeAssert v xt V ok).run P W=.ok ϛ W)/\AL ϕ w d' ρ ϛ:=by
 have two:∀(k:IntKind) (n:U) (b:ζ),AL ϕ w (.tup 2 λj=>[DV.int k n,.bool b].getD j .any) ρ<|.tuple #[.int k n,.bool b]:=λk n b=>⟨_,rfl,rfl,λj l=>match j,l with
  |0,_=>⟨_,rfl,rfl⟩
  |1,_=>⟨_,rfl,rfl⟩
  |j+2,l=>τ l Z2⟩
 unfold ow at h;split at h
 ·rename_i t k n;split at h
  ·rename_i hc;simp only[zAx,zK9]at hc;obtain⟨rfl,hc⟩:=hc;obtain⟨rfl,_⟩:=a;unfold gD at hc;cases h;cases ok
   ·refine⟨.int k n,λW=>?_,rfl⟩;split at hc <;> first|(cases hc)|skip
    simp_all[Instr.typeAssert,zKz]
   ·split at hc <;> first|(cases hc)|skip
    simp_all[Instr.typeAssert,zKz]
  ·cases h
 ·split at h
  ·rename_i hc;simp only[zAx]at hc;obtain⟨rfl,hc⟩:=hc;obtain⟨rfl,_⟩:=a;unfold gD at hc;split at h
   ·split at h
    ·cases h;split at hc <;> first|(cases hc)|skip
     simp_all[Instr.typeAssert,zKz,zeroValue,typeInfo]
    ·cases h
   ·cases h
  ·cases h
 ·cases h
def WM(P:ν)(S:St):Op->M (DV×Prop)
 | .typeAssert x _ V ok=>match ow P V ok (Ak S.fr x)with
  |some Ϛ=>Z (Ϛ,True)
  |none=>A
 | .build t parts=>dE P S t parts.toList
 | .index t x i=>match Ak S.fr i with
  | .int _ n=>lZ P t (Ak S.fr x) n
  |_=>A
 | .field t x f=>fG P t (Ak S.fr x) f
 | .slice t x lo hi A=>match dU S lo with
  |some l=>match dU S hi with
   |some h=>oB P t (Ak S.fr x) l h
   |none=>A
  |none=>A
 | .binOp op t x y K=>match Xz P op t (Ak S.fr x) (Ak S.fr y)with
  |some r=>Z r
  |none=>TH P S<|.binOp op t x y K
 |op=>TH P S op
section
variable{P:ν}{Γ:A1}{N:Ψ}{S:St}{ρ:O AN}{a:Act}{w:κ}
def iJ(ϕ:Ψ)(w:κ)(ρ:O AN)(l:O DV)(cs:υ μ):Prop:=cs.size=F l/\∀j,j<F l->∃ϛ,cs[j]?=Z ϛ/\AL ϕ w (l.getD j .any) ρ ϛ
theorem zAa:∀(vs:O μ) (k off:E) (cs:υ μ),((vs.zipIdx k).foldl (λ(cs:υ μ) (x:μ×E)=>cs.setIfInBounds (off+x.2) x.1) cs).size=cs.size/\
 ∀j,((vs.zipIdx k).foldl (λ(cs:υ μ) (x:μ×E)=>cs.setIfInBounds (off+x.2) x.1) cs)[j]?=u (off+k<=j/\j<off+k+F vs/\j<cs.size) (vs[j-(off+k)]?) (cs[j]?)
 |[],k,off,cs=>⟨rfl,λj=>by
  rw[zJz]
  ·rfl
  grind⟩
 |v::vs,k,off,cs=>by
  obtain⟨h1,h2⟩:=zAa vs (k+1) off<|cs.setIfInBounds (off+k) v
  grind[List.zipIdx_cons]
variable{ϕ:Ψ}
theorem yq{g:E->X5}:∀(parts:O<|E×Operand) (l:O DV) (cs:υ μ) (r:O DV),iJ ϕ w ρ l cs->(∀x,AL ϕ w (Ak S.fr x) ρ<|a.eval x)->
 fL g l (parts.map λx=>(x.1,Ak S.fr x.2))=Z r->∃f,Instr.fill g cs (parts.map λx=>(x.1,a.eval x.2))=Z f/\iJ ϕ w ρ r f
 |[],l,cs,r,hc,_,h=>by cases h;exact⟨cs,rfl,hc⟩
 |(i,x)::rest,l,cs,r,hc,k,h=>by
  simp only[zNe,fL]at h;split at h
  ·cases h
  ·rename_i off size Gi;split at h
   ·cases h
   ·rename_i ds z;split at h
    ·obtain⟨Q,c2⟩:=YO z<|k x;have xe:¬(off+(a.eval x).cells.size>cs.size):=by rw[Q,hc.1];omega
     obtain⟨m,R⟩:=zAa (a.eval x).cells.toList 0 off cs
     have n:iJ ϕ w ρ (Pe l off ds)<|(a.eval x).cells.zipIdx.foldl (λcs (c,j)=>cs.setIfInBounds (off+j) c) cs:=by
      have J:(a.eval x).cells.zipIdx.foldl (λcs (c,j)=>cs.setIfInBounds (off+j) c) cs=((a.eval x).cells.toList.zipIdx 0).foldl (λ(cs:υ μ) (x:μ×E)=>cs.setIfInBounds (off+x.2) x.1) cs:=by
       rw[←Array.foldl_toList];simp
      rw[J];refine⟨by rw[m,i4,hc.1],λj b=>?_⟩;rw[i4]at b;rw[R j,i6 l off ds b]
      by_cases e:off<=j/\j<off+F ds
      ·grind
      ·rw[zJz Z7,zJz e];exact hc.2 j b
     obtain⟨f,g1,g2⟩:=yq rest _ _ r n k h
     simp_all[Instr.fill]
    ·cases h
variable{t:ψ}
theorem zH3{z:μ}{S:E->X5}(h:kU P t=Z (z,S))(parts:O<|E×μ):P.built t parts=Instr.fill S z.cells parts:=by
 grind[kU,Program.built]
variable{b:Prop}{Ϛ:DV}
theorem zJZ(R:Ad P Γ N S ρ a w){parts:υ (E×Operand)}(h:dE P S t parts.toList=Z (Ϛ,b)):Yl P N w (MS N S.h ρ) ρ (Instr.build t<|parts.map λ(i,x)=>(i,a.eval x)) Ϛ:=by
 unfold dE at h;split at h
 ·rename_i z J1 c;split at h
  ·rename_i l q;cases h
   have h0:iJ (MS N S.h ρ) w ρ (z.cells.toList.map OF) z.cells:=⟨Z3,λj hj=>by
    grind[cQ]⟩
   obtain⟨f,g1,y,e⟩:=yq parts.toList _ _ _ h0 (Bo R) q;refine Yl.pure (v:=.agg f) (λW=>run_build W t _ f ?_) ⟨f,rfl,y,e⟩;rw[zH3 c]
   simp_all
  ·cases h
 ·cases h
variable{i:TypeInfo}{f:E->DV}{m:E}
theorem aN{cs:υ μ}{off z:E}(hi:P.info? t=Z i)(BT:i.size=z)(Ea:cs.size=m)(k:∀j,j<m->∃ϛ,cs[j]?=Z ϛ/\AL ϕ w (f j) ρ ϛ)(h:MF P t m f off z=Z Ϛ):Yl P N w ϕ ρ (part t cs off) Ϛ:=by
 unfold MF at h;split at h
 ·split at h
  ·rename_i a;split at h
   ·obtain⟨ϛ,s,y⟩:=k off Z2;unfold Gc at a;simp only[zAx,zRj,zKr]at a;obtain⟨⟨b,c⟩,hn⟩:=a
    simp_all[Yl.pure,part,Vc]
   ·cases h
  ·split at h
   ·rename_i e;cases h;obtain⟨g,i',B6,wz⟩:=pP e;obtain⟨b,c⟩:=we g;refine Yl.pure (v:=.agg<|cs.extract off<|off+z) (λW=>?_) ⟨_,rfl,Z7,λj hj=>?_⟩
    ·simp_all[part,Vc,Kl]
    ·obtain⟨ϛ,s,y⟩:=k (off+j) Z2
     grind[PY]
   ·cases h
 ·cases h
variable{n:U}{k:IntKind}{v:μ}
theorem zKN(R:Ad P Γ N S ρ a w){x:DV}(j:AL (MS N S.h ρ) w x ρ v)(h:lZ P t x n=Z (Ϛ,b))(c:b):Yl P N w (MS N S.h ρ) ρ (Instr.index t v<|.int k n) Ϛ:=by
 unfold lZ at h;split at h
 ·rename_i m f;obtain⟨cs,rfl,p,l⟩:=j;split at h
  ·rename_i len e o;split at h
   ·rename_i i hi;split at h
    ·rename_i hc;cases h;simp only[zAx,zKq]at hc;obtain⟨⟨h1,g⟩,rfl⟩:=hc
     have q:MF P e len f n.toNat 1=Z (f n.toNat):=by
      grind[MF]
     obtain⟨ϛ,s,y⟩:=aN (P:=P) hi g p l q;refine⟨ϛ,λW r=>?_,y⟩;unfold Instr.index;simp only[asIntOf,zK6,Sem.run_pure,Result.andThen,zKz o];rw[zAF ⟨c.1,c.2⟩];simp only[zK6,Kl hi,Result.andThen,g,zNK];exact s W r
    ·cases h
   ·cases h
  ·cases h
 ·cases h
def zOB(R:Ad P Γ N S ρ a w){x:DV}{c:Prop}{b:E}(e:AL (MS N S.h ρ) w x ρ v)(h:fG P t x b=Z (Ϛ,c)):Yl P N w (MS N S.h ρ) ρ (Instr.field t v b) Ϛ:=by
 unfold fG at h;split at h
 ·obtain⟨cs,rfl,p,k⟩:=e;split at h
  ·rename_i fs f;split at h
   ·rename_i fd q;split at h
    ·rename_i i hi;split at h
     ·rename_i d' g;cases h;obtain⟨ϛ,s,y⟩:=aN (P:=P) hi rfl p k g;refine⟨ϛ,λW l=>?_,y⟩;unfold Instr.field;simp only[zK6,zKz f,Result.andThen,q,asAgg,Sem.run_pure];exact s W l
     ·cases h
    ·cases h
   ·cases h
  ·cases h
 ·cases h
theorem zFH{y:E}{c:BoundsCode}(h0:0<=n)(h1:n<=y)(W:κ):(Instr.sliceBound (.int k n) y c).run P W=.ok n.toNat W:=by
 simp_all[Instr.sliceBound,asIntOf]
theorem wg(R:Ad P Γ N S ρ a w){o:M Operand}{l:W5}(h:dU S o=Z l):∃k,o.map a.eval=l.map (Value.int k):=by
 cases o with
 |none=>cases h;exact⟨.i64,rfl⟩
 |some x=>
  simp only[dU]at h;split at h
  ·rename_i k n e;cases h;have:=Bo R x
   grind[AL]
  ·cases h
variable{lo hi:W5}{e:ψ}
theorem aP{a:M Addr}{len cap:E}{R S:IntKind}(hu:P.underlying t=Z (.slice e))(B6:P.info? e=Z i)(h0:0<=lo.getD 0)(h1:lo.getD 0<=hi.getD len)(h2:hi.getD len<=len)(h3:len<=cap)(W:κ):
 (Instr.sliceAt t (.slice a len cap) (lo.map<|Value.int R) (hi.map<|Value.int S) A).run P W=
  .ok (.slice (u (cap=(lo.getD 0).toNat) a (a.map (·.add ((lo.getD 0).toNat*i.size)))) ((hi.getD len).toNat-(lo.getD 0).toNat)<|cap-(lo.getD 0).toNat) W:=by
 have hb:(Instr.sliceBounds D len cap (lo.map<|Value.int R) (hi.map<|Value.int S) A).run P W=.ok ((lo.getD 0).toNat,(hi.getD len).toNat,cap) W:=by
  cases lo <;> cases hi <;> simp only[Option.map_none,zMz,Option.getD_none,zOZ]at* <;>
   simp(disch:=omega) [Instr.sliceBounds,zFH,zK6,Result.andThen]
 simp_all[Instr.sliceAt,zKz,Instr.slice,Kl]
theorem zPN(R:Ad P Γ N S ρ a w){x:DV}{vc:Prop}{kl kh:IntKind}(z:AL (MS N S.h ρ) w x ρ v)(h:oB P t x lo hi=Z (Ϛ,vc))(G:vc):
 Yl P N w (MS N S.h ρ) ρ (Instr.sliceAt t v (lo.map<|Value.int kl) (hi.map<|Value.int kh) A) Ϛ:=by
 unfold oB at h;split at h
 ·rename_i e I;split at h
  ·rename_i i J
   have gd:∀{α:Type} (l:O α) (q c j:E) (Ϛ:α),j<F ((l.take c).drop q)->((l.take c).drop q).getD j Ϛ=l.getD (q+j) Ϛ:=λl q c j Ϛ K=>by
    grind
   split at h
   ·rename_i l;split at h
    ·rename_i Q;cases h;obtain⟨ad,cap,rfl,s,X,r⟩:=z;obtain⟨V,g,v3⟩:=G;have Y:F ((l.take (hi.getD<|F l).toNat).drop (lo.getD 0).toNat)=(hi.getD<|F l).toNat-(lo.getD 0).toNat:=Z7
     refine Yl.pure (λW=>aP I J V g v3 s W) ⟨_,_,by rw[Y],Z2,Z2,λj K=>?_⟩;obtain⟨b,o,rfl,y,q2⟩:=r ((lo.getD 0).toNat+j) Z2;refine⟨b,o+(lo.getD 0).toNat,?_,y,?_⟩
     ·rw[zJz Z2];simp_all[KW]
     grind
    ·cases h
   ·rename_i l;split at h
    ·rename_i Q;cases h;obtain⟨ad,cap,rfl,s,X,r⟩:=z;obtain⟨V,g,v3⟩:=G;have Y:F ((l.take (hi.getD<|F l).toNat).drop (lo.getD 0).toNat)=(hi.getD<|F l).toNat-(lo.getD 0).toNat:=Z7
     refine Yl.pure (λW=>aP I J V g v3 s W) ⟨_,_,by rw[Y],Z2,Z2,λj K=>?_⟩;obtain⟨b,o,rfl,y,q2⟩:=r ((lo.getD 0).toNat+j) Z2;refine⟨b,o+(lo.getD 0).toNat,?_,y,?_⟩
     ·rw[zJz Z2];simp_all[KW]
     grind
    ·cases h
   ·rename_i m n f;split at h
    ·rename_i Q;cases h;obtain⟨ad,cap,rfl,s,X,r⟩:=z;obtain⟨V,g,v3⟩:=G;refine Yl.pure (λW=>aP I J V g v3 s W) ⟨_,_,rfl,Z2,Z2,λi1 j Hh K=>?_⟩;obtain⟨b,o,ϛ,rfl,y,q2,q3⟩:=r ((lo.getD 0).toNat+i1) j Z2 K;refine⟨b,o+(lo.getD 0).toNat*m,ϛ,?_,y,?_,q3⟩
     ·rw[zJz Z2];grind[KW]
     grind
    ·cases h
   ·rename_i k m off n;split at h
    ·rename_i Q;cases h;obtain⟨p,cap,hp,rfl,s,X,r⟩:=z;obtain⟨V,g,v3⟩:=G;refine Yl.pure (λW=>aP I J V g v3 s W) ⟨p,_,cap-(lo.getD 0).toNat,hp,rfl,Z2,Z2,λhc=>⟨?_,?_⟩⟩
     ·rw[zJz Z2];grind[KW]
     ·have:cap*m=(lo.getD 0).toNat*m+(cap-(lo.getD 0).toNat)*m:=by rw[←zRU];congr 1;omega
      rw[zRU];omega
    ·cases h
   ·cases h
  ·cases h
 ·cases h
variable{g:E->DV}{xs ys:υ μ}
theorem sY{X:IntKind}{n Ϛ:E}(hi:P.info? e=Z i)(p:i.size=1)(o:Gc P e=D)(a:P.underlying e=Z (.int X))(b:xs.size=n)(hy:ys.size=n)
 (rx:∀j,j<n->∃ϛ,xs[j]?=Z ϛ/\AL ϕ w (f j) ρ ϛ) (v:∀j,j<n->∃ϛ,ys[j]?=Z ϛ/\AL ϕ w (g j) ρ ϛ) (m:∀j,j<n->JG (f j)=D/\JG (g j)=D):
 ∀(Q:Θ),(∀j∈Q,j<n)->∀W,Keep N w W->(Op.eqItems (Ϛ+1) e 1 xs ys Q).run P W=.ok (Ow f g Q) W
 |[],_,W,_=>rfl
 |j::Q,c,W,h=>by
  have l:j<n:=c j Z3
  have k:∀{cs:υ μ} {f:E->DV},cs.size=n->(∀j,j<n->∃ϛ,cs[j]?=Z ϛ/\AL ϕ w (f j) ρ ϛ)->JG (f j)=D->(part e cs<|j*1).run P W=.ok (.int .i64<|H7<|f j) W:=by
   intro cs f hc q r
   have s:MF P e n f (j*1) 1=Z (f j):=by
    unfold MF
    grind
   obtain⟨ϛ,t,y⟩:=aN (P:=P) hi p hc q s;rw[t W h,dT r y]
  simp only[Op.eqItems,zK6,k b rx (m j l).1,k hy v (m j l).2,Result.andThen,zRm W Ϛ e .i64 X _ _ a];unfold Ow;cases hq:(H7 (f j)==H7 (g j))with
  |false=>rfl
  |true=>
   exact sY hi p o a b hy rx v m Q (λj l=>c j<|by simp[l]) W h
theorem sZ{Ϛ:E}(b:xs.size=m)(hy:ys.size=m)
 (rx:∀j,j<m->∃ϛ,xs[j]?=Z ϛ/\AL ϕ w (f j) ρ ϛ) (v:∀j,j<m->∃ϛ,ys[j]?=Z ϛ/\AL ϕ w (g j) ρ ϛ):
 ∀(n:O Field),n.all (nq P m f g)=D->∀W,Keep N w W->(Op.eqFields (Ϛ+1) xs ys n).run P W=.ok (Ow f g (n.map (·.offset))) W
 |[],_,W,_=>rfl
 |fd::n,h,W,l=>by
  rw[zN0,zAx]at h;obtain⟨h,k⟩:=h;unfold nq at h;simp only[zAx]at h;obtain⟨a,c,h3,e,K,p,q⟩:=h;have a:fd.name≠ "_" :=by simpa using a
  have K:fd.offset<m:=zKs K;split at c
  ·rename_i i hi;have c:i.size=1:=by simpa using c
   split at e
   ·rename_i X r
    have o:∀{cs:υ μ} {f:E->DV},cs.size=m->(∀j,j<m->∃ϛ,cs[j]?=Z ϛ/\AL ϕ w (f j) ρ ϛ)->JG (f fd.offset)=D->(part fd.type cs fd.offset).run P W=.ok (.int .i64<|H7<|f fd.offset) W:=by
     intro cs f hc k s
     have t:MF P fd.type m f fd.offset 1=Z (f fd.offset):=by
      grind[MF]
     obtain⟨ϛ,x,y⟩:=aN (P:=P) hi c hc k t;rw[x W l,dT s y]
    simp only[Op.eqFields,zAF a,zK6,o b rx p,o hy v q,Result.andThen,zRm W Ϛ fd.type .i64 X _ _ r];rw[zNe];unfold Ow;cases hq:(H7 (f fd.offset)==H7 (g fd.offset))with
    |false=>rfl
    |true=>
     exact sZ b hy rx v n k W l
   ·cases e
  ·cases c
theorem zOh{k:BinOp}{x y:DV}{o I:μ}{K:Prop}(R S:Operand)(s:AL ϕ w x ρ o)(hy:AL ϕ w y ρ I)(h:Xz P k t x y=Z (Ϛ,K)):
 Yl P N w ϕ ρ (do eqGuard k t R S o I;binOp k t o I) Ϛ:=by
 have key:∀{m a:E} {f g:E->DV} {Q:Θ} {xs ys:υ μ},fT P t f g m a=Z Q->xs.size=m->ys.size=a->(∀j,j<m->∃ϛ,xs[j]?=Z ϛ/\AL ϕ w (f j) ρ ϛ)->(∀j,j<a->∃ϛ,ys[j]?=Z ϛ/\AL ϕ w (g j) ρ ϛ)->
  P.eqGuardType P.depth t=T/\∀W,Keep N w W->(Op.equalIn 10000 t (.agg xs)<|.agg ys).run P W=.ok (Ow f g Q) W:=by
  intro m a f g Q xs ys b V c rx v;unfold fT at b;split at b
  ·rename_i z p;split at b
   ·rename_i hc;cases b;simp only[zAx,zKq]at hc;obtain⟨q,r,J,G⟩:=hc;subst J;have e:P.fieldsOf t=z:=by grind[Program.fieldsOf]
    refine⟨r,λW l=>?_⟩;rw[run_equalIn_struct W 9999 t xs ys (by rw[e];exact p) q,e];exact sZ (Ϛ:=9998) V c rx v z.toList G W l
   ·cases b
  ·rename_i n e p;split at b
   ·rename_i i hi;split at b
    ·rename_i k' X;split at b
     ·rename_i hc;cases b;simp only[zAx,zKq,zFy,zJ9]at hc;obtain⟨⟨⟨⟨⟨q,r⟩,J⟩,G⟩,Y⟩,c6⟩:=hc;subst G;subst Y;refine⟨J,λW l=>?_⟩;have Gk:P.cellsOf e=1:=by grind[Program.cellsOf]
      rw[run_equalIn_array W 9999 xs ys p hi,Gk];exact sY (Ϛ:=9998) hi q r X V c rx v c6 _ (λj hj=>zJ9.1 hj) W l
     ·cases b
    ·cases b
   ·cases b
  ·cases b
 unfold Xz at h;split at h
 ·split at h
  ·cases h;obtain⟨xs,rfl,V,rx⟩:=s;obtain⟨ys,rfl,c,v⟩:=hy;refine⟨.bool _,λW l=>?_,rfl⟩
   grind[Sem.run_bind,run_eqGuard_agg,Result.andThen,run_eql_struct]
  ·cases h
 ·split at h
  ·cases h;obtain⟨xs,rfl,V,rx⟩:=s;obtain⟨ys,rfl,c,v⟩:=hy;refine⟨.bool _,λW l=>?_,rfl⟩
   grind[Sem.run_bind,run_eqGuard_agg,Result.andThen,run_neq_struct]
  ·cases h
 ·cases h
theorem zH0(R:Ad P Γ N S ρ a w)(o:Oper){g:Prop}(h:WM P S o.op=Z (Ϛ,g))(b:g):
 ∃v,(∀W,Keep N w W->(ω a.eval o).run P W=.ok (.value v) W)/\AL (MS N S.h ρ) w Ϛ ρ v:=by
 unfold WM at h;split at h
 ·rename_i x xt V ok K;split at h
  ·rename_i d' z;cases h;obtain⟨ϛ,j,m⟩:=zQn (xt:=xt) (Bo R x) z;exact IG (s:=Instr.typeAssert (a.eval x) xt V ok) (by unfold ω;rw[K]) ⟨ϛ,λW _=>j W,m⟩
  ·cases h
 ·rename_i t parts K;exact IG (by unfold ω;rw[K])<|zJZ R h
 ·rename_i t x i K;have hi:=Bo R i;split at h
  ·rename_i k n e;rw[e]at hi;refine IG (s:=Instr.index t (a.eval x)<|a.eval i) (by unfold ω;rw[K]) ?_;rw[show a.eval i=_ from hi];exact zKN R (Bo R x) h b
  ·cases h
 ·rename_i t x f K;exact IG (s:=Instr.field t (a.eval x) f) (by unfold ω;rw[K])<|zOB R (Bo R x) h
 ·rename_i t x lo hi K;split at h
  ·rename_i l q;split at h
   ·rename_i hh c;obtain⟨k1,p⟩:=wg R q;obtain⟨k2,X⟩:=wg R c;refine IG (s:=Instr.sliceAt t (a.eval x) (lo.map a.eval) (hi.map a.eval) A) (by unfold ω;rw[K];rfl) ?_;rw[p,X];exact zPN R (Bo R x) h b
   ·cases h
  ·cases h
 ·rename_i op t x y t' K;split at h
  ·rename_i r G;cases h;exact IG (by unfold ω;rw[K])<|zOh x y (Bo R x) (Bo R y) G
  grind[uo]
 ·exact uo R o h b
end
abbrev zK5:=@Nat.zero_le
abbrev zLB:=@List.getElem?_eq_some_iff
abbrev zLb:=@List.getElem?_append_left
abbrev zM2:=@List.getElem?_map
abbrev zSE:=@or_congr
def BU:O Prop->Prop
 |[]=>True
 |p::K=>p/\BU K
def DP{l l':O Prop}:BU (l++l')↔BU l/\BU l':=by
 induction l with
 |nil=>simp[BU]
 |cons p ps n=>simp[BU,n,and_assoc]
def AO(Ϛ d':DV):Prop:=∀(ϕ:Ψ) (w:κ) (ρ:O AN) (v:μ),AL ϕ w Ϛ ρ v->AL ϕ w d' ρ v
section
variable{P:ν}{Γ:A1}{N:Ψ}
variable{ϕ M':Ψ}{w:κ}
def Cz(h:∀b,M' b->ϕ b)(ρ:O AN):BW ϕ w ρ M' w ρ:=⟨λ_ _ _ _=>rfl,λb a=>.inl<|h b a,λ_ _ h=>h⟩
def nh:DO->M (E×E×DV)
 | .ints l=>Z (1,F l,.ints l)
 | .bools l=>Z (1,F l,.bools l)
 | .arr m n f=>Z (m,n,.sl m n f)
 | .gro m n f=>Z (m,n,.sl m n f)
 | .mo (.rws h A)=>Z (1,F h,.sl 1 (F h) λi j=>([.ints<|H h i ξ]:O DV).getD j .any)
 |_=>A
def gB:DO->ζ
 | .gro .. =>D
 |_=>T
def Io(b:ζ)(k m:E)(v:DV):DV->DV
 | .msl X a off n=>u (X=k/\a=m/\off=0) v<|.msl X a off n
 | .gr X=>u (b=D/\X=k) v<|.gr X
 |Ϛ=>Ϛ
def UD(k m n:E):DV->O Prop
 | .msl X b off P=>u (X=k/\b=m/\off=0) [P=n] []
 |_=>[]
def fB(b:ζ)(k m:E)(v:DV):M DO->M DO
 |some (.cells l)=>Z<|.cells<|l.map<|Io b k m v
 |some (.ro l)=>Z<|.ro<|l.map<|Io b k m v
 |o=>o
def yg(k m n:E):M DO->O Prop
 |some (.cells l)=>l.flatMap<|UD k m n
 |some (.ro l)=>l.flatMap<|UD k m n
 |_=>[]
def KF(b:ζ)(k m:E)(v:DV)(S:St):St:=⟨S.fr.map<|Io b k m v,(S.h.set k A).map<|fB b k m v⟩
variable{Ϛ:DV}
theorem pK{l:O DV}{f:DV->O Prop}(h:BU<|l.flatMap f)(z:Ϛ∈l):BU<|f Ϛ:=by
 induction l with
 |nil=>simp at z
 |cons x l ih=>
  rw[List.flatMap_cons]at h;obtain⟨h1,h2⟩:=DP.1 h
  grind
theorem zAm{l:O (M DO)}{f:M DO->O Prop}(h:BU<|l.flatMap f){Ϛ:M DO}(z:Ϛ∈l):BU<|f Ϛ:=by
 induction l with
 |nil=>simp at z
 |cons x l ih=>
  rw[List.flatMap_cons]at h;obtain⟨h1,h2⟩:=DP.1 h
  grind
variable{cap m n:E}{ϛ:μ}{f:E->E->DV}{p:AN}{ρ:O AN}
def oz(k:Ai w p (n*m) λj ϛ=>AL ϕ w (f (j/m)<|j%m) [] ϛ)(a:¬M' p.blk)(t:∀b,M' b->ϕ b)(c:ϛ=.slice (Z ⟨p.blk,p.off+0*m,A⟩) n cap)(e:n<=cap)(g:n<=LB):AL M' w (.sl m n f) ρ ϛ:=by
 refine⟨_,cap,c,e,g,λi j hi l=>?_⟩;have q:i*m+j<n*m:=zI0 (by rw[Nat.succ_mul];omega:i*m+j<(i+1)*m)<|zNU m hi;obtain⟨x,R,X⟩:=Ai.cell k q;have P:0<m:=Z2
 have h:(i*m+j)/m=i:=by rw[zRa,Nat.mul_add_div P];simp[Nat.div_eq_of_lt l]
 have Q:(i*m+j)%m=j:=by rw[zRa,Nat.mul_add_mod];exact Nat.mod_eq_of_lt l
 rw[h,Q]at X;exact⟨p.blk,p.off,x,Z3,a,R,AL.out _ (Cz t []) X⟩
variable{v:DV}{o:DO}
theorem zN3(K:nh o=Z (m,n,v))(a:Bc P ϕ w ρ p o)(g:∀b,p.foot b->¬M' b)(I:∀b,M' b->ϕ b)(h:ϛ=.slice (Z ⟨p.blk,p.off+0*m,A⟩) n cap)(r:n<=cap)(s:n<=LB):AL M' w v ρ ϛ:=by
 cases o with
 |cells l=>cases K
 |iter e=>cases K
 |ro l=>cases K
 |mo x=>
  cases x with
  |rws ls Q=>
   cases Q with
   |some y=>cases K
   |none=>
    cases K;obtain⟨vs,z⟩:=a;obtain⟨cs,t,R,X,e3,W⟩:=z.row;refine⟨_,cap,h,r,s,λi j hi G=>?_⟩;obtain rfl:j=0:=Z2
    have S:i+1<vs.size:=by rw[z.size];omega
    have J:=W i hi;rw[zNM S]at J;refine⟨p.blk,p.off,vs[i+1],Z3,g _ z.blk,by unfold World.cell?;simp[R,J],?_⟩;have N:=z.has i hi λϙ e=>by cases e
    rw[show vs.getD (i+1) undef=vs[i+1] by simp[S]]at N;rcases N with⟨e,e'⟩|⟨q,c,e,V,g2,Y,g4,g5⟩
    ·simp_all[AL]
    ·rw[e];refine⟨_,c,rfl,V,Y,λk hk=>⟨q.blk,q.off,rfl,g _ g4.1,?_⟩⟩;obtain⟨x,k1,k2⟩:=g5.cell hk;rw[k1,k2]
  |_=>cases K
 |ints l=>
  cases K;have g:=g p.blk (by rw[a.1]);refine⟨_,cap,h,r,s,λj G=>⟨p.blk,p.off,Z3,g,?_⟩⟩;obtain⟨x,R,X⟩:=Ai.cell a G;rw[R,X]
 |bools l=>
  cases K;have g:=g p.blk (by rw[a.1]);refine⟨_,cap,h,r,s,λj G=>⟨p.blk,p.off,Z3,g,?_⟩⟩;obtain⟨x,R,X⟩:=Ai.cell a G;rw[R,X]
 |arr m n f=>cases K;exact oz a (g p.blk<|by rw[a.1]) I h r s
 |gro m n f=>
  cases K;rcases a with⟨rfl,_⟩|⟨_,_,_,_,_,a⟩
  ·exact⟨_,cap,h,r,s,λi j hi _=>τ hi<|zBT i⟩
  ·exact oz a (g p.blk<|by rw[a.1]) I h r s
def zNs{ρ':O AN}(k:Bc P ϕ w ρ p<|.gro m n f)(a:∀b,p.foot b->¬M' b)(t:∀b,M' b->ϕ b):AL M' w (.sl m n f) ρ' p.val:=by
 rcases k with⟨rfl,h,_⟩|⟨cap,h,c,e,_,k⟩
 ·exact⟨_,0,h,zI1 _,zK5 _,λi j hi _=>τ hi<|zBT i⟩
 ·exact oz k (a p.blk<|by rw[k.1]) t (by simpa using h) c e
variable{o':DO}{h:DH}{k:E}
theorem Xr{b:ζ}{i:E}(hi:((h.set k A).map<|fB b k m v)[i]?=Z (Z o')):i≠k/\∃o,h[i]?=Z (Z o)/\fB b k m v (Z o)=Z o':=by
 rw[zM2]at hi;cases a:(h.set k A)[i]? with
 |none=>rw[a]at hi;cases hi
 |some x=>
  rw[a]at hi;have hi:fB b k m v x=Z o':=zBH hi;cases x with
  |none=>cases hi
  |some o=>grind
def DZ(S S':St):Prop:=∀(P:ν) (Γ:A1) (N:Ψ) (ρ:O AN) (a:Act) (w:κ),Ad P Γ N S ρ a w->Ad P Γ N S' ρ a w/\BD S.h ρ w S'.h ρ w
variable{S:St}
theorem DZ.frz(k:E)(V:S.h[k]?=Z (Z o))(ho:nh o=Z (m,n,v))(hc:BU<|S.fr.flatMap<|UD k m n)(T8:BU<|S.h.flatMap<|yg k m n):DZ S<|KF (gB o) k m v S:=λP Γ N ρ a w R=>by
 obtain⟨p,K,hr⟩:=R.hr.obj k _ V
 have Y:∀b,MO (KF (gB o) k m v S).h ρ b->∃i o p',i≠k/\S.h[i]?=Z (Z o)/\ρ[i]?=Z p'/\p'.foot b:=by
  rintro b ⟨i,o',p',s,y,c⟩;obtain⟨z,g,X,_⟩:=Xr s;exact⟨i,g,p',z,X,y,c⟩
 have hN:∀b,p.foot b->¬MS N (KF (gB o) k m v S).h ρ b:=by
  rintro b hf (hn|hb)
  ·exact(R.hr.cel k _ p b V K hf).2.1 hn
  ·obtain⟨i,g,p',z,X,y,c⟩:=Y _ hb;exact R.hr.dis i k _ _ p' p b z X V y K c hf
 have t:∀b,MS N (KF (gB o) k m v S).h ρ b->MS N S.h ρ b:=λb hb=>hb.imp id λhb=>by
  obtain⟨i,g,p',_,X,y,c⟩:=Y _ hb;exact⟨i,g,p',X,y,c⟩
 have conv:∀(Ϛ:DV) (ϛ:μ),BU (UD k m n Ϛ)->AL (MS N S.h ρ) w Ϛ ρ ϛ->AL (MS N (KF (gB o) k m v S).h ρ) w (Io (gB o) k m v Ϛ) ρ ϛ:=by
  intro Ϛ ϛ nA G;cases Ϛ with
  |msl k' m' off n'=>
   simp only[UD,Io]at nA⊢;split at nA
   ·rename_i e;obtain⟨rfl,rfl,rfl⟩:=e;rw[zAF ⟨rfl,rfl,rfl⟩];obtain⟨p',cap,I,e,s,y,_⟩:=G;have ep:p'=p:=zBH<|I.symm.trans K;subst ep;have en:=nA.1
    grind[zN3]
   ·rename_i e;rw[zJz e];exact AL.out _ (Cz t ρ) G
  |gr k'=>
   simp only[Io];split
   ·rename_i e;obtain⟨p',_,_,_,I,rfl,_⟩:=G;obtain rfl:p'=p:=zBH<|(e.2▸I).symm.trans K;cases o with
    |gro m n f=>cases ho;exact zNs hr hN t
    |_=>cases e.1
   ·exact AL.out _ (Cz t ρ) G
  |_=>exact AL.out _ (Cz t ρ) G
 refine⟨⟨⟨by simp[KF,R.hr.len],λi o' hi=>?_,λi o' p' b s y c=>?_,λi i' o1 g p1 p2 b Ay s y c g4 g5 g6=>?_,R.hr.nlt,R.hr.gi⟩,⟨by simp[KF,R.fr.1],λi hi=>?_⟩⟩,⟨AV.refl _ w,λb hb=>.inl ?_⟩⟩
 ·obtain⟨z,g,X,r⟩:=Xr hi;obtain⟨p',I,W⟩:=R.hr.obj i g X;refine⟨p',I,?_⟩;cases g with
  |cells l=>
   cases r
   show Ai w p' (F<|l.map<|Io (gB o) k m v) _
   rw[zKB];refine Ai.out W rfl λj ϛ J q=>?_
   have:(l.map<|Io (gB o) k m v).getD j .any=Io (gB o) k m v (l.getD j .any):=by simp[J]
   rw[this];refine conv _ _ ?_ q
   have AX:Z (DO.cells l)∈S.h:=zLU X;have:=zAm T8 AX;exact pK (l:=l) this (by simp[J])
  |ints l=>cases r;exact Ai.out W rfl λj ϛ _ q=>q
  |bools l=>cases r;exact Ai.out W rfl λj ϛ _ q=>q
  |arr m n f=>cases r;exact Ai.out W rfl λj ϛ _ q=>AL.out _ (Cz t []) q
  |gro m n f=>cases r;exact Bc.gr W (λ_=>rfl) λq=>AL.out _ (Cz t []) q
  |iter encs=>
   cases r;obtain⟨gf,lb,Rd,q1,q2,Q,q4⟩:=W;exact⟨gf,lb,Rd,q1,q2,λb hb=>⟨λhm=>(Q b hb).1<|t b hm,(Q b hb).2⟩,q4⟩
  |ro l=>
   cases r;obtain⟨r1,r2,r3⟩:=W;refine⟨r1,λhm=>r2<|t _ hm,?_⟩
   show Ai w _ (F<|l.map<|Io (gB o) k m v) _
   rw[zKB];refine Ai.out r3 rfl λj ϛ J q=>?_
   have:(l.map<|Io (gB o) k m v).getD j .any=Io (gB o) k m v (l.getD j .any):=by simp[J]
   rw[this];refine conv _ _ ?_ q
   have AX:Z (DO.ro l)∈S.h:=zLU X;have:=zAm T8 AX;exact pK (l:=l) this (by simp[J])
  |mo x=>cases r;exact W
 ·obtain⟨z,g,X,r⟩:=Xr s;obtain⟨q1,q2,Q⟩:=R.hr.cel i g p' b X y c;exact⟨q1,q2,Q⟩
 ·obtain⟨z,o3,X,_⟩:=Xr s;obtain⟨n8,o4,n7,_⟩:=Xr y;exact R.hr.dis i i' o3 o4 p1 p2 b Ay X n7 c g4 g5 g6
 ·have B6:i<F S.fr:=by simpa[KF]using hi
  have:(KF (gB o) k m v S).fr.getD i .any=Io (gB o) k m v (S.fr.getD i .any):=by simp[KF,B6]
  rw[this];refine conv _ _ (pK hc<|by simp[B6])<|R.fr.2 i B6
 ·obtain⟨i,g,p',_,X,y,c⟩:=Y _ hb;exact⟨i,g,p',X,y,c⟩
def Xs(k:E)(S:St):M<|St×O Prop:=match S.h.getD k A with
 |some o=>match nh o with
  |some (m,n,v)=>Z (KF (gB o) k m v S,S.fr.flatMap (UD k m n)++S.h.flatMap (yg k m n))
  |none=>A
 |none=>A
theorem DZ.frzE(k:E)(S':St)(vs:O Prop)(h:Xs k S=Z (S',vs))(t:BU vs):DZ S S':=by
 unfold Xs at h;split at h
 ·rename_i o ho;split at h
  ·rename_i m n v q;cases h;obtain⟨a,c⟩:=DP.1 t;refine DZ.frz k ?_ q a c
   grind
  ·cases h
 ·cases h
theorem DZ.refl(S:St):DZ S S:=λ_ _ _ _ _ _ R=>⟨R,BD.refl _ _ _⟩
def DZ.trans{ο Ϝ Ϙ:St}(h:DZ ο Ϝ)(k:DZ Ϝ Ϙ):DZ ο Ϙ:=λP Γ N ρ a w R=>by
 obtain⟨X,b⟩:=h P Γ N ρ a w R;obtain⟨r,c⟩:=k P Γ N ρ a w X;exact⟨r,b.trans c⟩
theorem MO.put(f:h[k]?=Z (Z o)){b:E}:MO (h.set k<|Z o') ρ b↔MO h ρ b:=by
 have q:=(zLB.1 f).1;constructor
 ·rintro⟨i,x,p,a,c,m⟩;rw[zNj]at a
  by_cases e:k=i
  ·subst e;exact⟨k,o,p,f,c,m⟩
  ·rw[zJz e]at a;exact⟨i,x,p,a,c,m⟩
 ·rintro⟨i,x,p,a,c,m⟩
  by_cases e:k=i
  ·subst e;exact⟨k,o',p,by simp[q],c,m⟩
  ·exact⟨i,x,p,Z4,c,m⟩
theorem DZ.objR{a:Act}(R:Ad P Γ N S ρ a w)(f:S.h[k]?=Z (Z o))(z:∀p,ρ[k]?=Z p->Bc P (MS N (S.h.set k<|Z o') ρ) w ρ p o->Bc P (MS N (S.h.set k<|Z o') ρ) w ρ p o'):Ad P Γ N ⟨S.fr,S.h.set k<|Z o'⟩ ρ a w/\BD S.h ρ w (S.h.set k<|Z o') ρ w:=by
 have t:∀b,MS N (S.h.set k<|Z o') ρ b↔MS N S.h ρ b:=λb=>zSE Iff.rfl<|MO.put f
 have back:∀{i:E} {x:DO},(S.h.set k<|Z o')[i]?=Z (Z x)->∃y,S.h[i]?=Z (Z y)/\(i=k/\x=o'∨y=x):=by
  grind
 have ϐ:BW (MS N S.h ρ) w ρ (MS N (S.h.set k<|Z o') ρ) w ρ:=Cz (λb g=>(t b).1 g) ρ;refine⟨⟨⟨by simp[R.hr.len],λi x hi=>?_,λi x p b s j l=>?_,λi I o1 o2 n q b Q s j l J V r=>?_,R.hr.nlt,R.hr.gi⟩,R.fr.out ϐ⟩,⟨AV.refl _ w,λb g=>.inl<|(MO.put f).1 g⟩⟩
 ·rw[zNj]at hi
  by_cases e:k=i
  ·subst e;rw[zAF rfl,zAF (zLB.1 f).1]at hi;cases hi;obtain⟨p,c,m⟩:=R.hr.obj k o f;exact⟨p,c,z p c<|m.out ϐ (S:=λ_=>False) (AV.refl _ _) (λ_ h=>h.elim) λ_ _ _ h=>h⟩
  ·rw[zJz e]at hi;obtain⟨p,c,m⟩:=R.hr.obj i x hi;exact⟨p,c,m.out ϐ (S:=λ_=>False) (AV.refl _ _) (λ_ h=>h.elim) λ_ _ _ h=>h⟩
 ·obtain⟨y,e,_⟩:=back s;exact R.hr.cel i y p b e j l
 ·obtain⟨v,G,_⟩:=back s;obtain⟨K,X,_⟩:=back j;exact R.hr.dis i I v K n q b Q G X l J V r
def DZ.obj(f:S.h[k]?=Z (Z o))(z:∀(P:ν) (ϕ:Ψ) (w:κ) (ρ:O AN) (p:AN),Bc P ϕ w ρ p o->Bc P ϕ w ρ p o'):DZ S ⟨S.fr,S.h.set k<|Z o'⟩:=λP _ _ ρ _ w R=>DZ.objR R f λp _=>z P _ w ρ p
inductive Fz where
 |frz (k:E)
 |arr (k n:E) (f:E->E->DV)
 |unf (k:E)
 |rws
def zAc(k P:E)(t:E->E->DV)(S:St):M<|St×O Prop:=match S.h.getD k A with
 |some (.arr m n f)=>Z (⟨S.fr,S.h.set k<|Z<|.arr m P t⟩,[n=P/\∀i j,i<n->j<m->AO (f i j) (t i j)])
 |some (.gro m n f)=>Z (⟨S.fr,S.h.set k<|Z<|.gro m P t⟩,[n=P/\∀i j,i<n->j<m->AO (f i j) (t i j)])
 |_=>A
def fA:Fz->St->M (St×O Prop)
 | .frz k,S=>Xs k S
 | .arr k n f,S=>zAc k n f S
 | .unf k,S=>match S.h.getD k A with
  |some (.mo<|.rows f<|Z (_,_,T))=>Z (⟨S.fr,S.h.set k<|Z<|.mo<|.rows f A⟩,[])
  |_=>A
 | .rws,_=>A
def FC.unf{f:U->Ξ}{x:U}{ϙ:Ξ}{N:υ MapEntry}{X:E}(h:FC w p f (Z (x,ϙ,T)) ϛ N X):FC w p f A ϛ N X:=
 { h with
  key:=λe a=>let⟨k,b,c⟩:=h.key e a;⟨k,b,λ_=>c λϙ e=>by cases e⟩
  inHand:=λk ϙ g e=>by cases e }
theorem getD_some(ho:h.getD k A=Z o):h[k]?=Z (Z o):=by
 grind
theorem DZ.fz(z:Fz)(S':St)(vs:O Prop)(h:fA z S=Z (S',vs))(c:BU vs):DZ S S':=by
 have row:∀(m n:E) (f t:E->E->DV),(∀i j,i<n->j<m->AO (f i j) (t i j))->∀(ϕ:Ψ) (w:κ) (p:AN),Ai w p (n*m) (λj ϛ=>AL ϕ w (f (j/m)<|j%m) [] ϛ)->Ai w p (n*m) λj ϛ=>AL ϕ w (t (j/m)<|j%m) [] ϛ:=λm n f t b ϕ w p a=>
  Ai.out a rfl λj ϛ l g=>by
   have e:0<m:=by
    grind
   exact b _ _ ((zNg e).2 l) (Nat.mod_lt _ e) ϕ w [] ϛ g
 cases z with
 |frz k=>exact DZ.frzE k S' vs h c
 |arr k n' t=>
  simp only[fA,zAc]at h;split at h
  ·rename_i m n f K;cases h;obtain⟨⟨rfl,b⟩,_⟩:=c;exact DZ.obj (getD_some K) λP ϕ w ρ p a=>row _ _ _ _ b _ _ _ a
  ·rename_i m n f K;cases h;obtain⟨⟨rfl,b⟩,_⟩:=c;exact DZ.obj (getD_some K) λP ϕ w ρ p a=>a.imp id λ⟨cap,R,X,o,W,a⟩=>⟨cap,R,X,o,W,row _ _ _ _ b _ _ _ a⟩
  ·cases h
 |unf k=>
  simp only[fA]at h;split at h
  ·rename_i f x ϙ K;cases h;exact DZ.obj (getD_some K) λP ϕ w ρ p ⟨ϛ,N,q,r⟩=>⟨ϛ,N,q,r.unf⟩
  ·cases h
 |rws=>cases h
def Xq:O (E×Fz)->W0->St->M (St×O Prop×O (E×Fz))
 |[],_,S=>Z (S,[],[])
 |(t,z)::rest,a,S=>if a=Z t then match fA z S with
  |some (S',vs)=>match Xq rest a S' with
   |some (P,y,r)=>Z (P,vs++y,r)
   |none=>A
  |none=>Z (S,[],(t,z)::rest)
  else Z (S,[],(t,z)::rest)
def Xp:∀(l:O<|E×Fz) {a:W0} {S S':St} {vs:O Prop} {r:O (E×Fz)},Xq l a S=Z (S',vs,r)->BU vs->DZ S S'
 |[],a,S,S',vs,r,h,_=>by cases h;exact DZ.refl S
 |(t,z)::rest,a,S,S',vs,r,h,b=>by
  simp only[Xq]at h;split at h
  ·split at h
   ·rename_i G R c;split at h
    ·rename_i S2 EP r2 e;cases h;obtain⟨Y,f⟩:=DP.1 b;exact(DZ.fz z G R c Y).trans<|Xp rest e f
    ·cases h
   ·cases h;exact DZ.refl S
  ·cases h;exact DZ.refl S
abbrev Vi{α:Type}[Inhabited α](enc:α->E->DV)(ϙ:O α):E->E->DV:=λi j=>enc (H ϙ i ξ) j
variable{α:Type}
theorem Vf[Inhabited α]{enc:α->E->DV}{ϙ L':O α}{c:E}{g:E->E->DV}(a:n=F ϙ)(hc:c=F L')(o:∀i j,i<c->j<m->AO (g i j) (Vi enc L' i j)):n+c=F (ϙ++L')/\∀i j,i<n+c->j<m->AO (u (i<n) (Vi enc ϙ i j)<|g (i-n) j) (Vi enc (ϙ++L') i j):=by
 subst a;subst hc;refine⟨Z3,λi j hi hj=>?_⟩;simp only[Vi,zBD]at o⊢
 by_cases h:i<F ϙ
 ·rw[zAF h,zLb h];exact λ_ _ _ _ h=>h
 grind
theorem Ab :AO Ϛ Ϛ:=λ_ _ _ _ h=>h
theorem zIT{l:O DV}(hl:l.all Ie=D)(hm:m=F l):∀j,j<m->Ie (l.getD j .any)=D:=λj hj=>by
 grind
def PC:O DV->O DV->Prop
 |[],[]=>True
 |Ϛ::ds,e::N=>AO Ϛ e/\PC ds N
 |_,_=>False
theorem Yo:∀{l l':O DV},PC l l'->F l=F l'/\∀j,j<F l->AO (l.getD j .any) (l'.getD j .any)
 |[],[],_=>⟨rfl,λj a=>τ a<|zBT j⟩
 |Ϛ::ds,e::es,⟨h1,c⟩=>by
  obtain⟨q1,q2⟩:=Yo c
  grind
 |[],_::_,h=>h.elim
 |_::_,[],h=>h.elim
theorem zRC{l l':O DV}(h:PC l l')(j:E):AO (l.getD j .any)<|l'.getD j .any:=by
 grind[Yo,Ab]
def jd:O DV->O (O DV)->Prop
 |[],[]=>True
 |v::vs,c::cs=>(∃l,JX v=Z l/\PC l c)/\jd vs cs
 |_,_=>False
theorem sj:∀{vs:O DV} {cs:O (O DV)},jd vs cs->F vs=F cs/\∀i,i<F vs->∃l,JX (vs.getD i .any)=Z l/\PC l (H cs i [])
 |[],[],_=>⟨rfl,λi hi=>τ hi<|zBT i⟩
 |v::vs,c::cs,⟨h1,a⟩=>by
  obtain⟨q1,q2⟩:=sj a
  grind
 |[],_::_,h=>h.elim
 |_::_,[],h=>h.elim
theorem E4[Inhabited α]{c:α->O DV}{ϙ:O α}{vals:O DV}  (hn:n=F vals)(h:jd vals<|ϙ.map c):n=F ϙ/\∀i j,i<n->j<m->AO (match JX (vals.getD i .any)with|some l=>l.getD j .any|none=>.any) (Vi (λx j=>(c x).getD j .any) ϙ i j):=by
 grind[sj,List.length_map,zRC]
end
abbrev zLW:=@Bool.not_true
abbrev zMh:=@Go.MapKept.run_getObj_map
abbrev zMn:=@beq_self_eq_true
abbrev zNR:=@List.not_mem_nil
abbrev zNa:=@List.mem_append
abbrev zNf:=@Go.heap_alloc_new
abbrev zOn:=@Go.MapKept.run_setObj_map
abbrev zRK:=@if_false
abbrev zRi:=@Go.MapKept.run_findKey
abbrev zRw:=@List.Perm.refl
abbrev zR2:=@Array.getElem?_modify
section
def Tj(P:ν)(t:ψ):ζ:=match P.underlying t with
 |some (.int .i64)=>D
 |_=>T
theorem zKQ{P:ν}{t:ψ}(h:Tj P t=D):P.underlying t=Z (.int .i64):=by
 grind[Tj]
def Hc(P:ν)(t:ψ):W0:=match P.underlying t with
 |some (.int .i64)=>Z 1
 |some (.struct n)=>match n.toList with
  |[f,g]=>u (f.name != "_" &&g.name != "_" &&C (f.offset=0)&&C (g.offset=1)&&Tj P f.type&&Tj P g.type&&!P.stoodInHeld t) (Z 2) A
  |_=>A
 |_=>A
section
variable{P:ν}{w:κ}{t:ψ}
variable{n:E}
theorem Tg(h:Hc P t=Z n):(n=1/\P.underlying t=Z (.int .i64))∨∃f g a,n=2/\P.underlying t=Z (.struct a)/\a.toList= [f,g]/\f.name≠ "_" /\g.name≠ "_" /\f.offset=0/\g.offset=1/\P.underlying f.type=Z (.int .i64)/\P.underlying g.type=Z (.int .i64)/\P.stoodInHeld t=T:=by
 unfold Hc at h;split at h
 ·grind
 ·split at h
  ·grind[Tj]
  ·cases h
 ·cases h
theorem Vb{t:ψ}(h:P.underlying t=Z (.int .i64))(cs:υ μ)(o:E)(v:μ)(hv:cs[o]?=Z v):(part t cs o).run P w=.ok v w:=by
 simp_all[part,Vc,JI]
variable{x:Ξ}
def dO(h:F x=2):∃a b,x= [a,b]:=by
 match x,h with
 |[a,b],_=>exact⟨a,b,rfl⟩
def QT(h:F x=1):∃a,x= [a]:=by
 match x,h with
 |[a],_=>exact⟨a,rfl⟩
theorem Tf(h:Hc P t=Z n)(i:F x=n)(e:ζ):(Instr.checkKey e 10000 t<|Bb x).run P w=.ok () w:=by
 rcases Tg h with⟨rfl,c⟩|⟨f,g,fs,rfl,c,q,n1,n2,o1,o2,p,N,_⟩
 ·obtain⟨a,rfl⟩:=QT i;exact MapKept.run_checkKey c (by trivial) e 9999
 ·obtain⟨a,b,rfl⟩:=dO i
  show(Instr.checkKey e (9999+1) t<|.agg #[.int .i64 a,.int .i64 b]).run P w=_
  unfold Instr.checkKey;have c1:∀a,(Instr.checkKey e 9999 f.type<|.int .i64 a).run P w=.ok () w:=λa=>MapKept.run_checkKey p (by trivial) e 9998
  have c2:∀a,(Instr.checkKey e 9999 g.type<|.int .i64 a).run P w=.ok () w:=λa=>MapKept.run_checkKey N (by trivial) e 9998
  simp only[zK6,zKz c,Result.andThen];rw[←Array.forIn_toList,q]
  simp_all[Vb]
theorem zKE(h:Hc P t=Z n){y:Ξ}(i:F x=n)(hy:F y=n):(Op.equal t (Bb x)<|Bb y).run P w=.ok (x==y) w:=by
 rcases Tg h with⟨rfl,e⟩|⟨f,g,j,rfl,e,q,k,m,o1,o,p,N,r⟩
 ·obtain⟨a,rfl⟩:=QT i;obtain⟨b,rfl⟩:=QT hy
  show(Op.equalIn (9999+1) t (.int .i64 a)<|.int .i64 b).run P w=_
  simp_all[zRm]
 ·obtain⟨a,b,rfl⟩:=dO i;obtain⟨c,Ϛ,rfl⟩:=dO hy;have l:P.fieldsOf t=j:=by grind[Program.fieldsOf]
  show(Op.equalIn (9999+1) t (.agg #[.int .i64 a,.int .i64 b])<|.agg #[.int .i64 c,.int .i64 Ϛ]).run P w=_
  rw[run_equalIn_struct w 9999 t _ _ (by rw[l];exact e) r,l,q];have R:∀a c:U,(Op.equalIn 9999 f.type (.int .i64 a)<|.int .i64 c).run P w=.ok (a==c) w:=λa c=>zRm w 9998 f.type .i64 .i64 a c p
  have X:∀a c:U,(Op.equalIn 9999 g.type (.int .i64 a)<|.int .i64 c).run P w=.ok (a==c) w:=λa c=>zRm w 9998 g.type .i64 .i64 a c N
  simp only[Op.eqFields,k,m,ne_eq,not_false_eq_true,zMt,o1,o,zK6];rw[Vb p _ 0 (.int .i64 a) rfl];simp only[Result.andThen];rw[Vb p _ 0 (.int .i64 c) rfl];simp only[Result.andThen,R,Sem.run_ite]
  by_cases s:a=c
  ·subst s;simp only[zMn,zLW,zLV,zRK,zK6];rw[Vb N _ 1 (.int .i64 b) rfl];simp only[Result.andThen];rw[Vb N _ 1 (.int .i64 Ϛ) rfl];simp only[Result.andThen,X,Sem.run_ite]
   by_cases v:b=Ϛ
   ·subst v;simp
   simp_all
  simp_all
theorem zKD(p:Hc P t=Z n)(q:F x=n){Y:KS}(r:∀y∈Y,F y=n){es:O MapEntry}(c:∀e∈es,∃y∈Y,e.key=Bb y):
 ((Instr.findKey t (Bb x) es).run P w=.ok A w/\∀e∈es,e.key≠Bb x)∨∃j e,(Instr.findKey t (Bb x) es).run P w=.ok (Z (j,e.val)) w/\es[j]?=Z e/\e.key=Bb x:=by
 have ask:∀(es:O MapEntry) (i:E),(∀e∈es,∃y∈Y,e.key=Bb y)->((Instr.findAsking t (Bb x) es i).run P w=.ok A w/\∀e∈es,e.key≠Bb x)∨∃j e,(Instr.findAsking t (Bb x) es i).run P w=.ok (Z (i+j,e.val)) w/\es[j]?=Z e/\e.key=Bb x:=by
  intro es
  induction es with
  |nil=>intro i _;exact .inl ⟨rfl,λe c=>by cases c⟩
  |cons e es v=>
   intro i c;obtain⟨y,hy,K⟩:=c e Z3;have h:(Op.equal t (Bb x) e.key).run P w=.ok (x==y) w:=by grind[zKE]
   by_cases I:x=y
   ·subst I;exact .inr ⟨0,e,by simp_all[Instr.findAsking],rfl,K⟩
   ·have z:(x==y)=T:=by simp[I]
    rcases v (i+1) (λe JS=>c e<|by simp[JS])with⟨s,l⟩|⟨j,m,s,l,G⟩
    ·refine .inl ⟨by simp_all[Instr.findAsking],λm JS=>?_⟩;rcases zLa.1 JS with rfl|JS
     ·grind[wX]
     ·exact l m JS
    ·exact .inr ⟨j+1,m,by simp[Instr.findAsking,h,z,Result.andThen,s];omega,by simpa using l,G⟩
 rcases Tg p with⟨rfl,J⟩|⟨f,g,fs,rfl,J,_⟩
 ·obtain⟨a,rfl⟩:=QT q
  rcases MapKept.findNow_spec (d:=.int .i64) (k:=.int .i64 a) (by trivial) es 0 (λe N=>by
   obtain⟨y,hy,K⟩:=c e N;obtain⟨b,rfl⟩:=QT<|r y hy;rw[K];trivial)with⟨h,o⟩|⟨j,e,h,o,Q⟩
  ·grind[MapKept.run_findKey,Bb]
  ·exact .inr ⟨j,e,by simp_all[zRi,Bb],o,Q⟩
 ·have hn:∀es:O MapEntry,(∀e∈es,∃y∈Y,e.key=Bb y)->(Instr.findKey t (Bb x) es).run P w=(match es with|[]=>.ok A w|_=>(Instr.findAsking t (Bb x) es 0).run P w):=λes c=>by
   cases es with
   |nil=>simp_all[Instr.findKey,zKz,Instr.findNow]
   |cons e es=>
    simp_all[Instr.findNow,Instr.sameNow,Instr.findKey,zKz]
  grind
theorem zKC(c:Hc P t=Z n)(i:F x=n):(Instr.keyThatStays (Bb x)<|Bb x).run P w=.ok (Bb x) w:=by
 rcases Tg c with⟨rfl,e⟩|⟨f,g,fs,rfl,e,_⟩
 ·obtain⟨a,rfl⟩:=QT i;exact MapKept.run_keyThatStays (d:=.int .i64) (by trivial)
 ·obtain⟨a,b,rfl⟩:=dO i
  simp_all[Instr.sameBits,Bb,Instr.keyThatStays]
end
def vz:Ξ->Ξ->ζ
 |_,[]=>T
 |[],_::_=>D
 |a::r,b::s=>decide (a<b)||(a==b&&vz r s)
def dV(x:Ξ):KS->KS
 |[]=>[x]
 |y::r=>u (vz x y) (x::y::r)<|y::dV x r
def Cm(x:Ξ)(l:KS):KS:=u (l.contains x) l<|dV x l
theorem wh(x:Ξ):∀l:KS,(dV x l).Perm<|x::l
 |[]=>zRw _
 |y::r=>by
  unfold dV;split
  ·exact zRw _
  ·exact((wh x r).cons y).trans<|List.Perm.swap x y r
variable{l:KS}{x:Ξ}
theorem ub(h:x∈l):Cm x l=l:=by unfold Cm;simp[h]
theorem kO(h:x∉l):(Cm x l).Perm<|x::l:=by grind[Cm,wh]
theorem QM{y:Ξ}:y∈Cm x l↔y=x∨y∈l:=by
 grind[ub,kO]
section
variable{P:ν}{w:κ}{b n:E}{l:KS}{es:υ MapEntry}{As:E}
def FW.key(h:FW w b n l es As):∀e∈es.toList,∃y∈l,e.key=Bb y:=λe a=>by
 have:e.key∈es.toList.map (·.key):=zMf.2 ⟨e,a,rfl⟩;obtain⟨y,c,f⟩:=zMf.1<|h.keys.mem_iff.1 this;exact⟨y,c,f.symm⟩
theorem FW.has(h:FW w b n l es As){x:Ξ}:x∈l↔∃e∈es.toList,e.key=Bb x:=by
 constructor
 ·intro i;have:Bb x∈l.map Bb:=zMf.2 ⟨x,i,rfl⟩;obtain⟨e,a,c⟩:=zMf.1<|h.keys.mem_iff.2 this;exact⟨e,a,c⟩
 ·rintro⟨e,a,c⟩;obtain⟨y,h3,h4⟩:=h.key e a
  grind[wX]
def FW.find(h:FW w b n l es As){t:ψ}(k:Hc P t=Z n){x:Ξ}(i:F x=n):
 (x∉l/\(Instr.findKey t (Bb x) es.toList).run P w=.ok A w)∨(x∈l/\∃j e,(Instr.findKey t (Bb x) es.toList).run P w=.ok (Z (j,.bool D)) w/\es[j]?=Z e/\e.key=Bb x/\e.val=.bool D):=by
 rcases zKD (w:=w) k i h.len h.key with⟨a,c⟩|⟨j,e,a,c,m⟩
 ·exact .inl ⟨λi=>by obtain⟨e,s,y⟩:=h.has.1 i;exact c e s y,a⟩
 ·have f:e∈es.toList:=zLU c;have g:=h.tru e f;exact .inr ⟨h.has.2 ⟨e,f,m⟩,j,e,by rw[←g];exact a,by simpa using c,m,g⟩
def Uu{w:κ}{b:E}(o:Obj):AV (λk=>k=b) w { w with heap:=w.heap.setIfInBounds b o }:=
 ⟨rfl,rfl,rfl,Z3,λk _ Q=>by simp[Ne.symm Q]⟩
variable{mt:ψ}
def FW.put(h:FW w b n l es As){q v:ψ}(r:P.underlying mt=Z (.map q v))(o:Hc P q=Z n){x:Ξ}(g:F x=n):
 ∃w' G I,(Instr.mapUpdate mt (.map<|Z b) (Bb x)<|.bool D).run P w=.ok () w'/\AV (λk=>k=b) w w'/\FW w' b n (Cm x l) G I:=by
 have s:b<w.heap.size:=(zAy.1 h.blk).1;rcases h.find o g with⟨m,p⟩|⟨m,j,e,p,t,W,K⟩
 ·refine⟨{ w with heap:=w.heap.setIfInBounds b (.map (es.push { key:=Bb x,val:=.bool D,born:=As })<|As+1) },es.push { key:=Bb x,val:=.bool D,born:=As },As+1,?_,Uu _,?_⟩
  ·simp[Instr.mapUpdate,zKz r,zMh h.blk,Tf o g,p,zOn _ h.blk,Result.andThen]
  ·refine⟨by simp[s],?_,((kO m).nodup_iff).2<|List.nodup_cons.2 ⟨m,h.nd⟩,λy hy=>?_,λe f=>?_,λe f=>?_,?_⟩
   ·have R:((es.push { key:=Bb x,val:=.bool D,born:=As }).toList.map (·.key))=es.toList.map (·.key)++[Bb x]:=Z3
    rw[R];refine(List.perm_append_comm).trans ?_;exact(h.keys.cons<|Bb x).trans<|((kO m).map Bb).symm
   ·rcases QM.1 hy with rfl|hy
    ·exact g
    ·exact h.len y hy
   ·simp only[Array.toList_push,zNa,zMv]at f;rcases f with f|rfl
    ·exact h.tru e f
    ·rfl
   ·simp only[Array.toList_push,zNa,zMv]at f;rcases f with f|rfl
    ·exact Nat.lt_succ_of_lt<|h.born e f
    ·exact Nat.lt_succ_self _
   ·have R:((es.push { key:=Bb x,val:=.bool D,born:=As }).toList.map (·.born))=es.toList.map (·.born)++[As]:=Z3
    rw[R];refine List.nodup_append.2 ⟨h.stamps,Z3,λa z c hc=>?_⟩;obtain⟨e,N,g2⟩:=zMf.1 z;have:=h.born e N;simp at hc;omega
 ·have J:(es.modify j λe=>{ e with key:=Bb x,val:=.bool D })=es:=by
   apply Array.ext_getElem?;intro i;rw[zR2];split
   ·rename_i Q;subst Q;rw[t]
    show Z ({ e with key:=Bb x,val:=.bool D }:MapEntry)=Z e
    rw[←W,←K]
   ·rfl
  refine⟨{ w with heap:=w.heap.setIfInBounds b (.map es As) },es,As,?_,Uu _,?_⟩
  ·have S:((es[j]?).map (·.key)).getD (Bb x)=Bb x:=by rw[t];exact W
   simp[Instr.mapUpdate,zKz r,zMh h.blk,Tf o g,p,S,zKC o g,zOn _ h.blk,Result.andThen,J]
  ·rw[ub m];exact{ h with blk:=by simp[s] }
def FW.look(h:FW w b n l es As){g W:ψ}(k:P.underlying mt=Z (.map g W))(f:Hc P g=Z n){x:Ξ}(i:F x=n)(z:(zeroValue W).run P w=.ok (.bool T) w):
 (Instr.lookup mt (.map<|Z b) (Bb x) T).run P w=.ok (.bool<|l.contains x) w:=by
 rcases h.find f i with⟨a,c⟩|⟨a,j,e,c,h3,h4,h5⟩
 ·have:l.contains x=T:=by simpa using a
  simp[Instr.lookup,zKz k,zMh h.blk,Tf f i,c,z,Result.andThen,this,a]
 ·have:l.contains x=D:=by simpa using a
  simp[Instr.lookup,zKz k,zMh h.blk,Tf f i,c,Result.andThen,this,a]
end
def Wm(lk:M<|E×E×υ MapEntry×E)(i:E):Prop:=∀y,lk=Z y->y.1≠i
section
variable{P:ν}{w w':κ}{p:AN}{n:E}{ls:O (M KS)}{lk:M (E×E×υ MapEntry×E)}{vs:υ μ}
variable{b:E}
def Ft.lies(h:Ft w p n ls lk vs)(a:p.foot b):Dr w b:=by
 rcases h.foot b a with rfl|⟨j,l,e,c⟩
 ·obtain⟨cs,t,m,_⟩:=h.row;exact .cells m
 ·obtain⟨g,s,_,_,es,As,y,_⟩:=h.has j l e;have:g=b:=by rw[s]at c;cases c;rfl
  subst this;exact⟨_,rfl,(),y.blk⟩
theorem Ft.put(h:Ft w p n ls lk vs){i:E}{l l':KS}{es:υ MapEntry}{As:E}(hi:ls[i]?=Z (Z l))(c:vs[i]?=Z (Value.map<|Z b))(g:AV (λk=>k=b) w w')(hm:FW w' b n l' es As)(xO:Wm lk i):Ft w' p n (ls.set i<|Z l') lk vs:=by
 obtain⟨o,r,y,g3,_⟩:=h.has i l hi;have:o=b:=by rw[r]at c;cases c;rfl
 subst this
 have get:∀{j:E} {x:M KS},(ls.set i<|Z l')[j]?=Z x->(j=i/\x=Z l')∨(j≠i/\ls[j]?=Z x):=λ{j x} a=>by
  grind
 refine⟨h.val,by simp[h.size],?_,h.blk,λj R a=>?_,λj a=>?_,λv z=>?_,h.inj⟩
 ·obtain⟨cs,t,q,f⟩:=h.row;exact⟨cs,t,(g.block _ (zAy.1 q).1 λe=>y e.symm).trans q,by simpa using f⟩
 ·rcases get a with⟨rfl,e⟩|⟨Q,a⟩
  ·grind[Wm]
  ·obtain⟨m,q,f,G,S,I,s,J⟩:=h.has j R a;refine⟨m,q,f,G,S,I,s.out<|g.block _ (zAy.1 s.blk).1 λe=>Q ?_,J⟩;subst e;exact h.inj j i m q c
 ·rcases get a with⟨rfl,e⟩|⟨Q,a⟩
  ·cases e
  ·exact h.nil j a
 ·rcases h.foot v z with e|⟨j,R,q,f⟩
  ·exact .inl e
  grind
end
def dQ(n:E)(Ϛ:DV):W6:=match Ϛ with
 | .int .i64 a=>u (n=1) (Z [a]) A
 | .agg m f=>u (m=n/\n≠1) (u ((θ m).all λj=>JG<|f j) (Z<|(θ m).map λj=>H7<|f j) A) A
 |_=>A
def lY(n:E)(x:Ξ):DV:=u (n=1) (.int .i64<|H x 0 0)<|.agg n<|F8 n λj=>.int .i64<|H x j 0
section
variable{P:ν}{w:κ}{ρ:O AN}{ϕ:Ψ}
def wY{x:Ξ}(h:F x≠1):Bb x=.agg (x.map λa=>.int .i64 a).toArray:=by
 unfold Bb;split
 ·simp at h
 ·rfl
variable{n:E}
theorem wZ{Ϛ:DV}{x:Ξ}{v:μ}(h:dQ n Ϛ=Z x)(k:AL ϕ w Ϛ ρ v):v=Bb x/\F x=n:=by
 unfold dQ at h;split at h
 ·grind[Bb,AL]
 ·rename_i m f;split at h
  ·rename_i P;split at h
   ·cases h;have q:F ((θ m).map λj=>H7<|f j)=m:=Z3
    refine⟨?_,by rw[q];exact P.1⟩;obtain⟨cs,rfl,hs,hc⟩:=k;rw[wY Z2]
    congr 1
    grind[dT]
   ·cases h
  ·cases h
 ·cases h
theorem zKF{x:Ξ}(h:F x=n):AL ϕ w (lY n x) ρ<|Bb x:=by
 unfold lY;split
 ·rename_i e;subst e;obtain⟨a,rfl⟩:=QT h;rfl
 ·rename_i e;rw[wY Z2]
  simp_all[AL,F8]
end
def Xy:E->DH->M (E×E×O (M KS)×E×E×υ MapEntry×E)
 |_,[]=>A
 |k,Z (.mo<|.sets n ls<|Z y)::_=>Z (k,n,ls,y)
 |k,_::r=>Xy (k+1) r
variable{n:E}
theorem zOR{ls:O (M KS)}{y:E×E×υ MapEntry×E}{k:E}:∀(h:DH) (Y:E),Xy Y h=Z (k,n,ls,y)->Y<=k/\h[k-Y]?=Z (Z<|.mo<|.sets n ls<|Z y):=by
 intro h
 induction h with
 |nil=>intro Y e;cases e
 |cons x r ih=>
  intro Y e
  have step:Xy (Y+1) r=Z (k,n,ls,y)->Y<=k/\(x::r)[k-Y]?=Z (Z<|.mo<|.sets n ls<|Z y):=λe=>by
   grind
  match x,e with
  |none,e=>exact step e
  |some (.cells _),e=>exact step e
  |some (.ints _),e=>exact step e
  |some (.bools _),e=>exact step e
  |some (.arr _ _ _),e=>exact step e
  |some (.gro _ _ _),e=>exact step e
  |some (.iter _),e=>exact step e
  |some (.ro _),e=>exact step e
  |some (.mo<|.set _ _),e=>exact step e
  |some (.mo<|.mit _ _ _ _ _ _),e=>exact step e
  |some (.mo<|.rows _ _),e=>exact step e
  |some (.mo<|.rws _ _),e=>exact step e
  |some (.mo<|.sets _ _ A),e=>exact step e
  |some (.mo<|.sets _ _<|Z _),e=>simp_all[Xy]
def QQ(P:ν)(t:ψ):M<|E×ψ:=match P.underlying t with
 |some (.map k e)=>match Hc P k with
  |some n=>match P.info? e with
   |some i=>match i.zero with
    |some (.bool T)=>Z (n,k)
    |_=>A
   |none=>A
  |none=>A
 |_=>A
theorem lI{P:ν}{t k:ψ}(h:QQ P t=Z (n,k)):∃e,P.underlying t=Z (.map k e)/\Hc P k=Z n/\∀w,(zeroValue e).run P w=.ok (.bool T) w:=by
 unfold QQ at h;split at h
 ·split at h
  ·split at h
   ·split at h
    ·simp_all[zeroValue,typeInfo]
    ·cases h
   ·cases h
  ·cases h
 ·cases h
def bk(P:ν)(S:St)(t:ψ)(m k x:DV):M<|DV×DH×O Prop×ζ:=match QQ P t with
 |some (n,_)=>match dQ n k,x with
  |some x,.bool D=>match m with
   | .it j=>match S.h[j]? with
    |some (Z<|.mo<|.set a l)=>u (a=n) (Z (.any,S.h.set j<|Z<|.mo<|.set n<|Cm x l,[],T)) A
    |_=>A
   | .mri j i=>match S.h[j]? with
    |some (Z<|.mo<|.sets a ls lk)=>u (a=n) (Z (.any,S.h.set j<|Z<|.mo<|.sets n (ls.set i<|Z<|Cm x<|(ls.getD i A).getD []) lk,[(ls.getD i A).isSome=D,Wm lk i],T)) A
    |_=>A
   |_=>A
  |_,_=>A
 |none=>A
def lJ(P:ν)(S:St):Op->M (DV×DH×O Prop×ζ)
 | .makeMap t A=>match QQ P t with
  |some (n,_)=>Z (.it<|F S.h,S.h++[Z<|.mo<|.set n []],[],D)
  |none=>A
 | .mapUpdate t m k x=>bk P S t (Ak S.fr m) (Ak S.fr k)<|Ak S.fr x
 | .insert t m k x=>bk P S t (Ak S.fr m) (Ak S.fr k)<|Ak S.fr x
 | .lookup t m k T=>match QQ P t with
  |some (n,_)=>match dQ n (Ak S.fr k)with
   |some x=>match Ak S.fr m with
    | .it j=>match S.h[j]? with
     |some (Z<|.mo<|.set a l)=>u (a=n) (Z (.bool<|l.contains x,S.h,[],D)) A
     |_=>A
    | .mri j i=>match S.h[j]? with
     |some (Z<|.mo<|.sets a ls _)=>u (a=n) (Z (.bool<|((ls.getD i A).getD []).contains x,S.h,[(ls.getD i A).isSome=D],D)) A
     |_=>A
    |_=>A
   |none=>A
  |none=>A
 | .range t m=>match QQ P t with
  |some (n,_)=>match Ak S.fr m with
   | .mri j i=>match S.h[j]? with
    |some (Z<|.mo<|.sets a ls<|Z (I,G,es,As))=>u (a=n) (Z (.it<|F S.h,S.h++[Z<|.mo<|.mit n G es As ((ls.getD i A).getD []) A],[(ls.getD i A).isSome=D,I=i],D)) A
    |_=>A
   |_=>A
  |none=>A
 | .entry m=>match Ak S.fr m with
  | .it j=>match S.h[j]? with
   |some (Z<|.mo<|.mit n G es As _<|Z x)=>match Xy 0 S.h with
    |some (_,_,ls,i,v,b,e)=>Z (.tup 2<|F8 2 λc=>u (c=0) (lY n x)<|.bool D,S.h,[(ls.getD i A).isSome=D,v=G,b=es,e=As],D)
    |none=>A
   |_=>A
  |_=>A
 |_=>A
section
variable{P:ν}{Γ:A1}{N:Ψ}{S:St}{ρ:O AN}{a:Act}{w:κ}
variable{i:E}{ls:O (M KS)}
def Xn(h:(ls.getD i A).isSome=D):ls[i]?=Z (Z<|(ls.getD i A).getD []):=by
 rw[zBD]at h⊢;cases a:ls[i]? with
 |none=>rw[a]at h;cases h
 |some x=>
  rw[a]at h;cases x with
  |none=>cases h
  |some l=>simp
variable{v:μ}{j:E}
theorem jG(R:Ad P Γ N S ρ a w){n:E}{l:KS}(f:S.h[j]?=Z (Z<|.mo<|.set n l))(t:AL (MS N S.h ρ) w (.it j) ρ v):∃p es As,ρ[j]?=Z p/\v=.map (Z p.blk)/\p.foot=(λb=>b=p.blk)/\p.val=Value.map (Z p.blk)/\FW w p.blk n l es As:=by
 obtain⟨p,hp,rfl⟩:=t;obtain⟨p',BL,h1,h2,es,As,h3⟩:=R.hr.obj j _ f
 grind
theorem jE(R:Ad P Γ N S ρ a w){n:E}{lk:M (E×E×υ MapEntry×E)}(f:S.h[j]?=Z (Z<|.mo<|.sets n ls lk))(t:AL (MS N S.h ρ) w (.mri j i) ρ v)(e:(ls.getD i A).isSome=D):
 ∃p vs b es As,ρ[j]?=Z p/\Ft w p n ls lk vs/\v=.map (Z b)/\vs[i]?=Z (Value.map<|Z b)/\p.foot b/\FW w b n ((ls.getD i A).getD []) es As/\∀y,lk=Z y->y.1=i->y.2=(b,es,As):=by
 obtain⟨p,vs,g,J,Dj⟩:=t;obtain⟨p',k,l,c⟩:=R.hr.obj j _ f;have:p'=p:=zBH<|k.symm.trans g;subst this;have:l=vs:=by have:=c.val.symm.trans J;cases this;rfl
 obtain⟨b,g1,g2,g3,es,As,g4,g5⟩:=c.has i _<|Xn e
 grind
variable{Ϛ:DV}
def jK(R:Ad P Γ N S ρ a w)(t:AL (MS N S.h ρ) w Ϛ ρ v):Cj P Γ N S.h ρ w D Ϛ S.h v w:=⟨⟨ρ,R.hr,t,BD.refl _ _ _,λ_ _ h=>h⟩,λ_=>A0.refl w⟩
theorem Xk(ϗ:A9 P Γ N S.h ρ w){ob:Obj}(a:eD ob=D){pl:AN}(Hi:pl.foot=λb=>b=w.heap.size){o:DO}(K:∀ϕ ρ',Bc P ϕ (w.alloc ob) ρ' pl o)
 (t:∀ϕ ρ',ρ'[F S.h]?=Z pl->AL ϕ (w.alloc ob) Ϛ ρ' v) (ext:ζ):Cj P Γ N S.h ρ w ext Ϛ (S.h++[Z o]) v (w.alloc ob):=by
 have l:A0 w<|w.alloc ob:=(A0.refl w).allocR _;have q:∀b,pl.foot b->w.heap.size<=b:=λb c=>Z4
 have c:(w.alloc ob).heap[w.heap.size]?=Z ob:=zNf w _;refine⟨⟨ρ++[pl],ϗ.snoc l (λb i=>⟨q b i,ob,a,(),Z4⟩)<|K _ _,?_,BD.snoc ϗ l q,λk p f=>Eo f⟩,λ_=>l⟩;exact t _ _ (by rw[←ϗ.len];simp)
variable{ext:ζ}{vs:O Prop}{h':DH}
theorem uc(R:Ad P Γ N S ρ a w){t:ψ}{m k x:Operand}(z:bk P S t (Ak S.fr m) (Ak S.fr k) (Ak S.fr x)=Z (Ϛ,h',vs,ext))(hv:BU vs):
 ∃w',(Instr.mapUpdate t (a.eval m) (a.eval k)<|a.eval x).run P w=.ok () w'/\Cj P Γ N S.h ρ w ext Ϛ h' undef w':=by
 have q:=Bo R m;have rk:=Bo R k;have rx:=Bo R x;unfold bk at z;split at z
 ·rename_i n kt hT;obtain⟨e,Q,V,hz⟩:=lI hT;split at z
  ·rename_i xs hK hX;obtain⟨ek,el⟩:=wZ hK rk;rw[hX]at rx;have ex:a.eval x=.bool D:=rx;rw[ek,ex];split at z
   ·rename_i j y;split at z
    ·rename_i n' l f;split at z
     ·rename_i G;cases z;subst G;rw[y]at q;obtain⟨p,es,As,g,Y,I,FM,J⟩:=jG R f q;rw[Y];obtain⟨w',W,X,K,r,s⟩:=J.put Q V el;have o:AV p.foot w w':=by rw[I];exact r
      refine⟨w',K,⟨ρ,R.hr.write f g o (λb v=>?_) ⟨FM,I,W,X,s⟩,trivial,BD.write f g o,λ_ _ h=>h⟩,λh=>by cases h⟩;rw[I]at v;exact⟨_,rfl,(),by rw[show b=p.blk from v];exact s.blk⟩
     ·cases z
    ·cases z
   ·rename_i j i y;split at z
    ·rename_i n' ls lk f;split at z
     ·rename_i G;cases z;subst G;obtain⟨hs,xO,_⟩:=hv;rw[y]at q;obtain⟨p,vs,b,es,As,g,hS,Y,Dj,IE,J,_⟩:=jE R f q hs;rw[Y];obtain⟨w',W,X,K,r,s⟩:=J.put Q V el;have o:AV p.foot w w':=r.mono λc _ hc=>Z4
      have Ok:=hS.put (Xn hs) Dj r s xO;exact⟨w',K,⟨ρ,R.hr.write f g o (λb v=>Ok.lies v) ⟨vs,Ok⟩,trivial,BD.write f g o,λ_ _ h=>h⟩,λh=>by cases h⟩
     ·cases z
    ·cases z
   ·cases z
  ·cases z
 ·cases z
theorem zJi(es:υ MapEntry):leftOf es #[]=es:=by
 grind[leftOf,Array.filter_eq_self]
theorem zFF{r X a As:E}{seen:υ E}{es:υ MapEntry}{e:MapEntry}(hr:w.heap[r]?=Z (.mapIter (Z X) a seen As))(hs:seen.back? =Z e.born)(hb:w.heap[X]?=Z (.map es As))(he:e∈es.toList)(hn:(es.toList.map (·.born)).Nodup):
 (Instr.entry<|.pointer<|Z ⟨r,0,A⟩).run P w=.ok (.tuple #[e.key,e.val]) w:=by
 have hf:es.find? (·.born==e.born)=Z e:=by rw[←Array.find?_toList];grind[find_born]
 simp_all[Instr.entry,getObj,Sem.run]
theorem zJE(R:Ad P Γ N S ρ a w)(o:Oper)(z:lJ P S o.op=Z (Ϛ,h',vs,ext))(X:BU vs):BK P (ω a.eval o) w<|Cj P Γ N S.h ρ w ext Ϛ h':=by
 unfold lJ at z;split at z
 ·rename_i t K;split at z
  ·rename_i n kt Q;cases z;refine BK.value (s:=Instr.makeMap t A) (by unfold ω;rw[K];rfl) (v:=.map<|Z w.heap.size) (w':=w.alloc<|.map #[] 0) (by rfl) ?_;refine Xk (ob:=.map #[] 0) (o:=.mo<|.set n []) (Ϛ:=.it<|F S.h) (v:=.map<|Z w.heap.size) (pl:=⟨w.heap.size,0,0,.map<|Z w.heap.size,λb=>b=w.heap.size⟩) R.hr rfl rfl (λϕ ρ'=>⟨rfl,rfl,#[],0,⟨zNf w _,Z3,List.nodup_nil,λy hy=>τ hy zNR,λe he=>τ he Z3,λe he=>τ he Z3,Z3⟩⟩) (λϕ ρ' g=>⟨_,g,rfl⟩) D
  ·cases z
 ·grind[uc,BK.skip,ω]
 ·grind[uc,BK.skip,ω]
 ·rename_i t m k K;have f:=Bo R m;have rk:=Bo R k;split at z
  ·rename_i n kt Q;obtain⟨e,V,hk,hz⟩:=lI Q;split at z
   ·rename_i xs hK;obtain⟨ek,el⟩:=wZ hK rk;split at z
    ·rename_i j r;split at z
     ·rename_i W l G;split at z
      ·rename_i J;cases z;subst J;rw[r]at f;obtain⟨p,es,As,g,Y,Hi,FM,I⟩:=jG R G f;exact BK.value (s:=Instr.lookup t (a.eval m) (a.eval k) T) (by unfold ω;rw[K]) (by rw[ek,Y];exact I.look V hk el<|hz w)<|jK R rfl
      ·cases z
     ·cases z
    ·rename_i j i r;split at z
     ·rename_i W ls lk G;split at z
      ·rename_i J;cases z;subst J;rw[r]at f;obtain⟨p,vs,b,es,As,g,hS,Y,Dj,IE,I,_⟩:=jE R G f X.1;exact BK.value (s:=Instr.lookup t (a.eval m) (a.eval k) T) (by unfold ω;rw[K]) (by rw[ek,Y];exact I.look V hk el<|hz w)<|jK R rfl
      ·cases z
     ·cases z
    ·cases z
   ·cases z
  ·cases z
 ·rename_i t m K;have f:=Bo R m;split at z
  ·rename_i n kt Q;obtain⟨e,V,hk,hz⟩:=lI Q;split at z
   ·rename_i j i r;split at z
    ·rename_i W ls i' mb es As G;split at z
     ·rename_i J;cases z;subst J;obtain⟨hs,hi,_⟩:=X;subst hi;rw[r]at f;obtain⟨p,vs,b,Le,oR,g,hS,Y,Dj,IE,I,hL⟩:=jE R G f hs;have hL:=hL _ rfl rfl;cases hL;refine BK.value (s:=Instr.range t<|a.eval m) (by unfold ω;rw[K]) (by rw[Y];exact run_range_map w t _ _ _ _ _ V I.blk) ?_;refine Xk (ob:=.mapIter (Z mb) As #[] As) (o:=.mo<|.mit W mb es As ((ls.getD i' A).getD []) A) (Ϛ:=.it<|F S.h) (v:=.pointer<|Z ⟨w.heap.size,0,A⟩) (pl:=⟨w.heap.size,0,0,.pointer<|Z ⟨w.heap.size,0,A⟩,λb=>b=w.heap.size⟩) R.hr rfl rfl (λϕ ρ'=>⟨λx hx=>hx.elim (I.len x) (λe=>by cases e),rfl,rfl,#[],zNf w _,by rw[zJi];exact I.keys,λx hx=>by cases hx⟩) (λϕ ρ' g=>⟨_,g,rfl⟩) D
     ·cases z
    ·cases z
   ·cases z
  ·cases z
 ·rename_i m K;have f:=Bo R m;split at z
  ·rename_i j r;split at z
   ·rename_i n mb es As rem x G;split at z
    ·rename_i k W ls i vo Es FT hF;cases z;obtain⟨hs,e1,e2,e3,_⟩:=X;subst e1 e2 e3;rw[r]at f;obtain⟨p,g,Y⟩:=f;obtain⟨p',BL,h0,h1,h2,seen,h3,h4,h5⟩:=R.hr.obj j _ G;have:p'=p:=zBH<|BL.symm.trans g;subst this;obtain⟨e,g1,g2,g3⟩:=h5 x rfl;have hF:=(zOR _ _ hF).2;obtain⟨q,hq,vs,hS⟩:=R.hr.obj _ _ hF;obtain⟨b,k1,k2,k3,Le,oR,k4,k5⟩:=hS.has i _<|Xn hs;have k5:=k5 _ rfl rfl;cases k5;refine BK.value (s:=Instr.entry<|a.eval m) (by unfold ω;rw[K]) (by rw[Y,h1];exact zFF h3 g3 k4.blk g1 k4.stamps)<|jK R ?_;refine⟨_,rfl,rfl,λc hc=>?_⟩;rw[im hc,g2,k4.tru e g1]
     match c,hc with
     |0,_=>exact⟨Bb x,rfl,zKF<|h0 x<|.inr rfl⟩
     |1,_=>simp_all[AL]
    ·cases z
   ·cases z
  ·cases z
 ·cases z
end
end
end Go.Proofs.YtnkpdcmbppkkpaaGreatDoor
