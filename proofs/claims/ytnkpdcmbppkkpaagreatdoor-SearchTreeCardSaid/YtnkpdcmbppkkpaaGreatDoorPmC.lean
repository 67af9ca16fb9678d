/- Part 3 of 8 of what the proofs of these laws stand on. -/
import Derived.Test.YtnkpdcmbppkkpaaGreatDoorPmB
import Derived.LoopIn
set_option linter.all false
open Bool renaming false->D,true->T
open Decidable renaming decide->H
open Eq renaming refl->φ
open Go renaming World->κ,Value->μ,Program->ν,TypeId->ψ,execOp->ω
open Go.Fence renaming wide->η
open Go.Proofs.Tryz renaming prog->B
open Inhabited renaming default->ξ
open List renaming length->F,getD->M,replicate->d,range->θ
open Nat.le renaming refl->χ
open Option renaming none->V,some->Z
open _root_ renaming Option->A,ite->C,Int->E,cond->L,List->O,Nat->U,Bool->ζ,absurd->τ,Array->υ
namespace Go.Proofs.YtnkpdcmbppkkpaaGreatDoor
open Go.RowKit
abbrev zOz:=@List.getElem_mem
abbrev zQM:=@Nat.le_of_not_lt
abbrev zTY:=@List.cons_append
abbrev zUM:=@Nat.lt_one_iff
section
structure Bw(P:ν) where
 l:U
 encs:O (O DV)
 J:U->(Ψ)->(Ψ)->κ->Prop
 Jx:(Ψ)->(Ψ)->κ->Prop
 hJ:∀i,DK (J i)
 hJx:DK Jx
 hy:∀i x args G R W1,encs[i]?=Z x->YV x R W1 args->J i G R W1->EX G R W1->YieldAt η 0 P l args W1 λe W'=>
  AR (λk=>¬(G k∨R k)) W1 W'/\((e=.returned (.bool T)/\J (i+1) G R W')∨(e=.returned (.bool D)/\Jx G R W'))
structure IY(Γ:A2)(N G R:Ψ)(h:DH)(ρ:O AK)(w:κ):Prop where
 sh:EX G R w
 lo:∀b,b<Γ.ng->R b
 own:∀b,MO h ρ b->G b
 n:∀b,N b↔(b<w.heap.size/\¬G b/\¬R b)
def IY.ng{Γ:A2}{N G R:Ψ}{h:DH}{ρ:O AK}{w:κ}(y:IY Γ N G R h ρ w){b:U}(a:N b):Γ.ng<=b:=zQM λm=>((y.n b).1 a).2.2<|y.lo b m
def Rk(P:ν)(Γ:A2)(Ϝ:U)(J:Ψ->Ψ->κ->Prop)(hJ:DK J):BS P Γ Ϝ where
 I:=λN h ρ w=>∃G R,J G R w/\IY Γ N G R h ρ w
 st:=by
  rintro N h ρ w h' ρ' w' ⟨G,R,g,y⟩ Ϙ v st _;have l:=st.upd.size;have a:∀b,(G b∨(w.heap.size<=b/\b<w'.heap.size))->¬R b:=λb hb i=>hb.elim (λh=>y.sh.dis b h i) λh=>by have:=y.sh.lt b<|.inr i;omega
  have f:∀b,(G b∨(w.heap.size<=b/\b<w'.heap.size))∨R b->b<w'.heap.size:=λb hb=>by
   rcases hb with(hb|hb)|hb
   ·exact zAQ (y.sh.lt b<|.inl hb) l
   ·exact hb.2
   ·exact zAQ (y.sh.lt b<|.inr hb) l
  refine⟨λb=>G b∨(w.heap.size<=b/\b<w'.heap.size),R,hJ G R _ R w w' g (st.upd.mono λb _ hb=>y.own b hb) (λk hk=>hk.imp id λh=>h.1) (λk hk=>.inl hk) (λk hk=>hk.imp .inl id) a f,⟨a,f⟩,y.lo,λb hb=>?_,λb=>?_⟩
  ·rcases st.grow b hb with h|h
   ·exact .inl<|y.own b h
   ·obtain⟨k,o,p,j,m,q⟩:=hb;obtain⟨_,_,c,t,z,e⟩:=v.cel k o p b j m q
    grind
  ·rw[y.n]
   grind
section
variable{P:ν}{Γ:A2}
def Bw.Y(ϛ:Bw P)(Γ:A2)(Ϝ i:U):BS P Γ Ϝ:=Rk P Γ Ϝ (ϛ.J i)<|ϛ.hJ i
def Bw.X(ϛ:Bw P)(Γ:A2)(Ϝ:U):BS P Γ Ϝ:=Rk P Γ Ϝ ϛ.Jx ϛ.hJx
def Bw.Q(ϛ:Bw P)(Γ:A2)(Ϝ:U):QY P Γ Ϝ:=λe _ Y=>(e=.normal∨e=.ret)/\(Y=ϛ.Y Γ Ϝ (F ϛ.encs)∨Y=ϛ.X Γ Ϝ)
def Qj(P:ν)(Γ:A2)(ops:υ Oper)(p:U)(S:St)(w:BT):A<|O DV×U×St×St×O Prop:=match EL P Γ ops (ops.toList.take p) S w with
 |none=>V
 |some (y,vs,a)=>match ops[p]? with
  |none=>V
  |some o=>match Ly ops y o with
   |some T=>match o.op with
    | .call c=>match c.callee with
     | .value f=>match Ak y.fr f with
      | .yl l=>match(c.args.toList.map<|Ak y.fr).all G5 with
       |false=>V
       |true=>match EL P Γ ops (ops.toList.drop<|p+1) ⟨Cq y.fr o.dst<|.bool T,y.h⟩ a with
        |none=>V
        |some (ST,b,e)=>match EL P Γ ops (ops.toList.drop<|p+1) ⟨Cq y.fr o.dst<|.bool D,y.h⟩ e with
         |none=>V
         |some (g,Q,_)=>Z (c.args.toList.map<|Ak y.fr,l,ST,g,vs++(b++Q))
      |_=>V
     |_=>V
    |_=>V
   |_=>V
end
section
variable{P:ν}{Γ:A2}{N:Ψ}{S:St}{ρ:O AK}{a:Act}{w:κ}{ϖ:Fence}
variable{ops:υ Oper}
theorem QA(k:Dk ϖ P)(Y:Ca ops=T){Q:Exit->Act->κ->Prop}{g:O Oper}:∀(l:O Oper) (_:∀o∈l,o∈ops) {S:St} {ρ:O AK} {a:Act} {w:κ} {i:BT} {S':St} {vs:O Prop} {q:BT},
 AS P Γ N S ρ a w->EL P Γ ops l S i=Z (S',vs,q)->BX vs->
 (∀ρ' b w',AS P Γ N S' ρ' b w'->Di S.h ρ w S'.h ρ' w'->b.defers=a.defers->wpListIn ϖ 0 P ops Q g b w')->wpListIn ϖ 0 P ops Q (l++g) a w
 |[],_,S,ρ,a,w,i,S',vs,q,R,h,_,x=>by
  cases h;exact x ρ a w R (Di.refl _ _ _) rfl
 |o::rest,I,S,ρ,a,w,i,S',vs,q,R,h,J,x=>by
  have K:∀c,o.op≠.defer c:=by
   obtain⟨j,hj,e⟩:=Array.getElem_of_mem<|I o Z3
   grind[Ca]
  have W:∀o∈rest,o∈ops:=λo X=>I o (by simp[X])
  have Cu:∀v,(a.put o.dst v).defers=a.defers:=λv=>by cases X:o.dst <;> simp[Act.put]
  simp only[EL]at h;rw[zTY];unfold wpListIn;split at h
  ·split at h
   ·cases h
   ·rename_i S1 DE ext1 FD m;split at h
    ·cases h
    ·rename_i S2 Eg Gc n;cases h;obtain⟨r,t⟩:=D5.1 J;exact rH k R K m r λρ' b w' R' st Du _=>QA k Y rest W R' n t λρ'' p s u y z=>x ρ'' p s u (st.trans y)<|z.trans Du
  ·split at h
   ·cases h
   ·rename_i S1 DE OQ m;split at h
    ·cases h
    ·rename_i S2 Eg Gc n;cases h;obtain⟨r,t⟩:=D5.1 J;obtain⟨e1,hs⟩:=XY R m r
     have go:∀v,AS P Γ N S1 ρ (a.put o.dst v) w->wpListIn ϖ 0 P ops Q (rest++g) (a.put o.dst v) w:=λv R'=>
      QA k Y rest W R' n t λρ'' p s u y z=>x ρ'' p s u (by rw[←e1];exact y)<|z.trans<|Cu v
     rcases hs with⟨hw,v,g1,G⟩|⟨hw,G⟩
     ·rw[zAB hw];refine⟨λf _=>k.fn f,?_⟩;rw[zMi _ _ _ K,g1 w<|Keep.ofExt<|A9.refl w];exact go v G
     ·rw[zAt Z4];exact⟨λf _=>k.fn f,go undef G⟩
theorem ld{l:U}{ρ':Operand->μ}{o:Oper}{c:Call}{f:Operand}{vs:O μ}(x:o.op=.call c)(hc:c.callee=.value f)(g:ρ' f=.func (.yield l) #[] #[])(hv:c.args.toList.map ρ'=vs):(ω ρ' o).run P w=(Instr.yield l vs.toArray).run P w:=by
 unfold ω;rw[x]
 show(resolve ρ' c o.type>>=λϚ=>invoke Ϛ.target Ϛ.args).run P w=_
 unfold resolve;rw[hc];simp only[Deferred.ofValue,g]
 have e:#[]++Array.map ρ' c.args=vs.toArray:=by
  grind
 have a:((pure { target:=.fn (.yield l) #[],args:=#[]++Array.map ρ' c.args }:Sem Deferred)>>=λϚ=>invoke Ϛ.target Ϛ.args).run P w=(Instr.yield l<|#[]++Array.map ρ' c.args).run P w:=rfl;rw[a,e]
variable{R:Ψ}
theorem YV.of{ϗ:Ψ}{ρ:O AK}{g:Operand->DV}{f:Operand->μ}(i:∀x,AJ ϗ w (g x) ρ<|f x)(a:∀b,b<w.heap.size/\¬R b->ϗ b):∀{l:O Operand},(l.map g).all G5=T->YV (l.map g) R w (l.map f).toArray:=λ{l} h=>by
 refine⟨Z3,λj c=>?_⟩;have e:j<F l:=by simpa using c
 have y:(l.map g).getD j .any=g l[j]:=Z4
 have K:(l.map f).toArray.getD j undef=f l[j]:=by simp_all
 rw[y,K];have s:=PX<|zAP.1 h (g l[j])<|zMa.2 ⟨_,zOz e,rfl⟩;exact(s _ _ _ _<|i l[j]).out _<|DU a []
variable{h:DH}
theorem IY.part{N G:Ψ}{I:Ψ->Ψ->κ->Prop}(Y:DK I)(hi:I G R w)(y:IY Γ N G R h ρ w):∃R',I (MO h ρ) R' w/\IY Γ N (MO h ρ) R' h ρ w/\(∀b,b<w.heap.size/\¬R' b->MS N h ρ b)/\(∀b,R b->R' b):=by
 have r:∀b,MO h ρ b->¬(R b∨(G b/\¬MO h ρ b)):=λb z hx=>hx.elim (y.sh.dis b<|y.own b z) λhx=>hx.2 z
 have m:∀b,MO h ρ b∨(R b∨(G b/\¬MO h ρ b))->b<w.heap.size:=λb hx=>by
  rcases hx with hx|hx|hx
  ·exact y.sh.lt b<|.inl<|y.own b hx
  ·exact y.sh.lt b<|.inr hx
  ·exact y.sh.lt b<|.inl hx.1
 have t:∀b,G b->MO h ρ b∨(R b∨(G b/\¬MO h ρ b)):=λb s=>(Classical.em<|MO h ρ b).imp id λz=>.inr ⟨s,z⟩
 refine⟨λb=>R b∨(G b/\¬MO h ρ b),Y G R _ _ w w hi (AR.refl _ _) (λk hk=>.inl<|y.own k hk) (λk hk=>hk.imp id λh=>.inl h.1) (λk hk=>hk.elim (t k) λh=>.inr<|.inl h) r m,⟨⟨r,m⟩,λb h=>.inl<|y.lo b h,λ_ h=>h,λb=>(y.n b).trans ⟨λ⟨c,a,P⟩=>⟨c,λz=>a<|y.own b z,λhx=>hx.elim P λhx=>a hx.1⟩,λ⟨c,a,P⟩=>⟨c,λs=>(t b s).elim a P,λi=>P<|.inl i⟩⟩⟩,λb ⟨c,a⟩=>?_,λb h=>.inl h⟩
 by_cases s:G b
 ·grind[MS]
 ·exact .inl<|(y.n b).2 ⟨c,s,λi=>a<|.inl i⟩
def IY.later{N R':Ψ}{K:κ}(z:IY Γ N (MO h ρ) R' h ρ w)(Ϙ:Ap P Γ N h ρ w)(t:AR (λk=>¬(MO h ρ k∨R' k)) w K):Ap P Γ (λa=>a<K.heap.size/\¬MO h ρ a/\¬R' a) h ρ K/\BQ (MS N h ρ) w ρ (MS (λa=>a<K.heap.size/\¬MO h ρ a/\¬R' a) h ρ) K ρ:=by
 have c:AR N w K:=t.mono λa R s=>(z.n a).2 ⟨R,λe=>s<|.inl e,λe=>s<|.inr e⟩
 have G:∀a,N a->N a/\Γ.ng<=a:=λa f=>⟨f,z.ng f⟩
 have g:∀a,(a<K.heap.size/\¬MO h ρ a/\¬R' a)->N a∨w.heap.size<=a:=λa ⟨i,j,b⟩=>by
  rcases zCv a w.heap.size with h|h
  ·exact .inl<|(z.n a).2 ⟨h,j,b⟩
  ·exact .inr h
 exact⟨Ϙ.foreign c G g λa ⟨i,_,b⟩=>⟨i,zQM λm=>b<|z.lo a m⟩,BQ.foreign (Γ:=Γ) c G g⟩
theorem Tr.yield{Ϝ:U}{ϛ:Bw P}{i:U}{Q:QY P Γ Ϝ}(I:Dk η P){id:U}{p:U}{An:BT}{x:O DV}{ST SF:St}{vs:O Prop}(J:Ca ops=T)
 (h:Qj P Γ ops p S An=Z (x,ϛ.l,ST,SF,vs)) (hv:BX vs) (hx:ϛ.encs[i]?=Z x) (hT:Q .normal ST<|ϛ.Y Γ Ϝ<|i+1) (hE:Q .normal SF<|ϛ.X Γ Ϝ):Tr P Γ η V Ϝ (ϛ.Y Γ Ϝ i) (.region id ops D) S Q:=λN ρ a w R y m b=>by
 unfold Qj at h;split at h
 ·cases h
 rename_i n DE FD h1;split at h
 ·cases h
 rename_i o ho;split at h
 ·rename_i hw;split at h
  ·rename_i c Jf;split at h
   ·rename_i f hc;split at h
    ·rename_i l hl;split at h
     ·cases h
     rename_i Rq;split at h
     ·cases h
     rename_i ST' vT Gc h2;split at h
     ·cases h
     rename_i SF' vF Nh h3;cases h;obtain⟨B2,FG⟩:=D5.1 hv;obtain⟨hvT,hvF⟩:=D5.1 FG;have q:p<F ops.toList:=Z4
     have zMh:ops.toList=ops.toList.take p++o::ops.toList.drop (p+1):=by
      grind[List.drop_eq_getElem_cons,List.take_append_drop]
     have Df:∀o'∈ops.toList,o'∈ops:=λo' h=>by simpa using h
     have hd:∀c,o.op≠.defer c:=IR J ho;refine zON ?_;rw[zMh];refine QA I J _ (λo' t=>Df o'<|List.mem_of_mem_take t) R h1 B2 λρ1 r w1 s BV Jh=>?_
     obtain⟨G0,R0,y1,y2⟩:=(ϛ.Y Γ Ϝ i).st y R.hr s.hr BV.st λk p _ q=>BV.pl k p q;obtain⟨R',z1,K,z3,_⟩:=IY.part (ϛ.hJ i) y1 y2;obtain⟨fn,tmps,NA,body,hy,hR⟩:=ϛ.hy i _ _ _ R' w1 hx (YV.of (g:=Ak n.fr) (f:=r.eval) (λx=>Be s x) z3 Rq) z1 K.sh;unfold wpListIn;rw[zAB<|H9 s hw]
     have Yu:r.eval f=.func (.yield ϛ.l) #[] #[]:=by
      have hr:=Be s f;rw[hl]at hr;exact hr
     refine⟨λf _=>I.fn f,?_⟩;rw[zMi _ _ _ hd,ld Jf hc Yu rfl,hy];refine⟨λhx=>(by cases hx),hR.mono ?_⟩;have Aa:r.defers= []:=Jh.trans m;rintro e W ⟨hu,u⟩;obtain⟨H',fo⟩:=K.later s.hr hu;have E3:AS P Γ (λj=>j<W.heap.size/\¬MO n.h ρ1 j/\¬R' j) n ρ1 r W:=⟨H',s.fr.out fo⟩;have Cu:∀v,(r.put o.dst v).defers=r.defers:=λv=>by cases ho:o.dst <;> simp[Act.put]
     have yy:IY Γ (λj=>j<W.heap.size/\¬MO n.h ρ1 j/\¬R' j) (MO n.h ρ1) R' n.h ρ1 W:=⟨K.sh.upd hu,K.lo,λ_ h=>h,λ_=>Iff.rfl⟩;rcases u with⟨rfl,u⟩|⟨rfl,u⟩
     ·have R':=Gw E3 o.dst (Ϛ:=.bool T) (v:=.bool T) rfl;refine Mv I J _ (λo' t=>Df o'<|List.mem_of_mem_drop t) R' h2 hvT λρ2 a2 w2 z G zOk=>?_
      refine⟨ST,ρ2,_,ϛ.Y Γ Ϝ<|i+1,hT,z,(ϛ.Y Γ Ϝ<|i+1).st ⟨_,_,u,yy⟩ R'.hr z.hr G.st λk p _ q=>G.pl k p q,?_,Bd.none⟩
      grind[Ki]
     ·have R':=Gw E3 o.dst (Ϛ:=.bool D) (v:=.bool D) rfl;refine Mv I J _ (λo' t=>Df o'<|List.mem_of_mem_drop t) R' h3 hvF λρ2 a2 w2 z G zOk=>?_
      refine⟨SF,ρ2,_,ϛ.X Γ Ϝ,hE,z,(ϛ.X Γ Ϝ).st ⟨_,_,u,yy⟩ R'.hr z.hr G.st λk p _ q=>G.pl k p q,?_,Bd.none⟩
      grind[Ki]
    ·cases h
   ·cases h
  ·cases h
 ·cases h
end
variable{fn:Func}{f:U}{P:ν}
theorem HD(hf:P.funcs[f]?=Z fn)(hb:fn.body.isSome=T)(s:(fn.name== "runtime.NumGoroutine")=D)(args:υ μ)(W:κ):(callFunc f args).run P W=.ok (.enter f args) W:=by
 have Uy:¬fn.name= "runtime.NumGoroutine" :=by simpa using s
 have FX:¬fn.body=V:=Z4
 simp_all[callFunc]
variable{ds:O DV}{Γ:A2}
theorem qx(p:P.funcs[f]?=Z fn)(n:fn.body.isSome=T){Ϝ:U}{Y:BS P Γ Ϝ}{Q:QY P Γ Ϝ}{h:DH}(ϒ:A6 P Γ η V Ϝ Y Q [.code<|AZ fn] ⟨ds++d (fn.ntmps-F ds) .any,h⟩)
 {N:Ψ} {ρ:O AK} {W:κ} {args:υ μ} (Ϙ:Ap P Γ N h ρ W) (fr:A3 (MS N h ρ) W ρ ds args) (y:Y.I N h ρ W) {R:Ending->κ->Prop}
 (x:∀e S' ρ' l a o K,Q e S' a->AS P Γ l S' ρ' o K->a.I l S'.h ρ' K->match e with
  | .normal| .ret=>∃v,(results fn o.tmps).run P K=.ok v K/\R (.returned v) K
  | .panic c=>R (.panicked c) K
  |_=>False):CallsIn η 0 P f args W R:=by
 cases hc:fn.body with
 |none=>rw[hc]at n;cases n
 |some b=>
 have q:AZ fn=b:=by unfold AZ;rw[hc];rfl
 rw[q]at ϒ;refine callsIn_of_wp p hc trivial (zOa ((show Tr P Γ η V Ϝ Y b _ (BN P Γ η V Ϝ Q [])from ϒ) N ρ _ W ⟨Ϙ,?_⟩ y rfl Bd.none) ?_) rfl
 ·rw[←fr.1];grind[A3.append,A3.anys]
 ·rintro e o K ⟨S',ρ',l,a,g,z,i,k,_⟩;cases e with
  |outgrown=>exact g.elim
  |normal=>obtain⟨v,j,m⟩:=x _ S' ρ' l a o K g z i;exact⟨k,v,j,m⟩
  |ret=>obtain⟨v,j,m⟩:=x _ S' ρ' l a o K g z i;exact⟨k,v,j,m⟩
  |exit id=>exact(x _ S' ρ' l a o K g z i).elim
  |goto t=>exact(x _ S' ρ' l a o K g z i).elim
  |panic c=>exact⟨k,x _ S' ρ' l a o K g z i⟩
theorem ES.iterN{y m:U}{c:U->DV}{h0:DH}{encs:O (O DV)}(X:ES P Γ f ds [] (.fn y m c) h0 T)(EV:ds.all G5=T)
 (hf:P.funcs[y]?=Z fn) (a:fn.body.isSome=T) (hn:(fn.name== "runtime.NumGoroutine")=D) (Us:fn.results= #[])
 (n:∀ϛ:Bw P,ϛ.encs=encs->A6 P Γ η V (F h0) (ϛ.Y Γ (F h0) 0) (ϛ.Q Γ<|F h0) [.code<|AZ fn] ⟨.yl ϛ.l::(θ m).map c++d (fn.ntmps-(m+1)) .any,h0⟩) (h:DH):ES P Γ f ds h (.it<|F h) (h++[Z<|.iter encs]) T:=by
 refine⟨X.1,λN ρ w args HR Co=>?_⟩;refine(X.2 (MS N h ρ) [] w args (Ut (λb a=>HR.lt2 a) HR.gi) ⟨Co.1,λi hi=>?_⟩).mono ?_
 ·have hx:=PX (zAP.1 EV (ds.getD i .any)<|by simp[hi]);exact AJ.out _ (DU (λb a=>TD.1 a) [])<|hx _ _ _ _<|Co.2 i hi
 ·rintro e w' ⟨v,rfl,⟨⟨ρ',g1,g2,g3,g4⟩,g5⟩⟩;have z:=g5 rfl;obtain⟨lb,hv,I,N5⟩:=g2;have KV:∀b,MO h0 ρ' b->w.heap.size<=b:=λb a=>(g3.grow b a).resolve_left λ⟨k,o',p',g,_⟩=>by simp at g
  have Hj:∀b,MO h0 ρ' b->Γ.ng<=b/\¬MS N h ρ b/\EZ w' b:=λb ⟨k,o,q,g,q2,x⟩=>g1.cel k o q b g q2 x
  have CB:Γ.ng<=w.heap.size:=Γ.lo _ HR.gi;have Bh:=z.size
  have S:∀b,MO h0 ρ' b->b<w'.heap.size:=λb a=>by
   grind
  have lo:∀b,b<Γ.ng->b<w'.heap.size/\¬MS (MS N h ρ) h0 ρ' b:=λb a=>⟨zAQ a<|zAO CB Bh,λhx=>by
   rcases hx with hx|hx
   ·have:=(HR.lt2 hx).2;omega
   grind⟩
  let p:AK:=⟨0,0,0,v,λb=>MO h0 ρ' b⟩
  have hp:∀b,p.foot b->w.heap.size<=b/\EZ w' b:=λb a=>⟨KV b a,(Hj b a).2.2⟩
  refine⟨v,rfl,⟨⟨ρ++[p],HR.snoc z hp ?_,⟨p,by rw[←HR.len];simp,rfl⟩,A8.snoc HR z λb a=>(hp b a).1,λ_ _ h=>FL h⟩,g5⟩⟩;refine⟨y,lb,λb=>b<w'.heap.size/\¬MS (MS N h ρ) h0 ρ' b,⟨hv,λargs W=>HD hf a hn args W⟩,?_,λb a=>⟨λhm=>?_,a.1⟩,S⟩
  ·intro l J Jx W hJ hJx hU hY ZH _
   let ϛ:Bw P:=⟨l,encs,J,Jx,hJ,hJx,hY⟩
   have P9:∀b,(b<W.heap.size/\¬MO h0 ρ' b/\¬(b<w'.heap.size/\¬MS (MS N h ρ) h0 ρ' b))->MS N h ρ b∨w'.heap.size<=b:=λb ⟨_,x,q4⟩=>by
    grind[MS]
   have hu:AR (λb=>MS N h ρ b) w' W:=hU.mono λb S hx=>by
    grind[MS]
   have r:∀b,MS N h ρ b->MS N h ρ b/\Γ.ng<=b:=λb a=>⟨a,(HR.lt2 a).2⟩
   have HW:Ap P Γ (λb=>b<W.heap.size/\¬MO h0 ρ' b/\¬(b<w'.heap.size/\¬MS (MS N h ρ) h0 ρ' b)) h0 ρ' W:=g1.foreign hu r P9 λb a=>⟨a.1,zQM λI=>a.2.2<|lo b I⟩
   have ZT:A3 (MS (MS N h ρ) h0 ρ') w' ρ' ((θ m).map c) lb:=⟨by simp[I],λj hj=>by
    simp_all⟩
   have ZU:=ZT.out<|BQ.foreign (Γ:=Γ) hu r P9;have ϒ:=n ϛ rfl;have e3:fn.ntmps-(m+1)=fn.ntmps-F (.yl ϛ.l::(θ m).map c):=Z3
   rw[e3]at ϒ
   refine qx hf a ϒ HW (A3.append (l:=[.yl ϛ.l]) (t:=#[.func (.yield l) #[] #[]]) ⟨rfl,λj hj=>by
    have:j=0:=zUM.1 hj;subst this;rfl⟩ ZU) ⟨_,_,ZH,⟨⟨λb a hr=>hr.2<|.inr a,λb a=>zAQ (a.elim (S b) λh=>h.1) hU.size⟩,lo,λ_ h=>h,λ_=>Iff.rfl⟩⟩ ?_
   rintro e S' ρ2 N' Y' a' K g q2 x
   have s:∃v,(results fn a'.tmps).run P K=.ok v K/\∃G R,EX G R K/\((ϛ.J (F encs) G R K/\V0 (.returned v) G R K)∨((∃u,Ending.returned v=.returned u)/\ϛ.Jx G R K)):=by
    obtain⟨_,(rfl|rfl)⟩:=g <;> obtain⟨G',R',k1,k2⟩:=x
    ·exact⟨_,results_none Us _ _ _,G',R',k2.sh,.inl ⟨k1,_,rfl⟩⟩
    ·exact⟨_,results_none Us _ _ _,G',R',k2.sh,.inr ⟨⟨_,rfl⟩,k1⟩⟩
   cases e with
   |normal=>exact s
   |ret=>exact s
   |exit id=>exact τ g.1 Z3
   |goto t=>exact τ g.1 Z3
   |panic ch=>exact τ g.1 Z3
   |outgrown=>exact τ g.1 Z3
  ·rcases hm with hm|hm
   ·exact a.2<|.inl<|.inl hm
   ·rcases MO.snoc HR hm with hm|hm
    ·exact a.2<|.inl<|.inr hm
    ·exact a.2<|.inr hm
section
variable{P:ν}{Γ:A2}
def Kx:O KI->A (υ Oper×O KI)
 | .code (.region _ ops D)::k=>Z (ops,k)
 |_=>V
def ma(N σ:Θ)(Ϝ:U)(r:O DV×U×St×St×O Prop):O DV×U×O DV×DH×O DV×DH×O Prop×ζ:=(r.1,r.2.1,(Proofs.YtnkpdcmbppkkpaaGreatDoor.comp N σ r.2.2.1).fr,(Proofs.YtnkpdcmbppkkpaaGreatDoor.comp N σ r.2.2.1).h,(Proofs.YtnkpdcmbppkkpaaGreatDoor.comp N σ r.2.2.2.1).fr,(Proofs.YtnkpdcmbppkkpaaGreatDoor.comp N σ r.2.2.2.1).h,r.2.2.2.2,L7 σ Ϝ (F r.2.2.1.h)&&L7 σ Ϝ (F r.2.2.2.1.h))
variable{i:U}
def A6.yieldAt{Ϝ:U}{ϛ:Bw P}{Q:QY P Γ Ϝ}{S:St}{K k:O KI}{ops:υ Oper}(e:Dk η P)(a:Kx K=Z (ops,k))(f:Ca ops=T)(p:U)(w:BT){x:O DV}(N σ:Θ)(z:O DV)(c:DH)(G:O DV)(s:DH)(vs:O Prop)
 (h:(Qj P Γ ops p S w).map (ma N σ Ϝ)=Z (x,ϛ.l,z,c,G,s,vs,T)) (o:BX vs) (g:ϛ.encs[i]?=Z x) (hc:KH k=T) (j:A6 P Γ η V Ϝ (ϛ.Y Γ Ϝ<|i+1) Q k ⟨z,c⟩) (m:A6 P Γ η V Ϝ (ϛ.X Γ Ϝ) Q k ⟨G,s⟩):A6 P Γ η V Ϝ (ϛ.Y Γ Ϝ i) Q K S:=by
 unfold Kx at a;split at a
 ·cases a;cases b:Qj P Γ ops p S w with
  |none=>rw[b]at h;cases h
  |some r=>
   obtain⟨xs,l,ST,n,DE⟩:=r;rw[b]at h;simp only[zMp,ma,zB2,zLJ,zAK]at h;obtain⟨rfl,rfl,rfl,rfl,rfl,rfl,rfl,q,t⟩:=h;exact Tr.yield e f b o g (BY.le (BB.comp N σ ST q) hc j)<|BY.le (BB.comp N σ n t) hc m
 ·cases a
variable{α β:Type}
theorem K9{o:A α}{f:α->β}{r:β}(h:o.map f=Z r):∃a,o=Z a/\r=f a:=by
 cases o with
 |none=>cases h
 |some a=>grind
theorem Zl{l:O β}{f:α->β}{x:α}{r:O α}(hd:l.drop i=(x::r).map f):l[i]?=Z (f x)/\i+1<=F l/\l.drop (i+1)=r.map f:=by
 grind[List.drop_eq_nil_of_le,List.drop_eq_getElem_cons]
def Sd{l:O β}{f:α->β}(hi:i<=F l)(r:l.drop i=([]:O α).map f):i=F l:=by
 have:=congrArg List.length r;simp at this;omega
end
def Bn(x:E):O DV:=[.int .i64 x]
def Sa(x:Δ):O DV:=[.int .i64 x.1,.int .i64 x.2]
end
section
def Kq:DV->ζ
 | .ints _=>D
 | .bools _=>D
 | .sl .. =>D
 | .fp .. =>D
 | .agg m f=>(θ m).all λj=>Kq<|f j
 | .tup m f=>(θ m).all λj=>Kq<|f j
 | .fn _ m f=>(θ m).all λj=>Kq<|f j
 |_=>T
def Wf:A DO->ζ
 |none=>T
 |some (.cells l)=>l.all Kq
 |some (.ints _)=>T
 |some (.bools _)=>T
 |some (.mo _)=>T
 |_=>D
def MOf(Ϙ:DH)(σ:Θ)(ρ:O AK)(b:U):Prop:=∃(k:U) (o:DO) (p:AK),k∈σ/\Ϙ[k]?=Z (Z o)/\ρ[k]?=Z p/\p.foot b
def Oa(Ϙ:DH)(σ:Θ)(Ϛ S:DV):Prop:=∀(P:ν) (Γ:A2) (N:Ψ) (ρ:O AK) (w:κ) (v:μ),Ap P Γ N Ϙ ρ w->AJ (MS N Ϙ ρ) w Ϛ ρ v->AJ (MOf Ϙ σ ρ) w S [] v
variable{ρ ρ':O AK}{b:U}{σ:Θ}{w:κ}{ϗ:Ψ}
theorem ud{J:Ψ}(S:∀(k:U) (p:AK),ρ[k]?=Z p->ρ'[Dz σ b k]?=Z p):∀(Ϛ:DV) {v:μ},Kq Ϛ=T->AJ ϗ w Ϛ ρ v->AJ J w (up σ b Ϛ) ρ' v:=by
 intro Ϛ
 induction Ϛ with
 |any=>intro v _ _;trivial
 |nils=>intro v _ h;exact h
 |int k n=>intro v _ h;exact h
 |bool b=>intro v _ h;exact h
 |str s=>intro v _ h;exact h
 |ints l=>intro v q h;cases q
 |bools l=>intro v q h;cases q
 |sl m n f _=>intro v q h;cases q
 |fp m f _=>intro v q h;cases q
 |agg m f y=>
  rintro v q ⟨cs,e,z,h⟩;simp only[Kq,zAP,zAV]at q;exact⟨cs,e,z,λj x=>let⟨u,G,I⟩:=h j x;⟨u,G,L4 x<|y j (q j x) I⟩⟩
 |tup m f y=>
  rintro v q ⟨cs,e,z,h⟩;simp only[Kq,zAP,zAV]at q;exact⟨cs,e,z,λj x=>let⟨u,G,I⟩:=h j x;⟨u,G,L4 x<|y j (q j x) I⟩⟩
 |fn g m c y=>
  rintro v q ⟨cs,e,z,h⟩;simp only[Kq,zAP,zAV]at q;exact⟨cs,e,z,λj x=>let⟨u,G,I⟩:=h j x;⟨u,G,L4 x<|y j (q j x) I⟩⟩
 |ref k j=>rintro v _ ⟨p,t,r⟩;exact⟨p,S k p t,r⟩
 |msl k m o n=>rintro v _ ⟨p,cap,t,r⟩;exact⟨p,cap,S k p t,r⟩
 |mp k m i j=>rintro v _ ⟨p,t,r⟩;exact⟨p,S k p t,r⟩
 |it k=>rintro v _ ⟨p,t,r⟩;exact⟨p,S k p t,r⟩
 |cst u=>intro v _ h;exact h
 |yl l=>intro v _ h;exact h
 |mse k m o n=>rintro v _ ⟨p,a,cap,t,r⟩;exact⟨p,a,cap,S k p t,r⟩
 |gr k=>rintro v _ ⟨p,a,n,cap,t,r⟩;exact⟨p,a,n,cap,S k p t,r⟩
 |mri k i=>rintro v _ ⟨p,vs,t,r⟩;exact⟨p,vs,S k p t,r⟩
theorem zEu{P:ν}{S:Ψ}{p:AK}(hρ:∀(k:U) (p:AK),ρ[k]?=Z p->ρ'[Dz σ b k]?=Z p){o o':DO}(a:Wf (Z o)=T)(c:DL σ b (Z o)=Z o')(h:Bi P ϗ w ρ p o):Bi P S w ρ' p o':=by
 cases o with
 |cells l=>
  cases c
  show Ac w p (F<|l.map<|up σ b) _
  rw[zAS];refine Ac.out h rfl λj u hj t=>?_
  grind[ud,Wf]
 |ints l=>cases c;exact Ac.out h rfl λj u _ t=>t
 |bools l=>cases c;exact Ac.out h rfl λj u _ t=>t
 |arr m n f=>cases a
 |gro m n f=>cases a
 |iter encs=>cases a
 |ro l=>cases a
 |mo x=>cases c;exact h
section
variable{P:ν}{Γ:A2}
theorem ES.embedS{f:U}{ds:O DV}{h:DH}{Ϛ:DV}{h':DH}{ext:ζ}(En:ES P Γ f ds h Ϛ h' ext)(σ:Θ)(Ϙ:DH)(hn:σ.Nodup)(AY:∀k∈σ,k<F Ϙ)(hl:F σ=F h)(GP:F h<=F h')
 (hh:(σ.map λk=>Ϙ.getD k V)=h.map (DL σ<|F Ϙ)) {Fn:O DV} (Aj:F Fn=F ds) (zOw:∀i,i<F ds->Fn.getD i .any=up σ (F Ϙ) (ds.getD i .any)∨Oa Ϙ σ (Fn.getD i .any) (ds.getD i .any)) (hsd:Kq Ϛ=T) (IV:h'.all Wf=T):ES P Γ f Fn Ϙ (up σ (F Ϙ) Ϛ) (Dv Ϙ σ h') ext:=by
 refine⟨En.1,λN ρ w args HR Co=>?_⟩;obtain⟨ρ0,ns⟩:∃ρ0,ρ0=σ.map λk=>ρ.getD k m6:=⟨_,rfl⟩
 have nR:F ρ0=F σ:=by rw[ns];simp
 have Y:∀{i k:U},σ[i]?=Z k->ρ0[i]?=ρ[k]? :=λ{i k} hk=>by
  have Gh:k<F ρ:=by rw[HR.len];exact AY k<|zLW hk
  grind
 have ur:∀{i:U},i<F σ->∃k,σ[i]?=Z k/\Dz σ (F Ϙ) i=k:=λ{i} hi=>by
  simp_all[Dz]
 have S:∀{i:U} {o:DO},h[i]?=Z (Z o)->∃k o',σ[i]?=Z k/\Ϙ[k]?=Z (Z o')/\DL σ (F Ϙ) (Z o)=Z o':=λ{i o} hi=>by
  have SJ:i<F σ:=Z4
  obtain⟨k,hk,_⟩:=ur SJ;have e:=congrArg (·[i]?) hh;simp only[zMN,hk,hi,zMp]at e;have GA:=AY k<|zLW hk;have e:Ϙ.getD k V=DL σ (F Ϙ) (Z o):=zAN e;have K:∃o',DL σ (F Ϙ) (Z o)=Z o':=by cases o <;> exact⟨_,rfl⟩
  grind
 have zJv:∀{i k:U} {o':DO},σ[i]?=Z k->Ϙ[k]?=Z (Z o')->∃o,h[i]?=Z (Z o)/\DL σ (F Ϙ) (Z o)=Z o':=λ{i k o'} hk ho=>by
  have SJ:i<F h:=Z4
  have e:=congrArg (·[i]?) hh
  grind[TV]
 obtain⟨N0,gY⟩:∃N0:Ψ,N0=λ_=>False:=⟨_,rfl⟩
 have K8:∀b,MO h ρ0 b->MO Ϙ ρ b:=by
  rintro b ⟨i,o,p,l,u,g⟩;obtain⟨k,o',y,K,_⟩:=S l;exact⟨k,o',p,K,(Y y).symm.trans u,g⟩
 have m8:∀b,MS N0 h ρ0 b->MS N Ϙ ρ b:=by
  rintro b (hb|hb)
  ·rw[gY]at hb;exact hb.elim
  ·exact .inr<|K8 b hb
 have dn:∀(k:U) (p:AK),ρ[Dz σ (F Ϙ) k]?=Z p->ρ0[k]?=Z p:=λk p m=>by
  by_cases hk:k<F σ
  ·grind
  ·unfold Dz at m;rw[zAt hk]at m;have:=(zDh.1 m).1;rw[HR.len]at this;omega
 have a:∀{k:U} {o:DO} {p:AK} {b:U},FA σ k=V->Ϙ[k]?=Z (Z o)->ρ[k]?=Z p->p.foot b->¬MO h ρ0 b:=by
  rintro k' o2 p2 b s n j J ⟨i,o,p,l,u,g⟩;obtain⟨k,o',y,K,_⟩:=S l;have m:=(Y y).symm.trans u;refine HR.dis k k' o' o2 p p2 b ?_ K n m j g J;rintro rfl;rw[UC hn y]at s;cases s
 have H0:Ap P Γ N0 h ρ0 w:=by
  refine⟨by rw[nR,hl],λi o hi=>?_,λi o p b l u g=>?_,λi i' o1 o2 p1 p2 b Af l u g g4 g5 g6=>?_,λb hb=>HR.lt2<|m8 b<|.inl hb,HR.gi⟩
  ·obtain⟨k,o',y,K,e3⟩:=S hi;obtain⟨p,m,hr⟩:=HR.obj k o' K
   grind[zBI]
  ·obtain⟨k,o',y,K,e3⟩:=S l;obtain⟨s,n,j⟩:=HR.cel k o' p b K ((Y y).symm.trans u) g
   grind
  ·obtain⟨k,o',y,K,e3⟩:=S l;obtain⟨k',ml,VT,Zj,e3'⟩:=S u;refine HR.dis k k' o' ml p1 p2 b ?_ K Zj ((Y y).symm.trans g) ((Y VT).symm.trans g4) g5 g6;rintro rfl;have q:=UC hn y;have G:=UC hn VT
   grind
 refine(En.2 N0 ρ0 w args H0 ⟨by rw[←Co.1,Aj],λi hi=>?_⟩).mono ?_
 ·have:=Co.2 i (by rw[Aj];exact hi);rcases zOw i hi with e|e
  ·grind[iO]
  ·refine UB<|AJ.out _ (DU (λb hb=>?_) [])<|e P Γ N ρ w _ HR this;rcases hb with hb|⟨i,o,p,l,u,g⟩
   ·rw[gY]at hb;exact hb.elim
   ·obtain⟨k,o',y,K,_⟩:=S l;exact⟨k,o',p,zLW y,K,(Y y).symm.trans u,g⟩
 ·rintro e w' ⟨v,rfl,⟨⟨ρ1,l,u,g,g4⟩,g5⟩⟩;have l1:F ρ1=F h':=l.len;obtain⟨ρ',KL⟩:∃ρ',ρ'=ρ++ρ1.drop (F σ):=⟨_,rfl⟩
  have at1:∀{i k:U},σ[i]?=Z k->ρ1[i]?=ρ[k]? :=λ{i k} hk=>by
   grind
  have Nj:∀{k:U},k<F Ϙ->ρ'[k]?=ρ[k]? :=λ{k} hk=>by rw[KL,zMZ<|by rw[HR.len];exact hk]
  have kB:∀(k:U) (p:AK),ρ1[k]?=Z p->ρ'[Dz σ (F Ϙ) k]?=Z p:=λk p m=>by
   by_cases hk:k<F σ
   ·grind
   ·unfold Dz;rw[zAt hk,KL,zML (by rw[HR.len];omega),zOb,HR.len]
    simp_all
  have nQ:F (Dv Ϙ σ h')=F Ϙ+(F h'-F σ):=by simp[Dv]
  have JJ:∀{k:U} {o':DO},(Dv Ϙ σ h')[k]?=Z (Z o')->(k<F Ϙ/\FA σ k=V/\Ϙ[k]?=Z (Z o')/\ρ'[k]?=ρ[k]?)∨∃i o,h'[i]?=Z (Z o)/\DL σ (F Ϙ) (Z o)=Z o'/\ρ'[k]?=ρ1[i]?/\k=Dz σ (F Ϙ) i:=by
   intro k o' hk
   by_cases GA:k<F Ϙ
   ·unfold Dv at hk;rw[zMZ (by simpa using GA),zMN,List.getElem?_range GA]at hk;simp only[zMp,zB2]at hk;split at hk
    ·rename_i i hi;have his:=Kv hi;obtain⟨o0,e0⟩:=TV hk
     grind
    grind
   ·unfold Dv at hk;rw[zML Z7,zMN,zOb]at hk;simp only[zAS,zO8]at hk;cases W:h'[F σ+(k-F Ϙ)]? with
    |none=>rw[W]at hk;cases hk
    |some x=>
     rw[W]at hk;have hk:DL σ (F Ϙ) x=Z o':=zAN hk;obtain⟨o0,e0⟩:=TV hk;subst e0;refine .inr ⟨F σ+(k-F Ϙ),o0,W,hk,?_,?_⟩
     ·rw[KL,zML (by rw[HR.len];omega),zOb,HR.len]
     simp_all[Dz,zAt]
  have back:∀{k:U} {o:DO},FA σ k=V->Ϙ[k]?=Z (Z o)->(Dv Ϙ σ h')[k]?=Z (Z o):=by
   grind[Dv]
  have I:∀{k:U} {o:DO} {p:AK} {b:U},FA σ k=V->Ϙ[k]?=Z (Z o)->ρ[k]?=Z p->p.foot b->¬MO h' ρ1 b:=λ{k o p b} s n j J hm=>by
   rcases g.grow b hm with hg|hg
   ·exact a s n j J hg
   ·exact τ (HR.lt<|.inr ⟨k,o,p,n,j,J⟩)<|Nat.not_lt.2 hg
  have R:∀b,MO (Dv Ϙ σ h') ρ' b->MO Ϙ ρ b∨w.heap.size<=b:=by
   rintro b ⟨k,o',p,s,n,j⟩;rcases JJ s with⟨q,G,a3,a4⟩|⟨i,o,q,G,a3,a4⟩
   ·exact .inl ⟨k,o',p,a3,a4.symm.trans n,j⟩
   ·exact(g.grow b ⟨i,o,p,q,a3.symm.trans n,j⟩).imp (K8 b) id
  have pl:∀(k:U) (p:AK),ρ[k]?=Z p->ρ'[k]?=Z p:=λk p m=>by
   grind
  have ϐ:BQ (MS N Ϙ ρ) w ρ (MS N (Dv Ϙ σ h') ρ') w' ρ':=
   ⟨λb hb hm _=>g.upd.block b hb λW=>hm<|.inr<|K8 b W,λb hb=>hb.elim (λhb=>.inl<|.inl hb) λhb=>(R b hb).imp .inr id,pl⟩
  refine⟨v,rfl,⟨⟨ρ',⟨?_,λk o' hk=>?_,λk o' p b s n j=>?_,λk k' o1 o2 p1 p2 b Af s n j J q5 q6=>?_,λb hb=>⟨zAQ (HR.nlt b hb).1 g.upd.size,(HR.nlt b hb).2⟩,l.gi⟩,ud kB _ hsd u,⟨g.upd.mono λb _ hb=>K8 b hb,R⟩,pl⟩,g5⟩⟩
  ·rw[nQ,KL];simp[HR.len,l1]
  ·rcases JJ hk with⟨q,G,a3,a4⟩|⟨i,o,q,G,a3,a4⟩
   ·obtain⟨p,m,hr⟩:=HR.obj k o' a3;refine⟨p,a4.trans m,hr.out ϐ g.upd (λb hb=>.inr<|K8 b hb) λb _ hf hs=>?_⟩;exact a G a3 m hf hs
   ·obtain⟨p,m,hr⟩:=l.obj i o q
    grind[zEu]
  ·rcases JJ s with⟨q,G,a3,a4⟩|⟨i,o,q,G,a3,a4⟩
   ·have m:=a4.symm.trans n;obtain⟨Q,X,c,t,z,r⟩:=HR.cel k o' p b a3 m j;refine⟨Q,X,c,t,z,(g.upd.block b (zAM.1 r).1 λW=>?_).trans r⟩;exact a G a3 m j W
   ·obtain⟨Q,X,r⟩:=l.cel i o p b q (a3.symm.trans n) j;refine⟨Q,λhb=>?_,r⟩;rcases g.grow b ⟨i,o,p,q,a3.symm.trans n,j⟩with hg|hg
    ·obtain⟨k2,o2,p2,d1,d2,d3⟩:=K8 b hg;exact(HR.cel k2 o2 p2 b d1 d2 d3).2.1 hb
    ·exact τ (HR.nlt b hb).1<|Nat.not_lt.2 hg
  ·rcases JJ s with⟨q,G,a3,a4⟩|⟨i,o,q,G,a3,a4⟩
   ·rcases JJ n with⟨Q,X,r,c4⟩|⟨i',o',Q,X,r,c4⟩
    ·exact HR.dis k k' o1 o2 p1 p2 b Af a3 r (a4.symm.trans j) (c4.symm.trans J) q5 q6
    ·exact I G a3 (a4.symm.trans j) q5 ⟨i',o',p2,Q,r.symm.trans J,q6⟩
   ·rcases JJ n with⟨Q,X,r,c4⟩|⟨i',o',Q,X,r,c4⟩
    ·exact I X r (c4.symm.trans J) q6 ⟨i,o,p1,q,a3.symm.trans j,q5⟩
    ·refine l.dis i i' o o' p1 p2 b ?_ q Q (a3.symm.trans j) (r.symm.trans J) q5 q6
     grind
end
variable{h:DH}
theorem Oa.own{σ:Θ}{j:U}{f:E->Ξ}{x:E}{Ϝ:Ξ}{g:ζ}(hk:h[j]?=Z (Z<|.mo<|.rows f<|Z (x,Ϝ,g)))(a:σ.contains j=D):Oa h σ (.mri j 1)<|.ints Ϝ:=by
 rintro P Γ N ρ w v Ϙ ⟨p,vs,b,l,W⟩;obtain⟨p',m,u,es,Au,c⟩:=Ϙ.obj j _ hk;have:p'=p:=zAN<|m.symm.trans b;subst this;have e:#[Value.map<|Z p'.blk,u]=vs:=by have:=c.val.symm.trans l;cases this;rfl
 subst e;have s:v=u:=by simpa using W.symm
 subst s;rcases(c.inHand x Ϝ g rfl).1 with⟨rfl,rfl⟩|⟨q,cap,rfl,n,h2,r,R,h5⟩
 ·exact⟨V,0,rfl,zAf _,zMK _,λj a=>τ a<|zAR j⟩
 ·refine⟨_,cap,rfl,n,r,λi hi=>⟨q.blk,q.off,rfl,?_,?_⟩⟩
  ·rintro⟨k,o,p2,g1,t,y,K⟩;refine Ϙ.dis k j o _ p2 p' q.blk (λe=>?_) t hk y b K R.1
   grind
  grind[Ac.cell]
def fA(Ϙ:DH)(σ:Θ):O DV->O DV->Prop
 |[],[]=>True
 |d1::Fn,Ϛ::ds=>(d1=up σ (F Ϙ) Ϛ∨Oa Ϙ σ d1 Ϛ)/\fA Ϙ σ Fn ds
 |_,_=>False
theorem nJ{Ϙ:DH}{σ:Θ}:∀{Fn ds:O DV},fA Ϙ σ Fn ds->F Fn=F ds/\∀i,i<F ds->Fn.getD i .any=up σ (F Ϙ) (ds.getD i .any)∨Oa Ϙ σ (Fn.getD i .any) (ds.getD i .any)
 |[],[],_=>⟨rfl,λi hi=>τ hi<|zAR i⟩
 |d1::Fn,Ϛ::ds,⟨h1,c⟩=>by
  obtain⟨g1,g2⟩:=nJ c
  grind
 |[],_::_,h=>h.elim
 |_::_,[],h=>h.elim
def ES.embedSB{P:ν}{Γ:A2}{f:U}{ds:O DV}{Ϛ:DV}{h':DH}{ext:ζ}(W:ES P Γ f ds h Ϛ h' ext)(σ:Θ)(Ϙ:DH){Fn:O DV}(a:fA Ϙ σ Fn ds)(b:Lh σ (F Ϙ) (F h) (F h')=T)(g:(σ.map λk=>Ϙ.getD k V)=h.map (DL σ<|F Ϙ))(l:(Kq Ϛ&&h'.all Wf)=T):
 ES P Γ f Fn Ϙ (up σ (F Ϙ) Ϛ) (Dv Ϙ σ h') ext:=by
 simp only[Lh,zAK,zLV,zAP]at b;rw[zAK]at l;exact W.embedS σ Ϙ b.1.1.1 (λk hk=>b.1.1.2 k hk) b.1.2 b.2 g (nJ a).1 (nJ a).2 l.1 l.2
end
structure HX(ϖ:Fence)(P:ν):Prop where
 f:Dk ϖ P
 m:P.follows .mixedOrders=T
structure HS(c:O (DV×DH×ζ))(o:O (U×DV))(z:O (U×Fz))(v:O Prop):Prop where
 all:BX v
section
variable{P:ν}{Γ:A2}{cs:O (DV×DH×ζ)}{os:O (U×DV)}{zs:O (U×Fz)}{vs:O Prop}
def H0:HS [] [] [] []:=⟨trivial⟩
variable{p:Prop}
theorem HS.add(q:HS cs os zs vs){n:O (DV×DH×ζ)}{o':O (U×DV)}{m:O (U×Fz)}(h:p):HS n o' m<|vs++[p]:=⟨D5.2 ⟨q.all,h,trivial⟩⟩
variable{Ϛ:DV}
def HS.o(q:HS cs os zs vs)(t:U){d':DV}(x:AO Ϛ d'):HS cs (os++[(t,d')]) zs<|vs++[AO Ϛ d']:=q.add x
def HS.b(q:HS cs os zs vs)(t:U){a b:ζ}(x:a=b):HS cs (os++[(t,.bool b)]) zs<|vs++[AO (.bool a)<|.bool b]:=q.add<|AO.bool x
def HS.w(q:HS cs os zs vs)(t:U){x:E}(h:AI x):HS cs (os++[(t,.int .i64 x)]) zs<|vs++[AO (.int .i64<|IntKind.i64.wrap x)<|.int .i64 x]:=q.add<|zC0 h
def HS.g(q:HS cs os zs vs)(x:p):HS cs os zs<|vs++[p]:=q.add x
def HS.t(q:HS cs os zs vs):HS cs os zs<|vs++[True]:=q.add trivial
variable{h' h:DH}{ds:O DV}{f:U}
def HS.c(q:HS cs os zs vs){e:ζ}(x:ES P Γ f ds h Ϛ h' e):HS (cs++[(Ϛ,h',e)]) os zs<|vs++[ES P Γ f ds h Ϛ h' e]:=q.add x
def HS.q(q:HS cs os zs vs){k:U}(x:TE P Γ f ds h Ϛ h' k):HS (cs++[(Ϛ,h',D)]) os zs<|vs++[TE P Γ f ds h Ϛ h' k]:=q.add x
def HS.a(q:HS cs os zs vs)(t k m:U){n h:U}{f b:U->U->DV}(x:n=h/\∀i j,i<n->j<m->AO (f i j) (b i j)):HS cs os (zs++[(t,.arr k h b)])<|vs++[n=h/\∀i j,i<n->j<m->AO (f i j) (b i j)]:=q.add x
def HS.z(q:HS cs os zs vs)(t k:U):HS cs os (zs++[(t,.frz k)]) vs:=⟨q.all⟩
def HS.u(q:HS cs os zs vs)(t k:U):HS cs os (zs++[(t,.unf k)]) vs:=⟨q.all⟩
def HS.k(q:HS cs os zs vs)(t:U):HS cs os (zs++[(t,.rws)]) vs:=⟨q.all⟩
end
def ES.emC{P:ν}{Γ:A2}{f:U}{ds:O DV}{h:DH}{Ϛ:DV}{h':DH}{ext:ζ}(W:ES P Γ f ds h Ϛ h' ext)(σ:Θ)(Ϙ:DH)(b:Lh σ (F Ϙ) (F h) (F h')=T)(g:(σ.map λk=>Ϙ.getD k V)=h.map (DL σ<|F Ϙ)):ES P Γ f (ds.map<|up σ<|F Ϙ) Ϙ (up σ (F Ϙ) Ϛ) (Dv Ϙ σ h') ext:=
 W.embedB σ Ϙ b g rfl
def IP{α:Type}[Inhabited α](c:α->O DV)(Ϝ:O α)(n m:U)(h:∀x,(c x).all JW=T/\m=F (c x)):∀i j,i<n->j<m->JW (AM c Ϝ i j)=T:=λi j _ g=>zJp (h _).1 (h _).2 j g
def frzL:Θ->St->A (St×O Prop)
 |[],S=>Z (S,[])
 |k::s,S=>match ZR k S with
  |some (S',vs)=>match frzL s S' with
   |some (p,Y)=>Z (p,vs++Y)
   |none=>V
  |none=>V
def BB.frzL{Ϝ:U}:∀(s:Θ) {S S':St} {vs:O Prop},Proofs.YtnkpdcmbppkkpaaGreatDoor.frzL s S=Z (S',vs)->BX vs->BB Ϝ S S'
 |[],S,S',vs,h,_=>by cases h;exact BB.refl Ϝ S
 |k::s,S,S',vs,h,o=>by
  simp only[Proofs.YtnkpdcmbppkkpaaGreatDoor.frzL]at h;split at h
  ·rename_i y z a;split at h
   ·rename_i S2 Eg h2;cases h;obtain⟨r,t⟩:=D5.1 o;exact(BB.frzE k y z a r).trans<|BB.frzL s h2 t
   ·cases h
  ·cases h
abbrev je:=O Prop×O Prop×O (DV×DH×ζ)×O (U×DV)×ζ
def UG(σ:Θ)(Ϝ:U)(w:O Prop)(r:KO×St×O Prop×BT):je:=(r.2.2.1,w,r.2.2.2.calls,r.2.2.2.co,L7 σ Ϝ<|F r.2.1.h)
def PS(N σ:Θ)(Ϝ:U)(s:Θ)(r:KO×St×O Prop×BT):A<|KO×O DV×DH×je:=match frzL s (comp N σ r.2.1)with
 |some (S,w)=>Z (r.1,S.fr,S.h,UG σ Ϝ w r)
 |none=>V
def ym:KO->A Exit
 | .ret=>Z .ret
 | .at []=>Z .normal
 | .at (.code (.exit i)::k)=>C (K4 i k).isNone (Z<|.exit i) V
 |_=>V
def MN(P:ν)(N σ:Θ)(Ϝ:U)(s:Θ)(fn:Func)(Ϛ:DV)(k:U)(r:KO×St×O Prop×BT):A<|ζ×O DV×DH×je:=match frzL s (comp N σ r.2.1)with
 |some (S,w)=>match PE P S fn.results.toList with
  |some a=>Z ((match r.1 with| .ret=>T| .at []=>T|_=>D)&&(H (F S.h<=k)||(S.h.all Xu&&G5 Ϛ&&H (Ϝ<=F S.h))),a,C (F S.h<=k) S.h (HJ (θ Ϝ) S).h,UG σ Ϝ w r)
  |none=>V
 |none=>V
def mc(σ:Θ)(Ϝ:U)(r:KO×St×O Prop×BT):A Exit×DH×je:=(ym r.1,(comp [] σ r.2.1).h,UG σ Ϝ [] r)
section
variable{P:ν}{Γ:A2}{ϖ:Fence}{ϙ:A U}{Ϝ:U}{Y N:BS P Γ Ϝ}{Q:QY P Γ Ϝ}{k k':O KI}{S:St}{fr:O DV}{h' h2:DH}{c:O (DV×DH×ζ)}{o:O (U×DV)}{z:O (U×Fz)}{v w:O Prop}
def zJe{N σ s:Θ}{r:KO×St×O Prop×BT}{t:KO}(h:PS N σ Ϝ s r=Z (t,fr,h',v,w,[],[],T))(R:BX w):r.1=t/\r.2.2.1=v/\BB Ϝ r.2.1 ⟨fr,h'⟩:=by
 unfold PS at h;split at h
 ·rename_i S1 w1 g;simp only[UG,zB2,zLJ]at h;obtain⟨rfl,rfl,rfl,rfl,rfl,_,_,l⟩:=h;exact⟨rfl,rfl,(BB.comp N σ r.2.1 l).trans<|BB.frzL s g R⟩
 ·cases h
def BY.gS(t:HX ϖ P)(a:BZ)(n:U)(N σ:Θ)(tg:O<|O (U×U)×St)(g:HS c o z v)(s:Θ)(j:HS [] [] [] w)(k':O KI)(fr:O DV)(h':DH)
 (h:(Cr P Γ a n k S ⟨c,o,z,tg⟩).bind (PS N σ Ϝ s)=Z (.at k',fr,h',v,w,[],[],T)) (hc:KH k'=T) (hk:A6 P Γ ϖ ϙ Ϝ Y Q k' ⟨fr,h'⟩):A6 P Γ ϖ ϙ Ϝ Y Q k S:=by
 cases i:Cr P Γ a n k S ⟨c,o,z,tg⟩with
 |none=>rw[i]at h;cases h
 |some r=>
  obtain⟨b,l,e,o1⟩:=r;rw[i]at h;obtain⟨y,K,p⟩:=zJe (r:=(b,l,e,o1)) h j.all;have y:b=.at k':=y;have K:e=v:=K;subst y K;exact G6 t.f t.m n k S _ _ _ _ _ i g.all<|BY.le p hc hk
variable{Ϛ:DV}{fn:Func}
theorem BY.el(u:HX ϖ P)(x:BZ)(n:U)(a σ:Θ)(tg:O<|O (U×U)×St)(J:HS c o z v)(s:Θ)(K:HS [] [] [] w)(j:O DV)(G:AO (JG j) Ϛ)
 (h:(Cr P Γ x n k S ⟨c,o,z,tg⟩).bind (MN P a σ Ϝ s fn Ϛ<|F h2)=Z (T,j,h2,v,w,[],[],T)):BY P Γ ϖ ϙ Ϝ N (DD P fn Ϝ Ϛ h2) k S:=by
 cases l:Cr P Γ x n k S ⟨c,o,z,tg⟩with
 |none=>rw[l]at h;cases h
 |some r=>
  obtain⟨I,y,Q,o1⟩:=r;rw[l]at h;have h:MN P a σ Ϝ s fn Ϛ (F h2) (I,y,Q,o1)=Z (T,j,h2,v,w,[],[],T):=h;unfold MN at h;split at h
  ·rename_i p w1 R;split at h
   ·rename_i W X;simp only[UG,zB2,zLJ,zAK]at h;obtain⟨⟨q,g⟩,rfl,i,rfl,rfl,_,_,Y⟩:=h;have hS:BB Ϝ y p:=(BB.comp a σ y Y).trans<|BB.frzL s R K.all
    have b:∀e,(e=.normal∨e=.ret)->DD P fn Ϝ Ϛ h2 e y:=λe he=>by
     refine DD.le hS ⟨he,p,BB.refl _ _,W,X,?_⟩
     by_cases t:F p.h<=F h2
     ·rw[zAB t]at i;exact .inl ⟨G,i⟩
     ·rw[zAt t]at i;simp only[t,decide_false,zPE,zAK,zLV]at g;exact .inr ⟨K7 g.1.1,G,PX g.1.2,g.2,i⟩
    refine G6 u.f u.m n k S _ _ _ _ _ l J.all ?_;rcases I with(_|⟨_,_⟩)|_
    ·exact⟨rfl,b _<|.inl rfl⟩
    ·cases q
    ·exact⟨rfl,b _<|.inr rfl⟩
   ·cases h
  ·cases h
def BY.e(t:HX ϖ P)(b:BZ)(n:U)(a σ:Θ)(tg:O<|O (U×U)×St)(m:HS c o z v)(s:Θ)(g:HS [] [] [] w)
 (h:(Cr P Γ b n k S ⟨c,o,z,tg⟩).bind (λr=>(MN P a σ Ϝ s fn Ϛ (F h2) r).map λq=>(q.1,JG q.2.1,q.2.2))=Z (T,Ϛ,h2,v,w,[],[],T)):BY P Γ ϖ ϙ Ϝ N (DD P fn Ϝ Ϛ h2) k S:=by
 cases i:Cr P Γ b n k S ⟨c,o,z,tg⟩with
 |none=>rw[i]at h;cases h
 |some r=>
  rw[i]at h;have h:(MN P a σ Ϝ s fn Ϛ (F h2) r).map (λq=>(q.1,JG q.2.1,q.2.2))=Z (T,Ϛ,h2,v,w,[],[],T):=h;cases f:MN P a σ Ϝ s fn Ϛ (F h2) r with
  |none=>rw[f]at h;cases h
  |some q=>
   obtain⟨q1,j,q3⟩:=q;rw[f]at h;simp only[zMp,zB2,zLJ]at h;obtain⟨rfl,l,rfl⟩:=h;exact BY.el t b n a σ tg m s g j (AO.of_eq l) (by rw[i];exact f)
def dt(P:ν)(Ϝ:U)(s:Θ)(fn:Func)(Ϛ:DV)(k:U)(S:St):A<|ζ×O DV×DH×O Prop:=match frzL s S with
 |some (S,w)=>match PE P S fn.results.toList with
  |some a=>Z (H (F S.h<=k)||(S.h.all Xu&&G5 Ϛ&&H (Ϝ<=F S.h)),a,C (F S.h<=k) S.h (HJ (θ Ϝ) S).h,w)
  |none=>V
 |none=>V
theorem DD.el{e:Exit}(a:e=.normal∨e=.ret)(s:Θ)(b:HS [] [] [] w)(k:O DV)(o:AO (JG k) Ϛ)(h:dt P Ϝ s fn Ϛ (F h2) S=Z (T,k,h2,w)):DD P fn Ϝ Ϛ h2 e S:=by
 unfold dt at h;split at h
 ·rename_i c w1 i;split at h
  ·rename_i j l;simp only[zB2,zLJ]at h;obtain⟨f,rfl,g,rfl⟩:=h;refine DD.le (BB.frzL s i b.all) ⟨a,c,BB.refl _ _,j,l,?_⟩
   by_cases p:F c.h<=F h2
   ·rw[zAB p]at g;exact .inl ⟨o,g⟩
   ·rw[zAt p]at g;simp only[p,decide_false,zPE,zAK,zLV]at f;exact .inr ⟨K7 f.1.1,o,PX f.1.2,f.2,g⟩
  ·cases h
 ·cases h
theorem DD.e{e:Exit}(he:e=.normal∨e=.ret)(s:Θ)(hz:HS [] [] [] w)(h:(dt P Ϝ s fn Ϛ (F h2) S).map (λq=>(q.1,JG q.2.1,q.2.2))=Z (T,Ϛ,h2,w)):DD P fn Ϝ Ϛ h2 e S:=by
 cases f:dt P Ϝ s fn Ϛ (F h2) S with
 |none=>rw[f]at h;cases h
 |some q=>
  obtain⟨q1,rs,q3⟩:=q;rw[f]at h;simp only[zMp,zB2,zLJ]at h;obtain⟨rfl,hd,rfl⟩:=h
  grind[DD.el,AO.of_eq]
def BY.r(t:HX ϖ P){q:O Exit}{i:U}{e:Exit}(g:BZ)(n:U)(σ:Θ)(tg:O<|O (U×U)×St)(j:HS c o z v)(l:(Exit.normal::q)[i]?=Z e)
 (h:(Cr P Γ g n k S ⟨c,o,z,tg⟩).map (mc σ Ϝ)=Z (Z e,h2,v,[],[],[],T)):BY P Γ ϖ ϙ Ϝ N (C3 Ϝ q i h2) k S:=by
 cases b:Cr P Γ g n k S ⟨c,o,z,tg⟩with
 |none=>rw[b]at h;cases h
 |some r=>
  obtain⟨r1,y,v1,o1⟩:=r;rw[b]at h;simp only[zMp,mc,UG,zB2,zLJ]at h;obtain⟨hk,p,rfl,_,_,_,s⟩:=h;have a:stay N (C3 Ϝ q i h2) e y N:=⟨rfl,l,_,BB.comp [] σ y s,p⟩;refine G6 t.f t.m n k S _ _ _ _ _ b j.all ?_;unfold ym at hk;split at hk
  ·cases hk;exact a
  ·cases hk;exact a
  ·rename_i i' k';split at hk
   ·rename_i u;cases hk;exact Tr.exit<|VO a k'<|Option.isNone_iff_eq_none.1 u
   ·cases hk
  ·cases hk
def Hq.g(t:HX ϖ P){Q:Exit->St->Prop}{W j:Code}(b:BZ)(n:U)(a σ:Θ)(e:HS c o z v)(fr:O DV)(h':DH)
 (h:(Cr P Γ b n [.code W] S ⟨c,o,z,[]⟩).map (Xl a σ Ϝ)=Z (.at [],fr,h',v,[],[],T)) (hk:∀J:BS P Γ Ϝ,BY P Γ ϖ ϙ Ϝ J Q [.code j] ⟨fr,h'⟩):Hq P Γ ϖ ϙ Ϝ N Q W j S:=
 Hq.go t.f t.m b n _ a σ fr h' v h e.all hk
end
section
variable{P:ν}{Γ:A2}{Ϝ:U}{k:O KI}{S:St}{c:O (DV×DH×ζ)}{o:O (U×DV)}{z:O (U×Fz)}{v:O Prop}
variable{ϛ:Bw P}
def TrI.e{Y:BS P Γ Ϝ}(t:HX η P)(a:BZ)(n:U)(g:HS c o z v)
 (h:(Cr P Γ a n k S ⟨c,o,z,[]⟩).map (λr=>((match r.1 with| .ret=>T| .at []=>T|_=>D),r.2.2.1))=Z (T,v)) (b:Y=ϛ.Y Γ Ϝ (F ϛ.encs)∨Y=ϛ.X Γ Ϝ):A6 P Γ η V Ϝ Y (ϛ.Q Γ Ϝ) k S:=by
 cases i:Cr P Γ a n k S ⟨c,o,z,[]⟩with
 |none=>rw[i]at h;cases h
 |some r=>
  obtain⟨j,S1,DE,o1⟩:=r;rw[i]at h;simp only[zMp,zB2,zLJ]at h;obtain⟨l,rfl⟩:=h;refine G6 t.f t.m n k S _ _ _ _ _ i g.all ?_;rcases j with(_|⟨_,_⟩)|_
  ·exact⟨.inl rfl,b⟩
  ·cases l
  ·exact⟨.inr rfl,b⟩
variable{x:O DV}{ops:υ Oper}{K:O KI}{i:U}
def A6.y{Q:QY P Γ Ϝ}(t:HX η P)(p:U)(N σ:Θ)(m:HS c o z v)(a:O DV)(b:DH)(G:O DV)(s:DH)
 (e:Kx K=Z (ops,D6 K)) (g:Ca ops=T) (h:(Qj P Γ ops p S ⟨c,o,z,[]⟩).map (ma N σ Ϝ)=Z (x,ϛ.l,a,b,G,s,v,T)) (j:ϛ.encs[i]?=Z x) (hc:KH (D6 K)=T) (k:A6 P Γ η V Ϝ (ϛ.Y Γ Ϝ<|i+1) Q (D6 K) ⟨a,b⟩) (n:A6 P Γ η V Ϝ (ϛ.X Γ Ϝ) Q (D6 K) ⟨G,s⟩):A6 P Γ η V Ϝ (ϛ.Y Γ Ϝ i) Q K S:=
 A6.yieldAt t.f e g p _ N σ a b G s v h m.all j hc k n
def A6.yE(t:HX η P)(p:U)(m:HS c o z v)(a:Kx K=Z (ops,[]))(e:Ca ops=T)
 (h:(Qj P Γ ops p S ⟨c,o,z,[]⟩).map (λr=>(r.1,r.2.1,r.2.2.2.2))=Z (x,ϛ.l,v)) (g:ϛ.encs[i]?=Z x) (j:i+1=F ϛ.encs):A6 P Γ η V Ϝ (ϛ.Y Γ Ϝ i) (ϛ.Q Γ Ϝ) K S:=by
 unfold Kx at a;split at a
 ·cases a;cases b:Qj P Γ ops p S ⟨c,o,z,[]⟩with
  |none=>rw[b]at h;cases h
  |some r=>
   obtain⟨xs,l,ST,SF,DE⟩:=r;rw[b]at h;simp only[zMp,zB2,zLJ]at h;obtain⟨rfl,rfl,rfl⟩:=h;exact Tr.yield t.f e b m.all g ⟨.inl rfl,.inl<|by rw[j]⟩ ⟨.inl rfl,.inr rfl⟩
 ·cases a
end
section
variable{P:ν}{Γ:A2}{ϖ:Fence}{ϙ Ϝ:U}{Y:BS P Γ Ϝ}{Q:QY P Γ Ϝ}{fr:O DV}{h:DH}{K:O KI}{a b:Code}{α σ:Type}{l:O α}{Ϙ:σ->DH}{FR:α->O DV}
variable{c:σ}
def BY.rg(j:ϖ=η∨∃l,ϖ=Fence.wide.inRound l)(q:O Exit)(g:(q.all λe=>(Lg e).isSome)=T)(z t:U)(W:υ Tmp)(enc:α->O DV)(L':U){f:α->σ->A (σ×U)}{rE:σ×U}(i:C7 f l c=Z rE)
 (k:∀(l ϙ:U) (N:BS P Γ L') (x:α) (s:σ) (r:σ×U),f x s=Z r->Hq P Γ (Fence.wide.inRound l) (Z ϙ) L' N (C3 L' q r.2<|Ϙ r.1) a b ⟨FR x,Ϙ s⟩)
 (S:RC K=Z (.tmp t,W,a,b,D6 K)) (m:Ak fr (.tmp t)=.it z) (hk:h[z]?=Z (Z<|.iter<|l.map enc)) (n:∀x,F (enc x)=W.size) (J:Nat.ble Ϝ L'=T) (o:fr.all (CS L')=T) (h0:h.set z V=Ϙ c) (p:(λx=>JL fr W.toList<|enc x)=FR)
 (u:∀e,(Exit.normal::q)[rE.2]?=Z e->BN P Γ ϖ (Z ϙ) Ϝ Q (D6 K) e ⟨fr,Ϙ rE.1⟩ Y):A6 P Γ ϖ (Z ϙ) Ϝ Y Q K ⟨fr,h⟩:=
 BY.rangeAt j q g (.tmp t) W a b (D6 K) enc l Ϙ FR f i S m hk n L' J o h0 p k u
def BY.rg0(j:ϖ=η∨∃l,ϖ=Fence.wide.inRound l)(z t:U)(W:υ Tmp)(enc:α->O DV)(L':U){f:α->σ->A σ}{m:σ}(g:CC f l c=Z m)
 (e:∀(l ϙ:U) (N:BS P Γ L') (x:α) (s r:σ),f x s=Z r->Hq P Γ (Fence.wide.inRound l) (Z ϙ) L' N (C3 L' [] 0<|Ϙ r) a b ⟨FR x,Ϙ s⟩)
 (S:RC K=Z (.tmp t,W,a,b,D6 K)) (i:Ak fr (.tmp t)=.it z) (hk:h[z]?=Z (Z<|.iter<|l.map enc)) (k:∀x,F (enc x)=W.size) (J:Nat.ble Ϝ L'=T) (n:fr.all (CS L')=T) (h0:h.set z V=Ϙ c) (o:(λx=>JL fr W.toList<|enc x)=FR)
 (p:A6 P Γ ϖ (Z ϙ) Ϝ Y Q (D6 K) ⟨fr,Ϙ m⟩):A6 P Γ ϖ (Z ϙ) Ϝ Y Q K ⟨fr,h⟩:=
 BY.rangeAt0 j (.tmp t) W a b (D6 K) enc l Ϙ FR f g S i hk k L' J n h0 o e p
end
abbrev zSI:=@List.filter_cons
abbrev zTf:=@List.filter_sublist
section
abbrev LK:=U×υ MapEntry×U
variable{i:U}
def zK0 :YH V i:=λ_ h=>by cases h
def zKz{j:U}{g:LK}(h:i≠j):YH (Z (i,g)) j:=λy e=>by cases e;exact h
def JX{R:Type}[DecidableEq R](k:KS)(a:A R)(f:Ξ->A R):A R:=match k with
 |[]=>a
 |x::r=>match f x with
  |none=>V
  |some v=>C (r.all λy=>decide (f y=Z v)) (Z v) V
variable{k:KS}{R:Type}
theorem eB[DecidableEq R]  {a:A R}{f:Ξ->A R}{r:R}(h:JX k a f=Z r):(k= []->a=Z r)/\∀y∈k,f y=Z r:=by
 cases k with
 |nil=>exact⟨λ_=>h,λy hy=>τ hy zQF⟩
 |cons x l=>
  refine⟨λe=>τ e<|List.cons_ne_nil x l,?_⟩;unfold JX at h
  grind
def zJr[DecidableEq R]{a:A R}{f:Ξ->A R}:JX [] a f=a:=rfl
theorem zJq[DecidableEq R]  {a:A R}{f:Ξ->A R}{r:R}(s:k≠[])(h:∀y∈k,f y=Z r):JX k a f=Z r:=by
 cases k with
 |nil=>exact τ rfl s
 |cons x l=>
  simp_all[JX]
theorem zHK{P:ν}{w:κ}{r S W a c:U}{seen:υ U}{es:υ MapEntry}(i:w.heap[r]?=Z (.mapIter (Z S) W seen a))(h:w.heap[S]?=Z (.map es c))(N:∀x∈es.toList,x.born<W)(q:W<=a)(ty:ψ):
 ((leftOf es seen).size=0/\(Instr.next (.pointer<|Z ⟨r,0,V⟩) D ty).run P w=.ok (.tuple #[.bool D]) w)∨
 ∃e∈(leftOf es seen).toList,∃w1:κ,(w1=w∨w1=w.drew)/\(Instr.next (.pointer<|Z ⟨r,0,V⟩) D ty).run P w=.ok (.tuple #[.bool T,e.key,e.val]) { w1 with heap:=w1.heap.setIfInBounds r (.mapIter (Z S) W (seen.push e.born) c) }:=by
 simp only[Instr.next,getObj,zLX,Sem.run,i,h,Result.andThen,next_test_false seen es W a N q,zMe,zTQ];unfold leftOf;have p:∀x∈(Array.filter (λe=>!seen.contains e.born) es).toList,x.born<W:=λx b=>N x (by simp at b⊢;exact b.1)
 generalize Array.filter (λe=>!seen.contains e.born) es=Ϝ at p⊢
 have y:Ϝ.filter (λx=>decide (x.born<W))=Ϝ:=Array.filter_eq_self.2 (λx b=>by simpa using p x (by simpa using b))
 have K:Ϝ.filter (λx=>decide (x.born>=W))= #[]:=by
  simp_all
 simp only[y,K,Array.append_empty]
 by_cases h0:Ϝ.size=0
 ·simp_all[Question.forced]
 ·right;have k:Ϝ.isEmpty=D:=by simp[Array.isEmpty,h0]
  simp only[k,zMe,zTQ,Array.empty_append,Array.size_map]
  have l:∃(j:U) (w1:κ),j<Ϝ.size/\(w1=w∨w1=w.drew)/\(choose<|Question.mapNext Ϝ.size).run P w=.ok j w1:=by
   by_cases g:Ϝ.size<=1
   ·exact⟨0,w,Z2,.inl rfl,by simp[choose,Sem.run,Question.forced,g]⟩
   ·exact⟨_,w.drew,Nat.mod_lt _ Z2,.inr rfl,by
     simp only[choose,Sem.run,Question.forced,zLV,g,zTQ,Question.cut];rfl⟩
  obtain⟨j,w1,hj,f,Je⟩:=l;have SB:w1.heap[r]?=Z (.mapIter (Z S) W seen a):=by rcases f with rfl|rfl <;> exact i
  refine⟨Ϝ[j],Z3,w1,f,?_⟩
  simp_all[setObj,Sem.run]
section
variable{P:ν}{Γ:A2}{N:Ψ}{S:St}{ρ:O AK}{a:Act}{w:κ}{ϖ:Fence}{ϙ:A U}{Ϝ:U}{Y:BS P Γ Ϝ}{Q:QY P Γ Ϝ}
variable{p:AK}
def AS.setMo(R:AS P Γ N S ρ a w){k:U}{x x':MX}(hk:S.h[k]?=Z (Z<|.mo x))(c:ρ[k]?=Z p)(z:Qc w p x')(hc:∀b,p.foot b->EZ w b):
 AS P Γ N ⟨S.fr,S.h.set k<|Z<|.mo x'⟩ ρ a w/\A8 S.h ρ w (S.h.set k<|Z<|.mo x') ρ w:=
 ⟨⟨R.hr.write hk c (AR.refl _ _) hc z,R.fr.out<|BQ.write trivial hk c (AR.refl p.foot w)⟩,A8.write hk c<|AR.refl _ _⟩
variable{vs:υ μ}{q:O (A KS)}{n:U}
theorem Gp.relock(a:Gp w p n q V vs){i:U}(hi:(q.getD i V).isSome=T):∃g:LK,Gp w p n q (Z (i,g)) vs:=by
 obtain⟨c,g1,g2,g3,es,f,g4,_⟩:=a.has i _<|ZM hi;refine⟨(c,es,f),{ a with has:=λj l m=>?_ }⟩
 by_cases e:j=i
 ·grind
 ·obtain⟨b,k1,k2,k3,M4,c1,k4,_⟩:=a.has j l m
  grind
def Gp.unlock{f:A (U×LK)}(a:Gp w p n q f vs):Gp w p n q V vs:=
 { a with has:=λj l m=>let⟨b,I,K,R,X,r,Q,_⟩:=a.has j l m;⟨b,I,K,R,X,r,Q,λx e=>by cases e⟩ }
variable{j:U}
def Tr.lock{c:Code}{i:U}(hk:S.h[j]?=Z (Z<|.mo<|.sets n q V))(hi:(q.getD i V).isSome=T)(Ϙ:∀g:LK,Tr P Γ ϖ ϙ Ϝ Y c ⟨S.fr,S.h.set j<|Z<|.mo<|.sets n q<|Z (i,g)⟩ Q):Tr P Γ ϖ ϙ Ϝ Y c S Q:=λN ρ a w R y m b=>by
 obtain⟨p,f,vs,e⟩:=R.hr.obj j _ hk;obtain⟨g,k⟩:=e.relock hi;obtain⟨R',st⟩:=R.setMo hk f (x':=.sets n q<|Z (i,g)) ⟨vs,k⟩ λb l=>e.lies l
 exact Ϙ g N ρ a w R' (Y.st y R.hr R'.hr st<|Bm.refl _ _) m b
def zA:O KI->ζ
 | .code _::_=>T
 |_=>D
variable{h:DH}{fr:O DV}{K:O KI}
def BY.lock(j i n:U)(hk:h[j]?=Z (Z<|.mo<|.sets n q V))(hi:(q.getD i V).isSome=T)(a:zA K=T)(h':LK->DH)(b:h'=λg=>h.set j<|Z<|.mo<|.sets n q<|Z (i,g))(Ϙ:∀g:LK,A6 P Γ ϖ ϙ Ϝ Y Q K ⟨fr,h' g⟩):A6 P Γ ϖ ϙ Ϝ Y Q K ⟨fr,h⟩:=by
 subst b;unfold zA at a;split at a
 ·exact Tr.lock (S:=⟨fr,h⟩) hk hi Ϙ
 ·cases a
variable{GQ:A Ξ}{g:LK}{m:U}
theorem zKI(R:AS P Γ N S ρ a w){n' i:U}{K:O (A KS)}{c:KS}(hm:S.h[m]?=Z (Z<|.mo<|.mit n g.1 g.2.1 g.2.2 c GQ))(hj:S.h[j]?=Z (Z<|.mo<|.sets n' K<|Z (i,g)))(hi:(K.getD i V).isSome=T){v:μ}(hv:AJ (MS N S.h ρ) w (.it m) ρ v)(ty:ψ):
 (c= []/\(Instr.next v D ty).run P w=.ok (.tuple #[.bool D]) w)∨∃y∈c,∃(k u:μ) (w':κ) (p:AK),(Instr.next v D ty).run P w=.ok (.tuple #[.bool T,k,u]) w'/\ρ[m]?=Z p/\AR p.foot w w'/\Qc w' p (.mit n g.1 g.2.1 g.2.2 (c.erase y)<|Z y)/\∀b,p.foot b->EZ w' b:=by
 obtain⟨p,W,rfl⟩:=hv;obtain⟨p',BO,h0,X,s,seen,t,z,h5⟩:=R.hr.obj m _ hm;have:p'=p:=zAN<|BO.symm.trans W;subst this;obtain⟨q,hq,vs,hS⟩:=R.hr.obj j _ hj;obtain⟨b,k1,k2,k3,M4,qp,Q,Y⟩:=hS.has i _<|ZM hi;have Y:=Y _ rfl rfl;obtain⟨o,es,f⟩:=g
 have e3:o=b/\es=M4/\f=qp:=by
  grind
 obtain⟨rfl,rfl,rfl⟩:=e3;simp only at t z h5;rw[X];have P0:∀x∈es.toList,x.born<f:=Q.born;rcases zHK (P:=P) t Q.blk P0 (zAf _) ty with⟨e1,e2⟩|⟨e,r,w1,fq,e2⟩
 ·simp_all
 ·have G:e.key∈c.map Bp:=z.mem_iff.1<|zMa.2 ⟨e,r,rfl⟩;obtain⟨y,hy,hye⟩:=zMa.1 G;have hes:e∈es.toList:=by simp[leftOf]at r⊢;exact r.1
  have hrlt:p'.blk<w.heap.size:=(zAM.1 t).1;have hw1h:w1.heap=w.heap:=by rcases fq with rfl|rfl <;> rfl
  have hU:AR p'.foot w { w1 with heap:=w1.heap.setIfInBounds p'.blk (.mapIter (Z o) f (seen.push e.born) f) }:=by
   rw[s]
   have u1:AR (λk=>k=p'.blk) w w1:=by
    rcases fq with rfl|rfl
    ·exact AR.refl _ _
    ·exact AR.ofExt<|A9.toDrew w
   exact u1.trans<|WH _
  have KV:({ w1 with heap:=w1.heap.setIfInBounds p'.blk (.mapIter (Z o) f (seen.push e.born) f) }:κ).heap[p'.blk]?=Z (.mapIter (Z o) f (seen.push e.born) f):=by
   grind
  refine .inr ⟨y,hy,e.key,e.val,_,p',e2,W,hU,⟨λx I=>?_,X,s,seen.push e.born,KV,?_,λx I=>?_⟩,λb hb=>?_⟩
  ·grind
  ·have hl:leftOf es (seen.push e.born)=(leftOf es seen).filter λx=>x.born != e.born:=by
    grind[leftOf,Array.filter_filter]
   have A1:((leftOf es seen).toList.map (·.born)).Nodup:=by
    have:((leftOf es seen).toList.map (·.born)).Sublist (es.toList.map (·.born)):=by
     unfold leftOf;rw[Array.toList_filter];exact zTf.map _
    exact this.nodup Q.stamps
   have J:∀(l:O MapEntry),(l.map (·.born)).Nodup->e∈l->(l.map (·.key)).Perm (e.key::((l.filter λx=>x.born != e.born).map (·.key))):=by
    intro l
    induction l with
    |nil=>intro _ h;cases h
    |cons x l ih=>
     intro hn I;rw[zOq,zUH]at hn
     by_cases zP:x=e
     ·subst zP
      have:(l.filter λy=>y.born != x.born)=l:=List.filter_eq_self.2 λy hy=>by
       grind
      simp[this]
     ·have gP:e∈l:=(zMk.1 I).resolve_left λh=>zP h.symm
      have Af:(x.born != e.born)=T:=by
       grind
      rw[zSI,zAB Af,zOq,zOq];exact((ih hn.2 gP).cons x.key).trans<|List.Perm.swap e.key x.key _
   have P1:=J _ A1 r;rw[hl,Array.toList_filter];have P2:(c.map Bp).Perm<|Bp y::(c.erase y).map Bp:=(List.perm_cons_erase hy).map Bp;have P3:=P1.symm.trans<|z.trans P2
   simp_all
  ·grind
  ·rw[s]at hb;exact⟨_,rfl,(),by rw[show b=p'.blk from hb];exact KV⟩
variable{ops:υ Oper}
theorem Tr.next(J:Dk ϖ P){id:U}(A1:Ca ops=T){o:Oper}{rest:O Oper}(Yf:ops.toList=o::rest){x:Operand}(W:o.op=.next x D)(hw:Ly ops S o=Z T){K i:U}{r:O (A KS)}{f:KS}(hx:Ak S.fr x=.it m)(z:S.h[m]?=Z (Z<|.mo<|.mit n g.1 g.2.1 g.2.2 f GQ))(hj:S.h[j]?=Z (Z<|.mo<|.sets K r<|Z (i,g)))(zp:m≠j)(hi:(r.getD i V).isSome=T)
 (h0:f= []->∃S' vs o0 o',EL P Γ ops rest ⟨Cq S.fr o.dst<|.tup 1<|L1 [.bool D],(S.h.set j<|Z<|.mo<|.sets K r V).set m V⟩ o0=Z (S',vs,o')/\BX vs/\Q .normal S' Y)
 (h1:∀y∈f,∃S' vs o0 o',EL P Γ ops rest ⟨Cq S.fr o.dst<|.tup 3<|L1 [.bool T],S.h.set m<|Z<|.mo<|.mit n g.1 g.2.1 g.2.2 (f.erase y)<|Z y⟩ o0=Z (S',vs,o')/\BX vs/\Q .normal S' Y):Tr P Γ ϖ ϙ Ϝ Y (.region id ops D) S Q:=λN ρ a w R y mk b=>by
 refine zON ?_;rw[Yf];have hd:∀c,o.op≠.defer c:=λc e=>by rw[W]at e;cases e
 have GP:∀o'∈rest,o'∈ops:=λo' Ux=>by
  grind
 have Cu:∀v,(a.put o.dst v).defers=a.defers:=λv=>by cases W:o.dst <;> simp[Act.put]
 have rx:=Be R x;rw[hx]at rx;unfold wpListIn;rw[zAB<|H9 R hw];have LR:ω a.eval o=(do pure (.value (←Instr.next (a.eval x) D o.type))):=by unfold ω;rw[W]
 have AY:m<F S.h:=(zDh.1 z).1;rcases zKI R z hj hi rx o.type with⟨e1,e2⟩|⟨t,hky,k,u,w',p,e2,l,hU,hO,hC⟩
 ·obtain⟨S',vs,o0,o',g1,g2,g3⟩:=h0 e1;obtain⟨q,hq,vsj,hS⟩:=R.hr.obj j _ hj;obtain⟨X,BV⟩:=R.setMo hj hq (x':=.sets K r V) ⟨vsj,hS.unlock⟩ λb hb=>hS.lies hb
  have R2:AS P Γ N ⟨S.fr,(S.h.set j<|Z<|.mo<|.sets K r V).set m V⟩ ρ a w:=⟨X.hr.kill m,X.fr.out<|BQ.kill m⟩
  have R3:=Gw R2 o.dst (Ϛ:=.tup 1<|L1 [.bool D]) (v:=.tuple #[.bool D]) ⟨#[.bool D],rfl,rfl,λjj gK=>by
   have:jj=0:=Z2
   subst this;exact⟨_,rfl,rfl⟩⟩
  refine M7 J hd (G:=λv I=>v=.tuple #[.bool D]/\I=w) (BP.value (s:=Instr.next (a.eval x) D o.type) LR e2 ⟨rfl,rfl⟩) λv I ⟨hv,n9⟩=>?_
  subst hv n9;refine Mv J A1 rest GP R3 g1 g2 λρ' a' w3 R' st Du=>?_
  exact Tr.done R y mk b g3 R' ((BV.trans<|A8.kill m).trans st.st) (λk p _ l=>st.pl k p l)<|Du.trans<|Cu _
 ·obtain⟨S',vs,o0,o',g1,g2,g3⟩:=h1 t hky;have BV:=A8.write (h:=S.h) (o':=.mo<|.mit n g.1 g.2.1 g.2.2 (f.erase t)<|Z t) z l hU;have X:AS P Γ N ⟨S.fr,S.h.set m<|Z<|.mo<|.mit n g.1 g.2.1 g.2.2 (f.erase t)<|Z t⟩ ρ a w':=⟨R.hr.write z l hU hC hO,R.fr.out<|BQ.write trivial z l hU⟩
  have R3:=Gw X o.dst (Ϛ:=.tup 3<|L1 [.bool T]) (v:=.tuple #[.bool T,k,u]) ⟨#[.bool T,k,u],rfl,rfl,λjj gK=>by
   match jj,gK with
   |0,_=>exact⟨_,rfl,rfl⟩
   |1,_=>exact⟨_,rfl,trivial⟩
   |2,_=>exact⟨_,rfl,trivial⟩⟩
  refine M7 J hd (G:=λv I=>v=.tuple #[.bool T,k,u]/\I=w') (BP.value (s:=Instr.next (a.eval x) D o.type) LR e2 ⟨rfl,rfl⟩) λv I ⟨hv,n9⟩=>?_
  subst hv n9;refine Mv J A1 rest GP R3 g1 g2 λρ' a' w3 R' st Du=>?_
  exact Tr.done R y mk b g3 R' (BV.trans st.st) (λk p _ l=>st.pl k p l)<|Du.trans<|Cu _
def mn(ops:υ Oper):Operand:=match ops.toList with
 |o::_=>match o.op with
  | .next x _=>x
  |_=>.tmp 0
 |[]=>.tmp 0
def eE(ops:υ Oper):A Tmp:=match ops.toList with
 |o::_=>o.dst
 |[]=>V
def RN(ops:υ Oper):O Oper:=ops.toList.tail
def mr(ops:υ Oper):ζ:=match ops.toList with
 |o::_=>match o.op with
  | .next _ D=>o.guard.isNone&&Ca ops
  |_=>D
 |[]=>D
theorem zJy(h:mr ops=T):Ca ops=T/\∃o,ops.toList=o::RN ops/\o.op=.next (mn ops) D/\o.guard=V/\o.dst=eE ops:=by
 unfold mr at h;unfold mn eE RN;split at h
 ·rename_i o rest R;rw[R];split at h
  ·simp_all
  ·cases h
 ·cases h
def dy(N σ:Θ)(Ϝ:U)(r:St×O Prop×BT):O DV×DH×O Prop×ζ:=((comp N σ r.1).fr,(comp N σ r.1).h,r.2.1,L7 σ Ϝ<|F r.1.h)
def A6.nx(v:HX ϖ P)(b:Kx K=Z (ops,D6 K))(w:mr ops=T)(m j i n:U)(q:O<|A KS)(g:LK)(k:KS)(x:A Ξ)(N σ:Θ)(a:O DV)(h0:DH)(σ1:Θ)(l:Ξ->O DV)(p:Ξ->DH)
 (G:Ak fr (mn ops)=.it m) (I:h[m]?=Z (Z<|.mo<|.mit n g.1 g.2.1 g.2.2 k x)) (J:h[j]?=Z (Z<|.mo<|.sets n q<|Z (i,g))) (X:m≠j) (hi:(q.getD i V).isSome=T) (hc:KH (D6 K)=T)
 (R:(EL P Γ ops (RN ops) ⟨Cq fr (eE ops)<|.tup 1<|L1 [.bool D],(h.set j<|Z<|.mo<|.sets n q V).set m V⟩ ⟨[],[],[],[]⟩).map (dy N σ Ϝ)=Z (a,h0,[],T))
 (W:∀y,(EL P Γ ops (RN ops) ⟨Cq fr (eE ops)<|.tup 3<|L1 [.bool T],h.set m<|Z<|.mo<|.mit n g.1 g.2.1 g.2.2 (k.erase y)<|Z y⟩ ⟨[],[],[],[]⟩).map (dy N σ1 Ϝ)=Z (l y,p y,[],T))
 (k0:k= []->A6 P Γ ϖ ϙ Ϝ Y Q (D6 K) ⟨a,h0⟩) (k1:∀y∈k,A6 P Γ ϖ ϙ Ϝ Y Q (D6 K) ⟨l y,p y⟩):A6 P Γ ϖ ϙ Ϝ Y Q K ⟨fr,h⟩:=by
 have s:∀{S:St} {N σ:Θ} {fr':O DV} {h':DH},(EL P Γ ops (RN ops) S ⟨[],[],[],[]⟩).map (dy N σ Ϝ)=Z (fr',h',[],T)->A6 P Γ ϖ ϙ Ϝ Y Q (D6 K) ⟨fr',h'⟩->∃S' vs o0 o',EL P Γ ops (RN ops) S o0=Z (S',vs,o')/\BX vs/\A6 P Γ ϖ ϙ Ϝ Y Q (D6 K) S':=by
  intro S N σ fr' h' z hk;cases c:EL P Γ ops (RN ops) S ⟨[],[],[],[]⟩with
  |none=>rw[c]at z;cases z
  |some r=>
   obtain⟨t,v1,o1⟩:=r;rw[c]at z;simp only[zMp,dy,zB2,zLJ]at z;obtain⟨rfl,rfl,rfl,hs⟩:=z;exact⟨t,_,_,_,c,trivial,BY.le (BB.comp N σ t hs) hc hk⟩
 unfold Kx at b;split at b
 ·rename_i id PT k';have e:=zAN b;simp only[D6,zLJ,and_true]at e;subst e;obtain⟨A1,o,q1,q2,q3,u⟩:=zJy w;exact Tr.next (S:=⟨fr,h⟩) v.f A1 q1 q2 (by unfold Ly;rw[q3]) G I J X hi (λe=>by rw[u];exact s R<|k0 e) (λy hy=>by rw[u];exact s (W y)<|k1 y hy)
 ·cases b
end
end
abbrev zAD:=@Option.bind_some
abbrev zBy:=@Nat.lt_succ_iff_lt_or_eq
abbrev zMO:=@List.mem_cons_of_mem
abbrev zMY:=@List.mem_cons_self
def Aw{R:Type}(f:U->A R)(Q:R->Prop):Prop:=∃N,∀n,N<=n->∃r,f n=Z r/\Q r
def Ev{R:Type}(f:U->A R)(r:R):Prop:=∃N,∀n,N<=n->f n=Z r
section
variable{R ϒ:Type}{f g:U->A R}{Q Q':R->Prop}{r:R}
def Ev.p(h:Ev f r)(a:Q r):Aw f Q:=let⟨N,h⟩:=h;⟨N,λn s=>⟨r,h n s,a⟩⟩
theorem Aw.ev(h:Aw f Q)(hu:∀r R,Q r->Q R->r=R):∃r,Q r/\Ev f r:=by
 obtain⟨N,h⟩:=h;obtain⟨r,h1,c⟩:=h N<|zAf _;refine⟨r,c,N,λn hn=>?_⟩
 grind
theorem Aw.mono(h:Aw f Q)(a:∀r,Q r->Q' r):Aw f Q':=let⟨N,h⟩:=h;⟨N,λn s=>let⟨r,b,c⟩:=h n s;⟨r,b,a r c⟩⟩
theorem Aw.step(k:U)(h:∀n,f (n+k)=g n)(s:Aw g Q):Aw f Q:=by
 obtain⟨N,s⟩:=s;refine⟨N+k,λn hn=>?_⟩;have:=s (n-k) Z2
 grind
theorem Ev.step(k:U)(h:∀n,f (n+k)=g n)(s:Ev g r):Ev f r:=by
 obtain⟨N,s⟩:=s;refine⟨N+k,λn hn=>?_⟩;have:=s (n-k) Z2
 grind
def Ev.now(h:∀n,f n=Z r):Ev f r:=⟨0,λn _=>h n⟩
def Ev.from(N:U)(h:∀n,N<=n->f n=Z r):Ev f r:=⟨N,h⟩
def Ev.eq{f g:U->A R}(h:Ev g r)(e:∀n,f n=g n):Ev f r:=let⟨N,h⟩:=h;⟨N,λn s=>(e n).trans<|h n s⟩
def Aw.eq{f g:U->A R}(h:Aw g Q)(e:∀n,f n=g n):Aw f Q:=let⟨N,h⟩:=h;⟨N,λn s=>by rw[e];exact h n s⟩
variable{b:U->ϒ->A R}{x:ϒ}{a:U->A ϒ}
theorem Ev.bind(P:Ev a x)(c:Ev (λn=>b n x) r):Ev (λn=>(a n).bind<|b n) r:=by
 obtain⟨N,P⟩:=P;obtain⟨ϗ,c⟩:=c;refine⟨max N ϗ,λn hn=>?_⟩
 grind
def Aw.bind(P:Ev a x)(c:Aw (λn=>b n x) Q):Aw (λn=>(a n).bind<|b n) Q:=by
 obtain⟨N,P⟩:=P;obtain⟨ϗ,c⟩:=c;refine⟨max N ϗ,λn hn=>?_⟩
 show∃r,(a n).bind (b n)=Z r/\_
 rw[P n Z2,zAD];exact c n Z2
theorem Aw.all{l:O ϒ}{ϖ:ϒ->U->A R}(h:∀y∈l,Aw (ϖ y) Q):∃N,∀n,N<=n->∀y∈l,∃r,ϖ y n=Z r/\Q r:=by
 induction l with
 |nil=>simp_all
 |cons x l a=>
  obtain⟨N,I⟩:=a λy hy=>h y<|zMO _ hy
  obtain⟨ϗ,b⟩:=h x zMY;refine⟨max N ϗ,λn hn y hy=>?_⟩;rcases zMk.1 hy with rfl|hy
  ·exact b n Z2
  ·exact I n Z2 y hy
def Aw.range{ϖ:U->U->A R}{ϕ:U->R->Prop}:∀(k:U),(∀i,i<k->Aw (ϖ i) (ϕ i))->∃N,∀n,N<=n->∀i,i<k->∃r,ϖ i n=Z r/\ϕ i r
 |0,_=>⟨0,λn _ i hi=>τ hi<|zAR i⟩
 |k+1,h=>by
  obtain⟨N,I⟩:=Aw.range k λi hi=>h i Z2
  obtain⟨ϗ,l⟩:=h k Z2;refine⟨max N ϗ,λn hn i hi=>?_⟩;rcases zBy.1 hi with hi|rfl
  ·exact I n Z2 i hi
  ·exact l n Z2
theorem Aw.next[DecidableEq R]{k:KS}{a:U->A R}{ϖ:U->Ξ->A R}(s:k≠[])(h:∀y∈k,Aw (λn=>ϖ n y) Q)(hu:∀r b,Q r->Q b->r=b):Aw (λn=>JX k (a n)<|ϖ n) Q:=by
 obtain⟨N,hN⟩:=Aw.all h;refine⟨N,λn Uy=>?_⟩;obtain⟨y0,hy0⟩:=List.exists_mem_of_ne_nil k s
 grind[zJq]
theorem Ev.uniq{r a:R}(h:Ev f r)(h':Ev f a):r=a:=by
 obtain⟨N,h⟩:=h;obtain⟨ϗ,h'⟩:=h';have:=(h (max N ϗ) Z2).symm.trans<|h' (max N ϗ) Z2;exact zAN this
end
def AX{ϒ R:Type}(m:U->ϒ->A R)(a b:ϒ):Prop:=∃N S,∀n,N<=n->m (n+S) a=m n b
section
variable{ϒ R:Type}{m:U->ϒ->A R}{a b c:ϒ}{r:R}{Q:R->Prop}
theorem AX.refl:AX m a a:=⟨0,0,λ_ _=>rfl⟩
def AX.one(h:∀n,m (n+1) a=m n b):AX m a b:=⟨0,1,λn _=>h n⟩
def AX.oneN(N:U)(h:∀n,N<=n->m (n+1) a=m n b):AX m a b:=⟨N,1,h⟩
theorem AX.trans(h:AX m a b)(e:AX m b c):AX m a c:=by
 obtain⟨N,S,h⟩:=h;obtain⟨J,f,e⟩:=e;exact⟨max N J,f+S,λn hn=>Z4⟩
theorem AX.ev(h:AX m a b)(c:Ev (λn=>m n b) r):Ev (λn=>m n a) r:=by
 obtain⟨N,S,h⟩:=h;obtain⟨ϗ,c⟩:=c;refine⟨max N ϗ+S,λn hn=>?_⟩;have:=h (n-S) Z2
 grind
def AX.pev(h:AX m a b)(c:Aw (λn=>m n b) Q):Aw (λn=>m n a) Q:=by
 obtain⟨N,S,h⟩:=h;obtain⟨ϗ,c⟩:=c;refine⟨max N ϗ+S,λn hn=>?_⟩;have:=h (n-S) Z2;rw[show n-S+S=n by omega]at this;obtain⟨r,k,R⟩:=c (n-S) Z2;exact⟨r,this.trans k,R⟩
def Ev.one(h:∀n,m (n+1) a=Z r):Ev (λn=>m n a) r:=⟨1,λn hn=>by
 obtain⟨k,rfl⟩:∃k,n=k+1:=⟨n-1,Z2⟩;exact h k⟩
def Ev.oneN(N:U)(h:∀n,N<=n->m (n+1) a=Z r):Ev (λn=>m n a) r:=⟨N+1,λn hn=>by
 obtain⟨k,rfl⟩:∃k,n=k+1:=⟨n-1,Z2⟩;exact h k Z2⟩
theorem Me{S:Type}(st:U->S->ϒ)(I:U->S->Prop)(len:U)(h:∀i s,i<len->I i s->∃Y,I (i+1) Y/\AX m (st i s) (st (i+1) Y)):∀(k i:U) (s:S),i+k=len->I i s->∃Y,I len Y/\AX m (st i s) (st len Y)
 |0,i,s,e,a=>by
  grind[AX.refl]
 |k+1,i,s,e,a=>by
  obtain⟨Y,b,c⟩:=h i s Z2 a;obtain⟨f,g,R⟩:=Me st I len h k (i+1) Y Z2 b;exact⟨f,g,c.trans R⟩
end
section
class HC(ϖ:Fence):Prop where
 x:HX ϖ B
 w:ϖ=η∨∃l,ϖ=Fence.wide.inRound l
instance:HC η:=⟨⟨Dk.wide,Z5⟩,.inl rfl⟩
instance (l:U):HC<|Fence.wide.inRound l:=⟨⟨Dk.round l,Z5⟩,.inr ⟨l,rfl⟩⟩
abbrev DV.i(x:E):DV:=.int .i64 x
def AC:BZ:=λ_=>.no
def FF:U->O DV->Θ
 |_,[]=>[]
 |i,.any::r=>FF (i+1) r
 |i,_::r=>i::FF (i+1) r
section
variable{ϖ:Fence}{ϙ:A U}{Ϝ:U}{Y N:BS B GG Ϝ}{Q:QY B GG Ϝ}{k k':O KI}{S:St}{fr:O DV}{h' h2:DH}{c:O (DV×DH×ζ)}{o:O (U×DV)}{z:O (U×Fz)}{v w:O Prop}
def gz[t:HC ϖ](a:BZ)(σ:Θ)(m:HS c o z v)(s:Θ)(f:HS [] [] [] w)(k':O KI)(fr:O DV)(h':DH)(hk:A6 B GG ϖ ϙ Ϝ Y Q k' ⟨fr,h'⟩)(tg:O<|O (U×U)×St:=[])
 (h:(Cr B GG a 400 k S ⟨c,o,z,tg⟩).bind (PS (FF 0 fr) σ Ϝ s)=Z (.at k',fr,h',v,w,[],[],T):=by kernel_rfl) (hc:KH k'=T:=by kernel_rfl):A6 B GG ϖ ϙ Ϝ Y Q k S:=
 BY.gS t.x a 400 (FF 0 fr) σ tg m s f k' fr h' h hc hk
theorem gs[t:HC ϖ](a:BZ)(σ:Θ)(m:HS c o z v)(k':O KI)(fr:O DV)(h':DH)(hk:A6 B GG ϖ ϙ Ϝ Y Q k' ⟨fr,h'⟩)(tg:O<|O (U×U)×St:=[])
 (h:(Cr B GG a 400 k S ⟨c,o,z,tg⟩).bind (PS (FF 0 fr) σ Ϝ [])=Z (.at k',fr,h',v,[],[],[],T):=by kernel_rfl) (hc:KH k'=T:=by kernel_rfl):A6 B GG ϖ ϙ Ϝ Y Q k S:=
 BY.gS t.x a 400 (FF 0 fr) σ tg m [] H0 k' fr h' h hc hk
def gg[t:HC ϖ](a:BZ)(σ:Θ)(m:HS c o z v)(hk:A6 B GG ϖ ϙ Ϝ Y Q k' ⟨fr,h'⟩)(tg:O<|O (U×U)×St:=[])
 (h:(Cr B GG a 400 k S ⟨c,o,z,tg⟩).bind (PS (FF 0 fr) σ Ϝ [])=Z (.at k',fr,h',v,[],[],[],T):=by kernel_rfl) (hc:KH k'=T:=by kernel_rfl):A6 B GG ϖ ϙ Ϝ Y Q k S:=
 BY.gS t.x a 400 (FF 0 fr) σ tg m [] H0 k' fr h' h hc hk
variable{Ϛ:DV}{fn:Func}
theorem el[t:HC ϖ]   (e:BZ)(a σ:Θ)(m:HS c o z v)(s:Θ)(f:HS [] [] [] w)(b:O DV)(g:AO (JG b) Ϛ)(tg:O<|O (U×U)×St:=[])
 (h:(Cr B GG e 400 k S ⟨c,o,z,tg⟩).bind (MN B a σ Ϝ s fn Ϛ<|F h2)=Z (T,b,h2,v,w,[],[],T):=by kernel_rfl):BY B GG ϖ ϙ Ϝ N (DD B fn Ϝ Ϛ h2) k S:=
 BY.el t.x e 400 a σ tg m s f b g h
def ez[t:HC ϖ]   (b:BZ)(a σ:Θ)(m:HS c o z v)(s:Θ)(f:HS [] [] [] w)(tg:O<|O (U×U)×St:=[])
 (h:(Cr B GG b 400 k S ⟨c,o,z,tg⟩).bind (λr=>(MN B a σ Ϝ s fn Ϛ (F h2) r).map λq=>(q.1,JG q.2.1,q.2.2))=Z (T,Ϛ,h2,v,w,[],[],T):=by kernel_rfl):BY B GG ϖ ϙ Ϝ N (DD B fn Ϝ Ϛ h2) k S:=
 BY.e t.x b 400 a σ tg m s f h
def ee[t:HC ϖ]   (b:BZ)(a σ:Θ)(m:HS c o z v)(tg:O<|O (U×U)×St:=[])
 (h:(Cr B GG b 400 k S ⟨c,o,z,tg⟩).bind (λr=>(MN B a σ Ϝ [] fn Ϛ (F h2) r).map λq=>(q.1,JG q.2.1,q.2.2))=Z (T,Ϛ,h2,v,[],[],[],T):=by kernel_rfl):BY B GG ϖ ϙ Ϝ N (DD B fn Ϝ Ϛ h2) k S:=
 BY.e t.x b 400 a σ tg m [] H0 h
def rr[t:HC ϖ]{q:O Exit}{i:U}{e:Exit}(a:BZ)(σ:Θ)(b:(Exit.normal::q)[i]?=Z e)(m:HS c o z v)(tg:O<|O (U×U)×St:=[])
 (h:(Cr B GG a 400 k S ⟨c,o,z,tg⟩).map (mc σ Ϝ)=Z (Z e,h2,v,[],[],[],T):=by kernel_rfl):BY B GG ϖ ϙ Ϝ N (C3 Ϝ q i h2) k S:=
 BY.r t.x a 400 σ tg m b h
def ag[t:HC ϖ]{Q:Exit->St->Prop}{W j:Code}(a:BZ)(σ:Θ)(m:HS c o z v)(fr:O DV)(h':DH)(hk:∀J:BS B GG Ϝ,BY B GG ϖ ϙ Ϝ J Q [.code j] ⟨fr,h'⟩)
 (h:(Cr B GG a 400 [.code W] S ⟨c,o,z,[]⟩).map (Xl (FF 0 fr) σ Ϝ)=Z (.at [],fr,h',v,[],[],T):=by kernel_rfl):Hq B GG ϖ ϙ Ϝ N Q W j S:=
 Hq.g t.x a 400 (FF 0 fr) σ m fr h' h hk
def rd{n m:U}(z:n+1<=m)(h:∀m,n<=m->A6 B GG ϖ ϙ Ϝ Y Q (se m k) S)(hk:Rl k=T:=by kernel_rfl):A6 B GG ϖ ϙ Ϝ Y Q (EH m k) S:=BY.round z hk h
def en(m:U)(h:A6 B GG ϖ ϙ Ϝ Y Q (EH m k) S)(hk:Rl k=T:=by kernel_rfl):A6 B GG ϖ ϙ Ϝ Y Q k S:=BY.enter m hk h
end
variable{ext:ζ}{h' h:DH}{Ϛ:DV}{ds:O DV}{f:U}
def eu(W:ES B GG f ds h Ϛ h' ext)(σ:Θ)(Ϙ:DH)(k:U)(b:Lh σ (F Ϙ) (F h) (F h')=T:=by kernel_rfl)(hk:σ.all (λj=>Nat.ble k j)=T:=by kernel_rfl)(g:(σ.map λk=>Ϙ.getD k V)=h.map (DL σ<|F Ϙ):=by kernel_rfl):TE B GG f (ds.map<|up σ<|F Ϙ) Ϙ (up σ (F Ϙ) Ϛ) (Dv Ϙ σ h') k:=W.embedU σ Ϙ k b hk g
def em(W:ES B GG f ds h Ϛ h' ext)(σ:Θ)(Ϙ:DH)(b:Lh σ (F Ϙ) (F h) (F h')=T:=by kernel_rfl)(g:(σ.map λk=>Ϙ.getD k V)=h.map (DL σ<|F Ϙ):=by kernel_rfl):ES B GG f (ds.map<|up σ<|F Ϙ) Ϙ (up σ (F Ϙ) Ϛ) (Dv Ϙ σ h') ext:=ES.emC W σ Ϙ b g
def es(W:ES B GG f ds h Ϛ h' ext)(σ:Θ)(Ϙ:DH)(Fn:O DV)(P:fA Ϙ σ Fn ds)(b:Lh σ (F Ϙ) (F h) (F h')=T:=by kernel_rfl)(g:(σ.map λk=>Ϙ.getD k V)=h.map (DL σ<|F Ϙ):=by kernel_rfl)(l:(Kq Ϛ&&h'.all Wf)=T:=by kernel_rfl):ES B GG f Fn Ϙ (up σ (F Ϙ) Ϛ) (Dv Ϙ σ h') ext:=ES.embedSB W σ Ϙ P b g l
def fb(h0:ES B GG f ds [] Ϛ [] T)(h:DH)(r:ds.all G5=T:=by kernel_rfl):ES B GG f ds h Ϛ h T:=ES.frameB h0 h r
def sb(ds:O DV){g:O DV}(h0:ES B GG f g [] Ϛ [] T)(h:DH)(l:QV h ds g)(r:cI Ϛ=T:=by kernel_rfl):ES B GG f ds h Ϛ h T:=ES.snapB h0 h l r
def ot{fn:Func}(g:Tryz.prog.funcs[f]?=Z fn)(Ϙ:∀(ϙ:U) (N:BS B GG<|F h),BY B GG η (Z ϙ) (F h) N (DD B fn (F h) Ϛ h') (start fn) ⟨ds++d (fn.ntmps-F ds) .any,h⟩)
 (b:fn.body.isSome=T:=by kernel_rfl) (a:(fn.name== "runtime.NumGoroutine")=D:=by kernel_rfl) (hni:h'.all Xu=T:=by kernel_rfl) (c:(!ext||h.isEmpty)=T:=by kernel_rfl):ES B GG f ds h Ϛ h' ext:=
 ES.of_trk g b a (K7 hni) (λe=>by subst e;simpa using c) Ϙ
section
variable{ϖ:Fence}{ϙ Ϝ:U}{Y:BS B GG Ϝ}{Q:QY B GG Ϝ}{fr:O DV}{h:DH}{K:O KI}{a b:Code}{α σ:Type}{l:O α}{Ϙ:σ->DH}{FR:α->O DV}
variable{c:σ}
def rx[g:HC ϖ](q:O Exit)(z t:U)(W:υ Tmp)(enc:α->O DV)(L':U){f:α->σ->A (σ×U)}  {rE:σ×U}(i:C7 f l c=Z rE)
 (j:∀(l ϙ:U) (N:BS B GG L') (x:α) (s:σ) (r:σ×U),f x s=Z r->Hq B GG (Fence.wide.inRound l) (Z ϙ) L' N (C3 L' q r.2<|Ϙ r.1) a b ⟨FR x,Ϙ s⟩)
 (k:∀e,(Exit.normal::q)[rE.2]?=Z e->BN B GG ϖ (Z ϙ) Ϝ Q (D6 K) e ⟨fr,Ϙ rE.1⟩ Y) (m:(q.all λe=>(Lg e).isSome)=T:=by kernel_rfl)
 (S:RC K=Z (.tmp t,W,a,b,D6 K):=by kernel_rfl) (n:Ak fr (.tmp t)=.it z:=by kernel_rfl) (hk:h[z]?=Z (Z<|.iter<|l.map enc):=by kernel_rfl) (o:∀x,F (enc x)=W.size:=by exact λ_=>rfl) (J:Nat.ble Ϝ L'=T:=by kernel_rfl) (p:fr.all (CS L')=T:=by kernel_rfl) (h0:h.set z V=Ϙ c:=by kernel_rfl) (u:(λx=>JL fr W.toList<|enc x)=FR:=by kernel_rfl):A6 B GG ϖ (Z ϙ) Ϝ Y Q K ⟨fr,h⟩:=
 BY.rg g.w q m z t W enc L' i j S n hk o J p h0 u k
def r0[e:HC ϖ](z t:U)(W:υ Tmp)(enc:α->O DV)(L':U){f:α->σ->A σ}{m:σ}(g:CC f l c=Z m)
 (i:∀(l ϙ:U) (N:BS B GG L') (x:α) (s r:σ),f x s=Z r->Hq B GG (Fence.wide.inRound l) (Z ϙ) L' N (C3 L' [] 0<|Ϙ r) a b ⟨FR x,Ϙ s⟩)
 (j:A6 B GG ϖ (Z ϙ) Ϝ Y Q (D6 K) ⟨fr,Ϙ m⟩)
 (S:RC K=Z (.tmp t,W,a,b,D6 K):=by kernel_rfl) (k:Ak fr (.tmp t)=.it z:=by kernel_rfl) (hk:h[z]?=Z (Z<|.iter<|l.map enc):=by kernel_rfl) (n:∀x,F (enc x)=W.size:=by exact λ_=>rfl) (J:Nat.ble Ϝ L'=T:=by kernel_rfl) (o:fr.all (CS L')=T:=by kernel_rfl) (h0:h.set z V=Ϙ c:=by kernel_rfl) (p:(λx=>JL fr W.toList<|enc x)=FR:=by kernel_rfl):A6 B GG ϖ (Z ϙ) Ϝ Y Q K ⟨fr,h⟩:=
 BY.rg0 e.w z t W enc L' g i S k hk n J o h0 p j
end
abbrev Yd(Ϝ:U):=BS B GG Ϝ
abbrev EQ:=ES B GG
abbrev FQ:=DD B
def px{α:Type}(n ϙ:U){Ϝ:U}(ϖ:Fence)(N:Yd Ϝ)(Q:Exit->St->Prop)(c:Code)(g:α->U×U×O DV×DH)(G:α):Prop:=match g G with
 |(0,b,f,h)=>∀q,n<=q->BY B GG ϖ (Z ϙ) Ϝ N Q (EH q<|Fo c b []) ⟨f,h⟩
 |(1,b,f,h)=>∀q S,n<=q->n<=S->BY B GG ϖ (Z ϙ) Ϝ N Q (EH S<|Fo c b [q]) ⟨f,h⟩
 |(2,b,f,h)=>∀q S R,n<=q->n<=S->n<=R->BY B GG ϖ (Z ϙ) Ϝ N Q (EH R<|Fo c b [q,S]) ⟨f,h⟩
 |(3,b,f,h)=>BY B GG ϖ (Z ϙ) Ϝ N Q (CY c b []) ⟨f,h⟩
 |(4,b,f,h)=>∀q,n<=q->BY B GG ϖ (Z ϙ) Ϝ N Q (CY c b [q]) ⟨f,h⟩
 |(5,b,f,h)=>∀q S,n<=q->n<=S->BY B GG ϖ (Z ϙ) Ϝ N Q (CY c b [q,S]) ⟨f,h⟩
 |(_,b,f,h)=>∀q S R,n<=q->n<=S->n<=R->BY B GG ϖ (Z ϙ) Ϝ N Q (CY c b [q,S,R]) ⟨f,h⟩
abbrev TW(ϙ:U){Ϝ:U}(N:Yd Ϝ)(Q:Exit->St->Prop)(k:O KI)(S:St):Prop:=BY B GG η (Z ϙ) Ϝ N Q k S
abbrev TA(l ϙ:U){Ϝ:U}(N:Yd Ϝ)(Q:Exit->St->Prop)(fn:Func)(t:U)(S:St):Prop:=Hq B GG (Fence.wide.inRound l) (Z ϙ) Ϝ N Q (rgA fn t) (RD fn t) S
abbrev Al{X R:Type}(m:U->X->A R)(ϒ:U->R->X->Prop):Prop:=∀n x r,m n x=Z r->ϒ n r x
def ia{X R:Type}{m:U->X->A R}{ϒ:U->R->X->Prop}(h0:∀x,m 0 x=V)(h:∀n,(∀x r,m n x=Z r->ϒ n r x)->∀x r,m (n+1) x=Z r->ϒ (n+1) r x):Al m ϒ
 |0,x,_,e=>by rw[h0 x]at e;cases e
 |n+1,x,r,e=>h n (ia h0 h n) x r e
/-ϕ proof in s shape Y a was read off:a holds Y each way on,s hints gathered so H5. -/
def Gt{R:Type}(ϒ:R->Prop)(c:O<|DV×DH×ζ)(o:O<|U×DV)(z:O<|U×Fz)(v:O Prop)(ϕ:A R):Prop:=HS c o z v->∀r,ϕ=Z r->ϒ r
section
variable{R R':Type}{ϒ:R->Prop}{c:O (DV×DH×ζ)}{o:O (U×DV)}{z:O (U×Fz)}{v:O Prop}{ϕ A':A R}{r0:R}{b b':ζ}{p q:Prop}{f:U}{ds:O DV}{h h':DH}{Ϛ d':DV}{e:ζ}{xi:E}
def gO{ϖ:Fence}{ϙ:A U}{Ϝ:U}{Y:Yd Ϝ}{Q:R->QY B GG Ϝ}{k:O KI}{S:St}(t:Gt (λr=>A6 B GG ϖ ϙ Ϝ Y (Q r) k S) [] [] [] [] ϕ):∀r,ϕ=Z r->A6 B GG ϖ ϙ Ϝ Y (Q r) k S:=t H0
def gT(t:Gt ϒ [] [] [] [] ϕ):∀r,ϕ=Z r->ϒ r:=t H0
def rO(t:Gt ϒ [] [] [] [] ϕ):Gt ϒ c o z v ϕ:=λ_=>t H0
def nO:Gt ϒ c o z v V:=λ_ _ h=>by cases h
def lF(x:HS c o z v->ϒ r0):Gt ϒ c o z v<|Z r0:=λp _ h=>zAN h▸x p
def bn(x:b=T->Gt ϒ c o z v ϕ)(y:b=D->Gt ϒ c o z v A'):Gt ϒ c o z v<|L b ϕ A':=λp r h=>(Bv h).elim (λh=>x h.1 p r h.2) λh=>y h.1 p r h.2
def bj(t:U)(x:b=T->Gt ϒ c (o++[(t,.bool T)]) z (v++[AO (.bool b)<|.bool T]) ϕ)(y:b=D->Gt ϒ c (o++[(t,.bool D)]) z (v++[AO (.bool b)<|.bool D]) A'):Gt ϒ c o z v<|L b ϕ A':=bn (λh p=>x h<|p.b t h) λh p=>y h<|p.b t h
def bi(t:U)(x:Gt ϒ c (o++[(t,.bool T)]) z (v++[AO (.bool b)<|.bool T]) ϕ)(y:Gt ϒ c (o++[(t,.bool D)]) z (v++[AO (.bool b)<|.bool D]) A'):Gt ϒ c o z v<|L b ϕ A':=bj t (λ_=>x) λ_=>y
def gn{_:Decidable p}(x:p->Gt ϒ c o z v ϕ):Gt ϒ c o z v<|C p ϕ V:=λw r h=>x (B6 h).1 w r (B6 h).2
def gi{_:Decidable p}(x:Gt ϒ c o z (v++[p]) ϕ):Gt ϒ c o z v<|C p ϕ V:=gn λg w=>x<|w.g g
def gc{_:Decidable p}{_:Decidable q}(x:Gt ϒ c o z v<|C p (C q ϕ V) V):Gt ϒ c o z v<|C (p/\q) ϕ V:=λw r h=>x w r (by obtain⟨⟨a,f⟩,h⟩:=B6 h;rw[zAB a,zAB f];exact h)
def gw{_:Decidable (AI xi)}(t:U)(x:Gt ϒ c (o++[(t,.int .i64 xi)]) z (v++[AO (.int .i64<|IntKind.i64.wrap xi)<|.int .i64 xi]) ϕ):Gt ϒ c o z v<|C (AI xi) ϕ V:=gn λg w=>x<|w.w t g
variable{ϖ:A R'}
def cn{ϕ:R'->A R}(x:∀y,ϖ=Z y->Gt ϒ c o z v (ϕ y)):Gt ϒ c o z v<|ϖ.bind ϕ:=λw r h=>let⟨y,hy,h⟩:=D4 h;x y hy w r h
def cf{ϕ:R'->A R}{Ϛ:R'->DV}(k:∀{y},ϖ=Z y->ES B GG f ds [] (Ϛ y) [] T)(h:DH)(x:∀y,Gt ϒ (c++[(Ϛ y,h,T)]) o z (v++[ES B GG f ds h (Ϛ y) h T])<|ϕ y)(r:ds.all G5=T:=by kernel_rfl):Gt ϒ c o z v<|ϖ.bind ϕ:=cn λy hy w=>x y<|w.c<|fb (k hy) h r
def ce{ϕ:R'->A R}{Ϛ:R'->DV}{h':R'->DH}(k:∀{y},ϖ=Z y->ES B GG f ds h (Ϛ y) (h' y) e)(σ:Θ)(Ϙ:DH)(x:∀y,Gt ϒ (c++[(up σ (F Ϙ)<|Ϛ y,Dv Ϙ σ<|h' y,e)]) o z (v++[ES B GG f (ds.map<|up σ<|F Ϙ) Ϙ (up σ (F Ϙ)<|Ϛ y) (Dv Ϙ σ<|h' y) e])<|ϕ y)(b:∀y,Lh σ (F Ϙ) (F h) (F<|h' y)=T:=by intro;kernel_rfl)(g:(σ.map λk=>Ϙ.getD k V)=h.map (DL σ<|F Ϙ):=by kernel_rfl):Gt ϒ c o z v<|ϖ.bind ϕ:=cn λy hy w=>x y<|w.c<|em (k hy) σ Ϙ (b y) g
def jb(t:U)(g:b=b')(x:Gt ϒ c (o++[(t,.bool b')]) z (v++[AO (.bool b)<|.bool b']) ϕ):Gt ϒ c o z v ϕ:=λw=>x<|w.b t g
def jw(t:U)(g:AI xi)(x:Gt ϒ c (o++[(t,.int .i64 xi)]) z (v++[AO (.int .i64<|IntKind.i64.wrap xi)<|.int .i64 xi]) ϕ):Gt ϒ c o z v ϕ:=λw=>x<|w.w t g
def jg(g:p)(x:Gt ϒ c o z (v++[p]) ϕ):Gt ϒ c o z v ϕ:=λw=>x<|w.g g
def jt(x:Gt ϒ c o z (v++[True]) ϕ):Gt ϒ c o z v ϕ:=λw=>x w.t
def jo(t:U)(g:AO Ϛ d')(x:Gt ϒ c (o++[(t,d')]) z (v++[AO Ϛ d']) ϕ):Gt ϒ c o z v ϕ:=λw=>x<|w.o t g
def jc(g:ES B GG f ds h Ϛ h' e)(x:Gt ϒ (c++[(Ϛ,h',e)]) o z (v++[ES B GG f ds h Ϛ h' e]) ϕ):Gt ϒ c o z v ϕ:=λw=>x<|w.c g
def jq{k:U}(g:TE B GG f ds h Ϛ h' k)(x:Gt ϒ (c++[(Ϛ,h',D)]) o z (v++[TE B GG f ds h Ϛ h' k]) ϕ):Gt ϒ c o z v ϕ:=λw=>x<|w.q g
def ja(t k m:U){n h:U}{f b:U->U->DV}(g:n=h/\∀i j,i<n->j<m->AO (f i j) (b i j))(x:Gt ϒ c o (z++[(t,.arr k h b)]) (v++[n=h/\∀i j,i<n->j<m->AO (f i j) (b i j)]) ϕ):Gt ϒ c o z v ϕ:=λw=>x<|w.a t k m g
def jz(t k:U)(x:Gt ϒ c o (z++[(t,.frz k)]) v ϕ):Gt ϒ c o z v ϕ:=λw=>x<|w.z t k
def ju(t k:U)(x:Gt ϒ c o (z++[(t,.unf k)]) v ϕ):Gt ϒ c o z v ϕ:=λw=>x<|w.u t k
def jk(t:U)(x:Gt ϒ c o (z++[(t,.rws)]) v ϕ):Gt ϒ c o z v ϕ:=λw=>x<|w.k t
end
section
variable{R:Type}{c:O (DV×DH×ζ)}{o:O (U×DV)}{z:O (U×Fz)}{v:O Prop}{ϕ:A R}{r0:R}{ϖ:Fence}{ϙ:A U}{Ϝ:U}{Y N:BS B GG Ϝ}{k k':O KI}{S:St}{fr:O DV}{h':DH}
variable{Q:R->QY B GG Ϝ}
def lG[hX:HC ϖ](a:BZ)(σ:Θ)  (hk:∀{r},ϕ=Z r->A6 B GG ϖ ϙ Ϝ Y (Q r) k' ⟨fr,h'⟩)(tg:O<|O (U×U)×St:=[])
 (h:(Cr B GG a 400 k S ⟨c,o,z,tg⟩).bind (PS (FF 0 fr) σ Ϝ [])=Z (.at k',fr,h',v,[],[],[],T):=by kernel_rfl) (hc:KH k'=T:=by kernel_rfl):Gt (λr=>A6 B GG ϖ ϙ Ϝ Y (Q r) k S) c o z v ϕ:=
 λp _ e=>gg a σ p (hk e) tg h hc
def lN[hX:HC ϖ]{m:U}(a:BZ)(σ:Θ)  (hk:∀{r},ϕ=Z r->A6 B GG ϖ ϙ Ϝ Y (Q r) (EH m k') ⟨fr,h'⟩)(tg:O<|O (U×U)×St:=[])
 (h:(Cr B GG a 400 k S ⟨c,o,z,tg⟩).bind (PS (FF 0 fr) σ Ϝ [])=Z (.at k',fr,h',v,[],[],[],T):=by kernel_rfl) (hc:KH k'=T:=by kernel_rfl) (b:Rl k'=T:=by kernel_rfl):Gt (λr=>A6 B GG ϖ ϙ Ϝ Y (Q r) k S) c o z v ϕ:=
 lG a σ (λe=>en m (hk e) b) tg h hc
def lE[hX:HC ϖ]{fn:Func}{ϑ:R->DV}{ε:R->DH}(b:BZ)(a σ:Θ)(tg:O<|O (U×U)×St:=[])
 (h:(Cr B GG b 400 k S ⟨c,o,z,tg⟩).bind (λr=>(MN B a σ Ϝ [] fn (ϑ r0) (F<|ε r0) r).map λq=>(q.1,JG q.2.1,q.2.2))=Z (T,ϑ r0,ε r0,v,[],[],[],T):=by kernel_rfl):Gt (λr=>BY B GG ϖ ϙ Ϝ N (DD B fn Ϝ (ϑ r)<|ε r) k S) c o z v<|Z r0:=
 lF λp=>ee b a σ p tg h
end
end
abbrev zBE:=@Nat.le_of_succ_le
section
set_option maxRecDepth 100000
set_option maxHeartbeats 40000000
def zFl:Ar (Am Tryz.f20 6) [] (θ 9) []:=Z0
def Wn:BZ:=λi=>match i with
 |6=>.ord [] (θ 9) []
 |_=>.no
inductive cK where
 |l1 (x5:E)
def cJ(n:U)(self:cK->A ζ)(a P:Ξ)(l:E):A ζ:=L (H<|l<(F a:E)) (C ((0<=l/\l<(F a:E))/\(0<=l/\l<(F P:E))) (L (M a l.toNat 0 != M P l.toNat 0) (Z D)<|C (AI<|l+1) (self<|.l1<|l+1) V) V)<|Z T
def u9(n:U)(self:cK->A ζ)(a P:Ξ):A ζ:=L ((F a:E) != (F P:E)) (Z D)<|self<|.l1 0
def Tv(a P:Ξ):U->cK->A ζ
 |0,_=>V
 |n+1,.l1 l=>cJ n (Tv a P n) a P l
def same(n:U)(a P:Ξ):A ζ:=u9 n (Tv a P n) a P
def zFT(n ϙ:U)(N:Yd 0)(a P:Ξ)(r:ζ):cK->Prop:=px n ϙ η N (FQ Tryz.f20 0 (.bool r) []) (AZ Tryz.f20) λ
 | .l1 l=>(0,0,AF 26 [(0,.ints a),(1,.ints P),(5,.i l)],[])
def zFU(ϙ:U)(N:Yd 0)(a P:Ξ):Al (Tv a P) (zFT · ϙ N a P):=ia (λ_=>rfl) λn I G r h=>by
 cases G
 case l1 x5=>
  intro q b;refine rd b λq b=>?_
  revert r;apply gO;exact bi 14 (jg zFl (gc (gi (gi (bi 25 (lE Wn [4] []) (gw 16 (lG Wn [] (I _ _ · q b))))))))<|lE Wn [4] []
variable{r:ζ}{a:Ξ}{n:U}
def lK{P:Ξ}(h:same n a P=Z r):EQ 20 [.ints a,.ints P] [] (.bool r) [] T:=by
 refine ot Tryz.func20 λϙ N=>?_
 revert r;apply gO;exact bi 10 (lE Wn [4] []) (lN Wn [] ((zFU ϙ N a P n) _ _ · n χ))
inductive gW where
 |l1 (x5:E)
def pa(n:U)(self:gW->A ζ)(a:Ξ)(e:E)(l:E):A ζ:=L (H<|l<(F a:E)) (C (0<=l/\l<(F a:E)) (L (M a l.toNat 0==e) (Z T)<|C (AI<|l+1) (self<|.l1<|l+1) V) V)<|Z D
def zAH(n:U)(self:gW->A ζ)(l_:Ξ)(n_:E):A ζ:=self<|.l1 0
def VA(l:Ξ)(e:E):U->gW->A ζ
 |0,_=>V
 |n+1,.l1 a=>pa n (VA l e n) l e a
def has(n:U)(l:Ξ)(e:E):A ζ:=zAH n (VA l e n) l e
def zOu(n ϙ:U)(N:Yd 0)(l:Ξ)(e:E)(r:ζ):gW->Prop:=px n ϙ η N (FQ Tryz.f101 0 (.bool r) []) (AZ Tryz.f101) λ
 | .l1 a=>(0,0,AF 18 [(0,.ints l),(1,.i e),(5,.i a)],[])
def zOv(ϙ:U)(N:Yd 0)(l:Ξ)(e:E):Al (VA l e) (zOu · ϙ N l e):=ia (λ_=>rfl) λn I G r h=>by
 cases G
 case l1 x5=>
  intro q a;refine rd a λq a=>?_
  revert r;apply gO;exact bi 9 (gi (bi 17 (lE AC [4] []) (gw 11 (lG AC [] (I _ _ · q a)))))<|lE AC [4] []
variable{l:Ξ}
def zAG{e:E}(h:has n l e=Z r):EQ 101 [.ints l,.i e] [] (.bool r) [] T:=by
 refine ot Tryz.func101 λϙ N=>?_
 revert r;apply gO;exact lN AC [] ((zOv ϙ N l e n) _ _ · n χ)
inductive jN where
 |l1 (x7:E)
def q8(n:U)(self:jN->A ζ)(l:Ξ)(lo hi:E)(p:E):A ζ:=L (H<|p<(F l:E)) (C (0<=p/\p<(F l:E)) (L (H<|M l p.toNat 0<lo) (Z D)<|L (H<|M l p.toNat 0>hi) (Z D)<|C (AI<|p+1) (self<|.l1<|p+1) V) V)<|Z T
def zB6(n:U)(self:jN->A ζ)(l_:Ξ)(lo hi:E):A ζ:=self<|.l1 0
def Vk(l:Ξ)(lo hi:E):U->jN->A ζ
 |0,_=>V
 |n+1,.l1 p=>q8 n (Vk l lo hi n) l lo hi p
def QT(n:U)(l:Ξ)(lo hi:E):A ζ:=zB6 n (Vk l lo hi n) l lo hi
def zSE(n ϙ:U)(N:Yd 0)(l:Ξ)(lo hi:E)(r:ζ):jN->Prop:=px n ϙ η N (FQ Tryz.f65 0 (.bool r) []) (AZ Tryz.f65) λ
 | .l1 p=>(0,0,AF 28 [(0,.ints l),(1,.i lo),(2,.i hi),(7,.i p)],[])
def zSF(ϙ:U)(N:Yd 0)(l:Ξ)(lo hi:E):Al (Vk l lo hi) (zSE · ϙ N l lo hi):=ia (λ_=>rfl) λn I G r h=>by
 cases G
 case l1 x7=>
  intro q a;refine rd a λq a=>?_
  revert r;apply gO;exact bi 11 (gn λx=>jg x (bi 19 (lE AC [6] []) (jg x (bi 26 (lE AC [6] []) (gw 13 (lG AC [] (I _ _ · q a)))))))<|lE AC [6] []
def aO{lo hi:E}(h:QT n l lo hi=Z r):EQ 65 [.ints l,.i lo,.i hi] [] (.bool r) [] T:=by
 refine ot Tryz.func65 λϙ N=>?_
 revert r;apply gO;exact lN AC [] ((zSF ϙ N l lo hi n) _ _ · n χ)
def zGi:Ar (Am Tryz.f102 7) [] (θ 9) []:=Z0
def Tt:BZ:=λi=>match i with
 |7=>.ord [] (θ 9) []
 |_=>.no
inductive VU where
 |l1 (x3:E)
 |l2 (x3 x4:E)
def qZ(n:U)(self:VU->A ζ)(l:Ξ)(X:E):A ζ:=L (H<|X<(F l:E)) (self<|.l2 X 0)<|Z T
def iS(n:U)(self:VU->A ζ)(l:Ξ)(X c:E):A ζ:=L (H<|c<X) (C ((0<=X/\X<(F l:E))/\(0<=c/\c<(F l:E))) (L (M l X.toNat 0==M l c.toNat 0) (Z D)<|C (AI<|c+1) (self<|.l2 X<|c+1) V) V)<|C (AI<|X+1) (self<|.l1<|X+1) V
def zBN(n:U)(self:VU->A ζ)(l_:Ξ):A ζ:=self<|.l1 0
def Lj(l:Ξ):U->VU->A ζ
 |0,_=>V
 |n+1,.l1 X=>qZ n (Lj l n) l X
 |n+1,.l2 X c=>iS n (Lj l n) l X c
def iV(n:U)(l:Ξ):A ζ:=zBN n (Lj l n) l
def zQU(n ϙ:U)(N:Yd 0)(l:Ξ)(r:ζ):VU->Prop:=px n ϙ η N (FQ Tryz.f102 0 (.bool r) []) (AZ Tryz.f102) λ
 | .l1 X=>(0,0,AF 25 [(0,.ints l),(3,.i X)],[])
 | .l2 X c=>(1,2,AF 25 [(0,.ints l),(3,.i X),(4,.i c)],[])
def zQV(ϙ:U)(N:Yd 0)(l:Ξ):Al (Lj l) (zQU · ϙ N l):=ia (λ_=>rfl) λn I G r h=>by
 cases G
 case l1 x3=>
  intro q a;refine rd a λq a=>?_
  revert r;apply gO;exact bi 8 (lN Tt [] (I _ _ · q n a χ))<|lE Tt [2] []
 case l2 x3 x4=>
  intro q S a c;have a:=zBE a;refine rd c λS c=>?_
  revert r;apply gO;exact bi 13 (jg zGi (gc (gi (gi (bi 24 (lE Tt [2] []) (gw 15 (lG Tt [] (I _ _ · q S a c)))))))) (gw 10 (lG Tt [] (I _ _ · q a)))
def zQS(h:iV n l=Z r):EQ 102 [.ints l] [] (.bool r) [] T:=by
 refine ot Tryz.func102 λϙ N=>?_
 revert r;apply gO;exact lN Tt [] ((zQV ϙ N l n) _ _ · n χ)
inductive ff where
 |l1 (x8:E)
def nm(n:U)(self:ff->A E)(h:Ξ)(v:E)(x8:E):A E:=L (H<|x8<(F h:E)) (C (0<=x8/\x8<(F h:E)) (L (v==M h x8.toNat 0) (Z x8)<|C (AI<|x8+1) (self<|.l1<|x8+1) V) V)<|Z<|-1
def zM(n:U)(self:ff->A E)(s_:Ξ)(v:E):A E:=self<|.l1 0
def Rn(h:Ξ)(v:E):U->ff->A E
 |0,_=>V
 |n+1,.l1 x8=>nm n (Rn h v n) h v x8
def fg(n:U)(h:Ξ)(v:E):A E:=zM n (Rn h v n) h v
def zMB(n ϙ:U)(N:Yd 0)(h:Ξ)(v:E)(r:E):ff->Prop:=px n ϙ η N (FQ Tryz.f131 0 (.i r) []) (AZ Tryz.f131) λ
 | .l1 x8=>(0,0,AF 19 [(0,.ints h),(1,.i v),(7,.i (F h:E)),(8,.i x8)],[])
def zMC(ϙ:U)(N:Yd 0)(b:Ξ)(v:E):Al (Rn b v) (zMB · ϙ N b v):=ia (λ_=>rfl) λn I G r h=>by
 cases G
 case l1 x8=>
  intro q a;refine rd a λq a=>?_
  revert r;apply gO;exact bi 9 (gi (bi 16 (lE AC [4] []) (gw 18 (lG AC [] (I _ _ · q a)))))<|lE AC [4] []
variable{v:E}
def zMA{r:E}(h:fg n a v=Z r):EQ 131 [.ints a,.i v] [] (.i r) [] T:=by
 refine ot Tryz.func131 λϙ N=>?_
 revert r;apply gO;exact lN AC [] ((zMC ϙ N a v n) _ _ · n χ)
inductive fl where
 |l1 (x8:E)
def fk(n:U)(self:fl->A E)(h:Ω)(v:ζ)(x8:E):A E:=L (H<|x8<(F h:E)) (C (0<=x8/\x8<(F h:E)) (L (v==M h x8.toNat D) (Z x8)<|C (AI<|x8+1) (self<|.l1<|x8+1) V) V)<|Z<|-1
def zMH(n:U)(self:fl->A E)(s_:Ω)(v:ζ):A E:=self<|.l1 0
def Pn(h:Ω)(v:ζ):U->fl->A E
 |0,_=>V
 |n+1,.l1 x8=>fk n (Pn h v n) h v x8
def fm(n:U)(h:Ω)(v:ζ):A E:=zMH n (Pn h v n) h v
def zMI(n ϙ:U)(N:Yd 0)(h:Ω)(v:ζ)(r:E):fl->Prop:=px n ϙ η N (FQ Tryz.f192 0 (.i r) []) (AZ Tryz.f192) λ
 | .l1 x8=>(0,0,AF 19 [(0,.bools h),(1,.bool v),(7,.i (F h:E)),(8,.i x8)],[])
def zMJ(ϙ:U)(N:Yd 0)(b:Ω)(v:ζ):Al (Pn b v) (zMI · ϙ N b v):=ia (λ_=>rfl) λn I G r h=>by
 cases G
 case l1 x8=>
  intro q a;refine rd a λq a=>?_
  revert r;apply gO;exact bi 9 (gi (bi 16 (lE AC [4] []) (gw 18 (lG AC [] (I _ _ · q a)))))<|lE AC [4] []
def zMG{a:Ω}{v:ζ}{r:E}(h:fm n a v=Z r):EQ 192 [.bools a,.bool v] [] (.i r) [] T:=by
 refine ot Tryz.func192 λϙ N=>?_
 revert r;apply gO;exact lN AC [] ((zMJ ϙ N a v n) _ _ · n χ)
def qf(n:U)(h:Ξ)(v:E):A ζ:=(fg n h v).bind λf=>Z<|H<|f>=0
def QO(n:U)(h:Ξ)(v:E):A ζ:=qf n h v
def zBZ(h:QO n a v=Z r):EQ 107 [.ints a,.i v] [] (.bool r) [] T:=by
 unfold QO qf at h;refine ot Tryz.func107 λϙ N=>?_
 revert r;apply gO;exact cf zMA [] λ_=>lE AC [4] []
def zGf:Ar (Am Tryz.f24 6) [] (θ 9) []:=Z0
def Wp:BZ:=λi=>match i with
 |6=>.ord [] (θ 9) []
 |_=>.no
inductive iM where
 |l1 (x13:E)
def iL(n:U)(self:iM->A ζ)(N I:Ξ)(x13:E):A ζ:=L (H<|x13<(F N:E)) (C ((0<=x13/\x13<(F N:E))/\(0<=x13/\x13<(F I:E))) (L (M N x13.toNat 0 != M I x13.toNat 0) (Z D)<|C (AI<|x13+1) (self<|.l1<|x13+1) V) V)<|Z T
def zA4(n:U)(self:iM->A ζ)(N I:Ξ):A ζ:=L ((F N:E) != (F I:E)) (Z D)<|self<|.l1 0
def VP(N I:Ξ):U->iM->A ζ
 |0,_=>V
 |n+1,.l1 x13=>iL n (VP N I n) N I x13
def QJ(n:U)(N I:Ξ):A ζ:=zA4 n (VP N I n) N I
def zQD(n ϙ:U)(N:Yd 0)(a I:Ξ)(r:ζ):iM->Prop:=px n ϙ η N (FQ Tryz.f24 0 (.bool r) []) (AZ Tryz.f24) λ
 | .l1 x13=>(0,0,AF 26 [(0,.ints a),(1,.ints I),(12,.i (F a:E)),(13,.i x13)],[])
def zQE(ϙ:U)(N:Yd 0)(b I:Ξ):Al (VP b I) (zQD · ϙ N b I):=ia (λ_=>rfl) λn c G r h=>by
 cases G
 case l1 x13=>
  intro q a;refine rd a λq a=>?_
  revert r;apply gO;exact bi 14 (jg zGf (gc (gi (gi (bi 24 (lE Wp [4] []) (gw 25 (lG Wp [] (c _ _ · q a))))))))<|lE Wp [4] []
def qW{I:Ξ}(h:QJ n a I=Z r):EQ 24 [.ints a,.ints I] [] (.bool r) [] T:=by
 refine ot Tryz.func24 λϙ N=>?_
 revert r;apply gO;exact bi 10 (lE Wp [4] []) (lN Wp [] ((zQE ϙ N a I n) _ _ · n χ))
inductive UE where
 |l1 (x3:E)
 |l2 (x3 x4:E)
def mA(n:U)(self:UE->A E)(J:O Ξ)(X:E):A E:=L (H<|X<(F J:E)) (self<|.l2 X 0)<|Z 0
def dH(n:U)(self:UE->A E)(J:O Ξ)(X c:E):A E:=C (0<=X/\X<(F J:E)) (L (H<|c<((F<|M J X.toNat []:U):E)) (C (0<=c/\c<((F<|M J X.toNat []:U):E)) (L (H<|M (M J X.toNat []) c.toNat 0<0) (Z 120)<|L (H<|M (M J X.toNat []) c.toNat 0>=(F J:E)) (Z 120)<|L (M (M J X.toNat []) c.toNat 0==X) (Z 120)<|L (H<|c>0) (C (AI (c-1)/\(0<=(c-1)/\(c-1)<((F<|M J X.toNat []:U):E))) (L (H<|M (M J X.toNat []) (c-1).toNat 0>=M (M J X.toNat []) c.toNat 0) (Z 120)<|C ((0:E)<=M (M J X.toNat []) c.toNat 0/\M (M J X.toNat []) c.toNat 0<(F J:E)) ((has n (M J (M (M J X.toNat []) c.toNat 0).toNat []) X).bind λf=>L (!f) (Z 120)<|C (AI<|c+1) (self<|.l2 X<|c+1) V) V) V)<|C ((0:E)<=M (M J X.toNat []) c.toNat 0/\M (M J X.toNat []) c.toNat 0<(F J:E)) ((has n (M J (M (M J X.toNat []) c.toNat 0).toNat []) X).bind λf=>L (!f) (Z 120)<|C (AI<|c+1) (self<|.l2 X<|c+1) V) V) V)<|C (AI<|X+1) (self<|.l1<|X+1) V) V
def wL(n:U)(self:UE->A E)(J:O Ξ):A E:=L (H<|(F J:E)>256) (Z 120)<|self<|.l1 0
def Ky(J:O Ξ):U->UE->A E
 |0,_=>V
 |n+1,.l1 X=>mA n (Ky J n) J X
 |n+1,.l2 X c=>dH n (Ky J n) J X c
def PH(n:U)(J:O Ξ):A E:=wL n (Ky J n) J
def zIj(n ϙ:U)(N:Yd 0)(J:O Ξ)(r:E):UE->Prop:=px n ϙ η N (FQ Tryz.f66 0 (.i r) []) (AZ Tryz.f66) λ
 | .l1 X=>(0,0,AF 69 [(0,.sl 1 (F J)<|AM AW J),(3,.i X)],[])
 | .l2 X c=>(1,2,AF 69 [(0,.sl 1 (F J)<|AM AW J),(3,.i X),(4,.i c)],[])
def zIk(ϙ:U)(N:Yd 0)(J:O Ξ):Al (Ky J) (zIj · ϙ N J):=ia (λ_=>rfl) λn I G r h=>by
 cases G
 case l1 x3=>
  intro q a;refine rd a λq a=>?_
  revert r;apply gO;exact bi 12 (lN AC [] (I _ _ · q n a χ))<|lE AC [2] []
 case l2 x3 x4=>
  intro q S a c;have a:=zBE a;refine rd c λS c=>?_
  revert r;apply gO;exact gn λx=>jg x (bi 21 (jg x (gi (bi 32 (lE AC [2] []) (bi 37 (lE AC [2] []) (bi 42 (lE AC [2] []) (bi 46 (jg x (gc (gw 53 (gi (bi 57 (lE AC [2] []) (gi (cf zAG [] λ_=>bi 67 (lE AC [2] []) (gw 23 (lG AC [] (I _ _ · q S a c)))))))))) (gi (cf zAG [] λ_=>bi 67 (lE AC [2] []) (gw 23 (lG AC [] (I _ _ · q S a c))))))))))) (gw 14 (lG AC [] (I _ _ · q a))))
variable{J:O Ξ}
def lz{r:E}(h:PH n J=Z r):EQ 66 [.sl 1 (F J)<|AM AW J] [] (.i r) [] T:=by
 refine ot Tryz.func66 λϙ N=>?_
 revert r;apply gO;exact bi 8 (lE AC [2] []) (lN AC [] ((zIk ϙ N J n) _ _ · n χ))
inductive VG where
 |l1 (A4:E)
 |l2 (x3:E) (x4:Ξ) (A4:E) (Bb:Ξ) (NE EG:E)
def qD(n:U)(self:VG->A E)(J:O Ξ)(m:E):A E:=L (H<|m<(F J:E)) (C (0<=m/\m<(F J:E)) (self<|.l2 m (M J m.toNat []) m (M J m.toNat []) ((F<|M J m.toNat []:U):E) 0) V)<|Z 0
def gy(n:U)(self:VG->A E)(J:O Ξ)(X:E)(c:Ξ)(m:E)(W:Ξ)(i w:E):A E:=L (H<|w<i) (C (0<=w/\w<(F W:E)) (L (H<|M W w.toNat 0<0) (Z 120)<|L (H<|M W w.toNat 0>=(F J:E)) (Z 120)<|L (M W w.toNat 0==X) (Z 120)<|L (H<|w>0) (C (AI (w-1)/\(0<=(w-1)/\(w-1)<(F c:E))) (L (H<|M c (w-1).toNat 0>=M W w.toNat 0) (Z 120)<|C (0<=M W w.toNat 0/\M W w.toNat 0<(F J:E)) ((QO n (M J (M W w.toNat 0).toNat []) X).bind λf=>L (!f) (Z 120)<|C (AI<|w+1) (self<|.l2 X c m W i<|w+1) V) V) V)<|C (0<=M W w.toNat 0/\M W w.toNat 0<(F J:E)) ((QO n (M J (M W w.toNat 0).toNat []) X).bind λf=>L (!f) (Z 120)<|C (AI<|w+1) (self<|.l2 X c m W i<|w+1) V) V) V)<|C (AI<|m+1) (self<|.l1<|m+1) V
def zAb(n:U)(self:VG->A E)(J:O Ξ):A E:=L (H<|(F J:E)>256) (Z 120)<|self<|.l1 0
def LZ(J:O Ξ):U->VG->A E
 |0,_=>V
 |n+1,.l1 m=>qD n (LZ J n) J m
 |n+1,.l2 X c m W i w=>gy n (LZ J n) J X c m W i w
def ZN(n:U)(J:O Ξ):A E:=zAb n (LZ J n) J
def zPQ(n ϙ:U)(N:Yd 0)(J:O Ξ)(r:E):VG->Prop:=px n ϙ η N (FQ Tryz.f80 0 (.i r) []) (AZ Tryz.f80) λ
 | .l1 m=>(0,0,AF 61 [(0,.sl 1 (F J)<|AM AW J),(10,.sl 1 (F J)<|AM AW J),(11,.i (F J:E)),(12,.i m)],[])
 | .l2 X c m W a w=>(1,2,AF 61 [(0,.sl 1 (F J)<|AM AW J),(3,.i X),(4,.ints c),(10,.sl 1 (F J)<|AM AW J),(11,.i (F J:E)),(12,.i m),(17,.ints W),(18,.i a),(19,.i w)],[])
def zPR(ϙ:U)(N:Yd 0)(J:O Ξ):Al (LZ J) (zPQ · ϙ N J):=ia (λ_=>rfl) λn I G r h=>by
 cases G
 case l1 A4=>
  intro q a;refine rd a λq a=>?_
  revert r;apply gO;exact bi 13 (gi (lN AC [] (I _ _ · q n a χ)))<|lE AC [2] []
 case l2 x3 x4 A4 Bb NE EG=>
  intro q S a c;have a:=zBE a;refine rd c λS c=>?_
  revert r;apply gO;exact bi 20 (gi (bi 25 (lE AC [2] []) (bi 30 (lE AC [2] []) (bi 35 (lE AC [2] []) (bi 39 (gc (gw 43 (gi (bi 47 (lE AC [2] []) (gi (cf zBZ [] λ_=>bi 57 (lE AC [2] []) (gw 59 (lG AC [] (I _ _ · q S a c))))))))) (gi (cf zBZ [] λ_=>bi 57 (lE AC [2] []) (gw 59 (lG AC [] (I _ _ · q S a c)))))))))) (gw 60 (lG AC [] (I _ _ · q a)))
def zAa{r:E}(h:ZN n J=Z r):EQ 80 [.sl 1 (F J)<|AM AW J] [] (.i r) [] T:=by
 refine ot Tryz.func80 λϙ N=>?_
 revert r;apply gO;exact bi 9 (lE AC [2] []) (lN AC [] ((zPR ϙ N J n) _ _ · n χ))
end
section
set_option maxRecDepth 100000
set_option maxHeartbeats 40000000
def sP(n:U)(v lo hi:E):A ζ:=L (H<|v<lo) (Z T)<|Z<|H<|v>hi
def j7(n:U)(v lo hi:E):A ζ:=sP n v lo hi
variable{r:ζ}{lo hi:E}{n:U}
def zDE{v:E}(h:j7 n v lo hi=Z r):EQ 106 [.i v,.fp 1<|L1 [.i lo],.fp 1<|L1 [.i hi]] [] (.bool r) [] T:=by
 refine ot Tryz.func106 λϙ N=>?_
 revert r;apply gO;exact bi 7 (lE AC [4] [])<|lE AC [4] []
inductive fZ where
 |l1 (x8:E)
def nl(n:U)(self:fZ->A E)(l:Ξ)(lo hi:E)(x8:E):A E:=L (H<|x8<(F l:E)) (C (0<=x8/\x8<(F l:E)) ((j7 n (M l x8.toNat 0) lo hi).bind λf=>L f (Z x8)<|C (AI<|x8+1) (self<|.l1<|x8+1) V) V)<|Z<|-1
def zK(n:U)(self:fZ->A E)(l:Ξ)(lo hi:E):A E:=self<|.l1 0
def Rm(l:Ξ)(lo hi:E):U->fZ->A E
 |0,_=>V
 |n+1,.l1 x8=>nl n (Rm l lo hi n) l lo hi x8
def fe(n:U)(l:Ξ)(lo hi:E):A E:=zK n (Rm l lo hi n) l lo hi
def zL4(n ϙ:U)(N:Yd 0)(l:Ξ)(lo hi:E)(r:E):fZ->Prop:=px n ϙ η N (FQ Tryz.f111 0 (.i r) []) (AZ Tryz.f111) λ
 | .l1 x8=>(0,0,AF 19 [(0,.ints l),(1,.fn 106 2<|L1 [.fp 1<|L1 [.i lo],.fp 1<|L1 [.i hi]]),(7,.i (F l:E)),(8,.i x8)],[])
def zL5(ϙ:U)(N:Yd 0)(l:Ξ)(lo hi:E):Al (Rm l lo hi) (zL4 · ϙ N l lo hi):=ia (λ_=>rfl) λn I G r h=>by
 cases G
 case l1 x8=>
  intro q a;refine rd a λq a=>?_
  revert r;apply gO;exact bi 9 (gi (cf zDE [] λ_=>bi 16 (lE AC [4] []) (gw 18 (lG AC [] (I _ _ · q a)))))<|lE AC [4] []
variable{l:Ξ}
def zL2{r:E}(h:fe n l lo hi=Z r):EQ 111 [.ints l,.fn 106 2<|L1 [.fp 1<|L1 [.i lo],.fp 1<|L1 [.i hi]]] [] (.i r) [] T:=by
 refine ot Tryz.func111 λϙ N=>?_
 revert r;apply gO;exact lN AC [] ((zL5 ϙ N l lo hi n) _ _ · n χ)
def qe(n:U)(l:Ξ)(lo hi:E):A ζ:=(fe n l lo hi).bind λf=>Z<|H<|f>=0
def ir(n:U)(l:Ξ)(lo hi:E):A ζ:=qe n l lo hi
def zRF(h:ir n l lo hi=Z r):EQ 105 [.ints l,.fn 106 2<|L1 [.fp 1<|L1 [.i lo],.fp 1<|L1 [.i hi]]] [] (.bool r) [] T:=by
 unfold ir qe at h;refine ot Tryz.func105 λϙ N=>?_
 revert r;apply gO;exact cf zL2 [] λ_=>lE AC [4] []
def mH(n:U)(l:Ξ)(lo hi:E):A ζ:=(ir n l lo hi).bind λf=>Z<|!f
def PK(n:U)(l:Ξ)(lo hi:E):A ζ:=mH n l lo hi
def dJ{a:Ξ}(h:PK n a lo hi=Z r):EQ 79 [.ints a,.i lo,.i hi] [] (.bool r) [] T:=by
 unfold PK mH at h;refine ot Tryz.func79 λϙ N=>?_
 revert r;apply gO;exact cn λy1 P=>jc (sb [.ints a,.fn 106 2<|L1 [.ref 0 0,.ref 1 0]] (zRF P) [oC [.i lo],oC [.i hi]] ⟨Ad.plain Z5,Ad.fnL (l:=[.ref 0 0,.ref 1 0]) (l0:=[.fp 1<|L1 [.i lo],.fp 1<|L1 [.i hi]]) ⟨Ad.refL (l:=[.i lo]) (l0:=[.i lo]) rfl ⟨Ad.plain Z5,trivial⟩,Ad.refL (l:=[.i hi]) (l0:=[.i hi]) rfl ⟨Ad.plain Z5,trivial⟩,trivial⟩,trivial⟩)<|lE AC [6] []
def zGd:Ar (Am Tryz.f83 24) [([0,1,2,3,5,6,7,8],4),([],9),([10,11,12,13,14],15),([],16),([17,18,19,20,21,22,23,24,25,26],27)] [28,29] []:=Z0
def Eu:BZ:=λi=>match i with
 |24=>.ord [([0,1,2,3,5,6,7,8],4),([],9),([10,11,12,13,14],15),([],16),([17,18,19,20,21,22,23,24,25,26],27)] [28,29] []
 |_=>.no
def zm(q:AA)(Y:AE):DH:=[oC<|AG q,oC<|BD Y,oI ([Y.set,Y.other]:Ξ),oI ([Y.lo,Y.hi]:Ξ)]
inductive QC where
 |l1 (Ab:E) (o2:Ω)
 |l2
def ZY(n:U)(self:QC->A ζ)(q:AA)(Y:AE)(a:E)(Q:Ω):A ζ:=L (H<|a<(F Y.ce:E)) (C (0<=a/\a<(F Y.ce:E)) (L (H<|M Y.ce a.toNat 0<0) (Z D)<|L (H<|M Y.ce a.toNat 0>=q.ce) (Z D)<|C ((0<=M Y.ce a.toNat 0/\M Y.ce a.toNat 0<((256:U):E))/\0+(M Y.ce a.toNat 0).toNat<F Q) (L (M Q (0+(M Y.ce a.toNat 0).toNat) D) (Z D)<|L (H<|Y.kind>=8) (L (M Y.ce a.toNat 0 != a) (Z D)<|C (AI<|a+1) (self<|.l1 (a+1)<|Q.set (0+(M Y.ce a.toNat 0).toNat) T) V)<|C (AI<|a+1) (self<|.l1 (a+1)<|Q.set (0+(M Y.ce a.toNat 0).toNat) T) V) V) V)<|L (Y.kind==1) (self<|.l2)<|L (Y.kind==2) (self<|.l2)<|L (Y.kind==3) (self<|.l2)<|L (Y.kind==4) (self<|.l2)<|L (Y.kind==5) (self<|.l2)<|L (Y.kind==6) (L ((F Y.ce:E) != 2) (Z D)<|self<|.l2)<|L (Y.kind==7) (L ((F Y.ce:E) != 2) (Z D)<|self<|.l2)<|L (Y.kind==8) (L ((F Y.ce:E) != q.ce) (Z D)<|self<|.l2)<|L (Y.kind==9) (L ((F Y.ce:E) != q.ce) (Z D)<|self<|.l2)<|Z D
def qN(n:U)(self:QC->A ζ)(q:AA)(Y:AE):A ζ:=C ((0<=q.sy/\q.sy<=(IntKind.i64.bits:E))/\AI ((IntKind.i64.wrap<|1*2^(q.sy).toNat)-1)) ((PK n ([Y.set,Y.other]:Ξ) 0<|(IntKind.i64.wrap<|1*2^(q.sy).toNat)-1).bind λf=>L f ((PK n ([Y.lo,Y.hi]:Ξ) 0 65536).bind λG=>L G (L (H<|(F Y.ru:E)<=8) ((PK n Y.ru 1 256).bind λy3=>Z y3)<|Z D)<|Z D)<|Z D) V
def zAq(n:U)(self:QC->A ζ)(q:AA)(c_:AE):A ζ:=self<|.l1 0<|d 256 D
def VN(q:AA)(Y:AE):U->QC->A ζ
 |0,_=>V
 |n+1,.l1 a Q=>ZY n (VN q Y n) q Y a Q
 |n+1,.l2=>qN n (VN q Y n) q Y
def iH(n:U)(q:AA)(Y:AE):A ζ:=zAq n (VN q Y n) q Y
def zPs(n ϙ:U)(N:Yd 0)(q:AA)(Y:AE)(r:ζ):QC->Prop:=px n ϙ η N (FQ Tryz.f83 0 (.bool r) []) (AZ Tryz.f83) λ
 | .l1 a Q=>(0,0,AF 95 [(2,.ref 0 0),(3,.ref 1 0),(5,.mp 2 1 0 0),(9,.ints Y.ce),(10,.i (F Y.ce:E)),(11,.i a)],[oC<|AG q,oC<|BD Y,Z<|.bools Q])
 | .l2=>(3,24,AF 95 [(2,.ref 0 0),(3,.ref 1 0)],[oC<|AG q,oC<|BD Y])
def zPt(ϙ:U)(N:Yd 0)(q:AA)(Y:AE):Al (VN q Y) (zPs · ϙ N q Y):=ia (λ_=>rfl) λn I G r h=>by
 cases G
 case l1 Ab o2=>
  intro b a;refine rd a λb a=>?_
  revert r;apply gO;exact bi 12 (gi (bi 17 (lE (AQ 24 Eu) [4] []) (bi 22 (lE (AQ 24 Eu) [4] []) (gc (gn λp=>jg p (gn λu=>jg u (bi 27 (lE (AQ 24 Eu) [4] []) (bi 32 (bi 36 (lE (AQ 24 Eu) [4] []) (jg p (jg u (gw 41 (lG (AQ 24 Eu) [0,1,2] (I _ _ · b a)))))) (jg p (jg u (gw 41 (lG (AQ 24 Eu) [0,1,2] (I _ _ · b a))))))))))))) (bi 45 (lG (AQ 24 Eu) [0,1] (I _ _ ·)) (bi 46 (lG (AQ 24 Eu) [0,1] (I _ _ ·)) (bi 47 (lG (AQ 24 Eu) [0,1] (I _ _ ·)) (bi 48 (lG (AQ 24 Eu) [0,1] (I _ _ ·)) (bi 49 (lG (AQ 24 Eu) [0,1] (I _ _ ·)) (bi 51 (bi 56 (lE (AQ 24 Eu) [4] []) (lG (AQ 24 Eu) [0,1] (I _ _ ·))) (bi 52 (bi 56 (lE (AQ 24 Eu) [4] []) (lG (AQ 24 Eu) [0,1] (I _ _ ·))) (bi 58 (bi 65 (lE (AQ 24 Eu) [4] []) (lG (AQ 24 Eu) [0,1] (I _ _ ·))) (bi 59 (bi 65 (lE (AQ 24 Eu) [4] []) (lG (AQ 24 Eu) [0,1] (I _ _ ·)))<|lE (AQ 24 Eu) [4] [])))))))))
 case l2=>
  revert r;apply gO;exact jg zGd<|gc<|gi<|gw 74<|cn λy1 P=>jc (sb [.msl 2 1 0 2,.i 0,.i<|(IntKind.i64.wrap<|1*2^(q.sy).toNat)-1] (dJ P) [oC<|AG q,oC<|BD Y,oI ([Y.set,Y.other]:Ξ)] ⟨Ad.ints rfl (φ 2),Ad.plain Z5,Ad.plain Z5,trivial⟩)<|bi 75 (cn λy2 x=>jc (sb [.msl 3 1 0 2,.i 0,.i 65536] (dJ x) (zm q Y) ⟨Ad.ints rfl (φ 2),Ad.plain Z5,Ad.plain Z5,trivial⟩)<|bi 82 (bi 88 (cf dJ (zm q Y) λ_=>lE Eu [4] [])<|lE Eu [4] [])<|lE Eu [4] [])<|lE Eu [4] []
variable{Y:AE}{q:AA}
def zPq(h:iH n q Y=Z r):EQ 83 [.agg 5<|L1<|AG q,.agg 9<|L1<|BD Y] [] (.bool r) [] T:=by
 refine ot Tryz.func83 λϙ N=>?_
 revert r;apply gO;exact lN (AQ 24 Eu) [0,1,2] ((zPt ϙ N q Y n) _ _ · n χ)
def kG(n:U)(c:AE)(q:AA):A ζ:=(iH n q c).bind λf=>Z<|!f
def bF(n:U)(c:AE)(q:AA):A ζ:=kG n c q
def zDa{c:AE}(h:bF n c q=Z r):EQ 82 [.agg 9<|L1<|BD c,.fp 5<|L1<|AG q] [] (.bool r) [] T:=by
 unfold bF kG at h;refine ot Tryz.func82 λϙ N=>?_
 revert r;apply gO;exact cf zPq [oC<|BD c] λ_=>lE AC [3] []
inductive fW where
 |l1 (x8:E)
def fV(n:U)(self:fW->A E)(l:O AE)(q:AA)(x8:E):A E:=L (H<|x8<(F l:E)) (C (0<=x8/\x8<(F l:E)) ((bF n (M l x8.toNat ξ) q).bind λf=>L f (Z x8)<|C (AI<|x8+1) (self<|.l1<|x8+1) V) V)<|Z<|-1
def zI(n:U)(self:fW->A E)(l:O AE)(q:AA):A E:=self<|.l1 0
def Pk(l:O AE)(q:AA):U->fW->A E
 |0,_=>V
 |n+1,.l1 x8=>fV n (Pk l q n) l q x8
def fX(n:U)(l:O AE)(q:AA):A E:=zI n (Pk l q n) l q
def zLw(n ϙ:U)(N:Yd 0)(l:O AE)(q:AA)(r:E):fW->Prop:=px n ϙ η N (FQ Tryz.f108 0 (.i r) []) (AZ Tryz.f108) λ
 | .l1 x8=>(0,0,AF 19 [(0,.sl 9 (F l)<|AM BD l),(1,.fn 82 1<|L1 [.fp 5<|L1<|AG q]),(7,.i (F l:E)),(8,.i x8)],[])
def zLx(ϙ:U)(N:Yd 0)(l:O AE)(q:AA):Al (Pk l q) (zLw · ϙ N l q):=ia (λ_=>rfl) λn I G r h=>by
 cases G
 case l1 x8=>
  intro b a;refine rd a λb a=>?_
  revert r;apply gO;exact bi 9 (gi (cf zDa [] λ_=>bi 16 (lE AC [4] []) (gw 18 (lG AC [] (I _ _ · b a)))))<|lE AC [4] []
def zLv{l:O AE}{r:E}(h:fX n l q=Z r):EQ 108 [.sl 9 (F l)<|AM BD l,.fn 82 1<|L1 [.fp 5<|L1<|AG q]] [] (.i r) [] T:=by
 refine ot Tryz.func108 λϙ N=>?_
 revert r;apply gO;exact lN AC [] ((zLx ϙ N l q n) _ _ · n χ)
def qc(n:U)(l:O AE)(q:AA):A ζ:=(fX n l q).bind λf=>Z<|H<|f>=0
def ip(n:U)(l:O AE)(q:AA):A ζ:=qc n l q
def zRD{l:O AE}(h:ip n l q=Z r):EQ 81 [.sl 9 (F l)<|AM BD l,.fn 82 1<|L1 [.fp 5<|L1<|AG q]] [] (.bool r) [] T:=by
 unfold ip qc at h;refine ot Tryz.func81 λϙ N=>?_
 revert r;apply gO;exact cf zLv [] λ_=>lE AC [4] []
def sV(n:U)(q:AA):A E:=L (H<|q.ce<1) (Z 191)<|L (H<|q.ce>256) (Z 191)<|L (H<|q.sy<1) (Z 191)<|L (H<|q.sy>16) (Z 191)<|L ((F q.va:E) != q.sy) (Z 191)<|(PK n q.va 0 99).bind λf=>L (!f) (Z 191)<|L ((F q.nb:E) != q.ce) (Z 191)<|(ZN n q.nb).bind λG=>L (G != 0) (Z 191)<|L (H<|(F q.cons:E)>4096) (Z 191)<|(ip n q.cons q).bind λy3=>L y3 (Z 191)<|Z 0
def valid(n:U)(q:AA):A E:=sV n q
def ax{r:E}(h:valid n q=Z r):EQ 51 [.agg 5<|L1<|AG q] [] (.i r) [] T:=by
 refine ot Tryz.func51 λϙ N=>?_
 revert r;apply gO;exact bi 5 (lE AC [2] [])<|bi 9 (lE AC [2] [])<|bi 14 (lE AC [2] [])<|bi 19 (lE AC [2] [])<|bi 27 (lE AC [2] [])<|cf dJ [oC<|AG q] λ_=>bi 33 (lE AC [2] [])<|bi 40 (lE AC [2] [])<|cf zAa [oC<|AG q] λ_=>bi 45 (lE AC [2] [])<|bi 51 (lE AC [2] [])<|cn λy3 c=>jc (sb [.sl 9 (F q.cons)<|AM BD q.cons,.fn 82 1<|L1 [.ref 0 0]] (zRD c) [oC<|AG q] ⟨Ad.plain Z5,Ad.fnL (l:=[.ref 0 0]) (l0:=[.fp 5<|L1<|AG q]) ⟨Ad.refL (l:=AG q) (l0:=AG q) rfl ⟨Ad.plain Z5,Ad.plain Z5,Ad.plain Z5,Ad.plain Z5,Ad.plain Z5,trivial⟩,trivial⟩,trivial⟩)<|bi 56 (lE AC [2] [])<|lE AC [2] []
def nN(n:U)(q:AA)(i:E):A Δ:=(valid n q).bind λf=>L (f != 0) (Z (0,f))<|L (H<|i<0) (Z (0,260))<|L (H<|i>=(F q.cons:E)) (Z (0,260))<|C ((0<=i/\i<(F q.cons:E))/\((0:E)<=(M q.cons i.toNat ξ).kind/\(M q.cons i.toNat ξ).kind<((10:U):E))) (Z (M ([0,1,1,2,2,3,1,1,4,4]:Ξ) ((M q.cons i.toNat ξ).kind).toNat 0,0)) V
def Rf(n:U)(q:AA)(i:E):A Δ:=nN n q i
def nM{i:E}{r:Δ}(h:Rf n q i=Z r):EQ 132 [.agg 5<|L1<|AG q,.i i] [] (.tup 2<|L1 [.i r.1,.i r.2]) [] T:=by
 unfold Rf nN at h;refine ot Tryz.func132 λϙ N=>?_
 revert r;apply gO;exact cf ax [oC<|AG q] λ_=>bi 10 (lE AC [4,5] [])<|bi 13 (lE AC [4,5] [])<|bi 19 (lE AC [4,5] [])<|gc<|gi<|gn λp=>jg p<|jo 28 (AO.ixI [0,1,1,2,2,3,1,1,4,4] rfl p)<|lE AC [4,5] []
inductive cy where
 |l1 (x7:E)
def XQ(n:U)(self:cy->A ζ)(Y:AE)(cells b:E)(p:E):A ζ:=L (H<|p<(F Y.ce:E)) (L (Y.kind==8) (C (0<=p/\p<(F Y.ce:E)) (L (M Y.ce p.toNat 0 != p) (Z D)<|C (AI<|p+1) (self<|.l1<|p+1) V) V)<|L (Y.kind==9) (C (0<=p/\p<(F Y.ce:E)) (L (M Y.ce p.toNat 0 != p) (Z D)<|C (AI<|p+1) (self<|.l1<|p+1) V) V)<|C (AI<|p+1) (self<|.l1<|p+1) V)<|C ((0<=b/\b<=(IntKind.i64.bits:E))/\AI ((IntKind.i64.wrap<|1*2^(b).toNat)-1)) ((QT n ([Y.set,Y.other]:Ξ) 0<|(IntKind.i64.wrap<|1*2^(b).toNat)-1).bind λf=>L f ((QT n ([Y.lo,Y.hi]:Ξ) 0 65536).bind λG=>L G (L (H<|(F Y.ru:E)<=8) ((QT n Y.ru 1 256).bind λy3=>Z y3)<|Z D)<|Z D)<|Z D) V
def wG(n:U)(self:cy->A ζ)(Y:AE)(cells BJ:E):A ζ:=L (H<|Y.kind<1) (Z D)<|L (H<|Y.kind>9) (Z D)<|L (H<|(F Y.ce:E)>cells) (Z D)<|C (AI<|cells-1) ((QT n Y.ce 0<|cells-1).bind λf=>L (!f) (Z D)<|(iV n Y.ce).bind λG=>L (!G) (Z D)<|L (Y.kind==6) (L ((F Y.ce:E) != 2) (Z D)<|L (Y.kind==8) (L ((F Y.ce:E) != cells) (Z D)<|self<|.l1 0)<|L (Y.kind==9) (L ((F Y.ce:E) != cells) (Z D)<|self<|.l1 0)<|self<|.l1 0)<|L (Y.kind==7) (L ((F Y.ce:E) != 2) (Z D)<|L (Y.kind==8) (L ((F Y.ce:E) != cells) (Z D)<|self<|.l1 0)<|L (Y.kind==9) (L ((F Y.ce:E) != cells) (Z D)<|self<|.l1 0)<|self<|.l1 0)<|L (Y.kind==8) (L ((F Y.ce:E) != cells) (Z D)<|self<|.l1 0)<|L (Y.kind==9) (L ((F Y.ce:E) != cells) (Z D)<|self<|.l1 0)<|self<|.l1 0) V
def RE(Y:AE)(cells b:E):U->cy->A ζ
 |0,_=>V
 |n+1,.l1 p=>XQ n (RE Y cells b n) Y cells b p
def dA(n:U)(Y:AE)(cells b:E):A ζ:=wG n (RE Y cells b n) Y cells b
def zIL(n ϙ:U)(N:Yd 0)(Y:AE)(cells b:E)(r:ζ):cy->Prop:=px n ϙ η N (FQ Tryz.f67 0 (.bool r) []) (AZ Tryz.f67) λ
 | .l1 p=>(0,0,AF 120 [(2,.i b),(3,.ref 0 0),(7,.i p)],[oC<|BD Y])
def zIM(ϙ:U)(N:Yd 0)(Y:AE)(cells b:E):Al (RE Y cells b) (zIL · ϙ N Y cells b):=ia (λ_=>rfl) λn I G r h=>by
 cases G
 case l1 x7=>
  intro q a;refine rd a λq a=>?_
  revert r;apply gO;exact bi 71 (bi 76 (gi (bi 89 (lE AC [6] []) (gw 73 (lG AC [0] (I _ _ · q a))))) (bi 80 (gi (bi 89 (lE AC [6] []) (gw 73 (lG AC [0] (I _ _ · q a))))) (gw 73 (lG AC [0] (I _ _ · q a)))))<|gc<|gi<|gw 93<|cn λy1 P=>jc (sb [.msl 1 1 0 2,.i 0,.i<|(IntKind.i64.wrap<|1*2^(b).toNat)-1] (aO P) [oC<|BD Y,oI ([Y.set,Y.other]:Ξ)] ⟨Ad.ints rfl (φ 2),Ad.plain Z5,Ad.plain Z5,trivial⟩)<|bi 100 (cn λy2 x=>jc (sb [.msl 2 1 0 2,.i 0,.i 65536] (aO x) [oC<|BD Y,oI ([Y.set,Y.other]:Ξ),oI ([Y.lo,Y.hi]:Ξ)] ⟨Ad.ints rfl (φ 2),Ad.plain Z5,Ad.plain Z5,trivial⟩)<|bi 107 (bi 113 (cf aO [oC<|BD Y,oI ([Y.set,Y.other]:Ξ),oI ([Y.lo,Y.hi]:Ξ)] λ_=>lE AC [6] [])<|lE AC [6] [])<|lE AC [6] [])<|lE AC [6] []
def zIH{cells b:E}(h:dA n Y cells b=Z r):EQ 67 [.agg 9<|L1<|BD Y,.i cells,.i b] [] (.bool r) [] T:=by
 have I:=λϙ N=>zIM ϙ N Y cells b n
 refine ot Tryz.func67 λϙ N=>?_
 revert r;apply gO;exact bi 11 (lE AC [6] []) (bi 15 (lE AC [6] []) (bi 22 (lE AC [6] []) (gw 28 (cf aO [oC<|BD Y] λ_=>bi 30 (lE AC [6] []) (cf zQS [oC<|BD Y] λ_=>bi 36 (lE AC [6] []) (bi 40 (bi 50 (lE AC [6] []) (bi 54 (bi 65 (lE AC [6] []) (lN AC [0] ((I ϙ N) _ _ · n χ))) (bi 58 (bi 65 (lE AC [6] []) (lN AC [0] ((I ϙ N) _ _ · n χ))) (lN AC [0] ((I ϙ N) _ _ · n χ))))) (bi 44 (bi 50 (lE AC [6] []) (bi 54 (bi 65 (lE AC [6] []) (lN AC [0] ((I ϙ N) _ _ · n χ))) (bi 58 (bi 65 (lE AC [6] []) (lN AC [0] ((I ϙ N) _ _ · n χ))) (lN AC [0] ((I ϙ N) _ _ · n χ))))) (bi 54 (bi 65 (lE AC [6] []) (lN AC [0] ((I ϙ N) _ _ · n χ))) (bi 58 (bi 65 (lE AC [6] []) (lN AC [0] ((I ϙ N) _ _ · n χ))) (lN AC [0] ((I ϙ N) _ _ · n χ)))))))))))
def zFo:Ar (Am Tryz.f48 8) [([0,1,2,3,4,5,6,7,8],9)] [10] []:=Z0
def JN:BZ:=λi=>match i with
 |8=>.ord [([0,1,2,3,4,5,6,7,8],9)] [10] []
 |_=>.no
inductive cR where
 |l1 (x3:E)
def cQ(n:U)(self:cR->A E)(q:AA)(X:E):A E:=L (H<|X<(F q.cons:E)) (C (0<=X/\X<(F q.cons:E)) ((dA n (M q.cons X.toNat ξ) q.ce q.sy).bind λf=>L (!f) (Z 191)<|C (AI<|X+1) (self<|.l1<|X+1) V) V)<|Z 0
def vK(n:U)(self:cR->A E)(q:AA):A E:=L (H<|q.ce<1) (Z 191)<|L (H<|q.ce>256) (Z 191)<|L (H<|q.sy<1) (Z 191)<|L (H<|q.sy>16) (Z 191)<|L ((F q.va:E) != q.sy) (Z 191)<|(QT n q.va 0 99).bind λf=>L (!f) (Z 191)<|L ((F q.nb:E) != q.ce) (Z 191)<|(PH n q.nb).bind λG=>L (G != 0) (Z 191)<|L (H<|(F q.cons:E)>4096) (Z 191)<|self<|.l1 0
def O1(q:AA):U->cR->A E
 |0,_=>V
 |n+1,.l1 X=>cQ n (O1 q n) q X
def Tz(n:U)(q:AA):A E:=vK n (O1 q n) q
def zGv(n ϙ:U)(N:Yd 0)(q:AA)(r:E):cR->Prop:=px n ϙ η N (FQ Tryz.f48 0 (.i r) []) (AZ Tryz.f48) λ
 | .l1 X=>(0,0,AF 72 [(1,.ref 0 0),(3,.i X)],[oC<|AG q])
def zGw(ϙ:U)(N:Yd 0)(q:AA):Al (O1 q) (zGv · ϙ N q):=ia (λ_=>rfl) λn I G r h=>by
 cases G
 case l1 x3=>
  intro b a;refine rd a λb a=>?_
  revert r;apply gO;exact bi 58 (jg zFo (gi (cf zIH [oC<|AG q] λ_=>bi 71 (lE JN [2] []) (gw 60 (lG JN [0] (I _ _ · b a))))))<|lE JN [2] []
def vJ{r:E}(h:Tz n q=Z r):EQ 48 [.agg 5<|L1<|AG q] [] (.i r) [] T:=by
 refine ot Tryz.func48 λϙ N=>?_
 revert r;apply gO;exact bi 6 (lE JN [2] []) (bi 10 (lE JN [2] []) (bi 15 (lE JN [2] []) (bi 20 (lE JN [2] []) (bi 28 (lE JN [2] []) (cf aO [oC<|AG q] λ_=>bi 34 (lE JN [2] []) (bi 41 (lE JN [2] []) (cf lz [oC<|AG q] λ_=>bi 46 (lE JN [2] []) (bi 52 (lE JN [2] []) (lN JN [0] ((zGw ϙ N q n) _ _ · n χ))))))))))
end
abbrev u8:=@Int.toNat_natCast
abbrev zAA:=@decide_eq_true
abbrev zAF:=@decide_eq_false
abbrev zAI:=@cond_true
abbrev zAJ:=@cond_false
abbrev zMS:=@beq_eq_false_iff_ne
abbrev zMW:=@decide_eq_false_iff_not
abbrev zMl:=@Int.natCast_nonneg
abbrev zMq:=@Bool.eq_iff_iff
abbrev zOA:=@Bool.true_and
abbrev zOF:=@bne_iff_ne
abbrev zOh:=@Int.eq_ofNat_of_zero_le
abbrev zOr:=@decide_true
abbrev zO4:=@List.pairwise_iff_getElem
abbrev zPA:=@List.exists_of_findSome?_eq_some
abbrev zTT:=@List.findSome?_eq_none_iff
abbrev zTc:=@List.mem_take_iff_getElem
abbrev zTi:=@and_self
abbrev zT0:=@bne_self_eq_false
abbrev zT7:=@List.contains_iff_mem
abbrev zUB:=@List.range'_succ
end Go.Proofs.YtnkpdcmbppkkpaaGreatDoor
namespace Go.Proofs.YtnkpdcmbppkkpaaGreatDoor
def Mh(lo hi:E)(n:E):ζ:=H (lo<=n)&&H (n<=hi)
def Ef(xs:Ξ)(lo hi:E):ζ:=xs.all<|Mh lo hi
def Hz(g:O Ξ)(i:U)(l:Ξ)(k:U):ζ:=
 let n:=M l k 0
 decide (0<=n)&&H (n<F g)&&(n != i)&&(!H (0<k)||H (M l (k-1) 0<n))&&(M g n.toNat []).contains (i:E)
def JO(g:O Ξ)(i:U)(l:Ξ):ζ:=(θ<|F l).all<|Hz g i l
def LY(g:O Ξ):ζ:=H (F g<=256)&&(θ<|F g).all λi=>JO g i<|M g i []
def Sl(n kind:E)(cells:Ξ)(i:U):ζ:=
 let x:=M cells i 0
 decide (0<=x)&&H (x<n)&&!(cells.take i).contains x&&(!H (8<=kind)||x==(i:E))
def jD(n kind:E)(cells:Ξ):ζ:=(θ<|F cells).all<|Sl n kind cells
def Is(n kind:E)(len:U):ζ:=(H (1<=kind)&&H (kind<=5))||((kind==6||kind==7)&&len==2)||((kind==8||kind==9)&&(len:E)==n)
def FY(q:AA)(c:AE):ζ:=jD q.ce c.kind c.ce&&Is q.ce c.kind (F c.ce)&& Ef [c.set,c.other] 0 (2^q.sy.toNat-1)&&Ef [c.lo,c.hi] 0 65536&&H (F c.ru<=8)&&Ef c.ru 1 256
def UV(l:Ξ):ζ:=(θ<|F l).all λi=>!(l.take i).contains (M l i 0)
def cz(c:AE)(n sy:E):ζ:=(H (1<=c.kind)&&H (c.kind<=9))&&H ((F c.ce:E)<=n)&&Ef c.ce 0 (n-1)&&UV c.ce&& (!(c.kind==6||c.kind==7)||F c.ce==2)&&(!(c.kind==8||c.kind==9)||((F c.ce:E)==n))&& (!(c.kind==8||c.kind==9)||(θ<|F c.ce).all λi=>M c.ce i 0==(i:E))&& Ef [c.set,c.other] 0 (2^sy.toNat-1)&&Ef [c.lo,c.hi] 0 65536&&H (F c.ru<=8)&&Ef c.ru 1 256
theorem UU:∀(n:U) (l:Ξ),l.Nodup->(∀x∈l,0<=x/\x<(n:E))->F l<=n
 |0,l,_,h=>by
  cases l with
  |nil=>simp
  |cons a l=>have:=h a Z3;omega
 |n+1,l,r,h=>by
  have h1:F (l.erase (n:E))<=n:=UU n _ (r.erase _) (λx hx=>by
   grind)
  grind
variable{l:Ξ}
theorem xg :UV l=T↔l.Nodup:=by
 unfold UV List.Nodup;rw[zAP,zO4];constructor
 ·intro h i j hi g Yq e;have:=h j (by simpa using g);simp only[zAL,zBx g,zPU,zKL]at this;rw[zO9,ne_eq,zT7,zTc]at this;exact this ⟨i,Z2,e⟩
 ·intro h i hi;have Q:i<F l:=by simpa using hi
  simp only[zAL,zBx Q,zPU,zKL];rw[zO9,ne_eq,zT7,zTc]
  grind
theorem WB{lo hi:E}:Ef l lo hi=T↔∀x∈l,lo<=x/\x<=hi:=by
 unfold Ef;simp[Mh]
variable{n kind:E}
theorem qv{cells:Ξ}:jD n kind cells=T↔(∀x∈cells,0<=x/\x<n)/\cells.Nodup/\(8<=kind->∀j,j<F cells->M cells j 0=(j:E)):=by
 rw[←xg];unfold jD UV Sl;simp only[zAP,zAV,zAK,zLV,zCz,zKL,zB1,zMW];constructor
 ·intro h;refine⟨λx e=>?_,λj g=>(h j g).1.2,λh8 j g=>?_⟩
  ·obtain⟨j,g,rfl⟩:=zJw e
   grind
  grind
 grind
theorem zIK(q:AA)(c:AE)(h1:1<=q.ce):cz c q.ce q.sy=FY q c:=by
 rw[zMq];unfold cz FY;simp only[zAK,qv,xg,WB (l:=c.ce),zCz,zKL,Bool.or_eq_false_iff,zB1,zMS,zLV,zAP,zAV,Is];constructor
 ·grind
 ·rintro⟨⟨⟨⟨⟨⟨I,K,k3⟩,k4⟩,k9⟩,k10⟩,k11⟩,k12⟩
  have Aj:(F c.ce:E)<=q.ce:=by
   have:=UU q.ce.toNat c.ce K (λx e=>by have:=I x e;omega);omega
  grind
def CR(q:AA):ζ:=H (1<=q.ce)&&H (q.ce<=256)&&H (1<=q.sy)&&H (q.sy<=16)&&((F q.va:E)==q.sy)&&Ef q.va 0 99&& ((F q.nb:E)==q.ce)&&LY q.nb&&H (F q.cons<=4096)&&q.cons.all (FY q)
def Mc(kind:E):E:=C (kind=3∨kind=4) 2<|C (kind=5) 3<|C (kind=8∨kind=9) 4 1
def Np(q:AA)(i:E):Δ:=C (CR q=D) (0,191)<|C (0<=i/\i<F q.cons) (Mc<|(M q.cons i.toNat ξ).kind,0) (0,260)
variable{q:AA}
theorem Dy(h:CR q=T):(1<=q.ce/\q.ce<=256)/\(1<=q.sy/\q.sy<=16)/\((F q.va:E)=q.sy/\Ef q.va 0 99=T)/\
 ((F q.nb:E)=q.ce/\LY q.nb=T)/\F q.cons<=4096/\∀c∈q.cons,FY q c=T:=by
 simp_all[CR]
theorem yn{c:AE}(h:FY q c=T):Is q.ce c.kind (F c.ce)=T:=by
 simp_all[FY]
theorem Pg{len:U}(h:Is n kind len=T):1<=kind/\kind<=9:=by
 grind[Is]
theorem Ph{k:E}(h:1<=k/\k<=9):k=1∨k=2∨k=3∨k=4∨k=5∨k=6∨k=7∨k=8∨k=9:=Z2
end Go.Proofs.YtnkpdcmbppkkpaaGreatDoor
namespace Go.Proofs.YtnkpdcmbppkkpaaGreatDoor
open Go.RowKit
section
variable{R:Type}
theorem u5(m:U->E->A R)(len S:U)(ϙ:U->A R)(h0:∀(n i:U),S<=n->i<len->m (n+1) (i:E)=(ϙ i).or (m n<|(i:E)+1)):
 ∀(k i n:U),i+k=len->S<=n->m (n+k) (i:E)=((List.range' i k).findSome? ϙ).or (m n (len:E))
 |0,i,n,h,s=>by
  grind
 |k+1,i,n,h,s=>by
  show m (n+k+1) (i:E)=_
  rw[h0 (n+k) i Z2 Z2,zUB,List.findSome?_cons];cases ϙ i with
  |some r=>rfl
  |none=>
   have:=u5 m len S ϙ h0 k (i+1) n Z2 s;rw[←this];simp
variable{n:U}
theorem L9(m:U->E->A R)(len S:U)(ϙ:U->A R)(h0:∀(n i:U),S<=n->i<len->m (n+1) (i:E)=(ϙ i).or (m n<|(i:E)+1))(hn:S+len<=n):
 m n 0=((θ len).findSome? ϙ).or (m (n-len) (len:E)):=by
 have:=u5 m len S ϙ h0 len 0 (n-len) Z2 Z2
 grind[List.range_eq_range']
theorem SY{l:Θ}{p:U->ζ}{r:R}:(l.findSome? λi=>C (p i) V<|Z r)=C (l.all p) V (Z r):=by
 induction l with
 |nil=>rfl
 |cons a l ih=>
  grind
theorem XU{α:Type}{l:O α}{Ϛ:α}{p:α->ζ}:((θ<|F l).all λi=>p<|l.getD i Ϛ)=l.all p:=by
 rw[zMq,zAP,zAP];constructor
 ·intro h x e;obtain⟨i,hi,rfl⟩:=zJw e
  simp_all
 grind
theorem r64{i len:U}(h:i<len)(hl:len<=LB):AI<|(i:E)+1:=by grind[Ae,LB]
variable{lo up:E}{l:Ξ}
theorem aP(a:F l<=LB)(hn:F l<n):QT n l lo up=Z (Ef l lo up):=by
 unfold QT zB6;have S:=L9 (λn i=>Vk l lo up n<|.l1 i) (F l) 0 (λi=>C (Mh lo up<|M l i 0) V<|Z D) (λn i _ hi=>?_) (n:=n) Z2
 ·refine S.trans ?_;rw[SY,XU (p:=Mh lo up)];unfold Ef;cases l.all (Mh lo up)with
  |false=>rfl
  |true=>
   obtain⟨m,hm⟩:∃m,n-F l=m+1:=⟨n-F l-1,Z2⟩
   grind[Vk,q8]
 ·have b:(i:E)<(F l:E):=Z2
  have c:=r64 hi a;simp only[Vk,q8,b,c,zOr,zAI,zMl,zTi,zN6,u8,Mh]
  grind
theorem zL3(a:F l<=LB)(hn:F l<n):∃r:E,fe n l lo up=Z r/\(0<=r↔Ef l lo up=D):=by
 unfold fe zK;have S:=L9 (λn i=>Rm l lo up n<|.l1 i) (F l) 0 (λi=>C (Mh lo up<|M l i 0) V<|Z (i:E)) (λn i _ hi=>?_) (n:=n) Z2
 ·have S:=S;rw[show Rm l lo up n (.l1 0)=_ from S];cases g:(θ<|F l).findSome? (λi=>C (Mh lo up<|M l i 0) V<|Z (i:E))with
  |some r=>
   refine⟨r,rfl,?_⟩;obtain⟨i,hi,hr⟩:=zPA g
   grind[Ef]
  |none=>
   obtain⟨m,z⟩:∃m,n-F l=m+1:=⟨n-F l-1,Z2⟩;refine⟨-1,by rw[z];simp[Rm,nl],?_⟩;rw[zTT]at g
   have:Ef l lo up=T:=by
    unfold Ef;rw[←XU (p:=Mh lo up) (Ϛ:=(0:E)),zAP]
    grind
   simp[this]
 ·have b:(i:E)<(F l:E):=Z2
  have c:=r64 hi a;simp only[Rm,nl,j7,sP,b,c,zOr,zAI,zMl,zTi,zN6,u8,Mh]
  grind
theorem dK(m:F l<=LB)(s:F l<n):PK n l lo up=Z (Ef l lo up):=by
 obtain⟨r,h1,h2⟩:=zL3 (lo:=lo) (up:=up) m s
 grind[PK,mH,ir,qe]
variable{x:E}
theorem zOt(a:F l<=LB)(hn:F l<n):has n l x=Z (l.contains x):=by
 unfold has zAH;have S:=L9 (λn i=>VA l x n<|.l1 i) (F l) 0 (λi=>C (M l i 0 != x) V<|Z T) (λn i _ hi=>?_) (n:=n) Z2
 ·refine S.trans ?_;rw[SY,XU (p:=λy=>y != x)]
  have e:l.all (λy=>y != x)= !l.contains x:=by
   grind
  rw[e];cases l.contains x with
  |true=>rfl
  |false=>
   obtain⟨m,z⟩:∃m,n-F l=m+1:=⟨n-F l-1,Z2⟩;rw[z];simp[VA,pa]
 ·have b:(i:E)<(F l:E):=Z2
  have c:=r64 hi a;simp only[VA,pa,b,c,zOr,zAI,zMl,zTi,zN6,u8]
  grind
theorem zRI(b:F l<=LB)(hn:F l<n):QO n l x=Z (l.contains x):=by
 have:∃r:E,fg n l x=Z r/\(0<=r↔l.contains x=T):=by
  unfold fg zM;have S:=L9 (λn i=>Rn l x n<|.l1 i) (F l) 0 (λi=>C (x != M l i 0) V<|Z (i:E)) (λn i _ hi=>?_) (n:=n) Z2
  ·rw[show Rn l x n (.l1 0)=_ from S];cases g:(θ<|F l).findSome? (λi=>C (x != M l i 0) V<|Z (i:E))with
   |some r=>
    refine⟨r,rfl,?_⟩;obtain⟨i,hi,hr⟩:=zPA g
    grind
   |none=>
    obtain⟨m,z⟩:∃m,n-F l=m+1:=⟨n-F l-1,Z2⟩;refine⟨-1,by rw[z];simp[Rn,nm],?_⟩;rw[zTT]at g
    have:l.contains x=D:=by
     rw[zO9]
     grind[List.getElem_of_mem]
    rw[this];simp
  ·have a:(i:E)<(F l:E):=Z2
   have c:=r64 hi b;simp only[Rn,nm,a,c,zOr,zAI,zMl,zTi,zN6,u8]
   grind
 obtain⟨r,a,c⟩:=this
 simp_all[QO,qf]
end
section
def GU(g:O Ξ):U:=(g.map λr=>F r+2).sum
def j0:∀{g:O Ξ} {r:Ξ},r∈g->F r+2<=GU g
 |[],_,h=>by cases h
 |a::g,r,h=>by
  simp only[GU,zOq,List.sum_cons];rcases zMk.1 h with rfl|h
  ·omega
  ·have:=j0 h;unfold GU at this;omega
variable{v:U}{g:O Ξ}
theorem sN(hv:v<F g):GU (g.drop v)=F (M g v [])+2+GU (g.drop<|v+1):=by
 grind[List.drop_eq_getElem_cons,GU]
theorem gx(hv:v<F g):M g v []∈g:=by
 grind
section
variable{g:O Ξ}{v j n:U}
theorem xo{R:Type}(next K:R)(c:ζ->R)(hc:c T=next)(N9:c D=K)(hv:v<F g)(hj:j<F (M g v [])):
 (C (Hz g v (M g v []) j) (next) K)=
  (if M (M g v []) j 0<0 then K else if M (M g v []) j 0>=(F g:E)then K else if M (M g v []) j 0=(v:E)then K else
   if 0<j then C (M (M g v []) (j-1) 0>=M (M g v []) j 0) K<|c<|(M g (M (M g v []) j 0).toNat []).contains (v:E)
   else c<|(M g (M (M g v []) j 0).toNat []).contains (v:E)):=by
 unfold Hz
 grind
variable{len:U}
theorem wW{j:U}(h:j<len)(hl:len<=LB):AI<|(j:E)-1:=by grind[Ae,LB]
def wh{j:U}(h:0<j)(h2:j<len):((0:E)<=(j:E)-1/\(j:E)-1<(len:E))/\((j:E)-1).toNat=j-1/\(j:E)>0:=Z2
theorem zIl{self:UE->A E}(o:v<F g)(hg:F g<=256)(c:j<F (M g v []))(i:∀r∈g,F r<=LB)(s:∀r∈g,F r<n):
 dH n self g (v:E) (j:E)=(C (Hz g v (M g v []) j) V<|Z (120:E)).or (self<|.l2 (v:E)<|(j:E)+1):=by
 have p:=i _<|gx o;have h:(v:E)<(F g:E):=Z2
 have k:(j:E)<(F<|M g v []:E):=Z2
 have l:=r64 c p;have key:=xo (g:=g) (v:=v) (j:=j) (self<|.l2 (v:E)<|(j:E)+1) (Z (120:E)) (λb=>L b (self<|.l2 (v:E)<|(j:E)+1)<|Z 120) rfl rfl o c
 have y:((C (Hz g v (M g v []) j) V<|Z (120:E)).or<|self<|.l2 (v:E)<|(j:E)+1)=(C (Hz g v (M g v []) j) (self<|.l2 (v:E)<|(j:E)+1)<|Z 120):=by
  grind
 rw[y,key];simp only[dH,h,k,l,zOr,zAI,zMl,zTi,zN6,u8];obtain⟨x,m⟩:∃x,M (M g v []) j 0=x:=⟨_,rfl⟩;simp only[m]
 by_cases a:x<0
 ·simp[a]
 by_cases b:x>=(F g:E)
 ·simp[a,b]
 by_cases Ϛ:x=(v:E)
 ·simp[a,b,Ϛ]
 have d':(x==(v:E))=D:=by simp[Ϛ]
 have f:M g x.toNat []∈g:=gx Z2;have hh:has n (M g x.toNat []) (v:E)=Z ((M g x.toNat []).contains (v:E)):=zOt (i _ f)<|s _ f;have LF:0<=x/\x<(F g:E):=Z2
 have fin:((has n (M g x.toNat []) (v:E)).bind λq=>L (!q) (Z (120:E))<|self<|.l2 (v:E)<|(j:E)+1)=(L ((M g x.toNat []).contains (v:E)) (self<|.l2 (v:E)<|(j:E)+1)<|Z 120):=by
  grind
 by_cases e:0<j
 ·have h4:AI ((j:E)-1)/\((0:E)<=(j:E)-1/\(j:E)-1<(F<|M g v []:E)):=⟨wW c p,(wh e c).1⟩
  simp_all[zAt]
 grind
theorem zPS{self:VG->A E}{row:Ξ}(R:row=M g v [])(o:v<F g)(hg:F g<=256)(f:j<F (M g v []))(i:∀r∈g,F r<=LB)(s:∀r∈g,F r<n):
 gy n self g (v:E) row (v:E) row (F row:E) (j:E)=(C (Hz g v (M g v []) j) V<|Z (120:E)).or (self<|.l2 (v:E) row (v:E) row (F row:E)<|(j:E)+1):=by
 subst R;have p:=i _<|gx o;have k:(v:E)<(F g:E):=Z2
 have l:(j:E)<(F<|M g v []:E):=Z2
 have m:=r64 f p;obtain⟨c,W⟩:∃c,self (.l2 (v:E) (M g v []) (v:E) (M g v []) (F<|M g v []:E)<|(j:E)+1)=c:=⟨_,rfl⟩;have key:=xo (g:=g) (v:=v) (j:=j) c (Z (120:E)) (λb=>L b c<|Z 120) rfl rfl o f
 have y:(C (Hz g v (M g v []) j) V<|Z (120:E)).or c=(C (Hz g v (M g v []) j) c<|Z 120):=by
  grind
 rw[W,y,key];simp only[gy,k,l,m,zOr,zAI,zMl,zTi,zN6,u8,W];obtain⟨x,q⟩:∃x,M (M g v []) j 0=x:=⟨_,rfl⟩;simp only[q]
 by_cases a:x<0
 ·simp[a]
 by_cases b:x>=(F g:E)
 ·simp[a,b]
 by_cases Ϛ:x=(v:E)
 ·simp[a,b,Ϛ]
 have d':(x==(v:E))=D:=by simp[Ϛ]
 have h:M g x.toNat []∈g:=gx Z2;have hh:QO n (M g x.toNat []) (v:E)=Z ((M g x.toNat []).contains (v:E)):=zRI (i _ h)<|s _ h;have LF:0<=x/\x<(F g:E):=Z2
 have fin:((QO n (M g x.toNat []) (v:E)).bind λt=>L (!t) (Z (120:E)) c)=(L ((M g x.toNat []).contains (v:E)) c<|Z 120):=by
  grind
 by_cases e:0<j
 ·have h4:AI ((j:E)-1)/\((0:E)<=(j:E)-1/\(j:E)-1<(F<|M g v []:E)):=⟨wW f p,(wh e f).1⟩
  simp_all[zAt]
 grind
end
theorem vg{g:O Ξ}{v:U}(hv:v<F g):((List.range' v<|F g-v).all λi=>JO g i<|M g i [])=(JO g v (M g v [])&&(List.range' (v+1)<|F g-(v+1)).all λi=>JO g i<|M g i []):=by
 grind
theorem wP{g:O Ξ}(s:F g<=256)(a:∀r∈g,F r<=LB):∀(k v n:U),v+k=F g->GU (g.drop v)+GU g+1<=n->Ky g n (.l1 (v:E))=Z (EE ((List.range' v<|F g-v).all λi=>JO g i<|M g i []) 120)
 |0,v,n,o,b=>by
  have:v=F g:=Z2
  subst this;obtain⟨m,rfl⟩:∃m,n=m+1:=⟨n-1,Z2⟩;simp[Ky,mA,EE]
 |k+1,v,n,o,b=>by
  have x:v<F g:=Z2
  rw[sN x]at b;obtain⟨m,rfl⟩:∃m,n=m+1:=⟨n-1,Z2⟩;have c:(v:E)<(F g:E):=Z2
  have y:Ky g (m+1) (.l1 (v:E))=Ky g m (.l2 (v:E) 0):=by simp[Ky,mA,c]
  rw[y];have S:=L9 (λn i=>Ky g n<|.l2 (v:E) i) (F<|M g v []) (GU g) (λj=>C (Hz g v (M g v []) j) V<|Z 120) (λh j G9 e=>zIl (n:=h) x s e a λr l=>by have:=j0 l;omega) (n:=m) Z2;refine S.trans ?_;rw[SY,vg x];have G:((θ<|F<|M g v []).all λi=>Hz g v (M g v []) i)=JO g v (M g v []):=rfl;rw[G];cases JO g v (M g v [])with
  |false=>rfl
  |true=>
   obtain⟨f,E0⟩:∃f,m-F (M g v [])=f+1:=⟨m-F (M g v [])-1,Z2⟩;have h2:AI<|(v:E)+1:=by rw[Ae];omega
   have ih:=wP s a k (v+1) f Z2 Z2
   simp_all[Ky,dH]
theorem zAd{g:O Ξ}(s:F g<=256)(a:∀r∈g,F r<=LB):∀(k v n:U),v+k=F g->GU (g.drop v)+GU g+1<=n->LZ g n (.l1 (v:E))=Z (EE ((List.range' v<|F g-v).all λi=>JO g i<|M g i []) 120)
 |0,v,n,o,b=>by
  have:v=F g:=Z2
  subst this;obtain⟨m,rfl⟩:∃m,n=m+1:=⟨n-1,Z2⟩;simp[LZ,qD,EE]
 |k+1,v,n,o,b=>by
  have x:v<F g:=Z2
  rw[sN x]at b;obtain⟨m,rfl⟩:∃m,n=m+1:=⟨n-1,Z2⟩;have h1:(v:E)<(F g:E):=Z2
  have y:LZ g (m+1) (.l1 (v:E))=LZ g m (.l2 (v:E) (M g v []) (v:E) (M g v []) (F<|M g v []:E) 0):=by
   simp_all[LZ,qD]
  rw[y];have S:=L9 (λn i=>LZ g n<|.l2 (v:E) (M g v []) (v:E) (M g v []) (F<|M g v []:E) i) (F<|M g v []) (GU g) (λj=>C (Hz g v (M g v []) j) V<|Z 120) (λh j G9 c=>zPS (n:=h) rfl x s c a λr e=>by have:=j0 e;omega) (n:=m) Z2;refine S.trans ?_;rw[SY,vg x];have G:((θ<|F<|M g v []).all λi=>Hz g v (M g v []) i)=JO g v (M g v []):=rfl;rw[G];cases JO g v (M g v [])with
  |false=>rfl
  |true=>
   obtain⟨f,E0⟩:∃f,m-F (M g v [])=f+1:=⟨m-F (M g v [])-1,Z2⟩;have h2:AI<|(v:E)+1:=by rw[Ae];omega
   have ih:=zAd s a k (v+1) f Z2 Z2
   simp_all[LZ,gy]
variable{n:U}
theorem wN{g:O Ξ}(i:∀r∈g,F r<=LB)(hn:2*GU g+1<=n):PH n g=Z (EE (LY g) 120):=by
 unfold PH wL LY
 by_cases h:(F g:E)>256
 ·grind[EE]
 ·have h':F g<=256:=Z2
  have:=wP h' i (F g) 0 n Z2 Z7
  grind
theorem zAc{g:O Ξ}(i:∀r∈g,F r<=LB)(hn:2*GU g+1<=n):ZN n g=Z (EE (LY g) 120):=by
 unfold ZN zAb LY
 by_cases h:(F g:E)>256
 ·grind[EE]
 ·have h':F g<=256:=Z2
  have:=zAd h' i (F g) 0 n Z2 Z7
  grind
end
section
def dR{s:E}(a:1<=s)(c:s<=16):IntKind.i64.wrap (1*2^s.toNat)=2^s.toNat/\AI ((2:E)^s.toNat-1)/\((0:E)<=s/\s<=((IntKind.i64.bits:U):E)):=by
 obtain⟨m,rfl⟩:=zOh (show 0<=s by omega);have h:m<17:=Z2
 refine⟨?_,?_,Z2,by show(m:E)<=64;omega⟩
 ·clear a c;revert m;decide
 ·clear a c;revert m;decide
variable{n i:U}{l:Ξ}
theorem zQb(m:F l<=LB)(hi:i<F l){self:VU->A ζ}(j:U)(hj:j<i):iS n self l (i:E) (j:E)=(C (M l i 0 != M l j 0) V<|Z D).or (self<|.l2 (i:E)<|(j:E)+1):=by
 have a:(j:E)<(i:E):=Z2
 have c:(i:E)<(F l:E):=Z2
 have k:(j:E)<(F l:E):=Z2
 have R:=r64 (show j<F l by omega) m;simp only[iS,a,c,k,R,zOr,zAI,zMl,zTi,zN6,u8]
 grind
theorem zDo(hi:i<=F l){x:E}:((θ i).all λj=>x != M l j 0)= !(l.take i).contains x:=by
 rw[zMq];simp only[zAP,zAV,zOF,ne_eq,zKL,zO9,zT7,zTc,not_exists]
 grind
theorem zBO(a:F l<=LB):∀(k i n:U),i+k=F l->k*(F l+2)+1<=n->Lj l n (.l1 (i:E))=Z ((List.range' i k).all λi=>!(l.take i).contains (M l i 0))
 |0,i,n,hi,s=>by
  have:i=F l:=Z2
  subst this;obtain⟨m,rfl⟩:∃m,n=m+1:=⟨n-1,Z2⟩;simp[Lj,qZ]
 |k+1,i,n,hi,s=>by
  have Q:i<F l:=Z2
  rw[zTw]at s;obtain⟨m,rfl⟩:∃m,n=m+1:=⟨n-1,Z2⟩;have b:(i:E)<(F l:E):=Z2
  have y:Lj l (m+1) (.l1 (i:E))=Lj l m (.l2 (i:E) 0):=by simp[Lj,qZ,b]
  rw[y];have S:=L9 (λn j=>Lj l n<|.l2 (i:E) j) i 0 (λj=>C (M l i 0 != M l j 0) V<|Z D) (λh j _ g=>zQb (n:=h) a Q j g) (n:=m) Z2;refine S.trans ?_;rw[SY,zDo Z2,zUB,zPD];cases(l.take i).contains (M l i 0)with
  |true=>rfl
  |false=>
   obtain⟨f,c⟩:∃f,m-i=f+1:=⟨m-i-1,Z2⟩;rw[c];have ih:=zBO a k (i+1) f Z2 Z2
   grind[r64,Lj,iS]
theorem zQT(hl:F l<=LB)(hn:F l*(F l+2)+1<=n):iV n l=Z (UV l):=by
 unfold iV zBN UV
 grind[List.range_eq_range',zBO,LB]
section
variable{c:AE}{n:U}
def PD(sy:E)(c:AE):ζ:=Ef [c.set,c.other] 0 (2^sy.toNat-1)&&Ef [c.lo,c.hi] 0 65536&&H (F c.ru<=8)&&Ef c.ru 1 256
theorem fJ{a b:E}:F ([a,b]:Ξ)<=LB:=by grind[LB]
variable{q:AA}{self:QC->A ζ}
theorem zPn(b:1<=q.sy)(e:q.sy<=16)(i:F c.ru<=LB)(s:F c.ru<n)(a:2<n):qN n self q c=Z (PD q.sy c):=by
 obtain⟨f,p2,o⟩:=dR b e;unfold qN;rw[f,zAB ⟨o,p2⟩,dK fJ<|show 2<n from a,dK fJ<|show 2<n from a,dK i s]
 grind[PD]
variable{o:Ω}
theorem zPp(hq:q.ce<=256)(hc:F c.ce<=LB){i:U}(hi:i<F c.ce)(ho:F o=256)(hm:∀x:U,x<256->M o x D=(c.ce.take i).contains (x:E)):
 ZY n self q c (i:E) o=C (Sl q.ce c.kind c.ce i) (self<|.l1 ((i:E)+1)<|o.set (0+(M c.ce i 0).toNat) T) (Z D):=by
 have a:(i:E)<(F c.ce:E):=Z2
 have b:=r64 hi hc;unfold Sl;obtain⟨x,e⟩:∃x,M c.ce i 0=x:=⟨_,rfl⟩;simp only[ZY,a,b,zOr,zAI,zMl,zTi,zN6,u8,e]
 grind
theorem zPo :ZY n self q c (F c.ce:E) o=C (Is q.ce c.kind<|F c.ce) (self .l2) (Z D):=by
 have a:¬((F c.ce:E)<(F c.ce:E)):=Z2
 simp only[ZY,zAF a,zAJ]
 by_cases hk:1<=c.kind/\c.kind<=9
 ·obtain⟨k,u⟩:∃k,c.kind=k:=⟨_,rfl⟩;rw[u]at hk;simp only[u];have e2:(((F c.ce:U):E) != 2)= !(F c.ce==2):=by rw[zMq];simp;omega
  have e3:(((F c.ce:U):E) != q.ce)= !(((F c.ce:U):E)==q.ce):=rfl
  grind[Ph,Is]
 ·have SG:Is q.ce c.kind (F c.ce)=D:=by
   rw[zO9];exact λh=>hk<|Pg h
  grind
theorem zAp(f:q.ce<=256)(hc:F c.ce<=LB)(e:1<=q.sy)(g:q.sy<=16)(h:F c.ru<=LB):∀(k i n:U) (o:Ω),i+k=F c.ce->k+F c.ru+6<=n->F o=256->(∀x:U,x<256->M o x D=(c.ce.take i).contains (x:E))->
 VN q c n (.l1 (i:E) o)=Z ((List.range' i k).all (Sl q.ce c.kind c.ce)&&Is q.ce c.kind (F c.ce)&&PD q.sy c)
 |0,i,n,o,hi,s,a,z=>by
  have:i=F c.ce:=Z2
  subst this;obtain⟨m,rfl⟩:∃m,n=m+1:=⟨n-1,Z2⟩;refine(zPo (n:=m)).trans ?_;cases Is q.ce c.kind (F c.ce)with
  |false=>simp
  |true=>
   obtain⟨b,rfl⟩:∃b,m=b+1:=⟨m-1,Z2⟩
   grind[VN,zPn]
 |k+1,i,n,o,hi,s,a,z=>by
  obtain⟨m,rfl⟩:∃m,n=m+1:=⟨n-1,Z2⟩;refine(zPp (n:=m) f hc (show i<F c.ce by omega) a z).trans ?_;rw[zUB,zPD];cases hck:Sl q.ce c.kind c.ce i with
  |false=>simp
  |true=>
   have hx:0<=M c.ce i 0/\M c.ce i 0<q.ce:=by
    simp_all[Sl]
   have ih:=zAp f hc e g h k (i+1) m (o.set (0+(M c.ce i 0).toNat) T) Z2 Z2 (by simp[a]) λx hx256=>?_
   ·grind
   ·have CF:i<F c.ce:=Z2
    have ht:c.ce.take (i+1)=c.ce.take i++[M c.ce i 0]:=by
     simp_all
    rw[zAL,zO7]
    grind
theorem zPr(f:q.ce<=256)(hc:F c.ce<=LB)(a:1<=q.sy)(b:q.sy<=16)(i:F c.ru<=LB)(hn:F c.ce+F c.ru+6<=n):iH n q c=Z (FY q c):=by
 unfold iH zAq;have:=zAp f hc a b i (F c.ce) 0 n (d 256 D) Z2 Z2 zKR λx hx=>Z4
 grind[FY,jD,PD]
end
end
section
variable{c:AE}{n:U}{cells sy:E}
def YS(c:AE):ζ:=(θ<|F c.ce).all λi=>M c.ce i 0==(i:E)
theorem zII(hc:F c.ce<=LB)(f:F c.ru<=LB)(b:1<=sy)(a:sy<=16)(hn:F c.ce+F c.ru+6<=n):RE c cells sy n (.l1 0)=Z ((!(c.kind==8||c.kind==9)||YS c)&&PD sy c):=by
 have S:=L9 (λn i=>RE c cells sy n<|.l1 i) (F c.ce) 0 (λi=>C (!(c.kind==8||c.kind==9)||M c.ce i 0==(i:E)) V<|Z D) (λn i _ hi=>?_) (n:=n) Z2
 ·refine S.trans ?_;rw[SY]
  have e:((θ<|F c.ce).all λi=>!(c.kind==8||c.kind==9)||M c.ce i 0==(i:E))=(!(c.kind==8||c.kind==9)||YS c):=by
   grind[YS]
  rw[e];cases(!(c.kind==8||c.kind==9)||YS c)with
  |false=>rfl
  |true=>
   obtain⟨m,z⟩:∃m,n-F c.ce=m+1:=⟨n-F c.ce-1,Z2⟩;rw[z];obtain⟨g,p2,o⟩:=dR b a;have k:¬((F c.ce:E)<(F c.ce:E)):=Z2
   show XQ m (RE c cells sy m) c cells sy (F c.ce:E)=_
   unfold XQ;rw[zAF k,zAJ,g,zAB ⟨o,p2⟩,aP fJ (show 2<m by omega),aP fJ (show 2<m by omega),aP f<|show F c.ru<m by omega];unfold PD
   grind
 ·have a:=r64 hi hc
  show XQ n (RE c cells sy n) c cells sy (i:E)=_
  simp only[XQ,b,a,zOr,zAI,zMl,zTi,zN6,u8]
  grind
theorem zIJ(hc:F c.ce<=LB)(a:F c.ru<=LB)(h0:1<=cells)(h00:cells<=256)(e:1<=sy)(f:sy<=16)(hn:F c.ce*(F c.ce+2)+F c.ce+F c.ru+7<=n):dA n c cells sy=Z (cz c cells sy):=by
 have loop:=zII (cells:=cells) hc a e f (n:=n) Z2;have hR:AI<|cells-1:=by rw[Ae];omega
 unfold dA wG cz;simp only[hR,zN6,aP hc (show F c.ce<n by omega),zQT hc (show F c.ce*(F c.ce+2)+1<=n by omega),loop,zAD];have hidB:((θ<|F c.ce).all λi=>M c.ce i 0==(i:E))=YS c:=rfl;have J:∀b:ζ,(b&&Ef [c.set,c.other] 0 (2^sy.toNat-1)&&Ef [c.lo,c.hi] 0 65536&&H (F c.ru<=8)&&Ef c.ru 1 256)=(b&&PD sy c):=λb=>by grind[PD]
 rw[hidB,J];have e2:(((F c.ce:U):E) != 2)= !(F c.ce==2):=Z4
 grind
end
def Tb(c:AE):U:=F c.ce*(F c.ce+2)+F c.ce+F c.ru+7
theorem uB(c:AE):Tb c=F c.ce*(F c.ce+2)+F c.ce+F c.ru+7:=rfl
def D0(q:AA):U:=F q.va+2*GU q.nb+(q.cons.map Tb).sum+F q.cons+10
structure DT(q:AA):Prop where
 va:F q.va<=LB
 nb:∀r∈q.nb,F r<=LB
 ce:∀c∈q.cons,F c.ce<=LB
 ru:∀c∈q.cons,F c.ru<=LB
def kQ:∀{l:O AE} {c:AE},c∈l->Tb c<=(l.map Tb).sum
 |[],_,h=>by cases h
 |a::l,c,h=>by
  rw[zOq,List.sum_cons];rcases zMk.1 h with rfl|h
  ·omega
  ·have:=kQ h;omega
section
variable{q:AA}{n:U}
def zA3{b:ζ}:(EE b 120==0)=b:=by cases b <;> rfl
theorem zDb(k:DT q)(h1:1<=q.ce)(c:q.ce<=256)(b:1<=q.sy)(R:q.sy<=16)(h5:F q.cons<=4096)(s:D0 q<=n):∃r:E,fX n q.cons q=Z r/\(0<=r↔q.cons.all (FY q)=D):=by
 unfold fX zI;have S:=L9 (λn i=>Pk q.cons q n<|.l1 i) (F q.cons) (q.cons.map Tb).sum (λi=>C (FY q<|M q.cons i ξ) V<|Z (i:E)) (λn i G9 hi=>?_) (n:=n) (by unfold D0 at s;omega)
 ·rw[show Pk q.cons q n (.l1 0)=_ from S];cases g:(θ<|F q.cons).findSome? (λi=>C (FY q<|M q.cons i ξ) V<|Z (i:E))with
  |some r=>
   refine⟨r,rfl,?_⟩;obtain⟨i,hi,hr⟩:=zPA g
   grind
  |none=>
   obtain⟨m,z⟩:∃m,n-F q.cons=m+1:=⟨n-F q.cons-1,by unfold D0 at s;omega⟩;refine⟨-1,by rw[z];simp[Pk,fV],?_⟩;rw[zTT]at g
   have:q.cons.all (FY q)=T:=by
    rw[←XU (p:=FY q) (Ϛ:=(ξ:AE)),zAP]
    grind
   simp[this]
 ·have e:(i:E)<(F q.cons:E):=Z2
  have hR:AI<|(i:E)+1:=by rw[Ae];omega
  have a:M q.cons i ξ∈q.cons:=Z4
  have Bh:=kQ a;have v:=zPr (n:=n) c (k.ce _ a) b R (k.ru _ a) (by grind[uB])
  show fV n (Pk q.cons q n) q.cons q (i:E)=_
  generalize Pk q.cons q n=self
  simp only[fV,bF,kG,e,hR,zOr,zAI,zMl,zTi,zN6,u8,v,zAD]
  grind
theorem ay(k:DT q)(s:D0 q<=n):valid n q=Z (EE (CR q) 191):=by
 unfold valid sV CR;have o:=dK (lo:=0) (up:=99) k.va (show F q.va<n by unfold D0 at s;omega);have a:=zAc k.nb (show 2*GU q.nb+1<=n by unfold D0 at s;omega)
 by_cases b:q.ce<1
 ·grind[EE]
 have w:1<=q.ce:=Z2
 by_cases c:q.ce>256
 ·grind[EE]
 have x:q.ce<=256:=Z2
 by_cases K:q.sy<1
 ·grind[EE]
 have y:1<=q.sy:=Z2
 by_cases e:q.sy>16
 ·grind[EE]
 have z:q.sy<=16:=Z2
 simp only[zAF b,zAF c,zAF K,zAF e,zAA w,zAA x,zAA y,zAA z,zAJ,zOA,o,a,zAD,bne,zA3];cases((F q.va:U):E)==q.sy with
 |false=>rfl
 |true=>
 cases Ef q.va 0 99 with
 |false=>rfl
 |true=>
 cases((F q.nb:U):E)==q.ce with
 |false=>rfl
 |true=>
 cases LY q.nb with
 |false=>rfl
 |true=>
 by_cases p:((F q.cons:U):E)>4096
 ·grind[EE]
 have X:F q.cons<=4096:=Z2
 obtain⟨r,t,r2⟩:=zDb k w x y z X s;simp only[ip,qc,t,zAF p,zAA X,zAD,zAJ,zOA,zMv,zQC,zTX]
 grind[EE]
theorem zGu(k:DT q)(b:1<=q.ce)(c:q.ce<=256)(e:1<=q.sy)(R:q.sy<=16)(h5:F q.cons<=4096)(s:D0 q<=n):O1 q n (.l1 0)=Z (EE (q.cons.all<|FY q) 191):=by
 have S:=L9 (λn i=>O1 q n<|.l1 i) (F q.cons) (q.cons.map Tb).sum (λi=>C (FY q<|M q.cons i ξ) V<|Z 191) (λn i G9 hi=>?_) (n:=n) (by unfold D0 at s;omega)
 ·refine S.trans ?_;rw[SY,XU (p:=FY q)];cases q.cons.all (FY q)with
  |false=>rfl
  |true=>
   obtain⟨m,hm⟩:∃m,n-F q.cons=m+1:=⟨n-F q.cons-1,by unfold D0 at s;omega⟩
   grind[O1,cQ,EE]
 ·have f:(i:E)<(F q.cons:E):=Z2
  have hR:AI<|(i:E)+1:=by rw[Ae];omega
  have a:M q.cons i ξ∈q.cons:=Z4
  have Bh:=kQ a;have v:=zIJ (n:=n) (k.ce _ a) (k.ru _ a) b c e R (by grind[uB]);rw[zIK q _ b]at v
  show cQ n (O1 q n) q (i:E)=_
  generalize O1 q n=self
  simp only[cQ,f,hR,zOr,zAI,zMl,zTi,zN6,u8,v,zAD]
  grind
theorem vL(k:DT q)(s:D0 q<=n):Tz n q=Z (EE (CR q) 191):=by
 unfold Tz vK CR;have o:=aP (lo:=0) (up:=99) k.va (show F q.va<n by unfold D0 at s;omega);have a:=wN k.nb (show 2*GU q.nb+1<=n by unfold D0 at s;omega)
 by_cases r:q.ce<1
 ·grind[EE]
 have w:1<=q.ce:=Z2
 by_cases b:q.ce>256
 ·grind[EE]
 have x:q.ce<=256:=Z2
 by_cases K:q.sy<1
 ·grind[EE]
 have y:1<=q.sy:=Z2
 by_cases c:q.sy>16
 ·grind[EE]
 have z:q.sy<=16:=Z2
 simp only[zAF r,zAF b,zAF K,zAF c,zAA w,zAA x,zAA y,zAA z,zAJ,zOA,o,a,zAD,bne,zA3];cases((F q.va:U):E)==q.sy with
 |false=>rfl
 |true=>
 cases Ef q.va 0 99 with
 |false=>rfl
 |true=>
 grind[EE,zGu]
def zKi{k:E}(h:1<=k/\k<=9):M ([0,1,1,2,2,3,1,1,4,4]:Ξ) k.toNat 0=Mc k:=by
 rcases Ph h with h|h|h|h|h|h|h|h|h <;> subst h <;> rfl
theorem zLY(o:CR q=T){i:E}(h0:0<=i)(hi:i<(F q.cons:E)):1<=(M q.cons i.toNat ξ).kind/\(M q.cons i.toNat ξ).kind<=9:=by
 have p:M q.cons i.toNat ξ∈q.cons:=Z4
 exact Pg<|yn<|(Dy o).2.2.2.2.2 _ p
theorem nP(k:DT q)(s:D0 q<=n)(i:E):Rf n q i=Z (Np q i):=by
 unfold Rf nN Np;rw[ay k s];cases o:CR q with
 |false=>rfl
 |true=>
  by_cases h0:i<0
  ·grind[EE]
  ·by_cases hi:i>=(F q.cons:E)
   ·grind[EE]
   ·have hc:0<=i/\i<(F q.cons:E):=Z2
    have hk:=zLY o hc.1 hc.2;have a:(0<=i/\i<(F q.cons:E))/\(0<=(M q.cons i.toNat ξ).kind/\(M q.cons i.toNat ξ).kind<((10:U):E)):=⟨hc,Z2,Z2⟩;simp only[EE,zN6,zAD,zT0,zAJ,zAF h0,zAF hi,zAB a,zAB hc,zKi hk,Bool.true_eq_false,zTQ]
end
abbrev zDM:=@List.length_cons
abbrev zTF:=@List.filter_append
abbrev zT1:=@List.drop_drop
abbrev zUD:=@Array.replicate_succ
abbrev zUE:=@Array.replicate_zero
abbrev zUI:=@List.append_toArray
abbrev zUK:=@Go.Lib.hid
theorem zDf(x k K:U)(w:κ)(IU:((x:E)==0)=D)
 (key:IntKind.u64.wrap (bits BinOp.and IntKind.u64 (x:E) (IntKind.u64.wrap<|-(x:E))*285870213051353865)/288230376151711744=(K:E))
 (hi:K<64) (hk:k<64) (Hj:w.cell? ⟨1,K,V⟩=Z (.int .u8 k)):
 Calls B 200 #[.int .u64 x] w λe w'=>e=.returned (.int .i64 k)/\w=w':=by
 go_enter Tryz.func200,Tryz.ntmps200
 go_wp2_with (simp only[key])
 go_ret
 exact⟨rfl,rfl⟩
theorem zDg(x:U)(a:x<18446744073709551616)(v:x≠0)(w:κ)(h:QZ w):
 Calls B 200 #[.int .u64 x] w λe w'=>e=.returned (.int .i64<|Lib.ctz 64 x)/\w=w':=by
 obtain⟨oz,hk⟩:=Lib.lowest_bit 64 x v a;obtain⟨hi,htab⟩:=Lib.deBruijn64_at _ hk;have Hj:=h _ hi
 grind[zDf,tz64_key]
def zDe(x:U)(a:x<18446744073709551616)(v:x≠0)(w:κ)(h:QZ w):
 Calls B 190 #[.int .u64 x] w λe w'=>e=.returned (.int .i64<|Lib.ctz 64 x)/\w=w':=by
 have b:=zDg x a v w h
 go_enter Tryz.func190,Tryz.ntmps190
 go_wp2_with (go_at_call 200;refine b.mono ?_;rintro e w' ⟨rfl,rfl⟩)
 go_ret
 exact⟨rfl,rfl⟩
def GX(x:U):Θ:=(θ 64).filter λs=>x.testBit s
theorem uC:GX 0= []:=by simp[GX]
theorem zKm(k m s:U):(2^k*(2*m+1)).testBit s=(H (k<=s)&&(2*m+1).testBit (s-k)):=by
 grind
def zJu(m s:U):(2*m+1).testBit s=(H (s=0)||(2*m).testBit s):=by
 cases s with
 |zero=>simp[Nat.testBit_zero]
 |succ s=>simp[Nat.testBit_succ];congr 1;omega
def zIm:∀k,k<64->θ 64=θ k++k::List.range' (k+1) (63-k):=by decide+kernel
theorem uD(x:U)(e:x<18446744073709551616)(v:x≠0):GX x=Lib.ctz 64 x::GX (x&&& (x-1)):=by
 have hc:Lib.ctz 64 x=Lib.ctzFrom 64 x:=by simp[Lib.ctz,v]
 obtain⟨m,z,hk⟩:=Lib.ctzFrom_spec 64 x Z2 (by simpa using e);rw[hc]
 generalize Lib.ctzFrom 64 x=k at*
 have b:∀s,x.testBit s=(H (k<=s)&&(H (s-k=0)||(2*m).testBit (s-k))):=λs=>by rw[z,zKm,zJu]
 have hy:∀s,(x&&& (x-1)).testBit s=(x.testBit s&&H (s≠k)):=by
  intro s;have hp:0<2^k:=Nat.two_pow_pos k
  have q:x-1=2^k*(2*m)+(2^k-1):=by
   grind
  have LV:(x-1).testBit s=C (s<k) ((2^k-1).testBit s) ((2*m).testBit<|s-k):=by
   rw[q,Nat.testBit_two_pow_mul_add _ Z2]
  grind
 unfold GX;have i:θ 64=θ k++k::List.range' (k+1) (63-k):=zIm k hk;rw[i];simp only[zTF,zSI]
 have a:∀y:U,(∀s,s<k->y.testBit s=D)->(θ k).filter (λs=>y.testBit s)= []:=λy h=>by
  simp_all
 rw[a x (λs l=>by rw[b];simp;omega),a (x&&& (x-1)) λs l=>by rw[hy,b];simp;omega];have c:x.testBit k=T:=by rw[b];simp
 have f:(x&&& (x-1)).testBit k=D:=by rw[hy];simp
 simp only[c,f,zMX,zN6,zMe,zTQ]
 congr 1
 apply List.filter_congr
 grind
theorem zSm(x:U)(hx:x<9223372036854775808)(IU:x≠0):bits .and .i64 (x:E) ((x:E)-1)=((x&&& (x-1):U):E):=by
 have e:((x:E)-1)=((x-1:U):E):=Z2
 have AY:x&&& (x-1)<=x:=Nat.and_le_left;rw[e]
 have a:(BitVec.ofInt 64 (x:E)).toNat=x:=by
  grind
 have c:(BitVec.ofInt 64 ((x-1:U):E)).toNat=x-1:=by
  grind
 show IntKind.i64.wrap ((BitVec.ofInt 64 (x:E)&&& BitVec.ofInt 64 ((x-1:U):E)).toNat:E)=_
 rw[BitVec.toNat_and,a,c];have z:((x&&& (x-1):U):E)%2^64=((x&&& (x-1):U):E):=Z2
 simp only[IntKind.wrap,IntKind.signed,IntKind.bits,z]
 grind
def uz(w:κ)(b o:U):U:=match w.cell? ⟨b,o,V⟩with
 |some (.int _ x)=>x.toNat
 |_=>0
def bQ(s:U):O DV:=[.int .i64 s]
def hE1(R:Ψ)(W:κ)(x:U):YV (bQ x) R W #[.int .i64 x]:=⟨rfl,λj g=>by
 have:j=0:=zUM.1 g;subst this;rfl⟩
set_option maxRecDepth 100000 in
set_option maxHeartbeats 4000000 in
theorem zDv(set b o:U)(w:κ)(Pr:set<9223372036854775808)(hT:QZ w)(hb:w.cell? ⟨b,o,V⟩=Z (.int .i64 set))(IX:w.frozen? ⟨b,o,V⟩=D)(Y:b≠1):
 Qe B 189 #[.pointer<|Z ⟨b,o,V⟩] YV ((GX set).map bQ) V0 (λk=>k=b) (λk=>k=1) w:=by
 intro l J Jx W hJ hJx r hY h0 _;have HY:=zUK hY;clear hY;have f:W.cell? ⟨b,o,V⟩=Z (.int .i64 set):=r.cell (λh=>h<|.inl rfl) hb
 have P:W.frozen? ⟨b,o,V⟩=D:=by
  rw[World.frozen?_of_block<|r.block b (zMU w _ hb) λh=>h<|.inl rfl];exact IX
 have m:QZ W:=λj g=>r.cell (λh=>h<|.inr rfl)<|hT j g
 have q:∀K,W.heap.size<=K.heap.size->EX (λk=>k=b) (λk=>k=1) K:=λK h=>⟨λk e e2=>Y<|e.symm.trans e2,λk hk=>zAQ (hk.elim (λe=>e▸zMU W _ f) λe=>e▸zMU W _ (m 0 Z6)) h⟩
 obtain⟨G,hG⟩:∃G:Ψ,(λk=>k=b)=G:=⟨_,rfl⟩;obtain⟨R,n⟩:∃R:Ψ,(λk=>k=1)=R:=⟨_,rfl⟩;rw[hG,n]at h0 q;have Q:G b:=by rw[←hG]
 have s:R 1:=by rw[←n]
 refine callsIn_of_wp Tryz.func189 rfl trivial ?_ rfl;simp only[Tryz.ntmps189,zTO,zDM,zTL,Nat.reduceAdd,Nat.reduceSub,zUD,zUE,List.push_toArray,zUI,zMX,zTY]
 gi_wp2
 gi_loopw [3,4,5,6,7,8,9,10,11,12,13,14] (λ_ _ _ _ _ _ _ _ _ _ _ _ wr=>∃(i x:U),W.heap.size<=wr.heap.size/\x<9223372036854775808/\i<=F (GX set)/\Hid ((GX set).drop i=GX x)/\Hid (J i G R wr)/\wr.cell? ⟨b,o,V⟩=Z (.int .i64 x)/\wr.frozen? ⟨b,o,V⟩=D/\Hid (QZ wr))
  (λ_ _ _ _ _ _ _ _ _ _ _ _ wr=>uz wr b o)
 case atStart=>exact⟨0,set,zAf _,Pr,zMK _,zUK rfl,zUK h0,f,P,zUK m⟩
 case round=>
  obtain⟨i,x,p,hx,DC,t,g,hc,hf,ht⟩:=hrel
  by_cases v:x=0
  ·subst v
   have u:i=F (GX set):=by
    have:=congrArg List.length t.out
    grind[uC]
   gi_wp2
   go_end0
   exact⟨G,R,q _ p,.inl ⟨u▸g.out,_,rfl⟩⟩
  ·have N0:((x:E)==0)=D:=by simp[v]
   have gR:(GX set).drop i=Lib.ctz 64 x::GX (x&&& (x-1)):=by rw[t.out,uD x Z2 v]
   have u:i<F (GX set):=by
    grind
   have hie:(GX set)[i]=Lib.ctz 64 x:=by
    grind[List.drop_eq_getElem_cons]
   obtain⟨fn,tmps,NA,body,hy,hR⟩:=HY.out i (bQ<|Lib.ctz 64 x) #[.int .i64<|Lib.ctz 64 x] G R wr Z4 (hE1 R wr _) g.out<|q _ p;have y:=zUK hR;clear hR;have X:=zUK<|zDe x Z2 v wr ht.out;have z:=zUK gR;clear gR t
   gi_wp2_with (first|refine⟨trivial,rfl,?_⟩|(gi_at_call 190;refine(zTC.2 X.out).mono ?_;rintro e w' ⟨rfl,rfl⟩))
   refine⟨rfl,y.out.mono ?_⟩;rintro e a ⟨c,(⟨rfl,I⟩|⟨rfl,Rs⟩)⟩
   ·have gV:a.cell? ⟨b,o,V⟩=Z (.int .i64 x):=c.cell (λh=>h<|.inl Q) hc
    have N:a.frozen? ⟨b,o,V⟩=D:=by
     rw[World.frozen?_of_block<|c.block b (zMU wr _ hc) λh=>h<|.inl Q];exact hf
    have zT:QZ a:=λj g=>c.cell (λh=>h<|.inr s)<|ht.out j g
    have S:AR G a<|a.setCell ⟨b,o,V⟩<|.int .i64 ((x&&& (x-1):U):E):=(AR.refl G a).setCell (λ_=>Q) _;have zMf:=zAO p<|zAO c.size S.size;have Yp:=zUK<|(hJ _).same (q _<|zAO p c.size) I S
    have ht2:Hid<|QZ<|a.setCell ⟨b,o,V⟩<|.int .i64 ((x&&& (x-1):U):E):=zUK λj g=>
     ((AR.refl (λk=>k=b) a).setCell (λ_=>rfl) _).cell (λe=>Y e.symm) (zT j g)
    have AY:x&&& (x-1)<x:=Nat.lt_of_le_of_lt Nat.and_le_right Z2;clear S zT
    gi_wp2
    rw[zSm x hx v];have N9:(a.setCell ⟨b,o,V⟩<|.int .i64 ((x&&& (x-1):U):E)).cell? ⟨b,o,V⟩=Z (.int .i64 ((x&&& (x-1):U):E)):=World.cell?_setCell_same' a _ _ (by rw[gV];rfl);refine⟨⟨_,_,_,_,_,_,_,_,_,_,_,_,⟨i+1,x&&& (x-1),zMf,Z2,u,zUK ?_,Yp,N9,?_,ht2⟩,rfl⟩,?_⟩
    ·rw[←zT1,z.out];rfl
    ·rw[World.frozen?_setCell];exact N
    grind[uz]
   ·gi_wp2
    refine bodyPost_ret (results_none rfl _ _ _) rfl ?_;exact⟨G,R,q _<|zAO p c.size,.inr ⟨⟨_,rfl⟩,Rs⟩⟩
def By(x:E):Ξ:=(GX x.toNat).map λ(s:U)=>(s:E)
def zQL(x:E):(By x).map Bn=(GX x.toNat).map bQ:=by
 unfold By;rw[List.map_map];rfl
def zDu{x:E}(hx:(0:E)<=x/\x<9223372036854775808)(w:κ)(b o:U)(u:μ)(s:GG.gi w)(J:GG.ng<=b)(a:∃cs t,w.heap[b]?=Z (.cells cs t (0,0)))(hc:w.cell? ⟨b,o,V⟩=Z u)(i:u=.int .i64 x):
 Qe B 189 #[.pointer<|Z ⟨b,o,V⟩] YV ((By x).map Bn) V0 (λk=>k=b) (λk=>k=1) w:=by
 rw[zQL];obtain⟨cs,t,a⟩:=a;have J:2<=b:=J;refine zDv x.toNat b o w Z2 s.1 ?_ ?_ Z2
 ·rw[hc,i];congr 2;omega
 ·unfold World.frozen?;simp[a]
theorem ES.iterOf{P:ν}{Γ:A2}{f s:U}{ds:O DV}{c:U->DV}{Ϛ:DV}{encs:O (O DV)}{Rd:Ψ}(h0:ES P Γ f ds [] (.fn s 1 c) [Z<|.cells [Ϛ]] T)(hc:c 0=.ref 0 0)(J:ds.all G5=T)
 (Q:∀args W,(callFunc s args).run P W=.ok (.enter s args) W)
 (m:∀(w:κ) (b o:U) (u:μ),Γ.gi w->Γ.ng<=b->(∃cs t,w.heap[b]?=Z (.cells cs t (0,0)))->w.cell? ⟨b,o,V⟩=Z u->AJ (λ_=>False) w Ϛ [] u->Qe P s #[.pointer<|Z ⟨b,o,V⟩] YV encs V0 (λk=>k=b) Rd w)
 (K:UM Ϛ=T) (n:∀b,Rd b->b<Γ.ng) (h:DH):ES P Γ f ds h (.it<|F h) (h++[Z<|.iter encs]) T:=by
 refine⟨h0.1,λN ρ w args HR y=>?_⟩;refine(h0.2 (MS N h ρ) [] w args (Ut (λb a=>HR.lt2 a) HR.gi) ⟨y.1,λi hi=>?_⟩).mono ?_
 ·have R:=PX (zAP.1 J (ds.getD i .any)<|by simp[hi]);exact AJ.out _ (DU (λb a=>TD.1 a) [])<|R _ _ _ _<|y.2 i hi
 ·rintro e w' ⟨v,rfl,⟨⟨ρ',g,S,Y,g4⟩,z⟩⟩;have q:=z rfl;obtain⟨p,l,X⟩:=g.obj 0 _ rfl;have X:Ac w' p 1 _:=X;have r:∀b,p.foot b->w.heap.size<=b:=λb a=>(Y.grow b ⟨0,_,p,rfl,l,a⟩).resolve_left λ⟨k,o',p',q1,_⟩=>by simp at q1
  obtain⟨lb,hv,hl,N5⟩:=S;obtain⟨u,hu,G⟩:=N5 0 Z2;rw[hc]at G;obtain⟨p',BO,YY⟩:=G;have ep:p'=p:=zAN<|BO.symm.trans l;subst ep
  have x:lb= #[.pointer<|Z ⟨p'.blk,p'.off,V⟩]:=by
   grind
  subst x;obtain⟨u2,c1,c2⟩:=Ac.cell X (j:=0) Z2;have I:p'.foot=λb=>b=p'.blk:=X.1
  have CB:Γ.ng<=w.heap.size:=Γ.lo _ HR.gi;have Hj:=g.cel 0 _ p' p'.blk rfl l (by rw[I]);refine⟨v,rfl,⟨⟨ρ++[{ p' with val:=v }],HR.snoc q (λb a=>⟨r b a,(g.cel 0 _ p' b rfl l a).2.2⟩) ?_,⟨{ p' with val:=v },by rw[←HR.len];simp,rfl⟩,A8.snoc HR q r,λ_ _ h=>FL h⟩,z⟩⟩;obtain⟨_,cs,t,FJ,_⟩:=X;refine⟨s,_,Rd,⟨hv,Q⟩,?_,λb a=>?_,λb a=>?_⟩
  ·show Qe P s _ YV encs V0 p'.foot Rd w'
   rw[I];refine m w' _ _ u2 g.gi Hj.1 ⟨cs,t,FJ⟩ (by simpa using c1) ?_;exact AJ.out _ (DU (λb a=>a.elim) [])<|mS K c2
  ·have FX:=n b a;refine⟨λhm=>?_,zAQ (zAQ FX CB) q.size⟩;rcases hm with hm|hm
   ·have:=(HR.nlt b hm).2;omega
   ·rcases MO.snoc HR hm with hm|hm
    ·have:=HR.low hm;omega
    ·have:=r b hm;omega
  grind
section
set_option maxRecDepth 100000
set_option maxHeartbeats 40000000
inductive ii where
 |l1 (x7:E)
def ig(n:U)(self:ii->A ζ)(sets:Ξ)(p:E):A ζ:=L (H<|p<(F sets:E)) (C (0<=p/\p<(F sets:E)) (L (M sets p.toNat 0==0) (Z T)<|C (AI<|p+1) (self<|.l1<|p+1) V) V)<|Z D
def zBT(n:U)(self:ii->A ζ)(sets:Ξ):A ζ:=self<|.l1 0
def VW(sets:Ξ):U->ii->A ζ
 |0,_=>V
 |n+1,.l1 p=>ig n (VW sets n) sets p
def Zv(n:U)(sets:Ξ):A ζ:=zBT n (VW sets n) sets
def zQq(n ϙ:U)(N:Yd 0)(sets:Ξ)(r:ζ):ii->Prop:=px n ϙ η N (FQ Tryz.f113 0 (.bool r) []) (AZ Tryz.f113) λ
 | .l1 p=>(0,0,AF 14 [(5,.ints sets),(6,.i (F sets:E)),(7,.i p)],[])
def zQr(ϙ:U)(N:Yd 0)(sets:Ξ):Al (VW sets) (zQq · ϙ N sets):=ia (λ_=>rfl) λn I G r h=>by
 cases G
 case l1 x7=>
  intro q a;refine rd a λq a=>?_
  revert r;apply gO;exact bi 8 (gi (bi 12 (lE AC [2] []) (gw 13 (lG AC [] (I _ _ · q a)))))<|lE AC [2] []
variable{n:U}
def zBS{sets:Ξ}{r:ζ}(h:Zv n sets=Z r):EQ 113 [.ints sets] [] (.bool r) [] T:=by
 refine ot Tryz.func113 λϙ N=>?_
 revert r;apply gO;exact lN AC [] ((zQr ϙ N sets n) _ _ · n χ)
def nf(n:U)(pos:Ξ):A ζ:=(Zv n pos).bind λf=>Z f
def GO(n:U)(pos:Ξ):A ζ:=nf n pos
variable{pos:Ξ}
def KG{r:ζ}(h:GO n pos=Z r):EQ 88 [.ints pos] [] (.bool r) [] T:=by
 unfold GO nf at h;refine ot Tryz.func88 λϙ N=>?_
 revert r;apply gO;exact cf zBS [] λ_=>lE AC [2] []
def my(n:U)(pos:Ξ):A Ξ:=(Zv n pos).bind λf=>L f (C (((F pos:E):E)=(F pos:E)/\0<=(F pos:E)/\((F pos:E):E)<=1000000000000) (C (F pos=F (d (F pos) (0:E))) (Z<|d (F pos) (0:E)) V) V)<|Z pos
def eG(n:U)(pos:Ξ):A Ξ:=my n pos
def zJ3{r:Ξ}(h:eG n pos=Z r):EQ 135 [.ints pos] [] (.ints r) [] T:=by
 unfold eG my at h;refine ot Tryz.func135 λϙ N=>?_
 revert r;apply gO;exact cf zBS [] λ_=>bi 4 (gi<|gn λa=>lF λp=>ez AC [2] [0] p [0]<|H0.g a)<|lE AC [2] []
inductive dY where
 |l1 (x20:E)
def dW(n:U)(self:dY->A E)(q:AA)(pos:Ξ)(x20:E):A E:=L (H<|x20<(F pos:E)) (C (0<=x20/\x20<(F pos:E)) (L (H<|M pos x20.toNat 0<0) (Z 250)<|C (0<=q.sy/\q.sy<=(IntKind.i64.bits:E)) (L (H<|M pos x20.toNat 0>=(IntKind.i64.wrap<|1*2^(q.sy).toNat)) (Z 250)<|C (AI<|x20+1) (self<|.l1<|x20+1) V) V) V)<|Z 0
def ww(n:U)(self:dY->A E)(q:AA)(pos:Ξ):A E:=(valid n q).bind λf=>L (f != 0) (Z f)<|L ((F pos:E) != q.ce) (Z 250)<|self<|.l1 0
def RH(q:AA)(pos:Ξ):U->dY->A E
 |0,_=>V
 |n+1,.l1 x20=>dW n (RH q pos n) q pos x20
def Gb(n:U)(q:AA)(pos:Ξ):A E:=ww n (RH q pos n) q pos
def zJJ(n ϙ:U)(N:Yd 0)(q:AA)(pos:Ξ)(r:E):dY->Prop:=px n ϙ η N (FQ Tryz.f36 0 (.i r) []) (AZ Tryz.f36) λ
 | .l1 x20=>(0,0,AF 34 [(2,.ref 0 0),(18,.ints pos),(19,.i (F pos:E)),(20,.i x20)],[oC<|AG q])
def zJK(ϙ:U)(N:Yd 0)(q:AA)(pos:Ξ):Al (RH q pos) (zJJ · ϙ N q pos):=ia (λ_=>rfl) λn I G r h=>by
 cases G
 case l1 x20=>
  intro b a;refine rd a λb a=>?_
  revert r;apply gO;exact bi 21 (gi (bi 25 (lE AC [4] []) (gi (bi 31 (lE AC [4] []) (gw 33 (lG AC [0] (I _ _ · b a)))))))<|lE AC [4] []
variable{r:E}{q:AA}
def ML(h:Gb n q pos=Z r):EQ 36 [.agg 5<|L1<|AG q,.ints pos] [] (.i r) [] T:=by
 refine ot Tryz.func36 λϙ N=>?_
 revert r;apply gO;exact cf ax [oC<|AG q] λ_=>bi 11 (lE AC [4] []) (bi 17 (lE AC [4] []) (lN AC [0] ((zJK ϙ N q pos n) _ _ · n χ)))
def zBh(n:U)(h:Ξ):A Ξ:=C (0<F h/\(True/\(0=0/\0=F ([]:Ξ))/\F ([]:Ξ)+F h<=Av)) (C (F ([]:Ξ)+F h=F (([]:Ξ)++h)) (Z<|([]:Ξ)++h) V) V
def i7(n:U)(h:Ξ):A Ξ:=zBh n h
def zRf{a:Ξ}{r:Ξ}(h:i7 n a=Z r):EQ 145 [.ints a] [] (.msl 0 1 0<|F r) [oI r] T:=by
 refine ot Tryz.func145 λϙ N=>?_
 revert r;apply gO;exact gc<|gi<|gi<|gn λu=>lF λp=>el AC [2] [1] p [] H0 [.msl 0 1 0<|F ([]:Ξ)+F a]<|AO.mslN u
def qo(n:U)(h:Ω):A Ω:=C (0<F h/\(True/\(0=0/\0=F ([]:Ω))/\F ([]:Ω)+F h<=Av)) (C (F ([]:Ω)+F h=F (([]:Ω)++h)) (Z<|([]:Ω)++h) V) V
def Sj(n:U)(h:Ω):A Ω:=qo n h
def zBi{a:Ω}{r:Ω}(h:Sj n a=Z r):EQ 193 [.bools a] [] (.msl 0 1 0<|F r) [Z<|.bools r] T:=by
 refine ot Tryz.func193 λϙ N=>?_
 revert r;apply gO;exact gc<|gi<|gi<|gn λu=>lF λp=>el AC [2] [1] p [] H0 [.msl 0 1 0<|F ([]:Ω)+F a]<|AO.mslN u
def qs(n:U)(q:AA)(i:E)(pos:Ξ):A E:=(Rf n q i).bind λf=>L (f.2 != 0) (Z f.2)<|(Gb n q pos).bind λG=>Z G
def Vd(n:U)(q:AA)(i:E)(pos:Ξ):A E:=qs n q i pos
def zRp{i:E}(h:Vd n q i pos=Z r):EQ 116 [.agg 5<|L1<|AG q,.i i,.ints pos] [] (.i r) [] T:=by
 unfold Vd qs at h;refine ot Tryz.func116 λϙ N=>?_
 revert r;apply gO;exact cf nM [oC<|AG q] λ_=>bi 16 (lE AC [6] [])<|cf ML [oC<|AG q] λ_=>lE AC [6] []
inductive gu where
 |l1 (BF:E)
def gm(n:U)(self:gu->A E)(J:O Ξ)(sets:O Ω)(W:E):A E:=L (H<|W<(F sets:E)) (C (0<=W/\W<(F sets:E)) (L (((F<|M sets W.toNat []:U):E) != (F J:E)) (Z 1)<|C (AI<|W+1) (self<|.l1<|W+1) V) V)<|Z 0
def zAU(n:U)(self:gu->A E)(J:O Ξ)(sets:O Ω):A E:=(ZN n J).bind λf=>L (f != 0) (Z f)<|self<|.l1 0
def VD(J:O Ξ)(sets:O Ω):U->gu->A E
 |0,_=>V
 |n+1,.l1 W=>gm n (VD J sets n) J sets W
def Mu(n:U)(J:O Ξ)(sets:O Ω):A E:=zAU n (VD J sets n) J sets
def zPF(n ϙ:U)(N:Yd 0)(J:O Ξ)(sets:O Ω)(r:E):gu->Prop:=px n ϙ η N (FQ Tryz.f195 0 (.i r) []) (AZ Tryz.f195) λ
 | .l1 W=>(0,0,AF 25 [(0,.sl 1 (F J)<|AM AW J),(13,.sl 1 (F sets)<|AM Vg sets),(14,.i (F sets:E)),(15,.i W)],[])
def zPG(ϙ:U)(N:Yd 0)(J:O Ξ)(sets:O Ω):Al (VD J sets) (zPF · ϙ N J sets):=ia (λ_=>rfl) λn I G r h=>by
 cases G
 case l1 BF=>
  intro q a;refine rd a λq a=>?_
  revert r;apply gO;exact bi 16 (gi (bi 23 (lE AC [4] []) (gw 24 (lG AC [] (I _ _ · q a)))))<|lE AC [4] []
def gj{J:O Ξ}{sets:O Ω}(h:Mu n J sets=Z r):EQ 195 [.sl 1 (F J)<|AM AW J,.sl 1 (F sets)<|AM Vg sets] [] (.i r) [] T:=by
 refine ot Tryz.func195 λϙ N=>?_
 revert r;apply gO;exact cf zAa [] λ_=>bi 11 (lE AC [4] []) (lN AC [] ((zPG ϙ N J sets n) _ _ · n χ))
end
section
set_option maxRecDepth 100000
set_option maxHeartbeats 40000000
def zGW:Ar (Am Tryz.f169 0) [] (θ 18) [18]:=Z0
def zFM:BZ:=λi=>match i with
 |0=>.ord [] (θ 18) [18]
 |_=>.no
def nI(n:U)(cell ss:E)(c:AE)(q:AA)(pos:Ξ)(ln:U)(lost:Ξ):A Ξ:=C ((0<=cell/\cell<(ln:E))/\0+cell.toNat<F lost/\(0<=cell/\cell<(F pos:E))) (Z<|lost.set (0+cell.toNat)<|bits .or .i64 (M lost (0+cell.toNat) 0)<|bits .and .i64 (M pos cell.toNat 0) ss) V
def El(n:U)(cell ss:E)(c:AE)(q:AA)(pos:Ξ)(ln:U)(lost:Ξ):A Ξ:=nI n cell ss c q pos ln lost
variable{r lost pos:Ξ}{ln n:U}{q:AA}{c:AE}{cell:E}
def H2{ss:E}(h:El n cell ss c q pos ln lost=Z r):EQ 169 [.ref 0 0,.i cell,.i ss] [oW c q pos 1 ln,oI lost] (.tup 0 λj=>([]:O DV).getD j .any) [oW c q pos 1 ln,oI r] D:=by
 refine ot Tryz.func169 λϙ N=>?_
 revert r;apply gO;exact jg zGW<|gc<|gn λx=>jg x<|gc<|gn λp=>jg p<|gi<|jg x<|jg p<|lE zFM [] [0,1]
def zGF:Ar (Am Tryz.f170 0) [] (θ 22) [22]:=Z0
def zFK:BZ:=λi=>match i with
 |0=>.ord [] (θ 22) [22]
 |_=>.no
def mg(n:U)(cell:E)(c:AE)(q:AA)(pos:Ξ)(ln:U)(lost:Ξ):A Ξ:=C ((0<=cell/\cell<(ln:E))/\0+cell.toNat<F lost/\(0<=cell/\cell<(F pos:E))) (Z<|lost.set (0+cell.toNat)<|bits .or .i64 (M lost (0+cell.toNat) 0)<|bits .andNot .i64 (M pos cell.toNat 0) c.set) V
def IN(n:U)(cell:E)(c:AE)(q:AA)(pos:Ξ)(ln:U)(lost:Ξ):A Ξ:=mg n cell c q pos ln lost
def PU(h:IN n cell c q pos ln lost=Z r):EQ 170 [.ref 0 0,.i cell] [oW c q pos 1 ln,oI lost] (.tup 0 λj=>([]:O DV).getD j .any) [oW c q pos 1 ln,oI r] D:=by
 refine ot Tryz.func170 λϙ N=>?_
 revert r;apply gO;exact jg zGF<|gc<|gn λx=>jg x<|gc<|gn λp=>jg p<|gi<|jg x<|jg p<|lE zFK [] [0,1]
inductive Zn where
 |l1 (x3 x4 Bb:E)
 |l2 (x3 x4 Cv:E) (o1:Ξ)
def iX(n:U)(self:Zn->W5)(c:AE)(q:AA)(pos:Ξ)(ln:U)(lost:Ξ)(X a W:E):W5:=L (H<|W<(F c.ce:E)) (C ((0<=W/\W<(F c.ce:E))/\(0<=M c.ce W.toNat 0/\M c.ce W.toNat 0<(F pos:E))/\AI (M pos (M c.ce W.toNat 0).toNat 0-1)) (L ((bits .and .i64 (M pos (M c.ce W.toNat 0).toNat 0)<|M pos (M c.ce W.toNat 0).toNat 0-1)==0) (C (AI<|W+1) (self<|.l1 (bits .or .i64 X<|M pos (M c.ce W.toNat 0).toNat 0) (bits .or .i64 a<|bits .and .i64 X<|M pos (M c.ce W.toNat 0).toNat 0)<|W+1) V)<|C (AI<|W+1) (self<|.l1 X a<|W+1) V) V)<|self<|.l2 X a 0 lost
def iW(n:U)(self:Zn->W5)(c:AE)(q:AA)(pos:Ξ)(ln:U)(lost:Ξ)(X a i:E)(o1:Ξ):W5:=L (H<|i<(F c.ce:E)) (C ((0<=i/\i<(F c.ce:E))/\(0<=M c.ce i.toNat 0/\M c.ce i.toNat 0<(F pos:E))/\AI (M pos (M c.ce i.toNat 0).toNat 0-1)) (L ((bits .and .i64 (M pos (M c.ce i.toNat 0).toNat 0)<|M pos (M c.ce i.toNat 0).toNat 0-1)==0) ((El n (M c.ce i.toNat 0) (bits .or .i64 (bits .andNot .i64 X<|M pos (M c.ce i.toNat 0).toNat 0) a) c q pos ln o1).bind λf=>C (AI<|i+1) (self<|.l2 X a (i+1) f) V)<|(El n (M c.ce i.toNat 0) X c q pos ln o1).bind λf=>C (AI<|i+1) (self<|.l2 X a (i+1) f) V) V)<|Z (T,o1)
def zBP(n:U)(self:Zn->W5)(c:AE)(q:AA)(pos:Ξ)(ln:U)(lost:Ξ):W5:=self<|.l1 0 0 0
def OJ(c:AE)(q:AA)(pos:Ξ)(ln:U)(lost:Ξ):U->Zn->W5
 |0,_=>V
 |n+1,.l1 X a W=>iX n (OJ c q pos ln lost n) c q pos ln lost X a W
 |n+1,.l2 X a i o1=>iW n (OJ c q pos ln lost n) c q pos ln lost X a i o1
def VV(n:U)(c:AE)(q:AA)(pos:Ξ)(ln:U)(lost:Ξ):W5:=zBP n (OJ c q pos ln lost n) c q pos ln lost
def zQf(n ϙ:U)(N:Yd 2)(c:AE)(q:AA)(pos:Ξ)(ln:U)(lost:Ξ)(r:ζ×Ξ):Zn->Prop:=px n ϙ η N (FQ Tryz.f136 2 (.bool r.1) [oW c q pos 1 ln,oI r.2]) (AZ Tryz.f136) λ
 | .l1 X a W=>(0,0,AF 77 [(0,.ref 0 0),(3,.i X),(4,.i a),(15,.ints c.ce),(16,.i (F c.ce:E)),(17,.i W)],[oW c q pos 1 ln,oI lost])
 | .l2 X a b o1=>(0,2,AF 77 [(0,.ref 0 0),(3,.i X),(4,.i a),(46,.ints c.ce),(47,.i (F c.ce:E)),(48,.i b)],[oW c q pos 1 ln,oI o1])
def zQg(ϙ:U)(N:Yd 2)(c:AE)(q:AA)(pos:Ξ)(ln:U)(lost:Ξ):Al (OJ c q pos ln lost) (zQf · ϙ N c q pos ln lost):=ia (λ_=>rfl) λn I G r h=>by
 cases G
 case l1 x3 x4 Bb=>
  intro b a;refine rd a λb a=>?_
  revert r;apply gO;exact bi 18 (gc (gi (gc (gi (gw 30 (bi 32 (gw 41 (lG AC [0,1] (I _ _ · b a))) (gw 41 (lG AC [0,1] (I _ _ · b a))))))))) (lN AC [0,1] (I _ _ · n χ))
 case l2 x3 x4 Cv o1=>
  intro b a;refine rd a λb a=>?_
  revert r;apply gO;exact bi 49 (gc (gi (gc (gi (gw 61 (bi 63 (ce H2 [0,1] [oW c q pos 1 ln,oI o1] λ_=>gw 76 (lG AC [0,1] (I _ _ · b a))) (ce H2 [0,1] [oW c q pos 1 ln,oI o1] λ_=>gw 76 (lG AC [0,1] (I _ _ · b a)))))))))<|lE AC [2] [0,1]
def zQe{r:ζ×Ξ}(h:VV n c q pos ln lost=Z r):EQ 136 [.ref 0 0] [oW c q pos 1 ln,oI lost] (.bool r.1) [oW c q pos 1 ln,oI r.2] D:=by
 refine ot Tryz.func136 λϙ N=>?_
 revert r;apply gO;exact lN AC [0,1] ((zQg ϙ N c q pos ln lost n) _ _ · n χ)
def zGl:Ar (Am Tryz.f137 5) [] (θ 15) []:=Z0
def zGk:Ar (Am Tryz.f137 8) [] (θ 15) []:=Z0
def zGm:Ar (Am Tryz.f137 16) [] (θ 23) []:=Z0
def lR:Ar (Am Tryz.f137 18) [] (θ 23) []:=Z0
def HU:BZ:=λi=>match i with
 |5=>.ord [] (θ 15) []
 |8=>.ord [] (θ 15) []
 |16=>.ord [] (θ 23) []
 |18=>.ord [] (θ 23) []
 |_=>.no
inductive Zz where
 |l1 (x3 x4 BF:E)
 |l2 (x3 x4 Cx:E) (o1:Ξ)
def Zy(n:U)(self:Zz->W5)(c:AE)(q:AA)(pos:Ξ)(ln:U)(lost:Ξ)(X a W:E):W5:=L (H<|W<(F c.ce:E)) (C ((0<=W/\W<(F c.ce:E))/\(0<=M c.ce W.toNat 0/\M c.ce W.toNat 0<(F pos:E))) (L (bits .andNot .i64 (M pos (M c.ce W.toNat 0).toNat 0) c.set==0) (C (AI (X+1)/\AI (a+1)/\AI (W+1)) (self<|.l1 (X+1) (a+1)<|W+1) V)<|L (bits .and .i64 (M pos (M c.ce W.toNat 0).toNat 0) c.set != 0) (C (AI (a+1)/\AI (W+1)) (self<|.l1 X (a+1)<|W+1) V)<|C (AI<|W+1) (self<|.l1 X a<|W+1) V) V)<|L (H<|X>c.hi) (Z (D,lost))<|L (H<|a<c.lo) (Z (D,lost))<|self<|.l2 X a 0 lost
def ij(n:U)(self:Zz->W5)(c:AE)(q:AA)(pos:Ξ)(ln:U)(lost:Ξ)(X a j:E)(o1:Ξ):W5:=L (H<|j<(F c.ce:E)) (C (0<=j/\j<(F c.ce:E)) (L (X==c.hi) (C (0<=M c.ce j.toNat 0/\M c.ce j.toNat 0<(F pos:E)) (L (bits .andNot .i64 (M pos (M c.ce j.toNat 0).toNat 0) c.set != 0) ((El n (M c.ce j.toNat 0) c.set c q pos ln o1).bind λf=>L (a==c.lo) (L (bits .and .i64 (M pos (M c.ce j.toNat 0).toNat 0) c.set != 0) ((IN n (M c.ce j.toNat 0) c q pos ln f).bind λG=>C (AI<|j+1) (self<|.l2 X a (j+1) G) V)<|C (AI<|j+1) (self<|.l2 X a (j+1) f) V)<|C (AI<|j+1) (self<|.l2 X a (j+1) f) V)<|L (a==c.lo) (L (bits .and .i64 (M pos (M c.ce j.toNat 0).toNat 0) c.set != 0) ((IN n (M c.ce j.toNat 0) c q pos ln o1).bind λf=>C (AI<|j+1) (self<|.l2 X a (j+1) f) V)<|C (AI<|j+1) (self<|.l2 X a (j+1) o1) V)<|C (AI<|j+1) (self<|.l2 X a (j+1) o1) V) V)<|L (a==c.lo) (C (0<=M c.ce j.toNat 0/\M c.ce j.toNat 0<(F pos:E)) (L (bits .and .i64 (M pos (M c.ce j.toNat 0).toNat 0) c.set != 0) ((IN n (M c.ce j.toNat 0) c q pos ln o1).bind λf=>C (AI<|j+1) (self<|.l2 X a (j+1) f) V)<|C (AI<|j+1) (self<|.l2 X a (j+1) o1) V) V)<|C (AI<|j+1) (self<|.l2 X a (j+1) o1) V) V)<|Z (T,o1)
def zQz(n:U)(self:Zz->W5)(c:AE)(q:AA)(pos:Ξ)(ln:U)(lost:Ξ):W5:=self<|.l1 0 0 0
def Lk(c:AE)(q:AA)(pos:Ξ)(ln:U)(lost:Ξ):U->Zz->W5
 |0,_=>V
 |n+1,.l1 X a W=>Zy n (Lk c q pos ln lost n) c q pos ln lost X a W
 |n+1,.l2 X a j o1=>ij n (Lk c q pos ln lost n) c q pos ln lost X a j o1
def VX(n:U)(c:AE)(q:AA)(pos:Ξ)(ln:U)(lost:Ξ):W5:=zQz n (Lk c q pos ln lost n) c q pos ln lost
def zQ0(n ϙ:U)(N:Yd 2)(c:AE)(q:AA)(pos:Ξ)(ln:U)(lost:Ξ)(r:ζ×Ξ):Zz->Prop:=px n ϙ η N (FQ Tryz.f137 2 (.bool r.1) [oW c q pos 1 ln,oI r.2]) (AZ Tryz.f137) λ
 | .l1 X a W=>(0,0,AF 140 [(0,.ref 0 0),(3,.i X),(4,.i a),(13,.ints c.ce),(14,.i (F c.ce:E)),(15,.i W)],[oW c q pos 1 ln,oI lost])
 | .l2 X a j o1=>(0,3,AF 140 [(0,.ref 0 0),(3,.i X),(4,.i a),(76,.ints c.ce),(77,.i (F c.ce:E)),(78,.i j)],[oW c q pos 1 ln,oI o1])
def zQ1(ϙ:U)(N:Yd 2)(c:AE)(q:AA)(pos:Ξ)(ln:U)(lost:Ξ):Al (Lk c q pos ln lost) (zQ0 · ϙ N c q pos ln lost):=ia (λ_=>rfl) λn I G r h=>by
 cases G
 case l1 x3 x4 BF=>
  intro b a;refine rd a λb a=>?_
  revert r;apply gO;exact bi 16 (gc (gi (jg zGl (gn λp=>jg p (bi 33 (gc (gw 35 (gc (gw 37 (gw 55 (lG HU [0,1] (I _ _ · b a))))))) (jg zGk (jg p (bi 52 (gc (gw 54 (gw 55 (lG HU [0,1] (I _ _ · b a))))) (gw 55 (lG HU [0,1] (I _ _ · b a))))))))))) (bi 62 (lE HU [2] [0,1]) (bi 70 (lE HU [2] [0,1]) (lN HU [0,1] (I _ _ · n χ))))
 case l2 x3 x4 Cx o1=>
  intro b a;refine rd a λb a=>?_
  revert r;apply gO;exact bi 79 (gi (jg zGm (bi 88 (gn λp=>jg p (bi 103 (ce H2 [0,1] [oW c q pos 1 ln,oI o1] λf=>jg lR (bi 119 (jg p (bi 134 (ce PU [0,1] [oW c q pos 1 ln,oI f] λ_=>gw 139 (lG HU [0,1] (I _ _ · b a))) (gw 139 (lG HU [0,1] (I _ _ · b a))))) (gw 139 (lG HU [0,1] (I _ _ · b a))))) (jg lR (bi 119 (jg p (bi 134 (ce PU [0,1] [oW c q pos 1 ln,oI o1] λ_=>gw 139 (lG HU [0,1] (I _ _ · b a))) (gw 139 (lG HU [0,1] (I _ _ · b a))))) (gw 139 (lG HU [0,1] (I _ _ · b a))))))) (jg lR (bi 119 (gi (bi 134 (ce PU [0,1] [oW c q pos 1 ln,oI o1] λ_=>gw 139 (lG HU [0,1] (I _ _ · b a))) (gw 139 (lG HU [0,1] (I _ _ · b a))))) (gw 139 (lG HU [0,1] (I _ _ · b a))))))))<|lE HU [2] [0,1]
def zQy{r:ζ×Ξ}(h:VX n c q pos ln lost=Z r):EQ 137 [.ref 0 0] [oW c q pos 1 ln,oI lost] (.bool r.1) [oW c q pos 1 ln,oI r.2] D:=by
 refine ot Tryz.func137 λϙ N=>?_
 revert r;apply gO;exact lN HU [0,1] ((zQ1 ϙ N c q pos ln lost n) _ _ · n χ)
end
section
set_option maxRecDepth 100000
set_option maxHeartbeats 40000000
def zDx(n:U)(AV:E):A Unit:=Z ()
def zDy(n:U)(y:E):A Unit:=zDx n y
variable{n:U}
def zDw(y:E){r:Unit}(h:zDy n y=Z r):EQ 172 [.i y] [] (.fn 189 1<|L1 [.ref 0 0]) [oC [.i y]] T:=by
 refine ot Tryz.func172 λϙ N=>?_
 revert r;apply gO;exact lE AC [2] [0]
def NJ{x:E}(e:0<=x/\x<9223372036854775808)(h:DH):EQ 172 [.i x] h (.it<|F h) (h++[Z<|.iter<|(By x).map Bn]) T:=by
 refine ES.iterOf (zDw (n:=0) x (r:=()) rfl) rfl Z5 (λargs W=>?_) (λw b o u s J a hc c=>zDu e w b o u s J a hc c) rfl (λb a=>?_) h
 ·exact HD Tryz.func189 Z5 Z5 args W
 ·rw[a];decide
def t7:ST:=.rd 0<|.rd 1<|.rd 2<|.rd 3<|.rd 4<|.rd 5<|.rd 6<|.rd 7<|.rd 8<|.rd 9<|.rd 10<|.rd 11<|.rd 12<|.rd 13<|.rd 14<|.rd 15<|.rd 16<|.rd 17<|.rd 18<|.rd 19<|.ef 20 (.ef 21 (.fin [] [4,5])<|.no)<|.no
def zGh:Bz (Am Tryz.f171 4) [20] t7:=Z1
def t6:ST:=.rd 0<|.rd 1<|.ef 2 (.ef 3 (.fin [] [4,5])<|.no)<|.no
def zGg:Bz (Am Tryz.f171 5) [2] t6:=Z1
def cH:BZ:=λi=>match i with
 |4=>.tre [20] t7
 |5=>.tre [2] t6
 |_=>.no
def zN4(c:AE)(q:AA)(pos:Ξ)(ln:U)(lost:Ξ):DH:=[oW c q pos 1 ln,oI lost,oC [.ref 0 0],oC [.i 100],oC [.i<|-1]]
def zN3(c:AE)(q:AA)(pos:Ξ)(ln:U)(lost:Ξ)(ss:E):DH:=[oW c q pos 1 ln,oI lost,oC [.ref 0 0],oC [.i 100],oC [.i<|-1],Z<|.iter<|(By ss).map Bn]
def tN(c:AE)(q:AA)(pos:Ξ)(ln:U)(lost:Ξ)(I J:E):St:=⟨AF 32 [(4,.ref 3 0),(5,.ref 4 0)],([oW c q pos 1 ln,oI lost,oC [.ref 0 0],oC [.i I],oC [.i J],V]:DH)⟩
def zN2(c:AE)(q:AA)(pos:Ξ)(ln:U)(lost:Ξ)(w x:E):DH:=[oW c q pos 1 ln,oI lost,oC [.ref 0 0],oC [.i w],oC [.i x],V]
def tM(c:AE)(q:AA)(pos:Ξ)(ln:U)(lost:Ξ)(f w x:E):St:=⟨AF 32 [(4,.ref 3 0),(5,.ref 4 0)],([oW c q pos 1 ln,oI lost,oC [.ref 0 0],oC [.i<|C (M q.va f.toNat 0<w) (M q.va f.toNat 0) w],oC [.i<|C (M q.va f.toNat 0>x) (M q.va f.toNat 0) x],V]:DH)⟩
inductive QL where
 |s0 (Hv Hu:E)
def zBA(c:AE)(q:AA)(pos:Ξ)(ln:U)(lost:Ξ):QL->DH
 | .s0 w x=>[oW c q pos 1 ln,oI lost,oC [.ref 0 0],oC [.i w],oC [.i x],V]
def zA9(n:U)(c:AE)(q:AA)(pos:Ξ)(ln:U)(lost:Ξ)(f:E)(w x:E):A QL:=C (0<=f/\f<(F q.va:E)) (Z<|.s0 (C (M q.va f.toNat 0<w) (M q.va f.toNat 0) w)<|C (M q.va f.toNat 0>x) (M q.va f.toNat 0) x) V
def zA8(n:U)(c:AE)(q:AA)(pos:Ξ)(ln:U)(lost:Ξ)(f:E):QL->A QL
 | .s0 w x=>zA9 n c q pos ln lost f w x
def Zf(n:U)(c:AE)(q:AA)(pos:Ξ)(ln:U)(lost:Ξ)(f:E)(s:QL):A QL:=zA8 n c q pos ln lost f s
def zQK(n:U)(c:AE)(q:AA)(pos:Ξ)(ln:U)(lost:Ξ)(l ϙ:U)(N:Yd 6)(f:E)(s:QL)(r:QL)(h:Zf n c q pos ln lost f s=Z r):TA l ϙ N (C3 6 [] 0<|zBA c q pos ln lost r) Tryz.f171 8 ⟨AF 32 [(2,.ref 2 0),(4,.ref 3 0),(5,.ref 4 0),(8,.it 5),(9,.i f)],zBA c q pos ln lost s⟩:=by
 cases s with
 |s0 w x=>
  refine ag cH [0,1,2,3,4,5] H0 (AF 32 [(2,.ref 2 0),(4,.ref 3 0),(5,.ref 4 0),(6,.i f)]) (zN2 c q pos ln lost w x) λN=>?_
  revert r;apply gO;exact jg zGh<|gn λa=>jg a<|jg a<|jt<|jt<|jg (φ<|tM c q pos ln lost f w x)<|lF λp=>rr (tg:=[([(20,3)],tM c q pos ln lost f w x)]) cH [0,1,2,3,4,5] rfl p
def zA7(n:U)(ss:E)(c:AE)(q:AA)(pos:Ξ)(ln:U)(lost:Ξ):A<|E×E×Ξ:=
 if 0<=ss/\ss<9223372036854775808 then
  (CC (Zf n c q pos ln lost) (By ss)<|.s0 100<|-1).bind λf=>
   match f with
   | .s0 I J=>
    Z (I,J,lost)
 else V
def Zg(n:U)(ss:E)(c:AE)(q:AA)(pos:Ξ)(ln:U)(lost:Ξ):A<|E×E×Ξ:=zA7 n ss c q pos ln lost
variable{lost pos:Ξ}{ln:U}{q:AA}{c:AE}
def VR{ss:E}{r:E×E×Ξ}(h:Zg n ss c q pos ln lost=Z r):EQ 171 [.ref 0 0,.i ss] [oW c q pos 1 ln,oI lost] (.tup 2<|L1 [.i r.1,.i r.2.1]) [oW c q pos 1 ln,oI r.2.2] D:=by
 refine ot Tryz.func171 λϙ N=>?_
 revert r;apply gO
 exact jt<|jt<|gn λx=>jc (NJ x<|zN4 c q pos ln lost) (cn λf P=>λp r h=>by
  refine gs cH [0,1,2,3,4,5] p (Ho (AZ Tryz.f171) 8 []) (AF 32 [(2,.ref 2 0),(4,.ref 3 0),(5,.ref 4 0),(8,.it 5)]) (zN3 c q pos ln lost ss) ?_;refine r0 5 8 #[9] Bn 6 P (zQK n c q pos ln lost) ?_;cases f with
  |s0 I J=>
   dsimp only at h
   revert r;apply gO;exact jg zGg<|jt<|jt<|jg (φ<|tN c q pos ln lost I J)<|lE (tg:=[([(2,3)],tN c q pos ln lost I J)]) cH [4,5] [0,1,3,4])
def tR:ST:=.rd 0<|.rd 1<|.rd 2<|.rd 3<|.rd 4<|.rd 5<|.rd 6<|.rd 7<|.ef 8 (.rd 9<|.rd 10<|.rd 11<|.rd 12<|.rd 13<|.fin [] [1,3,4,7,8,19,20,21,90])<|.no
def zFe:Bz (Am Tryz.f138 5) [] tR:=Z1
def tQ:ST:=.rd 0<|.rd 1<|.rd 2<|.rd 3<|.rd 4<|.rd 5<|.ef 6 (.ef 7 (.fin [] [1,3,4,19,20,21,90])<|.no)<|.no
def zFd:Bz (Am Tryz.f138 6) [6] tQ:=Z1
def zFc:Ar (Am Tryz.f138 8) [] (θ 16) []:=Z0
def tT:ST:=.rd 0<|.rd 1<|.rd 2<|.rd 3<|.rd 4<|.rd 5<|.rd 6<|.rd 7<|.ef 8 (.rd 9<|.rd 10<|.rd 11<|.ef 12 (.ef 13 (.ef 14 (.ef 15 (.fin [0,1] [1,3,4,10,11,12,64,65,66,90])<|.no)<|.no)<|.no)<|.ef 13 (.ef 12 (.ef 14 (.ef 15 (.fin [1,0] [1,3,4,10,11,12,64,65,66,90])<|.no)<|.no)<|.no)<|.no)<|.ef 12 (.ef 8 (.rd 9<|.rd 10<|.rd 11<|.ef 13 (.ef 14 (.ef 15 (.fin [0,1] [1,3,4,10,11,12,64,65,66,90])<|.no)<|.no)<|.no)<|.ef 13 (.ef 8 (.rd 9<|.rd 10<|.rd 11<|.ef 14 (.ef 15 (.fin [0,1] [1,3,4,10,11,12,64,65,66,90])<|.no)<|.no)<|.no)<|.no)<|.ef 13 (.ef 8 (.rd 9<|.rd 10<|.rd 11<|.ef 12 (.ef 14 (.ef 15 (.fin [1,0] [1,3,4,10,11,12,64,65,66,90])<|.no)<|.no)<|.no)<|.ef 12 (.ef 8 (.rd 9<|.rd 10<|.rd 11<|.ef 14 (.ef 15 (.fin [1,0] [1,3,4,10,11,12,64,65,66,90])<|.no)<|.no)<|.no)<|.no)<|.no
def zFh:Bz (Am Tryz.f138 13) [12,13,14] tT:=Z1
def zFg:Ar (Am Tryz.f138 14) [([0,1,2,3,4,5,6],7)] [] []:=Z0
def zFf:Ar (Am Tryz.f138 17) [] (θ 24) []:=Z0
def tS:ST:=.rd 0<|.rd 1<|.rd 2<|.rd 3<|.ef 4 (.fin [] [2])<|.no
def vB:Bz (Am Tryz.f138 18) [] tS:=Z1
def J6:BZ:=λi=>match i with
 |5=>.tre [] tR
 |6=>.tre [6] tQ
 |8=>.ord [] (θ 16) []
 |13=>.tre [12,13,14] tT
 |14=>.ord [([0,1,2,3,4,5,6],7)] [] []
 |17=>.ord [] (θ 24) []
 |18=>.tre [] tS
 |_=>.no
def zM6(c:AE)(q:AA)(pos:Ξ)(ln:U)(o1:Ξ)(z j:E):DH:=[oW c q pos 1 ln,oI o1,oC [.ref 0 0],oC [.i z],oC [.i j]]
def sq(f:E×E×Ξ)(c:AE)(x21:E)(q:AA)(pos:Ξ)(ln:U)(z j:E):St:=⟨AF 129 [(1,.ref 2 0),(3,.ref 3 0),(4,.ref 4 0),(7,.i f.1),(8,.i f.2.1),(19,.ints c.ce),(20,.i (F c.ce:E)),(21,.i x21)],([oW c q pos 1 ln,oI f.2.2,oC [.ref 0 0],oC [.i z],oC [.i j]]:DH)⟩
def sn(c:AE)(x21:E)(q:AA)(pos:Ξ)(ln:U)(f:E×E×Ξ)(z j:E):St:=⟨AF 129 [(1,.ref 2 0),(3,.ref 3 0),(4,.ref 4 0),(19,.ints c.ce),(20,.i (F c.ce:E)),(21,.i x21)],([oW c q pos 1 ln,oI f.2.2,oC [.ref 0 0],oC [.i<|z+f.1],oC [.i<|j+f.2.1]]:DH)⟩
def zM5(c:AE)(q:AA)(pos:Ξ)(ln:U)(o1:Ξ)(z j a:E):DH:=[oW c q pos 1 ln,oI o1,oC [.ref 0 0],oC [.i z],oC [.i j],oC [.i<|M c.ce a.toNat 0]]
def Qt(c:AE)(a:E)(q:AA)(pos:Ξ)(ln:U)(f:E×E×Ξ)(z j:E):St:=⟨AF 129 [(1,.ref 2 0),(3,.ref 3 0),(4,.ref 4 0),(10,.ref 5 0),(11,.ref 6 0),(12,.ref 7 0),(64,.ints c.ce),(65,.i (F c.ce:E)),(66,.i a)],([oW c q pos 1 ln,oI f.2.2,oC [.ref 0 0],oC [.i z],oC [.i j],oC [.i<|M c.ce a.toNat 0],oC [.i f.1],oC [.i f.2.1]]:DH)⟩
def zb(c:AE)(q:AA)(pos:Ξ)(ln:U)(o1:Ξ)(z j a:E):DH:=[oW c q pos 1 ln,oI o1,oC [.ref 0 0],oC [.i z],oC [.i j],oC [.i<|M c.ce a.toNat 0],oC [.i 0]]
def za(c:AE)(q:AA)(pos:Ξ)(ln:U)(o1:Ξ)(z j a:E):DH:=[oW c q pos 1 ln,oI o1,oC [.ref 0 0],oC [.i z],oC [.i j],oC [.i<|M c.ce a.toNat 0],oC [.i 0],oC [.i 0]]
def zM4(c:AE)(q:AA)(pos:Ξ)(ln:U)(f:E×E×Ξ)(z j a:E):DH:=[oW c q pos 1 ln,oI f.2.2,oC [.ref 0 0],oC [.i z],oC [.i j],oC [.i<|M c.ce a.toNat 0],oC [.i f.1],oC [.i f.2.1]]
def zM3(c:AE)(q:AA)(pos:Ξ)(ln:U)(f:E×E×Ξ)(z j a:E):DH:=[oW c q pos 1 ln,oI f.2.2,oC [.ref 0 0],oC [.i z],oC [.i j],oC [.i<|M c.ce a.toNat 0],oC [.i f.1],oC [.i f.2.1],Z<|.iter<|(By<|M pos (M c.ce a.toNat 0).toNat 0).map Bn]
def oS(c:AE)(q:AA)(pos:Ξ)(ln:U)(a:Ξ)(z j b:E)(f:E×E×Ξ):DH:=[oW c q pos 1 ln,oI a,oC [.ref 0 0],oC [.i z],oC [.i j],oC [.i<|M c.ce b.toNat 0],oC [.i f.1],oC [.i f.2.1],V]
def bJ(c:AE)(q:AA)(pos:Ξ)(ln:U)(o:Ξ)(z j a:E)(f:E×E×Ξ):St:=⟨AF 129 [],([oW c q pos 1 ln,oI o,oC [.ref 0 0],oC [.i z],oC [.i j],oC [.i<|M c.ce a.toNat 0],oC [.i f.1],oC [.i f.2.1],V]:DH)⟩
inductive NK where
 |s0 (IG:Ξ)
def uF(c:AE)(a:E)(q:AA)(pos:Ξ)(ln:U)(z j:E)(f:E×E×Ξ):NK->DH
 | .s0 b=>[oW c q pos 1 ln,oI b,oC [.ref 0 0],oC [.i z],oC [.i j],oC [.i<|M c.ce a.toNat 0],oC [.i f.1],oC [.i f.2.1],V]
def bS(n:U)(c:AE)(b:E)(q:AA)(pos:Ξ)(ln:U)(z j:E)(f:E×E×Ξ)(P:E)(a:Ξ):A NK:=C ((0<=P/\P<(F q.va:E))/\AI (z-f.1)/\AI ((z-f.1)+M q.va P.toNat 0)) (L (H<|((z-f.1)+M q.va P.toNat 0)>c.hi) (C (0<=P/\P<=(IntKind.i64.bits:E)) ((El n (M c.ce b.toNat 0) (IntKind.i64.wrap<|1*2^(P).toNat) c q pos ln a).bind λo=>Z<|.s0 o) V)<|C (AI (j-f.2.1)/\AI ((j-f.2.1)+M q.va P.toNat 0)) (L (H<|((j-f.2.1)+M q.va P.toNat 0)<c.lo) (C (0<=P/\P<=(IntKind.i64.bits:E)) ((El n (M c.ce b.toNat 0) (IntKind.i64.wrap<|1*2^(P).toNat) c q pos ln a).bind λo=>Z<|.s0 o) V)<|Z<|.s0 a) V) V
def uE(n:U)(c:AE)(a:E)(q:AA)(pos:Ξ)(ln:U)(z j:E)(f:E×E×Ξ)(P:E):NK->A NK
 | .s0 b=>bS n c a q pos ln z j f P b
def bT(n:U)(c:AE)(a:E)(q:AA)(pos:Ξ)(ln:U)(z j:E)(f:E×E×Ξ)(P:E)(s:NK):A NK:=uE n c a q pos ln z j f P s
def zD6(n:U)(c:AE)(a:E)(q:AA)(pos:Ξ)(ln:U)(z j:E)(f:E×E×Ξ)(l ϙ:U)(N:Yd 9)(P:E)(s:NK)(r:NK)(h:bT n c a q pos ln z j f P s=Z r):TA l ϙ N (C3 9 [] 0<|uF c a q pos ln z j f r) Tryz.f138 89 ⟨AF 129 [(1,.ref 2 0),(3,.ref 3 0),(4,.ref 4 0),(10,.ref 5 0),(11,.ref 6 0),(12,.ref 7 0),(64,.ints c.ce),(65,.i (F c.ce:E)),(66,.i a),(89,.it 8),(90,.i P)],uF c a q pos ln z j f s⟩:=by
 cases s with
 |s0 b=>
  replace h:bS n c a q pos ln z j f P b=Z r:=h;unfold bS at h;refine ag J6 [0,1,2,3,4,5,6,7,8] H0 (AF 129 [(1,.ref 2 0),(3,.ref 3 0),(4,.ref 4 0),(10,.ref 5 0),(11,.ref 6 0),(12,.ref 7 0),(13,.i P)]) (oS c q pos ln b z j a f) λN=>?_
  revert r;apply gO;exact gc<|gi<|jg zFf<|gc<|gw 101<|gw 103<|bi 109 (jg vB<|gi<|ce H2 [0,1] (oS c q pos ln b z j a f) λo=>jg (φ<|bJ c q pos ln o z j a f)<|lF λp=>rr (tg:=[([],bJ c q pos ln o z j a f)]) J6 [0,1,2,3,4,5,6,7,8] rfl p)<|gc<|gw 113<|gw 115<|bi 121 (jg vB<|gi<|ce H2 [0,1] (oS c q pos ln b z j a f) λo=>jg (φ<|bJ c q pos ln o z j a f)<|lF λp=>rr (tg:=[([],bJ c q pos ln o z j a f)]) J6 [0,1,2,3,4,5,6,7,8] rfl p)<|lF λp=>rr J6 [0,1,2,3,4,5,6,7,8] rfl p
inductive WN where
 |l1 (x21:E) (o1:Ξ) (Ao A7:E)
 |l2 (A0:E) (o1:Ξ) (Ao A7:E)
def WM(n:U)(self:WN->W5)(c:AE)(q:AA)(pos:Ξ)(ln:U)(lost:Ξ)(x21:E)(o1:Ξ)(z j:E):W5:=L (H<|x21<(F c.ce:E)) (C ((0<=x21/\x21<(F c.ce:E))/\(0<=M c.ce x21.toNat 0/\M c.ce x21.toNat 0<(F pos:E))) ((Zg n (M pos (M c.ce x21.toNat 0).toNat 0) c q pos ln o1).bind λf=>C (AI (z+f.1)/\AI (j+f.2.1)/\AI (x21+1)) (self<|.l1 (x21+1) f.2.2 (z+f.1)<|j+f.2.1) V) V)<|L (H<|z>c.hi) (Z (D,o1))<|L (H<|j<c.lo) (Z (D,o1))<|self<|.l2 0 o1 z j
def bR(n:U)(self:WN->W5)(c:AE)(q:AA)(pos:Ξ)(ln:U)(lost:Ξ)(a:E)(o1:Ξ)(z j:E):W5:=
 bif(H<|a<(F c.ce:E))then
  if(0<=a/\a<(F c.ce:E))/\(0<=M c.ce a.toNat 0/\M c.ce a.toNat 0<(F pos:E))then
   (Zg n (M pos (M c.ce a.toNat 0).toNat 0) c q pos ln o1).bind λf=>
    if 0<=M pos (M c.ce a.toNat 0).toNat 0/\M pos (M c.ce a.toNat 0).toNat 0<9223372036854775808 then
     (CC (bT n c a q pos ln z j f) (By<|M pos (M c.ce a.toNat 0).toNat 0)<|.s0 f.2.2).bind λG=>
      match G with
      | .s0 Fd=>
       if AI (a+1)then
        self (.l2 (a+1) Fd z j)
       else V
    else V
  else V
 else
  Z (T,o1)
def zD5(n:U)(self:WN->W5)(c:AE)(q:AA)(pos:Ξ)(ln:U)(lost:Ξ):W5:=self<|.l1 0 lost 0 0
def Km(c:AE)(q:AA)(pos:Ξ)(ln:U)(lost:Ξ):U->WN->W5
 |0,_=>V
 |n+1,.l1 x21 o1 z j=>WM n (Km c q pos ln lost n) c q pos ln lost x21 o1 z j
 |n+1,.l2 a o1 z j=>bR n (Km c q pos ln lost n) c q pos ln lost a o1 z j
def Tc(n:U)(c:AE)(q:AA)(pos:Ξ)(ln:U)(lost:Ξ):W5:=zD5 n (Km c q pos ln lost n) c q pos ln lost
def zD7(n ϙ:U)(N:Yd 2)(c:AE)(q:AA)(pos:Ξ)(ln:U)(lost:Ξ)(r:ζ×Ξ):WN->Prop:=px n ϙ η N (FQ Tryz.f138 2 (.bool r.1) [oW c q pos 1 ln,oI r.2]) (AZ Tryz.f138) λ
 | .l1 x21 o1 z j=>(0,0,AF 129 [(1,.ref 2 0),(3,.ref 3 0),(4,.ref 4 0),(19,.ints c.ce),(20,.i (F c.ce:E)),(21,.i x21)],[oW c q pos 1 ln,oI o1,oC [.ref 0 0],oC [.i z],oC [.i j]])
 | .l2 a o1 z j=>(0,2,AF 129 [(1,.ref 2 0),(3,.ref 3 0),(4,.ref 4 0),(64,.ints c.ce),(65,.i (F c.ce:E)),(66,.i a)],[oW c q pos 1 ln,oI o1,oC [.ref 0 0],oC [.i z],oC [.i j]])
def zD8(ϙ:U)(N:Yd 2)(c:AE)(q:AA)(pos:Ξ)(ln:U)(lost:Ξ):Al (Km c q pos ln lost) (zD7 · ϙ N c q pos ln lost):=ia (λ_=>rfl) λn I G r h=>by
 cases G
 case l1 x21 o1 Ao A7=>
  intro b a;refine rd a λb a=>?_
  revert r;apply gO;exact bi 22 (gc (gi (jg zFe (gi (ce VR [0,1] (zM6 c q pos ln o1 Ao A7) λf=>jg (φ<|sq f c x21 q pos ln Ao A7) (jg zFd (gc (gw 39 (gc (gw 42 (jt (jt (jg (φ<|sn c x21 q pos ln f Ao A7) (gw 43 (lG (tg:=[([],sq f c x21 q pos ln Ao A7),([(6,3)],sn c x21 q pos ln f Ao A7)]) J6 [0,1,2,3,4] (I _ _ · b a)))))))))))))))) (jg zFc (bi 50 (lE J6 [2] [0,1]) (bi 58 (lE J6 [2] [0,1]) (lN J6 [0,1,2,3,4] (I _ _ · n χ)))))
 case l2 A0 o1 Ao A7=>
  intro b a;refine rd a λb a=>?_
  revert r;apply gO
  exact bi 67 (gc (gi (jt (jg zFh (gn λe=>jg e (cn λf P=>jc (em (VR P) [0,1]<|zM5 c q pos ln o1 Ao A7 A0) (jt (jt (jg (φ<|Qt c A0 q pos ln f Ao A7) (jt (jt (jg (φ<|Qt c A0 q pos ln f Ao A7) (jc (em (VR P) [0,1]<|zb c q pos ln o1 Ao A7 A0) (jt (jt (jg (φ<|Qt c A0 q pos ln f Ao A7) (jc (em (VR P) [0,1]<|za c q pos ln o1 Ao A7 A0) (jt (jt (jg (φ<|Qt c A0 q pos ln f Ao A7) (jc (em (VR P) [0,1]<|zb c q pos ln o1 Ao A7 A0) (jt (jt (jg (φ<|Qt c A0 q pos ln f Ao A7) (jc (em (VR P) [0,1]<|za c q pos ln o1 Ao A7 A0) (jt (jt (jg (φ<|Qt c A0 q pos ln f Ao A7) (jg zFg (jg e (gn λu=>jc (NJ u<|zM4 c q pos ln f Ao A7 A0) (cn λg x=>λp r h=>by
   refine gs (tg:=[([],Qt c A0 q pos ln f Ao A7)]) J6 [0,1,2,3,4,5,6,7,8] p (Ho (AZ Tryz.f138) 89 [b]) (AF 129 [(1,.ref 2 0),(3,.ref 3 0),(4,.ref 4 0),(10,.ref 5 0),(11,.ref 6 0),(12,.ref 7 0),(64,.ints c.ce),(65,.i (F c.ce:E)),(66,.i A0),(89,.it 8)]) (zM3 c q pos ln f Ao A7 A0) ?_;refine r0 8 89 #[90] Bn 9 x (zD6 n c A0 q pos ln Ao A7 f) ?_;cases g with
   |s0 Fd=>
    dsimp only at h
    revert r;apply gO;exact gw 128 (lG J6 [0,1,2,3,4] (I _ _ · b a))))))))))))))))))))))))))))))))))<|lE J6 [2] [0,1]
def zD4{r:ζ×Ξ}(h:Tc n c q pos ln lost=Z r):EQ 138 [.ref 0 0] [oW c q pos 1 ln,oI lost] (.bool r.1) [oW c q pos 1 ln,oI r.2] D:=by
 refine ot Tryz.func138 λϙ N=>?_
 revert r;apply gO;exact jt (jt (lN J6 [0,1,2,3,4] ((zD8 ϙ N c q pos ln lost n) _ _ · n χ)))
end
section
set_option maxRecDepth 100000
set_option maxHeartbeats 40000000
def zGq:Ar (Am Tryz.f177 1) [] (θ 18) []:=Z0
def zFP:BZ:=λi=>match i with
 |1=>.ord [] (θ 18) []
 |_=>.no
def zCW(n:U)(h K:E)(c:AE)(q:AA)(pos:Ξ)(ln:U)(lost:Ξ):W5:=C ((0<=h/\h<(F q.va:E))/\(0<=K/\K<(F q.va:E))/\AI (M q.va h.toNat 0-M q.va K.toNat 0)/\AI (0-(M q.va h.toNat 0-M q.va K.toNat 0))) (Z (H<|(C ((0-(M q.va h.toNat 0-M q.va K.toNat 0))>(M q.va h.toNat 0-M q.va K.toNat 0)) (0-(M q.va h.toNat 0-M q.va K.toNat 0))<|M q.va h.toNat 0-M q.va K.toNat 0)>=c.lo,lost)) V
def jV(n:U)(h K:E)(c:AE)(q:AA)(pos:Ξ)(ln:U)(lost:Ξ):W5:=zCW n h K c q pos ln lost
variable{r:ζ×Ξ}{lost pos:Ξ}{ln n:U}{q:AA}{c:AE}{a K:E}
def zSl(h:jV n a K c q pos ln lost=Z r):EQ 177 [.i a,.i K,.ref 0 0] [oC [.ref 1 0],oW c q pos 2 ln,oI lost] (.bool r.1) [oC [.ref 1 0],oW c q pos 2 ln,oI r.2] D:=by
 refine ot Tryz.func177 λϙ N=>?_
 revert r;apply gO;exact jg zGq<|gc<|gi<|gc<|gi<|gc<|gw 23<|gw 26<|lE zFP [5] [0,1,2]
def zGG:Ar (Am Tryz.f178 1) [] (θ 6) []:=Z0
def Wo:BZ:=λi=>match i with
 |1=>.ord [] (θ 6) []
 |_=>.no
def xf(n:U)(h K:E)(c:AE)(q:AA)(pos:Ξ)(ln:U)(lost:Ξ):W5:=C ((0<=h/\h<=(IntKind.i64.bits:E))/\(0<=K/\K<=(IntKind.i64.bits:E))) (L (bits .and .i64 (IntKind.i64.wrap<|1*2^(h).toNat) c.set==0) (L (bits .and .i64 (IntKind.i64.wrap<|1*2^(K).toNat) c.set==0) (Z (T,lost))<|Z (bits .and .i64 (IntKind.i64.wrap<|1*2^(h).toNat) c.other==0,lost))<|L (bits .and .i64 (IntKind.i64.wrap<|1*2^(K).toNat) c.other==0) (L (bits .and .i64 (IntKind.i64.wrap<|1*2^(K).toNat) c.set==0) (Z (T,lost))<|Z (bits .and .i64 (IntKind.i64.wrap<|1*2^(h).toNat) c.other==0,lost))<|Z (D,lost)) V
def eF(n:U)(h K:E)(c:AE)(q:AA)(pos:Ξ)(ln:U)(lost:Ξ):W5:=xf n h K c q pos ln lost
def zJ2(h:eF n a K c q pos ln lost=Z r):EQ 178 [.i a,.i K,.ref 0 0] [oC [.ref 1 0],oW c q pos 2 ln,oI lost] (.bool r.1) [oC [.ref 1 0],oW c q pos 2 ln,oI r.2] D:=by
 refine ot Tryz.func178 λϙ N=>?_
 revert r;apply gO;exact jg zGG<|gc<|gi<|gi<|bi 19 (bi 38 (lE Wo [5] [0,1,2])<|lE Wo [5] [0,1,2])<|bi 28 (bi 38 (lE Wo [5] [0,1,2])<|lE Wo [5] [0,1,2])<|lE Wo [5] [0,1,2]
def zGE:Ar (Am Tryz.f176 1) [] (θ 16) []:=Z0
def zGC:Ar (Am Tryz.f176 2) [([0,1,2,3,4,5,6,7,8,9,10,11,12,13],14)] [15] [16]:=Z0
def zGB:Ar (Am Tryz.f176 9) [] [0,1,2,3] [4]:=Z0
def zGD:Ar (Am Tryz.f176 10) [] [0,1,2,3] [4]:=Z0
def Oy:BZ:=λi=>match i with
 |1=>.ord [] (θ 16) []
 |2=>.ord [([0,1,2,3,4,5,6,7,8,9,10,11,12,13],14)] [15] [16]
 |9=>.ord [] [0,1,2,3] [4]
 |10=>.ord [] [0,1,2,3] [4]
 |_=>.no
def zNy(c:AE)(q:AA)(pos:Ξ)(ln:U)(lost:Ξ):DH:=[oC [.ref 1 0],oW c q pos 2 ln,oI lost,oC [.fn 177 1<|L1 [.ref 0 0]],oC [.i<|M pos (M c.ce 1 0).toNat 0],oC [.i 0],oC [.i 0]]
def zNx(c:AE)(q:AA)(pos:Ξ)(ln:U)(lost:Ξ):DH:=[oC [.ref 1 0],oW c q pos 2 ln,oI lost,oC [.fn 177 1<|L1 [.ref 0 0]],oC [.i<|M pos (M c.ce 1 0).toNat 0],oC [.i 0],oC [.i 0],Z<|.iter<|(By<|M pos (M c.ce 0 0).toNat 0).map Bn]
def zNw(c:AE)(q:AA)(pos:Ξ)(ln:U)(I:Ξ)(J v:E):DH:=[oC [.ref 1 0],oW c q pos 2 ln,oI I,oC [.fn 177 1<|L1 [.ref 0 0]],oC [.i<|M pos (M c.ce 1 0).toNat 0],oC [.i J],oC [.i v],V]
def zNv(c:AE)(q:AA)(pos:Ξ)(ln:U)(G:Ξ)(J v:E):DH:=[oC [.ref 1 0],oW c q pos 2 ln,oI G,oC [.fn 177 1<|L1 [.ref 0 0]],oC [.i<|M pos (M c.ce 1 0).toNat 0],oC [.i J],oC [.i v],V]
def zj(c:AE)(q:AA)(pos:Ξ)(ln:U)(a:Ξ)(e f b:E):DH:=[oC [.ref 1 0],oW c q pos 2 ln,oI a,oC [.fn 177 1<|L1 [.ref 0 0]],oC [.i<|M pos (M c.ce 1 0).toNat 0],oC [.i e],oC [.i f],V,oC [.i b]]
def zNu(c:AE)(q:AA)(pos:Ξ)(ln:U)(a:Ξ)(e f b:E):DH:=[oC [.ref 1 0],oW c q pos 2 ln,oI a,oC [.fn 177 1<|L1 [.ref 0 0]],oC [.i<|M pos (M c.ce 1 0).toNat 0],oC [.i e],oC [.i f],V,oC [.i b],Z<|.iter<|(By<|M pos (M c.ce 1 0).toNat 0).map Bn]
def zi(c:AE)(q:AA)(pos:Ξ)(ln:U)(h:Ξ)(p a b:E):DH:=[oC [.ref 1 0],oW c q pos 2 ln,oI h,oC [.fn 177 1<|L1 [.ref 0 0]],oC [.i<|M pos (M c.ce 1 0).toNat 0],oC [.i p],oC [.i a],V,oC [.i b],V]
inductive Nd where
 |s0 (Ex:Ξ) (EU ET:E)
def xO(c:AE)(q:AA)(pos:Ξ)(ln:U)(a:E):Nd->DH
 | .s0 h p b=>[oC [.ref 1 0],oW c q pos 2 ln,oI h,oC [.fn 177 1<|L1 [.ref 0 0]],oC [.i<|M pos (M c.ce 1 0).toNat 0],oC [.i p],oC [.i b],V,oC [.i a],V]
def dh(n:U)(c:AE)(q:AA)(pos:Ξ)(ln:U)(i x:E)(h:Ξ)(p a:E):A Nd:=(jV n i x c q pos ln h).bind λs=>L s.1 (C ((0<=i/\i<=(IntKind.i64.bits:E))/\(0<=x/\x<=(IntKind.i64.bits:E))) (Z<|.s0 s.2 (bits .or .i64 p<|IntKind.i64.wrap<|1*2^(i).toNat)<|bits .or .i64 a<|IntKind.i64.wrap<|1*2^(x).toNat) V)<|Z<|.s0 s.2 p a
def xN(n:U)(c:AE)(q:AA)(pos:Ξ)(ln:U)(i x:E):Nd->A Nd
 | .s0 h p a=>dh n c q pos ln i x h p a
def di(n:U)(c:AE)(q:AA)(pos:Ξ)(ln:U)(i x:E)(s:Nd):A Nd:=xN n c q pos ln i x s
def zJX(n:U)(c:AE)(q:AA)(pos:Ξ)(ln:U)(a:E)(l ϙ:U)(N:Yd 10)(x:E)(s:Nd)(r:Nd)(h:di n c q pos ln a x s=Z r):TA l ϙ N (C3 10 [] 0<|xO c q pos ln a r) Tryz.f176 45 ⟨AF 69 [(3,.ref 3 0),(9,.ref 5 0),(10,.ref 6 0),(11,.ref 8 0),(45,.it 9),(46,.i x)],xO c q pos ln a s⟩:=by
 cases s with
 |s0 b e f=>
  replace h:dh n c q pos ln a x b e f=Z r:=h;unfold dh at h;refine ag Oy [0,1,2,3,4,5,6,7,8,9] H0 (AF 69 [(3,.ref 3 0),(9,.ref 5 0),(10,.ref 6 0),(11,.ref 8 0),(12,.i x)]) (zi c q pos ln b e f a) λN=>?_
  revert r;apply gO;exact ce zSl [0,1,2] (zi c q pos ln b e f a) λ_=>bi 50 (jg zGB<|gc<|gi<|jt<|jg zGD<|gi<|jt<|lF λp=>rr Oy [0,1,2,3,4,5,6,7,8,9] rfl p)<|lF λp=>rr Oy [0,1,2,3,4,5,6,7,8,9] rfl p
inductive Nf where
 |s0 (Dq:Ξ) (Dp Do:E)
def xP(c:AE)(q:AA)(pos:Ξ)(ln:U):Nf->DH
 | .s0 a e f=>[oC [.ref 1 0],oW c q pos 2 ln,oI a,oC [.fn 177 1<|L1 [.ref 0 0]],oC [.i<|M pos (M c.ce 1 0).toNat 0],oC [.i e],oC [.i f],V]
def dg(n:U)(c:AE)(q:AA)(pos:Ξ)(ln:U)(i:E)(a:Ξ)(e f:E):A Nf:=
 if 0<=M pos (M c.ce 1 0).toNat 0/\M pos (M c.ce 1 0).toNat 0<9223372036854775808 then
  (CC (di n c q pos ln i) (By<|M pos (M c.ce 1 0).toNat 0)<|.s0 a e f).bind λt=>
   match t with
   | .s0 g h b=>
    Z (.s0 g h b)
 else V
def xM(n:U)(c:AE)(q:AA)(pos:Ξ)(ln:U)(i:E):Nf->A Nf
 | .s0 a e f=>dg n c q pos ln i a e f
def dj(n:U)(c:AE)(q:AA)(pos:Ξ)(ln:U)(i:E)(s:Nf):A Nf:=xM n c q pos ln i s
def zJW(n:U)(c:AE)(q:AA)(pos:Ξ)(ln:U)(l ϙ:U)(N:Yd 8)(a:E)(s:Nf)(r:Nf)(h:dj n c q pos ln a s=Z r):TA l ϙ N (C3 8 [] 0<|xP c q pos ln r) Tryz.f176 42 ⟨AF 69 [(0,.ref 1 0),(3,.ref 3 0),(5,.i<|M c.ce 0 0),(6,.i<|M c.ce 1 0),(8,.ref 4 0),(9,.ref 5 0),(10,.ref 6 0),(42,.it 7),(43,.i a)],xP c q pos ln s⟩:=by
 cases s with
 |s0 b e f=>
  replace h:dg n c q pos ln a b e f=Z r:=h;unfold dg at h;refine ag Oy [0,1,2,3,4,5,6,7,8] H0.t (AF 69 [(3,.ref 3 0),(8,.ref 4 0),(9,.ref 5 0),(10,.ref 6 0),(11,.ref 8 0)]) (zj c q pos ln b e f a) λN=>?_
  revert r;apply gO
  exact gn λg=>jc (NJ g<|zj c q pos ln b e f a) (cn λj k=>λp r h=>by
   refine gs Oy [0,1,2,3,4,5,6,7,8,9] p (Ho (RD Tryz.f176 42) 45 []) (AF 69 [(3,.ref 3 0),(9,.ref 5 0),(10,.ref 6 0),(11,.ref 8 0),(45,.it 9)]) (zNu c q pos ln b e f a) ?_;refine r0 9 45 #[46] Bn 10 k (zJX n c q pos ln a) ?_;cases j with
   |s0 aS aR aQ=>
    dsimp only at h
    revert r;apply gO;exact lF λp=>rr Oy [0,1,2,3,4,5,6,7] rfl p)
def xL(n:U)(c:AE)(q:AA)(pos:Ξ)(ln:U)(lost:Ξ):W5:=
 if((0:E)<=0/\0<(F c.ce:E))/\((0:E)<=1/\1<(F c.ce:E))/\(0<=M c.ce 0 0/\M c.ce 0 0<(F pos:E))/\(0<=M c.ce 1 0/\M c.ce 1 0<(F pos:E))/\(0<=M pos (M c.ce 0 0).toNat 0/\M pos (M c.ce 0 0).toNat 0<9223372036854775808)then
  (CC (dj n c q pos ln) (By<|M pos (M c.ce 0 0).toNat 0)<|.s0 lost 0 0).bind λf=>
   match f with
   | .s0 I J v=>
    (El n (M c.ce 0 0) (bits .xor .i64 (-1) J) c q pos ln I).bind λG=>
     (El n (M c.ce 1 0) (bits .xor .i64 (-1) v) c q pos ln G).bind λy3=>
      Z (T,y3)
 else V
def mY(n:U)(c:AE)(q:AA)(pos:Ξ)(ln:U)(lost:Ξ):W5:=xL n c q pos ln lost
def zJV(h:mY n c q pos ln lost=Z r):EQ 176 [.ref 1 0,.fn 177 1<|L1 [.ref 0 0]] [oC [.ref 1 0],oW c q pos 2 ln,oI lost] (.bool r.1) [oC [.ref 1 0],oW c q pos 2 ln,oI r.2] D:=by
 refine ot Tryz.func176 λϙ N=>?_
 revert r;apply gO
 exact jg zGE<|gc<|gi<|gc<|gi<|jg zGC<|gc<|gi<|gc<|gi<|jt<|gn λK=>jc (NJ K<|zNy c q pos ln lost) (cn λf P=>λp r h=>by
  refine gs Oy [0,1,2,3,4,5,6,7] p (Ho (AZ Tryz.f176) 42 []) (AF 69 [(0,.ref 1 0),(3,.ref 3 0),(5,.i<|M c.ce 0 0),(6,.i<|M c.ce 1 0),(8,.ref 4 0),(9,.ref 5 0),(10,.ref 6 0),(42,.it 7)]) (zNx c q pos ln lost) ?_;refine r0 7 42 #[43] Bn 8 P (zJW n c q pos ln) ?_;cases f with
  |s0 I J v=>
   dsimp only at h
   revert r;apply gO;exact ce H2 [1,2] (zNw c q pos ln I J v) λG=>ce H2 [1,2] (zNv c q pos ln G J v) λ_=>lE Oy [4] [0,1,2])
def zGA:Ar (Am Tryz.f176 1) [] (θ 16) []:=Z0
def zF8:Ar (Am Tryz.f176 2) [([0,1,2,3,4,5,6,7,8,9,10,11,12,13],14)] [15] [16]:=Z0
def zF7:Ar (Am Tryz.f176 9) [] [0,1,2,3] [4]:=Z0
def zF9:Ar (Am Tryz.f176 10) [] [0,1,2,3] [4]:=Z0
def Ox:BZ:=λi=>match i with
 |1=>.ord [] (θ 16) []
 |2=>.ord [([0,1,2,3,4,5,6,7,8,9,10,11,12,13],14)] [15] [16]
 |9=>.ord [] [0,1,2,3] [4]
 |10=>.ord [] [0,1,2,3] [4]
 |_=>.no
def zNt(c:AE)(q:AA)(pos:Ξ)(ln:U)(lost:Ξ):DH:=[oC [.ref 1 0],oW c q pos 2 ln,oI lost,oC [.fn 178 1<|L1 [.ref 0 0]],oC [.i<|M pos (M c.ce 1 0).toNat 0],oC [.i 0],oC [.i 0]]
def zNs(c:AE)(q:AA)(pos:Ξ)(ln:U)(lost:Ξ):DH:=[oC [.ref 1 0],oW c q pos 2 ln,oI lost,oC [.fn 178 1<|L1 [.ref 0 0]],oC [.i<|M pos (M c.ce 1 0).toNat 0],oC [.i 0],oC [.i 0],Z<|.iter<|(By<|M pos (M c.ce 0 0).toNat 0).map Bn]
def zNr(c:AE)(q:AA)(pos:Ξ)(ln:U)(I:Ξ)(J v:E):DH:=[oC [.ref 1 0],oW c q pos 2 ln,oI I,oC [.fn 178 1<|L1 [.ref 0 0]],oC [.i<|M pos (M c.ce 1 0).toNat 0],oC [.i J],oC [.i v],V]
def zNq(c:AE)(q:AA)(pos:Ξ)(ln:U)(G:Ξ)(J v:E):DH:=[oC [.ref 1 0],oW c q pos 2 ln,oI G,oC [.fn 178 1<|L1 [.ref 0 0]],oC [.i<|M pos (M c.ce 1 0).toNat 0],oC [.i J],oC [.i v],V]
def zh(c:AE)(q:AA)(pos:Ξ)(ln:U)(a:Ξ)(e f b:E):DH:=[oC [.ref 1 0],oW c q pos 2 ln,oI a,oC [.fn 178 1<|L1 [.ref 0 0]],oC [.i<|M pos (M c.ce 1 0).toNat 0],oC [.i e],oC [.i f],V,oC [.i b]]
def zNp(c:AE)(q:AA)(pos:Ξ)(ln:U)(a:Ξ)(e f b:E):DH:=[oC [.ref 1 0],oW c q pos 2 ln,oI a,oC [.fn 178 1<|L1 [.ref 0 0]],oC [.i<|M pos (M c.ce 1 0).toNat 0],oC [.i e],oC [.i f],V,oC [.i b],Z<|.iter<|(By<|M pos (M c.ce 1 0).toNat 0).map Bn]
def zg(c:AE)(q:AA)(pos:Ξ)(ln:U)(h:Ξ)(p a b:E):DH:=[oC [.ref 1 0],oW c q pos 2 ln,oI h,oC [.fn 178 1<|L1 [.ref 0 0]],oC [.i<|M pos (M c.ce 1 0).toNat 0],oC [.i p],oC [.i a],V,oC [.i b],V]
inductive Nb where
 |s0 (Ex:Ξ) (EU ET:E)
def xJ(c:AE)(q:AA)(pos:Ξ)(ln:U)(a:E):Nb->DH
 | .s0 h p b=>[oC [.ref 1 0],oW c q pos 2 ln,oI h,oC [.fn 178 1<|L1 [.ref 0 0]],oC [.i<|M pos (M c.ce 1 0).toNat 0],oC [.i p],oC [.i b],V,oC [.i a],V]
def dc(n:U)(c:AE)(q:AA)(pos:Ξ)(ln:U)(i x:E)(h:Ξ)(p a:E):A Nb:=(eF n i x c q pos ln h).bind λs=>L s.1 (C ((0<=i/\i<=(IntKind.i64.bits:E))/\(0<=x/\x<=(IntKind.i64.bits:E))) (Z<|.s0 s.2 (bits .or .i64 p<|IntKind.i64.wrap<|1*2^(i).toNat)<|bits .or .i64 a<|IntKind.i64.wrap<|1*2^(x).toNat) V)<|Z<|.s0 s.2 p a
def xI(n:U)(c:AE)(q:AA)(pos:Ξ)(ln:U)(i x:E):Nb->A Nb
 | .s0 h p a=>dc n c q pos ln i x h p a
def de(n:U)(c:AE)(q:AA)(pos:Ξ)(ln:U)(i x:E)(s:Nb):A Nb:=xI n c q pos ln i x s
def zJU(n:U)(c:AE)(q:AA)(pos:Ξ)(ln:U)(a:E)(l ϙ:U)(N:Yd 10)(x:E)(s:Nb)(r:Nb)(h:de n c q pos ln a x s=Z r):TA l ϙ N (C3 10 [] 0<|xJ c q pos ln a r) Tryz.f176 45 ⟨AF 69 [(3,.ref 3 0),(9,.ref 5 0),(10,.ref 6 0),(11,.ref 8 0),(45,.it 9),(46,.i x)],xJ c q pos ln a s⟩:=by
 cases s with
 |s0 b e f=>
  replace h:dc n c q pos ln a x b e f=Z r:=h;unfold dc at h;refine ag Ox [0,1,2,3,4,5,6,7,8,9] H0 (AF 69 [(3,.ref 3 0),(9,.ref 5 0),(10,.ref 6 0),(11,.ref 8 0),(12,.i x)]) (zg c q pos ln b e f a) λN=>?_
  revert r;apply gO;exact ce zJ2 [0,1,2] (zg c q pos ln b e f a) λ_=>bi 50 (jg zF7<|gc<|gi<|jt<|jg zF9<|gi<|jt<|lF λp=>rr Ox [0,1,2,3,4,5,6,7,8,9] rfl p)<|lF λp=>rr Ox [0,1,2,3,4,5,6,7,8,9] rfl p
inductive Nc where
 |s0 (Dq:Ξ) (Dp Do:E)
def xK(c:AE)(q:AA)(pos:Ξ)(ln:U):Nc->DH
 | .s0 a e f=>[oC [.ref 1 0],oW c q pos 2 ln,oI a,oC [.fn 178 1<|L1 [.ref 0 0]],oC [.i<|M pos (M c.ce 1 0).toNat 0],oC [.i e],oC [.i f],V]
def db(n:U)(c:AE)(q:AA)(pos:Ξ)(ln:U)(i:E)(a:Ξ)(e f:E):A Nc:=
 if 0<=M pos (M c.ce 1 0).toNat 0/\M pos (M c.ce 1 0).toNat 0<9223372036854775808 then
  (CC (de n c q pos ln i) (By<|M pos (M c.ce 1 0).toNat 0)<|.s0 a e f).bind λt=>
   match t with
   | .s0 g h b=>
    Z (.s0 g h b)
 else V
def xH(n:U)(c:AE)(q:AA)(pos:Ξ)(ln:U)(i:E):Nc->A Nc
 | .s0 a e f=>db n c q pos ln i a e f
def df(n:U)(c:AE)(q:AA)(pos:Ξ)(ln:U)(i:E)(s:Nc):A Nc:=xH n c q pos ln i s
def zJT(n:U)(c:AE)(q:AA)(pos:Ξ)(ln:U)(l ϙ:U)(N:Yd 8)(a:E)(s:Nc)(r:Nc)(h:df n c q pos ln a s=Z r):TA l ϙ N (C3 8 [] 0<|xK c q pos ln r) Tryz.f176 42 ⟨AF 69 [(0,.ref 1 0),(3,.ref 3 0),(5,.i<|M c.ce 0 0),(6,.i<|M c.ce 1 0),(8,.ref 4 0),(9,.ref 5 0),(10,.ref 6 0),(42,.it 7),(43,.i a)],xK c q pos ln s⟩:=by
 cases s with
 |s0 b e f=>
  replace h:db n c q pos ln a b e f=Z r:=h;unfold db at h;refine ag Ox [0,1,2,3,4,5,6,7,8] H0.t (AF 69 [(3,.ref 3 0),(8,.ref 4 0),(9,.ref 5 0),(10,.ref 6 0),(11,.ref 8 0)]) (zh c q pos ln b e f a) λN=>?_
  revert r;apply gO
  exact gn λg=>jc (NJ g<|zh c q pos ln b e f a) (cn λj k=>λp r h=>by
   refine gs Ox [0,1,2,3,4,5,6,7,8,9] p (Ho (RD Tryz.f176 42) 45 []) (AF 69 [(3,.ref 3 0),(9,.ref 5 0),(10,.ref 6 0),(11,.ref 8 0),(45,.it 9)]) (zNp c q pos ln b e f a) ?_;refine r0 9 45 #[46] Bn 10 k (zJU n c q pos ln a) ?_;cases j with
   |s0 aS aR aQ=>
    dsimp only at h
    revert r;apply gO;exact lF λp=>rr Ox [0,1,2,3,4,5,6,7] rfl p)
def xG(n:U)(c:AE)(q:AA)(pos:Ξ)(ln:U)(lost:Ξ):W5:=
 if((0:E)<=0/\0<(F c.ce:E))/\((0:E)<=1/\1<(F c.ce:E))/\(0<=M c.ce 0 0/\M c.ce 0 0<(F pos:E))/\(0<=M c.ce 1 0/\M c.ce 1 0<(F pos:E))/\(0<=M pos (M c.ce 0 0).toNat 0/\M pos (M c.ce 0 0).toNat 0<9223372036854775808)then
  (CC (df n c q pos ln) (By<|M pos (M c.ce 0 0).toNat 0)<|.s0 lost 0 0).bind λf=>
   match f with
   | .s0 I J v=>
    (El n (M c.ce 0 0) (bits .xor .i64 (-1) J) c q pos ln I).bind λG=>
     (El n (M c.ce 1 0) (bits .xor .i64 (-1) v) c q pos ln G).bind λy3=>
      Z (T,y3)
 else V
def mX(n:U)(c:AE)(q:AA)(pos:Ξ)(ln:U)(lost:Ξ):W5:=xG n c q pos ln lost
def zJS(h:mX n c q pos ln lost=Z r):EQ 176 [.ref 1 0,.fn 178 1<|L1 [.ref 0 0]] [oC [.ref 1 0],oW c q pos 2 ln,oI lost] (.bool r.1) [oC [.ref 1 0],oW c q pos 2 ln,oI r.2] D:=by
 refine ot Tryz.func176 λϙ N=>?_
 revert r;apply gO
 exact jg zGA<|gc<|gi<|gc<|gi<|jg zF8<|gc<|gi<|gc<|gi<|jt<|gn λK=>jc (NJ K<|zNt c q pos ln lost) (cn λf P=>λp r h=>by
  refine gs Ox [0,1,2,3,4,5,6,7] p (Ho (AZ Tryz.f176) 42 []) (AF 69 [(0,.ref 1 0),(3,.ref 3 0),(5,.i<|M c.ce 0 0),(6,.i<|M c.ce 1 0),(8,.ref 4 0),(9,.ref 5 0),(10,.ref 6 0),(42,.it 7)]) (zNs c q pos ln lost) ?_;refine r0 7 42 #[43] Bn 8 P (zJT n c q pos ln) ?_;cases f with
  |s0 I J v=>
   dsimp only at h
   revert r;apply gO;exact ce H2 [1,2] (zNr c q pos ln I J v) λG=>ce H2 [1,2] (zNq c q pos ln G J v) λ_=>lE Ox [4] [0,1,2])
def rR(n:U)(c:AE)(q:AA)(pos:Ξ)(ln:U)(lost:Ξ):W5:=(mY n c q pos ln lost).bind λf=>Z (f.1,f.2)
def Sy(n:U)(c:AE)(q:AA)(pos:Ξ)(ln:U)(lost:Ξ):W5:=rR n c q pos ln lost
def zSj(h:Sy n c q pos ln lost=Z r):EQ 141 [.ref 0 0] [oW c q pos 1 ln,oI lost] (.bool r.1) [oW c q pos 1 ln,oI r.2] D:=by
 unfold Sy rR at h;refine ot Tryz.func141 λϙ N=>?_
 revert r;apply gO;exact ce zJV [2,0,1] [oW c q pos 1 ln,oI lost,oC [.ref 0 0]] λ_=>lE AC [2] [0,1]
def mx(n:U)(c:AE)(q:AA)(pos:Ξ)(ln:U)(lost:Ξ):W5:=(mX n c q pos ln lost).bind λf=>Z (f.1,f.2)
def RO(n:U)(c:AE)(q:AA)(pos:Ξ)(ln:U)(lost:Ξ):W5:=mx n c q pos ln lost
def zJ1(h:RO n c q pos ln lost=Z r):EQ 142 [.ref 0 0] [oW c q pos 1 ln,oI lost] (.bool r.1) [oW c q pos 1 ln,oI r.2] D:=by
 unfold RO mx at h;refine ot Tryz.func142 λϙ N=>?_
 revert r;apply gO;exact ce zJS [2,0,1] [oW c q pos 1 ln,oI lost,oC [.ref 0 0]] λ_=>lE AC [2] [0,1]
end
abbrev zMy:=@List.drop_zero
section
set_option maxRecDepth 100000
set_option maxHeartbeats 40000000
def zSN(n:U)(s_:Ξ):A Unit:=Z ()
def zSP(n:U)(h:Ξ):A Unit:=zSN n h
variable{n:U}
def zSM(a:Ξ){r:Unit}(h:zSP n a=Z r):EQ 173 [.ints a] [] (.fn 191 1<|L1 [.ref 0 0]) [oC [.ints a]] T:=by
 refine ot Tryz.func173 λϙ N=>?_
 revert r;apply gO;exact lE AC [2] [0]
inductive Vn where
 |l1 (x3:E)
def Vm(n:U)(self:Vn->X7)(h:Ξ)(X:E):X7:=L (H<|X>=0) (C (0<=X/\X<(F h:E)) (Option.map (λl=>(X,M h X.toNat 0)::l)<|C (AI<|X-1) (self<|.l1<|X-1) V) V)<|Z []
def rA(n:U)(self:Vn->X7)(h:Ξ):X7:=C (AI<|(F h:E)-1) (self<|.l1<|(F h:E)-1) V
def QU(h:Ξ):U->Vn->X7
 |0,_=>V
 |n+1,.l1 X=>Vm n (QU h n) h X
def back(n:U)(h:Ξ):X7:=rA n (QU h n) h
def rB(ϛ:Bw B)(n:U)(h:Ξ)(r:O<|Δ):Vn->Prop
 | .l1 X=>∀q:U,n<=q->∀i:U,i<=F ϛ.encs->ϛ.encs.drop i=r.map Sa->A6 B GG η V 1 (ϛ.Y GG 1 i) (ϛ.Q GG 1) (EH q<|Fo (AZ Tryz.f191) 0 []) ⟨AF 19 [(0,.yl ϛ.l),(1,.ref 0 0),(3,.i X)],[oC [.ints h]]⟩
def zSJ(ϛ:Bw B)(n:U)(self:Vn->X7)(a:Ξ)(I:∀G r,self G=Z r->rB ϛ n a r G)(X:E)(r:O<|Δ)(h:Vm n self a X=Z r):rB ϛ (n+1) a r<|.l1 X:=by
 intro q f;intro i hi c;refine rd f λq f=>?_
 unfold Vm at h;have p:=H0;rcases Bv h with⟨j,h⟩|⟨j,h⟩
 ·have p:=H0.b 8 j;refine gs (AQ 3 AC) [0] p (CY (AZ Tryz.f191) 3 [q]) (AF 19 [(0,.yl ϛ.l),(1,.ref 0 0),(3,.i X)]) [oC [.ints a]] ?_;obtain⟨m,h⟩:=B6 h;have p:=H0.g m;obtain⟨r,k,rfl⟩:=K9 h;clear h;have h:=k;clear k;obtain⟨o,hi,c⟩:=Zl c;refine A6.y (ops:=Am Tryz.f191 3) HC.x 6 [0,1,3,18] [0] p (x:=Sa (X,M a X.toNat 0)) (AF 19 [(0,.yl ϛ.l),(1,.ref 0 0),(3,.i X),(18,.bool D)]) [oC [.ints a]] (AF 19 [(0,.yl ϛ.l),(1,.ref 0 0),(3,.i X),(18,.bool T)]) [oC [.ints a]] Z5 Z5 Z5 o Z5 ?_ ?_
  ·generalize i+1=i at hi c⊢
   obtain⟨s,h⟩:=B6 h;have p:=H0.w 10 s;exact gg AC [0] p<|I _ _ h q f i hi c
  ·exact TrI.e HC.x AC 6 H0 Z5<|.inr rfl
 ·have p:=H0.b 8 j;cases h;exact TrI.e HC.x AC 10 p Z5 (.inl<|by rw[Sd hi c])
def zCD(ϛ:Bw B)(a:Ξ):∀(n:U) (G:Vn) (r:O<|Δ),QU a n G=Z r->rB ϛ n a r G
 |0,_,_,h=>by cases h
 |n+1,.l1 X,r,h=>zSJ ϛ n (QU a n) a (zCD ϛ a n) X r h
variable{r:O Δ}
def zSK(a:Ξ)(h:back n a=Z r)(ϛ:Bw B)(g:ϛ.encs=r.map Sa):A6 B GG η V 1 (ϛ.Y GG 1 0) (ϛ.Q GG 1) [.code<|AZ Tryz.f191] ⟨AF 19 [(0,.yl ϛ.l),(1,.ref 0 0)],[oC [.ints a]]⟩:=by
 suffices Ϙ:∀i:U,i<=F ϛ.encs->ϛ.encs.drop i=r.map Sa->A6 B GG η V 1 (ϛ.Y GG 1 i) (ϛ.Q GG 1) [.code<|AZ Tryz.f191] ⟨AF 19 [(0,.yl ϛ.l),(1,.ref 0 0)],[oC [.ints a]]⟩from Ϙ 0 (zMK _) (by rw[zMy];exact g)
 intro i hi b;have I:=zCD ϛ a n;unfold back at h
 generalize QU a n=self at h I
 unfold rA at h;obtain⟨x,h⟩:=B6 h;have p:=H0.w 6 x;exact gg AC [0] p<|en n<|I _ _ h n χ i hi b
def zSO{a:Ξ}(h:back n a=Z r)(Ϙ:DH):EQ 173 [.ints a] Ϙ (.it<|F Ϙ) (Ϙ++[Z<|.iter<|r.map Sa]) T:=by
 refine ES.iterN (c:=L1 [.ref 0 0]) (h0:=[oC [.ints a]]) (fn:=Tryz.f191) (zSM (n:=0) a (r:=()) rfl) Z5 Tryz.func191 Z5 Z5 Z5 (λϛ g=>?_) Ϙ;have e:DV.yl ϛ.l::(θ 1).map (L1 [.ref 0 0])++d (Tryz.f191.ntmps-(1+1)) .any=AF 19 [(0,.yl ϛ.l),(1,.ref 0 0)]:=Z5
 rw[e];exact zSK a h ϛ g
end
end Go.Proofs.YtnkpdcmbppkkpaaGreatDoor
