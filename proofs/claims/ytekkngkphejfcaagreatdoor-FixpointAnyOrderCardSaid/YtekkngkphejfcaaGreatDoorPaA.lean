/- Part 1 of 6 of what the proofs of these laws stand on. -/
import Derived.WalkKit
import Derived.WalkSpells
import Derived.WalkLawsBesides
import Derived.Lib.Hide
import Derived.OrdersHeld
import Derived.Deep.RegionHeld
import Derived.BigQuiet
import Derived.OrdersIn
import Derived.TacticsIn
import Derived.RangeFuncOwn
import Derived.RangeFuncNested
import Derived.RangeFuncCalls
import Derived.Laws.IdiomRangeMap
import Derived.Laws.Cells
import Derived.Laws.Cover3
import Derived.Laws.StructEq
import Derived.ChangeKeysEq
import Derived.RowKit
import Derived.Deep.AppendSrc
import Derived.Laws.MakeOwn
import Derived.Great.BuildSlice
import Derived.Sort.LoopGhostIn
import Derived.MapKept
set_option linter.all false
namespace Go.Proofs.YtekkngkphejfcaaGreatDoor
abbrev yf:=@Nat.le_refl
abbrev zf:=@Go.World.block_lt_of_cell?
end Go.Proofs.YtekkngkphejfcaaGreatDoor
namespace Go.Proofs.YtekkngkphejfcaaGreatDoor
open Go.RowKit
def Ar (w w':World):Prop:=Below w.heap.size w w'
theorem Ar.refl (w:World):Ar w w:=Below.refl _ _
theorem Ar.trans {a b c:World} (h:Ar a b) (k:Ar b c):Ar a c:=Below.trans h (Below.mono k h.size)
theorem Ar.alloc (w:World) (o:Obj):Ar w (w.alloc o):=(Below.refl _ _).alloc (yf _) o
theorem Ar.allocR {w w':World} (h:Ar w w') (o:Obj):Ar w (w'.alloc o):=h.trans (Ar.alloc w' o)
theorem Ar.drewR {w w':World} (h:Ar w w'):Ar w w'.drew:=Below.drew h
theorem Ar.size {w w':World} (h:Ar w w'):w.heap.size<=w'.heap.size:=Below.size h
theorem Ar.cells {w w':World} (h:Ar w w'): ∀ b o,b<w.heap.size -> w'.cell? ⟨b,o,none⟩=w.cell? ⟨b,o,none⟩:=
 fun b o hb=>Below.cell h (p:=⟨b,o,none⟩) hb
theorem Ar.cell {w w':World} (h:Ar w w') {b o:Nat} {u:Value} (hc:w.cell? ⟨b,o,none⟩=some u):w'.cell? ⟨b,o,none⟩=some u:=by
 rw [h.cells b o (zf w ⟨b,o,none⟩ hc)];exact hc
def CV (b:Bool) (e:Int):Int:=if b then 0 else e
theorem vh (e:Int):CV true e=0:=rfl
structure AB where
 kind:Int
 cells:List Int
 set:Int
 other:Int
 lo:Int
 hi:Int
 runs:List Int
 rule:Int
 spot:Int
 deriving DecidableEq,Inhabited
structure AA where
 cells:Int
 symbols:Int
 values:List Int
 nbrs:List (List Int)
 cons:List AB
 deriving DecidableEq,Inhabited
end Go.Proofs.YtekkngkphejfcaaGreatDoor
namespace Go.Proofs.YtekkngkphejfcaaGreatDoor
abbrev yC:=@if_pos
abbrev yG:=@Bool.and_eq_true
abbrev yK:=@Option.some.inj
abbrev yM:=@if_neg
abbrev yU:=@Go.Sem.run_bind
abbrev ya:=@Bool.or_eq_true
abbrev yk:=@beq_iff_eq
abbrev yt:=@Bool.false_eq_true
abbrev zd:=@Nat.lt_or_ge
abbrev zAc:=@Go.mem_ready
abbrev zAt:=@Array.getElem?_eq_none
end Go.Proofs.YtekkngkphejfcaaGreatDoor
namespace Go.Proofs.YtekkngkphejfcaaGreatDoor
open Go.RowKit
def PY:Op -> Bool
 | .move _ | .assign _ | .pick .. | .load .. | .binOp .. | .unOp .. | .convert .. | .makeFunc .. | .slice .. | .fieldAddr .. | .field .. | .indexAddr .. | .index .. | .extract .. | .build .. | .lookup .. | .makeInterface .. | .nilCheck _=>true
 | .call c=>match c.callee with
  | .builtin .len | .builtin .cap | .builtin .min | .builtin .max=>true
  | _=>false
 | _=>false
theorem VX {P:Program} {w w':World} {α:Type} {s:Sem α} {f:α -> Value} {n:Next} (h:(s>>=fun x=>(pure (.value (f x)):Sem Next)).run P w= .ok n w'): ∃ v,n= .value v:=by
 rw [yU] at h;cases hs:s.run P w with
 | ok v w1=>rw [hs] at h;simp only [Result.andThen] at h;cases h;exact ⟨_,rfl⟩
 | halt x w1=>rw [hs] at h;simp only [Result.andThen] at h;cases h
theorem oB {P:Program} {ρ:Operand -> Value} {o:Oper} {w w':World} {n:Next} (hp:PY o.op=true) (h:(execOp ρ o).run P w= .ok n w'): ∃ v,n= .value v:=by
 unfold execOp at h;cases ho:o.op <;> rw [ho] at hp h <;> simp only [PY,yt] at hp
 all_goals first | exact VX (f:=fun x=>x) h | (cases h;exact ⟨_,rfl⟩) | skip
 ·rename_i c x y;exact VX (s:=asBool (ρ c)) (f:=fun b=>if b then ρ x else ρ y) h
 ·rename_i x
  have hb: ∀ {α:Type} (s:Sem α) (f:α -> Sem Next) (w0:World),(∀ a w1,(f a).run P w1= .ok n w' -> ∃ v,n= .value v) -> (s>>=f).run P w0= .ok n w' -> ∃ v,n= .value v:=by
   intro α s f w0 hf hr;rw [yU] at hr;cases hs:s.run P w0 with
   | ok v w1=>rw [hs] at hr;exact hf _ _ hr
   | halt x w1=>rw [hs] at hr;simp only [Result.andThen] at hr;cases hr
  have T0:(runtimePanic .nilDeref:Sem Next).run P w= .ok n w' -> ∃ v,n= .value v:=by
   intro he;unfold runtimePanic at he;refine hb _ _ _ ?_ he;intro a w1 h1;cases h1
  simp only at h;split at h
  ·exact T0 h
  ·exact T0 h
  ·exact T0 h
  ·split at h
   ·exact T0 h
   ·refine hb _ _ _ ?_ h;intro p w1 h1;refine hb _ _ _ ?_ h1;intro q w2 h2;split at h2
    ·refine hb _ _ _ ?_ h2;intro r w3 h3;cases h3;exact ⟨_,rfl⟩
    ·cases h2;exact ⟨_,rfl⟩
   ·cases h;exact ⟨_,rfl⟩
  ·cases h;exact ⟨_,rfl⟩
 ·rename_i c;replace h:((resolve ρ c o.type)>>=fun d=>invoke d.target d.args).run P w= .ok n w':=h;rw [yU] at h;unfold resolve at h;cases hc:c.callee with
  | value f=>rw [hc] at hp;simp at hp
  | invoke r m=>rw [hc] at hp;simp at hp
  | builtin b=>
   rw [hc] at hp h;have e: ∀ d:Deferred,(pure d:Sem Deferred).run P w= .ok d w:=fun _=>rfl
   simp only [e,Result.andThen] at h;unfold invoke at h;cases b <;> simp at hp <;> exact VX (f:=fun x=>x) h
structure Ri (w:World) where
 W:World
 le:Ar w W
def OK (w:World):World -> Prop:=fun w'=>∃ x:Ri w,w'=x.W
theorem OK.iff {w w':World}:OK w w'↔Ar w w':=⟨fun ⟨x,e⟩=>e▸x.le,fun h=>⟨⟨w',h⟩,rfl⟩⟩
theorem Ar.toDrew (w:World):Ar w w.drew:=Ar.drewR (Ar.refl w)
section
variable {P:Program} {ops:Array Oper} {Q:Exit -> Act -> World -> Prop}
theorem jC {w:World} {o:Oper} {a:Act} {v:Value} (hp:PY o.op=true) (hw:Region.wanted o (yielded ops a.tmps)=true)
 (h: ∀ w',OK w w' -> o.quietAt P a (OK w) w' v):YieldsIf P ops (Ar w) o v a:=by
 refine .inl ⟨hw,fun w' hE=>?_⟩;have:=h w' (OK.iff.2 hE);unfold Oper.quietAt at this;cases hr:(execOp a.eval o).run P w' with
 | halt x w1=>rw [hr] at this;simp [Oper.quietUpon] at this
 | ok n w1=>
  obtain ⟨u,rfl⟩:=oB hp hr;rw [hr] at this;obtain ⟨rfl,rfl⟩:=this;rfl
def NP (Q:Exit -> Act -> World -> Prop):Exit -> Act -> World -> Prop
 | .panic _,_,_=>False
 | e,a,w=>Q e a w
theorem NP.put (c:List PanicEntry) (a:Act) (d:Option Tmp) (v:Value) (w:World) (h:NP Q (.panic c) (a.put d v) w):NP Q (.panic c) a w:=h.elim
def Fu (ops:Array Oper) (AQ:Array Bool):Prop:=∀ (j:Nat) (oj:Oper),ops[j]? =some oj -> AQ.getD j false=true -> ∀ e∈oj.after,Region.binds .any e=true -> AQ.getD e.on false=true
theorem Fu.set {AQ:Array Bool} {i:Nat} (h:Fu ops AQ) (hi:i∈Region.ready .any ops AQ):Fu ops (AQ.setIfInBounds i true):=by
 obtain ⟨_,oi,tP,G6⟩:=zAc.1 hi;intro j oj hj hl e he hb
 by_cases QX:i=j
 ·subst QX;have:oj=oi:=yK (hj.symm.trans tP);subst this;exact getD_set_true (G6 e he hb)
 ·rw [getD_set_ne false QX] at hl;exact getD_set_true (h j oj hj hl e he hb)
def Fa (ops:Array Oper):Nat -> Nat -> Nat -> Bool
 | 0,_,_=>false
 | n+1,t,i=>match ops[t]? with
  | none=>false
  | some o=>o.after.any fun e=>Region.binds .any e&&(e.on==i||Fa ops n e.on i)
theorem VV {AQ:Array Bool} (hc:Fu ops AQ): ∀ (n t i:Nat) (o:Oper),ops[t]? =some o -> (∀ e∈o.after,Region.binds .any e=true -> AQ.getD e.on false=true) -> Fa ops n t i=true -> AQ.getD i false=true
 | 0,_,_,_,_,_,h=>by simp [Fa] at h
 | n+1,t,i,o,ho,G6,h=>by
  simp only [Fa,ho] at h;obtain ⟨e,he,hb⟩:=Array.any_eq_true'.1 h;simp only [yG,ya,yk] at hb;obtain ⟨hb,h1 | h1⟩:=hb
  ·rw [←h1];exact G6 e he hb
  ·cases YG:ops[e.on]? with
   | none=>cases n <;> simp [Fa,YG] at h1
   | some o2=>exact VV hc n e.on i o2 YG (hc e.on o2 YG (G6 e he hb)) h1
theorem UP {AQ:Array Bool} {i:Nat} (h:AQ.getD i true=false):AQ.getD i false=false:=by
 rcases zd i AQ.size with h' | h'
 ·simp [h'] at h ⊢;exact h
 ·simp [zAt h'] at h
def E0 (ops:Array Oper):List Nat -> List Oper
 | []=>[]
 | i::l=>match ops[i]? with | some o=>o::E0 ops l | none=>E0 ops l
def Oo (ops:Array Oper) (Cc:Nat -> Bool):List Nat -> Array Bool -> Bool
 | [],_=>true
 | i::l,AQ=>(Region.ready .any ops AQ).contains i&&Region.free .any ops AQ i&&(match ops[i]? with | some o=>PY o.op | none=>false)&&
  ((List.range ops.size).all fun j=>!Cc j||Fa ops ops.size j i)&&Oo ops Cc l (AQ.setIfInBounds i true)
def Mj (l:List Nat) (AQ:Array Bool):Array Bool:=l.foldl (fun s i=>s.setIfInBounds i true) AQ
def Oc (ops:Array Oper):List Nat -> Array Bool -> Bool
 | [],AQ=>(Region.ready .any ops AQ).isEmpty
 | t::ts,AQ=>Region.ready .any ops AQ== [t]&&Oc ops ts (AQ.setIfInBounds t true)
def Oq (ops:Array Oper) (Cc:Nat -> Bool):List (List Nat×Nat) -> List Nat -> List Nat -> Array Bool -> Bool
 | [],Ba,tail,AQ=>Oo ops Cc Ba AQ&&((List.range ops.size).all fun j=>Cc j||(Mj Ba AQ).getD j true)&&Oc ops tail (Mj Ba AQ)
 | (Gg,i)::Fh,Ba,tail,AQ=>Oo ops Cc Gg AQ&&(Region.ready .any ops (Mj Gg AQ)== [i])&&Oq ops Cc Fh Ba tail ((Mj Gg AQ).setIfInBounds i true)
def UC:List (List Nat×Nat) -> List Nat -> Nat
 | [],Ba=>Ba.length
 | (Gg,_)::Fh,Ba=>Gg.length+(1+UC Fh Ba)
def Vv (ops:Array Oper) (D4:List (List Nat×Nat)) (Ba tail:List Nat):Bool:=
 Region.noSelect ops&&UC D4 Ba+tail.length==ops.size&&Oq ops (fun j=>tail.contains j) D4 Ba tail (Array.replicate ops.size false)
theorem VR {C:World -> Prop}: ∀ (l:List Oper) (a:Act) (K K':Act -> Prop),(∀ a,K a -> K' a) -> wpQuiet P ops C K l a -> wpQuiet P ops C K' l a
 | [],a,K,K',hk,h=>hk a h
 | o::l,a,K,K',hk,h=>by
  unfold wpQuiet at*
  by_cases hw:Region.wanted o (yielded ops a.tmps)=true
  ·rw [yC hw] at h ⊢;exact Oper.quiet_mono (fun a h=>VR l a K K' hk h) h
  ·rw [yM hw] at h ⊢;exact VR l _ K K' hk h
end
end Go.Proofs.YtekkngkphejfcaaGreatDoor
namespace Go.Proofs.YtekkngkphejfcaaGreatDoor
abbrev yE:=@Array.getElem?_eq_some_iff
abbrev yL:=@List.all_eq_true
abbrev yP:=@List.mem_range
abbrev yV:=@List.mem_singleton
abbrev yX:=@Nat.zero_add
abbrev zE:=@if_true
abbrev zN:=@Array.getElem?_eq_getElem
abbrev za:=@List.length_nil
abbrev zAA:=@if_false
abbrev zAB:=@Array.mem_of_getElem?
abbrev zAT:=@Go.Oper.semAt_eq
abbrev zAY:=@Go.wpOpIn_mono
abbrev zAd:=@Go.Act.put_comm
abbrev zAe:=@Ne.symm
end Go.Proofs.YtekkngkphejfcaaGreatDoor
namespace Go.Proofs.YtekkngkphejfcaaGreatDoor
open Go.RowKit
def Dq (ops:Array Oper):Bool:=ops.all fun o=>match o.op with
 | .defer _=>false
 | _=>true
theorem Hc {ops:Array Oper} (h:Dq ops=true) {j:Nat} {o:Oper} (hj:ops[j]? =some o): ∀ c,o.op≠.defer c:=by
 intro c hc;have hm:o∈ops:=zAB hj;have:=Array.all_eq_true'.1 h o hm;rw [hc] at this;cases this
section
variable {F:Fence} {n:Nat} {P:Program} {ops:Array Oper} {Q:Exit -> Act -> World -> Prop}
theorem Rj {S:World -> Prop} {i:Nat} {o:Oper} {v:Value} {a:Act} (hF: ∀ f,F.fn f) (hd: ∀ c,o.op≠.defer c) (hi:ops[i]? =some o) (hy:YieldsIf P ops S o v a)
 {K:Act -> World -> Prop} {w:World} (hS:S w) (h:K (a.put o.dst v) w):wpOpIn F n P ops Q i K a w:=by
 unfold Go.wpOpIn;simp only [hi];rcases hy with ⟨hw,hv⟩ | ⟨hw,rfl⟩
 ·simp only [hw,zE,Oper.wpIn,zAT _ _ _ hd,hv w hS,Oper.uponIn];exact ⟨fun f _=>hF f,h⟩
 ·simp only [hw,yt,zAA];exact ⟨fun f _=>hF f,h⟩
theorem Zj {S:World -> Prop} {j:Nat} {oi oj:Oper} {v:Value} (hF: ∀ f,F.fn f) (fT: ∀ c,oj.op≠.defer c) (hj:ops[j]? =some oj) (YQ:oi.apart ops oj=true)
 (rY: ∀ cs b,oi.op≠.select cs b) (rX: ∀ cs b,oj.op≠.select cs b)
 (hQ: ∀ c a w,Q (.panic c) (a.put oi.dst v) w -> Q (.panic c) a w) {K:Act -> World -> Prop} {a:Act} {w:World}
 (hy:YieldsIf P ops S oi v a) (h:wpOpIn F n P ops Q j K (a.put oi.dst v) w):
 wpOpIn F n P ops Q j (fun a' w'=>YieldsIf P ops S oi v a'/\ K (a'.put oi.dst v) w') a w:=by
 obtain ⟨h1,h2,h3⟩:=Oper.apart_spec YQ
 have keep: ∀ (a:Act),YieldsIf P ops S oi v a -> ∀ u,YieldsIf P ops S oi v (a.put oj.dst u):=fun a hy u=>
  hy.of_same (execOp_put oi rY a oj.dst u h3) (wanted_put oi a oj.dst u h3)
 have qN: ∀ d,YieldsIf P ops S oi v { a with defers:=d::a.defers }:=fun d=>hy.of_same rfl rfl
 unfold wpOpIn at*;simp only [hj] at*;rw [wanted_put oj a oi.dst v h1] at h;split
 ·rename_i hw;simp only [hw,zE] at h;unfold Oper.wpIn at*;refine ⟨fun f _=>hF f,?_⟩;have h:=h.2;rw [zAT _ _ _ fT,execOp_put oj rX a oi.dst v h1] at h;rw [zAT _ _ _ fT]
  generalize (execOp a.eval oj).run P w=r at*
  cases r with
  | ok x w'=>
   cases x <;> simp only [Oper.uponIn] at h ⊢
   case value u=>exact ⟨keep a hy u,by rw [←zAd a v u h2];exact h⟩
   case skip=>exact ⟨keep a hy _,by rw [←zAd a v undef h2];exact h⟩
   case defer d=>
    refine ⟨keep _ (qN d) _,?_⟩;rw [←zAd _ v undef h2,←Act.put_defers];exact h
   case enter f args=>
    refine ⟨h.1,CallsIn.mono h.2 fun e CI he=>?_⟩;cases e with
    | returned u=>exact ⟨keep a hy u,by rw [←zAd a v u h2];exact he⟩
    | panicked c=>exact hQ _ _ _ he
    | outgrown=>exact he
   case row row args=>exact ⟨h.1,RowsIn.mono h.2 fun u CI he=>⟨keep a hy u,by rw [←zAd a v u h2];exact he⟩⟩
   case round l f tmps assign body=>
    refine ⟨h.1,RoundIn.mono h.2 fun e CI he=>?_⟩;cases e with
    | returned u=>exact ⟨keep a hy u,by rw [←zAd a v u h2];exact he⟩
    | panicked c=>exact hQ _ _ _ he
    | outgrown=>exact he
  | halt x w'=>
   cases x <;> simp only [Oper.uponIn] at h ⊢
   case panic u=>exact hQ _ _ _ h
 ·rename_i hw;simp only [hw] at h;exact ⟨fun f _=>hF f,keep a hy _,by rw [←zAd a v undef h2];exact h.2⟩
theorem Zk {i:Nat} {K:Act -> World -> Prop} {a:Act} {w:World} (h:wpOpIn F n P ops (NP Q) i K a w):wpOpIn F n P ops Q i K a w:=by
 unfold wpOpIn at*;split
 ·rename_i ho;simp only [ho] at h;exact h
 ·rename_i o ho;simp only [ho] at h;have hl:LetsOut (NP Q) -> LetsOut Q:=fun ⟨a,w,h⟩=>⟨a,w,h⟩
  by_cases hw:Region.wanted o (yielded ops a.tmps)=true
  ·rw [yC hw] at h ⊢;unfold Oper.wpIn at*;refine ⟨h.1,?_⟩;have h:=h.2
   generalize (o.semAt F.round a.eval).run P w=r at*
   cases r with
   | ok x w'=>
    cases x <;> simp only [Oper.uponIn] at h ⊢ <;> first | exact h | skip
    ·refine ⟨h.1,CallsIn.mono h.2 fun e CI he=>?_⟩;cases e with
     | returned v=>exact he
     | panicked c=>exact he.elim
     | outgrown=>exact hl he
    ·refine ⟨h.1,RoundIn.mono h.2 fun e CI he=>?_⟩;cases e with
     | returned v=>exact he
     | panicked c=>exact he.elim
     | outgrown=>exact hl he
   | halt x w'=>cases x <;> simp only [Oper.uponIn] at h ⊢;exact h.elim
  ·rw [yM hw] at h ⊢;exact h
def Ip (F:Fence) (n:Nat) (P:Program) (ops:Array Oper) (Q:Exit -> Act -> World -> Prop) (Cc:Nat -> Bool) (g:Nat) (S:World -> Prop):Nat -> Array Bool -> Act -> World -> Prop
 | 0,AQ,a,w=>(∀ j,j<ops.size -> Cc j=false -> AQ.getD j true=true)/\ wpAnyIn F n P .any ops Q g AQ a w
 | m+1,AQ,a,w=>Region.ready .any ops AQ≠[]/\ ∀ i∈Region.ready .any ops AQ,wpOpIn F n P ops (NP Q) i (fun a' w'=>S w'/\ Ip F n P ops Q Cc g S m (AQ.setIfInBounds i true) a' w') a w
theorem Zl {Cc:Nat -> Bool} {g:Nat} {S S':World -> Prop} (hS: ∀ w,S' w -> S w): ∀ (m:Nat) (AQ:Array Bool) (a:Act) (w:World),
 Ip F n P ops Q Cc g S' m AQ a w -> Ip F n P ops Q Cc g S m AQ a w
 | 0,_,_,_,h=>h
 | m+1,_,_,_,h=>⟨h.1,fun i hi=>zAY (fun _ _ h'=>⟨hS _ h'.1,Zl hS m _ _ _ h'.2⟩) (h.2 i hi)⟩
theorem Zn {Cc:Nat -> Bool} {g:Nat} {S:World -> Prop}: ∀ (m:Nat) (AQ:Array Bool) (a:Act) (w:World),Ip F n P ops Q Cc g S m AQ a w -> wpAnyIn F n P .any ops Q (m+g) AQ a w
 | 0,_,_,_,h=>by rw [yX];exact h.2
 | m+1,_,_,_,h=>by
  rw [show m+1+g=(m+g)+1 by omega];exact ⟨fun h0=>absurd h0 h.1,fun i hi=>zAY (fun a' w' h'=>Zn m _ a' w' h'.2) (Zk (h.2 i hi))⟩
theorem Zm (hF: ∀ f,F.fn f) (Aw:Dq ops=true) {Cc:Nat -> Bool} {g:Nat} {S:World -> Prop} {i k:Nat} {oi:Oper} {v:Value} (hi:ops[i]? =some oi) (QK: ∀ (j:Nat) (o:Oper) cs b,ops[j]? =some o -> o.op≠.select cs b)
 (hT: ∀ j,j<ops.size -> Cc j=true -> Fa ops k j i=true):
 ∀ (m:Nat) (AQ:Array Bool) (a:Act) (w:World),Fu ops AQ ->
  (∀ j oj,ops[j]? =some oj -> j≠i -> AQ.getD j true=false -> (∀ e∈oj.after,Region.binds .any e=true -> e.on≠i) -> oi.apart ops oj=true) ->
  i∈Region.ready .any ops AQ -> YieldsIf P ops S oi v a -> S w ->
  Ip F n P ops Q Cc g S m (AQ.setIfInBounds i true) (a.put oi.dst v) w -> Ip F n P ops Q Cc g S (m+1) AQ a w:=by
 intro m
 induction m with
 | zero=>
  intro AQ a w BP _ hr hy hS H;have Lx:=(zAc.1 hr).1;refine ⟨fun h=>(by rw [h] at hr;cases hr),fun j hj=>?_⟩
  by_cases D9:j=i
  ·subst D9;exact Rj hF (Hc Aw hi) hi hy hS ⟨hS,H⟩
  ·exfalso
   obtain ⟨Id,oj,FO,G6⟩:=zAc.1 hj;have NW:=(yE.1 FO).1;cases ht:Cc j with
   | true=>
    have:=VV BP k j i oj FO G6 (hT j NW ht);rw [UP Lx] at this;cases this
   | false=>
    have:=H.1 j NW ht;rw [getD_set_ne true (zAe D9),Id] at this;cases this
 | succ m ih=>
  intro AQ a w BP QZ hr hy hS H;have Lx:=(zAc.1 hr).1;refine ⟨fun h=>(by rw [h] at hr;cases hr),fun j hj=>?_⟩
  by_cases D9:j=i
  ·subst D9;exact Rj hF (Hc Aw hi) hi hy hS ⟨hS,H⟩
  ·have h1:=H.2 j (ready_mono hj D9);obtain ⟨Id,oj,FO,G6⟩:=zAc.1 hj
   have X1: ∀ e∈oj.after,Region.binds .any e=true -> e.on≠i:=fun e he hb NY=>by
    have h1:=G6 e he hb;rw [NY,UP Lx] at h1;cases h1
   have h2:=Zj hF (Hc Aw FO) FO (QZ j oj FO D9 Id X1) (fun cs b=>QK i oi cs b hi) (fun cs b=>QK j oj cs b FO) (fun c a w h=>NP.put c a _ _ w h) hy h1
   have t8: ∀ k ok,ops[k]? =some ok -> k≠i -> (AQ.setIfInBounds j true).getD k true=false ->
    (∀ e∈ok.after,Region.binds .any e=true -> e.on≠i) -> oi.apart ops ok=true:=fun k ok hk QT Hi JJ=>by
    refine QZ k ok hk QT ?_ JJ
    by_cases QV:j=k
    ·subst QV;exact Id
    ·rw [getD_set_ne true QV] at Hi;exact Hi
   refine zAY (fun a' w' h3=>⟨h3.2.1,ih (AQ.setIfInBounds j true) a' w' (BP.set hj) t8 (ready_mono hr (zAe D9)) h3.1 h3.2.1 ?_⟩) h2;rw [Array.setIfInBounds_comm _ _ D9];exact h3.2.2
def Mc (F:Fence) (n:Nat) (P:Program) (ops:Array Oper) (Q:Exit -> Act -> World -> Prop):List Nat -> Act -> World -> Prop
 | [],a,w=>Q .normal a w
 | t::ts,a,w=>wpOpIn F n P ops Q t (Mc F n P ops Q ts) a w
def Qc (F:Fence) (n:Nat) (P:Program) (ops:Array Oper) (Q:Exit -> Act -> World -> Prop):List (List Nat×Nat) -> List Nat -> List Nat -> Act -> World -> Prop
 | [],Ba,tail,a,w=>wpQuiet P ops (fun w'=>∃ x:Ri w,w'=x.W) (fun a'=>Mc F n P ops Q tail a' w) (E0 ops Ba) a
 | (Gg,i)::Fh,Ba,tail,a,w=>wpQuiet P ops (fun w'=>∃ x:Ri w,w'=x.W) (fun a'=>wpOpIn F n P ops (NP Q) i (fun GE CI=>Ar w CI/\ Qc F n P ops Q Fh Ba tail GE CI) a' w) (E0 ops Gg) a
theorem aL: ∀ (tail:List Nat) (AQ:Array Bool) (a:Act) (w:World),Oc ops tail AQ=true -> Mc F n P ops Q tail a w -> wpAnyIn F n P .any ops Q tail.length AQ a w
 | [],AQ,a,w,hk,h=>⟨by simpa [Oc] using hk,h⟩
 | t::ts,AQ,a,w,hk,h=>by
  simp only [Oc,yG,yk] at hk;refine ⟨fun h0=>(by rw [hk.1] at h0;cases h0),fun i hi=>?_⟩;rw [hk.1,yV] at hi;subst hi;exact zAY (fun a' w' h'=>aL ts _ a' w' hk.2 h') h
theorem R7 (hF: ∀ f,F.fn f) (Aw:Dq ops=true) {w:World} {Cc:Nat -> Bool} {g:Nat} (hs:Region.noSelect ops=true) {next:Act -> Prop} {m:Nat}:
 ∀ (l:List Nat) (AQ:Array Bool) (a:Act),Fu ops AQ -> Oo ops Cc l AQ=true -> wpQuiet P ops (OK w) next (E0 ops l) a ->
  (∀ a',Fu ops (Mj l AQ) -> next a' -> Ip F n P ops Q Cc g (Ar w) m (Mj l AQ) a' w) -> Ip F n P ops Q Cc g (Ar w) (l.length+m) AQ a w
 | [],AQ,a,BP,_,h,hn=>by
  simp only [za,yX];exact hn a BP h
 | i::l,AQ,a,BP,hk,h,hn=>by
  simp only [Oo,yG] at hk;obtain ⟨⟨⟨⟨hr,hf⟩,hp⟩,hT⟩,DG⟩:=hk;have Cm:i∈Region.ready .any ops AQ:=by simpa using hr
  have fZ: ∀ j,j<ops.size -> Cc j=true -> Fa ops ops.size j i=true:=fun j hj ht=>by
   have:=yL.1 hT j (yP.2 hj);simpa [ht] using this
  have KJ:(i::l).length+m=(l.length+m)+1:=by simp;omega
  rw [KJ];cases hi:ops[i]? with
  | none=>rw [hi] at hp;simp at hp
  | some o=>
   rw [hi] at hp;simp only [E0,hi] at h;unfold wpQuiet at h
   by_cases hw:Region.wanted o (yielded ops a.tmps)=true
   ·rw [yC hw] at h;obtain ⟨v,h1,h2⟩:=h;exact Zm hF Aw hi (Region.noSelect_spec hs) fZ _ AQ a w BP (Region.free_spec hi hf) Cm (jC hp hw h1) (Ar.refl _) (R7 hF Aw hs l _ _ (BP.set Cm) DG h2 hn)
   ·rw [yM hw] at h;exact Zm hF Aw hi (Region.noSelect_spec hs) fZ _ AQ a w BP (Region.free_spec hi hf) Cm (.inr ⟨by simpa using hw,rfl⟩) (Ar.refl _) (R7 hF Aw hs l _ _ (BP.set Cm) DG h hn)
theorem fQ (hF: ∀ f,F.fn f) (Aw:Dq ops=true) {Cc:Nat -> Bool} (hs:Region.noSelect ops=true):
 ∀ (D4:List (List Nat×Nat)) (Ba tail:List Nat) (AQ:Array Bool) (a:Act) (w:World),Fu ops AQ -> Oq ops Cc D4 Ba tail AQ=true -> Qc F n P ops Q D4 Ba tail a w ->
  Ip F n P ops Q Cc tail.length (Ar w) (UC D4 Ba) AQ a w
 | [],Ba,tail,AQ,a,w,BP,hk,h=>by
  simp only [Oq,yG] at hk;obtain ⟨⟨h1,h2⟩,h3⟩:=hk
  have:=R7 (m:=0) hF Aw hs Ba AQ a BP h1 h (fun a' _ hq=>⟨fun j hj ht=>by
   have:=yL.1 h2 j (yP.2 hj);simpa [ht] using this,aL tail _ a' w h3 hq⟩)
  simpa [UC] using this
 | (Gg,i)::Fh,Ba,tail,AQ,a,w,BP,hk,h=>by
  simp only [Oq,yG,yk] at hk;obtain ⟨⟨h1,h2⟩,h3⟩:=hk;refine R7 hF Aw hs Gg AQ a BP h1 h fun a' uN hq=>?_
  rw [Nat.add_comm 1];refine ⟨fun h0=>(by rw [h2] at h0;cases h0),fun j hj=>?_⟩;have BI:=hj;rw [h2,yV] at hj;subst hj;refine zAY (fun GE CI h'=>⟨h'.1,?_⟩) hq;exact Zl (fun W hW=>h'.1.trans hW) _ _ _ _ (fQ hF Aw hs Fh Ba tail _ GE CI (uN.set BI) h3 h'.2)
theorem jI {id:Nat} {a:Act} {w:World} (hF: ∀ f,F.fn f) (D4:List (List Nat×Nat)) (Ba tail:List Nat) (hm:P.follows .mixedOrders=true) (hB:(Vv ops D4 Ba tail&&Dq ops)=true)
 (h:Qc F n P ops Q D4 Ba tail a w.drew):(Code.region id ops true).wpIn F n P Q a w:=by
 simp only [Vv,yG,yk] at hB;obtain ⟨⟨⟨h1,h2⟩,h3⟩,h4⟩:=hB
 have BP:Fu ops (Array.replicate ops.size false):=fun j oj _ hl=>by
  exfalso
  rcases zd j ops.size with h | h
  ·simp [h] at hl
  ·simp [h] at hl
 have:=Zn _ _ _ _ (fQ hF h4 h1 D4 Ba tail _ a w.drew BP h3 h);rw [h2] at this;exact wpIn_region_any hm this
theorem aM: ∀ (tail:List Nat) (a:Act) (w:World),(∀ t∈tail,t<ops.size) -> wpListIn F n P ops Q (E0 ops tail) a w -> Mc F n P ops Q tail a w
 | [],_,_,_,h=>h
 | t::ts,a,w,hl,h=>by
  have ht:ops[t]? =some (ops[t]'(hl t (by simp))):=zN _;simp only [E0,ht] at h;unfold Mc wpOpIn;simp only [ht];unfold wpListIn at h;have hm: ∀ a w,wpListIn F n P ops Q (E0 ops ts) a w -> Mc F n P ops Q ts a w:=fun a w h=>aM ts a w (fun t ht=>hl t (by simp [ht])) h
  by_cases hw:Region.wanted (ops[t]'(hl t (by simp))) (yielded ops a.tmps)=true
  ·rw [yC hw] at h ⊢;exact Oper.wpIn_mono hm h
  ·rw [yM hw] at h ⊢;exact ⟨h.1,hm _ _ h.2⟩
theorem uE {Ba tail:List Nat} {a:Act} {w:World} (ht:(tail.all fun t=>decide (t<ops.size))=true)
 (h:wpQuiet P ops (fun w'=>∃ x:Ri w,w'=x.W) (fun a'=>wpListIn F n P ops Q (E0 ops tail) a' w) (E0 ops Ba) a):
 Qc F n P ops Q [] Ba tail a w:=by
 refine VR _ _ _ _ (fun a' h=>?_) h;exact aM tail a' w (fun t h=>by simpa using yL.1 ht t h) h
end
end Go.Proofs.YtekkngkphejfcaaGreatDoor
namespace Go.Proofs.YtekkngkphejfcaaGreatDoor
abbrev yN:=@Nat.lt_of_lt_of_le
abbrev yO:=@Nat.le_trans
abbrev yd:=@List.mem_cons
abbrev yn:=@List.mem_of_getElem?
abbrev zP:=@Go.World.putObj_heap_other
abbrev zAJ:=@Go.wpIn_mono
abbrev zAs:=@Go.RowKit.Below.block
end Go.Proofs.YtekkngkphejfcaaGreatDoor
namespace Go.Proofs.YtekkngkphejfcaaGreatDoor
open Go.RowKit
structure AM (S:Nat -> Prop) (w w':World):Prop where
 os:w'.os=w.os
 tape:w'.tape=w.tape
 output:w'.output=w.output
 size:w.heap.size<=w'.heap.size
 block: ∀ k,k<w.heap.size -> ¬ S k -> w'.heap[k]? =w.heap[k]?
theorem AM.refl (S:Nat -> Prop) (w:World):AM S w w:=⟨rfl,rfl,rfl,yf _,fun _ _ _=>rfl⟩
theorem AM.comp {S S':Nat -> Prop} {a b c:World} (h:AM S a b) (k:AM S' b c) (hs: ∀ i,i<a.heap.size -> S' i -> S i):AM S a c:=
 ⟨k.os.trans h.os,k.tape.trans h.tape,k.output.trans h.output,yO h.size k.size,
  fun i hi hn=>(k.block i (yN hi h.size) (fun hx=>hn (hs i hi hx))).trans (h.block i hi hn)⟩
theorem AM.trans {S:Nat -> Prop} {a b c:World} (h:AM S a b) (k:AM S b c):AM S a c:=h.comp k fun _ _ h=>h
theorem AM.mono {S S':Nat -> Prop} {a b:World} (h:AM S a b) (hs: ∀ i,i<a.heap.size -> S i -> S' i):AM S' a b:=
 ⟨h.os,h.tape,h.output,h.size,fun i hi hn=>h.block i hi fun hx=>hn (hs i hi hx)⟩
theorem AM.ofExt {S:Nat -> Prop} {a b:World} (h:Ar a b):AM S a b:=⟨Below.os h,Below.tape h,Below.output h,Below.size h,fun i hi _=>zAs h i hi⟩
theorem AM.toExt {S:Nat -> Prop} {a b:World} (h:AM S a b) (hs: ∀ i,i<a.heap.size -> ¬ S i):Ar a b:=⟨h.os,h.tape,h.output,h.size,fun i hi=>h.block i hi (hs i hi)⟩
theorem AM.alloc {S:Nat -> Prop} {a b:World} (h:AM S a b) (o:Obj):AM S a (b.alloc o):=h.trans (AM.ofExt (Ar.alloc b o))
theorem AM.setCell {S:Nat -> Prop} {a b:World} (h:AM S a b) {p:Addr} (hp:p.block<a.heap.size -> S p.block) (u:Value):AM S a (b.setCell p u):=by
 refine h.comp (S':=fun k=>k=p.block) ⟨rfl,rfl,rfl,?_,fun k _ hk=>?_⟩ (fun i hi e=>by cases e;exact hp hi)
 ·show b.heap.size<=(b.heap.modify _ _).size
  rw [Array.size_modify];exact yf _
 ·exact Below.heap_setCell b p u k hk
theorem AM.putObj {S:Nat -> Prop} {a b:World} (h:AM S a b) {l:Nat} (hl:l<a.heap.size -> S l) (o:Obj):AM S a (b.putObj l o):=by
 refine h.comp (S':=fun k=>k=l) ⟨rfl,rfl,rfl,by simp,fun k _ hk=>zP hk⟩ (fun i hi e=>by cases e;exact hl hi)
theorem AM.cell {S:Nat -> Prop} {a b:World} (h:AM S a b) {p:Addr} {u:Value} (hs: ¬ S p.block) (hc:a.cell? p=some u):b.cell? p=some u:=by
 rw [World.cell?_of_block (h.block p.block (zf a p hc) hs)];exact hc
def EX (I:(Nat -> Prop) -> World -> Prop):Prop:=
 ∀ (G G':Nat -> Prop) (A B:World),I G A -> AM G A B -> (∀ k,G' k -> G k∨A.heap.size<=k) -> (∀ k,G' k -> k<B.heap.size) -> I G' B
def SL (Keep:Nat -> Prop) (I:World -> Prop) (Ix:Code -> World -> Prop) (W:World):Exit -> Act -> World -> Prop
 | .normal,_,W'=>AM (fun k=>¬ Keep k) W W'/\ I W'
 | .ret,_,W'=>AM (fun k=>¬ Keep k) W W'/\ Ix .ret W'
 | .exit id,_,W'=>AM (fun k=>¬ Keep k) W W'/\ Ix (.exit id) W'
 | .goto t,_,W'=>AM (fun k=>¬ Keep k) W W'/\ Ix (.goto t) W'
 | .panic _,_,_=>False
 | .outgrown,_,_=>False
def H9 (P:Program) (g:Nat) (lb:Array Value) (encs:List (Array Value)) (G0 Rd:Nat -> Prop) (w:World):Prop:=
 ∀ (l:Nat) (J:Nat -> (Nat -> Prop) -> World -> Prop) (Jx:(Nat -> Prop) -> World -> Prop) (G:Nat -> Prop) (W:World),
  (∀ i,EX (J i)) -> EX Jx -> AM (fun k=>¬ (G0 k∨Rd k)) w W -> (∀ k,G0 k -> G k) -> (∀ k,G k -> k<W.heap.size) ->
  (∀ i args G W1,encs[i]? =some args -> J i G W1 -> YieldAt Fence.wide 0 P l args W1 fun e W'=>
   AM (fun k=>¬ (G k∨Rd k)) W1 W'/\ ((e= .returned (.bool true)/\ J (i+1) G W')∨(e= .returned (.bool false)/\ Jx G W'))) ->
  J 0 G W ->
  CallsIn Fence.wide 0 P g (#[.func (.yield l) #[] #[]]++lb) W fun e W'=>(∃ v,e= .returned v)/\ ((∃ G',J encs.length G' W')∨(∃ G',Jx G' W'))
section
variable {P:Program}
theorem b9 {ps:Array Tmp} {assign body:Code} {a:Act} {gf:Nat} {lb:Array Value} {encs:List (Array Value)} {G0 Rd:Nat -> Prop} {w0 W1:World} {l D dd:Nat} {fn:FuncId} {loose:Bool}
 (hseq:H9 P gf lb encs G0 Rd w0) (uU:AM (fun k=>¬ (G0 k∨Rd k)) w0 W1) (Ij: ∀ k,G0 k -> k<l/\ k≠D) (Ih: ∀ k,Rd k -> k≠l) (Db: ∀ x∈encs,x.size=ps.size)
 (CJ:LoopState -> Option Code -> Loop) (En: ∀ st pe,CJ st pe= { state:=st,pending:=pe,fn,tmps:=a.tmps,params:=ps,assign,body,defers:=dd })
 (FS:W1.heap[l]? =some (.loop (CJ .ready none))) (ur:loose=false -> W1.heap[D]? =some (.deferred (some []))) (fC:D≠l)
 (I:Nat -> (Nat -> Prop) -> World -> Prop) (Ix:Code -> (Nat -> Prop) -> World -> Prop) (hI: ∀ i,EX (I i)) (Ii: ∀ c,EX (Ix c)) (own:Nat -> Prop) (JI: ∀ k,own k -> k=l∨(loose=false/\ k=D)) (F6:own l) (T5:loose=false -> own D)
 (h0:I 0 (fun k=>G0 k∨own k) W1)
 (DF: ∀ (G:Nat -> Prop) (i:Nat) (x:Array Value) (W:World),encs[i]? =some x -> I i G W -> (∃ r,W.heap[l]? =some (.loop r)) -> G l ->
  assign.wpIn (Fence.wide.inRound l) 0 P (Exit.then (fun a₁ W₁=>∃ K:(Nat -> Prop) -> World -> Prop,EX K/\ AM (fun k=>¬ (G k∨Rd k)) W W₁/\ K G W₁/\ ∀ W₂,K G W₂ -> (∃ r,W₂.heap[l]? =some (.loop r)) ->
   body.wpIn (Fence.wide.inRound l) 0 P (SL (fun k=>G k∨Rd k) (I (i+1) G) (fun c=>Ix c G) W₂) a₁ W₂) (fun _ _ _=>False)) { tmps:=(ps.zip x).foldl (fun t (p,v)=>t.setIfInBounds p v) a.tmps,defers:=[] } W):
 CallsIn Fence.wide 0 P gf (#[.func (.yield l) #[] #[]]++lb) W1 fun e W2=>(∃ v,e= .returned v)/\
  ((∃ G,I encs.length G W2/\ (∀ k,G k -> k<W2.heap.size)/\ G l/\ (loose=false -> G D)/\ W2.heap[l]? =some (.loop (CJ .ready none))/\ (loose=false -> W2.heap[D]? =some (.deferred (some []))))∨
   (∃ c G,Ix c G W2/\ (∀ k,G k -> k<W2.heap.size)/\ G l/\ (loose=false -> G D)/\ W2.heap[l]? =some (.loop (CJ .done (some c)))/\ (loose=false -> W2.heap[D]? =some (.deferred (some []))))):=by
 have nG: ∀ (G G':Nat -> Prop) (A:World) (k:Nat) (o:Obj),¬ G k -> A.heap[k]? =some o -> (∀ k,G' k -> G k∨A.heap.size<=k) -> ¬ G' k:=fun G G' A k o hn hk hg hx=>by
  have AK:=(yE.1 hk).1;rcases hg k hx with h | h
  ·exact hn h
  ·omega
 have kept: ∀ (G:Nat -> Prop) (A B:World) (k:Nat) (o:Obj),¬ G k -> A.heap[k]? =some o -> AM G A B -> B.heap[k]? =some o:=fun G A B k o hn hk hu=>
  (hu.block k (yE.1 hk).1 hn).trans hk
 have DI: ∀ (Φ:(Nat -> Prop) -> World -> Prop) (r:Loop),EX Φ -> EX (fun G W=>Φ (fun k=>G k∨own k) W/\ ¬ G l/\ (loose=false -> ¬ G D)/\ W.heap[l]? =some (.loop r)/\ (loose=false -> W.heap[D]? =some (.deferred (some [])))/\ ∀ k,G k -> k<W.heap.size):=by
  intro Φ r hΦ G G' A B ⟨h1,h2,h3,h4,h5,h6⟩ hu hg EB;refine ⟨hΦ _ _ A B h1 (hu.mono fun i _ h=>.inl h) (fun k hk=>?_) (fun k hk=>hk.elim (EB k) fun ho=>yN ((JI k ho).elim (fun e=>e▸(yE.1 h4).1) (fun e=>e.2▸(yE.1 (h5 e.1)).1)) hu.size),nG G G' A l _ h2 h4 hg,fun hl=>nG G G' A D _ (h3 hl) (h5 hl) hg,kept G A B l _ h2 h4 hu,fun hl=>kept G A B D _ (h3 hl) (h5 hl) hu,EB⟩;rcases hk with hk | hk
  ·exact (hg k hk).imp .inl id
  ·exact .inl (.inr hk)
 refine (hseq l
  (fun i G W=>I i (fun k=>G k∨own k) W/\ ¬ G l/\ (loose=false -> ¬ G D)/\ W.heap[l]? =some (.loop (CJ .ready none))/\ (loose=false -> W.heap[D]? =some (.deferred (some [])))/\ ∀ k,G k -> k<W.heap.size)
  (fun G W=>∃ c,Ix c (fun k=>G k∨own k) W/\ ¬ G l/\ (loose=false -> ¬ G D)/\ W.heap[l]? =some (.loop (CJ .done (some c)))/\ (loose=false -> W.heap[D]? =some (.deferred (some [])))/\ ∀ k,G k -> k<W.heap.size)
  G0 W1 (fun i=>DI (I i) _ (hI i)) (fun G G' A B ⟨c,h⟩ hu hg EB=>⟨c,DI (Ix c) _ (Ii c) G G' A B h hu hg EB⟩) uU (fun _ h=>h) (fun k h=>Nat.lt_trans (Ij k h).1 (yE.1 FS).1) ?_
  ⟨h0,fun h=>by have:=(Ij l h).1;omega,fun _ h=>(Ij D h).2 rfl,FS,ur,fun k h=>Nat.lt_trans (Ij k h).1 (yE.1 FS).1⟩).mono ?_
 ·rintro i x G W hx ⟨hi,FP,Aw,hl,hd,EB⟩;have Lm:x∈encs:=yn hx;have AK:l<W.heap.size:=(yE.1 hl).1;have Cn: ∀ k,(G k∨own k) -> k<W.heap.size:=fun k hk=>hk.elim (EB k) fun ho=>(JI k ho).elim (fun e=>e▸AK) (fun e=>e.2▸(yE.1 (hd e.1)).1)
  have hy:=run_yield (P:=P) (args:=x) hl (by rw [En];exact Db x Lm);rw [En] at hy;refine ⟨fn,_,assign,body,hy,roundIn_of_wpIn trivial (zAJ (DF _ i x W hx hi ⟨_,hl⟩ (.inr F6)) ?_)⟩;rintro e a1 HD hq;cases e <;> first | exact hq.elim | skip
  obtain ⟨K,hK,GS,tp,hb⟩:=hq;have Tt:AM (fun k=>¬ (G k∨Rd k)) W HD:=GS.mono fun k _ h hx=>h (hx.imp .inl id)
  have hl:=(GS.block l AK (fun h=>h (.inl (.inr F6)))).trans hl;have hd:loose=false -> HD.heap[D]? =some (.deferred (some [])):=fun h=>(GS.block D (yE.1 (hd h)).1 (fun hx=>hx (.inl (.inr (T5 h))))).trans (hd h)
  have AK:l<HD.heap.size:=yN AK GS.size;have EB: ∀ k,G k -> k<HD.heap.size:=fun k h=>yN (EB k h) GS.size
  have Cn: ∀ k,(G k∨own k) -> k<HD.heap.size:=fun k h=>yN (Cn k h) GS.size
  refine ⟨_,run_beginRound hl (by rw [En]),?_⟩;have CU:(HD.putObj l (.loop { CJ .ready none with state:=.busy })).heap[l]? =some (.loop { CJ .ready none with state:=.busy }):=World.putObj_heap_same AK;have uM:loose=false -> (HD.putObj l (.loop { CJ .ready none with state:=.busy })).heap[D]? =some (.deferred (some [])):=fun h=>(zP fC).trans (hd h)
  have Gz:AM (fun k=>G k∨own k) HD (HD.putObj l (.loop { CJ .ready none with state:=.busy })):=(AM.refl _ HD).putObj (fun _=>.inr F6) _;refine zAJ (hb _ (hK _ _ _ _ tp Gz (fun k h=>.inl h) (fun k h=>yN (Cn k h) Gz.size)) ⟨_,CU⟩) ?_
  have fin: ∀ (FK:Option Code) (W3:World),AM (fun k=>¬ ((G k∨own k)∨Rd k)) (HD.putObj l (.loop { CJ .ready none with state:=.busy })) W3 ->
   (Instr.endRound l FK).run P W3= .ok (.bool FK.isNone) (W3.putObj l (.loop (CJ (if FK.isNone then .ready else .done) FK)))/\
   W3.heap[l]? =some (.loop { CJ .ready none with state:=.busy })/\
   (W3.putObj l (.loop (CJ (if FK.isNone then .ready else .done) FK))).heap[l]? =some (.loop (CJ (if FK.isNone then .ready else .done) FK))/\
   (loose=false -> (W3.putObj l (.loop (CJ (if FK.isNone then .ready else .done) FK))).heap[D]? =some (.deferred (some [])))/\
   AM (fun k=>¬ (G k∨Rd k)) HD (W3.putObj l (.loop (CJ (if FK.isNone then .ready else .done) FK)))/\
   AM (fun k=>G k∨own k) W3 (W3.putObj l (.loop (CJ (if FK.isNone then .ready else .done) FK))):=fun FK W3 DQ=>by
   have Lw:W3.heap[l]? =some (.loop { CJ .ready none with state:=.busy }):=(DQ.block l (by simpa using AK) (fun h=>h (.inl (.inr F6)))).trans CU;have:=run_endRound (P:=P) FK Lw;refine ⟨by rw [En] at this ⊢;exact this,Lw,World.putObj_heap_same (yE.1 Lw).1,fun h=>(zP fC).trans ((DQ.block D ?_ (fun hx=>hx (.inl (.inr (T5 h))))).trans (uM h)),?_,(AM.refl _ W3).putObj (fun _=>.inr F6) _⟩
   ·simpa using (yE.1 (hd h)).1
   ·refine ⟨DQ.os,DQ.tape,DQ.output,by simpa using DQ.size,fun k hk hn=>?_⟩;have fk:G k∨Rd k:=Classical.not_not.1 hn
    by_cases Bi:k=l
    ·subst Bi;exact (fk.elim FP (fun h=>Ih k h rfl)).elim
    ·rw [zP Bi,DQ.block k (by simpa using hk) (fun hx=>hx (fk.imp .inl id)),zP Bi]
  rintro e a3 W3 hp;cases e with
  | normal=>
   obtain ⟨DQ,Ly⟩:=hp;obtain ⟨hr,Lw,Lv,L2,Lq,Fn⟩:=fin none W3 DQ;exact ⟨_,_,hr,Tt.comp Lq (fun _ _ h=>h),.inl ⟨rfl,hI _ _ _ _ _ Ly Fn (fun k h=>.inl h) (fun k h=>yN (Cn k h) (yO Gz.size (yO DQ.size Fn.size))),FP,Aw,Lv,L2,fun k h=>yN (EB k h) (yO Gz.size (yO DQ.size Fn.size))⟩⟩
  | ret=>
   obtain ⟨DQ,Ly⟩:=hp;obtain ⟨hr,Lw,Lv,L2,Lq,Fn⟩:=fin (some .ret) W3 DQ;exact ⟨_,_,hr,Tt.comp Lq (fun _ _ h=>h),.inr ⟨rfl,.ret,Ii _ _ _ _ _ Ly Fn (fun k h=>.inl h) (fun k h=>yN (Cn k h) (yO Gz.size (yO DQ.size Fn.size))),FP,Aw,Lv,L2,fun k h=>yN (EB k h) (yO Gz.size (yO DQ.size Fn.size))⟩⟩
  | exit id=>
   obtain ⟨DQ,Ly⟩:=hp;obtain ⟨hr,Lw,Lv,L2,Lq,Fn⟩:=fin (some (.exit id)) W3 DQ;exact ⟨_,_,hr,Tt.comp Lq (fun _ _ h=>h),.inr ⟨rfl,.exit id,Ii _ _ _ _ _ Ly Fn (fun k h=>.inl h) (fun k h=>yN (Cn k h) (yO Gz.size (yO DQ.size Fn.size))),FP,Aw,Lv,L2,fun k h=>yN (EB k h) (yO Gz.size (yO DQ.size Fn.size))⟩⟩
  | goto t=>
   obtain ⟨DQ,Ly⟩:=hp;obtain ⟨hr,Lw,Lv,L2,Lq,Fn⟩:=fin (some (.goto t)) W3 DQ;exact ⟨_,_,hr,Tt.comp Lq (fun _ _ h=>h),.inr ⟨rfl,.goto t,Ii _ _ _ _ _ Ly Fn (fun k h=>.inl h) (fun k h=>yN (Cn k h) (yO Gz.size (yO DQ.size Fn.size))),FP,Aw,Lv,L2,fun k h=>yN (EB k h) (yO Gz.size (yO DQ.size Fn.size))⟩⟩
  | panic ch=>exact hp.elim
  | outgrown=>exact hp.elim
 ·have ob: ∀ (G:Nat -> Prop) (W2:World) (r:Loop),W2.heap[l]? =some (.loop r) -> (loose=false -> W2.heap[D]? =some (.deferred (some []))) -> (∀ k,G k -> k<W2.heap.size) -> ∀ k,(G k∨own k) -> k<W2.heap.size:=fun G W2 r h4 h5 h6 k hk=>
   hk.elim (h6 k) fun ho=>(JI k ho).elim (fun e=>e▸(yE.1 h4).1) (fun e=>e.2▸(yE.1 (h5 e.1)).1)
  rintro e W2 ⟨hv,(⟨G,h1,h2,h3,h4,h5,h6⟩ | ⟨G,c,h1,h2,h3,h4,h5,h6⟩)⟩
  ·exact ⟨hv,.inl ⟨_,h1,ob _ _ _ h4 h5 h6,.inr F6,fun h=>.inr (T5 h),h4,h5⟩⟩
  ·exact ⟨hv,.inr ⟨c,_,h1,ob _ _ _ h4 h5 h6,.inr F6,fun h=>.inr (T5 h),h4,h5⟩⟩
theorem jK {g:Operand} {ps:Array Tmp} {assign body:Code} {Q:Exit -> Act -> World -> Prop} {a:Act} {w:World}
 {gf:Nat} {lb:Array Value} (hg:a.eval g= .func (.func gf) #[] lb) (eg: ∀ args w,(callFunc gf args).run P w= .ok (.enter gf args) w)
 {encs:List (Array Value)} {G0 Rd:Nat -> Prop} (hseq:H9 P gf lb encs G0 Rd w) (Ij: ∀ k,G0 k -> k<w.heap.size) (Ih: ∀ k,Rd k -> k<w.heap.size) (Db: ∀ x∈encs,x.size=ps.size)
 (I:Nat -> (Nat -> Prop) -> World -> Prop) (Ix:Code -> (Nat -> Prop) -> World -> Prop) (hI: ∀ i,EX (I i)) (Ii: ∀ c,EX (Ix c)) (h0:I 0 G0 w)
 (DF: ∀ (l:Nat) (G:Nat -> Prop) (i:Nat) (x:Array Value) (W:World),encs[i]? =some x -> I i G W -> (∃ r,W.heap[l]? =some (.loop r)) -> G l ->
  assign.wpIn (Fence.wide.inRound l) 0 P (Exit.then (fun a₁ W₁=>∃ K:(Nat -> Prop) -> World -> Prop,EX K/\ AM (fun k=>¬ (G k∨Rd k)) W W₁/\ K G W₁/\ ∀ W₂,K G W₂ -> (∃ r,W₂.heap[l]? =some (.loop r)) ->
   body.wpIn (Fence.wide.inRound l) 0 P (SL (fun k=>G k∨Rd k) (I (i+1) G) (fun c=>Ix c G) W₂) a₁ W₂) (fun _ _ _=>False)) { tmps:=(ps.zip x).foldl (fun t (p,v)=>t.setIfInBounds p v) a.tmps,defers:=[] } W)
 (Dv: ∀ (D:Nat) (G:Nat -> Prop) (W:World),I encs.length G W -> W.heap[D]? =some (.deferred (some [])) -> G D -> w.heap.size<=D ->
  Q .normal { a with defers:={ target:=.collected D,args:=#[] }::a.defers } W)
 (NM: ∀ (D:Nat) (c:Code) (G:Nat -> Prop) (W:World),Ix c G W -> W.heap[D]? =some (.deferred (some [])) -> G D -> w.heap.size<=D ->
  c.wpIn Fence.wide 0 P Q { a with defers:={ target:=.collected D,args:=#[] }::a.defers } W):
 (Code.rangeFunc g ps assign body).wpIn Fence.wide 0 P Q a w:=by
 refine wpIn_rangeFunc ?_;intro fn _;have KE:(w.alloc (.deferred (some []))).heap.size=w.heap.size+1:=World.size_alloc _ _;obtain ⟨CJ,En⟩: ∃ CJ:LoopState -> Option Code -> Loop,∀ st pe,CJ st pe= { state:=st,pending:=pe,fn,tmps:=a.tmps,params:=ps,assign,body,defers:=w.heap.size }:=⟨_,fun _ _=>rfl⟩;obtain ⟨W1,Hn⟩: ∃ W1,(w.alloc (.deferred (some []))).alloc (.loop (CJ .ready none))=W1:=⟨_,rfl⟩
 have JQ:W1.heap[w.heap.size+1]? =some (.loop (CJ .ready none)):=by
  rw [←Hn];have:=World.alloc_heap_new (w.alloc (.deferred (some []))) (.loop (CJ .ready none));rwa [World.size_alloc] at this
 have ul:W1.heap[w.heap.size]? =some (.deferred (some [])):=by
  rw [←Hn];exact (Below.heap_alloc _ _ _ (by simp)).trans (World.alloc_heap_new w _)
 have hu: ∀ S,AM S w W1:=fun S=>by rw [←Hn];exact ((AM.refl S w).alloc _).alloc _
 refine ⟨w.heap.size+1,[{ target:=.collected w.heap.size,args:=#[] }],W1,{ target:=.fn (.func gf) lb,args:=#[.func (.yield (w.heap.size+1)) #[] #[]] },W1,gf,
  #[.func (.yield (w.heap.size+1)) #[] #[]]++lb,W1,?_,?_,fun _ _=>trivial,?_,(fun h=>by cases h),?_⟩
 ·rw [←Hn,En];exact run_enterLoop_outer _ _ _ _ _
 ·simp only [resolve,hg];simp [go_sem]
 ·simp [invoke,go_sem,eg]
 ·refine (b9 (loose:=false) (D:=w.heap.size) hseq (hu _) (fun k h=>by have:=Ij k h;omega) (fun k h=>by have:=Ih k h;omega) Db CJ En JQ (fun _=>ul) (by omega)
   I Ix hI Ii (fun k=>k=w.heap.size+1∨k=w.heap.size) (fun k h=>h.imp id fun h=>⟨rfl,h⟩) (.inl rfl) (fun _=>.inr rfl)
   (hI 0 _ _ _ _ h0 (hu _) (fun k h=>h.imp id (by omega)) (fun k h=>by have h2:=(yE.1 JQ).1;rcases h with h | h | h <;> first | omega | (have:=Ij k h;omega))) (DF _)).mono ?_
  rintro e W2 ⟨⟨v,rfl⟩,(⟨G,hi,EB,_,YC,hl,hk⟩ | ⟨c,G,hi,EB,EO,YC,hl,hk⟩)⟩
  ·exact ⟨none,_,by have:=run_endLoop (P:=P) hl (by rw [En];simp);rw [En] at this;exact this,
    Dv _ _ _ (hI _ _ _ _ _ hi ((AM.refl _ W2).putObj (fun _=>by assumption) _) (fun k h=>.inl h) (fun k h=>by simpa using EB k h)) ((zP (by omega)).trans (hk rfl)) (YC rfl) (yf _)⟩
  ·exact ⟨some c,_,by have:=run_endLoop (P:=P) hl (by rw [En];simp);rw [En] at this;exact this,
    NM _ c _ _ (Ii _ _ _ _ _ hi ((AM.refl _ W2).putObj (fun _=>EO) _) (fun k h=>.inl h) (fun k h=>by simpa using EB k h)) ((zP (by omega)).trans (hk rfl)) (YC rfl) (yf _)⟩
theorem jL {l0:Nat} {g:Operand} {ps:Array Tmp} {assign body:Code} {Q:Exit -> Act -> World -> Prop} {a:Act} {w:World}
 {gf:Nat} {lb:Array Value} (hg:a.eval g= .func (.func gf) #[] lb) (eg: ∀ args w,(callFunc gf args).run P w= .ok (.enter gf args) w) (X5: ∃ r,w.heap[l0]? =some (.loop r))
 {encs:List (Array Value)} {G0 Rd:Nat -> Prop} (hseq:H9 P gf lb encs G0 Rd w) (Ij: ∀ k,G0 k -> k<w.heap.size) (Ih: ∀ k,Rd k -> k<w.heap.size) (Db: ∀ x∈encs,x.size=ps.size)
 (I:Nat -> (Nat -> Prop) -> World -> Prop) (Ix:Code -> (Nat -> Prop) -> World -> Prop) (hI: ∀ i,EX (I i)) (Ii: ∀ c,EX (Ix c)) (h0:I 0 G0 w)
 (DF: ∀ (l:Nat) (G:Nat -> Prop) (i:Nat) (x:Array Value) (W:World),encs[i]? =some x -> I i G W -> (∃ r,W.heap[l]? =some (.loop r)) -> G l ->
  assign.wpIn (Fence.wide.inRound l) 0 P (Exit.then (fun a₁ W₁=>∃ K:(Nat -> Prop) -> World -> Prop,EX K/\ AM (fun k=>¬ (G k∨Rd k)) W W₁/\ K G W₁/\ ∀ W₂,K G W₂ -> (∃ r,W₂.heap[l]? =some (.loop r)) ->
   body.wpIn (Fence.wide.inRound l) 0 P (SL (fun k=>G k∨Rd k) (I (i+1) G) (fun c=>Ix c G) W₂) a₁ W₂) (fun _ _ _=>False)) { tmps:=(ps.zip x).foldl (fun t (p,v)=>t.setIfInBounds p v) a.tmps,defers:=[] } W)
 (Dv: ∀ (G:Nat -> Prop) (W:World),I encs.length G W -> Q .normal a W)
 (NM: ∀ (c:Code) (G:Nat -> Prop) (W:World),Ix c G W -> c.wpIn (Fence.wide.inRound l0) 0 P Q a W):
 (Code.rangeFunc g ps assign body).wpIn (Fence.wide.inRound l0) 0 P Q a w:=by
 refine wpIn_rangeFunc ?_;intro fn _;obtain ⟨r0,DP⟩:=X5;obtain ⟨CJ,En⟩: ∃ CJ:LoopState -> Option Code -> Loop,∀ st pe,CJ st pe= { state:=st,pending:=pe,fn,tmps:=a.tmps,params:=ps,assign,body,defers:=r0.defers }:=⟨_,fun _ _=>rfl⟩;obtain ⟨W1,Hn⟩: ∃ W1,w.alloc (.loop (CJ .ready none))=W1:=⟨_,rfl⟩
 have JQ:W1.heap[w.heap.size]? =some (.loop (CJ .ready none)):=by
  rw [←Hn];exact World.alloc_heap_new w _
 have hu: ∀ S,AM S w W1:=fun S=>by rw [←Hn];exact (AM.refl S w).alloc _
 refine ⟨w.heap.size,[],W1,{ target:=.fn (.func gf) lb,args:=#[.func (.yield w.heap.size) #[] #[]] },W1,gf,
  #[.func (.yield w.heap.size) #[] #[]]++lb,W1,?_,?_,fun _ _=>trivial,?_,(fun h=>by cases h),?_⟩
 ·rw [←Hn,En];exact run_enterLoop_inner DP _ _ _ _ _
 ·simp only [resolve,hg];simp [go_sem]
 ·simp [invoke,go_sem,eg]
 ·refine CallsIn.inRound _ ((b9 (loose:=true) (D:=w.heap.size+1) (G0:=G0) hseq (hu _) (fun k h=>by have:=Ij k h;omega) (fun k h=>by have:=Ih k h;omega) Db CJ En JQ (fun h=>by cases h) (by omega)
   I Ix hI Ii (fun k=>k=w.heap.size) (fun k h=>.inl h) rfl (fun h=>by cases h)
   (hI 0 _ _ _ _ h0 (hu _) (fun k h=>h.imp id (by omega)) (fun k h=>by have h2:=(yE.1 JQ).1;rcases h with h | h <;> first | omega | (have:=Ij k h;omega))) (DF _)).mono ?_)
  rintro e W2 ⟨⟨v,rfl⟩,(⟨G,hi,EB,EO,_,hl,_⟩ | ⟨c,G,hi,EB,EO,_,hl,_⟩)⟩
  ·exact ⟨none,_,by have:=run_endLoop (P:=P) hl (by rw [En];simp);rw [En] at this;exact this,
    Dv _ _ (hI _ _ _ _ _ hi ((AM.refl _ W2).putObj (fun _=>EO) _) (fun k h=>.inl h) (fun k h=>by simpa using EB k h))⟩
  ·exact ⟨some c,_,by have:=run_endLoop (P:=P) hl (by rw [En];simp);rw [En] at this;exact this,
    NM c _ _ (Ii _ _ _ _ _ hi ((AM.refl _ W2).putObj (fun _=>EO) _) (fun k h=>.inl h) (fun k h=>by simpa using EB k h))⟩
end
def Dz (B:Nat):List Deferred -> World -> Prop
 | [],_=>True
 | d::ds,w=>∃ D,d= { target:=.collected D,args:=#[] }/\ B<=D/\ w.heap[D]? =some (.deferred (some []))/\ (∀ d'∈ds,d'.target≠.collected D)/\ Dz B ds w
theorem Dz.upd {B:Nat} {S:Nat -> Prop} {w w':World} (hu:AM S w w'): ∀ {ds:List Deferred},Dz B ds w -> (∀ k,B<=k -> S k -> w.heap[k]? ≠some (.deferred (some []))) -> Dz B ds w'
 | [],_,_=>trivial
 | _::_,⟨D,h1,h2,h3,h4,h5⟩,hs=>⟨D,h1,h2,(hu.block D (yE.1 h3).1 (fun hx=>hs D h2 hx h3)).trans h3,h4,Dz.upd hu h5 hs⟩
theorem Dz.lt {B:Nat} {w:World}: ∀ {ds:List Deferred} (_:Dz B ds w) {d:Deferred} {D:Nat},d∈ds -> d.target= .collected D -> D<w.heap.size
 | _::_,⟨D,h1,h2,h3,h4,h5⟩,d,D',hm,ht=>by
  rcases yd.1 hm with rfl | hm
  ·subst h1;cases ht;exact (yE.1 h3).1
  ·exact Dz.lt h5 hm ht
def Rh (B:Nat) (w W:World):Prop:=AM (fun k=>B<=k/\ w.heap[k]? =some (.deferred (some []))) w W
def n9 (B:Nat) (P:Program) (fn:Func) (R:Ending -> World -> Prop):Exit -> Act -> World -> Prop
 | .normal,a,w | .ret,a,w=>Dz B a.defers w/\ ∀ W,Rh B w W -> ∃ v,(results fn a.tmps).run P W= .ok v W/\ R (.returned v) W
 | _,_,_=>False
theorem dh {B:Nat} {P:Program} {fn:Func} {tmps:Array Value} {R:Ending -> World -> Prop}: ∀ (ds:List Deferred) (w:World),Dz B ds w ->
 (∀ W,Rh B w W -> ∃ v,(results fn tmps).run P W= .ok v W/\ R (.returned v) W) -> LeavesInM Fence.wide 0 P fn tmps R ds .returning w
 | [],w,_,h=>h w (AM.refl _ w)
 | _::ds,w,⟨D,h1,h2,h3,h4,h5⟩,h=>by
  refine ⟨by simp,.inl ⟨D,_,by rw [h1],run_takeDeferred h3,?_⟩⟩;have hu:AM (fun k=>k=D) w (w.putObj D (.deferred none)):=(AM.refl (fun k=>k=D) w).putObj (fun _=>rfl) _
  have AV: ∀ {ds:List Deferred},(∀ d'∈ds,d'.target≠.collected D) -> Dz B ds w -> Dz B ds (w.putObj D (.deferred none)):=by
   intro ds
   induction ds with
   | nil=>intro _ _;trivial
   | cons d ds ih=>
    intro hd ⟨D',g1,g2,g3,g4,g5⟩;refine ⟨D',g1,g2,?_,g4,ih (fun d' hm=>hd d' (by simp [hm])) g5⟩;rw [zP (fun e=>hd d (by simp) (by rw [g1,e]))];exact g3
  refine dh ds _ (AV h4 h5) fun W hW=>h W ?_
  refine hu.mono (S':=fun k=>B<=k/\ w.heap[k]? =some (.deferred (some []))) (fun i _ e=>by cases e;exact ⟨h2,h3⟩) |>.comp hW fun i hi hx=>⟨hx.1,?_⟩
  by_cases e:i=D
  ·rw [e];exact h3
  ·rw [←zP (o:=.deferred none) e];exact hx.2
theorem wx (B:Nat) {P:Program} {f:FuncId} {fn:Func} {c:Code} {args:Array Value} {w:World} {R:Ending -> World -> Prop}
 (hf:P.funcs[f]? =some fn) (hb:fn.body=some c)
 (h:c.wp P (n9 B P fn R) { tmps:=args++Array.replicate (fn.ntmps-args.size) undef,defers:=[] } w):Calls P f args w R:=by
 refine (callsIn_wide (n:=0)).1 (callsIn_of_wp_marks hf hb trivial ?_);refine zAJ (wpIn_wide.2 h) fun e a' w' hq=>?_
 cases e <;> first | exact dh _ _ hq.1 hq.2 | exact hq.elim
end Go.Proofs.YtekkngkphejfcaaGreatDoor
namespace Go.Proofs.YtekkngkphejfcaaGreatDoor
abbrev u8:=@List.getD_eq_getElem?_getD
abbrev yJ:=@List.getElem?_eq_some_iff
abbrev yW:=@List.getElem?_append_left
abbrev yh:=@List.getElem?_append_right
abbrev ym:=@List.getElem?_set
abbrev yp:=@List.length_set
abbrev yx:=@List.getElem?_eq_none
abbrev zU:=@Array.getD_eq_getD_getElem?
abbrev zb:=@Array.getElem?_setIfInBounds
end Go.Proofs.YtekkngkphejfcaaGreatDoor
namespace Go.Proofs.YtekkngkphejfcaaGreatDoor
open Go.RowKit
inductive DV where
 | any
 | nils
 | int (k:IntKind) (n:Int)
 | bool (b:Bool)
 | str (s:ByteArray)
 | ints (l:List Int)
 | bools (l:List Bool)
 | sl (m n:Nat) (f:Nat -> Nat -> DV)
 | fp (m:Nat) (f:Nat -> DV)
 | agg (m:Nat) (f:Nat -> DV)
 | tup (m:Nat) (f:Nat -> DV)
 | ref (k j:Nat)
 | msl (k m off n:Nat)
 | mp (k m i j:Nat)
 | fn (g:Nat) (m:Nat) (c:Nat -> DV)
 | it (k:Nat)
 | yl (l:Nat)
 | mse (k m off n:Nat)
 | mri (k i:Nat)
 | cst (u:Value)
structure AI where
 blk:Nat
 off:Nat
 room:Nat
 val:Value
 foot:Nat -> Prop
def Fx (m:Nat) (f:Nat -> DV):Nat -> DV:=fun j=>((List.range m).map f).getD j .any
theorem Ru {m:Nat} {f:Nat -> DV} {j:Nat} (h:j<m):Fx m f j=f j:=by simp [Fx,h]
def LB:Nat:=140737488355328
def AJ (M:Nat -> Prop) (w:World):DV -> List AI -> Value -> Prop
 | .any,_,_=>True
 | .nils,_,v=>v= .slice none 0 0
 | .int k n,_,v=>v= .int k n
 | .bool b,_,v=>v= .bool b
 | .str s,_,v=>v= .string s
 | .ints l,_,v=>∃ (a:Option Addr) (cap:Nat),v= .slice a l.length cap/\ l.length<=cap/\ l.length<=LB/\
  ∀ j,j<l.length -> ∃ b o,a=some ⟨b,o,none⟩/\ ¬ M b/\ w.cell? ⟨b,o+j,none⟩=some (.int .i64 (l.getD j 0))
 | .bools l,_,v=>∃ (a:Option Addr) (cap:Nat),v= .slice a l.length cap/\ l.length<=cap/\ l.length<=LB/\
  ∀ j,j<l.length -> ∃ b o,a=some ⟨b,o,none⟩/\ ¬ M b/\ w.cell? ⟨b,o+j,none⟩=some (.bool (l.getD j false))
 | .sl m n f,_,v=>∃ (a:Option Addr) (cap:Nat),v= .slice a n cap/\ n<=cap/\ n<=LB/\
  ∀ i j,i<n -> j<m -> ∃ b o u,a=some ⟨b,o,none⟩/\ ¬ M b/\ w.cell? ⟨b,o+(i*m+j),none⟩=some u/\ AJ M w (f i j) [] u
 | .fp m f,_,v=>∃ b o,v= .pointer (some ⟨b,o,none⟩)/\ ∀ j,j<m -> ¬ M b/\ ∃ u,w.cell? ⟨b,o+j,none⟩=some u/\ AJ M w (f j) [] u
 | .agg m f,ρ,v=>∃ cs,v= .agg cs/\ cs.size=m/\ ∀ j,j<m -> ∃ u,cs[j]? =some u/\ AJ M w (f j) ρ u
 | .tup m f,ρ,v=>∃ cs,v= .tuple cs/\ cs.size=m/\ ∀ j,j<m -> ∃ u,cs[j]? =some u/\ AJ M w (f j) ρ u
 | .ref k j,ρ,v=>∃ p:AI,ρ[k]? =some p/\ v= .pointer (some ⟨p.blk,p.off+j,none⟩)
 | .msl k m off n,ρ,v=>∃ (p:AI) (cap:Nat),ρ[k]? =some p/\ v= .slice (some ⟨p.blk,p.off+off*m,none⟩) n cap/\ n<=cap/\ n<=LB/\ p.off+off*m+cap*m<=p.room
 | .mp k m i j,ρ,v=>∃ p:AI,ρ[k]? =some p/\ v= .pointer (some ⟨p.blk,p.off+(i*m+j),none⟩)
 | .fn g m c,ρ,v=>∃ lb,v= .func (.func g) #[] lb/\ lb.size=m/\ ∀ j,j<m -> ∃ u,lb[j]? =some u/\ AJ M w (c j) ρ u
 | .it k,ρ,v=>∃ p:AI,ρ[k]? =some p/\ v=p.val
 | .yl l,_,v=>v= .func (.yield l) #[] #[]
 | .cst u,_,v=>v=u/\ u.oneCell'=true
 | .mri k i,ρ,v=>∃ (p:AI) (vs:Array Value),ρ[k]? =some p/\ p.val= .tuple vs/\ vs[i]? =some v
 | .mse k m off n,ρ,v=>∃ (p:AI) (a:Option Addr) (cap:Nat),ρ[k]? =some p/\ v= .slice a n cap/\ n<=cap/\ n<=LB/\ (0<cap -> a=some ⟨p.blk,p.off+off*m,none⟩/\ p.off+off*m+cap*m<=p.room)
theorem HJ {M:Nat -> Prop} {w:World} {ρ:List AI} {m:Nat} {f:Nat -> DV} {j:Nat} {v:Value} (h:j<m) (hr:AJ M w (f j) ρ v):AJ M w (Fx m f j) ρ v:=by rw [Ru h];exact hr
def AS (w:World) (p:AI) (n:Nat) (R:Nat -> Value -> Prop):Prop:=
 p.foot=(fun b=>b=p.blk)/\ ∃ cs t,w.heap[p.blk]? =some (.cells cs t (0,0))/\ p.off+n<=cs.size/\ p.room<=cs.size/\ ∀ j,j<n -> ∃ u,cs[p.off+j]? =some u/\ R j u
/-! ### Rows that an object owns-/
def Il (w:World) (F:Nat -> Prop) (u:Value) (L:List Int):Prop:=
 (L= []/\ u= .slice none 0 0)∨∃ (q:AI) (cap:Nat),u= .slice (some ⟨q.blk,q.off,none⟩) L.length cap/\ L.length<=cap/\ q.off+cap<=q.room/\ L.length<=LB/\ F q.blk/\ AS w q L.length fun j x=>x= .int .i64 (L.getD j 0)
def Ew:Value -> Option Nat
 | .slice (some a) _ _=>some a.block
 | _=>none
theorem Il.blk {w:World} {F:Nat -> Prop} {u:Value} {L:List Int} {b:Nat} (h:Il w F u L) (hb:Ew u=some b):F b/\ b<w.heap.size:=by
 rcases h with ⟨_,rfl⟩ | ⟨q,cap,rfl,_,_,_,h5,_,cs,t,h6,_⟩
 ·cases hb
 ·cases hb;exact ⟨h5,(yE.1 h6).1⟩
theorem Il.out {w w':World} {F F':Nat -> Prop} {u:Value} {L:List Int} (h:Il w F u L) (hb: ∀ b,F b -> Ew u=some b -> b<w.heap.size -> w'.heap[b]? =w.heap[b]?) (hF: ∀ b,F b -> Ew u=some b -> F' b):Il w' F' u L:=by
 rcases h with h | ⟨q,cap,h1,h2,h3,h4,h5,h6⟩
 ·exact .inl h
 ·refine .inr ⟨q,cap,h1,h2,h3,h4,hF _ h5 (by rw [h1];rfl),?_⟩;obtain ⟨g1,cs,t,g2,g3⟩:=h6;exact ⟨g1,cs,t,(hb _ h5 (by rw [h1];rfl) (yE.1 g2).1).trans g2,g3⟩
structure Dy (w:World) (p:AI) (f:Int -> List Int) (C4:Option (Int×List Int×Bool)) (u:Value) (es:Array MapEntry) (AR:Nat):Prop where
 val:p.val= .tuple #[Value.map (some p.blk),u]
 blk:w.heap[p.blk]? =some (.map es AR)
 own:p.foot p.blk
 key: ∀ e∈es.toList,∃ k,e.key= .int .i64 k/\ ((∀ L,C4≠some (k,L,true)) -> Il w (fun b=>p.foot b/\ b≠p.blk) e.val (f k))
 no: ∀ k,(∀ e∈es.toList,e.key≠.int .i64 k) -> f k= []
 nd:(es.toList.map (·.key)).Nodup
 apart: ∀ e∈es.toList,∀ e'∈es.toList,∀ b,Ew e.val=some b -> Ew e'.val=some b -> e.key=e'.key
 born: ∀ e∈es.toList,e.born<AR
 stamps:(es.toList.map (·.born)).Nodup
 inHand: ∀ k L g,C4=some (k,L,g) -> Il w (fun b=>p.foot b/\ b≠p.blk) u L/\ ∀ e∈es.toList,∀ b,Ew u=some b -> Ew e.val=some b -> e.key= .int .i64 k
theorem Dy.out {w w':World} {p:AI} {f:Int -> List Int} {C4:Option (Int×List Int×Bool)} {u:Value} {es:Array MapEntry} {AR:Nat} (h:Dy w p f C4 u es AR) (hb: ∀ b,p.foot b -> b<w.heap.size -> w'.heap[b]? =w.heap[b]?):Dy w' p f C4 u es AR:=
 { h with
  blk:=(hb _ h.own (yE.1 h.blk).1).trans h.blk
  key:=fun e he=>let ⟨k,h1,h2⟩:=h.key e he;⟨k,h1,fun hh=>(h2 hh).out (fun b hf _ hl=>hb b hf.1 hl) fun _ h _=>h⟩
  inHand:=fun k L g e=>let ⟨h1,h2⟩:=h.inHand k L g e;⟨h1.out (fun b hf _ hl=>hb b hf.1 hl) fun _ h _=>h,h2⟩ }
/-! ### Maps:sets of keys-/
abbrev KS:=List (List Int)
def A4:List Int -> Value
 | [a]=>.int .i64 a
 | l=>.agg (l.map fun a=>.int .i64 a).toArray
theorem dt: ∀ {a b:List Int},A4 a=A4 b -> a=b:=by
 have ai: ∀ {l m:List Int},(l.map fun a=>Value.int .i64 a).toArray=(m.map fun a=>Value.int .i64 a).toArray -> l=m:=fun {l m} h=>by
  have h:=Array.toList_inj.2 h;simp only at h;exact List.map_inj_right (fun x y e=>by cases e;rfl) |>.1 h
 intro a b h
 match a,b with
 | [x],[y]=>cases h;rfl
 | [],[]=>rfl
 | [x],[]=>cases h
 | [],[y]=>cases h
 | [x],y::y'::m=>cases h
 | x::x'::l,[y]=>cases h
 | x::x'::l,[]=>exact ai (Value.agg.inj h)
 | [],y::y'::m=>exact ai (Value.agg.inj h)
 | x::x'::l,y::y'::m=>exact ai (Value.agg.inj h)
structure EI (w:World) (b n:Nat) (l:KS) (es:Array MapEntry) (AR:Nat):Prop where
 blk:w.heap[b]? =some (.map es AR)
 keys:(es.toList.map (·.key)).Perm (l.map A4)
 nd:l.Nodup
 len: ∀ y∈l,y.length=n
 tru: ∀ e∈es.toList,e.val= .bool true
 born: ∀ e∈es.toList,e.born<AR
 stamps:(es.toList.map (·.born)).Nodup
theorem EI.out {w w':World} {b n:Nat} {l:KS} {es:Array MapEntry} {AR:Nat} (h:EI w b n l es AR) (hb:w'.heap[b]? =w.heap[b]?):EI w' b n l es AR:={ h with blk:=hb.trans h.blk }
inductive MX where
 | set (n:Nat) (l:KS)
 | sets (n:Nat) (ls:List (Option KS)) (lk:Option (Nat×Nat×Array MapEntry×Nat))
 | mit (n mb:Nat) (es:Array MapEntry) (AR:Nat) (rem:KS) (EE:Option (List Int))
 | rows (f:Int -> List Int) (C4:Option (Int×List Int×Bool))
structure EY (w:World) (p:AI) (n:Nat) (ls:List (Option KS)) (lk:Option (Nat×Nat×Array MapEntry×Nat)) (vs:Array Value):Prop where
 val:p.val= .tuple vs
 size:vs.size=ls.length
 row: ∃ cs t,w.heap[p.blk]? =some (.cells cs t (0,0))/\ p.off+ls.length<=cs.size/\ p.room<=cs.size/\ ∀ j,j<ls.length -> cs[p.off+j]? =vs[j]?
 blk:p.foot p.blk
 has: ∀ (j:Nat) (l:KS),ls[j]? =some (some l) -> ∃ b:Nat,vs[j]? =some (Value.map (some b))/\ b≠p.blk/\ p.foot b/\ ∃ es AR,EI w b n l es AR/\ ∀ x,lk=some x -> x.1=j -> x.2=(b,es,AR)
 nil: ∀ (j:Nat),ls[j]? =some none -> vs[j]? =some (Value.map none)
 foot: ∀ b,p.foot b -> b=p.blk∨∃ (j:Nat) (l:KS),ls[j]? =some (some l)/\ vs[j]? =some (Value.map (some b))
 inj: ∀ (i j b:Nat),vs[i]? =some (Value.map (some b)) -> vs[j]? =some (Value.map (some b)) -> i=j
theorem EY.out {w w':World} {p:AI} {n:Nat} {ls:List (Option KS)} {lk:Option (Nat×Nat×Array MapEntry×Nat)} {vs:Array Value} (h:EY w p n ls lk vs) (hb: ∀ b,p.foot b -> b<w.heap.size -> w'.heap[b]? =w.heap[b]?):EY w' p n ls lk vs:=by
 have BZ: ∀ {b o},p.foot b -> w.heap[b]? =some o -> w'.heap[b]? =some o:=fun {b o} hf ho=>(hb b hf (yE.1 ho).1).trans ho
 refine { h with row:=?_,has:=fun j l hl=>?_ }
 ·obtain ⟨cs,t,h1,h2⟩:=h.row;exact ⟨cs,t,BZ h.blk h1,h2⟩
 ·obtain ⟨b,h1,h2,h3,es,AR,h4,h5⟩:=h.has j l hl;exact ⟨b,h1,h2,h3,es,AR,{ h4 with blk:=BZ h3 h4.blk },h5⟩
def Ko (w:World) (p:AI):MX -> Prop
 | .set n l=>p.val=Value.map (some p.blk)/\ p.foot=(fun b=>b=p.blk)/\ ∃ es AR,EI w p.blk n l es AR
 | .sets n ls lk=>∃ vs,EY w p n ls lk vs
 | .mit n mb es AR rem EE=>(∀ x,(x∈rem∨EE=some x) -> x.length=n)/\ p.val= .pointer (some ⟨p.blk,0,none⟩)/\ p.foot=(fun b=>b=p.blk)/\ ∃ seen,w.heap[p.blk]? =some (.mapIter (some mb) AR seen AR)/\ ((leftOf es seen).toList.map (·.key)).Perm (rem.map A4)/\
  ∀ x,EE=some x -> ∃ e∈es.toList,e.key=A4 x/\ seen.back? =some e.born
 | .rows f C4=>∃ u es AR,Dy w p f C4 u es AR
theorem Ko.out {w w':World} {p:AI}: ∀ {x:MX},Ko w p x -> (∀ b,p.foot b -> b<w.heap.size -> w'.heap[b]? =w.heap[b]?) -> Ko w' p x
 | .set n l,⟨h1,h2,es,AR,h3⟩,hb=>⟨h1,h2,es,AR,h3.out (hb _ (by rw [h2]) (yE.1 h3.blk).1)⟩
 | .sets n ls lk,⟨vs,h⟩,hb=>⟨vs,h.out hb⟩
 | .rows f C4,⟨u,es,AR,h⟩,hb=>⟨u,es,AR,h.out hb⟩
 | .mit n mb es AR rem EE,⟨h0,h1,h2,seen,h3,h4⟩,hb=>⟨h0,h1,h2,seen,(hb _ (by rw [h2]) (yE.1 h3).1).trans h3,h4⟩
inductive DO where
 | cells (l:List DV)
 | ints (l:List Int)
 | bools (l:List Bool)
 | arr (m n:Nat) (f:Nat -> Nat -> DV)
 | iter (encs:List (Array Value))
 | mo (x:MX)
abbrev DH:=List (Option DO)
def MO (h:DH) (ρ:List AI) (b:Nat):Prop:=∃ (k:Nat) (o:DO) (p:AI),h[k]? =some (some o)/\ ρ[k]? =some p/\ p.foot b
def MS (N:Nat -> Prop) (h:DH) (ρ:List AI) (b:Nat):Prop:=N b∨MO h ρ b
def Cp (P:Program) (M:Nat -> Prop) (w:World) (ρ:List AI) (p:AI):DO -> Prop
 | .cells l=>AS w p l.length fun j u=>AJ M w (l.getD j .any) ρ u
 | .ints l=>AS w p l.length fun j u=>u= .int .i64 (l.getD j 0)
 | .bools l=>AS w p l.length fun j u=>u= .bool (l.getD j false)
 | .arr m n f=>AS w p (n*m) fun j u=>AJ M w (f (j/m) (j % m)) [] u
 | .iter encs=>∃ gf lb Rd,(p.val= .func (.func gf) #[] lb/\ ∀ args W,(callFunc gf args).run P W= .ok (.enter gf args) W)/\ H9 P gf lb encs p.foot Rd w/\ (∀ b,Rd b -> ¬ M b/\ b<w.heap.size)/\ ∀ b,p.foot b -> b<w.heap.size
 | .mo x=>Ko w p x
def fR:Obj -> Bool
 | .cells .. =>true
 | .map .. =>true
 | .mapIter .. =>true
 | _=>false
abbrev Dh (w:World) (b:Nat):Prop:=∃ (c:Obj) (_:fR c=true) (_:Unit),w.heap[b]? =some c
theorem Dh.cells {w:World} {b:Nat} {c:Array Value} {t:TypeId} {z:Nat×Nat} (h:w.heap[b]? =some (.cells c t z)):Dh w b:=⟨_,rfl,(),h⟩
structure Au where
 ng:Nat
 gi:World -> Prop
 st: ∀ w w',gi w -> AM (fun b=>ng<=b) w w' -> gi w'
 lo: ∀ w,gi w -> ng<=w.heap.size
structure BK (P:Program) (Γ:Au) (N:Nat -> Prop) (h:DH) (ρ:List AI) (w:World):Prop where
 len:ρ.length=h.length
 obj: ∀ (k:Nat) (o:DO),h[k]? =some (some o) -> ∃ p:AI,ρ[k]? =some p/\ Cp P (MS N h ρ) w ρ p o
 cel: ∀ (k:Nat) (o:DO) (p:AI) (b:Nat),h[k]? =some (some o) -> ρ[k]? =some p -> p.foot b -> Γ.ng<=b/\ ¬ N b/\ Dh w b
 dis: ∀ (k k':Nat) (o o':DO) (p p':AI) (b:Nat),k≠k' -> h[k]? =some (some o) -> h[k']? =some (some o') -> ρ[k]? =some p -> ρ[k']? =some p' -> p.foot b -> p'.foot b -> False
 nlt: ∀ b,N b -> b<w.heap.size/\ Γ.ng<=b
 gi:Γ.gi w
structure St where
 fr:List DV
 h:DH
def B1 (M:Nat -> Prop) (w:World) (ρ:List AI) (fr:List DV) (t:Array Value):Prop:=
 fr.length=t.size/\ ∀ i,i<fr.length -> AJ M w (fr.getD i .any) ρ (t.getD i undef)
structure AX (P:Program) (Γ:Au) (N:Nat -> Prop) (S:St) (ρ:List AI) (a:Act) (w:World):Prop where
 hr:BK P Γ N S.h ρ w
 fr:B1 (MS N S.h ρ) w ρ S.fr a.tmps
structure A8 (h:DH) (ρ:List AI) (w:World) (h':DH) (ρ':List AI) (w':World):Prop where
 upd:AM (MO h ρ) w w'
 grow: ∀ b,MO h' ρ' b -> MO h ρ b∨w.heap.size<=b
theorem A8.refl (h:DH) (ρ:List AI) (w:World):A8 h ρ w h ρ w:=⟨AM.refl _ _,fun _ h=>.inl h⟩
theorem A8.trans {h h' Ql:DH} {ρ ρ' ρ'':List AI} {w w' CI:World} (x:A8 h ρ w h' ρ' w') (y:A8 h' ρ' w' Ql ρ'' CI):A8 h ρ w Ql ρ'' CI:=
 ⟨x.upd.comp y.upd fun i hi hm=>(x.grow i hm).resolve_right (by omega),fun b hb=>(y.grow b hb).elim (fun h=>x.grow b h) (fun h=>.inr (yO x.upd.size h))⟩
structure EH (h:DH) (ρ:List AI) (w:World) (h':DH) (ρ':List AI) (w':World):Prop where
 st:A8 h ρ w h' ρ' w'
 pl: ∀ (k:Nat) (p:AI),ρ[k]? =some p -> ρ'[k]? =some p
theorem EH.refl (h:DH) (ρ:List AI) (w:World):EH h ρ w h ρ w:=⟨A8.refl _ _ _,fun _ _ h=>h⟩
theorem EH.trans {h h' Ql:DH} {ρ ρ' ρ'':List AI} {w w' CI:World} (x:EH h ρ w h' ρ' w') (y:EH h' ρ' w' Ql ρ'' CI):EH h ρ w Ql ρ'' CI:=
 ⟨x.st.trans y.st,fun k p hk=>y.pl k p (x.pl k p hk)⟩
structure BM (M:Nat -> Prop) (w:World) (ρ:List AI) (M':Nat -> Prop) (w':World) (ρ':List AI):Prop where
 blk: ∀ b,b<w.heap.size -> ¬ M b -> (∃ c t z,w.heap[b]? =some (.cells c t z)) -> w'.heap[b]? =w.heap[b]?
 m: ∀ b,M' b -> M b∨w.heap.size<=b
 pl: ∀ (k:Nat) (p:AI),ρ[k]? =some p -> ρ'[k]? =some p
theorem wv {w:World} {b o:Nat} {u:Value} (h:w.cell? ⟨b,o,none⟩=some u): ∃ c t z,w.heap[b]? =some (.cells c t z):=by
 unfold World.cell? at h;split at h
 ·exact ⟨_,_,_,by assumption⟩
 ·cases h
theorem BM.nil {M M':Nat -> Prop} {w w':World} {ρ ρ':List AI} (h:BM M w ρ M' w' ρ'):BM M w [] M' w' []:=⟨h.blk,h.m,fun k p hk=>by simp at hk⟩
theorem iH {w w':World} {b o:Nat} (h:w'.heap[b]? =w.heap[b]?):w'.cell? ⟨b,o,none⟩=w.cell? ⟨b,o,none⟩:=by
 unfold World.cell?;rw [h]
theorem BM.cell {M M':Nat -> Prop} {w w':World} {ρ ρ':List AI} (h:BM M w ρ M' w' ρ') {b o:Nat} {u:Value} (hM: ¬ M b) (hc:w.cell? ⟨b,o,none⟩=some u):w'.cell? ⟨b,o,none⟩=some u/\ ¬ M' b:=by
 have AK:b<w.heap.size:=zf w ⟨b,o,none⟩ hc;exact ⟨(iH (h.blk b AK hM (wv hc))).trans hc,fun hm=>(h.m b hm).elim hM (by omega)⟩
theorem AJ.out {M M':Nat -> Prop} {w w':World}: ∀ (d:DV) {ρ ρ':List AI} {v:Value},BM M w ρ M' w' ρ' -> AJ M w d ρ v -> AJ M' w' d ρ' v:=by
 intro d
 induction d with
 | any=>intros;trivial
 | nils=>intro ρ ρ' v _ h;exact h
 | int k n=>intro ρ ρ' v _ h;exact h
 | bool b=>intro ρ ρ' v _ h;exact h
 | str s=>intro ρ ρ' v _ h;exact h
 | ints l=>
  rintro ρ ρ' v H ⟨a,cap,e,h1,h2,h3⟩;refine ⟨a,cap,e,h1,h2,fun j hj=>?_⟩;obtain ⟨b,o,ha,hM,hc⟩:=h3 j hj;obtain ⟨g1,g2⟩:=H.cell hM hc;exact ⟨b,o,ha,g2,g1⟩
 | bools l=>
  rintro ρ ρ' v H ⟨a,cap,e,h1,h2,h3⟩;refine ⟨a,cap,e,h1,h2,fun j hj=>?_⟩;obtain ⟨b,o,ha,hM,hc⟩:=h3 j hj;obtain ⟨g1,g2⟩:=H.cell hM hc;exact ⟨b,o,ha,g2,g1⟩
 | sl m n f ih=>
  rintro ρ ρ' v H ⟨a,cap,e,h1,h2,h3⟩;refine ⟨a,cap,e,h1,h2,fun i j hi hj=>?_⟩;obtain ⟨b,o,u,ha,hM,hc,hr⟩:=h3 i j hi hj;obtain ⟨g1,g2⟩:=H.cell hM hc;exact ⟨b,o,u,ha,g2,g1,ih i j H.nil hr⟩
 | fp m f ih=>
  rintro ρ ρ' v H ⟨b,o,e,h⟩;refine ⟨b,o,e,fun j hj=>?_⟩;obtain ⟨hM,u,hc,hr⟩:=h j hj;obtain ⟨g1,g2⟩:=H.cell hM hc;exact ⟨g2,u,g1,ih j H.nil hr⟩
 | agg m f ih=>
  rintro ρ ρ' v H ⟨cs,e,hs,h⟩;exact ⟨cs,e,hs,fun j hj=>let ⟨u,h1,h2⟩:=h j hj;⟨u,h1,ih j H h2⟩⟩
 | tup m f ih=>
  rintro ρ ρ' v H ⟨cs,e,hs,h⟩;exact ⟨cs,e,hs,fun j hj=>let ⟨u,h1,h2⟩:=h j hj;⟨u,h1,ih j H h2⟩⟩
 | ref k j=>rintro ρ ρ' v H ⟨p,h,e⟩;exact ⟨p,H.pl _ _ h,e⟩
 | msl k m off n=>rintro ρ ρ' v H ⟨p,cap,h,r⟩;exact ⟨p,cap,H.pl _ _ h,r⟩
 | mp k m i j=>rintro ρ ρ' v H ⟨p,h,e⟩;exact ⟨p,H.pl _ _ h,e⟩
 | fn g m c ih=>
  rintro ρ ρ' v H ⟨cs,e,hs,h⟩;exact ⟨cs,e,hs,fun j hj=>let ⟨u,h1,h2⟩:=h j hj;⟨u,h1,ih j H h2⟩⟩
 | it k=>rintro ρ ρ' v H ⟨p,h,e⟩;exact ⟨p,H.pl _ _ h,e⟩
 | yl l=>intro ρ ρ' v _ h;exact h
 | mse k m off n=>rintro ρ ρ' v H ⟨p,a,cap,h,r⟩;exact ⟨p,a,cap,H.pl _ _ h,r⟩
 | mri k i=>rintro ρ ρ' v H ⟨p,vs,h,r⟩;exact ⟨p,vs,H.pl _ _ h,r⟩
 | cst u=>intro ρ ρ' v _ h;exact h
theorem B1.out {M M':Nat -> Prop} {w w':World} {ρ ρ':List AI} {fr:List DV} {t:Array Value} (h:B1 M w ρ fr t) (H:BM M w ρ M' w' ρ'):B1 M' w' ρ' fr t:=
 ⟨h.1,fun i hi=>(h.2 i hi).out _ H⟩
theorem B1.at {M:Nat -> Prop} {w:World} {ρ:List AI} {fr:List DV} {t:Array Value} (h:B1 M w ρ fr t) (i:Nat):AJ M w (fr.getD i .any) ρ (t.getD i undef):=by
 rcases zd i fr.length with hi | hi
 ·exact h.2 i hi
 ·have:fr.getD i .any= .any:=by rw [u8,yx hi];rfl
  rw [this];trivial
theorem B1.set {M:Nat -> Prop} {w:World} {ρ:List AI} {fr:List DV} {t:Array Value} (h:B1 M w ρ fr t) (i:Nat) {d:DV} {v:Value} (hv:AJ M w d ρ v):B1 M w ρ (fr.set i d) (t.setIfInBounds i v):=by
 refine ⟨by simp [h.1],fun j hj=>?_⟩;rw [yp] at hj;have BI:j<t.size:=by rw [←h.1];exact hj
 have h0:=h.2 j hj;simp only [u8,zU,ym,zb] at h0 ⊢
 by_cases e:i=j
 ·subst e;simp [hj,BI,hv]
 ·rw [yM e,yM e];exact h0
theorem H9.later {P:Program} {g:Nat} {lb:Array Value} {encs:List (Array Value)} {G0 Rd:Nat -> Prop} {w w':World} (h:H9 P g lb encs G0 Rd w) {S:Nat -> Prop} (hu:AM S w w') (hs: ∀ b,b<w.heap.size -> S b -> ¬ (G0 b∨Rd b)):H9 P g lb encs G0 Rd w':=
 fun l J Jx G W h1 h2 h3=>h l J Jx G W h1 h2 (hu.mono (fun i hi hx=>hs i hi hx) |>.trans h3)
theorem AS.out {w w':World} {p:AI} {n:Nat} {R R':Nat -> Value -> Prop} (h:AS w p n R) (hb:w'.heap[p.blk]? =w.heap[p.blk]?) (hR: ∀ j u,j<n -> R j u -> R' j u):AS w' p n R':=by
 obtain ⟨h1,cs,t,h2,h3,h4,h5⟩:=h;exact ⟨h1,cs,t,hb.trans h2,h3,h4,fun j hj=>let ⟨u,g1,g2⟩:=h5 j hj;⟨u,g1,hR j u hj g2⟩⟩
theorem AS.cell {w:World} {p:AI} {n:Nat} {R:Nat -> Value -> Prop} (h:AS w p n R) {j:Nat} (hj:j<n): ∃ u,w.cell? ⟨p.blk,p.off+j,none⟩=some u/\ R j u:=by
 obtain ⟨h1,cs,t,h2,h3,h4,h5⟩:=h;obtain ⟨u,g1,g2⟩:=h5 j hj;exact ⟨u,by unfold World.cell?;simp [h2,g1],g2⟩
theorem AS.frozen {w:World} {p:AI} {n:Nat} {R:Nat -> Value -> Prop} (h:AS w p n R) (o:Nat):w.frozen? ⟨p.blk,o,none⟩=false:=by
 obtain ⟨h1,cs,t,h2,_⟩:=h;unfold World.frozen?;simp [h2]
theorem Cp.out {P:Program} {M M':Nat -> Prop} {w w':World} {ρ ρ':List AI} {p:AI} {o:DO} (h:Cp P M w ρ p o) (H:BM M w ρ M' w' ρ') {S:Nat -> Prop} (hu:AM S w w') (hS: ∀ b,S b -> M b) (hf: ∀ b,b<w.heap.size -> p.foot b -> ¬ S b):Cp P M' w' ρ' p o:=by
 have hb: ∀ {n R},AS w p n R -> w'.heap[p.blk]? =w.heap[p.blk]? :=fun {n R} hr=>by
  obtain ⟨h1,cs,t,h2,_⟩:=hr;have AK:=(yE.1 h2).1;exact hu.block _ AK (hf _ AK (by rw [h1]))
 cases o with
 | cells l=>exact AS.out h (hb h) fun j u _ hr=>AJ.out _ H hr
 | ints l=>exact AS.out h (hb h) fun j u _ hr=>hr
 | bools l=>exact AS.out h (hb h) fun j u _ hr=>hr
 | arr m n f=>exact AS.out h (hb h) fun j u _ hr=>AJ.out _ H.nil hr
 | iter encs=>
  obtain ⟨gf,lb,Rd,h1,h2,h3,h4⟩:=h;refine ⟨gf,lb,Rd,h1,h2.later hu (fun b hb hs hx=>?_),fun b hb=>⟨fun hm=>(H.m b hm).elim (h3 b hb).1 (by have:=(h3 b hb).2;omega),yN (h3 b hb).2 hu.size⟩,fun b hb=>yN (h4 b hb) hu.size⟩;rcases hx with hx | hx
  ·exact hf b hb hx hs
  ·exact (h3 b hx).1 (hS b hs)
 | mo x=>exact Ko.out h fun b hb AK=>hu.block b AK (hf b AK hb)
section
variable {P:Program} {Γ:Au} {N:Nat -> Prop} {h:DH} {ρ:List AI} {w:World}
theorem MO.unset {k:Nat} {b:Nat} (hm:MO (h.set k none) ρ b):MO h ρ b:=by
 obtain ⟨i,o,p,h1,h2,h3⟩:=hm;rw [ym] at h1
 by_cases e:k=i
 ·rw [yC e] at h1;split at h1 <;> cases h1
 ·rw [yM e] at h1;exact ⟨i,o,p,h1,h2,h3⟩
theorem BK.lt (H:BK P Γ N h ρ w) {b:Nat} (hb:MS N h ρ b):b<w.heap.size:=by
 rcases hb with hb | ⟨k,o,p,h1,h2,h3⟩
 ·exact (H.nlt b hb).1
 ·obtain ⟨_,_,c,t,z,h4⟩:=H.cel k o p b h1 h2 h3;exact (yE.1 h4).1
theorem BK.low (H:BK P Γ N h ρ w) {b:Nat} (hb:MO h ρ b):Γ.ng<=b:=by
 obtain ⟨k,o,p,h1,h2,h3⟩:=hb;exact (H.cel k o p b h1 h2 h3).1
theorem BK.lt2 (H:BK P Γ N h ρ w) {b:Nat} (hb:MS N h ρ b):b<w.heap.size/\ Γ.ng<=b:=⟨H.lt hb,hb.elim (fun h=>(H.nlt b h).2) H.low⟩
theorem BK.ext (H:BK P Γ N h ρ w) {w':World} (hE:Ar w w'):BK P Γ N h ρ w':=by
 have O:BM (MS N h ρ) w ρ (MS N h ρ) w' ρ:=⟨fun b hb _ _=>zAs hE b hb,fun b h=>.inl h,fun _ _ h=>h⟩;refine ⟨H.len,fun k o hk=>?_,fun k o p b h1 h2 h3=>?_,H.dis,fun b hb=>⟨yN (H.nlt b hb).1 hE.size,(H.nlt b hb).2⟩,Γ.st _ _ H.gi (AM.ofExt hE)⟩
 ·obtain ⟨p,hp,ho⟩:=H.obj k o hk;exact ⟨p,hp,ho.out O (S:=fun _=>False) (AM.ofExt hE) (fun _ h=>h.elim) (fun _ _ _ h=>h)⟩
 ·obtain ⟨g1,g2,c,t,z,g3⟩:=H.cel k o p b h1 h2 h3;exact ⟨g1,g2,c,t,z,(zAs hE b (yE.1 g3).1).trans g3⟩
theorem BM.ext {M:Nat -> Prop} {w w':World} (ρ:List AI) (hE:Ar w w'):BM M w ρ M w' ρ:=⟨fun b hb _ _=>zAs hE b hb,fun b h=>.inl h,fun _ _ h=>h⟩
theorem A8.ext {w w':World} (hE:Ar w w'):A8 h ρ w h ρ w':=⟨AM.ofExt hE,fun _ h=>.inl h⟩
theorem C2 {α:Type} {l:List α} {x y:α} {k:Nat} (hk:(l++[x])[k]? =some y):(k<l.length/\ l[k]? =some y)∨(k=l.length/\ x=y):=by
 rcases Nat.lt_trichotomy k l.length with hl | hl | hl
 ·rw [yW hl] at hk;exact .inl ⟨hl,hk⟩
 ·subst hl;simp at hk;exact .inr ⟨rfl,hk⟩
 ·rw [yh (by omega)] at hk;have:k-l.length≠0:=by omega
  cases e:k-l.length with
  | zero=>omega
  | succ m=>rw [e] at hk;simp at hk
theorem De {α:Type} {l:List α} {x y:α} {k:Nat} (hk:l[k]? =some y):(l++[x])[k]? =some y:=by
 rw [yW (yJ.1 hk).1];exact hk
theorem MO.snoc (H:BK P Γ N h ρ w) {o:DO} {p:AI} {b:Nat} (hb:MO (h++[some o]) (ρ++[p]) b):MO h ρ b∨p.foot b:=by
 obtain ⟨k,o',p',h1,h2,h3⟩:=hb;rcases C2 h1 with ⟨hl,h1⟩ | ⟨hl,h1⟩
 ·rcases C2 h2 with ⟨_,h2⟩ | ⟨CU,_⟩
  ·exact .inl ⟨k,o',p',h1,h2,h3⟩
  ·rw [CU,H.len] at hl;omega
 ·rcases C2 h2 with ⟨CU,_⟩ | ⟨_,h2⟩
  ·rw [H.len,←hl] at CU;omega
  ·subst h2;exact .inr h3
theorem BK.snoc (H:BK P Γ N h ρ w) {w':World} (hE:Ar w w') {o:DO} {p:AI} (hf: ∀ b,p.foot b -> w.heap.size<=b/\ Dh w' b)
 (ho:Cp P (MS N (h++[some o]) (ρ++[p])) w' (ρ++[p]) p o):BK P Γ N (h++[some o]) (ρ++[p]) w':=by
 have O:BM (MS N h ρ) w ρ (MS N (h++[some o]) (ρ++[p])) w' (ρ++[p]):=by
  refine ⟨fun b hb _ _=>zAs hE b hb,fun b hb=>?_,fun k q hk=>De hk⟩;rcases hb with hb | hb
  ·exact .inl (.inl hb)
  ·rcases MO.snoc H hb with hb | hb
   ·exact .inl (.inr hb)
   ·exact .inr (hf b hb).1
 refine ⟨by simp [H.len],fun k o' hk=>?_,fun k o' p' b h1 h2 h3=>?_,fun k k' o1 o2 p1 p2 b AV h1 h2 h3 h4 h5 h6=>?_,fun b hb=>⟨yN (H.nlt b hb).1 hE.size,(H.nlt b hb).2⟩,Γ.st _ _ H.gi (AM.ofExt hE)⟩
 ·rcases C2 hk with ⟨hl,hk⟩ | ⟨hl,hk⟩
  ·obtain ⟨p',hp,hr⟩:=H.obj k o' hk;exact ⟨p',De hp,hr.out O (S:=fun _=>False) (AM.ofExt hE) (fun _ h=>h.elim) (fun _ _ _ h=>h)⟩
  ·cases hk;exact ⟨p,by rw [hl,←H.len];simp,ho⟩
 ·rcases C2 h1 with ⟨hl,h1⟩ | ⟨hl,h1⟩
  ·rcases C2 h2 with ⟨_,h2⟩ | ⟨CU,_⟩
   ·obtain ⟨g1,g2,c,t,z,g3⟩:=H.cel k o' p' b h1 h2 h3;exact ⟨g1,g2,c,t,z,(zAs hE b (yE.1 g3).1).trans g3⟩
   ·rw [CU,H.len] at hl;omega
  ·rcases C2 h2 with ⟨CU,_⟩ | ⟨_,h2⟩
   ·rw [H.len,←hl] at CU;omega
   ·subst h2;obtain ⟨g1,g2⟩:=hf b h3;exact ⟨yO (Γ.lo _ H.gi) g1,fun hn=>by have:=H.nlt b hn;omega,g2⟩
 ·have Eh: ∀ {k:Nat} {o':DO} {p':AI},(h++[some o])[k]? =some (some o') -> (ρ++[p])[k]? =some p' -> p'.foot b -> k≠h.length -> b<w.heap.size:=by
   intro k o' p' h1 h2 h3 AV;rcases C2 h1 with ⟨hl,h1⟩ | ⟨hl,h1⟩
   ·rcases C2 h2 with ⟨_,h2⟩ | ⟨CU,_⟩
    ·exact H.lt (.inr ⟨k,o',p',h1,h2,h3⟩)
    ·rw [CU,H.len] at hl;omega
   ·exact absurd hl AV
  have dJ: ∀ {k:Nat} {o':DO} {p':AI},(h++[some o])[k]? =some (some o') -> (ρ++[p])[k]? =some p' -> p'.foot b -> k=h.length -> w.heap.size<=b:=by
   intro k o' p' h1 h2 h3 he;rcases C2 h2 with ⟨CU,_⟩ | ⟨_,h2⟩
   ·rw [H.len,←he] at CU;omega
   ·subst h2;exact (hf b h3).1
  by_cases e1:k=h.length
  ·by_cases e2:k'=h.length
   ·exact AV (e1.trans e2.symm)
   ·have:=dJ h1 h3 h5 e1;have:=Eh h2 h4 h6 e2;omega
  ·by_cases e2:k'=h.length
   ·have:=Eh h1 h3 h5 e1;have:=dJ h2 h4 h6 e2;omega
   ·rcases C2 h1 with ⟨_,h1⟩ | ⟨hl,_⟩
    ·rcases C2 h2 with ⟨_,h2⟩ | ⟨hl,_⟩
     ·rcases C2 h3 with ⟨_,h3⟩ | ⟨hl,_⟩
      ·rcases C2 h4 with ⟨_,h4⟩ | ⟨hl,_⟩
       ·exact H.dis k k' o1 o2 p1 p2 b AV h1 h2 h3 h4 h5 h6
       ·rw [H.len] at hl;exact e2 hl
      ·rw [H.len] at hl;exact e1 hl
     ·exact e2 hl
    ·exact e1 hl
theorem BM.snoc (H:BK P Γ N h ρ w) {w':World} (hE:Ar w w') {o:DO} {p:AI} (hf: ∀ b,p.foot b -> w.heap.size<=b):BM (MS N h ρ) w ρ (MS N (h++[some o]) (ρ++[p])) w' (ρ++[p]):=by
 refine ⟨fun b hb _ _=>zAs hE b hb,fun b hb=>?_,fun k q hk=>De hk⟩;rcases hb with hb | hb
 ·exact .inl (.inl hb)
 ·rcases MO.snoc H hb with hb | hb
  ·exact .inl (.inr hb)
  ·exact .inr (hf b hb)
theorem A8.snoc (H:BK P Γ N h ρ w) {w':World} (hE:Ar w w') {o:DO} {p:AI} (hf: ∀ b,p.foot b -> w.heap.size<=b):A8 h ρ w (h++[some o]) (ρ++[p]) w':=
 ⟨AM.ofExt hE,fun b hb=>(MO.snoc H hb).imp id (hf b)⟩
theorem MO.set {k:Nat} {o o':DO} (hk:h[k]? =some (some o)) {b:Nat}:MO (h.set k (some o')) ρ b↔MO h ρ b:=by
 have hl:=(yJ.1 hk).1;constructor
 ·rintro ⟨i,o1,p,h1,h2,h3⟩;rw [ym] at h1
  by_cases e:k=i
  ·subst e;exact ⟨k,o,p,hk,h2,h3⟩
  ·rw [yM e] at h1;exact ⟨i,o1,p,h1,h2,h3⟩
 ·rintro ⟨i,o1,p,h1,h2,h3⟩
  by_cases e:k=i
  ·subst e;exact ⟨k,o',p,by simp [hl],h2,h3⟩
  ·exact ⟨i,o1,p,by rw [ym,yM e];exact h1,h2,h3⟩
theorem MS.set {k:Nat} {o o':DO} (hk:h[k]? =some (some o)) {b:Nat}:MS N (h.set k (some o')) ρ b↔MS N h ρ b:=by unfold MS;rw [MO.set hk]
theorem BK.write (H:BK P Γ N h ρ w) {w':World} {k:Nat} {o o':DO} {p:AI} (hk:h[k]? =some (some o)) (hp:ρ[k]? =some p) (hu:AM p.foot w w')
 (hc: ∀ b,p.foot b -> Dh w' b) (ho:Cp P (MS N (h.set k (some o')) ρ) w' ρ p o'):BK P Γ N (h.set k (some o')) ρ w':=by
 have hl:=(yJ.1 hk).1;have hM: ∀ b,p.foot b -> MS N h ρ b:=fun b hb=>.inr ⟨k,o,p,hk,hp,hb⟩
 have O:BM (MS N h ρ) w ρ (MS N (h.set k (some o')) ρ) w' ρ:=⟨fun b hb hm _=>hu.block b hb fun hx=>hm (hM b hx),fun b hb=>.inl ((MS.set hk).1 hb),fun _ _ h=>h⟩;have Hk: ∀ {i:Nat} {o1:DO},i≠k -> (h.set k (some o'))[i]? =some (some o1) -> h[i]? =some (some o1):=fun {i} {o1} AV h1=>by rw [ym,yM (zAe AV)] at h1;exact h1
 refine ⟨by simp [H.len],fun i o1 hi=>?_,fun i o1 p1 b h1 h2 h3=>?_,fun i i' o1 o2 p1 p2 b AV h1 h2 h3 h4 h5 h6=>?_,fun b hb=>⟨yN (H.nlt b hb).1 hu.size,(H.nlt b hb).2⟩,Γ.st _ _ H.gi (hu.mono fun b _ hb=>(H.cel k o p b hk hp hb).1)⟩
 ·by_cases e:i=k
  ·subst e;have:o'=o1:=by simp [hl] at hi;exact hi
   subst this;exact ⟨p,hp,ho⟩
  ·obtain ⟨p1,KF,hr⟩:=H.obj i o1 (Hk e hi);exact ⟨p1,KF,hr.out O hu hM fun b _ h1 h2=>H.dis i k o1 o p1 p b e (Hk e hi) hk KF hp h1 h2⟩
 ·by_cases e:i=k
  ·subst e;have:p=p1:=yK (hp.symm.trans h2);subst this;obtain ⟨g1,g2,_⟩:=H.cel i o p b hk hp h3;exact ⟨g1,g2,hc b h3⟩
  ·obtain ⟨g1,g2,c,t,z,g3⟩:=H.cel i o1 p1 b (Hk e h1) h2 h3;refine ⟨g1,g2,c,t,z,(hu.block b (yE.1 g3).1 fun hx=>H.dis i k o1 o p1 p b e (Hk e h1) hk h2 hp h3 hx).trans g3⟩
 ·have Eh: ∀ {i:Nat} {o1:DO},(h.set k (some o'))[i]? =some (some o1) -> ∃ o2,h[i]? =some (some o2):=fun {i} {o1} h1=>by
   by_cases e:i=k
   ·subst e;exact ⟨o,hk⟩
   ·exact ⟨o1,Hk e h1⟩
  obtain ⟨q1,g1⟩:=Eh h1;obtain ⟨q2,g2⟩:=Eh h2;exact H.dis i i' q1 q2 p1 p2 b AV g1 g2 h3 h4 h5 h6
theorem BM.write (hN:True) {w':World} {k:Nat} {o o':DO} {p:AI} (hk:h[k]? =some (some o)) (hp:ρ[k]? =some p) (hu:AM p.foot w w'):BM (MS N h ρ) w ρ (MS N (h.set k (some o')) ρ) w' ρ:=
 ⟨fun b hb hm _=>hu.block b hb fun hx=>hm (.inr ⟨k,o,p,hk,hp,hx⟩),fun b hb=>.inl ((MS.set hk).1 hb),fun _ _ h=>h⟩
theorem A8.write {w':World} {k:Nat} {o o':DO} {p:AI} (hk:h[k]? =some (some o)) (hp:ρ[k]? =some p) (hu:AM p.foot w w'):A8 h ρ w (h.set k (some o')) ρ w':=
 ⟨hu.mono fun b _ hb=>⟨k,o,p,hk,hp,hb⟩,fun b hb=>.inl ((MO.set hk).1 hb)⟩
end
end Go.Proofs.YtekkngkphejfcaaGreatDoor
namespace Go.Proofs.YtekkngkphejfcaaGreatDoor
abbrev yT:=@Nat.not_lt_zero
abbrev yg:=@decide_eq_true_eq
abbrev yv:=@Bool.not_eq_true'
abbrev zA:=@Go.run_underlying
abbrev zB:=@Nat.add_assoc
abbrev zO:=@Option.some.injEq
abbrev zg:=@Nat.mul_le_mul_right
abbrev zl:=@bne_iff_ne
abbrev zn:=@Prod.mk.injEq
abbrev zq:=@Nat.add_mul
abbrev zu:=@Nat.mul_comm
abbrev zAK:=@Array.eq_empty_of_size_eq_zero
abbrev zAO:=@Nat.add_zero
abbrev zAf:=@Nat.succ_mul
abbrev zAg:=@Nat.mod_eq_of_lt
abbrev zAh:=@Go.Sem.run_pure
end Go.Proofs.YtekkngkphejfcaaGreatDoor
namespace Go.Proofs.YtekkngkphejfcaaGreatDoor
open Go.RowKit
def E1:Value -> DV
 | .int k n=>.int k n
 | .bool b=>.bool b
 | .string s=>.str s
 | .slice none 0 0=>.nils
 | v=>if v.oneCell' then .cst v else .any
def AY (fr:List DV):Operand -> DV
 | .tmp t=>fr.getD t .any
 | .const v=>E1 v
 | .global _=>.any
 | .func f=>.fn f 0 fun _=>.any
def He (P:Program) (t:TypeId):Bool:=match P.underlying t with
 | some (.struct _)=>true
 | some (.array _ _)=>true
 | _=>false
def MB (P:Program) (t:TypeId) (m:Nat):Bool:=match P.underlying t with
 | some (.slice e)=>match P.info? e with
  | some i=>i.size==m&&m != 0
  | none=>false
 | _=>false
def F2 (P:Program) (t:TypeId):Bool:=(P.underlying t).isSome&&!He P t
def Re (P:Program) (t:TypeId) (m:Nat):Bool:=He P t&&(match P.info? t with | some i=>i.size==m | none=>false)
def Ud (P:Program) (s:TypeId) (f:Nat):Option (Nat×Nat):=match P.underlying s with
 | some (.struct fs)=>match fs[f]? with
  | some fd=>match P.info? fd.type with
   | some i=>if i.size=0 then none else some (fd.offset,i.size)
   | none=>none
  | none=>none
 | _=>none
def RX (P:Program) (t:TypeId):Option (Nat×Nat):=match P.underlying t with
 | some (.array n e)=>match P.info? e with
  | some i=>if n<=1 then none else some (n,i.size)
  | none=>none
 | _=>none
def XE (P:Program) (t:TypeId):Option IntKind:=match P.underlying t with
 | some (.int k)=>some k
 | _=>none
def U7 (op:BinOp) (k:IntKind) (a b:Int):Option (DV×Prop):=match op with
 | .add=>some (.int k (k.wrap (a+b)),True)
 | .sub=>some (.int k (k.wrap (a-b)),True)
 | .mul=>some (.int k (k.wrap (a*b)),True)
 | .and=>some (.int k (bits .and k a b),True)
 | .or=>some (.int k (bits .or k a b),True)
 | .xor=>some (.int k (bits .xor k a b),True)
 | .andNot=>some (.int k (bits .andNot k a b),True)
 | .eql=>some (.bool (a==b),True)
 | .neq=>some (.bool (a != b),True)
 | .lss=>some (.bool (decide (a<b)),True)
 | .leq=>some (.bool (decide (a<=b)),True)
 | .gtr=>some (.bool (decide (a>b)),True)
 | .geq=>some (.bool (decide (a>=b)),True)
 | _=>none
def N9 (P:Program) (t:TypeId):Nat:=match P.underlying t with
 | some .bool=>1
 | some (.slice _)=>2
 | _=>0
def U9 (bt:Nat) (op:BinOp) (x y:DV):Option (DV×Prop):=match op,x,y with
 | .eql,.bool a,.bool b=>if bt=1 then some (.bool (a==b),True) else none
 | .neq,.bool a,.bool b=>if bt=1 then some (.bool (!(a==b)),True) else none
 | .eql,.ints l,.nils=>if bt=2 then some (.bool false,0<l.length) else none
 | .eql,.bools l,.nils=>if bt=2 then some (.bool false,0<l.length) else none
 | .neq,.ints l,.nils=>if bt=2 then some (.bool true,0<l.length) else none
 | .shl,.int k a,.int _ b=>some (.int k (k.wrap (a*2 ^ b.toNat)),0<=b/\ b<=k.bits)
 | .shr,.int k a,.int _ b=>some (.int k (a/2 ^ b.toNat),0<=b/\ b<=k.bits)
 | .quo,.int k a,.int k' b=>if k=k' then some (.int k (k.wrap (a.tdiv b)),b≠0) else none
 | .rem,.int k a,.int k' b=>if k=k' then some (.int k (a.tmod b),b≠0) else none
 | op,.int k a,.int k' b=>if k=k' then U7 op k a b else none
 | _,_,_=>none
def Ld (P:Program) (S:St) (t:TypeId):DV -> Option (DV×Prop)
 | .fp m f=>if F2 P t then (if m=0 then none else some (f 0,True)) else if Re P t m then some (.agg m f,True) else none
 | .ref k j=>match S.h[k]? with
  | some (some (.cells l))=>if F2 P t then (if j<l.length then some (l.getD j .any,True) else none)
   else match P.info? t with
    | some i=>if He P t&&decide (j+i.size<=l.length) then some (.agg i.size (Fx i.size fun c=>l.getD (j+c) .any),True) else none
    | none=>none
  | _=>none
 | .mp k m i j=>match S.h[k]? with
  | some (some (.ints l))=>if F2 P t&&(m==1)&&(j==0) then some (.int .i64 (l.getD i 0),i<l.length) else none
  | some (some (.bools l))=>if F2 P t&&(m==1)&&(j==0) then some (.bool (l.getD i false),i<l.length) else none
  | some (some (.arr m' n f))=>if F2 P t&&(m==m')&&decide (j<m) then some (f i j,i<n)
   else if Re P t m&&(m==m')&&(j==0) then some (.agg m (f i),i<n) else none
  | some (some (.mo (.sets _ ls _)))=>if F2 P t&&(m==1)&&(j==0) then some (.mri k i,i<ls.length) else none
  | _=>none
 | _=>none
def XM (P:Program) (t:TypeId) (x:DV) (n:Int):Option (DV×Prop):=match x with
 | .ints l=>if MB P t 1 then some (.fp 1 (fun _=>.int .i64 (l.getD n.toNat 0)),0<=n/\ n<l.length) else none
 | .bools l=>if MB P t 1 then some (.fp 1 (fun _=>.bool (l.getD n.toNat false)),0<=n/\ n<l.length) else none
 | .sl m c f=>if MB P t m then some (.fp m (f n.toNat),0<=n/\ n<c) else none
 | .msl k m off c=>if MB P t m then some (.mp k m (off+n.toNat) 0,0<=n/\ n<c) else none
 | .ref k j=>match RX P t with
  | some (len,sz)=>some (.ref k (j+n.toNat*sz),0<=n/\ n<len)
  | none=>none
 | .mp k m i 0=>match RX P t with
  | some (len,sz)=>if sz=m then some (.mp k m (i+n.toNat) 0,0<=n/\ n<len) else none
  | none=>none
 | .fp m f=>match RX P t with
  | some (len,sz)=>if n.toNat*sz+sz<=m then some (.fp sz (Fx sz fun j=>f (n.toNat*sz+j)),0<=n/\ n<len) else none
  | none=>none
 | _=>none
def TS (P:Program) (t:TypeId) (d:DV):Option (DV×Prop):=match P.underlying t,d with
 | some (.slice _),.nils=>some (.int .i64 0,True)
 | some (.slice _),.ints l=>some (.int .i64 l.length,True)
 | some (.slice _),.bools l=>some (.int .i64 l.length,True)
 | some (.slice _),.sl _ n _=>some (.int .i64 n,True)
 | some (.slice _),.msl _ _ _ n=>some (.int .i64 n,True)
 | some .string,.str s=>some (.int .i64 s.size,True)
 | _,_=>none
def Wi (x y:DV):Option (DV×Prop):=match x,y with
 | .int k a,.int _ b=>some (.int k (if b>a then b else a),True)
 | _,_=>none
def Wh (x y:DV):Option (DV×Prop):=match x,y with
 | .int k a,.int _ b=>some (.int k (if b<a then b else a),True)
 | _,_=>none
def U4 (P:Program) (S:St) (b:Builtin) (args:List Operand) (jn:List TypeId):Option (DV×Prop):=match b with
 | .len=>match args with
  | [x]=>match jn with
   | [t]=>TS P t (AY S.fr x)
   | _=>none
  | _=>none
 | .max=>match args with
  | [x,y]=>Wi (AY S.fr x) (AY S.fr y)
  | _=>none
 | .min=>match args with
  | [x,y]=>Wh (AY S.fr x) (AY S.fr y)
  | _=>none
 | _=>none
def pop (P:Program) (S:St):Op -> Option (DV×Prop)
 | .move x=>some (AY S.fr x,True)
 | .assign x=>some (AY S.fr x,True)
 | .pick c a b=>match AY S.fr c with
  | .bool true=>some (AY S.fr a,True)
  | .bool false=>some (AY S.fr b,True)
  | _=>none
 | .load t x=>Ld P S t (AY S.fr x)
 | .binOp op t x y _=>U9 (N9 P t) op (AY S.fr x) (AY S.fr y)
 | .unOp op _ x=>match op,AY S.fr x with
  | .not,.bool b=>some (.bool !b,True)
  | .neg,.int k n=>some (.int k (k.wrap (0-n)),True)
  | .xor,.int k n=>some (.int k (bits .xor k (if k.signed then-1 else k.max) n),True)
  | _,_=>none
 | .convert s d x=>match P.underlying s,XE P d,AY S.fr x with
  | some _,some k,.int _ n=>some (.int k (k.wrap n),True)
  | _,_,_=>none
 | .nilCheck x=>match AY S.fr x with
  | .fp m f=>some (.fp m f,True)
  | .ref k j=>some (.ref k j,True)
  | .mp k m i j=>some (.mp k m i j,True)
  | .fn g m c=>some (.fn g m c,True)
  | _=>none
 | .fieldAddr s x f=>match Ud P s f with
  | some (off,sz)=>match AY S.fr x with
   | .fp m g=>if off+sz<=m then some (.fp sz (Fx sz fun j=>g (off+j)),True) else none
   | .ref k j=>some (.ref k (j+off),True)
   | .mp k m i j=>some (.mp k m i (j+off),True)
   | _=>none
  | none=>none
 | .indexAddr t x i=>match AY S.fr i with
  | .int _ n=>XM P t (AY S.fr x) n
  | _=>none
 | .extract x i=>match AY S.fr x with
  | .tup m f=>if i<m then some (f i,True) else none
  | _=>none
 | .makeFunc (.func g) first c=>if first.size=0 then some (.fn g c.size (Fx c.size fun j=>AY S.fr (c.getD j (.const undef))),True) else none
 | .call c=>match c.callee with
  | .builtin b=>U4 P S b c.args.toList c.argTypes.toList
  | _=>none
 | _=>none
section
variable {P:Program} {Γ:Au} {N:Nat -> Prop} {S:St} {ρ:List AI} {a:Act} {w:World}
theorem Ph {M:Nat -> Prop} (v:Value):AJ M w (E1 v) ρ v:=by
 unfold E1;split
 ·rfl
 ·rfl
 ·rfl
 ·rfl
 ·split
  ·exact ⟨rfl,by assumption⟩
  ·trivial
theorem Bj (R:AX P Γ N S ρ a w) (x:Operand):AJ (MS N S.h ρ) w (AY S.fr x) ρ (a.eval x):=by
 cases x with
 | tmp t=>exact R.fr.at t
 | const v=>exact Ph v
 | global g=>trivial
 | func f=>exact ⟨#[],rfl,rfl,fun j hj=>absurd hj (yT j)⟩
theorem O6 {t:TypeId} {d:TypeDesc} (h:P.underlying t=some d):(isAgg t).run P w= .ok (He P t) w:=by
 unfold isAgg He;rw [yU,zA h];simp only [Result.andThen,h];cases d <;> rfl
theorem IK {t:TypeId} {i:TypeInfo} (h:P.info? t=some i):(sizeOf t).run P w= .ok i.size w:=by
 rw [run_sizeOf w h];unfold Program.cellsOf;rw [h];rfl
theorem mO {t:TypeId} {b:Addr} {u:Value} (h:F2 P t=true) (hc:w.cell? b=some u):(loadVar t b).run P w= .ok u w:=by
 unfold F2 at h;simp only [yG,Option.isSome_iff_exists,yv] at h;obtain ⟨⟨d,hd⟩,hn⟩:=h;unfold loadVar;rw [yU,O6 hd];simp only [Result.andThen,hn,yt,zAA];simp [load,Sem.run,hc]
theorem dz {t:TypeId} (h:He P t=true): ∃ d,P.underlying t=some d:=by
 unfold He at h;split at h
 ·exact ⟨_,by assumption⟩
 ·exact ⟨_,by assumption⟩
 ·cases h
theorem mP {t:TypeId} {b o:Nat} {i:TypeInfo} (h:He P t=true) (hi:P.info? t=some i) (g:Nat -> Value) (hc: ∀ j,j<i.size -> w.cell? ⟨b,o+j,none⟩=some (g j)):
 (loadVar t ⟨b,o,none⟩).run P w= .ok (.agg ((List.range i.size).map g).toArray) w:=by
 obtain ⟨d,hd⟩:=dz h;unfold loadVar;rw [yU,O6 hd];simp only [Result.andThen,h,zE];rw [yU,IK hi];simp only [Result.andThen]
 rw [yU,run_loadCells w ⟨b,o,none⟩ i.size g (fun j hj=>by
  have:=hc j hj;unfold Addr.add
  by_cases e:j=0
  ·subst e;simpa using this
  ·simpa [e] using this)]
 simp [Result.andThen]
def Keep (N:Nat -> Prop) (w W:World):Prop:=∀ b o u,¬ N b -> w.cell? ⟨b,o,none⟩=some u -> W.cell? ⟨b,o,none⟩=some u
theorem Keep.ofExt {N:Nat -> Prop} {w W:World} (h:Ar w W):Keep N w W:=fun _ _ _ _ hc=>h.cell hc
def Yl (P:Program) (N:Nat -> Prop) (w:World) (M:Nat -> Prop) (ρ:List AI) (s:Sem Value) (d:DV):Prop:=∃ v,(∀ W,Keep N w W -> s.run P W= .ok v W)/\ AJ M w d ρ v
theorem Mp {k:Nat} {o:DO} {p:AI} {n:Nat} {Rw:Nat -> Value -> Prop} (R:AX P Γ N S ρ a w) (hk:S.h[k]? =some (some o)) (hp:ρ[k]? =some p) (hr:AS w p n Rw): ¬ N p.blk:=(R.hr.cel k o p p.blk hk hp (by rw [hr.1])).2.1
theorem UW {M:Nat -> Prop} {m:Nat} {f:Nat -> DV} {v:Value} (h:AJ M w (.fp m f) ρ v): ∃ b o,v= .pointer (some ⟨b,o,none⟩)/\ ∀ j,j<m -> ¬ M b/\ ∃ u,w.cell? ⟨b,o+j,none⟩=some u/\ AJ M w (f j) [] u:=h
theorem Ms {M:Nat -> Prop} {d:DV} {v:Value} (h:AJ M w d [] v):AJ M w d ρ v:=h.out d ⟨fun _ _ _ _=>rfl,fun _ h=>.inl h,fun k p hk=>by simp at hk⟩
theorem V2 {t:TypeId} {b:Addr} {W:World}:(Instr.loadAt t (.pointer (some b))).run P W=(loadVar t b).run P W:=rfl
theorem NB {M:Nat -> Prop} {t:TypeId} {b o:Nat} {u:Value} {d:DV} (hN: ¬ N b) (h1:F2 P t=true) (hc:w.cell? ⟨b,o,none⟩=some u) (hr:AJ M w d ρ u):Yl P N w M ρ (Instr.loadAt t (.pointer (some ⟨b,o,none⟩))) d:=
 ⟨u,fun W hE=>by rw [V2];exact mO h1 (hE _ _ _ hN hc),hr⟩
theorem Wp {M:Nat -> Prop} {t:TypeId} {i:TypeInfo} {b o:Nat} {f:Nat -> DV} (hN:0<i.size -> ¬ N b) (h1:He P t=true) (hi:P.info? t=some i) (h: ∀ j,j<i.size -> ∃ u,w.cell? ⟨b,o+j,none⟩=some u/\ AJ M w (f j) ρ u):
 Yl P N w M ρ (Instr.loadAt t (.pointer (some ⟨b,o,none⟩))) (.agg i.size f):=by
 obtain ⟨g,hg⟩: ∃ g:Nat -> Value,∀ j,j<i.size -> w.cell? ⟨b,o+j,none⟩=some (g j)/\ AJ M w (f j) ρ (g j):=by
  refine ⟨fun j=>(w.cell? ⟨b,o+j,none⟩).getD undef,fun j hj=>?_⟩;obtain ⟨u,h1,h2⟩:=h j hj;simp [h1,h2]
 refine ⟨_,fun W hE=>by rw [V2];exact mP h1 hi g fun j hj=>hE _ _ _ (hN (by omega)) (hg j hj).1,_,rfl,by simp,fun j hj=>?_⟩;exact ⟨g j,by simp [hj],(hg j hj).2⟩
theorem ZO {t:TypeId} {m:Nat} (h:Re P t m=true):He P t=true/\ ∃ i,P.info? t=some i/\ i.size=m:=by
 unfold Re at h;simp only [yG] at h;refine ⟨h.1,?_⟩;have h2:=h.2;split at h2
 ·exact ⟨_,by assumption,by simpa using h2⟩
 ·cases h2
theorem db (R:AX P Γ N S ρ a w) {t:TypeId} {x d:DV} {vc:Prop} {v:Value} (hx:AJ (MS N S.h ρ) w x ρ v) (h:Ld P S t x=some (d,vc)) (hv:vc):
 Yl P N w (MS N S.h ρ) ρ (Instr.loadAt t v) d:=by
 unfold Ld at h;split at h
 ·rename_i m f;obtain ⟨b,o,rfl,hc⟩:=UW hx;split at h
  ·rename_i h1;split at h
   ·cases h
   ·cases h;obtain ⟨hM,u,g1,g2⟩:=hc 0 (by omega);exact NB (fun h=>hM (.inl h)) h1 g1 (Ms g2)
  ·split at h
   ·rename_i h2;cases h;obtain ⟨h3,i,hi,rfl⟩:=ZO h2;exact Wp (fun hp h=>(hc 0 hp).1 (.inl h)) h3 hi fun j hj=>let ⟨_,u,g1,g2⟩:=hc j hj;⟨u,g1,Ms g2⟩
   ·cases h
 ·rename_i k j;obtain ⟨p,hp,rfl⟩:=hx;split at h
  ·rename_i l hk;obtain ⟨p',A6,hr⟩:=R.hr.obj k _ hk;have e:p'=p:=yK (A6.symm.trans hp);subst e;split at h
   ·rename_i h1;split at h
    ·rename_i hj;cases h;obtain ⟨u,g1,g2⟩:=AS.cell hr hj;exact NB (Mp R hk hp hr) h1 g1 g2
    ·cases h
   ·split at h
    ·rename_i i hi;split at h
     ·rename_i h2;cases h;simp only [yG,yg] at h2;refine Wp (fun _=>Mp R hk hp hr) h2.1 hi fun c hc=>?_
      obtain ⟨u,g1,g2⟩:=AS.cell hr (j:=j+c) (by omega);exact ⟨u,by rw [zB];exact g1,HJ hc g2⟩
     ·cases h
    ·cases h
  ·cases h
 ·rename_i k m i j;obtain ⟨p,hp,rfl⟩:=hx;split at h
  ·rename_i l hk;obtain ⟨p',A6,hr⟩:=R.hr.obj k _ hk;have e:p'=p:=yK (A6.symm.trans hp);subst e;split at h
   ·rename_i h1;cases h;simp only [yG,yk] at h1;obtain ⟨⟨h1,rfl⟩,rfl⟩:=h1;obtain ⟨u,g1,g2⟩:=AS.cell hr hv;exact NB (Mp R hk hp hr) h1 (by simpa using g1) g2
   ·cases h
  ·rename_i l hk;obtain ⟨p',A6,hr⟩:=R.hr.obj k _ hk;have e:p'=p:=yK (A6.symm.trans hp);subst e;split at h
   ·rename_i h1;cases h;simp only [yG,yk] at h1;obtain ⟨⟨h1,rfl⟩,rfl⟩:=h1;obtain ⟨u,g1,g2⟩:=AS.cell hr hv;exact NB (Mp R hk hp hr) h1 (by simpa using g1) g2
   ·cases h
  ·rename_i m' n f hk;obtain ⟨p',A6,hr⟩:=R.hr.obj k _ hk;have e:p'=p:=yK (A6.symm.trans hp);subst e
   have XK: ∀ {i j:Nat},i<n -> j<m' -> i*m'+j<n*m':=fun {i j} hi hj=>by
    have:(i+1)*m'<=n*m':=zg _ hi;rw [zAf] at this;omega
   have dv: ∀ {i j:Nat},j<m' -> (i*m'+j)/m'=i/\ (i*m'+j) % m'=j:=fun {i j} hj=>by
    have hm:0<m':=by omega
    constructor
    ·rw [zu,Nat.mul_add_div hm,Nat.div_eq_of_lt hj,zAO]
    ·rw [zu,Nat.mul_add_mod,zAg hj]
   split at h
   ·rename_i h1;cases h;simp only [yG,yk,yg] at h1;obtain ⟨⟨h1,rfl⟩,hj⟩:=h1;obtain ⟨u,g1,g2⟩:=AS.cell hr (XK hv hj);rw [(dv hj).1,(dv hj).2] at g2;exact NB (Mp R hk hp hr) h1 g1 (Ms g2)
   ·split at h
    ·rename_i h2;cases h;simp only [yG,yk] at h2;obtain ⟨⟨h2,rfl⟩,rfl⟩:=h2;obtain ⟨h3,ti,hi,rfl⟩:=ZO h2;refine Wp (fun _=>Mp R hk hp hr) h3 hi fun c hc=>?_
     obtain ⟨u,g1,g2⟩:=AS.cell hr (XK hv hc);rw [(dv hc).1,(dv hc).2] at g2;exact ⟨u,by simpa [zB] using g1,Ms g2⟩
    ·cases h
  ·rename_i n ls lk hk;obtain ⟨p',A6,vs,hS⟩:=R.hr.obj k _ hk;have e:p'=p:=yK (A6.symm.trans hp);subst e;split at h
   ·rename_i h1;cases h;simp only [yG,yk] at h1;obtain ⟨⟨h1,rfl⟩,rfl⟩:=h1;obtain ⟨cs,tt,q1,q2,q3,q4⟩:=hS.row;have hi:i<vs.size:=by rw [hS.size];exact hv
    have q5:=q4 i hv;rw [zN hi] at q5;refine NB (u:=vs[i]) (R.hr.cel k _ p' p'.blk hk hp hS.blk).2.1 h1 ?_ ⟨p',vs,hp,hS.val,zN hi⟩;unfold World.cell?;simp [q1,q5]
   ·cases h
  ·cases h
 ·cases h
theorem Yl.pure {M:Nat -> Prop} {s:Sem Value} {d:DV} {v:Value} (h: ∀ W,s.run P W= .ok v W) (hr:AJ M w d ρ v):Yl P N w M ρ s d:=⟨v,fun W _=>h W,hr⟩
theorem gj {t:TypeId} {m:Nat} (h:MB P t m=true):P.underlying t=some (.slice (P.elem t))/\ (∃ i,P.info? (P.elem t)=some i/\ i.size=m)/\ m≠0:=by
 unfold MB at h;split at h
 ·rename_i e he;have:P.elem t=e:=by unfold Program.elem;rw [he]
  rw [this];refine ⟨he,?_⟩;split at h
  ·simp only [yG,yk,zl] at h;exact ⟨⟨_,by assumption,h.1⟩,h.2⟩
  ·cases h
 ·cases h
theorem ZB {t:TypeId} {n m:Nat} (h:RX P t=some (n,m)):P.underlying t=some (.array (P.arrayLen t) (P.elem t))/\ P.arrayLen t=n/\ ∃ i,P.info? (P.elem t)=some i/\ i.size=m:=by
 unfold RX at h;split at h
 ·rename_i n' e he;have h1:P.elem t=e:=by unfold Program.elem;rw [he]
  have h2:P.arrayLen t=n':=by unfold Program.arrayLen;rw [he]
  rw [h1,h2];split at h
  ·split at h
   ·cases h
   ·cases h;exact ⟨he,rfl,_,by assumption,rfl⟩
  ·cases h
 ·cases h
theorem H7 (b o n:Nat):Addr.add ⟨b,o,none⟩ n=⟨b,o+n,none⟩:=by
 unfold Addr.add
 by_cases h:n=0
 ·subst h;rfl
 ·simp [h]
theorem SG {t:TypeId} {m b o len cap:Nat} {k:IntKind} {n:Int} (h:MB P t m=true) (h1:0<=n) (h2:n<len) (W:World):
 (Instr.indexAt t (.slice (some ⟨b,o,none⟩) len cap) (.int k n)).run P W= .ok (.pointer (some ⟨b,o+n.toNat*m,none⟩)) W:=by
 obtain ⟨hu,⟨i,hi,rfl⟩,_⟩:=gj h;rw [run_indexAt_slice W t _ len cap k n hu,yC ⟨h1,h2⟩,IK hi];simp only [Result.andThen,H7]
theorem qt (R:AX P Γ N S ρ a w) {t:TypeId} {x d:DV} {vc:Prop} {v:Value} {k:IntKind} {n:Int} (hx:AJ (MS N S.h ρ) w x ρ v) (h:XM P t x n=some (d,vc)) (hv:vc):
 Yl P N w (MS N S.h ρ) ρ (Instr.indexAt t v (.int k n)) d:=by
 unfold XM at h;split at h
 ·rename_i l;obtain ⟨ad,cap,rfl,h1,h2,h3⟩:=hx;split at h
  ·rename_i he;cases h;obtain ⟨b,o,rfl,hM,hc⟩:=h3 n.toNat (by omega);refine Yl.pure (fun W=>SG he hv.1 hv.2 W) ⟨b,o+n.toNat*1,rfl,fun j hj=>⟨hM,_,?_,rfl⟩⟩;have:j=0:=by omega
   subst this;simpa using hc
  ·cases h
 ·rename_i l;obtain ⟨ad,cap,rfl,h1,h2,h3⟩:=hx;split at h
  ·rename_i he;cases h;obtain ⟨b,o,rfl,hM,hc⟩:=h3 n.toNat (by omega);refine Yl.pure (fun W=>SG he hv.1 hv.2 W) ⟨b,o+n.toNat*1,rfl,fun j hj=>⟨hM,_,?_,rfl⟩⟩;have:j=0:=by omega
   subst this;simpa using hc
  ·cases h
 ·rename_i m c f;obtain ⟨ad,cap,rfl,h1,h2,h3⟩:=hx;split at h
  ·rename_i he;cases h;have hm:=(gj he).2;obtain ⟨b,o,u,rfl,hM,hc,hr⟩:=h3 n.toNat 0 (by omega) (by omega);refine Yl.pure (fun W=>SG he hv.1 hv.2 W) ⟨b,o+n.toNat*m,rfl,fun j hj=>?_⟩;obtain ⟨b',o',u',e,ui,G5,Cm⟩:=h3 n.toNat j (by omega) hj;cases e;exact ⟨ui,u',by rw [zB];exact G5,Cm⟩
  ·cases h
 ·rename_i k' m off c;obtain ⟨p,cap,hp,rfl,h1,h2,h3⟩:=hx;split at h
  ·rename_i he;cases h;exact Yl.pure (fun W=>SG he hv.1 hv.2 W) ⟨p,hp,by rw [zB,←zq];rfl⟩
  ·cases h
 ·rename_i k' j;obtain ⟨p,hp,rfl⟩:=hx;split at h
  ·rename_i len sz ha;cases h;obtain ⟨hu,hl,i,hi,rfl⟩:=ZB ha;refine Yl.pure (fun W=>?_) ⟨p,hp,rfl⟩;rw [run_indexAt_array W t _ k n hu,yC ⟨hv.1,by rw [hl];exact hv.2⟩,IK hi];simp only [Result.andThen,H7,zB]
  ·cases h
 ·rename_i k' m i0;obtain ⟨p,hp,rfl⟩:=hx;split at h
  ·rename_i len sz ha;split at h
   ·rename_i A2;subst A2;cases h;obtain ⟨hu,hl,i,hi,rfl⟩:=ZB ha;refine Yl.pure (fun W=>?_) ⟨p,hp,rfl⟩;rw [run_indexAt_array W t _ k n hu,yC ⟨hv.1,by rw [hl];exact hv.2⟩,IK hi];simp only [Result.andThen,H7,zB,zq,yX,zAO]
   ·cases h
  ·cases h
 ·rename_i m f;obtain ⟨b,o,rfl,hc⟩:=UW hx;split at h
  ·rename_i len sz ha;split at h
   ·rename_i A2;cases h;obtain ⟨hu,hl,i,hi,rfl⟩:=ZB ha;refine Yl.pure (fun W=>?_) ⟨b,o+n.toNat*i.size,rfl,fun j hj=>?_⟩
    ·rw [run_indexAt_array W t _ k n hu,yC ⟨hv.1,by rw [hl];exact hv.2⟩,IK hi];simp only [Result.andThen,H7]
    ·obtain ⟨hM,u,h1,h2⟩:=hc (n.toNat*i.size+j) (by omega);exact ⟨hM,u,by rw [zB];exact h1,HJ hj h2⟩
   ·cases h
  ·cases h
 ·cases h
theorem mV {op:BinOp} {k:IntKind} {x y:Int} {d:DV} {vc:Prop} (t:TypeId) (h:U7 op k x y=some (d,vc)) (M:Nat -> Prop):Yl P N w M ρ (binOp op t (.int k x) (.int k y)) d:=by
 cases op <;> simp only [U7,zO,zn,reduceCtorEq] at h <;> obtain ⟨rfl,-⟩:=h
 ·exact Yl.pure (fun W=>by rw [binOp_add];rfl) rfl
 ·exact Yl.pure (fun W=>by rw [binOp_sub];rfl) rfl
 ·exact Yl.pure (fun W=>by rw [binOp_mul];rfl) rfl
 ·exact Yl.pure (fun W=>by rw [binOp_and];rfl) rfl
 ·exact Yl.pure (fun W=>by rw [binOp_or];rfl) rfl
 ·exact Yl.pure (fun W=>by rw [binOp_xor];rfl) rfl
 ·exact Yl.pure (fun W=>by rw [binOp_andNot];rfl) rfl
 ·exact Yl.pure (fun W=>by rw [binOp_eql];rfl) rfl
 ·exact Yl.pure (fun W=>by rw [binOp_neq];rfl) rfl
 ·exact Yl.pure (fun W=>by rw [binOp_lss];rfl) rfl
 ·exact Yl.pure (fun W=>by rw [binOp_leq];rfl) rfl
 ·exact Yl.pure (fun W=>by rw [binOp_gtr];rfl) rfl
 ·exact Yl.pure (fun W=>by rw [binOp_geq];rfl) rfl
theorem vn {op:BinOp} {t:TypeId} {x y:Operand} {k:IntKind} {n:Int} {v:Value}:eqGuard op t x y (.int k n) v=pure ():=by
 cases op <;> rfl
theorem xB {M:Nat -> Prop} {op:BinOp} {t:TypeId} {x y:DV} {vx vy:Value} {d:DV} {vc:Prop} (ox oy:Operand) (hx:AJ M w x ρ vx) (hy:AJ M w y ρ vy) (h:U9 (N9 P t) op x y=some (d,vc)) (hv:vc):
 Yl P N w M ρ (do eqGuard op t ox oy vx vy;binOp op t vx vy) d:=by
 have key: ∀ {k k':IntKind} {n n':Int},vx= .int k n -> vy= .int k' n' -> Yl P N w M ρ (binOp op t (.int k n) (.int k' n')) d -> Yl P N w M ρ (do eqGuard op t ox oy vx vy;binOp op t vx vy) d:=by
  intro k k' n n' e1 e2 hY;subst e1;subst e2;rw [vn];exact hY
 have hb:N9 P t=1 -> P.underlying t=some .bool:=fun h=>by
  unfold N9 at h;split at h
  ·assumption
  ·cases h
  ·cases h
 have Xg:N9 P t=2 -> ∃ e,P.underlying t=some (.slice e):=fun h=>by
  unfold N9 at h;split at h
  ·cases h
  ·exact ⟨_,by assumption⟩
  ·cases h
 have gV: ∀ {e:TypeId} {a:Addr} {l c:Nat} (W:World),P.underlying t=some (.slice e) -> (do eqGuard .eql t ox oy (.slice (some a) l c) (.slice none 0 0);binOp .eql t (.slice (some a) l c) (.slice none 0 0):Sem Value).run P W= .ok (.bool false) W:=by
  intro e a l c W hu;have h1:eqGuard .eql t ox oy (.slice (some a) l c) (.slice none 0 0)=pure ():=rfl;rw [h1]
  show (binOp .eql t (.slice (some a) l c) (.slice none 0 0)).run P W=_
  simp only [binOp];simp [run_equal_slice_nil W t e (some a) l c hu]
 have pJ: ∀ {e:TypeId} {a:Addr} {l c:Nat} (W:World),P.underlying t=some (.slice e) -> (do eqGuard .neq t ox oy (.slice (some a) l c) (.slice none 0 0);binOp .neq t (.slice (some a) l c) (.slice none 0 0):Sem Value).run P W= .ok (.bool true) W:=by
  intro e a l c W hu;have h1:eqGuard .neq t ox oy (.slice (some a) l c) (.slice none 0 0)=pure ():=rfl;rw [h1]
  show (binOp .neq t (.slice (some a) l c) (.slice none 0 0)).run P W=_
  simp only [binOp];simp [run_equal_slice_nil W t e (some a) l c hu]
 unfold U9 at h;split at h
 ·split at h
  ·rename_i e;cases h;have e1:vx= .bool _:=hx;have e2:vy= .bool _:=hy;subst e1;subst e2;exact Yl.pure (fun W=>run_eql_bool W t _ _ (hb e)) rfl
  ·cases h
 ·split at h
  ·rename_i e;cases h;have e1:vx= .bool _:=hx;have e2:vy= .bool _:=hy;subst e1;subst e2;exact Yl.pure (fun W=>run_neq_bool W t _ _ (hb e)) rfl
  ·cases h
 ·split at h
  ·rename_i e;cases h;obtain ⟨e0,he⟩:=Xg e;obtain ⟨ad,cap,rfl,h1,h2,h3⟩:=hx;obtain ⟨b,o,rfl,_⟩:=h3 0 hv;have e2:vy= .slice none 0 0:=hy;subst e2;exact Yl.pure (fun W=>gV W he) rfl
  ·cases h
 ·split at h
  ·rename_i e;cases h;obtain ⟨e0,he⟩:=Xg e;obtain ⟨ad,cap,rfl,h1,h2,h3⟩:=hx;obtain ⟨b,o,rfl,_⟩:=h3 0 hv;have e2:vy= .slice none 0 0:=hy;subst e2;exact Yl.pure (fun W=>gV W he) rfl
  ·cases h
 ·split at h
  ·rename_i e;cases h;obtain ⟨e0,he⟩:=Xg e;obtain ⟨ad,cap,rfl,h1,h2,h3⟩:=hx;obtain ⟨b,o,rfl,_⟩:=h3 0 hv;have e2:vy= .slice none 0 0:=hy;subst e2;exact Yl.pure (fun W=>pJ W he) rfl
  ·cases h
 ·cases h;refine key hx hy ?_;exact Yl.pure (fun W=>by rw [binOp_shl,shift_shl _ _ _ _ hv.1 hv.2];rfl) rfl
 ·cases h;refine key hx hy ?_;exact Yl.pure (fun W=>by rw [binOp_shr,shift_shr _ _ _ _ hv.1 hv.2];rfl) rfl
 ·split at h
  ·rename_i e;subst e;cases h;exact key hx hy (Yl.pure (fun W=>by rw [binOp_quo,Op.intDiv,yM hv];rfl) rfl)
  ·cases h
 ·split at h
  ·rename_i e;subst e;cases h;exact key hx hy (Yl.pure (fun W=>by rw [binOp_rem,Op.intDiv,yM hv];rfl) rfl)
  ·cases h
 ·split at h
  ·rename_i e;subst e;exact key hx hy (mV t h M)
  ·cases h
 ·cases h
theorem GV {ρ':Operand -> Value} {o:Oper} {s:Sem Value} {M:Nat -> Prop} {d:DV} (he:execOp ρ' o=(do pure (.value (←s)))) (h:Yl P N w M ρ s d): ∃ v,(∀ W,Keep N w W -> (execOp ρ' o).run P W= .ok (.value v) W)/\ AJ M w d ρ v:=by
 obtain ⟨v,h1,h2⟩:=h;refine ⟨v,fun W hE=>?_,h2⟩;rw [he,yU,h1 W hE];rfl
theorem vW {s:TypeId} {f off sz:Nat} (h:Ud P s f=some (off,sz)): ∃ fs fd i,P.underlying s=some (.struct fs)/\ fs[f]? =some fd/\ fd.offset=off/\ P.info? fd.type=some i/\ i.size=sz/\ sz≠0:=by
 unfold Ud at h;split at h
 ·rename_i fs hs;split at h
  ·rename_i fd hf;split at h
   ·rename_i i hi;split at h
    ·cases h
    ·cases h;exact ⟨fs,fd,i,hs,hf,rfl,hi,rfl,by assumption⟩
   ·cases h
  ·cases h
 ·cases h
theorem V3 {s:TypeId} {f off sz b o:Nat} (h:Ud P s f=some (off,sz)) (W:World):(Instr.fieldAt s (.pointer (some ⟨b,o,none⟩)) f).run P W= .ok (.pointer (some ⟨b,o+off,none⟩)) W:=by
 obtain ⟨fs,fd,i,h1,h2,rfl,h4,rfl,h6⟩:=vW h;unfold Instr.fieldAt;rw [yU,zA h1];simp only [Result.andThen,h2,Instr.sureAddr];simp only [yU,zAh,Result.andThen,fieldPlace,IK h4,yM h6,H7]
theorem qS {t:TypeId} {k:IntKind} (h:XE P t=some k):P.underlying t=some (.int k):=by
 unfold XE at h;split at h
 ·cases h;assumption
 ·cases h
theorem O5 {t ty:TypeId} {e:TypeId} {ad:Option Addr} {n c:Nat} (h:P.underlying t=some (.slice e)) (W:World):(Builtin.len_ #[t] ty #[.slice ad n c]).run P W= .ok (.int .i64 n) W:=by
 simp [Builtin.len_,zA h,goInt]
theorem mQ {t ty:TypeId} {s:ByteArray} (h:P.underlying t=some .string) (W:World):(Builtin.len_ #[t] ty #[.string s]).run P W= .ok (.int .i64 s.size) W:=by
 simp [Builtin.len_,zA h,goInt]
theorem Yi {M:Nat -> Prop} {ρ':Operand -> Value} {o:Oper} {c:Call} {b:Builtin} {d:DV} {s:Sem Value} (ho:o.op= .call c) (hc:c.callee= .builtin b)
 (hb:builtin b c.argTypes o.type (c.args.map fun | .const _=>true | _=>false) (c.args.map ρ')=(do pure (.value (←s)))) (h:Yl P N w M ρ s d):
 ∃ v,(∀ W,Keep N w W -> (execOp ρ' o).run P W= .ok (.value v) W)/\ AJ M w d ρ v:=by
 refine GV (s:=s) ?_ h;rw [←hb];unfold execOp;rw [ho]
 show (resolve ρ' c o.type>>=fun d=>invoke d.target d.args)=_
 unfold resolve;rw [hc];rfl
theorem pk {M:Nat -> Prop} {t ty:TypeId} {x d:DV} {vc:Prop} {v:Value} (hx:AJ M w x ρ v) (h:TS P t x=some (d,vc)):Yl P N w M ρ (Builtin.len_ #[t] ty #[v]) d:=by
 unfold TS at h;split at h
 ·rename_i e' hu;cases h;rw [show v=_ from hx];exact Yl.pure (fun W=>O5 hu W) rfl
 ·rename_i e' l hu;cases h;obtain ⟨ad,cap,rfl,_⟩:=hx;exact Yl.pure (fun W=>O5 hu W) rfl
 ·rename_i e' l hu;cases h;obtain ⟨ad,cap,rfl,_⟩:=hx;exact Yl.pure (fun W=>O5 hu W) rfl
 ·rename_i e' m n f hu;cases h;obtain ⟨ad,cap,rfl,_⟩:=hx;exact Yl.pure (fun W=>O5 hu W) rfl
 ·rename_i e' k m off n hu;cases h;obtain ⟨p,cap,_,rfl,_⟩:=hx;exact Yl.pure (fun W=>O5 hu W) rfl
 ·rename_i s hu;cases h;rw [show v=_ from hx];exact Yl.pure (fun W=>mQ hu W) rfl
 ·cases h
theorem Z5 {α:Type} {l:Array α} {x:α} (h:l.toList= [x]):l= #[x]:=by cases l;simp at h;rw [h]
theorem Rp {α:Type} {l:Array α} {x y:α} (h:l.toList= [x,y]):l= #[x,y]:=by cases l;simp at h;rw [h]
theorem w4 (R:AX P Γ N S ρ a w) (o:Oper) {c:Call} {b:Builtin} {d:DV} {vc:Prop} (ho:o.op= .call c) (hc:c.callee= .builtin b) (h:U4 P S b c.args.toList c.argTypes.toList=some (d,vc)):
 ∃ v,(∀ W,Keep N w W -> (execOp a.eval o).run P W= .ok (.value v) W)/\ AJ (MS N S.h ρ) w d ρ v:=by
 have DZ:=fun x=>Bj R x
 unfold U4 at h;split at h
 ·split at h
  ·rename_i x ha;split at h
   ·rename_i t ht;exact Yi (s:=Builtin.len_ #[t] o.type #[a.eval x]) ho hc (by rw [Z5 ha,Z5 ht];simp [builtin]) (pk (DZ x) h)
   ·cases h
  ·cases h
 ·split at h
  ·rename_i x y ha;have hx:=DZ x;have hy:=DZ y;unfold Wi at h;split at h
   ·rename_i k n k' n' e1 e2;cases h;rw [e1] at hx;rw [e2] at hy;refine Yi (s:=Builtin.max_ c.argTypes o.type #[a.eval x,a.eval y]) ho hc (by rw [Rp ha];simp [builtin]) ?_;rw [show a.eval x=_ from hx,show a.eval y=_ from hy];exact Yl.pure (fun W=>by simp [Builtin.max_,Builtin.max2]) rfl
   ·cases h
  ·cases h
 ·split at h
  ·rename_i x y ha;have hx:=DZ x;have hy:=DZ y;unfold Wh at h;split at h
   ·rename_i k n k' n' e1 e2;cases h;rw [e1] at hx;rw [e2] at hy;refine Yi (s:=Builtin.min_ c.argTypes o.type #[a.eval x,a.eval y]) ho hc (by rw [Rp ha];simp [builtin]) ?_;rw [show a.eval x=_ from hx,show a.eval y=_ from hy];exact Yl.pure (fun W=>by simp [Builtin.min_,Builtin.min2]) rfl
   ·cases h
  ·cases h
 ·cases h
theorem cM (R:AX P Γ N S ρ a w) (o:Oper) {d:DV} {vc:Prop} (h:pop P S o.op=some (d,vc)) (hv:vc):
 ∃ v,(∀ W,Keep N w W -> (execOp a.eval o).run P W= .ok (.value v) W)/\ AJ (MS N S.h ρ) w d ρ v:=by
 have DZ:=fun x=>Bj R x
 unfold pop at h;split at h
 ·rename_i x ho;cases h;exact ⟨a.eval x,fun W _=>by unfold execOp;rw [ho];rfl,DZ x⟩
 ·rename_i x ho;cases h;exact ⟨a.eval x,fun W _=>by unfold execOp;rw [ho];rfl,DZ x⟩
 ·rename_i c x y ho;have hc:=DZ c;split at h
  ·rename_i e;cases h;rw [e] at hc;exact ⟨a.eval x,fun W _=>by unfold execOp;rw [ho];simp only [show a.eval c= .bool true from hc];rfl,DZ x⟩
  ·rename_i e;cases h;rw [e] at hc;exact ⟨a.eval y,fun W _=>by unfold execOp;rw [ho];simp only [show a.eval c= .bool false from hc];rfl,DZ y⟩
  ·cases h
 ·rename_i t x ho;exact GV (by unfold execOp;rw [ho]) (db R (DZ x) h hv)
 ·rename_i op t x y t' ho;exact GV (by unfold execOp;rw [ho]) (xB x y (DZ x) (DZ y) h hv)
 ·rename_i op t x ho;have hx:=DZ x;refine GV (s:=Op.unary op (a.eval x)) (by unfold execOp;rw [ho]) ?_;split at h
  ·rename_i b e;cases h;rw [e] at hx;rw [show a.eval x= .bool b from hx];exact Yl.pure (fun W=>rfl) rfl
  ·rename_i k n e;cases h;rw [e] at hx;rw [show a.eval x= .int k n from hx];exact Yl.pure (fun W=>rfl) rfl
  ·rename_i k n e;cases h;rw [e] at hx;rw [show a.eval x= .int k n from hx];exact Yl.pure (fun W=>rfl) rfl
  ·cases h
 ·rename_i ts td x ho;have hx:=DZ x;split at h
  ·rename_i dd k k' n hs hd e;cases h;rw [e] at hx;refine GV (s:=convert ts td (a.eval x)) (by unfold execOp;rw [ho]) ?_;rw [show a.eval x= .int k' n from hx];refine Yl.pure (v:=.int k (k.wrap n)) (fun W=>?_) rfl;simp [convert,zA hs,zA (qS hd),Conv.intToInt]
  ·cases h
 ·rename_i x ho;have hx:=DZ x;split at h
  ·rename_i m f e;cases h;rw [e] at hx;obtain ⟨b,oo,hb,hr⟩:=UW hx;exact ⟨_,fun W _=>by unfold execOp;rw [ho];simp only [hb];rfl,b,oo,rfl,hr⟩
  ·rename_i k j e;cases h;rw [e] at hx;obtain ⟨p,hp,hb⟩:=hx;exact ⟨_,fun W _=>by unfold execOp;rw [ho];simp only [hb];rfl,p,hp,rfl⟩
  ·rename_i k m i j e;cases h;rw [e] at hx;obtain ⟨p,hp,hb⟩:=hx;exact ⟨_,fun W _=>by unfold execOp;rw [ho];simp only [hb];rfl,p,hp,rfl⟩
  ·rename_i g m c e;cases h;rw [e] at hx;obtain ⟨lb,hb,hr⟩:=hx;exact ⟨_,fun W _=>by unfold execOp;rw [ho];simp only [hb];rfl,lb,rfl,hr⟩
  ·cases h
 ·rename_i st x f ho;have hx:=DZ x;split at h
  ·rename_i off sz hf;refine GV (s:=Instr.fieldAt st (a.eval x) f) (by unfold execOp;rw [ho]) ?_;split at h
   ·rename_i m g e;split at h
    ·cases h;rw [e] at hx;obtain ⟨b,oo,hb,hr⟩:=UW hx;rw [hb];refine Yl.pure (fun W=>V3 hf W) ⟨b,_,rfl,fun j hj=>?_⟩;obtain ⟨g1,u,g2,g3⟩:=hr (off+j) (by omega);exact ⟨g1,u,by rw [zB];exact g2,HJ hj g3⟩
    ·cases h
   ·rename_i k j e;cases h;rw [e] at hx;obtain ⟨p,hp,hb⟩:=hx;rw [hb];exact Yl.pure (fun W=>V3 hf W) ⟨p,hp,by rw [zB]⟩
   ·rename_i k m i j e;cases h;rw [e] at hx;obtain ⟨p,hp,hb⟩:=hx;rw [hb];exact Yl.pure (fun W=>V3 hf W) ⟨p,hp,by rw [zB,zB]⟩
   ·cases h
  ·cases h
 ·rename_i t x i ho;have hi:=DZ i;split at h
  ·rename_i k n e;rw [e] at hi;refine GV (s:=Instr.indexAt t (a.eval x) (a.eval i)) (by unfold execOp;rw [ho]) ?_;rw [show a.eval i= .int k n from hi];exact qt R (DZ x) h hv
  ·cases h
 ·rename_i x i ho;have hx:=DZ x;split at h
  ·rename_i m f e;split at h
   ·rename_i hi;cases h;rw [e] at hx;obtain ⟨cs,hb,hs,hr⟩:=hx;obtain ⟨u,g1,g2⟩:=hr i hi;refine GV (s:=Instr.extract (a.eval x) i) (by unfold execOp;rw [ho]) ?_;rw [hb];exact Yl.pure (fun W=>by simp [Instr.extract,g1]) g2
   ·cases h
  ·cases h
 ·rename_i g first c ho
  split at h
  ·rename_i hf;cases h;refine ⟨.func (.func g) #[] (c.map a.eval),fun W _=>?_,c.map a.eval,rfl,by simp,fun j hj=>?_⟩
   ·unfold execOp;rw [ho];have:first= #[]:=zAK hf
    subst this;simp [Instr.makeFunc]
   ·refine ⟨a.eval (c.getD j (.const undef)),by simp [hj],HJ hj (DZ _)⟩
  ·cases h
 ·rename_i c ho;split at h
  ·rename_i b hc;exact w4 R o ho hc h
  ·cases h
 ·cases h
end
end Go.Proofs.YtekkngkphejfcaaGreatDoor
namespace Go.Proofs.YtekkngkphejfcaaGreatDoor
abbrev xz:=@List.getElem?_eq_getElem
abbrev yD:=@Option.bind_some
abbrev yS:=@List.getElem?_map
abbrev yY:=@List.length_replicate
abbrev yi:=@Option.map_some
abbrev yr:=@List.length_map
abbrev yu:=@List.length_append
abbrev zD:=@Nat.mul_one
abbrev zJ:=@List.eq_nil_of_length_eq_zero
abbrev zQ:=@List.length_cons
abbrev zV:=@Int.le_refl
abbrev zX:=@List.getElem_of_mem
abbrev zy:=@List.getElem?_range
abbrev z6:=@Option.getD_some
abbrev zAC:=@Nat.div_lt_iff_lt_mul
abbrev zAL:=@Go.heap_alloc_new
abbrev zAu:=@List.flatMap_cons
abbrev zAv:=@List.size_toArray
abbrev zA6:=@Nat.le_of_eq
abbrev zA8:=@Nat.mod_lt
end Go.Proofs.YtekkngkphejfcaaGreatDoor
namespace Go.Proofs.YtekkngkphejfcaaGreatDoor
open Go.RowKit
def LR:DV -> Bool
 | .any=>false
 | .agg .. =>false
 | .tup .. =>false
 | .it _=>false
 | .yl _=>false
 | .mri .. =>false
 | _=>true
def Hu:DV -> Option (List DV)
 | .agg m f=>some ((List.range m).map f)
 | .any=>none
 | .tup .. =>none
 | .it _=>none
 | .yl _=>none
 | .mri .. =>none
 | d=>some [d]
def My:DV -> Bool
 | .int .. =>true
 | .bool _=>true
 | .str _=>true
 | .nils=>true
 | .ints _=>true
 | .bools _=>true
 | .sl .. =>true
 | _=>false
section
variable {P:Program} {Γ:Au} {N:Nat -> Prop} {S:St} {ρ:List AI} {a:Act} {w:World}
theorem TF {M:Nat -> Prop} {d:DV} {v:Value} (h:LR d=true) (hr:AJ M w d ρ v):v.oneCell'=true/\ v.cells= #[v]:=by
 have key:(∀ cs,v≠.agg cs) -> (∀ cs,v≠.tuple cs) -> v.oneCell'=true/\ v.cells= #[v]:=fun h1 h2=>by
  cases v <;> first | exact ⟨rfl,rfl⟩ | exact absurd rfl (h1 _) | exact absurd rfl (h2 _)
 cases d with
 | any=>cases h
 | agg m f=>cases h
 | tup m f=>cases h
 | nils=>exact key (fun cs e=>by rw [hr] at e;cases e) (fun cs e=>by rw [hr] at e;cases e)
 | int k n=>exact key (fun cs e=>by rw [hr] at e;cases e) (fun cs e=>by rw [hr] at e;cases e)
 | bool b=>exact key (fun cs e=>by rw [hr] at e;cases e) (fun cs e=>by rw [hr] at e;cases e)
 | str s=>exact key (fun cs e=>by rw [hr] at e;cases e) (fun cs e=>by rw [hr] at e;cases e)
 | ints l=>obtain ⟨_,_,rfl,_⟩:=hr;exact ⟨rfl,rfl⟩
 | bools l=>obtain ⟨_,_,rfl,_⟩:=hr;exact ⟨rfl,rfl⟩
 | sl m n f=>obtain ⟨_,_,rfl,_⟩:=hr;exact ⟨rfl,rfl⟩
 | fp m f=>obtain ⟨_,_,rfl,_⟩:=hr;exact ⟨rfl,rfl⟩
 | ref k j=>obtain ⟨_,_,rfl⟩:=hr;exact ⟨rfl,rfl⟩
 | msl k m off n=>obtain ⟨_,_,_,rfl,_⟩:=hr;exact ⟨rfl,rfl⟩
 | mp k m i j=>obtain ⟨_,_,rfl⟩:=hr;exact ⟨rfl,rfl⟩
 | fn g m c=>obtain ⟨_,rfl,_⟩:=hr;exact ⟨rfl,rfl⟩
 | it k=>cases h
 | yl l=>cases h
 | mse k m o n=>obtain ⟨_,_,_,_,rfl,_⟩:=hr;exact ⟨rfl,rfl⟩
 | mri k i=>cases h
 | cst u=>obtain ⟨rfl,hu⟩:=hr;cases v <;> first | exact ⟨rfl,rfl⟩ | (cases hu;done)
theorem Q6 {M:Nat -> Prop} {d:DV} {v:Value} {l:List DV} (h:Hu d=some l) (hr:AJ M w d ρ v):v.cells.size=l.length/\ ∀ j,j<l.length -> ∃ u,v.cells[j]? =some u/\ AJ M w (l.getD j .any) ρ u:=by
 have one:LR d=true -> l= [d] -> v.cells.size=l.length/\ ∀ j,j<l.length -> ∃ u,v.cells[j]? =some u/\ AJ M w (l.getD j .any) ρ u:=by
  intro h1 h2;subst h2;rw [(TF h1 hr).2];refine ⟨rfl,fun j hj=>?_⟩;have:j=0:=by simpa using hj
  subst this;exact ⟨v,rfl,hr⟩
 cases d with
 | any=>cases h
 | tup m f=>cases h
 | it k=>cases h
 | yl l=>cases h
 | mse k m o n=>cases h;exact one rfl rfl
 | mri k i=>cases h
 | cst u=>exact one rfl (yK h).symm
 | agg m f=>
  cases h;obtain ⟨cs,rfl,hs,hc⟩:=hr;refine ⟨by simpa [Value.cells] using hs,fun j hj=>?_⟩;have BI:j<m:=by simpa using hj
  obtain ⟨u,h1,h2⟩:=hc j BI;exact ⟨u,h1,by simpa [BI] using h2⟩
 | nils=>cases h;exact one rfl rfl
 | int k n=>cases h;exact one rfl rfl
 | bool b=>cases h;exact one rfl rfl
 | str s=>cases h;exact one rfl rfl
 | ints l=>cases h;exact one rfl rfl
 | bools l=>cases h;exact one rfl rfl
 | sl m n f=>cases h;exact one rfl rfl
 | fp m f=>cases h;exact one rfl rfl
 | ref k j=>cases h;exact one rfl rfl
 | msl k m off n=>cases h;exact one rfl rfl
 | mp k m i j=>cases h;exact one rfl rfl
 | fn g m c=>cases h;exact one rfl rfl
theorem WM {M:Nat -> Prop} {d:DV} {v:Value} (h:My d=true) (hr:AJ M w d ρ v):AJ M w d [] v:=by
 cases d <;> first | exact hr | (cases h;done)
structure C9 (P:Program) (Γ:Au) (N:Nat -> Prop) (h:DH) (ρ:List AI) (w:World) (ext:Bool) (d:DV) (h':DH) (v:Value) (w':World):Prop where
 ex: ∃ ρ',BK P Γ N h' ρ' w'/\ AJ (MS N h' ρ') w' d ρ' v/\ A8 h ρ w h' ρ' w'/\ (∀ (k:Nat) (p:AI),ρ[k]? =some p -> ρ'[k]? =some p)
 ext:ext=true -> Ar w w'
def BN (P:Program) (s:Sem Next) (w:World) (G:Value -> World -> Prop):Prop:=
 (∃ v w',s.run P w= .ok (.value v) w'/\ G v w')∨(∃ w',s.run P w= .ok .skip w'/\ G undef w')∨
 (∃ f args w',s.run P w= .ok (.enter f args) w'/\ Calls P f args w' fun e CI=>∃ v,e= .returned v/\ G v CI)
theorem BN.value {G:Value -> World -> Prop} {ρ':Operand -> Value} {o:Oper} {s:Sem Value} {v:Value} {w':World} (he:execOp ρ' o=(do pure (.value (←s)))) (h:s.run P w= .ok v w') (hG:G v w'):BN P (execOp ρ' o) w G:=
 .inl ⟨v,w',by rw [he,yU,h];rfl,hG⟩
theorem BN.skip {G:Value -> World -> Prop} {ρ':Operand -> Value} {o:Oper} {s:Sem Unit} {w':World} (he:execOp ρ' o=(do s;pure .skip)) (h:s.run P w= .ok () w') (hG:G undef w'):BN P (execOp ρ' o) w G:=
 .inr (.inl ⟨w',by rw [he,yU,h];rfl,hG⟩)
def Da (w:World) (room:Nat):AI:=⟨w.heap.size,0,room,undef,fun b=>b=w.heap.size⟩
theorem Nd (H:BK P Γ N S.h ρ w) {cs:Array Value} {t:TypeId} {o:DO} {d:DV} {v:Value} {w1:World} (QG:Ar w w1/\ w1.heap.size=w.heap.size)
 (ho: ∀ M ρ',BM (MS N S.h ρ) w ρ M (w1.alloc (.cells cs t)) ρ' -> Cp P M (w1.alloc (.cells cs t)) ρ' (Da w cs.size) o)
 (hv: ∀ M ρ',ρ'[S.h.length]? =some (Da w cs.size) -> AJ M (w1.alloc (.cells cs t)) d ρ' v) (ext:Bool):
 C9 P Γ N S.h ρ w ext d (S.h++[some o]) v (w1.alloc (.cells cs t)):=by
 have hE:Ar w (w1.alloc (.cells cs t)):=QG.1.allocR _;have hf: ∀ b,(Da w cs.size).foot b -> w.heap.size<=b:=fun b hb=>zA6 (Eq.symm hb)
 have hb:(w1.alloc (.cells cs t)).heap[w.heap.size]? =some (.cells cs t (0,0)):=by rw [←QG.2];exact zAL w1 _
 refine ⟨⟨ρ++[Da w cs.size],H.snoc hE (fun b hx=>⟨hf b hx,.cells (c:=cs) (t:=t) (z:=(0,0)) (by rw [show b=w.heap.size from hx];exact hb)⟩) (ho _ _ (BM.snoc H hE hf)),?_,A8.snoc H hE hf,fun k p hk=>De hk⟩,fun _=>hE⟩;exact hv _ _ (by rw [←H.len];simp)
theorem LA {cs:Array Value} {t:TypeId} {w1:World} (hs:w1.heap.size=w.heap.size) {n:Nat} {R:Nat -> Value -> Prop} (hn:n<=cs.size) (hR: ∀ j,j<n -> ∃ u,cs[j]? =some u/\ R j u):AS (w1.alloc (.cells cs t)) (Da w cs.size) n R:=by
 refine ⟨rfl,cs,t,?_,by simpa [Da] using hn,yf _,fun j hj=>by simpa [Da] using hR j hj⟩
 show (w1.alloc (.cells cs t)).heap[w.heap.size]? =_
 rw [←hs];exact zAL w1 _
theorem w7 (R:AX P Γ N S ρ a w) {x:Operand} {t:TypeId} {l:List DV} (h:Hu (AY S.fr x)=some l) (o:Oper) (ho:o.op= .box t x) (ext:Bool):
 BN P (execOp a.eval o) w (C9 P Γ N S.h ρ w ext (.ref S.h.length 0) (S.h++[some (.cells l)])):=by
 obtain ⟨h1,h2⟩:=Q6 h (Bj R x);refine BN.value (s:=Instr.box t (a.eval x)) (by unfold execOp;rw [ho]) (v:=.pointer (some ⟨w.heap.size,0,none⟩)) (w':=w.alloc (.cells (a.eval x).cells t)) ?_ ?_
 ·rfl
 ·refine Nd (d:=.ref S.h.length 0) R.hr ⟨Ar.refl w,rfl⟩ (fun M ρ' O=>?_) (fun M ρ' hp=>⟨_,hp,rfl⟩) ext;refine LA rfl (by omega) fun j hj=>?_
  obtain ⟨u,g1,g2⟩:=h2 j hj;exact ⟨u,g1,g2.out _ O⟩
theorem xb (R:AX P Γ N S ρ a w) {t:TypeId} {i:TypeInfo} {z:Value} (hi:P.info? t=some i) (hz:i.zero=some z) (o:Oper) (ho:o.op= .alloc t) (ext:Bool):
 BN P (execOp a.eval o) w (C9 P Γ N S.h ρ w ext (.ref S.h.length 0) (S.h++[some (.cells (z.cells.toList.map E1))])):=by
 refine BN.value (s:=Instr.alloc t true (.tuple #[])) (by unfold execOp;rw [ho]) (v:=.pointer (some ⟨w.heap.size,0,none⟩)) (w':=w.alloc (.cells z.cells t)) ?_ ?_
 ·simp [Instr.alloc,zeroValue,typeInfo,hi,hz,newVar,newRow,newObj];rfl
 ·refine Nd (d:=.ref S.h.length 0) R.hr ⟨Ar.refl w,rfl⟩ (fun M ρ' O=>?_) (fun M ρ' hp=>⟨_,hp,rfl⟩) ext;refine LA rfl (by simp) fun j hj=>?_
  have BI:j<z.cells.size:=by simpa using hj
  refine ⟨z.cells[j],by simp [BI],?_⟩;have:(z.cells.toList.map E1).getD j .any=E1 z.cells[j]:=by simp [BI]
  rw [this];exact Ph _
def gP:Value -> Bool
 | .bool false=>true
 | _=>false
def VM (z:Value):Bool:=decide (2<z.cells.size)&&z.cells.toList.all gP
theorem xc (R:AX P Γ N S ρ a w) {t:TypeId} {i:TypeInfo} {z:Value} (hi:P.info? t=some i) (hz:i.zero=some z) (hb:VM z=true) (o:Oper) (ho:o.op= .alloc t) (ext:Bool):
 BN P (execOp a.eval o) w (C9 P Γ N S.h ρ w ext (.mp S.h.length 1 0 0) (S.h++[some (.bools (List.replicate z.cells.size false))])):=by
 refine BN.value (s:=Instr.alloc t true (.tuple #[])) (by unfold execOp;rw [ho]) (v:=.pointer (some ⟨w.heap.size,0,none⟩)) (w':=w.alloc (.cells z.cells t)) ?_ ?_
 ·simp [Instr.alloc,zeroValue,typeInfo,hi,hz,newVar,newRow,newObj];rfl
 ·refine Nd (d:=.mp S.h.length 1 0 0) R.hr ⟨Ar.refl w,rfl⟩ (fun M ρ' O=>?_) (fun M ρ' hp=>⟨_,hp,rfl⟩) ext;refine LA rfl (by simp) fun j hj=>?_
  have BI:j<z.cells.size:=by simpa using hj
  refine ⟨z.cells[j],by simp [BI],?_⟩;simp only [VM,yG,yL] at hb;have:=hb.2 z.cells[j] (by simp);unfold gP at this;split at this
  ·rename_i e;rw [e];simp [BI]
  ·cases this
inductive EK where
 | ints
 | bools
 | gen (m:Nat)
def Kd (P:Program) (t:TypeId):Option (EK×TypeId×TypeInfo×Value):=match P.underlying t with
 | some (.slice e)=>match P.info? e with
  | some i=>match i.zero with
   | some z=>if i.size=0 then none else if z.cells.size≠i.size then none else match P.underlying e with
    | some (.int .i64)=>if i.size=1 then (match z with | .int .i64 0=>some (.ints,e,i,z) | _=>none) else none
    | some .bool=>if i.size=1 then (match z with | .bool false=>some (.bools,e,i,z) | _=>none) else none
    | _=>some (.gen i.size,e,i,z)
   | none=>none
  | none=>none
 | _=>none
def EK.cells:EK -> Nat
 | .ints=>1
 | .bools=>1
 | .gen m=>m
theorem Uk {t:TypeId} {k:EK} {e:TypeId} {i:TypeInfo} {z:Value} (h:Kd P t=some (k,e,i,z)):P.underlying t=some (.slice e)/\ P.info? e=some i/\ i.zero=some z/\ i.size≠0/\ z.cells.size=i.size/\ k.cells=i.size/\
 (k= .ints -> z= .int .i64 0)/\ (k= .bools -> z= .bool false):=by
 unfold Kd at h
 repeat' (split at h)
 all_goals first
  | (cases h;done)
  | skip
 all_goals
  simp only [zO,zn] at h;obtain ⟨rfl,rfl,rfl,rfl⟩:=h;refine ⟨by assumption,by assumption,by assumption,by assumption,by simp_all,?_,?_,?_⟩
  ·simp_all [EK.cells]
  ·intro hk;first | rfl | cases hk
  ·intro hk;first | rfl | cases hk
theorem YZ {s:Nat} (hs:0<s): ∀ (vs:List Value),(∀ v∈vs,v.cells.size=s) -> ∀ i j,i<vs.length -> j<s -> (vs.flatMap fun v=>v.cells.toList)[i*s+j]? =(vs[i]?).bind (fun v=>v.cells[j]?)
 | [],_,i,j,hi,_=>absurd hi (yT i)
 | v::vs,hv,i,j,hi,hj=>by
  have Gy:v.cells.toList.length=s:=by simpa using hv v (by simp)
  rw [zAu];cases i with
  | zero=>rw [Nat.zero_mul,yX,yW (by omega)];simp
  | succ i=>
   rw [yh (by rw [Gy,zAf];omega),Gy,show (i+1)*s+j-s=i*s+j by rw [zAf];omega];rw [YZ hs vs (fun v h=>hv v (by simp [h])) i j (by simpa using hi) hj];simp
def Gx:DV -> Int
 | .int _ n=>n
 | _=>0
def RO:DV -> Bool
 | .bool b=>b
 | _=>false
def JE:DV -> Bool
 | .int .i64 _=>true
 | _=>false
def XB:DV -> Bool
 | .bool _=>true
 | _=>false
def N8 (k:EK) (ds:List DV):Option DO:=match k with
 | .ints=>if ds.all JE then some (.ints (ds.map Gx)) else none
 | .bools=>if ds.all XB then some (.bools (ds.map RO)) else none
 | .gen m=>if ds.all fun d=>(match Hu d with | some l=>l.length==m&&l.all My | none=>false) then
  some (.arr m ds.length (fun i j=>match Hu (ds.getD i .any) with | some l=>l.getD j .any | none=>.any)) else none
theorem W9 {M:Nat -> Prop} {d:DV} {v:Value} (h:JE d=true) (hr:AJ M w d ρ v):v= .int .i64 (Gx d):=by
 unfold JE at h;split at h
 ·exact hr
 ·cases h
theorem qQ {M:Nat -> Prop} {d:DV} {v:Value} (h:XB d=true) (hr:AJ M w d ρ v):v= .bool (RO d):=by
 unfold XB at h;split at h
 ·exact hr
 ·cases h
theorem w6 {M:Nat -> Prop} {k:EK} {ds:List DV} {o:DO} {vs:List Value} (hk:0<k.cells) (h:N8 k ds=some o) (hl:vs.length=ds.length) (hv: ∀ i,i<ds.length -> AJ M w (ds.getD i .any) ρ (vs.getD i undef)):
 (∀ v∈vs,v.cells.size=k.cells)/\ ∀ M' (w':World) ρ',BM M w ρ M' w' ρ' -> ∀ (cs:Array Value) (t:TypeId) (p:AI),cs.toList=(vs.flatMap fun v=>v.cells.toList) -> AS w' p (ds.length*k.cells) (fun j u=>cs[j]? =some u) -> Cp P M' w' ρ' p o:=by
 have one: ∀ {j:Nat},k.cells=1 -> j<ds.length*k.cells -> (∀ v∈vs,v.cells.size=k.cells) -> ∀ {u},(vs.flatMap fun v=>v.cells.toList)[j]? =some u -> (vs[j]?).bind (fun v=>v.cells[0]?)=some u:=fun {j} h1 hj hs {u} hu=>by
  rw [h1] at hj hs;have:=YZ (s:=1) (by omega) vs hs j 0 (by omega) (by omega);rw [zD,zAO] at this;rw [←this];exact hu
 have mem: ∀ v∈vs,∃ i,i<ds.length/\ v=vs.getD i undef/\ vs[i]? =some v:=fun v hv=>by
  obtain ⟨i,hi,rfl⟩:=zX hv;exact ⟨i,by omega,by simp [hi],by simp [hi]⟩
 have Yo: ∀ i,i<ds.length -> ds.getD i .any∈ds:=fun i hi=>by simp [hi]
 cases k with
 | ints=>
  simp only [N8] at h;split at h
  ·rename_i ha;cases h;have hI: ∀ i,i<ds.length -> vs.getD i undef= .int .i64 (Gx (ds.getD i .any)):=fun i hi=>W9 (yL.1 ha _ (Yo i hi)) (hv i hi)
   have hs: ∀ v∈vs,v.cells.size=EK.ints.cells:=fun v QH=>by obtain ⟨i,hi,e,_⟩:=mem v QH;rw [e,hI i hi];rfl
   refine ⟨hs,fun M' w' ρ' O cs t p Dd hr=>?_⟩;have hn:ds.length*EK.ints.cells=(ds.map Gx).length:=by simp [EK.cells]
   rw [hn] at hr;refine AS.out hr rfl fun j u hj hu=>?_
   have BI:j<ds.length:=by simpa using hj
   have h2:=one rfl (by simpa [EK.cells] using BI) hs (u:=u) (by rw [←Dd];simpa using hu);rw [xz (by omega)] at h2;have h3:=hI j BI;have h4:vs.getD j undef=vs[j]:=by simp [hl,BI]
   rw [h4] at h3;simp only [yD,h3] at h2;have:u=Value.int .i64 (Gx (ds.getD j .any)):=by simpa [Value.cells] using h2.symm
   rw [this];simp [BI]
  ·cases h
 | bools=>
  simp only [N8] at h;split at h
  ·rename_i ha;cases h;have hI: ∀ i,i<ds.length -> vs.getD i undef= .bool (RO (ds.getD i .any)):=fun i hi=>qQ (yL.1 ha _ (Yo i hi)) (hv i hi)
   have hs: ∀ v∈vs,v.cells.size=EK.bools.cells:=fun v QH=>by obtain ⟨i,hi,e,_⟩:=mem v QH;rw [e,hI i hi];rfl
   refine ⟨hs,fun M' w' ρ' O cs t p Dd hr=>?_⟩;have hn:ds.length*EK.bools.cells=(ds.map RO).length:=by simp [EK.cells]
   rw [hn] at hr;refine AS.out hr rfl fun j u hj hu=>?_
   have BI:j<ds.length:=by simpa using hj
   have h2:=one rfl (by simpa [EK.cells] using BI) hs (u:=u) (by rw [←Dd];simpa using hu);rw [xz (by omega)] at h2;have h3:=hI j BI;have h4:vs.getD j undef=vs[j]:=by simp [hl,BI]
   rw [h4] at h3;simp only [yD,h3] at h2;have:u=Value.bool (RO (ds.getD j .any)):=by simpa [Value.cells] using h2.symm
   rw [this];simp [BI]
  ·cases h
 | gen m=>
  simp only [N8] at h;split at h
  ·rename_i ha;cases h;have hm:0<m:=hk
   have hI: ∀ i,i<ds.length -> ∃ l,Hu (ds.getD i .any)=some l/\ l.length=m/\ (∀ d∈l,My d=true):=fun i hi=>by
    have:=yL.1 ha _ (Yo i hi);split at this
    ·rename_i l hl;simp only [yG,yk] at this;exact ⟨l,hl,this.1,fun d hd=>yL.1 this.2 d hd⟩
    ·cases this
   have hs: ∀ v∈vs,v.cells.size=(EK.gen m).cells:=fun v QH=>by
    obtain ⟨i,hi,e,_⟩:=mem v QH;obtain ⟨l,h1,h2,_⟩:=hI i hi;rw [e,(Q6 h1 (hv i hi)).1,h2];rfl
   refine ⟨hs,fun M' w' ρ' O cs t p Dd hr=>?_⟩;refine AS.out hr rfl fun j u hj hu=>?_
   have tr:j<ds.length*m:=hj;have hi:j/m<ds.length:=by rw [zAC hm];exact tr
   have hc:j % m<m:=zA8 _ hm;obtain ⟨l,h1,h2,h3⟩:=hI (j/m) hi;have h4:=YZ (s:=m) hm vs hs (j/m) (j % m) (by omega) hc;rw [show j/m*m+j % m=j by rw [zu];exact Nat.div_add_mod j m] at h4;obtain ⟨_,h5⟩:=Q6 h1 (hv (j/m) hi);obtain ⟨u',g1,g2⟩:=h5 (j % m) (by omega);have h6:vs.getD (j/m) undef=vs[j/m]'(by omega):=by simp [hl,hi]
   have AK:j/m<vs.length:=by omega
   rw [xz AK] at h4;rw [h6] at g1
   have:u=u':=by
    have BR:(vs.flatMap fun v=>v.cells.toList)[j]? =some u:=by rw [←Dd];simpa using hu
    rw [h4] at BR;simp only [yD] at BR;rw [g1] at BR;exact (yK BR).symm
   subst this;simp only [h1];refine AJ.out _ O.nil (WM (h3 _ ?_) g2);simp [h2,hc]
  ·cases h
theorem V5 {cs:Array Value} {t:TypeId} {w1:World} (hs:w1.heap.size=w.heap.size) {n:Nat} (hn:cs.size=n):AS (w1.alloc (.cells cs t)) (Da w n) n (fun j u=>cs[j]? =some u):=by
 subst hn;exact LA hs (yf _) fun j hj=>⟨cs[j],by simp [hj],by simp [hj]⟩
def Uo (parts:List (Nat×Operand)) (len:Nat):Bool:=parts.map (·.1)==List.range len
theorem wG {parts:List (Nat×Operand)} {len:Nat} (h:Uo parts len=true) (f:Operand -> Value):parts.length=len/\ (parts.map fun x=>(x.1,f x.2))=((parts.map fun x=>f x.2).zipIdx 0).map fun x=>(x.2,x.1):=by
 simp only [Uo,yk] at h;have hl:parts.length=len:=by have:=congrArg List.length h;simpa using this
 refine ⟨hl,List.ext_getElem? fun i=>?_⟩
 by_cases hi:i<parts.length
 ·have h1:parts[i].1=i:=by
   have h2:=congrArg (fun l:List Nat=>l[i]?) h;have h3:(List.range len)[i]? =some i:=zy (by omega);simp only [yS,xz hi,yi,h3] at h2;exact yK h2
  simp [hi,h1]
 ·rw [yx (by simpa using hi),yx (by simpa using hi)]
theorem w5 (R:AX P Γ N S ρ a w) {t:TypeId} {len:Nat} {parts:Array (Nat×Operand)} {k:EK} {e:TypeId} {i:TypeInfo} {z:Value} {ob:DO} (hk:Kd P t=some (k,e,i,z)) (hd:Uo parts.toList len=true) (Ae:len<=65536/\ k.cells<=64)
 (hb:N8 k (parts.toList.map fun x=>AY S.fr x.2)=some ob) (o:Oper) (ho:o.op= .buildSlice t len parts) (ext:Bool):
 BN P (execOp a.eval o) w (C9 P Γ N S.h ρ w ext (.msl S.h.length k.cells 0 len) (S.h++[some ob])):=by
 obtain ⟨hu,hi,hz,h0,Cw,D8,_,_⟩:=Uk hk;obtain ⟨FN,sB⟩:=wG hd a.eval;have te:=Ae.1;have tc:=Ae.2;have Hj:0<k.cells:=by omega
 obtain ⟨hs,QL⟩:=w6 (w:=w) (M:=MS N S.h ρ) (ρ:=ρ) (vs:=parts.toList.map fun x=>a.eval x.2) Hj hb (by simp) (fun j hj=>by
  have BI:j<parts.toList.length:=by simpa using hj
  have:=Bj R parts.toList[j].2;simp only [u8,yS,xz BI,yi,z6];exact this)
 have FM:(parts.toList.map fun x=>a.eval x.2).length=len:=by simpa using FN
 have BP:((parts.toList.map fun x=>a.eval x.2).flatMap fun v=>v.cells.toList).toArray.size=len*k.cells:=by
  have: ∀ (l:List Value),(∀ v∈l,v.cells.size=k.cells) -> (l.flatMap fun v=>v.cells.toList).length=l.length*k.cells:=by
   intro l
   induction l with
   | nil=>intro _;simp
   | cons v l ih=>intro h;rw [zAu,yu,ih (fun v hv=>h v (by simp [hv])),zQ,zAf];have:=h v (by simp);simp [this];omega
  simp only [zAv];rw [this _ hs,FM]
 refine BN.value (s:=Instr.buildSlice t len (parts.map fun (i,x)=>(i,a.eval x))) (by unfold execOp;rw [ho]) (v:=.slice (some ⟨w.heap.size,0,none⟩) len len) (w':=w.alloc (.cells ((parts.toList.map fun x=>a.eval x.2).flatMap fun v=>v.cells.toList).toArray e)) ?_ ?_
 ·have rW: ¬ len*i.size>2 ^ 24:=by
   have:len*i.size<=65536*64:=Nat.mul_le_mul te (by omega);omega
  by_cases X5:len=0
  ·subst X5
   have hp:parts= #[]:=by
    have:parts.toList= []:=zJ FN;cases parts;simp at this;simp [this]
   subst hp;have DP:Array.map (fun (x:Nat)=>(default:Value)) (Array.range 0)= #[]:=by simp [Array.range_zero']
   simp [Instr.buildSlice,zA hu,sizeOf,typeInfo,hi,newRow,Instr.fill,Array.range_zero']
  ·have tM: ¬ len*i.size=0:=by rw [Nat.mul_eq_zero];omega
   refine run_buildSlice w t e len _ _ i z hu hi hz rW tM ?_;have e1:(parts.map fun (i,x)=>(i,a.eval x)).toList=parts.toList.map fun x=>(x.1,a.eval x.2):=by simp
   rw [e1,sB];exact Great.fill_whole (s:=i.size) (by omega) _ _ (fun v hv=>by rw [hs v hv,D8]) (by rw [FM,Array.size_map,Array.size_range])
 ·have:=Nd (d:=.msl S.h.length k.cells 0 len) (o:=ob) (v:=.slice (some ⟨w.heap.size,0,none⟩) len len) (cs:=((parts.toList.map fun x=>a.eval x.2).flatMap fun v=>v.cells.toList).toArray) (t:=e) R.hr ⟨Ar.refl w,rfl⟩
   (fun M ρ' O=>QL _ _ _ O ((parts.toList.map fun x=>a.eval x.2).flatMap fun v=>v.cells.toList).toArray e _ rfl (by rw [BP,yr,FN];exact V5 (w:=w) (w1:=w) (t:=e) rfl BP))
   (fun M ρ' hp=>⟨_,len,hp,by simp [Da],yf _,by unfold LB;omega,by simp only [Da];rw [BP];omega⟩) ext
  exact this
def dW (k:EK) (n:Nat) (z:Value):DO:=match k with
 | .ints=>.ints (List.replicate n 0)
 | .bools=>.bools (List.replicate n false)
 | .gen m=>.arr m n (fun _ j=>(z.cells.toList.map E1).getD j .any)
theorem pP (R:AX P Γ N S ρ a w) {t:TypeId} {x y:Operand} {k:EK} {e:TypeId} {i:TypeInfo} {z:Value} {kx ky:IntKind} {n:Int} (hk:Kd P t=some (k,e,i,z)) (hx:AY S.fr x= .int kx n) (hy:AY S.fr y= .int ky n)
 (hn:0<=n/\ n<=1000000000000) (EP:i.bytes<=128) (o:Oper) (ho:o.op= .makeSlice t x y) (ext:Bool):
 BN P (execOp a.eval o) w (C9 P Γ N S.h ρ w ext (.msl S.h.length k.cells 0 n.toNat) (S.h++[some (dW k n.toNat z)])):=by
 obtain ⟨hu,hi,hz,h0,Cw,D8,qv,XO⟩:=Uk hk;have G4:=hn.1;have Ic:=hn.2;have rx:=Bj R x;have ry:=Bj R y;rw [hx] at rx;rw [hy] at ry;have Dd:(madeCells z.cells (n.toNat*i.size)).size=n.toNat*k.cells:=by rw [size_madeCells,D8]
 refine BN.value (s:=Instr.makeSlice t (a.eval x) (a.eval y)) (by unfold execOp;rw [ho]) (v:=.slice (some ⟨w.heap.size,0,none⟩) n.toNat n.toNat) (w':=w.alloc (.cells (madeCells z.cells (n.toNat*i.size)) e)) ?_ ?_
 ·rw [show a.eval x=_ from rx,show a.eval y=_ from ry];refine run_make w t e i z hu hi hz kx ky n n G4 (zV _) ?_ (by omega);have:(i.bytes:Int)*n<=128*1000000000000:=Int.mul_le_mul (by omega) Ic G4 (by omega);omega
 ·refine Nd (d:=.msl S.h.length k.cells 0 n.toNat) R.hr ⟨Ar.refl w,rfl⟩ (fun M ρ' O=>?_) (fun M ρ' hp=>⟨_,n.toNat,hp,by simp [Da],yf _,by unfold LB;omega,by simp only [Da];rw [Dd];omega⟩) ext;have hr:=V5 (w:=w) (w1:=w) (t:=e) rfl Dd;rw [Dd]
  have C1: ∀ j u,j<n.toNat*k.cells -> (madeCells z.cells (n.toNat*i.size))[j]? =some u -> z.cells[j % z.cells.size]? =some u:=by
   intro j u hj BR;have AK:j % z.cells.size<z.cells.size:=zA8 _ (by omega);simp only [madeCells] at BR;have BI:j<n.toNat*i.size:=by rw [←D8];exact hj
   simp [BI] at BR;rw [←BR];simp [AK]
  cases k with
  | ints=>
   have QA:=qv rfl;subst QA
   show AS _ _ (List.replicate n.toNat (0:Int)).length _
   rw [yY];simp only [EK.cells,zD] at hr C1 ⊢;refine AS.out hr rfl fun j u hj BR=>?_
   have:=C1 j u hj BR;have e1:j % (Value.cells (.int .i64 0)).size=0:=by simp [Value.cells,Nat.mod_one]
   rw [e1] at this;simp [Value.cells] at this;rw [←this];simp [hj]
  | bools=>
   have QA:=XO rfl;subst QA
   show AS _ _ (List.replicate n.toNat false).length _
   rw [yY];simp only [EK.cells,zD] at hr C1 ⊢;refine AS.out hr rfl fun j u hj BR=>?_
   have:=C1 j u hj BR;have e1:j % (Value.cells (.bool false)).size=0:=by simp [Value.cells,Nat.mod_one]
   rw [e1] at this;simp [Value.cells] at this;rw [←this];simp [hj]
  | gen m=>
   refine AS.out hr rfl fun j u hj BR=>?_
   have h1:=C1 j u hj BR;have hm:m=z.cells.size:=by rw [Cw];exact D8
   have h2:j % m<z.cells.toList.length:=by rw [hm];simpa using zA8 _ (by omega)
   have h3:(z.cells.toList.map E1).getD (j % m) .any=E1 u:=by
    rw [u8,yS];have:z.cells.toList[j % m]? =some u:=by rw [←h1,hm];simp
    rw [this];rfl
   show AJ M _ ((z.cells.toList.map E1).getD (j % m) .any) [] u
   rw [h3];exact Ph u
end
end Go.Proofs.YtekkngkphejfcaaGreatDoor
namespace Go.Proofs.YtekkngkphejfcaaGreatDoor
abbrev zc:=@List.nil_append
abbrev zk:=@List.foldl_cons
abbrev zo:=@Array.getElem?_append_left
abbrev zAD:=@Array.getElem?_modify
abbrev zAF:=@List.length_range
abbrev zAy:=@List.getElem?_toArray
end Go.Proofs.YtekkngkphejfcaaGreatDoor
namespace Go.Proofs.YtekkngkphejfcaaGreatDoor
open Go.RowKit
section
variable {P:Program} {Γ:Au} {N:Nat -> Prop} {S:St} {ρ:List AI} {a:Act} {w:World} {h:DH}
theorem Qe (b:Nat) (t:TypeId) (z:Nat×Nat): ∀ (vs:List Value) (o:Nat) (w:World) (EE:Array Value),w.heap[b]? =some (.cells EE t z) -> o+vs.length<=EE.size ->
 ∃ Q7,(w.setCells b o vs).heap[b]? =some (.cells Q7 t z)/\ Q7.size=EE.size/\ ∀ k,Q7[k]? =if o<=k/\ k<o+vs.length then vs[k-o]? else EE[k]?
 | [],o,w,EE,hb,_=>⟨EE,hb,rfl,fun k=>by rw [yM];simp only [za];omega⟩
 | v::vs,o,w,EE,hb,hl=>by
  have Dt:o+(vs.length+1)<=EE.size:=hl;obtain ⟨Q7,h1,h2,h3⟩:=Qe b t z vs (o+1) (w.setCell ⟨b,o,none⟩ v) (EE.setIfInBounds o v) (by simp [World.setCell,zAD,hb]) (by simp;omega);refine ⟨Q7,h1,by simpa using h2,fun k=>?_⟩;rw [h3 k,zQ]
  by_cases e:k=o
  ·subst e;rw [yM (by omega),yC (by omega),zb,yC rfl,yC (by omega),Nat.sub_self];rfl
  ·by_cases e2:o+1<=k/\ k<o+1+vs.length
   ·rw [yC e2,yC (by omega),show k-o=(k-(o+1))+1 by omega];simp
   ·rw [yM e2,yM (by omega)];rw [zb,yM (by omega)]
theorem OU (b:Nat): ∀ (vs:List Value) (o:Nat) (w:World),AM (fun k=>k=b) w (w.setCells b o vs)
 | [],_,w=>AM.refl _ w
 | v::vs,o,w=>((AM.refl (fun k=>k=b) w).setCell (p:=⟨b,o,none⟩) (fun _=>rfl) v).trans (OU b vs (o+1) (w.setCell ⟨b,o,none⟩ v))
theorem AS.writes {p:AI} {n:Nat} {R R':Nat -> Value -> Prop} (hr:AS w p n R) {o:Nat} {vs:List Value} (hl:o+vs.length<=n) (h1: ∀ i v,vs[i]? =some v -> R' (o+i) v)
 (h2: ∀ i u,i<n -> (i<o∨o+vs.length<=i) -> R i u -> R' i u):AS (w.setCells p.blk (p.off+o) vs) p n R':=by
 obtain ⟨g1,cs,t,g2,g3,g4,g5⟩:=hr;obtain ⟨EV,e1,e2,e3⟩:=Qe p.blk t (0,0) vs (p.off+o) w cs g2 (by omega);refine ⟨g1,EV,t,e1,by omega,by omega,fun j hj=>?_⟩;rw [e3]
 by_cases e:p.off+o<=p.off+j/\ p.off+j<p.off+o+vs.length
 ·rw [yC e];have hi:p.off+j-(p.off+o)<vs.length:=by omega
  refine ⟨vs[p.off+j-(p.off+o)],by simp [hi],?_⟩;have:=h1 (p.off+j-(p.off+o)) _ (by simp [hi]:vs[p.off+j-(p.off+o)]? =some vs[p.off+j-(p.off+o)])
  rwa [show o+(p.off+j-(p.off+o))=j by omega] at this
 ·rw [yM e];obtain ⟨u,e4,e5⟩:=g5 j hj;exact ⟨u,e4,h2 j u hj (by omega) e5⟩
def K2 (l:List DV) (o:Nat) (ds:List DV):List DV:=(ds.zipIdx).foldl (fun cs x=>cs.set (o+x.2) x.1) l
theorem Vq: ∀ (ds:List DV) (k o:Nat) (l:List DV),((ds.zipIdx k).foldl (fun cs x=>cs.set (o+x.2) x.1) l).length=l.length/\
 ∀ j,j<l.length -> ((ds.zipIdx k).foldl (fun cs x=>cs.set (o+x.2) x.1) l).getD j .any=if o+k<=j/\ j<o+k+ds.length then ds.getD (j-(o+k)) .any else l.getD j .any
 | [],k,o,l=>⟨rfl,fun j _=>by
  rw [yM]
  ·rfl
  ·simp only [za];omega⟩
 | d::ds,k,o,l=>by
  obtain ⟨h1,h2⟩:=Vq ds (k+1) o (l.set (o+k) d);rw [List.zipIdx_cons,zk];refine ⟨by rw [h1];simp,fun j hj=>?_⟩;rw [h2 j (by simpa using hj),zQ]
  by_cases e:j=o+k
  ·subst e;rw [yM (by omega),yC (by omega)];simp [hj]
  ·by_cases e2:o+(k+1)<=j/\ j<o+(k+1)+ds.length
   ·rw [yC e2,yC (by omega),show j-(o+k)=(j-(o+(k+1)))+1 by omega];simp
   ·rw [yM e2,yM (by omega)];simp only [u8,ym];rw [yM (by omega)]
theorem Vp (l:List DV) (o:Nat) (ds:List DV):(K2 l o ds).length=l.length:=(Vq ds 0 o l).1
theorem Vr (l:List DV) (o:Nat) (ds:List DV) {j:Nat} (hj:j<l.length):(K2 l o ds).getD j .any=if o<=j/\ j<o+ds.length then ds.getD (j-o) .any else l.getD j .any:=by
 have:=(Vq ds 0 o l).2 j hj;simpa [K2] using this
def Kz (P:Program) (S:St) (t:TypeId) (x d:DV):Option (DH×Prop):=match x with
 | .ref k j=>match S.h[k]? with
  | some (some (.cells l))=>match Hu d with
   | some ds=>if P.info? t |>.any (fun i=>i.size==ds.length) then (if ds.all LR&&decide (j+ds.length<=l.length) then some (S.h.set k (some (.cells (K2 l j ds))),True) else none) else none
   | none=>none
  | _=>none
 | .mp k m i j=>if P.info? t |>.any (fun i=>i.size==1) then match S.h[k]? with
  | some (some (.ints l))=>match d with
   | .int .i64 n=>if m==1&&j==0 then some (S.h.set k (some (.ints (l.set i n))),i<l.length) else none
   | _=>none
  | some (some (.bools l))=>match d with
   | .bool b=>if m==1&&j==0 then some (S.h.set k (some (.bools (l.set i b))),i<l.length) else none
   | _=>none
  | some (some (.arr m' n f))=>if My d&&(m==m')&&decide (j<m) then some (S.h.set k (some (.arr m n (fun i' j'=>if i'=i/\ j'=j then d else f i' j'))),i<n) else none
  | _=>none
  else none
 | _=>none
theorem oC {d:DV} (h:My d=true):LR d=true:=by cases d <;> first | rfl | cases h
theorem bQ {t:TypeId} {i:TypeInfo} {b o:Nat} {v:Value} (hi:P.info? t=some i) (hs:v.cells.size=i.size) (hc: ∀ j,j<v.cells.size -> (w.cell? ⟨b,o+j,none⟩).isSome=true) (hf: ∀ j,w.frozen? ⟨b,j,none⟩=false) (h1: ∀ u∈v.cells.toList,u.oneCell'=true):
 (Instr.storeAt t (.pointer (some ⟨b,o,none⟩)) v).run P w= .ok () (w.setCells b o v.cells.toList):=by
 have E4:=run_storeCells_cells (P:=P) b o v.cells.toList 0 w (by simpa using hc) (by simpa using fun j _=>hf _) h1;simp only [zAO] at E4;simp [Instr.storeAt,Instr.sureAddr,storeVar,IK hi,hs,E4]
theorem UN {α:Type} {l:List α} {i:Nat} {x d:α} (h:l[i]? =some x):l.getD i d=x:=by rw [u8,h];rfl
theorem Rz (R:AX P Γ N S ρ a w) {k:Nat} {ob ob':DO} {p:AI} (hk:S.h[k]? =some (some ob)) (hp:ρ[k]? =some p) {n:Nat} {Rw:Nat -> Value -> Prop} (hr:AS w p n Rw) {o':Nat} {v:Value} {t:TypeId} {i:TypeInfo}
 (hi:P.info? t=some i) (hs:v.cells.size=i.size) (hl:o'+v.cells.size<=n) (h1: ∀ u∈v.cells.toList,u.oneCell'=true)
 (G3: ∀ M ρ' w',BM (MS N S.h ρ) w ρ M w' ρ' -> w'=w.setCells p.blk (p.off+o') v.cells.toList -> Cp P M w' ρ' p ob')
 (o:Oper) (tx x:Operand) (ho:o.op= .store t tx x) (hx:a.eval tx= .pointer (some ⟨p.blk,p.off+o',none⟩)) (hv:a.eval x=v):
 BN P (execOp a.eval o) w (C9 P Γ N S.h ρ w false .any (S.h.set k (some ob'))):=by
 have Dc:p.foot=fun b=>b=p.blk:=hr.1
 have hu:AM p.foot w (w.setCells p.blk (p.off+o') v.cells.toList):=by rw [Dc];exact OU _ _ _ _
 refine BN.skip (s:=Instr.storeAt t (a.eval tx) (a.eval x)) (by unfold execOp;rw [ho]) (w':=w.setCells p.blk (p.off+o') v.cells.toList) ?_ ?_
 ·rw [hx,hv];refine bQ hi hs (fun j hj=>?_) (fun j=>hr.frozen j) h1;obtain ⟨u,hc,_⟩:=hr.cell (j:=o'+j) (by omega);rw [zB,hc];rfl
 ·have C1: ∀ b,p.foot b -> Dh (w.setCells p.blk (p.off+o') v.cells.toList) b:=fun b hb=>by
   rw [Dc] at hb;obtain ⟨_,cs,t',g2,g3,_⟩:=hr;obtain ⟨c,e1,_⟩:=Qe p.blk t' (0,0) v.cells.toList (p.off+o') w cs g2 (by simp;omega);exact .cells (c:=c) (t:=t') (z:=(0,0)) (by rw [show b=p.blk from hb];exact e1)
  exact ⟨⟨ρ,R.hr.write hk hp hu C1 (G3 _ _ _ (BM.write trivial hk hp hu) rfl),trivial,A8.write hk hp hu,fun _ _ h=>h⟩,fun h=>by cases h⟩
theorem ao (R:AX P Γ N S ρ a w) {t:TypeId} {tx x:Operand} {h':DH} {vc:Prop} (hd:Kz P S t (AY S.fr tx) (AY S.fr x)=some (h',vc)) (hv:vc) (o:Oper) (ho:o.op= .store t tx x):
 BN P (execOp a.eval o) w (C9 P Γ N S.h ρ w false .any h'):=by
 have rx:=Bj R tx;have rv:=Bj R x;unfold Kz at hd;split at hd
 ·rename_i k j e;rw [e] at rx;obtain ⟨p,hp,hx⟩:=rx;split at hd
  ·rename_i l hk;obtain ⟨p',A6,hr⟩:=R.hr.obj k _ hk;have e:p'=p:=yK (A6.symm.trans hp);subst e;split at hd
   ·rename_i ds E6;split at hd
    ·rename_i A2;split at hd
     ·rename_i hc;cases hd;simp only [yG,yg] at hc;cases hi:P.info? t with
      | none=>rw [hi] at A2;cases A2
      | some i=>
       rw [hi] at A2;have NL:i.size=ds.length:=by simpa using A2
       obtain ⟨c1,c2⟩:=Q6 E6 rv
       have tO: ∀ u∈(a.eval x).cells.toList,u.oneCell'=true:=fun u hu=>by
        obtain ⟨q,hq,rfl⟩:=zX hu;have Ls:q<ds.length:=by rw [←c1];simpa using hq
        obtain ⟨u,g1,g2⟩:=c2 q Ls;have h3:=yL.1 hc.1 (ds.getD q .any) (by simp [Ls]);have h4:=(TF h3 g2).1
        have:(a.eval x).cells.toList[q]=u:=by
         have F5:q<(a.eval x).cells.size:=by simpa using hq
         rw [zN F5] at g1;simpa using yK g1
        rw [this];exact h4
       refine Rz R hk hp hr hi (by omega) (o':=j) (by omega) tO (fun M ρ' w' O Lo=>?_) o tx x ho hx rfl;subst Lo
       show AS _ _ (K2 l j ds).length _
       rw [Vp];refine AS.writes hr (by simp;omega) (fun q v hq=>?_) (fun q u hq F5 hu=>?_)
       ·have NR:q<(a.eval x).cells.size:=by have:=(yJ.1 hq).1;simpa using this
        have Ls:q<ds.length:=by omega
        obtain ⟨u,g1,g2⟩:=c2 q Ls
        have:u=v:=by
         have:(a.eval x).cells[q]? =some v:=by simpa using hq
         rw [this] at g1;exact (yK g1).symm
        subst this;rw [Vr l j ds (by omega),yC (by omega),show j+q-j=q by omega];exact g2.out _ O
       ·rw [Vr l j ds hq,yM (by simp at F5;omega)];exact hu.out _ O
     ·cases hd
    ·cases hd
   ·cases hd
  ·cases hd
 ·rename_i k m i j e;rw [e] at rx;obtain ⟨p,hp,hx⟩:=rx;split at hd
  ·rename_i A2;cases hi:P.info? t with
   | none=>rw [hi] at A2;cases A2
   | some ti=>
    rw [hi] at A2;have NL:ti.size=1:=by simpa using A2
    split at hd
    ·rename_i l hk;obtain ⟨p',A6,hr⟩:=R.hr.obj k _ hk;have e:p'=p:=yK (A6.symm.trans hp);subst e;split at hd
     ·rename_i n ed;split at hd
      ·rename_i hm;cases hd;simp only [yG,yk] at hm;obtain ⟨rfl,rfl⟩:=hm;rw [ed] at rv;have Vz:a.eval x= .int .i64 n:=rv;refine Rz R hk hp hr hi (v:=.int .i64 n) (by rw [NL];rfl) (o':=i) (by simp [Value.cells];omega) (by simp [Value.cells,Value.oneCell']) (fun M ρ' w' O Lo=>?_) o tx x ho (by simpa using hx) Vz;subst Lo
       show AS _ _ (l.set i n).length _
       rw [yp];refine AS.writes hr (by simp [Value.cells];omega) (fun q v hq=>?_) (fun q u hq F5 hu=>?_)
       ·have:q=0:=by have:=(yJ.1 hq).1;simpa [Value.cells] using this
        subst this;have:v= .int .i64 n:=by simpa [Value.cells] using hq.symm
        rw [this];have Cd:i<l.length:=hv;simp [Cd]
       ·rw [hu];simp only [Value.cells,zQ,za] at F5;rw [u8,u8,ym,yM (by simp at F5;omega)]
      ·cases hd
     ·cases hd
    ·rename_i l hk;obtain ⟨p',A6,hr⟩:=R.hr.obj k _ hk;have e:p'=p:=yK (A6.symm.trans hp);subst e;split at hd
     ·rename_i n ed;split at hd
      ·rename_i hm;cases hd;simp only [yG,yk] at hm;obtain ⟨rfl,rfl⟩:=hm;rw [ed] at rv;have Vz:a.eval x= .bool n:=rv;refine Rz R hk hp hr hi (v:=.bool n) (by rw [NL];rfl) (o':=i) (by simp [Value.cells];omega) (by simp [Value.cells,Value.oneCell']) (fun M ρ' w' O Lo=>?_) o tx x ho (by simpa using hx) Vz;subst Lo
       show AS _ _ (l.set i n).length _
       rw [yp];refine AS.writes hr (by simp [Value.cells];omega) (fun q v hq=>?_) (fun q u hq F5 hu=>?_)
       ·have:q=0:=by have:=(yJ.1 hq).1;simpa [Value.cells] using this
        subst this;have:v= .bool n:=by simpa [Value.cells] using hq.symm
        rw [this];have Cd:i<l.length:=hv;simp [Cd]
       ·rw [hu];simp only [Value.cells,zQ,za] at F5;rw [u8,u8,ym,yM (by simp at F5;omega)]
      ·cases hd
     ·cases hd
    ·rename_i m' n f hk;obtain ⟨p',A6,hr⟩:=R.hr.obj k _ hk;have e:p'=p:=yK (A6.symm.trans hp);subst e;split at hd
     ·rename_i hm;cases hd;simp only [yG,yk,yg] at hm;obtain ⟨⟨FN,rfl⟩,hj⟩:=hm;have Cd:i<n:=hv;obtain ⟨o1,o2⟩:=TF (oC FN) rv
      have XK:i*m+j<n*m:=by
       have:(i+1)*m<=n*m:=zg _ Cd;rw [zAf] at this;omega
      have AC:0<m:=by omega
      refine Rz R hk hp hr hi (v:=a.eval x) (by rw [NL,o2];rfl) (o':=i*m+j) (by rw [o2];simp;omega) (by rw [o2];simp [o1]) (fun M ρ' w' O Lo=>?_) o tx x ho hx rfl;subst Lo;refine AS.writes hr (by rw [o2];simp;omega) (fun q v hq=>?_) (fun q u hq F5 hu=>?_)
      ·rw [o2] at hq;have:q=0:=by have:=(yJ.1 hq).1;simpa using this
       subst this;have:v=a.eval x:=by simpa using hq.symm
       rw [this,zAO];have e1:(i*m+j)/m=i:=by rw [zu,Nat.mul_add_div AC,Nat.div_eq_of_lt hj,zAO]
       have e2:(i*m+j) % m=j:=by rw [zu,Nat.mul_add_mod,zAg hj]
       show AJ M _ (if (i*m+j)/m=i/\ (i*m+j) % m=j then AY S.fr x else f ((i*m+j)/m) ((i*m+j) % m)) [] _
       rw [yC ⟨e1,e2⟩];exact AJ.out _ O.nil (WM FN rv)
      ·rw [o2] at F5;simp at F5
       have: ¬ (q/m=i/\ q % m=j):=fun ⟨e1,e2⟩=>by
        have:=Nat.div_add_mod q m;rw [e1,e2,zu] at this;omega
       show AJ M _ (if q/m=i/\ q % m=j then AY S.fr x else f (q/m) (q % m)) [] _
       rw [yM this];exact AJ.out _ O.nil hu
     ·cases hd
    ·cases hd
  ·cases hd
 ·cases hd
theorem MO.kill {k:Nat} {b:Nat} (hb:MO (h.set k none) ρ b):MO h ρ b:=MO.unset hb
theorem FT {k i:Nat} {o:DO} (hi:(h.set k none)[i]? =some (some o)):i≠k/\ h[i]? =some (some o):=by
 rw [ym] at hi
 by_cases e:k=i
 ·rw [yC e] at hi;split at hi <;> cases hi
 ·rw [yM e] at hi;exact ⟨zAe e,hi⟩
theorem BK.kill (H:BK P Γ N h ρ w) (k:Nat):BK P Γ N (h.set k none) ρ w:=by
 have O:BM (MS N h ρ) w ρ (MS N (h.set k none) ρ) w ρ:=⟨fun _ _ _ _=>rfl,fun b hb=>.inl (hb.imp id MO.kill),fun _ _ h=>h⟩;refine ⟨by simp [H.len],fun i o hi=>?_,fun i o p b h1 h2 h3=>H.cel i o p b (FT h1).2 h2 h3,fun i i' o o' p p' b AV h1 h2 h3 h4 h5 h6=>H.dis i i' o o' p p' b AV (FT h1).2 (FT h2).2 h3 h4 h5 h6,H.nlt,H.gi⟩;obtain ⟨p,hp,hr⟩:=H.obj i o (FT hi).2;exact ⟨p,hp,hr.out O (S:=fun _=>False) (AM.refl _ w) (fun _ h=>h.elim) (fun _ _ _ h=>h)⟩
theorem BM.kill (k:Nat):BM (MS N h ρ) w ρ (MS N (h.set k none) ρ) w ρ:=⟨fun _ _ _ _=>rfl,fun b hb=>.inl (hb.imp id MO.kill),fun _ _ h=>h⟩
theorem A8.kill (k:Nat):A8 h ρ w (h.set k none) ρ w:=⟨AM.refl _ w,fun b hb=>.inl (MO.kill hb)⟩
theorem BK.regrow (H:BK P Γ N h ρ w) {w':World} {k:Nat} {o o':DO} {p p':AI} (hk:h[k]? =some (some o)) (hp:ρ[k]? =some p) (hu:AM p.foot w w') (hf: ∀ b,p'.foot b -> (p.foot b∨w.heap.size<=b)/\ Dh w' b)
 (ho:Cp P (MS N (h.set k none++[some o']) (ρ++[p'])) w' (ρ++[p']) p' o'):
 BK P Γ N (h.set k none++[some o']) (ρ++[p']) w'/\ A8 h ρ w (h.set k none++[some o']) (ρ++[p']) w':=by
 have K:=H.kill k;have Ae:(h.set k none).length=h.length:=by simp
 have hM: ∀ b,p.foot b -> MO h ρ b:=fun b hb=>⟨k,o,p,hk,hp,hb⟩
 have Hf: ∀ {i:Nat} {o1:DO} {p1:AI},(h.set k none++[some o'])[i]? =some (some o1) -> (ρ++[p'])[i]? =some p1 -> (i≠k/\ i<h.length/\ h[i]? =some (some o1)/\ ρ[i]? =some p1)∨(i=h.length/\ o1=o'/\ p1=p'):=by
  intro i o1 p1 h1 h2;rcases C2 h1 with ⟨hl,h1⟩ | ⟨hl,h1⟩
  ·rw [Ae] at hl;rcases C2 h2 with ⟨_,h2⟩ | ⟨CU,_⟩
   ·exact .inl ⟨(FT h1).1,hl,(FT h1).2,h2⟩
   ·rw [H.len] at CU;omega
  ·rw [Ae] at hl;rcases C2 h2 with ⟨CU,_⟩ | ⟨_,h2⟩
   ·rw [H.len] at CU;omega
   ·cases h1;exact .inr ⟨hl,rfl,h2.symm⟩
 have grow: ∀ b,MO (h.set k none++[some o']) (ρ++[p']) b -> MO h ρ b∨w.heap.size<=b:=by
  rintro b ⟨i,o1,p1,h1,h2,h3⟩;rcases Hf h1 h2 with ⟨_,_,g1,g2⟩ | ⟨_,_,rfl⟩
  ·exact .inl ⟨i,o1,p1,g1,g2,h3⟩
  ·exact (hf b h3).1.imp (hM b) id
 have O:BM (MS N h ρ) w ρ (MS N (h.set k none++[some o']) (ρ++[p'])) w' (ρ++[p']):=by
  refine ⟨fun b hb hm _=>hu.block b hb fun hx=>hm (.inr (hM b hx)),fun b hb=>?_,fun i q hi=>De hi⟩;rcases hb with hb | hb
  ·exact .inl (.inl hb)
  ·exact (grow b hb).imp .inr id
 refine ⟨⟨by simp [H.len],fun i o1 hi=>?_,fun i o1 p1 b h1 h2 h3=>?_,fun i i' o1 o2 p1 p2 b AV h1 h2 h3 h4 h5 h6=>?_,fun b hb=>⟨yN (H.nlt b hb).1 hu.size,(H.nlt b hb).2⟩,Γ.st _ _ H.gi (hu.mono fun b _ hb=>(H.cel k o p b hk hp hb).1)⟩,⟨hu.mono fun b _ hb=>hM b hb,grow⟩⟩
 ·rcases C2 hi with ⟨hl,hi⟩ | ⟨hl,hi⟩
  ·obtain ⟨p1,KF,hr⟩:=H.obj i o1 (FT hi).2;refine ⟨p1,De KF,hr.out O hu (fun b hb=>.inr (hM b hb)) fun b _ h1 h2=>H.dis i k o1 o p1 p b (FT hi).1 (FT hi).2 hk KF hp h1 h2⟩
  ·cases hi;exact ⟨p',by rw [hl,Ae,←H.len];simp,ho⟩
 ·rcases Hf h1 h2 with ⟨AV,_,g1,g2⟩ | ⟨_,_,rfl⟩
  ·obtain ⟨e1,e2,c,t,z,e3⟩:=H.cel i o1 p1 b g1 g2 h3;exact ⟨e1,e2,c,t,z,(hu.block b (yE.1 e3).1 fun hx=>H.dis i k o1 o p1 p b AV g1 hk g2 hp h3 hx).trans e3⟩
  ·obtain ⟨e1,e2⟩:=hf b h3;rcases e1 with e1 | e1
   ·obtain ⟨q1,q2,_⟩:=H.cel k o p b hk hp e1;exact ⟨q1,q2,e2⟩
   ·exact ⟨yO (Γ.lo _ H.gi) e1,fun hn=>by have:=H.nlt b hn;omega,e2⟩
 ·have key: ∀ {i o1 p1},i≠k -> h[i]? =some (some o1) -> ρ[i]? =some p1 -> p1.foot b -> p'.foot b -> False:=fun {i o1 p1} AV g1 g2 g3 g4=>by
   rcases (hf b g4).1 with e1 | e1
   ·exact H.dis i k o1 o p1 p b AV g1 hk g2 hp g3 e1
   ·have:=H.lt (.inr ⟨i,o1,p1,g1,g2,g3⟩);omega
  rcases Hf h1 h3 with ⟨QQ,_,g1,g2⟩ | ⟨e1,_,rfl⟩
  ·rcases Hf h2 h4 with ⟨_,_,g3,g4⟩ | ⟨_,_,rfl⟩
   ·exact H.dis i i' o1 o2 p1 p2 b AV g1 g3 g2 g4 h5 h6
   ·exact key QQ g1 g2 h5 h6
  ·rcases Hf h2 h4 with ⟨Lt,_,g3,g4⟩ | ⟨e2,_,rfl⟩
   ·exact key Lt g3 g4 h6 h5
   ·exact AV (e1.trans e2.symm)
def HA (n:Nat) (R:Nat -> Value -> Prop) (Bh:List Value) (j:Nat) (u:Value):Prop:=if j<n then R j u else Bh[j-n]? =some u
theorem ZC {t ty e:TypeId} {i:TypeInfo} {z:Value} (hu:P.underlying t=some (.slice e)) (hi:P.info? e=some i) (hz:i.zero=some z) (Tv:i.size≠0) (Cw:z.cells.size=i.size) (EP:i.bytes<=128)
 {p:AI} {n cap:Nat} {R:Nat -> Value -> Prop} (hr:AS w p (n*i.size) R) (KN:n<=cap) (Tx:p.off+cap*i.size<=p.room)
 {vy:Value} {c:Nat} {Bh:List Value} (hy:Src P i.size t vy c Bh w) (hb:n+c<=1000000000000):
 ∃ w' p' Bp,(Builtin.append_ #[t,t] ty #[.slice (some ⟨p.blk,p.off,none⟩) n cap,vy]).run P w= .ok (.slice (some ⟨p'.blk,p'.off,none⟩) (n+c) Bp) w'/\ n+c<=Bp/\ p'.off+Bp*i.size<=p'.room/\
  AM p.foot w w'/\ (∀ b,p'.foot b -> p.foot b∨w.heap.size<=b)/\ AS w' p' ((n+c)*i.size) (HA (n*i.size) R Bh):=by
 have FP:Bh.length=c*i.size:=hy.newsLen
 by_cases Xi:n+c<=cap
 ·obtain ⟨g1,cs,tt,g2,g3,g4,g5⟩:=hr;have tW:(n+c)*i.size<=cap*i.size:=zg _ Xi;rw [zq] at tW;have fN:p.off+n*i.size+Bh.length<=cs.size:=by omega
  refine ⟨w.setCells p.blk (p.off+n*i.size) Bh,p,cap,run_append_room_src w t t ty e i hu hi p.blk p.off n cap vy c Bh hy Xi (fun j hj=>?_) (fun j _=>by unfold World.frozen?;simp [g2]),Xi,Tx,?_,fun b hb=>.inl hb,?_⟩
  ·unfold World.cell?;simp only [g2];simp;omega
  ·rw [g1];exact OU _ _ _ _
  ·obtain ⟨EV,e1,e2,e3⟩:=Qe p.blk tt (0,0) Bh (p.off+n*i.size) w cs g2 fN;refine ⟨g1,EV,tt,e1,by rw [zq];omega,by omega,fun j hj=>?_⟩;rw [zq] at hj;rw [e3]
   by_cases JM:j<n*i.size
   ·rw [yM (by omega)];obtain ⟨u,q1,q2⟩:=g5 j JM;exact ⟨u,q1,by unfold HA;rw [yC JM];exact q2⟩
   ·rw [yC (by omega)];have AK:j-n*i.size<Bh.length:=by omega
    refine ⟨Bh[j-n*i.size],by rw [show p.off+j-(p.off+n*i.size)=j-n*i.size by omega];simp [AK],?_⟩;unfold HA;rw [yM JM];simp [AK]
 ·obtain ⟨g,hg⟩: ∃ g:Nat -> Value,∀ j,j<n*i.size -> w.cell? ⟨p.blk,p.off+j,none⟩=some (g j)/\ R j (g j):=by
   refine ⟨fun j=>(w.cell? ⟨p.blk,p.off+j,none⟩).getD undef,fun j hj=>?_⟩;obtain ⟨u,h1,h2⟩:=hr.cell hj;simp [h1,h2]
  have KG:(Builtin.firstCells i.size n (.slice (some ⟨p.blk,p.off,none⟩) n cap)).run P w.drew= .ok (((List.range (n*i.size)).map g).toArray) w.drew:=by
   have:=run_loadCells (P:=P) w.drew ⟨p.blk,p.off,none⟩ (n*i.size) g (fun j hj=>by rw [H7];exact ((Ar.toDrew w).cell (hg j hj).1));simpa [Builtin.firstCells] using this
  have tV:(n+c)*i.bytes<=1000000000000*128:=Nat.mul_le_mul hb EP;have NN:=run_append_grow_src (P:=P) w t t ty e i z hu hi hz (some ⟨p.blk,p.off,none⟩) n cap _ KG vy c Bh hy (by omega) (by omega) (growslice_fits (by omega) (by omega));have UA:n+c<=grownCap w (n+c) cap e:=grownCap_ge w (n+c) cap e
  have Dd:((((List.range (n*i.size)).map g)++Bh).toArray++Builtin.zeroCells z.cells (grownCap w (n+c) cap e-(n+c))).size=grownCap w (n+c) cap e*i.size:=by
   simp only [Array.size_append,zAv,yu,yr,zAF,FP,size_zeroCells,Cw,←zq]
   congr 1;omega
  refine ⟨_,Da w (grownCap w (n+c) cap e*i.size),grownCap w (n+c) cap e,NN,UA,by simp [Da],?_,fun b hb=>.inr (zA6 (Eq.symm hb)),?_⟩
  ·exact AM.ofExt ((Ar.toDrew w).allocR _)
  ·refine AS.out (V5 (w:=w) (w1:=w.drew) (t:=e) (cs:=(((List.range (n*i.size)).map g)++Bh).toArray++Builtin.zeroCells z.cells (grownCap w (n+c) cap e-(n+c))) rfl Dd |>fun hr=>?_) rfl (R:=fun j u=>((((List.range (n*i.size)).map g)++Bh).toArray++Builtin.zeroCells z.cells (grownCap w (n+c) cap e-(n+c)))[j]? =some u) fun j u hj BR=>?_
   ·obtain ⟨q1,cs,tt,q2,q3,q4,q5⟩:=hr;have CW:(n+c)*i.size<=grownCap w (n+c) cap e*i.size:=zg _ UA;exact ⟨q1,cs,tt,q2,by omega,q4,fun j hj=>q5 j (by omega)⟩
   ·rw [zq] at hj;unfold HA;have FS:j<(((List.range (n*i.size)).map g)++Bh).length:=by simp;omega
    rw [zo (by simpa using FS)] at BR
    by_cases JM:j<n*i.size
    ·rw [yC JM]
     have:u=g j:=by
      simp only [zAy] at BR;rw [yW (by simpa using JM)] at BR;simp [JM] at BR;exact BR.symm
     rw [this];exact (hg j JM).2
    ·rw [yM JM];simp only [zAy] at BR;rw [yh (by simp;omega)] at BR;simpa using BR
theorem ZE (ad:Option Addr:=none) {t ty e:TypeId} {i:TypeInfo} {z:Value} (hu:P.underlying t=some (.slice e)) (hi:P.info? e=some i) (hz:i.zero=some z) (Cw:z.cells.size=i.size) (EP:i.bytes<=128)
 {vy:Value} {c:Nat} {Bh:List Value} (hy:Src P i.size t vy c Bh w) (hc:0<c) (hb:c<=1000000000000):
 ∃ w' Bp,(Builtin.append_ #[t,t] ty #[.slice ad 0 0,vy]).run P w= .ok (.slice (some ⟨w.heap.size,0,none⟩) c Bp) w'/\ c<=Bp/\ ∃ cs,w'=w.drew.alloc (.cells cs e)/\ cs.size=Bp*i.size/\ ∀ j,j<c*i.size -> cs[j]? =Bh[j]? :=by
 have FP:Bh.length=c*i.size:=hy.newsLen;have KG:(Builtin.firstCells i.size 0 (.slice ad 0 0)).run P w.drew= .ok (([]:List Value).toArray) w.drew:=by cases ad <;> simp [Builtin.firstCells,loadCells,loadCellsFrom]
 have tV:c*i.bytes<=1000000000000*128:=Nat.mul_le_mul hb EP;have NN:=run_append_grow_src (P:=P) w t t ty e i z hu hi hz ad 0 0 [] KG vy c Bh hy (by omega) (by omega) (growslice_fits (by omega) (by rw [yX];omega));rw [yX] at NN;have UA:c<=grownCap w c 0 e:=grownCap_ge w c 0 e;refine ⟨_,_,NN,UA,_,rfl,?_,fun j hj=>?_⟩
 ·simp only [zc,Array.size_append,zAv,FP,size_zeroCells,Cw,←zq]
  congr 1;omega
 ·rw [zo (by simp;omega)];simp
end
end Go.Proofs.YtekkngkphejfcaaGreatDoor
namespace Go.Proofs.YtekkngkphejfcaaGreatDoor
abbrev zK:=@List.mem_map
abbrev zAp:=@Nat.eq_zero_or_pos
abbrev zA0:=@Nat.le_of_not_lt
end Go.Proofs.YtekkngkphejfcaaGreatDoor
namespace Go.Proofs.YtekkngkphejfcaaGreatDoor
open Go.RowKit
def Ta (S:St):DV -> Option (List Int×Prop)
 | .nils=>some ([],True)
 | .ints l=>some (l,True)
 | .msl k m off n=>match S.h[k]? with
  | some (some (.ints l))=>if m==1 then some (l,off=0/\ n=l.length) else none
  | _=>none
 | _=>none
def Y4 (S:St):DV -> Option (List Bool×Prop)
 | .nils=>some ([],True)
 | .bools l=>some (l,True)
 | .msl k m off n=>match S.h[k]? with
  | some (some (.bools l))=>if m==1 then some (l,off=0/\ n=l.length) else none
  | _=>none
 | _=>none
def Yb (S:St) (m:Nat):DV -> Option (Nat×(Nat -> Nat -> DV)×Prop)
 | .nils=>some (0,(fun _ _=>.any),True)
 | .sl m' n f=>if m'==m then some (n,f,True) else none
 | .msl k m' off n=>match S.h[k]? with
  | some (some (.arr m2 n2 f))=>if m'==m&&m2==m then some (n2,f,off=0/\ n=n2) else none
  | _=>none
 | _=>none
def BT:Nat:=1000000000000
def ZI (P:Program) (S:St) (t:TypeId) (x y:DV):Option (DV×DH×Prop):=match Kd P t with
 | some (k,_,i,_)=>if 128<i.bytes then none else match k with
  | .ints=>match Ta S y with
   | some (ys,vy)=>match x with
    | .nils=>some (.msl S.h.length 1 0 ys.length,S.h++[some (.ints ys)],vy/\ 0<ys.length/\ ys.length<=BT)
    | .msl k m off n=>match S.h[k]? with
     | some (some (.ints xs))=>if m==1 then some (.msl S.h.length 1 0 (xs.length+ys.length),S.h.set k none++[some (.ints (xs++ys))],vy/\ (off=0/\ n=xs.length)/\ xs.length+ys.length<=BT) else none
     | _=>none
    | _=>none
   | none=>none
  | .bools=>match Y4 S y with
   | some (ys,vy)=>match x with
    | .nils=>some (.msl S.h.length 1 0 ys.length,S.h++[some (.bools ys)],vy/\ 0<ys.length/\ ys.length<=BT)
    | .msl k m off n=>match S.h[k]? with
     | some (some (.bools xs))=>if m==1 then some (.msl S.h.length 1 0 (xs.length+ys.length),S.h.set k none++[some (.bools (xs++ys))],vy/\ (off=0/\ n=xs.length)/\ xs.length+ys.length<=BT) else none
     | _=>none
    | _=>none
   | none=>none
  | .gen m=>match Yb S m y with
   | some (c,g,vy)=>match x with
    | .nils=>some (.msl S.h.length m 0 c,S.h++[some (.arr m c g)],(vy/\ ∀ i j,i<c -> j<m -> LR (g i j)=true)/\ 0<c/\ c<=BT)
    | .msl k m' off n=>match S.h[k]? with
     | some (some (.arr m2 n2 f))=>if m'==m&&m2==m then some (.msl S.h.length m 0 (n2+c),S.h.set k none++[some (.arr m (n2+c) (fun i j=>if i<n2 then f i j else g (i-n2) j))],(vy/\ ∀ i j,i<c -> j<m -> LR (g i j)=true)/\ (off=0/\ n=n2)/\ n2+c<=BT) else none
     | _=>none
    | _=>none
   | none=>none
 | none=>none
section
variable {P:Program} {Γ:Au} {N:Nat -> Prop} {S:St} {ρ:List AI} {a:Act} {w:World} {h:DH}
theorem Oj {t e:TypeId} (hu:P.underlying t=some (.slice e)) {m:Nat} {ad:Option Addr} {c cap:Nat} {Bh:List Value} (hl:Bh.length=c*m) (hc: ∀ j u,Bh[j]? =some u -> ∃ b o,ad=some ⟨b,o,none⟩/\ w.cell? ⟨b,o+j,none⟩=some u)
 (h1: ∀ u∈Bh,u.oneCell'=true) (hm:0<m) (X2:ad=none -> c=0):Src P m t (.slice ad c cap) c Bh w:=by
 cases ad with
 | none=>
  have:=X2 rfl;subst this;have:Bh= []:=zJ (by simpa using hl);subst this;exact Src.ofNil w hu cap
 | some ad=>
  refine Src.ofSlice w hu ad c cap Bh hl (fun j u hj=>?_) h1;obtain ⟨b,o,e1,e2⟩:=hc j u hj;cases e1;rw [H7];exact e2
theorem TZ (R:AX P Γ N S ρ a w) {t e:TypeId} (hu:P.underlying t=some (.slice e)) {y:DV} {v:Value} (hy:AJ (MS N S.h ρ) w y ρ v) {ys:List Int} {vy:Prop} (h:Ta S y=some (ys,vy)) (hv:vy):
 Src P 1 t v ys.length (ys.map (Value.int .i64)) w:=by
 have one: ∀ u∈ys.map (Value.int .i64),u.oneCell'=true:=fun u hu=>by obtain ⟨n,_,rfl⟩:=zK.1 hu;rfl
 have val: ∀ {j:Nat} {u:Value},(ys.map (Value.int .i64))[j]? =some u -> j<ys.length/\ u= .int .i64 (ys.getD j 0):=fun {j u} hj=>by
  have AK:=(yJ.1 hj).1;have AK:j<ys.length:=by simpa using AK
  simp [AK] at hj;exact ⟨AK,by rw [←hj];simp [AK]⟩
 unfold Ta at h;split at h
 ·cases h;rw [show v=_ from hy];exact Src.ofNil w hu 0
 ·cases h;obtain ⟨ad,cap,rfl,h1,h2,h3⟩:=hy;refine Oj hu (by simp) (fun j u hj=>?_) one (by omega) (fun e=>?_)
  ·obtain ⟨AK,rfl⟩:=val hj;obtain ⟨b,o,e1,_,e2⟩:=h3 j AK;exact ⟨b,o,e1,e2⟩
  ·rcases zAp ys.length with h0 | h0
   ·exact h0
   ·obtain ⟨b,o,e1,_⟩:=h3 0 h0;rw [e] at e1;cases e1
 ·rename_i k m off n;obtain ⟨p,cap,hp,rfl,h1,h2,h3⟩:=hy;split at h
  ·rename_i l hk;split at h
   ·rename_i hm;cases h;have By:m=1:=by simpa using hm
    subst By;obtain ⟨p',A6,hr⟩:=R.hr.obj k _ hk;have e:p'=p:=yK (A6.symm.trans hp);subst e;obtain ⟨rfl,rfl⟩:=hv;refine Oj hu (by simp) (fun j u hj=>?_) one (by omega) (fun e=>by cases e);obtain ⟨AK,rfl⟩:=val hj;obtain ⟨u,e1,e2⟩:=AS.cell hr AK;exact ⟨p'.blk,p'.off,by simp,by rw [e1,e2]⟩
   ·cases h
  ·cases h
 ·cases h
theorem iO (R:AX P Γ N S ρ a w) {t e:TypeId} (hu:P.underlying t=some (.slice e)) {y:DV} {v:Value} (hy:AJ (MS N S.h ρ) w y ρ v) {ys:List Bool} {vy:Prop} (h:Y4 S y=some (ys,vy)) (hv:vy):
 Src P 1 t v ys.length (ys.map Value.bool) w:=by
 have one: ∀ u∈ys.map Value.bool,u.oneCell'=true:=fun u hu=>by obtain ⟨n,_,rfl⟩:=zK.1 hu;rfl
 have val: ∀ {j:Nat} {u:Value},(ys.map Value.bool)[j]? =some u -> j<ys.length/\ u= .bool (ys.getD j false):=fun {j u} hj=>by
  have AK:=(yJ.1 hj).1;have AK:j<ys.length:=by simpa using AK
  simp [AK] at hj;exact ⟨AK,by rw [←hj];simp [AK]⟩
 unfold Y4 at h;split at h
 ·cases h;rw [show v=_ from hy];exact Src.ofNil w hu 0
 ·cases h;obtain ⟨ad,cap,rfl,h1,h2,h3⟩:=hy;refine Oj hu (by simp) (fun j u hj=>?_) one (by omega) (fun e=>?_)
  ·obtain ⟨AK,rfl⟩:=val hj;obtain ⟨b,o,e1,_,e2⟩:=h3 j AK;exact ⟨b,o,e1,e2⟩
  ·rcases zAp ys.length with h0 | h0
   ·exact h0
   ·obtain ⟨b,o,e1,_⟩:=h3 0 h0;rw [e] at e1;cases e1
 ·rename_i k m off n;obtain ⟨p,cap,hp,rfl,h1,h2,h3⟩:=hy;split at h
  ·rename_i l hk;split at h
   ·rename_i hm;cases h;have By:m=1:=by simpa using hm
    subst By;obtain ⟨p',A6,hr⟩:=R.hr.obj k _ hk;have e:p'=p:=yK (A6.symm.trans hp);subst e;obtain ⟨rfl,rfl⟩:=hv;refine Oj hu (by simp) (fun j u hj=>?_) one (by omega) (fun e=>by cases e);obtain ⟨AK,rfl⟩:=val hj;obtain ⟨u,e1,e2⟩:=AS.cell hr AK;exact ⟨p'.blk,p'.off,by simp,by rw [e1,e2]⟩
   ·cases h
  ·cases h
 ·cases h
theorem Uh {ρ':Operand -> Value} {o:Oper} {c:Call} {x y:Operand} {t t2:TypeId} (ho:o.op= .call c) (hc:c.callee= .builtin .append) (ha:c.args.toList= [x,y]) (ht:c.argTypes.toList= [t,t2]):
 execOp ρ' o=(do pure (.value (←Builtin.append_ #[t,t2] o.type #[ρ' x,ρ' y]))):=by
 unfold execOp;rw [ho]
 show (resolve ρ' c o.type>>=fun d=>invoke d.target d.args)=_
 unfold resolve;rw [hc,Rp ha,Rp ht];simp;rfl
theorem ZD (R:AX P Γ N S ρ a w) {t e:TypeId} {i:TypeInfo} {z:Value} (hu:P.underlying t=some (.slice e)) (hi:P.info? e=some i) (hz:i.zero=some z) (Tv:i.size≠0) (Cw:z.cells.size=i.size) (EP:i.bytes<=128)
 {k:Nat} {ob ob':DO} {p:AI} (hk:S.h[k]? =some (some ob)) (hp:ρ[k]? =some p) {n cap c:Nat} {Rw:Nat -> Value -> Prop} (hr:AS w p (n*i.size) Rw) (KN:n<=cap) (Tx:p.off+cap*i.size<=p.room)
 {vy:Value} {Bh:List Value} (hy:Src P i.size t vy c Bh w) (hb:n+c<=BT)
 (G3: ∀ M ρ' w' p',BM (MS N S.h ρ) w ρ M w' ρ' -> AS w' p' ((n+c)*i.size) (HA (n*i.size) Rw Bh) -> Cp P M w' ρ' p' ob')
 (o:Oper) {cl:Call} {x y:Operand} (ho:o.op= .call cl) (hc:cl.callee= .builtin .append) (ha:cl.args.toList= [x,y]) (ht:cl.argTypes.toList= [t,t]) (hx:a.eval x= .slice (some ⟨p.blk,p.off,none⟩) n cap) (XZ:a.eval y=vy):
 BN P (execOp a.eval o) w (C9 P Γ N S.h ρ w false (.msl S.h.length i.size 0 (n+c)) (S.h.set k none++[some ob'])):=by
 obtain ⟨w',p',Bp,h1,h2,h3,h4,h5,h6⟩:=ZC (ty:=o.type) hu hi hz Tv Cw EP hr KN Tx hy hb;refine BN.value (Uh ho hc ha ht) (by rw [hx,XZ];exact h1) ?_
 have uO: ∀ b,p'.foot b -> Dh w' b:=fun b hb=>by
  obtain ⟨e1,cs,tt,e2,_⟩:=h6;rw [e1] at hb;exact .cells (c:=cs) (t:=tt) (z:=(0,0)) (by rw [show b=p'.blk from hb];exact e2)
 have Ae:(S.h.set k none).length=S.h.length:=by simp
 have O:BM (MS N S.h ρ) w ρ (MS N (S.h.set k none++[some ob']) (ρ++[p'])) w' (ρ++[p']):=by
  refine ⟨fun b hb hm _=>h4.block b hb fun hx=>hm (.inr ⟨k,ob,p,hk,hp,hx⟩),fun b hb=>?_,fun i q hi=>De hi⟩;rcases hb with hb | hb
  ·exact .inl (.inl hb)
  ·obtain ⟨i1,o1,p1,g1,g2,g3⟩:=hb;rcases C2 g1 with ⟨hl,g1⟩ | ⟨hl,_⟩
   ·rcases C2 g2 with ⟨_,g2⟩ | ⟨CU,_⟩
    ·exact .inl (.inr ⟨i1,o1,p1,(FT g1).2,g2,g3⟩)
    ·rw [Ae] at hl;rw [R.hr.len] at CU;omega
   ·rcases C2 g2 with ⟨CU,_⟩ | ⟨_,rfl⟩
    ·rw [Ae] at hl;rw [R.hr.len] at CU;omega
    ·exact (h5 b g3).imp (fun hx=>.inr ⟨k,ob,p,hk,hp,hx⟩) id
 obtain ⟨g1,g2⟩:=R.hr.regrow (o':=ob') hk hp h4 (fun b hb=>⟨h5 b hb,uO b hb⟩) (G3 _ _ _ _ O h6);refine ⟨⟨ρ++[p'],g1,⟨p',Bp,by rw [←R.hr.len];simp,by simp,h2,by unfold LB;unfold BT at hb;omega,by simpa using h3⟩,g2,fun _ _ h=>De h⟩,fun h=>by cases h⟩
theorem ZF (R:AX P Γ N S ρ a w) {t e:TypeId} {i:TypeInfo} {z:Value} (hu:P.underlying t=some (.slice e)) (hi:P.info? e=some i) (hz:i.zero=some z) (Cw:z.cells.size=i.size) (EP:i.bytes<=128)
 {ob':DO} {c:Nat} {vy:Value} {Bh:List Value} (hy:Src P i.size t vy c Bh w) (L3:0<c) (hb:c<=BT)
 (G3: ∀ M ρ' w' p',BM (MS N S.h ρ) w ρ M w' ρ' -> AS w' p' (c*i.size) (fun j u=>Bh[j]? =some u) -> Cp P M w' ρ' p' ob') (ext:Bool)
 (o:Oper) {cl:Call} {x y:Operand} (ho:o.op= .call cl) (hc:cl.callee= .builtin .append) (ha:cl.args.toList= [x,y]) (ht:cl.argTypes.toList= [t,t]) (hx:a.eval x= .slice none 0 0) (XZ:a.eval y=vy):
 BN P (execOp a.eval o) w (C9 P Γ N S.h ρ w ext (.msl S.h.length i.size 0 c) (S.h++[some ob'])):=by
 obtain ⟨w',Bp,h1,h2,cs,rfl,h4,h5⟩:=ZE none (ty:=o.type) hu hi hz Cw EP hy L3 hb;have FP:Bh.length=c*i.size:=hy.newsLen;refine BN.value (Uh ho hc ha ht) (by rw [hx,XZ];exact h1) ?_;have CW:c*i.size<=Bp*i.size:=zg _ h2;refine Nd (d:=.msl S.h.length i.size 0 c) R.hr ⟨Ar.toDrew w,rfl⟩ (fun M ρ' O=>G3 _ _ _ _ O ?_) (fun M ρ' hp=>⟨_,Bp,hp,by simp [Da],h2,by unfold LB;unfold BT at hb;omega,by simp only [Da];omega⟩) ext;refine LA rfl (by omega) fun j hj=>?_
 rw [h5 j hj];exact ⟨Bh[j],by simp [FP,hj],by simp [FP,hj]⟩
theorem XC {xs ys:List Int} {M:Nat -> Prop} {w':World} {ρ':List AI} {p':AI} {s:Nat} (hs:s=1) (h:AS w' p' ((xs.length+ys.length)*s) (HA (xs.length*s) (fun j u=>u= .int .i64 (xs.getD j 0)) (ys.map (Value.int .i64)))):Cp P M w' ρ' p' (.ints (xs++ys)):=by
 subst hs
 show AS _ _ (xs++ys).length _
 rw [yu];rw [zD,zD] at h;refine AS.out h rfl fun j u hj hu=>?_
 unfold HA at hu;split at hu
 ·rename_i AK;rw [hu];simp [u8,yW AK]
 ·rename_i AK;have F8:j-xs.length<ys.length:=by omega
  simp [F8] at hu;rw [←hu];simp [u8,yh (zA0 AK),F8]
theorem w8 {xs ys:List Bool} {M:Nat -> Prop} {w':World} {ρ':List AI} {p':AI} {s:Nat} (hs:s=1) (h:AS w' p' ((xs.length+ys.length)*s) (HA (xs.length*s) (fun j u=>u= .bool (xs.getD j false)) (ys.map Value.bool))):Cp P M w' ρ' p' (.bools (xs++ys)):=by
 subst hs
 show AS _ _ (xs++ys).length _
 rw [yu];rw [zD,zD] at h;refine AS.out h rfl fun j u hj hu=>?_
 unfold HA at hu;split at hu
 ·rename_i AK;rw [hu];simp [u8,yW AK]
 ·rename_i AK;have F8:j-xs.length<ys.length:=by omega
  simp [F8] at hu;rw [←hu];simp [u8,yh (zA0 AK),F8]
theorem f7 (R:AX P Γ N S ρ a w) {t e:TypeId} (hu:P.underlying t=some (.slice e)) {y:DV} {v:Value} (hy:AJ (MS N S.h ρ) w y ρ v) {m c:Nat} (AC:0<m) {g:Nat -> Nat -> DV} {vy:Prop} (h:Yb S m y=some (c,g,vy)) (hv:vy)
 (h1: ∀ i j,i<c -> j<m -> LR (g i j)=true): ∃ Bh,Src P m t v c Bh w/\ ∀ j u,Bh[j]? =some u -> AJ (MS N S.h ρ) w (g (j/m) (j % m)) [] u:=by
 have dm: ∀ {j:Nat},j<c*m -> j/m<c/\ j % m<m/\ j/m*m+j % m=j:=fun {j} hj=>⟨by rw [zAC AC];exact hj,zA8 _ AC,by rw [zu];exact Nat.div_add_mod j m⟩
 have Yr: ∀ (ad:Option Addr) (cap:Nat),(∀ j,j<c*m -> ∃ b o u,ad=some ⟨b,o,none⟩/\ w.cell? ⟨b,o+j,none⟩=some u/\ AJ (MS N S.h ρ) w (g (j/m) (j % m)) [] u) -> v= .slice ad c cap -> (ad=none -> c=0) ->
  ∃ Bh,Src P m t v c Bh w/\ ∀ j u,Bh[j]? =some u -> AJ (MS N S.h ρ) w (g (j/m) (j % m)) [] u:=by
  intro ad cap hc rJ X2
  obtain ⟨f,hf⟩: ∃ f:Nat -> Value,∀ j,j<c*m -> ∃ b o,ad=some ⟨b,o,none⟩/\ w.cell? ⟨b,o+j,none⟩=some (f j)/\ AJ (MS N S.h ρ) w (g (j/m) (j % m)) [] (f j):=by
   refine ⟨fun j=>(match ad with | some a=>w.cell? ⟨a.block,a.off+j,none⟩ | none=>none).getD undef,fun j hj=>?_⟩;obtain ⟨b,o,u,rfl,e2,e3⟩:=hc j hj;exact ⟨b,o,rfl,by simp [e2],by simpa [e2] using e3⟩
  have val: ∀ {j:Nat} {u:Value},((List.range (c*m)).map f)[j]? =some u -> j<c*m/\ u=f j:=fun {j u} hj=>by
   have AK:=(yJ.1 hj).1;have AK:j<c*m:=by simpa using AK
   simp [AK] at hj;exact ⟨AK,hj.symm⟩
  refine ⟨(List.range (c*m)).map f,?_,fun j u hj=>?_⟩
  ·rw [rJ];refine Oj hu (by simp) (fun j u hj=>?_) (fun u BR=>?_) AC X2
   ·obtain ⟨AK,rfl⟩:=val hj;obtain ⟨b,o,e1,e2,_⟩:=hf j AK;exact ⟨b,o,e1,e2⟩
   ·obtain ⟨j,hj,rfl⟩:=zK.1 BR;have AK:=yP.1 hj;obtain ⟨_,_,_,_,e3⟩:=hf j AK;exact (TF (h1 _ _ (dm AK).1 (dm AK).2.1) e3).1
  ·obtain ⟨AK,rfl⟩:=val hj;obtain ⟨_,_,_,_,e3⟩:=hf j AK;exact e3
 unfold Yb at h;split at h
 ·cases h;refine Yr none 0 (fun j hj=>by rw [Nat.zero_mul] at hj;omega) hy (fun _=>rfl)
 ·rename_i m' n f;split at h
  ·rename_i hm;cases h;have By:m'=m:=by simpa using hm
   subst By;obtain ⟨ad,cap,rfl,g1,g2,g3⟩:=hy;refine Yr ad cap (fun j hj=>?_) rfl (fun e=>?_)
   ·obtain ⟨b,o,u,e1,_,e2,e3⟩:=g3 _ _ (dm hj).1 (dm hj).2.1;exact ⟨b,o,u,e1,by rw [(dm hj).2.2] at e2;exact e2,e3⟩
   ·rcases zAp c with h0 | h0
    ·exact h0
    ·obtain ⟨b,o,u,e1,_⟩:=g3 0 0 h0 AC;rw [e] at e1;cases e1
  ·cases h
 ·rename_i k m' off n;obtain ⟨p,cap,hp,rfl,g1,g2,g3⟩:=hy;split at h
  ·rename_i m2 n2 f hk;split at h
   ·rename_i hm;cases h;simp only [yG,yk] at hm;obtain ⟨rfl,rfl⟩:=hm;obtain ⟨p',A6,hr⟩:=R.hr.obj k _ hk;have e:p'=p:=yK (A6.symm.trans hp);subst e;obtain ⟨rfl,rfl⟩:=hv;refine Yr (some ⟨p'.blk,p'.off+0*m2,none⟩) cap (fun j hj=>?_) rfl (fun e=>by cases e);obtain ⟨u,e1,e2⟩:=AS.cell hr hj;exact ⟨p'.blk,p'.off,u,by simp,e1,e2⟩
   ·cases h
  ·cases h
 ·cases h
theorem xT (R:AX P Γ N S ρ a w) {t:TypeId} {x y:Operand} {d:DV} {h':DH} {vc:Prop} (hd:ZI P S t (AY S.fr x) (AY S.fr y)=some (d,h',vc)) (hv:vc) (o:Oper) {cl:Call} (ho:o.op= .call cl) (hc:cl.callee= .builtin .append)
 (ha:cl.args.toList= [x,y]) (ht:cl.argTypes.toList= [t,t]):BN P (execOp a.eval o) w (C9 P Γ N S.h ρ w false d h'):=by
 have rx:=Bj R x;have ry:=Bj R y;unfold ZI at hd;split at hd
 ·rename_i kk e i z hk;obtain ⟨hu,hi,hz,h0,Cw,D8,rz,F5⟩:=Uk hk;clear rz F5;split at hd
  ·cases hd
  ·rename_i EP;have NZ:i.bytes<=128:=by omega
   split at hd
   ·have Ce:i.size=1:=D8.symm;split at hd
    ·rename_i ys vy hy;split at hd
     ·rename_i ex;cases hd;rw [ex] at rx
      have:=ZF (ob':=.ints ys) R hu hi hz Cw NZ (by rw [Ce];exact TZ R hu ry hy hv.1) hv.2.1 hv.2.2 (fun M ρ' w' p' O hr=>by
       have Cm:=hr;rw [Ce,zD] at Cm;refine AS.out Cm rfl fun j u hj BR=>?_
       simp [hj] at BR;rw [←BR];simp [hj]) false o ho hc ha ht rx rfl
      rw [Ce] at this;exact this
     ·rename_i k m off n ex;rw [ex] at rx;obtain ⟨p,cap,hp,hx,g1,g2,g3⟩:=rx;split at hd
      ·rename_i xs KH;split at hd
       ·rename_i hm;cases hd;have By:m=1:=by simpa using hm
        subst By;obtain ⟨q1,⟨rfl,rfl⟩,q3⟩:=hv;obtain ⟨p',A6,hr⟩:=R.hr.obj k _ KH;have e:p'=p:=yK (A6.symm.trans hp);subst e
        have:=ZD (ob':=.ints (xs++ys)) (n:=xs.length) (cap:=cap) (c:=ys.length) R hu hi hz h0 Cw NZ KH hp (Rw:=fun j u=>u= .int .i64 (xs.getD j 0)) (by rw [Ce,zD];exact hr) g1 (by rw [Ce];simpa using g3) (by rw [Ce];exact TZ R hu ry hy q1) q3
         (fun M ρ' w' p' O hr=>XC Ce hr) o ho hc ha ht (by simpa using hx) rfl
        rw [Ce] at this;exact this
       ·cases hd
      ·cases hd
     ·cases hd
    ·cases hd
   ·have Ce:i.size=1:=D8.symm;split at hd
    ·rename_i ys vy hy;split at hd
     ·rename_i ex;cases hd;rw [ex] at rx
      have:=ZF (ob':=.bools ys) R hu hi hz Cw NZ (by rw [Ce];exact iO R hu ry hy hv.1) hv.2.1 hv.2.2 (fun M ρ' w' p' O hr=>by
       have Cm:=hr;rw [Ce,zD] at Cm;refine AS.out Cm rfl fun j u hj BR=>?_
       simp [hj] at BR;rw [←BR];simp [hj]) false o ho hc ha ht rx rfl
      rw [Ce] at this;exact this
     ·rename_i k m off n ex;rw [ex] at rx;obtain ⟨p,cap,hp,hx,g1,g2,g3⟩:=rx;split at hd
      ·rename_i xs KH;split at hd
       ·rename_i hm;cases hd;have By:m=1:=by simpa using hm
        subst By;obtain ⟨q1,⟨rfl,rfl⟩,q3⟩:=hv;obtain ⟨p',A6,hr⟩:=R.hr.obj k _ KH;have e:p'=p:=yK (A6.symm.trans hp);subst e
        have:=ZD (ob':=.bools (xs++ys)) (n:=xs.length) (cap:=cap) (c:=ys.length) R hu hi hz h0 Cw NZ KH hp (Rw:=fun j u=>u= .bool (xs.getD j false)) (by rw [Ce,zD];exact hr) g1 (by rw [Ce];simpa using g3) (by rw [Ce];exact iO R hu ry hy q1) q3
         (fun M ρ' w' p' O hr=>w8 Ce hr) o ho hc ha ht (by simpa using hx) rfl
        rw [Ce] at this;exact this
       ·cases hd
      ·cases hd
     ·cases hd
    ·cases hd
   ·rename_i m;have CR:i.size=m:=D8.symm;have AC:0<m:=by omega
    split at hd
    ·rename_i c g vy hy;split at hd
     ·rename_i ex;cases hd;rw [ex] at rx;obtain ⟨Bh,Xf,X3⟩:=f7 R hu ry AC hy hv.1.1 hv.1.2
      have:=ZF (ob':=.arr m c g) R hu hi hz Cw NZ (by rw [CR];exact Xf) hv.2.1 hv.2.2 (fun M ρ' w' p' O hr=>by
       rw [CR] at hr;exact AS.out hr rfl fun j u hj BR=>AJ.out _ O.nil (X3 j u BR)) false o ho hc ha ht rx rfl
      rw [CR] at this;exact this
     ·rename_i k m' off n ex;rw [ex] at rx;obtain ⟨p,cap,hp,hx,g1,g2,g3⟩:=rx;split at hd
      ·rename_i m2 n2 f KH;split at hd
       ·rename_i hm;cases hd;simp only [yG,yk] at hm;obtain ⟨rfl,rfl⟩:=hm;obtain ⟨q1,⟨rfl,rfl⟩,q3⟩:=hv;obtain ⟨p',A6,hr⟩:=R.hr.obj k _ KH;have e:p'=p:=yK (A6.symm.trans hp);subst e;obtain ⟨Bh,Xf,X3⟩:=f7 R hu ry AC hy q1.1 q1.2
        have:=ZD (ob':=.arr m2 (n+c) (fun i j=>if i<n then f i j else g (i-n) j)) (n:=n) (cap:=cap) (c:=c) R hu hi hz h0 Cw NZ KH hp (Rw:=fun j u=>AJ (MS N S.h ρ) w (f (j/m2) (j % m2)) [] u) (by rw [CR];exact hr) g1 (by rw [CR];simpa using g3) (by rw [CR];exact Xf) q3
         (fun M ρ' w' p' O hr=>by
          rw [CR] at hr;refine AS.out hr rfl fun j u hj BR=>?_
          show AJ M w' (if j/m2<n then f (j/m2) (j % m2) else g (j/m2-n) (j % m2)) [] u
          unfold HA at BR
          by_cases AK:j<n*m2
          ·rw [yC AK] at BR;rw [yC (by rw [zAC AC];exact AK)];exact AJ.out _ O.nil BR
          ·rw [yM AK] at BR;rw [yM (by rw [zAC AC];exact AK)];have h1:=X3 _ _ BR;have e1:(j-n*m2)/m2=j/m2-n:=by rw [zu n m2];exact Nat.sub_mul_div ..
           have e2:(j-n*m2) % m2=j % m2:=by
            have F8:j=(j-n*m2)+n*m2:=by omega
            rw [F8,Nat.add_mul_mod_self_right,Nat.add_sub_cancel]
           rw [e1,e2] at h1;exact AJ.out _ O.nil h1) o ho hc ha ht (by simpa using hx) rfl
        rw [CR] at this;exact this
       ·cases hd
      ·cases hd
     ·cases hd
    ·cases hd
 ·cases hd
end
end Go.Proofs.YtekkngkphejfcaaGreatDoor
namespace Go.Proofs.YtekkngkphejfcaaGreatDoor
abbrev ye:=@Bool.true_and
abbrev yq:=@Bool.not_true
abbrev zi:=@List.map_cons
abbrev zm:=@List.getElem?_drop
abbrev zAi:=@List.length_drop
abbrev zA5:=@Go.run_equalIn_int
end Go.Proofs.YtekkngkphejfcaaGreatDoor
namespace Go.Proofs.YtekkngkphejfcaaGreatDoor
open Go.RowKit
def Uc (Ha:Nat -> Option (Nat×Nat)) (cells:List DV):List (Nat×DV) -> Option (List DV)
 | []=>some cells
 | (i,d)::rest=>match Ha i with
  | none=>none
  | some (off,size)=>match Hu d with
   | none=>none
   | some l=>if l.length=size/\ off+l.length<=cells.length then Uc Ha (K2 cells off l) rest else none
def WN (P:Program) (t:TypeId):Option (Value×(Nat -> Option (Nat×Nat))):=match P.info? t with
 | some it=>match P.underlying t with
  | some (.array _ e)=>match it.zero with
   | some z=>match P.info? e with
    | some ie=>some (z,fun i=>some (i*ie.size,ie.size))
    | none=>none
   | none=>none
  | some (.struct vV)=>match it.zero with
   | some z=>match vV.toList.mapM (fun f=>(P.info? f.type).map fun i=>(f.offset,i.size)) with
    | some Ss=>some (z,fun i=>Ss.toArray[i]?)
    | none=>none
   | none=>none
  | _=>none
 | none=>none
def TR (P:Program) (S:St) (t:TypeId) (parts:List (Nat×Operand)):Option (DV×Prop):=match WN P t with
 | some (z,Ha)=>match Uc Ha (z.cells.toList.map E1) (parts.map fun x=>(x.1,AY S.fr x.2)) with
  | some l=>some (.agg l.length (fun j=>l.getD j .any),True)
  | none=>none
 | none=>none
def LP (P:Program) (t:TypeId) (m:Nat) (f:Nat -> DV) (off size:Nat):Option DV:=
 if off+size<=m then (if F2 P t then (if size=1 then some (f off) else none) else if Re P t size then some (.agg size (Fx size fun j=>f (off+j))) else none) else none
def W8 (P:Program) (t:TypeId) (x:DV) (n:Int):Option (DV×Prop):=match x with
 | .agg m f=>match P.underlying t with
  | some (.array len e)=>match P.info? e with
   | some i=>if F2 P e&&i.size==1&&len==m then some (f n.toNat,0<=n/\ n<len) else none
   | none=>none
  | _=>none
 | _=>none
def UY (P:Program) (t:TypeId) (x:DV) (fi:Nat):Option (DV×Prop):=match x with
 | .agg m f=>match P.underlying t with
  | some (.struct fs)=>match fs[fi]? with
   | some fd=>match P.info? fd.type with
    | some i=>match LP P fd.type m f fd.offset i.size with
     | some d=>some (d,True)
     | none=>none
    | none=>none
   | none=>none
  | _=>none
 | _=>none
def Yq (P:Program) (t:TypeId) (x:DV) (lo hi:Option Int):Option (DV×Prop):=match P.underlying t with
 | some (.slice e)=>match P.info? e with
  | some i=>match x with
   | .ints l=>if i.size=1 then some (.ints ((l.take (hi.getD l.length).toNat).drop (lo.getD 0).toNat),0<=lo.getD 0/\ lo.getD 0<=hi.getD l.length/\ hi.getD l.length<=l.length) else none
   | .bools l=>if i.size=1 then some (.bools ((l.take (hi.getD l.length).toNat).drop (lo.getD 0).toNat),0<=lo.getD 0/\ lo.getD 0<=hi.getD l.length/\ hi.getD l.length<=l.length) else none
   | .sl m n f=>if i.size=m then some (.sl m ((hi.getD n).toNat-(lo.getD 0).toNat) (fun i j=>f ((lo.getD 0).toNat+i) j),0<=lo.getD 0/\ lo.getD 0<=hi.getD n/\ hi.getD n<=n) else none
   | .msl k m off n=>if i.size=m then some (.mse k m (off+(lo.getD 0).toNat) ((hi.getD n).toNat-(lo.getD 0).toNat),0<=lo.getD 0/\ lo.getD 0<=hi.getD n/\ hi.getD n<=n) else none
   | _=>none
  | none=>none
 | _=>none
def Tb (S:St):Option Operand -> Option (Option Int)
 | none=>some none
 | some x=>match AY S.fr x with
  | .int _ n=>some (some n)
  | _=>none
def Ns (f g:Nat -> DV):List Nat -> Bool
 | []=>true
 | i::is=>(Gx (f i)==Gx (g i))&&Ns f g is
def Uj (P:Program) (t:TypeId) (f g:Nat -> DV) (m m':Nat):Option (List Nat):=match P.underlying t with
 | some (.array n e)=>match P.info? e with
  | some i=>match P.underlying e with
   | some (.int _)=>if i.size==1&&F2 P e&&P.eqGuardType P.depth t==false&&n==m&&n==m'&&(List.range n).all (fun i=>JE (f i)&&JE (g i)) then some (List.range n) else none
   | _=>none
  | none=>none
 | _=>none
def Qx (P:Program) (op:BinOp) (t:TypeId) (x y:DV):Option (DV×Prop):=match op,x,y with
 | .eql,.agg m f,.agg m' g=>match Uj P t f g m m' with
  | some is=>some (.bool (Ns f g is),True)
  | none=>none
 | .neq,.agg m f,.agg m' g=>match Uj P t f g m m' with
  | some is=>some (.bool (!(Ns f g is)),True)
  | none=>none
 | _,_,_=>none
def PX (P:Program) (S:St):Op -> Option (DV×Prop)
 | .build t parts=>TR P S t parts.toList
 | .index t x i=>match AY S.fr i with
  | .int _ n=>W8 P t (AY S.fr x) n
  | _=>none
 | .field t x f=>UY P t (AY S.fr x) f
 | .slice t x lo hi none=>match Tb S lo with
  | some l=>match Tb S hi with
   | some h=>Yq P t (AY S.fr x) l h
   | none=>none
  | none=>none
 | .binOp op t x y t'=>match Qx P op t (AY S.fr x) (AY S.fr y) with
  | some r=>some r
  | none=>pop P S (.binOp op t x y t')
 | op=>pop P S op
section
variable {P:Program} {Γ:Au} {N:Nat -> Prop} {S:St} {ρ:List AI} {a:Act} {w:World}
def VK (M:Nat -> Prop) (w:World) (ρ:List AI) (l:List DV) (cs:Array Value):Prop:=cs.size=l.length/\ ∀ j,j<l.length -> ∃ u,cs[j]? =some u/\ AJ M w (l.getD j .any) ρ u
theorem ii: ∀ (vs:List Value) (k off:Nat) (cs:Array Value),((vs.zipIdx k).foldl (fun (cs:Array Value) (x:Value×Nat)=>cs.setIfInBounds (off+x.2) x.1) cs).size=cs.size/\
 ∀ j,((vs.zipIdx k).foldl (fun (cs:Array Value) (x:Value×Nat)=>cs.setIfInBounds (off+x.2) x.1) cs)[j]? =if off+k<=j/\ j<off+k+vs.length/\ j<cs.size then vs[j-(off+k)]? else cs[j]?
 | [],k,off,cs=>⟨rfl,fun j=>by
  rw [yM]
  ·rfl
  ·simp only [za];omega⟩
 | v::vs,k,off,cs=>by
  obtain ⟨h1,h2⟩:=ii vs (k+1) off (cs.setIfInBounds (off+k) v);rw [List.zipIdx_cons,zk];refine ⟨by rw [h1];simp,fun j=>?_⟩;rw [h2 j,zQ];simp only [Array.size_setIfInBounds]
  by_cases e:j=off+k
  ·subst e;rw [yM (by omega),zb,yC rfl]
   by_cases hs:off+k<cs.size
   ·rw [yC hs,yC (by omega),Nat.sub_self];rfl
   ·rw [yM hs,yM (by omega),zAt (by omega)]
  ·by_cases e2:off+(k+1)<=j/\ j<off+(k+1)+vs.length/\ j<cs.size
   ·rw [yC e2,yC (by omega),show j-(off+k)=(j-(off+(k+1)))+1 by omega];simp
   ·rw [yM e2,yM (by omega),zb,yM (by omega)]
theorem gK {M:Nat -> Prop} {Ha:Nat -> Option (Nat×Nat)}: ∀ (parts:List (Nat×Operand)) (l:List DV) (cs:Array Value) (r:List DV),VK M w ρ l cs -> (∀ x,AJ M w (AY S.fr x) ρ (a.eval x)) ->
 Uc Ha l (parts.map fun x=>(x.1,AY S.fr x.2))=some r -> ∃ rs,Instr.fill Ha cs (parts.map fun x=>(x.1,a.eval x.2))=some rs/\ VK M w ρ r rs
 | [],l,cs,r,hc,_,h=>by cases h;exact ⟨cs,rfl,hc⟩
 | (i,x)::rest,l,cs,r,hc,hr,h=>by
  simp only [zi,Uc] at h;split at h
  ·cases h
  ·rename_i off size FN;split at h
   ·cases h
   ·rename_i ds E6;split at h
    ·rename_i A2;obtain ⟨c1,c2⟩:=Q6 E6 (hr x);have Ae:(a.eval x).cells.size=size:=by rw [c1,A2.1]
     have fN: ¬ (off+(a.eval x).cells.size>cs.size):=by rw [c1,hc.1];omega
     obtain ⟨s1,s2⟩:=ii (a.eval x).cells.toList 0 off cs
     have G3:VK M w ρ (K2 l off ds) ((a.eval x).cells.zipIdx.foldl (fun cs (c,j)=>cs.setIfInBounds (off+j) c) cs):=by
      have e0:((a.eval x).cells.zipIdx.foldl (fun cs (c,j)=>cs.setIfInBounds (off+j) c) cs)=(((a.eval x).cells.toList.zipIdx 0).foldl (fun (cs:Array Value) (x:Value×Nat)=>cs.setIfInBounds (off+x.2) x.1) cs):=by
       rw [←Array.foldl_toList];simp
      rw [e0];refine ⟨by rw [s1,Vp,hc.1],fun j hj=>?_⟩;rw [Vp] at hj;rw [s2 j,Vr l off ds hj]
      by_cases e:off<=j/\ j<off+ds.length
      ·rw [yC (by simp;rw [c1,hc.1];omega),yC e];obtain ⟨u,g1,g2⟩:=c2 (j-off) (by omega);exact ⟨u,by simpa using g1,g2⟩
      ·rw [yM (by simp;rw [c1];omega),yM e];exact hc.2 j hj
     obtain ⟨rs,g1,g2⟩:=gK rest _ _ r G3 hr h;refine ⟨rs,?_,g2⟩;simp only [zi,Instr.fill,FN];rw [yM (by simp only [ya,yg];omega)];exact g1
    ·cases h
theorem oD {t:TypeId} {z:Value} {Ha:Nat -> Option (Nat×Nat)} (h:WN P t=some (z,Ha)) (parts:List (Nat×Value)):P.built t parts=Instr.fill Ha z.cells parts:=by
 unfold WN at h;unfold Program.built
 repeat' (split at h)
 all_goals first
  | (cases h;done)
  | (cases h;simp_all)
theorem ph (R:AX P Γ N S ρ a w) {t:TypeId} {parts:Array (Nat×Operand)} {d:DV} {vc:Prop} (h:TR P S t parts.toList=some (d,vc)):Yl P N w (MS N S.h ρ) ρ (Instr.build t (parts.map fun (i,x)=>(i,a.eval x))) d:=by
 unfold TR at h;split at h
 ·rename_i z Ha hp;split at h
  ·rename_i l hl;cases h
   have h0:VK (MS N S.h ρ) w ρ (z.cells.toList.map E1) z.cells:=⟨by simp,fun j hj=>by
    have BI:j<z.cells.size:=by simpa using hj
    exact ⟨z.cells[j],by simp [BI],by
     have:(z.cells.toList.map E1).getD j .any=E1 z.cells[j]:=by simp [BI]
     rw [this];exact Ph _⟩⟩
   obtain ⟨rs,g1,g2,g3⟩:=gK parts.toList _ _ _ h0 (Bj R) hl;refine Yl.pure (v:=.agg rs) (fun W=>run_build W t _ rs ?_) ⟨rs,rfl,g2,g3⟩;rw [oD hp];have e1:(parts.map fun (i,x)=>(i,a.eval x)).toList=parts.toList.map fun x=>(x.1,a.eval x.2):=by simp
   rw [e1];exact g1
  ·cases h
 ·cases h
theorem V1 {t:TypeId} {cs:Array Value} {off size m:Nat} {f:Nat -> DV} {d:DV} {M:Nat -> Prop} {i:TypeInfo} (hi:P.info? t=some i) (A2:i.size=size) (Dd:cs.size=m) (hr: ∀ j,j<m -> ∃ u,cs[j]? =some u/\ AJ M w (f j) ρ u) (h:LP P t m f off size=some d):Yl P N w M ρ (part t cs off) d:=by
 unfold LP at h;split at h
 ·rename_i CW;split at h
  ·rename_i h1;split at h
   ·rename_i hs;cases h;obtain ⟨u,g1,g2⟩:=hr off (by omega);unfold F2 at h1;simp only [yG,Option.isSome_iff_exists,yv] at h1;obtain ⟨⟨dd,hd⟩,hn⟩:=h1;refine Yl.pure (v:=u) (fun W=>?_) g2;unfold part;rw [yU,O6 hd];simp [Result.andThen,hn,g1]
   ·cases h
  ·split at h
   ·rename_i h2;cases h;obtain ⟨h3,i',A7,hs'⟩:=ZO h2;have ei:i'=i:=yK (A7.symm.trans hi);subst ei;obtain ⟨dd,hd⟩:=dz h3;refine Yl.pure (v:=.agg (cs.extract off (off+size))) (fun W=>?_) ⟨_,rfl,by simp;omega,fun j hj=>?_⟩
    ·unfold part;rw [yU,O6 hd];simp only [Result.andThen,h3,zE];rw [yU,IK hi,A2];rfl
    ·obtain ⟨u,g1,g2⟩:=hr (off+j) (by omega);refine ⟨u,?_,HJ hj g2⟩;rw [Array.getElem?_extract];rw [yC (by omega)];exact g1
   ·cases h
 ·cases h
theorem qP (R:AX P Γ N S ρ a w) {t:TypeId} {x d:DV} {vc:Prop} {v:Value} {k:IntKind} {n:Int} (hx:AJ (MS N S.h ρ) w x ρ v) (h:W8 P t x n=some (d,vc)) (hv:vc):Yl P N w (MS N S.h ρ) ρ (Instr.index t v (.int k n)) d:=by
 unfold W8 at h;split at h
 ·rename_i m f;obtain ⟨cs,rfl,hs,hr⟩:=hx;split at h
  ·rename_i len e hu;split at h
   ·rename_i i hi;split at h
    ·rename_i hc;cases h;simp only [yG,yk] at hc;obtain ⟨⟨h1,h2⟩,rfl⟩:=hc
     have hp:LP P e len f n.toNat 1=some (f n.toNat):=by
      unfold LP;rw [yC (by omega),yC h1,yC rfl]
     obtain ⟨u,g1,g2⟩:=V1 (P:=P) hi h2 hs hr hp;refine ⟨u,fun W hE=>?_,g2⟩;unfold Instr.index;simp only [asIntOf,yU,zAh,Result.andThen,zA hu];rw [yC ⟨hv.1,hv.2⟩];simp only [yU,IK hi,Result.andThen,h2,zD];exact g1 W hE
    ·cases h
   ·cases h
  ·cases h
 ·cases h
theorem vJ (R:AX P Γ N S ρ a w) {t:TypeId} {x d:DV} {vc:Prop} {v:Value} {fi:Nat} (hx:AJ (MS N S.h ρ) w x ρ v) (h:UY P t x fi=some (d,vc)):Yl P N w (MS N S.h ρ) ρ (Instr.field t v fi) d:=by
 unfold UY at h;split at h
 ·rename_i m f;obtain ⟨cs,rfl,hs,hr⟩:=hx;split at h
  ·rename_i fs hu;split at h
   ·rename_i fd hf;split at h
    ·rename_i i hi;split at h
     ·rename_i d' hp;cases h;obtain ⟨u,g1,g2⟩:=V1 (P:=P) hi rfl hs hr hp;refine ⟨u,fun W hE=>?_,g2⟩;unfold Instr.field;simp only [yU,zA hu,Result.andThen,hf,asAgg,zAh];exact g1 W hE
     ·cases h
    ·cases h
   ·cases h
  ·cases h
 ·cases h
theorem mU {k:IntKind} {n:Int} {y:Nat} {c:BoundsCode} (h0:0<=n) (h1:n<=y) (W:World):(Instr.sliceBound (.int k n) y c).run P W= .ok n.toNat W:=by
 unfold Instr.sliceBound;simp only [asIntOf,yU,zAh,Result.andThen];rw [yC ⟨h0,h1⟩];rfl
theorem d4 (R:AX P Γ N S ρ a w) {o:Option Operand} {l:Option Int} (h:Tb S o=some l): ∃ k,o.map a.eval=l.map (Value.int k):=by
 cases o with
 | none=>cases h;exact ⟨.i64,rfl⟩
 | some x=>
  simp only [Tb] at h;split at h
  ·rename_i k n e;cases h;have:=Bj R x;rw [e] at this;exact ⟨k,by simp only [yi];rw [show a.eval x=_ from this]⟩
  ·cases h
theorem SH {t e:TypeId} {i:TypeInfo} {ad:Option Addr} {len cap:Nat} {kl kh:IntKind} {lo hi:Option Int} (hu:P.underlying t=some (.slice e)) (A7:P.info? e=some i) (h0:0<=lo.getD 0) (h1:lo.getD 0<=hi.getD len) (h2:hi.getD len<=len) (h3:len<=cap) (W:World):
 (Instr.sliceAt t (.slice ad len cap) (lo.map (Value.int kl)) (hi.map (Value.int kh)) none).run P W=
  .ok (.slice (if cap=(lo.getD 0).toNat then ad else ad.map (·.add ((lo.getD 0).toNat*i.size))) ((hi.getD len).toNat-(lo.getD 0).toNat) (cap-(lo.getD 0).toNat)) W:=by
 have hb:(Instr.sliceBounds true len cap (lo.map (Value.int kl)) (hi.map (Value.int kh)) none).run P W= .ok ((lo.getD 0).toNat,(hi.getD len).toNat,cap) W:=by
  cases lo <;> cases hi <;> simp only [Option.map_none,yi,Option.getD_none,z6] at* <;>
   simp (disch:=omega) [Instr.sliceBounds,mU,yU,Result.andThen]
 unfold Instr.sliceAt;simp only [yU,zA hu,Result.andThen];unfold Instr.slice;simp only [yU,zA hu,Result.andThen,hb,IK A7];rfl
theorem wL (R:AX P Γ N S ρ a w) {t:TypeId} {x d:DV} {vc:Prop} {v:Value} {kl kh:IntKind} {lo hi:Option Int} (hx:AJ (MS N S.h ρ) w x ρ v) (h:Yq P t x lo hi=some (d,vc)) (hv:vc):
 Yl P N w (MS N S.h ρ) ρ (Instr.sliceAt t v (lo.map (Value.int kl)) (hi.map (Value.int kh)) none) d:=by
 unfold Yq at h;split at h
 ·rename_i e hu;split at h
  ·rename_i i A7
   have gd: ∀ {α:Type} (l:List α) (q c j:Nat) (d:α),j<((l.take c).drop q).length -> ((l.take c).drop q).getD j d=l.getD (q+j) d:=fun l q c j d hj=>by
    simp only [zAi,List.length_take] at hj;simp only [u8,zm,List.getElem?_take];rw [yC (by omega)]
   split at h
   ·rename_i l;split at h
    ·rename_i hs;cases h;obtain ⟨ad,cap,rfl,g1,g2,g3⟩:=hx;obtain ⟨v1,v2,v3⟩:=hv;have hl:((l.take (hi.getD l.length).toNat).drop (lo.getD 0).toNat).length=(hi.getD l.length).toNat-(lo.getD 0).toNat:=by simp;omega
     refine Yl.pure (fun W=>SH hu A7 v1 v2 v3 g1 W) ⟨_,_,by rw [hl],by omega,by omega,fun j hj=>?_⟩;have BI:=hj;rw [hl] at BI;obtain ⟨b,o,rfl,q1,q2⟩:=g3 ((lo.getD 0).toNat+j) (by omega);refine ⟨b,o+(lo.getD 0).toNat,?_,q1,?_⟩
     ·rw [yM (by omega)];simp only [yi,H7,hs,zD]
     ·rw [gd _ _ _ _ _ hj,zB];exact q2
    ·cases h
   ·rename_i l;split at h
    ·rename_i hs;cases h;obtain ⟨ad,cap,rfl,g1,g2,g3⟩:=hx;obtain ⟨v1,v2,v3⟩:=hv;have hl:((l.take (hi.getD l.length).toNat).drop (lo.getD 0).toNat).length=(hi.getD l.length).toNat-(lo.getD 0).toNat:=by simp;omega
     refine Yl.pure (fun W=>SH hu A7 v1 v2 v3 g1 W) ⟨_,_,by rw [hl],by omega,by omega,fun j hj=>?_⟩;have BI:=hj;rw [hl] at BI;obtain ⟨b,o,rfl,q1,q2⟩:=g3 ((lo.getD 0).toNat+j) (by omega);refine ⟨b,o+(lo.getD 0).toNat,?_,q1,?_⟩
     ·rw [yM (by omega)];simp only [yi,H7,hs,zD]
     ·rw [gd _ _ _ _ _ hj,zB];exact q2
    ·cases h
   ·rename_i m n f;split at h
    ·rename_i hs;cases h;obtain ⟨ad,cap,rfl,g1,g2,g3⟩:=hx;obtain ⟨v1,v2,v3⟩:=hv;refine Yl.pure (fun W=>SH hu A7 v1 v2 v3 g1 W) ⟨_,_,rfl,by omega,by omega,fun i1 j hi1 hj=>?_⟩;obtain ⟨b,o,u,rfl,q1,q2,q3⟩:=g3 ((lo.getD 0).toNat+i1) j (by omega) hj;refine ⟨b,o+(lo.getD 0).toNat*m,u,?_,q1,?_,q3⟩
     ·rw [yM (by omega)];simp only [yi,H7,hs]
     ·rw [zq,zB] at q2;rw [zB];exact q2
    ·cases h
   ·rename_i k m off n;split at h
    ·rename_i hs;cases h;obtain ⟨p,cap,hp,rfl,g1,g2,g3⟩:=hx;obtain ⟨v1,v2,v3⟩:=hv;have CW:(lo.getD 0).toNat<=cap:=by omega
     refine Yl.pure (fun W=>SH hu A7 v1 v2 v3 g1 W) ⟨p,_,cap-(lo.getD 0).toNat,hp,rfl,by omega,by omega,fun hc=>⟨?_,?_⟩⟩
     ·rw [yM (by omega)];simp only [yi,H7,hs,zq,zB]
     ·have:cap*m=(lo.getD 0).toNat*m+(cap-(lo.getD 0).toNat)*m:=by rw [←zq];congr 1;omega
      rw [zq];omega
    ·cases h
   ·cases h
  ·cases h
 ·cases h
theorem bR {e:TypeId} {k':IntKind} {i:TypeInfo} {n d:Nat} {xs ys:Array Value} {f g:Nat -> DV} {M:Nat -> Prop} (hi:P.info? e=some i) (hs:i.size=1) (h1:F2 P e=true) (hk:P.underlying e=some (.int k')) (hx:xs.size=n) (hy:ys.size=n)
 (rx: ∀ j,j<n -> ∃ u,xs[j]? =some u/\ AJ M w (f j) ρ u) (ry: ∀ j,j<n -> ∃ u,ys[j]? =some u/\ AJ M w (g j) ρ u) (hI: ∀ j,j<n -> JE (f j)=true/\ JE (g j)=true):
 ∀ (is:List Nat),(∀ j∈is,j<n) -> ∀ W,Keep N w W -> (Op.eqItems (d+1) e 1 xs ys is).run P W= .ok (Ns f g is) W
 | [],_,W,_=>rfl
 | j::is,hb,W,hE=>by
  have hj:j<n:=hb j (by simp)
  have cU: ∀ {cs:Array Value} {f:Nat -> DV},cs.size=n -> (∀ j,j<n -> ∃ u,cs[j]? =some u/\ AJ M w (f j) ρ u) -> JE (f j)=true -> (part e cs (j*1)).run P W= .ok (.int .i64 (Gx (f j))) W:=by
   intro cs f hc hr hf
   have hp:LP P e n f (j*1) 1=some (f j):=by
    unfold LP;rw [yC (by omega),yC h1,yC rfl,zD]
   obtain ⟨u,g1,g2⟩:=V1 (P:=P) hi hs hc hr hp;rw [g1 W hE,W9 hf g2]
  simp only [Op.eqItems,yU,cU hx rx (hI j hj).1,cU hy ry (hI j hj).2,Result.andThen,zA5 W d e .i64 k' _ _ hk];unfold Ns;cases hq:(Gx (f j)==Gx (g j)) with
  | false=>rfl
  | true=>
   simp only [yq,yt,zAA,ye];exact bR hi hs h1 hk hx hy rx ry hI is (fun j hj=>hb j (by simp [hj])) W hE
theorem vm {M:Nat -> Prop} {op:BinOp} {t:TypeId} {x y:DV} {vx vy:Value} {d:DV} {vc:Prop} (ox oy:Operand) (hx:AJ M w x ρ vx) (hy:AJ M w y ρ vy) (h:Qx P op t x y=some (d,vc)):
 Yl P N w M ρ (do eqGuard op t ox oy vx vy;binOp op t vx vy) d:=by
 have key: ∀ {m m':Nat} {f g:Nat -> DV} {is:List Nat} {xs ys:Array Value},Uj P t f g m m'=some is -> xs.size=m -> ys.size=m' -> (∀ j,j<m -> ∃ u,xs[j]? =some u/\ AJ M w (f j) ρ u) -> (∀ j,j<m' -> ∃ u,ys[j]? =some u/\ AJ M w (g j) ρ u) ->
  P.eqGuardType P.depth t=false/\ ∀ W,Keep N w W -> (Op.equalIn 10000 t (.agg xs) (.agg ys)).run P W= .ok (Ns f g is) W:=by
  intro m m' f g is xs ys hb sx sy rx ry;unfold Uj at hb;split at hb
  ·rename_i n e hu;split at hb
   ·rename_i i hi;split at hb
    ·rename_i k' hk;split at hb
     ·rename_i hc;cases hb;simp only [yG,yk,yL,yP] at hc;obtain ⟨⟨⟨⟨⟨c1,c2⟩,c3⟩,c4⟩,c5⟩,c6⟩:=hc;subst c4;subst c5;refine ⟨c3,fun W hE=>?_⟩;have C1:P.cellsOf e=1:=by unfold Program.cellsOf;rw [hi];exact c1
      rw [run_equalIn_array W 9999 xs ys hu hi,C1];exact bR (d:=9998) hi c1 c2 hk sx sy rx ry c6 _ (fun j hj=>yP.1 hj) W hE
     ·cases hb
    ·cases hb
   ·cases hb
  ·cases hb
 unfold Qx at h;split at h
 ·rename_i m f m' g;split at h
  ·rename_i is hb;cases h;obtain ⟨xs,rfl,sx,rx⟩:=hx;obtain ⟨ys,rfl,sy,ry⟩:=hy;obtain ⟨k1,k2⟩:=key hb sx sy rx ry;refine ⟨.bool _,fun W hE=>?_,rfl⟩;simp only [yU,run_eqGuard_agg W .eql t ox oy xs ys k1,Result.andThen,run_eql_struct,k2 W hE]
  ·cases h
 ·rename_i m f m' g;split at h
  ·rename_i is hb;cases h;obtain ⟨xs,rfl,sx,rx⟩:=hx;obtain ⟨ys,rfl,sy,ry⟩:=hy;obtain ⟨k1,k2⟩:=key hb sx sy rx ry;refine ⟨.bool _,fun W hE=>?_,rfl⟩;simp only [yU,run_eqGuard_agg W .neq t ox oy xs ys k1,Result.andThen,run_neq_struct,k2 W hE]
  ·cases h
 ·cases h
theorem oA (R:AX P Γ N S ρ a w) (o:Oper) {d:DV} {vc:Prop} (h:PX P S o.op=some (d,vc)) (hv:vc):
 ∃ v,(∀ W,Keep N w W -> (execOp a.eval o).run P W= .ok (.value v) W)/\ AJ (MS N S.h ρ) w d ρ v:=by
 unfold PX at h;split at h
 ·rename_i t parts ho;exact GV (by unfold execOp;rw [ho]) (ph R h)
 ·rename_i t x i ho;have hi:=Bj R i;split at h
  ·rename_i k n e;rw [e] at hi;refine GV (s:=Instr.index t (a.eval x) (a.eval i)) (by unfold execOp;rw [ho]) ?_;rw [show a.eval i=_ from hi];exact qP R (Bj R x) h hv
  ·cases h
 ·rename_i t x f ho;exact GV (s:=Instr.field t (a.eval x) f) (by unfold execOp;rw [ho]) (vJ R (Bj R x) h)
 ·rename_i t x lo hi ho;split at h
  ·rename_i l hl;split at h
   ·rename_i hh tz;obtain ⟨k1,e1⟩:=d4 R hl;obtain ⟨k2,e2⟩:=d4 R tz;refine GV (s:=Instr.sliceAt t (a.eval x) (lo.map a.eval) (hi.map a.eval) none) (by unfold execOp;rw [ho];rfl) ?_;rw [e1,e2];exact wL R (Bj R x) h hv
   ·cases h
  ·cases h
 ·rename_i op t x y t' ho;split at h
  ·rename_i r hr;cases h;exact GV (by unfold execOp;rw [ho]) (vm x y (Bj R x) (Bj R y) hr)
  ·rw [←ho] at h;exact cM R o h hv
 ·exact cM R o h hv
end
end Go.Proofs.YtekkngkphejfcaaGreatDoor
namespace Go.Proofs.YtekkngkphejfcaaGreatDoor
open Go.RowKit
def Bc:List Prop -> Prop
 | []=>True
 | p::ps=>p/\ Bc ps
theorem Cx {l l':List Prop}:Bc (l++l')↔Bc l/\ Bc l':=by
 induction l with
 | nil=>simp [Bc]
 | cons p ps ih=>simp [Bc,ih,and_assoc]
def AN (d d':DV):Prop:=∀ (M:Nat -> Prop) (w:World) (ρ:List AI) (v:Value),AJ M w d ρ v -> AJ M w d' ρ v
section
variable {P:Program} {Γ:Au} {N:Nat -> Prop}
theorem C0 {w:World} {M M':Nat -> Prop} (h: ∀ b,M' b -> M b) (ρ:List AI):BM M w ρ M' w ρ:=⟨fun _ _ _ _=>rfl,fun b hb=>.inl (h b hb),fun _ _ h=>h⟩
def UT:DO -> Option (Nat×Nat×DV)
 | .ints l=>some (1,l.length,.ints l)
 | .bools l=>some (1,l.length,.bools l)
 | .arr m n f=>some (m,n,.sl m n f)
 | _=>none
def KV (k m:Nat) (v:DV):DV -> DV
 | .msl k' m' off n=>if k'=k/\ m'=m/\ off=0 then v else .msl k' m' off n
 | d=>d
def Qr (k m n:Nat):DV -> List Prop
 | .msl k' m' off n'=>if k'=k/\ m'=m/\ off=0 then [n'=n] else []
 | _=>[]
def UU (k m:Nat) (v:DV):Option DO -> Option DO
 | some (.cells l)=>some (.cells (l.map (KV k m v)))
 | o=>o
def gD (k m n:Nat):Option DO -> List Prop
 | some (.cells l)=>l.flatMap (Qr k m n)
 | _=>[]
def Hs (k m:Nat) (v:DV) (S:St):St:=⟨S.fr.map (KV k m v),(S.h.set k none).map (UU k m v)⟩
theorem iu {l:List DV} {f:DV -> List Prop} (h:Bc (l.flatMap f)) {d:DV} (hd:d∈l):Bc (f d):=by
 induction l with
 | nil=>simp at hd
 | cons x l ih=>
  rw [zAu] at h;obtain ⟨h1,h2⟩:=Cx.1 h;rcases yd.1 hd with rfl | hd
  ·exact h1
  ·exact ih h2 hd
theorem xe {l:List (Option DO)} {f:Option DO -> List Prop} (h:Bc (l.flatMap f)) {d:Option DO} (hd:d∈l):Bc (f d):=by
 induction l with
 | nil=>simp at hd
 | cons x l ih=>
  rw [zAu] at h;obtain ⟨h1,h2⟩:=Cx.1 h;rcases yd.1 hd with rfl | hd
  ·exact h1
  ·exact ih h2 hd
theorem vB {M M':Nat -> Prop} {w:World} {ρ:List AI} {p:AI} {o:DO} {m n:Nat} {v:DV} (ho:UT o=some (m,n,v)) (hr:Cp P M w ρ p o) (hN: ¬ M' p.blk) (hM: ∀ b,M' b -> M b) {u:Value} {cap:Nat} (hu:u= .slice (some ⟨p.blk,p.off+0*m,none⟩) n cap) (h1:n<=cap) (h2:n<=LB):AJ M' w v ρ u:=by
 cases o with
 | cells l=>cases ho
 | iter e=>cases ho
 | mo x=>cases ho
 | ints l=>
  cases ho;refine ⟨_,cap,hu,h1,h2,fun j hj=>⟨p.blk,p.off,by simp,hN,?_⟩⟩;obtain ⟨x,e1,e2⟩:=AS.cell hr hj;rw [e1,e2]
 | bools l=>
  cases ho;refine ⟨_,cap,hu,h1,h2,fun j hj=>⟨p.blk,p.off,by simp,hN,?_⟩⟩;obtain ⟨x,e1,e2⟩:=AS.cell hr hj;rw [e1,e2]
 | arr m n f=>
  cases ho;refine ⟨_,cap,hu,h1,h2,fun i j hi hj=>?_⟩;have AK:i*m+j<n*m:=yN (by rw [zAf];omega:i*m+j<(i+1)*m) (zg m hi);obtain ⟨x,e1,e2⟩:=AS.cell hr AK;have hm:0<m:=by omega
  have d1:(i*m+j)/m=i:=by rw [zu,Nat.mul_add_div hm];simp [Nat.div_eq_of_lt hj]
  have d2:(i*m+j) % m=j:=by rw [zu,Nat.mul_add_mod];exact zAg hj
  rw [d1,d2] at e2;exact ⟨p.blk,p.off,x,by simp,hN,e1,AJ.out _ (C0 hM []) e2⟩
theorem vC {M:Nat -> Prop} {w:World} {ρ:List AI} {p:AI} {o:DO} {m n:Nat} {v:DV} (ho:UT o=some (m,n,v)) (hr:Cp P M w ρ p o):p.foot=fun b=>b=p.blk:=by
 cases o with
 | cells l=>cases ho
 | iter e=>cases ho
 | mo x=>cases ho
 | ints l=>exact hr.1
 | bools l=>exact hr.1
 | arr m n f=>exact hr.1
theorem Qp {k m:Nat} {v:DV} {h:DH} {i:Nat} {o':DO} (hi:((h.set k none).map (UU k m v))[i]? =some (some o')):i≠k/\ ∃ o,h[i]? =some (some o)/\ UU k m v (some o)=some o':=by
 rw [yS] at hi;cases hx:(h.set k none)[i]? with
 | none=>rw [hx] at hi;cases hi
 | some x=>
  rw [hx] at hi;have hi:UU k m v x=some o':=yK hi;cases x with
  | none=>cases hi
  | some o=>exact ⟨(FT hx).1,o,(FT hx).2,hi⟩
def DK (S S':St):Prop:=∀ (P:Program) (Γ:Au) (N:Nat -> Prop) (ρ:List AI) (a:Act) (w:World),AX P Γ N S ρ a w -> AX P Γ N S' ρ a w/\ A8 S.h ρ w S'.h ρ w
theorem DK.frz {S:St} (k:Nat) {o:DO} {m n:Nat} {v:DV} (hk:S.h[k]? =some (some o)) (ho:UT o=some (m,n,v)) (hc:Bc (S.fr.flatMap (Qr k m n))) (Hm:Bc (S.h.flatMap (gD k m n))):DK S (Hs k m v S):=fun P Γ N ρ a w R=>by
 obtain ⟨p,hp,hr⟩:=R.hr.obj k _ hk;have Dc:p.foot=fun b=>b=p.blk:=vC ho hr
 have YT: ∀ b,MO (Hs k m v S).h ρ b -> ∃ i o p',i≠k/\ S.h[i]? =some (some o)/\ ρ[i]? =some p'/\ p'.foot b:=by
  rintro b ⟨i,o',p',g1,g2,g3⟩;obtain ⟨e1,o2,e2,_⟩:=Qp g1;exact ⟨i,o2,p',e1,e2,g2,g3⟩
 have hN: ¬ MS N (Hs k m v S).h ρ p.blk:=by
  rintro (hn | hb)
  ·exact (R.hr.cel k _ p p.blk hk hp (by rw [Dc])).2.1 hn
  ·obtain ⟨i,o2,p',e1,e2,g2,g3⟩:=YT _ hb;exact R.hr.dis i k _ _ p' p p.blk e1 e2 hk g2 hp g3 (by rw [Dc])
 have hM: ∀ b,MS N (Hs k m v S).h ρ b -> MS N S.h ρ b:=fun b hb=>hb.imp id fun hb=>by
  obtain ⟨i,o2,p',_,e2,g2,g3⟩:=YT _ hb;exact ⟨i,o2,p',e2,g2,g3⟩
 have conv: ∀ (d:DV) (u:Value),Bc (Qr k m n d) -> AJ (MS N S.h ρ) w d ρ u -> AJ (MS N (Hs k m v S).h ρ) w (KV k m v d) ρ u:=by
  intro d u YL hd;cases d with
  | msl k' m' off n'=>
   simp only [Qr,KV] at YL ⊢;split at YL
   ·rename_i e;obtain ⟨rfl,rfl,rfl⟩:=e;rw [yC ⟨rfl,rfl,rfl⟩];obtain ⟨p',cap,A6,e,g1,g2,_⟩:=hd;have ep:p'=p:=yK (A6.symm.trans hp);subst ep;have en:=YL.1;subst en;exact vB ho hr hN hM e g1 g2
   ·rename_i e;rw [yM e];exact AJ.out _ (C0 hM ρ) hd
  | _=>exact AJ.out _ (C0 hM ρ) hd
 refine ⟨⟨⟨by simp [Hs,R.hr.len],fun i o' hi=>?_,fun i o' p' b g1 g2 g3=>?_,fun i i' o1 o2 p1 p2 b AV g1 g2 g3 g4 g5 g6=>?_,R.hr.nlt,R.hr.gi⟩,⟨by simp [Hs,R.fr.1],fun i hi=>?_⟩⟩,⟨AM.refl _ w,fun b hb=>.inl ?_⟩⟩
 ·obtain ⟨e1,o2,e2,e3⟩:=Qp hi;obtain ⟨p',A6,Cm⟩:=R.hr.obj i o2 e2;refine ⟨p',A6,?_⟩;cases o2 with
  | cells l=>
   cases e3
   show AS w p' (l.map (KV k m v)).length _
   rw [yr];refine AS.out Cm rfl fun j u hj hu=>?_
   have:(l.map (KV k m v)).getD j .any=KV k m v (l.getD j .any):=by simp [hj]
   rw [this];refine conv _ _ ?_ hu
   have Af:some (DO.cells l)∈S.h:=yn e2;have:=xe Hm Af;exact iu (l:=l) this (by simp [hj])
  | ints l=>cases e3;exact AS.out Cm rfl fun j u _ hu=>hu
  | bools l=>cases e3;exact AS.out Cm rfl fun j u _ hu=>hu
  | arr m n f=>cases e3;exact AS.out Cm rfl fun j u _ hu=>AJ.out _ (C0 hM []) hu
  | iter encs=>
   cases e3;obtain ⟨gf,lb,Rd,q1,q2,q3,q4⟩:=Cm;exact ⟨gf,lb,Rd,q1,q2,fun b hb=>⟨fun hm=>(q3 b hb).1 (hM b hm),(q3 b hb).2⟩,q4⟩
  | mo x=>cases e3;exact Cm
 ·obtain ⟨e1,o2,e2,e3⟩:=Qp g1;obtain ⟨q1,q2,q3⟩:=R.hr.cel i o2 p' b e2 g2 g3;exact ⟨q1,q2,q3⟩
 ·obtain ⟨e1,o3,e2,_⟩:=Qp g1;obtain ⟨Nu,o4,Q0,_⟩:=Qp g2;exact R.hr.dis i i' o3 o4 p1 p2 b AV e2 Q0 g3 g4 g5 g6
 ·have A7:i<S.fr.length:=by simpa [Hs] using hi
  have:(Hs k m v S).fr.getD i .any=KV k m v (S.fr.getD i .any):=by simp [Hs,A7]
  rw [this];refine conv _ _ (iu hc (by simp [A7])) (R.fr.2 i A7)
 ·obtain ⟨i,o2,p',_,e2,g2,g3⟩:=YT _ hb;exact ⟨i,o2,p',e2,g2,g3⟩
def Qq (k:Nat) (S:St):Option (St×List Prop):=match S.h.getD k none with
 | some o=>match UT o with
  | some (m,n,v)=>some (Hs k m v S,S.fr.flatMap (Qr k m n)++S.h.flatMap (gD k m n))
  | none=>none
 | none=>none
theorem DK.frzE {S:St} (k:Nat) (S':St) (vs:List Prop) (h:Qq k S=some (S',vs)) (hv:Bc vs):DK S S':=by
 unfold Qq at h;split at h
 ·rename_i o ho;split at h
  ·rename_i m n v hf;cases h;obtain ⟨h1,h2⟩:=Cx.1 hv;refine DK.frz k ?_ hf h1 h2;rw [u8] at ho;cases hx:S.h[k]? with
   | none=>rw [hx] at ho;cases ho
   | some x=>rw [hx] at ho;exact congrArg some ho
  ·cases h
 ·cases h
theorem DK.refl (S:St):DK S S:=fun _ _ _ _ _ _ R=>⟨R,A8.refl _ _ _⟩
theorem DK.trans {A B C:St} (h:DK A B) (k:DK B C):DK A C:=fun P Γ N ρ a w R=>by
 obtain ⟨R1,s1⟩:=h P Γ N ρ a w R;obtain ⟨R2,s2⟩:=k P Γ N ρ a w R1;exact ⟨R2,s1.trans s2⟩
theorem MO.put {h:DH} {ρ:List AI} {k:Nat} {o o':DO} (hk:h[k]? =some (some o)) {b:Nat}:MO (h.set k (some o')) ρ b↔MO h ρ b:=by
 have AK:=(yJ.1 hk).1;constructor
 ·rintro ⟨i,x,p,h1,h2,h3⟩;rw [ym] at h1
  by_cases e:k=i
  ·subst e;exact ⟨k,o,p,hk,h2,h3⟩
  ·rw [yM e] at h1;exact ⟨i,x,p,h1,h2,h3⟩
 ·rintro ⟨i,x,p,h1,h2,h3⟩
  by_cases e:k=i
  ·subst e;exact ⟨k,o',p,by simp [AK],h2,h3⟩
  ·exact ⟨i,x,p,by rw [ym,yM e];exact h1,h2,h3⟩
theorem DK.obj {S:St} {k:Nat} {o o':DO} (hk:S.h[k]? =some (some o)) (hO: ∀ (P:Program) (M:Nat -> Prop) (w:World) (ρ:List AI) (p:AI),Cp P M w ρ p o -> Cp P M w ρ p o'):DK S ⟨S.fr,S.h.set k (some o')⟩:=fun P Γ N ρ a w R=>by
 have hM: ∀ b,MS N (S.h.set k (some o')) ρ b↔MS N S.h ρ b:=fun b=>or_congr Iff.rfl (MO.put hk)
 have back: ∀ {i:Nat} {x:DO},(S.h.set k (some o'))[i]? =some (some x) -> ∃ y,S.h[i]? =some (some y)/\ (i=k/\ x=o'∨y=x):=by
  intro i x hi;rw [ym] at hi
  by_cases e:k=i
  ·subst e;rw [yC rfl,yC (yJ.1 hk).1] at hi;cases hi;exact ⟨o,hk,.inl ⟨rfl,rfl⟩⟩
  ·rw [yM e] at hi;exact ⟨x,hi,.inr rfl⟩
 have O:BM (MS N S.h ρ) w ρ (MS N (S.h.set k (some o')) ρ) w ρ:=C0 (fun b hb=>(hM b).1 hb) ρ;refine ⟨⟨⟨by simp [R.hr.len],fun i x hi=>?_,fun i x p b g1 g2 g3=>?_,fun i i' o1 o2 p1 p2 b AV g1 g2 g3 g4 g5 g6=>?_,R.hr.nlt,R.hr.gi⟩,R.fr.out O⟩,⟨AM.refl _ w,fun b hb=>.inl ((MO.put hk).1 hb)⟩⟩
 ·rw [ym] at hi
  by_cases e:k=i
  ·subst e;rw [yC rfl,yC (yJ.1 hk).1] at hi;cases hi;obtain ⟨p,hp,hr⟩:=R.hr.obj k o hk;exact ⟨p,hp,hO P _ w ρ p (hr.out O (S:=fun _=>False) (AM.refl _ _) (fun _ h=>h.elim) fun _ _ _ h=>h)⟩
  ·rw [yM e] at hi;obtain ⟨p,hp,hr⟩:=R.hr.obj i x hi;exact ⟨p,hp,hr.out O (S:=fun _=>False) (AM.refl _ _) (fun _ h=>h.elim) fun _ _ _ h=>h⟩
 ·obtain ⟨y,e,_⟩:=back g1;exact R.hr.cel i y p b e g2 g3
 ·obtain ⟨y1,e1,_⟩:=back g1;obtain ⟨y2,e2,_⟩:=back g2;exact R.hr.dis i i' y1 y2 p1 p2 b AV e1 e2 g3 g4 g5 g6
inductive Fz where
 | frz (k:Nat)
 | arr (k n:Nat) (f:Nat -> Nat -> DV)
 | unf (k:Nat)
def ij (k n':Nat) (f':Nat -> Nat -> DV) (S:St):Option (St×List Prop):=match S.h.getD k none with
 | some (.arr m n f)=>some (⟨S.fr,S.h.set k (some (.arr m n' f'))⟩,[n=n'/\ ∀ i j,i<n -> j<m -> AN (f i j) (f' i j)])
 | _=>none
def UR:Fz -> St -> Option (St×List Prop)
 | .frz k,S=>Qq k S
 | .arr k n f,S=>ij k n f S
 | .unf k,S=>match S.h.getD k none with
  | some (.mo (.rows f (some (_,_,false))))=>some (⟨S.fr,S.h.set k (some (.mo (.rows f none)))⟩,[])
  | _=>none
theorem Dy.unf {w:World} {p:AI} {f:Int -> List Int} {x:Int} {L:List Int} {u:Value} {es:Array MapEntry} {AR:Nat} (h:Dy w p f (some (x,L,false)) u es AR):Dy w p f none u es AR:=
 { h with
  key:=fun e he=>let ⟨k,h1,h2⟩:=h.key e he;⟨k,h1,fun _=>h2 fun L e=>by cases e⟩
  inHand:=fun k L g e=>by cases e }
theorem getD_some {h:DH} {k:Nat} {o:DO} (ho:h.getD k none=some o):h[k]? =some (some o):=by
 rw [u8] at ho;cases hx:h[k]? with
 | none=>rw [hx] at ho;cases ho
 | some x=>rw [hx] at ho;exact congrArg some ho
theorem DK.fz {S:St} (z:Fz) (S':St) (vs:List Prop) (h:UR z S=some (S',vs)) (hv:Bc vs):DK S S':=by
 cases z with
 | frz k=>exact DK.frzE k S' vs h hv
 | arr k n' f'=>
  simp only [UR,ij] at h;split at h
  ·rename_i m n f ho;cases h;obtain ⟨⟨rfl,hd⟩,_⟩:=hv;refine DK.obj (getD_some ho) fun P M w ρ p hr=>?_
   refine AS.out hr rfl fun j u hj hu=>?_
   have hm:0<m:=by
    rcases zAp m with e | e
    ·subst e;omega
    ·exact e
   exact hd _ _ ((zAC hm).2 hj) (zA8 _ hm) M w [] u hu
  ·cases h
 | unf k=>
  simp only [UR] at h;split at h
  ·rename_i f x L ho;cases h;exact DK.obj (getD_some ho) fun P M w ρ p ⟨u,es,AR,hA⟩=>⟨u,es,AR,hA.unf⟩
  ·cases h
def US:List (Nat×Fz) -> Option Nat -> St -> Option (St×List Prop×List (Nat×Fz))
 | [],_,S=>some (S,[],[])
 | (t,z)::rest,dst,S=>if dst=some t then match UR z S with
  | some (S',vs)=>match US rest dst S' with
   | some (CX,Bm,r)=>some (CX,vs++Bm,r)
   | none=>none
  | none=>none
  else some (S,[],(t,z)::rest)
theorem Yf: ∀ (l:List (Nat×Fz)) {dst:Option Nat} {S S':St} {vs:List Prop} {r:List (Nat×Fz)},US l dst S=some (S',vs,r) -> Bc vs -> DK S S'
 | [],dst,S,S',vs,r,h,_=>by cases h;exact DK.refl S
 | (t,z)::rest,dst,S,S',vs,r,h,hv=>by
  simp only [US] at h;split at h
  ·split at h
   ·rename_i S1 Cs h1;split at h
    ·rename_i S2 FD r2 h2;cases h;obtain ⟨Bb,CE⟩:=Cx.1 hv;exact (DK.fz z S1 Cs h1 Bb).trans (Yf rest h2 CE)
    ·cases h
   ·cases h
  ·cases h;exact DK.refl S
abbrev SK {α:Type} [Inhabited α] (enc:α -> Nat -> DV) (L:List α):Nat -> Nat -> DV:=fun i j=>enc (L.getD i default) j
theorem md {α:Type} [Inhabited α] {enc:α -> Nat -> DV} {n m:Nat} {x:α} {g:Nat -> Nat -> DV} (hg: ∀ i j,j<m -> AN (g i j) (enc x j)):n=(List.replicate n x).length/\ ∀ i j,i<n -> j<m -> AN (g i j) (SK enc (List.replicate n x) i j):=by
 refine ⟨by simp,fun i j hi hj=>?_⟩;have:(List.replicate n x).getD i default=x:=by simp [u8,hi]
 rw [SK,this];exact hg i j hj
theorem BY {d:DV}:AN d d:=fun _ _ _ _ h=>h
def JY:List DV -> List DV -> Prop
 | [],[]=>True
 | d::ds,e::es=>AN d e/\ JY ds es
 | _,_=>False
theorem Rb: ∀ {l l':List DV},JY l l' -> l.length=l'.length/\ ∀ j,j<l.length -> AN (l.getD j .any) (l'.getD j .any)
 | [],[],_=>⟨rfl,fun j hj=>absurd hj (yT j)⟩
 | d::ds,e::es,⟨h1,h2⟩=>by
  obtain ⟨q1,q2⟩:=Rb h2;refine ⟨by simp [q1],fun j hj=>?_⟩;cases j with
  | zero=>exact h1
  | succ j=>exact q2 j (by simpa using hj)
 | [],_::_,h=>h.elim
 | _::_,[],h=>h.elim
theorem iv {l l':List DV} (h:JY l l') (j:Nat):AN (l.getD j .any) (l'.getD j .any):=by
 obtain ⟨h1,h2⟩:=Rb h
 by_cases hj:j<l.length
 ·exact h2 j hj
 ·rw [u8,u8,yx (by omega),yx (by omega)];exact BY
def V6:List DV -> List (List DV) -> Prop
 | [],[]=>True
 | v::vs,c::cs=>(∃ l,Hu v=some l/\ JY l c)/\ V6 vs cs
 | _,_=>False
theorem bW: ∀ {vs:List DV} {cs:List (List DV)},V6 vs cs -> vs.length=cs.length/\ ∀ i,i<vs.length -> ∃ l,Hu (vs.getD i .any)=some l/\ JY l (cs.getD i [])
 | [],[],_=>⟨rfl,fun i hi=>absurd hi (yT i)⟩
 | v::vs,c::cs,⟨h1,h2⟩=>by
  obtain ⟨q1,q2⟩:=bW h2;refine ⟨by simp [q1],fun i hi=>?_⟩;cases i with
  | zero=>exact h1
  | succ i=>exact q2 i (by simpa using hi)
 | [],_::_,h=>h.elim
 | _::_,[],h=>h.elim
theorem V4 {α:Type} [Inhabited α] {c:α -> List DV} {L:List α} {vals:List DV} {m n:Nat} (hn:n=vals.length) (h:V6 vals (L.map c)):n=L.length/\ ∀ i j,i<n -> j<m -> AN (match Hu (vals.getD i .any) with | some l=>l.getD j .any | none=>.any) (SK (fun x j=>(c x).getD j .any) L i j):=by
 subst hn;obtain ⟨h1,h2⟩:=bW h;rw [yr] at h1;refine ⟨h1,fun i j hi _=>?_⟩;obtain ⟨l,e,hl⟩:=h2 i hi;rw [e];have:(L.map c).getD i []=c (L.getD i default):=by simp [u8,h1▸hi]
 rw [this] at hl;exact iv hl j
theorem me {α:Type} [Inhabited α] {c:α -> List DV} {x:α} {l:List DV} {n m:Nat} (h:JY l (c x)):n=(List.replicate n x).length/\ ∀ i j,i<n -> j<m -> AN (l.getD j .any) (SK (fun x j=>(c x).getD j .any) (List.replicate n x) i j):=
 md fun _ j _=>iv h j
end
end Go.Proofs.YtekkngkphejfcaaGreatDoor
namespace Go.Proofs.YtekkngkphejfcaaGreatDoor
abbrev yb:=@List.mem_append
abbrev zR:=@Bool.eq_iff_iff
abbrev zY:=@Go.MapKept.run_getObj_map
abbrev z7:=@List.not_mem_nil
abbrev zAP:=@Go.MapKept.run_setObj_map
abbrev zAl:=@Go.MapKept.run_findKey
abbrev zAo:=@List.nodup_cons
abbrev zAw:=@List.Perm.refl
end Go.Proofs.YtekkngkphejfcaaGreatDoor
namespace Go.Proofs.YtekkngkphejfcaaGreatDoor
open Go.RowKit
def P7 (P:Program) (t:TypeId):Bool:=match P.underlying t with
 | some (.int .i64)=>true
 | _=>false
theorem XD {P:Program} {t:TypeId} (h:P7 P t=true):P.underlying t=some (.int .i64):=by
 unfold P7 at h;split at h
 ·assumption
 ·cases h
def Fk (P:Program) (t:TypeId):Option Nat:=match P.underlying t with
 | some (.int .i64)=>some 1
 | some (.struct fs)=>match fs.toList with
  | [f,g]=>if f.name != "_" &&g.name != "_" &&decide (f.offset=0)&&decide (g.offset=1)&&P7 P f.type&&P7 P g.type&&!P.stoodInHeld t then some 2 else none
  | _=>none
 | _=>none
section
variable {P:Program} {w:World} {t:TypeId}
theorem NF {n:Nat} (h:Fk P t=some n):(n=1/\ P.underlying t=some (.int .i64))∨∃ f g fs,n=2/\ P.underlying t=some (.struct fs)/\ fs.toList= [f,g]/\ f.name≠ "_" /\ g.name≠ "_" /\ f.offset=0/\ g.offset=1/\ P.underlying f.type=some (.int .i64)/\ P.underlying g.type=some (.int .i64)/\ P.stoodInHeld t=false:=by
 unfold Fk at h;split at h
 ·exact .inl ⟨(yK h).symm,by assumption⟩
 ·rename_i fs hu;split at h
  ·rename_i f g hf;split at h
   ·rename_i hc;simp only [yG,zl,ne_eq,yg,yv] at hc;obtain ⟨⟨⟨⟨⟨⟨h1,h2⟩,h3⟩,h4⟩,h5⟩,h6⟩,h7⟩:=hc;exact .inr ⟨f,g,fs,(yK h).symm,hu,hf,h1,h2,h3,h4,XD h5,XD h6,h7⟩
   ·cases h
  ·cases h
 ·cases h
theorem Mo {t:TypeId} (h:P.underlying t=some (.int .i64)) (cs:Array Value) (o:Nat) (v:Value) (hv:cs[o]? =some v):(part t cs o).run P w= .ok v w:=by
 unfold part;rw [yU,O6 h];simp [Result.andThen,He,h,hv]
theorem TX {x:List Int} (h:x.length=2): ∃ a b,x= [a,b]:=by
 match x,h with
 | [a,b],_=>exact ⟨a,b,rfl⟩
theorem Lh {x:List Int} (h:x.length=1): ∃ a,x= [a]:=by
 match x,h with
 | [a],_=>exact ⟨a,rfl⟩
theorem NE {n:Nat} (hk:Fk P t=some n) {x:List Int} (hx:x.length=n) (e:Bool):(Instr.checkKey e 10000 t (A4 x)).run P w= .ok () w:=by
 rcases NF hk with ⟨rfl,hu⟩ | ⟨f,g,fs,rfl,hu,hf,n1,n2,o1,o2,t1,t2,_⟩
 ·obtain ⟨a,rfl⟩:=Lh hx;exact MapKept.run_checkKey hu (by trivial) e 9999
 ·obtain ⟨a,b,rfl⟩:=TX hx
  show (Instr.checkKey e (9999+1) t (.agg #[.int .i64 a,.int .i64 b])).run P w=_
  unfold Instr.checkKey;have c1: ∀ a,(Instr.checkKey e 9999 f.type (.int .i64 a)).run P w= .ok () w:=fun a=>MapKept.run_checkKey t1 (by trivial) e 9998
  have c2: ∀ a,(Instr.checkKey e 9999 g.type (.int .i64 a)).run P w= .ok () w:=fun a=>MapKept.run_checkKey t2 (by trivial) e 9998
  simp only [yU,zA hu,Result.andThen];rw [←Array.forIn_toList,hf];simp only [List.forIn_cons,List.forIn_nil,n1,n2,ne_eq,not_false_eq_true,zE,o1,o2,yU];rw [Mo t1 _ 0 (.int .i64 a) rfl];simp only [Result.andThen,c1,zAh,yU];rw [Mo t2 _ 1 (.int .i64 b) rfl];simp only [Result.andThen,c2,zAh]
theorem qI {n:Nat} (hk:Fk P t=some n) {x y:List Int} (hx:x.length=n) (hy:y.length=n):(Op.equal t (A4 x) (A4 y)).run P w= .ok (x==y) w:=by
 rcases NF hk with ⟨rfl,hu⟩ | ⟨f,g,fs,rfl,hu,hf,n1,n2,o1,o2,t1,t2,hs⟩
 ·obtain ⟨a,rfl⟩:=Lh hx;obtain ⟨b,rfl⟩:=Lh hy
  show (Op.equalIn (9999+1) t (.int .i64 a) (.int .i64 b)).run P w=_
  rw [zA5 w 9999 t .i64 .i64 a b hu]
  congr 1
  rw [zR];simp
 ·obtain ⟨a,b,rfl⟩:=TX hx;obtain ⟨c,d,rfl⟩:=TX hy;have hF:P.fieldsOf t=fs:=by unfold Program.fieldsOf;rw [hu]
  show (Op.equalIn (9999+1) t (.agg #[.int .i64 a,.int .i64 b]) (.agg #[.int .i64 c,.int .i64 d])).run P w=_
  rw [run_equalIn_struct w 9999 t _ _ (by rw [hF];exact hu) hs,hF,hf];have e1: ∀ a c:Int,(Op.equalIn 9999 f.type (.int .i64 a) (.int .i64 c)).run P w= .ok (a==c) w:=fun a c=>zA5 w 9998 f.type .i64 .i64 a c t1
  have e2: ∀ a c:Int,(Op.equalIn 9999 g.type (.int .i64 a) (.int .i64 c)).run P w= .ok (a==c) w:=fun a c=>zA5 w 9998 g.type .i64 .i64 a c t2
  simp only [Op.eqFields,n1,n2,ne_eq,not_false_eq_true,zE,o1,o2,yU];rw [Mo t1 _ 0 (.int .i64 a) rfl];simp only [Result.andThen];rw [Mo t1 _ 0 (.int .i64 c) rfl];simp only [Result.andThen,e1,Sem.run_ite]
  by_cases h1:a=c
  ·subst h1;simp only [beq_self_eq_true,yq,yt,zAA,yU];rw [Mo t2 _ 1 (.int .i64 b) rfl];simp only [Result.andThen];rw [Mo t2 _ 1 (.int .i64 d) rfl];simp only [Result.andThen,e2,Sem.run_ite]
   by_cases h2:b=d
   ·subst h2;simp
   ·have:([a,b]== [a,d])=false:=by simp [h2]
    have KQ:(b==d)=false:=by simp [h2]
    simp [KQ,h2]
  ·have UK:(a==c)=false:=by simp [h1]
   simp [UK,h1]
theorem qH {n:Nat} (hk:Fk P t=some n) {x:List Int} (hx:x.length=n) {ks:KS} (D8: ∀ y∈ks,y.length=n) {es:List MapEntry} (he: ∀ e∈es,∃ y∈ks,e.key=A4 y):
 ((Instr.findKey t (A4 x) es).run P w= .ok none w/\ ∀ e∈es,e.key≠A4 x)∨∃ j e,(Instr.findKey t (A4 x) es).run P w= .ok (some (j,e.val)) w/\ es[j]? =some e/\ e.key=A4 x:=by
 have ask: ∀ (es:List MapEntry) (i:Nat),(∀ e∈es,∃ y∈ks,e.key=A4 y) -> ((Instr.findAsking t (A4 x) es i).run P w= .ok none w/\ ∀ e∈es,e.key≠A4 x)∨∃ j e,(Instr.findAsking t (A4 x) es i).run P w= .ok (some (i+j,e.val)) w/\ es[j]? =some e/\ e.key=A4 x:=by
  intro es
  induction es with
  | nil=>intro i _;exact .inl ⟨rfl,fun e he=>by cases he⟩
  | cons e es ih=>
   intro i he;obtain ⟨y,hy,CQ⟩:=he e (by simp);have h1:(Op.equal t (A4 x) e.key).run P w= .ok (x==y) w:=by rw [CQ];exact qI hk hx (D8 y hy)
   by_cases XW:x=y
   ·subst XW;exact .inr ⟨0,e,by simp [Instr.findAsking,h1,Result.andThen],rfl,CQ⟩
   ·have hf:(x==y)=false:=by simp [XW]
    rcases ih (i+1) (fun e GU=>he e (by simp [GU])) with ⟨g1,g2⟩ | ⟨j,e',g1,g2,g3⟩
    ·refine .inl ⟨by simp [Instr.findAsking,h1,hf,Result.andThen,g1],fun e' GU=>?_⟩;rcases yd.1 GU with rfl | GU
     ·rw [CQ];exact fun h=>XW (dt h).symm
     ·exact g2 e' GU
    ·exact .inr ⟨j+1,e',by simp [Instr.findAsking,h1,hf,Result.andThen,g1];omega,by simpa using g2,g3⟩
 rcases NF hk with ⟨rfl,hu⟩ | ⟨f,g,fs,rfl,hu,_⟩
 ·obtain ⟨a,rfl⟩:=Lh hx
  rcases MapKept.findNow_spec (d:=.int .i64) (k:=.int .i64 a) (by trivial) es 0 (fun e hm=>by
   obtain ⟨y,hy,CQ⟩:=he e hm;obtain ⟨b,rfl⟩:=Lh (D8 y hy);rw [CQ];trivial) with ⟨h1,h2⟩ | ⟨j,e,h1,h2,h3⟩
  ·exact .inl ⟨zAl hu h1,h2⟩
  ·exact .inr ⟨j,e,by have:=zAl (w:=w) hu h1;rw [yX] at this;exact this,h2,h3⟩
 ·have hn: ∀ es:List MapEntry,(∀ e∈es,∃ y∈ks,e.key=A4 y) -> (Instr.findKey t (A4 x) es).run P w=(match es with | []=>.ok none w | _=>(Instr.findAsking t (A4 x) es 0).run P w):=fun es he=>by
   cases es with
   | nil=>simp [Instr.findKey,zA hu,Instr.findNow,Result.andThen]
   | cons e es=>
    have:Instr.findNow (.struct fs) (A4 x) (e::es) 0=none:=by
     simp [Instr.findNow,Instr.sameNow]
    simp [Instr.findKey,zA hu,this,Result.andThen]
  rw [hn es he];cases es with
  | nil=>exact .inl ⟨rfl,fun e he=>by cases he⟩
  | cons e es=>
   rcases ask (e::es) 0 he with h | ⟨j,e',g1,g2⟩
   ·exact .inl h
   ·exact .inr ⟨j,e',by simpa using g1,g2⟩
theorem qG {n:Nat} (hk:Fk P t=some n) {x:List Int} (hx:x.length=n):(Instr.keyThatStays (A4 x) (A4 x)).run P w= .ok (A4 x) w:=by
 rcases NF hk with ⟨rfl,hu⟩ | ⟨f,g,fs,rfl,hu,_⟩
 ·obtain ⟨a,rfl⟩:=Lh hx;exact MapKept.run_keyThatStays (d:=.int .i64) (by trivial)
 ·obtain ⟨a,b,rfl⟩:=TX hx
  have:Instr.sameBits 10000 (A4 [a,b]) (A4 [a,b])=true:=by
   show Instr.sameBits (9998+1+1) (.agg #[.int .i64 a,.int .i64 b]) (.agg #[.int .i64 a,.int .i64 b])=true
   simp [Instr.sameBits]
  simp [Instr.keyThatStays,this]
end
/-! ### Sets in Av-/
def dX:List Int -> List Int -> Bool
 | _,[]=>false
 | [],_::_=>true
 | a::r,b::s=>decide (a<b)||(a==b&&dX r s)
def Tc (x:List Int):KS -> KS
 | []=>[x]
 | y::r=>if dX x y then x::y::r else y::Tc x r
def B7 (x:List Int) (l:KS):KS:=if l.contains x then l else Tc x l
theorem d5 (x:List Int): ∀ l:KS,(Tc x l).Perm (x::l)
 | []=>zAw _
 | y::r=>by
  unfold Tc;split
  ·exact zAw _
  ·exact ((d5 x r).cons y).trans (List.Perm.swap x y r)
theorem cG {x:List Int} {l:KS} (h:x∈l):B7 x l=l:=by unfold B7;simp [h]
theorem WF {x:List Int} {l:KS} (h:x∉l):(B7 x l).Perm (x::l):=by unfold B7;simp [h];exact d5 x l
theorem La {x y:List Int} {l:KS}:y∈B7 x l↔y=x∨y∈l:=by
 by_cases h:x∈l
 ·rw [cG h];exact ⟨.inr,fun h'=>h'.elim (fun e=>e▸h) id⟩
 ·rw [(WF h).mem_iff];simp
section
variable {P:Program} {w:World} {b n:Nat} {l:KS} {es:Array MapEntry} {AR:Nat}
theorem EI.key (h:EI w b n l es AR): ∀ e∈es.toList,∃ y∈l,e.key=A4 y:=fun e he=>by
 have:e.key∈es.toList.map (·.key):=zK.2 ⟨e,he,rfl⟩;obtain ⟨y,h1,h2⟩:=zK.1 (h.keys.mem_iff.1 this);exact ⟨y,h1,h2.symm⟩
theorem EI.has (h:EI w b n l es AR) {x:List Int}:x∈l↔∃ e∈es.toList,e.key=A4 x:=by
 constructor
 ·intro hx;have:A4 x∈l.map A4:=zK.2 ⟨x,hx,rfl⟩;obtain ⟨e,h1,h2⟩:=zK.1 (h.keys.mem_iff.2 this);exact ⟨e,h1,h2⟩
 ·rintro ⟨e,h1,h2⟩;obtain ⟨y,h3,h4⟩:=h.key e h1;exact dt (h2.symm.trans h4)▸h3
theorem EI.find (h:EI w b n l es AR) {t:TypeId} (hk:Fk P t=some n) {x:List Int} (hx:x.length=n):
 (x∉l/\ (Instr.findKey t (A4 x) es.toList).run P w= .ok none w)∨(x∈l/\ ∃ j e,(Instr.findKey t (A4 x) es.toList).run P w= .ok (some (j,.bool true)) w/\ es[j]? =some e/\ e.key=A4 x/\ e.val= .bool true):=by
 rcases qH (w:=w) hk hx h.len h.key with ⟨h1,h2⟩ | ⟨j,e,h1,h2,h3⟩
 ·exact .inl ⟨fun hx=>by obtain ⟨e,g1,g2⟩:=h.has.1 hx;exact h2 e g1 g2,h1⟩
 ·have hm:e∈es.toList:=yn h2;have hv:=h.tru e hm;exact .inr ⟨h.has.2 ⟨e,hm,h3⟩,j,e,by rw [←hv];exact h1,by simpa using h2,h3,hv⟩
theorem OT {w:World} {b:Nat} (o:Obj):AM (fun k=>k=b) w { w with heap:=w.heap.setIfInBounds b o }:=
 ⟨rfl,rfl,rfl,by simp,fun k _ AV=>by simp [zAe AV]⟩
theorem EI.put (h:EI w b n l es AR) {mt kt et:TypeId} (hm:P.underlying mt=some (.map kt et)) (hk:Fk P kt=some n) {x:List Int} (hx:x.length=n):
 ∃ w' DS EF,(Instr.mapUpdate mt (.map (some b)) (A4 x) (.bool true)).run P w= .ok () w'/\ AM (fun k=>k=b) w w'/\ EI w' b n (B7 x l) DS EF:=by
 have AK:b<w.heap.size:=(yE.1 h.blk).1;rcases h.find hk hx with ⟨h1,h2⟩ | ⟨h1,j,e,h2,h3,h4,h5⟩
 ·refine ⟨{ w with heap:=w.heap.setIfInBounds b (.map (es.push { key:=A4 x,val:=.bool true,born:=AR }) (AR+1)) },es.push { key:=A4 x,val:=.bool true,born:=AR },AR+1,?_,OT _,?_⟩
  ·simp [Instr.mapUpdate,zA hm,zY h.blk,NE hk hx,h2,zAP _ h.blk,Result.andThen]
  ·refine ⟨by simp [AK],?_,((WF h1).nodup_iff).2 (zAo.2 ⟨h1,h.nd⟩),fun y hy=>?_,fun e he=>?_,fun e he=>?_,?_⟩
   ·have e1:((es.push { key:=A4 x,val:=.bool true,born:=AR }).toList.map (·.key))=es.toList.map (·.key)++[A4 x]:=by simp
    rw [e1];refine (List.perm_append_comm).trans ?_
    show (A4 x::es.toList.map (·.key)).Perm _
    exact (h.keys.cons (A4 x)).trans (((WF h1).map A4).symm)
   ·rcases La.1 hy with rfl | hy
    ·exact hx
    ·exact h.len y hy
   ·simp only [Array.toList_push,yb,yV] at he;rcases he with he | rfl
    ·exact h.tru e he
    ·rfl
   ·simp only [Array.toList_push,yb,yV] at he;rcases he with he | rfl
    ·exact Nat.lt_succ_of_lt (h.born e he)
    ·exact Nat.lt_succ_self _
   ·have e1:((es.push { key:=A4 x,val:=.bool true,born:=AR }).toList.map (·.born))=es.toList.map (·.born)++[AR]:=by simp
    rw [e1];refine List.nodup_append.2 ⟨h.stamps,by simp,fun a ha c hc=>?_⟩;obtain ⟨e,g1,g2⟩:=zK.1 ha;have:=h.born e g1;simp at hc;omega
 ·have hj:j<es.size:=(yE.1 h3).1
  have tY:(es.modify j fun e=>{ e with key:=A4 x,val:=.bool true })=es:=by
   apply Array.ext_getElem?;intro i;rw [zAD];split
   ·rename_i QX;subst QX;rw [h3]
    show some ({ e with key:=A4 x,val:=.bool true }:MapEntry)=some e
    rw [←h4,←h5]
   ·rfl
  refine ⟨{ w with heap:=w.heap.setIfInBounds b (.map es AR) },es,AR,?_,OT _,?_⟩
  ·have D8:((es[j]?).map (·.key)).getD (A4 x)=A4 x:=by rw [h3];exact h4
   simp [Instr.mapUpdate,zA hm,zY h.blk,NE hk hx,h2,D8,qG hk hx,zAP _ h.blk,Result.andThen,tY]
  ·rw [cG h1];exact { h with blk:=by simp [AK] }
theorem EI.look (h:EI w b n l es AR) {mt kt et:TypeId} (hm:P.underlying mt=some (.map kt et)) (hk:Fk P kt=some n) {x:List Int} (hx:x.length=n) (hz:(zeroValue et).run P w= .ok (.bool false) w):
 (Instr.lookup mt (.map (some b)) (A4 x) false).run P w= .ok (.bool (l.contains x)) w:=by
 rcases h.find hk hx with ⟨h1,h2⟩ | ⟨h1,j,e,h2,h3,h4,h5⟩
 ·have:l.contains x=false:=by simpa using h1
  simp [Instr.lookup,zA hm,zY h.blk,NE hk hx,h2,hz,Result.andThen,this,h1]
 ·have:l.contains x=true:=by simpa using h1
  simp [Instr.lookup,zA hm,zY h.blk,NE hk hx,h2,Result.andThen,this,h1]
end
/-! ### On Z6 view-/
def TQ (lk:Option (Nat×Nat×Array MapEntry×Nat)) (i:Nat):Prop:=∀ y,lk=some y -> y.1≠i
section
variable {P:Program} {w w':World} {p:AI} {n:Nat} {ls:List (Option KS)} {lk:Option (Nat×Nat×Array MapEntry×Nat)} {vs:Array Value}
theorem EY.lies (h:EY w p n ls lk vs) {b:Nat} (hb:p.foot b):Dh w b:=by
 rcases h.foot b hb with rfl | ⟨j,l,h1,h2⟩
 ·obtain ⟨cs,t,h3,_⟩:=h.row;exact .cells h3
 ·obtain ⟨b',g1,_,_,es,AR,g2,_⟩:=h.has j l h1;have:b'=b:=by rw [g1] at h2;cases h2;rfl
  subst this;exact ⟨_,rfl,(),g2.blk⟩
theorem EY.put (h:EY w p n ls lk vs) {i b:Nat} {l l':KS} {es:Array MapEntry} {AR:Nat} (hi:ls[i]? =some (some l)) (hb:vs[i]? =some (Value.map (some b))) (hu:AM (fun k=>k=b) w w') (hm:EI w' b n l' es AR) (X0:TQ lk i):EY w' p n (ls.set i (some l')) lk vs:=by
 have CS:i<ls.length:=(yJ.1 hi).1;obtain ⟨b0,g1,g2,g3,_⟩:=h.has i l hi;have:b0=b:=by rw [g1] at hb;cases hb;rfl
 subst this
 have Hq: ∀ {j:Nat} {x:Option KS},(ls.set i (some l'))[j]? =some x -> (j=i/\ x=some l')∨(j≠i/\ ls[j]? =some x):=fun {j x} hj=>by
  rw [ym] at hj
  by_cases e:i=j
  ·subst e;simp [CS] at hj;exact .inl ⟨rfl,hj.symm⟩
  ·rw [yM e] at hj;exact .inr ⟨zAe e,hj⟩
 refine ⟨h.val,by simp [h.size],?_,h.blk,fun j l1 hj=>?_,fun j hj=>?_,fun b' ER=>?_,h.inj⟩
 ·obtain ⟨cs,t,k1,k2⟩:=h.row;exact ⟨cs,t,(hu.block _ (yE.1 k1).1 (fun e=>g2 e.symm)).trans k1,by simpa using k2⟩
 ·rcases Hq hj with ⟨rfl,e⟩ | ⟨AV,hj⟩
  ·cases e;exact ⟨b0,hb,g2,g3,es,AR,hm,fun y hy e=>absurd e (X0 y hy)⟩
  ·obtain ⟨b1,k1,k2,k3,G8,c1,k4,k5⟩:=h.has j l1 hj;refine ⟨b1,k1,k2,k3,G8,c1,k4.out (hu.block _ (yE.1 k4.blk).1 fun e=>AV ?_),k5⟩;subst e;exact h.inj j i b1 k1 hb
 ·rcases Hq hj with ⟨rfl,e⟩ | ⟨AV,hj⟩
  ·cases e
  ·exact h.nil j hj
 ·rcases h.foot b' ER with e | ⟨j,l1,k1,k2⟩
  ·exact .inl e
  ·by_cases e:j=i
   ·subst e;exact .inr ⟨j,l',by simp [CS],k2⟩
   ·exact .inr ⟨j,l1,by rw [ym,yM (zAe e)];exact k1,k2⟩
end
def TY (n:Nat) (d:DV):Option (List Int):=match d with
 | .int .i64 a=>if n=1 then some [a] else none
 | .agg m f=>if m=n/\ n≠1 then if (List.range m).all fun j=>JE (f j) then some ((List.range m).map fun j=>Gx (f j)) else none else none
 | _=>none
def Wx (n:Nat) (x:List Int):DV:=if n=1 then .int .i64 (x.getD 0 0) else .agg n (Fx n fun j=>.int .i64 (x.getD j 0))
section
variable {P:Program} {w:World} {ρ:List AI} {M:Nat -> Prop}
theorem du {x:List Int} (h:x.length≠1):A4 x= .agg (x.map fun a=>.int .i64 a).toArray:=by
 unfold A4;split
 ·simp at h
 ·rfl
theorem dw {n:Nat} {d:DV} {x:List Int} {v:Value} (h:TY n d=some x) (hr:AJ M w d ρ v):v=A4 x/\ x.length=n:=by
 unfold TY at h;split at h
 ·split at h
  ·cases h;exact ⟨hr,by simp;omega⟩
  ·cases h
 ·rename_i m f;split at h
  ·rename_i hm;split at h
   ·rename_i ha;cases h;have hl:((List.range m).map fun j=>Gx (f j)).length=m:=by simp
    refine ⟨?_,by rw [hl];exact hm.1⟩;obtain ⟨cs,rfl,hs,hc⟩:=hr;rw [du (by rw [hl];omega)]
    congr 1
    apply Array.ext_getElem?;intro j
    by_cases hj:j<m
    ·obtain ⟨u,e1,e2⟩:=hc j hj;have:=W9 (yL.1 ha j (yP.2 hj)) e2;rw [e1,this];simp [hj]
    ·rw [zAt (by omega)];simp [hj]
   ·cases h
  ·cases h
 ·cases h
theorem qJ {n:Nat} {x:List Int} (h:x.length=n):AJ M w (Wx n x) ρ (A4 x):=by
 unfold Wx;split
 ·rename_i e;subst e;obtain ⟨a,rfl⟩:=Lh h;rfl
 ·rename_i e;rw [du (by omega)];refine ⟨_,rfl,by simp [h],fun j hj=>?_⟩;rw [Ru hj];have BI:j<x.length:=by omega
  exact ⟨.int .i64 (x.getD j 0),by simp [BI],rfl⟩
end
def Ub:Nat -> DH -> Option (Nat×Nat×List (Option KS)×Nat×Nat×Array MapEntry×Nat)
 | _,[]=>none
 | k,some (.mo (.sets n ls (some y)))::_=>some (k,n,ls,y)
 | k,_::r=>Ub (k+1) r
theorem vS {n:Nat} {ls:List (Option KS)} {y:Nat×Nat×Array MapEntry×Nat} {k:Nat}: ∀ (h:DH) (k0:Nat),Ub k0 h=some (k,n,ls,y) -> k0<=k/\ h[k-k0]? =some (some (.mo (.sets n ls (some y)))):=by
 intro h
 induction h with
 | nil=>intro k0 e;cases e
 | cons x r ih=>
  intro k0 e
  have step:Ub (k0+1) r=some (k,n,ls,y) -> k0<=k/\ (x::r)[k-k0]? =some (some (.mo (.sets n ls (some y)))):=fun e=>by
   obtain ⟨h1,h2⟩:=ih (k0+1) e;refine ⟨by omega,?_⟩;have:k-k0=k-(k0+1)+1:=by omega
   rw [this];simpa using h2
  match x,e with
  | none,e=>exact step e
  | some (.cells _),e=>exact step e
  | some (.ints _),e=>exact step e
  | some (.bools _),e=>exact step e
  | some (.arr _ _ _),e=>exact step e
  | some (.iter _),e=>exact step e
  | some (.mo (.set _ _)),e=>exact step e
  | some (.mo (.mit _ _ _ _ _ _)),e=>exact step e
  | some (.mo (.rows _ _)),e=>exact step e
  | some (.mo (.sets _ _ none)),e=>exact step e
  | some (.mo (.sets _ _ (some _))),e=>cases e;exact ⟨yf _,by simp⟩
def Lb (P:Program) (t:TypeId):Option (Nat×TypeId):=match P.underlying t with
 | some (.map k e)=>match Fk P k with
  | some n=>match P.info? e with
   | some i=>match i.zero with
    | some (.bool false)=>some (n,k)
    | _=>none
   | none=>none
  | none=>none
 | _=>none
theorem Wk {P:Program} {t k:TypeId} {n:Nat} (h:Lb P t=some (n,k)): ∃ e,P.underlying t=some (.map k e)/\ Fk P k=some n/\ ∀ w,(zeroValue e).run P w= .ok (.bool false) w:=by
 unfold Lb at h;split at h
 ·rename_i k' e hu;split at h
  ·rename_i n' hk;split at h
   ·rename_i i hi;split at h
    ·rename_i hz;cases h;exact ⟨e,hu,hk,fun w=>by simp [zeroValue,typeInfo,hi,hz]⟩
    ·cases h
   ·cases h
  ·cases h
 ·cases h
def Si (P:Program) (S:St) (t:TypeId) (m k x:DV):Option (DV×DH×List Prop×Bool):=match Lb P t with
 | some (n,_)=>match TY n k,x with
  | some x,.bool true=>match m with
   | .it j=>match S.h[j]? with
    | some (some (.mo (.set n' l)))=>if n'=n then some (.any,S.h.set j (some (.mo (.set n (B7 x l)))),[],false) else none
    | _=>none
   | .mri j i=>match S.h[j]? with
    | some (some (.mo (.sets n' ls lk)))=>if n'=n then some (.any,S.h.set j (some (.mo (.sets n (ls.set i (some (B7 x ((ls.getD i none).getD [])))) lk))),[(ls.getD i none).isSome=true,TQ lk i],false) else none
    | _=>none
   | _=>none
  | _,_=>none
 | none=>none
def Wl (P:Program) (S:St):Op -> Option (DV×DH×List Prop×Bool)
 | .makeMap t none=>match Lb P t with
  | some (n,_)=>some (.it S.h.length,S.h++[some (.mo (.set n []))],[],true)
  | none=>none
 | .mapUpdate t m k x=>Si P S t (AY S.fr m) (AY S.fr k) (AY S.fr x)
 | .insert t m k x=>Si P S t (AY S.fr m) (AY S.fr k) (AY S.fr x)
 | .lookup t m k false=>match Lb P t with
  | some (n,_)=>match TY n (AY S.fr k) with
   | some x=>match AY S.fr m with
    | .it j=>match S.h[j]? with
     | some (some (.mo (.set n' l)))=>if n'=n then some (.bool (l.contains x),S.h,[],true) else none
     | _=>none
    | .mri j i=>match S.h[j]? with
     | some (some (.mo (.sets n' ls _)))=>if n'=n then some (.bool (((ls.getD i none).getD []).contains x),S.h,[(ls.getD i none).isSome=true],true) else none
     | _=>none
    | _=>none
   | none=>none
  | none=>none
 | .range t m=>match Lb P t with
  | some (n,_)=>match AY S.fr m with
   | .mri j i=>match S.h[j]? with
    | some (some (.mo (.sets n' ls (some (i',mb,es,AR)))))=>if n'=n then some (.it S.h.length,S.h++[some (.mo (.mit n mb es AR ((ls.getD i none).getD []) none))],[(ls.getD i none).isSome=true,i'=i],true) else none
    | _=>none
   | _=>none
  | none=>none
 | .entry m=>match AY S.fr m with
  | .it j=>match S.h[j]? with
   | some (some (.mo (.mit n mb es AR _ (some x))))=>match Ub 0 S.h with
    | some (_,_,ls,i,dS,DS,EF)=>some (.tup 2 (Fx 2 fun c=>if c=0 then Wx n x else .bool true),S.h,[(ls.getD i none).isSome=true,dS=mb,DS=es,EF=AR],true)
    | none=>none
   | _=>none
  | _=>none
 | _=>none
section
variable {P:Program} {Γ:Au} {N:Nat -> Prop} {S:St} {ρ:List AI} {a:Act} {w:World}
theorem Ni {ls:List (Option KS)} {i:Nat} (h:(ls.getD i none).isSome=true):ls[i]? =some (some ((ls.getD i none).getD [])):=by
 rw [u8] at h ⊢;cases hx:ls[i]? with
 | none=>rw [hx] at h;cases h
 | some x=>
  rw [hx] at h;cases x with
  | none=>cases h
  | some l=>simp
theorem Vu (R:AX P Γ N S ρ a w) {j n:Nat} {l:KS} {v:Value} (hk:S.h[j]? =some (some (.mo (.set n l)))) (hv:AJ (MS N S.h ρ) w (.it j) ρ v): ∃ p es AR,ρ[j]? =some p/\ v= .map (some p.blk)/\ p.foot=(fun b=>b=p.blk)/\ p.val=Value.map (some p.blk)/\ EI w p.blk n l es AR:=by
 obtain ⟨p,hp,rfl⟩:=hv;obtain ⟨p',A6,h1,h2,es,AR,h3⟩:=R.hr.obj j _ hk;have:p'=p:=yK (A6.symm.trans hp);subst this;exact ⟨p',es,AR,hp,h1,h2,h1,h3⟩
theorem Vt (R:AX P Γ N S ρ a w) {j i n:Nat} {ls:List (Option KS)} {lk:Option (Nat×Nat×Array MapEntry×Nat)} {v:Value} (hk:S.h[j]? =some (some (.mo (.sets n ls lk)))) (hv:AJ (MS N S.h ρ) w (.mri j i) ρ v) (hs:(ls.getD i none).isSome=true):
 ∃ p vs b es AR,ρ[j]? =some p/\ EY w p n ls lk vs/\ v= .map (some b)/\ vs[i]? =some (Value.map (some b))/\ p.foot b/\ EI w b n ((ls.getD i none).getD []) es AR/\ ∀ y,lk=some y -> y.1=i -> y.2=(b,es,AR):=by
 obtain ⟨p,vs,hp,F4,DE⟩:=hv;obtain ⟨p',A6,Bm,h1⟩:=R.hr.obj j _ hk;have:p'=p:=yK (A6.symm.trans hp);subst this;have:Bm=vs:=by have:=h1.val.symm.trans F4;cases this;rfl
 subst this;obtain ⟨b,g1,g2,g3,es,AR,g4,g5⟩:=h1.has i _ (Ni hs);have:v= .map (some b):=by rw [g1] at DE;exact (yK DE).symm
 exact ⟨p',Bm,b,es,AR,hp,h1,this,g1,g3,g4,g5⟩
theorem Vw (R:AX P Γ N S ρ a w) {d:DV} {v:Value} (hv:AJ (MS N S.h ρ) w d ρ v):C9 P Γ N S.h ρ w true d S.h v w:=⟨⟨ρ,R.hr,hv,A8.refl _ _ _,fun _ _ h=>h⟩,fun _=>Ar.refl w⟩
theorem UM (H:BK P Γ N S.h ρ w) {ob:Obj} (Cn:fR ob=true) {pl:AI} (Dc:pl.foot=fun b=>b=w.heap.size) {o:DO} {d:DV} {v:Value} (ho: ∀ M ρ',Cp P M (w.alloc ob) ρ' pl o)
 (hv: ∀ M ρ',ρ'[S.h.length]? =some pl -> AJ M (w.alloc ob) d ρ' v) (ext:Bool):C9 P Γ N S.h ρ w ext d (S.h++[some o]) v (w.alloc ob):=by
 have hE:Ar w (w.alloc ob):=(Ar.refl w).allocR _;have hf: ∀ b,pl.foot b -> w.heap.size<=b:=fun b hb=>by rw [Dc] at hb;exact zA6 (Eq.symm hb)
 have hb:(w.alloc ob).heap[w.heap.size]? =some ob:=zAL w _;refine ⟨⟨ρ++[pl],H.snoc hE (fun b hx=>⟨hf b hx,ob,Cn,(),by rw [Dc] at hx;rw [show b=w.heap.size from hx];exact hb⟩) (ho _ _),?_,A8.snoc H hE hf,fun k p hk=>De hk⟩,fun _=>hE⟩;exact hv _ _ (by rw [←H.len];simp)
theorem cH (R:AX P Γ N S ρ a w) {t:TypeId} {m k x:Operand} {d:DV} {h':DH} {vs:List Prop} {ext:Bool} (hd:Si P S t (AY S.fr m) (AY S.fr k) (AY S.fr x)=some (d,h',vs,ext)) (hv:Bc vs):
 ∃ w',(Instr.mapUpdate t (a.eval m) (a.eval k) (a.eval x)).run P w= .ok () w'/\ C9 P Γ N S.h ρ w ext d h' undef w':=by
 have rm:=Bj R m;have rk:=Bj R k;have rx:=Bj R x;unfold Si at hd;split at hd
 ·rename_i n kt hT;obtain ⟨e,hu,hk,hz⟩:=Wk hT;split at hd
  ·rename_i xs hK hX;obtain ⟨ek,el⟩:=dw hK rk;rw [hX] at rx;have ex:a.eval x= .bool true:=rx;rw [ek,ex];split at hd
   ·rename_i j hM;split at hd
    ·rename_i n' l hO;split at hd
     ·rename_i hn;cases hd;subst hn;rw [hM] at rm;obtain ⟨p,es,AR,hp,ev,Dc,F4,hA⟩:=Vu R hO rm;rw [ev];obtain ⟨w',DS,EF,h1,h2,h3⟩:=hA.put hu hk el;have KC:AM p.foot w w':=by rw [Dc];exact h2
      refine ⟨w',h1,⟨ρ,R.hr.write hO hp KC (fun b hb=>?_) ⟨F4,Dc,DS,EF,h3⟩,trivial,A8.write hO hp KC,fun _ _ h=>h⟩,fun h=>by cases h⟩;rw [Dc] at hb;exact ⟨_,rfl,(),by rw [show b=p.blk from hb];exact h3.blk⟩
     ·cases hd
    ·cases hd
   ·rename_i j i hM;split at hd
    ·rename_i n' ls lk hO;split at hd
     ·rename_i hn;cases hd;subst hn;obtain ⟨hs,X0,_⟩:=hv;rw [hM] at rm;obtain ⟨p,vs,b,es,AR,hp,hS,ev,DE,Fp,hA,_⟩:=Vt R hO rm hs;rw [ev];obtain ⟨w',DS,EF,h1,h2,h3⟩:=hA.put hu hk el;have KC:AM p.foot w w':=h2.mono fun c _ hc=>by rw [show c=b from hc];exact Fp
      have UI:=hS.put (Ni hs) DE h2 h3 X0;exact ⟨w',h1,⟨ρ,R.hr.write hO hp KC (fun b hb=>UI.lies hb) ⟨vs,UI⟩,trivial,A8.write hO hp KC,fun _ _ h=>h⟩,fun h=>by cases h⟩
     ·cases hd
    ·cases hd
   ·cases hd
  ·cases hd
 ·cases hd
theorem pm (es:Array MapEntry):leftOf es #[]=es:=by
 unfold leftOf;refine Array.filter_eq_self.2 fun x hx=>by simp
theorem mR {r bm HN AR:Nat} {seen:Array Nat} {es:Array MapEntry} {e:MapEntry} (hr:w.heap[r]? =some (.mapIter (some bm) HN seen AR)) (hs:seen.back? =some e.born) (hb:w.heap[bm]? =some (.map es AR)) (he:e∈es.toList) (hn:(es.toList.map (·.born)).Nodup):
 (Instr.entry (.pointer (some ⟨r,0,none⟩))).run P w= .ok (.tuple #[e.key,e.val]) w:=by
 have hf:es.find? (·.born==e.born)=some e:=by rw [←Array.find?_toList];exact find_born e es.toList hn he
 simp only [Instr.entry,getObj,yU,Sem.run,hr,hb,Result.andThen,hs,bne_self_eq_false,yt,zAA,hf];rfl
theorem pO (R:AX P Γ N S ρ a w) (o:Oper) {d:DV} {h':DH} {vs:List Prop} {ext:Bool} (hd:Wl P S o.op=some (d,h',vs,ext)) (hv:Bc vs):BN P (execOp a.eval o) w (C9 P Γ N S.h ρ w ext d h'):=by
 unfold Wl at hd;split at hd
 ·rename_i t ho;split at hd
  ·rename_i n kt hT;cases hd;refine BN.value (s:=Instr.makeMap t none) (by unfold execOp;rw [ho];rfl) (v:=.map (some w.heap.size)) (w':=w.alloc (.map #[] 0)) (by simp [Instr.makeMap,newObj];rfl) ?_;refine UM (ob:=.map #[] 0) (o:=.mo (.set n [])) (d:=.it S.h.length) (v:=.map (some w.heap.size)) (pl:=⟨w.heap.size,0,0,.map (some w.heap.size),fun b=>b=w.heap.size⟩) R.hr rfl rfl (fun M ρ'=>⟨rfl,rfl,#[],0,⟨zAL w _,by simp,List.nodup_nil,fun y hy=>absurd hy z7,fun e he=>absurd he (by simp),fun e he=>absurd he (by simp),by simp⟩⟩) (fun M ρ' hp=>⟨_,hp,rfl⟩) true
  ·cases hd
 ·rename_i t m k x ho;obtain ⟨w',h1,h2⟩:=cH R hd hv;exact BN.skip (s:=Instr.mapUpdate t (a.eval m) (a.eval k) (a.eval x)) (by unfold execOp;rw [ho]) h1 h2
 ·rename_i t m k x ho;obtain ⟨w',h1,h2⟩:=cH R hd hv;exact BN.skip (s:=Instr.mapUpdate t (a.eval m) (a.eval k) (a.eval x)) (by unfold execOp;rw [ho]) h1 h2
 ·rename_i t m k ho;have rm:=Bj R m;have rk:=Bj R k;split at hd
  ·rename_i n kt hT;obtain ⟨e,hu,hk,hz⟩:=Wk hT;split at hd
   ·rename_i xs hK;obtain ⟨ek,el⟩:=dw hK rk;split at hd
    ·rename_i j hM;split at hd
     ·rename_i n' l hO;split at hd
      ·rename_i hn;cases hd;subst hn;rw [hM] at rm;obtain ⟨p,es,AR,hp,ev,Dc,F4,hA⟩:=Vu R hO rm;exact BN.value (s:=Instr.lookup t (a.eval m) (a.eval k) false) (by unfold execOp;rw [ho]) (by rw [ek,ev];exact hA.look hu hk el (hz w)) (Vw R rfl)
      ·cases hd
     ·cases hd
    ·rename_i j i hM;split at hd
     ·rename_i n' ls lk hO;split at hd
      ·rename_i hn;cases hd;subst hn;rw [hM] at rm;obtain ⟨p,vs,b,es,AR,hp,hS,ev,DE,Fp,hA,_⟩:=Vt R hO rm hv.1;exact BN.value (s:=Instr.lookup t (a.eval m) (a.eval k) false) (by unfold execOp;rw [ho]) (by rw [ek,ev];exact hA.look hu hk el (hz w)) (Vw R rfl)
      ·cases hd
     ·cases hd
    ·cases hd
   ·cases hd
  ·cases hd
 ·rename_i t m ho;have rm:=Bj R m;split at hd
  ·rename_i n kt hT;obtain ⟨e,hu,hk,hz⟩:=Wk hT;split at hd
   ·rename_i j i hM;split at hd
    ·rename_i n' ls i' mb es AR hO;split at hd
     ·rename_i hn;cases hd;subst hn;obtain ⟨hs,hi,_⟩:=hv;subst hi;rw [hM] at rm;obtain ⟨p,vs,b,G8,U1,hp,hS,ev,DE,Fp,hA,hL⟩:=Vt R hO rm hs;have hL:=hL _ rfl rfl;cases hL;refine BN.value (s:=Instr.range t (a.eval m)) (by unfold execOp;rw [ho]) (by rw [ev];exact run_range_map w t _ _ _ _ _ hu hA.blk) ?_;refine UM (ob:=.mapIter (some mb) AR #[] AR) (o:=.mo (.mit n' mb es AR ((ls.getD i' none).getD []) none)) (d:=.it S.h.length) (v:=.pointer (some ⟨w.heap.size,0,none⟩)) (pl:=⟨w.heap.size,0,0,.pointer (some ⟨w.heap.size,0,none⟩),fun b=>b=w.heap.size⟩) R.hr rfl rfl (fun M ρ'=>⟨fun x hx=>hx.elim (hA.len x) (fun e=>by cases e),rfl,rfl,#[],zAL w _,by rw [pm];exact hA.keys,fun x hx=>by cases hx⟩) (fun M ρ' hp=>⟨_,hp,rfl⟩) true
     ·cases hd
    ·cases hd
   ·cases hd
  ·cases hd
 ·rename_i m ho;have rm:=Bj R m;split at hd
  ·rename_i j hM;split at hd
   ·rename_i n mb es AR rem x hO;split at hd
    ·rename_i k n' ls i dS DS EF hF;cases hd;obtain ⟨hs,e1,e2,e3,_⟩:=hv;subst e1 e2 e3;rw [hM] at rm;obtain ⟨p,hp,ev⟩:=rm;obtain ⟨p',A6,h0,h1,h2,seen,h3,h4,h5⟩:=R.hr.obj j _ hO;have:p'=p:=yK (A6.symm.trans hp);subst this;obtain ⟨e,g1,g2,g3⟩:=h5 x rfl;have hF:=(vS _ _ hF).2;obtain ⟨q,hq,vs,hS⟩:=R.hr.obj _ _ hF;obtain ⟨b,k1,k2,k3,G8,U1,k4,k5⟩:=hS.has i _ (Ni hs);have k5:=k5 _ rfl rfl;cases k5;refine BN.value (s:=Instr.entry (a.eval m)) (by unfold execOp;rw [ho]) (by rw [ev,h1];exact mR h3 g3 k4.blk g1 k4.stamps) (Vw R ?_);refine ⟨_,rfl,rfl,fun c hc=>?_⟩;rw [Ru hc,g2,k4.tru e g1]
     match c,hc with
     | 0,_=>exact ⟨A4 x,rfl,qJ (h0 x (.inr rfl))⟩
     | 1,_=>exact ⟨.bool true,rfl,rfl⟩
    ·cases hd
   ·cases hd
  ·cases hd
 ·cases hd
end
end Go.Proofs.YtekkngkphejfcaaGreatDoor
