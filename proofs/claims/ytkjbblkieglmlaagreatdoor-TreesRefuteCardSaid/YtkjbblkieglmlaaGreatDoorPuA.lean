/- Part 1 of 7 of what the proofs of these laws stand on. -/
import Derived.WalkKit
import Derived.WalkSpells
import Derived.WalkLawsBesides
import Derived.Lib.Hide
import Derived.OrdersHeld
import Derived.Deep.RegionHeld
import Derived.BigQuiet
import Derived.OrdersIn
import Derived.TacticsIn
import Derived.RangeFuncOwn
import Derived.RangeFuncNested
import Derived.RangeFuncCalls
import Derived.Laws.IdiomRangeMap
import Derived.Laws.Cells
import Derived.Laws.Cover3
import Derived.Laws.StructEq
import Derived.ChangeKeysEq
import Derived.RowKit
import Derived.Deep.AppendSrc
import Derived.Laws.MakeOwn
import Derived.Great.BuildSlice
import Derived.Sort.LoopGhostIn
set_option linter.all false
namespace Go.Proofs.YtkjbblkieglmlaaGreatDoor
abbrev zA5:=@Nat.le_refl
abbrev zC6:=@Go.World.block_lt_of_cell?
open Go.RowKit
def Aq (w w':World):Prop:=Below w.heap.size w w'
theorem Aq.refl (w:World):Aq w w:=Below.refl _ _
theorem Aq.trans {a b c:World}(h:Aq a b)(k:Aq b c):Aq a c:=Below.trans h (Below.mono k h.size)
theorem Aq.alloc (w:World)(o:Obj):Aq w (w.alloc o):=(Below.refl _ _).alloc (zA5 _) o
theorem Aq.allocR {w w':World}(h:Aq w w')(o:Obj):Aq w (w'.alloc o):=h.trans (Aq.alloc w' o)
theorem Aq.drewR {w w':World}(h:Aq w w'):Aq w w'.drew:=Below.drew h
theorem Aq.size {w w':World}(h:Aq w w'):w.heap.size<=w'.heap.size:=Below.size h
theorem Aq.cells {w w':World}(h:Aq w w'): ∀ b o,b<w.heap.size -> w'.cell? ⟨b,o,none⟩=w.cell? ⟨b,o,none⟩:=
 fun b o hb=>Below.cell h (p:=⟨b,o,none⟩) hb
theorem Aq.cell {w w':World}(h:Aq w w'){b o:Nat}{u:Value}(hc:w.cell? ⟨b,o,none⟩=some u):w'.cell? ⟨b,o,none⟩=some u:=by
 rw [h.cells b o (zC6 w ⟨b,o,none⟩ hc)];exact hc
def Fj (b:Bool)(e:Int):Int:=if b then 0 else e
theorem zDx (e:Int):Fj true e=0:=rfl
structure AB where
 kind:Int
 cells:List Int
 set:Int
 other:Int
 lo:Int
 hi:Int
 runs:List Int
 rule:Int
 spot:Int
 deriving DecidableEq,Inhabited
structure AA where
 cells:Int
 symbols:Int
 values:List Int
 nbrs:List (List Int)
 cons:List AB
 deriving DecidableEq,Inhabited
abbrev zAM:=@if_pos
abbrev zAW:=@Bool.and_eq_true
abbrev zAe:=@Option.some.inj
abbrev zAh:=@if_neg
abbrev zA6:=@Go.Sem.run_bind
abbrev zA9:=@Bool.or_eq_true
abbrev zBA:=@beq_iff_eq
abbrev zCV:=@Nat.lt_or_ge
abbrev zCe:=@Bool.false_eq_true
abbrev zG7:=@Go.mem_ready
abbrev zHV:=@Array.getElem?_eq_none
def P6:Op -> Bool
 | .move _ | .assign _ | .pick .. | .load .. | .binOp .. | .unOp .. | .convert .. | .makeFunc .. | .slice .. | .fieldAddr .. | .field .. | .indexAddr .. | .index .. | .extract .. | .build .. | .lookup .. | .makeInterface .. | .nilCheck _ | .typeAssert .. =>true
 | .call c=>match c.callee with
  | .builtin .len | .builtin .cap | .builtin .min | .builtin .max=>true
  | _=>false
 | _=>false
theorem Pe {P:Program}{w w':World}{α:Type}{s:Sem α}{f:α -> Value}{n:Next}(h:(s>>=fun x=>(pure (.value (f x)):Sem Next)).run P w= .ok n w'): ∃ v,n= .value v:=by
 rw [zA6] at h;cases hs:s.run P w with
 | ok v w1=>rw [hs] at h;simp only [Result.andThen] at h;cases h;exact ⟨_,rfl⟩
 | halt x w1=>rw [hs] at h;simp only [Result.andThen] at h;cases h
theorem wv {P:Program}{ρ:Operand -> Value}{o:Oper}{w w':World}{n:Next}(hp:P6 o.op=true)(h:(execOp ρ o).run P w= .ok n w'): ∃ v,n= .value v:=by
 unfold execOp at h;cases ho:o.op <;> rw [ho] at hp h <;> simp only [P6,zCe] at hp
 all_goals first | exact Pe (f:=fun x=>x) h | (cases h;exact ⟨_,rfl⟩) | skip
 ·rename_i c x y;exact Pe (s:=asBool (ρ c)) (f:=fun b=>if b then ρ x else ρ y) h
 ·rename_i x
  have hb: ∀ {α:Type} (s:Sem α) (f:α -> Sem Next) (w0:World),(∀ a w1,(f a).run P w1= .ok n w' -> ∃ v,n= .value v) -> (s>>=f).run P w0= .ok n w' -> ∃ v,n= .value v:=by
   intro α s f w0 hf hr;rw [zA6] at hr;cases hs:s.run P w0 with
   | ok v w1=>rw [hs] at hr;exact hf _ _ hr
   | halt x w1=>rw [hs] at hr;simp only [Result.andThen] at hr;cases hr
  have XZ:(runtimePanic .nilDeref:Sem Next).run P w= .ok n w' -> ∃ v,n= .value v:=by
   intro he;unfold runtimePanic at he;refine hb _ _ _ ?_ he;intro a w1 h1;cases h1
  simp only at h;split at h
  ·exact XZ h
  ·exact XZ h
  ·exact XZ h
  ·split at h
   ·exact XZ h
   ·refine hb _ _ _ ?_ h;intro p w1 h1;refine hb _ _ _ ?_ h1;intro q w2 h2;split at h2
    ·refine hb _ _ _ ?_ h2;intro r w3 h3;cases h3;exact ⟨_,rfl⟩
    ·cases h2;exact ⟨_,rfl⟩
   ·cases h;exact ⟨_,rfl⟩
  ·cases h;exact ⟨_,rfl⟩
 ·rename_i c;replace h:((resolve ρ c o.type)>>=fun d=>invoke d.target d.args).run P w= .ok n w':=h;rw [zA6] at h;unfold resolve at h;cases hc:c.callee with
  | value f=>rw [hc] at hp;simp at hp
  | invoke r m=>rw [hc] at hp;simp at hp
  | builtin b=>
   rw [hc] at hp h;have e: ∀ d:Deferred,(pure d:Sem Deferred).run P w= .ok d w:=fun _=>rfl
   simp only [e,Result.andThen] at h;unfold invoke at h;cases b <;> simp at hp <;> exact Pe (f:=fun x=>x) h
structure VB (w:World) where
 W:World
 le:Aq w W
def RV (w:World):World -> Prop:=fun w'=>∃ x:VB w,w'=x.W
theorem RV.iff {w w':World}:RV w w'↔Aq w w':=⟨fun ⟨x,e⟩=>e▸x.le,fun h=>⟨⟨w',h⟩,rfl⟩⟩
theorem Aq.toDrew (w:World):Aq w w.drew:=Aq.drewR (Aq.refl w)
section
variable {P:Program} {ops:Array Oper} {Q:Exit -> Act -> World -> Prop}
theorem ql {w:World}{o:Oper}{a:Act}{v:Value}(hp:P6 o.op=true)(hw:Region.wanted o (yielded ops a.tmps)=true) 
 (h: ∀ w',RV w w' -> o.quietAt P a (RV w) w' v):YieldsIf P ops (Aq w) o v a:=by
 refine .inl ⟨hw,fun w' hE=>?_⟩;have:=h w' (RV.iff.2 hE);unfold Oper.quietAt at this;cases hr:(execOp a.eval o).run P w' with
 | halt x w1=>rw [hr] at this;simp [Oper.quietUpon] at this
 | ok n w1=>
  obtain ⟨u,rfl⟩:=wv hp hr;rw [hr] at this;obtain ⟨rfl,rfl⟩:=this;rfl
def NP (Q:Exit -> Act -> World -> Prop):Exit -> Act -> World -> Prop
 | .panic _,_,_=>False
 | e,a,w=>Q e a w
theorem NP.put (c:List PanicEntry)(a:Act)(d:Option Tmp)(v:Value)(w:World)(h:NP Q (.panic c) (a.put d v) w):NP Q (.panic c) a w:=h.elim
def Fo (ops:Array Oper)(AU:Array Bool):Prop:=∀ (j:Nat) (oj:Oper),ops[j]? =some oj -> AU.getD j false=true -> ∀ e∈oj.after,Region.binds .any e=true -> AU.getD e.on false=true
theorem Fo.set {AU:Array Bool}{i:Nat}(h:Fo ops AU)(hi:i∈Region.ready .any ops AU):Fo ops (AU.setIfInBounds i true):=by
 obtain ⟨_,oi,hoi,Hv⟩:=zG7.1 hi;intro j oj hj hl e he hb
 by_cases Qg:i=j
 ·subst Qg;have:oj=oi:=zAe (hj.symm.trans hoi);subst this;exact getD_set_true (Hv e he hb)
 ·rw [getD_set_ne false Qg] at hl;exact getD_set_true (h j oj hj hl e he hb)
def E3 (ops:Array Oper):Nat -> Nat -> Nat -> Bool
 | 0,_,_=>false
 | n+1,t,i=>match ops[t]? with
  | none=>false
  | some o=>o.after.any fun e=>Region.binds .any e&&(e.on==i||E3 ops n e.on i)
theorem VM {AU:Array Bool}(hc:Fo ops AU): ∀ (n t i:Nat) (o:Oper),ops[t]? =some o -> (∀ e∈o.after,Region.binds .any e=true -> AU.getD e.on false=true) -> E3 ops n t i=true -> AU.getD i false=true
 | 0,_,_,_,_,_,h=>by simp [E3] at h
 | n+1,t,i,o,ho,Hv,h=>by
  simp only [E3,ho] at h;obtain ⟨e,he,hb⟩:=Array.any_eq_true'.1 h;simp only [zAW,zA9,zBA] at hb;obtain ⟨hb,h1 | h1⟩:=hb
  ·rw [←h1];exact Hv e he hb
  ·cases cq:ops[e.on]? with
   | none=>cases n <;> simp [E3,cq] at h1
   | some o2=>exact VM hc n e.on i o2 cq (hc e.on o2 cq (Hv e he hb)) h1
theorem UN {AU:Array Bool}{i:Nat}(h:AU.getD i true=false):AU.getD i false=false:=by
 rcases zCV i AU.size with h' | h'
 ·simp [h'] at h ⊢;exact h
 ·simp [zHV h'] at h
def CP (ops:Array Oper):List Nat -> List Oper
 | []=>[]
 | i::l=>match ops[i]? with | some o=>o::CP ops l | none=>CP ops l
def SL (ops:Array Oper)(B5:Nat -> Bool):List Nat -> Array Bool -> Bool
 | [],_=>true
 | i::l,AU=>(Region.ready .any ops AU).contains i&&Region.free .any ops AU i&&(match ops[i]? with | some o=>P6 o.op | none=>false)&&
  ((List.range ops.size).all fun j=>!B5 j||E3 ops ops.size j i)&&SL ops B5 l (AU.setIfInBounds i true)
def Kq (l:List Nat)(AU:Array Bool):Array Bool:=l.foldl (fun s i=>s.setIfInBounds i true) AU
def Pi (ops:Array Oper):List Nat -> Array Bool -> Bool
 | [],AU=>(Region.ready .any ops AU).isEmpty
 | t::ts,AU=>Region.ready .any ops AU== [t]&&Pi ops ts (AU.setIfInBounds t true)
def SM (ops:Array Oper)(B5:Nat -> Bool):List (List Nat×Nat) -> List Nat -> List Nat -> Array Bool -> Bool
 | [],BI,tail,AU=>SL ops B5 BI AU&&((List.range ops.size).all fun j=>B5 j||(Kq BI AU).getD j true)&&Pi ops tail (Kq BI AU)
 | (Bl,i)::E9,BI,tail,AU=>SL ops B5 Bl AU&&(Region.ready .any ops (Kq Bl AU)== [i])&&SM ops B5 E9 BI tail ((Kq Bl AU).setIfInBounds i true)
def Qj:List (List Nat×Nat) -> List Nat -> Nat
 | [],BI=>BI.length
 | (Bl,_)::E9,BI=>Bl.length+(1+Qj E9 BI)
def Zn (ops:Array Oper)(Cf:List (List Nat×Nat))(BI tail:List Nat):Bool:= Region.noSelect ops&&Qj Cf BI+tail.length==ops.size&&SM ops (fun j=>tail.contains j) Cf BI tail (Array.replicate ops.size false)
theorem ZB {C:World -> Prop}: ∀ (l:List Oper) (a:Act) (K K':Act -> Prop),(∀ a,K a -> K' a) -> wpQuiet P ops C K l a -> wpQuiet P ops C K' l a
 | [],a,K,K',hk,h=>hk a h
 | o::l,a,K,K',hk,h=>by
  unfold wpQuiet at*
  by_cases hw:Region.wanted o (yielded ops a.tmps)=true
  ·rw [zAM hw] at h ⊢;exact Oper.quiet_mono (fun a h=>ZB l a K K' hk h) h
  ·rw [zAh hw] at h ⊢;exact ZB l _ K K' hk h
end
abbrev zAZ:=@Array.getElem?_eq_some_iff
abbrev zAg:=@List.all_eq_true
abbrev zAn:=@List.mem_range
abbrev zA1:=@List.mem_singleton
abbrev zA8:=@Nat.zero_add
abbrev zCF:=@Array.getElem?_eq_getElem
abbrev zC5:=@List.length_nil
abbrev zC9:=@if_true
abbrev zGM:=@Go.Oper.semAt_eq
abbrev zGP:=@Array.mem_of_getElem?
abbrev zGQ:=@if_false
abbrev zG1:=@Go.wpOpIn_mono
abbrev zG8:=@Go.Act.put_comm
abbrev zG9:=@Ne.symm
def Cc (ops:Array Oper):Bool:=ops.all fun o=>match o.op with
 | .defer _=>false
 | _=>true
theorem HE {ops:Array Oper}(h:Cc ops=true){j:Nat}{o:Oper}(hj:ops[j]? =some o): ∀ c,o.op≠.defer c:=by
 intro c hc;have hm:o∈ops:=zGP hj;have:=Array.all_eq_true'.1 h o hm;rw [hc] at this;cases this
section
variable {F:Fence} {n:Nat} {P:Program} {ops:Array Oper} {Q:Exit -> Act -> World -> Prop}
theorem VF {S:World -> Prop}{i:Nat}{o:Oper}{v:Value}{a:Act}(hF: ∀ f,F.fn f)(hd: ∀ c,o.op≠.defer c)(hi:ops[i]? =some o)(hy:YieldsIf P ops S o v a) 
 {K:Act -> World -> Prop} {w:World} (hS:S w) (h:K (a.put o.dst v) w):wpOpIn F n P ops Q i K a w:=by
 unfold Go.wpOpIn;simp only [hi];rcases hy with ⟨hw,hv⟩ | ⟨hw,rfl⟩
 ·simp only [hw,zC9,Oper.wpIn,zGM _ _ _ hd,hv w hS,Oper.uponIn];exact ⟨fun f _=>hF f,h⟩
 ·simp only [hw,zCe,zGQ];exact ⟨fun f _=>hF f,h⟩
theorem fZ {S:World -> Prop}{j:Nat}{oi oj:Oper}{v:Value}(hF: ∀ f,F.fn f)(nf: ∀ c,oj.op≠.defer c)(hj:ops[j]? =some oj)(LR:oi.apart ops oj=true) 
 (hsi: ∀ cs b,oi.op≠.select cs b) (hsj: ∀ cs b,oj.op≠.select cs b)
 (hQ: ∀ c a w,Q (.panic c) (a.put oi.dst v) w -> Q (.panic c) a w) {K:Act -> World -> Prop} {a:Act} {w:World}
 (hy:YieldsIf P ops S oi v a) (h:wpOpIn F n P ops Q j K (a.put oi.dst v) w):
 wpOpIn F n P ops Q j (fun a' w'=>YieldsIf P ops S oi v a'/\ K (a'.put oi.dst v) w') a w:=by
 obtain ⟨h1,h2,h3⟩:=Oper.apart_spec LR
 have keep: ∀ (a:Act),YieldsIf P ops S oi v a -> ∀ u,YieldsIf P ops S oi v (a.put oj.dst u):=fun a hy u=>
  hy.of_same (execOp_put oi hsi a oj.dst u h3) (wanted_put oi a oj.dst u h3)
 have zk: ∀ d,YieldsIf P ops S oi v { a with defers:=d::a.defers }:=fun d=>hy.of_same rfl rfl
 unfold wpOpIn at*;simp only [hj] at*;rw [wanted_put oj a oi.dst v h1] at h;split
 ·rename_i hw;simp only [hw,zC9] at h;unfold Oper.wpIn at*;refine ⟨fun f _=>hF f,?_⟩;have h:=h.2;rw [zGM _ _ _ nf,execOp_put oj hsj a oi.dst v h1] at h;rw [zGM _ _ _ nf]
  generalize (execOp a.eval oj).run P w=r at*
  cases r with
  | ok x w'=>
   cases x <;> simp only [Oper.uponIn] at h ⊢
   case value u=>exact ⟨keep a hy u,by rw [←zG8 a v u h2];exact h⟩
   case skip=>exact ⟨keep a hy _,by rw [←zG8 a v undef h2];exact h⟩
   case defer d=>
    refine ⟨keep _ (zk d) _,?_⟩;rw [←zG8 _ v undef h2,←Act.put_defers];exact h
   case enter f args=>
    refine ⟨h.1,CallsIn.mono h.2 fun e CV he=>?_⟩;cases e with
    | returned u=>exact ⟨keep a hy u,by rw [←zG8 a v u h2];exact he⟩
    | panicked c=>exact hQ _ _ _ he
    | outgrown=>exact he
   case row row args=>exact ⟨h.1,RowsIn.mono h.2 fun u CV he=>⟨keep a hy u,by rw [←zG8 a v u h2];exact he⟩⟩
   case round l f tmps assign body=>
    refine ⟨h.1,RoundIn.mono h.2 fun e CV he=>?_⟩;cases e with
    | returned u=>exact ⟨keep a hy u,by rw [←zG8 a v u h2];exact he⟩
    | panicked c=>exact hQ _ _ _ he
    | outgrown=>exact he
  | halt x w'=>
   cases x <;> simp only [Oper.uponIn] at h ⊢
   case panic u=>exact hQ _ _ _ h
 ·rename_i hw;simp only [hw] at h;exact ⟨fun f _=>hF f,keep a hy _,by rw [←zG8 a v undef h2];exact h.2⟩
theorem qr {i:Nat}{K:Act -> World -> Prop}{a:Act}{w:World}(h:wpOpIn F n P ops (NP Q) i K a w):wpOpIn F n P ops Q i K a w:=by
 unfold wpOpIn at*;split
 ·rename_i ho;simp only [ho] at h;exact h
 ·rename_i o ho;simp only [ho] at h;have hl:LetsOut (NP Q) -> LetsOut Q:=fun ⟨a,w,h⟩=>⟨a,w,h⟩
  by_cases hw:Region.wanted o (yielded ops a.tmps)=true
  ·rw [zAM hw] at h ⊢;unfold Oper.wpIn at*;refine ⟨h.1,?_⟩;have h:=h.2
   generalize (o.semAt F.round a.eval).run P w=r at*
   cases r with
   | ok x w'=>
    cases x <;> simp only [Oper.uponIn] at h ⊢ <;> first | exact h | skip
    ·refine ⟨h.1,CallsIn.mono h.2 fun e CV he=>?_⟩;cases e with
     | returned v=>exact he
     | panicked c=>exact he.elim
     | outgrown=>exact hl he
    ·refine ⟨h.1,RoundIn.mono h.2 fun e CV he=>?_⟩;cases e with
     | returned v=>exact he
     | panicked c=>exact he.elim
     | outgrown=>exact hl he
   | halt x w'=>cases x <;> simp only [Oper.uponIn] at h ⊢;exact h.elim
  ·rw [zAh hw] at h ⊢;exact h
def JU (F:Fence)(n:Nat)(P:Program)(ops:Array Oper)(Q:Exit -> Act -> World -> Prop)(B5:Nat -> Bool)(g:Nat)(S:World -> Prop):Nat -> Array Bool -> Act -> World -> Prop
 | 0,AU,a,w=>(∀ j,j<ops.size -> B5 j=false -> AU.getD j true=true)/\ wpAnyIn F n P .any ops Q g AU a w
 | m+1,AU,a,w=>Region.ready .any ops AU≠[]/\ ∀ i∈Region.ready .any ops AU,wpOpIn F n P ops (NP Q) i (fun a' w'=>S w'/\ JU F n P ops Q B5 g S m (AU.setIfInBounds i true) a' w') a w
theorem ZD {B5:Nat -> Bool}{g:Nat}{S S':World -> Prop}(hS: ∀ w,S' w -> S w): ∀ (m:Nat) (AU:Array Bool) (a:Act) (w:World),
 JU F n P ops Q B5 g S' m AU a w -> JU F n P ops Q B5 g S m AU a w
 | 0,_,_,_,h=>h
 | m+1,_,_,_,h=>⟨h.1,fun i hi=>zG1 (fun _ _ h'=>⟨hS _ h'.1,ZD hS m _ _ _ h'.2⟩) (h.2 i hi)⟩
theorem fh {B5:Nat -> Bool}{g:Nat}{S:World -> Prop}: ∀ (m:Nat) (AU:Array Bool) (a:Act) (w:World),JU F n P ops Q B5 g S m AU a w -> wpAnyIn F n P .any ops Q (m+g) AU a w
 | 0,_,_,_,h=>by rw [zA8];exact h.2
 | m+1,_,_,_,h=>by
  rw [show m+1+g=(m+g)+1 by omega];exact ⟨fun h0=>absurd h0 h.1,fun i hi=>zG1 (fun a' w' h'=>fh m _ a' w' h'.2) (qr (h.2 i hi))⟩
theorem fg (hF: ∀ f,F.fn f)(Ar:Cc ops=true){B5:Nat -> Bool}{g:Nat}{S:World -> Prop}{i k:Nat}{oi:Oper}{v:Value}(hi:ops[i]? =some oi)(Tw: ∀ (j:Nat) (o:Oper) cs b,ops[j]? =some o -> o.op≠.select cs b) 
 (hT: ∀ j,j<ops.size -> B5 j=true -> E3 ops k j i=true):
 ∀ (m:Nat) (AU:Array Bool) (a:Act) (w:World),Fo ops AU ->
  (∀ j oj,ops[j]? =some oj -> j≠i -> AU.getD j true=false -> (∀ e∈oj.after,Region.binds .any e=true -> e.on≠i) -> oi.apart ops oj=true) ->
  i∈Region.ready .any ops AU -> YieldsIf P ops S oi v a -> S w ->
  JU F n P ops Q B5 g S m (AU.setIfInBounds i true) (a.put oi.dst v) w -> JU F n P ops Q B5 g S (m+1) AU a w:=by
 intro m
 induction m with
 | zero=>
  intro AU a w Az _ hr hy hS H;have Mp:=(zG7.1 hr).1;refine ⟨fun h=>(by rw [h] at hr;cases hr),fun j hj=>?_⟩
  by_cases Eu:j=i
  ·subst Eu;exact VF hF (HE Ar hi) hi hy hS ⟨hS,H⟩
  ·exfalso
   obtain ⟨J8,oj,Fy,Hv⟩:=zG7.1 hj;have Ot:=(zAZ.1 Fy).1;cases ht:B5 j with
   | true=>
    have:=VM Az k j i oj Fy Hv (hT j Ot ht);rw [UN Mp] at this;cases this
   | false=>
    have:=H.1 j Ot ht;rw [getD_set_ne true (zG9 Eu),J8] at this;cases this
 | succ m ih=>
  intro AU a w Az T9 hr hy hS H;have Mp:=(zG7.1 hr).1;refine ⟨fun h=>(by rw [h] at hr;cases hr),fun j hj=>?_⟩
  by_cases Eu:j=i
  ·subst Eu;exact VF hF (HE Ar hi) hi hy hS ⟨hS,H⟩
  ·have h1:=H.2 j (ready_mono hj Eu);obtain ⟨J8,oj,Fy,Hv⟩:=zG7.1 hj
   have cV: ∀ e∈oj.after,Region.binds .any e=true -> e.on≠i:=fun e he hb cm=>by
    have h1:=Hv e he hb;rw [cm,UN Mp] at h1;cases h1
   have h2:=fZ hF (HE Ar Fy) Fy (T9 j oj Fy Eu J8 cV) (fun cs b=>Tw i oi cs b hi) (fun cs b=>Tw j oj cs b Fy) (fun c a w h=>NP.put c a _ _ w h) hy h1
   have zCa: ∀ k ok,ops[k]? =some ok -> k≠i -> (AU.setIfInBounds j true).getD k true=false ->
    (∀ e∈ok.after,Region.binds .any e=true -> e.on≠i) -> oi.apart ops ok=true:=fun k ok hk T5 EV Gn=>by
    refine T9 k ok hk T5 ?_ Gn
    by_cases T6:j=k
    ·subst T6;exact J8
    ·rw [getD_set_ne true T6] at EV;exact EV
   refine zG1 (fun a' w' h3=>⟨h3.2.1,ih (AU.setIfInBounds j true) a' w' (Az.set hj) zCa (ready_mono hr (zG9 Eu)) h3.1 h3.2.1 ?_⟩) h2;rw [Array.setIfInBounds_comm _ _ Eu];exact h3.2.2
def Ph (F:Fence)(n:Nat)(P:Program)(ops:Array Oper)(Q:Exit -> Act -> World -> Prop):List Nat -> Act -> World -> Prop
 | [],a,w=>Q .normal a w
 | t::ts,a,w=>wpOpIn F n P ops Q t (Ph F n P ops Q ts) a w
def bw (Bl:List Nat)(b w:World):World:=match Bl with
 | []=>b
 | _=>w
def Ov (F:Fence)(n:Nat)(P:Program)(ops:Array Oper)(Q:Exit -> Act -> World -> Prop):World -> List (List Nat×Nat) -> List Nat -> List Nat -> Act -> World -> Prop
 | _,[],BI,tail,a,w=>wpQuiet P ops (fun w'=>∃ x:VB w,w'=x.W) (fun a'=>Ph F n P ops Q tail a' w) (CP ops BI) a
 | b,(Bl,i)::E9,BI,tail,a,w=>wpQuiet P ops (fun w'=>∃ x:VB w,w'=x.W) (fun a'=>wpOpIn F n P ops (NP Q) i (fun Gw CV=>Aq (bw Bl b w) CV/\ Ov F n P ops Q (bw Bl b w) E9 BI tail Gw CV) a' w) (CP ops Bl) a
theorem ZT: ∀ (tail:List Nat) (AU:Array Bool) (a:Act) (w:World),Pi ops tail AU=true -> Ph F n P ops Q tail a w -> wpAnyIn F n P .any ops Q tail.length AU a w
 | [],AU,a,w,hk,h=>⟨by simpa [Pi] using hk,h⟩
 | t::ts,AU,a,w,hk,h=>by
  simp only [Pi,zAW,zBA] at hk;refine ⟨fun h0=>(by rw [hk.1] at h0;cases h0),fun i hi=>?_⟩;rw [hk.1,zA1] at hi;subst hi;exact zG1 (fun a' w' h'=>ZT ts _ a' w' hk.2 h') h
theorem Vr (hF: ∀ f,F.fn f)(Ar:Cc ops=true){w:World}{B5:Nat -> Bool}{g:Nat}(hs:Region.noSelect ops=true){next:Act -> Prop}{m:Nat}:
 ∀ (l:List Nat) (AU:Array Bool) (a:Act),Fo ops AU -> SL ops B5 l AU=true -> wpQuiet P ops (RV w) next (CP ops l) a ->
  (∀ a',Fo ops (Kq l AU) -> next a' -> JU F n P ops Q B5 g (Aq w) m (Kq l AU) a' w) -> JU F n P ops Q B5 g (Aq w) (l.length+m) AU a w
 | [],AU,a,Az,_,h,hn=>by
  simp only [zC5,zA8];exact hn a Az h
 | i::l,AU,a,Az,hk,h,hn=>by
  simp only [SL,zAW] at hk;obtain ⟨⟨⟨⟨hr,hf⟩,hp⟩,hT⟩,Ct⟩:=hk;have Cr:i∈Region.ready .any ops AU:=by simpa using hr
  have nq: ∀ j,j<ops.size -> B5 j=true -> E3 ops ops.size j i=true:=fun j hj ht=>by
   have:=zAg.1 hT j (zAn.2 hj);simpa [ht] using this
  have nT:(i::l).length+m=(l.length+m)+1:=by simp;omega
  rw [nT];cases hi:ops[i]? with
  | none=>rw [hi] at hp;simp at hp
  | some o=>
   rw [hi] at hp;simp only [CP,hi] at h;unfold wpQuiet at h
   by_cases hw:Region.wanted o (yielded ops a.tmps)=true
   ·rw [zAM hw] at h;obtain ⟨v,h1,h2⟩:=h;exact fg hF Ar hi (Region.noSelect_spec hs) nq _ AU a w Az (Region.free_spec hi hf) Cr (ql hp hw h1) (Aq.refl _) (Vr hF Ar hs l _ _ (Az.set Cr) Ct h2 hn)
   ·rw [zAh hw] at h;exact fg hF Ar hi (Region.noSelect_spec hs) nq _ AU a w Az (Region.free_spec hi hf) Cr (.inr ⟨by simpa using hw,rfl⟩) (Aq.refl _) (Vr hF Ar hs l _ _ (Az.set Cr) Ct h hn)
theorem nY (hF: ∀ f,F.fn f)(Ar:Cc ops=true){B5:Nat -> Bool}(hs:Region.noSelect ops=true):
 ∀ (Cf:List (List Nat×Nat)) (BI tail:List Nat) (AU:Array Bool) (a:Act) (b w:World),Aq b w -> Fo ops AU -> SM ops B5 Cf BI tail AU=true -> Ov F n P ops Q b Cf BI tail a w ->
  JU F n P ops Q B5 tail.length (Aq b) (Qj Cf BI) AU a w
 | [],BI,tail,AU,a,b,w,hb,Az,hk,h=>by
  simp only [SM,zAW] at hk;obtain ⟨⟨h1,h2⟩,h3⟩:=hk
  have:=Vr (m:=0) hF Ar hs BI AU a Az h1 h (fun a' _ hq=>⟨fun j hj ht=>by
   have:=zAg.1 h2 j (zAn.2 hj);simpa [ht] using this,ZT tail _ a' w h3 hq⟩)
  refine ZD (fun W hW=>hb.trans hW) _ _ _ _ ?_;simpa [Qj] using this
 | (Bl,i)::E9,BI,tail,AU,a,b,w,hb,Az,hk,h=>by
  simp only [SM,zAW,zBA] at hk;obtain ⟨⟨h1,h2⟩,h3⟩:=hk
  have one: ∀ (a':Act) (b':World),Aq b' w -> Fo ops (Kq Bl AU) -> wpOpIn F n P ops (NP Q) i (fun Gw CV=>Aq b' CV/\ Ov F n P ops Q b' E9 BI tail Gw CV) a' w ->
   JU F n P ops Q B5 tail.length (Aq b') (Qj E9 BI+1) (Kq Bl AU) a' w:=fun a' b' DN cx hq=>by
   refine ⟨fun h0=>(by rw [h2] at h0;cases h0),fun j hj=>?_⟩;have BJ:=hj;rw [h2,zA1] at hj;subst hj;refine zG1 (fun Gw CV h'=>⟨h'.1,?_⟩) hq;exact nY hF Ar hs E9 BI tail _ Gw b' CV h'.1 (cx.set BJ) h3 h'.2
  cases Bl with
  | nil=>
   have:=one a b hb Az h;simpa [Qj,Nat.add_comm,Kq] using this
  | cons s0 ss=>
   refine ZD (fun W hW=>hb.trans hW) _ _ _ _ ?_;refine Vr hF Ar hs (s0::ss) AU a Az h1 h fun a' cx hq=>?_
   rw [Nat.add_comm 1];exact one a' w (Aq.refl w) cx hq
theorem fc {id:Nat}{a:Act}{w:World}(hF: ∀ f,F.fn f)(Cf:List (List Nat×Nat))(BI tail:List Nat)(hm:P.follows .mixedOrders=true)(hB:(Zn ops Cf BI tail&&Cc ops)=true) 
 (h:Ov F n P ops Q w.drew Cf BI tail a w.drew):(Code.region id ops true).wpIn F n P Q a w:=by
 simp only [Zn,zAW,zBA] at hB;obtain ⟨⟨⟨h1,h2⟩,h3⟩,h4⟩:=hB
 have Az:Fo ops (Array.replicate ops.size false):=fun j oj _ hl=>by
  exfalso
  rcases zCV j ops.size with h | h
  ·simp [h] at hl
  ·simp [h] at hl
 have:=fh _ _ _ _ (nY hF h4 h1 Cf BI tail _ a w.drew w.drew (Aq.refl _) Az h3 h);rw [h2] at this;exact wpIn_region_any hm this
theorem ZU: ∀ (tail:List Nat) (a:Act) (w:World),(∀ t∈tail,t<ops.size) -> wpListIn F n P ops Q (CP ops tail) a w -> Ph F n P ops Q tail a w
 | [],_,_,_,h=>h
 | t::ts,a,w,hl,h=>by
  have ht:ops[t]? =some (ops[t]'(hl t (by simp))):=zCF _;simp only [CP,ht] at h;unfold Ph wpOpIn;simp only [ht];unfold wpListIn at h;have hm: ∀ a w,wpListIn F n P ops Q (CP ops ts) a w -> Ph F n P ops Q ts a w:=fun a w h=>ZU ts a w (fun t ht=>hl t (by simp [ht])) h
  by_cases hw:Region.wanted (ops[t]'(hl t (by simp))) (yielded ops a.tmps)=true
  ·rw [zAM hw] at h ⊢;exact Oper.wpIn_mono hm h
  ·rw [zAh hw] at h ⊢;exact ⟨h.1,hm _ _ h.2⟩
theorem zCh {BI tail:List Nat}{a:Act}{b w:World}(ht:(tail.all fun t=>decide (t<ops.size))=true) 
 (h:wpQuiet P ops (fun w'=>∃ x:VB w,w'=x.W) (fun a'=>wpListIn F n P ops Q (CP ops tail) a' w) (CP ops BI) a):
 Ov F n P ops Q b [] BI tail a w:=by
 refine ZB _ _ _ _ (fun a' h=>?_) h;exact ZU tail a' w (fun t h=>by simpa using zAg.1 ht t h) h
end
abbrev zAj:=@Nat.lt_of_lt_of_le
abbrev zA0:=@Nat.le_trans
abbrev zCD:=@List.mem_cons
abbrev zCi:=@List.mem_of_getElem?
abbrev zDC:=@Go.World.putObj_heap_other
abbrev zGR:=@Go.wpIn_mono
abbrev zHU:=@Go.RowKit.Below.block
abbrev zHv:=@Go.callsIn_wide
structure AO (S:Nat -> Prop)(w w':World):Prop where
 os:w'.os=w.os
 tape:w'.tape=w.tape
 output:w'.output=w.output
 size:w.heap.size<=w'.heap.size
 block: ∀ k,k<w.heap.size -> ¬ S k -> w'.heap[k]? =w.heap[k]?
theorem AO.refl (S:Nat -> Prop)(w:World):AO S w w:=⟨rfl,rfl,rfl,zA5 _,fun _ _ _=>rfl⟩
theorem AO.comp {S S':Nat -> Prop}{a b c:World}(h:AO S a b)(k:AO S' b c)(hs: ∀ i,i<a.heap.size -> S' i -> S i):AO S a c:=
 ⟨k.os.trans h.os,k.tape.trans h.tape,k.output.trans h.output,zA0 h.size k.size,
  fun i hi hn=>(k.block i (zAj hi h.size) (fun hx=>hn (hs i hi hx))).trans (h.block i hi hn)⟩
theorem AO.trans {S:Nat -> Prop}{a b c:World}(h:AO S a b)(k:AO S b c):AO S a c:=h.comp k fun _ _ h=>h
theorem AO.mono {S S':Nat -> Prop}{a b:World}(h:AO S a b)(hs: ∀ i,i<a.heap.size -> S i -> S' i):AO S' a b:=
 ⟨h.os,h.tape,h.output,h.size,fun i hi hn=>h.block i hi fun hx=>hn (hs i hi hx)⟩
theorem AO.ofExt {S:Nat -> Prop}{a b:World}(h:Aq a b):AO S a b:=⟨Below.os h,Below.tape h,Below.output h,Below.size h,fun i hi _=>zHU h i hi⟩
theorem AO.toExt {S:Nat -> Prop}{a b:World}(h:AO S a b)(hs: ∀ i,i<a.heap.size -> ¬ S i):Aq a b:=⟨h.os,h.tape,h.output,h.size,fun i hi=>h.block i hi (hs i hi)⟩
theorem AO.alloc {S:Nat -> Prop}{a b:World}(h:AO S a b)(o:Obj):AO S a (b.alloc o):=h.trans (AO.ofExt (Aq.alloc b o))
theorem AO.setCell {S:Nat -> Prop}{a b:World}(h:AO S a b){p:Addr}(hp:p.block<a.heap.size -> S p.block)(u:Value):AO S a (b.setCell p u):=by
 refine h.comp (S':=fun k=>k=p.block) ⟨rfl,rfl,rfl,?_,fun k _ hk=>?_⟩ (fun i hi e=>by cases e;exact hp hi)
 ·show b.heap.size<=(b.heap.modify _ _).size
  rw [Array.size_modify];exact zA5 _
 ·exact Below.heap_setCell b p u k hk
theorem AO.putObj {S:Nat -> Prop}{a b:World}(h:AO S a b){l:Nat}(hl:l<a.heap.size -> S l)(o:Obj):AO S a (b.putObj l o):=by
 refine h.comp (S':=fun k=>k=l) ⟨rfl,rfl,rfl,by simp,fun k _ hk=>zDC hk⟩ (fun i hi e=>by cases e;exact hl hi)
theorem AO.cell {S:Nat -> Prop}{a b:World}(h:AO S a b){p:Addr}{u:Value}(hs: ¬ S p.block)(hc:a.cell? p=some u):b.cell? p=some u:=by
 rw [World.cell?_of_block (h.block p.block (zC6 a p hc) hs)];exact hc
def Ea (I:(Nat -> Prop) -> (Nat -> Prop) -> World -> Prop):Prop:= ∀ (G R G' R':Nat -> Prop) (A B:World),I G R A -> AO G A B -> (∀ k,G' k -> G k∨A.heap.size<=k) -> (∀ k,R' k -> R k∨G k∨A.heap.size<=k) -> (∀ k,G k∨R k -> G' k∨R' k) -> (∀ k,G' k -> ¬ R' k) -> (∀ k,G' k∨R' k -> k<B.heap.size) -> I G' R' B
structure Ek (G R:Nat -> Prop)(W:World):Prop where
 dis: ∀ k,G k -> ¬ R k
 lt: ∀ k,G k∨R k -> k<W.heap.size
theorem Ek.upd {G R S:Nat -> Prop}{A B:World}(h:Ek G R A)(hu:AO S A B):Ek G R B:=⟨h.dis,fun k hk=>zAj (h.lt k hk) hu.size⟩
theorem Ea.same {I:(Nat -> Prop) -> (Nat -> Prop) -> World -> Prop}(h:Ea I){G R:Nat -> Prop}{A B:World}(hs:Ek G R A)(hi:I G R A)(hu:AO G A B):I G R B:=
 h G R G R A B hi hu (fun _ h=>.inl h) (fun _ h=>.inl h) (fun _ h=>h) hs.dis (hs.upd hu).lt
def vY (Keep:Nat -> Prop)(I:World -> Prop)(Ix:Code -> World -> Prop)(W:World):Exit -> Act -> World -> Prop
 | .normal,_,W'=>AO (fun k=>¬ Keep k) W W'/\ I W'
 | .ret,_,W'=>AO (fun k=>¬ Keep k) W W'/\ Ix .ret W'
 | .exit id,_,W'=>AO (fun k=>¬ Keep k) W W'/\ Ix (.exit id) W'
 | .goto t,_,W'=>AO (fun k=>¬ Keep k) W W'/\ Ix (.goto t) W'
 | .panic _,_,_=>False
 | .outgrown,_,_=>False
def VC (nv:Prop)(P:Program)(g:Nat)(lb:Array Value){X:Type}(E:X -> (Nat -> Prop) -> World -> Array Value -> Prop)(encs:List X)(JR:Ending -> (Nat -> Prop) -> (Nat -> Prop) -> World -> Prop)(G0 Rd:Nat -> Prop)(w:World):Prop:= ∀ (l:Nat) (J:Nat -> (Nat -> Prop) -> (Nat -> Prop) -> World -> Prop) (Jx:(Nat -> Prop) -> (Nat -> Prop) -> World -> Prop) (W:World), (∀ i,Ea (J i)) -> Ea Jx -> AO (fun k=>¬ (G0 k∨Rd k)) w W -> (∀ i x args G R W1,encs[i]? =some x -> E x R W1 args -> J i G R W1 -> Ek G R W1 -> YieldAt Fence.wide 0 P l args W1 fun e W'=> AO (fun k=>¬ (G k∨R k)) W1 W'/\ ((e= .returned (.bool true)/\ J (i+1) G R W')∨(e= .returned (.bool false)/\ Jx G R W'))) -> J 0 G0 Rd W -> (nv -> ∀ G R W,¬ Jx G R W) -> CallsIn Fence.wide 0 P g (#[.func (.yield l) #[] #[]]++lb) W fun e W'=>∃ G R,Ek G R W'/\ ((J encs.length G R W'/\ JR e G R W')∨((∃ v,e= .returned v)/\ Jx G R W'))
abbrev NO:=@VC False
section
variable {P:Program} {X:Type} {E:X -> (Nat -> Prop) -> World -> Array Value -> Prop} {JR:Ending -> (Nat -> Prop) -> (Nat -> Prop) -> World -> Prop} {encs:List X} {G0 Rd:Nat -> Prop} {ps:Array Tmp} {assign body:Code} {a:Act} {gf:Nat} {lb:Array Value}
def Y0 (P:Program)(E:X -> (Nat -> Prop) -> World -> Array Value -> Prop)(encs:List X)(ps:Array Tmp)(assign body:Code)(a:Act)(l:Nat)(I:Nat -> (Nat -> Prop) -> (Nat -> Prop) -> World -> Prop)(Ix:Code -> (Nat -> Prop) -> (Nat -> Prop) -> World -> Prop):Prop:= ∀ (G R:Nat -> Prop) (i:Nat) (x:X) (args:Array Value) (W:World),encs[i]? =some x -> E x R W args -> I i G R W -> Ek G R W -> (∃ r,W.heap[l]? =some (.loop r)) -> G l -> assign.wpIn (Fence.wide.inRound l) 0 P (Exit.then (fun a₁ W₁=>∃ K:(Nat -> Prop) -> (Nat -> Prop) -> World -> Prop,Ea K/\ AO (fun k=>¬ (G k∨R k)) W W₁/\ K G R W₁/\ ∀ W₂,K G R W₂ -> (∃ r,W₂.heap[l]? =some (.loop r)) -> body.wpIn (Fence.wide.inRound l) 0 P (vY (fun k=>G k∨R k) (I (i+1) G R) (fun c=>Ix c G R) W₂) a₁ W₂) (fun _ _ _=>False)) { tmps:=(ps.zip args).foldl (fun t (p,v)=>t.setIfInBounds p v) a.tmps,defers:=[] } W
theorem kC {nv:Prop}{w0 W1:World}{l D dd:Nat}{fn:FuncId}{loose:Bool} 
 (hseq:VC nv P gf lb E encs JR G0 Rd w0) (dB:AO (fun k=>¬ (G0 k∨Rd k)) w0 W1) (GW: ∀ k,G0 k∨Rd k -> k<l/\ k≠D) (Qk: ∀ k,G0 k -> ¬ Rd k) (EJ: ∀ x∈encs,∀ R W args,E x R W args -> args.size=ps.size)
 (An:LoopState -> Option Code -> Loop) (CO: ∀ st pe,An st pe= { state:=st,pending:=pe,fn,tmps:=a.tmps,params:=ps,assign,body,defers:=dd })
 (F8:W1.heap[l]? =some (.loop (An .ready none))) (hD1:loose=false -> W1.heap[D]? =some (.deferred (some []))) (nG:D≠l)
 (I:Nat -> (Nat -> Prop) -> (Nat -> Prop) -> World -> Prop) (Ix:Code -> (Nat -> Prop) -> (Nat -> Prop) -> World -> Prop) (hI: ∀ i,Ea (I i)) (KH: ∀ c,Ea (Ix c)) (LN:nv -> ∀ c G R W,¬ Ix c G R W) (own:Nat -> Prop) (LL: ∀ k,own k -> k=l∨(loose=false/\ k=D)) (LM:own l) (Xc:loose=false -> own D)
 (h0:I 0 (fun k=>G0 k∨own k) Rd W1) (DK:Y0 P E encs ps assign body a l I Ix):
 CallsIn Fence.wide 0 P gf (#[.func (.yield l) #[] #[]]++lb) W1 fun e W2=>∃ G R,Ek (fun k=>G k∨own k) R W2/\ (∀ k,own k -> ¬ G k)/\ (loose=false -> W2.heap[D]? =some (.deferred (some [])))/\
  ((I encs.length (fun k=>G k∨own k) R W2/\ JR e G R W2/\ W2.heap[l]? =some (.loop (An .ready none)))∨((∃ v,e= .returned v)/\ ∃ c,Ix c (fun k=>G k∨own k) R W2/\ W2.heap[l]? =some (.loop (An .done (some c))))):=by
 have TD: ∀ {W:World} {r:Loop} {k:Nat},W.heap[l]? =some (.loop r) -> (loose=false -> W.heap[D]? =some (.deferred (some []))) -> own k -> k<W.heap.size:=fun h4 h5 ho=>
  (LL _ ho).elim (fun e=>e▸(zAZ.1 h4).1) (fun e=>e.2▸(zAZ.1 (h5 e.1)).1)
 have shr: ∀ {G R:Nat -> Prop} {W:World} {r:Loop},Ek G R W -> (∀ k,own k -> ¬ G k/\ ¬ R k) -> W.heap[l]? =some (.loop r) -> (loose=false -> W.heap[D]? =some (.deferred (some []))) -> Ek (fun k=>G k∨own k) R W:=fun hs hn h4 h5=>
  ⟨fun k hk=>hk.elim (hs.dis k) fun h=>(hn k h).2,fun k hk=>hk.elim (fun h=>h.elim (fun h=>hs.lt k (.inl h)) (TD h4 h5)) fun h=>hs.lt k (.inr h)⟩
 have DQ: ∀ (Φ:(Nat -> Prop) -> (Nat -> Prop) -> World -> Prop) (r:Loop),Ea Φ -> Ea (fun G R W=>Φ (fun k=>G k∨own k) R W/\ (∀ k,own k -> ¬ G k/\ ¬ R k)/\ W.heap[l]? =some (.loop r)/\ (loose=false -> W.heap[D]? =some (.deferred (some [])))):=by
  rintro Φ r hΦ G R G' R' A B ⟨h1,h2,h4,h5⟩ hu hg hr EV hd AM
  have hn: ∀ k,own k -> ¬ G' k/\ ¬ R' k:=fun k ho=>by
   have:=TD h4 h5 ho;exact ⟨fun hx=>(hg k hx).elim (h2 k ho).1 (by omega),fun hx=>(hr k hx).elim (h2 k ho).2 fun hx=>hx.elim (h2 k ho).1 (by omega)⟩
  have Xv:=(hu.block l (TD h4 h5 LM) (h2 l LM).1).trans h4;have n8:loose=false -> B.heap[D]? =some (.deferred (some [])):=fun hl=>(hu.block D (TD h4 h5 (Xc hl)) (h2 D (Xc hl)).1).trans (h5 hl)
  refine ⟨hΦ _ R _ R' A B h1 (hu.mono fun i _ h=>.inl h) (fun k hk=>hk.elim (fun h=>(hg k h).imp .inl id) fun h=>.inl (.inr h)) (fun k hk=>(hr k hk).imp id fun h=>h.imp .inl id) (fun k hk=>?_) (fun k hk=>hk.elim (hd k) fun h=>(hn k h).2) (fun k hk=>hk.elim (fun h=>h.elim (fun h=>AM k (.inl h)) (TD Xv n8)) fun h=>AM k (.inr h)),hn,Xv,n8⟩;rcases hk with (hk | hk) | hk
  ·exact (EV k (.inl hk)).imp .inl id
  ·exact .inl (.inr hk)
  ·exact (EV k (.inr hk)).imp .inl id
 have hGl: ∀ k,G0 k∨Rd k -> k<W1.heap.size:=fun k h=>Nat.lt_trans (GW k h).1 (zAZ.1 F8).1
 have HM: ∀ k,own k -> ¬ G0 k/\ ¬ Rd k:=fun k ho=>by
  have hx: ¬ (G0 k∨Rd k):=fun hx=>by
   have:=GW k hx;rcases LL k ho with e | ⟨_,e⟩ <;> omega
  exact ⟨fun h=>hx (.inl h),fun h=>hx (.inr h)⟩
 refine (hseq l
  (fun i G R W=>I i (fun k=>G k∨own k) R W/\ (∀ k,own k -> ¬ G k/\ ¬ R k)/\ W.heap[l]? =some (.loop (An .ready none))/\ (loose=false -> W.heap[D]? =some (.deferred (some []))))
  (fun G R W=>∃ c,Ix c (fun k=>G k∨own k) R W/\ (∀ k,own k -> ¬ G k/\ ¬ R k)/\ W.heap[l]? =some (.loop (An .done (some c)))/\ (loose=false -> W.heap[D]? =some (.deferred (some []))))
  W1 (fun i=>DQ (I i) _ (hI i)) (fun G R G' R' A B ⟨c,h⟩ hu hg hr EV hd AM=>⟨c,DQ (Ix c) _ (KH c) G R G' R' A B h hu hg hr EV hd AM⟩) dB ?_ ⟨h0,HM,F8,hD1⟩ (fun hn G R W ⟨c,h,_⟩=>LN hn c _ _ _ h)).mono ?_
 ·rintro i x args G R W hx hE ⟨hi,hn,hl,hd⟩ hs;have XR:x∈encs:=zCi hx;have AM:l<W.heap.size:=(zAZ.1 hl).1;have IV:=shr hs hn hl hd;have hy:=run_yield (P:=P) (args:=args) hl (by rw [CO];exact EJ x XR R W args hE);rw [CO] at hy;refine ⟨fn,_,assign,body,hy,roundIn_of_wpIn trivial (zGR (DK _ R i x args W hx hE hi IV ⟨_,hl⟩ (.inr LM)) ?_)⟩;rintro e a1 Li hq;cases e <;> first | exact hq.elim | skip
  obtain ⟨K,hK,HJ,Xi,hb⟩:=hq;have zAm:AO (fun k=>¬ (G k∨R k)) W Li:=HJ.mono fun k _ h hx=>h (hx.imp .inl id)
  have hl:=(HJ.block l AM (fun h=>h (.inl (.inr LM)))).trans hl;have hd:loose=false -> Li.heap[D]? =some (.deferred (some [])):=fun h=>(HJ.block D (zAZ.1 (hd h)).1 (fun hx=>hx (.inl (.inr (Xc h))))).trans (hd h)
  have AM:l<Li.heap.size:=zAj AM HJ.size;have mj:=IV.upd HJ;refine ⟨_,run_beginRound hl (by rw [CO]),?_⟩;have Cs:(Li.putObj l (.loop { An .ready none with state:=.busy })).heap[l]? =some (.loop { An .ready none with state:=.busy }):=World.putObj_heap_same AM;have UD:loose=false -> (Li.putObj l (.loop { An .ready none with state:=.busy })).heap[D]? =some (.deferred (some [])):=fun h=>(zDC nG).trans (hd h)
  have XS:AO (fun k=>G k∨own k) Li (Li.putObj l (.loop { An .ready none with state:=.busy })):=(AO.refl _ Li).putObj (fun _=>.inr LM) _;refine zGR (hb _ (hK.same mj Xi XS) ⟨_,Cs⟩) ?_
  have fin: ∀ (FC:Option Code) (W3:World),AO (fun k=>¬ ((G k∨own k)∨R k)) (Li.putObj l (.loop { An .ready none with state:=.busy })) W3 ->
   (Instr.endRound l FC).run P W3= .ok (.bool FC.isNone) (W3.putObj l (.loop (An (if FC.isNone then .ready else .done) FC)))/\
   (W3.putObj l (.loop (An (if FC.isNone then .ready else .done) FC))).heap[l]? =some (.loop (An (if FC.isNone then .ready else .done) FC))/\
   (loose=false -> (W3.putObj l (.loop (An (if FC.isNone then .ready else .done) FC))).heap[D]? =some (.deferred (some [])))/\
   AO (fun k=>¬ (G k∨R k)) W (W3.putObj l (.loop (An (if FC.isNone then .ready else .done) FC)))/\
   Ek (fun k=>G k∨own k) R W3/\ AO (fun k=>G k∨own k) W3 (W3.putObj l (.loop (An (if FC.isNone then .ready else .done) FC))):=fun FC W3 J7=>by
   have nH:W3.heap[l]? =some (.loop { An .ready none with state:=.busy }):=(J7.block l (by simpa using AM) (fun h=>h (.inl (.inr LM)))).trans Cs;have:=run_endRound (P:=P) FC nH;refine ⟨by rw [CO] at this ⊢;exact this,World.putObj_heap_same (zAZ.1 nH).1,fun h=>(zDC nG).trans ((J7.block D ?_ (fun hx=>hx (.inl (.inr (Xc h))))).trans (UD h)),zAm.comp (S':=fun k=>¬ (G k∨R k)) ?_ (fun _ _ h=>h),(mj.upd XS).upd J7,(AO.refl _ W3).putObj (fun _=>.inr LM) _⟩
   ·simpa using (zAZ.1 (hd h)).1
   ·refine ⟨J7.os,J7.tape,J7.output,by simpa using J7.size,fun k hk Qd=>?_⟩;have n0:G k∨R k:=Classical.not_not.1 Qd
    by_cases CX:k=l
    ·subst CX;exact (n0.elim (hn k LM).1 (hn k LM).2).elim
    ·rw [zDC CX,J7.block k (by simpa using hk) (fun hx=>hx (n0.imp .inl id)),zDC CX]
  rintro e a3 W3 hp;cases e with
  | normal=>
   obtain ⟨J7,hi3⟩:=hp;obtain ⟨hr,Oq,LQ,Oe,Of,Od⟩:=fin none W3 J7;exact ⟨_,_,hr,Oe,.inl ⟨rfl,(hI _).same Of hi3 Od,hn,Oq,LQ⟩⟩
  | ret=>
   obtain ⟨hr,Oq,LQ,Oe,Of,Od⟩:=fin (some .ret) W3 hp.1;exact ⟨_,_,hr,Oe,.inr ⟨rfl,.ret,(KH _).same Of hp.2 Od,hn,Oq,LQ⟩⟩
  | exit id=>
   obtain ⟨hr,Oq,LQ,Oe,Of,Od⟩:=fin (some (.exit id)) W3 hp.1;exact ⟨_,_,hr,Oe,.inr ⟨rfl,(.exit id),(KH _).same Of hp.2 Od,hn,Oq,LQ⟩⟩
  | goto t=>
   obtain ⟨hr,Oq,LQ,Oe,Of,Od⟩:=fin (some (.goto t)) W3 hp.1;exact ⟨_,_,hr,Oe,.inr ⟨rfl,(.goto t),(KH _).same Of hp.2 Od,hn,Oq,LQ⟩⟩
  | panic ch=>exact hp.elim
  | outgrown=>exact hp.elim
 ·rintro e W2 ⟨G,R,hs,(⟨⟨h1,h2,h4,h5⟩,ho⟩ | ⟨hv,c,h1,h2,h4,h5⟩)⟩
  ·exact ⟨G,R,shr hs h2 h4 h5,fun k h=>(h2 k h).1,h5,.inl ⟨h1,ho,h4⟩⟩
  ·exact ⟨G,R,shr hs h2 h4 h5,fun k h=>(h2 k h).1,h5,.inr ⟨hv,c,h1,h4⟩⟩
theorem fe {nv:Prop}{g:Operand}{Q:Exit -> Act -> World -> Prop}{w:World}(hg:a.eval g= .func (.func gf) #[] lb)(eg: ∀ args w,(callFunc gf args).run P w= .ok (.enter gf args) w) 
 (hseq:VC nv P gf lb E encs JR G0 Rd w) (GW:Ek G0 Rd w) (EJ: ∀ x∈encs,∀ R W args,E x R W args -> args.size=ps.size)
 (I:Nat -> (Nat -> Prop) -> (Nat -> Prop) -> World -> Prop) (Ix:Code -> (Nat -> Prop) -> (Nat -> Prop) -> World -> Prop) (hI: ∀ i,Ea (I i)) (KH: ∀ c,Ea (Ix c)) (LN:nv -> ∀ c G R W,¬ Ix c G R W) (h0:I 0 G0 Rd w) (DK: ∀ l,Y0 P E encs ps assign body a l I Ix)
 (Dt: ∀ (D:Nat) (e:Ending) (G R own:Nat -> Prop) (W W':World),JR e G R W -> I encs.length (fun k=>G k∨own k) R W' -> Ek (fun k=>G k∨own k) R W' -> (∀ k,own k -> ¬ G k) -> AO own W W' -> W'.heap[D]? =some (.deferred (some [])) -> w.heap.size<=D ->
  match e with
  | .returned _=>Q .normal { a with defers:={ target:=.collected D,args:=#[] }::a.defers } W'
  | .panicked c=>Q (.panic c) { a with defers:={ target:=.collected D,args:=#[] }::a.defers } W'
  | .outgrown=>False)
 (QW: ∀ (D:Nat) (c:Code) (G R:Nat -> Prop) (W:World),Ix c G R W -> W.heap[D]? =some (.deferred (some [])) -> w.heap.size<=D ->
  c.wpIn Fence.wide 0 P Q { a with defers:={ target:=.collected D,args:=#[] }::a.defers } W):
 (Code.rangeFunc g ps assign body).wpIn Fence.wide 0 P Q a w:=by
 refine wpIn_rangeFunc ?_;intro fn _;have IV:(w.alloc (.deferred (some []))).heap.size=w.heap.size+1:=World.size_alloc _ _;obtain ⟨An,CO⟩: ∃ An:LoopState -> Option Code -> Loop,∀ st pe,An st pe= { state:=st,pending:=pe,fn,tmps:=a.tmps,params:=ps,assign,body,defers:=w.heap.size }:=⟨_,fun _ _=>rfl⟩;obtain ⟨W1,Ms⟩: ∃ W1,(w.alloc (.deferred (some []))).alloc (.loop (An .ready none))=W1:=⟨_,rfl⟩
 have LT:W1.heap[w.heap.size+1]? =some (.loop (An .ready none)):=by
  rw [←Ms];have:=World.alloc_heap_new (w.alloc (.deferred (some []))) (.loop (An .ready none));rwa [World.size_alloc] at this
 have hK1:W1.heap[w.heap.size]? =some (.deferred (some [])):=by
  rw [←Ms];exact (Below.heap_alloc _ _ _ (by simp)).trans (World.alloc_heap_new w _)
 have hu: ∀ S,AO S w W1:=fun S=>by rw [←Ms];exact ((AO.refl S w).alloc _).alloc _
 have AM:=(zAZ.1 LT).1
 refine ⟨w.heap.size+1,[{ target:=.collected w.heap.size,args:=#[] }],W1,{ target:=.fn (.func gf) lb,args:=#[.func (.yield (w.heap.size+1)) #[] #[]] },W1,gf,
  #[.func (.yield (w.heap.size+1)) #[] #[]]++lb,W1,?_,?_,fun _ _=>trivial,?_,(fun h=>by cases h),?_⟩
 ·rw [←Ms,CO];exact run_enterLoop_outer _ _ _ _ _
 ·simp only [resolve,hg];simp [go_sem]
 ·simp [invoke,go_sem,eg]
 ·refine (kC (loose:=false) (D:=w.heap.size) hseq (hu _) (fun k h=>by have:=GW.lt k h;omega) GW.dis EJ An CO LT (fun _=>hK1) (by omega)
   I Ix hI KH LN (fun k=>k=w.heap.size+1∨k=w.heap.size) (fun k h=>h.imp id fun h=>⟨rfl,h⟩) (.inl rfl) (fun _=>.inr rfl)
   (hI 0 G0 Rd _ Rd _ _ h0 (hu _) (fun k h=>h.imp id (by omega)) (fun k h=>.inl h) (fun k h=>h.imp .inl id) (fun k h hr=>?_) (fun k h=>?_)) (DK _)).mono ?_
  ·rcases h with h | h
   ·exact GW.dis k h hr
   ·have:=GW.lt k (.inr hr);omega
  ·rcases h with (h | h) | h
   ·have:=GW.lt k (.inl h);omega
   ·omega
   ·have:=GW.lt k (.inr h);omega
  rintro e W2 ⟨G,R,hs,hn,hk,(⟨hi,ho,hl⟩ | ⟨⟨v,rfl⟩,c,hi,hl⟩)⟩
  ·have hp: ∀ o,AO (fun k=>k=w.heap.size+1∨k=w.heap.size) W2 (W2.putObj (w.heap.size+1) o):=fun o=>(AO.refl _ W2).putObj (fun _=>.inl rfl) _
   have BC: ∀ o,AO (fun k=>G k∨k=w.heap.size+1∨k=w.heap.size) W2 (W2.putObj (w.heap.size+1) o):=fun o=>(hp o).mono fun _ _ h=>.inr h
   cases e with
   | returned v=>exact ⟨none,_,by have:=run_endLoop (P:=P) hl (by rw [CO];simp);rw [CO] at this;exact this,
    Dt _ (.returned v) G R _ W2 _ ho ((hI _).same hs hi (BC _)) (hs.upd (hp _)) hn (hp _) ((zDC (by omega)).trans (hk rfl)) (zA5 _)⟩
   | panicked c=>exact Dt _ (.panicked c) G R _ W2 W2 ho hi hs hn (AO.refl _ _) (hk rfl) (zA5 _)
   | outgrown=>exact (Dt _ .outgrown G R _ W2 W2 ho hi hs hn (AO.refl _ _) (hk rfl) (zA5 _)).elim
  ·exact ⟨some c,_,by have:=run_endLoop (P:=P) hl (by rw [CO];simp);rw [CO] at this;exact this,
    QW _ c _ _ _ ((KH _).same hs hi ((AO.refl _ W2).putObj (fun _=>.inr (.inl rfl)) _)) ((zDC (by omega)).trans (hk rfl)) (zA5 _)⟩
theorem qt {nv:Prop}{l0:Nat}{g:Operand}{Q:Exit -> Act -> World -> Prop}{w:World}(hg:a.eval g= .func (.func gf) #[] lb)(eg: ∀ args w,(callFunc gf args).run P w= .ok (.enter gf args) w)(ca: ∃ r,w.heap[l0]? =some (.loop r)) 
 (hseq:VC nv P gf lb E encs JR G0 Rd w) (GW:Ek G0 Rd w) (EJ: ∀ x∈encs,∀ R W args,E x R W args -> args.size=ps.size)
 (I:Nat -> (Nat -> Prop) -> (Nat -> Prop) -> World -> Prop) (Ix:Code -> (Nat -> Prop) -> (Nat -> Prop) -> World -> Prop) (hI: ∀ i,Ea (I i)) (KH: ∀ c,Ea (Ix c)) (LN:nv -> ∀ c G R W,¬ Ix c G R W) (h0:I 0 G0 Rd w) (DK: ∀ l,Y0 P E encs ps assign body a l I Ix)
 (Dt: ∀ (e:Ending) (G R own:Nat -> Prop) (W W':World),JR e G R W -> I encs.length (fun k=>G k∨own k) R W' -> Ek (fun k=>G k∨own k) R W' -> (∀ k,own k -> ¬ G k) -> AO own W W' ->
  match e with
  | .returned _=>Q .normal a W'
  | .panicked c=>Q (.panic c) a W'
  | .outgrown=>False)
 (QW: ∀ (c:Code) (G R:Nat -> Prop) (W:World),Ix c G R W -> c.wpIn (Fence.wide.inRound l0) 0 P Q a W):
 (Code.rangeFunc g ps assign body).wpIn (Fence.wide.inRound l0) 0 P Q a w:=by
 refine wpIn_rangeFunc ?_;intro fn _;obtain ⟨r0,EI⟩:=ca;obtain ⟨An,CO⟩: ∃ An:LoopState -> Option Code -> Loop,∀ st pe,An st pe= { state:=st,pending:=pe,fn,tmps:=a.tmps,params:=ps,assign,body,defers:=r0.defers }:=⟨_,fun _ _=>rfl⟩;obtain ⟨W1,Ms⟩: ∃ W1,w.alloc (.loop (An .ready none))=W1:=⟨_,rfl⟩
 have LT:W1.heap[w.heap.size]? =some (.loop (An .ready none)):=by
  rw [←Ms];exact World.alloc_heap_new w _
 have hu: ∀ S,AO S w W1:=fun S=>by rw [←Ms];exact (AO.refl S w).alloc _
 have AM:=(zAZ.1 LT).1
 refine ⟨w.heap.size,[],W1,{ target:=.fn (.func gf) lb,args:=#[.func (.yield w.heap.size) #[] #[]] },W1,gf,
  #[.func (.yield w.heap.size) #[] #[]]++lb,W1,?_,?_,fun _ _=>trivial,?_,(fun h=>by cases h),?_⟩
 ·rw [←Ms,CO];exact run_enterLoop_inner EI _ _ _ _ _
 ·simp only [resolve,hg];simp [go_sem]
 ·simp [invoke,go_sem,eg]
 ·refine CallsIn.inRound _ ((kC (loose:=true) (D:=w.heap.size+1) (G0:=G0) hseq (hu _) (fun k h=>by have:=GW.lt k h;omega) GW.dis EJ An CO LT (fun h=>by cases h) (by omega)
   I Ix hI KH LN (fun k=>k=w.heap.size) (fun k h=>.inl h) rfl (fun h=>by cases h)
   (hI 0 G0 Rd _ Rd _ _ h0 (hu _) (fun k h=>h.imp id (by omega)) (fun k h=>.inl h) (fun k h=>h.imp .inl id) (fun k h hr=>?_) (fun k h=>?_)) (DK _)).mono ?_)
  ·rcases h with h | h
   ·exact GW.dis k h hr
   ·have:=GW.lt k (.inr hr);omega
  ·rcases h with (h | h) | h
   ·have:=GW.lt k (.inl h);omega
   ·omega
   ·have:=GW.lt k (.inr h);omega
  rintro e W2 ⟨G,R,hs,hn,_,(⟨hi,ho,hl⟩ | ⟨⟨v,rfl⟩,c,hi,hl⟩)⟩
  ·have hp: ∀ o,AO (fun k=>k=w.heap.size) W2 (W2.putObj w.heap.size o):=fun o=>(AO.refl (fun k=>k=w.heap.size) W2).putObj (fun _=>rfl) _
   cases e with
   | returned v=>exact ⟨none,_,by have:=run_endLoop (P:=P) hl (by rw [CO];simp);rw [CO] at this;exact this,
    Dt (.returned v) G R _ W2 _ ho ((hI _).same hs hi ((hp _).mono fun _ _ h=>.inr h)) (hs.upd (hp _)) hn (hp _)⟩
   | panicked c=>exact Dt (.panicked c) G R _ W2 W2 ho hi hs hn (AO.refl _ _)
   | outgrown=>exact (Dt .outgrown G R _ W2 W2 ho hi hs hn (AO.refl _ _)).elim
  ·exact ⟨some c,_,by have:=run_endLoop (P:=P) hl (by rw [CO];simp);rw [CO] at this;exact this,
    QW c _ _ _ ((KH _).same hs hi ((AO.refl _ W2).putObj (fun _=>.inr rfl) _))⟩
end
def En (B:Nat):List Deferred -> World -> Prop
 | [],_=>True
 | d::ds,w=>∃ D,d= { target:=.collected D,args:=#[] }/\ B<=D/\ w.heap[D]? =some (.deferred (some []))/\ (∀ d'∈ds,d'.target≠.collected D)/\ En B ds w
theorem En.upd {B:Nat}{S:Nat -> Prop}{w w':World}(hu:AO S w w'): ∀ {ds:List Deferred},En B ds w -> (∀ k,B<=k -> S k -> w.heap[k]? ≠some (.deferred (some []))) -> En B ds w'
 | [],_,_=>trivial
 | _::_,⟨D,h1,h2,h3,h4,h5⟩,hs=>⟨D,h1,h2,(hu.block D (zAZ.1 h3).1 (fun hx=>hs D h2 hx h3)).trans h3,h4,En.upd hu h5 hs⟩
theorem En.lt {B:Nat}{w:World}: ∀ {ds:List Deferred} (_:En B ds w) {d:Deferred} {D:Nat},d∈ds -> d.target= .collected D -> D<w.heap.size
 | _::_,⟨D,h1,h2,h3,h4,h5⟩,d,D',hm,ht=>by
  rcases zCD.1 hm with rfl | hm
  ·subst h1;cases ht;exact (zAZ.1 h3).1
  ·exact En.lt h5 hm ht
def PS (B:Nat)(w W:World):Prop:=AO (fun k=>B<=k/\ w.heap[k]? =some (.deferred (some []))) w W
def wo (B:Nat)(P:Program)(fn:Func)(R:Ending -> World -> Prop):Exit -> Act -> World -> Prop
 | .normal,a,w | .ret,a,w=>En B a.defers w/\ ∀ W,PS B w W -> ∃ v,(results fn a.tmps).run P W= .ok v W/\ R (.returned v) W
 | _,_,_=>False
theorem lj {B:Nat}{P:Program}{fn:Func}{tmps:Array Value}{R:Ending -> World -> Prop}: ∀ (ds:List Deferred) (w:World),En B ds w ->
 (∀ W,PS B w W -> ∃ v,(results fn tmps).run P W= .ok v W/\ R (.returned v) W) -> LeavesInM Fence.wide 0 P fn tmps R ds .returning w
 | [],w,_,h=>h w (AO.refl _ w)
 | _::ds,w,⟨D,h1,h2,h3,h4,h5⟩,h=>by
  refine ⟨by simp,.inl ⟨D,_,by rw [h1],run_takeDeferred h3,?_⟩⟩;have hu:AO (fun k=>k=D) w (w.putObj D (.deferred none)):=(AO.refl (fun k=>k=D) w).putObj (fun _=>rfl) _
  have Ad: ∀ {ds:List Deferred},(∀ d'∈ds,d'.target≠.collected D) -> En B ds w -> En B ds (w.putObj D (.deferred none)):=by
   intro ds
   induction ds with
   | nil=>intro _ _;trivial
   | cons d ds ih=>
    intro hd ⟨D',g1,g2,g3,g4,g5⟩;refine ⟨D',g1,g2,?_,g4,ih (fun d' hm=>hd d' (by simp [hm])) g5⟩;rw [zDC (fun e=>hd d (by simp) (by rw [g1,e]))];exact g3
  refine lj ds _ (Ad h4 h5) fun W hW=>h W ?_
  refine hu.mono (S':=fun k=>B<=k/\ w.heap[k]? =some (.deferred (some []))) (fun i _ e=>by cases e;exact ⟨h2,h3⟩) |>.comp hW fun i hi hx=>⟨hx.1,?_⟩
  by_cases e:i=D
  ·rw [e];exact h3
  ·rw [←zDC (o:=.deferred none) e];exact hx.2
theorem zFK (B:Nat){P:Program}{f:FuncId}{fn:Func}{c:Code}{args:Array Value}{w:World}{R:Ending -> World -> Prop} 
 (hf:P.funcs[f]? =some fn) (hb:fn.body=some c)
 (h:c.wp P (wo B P fn R) { tmps:=args++Array.replicate (fn.ntmps-args.size) undef,defers:=[] } w):Calls P f args w R:=by
 refine (zHv (n:=0)).1 (callsIn_of_wp_marks hf hb trivial ?_);refine zGR (wpIn_wide.2 h) fun e a' w' hq=>?_
 cases e <;> first | exact lj _ _ hq.1 hq.2 | exact hq.elim
abbrev u8:=@List.getD_eq_getElem?_getD
abbrev zAf:=@List.getElem?_eq_some_iff
abbrev zAk:=@List.getElem?_append_left
abbrev zAp:=@List.getElem?_append_right
abbrev zAq:=@Array.getD_eq_getD_getElem?
abbrev zBB:=@List.length_set
abbrev zCE:=@List.getElem?_set
abbrev zCo:=@List.getElem?_eq_none
abbrev zCu:=@Array.getElem?_setIfInBounds
inductive DV where
 | any
 | nils
 | int (k:IntKind) (n:Int)
 | bool (b:Bool)
 | str (s:ByteArray)
 | ints (l:List Int)
 | bools (l:List Bool)
 | sl (m n:Nat) (f:Nat -> Nat -> DV)
 | fp (m:Nat) (f:Nat -> DV)
 | agg (m:Nat) (f:Nat -> DV)
 | tup (m:Nat) (f:Nat -> DV)
 | ref (k j:Nat)
 | msl (k m off n:Nat)
 | mp (k m i j:Nat)
 | fn (g:Nat) (m:Nat) (c:Nat -> DV)
 | it (k:Nat)
 | yl (l:Nat)
 | mse (k m off n:Nat)
 | mri (k i:Nat)
 | cst (u:Value)
structure AH where
 blk:Nat
 off:Nat
 room:Nat
 val:Value
 foot:Nat -> Prop
def Gc (m:Nat)(f:Nat -> DV):Nat -> DV:=fun j=>((List.range m).map f).getD j .any
theorem VZ {m:Nat}{f:Nat -> DV}{j:Nat}(h:j<m):Gc m f j=f j:=by simp [Gc,h]
def LB:Nat:=140737488355328
def AK (M:Nat -> Prop)(w:World):DV -> List AH -> Value -> Prop
 | .any,_,_=>True
 | .nils,_,v=>v= .slice none 0 0
 | .int k n,_,v=>v= .int k n
 | .bool b,_,v=>v= .bool b
 | .str s,_,v=>v= .string s
 | .ints l,_,v=>∃ (a:Option Addr) (cap:Nat),v= .slice a l.length cap/\ l.length<=cap/\ l.length<=LB/\
  ∀ j,j<l.length -> ∃ b o,a=some ⟨b,o,none⟩/\ ¬ M b/\ w.cell? ⟨b,o+j,none⟩=some (.int .i64 (l.getD j 0))
 | .bools l,_,v=>∃ (a:Option Addr) (cap:Nat),v= .slice a l.length cap/\ l.length<=cap/\ l.length<=LB/\
  ∀ j,j<l.length -> ∃ b o,a=some ⟨b,o,none⟩/\ ¬ M b/\ w.cell? ⟨b,o+j,none⟩=some (.bool (l.getD j false))
 | .sl m n f,_,v=>∃ (a:Option Addr) (cap:Nat),v= .slice a n cap/\ n<=cap/\ n<=LB/\
  ∀ i j,i<n -> j<m -> ∃ b o u,a=some ⟨b,o,none⟩/\ ¬ M b/\ w.cell? ⟨b,o+(i*m+j),none⟩=some u/\ AK M w (f i j) [] u
 | .fp m f,_,v=>∃ b o,v= .pointer (some ⟨b,o,none⟩)/\ ∀ j,j<m -> ¬ M b/\ ∃ u,w.cell? ⟨b,o+j,none⟩=some u/\ AK M w (f j) [] u
 | .agg m f,ρ,v=>∃ cs,v= .agg cs/\ cs.size=m/\ ∀ j,j<m -> ∃ u,cs[j]? =some u/\ AK M w (f j) ρ u
 | .tup m f,ρ,v=>∃ cs,v= .tuple cs/\ cs.size=m/\ ∀ j,j<m -> ∃ u,cs[j]? =some u/\ AK M w (f j) ρ u
 | .ref k j,ρ,v=>∃ p:AH,ρ[k]? =some p/\ v= .pointer (some ⟨p.blk,p.off+j,none⟩)
 | .msl k m off n,ρ,v=>∃ (p:AH) (cap:Nat),ρ[k]? =some p/\ v= .slice (some ⟨p.blk,p.off+off*m,none⟩) n cap/\ n<=cap/\ n<=LB/\ p.off+off*m+cap*m<=p.room
 | .mp k m i j,ρ,v=>∃ p:AH,ρ[k]? =some p/\ v= .pointer (some ⟨p.blk,p.off+(i*m+j),none⟩)
 | .fn g m c,ρ,v=>∃ lb,v= .func (.func g) #[] lb/\ lb.size=m/\ ∀ j,j<m -> ∃ u,lb[j]? =some u/\ AK M w (c j) ρ u
 | .it k,ρ,v=>∃ p:AH,ρ[k]? =some p/\ v=p.val
 | .yl l,_,v=>v= .func (.yield l) #[] #[]
 | .cst u,_,v=>v=u/\ u.oneCell'=true
 | .mri k i,ρ,v=>∃ (p:AH) (vs:Array Value),ρ[k]? =some p/\ p.val= .tuple vs/\ vs[i]? =some v
 | .mse k m off n,ρ,v=>∃ (p:AH) (a:Option Addr) (cap:Nat),ρ[k]? =some p/\ v= .slice a n cap/\ n<=cap/\ n<=LB/\ (0<cap -> a=some ⟨p.blk,p.off+off*m,none⟩/\ p.off+off*m+cap*m<=p.room)
theorem Kj {M:Nat -> Prop}{w:World}{ρ:List AH}{m:Nat}{f:Nat -> DV}{j:Nat}{v:Value}(h:j<m)(hr:AK M w (f j) ρ v):AK M w (Gc m f j) ρ v:=by rw [VZ h];exact hr
def AY (w:World)(p:AH)(n:Nat)(R:Nat -> Value -> Prop):Prop:= p.foot=(fun b=>b=p.blk)/\ ∃ cs t,w.heap[p.blk]? =some (.cells cs t (0,0))/\ p.off+n<=cs.size/\ p.room<=cs.size/\ ∀ j,j<n -> ∃ u,cs[p.off+j]? =some u/\ R j u
/-! ### Rows that an object owns-/
def H3 (w:World)(F:Nat -> Prop)(u:Value)(L:List Int):Prop:= (L= []/\ u= .slice none 0 0)∨∃ (q:AH) (cap:Nat),u= .slice (some ⟨q.blk,q.off,none⟩) L.length cap/\ L.length<=cap/\ q.off+cap<=q.room/\ L.length<=LB/\ F q.blk/\ AY w q L.length fun j x=>x= .int .i64 (L.getD j 0)
def DY:Value -> Option Nat
 | .slice (some a) _ _=>some a.block
 | _=>none
theorem H3.blk {w:World}{F:Nat -> Prop}{u:Value}{L:List Int}{b:Nat}(h:H3 w F u L)(hb:DY u=some b):F b/\ b<w.heap.size:=by
 rcases h with ⟨_,rfl⟩ | ⟨q,cap,rfl,_,_,_,h5,_,cs,t,h6,_⟩
 ·cases hb
 ·cases hb;exact ⟨h5,(zAZ.1 h6).1⟩
theorem H3.out {w w':World}{F F':Nat -> Prop}{u:Value}{L:List Int}(h:H3 w F u L)(hb: ∀ b,F b -> DY u=some b -> b<w.heap.size -> w'.heap[b]? =w.heap[b]?)(hF: ∀ b,F b -> DY u=some b -> F' b):H3 w' F' u L:=by
 rcases h with h | ⟨q,cap,h1,h2,h3,h4,h5,h6⟩
 ·exact .inl h
 ·refine .inr ⟨q,cap,h1,h2,h3,h4,hF _ h5 (by rw [h1];rfl),?_⟩;obtain ⟨g1,cs,t,g2,g3⟩:=h6;exact ⟨g1,cs,t,(hb _ h5 (by rw [h1];rfl) (zAZ.1 g2).1).trans g2,g3⟩
structure Em (w:World)(p:AH)(f:Int -> List Int)(B1:Option (Int×List Int×Bool))(u:Value)(es:Array MapEntry)(Ac:Nat):Prop where
 val:p.val= .tuple #[Value.map (some p.blk),u]
 blk:w.heap[p.blk]? =some (.map es Ac)
 own:p.foot p.blk
 key: ∀ e∈es.toList,∃ k,e.key= .int .i64 k/\ ((∀ L,B1≠some (k,L,true)) -> H3 w (fun b=>p.foot b/\ b≠p.blk) e.val (f k))
 no: ∀ k,(∀ e∈es.toList,e.key≠.int .i64 k) -> f k= []
 nd:(es.toList.map (·.key)).Nodup
 apart: ∀ e∈es.toList,∀ e'∈es.toList,∀ b,DY e.val=some b -> DY e'.val=some b -> e.key=e'.key
 born: ∀ e∈es.toList,e.born<Ac
 stamps:(es.toList.map (·.born)).Nodup
 inHand: ∀ k L g,B1=some (k,L,g) -> H3 w (fun b=>p.foot b/\ b≠p.blk) u L/\ ∀ e∈es.toList,∀ b,DY u=some b -> DY e.val=some b -> e.key= .int .i64 k
theorem Em.out {w w':World}{p:AH}{f:Int -> List Int}{B1:Option (Int×List Int×Bool)}{u:Value}{es:Array MapEntry}{Ac:Nat}(h:Em w p f B1 u es Ac)(hb: ∀ b,p.foot b -> b<w.heap.size -> w'.heap[b]? =w.heap[b]?):Em w' p f B1 u es Ac:=
 { h with
  blk:=(hb _ h.own (zAZ.1 h.blk).1).trans h.blk
  key:=fun e he=>let ⟨k,h1,h2⟩:=h.key e he;⟨k,h1,fun hh=>(h2 hh).out (fun b hf _ hl=>hb b hf.1 hl) fun _ h _=>h⟩
  inHand:=fun k L g e=>let ⟨h1,h2⟩:=h.inHand k L g e;⟨h1.out (fun b hf _ hl=>hb b hf.1 hl) fun _ h _=>h,h2⟩ }
/-! ### Maps:sets of keys-/
abbrev KS:=List (List Int)
def BR:List Int -> Value
 | [a]=>.int .i64 a
 | l=>.agg (l.map fun a=>.int .i64 a).toArray
theorem mG: ∀ {a b:List Int},BR a=BR b -> a=b:=by
 have ai: ∀ {l m:List Int},(l.map fun a=>Value.int .i64 a).toArray=(m.map fun a=>Value.int .i64 a).toArray -> l=m:=fun {l m} h=>by
  have h:=Array.toList_inj.2 h;simp only at h;exact List.map_inj_right (fun x y e=>by cases e;rfl) |>.1 h
 intro a b h
 match a,b with
 | [x],[y]=>cases h;rfl
 | [],[]=>rfl
 | [x],[]=>cases h
 | [],[y]=>cases h
 | [x],y::y'::m=>cases h
 | x::x'::l,[y]=>cases h
 | x::x'::l,[]=>exact ai (Value.agg.inj h)
 | [],y::y'::m=>exact ai (Value.agg.inj h)
 | x::x'::l,y::y'::m=>exact ai (Value.agg.inj h)
structure E1 (w:World)(b n:Nat)(l:KS)(es:Array MapEntry)(Ac:Nat):Prop where
 blk:w.heap[b]? =some (.map es Ac)
 keys:(es.toList.map (·.key)).Perm (l.map BR)
 nd:l.Nodup
 len: ∀ y∈l,y.length=n
 tru: ∀ e∈es.toList,e.val= .bool true
 born: ∀ e∈es.toList,e.born<Ac
 stamps:(es.toList.map (·.born)).Nodup
theorem E1.out {w w':World}{b n:Nat}{l:KS}{es:Array MapEntry}{Ac:Nat}(h:E1 w b n l es Ac)(hb:w'.heap[b]? =w.heap[b]?):E1 w' b n l es Ac:={ h with blk:=hb.trans h.blk }
inductive MX where
 | set (n:Nat) (l:KS)
 | sets (n:Nat) (ls:List (Option KS)) (lk:Option (Nat×Nat×Array MapEntry×Nat))
 | mit (n mb:Nat) (es:Array MapEntry) (Ac:Nat) (rem:KS) (Ex:Option (List Int))
 | rows (f:Int -> List Int) (B1:Option (Int×List Int×Bool))
 | rws (ls:List (List Int)) (B1:Option (Nat×List Int))
structure Kb (w:World)(p:AH)(ls:List (List Int))(B1:Option (Nat×List Int))(vs:Array Value):Prop where
 val:p.val= .tuple vs
 size:vs.size=ls.length+1
 row: ∃ cs t,w.heap[p.blk]? =some (.cells cs t (0,0))/\ p.off+ls.length<=cs.size/\ p.room<=cs.size/\ ∀ j,j<ls.length -> cs[p.off+j]? =vs[j+1]?
 blk:p.foot p.blk
 has: ∀ j,j<ls.length -> (∀ L,B1≠some (j,L)) -> H3 w (fun b=>p.foot b/\ b≠p.blk) (vs.getD (j+1) undef) (ls.getD j default)
 apart: ∀ (i j b:Nat),i<ls.length -> j<ls.length -> (∀ L,B1≠some (i,L)) -> (∀ L,B1≠some (j,L)) -> DY (vs.getD (i+1) undef)=some b -> DY (vs.getD (j+1) undef)=some b -> i=j
 inHand: ∀ k L,B1=some (k,L) -> H3 w (fun b=>p.foot b/\ b≠p.blk) (vs.getD 0 undef) L/\ ∀ (j b:Nat),j<ls.length -> DY (vs.getD 0 undef)=some b -> DY (vs.getD (j+1) undef)=some b -> j=k
theorem Kb.out {w w':World}{p:AH}{ls:List (List Int)}{B1:Option (Nat×List Int)}{vs:Array Value}(h:Kb w p ls B1 vs)(hb: ∀ b,p.foot b -> b<w.heap.size -> w'.heap[b]? =w.heap[b]?):Kb w' p ls B1 vs:=
 { h with
  row:=let ⟨cs,t,h1,h2⟩:=h.row;⟨cs,t,(hb _ h.blk (zAZ.1 h1).1).trans h1,h2⟩
  has:=fun j hj hh=>(h.has j hj hh).out (fun b hf _ hl=>hb b hf.1 hl) fun _ h _=>h
  inHand:=fun k L e=>let ⟨h1,h2⟩:=h.inHand k L e;⟨h1.out (fun b hf _ hl=>hb b hf.1 hl) fun _ h _=>h,h2⟩ }
structure FM (w:World)(p:AH)(n:Nat)(ls:List (Option KS))(lk:Option (Nat×Nat×Array MapEntry×Nat))(vs:Array Value):Prop where
 val:p.val= .tuple vs
 size:vs.size=ls.length
 row: ∃ cs t,w.heap[p.blk]? =some (.cells cs t (0,0))/\ p.off+ls.length<=cs.size/\ p.room<=cs.size/\ ∀ j,j<ls.length -> cs[p.off+j]? =vs[j]?
 blk:p.foot p.blk
 has: ∀ (j:Nat) (l:KS),ls[j]? =some (some l) -> ∃ b:Nat,vs[j]? =some (Value.map (some b))/\ b≠p.blk/\ p.foot b/\ ∃ es Ac,E1 w b n l es Ac/\ ∀ x,lk=some x -> x.1=j -> x.2=(b,es,Ac)
 nil: ∀ (j:Nat),ls[j]? =some none -> vs[j]? =some (Value.map none)
 foot: ∀ b,p.foot b -> b=p.blk∨∃ (j:Nat) (l:KS),ls[j]? =some (some l)/\ vs[j]? =some (Value.map (some b))
 inj: ∀ (i j b:Nat),vs[i]? =some (Value.map (some b)) -> vs[j]? =some (Value.map (some b)) -> i=j
theorem FM.out {w w':World}{p:AH}{n:Nat}{ls:List (Option KS)}{lk:Option (Nat×Nat×Array MapEntry×Nat)}{vs:Array Value}(h:FM w p n ls lk vs)(hb: ∀ b,p.foot b -> b<w.heap.size -> w'.heap[b]? =w.heap[b]?):FM w' p n ls lk vs:=by
 have AF: ∀ {b o},p.foot b -> w.heap[b]? =some o -> w'.heap[b]? =some o:=fun {b o} hf ho=>(hb b hf (zAZ.1 ho).1).trans ho
 refine { h with row:=?_,has:=fun j l hl=>?_ }
 ·obtain ⟨cs,t,h1,h2⟩:=h.row;exact ⟨cs,t,AF h.blk h1,h2⟩
 ·obtain ⟨b,h1,h2,h3,es,Ac,h4,h5⟩:=h.has j l hl;exact ⟨b,h1,h2,h3,es,Ac,{ h4 with blk:=AF h3 h4.blk },h5⟩
def NM (w:World)(p:AH):MX -> Prop
 | .set n l=>p.val=Value.map (some p.blk)/\ p.foot=(fun b=>b=p.blk)/\ ∃ es Ac,E1 w p.blk n l es Ac
 | .sets n ls lk=>∃ vs,FM w p n ls lk vs
 | .mit n mb es Ac rem Ex=>(∀ x,(x∈rem∨Ex=some x) -> x.length=n)/\ p.val= .pointer (some ⟨p.blk,0,none⟩)/\ p.foot=(fun b=>b=p.blk)/\ ∃ seen,w.heap[p.blk]? =some (.mapIter (some mb) Ac seen Ac)/\ ((leftOf es seen).toList.map (·.key)).Perm (rem.map BR)/\
  ∀ x,Ex=some x -> ∃ e∈es.toList,e.key=BR x/\ seen.back? =some e.born
 | .rows f B1=>∃ u es Ac,Em w p f B1 u es Ac
 | .rws ls B1=>∃ vs,Kb w p ls B1 vs
theorem NM.out {w w':World}{p:AH}: ∀ {x:MX},NM w p x -> (∀ b,p.foot b -> b<w.heap.size -> w'.heap[b]? =w.heap[b]?) -> NM w' p x
 | .set n l,⟨h1,h2,es,Ac,h3⟩,hb=>⟨h1,h2,es,Ac,h3.out (hb _ (by rw [h2]) (zAZ.1 h3.blk).1)⟩
 | .sets n ls lk,⟨vs,h⟩,hb=>⟨vs,h.out hb⟩
 | .rows f B1,⟨u,es,Ac,h⟩,hb=>⟨u,es,Ac,h.out hb⟩
 | .rws ls B1,⟨vs,h⟩,hb=>⟨vs,h.out hb⟩
 | .mit n mb es Ac rem Ex,⟨h0,h1,h2,seen,h3,h4⟩,hb=>⟨h0,h1,h2,seen,(hb _ (by rw [h2]) (zAZ.1 h3).1).trans h3,h4⟩
inductive DO where
 | cells (l:List DV)
 | ints (l:List Int)
 | bools (l:List Bool)
 | arr (m n:Nat) (f:Nat -> Nat -> DV)
 | iter (encs:List (List DV))
 | ro (l:List DV)
 | mo (x:MX)
abbrev DH:=List (Option DO)
def MO (h:DH)(ρ:List AH)(b:Nat):Prop:=∃ (k:Nat) (o:DO) (p:AH),h[k]? =some (some o)/\ ρ[k]? =some p/\ p.foot b
def MS (N:Nat -> Prop)(h:DH)(ρ:List AH)(b:Nat):Prop:=N b∨MO h ρ b
def YV (ds:List DV)(R:Nat -> Prop)(W:World)(args:Array Value):Prop:=ds.length=args.size/\ ∀ j,j<ds.length -> AK (fun b=>b<W.heap.size/\ ¬ R b) W (ds.getD j .any) [] (args.getD j undef)
def RS:Ending -> (Nat -> Prop) -> (Nat -> Prop) -> World -> Prop:=fun e _ _ _=>∃ v,e= .returned v
def EC (P:Program)(M:Nat -> Prop)(w:World)(ρ:List AH)(p:AH):DO -> Prop
 | .cells l=>AY w p l.length fun j u=>AK M w (l.getD j .any) ρ u
 | .ints l=>AY w p l.length fun j u=>u= .int .i64 (l.getD j 0)
 | .bools l=>AY w p l.length fun j u=>u= .bool (l.getD j false)
 | .arr m n f=>AY w p (n*m) fun j u=>AK M w (f (j/m) (j % m)) [] u
 | .iter encs=>∃ gf lb Rd,(p.val= .func (.func gf) #[] lb/\ ∀ args W,(callFunc gf args).run P W= .ok (.enter gf args) W)/\ NO P gf lb YV encs RS p.foot Rd w/\ (∀ b,Rd b -> ¬ M b/\ b<w.heap.size)/\ ∀ b,p.foot b -> b<w.heap.size
 | .ro l=>p.foot=(fun _=>False)/\ ¬ M p.blk/\ AY w { p with foot:=fun b=>b=p.blk } l.length fun j u=>AK M w (l.getD j .any) ρ u
 | .mo x=>NM w p x
def nZ:Obj -> Bool
 | .cells .. =>true
 | .map .. =>true
 | .mapIter .. =>true
 | _=>false
abbrev Dm (w:World)(b:Nat):Prop:=∃ (c:Obj) (_:nZ c=true) (_:Unit),w.heap[b]? =some c
theorem Dm.cells {w:World}{b:Nat}{c:Array Value}{t:TypeId}{z:Nat×Nat}(h:w.heap[b]? =some (.cells c t z)):Dm w b:=⟨_,rfl,(),h⟩
structure At where
 ng:Nat
 gi:World -> Prop
 st: ∀ w w',gi w -> AO (fun b=>ng<=b) w w' -> gi w'
 lo: ∀ w,gi w -> ng<=w.heap.size
structure A1 (P:Program)(Γ:At)(N:Nat -> Prop)(h:DH)(ρ:List AH)(w:World):Prop where
 len:ρ.length=h.length
 obj: ∀ (k:Nat) (o:DO),h[k]? =some (some o) -> ∃ p:AH,ρ[k]? =some p/\ EC P (MS N h ρ) w ρ p o
 cel: ∀ (k:Nat) (o:DO) (p:AH) (b:Nat),h[k]? =some (some o) -> ρ[k]? =some p -> p.foot b -> Γ.ng<=b/\ ¬ N b/\ Dm w b
 dis: ∀ (k k':Nat) (o o':DO) (p p':AH) (b:Nat),k≠k' -> h[k]? =some (some o) -> h[k']? =some (some o') -> ρ[k]? =some p -> ρ[k']? =some p' -> p.foot b -> p'.foot b -> False
 nlt: ∀ b,N b -> b<w.heap.size/\ Γ.ng<=b
 gi:Γ.gi w
structure St where
 fr:List DV
 h:DH
def A9 (M:Nat -> Prop)(w:World)(ρ:List AH)(fr:List DV)(t:Array Value):Prop:= fr.length=t.size/\ ∀ i,i<fr.length -> AK M w (fr.getD i .any) ρ (t.getD i undef)
structure AR (P:Program)(Γ:At)(N:Nat -> Prop)(S:St)(ρ:List AH)(a:Act)(w:World):Prop where
 hr:A1 P Γ N S.h ρ w
 fr:A9 (MS N S.h ρ) w ρ S.fr a.tmps
structure A5 (h:DH)(ρ:List AH)(w:World)(h':DH)(ρ':List AH)(w':World):Prop where
 upd:AO (MO h ρ) w w'
 grow: ∀ b,MO h' ρ' b -> MO h ρ b∨w.heap.size<=b
theorem A5.refl (h:DH)(ρ:List AH)(w:World):A5 h ρ w h ρ w:=⟨AO.refl _ _,fun _ h=>.inl h⟩
theorem A5.trans {h h' UJ:DH}{ρ ρ' ρ'':List AH}{w w' CV:World}(x:A5 h ρ w h' ρ' w')(y:A5 h' ρ' w' UJ ρ'' CV):A5 h ρ w UJ ρ'' CV:=
 ⟨x.upd.comp y.upd fun i hi hm=>(x.grow i hm).resolve_right (by omega),fun b hb=>(y.grow b hb).elim (fun h=>x.grow b h) (fun h=>.inr (zA0 x.upd.size h))⟩
structure Cv (h:DH)(ρ:List AH)(w:World)(h':DH)(ρ':List AH)(w':World):Prop where
 st:A5 h ρ w h' ρ' w'
 pl: ∀ (k:Nat) (p:AH),ρ[k]? =some p -> ρ'[k]? =some p
theorem Cv.refl (h:DH)(ρ:List AH)(w:World):Cv h ρ w h ρ w:=⟨A5.refl _ _ _,fun _ _ h=>h⟩
theorem Cv.trans {h h' UJ:DH}{ρ ρ' ρ'':List AH}{w w' CV:World}(x:Cv h ρ w h' ρ' w')(y:Cv h' ρ' w' UJ ρ'' CV):Cv h ρ w UJ ρ'' CV:=
 ⟨x.st.trans y.st,fun k p hk=>y.pl k p (x.pl k p hk)⟩
structure BS (M:Nat -> Prop)(w:World)(ρ:List AH)(M':Nat -> Prop)(w':World)(ρ':List AH):Prop where
 blk: ∀ b,b<w.heap.size -> ¬ M b -> (∃ c t z,w.heap[b]? =some (.cells c t z)) -> w'.heap[b]? =w.heap[b]?
 m: ∀ b,M' b -> M b∨w.heap.size<=b
 pl: ∀ (k:Nat) (p:AH),ρ[k]? =some p -> ρ'[k]? =some p
theorem zFF {w:World}{b o:Nat}{u:Value}(h:w.cell? ⟨b,o,none⟩=some u): ∃ c t z,w.heap[b]? =some (.cells c t z):=by
 unfold World.cell? at h;split at h
 ·exact ⟨_,_,_,by assumption⟩
 ·cases h
theorem BS.nil {M M':Nat -> Prop}{w w':World}{ρ ρ':List AH}(h:BS M w ρ M' w' ρ'):BS M w [] M' w' []:=⟨h.blk,h.m,fun k p hk=>by simp at hk⟩
theorem eL {w w':World}{b o:Nat}(h:w'.heap[b]? =w.heap[b]?):w'.cell? ⟨b,o,none⟩=w.cell? ⟨b,o,none⟩:=by
 unfold World.cell?;rw [h]
theorem BS.cell {M M':Nat -> Prop}{w w':World}{ρ ρ':List AH}(h:BS M w ρ M' w' ρ'){b o:Nat}{u:Value}(hM: ¬ M b)(hc:w.cell? ⟨b,o,none⟩=some u):w'.cell? ⟨b,o,none⟩=some u/\ ¬ M' b:=by
 have AM:b<w.heap.size:=zC6 w ⟨b,o,none⟩ hc;exact ⟨(eL (h.blk b AM hM (zFF hc))).trans hc,fun hm=>(h.m b hm).elim hM (by omega)⟩
theorem AK.out {M M':Nat -> Prop}{w w':World}: ∀ (d:DV) {ρ ρ':List AH} {v:Value},BS M w ρ M' w' ρ' -> AK M w d ρ v -> AK M' w' d ρ' v:=by
 intro d
 induction d with
 | any=>intros;trivial
 | nils=>intro ρ ρ' v _ h;exact h
 | int k n=>intro ρ ρ' v _ h;exact h
 | bool b=>intro ρ ρ' v _ h;exact h
 | str s=>intro ρ ρ' v _ h;exact h
 | ints l=>
  rintro ρ ρ' v H ⟨a,cap,e,h1,h2,h3⟩;refine ⟨a,cap,e,h1,h2,fun j hj=>?_⟩;obtain ⟨b,o,ha,hM,hc⟩:=h3 j hj;obtain ⟨g1,g2⟩:=H.cell hM hc;exact ⟨b,o,ha,g2,g1⟩
 | bools l=>
  rintro ρ ρ' v H ⟨a,cap,e,h1,h2,h3⟩;refine ⟨a,cap,e,h1,h2,fun j hj=>?_⟩;obtain ⟨b,o,ha,hM,hc⟩:=h3 j hj;obtain ⟨g1,g2⟩:=H.cell hM hc;exact ⟨b,o,ha,g2,g1⟩
 | sl m n f ih=>
  rintro ρ ρ' v H ⟨a,cap,e,h1,h2,h3⟩;refine ⟨a,cap,e,h1,h2,fun i j hi hj=>?_⟩;obtain ⟨b,o,u,ha,hM,hc,hr⟩:=h3 i j hi hj;obtain ⟨g1,g2⟩:=H.cell hM hc;exact ⟨b,o,u,ha,g2,g1,ih i j H.nil hr⟩
 | fp m f ih=>
  rintro ρ ρ' v H ⟨b,o,e,h⟩;refine ⟨b,o,e,fun j hj=>?_⟩;obtain ⟨hM,u,hc,hr⟩:=h j hj;obtain ⟨g1,g2⟩:=H.cell hM hc;exact ⟨g2,u,g1,ih j H.nil hr⟩
 | agg m f ih=>
  rintro ρ ρ' v H ⟨cs,e,hs,h⟩;exact ⟨cs,e,hs,fun j hj=>let ⟨u,h1,h2⟩:=h j hj;⟨u,h1,ih j H h2⟩⟩
 | tup m f ih=>
  rintro ρ ρ' v H ⟨cs,e,hs,h⟩;exact ⟨cs,e,hs,fun j hj=>let ⟨u,h1,h2⟩:=h j hj;⟨u,h1,ih j H h2⟩⟩
 | ref k j=>rintro ρ ρ' v H ⟨p,h,e⟩;exact ⟨p,H.pl _ _ h,e⟩
 | msl k m off n=>rintro ρ ρ' v H ⟨p,cap,h,r⟩;exact ⟨p,cap,H.pl _ _ h,r⟩
 | mp k m i j=>rintro ρ ρ' v H ⟨p,h,e⟩;exact ⟨p,H.pl _ _ h,e⟩
 | fn g m c ih=>
  rintro ρ ρ' v H ⟨cs,e,hs,h⟩;exact ⟨cs,e,hs,fun j hj=>let ⟨u,h1,h2⟩:=h j hj;⟨u,h1,ih j H h2⟩⟩
 | it k=>rintro ρ ρ' v H ⟨p,h,e⟩;exact ⟨p,H.pl _ _ h,e⟩
 | yl l=>intro ρ ρ' v _ h;exact h
 | mse k m off n=>rintro ρ ρ' v H ⟨p,a,cap,h,r⟩;exact ⟨p,a,cap,H.pl _ _ h,r⟩
 | mri k i=>rintro ρ ρ' v H ⟨p,vs,h,r⟩;exact ⟨p,vs,H.pl _ _ h,r⟩
 | cst u=>intro ρ ρ' v _ h;exact h
theorem A9.out {M M':Nat -> Prop}{w w':World}{ρ ρ':List AH}{fr:List DV}{t:Array Value}(h:A9 M w ρ fr t)(H:BS M w ρ M' w' ρ'):A9 M' w' ρ' fr t:=
 ⟨h.1,fun i hi=>(h.2 i hi).out _ H⟩
theorem A9.at {M:Nat -> Prop}{w:World}{ρ:List AH}{fr:List DV}{t:Array Value}(h:A9 M w ρ fr t)(i:Nat):AK M w (fr.getD i .any) ρ (t.getD i undef):=by
 rcases zCV i fr.length with hi | hi
 ·exact h.2 i hi
 ·have:fr.getD i .any= .any:=by rw [u8,zCo hi];rfl
  rw [this];trivial
theorem A9.set {M:Nat -> Prop}{w:World}{ρ:List AH}{fr:List DV}{t:Array Value}(h:A9 M w ρ fr t)(i:Nat){d:DV}{v:Value}(hv:AK M w d ρ v):A9 M w ρ (fr.set i d) (t.setIfInBounds i v):=by
 refine ⟨by simp [h.1],fun j hj=>?_⟩;rw [zBB] at hj;have BJ:j<t.size:=by rw [←h.1];exact hj
 have h0:=h.2 j hj;simp only [u8,zAq,zCE,zCu] at h0 ⊢
 by_cases e:i=j
 ·subst e;simp [hj,BJ,hv]
 ·rw [zAh e,zAh e];exact h0
theorem NO.later {P:Program}{g:Nat}{lb:Array Value}{X:Type}{E:X -> (Nat -> Prop) -> World -> Array Value -> Prop}{encs:List X}{JR:Ending -> (Nat -> Prop) -> (Nat -> Prop) -> World -> Prop}{G0 Rd:Nat -> Prop}{w w':World}(h:NO P g lb E encs JR G0 Rd w){S:Nat -> Prop}(hu:AO S w w')(hs: ∀ b,b<w.heap.size -> S b -> ¬ (G0 b∨Rd b)):NO P g lb E encs JR G0 Rd w':=
 fun l J Jx W h1 h2 h3=>h l J Jx W h1 h2 (hu.mono (fun i hi hx=>hs i hi hx) |>.trans h3)
theorem AY.out {w w':World}{p:AH}{n:Nat}{R R':Nat -> Value -> Prop}(h:AY w p n R)(hb:w'.heap[p.blk]? =w.heap[p.blk]?)(hR: ∀ j u,j<n -> R j u -> R' j u):AY w' p n R':=by
 obtain ⟨h1,cs,t,h2,h3,h4,h5⟩:=h;exact ⟨h1,cs,t,hb.trans h2,h3,h4,fun j hj=>let ⟨u,g1,g2⟩:=h5 j hj;⟨u,g1,hR j u hj g2⟩⟩
theorem AY.cell {w:World}{p:AH}{n:Nat}{R:Nat -> Value -> Prop}(h:AY w p n R){j:Nat}(hj:j<n): ∃ u,w.cell? ⟨p.blk,p.off+j,none⟩=some u/\ R j u:=by
 obtain ⟨h1,cs,t,h2,h3,h4,h5⟩:=h;obtain ⟨u,g1,g2⟩:=h5 j hj;exact ⟨u,by unfold World.cell?;simp [h2,g1],g2⟩
theorem AY.frozen {w:World}{p:AH}{n:Nat}{R:Nat -> Value -> Prop}(h:AY w p n R)(o:Nat):w.frozen? ⟨p.blk,o,none⟩=false:=by
 obtain ⟨h1,cs,t,h2,_⟩:=h;unfold World.frozen?;simp [h2]
theorem EC.out {P:Program}{M M':Nat -> Prop}{w w':World}{ρ ρ':List AH}{p:AH}{o:DO}(h:EC P M w ρ p o)(H:BS M w ρ M' w' ρ'){S:Nat -> Prop}(hu:AO S w w')(hS: ∀ b,S b -> M b)(hf: ∀ b,b<w.heap.size -> p.foot b -> ¬ S b):EC P M' w' ρ' p o:=by
 have hb: ∀ {n R},AY w p n R -> w'.heap[p.blk]? =w.heap[p.blk]? :=fun {n R} hr=>by
  obtain ⟨h1,cs,t,h2,_⟩:=hr;have AM:=(zAZ.1 h2).1;exact hu.block _ AM (hf _ AM (by rw [h1]))
 cases o with
 | cells l=>exact AY.out h (hb h) fun j u _ hr=>AK.out _ H hr
 | ints l=>exact AY.out h (hb h) fun j u _ hr=>hr
 | bools l=>exact AY.out h (hb h) fun j u _ hr=>hr
 | arr m n f=>exact AY.out h (hb h) fun j u _ hr=>AK.out _ H.nil hr
 | iter encs=>
  obtain ⟨gf,lb,Rd,h1,h2,h3,h4⟩:=h;refine ⟨gf,lb,Rd,h1,h2.later hu (fun b hb hs hx=>?_),fun b hb=>⟨fun hm=>(H.m b hm).elim (h3 b hb).1 (by have:=(h3 b hb).2;omega),zAj (h3 b hb).2 hu.size⟩,fun b hb=>zAj (h4 b hb) hu.size⟩;rcases hx with hx | hx
  ·exact hf b hb hx hs
  ·exact (h3 b hx).1 (hS b hs)
 | ro l=>
  obtain ⟨r1,r2,r3⟩:=h
  have AM:p.blk<w.heap.size:=by
   obtain ⟨_,cs,t,h2,_⟩:=r3;exact (zAZ.1 h2).1
  exact ⟨r1,fun hm=>(H.m _ hm).elim r2 (by omega),AY.out r3 (hu.block _ AM fun hs=>r2 (hS _ hs)) fun j u _ hr=>AK.out _ H hr⟩
 | mo x=>exact NM.out h fun b hb AM=>hu.block b AM (hf b AM hb)
section
variable {P:Program} {Γ:At} {N:Nat -> Prop} {h:DH} {ρ:List AH} {w:World}
theorem MO.unset {k:Nat}{b:Nat}(hm:MO (h.set k none) ρ b):MO h ρ b:=by
 obtain ⟨i,o,p,h1,h2,h3⟩:=hm;rw [zCE] at h1
 by_cases e:k=i
 ·rw [zAM e] at h1;split at h1 <;> cases h1
 ·rw [zAh e] at h1;exact ⟨i,o,p,h1,h2,h3⟩
theorem A1.lt (H:A1 P Γ N h ρ w){b:Nat}(hb:MS N h ρ b):b<w.heap.size:=by
 rcases hb with hb | ⟨k,o,p,h1,h2,h3⟩
 ·exact (H.nlt b hb).1
 ·obtain ⟨_,_,c,t,z,h4⟩:=H.cel k o p b h1 h2 h3;exact (zAZ.1 h4).1
theorem A1.low (H:A1 P Γ N h ρ w){b:Nat}(hb:MO h ρ b):Γ.ng<=b:=by
 obtain ⟨k,o,p,h1,h2,h3⟩:=hb;exact (H.cel k o p b h1 h2 h3).1
theorem A1.lt2 (H:A1 P Γ N h ρ w){b:Nat}(hb:MS N h ρ b):b<w.heap.size/\ Γ.ng<=b:=⟨H.lt hb,hb.elim (fun h=>(H.nlt b h).2) H.low⟩
theorem A1.ext (H:A1 P Γ N h ρ w){w':World}(hE:Aq w w'):A1 P Γ N h ρ w':=by
 have O:BS (MS N h ρ) w ρ (MS N h ρ) w' ρ:=⟨fun b hb _ _=>zHU hE b hb,fun b h=>.inl h,fun _ _ h=>h⟩;refine ⟨H.len,fun k o hk=>?_,fun k o p b h1 h2 h3=>?_,H.dis,fun b hb=>⟨zAj (H.nlt b hb).1 hE.size,(H.nlt b hb).2⟩,Γ.st _ _ H.gi (AO.ofExt hE)⟩
 ·obtain ⟨p,hp,ho⟩:=H.obj k o hk;exact ⟨p,hp,ho.out O (S:=fun _=>False) (AO.ofExt hE) (fun _ h=>h.elim) (fun _ _ _ h=>h)⟩
 ·obtain ⟨g1,g2,c,t,z,g3⟩:=H.cel k o p b h1 h2 h3;exact ⟨g1,g2,c,t,z,(zHU hE b (zAZ.1 g3).1).trans g3⟩
theorem BS.ext {M:Nat -> Prop}{w w':World}(ρ:List AH)(hE:Aq w w'):BS M w ρ M w' ρ:=⟨fun b hb _ _=>zHU hE b hb,fun b h=>.inl h,fun _ _ h=>h⟩
theorem A5.ext {w w':World}(hE:Aq w w'):A5 h ρ w h ρ w':=⟨AO.ofExt hE,fun _ h=>.inl h⟩
theorem Dv {α:Type}{l:List α}{x y:α}{k:Nat}(hk:(l++[x])[k]? =some y):(k<l.length/\ l[k]? =some y)∨(k=l.length/\ x=y):=by
 rcases Nat.lt_trichotomy k l.length with hl | hl | hl
 ·rw [zAk hl] at hk;exact .inl ⟨hl,hk⟩
 ·subst hl;simp at hk;exact .inr ⟨rfl,hk⟩
 ·rw [zAp (by omega)] at hk;have:k-l.length≠0:=by omega
  cases e:k-l.length with
  | zero=>omega
  | succ m=>rw [e] at hk;simp at hk
theorem Eh {α:Type}{l:List α}{x y:α}{k:Nat}(hk:l[k]? =some y):(l++[x])[k]? =some y:=by
 rw [zAk (zAf.1 hk).1];exact hk
theorem MO.snoc (H:A1 P Γ N h ρ w){o:DO}{p:AH}{b:Nat}(hb:MO (h++[some o]) (ρ++[p]) b):MO h ρ b∨p.foot b:=by
 obtain ⟨k,o',p',h1,h2,h3⟩:=hb;rcases Dv h1 with ⟨hl,h1⟩ | ⟨hl,h1⟩
 ·rcases Dv h2 with ⟨_,h2⟩ | ⟨Cs,_⟩
  ·exact .inl ⟨k,o',p',h1,h2,h3⟩
  ·rw [Cs,H.len] at hl;omega
 ·rcases Dv h2 with ⟨Cs,_⟩ | ⟨_,h2⟩
  ·rw [H.len,←hl] at Cs;omega
  ·subst h2;exact .inr h3
theorem A1.snoc (H:A1 P Γ N h ρ w){w':World}(hE:Aq w w'){o:DO}{p:AH}(hf: ∀ b,p.foot b -> w.heap.size<=b/\ Dm w' b) 
 (ho:EC P (MS N (h++[some o]) (ρ++[p])) w' (ρ++[p]) p o):A1 P Γ N (h++[some o]) (ρ++[p]) w':=by
 have O:BS (MS N h ρ) w ρ (MS N (h++[some o]) (ρ++[p])) w' (ρ++[p]):=by
  refine ⟨fun b hb _ _=>zHU hE b hb,fun b hb=>?_,fun k q hk=>Eh hk⟩;rcases hb with hb | hb
  ·exact .inl (.inl hb)
  ·rcases MO.snoc H hb with hb | hb
   ·exact .inl (.inr hb)
   ·exact .inr (hf b hb).1
 refine ⟨by simp [H.len],fun k o' hk=>?_,fun k o' p' b h1 h2 h3=>?_,fun k k' o1 o2 p1 p2 b Ad h1 h2 h3 h4 h5 h6=>?_,fun b hb=>⟨zAj (H.nlt b hb).1 hE.size,(H.nlt b hb).2⟩,Γ.st _ _ H.gi (AO.ofExt hE)⟩
 ·rcases Dv hk with ⟨hl,hk⟩ | ⟨hl,hk⟩
  ·obtain ⟨p',hp,hr⟩:=H.obj k o' hk;exact ⟨p',Eh hp,hr.out O (S:=fun _=>False) (AO.ofExt hE) (fun _ h=>h.elim) (fun _ _ _ h=>h)⟩
  ·cases hk;exact ⟨p,by rw [hl,←H.len];simp,ho⟩
 ·rcases Dv h1 with ⟨hl,h1⟩ | ⟨hl,h1⟩
  ·rcases Dv h2 with ⟨_,h2⟩ | ⟨Cs,_⟩
   ·obtain ⟨g1,g2,c,t,z,g3⟩:=H.cel k o' p' b h1 h2 h3;exact ⟨g1,g2,c,t,z,(zHU hE b (zAZ.1 g3).1).trans g3⟩
   ·rw [Cs,H.len] at hl;omega
  ·rcases Dv h2 with ⟨Cs,_⟩ | ⟨_,h2⟩
   ·rw [H.len,←hl] at Cs;omega
   ·subst h2;obtain ⟨g1,g2⟩:=hf b h3;exact ⟨zA0 (Γ.lo _ H.gi) g1,fun hn=>by have:=H.nlt b hn;omega,g2⟩
 ·have HB: ∀ {k:Nat} {o':DO} {p':AH},(h++[some o])[k]? =some (some o') -> (ρ++[p])[k]? =some p' -> p'.foot b -> k≠h.length -> b<w.heap.size:=by
   intro k o' p' h1 h2 h3 Ad;rcases Dv h1 with ⟨hl,h1⟩ | ⟨hl,h1⟩
   ·rcases Dv h2 with ⟨_,h2⟩ | ⟨Cs,_⟩
    ·exact H.lt (.inr ⟨k,o',p',h1,h2,h3⟩)
    ·rw [Cs,H.len] at hl;omega
   ·exact absurd hl Ad
  have lL: ∀ {k:Nat} {o':DO} {p':AH},(h++[some o])[k]? =some (some o') -> (ρ++[p])[k]? =some p' -> p'.foot b -> k=h.length -> w.heap.size<=b:=by
   intro k o' p' h1 h2 h3 he;rcases Dv h2 with ⟨Cs,_⟩ | ⟨_,h2⟩
   ·rw [H.len,←he] at Cs;omega
   ·subst h2;exact (hf b h3).1
  by_cases e1:k=h.length
  ·by_cases e2:k'=h.length
   ·exact Ad (e1.trans e2.symm)
   ·have:=lL h1 h3 h5 e1;have:=HB h2 h4 h6 e2;omega
  ·by_cases e2:k'=h.length
   ·have:=HB h1 h3 h5 e1;have:=lL h2 h4 h6 e2;omega
   ·rcases Dv h1 with ⟨_,h1⟩ | ⟨hl,_⟩
    ·rcases Dv h2 with ⟨_,h2⟩ | ⟨hl,_⟩
     ·rcases Dv h3 with ⟨_,h3⟩ | ⟨hl,_⟩
      ·rcases Dv h4 with ⟨_,h4⟩ | ⟨hl,_⟩
       ·exact H.dis k k' o1 o2 p1 p2 b Ad h1 h2 h3 h4 h5 h6
       ·rw [H.len] at hl;exact e2 hl
      ·rw [H.len] at hl;exact e1 hl
     ·exact e2 hl
    ·exact e1 hl
theorem BS.snoc (H:A1 P Γ N h ρ w){w':World}(hE:Aq w w'){o:DO}{p:AH}(hf: ∀ b,p.foot b -> w.heap.size<=b):BS (MS N h ρ) w ρ (MS N (h++[some o]) (ρ++[p])) w' (ρ++[p]):=by
 refine ⟨fun b hb _ _=>zHU hE b hb,fun b hb=>?_,fun k q hk=>Eh hk⟩;rcases hb with hb | hb
 ·exact .inl (.inl hb)
 ·rcases MO.snoc H hb with hb | hb
  ·exact .inl (.inr hb)
  ·exact .inr (hf b hb)
theorem A5.snoc (H:A1 P Γ N h ρ w){w':World}(hE:Aq w w'){o:DO}{p:AH}(hf: ∀ b,p.foot b -> w.heap.size<=b):A5 h ρ w (h++[some o]) (ρ++[p]) w':=
 ⟨AO.ofExt hE,fun b hb=>(MO.snoc H hb).imp id (hf b)⟩
theorem MO.set {k:Nat}{o o':DO}(hk:h[k]? =some (some o)){b:Nat}:MO (h.set k (some o')) ρ b↔MO h ρ b:=by
 have hl:=(zAf.1 hk).1;constructor
 ·rintro ⟨i,o1,p,h1,h2,h3⟩;rw [zCE] at h1
  by_cases e:k=i
  ·subst e;exact ⟨k,o,p,hk,h2,h3⟩
  ·rw [zAh e] at h1;exact ⟨i,o1,p,h1,h2,h3⟩
 ·rintro ⟨i,o1,p,h1,h2,h3⟩
  by_cases e:k=i
  ·subst e;exact ⟨k,o',p,by simp [hl],h2,h3⟩
  ·exact ⟨i,o1,p,by rw [zCE,zAh e];exact h1,h2,h3⟩
theorem MS.set {k:Nat}{o o':DO}(hk:h[k]? =some (some o)){b:Nat}:MS N (h.set k (some o')) ρ b↔MS N h ρ b:=by unfold MS;rw [MO.set hk]
theorem A1.write (H:A1 P Γ N h ρ w){w':World}{k:Nat}{o o':DO}{p:AH}(hk:h[k]? =some (some o))(hp:ρ[k]? =some p)(hu:AO p.foot w w') 
 (hc: ∀ b,p.foot b -> Dm w' b) (ho:EC P (MS N (h.set k (some o')) ρ) w' ρ p o'):A1 P Γ N (h.set k (some o')) ρ w':=by
 have hl:=(zAf.1 hk).1;have hM: ∀ b,p.foot b -> MS N h ρ b:=fun b hb=>.inr ⟨k,o,p,hk,hp,hb⟩
 have O:BS (MS N h ρ) w ρ (MS N (h.set k (some o')) ρ) w' ρ:=⟨fun b hb hm _=>hu.block b hb fun hx=>hm (hM b hx),fun b hb=>.inl ((MS.set hk).1 hb),fun _ _ h=>h⟩;have Gp: ∀ {i:Nat} {o1:DO},i≠k -> (h.set k (some o'))[i]? =some (some o1) -> h[i]? =some (some o1):=fun {i} {o1} Ad h1=>by rw [zCE,zAh (zG9 Ad)] at h1;exact h1
 refine ⟨by simp [H.len],fun i o1 hi=>?_,fun i o1 p1 b h1 h2 h3=>?_,fun i i' o1 o2 p1 p2 b Ad h1 h2 h3 h4 h5 h6=>?_,fun b hb=>⟨zAj (H.nlt b hb).1 hu.size,(H.nlt b hb).2⟩,Γ.st _ _ H.gi (hu.mono fun b _ hb=>(H.cel k o p b hk hp hb).1)⟩
 ·by_cases e:i=k
  ·subst e;have:o'=o1:=by simp [hl] at hi;exact hi
   subst this;exact ⟨p,hp,ho⟩
  ·obtain ⟨p1,Mi,hr⟩:=H.obj i o1 (Gp e hi);exact ⟨p1,Mi,hr.out O hu hM fun b _ h1 h2=>H.dis i k o1 o p1 p b e (Gp e hi) hk Mi hp h1 h2⟩
 ·by_cases e:i=k
  ·subst e;have:p=p1:=zAe (hp.symm.trans h2);subst this;obtain ⟨g1,g2,_⟩:=H.cel i o p b hk hp h3;exact ⟨g1,g2,hc b h3⟩
  ·obtain ⟨g1,g2,c,t,z,g3⟩:=H.cel i o1 p1 b (Gp e h1) h2 h3;refine ⟨g1,g2,c,t,z,(hu.block b (zAZ.1 g3).1 fun hx=>H.dis i k o1 o p1 p b e (Gp e h1) hk h2 hp h3 hx).trans g3⟩
 ·have HB: ∀ {i:Nat} {o1:DO},(h.set k (some o'))[i]? =some (some o1) -> ∃ o2,h[i]? =some (some o2):=fun {i} {o1} h1=>by
   by_cases e:i=k
   ·subst e;exact ⟨o,hk⟩
   ·exact ⟨o1,Gp e h1⟩
  obtain ⟨q1,g1⟩:=HB h1;obtain ⟨q2,g2⟩:=HB h2;exact H.dis i i' q1 q2 p1 p2 b Ad g1 g2 h3 h4 h5 h6
theorem BS.write (hN:True){w':World}{k:Nat}{o o':DO}{p:AH}(hk:h[k]? =some (some o))(hp:ρ[k]? =some p)(hu:AO p.foot w w'):BS (MS N h ρ) w ρ (MS N (h.set k (some o')) ρ) w' ρ:=
 ⟨fun b hb hm _=>hu.block b hb fun hx=>hm (.inr ⟨k,o,p,hk,hp,hx⟩),fun b hb=>.inl ((MS.set hk).1 hb),fun _ _ h=>h⟩
theorem A5.write {w':World}{k:Nat}{o o':DO}{p:AH}(hk:h[k]? =some (some o))(hp:ρ[k]? =some p)(hu:AO p.foot w w'):A5 h ρ w (h.set k (some o')) ρ w':=
 ⟨hu.mono fun b _ hb=>⟨k,o,p,hk,hp,hb⟩,fun b hb=>.inl ((MO.set hk).1 hb)⟩
end
abbrev zAv:=@Nat.not_lt_zero
abbrev zCQ:=@decide_eq_true_eq
abbrev zCR:=@Option.some.injEq
abbrev zCY:=@Go.run_underlying
abbrev zCg:=@Nat.add_assoc
abbrev zCp:=@Prod.mk.injEq
abbrev zCw:=@Bool.not_eq_true'
abbrev zC8:=@bne_iff_ne
abbrev zGH:=@Nat.mul_le_mul_right
abbrev zGW:=@Nat.mul_comm
abbrev zGY:=@Nat.add_mul
abbrev zGc:=@Nat.add_zero
abbrev zGr:=@Array.eq_empty_of_size_eq_zero
abbrev zHA:=@Nat.mod_eq_of_lt
abbrev zHB:=@Go.Sem.run_pure
abbrev zHK:=@Option.isSome_iff_exists
abbrev zHW:=@Nat.succ_mul
def Gk:Value -> DV
 | .int k n=>.int k n
 | .bool b=>.bool b
 | .string s=>.str s
 | .slice none 0 0=>.nils
 | v=>if v.oneCell' then .cst v else .any
def AW (fr:List DV):Operand -> DV
 | .tmp t=>fr.getD t .any
 | .const v=>Gk v
 | .global _=>.any
 | .func f=>.fn f 0 fun _=>.any
def IN (P:Program)(t:TypeId):Bool:=match P.underlying t with
 | some (.struct _)=>true
 | some (.array _ _)=>true
 | _=>false
def O8 (P:Program)(t:TypeId)(m:Nat):Bool:=match P.underlying t with
 | some (.slice e)=>match P.info? e with
  | some i=>i.size==m&&m != 0
  | none=>false
 | _=>false
def GQ (P:Program)(t:TypeId):Bool:=(P.underlying t).isSome&&!IN P t
def U9 (P:Program)(t:TypeId)(m:Nat):Bool:=IN P t&&(match P.info? t with | some i=>i.size==m | none=>false)
def YG (P:Program)(s:TypeId)(f:Nat):Option (Nat×Nat):=match P.underlying s with
 | some (.struct fs)=>match fs[f]? with
  | some fd=>match P.info? fd.type with
   | some i=>if i.size=0 then none else some (fd.offset,i.size)
   | none=>none
  | none=>none
 | _=>none
def U3 (P:Program)(t:TypeId):Option (Nat×Nat):=match P.underlying t with
 | some (.array n e)=>match P.info? e with
  | some i=>if n<=1 then none else some (n,i.size)
  | none=>none
 | _=>none
def be (P:Program)(t:TypeId):Option IntKind:=match P.underlying t with
 | some (.int k)=>some k
 | _=>none
def Yr (op:BinOp)(k:IntKind)(a b:Int):Option (DV×Prop):=match op with
 | .add=>some (.int k (k.wrap (a+b)),True)
 | .sub=>some (.int k (k.wrap (a-b)),True)
 | .mul=>some (.int k (k.wrap (a*b)),True)
 | .and=>some (.int k (bits .and k a b),True)
 | .or=>some (.int k (bits .or k a b),True)
 | .xor=>some (.int k (bits .xor k a b),True)
 | .andNot=>some (.int k (bits .andNot k a b),True)
 | .eql=>some (.bool (a==b),True)
 | .neq=>some (.bool (a != b),True)
 | .lss=>some (.bool (decide (a<b)),True)
 | .leq=>some (.bool (decide (a<=b)),True)
 | .gtr=>some (.bool (decide (a>b)),True)
 | .geq=>some (.bool (decide (a>=b)),True)
 | _=>none
def RH (P:Program)(t:TypeId):Nat:=match P.underlying t with
 | some .bool=>1
 | some (.slice _)=>2
 | _=>0
def Ys (bt:Nat)(op:BinOp)(x y:DV):Option (DV×Prop):=match op,x,y with
 | .eql,.bool a,.bool b=>if bt=1 then some (.bool (a==b),True) else none
 | .neq,.bool a,.bool b=>if bt=1 then some (.bool (!(a==b)),True) else none
 | .eql,.ints l,.nils=>if bt=2 then some (.bool false,0<l.length) else none
 | .eql,.bools l,.nils=>if bt=2 then some (.bool false,0<l.length) else none
 | .neq,.ints l,.nils=>if bt=2 then some (.bool true,0<l.length) else none
 | .shl,.int k a,.int _ b=>some (.int k (k.wrap (a*2 ^ b.toNat)),0<=b/\ b<=k.bits)
 | .shr,.int k a,.int _ b=>some (.int k (a/2 ^ b.toNat),0<=b/\ b<=k.bits)
 | .quo,.int k a,.int k' b=>if k=k' then some (.int k (k.wrap (a.tdiv b)),b≠0) else none
 | .rem,.int k a,.int k' b=>if k=k' then some (.int k (a.tmod b),b≠0) else none
 | op,.int k a,.int k' b=>if k=k' then Yr op k a b else none
 | _,_,_=>none
def OO (P:Program)(S:St)(t:TypeId):DV -> Option (DV×Prop)
 | .fp m f=>if GQ P t then (if m=0 then none else some (f 0,True)) else if U9 P t m then some (.agg m f,True) else none
 | .ref k j=>match S.h[k]? with
  | some (some (.cells l))=>if GQ P t then (if j<l.length then some (l.getD j .any,True) else none)
   else match P.info? t with
    | some i=>if IN P t&&decide (j+i.size<=l.length) then some (.agg i.size (Gc i.size fun c=>l.getD (j+c) .any),True) else none
    | none=>none
  | some (some (.ro l))=>if GQ P t then (if j<l.length then some (l.getD j .any,True) else none)
   else match P.info? t with
    | some i=>if IN P t&&decide (j+i.size<=l.length) then some (.agg i.size (Gc i.size fun c=>l.getD (j+c) .any),True) else none
    | none=>none
  | _=>none
 | .mp k m i j=>match S.h[k]? with
  | some (some (.ints l))=>if GQ P t&&(m==1)&&(j==0) then some (.int .i64 (l.getD i 0),i<l.length) else none
  | some (some (.bools l))=>if GQ P t&&(m==1)&&(j==0) then some (.bool (l.getD i false),i<l.length) else none
  | some (some (.arr m' n f))=>if GQ P t&&(m==m')&&decide (j<m) then some (f i j,i<n)
   else if U9 P t m&&(m==m')&&(j==0) then some (.agg m (f i),i<n) else none
  | some (some (.mo (.sets _ ls _)))=>if GQ P t&&(m==1)&&(j==0) then some (.mri k i,i<ls.length) else none
  | some (some (.mo (.rws ls none)))=>if GQ P t&&(m==1)&&(j==0) then some (.mri k (i+1),i<ls.length) else none
  | _=>none
 | _=>none
def br (P:Program)(t:TypeId)(x:DV)(n:Int):Option (DV×Prop):=match x with
 | .ints l=>if O8 P t 1 then some (.fp 1 (fun _=>.int .i64 (l.getD n.toNat 0)),0<=n/\ n<l.length) else none
 | .bools l=>if O8 P t 1 then some (.fp 1 (fun _=>.bool (l.getD n.toNat false)),0<=n/\ n<l.length) else none
 | .sl m c f=>if O8 P t m then some (.fp m (f n.toNat),0<=n/\ n<c) else none
 | .msl k m off c=>if O8 P t m then some (.mp k m (off+n.toNat) 0,0<=n/\ n<c) else none
 | .ref k j=>match U3 P t with
  | some (len,sz)=>some (.ref k (j+n.toNat*sz),0<=n/\ n<len)
  | none=>none
 | .mp k m i 0=>match U3 P t with
  | some (len,sz)=>if sz=m then some (.mp k m (i+n.toNat) 0,0<=n/\ n<len) else none
  | none=>none
 | .fp m f=>match U3 P t with
  | some (len,sz)=>if n.toNat*sz+sz<=m then some (.fp sz (Gc sz fun j=>f (n.toNat*sz+j)),0<=n/\ n<len) else none
  | none=>none
 | _=>none
def Wy (P:Program)(t:TypeId)(d:DV):Option (DV×Prop):=match P.underlying t,d with
 | some (.slice _),.nils=>some (.int .i64 0,True)
 | some (.slice _),.ints l=>some (.int .i64 l.length,True)
 | some (.slice _),.bools l=>some (.int .i64 l.length,True)
 | some (.slice _),.sl _ n _=>some (.int .i64 n,True)
 | some (.slice _),.msl _ _ _ n=>some (.int .i64 n,True)
 | some .string,.str s=>some (.int .i64 s.size,True)
 | _,_=>none
def bE (x y:DV):Option (DV×Prop):=match x,y with
 | .int k a,.int _ b=>some (.int k (if b>a then b else a),True)
 | _,_=>none
def bD (x y:DV):Option (DV×Prop):=match x,y with
 | .int k a,.int _ b=>some (.int k (if b<a then b else a),True)
 | _,_=>none
def Yq (P:Program)(S:St)(b:Builtin)(args:List Operand)(rP:List TypeId):Option (DV×Prop):=match b with
 | .len=>match args with
  | [x]=>match rP with
   | [t]=>Wy P t (AW S.fr x)
   | _=>none
  | _=>none
 | .max=>match args with
  | [x,y]=>bE (AW S.fr x) (AW S.fr y)
  | _=>none
 | .min=>match args with
  | [x,y]=>bD (AW S.fr x) (AW S.fr y)
  | _=>none
 | _=>none
def P5 (P:Program)(S:St):Op -> Option (DV×Prop)
 | .move x=>some (AW S.fr x,True)
 | .assign x=>some (AW S.fr x,True)
 | .pick c a b=>match AW S.fr c with
  | .bool true=>some (AW S.fr a,True)
  | .bool false=>some (AW S.fr b,True)
  | _=>none
 | .load t x=>OO P S t (AW S.fr x)
 | .binOp op t x y _=>Ys (RH P t) op (AW S.fr x) (AW S.fr y)
 | .unOp op _ x=>match op,AW S.fr x with
  | .not,.bool b=>some (.bool !b,True)
  | .neg,.int k n=>some (.int k (k.wrap (0-n)),True)
  | .xor,.int k n=>some (.int k (bits .xor k (if k.signed then-1 else k.max) n),True)
  | _,_=>none
 | .convert s d x=>match P.underlying s,be P d,AW S.fr x with
  | some _,some k,.int _ n=>some (.int k (k.wrap n),True)
  | _,_,_=>none
 | .nilCheck x=>match AW S.fr x with
  | .fp m f=>some (.fp m f,True)
  | .ref k j=>some (.ref k j,True)
  | .mp k m i j=>some (.mp k m i j,True)
  | .fn g m c=>some (.fn g m c,True)
  | _=>none
 | .fieldAddr s x f=>match YG P s f with
  | some (off,sz)=>match AW S.fr x with
   | .fp m g=>if off+sz<=m then some (.fp sz (Gc sz fun j=>g (off+j)),True) else none
   | .ref k j=>some (.ref k (j+off),True)
   | .mp k m i j=>some (.mp k m i (j+off),True)
   | _=>none
  | none=>none
 | .indexAddr t x i=>match AW S.fr i with
  | .int _ n=>br P t (AW S.fr x) n
  | _=>none
 | .extract x i=>match AW S.fr x with
  | .tup m f=>if i<m then some (f i,True) else none
  | _=>none
 | .makeFunc (.func g) first c=>if first.size=0 then some (.fn g c.size (Gc c.size fun j=>AW S.fr (c.getD j (.const undef))),True) else none
 | .call c=>match c.callee with
  | .builtin b=>Yq P S b c.args.toList c.argTypes.toList
  | _=>none
 | _=>none
section
variable {P:Program} {Γ:At} {N:Nat -> Prop} {S:St} {ρ:List AH} {a:Act} {w:World}
theorem Wk {M:Nat -> Prop}(v:Value):AK M w (Gk v) ρ v:=by
 unfold Gk;split
 ·rfl
 ·rfl
 ·rfl
 ·rfl
 ·split
  ·exact ⟨rfl,by assumption⟩
  ·trivial
theorem Bj (R:AR P Γ N S ρ a w)(x:Operand):AK (MS N S.h ρ) w (AW S.fr x) ρ (a.eval x):=by
 cases x with
 | tmp t=>exact R.fr.at t
 | const v=>exact Wk v
 | global g=>trivial
 | func f=>exact ⟨#[],rfl,rfl,fun j hj=>absurd hj (zAv j)⟩
theorem Sb {t:TypeId}{d:TypeDesc}(h:P.underlying t=some d):(isAgg t).run P w= .ok (IN P t) w:=by
 unfold isAgg IN;rw [zA6,zCY h];simp only [Result.andThen,h];cases d <;> rfl
theorem Je {t:TypeId}{i:TypeInfo}(h:P.info? t=some i):(sizeOf t).run P w= .ok i.size w:=by
 rw [run_sizeOf w h];unfold Program.cellsOf;rw [h];rfl
theorem vL {t:TypeId}{b:Addr}{u:Value}(h:GQ P t=true)(hc:w.cell? b=some u):(loadVar t b).run P w= .ok u w:=by
 unfold GQ at h;simp only [zAW,zHK,zCw] at h;obtain ⟨⟨d,hd⟩,hn⟩:=h;unfold loadVar;rw [zA6,Sb hd];simp only [Result.andThen,hn,zCe,zGQ];simp [load,Sem.run,hc]
theorem mN {t:TypeId}(h:IN P t=true): ∃ d,P.underlying t=some d:=by
 unfold IN at h;split at h
 ·exact ⟨_,by assumption⟩
 ·exact ⟨_,by assumption⟩
 ·cases h
theorem vM {t:TypeId}{b o:Nat}{i:TypeInfo}(h:IN P t=true)(hi:P.info? t=some i)(g:Nat -> Value)(hc: ∀ j,j<i.size -> w.cell? ⟨b,o+j,none⟩=some (g j)):
 (loadVar t ⟨b,o,none⟩).run P w= .ok (.agg ((List.range i.size).map g).toArray) w:=by
 obtain ⟨d,hd⟩:=mN h;unfold loadVar;rw [zA6,Sb hd];simp only [Result.andThen,h,zC9];rw [zA6,Je hi];simp only [Result.andThen]
 rw [zA6,run_loadCells w ⟨b,o,none⟩ i.size g (fun j hj=>by
  have:=hc j hj;unfold Addr.add
  by_cases e:j=0
  ·subst e;simpa using this
  ·simpa [e] using this)]
 simp [Result.andThen]
def Keep (N:Nat -> Prop)(w W:World):Prop:=∀ b o u,¬ N b -> w.cell? ⟨b,o,none⟩=some u -> W.cell? ⟨b,o,none⟩=some u
theorem Keep.ofExt {N:Nat -> Prop}{w W:World}(h:Aq w W):Keep N w W:=fun _ _ _ _ hc=>h.cell hc
def Yl (P:Program)(N:Nat -> Prop)(w:World)(M:Nat -> Prop)(ρ:List AH)(s:Sem Value)(d:DV):Prop:=∃ v,(∀ W,Keep N w W -> s.run P W= .ok v W)/\ AK M w d ρ v
theorem Pv {k:Nat}{o:DO}{p:AH}{n:Nat}{Rw:Nat -> Value -> Prop}(R:AR P Γ N S ρ a w)(hk:S.h[k]? =some (some o))(hp:ρ[k]? =some p)(hr:AY w p n Rw): ¬ N p.blk:=(R.hr.cel k o p p.blk hk hp (by rw [hr.1])).2.1
theorem X5 {M:Nat -> Prop}{m:Nat}{f:Nat -> DV}{v:Value}(h:AK M w (.fp m f) ρ v): ∃ b o,v= .pointer (some ⟨b,o,none⟩)/\ ∀ j,j<m -> ¬ M b/\ ∃ u,w.cell? ⟨b,o+j,none⟩=some u/\ AK M w (f j) [] u:=h
theorem Sr {M:Nat -> Prop}{d:DV}{v:Value}(h:AK M w d [] v):AK M w d ρ v:=h.out d ⟨fun _ _ _ _=>rfl,fun _ h=>.inl h,fun k p hk=>by simp at hk⟩
theorem Z3 {t:TypeId}{b:Addr}{W:World}:(Instr.loadAt t (.pointer (some b))).run P W=(loadVar t b).run P W:=rfl
theorem MY {M:Nat -> Prop}{t:TypeId}{b o:Nat}{u:Value}{d:DV}(hN: ¬ N b)(h1:GQ P t=true)(hc:w.cell? ⟨b,o,none⟩=some u)(hr:AK M w d ρ u):Yl P N w M ρ (Instr.loadAt t (.pointer (some ⟨b,o,none⟩))) d:=
 ⟨u,fun W hE=>by rw [Z3];exact vL h1 (hE _ _ _ hN hc),hr⟩
theorem Wv {M:Nat -> Prop}{t:TypeId}{i:TypeInfo}{b o:Nat}{f:Nat -> DV}(hN:0<i.size -> ¬ N b)(h1:IN P t=true)(hi:P.info? t=some i)(h: ∀ j,j<i.size -> ∃ u,w.cell? ⟨b,o+j,none⟩=some u/\ AK M w (f j) ρ u):
 Yl P N w M ρ (Instr.loadAt t (.pointer (some ⟨b,o,none⟩))) (.agg i.size f):=by
 obtain ⟨g,hg⟩: ∃ g:Nat -> Value,∀ j,j<i.size -> w.cell? ⟨b,o+j,none⟩=some (g j)/\ AK M w (f j) ρ (g j):=by
  refine ⟨fun j=>(w.cell? ⟨b,o+j,none⟩).getD undef,fun j hj=>?_⟩;obtain ⟨u,h1,h2⟩:=h j hj;simp [h1,h2]
 refine ⟨_,fun W hE=>by rw [Z3];exact vM h1 hi g fun j hj=>hE _ _ _ (hN (by omega)) (hg j hj).1,_,rfl,by simp,fun j hj=>?_⟩;exact ⟨g j,by simp [hj],(hg j hj).2⟩
theorem fL {t:TypeId}{m:Nat}(h:U9 P t m=true):IN P t=true/\ ∃ i,P.info? t=some i/\ i.size=m:=by
 unfold U9 at h;simp only [zAW] at h;refine ⟨h.1,?_⟩;have h2:=h.2;split at h2
 ·exact ⟨_,by assumption,by simpa using h2⟩
 ·cases h2
theorem ld (R:AR P Γ N S ρ a w){t:TypeId}{x d:DV}{vc:Prop}{v:Value}(hx:AK (MS N S.h ρ) w x ρ v)(h:OO P S t x=some (d,vc))(hv:vc):
 Yl P N w (MS N S.h ρ) ρ (Instr.loadAt t v) d:=by
 unfold OO at h;split at h
 ·rename_i m f;obtain ⟨b,o,rfl,hc⟩:=X5 hx;split at h
  ·rename_i h1;split at h
   ·cases h
   ·cases h;obtain ⟨hM,u,g1,g2⟩:=hc 0 (by omega);exact MY (fun h=>hM (.inl h)) h1 g1 (Sr g2)
  ·split at h
   ·rename_i h2;cases h;obtain ⟨h3,i,hi,rfl⟩:=fL h2;exact Wv (fun hp h=>(hc 0 hp).1 (.inl h)) h3 hi fun j hj=>let ⟨_,u,g1,g2⟩:=hc j hj;⟨u,g1,Sr g2⟩
   ·cases h
 ·rename_i k j;obtain ⟨p,hp,rfl⟩:=hx;split at h
  ·rename_i l hk;obtain ⟨p',BC,hr⟩:=R.hr.obj k _ hk;have e:p'=p:=zAe (BC.symm.trans hp);subst e;split at h
   ·rename_i h1;split at h
    ·rename_i hj;cases h;obtain ⟨u,g1,g2⟩:=AY.cell hr hj;exact MY (Pv R hk hp hr) h1 g1 g2
    ·cases h
   ·split at h
    ·rename_i i hi;split at h
     ·rename_i h2;cases h;simp only [zAW,zCQ] at h2;refine Wv (fun _=>Pv R hk hp hr) h2.1 hi fun c hc=>?_
      obtain ⟨u,g1,g2⟩:=AY.cell hr (j:=j+c) (by omega);exact ⟨u,by rw [zCg];exact g1,Kj hc g2⟩
     ·cases h
    ·cases h
  ·rename_i l hk;obtain ⟨p',BC,_,r2,hr⟩:=R.hr.obj k _ hk;have e:p'=p:=zAe (BC.symm.trans hp);subst e;split at h
   ·rename_i h1;split at h
    ·rename_i hj;cases h;obtain ⟨u,g1,g2⟩:=AY.cell hr hj;exact MY (fun h=>r2 (.inl h)) h1 g1 g2
    ·cases h
   ·split at h
    ·rename_i i hi;split at h
     ·rename_i h2;cases h;simp only [zAW,zCQ] at h2;refine Wv (fun _ h=>r2 (.inl h)) h2.1 hi fun c hc=>?_
      obtain ⟨u,g1,g2⟩:=AY.cell hr (j:=j+c) (by omega);exact ⟨u,by rw [zCg];exact g1,Kj hc g2⟩
     ·cases h
    ·cases h
  ·cases h
 ·rename_i k m i j;obtain ⟨p,hp,rfl⟩:=hx;split at h
  ·rename_i l hk;obtain ⟨p',BC,hr⟩:=R.hr.obj k _ hk;have e:p'=p:=zAe (BC.symm.trans hp);subst e;split at h
   ·rename_i h1;cases h;simp only [zAW,zBA] at h1;obtain ⟨⟨h1,rfl⟩,rfl⟩:=h1;obtain ⟨u,g1,g2⟩:=AY.cell hr hv;exact MY (Pv R hk hp hr) h1 (by simpa using g1) g2
   ·cases h
  ·rename_i l hk;obtain ⟨p',BC,hr⟩:=R.hr.obj k _ hk;have e:p'=p:=zAe (BC.symm.trans hp);subst e;split at h
   ·rename_i h1;cases h;simp only [zAW,zBA] at h1;obtain ⟨⟨h1,rfl⟩,rfl⟩:=h1;obtain ⟨u,g1,g2⟩:=AY.cell hr hv;exact MY (Pv R hk hp hr) h1 (by simpa using g1) g2
   ·cases h
  ·rename_i m' n f hk;obtain ⟨p',BC,hr⟩:=R.hr.obj k _ hk;have e:p'=p:=zAe (BC.symm.trans hp);subst e
   have bp: ∀ {i j:Nat},i<n -> j<m' -> i*m'+j<n*m':=fun {i j} hi hj=>by
    have:(i+1)*m'<=n*m':=zGH _ hi;rw [zHW] at this;omega
   have dv: ∀ {i j:Nat},j<m' -> (i*m'+j)/m'=i/\ (i*m'+j) % m'=j:=fun {i j} hj=>by
    have hm:0<m':=by omega
    constructor
    ·rw [zGW,Nat.mul_add_div hm,Nat.div_eq_of_lt hj,zGc]
    ·rw [zGW,Nat.mul_add_mod,zHA hj]
   split at h
   ·rename_i h1;cases h;simp only [zAW,zBA,zCQ] at h1;obtain ⟨⟨h1,rfl⟩,hj⟩:=h1;obtain ⟨u,g1,g2⟩:=AY.cell hr (bp hv hj);rw [(dv hj).1,(dv hj).2] at g2;exact MY (Pv R hk hp hr) h1 g1 (Sr g2)
   ·split at h
    ·rename_i h2;cases h;simp only [zAW,zBA] at h2;obtain ⟨⟨h2,rfl⟩,rfl⟩:=h2;obtain ⟨h3,ti,hi,rfl⟩:=fL h2;refine Wv (fun _=>Pv R hk hp hr) h3 hi fun c hc=>?_
     obtain ⟨u,g1,g2⟩:=AY.cell hr (bp hv hc);rw [(dv hc).1,(dv hc).2] at g2;exact ⟨u,by simpa [zCg] using g1,Sr g2⟩
    ·cases h
  ·rename_i n ls lk hk;obtain ⟨p',BC,vs,hS⟩:=R.hr.obj k _ hk;have e:p'=p:=zAe (BC.symm.trans hp);subst e;split at h
   ·rename_i h1;cases h;simp only [zAW,zBA] at h1;obtain ⟨⟨h1,rfl⟩,rfl⟩:=h1;obtain ⟨cs,tt,q1,q2,q3,q4⟩:=hS.row;have hi:i<vs.size:=by rw [hS.size];exact hv
    have q5:=q4 i hv;rw [zCF hi] at q5;refine MY (u:=vs[i]) (R.hr.cel k _ p' p'.blk hk hp hS.blk).2.1 h1 ?_ ⟨p',vs,hp,hS.val,zCF hi⟩;unfold World.cell?;simp [q1,q5]
   ·cases h
  ·rename_i ls hk;obtain ⟨p',BC,vs,hS⟩:=R.hr.obj k _ hk;have e:p'=p:=zAe (BC.symm.trans hp);subst e;split at h
   ·rename_i h1;cases h;simp only [zAW,zBA] at h1;obtain ⟨⟨h1,rfl⟩,rfl⟩:=h1;obtain ⟨cs,tt,q1,q2,q3,q4⟩:=hS.row;have hi:i+1<vs.size:=by rw [hS.size];omega
    have q5:=q4 i hv;rw [zCF hi] at q5;refine MY (u:=vs[i+1]) (R.hr.cel k _ p' p'.blk hk hp hS.blk).2.1 h1 ?_ ⟨p',vs,hp,hS.val,zCF hi⟩;unfold World.cell?;simp [q1,q5]
   ·cases h
  ·cases h
 ·cases h
theorem Yl.pure {M:Nat -> Prop}{s:Sem Value}{d:DV}{v:Value}(h: ∀ W,s.run P W= .ok v W)(hr:AK M w d ρ v):Yl P N w M ρ s d:=⟨v,fun W _=>h W,hr⟩
theorem pF {t:TypeId}{m:Nat}(h:O8 P t m=true):P.underlying t=some (.slice (P.elem t))/\ (∃ i,P.info? (P.elem t)=some i/\ i.size=m)/\ m≠0:=by
 unfold O8 at h;split at h
 ·rename_i e he;have:P.elem t=e:=by unfold Program.elem;rw [he]
  rw [this];refine ⟨he,?_⟩;split at h
  ·simp only [zAW,zBA,zC8] at h;exact ⟨⟨_,by assumption,h.1⟩,h.2⟩
  ·cases h
 ·cases h
theorem eX {t:TypeId}{n m:Nat}(h:U3 P t=some (n,m)):P.underlying t=some (.array (P.arrayLen t) (P.elem t))/\ P.arrayLen t=n/\ ∃ i,P.info? (P.elem t)=some i/\ i.size=m:=by
 unfold U3 at h;split at h
 ·rename_i n' e he;have h1:P.elem t=e:=by unfold Program.elem;rw [he]
  have h2:P.arrayLen t=n':=by unfold Program.arrayLen;rw [he]
  rw [h1,h2];split at h
  ·split at h
   ·cases h
   ·cases h;exact ⟨he,rfl,_,by assumption,rfl⟩
  ·cases h
 ·cases h
theorem JP (b o n:Nat):Addr.add ⟨b,o,none⟩ n=⟨b,o+n,none⟩:=by
 unfold Addr.add
 by_cases h:n=0
 ·subst h;rfl
 ·simp [h]
theorem V0 {t:TypeId}{m b o len cap:Nat}{k:IntKind}{n:Int}(h:O8 P t m=true)(h1:0<=n)(h2:n<len)(W:World):
 (Instr.indexAt t (.slice (some ⟨b,o,none⟩) len cap) (.int k n)).run P W= .ok (.pointer (some ⟨b,o+n.toNat*m,none⟩)) W:=by
 obtain ⟨hu,⟨i,hi,rfl⟩,_⟩:=pF h;rw [run_indexAt_slice W t _ len cap k n hu,zAM ⟨h1,h2⟩,Je hi];simp only [Result.andThen,JP]
theorem zAQ (R:AR P Γ N S ρ a w){t:TypeId}{x d:DV}{vc:Prop}{v:Value}{k:IntKind}{n:Int}(hx:AK (MS N S.h ρ) w x ρ v)(h:br P t x n=some (d,vc))(hv:vc):
 Yl P N w (MS N S.h ρ) ρ (Instr.indexAt t v (.int k n)) d:=by
 unfold br at h;split at h
 ·rename_i l;obtain ⟨ad,cap,rfl,h1,h2,h3⟩:=hx;split at h
  ·rename_i he;cases h;obtain ⟨b,o,rfl,hM,hc⟩:=h3 n.toNat (by omega);refine Yl.pure (fun W=>V0 he hv.1 hv.2 W) ⟨b,o+n.toNat*1,rfl,fun j hj=>⟨hM,_,?_,rfl⟩⟩;have:j=0:=by omega
   subst this;simpa using hc
  ·cases h
 ·rename_i l;obtain ⟨ad,cap,rfl,h1,h2,h3⟩:=hx;split at h
  ·rename_i he;cases h;obtain ⟨b,o,rfl,hM,hc⟩:=h3 n.toNat (by omega);refine Yl.pure (fun W=>V0 he hv.1 hv.2 W) ⟨b,o+n.toNat*1,rfl,fun j hj=>⟨hM,_,?_,rfl⟩⟩;have:j=0:=by omega
   subst this;simpa using hc
  ·cases h
 ·rename_i m c f;obtain ⟨ad,cap,rfl,h1,h2,h3⟩:=hx;split at h
  ·rename_i he;cases h;have hm:=(pF he).2;obtain ⟨b,o,u,rfl,hM,hc,hr⟩:=h3 n.toNat 0 (by omega) (by omega);refine Yl.pure (fun W=>V0 he hv.1 hv.2 W) ⟨b,o+n.toNat*m,rfl,fun j hj=>?_⟩;obtain ⟨b',o',u',e,hM',DE,Cr⟩:=h3 n.toNat j (by omega) hj;cases e;exact ⟨hM',u',by rw [zCg];exact DE,Cr⟩
  ·cases h
 ·rename_i k' m off c;obtain ⟨p,cap,hp,rfl,h1,h2,h3⟩:=hx;split at h
  ·rename_i he;cases h;exact Yl.pure (fun W=>V0 he hv.1 hv.2 W) ⟨p,hp,by rw [zCg,←zGY];rfl⟩
  ·cases h
 ·rename_i k' j;obtain ⟨p,hp,rfl⟩:=hx;split at h
  ·rename_i len sz ha;cases h;obtain ⟨hu,hl,i,hi,rfl⟩:=eX ha;refine Yl.pure (fun W=>?_) ⟨p,hp,rfl⟩;rw [run_indexAt_array W t _ k n hu,zAM ⟨hv.1,by rw [hl];exact hv.2⟩,Je hi];simp only [Result.andThen,JP,zCg]
  ·cases h
 ·rename_i k' m i0;obtain ⟨p,hp,rfl⟩:=hx;split at h
  ·rename_i len sz ha;split at h
   ·rename_i Ay;subst Ay;cases h;obtain ⟨hu,hl,i,hi,rfl⟩:=eX ha;refine Yl.pure (fun W=>?_) ⟨p,hp,rfl⟩;rw [run_indexAt_array W t _ k n hu,zAM ⟨hv.1,by rw [hl];exact hv.2⟩,Je hi];simp only [Result.andThen,JP,zCg,zGY,zA8,zGc]
   ·cases h
  ·cases h
 ·rename_i m f;obtain ⟨b,o,rfl,hc⟩:=X5 hx;split at h
  ·rename_i len sz ha;split at h
   ·rename_i Ay;cases h;obtain ⟨hu,hl,i,hi,rfl⟩:=eX ha;refine Yl.pure (fun W=>?_) ⟨b,o+n.toNat*i.size,rfl,fun j hj=>?_⟩
    ·rw [run_indexAt_array W t _ k n hu,zAM ⟨hv.1,by rw [hl];exact hv.2⟩,Je hi];simp only [Result.andThen,JP]
    ·obtain ⟨hM,u,h1,h2⟩:=hc (n.toNat*i.size+j) (by omega);exact ⟨hM,u,by rw [zCg];exact h1,Kj hj h2⟩
   ·cases h
  ·cases h
 ·cases h
theorem vR {op:BinOp}{k:IntKind}{x y:Int}{d:DV}{vc:Prop}(t:TypeId)(h:Yr op k x y=some (d,vc))(M:Nat -> Prop):Yl P N w M ρ (binOp op t (.int k x) (.int k y)) d:=by
 cases op <;> simp only [Yr,zCR,zCp,reduceCtorEq] at h <;> obtain ⟨rfl,-⟩:=h
 ·exact Yl.pure (fun W=>by rw [binOp_add];rfl) rfl
 ·exact Yl.pure (fun W=>by rw [binOp_sub];rfl) rfl
 ·exact Yl.pure (fun W=>by rw [binOp_mul];rfl) rfl
 ·exact Yl.pure (fun W=>by rw [binOp_and];rfl) rfl
 ·exact Yl.pure (fun W=>by rw [binOp_or];rfl) rfl
 ·exact Yl.pure (fun W=>by rw [binOp_xor];rfl) rfl
 ·exact Yl.pure (fun W=>by rw [binOp_andNot];rfl) rfl
 ·exact Yl.pure (fun W=>by rw [binOp_eql];rfl) rfl
 ·exact Yl.pure (fun W=>by rw [binOp_neq];rfl) rfl
 ·exact Yl.pure (fun W=>by rw [binOp_lss];rfl) rfl
 ·exact Yl.pure (fun W=>by rw [binOp_leq];rfl) rfl
 ·exact Yl.pure (fun W=>by rw [binOp_gtr];rfl) rfl
 ·exact Yl.pure (fun W=>by rw [binOp_geq];rfl) rfl
theorem zD3 {op:BinOp}{t:TypeId}{x y:Operand}{k:IntKind}{n:Int}{v:Value}:eqGuard op t x y (.int k n) v=pure ():=by
 cases op <;> rfl
theorem zFV {M:Nat -> Prop}{op:BinOp}{t:TypeId}{x y:DV}{vx vy:Value}{d:DV}{vc:Prop}(ox oy:Operand)(hx:AK M w x ρ vx)(hy:AK M w y ρ vy)(h:Ys (RH P t) op x y=some (d,vc))(hv:vc):
 Yl P N w M ρ (do eqGuard op t ox oy vx vy;binOp op t vx vy) d:=by
 have key: ∀ {k k':IntKind} {n n':Int},vx= .int k n -> vy= .int k' n' -> Yl P N w M ρ (binOp op t (.int k n) (.int k' n')) d -> Yl P N w M ρ (do eqGuard op t ox oy vx vy;binOp op t vx vy) d:=by
  intro k k' n n' e1 e2 hY;subst e1;subst e2;rw [zD3];exact hY
 have hb:RH P t=1 -> P.underlying t=some .bool:=fun h=>by
  unfold RH at h;split at h
  ·assumption
  ·cases h
  ·cases h
 have cF:RH P t=2 -> ∃ e,P.underlying t=some (.slice e):=fun h=>by
  unfold RH at h;split at h
  ·cases h
  ·exact ⟨_,by assumption⟩
  ·cases h
 have ov: ∀ {e:TypeId} {a:Addr} {l c:Nat} (W:World),P.underlying t=some (.slice e) -> (do eqGuard .eql t ox oy (.slice (some a) l c) (.slice none 0 0);binOp .eql t (.slice (some a) l c) (.slice none 0 0):Sem Value).run P W= .ok (.bool false) W:=by
  intro e a l c W hu;have h1:eqGuard .eql t ox oy (.slice (some a) l c) (.slice none 0 0)=pure ():=rfl;rw [h1]
  show (binOp .eql t (.slice (some a) l c) (.slice none 0 0)).run P W=_
  simp only [binOp];simp [run_equal_slice_nil W t e (some a) l c hu]
 have xz: ∀ {e:TypeId} {a:Addr} {l c:Nat} (W:World),P.underlying t=some (.slice e) -> (do eqGuard .neq t ox oy (.slice (some a) l c) (.slice none 0 0);binOp .neq t (.slice (some a) l c) (.slice none 0 0):Sem Value).run P W= .ok (.bool true) W:=by
  intro e a l c W hu;have h1:eqGuard .neq t ox oy (.slice (some a) l c) (.slice none 0 0)=pure ():=rfl;rw [h1]
  show (binOp .neq t (.slice (some a) l c) (.slice none 0 0)).run P W=_
  simp only [binOp];simp [run_equal_slice_nil W t e (some a) l c hu]
 unfold Ys at h;split at h
 ·split at h
  ·rename_i e;cases h;have e1:vx= .bool _:=hx;have e2:vy= .bool _:=hy;subst e1;subst e2;exact Yl.pure (fun W=>run_eql_bool W t _ _ (hb e)) rfl
  ·cases h
 ·split at h
  ·rename_i e;cases h;have e1:vx= .bool _:=hx;have e2:vy= .bool _:=hy;subst e1;subst e2;exact Yl.pure (fun W=>run_neq_bool W t _ _ (hb e)) rfl
  ·cases h
 ·split at h
  ·rename_i e;cases h;obtain ⟨e0,he⟩:=cF e;obtain ⟨ad,cap,rfl,h1,h2,h3⟩:=hx;obtain ⟨b,o,rfl,_⟩:=h3 0 hv;have e2:vy= .slice none 0 0:=hy;subst e2;exact Yl.pure (fun W=>ov W he) rfl
  ·cases h
 ·split at h
  ·rename_i e;cases h;obtain ⟨e0,he⟩:=cF e;obtain ⟨ad,cap,rfl,h1,h2,h3⟩:=hx;obtain ⟨b,o,rfl,_⟩:=h3 0 hv;have e2:vy= .slice none 0 0:=hy;subst e2;exact Yl.pure (fun W=>ov W he) rfl
  ·cases h
 ·split at h
  ·rename_i e;cases h;obtain ⟨e0,he⟩:=cF e;obtain ⟨ad,cap,rfl,h1,h2,h3⟩:=hx;obtain ⟨b,o,rfl,_⟩:=h3 0 hv;have e2:vy= .slice none 0 0:=hy;subst e2;exact Yl.pure (fun W=>xz W he) rfl
  ·cases h
 ·cases h;refine key hx hy ?_;exact Yl.pure (fun W=>by rw [binOp_shl,shift_shl _ _ _ _ hv.1 hv.2];rfl) rfl
 ·cases h;refine key hx hy ?_;exact Yl.pure (fun W=>by rw [binOp_shr,shift_shr _ _ _ _ hv.1 hv.2];rfl) rfl
 ·split at h
  ·rename_i e;subst e;cases h;exact key hx hy (Yl.pure (fun W=>by rw [binOp_quo,Op.intDiv,zAh hv];rfl) rfl)
  ·cases h
 ·split at h
  ·rename_i e;subst e;cases h;exact key hx hy (Yl.pure (fun W=>by rw [binOp_rem,Op.intDiv,zAh hv];rfl) rfl)
  ·cases h
 ·split at h
  ·rename_i e;subst e;exact key hx hy (vR t h M)
  ·cases h
 ·cases h
theorem HQ {ρ':Operand -> Value}{o:Oper}{s:Sem Value}{M:Nat -> Prop}{d:DV}(he:execOp ρ' o=(do pure (.value (←s))))(h:Yl P N w M ρ s d): ∃ v,(∀ W,Keep N w W -> (execOp ρ' o).run P W= .ok (.value v) W)/\ AK M w d ρ v:=by
 obtain ⟨v,h1,h2⟩:=h;refine ⟨v,fun W hE=>?_,h2⟩;rw [he,zA6,h1 W hE];rfl
theorem zDq {s:TypeId}{f off sz:Nat}(h:YG P s f=some (off,sz)): ∃ fs fd i,P.underlying s=some (.struct fs)/\ fs[f]? =some fd/\ fd.offset=off/\ P.info? fd.type=some i/\ i.size=sz/\ sz≠0:=by
 unfold YG at h;split at h
 ·rename_i fs hs;split at h
  ·rename_i fd hf;split at h
   ·rename_i i hi;split at h
    ·cases h
    ·cases h;exact ⟨fs,fd,i,hs,hf,rfl,hi,rfl,by assumption⟩
   ·cases h
  ·cases h
 ·cases h
theorem Z4 {s:TypeId}{f off sz b o:Nat}(h:YG P s f=some (off,sz))(W:World):(Instr.fieldAt s (.pointer (some ⟨b,o,none⟩)) f).run P W= .ok (.pointer (some ⟨b,o+off,none⟩)) W:=by
 obtain ⟨fs,fd,i,h1,h2,rfl,h4,rfl,h6⟩:=zDq h;unfold Instr.fieldAt;rw [zA6,zCY h1];simp only [Result.andThen,h2,Instr.sureAddr];simp only [zA6,zHB,Result.andThen,fieldPlace,Je h4,zAh h6,JP]
theorem zr {t:TypeId}{k:IntKind}(h:be P t=some k):P.underlying t=some (.int k):=by
 unfold be at h;split at h
 ·cases h;assumption
 ·cases h
theorem Sa {t ty:TypeId}{e:TypeId}{ad:Option Addr}{n c:Nat}(h:P.underlying t=some (.slice e))(W:World):(Builtin.len_ #[t] ty #[.slice ad n c]).run P W= .ok (.int .i64 n) W:=by
 simp [Builtin.len_,zCY h,goInt]
theorem vN {t ty:TypeId}{s:ByteArray}(h:P.underlying t=some .string)(W:World):(Builtin.len_ #[t] ty #[.string s]).run P W= .ok (.int .i64 s.size) W:=by
 simp [Builtin.len_,zCY h,goInt]
theorem dh {M:Nat -> Prop}{ρ':Operand -> Value}{o:Oper}{c:Call}{b:Builtin}{d:DV}{s:Sem Value}(ho:o.op= .call c)(hc:c.callee= .builtin b) 
 (hb:builtin b c.argTypes o.type (c.args.map fun | .const _=>true | _=>false) (c.args.map ρ')=(do pure (.value (←s)))) (h:Yl P N w M ρ s d):
 ∃ v,(∀ W,Keep N w W -> (execOp ρ' o).run P W= .ok (.value v) W)/\ AK M w d ρ v:=by
 refine HQ (s:=s) ?_ h;rw [←hb];unfold execOp;rw [ho]
 show (resolve ρ' c o.type>>=fun d=>invoke d.target d.args)=_
 unfold resolve;rw [hc];rfl
theorem yp {M:Nat -> Prop}{t ty:TypeId}{x d:DV}{vc:Prop}{v:Value}(hx:AK M w x ρ v)(h:Wy P t x=some (d,vc)):Yl P N w M ρ (Builtin.len_ #[t] ty #[v]) d:=by
 unfold Wy at h;split at h
 ·rename_i e' hu;cases h;rw [show v=_ from hx];exact Yl.pure (fun W=>Sa hu W) rfl
 ·rename_i e' l hu;cases h;obtain ⟨ad,cap,rfl,_⟩:=hx;exact Yl.pure (fun W=>Sa hu W) rfl
 ·rename_i e' l hu;cases h;obtain ⟨ad,cap,rfl,_⟩:=hx;exact Yl.pure (fun W=>Sa hu W) rfl
 ·rename_i e' m n f hu;cases h;obtain ⟨ad,cap,rfl,_⟩:=hx;exact Yl.pure (fun W=>Sa hu W) rfl
 ·rename_i e' k m off n hu;cases h;obtain ⟨p,cap,_,rfl,_⟩:=hx;exact Yl.pure (fun W=>Sa hu W) rfl
 ·rename_i s hu;cases h;rw [show v=_ from hx];exact Yl.pure (fun W=>vN hu W) rfl
 ·cases h
theorem gD {α:Type}{l:Array α}{x:α}(h:l.toList= [x]):l= #[x]:=by cases l;simp at h;rw [h]
theorem VU {α:Type}{l:Array α}{x y:α}(h:l.toList= [x,y]):l= #[x,y]:=by cases l;simp at h;rw [h]
theorem zFN (R:AR P Γ N S ρ a w)(o:Oper){c:Call}{b:Builtin}{d:DV}{vc:Prop}(ho:o.op= .call c)(hc:c.callee= .builtin b)(h:Yq P S b c.args.toList c.argTypes.toList=some (d,vc)):
 ∃ v,(∀ W,Keep N w W -> (execOp a.eval o).run P W= .ok (.value v) W)/\ AK (MS N S.h ρ) w d ρ v:=by
 have rep:=fun x=>Bj R x
 unfold Yq at h;split at h
 ·split at h
  ·rename_i x ha;split at h
   ·rename_i t ht;exact dh (s:=Builtin.len_ #[t] o.type #[a.eval x]) ho hc (by rw [gD ha,gD ht];simp [builtin]) (yp (rep x) h)
   ·cases h
  ·cases h
 ·split at h
  ·rename_i x y ha;have hx:=rep x;have hy:=rep y;unfold bE at h;split at h
   ·rename_i k n k' n' e1 e2;cases h;rw [e1] at hx;rw [e2] at hy;refine dh (s:=Builtin.max_ c.argTypes o.type #[a.eval x,a.eval y]) ho hc (by rw [VU ha];simp [builtin]) ?_;rw [show a.eval x=_ from hx,show a.eval y=_ from hy];exact Yl.pure (fun W=>by simp [Builtin.max_,Builtin.max2]) rfl
   ·cases h
  ·cases h
 ·split at h
  ·rename_i x y ha;have hx:=rep x;have hy:=rep y;unfold bD at h;split at h
   ·rename_i k n k' n' e1 e2;cases h;rw [e1] at hx;rw [e2] at hy;refine dh (s:=Builtin.min_ c.argTypes o.type #[a.eval x,a.eval y]) ho hc (by rw [VU ha];simp [builtin]) ?_;rw [show a.eval x=_ from hx,show a.eval y=_ from hy];exact Yl.pure (fun W=>by simp [Builtin.min_,Builtin.min2]) rfl
   ·cases h
  ·cases h
 ·cases h
theorem kN (R:AR P Γ N S ρ a w)(o:Oper){d:DV}{vc:Prop}(h:P5 P S o.op=some (d,vc))(hv:vc):
 ∃ v,(∀ W,Keep N w W -> (execOp a.eval o).run P W= .ok (.value v) W)/\ AK (MS N S.h ρ) w d ρ v:=by
 have rep:=fun x=>Bj R x
 unfold P5 at h;split at h
 ·rename_i x ho;cases h;exact ⟨a.eval x,fun W _=>by unfold execOp;rw [ho];rfl,rep x⟩
 ·rename_i x ho;cases h;exact ⟨a.eval x,fun W _=>by unfold execOp;rw [ho];rfl,rep x⟩
 ·rename_i c x y ho;have hc:=rep c;split at h
  ·rename_i e;cases h;rw [e] at hc;exact ⟨a.eval x,fun W _=>by unfold execOp;rw [ho];simp only [show a.eval c= .bool true from hc];rfl,rep x⟩
  ·rename_i e;cases h;rw [e] at hc;exact ⟨a.eval y,fun W _=>by unfold execOp;rw [ho];simp only [show a.eval c= .bool false from hc];rfl,rep y⟩
  ·cases h
 ·rename_i t x ho;exact HQ (by unfold execOp;rw [ho]) (ld R (rep x) h hv)
 ·rename_i op t x y t' ho;exact HQ (by unfold execOp;rw [ho]) (zFV x y (rep x) (rep y) h hv)
 ·rename_i op t x ho;have hx:=rep x;refine HQ (s:=Op.unary op (a.eval x)) (by unfold execOp;rw [ho]) ?_;split at h
  ·rename_i b e;cases h;rw [e] at hx;rw [show a.eval x= .bool b from hx];exact Yl.pure (fun W=>rfl) rfl
  ·rename_i k n e;cases h;rw [e] at hx;rw [show a.eval x= .int k n from hx];exact Yl.pure (fun W=>rfl) rfl
  ·rename_i k n e;cases h;rw [e] at hx;rw [show a.eval x= .int k n from hx];exact Yl.pure (fun W=>rfl) rfl
  ·cases h
 ·rename_i ts td x ho;have hx:=rep x;split at h
  ·rename_i dd k k' n hs hd e;cases h;rw [e] at hx;refine HQ (s:=convert ts td (a.eval x)) (by unfold execOp;rw [ho]) ?_;rw [show a.eval x= .int k' n from hx];refine Yl.pure (v:=.int k (k.wrap n)) (fun W=>?_) rfl;simp [convert,zCY hs,zCY (zr hd),Conv.intToInt]
  ·cases h
 ·rename_i x ho;have hx:=rep x;split at h
  ·rename_i m f e;cases h;rw [e] at hx;obtain ⟨b,oo,hb,hr⟩:=X5 hx;exact ⟨_,fun W _=>by unfold execOp;rw [ho];simp only [hb];rfl,b,oo,rfl,hr⟩
  ·rename_i k j e;cases h;rw [e] at hx;obtain ⟨p,hp,hb⟩:=hx;exact ⟨_,fun W _=>by unfold execOp;rw [ho];simp only [hb];rfl,p,hp,rfl⟩
  ·rename_i k m i j e;cases h;rw [e] at hx;obtain ⟨p,hp,hb⟩:=hx;exact ⟨_,fun W _=>by unfold execOp;rw [ho];simp only [hb];rfl,p,hp,rfl⟩
  ·rename_i g m c e;cases h;rw [e] at hx;obtain ⟨lb,hb,hr⟩:=hx;exact ⟨_,fun W _=>by unfold execOp;rw [ho];simp only [hb];rfl,lb,rfl,hr⟩
  ·cases h
 ·rename_i st x f ho;have hx:=rep x;split at h
  ·rename_i off sz hf;refine HQ (s:=Instr.fieldAt st (a.eval x) f) (by unfold execOp;rw [ho]) ?_;split at h
   ·rename_i m g e;split at h
    ·cases h;rw [e] at hx;obtain ⟨b,oo,hb,hr⟩:=X5 hx;rw [hb];refine Yl.pure (fun W=>Z4 hf W) ⟨b,_,rfl,fun j hj=>?_⟩;obtain ⟨g1,u,g2,g3⟩:=hr (off+j) (by omega);exact ⟨g1,u,by rw [zCg];exact g2,Kj hj g3⟩
    ·cases h
   ·rename_i k j e;cases h;rw [e] at hx;obtain ⟨p,hp,hb⟩:=hx;rw [hb];exact Yl.pure (fun W=>Z4 hf W) ⟨p,hp,by rw [zCg]⟩
   ·rename_i k m i j e;cases h;rw [e] at hx;obtain ⟨p,hp,hb⟩:=hx;rw [hb];exact Yl.pure (fun W=>Z4 hf W) ⟨p,hp,by rw [zCg,zCg]⟩
   ·cases h
  ·cases h
 ·rename_i t x i ho;have hi:=rep i;split at h
  ·rename_i k n e;rw [e] at hi;refine HQ (s:=Instr.indexAt t (a.eval x) (a.eval i)) (by unfold execOp;rw [ho]) ?_;rw [show a.eval i= .int k n from hi];exact zAQ R (rep x) h hv
  ·cases h
 ·rename_i x i ho;have hx:=rep x;split at h
  ·rename_i m f e;split at h
   ·rename_i hi;cases h;rw [e] at hx;obtain ⟨cs,hb,hs,hr⟩:=hx;obtain ⟨u,g1,g2⟩:=hr i hi;refine HQ (s:=Instr.extract (a.eval x) i) (by unfold execOp;rw [ho]) ?_;rw [hb];exact Yl.pure (fun W=>by simp [Instr.extract,g1]) g2
   ·cases h
  ·cases h
 ·rename_i g first c ho
  split at h
  ·rename_i hf;cases h;refine ⟨.func (.func g) #[] (c.map a.eval),fun W _=>?_,c.map a.eval,rfl,by simp,fun j hj=>?_⟩
   ·unfold execOp;rw [ho];have:first= #[]:=zGr hf
    subst this;simp [Instr.makeFunc]
   ·refine ⟨a.eval (c.getD j (.const undef)),by simp [hj],Kj hj (rep _)⟩
  ·cases h
 ·rename_i c ho;split at h
  ·rename_i b hc;exact zFN R o ho hc h
  ·cases h
 ·cases h
end
abbrev zAS:=@Option.bind_some
abbrev zAa:=@List.getElem?_eq_getElem
abbrev zAw:=@List.length_replicate
abbrev zA7:=@List.length_append
abbrev zBC:=@List.length_map
abbrev zCG:=@List.getElem?_map
abbrev zCO:=@Option.map_some
abbrev zCU:=@List.length_cons
abbrev zCn:=@Int.le_refl
abbrev zCz:=@Nat.mul_one
abbrev zDD:=@List.getElem_of_mem
abbrev zDI:=@List.eq_nil_of_length_eq_zero
abbrev zGK:=@Option.getD_some
abbrev zGf:=@Go.heap_alloc_new
abbrev zGh:=@Nat.div_lt_iff_lt_mul
abbrev zGl:=@List.size_toArray
abbrev zHI:=@List.getElem?_range
abbrev zHX:=@List.flatMap_cons
abbrev zHx:=@Nat.mod_lt
def Iz:DV -> Bool
 | .any=>false
 | .agg .. =>false
 | .tup .. =>false
 | .it _=>false
 | .mri .. =>false
 | _=>true
def JI:DV -> Option (List DV)
 | .agg m f=>some ((List.range m).map f)
 | .any=>none
 | .tup .. =>none
 | .it _=>none
 | .mri .. =>none
 | d=>some [d]
def P7:DV -> Bool
 | .int .. =>true
 | .bool _=>true
 | .str _=>true
 | .nils=>true
 | .ints _=>true
 | .bools _=>true
 | .sl .. =>true
 | _=>false
section
variable {P:Program} {Γ:At} {N:Nat -> Prop} {S:St} {ρ:List AH} {a:Act} {w:World}
theorem Wi {M:Nat -> Prop}{d:DV}{v:Value}(h:Iz d=true)(hr:AK M w d ρ v):v.oneCell'=true/\ v.cells= #[v]:=by
 have key:(∀ cs,v≠.agg cs) -> (∀ cs,v≠.tuple cs) -> v.oneCell'=true/\ v.cells= #[v]:=fun h1 h2=>by
  cases v <;> first | exact ⟨rfl,rfl⟩ | exact absurd rfl (h1 _) | exact absurd rfl (h2 _)
 cases d with
 | any=>cases h
 | agg m f=>cases h
 | tup m f=>cases h
 | nils=>exact key (fun cs e=>by rw [hr] at e;cases e) (fun cs e=>by rw [hr] at e;cases e)
 | int k n=>exact key (fun cs e=>by rw [hr] at e;cases e) (fun cs e=>by rw [hr] at e;cases e)
 | bool b=>exact key (fun cs e=>by rw [hr] at e;cases e) (fun cs e=>by rw [hr] at e;cases e)
 | str s=>exact key (fun cs e=>by rw [hr] at e;cases e) (fun cs e=>by rw [hr] at e;cases e)
 | ints l=>obtain ⟨_,_,rfl,_⟩:=hr;exact ⟨rfl,rfl⟩
 | bools l=>obtain ⟨_,_,rfl,_⟩:=hr;exact ⟨rfl,rfl⟩
 | sl m n f=>obtain ⟨_,_,rfl,_⟩:=hr;exact ⟨rfl,rfl⟩
 | fp m f=>obtain ⟨_,_,rfl,_⟩:=hr;exact ⟨rfl,rfl⟩
 | ref k j=>obtain ⟨_,_,rfl⟩:=hr;exact ⟨rfl,rfl⟩
 | msl k m off n=>obtain ⟨_,_,_,rfl,_⟩:=hr;exact ⟨rfl,rfl⟩
 | mp k m i j=>obtain ⟨_,_,rfl⟩:=hr;exact ⟨rfl,rfl⟩
 | fn g m c=>obtain ⟨_,rfl,_⟩:=hr;exact ⟨rfl,rfl⟩
 | it k=>cases h
 | yl l=>exact key (fun cs e=>by rw [hr] at e;cases e) (fun cs e=>by rw [hr] at e;cases e)
 | mse k m o n=>obtain ⟨_,_,_,_,rfl,_⟩:=hr;exact ⟨rfl,rfl⟩
 | mri k i=>cases h
 | cst u=>obtain ⟨rfl,hu⟩:=hr;cases v <;> first | exact ⟨rfl,rfl⟩ | (cases hu;done)
theorem Uj {M:Nat -> Prop}{d:DV}{v:Value}{l:List DV}(h:JI d=some l)(hr:AK M w d ρ v):v.cells.size=l.length/\ ∀ j,j<l.length -> ∃ u,v.cells[j]? =some u/\ AK M w (l.getD j .any) ρ u:=by
 have one:Iz d=true -> l= [d] -> v.cells.size=l.length/\ ∀ j,j<l.length -> ∃ u,v.cells[j]? =some u/\ AK M w (l.getD j .any) ρ u:=by
  intro h1 h2;subst h2;rw [(Wi h1 hr).2];refine ⟨rfl,fun j hj=>?_⟩;have:j=0:=by simpa using hj
  subst this;exact ⟨v,rfl,hr⟩
 cases d with
 | any=>cases h
 | tup m f=>cases h
 | it k=>cases h
 | yl l=>cases h;exact one rfl rfl
 | mse k m o n=>cases h;exact one rfl rfl
 | mri k i=>cases h
 | cst u=>exact one rfl (zAe h).symm
 | agg m f=>
  cases h;obtain ⟨cs,rfl,hs,hc⟩:=hr;refine ⟨by simpa [Value.cells] using hs,fun j hj=>?_⟩;have BJ:j<m:=by simpa using hj
  obtain ⟨u,h1,h2⟩:=hc j BJ;exact ⟨u,h1,by simpa [BJ] using h2⟩
 | nils=>cases h;exact one rfl rfl
 | int k n=>cases h;exact one rfl rfl
 | bool b=>cases h;exact one rfl rfl
 | str s=>cases h;exact one rfl rfl
 | ints l=>cases h;exact one rfl rfl
 | bools l=>cases h;exact one rfl rfl
 | sl m n f=>cases h;exact one rfl rfl
 | fp m f=>cases h;exact one rfl rfl
 | ref k j=>cases h;exact one rfl rfl
 | msl k m off n=>cases h;exact one rfl rfl
 | mp k m i j=>cases h;exact one rfl rfl
 | fn g m c=>cases h;exact one rfl rfl
theorem aU {M:Nat -> Prop}{d:DV}{v:Value}(h:P7 d=true)(hr:AK M w d ρ v):AK M w d [] v:=by
 cases d <;> first | exact hr | (cases h;done)
structure Ci (P:Program)(Γ:At)(N:Nat -> Prop)(h:DH)(ρ:List AH)(w:World)(ext:Bool)(d:DV)(h':DH)(v:Value)(w':World):Prop where
 ex: ∃ ρ',A1 P Γ N h' ρ' w'/\ AK (MS N h' ρ') w' d ρ' v/\ A5 h ρ w h' ρ' w'/\ (∀ (k:Nat) (p:AH),ρ[k]? =some p -> ρ'[k]? =some p)
 ext:ext=true -> Aq w w'
def BL (P:Program)(s:Sem Next)(w:World)(G:Value -> World -> Prop):Prop:= (∃ v w',s.run P w= .ok (.value v) w'/\ G v w')∨(∃ w',s.run P w= .ok .skip w'/\ G undef w')∨ (∃ f args w',s.run P w= .ok (.enter f args) w'/\ Calls P f args w' fun e CV=>∃ v,e= .returned v/\ G v CV)
theorem BL.value {G:Value -> World -> Prop}{ρ':Operand -> Value}{o:Oper}{s:Sem Value}{v:Value}{w':World}(he:execOp ρ' o=(do pure (.value (←s))))(h:s.run P w= .ok v w')(hG:G v w'):BL P (execOp ρ' o) w G:=
 .inl ⟨v,w',by rw [he,zA6,h];rfl,hG⟩
theorem BL.skip {G:Value -> World -> Prop}{ρ':Operand -> Value}{o:Oper}{s:Sem Unit}{w':World}(he:execOp ρ' o=(do s;pure .skip))(h:s.run P w= .ok () w')(hG:G undef w'):BL P (execOp ρ' o) w G:=
 .inr (.inl ⟨w',by rw [he,zA6,h];rfl,hG⟩)
def ER (w:World)(room:Nat):AH:=⟨w.heap.size,0,room,undef,fun b=>b=w.heap.size⟩
theorem Qq (H:A1 P Γ N S.h ρ w){cs:Array Value}{t:TypeId}{o:DO}{d:DV}{v:Value}{w1:World}(Tt:Aq w w1/\ w1.heap.size=w.heap.size) 
 (ho: ∀ M ρ',BS (MS N S.h ρ) w ρ M (w1.alloc (.cells cs t)) ρ' -> EC P M (w1.alloc (.cells cs t)) ρ' (ER w cs.size) o)
 (hv: ∀ M ρ',ρ'[S.h.length]? =some (ER w cs.size) -> AK M (w1.alloc (.cells cs t)) d ρ' v) (ext:Bool):
 Ci P Γ N S.h ρ w ext d (S.h++[some o]) v (w1.alloc (.cells cs t)):=by
 have hE:Aq w (w1.alloc (.cells cs t)):=Tt.1.allocR _;have hf: ∀ b,(ER w cs.size).foot b -> w.heap.size<=b:=fun b hb=>Nat.le_of_eq (Eq.symm hb)
 have hb:(w1.alloc (.cells cs t)).heap[w.heap.size]? =some (.cells cs t (0,0)):=by rw [←Tt.2];exact zGf w1 _
 refine ⟨⟨ρ++[ER w cs.size],H.snoc hE (fun b hx=>⟨hf b hx,.cells (c:=cs) (t:=t) (z:=(0,0)) (by rw [show b=w.heap.size from hx];exact hb)⟩) (ho _ _ (BS.snoc H hE hf)),?_,A5.snoc H hE hf,fun k p hk=>Eh hk⟩,fun _=>hE⟩;exact hv _ _ (by rw [←H.len];simp)
theorem Nu {cs:Array Value}{t:TypeId}{w1:World}(hs:w1.heap.size=w.heap.size){n:Nat}{R:Nat -> Value -> Prop}(hn:n<=cs.size)(hR: ∀ j,j<n -> ∃ u,cs[j]? =some u/\ R j u):AY (w1.alloc (.cells cs t)) (ER w cs.size) n R:=by
 refine ⟨rfl,cs,t,?_,by simpa [ER] using hn,zA5 _,fun j hj=>by simpa [ER] using hR j hj⟩
 show (w1.alloc (.cells cs t)).heap[w.heap.size]? =_
 rw [←hs];exact zGf w1 _
theorem zFQ (R:AR P Γ N S ρ a w){x:Operand}{t:TypeId}{l:List DV}(h:JI (AW S.fr x)=some l)(o:Oper)(ho:o.op= .box t x)(ext:Bool):
 BL P (execOp a.eval o) w (Ci P Γ N S.h ρ w ext (.ref S.h.length 0) (S.h++[some (.cells l)])):=by
 obtain ⟨h1,h2⟩:=Uj h (Bj R x);refine BL.value (s:=Instr.box t (a.eval x)) (by unfold execOp;rw [ho]) (v:=.pointer (some ⟨w.heap.size,0,none⟩)) (w':=w.alloc (.cells (a.eval x).cells t)) ?_ ?_
 ·rfl
 ·refine Qq (d:=.ref S.h.length 0) R.hr ⟨Aq.refl w,rfl⟩ (fun M ρ' O=>?_) (fun M ρ' hp=>⟨_,hp,rfl⟩) ext;refine Nu rfl (by omega) fun j hj=>?_
  obtain ⟨u,g1,g2⟩:=h2 j hj;exact ⟨u,g1,g2.out _ O⟩
theorem zF2 (R:AR P Γ N S ρ a w){t:TypeId}{i:TypeInfo}{z:Value}(hi:P.info? t=some i)(hz:i.zero=some z)(o:Oper)(ho:o.op= .alloc t)(ext:Bool):
 BL P (execOp a.eval o) w (Ci P Γ N S.h ρ w ext (.ref S.h.length 0) (S.h++[some (.cells (z.cells.toList.map Gk))])):=by
 refine BL.value (s:=Instr.alloc t true (.tuple #[])) (by unfold execOp;rw [ho]) (v:=.pointer (some ⟨w.heap.size,0,none⟩)) (w':=w.alloc (.cells z.cells t)) ?_ ?_
 ·simp [Instr.alloc,zeroValue,typeInfo,hi,hz,newVar,newRow,newObj];rfl
 ·refine Qq (d:=.ref S.h.length 0) R.hr ⟨Aq.refl w,rfl⟩ (fun M ρ' O=>?_) (fun M ρ' hp=>⟨_,hp,rfl⟩) ext;refine Nu rfl (by simp) fun j hj=>?_
  have BJ:j<z.cells.size:=by simpa using hj
  refine ⟨z.cells[j],by simp [BJ],?_⟩;have:(z.cells.toList.map Gk).getD j .any=Gk z.cells[j]:=by simp [BJ]
  rw [this];exact Wk _
def oe:Value -> Bool
 | .bool false=>true
 | _=>false
def Y7 (z:Value):Bool:=decide (2<z.cells.size)&&z.cells.toList.all oe
theorem zF3 (R:AR P Γ N S ρ a w){t:TypeId}{i:TypeInfo}{z:Value}(hi:P.info? t=some i)(hz:i.zero=some z)(hb:Y7 z=true)(o:Oper)(ho:o.op= .alloc t)(ext:Bool):
 BL P (execOp a.eval o) w (Ci P Γ N S.h ρ w ext (.mp S.h.length 1 0 0) (S.h++[some (.bools (List.replicate z.cells.size false))])):=by
 refine BL.value (s:=Instr.alloc t true (.tuple #[])) (by unfold execOp;rw [ho]) (v:=.pointer (some ⟨w.heap.size,0,none⟩)) (w':=w.alloc (.cells z.cells t)) ?_ ?_
 ·simp [Instr.alloc,zeroValue,typeInfo,hi,hz,newVar,newRow,newObj];rfl
 ·refine Qq (d:=.mp S.h.length 1 0 0) R.hr ⟨Aq.refl w,rfl⟩ (fun M ρ' O=>?_) (fun M ρ' hp=>⟨_,hp,rfl⟩) ext;refine Nu rfl (by simp) fun j hj=>?_
  have BJ:j<z.cells.size:=by simpa using hj
  refine ⟨z.cells[j],by simp [BJ],?_⟩;simp only [Y7,zAW,zAg] at hb;have:=hb.2 z.cells[j] (by simp);unfold oe at this;split at this
  ·rename_i e;rw [e];simp [BJ]
  ·cases this
inductive EK where
 | ints
 | bools
 | gen (m:Nat)
def KT (P:Program)(t:TypeId):Option (EK×TypeId×TypeInfo×Value):=match P.underlying t with
 | some (.slice e)=>match P.info? e with
  | some i=>match i.zero with
   | some z=>if i.size=0 then none else if z.cells.size≠i.size then none else match P.underlying e with
    | some (.int .i64)=>if i.size=1 then (match z with | .int .i64 0=>some (.ints,e,i,z) | _=>none) else none
    | some .bool=>if i.size=1 then (match z with | .bool false=>some (.bools,e,i,z) | _=>none) else none
    | _=>some (.gen i.size,e,i,z)
   | none=>none
  | none=>none
 | _=>none
def EK.cells:EK -> Nat
 | .ints=>1
 | .bools=>1
 | .gen m=>m
theorem Ub {t:TypeId}{k:EK}{e:TypeId}{i:TypeInfo}{z:Value}(h:KT P t=some (k,e,i,z)):P.underlying t=some (.slice e)/\ P.info? e=some i/\ i.zero=some z/\ i.size≠0/\ z.cells.size=i.size/\ k.cells=i.size/\
 (k= .ints -> z= .int .i64 0)/\ (k= .bools -> z= .bool false):=by
 unfold KT at h
 repeat' (split at h)
 all_goals first
  | (cases h;done)
  | skip
 all_goals
  simp only [zCR,zCp] at h;obtain ⟨rfl,rfl,rfl,rfl⟩:=h;refine ⟨by assumption,by assumption,by assumption,by assumption,by simp_all,?_,?_,?_⟩
  ·simp_all [EK.cells]
  ·intro hk;first | rfl | cases hk
  ·intro hk;first | rfl | cases hk
theorem dR {s:Nat}(hs:0<s): ∀ (vs:List Value),(∀ v∈vs,v.cells.size=s) -> ∀ i j,i<vs.length -> j<s -> (vs.flatMap fun v=>v.cells.toList)[i*s+j]? =(vs[i]?).bind (fun v=>v.cells[j]?)
 | [],_,i,j,hi,_=>absurd hi (zAv i)
 | v::vs,hv,i,j,hi,hj=>by
  have IR:v.cells.toList.length=s:=by simpa using hv v (by simp)
  rw [zHX];cases i with
  | zero=>rw [Nat.zero_mul,zA8,zAk (by omega)];simp
  | succ i=>
   rw [zAp (by rw [IR,zHW];omega),IR,show (i+1)*s+j-s=i*s+j by rw [zHW];omega];rw [dR hs vs (fun v h=>hv v (by simp [h])) i j (by simpa using hi) hj];simp
def IP:DV -> Int
 | .int _ n=>n
 | _=>0
def Uv:DV -> Bool
 | .bool b=>b
 | _=>false
def K7:DV -> Bool
 | .int .i64 _=>true
 | _=>false
def bZ:DV -> Bool
 | .bool _=>true
 | _=>false
def RF (k:EK)(ds:List DV):Option DO:=match k with
 | .ints=>if ds.all K7 then some (.ints (ds.map IP)) else none
 | .bools=>if ds.all bZ then some (.bools (ds.map Uv)) else none
 | .gen m=>if ds.all fun d=>(match JI d with | some l=>l.length==m&&l.all P7 | none=>false) then
  some (.arr m ds.length (fun i j=>match JI (ds.getD i .any) with | some l=>l.getD j .any | none=>.any)) else none
theorem bX {M:Nat -> Prop}{d:DV}{v:Value}(h:K7 d=true)(hr:AK M w d ρ v):v= .int .i64 (IP d):=by
 unfold K7 at h;split at h
 ·exact hr
 ·cases h
theorem zp {M:Nat -> Prop}{d:DV}{v:Value}(h:bZ d=true)(hr:AK M w d ρ v):v= .bool (Uv d):=by
 unfold bZ at h;split at h
 ·exact hr
 ·cases h
theorem zFP {M:Nat -> Prop}{k:EK}{ds:List DV}{o:DO}{vs:List Value}(hk:0<k.cells)(h:RF k ds=some o)(hl:vs.length=ds.length)(hv: ∀ i,i<ds.length -> AK M w (ds.getD i .any) ρ (vs.getD i undef)):
 (∀ v∈vs,v.cells.size=k.cells)/\ ∀ M' (w':World) ρ',BS M w ρ M' w' ρ' -> ∀ (cs:Array Value) (t:TypeId) (p:AH),cs.toList=(vs.flatMap fun v=>v.cells.toList) -> AY w' p (ds.length*k.cells) (fun j u=>cs[j]? =some u) -> EC P M' w' ρ' p o:=by
 have one: ∀ {j:Nat},k.cells=1 -> j<ds.length*k.cells -> (∀ v∈vs,v.cells.size=k.cells) -> ∀ {u},(vs.flatMap fun v=>v.cells.toList)[j]? =some u -> (vs[j]?).bind (fun v=>v.cells[0]?)=some u:=fun {j} h1 hj hs {u} hu=>by
  rw [h1] at hj hs;have:=dR (s:=1) (by omega) vs hs j 0 (by omega) (by omega);rw [zCz,zGc] at this;rw [←this];exact hu
 have mem: ∀ v∈vs,∃ i,i<ds.length/\ v=vs.getD i undef/\ vs[i]? =some v:=fun v hv=>by
  obtain ⟨i,hi,rfl⟩:=zDD hv;exact ⟨i,by omega,by simp [hi],by simp [hi]⟩
 have dt: ∀ i,i<ds.length -> ds.getD i .any∈ds:=fun i hi=>by simp [hi]
 cases k with
 | ints=>
  simp only [RF] at h;split at h
  ·rename_i ha;cases h;have hI: ∀ i,i<ds.length -> vs.getD i undef= .int .i64 (IP (ds.getD i .any)):=fun i hi=>bX (zAg.1 ha _ (dt i hi)) (hv i hi)
   have hs: ∀ v∈vs,v.cells.size=EK.ints.cells:=fun v Oc=>by obtain ⟨i,hi,e,_⟩:=mem v Oc;rw [e,hI i hi];rfl
   refine ⟨hs,fun M' w' ρ' O cs t p Dh hr=>?_⟩;have hn:ds.length*EK.ints.cells=(ds.map IP).length:=by simp [EK.cells]
   rw [hn] at hr;refine AY.out hr rfl fun j u hj hu=>?_
   have BJ:j<ds.length:=by simpa using hj
   have h2:=one rfl (by simpa [EK.cells] using BJ) hs (u:=u) (by rw [←Dh];simpa using hu);rw [zAa (by omega)] at h2;have h3:=hI j BJ;have h4:vs.getD j undef=vs[j]:=by simp [hl,BJ]
   rw [h4] at h3;simp only [zAS,h3] at h2;have:u=Value.int .i64 (IP (ds.getD j .any)):=by simpa [Value.cells] using h2.symm
   rw [this];simp [BJ]
  ·cases h
 | bools=>
  simp only [RF] at h;split at h
  ·rename_i ha;cases h;have hI: ∀ i,i<ds.length -> vs.getD i undef= .bool (Uv (ds.getD i .any)):=fun i hi=>zp (zAg.1 ha _ (dt i hi)) (hv i hi)
   have hs: ∀ v∈vs,v.cells.size=EK.bools.cells:=fun v Oc=>by obtain ⟨i,hi,e,_⟩:=mem v Oc;rw [e,hI i hi];rfl
   refine ⟨hs,fun M' w' ρ' O cs t p Dh hr=>?_⟩;have hn:ds.length*EK.bools.cells=(ds.map Uv).length:=by simp [EK.cells]
   rw [hn] at hr;refine AY.out hr rfl fun j u hj hu=>?_
   have BJ:j<ds.length:=by simpa using hj
   have h2:=one rfl (by simpa [EK.cells] using BJ) hs (u:=u) (by rw [←Dh];simpa using hu);rw [zAa (by omega)] at h2;have h3:=hI j BJ;have h4:vs.getD j undef=vs[j]:=by simp [hl,BJ]
   rw [h4] at h3;simp only [zAS,h3] at h2;have:u=Value.bool (Uv (ds.getD j .any)):=by simpa [Value.cells] using h2.symm
   rw [this];simp [BJ]
  ·cases h
 | gen m=>
  simp only [RF] at h;split at h
  ·rename_i ha;cases h;have hm:0<m:=hk
   have hI: ∀ i,i<ds.length -> ∃ l,JI (ds.getD i .any)=some l/\ l.length=m/\ (∀ d∈l,P7 d=true):=fun i hi=>by
    have:=zAg.1 ha _ (dt i hi);split at this
    ·rename_i l hl;simp only [zAW,zBA] at this;exact ⟨l,hl,this.1,fun d hd=>zAg.1 this.2 d hd⟩
    ·cases this
   have hs: ∀ v∈vs,v.cells.size=(EK.gen m).cells:=fun v Oc=>by
    obtain ⟨i,hi,e,_⟩:=mem v Oc;obtain ⟨l,h1,h2,_⟩:=hI i hi;rw [e,(Uj h1 (hv i hi)).1,h2];rfl
   refine ⟨hs,fun M' w' ρ' O cs t p Dh hr=>?_⟩;refine AY.out hr rfl fun j u hj hu=>?_
   have hj0:j<ds.length*m:=hj;have hi:j/m<ds.length:=by rw [zGh hm];exact hj0
   have hc:j % m<m:=zHx _ hm;obtain ⟨l,h1,h2,h3⟩:=hI (j/m) hi;have h4:=dR (s:=m) hm vs hs (j/m) (j % m) (by omega) hc;rw [show j/m*m+j % m=j by rw [zGW];exact Nat.div_add_mod j m] at h4;obtain ⟨_,h5⟩:=Uj h1 (hv (j/m) hi);obtain ⟨u',g1,g2⟩:=h5 (j % m) (by omega);have h6:vs.getD (j/m) undef=vs[j/m]'(by omega):=by simp [hl,hi]
   have AM:j/m<vs.length:=by omega
   rw [zAa AM] at h4;rw [h6] at g1
   have:u=u':=by
    have Bo:(vs.flatMap fun v=>v.cells.toList)[j]? =some u:=by rw [←Dh];simpa using hu
    rw [h4] at Bo;simp only [zAS] at Bo;rw [g1] at Bo;exact (zAe Bo).symm
   subst this;simp only [h1];refine AK.out _ O.nil (aU (h3 _ ?_) g2);simp [h2,hc]
  ·cases h
theorem Z6 {cs:Array Value}{t:TypeId}{w1:World}(hs:w1.heap.size=w.heap.size){n:Nat}(hn:cs.size=n):AY (w1.alloc (.cells cs t)) (ER w n) n (fun j u=>cs[j]? =some u):=by
 subst hn;exact Nu hs (zA5 _) fun j hj=>⟨cs[j],by simp [hj],by simp [hj]⟩
def YW (parts:List (Nat×Operand))(len:Nat):Bool:=parts.map (·.1)==List.range len
theorem zES {parts:List (Nat×Operand)}{len:Nat}(h:YW parts len=true)(f:Operand -> Value):parts.length=len/\ (parts.map fun x=>(x.1,f x.2))=((parts.map fun x=>f x.2).zipIdx 0).map fun x=>(x.2,x.1):=by
 simp only [YW,zBA] at h;have hl:parts.length=len:=by have:=congrArg List.length h;simpa using this
 refine ⟨hl,List.ext_getElem? fun i=>?_⟩
 by_cases hi:i<parts.length
 ·have h1:parts[i].1=i:=by
   have h2:=congrArg (fun l:List Nat=>l[i]?) h;have h3:(List.range len)[i]? =some i:=zHI (by omega);simp only [zCG,zAa hi,zCO,h3] at h2;exact zAe h2
  simp [hi,h1]
 ·rw [zCo (by simpa using hi),zCo (by simpa using hi)]
theorem zFO (R:AR P Γ N S ρ a w){t:TypeId}{len:Nat}{parts:Array (Nat×Operand)}{k:EK}{e:TypeId}{i:TypeInfo}{z:Value}{ob:DO}(hk:KT P t=some (k,e,i,z))(hd:YW parts.toList len=true)(Ak:len<=65536/\ k.cells<=64) 
 (hb:RF k (parts.toList.map fun x=>AW S.fr x.2)=some ob) (o:Oper) (ho:o.op= .buildSlice t len parts) (ext:Bool):
 BL P (execOp a.eval o) w (Ci P Γ N S.h ρ w ext (.msl S.h.length k.cells 0 len) (S.h++[some ob])):=by
 obtain ⟨hu,hi,hz,h0,Cq,EW,_,_⟩:=Ub hk;obtain ⟨FD,hpe⟩:=zES hd a.eval;have zCN:=Ak.1;have zCM:=Ak.2;have I5:0<k.cells:=by omega
 obtain ⟨hs,LH⟩:=zFP (w:=w) (M:=MS N S.h ρ) (ρ:=ρ) (vs:=parts.toList.map fun x=>a.eval x.2) I5 hb (by simp) (fun j hj=>by
  have BJ:j<parts.toList.length:=by simpa using hj
  have:=Bj R parts.toList[j].2;simp only [u8,zCG,zAa BJ,zCO,zGK];exact this)
 have HI:(parts.toList.map fun x=>a.eval x.2).length=len:=by simpa using FD
 have Az:((parts.toList.map fun x=>a.eval x.2).flatMap fun v=>v.cells.toList).toArray.size=len*k.cells:=by
  have: ∀ (l:List Value),(∀ v∈l,v.cells.size=k.cells) -> (l.flatMap fun v=>v.cells.toList).length=l.length*k.cells:=by
   intro l
   induction l with
   | nil=>intro _;simp
   | cons v l ih=>intro h;rw [zHX,zA7,ih (fun v hv=>h v (by simp [hv])),zCU,zHW];have:=h v (by simp);simp [this];omega
  simp only [zGl];rw [this _ hs,HI]
 refine BL.value (s:=Instr.buildSlice t len (parts.map fun (i,x)=>(i,a.eval x))) (by unfold execOp;rw [ho]) (v:=.slice (some ⟨w.heap.size,0,none⟩) len len) (w':=w.alloc (.cells ((parts.toList.map fun x=>a.eval x.2).flatMap fun v=>v.cells.toList).toArray e)) ?_ ?_
 ·have zAu: ¬ len*i.size>2 ^ 24:=by
   have:len*i.size<=65536*64:=Nat.mul_le_mul zCN (by omega);omega
  by_cases ca:len=0
  ·subst ca
   have hp:parts= #[]:=by
    have:parts.toList= []:=zDI FD;cases parts;simp at this;simp [this]
   subst hp;have EI:Array.map (fun (x:Nat)=>(default:Value)) (Array.range 0)= #[]:=by simp [Array.range_zero']
   simp [Instr.buildSlice,zCY hu,sizeOf,typeInfo,hi,newRow,Instr.fill,Array.range_zero']
  ·have hp0: ¬ len*i.size=0:=by rw [Nat.mul_eq_zero];omega
   refine run_buildSlice w t e len _ _ i z hu hi hz zAu hp0 ?_;have e1:(parts.map fun (i,x)=>(i,a.eval x)).toList=parts.toList.map fun x=>(x.1,a.eval x.2):=by simp
   rw [e1,hpe];exact Great.fill_whole (s:=i.size) (by omega) _ _ (fun v hv=>by rw [hs v hv,EW]) (by rw [HI,Array.size_map,Array.size_range])
 ·have:=Qq (d:=.msl S.h.length k.cells 0 len) (o:=ob) (v:=.slice (some ⟨w.heap.size,0,none⟩) len len) (cs:=((parts.toList.map fun x=>a.eval x.2).flatMap fun v=>v.cells.toList).toArray) (t:=e) R.hr ⟨Aq.refl w,rfl⟩
   (fun M ρ' O=>LH _ _ _ O ((parts.toList.map fun x=>a.eval x.2).flatMap fun v=>v.cells.toList).toArray e _ rfl (by rw [Az,zBC,FD];exact Z6 (w:=w) (w1:=w) (t:=e) rfl Az))
   (fun M ρ' hp=>⟨_,len,hp,by simp [ER],zA5 _,by unfold LB;omega,by simp only [ER];rw [Az];omega⟩) ext
  exact this
def lV (k:EK)(n:Nat)(z:Value):DO:=match k with
 | .ints=>.ints (List.replicate n 0)
 | .bools=>.bools (List.replicate n false)
 | .gen m=>.arr m n (fun _ j=>(z.cells.toList.map Gk).getD j .any)
theorem yQ (R:AR P Γ N S ρ a w){t:TypeId}{x y:Operand}{k:EK}{e:TypeId}{i:TypeInfo}{z:Value}{kx ky:IntKind}{n:Int}(hk:KT P t=some (k,e,i,z))(hx:AW S.fr x= .int kx n)(hy:AW S.fr y= .int ky n) 
 (hn:0<=n/\ n<=1000000000000) (Du:i.bytes<=128) (o:Oper) (ho:o.op= .makeSlice t x y) (ext:Bool):
 BL P (execOp a.eval o) w (Ci P Γ N S.h ρ w ext (.msl S.h.length k.cells 0 n.toNat) (S.h++[some (lV k n.toNat z)])):=by
 obtain ⟨hu,hi,hz,h0,Cq,EW,hzi,bu⟩:=Ub hk;have F2:=hn.1;have F1:=hn.2;have rx:=Bj R x;have ry:=Bj R y;rw [hx] at rx;rw [hy] at ry;have Dh:(madeCells z.cells (n.toNat*i.size)).size=n.toNat*k.cells:=by rw [size_madeCells,EW]
 refine BL.value (s:=Instr.makeSlice t (a.eval x) (a.eval y)) (by unfold execOp;rw [ho]) (v:=.slice (some ⟨w.heap.size,0,none⟩) n.toNat n.toNat) (w':=w.alloc (.cells (madeCells z.cells (n.toNat*i.size)) e)) ?_ ?_
 ·rw [show a.eval x=_ from rx,show a.eval y=_ from ry];refine run_make w t e i z hu hi hz kx ky n n F2 (zCn _) ?_ (by omega);have:(i.bytes:Int)*n<=128*1000000000000:=Int.mul_le_mul (by omega) F1 F2 (by omega);omega
 ·refine Qq (d:=.msl S.h.length k.cells 0 n.toNat) R.hr ⟨Aq.refl w,rfl⟩ (fun M ρ' O=>?_) (fun M ρ' hp=>⟨_,n.toNat,hp,by simp [ER],zA5 _,by unfold LB;omega,by simp only [ER];rw [Dh];omega⟩) ext;have hr:=Z6 (w:=w) (w1:=w) (t:=e) rfl Dh;rw [Dh]
  have DM: ∀ j u,j<n.toNat*k.cells -> (madeCells z.cells (n.toNat*i.size))[j]? =some u -> z.cells[j % z.cells.size]? =some u:=by
   intro j u hj Bo;have AM:j % z.cells.size<z.cells.size:=zHx _ (by omega);simp only [madeCells] at Bo;have BJ:j<n.toNat*i.size:=by rw [←EW];exact hj
   simp [BJ] at Bo;rw [←Bo];simp [AM]
  cases k with
  | ints=>
   have Tp:=hzi rfl;subst Tp
   show AY _ _ (List.replicate n.toNat (0:Int)).length _
   rw [zAw];simp only [EK.cells,zCz] at hr DM ⊢;refine AY.out hr rfl fun j u hj Bo=>?_
   have:=DM j u hj Bo;have e1:j % (Value.cells (.int .i64 0)).size=0:=by simp [Value.cells,Nat.mod_one]
   rw [e1] at this;simp [Value.cells] at this;rw [←this];simp [hj]
  | bools=>
   have Tp:=bu rfl;subst Tp
   show AY _ _ (List.replicate n.toNat false).length _
   rw [zAw];simp only [EK.cells,zCz] at hr DM ⊢;refine AY.out hr rfl fun j u hj Bo=>?_
   have:=DM j u hj Bo;have e1:j % (Value.cells (.bool false)).size=0:=by simp [Value.cells,Nat.mod_one]
   rw [e1] at this;simp [Value.cells] at this;rw [←this];simp [hj]
  | gen m=>
   refine AY.out hr rfl fun j u hj Bo=>?_
   have h1:=DM j u hj Bo;have hm:m=z.cells.size:=by rw [Cq];exact EW
   have h2:j % m<z.cells.toList.length:=by rw [hm];simpa using zHx _ (by omega)
   have h3:(z.cells.toList.map Gk).getD (j % m) .any=Gk u:=by
    rw [u8,zCG];have:z.cells.toList[j % m]? =some u:=by rw [←h1,hm];simp
    rw [this];rfl
   show AK M _ ((z.cells.toList.map Gk).getD (j % m) .any) [] u
   rw [h3];exact Wk u
end
abbrev zDE:=@List.nil_append
abbrev zDH:=@List.foldl_cons
abbrev zD4:=@Array.getElem?_append_left
abbrev zGi:=@Array.getElem?_modify
abbrev zG0:=@List.length_range
abbrev zHg:=@List.getElem?_toArray
section
variable {P:Program} {Γ:At} {N:Nat -> Prop} {S:St} {ρ:List AH} {a:Act} {w:World} {h:DH}
theorem Qi (b:Nat)(t:TypeId)(z:Nat×Nat): ∀ (vs:List Value) (o:Nat) (w:World) (Ex:Array Value),w.heap[b]? =some (.cells Ex t z) -> o+vs.length<=Ex.size ->
 ∃ Uk,(w.setCells b o vs).heap[b]? =some (.cells Uk t z)/\ Uk.size=Ex.size/\ ∀ k,Uk[k]? =if o<=k/\ k<o+vs.length then vs[k-o]? else Ex[k]?
 | [],o,w,Ex,hb,_=>⟨Ex,hb,rfl,fun k=>by rw [zAh];simp only [zC5];omega⟩
 | v::vs,o,w,Ex,hb,hl=>by
  have Eg:o+(vs.length+1)<=Ex.size:=hl;obtain ⟨Uk,h1,h2,h3⟩:=Qi b t z vs (o+1) (w.setCell ⟨b,o,none⟩ v) (Ex.setIfInBounds o v) (by simp [World.setCell,zGi,hb]) (by simp;omega);refine ⟨Uk,h1,by simpa using h2,fun k=>?_⟩;rw [h3 k,zCU]
  by_cases e:k=o
  ·subst e;rw [zAh (by omega),zAM (by omega),zCu,zAM rfl,zAM (by omega),Nat.sub_self];rfl
  ·by_cases e2:o+1<=k/\ k<o+1+vs.length
   ·rw [zAM e2,zAM (by omega),show k-o=(k-(o+1))+1 by omega];simp
   ·rw [zAh e2,zAh (by omega)];rw [zCu,zAh (by omega)]
theorem Pf (b:Nat): ∀ (vs:List Value) (o:Nat) (w:World),AO (fun k=>k=b) w (w.setCells b o vs)
 | [],_,w=>AO.refl _ w
 | v::vs,o,w=>((AO.refl (fun k=>k=b) w).setCell (p:=⟨b,o,none⟩) (fun _=>rfl) v).trans (Pf b vs (o+1) (w.setCell ⟨b,o,none⟩ v))
theorem AY.writes {p:AH}{n:Nat}{R R':Nat -> Value -> Prop}(hr:AY w p n R){o:Nat}{vs:List Value}(hl:o+vs.length<=n)(h1: ∀ i v,vs[i]? =some v -> R' (o+i) v) 
 (h2: ∀ i u,i<n -> (i<o∨o+vs.length<=i) -> R i u -> R' i u):AY (w.setCells p.blk (p.off+o) vs) p n R':=by
 obtain ⟨g1,cs,t,g2,g3,g4,g5⟩:=hr;obtain ⟨EZ,e1,e2,e3⟩:=Qi p.blk t (0,0) vs (p.off+o) w cs g2 (by omega);refine ⟨g1,EZ,t,e1,by omega,by omega,fun j hj=>?_⟩;rw [e3]
 by_cases e:p.off+o<=p.off+j/\ p.off+j<p.off+o+vs.length
 ·rw [zAM e];have hi:p.off+j-(p.off+o)<vs.length:=by omega
  refine ⟨vs[p.off+j-(p.off+o)],by simp [hi],?_⟩;have:=h1 (p.off+j-(p.off+o)) _ (by simp [hi]:vs[p.off+j-(p.off+o)]? =some vs[p.off+j-(p.off+o)])
  rwa [show o+(p.off+j-(p.off+o))=j by omega] at this
 ·rw [zAh e];obtain ⟨u,e4,e5⟩:=g5 j hj;exact ⟨u,e4,h2 j u hj (by omega) e5⟩
def Ni (l:List DV)(o:Nat)(ds:List DV):List DV:=(ds.zipIdx).foldl (fun cs x=>cs.set (o+x.2) x.1) l
theorem Zd: ∀ (ds:List DV) (k o:Nat) (l:List DV),((ds.zipIdx k).foldl (fun cs x=>cs.set (o+x.2) x.1) l).length=l.length/\
 ∀ j,j<l.length -> ((ds.zipIdx k).foldl (fun cs x=>cs.set (o+x.2) x.1) l).getD j .any=if o+k<=j/\ j<o+k+ds.length then ds.getD (j-(o+k)) .any else l.getD j .any
 | [],k,o,l=>⟨rfl,fun j _=>by
  rw [zAh]
  ·rfl
  ·simp only [zC5];omega⟩
 | d::ds,k,o,l=>by
  obtain ⟨h1,h2⟩:=Zd ds (k+1) o (l.set (o+k) d);rw [List.zipIdx_cons,zDH];refine ⟨by rw [h1];simp,fun j hj=>?_⟩;rw [h2 j (by simpa using hj),zCU]
  by_cases e:j=o+k
  ·subst e;rw [zAh (by omega),zAM (by omega)];simp [hj]
  ·by_cases e2:o+(k+1)<=j/\ j<o+(k+1)+ds.length
   ·rw [zAM e2,zAM (by omega),show j-(o+k)=(j-(o+(k+1)))+1 by omega];simp
   ·rw [zAh e2,zAh (by omega)];simp only [u8,zCE];rw [zAh (by omega)]
theorem Zc (l:List DV)(o:Nat)(ds:List DV):(Ni l o ds).length=l.length:=(Zd ds 0 o l).1
theorem Ze (l:List DV)(o:Nat)(ds:List DV){j:Nat}(hj:j<l.length):(Ni l o ds).getD j .any=if o<=j/\ j<o+ds.length then ds.getD (j-o) .any else l.getD j .any:=by
 have:=(Zd ds 0 o l).2 j hj;simpa [Ni] using this
def Nb (P:Program)(S:St)(t:TypeId)(x d:DV):Option (DH×Prop):=match x with
 | .ref k j=>match S.h[k]? with
  | some (some (.cells l))=>match JI d with
   | some ds=>if P.info? t |>.any (fun i=>i.size==ds.length) then (if ds.all Iz&&decide (j+ds.length<=l.length) then some (S.h.set k (some (.cells (Ni l j ds))),True) else none) else none
   | none=>none
  | _=>none
 | .mp k m i j=>if P.info? t |>.any (fun i=>i.size==1) then match S.h[k]? with
  | some (some (.ints l))=>match d with
   | .int .i64 n=>if m==1&&j==0 then some (S.h.set k (some (.ints (l.set i n))),i<l.length) else none
   | _=>none
  | some (some (.bools l))=>match d with
   | .bool b=>if m==1&&j==0 then some (S.h.set k (some (.bools (l.set i b))),i<l.length) else none
   | _=>none
  | some (some (.arr m' n f))=>if P7 d&&(m==m')&&decide (j<m) then some (S.h.set k (some (.arr m n (fun i' j'=>if i'=i/\ j'=j then d else f i' j'))),i<n) else none
  | _=>none
  else none
 | _=>none
theorem ww {d:DV}(h:P7 d=true):Iz d=true:=by cases d <;> first | rfl | cases h
theorem Z1 {t:TypeId}{i:TypeInfo}{b o:Nat}{v:Value}(hi:P.info? t=some i)(hs:v.cells.size=i.size)(hc: ∀ j,j<v.cells.size -> (w.cell? ⟨b,o+j,none⟩).isSome=true)(hf: ∀ j,w.frozen? ⟨b,j,none⟩=false)(h1: ∀ u∈v.cells.toList,u.oneCell'=true):
 (Instr.storeAt t (.pointer (some ⟨b,o,none⟩)) v).run P w= .ok () (w.setCells b o v.cells.toList):=by
 have Ds:=run_storeCells_cells (P:=P) b o v.cells.toList 0 w (by simpa using hc) (by simpa using fun j _=>hf _) h1;simp only [zGc] at Ds;simp [Instr.storeAt,Instr.sureAddr,storeVar,Je hi,hs,Ds]
theorem oB {α:Type}{l:List α}{i:Nat}{x d:α}(h:l[i]? =some x):l.getD i d=x:=by rw [u8,h];rfl
theorem Vf (R:AR P Γ N S ρ a w){k:Nat}{ob ob':DO}{p:AH}(hk:S.h[k]? =some (some ob))(hp:ρ[k]? =some p){n:Nat}{Rw:Nat -> Value -> Prop}(hr:AY w p n Rw){o':Nat}{v:Value}{t:TypeId}{i:TypeInfo} 
 (hi:P.info? t=some i) (hs:v.cells.size=i.size) (hl:o'+v.cells.size<=n) (h1: ∀ u∈v.cells.toList,u.oneCell'=true)
 (IW: ∀ M ρ' w',BS (MS N S.h ρ) w ρ M w' ρ' -> w'=w.setCells p.blk (p.off+o') v.cells.toList -> EC P M w' ρ' p ob')
 (o:Oper) (tx x:Operand) (ho:o.op= .store t tx x) (hx:a.eval tx= .pointer (some ⟨p.blk,p.off+o',none⟩)) (hv:a.eval x=v):
 BL P (execOp a.eval o) w (Ci P Γ N S.h ρ w false .any (S.h.set k (some ob'))):=by
 have FF:p.foot=fun b=>b=p.blk:=hr.1
 have hu:AO p.foot w (w.setCells p.blk (p.off+o') v.cells.toList):=by rw [FF];exact Pf _ _ _ _
 refine BL.skip (s:=Instr.storeAt t (a.eval tx) (a.eval x)) (by unfold execOp;rw [ho]) (w':=w.setCells p.blk (p.off+o') v.cells.toList) ?_ ?_
 ·rw [hx,hv];refine Z1 hi hs (fun j hj=>?_) (fun j=>hr.frozen j) h1;obtain ⟨u,hc,_⟩:=hr.cell (j:=o'+j) (by omega);rw [zCg,hc];rfl
 ·have DM: ∀ b,p.foot b -> Dm (w.setCells p.blk (p.off+o') v.cells.toList) b:=fun b hb=>by
   rw [FF] at hb;obtain ⟨_,cs,t',g2,g3,_⟩:=hr;obtain ⟨c,e1,_⟩:=Qi p.blk t' (0,0) v.cells.toList (p.off+o') w cs g2 (by simp;omega);exact .cells (c:=c) (t:=t') (z:=(0,0)) (by rw [show b=p.blk from hb];exact e1)
  exact ⟨⟨ρ,R.hr.write hk hp hu DM (IW _ _ _ (BS.write trivial hk hp hu) rfl),trivial,A5.write hk hp hu,fun _ _ h=>h⟩,fun h=>by cases h⟩
theorem iT (R:AR P Γ N S ρ a w){t:TypeId}{tx x:Operand}{h':DH}{vc:Prop}(hd:Nb P S t (AW S.fr tx) (AW S.fr x)=some (h',vc))(hv:vc)(o:Oper)(ho:o.op= .store t tx x):
 BL P (execOp a.eval o) w (Ci P Γ N S.h ρ w false .any h'):=by
 have rx:=Bj R tx;have rv:=Bj R x;unfold Nb at hd;split at hd
 ·rename_i k j e;rw [e] at rx;obtain ⟨p,hp,hx⟩:=rx;split at hd
  ·rename_i l hk;obtain ⟨p',BC,hr⟩:=R.hr.obj k _ hk;have e:p'=p:=zAe (BC.symm.trans hp);subst e;split at hd
   ·rename_i ds EL;split at hd
    ·rename_i Ay;split at hd
     ·rename_i hc;cases hd;simp only [zAW,zCQ] at hc;cases hi:P.info? t with
      | none=>rw [hi] at Ay;cases Ay
      | some i=>
       rw [hi] at Ay;have QV:i.size=ds.length:=by simpa using Ay
       obtain ⟨c1,c2⟩:=Uj EL rv
       have zCC: ∀ u∈(a.eval x).cells.toList,u.oneCell'=true:=fun u hu=>by
        obtain ⟨q,hq,rfl⟩:=zDD hu;have Mh:q<ds.length:=by rw [←c1];simpa using hq
        obtain ⟨u,g1,g2⟩:=c2 q Mh;have h3:=zAg.1 hc.1 (ds.getD q .any) (by simp [Mh]);have h4:=(Wi h3 g2).1
        have:(a.eval x).cells.toList[q]=u:=by
         have HL:q<(a.eval x).cells.size:=by simpa using hq
         rw [zCF HL] at g1;simpa using zAe g1
        rw [this];exact h4
       refine Vf R hk hp hr hi (by omega) (o':=j) (by omega) zCC (fun M ρ' w' O Ob=>?_) o tx x ho hx rfl;subst Ob
       show AY _ _ (Ni l j ds).length _
       rw [Zc];refine AY.writes hr (by simp;omega) (fun q v hq=>?_) (fun q u hq HL hu=>?_)
       ·have mx:q<(a.eval x).cells.size:=by have:=(zAf.1 hq).1;simpa using this
        have Mh:q<ds.length:=by omega
        obtain ⟨u,g1,g2⟩:=c2 q Mh
        have:u=v:=by
         have:(a.eval x).cells[q]? =some v:=by simpa using hq
         rw [this] at g1;exact (zAe g1).symm
        subst this;rw [Ze l j ds (by omega),zAM (by omega),show j+q-j=q by omega];exact g2.out _ O
       ·rw [Ze l j ds hq,zAh (by simp at HL;omega)];exact hu.out _ O
     ·cases hd
    ·cases hd
   ·cases hd
  ·cases hd
 ·rename_i k m i j e;rw [e] at rx;obtain ⟨p,hp,hx⟩:=rx;split at hd
  ·rename_i Ay;cases hi:P.info? t with
   | none=>rw [hi] at Ay;cases Ay
   | some ti=>
    rw [hi] at Ay;have QV:ti.size=1:=by simpa using Ay
    split at hd
    ·rename_i l hk;obtain ⟨p',BC,hr⟩:=R.hr.obj k _ hk;have e:p'=p:=zAe (BC.symm.trans hp);subst e;split at hd
     ·rename_i n ed;split at hd
      ·rename_i hm;cases hd;simp only [zAW,zBA] at hm;obtain ⟨rfl,rfl⟩:=hm;rw [ed] at rv;have Zy:a.eval x= .int .i64 n:=rv;refine Vf R hk hp hr hi (v:=.int .i64 n) (by rw [QV];rfl) (o':=i) (by simp [Value.cells];omega) (by simp [Value.cells,Value.oneCell']) (fun M ρ' w' O Ob=>?_) o tx x ho (by simpa using hx) Zy;subst Ob
       show AY _ _ (l.set i n).length _
       rw [zBB];refine AY.writes hr (by simp [Value.cells];omega) (fun q v hq=>?_) (fun q u hq HL hu=>?_)
       ·have:q=0:=by have:=(zAf.1 hq).1;simpa [Value.cells] using this
        subst this;have:v= .int .i64 n:=by simpa [Value.cells] using hq.symm
        rw [this];have Dr:i<l.length:=hv;simp [Dr]
       ·rw [hu];simp only [Value.cells,zCU,zC5] at HL;rw [u8,u8,zCE,zAh (by simp at HL;omega)]
      ·cases hd
     ·cases hd
    ·rename_i l hk;obtain ⟨p',BC,hr⟩:=R.hr.obj k _ hk;have e:p'=p:=zAe (BC.symm.trans hp);subst e;split at hd
     ·rename_i n ed;split at hd
      ·rename_i hm;cases hd;simp only [zAW,zBA] at hm;obtain ⟨rfl,rfl⟩:=hm;rw [ed] at rv;have Zy:a.eval x= .bool n:=rv;refine Vf R hk hp hr hi (v:=.bool n) (by rw [QV];rfl) (o':=i) (by simp [Value.cells];omega) (by simp [Value.cells,Value.oneCell']) (fun M ρ' w' O Ob=>?_) o tx x ho (by simpa using hx) Zy;subst Ob
       show AY _ _ (l.set i n).length _
       rw [zBB];refine AY.writes hr (by simp [Value.cells];omega) (fun q v hq=>?_) (fun q u hq HL hu=>?_)
       ·have:q=0:=by have:=(zAf.1 hq).1;simpa [Value.cells] using this
        subst this;have:v= .bool n:=by simpa [Value.cells] using hq.symm
        rw [this];have Dr:i<l.length:=hv;simp [Dr]
       ·rw [hu];simp only [Value.cells,zCU,zC5] at HL;rw [u8,u8,zCE,zAh (by simp at HL;omega)]
      ·cases hd
     ·cases hd
    ·rename_i m' n f hk;obtain ⟨p',BC,hr⟩:=R.hr.obj k _ hk;have e:p'=p:=zAe (BC.symm.trans hp);subst e;split at hd
     ·rename_i hm;cases hd;simp only [zAW,zBA,zCQ] at hm;obtain ⟨⟨FD,rfl⟩,hj⟩:=hm;have Dr:i<n:=hv;obtain ⟨o1,o2⟩:=Wi (ww FD) rv
      have bp:i*m+j<n*m:=by
       have:(i+1)*m<=n*m:=zGH _ Dr;rw [zHW] at this;omega
      have AD:0<m:=by omega
      refine Vf R hk hp hr hi (v:=a.eval x) (by rw [QV,o2];rfl) (o':=i*m+j) (by rw [o2];simp;omega) (by rw [o2];simp [o1]) (fun M ρ' w' O Ob=>?_) o tx x ho hx rfl;subst Ob;refine AY.writes hr (by rw [o2];simp;omega) (fun q v hq=>?_) (fun q u hq HL hu=>?_)
      ·rw [o2] at hq;have:q=0:=by have:=(zAf.1 hq).1;simpa using this
       subst this;have:v=a.eval x:=by simpa using hq.symm
       rw [this,zGc];have e1:(i*m+j)/m=i:=by rw [zGW,Nat.mul_add_div AD,Nat.div_eq_of_lt hj,zGc]
       have e2:(i*m+j) % m=j:=by rw [zGW,Nat.mul_add_mod,zHA hj]
       show AK M _ (if (i*m+j)/m=i/\ (i*m+j) % m=j then AW S.fr x else f ((i*m+j)/m) ((i*m+j) % m)) [] _
       rw [zAM ⟨e1,e2⟩];exact AK.out _ O.nil (aU FD rv)
      ·rw [o2] at HL;simp at HL
       have: ¬ (q/m=i/\ q % m=j):=fun ⟨e1,e2⟩=>by
        have:=Nat.div_add_mod q m;rw [e1,e2,zGW] at this;omega
       show AK M _ (if q/m=i/\ q % m=j then AW S.fr x else f (q/m) (q % m)) [] _
       rw [zAh this];exact AK.out _ O.nil hu
     ·cases hd
    ·cases hd
  ·cases hd
 ·cases hd
theorem MO.kill {k:Nat}{b:Nat}(hb:MO (h.set k none) ρ b):MO h ρ b:=MO.unset hb
theorem GX {k i:Nat}{o:DO}(hi:(h.set k none)[i]? =some (some o)):i≠k/\ h[i]? =some (some o):=by
 rw [zCE] at hi
 by_cases e:k=i
 ·rw [zAM e] at hi;split at hi <;> cases hi
 ·rw [zAh e] at hi;exact ⟨zG9 e,hi⟩
theorem A1.kill (H:A1 P Γ N h ρ w)(k:Nat):A1 P Γ N (h.set k none) ρ w:=by
 have O:BS (MS N h ρ) w ρ (MS N (h.set k none) ρ) w ρ:=⟨fun _ _ _ _=>rfl,fun b hb=>.inl (hb.imp id MO.kill),fun _ _ h=>h⟩;refine ⟨by simp [H.len],fun i o hi=>?_,fun i o p b h1 h2 h3=>H.cel i o p b (GX h1).2 h2 h3,fun i i' o o' p p' b Ad h1 h2 h3 h4 h5 h6=>H.dis i i' o o' p p' b Ad (GX h1).2 (GX h2).2 h3 h4 h5 h6,H.nlt,H.gi⟩;obtain ⟨p,hp,hr⟩:=H.obj i o (GX hi).2;exact ⟨p,hp,hr.out O (S:=fun _=>False) (AO.refl _ w) (fun _ h=>h.elim) (fun _ _ _ h=>h)⟩
theorem BS.kill (k:Nat):BS (MS N h ρ) w ρ (MS N (h.set k none) ρ) w ρ:=⟨fun _ _ _ _=>rfl,fun b hb=>.inl (hb.imp id MO.kill),fun _ _ h=>h⟩
theorem A5.kill (k:Nat):A5 h ρ w (h.set k none) ρ w:=⟨AO.refl _ w,fun b hb=>.inl (MO.kill hb)⟩
theorem A1.regrow (H:A1 P Γ N h ρ w){w':World}{k:Nat}{o o':DO}{p p':AH}(hk:h[k]? =some (some o))(hp:ρ[k]? =some p)(hu:AO p.foot w w')(hf: ∀ b,p'.foot b -> (p.foot b∨w.heap.size<=b)/\ Dm w' b) 
 (ho:EC P (MS N (h.set k none++[some o']) (ρ++[p'])) w' (ρ++[p']) p' o'):
 A1 P Γ N (h.set k none++[some o']) (ρ++[p']) w'/\ A5 h ρ w (h.set k none++[some o']) (ρ++[p']) w':=by
 have K:=H.kill k;have Ak:(h.set k none).length=h.length:=by simp
 have hM: ∀ b,p.foot b -> MO h ρ b:=fun b hb=>⟨k,o,p,hk,hp,hb⟩
 have I2: ∀ {i:Nat} {o1:DO} {p1:AH},(h.set k none++[some o'])[i]? =some (some o1) -> (ρ++[p'])[i]? =some p1 -> (i≠k/\ i<h.length/\ h[i]? =some (some o1)/\ ρ[i]? =some p1)∨(i=h.length/\ o1=o'/\ p1=p'):=by
  intro i o1 p1 h1 h2;rcases Dv h1 with ⟨hl,h1⟩ | ⟨hl,h1⟩
  ·rw [Ak] at hl;rcases Dv h2 with ⟨_,h2⟩ | ⟨Cs,_⟩
   ·exact .inl ⟨(GX h1).1,hl,(GX h1).2,h2⟩
   ·rw [H.len] at Cs;omega
  ·rw [Ak] at hl;rcases Dv h2 with ⟨Cs,_⟩ | ⟨_,h2⟩
   ·rw [H.len] at Cs;omega
   ·cases h1;exact .inr ⟨hl,rfl,h2.symm⟩
 have grow: ∀ b,MO (h.set k none++[some o']) (ρ++[p']) b -> MO h ρ b∨w.heap.size<=b:=by
  rintro b ⟨i,o1,p1,h1,h2,h3⟩;rcases I2 h1 h2 with ⟨_,_,g1,g2⟩ | ⟨_,_,rfl⟩
  ·exact .inl ⟨i,o1,p1,g1,g2,h3⟩
  ·exact (hf b h3).1.imp (hM b) id
 have O:BS (MS N h ρ) w ρ (MS N (h.set k none++[some o']) (ρ++[p'])) w' (ρ++[p']):=by
  refine ⟨fun b hb hm _=>hu.block b hb fun hx=>hm (.inr (hM b hx)),fun b hb=>?_,fun i q hi=>Eh hi⟩;rcases hb with hb | hb
  ·exact .inl (.inl hb)
  ·exact (grow b hb).imp .inr id
 refine ⟨⟨by simp [H.len],fun i o1 hi=>?_,fun i o1 p1 b h1 h2 h3=>?_,fun i i' o1 o2 p1 p2 b Ad h1 h2 h3 h4 h5 h6=>?_,fun b hb=>⟨zAj (H.nlt b hb).1 hu.size,(H.nlt b hb).2⟩,Γ.st _ _ H.gi (hu.mono fun b _ hb=>(H.cel k o p b hk hp hb).1)⟩,⟨hu.mono fun b _ hb=>hM b hb,grow⟩⟩
 ·rcases Dv hi with ⟨hl,hi⟩ | ⟨hl,hi⟩
  ·obtain ⟨p1,Mi,hr⟩:=H.obj i o1 (GX hi).2;refine ⟨p1,Eh Mi,hr.out O hu (fun b hb=>.inr (hM b hb)) fun b _ h1 h2=>H.dis i k o1 o p1 p b (GX hi).1 (GX hi).2 hk Mi hp h1 h2⟩
  ·cases hi;exact ⟨p',by rw [hl,Ak,←H.len];simp,ho⟩
 ·rcases I2 h1 h2 with ⟨Ad,_,g1,g2⟩ | ⟨_,_,rfl⟩
  ·obtain ⟨e1,e2,c,t,z,e3⟩:=H.cel i o1 p1 b g1 g2 h3;exact ⟨e1,e2,c,t,z,(hu.block b (zAZ.1 e3).1 fun hx=>H.dis i k o1 o p1 p b Ad g1 hk g2 hp h3 hx).trans e3⟩
  ·obtain ⟨e1,e2⟩:=hf b h3;rcases e1 with e1 | e1
   ·obtain ⟨q1,q2,_⟩:=H.cel k o p b hk hp e1;exact ⟨q1,q2,e2⟩
   ·exact ⟨zA0 (Γ.lo _ H.gi) e1,fun hn=>by have:=H.nlt b hn;omega,e2⟩
 ·have key: ∀ {i o1 p1},i≠k -> h[i]? =some (some o1) -> ρ[i]? =some p1 -> p1.foot b -> p'.foot b -> False:=fun {i o1 p1} Ad g1 g2 g3 g4=>by
   rcases (hf b g4).1 with e1 | e1
   ·exact H.dis i k o1 o p1 p b Ad g1 hk g2 hp g3 e1
   ·have:=H.lt (.inr ⟨i,o1,p1,g1,g2,g3⟩);omega
  rcases I2 h1 h3 with ⟨T0,_,g1,g2⟩ | ⟨e1,_,rfl⟩
  ·rcases I2 h2 h4 with ⟨_,_,g3,g4⟩ | ⟨_,_,rfl⟩
   ·exact H.dis i i' o1 o2 p1 p2 b Ad g1 g3 g2 g4 h5 h6
   ·exact key T0 g1 g2 h5 h6
  ·rcases I2 h2 h4 with ⟨Ok,_,g3,g4⟩ | ⟨e2,_,rfl⟩
   ·exact key Ok g3 g4 h6 h5
   ·exact Ad (e1.trans e2.symm)
def Ic (n:Nat)(R:Nat -> Value -> Prop)(B4:List Value)(j:Nat)(u:Value):Prop:=if j<n then R j u else B4[j-n]? =some u
theorem eY {t ty e:TypeId}{i:TypeInfo}{z:Value}(hu:P.underlying t=some (.slice e))(hi:P.info? e=some i)(hz:i.zero=some z)(Og:i.size≠0)(Cq:z.cells.size=i.size)(Du:i.bytes<=128) 
 {p:AH} {n cap:Nat} {R:Nat -> Value -> Prop} (hr:AY w p (n*i.size) R) (Mr:n<=cap) (XX:p.off+cap*i.size<=p.room)
 {vy:Value} {c:Nat} {B4:List Value} (hy:Src P i.size t vy c B4 w) (hb:n+c<=1000000000000):
 ∃ w' p' B7,(Builtin.append_ #[t,t] ty #[.slice (some ⟨p.blk,p.off,none⟩) n cap,vy]).run P w= .ok (.slice (some ⟨p'.blk,p'.off,none⟩) (n+c) B7) w'/\ n+c<=B7/\ p'.off+B7*i.size<=p'.room/\
  AO p.foot w w'/\ (∀ b,p'.foot b -> p.foot b∨w.heap.size<=b)/\ AY w' p' ((n+c)*i.size) (Ic (n*i.size) R B4):=by
 have J6:B4.length=c*i.size:=hy.newsLen
 by_cases cH:n+c<=cap
 ·obtain ⟨g1,cs,tt,g2,g3,g4,g5⟩:=hr;have zCI:(n+c)*i.size<=cap*i.size:=zGH _ cH;rw [zGY] at zCI;have nV:p.off+n*i.size+B4.length<=cs.size:=by omega
  refine ⟨w.setCells p.blk (p.off+n*i.size) B4,p,cap,run_append_room_src w t t ty e i hu hi p.blk p.off n cap vy c B4 hy cH (fun j hj=>?_) (fun j _=>by unfold World.frozen?;simp [g2]),cH,XX,?_,fun b hb=>.inl hb,?_⟩
  ·unfold World.cell?;simp only [g2];simp;omega
  ·rw [g1];exact Pf _ _ _ _
  ·obtain ⟨EZ,e1,e2,e3⟩:=Qi p.blk tt (0,0) B4 (p.off+n*i.size) w cs g2 nV;refine ⟨g1,EZ,tt,e1,by rw [zGY];omega,by omega,fun j hj=>?_⟩;rw [zGY] at hj;rw [e3]
   by_cases LP:j<n*i.size
   ·rw [zAh (by omega)];obtain ⟨u,q1,q2⟩:=g5 j LP;exact ⟨u,q1,by unfold Ic;rw [zAM LP];exact q2⟩
   ·rw [zAM (by omega)];have AM:j-n*i.size<B4.length:=by omega
    refine ⟨B4[j-n*i.size],by rw [show p.off+j-(p.off+n*i.size)=j-n*i.size by omega];simp [AM],?_⟩;unfold Ic;rw [zAh LP];simp [AM]
 ·obtain ⟨g,hg⟩: ∃ g:Nat -> Value,∀ j,j<n*i.size -> w.cell? ⟨p.blk,p.off+j,none⟩=some (g j)/\ R j (g j):=by
   refine ⟨fun j=>(w.cell? ⟨p.blk,p.off+j,none⟩).getD undef,fun j hj=>?_⟩;obtain ⟨u,h1,h2⟩:=hr.cell hj;simp [h1,h2]
  have Mk:(Builtin.firstCells i.size n (.slice (some ⟨p.blk,p.off,none⟩) n cap)).run P w.drew= .ok (((List.range (n*i.size)).map g).toArray) w.drew:=by
   have:=run_loadCells (P:=P) w.drew ⟨p.blk,p.off,none⟩ (n*i.size) g (fun j hj=>by rw [JP];exact ((Aq.toDrew w).cell (hg j hj).1));simpa [Builtin.firstCells] using this
  have zCH:(n+c)*i.bytes<=1000000000000*128:=Nat.mul_le_mul hb Du;have J4:=run_append_grow_src (P:=P) w t t ty e i z hu hi hz (some ⟨p.blk,p.off,none⟩) n cap _ Mk vy c B4 hy (by omega) (by omega) (growslice_fits (by omega) (by omega));have Xk:n+c<=grownCap w (n+c) cap e:=grownCap_ge w (n+c) cap e
  have Dh:((((List.range (n*i.size)).map g)++B4).toArray++Builtin.zeroCells z.cells (grownCap w (n+c) cap e-(n+c))).size=grownCap w (n+c) cap e*i.size:=by
   simp only [Array.size_append,zGl,zA7,zBC,zG0,J6,size_zeroCells,Cq,←zGY]
   congr 1;omega
  refine ⟨_,ER w (grownCap w (n+c) cap e*i.size),grownCap w (n+c) cap e,J4,Xk,by simp [ER],?_,fun b hb=>.inr (Nat.le_of_eq (Eq.symm hb)),?_⟩
  ·exact AO.ofExt ((Aq.toDrew w).allocR _)
  ·refine AY.out (Z6 (w:=w) (w1:=w.drew) (t:=e) (cs:=(((List.range (n*i.size)).map g)++B4).toArray++Builtin.zeroCells z.cells (grownCap w (n+c) cap e-(n+c))) rfl Dh |>fun hr=>?_) rfl (R:=fun j u=>((((List.range (n*i.size)).map g)++B4).toArray++Builtin.zeroCells z.cells (grownCap w (n+c) cap e-(n+c)))[j]? =some u) fun j u hj Bo=>?_
   ·obtain ⟨q1,cs,tt,q2,q3,q4,q5⟩:=hr;have CH:(n+c)*i.size<=grownCap w (n+c) cap e*i.size:=zGH _ Xk;exact ⟨q1,cs,tt,q2,by omega,q4,fun j hj=>q5 j (by omega)⟩
   ·rw [zGY] at hj;unfold Ic;have F8:j<(((List.range (n*i.size)).map g)++B4).length:=by simp;omega
    rw [zD4 (by simpa using F8)] at Bo
    by_cases LP:j<n*i.size
    ·rw [zAM LP]
     have:u=g j:=by
      simp only [zHg] at Bo;rw [zAk (by simpa using LP)] at Bo;simp [LP] at Bo;exact Bo.symm
     rw [this];exact (hg j LP).2
    ·rw [zAh LP];simp only [zHg] at Bo;rw [zAp (by simp;omega)] at Bo;simpa using Bo
theorem ea (ad:Option Addr:=none){t ty e:TypeId}{i:TypeInfo}{z:Value}(hu:P.underlying t=some (.slice e))(hi:P.info? e=some i)(hz:i.zero=some z)(Cq:z.cells.size=i.size)(Du:i.bytes<=128) 
 {vy:Value} {c:Nat} {B4:List Value} (hy:Src P i.size t vy c B4 w) (hc:0<c) (hb:c<=1000000000000):
 ∃ w' B7,(Builtin.append_ #[t,t] ty #[.slice ad 0 0,vy]).run P w= .ok (.slice (some ⟨w.heap.size,0,none⟩) c B7) w'/\ c<=B7/\ ∃ cs,w'=w.drew.alloc (.cells cs e)/\ cs.size=B7*i.size/\ ∀ j,j<c*i.size -> cs[j]? =B4[j]? :=by
 have J6:B4.length=c*i.size:=hy.newsLen;have Mk:(Builtin.firstCells i.size 0 (.slice ad 0 0)).run P w.drew= .ok (([]:List Value).toArray) w.drew:=by cases ad <;> simp [Builtin.firstCells,loadCells,loadCellsFrom]
 have zCH:c*i.bytes<=1000000000000*128:=Nat.mul_le_mul hb Du;have J4:=run_append_grow_src (P:=P) w t t ty e i z hu hi hz ad 0 0 [] Mk vy c B4 hy (by omega) (by omega) (growslice_fits (by omega) (by rw [zA8];omega));rw [zA8] at J4;have Xk:c<=grownCap w c 0 e:=grownCap_ge w c 0 e;refine ⟨_,_,J4,Xk,_,rfl,?_,fun j hj=>?_⟩
 ·simp only [zDE,Array.size_append,zGl,J6,size_zeroCells,Cq,←zGY]
  congr 1;omega
 ·rw [zD4 (by simp;omega)];simp
end
abbrev zDA:=@List.mem_map
abbrev zGS:=@Nat.eq_zero_or_pos
abbrev zGd:=@Nat.le_of_not_lt
def K9 (S:St):DV -> Option (List Int×Prop)
 | .nils=>some ([],True)
 | .ints l=>some (l,True)
 | .msl k m off n=>match S.h[k]? with
  | some (some (.ints l))=>if m==1 then some (l,off=0/\ n=l.length) else none
  | _=>none
 | _=>none
def PJ (S:St):DV -> Option (List Bool×Prop)
 | .nils=>some ([],True)
 | .bools l=>some (l,True)
 | .msl k m off n=>match S.h[k]? with
  | some (some (.bools l))=>if m==1 then some (l,off=0/\ n=l.length) else none
  | _=>none
 | _=>none
def O4 (S:St)(m:Nat):DV -> Option (Nat×(Nat -> Nat -> DV)×Prop)
 | .nils=>some (0,(fun _ _=>.any),True)
 | .sl m' n f=>if m'==m then some (n,f,True) else none
 | .msl k m' off n=>match S.h[k]? with
  | some (some (.arr m2 n2 f))=>if m'==m&&m2==m then some (n2,f,off=0/\ n=n2) else none
  | _=>none
 | _=>none
def BA:Nat:=1000000000000
def RM (P:Program)(S:St)(t:TypeId)(x y:DV):Option (DV×DH×Prop):=match KT P t with
 | some (k,_,i,_)=>if 128<i.bytes then none else match k with
  | .ints=>match K9 S y with
   | some (ys,vy)=>match x with
    | .nils=>some (.msl S.h.length 1 0 ys.length,S.h++[some (.ints ys)],vy/\ 0<ys.length/\ ys.length<=BA)
    | .msl k m off n=>match S.h[k]? with
     | some (some (.ints xs))=>if m==1 then some (.msl S.h.length 1 0 (xs.length+ys.length),S.h.set k none++[some (.ints (xs++ys))],vy/\ (off=0/\ n=xs.length)/\ xs.length+ys.length<=BA) else none
     | _=>none
    | _=>none
   | none=>none
  | .bools=>match PJ S y with
   | some (ys,vy)=>match x with
    | .nils=>some (.msl S.h.length 1 0 ys.length,S.h++[some (.bools ys)],vy/\ 0<ys.length/\ ys.length<=BA)
    | .msl k m off n=>match S.h[k]? with
     | some (some (.bools xs))=>if m==1 then some (.msl S.h.length 1 0 (xs.length+ys.length),S.h.set k none++[some (.bools (xs++ys))],vy/\ (off=0/\ n=xs.length)/\ xs.length+ys.length<=BA) else none
     | _=>none
    | _=>none
   | none=>none
  | .gen m=>match O4 S m y with
   | some (c,g,vy)=>match x with
    | .nils=>some (.msl S.h.length m 0 c,S.h++[some (.arr m c g)],(vy/\ ∀ i j,i<c -> j<m -> Iz (g i j)=true)/\ 0<c/\ c<=BA)
    | .msl k m' off n=>match S.h[k]? with
     | some (some (.arr m2 n2 f))=>if m'==m&&m2==m then some (.msl S.h.length m 0 (n2+c),S.h.set k none++[some (.arr m (n2+c) (fun i j=>if i<n2 then f i j else g (i-n2) j))],(vy/\ ∀ i j,i<c -> j<m -> Iz (g i j)=true)/\ (off=0/\ n=n2)/\ n2+c<=BA) else none
     | _=>none
    | _=>none
   | none=>none
 | none=>none
section
variable {P:Program} {Γ:At} {N:Nat -> Prop} {S:St} {ρ:List AH} {a:Act} {w:World} {h:DH}
theorem Rs {t e:TypeId}(hu:P.underlying t=some (.slice e)){m:Nat}{ad:Option Addr}{c cap:Nat}{B4:List Value}(hl:B4.length=c*m)(hc: ∀ j u,B4[j]? =some u -> ∃ b o,ad=some ⟨b,o,none⟩/\ w.cell? ⟨b,o+j,none⟩=some u) 
 (h1: ∀ u∈B4,u.oneCell'=true) (hm:0<m) (cW:ad=none -> c=0):Src P m t (.slice ad c cap) c B4 w:=by
 cases ad with
 | none=>
  have:=cW rfl;subst this;have:B4= []:=zDI (by simpa using hl);subst this;exact Src.ofNil w hu cap
 | some ad=>
  refine Src.ofSlice w hu ad c cap B4 hl (fun j u hj=>?_) h1;obtain ⟨b,o,e1,e2⟩:=hc j u hj;cases e1;rw [JP];exact e2
theorem Th (R:AR P Γ N S ρ a w){t e:TypeId}(hu:P.underlying t=some (.slice e)){y:DV}{v:Value}(hy:AK (MS N S.h ρ) w y ρ v){ys:List Int}{vy:Prop}(h:K9 S y=some (ys,vy))(hv:vy):
 Src P 1 t v ys.length (ys.map (Value.int .i64)) w:=by
 have one: ∀ u∈ys.map (Value.int .i64),u.oneCell'=true:=fun u hu=>by obtain ⟨n,_,rfl⟩:=zDA.1 hu;rfl
 have val: ∀ {j:Nat} {u:Value},(ys.map (Value.int .i64))[j]? =some u -> j<ys.length/\ u= .int .i64 (ys.getD j 0):=fun {j u} hj=>by
  have AM:=(zAf.1 hj).1;have AM:j<ys.length:=by simpa using AM
  simp [AM] at hj;exact ⟨AM,by rw [←hj];simp [AM]⟩
 unfold K9 at h;split at h
 ·cases h;rw [show v=_ from hy];exact Src.ofNil w hu 0
 ·cases h;obtain ⟨ad,cap,rfl,h1,h2,h3⟩:=hy;refine Rs hu (by simp) (fun j u hj=>?_) one (by omega) (fun e=>?_)
  ·obtain ⟨AM,rfl⟩:=val hj;obtain ⟨b,o,e1,_,e2⟩:=h3 j AM;exact ⟨b,o,e1,e2⟩
  ·rcases zGS ys.length with h0 | h0
   ·exact h0
   ·obtain ⟨b,o,e1,_⟩:=h3 0 h0;rw [e] at e1;cases e1
 ·rename_i k m off n;obtain ⟨p,cap,hp,rfl,h1,h2,h3⟩:=hy;split at h
  ·rename_i l hk;split at h
   ·rename_i hm;cases h;have Cd:m=1:=by simpa using hm
    subst Cd;obtain ⟨p',BC,hr⟩:=R.hr.obj k _ hk;have e:p'=p:=zAe (BC.symm.trans hp);subst e;obtain ⟨rfl,rfl⟩:=hv;refine Rs hu (by simp) (fun j u hj=>?_) one (by omega) (fun e=>by cases e);obtain ⟨AM,rfl⟩:=val hj;obtain ⟨u,e1,e2⟩:=AY.cell hr AM;exact ⟨p'.blk,p'.off,by simp,by rw [e1,e2]⟩
   ·cases h
  ·cases h
 ·cases h
theorem p7 (R:AR P Γ N S ρ a w){t e:TypeId}(hu:P.underlying t=some (.slice e)){y:DV}{v:Value}(hy:AK (MS N S.h ρ) w y ρ v){ys:List Bool}{vy:Prop}(h:PJ S y=some (ys,vy))(hv:vy):
 Src P 1 t v ys.length (ys.map Value.bool) w:=by
 have one: ∀ u∈ys.map Value.bool,u.oneCell'=true:=fun u hu=>by obtain ⟨n,_,rfl⟩:=zDA.1 hu;rfl
 have val: ∀ {j:Nat} {u:Value},(ys.map Value.bool)[j]? =some u -> j<ys.length/\ u= .bool (ys.getD j false):=fun {j u} hj=>by
  have AM:=(zAf.1 hj).1;have AM:j<ys.length:=by simpa using AM
  simp [AM] at hj;exact ⟨AM,by rw [←hj];simp [AM]⟩
 unfold PJ at h;split at h
 ·cases h;rw [show v=_ from hy];exact Src.ofNil w hu 0
 ·cases h;obtain ⟨ad,cap,rfl,h1,h2,h3⟩:=hy;refine Rs hu (by simp) (fun j u hj=>?_) one (by omega) (fun e=>?_)
  ·obtain ⟨AM,rfl⟩:=val hj;obtain ⟨b,o,e1,_,e2⟩:=h3 j AM;exact ⟨b,o,e1,e2⟩
  ·rcases zGS ys.length with h0 | h0
   ·exact h0
   ·obtain ⟨b,o,e1,_⟩:=h3 0 h0;rw [e] at e1;cases e1
 ·rename_i k m off n;obtain ⟨p,cap,hp,rfl,h1,h2,h3⟩:=hy;split at h
  ·rename_i l hk;split at h
   ·rename_i hm;cases h;have Cd:m=1:=by simpa using hm
    subst Cd;obtain ⟨p',BC,hr⟩:=R.hr.obj k _ hk;have e:p'=p:=zAe (BC.symm.trans hp);subst e;obtain ⟨rfl,rfl⟩:=hv;refine Rs hu (by simp) (fun j u hj=>?_) one (by omega) (fun e=>by cases e);obtain ⟨AM,rfl⟩:=val hj;obtain ⟨u,e1,e2⟩:=AY.cell hr AM;exact ⟨p'.blk,p'.off,by simp,by rw [e1,e2]⟩
   ·cases h
  ·cases h
 ·cases h
theorem M4 {ρ':Operand -> Value}{o:Oper}{c:Call}{x y:Operand}{t t2:TypeId}(ho:o.op= .call c)(hc:c.callee= .builtin .append)(ha:c.args.toList= [x,y])(ht:c.argTypes.toList= [t,t2]):
 execOp ρ' o=(do pure (.value (←Builtin.append_ #[t,t2] o.type #[ρ' x,ρ' y]))):=by
 unfold execOp;rw [ho]
 show (resolve ρ' c o.type>>=fun d=>invoke d.target d.args)=_
 unfold resolve;rw [hc,VU ha,VU ht];simp;rfl
theorem eZ (R:AR P Γ N S ρ a w){t e:TypeId}{i:TypeInfo}{z:Value}(hu:P.underlying t=some (.slice e))(hi:P.info? e=some i)(hz:i.zero=some z)(Og:i.size≠0)(Cq:z.cells.size=i.size)(Du:i.bytes<=128) 
 {k:Nat} {ob ob':DO} {p:AH} (hk:S.h[k]? =some (some ob)) (hp:ρ[k]? =some p) {n cap c:Nat} {Rw:Nat -> Value -> Prop} (hr:AY w p (n*i.size) Rw) (Mr:n<=cap) (XX:p.off+cap*i.size<=p.room)
 {vy:Value} {B4:List Value} (hy:Src P i.size t vy c B4 w) (hb:n+c<=BA)
 (IW: ∀ M ρ' w' p',BS (MS N S.h ρ) w ρ M w' ρ' -> AY w' p' ((n+c)*i.size) (Ic (n*i.size) Rw B4) -> EC P M w' ρ' p' ob')
 (o:Oper) {cl:Call} {x y:Operand} (ho:o.op= .call cl) (hc:cl.callee= .builtin .append) (ha:cl.args.toList= [x,y]) (ht:cl.argTypes.toList= [t,t]) (hx:a.eval x= .slice (some ⟨p.blk,p.off,none⟩) n cap) (b9:a.eval y=vy):
 BL P (execOp a.eval o) w (Ci P Γ N S.h ρ w false (.msl S.h.length i.size 0 (n+c)) (S.h.set k none++[some ob'])):=by
 obtain ⟨w',p',B7,h1,h2,h3,h4,h5,h6⟩:=eY (ty:=o.type) hu hi hz Og Cq Du hr Mr XX hy hb;refine BL.value (M4 ho hc ha ht) (by rw [hx,b9];exact h1) ?_
 have zCq: ∀ b,p'.foot b -> Dm w' b:=fun b hb=>by
  obtain ⟨e1,cs,tt,e2,_⟩:=h6;rw [e1] at hb;exact .cells (c:=cs) (t:=tt) (z:=(0,0)) (by rw [show b=p'.blk from hb];exact e2)
 have Ak:(S.h.set k none).length=S.h.length:=by simp
 have O:BS (MS N S.h ρ) w ρ (MS N (S.h.set k none++[some ob']) (ρ++[p'])) w' (ρ++[p']):=by
  refine ⟨fun b hb hm _=>h4.block b hb fun hx=>hm (.inr ⟨k,ob,p,hk,hp,hx⟩),fun b hb=>?_,fun i q hi=>Eh hi⟩;rcases hb with hb | hb
  ·exact .inl (.inl hb)
  ·obtain ⟨i1,o1,p1,g1,g2,g3⟩:=hb;rcases Dv g1 with ⟨hl,g1⟩ | ⟨hl,_⟩
   ·rcases Dv g2 with ⟨_,g2⟩ | ⟨Cs,_⟩
    ·exact .inl (.inr ⟨i1,o1,p1,(GX g1).2,g2,g3⟩)
    ·rw [Ak] at hl;rw [R.hr.len] at Cs;omega
   ·rcases Dv g2 with ⟨Cs,_⟩ | ⟨_,rfl⟩
    ·rw [Ak] at hl;rw [R.hr.len] at Cs;omega
    ·exact (h5 b g3).imp (fun hx=>.inr ⟨k,ob,p,hk,hp,hx⟩) id
 obtain ⟨g1,g2⟩:=R.hr.regrow (o':=ob') hk hp h4 (fun b hb=>⟨h5 b hb,zCq b hb⟩) (IW _ _ _ _ O h6);refine ⟨⟨ρ++[p'],g1,⟨p',B7,by rw [←R.hr.len];simp,by simp,h2,by unfold LB;unfold BA at hb;omega,by simpa using h3⟩,g2,fun _ _ h=>Eh h⟩,fun h=>by cases h⟩
theorem eo (R:AR P Γ N S ρ a w){t e:TypeId}{i:TypeInfo}{z:Value}(hu:P.underlying t=some (.slice e))(hi:P.info? e=some i)(hz:i.zero=some z)(Cq:z.cells.size=i.size)(Du:i.bytes<=128) 
 {ob':DO} {c:Nat} {vy:Value} {B4:List Value} (hy:Src P i.size t vy c B4 w) (Oy:0<c) (hb:c<=BA)
 (IW: ∀ M ρ' w' p',BS (MS N S.h ρ) w ρ M w' ρ' -> AY w' p' (c*i.size) (fun j u=>B4[j]? =some u) -> EC P M w' ρ' p' ob') (ext:Bool)
 (o:Oper) {cl:Call} {x y:Operand} (ho:o.op= .call cl) (hc:cl.callee= .builtin .append) (ha:cl.args.toList= [x,y]) (ht:cl.argTypes.toList= [t,t]) (hx:a.eval x= .slice none 0 0) (b9:a.eval y=vy):
 BL P (execOp a.eval o) w (Ci P Γ N S.h ρ w ext (.msl S.h.length i.size 0 c) (S.h++[some ob'])):=by
 obtain ⟨w',B7,h1,h2,cs,rfl,h4,h5⟩:=ea none (ty:=o.type) hu hi hz Cq Du hy Oy hb;have J6:B4.length=c*i.size:=hy.newsLen;refine BL.value (M4 ho hc ha ht) (by rw [hx,b9];exact h1) ?_;have CH:c*i.size<=B7*i.size:=zGH _ h2;refine Qq (d:=.msl S.h.length i.size 0 c) R.hr ⟨Aq.toDrew w,rfl⟩ (fun M ρ' O=>IW _ _ _ _ O ?_) (fun M ρ' hp=>⟨_,B7,hp,by simp [ER],h2,by unfold LB;unfold BA at hb;omega,by simp only [ER];omega⟩) ext;refine Nu rfl (by omega) fun j hj=>?_
 rw [h5 j hj];exact ⟨B4[j],by simp [J6,hj],by simp [J6,hj]⟩
theorem ba {xs ys:List Int}{M:Nat -> Prop}{w':World}{ρ':List AH}{p':AH}{s:Nat}(hs:s=1)(h:AY w' p' ((xs.length+ys.length)*s) (Ic (xs.length*s) (fun j u=>u= .int .i64 (xs.getD j 0)) (ys.map (Value.int .i64)))):EC P M w' ρ' p' (.ints (xs++ys)):=by
 subst hs
 show AY _ _ (xs++ys).length _
 rw [zA7];rw [zCz,zCz] at h;refine AY.out h rfl fun j u hj hu=>?_
 unfold Ic at hu;split at hu
 ·rename_i AM;rw [hu];simp [u8,zAk AM]
 ·rename_i AM;have HN:j-xs.length<ys.length:=by omega
  simp [HN] at hu;rw [←hu];simp [u8,zAp (zGd AM),HN]
theorem zFR {xs ys:List Bool}{M:Nat -> Prop}{w':World}{ρ':List AH}{p':AH}{s:Nat}(hs:s=1)(h:AY w' p' ((xs.length+ys.length)*s) (Ic (xs.length*s) (fun j u=>u= .bool (xs.getD j false)) (ys.map Value.bool))):EC P M w' ρ' p' (.bools (xs++ys)):=by
 subst hs
 show AY _ _ (xs++ys).length _
 rw [zA7];rw [zCz,zCz] at h;refine AY.out h rfl fun j u hj hu=>?_
 unfold Ic at hu;split at hu
 ·rename_i AM;rw [hu];simp [u8,zAk AM]
 ·rename_i AM;have HN:j-xs.length<ys.length:=by omega
  simp [HN] at hu;rw [←hu];simp [u8,zAp (zGd AM),HN]
theorem oE (R:AR P Γ N S ρ a w){t e:TypeId}(hu:P.underlying t=some (.slice e)){y:DV}{v:Value}(hy:AK (MS N S.h ρ) w y ρ v){m c:Nat}(AD:0<m){g:Nat -> Nat -> DV}{vy:Prop}(h:O4 S m y=some (c,g,vy))(hv:vy) 
 (h1: ∀ i j,i<c -> j<m -> Iz (g i j)=true): ∃ B4,Src P m t v c B4 w/\ ∀ j u,B4[j]? =some u -> AK (MS N S.h ρ) w (g (j/m) (j % m)) [] u:=by
 have dm: ∀ {j:Nat},j<c*m -> j/m<c/\ j % m<m/\ j/m*m+j % m=j:=fun {j} hj=>⟨by rw [zGh AD];exact hj,zHx _ AD,by rw [zGW];exact Nat.div_add_mod j m⟩
 have dx: ∀ (ad:Option Addr) (cap:Nat),(∀ j,j<c*m -> ∃ b o u,ad=some ⟨b,o,none⟩/\ w.cell? ⟨b,o+j,none⟩=some u/\ AK (MS N S.h ρ) w (g (j/m) (j % m)) [] u) -> v= .slice ad c cap -> (ad=none -> c=0) ->
  ∃ B4,Src P m t v c B4 w/\ ∀ j u,B4[j]? =some u -> AK (MS N S.h ρ) w (g (j/m) (j % m)) [] u:=by
  intro ad cap hc hve cW
  obtain ⟨f,hf⟩: ∃ f:Nat -> Value,∀ j,j<c*m -> ∃ b o,ad=some ⟨b,o,none⟩/\ w.cell? ⟨b,o+j,none⟩=some (f j)/\ AK (MS N S.h ρ) w (g (j/m) (j % m)) [] (f j):=by
   refine ⟨fun j=>(match ad with | some a=>w.cell? ⟨a.block,a.off+j,none⟩ | none=>none).getD undef,fun j hj=>?_⟩;obtain ⟨b,o,u,rfl,e2,e3⟩:=hc j hj;exact ⟨b,o,rfl,by simp [e2],by simpa [e2] using e3⟩
  have val: ∀ {j:Nat} {u:Value},((List.range (c*m)).map f)[j]? =some u -> j<c*m/\ u=f j:=fun {j u} hj=>by
   have AM:=(zAf.1 hj).1;have AM:j<c*m:=by simpa using AM
   simp [AM] at hj;exact ⟨AM,hj.symm⟩
  refine ⟨(List.range (c*m)).map f,?_,fun j u hj=>?_⟩
  ·rw [hve];refine Rs hu (by simp) (fun j u hj=>?_) (fun u Bo=>?_) AD cW
   ·obtain ⟨AM,rfl⟩:=val hj;obtain ⟨b,o,e1,e2,_⟩:=hf j AM;exact ⟨b,o,e1,e2⟩
   ·obtain ⟨j,hj,rfl⟩:=zDA.1 Bo;have AM:=zAn.1 hj;obtain ⟨_,_,_,_,e3⟩:=hf j AM;exact (Wi (h1 _ _ (dm AM).1 (dm AM).2.1) e3).1
  ·obtain ⟨AM,rfl⟩:=val hj;obtain ⟨_,_,_,_,e3⟩:=hf j AM;exact e3
 unfold O4 at h;split at h
 ·cases h;refine dx none 0 (fun j hj=>by rw [Nat.zero_mul] at hj;omega) hy (fun _=>rfl)
 ·rename_i m' n f;split at h
  ·rename_i hm;cases h;have Cd:m'=m:=by simpa using hm
   subst Cd;obtain ⟨ad,cap,rfl,g1,g2,g3⟩:=hy;refine dx ad cap (fun j hj=>?_) rfl (fun e=>?_)
   ·obtain ⟨b,o,u,e1,_,e2,e3⟩:=g3 _ _ (dm hj).1 (dm hj).2.1;exact ⟨b,o,u,e1,by rw [(dm hj).2.2] at e2;exact e2,e3⟩
   ·rcases zGS c with h0 | h0
    ·exact h0
    ·obtain ⟨b,o,u,e1,_⟩:=g3 0 0 h0 AD;rw [e] at e1;cases e1
  ·cases h
 ·rename_i k m' off n;obtain ⟨p,cap,hp,rfl,g1,g2,g3⟩:=hy;split at h
  ·rename_i m2 n2 f hk;split at h
   ·rename_i hm;cases h;simp only [zAW,zBA] at hm;obtain ⟨rfl,rfl⟩:=hm;obtain ⟨p',BC,hr⟩:=R.hr.obj k _ hk;have e:p'=p:=zAe (BC.symm.trans hp);subst e;obtain ⟨rfl,rfl⟩:=hv;refine dx (some ⟨p'.blk,p'.off+0*m2,none⟩) cap (fun j hj=>?_) rfl (fun e=>by cases e);obtain ⟨u,e1,e2⟩:=AY.cell hr hj;exact ⟨p'.blk,p'.off,u,by simp,e1,e2⟩
   ·cases h
  ·cases h
 ·cases h
theorem qS (R:AR P Γ N S ρ a w){t:TypeId}{x y:Operand}{d:DV}{h':DH}{vc:Prop}(hd:RM P S t (AW S.fr x) (AW S.fr y)=some (d,h',vc))(hv:vc)(o:Oper){cl:Call}(ho:o.op= .call cl)(hc:cl.callee= .builtin .append) 
 (ha:cl.args.toList= [x,y]) (ht:cl.argTypes.toList= [t,t]):BL P (execOp a.eval o) w (Ci P Γ N S.h ρ w false d h'):=by
 have rx:=Bj R x;have ry:=Bj R y;unfold RM at hd;split at hd
 ·rename_i kk e i z hk;obtain ⟨hu,hi,hz,h0,Cq,EW,hq1,HL⟩:=Ub hk;clear hq1 HL;split at hd
  ·cases hd
  ·rename_i Du;have Qn:i.bytes<=128:=by omega
   split at hd
   ·have C3:i.size=1:=EW.symm;split at hd
    ·rename_i ys vy hy;split at hd
     ·rename_i ex;cases hd;rw [ex] at rx
      have:=eo (ob':=.ints ys) R hu hi hz Cq Qn (by rw [C3];exact Th R hu ry hy hv.1) hv.2.1 hv.2.2 (fun M ρ' w' p' O hr=>by
       have Cr:=hr;rw [C3,zCz] at Cr;refine AY.out Cr rfl fun j u hj Bo=>?_
       simp [hj] at Bo;rw [←Bo];simp [hj]) false o ho hc ha ht rx rfl
      rw [C3] at this;exact this
     ·rename_i k m off n ex;rw [ex] at rx;obtain ⟨p,cap,hp,hx,g1,g2,g3⟩:=rx;split at hd
      ·rename_i xs Mn;split at hd
       ·rename_i hm;cases hd;have Cd:m=1:=by simpa using hm
        subst Cd;obtain ⟨q1,⟨rfl,rfl⟩,q3⟩:=hv;obtain ⟨p',BC,hr⟩:=R.hr.obj k _ Mn;have e:p'=p:=zAe (BC.symm.trans hp);subst e
        have:=eZ (ob':=.ints (xs++ys)) (n:=xs.length) (cap:=cap) (c:=ys.length) R hu hi hz h0 Cq Qn Mn hp (Rw:=fun j u=>u= .int .i64 (xs.getD j 0)) (by rw [C3,zCz];exact hr) g1 (by rw [C3];simpa using g3) (by rw [C3];exact Th R hu ry hy q1) q3
         (fun M ρ' w' p' O hr=>ba C3 hr) o ho hc ha ht (by simpa using hx) rfl
        rw [C3] at this;exact this
       ·cases hd
      ·cases hd
     ·cases hd
    ·cases hd
   ·have C3:i.size=1:=EW.symm;split at hd
    ·rename_i ys vy hy;split at hd
     ·rename_i ex;cases hd;rw [ex] at rx
      have:=eo (ob':=.bools ys) R hu hi hz Cq Qn (by rw [C3];exact p7 R hu ry hy hv.1) hv.2.1 hv.2.2 (fun M ρ' w' p' O hr=>by
       have Cr:=hr;rw [C3,zCz] at Cr;refine AY.out Cr rfl fun j u hj Bo=>?_
       simp [hj] at Bo;rw [←Bo];simp [hj]) false o ho hc ha ht rx rfl
      rw [C3] at this;exact this
     ·rename_i k m off n ex;rw [ex] at rx;obtain ⟨p,cap,hp,hx,g1,g2,g3⟩:=rx;split at hd
      ·rename_i xs Mn;split at hd
       ·rename_i hm;cases hd;have Cd:m=1:=by simpa using hm
        subst Cd;obtain ⟨q1,⟨rfl,rfl⟩,q3⟩:=hv;obtain ⟨p',BC,hr⟩:=R.hr.obj k _ Mn;have e:p'=p:=zAe (BC.symm.trans hp);subst e
        have:=eZ (ob':=.bools (xs++ys)) (n:=xs.length) (cap:=cap) (c:=ys.length) R hu hi hz h0 Cq Qn Mn hp (Rw:=fun j u=>u= .bool (xs.getD j false)) (by rw [C3,zCz];exact hr) g1 (by rw [C3];simpa using g3) (by rw [C3];exact p7 R hu ry hy q1) q3
         (fun M ρ' w' p' O hr=>zFR C3 hr) o ho hc ha ht (by simpa using hx) rfl
        rw [C3] at this;exact this
       ·cases hd
      ·cases hd
     ·cases hd
    ·cases hd
   ·rename_i m;have Bz:i.size=m:=EW.symm;have AD:0<m:=by omega
    split at hd
    ·rename_i c g vy hy;split at hd
     ·rename_i ex;cases hd;rw [ex] at rx;obtain ⟨B4,cE,cY⟩:=oE R hu ry AD hy hv.1.1 hv.1.2
      have:=eo (ob':=.arr m c g) R hu hi hz Cq Qn (by rw [Bz];exact cE) hv.2.1 hv.2.2 (fun M ρ' w' p' O hr=>by
       rw [Bz] at hr;exact AY.out hr rfl fun j u hj Bo=>AK.out _ O.nil (cY j u Bo)) false o ho hc ha ht rx rfl
      rw [Bz] at this;exact this
     ·rename_i k m' off n ex;rw [ex] at rx;obtain ⟨p,cap,hp,hx,g1,g2,g3⟩:=rx;split at hd
      ·rename_i m2 n2 f Mn;split at hd
       ·rename_i hm;cases hd;simp only [zAW,zBA] at hm;obtain ⟨rfl,rfl⟩:=hm;obtain ⟨q1,⟨rfl,rfl⟩,q3⟩:=hv;obtain ⟨p',BC,hr⟩:=R.hr.obj k _ Mn;have e:p'=p:=zAe (BC.symm.trans hp);subst e;obtain ⟨B4,cE,cY⟩:=oE R hu ry AD hy q1.1 q1.2
        have:=eZ (ob':=.arr m2 (n+c) (fun i j=>if i<n then f i j else g (i-n) j)) (n:=n) (cap:=cap) (c:=c) R hu hi hz h0 Cq Qn Mn hp (Rw:=fun j u=>AK (MS N S.h ρ) w (f (j/m2) (j % m2)) [] u) (by rw [Bz];exact hr) g1 (by rw [Bz];simpa using g3) (by rw [Bz];exact cE) q3
         (fun M ρ' w' p' O hr=>by
          rw [Bz] at hr;refine AY.out hr rfl fun j u hj Bo=>?_
          show AK M w' (if j/m2<n then f (j/m2) (j % m2) else g (j/m2-n) (j % m2)) [] u
          unfold Ic at Bo
          by_cases AM:j<n*m2
          ·rw [zAM AM] at Bo;rw [zAM (by rw [zGh AD];exact AM)];exact AK.out _ O.nil Bo
          ·rw [zAh AM] at Bo;rw [zAh (by rw [zGh AD];exact AM)];have h1:=cY _ _ Bo;have e1:(j-n*m2)/m2=j/m2-n:=by rw [zGW n m2];exact Nat.sub_mul_div ..
           have e2:(j-n*m2) % m2=j % m2:=by
            have HN:j=(j-n*m2)+n*m2:=by omega
            rw [HN,Nat.add_mul_mod_self_right,Nat.add_sub_cancel]
           rw [e1,e2] at h1;exact AK.out _ O.nil h1) o ho hc ha ht (by simpa using hx) rfl
        rw [Bz] at this;exact this
       ·cases hd
      ·cases hd
     ·cases hd
    ·cases hd
 ·cases hd
end
abbrev zCZ:=@Bool.true_and
abbrev zCs:=@Bool.not_true
abbrev zC4:=@List.getElem?_take
abbrev zDT:=@List.map_cons
abbrev zGT:=@List.getElem?_drop
abbrev zHC:=@List.length_take
abbrev zHk:=@List.length_drop
abbrev zHs:=@Go.run_equalIn_int
def YE (Iw:Nat -> Option (Nat×Nat))(cells:List DV):List (Nat×DV) -> Option (List DV)
 | []=>some cells
 | (i,d)::rest=>match Iw i with
  | none=>none
  | some (off,size)=>match JI d with
   | none=>none
   | some l=>if l.length=size/\ off+l.length<=cells.length then YE Iw (Ni cells off l) rest else none
def aV (P:Program)(t:TypeId):Option (Value×(Nat -> Option (Nat×Nat))):=match P.info? t with
 | some it=>match P.underlying t with
  | some (.array _ e)=>match it.zero with
   | some z=>match P.info? e with
    | some ie=>some (z,fun i=>some (i*ie.size,ie.size))
    | none=>none
   | none=>none
  | some (.struct zDp)=>match it.zero with
   | some z=>match zDp.toList.mapM (fun f=>(P.info? f.type).map fun i=>(f.offset,i.size)) with
    | some N5=>some (z,fun i=>N5.toArray[i]?)
    | none=>none
   | none=>none
  | _=>none
 | none=>none
def Wx (P:Program)(S:St)(t:TypeId)(parts:List (Nat×Operand)):Option (DV×Prop):=match aV P t with
 | some (z,Iw)=>match YE Iw (z.cells.toList.map Gk) (parts.map fun x=>(x.1,AW S.fr x.2)) with
  | some l=>some (.agg l.length (fun j=>l.getD j .any),True)
  | none=>none
 | none=>none
def OB (P:Program)(t:TypeId)(m:Nat)(f:Nat -> DV)(off size:Nat):Option DV:= if off+size<=m then (if GQ P t then (if size=1 then some (f off) else none) else if U9 P t size then some (.agg size (Gc size fun j=>f (off+j))) else none) else none
def bW (P:Program)(t:TypeId)(x:DV)(n:Int):Option (DV×Prop):=match x with
 | .agg m f=>match P.underlying t with
  | some (.array len e)=>match P.info? e with
   | some i=>if GQ P e&&i.size==1&&len==m then some (f n.toNat,0<=n/\ n<len) else none
   | none=>none
  | _=>none
 | _=>none
def X8 (P:Program)(t:TypeId)(x:DV)(fi:Nat):Option (DV×Prop):=match x with
 | .agg m f=>match P.underlying t with
  | some (.struct fs)=>match fs[fi]? with
   | some fd=>match P.info? fd.type with
    | some i=>match OB P fd.type m f fd.offset i.size with
     | some d=>some (d,True)
     | none=>none
    | none=>none
   | none=>none
  | _=>none
 | _=>none
def dw (P:Program)(t:TypeId)(x:DV)(lo hi:Option Int):Option (DV×Prop):=match P.underlying t with
 | some (.slice e)=>match P.info? e with
  | some i=>match x with
   | .ints l=>if i.size=1 then some (.ints ((l.take (hi.getD l.length).toNat).drop (lo.getD 0).toNat),0<=lo.getD 0/\ lo.getD 0<=hi.getD l.length/\ hi.getD l.length<=l.length) else none
   | .bools l=>if i.size=1 then some (.bools ((l.take (hi.getD l.length).toNat).drop (lo.getD 0).toNat),0<=lo.getD 0/\ lo.getD 0<=hi.getD l.length/\ hi.getD l.length<=l.length) else none
   | .sl m n f=>if i.size=m then some (.sl m ((hi.getD n).toNat-(lo.getD 0).toNat) (fun i j=>f ((lo.getD 0).toNat+i) j),0<=lo.getD 0/\ lo.getD 0<=hi.getD n/\ hi.getD n<=n) else none
   | .msl k m off n=>if i.size=m then some (.mse k m (off+(lo.getD 0).toNat) ((hi.getD n).toNat-(lo.getD 0).toNat),0<=lo.getD 0/\ lo.getD 0<=hi.getD n/\ hi.getD n<=n) else none
   | _=>none
  | none=>none
 | _=>none
def XC (S:St):Option Operand -> Option (Option Int)
 | none=>some none
 | some x=>match AW S.fr x with
  | .int _ n=>some (some n)
  | _=>none
def Q4 (f g:Nat -> DV):List Nat -> Bool
 | []=>true
 | i::is=>(IP (f i)==IP (g i))&&Q4 f g is
def YM (P:Program)(t:TypeId)(f g:Nat -> DV)(m m':Nat):Option (List Nat):=match P.underlying t with
 | some (.array n e)=>match P.info? e with
  | some i=>match P.underlying e with
   | some (.int _)=>if i.size==1&&GQ P e&&P.eqGuardType P.depth t==false&&n==m&&n==m'&&(List.range n).all (fun i=>K7 (f i)&&K7 (g i)) then some (List.range n) else none
   | _=>none
  | none=>none
 | _=>none
def UY (P:Program)(op:BinOp)(t:TypeId)(x y:DV):Option (DV×Prop):=match op,x,y with
 | .eql,.agg m f,.agg m' g=>match YM P t f g m m' with
  | some is=>some (.bool (Q4 f g is),True)
  | none=>none
 | .neq,.agg m f,.agg m' g=>match YM P t f g m m' with
  | some is=>some (.bool (!(Q4 f g is)),True)
  | none=>none
 | _,_,_=>none
def Yf (P:Program)(t:TypeId):Bool:=match P.underlying t with
 | some (.interface _)=>false
 | some _=>true
 | none=>false
def eW (P:Program)(to:TypeId)(ok:Bool):DV -> Option DV
 | .cst (.iface t (.int k n))=>if t=to&&Yf P to then some (if ok then .tup 2 (fun j=>[DV.int k n,.bool true].getD j .any) else .int k n) else none
 | .cst .nilIface=>if ok&&Yf P to then match P.info? to with
  | some i=>match i.zero with
   | some (.int k n)=>some (.tup 2 (fun j=>[DV.int k n,.bool false].getD j .any))
   | _=>none
  | none=>none
  else none
 | _=>none
theorem zFl {P:Program}{M:Nat -> Prop}{w:World}{ρ:List AH}{xt to:TypeId}{ok:Bool}{d d':DV}{v:Value}(hr:AK M w d ρ v)(h:eW P to ok d=some d'): ∃ u,(∀ W,(Instr.typeAssert v xt to ok).run P W= .ok u W)/\ AK M w d' ρ u:=by
 have two: ∀ (k:IntKind) (n:Int) (b:Bool),AK M w (.tup 2 (fun j=>[DV.int k n,.bool b].getD j .any)) ρ (.tuple #[.int k n,.bool b]):=fun k n b=>⟨_,rfl,rfl,fun j hj=>match j,hj with
  | 0,_=>⟨_,rfl,rfl⟩
  | 1,_=>⟨_,rfl,rfl⟩
  | j+2,hj=>absurd hj (by omega)⟩
 unfold eW at h;split at h
 ·rename_i t k n;split at h
  ·rename_i hc;simp only [zAW,zCQ] at hc;obtain ⟨rfl,hc⟩:=hc;obtain ⟨rfl,_⟩:=hr;unfold Yf at hc;cases h;cases ok
   ·refine ⟨.int k n,fun W=>?_,rfl⟩;split at hc <;> first | (cases hc;done) | skip
    rename_i u Gn hu;cases u <;> first | (exact absurd rfl (Gn _)) | simp [Instr.typeAssert,zCY hu]
   ·refine ⟨.tuple #[.int k n,.bool true],fun W=>?_,two k n true⟩;split at hc <;> first | (cases hc;done) | skip
    rename_i u Gn hu;cases u <;> first | (exact absurd rfl (Gn _)) | simp [Instr.typeAssert,zCY hu]
  ·cases h
 ·split at h
  ·rename_i hc;simp only [zAW] at hc;obtain ⟨rfl,hc⟩:=hc;obtain ⟨rfl,_⟩:=hr;unfold Yf at hc;split at h
   ·rename_i i hi;split at h
    ·rename_i k n hz;cases h;refine ⟨.tuple #[.int k n,.bool false],fun W=>?_,two k n false⟩;split at hc <;> first | (cases hc;done) | skip
     rename_i u Gn hu;cases u <;> first | (exact absurd rfl (Gn _)) | simp [Instr.typeAssert,zCY hu,zeroValue,typeInfo,hi,hz]
    ·cases h
   ·cases h
  ·cases h
 ·cases h
def S6 (P:Program)(S:St):Op -> Option (DV×Prop)
 | .typeAssert x _ to ok=>match eW P to ok (AW S.fr x) with
  | some d=>some (d,True)
  | none=>none
 | .build t parts=>Wx P S t parts.toList
 | .index t x i=>match AW S.fr i with
  | .int _ n=>bW P t (AW S.fr x) n
  | _=>none
 | .field t x f=>X8 P t (AW S.fr x) f
 | .slice t x lo hi none=>match XC S lo with
  | some l=>match XC S hi with
   | some h=>dw P t (AW S.fr x) l h
   | none=>none
  | none=>none
 | .binOp op t x y t'=>match UY P op t (AW S.fr x) (AW S.fr y) with
  | some r=>some r
  | none=>P5 P S (.binOp op t x y t')
 | op=>P5 P S op
section
variable {P:Program} {Γ:At} {N:Nat -> Prop} {S:St} {ρ:List AH} {a:Act} {w:World}
def Y5 (M:Nat -> Prop)(w:World)(ρ:List AH)(l:List DV)(cs:Array Value):Prop:=cs.size=l.length/\ ∀ j,j<l.length -> ∃ u,cs[j]? =some u/\ AK M w (l.getD j .any) ρ u
theorem qN: ∀ (vs:List Value) (k off:Nat) (cs:Array Value),((vs.zipIdx k).foldl (fun (cs:Array Value) (x:Value×Nat)=>cs.setIfInBounds (off+x.2) x.1) cs).size=cs.size/\
 ∀ j,((vs.zipIdx k).foldl (fun (cs:Array Value) (x:Value×Nat)=>cs.setIfInBounds (off+x.2) x.1) cs)[j]? =if off+k<=j/\ j<off+k+vs.length/\ j<cs.size then vs[j-(off+k)]? else cs[j]?
 | [],k,off,cs=>⟨rfl,fun j=>by
  rw [zAh]
  ·rfl
  ·simp only [zC5];omega⟩
 | v::vs,k,off,cs=>by
  obtain ⟨h1,h2⟩:=qN vs (k+1) off (cs.setIfInBounds (off+k) v);rw [List.zipIdx_cons,zDH];refine ⟨by rw [h1];simp,fun j=>?_⟩;rw [h2 j,zCU];simp only [Array.size_setIfInBounds]
  by_cases e:j=off+k
  ·subst e;rw [zAh (by omega),zCu,zAM rfl]
   by_cases hs:off+k<cs.size
   ·rw [zAM hs,zAM (by omega),Nat.sub_self];rfl
   ·rw [zAh hs,zAh (by omega),zHV (by omega)]
  ·by_cases e2:off+(k+1)<=j/\ j<off+(k+1)+vs.length/\ j<cs.size
   ·rw [zAM e2,zAM (by omega),show j-(off+k)=(j-(off+(k+1)))+1 by omega];simp
   ·rw [zAh e2,zAh (by omega),zCu,zAh (by omega)]
theorem oV {M:Nat -> Prop}{Iw:Nat -> Option (Nat×Nat)}: ∀ (parts:List (Nat×Operand)) (l:List DV) (cs:Array Value) (r:List DV),Y5 M w ρ l cs -> (∀ x,AK M w (AW S.fr x) ρ (a.eval x)) ->
 YE Iw l (parts.map fun x=>(x.1,AW S.fr x.2))=some r -> ∃ rs,Instr.fill Iw cs (parts.map fun x=>(x.1,a.eval x.2))=some rs/\ Y5 M w ρ r rs
 | [],l,cs,r,hc,_,h=>by cases h;exact ⟨cs,rfl,hc⟩
 | (i,x)::rest,l,cs,r,hc,hr,h=>by
  simp only [zDT,YE] at h;split at h
  ·cases h
  ·rename_i off size FD;split at h
   ·cases h
   ·rename_i ds EL;split at h
    ·rename_i Ay;obtain ⟨c1,c2⟩:=Uj EL (hr x);have Ak:(a.eval x).cells.size=size:=by rw [c1,Ay.1]
     have nV: ¬ (off+(a.eval x).cells.size>cs.size):=by rw [c1,hc.1];omega
     obtain ⟨s1,s2⟩:=qN (a.eval x).cells.toList 0 off cs
     have IW:Y5 M w ρ (Ni l off ds) ((a.eval x).cells.zipIdx.foldl (fun cs (c,j)=>cs.setIfInBounds (off+j) c) cs):=by
      have e0:((a.eval x).cells.zipIdx.foldl (fun cs (c,j)=>cs.setIfInBounds (off+j) c) cs)=(((a.eval x).cells.toList.zipIdx 0).foldl (fun (cs:Array Value) (x:Value×Nat)=>cs.setIfInBounds (off+x.2) x.1) cs):=by
       rw [←Array.foldl_toList];simp
      rw [e0];refine ⟨by rw [s1,Zc,hc.1],fun j hj=>?_⟩;rw [Zc] at hj;rw [s2 j,Ze l off ds hj]
      by_cases e:off<=j/\ j<off+ds.length
      ·rw [zAM (by simp;rw [c1,hc.1];omega),zAM e];obtain ⟨u,g1,g2⟩:=c2 (j-off) (by omega);exact ⟨u,by simpa using g1,g2⟩
      ·rw [zAh (by simp;rw [c1];omega),zAh e];exact hc.2 j hj
     obtain ⟨rs,g1,g2⟩:=oV rest _ _ r IW hr h;refine ⟨rs,?_,g2⟩;simp only [zDT,Instr.fill,FD];rw [zAh (by simp only [zA9,zCQ];omega)];exact g1
    ·cases h
theorem wx {t:TypeId}{z:Value}{Iw:Nat -> Option (Nat×Nat)}(h:aV P t=some (z,Iw))(parts:List (Nat×Value)):P.built t parts=Instr.fill Iw z.cells parts:=by
 unfold aV at h;unfold Program.built
 repeat' (split at h)
 all_goals first
  | (cases h;done)
  | (cases h;simp_all)
theorem yk (R:AR P Γ N S ρ a w){t:TypeId}{parts:Array (Nat×Operand)}{d:DV}{vc:Prop}(h:Wx P S t parts.toList=some (d,vc)):Yl P N w (MS N S.h ρ) ρ (Instr.build t (parts.map fun (i,x)=>(i,a.eval x))) d:=by
 unfold Wx at h;split at h
 ·rename_i z Iw hp;split at h
  ·rename_i l hl;cases h
   have h0:Y5 (MS N S.h ρ) w ρ (z.cells.toList.map Gk) z.cells:=⟨by simp,fun j hj=>by
    have BJ:j<z.cells.size:=by simpa using hj
    exact ⟨z.cells[j],by simp [BJ],by
     have:(z.cells.toList.map Gk).getD j .any=Gk z.cells[j]:=by simp [BJ]
     rw [this];exact Wk _⟩⟩
   obtain ⟨rs,g1,g2,g3⟩:=oV parts.toList _ _ _ h0 (Bj R) hl;refine Yl.pure (v:=.agg rs) (fun W=>run_build W t _ rs ?_) ⟨rs,rfl,g2,g3⟩;rw [wx hp];have e1:(parts.map fun (i,x)=>(i,a.eval x)).toList=parts.toList.map fun x=>(x.1,a.eval x.2):=by simp
   rw [e1];exact g1
  ·cases h
 ·cases h
theorem Z2 {t:TypeId}{cs:Array Value}{off size m:Nat}{f:Nat -> DV}{d:DV}{M:Nat -> Prop}{i:TypeInfo}(hi:P.info? t=some i)(Ay:i.size=size)(Dh:cs.size=m)(hr: ∀ j,j<m -> ∃ u,cs[j]? =some u/\ AK M w (f j) ρ u)(h:OB P t m f off size=some d):Yl P N w M ρ (part t cs off) d:=by
 unfold OB at h;split at h
 ·rename_i CH;split at h
  ·rename_i h1;split at h
   ·rename_i hs;cases h;obtain ⟨u,g1,g2⟩:=hr off (by omega);unfold GQ at h1;simp only [zAW,zHK,zCw] at h1;obtain ⟨⟨dd,hd⟩,hn⟩:=h1;refine Yl.pure (v:=u) (fun W=>?_) g2;unfold part;rw [zA6,Sb hd];simp [Result.andThen,hn,g1]
   ·cases h
  ·split at h
   ·rename_i h2;cases h;obtain ⟨h3,i',BT,hs'⟩:=fL h2;have ei:i'=i:=zAe (BT.symm.trans hi);subst ei;obtain ⟨dd,hd⟩:=mN h3;refine Yl.pure (v:=.agg (cs.extract off (off+size))) (fun W=>?_) ⟨_,rfl,by simp;omega,fun j hj=>?_⟩
    ·unfold part;rw [zA6,Sb hd];simp only [Result.andThen,h3,zC9];rw [zA6,Je hi,Ay];rfl
    ·obtain ⟨u,g1,g2⟩:=hr (off+j) (by omega);refine ⟨u,?_,Kj hj g2⟩;rw [Array.getElem?_extract];rw [zAM (by omega)];exact g1
   ·cases h
 ·cases h
theorem zo (R:AR P Γ N S ρ a w){t:TypeId}{x d:DV}{vc:Prop}{v:Value}{k:IntKind}{n:Int}(hx:AK (MS N S.h ρ) w x ρ v)(h:bW P t x n=some (d,vc))(hv:vc):Yl P N w (MS N S.h ρ) ρ (Instr.index t v (.int k n)) d:=by
 unfold bW at h;split at h
 ·rename_i m f;obtain ⟨cs,rfl,hs,hr⟩:=hx;split at h
  ·rename_i len e hu;split at h
   ·rename_i i hi;split at h
    ·rename_i hc;cases h;simp only [zAW,zBA] at hc;obtain ⟨⟨h1,h2⟩,rfl⟩:=hc
     have hp:OB P e len f n.toNat 1=some (f n.toNat):=by
      unfold OB;rw [zAM (by omega),zAM h1,zAM rfl]
     obtain ⟨u,g1,g2⟩:=Z2 (P:=P) hi h2 hs hr hp;refine ⟨u,fun W hE=>?_,g2⟩;unfold Instr.index;simp only [asIntOf,zA6,zHB,Result.andThen,zCY hu];rw [zAM ⟨hv.1,hv.2⟩];simp only [zA6,Je hi,Result.andThen,h2,zCz];exact g1 W hE
    ·cases h
   ·cases h
  ·cases h
 ·cases h
theorem zDc (R:AR P Γ N S ρ a w){t:TypeId}{x d:DV}{vc:Prop}{v:Value}{fi:Nat}(hx:AK (MS N S.h ρ) w x ρ v)(h:X8 P t x fi=some (d,vc)):Yl P N w (MS N S.h ρ) ρ (Instr.field t v fi) d:=by
 unfold X8 at h;split at h
 ·rename_i m f;obtain ⟨cs,rfl,hs,hr⟩:=hx;split at h
  ·rename_i fs hu;split at h
   ·rename_i fd hf;split at h
    ·rename_i i hi;split at h
     ·rename_i d' hp;cases h;obtain ⟨u,g1,g2⟩:=Z2 (P:=P) hi rfl hs hr hp;refine ⟨u,fun W hE=>?_,g2⟩;unfold Instr.field;simp only [zA6,zCY hu,Result.andThen,hf,asAgg,zHB];exact g1 W hE
     ·cases h
    ·cases h
   ·cases h
  ·cases h
 ·cases h
theorem vQ {k:IntKind}{n:Int}{y:Nat}{c:BoundsCode}(h0:0<=n)(h1:n<=y)(W:World):(Instr.sliceBound (.int k n) y c).run P W= .ok n.toNat W:=by
 unfold Instr.sliceBound;simp only [asIntOf,zA6,zHB,Result.andThen];rw [zAM ⟨h0,h1⟩];rfl
theorem mO (R:AR P Γ N S ρ a w){o:Option Operand}{l:Option Int}(h:XC S o=some l): ∃ k,o.map a.eval=l.map (Value.int k):=by
 cases o with
 | none=>cases h;exact ⟨.i64,rfl⟩
 | some x=>
  simp only [XC] at h;split at h
  ·rename_i k n e;cases h;have:=Bj R x;rw [e] at this;exact ⟨k,by simp only [zCO];rw [show a.eval x=_ from this]⟩
  ·cases h
theorem V1 {t e:TypeId}{i:TypeInfo}{ad:Option Addr}{len cap:Nat}{kl kh:IntKind}{lo hi:Option Int}(hu:P.underlying t=some (.slice e))(BT:P.info? e=some i)(h0:0<=lo.getD 0)(h1:lo.getD 0<=hi.getD len)(h2:hi.getD len<=len)(h3:len<=cap)(W:World):
 (Instr.sliceAt t (.slice ad len cap) (lo.map (Value.int kl)) (hi.map (Value.int kh)) none).run P W=
  .ok (.slice (if cap=(lo.getD 0).toNat then ad else ad.map (·.add ((lo.getD 0).toNat*i.size))) ((hi.getD len).toNat-(lo.getD 0).toNat) (cap-(lo.getD 0).toNat)) W:=by
 have hb:(Instr.sliceBounds true len cap (lo.map (Value.int kl)) (hi.map (Value.int kh)) none).run P W= .ok ((lo.getD 0).toNat,(hi.getD len).toNat,cap) W:=by
  cases lo <;> cases hi <;> simp only [Option.map_none,zCO,Option.getD_none,zGK] at* <;>
   simp (disch:=omega) [Instr.sliceBounds,vQ,zA6,Result.andThen]
 unfold Instr.sliceAt;simp only [zA6,zCY hu,Result.andThen];unfold Instr.slice;simp only [zA6,zCY hu,Result.andThen,hb,Je BT];rfl
theorem zEY (R:AR P Γ N S ρ a w){t:TypeId}{x d:DV}{vc:Prop}{v:Value}{kl kh:IntKind}{lo hi:Option Int}(hx:AK (MS N S.h ρ) w x ρ v)(h:dw P t x lo hi=some (d,vc))(hv:vc):
 Yl P N w (MS N S.h ρ) ρ (Instr.sliceAt t v (lo.map (Value.int kl)) (hi.map (Value.int kh)) none) d:=by
 unfold dw at h;split at h
 ·rename_i e hu;split at h
  ·rename_i i BT
   have gd: ∀ {α:Type} (l:List α) (q c j:Nat) (d:α),j<((l.take c).drop q).length -> ((l.take c).drop q).getD j d=l.getD (q+j) d:=fun l q c j d hj=>by
    simp only [zHk,zHC] at hj;simp only [u8,zGT,zC4];rw [zAM (by omega)]
   split at h
   ·rename_i l;split at h
    ·rename_i hs;cases h;obtain ⟨ad,cap,rfl,g1,g2,g3⟩:=hx;obtain ⟨v1,v2,v3⟩:=hv;have hl:((l.take (hi.getD l.length).toNat).drop (lo.getD 0).toNat).length=(hi.getD l.length).toNat-(lo.getD 0).toNat:=by simp;omega
     refine Yl.pure (fun W=>V1 hu BT v1 v2 v3 g1 W) ⟨_,_,by rw [hl],by omega,by omega,fun j hj=>?_⟩;have BJ:=hj;rw [hl] at BJ;obtain ⟨b,o,rfl,q1,q2⟩:=g3 ((lo.getD 0).toNat+j) (by omega);refine ⟨b,o+(lo.getD 0).toNat,?_,q1,?_⟩
     ·rw [zAh (by omega)];simp only [zCO,JP,hs,zCz]
     ·rw [gd _ _ _ _ _ hj,zCg];exact q2
    ·cases h
   ·rename_i l;split at h
    ·rename_i hs;cases h;obtain ⟨ad,cap,rfl,g1,g2,g3⟩:=hx;obtain ⟨v1,v2,v3⟩:=hv;have hl:((l.take (hi.getD l.length).toNat).drop (lo.getD 0).toNat).length=(hi.getD l.length).toNat-(lo.getD 0).toNat:=by simp;omega
     refine Yl.pure (fun W=>V1 hu BT v1 v2 v3 g1 W) ⟨_,_,by rw [hl],by omega,by omega,fun j hj=>?_⟩;have BJ:=hj;rw [hl] at BJ;obtain ⟨b,o,rfl,q1,q2⟩:=g3 ((lo.getD 0).toNat+j) (by omega);refine ⟨b,o+(lo.getD 0).toNat,?_,q1,?_⟩
     ·rw [zAh (by omega)];simp only [zCO,JP,hs,zCz]
     ·rw [gd _ _ _ _ _ hj,zCg];exact q2
    ·cases h
   ·rename_i m n f;split at h
    ·rename_i hs;cases h;obtain ⟨ad,cap,rfl,g1,g2,g3⟩:=hx;obtain ⟨v1,v2,v3⟩:=hv;refine Yl.pure (fun W=>V1 hu BT v1 v2 v3 g1 W) ⟨_,_,rfl,by omega,by omega,fun i1 j Fh hj=>?_⟩;obtain ⟨b,o,u,rfl,q1,q2,q3⟩:=g3 ((lo.getD 0).toNat+i1) j (by omega) hj;refine ⟨b,o+(lo.getD 0).toNat*m,u,?_,q1,?_,q3⟩
     ·rw [zAh (by omega)];simp only [zCO,JP,hs]
     ·rw [zGY,zCg] at q2;rw [zCg];exact q2
    ·cases h
   ·rename_i k m off n;split at h
    ·rename_i hs;cases h;obtain ⟨p,cap,hp,rfl,g1,g2,g3⟩:=hx;obtain ⟨v1,v2,v3⟩:=hv;have CH:(lo.getD 0).toNat<=cap:=by omega
     refine Yl.pure (fun W=>V1 hu BT v1 v2 v3 g1 W) ⟨p,_,cap-(lo.getD 0).toNat,hp,rfl,by omega,by omega,fun hc=>⟨?_,?_⟩⟩
     ·rw [zAh (by omega)];simp only [zCO,JP,hs,zGY,zCg]
     ·have:cap*m=(lo.getD 0).toNat*m+(cap-(lo.getD 0).toNat)*m:=by rw [←zGY];congr 1;omega
      rw [zGY];omega
    ·cases h
   ·cases h
  ·cases h
 ·cases h
theorem jV {e:TypeId}{k':IntKind}{i:TypeInfo}{n d:Nat}{xs ys:Array Value}{f g:Nat -> DV}{M:Nat -> Prop}(hi:P.info? e=some i)(hs:i.size=1)(h1:GQ P e=true)(hk:P.underlying e=some (.int k'))(hx:xs.size=n)(hy:ys.size=n) 
 (rx: ∀ j,j<n -> ∃ u,xs[j]? =some u/\ AK M w (f j) ρ u) (ry: ∀ j,j<n -> ∃ u,ys[j]? =some u/\ AK M w (g j) ρ u) (hI: ∀ j,j<n -> K7 (f j)=true/\ K7 (g j)=true):
 ∀ (is:List Nat),(∀ j∈is,j<n) -> ∀ W,Keep N w W -> (Op.eqItems (d+1) e 1 xs ys is).run P W= .ok (Q4 f g is) W
 | [],_,W,_=>rfl
 | j::is,hb,W,hE=>by
  have hj:j<n:=hb j (by simp)
  have kU: ∀ {cs:Array Value} {f:Nat -> DV},cs.size=n -> (∀ j,j<n -> ∃ u,cs[j]? =some u/\ AK M w (f j) ρ u) -> K7 (f j)=true -> (part e cs (j*1)).run P W= .ok (.int .i64 (IP (f j))) W:=by
   intro cs f hc hr hf
   have hp:OB P e n f (j*1) 1=some (f j):=by
    unfold OB;rw [zAM (by omega),zAM h1,zAM rfl,zCz]
   obtain ⟨u,g1,g2⟩:=Z2 (P:=P) hi hs hc hr hp;rw [g1 W hE,bX hf g2]
  simp only [Op.eqItems,zA6,kU hx rx (hI j hj).1,kU hy ry (hI j hj).2,Result.andThen,zHs W d e .i64 k' _ _ hk];unfold Q4;cases hq:(IP (f j)==IP (g j)) with
  | false=>rfl
  | true=>
   simp only [zCs,zCe,zGQ,zCZ];exact jV hi hs h1 hk hx hy rx ry hI is (fun j hj=>hb j (by simp [hj])) W hE
theorem zD2 {M:Nat -> Prop}{op:BinOp}{t:TypeId}{x y:DV}{vx vy:Value}{d:DV}{vc:Prop}(ox oy:Operand)(hx:AK M w x ρ vx)(hy:AK M w y ρ vy)(h:UY P op t x y=some (d,vc)):
 Yl P N w M ρ (do eqGuard op t ox oy vx vy;binOp op t vx vy) d:=by
 have key: ∀ {m m':Nat} {f g:Nat -> DV} {is:List Nat} {xs ys:Array Value},YM P t f g m m'=some is -> xs.size=m -> ys.size=m' -> (∀ j,j<m -> ∃ u,xs[j]? =some u/\ AK M w (f j) ρ u) -> (∀ j,j<m' -> ∃ u,ys[j]? =some u/\ AK M w (g j) ρ u) ->
  P.eqGuardType P.depth t=false/\ ∀ W,Keep N w W -> (Op.equalIn 10000 t (.agg xs) (.agg ys)).run P W= .ok (Q4 f g is) W:=by
  intro m m' f g is xs ys hb sx sy rx ry;unfold YM at hb;split at hb
  ·rename_i n e hu;split at hb
   ·rename_i i hi;split at hb
    ·rename_i k' hk;split at hb
     ·rename_i hc;cases hb;simp only [zAW,zBA,zAg,zAn] at hc;obtain ⟨⟨⟨⟨⟨c1,c2⟩,c3⟩,c4⟩,c5⟩,c6⟩:=hc;subst c4;subst c5;refine ⟨c3,fun W hE=>?_⟩;have DM:P.cellsOf e=1:=by unfold Program.cellsOf;rw [hi];exact c1
      rw [run_equalIn_array W 9999 xs ys hu hi,DM];exact jV (d:=9998) hi c1 c2 hk sx sy rx ry c6 _ (fun j hj=>zAn.1 hj) W hE
     ·cases hb
    ·cases hb
   ·cases hb
  ·cases hb
 unfold UY at h;split at h
 ·rename_i m f m' g;split at h
  ·rename_i is hb;cases h;obtain ⟨xs,rfl,sx,rx⟩:=hx;obtain ⟨ys,rfl,sy,ry⟩:=hy;obtain ⟨k1,k2⟩:=key hb sx sy rx ry;refine ⟨.bool _,fun W hE=>?_,rfl⟩;simp only [zA6,run_eqGuard_agg W .eql t ox oy xs ys k1,Result.andThen,run_eql_struct,k2 W hE]
  ·cases h
 ·rename_i m f m' g;split at h
  ·rename_i is hb;cases h;obtain ⟨xs,rfl,sx,rx⟩:=hx;obtain ⟨ys,rfl,sy,ry⟩:=hy;obtain ⟨k1,k2⟩:=key hb sx sy rx ry;refine ⟨.bool _,fun W hE=>?_,rfl⟩;simp only [zA6,run_eqGuard_agg W .neq t ox oy xs ys k1,Result.andThen,run_neq_struct,k2 W hE]
  ·cases h
 ·cases h
theorem wu (R:AR P Γ N S ρ a w)(o:Oper){d:DV}{vc:Prop}(h:S6 P S o.op=some (d,vc))(hv:vc):
 ∃ v,(∀ W,Keep N w W -> (execOp a.eval o).run P W= .ok (.value v) W)/\ AK (MS N S.h ρ) w d ρ v:=by
 unfold S6 at h;split at h
 ·rename_i x xt to ok ho;split at h
  ·rename_i d' hd;cases h;obtain ⟨u,h1,h2⟩:=zFl (xt:=xt) (Bj R x) hd;exact HQ (s:=Instr.typeAssert (a.eval x) xt to ok) (by unfold execOp;rw [ho]) ⟨u,fun W _=>h1 W,h2⟩
  ·cases h
 ·rename_i t parts ho;exact HQ (by unfold execOp;rw [ho]) (yk R h)
 ·rename_i t x i ho;have hi:=Bj R i;split at h
  ·rename_i k n e;rw [e] at hi;refine HQ (s:=Instr.index t (a.eval x) (a.eval i)) (by unfold execOp;rw [ho]) ?_;rw [show a.eval i=_ from hi];exact zo R (Bj R x) h hv
  ·cases h
 ·rename_i t x f ho;exact HQ (s:=Instr.field t (a.eval x) f) (by unfold execOp;rw [ho]) (zDc R (Bj R x) h)
 ·rename_i t x lo hi ho;split at h
  ·rename_i l hl;split at h
   ·rename_i hh hhh;obtain ⟨k1,e1⟩:=mO R hl;obtain ⟨k2,e2⟩:=mO R hhh;refine HQ (s:=Instr.sliceAt t (a.eval x) (lo.map a.eval) (hi.map a.eval) none) (by unfold execOp;rw [ho];rfl) ?_;rw [e1,e2];exact zEY R (Bj R x) h hv
   ·cases h
  ·cases h
 ·rename_i op t x y t' ho;split at h
  ·rename_i r hr;cases h;exact HQ (by unfold execOp;rw [ho]) (zD2 x y (Bj R x) (Bj R y) hr)
  ·rw [←ho] at h;exact kN R o h hv
 ·exact kN R o h hv
end
abbrev zBD:=@List.getElem_mem
def BZ:List Prop -> Prop
 | []=>True
 | p::ps=>p/\ BZ ps
theorem C8 {l l':List Prop}:BZ (l++l')↔BZ l/\ BZ l':=by
 induction l with
 | nil=>simp [BZ]
 | cons p ps ih=>simp [BZ,ih,and_assoc]
def AS (d d':DV):Prop:=∀ (M:Nat -> Prop) (w:World) (ρ:List AH) (v:Value),AK M w d ρ v -> AK M w d' ρ v
section
variable {P:Program} {Γ:At} {N:Nat -> Prop}
theorem DJ {w:World}{M M':Nat -> Prop}(h: ∀ b,M' b -> M b)(ρ:List AH):BS M w ρ M' w ρ:=⟨fun _ _ _ _=>rfl,fun b hb=>.inl (h b hb),fun _ _ h=>h⟩
def dX:DO -> Option (Nat×Nat×DV)
 | .ints l=>some (1,l.length,.ints l)
 | .bools l=>some (1,l.length,.bools l)
 | .arr m n f=>some (m,n,.sl m n f)
 | .mo (.rws ls none)=>some (1,ls.length,.sl 1 ls.length fun i j=>([.ints (ls.getD i default)]:List DV).getD j .any)
 | _=>none
def IZ (k m:Nat)(v:DV):DV -> DV
 | .msl k' m' off n=>if k'=k/\ m'=m/\ off=0 then v else .msl k' m' off n
 | d=>d
def Qu (k m n:Nat):DV -> List Prop
 | .msl k' m' off n'=>if k'=k/\ m'=m/\ off=0 then [n'=n] else []
 | _=>[]
def X3 (k m:Nat)(v:DV):Option DO -> Option DO
 | some (.cells l)=>some (.cells (l.map (IZ k m v)))
 | some (.ro l)=>some (.ro (l.map (IZ k m v)))
 | o=>o
def oN (k m n:Nat):Option DO -> List Prop
 | some (.cells l)=>l.flatMap (Qu k m n)
 | some (.ro l)=>l.flatMap (Qu k m n)
 | _=>[]
def JE (k m:Nat)(v:DV)(S:St):St:=⟨S.fr.map (IZ k m v),(S.h.set k none).map (X3 k m v)⟩
theorem fG {l:List DV}{f:DV -> List Prop}(h:BZ (l.flatMap f)){d:DV}(hd:d∈l):BZ (f d):=by
 induction l with
 | nil=>simp at hd
 | cons x l ih=>
  rw [zHX] at h;obtain ⟨h1,h2⟩:=C8.1 h;rcases zCD.1 hd with rfl | hd
  ·exact h1
  ·exact ih h2 hd
theorem qZ {l:List (Option DO)}{f:Option DO -> List Prop}(h:BZ (l.flatMap f)){d:Option DO}(hd:d∈l):BZ (f d):=by
 induction l with
 | nil=>simp at hd
 | cons x l ih=>
  rw [zHX] at h;obtain ⟨h1,h2⟩:=C8.1 h;rcases zCD.1 hd with rfl | hd
  ·exact h1
  ·exact ih h2 hd
theorem zDU {M M':Nat -> Prop}{w:World}{ρ:List AH}{p:AH}{o:DO}{m n:Nat}{v:DV}(ho:dX o=some (m,n,v))(hr:EC P M w ρ p o)(hN: ∀ b,p.foot b -> ¬ M' b)(hM: ∀ b,M' b -> M b){u:Value}{cap:Nat}(hu:u= .slice (some ⟨p.blk,p.off+0*m,none⟩) n cap)(h1:n<=cap)(h2:n<=LB):AK M' w v ρ u:=by
 cases o with
 | cells l=>cases ho
 | iter e=>cases ho
 | ro l=>cases ho
 | mo x=>
  cases x with
  | rws ls B1=>
   cases B1 with
   | some y=>cases ho
   | none=>
    cases ho;obtain ⟨vs,hS⟩:=hr;obtain ⟨cs,t,e1,e2,e3,e4⟩:=hS.row;refine ⟨_,cap,hu,h1,h2,fun i j hi hj=>?_⟩;obtain rfl:j=0:=by omega
    have BT:i+1<vs.size:=by rw [hS.size];omega
    have e5:=e4 i hi;rw [zCF BT] at e5;refine ⟨p.blk,p.off,vs[i+1],by simp,hN _ hS.blk,by unfold World.cell?;simp [e1,e5],?_⟩;have hs:=hS.has i hi fun L e=>by cases e
    rw [show vs.getD (i+1) undef=vs[i+1] by simp [BT]] at hs;rcases hs with ⟨e,e'⟩ | ⟨q,c,e,g1,g2,g3,g4,g5⟩
    ·rw [e']
     show AK M' w (.ints (ls.getD i default)) [] _
     rw [e];exact ⟨none,0,rfl,zA5 _,by decide,fun j hj=>absurd hj (zAv j)⟩
    ·rw [e];refine ⟨_,c,rfl,g1,g3,fun k hk=>⟨q.blk,q.off,rfl,hN _ g4.1,?_⟩⟩;obtain ⟨x,k1,k2⟩:=g5.cell hk;rw [k1,k2]
  | _=>cases ho
 | ints l=>
  cases ho;have hN:=hN p.blk (by rw [hr.1]);refine ⟨_,cap,hu,h1,h2,fun j hj=>⟨p.blk,p.off,by simp,hN,?_⟩⟩;obtain ⟨x,e1,e2⟩:=AY.cell hr hj;rw [e1,e2]
 | bools l=>
  cases ho;have hN:=hN p.blk (by rw [hr.1]);refine ⟨_,cap,hu,h1,h2,fun j hj=>⟨p.blk,p.off,by simp,hN,?_⟩⟩;obtain ⟨x,e1,e2⟩:=AY.cell hr hj;rw [e1,e2]
 | arr m n f=>
  cases ho;have hN:=hN p.blk (by rw [hr.1]);refine ⟨_,cap,hu,h1,h2,fun i j hi hj=>?_⟩;have AM:i*m+j<n*m:=zAj (by rw [zHW];omega:i*m+j<(i+1)*m) (zGH m hi);obtain ⟨x,e1,e2⟩:=AY.cell hr AM;have hm:0<m:=by omega
  have d1:(i*m+j)/m=i:=by rw [zGW,Nat.mul_add_div hm];simp [Nat.div_eq_of_lt hj]
  have d2:(i*m+j) % m=j:=by rw [zGW,Nat.mul_add_mod];exact zHA hj
  rw [d1,d2] at e2;exact ⟨p.blk,p.off,x,by simp,hN,e1,AK.out _ (DJ hM []) e2⟩
theorem UR {k m:Nat}{v:DV}{h:DH}{i:Nat}{o':DO}(hi:((h.set k none).map (X3 k m v))[i]? =some (some o')):i≠k/\ ∃ o,h[i]? =some (some o)/\ X3 k m v (some o)=some o':=by
 rw [zCG] at hi;cases hx:(h.set k none)[i]? with
 | none=>rw [hx] at hi;cases hi
 | some x=>
  rw [hx] at hi;have hi:X3 k m v x=some o':=zAe hi;cases x with
  | none=>cases hi
  | some o=>exact ⟨(GX hx).1,o,(GX hx).2,hi⟩
def EB (S S':St):Prop:=∀ (P:Program) (Γ:At) (N:Nat -> Prop) (ρ:List AH) (a:Act) (w:World),AR P Γ N S ρ a w -> AR P Γ N S' ρ a w/\ A5 S.h ρ w S'.h ρ w
theorem EB.frz {S:St}(k:Nat){o:DO}{m n:Nat}{v:DV}(hk:S.h[k]? =some (some o))(ho:dX o=some (m,n,v))(hc:BZ (S.fr.flatMap (Qu k m n)))(I8:BZ (S.h.flatMap (oN k m n))):EB S (JE k m v S):=fun P Γ N ρ a w R=>by
 obtain ⟨p,hp,hr⟩:=R.hr.obj k _ hk
 have KG: ∀ b,MO (JE k m v S).h ρ b -> ∃ i o p',i≠k/\ S.h[i]? =some (some o)/\ ρ[i]? =some p'/\ p'.foot b:=by
  rintro b ⟨i,o',p',g1,g2,g3⟩;obtain ⟨e1,o2,e2,_⟩:=UR g1;exact ⟨i,o2,p',e1,e2,g2,g3⟩
 have hN: ∀ b,p.foot b -> ¬ MS N (JE k m v S).h ρ b:=by
  rintro b hf (hn | hb)
  ·exact (R.hr.cel k _ p b hk hp hf).2.1 hn
  ·obtain ⟨i,o2,p',e1,e2,g2,g3⟩:=KG _ hb;exact R.hr.dis i k _ _ p' p b e1 e2 hk g2 hp g3 hf
 have hM: ∀ b,MS N (JE k m v S).h ρ b -> MS N S.h ρ b:=fun b hb=>hb.imp id fun hb=>by
  obtain ⟨i,o2,p',_,e2,g2,g3⟩:=KG _ hb;exact ⟨i,o2,p',e2,g2,g3⟩
 have conv: ∀ (d:DV) (u:Value),BZ (Qu k m n d) -> AK (MS N S.h ρ) w d ρ u -> AK (MS N (JE k m v S).h ρ) w (IZ k m v d) ρ u:=by
  intro d u cy hd;cases d with
  | msl k' m' off n'=>
   simp only [Qu,IZ] at cy ⊢;split at cy
   ·rename_i e;obtain ⟨rfl,rfl,rfl⟩:=e;rw [zAM ⟨rfl,rfl,rfl⟩];obtain ⟨p',cap,BC,e,g1,g2,_⟩:=hd;have ep:p'=p:=zAe (BC.symm.trans hp);subst ep;have en:=cy.1;subst en;exact zDU ho hr hN hM e g1 g2
   ·rename_i e;rw [zAh e];exact AK.out _ (DJ hM ρ) hd
  | _=>exact AK.out _ (DJ hM ρ) hd
 refine ⟨⟨⟨by simp [JE,R.hr.len],fun i o' hi=>?_,fun i o' p' b g1 g2 g3=>?_,fun i i' o1 o2 p1 p2 b Ad g1 g2 g3 g4 g5 g6=>?_,R.hr.nlt,R.hr.gi⟩,⟨by simp [JE,R.fr.1],fun i hi=>?_⟩⟩,⟨AO.refl _ w,fun b hb=>.inl ?_⟩⟩
 ·obtain ⟨e1,o2,e2,e3⟩:=UR hi;obtain ⟨p',BC,Cr⟩:=R.hr.obj i o2 e2;refine ⟨p',BC,?_⟩;cases o2 with
  | cells l=>
   cases e3
   show AY w p' (l.map (IZ k m v)).length _
   rw [zBC];refine AY.out Cr rfl fun j u hj hu=>?_
   have:(l.map (IZ k m v)).getD j .any=IZ k m v (l.getD j .any):=by simp [hj]
   rw [this];refine conv _ _ ?_ hu
   have Ax:some (DO.cells l)∈S.h:=zCi e2;have:=qZ I8 Ax;exact fG (l:=l) this (by simp [hj])
  | ints l=>cases e3;exact AY.out Cr rfl fun j u _ hu=>hu
  | bools l=>cases e3;exact AY.out Cr rfl fun j u _ hu=>hu
  | arr m n f=>cases e3;exact AY.out Cr rfl fun j u _ hu=>AK.out _ (DJ hM []) hu
  | iter encs=>
   cases e3;obtain ⟨gf,lb,Rd,q1,q2,q3,q4⟩:=Cr;exact ⟨gf,lb,Rd,q1,q2,fun b hb=>⟨fun hm=>(q3 b hb).1 (hM b hm),(q3 b hb).2⟩,q4⟩
  | ro l=>
   cases e3;obtain ⟨r1,r2,r3⟩:=Cr;refine ⟨r1,fun hm=>r2 (hM _ hm),?_⟩
   show AY w _ (l.map (IZ k m v)).length _
   rw [zBC];refine AY.out r3 rfl fun j u hj hu=>?_
   have:(l.map (IZ k m v)).getD j .any=IZ k m v (l.getD j .any):=by simp [hj]
   rw [this];refine conv _ _ ?_ hu
   have Ax:some (DO.ro l)∈S.h:=zCi e2;have:=qZ I8 Ax;exact fG (l:=l) this (by simp [hj])
  | mo x=>cases e3;exact Cr
 ·obtain ⟨e1,o2,e2,e3⟩:=UR g1;obtain ⟨q1,q2,q3⟩:=R.hr.cel i o2 p' b e2 g2 g3;exact ⟨q1,q2,q3⟩
 ·obtain ⟨e1,o3,e2,_⟩:=UR g1;obtain ⟨dl,o4,dk,_⟩:=UR g2;exact R.hr.dis i i' o3 o4 p1 p2 b Ad e2 dk g3 g4 g5 g6
 ·have BT:i<S.fr.length:=by simpa [JE] using hi
  have:(JE k m v S).fr.getD i .any=IZ k m v (S.fr.getD i .any):=by simp [JE,BT]
  rw [this];refine conv _ _ (fG hc (by simp [BT])) (R.fr.2 i BT)
 ·obtain ⟨i,o2,p',_,e2,g2,g3⟩:=KG _ hb;exact ⟨i,o2,p',e2,g2,g3⟩
def US (k:Nat)(S:St):Option (St×List Prop):=match S.h.getD k none with
 | some o=>match dX o with
  | some (m,n,v)=>some (JE k m v S,S.fr.flatMap (Qu k m n)++S.h.flatMap (oN k m n))
  | none=>none
 | none=>none
theorem EB.frzE {S:St}(k:Nat)(S':St)(vs:List Prop)(h:US k S=some (S',vs))(hv:BZ vs):EB S S':=by
 unfold US at h;split at h
 ·rename_i o ho;split at h
  ·rename_i m n v hf;cases h;obtain ⟨h1,h2⟩:=C8.1 hv;refine EB.frz k ?_ hf h1 h2;rw [u8] at ho;cases hx:S.h[k]? with
   | none=>rw [hx] at ho;cases ho
   | some x=>rw [hx] at ho;exact congrArg some ho
  ·cases h
 ·cases h
theorem EB.refl (S:St):EB S S:=fun _ _ _ _ _ _ R=>⟨R,A5.refl _ _ _⟩
theorem EB.trans {A B C:St}(h:EB A B)(k:EB B C):EB A C:=fun P Γ N ρ a w R=>by
 obtain ⟨R1,s1⟩:=h P Γ N ρ a w R;obtain ⟨R2,s2⟩:=k P Γ N ρ a w R1;exact ⟨R2,s1.trans s2⟩
theorem MO.put {h:DH}{ρ:List AH}{k:Nat}{o o':DO}(hk:h[k]? =some (some o)){b:Nat}:MO (h.set k (some o')) ρ b↔MO h ρ b:=by
 have AM:=(zAf.1 hk).1;constructor
 ·rintro ⟨i,x,p,h1,h2,h3⟩;rw [zCE] at h1
  by_cases e:k=i
  ·subst e;exact ⟨k,o,p,hk,h2,h3⟩
  ·rw [zAh e] at h1;exact ⟨i,x,p,h1,h2,h3⟩
 ·rintro ⟨i,x,p,h1,h2,h3⟩
  by_cases e:k=i
  ·subst e;exact ⟨k,o',p,by simp [AM],h2,h3⟩
  ·exact ⟨i,x,p,by rw [zCE,zAh e];exact h1,h2,h3⟩
theorem EB.obj {S:St}{k:Nat}{o o':DO}(hk:S.h[k]? =some (some o))(hO: ∀ (P:Program) (M:Nat -> Prop) (w:World) (ρ:List AH) (p:AH),EC P M w ρ p o -> EC P M w ρ p o'):EB S ⟨S.fr,S.h.set k (some o')⟩:=fun P Γ N ρ a w R=>by
 have hM: ∀ b,MS N (S.h.set k (some o')) ρ b↔MS N S.h ρ b:=fun b=>or_congr Iff.rfl (MO.put hk)
 have back: ∀ {i:Nat} {x:DO},(S.h.set k (some o'))[i]? =some (some x) -> ∃ y,S.h[i]? =some (some y)/\ (i=k/\ x=o'∨y=x):=by
  intro i x hi;rw [zCE] at hi
  by_cases e:k=i
  ·subst e;rw [zAM rfl,zAM (zAf.1 hk).1] at hi;cases hi;exact ⟨o,hk,.inl ⟨rfl,rfl⟩⟩
  ·rw [zAh e] at hi;exact ⟨x,hi,.inr rfl⟩
 have O:BS (MS N S.h ρ) w ρ (MS N (S.h.set k (some o')) ρ) w ρ:=DJ (fun b hb=>(hM b).1 hb) ρ;refine ⟨⟨⟨by simp [R.hr.len],fun i x hi=>?_,fun i x p b g1 g2 g3=>?_,fun i i' o1 o2 p1 p2 b Ad g1 g2 g3 g4 g5 g6=>?_,R.hr.nlt,R.hr.gi⟩,R.fr.out O⟩,⟨AO.refl _ w,fun b hb=>.inl ((MO.put hk).1 hb)⟩⟩
 ·rw [zCE] at hi
  by_cases e:k=i
  ·subst e;rw [zAM rfl,zAM (zAf.1 hk).1] at hi;cases hi;obtain ⟨p,hp,hr⟩:=R.hr.obj k o hk;exact ⟨p,hp,hO P _ w ρ p (hr.out O (S:=fun _=>False) (AO.refl _ _) (fun _ h=>h.elim) fun _ _ _ h=>h)⟩
  ·rw [zAh e] at hi;obtain ⟨p,hp,hr⟩:=R.hr.obj i x hi;exact ⟨p,hp,hr.out O (S:=fun _=>False) (AO.refl _ _) (fun _ h=>h.elim) fun _ _ _ h=>h⟩
 ·obtain ⟨y,e,_⟩:=back g1;exact R.hr.cel i y p b e g2 g3
 ·obtain ⟨y1,e1,_⟩:=back g1;obtain ⟨y2,e2,_⟩:=back g2;exact R.hr.dis i i' y1 y2 p1 p2 b Ad e1 e2 g3 g4 g5 g6
inductive Fz where
 | frz (k:Nat)
 | arr (k n:Nat) (f:Nat -> Nat -> DV)
 | unf (k:Nat)
 | rws
def qO (k n':Nat)(f':Nat -> Nat -> DV)(S:St):Option (St×List Prop):=match S.h.getD k none with
 | some (.arr m n f)=>some (⟨S.fr,S.h.set k (some (.arr m n' f'))⟩,[n=n'/\ ∀ i j,i<n -> j<m -> AS (f i j) (f' i j)])
 | _=>none
def X2:Fz -> St -> Option (St×List Prop)
 | .frz k,S=>US k S
 | .arr k n f,S=>qO k n f S
 | .unf k,S=>match S.h.getD k none with
  | some (.mo (.rows f (some (_,_,false))))=>some (⟨S.fr,S.h.set k (some (.mo (.rows f none)))⟩,[])
  | _=>none
 | .rws,_=>none
theorem Em.unf {w:World}{p:AH}{f:Int -> List Int}{x:Int}{L:List Int}{u:Value}{es:Array MapEntry}{Ac:Nat}(h:Em w p f (some (x,L,false)) u es Ac):Em w p f none u es Ac:=
 { h with
  key:=fun e he=>let ⟨k,h1,h2⟩:=h.key e he;⟨k,h1,fun _=>h2 fun L e=>by cases e⟩
  inHand:=fun k L g e=>by cases e }
theorem getD_some {h:DH}{k:Nat}{o:DO}(ho:h.getD k none=some o):h[k]? =some (some o):=by
 rw [u8] at ho;cases hx:h[k]? with
 | none=>rw [hx] at ho;cases ho
 | some x=>rw [hx] at ho;exact congrArg some ho
theorem EB.fz {S:St}(z:Fz)(S':St)(vs:List Prop)(h:X2 z S=some (S',vs))(hv:BZ vs):EB S S':=by
 cases z with
 | frz k=>exact EB.frzE k S' vs h hv
 | arr k n' f'=>
  simp only [X2,qO] at h;split at h
  ·rename_i m n f ho;cases h;obtain ⟨⟨rfl,hd⟩,_⟩:=hv;refine EB.obj (getD_some ho) fun P M w ρ p hr=>?_
   refine AY.out hr rfl fun j u hj hu=>?_
   have hm:0<m:=by
    rcases zGS m with e | e
    ·subst e;omega
    ·exact e
   exact hd _ _ ((zGh hm).2 hj) (zHx _ hm) M w [] u hu
  ·cases h
 | unf k=>
  simp only [X2] at h;split at h
  ·rename_i f x L ho;cases h;exact EB.obj (getD_some ho) fun P M w ρ p ⟨u,es,Ac,hA⟩=>⟨u,es,Ac,hA.unf⟩
  ·cases h
 | rws=>cases h
def UQ:List (Nat×Fz) -> Option Nat -> St -> Option (St×List Prop×List (Nat×Fz))
 | [],_,S=>some (S,[],[])
 | (t,z)::rest,dst,S=>if dst=some t then match X2 z S with
  | some (S',vs)=>match UQ rest dst S' with
   | some (CU,Bn,r)=>some (CU,vs++Bn,r)
   | none=>none
  | none=>none
  else some (S,[],(t,z)::rest)
theorem UP: ∀ (l:List (Nat×Fz)) {dst:Option Nat} {S S':St} {vs:List Prop} {r:List (Nat×Fz)},UQ l dst S=some (S',vs,r) -> BZ vs -> EB S S'
 | [],dst,S,S',vs,r,h,_=>by cases h;exact EB.refl S
 | (t,z)::rest,dst,S,S',vs,r,h,hv=>by
  simp only [UQ] at h;split at h
  ·split at h
   ·rename_i S1 CQ h1;split at h
    ·rename_i S2 D4 r2 h2;cases h;obtain ⟨Bx,CE⟩:=C8.1 hv;exact (EB.fz z S1 CQ h1 Bx).trans (UP rest h2 CE)
    ·cases h
   ·cases h
  ·cases h;exact EB.refl S
abbrev Sf {α:Type} [Inhabited α] (enc:α -> Nat -> DV) (L:List α):Nat -> Nat -> DV:=fun i j=>enc (L.getD i default) j
theorem jY {α:Type} [Inhabited α] {enc:α -> Nat -> DV} {L L':List α} {n m c:Nat} {g:Nat -> Nat -> DV} (hn:n=L.length) (hc:c=L'.length) (hg: ∀ i j,i<c -> j<m -> AS (g i j) (Sf enc L' i j)):n+c=(L++L').length/\ ∀ i j,i<n+c -> j<m -> AS (if i<n then Sf enc L i j else g (i-n) j) (Sf enc (L++L') i j):=by
 subst hn;subst hc;refine ⟨by simp,fun i j hi hj=>?_⟩;simp only [Sf,u8] at hg ⊢
 by_cases h:i<L.length
 ·rw [zAM h,zAk h];exact fun _ _ _ _ h=>h
 ·rw [zAh h,zAp (by omega)];exact hg _ j (by omega) hj
theorem A3 {d:DV}:AS d d:=fun _ _ _ _ h=>h
theorem xU {l:List DV}{m:Nat}(hl:l.all Iz=true)(hm:m=l.length): ∀ j,j<m -> Iz (l.getD j .any)=true:=fun j hj=>by
 subst hm;rw [u8,zAa hj];exact zAg.1 hl _ (zBD hj)
def NH:List DV -> List DV -> Prop
 | [],[]=>True
 | d::ds,e::es=>AS d e/\ NH ds es
 | _,_=>False
theorem U8: ∀ {l l':List DV},NH l l' -> l.length=l'.length/\ ∀ j,j<l.length -> AS (l.getD j .any) (l'.getD j .any)
 | [],[],_=>⟨rfl,fun j hj=>absurd hj (zAv j)⟩
 | d::ds,e::es,⟨h1,h2⟩=>by
  obtain ⟨q1,q2⟩:=U8 h2;refine ⟨by simp [q1],fun j hj=>?_⟩;cases j with
  | zero=>exact h1
  | succ j=>exact q2 j (by simpa using hj)
 | [],_::_,h=>h.elim
 | _::_,[],h=>h.elim
theorem zF9 {l l':List DV}(h:NH l l')(j:Nat):AS (l.getD j .any) (l'.getD j .any):=by
 obtain ⟨h1,h2⟩:=U8 h
 by_cases hj:j<l.length
 ·exact h2 j hj
 ·rw [u8,u8,zCo (by omega),zCo (by omega)];exact A3
def Z7:List DV -> List (List DV) -> Prop
 | [],[]=>True
 | v::vs,c::cs=>(∃ l,JI v=some l/\ NH l c)/\ Z7 vs cs
 | _,_=>False
theorem jd: ∀ {vs:List DV} {cs:List (List DV)},Z7 vs cs -> vs.length=cs.length/\ ∀ i,i<vs.length -> ∃ l,JI (vs.getD i .any)=some l/\ NH l (cs.getD i [])
 | [],[],_=>⟨rfl,fun i hi=>absurd hi (zAv i)⟩
 | v::vs,c::cs,⟨h1,h2⟩=>by
  obtain ⟨q1,q2⟩:=jd h2;refine ⟨by simp [q1],fun i hi=>?_⟩;cases i with
  | zero=>exact h1
  | succ i=>exact q2 i (by simpa using hi)
 | [],_::_,h=>h.elim
 | _::_,[],h=>h.elim
theorem GJ {α:Type} [Inhabited α] {c:α -> List DV} {L:List α} {vals:List DV} {m n:Nat} (hn:n=vals.length) (h:Z7 vals (L.map c)):n=L.length/\ ∀ i j,i<n -> j<m -> AS (match JI (vals.getD i .any) with | some l=>l.getD j .any | none=>.any) (Sf (fun x j=>(c x).getD j .any) L i j):=by
 subst hn;obtain ⟨h1,h2⟩:=jd h;rw [zBC] at h1;refine ⟨h1,fun i j hi _=>?_⟩;obtain ⟨l,e,hl⟩:=h2 i hi;rw [e];have:(L.map c).getD i []=c (L.getD i default):=by simp [u8,h1▸hi]
 rw [this] at hl;exact zF9 hl j
end
end Go.Proofs.YtkjbblkieglmlaaGreatDoor
