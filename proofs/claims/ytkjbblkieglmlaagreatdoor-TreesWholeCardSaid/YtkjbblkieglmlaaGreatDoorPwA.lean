/- Part 1 of 7 of what the proofs of these laws stand on. -/
import Derived.WalkKit
import Derived.WalkSpells
import Derived.WalkLawsBesides
import Derived.Lib.Hide
import Derived.OrdersHeld
import Derived.Deep.RegionHeld
import Derived.BigQuiet
import Derived.OrdersIn
import Derived.TacticsIn
import Derived.RangeFuncOwn
import Derived.RangeFuncNested
import Derived.RangeFuncCalls
import Derived.Laws.IdiomRangeMap
import Derived.Laws.Cells
import Derived.Laws.Cover3
import Derived.Laws.StructEq
import Derived.ChangeKeysEq
import Derived.RowKit
import Derived.Deep.AppendSrc
import Derived.Laws.MakeOwn
import Derived.Great.BuildSlice
import Derived.Sort.LoopGhostIn
set_option linter.all false
namespace Go.Proofs.YtkjbblkieglmlaaGreatDoor
abbrev zAm:=@Nat.le_refl
abbrev zED:=@Go.World.block_lt_of_cell?
end Go.Proofs.YtkjbblkieglmlaaGreatDoor
namespace Go.Proofs.YtkjbblkieglmlaaGreatDoor
open Go.RowKit
def Ao (w w':World):Prop:=Below w.heap.size w w'
theorem Ao.refl (w:World):Ao w w:=Below.refl _ _
theorem Ao.trans {a b c:World} (h:Ao a b) (k:Ao b c):Ao a c:=Below.trans h (Below.mono k h.size)
theorem Ao.alloc (w:World) (o:Obj):Ao w (w.alloc o):=(Below.refl _ _).alloc (zAm _) o
theorem Ao.allocR {w w':World} (h:Ao w w') (o:Obj):Ao w (w'.alloc o):=h.trans (Ao.alloc w' o)
theorem Ao.drewR {w w':World} (h:Ao w w'):Ao w w'.drew:=Below.drew h
theorem Ao.size {w w':World} (h:Ao w w'):w.heap.size<=w'.heap.size:=Below.size h
theorem Ao.cells {w w':World} (h:Ao w w'): ∀ b o,b<w.heap.size -> w'.cell? ⟨b,o,none⟩=w.cell? ⟨b,o,none⟩:=
 fun b o hb=>Below.cell h (p:=⟨b,o,none⟩) hb
theorem Ao.cell {w w':World} (h:Ao w w') {b o:Nat} {u:Value} (hc:w.cell? ⟨b,o,none⟩=some u):w'.cell? ⟨b,o,none⟩=some u:=by
 rw [h.cells b o (zED w ⟨b,o,none⟩ hc)];exact hc
def FJ (b:Bool) (e:Int):Int:=if b then 0 else e
theorem zBY (e:Int):FJ true e=0:=rfl
structure AB where
 kind:Int
 cells:List Int
 set:Int
 other:Int
 lo:Int
 hi:Int
 runs:List Int
 rule:Int
 spot:Int
 deriving DecidableEq,Inhabited
structure AA where
 cells:Int
 symbols:Int
 values:List Int
 nbrs:List (List Int)
 cons:List AB
 deriving DecidableEq,Inhabited
end Go.Proofs.YtkjbblkieglmlaaGreatDoor
namespace Go.Proofs.YtkjbblkieglmlaaGreatDoor
abbrev zAB:=@if_pos
abbrev zAL:=@Bool.and_eq_true
abbrev zAU:=@Option.some.inj
abbrev zAZ:=@if_neg
abbrev zAg:=@Go.Sem.run_bind
abbrev zDh:=@Bool.or_eq_true
abbrev zDj:=@Nat.lt_or_ge
abbrev zDs:=@Bool.false_eq_true
abbrev zDw:=@beq_iff_eq
abbrev zFN:=@Go.mem_ready
abbrev zFi:=@Array.getElem?_eq_none
end Go.Proofs.YtkjbblkieglmlaaGreatDoor
namespace Go.Proofs.YtkjbblkieglmlaaGreatDoor
open Go.RowKit
def O9:Op -> Bool
 | .move _ | .assign _ | .pick .. | .load .. | .binOp .. | .unOp .. | .convert .. | .makeFunc .. | .slice .. | .fieldAddr .. | .field .. | .indexAddr .. | .index .. | .extract .. | .build .. | .lookup .. | .makeInterface .. | .nilCheck _ | .typeAssert .. =>true
 | .call c=>match c.callee with
  | .builtin .len | .builtin .cap | .builtin .min | .builtin .max=>true
  | _=>false
 | _=>false
theorem Oi {P:Program} {w w':World} {α:Type} {s:Sem α} {f:α -> Value} {n:Next} (h:(s>>=fun x=>(pure (.value (f x)):Sem Next)).run P w= .ok n w'): ∃ v,n= .value v:=by
 rw [zAg] at h;cases hs:s.run P w with
 | ok v w1=>rw [hs] at h;simp only [Result.andThen] at h;cases h;exact ⟨_,rfl⟩
 | halt x w1=>rw [hs] at h;simp only [Result.andThen] at h;cases h
theorem tu {P:Program} {ρ:Operand -> Value} {o:Oper} {w w':World} {n:Next} (hp:O9 o.op=true) (h:(execOp ρ o).run P w= .ok n w'): ∃ v,n= .value v:=by
 unfold execOp at h;cases ho:o.op <;> rw [ho] at hp h <;> simp only [O9,zDs] at hp
 all_goals first | exact Oi (f:=fun x=>x) h | (cases h;exact ⟨_,rfl⟩) | skip
 ·rename_i c x y;exact Oi (s:=asBool (ρ c)) (f:=fun b=>if b then ρ x else ρ y) h
 ·rename_i x
  have hb: ∀ {α:Type} (s:Sem α) (f:α -> Sem Next) (w0:World),(∀ a w1,(f a).run P w1= .ok n w' -> ∃ v,n= .value v) -> (s>>=f).run P w0= .ok n w' -> ∃ v,n= .value v:=by
   intro α s f w0 hf hr;rw [zAg] at hr;cases hs:s.run P w0 with
   | ok v w1=>rw [hs] at hr;exact hf _ _ hr
   | halt x w1=>rw [hs] at hr;simp only [Result.andThen] at hr;cases hr
  have WT:(runtimePanic .nilDeref:Sem Next).run P w= .ok n w' -> ∃ v,n= .value v:=by
   intro he;unfold runtimePanic at he;refine hb _ _ _ ?_ he;intro a w1 h1;cases h1
  simp only at h;split at h
  ·exact WT h
  ·exact WT h
  ·exact WT h
  ·split at h
   ·exact WT h
   ·refine hb _ _ _ ?_ h;intro p w1 h1;refine hb _ _ _ ?_ h1;intro q w2 h2;split at h2
    ·refine hb _ _ _ ?_ h2;intro r w3 h3;cases h3;exact ⟨_,rfl⟩
    ·cases h2;exact ⟨_,rfl⟩
   ·cases h;exact ⟨_,rfl⟩
  ·cases h;exact ⟨_,rfl⟩
 ·rename_i c;replace h:((resolve ρ c o.type)>>=fun d=>invoke d.target d.args).run P w= .ok n w':=h;rw [zAg] at h;unfold resolve at h;cases hc:c.callee with
  | value f=>rw [hc] at hp;simp at hp
  | invoke r m=>rw [hc] at hp;simp at hp
  | builtin b=>
   rw [hc] at hp h;have e: ∀ d:Deferred,(pure d:Sem Deferred).run P w= .ok d w:=fun _=>rfl
   simp only [e,Result.andThen] at h;unfold invoke at h;cases b <;> simp at hp <;> exact Oi (f:=fun x=>x) h
structure UC (w:World) where
 W:World
 le:Ao w W
def QZ (w:World):World -> Prop:=fun w'=>∃ x:UC w,w'=x.W
theorem QZ.iff {w w':World}:QZ w w'↔Ao w w':=⟨fun ⟨x,e⟩=>e▸x.le,fun h=>⟨⟨w',h⟩,rfl⟩⟩
theorem Ao.toDrew (w:World):Ao w w.drew:=Ao.drewR (Ao.refl w)
section
variable {P:Program} {ops:Array Oper} {Q:Exit -> Act -> World -> Prop}
theorem nr {w:World} {o:Oper} {a:Act} {v:Value} (hp:O9 o.op=true) (hw:Region.wanted o (yielded ops a.tmps)=true)
 (h: ∀ w',QZ w w' -> o.quietAt P a (QZ w) w' v):YieldsIf P ops (Ao w) o v a:=by
 refine .inl ⟨hw,fun w' hE=>?_⟩;have:=h w' (QZ.iff.2 hE);unfold Oper.quietAt at this;cases hr:(execOp a.eval o).run P w' with
 | halt x w1=>rw [hr] at this;simp [Oper.quietUpon] at this
 | ok n w1=>
  obtain ⟨u,rfl⟩:=tu hp hr;rw [hr] at this;obtain ⟨rfl,rfl⟩:=this;rfl
def NP (Q:Exit -> Act -> World -> Prop):Exit -> Act -> World -> Prop
 | .panic _,_,_=>False
 | e,a,w=>Q e a w
theorem NP.put (c:List PanicEntry) (a:Act) (d:Option Tmp) (v:Value) (w:World) (h:NP Q (.panic c) (a.put d v) w):NP Q (.panic c) a w:=h.elim
def FO (ops:Array Oper) (AV:Array Bool):Prop:=∀ (j:Nat) (oj:Oper),ops[j]? =some oj -> AV.getD j false=true -> ∀ e∈oj.after,Region.binds .any e=true -> AV.getD e.on false=true
theorem FO.set {AV:Array Bool} {i:Nat} (h:FO ops AV) (hi:i∈Region.ready .any ops AV):FO ops (AV.setIfInBounds i true):=by
 obtain ⟨_,oi,zc,HK⟩:=zFN.1 hi;intro j oj hj hl e he hb
 by_cases Ph:i=j
 ·subst Ph;have:oj=oi:=zAU (hj.symm.trans zc);subst this;exact getD_set_true (HK e he hb)
 ·rw [getD_set_ne false Ph] at hl;exact getD_set_true (h j oj hj hl e he hb)
def Em (ops:Array Oper):Nat -> Nat -> Nat -> Bool
 | 0,_,_=>false
 | n+1,t,i=>match ops[t]? with
  | none=>false
  | some o=>o.after.any fun e=>Region.binds .any e&&(e.on==i||Em ops n e.on i)
theorem UL {AV:Array Bool} (hc:FO ops AV): ∀ (n t i:Nat) (o:Oper),ops[t]? =some o -> (∀ e∈o.after,Region.binds .any e=true -> AV.getD e.on false=true) -> Em ops n t i=true -> AV.getD i false=true
 | 0,_,_,_,_,_,h=>by simp [Em] at h
 | n+1,t,i,o,ho,HK,h=>by
  simp only [Em,ho] at h;obtain ⟨e,he,hb⟩:=Array.any_eq_true'.1 h;simp only [zAL,zDh,zDw] at hb;obtain ⟨hb,h1 | h1⟩:=hb
  ·rw [←h1];exact HK e he hb
  ·cases bD:ops[e.on]? with
   | none=>cases n <;> simp [Em,bD] at h1
   | some o2=>exact UL hc n e.on i o2 bD (hc e.on o2 bD (HK e he hb)) h1
theorem TI {AV:Array Bool} {i:Nat} (h:AV.getD i true=false):AV.getD i false=false:=by
 rcases zDj i AV.size with h' | h'
 ·simp [h'] at h ⊢;exact h
 ·simp [zFi h'] at h
def CG (ops:Array Oper):List Nat -> List Oper
 | []=>[]
 | i::l=>match ops[i]? with | some o=>o::CG ops l | none=>CG ops l
def Q3 (ops:Array Oper) (By:Nat -> Bool):List Nat -> Array Bool -> Bool
 | [],_=>true
 | i::l,AV=>(Region.ready .any ops AV).contains i&&Region.free .any ops AV i&&(match ops[i]? with | some o=>O9 o.op | none=>false)&&
  ((List.range ops.size).all fun j=>!By j||Em ops ops.size j i)&&Q3 ops By l (AV.setIfInBounds i true)
def J0 (l:List Nat) (AV:Array Bool):Array Bool:=l.foldl (fun s i=>s.setIfInBounds i true) AV
def Oo (ops:Array Oper):List Nat -> Array Bool -> Bool
 | [],AV=>(Region.ready .any ops AV).isEmpty
 | t::ts,AV=>Region.ready .any ops AV== [t]&&Oo ops ts (AV.setIfInBounds t true)
def Q4 (ops:Array Oper) (By:Nat -> Bool):List (List Nat×Nat) -> List Nat -> List Nat -> Array Bool -> Bool
 | [],BJ,tail,AV=>Q3 ops By BJ AV&&((List.range ops.size).all fun j=>By j||(J0 BJ AV).getD j true)&&Oo ops tail (J0 BJ AV)
 | (Bl,i)::AW,BJ,tail,AV=>Q3 ops By Bl AV&&(Region.ready .any ops (J0 Bl AV)== [i])&&Q4 ops By AW BJ tail ((J0 Bl AV).setIfInBounds i true)
def Pj:List (List Nat×Nat) -> List Nat -> Nat
 | [],BJ=>BJ.length
 | (Bl,_)::AW,BJ=>Bl.length+(1+Pj AW BJ)
def Yf (ops:Array Oper) (CT:List (List Nat×Nat)) (BJ tail:List Nat):Bool:=
 Region.noSelect ops&&Pj CT BJ+tail.length==ops.size&&Q4 ops (fun j=>tail.contains j) CT BJ tail (Array.replicate ops.size false)
theorem X1 {C:World -> Prop}: ∀ (l:List Oper) (a:Act) (K K':Act -> Prop),(∀ a,K a -> K' a) -> wpQuiet P ops C K l a -> wpQuiet P ops C K' l a
 | [],a,K,K',hk,h=>hk a h
 | o::l,a,K,K',hk,h=>by
  unfold wpQuiet at*
  by_cases hw:Region.wanted o (yielded ops a.tmps)=true
  ·rw [zAB hw] at h ⊢;exact Oper.quiet_mono (fun a h=>X1 l a K K' hk h) h
  ·rw [zAZ hw] at h ⊢;exact X1 l _ K K' hk h
end
end Go.Proofs.YtkjbblkieglmlaaGreatDoor
namespace Go.Proofs.YtkjbblkieglmlaaGreatDoor
abbrev zAJ:=@Array.getElem?_eq_some_iff
abbrev zAW:=@List.all_eq_true
abbrev zAd:=@List.mem_range
abbrev zAj:=@Nat.zero_add
abbrev zAp:=@List.mem_singleton
abbrev zAq:=@Array.getElem?_eq_getElem
abbrev zD9:=@List.length_nil
abbrev zEG:=@if_true
abbrev zEa:=@Go.Oper.semAt_eq
abbrev zEg:=@if_false
abbrev zEv:=@Array.mem_of_getElem?
abbrev zFJ:=@Go.wpOpIn_mono
abbrev zFO:=@Go.Act.put_comm
abbrev zFP:=@Ne.symm
end Go.Proofs.YtkjbblkieglmlaaGreatDoor
namespace Go.Proofs.YtkjbblkieglmlaaGreatDoor
open Go.RowKit
def CR (ops:Array Oper):Bool:=ops.all fun o=>match o.op with
 | .defer _=>false
 | _=>true
theorem Ga {ops:Array Oper} (h:CR ops=true) {j:Nat} {o:Oper} (hj:ops[j]? =some o): ∀ c,o.op≠.defer c:=by
 intro c hc;have hm:o∈ops:=zEv hj;have:=Array.all_eq_true'.1 h o hm;rw [hc] at this;cases this
section
variable {F:Fence} {n:Nat} {P:Program} {ops:Array Oper} {Q:Exit -> Act -> World -> Prop}
theorem UG {S:World -> Prop} {i:Nat} {o:Oper} {v:Value} {a:Act} (hF: ∀ f,F.fn f) (hd: ∀ c,o.op≠.defer c) (hi:ops[i]? =some o) (hy:YieldsIf P ops S o v a)
 {K:Act -> World -> Prop} {w:World} (hS:S w) (h:K (a.put o.dst v) w):wpOpIn F n P ops Q i K a w:=by
 unfold Go.wpOpIn;simp only [hi];rcases hy with ⟨hw,hv⟩ | ⟨hw,rfl⟩
 ·simp only [hw,zEG,Oper.wpIn,zEa _ _ _ hd,hv w hS,Oper.uponIn];exact ⟨fun f _=>hF f,h⟩
 ·simp only [hw,zDs,zEg];exact ⟨fun f _=>hF f,h⟩
theorem dU {S:World -> Prop} {j:Nat} {oi oj:Oper} {v:Value} (hF: ∀ f,F.fn f) (k8: ∀ c,oj.op≠.defer c) (hj:ops[j]? =some oj) (Ke:oi.apart ops oj=true)
 (xe: ∀ cs b,oi.op≠.select cs b) (xd: ∀ cs b,oj.op≠.select cs b)
 (hQ: ∀ c a w,Q (.panic c) (a.put oi.dst v) w -> Q (.panic c) a w) {K:Act -> World -> Prop} {a:Act} {w:World}
 (hy:YieldsIf P ops S oi v a) (h:wpOpIn F n P ops Q j K (a.put oi.dst v) w):
 wpOpIn F n P ops Q j (fun a' w'=>YieldsIf P ops S oi v a'/\ K (a'.put oi.dst v) w') a w:=by
 obtain ⟨h1,h2,h3⟩:=Oper.apart_spec Ke
 have FZ: ∀ (a:Act),YieldsIf P ops S oi v a -> ∀ u,YieldsIf P ops S oi v (a.put oj.dst u):=fun a hy u=>
  hy.of_same (execOp_put oi xe a oj.dst u h3) (wanted_put oi a oj.dst u h3)
 have wQ: ∀ d,YieldsIf P ops S oi v { a with defers:=d::a.defers }:=fun d=>hy.of_same rfl rfl
 unfold wpOpIn at*;simp only [hj] at*;rw [wanted_put oj a oi.dst v h1] at h;split
 ·rename_i hw;simp only [hw,zEG] at h;unfold Oper.wpIn at*;refine ⟨fun f _=>hF f,?_⟩;have h:=h.2;rw [zEa _ _ _ k8,execOp_put oj xd a oi.dst v h1] at h;rw [zEa _ _ _ k8]
  generalize (execOp a.eval oj).run P w=r at*
  cases r with
  | ok x w'=>
   cases x <;> simp only [Oper.uponIn] at h ⊢
   case value u=>exact ⟨FZ a hy u,by rw [←zFO a v u h2];exact h⟩
   case skip=>exact ⟨FZ a hy _,by rw [←zFO a v undef h2];exact h⟩
   case defer d=>
    refine ⟨FZ _ (wQ d) _,?_⟩;rw [←zFO _ v undef h2,←Act.put_defers];exact h
   case enter f args=>
    refine ⟨h.1,CallsIn.mono h.2 fun e CK he=>?_⟩;cases e with
    | returned u=>exact ⟨FZ a hy u,by rw [←zFO a v u h2];exact he⟩
    | panicked c=>exact hQ _ _ _ he
    | outgrown=>exact he
   case row row args=>exact ⟨h.1,RowsIn.mono h.2 fun u CK he=>⟨FZ a hy u,by rw [←zFO a v u h2];exact he⟩⟩
   case round l f tmps assign body=>
    refine ⟨h.1,RoundIn.mono h.2 fun e CK he=>?_⟩;cases e with
    | returned u=>exact ⟨FZ a hy u,by rw [←zFO a v u h2];exact he⟩
    | panicked c=>exact hQ _ _ _ he
    | outgrown=>exact he
  | halt x w'=>
   cases x <;> simp only [Oper.uponIn] at h ⊢
   case panic u=>exact hQ _ _ _ h
 ·rename_i hw;simp only [hw] at h;exact ⟨fun f _=>hF f,FZ a hy _,by rw [←zFO a v undef h2];exact h.2⟩
theorem n5 {i:Nat} {K:Act -> World -> Prop} {a:Act} {w:World} (h:wpOpIn F n P ops (NP Q) i K a w):wpOpIn F n P ops Q i K a w:=by
 unfold wpOpIn at*;split
 ·rename_i ho;simp only [ho] at h;exact h
 ·rename_i o ho;simp only [ho] at h;have hl:LetsOut (NP Q) -> LetsOut Q:=fun ⟨a,w,h⟩=>⟨a,w,h⟩
  by_cases hw:Region.wanted o (yielded ops a.tmps)=true
  ·rw [zAB hw] at h ⊢;unfold Oper.wpIn at*;refine ⟨h.1,?_⟩;have h:=h.2
   generalize (o.semAt F.round a.eval).run P w=r at*
   cases r with
   | ok x w'=>
    cases x <;> simp only [Oper.uponIn] at h ⊢ <;> first | exact h | skip
    ·refine ⟨h.1,CallsIn.mono h.2 fun e CK he=>?_⟩;cases e with
     | returned v=>exact he
     | panicked c=>exact he.elim
     | outgrown=>exact hl he
    ·refine ⟨h.1,RoundIn.mono h.2 fun e CK he=>?_⟩;cases e with
     | returned v=>exact he
     | panicked c=>exact he.elim
     | outgrown=>exact hl he
   | halt x w'=>cases x <;> simp only [Oper.uponIn] at h ⊢;exact h.elim
  ·rw [zAZ hw] at h ⊢;exact h
def Io (F:Fence) (n:Nat) (P:Program) (ops:Array Oper) (Q:Exit -> Act -> World -> Prop) (By:Nat -> Bool) (g:Nat) (S:World -> Prop):Nat -> Array Bool -> Act -> World -> Prop
 | 0,AV,a,w=>(∀ j,j<ops.size -> By j=false -> AV.getD j true=true)/\ wpAnyIn F n P .any ops Q g AV a w
 | m+1,AV,a,w=>Region.ready .any ops AV≠[]/\ ∀ i∈Region.ready .any ops AV,wpOpIn F n P ops (NP Q) i (fun a' w'=>S w'/\ Io F n P ops Q By g S m (AV.setIfInBounds i true) a' w') a w
theorem X3 {By:Nat -> Bool} {g:Nat} {S S':World -> Prop} (hS: ∀ w,S' w -> S w): ∀ (m:Nat) (AV:Array Bool) (a:Act) (w:World),
 Io F n P ops Q By g S' m AV a w -> Io F n P ops Q By g S m AV a w
 | 0,_,_,_,h=>h
 | m+1,_,_,_,h=>⟨h.1,fun i hi=>zFJ (fun _ _ h'=>⟨hS _ h'.1,X3 hS m _ _ _ h'.2⟩) (h.2 i hi)⟩
theorem dZ {By:Nat -> Bool} {g:Nat} {S:World -> Prop}: ∀ (m:Nat) (AV:Array Bool) (a:Act) (w:World),Io F n P ops Q By g S m AV a w -> wpAnyIn F n P .any ops Q (m+g) AV a w
 | 0,_,_,_,h=>by rw [zAj];exact h.2
 | m+1,_,_,_,h=>by
  rw [show m+1+g=(m+g)+1 by omega];exact ⟨fun h0=>absurd h0 h.1,fun i hi=>zFJ (fun a' w' h'=>dZ m _ a' w' h'.2) (n5 (h.2 i hi))⟩
theorem dY (hF: ∀ f,F.fn f) (Av:CR ops=true) {By:Nat -> Bool} {g:Nat} {S:World -> Prop} {i k:Nat} {oi:Oper} {v:Value} (hi:ops[i]? =some oi) (Sl: ∀ (j:Nat) (o:Oper) cs b,ops[j]? =some o -> o.op≠.select cs b)
 (hT: ∀ j,j<ops.size -> By j=true -> Em ops k j i=true):
 ∀ (m:Nat) (AV:Array Bool) (a:Act) (w:World),FO ops AV ->
  (∀ j oj,ops[j]? =some oj -> j≠i -> AV.getD j true=false -> (∀ e∈oj.after,Region.binds .any e=true -> e.on≠i) -> oi.apart ops oj=true) ->
  i∈Region.ready .any ops AV -> YieldsIf P ops S oi v a -> S w ->
  Io F n P ops Q By g S m (AV.setIfInBounds i true) (a.put oi.dst v) w -> Io F n P ops Q By g S (m+1) AV a w:=by
 intro m
 induction m with
 | zero=>
  intro AV a w A4 _ hr hy hS H;have Lw:=(zFN.1 hr).1;refine ⟨fun h=>(by rw [h] at hr;cases hr),fun j hj=>?_⟩
  by_cases Eg:j=i
  ·subst Eg;exact UG hF (Ga Av hi) hi hy hS ⟨hS,H⟩
  ·exfalso
   obtain ⟨JM,oj,Fa,HK⟩:=zFN.1 hj;have Nu:=(zAJ.1 Fa).1;cases ht:By j with
   | true=>
    have:=UL A4 k j i oj Fa HK (hT j Nu ht);rw [TI Lw] at this;cases this
   | false=>
    have:=H.1 j Nu ht;rw [getD_set_ne true (zFP Eg),JM] at this;cases this
 | succ m ih=>
  intro AV a w A4 Sy hr hy hS H;have Lw:=(zFN.1 hr).1;refine ⟨fun h=>(by rw [h] at hr;cases hr),fun j hj=>?_⟩
  by_cases Eg:j=i
  ·subst Eg;exact UG hF (Ga Av hi) hi hy hS ⟨hS,H⟩
  ·have h1:=H.2 j (ready_mono hj Eg);obtain ⟨JM,oj,Fa,HK⟩:=zFN.1 hj
   have aq: ∀ e∈oj.after,Region.binds .any e=true -> e.on≠i:=fun e he hb bC=>by
    have h1:=HK e he hb;rw [bC,TI Lw] at h1;cases h1
   have h2:=dU hF (Ga Av Fa) Fa (Sy j oj Fa Eg JM aq) (fun cs b=>Sl i oi cs b hi) (fun cs b=>Sl j oj cs b Fa) (fun c a w h=>NP.put c a _ _ w h) hy h1
   have zz: ∀ k ok,ops[k]? =some ok -> k≠i -> (AV.setIfInBounds j true).getD k true=false ->
    (∀ e∈ok.after,Region.binds .any e=true -> e.on≠i) -> oi.apart ops ok=true:=fun k ok hk Su EF GI=>by
    refine Sy k ok hk Su ?_ GI
    by_cases Sw:j=k
    ·subst Sw;exact JM
    ·rw [getD_set_ne true Sw] at EF;exact EF
   refine zFJ (fun a' w' h3=>⟨h3.2.1,ih (AV.setIfInBounds j true) a' w' (A4.set hj) zz (ready_mono hr (zFP Eg)) h3.1 h3.2.1 ?_⟩) h2;rw [Array.setIfInBounds_comm _ _ Eg];exact h3.2.2
def Om (F:Fence) (n:Nat) (P:Program) (ops:Array Oper) (Q:Exit -> Act -> World -> Prop):List Nat -> Act -> World -> Prop
 | [],a,w=>Q .normal a w
 | t::ts,a,w=>wpOpIn F n P ops Q t (Om F n P ops Q ts) a w
def bw (Bl:List Nat) (b w:World):World:=match Bl with
 | []=>b
 | _=>w
def Nw (F:Fence) (n:Nat) (P:Program) (ops:Array Oper) (Q:Exit -> Act -> World -> Prop):World -> List (List Nat×Nat) -> List Nat -> List Nat -> Act -> World -> Prop
 | _,[],BJ,tail,a,w=>wpQuiet P ops (fun w'=>∃ x:UC w,w'=x.W) (fun a'=>Om F n P ops Q tail a' w) (CG ops BJ) a
 | b,(Bl,i)::AW,BJ,tail,a,w=>wpQuiet P ops (fun w'=>∃ x:UC w,w'=x.W) (fun a'=>wpOpIn F n P ops (NP Q) i (fun GS CK=>Ao (bw Bl b w) CK/\ Nw F n P ops Q (bw Bl b w) AW BJ tail GS CK) a' w) (CG ops Bl) a
theorem YJ: ∀ (tail:List Nat) (AV:Array Bool) (a:Act) (w:World),Oo ops tail AV=true -> Om F n P ops Q tail a w -> wpAnyIn F n P .any ops Q tail.length AV a w
 | [],AV,a,w,hk,h=>⟨by simpa [Oo] using hk,h⟩
 | t::ts,AV,a,w,hk,h=>by
  simp only [Oo,zAL,zDw] at hk;refine ⟨fun h0=>(by rw [hk.1] at h0;cases h0),fun i hi=>?_⟩;rw [hk.1,zAp] at hi;subst hi;exact zFJ (fun a' w' h'=>YJ ts _ a' w' hk.2 h') h
theorem Ut (hF: ∀ f,F.fn f) (Av:CR ops=true) {w:World} {By:Nat -> Bool} {g:Nat} (hs:Region.noSelect ops=true) {next:Act -> Prop} {m:Nat}:
 ∀ (l:List Nat) (AV:Array Bool) (a:Act),FO ops AV -> Q3 ops By l AV=true -> wpQuiet P ops (QZ w) next (CG ops l) a ->
  (∀ a',FO ops (J0 l AV) -> next a' -> Io F n P ops Q By g (Ao w) m (J0 l AV) a' w) -> Io F n P ops Q By g (Ao w) (l.length+m) AV a w
 | [],AV,a,A4,_,h,hn=>by
  simp only [zD9,zAj];exact hn a A4 h
 | i::l,AV,a,A4,hk,h,hn=>by
  simp only [Q3,zAL] at hk;obtain ⟨⟨⟨⟨hr,hf⟩,hp⟩,hT⟩,BX⟩:=hk;have Cs:i∈Region.ready .any ops AV:=by simpa using hr
  have lJ: ∀ j,j<ops.size -> By j=true -> Em ops ops.size j i=true:=fun j hj ht=>by
   have:=zAW.1 hT j (zAd.2 hj);simpa [ht] using this
  have kq:(i::l).length+m=(l.length+m)+1:=by simp;omega
  rw [kq];cases hi:ops[i]? with
  | none=>rw [hi] at hp;simp at hp
  | some o=>
   rw [hi] at hp;simp only [CG,hi] at h;unfold wpQuiet at h
   by_cases hw:Region.wanted o (yielded ops a.tmps)=true
   ·rw [zAB hw] at h;obtain ⟨v,h1,h2⟩:=h;exact dY hF Av hi (Region.noSelect_spec hs) lJ _ AV a w A4 (Region.free_spec hi hf) Cs (nr hp hw h1) (Ao.refl _) (Ut hF Av hs l _ _ (A4.set Cs) BX h2 hn)
   ·rw [zAZ hw] at h;exact dY hF Av hi (Region.noSelect_spec hs) lJ _ AV a w A4 (Region.free_spec hi hf) Cs (.inr ⟨by simpa using hw,rfl⟩) (Ao.refl _) (Ut hF Av hs l _ _ (A4.set Cs) BX h hn)
theorem kz (hF: ∀ f,F.fn f) (Av:CR ops=true) {By:Nat -> Bool} (hs:Region.noSelect ops=true):
 ∀ (CT:List (List Nat×Nat)) (BJ tail:List Nat) (AV:Array Bool) (a:Act) (b w:World),Ao b w -> FO ops AV -> Q4 ops By CT BJ tail AV=true -> Nw F n P ops Q b CT BJ tail a w ->
  Io F n P ops Q By tail.length (Ao b) (Pj CT BJ) AV a w
 | [],BJ,tail,AV,a,b,w,hb,A4,hk,h=>by
  simp only [Q4,zAL] at hk;obtain ⟨⟨h1,h2⟩,h3⟩:=hk
  have:=Ut (m:=0) hF Av hs BJ AV a A4 h1 h (fun a' _ hq=>⟨fun j hj ht=>by
   have:=zAW.1 h2 j (zAd.2 hj);simpa [ht] using this,YJ tail _ a' w h3 hq⟩)
  refine X3 (fun W hW=>hb.trans hW) _ _ _ _ ?_;simpa [Pj] using this
 | (Bl,i)::AW,BJ,tail,AV,a,b,w,hb,A4,hk,h=>by
  simp only [Q4,zAL,zDw] at hk;obtain ⟨⟨h1,h2⟩,h3⟩:=hk
  have one: ∀ (a':Act) (b':World),Ao b' w -> FO ops (J0 Bl AV) -> wpOpIn F n P ops (NP Q) i (fun GS CK=>Ao b' CK/\ Nw F n P ops Q b' AW BJ tail GS CK) a' w ->
   Io F n P ops Q By tail.length (Ao b') (Pj AW BJ+1) (J0 Bl AV) a' w:=fun a' b' DA bJ hq=>by
   refine ⟨fun h0=>(by rw [h2] at h0;cases h0),fun j hj=>?_⟩;have BT:=hj;rw [h2,zAp] at hj;subst hj;refine zFJ (fun GS CK h'=>⟨h'.1,?_⟩) hq;exact kz hF Av hs AW BJ tail _ GS b' CK h'.1 (bJ.set BT) h3 h'.2
  cases Bl with
  | nil=>
   have:=one a b hb A4 h;simpa [Pj,Nat.add_comm,J0] using this
  | cons s0 ss=>
   refine X3 (fun W hW=>hb.trans hW) _ _ _ _ ?_;refine Ut hF Av hs (s0::ss) AV a A4 h1 h fun a' bJ hq=>?_
   rw [Nat.add_comm 1];exact one a' w (Ao.refl w) bJ hq
theorem dV {id:Nat} {a:Act} {w:World} (hF: ∀ f,F.fn f) (CT:List (List Nat×Nat)) (BJ tail:List Nat) (hm:P.follows .mixedOrders=true) (hB:(Yf ops CT BJ tail&&CR ops)=true)
 (h:Nw F n P ops Q w.drew CT BJ tail a w.drew):(Code.region id ops true).wpIn F n P Q a w:=by
 simp only [Yf,zAL,zDw] at hB;obtain ⟨⟨⟨h1,h2⟩,h3⟩,h4⟩:=hB
 have A4:FO ops (Array.replicate ops.size false):=fun j oj _ hl=>by
  exfalso
  rcases zDj j ops.size with h | h
  ·simp [h] at hl
  ·simp [h] at hl
 have:=dZ _ _ _ _ (kz hF h4 h1 CT BJ tail _ a w.drew w.drew (Ao.refl _) A4 h3 h);rw [h2] at this;exact wpIn_region_any hm this
theorem YK: ∀ (tail:List Nat) (a:Act) (w:World),(∀ t∈tail,t<ops.size) -> wpListIn F n P ops Q (CG ops tail) a w -> Om F n P ops Q tail a w
 | [],_,_,_,h=>h
 | t::ts,a,w,hl,h=>by
  have ht:ops[t]? =some (ops[t]'(hl t (by simp))):=zAq _;simp only [CG,ht] at h;unfold Om wpOpIn;simp only [ht];unfold wpListIn at h;have hm: ∀ a w,wpListIn F n P ops Q (CG ops ts) a w -> Om F n P ops Q ts a w:=fun a w h=>YK ts a w (fun t ht=>hl t (by simp [ht])) h
  by_cases hw:Region.wanted (ops[t]'(hl t (by simp))) (yielded ops a.tmps)=true
  ·rw [zAB hw] at h ⊢;exact Oper.wpIn_mono hm h
  ·rw [zAZ hw] at h ⊢;exact ⟨h.1,hm _ _ h.2⟩
theorem zAD {BJ tail:List Nat} {a:Act} {b w:World} (ht:(tail.all fun t=>decide (t<ops.size))=true)
 (h:wpQuiet P ops (fun w'=>∃ x:UC w,w'=x.W) (fun a'=>wpListIn F n P ops Q (CG ops tail) a' w) (CG ops BJ) a):
 Nw F n P ops Q b [] BJ tail a w:=by
 refine X1 _ _ _ _ (fun a' h=>?_) h;exact YK tail a' w (fun t h=>by simpa using zAW.1 ht t h) h
end
end Go.Proofs.YtkjbblkieglmlaaGreatDoor
namespace Go.Proofs.YtkjbblkieglmlaaGreatDoor
abbrev zAY:=@Nat.lt_of_lt_of_le
abbrev zAk:=@Nat.le_trans
abbrev zDu:=@List.mem_cons
abbrev zDz:=@List.mem_of_getElem?
abbrev zEL:=@Go.World.putObj_heap_other
abbrev zEh:=@Go.wpIn_mono
abbrev zFh:=@Go.RowKit.Below.block
abbrev zF8:=@Go.callsIn_wide
end Go.Proofs.YtkjbblkieglmlaaGreatDoor
namespace Go.Proofs.YtkjbblkieglmlaaGreatDoor
open Go.RowKit
structure AP (S:Nat -> Prop) (w w':World):Prop where
 os:w'.os=w.os
 tape:w'.tape=w.tape
 output:w'.output=w.output
 size:w.heap.size<=w'.heap.size
 block: ∀ k,k<w.heap.size -> ¬ S k -> w'.heap[k]? =w.heap[k]?
theorem AP.refl (S:Nat -> Prop) (w:World):AP S w w:=⟨rfl,rfl,rfl,zAm _,fun _ _ _=>rfl⟩
theorem AP.comp {S S':Nat -> Prop} {a b c:World} (h:AP S a b) (k:AP S' b c) (hs: ∀ i,i<a.heap.size -> S' i -> S i):AP S a c:=
 ⟨k.os.trans h.os,k.tape.trans h.tape,k.output.trans h.output,zAk h.size k.size,
  fun i hi hn=>(k.block i (zAY hi h.size) (fun hx=>hn (hs i hi hx))).trans (h.block i hi hn)⟩
theorem AP.trans {S:Nat -> Prop} {a b c:World} (h:AP S a b) (k:AP S b c):AP S a c:=h.comp k fun _ _ h=>h
theorem AP.mono {S S':Nat -> Prop} {a b:World} (h:AP S a b) (hs: ∀ i,i<a.heap.size -> S i -> S' i):AP S' a b:=
 ⟨h.os,h.tape,h.output,h.size,fun i hi hn=>h.block i hi fun hx=>hn (hs i hi hx)⟩
theorem AP.ofExt {S:Nat -> Prop} {a b:World} (h:Ao a b):AP S a b:=⟨Below.os h,Below.tape h,Below.output h,Below.size h,fun i hi _=>zFh h i hi⟩
theorem AP.toExt {S:Nat -> Prop} {a b:World} (h:AP S a b) (hs: ∀ i,i<a.heap.size -> ¬ S i):Ao a b:=⟨h.os,h.tape,h.output,h.size,fun i hi=>h.block i hi (hs i hi)⟩
theorem AP.alloc {S:Nat -> Prop} {a b:World} (h:AP S a b) (o:Obj):AP S a (b.alloc o):=h.trans (AP.ofExt (Ao.alloc b o))
theorem AP.setCell {S:Nat -> Prop} {a b:World} (h:AP S a b) {p:Addr} (hp:p.block<a.heap.size -> S p.block) (u:Value):AP S a (b.setCell p u):=by
 refine h.comp (S':=fun k=>k=p.block) ⟨rfl,rfl,rfl,?_,fun k _ hk=>?_⟩ (fun i hi e=>by cases e;exact hp hi)
 ·show b.heap.size<=(b.heap.modify _ _).size
  rw [Array.size_modify];exact zAm _
 ·exact Below.heap_setCell b p u k hk
theorem AP.putObj {S:Nat -> Prop} {a b:World} (h:AP S a b) {l:Nat} (hl:l<a.heap.size -> S l) (o:Obj):AP S a (b.putObj l o):=by
 refine h.comp (S':=fun k=>k=l) ⟨rfl,rfl,rfl,by simp,fun k _ hk=>zEL hk⟩ (fun i hi e=>by cases e;exact hl hi)
theorem AP.cell {S:Nat -> Prop} {a b:World} (h:AP S a b) {p:Addr} {u:Value} (hs: ¬ S p.block) (hc:a.cell? p=some u):b.cell? p=some u:=by
 rw [World.cell?_of_block (h.block p.block (zED a p hc) hs)];exact hc
def EL (I:(Nat -> Prop) -> (Nat -> Prop) -> World -> Prop):Prop:=
 ∀ (G R G' R':Nat -> Prop) (A B:World),I G R A -> AP G A B -> (∀ k,G' k -> G k∨A.heap.size<=k) -> (∀ k,R' k -> R k∨G k∨A.heap.size<=k) -> (∀ k,G k∨R k -> G' k∨R' k) -> (∀ k,G' k -> ¬ R' k) -> (∀ k,G' k∨R' k -> k<B.heap.size) -> I G' R' B
structure EY (G R:Nat -> Prop) (W:World):Prop where
 dis: ∀ k,G k -> ¬ R k
 lt: ∀ k,G k∨R k -> k<W.heap.size
theorem EY.upd {G R S:Nat -> Prop} {A B:World} (h:EY G R A) (hu:AP S A B):EY G R B:=⟨h.dis,fun k hk=>zAY (h.lt k hk) hu.size⟩
theorem EL.same {I:(Nat -> Prop) -> (Nat -> Prop) -> World -> Prop} (h:EL I) {G R:Nat -> Prop} {A B:World} (hs:EY G R A) (hi:I G R A) (hu:AP G A B):I G R B:=
 h G R G R A B hi hu (fun _ h=>.inl h) (fun _ h=>.inl h) (fun _ h=>h) hs.dis (hs.upd hu).lt
def sN (Keep:Nat -> Prop) (I:World -> Prop) (Ix:Code -> World -> Prop) (W:World):Exit -> Act -> World -> Prop
 | .normal,_,W'=>AP (fun k=>¬ Keep k) W W'/\ I W'
 | .ret,_,W'=>AP (fun k=>¬ Keep k) W W'/\ Ix .ret W'
 | .exit id,_,W'=>AP (fun k=>¬ Keep k) W W'/\ Ix (.exit id) W'
 | .goto t,_,W'=>AP (fun k=>¬ Keep k) W W'/\ Ix (.goto t) W'
 | .panic _,_,_=>False
 | .outgrown,_,_=>False
def UD (nv:Prop) (P:Program) (g:Nat) (lb:Array Value) {X:Type} (E:X -> (Nat -> Prop) -> World -> Array Value -> Prop) (encs:List X) (Ik:Ending -> (Nat -> Prop) -> (Nat -> Prop) -> World -> Prop) (G0 Rd:Nat -> Prop) (w:World):Prop:=
 ∀ (l:Nat) (J:Nat -> (Nat -> Prop) -> (Nat -> Prop) -> World -> Prop) (Jx:(Nat -> Prop) -> (Nat -> Prop) -> World -> Prop) (W:World),
  (∀ i,EL (J i)) -> EL Jx -> AP (fun k=>¬ (G0 k∨Rd k)) w W ->
  (∀ i x args G R W1,encs[i]? =some x -> E x R W1 args -> J i G R W1 -> EY G R W1 -> YieldAt Fence.wide 0 P l args W1 fun e W'=>
   AP (fun k=>¬ (G k∨R k)) W1 W'/\ ((e= .returned (.bool true)/\ J (i+1) G R W')∨(e= .returned (.bool false)/\ Jx G R W'))) ->
  J 0 G0 Rd W -> (nv -> ∀ G R W,¬ Jx G R W) ->
  CallsIn Fence.wide 0 P g (#[.func (.yield l) #[] #[]]++lb) W fun e W'=>∃ G R,EY G R W'/\ ((J encs.length G R W'/\ Ik e G R W')∨((∃ v,e= .returned v)/\ Jx G R W'))
abbrev Md:=@UD False
section
variable {P:Program} {X:Type} {E:X -> (Nat -> Prop) -> World -> Array Value -> Prop} {Ik:Ending -> (Nat -> Prop) -> (Nat -> Prop) -> World -> Prop} {encs:List X} {G0 Rd:Nat -> Prop} {ps:Array Tmp} {assign body:Code} {a:Act} {gf:Nat} {lb:Array Value}
def Xq (P:Program) (E:X -> (Nat -> Prop) -> World -> Array Value -> Prop) (encs:List X) (ps:Array Tmp) (assign body:Code) (a:Act) (l:Nat) (I:Nat -> (Nat -> Prop) -> (Nat -> Prop) -> World -> Prop) (Ix:Code -> (Nat -> Prop) -> (Nat -> Prop) -> World -> Prop):Prop:=
 ∀ (G R:Nat -> Prop) (i:Nat) (x:X) (args:Array Value) (W:World),encs[i]? =some x -> E x R W args -> I i G R W -> EY G R W -> (∃ r,W.heap[l]? =some (.loop r)) -> G l ->
  assign.wpIn (Fence.wide.inRound l) 0 P (Exit.then (fun a₁ W₁=>∃ K:(Nat -> Prop) -> (Nat -> Prop) -> World -> Prop,EL K/\ AP (fun k=>¬ (G k∨R k)) W W₁/\ K G R W₁/\ ∀ W₂,K G R W₂ -> (∃ r,W₂.heap[l]? =some (.loop r)) ->
   body.wpIn (Fence.wide.inRound l) 0 P (sN (fun k=>G k∨R k) (I (i+1) G R) (fun c=>Ix c G R) W₂) a₁ W₂) (fun _ _ _=>False)) { tmps:=(ps.zip args).foldl (fun t (p,v)=>t.setIfInBounds p v) a.tmps,defers:=[] } W
theorem g9 {nv:Prop} {w0 W1:World} {l D dd:Nat} {fn:FuncId} {loose:Bool}
 (hseq:UD nv P gf lb E encs Ik G0 Rd w0) (bN:AP (fun k=>¬ (G0 k∨Rd k)) w0 W1) (Fr: ∀ k,G0 k∨Rd k -> k<l/\ k≠D) (Pk: ∀ k,G0 k -> ¬ Rd k) (D5: ∀ x∈encs,∀ R W args,E x R W args -> args.size=ps.size)
 (Aj:LoopState -> Option Code -> Loop) (CF: ∀ st pe,Aj st pe= { state:=st,pending:=pe,fn,tmps:=a.tmps,params:=ps,assign,body,defers:=dd })
 (Fb:W1.heap[l]? =some (.loop (Aj .ready none))) (hD1:loose=false -> W1.heap[D]? =some (.deferred (some []))) (ka:D≠l)
 (I:Nat -> (Nat -> Prop) -> (Nat -> Prop) -> World -> Prop) (Ix:Code -> (Nat -> Prop) -> (Nat -> Prop) -> World -> Prop) (hI: ∀ i,EL (I i)) (JT: ∀ c,EL (Ix c)) (Ka:nv -> ∀ c G R W,¬ Ix c G R W) (own:Nat -> Prop) (Pd: ∀ k,own k -> k=l∨(loose=false/\ k=D)) (KZ:own l) (WW:loose=false -> own D)
 (h0:I 0 (fun k=>G0 k∨own k) Rd W1) (C7:Xq P E encs ps assign body a l I Ix):
 CallsIn Fence.wide 0 P gf (#[.func (.yield l) #[] #[]]++lb) W1 fun e W2=>∃ G R,EY (fun k=>G k∨own k) R W2/\ (∀ k,own k -> ¬ G k)/\ (loose=false -> W2.heap[D]? =some (.deferred (some [])))/\
  ((I encs.length (fun k=>G k∨own k) R W2/\ Ik e G R W2/\ W2.heap[l]? =some (.loop (Aj .ready none)))∨((∃ v,e= .returned v)/\ ∃ c,Ix c (fun k=>G k∨own k) R W2/\ W2.heap[l]? =some (.loop (Aj .done (some c))))):=by
 have Rp: ∀ {W:World} {r:Loop} {k:Nat},W.heap[l]? =some (.loop r) -> (loose=false -> W.heap[D]? =some (.deferred (some []))) -> own k -> k<W.heap.size:=fun h4 h5 ho=>
  (Pd _ ho).elim (fun e=>e▸(zAJ.1 h4).1) (fun e=>e.2▸(zAJ.1 (h5 e.1)).1)
 have shr: ∀ {G R:Nat -> Prop} {W:World} {r:Loop},EY G R W -> (∀ k,own k -> ¬ G k/\ ¬ R k) -> W.heap[l]? =some (.loop r) -> (loose=false -> W.heap[D]? =some (.deferred (some []))) -> EY (fun k=>G k∨own k) R W:=fun hs hn h4 h5=>
  ⟨fun k hk=>hk.elim (hs.dis k) fun h=>(hn k h).2,fun k hk=>hk.elim (fun h=>h.elim (fun h=>hs.lt k (.inl h)) (Rp h4 h5)) fun h=>hs.lt k (.inr h)⟩
 have Dv: ∀ (Φ:(Nat -> Prop) -> (Nat -> Prop) -> World -> Prop) (r:Loop),EL Φ -> EL (fun G R W=>Φ (fun k=>G k∨own k) R W/\ (∀ k,own k -> ¬ G k/\ ¬ R k)/\ W.heap[l]? =some (.loop r)/\ (loose=false -> W.heap[D]? =some (.deferred (some [])))):=by
  rintro Φ r hΦ G R G' R' A B ⟨h1,h2,h4,h5⟩ hu hg hr EF hd AN
  have hn: ∀ k,own k -> ¬ G' k/\ ¬ R' k:=fun k ho=>by
   have:=Rp h4 h5 ho;exact ⟨fun hx=>(hg k hx).elim (h2 k ho).1 (by omega),fun hx=>(hr k hx).elim (h2 k ho).2 fun hx=>hx.elim (h2 k ho).1 (by omega)⟩
  have Wp:=(hu.block l (Rp h4 h5 KZ) (h2 l KZ).1).trans h4;have lV:loose=false -> B.heap[D]? =some (.deferred (some [])):=fun hl=>(hu.block D (Rp h4 h5 (WW hl)) (h2 D (WW hl)).1).trans (h5 hl)
  refine ⟨hΦ _ R _ R' A B h1 (hu.mono fun i _ h=>.inl h) (fun k hk=>hk.elim (fun h=>(hg k h).imp .inl id) fun h=>.inl (.inr h)) (fun k hk=>(hr k hk).imp id fun h=>h.imp .inl id) (fun k hk=>?_) (fun k hk=>hk.elim (hd k) fun h=>(hn k h).2) (fun k hk=>hk.elim (fun h=>h.elim (fun h=>AN k (.inl h)) (Rp Wp lV)) fun h=>AN k (.inr h)),hn,Wp,lV⟩;rcases hk with (hk | hk) | hk
  ·exact (EF k (.inl hk)).imp .inl id
  ·exact .inl (.inr hk)
  ·exact (EF k (.inr hk)).imp .inl id
 have hGl: ∀ k,G0 k∨Rd k -> k<W1.heap.size:=fun k h=>Nat.lt_trans (Fr k h).1 (zAJ.1 Fb).1
 have Gf: ∀ k,own k -> ¬ G0 k/\ ¬ Rd k:=fun k ho=>by
  have hx: ¬ (G0 k∨Rd k):=fun hx=>by
   have:=Fr k hx;rcases Pd k ho with e | ⟨_,e⟩ <;> omega
  exact ⟨fun h=>hx (.inl h),fun h=>hx (.inr h)⟩
 refine (hseq l
  (fun i G R W=>I i (fun k=>G k∨own k) R W/\ (∀ k,own k -> ¬ G k/\ ¬ R k)/\ W.heap[l]? =some (.loop (Aj .ready none))/\ (loose=false -> W.heap[D]? =some (.deferred (some []))))
  (fun G R W=>∃ c,Ix c (fun k=>G k∨own k) R W/\ (∀ k,own k -> ¬ G k/\ ¬ R k)/\ W.heap[l]? =some (.loop (Aj .done (some c)))/\ (loose=false -> W.heap[D]? =some (.deferred (some []))))
  W1 (fun i=>Dv (I i) _ (hI i)) (fun G R G' R' A B ⟨c,h⟩ hu hg hr EF hd AN=>⟨c,Dv (Ix c) _ (JT c) G R G' R' A B h hu hg hr EF hd AN⟩) bN ?_ ⟨h0,Gf,Fb,hD1⟩ (fun hn G R W ⟨c,h,_⟩=>Ka hn c _ _ _ h)).mono ?_
 ·rintro i x args G R W hx hE ⟨hi,hn,hl,hd⟩ hs;have WM:x∈encs:=zDz hx;have AN:l<W.heap.size:=(zAJ.1 hl).1;have Hw:=shr hs hn hl hd;have hy:=run_yield (P:=P) (args:=args) hl (by rw [CF];exact D5 x WM R W args hE);rw [CF] at hy;refine ⟨fn,_,assign,body,hy,roundIn_of_wpIn trivial (zEh (C7 _ R i x args W hx hE hi Hw ⟨_,hl⟩ (.inr KZ)) ?_)⟩;rintro e a1 Kt hq;cases e <;> first | exact hq.elim | skip
  obtain ⟨K,hK,Hu,Wc,hb⟩:=hq;have xS:AP (fun k=>¬ (G k∨R k)) W Kt:=Hu.mono fun k _ h hx=>h (hx.imp .inl id)
  have hl:=(Hu.block l AN (fun h=>h (.inl (.inr KZ)))).trans hl;have hd:loose=false -> Kt.heap[D]? =some (.deferred (some [])):=fun h=>(Hu.block D (zAJ.1 (hd h)).1 (fun hx=>hx (.inl (.inr (WW h))))).trans (hd h)
  have AN:l<Kt.heap.size:=zAY AN Hu.size;have kG:=Hw.upd Hu;refine ⟨_,run_beginRound hl (by rw [CF]),?_⟩;have Cf:(Kt.putObj l (.loop { Aj .ready none with state:=.busy })).heap[l]? =some (.loop { Aj .ready none with state:=.busy }):=World.putObj_heap_same AN;have S7:loose=false -> (Kt.putObj l (.loop { Aj .ready none with state:=.busy })).heap[D]? =some (.deferred (some [])):=fun h=>(zEL ka).trans (hd h)
  have WN:AP (fun k=>G k∨own k) Kt (Kt.putObj l (.loop { Aj .ready none with state:=.busy })):=(AP.refl _ Kt).putObj (fun _=>.inr KZ) _;refine zEh (hb _ (hK.same kG Wc WN) ⟨_,Cf⟩) ?_
  have fin: ∀ (Es:Option Code) (W3:World),AP (fun k=>¬ ((G k∨own k)∨R k)) (Kt.putObj l (.loop { Aj .ready none with state:=.busy })) W3 ->
   (Instr.endRound l Es).run P W3= .ok (.bool Es.isNone) (W3.putObj l (.loop (Aj (if Es.isNone then .ready else .done) Es)))/\
   (W3.putObj l (.loop (Aj (if Es.isNone then .ready else .done) Es))).heap[l]? =some (.loop (Aj (if Es.isNone then .ready else .done) Es))/\
   (loose=false -> (W3.putObj l (.loop (Aj (if Es.isNone then .ready else .done) Es))).heap[D]? =some (.deferred (some [])))/\
   AP (fun k=>¬ (G k∨R k)) W (W3.putObj l (.loop (Aj (if Es.isNone then .ready else .done) Es)))/\
   EY (fun k=>G k∨own k) R W3/\ AP (fun k=>G k∨own k) W3 (W3.putObj l (.loop (Aj (if Es.isNone then .ready else .done) Es))):=fun Es W3 JL=>by
   have kb:W3.heap[l]? =some (.loop { Aj .ready none with state:=.busy }):=(JL.block l (by simpa using AN) (fun h=>h (.inl (.inr KZ)))).trans Cf;have:=run_endRound (P:=P) Es kb;refine ⟨by rw [CF] at this ⊢;exact this,World.putObj_heap_same (zAJ.1 kb).1,fun h=>(zEL ka).trans ((JL.block D ?_ (fun hx=>hx (.inl (.inr (WW h))))).trans (S7 h)),xS.comp (S':=fun k=>¬ (G k∨R k)) ?_ (fun _ _ h=>h),(kG.upd WN).upd JL,(AP.refl _ W3).putObj (fun _=>.inr KZ) _⟩
   ·simpa using (zAJ.1 (hd h)).1
   ·refine ⟨JL.os,JL.tape,JL.output,by simpa using JL.size,fun k hk Pf=>?_⟩;have lQ:G k∨R k:=Classical.not_not.1 Pf
    by_cases D6:k=l
    ·subst D6;exact (lQ.elim (hn k KZ).1 (hn k KZ).2).elim
    ·rw [zEL D6,JL.block k (by simpa using hk) (fun hx=>hx (lQ.imp .inl id)),zEL D6]
  rintro e a3 W3 hp;cases e with
  | normal=>
   obtain ⟨JL,zw⟩:=hp;obtain ⟨hr,Nt,Kd,Nk,Nm,Nj⟩:=fin none W3 JL;exact ⟨_,_,hr,Nk,.inl ⟨rfl,(hI _).same Nm zw Nj,hn,Nt,Kd⟩⟩
  | ret=>
   obtain ⟨hr,Nt,Kd,Nk,Nm,Nj⟩:=fin (some .ret) W3 hp.1;exact ⟨_,_,hr,Nk,.inr ⟨rfl,.ret,(JT _).same Nm hp.2 Nj,hn,Nt,Kd⟩⟩
  | exit id=>
   obtain ⟨hr,Nt,Kd,Nk,Nm,Nj⟩:=fin (some (.exit id)) W3 hp.1;exact ⟨_,_,hr,Nk,.inr ⟨rfl,(.exit id),(JT _).same Nm hp.2 Nj,hn,Nt,Kd⟩⟩
  | goto t=>
   obtain ⟨hr,Nt,Kd,Nk,Nm,Nj⟩:=fin (some (.goto t)) W3 hp.1;exact ⟨_,_,hr,Nk,.inr ⟨rfl,(.goto t),(JT _).same Nm hp.2 Nj,hn,Nt,Kd⟩⟩
  | panic ch=>exact hp.elim
  | outgrown=>exact hp.elim
 ·rintro e W2 ⟨G,R,hs,(⟨⟨h1,h2,h4,h5⟩,ho⟩ | ⟨hv,c,h1,h2,h4,h5⟩)⟩
  ·exact ⟨G,R,shr hs h2 h4 h5,fun k h=>(h2 k h).1,h5,.inl ⟨h1,ho,h4⟩⟩
  ·exact ⟨G,R,shr hs h2 h4 h5,fun k h=>(h2 k h).1,h5,.inr ⟨hv,c,h1,h4⟩⟩
theorem dW {nv:Prop} {g:Operand} {Q:Exit -> Act -> World -> Prop} {w:World} (hg:a.eval g= .func (.func gf) #[] lb) (eg: ∀ args w,(callFunc gf args).run P w= .ok (.enter gf args) w)
 (hseq:UD nv P gf lb E encs Ik G0 Rd w) (Fr:EY G0 Rd w) (D5: ∀ x∈encs,∀ R W args,E x R W args -> args.size=ps.size)
 (I:Nat -> (Nat -> Prop) -> (Nat -> Prop) -> World -> Prop) (Ix:Code -> (Nat -> Prop) -> (Nat -> Prop) -> World -> Prop) (hI: ∀ i,EL (I i)) (JT: ∀ c,EL (Ix c)) (Ka:nv -> ∀ c G R W,¬ Ix c G R W) (h0:I 0 G0 Rd w) (C7: ∀ l,Xq P E encs ps assign body a l I Ix)
 (Dg: ∀ (D:Nat) (e:Ending) (G R own:Nat -> Prop) (W W':World),Ik e G R W -> I encs.length (fun k=>G k∨own k) R W' -> EY (fun k=>G k∨own k) R W' -> (∀ k,own k -> ¬ G k) -> AP own W W' -> W'.heap[D]? =some (.deferred (some [])) -> w.heap.size<=D ->
  match e with
  | .returned _=>Q .normal { a with defers:={ target:=.collected D,args:=#[] }::a.defers } W'
  | .panicked c=>Q (.panic c) { a with defers:={ target:=.collected D,args:=#[] }::a.defers } W'
  | .outgrown=>False)
 (Pa: ∀ (D:Nat) (c:Code) (G R:Nat -> Prop) (W:World),Ix c G R W -> W.heap[D]? =some (.deferred (some [])) -> w.heap.size<=D ->
  c.wpIn Fence.wide 0 P Q { a with defers:={ target:=.collected D,args:=#[] }::a.defers } W):
 (Code.rangeFunc g ps assign body).wpIn Fence.wide 0 P Q a w:=by
 refine wpIn_rangeFunc ?_;intro fn _;have Hw:(w.alloc (.deferred (some []))).heap.size=w.heap.size+1:=World.size_alloc _ _;obtain ⟨Aj,CF⟩: ∃ Aj:LoopState -> Option Code -> Loop,∀ st pe,Aj st pe= { state:=st,pending:=pe,fn,tmps:=a.tmps,params:=ps,assign,body,defers:=w.heap.size }:=⟨_,fun _ _=>rfl⟩;obtain ⟨W1,L2⟩: ∃ W1,(w.alloc (.deferred (some []))).alloc (.loop (Aj .ready none))=W1:=⟨_,rfl⟩
 have Kg:W1.heap[w.heap.size+1]? =some (.loop (Aj .ready none)):=by
  rw [←L2];have:=World.alloc_heap_new (w.alloc (.deferred (some []))) (.loop (Aj .ready none));rwa [World.size_alloc] at this
 have hK1:W1.heap[w.heap.size]? =some (.deferred (some [])):=by
  rw [←L2];exact (Below.heap_alloc _ _ _ (by simp)).trans (World.alloc_heap_new w _)
 have hu: ∀ S,AP S w W1:=fun S=>by rw [←L2];exact ((AP.refl S w).alloc _).alloc _
 have AN:=(zAJ.1 Kg).1
 refine ⟨w.heap.size+1,[{ target:=.collected w.heap.size,args:=#[] }],W1,{ target:=.fn (.func gf) lb,args:=#[.func (.yield (w.heap.size+1)) #[] #[]] },W1,gf,
  #[.func (.yield (w.heap.size+1)) #[] #[]]++lb,W1,?_,?_,fun _ _=>trivial,?_,(fun h=>by cases h),?_⟩
 ·rw [←L2,CF];exact run_enterLoop_outer _ _ _ _ _
 ·simp only [resolve,hg];simp [go_sem]
 ·simp [invoke,go_sem,eg]
 ·refine (g9 (loose:=false) (D:=w.heap.size) hseq (hu _) (fun k h=>by have:=Fr.lt k h;omega) Fr.dis D5 Aj CF Kg (fun _=>hK1) (by omega)
   I Ix hI JT Ka (fun k=>k=w.heap.size+1∨k=w.heap.size) (fun k h=>h.imp id fun h=>⟨rfl,h⟩) (.inl rfl) (fun _=>.inr rfl)
   (hI 0 G0 Rd _ Rd _ _ h0 (hu _) (fun k h=>h.imp id (by omega)) (fun k h=>.inl h) (fun k h=>h.imp .inl id) (fun k h hr=>?_) (fun k h=>?_)) (C7 _)).mono ?_
  ·rcases h with h | h
   ·exact Fr.dis k h hr
   ·have:=Fr.lt k (.inr hr);omega
  ·rcases h with (h | h) | h
   ·have:=Fr.lt k (.inl h);omega
   ·omega
   ·have:=Fr.lt k (.inr h);omega
  rintro e W2 ⟨G,R,hs,hn,hk,(⟨hi,ho,hl⟩ | ⟨⟨v,rfl⟩,c,hi,hl⟩)⟩
  ·have hp: ∀ o,AP (fun k=>k=w.heap.size+1∨k=w.heap.size) W2 (W2.putObj (w.heap.size+1) o):=fun o=>(AP.refl _ W2).putObj (fun _=>.inl rfl) _
   have BD: ∀ o,AP (fun k=>G k∨k=w.heap.size+1∨k=w.heap.size) W2 (W2.putObj (w.heap.size+1) o):=fun o=>(hp o).mono fun _ _ h=>.inr h
   cases e with
   | returned v=>exact ⟨none,_,by have:=run_endLoop (P:=P) hl (by rw [CF];simp);rw [CF] at this;exact this,
    Dg _ (.returned v) G R _ W2 _ ho ((hI _).same hs hi (BD _)) (hs.upd (hp _)) hn (hp _) ((zEL (by omega)).trans (hk rfl)) (zAm _)⟩
   | panicked c=>exact Dg _ (.panicked c) G R _ W2 W2 ho hi hs hn (AP.refl _ _) (hk rfl) (zAm _)
   | outgrown=>exact (Dg _ .outgrown G R _ W2 W2 ho hi hs hn (AP.refl _ _) (hk rfl) (zAm _)).elim
  ·exact ⟨some c,_,by have:=run_endLoop (P:=P) hl (by rw [CF];simp);rw [CF] at this;exact this,
    Pa _ c _ _ _ ((JT _).same hs hi ((AP.refl _ W2).putObj (fun _=>.inr (.inl rfl)) _)) ((zEL (by omega)).trans (hk rfl)) (zAm _)⟩
theorem n7 {nv:Prop} {l0:Nat} {g:Operand} {Q:Exit -> Act -> World -> Prop} {w:World} (hg:a.eval g= .func (.func gf) #[] lb) (eg: ∀ args w,(callFunc gf args).run P w= .ok (.enter gf args) w) (ay: ∃ r,w.heap[l0]? =some (.loop r))
 (hseq:UD nv P gf lb E encs Ik G0 Rd w) (Fr:EY G0 Rd w) (D5: ∀ x∈encs,∀ R W args,E x R W args -> args.size=ps.size)
 (I:Nat -> (Nat -> Prop) -> (Nat -> Prop) -> World -> Prop) (Ix:Code -> (Nat -> Prop) -> (Nat -> Prop) -> World -> Prop) (hI: ∀ i,EL (I i)) (JT: ∀ c,EL (Ix c)) (Ka:nv -> ∀ c G R W,¬ Ix c G R W) (h0:I 0 G0 Rd w) (C7: ∀ l,Xq P E encs ps assign body a l I Ix)
 (Dg: ∀ (e:Ending) (G R own:Nat -> Prop) (W W':World),Ik e G R W -> I encs.length (fun k=>G k∨own k) R W' -> EY (fun k=>G k∨own k) R W' -> (∀ k,own k -> ¬ G k) -> AP own W W' ->
  match e with
  | .returned _=>Q .normal a W'
  | .panicked c=>Q (.panic c) a W'
  | .outgrown=>False)
 (Pa: ∀ (c:Code) (G R:Nat -> Prop) (W:World),Ix c G R W -> c.wpIn (Fence.wide.inRound l0) 0 P Q a W):
 (Code.rangeFunc g ps assign body).wpIn (Fence.wide.inRound l0) 0 P Q a w:=by
 refine wpIn_rangeFunc ?_;intro fn _;obtain ⟨r0,Et⟩:=ay;obtain ⟨Aj,CF⟩: ∃ Aj:LoopState -> Option Code -> Loop,∀ st pe,Aj st pe= { state:=st,pending:=pe,fn,tmps:=a.tmps,params:=ps,assign,body,defers:=r0.defers }:=⟨_,fun _ _=>rfl⟩;obtain ⟨W1,L2⟩: ∃ W1,w.alloc (.loop (Aj .ready none))=W1:=⟨_,rfl⟩
 have Kg:W1.heap[w.heap.size]? =some (.loop (Aj .ready none)):=by
  rw [←L2];exact World.alloc_heap_new w _
 have hu: ∀ S,AP S w W1:=fun S=>by rw [←L2];exact (AP.refl S w).alloc _
 have AN:=(zAJ.1 Kg).1
 refine ⟨w.heap.size,[],W1,{ target:=.fn (.func gf) lb,args:=#[.func (.yield w.heap.size) #[] #[]] },W1,gf,
  #[.func (.yield w.heap.size) #[] #[]]++lb,W1,?_,?_,fun _ _=>trivial,?_,(fun h=>by cases h),?_⟩
 ·rw [←L2,CF];exact run_enterLoop_inner Et _ _ _ _ _
 ·simp only [resolve,hg];simp [go_sem]
 ·simp [invoke,go_sem,eg]
 ·refine CallsIn.inRound _ ((g9 (loose:=true) (D:=w.heap.size+1) (G0:=G0) hseq (hu _) (fun k h=>by have:=Fr.lt k h;omega) Fr.dis D5 Aj CF Kg (fun h=>by cases h) (by omega)
   I Ix hI JT Ka (fun k=>k=w.heap.size) (fun k h=>.inl h) rfl (fun h=>by cases h)
   (hI 0 G0 Rd _ Rd _ _ h0 (hu _) (fun k h=>h.imp id (by omega)) (fun k h=>.inl h) (fun k h=>h.imp .inl id) (fun k h hr=>?_) (fun k h=>?_)) (C7 _)).mono ?_)
  ·rcases h with h | h
   ·exact Fr.dis k h hr
   ·have:=Fr.lt k (.inr hr);omega
  ·rcases h with (h | h) | h
   ·have:=Fr.lt k (.inl h);omega
   ·omega
   ·have:=Fr.lt k (.inr h);omega
  rintro e W2 ⟨G,R,hs,hn,_,(⟨hi,ho,hl⟩ | ⟨⟨v,rfl⟩,c,hi,hl⟩)⟩
  ·have hp: ∀ o,AP (fun k=>k=w.heap.size) W2 (W2.putObj w.heap.size o):=fun o=>(AP.refl (fun k=>k=w.heap.size) W2).putObj (fun _=>rfl) _
   cases e with
   | returned v=>exact ⟨none,_,by have:=run_endLoop (P:=P) hl (by rw [CF];simp);rw [CF] at this;exact this,
    Dg (.returned v) G R _ W2 _ ho ((hI _).same hs hi ((hp _).mono fun _ _ h=>.inr h)) (hs.upd (hp _)) hn (hp _)⟩
   | panicked c=>exact Dg (.panicked c) G R _ W2 W2 ho hi hs hn (AP.refl _ _)
   | outgrown=>exact (Dg .outgrown G R _ W2 W2 ho hi hs hn (AP.refl _ _)).elim
  ·exact ⟨some c,_,by have:=run_endLoop (P:=P) hl (by rw [CF];simp);rw [CF] at this;exact this,
    Pa c _ _ _ ((JT _).same hs hi ((AP.refl _ W2).putObj (fun _=>.inr rfl) _))⟩
end
def Eb (B:Nat):List Deferred -> World -> Prop
 | [],_=>True
 | d::ds,w=>∃ D,d= { target:=.collected D,args:=#[] }/\ B<=D/\ w.heap[D]? =some (.deferred (some []))/\ (∀ d'∈ds,d'.target≠.collected D)/\ Eb B ds w
theorem Eb.upd {B:Nat} {S:Nat -> Prop} {w w':World} (hu:AP S w w'): ∀ {ds:List Deferred},Eb B ds w -> (∀ k,B<=k -> S k -> w.heap[k]? ≠some (.deferred (some []))) -> Eb B ds w'
 | [],_,_=>trivial
 | _::_,⟨D,h1,h2,h3,h4,h5⟩,hs=>⟨D,h1,h2,(hu.block D (zAJ.1 h3).1 (fun hx=>hs D h2 hx h3)).trans h3,h4,Eb.upd hu h5 hs⟩
theorem Eb.lt {B:Nat} {w:World}: ∀ {ds:List Deferred} (_:Eb B ds w) {d:Deferred} {D:Nat},d∈ds -> d.target= .collected D -> D<w.heap.size
 | _::_,⟨D,h1,h2,h3,h4,h5⟩,d,D',hm,ht=>by
  rcases zDu.1 hm with rfl | hm
  ·subst h1;cases ht;exact (zAJ.1 h3).1
  ·exact Eb.lt h5 hm ht
def OX (B:Nat) (w W:World):Prop:=AP (fun k=>B<=k/\ w.heap[k]? =some (.deferred (some []))) w W
def tn (B:Nat) (P:Program) (fn:Func) (R:Ending -> World -> Prop):Exit -> Act -> World -> Prop
 | .normal,a,w | .ret,a,w=>Eb B a.defers w/\ ∀ W,OX B w W -> ∃ v,(results fn a.tmps).run P W= .ok v W/\ R (.returned v) W
 | _,_,_=>False
theorem jQ {B:Nat} {P:Program} {fn:Func} {tmps:Array Value} {R:Ending -> World -> Prop}: ∀ (ds:List Deferred) (w:World),Eb B ds w ->
 (∀ W,OX B w W -> ∃ v,(results fn tmps).run P W= .ok v W/\ R (.returned v) W) -> LeavesInM Fence.wide 0 P fn tmps R ds .returning w
 | [],w,_,h=>h w (AP.refl _ w)
 | _::ds,w,⟨D,h1,h2,h3,h4,h5⟩,h=>by
  refine ⟨by simp,.inl ⟨D,_,by rw [h1],run_takeDeferred h3,?_⟩⟩;have hu:AP (fun k=>k=D) w (w.putObj D (.deferred none)):=(AP.refl (fun k=>k=D) w).putObj (fun _=>rfl) _
  have Ak: ∀ {ds:List Deferred},(∀ d'∈ds,d'.target≠.collected D) -> Eb B ds w -> Eb B ds (w.putObj D (.deferred none)):=by
   intro ds
   induction ds with
   | nil=>intro _ _;trivial
   | cons d ds ih=>
    intro hd ⟨D',g1,g2,g3,g4,g5⟩;refine ⟨D',g1,g2,?_,g4,ih (fun d' hm=>hd d' (by simp [hm])) g5⟩;rw [zEL (fun e=>hd d (by simp) (by rw [g1,e]))];exact g3
  refine jQ ds _ (Ak h4 h5) fun W hW=>h W ?_
  refine hu.mono (S':=fun k=>B<=k/\ w.heap[k]? =some (.deferred (some []))) (fun i _ e=>by cases e;exact ⟨h2,h3⟩) |>.comp hW fun i hi hx=>⟨hx.1,?_⟩
  by_cases e:i=D
  ·rw [e];exact h3
  ·rw [←zEL (o:=.deferred none) e];exact hx.2
theorem zCs (B:Nat) {P:Program} {f:FuncId} {fn:Func} {c:Code} {args:Array Value} {w:World} {R:Ending -> World -> Prop}
 (hf:P.funcs[f]? =some fn) (hb:fn.body=some c)
 (h:c.wp P (tn B P fn R) { tmps:=args++Array.replicate (fn.ntmps-args.size) undef,defers:=[] } w):Calls P f args w R:=by
 refine (zF8 (n:=0)).1 (callsIn_of_wp_marks hf hb trivial ?_);refine zEh (wpIn_wide.2 h) fun e a' w' hq=>?_
 cases e <;> first | exact jQ _ _ hq.1 hq.2 | exact hq.elim
end Go.Proofs.YtkjbblkieglmlaaGreatDoor
namespace Go.Proofs.YtkjbblkieglmlaaGreatDoor
abbrev u8:=@List.getD_eq_getElem?_getD
abbrev zAV:=@List.getElem?_eq_some_iff
abbrev zAX:=@List.getElem?_append_left
abbrev zAb:=@List.getElem?_append_right
abbrev zAc:=@Array.getD_eq_getD_getElem?
abbrev zAl:=@List.length_set
abbrev zAo:=@List.getElem?_set
abbrev zD0:=@Array.getElem?_setIfInBounds
abbrev zEJ:=@List.getElem?_eq_none
end Go.Proofs.YtkjbblkieglmlaaGreatDoor
namespace Go.Proofs.YtkjbblkieglmlaaGreatDoor
open Go.RowKit
inductive DV where
 | any
 | nils
 | int (k:IntKind) (n:Int)
 | bool (b:Bool)
 | str (s:ByteArray)
 | ints (l:List Int)
 | bools (l:List Bool)
 | sl (m n:Nat) (f:Nat -> Nat -> DV)
 | fp (m:Nat) (f:Nat -> DV)
 | agg (m:Nat) (f:Nat -> DV)
 | tup (m:Nat) (f:Nat -> DV)
 | ref (k j:Nat)
 | msl (k m off n:Nat)
 | mp (k m i j:Nat)
 | fn (g:Nat) (m:Nat) (c:Nat -> DV)
 | it (k:Nat)
 | yl (l:Nat)
 | mse (k m off n:Nat)
 | mri (k i:Nat)
 | cst (u:Value)
structure AI where
 blk:Nat
 off:Nat
 room:Nat
 val:Value
 foot:Nat -> Prop
def Fw (m:Nat) (f:Nat -> DV):Nat -> DV:=fun j=>((List.range m).map f).getD j .any
theorem Ud {m:Nat} {f:Nat -> DV} {j:Nat} (h:j<m):Fw m f j=f j:=by simp [Fw,h]
def LB:Nat:=140737488355328
def AM (M:Nat -> Prop) (w:World):DV -> List AI -> Value -> Prop
 | .any,_,_=>True
 | .nils,_,v=>v= .slice none 0 0
 | .int k n,_,v=>v= .int k n
 | .bool b,_,v=>v= .bool b
 | .str s,_,v=>v= .string s
 | .ints l,_,v=>∃ (a:Option Addr) (cap:Nat),v= .slice a l.length cap/\ l.length<=cap/\ l.length<=LB/\
  ∀ j,j<l.length -> ∃ b o,a=some ⟨b,o,none⟩/\ ¬ M b/\ w.cell? ⟨b,o+j,none⟩=some (.int .i64 (l.getD j 0))
 | .bools l,_,v=>∃ (a:Option Addr) (cap:Nat),v= .slice a l.length cap/\ l.length<=cap/\ l.length<=LB/\
  ∀ j,j<l.length -> ∃ b o,a=some ⟨b,o,none⟩/\ ¬ M b/\ w.cell? ⟨b,o+j,none⟩=some (.bool (l.getD j false))
 | .sl m n f,_,v=>∃ (a:Option Addr) (cap:Nat),v= .slice a n cap/\ n<=cap/\ n<=LB/\
  ∀ i j,i<n -> j<m -> ∃ b o u,a=some ⟨b,o,none⟩/\ ¬ M b/\ w.cell? ⟨b,o+(i*m+j),none⟩=some u/\ AM M w (f i j) [] u
 | .fp m f,_,v=>∃ b o,v= .pointer (some ⟨b,o,none⟩)/\ ∀ j,j<m -> ¬ M b/\ ∃ u,w.cell? ⟨b,o+j,none⟩=some u/\ AM M w (f j) [] u
 | .agg m f,ρ,v=>∃ cs,v= .agg cs/\ cs.size=m/\ ∀ j,j<m -> ∃ u,cs[j]? =some u/\ AM M w (f j) ρ u
 | .tup m f,ρ,v=>∃ cs,v= .tuple cs/\ cs.size=m/\ ∀ j,j<m -> ∃ u,cs[j]? =some u/\ AM M w (f j) ρ u
 | .ref k j,ρ,v=>∃ p:AI,ρ[k]? =some p/\ v= .pointer (some ⟨p.blk,p.off+j,none⟩)
 | .msl k m off n,ρ,v=>∃ (p:AI) (cap:Nat),ρ[k]? =some p/\ v= .slice (some ⟨p.blk,p.off+off*m,none⟩) n cap/\ n<=cap/\ n<=LB/\ p.off+off*m+cap*m<=p.room
 | .mp k m i j,ρ,v=>∃ p:AI,ρ[k]? =some p/\ v= .pointer (some ⟨p.blk,p.off+(i*m+j),none⟩)
 | .fn g m c,ρ,v=>∃ lb,v= .func (.func g) #[] lb/\ lb.size=m/\ ∀ j,j<m -> ∃ u,lb[j]? =some u/\ AM M w (c j) ρ u
 | .it k,ρ,v=>∃ p:AI,ρ[k]? =some p/\ v=p.val
 | .yl l,_,v=>v= .func (.yield l) #[] #[]
 | .cst u,_,v=>v=u/\ u.oneCell'=true
 | .mri k i,ρ,v=>∃ (p:AI) (vs:Array Value),ρ[k]? =some p/\ p.val= .tuple vs/\ vs[i]? =some v
 | .mse k m off n,ρ,v=>∃ (p:AI) (a:Option Addr) (cap:Nat),ρ[k]? =some p/\ v= .slice a n cap/\ n<=cap/\ n<=LB/\ (0<cap -> a=some ⟨p.blk,p.off+off*m,none⟩/\ p.off+off*m+cap*m<=p.room)
theorem Jt {M:Nat -> Prop} {w:World} {ρ:List AI} {m:Nat} {f:Nat -> DV} {j:Nat} {v:Value} (h:j<m) (hr:AM M w (f j) ρ v):AM M w (Fw m f j) ρ v:=by rw [Ud h];exact hr
def AZ (w:World) (p:AI) (n:Nat) (R:Nat -> Value -> Prop):Prop:=
 p.foot=(fun b=>b=p.blk)/\ ∃ cs t,w.heap[p.blk]? =some (.cells cs t (0,0))/\ p.off+n<=cs.size/\ p.room<=cs.size/\ ∀ j,j<n -> ∃ u,cs[p.off+j]? =some u/\ R j u
/-! ### Rows that an object owns-/
def HP (w:World) (F:Nat -> Prop) (u:Value) (L:List Int):Prop:=
 (L= []/\ u= .slice none 0 0)∨∃ (q:AI) (cap:Nat),u= .slice (some ⟨q.blk,q.off,none⟩) L.length cap/\ L.length<=cap/\ q.off+cap<=q.room/\ L.length<=LB/\ F q.blk/\ AZ w q L.length fun j x=>x= .int .i64 (L.getD j 0)
def DG:Value -> Option Nat
 | .slice (some a) _ _=>some a.block
 | _=>none
theorem HP.blk {w:World} {F:Nat -> Prop} {u:Value} {L:List Int} {b:Nat} (h:HP w F u L) (hb:DG u=some b):F b/\ b<w.heap.size:=by
 rcases h with ⟨_,rfl⟩ | ⟨q,cap,rfl,_,_,_,h5,_,cs,t,h6,_⟩
 ·cases hb
 ·cases hb;exact ⟨h5,(zAJ.1 h6).1⟩
theorem HP.out {w w':World} {F F':Nat -> Prop} {u:Value} {L:List Int} (h:HP w F u L) (hb: ∀ b,F b -> DG u=some b -> b<w.heap.size -> w'.heap[b]? =w.heap[b]?) (hF: ∀ b,F b -> DG u=some b -> F' b):HP w' F' u L:=by
 rcases h with h | ⟨q,cap,h1,h2,h3,h4,h5,h6⟩
 ·exact .inl h
 ·refine .inr ⟨q,cap,h1,h2,h3,h4,hF _ h5 (by rw [h1];rfl),?_⟩;obtain ⟨g1,cs,t,g2,g3⟩:=h6;exact ⟨g1,cs,t,(hb _ h5 (by rw [h1];rfl) (zAJ.1 g2).1).trans g2,g3⟩
structure Ea (w:World) (p:AI) (f:Int -> List Int) (Bv:Option (Int×List Int×Bool)) (u:Value) (es:Array MapEntry) (Ac:Nat):Prop where
 val:p.val= .tuple #[Value.map (some p.blk),u]
 blk:w.heap[p.blk]? =some (.map es Ac)
 own:p.foot p.blk
 key: ∀ e∈es.toList,∃ k,e.key= .int .i64 k/\ ((∀ L,Bv≠some (k,L,true)) -> HP w (fun b=>p.foot b/\ b≠p.blk) e.val (f k))
 no: ∀ k,(∀ e∈es.toList,e.key≠.int .i64 k) -> f k= []
 nd:(es.toList.map (·.key)).Nodup
 apart: ∀ e∈es.toList,∀ e'∈es.toList,∀ b,DG e.val=some b -> DG e'.val=some b -> e.key=e'.key
 born: ∀ e∈es.toList,e.born<Ac
 stamps:(es.toList.map (·.born)).Nodup
 inHand: ∀ k L g,Bv=some (k,L,g) -> HP w (fun b=>p.foot b/\ b≠p.blk) u L/\ ∀ e∈es.toList,∀ b,DG u=some b -> DG e.val=some b -> e.key= .int .i64 k
theorem Ea.out {w w':World} {p:AI} {f:Int -> List Int} {Bv:Option (Int×List Int×Bool)} {u:Value} {es:Array MapEntry} {Ac:Nat} (h:Ea w p f Bv u es Ac) (hb: ∀ b,p.foot b -> b<w.heap.size -> w'.heap[b]? =w.heap[b]?):Ea w' p f Bv u es Ac:=
 { h with
  blk:=(hb _ h.own (zAJ.1 h.blk).1).trans h.blk
  key:=fun e he=>let ⟨k,h1,h2⟩:=h.key e he;⟨k,h1,fun hh=>(h2 hh).out (fun b hf _ hl=>hb b hf.1 hl) fun _ h _=>h⟩
  inHand:=fun k L g e=>let ⟨h1,h2⟩:=h.inHand k L g e;⟨h1.out (fun b hf _ hl=>hb b hf.1 hl) fun _ h _=>h,h2⟩ }
/-! ### Maps:sets of keys-/
abbrev KS:=List (List Int)
def BS:List Int -> Value
 | [a]=>.int .i64 a
 | l=>.agg (l.map fun a=>.int .i64 a).toArray
theorem jf: ∀ {a b:List Int},BS a=BS b -> a=b:=by
 have ai: ∀ {l m:List Int},(l.map fun a=>Value.int .i64 a).toArray=(m.map fun a=>Value.int .i64 a).toArray -> l=m:=fun {l m} h=>by
  have h:=Array.toList_inj.2 h;simp only at h;exact List.map_inj_right (fun x y e=>by cases e;rfl) |>.1 h
 intro a b h
 match a,b with
 | [x],[y]=>cases h;rfl
 | [],[]=>rfl
 | [x],[]=>cases h
 | [],[y]=>cases h
 | [x],y::y'::m=>cases h
 | x::x'::l,[y]=>cases h
 | x::x'::l,[]=>exact ai (Value.agg.inj h)
 | [],y::y'::m=>exact ai (Value.agg.inj h)
 | x::x'::l,y::y'::m=>exact ai (Value.agg.inj h)
structure Ek (w:World) (b n:Nat) (l:KS) (es:Array MapEntry) (Ac:Nat):Prop where
 blk:w.heap[b]? =some (.map es Ac)
 keys:(es.toList.map (·.key)).Perm (l.map BS)
 nd:l.Nodup
 len: ∀ y∈l,y.length=n
 tru: ∀ e∈es.toList,e.val= .bool true
 born: ∀ e∈es.toList,e.born<Ac
 stamps:(es.toList.map (·.born)).Nodup
theorem Ek.out {w w':World} {b n:Nat} {l:KS} {es:Array MapEntry} {Ac:Nat} (h:Ek w b n l es Ac) (hb:w'.heap[b]? =w.heap[b]?):Ek w' b n l es Ac:={ h with blk:=hb.trans h.blk }
inductive MX where
 | set (n:Nat) (l:KS)
 | sets (n:Nat) (ls:List (Option KS)) (lk:Option (Nat×Nat×Array MapEntry×Nat))
 | mit (n mb:Nat) (es:Array MapEntry) (Ac:Nat) (rem:KS) (Ei:Option (List Int))
 | rows (f:Int -> List Int) (Bv:Option (Int×List Int×Bool))
 | rws (ls:List (List Int)) (Bv:Option (Nat×List Int))
structure Jk (w:World) (p:AI) (ls:List (List Int)) (Bv:Option (Nat×List Int)) (vs:Array Value):Prop where
 val:p.val= .tuple vs
 size:vs.size=ls.length+1
 row: ∃ cs t,w.heap[p.blk]? =some (.cells cs t (0,0))/\ p.off+ls.length<=cs.size/\ p.room<=cs.size/\ ∀ j,j<ls.length -> cs[p.off+j]? =vs[j+1]?
 blk:p.foot p.blk
 has: ∀ j,j<ls.length -> (∀ L,Bv≠some (j,L)) -> HP w (fun b=>p.foot b/\ b≠p.blk) (vs.getD (j+1) undef) (ls.getD j default)
 apart: ∀ (i j b:Nat),i<ls.length -> j<ls.length -> (∀ L,Bv≠some (i,L)) -> (∀ L,Bv≠some (j,L)) -> DG (vs.getD (i+1) undef)=some b -> DG (vs.getD (j+1) undef)=some b -> i=j
 inHand: ∀ k L,Bv=some (k,L) -> HP w (fun b=>p.foot b/\ b≠p.blk) (vs.getD 0 undef) L/\ ∀ (j b:Nat),j<ls.length -> DG (vs.getD 0 undef)=some b -> DG (vs.getD (j+1) undef)=some b -> j=k
theorem Jk.out {w w':World} {p:AI} {ls:List (List Int)} {Bv:Option (Nat×List Int)} {vs:Array Value} (h:Jk w p ls Bv vs) (hb: ∀ b,p.foot b -> b<w.heap.size -> w'.heap[b]? =w.heap[b]?):Jk w' p ls Bv vs:=
 { h with
  row:=let ⟨cs,t,h1,h2⟩:=h.row;⟨cs,t,(hb _ h.blk (zAJ.1 h1).1).trans h1,h2⟩
  has:=fun j hj hh=>(h.has j hj hh).out (fun b hf _ hl=>hb b hf.1 hl) fun _ h _=>h
  inHand:=fun k L e=>let ⟨h1,h2⟩:=h.inHand k L e;⟨h1.out (fun b hf _ hl=>hb b hf.1 hl) fun _ h _=>h,h2⟩ }
structure E2 (w:World) (p:AI) (n:Nat) (ls:List (Option KS)) (lk:Option (Nat×Nat×Array MapEntry×Nat)) (vs:Array Value):Prop where
 val:p.val= .tuple vs
 size:vs.size=ls.length
 row: ∃ cs t,w.heap[p.blk]? =some (.cells cs t (0,0))/\ p.off+ls.length<=cs.size/\ p.room<=cs.size/\ ∀ j,j<ls.length -> cs[p.off+j]? =vs[j]?
 blk:p.foot p.blk
 has: ∀ (j:Nat) (l:KS),ls[j]? =some (some l) -> ∃ b:Nat,vs[j]? =some (Value.map (some b))/\ b≠p.blk/\ p.foot b/\ ∃ es Ac,Ek w b n l es Ac/\ ∀ x,lk=some x -> x.1=j -> x.2=(b,es,Ac)
 nil: ∀ (j:Nat),ls[j]? =some none -> vs[j]? =some (Value.map none)
 foot: ∀ b,p.foot b -> b=p.blk∨∃ (j:Nat) (l:KS),ls[j]? =some (some l)/\ vs[j]? =some (Value.map (some b))
 inj: ∀ (i j b:Nat),vs[i]? =some (Value.map (some b)) -> vs[j]? =some (Value.map (some b)) -> i=j
theorem E2.out {w w':World} {p:AI} {n:Nat} {ls:List (Option KS)} {lk:Option (Nat×Nat×Array MapEntry×Nat)} {vs:Array Value} (h:E2 w p n ls lk vs) (hb: ∀ b,p.foot b -> b<w.heap.size -> w'.heap[b]? =w.heap[b]?):E2 w' p n ls lk vs:=by
 have AF: ∀ {b o},p.foot b -> w.heap[b]? =some o -> w'.heap[b]? =some o:=fun {b o} hf ho=>(hb b hf (zAJ.1 ho).1).trans ho
 refine { h with row:=?_,has:=fun j l hl=>?_ }
 ·obtain ⟨cs,t,h1,h2⟩:=h.row;exact ⟨cs,t,AF h.blk h1,h2⟩
 ·obtain ⟨b,h1,h2,h3,es,Ac,h4,h5⟩:=h.has j l hl;exact ⟨b,h1,h2,h3,es,Ac,{ h4 with blk:=AF h3 h4.blk },h5⟩
def Mb (w:World) (p:AI):MX -> Prop
 | .set n l=>p.val=Value.map (some p.blk)/\ p.foot=(fun b=>b=p.blk)/\ ∃ es Ac,Ek w p.blk n l es Ac
 | .sets n ls lk=>∃ vs,E2 w p n ls lk vs
 | .mit n mb es Ac rem Ei=>(∀ x,(x∈rem∨Ei=some x) -> x.length=n)/\ p.val= .pointer (some ⟨p.blk,0,none⟩)/\ p.foot=(fun b=>b=p.blk)/\ ∃ seen,w.heap[p.blk]? =some (.mapIter (some mb) Ac seen Ac)/\ ((leftOf es seen).toList.map (·.key)).Perm (rem.map BS)/\
  ∀ x,Ei=some x -> ∃ e∈es.toList,e.key=BS x/\ seen.back? =some e.born
 | .rows f Bv=>∃ u es Ac,Ea w p f Bv u es Ac
 | .rws ls Bv=>∃ vs,Jk w p ls Bv vs
theorem Mb.out {w w':World} {p:AI}: ∀ {x:MX},Mb w p x -> (∀ b,p.foot b -> b<w.heap.size -> w'.heap[b]? =w.heap[b]?) -> Mb w' p x
 | .set n l,⟨h1,h2,es,Ac,h3⟩,hb=>⟨h1,h2,es,Ac,h3.out (hb _ (by rw [h2]) (zAJ.1 h3.blk).1)⟩
 | .sets n ls lk,⟨vs,h⟩,hb=>⟨vs,h.out hb⟩
 | .rows f Bv,⟨u,es,Ac,h⟩,hb=>⟨u,es,Ac,h.out hb⟩
 | .rws ls Bv,⟨vs,h⟩,hb=>⟨vs,h.out hb⟩
 | .mit n mb es Ac rem Ei,⟨h0,h1,h2,seen,h3,h4⟩,hb=>⟨h0,h1,h2,seen,(hb _ (by rw [h2]) (zAJ.1 h3).1).trans h3,h4⟩
inductive DO where
 | cells (l:List DV)
 | ints (l:List Int)
 | bools (l:List Bool)
 | arr (m n:Nat) (f:Nat -> Nat -> DV)
 | iter (encs:List (List DV))
 | ro (l:List DV)
 | mo (x:MX)
abbrev DH:=List (Option DO)
def MO (h:DH) (ρ:List AI) (b:Nat):Prop:=∃ (k:Nat) (o:DO) (p:AI),h[k]? =some (some o)/\ ρ[k]? =some p/\ p.foot b
def MS (N:Nat -> Prop) (h:DH) (ρ:List AI) (b:Nat):Prop:=N b∨MO h ρ b
def YV (ds:List DV) (R:Nat -> Prop) (W:World) (args:Array Value):Prop:=ds.length=args.size/\ ∀ j,j<ds.length -> AM (fun b=>b<W.heap.size/\ ¬ R b) W (ds.getD j .any) [] (args.getD j undef)
def QV:Ending -> (Nat -> Prop) -> (Nat -> Prop) -> World -> Prop:=fun e _ _ _=>∃ v,e= .returned v
def Dx (P:Program) (M:Nat -> Prop) (w:World) (ρ:List AI) (p:AI):DO -> Prop
 | .cells l=>AZ w p l.length fun j u=>AM M w (l.getD j .any) ρ u
 | .ints l=>AZ w p l.length fun j u=>u= .int .i64 (l.getD j 0)
 | .bools l=>AZ w p l.length fun j u=>u= .bool (l.getD j false)
 | .arr m n f=>AZ w p (n*m) fun j u=>AM M w (f (j/m) (j % m)) [] u
 | .iter encs=>∃ gf lb Rd,(p.val= .func (.func gf) #[] lb/\ ∀ args W,(callFunc gf args).run P W= .ok (.enter gf args) W)/\ Md P gf lb YV encs QV p.foot Rd w/\ (∀ b,Rd b -> ¬ M b/\ b<w.heap.size)/\ ∀ b,p.foot b -> b<w.heap.size
 | .ro l=>p.foot=(fun _=>False)/\ ¬ M p.blk/\ AZ w { p with foot:=fun b=>b=p.blk } l.length fun j u=>AM M w (l.getD j .any) ρ u
 | .mo x=>Mb w p x
def k6:Obj -> Bool
 | .cells .. =>true
 | .map .. =>true
 | .mapIter .. =>true
 | _=>false
abbrev Da (w:World) (b:Nat):Prop:=∃ (c:Obj) (_:k6 c=true) (_:Unit),w.heap[b]? =some c
theorem Da.cells {w:World} {b:Nat} {c:Array Value} {t:TypeId} {z:Nat×Nat} (h:w.heap[b]? =some (.cells c t z)):Da w b:=⟨_,rfl,(),h⟩
structure Aq where
 ng:Nat
 gi:World -> Prop
 st: ∀ w w',gi w -> AP (fun b=>ng<=b) w w' -> gi w'
 lo: ∀ w,gi w -> ng<=w.heap.size
structure A1 (P:Program) (Γ:Aq) (N:Nat -> Prop) (h:DH) (ρ:List AI) (w:World):Prop where
 len:ρ.length=h.length
 obj: ∀ (k:Nat) (o:DO),h[k]? =some (some o) -> ∃ p:AI,ρ[k]? =some p/\ Dx P (MS N h ρ) w ρ p o
 cel: ∀ (k:Nat) (o:DO) (p:AI) (b:Nat),h[k]? =some (some o) -> ρ[k]? =some p -> p.foot b -> Γ.ng<=b/\ ¬ N b/\ Da w b
 dis: ∀ (k k':Nat) (o o':DO) (p p':AI) (b:Nat),k≠k' -> h[k]? =some (some o) -> h[k']? =some (some o') -> ρ[k]? =some p -> ρ[k']? =some p' -> p.foot b -> p'.foot b -> False
 nlt: ∀ b,N b -> b<w.heap.size/\ Γ.ng<=b
 gi:Γ.gi w
structure St where
 fr:List DV
 h:DH
def BC (M:Nat -> Prop) (w:World) (ρ:List AI) (fr:List DV) (t:Array Value):Prop:=
 fr.length=t.size/\ ∀ i,i<fr.length -> AM M w (fr.getD i .any) ρ (t.getD i undef)
structure AT (P:Program) (Γ:Aq) (N:Nat -> Prop) (S:St) (ρ:List AI) (a:Act) (w:World):Prop where
 hr:A1 P Γ N S.h ρ w
 fr:BC (MS N S.h ρ) w ρ S.fr a.tmps
structure A6 (h:DH) (ρ:List AI) (w:World) (h':DH) (ρ':List AI) (w':World):Prop where
 upd:AP (MO h ρ) w w'
 grow: ∀ b,MO h' ρ' b -> MO h ρ b∨w.heap.size<=b
theorem A6.refl (h:DH) (ρ:List AI) (w:World):A6 h ρ w h ρ w:=⟨AP.refl _ _,fun _ h=>.inl h⟩
theorem A6.trans {h h' TE:DH} {ρ ρ' ρ'':List AI} {w w' CK:World} (x:A6 h ρ w h' ρ' w') (y:A6 h' ρ' w' TE ρ'' CK):A6 h ρ w TE ρ'' CK:=
 ⟨x.upd.comp y.upd fun i hi hm=>(x.grow i hm).resolve_right (by omega),fun b hb=>(y.grow b hb).elim (fun h=>x.grow b h) (fun h=>.inr (zAk x.upd.size h))⟩
structure Ci (h:DH) (ρ:List AI) (w:World) (h':DH) (ρ':List AI) (w':World):Prop where
 st:A6 h ρ w h' ρ' w'
 pl: ∀ (k:Nat) (p:AI),ρ[k]? =some p -> ρ'[k]? =some p
theorem Ci.refl (h:DH) (ρ:List AI) (w:World):Ci h ρ w h ρ w:=⟨A6.refl _ _ _,fun _ _ h=>h⟩
theorem Ci.trans {h h' TE:DH} {ρ ρ' ρ'':List AI} {w w' CK:World} (x:Ci h ρ w h' ρ' w') (y:Ci h' ρ' w' TE ρ'' CK):Ci h ρ w TE ρ'' CK:=
 ⟨x.st.trans y.st,fun k p hk=>y.pl k p (x.pl k p hk)⟩
structure BU (M:Nat -> Prop) (w:World) (ρ:List AI) (M':Nat -> Prop) (w':World) (ρ':List AI):Prop where
 blk: ∀ b,b<w.heap.size -> ¬ M b -> (∃ c t z,w.heap[b]? =some (.cells c t z)) -> w'.heap[b]? =w.heap[b]?
 m: ∀ b,M' b -> M b∨w.heap.size<=b
 pl: ∀ (k:Nat) (p:AI),ρ[k]? =some p -> ρ'[k]? =some p
theorem zCo {w:World} {b o:Nat} {u:Value} (h:w.cell? ⟨b,o,none⟩=some u): ∃ c t z,w.heap[b]? =some (.cells c t z):=by
 unfold World.cell? at h;split at h
 ·exact ⟨_,_,_,by assumption⟩
 ·cases h
theorem BU.nil {M M':Nat -> Prop} {w w':World} {ρ ρ':List AI} (h:BU M w ρ M' w' ρ'):BU M w [] M' w' []:=⟨h.blk,h.m,fun k p hk=>by simp at hk⟩
theorem cW {w w':World} {b o:Nat} (h:w'.heap[b]? =w.heap[b]?):w'.cell? ⟨b,o,none⟩=w.cell? ⟨b,o,none⟩:=by
 unfold World.cell?;rw [h]
theorem BU.cell {M M':Nat -> Prop} {w w':World} {ρ ρ':List AI} (h:BU M w ρ M' w' ρ') {b o:Nat} {u:Value} (hM: ¬ M b) (hc:w.cell? ⟨b,o,none⟩=some u):w'.cell? ⟨b,o,none⟩=some u/\ ¬ M' b:=by
 have AN:b<w.heap.size:=zED w ⟨b,o,none⟩ hc;exact ⟨(cW (h.blk b AN hM (zCo hc))).trans hc,fun hm=>(h.m b hm).elim hM (by omega)⟩
theorem AM.out {M M':Nat -> Prop} {w w':World}: ∀ (d:DV) {ρ ρ':List AI} {v:Value},BU M w ρ M' w' ρ' -> AM M w d ρ v -> AM M' w' d ρ' v:=by
 intro d
 induction d with
 | any=>intros;trivial
 | nils=>intro ρ ρ' v _ h;exact h
 | int k n=>intro ρ ρ' v _ h;exact h
 | bool b=>intro ρ ρ' v _ h;exact h
 | str s=>intro ρ ρ' v _ h;exact h
 | ints l=>
  rintro ρ ρ' v H ⟨a,cap,e,h1,h2,h3⟩;refine ⟨a,cap,e,h1,h2,fun j hj=>?_⟩;obtain ⟨b,o,ha,hM,hc⟩:=h3 j hj;obtain ⟨g1,g2⟩:=H.cell hM hc;exact ⟨b,o,ha,g2,g1⟩
 | bools l=>
  rintro ρ ρ' v H ⟨a,cap,e,h1,h2,h3⟩;refine ⟨a,cap,e,h1,h2,fun j hj=>?_⟩;obtain ⟨b,o,ha,hM,hc⟩:=h3 j hj;obtain ⟨g1,g2⟩:=H.cell hM hc;exact ⟨b,o,ha,g2,g1⟩
 | sl m n f ih=>
  rintro ρ ρ' v H ⟨a,cap,e,h1,h2,h3⟩;refine ⟨a,cap,e,h1,h2,fun i j hi hj=>?_⟩;obtain ⟨b,o,u,ha,hM,hc,hr⟩:=h3 i j hi hj;obtain ⟨g1,g2⟩:=H.cell hM hc;exact ⟨b,o,u,ha,g2,g1,ih i j H.nil hr⟩
 | fp m f ih=>
  rintro ρ ρ' v H ⟨b,o,e,h⟩;refine ⟨b,o,e,fun j hj=>?_⟩;obtain ⟨hM,u,hc,hr⟩:=h j hj;obtain ⟨g1,g2⟩:=H.cell hM hc;exact ⟨g2,u,g1,ih j H.nil hr⟩
 | agg m f ih=>
  rintro ρ ρ' v H ⟨cs,e,hs,h⟩;exact ⟨cs,e,hs,fun j hj=>let ⟨u,h1,h2⟩:=h j hj;⟨u,h1,ih j H h2⟩⟩
 | tup m f ih=>
  rintro ρ ρ' v H ⟨cs,e,hs,h⟩;exact ⟨cs,e,hs,fun j hj=>let ⟨u,h1,h2⟩:=h j hj;⟨u,h1,ih j H h2⟩⟩
 | ref k j=>rintro ρ ρ' v H ⟨p,h,e⟩;exact ⟨p,H.pl _ _ h,e⟩
 | msl k m off n=>rintro ρ ρ' v H ⟨p,cap,h,r⟩;exact ⟨p,cap,H.pl _ _ h,r⟩
 | mp k m i j=>rintro ρ ρ' v H ⟨p,h,e⟩;exact ⟨p,H.pl _ _ h,e⟩
 | fn g m c ih=>
  rintro ρ ρ' v H ⟨cs,e,hs,h⟩;exact ⟨cs,e,hs,fun j hj=>let ⟨u,h1,h2⟩:=h j hj;⟨u,h1,ih j H h2⟩⟩
 | it k=>rintro ρ ρ' v H ⟨p,h,e⟩;exact ⟨p,H.pl _ _ h,e⟩
 | yl l=>intro ρ ρ' v _ h;exact h
 | mse k m off n=>rintro ρ ρ' v H ⟨p,a,cap,h,r⟩;exact ⟨p,a,cap,H.pl _ _ h,r⟩
 | mri k i=>rintro ρ ρ' v H ⟨p,vs,h,r⟩;exact ⟨p,vs,H.pl _ _ h,r⟩
 | cst u=>intro ρ ρ' v _ h;exact h
theorem BC.out {M M':Nat -> Prop} {w w':World} {ρ ρ':List AI} {fr:List DV} {t:Array Value} (h:BC M w ρ fr t) (H:BU M w ρ M' w' ρ'):BC M' w' ρ' fr t:=
 ⟨h.1,fun i hi=>(h.2 i hi).out _ H⟩
theorem BC.at {M:Nat -> Prop} {w:World} {ρ:List AI} {fr:List DV} {t:Array Value} (h:BC M w ρ fr t) (i:Nat):AM M w (fr.getD i .any) ρ (t.getD i undef):=by
 rcases zDj i fr.length with hi | hi
 ·exact h.2 i hi
 ·have:fr.getD i .any= .any:=by rw [u8,zEJ hi];rfl
  rw [this];trivial
theorem BC.set {M:Nat -> Prop} {w:World} {ρ:List AI} {fr:List DV} {t:Array Value} (h:BC M w ρ fr t) (i:Nat) {d:DV} {v:Value} (hv:AM M w d ρ v):BC M w ρ (fr.set i d) (t.setIfInBounds i v):=by
 refine ⟨by simp [h.1],fun j hj=>?_⟩;rw [zAl] at hj;have BT:j<t.size:=by rw [←h.1];exact hj
 have h0:=h.2 j hj;simp only [u8,zAc,zAo,zD0] at h0 ⊢
 by_cases e:i=j
 ·subst e;simp [hj,BT,hv]
 ·rw [zAZ e,zAZ e];exact h0
theorem Md.later {P:Program} {g:Nat} {lb:Array Value} {X:Type} {E:X -> (Nat -> Prop) -> World -> Array Value -> Prop} {encs:List X} {Ik:Ending -> (Nat -> Prop) -> (Nat -> Prop) -> World -> Prop} {G0 Rd:Nat -> Prop} {w w':World} (h:Md P g lb E encs Ik G0 Rd w) {S:Nat -> Prop} (hu:AP S w w') (hs: ∀ b,b<w.heap.size -> S b -> ¬ (G0 b∨Rd b)):Md P g lb E encs Ik G0 Rd w':=
 fun l J Jx W h1 h2 h3=>h l J Jx W h1 h2 (hu.mono (fun i hi hx=>hs i hi hx) |>.trans h3)
theorem AZ.out {w w':World} {p:AI} {n:Nat} {R R':Nat -> Value -> Prop} (h:AZ w p n R) (hb:w'.heap[p.blk]? =w.heap[p.blk]?) (hR: ∀ j u,j<n -> R j u -> R' j u):AZ w' p n R':=by
 obtain ⟨h1,cs,t,h2,h3,h4,h5⟩:=h;exact ⟨h1,cs,t,hb.trans h2,h3,h4,fun j hj=>let ⟨u,g1,g2⟩:=h5 j hj;⟨u,g1,hR j u hj g2⟩⟩
theorem AZ.cell {w:World} {p:AI} {n:Nat} {R:Nat -> Value -> Prop} (h:AZ w p n R) {j:Nat} (hj:j<n): ∃ u,w.cell? ⟨p.blk,p.off+j,none⟩=some u/\ R j u:=by
 obtain ⟨h1,cs,t,h2,h3,h4,h5⟩:=h;obtain ⟨u,g1,g2⟩:=h5 j hj;exact ⟨u,by unfold World.cell?;simp [h2,g1],g2⟩
theorem AZ.frozen {w:World} {p:AI} {n:Nat} {R:Nat -> Value -> Prop} (h:AZ w p n R) (o:Nat):w.frozen? ⟨p.blk,o,none⟩=false:=by
 obtain ⟨h1,cs,t,h2,_⟩:=h;unfold World.frozen?;simp [h2]
theorem Dx.out {P:Program} {M M':Nat -> Prop} {w w':World} {ρ ρ':List AI} {p:AI} {o:DO} (h:Dx P M w ρ p o) (H:BU M w ρ M' w' ρ') {S:Nat -> Prop} (hu:AP S w w') (hS: ∀ b,S b -> M b) (hf: ∀ b,b<w.heap.size -> p.foot b -> ¬ S b):Dx P M' w' ρ' p o:=by
 have hb: ∀ {n R},AZ w p n R -> w'.heap[p.blk]? =w.heap[p.blk]? :=fun {n R} hr=>by
  obtain ⟨h1,cs,t,h2,_⟩:=hr;have AN:=(zAJ.1 h2).1;exact hu.block _ AN (hf _ AN (by rw [h1]))
 cases o with
 | cells l=>exact AZ.out h (hb h) fun j u _ hr=>AM.out _ H hr
 | ints l=>exact AZ.out h (hb h) fun j u _ hr=>hr
 | bools l=>exact AZ.out h (hb h) fun j u _ hr=>hr
 | arr m n f=>exact AZ.out h (hb h) fun j u _ hr=>AM.out _ H.nil hr
 | iter encs=>
  obtain ⟨gf,lb,Rd,h1,h2,h3,h4⟩:=h;refine ⟨gf,lb,Rd,h1,h2.later hu (fun b hb hs hx=>?_),fun b hb=>⟨fun hm=>(H.m b hm).elim (h3 b hb).1 (by have:=(h3 b hb).2;omega),zAY (h3 b hb).2 hu.size⟩,fun b hb=>zAY (h4 b hb) hu.size⟩;rcases hx with hx | hx
  ·exact hf b hb hx hs
  ·exact (h3 b hx).1 (hS b hs)
 | ro l=>
  obtain ⟨r1,r2,r3⟩:=h
  have AN:p.blk<w.heap.size:=by
   obtain ⟨_,cs,t,h2,_⟩:=r3;exact (zAJ.1 h2).1
  exact ⟨r1,fun hm=>(H.m _ hm).elim r2 (by omega),AZ.out r3 (hu.block _ AN fun hs=>r2 (hS _ hs)) fun j u _ hr=>AM.out _ H hr⟩
 | mo x=>exact Mb.out h fun b hb AN=>hu.block b AN (hf b AN hb)
section
variable {P:Program} {Γ:Aq} {N:Nat -> Prop} {h:DH} {ρ:List AI} {w:World}
theorem MO.unset {k:Nat} {b:Nat} (hm:MO (h.set k none) ρ b):MO h ρ b:=by
 obtain ⟨i,o,p,h1,h2,h3⟩:=hm;rw [zAo] at h1
 by_cases e:k=i
 ·rw [zAB e] at h1;split at h1 <;> cases h1
 ·rw [zAZ e] at h1;exact ⟨i,o,p,h1,h2,h3⟩
theorem A1.lt (H:A1 P Γ N h ρ w) {b:Nat} (hb:MS N h ρ b):b<w.heap.size:=by
 rcases hb with hb | ⟨k,o,p,h1,h2,h3⟩
 ·exact (H.nlt b hb).1
 ·obtain ⟨_,_,c,t,z,h4⟩:=H.cel k o p b h1 h2 h3;exact (zAJ.1 h4).1
theorem A1.low (H:A1 P Γ N h ρ w) {b:Nat} (hb:MO h ρ b):Γ.ng<=b:=by
 obtain ⟨k,o,p,h1,h2,h3⟩:=hb;exact (H.cel k o p b h1 h2 h3).1
theorem A1.lt2 (H:A1 P Γ N h ρ w) {b:Nat} (hb:MS N h ρ b):b<w.heap.size/\ Γ.ng<=b:=⟨H.lt hb,hb.elim (fun h=>(H.nlt b h).2) H.low⟩
theorem A1.ext (H:A1 P Γ N h ρ w) {w':World} (hE:Ao w w'):A1 P Γ N h ρ w':=by
 have O:BU (MS N h ρ) w ρ (MS N h ρ) w' ρ:=⟨fun b hb _ _=>zFh hE b hb,fun b h=>.inl h,fun _ _ h=>h⟩;refine ⟨H.len,fun k o hk=>?_,fun k o p b h1 h2 h3=>?_,H.dis,fun b hb=>⟨zAY (H.nlt b hb).1 hE.size,(H.nlt b hb).2⟩,Γ.st _ _ H.gi (AP.ofExt hE)⟩
 ·obtain ⟨p,hp,ho⟩:=H.obj k o hk;exact ⟨p,hp,ho.out O (S:=fun _=>False) (AP.ofExt hE) (fun _ h=>h.elim) (fun _ _ _ h=>h)⟩
 ·obtain ⟨g1,g2,c,t,z,g3⟩:=H.cel k o p b h1 h2 h3;exact ⟨g1,g2,c,t,z,(zFh hE b (zAJ.1 g3).1).trans g3⟩
theorem BU.ext {M:Nat -> Prop} {w w':World} (ρ:List AI) (hE:Ao w w'):BU M w ρ M w' ρ:=⟨fun b hb _ _=>zFh hE b hb,fun b h=>.inl h,fun _ _ h=>h⟩
theorem A6.ext {w w':World} (hE:Ao w w'):A6 h ρ w h ρ w':=⟨AP.ofExt hE,fun _ h=>.inl h⟩
theorem Di {α:Type} {l:List α} {x y:α} {k:Nat} (hk:(l++[x])[k]? =some y):(k<l.length/\ l[k]? =some y)∨(k=l.length/\ x=y):=by
 rcases Nat.lt_trichotomy k l.length with hl | hl | hl
 ·rw [zAX hl] at hk;exact .inl ⟨hl,hk⟩
 ·subst hl;simp at hk;exact .inr ⟨rfl,hk⟩
 ·rw [zAb (by omega)] at hk;have:k-l.length≠0:=by omega
  cases e:k-l.length with
  | zero=>omega
  | succ m=>rw [e] at hk;simp at hk
theorem EV {α:Type} {l:List α} {x y:α} {k:Nat} (hk:l[k]? =some y):(l++[x])[k]? =some y:=by
 rw [zAX (zAV.1 hk).1];exact hk
theorem MO.snoc (H:A1 P Γ N h ρ w) {o:DO} {p:AI} {b:Nat} (hb:MO (h++[some o]) (ρ++[p]) b):MO h ρ b∨p.foot b:=by
 obtain ⟨k,o',p',h1,h2,h3⟩:=hb;rcases Di h1 with ⟨hl,h1⟩ | ⟨hl,h1⟩
 ·rcases Di h2 with ⟨_,h2⟩ | ⟨Cf,_⟩
  ·exact .inl ⟨k,o',p',h1,h2,h3⟩
  ·rw [Cf,H.len] at hl;omega
 ·rcases Di h2 with ⟨Cf,_⟩ | ⟨_,h2⟩
  ·rw [H.len,←hl] at Cf;omega
  ·subst h2;exact .inr h3
theorem A1.snoc (H:A1 P Γ N h ρ w) {w':World} (hE:Ao w w') {o:DO} {p:AI} (hf: ∀ b,p.foot b -> w.heap.size<=b/\ Da w' b)
 (ho:Dx P (MS N (h++[some o]) (ρ++[p])) w' (ρ++[p]) p o):A1 P Γ N (h++[some o]) (ρ++[p]) w':=by
 have O:BU (MS N h ρ) w ρ (MS N (h++[some o]) (ρ++[p])) w' (ρ++[p]):=by
  refine ⟨fun b hb _ _=>zFh hE b hb,fun b hb=>?_,fun k q hk=>EV hk⟩;rcases hb with hb | hb
  ·exact .inl (.inl hb)
  ·rcases MO.snoc H hb with hb | hb
   ·exact .inl (.inr hb)
   ·exact .inr (hf b hb).1
 refine ⟨by simp [H.len],fun k o' hk=>?_,fun k o' p' b h1 h2 h3=>?_,fun k k' o1 o2 p1 p2 b Ak h1 h2 h3 h4 h5 h6=>?_,fun b hb=>⟨zAY (H.nlt b hb).1 hE.size,(H.nlt b hb).2⟩,Γ.st _ _ H.gi (AP.ofExt hE)⟩
 ·rcases Di hk with ⟨hl,hk⟩ | ⟨hl,hk⟩
  ·obtain ⟨p',hp,hr⟩:=H.obj k o' hk;exact ⟨p',EV hp,hr.out O (S:=fun _=>False) (AP.ofExt hE) (fun _ h=>h.elim) (fun _ _ _ h=>h)⟩
  ·cases hk;exact ⟨p,by rw [hl,←H.len];simp,ho⟩
 ·rcases Di h1 with ⟨hl,h1⟩ | ⟨hl,h1⟩
  ·rcases Di h2 with ⟨_,h2⟩ | ⟨Cf,_⟩
   ·obtain ⟨g1,g2,c,t,z,g3⟩:=H.cel k o' p' b h1 h2 h3;exact ⟨g1,g2,c,t,z,(zFh hE b (zAJ.1 g3).1).trans g3⟩
   ·rw [Cf,H.len] at hl;omega
  ·rcases Di h2 with ⟨Cf,_⟩ | ⟨_,h2⟩
   ·rw [H.len,←hl] at Cf;omega
   ·subst h2;obtain ⟨g1,g2⟩:=hf b h3;exact ⟨zAk (Γ.lo _ H.gi) g1,fun hn=>by have:=H.nlt b hn;omega,g2⟩
 ·have GZ: ∀ {k:Nat} {o':DO} {p':AI},(h++[some o])[k]? =some (some o') -> (ρ++[p])[k]? =some p' -> p'.foot b -> k≠h.length -> b<w.heap.size:=by
   intro k o' p' h1 h2 h3 Ak;rcases Di h1 with ⟨hl,h1⟩ | ⟨hl,h1⟩
   ·rcases Di h2 with ⟨_,h2⟩ | ⟨Cf,_⟩
    ·exact H.lt (.inr ⟨k,o',p',h1,h2,h3⟩)
    ·rw [Cf,H.len] at hl;omega
   ·exact absurd hl Ak
  have i9: ∀ {k:Nat} {o':DO} {p':AI},(h++[some o])[k]? =some (some o') -> (ρ++[p])[k]? =some p' -> p'.foot b -> k=h.length -> w.heap.size<=b:=by
   intro k o' p' h1 h2 h3 he;rcases Di h2 with ⟨Cf,_⟩ | ⟨_,h2⟩
   ·rw [H.len,←he] at Cf;omega
   ·subst h2;exact (hf b h3).1
  by_cases e1:k=h.length
  ·by_cases e2:k'=h.length
   ·exact Ak (e1.trans e2.symm)
   ·have:=i9 h1 h3 h5 e1;have:=GZ h2 h4 h6 e2;omega
  ·by_cases e2:k'=h.length
   ·have:=GZ h1 h3 h5 e1;have:=i9 h2 h4 h6 e2;omega
   ·rcases Di h1 with ⟨_,h1⟩ | ⟨hl,_⟩
    ·rcases Di h2 with ⟨_,h2⟩ | ⟨hl,_⟩
     ·rcases Di h3 with ⟨_,h3⟩ | ⟨hl,_⟩
      ·rcases Di h4 with ⟨_,h4⟩ | ⟨hl,_⟩
       ·exact H.dis k k' o1 o2 p1 p2 b Ak h1 h2 h3 h4 h5 h6
       ·rw [H.len] at hl;exact e2 hl
      ·rw [H.len] at hl;exact e1 hl
     ·exact e2 hl
    ·exact e1 hl
theorem BU.snoc (H:A1 P Γ N h ρ w) {w':World} (hE:Ao w w') {o:DO} {p:AI} (hf: ∀ b,p.foot b -> w.heap.size<=b):BU (MS N h ρ) w ρ (MS N (h++[some o]) (ρ++[p])) w' (ρ++[p]):=by
 refine ⟨fun b hb _ _=>zFh hE b hb,fun b hb=>?_,fun k q hk=>EV hk⟩;rcases hb with hb | hb
 ·exact .inl (.inl hb)
 ·rcases MO.snoc H hb with hb | hb
  ·exact .inl (.inr hb)
  ·exact .inr (hf b hb)
theorem A6.snoc (H:A1 P Γ N h ρ w) {w':World} (hE:Ao w w') {o:DO} {p:AI} (hf: ∀ b,p.foot b -> w.heap.size<=b):A6 h ρ w (h++[some o]) (ρ++[p]) w':=
 ⟨AP.ofExt hE,fun b hb=>(MO.snoc H hb).imp id (hf b)⟩
theorem MO.set {k:Nat} {o o':DO} (hk:h[k]? =some (some o)) {b:Nat}:MO (h.set k (some o')) ρ b↔MO h ρ b:=by
 have hl:=(zAV.1 hk).1;constructor
 ·rintro ⟨i,o1,p,h1,h2,h3⟩;rw [zAo] at h1
  by_cases e:k=i
  ·subst e;exact ⟨k,o,p,hk,h2,h3⟩
  ·rw [zAZ e] at h1;exact ⟨i,o1,p,h1,h2,h3⟩
 ·rintro ⟨i,o1,p,h1,h2,h3⟩
  by_cases e:k=i
  ·subst e;exact ⟨k,o',p,by simp [hl],h2,h3⟩
  ·exact ⟨i,o1,p,by rw [zAo,zAZ e];exact h1,h2,h3⟩
theorem MS.set {k:Nat} {o o':DO} (hk:h[k]? =some (some o)) {b:Nat}:MS N (h.set k (some o')) ρ b↔MS N h ρ b:=by unfold MS;rw [MO.set hk]
theorem A1.write (H:A1 P Γ N h ρ w) {w':World} {k:Nat} {o o':DO} {p:AI} (hk:h[k]? =some (some o)) (hp:ρ[k]? =some p) (hu:AP p.foot w w')
 (hc: ∀ b,p.foot b -> Da w' b) (ho:Dx P (MS N (h.set k (some o')) ρ) w' ρ p o'):A1 P Γ N (h.set k (some o')) ρ w':=by
 have hl:=(zAV.1 hk).1;have hM: ∀ b,p.foot b -> MS N h ρ b:=fun b hb=>.inr ⟨k,o,p,hk,hp,hb⟩
 have O:BU (MS N h ρ) w ρ (MS N (h.set k (some o')) ρ) w' ρ:=⟨fun b hb hm _=>hu.block b hb fun hx=>hm (hM b hx),fun b hb=>.inl ((MS.set hk).1 hb),fun _ _ h=>h⟩;have GN: ∀ {i:Nat} {o1:DO},i≠k -> (h.set k (some o'))[i]? =some (some o1) -> h[i]? =some (some o1):=fun {i} {o1} Ak h1=>by rw [zAo,zAZ (zFP Ak)] at h1;exact h1
 refine ⟨by simp [H.len],fun i o1 hi=>?_,fun i o1 p1 b h1 h2 h3=>?_,fun i i' o1 o2 p1 p2 b Ak h1 h2 h3 h4 h5 h6=>?_,fun b hb=>⟨zAY (H.nlt b hb).1 hu.size,(H.nlt b hb).2⟩,Γ.st _ _ H.gi (hu.mono fun b _ hb=>(H.cel k o p b hk hp hb).1)⟩
 ·by_cases e:i=k
  ·subst e;have:o'=o1:=by simp [hl] at hi;exact hi
   subst this;exact ⟨p,hp,ho⟩
  ·obtain ⟨p1,Lp,hr⟩:=H.obj i o1 (GN e hi);exact ⟨p1,Lp,hr.out O hu hM fun b _ h1 h2=>H.dis i k o1 o p1 p b e (GN e hi) hk Lp hp h1 h2⟩
 ·by_cases e:i=k
  ·subst e;have:p=p1:=zAU (hp.symm.trans h2);subst this;obtain ⟨g1,g2,_⟩:=H.cel i o p b hk hp h3;exact ⟨g1,g2,hc b h3⟩
  ·obtain ⟨g1,g2,c,t,z,g3⟩:=H.cel i o1 p1 b (GN e h1) h2 h3;refine ⟨g1,g2,c,t,z,(hu.block b (zAJ.1 g3).1 fun hx=>H.dis i k o1 o p1 p b e (GN e h1) hk h2 hp h3 hx).trans g3⟩
 ·have GZ: ∀ {i:Nat} {o1:DO},(h.set k (some o'))[i]? =some (some o1) -> ∃ o2,h[i]? =some (some o2):=fun {i} {o1} h1=>by
   by_cases e:i=k
   ·subst e;exact ⟨o,hk⟩
   ·exact ⟨o1,GN e h1⟩
  obtain ⟨q1,g1⟩:=GZ h1;obtain ⟨q2,g2⟩:=GZ h2;exact H.dis i i' q1 q2 p1 p2 b Ak g1 g2 h3 h4 h5 h6
theorem BU.write (hN:True) {w':World} {k:Nat} {o o':DO} {p:AI} (hk:h[k]? =some (some o)) (hp:ρ[k]? =some p) (hu:AP p.foot w w'):BU (MS N h ρ) w ρ (MS N (h.set k (some o')) ρ) w' ρ:=
 ⟨fun b hb hm _=>hu.block b hb fun hx=>hm (.inr ⟨k,o,p,hk,hp,hx⟩),fun b hb=>.inl ((MS.set hk).1 hb),fun _ _ h=>h⟩
theorem A6.write {w':World} {k:Nat} {o o':DO} {p:AI} (hk:h[k]? =some (some o)) (hp:ρ[k]? =some p) (hu:AP p.foot w w'):A6 h ρ w (h.set k (some o')) ρ w':=
 ⟨hu.mono fun b _ hb=>⟨k,o,p,hk,hp,hb⟩,fun b hb=>.inl ((MO.set hk).1 hb)⟩
end
end Go.Proofs.YtkjbblkieglmlaaGreatDoor
namespace Go.Proofs.YtkjbblkieglmlaaGreatDoor
abbrev zAf:=@Nat.not_lt_zero
abbrev zBg:=@decide_eq_true_eq
abbrev zC5:=@Option.some.injEq
abbrev zDq:=@Go.run_underlying
abbrev zDy:=@Nat.add_assoc
abbrev zD1:=@Prod.mk.injEq
abbrev zEM:=@Bool.not_eq_true'
abbrev zEX:=@Nat.mul_le_mul_right
abbrev zEm:=@Nat.mul_comm
abbrev zEn:=@Nat.add_mul
abbrev zEp:=@Nat.add_zero
abbrev zE3:=@bne_iff_ne
abbrev zE5:=@Array.eq_empty_of_size_eq_zero
abbrev zFQ:=@Nat.mod_eq_of_lt
abbrev zFR:=@Go.Sem.run_pure
abbrev zFY:=@Option.isSome_iff_exists
abbrev zFj:=@Nat.succ_mul
end Go.Proofs.YtkjbblkieglmlaaGreatDoor
namespace Go.Proofs.YtkjbblkieglmlaaGreatDoor
open Go.RowKit
def GD:Value -> DV
 | .int k n=>.int k n
 | .bool b=>.bool b
 | .string s=>.str s
 | .slice none 0 0=>.nils
 | v=>if v.oneCell' then .cst v else .any
def AX (fr:List DV):Operand -> DV
 | .tmp t=>fr.getD t .any
 | .const v=>GD v
 | .global _=>.any
 | .func f=>.fn f 0 fun _=>.any
def Ho (P:Program) (t:TypeId):Bool:=match P.underlying t with
 | some (.struct _)=>true
 | some (.array _ _)=>true
 | _=>false
def OE (P:Program) (t:TypeId) (m:Nat):Bool:=match P.underlying t with
 | some (.slice e)=>match P.info? e with
  | some i=>i.size==m&&m != 0
  | none=>false
 | _=>false
def Fn (P:Program) (t:TypeId):Bool:=(P.underlying t).isSome&&!Ho P t
def UA (P:Program) (t:TypeId) (m:Nat):Bool:=Ho P t&&(match P.info? t with | some i=>i.size==m | none=>false)
def XB (P:Program) (s:TypeId) (f:Nat):Option (Nat×Nat):=match P.underlying s with
 | some (.struct fs)=>match fs[f]? with
  | some fd=>match P.info? fd.type with
   | some i=>if i.size=0 then none else some (fd.offset,i.size)
   | none=>none
  | none=>none
 | _=>none
def T4 (P:Program) (t:TypeId):Option (Nat×Nat):=match P.underlying t with
 | some (.array n e)=>match P.info? e with
  | some i=>if n<=1 then none else some (n,i.size)
  | none=>none
 | _=>none
def aE (P:Program) (t:TypeId):Option IntKind:=match P.underlying t with
 | some (.int k)=>some k
 | _=>none
def Xi (op:BinOp) (k:IntKind) (a b:Int):Option (DV×Prop):=match op with
 | .add=>some (.int k (k.wrap (a+b)),True)
 | .sub=>some (.int k (k.wrap (a-b)),True)
 | .mul=>some (.int k (k.wrap (a*b)),True)
 | .and=>some (.int k (bits .and k a b),True)
 | .or=>some (.int k (bits .or k a b),True)
 | .xor=>some (.int k (bits .xor k a b),True)
 | .andNot=>some (.int k (bits .andNot k a b),True)
 | .eql=>some (.bool (a==b),True)
 | .neq=>some (.bool (a != b),True)
 | .lss=>some (.bool (decide (a<b)),True)
 | .leq=>some (.bool (decide (a<=b)),True)
 | .gtr=>some (.bool (decide (a>b)),True)
 | .geq=>some (.bool (decide (a>=b)),True)
 | _=>none
def QO (P:Program) (t:TypeId):Nat:=match P.underlying t with
 | some .bool=>1
 | some (.slice _)=>2
 | _=>0
def Xj (bt:Nat) (op:BinOp) (x y:DV):Option (DV×Prop):=match op,x,y with
 | .eql,.bool a,.bool b=>if bt=1 then some (.bool (a==b),True) else none
 | .neq,.bool a,.bool b=>if bt=1 then some (.bool (!(a==b)),True) else none
 | .eql,.ints l,.nils=>if bt=2 then some (.bool false,0<l.length) else none
 | .eql,.bools l,.nils=>if bt=2 then some (.bool false,0<l.length) else none
 | .neq,.ints l,.nils=>if bt=2 then some (.bool true,0<l.length) else none
 | .shl,.int k a,.int _ b=>some (.int k (k.wrap (a*2 ^ b.toNat)),0<=b/\ b<=k.bits)
 | .shr,.int k a,.int _ b=>some (.int k (a/2 ^ b.toNat),0<=b/\ b<=k.bits)
 | .quo,.int k a,.int k' b=>if k=k' then some (.int k (k.wrap (a.tdiv b)),b≠0) else none
 | .rem,.int k a,.int k' b=>if k=k' then some (.int k (a.tmod b),b≠0) else none
 | op,.int k a,.int k' b=>if k=k' then Xi op k a b else none
 | _,_,_=>none
def NV (P:Program) (S:St) (t:TypeId):DV -> Option (DV×Prop)
 | .fp m f=>if Fn P t then (if m=0 then none else some (f 0,True)) else if UA P t m then some (.agg m f,True) else none
 | .ref k j=>match S.h[k]? with
  | some (some (.cells l))=>if Fn P t then (if j<l.length then some (l.getD j .any,True) else none)
   else match P.info? t with
    | some i=>if Ho P t&&decide (j+i.size<=l.length) then some (.agg i.size (Fw i.size fun c=>l.getD (j+c) .any),True) else none
    | none=>none
  | some (some (.ro l))=>if Fn P t then (if j<l.length then some (l.getD j .any,True) else none)
   else match P.info? t with
    | some i=>if Ho P t&&decide (j+i.size<=l.length) then some (.agg i.size (Fw i.size fun c=>l.getD (j+c) .any),True) else none
    | none=>none
  | _=>none
 | .mp k m i j=>match S.h[k]? with
  | some (some (.ints l))=>if Fn P t&&(m==1)&&(j==0) then some (.int .i64 (l.getD i 0),i<l.length) else none
  | some (some (.bools l))=>if Fn P t&&(m==1)&&(j==0) then some (.bool (l.getD i false),i<l.length) else none
  | some (some (.arr m' n f))=>if Fn P t&&(m==m')&&decide (j<m) then some (f i j,i<n)
   else if UA P t m&&(m==m')&&(j==0) then some (.agg m (f i),i<n) else none
  | some (some (.mo (.sets _ ls _)))=>if Fn P t&&(m==1)&&(j==0) then some (.mri k i,i<ls.length) else none
  | some (some (.mo (.rws ls none)))=>if Fn P t&&(m==1)&&(j==0) then some (.mri k (i+1),i<ls.length) else none
  | _=>none
 | _=>none
def aL (P:Program) (t:TypeId) (x:DV) (n:Int):Option (DV×Prop):=match x with
 | .ints l=>if OE P t 1 then some (.fp 1 (fun _=>.int .i64 (l.getD n.toNat 0)),0<=n/\ n<l.length) else none
 | .bools l=>if OE P t 1 then some (.fp 1 (fun _=>.bool (l.getD n.toNat false)),0<=n/\ n<l.length) else none
 | .sl m c f=>if OE P t m then some (.fp m (f n.toNat),0<=n/\ n<c) else none
 | .msl k m off c=>if OE P t m then some (.mp k m (off+n.toNat) 0,0<=n/\ n<c) else none
 | .ref k j=>match T4 P t with
  | some (len,sz)=>some (.ref k (j+n.toNat*sz),0<=n/\ n<len)
  | none=>none
 | .mp k m i 0=>match T4 P t with
  | some (len,sz)=>if sz=m then some (.mp k m (i+n.toNat) 0,0<=n/\ n<len) else none
  | none=>none
 | .fp m f=>match T4 P t with
  | some (len,sz)=>if n.toNat*sz+sz<=m then some (.fp sz (Fw sz fun j=>f (n.toNat*sz+j)),0<=n/\ n<len) else none
  | none=>none
 | _=>none
def Vx (P:Program) (t:TypeId) (d:DV):Option (DV×Prop):=match P.underlying t,d with
 | some (.slice _),.nils=>some (.int .i64 0,True)
 | some (.slice _),.ints l=>some (.int .i64 l.length,True)
 | some (.slice _),.bools l=>some (.int .i64 l.length,True)
 | some (.slice _),.sl _ n _=>some (.int .i64 n,True)
 | some (.slice _),.msl _ _ _ n=>some (.int .i64 n,True)
 | some .string,.str s=>some (.int .i64 s.size,True)
 | _,_=>none
def Zo (x y:DV):Option (DV×Prop):=match x,y with
 | .int k a,.int _ b=>some (.int k (if b>a then b else a),True)
 | _,_=>none
def Zn (x y:DV):Option (DV×Prop):=match x,y with
 | .int k a,.int _ b=>some (.int k (if b<a then b else a),True)
 | _,_=>none
def Xg (P:Program) (S:St) (b:Builtin) (args:List Operand) (oQ:List TypeId):Option (DV×Prop):=match b with
 | .len=>match args with
  | [x]=>match oQ with
   | [t]=>Vx P t (AX S.fr x)
   | _=>none
  | _=>none
 | .max=>match args with
  | [x,y]=>Zo (AX S.fr x) (AX S.fr y)
  | _=>none
 | .min=>match args with
  | [x,y]=>Zn (AX S.fr x) (AX S.fr y)
  | _=>none
 | _=>none
def O8 (P:Program) (S:St):Op -> Option (DV×Prop)
 | .move x=>some (AX S.fr x,True)
 | .assign x=>some (AX S.fr x,True)
 | .pick c a b=>match AX S.fr c with
  | .bool true=>some (AX S.fr a,True)
  | .bool false=>some (AX S.fr b,True)
  | _=>none
 | .load t x=>NV P S t (AX S.fr x)
 | .binOp op t x y _=>Xj (QO P t) op (AX S.fr x) (AX S.fr y)
 | .unOp op _ x=>match op,AX S.fr x with
  | .not,.bool b=>some (.bool !b,True)
  | .neg,.int k n=>some (.int k (k.wrap (0-n)),True)
  | .xor,.int k n=>some (.int k (bits .xor k (if k.signed then-1 else k.max) n),True)
  | _,_=>none
 | .convert s d x=>match P.underlying s,aE P d,AX S.fr x with
  | some _,some k,.int _ n=>some (.int k (k.wrap n),True)
  | _,_,_=>none
 | .nilCheck x=>match AX S.fr x with
  | .fp m f=>some (.fp m f,True)
  | .ref k j=>some (.ref k j,True)
  | .mp k m i j=>some (.mp k m i j,True)
  | .fn g m c=>some (.fn g m c,True)
  | _=>none
 | .fieldAddr s x f=>match XB P s f with
  | some (off,sz)=>match AX S.fr x with
   | .fp m g=>if off+sz<=m then some (.fp sz (Fw sz fun j=>g (off+j)),True) else none
   | .ref k j=>some (.ref k (j+off),True)
   | .mp k m i j=>some (.mp k m i (j+off),True)
   | _=>none
  | none=>none
 | .indexAddr t x i=>match AX S.fr i with
  | .int _ n=>aL P t (AX S.fr x) n
  | _=>none
 | .extract x i=>match AX S.fr x with
  | .tup m f=>if i<m then some (f i,True) else none
  | _=>none
 | .makeFunc (.func g) first c=>if first.size=0 then some (.fn g c.size (Fw c.size fun j=>AX S.fr (c.getD j (.const undef))),True) else none
 | .call c=>match c.callee with
  | .builtin b=>Xg P S b c.args.toList c.argTypes.toList
  | _=>none
 | _=>none
section
variable {P:Program} {Γ:Aq} {N:Nat -> Prop} {S:St} {ρ:List AI} {a:Act} {w:World}
theorem Vk {M:Nat -> Prop} (v:Value):AM M w (GD v) ρ v:=by
 unfold GD;split
 ·rfl
 ·rfl
 ·rfl
 ·rfl
 ·split
  ·exact ⟨rfl,by assumption⟩
  ·trivial
theorem Bh (R:AT P Γ N S ρ a w) (x:Operand):AM (MS N S.h ρ) w (AX S.fr x) ρ (a.eval x):=by
 cases x with
 | tmp t=>exact R.fr.at t
 | const v=>exact Vk v
 | global g=>trivial
 | func f=>exact ⟨#[],rfl,rfl,fun j hj=>absurd hj (zAf j)⟩
theorem RF {t:TypeId} {d:TypeDesc} (h:P.underlying t=some d):(isAgg t).run P w= .ok (Ho P t) w:=by
 unfold isAgg Ho;rw [zAg,zDq h];simp only [Result.andThen,h];cases d <;> rfl
theorem Iu {t:TypeId} {i:TypeInfo} (h:P.info? t=some i):(sizeOf t).run P w= .ok i.size w:=by
 rw [run_sizeOf w h];unfold Program.cellsOf;rw [h];rfl
theorem sA {t:TypeId} {b:Addr} {u:Value} (h:Fn P t=true) (hc:w.cell? b=some u):(loadVar t b).run P w= .ok u w:=by
 unfold Fn at h;simp only [zAL,zFY,zEM] at h;obtain ⟨⟨d,hd⟩,hn⟩:=h;unfold loadVar;rw [zAg,RF hd];simp only [Result.andThen,hn,zDs,zEg];simp [load,Sem.run,hc]
theorem jr {t:TypeId} (h:Ho P t=true): ∃ d,P.underlying t=some d:=by
 unfold Ho at h;split at h
 ·exact ⟨_,by assumption⟩
 ·exact ⟨_,by assumption⟩
 ·cases h
theorem sB {t:TypeId} {b o:Nat} {i:TypeInfo} (h:Ho P t=true) (hi:P.info? t=some i) (g:Nat -> Value) (hc: ∀ j,j<i.size -> w.cell? ⟨b,o+j,none⟩=some (g j)):
 (loadVar t ⟨b,o,none⟩).run P w= .ok (.agg ((List.range i.size).map g).toArray) w:=by
 obtain ⟨d,hd⟩:=jr h;unfold loadVar;rw [zAg,RF hd];simp only [Result.andThen,h,zEG];rw [zAg,Iu hi];simp only [Result.andThen]
 rw [zAg,run_loadCells w ⟨b,o,none⟩ i.size g (fun j hj=>by
  have:=hc j hj;unfold Addr.add
  by_cases e:j=0
  ·subst e;simpa using this
  ·simpa [e] using this)]
 simp [Result.andThen]
def Keep (N:Nat -> Prop) (w W:World):Prop:=∀ b o u,¬ N b -> w.cell? ⟨b,o,none⟩=some u -> W.cell? ⟨b,o,none⟩=some u
theorem Keep.ofExt {N:Nat -> Prop} {w W:World} (h:Ao w W):Keep N w W:=fun _ _ _ _ hc=>h.cell hc
def Yl (P:Program) (N:Nat -> Prop) (w:World) (M:Nat -> Prop) (ρ:List AI) (s:Sem Value) (d:DV):Prop:=∃ v,(∀ W,Keep N w W -> s.run P W= .ok v W)/\ AM M w d ρ v
theorem O1 {k:Nat} {o:DO} {p:AI} {n:Nat} {Rw:Nat -> Value -> Prop} (R:AT P Γ N S ρ a w) (hk:S.h[k]? =some (some o)) (hp:ρ[k]? =some p) (hr:AZ w p n Rw): ¬ N p.blk:=(R.hr.cel k o p p.blk hk hp (by rw [hr.1])).2.1
theorem Wz {M:Nat -> Prop} {m:Nat} {f:Nat -> DV} {v:Value} (h:AM M w (.fp m f) ρ v): ∃ b o,v= .pointer (some ⟨b,o,none⟩)/\ ∀ j,j<m -> ¬ M b/\ ∃ u,w.cell? ⟨b,o+j,none⟩=some u/\ AM M w (f j) [] u:=h
theorem RY {M:Nat -> Prop} {d:DV} {v:Value} (h:AM M w d [] v):AM M w d ρ v:=h.out d ⟨fun _ _ _ _=>rfl,fun _ h=>.inl h,fun k p hk=>by simp at hk⟩
theorem Yt {t:TypeId} {b:Addr} {W:World}:(Instr.loadAt t (.pointer (some b))).run P W=(loadVar t b).run P W:=rfl
theorem Le {M:Nat -> Prop} {t:TypeId} {b o:Nat} {u:Value} {d:DV} (hN: ¬ N b) (h1:Fn P t=true) (hc:w.cell? ⟨b,o,none⟩=some u) (hr:AM M w d ρ u):Yl P N w M ρ (Instr.loadAt t (.pointer (some ⟨b,o,none⟩))) d:=
 ⟨u,fun W hE=>by rw [Yt];exact sA h1 (hE _ _ _ hN hc),hr⟩
theorem Vu {M:Nat -> Prop} {t:TypeId} {i:TypeInfo} {b o:Nat} {f:Nat -> DV} (hN:0<i.size -> ¬ N b) (h1:Ho P t=true) (hi:P.info? t=some i) (h: ∀ j,j<i.size -> ∃ u,w.cell? ⟨b,o+j,none⟩=some u/\ AM M w (f j) ρ u):
 Yl P N w M ρ (Instr.loadAt t (.pointer (some ⟨b,o,none⟩))) (.agg i.size f):=by
 obtain ⟨g,hg⟩: ∃ g:Nat -> Value,∀ j,j<i.size -> w.cell? ⟨b,o+j,none⟩=some (g j)/\ AM M w (f j) ρ (g j):=by
  refine ⟨fun j=>(w.cell? ⟨b,o+j,none⟩).getD undef,fun j hj=>?_⟩;obtain ⟨u,h1,h2⟩:=h j hj;simp [h1,h2]
 refine ⟨_,fun W hE=>by rw [Yt];exact sB h1 hi g fun j hj=>hE _ _ _ (hN (by omega)) (hg j hj).1,_,rfl,by simp,fun j hj=>?_⟩;exact ⟨g j,by simp [hj],(hg j hj).2⟩
theorem dG {t:TypeId} {m:Nat} (h:UA P t m=true):Ho P t=true/\ ∃ i,P.info? t=some i/\ i.size=m:=by
 unfold UA at h;simp only [zAL] at h;refine ⟨h.1,?_⟩;have h2:=h.2;split at h2
 ·exact ⟨_,by assumption,by simpa using h2⟩
 ·cases h2
theorem jN (R:AT P Γ N S ρ a w) {t:TypeId} {x d:DV} {vc:Prop} {v:Value} (hx:AM (MS N S.h ρ) w x ρ v) (h:NV P S t x=some (d,vc)) (hv:vc):
 Yl P N w (MS N S.h ρ) ρ (Instr.loadAt t v) d:=by
 unfold NV at h;split at h
 ·rename_i m f;obtain ⟨b,o,rfl,hc⟩:=Wz hx;split at h
  ·rename_i h1;split at h
   ·cases h
   ·cases h;obtain ⟨hM,u,g1,g2⟩:=hc 0 (by omega);exact Le (fun h=>hM (.inl h)) h1 g1 (RY g2)
  ·split at h
   ·rename_i h2;cases h;obtain ⟨h3,i,hi,rfl⟩:=dG h2;exact Vu (fun hp h=>(hc 0 hp).1 (.inl h)) h3 hi fun j hj=>let ⟨_,u,g1,g2⟩:=hc j hj;⟨u,g1,RY g2⟩
   ·cases h
 ·rename_i k j;obtain ⟨p,hp,rfl⟩:=hx;split at h
  ·rename_i l hk;obtain ⟨p',BD,hr⟩:=R.hr.obj k _ hk;have e:p'=p:=zAU (BD.symm.trans hp);subst e;split at h
   ·rename_i h1;split at h
    ·rename_i hj;cases h;obtain ⟨u,g1,g2⟩:=AZ.cell hr hj;exact Le (O1 R hk hp hr) h1 g1 g2
    ·cases h
   ·split at h
    ·rename_i i hi;split at h
     ·rename_i h2;cases h;simp only [zAL,zBg] at h2;refine Vu (fun _=>O1 R hk hp hr) h2.1 hi fun c hc=>?_
      obtain ⟨u,g1,g2⟩:=AZ.cell hr (j:=j+c) (by omega);exact ⟨u,by rw [zDy];exact g1,Jt hc g2⟩
     ·cases h
    ·cases h
  ·rename_i l hk;obtain ⟨p',BD,_,r2,hr⟩:=R.hr.obj k _ hk;have e:p'=p:=zAU (BD.symm.trans hp);subst e;split at h
   ·rename_i h1;split at h
    ·rename_i hj;cases h;obtain ⟨u,g1,g2⟩:=AZ.cell hr hj;exact Le (fun h=>r2 (.inl h)) h1 g1 g2
    ·cases h
   ·split at h
    ·rename_i i hi;split at h
     ·rename_i h2;cases h;simp only [zAL,zBg] at h2;refine Vu (fun _ h=>r2 (.inl h)) h2.1 hi fun c hc=>?_
      obtain ⟨u,g1,g2⟩:=AZ.cell hr (j:=j+c) (by omega);exact ⟨u,by rw [zDy];exact g1,Jt hc g2⟩
     ·cases h
    ·cases h
  ·cases h
 ·rename_i k m i j;obtain ⟨p,hp,rfl⟩:=hx;split at h
  ·rename_i l hk;obtain ⟨p',BD,hr⟩:=R.hr.obj k _ hk;have e:p'=p:=zAU (BD.symm.trans hp);subst e;split at h
   ·rename_i h1;cases h;simp only [zAL,zDw] at h1;obtain ⟨⟨h1,rfl⟩,rfl⟩:=h1;obtain ⟨u,g1,g2⟩:=AZ.cell hr hv;exact Le (O1 R hk hp hr) h1 (by simpa using g1) g2
   ·cases h
  ·rename_i l hk;obtain ⟨p',BD,hr⟩:=R.hr.obj k _ hk;have e:p'=p:=zAU (BD.symm.trans hp);subst e;split at h
   ·rename_i h1;cases h;simp only [zAL,zDw] at h1;obtain ⟨⟨h1,rfl⟩,rfl⟩:=h1;obtain ⟨u,g1,g2⟩:=AZ.cell hr hv;exact Le (O1 R hk hp hr) h1 (by simpa using g1) g2
   ·cases h
  ·rename_i m' n f hk;obtain ⟨p',BD,hr⟩:=R.hr.obj k _ hk;have e:p'=p:=zAU (BD.symm.trans hp);subst e
   have aJ: ∀ {i j:Nat},i<n -> j<m' -> i*m'+j<n*m':=fun {i j} hi hj=>by
    have:(i+1)*m'<=n*m':=zEX _ hi;rw [zFj] at this;omega
   have dv: ∀ {i j:Nat},j<m' -> (i*m'+j)/m'=i/\ (i*m'+j) % m'=j:=fun {i j} hj=>by
    have hm:0<m':=by omega
    constructor
    ·rw [zEm,Nat.mul_add_div hm,Nat.div_eq_of_lt hj,zEp]
    ·rw [zEm,Nat.mul_add_mod,zFQ hj]
   split at h
   ·rename_i h1;cases h;simp only [zAL,zDw,zBg] at h1;obtain ⟨⟨h1,rfl⟩,hj⟩:=h1;obtain ⟨u,g1,g2⟩:=AZ.cell hr (aJ hv hj);rw [(dv hj).1,(dv hj).2] at g2;exact Le (O1 R hk hp hr) h1 g1 (RY g2)
   ·split at h
    ·rename_i h2;cases h;simp only [zAL,zDw] at h2;obtain ⟨⟨h2,rfl⟩,rfl⟩:=h2;obtain ⟨h3,ti,hi,rfl⟩:=dG h2;refine Vu (fun _=>O1 R hk hp hr) h3 hi fun c hc=>?_
     obtain ⟨u,g1,g2⟩:=AZ.cell hr (aJ hv hc);rw [(dv hc).1,(dv hc).2] at g2;exact ⟨u,by simpa [zDy] using g1,RY g2⟩
    ·cases h
  ·rename_i n ls lk hk;obtain ⟨p',BD,vs,hS⟩:=R.hr.obj k _ hk;have e:p'=p:=zAU (BD.symm.trans hp);subst e;split at h
   ·rename_i h1;cases h;simp only [zAL,zDw] at h1;obtain ⟨⟨h1,rfl⟩,rfl⟩:=h1;obtain ⟨cs,tt,q1,q2,q3,q4⟩:=hS.row;have hi:i<vs.size:=by rw [hS.size];exact hv
    have q5:=q4 i hv;rw [zAq hi] at q5;refine Le (u:=vs[i]) (R.hr.cel k _ p' p'.blk hk hp hS.blk).2.1 h1 ?_ ⟨p',vs,hp,hS.val,zAq hi⟩;unfold World.cell?;simp [q1,q5]
   ·cases h
  ·rename_i ls hk;obtain ⟨p',BD,vs,hS⟩:=R.hr.obj k _ hk;have e:p'=p:=zAU (BD.symm.trans hp);subst e;split at h
   ·rename_i h1;cases h;simp only [zAL,zDw] at h1;obtain ⟨⟨h1,rfl⟩,rfl⟩:=h1;obtain ⟨cs,tt,q1,q2,q3,q4⟩:=hS.row;have hi:i+1<vs.size:=by rw [hS.size];omega
    have q5:=q4 i hv;rw [zAq hi] at q5;refine Le (u:=vs[i+1]) (R.hr.cel k _ p' p'.blk hk hp hS.blk).2.1 h1 ?_ ⟨p',vs,hp,hS.val,zAq hi⟩;unfold World.cell?;simp [q1,q5]
   ·cases h
  ·cases h
 ·cases h
theorem Yl.pure {M:Nat -> Prop} {s:Sem Value} {d:DV} {v:Value} (h: ∀ W,s.run P W= .ok v W) (hr:AM M w d ρ v):Yl P N w M ρ s d:=⟨v,fun W _=>h W,hr⟩
theorem mQ {t:TypeId} {m:Nat} (h:OE P t m=true):P.underlying t=some (.slice (P.elem t))/\ (∃ i,P.info? (P.elem t)=some i/\ i.size=m)/\ m≠0:=by
 unfold OE at h;split at h
 ·rename_i e he;have:P.elem t=e:=by unfold Program.elem;rw [he]
  rw [this];refine ⟨he,?_⟩;split at h
  ·simp only [zAL,zDw,zE3] at h;exact ⟨⟨_,by assumption,h.1⟩,h.2⟩
  ·cases h
 ·cases h
theorem ck {t:TypeId} {n m:Nat} (h:T4 P t=some (n,m)):P.underlying t=some (.array (P.arrayLen t) (P.elem t))/\ P.arrayLen t=n/\ ∃ i,P.info? (P.elem t)=some i/\ i.size=m:=by
 unfold T4 at h;split at h
 ·rename_i n' e he;have h1:P.elem t=e:=by unfold Program.elem;rw [he]
  have h2:P.arrayLen t=n':=by unfold Program.arrayLen;rw [he]
  rw [h1,h2];split at h
  ·split at h
   ·cases h
   ·cases h;exact ⟨he,rfl,_,by assumption,rfl⟩
  ·cases h
 ·cases h
theorem Ij (b o n:Nat):Addr.add ⟨b,o,none⟩ n=⟨b,o+n,none⟩:=by
 unfold Addr.add
 by_cases h:n=0
 ·subst h;rfl
 ·simp [h]
theorem U0 {t:TypeId} {m b o len cap:Nat} {k:IntKind} {n:Int} (h:OE P t m=true) (h1:0<=n) (h2:n<len) (W:World):
 (Instr.indexAt t (.slice (some ⟨b,o,none⟩) len cap) (.int k n)).run P W= .ok (.pointer (some ⟨b,o+n.toNat*m,none⟩)) W:=by
 obtain ⟨hu,⟨i,hi,rfl⟩,_⟩:=mQ h;rw [run_indexAt_slice W t _ len cap k n hu,zAB ⟨h1,h2⟩,Iu hi];simp only [Result.andThen,Ij]
theorem w9 (R:AT P Γ N S ρ a w) {t:TypeId} {x d:DV} {vc:Prop} {v:Value} {k:IntKind} {n:Int} (hx:AM (MS N S.h ρ) w x ρ v) (h:aL P t x n=some (d,vc)) (hv:vc):
 Yl P N w (MS N S.h ρ) ρ (Instr.indexAt t v (.int k n)) d:=by
 unfold aL at h;split at h
 ·rename_i l;obtain ⟨ad,cap,rfl,h1,h2,h3⟩:=hx;split at h
  ·rename_i he;cases h;obtain ⟨b,o,rfl,hM,hc⟩:=h3 n.toNat (by omega);refine Yl.pure (fun W=>U0 he hv.1 hv.2 W) ⟨b,o+n.toNat*1,rfl,fun j hj=>⟨hM,_,?_,rfl⟩⟩;have:j=0:=by omega
   subst this;simpa using hc
  ·cases h
 ·rename_i l;obtain ⟨ad,cap,rfl,h1,h2,h3⟩:=hx;split at h
  ·rename_i he;cases h;obtain ⟨b,o,rfl,hM,hc⟩:=h3 n.toNat (by omega);refine Yl.pure (fun W=>U0 he hv.1 hv.2 W) ⟨b,o+n.toNat*1,rfl,fun j hj=>⟨hM,_,?_,rfl⟩⟩;have:j=0:=by omega
   subst this;simpa using hc
  ·cases h
 ·rename_i m c f;obtain ⟨ad,cap,rfl,h1,h2,h3⟩:=hx;split at h
  ·rename_i he;cases h;have hm:=(mQ he).2;obtain ⟨b,o,u,rfl,hM,hc,hr⟩:=h3 n.toNat 0 (by omega) (by omega);refine Yl.pure (fun W=>U0 he hv.1 hv.2 W) ⟨b,o+n.toNat*m,rfl,fun j hj=>?_⟩;obtain ⟨b',o',u',e,hM',C1,Cs⟩:=h3 n.toNat j (by omega) hj;cases e;exact ⟨hM',u',by rw [zDy];exact C1,Cs⟩
  ·cases h
 ·rename_i k' m off c;obtain ⟨p,cap,hp,rfl,h1,h2,h3⟩:=hx;split at h
  ·rename_i he;cases h;exact Yl.pure (fun W=>U0 he hv.1 hv.2 W) ⟨p,hp,by rw [zDy,←zEn];rfl⟩
  ·cases h
 ·rename_i k' j;obtain ⟨p,hp,rfl⟩:=hx;split at h
  ·rename_i len sz ha;cases h;obtain ⟨hu,hl,i,hi,rfl⟩:=ck ha;refine Yl.pure (fun W=>?_) ⟨p,hp,rfl⟩;rw [run_indexAt_array W t _ k n hu,zAB ⟨hv.1,by rw [hl];exact hv.2⟩,Iu hi];simp only [Result.andThen,Ij,zDy]
  ·cases h
 ·rename_i k' m i0;obtain ⟨p,hp,rfl⟩:=hx;split at h
  ·rename_i len sz ha;split at h
   ·rename_i A3;subst A3;cases h;obtain ⟨hu,hl,i,hi,rfl⟩:=ck ha;refine Yl.pure (fun W=>?_) ⟨p,hp,rfl⟩;rw [run_indexAt_array W t _ k n hu,zAB ⟨hv.1,by rw [hl];exact hv.2⟩,Iu hi];simp only [Result.andThen,Ij,zDy,zEn,zAj,zEp]
   ·cases h
  ·cases h
 ·rename_i m f;obtain ⟨b,o,rfl,hc⟩:=Wz hx;split at h
  ·rename_i len sz ha;split at h
   ·rename_i A3;cases h;obtain ⟨hu,hl,i,hi,rfl⟩:=ck ha;refine Yl.pure (fun W=>?_) ⟨b,o+n.toNat*i.size,rfl,fun j hj=>?_⟩
    ·rw [run_indexAt_array W t _ k n hu,zAB ⟨hv.1,by rw [hl];exact hv.2⟩,Iu hi];simp only [Result.andThen,Ij]
    ·obtain ⟨hM,u,h1,h2⟩:=hc (n.toNat*i.size+j) (by omega);exact ⟨hM,u,by rw [zDy];exact h1,Jt hj h2⟩
   ·cases h
  ·cases h
 ·cases h
theorem sH {op:BinOp} {k:IntKind} {x y:Int} {d:DV} {vc:Prop} (t:TypeId) (h:Xi op k x y=some (d,vc)) (M:Nat -> Prop):Yl P N w M ρ (binOp op t (.int k x) (.int k y)) d:=by
 cases op <;> simp only [Xi,zC5,zD1,reduceCtorEq] at h <;> obtain ⟨rfl,-⟩:=h
 ·exact Yl.pure (fun W=>by rw [binOp_add];rfl) rfl
 ·exact Yl.pure (fun W=>by rw [binOp_sub];rfl) rfl
 ·exact Yl.pure (fun W=>by rw [binOp_mul];rfl) rfl
 ·exact Yl.pure (fun W=>by rw [binOp_and];rfl) rfl
 ·exact Yl.pure (fun W=>by rw [binOp_or];rfl) rfl
 ·exact Yl.pure (fun W=>by rw [binOp_xor];rfl) rfl
 ·exact Yl.pure (fun W=>by rw [binOp_andNot];rfl) rfl
 ·exact Yl.pure (fun W=>by rw [binOp_eql];rfl) rfl
 ·exact Yl.pure (fun W=>by rw [binOp_neq];rfl) rfl
 ·exact Yl.pure (fun W=>by rw [binOp_lss];rfl) rfl
 ·exact Yl.pure (fun W=>by rw [binOp_leq];rfl) rfl
 ·exact Yl.pure (fun W=>by rw [binOp_gtr];rfl) rfl
 ·exact Yl.pure (fun W=>by rw [binOp_geq];rfl) rfl
theorem zBf {op:BinOp} {t:TypeId} {x y:Operand} {k:IntKind} {n:Int} {v:Value}:eqGuard op t x y (.int k n) v=pure ():=by
 cases op <;> rfl
theorem zC3 {M:Nat -> Prop} {op:BinOp} {t:TypeId} {x y:DV} {vx vy:Value} {d:DV} {vc:Prop} (ox oy:Operand) (hx:AM M w x ρ vx) (hy:AM M w y ρ vy) (h:Xj (QO P t) op x y=some (d,vc)) (hv:vc):
 Yl P N w M ρ (do eqGuard op t ox oy vx vy;binOp op t vx vy) d:=by
 have key: ∀ {k k':IntKind} {n n':Int},vx= .int k n -> vy= .int k' n' -> Yl P N w M ρ (binOp op t (.int k n) (.int k' n')) d -> Yl P N w M ρ (do eqGuard op t ox oy vx vy;binOp op t vx vy) d:=by
  intro k k' n n' e1 e2 hY;subst e1;subst e2;rw [zBf];exact hY
 have hb:QO P t=1 -> P.underlying t=some .bool:=fun h=>by
  unfold QO at h;split at h
  ·assumption
  ·cases h
  ·cases h
 have aW:QO P t=2 -> ∃ e,P.underlying t=some (.slice e):=fun h=>by
  unfold QO at h;split at h
  ·cases h
  ·exact ⟨_,by assumption⟩
  ·cases h
 have mJ: ∀ {e:TypeId} {a:Addr} {l c:Nat} (W:World),P.underlying t=some (.slice e) -> (do eqGuard .eql t ox oy (.slice (some a) l c) (.slice none 0 0);binOp .eql t (.slice (some a) l c) (.slice none 0 0):Sem Value).run P W= .ok (.bool false) W:=by
  intro e a l c W hu;have h1:eqGuard .eql t ox oy (.slice (some a) l c) (.slice none 0 0)=pure ():=rfl;rw [h1]
  show (binOp .eql t (.slice (some a) l c) (.slice none 0 0)).run P W=_
  simp only [binOp];simp [run_equal_slice_nil W t e (some a) l c hu]
 have uv: ∀ {e:TypeId} {a:Addr} {l c:Nat} (W:World),P.underlying t=some (.slice e) -> (do eqGuard .neq t ox oy (.slice (some a) l c) (.slice none 0 0);binOp .neq t (.slice (some a) l c) (.slice none 0 0):Sem Value).run P W= .ok (.bool true) W:=by
  intro e a l c W hu;have h1:eqGuard .neq t ox oy (.slice (some a) l c) (.slice none 0 0)=pure ():=rfl;rw [h1]
  show (binOp .neq t (.slice (some a) l c) (.slice none 0 0)).run P W=_
  simp only [binOp];simp [run_equal_slice_nil W t e (some a) l c hu]
 unfold Xj at h;split at h
 ·split at h
  ·rename_i e;cases h;have e1:vx= .bool _:=hx;have e2:vy= .bool _:=hy;subst e1;subst e2;exact Yl.pure (fun W=>run_eql_bool W t _ _ (hb e)) rfl
  ·cases h
 ·split at h
  ·rename_i e;cases h;have e1:vx= .bool _:=hx;have e2:vy= .bool _:=hy;subst e1;subst e2;exact Yl.pure (fun W=>run_neq_bool W t _ _ (hb e)) rfl
  ·cases h
 ·split at h
  ·rename_i e;cases h;obtain ⟨e0,he⟩:=aW e;obtain ⟨ad,cap,rfl,h1,h2,h3⟩:=hx;obtain ⟨b,o,rfl,_⟩:=h3 0 hv;have e2:vy= .slice none 0 0:=hy;subst e2;exact Yl.pure (fun W=>mJ W he) rfl
  ·cases h
 ·split at h
  ·rename_i e;cases h;obtain ⟨e0,he⟩:=aW e;obtain ⟨ad,cap,rfl,h1,h2,h3⟩:=hx;obtain ⟨b,o,rfl,_⟩:=h3 0 hv;have e2:vy= .slice none 0 0:=hy;subst e2;exact Yl.pure (fun W=>mJ W he) rfl
  ·cases h
 ·split at h
  ·rename_i e;cases h;obtain ⟨e0,he⟩:=aW e;obtain ⟨ad,cap,rfl,h1,h2,h3⟩:=hx;obtain ⟨b,o,rfl,_⟩:=h3 0 hv;have e2:vy= .slice none 0 0:=hy;subst e2;exact Yl.pure (fun W=>uv W he) rfl
  ·cases h
 ·cases h;refine key hx hy ?_;exact Yl.pure (fun W=>by rw [binOp_shl,shift_shl _ _ _ _ hv.1 hv.2];rfl) rfl
 ·cases h;refine key hx hy ?_;exact Yl.pure (fun W=>by rw [binOp_shr,shift_shr _ _ _ _ hv.1 hv.2];rfl) rfl
 ·split at h
  ·rename_i e;subst e;cases h;exact key hx hy (Yl.pure (fun W=>by rw [binOp_quo,Op.intDiv,zAZ hv];rfl) rfl)
  ·cases h
 ·split at h
  ·rename_i e;subst e;cases h;exact key hx hy (Yl.pure (fun W=>by rw [binOp_rem,Op.intDiv,zAZ hv];rfl) rfl)
  ·cases h
 ·split at h
  ·rename_i e;subst e;exact key hx hy (sH t h M)
  ·cases h
 ·cases h
theorem Gk {ρ':Operand -> Value} {o:Oper} {s:Sem Value} {M:Nat -> Prop} {d:DV} (he:execOp ρ' o=(do pure (.value (←s)))) (h:Yl P N w M ρ s d): ∃ v,(∀ W,Keep N w W -> (execOp ρ' o).run P W= .ok (.value v) W)/\ AM M w d ρ v:=by
 obtain ⟨v,h1,h2⟩:=h;refine ⟨v,fun W hE=>?_,h2⟩;rw [he,zAg,h1 W hE];rfl
theorem zBQ {s:TypeId} {f off sz:Nat} (h:XB P s f=some (off,sz)): ∃ fs fd i,P.underlying s=some (.struct fs)/\ fs[f]? =some fd/\ fd.offset=off/\ P.info? fd.type=some i/\ i.size=sz/\ sz≠0:=by
 unfold XB at h;split at h
 ·rename_i fs hs;split at h
  ·rename_i fd hf;split at h
   ·rename_i i hi;split at h
    ·cases h
    ·cases h;exact ⟨fs,fd,i,hs,hf,rfl,hi,rfl,by assumption⟩
   ·cases h
  ·cases h
 ·cases h
theorem Yu {s:TypeId} {f off sz b o:Nat} (h:XB P s f=some (off,sz)) (W:World):(Instr.fieldAt s (.pointer (some ⟨b,o,none⟩)) f).run P W= .ok (.pointer (some ⟨b,o+off,none⟩)) W:=by
 obtain ⟨fs,fd,i,h1,h2,rfl,h4,rfl,h6⟩:=zBQ h;unfold Instr.fieldAt;rw [zAg,zDq h1];simp only [Result.andThen,h2,Instr.sureAddr];simp only [zAg,zFR,Result.andThen,fieldPlace,Iu h4,zAZ h6,Ij]
theorem wX {t:TypeId} {k:IntKind} (h:aE P t=some k):P.underlying t=some (.int k):=by
 unfold aE at h;split at h
 ·cases h;assumption
 ·cases h
theorem RE {t ty:TypeId} {e:TypeId} {ad:Option Addr} {n c:Nat} (h:P.underlying t=some (.slice e)) (W:World):(Builtin.len_ #[t] ty #[.slice ad n c]).run P W= .ok (.int .i64 n) W:=by
 simp [Builtin.len_,zDq h,goInt]
theorem sC {t ty:TypeId} {s:ByteArray} (h:P.underlying t=some .string) (W:World):(Builtin.len_ #[t] ty #[.string s]).run P W= .ok (.int .i64 s.size) W:=by
 simp [Builtin.len_,zDq h,goInt]
theorem bu {M:Nat -> Prop} {ρ':Operand -> Value} {o:Oper} {c:Call} {b:Builtin} {d:DV} {s:Sem Value} (ho:o.op= .call c) (hc:c.callee= .builtin b)
 (hb:builtin b c.argTypes o.type (c.args.map fun | .const _=>true | _=>false) (c.args.map ρ')=(do pure (.value (←s)))) (h:Yl P N w M ρ s d):
 ∃ v,(∀ W,Keep N w W -> (execOp ρ' o).run P W= .ok (.value v) W)/\ AM M w d ρ v:=by
 refine Gk (s:=s) ?_ h;rw [←hb];unfold execOp;rw [ho]
 show (resolve ρ' c o.type>>=fun d=>invoke d.target d.args)=_
 unfold resolve;rw [hc];rfl
theorem vX {M:Nat -> Prop} {t ty:TypeId} {x d:DV} {vc:Prop} {v:Value} (hx:AM M w x ρ v) (h:Vx P t x=some (d,vc)):Yl P N w M ρ (Builtin.len_ #[t] ty #[v]) d:=by
 unfold Vx at h;split at h
 ·rename_i e' hu;cases h;rw [show v=_ from hx];exact Yl.pure (fun W=>RE hu W) rfl
 ·rename_i e' l hu;cases h;obtain ⟨ad,cap,rfl,_⟩:=hx;exact Yl.pure (fun W=>RE hu W) rfl
 ·rename_i e' l hu;cases h;obtain ⟨ad,cap,rfl,_⟩:=hx;exact Yl.pure (fun W=>RE hu W) rfl
 ·rename_i e' m n f hu;cases h;obtain ⟨ad,cap,rfl,_⟩:=hx;exact Yl.pure (fun W=>RE hu W) rfl
 ·rename_i e' k m off n hu;cases h;obtain ⟨p,cap,_,rfl,_⟩:=hx;exact Yl.pure (fun W=>RE hu W) rfl
 ·rename_i s hu;cases h;rw [show v=_ from hx];exact Yl.pure (fun W=>sC hu W) rfl
 ·cases h
theorem dt {α:Type} {l:Array α} {x:α} (h:l.toList= [x]):l= #[x]:=by cases l;simp at h;rw [h]
theorem UT {α:Type} {l:Array α} {x y:α} (h:l.toList= [x,y]):l= #[x,y]:=by cases l;simp at h;rw [h]
theorem zCv (R:AT P Γ N S ρ a w) (o:Oper) {c:Call} {b:Builtin} {d:DV} {vc:Prop} (ho:o.op= .call c) (hc:c.callee= .builtin b) (h:Xg P S b c.args.toList c.argTypes.toList=some (d,vc)):
 ∃ v,(∀ W,Keep N w W -> (execOp a.eval o).run P W= .ok (.value v) W)/\ AM (MS N S.h ρ) w d ρ v:=by
 have rep:=fun x=>Bh R x
 unfold Xg at h;split at h
 ·split at h
  ·rename_i x ha;split at h
   ·rename_i t ht;exact bu (s:=Builtin.len_ #[t] o.type #[a.eval x]) ho hc (by rw [dt ha,dt ht];simp [builtin]) (vX (rep x) h)
   ·cases h
  ·cases h
 ·split at h
  ·rename_i x y ha;have hx:=rep x;have hy:=rep y;unfold Zo at h;split at h
   ·rename_i k n k' n' e1 e2;cases h;rw [e1] at hx;rw [e2] at hy;refine bu (s:=Builtin.max_ c.argTypes o.type #[a.eval x,a.eval y]) ho hc (by rw [UT ha];simp [builtin]) ?_;rw [show a.eval x=_ from hx,show a.eval y=_ from hy];exact Yl.pure (fun W=>by simp [Builtin.max_,Builtin.max2]) rfl
   ·cases h
  ·cases h
 ·split at h
  ·rename_i x y ha;have hx:=rep x;have hy:=rep y;unfold Zn at h;split at h
   ·rename_i k n k' n' e1 e2;cases h;rw [e1] at hx;rw [e2] at hy;refine bu (s:=Builtin.min_ c.argTypes o.type #[a.eval x,a.eval y]) ho hc (by rw [UT ha];simp [builtin]) ?_;rw [show a.eval x=_ from hx,show a.eval y=_ from hy];exact Yl.pure (fun W=>by simp [Builtin.min_,Builtin.min2]) rfl
   ·cases h
  ·cases h
 ·cases h
theorem iK (R:AT P Γ N S ρ a w) (o:Oper) {d:DV} {vc:Prop} (h:O8 P S o.op=some (d,vc)) (hv:vc):
 ∃ v,(∀ W,Keep N w W -> (execOp a.eval o).run P W= .ok (.value v) W)/\ AM (MS N S.h ρ) w d ρ v:=by
 have rep:=fun x=>Bh R x
 unfold O8 at h;split at h
 ·rename_i x ho;cases h;exact ⟨a.eval x,fun W _=>by unfold execOp;rw [ho];rfl,rep x⟩
 ·rename_i x ho;cases h;exact ⟨a.eval x,fun W _=>by unfold execOp;rw [ho];rfl,rep x⟩
 ·rename_i c x y ho;have hc:=rep c;split at h
  ·rename_i e;cases h;rw [e] at hc;exact ⟨a.eval x,fun W _=>by unfold execOp;rw [ho];simp only [show a.eval c= .bool true from hc];rfl,rep x⟩
  ·rename_i e;cases h;rw [e] at hc;exact ⟨a.eval y,fun W _=>by unfold execOp;rw [ho];simp only [show a.eval c= .bool false from hc];rfl,rep y⟩
  ·cases h
 ·rename_i t x ho;exact Gk (by unfold execOp;rw [ho]) (jN R (rep x) h hv)
 ·rename_i op t x y t' ho;exact Gk (by unfold execOp;rw [ho]) (zC3 x y (rep x) (rep y) h hv)
 ·rename_i op t x ho;have hx:=rep x;refine Gk (s:=Op.unary op (a.eval x)) (by unfold execOp;rw [ho]) ?_;split at h
  ·rename_i b e;cases h;rw [e] at hx;rw [show a.eval x= .bool b from hx];exact Yl.pure (fun W=>rfl) rfl
  ·rename_i k n e;cases h;rw [e] at hx;rw [show a.eval x= .int k n from hx];exact Yl.pure (fun W=>rfl) rfl
  ·rename_i k n e;cases h;rw [e] at hx;rw [show a.eval x= .int k n from hx];exact Yl.pure (fun W=>rfl) rfl
  ·cases h
 ·rename_i ts td x ho;have hx:=rep x;split at h
  ·rename_i dd k k' n hs hd e;cases h;rw [e] at hx;refine Gk (s:=convert ts td (a.eval x)) (by unfold execOp;rw [ho]) ?_;rw [show a.eval x= .int k' n from hx];refine Yl.pure (v:=.int k (k.wrap n)) (fun W=>?_) rfl;simp [convert,zDq hs,zDq (wX hd),Conv.intToInt]
  ·cases h
 ·rename_i x ho;have hx:=rep x;split at h
  ·rename_i m f e;cases h;rw [e] at hx;obtain ⟨b,oo,hb,hr⟩:=Wz hx;exact ⟨_,fun W _=>by unfold execOp;rw [ho];simp only [hb];rfl,b,oo,rfl,hr⟩
  ·rename_i k j e;cases h;rw [e] at hx;obtain ⟨p,hp,hb⟩:=hx;exact ⟨_,fun W _=>by unfold execOp;rw [ho];simp only [hb];rfl,p,hp,rfl⟩
  ·rename_i k m i j e;cases h;rw [e] at hx;obtain ⟨p,hp,hb⟩:=hx;exact ⟨_,fun W _=>by unfold execOp;rw [ho];simp only [hb];rfl,p,hp,rfl⟩
  ·rename_i g m c e;cases h;rw [e] at hx;obtain ⟨lb,hb,hr⟩:=hx;exact ⟨_,fun W _=>by unfold execOp;rw [ho];simp only [hb];rfl,lb,rfl,hr⟩
  ·cases h
 ·rename_i st x f ho;have hx:=rep x;split at h
  ·rename_i off sz hf;refine Gk (s:=Instr.fieldAt st (a.eval x) f) (by unfold execOp;rw [ho]) ?_;split at h
   ·rename_i m g e;split at h
    ·cases h;rw [e] at hx;obtain ⟨b,oo,hb,hr⟩:=Wz hx;rw [hb];refine Yl.pure (fun W=>Yu hf W) ⟨b,_,rfl,fun j hj=>?_⟩;obtain ⟨g1,u,g2,g3⟩:=hr (off+j) (by omega);exact ⟨g1,u,by rw [zDy];exact g2,Jt hj g3⟩
    ·cases h
   ·rename_i k j e;cases h;rw [e] at hx;obtain ⟨p,hp,hb⟩:=hx;rw [hb];exact Yl.pure (fun W=>Yu hf W) ⟨p,hp,by rw [zDy]⟩
   ·rename_i k m i j e;cases h;rw [e] at hx;obtain ⟨p,hp,hb⟩:=hx;rw [hb];exact Yl.pure (fun W=>Yu hf W) ⟨p,hp,by rw [zDy,zDy]⟩
   ·cases h
  ·cases h
 ·rename_i t x i ho;have hi:=rep i;split at h
  ·rename_i k n e;rw [e] at hi;refine Gk (s:=Instr.indexAt t (a.eval x) (a.eval i)) (by unfold execOp;rw [ho]) ?_;rw [show a.eval i= .int k n from hi];exact w9 R (rep x) h hv
  ·cases h
 ·rename_i x i ho;have hx:=rep x;split at h
  ·rename_i m f e;split at h
   ·rename_i hi;cases h;rw [e] at hx;obtain ⟨cs,hb,hs,hr⟩:=hx;obtain ⟨u,g1,g2⟩:=hr i hi;refine Gk (s:=Instr.extract (a.eval x) i) (by unfold execOp;rw [ho]) ?_;rw [hb];exact Yl.pure (fun W=>by simp [Instr.extract,g1]) g2
   ·cases h
  ·cases h
 ·rename_i g first c ho
  split at h
  ·rename_i hf;cases h;refine ⟨.func (.func g) #[] (c.map a.eval),fun W _=>?_,c.map a.eval,rfl,by simp,fun j hj=>?_⟩
   ·unfold execOp;rw [ho];have:first= #[]:=zE5 hf
    subst this;simp [Instr.makeFunc]
   ·refine ⟨a.eval (c.getD j (.const undef)),by simp [hj],Jt hj (rep _)⟩
  ·cases h
 ·rename_i c ho;split at h
  ·rename_i b hc;exact zCv R o ho hc h
  ·cases h
 ·cases h
end
end Go.Proofs.YtkjbblkieglmlaaGreatDoor
namespace Go.Proofs.YtkjbblkieglmlaaGreatDoor
abbrev zAA:=@Option.bind_some
abbrev zAQ:=@List.getElem?_eq_getElem
abbrev zAe:=@List.length_replicate
abbrev zAh:=@List.length_append
abbrev zAn:=@List.length_map
abbrev zA1:=@List.getElem?_map
abbrev zBV:=@Option.map_some
abbrev zDl:=@List.length_cons
abbrev zD4:=@Nat.mul_one
abbrev zEN:=@List.getElem_of_mem
abbrev zEO:=@List.eq_nil_of_length_eq_zero
abbrev zER:=@Int.le_refl
abbrev zEY:=@Option.getD_some
abbrev zEt:=@Go.heap_alloc_new
abbrev zEw:=@Nat.div_lt_iff_lt_mul
abbrev zEz:=@List.size_toArray
abbrev zFW:=@List.getElem?_range
abbrev zFk:=@List.flatMap_cons
abbrev zGA:=@Nat.mod_lt
end Go.Proofs.YtkjbblkieglmlaaGreatDoor
namespace Go.Proofs.YtkjbblkieglmlaaGreatDoor
open Go.RowKit
def IN:DV -> Bool
 | .any=>false
 | .agg .. =>false
 | .tup .. =>false
 | .it _=>false
 | .mri .. =>false
 | _=>true
def Ie:DV -> Option (List DV)
 | .agg m f=>some ((List.range m).map f)
 | .any=>none
 | .tup .. =>none
 | .it _=>none
 | .mri .. =>none
 | d=>some [d]
def PA:DV -> Bool
 | .int .. =>true
 | .bool _=>true
 | .str _=>true
 | .nils=>true
 | .ints _=>true
 | .bools _=>true
 | .sl .. =>true
 | _=>false
section
variable {P:Program} {Γ:Aq} {N:Nat -> Prop} {S:St} {ρ:List AI} {a:Act} {w:World}
theorem Vh {M:Nat -> Prop} {d:DV} {v:Value} (h:IN d=true) (hr:AM M w d ρ v):v.oneCell'=true/\ v.cells= #[v]:=by
 have key:(∀ cs,v≠.agg cs) -> (∀ cs,v≠.tuple cs) -> v.oneCell'=true/\ v.cells= #[v]:=fun h1 h2=>by
  cases v <;> first | exact ⟨rfl,rfl⟩ | exact absurd rfl (h1 _) | exact absurd rfl (h2 _)
 cases d with
 | any=>cases h
 | agg m f=>cases h
 | tup m f=>cases h
 | nils=>exact key (fun cs e=>by rw [hr] at e;cases e) (fun cs e=>by rw [hr] at e;cases e)
 | int k n=>exact key (fun cs e=>by rw [hr] at e;cases e) (fun cs e=>by rw [hr] at e;cases e)
 | bool b=>exact key (fun cs e=>by rw [hr] at e;cases e) (fun cs e=>by rw [hr] at e;cases e)
 | str s=>exact key (fun cs e=>by rw [hr] at e;cases e) (fun cs e=>by rw [hr] at e;cases e)
 | ints l=>obtain ⟨_,_,rfl,_⟩:=hr;exact ⟨rfl,rfl⟩
 | bools l=>obtain ⟨_,_,rfl,_⟩:=hr;exact ⟨rfl,rfl⟩
 | sl m n f=>obtain ⟨_,_,rfl,_⟩:=hr;exact ⟨rfl,rfl⟩
 | fp m f=>obtain ⟨_,_,rfl,_⟩:=hr;exact ⟨rfl,rfl⟩
 | ref k j=>obtain ⟨_,_,rfl⟩:=hr;exact ⟨rfl,rfl⟩
 | msl k m off n=>obtain ⟨_,_,_,rfl,_⟩:=hr;exact ⟨rfl,rfl⟩
 | mp k m i j=>obtain ⟨_,_,rfl⟩:=hr;exact ⟨rfl,rfl⟩
 | fn g m c=>obtain ⟨_,rfl,_⟩:=hr;exact ⟨rfl,rfl⟩
 | it k=>cases h
 | yl l=>exact key (fun cs e=>by rw [hr] at e;cases e) (fun cs e=>by rw [hr] at e;cases e)
 | mse k m o n=>obtain ⟨_,_,_,_,rfl,_⟩:=hr;exact ⟨rfl,rfl⟩
 | mri k i=>cases h
 | cst u=>obtain ⟨rfl,hu⟩:=hr;cases v <;> first | exact ⟨rfl,rfl⟩ | (cases hu;done)
theorem Ti {M:Nat -> Prop} {d:DV} {v:Value} {l:List DV} (h:Ie d=some l) (hr:AM M w d ρ v):v.cells.size=l.length/\ ∀ j,j<l.length -> ∃ u,v.cells[j]? =some u/\ AM M w (l.getD j .any) ρ u:=by
 have one:IN d=true -> l= [d] -> v.cells.size=l.length/\ ∀ j,j<l.length -> ∃ u,v.cells[j]? =some u/\ AM M w (l.getD j .any) ρ u:=by
  intro h1 h2;subst h2;rw [(Vh h1 hr).2];refine ⟨rfl,fun j hj=>?_⟩;have:j=0:=by simpa using hj
  subst this;exact ⟨v,rfl,hr⟩
 cases d with
 | any=>cases h
 | tup m f=>cases h
 | it k=>cases h
 | yl l=>cases h;exact one rfl rfl
 | mse k m o n=>cases h;exact one rfl rfl
 | mri k i=>cases h
 | cst u=>exact one rfl (zAU h).symm
 | agg m f=>
  cases h;obtain ⟨cs,rfl,hs,hc⟩:=hr;refine ⟨by simpa [Value.cells] using hs,fun j hj=>?_⟩;have BT:j<m:=by simpa using hj
  obtain ⟨u,h1,h2⟩:=hc j BT;exact ⟨u,h1,by simpa [BT] using h2⟩
 | nils=>cases h;exact one rfl rfl
 | int k n=>cases h;exact one rfl rfl
 | bool b=>cases h;exact one rfl rfl
 | str s=>cases h;exact one rfl rfl
 | ints l=>cases h;exact one rfl rfl
 | bools l=>cases h;exact one rfl rfl
 | sl m n f=>cases h;exact one rfl rfl
 | fp m f=>cases h;exact one rfl rfl
 | ref k j=>cases h;exact one rfl rfl
 | msl k m off n=>cases h;exact one rfl rfl
 | mp k m i j=>cases h;exact one rfl rfl
 | fn g m c=>cases h;exact one rfl rfl
theorem ZK {M:Nat -> Prop} {d:DV} {v:Value} (h:PA d=true) (hr:AM M w d ρ v):AM M w d [] v:=by
 cases d <;> first | exact hr | (cases h;done)
structure CW (P:Program) (Γ:Aq) (N:Nat -> Prop) (h:DH) (ρ:List AI) (w:World) (ext:Bool) (d:DV) (h':DH) (v:Value) (w':World):Prop where
 ex: ∃ ρ',A1 P Γ N h' ρ' w'/\ AM (MS N h' ρ') w' d ρ' v/\ A6 h ρ w h' ρ' w'/\ (∀ (k:Nat) (p:AI),ρ[k]? =some p -> ρ'[k]? =some p)
 ext:ext=true -> Ao w w'
def BK (P:Program) (s:Sem Next) (w:World) (G:Value -> World -> Prop):Prop:=
 (∃ v w',s.run P w= .ok (.value v) w'/\ G v w')∨(∃ w',s.run P w= .ok .skip w'/\ G undef w')∨
 (∃ f args w',s.run P w= .ok (.enter f args) w'/\ Calls P f args w' fun e CK=>∃ v,e= .returned v/\ G v CK)
theorem BK.value {G:Value -> World -> Prop} {ρ':Operand -> Value} {o:Oper} {s:Sem Value} {v:Value} {w':World} (he:execOp ρ' o=(do pure (.value (←s)))) (h:s.run P w= .ok v w') (hG:G v w'):BK P (execOp ρ' o) w G:=
 .inl ⟨v,w',by rw [he,zAg,h];rfl,hG⟩
theorem BK.skip {G:Value -> World -> Prop} {ρ':Operand -> Value} {o:Oper} {s:Sem Unit} {w':World} (he:execOp ρ' o=(do s;pure .skip)) (h:s.run P w= .ok () w') (hG:G undef w'):BK P (execOp ρ' o) w G:=
 .inr (.inl ⟨w',by rw [he,zAg,h];rfl,hG⟩)
def EC (w:World) (room:Nat):AI:=⟨w.heap.size,0,room,undef,fun b=>b=w.heap.size⟩
theorem Pr (H:A1 P Γ N S.h ρ w) {cs:Array Value} {t:TypeId} {o:DO} {d:DV} {v:Value} {w1:World} (Sh:Ao w w1/\ w1.heap.size=w.heap.size)
 (ho: ∀ M ρ',BU (MS N S.h ρ) w ρ M (w1.alloc (.cells cs t)) ρ' -> Dx P M (w1.alloc (.cells cs t)) ρ' (EC w cs.size) o)
 (hv: ∀ M ρ',ρ'[S.h.length]? =some (EC w cs.size) -> AM M (w1.alloc (.cells cs t)) d ρ' v) (ext:Bool):
 CW P Γ N S.h ρ w ext d (S.h++[some o]) v (w1.alloc (.cells cs t)):=by
 have hE:Ao w (w1.alloc (.cells cs t)):=Sh.1.allocR _;have hf: ∀ b,(EC w cs.size).foot b -> w.heap.size<=b:=fun b hb=>Nat.le_of_eq (Eq.symm hb)
 have hb:(w1.alloc (.cells cs t)).heap[w.heap.size]? =some (.cells cs t (0,0)):=by rw [←Sh.2];exact zEt w1 _
 refine ⟨⟨ρ++[EC w cs.size],H.snoc hE (fun b hx=>⟨hf b hx,.cells (c:=cs) (t:=t) (z:=(0,0)) (by rw [show b=w.heap.size from hx];exact hb)⟩) (ho _ _ (BU.snoc H hE hf)),?_,A6.snoc H hE hf,fun k p hk=>EV hk⟩,fun _=>hE⟩;exact hv _ _ (by rw [←H.len];simp)
theorem M6 {cs:Array Value} {t:TypeId} {w1:World} (hs:w1.heap.size=w.heap.size) {n:Nat} {R:Nat -> Value -> Prop} (hn:n<=cs.size) (hR: ∀ j,j<n -> ∃ u,cs[j]? =some u/\ R j u):AZ (w1.alloc (.cells cs t)) (EC w cs.size) n R:=by
 refine ⟨rfl,cs,t,?_,by simpa [EC] using hn,zAm _,fun j hj=>by simpa [EC] using hR j hj⟩
 show (w1.alloc (.cells cs t)).heap[w.heap.size]? =_
 rw [←hs];exact zEt w1 _
theorem zCy (R:AT P Γ N S ρ a w) {x:Operand} {t:TypeId} {l:List DV} (h:Ie (AX S.fr x)=some l) (o:Oper) (ho:o.op= .box t x) (ext:Bool):
 BK P (execOp a.eval o) w (CW P Γ N S.h ρ w ext (.ref S.h.length 0) (S.h++[some (.cells l)])):=by
 obtain ⟨h1,h2⟩:=Ti h (Bh R x);refine BK.value (s:=Instr.box t (a.eval x)) (by unfold execOp;rw [ho]) (v:=.pointer (some ⟨w.heap.size,0,none⟩)) (w':=w.alloc (.cells (a.eval x).cells t)) ?_ ?_
 ·rfl
 ·refine Pr (d:=.ref S.h.length 0) R.hr ⟨Ao.refl w,rfl⟩ (fun M ρ' O=>?_) (fun M ρ' hp=>⟨_,hp,rfl⟩) ext;refine M6 rfl (by omega) fun j hj=>?_
  obtain ⟨u,g1,g2⟩:=h2 j hj;exact ⟨u,g1,g2.out _ O⟩
theorem zDW (R:AT P Γ N S ρ a w) {t:TypeId} {i:TypeInfo} {z:Value} (hi:P.info? t=some i) (hz:i.zero=some z) (o:Oper) (ho:o.op= .alloc t) (ext:Bool):
 BK P (execOp a.eval o) w (CW P Γ N S.h ρ w ext (.ref S.h.length 0) (S.h++[some (.cells (z.cells.toList.map GD))])):=by
 refine BK.value (s:=Instr.alloc t true (.tuple #[])) (by unfold execOp;rw [ho]) (v:=.pointer (some ⟨w.heap.size,0,none⟩)) (w':=w.alloc (.cells z.cells t)) ?_ ?_
 ·simp [Instr.alloc,zeroValue,typeInfo,hi,hz,newVar,newRow,newObj];rfl
 ·refine Pr (d:=.ref S.h.length 0) R.hr ⟨Ao.refl w,rfl⟩ (fun M ρ' O=>?_) (fun M ρ' hp=>⟨_,hp,rfl⟩) ext;refine M6 rfl (by simp) fun j hj=>?_
  have BT:j<z.cells.size:=by simpa using hj
  refine ⟨z.cells[j],by simp [BT],?_⟩;have:(z.cells.toList.map GD).getD j .any=GD z.cells[j]:=by simp [BT]
  rw [this];exact Vk _
def mE:Value -> Bool
 | .bool false=>true
 | _=>false
def Xw (z:Value):Bool:=decide (2<z.cells.size)&&z.cells.toList.all mE
theorem zDX (R:AT P Γ N S ρ a w) {t:TypeId} {i:TypeInfo} {z:Value} (hi:P.info? t=some i) (hz:i.zero=some z) (hb:Xw z=true) (o:Oper) (ho:o.op= .alloc t) (ext:Bool):
 BK P (execOp a.eval o) w (CW P Γ N S.h ρ w ext (.mp S.h.length 1 0 0) (S.h++[some (.bools (List.replicate z.cells.size false))])):=by
 refine BK.value (s:=Instr.alloc t true (.tuple #[])) (by unfold execOp;rw [ho]) (v:=.pointer (some ⟨w.heap.size,0,none⟩)) (w':=w.alloc (.cells z.cells t)) ?_ ?_
 ·simp [Instr.alloc,zeroValue,typeInfo,hi,hz,newVar,newRow,newObj];rfl
 ·refine Pr (d:=.mp S.h.length 1 0 0) R.hr ⟨Ao.refl w,rfl⟩ (fun M ρ' O=>?_) (fun M ρ' hp=>⟨_,hp,rfl⟩) ext;refine M6 rfl (by simp) fun j hj=>?_
  have BT:j<z.cells.size:=by simpa using hj
  refine ⟨z.cells[j],by simp [BT],?_⟩;simp only [Xw,zAL,zAW] at hb;have:=hb.2 z.cells[j] (by simp);unfold mE at this;split at this
  ·rename_i e;rw [e];simp [BT]
  ·cases this
inductive EK where
 | ints
 | bools
 | gen (m:Nat)
def Jb (P:Program) (t:TypeId):Option (EK×TypeId×TypeInfo×Value):=match P.underlying t with
 | some (.slice e)=>match P.info? e with
  | some i=>match i.zero with
   | some z=>if i.size=0 then none else if z.cells.size≠i.size then none else match P.underlying e with
    | some (.int .i64)=>if i.size=1 then (match z with | .int .i64 0=>some (.ints,e,i,z) | _=>none) else none
    | some .bool=>if i.size=1 then (match z with | .bool false=>some (.bools,e,i,z) | _=>none) else none
    | _=>some (.gen i.size,e,i,z)
   | none=>none
  | none=>none
 | _=>none
def EK.cells:EK -> Nat
 | .ints=>1
 | .bools=>1
 | .gen m=>m
theorem TZ {t:TypeId} {k:EK} {e:TypeId} {i:TypeInfo} {z:Value} (h:Jb P t=some (k,e,i,z)):P.underlying t=some (.slice e)/\ P.info? e=some i/\ i.zero=some z/\ i.size≠0/\ z.cells.size=i.size/\ k.cells=i.size/\
 (k= .ints -> z= .int .i64 0)/\ (k= .bools -> z= .bool false):=by
 unfold Jb at h
 repeat' (split at h)
 all_goals first
  | (cases h;done)
  | skip
 all_goals
  simp only [zC5,zD1] at h;obtain ⟨rfl,rfl,rfl,rfl⟩:=h;refine ⟨by assumption,by assumption,by assumption,by assumption,by simp_all,?_,?_,?_⟩
  ·simp_all [EK.cells]
  ·intro hk;first | rfl | cases hk
  ·intro hk;first | rfl | cases hk
theorem bX {s:Nat} (hs:0<s): ∀ (vs:List Value),(∀ v∈vs,v.cells.size=s) -> ∀ i j,i<vs.length -> j<s -> (vs.flatMap fun v=>v.cells.toList)[i*s+j]? =(vs[i]?).bind (fun v=>v.cells[j]?)
 | [],_,i,j,hi,_=>absurd hi (zAf i)
 | v::vs,hv,i,j,hi,hj=>by
  have Hr:v.cells.toList.length=s:=by simpa using hv v (by simp)
  rw [zFk];cases i with
  | zero=>rw [Nat.zero_mul,zAj,zAX (by omega)];simp
  | succ i=>
   rw [zAb (by rw [Hr,zFj];omega),Hr,show (i+1)*s+j-s=i*s+j by rw [zFj];omega];rw [bX hs vs (fun v h=>hv v (by simp [h])) i j (by simpa using hi) hj];simp
def Hp:DV -> Int
 | .int _ n=>n
 | _=>0
def Tw:DV -> Bool
 | .bool b=>b
 | _=>false
def KM:DV -> Bool
 | .int .i64 _=>true
 | _=>false
def aB:DV -> Bool
 | .bool _=>true
 | _=>false
def QM (k:EK) (ds:List DV):Option DO:=match k with
 | .ints=>if ds.all KM then some (.ints (ds.map Hp)) else none
 | .bools=>if ds.all aB then some (.bools (ds.map Tw)) else none
 | .gen m=>if ds.all fun d=>(match Ie d with | some l=>l.length==m&&l.all PA | none=>false) then
  some (.arr m ds.length (fun i j=>match Ie (ds.getD i .any) with | some l=>l.getD j .any | none=>.any)) else none
theorem Z9 {M:Nat -> Prop} {d:DV} {v:Value} (h:KM d=true) (hr:AM M w d ρ v):v= .int .i64 (Hp d):=by
 unfold KM at h;split at h
 ·exact hr
 ·cases h
theorem wV {M:Nat -> Prop} {d:DV} {v:Value} (h:aB d=true) (hr:AM M w d ρ v):v= .bool (Tw d):=by
 unfold aB at h;split at h
 ·exact hr
 ·cases h
theorem zCx {M:Nat -> Prop} {k:EK} {ds:List DV} {o:DO} {vs:List Value} (hk:0<k.cells) (h:QM k ds=some o) (hl:vs.length=ds.length) (hv: ∀ i,i<ds.length -> AM M w (ds.getD i .any) ρ (vs.getD i undef)):
 (∀ v∈vs,v.cells.size=k.cells)/\ ∀ M' (w':World) ρ',BU M w ρ M' w' ρ' -> ∀ (cs:Array Value) (t:TypeId) (p:AI),cs.toList=(vs.flatMap fun v=>v.cells.toList) -> AZ w' p (ds.length*k.cells) (fun j u=>cs[j]? =some u) -> Dx P M' w' ρ' p o:=by
 have one: ∀ {j:Nat},k.cells=1 -> j<ds.length*k.cells -> (∀ v∈vs,v.cells.size=k.cells) -> ∀ {u},(vs.flatMap fun v=>v.cells.toList)[j]? =some u -> (vs[j]?).bind (fun v=>v.cells[0]?)=some u:=fun {j} h1 hj hs {u} hu=>by
  rw [h1] at hj hs;have:=bX (s:=1) (by omega) vs hs j 0 (by omega) (by omega);rw [zD4,zEp] at this;rw [←this];exact hu
 have mem: ∀ v∈vs,∃ i,i<ds.length/\ v=vs.getD i undef/\ vs[i]? =some v:=fun v hv=>by
  obtain ⟨i,hi,rfl⟩:=zEN hv;exact ⟨i,by omega,by simp [hi],by simp [hi]⟩
 have cD: ∀ i,i<ds.length -> ds.getD i .any∈ds:=fun i hi=>by simp [hi]
 cases k with
 | ints=>
  simp only [QM] at h;split at h
  ·rename_i ha;cases h;have hI: ∀ i,i<ds.length -> vs.getD i undef= .int .i64 (Hp (ds.getD i .any)):=fun i hi=>Z9 (zAW.1 ha _ (cD i hi)) (hv i hi)
   have hs: ∀ v∈vs,v.cells.size=EK.ints.cells:=fun v Ni=>by obtain ⟨i,hi,e,_⟩:=mem v Ni;rw [e,hI i hi];rfl
   refine ⟨hs,fun M' w' ρ' O cs t p DU hr=>?_⟩;have hn:ds.length*EK.ints.cells=(ds.map Hp).length:=by simp [EK.cells]
   rw [hn] at hr;refine AZ.out hr rfl fun j u hj hu=>?_
   have BT:j<ds.length:=by simpa using hj
   have h2:=one rfl (by simpa [EK.cells] using BT) hs (u:=u) (by rw [←DU];simpa using hu);rw [zAQ (by omega)] at h2;have h3:=hI j BT;have h4:vs.getD j undef=vs[j]:=by simp [hl,BT]
   rw [h4] at h3;simp only [zAA,h3] at h2;have:u=Value.int .i64 (Hp (ds.getD j .any)):=by simpa [Value.cells] using h2.symm
   rw [this];simp [BT]
  ·cases h
 | bools=>
  simp only [QM] at h;split at h
  ·rename_i ha;cases h;have hI: ∀ i,i<ds.length -> vs.getD i undef= .bool (Tw (ds.getD i .any)):=fun i hi=>wV (zAW.1 ha _ (cD i hi)) (hv i hi)
   have hs: ∀ v∈vs,v.cells.size=EK.bools.cells:=fun v Ni=>by obtain ⟨i,hi,e,_⟩:=mem v Ni;rw [e,hI i hi];rfl
   refine ⟨hs,fun M' w' ρ' O cs t p DU hr=>?_⟩;have hn:ds.length*EK.bools.cells=(ds.map Tw).length:=by simp [EK.cells]
   rw [hn] at hr;refine AZ.out hr rfl fun j u hj hu=>?_
   have BT:j<ds.length:=by simpa using hj
   have h2:=one rfl (by simpa [EK.cells] using BT) hs (u:=u) (by rw [←DU];simpa using hu);rw [zAQ (by omega)] at h2;have h3:=hI j BT;have h4:vs.getD j undef=vs[j]:=by simp [hl,BT]
   rw [h4] at h3;simp only [zAA,h3] at h2;have:u=Value.bool (Tw (ds.getD j .any)):=by simpa [Value.cells] using h2.symm
   rw [this];simp [BT]
  ·cases h
 | gen m=>
  simp only [QM] at h;split at h
  ·rename_i ha;cases h;have hm:0<m:=hk
   have hI: ∀ i,i<ds.length -> ∃ l,Ie (ds.getD i .any)=some l/\ l.length=m/\ (∀ d∈l,PA d=true):=fun i hi=>by
    have:=zAW.1 ha _ (cD i hi);split at this
    ·rename_i l hl;simp only [zAL,zDw] at this;exact ⟨l,hl,this.1,fun d hd=>zAW.1 this.2 d hd⟩
    ·cases this
   have hs: ∀ v∈vs,v.cells.size=(EK.gen m).cells:=fun v Ni=>by
    obtain ⟨i,hi,e,_⟩:=mem v Ni;obtain ⟨l,h1,h2,_⟩:=hI i hi;rw [e,(Ti h1 (hv i hi)).1,h2];rfl
   refine ⟨hs,fun M' w' ρ' O cs t p DU hr=>?_⟩;refine AZ.out hr rfl fun j u hj hu=>?_
   have zu:j<ds.length*m:=hj;have hi:j/m<ds.length:=by rw [zEw hm];exact zu
   have hc:j % m<m:=zGA _ hm;obtain ⟨l,h1,h2,h3⟩:=hI (j/m) hi;have h4:=bX (s:=m) hm vs hs (j/m) (j % m) (by omega) hc;rw [show j/m*m+j % m=j by rw [zEm];exact Nat.div_add_mod j m] at h4;obtain ⟨_,h5⟩:=Ti h1 (hv (j/m) hi);obtain ⟨u',g1,g2⟩:=h5 (j % m) (by omega);have h6:vs.getD (j/m) undef=vs[j/m]'(by omega):=by simp [hl,hi]
   have AN:j/m<vs.length:=by omega
   rw [zAQ AN] at h4;rw [h6] at g1
   have:u=u':=by
    have Br:(vs.flatMap fun v=>v.cells.toList)[j]? =some u:=by rw [←DU];simpa using hu
    rw [h4] at Br;simp only [zAA] at Br;rw [g1] at Br;exact (zAU Br).symm
   subst this;simp only [h1];refine AM.out _ O.nil (ZK (h3 _ ?_) g2);simp [h2,hc]
  ·cases h
theorem Yw {cs:Array Value} {t:TypeId} {w1:World} (hs:w1.heap.size=w.heap.size) {n:Nat} (hn:cs.size=n):AZ (w1.alloc (.cells cs t)) (EC w n) n (fun j u=>cs[j]? =some u):=by
 subst hn;exact M6 hs (zAm _) fun j hj=>⟨cs[j],by simp [hj],by simp [hj]⟩
def XN (parts:List (Nat×Operand)) (len:Nat):Bool:=parts.map (·.1)==List.range len
theorem zB1 {parts:List (Nat×Operand)} {len:Nat} (h:XN parts len=true) (f:Operand -> Value):parts.length=len/\ (parts.map fun x=>(x.1,f x.2))=((parts.map fun x=>f x.2).zipIdx 0).map fun x=>(x.2,x.1):=by
 simp only [XN,zDw] at h;have hl:parts.length=len:=by have:=congrArg List.length h;simpa using this
 refine ⟨hl,List.ext_getElem? fun i=>?_⟩
 by_cases hi:i<parts.length
 ·have h1:parts[i].1=i:=by
   have h2:=congrArg (fun l:List Nat=>l[i]?) h;have h3:(List.range len)[i]? =some i:=zFW (by omega);simp only [zA1,zAQ hi,zBV,h3] at h2;exact zAU h2
  simp [hi,h1]
 ·rw [zEJ (by simpa using hi),zEJ (by simpa using hi)]
theorem zCw (R:AT P Γ N S ρ a w) {t:TypeId} {len:Nat} {parts:Array (Nat×Operand)} {k:EK} {e:TypeId} {i:TypeInfo} {z:Value} {ob:DO} (hk:Jb P t=some (k,e,i,z)) (hd:XN parts.toList len=true) (Ap:len<=65536/\ k.cells<=64)
 (hb:QM k (parts.toList.map fun x=>AX S.fr x.2)=some ob) (o:Oper) (ho:o.op= .buildSlice t len parts) (ext:Bool):
 BK P (execOp a.eval o) w (CW P Γ N S.h ρ w ext (.msl S.h.length k.cells 0 len) (S.h++[some ob])):=by
 obtain ⟨hu,hi,hz,h0,Ce,EG,_,_⟩:=TZ hk;obtain ⟨Eu,xx⟩:=zB1 hd a.eval;have zl:=Ap.1;have zk:=Ap.2;have Hx:0<k.cells:=by omega
 obtain ⟨hs,KW⟩:=zCx (w:=w) (M:=MS N S.h ρ) (ρ:=ρ) (vs:=parts.toList.map fun x=>a.eval x.2) Hx hb (by simp) (fun j hj=>by
  have BT:j<parts.toList.length:=by simpa using hj
  have:=Bh R parts.toList[j].2;simp only [u8,zA1,zAQ BT,zBV,zEY];exact this)
 have Gb:(parts.toList.map fun x=>a.eval x.2).length=len:=by simpa using Eu
 have A4:((parts.toList.map fun x=>a.eval x.2).flatMap fun v=>v.cells.toList).toArray.size=len*k.cells:=by
  have: ∀ (l:List Value),(∀ v∈l,v.cells.size=k.cells) -> (l.flatMap fun v=>v.cells.toList).length=l.length*k.cells:=by
   intro l
   induction l with
   | nil=>intro _;simp
   | cons v l ih=>intro h;rw [zFk,zAh,ih (fun v hv=>h v (by simp [hv])),zDl,zFj];have:=h v (by simp);simp [this];omega
  simp only [zEz];rw [this _ hs,Gb]
 refine BK.value (s:=Instr.buildSlice t len (parts.map fun (i,x)=>(i,a.eval x))) (by unfold execOp;rw [ho]) (v:=.slice (some ⟨w.heap.size,0,none⟩) len len) (w':=w.alloc (.cells ((parts.toList.map fun x=>a.eval x.2).flatMap fun v=>v.cells.toList).toArray e)) ?_ ?_
 ·have xc: ¬ len*i.size>2 ^ 24:=by
   have:len*i.size<=65536*64:=Nat.mul_le_mul zl (by omega);omega
  by_cases ay:len=0
  ·subst ay
   have hp:parts= #[]:=by
    have:parts.toList= []:=zEO Eu;cases parts;simp at this;simp [this]
   subst hp;have Et:Array.map (fun (x:Nat)=>(default:Value)) (Array.range 0)= #[]:=by simp [Array.range_zero']
   simp [Instr.buildSlice,zDq hu,sizeOf,typeInfo,hi,newRow,Instr.fill,Array.range_zero']
  ·have za: ¬ len*i.size=0:=by rw [Nat.mul_eq_zero];omega
   refine run_buildSlice w t e len _ _ i z hu hi hz xc za ?_;have e1:(parts.map fun (i,x)=>(i,a.eval x)).toList=parts.toList.map fun x=>(x.1,a.eval x.2):=by simp
   rw [e1,xx];exact Great.fill_whole (s:=i.size) (by omega) _ _ (fun v hv=>by rw [hs v hv,EG]) (by rw [Gb,Array.size_map,Array.size_range])
 ·have:=Pr (d:=.msl S.h.length k.cells 0 len) (o:=ob) (v:=.slice (some ⟨w.heap.size,0,none⟩) len len) (cs:=((parts.toList.map fun x=>a.eval x.2).flatMap fun v=>v.cells.toList).toArray) (t:=e) R.hr ⟨Ao.refl w,rfl⟩
   (fun M ρ' O=>KW _ _ _ O ((parts.toList.map fun x=>a.eval x.2).flatMap fun v=>v.cells.toList).toArray e _ rfl (by rw [A4,zAn,Eu];exact Yw (w:=w) (w1:=w) (t:=e) rfl A4))
   (fun M ρ' hp=>⟨_,len,hp,by simp [EC],zAm _,by unfold LB;omega,by simp only [EC];rw [A4];omega⟩) ext
  exact this
def jH (k:EK) (n:Nat) (z:Value):DO:=match k with
 | .ints=>.ints (List.replicate n 0)
 | .bools=>.bools (List.replicate n false)
 | .gen m=>.arr m n (fun _ j=>(z.cells.toList.map GD).getD j .any)
theorem vC (R:AT P Γ N S ρ a w) {t:TypeId} {x y:Operand} {k:EK} {e:TypeId} {i:TypeInfo} {z:Value} {kx ky:IntKind} {n:Int} (hk:Jb P t=some (k,e,i,z)) (hx:AX S.fr x= .int kx n) (hy:AX S.fr y= .int ky n)
 (hn:0<=n/\ n<=1000000000000) (Dh:i.bytes<=128) (o:Oper) (ho:o.op= .makeSlice t x y) (ext:Bool):
 BK P (execOp a.eval o) w (CW P Γ N S.h ρ w ext (.msl S.h.length k.cells 0 n.toNat) (S.h++[some (jH k n.toNat z)])):=by
 obtain ⟨hu,hi,hz,h0,Ce,EG,xA,aN⟩:=TZ hk;have GK:=hn.1;have GJ:=hn.2;have rx:=Bh R x;have ry:=Bh R y;rw [hx] at rx;rw [hy] at ry;have DU:(madeCells z.cells (n.toNat*i.size)).size=n.toNat*k.cells:=by rw [size_madeCells,EG]
 refine BK.value (s:=Instr.makeSlice t (a.eval x) (a.eval y)) (by unfold execOp;rw [ho]) (v:=.slice (some ⟨w.heap.size,0,none⟩) n.toNat n.toNat) (w':=w.alloc (.cells (madeCells z.cells (n.toNat*i.size)) e)) ?_ ?_
 ·rw [show a.eval x=_ from rx,show a.eval y=_ from ry];refine run_make w t e i z hu hi hz kx ky n n GK (zER _) ?_ (by omega);have:(i.bytes:Int)*n<=128*1000000000000:=Int.mul_le_mul (by omega) GJ GK (by omega);omega
 ·refine Pr (d:=.msl S.h.length k.cells 0 n.toNat) R.hr ⟨Ao.refl w,rfl⟩ (fun M ρ' O=>?_) (fun M ρ' hp=>⟨_,n.toNat,hp,by simp [EC],zAm _,by unfold LB;omega,by simp only [EC];rw [DU];omega⟩) ext;have hr:=Yw (w:=w) (w1:=w) (t:=e) rfl DU;rw [DU]
  have C9: ∀ j u,j<n.toNat*k.cells -> (madeCells z.cells (n.toNat*i.size))[j]? =some u -> z.cells[j % z.cells.size]? =some u:=by
   intro j u hj Br;have AN:j % z.cells.size<z.cells.size:=zGA _ (by omega);simp only [madeCells] at Br;have BT:j<n.toNat*i.size:=by rw [←EG];exact hj
   simp [BT] at Br;rw [←Br];simp [AN]
  cases k with
  | ints=>
   have Sd:=xA rfl;subst Sd
   show AZ _ _ (List.replicate n.toNat (0:Int)).length _
   rw [zAe];simp only [EK.cells,zD4] at hr C9 ⊢;refine AZ.out hr rfl fun j u hj Br=>?_
   have:=C9 j u hj Br;have e1:j % (Value.cells (.int .i64 0)).size=0:=by simp [Value.cells,Nat.mod_one]
   rw [e1] at this;simp [Value.cells] at this;rw [←this];simp [hj]
  | bools=>
   have Sd:=aN rfl;subst Sd
   show AZ _ _ (List.replicate n.toNat false).length _
   rw [zAe];simp only [EK.cells,zD4] at hr C9 ⊢;refine AZ.out hr rfl fun j u hj Br=>?_
   have:=C9 j u hj Br;have e1:j % (Value.cells (.bool false)).size=0:=by simp [Value.cells,Nat.mod_one]
   rw [e1] at this;simp [Value.cells] at this;rw [←this];simp [hj]
  | gen m=>
   refine AZ.out hr rfl fun j u hj Br=>?_
   have h1:=C9 j u hj Br;have hm:m=z.cells.size:=by rw [Ce];exact EG
   have h2:j % m<z.cells.toList.length:=by rw [hm];simpa using zGA _ (by omega)
   have h3:(z.cells.toList.map GD).getD (j % m) .any=GD u:=by
    rw [u8,zA1];have:z.cells.toList[j % m]? =some u:=by rw [←h1,hm];simp
    rw [this];rfl
   show AM M _ ((z.cells.toList.map GD).getD (j % m) .any) [] u
   rw [h3];exact Vk u
end
end Go.Proofs.YtkjbblkieglmlaaGreatDoor
namespace Go.Proofs.YtkjbblkieglmlaaGreatDoor
abbrev zEI:=@List.nil_append
abbrev zES:=@Array.getElem?_append_left
abbrev zEx:=@Array.getElem?_modify
abbrev zFB:=@List.foldl_cons
abbrev zFI:=@List.length_range
abbrev zFr:=@List.getElem?_toArray
end Go.Proofs.YtkjbblkieglmlaaGreatDoor
namespace Go.Proofs.YtkjbblkieglmlaaGreatDoor
open Go.RowKit
section
variable {P:Program} {Γ:Aq} {N:Nat -> Prop} {S:St} {ρ:List AI} {a:Act} {w:World} {h:DH}
theorem Pi (b:Nat) (t:TypeId) (z:Nat×Nat): ∀ (vs:List Value) (o:Nat) (w:World) (Ei:Array Value),w.heap[b]? =some (.cells Ei t z) -> o+vs.length<=Ei.size ->
 ∃ Tj,(w.setCells b o vs).heap[b]? =some (.cells Tj t z)/\ Tj.size=Ei.size/\ ∀ k,Tj[k]? =if o<=k/\ k<o+vs.length then vs[k-o]? else Ei[k]?
 | [],o,w,Ei,hb,_=>⟨Ei,hb,rfl,fun k=>by rw [zAZ];simp only [zD9];omega⟩
 | v::vs,o,w,Ei,hb,hl=>by
  have Ew:o+(vs.length+1)<=Ei.size:=hl;obtain ⟨Tj,h1,h2,h3⟩:=Pi b t z vs (o+1) (w.setCell ⟨b,o,none⟩ v) (Ei.setIfInBounds o v) (by simp [World.setCell,zEx,hb]) (by simp;omega);refine ⟨Tj,h1,by simpa using h2,fun k=>?_⟩;rw [h3 k,zDl]
  by_cases e:k=o
  ·subst e;rw [zAZ (by omega),zAB (by omega),zD0,zAB rfl,zAB (by omega),Nat.sub_self];rfl
  ·by_cases e2:o+1<=k/\ k<o+1+vs.length
   ·rw [zAB e2,zAB (by omega),show k-o=(k-(o+1))+1 by omega];simp
   ·rw [zAZ e2,zAZ (by omega)];rw [zD0,zAZ (by omega)]
theorem Oj (b:Nat): ∀ (vs:List Value) (o:Nat) (w:World),AP (fun k=>k=b) w (w.setCells b o vs)
 | [],_,w=>AP.refl _ w
 | v::vs,o,w=>((AP.refl (fun k=>k=b) w).setCell (p:=⟨b,o,none⟩) (fun _=>rfl) v).trans (Oj b vs (o+1) (w.setCell ⟨b,o,none⟩ v))
theorem AZ.writes {p:AI} {n:Nat} {R R':Nat -> Value -> Prop} (hr:AZ w p n R) {o:Nat} {vs:List Value} (hl:o+vs.length<=n) (h1: ∀ i v,vs[i]? =some v -> R' (o+i) v)
 (h2: ∀ i u,i<n -> (i<o∨o+vs.length<=i) -> R i u -> R' i u):AZ (w.setCells p.blk (p.off+o) vs) p n R':=by
 obtain ⟨g1,cs,t,g2,g3,g4,g5⟩:=hr;obtain ⟨EJ,e1,e2,e3⟩:=Pi p.blk t (0,0) vs (p.off+o) w cs g2 (by omega);refine ⟨g1,EJ,t,e1,by omega,by omega,fun j hj=>?_⟩;rw [e3]
 by_cases e:p.off+o<=p.off+j/\ p.off+j<p.off+o+vs.length
 ·rw [zAB e];have hi:p.off+j-(p.off+o)<vs.length:=by omega
  refine ⟨vs[p.off+j-(p.off+o)],by simp [hi],?_⟩;have:=h1 (p.off+j-(p.off+o)) _ (by simp [hi]:vs[p.off+j-(p.off+o)]? =some vs[p.off+j-(p.off+o)])
  rwa [show o+(p.off+j-(p.off+o))=j by omega] at this
 ·rw [zAZ e];obtain ⟨u,e4,e5⟩:=g5 j hj;exact ⟨u,e4,h2 j u hj (by omega) e5⟩
def Mt (l:List DV) (o:Nat) (ds:List DV):List DV:=(ds.zipIdx).foldl (fun cs x=>cs.set (o+x.2) x.1) l
theorem YW: ∀ (ds:List DV) (k o:Nat) (l:List DV),((ds.zipIdx k).foldl (fun cs x=>cs.set (o+x.2) x.1) l).length=l.length/\
 ∀ j,j<l.length -> ((ds.zipIdx k).foldl (fun cs x=>cs.set (o+x.2) x.1) l).getD j .any=if o+k<=j/\ j<o+k+ds.length then ds.getD (j-(o+k)) .any else l.getD j .any
 | [],k,o,l=>⟨rfl,fun j _=>by
  rw [zAZ]
  ·rfl
  ·simp only [zD9];omega⟩
 | d::ds,k,o,l=>by
  obtain ⟨h1,h2⟩:=YW ds (k+1) o (l.set (o+k) d);rw [List.zipIdx_cons,zFB];refine ⟨by rw [h1];simp,fun j hj=>?_⟩;rw [h2 j (by simpa using hj),zDl]
  by_cases e:j=o+k
  ·subst e;rw [zAZ (by omega),zAB (by omega)];simp [hj]
  ·by_cases e2:o+(k+1)<=j/\ j<o+(k+1)+ds.length
   ·rw [zAB e2,zAB (by omega),show j-(o+k)=(j-(o+(k+1)))+1 by omega];simp
   ·rw [zAZ e2,zAZ (by omega)];simp only [u8,zAo];rw [zAZ (by omega)]
theorem YU (l:List DV) (o:Nat) (ds:List DV):(Mt l o ds).length=l.length:=(YW ds 0 o l).1
theorem YX (l:List DV) (o:Nat) (ds:List DV) {j:Nat} (hj:j<l.length):(Mt l o ds).getD j .any=if o<=j/\ j<o+ds.length then ds.getD (j-o) .any else l.getD j .any:=by
 have:=(YW ds 0 o l).2 j hj;simpa [Mt] using this
def Mo (P:Program) (S:St) (t:TypeId) (x d:DV):Option (DH×Prop):=match x with
 | .ref k j=>match S.h[k]? with
  | some (some (.cells l))=>match Ie d with
   | some ds=>if P.info? t |>.any (fun i=>i.size==ds.length) then (if ds.all IN&&decide (j+ds.length<=l.length) then some (S.h.set k (some (.cells (Mt l j ds))),True) else none) else none
   | none=>none
  | _=>none
 | .mp k m i j=>if P.info? t |>.any (fun i=>i.size==1) then match S.h[k]? with
  | some (some (.ints l))=>match d with
   | .int .i64 n=>if m==1&&j==0 then some (S.h.set k (some (.ints (l.set i n))),i<l.length) else none
   | _=>none
  | some (some (.bools l))=>match d with
   | .bool b=>if m==1&&j==0 then some (S.h.set k (some (.bools (l.set i b))),i<l.length) else none
   | _=>none
  | some (some (.arr m' n f))=>if PA d&&(m==m')&&decide (j<m) then some (S.h.set k (some (.arr m n (fun i' j'=>if i'=i/\ j'=j then d else f i' j'))),i<n) else none
  | _=>none
  else none
 | _=>none
theorem tv {d:DV} (h:PA d=true):IN d=true:=by cases d <;> first | rfl | cases h
theorem Yr {t:TypeId} {i:TypeInfo} {b o:Nat} {v:Value} (hi:P.info? t=some i) (hs:v.cells.size=i.size) (hc: ∀ j,j<v.cells.size -> (w.cell? ⟨b,o+j,none⟩).isSome=true) (hf: ∀ j,w.frozen? ⟨b,j,none⟩=false) (h1: ∀ u∈v.cells.toList,u.oneCell'=true):
 (Instr.storeAt t (.pointer (some ⟨b,o,none⟩)) v).run P w= .ok () (w.setCells b o v.cells.toList):=by
 have Df:=run_storeCells_cells (P:=P) b o v.cells.toList 0 w (by simpa using hc) (by simpa using fun j _=>hf _) h1;simp only [zEp] at Df;simp [Instr.storeAt,Instr.sureAddr,storeVar,Iu hi,hs,Df]
theorem lY {α:Type} {l:List α} {i:Nat} {x d:α} (h:l[i]? =some x):l.getD i d=x:=by rw [u8,h];rfl
theorem Uj (R:AT P Γ N S ρ a w) {k:Nat} {ob ob':DO} {p:AI} (hk:S.h[k]? =some (some ob)) (hp:ρ[k]? =some p) {n:Nat} {Rw:Nat -> Value -> Prop} (hr:AZ w p n Rw) {o':Nat} {v:Value} {t:TypeId} {i:TypeInfo}
 (hi:P.info? t=some i) (hs:v.cells.size=i.size) (hl:o'+v.cells.size<=n) (h1: ∀ u∈v.cells.toList,u.oneCell'=true)
 (Hy: ∀ M ρ' w',BU (MS N S.h ρ) w ρ M w' ρ' -> w'=w.setCells p.blk (p.off+o') v.cells.toList -> Dx P M w' ρ' p ob')
 (o:Oper) (tx x:Operand) (ho:o.op= .store t tx x) (hx:a.eval tx= .pointer (some ⟨p.blk,p.off+o',none⟩)) (hv:a.eval x=v):
 BK P (execOp a.eval o) w (CW P Γ N S.h ρ w false .any (S.h.set k (some ob'))):=by
 have Ex:p.foot=fun b=>b=p.blk:=hr.1
 have hu:AP p.foot w (w.setCells p.blk (p.off+o') v.cells.toList):=by rw [Ex];exact Oj _ _ _ _
 refine BK.skip (s:=Instr.storeAt t (a.eval tx) (a.eval x)) (by unfold execOp;rw [ho]) (w':=w.setCells p.blk (p.off+o') v.cells.toList) ?_ ?_
 ·rw [hx,hv];refine Yr hi hs (fun j hj=>?_) (fun j=>hr.frozen j) h1;obtain ⟨u,hc,_⟩:=hr.cell (j:=o'+j) (by omega);rw [zDy,hc];rfl
 ·have C9: ∀ b,p.foot b -> Da (w.setCells p.blk (p.off+o') v.cells.toList) b:=fun b hb=>by
   rw [Ex] at hb;obtain ⟨_,cs,t',g2,g3,_⟩:=hr;obtain ⟨c,e1,_⟩:=Pi p.blk t' (0,0) v.cells.toList (p.off+o') w cs g2 (by simp;omega);exact .cells (c:=c) (t:=t') (z:=(0,0)) (by rw [show b=p.blk from hb];exact e1)
  exact ⟨⟨ρ,R.hr.write hk hp hu C9 (Hy _ _ _ (BU.write trivial hk hp hu) rfl),trivial,A6.write hk hp hu,fun _ _ h=>h⟩,fun h=>by cases h⟩
theorem fK (R:AT P Γ N S ρ a w) {t:TypeId} {tx x:Operand} {h':DH} {vc:Prop} (hd:Mo P S t (AX S.fr tx) (AX S.fr x)=some (h',vc)) (hv:vc) (o:Oper) (ho:o.op= .store t tx x):
 BK P (execOp a.eval o) w (CW P Γ N S.h ρ w false .any h'):=by
 have rx:=Bh R tx;have rv:=Bh R x;unfold Mo at hd;split at hd
 ·rename_i k j e;rw [e] at rx;obtain ⟨p,hp,hx⟩:=rx;split at hd
  ·rename_i l hk;obtain ⟨p',BD,hr⟩:=R.hr.obj k _ hk;have e:p'=p:=zAU (BD.symm.trans hp);subst e;split at hd
   ·rename_i ds D7;split at hd
    ·rename_i A3;split at hd
     ·rename_i hc;cases hd;simp only [zAL,zBg] at hc;cases hi:P.info? t with
      | none=>rw [hi] at A3;cases A3
      | some i=>
       rw [hi] at A3;have PZ:i.size=ds.length:=by simpa using A3
       obtain ⟨c1,c2⟩:=Ti D7 rv
       have zb: ∀ u∈(a.eval x).cells.toList,u.oneCell'=true:=fun u hu=>by
        obtain ⟨q,hq,rfl⟩:=zEN hu;have Lo:q<ds.length:=by rw [←c1];simpa using hq
        obtain ⟨u,g1,g2⟩:=c2 q Lo;have h3:=zAW.1 hc.1 (ds.getD q .any) (by simp [Lo]);have h4:=(Vh h3 g2).1
        have:(a.eval x).cells.toList[q]=u:=by
         have Ge:q<(a.eval x).cells.size:=by simpa using hq
         rw [zAq Ge] at g1;simpa using zAU g1
        rw [this];exact h4
       refine Uj R hk hp hr hi (by omega) (o':=j) (by omega) zb (fun M ρ' w' O Nh=>?_) o tx x ho hx rfl;subst Nh
       show AZ _ _ (Mt l j ds).length _
       rw [YU];refine AZ.writes hr (by simp;omega) (fun q v hq=>?_) (fun q u hq Ge hu=>?_)
       ·have kK:q<(a.eval x).cells.size:=by have:=(zAV.1 hq).1;simpa using this
        have Lo:q<ds.length:=by omega
        obtain ⟨u,g1,g2⟩:=c2 q Lo
        have:u=v:=by
         have:(a.eval x).cells[q]? =some v:=by simpa using hq
         rw [this] at g1;exact (zAU g1).symm
        subst this;rw [YX l j ds (by omega),zAB (by omega),show j+q-j=q by omega];exact g2.out _ O
       ·rw [YX l j ds hq,zAZ (by simp at Ge;omega)];exact hu.out _ O
     ·cases hd
    ·cases hd
   ·cases hd
  ·cases hd
 ·rename_i k m i j e;rw [e] at rx;obtain ⟨p,hp,hx⟩:=rx;split at hd
  ·rename_i A3;cases hi:P.info? t with
   | none=>rw [hi] at A3;cases A3
   | some ti=>
    rw [hi] at A3;have PZ:ti.size=1:=by simpa using A3
    split at hd
    ·rename_i l hk;obtain ⟨p',BD,hr⟩:=R.hr.obj k _ hk;have e:p'=p:=zAU (BD.symm.trans hp);subst e;split at hd
     ·rename_i n ed;split at hd
      ·rename_i hm;cases hd;simp only [zAL,zDw] at hm;obtain ⟨rfl,rfl⟩:=hm;rw [ed] at rv;have Yo:a.eval x= .int .i64 n:=rv;refine Uj R hk hp hr hi (v:=.int .i64 n) (by rw [PZ];rfl) (o':=i) (by simp [Value.cells];omega) (by simp [Value.cells,Value.oneCell']) (fun M ρ' w' O Nh=>?_) o tx x ho (by simpa using hx) Yo;subst Nh
       show AZ _ _ (l.set i n).length _
       rw [zAl];refine AZ.writes hr (by simp [Value.cells];omega) (fun q v hq=>?_) (fun q u hq Ge hu=>?_)
       ·have:q=0:=by have:=(zAV.1 hq).1;simpa [Value.cells] using this
        subst this;have:v= .int .i64 n:=by simpa [Value.cells] using hq.symm
        rw [this];have EE:i<l.length:=hv;simp [EE]
       ·rw [hu];simp only [Value.cells,zDl,zD9] at Ge;rw [u8,u8,zAo,zAZ (by simp at Ge;omega)]
      ·cases hd
     ·cases hd
    ·rename_i l hk;obtain ⟨p',BD,hr⟩:=R.hr.obj k _ hk;have e:p'=p:=zAU (BD.symm.trans hp);subst e;split at hd
     ·rename_i n ed;split at hd
      ·rename_i hm;cases hd;simp only [zAL,zDw] at hm;obtain ⟨rfl,rfl⟩:=hm;rw [ed] at rv;have Yo:a.eval x= .bool n:=rv;refine Uj R hk hp hr hi (v:=.bool n) (by rw [PZ];rfl) (o':=i) (by simp [Value.cells];omega) (by simp [Value.cells,Value.oneCell']) (fun M ρ' w' O Nh=>?_) o tx x ho (by simpa using hx) Yo;subst Nh
       show AZ _ _ (l.set i n).length _
       rw [zAl];refine AZ.writes hr (by simp [Value.cells];omega) (fun q v hq=>?_) (fun q u hq Ge hu=>?_)
       ·have:q=0:=by have:=(zAV.1 hq).1;simpa [Value.cells] using this
        subst this;have:v= .bool n:=by simpa [Value.cells] using hq.symm
        rw [this];have EE:i<l.length:=hv;simp [EE]
       ·rw [hu];simp only [Value.cells,zDl,zD9] at Ge;rw [u8,u8,zAo,zAZ (by simp at Ge;omega)]
      ·cases hd
     ·cases hd
    ·rename_i m' n f hk;obtain ⟨p',BD,hr⟩:=R.hr.obj k _ hk;have e:p'=p:=zAU (BD.symm.trans hp);subst e;split at hd
     ·rename_i hm;cases hd;simp only [zAL,zDw,zBg] at hm;obtain ⟨⟨Eu,rfl⟩,hj⟩:=hm;have EE:i<n:=hv;obtain ⟨o1,o2⟩:=Vh (tv Eu) rv
      have aJ:i*m+j<n*m:=by
       have:(i+1)*m<=n*m:=zEX _ EE;rw [zFj] at this;omega
      have AD:0<m:=by omega
      refine Uj R hk hp hr hi (v:=a.eval x) (by rw [PZ,o2];rfl) (o':=i*m+j) (by rw [o2];simp;omega) (by rw [o2];simp [o1]) (fun M ρ' w' O Nh=>?_) o tx x ho hx rfl;subst Nh;refine AZ.writes hr (by rw [o2];simp;omega) (fun q v hq=>?_) (fun q u hq Ge hu=>?_)
      ·rw [o2] at hq;have:q=0:=by have:=(zAV.1 hq).1;simpa using this
       subst this;have:v=a.eval x:=by simpa using hq.symm
       rw [this,zEp];have e1:(i*m+j)/m=i:=by rw [zEm,Nat.mul_add_div AD,Nat.div_eq_of_lt hj,zEp]
       have e2:(i*m+j) % m=j:=by rw [zEm,Nat.mul_add_mod,zFQ hj]
       show AM M _ (if (i*m+j)/m=i/\ (i*m+j) % m=j then AX S.fr x else f ((i*m+j)/m) ((i*m+j) % m)) [] _
       rw [zAB ⟨e1,e2⟩];exact AM.out _ O.nil (ZK Eu rv)
      ·rw [o2] at Ge;simp at Ge
       have: ¬ (q/m=i/\ q % m=j):=fun ⟨e1,e2⟩=>by
        have:=Nat.div_add_mod q m;rw [e1,e2,zEm] at this;omega
       show AM M _ (if q/m=i/\ q % m=j then AX S.fr x else f (q/m) (q % m)) [] _
       rw [zAZ this];exact AM.out _ O.nil hu
     ·cases hd
    ·cases hd
  ·cases hd
 ·cases hd
theorem MO.kill {k:Nat} {b:Nat} (hb:MO (h.set k none) ρ b):MO h ρ b:=MO.unset hb
theorem Fs {k i:Nat} {o:DO} (hi:(h.set k none)[i]? =some (some o)):i≠k/\ h[i]? =some (some o):=by
 rw [zAo] at hi
 by_cases e:k=i
 ·rw [zAB e] at hi;split at hi <;> cases hi
 ·rw [zAZ e] at hi;exact ⟨zFP e,hi⟩
theorem A1.kill (H:A1 P Γ N h ρ w) (k:Nat):A1 P Γ N (h.set k none) ρ w:=by
 have O:BU (MS N h ρ) w ρ (MS N (h.set k none) ρ) w ρ:=⟨fun _ _ _ _=>rfl,fun b hb=>.inl (hb.imp id MO.kill),fun _ _ h=>h⟩;refine ⟨by simp [H.len],fun i o hi=>?_,fun i o p b h1 h2 h3=>H.cel i o p b (Fs h1).2 h2 h3,fun i i' o o' p p' b Ak h1 h2 h3 h4 h5 h6=>H.dis i i' o o' p p' b Ak (Fs h1).2 (Fs h2).2 h3 h4 h5 h6,H.nlt,H.gi⟩;obtain ⟨p,hp,hr⟩:=H.obj i o (Fs hi).2;exact ⟨p,hp,hr.out O (S:=fun _=>False) (AP.refl _ w) (fun _ h=>h.elim) (fun _ _ _ h=>h)⟩
theorem BU.kill (k:Nat):BU (MS N h ρ) w ρ (MS N (h.set k none) ρ) w ρ:=⟨fun _ _ _ _=>rfl,fun b hb=>.inl (hb.imp id MO.kill),fun _ _ h=>h⟩
theorem A6.kill (k:Nat):A6 h ρ w (h.set k none) ρ w:=⟨AP.refl _ w,fun b hb=>.inl (MO.kill hb)⟩
theorem A1.regrow (H:A1 P Γ N h ρ w) {w':World} {k:Nat} {o o':DO} {p p':AI} (hk:h[k]? =some (some o)) (hp:ρ[k]? =some p) (hu:AP p.foot w w') (hf: ∀ b,p'.foot b -> (p.foot b∨w.heap.size<=b)/\ Da w' b)
 (ho:Dx P (MS N (h.set k none++[some o']) (ρ++[p'])) w' (ρ++[p']) p' o'):
 A1 P Γ N (h.set k none++[some o']) (ρ++[p']) w'/\ A6 h ρ w (h.set k none++[some o']) (ρ++[p']) w':=by
 have K:=H.kill k;have Ap:(h.set k none).length=h.length:=by simp
 have hM: ∀ b,p.foot b -> MO h ρ b:=fun b hb=>⟨k,o,p,hk,hp,hb⟩
 have IS: ∀ {i:Nat} {o1:DO} {p1:AI},(h.set k none++[some o'])[i]? =some (some o1) -> (ρ++[p'])[i]? =some p1 -> (i≠k/\ i<h.length/\ h[i]? =some (some o1)/\ ρ[i]? =some p1)∨(i=h.length/\ o1=o'/\ p1=p'):=by
  intro i o1 p1 h1 h2;rcases Di h1 with ⟨hl,h1⟩ | ⟨hl,h1⟩
  ·rw [Ap] at hl;rcases Di h2 with ⟨_,h2⟩ | ⟨Cf,_⟩
   ·exact .inl ⟨(Fs h1).1,hl,(Fs h1).2,h2⟩
   ·rw [H.len] at Cf;omega
  ·rw [Ap] at hl;rcases Di h2 with ⟨Cf,_⟩ | ⟨_,h2⟩
   ·rw [H.len] at Cf;omega
   ·cases h1;exact .inr ⟨hl,rfl,h2.symm⟩
 have grow: ∀ b,MO (h.set k none++[some o']) (ρ++[p']) b -> MO h ρ b∨w.heap.size<=b:=by
  rintro b ⟨i,o1,p1,h1,h2,h3⟩;rcases IS h1 h2 with ⟨_,_,g1,g2⟩ | ⟨_,_,rfl⟩
  ·exact .inl ⟨i,o1,p1,g1,g2,h3⟩
  ·exact (hf b h3).1.imp (hM b) id
 have O:BU (MS N h ρ) w ρ (MS N (h.set k none++[some o']) (ρ++[p'])) w' (ρ++[p']):=by
  refine ⟨fun b hb hm _=>hu.block b hb fun hx=>hm (.inr (hM b hx)),fun b hb=>?_,fun i q hi=>EV hi⟩;rcases hb with hb | hb
  ·exact .inl (.inl hb)
  ·exact (grow b hb).imp .inr id
 refine ⟨⟨by simp [H.len],fun i o1 hi=>?_,fun i o1 p1 b h1 h2 h3=>?_,fun i i' o1 o2 p1 p2 b Ak h1 h2 h3 h4 h5 h6=>?_,fun b hb=>⟨zAY (H.nlt b hb).1 hu.size,(H.nlt b hb).2⟩,Γ.st _ _ H.gi (hu.mono fun b _ hb=>(H.cel k o p b hk hp hb).1)⟩,⟨hu.mono fun b _ hb=>hM b hb,grow⟩⟩
 ·rcases Di hi with ⟨hl,hi⟩ | ⟨hl,hi⟩
  ·obtain ⟨p1,Lp,hr⟩:=H.obj i o1 (Fs hi).2;refine ⟨p1,EV Lp,hr.out O hu (fun b hb=>.inr (hM b hb)) fun b _ h1 h2=>H.dis i k o1 o p1 p b (Fs hi).1 (Fs hi).2 hk Lp hp h1 h2⟩
  ·cases hi;exact ⟨p',by rw [hl,Ap,←H.len];simp,ho⟩
 ·rcases IS h1 h2 with ⟨Ak,_,g1,g2⟩ | ⟨_,_,rfl⟩
  ·obtain ⟨e1,e2,c,t,z,e3⟩:=H.cel i o1 p1 b g1 g2 h3;exact ⟨e1,e2,c,t,z,(hu.block b (zAJ.1 e3).1 fun hx=>H.dis i k o1 o p1 p b Ak g1 hk g2 hp h3 hx).trans e3⟩
  ·obtain ⟨e1,e2⟩:=hf b h3;rcases e1 with e1 | e1
   ·obtain ⟨q1,q2,_⟩:=H.cel k o p b hk hp e1;exact ⟨q1,q2,e2⟩
   ·exact ⟨zAk (Γ.lo _ H.gi) e1,fun hn=>by have:=H.nlt b hn;omega,e2⟩
 ·have key: ∀ {i o1 p1},i≠k -> h[i]? =some (some o1) -> ρ[i]? =some p1 -> p1.foot b -> p'.foot b -> False:=fun {i o1 p1} Ak g1 g2 g3 g4=>by
   rcases (hf b g4).1 with e1 | e1
   ·exact H.dis i k o1 o p1 p b Ak g1 hk g2 hp g3 e1
   ·have:=H.lt (.inr ⟨i,o1,p1,g1,g2,g3⟩);omega
  rcases IS h1 h3 with ⟨Sr,_,g1,g2⟩ | ⟨e1,_,rfl⟩
  ·rcases IS h2 h4 with ⟨_,_,g3,g4⟩ | ⟨_,_,rfl⟩
   ·exact H.dis i i' o1 o2 p1 p2 b Ak g1 g3 g2 g4 h5 h6
   ·exact key Sr g1 g2 h5 h6
  ·rcases IS h2 h4 with ⟨Nr,_,g3,g4⟩ | ⟨e2,_,rfl⟩
   ·exact key Nr g3 g4 h6 h5
   ·exact Ak (e1.trans e2.symm)
def H5 (n:Nat) (R:Nat -> Value -> Prop) (Bx:List Value) (j:Nat) (u:Value):Prop:=if j<n then R j u else Bx[j-n]? =some u
theorem cm {t ty e:TypeId} {i:TypeInfo} {z:Value} (hu:P.underlying t=some (.slice e)) (hi:P.info? e=some i) (hz:i.zero=some z) (Nn:i.size≠0) (Ce:z.cells.size=i.size) (Dh:i.bytes<=128)
 {p:AI} {n cap:Nat} {R:Nat -> Value -> Prop} (hr:AZ w p (n*i.size) R) (Lz:n<=cap) (WR:p.off+cap*i.size<=p.room)
 {vy:Value} {c:Nat} {Bx:List Value} (hy:Src P i.size t vy c Bx w) (hb:n+c<=1000000000000):
 ∃ w' p' B1,(Builtin.append_ #[t,t] ty #[.slice (some ⟨p.blk,p.off,none⟩) n cap,vy]).run P w= .ok (.slice (some ⟨p'.blk,p'.off,none⟩) (n+c) B1) w'/\ n+c<=B1/\ p'.off+B1*i.size<=p'.room/\
  AP p.foot w w'/\ (∀ b,p'.foot b -> p.foot b∨w.heap.size<=b)/\ AZ w' p' ((n+c)*i.size) (H5 (n*i.size) R Bx):=by
 have JK:Bx.length=c*i.size:=hy.newsLen
 by_cases aY:n+c<=cap
 ·obtain ⟨g1,cs,tt,g2,g3,g4,g5⟩:=hr;have zg:(n+c)*i.size<=cap*i.size:=zEX _ aY;rw [zEn] at zg;have ku:p.off+n*i.size+Bx.length<=cs.size:=by omega
  refine ⟨w.setCells p.blk (p.off+n*i.size) Bx,p,cap,run_append_room_src w t t ty e i hu hi p.blk p.off n cap vy c Bx hy aY (fun j hj=>?_) (fun j _=>by unfold World.frozen?;simp [g2]),aY,WR,?_,fun b hb=>.inl hb,?_⟩
  ·unfold World.cell?;simp only [g2];simp;omega
  ·rw [g1];exact Oj _ _ _ _
  ·obtain ⟨EJ,e1,e2,e3⟩:=Pi p.blk tt (0,0) Bx (p.off+n*i.size) w cs g2 ku;refine ⟨g1,EJ,tt,e1,by rw [zEn];omega,by omega,fun j hj=>?_⟩;rw [zEn] at hj;rw [e3]
   by_cases Kc:j<n*i.size
   ·rw [zAZ (by omega)];obtain ⟨u,q1,q2⟩:=g5 j Kc;exact ⟨u,q1,by unfold H5;rw [zAB Kc];exact q2⟩
   ·rw [zAB (by omega)];have AN:j-n*i.size<Bx.length:=by omega
    refine ⟨Bx[j-n*i.size],by rw [show p.off+j-(p.off+n*i.size)=j-n*i.size by omega];simp [AN],?_⟩;unfold H5;rw [zAZ Kc];simp [AN]
 ·obtain ⟨g,hg⟩: ∃ g:Nat -> Value,∀ j,j<n*i.size -> w.cell? ⟨p.blk,p.off+j,none⟩=some (g j)/\ R j (g j):=by
   refine ⟨fun j=>(w.cell? ⟨p.blk,p.off+j,none⟩).getD undef,fun j hj=>?_⟩;obtain ⟨u,h1,h2⟩:=hr.cell hj;simp [h1,h2]
  have Lr:(Builtin.firstCells i.size n (.slice (some ⟨p.blk,p.off,none⟩) n cap)).run P w.drew= .ok (((List.range (n*i.size)).map g).toArray) w.drew:=by
   have:=run_loadCells (P:=P) w.drew ⟨p.blk,p.off,none⟩ (n*i.size) g (fun j hj=>by rw [Ij];exact ((Ao.toDrew w).cell (hg j hj).1));simpa [Builtin.firstCells] using this
  have zf:(n+c)*i.bytes<=1000000000000*128:=Nat.mul_le_mul hb Dh;have JH:=run_append_grow_src (P:=P) w t t ty e i z hu hi hz (some ⟨p.blk,p.off,none⟩) n cap _ Lr vy c Bx hy (by omega) (by omega) (growslice_fits (by omega) (by omega));have We:n+c<=grownCap w (n+c) cap e:=grownCap_ge w (n+c) cap e
  have DU:((((List.range (n*i.size)).map g)++Bx).toArray++Builtin.zeroCells z.cells (grownCap w (n+c) cap e-(n+c))).size=grownCap w (n+c) cap e*i.size:=by
   simp only [Array.size_append,zEz,zAh,zAn,zFI,JK,size_zeroCells,Ce,←zEn]
   congr 1;omega
  refine ⟨_,EC w (grownCap w (n+c) cap e*i.size),grownCap w (n+c) cap e,JH,We,by simp [EC],?_,fun b hb=>.inr (Nat.le_of_eq (Eq.symm hb)),?_⟩
  ·exact AP.ofExt ((Ao.toDrew w).allocR _)
  ·refine AZ.out (Yw (w:=w) (w1:=w.drew) (t:=e) (cs:=(((List.range (n*i.size)).map g)++Bx).toArray++Builtin.zeroCells z.cells (grownCap w (n+c) cap e-(n+c))) rfl DU |>fun hr=>?_) rfl (R:=fun j u=>((((List.range (n*i.size)).map g)++Bx).toArray++Builtin.zeroCells z.cells (grownCap w (n+c) cap e-(n+c)))[j]? =some u) fun j u hj Br=>?_
   ·obtain ⟨q1,cs,tt,q2,q3,q4,q5⟩:=hr;have DL:(n+c)*i.size<=grownCap w (n+c) cap e*i.size:=zEX _ We;exact ⟨q1,cs,tt,q2,by omega,q4,fun j hj=>q5 j (by omega)⟩
   ·rw [zEn] at hj;unfold H5;have Fb:j<(((List.range (n*i.size)).map g)++Bx).length:=by simp;omega
    rw [zES (by simpa using Fb)] at Br
    by_cases Kc:j<n*i.size
    ·rw [zAB Kc]
     have:u=g j:=by
      simp only [zFr] at Br;rw [zAX (by simpa using Kc)] at Br;simp [Kc] at Br;exact Br.symm
     rw [this];exact (hg j Kc).2
    ·rw [zAZ Kc];simp only [zFr] at Br;rw [zAb (by simp;omega)] at Br;simpa using Br
theorem cr (ad:Option Addr:=none) {t ty e:TypeId} {i:TypeInfo} {z:Value} (hu:P.underlying t=some (.slice e)) (hi:P.info? e=some i) (hz:i.zero=some z) (Ce:z.cells.size=i.size) (Dh:i.bytes<=128)
 {vy:Value} {c:Nat} {Bx:List Value} (hy:Src P i.size t vy c Bx w) (hc:0<c) (hb:c<=1000000000000):
 ∃ w' B1,(Builtin.append_ #[t,t] ty #[.slice ad 0 0,vy]).run P w= .ok (.slice (some ⟨w.heap.size,0,none⟩) c B1) w'/\ c<=B1/\ ∃ cs,w'=w.drew.alloc (.cells cs e)/\ cs.size=B1*i.size/\ ∀ j,j<c*i.size -> cs[j]? =Bx[j]? :=by
 have JK:Bx.length=c*i.size:=hy.newsLen;have Lr:(Builtin.firstCells i.size 0 (.slice ad 0 0)).run P w.drew= .ok (([]:List Value).toArray) w.drew:=by cases ad <;> simp [Builtin.firstCells,loadCells,loadCellsFrom]
 have zf:c*i.bytes<=1000000000000*128:=Nat.mul_le_mul hb Dh;have JH:=run_append_grow_src (P:=P) w t t ty e i z hu hi hz ad 0 0 [] Lr vy c Bx hy (by omega) (by omega) (growslice_fits (by omega) (by rw [zAj];omega));rw [zAj] at JH;have We:c<=grownCap w c 0 e:=grownCap_ge w c 0 e;refine ⟨_,_,JH,We,_,rfl,?_,fun j hj=>?_⟩
 ·simp only [zEI,Array.size_append,zEz,JK,size_zeroCells,Ce,←zEn]
  congr 1;omega
 ·rw [zES (by simp;omega)];simp
end
end Go.Proofs.YtkjbblkieglmlaaGreatDoor
namespace Go.Proofs.YtkjbblkieglmlaaGreatDoor
abbrev zEK:=@List.mem_map
abbrev zEq:=@Nat.le_of_not_lt
abbrev zE9:=@Nat.eq_zero_or_pos
end Go.Proofs.YtkjbblkieglmlaaGreatDoor
namespace Go.Proofs.YtkjbblkieglmlaaGreatDoor
open Go.RowKit
def KN (S:St):DV -> Option (List Int×Prop)
 | .nils=>some ([],True)
 | .ints l=>some (l,True)
 | .msl k m off n=>match S.h[k]? with
  | some (some (.ints l))=>if m==1 then some (l,off=0/\ n=l.length) else none
  | _=>none
 | _=>none
def OP (S:St):DV -> Option (List Bool×Prop)
 | .nils=>some ([],True)
 | .bools l=>some (l,True)
 | .msl k m off n=>match S.h[k]? with
  | some (some (.bools l))=>if m==1 then some (l,off=0/\ n=l.length) else none
  | _=>none
 | _=>none
def OA (S:St) (m:Nat):DV -> Option (Nat×(Nat -> Nat -> DV)×Prop)
 | .nils=>some (0,(fun _ _=>.any),True)
 | .sl m' n f=>if m'==m then some (n,f,True) else none
 | .msl k m' off n=>match S.h[k]? with
  | some (some (.arr m2 n2 f))=>if m'==m&&m2==m then some (n2,f,off=0/\ n=n2) else none
  | _=>none
 | _=>none
def BB:Nat:=1000000000000
def QR (P:Program) (S:St) (t:TypeId) (x y:DV):Option (DV×DH×Prop):=match Jb P t with
 | some (k,_,i,_)=>if 128<i.bytes then none else match k with
  | .ints=>match KN S y with
   | some (ys,vy)=>match x with
    | .nils=>some (.msl S.h.length 1 0 ys.length,S.h++[some (.ints ys)],vy/\ 0<ys.length/\ ys.length<=BB)
    | .msl k m off n=>match S.h[k]? with
     | some (some (.ints xs))=>if m==1 then some (.msl S.h.length 1 0 (xs.length+ys.length),S.h.set k none++[some (.ints (xs++ys))],vy/\ (off=0/\ n=xs.length)/\ xs.length+ys.length<=BB) else none
     | _=>none
    | _=>none
   | none=>none
  | .bools=>match OP S y with
   | some (ys,vy)=>match x with
    | .nils=>some (.msl S.h.length 1 0 ys.length,S.h++[some (.bools ys)],vy/\ 0<ys.length/\ ys.length<=BB)
    | .msl k m off n=>match S.h[k]? with
     | some (some (.bools xs))=>if m==1 then some (.msl S.h.length 1 0 (xs.length+ys.length),S.h.set k none++[some (.bools (xs++ys))],vy/\ (off=0/\ n=xs.length)/\ xs.length+ys.length<=BB) else none
     | _=>none
    | _=>none
   | none=>none
  | .gen m=>match OA S m y with
   | some (c,g,vy)=>match x with
    | .nils=>some (.msl S.h.length m 0 c,S.h++[some (.arr m c g)],(vy/\ ∀ i j,i<c -> j<m -> IN (g i j)=true)/\ 0<c/\ c<=BB)
    | .msl k m' off n=>match S.h[k]? with
     | some (some (.arr m2 n2 f))=>if m'==m&&m2==m then some (.msl S.h.length m 0 (n2+c),S.h.set k none++[some (.arr m (n2+c) (fun i j=>if i<n2 then f i j else g (i-n2) j))],(vy/\ ∀ i j,i<c -> j<m -> IN (g i j)=true)/\ (off=0/\ n=n2)/\ n2+c<=BB) else none
     | _=>none
    | _=>none
   | none=>none
 | none=>none
section
variable {P:Program} {Γ:Aq} {N:Nat -> Prop} {S:St} {ρ:List AI} {a:Act} {w:World} {h:DH}
theorem Qq {t e:TypeId} (hu:P.underlying t=some (.slice e)) {m:Nat} {ad:Option Addr} {c cap:Nat} {Bx:List Value} (hl:Bx.length=c*m) (hc: ∀ j u,Bx[j]? =some u -> ∃ b o,ad=some ⟨b,o,none⟩/\ w.cell? ⟨b,o+j,none⟩=some u)
 (h1: ∀ u∈Bx,u.oneCell'=true) (hm:0<m) (ar:ad=none -> c=0):Src P m t (.slice ad c cap) c Bx w:=by
 cases ad with
 | none=>
  have:=ar rfl;subst this;have:Bx= []:=zEO (by simpa using hl);subst this;exact Src.ofNil w hu cap
 | some ad=>
  refine Src.ofSlice w hu ad c cap Bx hl (fun j u hj=>?_) h1;obtain ⟨b,o,e1,e2⟩:=hc j u hj;cases e1;rw [Ij];exact e2
theorem SY (R:AT P Γ N S ρ a w) {t e:TypeId} (hu:P.underlying t=some (.slice e)) {y:DV} {v:Value} (hy:AM (MS N S.h ρ) w y ρ v) {ys:List Int} {vy:Prop} (h:KN S y=some (ys,vy)) (hv:vy):
 Src P 1 t v ys.length (ys.map (Value.int .i64)) w:=by
 have one: ∀ u∈ys.map (Value.int .i64),u.oneCell'=true:=fun u hu=>by obtain ⟨n,_,rfl⟩:=zEK.1 hu;rfl
 have val: ∀ {j:Nat} {u:Value},(ys.map (Value.int .i64))[j]? =some u -> j<ys.length/\ u= .int .i64 (ys.getD j 0):=fun {j u} hj=>by
  have AN:=(zAV.1 hj).1;have AN:j<ys.length:=by simpa using AN
  simp [AN] at hj;exact ⟨AN,by rw [←hj];simp [AN]⟩
 unfold KN at h;split at h
 ·cases h;rw [show v=_ from hy];exact Src.ofNil w hu 0
 ·cases h;obtain ⟨ad,cap,rfl,h1,h2,h3⟩:=hy;refine Qq hu (by simp) (fun j u hj=>?_) one (by omega) (fun e=>?_)
  ·obtain ⟨AN,rfl⟩:=val hj;obtain ⟨b,o,e1,_,e2⟩:=h3 j AN;exact ⟨b,o,e1,e2⟩
  ·rcases zE9 ys.length with h0 | h0
   ·exact h0
   ·obtain ⟨b,o,e1,_⟩:=h3 0 h0;rw [e] at e1;cases e1
 ·rename_i k m off n;obtain ⟨p,cap,hp,rfl,h1,h2,h3⟩:=hy;split at h
  ·rename_i l hk;split at h
   ·rename_i hm;cases h;have CS:m=1:=by simpa using hm
    subst CS;obtain ⟨p',BD,hr⟩:=R.hr.obj k _ hk;have e:p'=p:=zAU (BD.symm.trans hp);subst e;obtain ⟨rfl,rfl⟩:=hv;refine Qq hu (by simp) (fun j u hj=>?_) one (by omega) (fun e=>by cases e);obtain ⟨AN,rfl⟩:=val hj;obtain ⟨u,e1,e2⟩:=AZ.cell hr AN;exact ⟨p'.blk,p'.off,by simp,by rw [e1,e2]⟩
   ·cases h
  ·cases h
 ·cases h
theorem nF (R:AT P Γ N S ρ a w) {t e:TypeId} (hu:P.underlying t=some (.slice e)) {y:DV} {v:Value} (hy:AM (MS N S.h ρ) w y ρ v) {ys:List Bool} {vy:Prop} (h:OP S y=some (ys,vy)) (hv:vy):
 Src P 1 t v ys.length (ys.map Value.bool) w:=by
 have one: ∀ u∈ys.map Value.bool,u.oneCell'=true:=fun u hu=>by obtain ⟨n,_,rfl⟩:=zEK.1 hu;rfl
 have val: ∀ {j:Nat} {u:Value},(ys.map Value.bool)[j]? =some u -> j<ys.length/\ u= .bool (ys.getD j false):=fun {j u} hj=>by
  have AN:=(zAV.1 hj).1;have AN:j<ys.length:=by simpa using AN
  simp [AN] at hj;exact ⟨AN,by rw [←hj];simp [AN]⟩
 unfold OP at h;split at h
 ·cases h;rw [show v=_ from hy];exact Src.ofNil w hu 0
 ·cases h;obtain ⟨ad,cap,rfl,h1,h2,h3⟩:=hy;refine Qq hu (by simp) (fun j u hj=>?_) one (by omega) (fun e=>?_)
  ·obtain ⟨AN,rfl⟩:=val hj;obtain ⟨b,o,e1,_,e2⟩:=h3 j AN;exact ⟨b,o,e1,e2⟩
  ·rcases zE9 ys.length with h0 | h0
   ·exact h0
   ·obtain ⟨b,o,e1,_⟩:=h3 0 h0;rw [e] at e1;cases e1
 ·rename_i k m off n;obtain ⟨p,cap,hp,rfl,h1,h2,h3⟩:=hy;split at h
  ·rename_i l hk;split at h
   ·rename_i hm;cases h;have CS:m=1:=by simpa using hm
    subst CS;obtain ⟨p',BD,hr⟩:=R.hr.obj k _ hk;have e:p'=p:=zAU (BD.symm.trans hp);subst e;obtain ⟨rfl,rfl⟩:=hv;refine Qq hu (by simp) (fun j u hj=>?_) one (by omega) (fun e=>by cases e);obtain ⟨AN,rfl⟩:=val hj;obtain ⟨u,e1,e2⟩:=AZ.cell hr AN;exact ⟨p'.blk,p'.off,by simp,by rw [e1,e2]⟩
   ·cases h
  ·cases h
 ·cases h
theorem MD {ρ':Operand -> Value} {o:Oper} {c:Call} {x y:Operand} {t t2:TypeId} (ho:o.op= .call c) (hc:c.callee= .builtin .append) (ha:c.args.toList= [x,y]) (ht:c.argTypes.toList= [t,t2]):
 execOp ρ' o=(do pure (.value (←Builtin.append_ #[t,t2] o.type #[ρ' x,ρ' y]))):=by
 unfold execOp;rw [ho]
 show (resolve ρ' c o.type>>=fun d=>invoke d.target d.args)=_
 unfold resolve;rw [hc,UT ha,UT ht];simp;rfl
theorem cq (R:AT P Γ N S ρ a w) {t e:TypeId} {i:TypeInfo} {z:Value} (hu:P.underlying t=some (.slice e)) (hi:P.info? e=some i) (hz:i.zero=some z) (Nn:i.size≠0) (Ce:z.cells.size=i.size) (Dh:i.bytes<=128)
 {k:Nat} {ob ob':DO} {p:AI} (hk:S.h[k]? =some (some ob)) (hp:ρ[k]? =some p) {n cap c:Nat} {Rw:Nat -> Value -> Prop} (hr:AZ w p (n*i.size) Rw) (Lz:n<=cap) (WR:p.off+cap*i.size<=p.room)
 {vy:Value} {Bx:List Value} (hy:Src P i.size t vy c Bx w) (hb:n+c<=BB)
 (Hy: ∀ M ρ' w' p',BU (MS N S.h ρ) w ρ M w' ρ' -> AZ w' p' ((n+c)*i.size) (H5 (n*i.size) Rw Bx) -> Dx P M w' ρ' p' ob')
 (o:Oper) {cl:Call} {x y:Operand} (ho:o.op= .call cl) (hc:cl.callee= .builtin .append) (ha:cl.args.toList= [x,y]) (ht:cl.argTypes.toList= [t,t]) (hx:a.eval x= .slice (some ⟨p.blk,p.off,none⟩) n cap) (aR:a.eval y=vy):
 BK P (execOp a.eval o) w (CW P Γ N S.h ρ w false (.msl S.h.length i.size 0 (n+c)) (S.h.set k none++[some ob'])):=by
 obtain ⟨w',p',B1,h1,h2,h3,h4,h5,h6⟩:=cm (ty:=o.type) hu hi hz Nn Ce Dh hr Lz WR hy hb;refine BK.value (MD ho hc ha ht) (by rw [hx,aR];exact h1) ?_
 have zAM: ∀ b,p'.foot b -> Da w' b:=fun b hb=>by
  obtain ⟨e1,cs,tt,e2,_⟩:=h6;rw [e1] at hb;exact .cells (c:=cs) (t:=tt) (z:=(0,0)) (by rw [show b=p'.blk from hb];exact e2)
 have Ap:(S.h.set k none).length=S.h.length:=by simp
 have O:BU (MS N S.h ρ) w ρ (MS N (S.h.set k none++[some ob']) (ρ++[p'])) w' (ρ++[p']):=by
  refine ⟨fun b hb hm _=>h4.block b hb fun hx=>hm (.inr ⟨k,ob,p,hk,hp,hx⟩),fun b hb=>?_,fun i q hi=>EV hi⟩;rcases hb with hb | hb
  ·exact .inl (.inl hb)
  ·obtain ⟨i1,o1,p1,g1,g2,g3⟩:=hb;rcases Di g1 with ⟨hl,g1⟩ | ⟨hl,_⟩
   ·rcases Di g2 with ⟨_,g2⟩ | ⟨Cf,_⟩
    ·exact .inl (.inr ⟨i1,o1,p1,(Fs g1).2,g2,g3⟩)
    ·rw [Ap] at hl;rw [R.hr.len] at Cf;omega
   ·rcases Di g2 with ⟨Cf,_⟩ | ⟨_,rfl⟩
    ·rw [Ap] at hl;rw [R.hr.len] at Cf;omega
    ·exact (h5 b g3).imp (fun hx=>.inr ⟨k,ob,p,hk,hp,hx⟩) id
 obtain ⟨g1,g2⟩:=R.hr.regrow (o':=ob') hk hp h4 (fun b hb=>⟨h5 b hb,zAM b hb⟩) (Hy _ _ _ _ O h6);refine ⟨⟨ρ++[p'],g1,⟨p',B1,by rw [←R.hr.len];simp,by simp,h2,by unfold LB;unfold BB at hb;omega,by simpa using h3⟩,g2,fun _ _ h=>EV h⟩,fun h=>by cases h⟩
theorem ct (R:AT P Γ N S ρ a w) {t e:TypeId} {i:TypeInfo} {z:Value} (hu:P.underlying t=some (.slice e)) (hi:P.info? e=some i) (hz:i.zero=some z) (Ce:z.cells.size=i.size) (Dh:i.bytes<=128)
 {ob':DO} {c:Nat} {vy:Value} {Bx:List Value} (hy:Src P i.size t vy c Bx w) (N5:0<c) (hb:c<=BB)
 (Hy: ∀ M ρ' w' p',BU (MS N S.h ρ) w ρ M w' ρ' -> AZ w' p' (c*i.size) (fun j u=>Bx[j]? =some u) -> Dx P M w' ρ' p' ob') (ext:Bool)
 (o:Oper) {cl:Call} {x y:Operand} (ho:o.op= .call cl) (hc:cl.callee= .builtin .append) (ha:cl.args.toList= [x,y]) (ht:cl.argTypes.toList= [t,t]) (hx:a.eval x= .slice none 0 0) (aR:a.eval y=vy):
 BK P (execOp a.eval o) w (CW P Γ N S.h ρ w ext (.msl S.h.length i.size 0 c) (S.h++[some ob'])):=by
 obtain ⟨w',B1,h1,h2,cs,rfl,h4,h5⟩:=cr none (ty:=o.type) hu hi hz Ce Dh hy N5 hb;have JK:Bx.length=c*i.size:=hy.newsLen;refine BK.value (MD ho hc ha ht) (by rw [hx,aR];exact h1) ?_;have DL:c*i.size<=B1*i.size:=zEX _ h2;refine Pr (d:=.msl S.h.length i.size 0 c) R.hr ⟨Ao.toDrew w,rfl⟩ (fun M ρ' O=>Hy _ _ _ _ O ?_) (fun M ρ' hp=>⟨_,B1,hp,by simp [EC],h2,by unfold LB;unfold BB at hb;omega,by simp only [EC];omega⟩) ext;refine M6 rfl (by omega) fun j hj=>?_
 rw [h5 j hj];exact ⟨Bx[j],by simp [JK,hj],by simp [JK,hj]⟩
theorem aC {xs ys:List Int} {M:Nat -> Prop} {w':World} {ρ':List AI} {p':AI} {s:Nat} (hs:s=1) (h:AZ w' p' ((xs.length+ys.length)*s) (H5 (xs.length*s) (fun j u=>u= .int .i64 (xs.getD j 0)) (ys.map (Value.int .i64)))):Dx P M w' ρ' p' (.ints (xs++ys)):=by
 subst hs
 show AZ _ _ (xs++ys).length _
 rw [zAh];rw [zD4,zD4] at h;refine AZ.out h rfl fun j u hj hu=>?_
 unfold H5 at hu;split at hu
 ·rename_i AN;rw [hu];simp [u8,zAX AN]
 ·rename_i AN;have Gg:j-xs.length<ys.length:=by omega
  simp [Gg] at hu;rw [←hu];simp [u8,zAb (zEq AN),Gg]
theorem zCz {xs ys:List Bool} {M:Nat -> Prop} {w':World} {ρ':List AI} {p':AI} {s:Nat} (hs:s=1) (h:AZ w' p' ((xs.length+ys.length)*s) (H5 (xs.length*s) (fun j u=>u= .bool (xs.getD j false)) (ys.map Value.bool))):Dx P M w' ρ' p' (.bools (xs++ys)):=by
 subst hs
 show AZ _ _ (xs++ys).length _
 rw [zAh];rw [zD4,zD4] at h;refine AZ.out h rfl fun j u hj hu=>?_
 unfold H5 at hu;split at hu
 ·rename_i AN;rw [hu];simp [u8,zAX AN]
 ·rename_i AN;have Gg:j-xs.length<ys.length:=by omega
  simp [Gg] at hu;rw [←hu];simp [u8,zAb (zEq AN),Gg]
theorem ld (R:AT P Γ N S ρ a w) {t e:TypeId} (hu:P.underlying t=some (.slice e)) {y:DV} {v:Value} (hy:AM (MS N S.h ρ) w y ρ v) {m c:Nat} (AD:0<m) {g:Nat -> Nat -> DV} {vy:Prop} (h:OA S m y=some (c,g,vy)) (hv:vy)
 (h1: ∀ i j,i<c -> j<m -> IN (g i j)=true): ∃ Bx,Src P m t v c Bx w/\ ∀ j u,Bx[j]? =some u -> AM (MS N S.h ρ) w (g (j/m) (j % m)) [] u:=by
 have dm: ∀ {j:Nat},j<c*m -> j/m<c/\ j % m<m/\ j/m*m+j % m=j:=fun {j} hj=>⟨by rw [zEw AD];exact hj,zGA _ AD,by rw [zEm];exact Nat.div_add_mod j m⟩
 have cG: ∀ (ad:Option Addr) (cap:Nat),(∀ j,j<c*m -> ∃ b o u,ad=some ⟨b,o,none⟩/\ w.cell? ⟨b,o+j,none⟩=some u/\ AM (MS N S.h ρ) w (g (j/m) (j % m)) [] u) -> v= .slice ad c cap -> (ad=none -> c=0) ->
  ∃ Bx,Src P m t v c Bx w/\ ∀ j u,Bx[j]? =some u -> AM (MS N S.h ρ) w (g (j/m) (j % m)) [] u:=by
  intro ad cap hc xN ar
  obtain ⟨f,hf⟩: ∃ f:Nat -> Value,∀ j,j<c*m -> ∃ b o,ad=some ⟨b,o,none⟩/\ w.cell? ⟨b,o+j,none⟩=some (f j)/\ AM (MS N S.h ρ) w (g (j/m) (j % m)) [] (f j):=by
   refine ⟨fun j=>(match ad with | some a=>w.cell? ⟨a.block,a.off+j,none⟩ | none=>none).getD undef,fun j hj=>?_⟩;obtain ⟨b,o,u,rfl,e2,e3⟩:=hc j hj;exact ⟨b,o,rfl,by simp [e2],by simpa [e2] using e3⟩
  have val: ∀ {j:Nat} {u:Value},((List.range (c*m)).map f)[j]? =some u -> j<c*m/\ u=f j:=fun {j u} hj=>by
   have AN:=(zAV.1 hj).1;have AN:j<c*m:=by simpa using AN
   simp [AN] at hj;exact ⟨AN,hj.symm⟩
  refine ⟨(List.range (c*m)).map f,?_,fun j u hj=>?_⟩
  ·rw [xN];refine Qq hu (by simp) (fun j u hj=>?_) (fun u Br=>?_) AD ar
   ·obtain ⟨AN,rfl⟩:=val hj;obtain ⟨b,o,e1,e2,_⟩:=hf j AN;exact ⟨b,o,e1,e2⟩
   ·obtain ⟨j,hj,rfl⟩:=zEK.1 Br;have AN:=zAd.1 hj;obtain ⟨_,_,_,_,e3⟩:=hf j AN;exact (Vh (h1 _ _ (dm AN).1 (dm AN).2.1) e3).1
  ·obtain ⟨AN,rfl⟩:=val hj;obtain ⟨_,_,_,_,e3⟩:=hf j AN;exact e3
 unfold OA at h;split at h
 ·cases h;refine cG none 0 (fun j hj=>by rw [Nat.zero_mul] at hj;omega) hy (fun _=>rfl)
 ·rename_i m' n f;split at h
  ·rename_i hm;cases h;have CS:m'=m:=by simpa using hm
   subst CS;obtain ⟨ad,cap,rfl,g1,g2,g3⟩:=hy;refine cG ad cap (fun j hj=>?_) rfl (fun e=>?_)
   ·obtain ⟨b,o,u,e1,_,e2,e3⟩:=g3 _ _ (dm hj).1 (dm hj).2.1;exact ⟨b,o,u,e1,by rw [(dm hj).2.2] at e2;exact e2,e3⟩
   ·rcases zE9 c with h0 | h0
    ·exact h0
    ·obtain ⟨b,o,u,e1,_⟩:=g3 0 0 h0 AD;rw [e] at e1;cases e1
  ·cases h
 ·rename_i k m' off n;obtain ⟨p,cap,hp,rfl,g1,g2,g3⟩:=hy;split at h
  ·rename_i m2 n2 f hk;split at h
   ·rename_i hm;cases h;simp only [zAL,zDw] at hm;obtain ⟨rfl,rfl⟩:=hm;obtain ⟨p',BD,hr⟩:=R.hr.obj k _ hk;have e:p'=p:=zAU (BD.symm.trans hp);subst e;obtain ⟨rfl,rfl⟩:=hv;refine cG (some ⟨p'.blk,p'.off+0*m2,none⟩) cap (fun j hj=>?_) rfl (fun e=>by cases e);obtain ⟨u,e1,e2⟩:=AZ.cell hr hj;exact ⟨p'.blk,p'.off,u,by simp,e1,e2⟩
   ·cases h
  ·cases h
 ·cases h
theorem nY (R:AT P Γ N S ρ a w) {t:TypeId} {x y:Operand} {d:DV} {h':DH} {vc:Prop} (hd:QR P S t (AX S.fr x) (AX S.fr y)=some (d,h',vc)) (hv:vc) (o:Oper) {cl:Call} (ho:o.op= .call cl) (hc:cl.callee= .builtin .append)
 (ha:cl.args.toList= [x,y]) (ht:cl.argTypes.toList= [t,t]):BK P (execOp a.eval o) w (CW P Γ N S.h ρ w false d h'):=by
 have rx:=Bh R x;have ry:=Bh R y;unfold QR at hd;split at hd
 ·rename_i kk e i z hk;obtain ⟨hu,hi,hz,h0,Ce,EG,xq,Ge⟩:=TZ hk;clear xq Ge;split at hd
  ·cases hd
  ·rename_i Dh;have Po:i.bytes<=128:=by omega
   split at hd
   ·have Cp:i.size=1:=EG.symm;split at hd
    ·rename_i ys vy hy;split at hd
     ·rename_i ex;cases hd;rw [ex] at rx
      have:=ct (ob':=.ints ys) R hu hi hz Ce Po (by rw [Cp];exact SY R hu ry hy hv.1) hv.2.1 hv.2.2 (fun M ρ' w' p' O hr=>by
       have Cs:=hr;rw [Cp,zD4] at Cs;refine AZ.out Cs rfl fun j u hj Br=>?_
       simp [hj] at Br;rw [←Br];simp [hj]) false o ho hc ha ht rx rfl
      rw [Cp] at this;exact this
     ·rename_i k m off n ex;rw [ex] at rx;obtain ⟨p,cap,hp,hx,g1,g2,g3⟩:=rx;split at hd
      ·rename_i xs Lu;split at hd
       ·rename_i hm;cases hd;have CS:m=1:=by simpa using hm
        subst CS;obtain ⟨q1,⟨rfl,rfl⟩,q3⟩:=hv;obtain ⟨p',BD,hr⟩:=R.hr.obj k _ Lu;have e:p'=p:=zAU (BD.symm.trans hp);subst e
        have:=cq (ob':=.ints (xs++ys)) (n:=xs.length) (cap:=cap) (c:=ys.length) R hu hi hz h0 Ce Po Lu hp (Rw:=fun j u=>u= .int .i64 (xs.getD j 0)) (by rw [Cp,zD4];exact hr) g1 (by rw [Cp];simpa using g3) (by rw [Cp];exact SY R hu ry hy q1) q3
         (fun M ρ' w' p' O hr=>aC Cp hr) o ho hc ha ht (by simpa using hx) rfl
        rw [Cp] at this;exact this
       ·cases hd
      ·cases hd
     ·cases hd
    ·cases hd
   ·have Cp:i.size=1:=EG.symm;split at hd
    ·rename_i ys vy hy;split at hd
     ·rename_i ex;cases hd;rw [ex] at rx
      have:=ct (ob':=.bools ys) R hu hi hz Ce Po (by rw [Cp];exact nF R hu ry hy hv.1) hv.2.1 hv.2.2 (fun M ρ' w' p' O hr=>by
       have Cs:=hr;rw [Cp,zD4] at Cs;refine AZ.out Cs rfl fun j u hj Br=>?_
       simp [hj] at Br;rw [←Br];simp [hj]) false o ho hc ha ht rx rfl
      rw [Cp] at this;exact this
     ·rename_i k m off n ex;rw [ex] at rx;obtain ⟨p,cap,hp,hx,g1,g2,g3⟩:=rx;split at hd
      ·rename_i xs Lu;split at hd
       ·rename_i hm;cases hd;have CS:m=1:=by simpa using hm
        subst CS;obtain ⟨q1,⟨rfl,rfl⟩,q3⟩:=hv;obtain ⟨p',BD,hr⟩:=R.hr.obj k _ Lu;have e:p'=p:=zAU (BD.symm.trans hp);subst e
        have:=cq (ob':=.bools (xs++ys)) (n:=xs.length) (cap:=cap) (c:=ys.length) R hu hi hz h0 Ce Po Lu hp (Rw:=fun j u=>u= .bool (xs.getD j false)) (by rw [Cp,zD4];exact hr) g1 (by rw [Cp];simpa using g3) (by rw [Cp];exact nF R hu ry hy q1) q3
         (fun M ρ' w' p' O hr=>zCz Cp hr) o ho hc ha ht (by simpa using hx) rfl
        rw [Cp] at this;exact this
       ·cases hd
      ·cases hd
     ·cases hd
    ·cases hd
   ·rename_i m;have CU:i.size=m:=EG.symm;have AD:0<m:=by omega
    split at hd
    ·rename_i c g vy hy;split at hd
     ·rename_i ex;cases hd;rw [ex] at rx;obtain ⟨Bx,aV,av⟩:=ld R hu ry AD hy hv.1.1 hv.1.2
      have:=ct (ob':=.arr m c g) R hu hi hz Ce Po (by rw [CU];exact aV) hv.2.1 hv.2.2 (fun M ρ' w' p' O hr=>by
       rw [CU] at hr;exact AZ.out hr rfl fun j u hj Br=>AM.out _ O.nil (av j u Br)) false o ho hc ha ht rx rfl
      rw [CU] at this;exact this
     ·rename_i k m' off n ex;rw [ex] at rx;obtain ⟨p,cap,hp,hx,g1,g2,g3⟩:=rx;split at hd
      ·rename_i m2 n2 f Lu;split at hd
       ·rename_i hm;cases hd;simp only [zAL,zDw] at hm;obtain ⟨rfl,rfl⟩:=hm;obtain ⟨q1,⟨rfl,rfl⟩,q3⟩:=hv;obtain ⟨p',BD,hr⟩:=R.hr.obj k _ Lu;have e:p'=p:=zAU (BD.symm.trans hp);subst e;obtain ⟨Bx,aV,av⟩:=ld R hu ry AD hy q1.1 q1.2
        have:=cq (ob':=.arr m2 (n+c) (fun i j=>if i<n then f i j else g (i-n) j)) (n:=n) (cap:=cap) (c:=c) R hu hi hz h0 Ce Po Lu hp (Rw:=fun j u=>AM (MS N S.h ρ) w (f (j/m2) (j % m2)) [] u) (by rw [CU];exact hr) g1 (by rw [CU];simpa using g3) (by rw [CU];exact aV) q3
         (fun M ρ' w' p' O hr=>by
          rw [CU] at hr;refine AZ.out hr rfl fun j u hj Br=>?_
          show AM M w' (if j/m2<n then f (j/m2) (j % m2) else g (j/m2-n) (j % m2)) [] u
          unfold H5 at Br
          by_cases AN:j<n*m2
          ·rw [zAB AN] at Br;rw [zAB (by rw [zEw AD];exact AN)];exact AM.out _ O.nil Br
          ·rw [zAZ AN] at Br;rw [zAZ (by rw [zEw AD];exact AN)];have h1:=av _ _ Br;have e1:(j-n*m2)/m2=j/m2-n:=by rw [zEm n m2];exact Nat.sub_mul_div ..
           have e2:(j-n*m2) % m2=j % m2:=by
            have Gg:j=(j-n*m2)+n*m2:=by omega
            rw [Gg,Nat.add_mul_mod_self_right,Nat.add_sub_cancel]
           rw [e1,e2] at h1;exact AM.out _ O.nil h1) o ho hc ha ht (by simpa using hx) rfl
        rw [CU] at this;exact this
       ·cases hd
      ·cases hd
     ·cases hd
    ·cases hd
 ·cases hd
end
end Go.Proofs.YtkjbblkieglmlaaGreatDoor
namespace Go.Proofs.YtkjbblkieglmlaaGreatDoor
abbrev zD2:=@Bool.not_true
abbrev zD5:=@Bool.true_and
abbrev zD6:=@List.getElem?_take
abbrev zEQ:=@List.map_cons
abbrev zEZ:=@List.length_take
abbrev zEi:=@List.getElem?_drop
abbrev zFv:=@List.length_drop
abbrev zF4:=@Go.run_equalIn_int
end Go.Proofs.YtkjbblkieglmlaaGreatDoor
namespace Go.Proofs.YtkjbblkieglmlaaGreatDoor
open Go.RowKit
def XA (IK:Nat -> Option (Nat×Nat)) (cells:List DV):List (Nat×DV) -> Option (List DV)
 | []=>some cells
 | (i,d)::rest=>match IK i with
  | none=>none
  | some (off,size)=>match Ie d with
   | none=>none
   | some l=>if l.length=size/\ off+l.length<=cells.length then XA IK (Mt cells off l) rest else none
def ZL (P:Program) (t:TypeId):Option (Value×(Nat -> Option (Nat×Nat))):=match P.info? t with
 | some it=>match P.underlying t with
  | some (.array _ e)=>match it.zero with
   | some z=>match P.info? e with
    | some ie=>some (z,fun i=>some (i*ie.size,ie.size))
    | none=>none
   | none=>none
  | some (.struct zBP)=>match it.zero with
   | some z=>match zBP.toList.mapM (fun f=>(P.info? f.type).map fun i=>(f.offset,i.size)) with
    | some VO=>some (z,fun i=>VO.toArray[i]?)
    | none=>none
   | none=>none
  | _=>none
 | none=>none
def Vw (P:Program) (S:St) (t:TypeId) (parts:List (Nat×Operand)):Option (DV×Prop):=match ZL P t with
 | some (z,IK)=>match XA IK (z.cells.toList.map GD) (parts.map fun x=>(x.1,AX S.fr x.2)) with
  | some l=>some (.agg l.length (fun j=>l.getD j .any),True)
  | none=>none
 | none=>none
def NJ (P:Program) (t:TypeId) (m:Nat) (f:Nat -> DV) (off size:Nat):Option DV:=
 if off+size<=m then (if Fn P t then (if size=1 then some (f off) else none) else if UA P t size then some (.agg size (Fw size fun j=>f (off+j))) else none) else none
def Z8 (P:Program) (t:TypeId) (x:DV) (n:Int):Option (DV×Prop):=match x with
 | .agg m f=>match P.underlying t with
  | some (.array len e)=>match P.info? e with
   | some i=>if Fn P e&&i.size==1&&len==m then some (f n.toNat,0<=n/\ n<len) else none
   | none=>none
  | _=>none
 | _=>none
def W5 (P:Program) (t:TypeId) (x:DV) (fi:Nat):Option (DV×Prop):=match x with
 | .agg m f=>match P.underlying t with
  | some (.struct fs)=>match fs[fi]? with
   | some fd=>match P.info? fd.type with
    | some i=>match NJ P fd.type m f fd.offset i.size with
     | some d=>some (d,True)
     | none=>none
    | none=>none
   | none=>none
  | _=>none
 | _=>none
def cF (P:Program) (t:TypeId) (x:DV) (lo hi:Option Int):Option (DV×Prop):=match P.underlying t with
 | some (.slice e)=>match P.info? e with
  | some i=>match x with
   | .ints l=>if i.size=1 then some (.ints ((l.take (hi.getD l.length).toNat).drop (lo.getD 0).toNat),0<=lo.getD 0/\ lo.getD 0<=hi.getD l.length/\ hi.getD l.length<=l.length) else none
   | .bools l=>if i.size=1 then some (.bools ((l.take (hi.getD l.length).toNat).drop (lo.getD 0).toNat),0<=lo.getD 0/\ lo.getD 0<=hi.getD l.length/\ hi.getD l.length<=l.length) else none
   | .sl m n f=>if i.size=m then some (.sl m ((hi.getD n).toNat-(lo.getD 0).toNat) (fun i j=>f ((lo.getD 0).toNat+i) j),0<=lo.getD 0/\ lo.getD 0<=hi.getD n/\ hi.getD n<=n) else none
   | .msl k m off n=>if i.size=m then some (.mse k m (off+(lo.getD 0).toNat) ((hi.getD n).toNat-(lo.getD 0).toNat),0<=lo.getD 0/\ lo.getD 0<=hi.getD n/\ hi.getD n<=n) else none
   | _=>none
  | none=>none
 | _=>none
def V7 (S:St):Option Operand -> Option (Option Int)
 | none=>some none
 | some x=>match AX S.fr x with
  | .int _ n=>some (some n)
  | _=>none
def P9 (f g:Nat -> DV):List Nat -> Bool
 | []=>true
 | i::is=>(Hp (f i)==Hp (g i))&&P9 f g is
def XH (P:Program) (t:TypeId) (f g:Nat -> DV) (m m':Nat):Option (List Nat):=match P.underlying t with
 | some (.array n e)=>match P.info? e with
  | some i=>match P.underlying e with
   | some (.int _)=>if i.size==1&&Fn P e&&P.eqGuardType P.depth t==false&&n==m&&n==m'&&(List.range n).all (fun i=>KM (f i)&&KM (g i)) then some (List.range n) else none
   | _=>none
  | none=>none
 | _=>none
def TU (P:Program) (op:BinOp) (t:TypeId) (x y:DV):Option (DV×Prop):=match op,x,y with
 | .eql,.agg m f,.agg m' g=>match XH P t f g m m' with
  | some is=>some (.bool (P9 f g is),True)
  | none=>none
 | .neq,.agg m f,.agg m' g=>match XH P t f g m m' with
  | some is=>some (.bool (!(P9 f g is)),True)
  | none=>none
 | _,_,_=>none
def XW (P:Program) (t:TypeId):Bool:=match P.underlying t with
 | some (.interface _)=>false
 | some _=>true
 | none=>false
def cj (P:Program) (to:TypeId) (ok:Bool):DV -> Option DV
 | .cst (.iface t (.int k n))=>if t=to&&XW P to then some (if ok then .tup 2 (fun j=>[DV.int k n,.bool true].getD j .any) else .int k n) else none
 | .cst .nilIface=>if ok&&XW P to then match P.info? to with
  | some i=>match i.zero with
   | some (.int k n)=>some (.tup 2 (fun j=>[DV.int k n,.bool false].getD j .any))
   | _=>none
  | none=>none
  else none
 | _=>none
theorem zDH {P:Program} {M:Nat -> Prop} {w:World} {ρ:List AI} {xt to:TypeId} {ok:Bool} {d d':DV} {v:Value} (hr:AM M w d ρ v) (h:cj P to ok d=some d'): ∃ u,(∀ W,(Instr.typeAssert v xt to ok).run P W= .ok u W)/\ AM M w d' ρ u:=by
 have two: ∀ (k:IntKind) (n:Int) (b:Bool),AM M w (.tup 2 (fun j=>[DV.int k n,.bool b].getD j .any)) ρ (.tuple #[.int k n,.bool b]):=fun k n b=>⟨_,rfl,rfl,fun j hj=>match j,hj with
  | 0,_=>⟨_,rfl,rfl⟩
  | 1,_=>⟨_,rfl,rfl⟩
  | j+2,hj=>absurd hj (by omega)⟩
 unfold cj at h;split at h
 ·rename_i t k n;split at h
  ·rename_i hc;simp only [zAL,zBg] at hc;obtain ⟨rfl,hc⟩:=hc;obtain ⟨rfl,_⟩:=hr;unfold XW at hc;cases h;cases ok
   ·refine ⟨.int k n,fun W=>?_,rfl⟩;split at hc <;> first | (cases hc;done) | skip
    rename_i u GI hu;cases u <;> first | (exact absurd rfl (GI _)) | simp [Instr.typeAssert,zDq hu]
   ·refine ⟨.tuple #[.int k n,.bool true],fun W=>?_,two k n true⟩;split at hc <;> first | (cases hc;done) | skip
    rename_i u GI hu;cases u <;> first | (exact absurd rfl (GI _)) | simp [Instr.typeAssert,zDq hu]
  ·cases h
 ·split at h
  ·rename_i hc;simp only [zAL] at hc;obtain ⟨rfl,hc⟩:=hc;obtain ⟨rfl,_⟩:=hr;unfold XW at hc;split at h
   ·rename_i i hi;split at h
    ·rename_i k n hz;cases h;refine ⟨.tuple #[.int k n,.bool false],fun W=>?_,two k n false⟩;split at hc <;> first | (cases hc;done) | skip
     rename_i u GI hu;cases u <;> first | (exact absurd rfl (GI _)) | simp [Instr.typeAssert,zDq hu,zeroValue,typeInfo,hi,hz]
    ·cases h
   ·cases h
  ·cases h
 ·cases h
def Rk (P:Program) (S:St):Op -> Option (DV×Prop)
 | .typeAssert x _ to ok=>match cj P to ok (AX S.fr x) with
  | some d=>some (d,True)
  | none=>none
 | .build t parts=>Vw P S t parts.toList
 | .index t x i=>match AX S.fr i with
  | .int _ n=>Z8 P t (AX S.fr x) n
  | _=>none
 | .field t x f=>W5 P t (AX S.fr x) f
 | .slice t x lo hi none=>match V7 S lo with
  | some l=>match V7 S hi with
   | some h=>cF P t (AX S.fr x) l h
   | none=>none
  | none=>none
 | .binOp op t x y t'=>match TU P op t (AX S.fr x) (AX S.fr y) with
  | some r=>some r
  | none=>O8 P S (.binOp op t x y t')
 | op=>O8 P S op
section
variable {P:Program} {Γ:Aq} {N:Nat -> Prop} {S:St} {ρ:List AI} {a:Act} {w:World}
def Xu (M:Nat -> Prop) (w:World) (ρ:List AI) (l:List DV) (cs:Array Value):Prop:=cs.size=l.length/\ ∀ j,j<l.length -> ∃ u,cs[j]? =some u/\ AM M w (l.getD j .any) ρ u
theorem nT: ∀ (vs:List Value) (k off:Nat) (cs:Array Value),((vs.zipIdx k).foldl (fun (cs:Array Value) (x:Value×Nat)=>cs.setIfInBounds (off+x.2) x.1) cs).size=cs.size/\
 ∀ j,((vs.zipIdx k).foldl (fun (cs:Array Value) (x:Value×Nat)=>cs.setIfInBounds (off+x.2) x.1) cs)[j]? =if off+k<=j/\ j<off+k+vs.length/\ j<cs.size then vs[j-(off+k)]? else cs[j]?
 | [],k,off,cs=>⟨rfl,fun j=>by
  rw [zAZ]
  ·rfl
  ·simp only [zD9];omega⟩
 | v::vs,k,off,cs=>by
  obtain ⟨h1,h2⟩:=nT vs (k+1) off (cs.setIfInBounds (off+k) v);rw [List.zipIdx_cons,zFB];refine ⟨by rw [h1];simp,fun j=>?_⟩;rw [h2 j,zDl];simp only [Array.size_setIfInBounds]
  by_cases e:j=off+k
  ·subst e;rw [zAZ (by omega),zD0,zAB rfl]
   by_cases hs:off+k<cs.size
   ·rw [zAB hs,zAB (by omega),Nat.sub_self];rfl
   ·rw [zAZ hs,zAZ (by omega),zFi (by omega)]
  ·by_cases e2:off+(k+1)<=j/\ j<off+(k+1)+vs.length/\ j<cs.size
   ·rw [zAB e2,zAB (by omega),show j-(off+k)=(j-(off+(k+1)))+1 by omega];simp
   ·rw [zAZ e2,zAZ (by omega),zD0,zAZ (by omega)]
theorem mA {M:Nat -> Prop} {IK:Nat -> Option (Nat×Nat)}: ∀ (parts:List (Nat×Operand)) (l:List DV) (cs:Array Value) (r:List DV),Xu M w ρ l cs -> (∀ x,AM M w (AX S.fr x) ρ (a.eval x)) ->
 XA IK l (parts.map fun x=>(x.1,AX S.fr x.2))=some r -> ∃ rs,Instr.fill IK cs (parts.map fun x=>(x.1,a.eval x.2))=some rs/\ Xu M w ρ r rs
 | [],l,cs,r,hc,_,h=>by cases h;exact ⟨cs,rfl,hc⟩
 | (i,x)::rest,l,cs,r,hc,hr,h=>by
  simp only [zEQ,XA] at h;split at h
  ·cases h
  ·rename_i off size Eu;split at h
   ·cases h
   ·rename_i ds D7;split at h
    ·rename_i A3;obtain ⟨c1,c2⟩:=Ti D7 (hr x);have Ap:(a.eval x).cells.size=size:=by rw [c1,A3.1]
     have ku: ¬ (off+(a.eval x).cells.size>cs.size):=by rw [c1,hc.1];omega
     obtain ⟨s1,s2⟩:=nT (a.eval x).cells.toList 0 off cs
     have Hy:Xu M w ρ (Mt l off ds) ((a.eval x).cells.zipIdx.foldl (fun cs (c,j)=>cs.setIfInBounds (off+j) c) cs):=by
      have e0:((a.eval x).cells.zipIdx.foldl (fun cs (c,j)=>cs.setIfInBounds (off+j) c) cs)=(((a.eval x).cells.toList.zipIdx 0).foldl (fun (cs:Array Value) (x:Value×Nat)=>cs.setIfInBounds (off+x.2) x.1) cs):=by
       rw [←Array.foldl_toList];simp
      rw [e0];refine ⟨by rw [s1,YU,hc.1],fun j hj=>?_⟩;rw [YU] at hj;rw [s2 j,YX l off ds hj]
      by_cases e:off<=j/\ j<off+ds.length
      ·rw [zAB (by simp;rw [c1,hc.1];omega),zAB e];obtain ⟨u,g1,g2⟩:=c2 (j-off) (by omega);exact ⟨u,by simpa using g1,g2⟩
      ·rw [zAZ (by simp;rw [c1];omega),zAZ e];exact hc.2 j hj
     obtain ⟨rs,g1,g2⟩:=mA rest _ _ r Hy hr h;refine ⟨rs,?_,g2⟩;simp only [zEQ,Instr.fill,Eu];rw [zAZ (by simp only [zDh,zBg];omega)];exact g1
    ·cases h
theorem tw {t:TypeId} {z:Value} {IK:Nat -> Option (Nat×Nat)} (h:ZL P t=some (z,IK)) (parts:List (Nat×Value)):P.built t parts=Instr.fill IK z.cells parts:=by
 unfold ZL at h;unfold Program.built
 repeat' (split at h)
 all_goals first
  | (cases h;done)
  | (cases h;simp_all)
theorem vR (R:AT P Γ N S ρ a w) {t:TypeId} {parts:Array (Nat×Operand)} {d:DV} {vc:Prop} (h:Vw P S t parts.toList=some (d,vc)):Yl P N w (MS N S.h ρ) ρ (Instr.build t (parts.map fun (i,x)=>(i,a.eval x))) d:=by
 unfold Vw at h;split at h
 ·rename_i z IK hp;split at h
  ·rename_i l hl;cases h
   have h0:Xu (MS N S.h ρ) w ρ (z.cells.toList.map GD) z.cells:=⟨by simp,fun j hj=>by
    have BT:j<z.cells.size:=by simpa using hj
    exact ⟨z.cells[j],by simp [BT],by
     have:(z.cells.toList.map GD).getD j .any=GD z.cells[j]:=by simp [BT]
     rw [this];exact Vk _⟩⟩
   obtain ⟨rs,g1,g2,g3⟩:=mA parts.toList _ _ _ h0 (Bh R) hl;refine Yl.pure (v:=.agg rs) (fun W=>run_build W t _ rs ?_) ⟨rs,rfl,g2,g3⟩;rw [tw hp];have e1:(parts.map fun (i,x)=>(i,a.eval x)).toList=parts.toList.map fun x=>(x.1,a.eval x.2):=by simp
   rw [e1];exact g1
  ·cases h
 ·cases h
theorem Ys {t:TypeId} {cs:Array Value} {off size m:Nat} {f:Nat -> DV} {d:DV} {M:Nat -> Prop} {i:TypeInfo} (hi:P.info? t=some i) (A3:i.size=size) (DU:cs.size=m) (hr: ∀ j,j<m -> ∃ u,cs[j]? =some u/\ AM M w (f j) ρ u) (h:NJ P t m f off size=some d):Yl P N w M ρ (part t cs off) d:=by
 unfold NJ at h;split at h
 ·rename_i DL;split at h
  ·rename_i h1;split at h
   ·rename_i hs;cases h;obtain ⟨u,g1,g2⟩:=hr off (by omega);unfold Fn at h1;simp only [zAL,zFY,zEM] at h1;obtain ⟨⟨dd,hd⟩,hn⟩:=h1;refine Yl.pure (v:=u) (fun W=>?_) g2;unfold part;rw [zAg,RF hd];simp [Result.andThen,hn,g1]
   ·cases h
  ·split at h
   ·rename_i h2;cases h;obtain ⟨h3,i',BP,hs'⟩:=dG h2;have ei:i'=i:=zAU (BP.symm.trans hi);subst ei;obtain ⟨dd,hd⟩:=jr h3;refine Yl.pure (v:=.agg (cs.extract off (off+size))) (fun W=>?_) ⟨_,rfl,by simp;omega,fun j hj=>?_⟩
    ·unfold part;rw [zAg,RF hd];simp only [Result.andThen,h3,zEG];rw [zAg,Iu hi,A3];rfl
    ·obtain ⟨u,g1,g2⟩:=hr (off+j) (by omega);refine ⟨u,?_,Jt hj g2⟩;rw [Array.getElem?_extract];rw [zAB (by omega)];exact g1
   ·cases h
 ·cases h
theorem wU (R:AT P Γ N S ρ a w) {t:TypeId} {x d:DV} {vc:Prop} {v:Value} {k:IntKind} {n:Int} (hx:AM (MS N S.h ρ) w x ρ v) (h:Z8 P t x n=some (d,vc)) (hv:vc):Yl P N w (MS N S.h ρ) ρ (Instr.index t v (.int k n)) d:=by
 unfold Z8 at h;split at h
 ·rename_i m f;obtain ⟨cs,rfl,hs,hr⟩:=hx;split at h
  ·rename_i len e hu;split at h
   ·rename_i i hi;split at h
    ·rename_i hc;cases h;simp only [zAL,zDw] at hc;obtain ⟨⟨h1,h2⟩,rfl⟩:=hc
     have hp:NJ P e len f n.toNat 1=some (f n.toNat):=by
      unfold NJ;rw [zAB (by omega),zAB h1,zAB rfl]
     obtain ⟨u,g1,g2⟩:=Ys (P:=P) hi h2 hs hr hp;refine ⟨u,fun W hE=>?_,g2⟩;unfold Instr.index;simp only [asIntOf,zAg,zFR,Result.andThen,zDq hu];rw [zAB ⟨hv.1,hv.2⟩];simp only [zAg,Iu hi,Result.andThen,h2,zD4];exact g1 W hE
    ·cases h
   ·cases h
  ·cases h
 ·cases h
theorem zBC (R:AT P Γ N S ρ a w) {t:TypeId} {x d:DV} {vc:Prop} {v:Value} {fi:Nat} (hx:AM (MS N S.h ρ) w x ρ v) (h:W5 P t x fi=some (d,vc)):Yl P N w (MS N S.h ρ) ρ (Instr.field t v fi) d:=by
 unfold W5 at h;split at h
 ·rename_i m f;obtain ⟨cs,rfl,hs,hr⟩:=hx;split at h
  ·rename_i fs hu;split at h
   ·rename_i fd hf;split at h
    ·rename_i i hi;split at h
     ·rename_i d' hp;cases h;obtain ⟨u,g1,g2⟩:=Ys (P:=P) hi rfl hs hr hp;refine ⟨u,fun W hE=>?_,g2⟩;unfold Instr.field;simp only [zAg,zDq hu,Result.andThen,hf,asAgg,zFR];exact g1 W hE
     ·cases h
    ·cases h
   ·cases h
  ·cases h
 ·cases h
theorem sG {k:IntKind} {n:Int} {y:Nat} {c:BoundsCode} (h0:0<=n) (h1:n<=y) (W:World):(Instr.sliceBound (.int k n) y c).run P W= .ok n.toNat W:=by
 unfold Instr.sliceBound;simp only [asIntOf,zAg,zFR,Result.andThen];rw [zAB ⟨h0,h1⟩];rfl
theorem js (R:AT P Γ N S ρ a w) {o:Option Operand} {l:Option Int} (h:V7 S o=some l): ∃ k,o.map a.eval=l.map (Value.int k):=by
 cases o with
 | none=>cases h;exact ⟨.i64,rfl⟩
 | some x=>
  simp only [V7] at h;split at h
  ·rename_i k n e;cases h;have:=Bh R x;rw [e] at this;exact ⟨k,by simp only [zBV];rw [show a.eval x=_ from this]⟩
  ·cases h
theorem U1 {t e:TypeId} {i:TypeInfo} {ad:Option Addr} {len cap:Nat} {kl kh:IntKind} {lo hi:Option Int} (hu:P.underlying t=some (.slice e)) (BP:P.info? e=some i) (h0:0<=lo.getD 0) (h1:lo.getD 0<=hi.getD len) (h2:hi.getD len<=len) (h3:len<=cap) (W:World):
 (Instr.sliceAt t (.slice ad len cap) (lo.map (Value.int kl)) (hi.map (Value.int kh)) none).run P W=
  .ok (.slice (if cap=(lo.getD 0).toNat then ad else ad.map (·.add ((lo.getD 0).toNat*i.size))) ((hi.getD len).toNat-(lo.getD 0).toNat) (cap-(lo.getD 0).toNat)) W:=by
 have hb:(Instr.sliceBounds true len cap (lo.map (Value.int kl)) (hi.map (Value.int kh)) none).run P W= .ok ((lo.getD 0).toNat,(hi.getD len).toNat,cap) W:=by
  cases lo <;> cases hi <;> simp only [Option.map_none,zBV,Option.getD_none,zEY] at* <;>
   simp (disch:=omega) [Instr.sliceBounds,sG,zAg,Result.andThen]
 unfold Instr.sliceAt;simp only [zAg,zDq hu,Result.andThen];unfold Instr.slice;simp only [zAg,zDq hu,Result.andThen,hb,Iu BP];rfl
theorem zB7 (R:AT P Γ N S ρ a w) {t:TypeId} {x d:DV} {vc:Prop} {v:Value} {kl kh:IntKind} {lo hi:Option Int} (hx:AM (MS N S.h ρ) w x ρ v) (h:cF P t x lo hi=some (d,vc)) (hv:vc):
 Yl P N w (MS N S.h ρ) ρ (Instr.sliceAt t v (lo.map (Value.int kl)) (hi.map (Value.int kh)) none) d:=by
 unfold cF at h;split at h
 ·rename_i e hu;split at h
  ·rename_i i BP
   have gd: ∀ {α:Type} (l:List α) (q c j:Nat) (d:α),j<((l.take c).drop q).length -> ((l.take c).drop q).getD j d=l.getD (q+j) d:=fun l q c j d hj=>by
    simp only [zFv,zEZ] at hj;simp only [u8,zEi,zD6];rw [zAB (by omega)]
   split at h
   ·rename_i l;split at h
    ·rename_i hs;cases h;obtain ⟨ad,cap,rfl,g1,g2,g3⟩:=hx;obtain ⟨v1,v2,v3⟩:=hv;have hl:((l.take (hi.getD l.length).toNat).drop (lo.getD 0).toNat).length=(hi.getD l.length).toNat-(lo.getD 0).toNat:=by simp;omega
     refine Yl.pure (fun W=>U1 hu BP v1 v2 v3 g1 W) ⟨_,_,by rw [hl],by omega,by omega,fun j hj=>?_⟩;have BT:=hj;rw [hl] at BT;obtain ⟨b,o,rfl,q1,q2⟩:=g3 ((lo.getD 0).toNat+j) (by omega);refine ⟨b,o+(lo.getD 0).toNat,?_,q1,?_⟩
     ·rw [zAZ (by omega)];simp only [zBV,Ij,hs,zD4]
     ·rw [gd _ _ _ _ _ hj,zDy];exact q2
    ·cases h
   ·rename_i l;split at h
    ·rename_i hs;cases h;obtain ⟨ad,cap,rfl,g1,g2,g3⟩:=hx;obtain ⟨v1,v2,v3⟩:=hv;have hl:((l.take (hi.getD l.length).toNat).drop (lo.getD 0).toNat).length=(hi.getD l.length).toNat-(lo.getD 0).toNat:=by simp;omega
     refine Yl.pure (fun W=>U1 hu BP v1 v2 v3 g1 W) ⟨_,_,by rw [hl],by omega,by omega,fun j hj=>?_⟩;have BT:=hj;rw [hl] at BT;obtain ⟨b,o,rfl,q1,q2⟩:=g3 ((lo.getD 0).toNat+j) (by omega);refine ⟨b,o+(lo.getD 0).toNat,?_,q1,?_⟩
     ·rw [zAZ (by omega)];simp only [zBV,Ij,hs,zD4]
     ·rw [gd _ _ _ _ _ hj,zDy];exact q2
    ·cases h
   ·rename_i m n f;split at h
    ·rename_i hs;cases h;obtain ⟨ad,cap,rfl,g1,g2,g3⟩:=hx;obtain ⟨v1,v2,v3⟩:=hv;refine Yl.pure (fun W=>U1 hu BP v1 v2 v3 g1 W) ⟨_,_,rfl,by omega,by omega,fun i1 j FH hj=>?_⟩;obtain ⟨b,o,u,rfl,q1,q2,q3⟩:=g3 ((lo.getD 0).toNat+i1) j (by omega) hj;refine ⟨b,o+(lo.getD 0).toNat*m,u,?_,q1,?_,q3⟩
     ·rw [zAZ (by omega)];simp only [zBV,Ij,hs]
     ·rw [zEn,zDy] at q2;rw [zDy];exact q2
    ·cases h
   ·rename_i k m off n;split at h
    ·rename_i hs;cases h;obtain ⟨p,cap,hp,rfl,g1,g2,g3⟩:=hx;obtain ⟨v1,v2,v3⟩:=hv;have DL:(lo.getD 0).toNat<=cap:=by omega
     refine Yl.pure (fun W=>U1 hu BP v1 v2 v3 g1 W) ⟨p,_,cap-(lo.getD 0).toNat,hp,rfl,by omega,by omega,fun hc=>⟨?_,?_⟩⟩
     ·rw [zAZ (by omega)];simp only [zBV,Ij,hs,zEn,zDy]
     ·have:cap*m=(lo.getD 0).toNat*m+(cap-(lo.getD 0).toNat)*m:=by rw [←zEn];congr 1;omega
      rw [zEn];omega
    ·cases h
   ·cases h
  ·cases h
 ·cases h
theorem gJ {e:TypeId} {k':IntKind} {i:TypeInfo} {n d:Nat} {xs ys:Array Value} {f g:Nat -> DV} {M:Nat -> Prop} (hi:P.info? e=some i) (hs:i.size=1) (h1:Fn P e=true) (hk:P.underlying e=some (.int k')) (hx:xs.size=n) (hy:ys.size=n)
 (rx: ∀ j,j<n -> ∃ u,xs[j]? =some u/\ AM M w (f j) ρ u) (ry: ∀ j,j<n -> ∃ u,ys[j]? =some u/\ AM M w (g j) ρ u) (hI: ∀ j,j<n -> KM (f j)=true/\ KM (g j)=true):
 ∀ (is:List Nat),(∀ j∈is,j<n) -> ∀ W,Keep N w W -> (Op.eqItems (d+1) e 1 xs ys is).run P W= .ok (P9 f g is) W
 | [],_,W,_=>rfl
 | j::is,hb,W,hE=>by
  have hj:j<n:=hb j (by simp)
  have iR: ∀ {cs:Array Value} {f:Nat -> DV},cs.size=n -> (∀ j,j<n -> ∃ u,cs[j]? =some u/\ AM M w (f j) ρ u) -> KM (f j)=true -> (part e cs (j*1)).run P W= .ok (.int .i64 (Hp (f j))) W:=by
   intro cs f hc hr hf
   have hp:NJ P e n f (j*1) 1=some (f j):=by
    unfold NJ;rw [zAB (by omega),zAB h1,zAB rfl,zD4]
   obtain ⟨u,g1,g2⟩:=Ys (P:=P) hi hs hc hr hp;rw [g1 W hE,Z9 hf g2]
  simp only [Op.eqItems,zAg,iR hx rx (hI j hj).1,iR hy ry (hI j hj).2,Result.andThen,zF4 W d e .i64 k' _ _ hk];unfold P9;cases hq:(Hp (f j)==Hp (g j)) with
  | false=>rfl
  | true=>
   simp only [zD2,zDs,zEg,zD5];exact gJ hi hs h1 hk hx hy rx ry hI is (fun j hj=>hb j (by simp [hj])) W hE
theorem zBe {M:Nat -> Prop} {op:BinOp} {t:TypeId} {x y:DV} {vx vy:Value} {d:DV} {vc:Prop} (ox oy:Operand) (hx:AM M w x ρ vx) (hy:AM M w y ρ vy) (h:TU P op t x y=some (d,vc)):
 Yl P N w M ρ (do eqGuard op t ox oy vx vy;binOp op t vx vy) d:=by
 have key: ∀ {m m':Nat} {f g:Nat -> DV} {is:List Nat} {xs ys:Array Value},XH P t f g m m'=some is -> xs.size=m -> ys.size=m' -> (∀ j,j<m -> ∃ u,xs[j]? =some u/\ AM M w (f j) ρ u) -> (∀ j,j<m' -> ∃ u,ys[j]? =some u/\ AM M w (g j) ρ u) ->
  P.eqGuardType P.depth t=false/\ ∀ W,Keep N w W -> (Op.equalIn 10000 t (.agg xs) (.agg ys)).run P W= .ok (P9 f g is) W:=by
  intro m m' f g is xs ys hb sx sy rx ry;unfold XH at hb;split at hb
  ·rename_i n e hu;split at hb
   ·rename_i i hi;split at hb
    ·rename_i k' hk;split at hb
     ·rename_i hc;cases hb;simp only [zAL,zDw,zAW,zAd] at hc;obtain ⟨⟨⟨⟨⟨c1,c2⟩,c3⟩,c4⟩,c5⟩,c6⟩:=hc;subst c4;subst c5;refine ⟨c3,fun W hE=>?_⟩;have C9:P.cellsOf e=1:=by unfold Program.cellsOf;rw [hi];exact c1
      rw [run_equalIn_array W 9999 xs ys hu hi,C9];exact gJ (d:=9998) hi c1 c2 hk sx sy rx ry c6 _ (fun j hj=>zAd.1 hj) W hE
     ·cases hb
    ·cases hb
   ·cases hb
  ·cases hb
 unfold TU at h;split at h
 ·rename_i m f m' g;split at h
  ·rename_i is hb;cases h;obtain ⟨xs,rfl,sx,rx⟩:=hx;obtain ⟨ys,rfl,sy,ry⟩:=hy;obtain ⟨k1,k2⟩:=key hb sx sy rx ry;refine ⟨.bool _,fun W hE=>?_,rfl⟩;simp only [zAg,run_eqGuard_agg W .eql t ox oy xs ys k1,Result.andThen,run_eql_struct,k2 W hE]
  ·cases h
 ·rename_i m f m' g;split at h
  ·rename_i is hb;cases h;obtain ⟨xs,rfl,sx,rx⟩:=hx;obtain ⟨ys,rfl,sy,ry⟩:=hy;obtain ⟨k1,k2⟩:=key hb sx sy rx ry;refine ⟨.bool _,fun W hE=>?_,rfl⟩;simp only [zAg,run_eqGuard_agg W .neq t ox oy xs ys k1,Result.andThen,run_neq_struct,k2 W hE]
  ·cases h
 ·cases h
theorem tr (R:AT P Γ N S ρ a w) (o:Oper) {d:DV} {vc:Prop} (h:Rk P S o.op=some (d,vc)) (hv:vc):
 ∃ v,(∀ W,Keep N w W -> (execOp a.eval o).run P W= .ok (.value v) W)/\ AM (MS N S.h ρ) w d ρ v:=by
 unfold Rk at h;split at h
 ·rename_i x xt to ok ho;split at h
  ·rename_i d' hd;cases h;obtain ⟨u,h1,h2⟩:=zDH (xt:=xt) (Bh R x) hd;exact Gk (s:=Instr.typeAssert (a.eval x) xt to ok) (by unfold execOp;rw [ho]) ⟨u,fun W _=>h1 W,h2⟩
  ·cases h
 ·rename_i t parts ho;exact Gk (by unfold execOp;rw [ho]) (vR R h)
 ·rename_i t x i ho;have hi:=Bh R i;split at h
  ·rename_i k n e;rw [e] at hi;refine Gk (s:=Instr.index t (a.eval x) (a.eval i)) (by unfold execOp;rw [ho]) ?_;rw [show a.eval i=_ from hi];exact wU R (Bh R x) h hv
  ·cases h
 ·rename_i t x f ho;exact Gk (s:=Instr.field t (a.eval x) f) (by unfold execOp;rw [ho]) (zBC R (Bh R x) h)
 ·rename_i t x lo hi ho;split at h
  ·rename_i l hl;split at h
   ·rename_i hh zx;obtain ⟨k1,e1⟩:=js R hl;obtain ⟨k2,e2⟩:=js R zx;refine Gk (s:=Instr.sliceAt t (a.eval x) (lo.map a.eval) (hi.map a.eval) none) (by unfold execOp;rw [ho];rfl) ?_;rw [e1,e2];exact zB7 R (Bh R x) h hv
   ·cases h
  ·cases h
 ·rename_i op t x y t' ho;split at h
  ·rename_i r hr;cases h;exact Gk (by unfold execOp;rw [ho]) (zBe x y (Bh R x) (Bh R y) hr)
  ·rw [←ho] at h;exact iK R o h hv
 ·exact iK R o h hv
end
end Go.Proofs.YtkjbblkieglmlaaGreatDoor
namespace Go.Proofs.YtkjbblkieglmlaaGreatDoor
abbrev zDi:=@List.getElem_mem
end Go.Proofs.YtkjbblkieglmlaaGreatDoor
namespace Go.Proofs.YtkjbblkieglmlaaGreatDoor
open Go.RowKit
def Ba:List Prop -> Prop
 | []=>True
 | p::ps=>p/\ Ba ps
theorem Cu {l l':List Prop}:Ba (l++l')↔Ba l/\ Ba l':=by
 induction l with
 | nil=>simp [Ba]
 | cons p ps ih=>simp [Ba,ih,and_assoc]
def AS (d d':DV):Prop:=∀ (M:Nat -> Prop) (w:World) (ρ:List AI) (v:Value),AM M w d ρ v -> AM M w d' ρ v
section
variable {P:Program} {Γ:Aq} {N:Nat -> Prop}
theorem C6 {w:World} {M M':Nat -> Prop} (h: ∀ b,M' b -> M b) (ρ:List AI):BU M w ρ M' w ρ:=⟨fun _ _ _ _=>rfl,fun b hb=>.inl (h b hb),fun _ _ h=>h⟩
def be:DO -> Option (Nat×Nat×DV)
 | .ints l=>some (1,l.length,.ints l)
 | .bools l=>some (1,l.length,.bools l)
 | .arr m n f=>some (m,n,.sl m n f)
 | .mo (.rws ls none)=>some (1,ls.length,.sl 1 ls.length fun i j=>([.ints (ls.getD i default)]:List DV).getD j .any)
 | _=>none
def H3 (k m:Nat) (v:DV):DV -> DV
 | .msl k' m' off n=>if k'=k/\ m'=m/\ off=0 then v else .msl k' m' off n
 | d=>d
def Pw (k m n:Nat):DV -> List Prop
 | .msl k' m' off n'=>if k'=k/\ m'=m/\ off=0 then [n'=n] else []
 | _=>[]
def Wx (k m:Nat) (v:DV):Option DO -> Option DO
 | some (.cells l)=>some (.cells (l.map (H3 k m v)))
 | some (.ro l)=>some (.ro (l.map (H3 k m v)))
 | o=>o
def lq (k m n:Nat):Option DO -> List Prop
 | some (.cells l)=>l.flatMap (Pw k m n)
 | some (.ro l)=>l.flatMap (Pw k m n)
 | _=>[]
def Ib (k m:Nat) (v:DV) (S:St):St:=⟨S.fr.map (H3 k m v),(S.h.set k none).map (Wx k m v)⟩
theorem dA {l:List DV} {f:DV -> List Prop} (h:Ba (l.flatMap f)) {d:DV} (hd:d∈l):Ba (f d):=by
 induction l with
 | nil=>simp at hd
 | cons x l ih=>
  rw [zFk] at h;obtain ⟨h1,h2⟩:=Cu.1 h;rcases zDu.1 hd with rfl | hd
  ·exact h1
  ·exact ih h2 hd
theorem ni {l:List (Option DO)} {f:Option DO -> List Prop} (h:Ba (l.flatMap f)) {d:Option DO} (hd:d∈l):Ba (f d):=by
 induction l with
 | nil=>simp at hd
 | cons x l ih=>
  rw [zFk] at h;obtain ⟨h1,h2⟩:=Cu.1 h;rcases zDu.1 hd with rfl | hd
  ·exact h1
  ·exact ih h2 hd
theorem zA4 {M M':Nat -> Prop} {w:World} {ρ:List AI} {p:AI} {o:DO} {m n:Nat} {v:DV} (ho:be o=some (m,n,v)) (hr:Dx P M w ρ p o) (hN: ∀ b,p.foot b -> ¬ M' b) (hM: ∀ b,M' b -> M b) {u:Value} {cap:Nat} (hu:u= .slice (some ⟨p.blk,p.off+0*m,none⟩) n cap) (h1:n<=cap) (h2:n<=LB):AM M' w v ρ u:=by
 cases o with
 | cells l=>cases ho
 | iter e=>cases ho
 | ro l=>cases ho
 | mo x=>
  cases x with
  | rws ls Bv=>
   cases Bv with
   | some y=>cases ho
   | none=>
    cases ho;obtain ⟨vs,hS⟩:=hr;obtain ⟨cs,t,e1,e2,e3,e4⟩:=hS.row;refine ⟨_,cap,hu,h1,h2,fun i j hi hj=>?_⟩;obtain rfl:j=0:=by omega
    have BP:i+1<vs.size:=by rw [hS.size];omega
    have e5:=e4 i hi;rw [zAq BP] at e5;refine ⟨p.blk,p.off,vs[i+1],by simp,hN _ hS.blk,by unfold World.cell?;simp [e1,e5],?_⟩;have hs:=hS.has i hi fun L e=>by cases e
    rw [show vs.getD (i+1) undef=vs[i+1] by simp [BP]] at hs;rcases hs with ⟨e,e'⟩ | ⟨q,c,e,g1,g2,g3,g4,g5⟩
    ·rw [e']
     show AM M' w (.ints (ls.getD i default)) [] _
     rw [e];exact ⟨none,0,rfl,zAm _,by decide,fun j hj=>absurd hj (zAf j)⟩
    ·rw [e];refine ⟨_,c,rfl,g1,g3,fun k hk=>⟨q.blk,q.off,rfl,hN _ g4.1,?_⟩⟩;obtain ⟨x,k1,k2⟩:=g5.cell hk;rw [k1,k2]
  | _=>cases ho
 | ints l=>
  cases ho;have hN:=hN p.blk (by rw [hr.1]);refine ⟨_,cap,hu,h1,h2,fun j hj=>⟨p.blk,p.off,by simp,hN,?_⟩⟩;obtain ⟨x,e1,e2⟩:=AZ.cell hr hj;rw [e1,e2]
 | bools l=>
  cases ho;have hN:=hN p.blk (by rw [hr.1]);refine ⟨_,cap,hu,h1,h2,fun j hj=>⟨p.blk,p.off,by simp,hN,?_⟩⟩;obtain ⟨x,e1,e2⟩:=AZ.cell hr hj;rw [e1,e2]
 | arr m n f=>
  cases ho;have hN:=hN p.blk (by rw [hr.1]);refine ⟨_,cap,hu,h1,h2,fun i j hi hj=>?_⟩;have AN:i*m+j<n*m:=zAY (by rw [zFj];omega:i*m+j<(i+1)*m) (zEX m hi);obtain ⟨x,e1,e2⟩:=AZ.cell hr AN;have hm:0<m:=by omega
  have d1:(i*m+j)/m=i:=by rw [zEm,Nat.mul_add_div hm];simp [Nat.div_eq_of_lt hj]
  have d2:(i*m+j) % m=j:=by rw [zEm,Nat.mul_add_mod];exact zFQ hj
  rw [d1,d2] at e2;exact ⟨p.blk,p.off,x,by simp,hN,e1,AM.out _ (C6 hM []) e2⟩
theorem TM {k m:Nat} {v:DV} {h:DH} {i:Nat} {o':DO} (hi:((h.set k none).map (Wx k m v))[i]? =some (some o')):i≠k/\ ∃ o,h[i]? =some (some o)/\ Wx k m v (some o)=some o':=by
 rw [zA1] at hi;cases hx:(h.set k none)[i]? with
 | none=>rw [hx] at hi;cases hi
 | some x=>
  rw [hx] at hi;have hi:Wx k m v x=some o':=zAU hi;cases x with
  | none=>cases hi
  | some o=>exact ⟨(Fs hx).1,o,(Fs hx).2,hi⟩
def Dw (S S':St):Prop:=∀ (P:Program) (Γ:Aq) (N:Nat -> Prop) (ρ:List AI) (a:Act) (w:World),AT P Γ N S ρ a w -> AT P Γ N S' ρ a w/\ A6 S.h ρ w S'.h ρ w
theorem Dw.frz {S:St} (k:Nat) {o:DO} {m n:Nat} {v:DV} (hk:S.h[k]? =some (some o)) (ho:be o=some (m,n,v)) (hc:Ba (S.fr.flatMap (Pw k m n))) (IV:Ba (S.h.flatMap (lq k m n))):Dw S (Ib k m v S):=fun P Γ N ρ a w R=>by
 obtain ⟨p,hp,hr⟩:=R.hr.obj k _ hk
 have JS: ∀ b,MO (Ib k m v S).h ρ b -> ∃ i o p',i≠k/\ S.h[i]? =some (some o)/\ ρ[i]? =some p'/\ p'.foot b:=by
  rintro b ⟨i,o',p',g1,g2,g3⟩;obtain ⟨e1,o2,e2,_⟩:=TM g1;exact ⟨i,o2,p',e1,e2,g2,g3⟩
 have hN: ∀ b,p.foot b -> ¬ MS N (Ib k m v S).h ρ b:=by
  rintro b hf (hn | hb)
  ·exact (R.hr.cel k _ p b hk hp hf).2.1 hn
  ·obtain ⟨i,o2,p',e1,e2,g2,g3⟩:=JS _ hb;exact R.hr.dis i k _ _ p' p b e1 e2 hk g2 hp g3 hf
 have hM: ∀ b,MS N (Ib k m v S).h ρ b -> MS N S.h ρ b:=fun b hb=>hb.imp id fun hb=>by
  obtain ⟨i,o2,p',_,e2,g2,g3⟩:=JS _ hb;exact ⟨i,o2,p',e2,g2,g3⟩
 have conv: ∀ (d:DV) (u:Value),Ba (Pw k m n d) -> AM (MS N S.h ρ) w d ρ u -> AM (MS N (Ib k m v S).h ρ) w (H3 k m v d) ρ u:=by
  intro d u bK hd;cases d with
  | msl k' m' off n'=>
   simp only [Pw,H3] at bK ⊢;split at bK
   ·rename_i e;obtain ⟨rfl,rfl,rfl⟩:=e;rw [zAB ⟨rfl,rfl,rfl⟩];obtain ⟨p',cap,BD,e,g1,g2,_⟩:=hd;have ep:p'=p:=zAU (BD.symm.trans hp);subst ep;have en:=bK.1;subst en;exact zA4 ho hr hN hM e g1 g2
   ·rename_i e;rw [zAZ e];exact AM.out _ (C6 hM ρ) hd
  | _=>exact AM.out _ (C6 hM ρ) hd
 refine ⟨⟨⟨by simp [Ib,R.hr.len],fun i o' hi=>?_,fun i o' p' b g1 g2 g3=>?_,fun i i' o1 o2 p1 p2 b Ak g1 g2 g3 g4 g5 g6=>?_,R.hr.nlt,R.hr.gi⟩,⟨by simp [Ib,R.fr.1],fun i hi=>?_⟩⟩,⟨AP.refl _ w,fun b hb=>.inl ?_⟩⟩
 ·obtain ⟨e1,o2,e2,e3⟩:=TM hi;obtain ⟨p',BD,Cs⟩:=R.hr.obj i o2 e2;refine ⟨p',BD,?_⟩;cases o2 with
  | cells l=>
   cases e3
   show AZ w p' (l.map (H3 k m v)).length _
   rw [zAn];refine AZ.out Cs rfl fun j u hj hu=>?_
   have:(l.map (H3 k m v)).getD j .any=H3 k m v (l.getD j .any):=by simp [hj]
   rw [this];refine conv _ _ ?_ hu
   have Az:some (DO.cells l)∈S.h:=zDz e2;have:=ni IV Az;exact dA (l:=l) this (by simp [hj])
  | ints l=>cases e3;exact AZ.out Cs rfl fun j u _ hu=>hu
  | bools l=>cases e3;exact AZ.out Cs rfl fun j u _ hu=>hu
  | arr m n f=>cases e3;exact AZ.out Cs rfl fun j u _ hu=>AM.out _ (C6 hM []) hu
  | iter encs=>
   cases e3;obtain ⟨gf,lb,Rd,q1,q2,q3,q4⟩:=Cs;exact ⟨gf,lb,Rd,q1,q2,fun b hb=>⟨fun hm=>(q3 b hb).1 (hM b hm),(q3 b hb).2⟩,q4⟩
  | ro l=>
   cases e3;obtain ⟨r1,r2,r3⟩:=Cs;refine ⟨r1,fun hm=>r2 (hM _ hm),?_⟩
   show AZ w _ (l.map (H3 k m v)).length _
   rw [zAn];refine AZ.out r3 rfl fun j u hj hu=>?_
   have:(l.map (H3 k m v)).getD j .any=H3 k m v (l.getD j .any):=by simp [hj]
   rw [this];refine conv _ _ ?_ hu
   have Az:some (DO.ro l)∈S.h:=zDz e2;have:=ni IV Az;exact dA (l:=l) this (by simp [hj])
  | mo x=>cases e3;exact Cs
 ·obtain ⟨e1,o2,e2,e3⟩:=TM g1;obtain ⟨q1,q2,q3⟩:=R.hr.cel i o2 p' b e2 g2 g3;exact ⟨q1,q2,q3⟩
 ·obtain ⟨e1,o3,e2,_⟩:=TM g1;obtain ⟨b9,o4,bz,_⟩:=TM g2;exact R.hr.dis i i' o3 o4 p1 p2 b Ak e2 bz g3 g4 g5 g6
 ·have BP:i<S.fr.length:=by simpa [Ib] using hi
  have:(Ib k m v S).fr.getD i .any=H3 k m v (S.fr.getD i .any):=by simp [Ib,BP]
  rw [this];refine conv _ _ (dA hc (by simp [BP])) (R.fr.2 i BP)
 ·obtain ⟨i,o2,p',_,e2,g2,g3⟩:=JS _ hb;exact ⟨i,o2,p',e2,g2,g3⟩
def TN (k:Nat) (S:St):Option (St×List Prop):=match S.h.getD k none with
 | some o=>match be o with
  | some (m,n,v)=>some (Ib k m v S,S.fr.flatMap (Pw k m n)++S.h.flatMap (lq k m n))
  | none=>none
 | none=>none
theorem Dw.frzE {S:St} (k:Nat) (S':St) (vs:List Prop) (h:TN k S=some (S',vs)) (hv:Ba vs):Dw S S':=by
 unfold TN at h;split at h
 ·rename_i o ho;split at h
  ·rename_i m n v hf;cases h;obtain ⟨h1,h2⟩:=Cu.1 hv;refine Dw.frz k ?_ hf h1 h2;rw [u8] at ho;cases hx:S.h[k]? with
   | none=>rw [hx] at ho;cases ho
   | some x=>rw [hx] at ho;exact congrArg some ho
  ·cases h
 ·cases h
theorem Dw.refl (S:St):Dw S S:=fun _ _ _ _ _ _ R=>⟨R,A6.refl _ _ _⟩
theorem Dw.trans {A B C:St} (h:Dw A B) (k:Dw B C):Dw A C:=fun P Γ N ρ a w R=>by
 obtain ⟨R1,s1⟩:=h P Γ N ρ a w R;obtain ⟨R2,s2⟩:=k P Γ N ρ a w R1;exact ⟨R2,s1.trans s2⟩
theorem MO.put {h:DH} {ρ:List AI} {k:Nat} {o o':DO} (hk:h[k]? =some (some o)) {b:Nat}:MO (h.set k (some o')) ρ b↔MO h ρ b:=by
 have AN:=(zAV.1 hk).1;constructor
 ·rintro ⟨i,x,p,h1,h2,h3⟩;rw [zAo] at h1
  by_cases e:k=i
  ·subst e;exact ⟨k,o,p,hk,h2,h3⟩
  ·rw [zAZ e] at h1;exact ⟨i,x,p,h1,h2,h3⟩
 ·rintro ⟨i,x,p,h1,h2,h3⟩
  by_cases e:k=i
  ·subst e;exact ⟨k,o',p,by simp [AN],h2,h3⟩
  ·exact ⟨i,x,p,by rw [zAo,zAZ e];exact h1,h2,h3⟩
theorem Dw.obj {S:St} {k:Nat} {o o':DO} (hk:S.h[k]? =some (some o)) (hO: ∀ (P:Program) (M:Nat -> Prop) (w:World) (ρ:List AI) (p:AI),Dx P M w ρ p o -> Dx P M w ρ p o'):Dw S ⟨S.fr,S.h.set k (some o')⟩:=fun P Γ N ρ a w R=>by
 have hM: ∀ b,MS N (S.h.set k (some o')) ρ b↔MS N S.h ρ b:=fun b=>or_congr Iff.rfl (MO.put hk)
 have back: ∀ {i:Nat} {x:DO},(S.h.set k (some o'))[i]? =some (some x) -> ∃ y,S.h[i]? =some (some y)/\ (i=k/\ x=o'∨y=x):=by
  intro i x hi;rw [zAo] at hi
  by_cases e:k=i
  ·subst e;rw [zAB rfl,zAB (zAV.1 hk).1] at hi;cases hi;exact ⟨o,hk,.inl ⟨rfl,rfl⟩⟩
  ·rw [zAZ e] at hi;exact ⟨x,hi,.inr rfl⟩
 have O:BU (MS N S.h ρ) w ρ (MS N (S.h.set k (some o')) ρ) w ρ:=C6 (fun b hb=>(hM b).1 hb) ρ;refine ⟨⟨⟨by simp [R.hr.len],fun i x hi=>?_,fun i x p b g1 g2 g3=>?_,fun i i' o1 o2 p1 p2 b Ak g1 g2 g3 g4 g5 g6=>?_,R.hr.nlt,R.hr.gi⟩,R.fr.out O⟩,⟨AP.refl _ w,fun b hb=>.inl ((MO.put hk).1 hb)⟩⟩
 ·rw [zAo] at hi
  by_cases e:k=i
  ·subst e;rw [zAB rfl,zAB (zAV.1 hk).1] at hi;cases hi;obtain ⟨p,hp,hr⟩:=R.hr.obj k o hk;exact ⟨p,hp,hO P _ w ρ p (hr.out O (S:=fun _=>False) (AP.refl _ _) (fun _ h=>h.elim) fun _ _ _ h=>h)⟩
  ·rw [zAZ e] at hi;obtain ⟨p,hp,hr⟩:=R.hr.obj i x hi;exact ⟨p,hp,hr.out O (S:=fun _=>False) (AP.refl _ _) (fun _ h=>h.elim) fun _ _ _ h=>h⟩
 ·obtain ⟨y,e,_⟩:=back g1;exact R.hr.cel i y p b e g2 g3
 ·obtain ⟨y1,e1,_⟩:=back g1;obtain ⟨y2,e2,_⟩:=back g2;exact R.hr.dis i i' y1 y2 p1 p2 b Ak e1 e2 g3 g4 g5 g6
inductive Fz where
 | frz (k:Nat)
 | arr (k n:Nat) (f:Nat -> Nat -> DV)
 | unf (k:Nat)
 | rws
def nU (k n':Nat) (f':Nat -> Nat -> DV) (S:St):Option (St×List Prop):=match S.h.getD k none with
 | some (.arr m n f)=>some (⟨S.fr,S.h.set k (some (.arr m n' f'))⟩,[n=n'/\ ∀ i j,i<n -> j<m -> AS (f i j) (f' i j)])
 | _=>none
def Ww:Fz -> St -> Option (St×List Prop)
 | .frz k,S=>TN k S
 | .arr k n f,S=>nU k n f S
 | .unf k,S=>match S.h.getD k none with
  | some (.mo (.rows f (some (_,_,false))))=>some (⟨S.fr,S.h.set k (some (.mo (.rows f none)))⟩,[])
  | _=>none
 | .rws,_=>none
theorem Ea.unf {w:World} {p:AI} {f:Int -> List Int} {x:Int} {L:List Int} {u:Value} {es:Array MapEntry} {Ac:Nat} (h:Ea w p f (some (x,L,false)) u es Ac):Ea w p f none u es Ac:=
 { h with
  key:=fun e he=>let ⟨k,h1,h2⟩:=h.key e he;⟨k,h1,fun _=>h2 fun L e=>by cases e⟩
  inHand:=fun k L g e=>by cases e }
theorem getD_some {h:DH} {k:Nat} {o:DO} (ho:h.getD k none=some o):h[k]? =some (some o):=by
 rw [u8] at ho;cases hx:h[k]? with
 | none=>rw [hx] at ho;cases ho
 | some x=>rw [hx] at ho;exact congrArg some ho
theorem Dw.fz {S:St} (z:Fz) (S':St) (vs:List Prop) (h:Ww z S=some (S',vs)) (hv:Ba vs):Dw S S':=by
 cases z with
 | frz k=>exact Dw.frzE k S' vs h hv
 | arr k n' f'=>
  simp only [Ww,nU] at h;split at h
  ·rename_i m n f ho;cases h;obtain ⟨⟨rfl,hd⟩,_⟩:=hv;refine Dw.obj (getD_some ho) fun P M w ρ p hr=>?_
   refine AZ.out hr rfl fun j u hj hu=>?_
   have hm:0<m:=by
    rcases zE9 m with e | e
    ·subst e;omega
    ·exact e
   exact hd _ _ ((zEw hm).2 hj) (zGA _ hm) M w [] u hu
  ·cases h
 | unf k=>
  simp only [Ww] at h;split at h
  ·rename_i f x L ho;cases h;exact Dw.obj (getD_some ho) fun P M w ρ p ⟨u,es,Ac,hA⟩=>⟨u,es,Ac,hA.unf⟩
  ·cases h
 | rws=>cases h
def TL:List (Nat×Fz) -> Option Nat -> St -> Option (St×List Prop×List (Nat×Fz))
 | [],_,S=>some (S,[],[])
 | (t,z)::rest,dst,S=>if dst=some t then match Ww z S with
  | some (S',vs)=>match TL rest dst S' with
   | some (CJ,Bm,r)=>some (CJ,vs++Bm,r)
   | none=>none
  | none=>none
  else some (S,[],(t,z)::rest)
theorem TK: ∀ (l:List (Nat×Fz)) {dst:Option Nat} {S S':St} {vs:List Prop} {r:List (Nat×Fz)},TL l dst S=some (S',vs,r) -> Ba vs -> Dw S S'
 | [],dst,S,S',vs,r,h,_=>by cases h;exact Dw.refl S
 | (t,z)::rest,dst,S,S',vs,r,h,hv=>by
  simp only [TL] at h;split at h
  ·split at h
   ·rename_i S1 CL h1;split at h
    ·rename_i S2 Dy r2 h2;cases h;obtain ⟨B0,B5⟩:=Cu.1 hv;exact (Dw.fz z S1 CL h1 B0).trans (TK rest h2 B5)
    ·cases h
   ·cases h
  ·cases h;exact Dw.refl S
abbrev RM {α:Type} [Inhabited α] (enc:α -> Nat -> DV) (L:List α):Nat -> Nat -> DV:=fun i j=>enc (L.getD i default) j
theorem LM {α:Type} [Inhabited α] {enc:α -> Nat -> DV} {L L':List α} {n m c:Nat} {g:Nat -> Nat -> DV} (hn:n=L.length) (hc:c=L'.length) (hg: ∀ i j,i<c -> j<m -> AS (g i j) (RM enc L' i j)):n+c=(L++L').length/\ ∀ i j,i<n+c -> j<m -> AS (if i<n then RM enc L i j else g (i-n) j) (RM enc (L++L') i j):=by
 subst hn;subst hc;refine ⟨by simp,fun i j hi hj=>?_⟩;simp only [RM,u8] at hg ⊢
 by_cases h:i<L.length
 ·rw [zAB h,zAX h];exact fun _ _ _ _ h=>h
 ·rw [zAZ h,zAb (by omega)];exact hg _ j (by omega) hj
theorem At {d:DV}:AS d d:=fun _ _ _ _ h=>h
theorem uT {l:List DV} {m:Nat} (hl:l.all IN=true) (hm:m=l.length): ∀ j,j<m -> IN (l.getD j .any)=true:=fun j hj=>by
 subst hm;rw [u8,zAQ hj];exact zAW.1 hl _ (zDi hj)
def MV:List DV -> List DV -> Prop
 | [],[]=>True
 | d::ds,e::es=>AS d e/\ MV ds es
 | _,_=>False
theorem T9: ∀ {l l':List DV},MV l l' -> l.length=l'.length/\ ∀ j,j<l.length -> AS (l.getD j .any) (l'.getD j .any)
 | [],[],_=>⟨rfl,fun j hj=>absurd hj (zAf j)⟩
 | d::ds,e::es,⟨h1,h2⟩=>by
  obtain ⟨q1,q2⟩:=T9 h2;refine ⟨by simp [q1],fun j hj=>?_⟩;cases j with
  | zero=>exact h1
  | succ j=>exact q2 j (by simpa using hj)
 | [],_::_,h=>h.elim
 | _::_,[],h=>h.elim
theorem zDd {l l':List DV} (h:MV l l') (j:Nat):AS (l.getD j .any) (l'.getD j .any):=by
 obtain ⟨h1,h2⟩:=T9 h
 by_cases hj:j<l.length
 ·exact h2 j hj
 ·rw [u8,u8,zEJ (by omega),zEJ (by omega)];exact At
def Yx:List DV -> List (List DV) -> Prop
 | [],[]=>True
 | v::vs,c::cs=>(∃ l,Ie v=some l/\ MV l c)/\ Yx vs cs
 | _,_=>False
theorem gP: ∀ {vs:List DV} {cs:List (List DV)},Yx vs cs -> vs.length=cs.length/\ ∀ i,i<vs.length -> ∃ l,Ie (vs.getD i .any)=some l/\ MV l (cs.getD i [])
 | [],[],_=>⟨rfl,fun i hi=>absurd hi (zAf i)⟩
 | v::vs,c::cs,⟨h1,h2⟩=>by
  obtain ⟨q1,q2⟩:=gP h2;refine ⟨by simp [q1],fun i hi=>?_⟩;cases i with
  | zero=>exact h1
  | succ i=>exact q2 i (by simpa using hi)
 | [],_::_,h=>h.elim
 | _::_,[],h=>h.elim
theorem ER {α:Type} [Inhabited α] {c:α -> List DV} {L:List α} {vals:List DV} {m n:Nat} (hn:n=vals.length) (h:Yx vals (L.map c)):n=L.length/\ ∀ i j,i<n -> j<m -> AS (match Ie (vals.getD i .any) with | some l=>l.getD j .any | none=>.any) (RM (fun x j=>(c x).getD j .any) L i j):=by
 subst hn;obtain ⟨h1,h2⟩:=gP h;rw [zAn] at h1;refine ⟨h1,fun i j hi _=>?_⟩;obtain ⟨l,e,hl⟩:=h2 i hi;rw [e];have:(L.map c).getD i []=c (L.getD i default):=by simp [u8,h1▸hi]
 rw [this] at hl;exact zDd hl j
end
end Go.Proofs.YtkjbblkieglmlaaGreatDoor
