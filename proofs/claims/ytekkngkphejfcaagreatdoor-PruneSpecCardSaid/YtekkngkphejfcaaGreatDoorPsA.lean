/- Part 1 of 7 of what the proofs of these laws stand on. -/
import Derived.WalkKit
import Derived.WalkSpells
import Derived.WalkLawsBesides
import Derived.Lib.Hide
import Derived.OrdersHeld
import Derived.Deep.RegionHeld
import Derived.BigQuiet
import Derived.OrdersIn
import Derived.TacticsIn
import Derived.RangeFuncOwn
import Derived.RangeFuncNested
import Derived.RangeFuncCalls
import Derived.Laws.IdiomRangeMap
import Derived.Laws.Cells
import Derived.Laws.Cover3
import Derived.Laws.StructEq
import Derived.ChangeKeysEq
import Derived.RowKit
import Derived.Deep.AppendSrc
import Derived.Laws.MakeOwn
import Derived.Great.BuildSlice
import Derived.Sort.LoopGhostIn
import Derived.MapKept
set_option linter.all false
namespace Go.Proofs.YtekkngkphejfcaaGreatDoor
open Go.RowKit
def Ext (w w':World):Prop:=Below w.heap.size w w'
theorem Ext.refl (w:World):Ext w w:=Below.refl _ _
theorem Ext.trans {a b c:World} (h:Ext a b) (k:Ext b c):Ext a c:=Below.trans h (Below.mono k h.size)
theorem Ext.alloc (w:World) (o:Obj):Ext w (w.alloc o):=(Below.refl _ _).alloc (Nat.le_refl _) o
theorem Ext.allocR {w w':World} (h:Ext w w') (o:Obj):Ext w (w'.alloc o):=h.trans (Ext.alloc w' o)
theorem Ext.drewR {w w':World} (h:Ext w w'):Ext w w'.drew:=Below.drew h
theorem Ext.size {w w':World} (h:Ext w w'):w.heap.size≤w'.heap.size:=Below.size h
theorem Ext.cells {w w':World} (h:Ext w w'): ∀ b o,b<w.heap.size→w'.cell? ⟨b,o,none⟩=w.cell? ⟨b,o,none⟩:=
 fun b o hb=>Below.cell h (p:=⟨b,o,none⟩) hb
theorem Ext.cell {w w':World} (h:Ext w w') {b o:Nat} {u:Value} (hc:w.cell? ⟨b,o,none⟩=some u):w'.cell? ⟨b,o,none⟩=some u:=by
 rw [h.cells b o (World.block_lt_of_cell? w ⟨b,o,none⟩ hc)];exact hc
def zBz (b:Bool) (e:Int):Int:=if b then 0 else e
theorem zVP (e:Int):zBz true e=0:=rfl
structure zAC where
 kind:Int
 cells:List Int
 set:Int
 other:Int
 lo:Int
 hi:Int
 runs:List Int
 rule:Int
 spot:Int
 deriving DecidableEq,Inhabited
structure zAB where
 cells:Int
 symbols:Int
 values:List Int
 nbrs:List (List Int)
 cons:List zAC
 deriving DecidableEq,Inhabited
end Go.Proofs.YtekkngkphejfcaaGreatDoor
namespace Go.Proofs.YtekkngkphejfcaaGreatDoor
open Go.RowKit
def zLD:Op→Bool
 | .move _ | .assign _ | .pick .. | .load .. | .binOp .. | .unOp .. | .convert .. | .makeFunc .. | .slice .. | .fieldAddr .. | .field .. | .indexAddr .. | .index .. | .extract .. | .build .. | .lookup .. | .makeInterface .. | .nilCheck _=>true
 | .call c=>match c.callee with
  | .builtin .len | .builtin .cap | .builtin .min | .builtin .max=>true
  | _=>false
 | _=>false
theorem zEh {P:Program} {w w':World} {α:Type} {s:Sem α} {f:α→Value} {n:Next} (h:(s>>=fun x=>(pure (.value (f x)):Sem Next)).run P w= .ok n w'): ∃ v,n= .value v:=by
 rw [Sem.run_bind] at h
 cases hs:s.run P w with
 | ok v w1=>rw [hs] at h;simp only [Result.andThen] at h;cases h;exact ⟨_,rfl⟩
 | halt x w1=>rw [hs] at h;simp only [Result.andThen] at h;cases h
theorem zRX {P:Program} {ρ:Operand→Value} {o:Oper} {w w':World} {n:Next} (hp:zLD o.op=true) (h:(execOp ρ o).run P w= .ok n w'): ∃ v,n= .value v:=by
 unfold execOp at h
 cases ho:o.op <;> rw [ho] at hp h <;> simp only [zLD,Bool.false_eq_true] at hp
 all_goals first | exact zEh (f:=fun x=>x) h | (cases h;exact ⟨_,rfl⟩) | skip
 ·rename_i c x y
  exact zEh (s:=asBool (ρ c)) (f:=fun b=>if b then ρ x else ρ y) h
 ·rename_i x
  have hb: ∀ {α:Type} (s:Sem α) (f:α→Sem Next) (w0:World),(∀ a w1,(f a).run P w1= .ok n w'→∃ v,n= .value v)→(s>>=f).run P w0= .ok n w'→∃ v,n= .value v:=by
   intro α s f w0 hf hr
   rw [Sem.run_bind] at hr
   cases hs:s.run P w0 with
   | ok v w1=>rw [hs] at hr;exact hf _ _ hr
   | halt x w1=>rw [hs] at hr;simp only [Result.andThen] at hr;cases hr
  have hpan:(runtimePanic .nilDeref:Sem Next).run P w= .ok n w'→∃ v,n= .value v:=by
   intro he
   unfold runtimePanic at he
   refine hb _ _ _ ?_ he
   intro a w1 h1
   cases h1
  simp only at h
  split at h
  ·exact hpan h
  ·exact hpan h
  ·exact hpan h
  ·split at h
   ·exact hpan h
   ·refine hb _ _ _ ?_ h
    intro p w1 h1
    refine hb _ _ _ ?_ h1
    intro q w2 h2
    split at h2
    ·refine hb _ _ _ ?_ h2
     intro r w3 h3
     cases h3
     exact ⟨_,rfl⟩
    ·cases h2
     exact ⟨_,rfl⟩
   ·cases h;exact ⟨_,rfl⟩
  ·cases h;exact ⟨_,rfl⟩
 ·rename_i c
  replace h:((resolve ρ c o.type)>>=fun d=>invoke d.target d.args).run P w= .ok n w':=h
  rw [Sem.run_bind] at h
  unfold resolve at h
  cases hc:c.callee with
  | value f=>rw [hc] at hp;simp at hp
  | invoke r m=>rw [hc] at hp;simp at hp
  | builtin b=>
   rw [hc] at hp h
   have e: ∀ d:Deferred,(pure d:Sem Deferred).run P w= .ok d w:=fun _=>rfl
   simp only [e,Result.andThen] at h
   unfold invoke at h
   cases b <;> simp at hp <;> exact zEh (f:=fun x=>x) h
structure zY0 (w:World) where
 W:World
 le:Ext w W
def zcX (w:World):World→Prop:=fun w'=>∃ x:zY0 w,w'=x.W
theorem zcX.iff {w w':World}:zcX w w'↔Ext w w':=⟨fun ⟨x,e⟩=>e▸x.le,fun h=>⟨⟨w',h⟩,rfl⟩⟩
theorem Ext.toDrew (w:World):Ext w w.drew:=Ext.drewR (Ext.refl w)
section
variable {P:Program} {ops:Array Oper} {Q:Exit→Act→World→Prop}
theorem zIS {w:World} {o:Oper} {a:Act} {v:Value} (hp:zLD o.op=true) (hw:Region.wanted o (yielded ops a.tmps)=true)
 (h: ∀ w',zcX w w'→o.quietAt P a (zcX w) w' v):YieldsIf P ops (Ext w) o v a:=by
 refine .inl ⟨hw,fun w' hE=>?_⟩
 have:=h w' (zcX.iff.2 hE)
 unfold Oper.quietAt at this
 cases hr:(execOp a.eval o).run P w' with
 | halt x w1=>rw [hr] at this;simp [Oper.quietUpon] at this
 | ok n w1=>
  obtain ⟨u,rfl⟩:=zRX hp hr
  rw [hr] at this
  obtain ⟨rfl,rfl⟩:=this
  rfl
def NP (Q:Exit→Act→World→Prop):Exit→Act→World→Prop
 | .panic _,_,_=>False
 | e,a,w=>Q e a w
theorem NP.put (c:List PanicEntry) (a:Act) (d:Option Tmp) (v:Value) (w:World) (h:NP Q (.panic c) (a.put d v) w):NP Q (.panic c) a w:=h.elim
def zDj (ops:Array Oper) (listed:Array Bool):Prop:=∀ (j:Nat) (oj:Oper),ops[j]? =some oj→listed.getD j false=true→∀ e∈oj.after,Region.binds .any e=true→listed.getD e.on false=true
theorem zDj.set {listed:Array Bool} {i:Nat} (h:zDj ops listed) (hi:i∈Region.ready .any ops listed):zDj ops (listed.setIfInBounds i true):=by
 obtain ⟨_,oi,hoi,hall⟩:=mem_ready.1 hi
 intro j oj hj hl e he hb
 by_cases hij:i=j
 ·subst hij
  have:oj=oi:=Option.some.inj (hj.symm.trans hoi)
  subst this
  exact getD_set_true (hall e he hb)
 ·rw [getD_set_ne false hij] at hl
  exact getD_set_true (h j oj hj hl e he hb)
def zGw (ops:Array Oper):Nat→Nat→Nat→Bool
 | 0,_,_=>false
 | n+1,t,i=>match ops[t]? with
  | none=>false
  | some o=>o.after.any fun e=>Region.binds .any e&&(e.on==i||zGw ops n e.on i)
theorem zFU {listed:Array Bool} (hc:zDj ops listed): ∀ (n t i:Nat) (o:Oper),ops[t]? =some o→(∀ e∈o.after,Region.binds .any e=true→listed.getD e.on false=true)→zGw ops n t i=true→listed.getD i false=true
 | 0,_,_,_,_,_,h=>by simp [zGw] at h
 | n+1,t,i,o,ho,hall,h=>by
  simp only [zGw,ho] at h
  obtain ⟨e,he,hb⟩:=Array.any_eq_true'.1 h
  simp only [Bool.and_eq_true,Bool.or_eq_true,beq_iff_eq] at hb
  obtain ⟨hb,h1 | h1⟩:=hb
  ·rw [←h1];exact hall e he hb
  ·cases he2:ops[e.on]? with
   | none=>cases n <;> simp [zGw,he2] at h1
   | some o2=>exact zFU hc n e.on i o2 he2 (hc e.on o2 he2 (hall e he hb)) h1
theorem zBe {listed:Array Bool} {i:Nat} (h:listed.getD i true=false):listed.getD i false=false:=by
 rcases Nat.lt_or_ge i listed.size with h' | h'
 ·simp [h'] at h ⊢;exact h
 ·simp [Array.getElem?_eq_none h'] at h
def zBj (ops:Array Oper):List Nat→List Oper
 | []=>[]
 | i::l=>match ops[i]? with | some o=>o::zBj ops l | none=>zBj ops l
def zV3 (ops:Array Oper) (isT:Nat→Bool):List Nat→Array Bool→Bool
 | [],_=>true
 | i::l,listed=>(Region.ready .any ops listed).contains i&&Region.free .any ops listed i&&(match ops[i]? with | some o=>zLD o.op | none=>false)&&
  ((List.range ops.size).all fun j=>!isT j||zGw ops ops.size j i)&&zV3 ops isT l (listed.setIfInBounds i true)
def zIZ (l:List Nat) (listed:Array Bool):Array Bool:=l.foldl (fun s i=>s.setIfInBounds i true) listed
def zOe (ops:Array Oper):List Nat→Array Bool→Bool
 | [],listed=>(Region.ready .any ops listed).isEmpty
 | t::ts,listed=>Region.ready .any ops listed== [t]&&zOe ops ts (listed.setIfInBounds t true)
def zFZ (ops:Array Oper) (isT:Nat→Bool):List (List Nat×Nat)→List Nat→List Nat→Array Bool→Bool
 | [],last,tail,listed=>zV3 ops isT last listed&&((List.range ops.size).all fun j=>isT j||(zIZ last listed).getD j true)&&zOe ops tail (zIZ last listed)
 | (seg,i)::more,last,tail,listed=>zV3 ops isT seg listed&&(Region.ready .any ops (zIZ seg listed)== [i])&&zFZ ops isT more last tail ((zIZ seg listed).setIfInBounds i true)
def zJ9:List (List Nat×Nat)→List Nat→Nat
 | [],last=>last.length
 | (seg,_)::more,last=>seg.length+(1+zJ9 more last)
def zV4 (ops:Array Oper) (steps:List (List Nat×Nat)) (last tail:List Nat):Bool:=
 Region.noSelect ops&&zJ9 steps last+tail.length==ops.size&&zFZ ops (fun j=>tail.contains j) steps last tail (Array.replicate ops.size false)
theorem zFT {C:World→Prop}: ∀ (l:List Oper) (a:Act) (K K':Act→Prop),(∀ a,K a→K' a)→wpQuiet P ops C K l a→wpQuiet P ops C K' l a
 | [],a,K,K',hk,h=>hk a h
 | o::l,a,K,K',hk,h=>by
  unfold wpQuiet at*
  by_cases hw:Region.wanted o (yielded ops a.tmps)=true
  ·rw [if_pos hw] at h ⊢;exact Oper.quiet_mono (fun a h=>zFT l a K K' hk h) h
  ·rw [if_neg hw] at h ⊢;exact zFT l _ K K' hk h
end
end Go.Proofs.YtekkngkphejfcaaGreatDoor
namespace Go.Proofs.YtekkngkphejfcaaGreatDoor
open Go.RowKit
def zBP (ops:Array Oper):Bool:=ops.all fun o=>match o.op with
 | .defer _=>false
 | _=>true
theorem zAu {ops:Array Oper} (h:zBP ops=true) {j:Nat} {o:Oper} (hj:ops[j]? =some o): ∀ c,o.op≠.defer c:=by
 intro c hc
 have hm:o∈ops:=Array.mem_of_getElem? hj
 have:=Array.all_eq_true'.1 h o hm
 rw [hc] at this
 cases this
section
variable {F:Fence} {n:Nat} {P:Program} {ops:Array Oper} {Q:Exit→Act→World→Prop}
theorem zCI {S:World→Prop} {i:Nat} {o:Oper} {v:Value} {a:Act} (hF: ∀ f,F.fn f) (hd: ∀ c,o.op≠.defer c) (hi:ops[i]? =some o) (hy:YieldsIf P ops S o v a)
 {K:Act→World→Prop} {w:World} (hS:S w) (h:K (a.put o.dst v) w):wpOpIn F n P ops Q i K a w:=by
 unfold Go.wpOpIn
 simp only [hi]
 rcases hy with ⟨hw,hv⟩ | ⟨hw,rfl⟩
 ·simp only [hw,if_true,Oper.wpIn,Oper.semAt_eq _ _ _ hd,hv w hS,Oper.uponIn];exact ⟨fun f _=>hF f,h⟩
 ·simp only [hw,Bool.false_eq_true,if_false];exact ⟨fun f _=>hF f,h⟩
theorem zJA {S:World→Prop} {j:Nat} {oi oj:Oper} {v:Value} (hF: ∀ f,F.fn f) (hdj: ∀ c,oj.op≠.defer c) (hj:ops[j]? =some oj) (hap:oi.apart ops oj=true)
 (hsi: ∀ cs b,oi.op≠.select cs b) (hsj: ∀ cs b,oj.op≠.select cs b)
 (hQ: ∀ c a w,Q (.panic c) (a.put oi.dst v) w→Q (.panic c) a w) {K:Act→World→Prop} {a:Act} {w:World}
 (hy:YieldsIf P ops S oi v a) (h:wpOpIn F n P ops Q j K (a.put oi.dst v) w):
 wpOpIn F n P ops Q j (fun a' w'=>YieldsIf P ops S oi v a'∧K (a'.put oi.dst v) w') a w:=by
 obtain ⟨h1,h2,h3⟩:=Oper.apart_spec hap
 have keep: ∀ (a:Act),YieldsIf P ops S oi v a→∀ u,YieldsIf P ops S oi v (a.put oj.dst u):=fun a hy u=>
  hy.of_same (execOp_put oi hsi a oj.dst u h3) (wanted_put oi a oj.dst u h3)
 have keepD: ∀ d,YieldsIf P ops S oi v { a with defers:=d::a.defers }:=fun d=>hy.of_same rfl rfl
 unfold wpOpIn at*
 simp only [hj] at*
 rw [wanted_put oj a oi.dst v h1] at h
 split
 ·rename_i hw
  simp only [hw,if_true] at h
  unfold Oper.wpIn at*
  refine ⟨fun f _=>hF f,?_⟩
  have h:=h.2
  rw [Oper.semAt_eq _ _ _ hdj,execOp_put oj hsj a oi.dst v h1] at h
  rw [Oper.semAt_eq _ _ _ hdj]
  generalize (execOp a.eval oj).run P w=r at*
  cases r with
  | ok x w'=>
   cases x <;> simp only [Oper.uponIn] at h ⊢
   case value u=>exact ⟨keep a hy u,by rw [←Act.put_comm a v u h2];exact h⟩
   case skip=>exact ⟨keep a hy _,by rw [←Act.put_comm a v undef h2];exact h⟩
   case defer d=>
    refine ⟨keep _ (keepD d) _,?_⟩
    rw [←Act.put_comm _ v undef h2,←Act.put_defers]
    exact h
   case enter f args=>
    refine ⟨h.1,CallsIn.mono h.2 fun e w'' he=>?_⟩
    cases e with
    | returned u=>exact ⟨keep a hy u,by rw [←Act.put_comm a v u h2];exact he⟩
    | panicked c=>exact hQ _ _ _ he
    | outgrown=>exact he
   case row row args=>exact ⟨h.1,RowsIn.mono h.2 fun u w'' he=>⟨keep a hy u,by rw [←Act.put_comm a v u h2];exact he⟩⟩
   case round l f tmps assign body=>
    refine ⟨h.1,RoundIn.mono h.2 fun e w'' he=>?_⟩
    cases e with
    | returned u=>exact ⟨keep a hy u,by rw [←Act.put_comm a v u h2];exact he⟩
    | panicked c=>exact hQ _ _ _ he
    | outgrown=>exact he
  | halt x w'=>
   cases x <;> simp only [Oper.uponIn] at h ⊢
   case panic u=>exact hQ _ _ _ h
 ·rename_i hw
  simp only [hw] at h
  exact ⟨fun f _=>hF f,keep a hy _,by rw [←Act.put_comm a v undef h2];exact h.2⟩
theorem zOZ {i:Nat} {K:Act→World→Prop} {a:Act} {w:World} (h:wpOpIn F n P ops (NP Q) i K a w):wpOpIn F n P ops Q i K a w:=by
 unfold wpOpIn at*
 split
 ·rename_i ho;simp only [ho] at h;exact h
 ·rename_i o ho
  simp only [ho] at h
  have hl:LetsOut (NP Q)→LetsOut Q:=fun ⟨a,w,h⟩=>⟨a,w,h⟩
  by_cases hw:Region.wanted o (yielded ops a.tmps)=true
  ·rw [if_pos hw] at h ⊢
   unfold Oper.wpIn at*
   refine ⟨h.1,?_⟩
   have h:=h.2
   generalize (o.semAt F.round a.eval).run P w=r at*
   cases r with
   | ok x w'=>
    cases x <;> simp only [Oper.uponIn] at h ⊢ <;> first | exact h | skip
    ·refine ⟨h.1,CallsIn.mono h.2 fun e w'' he=>?_⟩
     cases e with
     | returned v=>exact he
     | panicked c=>exact he.elim
     | outgrown=>exact hl he
    ·refine ⟨h.1,RoundIn.mono h.2 fun e w'' he=>?_⟩
     cases e with
     | returned v=>exact he
     | panicked c=>exact he.elim
     | outgrown=>exact hl he
   | halt x w'=>cases x <;> simp only [Oper.uponIn] at h ⊢;exact h.elim
  ·rw [if_neg hw] at h ⊢;exact h
def zDK (F:Fence) (n:Nat) (P:Program) (ops:Array Oper) (Q:Exit→Act→World→Prop) (isT:Nat→Bool) (g:Nat) (S:World→Prop):Nat→Array Bool→Act→World→Prop
 | 0,listed,a,w=>(∀ j,j<ops.size→isT j=false→listed.getD j true=true)∧wpAnyIn F n P .any ops Q g listed a w
 | m+1,listed,a,w=>Region.ready .any ops listed≠[]∧∀ i∈Region.ready .any ops listed,wpOpIn F n P ops (NP Q) i (fun a' w'=>S w'∧zDK F n P ops Q isT g S m (listed.setIfInBounds i true) a' w') a w
theorem zHO {isT:Nat→Bool} {g:Nat} {S S':World→Prop} (hS: ∀ w,S' w→S w): ∀ (m:Nat) (listed:Array Bool) (a:Act) (w:World),
 zDK F n P ops Q isT g S' m listed a w→zDK F n P ops Q isT g S m listed a w
 | 0,_,_,_,h=>h
 | m+1,_,_,_,h=>⟨h.1,fun i hi=>wpOpIn_mono (fun _ _ h'=>⟨hS _ h'.1,zHO hS m _ _ _ h'.2⟩) (h.2 i hi)⟩
theorem zJB {isT:Nat→Bool} {g:Nat} {S:World→Prop}: ∀ (m:Nat) (listed:Array Bool) (a:Act) (w:World),zDK F n P ops Q isT g S m listed a w→wpAnyIn F n P .any ops Q (m+g) listed a w
 | 0,_,_,_,h=>by rw [Nat.zero_add];exact h.2
 | m+1,_,_,_,h=>by
  rw [show m+1+g=(m+g)+1 by omega]
  exact ⟨fun h0=>absurd h0 h.1,fun i hi=>wpOpIn_mono (fun a' w' h'=>zJB m _ a' w' h'.2) (zOZ (h.2 i hi))⟩
theorem zGk (hF: ∀ f,F.fn f) (hnd:zBP ops=true) {isT:Nat→Bool} {g:Nat} {S:World→Prop} {i k:Nat} {oi:Oper} {v:Value} (hi:ops[i]? =some oi) (hsel: ∀ (j:Nat) (o:Oper) cs b,ops[j]? =some o→o.op≠.select cs b)
 (hT: ∀ j,j<ops.size→isT j=true→zGw ops k j i=true):
 ∀ (m:Nat) (listed:Array Bool) (a:Act) (w:World),zDj ops listed→
  (∀ j oj,ops[j]? =some oj→j≠i→listed.getD j true=false→(∀ e∈oj.after,Region.binds .any e=true→e.on≠i)→oi.apart ops oj=true)→
  i∈Region.ready .any ops listed→YieldsIf P ops S oi v a→S w→
  zDK F n P ops Q isT g S m (listed.setIfInBounds i true) (a.put oi.dst v) w→zDK F n P ops Q isT g S (m+1) listed a w:=by
 intro m
 induction m with
 | zero=>
  intro listed a w hcl _ hr hy hS H
  have hiun:=(mem_ready.1 hr).1
  refine ⟨fun h=>(by rw [h] at hr;cases hr),fun j hj=>?_⟩
  by_cases hji:j=i
  ·subst hji;exact zCI hF (zAu hnd hi) hi hy hS ⟨hS,H⟩
  ·exfalso
   obtain ⟨hjun,oj,hoj,hall⟩:=mem_ready.1 hj
   have hjs:=(Array.getElem?_eq_some_iff.1 hoj).1
   cases ht:isT j with
   | true=>
    have:=zFU hcl k j i oj hoj hall (hT j hjs ht)
    rw [zBe hiun] at this
    cases this
   | false=>
    have:=H.1 j hjs ht
    rw [getD_set_ne true (Ne.symm hji),hjun] at this
    cases this
 | succ m ih=>
  intro listed a w hcl hfree hr hy hS H
  have hiun:=(mem_ready.1 hr).1
  refine ⟨fun h=>(by rw [h] at hr;cases hr),fun j hj=>?_⟩
  by_cases hji:j=i
  ·subst hji;exact zCI hF (zAu hnd hi) hi hy hS ⟨hS,H⟩
  ·have h1:=H.2 j (ready_mono hj hji)
   obtain ⟨hjun,oj,hoj,hall⟩:=mem_ready.1 hj
   have hnot: ∀ e∈oj.after,Region.binds .any e=true→e.on≠i:=fun e he hb heq=>by
    have h1:=hall e he hb
    rw [heq,zBe hiun] at h1
    cases h1
   have h2:=zJA hF (zAu hnd hoj) hoj (hfree j oj hoj hji hjun hnot) (fun cs b=>hsel i oi cs b hi) (fun cs b=>hsel j oj cs b hoj) (fun c a w h=>NP.put c a _ _ w h) hy h1
   have hfree': ∀ k ok,ops[k]? =some ok→k≠i→(listed.setIfInBounds j true).getD k true=false→
    (∀ e∈ok.after,Region.binds .any e=true→e.on≠i)→oi.apart ops ok=true:=fun k ok hk hki hun hno=>by
    refine hfree k ok hk hki ?_ hno
    by_cases hjk:j=k
    ·subst hjk;exact hjun
    ·rw [getD_set_ne true hjk] at hun;exact hun
   refine wpOpIn_mono (fun a' w' h3=>⟨h3.2.1,ih (listed.setIfInBounds j true) a' w' (hcl.set hj) hfree' (ready_mono hr (Ne.symm hji)) h3.1 h3.2.1 ?_⟩) h2
   rw [Array.setIfInBounds_comm _ _ hji]
   exact h3.2.2
def zIW (F:Fence) (n:Nat) (P:Program) (ops:Array Oper) (Q:Exit→Act→World→Prop):List Nat→Act→World→Prop
 | [],a,w=>Q .normal a w
 | t::ts,a,w=>wpOpIn F n P ops Q t (zIW F n P ops Q ts) a w
def zQJ (F:Fence) (n:Nat) (P:Program) (ops:Array Oper) (Q:Exit→Act→World→Prop):List (List Nat×Nat)→List Nat→List Nat→Act→World→Prop
 | [],last,tail,a,w=>wpQuiet P ops (fun w'=>∃ x:zY0 w,w'=x.W) (fun a'=>zIW F n P ops Q tail a' w) (zBj ops last) a
 | (seg,i)::more,last,tail,a,w=>wpQuiet P ops (fun w'=>∃ x:zY0 w,w'=x.W) (fun a'=>wpOpIn F n P ops (NP Q) i (fun a'' w''=>Ext w w''∧zQJ F n P ops Q more last tail a'' w'') a' w) (zBj ops seg) a
theorem zJH: ∀ (tail:List Nat) (listed:Array Bool) (a:Act) (w:World),zOe ops tail listed=true→zIW F n P ops Q tail a w→wpAnyIn F n P .any ops Q tail.length listed a w
 | [],listed,a,w,hk,h=>⟨by simpa [zOe] using hk,h⟩
 | t::ts,listed,a,w,hk,h=>by
  simp only [zOe,Bool.and_eq_true,beq_iff_eq] at hk
  refine ⟨fun h0=>(by rw [hk.1] at h0;cases h0),fun i hi=>?_⟩
  rw [hk.1,List.mem_singleton] at hi
  subst hi
  exact wpOpIn_mono (fun a' w' h'=>zJH ts _ a' w' hk.2 h') h
theorem zEl (hF: ∀ f,F.fn f) (hnd:zBP ops=true) {w:World} {isT:Nat→Bool} {g:Nat} (hs:Region.noSelect ops=true) {next:Act→Prop} {m:Nat}:
 ∀ (l:List Nat) (listed:Array Bool) (a:Act),zDj ops listed→zV3 ops isT l listed=true→wpQuiet P ops (zcX w) next (zBj ops l) a→
  (∀ a',zDj ops (zIZ l listed)→next a'→zDK F n P ops Q isT g (Ext w) m (zIZ l listed) a' w)→zDK F n P ops Q isT g (Ext w) (l.length+m) listed a w
 | [],listed,a,hcl,_,h,hn=>by
  simp only [List.length_nil,Nat.zero_add]
  exact hn a hcl h
 | i::l,listed,a,hcl,hk,h,hn=>by
  simp only [zV3,Bool.and_eq_true] at hk
  obtain ⟨⟨⟨⟨hr,hf⟩,hp⟩,hT⟩,hk'⟩:=hk
  have hr':i∈Region.ready .any ops listed:=by simpa using hr
  have hT': ∀ j,j<ops.size→isT j=true→zGw ops ops.size j i=true:=fun j hj ht=>by
   have:=List.all_eq_true.1 hT j (List.mem_range.2 hj)
   simpa [ht] using this
  have hfu:(i::l).length+m=(l.length+m)+1:=by simp;omega
  rw [hfu]
  cases hi:ops[i]? with
  | none=>rw [hi] at hp;simp at hp
  | some o=>
   rw [hi] at hp
   simp only [zBj,hi] at h
   unfold wpQuiet at h
   by_cases hw:Region.wanted o (yielded ops a.tmps)=true
   ·rw [if_pos hw] at h
    obtain ⟨v,h1,h2⟩:=h
    exact zGk hF hnd hi (Region.noSelect_spec hs) hT' _ listed a w hcl (Region.free_spec hi hf) hr' (zIS hp hw h1) (Ext.refl _) (zEl hF hnd hs l _ _ (hcl.set hr') hk' h2 hn)
   ·rw [if_neg hw] at h
    exact zGk hF hnd hi (Region.noSelect_spec hs) hT' _ listed a w hcl (Region.free_spec hi hf) hr' (.inr ⟨by simpa using hw,rfl⟩) (Ext.refl _) (zEl hF hnd hs l _ _ (hcl.set hr') hk' h hn)
theorem zJg (hF: ∀ f,F.fn f) (hnd:zBP ops=true) {isT:Nat→Bool} (hs:Region.noSelect ops=true):
 ∀ (steps:List (List Nat×Nat)) (last tail:List Nat) (listed:Array Bool) (a:Act) (w:World),zDj ops listed→zFZ ops isT steps last tail listed=true→zQJ F n P ops Q steps last tail a w→
  zDK F n P ops Q isT tail.length (Ext w) (zJ9 steps last) listed a w
 | [],last,tail,listed,a,w,hcl,hk,h=>by
  simp only [zFZ,Bool.and_eq_true] at hk
  obtain ⟨⟨h1,h2⟩,h3⟩:=hk
  have:=zEl (m:=0) hF hnd hs last listed a hcl h1 h (fun a' _ hq=>⟨fun j hj ht=>by
   have:=List.all_eq_true.1 h2 j (List.mem_range.2 hj)
   simpa [ht] using this,zJH tail _ a' w h3 hq⟩)
  simpa [zJ9] using this
 | (seg,i)::more,last,tail,listed,a,w,hcl,hk,h=>by
  simp only [zFZ,Bool.and_eq_true,beq_iff_eq] at hk
  obtain ⟨⟨h1,h2⟩,h3⟩:=hk
  refine zEl hF hnd hs seg listed a hcl h1 h fun a' hcl' hq=>?_
  rw [Nat.add_comm 1]
  refine ⟨fun h0=>(by rw [h2] at h0;cases h0),fun j hj=>?_⟩
  have hj':=hj
  rw [h2,List.mem_singleton] at hj
  subst hj
  refine wpOpIn_mono (fun a'' w'' h'=>⟨h'.1,?_⟩) hq
  exact zHO (fun W hW=>h'.1.trans hW) _ _ _ _ (zJg hF hnd hs more last tail _ a'' w'' (hcl'.set hj') h3 h'.2)
theorem zIT {id:Nat} {a:Act} {w:World} (hF: ∀ f,F.fn f) (steps:List (List Nat×Nat)) (last tail:List Nat) (hm:P.follows .mixedOrders=true) (hB:(zV4 ops steps last tail&&zBP ops)=true)
 (h:zQJ F n P ops Q steps last tail a w.drew):(Code.region id ops true).wpIn F n P Q a w:=by
 simp only [zV4,Bool.and_eq_true,beq_iff_eq] at hB
 obtain ⟨⟨⟨h1,h2⟩,h3⟩,h4⟩:=hB
 have hcl:zDj ops (Array.replicate ops.size false):=fun j oj _ hl=>by
  exfalso
  rcases Nat.lt_or_ge j ops.size with h | h
  ·simp [h] at hl
  ·simp [h] at hl
 have:=zJB _ _ _ _ (zJg hF h4 h1 steps last tail _ a w.drew hcl h3 h)
 rw [h2] at this
 exact wpIn_region_any hm this
theorem zKR: ∀ (tail:List Nat) (a:Act) (w:World),(∀ t∈tail,t<ops.size)→wpListIn F n P ops Q (zBj ops tail) a w→zIW F n P ops Q tail a w
 | [],_,_,_,h=>h
 | t::ts,a,w,hl,h=>by
  have ht:ops[t]? =some (ops[t]'(hl t (by simp))):=Array.getElem?_eq_getElem _
  simp only [zBj,ht] at h
  unfold zIW wpOpIn
  simp only [ht]
  unfold wpListIn at h
  have hm: ∀ a w,wpListIn F n P ops Q (zBj ops ts) a w→zIW F n P ops Q ts a w:=fun a w h=>zKR ts a w (fun t ht=>hl t (by simp [ht])) h
  by_cases hw:Region.wanted (ops[t]'(hl t (by simp))) (yielded ops a.tmps)=true
  ·rw [if_pos hw] at h ⊢
   exact Oper.wpIn_mono hm h
  ·rw [if_neg hw] at h ⊢
   exact ⟨h.1,hm _ _ h.2⟩
theorem zRy {last tail:List Nat} {a:Act} {w:World} (ht:(tail.all fun t=>decide (t<ops.size))=true)
 (h:wpQuiet P ops (fun w'=>∃ x:zY0 w,w'=x.W) (fun a'=>wpListIn F n P ops Q (zBj ops tail) a' w) (zBj ops last) a):
 zQJ F n P ops Q [] last tail a w:=by
 refine zFT _ _ _ _ (fun a' h=>?_) h
 exact zKR tail a' w (fun t h=>by simpa using List.all_eq_true.1 ht t h) h
end
end Go.Proofs.YtekkngkphejfcaaGreatDoor
namespace Go.Proofs.YtekkngkphejfcaaGreatDoor
open Go.RowKit
structure Upd (S:Nat→Prop) (w w':World):Prop where
 os:w'.os=w.os
 tape:w'.tape=w.tape
 output:w'.output=w.output
 size:w.heap.size≤w'.heap.size
 block: ∀ k,k<w.heap.size→¬ S k→w'.heap[k]? =w.heap[k]?
theorem Upd.refl (S:Nat→Prop) (w:World):Upd S w w:=⟨rfl,rfl,rfl,Nat.le_refl _,fun _ _ _=>rfl⟩
theorem Upd.comp {S S':Nat→Prop} {a b c:World} (h:Upd S a b) (k:Upd S' b c) (hs: ∀ i,i<a.heap.size→S' i→S i):Upd S a c:=
 ⟨k.os.trans h.os,k.tape.trans h.tape,k.output.trans h.output,Nat.le_trans h.size k.size,
  fun i hi hn=>(k.block i (Nat.lt_of_lt_of_le hi h.size) (fun hx=>hn (hs i hi hx))).trans (h.block i hi hn)⟩
theorem Upd.trans {S:Nat→Prop} {a b c:World} (h:Upd S a b) (k:Upd S b c):Upd S a c:=h.comp k fun _ _ h=>h
theorem Upd.mono {S S':Nat→Prop} {a b:World} (h:Upd S a b) (hs: ∀ i,i<a.heap.size→S i→S' i):Upd S' a b:=
 ⟨h.os,h.tape,h.output,h.size,fun i hi hn=>h.block i hi fun hx=>hn (hs i hi hx)⟩
theorem Upd.ofExt {S:Nat→Prop} {a b:World} (h:Ext a b):Upd S a b:=⟨Below.os h,Below.tape h,Below.output h,Below.size h,fun i hi _=>Below.block h i hi⟩
theorem Upd.toExt {S:Nat→Prop} {a b:World} (h:Upd S a b) (hs: ∀ i,i<a.heap.size→¬ S i):Ext a b:=⟨h.os,h.tape,h.output,h.size,fun i hi=>h.block i hi (hs i hi)⟩
theorem Upd.alloc {S:Nat→Prop} {a b:World} (h:Upd S a b) (o:Obj):Upd S a (b.alloc o):=h.trans (Upd.ofExt (Ext.alloc b o))
theorem Upd.setCell {S:Nat→Prop} {a b:World} (h:Upd S a b) {p:Addr} (hp:p.block<a.heap.size→S p.block) (u:Value):Upd S a (b.setCell p u):=by
 refine h.comp (S':=fun k=>k=p.block) ⟨rfl,rfl,rfl,?_,fun k _ hk=>?_⟩ (fun i hi e=>by cases e;exact hp hi)
 ·show b.heap.size≤(b.heap.modify _ _).size
  rw [Array.size_modify];exact Nat.le_refl _
 ·exact Below.heap_setCell b p u k hk
theorem Upd.putObj {S:Nat→Prop} {a b:World} (h:Upd S a b) {l:Nat} (hl:l<a.heap.size→S l) (o:Obj):Upd S a (b.putObj l o):=by
 refine h.comp (S':=fun k=>k=l) ⟨rfl,rfl,rfl,by simp,fun k _ hk=>World.putObj_heap_other hk⟩ (fun i hi e=>by cases e;exact hl hi)
theorem Upd.cell {S:Nat→Prop} {a b:World} (h:Upd S a b) {p:Addr} {u:Value} (hs: ¬ S p.block) (hc:a.cell? p=some u):b.cell? p=some u:=by
 rw [World.cell?_of_block (h.block p.block (World.block_lt_of_cell? a p hc) hs)];exact hc
def zCg (I:(Nat→Prop)→World→Prop):Prop:=
 ∀ (G G':Nat→Prop) (A B:World),I G A→Upd G A B→(∀ k,G' k→G k∨A.heap.size≤k)→(∀ k,G' k→k<B.heap.size)→I G' B
def zSZ (Keep:Nat→Prop) (I:World→Prop) (Ix:Code→World→Prop) (W:World):Exit→Act→World→Prop
 | .normal,_,W'=>Upd (fun k=>¬ Keep k) W W'∧I W'
 | .ret,_,W'=>Upd (fun k=>¬ Keep k) W W'∧Ix .ret W'
 | .exit id,_,W'=>Upd (fun k=>¬ Keep k) W W'∧Ix (.exit id) W'
 | .goto t,_,W'=>Upd (fun k=>¬ Keep k) W W'∧Ix (.goto t) W'
 | .panic _,_,_=>False
 | .outgrown,_,_=>False
def zY2 (P:Program) (g:Nat) (lb:Array Value) (encs:List (Array Value)) (G0 Rd:Nat→Prop) (w:World):Prop:=
 ∀ (l:Nat) (J:Nat→(Nat→Prop)→World→Prop) (Jx:(Nat→Prop)→World→Prop) (G:Nat→Prop) (W:World),
  (∀ i,zCg (J i))→zCg Jx→Upd (fun k=>¬ (G0 k∨Rd k)) w W→(∀ k,G0 k→G k)→(∀ k,G k→k<W.heap.size)→
  (∀ i args G W1,encs[i]? =some args→J i G W1→YieldAt Fence.wide 0 P l args W1 fun e W'=>
   Upd (fun k=>¬ (G k∨Rd k)) W1 W'∧((e= .returned (.bool true)∧J (i+1) G W')∨(e= .returned (.bool false)∧Jx G W')))→
  J 0 G W→
  CallsIn Fence.wide 0 P g (#[.func (.yield l) #[] #[]]++lb) W fun e W'=>(∃ v,e= .returned v)∧((∃ G',J encs.length G' W')∨(∃ G',Jx G' W'))
section
variable {P:Program}
theorem zMa {ps:Array Tmp} {assign body:Code} {a:Act} {gf:Nat} {lb:Array Value} {encs:List (Array Value)} {G0 Rd:Nat→Prop} {w0 W1:World} {l D dd:Nat} {fn:FuncId} {loose:Bool}
 (hseq:zY2 P gf lb encs G0 Rd w0) (hb0:Upd (fun k=>¬ (G0 k∨Rd k)) w0 W1) (hG0: ∀ k,G0 k→k<l∧k≠D) (hRd: ∀ k,Rd k→k≠l) (hps: ∀ x∈encs,x.size=ps.size)
 (rec:LoopState→Option Code→Loop) (hrec: ∀ st pe,rec st pe= { state:=st,pending:=pe,fn,tmps:=a.tmps,params:=ps,assign,body,defers:=dd })
 (hl1:W1.heap[l]? =some (.loop (rec .ready none))) (hD1:loose=false→W1.heap[D]? =some (.deferred (some []))) (hlD:D≠l)
 (I:Nat→(Nat→Prop)→World→Prop) (Ix:Code→(Nat→Prop)→World→Prop) (hI: ∀ i,zCg (I i)) (hIx: ∀ c,zCg (Ix c)) (own:Nat→Prop) (hown: ∀ k,own k→k=l∨(loose=false∧k=D)) (hol:own l) (hod:loose=false→own D)
 (h0:I 0 (fun k=>G0 k∨own k) W1)
 (hround: ∀ (G:Nat→Prop) (i:Nat) (x:Array Value) (W:World),encs[i]? =some x→I i G W→(∃ r,W.heap[l]? =some (.loop r))→G l→
  assign.wpIn (Fence.wide.inRound l) 0 P (Exit.then (fun a₁ W₁=>∃ K:(Nat→Prop)→World→Prop,zCg K∧Upd (fun k=>¬ (G k∨Rd k)) W W₁∧K G W₁∧∀ W₂,K G W₂→(∃ r,W₂.heap[l]? =some (.loop r))→
   body.wpIn (Fence.wide.inRound l) 0 P (zSZ (fun k=>G k∨Rd k) (I (i+1) G) (fun c=>Ix c G) W₂) a₁ W₂) (fun _ _ _=>False)) { tmps:=(ps.zip x).foldl (fun t (p,v)=>t.setIfInBounds p v) a.tmps,defers:=[] } W):
 CallsIn Fence.wide 0 P gf (#[.func (.yield l) #[] #[]]++lb) W1 fun e W2=>(∃ v,e= .returned v)∧
  ((∃ G,I encs.length G W2∧(∀ k,G k→k<W2.heap.size)∧G l∧(loose=false→G D)∧W2.heap[l]? =some (.loop (rec .ready none))∧(loose=false→W2.heap[D]? =some (.deferred (some []))))∨
   (∃ c G,Ix c G W2∧(∀ k,G k→k<W2.heap.size)∧G l∧(loose=false→G D)∧W2.heap[l]? =some (.loop (rec .done (some c)))∧(loose=false→W2.heap[D]? =some (.deferred (some []))))):=by
 have nG: ∀ (G G':Nat→Prop) (A:World) (k:Nat) (o:Obj),¬ G k→A.heap[k]? =some o→(∀ k,G' k→G k∨A.heap.size≤k)→¬ G' k:=fun G G' A k o hn hk hg hx=>by
  have hlt:=(Array.getElem?_eq_some_iff.1 hk).1
  rcases hg k hx with h | h
  ·exact hn h
  ·omega
 have kept: ∀ (G:Nat→Prop) (A B:World) (k:Nat) (o:Obj),¬ G k→A.heap[k]? =some o→Upd G A B→B.heap[k]? =some o:=fun G A B k o hn hk hu=>
  (hu.block k (Array.getElem?_eq_some_iff.1 hk).1 hn).trans hk
 have base: ∀ (Φ:(Nat→Prop)→World→Prop) (r:Loop),zCg Φ→zCg (fun G W=>Φ (fun k=>G k∨own k) W∧¬ G l∧(loose=false→¬ G D)∧W.heap[l]? =some (.loop r)∧(loose=false→W.heap[D]? =some (.deferred (some [])))∧∀ k,G k→k<W.heap.size):=by
  intro Φ r hΦ G G' A B ⟨h1,h2,h3,h4,h5,h6⟩ hu hg hgb
  refine ⟨hΦ _ _ A B h1 (hu.mono fun i _ h=>.inl h) (fun k hk=>?_) (fun k hk=>hk.elim (hgb k) fun ho=>Nat.lt_of_lt_of_le ((hown k ho).elim (fun e=>e▸(Array.getElem?_eq_some_iff.1 h4).1) (fun e=>e.2▸(Array.getElem?_eq_some_iff.1 (h5 e.1)).1)) hu.size),nG G G' A l _ h2 h4 hg,fun hl=>nG G G' A D _ (h3 hl) (h5 hl) hg,kept G A B l _ h2 h4 hu,fun hl=>kept G A B D _ (h3 hl) (h5 hl) hu,hgb⟩
  rcases hk with hk | hk
  ·exact (hg k hk).imp .inl id
  ·exact .inl (.inr hk)
 refine (hseq l
  (fun i G W=>I i (fun k=>G k∨own k) W∧¬ G l∧(loose=false→¬ G D)∧W.heap[l]? =some (.loop (rec .ready none))∧(loose=false→W.heap[D]? =some (.deferred (some [])))∧∀ k,G k→k<W.heap.size)
  (fun G W=>∃ c,Ix c (fun k=>G k∨own k) W∧¬ G l∧(loose=false→¬ G D)∧W.heap[l]? =some (.loop (rec .done (some c)))∧(loose=false→W.heap[D]? =some (.deferred (some [])))∧∀ k,G k→k<W.heap.size)
  G0 W1 (fun i=>base (I i) _ (hI i)) (fun G G' A B ⟨c,h⟩ hu hg hgb=>⟨c,base (Ix c) _ (hIx c) G G' A B h hu hg hgb⟩) hb0 (fun _ h=>h) (fun k h=>Nat.lt_trans (hG0 k h).1 (Array.getElem?_eq_some_iff.1 hl1).1) ?_
  ⟨h0,fun h=>by have:=(hG0 l h).1;omega,fun _ h=>(hG0 D h).2 rfl,hl1,hD1,fun k h=>Nat.lt_trans (hG0 k h).1 (Array.getElem?_eq_some_iff.1 hl1).1⟩).mono ?_
 ·rintro i x G W hx ⟨hi,hnl,hnd,hl,hd,hgb⟩
  have hxm:x∈encs:=List.mem_of_getElem? hx
  have hlt:l<W.heap.size:=(Array.getElem?_eq_some_iff.1 hl).1
  have hob: ∀ k,(G k∨own k)→k<W.heap.size:=fun k hk=>hk.elim (hgb k) fun ho=>(hown k ho).elim (fun e=>e▸hlt) (fun e=>e.2▸(Array.getElem?_eq_some_iff.1 (hd e.1)).1)
  have hy:=run_yield (P:=P) (args:=x) hl (by rw [hrec];exact hps x hxm)
  rw [hrec] at hy
  refine ⟨fn,_,assign,body,hy,roundIn_of_wpIn trivial (wpIn_mono (hround _ i x W hx hi ⟨_,hl⟩ (.inr hol)) ?_)⟩
  rintro e a1 W1' hq
  cases e <;> first | exact hq.elim | skip
  obtain ⟨K,hK,hu1,hk1,hb⟩:=hq
  have hu1':Upd (fun k=>¬ (G k∨Rd k)) W W1':=hu1.mono fun k _ h hx=>h (hx.imp .inl id)
  have hl:=(hu1.block l hlt (fun h=>h (.inl (.inr hol)))).trans hl
  have hd:loose=false→W1'.heap[D]? =some (.deferred (some [])):=fun h=>(hu1.block D (Array.getElem?_eq_some_iff.1 (hd h)).1 (fun hx=>hx (.inl (.inr (hod h))))).trans (hd h)
  have hlt:l<W1'.heap.size:=Nat.lt_of_lt_of_le hlt hu1.size
  have hgb: ∀ k,G k→k<W1'.heap.size:=fun k h=>Nat.lt_of_lt_of_le (hgb k h) hu1.size
  have hob: ∀ k,(G k∨own k)→k<W1'.heap.size:=fun k h=>Nat.lt_of_lt_of_le (hob k h) hu1.size
  refine ⟨_,run_beginRound hl (by rw [hrec]),?_⟩
  have hl2:(W1'.putObj l (.loop { rec .ready none with state:=.busy })).heap[l]? =some (.loop { rec .ready none with state:=.busy }):=World.putObj_heap_same hlt
  have hd2:loose=false→(W1'.putObj l (.loop { rec .ready none with state:=.busy })).heap[D]? =some (.deferred (some [])):=fun h=>(World.putObj_heap_other hlD).trans (hd h)
  have hu2:Upd (fun k=>G k∨own k) W1' (W1'.putObj l (.loop { rec .ready none with state:=.busy })):=(Upd.refl _ W1').putObj (fun _=>.inr hol) _
  refine wpIn_mono (hb _ (hK _ _ _ _ hk1 hu2 (fun k h=>.inl h) (fun k h=>Nat.lt_of_lt_of_le (hob k h) hu2.size)) ⟨_,hl2⟩) ?_
  have fin: ∀ (jump:Option Code) (W3:World),Upd (fun k=>¬ ((G k∨own k)∨Rd k)) (W1'.putObj l (.loop { rec .ready none with state:=.busy })) W3→
   (Instr.endRound l jump).run P W3= .ok (.bool jump.isNone) (W3.putObj l (.loop (rec (if jump.isNone then .ready else .done) jump)))∧
   W3.heap[l]? =some (.loop { rec .ready none with state:=.busy })∧
   (W3.putObj l (.loop (rec (if jump.isNone then .ready else .done) jump))).heap[l]? =some (.loop (rec (if jump.isNone then .ready else .done) jump))∧
   (loose=false→(W3.putObj l (.loop (rec (if jump.isNone then .ready else .done) jump))).heap[D]? =some (.deferred (some [])))∧
   Upd (fun k=>¬ (G k∨Rd k)) W1' (W3.putObj l (.loop (rec (if jump.isNone then .ready else .done) jump)))∧
   Upd (fun k=>G k∨own k) W3 (W3.putObj l (.loop (rec (if jump.isNone then .ready else .done) jump))):=fun jump W3 hk3=>by
   have hl3:W3.heap[l]? =some (.loop { rec .ready none with state:=.busy }):=(hk3.block l (by simpa using hlt) (fun h=>h (.inl (.inr hol)))).trans hl2
   have:=run_endRound (P:=P) jump hl3
   refine ⟨by rw [hrec] at this ⊢;exact this,hl3,World.putObj_heap_same (Array.getElem?_eq_some_iff.1 hl3).1,fun h=>(World.putObj_heap_other hlD).trans ((hk3.block D ?_ (fun hx=>hx (.inl (.inr (hod h))))).trans (hd2 h)),?_,(Upd.refl _ W3).putObj (fun _=>.inr hol) _⟩
   ·simpa using (Array.getElem?_eq_some_iff.1 (hd h)).1
   ·refine ⟨hk3.os,hk3.tape,hk3.output,by simpa using hk3.size,fun k hk hn=>?_⟩
    have hGR:G k∨Rd k:=Classical.not_not.1 hn
    by_cases hkl:k=l
    ·subst hkl
     exact (hGR.elim hnl (fun h=>hRd k h rfl)).elim
    ·rw [World.putObj_heap_other hkl,hk3.block k (by simpa using hk) (fun hx=>hx (hGR.imp .inl id)),World.putObj_heap_other hkl]
  rintro e a3 W3 hp
  cases e with
  | normal=>
   obtain ⟨hk3,hi3⟩:=hp
   obtain ⟨hr,hl3,hl4,hd4,hu4,hu5⟩:=fin none W3 hk3
   exact ⟨_,_,hr,hu1'.comp hu4 (fun _ _ h=>h),.inl ⟨rfl,hI _ _ _ _ _ hi3 hu5 (fun k h=>.inl h) (fun k h=>Nat.lt_of_lt_of_le (hob k h) (Nat.le_trans hu2.size (Nat.le_trans hk3.size hu5.size))),hnl,hnd,hl4,hd4,fun k h=>Nat.lt_of_lt_of_le (hgb k h) (Nat.le_trans hu2.size (Nat.le_trans hk3.size hu5.size))⟩⟩
  | ret=>
   obtain ⟨hk3,hi3⟩:=hp
   obtain ⟨hr,hl3,hl4,hd4,hu4,hu5⟩:=fin (some .ret) W3 hk3
   exact ⟨_,_,hr,hu1'.comp hu4 (fun _ _ h=>h),.inr ⟨rfl,.ret,hIx _ _ _ _ _ hi3 hu5 (fun k h=>.inl h) (fun k h=>Nat.lt_of_lt_of_le (hob k h) (Nat.le_trans hu2.size (Nat.le_trans hk3.size hu5.size))),hnl,hnd,hl4,hd4,fun k h=>Nat.lt_of_lt_of_le (hgb k h) (Nat.le_trans hu2.size (Nat.le_trans hk3.size hu5.size))⟩⟩
  | exit id=>
   obtain ⟨hk3,hi3⟩:=hp
   obtain ⟨hr,hl3,hl4,hd4,hu4,hu5⟩:=fin (some (.exit id)) W3 hk3
   exact ⟨_,_,hr,hu1'.comp hu4 (fun _ _ h=>h),.inr ⟨rfl,.exit id,hIx _ _ _ _ _ hi3 hu5 (fun k h=>.inl h) (fun k h=>Nat.lt_of_lt_of_le (hob k h) (Nat.le_trans hu2.size (Nat.le_trans hk3.size hu5.size))),hnl,hnd,hl4,hd4,fun k h=>Nat.lt_of_lt_of_le (hgb k h) (Nat.le_trans hu2.size (Nat.le_trans hk3.size hu5.size))⟩⟩
  | goto t=>
   obtain ⟨hk3,hi3⟩:=hp
   obtain ⟨hr,hl3,hl4,hd4,hu4,hu5⟩:=fin (some (.goto t)) W3 hk3
   exact ⟨_,_,hr,hu1'.comp hu4 (fun _ _ h=>h),.inr ⟨rfl,.goto t,hIx _ _ _ _ _ hi3 hu5 (fun k h=>.inl h) (fun k h=>Nat.lt_of_lt_of_le (hob k h) (Nat.le_trans hu2.size (Nat.le_trans hk3.size hu5.size))),hnl,hnd,hl4,hd4,fun k h=>Nat.lt_of_lt_of_le (hgb k h) (Nat.le_trans hu2.size (Nat.le_trans hk3.size hu5.size))⟩⟩
  | panic ch=>exact hp.elim
  | outgrown=>exact hp.elim
 ·have ob: ∀ (G:Nat→Prop) (W2:World) (r:Loop),W2.heap[l]? =some (.loop r)→(loose=false→W2.heap[D]? =some (.deferred (some [])))→(∀ k,G k→k<W2.heap.size)→∀ k,(G k∨own k)→k<W2.heap.size:=fun G W2 r h4 h5 h6 k hk=>
   hk.elim (h6 k) fun ho=>(hown k ho).elim (fun e=>e▸(Array.getElem?_eq_some_iff.1 h4).1) (fun e=>e.2▸(Array.getElem?_eq_some_iff.1 (h5 e.1)).1)
  rintro e W2 ⟨hv,(⟨G,h1,h2,h3,h4,h5,h6⟩ | ⟨G,c,h1,h2,h3,h4,h5,h6⟩)⟩
  ·exact ⟨hv,.inl ⟨_,h1,ob _ _ _ h4 h5 h6,.inr hol,fun h=>.inr (hod h),h4,h5⟩⟩
  ·exact ⟨hv,.inr ⟨c,_,h1,ob _ _ _ h4 h5 h6,.inr hol,fun h=>.inr (hod h),h4,h5⟩⟩
theorem zGu {g:Operand} {ps:Array Tmp} {assign body:Code} {Q:Exit→Act→World→Prop} {a:Act} {w:World}
 {gf:Nat} {lb:Array Value} (hg:a.eval g= .func (.func gf) #[] lb) (eg: ∀ args w,(callFunc gf args).run P w= .ok (.enter gf args) w)
 {encs:List (Array Value)} {G0 Rd:Nat→Prop} (hseq:zY2 P gf lb encs G0 Rd w) (hG0: ∀ k,G0 k→k<w.heap.size) (hRd: ∀ k,Rd k→k<w.heap.size) (hps: ∀ x∈encs,x.size=ps.size)
 (I:Nat→(Nat→Prop)→World→Prop) (Ix:Code→(Nat→Prop)→World→Prop) (hI: ∀ i,zCg (I i)) (hIx: ∀ c,zCg (Ix c)) (h0:I 0 G0 w)
 (hround: ∀ (l:Nat) (G:Nat→Prop) (i:Nat) (x:Array Value) (W:World),encs[i]? =some x→I i G W→(∃ r,W.heap[l]? =some (.loop r))→G l→
  assign.wpIn (Fence.wide.inRound l) 0 P (Exit.then (fun a₁ W₁=>∃ K:(Nat→Prop)→World→Prop,zCg K∧Upd (fun k=>¬ (G k∨Rd k)) W W₁∧K G W₁∧∀ W₂,K G W₂→(∃ r,W₂.heap[l]? =some (.loop r))→
   body.wpIn (Fence.wide.inRound l) 0 P (zSZ (fun k=>G k∨Rd k) (I (i+1) G) (fun c=>Ix c G) W₂) a₁ W₂) (fun _ _ _=>False)) { tmps:=(ps.zip x).foldl (fun t (p,v)=>t.setIfInBounds p v) a.tmps,defers:=[] } W)
 (hdone: ∀ (D:Nat) (G:Nat→Prop) (W:World),I encs.length G W→W.heap[D]? =some (.deferred (some []))→G D→w.heap.size≤D→
  Q .normal { a with defers:={ target:=.collected D,args:=#[] }::a.defers } W)
 (hstop: ∀ (D:Nat) (c:Code) (G:Nat→Prop) (W:World),Ix c G W→W.heap[D]? =some (.deferred (some []))→G D→w.heap.size≤D→
  c.wpIn Fence.wide 0 P Q { a with defers:={ target:=.collected D,args:=#[] }::a.defers } W):
 (Code.rangeFunc g ps assign body).wpIn Fence.wide 0 P Q a w:=by
 refine wpIn_rangeFunc ?_
 intro fn _
 have hs2:(w.alloc (.deferred (some []))).heap.size=w.heap.size+1:=World.size_alloc _ _
 obtain ⟨rec,hrec⟩: ∃ rec:LoopState→Option Code→Loop,∀ st pe,rec st pe= { state:=st,pending:=pe,fn,tmps:=a.tmps,params:=ps,assign,body,defers:=w.heap.size }:=⟨_,fun _ _=>rfl⟩
 obtain ⟨W1,hW1⟩: ∃ W1,(w.alloc (.deferred (some []))).alloc (.loop (rec .ready none))=W1:=⟨_,rfl⟩
 have hL1:W1.heap[w.heap.size+1]? =some (.loop (rec .ready none)):=by
  rw [←hW1];have:=World.alloc_heap_new (w.alloc (.deferred (some []))) (.loop (rec .ready none));rwa [World.size_alloc] at this
 have hK1:W1.heap[w.heap.size]? =some (.deferred (some [])):=by
  rw [←hW1];exact (Below.heap_alloc _ _ _ (by simp)).trans (World.alloc_heap_new w _)
 have hu: ∀ S,Upd S w W1:=fun S=>by rw [←hW1];exact ((Upd.refl S w).alloc _).alloc _
 refine ⟨w.heap.size+1,[{ target:=.collected w.heap.size,args:=#[] }],W1,{ target:=.fn (.func gf) lb,args:=#[.func (.yield (w.heap.size+1)) #[] #[]] },W1,gf,
  #[.func (.yield (w.heap.size+1)) #[] #[]]++lb,W1,?_,?_,fun _ _=>trivial,?_,(fun h=>by cases h),?_⟩
 ·rw [←hW1,hrec];exact run_enterLoop_outer _ _ _ _ _
 ·simp only [resolve,hg]
  simp [go_sem]
 ·simp [invoke,go_sem,eg]
 ·refine (zMa (loose:=false) (D:=w.heap.size) hseq (hu _) (fun k h=>by have:=hG0 k h;omega) (fun k h=>by have:=hRd k h;omega) hps rec hrec hL1 (fun _=>hK1) (by omega)
   I Ix hI hIx (fun k=>k=w.heap.size+1∨k=w.heap.size) (fun k h=>h.imp id fun h=>⟨rfl,h⟩) (.inl rfl) (fun _=>.inr rfl)
   (hI 0 _ _ _ _ h0 (hu _) (fun k h=>h.imp id (by omega)) (fun k h=>by have h2:=(Array.getElem?_eq_some_iff.1 hL1).1;rcases h with h | h | h <;> first | omega | (have:=hG0 k h;omega))) (hround _)).mono ?_
  rintro e W2 ⟨⟨v,rfl⟩,(⟨G,hi,hgb,_,hgd,hl,hk⟩ | ⟨c,G,hi,hgb,hgl,hgd,hl,hk⟩)⟩
  ·exact ⟨none,_,by have:=run_endLoop (P:=P) hl (by rw [hrec];simp);rw [hrec] at this;exact this,
    hdone _ _ _ (hI _ _ _ _ _ hi ((Upd.refl _ W2).putObj (fun _=>by assumption) _) (fun k h=>.inl h) (fun k h=>by simpa using hgb k h)) ((World.putObj_heap_other (by omega)).trans (hk rfl)) (hgd rfl) (Nat.le_refl _)⟩
  ·exact ⟨some c,_,by have:=run_endLoop (P:=P) hl (by rw [hrec];simp);rw [hrec] at this;exact this,
    hstop _ c _ _ (hIx _ _ _ _ _ hi ((Upd.refl _ W2).putObj (fun _=>hgl) _) (fun k h=>.inl h) (fun k h=>by simpa using hgb k h)) ((World.putObj_heap_other (by omega)).trans (hk rfl)) (hgd rfl) (Nat.le_refl _)⟩
theorem zGj {l0:Nat} {g:Operand} {ps:Array Tmp} {assign body:Code} {Q:Exit→Act→World→Prop} {a:Act} {w:World}
 {gf:Nat} {lb:Array Value} (hg:a.eval g= .func (.func gf) #[] lb) (eg: ∀ args w,(callFunc gf args).run P w= .ok (.enter gf args) w) (hl0: ∃ r,w.heap[l0]? =some (.loop r))
 {encs:List (Array Value)} {G0 Rd:Nat→Prop} (hseq:zY2 P gf lb encs G0 Rd w) (hG0: ∀ k,G0 k→k<w.heap.size) (hRd: ∀ k,Rd k→k<w.heap.size) (hps: ∀ x∈encs,x.size=ps.size)
 (I:Nat→(Nat→Prop)→World→Prop) (Ix:Code→(Nat→Prop)→World→Prop) (hI: ∀ i,zCg (I i)) (hIx: ∀ c,zCg (Ix c)) (h0:I 0 G0 w)
 (hround: ∀ (l:Nat) (G:Nat→Prop) (i:Nat) (x:Array Value) (W:World),encs[i]? =some x→I i G W→(∃ r,W.heap[l]? =some (.loop r))→G l→
  assign.wpIn (Fence.wide.inRound l) 0 P (Exit.then (fun a₁ W₁=>∃ K:(Nat→Prop)→World→Prop,zCg K∧Upd (fun k=>¬ (G k∨Rd k)) W W₁∧K G W₁∧∀ W₂,K G W₂→(∃ r,W₂.heap[l]? =some (.loop r))→
   body.wpIn (Fence.wide.inRound l) 0 P (zSZ (fun k=>G k∨Rd k) (I (i+1) G) (fun c=>Ix c G) W₂) a₁ W₂) (fun _ _ _=>False)) { tmps:=(ps.zip x).foldl (fun t (p,v)=>t.setIfInBounds p v) a.tmps,defers:=[] } W)
 (hdone: ∀ (G:Nat→Prop) (W:World),I encs.length G W→Q .normal a W)
 (hstop: ∀ (c:Code) (G:Nat→Prop) (W:World),Ix c G W→c.wpIn (Fence.wide.inRound l0) 0 P Q a W):
 (Code.rangeFunc g ps assign body).wpIn (Fence.wide.inRound l0) 0 P Q a w:=by
 refine wpIn_rangeFunc ?_
 intro fn _
 obtain ⟨r0,hr0⟩:=hl0
 obtain ⟨rec,hrec⟩: ∃ rec:LoopState→Option Code→Loop,∀ st pe,rec st pe= { state:=st,pending:=pe,fn,tmps:=a.tmps,params:=ps,assign,body,defers:=r0.defers }:=⟨_,fun _ _=>rfl⟩
 obtain ⟨W1,hW1⟩: ∃ W1,w.alloc (.loop (rec .ready none))=W1:=⟨_,rfl⟩
 have hL1:W1.heap[w.heap.size]? =some (.loop (rec .ready none)):=by
  rw [←hW1];exact World.alloc_heap_new w _
 have hu: ∀ S,Upd S w W1:=fun S=>by rw [←hW1];exact (Upd.refl S w).alloc _
 refine ⟨w.heap.size,[],W1,{ target:=.fn (.func gf) lb,args:=#[.func (.yield w.heap.size) #[] #[]] },W1,gf,
  #[.func (.yield w.heap.size) #[] #[]]++lb,W1,?_,?_,fun _ _=>trivial,?_,(fun h=>by cases h),?_⟩
 ·rw [←hW1,hrec];exact run_enterLoop_inner hr0 _ _ _ _ _
 ·simp only [resolve,hg]
  simp [go_sem]
 ·simp [invoke,go_sem,eg]
 ·refine CallsIn.inRound _ ((zMa (loose:=true) (D:=w.heap.size+1) (G0:=G0) hseq (hu _) (fun k h=>by have:=hG0 k h;omega) (fun k h=>by have:=hRd k h;omega) hps rec hrec hL1 (fun h=>by cases h) (by omega)
   I Ix hI hIx (fun k=>k=w.heap.size) (fun k h=>.inl h) rfl (fun h=>by cases h)
   (hI 0 _ _ _ _ h0 (hu _) (fun k h=>h.imp id (by omega)) (fun k h=>by have h2:=(Array.getElem?_eq_some_iff.1 hL1).1;rcases h with h | h <;> first | omega | (have:=hG0 k h;omega))) (hround _)).mono ?_)
  rintro e W2 ⟨⟨v,rfl⟩,(⟨G,hi,hgb,hgl,_,hl,_⟩ | ⟨c,G,hi,hgb,hgl,_,hl,_⟩)⟩
  ·exact ⟨none,_,by have:=run_endLoop (P:=P) hl (by rw [hrec];simp);rw [hrec] at this;exact this,
    hdone _ _ (hI _ _ _ _ _ hi ((Upd.refl _ W2).putObj (fun _=>hgl) _) (fun k h=>.inl h) (fun k h=>by simpa using hgb k h))⟩
  ·exact ⟨some c,_,by have:=run_endLoop (P:=P) hl (by rw [hrec];simp);rw [hrec] at this;exact this,
    hstop c _ _ (hIx _ _ _ _ _ hi ((Upd.refl _ W2).putObj (fun _=>hgl) _) (fun k h=>.inl h) (fun k h=>by simpa using hgb k h))⟩
end
def zEC (B:Nat):List Deferred→World→Prop
 | [],_=>True
 | d::ds,w=>∃ D,d= { target:=.collected D,args:=#[] }∧B≤D∧w.heap[D]? =some (.deferred (some []))∧(∀ d'∈ds,d'.target≠.collected D)∧zEC B ds w
theorem zEC.upd {B:Nat} {S:Nat→Prop} {w w':World} (hu:Upd S w w'): ∀ {ds:List Deferred},zEC B ds w→(∀ k,B≤k→S k→w.heap[k]? ≠some (.deferred (some [])))→zEC B ds w'
 | [],_,_=>trivial
 | _::_,⟨D,h1,h2,h3,h4,h5⟩,hs=>⟨D,h1,h2,(hu.block D (Array.getElem?_eq_some_iff.1 h3).1 (fun hx=>hs D h2 hx h3)).trans h3,h4,zEC.upd hu h5 hs⟩
theorem zEC.lt {B:Nat} {w:World}: ∀ {ds:List Deferred} (_:zEC B ds w) {d:Deferred} {D:Nat},d∈ds→d.target= .collected D→D<w.heap.size
 | _::_,⟨D,h1,h2,h3,h4,h5⟩,d,D',hm,ht=>by
  rcases List.mem_cons.1 hm with rfl | hm
  ·subst h1;cases ht;exact (Array.getElem?_eq_some_iff.1 h3).1
  ·exact zEC.lt h5 hm ht
def zdL (B:Nat) (w W:World):Prop:=Upd (fun k=>B≤k∧w.heap[k]? =some (.deferred (some []))) w W
def zdu (B:Nat) (P:Program) (fn:Func) (R:Ending→World→Prop):Exit→Act→World→Prop
 | .normal,a,w | .ret,a,w=>zEC B a.defers w∧∀ W,zdL B w W→∃ v,(results fn a.tmps).run P W= .ok v W∧R (.returned v) W
 | _,_,_=>False
theorem zJd {B:Nat} {P:Program} {fn:Func} {tmps:Array Value} {R:Ending→World→Prop}: ∀ (ds:List Deferred) (w:World),zEC B ds w→
 (∀ W,zdL B w W→∃ v,(results fn tmps).run P W= .ok v W∧R (.returned v) W)→LeavesInM Fence.wide 0 P fn tmps R ds .returning w
 | [],w,_,h=>h w (Upd.refl _ w)
 | _::ds,w,⟨D,h1,h2,h3,h4,h5⟩,h=>by
  refine ⟨by simp,.inl ⟨D,_,by rw [h1],run_takeDeferred h3,?_⟩⟩
  have hu:Upd (fun k=>k=D) w (w.putObj D (.deferred none)):=(Upd.refl (fun k=>k=D) w).putObj (fun _=>rfl) _
  have hne: ∀ {ds:List Deferred},(∀ d'∈ds,d'.target≠.collected D)→zEC B ds w→zEC B ds (w.putObj D (.deferred none)):=by
   intro ds
   induction ds with
   | nil=>intro _ _;trivial
   | cons d ds ih=>
    intro hd ⟨D',g1,g2,g3,g4,g5⟩
    refine ⟨D',g1,g2,?_,g4,ih (fun d' hm=>hd d' (by simp [hm])) g5⟩
    rw [World.putObj_heap_other (fun e=>hd d (by simp) (by rw [g1,e]))];exact g3
  refine zJd ds _ (hne h4 h5) fun W hW=>h W ?_
  refine hu.mono (S':=fun k=>B≤k∧w.heap[k]? =some (.deferred (some []))) (fun i _ e=>by cases e;exact ⟨h2,h3⟩) |>.comp hW fun i hi hx=>⟨hx.1,?_⟩
  by_cases e:i=D
  ·rw [e];exact h3
  ·rw [←World.putObj_heap_other (o:=.deferred none) e];exact hx.2
theorem zR7 (B:Nat) {P:Program} {f:FuncId} {fn:Func} {c:Code} {args:Array Value} {w:World} {R:Ending→World→Prop}
 (hf:P.funcs[f]? =some fn) (hb:fn.body=some c)
 (h:c.wp P (zdu B P fn R) { tmps:=args++Array.replicate (fn.ntmps-args.size) undef,defers:=[] } w):Calls P f args w R:=by
 refine (callsIn_wide (n:=0)).1 (callsIn_of_wp_marks hf hb trivial ?_)
 refine wpIn_mono (wpIn_wide.2 h) fun e a' w' hq=>?_
 cases e <;> first | exact zJd _ _ hq.1 hq.2 | exact hq.elim
end Go.Proofs.YtekkngkphejfcaaGreatDoor
namespace Go.Proofs.YtekkngkphejfcaaGreatDoor
open Go.RowKit
inductive DV where
 | any
 | nils
 | int (k:IntKind) (n:Int)
 | bool (b:Bool)
 | str (s:ByteArray)
 | ints (l:List Int)
 | bools (l:List Bool)
 | sl (m n:Nat) (f:Nat→Nat→DV)
 | fp (m:Nat) (f:Nat→DV)
 | agg (m:Nat) (f:Nat→DV)
 | tup (m:Nat) (f:Nat→DV)
 | ref (k j:Nat)
 | msl (k m off n:Nat)
 | mp (k m i j:Nat)
 | fn (g:Nat) (m:Nat) (c:Nat→DV)
 | it (k:Nat)
 | yl (l:Nat)
 | mse (k m off n:Nat)
 | mri (k i:Nat)
 | cst (u:Value)
structure zAJ where
 blk:Nat
 off:Nat
 room:Nat
 val:Value
 foot:Nat→Prop
def tab (m:Nat) (f:Nat→DV):Nat→DV:=fun j=>((List.range m).map f).getD j .any
theorem zSO {m:Nat} {f:Nat→DV} {j:Nat} (h:j<m):tab m f j=f j:=by simp [tab,h]
def LB:Nat:=140737488355328
def zAU (M:Nat→Prop) (w:World):DV→List zAJ→Value→Prop
 | .any,_,_=>True
 | .nils,_,v=>v= .slice none 0 0
 | .int k n,_,v=>v= .int k n
 | .bool b,_,v=>v= .bool b
 | .str s,_,v=>v= .string s
 | .ints l,_,v=>∃ (a:Option Addr) (cap:Nat),v= .slice a l.length cap∧l.length≤cap∧l.length≤LB∧
  ∀ j,j<l.length→∃ b o,a=some ⟨b,o,none⟩∧¬ M b∧w.cell? ⟨b,o+j,none⟩=some (.int .i64 (l.getD j 0))
 | .bools l,_,v=>∃ (a:Option Addr) (cap:Nat),v= .slice a l.length cap∧l.length≤cap∧l.length≤LB∧
  ∀ j,j<l.length→∃ b o,a=some ⟨b,o,none⟩∧¬ M b∧w.cell? ⟨b,o+j,none⟩=some (.bool (l.getD j false))
 | .sl m n f,_,v=>∃ (a:Option Addr) (cap:Nat),v= .slice a n cap∧n≤cap∧n≤LB∧
  ∀ i j,i<n→j<m→∃ b o u,a=some ⟨b,o,none⟩∧¬ M b∧w.cell? ⟨b,o+(i*m+j),none⟩=some u∧zAU M w (f i j) [] u
 | .fp m f,_,v=>∃ b o,v= .pointer (some ⟨b,o,none⟩)∧∀ j,j<m→¬ M b∧∃ u,w.cell? ⟨b,o+j,none⟩=some u∧zAU M w (f j) [] u
 | .agg m f,ρ,v=>∃ cs,v= .agg cs∧cs.size=m∧∀ j,j<m→∃ u,cs[j]? =some u∧zAU M w (f j) ρ u
 | .tup m f,ρ,v=>∃ cs,v= .tuple cs∧cs.size=m∧∀ j,j<m→∃ u,cs[j]? =some u∧zAU M w (f j) ρ u
 | .ref k j,ρ,v=>∃ p:zAJ,ρ[k]? =some p∧v= .pointer (some ⟨p.blk,p.off+j,none⟩)
 | .msl k m off n,ρ,v=>∃ (p:zAJ) (cap:Nat),ρ[k]? =some p∧v= .slice (some ⟨p.blk,p.off+off*m,none⟩) n cap∧n≤cap∧n≤LB∧p.off+off*m+cap*m≤p.room
 | .mp k m i j,ρ,v=>∃ p:zAJ,ρ[k]? =some p∧v= .pointer (some ⟨p.blk,p.off+(i*m+j),none⟩)
 | .fn g m c,ρ,v=>∃ lb,v= .func (.func g) #[] lb∧lb.size=m∧∀ j,j<m→∃ u,lb[j]? =some u∧zAU M w (c j) ρ u
 | .it k,ρ,v=>∃ p:zAJ,ρ[k]? =some p∧v=p.val
 | .yl l,_,v=>v= .func (.yield l) #[] #[]
 | .cst u,_,v=>v=u∧u.oneCell'=true
 | .mri k i,ρ,v=>∃ (p:zAJ) (vs:Array Value),ρ[k]? =some p∧p.val= .tuple vs∧vs[i]? =some v
 | .mse k m off n,ρ,v=>∃ (p:zAJ) (a:Option Addr) (cap:Nat),ρ[k]? =some p∧v= .slice a n cap∧n≤cap∧n≤LB∧(0<cap→a=some ⟨p.blk,p.off+off*m,none⟩∧p.off+off*m+cap*m≤p.room)
theorem zFX {M:Nat→Prop} {w:World} {ρ:List zAJ} {m:Nat} {f:Nat→DV} {j:Nat} {v:Value} (h:j<m) (hr:zAU M w (f j) ρ v):zAU M w (tab m f j) ρ v:=by rw [zSO h];exact hr
/-! ### Maps:sets of keys-/
abbrev KS:=List (List Int)
def zCY:List Int→Value
 | [a]=>.int .i64 a
 | l=>.agg (l.map fun a=>.int .i64 a).toArray
theorem zTH: ∀ {a b:List Int},zCY a=zCY b→a=b:=by
 have ai: ∀ {l m:List Int},(l.map fun a=>Value.int .i64 a).toArray=(m.map fun a=>Value.int .i64 a).toArray→l=m:=fun {l m} h=>by
  have h:=Array.toList_inj.2 h
  simp only at h
  exact List.map_inj_right (fun x y e=>by cases e;rfl) |>.1 h
 intro a b h
 match a,b with
 | [x],[y]=>cases h;rfl
 | [],[]=>rfl
 | [x],[]=>cases h
 | [],[y]=>cases h
 | [x],y::y'::m=>cases h
 | x::x'::l,[y]=>cases h
 | x::x'::l,[]=>exact ai (Value.agg.inj h)
 | [],y::y'::m=>exact ai (Value.agg.inj h)
 | x::x'::l,y::y'::m=>exact ai (Value.agg.inj h)
structure zEf (w:World) (b n:Nat) (l:KS) (es:Array MapEntry) (clock:Nat):Prop where
 blk:w.heap[b]? =some (.map es clock)
 keys:(es.toList.map (·.key)).Perm (l.map zCY)
 nd:l.Nodup
 len: ∀ y∈l,y.length=n
 tru: ∀ e∈es.toList,e.val= .bool true
 born: ∀ e∈es.toList,e.born<clock
 stamps:(es.toList.map (·.born)).Nodup
theorem zEf.out {w w':World} {b n:Nat} {l:KS} {es:Array MapEntry} {clock:Nat} (h:zEf w b n l es clock) (hb:w'.heap[b]? =w.heap[b]?):zEf w' b n l es clock:={ h with blk:=hb.trans h.blk }
inductive MX where
 | set (n:Nat) (l:KS)
 | sets (n:Nat) (ls:List (Option KS)) (lk:Option (Nat×Nat×Array MapEntry×Nat))
 | mit (n mb:Nat) (es:Array MapEntry) (clock:Nat) (rem:KS) (cur:Option (List Int))
structure zCh (w:World) (p:zAJ) (n:Nat) (ls:List (Option KS)) (lk:Option (Nat×Nat×Array MapEntry×Nat)) (vs:Array Value):Prop where
 val:p.val= .tuple vs
 size:vs.size=ls.length
 row: ∃ cs t,w.heap[p.blk]? =some (.cells cs t (0,0))∧p.off+ls.length≤cs.size∧p.room≤cs.size∧∀ j,j<ls.length→cs[p.off+j]? =vs[j]?
 blk:p.foot p.blk
 has: ∀ (j:Nat) (l:KS),ls[j]? =some (some l)→∃ b:Nat,vs[j]? =some (Value.map (some b))∧b≠p.blk∧p.foot b∧∃ es clock,zEf w b n l es clock∧∀ x,lk=some x→x.1=j→x.2=(b,es,clock)
 nil: ∀ (j:Nat),ls[j]? =some none→vs[j]? =some (Value.map none)
 foot: ∀ b,p.foot b→b=p.blk∨∃ (j:Nat) (l:KS),ls[j]? =some (some l)∧vs[j]? =some (Value.map (some b))
 inj: ∀ (i j b:Nat),vs[i]? =some (Value.map (some b))→vs[j]? =some (Value.map (some b))→i=j
theorem zCh.out {w w':World} {p:zAJ} {n:Nat} {ls:List (Option KS)} {lk:Option (Nat×Nat×Array MapEntry×Nat)} {vs:Array Value} (h:zCh w p n ls lk vs) (hb: ∀ b,p.foot b→b<w.heap.size→w'.heap[b]? =w.heap[b]?):zCh w' p n ls lk vs:=by
 have at_: ∀ {b o},p.foot b→w.heap[b]? =some o→w'.heap[b]? =some o:=fun {b o} hf ho=>(hb b hf (Array.getElem?_eq_some_iff.1 ho).1).trans ho
 refine { h with row:=?_,has:=fun j l hl=>?_ }
 ·obtain ⟨cs,t,h1,h2⟩:=h.row
  exact ⟨cs,t,at_ h.blk h1,h2⟩
 ·obtain ⟨b,h1,h2,h3,es,clock,h4,h5⟩:=h.has j l hl
  exact ⟨b,h1,h2,h3,es,clock,{ h4 with blk:=at_ h3 h4.blk },h5⟩
def zQw (w:World) (p:zAJ):MX→Prop
 | .set n l=>p.val=Value.map (some p.blk)∧p.foot=(fun b=>b=p.blk)∧∃ es clock,zEf w p.blk n l es clock
 | .sets n ls lk=>∃ vs,zCh w p n ls lk vs
 | .mit n mb es clock rem cur=>(∀ x,(x∈rem∨cur=some x)→x.length=n)∧p.val= .pointer (some ⟨p.blk,0,none⟩)∧p.foot=(fun b=>b=p.blk)∧∃ seen,w.heap[p.blk]? =some (.mapIter (some mb) clock seen clock)∧((leftOf es seen).toList.map (·.key)).Perm (rem.map zCY)∧
  ∀ x,cur=some x→∃ e∈es.toList,e.key=zCY x∧seen.back? =some e.born
theorem zQw.out {w w':World} {p:zAJ}: ∀ {x:MX},zQw w p x→(∀ b,p.foot b→b<w.heap.size→w'.heap[b]? =w.heap[b]?)→zQw w' p x
 | .set n l,⟨h1,h2,es,clock,h3⟩,hb=>⟨h1,h2,es,clock,h3.out (hb _ (by rw [h2]) (Array.getElem?_eq_some_iff.1 h3.blk).1)⟩
 | .sets n ls lk,⟨vs,h⟩,hb=>⟨vs,h.out hb⟩
 | .mit n mb es clock rem cur,⟨h0,h1,h2,seen,h3,h4⟩,hb=>⟨h0,h1,h2,seen,(hb _ (by rw [h2]) (Array.getElem?_eq_some_iff.1 h3).1).trans h3,h4⟩
inductive DO where
 | cells (l:List DV)
 | ints (l:List Int)
 | bools (l:List Bool)
 | arr (m n:Nat) (f:Nat→Nat→DV)
 | iter (encs:List (Array Value))
 | mo (x:MX)
abbrev DH:=List (Option DO)
def MO (h:DH) (ρ:List zAJ) (b:Nat):Prop:=∃ (k:Nat) (o:DO) (p:zAJ),h[k]? =some (some o)∧ρ[k]? =some p∧p.foot b
def MS (N:Nat→Prop) (h:DH) (ρ:List zAJ) (b:Nat):Prop:=N b∨MO h ρ b
def zAP (w:World) (p:zAJ) (n:Nat) (R:Nat→Value→Prop):Prop:=
 p.foot=(fun b=>b=p.blk)∧∃ cs t,w.heap[p.blk]? =some (.cells cs t (0,0))∧p.off+n≤cs.size∧p.room≤cs.size∧∀ j,j<n→∃ u,cs[p.off+j]? =some u∧R j u
def zBf (P:Program) (M:Nat→Prop) (w:World) (ρ:List zAJ) (p:zAJ):DO→Prop
 | .cells l=>zAP w p l.length fun j u=>zAU M w (l.getD j .any) ρ u
 | .ints l=>zAP w p l.length fun j u=>u= .int .i64 (l.getD j 0)
 | .bools l=>zAP w p l.length fun j u=>u= .bool (l.getD j false)
 | .arr m n f=>zAP w p (n*m) fun j u=>zAU M w (f (j/m) (j % m)) [] u
 | .iter encs=>∃ gf lb Rd,(p.val= .func (.func gf) #[] lb∧∀ args W,(callFunc gf args).run P W= .ok (.enter gf args) W)∧zY2 P gf lb encs p.foot Rd w∧(∀ b,Rd b→¬ M b∧b<w.heap.size)∧∀ b,p.foot b→b<w.heap.size
 | .mo x=>zQw w p x
def zc5:Obj→Bool
 | .cells .. =>true
 | .map .. =>true
 | .mapIter .. =>true
 | _=>false
abbrev zQ0 (w:World) (b:Nat):Prop:=∃ (c:Obj) (_:zc5 c=true) (_:Unit),w.heap[b]? =some c
theorem zQ0.cells {w:World} {b:Nat} {c:Array Value} {t:TypeId} {z:Nat×Nat} (h:w.heap[b]? =some (.cells c t z)):zQ0 w b:=⟨_,rfl,(),h⟩
structure Glo where
 ng:Nat
 gi:World→Prop
 st: ∀ w w',gi w→Upd (fun b=>ng≤b) w w'→gi w'
 lo: ∀ w,gi w→ng≤w.heap.size
structure zDJ (P:Program) (Γ:Glo) (N:Nat→Prop) (h:DH) (ρ:List zAJ) (w:World):Prop where
 len:ρ.length=h.length
 obj: ∀ (k:Nat) (o:DO),h[k]? =some (some o)→∃ p:zAJ,ρ[k]? =some p∧zBf P (MS N h ρ) w ρ p o
 cel: ∀ (k:Nat) (o:DO) (p:zAJ) (b:Nat),h[k]? =some (some o)→ρ[k]? =some p→p.foot b→Γ.ng≤b∧¬ N b∧zQ0 w b
 dis: ∀ (k k':Nat) (o o':DO) (p p':zAJ) (b:Nat),k≠k'→h[k]? =some (some o)→h[k']? =some (some o')→ρ[k]? =some p→ρ[k']? =some p'→p.foot b→p'.foot b→False
 nlt: ∀ b,N b→b<w.heap.size∧Γ.ng≤b
 gi:Γ.gi w
structure St where
 fr:List DV
 h:DH
def zBs (M:Nat→Prop) (w:World) (ρ:List zAJ) (fr:List DV) (t:Array Value):Prop:=
 fr.length=t.size∧∀ i,i<fr.length→zAU M w (fr.getD i .any) ρ (t.getD i undef)
structure Rel (P:Program) (Γ:Glo) (N:Nat→Prop) (S:St) (ρ:List zAJ) (a:Act) (w:World):Prop where
 hr:zDJ P Γ N S.h ρ w
 fr:zBs (MS N S.h ρ) w ρ S.fr a.tmps
structure zCH (h:DH) (ρ:List zAJ) (w:World) (h':DH) (ρ':List zAJ) (w':World):Prop where
 upd:Upd (MO h ρ) w w'
 grow: ∀ b,MO h' ρ' b→MO h ρ b∨w.heap.size≤b
theorem zCH.refl (h:DH) (ρ:List zAJ) (w:World):zCH h ρ w h ρ w:=⟨Upd.refl _ _,fun _ h=>.inl h⟩
theorem zCH.trans {h h' h'':DH} {ρ ρ' ρ'':List zAJ} {w w' w'':World} (x:zCH h ρ w h' ρ' w') (y:zCH h' ρ' w' h'' ρ'' w''):zCH h ρ w h'' ρ'' w'':=
 ⟨x.upd.comp y.upd fun i hi hm=>(x.grow i hm).resolve_right (by omega),fun b hb=>(y.grow b hb).elim (fun h=>x.grow b h) (fun h=>.inr (Nat.le_trans x.upd.size h))⟩
structure zGJ (h:DH) (ρ:List zAJ) (w:World) (h':DH) (ρ':List zAJ) (w':World):Prop where
 st:zCH h ρ w h' ρ' w'
 pl: ∀ (k:Nat) (p:zAJ),ρ[k]? =some p→ρ'[k]? =some p
theorem zGJ.refl (h:DH) (ρ:List zAJ) (w:World):zGJ h ρ w h ρ w:=⟨zCH.refl _ _ _,fun _ _ h=>h⟩
theorem zGJ.trans {h h' h'':DH} {ρ ρ' ρ'':List zAJ} {w w' w'':World} (x:zGJ h ρ w h' ρ' w') (y:zGJ h' ρ' w' h'' ρ'' w''):zGJ h ρ w h'' ρ'' w'':=
 ⟨x.st.trans y.st,fun k p hk=>y.pl k p (x.pl k p hk)⟩
structure zDW (M:Nat→Prop) (w:World) (ρ:List zAJ) (M':Nat→Prop) (w':World) (ρ':List zAJ):Prop where
 blk: ∀ b,b<w.heap.size→¬ M b→(∃ c t z,w.heap[b]? =some (.cells c t z))→w'.heap[b]? =w.heap[b]?
 m: ∀ b,M' b→M b∨w.heap.size≤b
 pl: ∀ (k:Nat) (p:zAJ),ρ[k]? =some p→ρ'[k]? =some p
theorem zOT {w:World} {b o:Nat} {u:Value} (h:w.cell? ⟨b,o,none⟩=some u): ∃ c t z,w.heap[b]? =some (.cells c t z):=by
 unfold World.cell? at h
 split at h
 ·exact ⟨_,_,_,by assumption⟩
 ·cases h
theorem zDW.nil {M M':Nat→Prop} {w w':World} {ρ ρ':List zAJ} (h:zDW M w ρ M' w' ρ'):zDW M w [] M' w' []:=⟨h.blk,h.m,fun k p hk=>by simp at hk⟩
theorem zNA {w w':World} {b o:Nat} (h:w'.heap[b]? =w.heap[b]?):w'.cell? ⟨b,o,none⟩=w.cell? ⟨b,o,none⟩:=by
 unfold World.cell?;rw [h]
theorem zDW.cell {M M':Nat→Prop} {w w':World} {ρ ρ':List zAJ} (h:zDW M w ρ M' w' ρ') {b o:Nat} {u:Value} (hM: ¬ M b) (hc:w.cell? ⟨b,o,none⟩=some u):w'.cell? ⟨b,o,none⟩=some u∧¬ M' b:=by
 have hlt:b<w.heap.size:=World.block_lt_of_cell? w ⟨b,o,none⟩ hc
 exact ⟨(zNA (h.blk b hlt hM (zOT hc))).trans hc,fun hm=>(h.m b hm).elim hM (by omega)⟩
theorem zAU.out {M M':Nat→Prop} {w w':World}: ∀ (d:DV) {ρ ρ':List zAJ} {v:Value},zDW M w ρ M' w' ρ'→zAU M w d ρ v→zAU M' w' d ρ' v:=by
 intro d
 induction d with
 | any=>intros;trivial
 | nils=>intro ρ ρ' v _ h;exact h
 | int k n=>intro ρ ρ' v _ h;exact h
 | bool b=>intro ρ ρ' v _ h;exact h
 | str s=>intro ρ ρ' v _ h;exact h
 | ints l=>
  rintro ρ ρ' v H ⟨a,cap,e,h1,h2,h3⟩
  refine ⟨a,cap,e,h1,h2,fun j hj=>?_⟩
  obtain ⟨b,o,ha,hM,hc⟩:=h3 j hj
  obtain ⟨g1,g2⟩:=H.cell hM hc
  exact ⟨b,o,ha,g2,g1⟩
 | bools l=>
  rintro ρ ρ' v H ⟨a,cap,e,h1,h2,h3⟩
  refine ⟨a,cap,e,h1,h2,fun j hj=>?_⟩
  obtain ⟨b,o,ha,hM,hc⟩:=h3 j hj
  obtain ⟨g1,g2⟩:=H.cell hM hc
  exact ⟨b,o,ha,g2,g1⟩
 | sl m n f ih=>
  rintro ρ ρ' v H ⟨a,cap,e,h1,h2,h3⟩
  refine ⟨a,cap,e,h1,h2,fun i j hi hj=>?_⟩
  obtain ⟨b,o,u,ha,hM,hc,hr⟩:=h3 i j hi hj
  obtain ⟨g1,g2⟩:=H.cell hM hc
  exact ⟨b,o,u,ha,g2,g1,ih i j H.nil hr⟩
 | fp m f ih=>
  rintro ρ ρ' v H ⟨b,o,e,h⟩
  refine ⟨b,o,e,fun j hj=>?_⟩
  obtain ⟨hM,u,hc,hr⟩:=h j hj
  obtain ⟨g1,g2⟩:=H.cell hM hc
  exact ⟨g2,u,g1,ih j H.nil hr⟩
 | agg m f ih=>
  rintro ρ ρ' v H ⟨cs,e,hs,h⟩
  exact ⟨cs,e,hs,fun j hj=>let ⟨u,h1,h2⟩:=h j hj;⟨u,h1,ih j H h2⟩⟩
 | tup m f ih=>
  rintro ρ ρ' v H ⟨cs,e,hs,h⟩
  exact ⟨cs,e,hs,fun j hj=>let ⟨u,h1,h2⟩:=h j hj;⟨u,h1,ih j H h2⟩⟩
 | ref k j=>rintro ρ ρ' v H ⟨p,h,e⟩;exact ⟨p,H.pl _ _ h,e⟩
 | msl k m off n=>rintro ρ ρ' v H ⟨p,cap,h,r⟩;exact ⟨p,cap,H.pl _ _ h,r⟩
 | mp k m i j=>rintro ρ ρ' v H ⟨p,h,e⟩;exact ⟨p,H.pl _ _ h,e⟩
 | fn g m c ih=>
  rintro ρ ρ' v H ⟨cs,e,hs,h⟩
  exact ⟨cs,e,hs,fun j hj=>let ⟨u,h1,h2⟩:=h j hj;⟨u,h1,ih j H h2⟩⟩
 | it k=>rintro ρ ρ' v H ⟨p,h,e⟩;exact ⟨p,H.pl _ _ h,e⟩
 | yl l=>intro ρ ρ' v _ h;exact h
 | mse k m off n=>rintro ρ ρ' v H ⟨p,a,cap,h,r⟩;exact ⟨p,a,cap,H.pl _ _ h,r⟩
 | mri k i=>rintro ρ ρ' v H ⟨p,vs,h,r⟩;exact ⟨p,vs,H.pl _ _ h,r⟩
 | cst u=>intro ρ ρ' v _ h;exact h
theorem zBs.out {M M':Nat→Prop} {w w':World} {ρ ρ':List zAJ} {fr:List DV} {t:Array Value} (h:zBs M w ρ fr t) (H:zDW M w ρ M' w' ρ'):zBs M' w' ρ' fr t:=
 ⟨h.1,fun i hi=>(h.2 i hi).out _ H⟩
theorem zBs.at {M:Nat→Prop} {w:World} {ρ:List zAJ} {fr:List DV} {t:Array Value} (h:zBs M w ρ fr t) (i:Nat):zAU M w (fr.getD i .any) ρ (t.getD i undef):=by
 rcases Nat.lt_or_ge i fr.length with hi | hi
 ·exact h.2 i hi
 ·have:fr.getD i .any= .any:=by rw [List.getD_eq_getElem?_getD,List.getElem?_eq_none hi];rfl
  rw [this];trivial
theorem zBs.set {M:Nat→Prop} {w:World} {ρ:List zAJ} {fr:List DV} {t:Array Value} (h:zBs M w ρ fr t) (i:Nat) {d:DV} {v:Value} (hv:zAU M w d ρ v):zBs M w ρ (fr.set i d) (t.setIfInBounds i v):=by
 refine ⟨by simp [h.1],fun j hj=>?_⟩
 rw [List.length_set] at hj
 have hj':j<t.size:=by rw [←h.1];exact hj
 have h0:=h.2 j hj
 simp only [List.getD_eq_getElem?_getD,Array.getD_eq_getD_getElem?,List.getElem?_set,Array.getElem?_setIfInBounds] at h0 ⊢
 by_cases e:i=j
 ·subst e;simp [hj,hj',hv]
 ·rw [if_neg e,if_neg e];exact h0
theorem zY2.later {P:Program} {g:Nat} {lb:Array Value} {encs:List (Array Value)} {G0 Rd:Nat→Prop} {w w':World} (h:zY2 P g lb encs G0 Rd w) {S:Nat→Prop} (hu:Upd S w w') (hs: ∀ b,b<w.heap.size→S b→¬ (G0 b∨Rd b)):zY2 P g lb encs G0 Rd w':=
 fun l J Jx G W h1 h2 h3=>h l J Jx G W h1 h2 (hu.mono (fun i hi hx=>hs i hi hx) |>.trans h3)
theorem zAP.out {w w':World} {p:zAJ} {n:Nat} {R R':Nat→Value→Prop} (h:zAP w p n R) (hb:w'.heap[p.blk]? =w.heap[p.blk]?) (hR: ∀ j u,j<n→R j u→R' j u):zAP w' p n R':=by
 obtain ⟨h1,cs,t,h2,h3,h4,h5⟩:=h
 exact ⟨h1,cs,t,hb.trans h2,h3,h4,fun j hj=>let ⟨u,g1,g2⟩:=h5 j hj;⟨u,g1,hR j u hj g2⟩⟩
theorem zAP.cell {w:World} {p:zAJ} {n:Nat} {R:Nat→Value→Prop} (h:zAP w p n R) {j:Nat} (hj:j<n): ∃ u,w.cell? ⟨p.blk,p.off+j,none⟩=some u∧R j u:=by
 obtain ⟨h1,cs,t,h2,h3,h4,h5⟩:=h
 obtain ⟨u,g1,g2⟩:=h5 j hj
 exact ⟨u,by unfold World.cell?;simp [h2,g1],g2⟩
theorem zAP.frozen {w:World} {p:zAJ} {n:Nat} {R:Nat→Value→Prop} (h:zAP w p n R) (o:Nat):w.frozen? ⟨p.blk,o,none⟩=false:=by
 obtain ⟨h1,cs,t,h2,_⟩:=h
 unfold World.frozen?;simp [h2]
theorem zBf.out {P:Program} {M M':Nat→Prop} {w w':World} {ρ ρ':List zAJ} {p:zAJ} {o:DO} (h:zBf P M w ρ p o) (H:zDW M w ρ M' w' ρ') {S:Nat→Prop} (hu:Upd S w w') (hS: ∀ b,S b→M b) (hf: ∀ b,b<w.heap.size→p.foot b→¬ S b):zBf P M' w' ρ' p o:=by
 have hb: ∀ {n R},zAP w p n R→w'.heap[p.blk]? =w.heap[p.blk]? :=fun {n R} hr=>by
  obtain ⟨h1,cs,t,h2,_⟩:=hr
  have hlt:=(Array.getElem?_eq_some_iff.1 h2).1
  exact hu.block _ hlt (hf _ hlt (by rw [h1]))
 cases o with
 | cells l=>exact zAP.out h (hb h) fun j u _ hr=>zAU.out _ H hr
 | ints l=>exact zAP.out h (hb h) fun j u _ hr=>hr
 | bools l=>exact zAP.out h (hb h) fun j u _ hr=>hr
 | arr m n f=>exact zAP.out h (hb h) fun j u _ hr=>zAU.out _ H.nil hr
 | iter encs=>
  obtain ⟨gf,lb,Rd,h1,h2,h3,h4⟩:=h
  refine ⟨gf,lb,Rd,h1,h2.later hu (fun b hb hs hx=>?_),fun b hb=>⟨fun hm=>(H.m b hm).elim (h3 b hb).1 (by have:=(h3 b hb).2;omega),Nat.lt_of_lt_of_le (h3 b hb).2 hu.size⟩,fun b hb=>Nat.lt_of_lt_of_le (h4 b hb) hu.size⟩
  rcases hx with hx | hx
  ·exact hf b hb hx hs
  ·exact (h3 b hx).1 (hS b hs)
 | mo x=>exact zQw.out h fun b hb hlt=>hu.block b hlt (hf b hlt hb)
section
variable {P:Program} {Γ:Glo} {N:Nat→Prop} {h:DH} {ρ:List zAJ} {w:World}
theorem MO.unset {k:Nat} {b:Nat} (hm:MO (h.set k none) ρ b):MO h ρ b:=by
 obtain ⟨i,o,p,h1,h2,h3⟩:=hm
 rw [List.getElem?_set] at h1
 by_cases e:k=i
 ·rw [if_pos e] at h1;split at h1 <;> cases h1
 ·rw [if_neg e] at h1;exact ⟨i,o,p,h1,h2,h3⟩
theorem zDJ.lt (H:zDJ P Γ N h ρ w) {b:Nat} (hb:MS N h ρ b):b<w.heap.size:=by
 rcases hb with hb | ⟨k,o,p,h1,h2,h3⟩
 ·exact (H.nlt b hb).1
 ·obtain ⟨_,_,c,t,z,h4⟩:=H.cel k o p b h1 h2 h3
  exact (Array.getElem?_eq_some_iff.1 h4).1
theorem zDJ.low (H:zDJ P Γ N h ρ w) {b:Nat} (hb:MO h ρ b):Γ.ng≤b:=by
 obtain ⟨k,o,p,h1,h2,h3⟩:=hb
 exact (H.cel k o p b h1 h2 h3).1
theorem zDJ.lt2 (H:zDJ P Γ N h ρ w) {b:Nat} (hb:MS N h ρ b):b<w.heap.size∧Γ.ng≤b:=⟨H.lt hb,hb.elim (fun h=>(H.nlt b h).2) H.low⟩
theorem zDJ.ext (H:zDJ P Γ N h ρ w) {w':World} (hE:Ext w w'):zDJ P Γ N h ρ w':=by
 have O:zDW (MS N h ρ) w ρ (MS N h ρ) w' ρ:=⟨fun b hb _ _=>Below.block hE b hb,fun b h=>.inl h,fun _ _ h=>h⟩
 refine ⟨H.len,fun k o hk=>?_,fun k o p b h1 h2 h3=>?_,H.dis,fun b hb=>⟨Nat.lt_of_lt_of_le (H.nlt b hb).1 hE.size,(H.nlt b hb).2⟩,Γ.st _ _ H.gi (Upd.ofExt hE)⟩
 ·obtain ⟨p,hp,ho⟩:=H.obj k o hk
  exact ⟨p,hp,ho.out O (S:=fun _=>False) (Upd.ofExt hE) (fun _ h=>h.elim) (fun _ _ _ h=>h)⟩
 ·obtain ⟨g1,g2,c,t,z,g3⟩:=H.cel k o p b h1 h2 h3
  exact ⟨g1,g2,c,t,z,(Below.block hE b (Array.getElem?_eq_some_iff.1 g3).1).trans g3⟩
theorem zDW.ext {M:Nat→Prop} {w w':World} (ρ:List zAJ) (hE:Ext w w'):zDW M w ρ M w' ρ:=⟨fun b hb _ _=>Below.block hE b hb,fun b h=>.inl h,fun _ _ h=>h⟩
theorem zCH.ext {w w':World} (hE:Ext w w'):zCH h ρ w h ρ w':=⟨Upd.ofExt hE,fun _ h=>.inl h⟩
theorem zAe {α:Type} {l:List α} {x y:α} {k:Nat} (hk:(l++[x])[k]? =some y):(k<l.length∧l[k]? =some y)∨(k=l.length∧x=y):=by
 rcases Nat.lt_trichotomy k l.length with hl | hl | hl
 ·rw [List.getElem?_append_left hl] at hk;exact .inl ⟨hl,hk⟩
 ·subst hl;simp at hk;exact .inr ⟨rfl,hk⟩
 ·rw [List.getElem?_append_right (by omega)] at hk
  have:k-l.length≠0:=by omega
  cases e:k-l.length with
  | zero=>omega
  | succ m=>rw [e] at hk;simp at hk
theorem zAR {α:Type} {l:List α} {x y:α} {k:Nat} (hk:l[k]? =some y):(l++[x])[k]? =some y:=by
 rw [List.getElem?_append_left (List.getElem?_eq_some_iff.1 hk).1];exact hk
theorem MO.snoc (H:zDJ P Γ N h ρ w) {o:DO} {p:zAJ} {b:Nat} (hb:MO (h++[some o]) (ρ++[p]) b):MO h ρ b∨p.foot b:=by
 obtain ⟨k,o',p',h1,h2,h3⟩:=hb
 rcases zAe h1 with ⟨hl,h1⟩ | ⟨hl,h1⟩
 ·rcases zAe h2 with ⟨_,h2⟩ | ⟨hl2,_⟩
  ·exact .inl ⟨k,o',p',h1,h2,h3⟩
  ·rw [hl2,H.len] at hl;omega
 ·rcases zAe h2 with ⟨hl2,_⟩ | ⟨_,h2⟩
  ·rw [H.len,←hl] at hl2;omega
  ·subst h2;exact .inr h3
theorem zDJ.snoc (H:zDJ P Γ N h ρ w) {w':World} (hE:Ext w w') {o:DO} {p:zAJ} (hf: ∀ b,p.foot b→w.heap.size≤b∧zQ0 w' b)
 (ho:zBf P (MS N (h++[some o]) (ρ++[p])) w' (ρ++[p]) p o):zDJ P Γ N (h++[some o]) (ρ++[p]) w':=by
 have O:zDW (MS N h ρ) w ρ (MS N (h++[some o]) (ρ++[p])) w' (ρ++[p]):=by
  refine ⟨fun b hb _ _=>Below.block hE b hb,fun b hb=>?_,fun k q hk=>zAR hk⟩
  rcases hb with hb | hb
  ·exact .inl (.inl hb)
  ·rcases MO.snoc H hb with hb | hb
   ·exact .inl (.inr hb)
   ·exact .inr (hf b hb).1
 refine ⟨by simp [H.len],fun k o' hk=>?_,fun k o' p' b h1 h2 h3=>?_,fun k k' o1 o2 p1 p2 b hne h1 h2 h3 h4 h5 h6=>?_,fun b hb=>⟨Nat.lt_of_lt_of_le (H.nlt b hb).1 hE.size,(H.nlt b hb).2⟩,Γ.st _ _ H.gi (Upd.ofExt hE)⟩
 ·rcases zAe hk with ⟨hl,hk⟩ | ⟨hl,hk⟩
  ·obtain ⟨p',hp,hr⟩:=H.obj k o' hk
   exact ⟨p',zAR hp,hr.out O (S:=fun _=>False) (Upd.ofExt hE) (fun _ h=>h.elim) (fun _ _ _ h=>h)⟩
  ·cases hk
   exact ⟨p,by rw [hl,←H.len];simp,ho⟩
 ·rcases zAe h1 with ⟨hl,h1⟩ | ⟨hl,h1⟩
  ·rcases zAe h2 with ⟨_,h2⟩ | ⟨hl2,_⟩
   ·obtain ⟨g1,g2,c,t,z,g3⟩:=H.cel k o' p' b h1 h2 h3
    exact ⟨g1,g2,c,t,z,(Below.block hE b (Array.getElem?_eq_some_iff.1 g3).1).trans g3⟩
   ·rw [hl2,H.len] at hl;omega
  ·rcases zAe h2 with ⟨hl2,_⟩ | ⟨_,h2⟩
   ·rw [H.len,←hl] at hl2;omega
   ·subst h2
    obtain ⟨g1,g2⟩:=hf b h3
    exact ⟨Nat.le_trans (Γ.lo _ H.gi) g1,fun hn=>by have:=H.nlt b hn;omega,g2⟩
 ·have old: ∀ {k:Nat} {o':DO} {p':zAJ},(h++[some o])[k]? =some (some o')→(ρ++[p])[k]? =some p'→p'.foot b→k≠h.length→b<w.heap.size:=by
   intro k o' p' h1 h2 h3 hne
   rcases zAe h1 with ⟨hl,h1⟩ | ⟨hl,h1⟩
   ·rcases zAe h2 with ⟨_,h2⟩ | ⟨hl2,_⟩
    ·exact H.lt (.inr ⟨k,o',p',h1,h2,h3⟩)
    ·rw [hl2,H.len] at hl;omega
   ·exact absurd hl hne
  have new: ∀ {k:Nat} {o':DO} {p':zAJ},(h++[some o])[k]? =some (some o')→(ρ++[p])[k]? =some p'→p'.foot b→k=h.length→w.heap.size≤b:=by
   intro k o' p' h1 h2 h3 he
   rcases zAe h2 with ⟨hl2,_⟩ | ⟨_,h2⟩
   ·rw [H.len,←he] at hl2;omega
   ·subst h2;exact (hf b h3).1
  by_cases e1:k=h.length
  ·by_cases e2:k'=h.length
   ·exact hne (e1.trans e2.symm)
   ·have:=new h1 h3 h5 e1;have:=old h2 h4 h6 e2;omega
  ·by_cases e2:k'=h.length
   ·have:=old h1 h3 h5 e1;have:=new h2 h4 h6 e2;omega
   ·rcases zAe h1 with ⟨_,h1⟩ | ⟨hl,_⟩
    ·rcases zAe h2 with ⟨_,h2⟩ | ⟨hl,_⟩
     ·rcases zAe h3 with ⟨_,h3⟩ | ⟨hl,_⟩
      ·rcases zAe h4 with ⟨_,h4⟩ | ⟨hl,_⟩
       ·exact H.dis k k' o1 o2 p1 p2 b hne h1 h2 h3 h4 h5 h6
       ·rw [H.len] at hl;exact e2 hl
      ·rw [H.len] at hl;exact e1 hl
     ·exact e2 hl
    ·exact e1 hl
theorem zDW.snoc (H:zDJ P Γ N h ρ w) {w':World} (hE:Ext w w') {o:DO} {p:zAJ} (hf: ∀ b,p.foot b→w.heap.size≤b):zDW (MS N h ρ) w ρ (MS N (h++[some o]) (ρ++[p])) w' (ρ++[p]):=by
 refine ⟨fun b hb _ _=>Below.block hE b hb,fun b hb=>?_,fun k q hk=>zAR hk⟩
 rcases hb with hb | hb
 ·exact .inl (.inl hb)
 ·rcases MO.snoc H hb with hb | hb
  ·exact .inl (.inr hb)
  ·exact .inr (hf b hb)
theorem zCH.snoc (H:zDJ P Γ N h ρ w) {w':World} (hE:Ext w w') {o:DO} {p:zAJ} (hf: ∀ b,p.foot b→w.heap.size≤b):zCH h ρ w (h++[some o]) (ρ++[p]) w':=
 ⟨Upd.ofExt hE,fun b hb=>(MO.snoc H hb).imp id (hf b)⟩
theorem MO.set {k:Nat} {o o':DO} (hk:h[k]? =some (some o)) {b:Nat}:MO (h.set k (some o')) ρ b↔MO h ρ b:=by
 have hl:=(List.getElem?_eq_some_iff.1 hk).1
 constructor
 ·rintro ⟨i,o1,p,h1,h2,h3⟩
  rw [List.getElem?_set] at h1
  by_cases e:k=i
  ·subst e;exact ⟨k,o,p,hk,h2,h3⟩
  ·rw [if_neg e] at h1;exact ⟨i,o1,p,h1,h2,h3⟩
 ·rintro ⟨i,o1,p,h1,h2,h3⟩
  by_cases e:k=i
  ·subst e;exact ⟨k,o',p,by simp [hl],h2,h3⟩
  ·exact ⟨i,o1,p,by rw [List.getElem?_set,if_neg e];exact h1,h2,h3⟩
theorem MS.set {k:Nat} {o o':DO} (hk:h[k]? =some (some o)) {b:Nat}:MS N (h.set k (some o')) ρ b↔MS N h ρ b:=by unfold MS;rw [MO.set hk]
theorem zDJ.write (H:zDJ P Γ N h ρ w) {w':World} {k:Nat} {o o':DO} {p:zAJ} (hk:h[k]? =some (some o)) (hp:ρ[k]? =some p) (hu:Upd p.foot w w')
 (hc: ∀ b,p.foot b→zQ0 w' b) (ho:zBf P (MS N (h.set k (some o')) ρ) w' ρ p o'):zDJ P Γ N (h.set k (some o')) ρ w':=by
 have hl:=(List.getElem?_eq_some_iff.1 hk).1
 have hM: ∀ b,p.foot b→MS N h ρ b:=fun b hb=>.inr ⟨k,o,p,hk,hp,hb⟩
 have O:zDW (MS N h ρ) w ρ (MS N (h.set k (some o')) ρ) w' ρ:=⟨fun b hb hm _=>hu.block b hb fun hx=>hm (hM b hx),fun b hb=>.inl ((MS.set hk).1 hb),fun _ _ h=>h⟩
 have hget: ∀ {i:Nat} {o1:DO},i≠k→(h.set k (some o'))[i]? =some (some o1)→h[i]? =some (some o1):=fun {i} {o1} hne h1=>by rw [List.getElem?_set,if_neg (Ne.symm hne)] at h1;exact h1
 refine ⟨by simp [H.len],fun i o1 hi=>?_,fun i o1 p1 b h1 h2 h3=>?_,fun i i' o1 o2 p1 p2 b hne h1 h2 h3 h4 h5 h6=>?_,fun b hb=>⟨Nat.lt_of_lt_of_le (H.nlt b hb).1 hu.size,(H.nlt b hb).2⟩,Γ.st _ _ H.gi (hu.mono fun b _ hb=>(H.cel k o p b hk hp hb).1)⟩
 ·by_cases e:i=k
  ·subst e
   have:o'=o1:=by simp [hl] at hi;exact hi
   subst this;exact ⟨p,hp,ho⟩
  ·obtain ⟨p1,hp1,hr⟩:=H.obj i o1 (hget e hi)
   exact ⟨p1,hp1,hr.out O hu hM fun b _ h1 h2=>H.dis i k o1 o p1 p b e (hget e hi) hk hp1 hp h1 h2⟩
 ·by_cases e:i=k
  ·subst e
   have:p=p1:=Option.some.inj (hp.symm.trans h2)
   subst this
   obtain ⟨g1,g2,_⟩:=H.cel i o p b hk hp h3
   exact ⟨g1,g2,hc b h3⟩
  ·obtain ⟨g1,g2,c,t,z,g3⟩:=H.cel i o1 p1 b (hget e h1) h2 h3
   refine ⟨g1,g2,c,t,z,(hu.block b (Array.getElem?_eq_some_iff.1 g3).1 fun hx=>H.dis i k o1 o p1 p b e (hget e h1) hk h2 hp h3 hx).trans g3⟩
 ·have old: ∀ {i:Nat} {o1:DO},(h.set k (some o'))[i]? =some (some o1)→∃ o2,h[i]? =some (some o2):=fun {i} {o1} h1=>by
   by_cases e:i=k
   ·subst e;exact ⟨o,hk⟩
   ·exact ⟨o1,hget e h1⟩
  obtain ⟨q1,g1⟩:=old h1
  obtain ⟨q2,g2⟩:=old h2
  exact H.dis i i' q1 q2 p1 p2 b hne g1 g2 h3 h4 h5 h6
theorem zDW.write (hN:True) {w':World} {k:Nat} {o o':DO} {p:zAJ} (hk:h[k]? =some (some o)) (hp:ρ[k]? =some p) (hu:Upd p.foot w w'):zDW (MS N h ρ) w ρ (MS N (h.set k (some o')) ρ) w' ρ:=
 ⟨fun b hb hm _=>hu.block b hb fun hx=>hm (.inr ⟨k,o,p,hk,hp,hx⟩),fun b hb=>.inl ((MS.set hk).1 hb),fun _ _ h=>h⟩
theorem zCH.write {w':World} {k:Nat} {o o':DO} {p:zAJ} (hk:h[k]? =some (some o)) (hp:ρ[k]? =some p) (hu:Upd p.foot w w'):zCH h ρ w (h.set k (some o')) ρ w':=
 ⟨hu.mono fun b _ hb=>⟨k,o,p,hk,hp,hb⟩,fun b hb=>.inl ((MO.set hk).1 hb)⟩
end
end Go.Proofs.YtekkngkphejfcaaGreatDoor
namespace Go.Proofs.YtekkngkphejfcaaGreatDoor
open Go.RowKit
def ofV:Value→DV
 | .int k n=>.int k n
 | .bool b=>.bool b
 | .string s=>.str s
 | .slice none 0 0=>.nils
 | v=>if v.oneCell' then .cst v else .any
def opd (fr:List DV):Operand→DV
 | .tmp t=>fr.getD t .any
 | .const v=>ofV v
 | .global _=>.any
 | .func f=>.fn f 0 fun _=>.any
def zF0 (P:Program) (t:TypeId):Bool:=match P.underlying t with
 | some (.struct _)=>true
 | some (.array _ _)=>true
 | _=>false
def zR4 (P:Program) (t:TypeId) (m:Nat):Bool:=match P.underlying t with
 | some (.slice e)=>match P.info? e with
  | some i=>i.size==m&&m != 0
  | none=>false
 | _=>false
def zS6 (P:Program) (t:TypeId):Bool:=(P.underlying t).isSome&&!zF0 P t
def zdK (P:Program) (t:TypeId) (m:Nat):Bool:=zF0 P t&&(match P.info? t with | some i=>i.size==m | none=>false)
def zTP (P:Program) (s:TypeId) (f:Nat):Option (Nat×Nat):=match P.underlying s with
 | some (.struct fs)=>match fs[f]? with
  | some fd=>match P.info? fd.type with
   | some i=>if i.size=0 then none else some (fd.offset,i.size)
   | none=>none
  | none=>none
 | _=>none
def zdI (P:Program) (t:TypeId):Option (Nat×Nat):=match P.underlying t with
 | some (.array n e)=>match P.info? e with
  | some i=>if n≤1 then none else some (n,i.size)
  | none=>none
 | _=>none
def zd6 (P:Program) (t:TypeId):Option IntKind:=match P.underlying t with
 | some (.int k)=>some k
 | _=>none
def zdj (op:BinOp) (k:IntKind) (a b:Int):Option (DV×Prop):=match op with
 | .add=>some (.int k (k.wrap (a+b)),True)
 | .sub=>some (.int k (k.wrap (a-b)),True)
 | .mul=>some (.int k (k.wrap (a*b)),True)
 | .and=>some (.int k (bits .and k a b),True)
 | .or=>some (.int k (bits .or k a b),True)
 | .xor=>some (.int k (bits .xor k a b),True)
 | .andNot=>some (.int k (bits .andNot k a b),True)
 | .eql=>some (.bool (a==b),True)
 | .neq=>some (.bool (a != b),True)
 | .lss=>some (.bool (decide (a<b)),True)
 | .leq=>some (.bool (decide (a≤b)),True)
 | .gtr=>some (.bool (decide (a>b)),True)
 | .geq=>some (.bool (decide (a≥b)),True)
 | _=>none
def zVa (P:Program) (t:TypeId):Nat:=match P.underlying t with
 | some .bool=>1
 | some (.slice _)=>2
 | _=>0
def zdk (bt:Nat) (op:BinOp) (x y:DV):Option (DV×Prop):=match op,x,y with
 | .eql,.bool a,.bool b=>if bt=1 then some (.bool (a==b),True) else none
 | .neq,.bool a,.bool b=>if bt=1 then some (.bool (!(a==b)),True) else none
 | .eql,.ints l,.nils=>if bt=2 then some (.bool false,0<l.length) else none
 | .eql,.bools l,.nils=>if bt=2 then some (.bool false,0<l.length) else none
 | .neq,.ints l,.nils=>if bt=2 then some (.bool true,0<l.length) else none
 | .shl,.int k a,.int _ b=>some (.int k (k.wrap (a*2 ^ b.toNat)),0≤b∧b≤k.bits)
 | .shr,.int k a,.int _ b=>some (.int k (a/2 ^ b.toNat),0≤b∧b≤k.bits)
 | op,.int k a,.int k' b=>if k=k' then zdj op k a b else none
 | _,_,_=>none
def zRe (P:Program) (S:St) (t:TypeId):DV→Option (DV×Prop)
 | .fp m f=>if zS6 P t then (if m=0 then none else some (f 0,True)) else if zdK P t m then some (.agg m f,True) else none
 | .ref k j=>match S.h[k]? with
  | some (some (.cells l))=>if zS6 P t then (if j<l.length then some (l.getD j .any,True) else none)
   else match P.info? t with
    | some i=>if zF0 P t&&decide (j+i.size≤l.length) then some (.agg i.size (tab i.size fun c=>l.getD (j+c) .any),True) else none
    | none=>none
  | _=>none
 | .mp k m i j=>match S.h[k]? with
  | some (some (.ints l))=>if zS6 P t&&(m==1)&&(j==0) then some (.int .i64 (l.getD i 0),i<l.length) else none
  | some (some (.bools l))=>if zS6 P t&&(m==1)&&(j==0) then some (.bool (l.getD i false),i<l.length) else none
  | some (some (.arr m' n f))=>if zS6 P t&&(m==m')&&decide (j<m) then some (f i j,i<n)
   else if zdK P t m&&(m==m')&&(j==0) then some (.agg m (f i),i<n) else none
  | some (some (.mo (.sets _ ls _)))=>if zS6 P t&&(m==1)&&(j==0) then some (.mri k i,i<ls.length) else none
  | _=>none
 | _=>none
def zd7 (P:Program) (t:TypeId) (x:DV) (n:Int):Option (DV×Prop):=match x with
 | .ints l=>if zR4 P t 1 then some (.fp 1 (fun _=>.int .i64 (l.getD n.toNat 0)),0≤n∧n<l.length) else none
 | .bools l=>if zR4 P t 1 then some (.fp 1 (fun _=>.bool (l.getD n.toNat false)),0≤n∧n<l.length) else none
 | .sl m c f=>if zR4 P t m then some (.fp m (f n.toNat),0≤n∧n<c) else none
 | .msl k m off c=>if zR4 P t m then some (.mp k m (off+n.toNat) 0,0≤n∧n<c) else none
 | .ref k j=>match zdI P t with
  | some (len,sz)=>some (.ref k (j+n.toNat*sz),0≤n∧n<len)
  | none=>none
 | .mp k m i 0=>match zdI P t with
  | some (len,sz)=>if sz=m then some (.mp k m (i+n.toNat) 0,0≤n∧n<len) else none
  | none=>none
 | .fp m f=>match zdI P t with
  | some (len,sz)=>if n.toNat*sz+sz≤m then some (.fp sz (tab sz fun j=>f (n.toNat*sz+j)),0≤n∧n<len) else none
  | none=>none
 | _=>none
def zdZ (P:Program) (t:TypeId) (d:DV):Option (DV×Prop):=match P.underlying t,d with
 | some (.slice _),.nils=>some (.int .i64 0,True)
 | some (.slice _),.ints l=>some (.int .i64 l.length,True)
 | some (.slice _),.bools l=>some (.int .i64 l.length,True)
 | some (.slice _),.sl _ n _=>some (.int .i64 n,True)
 | some (.slice _),.msl _ _ _ n=>some (.int .i64 n,True)
 | some .string,.str s=>some (.int .i64 s.size,True)
 | _,_=>none
def zd0 (x y:DV):Option (DV×Prop):=match x,y with
 | .int k a,.int _ b=>some (.int k (if b>a then b else a),True)
 | _,_=>none
def zdz (x y:DV):Option (DV×Prop):=match x,y with
 | .int k a,.int _ b=>some (.int k (if b<a then b else a),True)
 | _,_=>none
def zTZ (P:Program) (S:St) (b:Builtin) (args:List Operand) (tys:List TypeId):Option (DV×Prop):=match b with
 | .len=>match args with
  | [x]=>match tys with
   | [t]=>zdZ P t (opd S.fr x)
   | _=>none
  | _=>none
 | .max=>match args with
  | [x,y]=>zd0 (opd S.fr x) (opd S.fr y)
  | _=>none
 | .min=>match args with
  | [x,y]=>zdz (opd S.fr x) (opd S.fr y)
  | _=>none
 | _=>none
def pop (P:Program) (S:St):Op→Option (DV×Prop)
 | .move x=>some (opd S.fr x,True)
 | .assign x=>some (opd S.fr x,True)
 | .pick c a b=>match opd S.fr c with
  | .bool true=>some (opd S.fr a,True)
  | .bool false=>some (opd S.fr b,True)
  | _=>none
 | .load t x=>zRe P S t (opd S.fr x)
 | .binOp op t x y _=>zdk (zVa P t) op (opd S.fr x) (opd S.fr y)
 | .unOp op _ x=>match op,opd S.fr x with
  | .not,.bool b=>some (.bool !b,True)
  | .neg,.int k n=>some (.int k (k.wrap (0-n)),True)
  | .xor,.int k n=>some (.int k (bits .xor k (if k.signed then-1 else k.max) n),True)
  | _,_=>none
 | .convert s d x=>match P.underlying s,zd6 P d,opd S.fr x with
  | some _,some k,.int _ n=>some (.int k (k.wrap n),True)
  | _,_,_=>none
 | .nilCheck x=>match opd S.fr x with
  | .fp m f=>some (.fp m f,True)
  | .ref k j=>some (.ref k j,True)
  | .mp k m i j=>some (.mp k m i j,True)
  | .fn g m c=>some (.fn g m c,True)
  | _=>none
 | .fieldAddr s x f=>match zTP P s f with
  | some (off,sz)=>match opd S.fr x with
   | .fp m g=>if off+sz≤m then some (.fp sz (tab sz fun j=>g (off+j)),True) else none
   | .ref k j=>some (.ref k (j+off),True)
   | .mp k m i j=>some (.mp k m i (j+off),True)
   | _=>none
  | none=>none
 | .indexAddr t x i=>match opd S.fr i with
  | .int _ n=>zd7 P t (opd S.fr x) n
  | _=>none
 | .extract x i=>match opd S.fr x with
  | .tup m f=>if i<m then some (f i,True) else none
  | _=>none
 | .makeFunc (.func g) first c=>if first.size=0 then some (.fn g c.size (tab c.size fun j=>opd S.fr (c.getD j (.const undef))),True) else none
 | .call c=>match c.callee with
  | .builtin b=>zTZ P S b c.args.toList c.argTypes.toList
  | _=>none
 | _=>none
section
variable {P:Program} {Γ:Glo} {N:Nat→Prop} {S:St} {ρ:List zAJ} {a:Act} {w:World}
theorem zLJ {M:Nat→Prop} (v:Value):zAU M w (ofV v) ρ v:=by
 unfold ofV
 split
 ·rfl
 ·rfl
 ·rfl
 ·rfl
 ·split
  ·exact ⟨rfl,by assumption⟩
  ·trivial
theorem zAX (R:Rel P Γ N S ρ a w) (x:Operand):zAU (MS N S.h ρ) w (opd S.fr x) ρ (a.eval x):=by
 cases x with
 | tmp t=>exact R.fr.at t
 | const v=>exact zLJ v
 | global g=>trivial
 | func f=>exact ⟨#[],rfl,rfl,fun j hj=>absurd hj (Nat.not_lt_zero j)⟩
theorem zEF {t:TypeId} {d:TypeDesc} (h:P.underlying t=some d):(isAgg t).run P w= .ok (zF0 P t) w:=by
 unfold isAgg zF0
 rw [Sem.run_bind,run_underlying h]
 simp only [Result.andThen,h]
 cases d <;> rfl
theorem zBL {t:TypeId} {i:TypeInfo} (h:P.info? t=some i):(sizeOf t).run P w= .ok i.size w:=by
 rw [run_sizeOf w h];unfold Program.cellsOf;rw [h];rfl
theorem zJm {t:TypeId} {b:Addr} {u:Value} (h:zS6 P t=true) (hc:w.cell? b=some u):(loadVar t b).run P w= .ok u w:=by
 unfold zS6 at h
 simp only [Bool.and_eq_true,Option.isSome_iff_exists,Bool.not_eq_true'] at h
 obtain ⟨⟨d,hd⟩,hn⟩:=h
 unfold loadVar
 rw [Sem.run_bind,zEF hd]
 simp only [Result.andThen,hn,Bool.false_eq_true,if_false]
 simp [load,Sem.run,hc]
theorem zLX {t:TypeId} (h:zF0 P t=true): ∃ d,P.underlying t=some d:=by
 unfold zF0 at h
 split at h
 ·exact ⟨_,by assumption⟩
 ·exact ⟨_,by assumption⟩
 ·cases h
theorem zJn {t:TypeId} {b o:Nat} {i:TypeInfo} (h:zF0 P t=true) (hi:P.info? t=some i) (g:Nat→Value) (hc: ∀ j,j<i.size→w.cell? ⟨b,o+j,none⟩=some (g j)):
 (loadVar t ⟨b,o,none⟩).run P w= .ok (.agg ((List.range i.size).map g).toArray) w:=by
 obtain ⟨d,hd⟩:=zLX h
 unfold loadVar
 rw [Sem.run_bind,zEF hd]
 simp only [Result.andThen,h,if_true]
 rw [Sem.run_bind,zBL hi]
 simp only [Result.andThen]
 rw [Sem.run_bind,run_loadCells w ⟨b,o,none⟩ i.size g (fun j hj=>by
  have:=hc j hj
  unfold Addr.add
  by_cases e:j=0
  ·subst e;simpa using this
  ·simpa [e] using this)]
 simp [Result.andThen]
def Keep (N:Nat→Prop) (w W:World):Prop:=∀ b o u,¬ N b→w.cell? ⟨b,o,none⟩=some u→W.cell? ⟨b,o,none⟩=some u
theorem Keep.ofExt {N:Nat→Prop} {w W:World} (h:Ext w W):Keep N w W:=fun _ _ _ _ hc=>h.cell hc
def Yl (P:Program) (N:Nat→Prop) (w:World) (M:Nat→Prop) (ρ:List zAJ) (s:Sem Value) (d:DV):Prop:=∃ v,(∀ W,Keep N w W→s.run P W= .ok v W)∧zAU M w d ρ v
theorem zIc {k:Nat} {o:DO} {p:zAJ} {n:Nat} {Rw:Nat→Value→Prop} (R:Rel P Γ N S ρ a w) (hk:S.h[k]? =some (some o)) (hp:ρ[k]? =some p) (hr:zAP w p n Rw): ¬ N p.blk:=(R.hr.cel k o p p.blk hk hp (by rw [hr.1])).2.1
theorem zOK {M:Nat→Prop} {m:Nat} {f:Nat→DV} {v:Value} (h:zAU M w (.fp m f) ρ v): ∃ b o,v= .pointer (some ⟨b,o,none⟩)∧∀ j,j<m→¬ M b∧∃ u,w.cell? ⟨b,o+j,none⟩=some u∧zAU M w (f j) [] u:=h
theorem zKo {M:Nat→Prop} {d:DV} {v:Value} (h:zAU M w d [] v):zAU M w d ρ v:=h.out d ⟨fun _ _ _ _=>rfl,fun _ h=>.inl h,fun k p hk=>by simp at hk⟩
theorem zIb {t:TypeId} {b:Addr} {W:World}:(Instr.loadAt t (.pointer (some b))).run P W=(loadVar t b).run P W:=rfl
theorem zGX {M:Nat→Prop} {t:TypeId} {b o:Nat} {u:Value} {d:DV} (hN: ¬ N b) (h1:zS6 P t=true) (hc:w.cell? ⟨b,o,none⟩=some u) (hr:zAU M w d ρ u):Yl P N w M ρ (Instr.loadAt t (.pointer (some ⟨b,o,none⟩))) d:=
 ⟨u,fun W hE=>by rw [zIb];exact zJm h1 (hE _ _ _ hN hc),hr⟩
theorem zOD {M:Nat→Prop} {t:TypeId} {i:TypeInfo} {b o:Nat} {f:Nat→DV} (hN:0<i.size→¬ N b) (h1:zF0 P t=true) (hi:P.info? t=some i) (h: ∀ j,j<i.size→∃ u,w.cell? ⟨b,o+j,none⟩=some u∧zAU M w (f j) ρ u):
 Yl P N w M ρ (Instr.loadAt t (.pointer (some ⟨b,o,none⟩))) (.agg i.size f):=by
 obtain ⟨g,hg⟩: ∃ g:Nat→Value,∀ j,j<i.size→w.cell? ⟨b,o+j,none⟩=some (g j)∧zAU M w (f j) ρ (g j):=by
  refine ⟨fun j=>(w.cell? ⟨b,o+j,none⟩).getD undef,fun j hj=>?_⟩
  obtain ⟨u,h1,h2⟩:=h j hj
  simp [h1,h2]
 refine ⟨_,fun W hE=>by rw [zIb];exact zJn h1 hi g fun j hj=>hE _ _ _ (hN (by omega)) (hg j hj).1,_,rfl,by simp,fun j hj=>?_⟩
 exact ⟨g j,by simp [hj],(hg j hj).2⟩
theorem zL5 {t:TypeId} {m:Nat} (h:zdK P t m=true):zF0 P t=true∧∃ i,P.info? t=some i∧i.size=m:=by
 unfold zdK at h
 simp only [Bool.and_eq_true] at h
 refine ⟨h.1,?_⟩
 have h2:=h.2
 split at h2
 ·exact ⟨_,by assumption,by simpa using h2⟩
 ·cases h2
theorem zLQ (R:Rel P Γ N S ρ a w) {t:TypeId} {x d:DV} {vc:Prop} {v:Value} (hx:zAU (MS N S.h ρ) w x ρ v) (h:zRe P S t x=some (d,vc)) (hv:vc):
 Yl P N w (MS N S.h ρ) ρ (Instr.loadAt t v) d:=by
 unfold zRe at h
 split at h
 ·rename_i m f
  obtain ⟨b,o,rfl,hc⟩:=zOK hx
  split at h
  ·rename_i h1
   split at h
   ·cases h
   ·cases h
    obtain ⟨hM,u,g1,g2⟩:=hc 0 (by omega)
    exact zGX (fun h=>hM (.inl h)) h1 g1 (zKo g2)
  ·split at h
   ·rename_i h2
    cases h
    obtain ⟨h3,i,hi,rfl⟩:=zL5 h2
    exact zOD (fun hp h=>(hc 0 hp).1 (.inl h)) h3 hi fun j hj=>let ⟨_,u,g1,g2⟩:=hc j hj;⟨u,g1,zKo g2⟩
   ·cases h
 ·rename_i k j
  obtain ⟨p,hp,rfl⟩:=hx
  split at h
  ·rename_i l hk
   obtain ⟨p',hp',hr⟩:=R.hr.obj k _ hk
   have e:p'=p:=Option.some.inj (hp'.symm.trans hp)
   subst e
   split at h
   ·rename_i h1
    split at h
    ·rename_i hj
     cases h
     obtain ⟨u,g1,g2⟩:=zAP.cell hr hj
     exact zGX (zIc R hk hp hr) h1 g1 g2
    ·cases h
   ·split at h
    ·rename_i i hi
     split at h
     ·rename_i h2
      cases h
      simp only [Bool.and_eq_true,decide_eq_true_eq] at h2
      refine zOD (fun _=>zIc R hk hp hr) h2.1 hi fun c hc=>?_
      obtain ⟨u,g1,g2⟩:=zAP.cell hr (j:=j+c) (by omega)
      exact ⟨u,by rw [Nat.add_assoc];exact g1,zFX hc g2⟩
     ·cases h
    ·cases h
  ·cases h
 ·rename_i k m i j
  obtain ⟨p,hp,rfl⟩:=hx
  split at h
  ·rename_i l hk
   obtain ⟨p',hp',hr⟩:=R.hr.obj k _ hk
   have e:p'=p:=Option.some.inj (hp'.symm.trans hp)
   subst e
   split at h
   ·rename_i h1
    cases h
    simp only [Bool.and_eq_true,beq_iff_eq] at h1
    obtain ⟨⟨h1,rfl⟩,rfl⟩:=h1
    obtain ⟨u,g1,g2⟩:=zAP.cell hr hv
    exact zGX (zIc R hk hp hr) h1 (by simpa using g1) g2
   ·cases h
  ·rename_i l hk
   obtain ⟨p',hp',hr⟩:=R.hr.obj k _ hk
   have e:p'=p:=Option.some.inj (hp'.symm.trans hp)
   subst e
   split at h
   ·rename_i h1
    cases h
    simp only [Bool.and_eq_true,beq_iff_eq] at h1
    obtain ⟨⟨h1,rfl⟩,rfl⟩:=h1
    obtain ⟨u,g1,g2⟩:=zAP.cell hr hv
    exact zGX (zIc R hk hp hr) h1 (by simpa using g1) g2
   ·cases h
  ·rename_i m' n f hk
   obtain ⟨p',hp',hr⟩:=R.hr.obj k _ hk
   have e:p'=p:=Option.some.inj (hp'.symm.trans hp)
   subst e
   have inb: ∀ {i j:Nat},i<n→j<m'→i*m'+j<n*m':=fun {i j} hi hj=>by
    have:(i+1)*m'≤n*m':=Nat.mul_le_mul_right _ hi
    rw [Nat.succ_mul] at this;omega
   have dv: ∀ {i j:Nat},j<m'→(i*m'+j)/m'=i∧(i*m'+j) % m'=j:=fun {i j} hj=>by
    have hm:0<m':=by omega
    constructor
    ·rw [Nat.mul_comm,Nat.mul_add_div hm,Nat.div_eq_of_lt hj,Nat.add_zero]
    ·rw [Nat.mul_comm,Nat.mul_add_mod,Nat.mod_eq_of_lt hj]
   split at h
   ·rename_i h1
    cases h
    simp only [Bool.and_eq_true,beq_iff_eq,decide_eq_true_eq] at h1
    obtain ⟨⟨h1,rfl⟩,hj⟩:=h1
    obtain ⟨u,g1,g2⟩:=zAP.cell hr (inb hv hj)
    rw [(dv hj).1,(dv hj).2] at g2
    exact zGX (zIc R hk hp hr) h1 g1 (zKo g2)
   ·split at h
    ·rename_i h2
     cases h
     simp only [Bool.and_eq_true,beq_iff_eq] at h2
     obtain ⟨⟨h2,rfl⟩,rfl⟩:=h2
     obtain ⟨h3,ti,hi,rfl⟩:=zL5 h2
     refine zOD (fun _=>zIc R hk hp hr) h3 hi fun c hc=>?_
     obtain ⟨u,g1,g2⟩:=zAP.cell hr (inb hv hc)
     rw [(dv hc).1,(dv hc).2] at g2
     exact ⟨u,by simpa [Nat.add_assoc] using g1,zKo g2⟩
    ·cases h
  ·rename_i n ls lk hk
   obtain ⟨p',hp',vs,hS⟩:=R.hr.obj k _ hk
   have e:p'=p:=Option.some.inj (hp'.symm.trans hp)
   subst e
   split at h
   ·rename_i h1
    cases h
    simp only [Bool.and_eq_true,beq_iff_eq] at h1
    obtain ⟨⟨h1,rfl⟩,rfl⟩:=h1
    obtain ⟨cs,tt,q1,q2,q3,q4⟩:=hS.row
    have hi:i<vs.size:=by rw [hS.size];exact hv
    have q5:=q4 i hv
    rw [Array.getElem?_eq_getElem hi] at q5
    refine zGX (u:=vs[i]) (R.hr.cel k _ p' p'.blk hk hp hS.blk).2.1 h1 ?_ ⟨p',vs,hp,hS.val,Array.getElem?_eq_getElem hi⟩
    unfold World.cell?
    simp [q1,q5]
   ·cases h
  ·cases h
 ·cases h
theorem Yl.pure {M:Nat→Prop} {s:Sem Value} {d:DV} {v:Value} (h: ∀ W,s.run P W= .ok v W) (hr:zAU M w d ρ v):Yl P N w M ρ s d:=⟨v,fun W _=>h W,hr⟩
theorem zM8 {t:TypeId} {m:Nat} (h:zR4 P t m=true):P.underlying t=some (.slice (P.elem t))∧(∃ i,P.info? (P.elem t)=some i∧i.size=m)∧m≠0:=by
 unfold zR4 at h
 split at h
 ·rename_i e he
  have:P.elem t=e:=by unfold Program.elem;rw [he]
  rw [this]
  refine ⟨he,?_⟩
  split at h
  ·simp only [Bool.and_eq_true,beq_iff_eq,bne_iff_ne] at h
   exact ⟨⟨_,by assumption,h.1⟩,h.2⟩
  ·cases h
 ·cases h
theorem zL0 {t:TypeId} {n m:Nat} (h:zdI P t=some (n,m)):P.underlying t=some (.array (P.arrayLen t) (P.elem t))∧P.arrayLen t=n∧∃ i,P.info? (P.elem t)=some i∧i.size=m:=by
 unfold zdI at h
 split at h
 ·rename_i n' e he
  have h1:P.elem t=e:=by unfold Program.elem;rw [he]
  have h2:P.arrayLen t=n':=by unfold Program.arrayLen;rw [he]
  rw [h1,h2]
  split at h
  ·split at h
   ·cases h
   ·cases h
    exact ⟨he,rfl,_,by assumption,rfl⟩
  ·cases h
 ·cases h
theorem zCf (b o n:Nat):Addr.add ⟨b,o,none⟩ n=⟨b,o+n,none⟩:=by
 unfold Addr.add
 by_cases h:n=0
 ·subst h;rfl
 ·simp [h]
theorem zDM {t:TypeId} {m b o len cap:Nat} {k:IntKind} {n:Int} (h:zR4 P t m=true) (h1:0≤n) (h2:n<len) (W:World):
 (Instr.indexAt t (.slice (some ⟨b,o,none⟩) len cap) (.int k n)).run P W= .ok (.pointer (some ⟨b,o+n.toNat*m,none⟩)) W:=by
 obtain ⟨hu,⟨i,hi,rfl⟩,_⟩:=zM8 h
 rw [run_indexAt_slice W t _ len cap k n hu,if_pos ⟨h1,h2⟩,zBL hi]
 simp only [Result.andThen,zCf]
theorem zUk (R:Rel P Γ N S ρ a w) {t:TypeId} {x d:DV} {vc:Prop} {v:Value} {k:IntKind} {n:Int} (hx:zAU (MS N S.h ρ) w x ρ v) (h:zd7 P t x n=some (d,vc)) (hv:vc):
 Yl P N w (MS N S.h ρ) ρ (Instr.indexAt t v (.int k n)) d:=by
 unfold zd7 at h
 split at h
 ·rename_i l
  obtain ⟨ad,cap,rfl,h1,h2,h3⟩:=hx
  split at h
  ·rename_i he
   cases h
   obtain ⟨b,o,rfl,hM,hc⟩:=h3 n.toNat (by omega)
   refine Yl.pure (fun W=>zDM he hv.1 hv.2 W) ⟨b,o+n.toNat*1,rfl,fun j hj=>⟨hM,_,?_,rfl⟩⟩
   have:j=0:=by omega
   subst this;simpa using hc
  ·cases h
 ·rename_i l
  obtain ⟨ad,cap,rfl,h1,h2,h3⟩:=hx
  split at h
  ·rename_i he
   cases h
   obtain ⟨b,o,rfl,hM,hc⟩:=h3 n.toNat (by omega)
   refine Yl.pure (fun W=>zDM he hv.1 hv.2 W) ⟨b,o+n.toNat*1,rfl,fun j hj=>⟨hM,_,?_,rfl⟩⟩
   have:j=0:=by omega
   subst this;simpa using hc
  ·cases h
 ·rename_i m c f
  obtain ⟨ad,cap,rfl,h1,h2,h3⟩:=hx
  split at h
  ·rename_i he
   cases h
   have hm:=(zM8 he).2
   obtain ⟨b,o,u,rfl,hM,hc,hr⟩:=h3 n.toNat 0 (by omega) (by omega)
   refine Yl.pure (fun W=>zDM he hv.1 hv.2 W) ⟨b,o+n.toNat*m,rfl,fun j hj=>?_⟩
   obtain ⟨b',o',u',e,hM',hc',hr'⟩:=h3 n.toNat j (by omega) hj
   cases e
   exact ⟨hM',u',by rw [Nat.add_assoc];exact hc',hr'⟩
  ·cases h
 ·rename_i k' m off c
  obtain ⟨p,cap,hp,rfl,h1,h2,h3⟩:=hx
  split at h
  ·rename_i he
   cases h
   exact Yl.pure (fun W=>zDM he hv.1 hv.2 W) ⟨p,hp,by rw [Nat.add_assoc,←Nat.add_mul];rfl⟩
  ·cases h
 ·rename_i k' j
  obtain ⟨p,hp,rfl⟩:=hx
  split at h
  ·rename_i len sz ha
   cases h
   obtain ⟨hu,hl,i,hi,rfl⟩:=zL0 ha
   refine Yl.pure (fun W=>?_) ⟨p,hp,rfl⟩
   rw [run_indexAt_array W t _ k n hu,if_pos ⟨hv.1,by rw [hl];exact hv.2⟩,zBL hi]
   simp only [Result.andThen,zCf,Nat.add_assoc]
  ·cases h
 ·rename_i k' m i0
  obtain ⟨p,hp,rfl⟩:=hx
  split at h
  ·rename_i len sz ha
   split at h
   ·rename_i hsz
    subst hsz
    cases h
    obtain ⟨hu,hl,i,hi,rfl⟩:=zL0 ha
    refine Yl.pure (fun W=>?_) ⟨p,hp,rfl⟩
    rw [run_indexAt_array W t _ k n hu,if_pos ⟨hv.1,by rw [hl];exact hv.2⟩,zBL hi]
    simp only [Result.andThen,zCf,Nat.add_assoc,Nat.add_mul,Nat.zero_add,Nat.add_zero]
   ·cases h
  ·cases h
 ·rename_i m f
  obtain ⟨b,o,rfl,hc⟩:=zOK hx
  split at h
  ·rename_i len sz ha
   split at h
   ·rename_i hsz
    cases h
    obtain ⟨hu,hl,i,hi,rfl⟩:=zL0 ha
    refine Yl.pure (fun W=>?_) ⟨b,o+n.toNat*i.size,rfl,fun j hj=>?_⟩
    ·rw [run_indexAt_array W t _ k n hu,if_pos ⟨hv.1,by rw [hl];exact hv.2⟩,zBL hi]
     simp only [Result.andThen,zCf]
    ·obtain ⟨hM,u,h1,h2⟩:=hc (n.toNat*i.size+j) (by omega)
     exact ⟨hM,u,by rw [Nat.add_assoc];exact h1,zFX hj h2⟩
   ·cases h
  ·cases h
 ·cases h
theorem zZV {op:BinOp} {k:IntKind} {x y:Int} {d:DV} {vc:Prop} (t:TypeId) (h:zdj op k x y=some (d,vc)) (M:Nat→Prop):Yl P N w M ρ (binOp op t (.int k x) (.int k y)) d:=by
 cases op <;> simp only [zdj,Option.some.injEq,Prod.mk.injEq,reduceCtorEq] at h <;> obtain ⟨rfl,-⟩:=h
 ·exact Yl.pure (fun W=>by rw [binOp_add];rfl) rfl
 ·exact Yl.pure (fun W=>by rw [binOp_sub];rfl) rfl
 ·exact Yl.pure (fun W=>by rw [binOp_mul];rfl) rfl
 ·exact Yl.pure (fun W=>by rw [binOp_and];rfl) rfl
 ·exact Yl.pure (fun W=>by rw [binOp_or];rfl) rfl
 ·exact Yl.pure (fun W=>by rw [binOp_xor];rfl) rfl
 ·exact Yl.pure (fun W=>by rw [binOp_andNot];rfl) rfl
 ·exact Yl.pure (fun W=>by rw [binOp_eql];rfl) rfl
 ·exact Yl.pure (fun W=>by rw [binOp_neq];rfl) rfl
 ·exact Yl.pure (fun W=>by rw [binOp_lss];rfl) rfl
 ·exact Yl.pure (fun W=>by rw [binOp_leq];rfl) rfl
 ·exact Yl.pure (fun W=>by rw [binOp_gtr];rfl) rfl
 ·exact Yl.pure (fun W=>by rw [binOp_geq];rfl) rfl
theorem zR1 {op:BinOp} {t:TypeId} {x y:Operand} {k:IntKind} {n:Int} {v:Value}:eqGuard op t x y (.int k n) v=pure ():=by
 cases op <;> rfl
theorem zVb {M:Nat→Prop} {op:BinOp} {t:TypeId} {x y:DV} {vx vy:Value} {d:DV} {vc:Prop} (ox oy:Operand) (hx:zAU M w x ρ vx) (hy:zAU M w y ρ vy) (h:zdk (zVa P t) op x y=some (d,vc)) (hv:vc):
 Yl P N w M ρ (do eqGuard op t ox oy vx vy;binOp op t vx vy) d:=by
 have key: ∀ {k k':IntKind} {n n':Int},vx= .int k n→vy= .int k' n'→Yl P N w M ρ (binOp op t (.int k n) (.int k' n')) d→Yl P N w M ρ (do eqGuard op t ox oy vx vy;binOp op t vx vy) d:=by
  intro k k' n n' e1 e2 hY
  subst e1;subst e2
  rw [zR1]
  exact hY
 have hb:zVa P t=1→P.underlying t=some .bool:=fun h=>by
  unfold zVa at h
  split at h
  ·assumption
  ·cases h
  ·cases h
 have hsl:zVa P t=2→∃ e,P.underlying t=some (.slice e):=fun h=>by
  unfold zVa at h
  split at h
  ·cases h
  ·exact ⟨_,by assumption⟩
  ·cases h
 have eqn: ∀ {e:TypeId} {a:Addr} {l c:Nat} (W:World),P.underlying t=some (.slice e)→(do eqGuard .eql t ox oy (.slice (some a) l c) (.slice none 0 0);binOp .eql t (.slice (some a) l c) (.slice none 0 0):Sem Value).run P W= .ok (.bool false) W:=by
  intro e a l c W hu
  have h1:eqGuard .eql t ox oy (.slice (some a) l c) (.slice none 0 0)=pure ():=rfl
  rw [h1]
  show (binOp .eql t (.slice (some a) l c) (.slice none 0 0)).run P W=_
  simp only [binOp]
  simp [run_equal_slice_nil W t e (some a) l c hu]
 have nen: ∀ {e:TypeId} {a:Addr} {l c:Nat} (W:World),P.underlying t=some (.slice e)→(do eqGuard .neq t ox oy (.slice (some a) l c) (.slice none 0 0);binOp .neq t (.slice (some a) l c) (.slice none 0 0):Sem Value).run P W= .ok (.bool true) W:=by
  intro e a l c W hu
  have h1:eqGuard .neq t ox oy (.slice (some a) l c) (.slice none 0 0)=pure ():=rfl
  rw [h1]
  show (binOp .neq t (.slice (some a) l c) (.slice none 0 0)).run P W=_
  simp only [binOp]
  simp [run_equal_slice_nil W t e (some a) l c hu]
 unfold zdk at h
 split at h
 ·split at h
  ·rename_i e
   cases h
   have e1:vx= .bool _:=hx
   have e2:vy= .bool _:=hy
   subst e1;subst e2
   exact Yl.pure (fun W=>run_eql_bool W t _ _ (hb e)) rfl
  ·cases h
 ·split at h
  ·rename_i e
   cases h
   have e1:vx= .bool _:=hx
   have e2:vy= .bool _:=hy
   subst e1;subst e2
   exact Yl.pure (fun W=>run_neq_bool W t _ _ (hb e)) rfl
  ·cases h
 ·split at h
  ·rename_i e
   cases h
   obtain ⟨e0,he⟩:=hsl e
   obtain ⟨ad,cap,rfl,h1,h2,h3⟩:=hx
   obtain ⟨b,o,rfl,_⟩:=h3 0 hv
   have e2:vy= .slice none 0 0:=hy
   subst e2
   exact Yl.pure (fun W=>eqn W he) rfl
  ·cases h
 ·split at h
  ·rename_i e
   cases h
   obtain ⟨e0,he⟩:=hsl e
   obtain ⟨ad,cap,rfl,h1,h2,h3⟩:=hx
   obtain ⟨b,o,rfl,_⟩:=h3 0 hv
   have e2:vy= .slice none 0 0:=hy
   subst e2
   exact Yl.pure (fun W=>eqn W he) rfl
  ·cases h
 ·split at h
  ·rename_i e
   cases h
   obtain ⟨e0,he⟩:=hsl e
   obtain ⟨ad,cap,rfl,h1,h2,h3⟩:=hx
   obtain ⟨b,o,rfl,_⟩:=h3 0 hv
   have e2:vy= .slice none 0 0:=hy
   subst e2
   exact Yl.pure (fun W=>nen W he) rfl
  ·cases h
 ·cases h
  refine key hx hy ?_
  exact Yl.pure (fun W=>by rw [binOp_shl,shift_shl _ _ _ _ hv.1 hv.2];rfl) rfl
 ·cases h
  refine key hx hy ?_
  exact Yl.pure (fun W=>by rw [binOp_shr,shift_shr _ _ _ _ hv.1 hv.2];rfl) rfl
 ·split at h
  ·rename_i e
   subst e
   exact key hx hy (zZV t h M)
  ·cases h
 ·cases h
theorem zAi {ρ':Operand→Value} {o:Oper} {s:Sem Value} {M:Nat→Prop} {d:DV} (he:execOp ρ' o=(do pure (.value (←s)))) (h:Yl P N w M ρ s d): ∃ v,(∀ W,Keep N w W→(execOp ρ' o).run P W= .ok (.value v) W)∧zAU M w d ρ v:=by
 obtain ⟨v,h1,h2⟩:=h
 refine ⟨v,fun W hE=>?_,h2⟩
 rw [he,Sem.run_bind,h1 W hE]
 rfl
theorem zR0 {s:TypeId} {f off sz:Nat} (h:zTP P s f=some (off,sz)): ∃ fs fd i,P.underlying s=some (.struct fs)∧fs[f]? =some fd∧fd.offset=off∧P.info? fd.type=some i∧i.size=sz∧sz≠0:=by
 unfold zTP at h
 split at h
 ·rename_i fs hs
  split at h
  ·rename_i fd hf
   split at h
   ·rename_i i hi
    split at h
    ·cases h
    ·cases h
     exact ⟨fs,fd,i,hs,hf,rfl,hi,rfl,by assumption⟩
   ·cases h
  ·cases h
 ·cases h
theorem zFb {s:TypeId} {f off sz b o:Nat} (h:zTP P s f=some (off,sz)) (W:World):(Instr.fieldAt s (.pointer (some ⟨b,o,none⟩)) f).run P W= .ok (.pointer (some ⟨b,o+off,none⟩)) W:=by
 obtain ⟨fs,fd,i,h1,h2,rfl,h4,rfl,h6⟩:=zR0 h
 unfold Instr.fieldAt
 rw [Sem.run_bind,run_underlying h1]
 simp only [Result.andThen,h2,Instr.sureAddr]
 simp only [Sem.run_bind,Sem.run_pure,Result.andThen,fieldPlace,zBL h4,if_neg h6,zCf]
theorem zX0 {t:TypeId} {k:IntKind} (h:zd6 P t=some k):P.underlying t=some (.int k):=by
 unfold zd6 at h
 split at h
 ·cases h;assumption
 ·cases h
theorem zHb {t ty:TypeId} {e:TypeId} {ad:Option Addr} {n c:Nat} (h:P.underlying t=some (.slice e)) (W:World):(Builtin.len_ #[t] ty #[.slice ad n c]).run P W= .ok (.int .i64 n) W:=by
 simp [Builtin.len_,run_underlying h,goInt]
theorem zO9 {t ty:TypeId} {s:ByteArray} (h:P.underlying t=some .string) (W:World):(Builtin.len_ #[t] ty #[.string s]).run P W= .ok (.int .i64 s.size) W:=by
 simp [Builtin.len_,run_underlying h,goInt]
theorem zF6 {M:Nat→Prop} {ρ':Operand→Value} {o:Oper} {c:Call} {b:Builtin} {d:DV} {s:Sem Value} (ho:o.op= .call c) (hc:c.callee= .builtin b)
 (hb:builtin b c.argTypes o.type (c.args.map fun | .const _=>true | _=>false) (c.args.map ρ')=(do pure (.value (←s)))) (h:Yl P N w M ρ s d):
 ∃ v,(∀ W,Keep N w W→(execOp ρ' o).run P W= .ok (.value v) W)∧zAU M w d ρ v:=by
 refine zAi (s:=s) ?_ h
 rw [←hb]
 unfold execOp
 rw [ho]
 show (resolve ρ' c o.type>>=fun d=>invoke d.target d.args)=_
 unfold resolve
 rw [hc]
 rfl
theorem zUg {M:Nat→Prop} {t ty:TypeId} {x d:DV} {vc:Prop} {v:Value} (hx:zAU M w x ρ v) (h:zdZ P t x=some (d,vc)):Yl P N w M ρ (Builtin.len_ #[t] ty #[v]) d:=by
 unfold zdZ at h
 split at h
 ·rename_i e' hu
  cases h;rw [show v=_ from hx]
  exact Yl.pure (fun W=>zHb hu W) rfl
 ·rename_i e' l hu
  cases h
  obtain ⟨ad,cap,rfl,_⟩:=hx
  exact Yl.pure (fun W=>zHb hu W) rfl
 ·rename_i e' l hu
  cases h
  obtain ⟨ad,cap,rfl,_⟩:=hx
  exact Yl.pure (fun W=>zHb hu W) rfl
 ·rename_i e' m n f hu
  cases h
  obtain ⟨ad,cap,rfl,_⟩:=hx
  exact Yl.pure (fun W=>zHb hu W) rfl
 ·rename_i e' k m off n hu
  cases h
  obtain ⟨p,cap,_,rfl,_⟩:=hx
  exact Yl.pure (fun W=>zHb hu W) rfl
 ·rename_i s hu
  cases h;rw [show v=_ from hx]
  exact Yl.pure (fun W=>zO9 hu W) rfl
 ·cases h
theorem zMM {α:Type} {l:Array α} {x:α} (h:l.toList= [x]):l= #[x]:=by cases l;simp at h;rw [h]
theorem zGK {α:Type} {l:Array α} {x y:α} (h:l.toList= [x,y]):l= #[x,y]:=by cases l;simp at h;rw [h]
theorem zQn (R:Rel P Γ N S ρ a w) (o:Oper) {c:Call} {b:Builtin} {d:DV} {vc:Prop} (ho:o.op= .call c) (hc:c.callee= .builtin b) (h:zTZ P S b c.args.toList c.argTypes.toList=some (d,vc)):
 ∃ v,(∀ W,Keep N w W→(execOp a.eval o).run P W= .ok (.value v) W)∧zAU (MS N S.h ρ) w d ρ v:=by
 have rep:=fun x=>zAX R x
 unfold zTZ at h
 split at h
 ·split at h
  ·rename_i x ha
   split at h
   ·rename_i t ht
    exact zF6 (s:=Builtin.len_ #[t] o.type #[a.eval x]) ho hc (by rw [zMM ha,zMM ht];simp [builtin]) (zUg (rep x) h)
   ·cases h
  ·cases h
 ·split at h
  ·rename_i x y ha
   have hx:=rep x
   have hy:=rep y
   unfold zd0 at h
   split at h
   ·rename_i k n k' n' e1 e2
    cases h
    rw [e1] at hx
    rw [e2] at hy
    refine zF6 (s:=Builtin.max_ c.argTypes o.type #[a.eval x,a.eval y]) ho hc (by rw [zGK ha];simp [builtin]) ?_
    rw [show a.eval x=_ from hx,show a.eval y=_ from hy]
    exact Yl.pure (fun W=>by simp [Builtin.max_,Builtin.max2]) rfl
   ·cases h
  ·cases h
 ·split at h
  ·rename_i x y ha
   have hx:=rep x
   have hy:=rep y
   unfold zdz at h
   split at h
   ·rename_i k n k' n' e1 e2
    cases h
    rw [e1] at hx
    rw [e2] at hy
    refine zF6 (s:=Builtin.min_ c.argTypes o.type #[a.eval x,a.eval y]) ho hc (by rw [zGK ha];simp [builtin]) ?_
    rw [show a.eval x=_ from hx,show a.eval y=_ from hy]
    exact Yl.pure (fun W=>by simp [Builtin.min_,Builtin.min2]) rfl
   ·cases h
  ·cases h
 ·cases h
theorem zPn (R:Rel P Γ N S ρ a w) (o:Oper) {d:DV} {vc:Prop} (h:pop P S o.op=some (d,vc)) (hv:vc):
 ∃ v,(∀ W,Keep N w W→(execOp a.eval o).run P W= .ok (.value v) W)∧zAU (MS N S.h ρ) w d ρ v:=by
 have rep:=fun x=>zAX R x
 unfold pop at h
 split at h
 ·rename_i x ho
  cases h
  exact ⟨a.eval x,fun W _=>by unfold execOp;rw [ho];rfl,rep x⟩
 ·rename_i x ho
  cases h
  exact ⟨a.eval x,fun W _=>by unfold execOp;rw [ho];rfl,rep x⟩
 ·rename_i c x y ho
  have hc:=rep c
  split at h
  ·rename_i e
   cases h
   rw [e] at hc
   exact ⟨a.eval x,fun W _=>by unfold execOp;rw [ho];simp only [show a.eval c= .bool true from hc];rfl,rep x⟩
  ·rename_i e
   cases h
   rw [e] at hc
   exact ⟨a.eval y,fun W _=>by unfold execOp;rw [ho];simp only [show a.eval c= .bool false from hc];rfl,rep y⟩
  ·cases h
 ·rename_i t x ho
  exact zAi (by unfold execOp;rw [ho]) (zLQ R (rep x) h hv)
 ·rename_i op t x y t' ho
  exact zAi (by unfold execOp;rw [ho]) (zVb x y (rep x) (rep y) h hv)
 ·rename_i op t x ho
  have hx:=rep x
  refine zAi (s:=Op.unary op (a.eval x)) (by unfold execOp;rw [ho]) ?_
  split at h
  ·rename_i b e
   cases h
   rw [e] at hx
   rw [show a.eval x= .bool b from hx]
   exact Yl.pure (fun W=>rfl) rfl
  ·rename_i k n e
   cases h
   rw [e] at hx
   rw [show a.eval x= .int k n from hx]
   exact Yl.pure (fun W=>rfl) rfl
  ·rename_i k n e
   cases h
   rw [e] at hx
   rw [show a.eval x= .int k n from hx]
   exact Yl.pure (fun W=>rfl) rfl
  ·cases h
 ·rename_i ts td x ho
  have hx:=rep x
  split at h
  ·rename_i dd k k' n hs hd e
   cases h
   rw [e] at hx
   refine zAi (s:=convert ts td (a.eval x)) (by unfold execOp;rw [ho]) ?_
   rw [show a.eval x= .int k' n from hx]
   refine Yl.pure (v:=.int k (k.wrap n)) (fun W=>?_) rfl
   simp [convert,run_underlying hs,run_underlying (zX0 hd),Conv.intToInt]
  ·cases h
 ·rename_i x ho
  have hx:=rep x
  split at h
  ·rename_i m f e
   cases h
   rw [e] at hx
   obtain ⟨b,oo,hb,hr⟩:=zOK hx
   exact ⟨_,fun W _=>by unfold execOp;rw [ho];simp only [hb];rfl,b,oo,rfl,hr⟩
  ·rename_i k j e
   cases h
   rw [e] at hx
   obtain ⟨p,hp,hb⟩:=hx
   exact ⟨_,fun W _=>by unfold execOp;rw [ho];simp only [hb];rfl,p,hp,rfl⟩
  ·rename_i k m i j e
   cases h
   rw [e] at hx
   obtain ⟨p,hp,hb⟩:=hx
   exact ⟨_,fun W _=>by unfold execOp;rw [ho];simp only [hb];rfl,p,hp,rfl⟩
  ·rename_i g m c e
   cases h
   rw [e] at hx
   obtain ⟨lb,hb,hr⟩:=hx
   exact ⟨_,fun W _=>by unfold execOp;rw [ho];simp only [hb];rfl,lb,rfl,hr⟩
  ·cases h
 ·rename_i st x f ho
  have hx:=rep x
  split at h
  ·rename_i off sz hf
   refine zAi (s:=Instr.fieldAt st (a.eval x) f) (by unfold execOp;rw [ho]) ?_
   split at h
   ·rename_i m g e
    split at h
    ·cases h
     rw [e] at hx
     obtain ⟨b,oo,hb,hr⟩:=zOK hx
     rw [hb]
     refine Yl.pure (fun W=>zFb hf W) ⟨b,_,rfl,fun j hj=>?_⟩
     obtain ⟨g1,u,g2,g3⟩:=hr (off+j) (by omega)
     exact ⟨g1,u,by rw [Nat.add_assoc];exact g2,zFX hj g3⟩
    ·cases h
   ·rename_i k j e
    cases h
    rw [e] at hx
    obtain ⟨p,hp,hb⟩:=hx
    rw [hb]
    exact Yl.pure (fun W=>zFb hf W) ⟨p,hp,by rw [Nat.add_assoc]⟩
   ·rename_i k m i j e
    cases h
    rw [e] at hx
    obtain ⟨p,hp,hb⟩:=hx
    rw [hb]
    exact Yl.pure (fun W=>zFb hf W) ⟨p,hp,by rw [Nat.add_assoc,Nat.add_assoc]⟩
   ·cases h
  ·cases h
 ·rename_i t x i ho
  have hi:=rep i
  split at h
  ·rename_i k n e
   rw [e] at hi
   refine zAi (s:=Instr.indexAt t (a.eval x) (a.eval i)) (by unfold execOp;rw [ho]) ?_
   rw [show a.eval i= .int k n from hi]
   exact zUk R (rep x) h hv
  ·cases h
 ·rename_i x i ho
  have hx:=rep x
  split at h
  ·rename_i m f e
   split at h
   ·rename_i hi
    cases h
    rw [e] at hx
    obtain ⟨cs,hb,hs,hr⟩:=hx
    obtain ⟨u,g1,g2⟩:=hr i hi
    refine zAi (s:=Instr.extract (a.eval x) i) (by unfold execOp;rw [ho]) ?_
    rw [hb]
    exact Yl.pure (fun W=>by simp [Instr.extract,g1]) g2
   ·cases h
  ·cases h
 ·rename_i g first c ho
  split at h
  ·rename_i hf
   cases h
   refine ⟨.func (.func g) #[] (c.map a.eval),fun W _=>?_,c.map a.eval,rfl,by simp,fun j hj=>?_⟩
   ·unfold execOp;rw [ho]
    have:first= #[]:=Array.eq_empty_of_size_eq_zero hf
    subst this;simp [Instr.makeFunc]
   ·refine ⟨a.eval (c.getD j (.const undef)),by simp [hj],zFX hj (rep _)⟩
  ·cases h
 ·rename_i c ho
  split at h
  ·rename_i b hc
   exact zQn R o ho hc h
  ·cases h
 ·cases h
end
end Go.Proofs.YtekkngkphejfcaaGreatDoor
namespace Go.Proofs.YtekkngkphejfcaaGreatDoor
open Go.RowKit
def zXQ:DV→Bool
 | .any=>false
 | .agg .. =>false
 | .tup .. =>false
 | .it _=>false
 | .yl _=>false
 | .mse .. =>false
 | .mri .. =>false
 | _=>true
def zF8:DV→Option (List DV)
 | .agg m f=>some ((List.range m).map f)
 | .any=>none
 | .tup .. =>none
 | .it _=>none
 | .yl _=>none
 | .mse .. =>none
 | .mri .. =>none
 | d=>some [d]
def zMq:DV→Bool
 | .int .. =>true
 | .bool _=>true
 | .str _=>true
 | .nils=>true
 | .ints _=>true
 | .bools _=>true
 | .sl .. =>true
 | _=>false
section
variable {P:Program} {Γ:Glo} {N:Nat→Prop} {S:St} {ρ:List zAJ} {a:Act} {w:World}
theorem zJ1 {M:Nat→Prop} {d:DV} {v:Value} (h:zXQ d=true) (hr:zAU M w d ρ v):v.oneCell'=true∧v.cells= #[v]:=by
 have key:(∀ cs,v≠.agg cs)→(∀ cs,v≠.tuple cs)→v.oneCell'=true∧v.cells= #[v]:=fun h1 h2=>by
  cases v <;> first | exact ⟨rfl,rfl⟩ | exact absurd rfl (h1 _) | exact absurd rfl (h2 _)
 cases d with
 | any=>cases h
 | agg m f=>cases h
 | tup m f=>cases h
 | nils=>exact key (fun cs e=>by rw [hr] at e;cases e) (fun cs e=>by rw [hr] at e;cases e)
 | int k n=>exact key (fun cs e=>by rw [hr] at e;cases e) (fun cs e=>by rw [hr] at e;cases e)
 | bool b=>exact key (fun cs e=>by rw [hr] at e;cases e) (fun cs e=>by rw [hr] at e;cases e)
 | str s=>exact key (fun cs e=>by rw [hr] at e;cases e) (fun cs e=>by rw [hr] at e;cases e)
 | ints l=>obtain ⟨_,_,rfl,_⟩:=hr;exact ⟨rfl,rfl⟩
 | bools l=>obtain ⟨_,_,rfl,_⟩:=hr;exact ⟨rfl,rfl⟩
 | sl m n f=>obtain ⟨_,_,rfl,_⟩:=hr;exact ⟨rfl,rfl⟩
 | fp m f=>obtain ⟨_,_,rfl,_⟩:=hr;exact ⟨rfl,rfl⟩
 | ref k j=>obtain ⟨_,_,rfl⟩:=hr;exact ⟨rfl,rfl⟩
 | msl k m off n=>obtain ⟨_,_,_,rfl,_⟩:=hr;exact ⟨rfl,rfl⟩
 | mp k m i j=>obtain ⟨_,_,rfl⟩:=hr;exact ⟨rfl,rfl⟩
 | fn g m c=>obtain ⟨_,rfl,_⟩:=hr;exact ⟨rfl,rfl⟩
 | it k=>cases h
 | yl l=>cases h
 | mse k m o n=>cases h
 | mri k i=>cases h
 | cst u=>obtain ⟨rfl,hu⟩:=hr;cases v <;> first | exact ⟨rfl,rfl⟩ | (cases hu;done)
theorem zDh {M:Nat→Prop} {d:DV} {v:Value} {l:List DV} (h:zF8 d=some l) (hr:zAU M w d ρ v):v.cells.size=l.length∧∀ j,j<l.length→∃ u,v.cells[j]? =some u∧zAU M w (l.getD j .any) ρ u:=by
 have one:zXQ d=true→l= [d]→v.cells.size=l.length∧∀ j,j<l.length→∃ u,v.cells[j]? =some u∧zAU M w (l.getD j .any) ρ u:=by
  intro h1 h2
  subst h2
  rw [(zJ1 h1 hr).2]
  refine ⟨rfl,fun j hj=>?_⟩
  have:j=0:=by simpa using hj
  subst this
  exact ⟨v,rfl,hr⟩
 cases d with
 | any=>cases h
 | tup m f=>cases h
 | it k=>cases h
 | yl l=>cases h
 | mse k m o n=>cases h
 | mri k i=>cases h
 | cst u=>exact one rfl (Option.some.inj h).symm
 | agg m f=>
  cases h
  obtain ⟨cs,rfl,hs,hc⟩:=hr
  refine ⟨by simpa [Value.cells] using hs,fun j hj=>?_⟩
  have hj':j<m:=by simpa using hj
  obtain ⟨u,h1,h2⟩:=hc j hj'
  exact ⟨u,h1,by simpa [hj'] using h2⟩
 | nils=>cases h;exact one rfl rfl
 | int k n=>cases h;exact one rfl rfl
 | bool b=>cases h;exact one rfl rfl
 | str s=>cases h;exact one rfl rfl
 | ints l=>cases h;exact one rfl rfl
 | bools l=>cases h;exact one rfl rfl
 | sl m n f=>cases h;exact one rfl rfl
 | fp m f=>cases h;exact one rfl rfl
 | ref k j=>cases h;exact one rfl rfl
 | msl k m off n=>cases h;exact one rfl rfl
 | mp k m i j=>cases h;exact one rfl rfl
 | fn g m c=>cases h;exact one rfl rfl
theorem zIp {M:Nat→Prop} {d:DV} {v:Value} (h:zMq d=true) (hr:zAU M w d ρ v):zAU M w d [] v:=by
 cases d <;> first | exact hr | (cases h;done)
structure Got (P:Program) (Γ:Glo) (N:Nat→Prop) (h:DH) (ρ:List zAJ) (w:World) (ext:Bool) (d:DV) (h':DH) (v:Value) (w':World):Prop where
 ex: ∃ ρ',zDJ P Γ N h' ρ' w'∧zAU (MS N h' ρ') w' d ρ' v∧zCH h ρ w h' ρ' w'∧(∀ (k:Nat) (p:zAJ),ρ[k]? =some p→ρ'[k]? =some p)
 ext:ext=true→Ext w w'
def zDl (P:Program) (s:Sem Next) (w:World) (G:Value→World→Prop):Prop:=
 (∃ v w',s.run P w= .ok (.value v) w'∧G v w')∨(∃ w',s.run P w= .ok .skip w'∧G undef w')∨
 (∃ f args w',s.run P w= .ok (.enter f args) w'∧Calls P f args w' fun e w''=>∃ v,e= .returned v∧G v w'')
theorem zDl.value {G:Value→World→Prop} {ρ':Operand→Value} {o:Oper} {s:Sem Value} {v:Value} {w':World} (he:execOp ρ' o=(do pure (.value (←s)))) (h:s.run P w= .ok v w') (hG:G v w'):zDl P (execOp ρ' o) w G:=
 .inl ⟨v,w',by rw [he,Sem.run_bind,h];rfl,hG⟩
theorem zDl.skip {G:Value→World→Prop} {ρ':Operand→Value} {o:Oper} {s:Sem Unit} {w':World} (he:execOp ρ' o=(do s;pure .skip)) (h:s.run P w= .ok () w') (hG:G undef w'):zDl P (execOp ρ' o) w G:=
 .inr (.inl ⟨w',by rw [he,Sem.run_bind,h];rfl,hG⟩)
def zBR (w:World) (room:Nat):zAJ:=⟨w.heap.size,0,room,undef,fun b=>b=w.heap.size⟩
theorem zIz (H:zDJ P Γ N S.h ρ w) {cs:Array Value} {t:TypeId} {o:DO} {d:DV} {v:Value} {w1:World} (hw1:Ext w w1∧w1.heap.size=w.heap.size)
 (ho: ∀ M ρ',zDW (MS N S.h ρ) w ρ M (w1.alloc (.cells cs t)) ρ'→zBf P M (w1.alloc (.cells cs t)) ρ' (zBR w cs.size) o)
 (hv: ∀ M ρ',ρ'[S.h.length]? =some (zBR w cs.size)→zAU M (w1.alloc (.cells cs t)) d ρ' v) (ext:Bool):
 Got P Γ N S.h ρ w ext d (S.h++[some o]) v (w1.alloc (.cells cs t)):=by
 have hE:Ext w (w1.alloc (.cells cs t)):=hw1.1.allocR _
 have hf: ∀ b,(zBR w cs.size).foot b→w.heap.size≤b:=fun b hb=>Nat.le_of_eq (Eq.symm hb)
 have hb:(w1.alloc (.cells cs t)).heap[w.heap.size]? =some (.cells cs t (0,0)):=by rw [←hw1.2];exact heap_alloc_new w1 _
 refine ⟨⟨ρ++[zBR w cs.size],H.snoc hE (fun b hx=>⟨hf b hx,.cells (c:=cs) (t:=t) (z:=(0,0)) (by rw [show b=w.heap.size from hx];exact hb)⟩) (ho _ _ (zDW.snoc H hE hf)),?_,zCH.snoc H hE hf,fun k p hk=>zAR hk⟩,fun _=>hE⟩
 exact hv _ _ (by rw [←H.len];simp)
theorem zKh {cs:Array Value} {t:TypeId} {w1:World} (hs:w1.heap.size=w.heap.size) {n:Nat} {R:Nat→Value→Prop} (hn:n≤cs.size) (hR: ∀ j,j<n→∃ u,cs[j]? =some u∧R j u):zAP (w1.alloc (.cells cs t)) (zBR w cs.size) n R:=by
 refine ⟨rfl,cs,t,?_,by simpa [zBR] using hn,Nat.le_refl _,fun j hj=>by simpa [zBR] using hR j hj⟩
 show (w1.alloc (.cells cs t)).heap[w.heap.size]? =_
 rw [←hs];exact heap_alloc_new w1 _
theorem zcM (R:Rel P Γ N S ρ a w) {x:Operand} {t:TypeId} {l:List DV} (h:zF8 (opd S.fr x)=some l) (o:Oper) (ho:o.op= .box t x) (ext:Bool):
 zDl P (execOp a.eval o) w (Got P Γ N S.h ρ w ext (.ref S.h.length 0) (S.h++[some (.cells l)])):=by
 obtain ⟨h1,h2⟩:=zDh h (zAX R x)
 refine zDl.value (s:=Instr.box t (a.eval x)) (by unfold execOp;rw [ho]) (v:=.pointer (some ⟨w.heap.size,0,none⟩)) (w':=w.alloc (.cells (a.eval x).cells t)) ?_ ?_
 ·rfl
 ·refine zIz (d:=.ref S.h.length 0) R.hr ⟨Ext.refl w,rfl⟩ (fun M ρ' O=>?_) (fun M ρ' hp=>⟨_,hp,rfl⟩) ext
  refine zKh rfl (by omega) fun j hj=>?_
  obtain ⟨u,g1,g2⟩:=h2 j hj
  exact ⟨u,g1,g2.out _ O⟩
theorem zYv (R:Rel P Γ N S ρ a w) {t:TypeId} {i:TypeInfo} {z:Value} (hi:P.info? t=some i) (hz:i.zero=some z) (o:Oper) (ho:o.op= .alloc t) (ext:Bool):
 zDl P (execOp a.eval o) w (Got P Γ N S.h ρ w ext (.ref S.h.length 0) (S.h++[some (.cells (z.cells.toList.map ofV))])):=by
 refine zDl.value (s:=Instr.alloc t true (.tuple #[])) (by unfold execOp;rw [ho]) (v:=.pointer (some ⟨w.heap.size,0,none⟩)) (w':=w.alloc (.cells z.cells t)) ?_ ?_
 ·simp [Instr.alloc,zeroValue,typeInfo,hi,hz,newVar,newRow,newObj];rfl
 ·refine zIz (d:=.ref S.h.length 0) R.hr ⟨Ext.refl w,rfl⟩ (fun M ρ' O=>?_) (fun M ρ' hp=>⟨_,hp,rfl⟩) ext
  refine zKh rfl (by simp) fun j hj=>?_
  have hj':j<z.cells.size:=by simpa using hj
  refine ⟨z.cells[j],by simp [hj'],?_⟩
  have:(z.cells.toList.map ofV).getD j .any=ofV z.cells[j]:=by simp [hj']
  rw [this];exact zLJ _
def zbH:Value→Bool
 | .bool false=>true
 | _=>false
def zQ1 (z:Value):Bool:=decide (2<z.cells.size)&&z.cells.toList.all zbH
theorem zL4 (R:Rel P Γ N S ρ a w) {t:TypeId} {i:TypeInfo} {z:Value} (hi:P.info? t=some i) (hz:i.zero=some z) (hb:zQ1 z=true) (o:Oper) (ho:o.op= .alloc t) (ext:Bool):
 zDl P (execOp a.eval o) w (Got P Γ N S.h ρ w ext (.mp S.h.length 1 0 0) (S.h++[some (.bools (List.replicate z.cells.size false))])):=by
 refine zDl.value (s:=Instr.alloc t true (.tuple #[])) (by unfold execOp;rw [ho]) (v:=.pointer (some ⟨w.heap.size,0,none⟩)) (w':=w.alloc (.cells z.cells t)) ?_ ?_
 ·simp [Instr.alloc,zeroValue,typeInfo,hi,hz,newVar,newRow,newObj];rfl
 ·refine zIz (d:=.mp S.h.length 1 0 0) R.hr ⟨Ext.refl w,rfl⟩ (fun M ρ' O=>?_) (fun M ρ' hp=>⟨_,hp,rfl⟩) ext
  refine zKh rfl (by simp) fun j hj=>?_
  have hj':j<z.cells.size:=by simpa using hj
  refine ⟨z.cells[j],by simp [hj'],?_⟩
  simp only [zQ1,Bool.and_eq_true,List.all_eq_true] at hb
  have:=hb.2 z.cells[j] (by simp)
  unfold zbH at this
  split at this
  ·rename_i e;rw [e];simp [hj']
  ·cases this
inductive EK where
 | ints
 | bools
 | gen (m:Nat)
def ekB (P:Program) (t:TypeId):Option (EK×TypeId×TypeInfo×Value):=match P.underlying t with
 | some (.slice e)=>match P.info? e with
  | some i=>match i.zero with
   | some z=>if i.size=0 then none else if z.cells.size≠i.size then none else match P.underlying e with
    | some (.int .i64)=>if i.size=1 then (match z with | .int .i64 0=>some (.ints,e,i,z) | _=>none) else none
    | some .bool=>if i.size=1 then (match z with | .bool false=>some (.bools,e,i,z) | _=>none) else none
    | _=>some (.gen i.size,e,i,z)
   | none=>none
  | none=>none
 | _=>none
def EK.cells:EK→Nat
 | .ints=>1
 | .bools=>1
 | .gen m=>m
theorem zOO {t:TypeId} {k:EK} {e:TypeId} {i:TypeInfo} {z:Value} (h:ekB P t=some (k,e,i,z)):P.underlying t=some (.slice e)∧P.info? e=some i∧i.zero=some z∧i.size≠0∧z.cells.size=i.size∧k.cells=i.size∧
 (k= .ints→z= .int .i64 0)∧(k= .bools→z= .bool false):=by
 unfold ekB at h
 repeat' (split at h)
 all_goals first
  | (cases h;done)
  | skip
 all_goals
  simp only [Option.some.injEq,Prod.mk.injEq] at h
  obtain ⟨rfl,rfl,rfl,rfl⟩:=h
  refine ⟨by assumption,by assumption,by assumption,by assumption,by simp_all,?_,?_,?_⟩
  ·simp_all [EK.cells]
  ·intro hk;first | rfl | cases hk
  ·intro hk;first | rfl | cases hk
theorem zF3 {s:Nat} (hs:0<s): ∀ (vs:List Value),(∀ v∈vs,v.cells.size=s)→∀ i j,i<vs.length→j<s→(vs.flatMap fun v=>v.cells.toList)[i*s+j]? =(vs[i]?).bind (fun v=>v.cells[j]?)
 | [],_,i,j,hi,_=>absurd hi (Nat.not_lt_zero i)
 | v::vs,hv,i,j,hi,hj=>by
  have hvs:v.cells.toList.length=s:=by simpa using hv v (by simp)
  rw [List.flatMap_cons]
  cases i with
  | zero=>rw [Nat.zero_mul,Nat.zero_add,List.getElem?_append_left (by omega)];simp
  | succ i=>
   rw [List.getElem?_append_right (by rw [hvs,Nat.succ_mul];omega),hvs,show (i+1)*s+j-s=i*s+j by rw [Nat.succ_mul];omega]
   rw [zF3 hs vs (fun v h=>hv v (by simp [h])) i j (by simpa using hi) hj]
   simp
def zVl:DV→Int
 | .int _ n=>n
 | _=>0
def zYp:DV→Bool
 | .bool b=>b
 | _=>false
def isI:DV→Bool
 | .int .i64 _=>true
 | _=>false
def isB:DV→Bool
 | .bool _=>true
 | _=>false
def zNB (k:EK) (ds:List DV):Option DO:=match k with
 | .ints=>if ds.all isI then some (.ints (ds.map zVl)) else none
 | .bools=>if ds.all isB then some (.bools (ds.map zYp)) else none
 | .gen m=>if ds.all fun d=>(match zF8 d with | some l=>l.length==m&&l.all zMq | none=>false) then
  some (.arr m ds.length (fun i j=>match zF8 (ds.getD i .any) with | some l=>l.getD j .any | none=>.any)) else none
theorem zOH {M:Nat→Prop} {d:DV} {v:Value} (h:isI d=true) (hr:zAU M w d ρ v):v= .int .i64 (zVl d):=by
 unfold isI at h
 split at h
 ·exact hr
 ·cases h
theorem zad {M:Nat→Prop} {d:DV} {v:Value} (h:isB d=true) (hr:zAU M w d ρ v):v= .bool (zYp d):=by
 unfold isB at h
 split at h
 ·exact hr
 ·cases h
theorem zVY {M:Nat→Prop} {k:EK} {ds:List DV} {o:DO} {vs:List Value} (hk:0<k.cells) (h:zNB k ds=some o) (hl:vs.length=ds.length) (hv: ∀ i,i<ds.length→zAU M w (ds.getD i .any) ρ (vs.getD i undef)):
 (∀ v∈vs,v.cells.size=k.cells)∧∀ M' (w':World) ρ',zDW M w ρ M' w' ρ'→∀ (cs:Array Value) (t:TypeId) (p:zAJ),cs.toList=(vs.flatMap fun v=>v.cells.toList)→zAP w' p (ds.length*k.cells) (fun j u=>cs[j]? =some u)→zBf P M' w' ρ' p o:=by
 have one: ∀ {j:Nat},k.cells=1→j<ds.length*k.cells→(∀ v∈vs,v.cells.size=k.cells)→∀ {u},(vs.flatMap fun v=>v.cells.toList)[j]? =some u→(vs[j]?).bind (fun v=>v.cells[0]?)=some u:=fun {j} h1 hj hs {u} hu=>by
  rw [h1] at hj hs
  have:=zF3 (s:=1) (by omega) vs hs j 0 (by omega) (by omega)
  rw [Nat.mul_one,Nat.add_zero] at this
  rw [←this];exact hu
 have mem: ∀ v∈vs,∃ i,i<ds.length∧v=vs.getD i undef∧vs[i]? =some v:=fun v hv=>by
  obtain ⟨i,hi,rfl⟩:=List.getElem_of_mem hv
  exact ⟨i,by omega,by simp [hi],by simp [hi]⟩
 have dmem: ∀ i,i<ds.length→ds.getD i .any∈ds:=fun i hi=>by simp [hi]
 cases k with
 | ints=>
  simp only [zNB] at h
  split at h
  ·rename_i ha
   cases h
   have hI: ∀ i,i<ds.length→vs.getD i undef= .int .i64 (zVl (ds.getD i .any)):=fun i hi=>zOH (List.all_eq_true.1 ha _ (dmem i hi)) (hv i hi)
   have hs: ∀ v∈vs,v.cells.size=EK.ints.cells:=fun v hvm=>by obtain ⟨i,hi,e,_⟩:=mem v hvm;rw [e,hI i hi];rfl
   refine ⟨hs,fun M' w' ρ' O cs t p hcs hr=>?_⟩
   have hn:ds.length*EK.ints.cells=(ds.map zVl).length:=by simp [EK.cells]
   rw [hn] at hr
   refine zAP.out hr rfl fun j u hj hu=>?_
   have hj':j<ds.length:=by simpa using hj
   have h2:=one rfl (by simpa [EK.cells] using hj') hs (u:=u) (by rw [←hcs];simpa using hu)
   rw [List.getElem?_eq_getElem (by omega)] at h2
   have h3:=hI j hj'
   have h4:vs.getD j undef=vs[j]:=by simp [hl,hj']
   rw [h4] at h3
   simp only [Option.bind_some,h3] at h2
   have:u=Value.int .i64 (zVl (ds.getD j .any)):=by simpa [Value.cells] using h2.symm
   rw [this];simp [hj']
  ·cases h
 | bools=>
  simp only [zNB] at h
  split at h
  ·rename_i ha
   cases h
   have hI: ∀ i,i<ds.length→vs.getD i undef= .bool (zYp (ds.getD i .any)):=fun i hi=>zad (List.all_eq_true.1 ha _ (dmem i hi)) (hv i hi)
   have hs: ∀ v∈vs,v.cells.size=EK.bools.cells:=fun v hvm=>by obtain ⟨i,hi,e,_⟩:=mem v hvm;rw [e,hI i hi];rfl
   refine ⟨hs,fun M' w' ρ' O cs t p hcs hr=>?_⟩
   have hn:ds.length*EK.bools.cells=(ds.map zYp).length:=by simp [EK.cells]
   rw [hn] at hr
   refine zAP.out hr rfl fun j u hj hu=>?_
   have hj':j<ds.length:=by simpa using hj
   have h2:=one rfl (by simpa [EK.cells] using hj') hs (u:=u) (by rw [←hcs];simpa using hu)
   rw [List.getElem?_eq_getElem (by omega)] at h2
   have h3:=hI j hj'
   have h4:vs.getD j undef=vs[j]:=by simp [hl,hj']
   rw [h4] at h3
   simp only [Option.bind_some,h3] at h2
   have:u=Value.bool (zYp (ds.getD j .any)):=by simpa [Value.cells] using h2.symm
   rw [this];simp [hj']
  ·cases h
 | gen m=>
  simp only [zNB] at h
  split at h
  ·rename_i ha
   cases h
   have hm:0<m:=hk
   have hI: ∀ i,i<ds.length→∃ l,zF8 (ds.getD i .any)=some l∧l.length=m∧(∀ d∈l,zMq d=true):=fun i hi=>by
    have:=List.all_eq_true.1 ha _ (dmem i hi)
    split at this
    ·rename_i l hl
     simp only [Bool.and_eq_true,beq_iff_eq] at this
     exact ⟨l,hl,this.1,fun d hd=>List.all_eq_true.1 this.2 d hd⟩
    ·cases this
   have hs: ∀ v∈vs,v.cells.size=(EK.gen m).cells:=fun v hvm=>by
    obtain ⟨i,hi,e,_⟩:=mem v hvm
    obtain ⟨l,h1,h2,_⟩:=hI i hi
    rw [e,(zDh h1 (hv i hi)).1,h2];rfl
   refine ⟨hs,fun M' w' ρ' O cs t p hcs hr=>?_⟩
   refine zAP.out hr rfl fun j u hj hu=>?_
   have hj0:j<ds.length*m:=hj
   have hi:j/m<ds.length:=by rw [Nat.div_lt_iff_lt_mul hm];exact hj0
   have hc:j % m<m:=Nat.mod_lt _ hm
   obtain ⟨l,h1,h2,h3⟩:=hI (j/m) hi
   have h4:=zF3 (s:=m) hm vs hs (j/m) (j % m) (by omega) hc
   rw [show j/m*m+j % m=j by rw [Nat.mul_comm];exact Nat.div_add_mod j m] at h4
   obtain ⟨_,h5⟩:=zDh h1 (hv (j/m) hi)
   obtain ⟨u',g1,g2⟩:=h5 (j % m) (by omega)
   have h6:vs.getD (j/m) undef=vs[j/m]'(by omega):=by simp [hl,hi]
   have hlt:j/m<vs.length:=by omega
   rw [List.getElem?_eq_getElem hlt] at h4
   rw [h6] at g1
   have:u=u':=by
    have hu':(vs.flatMap fun v=>v.cells.toList)[j]? =some u:=by rw [←hcs];simpa using hu
    rw [h4] at hu'
    simp only [Option.bind_some] at hu'
    rw [g1] at hu';exact (Option.some.inj hu').symm
   subst this
   simp only [h1]
   refine zAU.out _ O.nil (zIp (h3 _ ?_) g2)
   simp [h2,hc]
  ·cases h
theorem zNb {cs:Array Value} {t:TypeId} {w1:World} (hs:w1.heap.size=w.heap.size) {n:Nat} (hn:cs.size=n):zAP (w1.alloc (.cells cs t)) (zBR w n) n (fun j u=>cs[j]? =some u):=by
 subst hn
 exact zKh hs (Nat.le_refl _) fun j hj=>⟨cs[j],by simp [hj],by simp [hj]⟩
def zTU (parts:List (Nat×Operand)) (len:Nat):Bool:=parts.map (·.1)==List.range len
theorem zR6 {parts:List (Nat×Operand)} {len:Nat} (h:zTU parts len=true) (f:Operand→Value):parts.length=len∧(parts.map fun x=>(x.1,f x.2))=((parts.map fun x=>f x.2).zipIdx 0).map fun x=>(x.2,x.1):=by
 simp only [zTU,beq_iff_eq] at h
 have hl:parts.length=len:=by have:=congrArg List.length h;simpa using this
 refine ⟨hl,List.ext_getElem? fun i=>?_⟩
 by_cases hi:i<parts.length
 ·have h1:parts[i].1=i:=by
   have h2:=congrArg (fun l:List Nat=>l[i]?) h
   have h3:(List.range len)[i]? =some i:=List.getElem?_range (by omega)
   simp only [List.getElem?_map,List.getElem?_eq_getElem hi,Option.map_some,h3] at h2
   exact Option.some.inj h2
  simp [hi,h1]
 ·rw [List.getElem?_eq_none (by simpa using hi),List.getElem?_eq_none (by simpa using hi)]
theorem zMI (R:Rel P Γ N S ρ a w) {t:TypeId} {len:Nat} {parts:Array (Nat×Operand)} {k:EK} {e:TypeId} {i:TypeInfo} {z:Value} {ob:DO} (hk:ekB P t=some (k,e,i,z)) (hd:zTU parts.toList len=true) (hlen:len≤65536∧k.cells≤64)
 (hb:zNB k (parts.toList.map fun x=>opd S.fr x.2)=some ob) (o:Oper) (ho:o.op= .buildSlice t len parts) (ext:Bool):
 zDl P (execOp a.eval o) w (Got P Γ N S.h ρ w ext (.msl S.h.length k.cells 0 len) (S.h++[some ob])):=by
 obtain ⟨hu,hi,hz,h0,hzs,hks,_,_⟩:=zOO hk
 obtain ⟨hpl,hpe⟩:=zR6 hd a.eval
 have hlen1:=hlen.1
 have hlen2:=hlen.2
 have hpos:0<k.cells:=by omega
 obtain ⟨hs,hrow⟩:=zVY (w:=w) (M:=MS N S.h ρ) (ρ:=ρ) (vs:=parts.toList.map fun x=>a.eval x.2) hpos hb (by simp) (fun j hj=>by
  have hj':j<parts.toList.length:=by simpa using hj
  have:=zAX R parts.toList[j].2
  simp only [List.getD_eq_getElem?_getD,List.getElem?_map,List.getElem?_eq_getElem hj',Option.map_some,Option.getD_some]
  exact this)
 have hvl:(parts.toList.map fun x=>a.eval x.2).length=len:=by simpa using hpl
 have hcl:((parts.toList.map fun x=>a.eval x.2).flatMap fun v=>v.cells.toList).toArray.size=len*k.cells:=by
  have: ∀ (l:List Value),(∀ v∈l,v.cells.size=k.cells)→(l.flatMap fun v=>v.cells.toList).length=l.length*k.cells:=by
   intro l
   induction l with
   | nil=>intro _;simp
   | cons v l ih=>intro h;rw [List.flatMap_cons,List.length_append,ih (fun v hv=>h v (by simp [hv])),List.length_cons,Nat.succ_mul];have:=h v (by simp);simp [this];omega
  simp only [List.size_toArray]
  rw [this _ hs,hvl]
 refine zDl.value (s:=Instr.buildSlice t len (parts.map fun (i,x)=>(i,a.eval x))) (by unfold execOp;rw [ho]) (v:=.slice (some ⟨w.heap.size,0,none⟩) len len) (w':=w.alloc (.cells ((parts.toList.map fun x=>a.eval x.2).flatMap fun v=>v.cells.toList).toArray e)) ?_ ?_
 ·have hsmall: ¬ len*i.size>2 ^ 24:=by
   have:len*i.size≤65536*64:=Nat.mul_le_mul hlen1 (by omega)
   omega
  by_cases hl0:len=0
  ·subst hl0
   have hp:parts= #[]:=by
    have:parts.toList= []:=List.eq_nil_of_length_eq_zero hpl
    cases parts;simp at this;simp [this]
   subst hp
   have hr0:Array.map (fun (x:Nat)=>(default:Value)) (Array.range 0)= #[]:=by simp [Array.range_zero']
   simp [Instr.buildSlice,run_underlying hu,sizeOf,typeInfo,hi,newRow,Instr.fill,Array.range_zero']
  ·have hp0: ¬ len*i.size=0:=by rw [Nat.mul_eq_zero];omega
   refine run_buildSlice w t e len _ _ i z hu hi hz hsmall hp0 ?_
   have e1:(parts.map fun (i,x)=>(i,a.eval x)).toList=parts.toList.map fun x=>(x.1,a.eval x.2):=by simp
   rw [e1,hpe]
   exact Great.fill_whole (s:=i.size) (by omega) _ _ (fun v hv=>by rw [hs v hv,hks]) (by rw [hvl,Array.size_map,Array.size_range])
 ·have:=zIz (d:=.msl S.h.length k.cells 0 len) (o:=ob) (v:=.slice (some ⟨w.heap.size,0,none⟩) len len) (cs:=((parts.toList.map fun x=>a.eval x.2).flatMap fun v=>v.cells.toList).toArray) (t:=e) R.hr ⟨Ext.refl w,rfl⟩
   (fun M ρ' O=>hrow _ _ _ O ((parts.toList.map fun x=>a.eval x.2).flatMap fun v=>v.cells.toList).toArray e _ rfl (by rw [hcl,List.length_map,hpl];exact zNb (w:=w) (w1:=w) (t:=e) rfl hcl))
   (fun M ρ' hp=>⟨_,len,hp,by simp [zBR],Nat.le_refl _,by unfold LB;omega,by simp only [zBR];rw [hcl];omega⟩) ext
  exact this
def zcu (k:EK) (n:Nat) (z:Value):DO:=match k with
 | .ints=>.ints (List.replicate n 0)
 | .bools=>.bools (List.replicate n false)
 | .gen m=>.arr m n (fun _ j=>(z.cells.toList.map ofV).getD j .any)
theorem zN9 (R:Rel P Γ N S ρ a w) {t:TypeId} {x y:Operand} {k:EK} {e:TypeId} {i:TypeInfo} {z:Value} {kx ky:IntKind} {n:Int} (hk:ekB P t=some (k,e,i,z)) (hx:opd S.fr x= .int kx n) (hy:opd S.fr y= .int ky n)
 (hn:0≤n∧n≤1000000000000) (hby:i.bytes≤128) (o:Oper) (ho:o.op= .makeSlice t x y) (ext:Bool):
 zDl P (execOp a.eval o) w (Got P Γ N S.h ρ w ext (.msl S.h.length k.cells 0 n.toNat) (S.h++[some (zcu k n.toNat z)])):=by
 obtain ⟨hu,hi,hz,h0,hzs,hks,hzi,hzb⟩:=zOO hk
 have hn1:=hn.1
 have hn2:=hn.2
 have rx:=zAX R x
 have ry:=zAX R y
 rw [hx] at rx
 rw [hy] at ry
 have hcs:(madeCells z.cells (n.toNat*i.size)).size=n.toNat*k.cells:=by rw [size_madeCells,hks]
 refine zDl.value (s:=Instr.makeSlice t (a.eval x) (a.eval y)) (by unfold execOp;rw [ho]) (v:=.slice (some ⟨w.heap.size,0,none⟩) n.toNat n.toNat) (w':=w.alloc (.cells (madeCells z.cells (n.toNat*i.size)) e)) ?_ ?_
 ·rw [show a.eval x=_ from rx,show a.eval y=_ from ry]
  refine run_make w t e i z hu hi hz kx ky n n hn1 (Int.le_refl _) ?_ (by omega)
  have:(i.bytes:Int)*n≤128*1000000000000:=Int.mul_le_mul (by omega) hn2 hn1 (by omega)
  omega
 ·refine zIz (d:=.msl S.h.length k.cells 0 n.toNat) R.hr ⟨Ext.refl w,rfl⟩ (fun M ρ' O=>?_) (fun M ρ' hp=>⟨_,n.toNat,hp,by simp [zBR],Nat.le_refl _,by unfold LB;omega,by simp only [zBR];rw [hcs];omega⟩) ext
  have hr:=zNb (w:=w) (w1:=w) (t:=e) rfl hcs
  rw [hcs]
  have hcell: ∀ j u,j<n.toNat*k.cells→(madeCells z.cells (n.toNat*i.size))[j]? =some u→z.cells[j % z.cells.size]? =some u:=by
   intro j u hj hu'
   have hlt:j % z.cells.size<z.cells.size:=Nat.mod_lt _ (by omega)
   simp only [madeCells] at hu'
   have hj':j<n.toNat*i.size:=by rw [←hks];exact hj
   simp [hj'] at hu'
   rw [←hu']
   simp [hlt]
  cases k with
  | ints=>
   have hz1:=hzi rfl
   subst hz1
   show zAP _ _ (List.replicate n.toNat (0:Int)).length _
   rw [List.length_replicate]
   simp only [EK.cells,Nat.mul_one] at hr hcell ⊢
   refine zAP.out hr rfl fun j u hj hu'=>?_
   have:=hcell j u hj hu'
   have e1:j % (Value.cells (.int .i64 0)).size=0:=by simp [Value.cells,Nat.mod_one]
   rw [e1] at this
   simp [Value.cells] at this
   rw [←this];simp [hj]
  | bools=>
   have hz1:=hzb rfl
   subst hz1
   show zAP _ _ (List.replicate n.toNat false).length _
   rw [List.length_replicate]
   simp only [EK.cells,Nat.mul_one] at hr hcell ⊢
   refine zAP.out hr rfl fun j u hj hu'=>?_
   have:=hcell j u hj hu'
   have e1:j % (Value.cells (.bool false)).size=0:=by simp [Value.cells,Nat.mod_one]
   rw [e1] at this
   simp [Value.cells] at this
   rw [←this];simp [hj]
  | gen m=>
   refine zAP.out hr rfl fun j u hj hu'=>?_
   have h1:=hcell j u hj hu'
   have hm:m=z.cells.size:=by rw [hzs];exact hks
   have h2:j % m<z.cells.toList.length:=by rw [hm];simpa using Nat.mod_lt _ (by omega)
   have h3:(z.cells.toList.map ofV).getD (j % m) .any=ofV u:=by
    rw [List.getD_eq_getElem?_getD,List.getElem?_map]
    have:z.cells.toList[j % m]? =some u:=by rw [←h1,hm];simp
    rw [this];rfl
   show zAU M _ ((z.cells.toList.map ofV).getD (j % m) .any) [] u
   rw [h3];exact zLJ u
end
end Go.Proofs.YtekkngkphejfcaaGreatDoor
namespace Go.Proofs.YtekkngkphejfcaaGreatDoor
open Go.RowKit
section
variable {P:Program} {Γ:Glo} {N:Nat→Prop} {S:St} {ρ:List zAJ} {a:Act} {w:World} {h:DH}
theorem zCZ (b:Nat) (t:TypeId) (z:Nat×Nat): ∀ (vs:List Value) (o:Nat) (w:World) (cur:Array Value),w.heap[b]? =some (.cells cur t z)→o+vs.length≤cur.size→
 ∃ cur',(w.setCells b o vs).heap[b]? =some (.cells cur' t z)∧cur'.size=cur.size∧∀ k,cur'[k]? =if o≤k∧k<o+vs.length then vs[k-o]? else cur[k]?
 | [],o,w,cur,hb,_=>⟨cur,hb,rfl,fun k=>by rw [if_neg];simp only [List.length_nil];omega⟩
 | v::vs,o,w,cur,hb,hl=>by
  have hl':o+(vs.length+1)≤cur.size:=hl
  obtain ⟨cur',h1,h2,h3⟩:=zCZ b t z vs (o+1) (w.setCell ⟨b,o,none⟩ v) (cur.setIfInBounds o v) (by simp [World.setCell,Array.getElem?_modify,hb]) (by simp;omega)
  refine ⟨cur',h1,by simpa using h2,fun k=>?_⟩
  rw [h3 k,List.length_cons]
  by_cases e:k=o
  ·subst e
   rw [if_neg (by omega),if_pos (by omega),Array.getElem?_setIfInBounds,if_pos rfl,if_pos (by omega),Nat.sub_self]
   rfl
  ·by_cases e2:o+1≤k∧k<o+1+vs.length
   ·rw [if_pos e2,if_pos (by omega),show k-o=(k-(o+1))+1 by omega];simp
   ·rw [if_neg e2,if_neg (by omega)]
    rw [Array.getElem?_setIfInBounds,if_neg (by omega)]
theorem zCx (b:Nat): ∀ (vs:List Value) (o:Nat) (w:World),Upd (fun k=>k=b) w (w.setCells b o vs)
 | [],_,w=>Upd.refl _ w
 | v::vs,o,w=>((Upd.refl (fun k=>k=b) w).setCell (p:=⟨b,o,none⟩) (fun _=>rfl) v).trans (zCx b vs (o+1) (w.setCell ⟨b,o,none⟩ v))
theorem zAP.writes {p:zAJ} {n:Nat} {R R':Nat→Value→Prop} (hr:zAP w p n R) {o:Nat} {vs:List Value} (hl:o+vs.length≤n) (h1: ∀ i v,vs[i]? =some v→R' (o+i) v)
 (h2: ∀ i u,i<n→(i<o∨o+vs.length≤i)→R i u→R' i u):zAP (w.setCells p.blk (p.off+o) vs) p n R':=by
 obtain ⟨g1,cs,t,g2,g3,g4,g5⟩:=hr
 obtain ⟨cs',e1,e2,e3⟩:=zCZ p.blk t (0,0) vs (p.off+o) w cs g2 (by omega)
 refine ⟨g1,cs',t,e1,by omega,by omega,fun j hj=>?_⟩
 rw [e3]
 by_cases e:p.off+o≤p.off+j∧p.off+j<p.off+o+vs.length
 ·rw [if_pos e]
  have hi:p.off+j-(p.off+o)<vs.length:=by omega
  refine ⟨vs[p.off+j-(p.off+o)],by simp [hi],?_⟩
  have:=h1 (p.off+j-(p.off+o)) _ (by simp [hi]:vs[p.off+j-(p.off+o)]? =some vs[p.off+j-(p.off+o)])
  rwa [show o+(p.off+j-(p.off+o))=j by omega] at this
 ·rw [if_neg e]
  obtain ⟨u,e4,e5⟩:=g5 j hj
  exact ⟨u,e4,h2 j u hj (by omega) e5⟩
def zKa (l:List DV) (o:Nat) (ds:List DV):List DV:=(ds.zipIdx).foldl (fun cs x=>cs.set (o+x.2) x.1) l
theorem zKZ: ∀ (ds:List DV) (k o:Nat) (l:List DV),((ds.zipIdx k).foldl (fun cs x=>cs.set (o+x.2) x.1) l).length=l.length∧
 ∀ j,j<l.length→((ds.zipIdx k).foldl (fun cs x=>cs.set (o+x.2) x.1) l).getD j .any=if o+k≤j∧j<o+k+ds.length then ds.getD (j-(o+k)) .any else l.getD j .any
 | [],k,o,l=>⟨rfl,fun j _=>by
  rw [if_neg]
  ·rfl
  ·simp only [List.length_nil];omega⟩
 | d::ds,k,o,l=>by
  obtain ⟨h1,h2⟩:=zKZ ds (k+1) o (l.set (o+k) d)
  rw [List.zipIdx_cons,List.foldl_cons]
  refine ⟨by rw [h1];simp,fun j hj=>?_⟩
  rw [h2 j (by simpa using hj),List.length_cons]
  by_cases e:j=o+k
  ·subst e
   rw [if_neg (by omega),if_pos (by omega)]
   simp [hj]
  ·by_cases e2:o+(k+1)≤j∧j<o+(k+1)+ds.length
   ·rw [if_pos e2,if_pos (by omega),show j-(o+k)=(j-(o+(k+1)))+1 by omega];simp
   ·rw [if_neg e2,if_neg (by omega)]
    simp only [List.getD_eq_getElem?_getD,List.getElem?_set]
    rw [if_neg (by omega)]
theorem zEk (l:List DV) (o:Nat) (ds:List DV):(zKa l o ds).length=l.length:=(zKZ ds 0 o l).1
theorem zIX (l:List DV) (o:Nat) (ds:List DV) {j:Nat} (hj:j<l.length):(zKa l o ds).getD j .any=if o≤j∧j<o+ds.length then ds.getD (j-o) .any else l.getD j .any:=by
 have:=(zKZ ds 0 o l).2 j hj
 simpa [zKa] using this
def zKX (P:Program) (S:St) (t:TypeId) (x d:DV):Option (DH×Prop):=match x with
 | .ref k j=>match S.h[k]? with
  | some (some (.cells l))=>match zF8 d with
   | some ds=>if P.info? t |>.any (fun i=>i.size==ds.length) then (if ds.all zXQ&&decide (j+ds.length≤l.length) then some (S.h.set k (some (.cells (zKa l j ds))),True) else none) else none
   | none=>none
  | _=>none
 | .mp k m i j=>if P.info? t |>.any (fun i=>i.size==1) then match S.h[k]? with
  | some (some (.ints l))=>match d with
   | .int .i64 n=>if m==1&&j==0 then some (S.h.set k (some (.ints (l.set i n))),i<l.length) else none
   | _=>none
  | some (some (.bools l))=>match d with
   | .bool b=>if m==1&&j==0 then some (S.h.set k (some (.bools (l.set i b))),i<l.length) else none
   | _=>none
  | some (some (.arr m' n f))=>if zMq d&&(m==m')&&decide (j<m) then some (S.h.set k (some (.arr m n (fun i' j'=>if i'=i∧j'=j then d else f i' j'))),i<n) else none
  | _=>none
  else none
 | _=>none
theorem zUZ {d:DV} (h:zMq d=true):zXQ d=true:=by cases d <;> first | rfl | cases h
theorem zJQ {t:TypeId} {i:TypeInfo} {b o:Nat} {v:Value} (hi:P.info? t=some i) (hs:v.cells.size=i.size) (hc: ∀ j,j<v.cells.size→(w.cell? ⟨b,o+j,none⟩).isSome=true) (hf: ∀ j,w.frozen? ⟨b,j,none⟩=false) (h1: ∀ u∈v.cells.toList,u.oneCell'=true):
 (Instr.storeAt t (.pointer (some ⟨b,o,none⟩)) v).run P w= .ok () (w.setCells b o v.cells.toList):=by
 have hst:=run_storeCells_cells (P:=P) b o v.cells.toList 0 w (by simpa using hc) (by simpa using fun j _=>hf _) h1
 simp only [Nat.add_zero] at hst
 simp [Instr.storeAt,Instr.sureAddr,storeVar,zBL hi,hs,hst]
theorem zTM {α:Type} {l:List α} {i:Nat} {x d:α} (h:l[i]? =some x):l.getD i d=x:=by rw [List.getD_eq_getElem?_getD,h];rfl
theorem zHQ (R:Rel P Γ N S ρ a w) {k:Nat} {ob ob':DO} {p:zAJ} (hk:S.h[k]? =some (some ob)) (hp:ρ[k]? =some p) {n:Nat} {Rw:Nat→Value→Prop} (hr:zAP w p n Rw) {o':Nat} {v:Value} {t:TypeId} {i:TypeInfo}
 (hi:P.info? t=some i) (hs:v.cells.size=i.size) (hl:o'+v.cells.size≤n) (h1: ∀ u∈v.cells.toList,u.oneCell'=true)
 (hnew: ∀ M ρ' w',zDW (MS N S.h ρ) w ρ M w' ρ'→w'=w.setCells p.blk (p.off+o') v.cells.toList→zBf P M w' ρ' p ob')
 (o:Oper) (tx x:Operand) (ho:o.op= .store t tx x) (hx:a.eval tx= .pointer (some ⟨p.blk,p.off+o',none⟩)) (hv:a.eval x=v):
 zDl P (execOp a.eval o) w (Got P Γ N S.h ρ w false .any (S.h.set k (some ob'))):=by
 have hfoot:p.foot=fun b=>b=p.blk:=hr.1
 have hu:Upd p.foot w (w.setCells p.blk (p.off+o') v.cells.toList):=by rw [hfoot];exact zCx _ _ _ _
 refine zDl.skip (s:=Instr.storeAt t (a.eval tx) (a.eval x)) (by unfold execOp;rw [ho]) (w':=w.setCells p.blk (p.off+o') v.cells.toList) ?_ ?_
 ·rw [hx,hv]
  refine zJQ hi hs (fun j hj=>?_) (fun j=>hr.frozen j) h1
  obtain ⟨u,hc,_⟩:=hr.cell (j:=o'+j) (by omega)
  rw [Nat.add_assoc,hc];rfl
 ·have hcell: ∀ b,p.foot b→zQ0 (w.setCells p.blk (p.off+o') v.cells.toList) b:=fun b hb=>by
   rw [hfoot] at hb
   obtain ⟨_,cs,t',g2,g3,_⟩:=hr
   obtain ⟨c,e1,_⟩:=zCZ p.blk t' (0,0) v.cells.toList (p.off+o') w cs g2 (by simp;omega)
   exact .cells (c:=c) (t:=t') (z:=(0,0)) (by rw [show b=p.blk from hb];exact e1)
  exact ⟨⟨ρ,R.hr.write hk hp hu hcell (hnew _ _ _ (zDW.write trivial hk hp hu) rfl),trivial,zCH.write hk hp hu,fun _ _ h=>h⟩,fun h=>by cases h⟩
theorem zJJ (R:Rel P Γ N S ρ a w) {t:TypeId} {tx x:Operand} {h':DH} {vc:Prop} (hd:zKX P S t (opd S.fr tx) (opd S.fr x)=some (h',vc)) (hv:vc) (o:Oper) (ho:o.op= .store t tx x):
 zDl P (execOp a.eval o) w (Got P Γ N S.h ρ w false .any h'):=by
 have rx:=zAX R tx
 have rv:=zAX R x
 unfold zKX at hd
 split at hd
 ·rename_i k j e
  rw [e] at rx
  obtain ⟨p,hp,hx⟩:=rx
  split at hd
  ·rename_i l hk
   obtain ⟨p',hp',hr⟩:=R.hr.obj k _ hk
   have e:p'=p:=Option.some.inj (hp'.symm.trans hp)
   subst e
   split at hd
   ·rename_i ds hds
    split at hd
    ·rename_i hsz
     split at hd
     ·rename_i hc
      cases hd
      simp only [Bool.and_eq_true,decide_eq_true_eq] at hc
      cases hi:P.info? t with
      | none=>rw [hi] at hsz;cases hsz
      | some i=>
       rw [hi] at hsz
       have hsz':i.size=ds.length:=by simpa using hsz
       obtain ⟨c1,c2⟩:=zDh hds rv
       have hone: ∀ u∈(a.eval x).cells.toList,u.oneCell'=true:=fun u hu=>by
        obtain ⟨q,hq,rfl⟩:=List.getElem_of_mem hu
        have hq':q<ds.length:=by rw [←c1];simpa using hq
        obtain ⟨u,g1,g2⟩:=c2 q hq'
        have h3:=List.all_eq_true.1 hc.1 (ds.getD q .any) (by simp [hq'])
        have h4:=(zJ1 h3 g2).1
        have:(a.eval x).cells.toList[q]=u:=by
         have hq2:q<(a.eval x).cells.size:=by simpa using hq
         rw [Array.getElem?_eq_getElem hq2] at g1;simpa using Option.some.inj g1
        rw [this];exact h4
       refine zHQ R hk hp hr hi (by omega) (o':=j) (by omega) hone (fun M ρ' w' O hw'=>?_) o tx x ho hx rfl
       subst hw'
       show zAP _ _ (zKa l j ds).length _
       rw [zEk]
       refine zAP.writes hr (by simp;omega) (fun q v hq=>?_) (fun q u hq hq2 hu=>?_)
       ·have hq0:q<(a.eval x).cells.size:=by have:=(List.getElem?_eq_some_iff.1 hq).1;simpa using this
        have hq':q<ds.length:=by omega
        obtain ⟨u,g1,g2⟩:=c2 q hq'
        have:u=v:=by
         have:(a.eval x).cells[q]? =some v:=by simpa using hq
         rw [this] at g1;exact (Option.some.inj g1).symm
        subst this
        rw [zIX l j ds (by omega),if_pos (by omega),show j+q-j=q by omega]
        exact g2.out _ O
       ·rw [zIX l j ds hq,if_neg (by simp at hq2;omega)]
        exact hu.out _ O
     ·cases hd
    ·cases hd
   ·cases hd
  ·cases hd
 ·rename_i k m i j e
  rw [e] at rx
  obtain ⟨p,hp,hx⟩:=rx
  split at hd
  ·rename_i hsz
   cases hi:P.info? t with
   | none=>rw [hi] at hsz;cases hsz
   | some ti=>
    rw [hi] at hsz
    have hsz':ti.size=1:=by simpa using hsz
    split at hd
    ·rename_i l hk
     obtain ⟨p',hp',hr⟩:=R.hr.obj k _ hk
     have e:p'=p:=Option.some.inj (hp'.symm.trans hp)
     subst e
     split at hd
     ·rename_i n ed
      split at hd
      ·rename_i hm
       cases hd
       simp only [Bool.and_eq_true,beq_iff_eq] at hm
       obtain ⟨rfl,rfl⟩:=hm
       rw [ed] at rv
       have rv':a.eval x= .int .i64 n:=rv
       refine zHQ R hk hp hr hi (v:=.int .i64 n) (by rw [hsz'];rfl) (o':=i) (by simp [Value.cells];omega) (by simp [Value.cells,Value.oneCell']) (fun M ρ' w' O hw'=>?_) o tx x ho (by simpa using hx) rv'
       subst hw'
       show zAP _ _ (l.set i n).length _
       rw [List.length_set]
       refine zAP.writes hr (by simp [Value.cells];omega) (fun q v hq=>?_) (fun q u hq hq2 hu=>?_)
       ·have:q=0:=by have:=(List.getElem?_eq_some_iff.1 hq).1;simpa [Value.cells] using this
        subst this
        have:v= .int .i64 n:=by simpa [Value.cells] using hq.symm
        rw [this]
        have hv':i<l.length:=hv
        simp [hv']
       ·rw [hu]
        simp only [Value.cells,List.length_cons,List.length_nil] at hq2
        rw [List.getD_eq_getElem?_getD,List.getD_eq_getElem?_getD,List.getElem?_set,if_neg (by simp at hq2;omega)]
      ·cases hd
     ·cases hd
    ·rename_i l hk
     obtain ⟨p',hp',hr⟩:=R.hr.obj k _ hk
     have e:p'=p:=Option.some.inj (hp'.symm.trans hp)
     subst e
     split at hd
     ·rename_i n ed
      split at hd
      ·rename_i hm
       cases hd
       simp only [Bool.and_eq_true,beq_iff_eq] at hm
       obtain ⟨rfl,rfl⟩:=hm
       rw [ed] at rv
       have rv':a.eval x= .bool n:=rv
       refine zHQ R hk hp hr hi (v:=.bool n) (by rw [hsz'];rfl) (o':=i) (by simp [Value.cells];omega) (by simp [Value.cells,Value.oneCell']) (fun M ρ' w' O hw'=>?_) o tx x ho (by simpa using hx) rv'
       subst hw'
       show zAP _ _ (l.set i n).length _
       rw [List.length_set]
       refine zAP.writes hr (by simp [Value.cells];omega) (fun q v hq=>?_) (fun q u hq hq2 hu=>?_)
       ·have:q=0:=by have:=(List.getElem?_eq_some_iff.1 hq).1;simpa [Value.cells] using this
        subst this
        have:v= .bool n:=by simpa [Value.cells] using hq.symm
        rw [this]
        have hv':i<l.length:=hv
        simp [hv']
       ·rw [hu]
        simp only [Value.cells,List.length_cons,List.length_nil] at hq2
        rw [List.getD_eq_getElem?_getD,List.getD_eq_getElem?_getD,List.getElem?_set,if_neg (by simp at hq2;omega)]
      ·cases hd
     ·cases hd
    ·rename_i m' n f hk
     obtain ⟨p',hp',hr⟩:=R.hr.obj k _ hk
     have e:p'=p:=Option.some.inj (hp'.symm.trans hp)
     subst e
     split at hd
     ·rename_i hm
      cases hd
      simp only [Bool.and_eq_true,beq_iff_eq,decide_eq_true_eq] at hm
      obtain ⟨⟨hpl,rfl⟩,hj⟩:=hm
      have hv':i<n:=hv
      obtain ⟨o1,o2⟩:=zJ1 (zUZ hpl) rv
      have inb:i*m+j<n*m:=by
       have:(i+1)*m≤n*m:=Nat.mul_le_mul_right _ hv'
       rw [Nat.succ_mul] at this;omega
      have hm0:0<m:=by omega
      refine zHQ R hk hp hr hi (v:=a.eval x) (by rw [hsz',o2];rfl) (o':=i*m+j) (by rw [o2];simp;omega) (by rw [o2];simp [o1]) (fun M ρ' w' O hw'=>?_) o tx x ho hx rfl
      subst hw'
      refine zAP.writes hr (by rw [o2];simp;omega) (fun q v hq=>?_) (fun q u hq hq2 hu=>?_)
      ·rw [o2] at hq
       have:q=0:=by have:=(List.getElem?_eq_some_iff.1 hq).1;simpa using this
       subst this
       have:v=a.eval x:=by simpa using hq.symm
       rw [this,Nat.add_zero]
       have e1:(i*m+j)/m=i:=by rw [Nat.mul_comm,Nat.mul_add_div hm0,Nat.div_eq_of_lt hj,Nat.add_zero]
       have e2:(i*m+j) % m=j:=by rw [Nat.mul_comm,Nat.mul_add_mod,Nat.mod_eq_of_lt hj]
       show zAU M _ (if (i*m+j)/m=i∧(i*m+j) % m=j then opd S.fr x else f ((i*m+j)/m) ((i*m+j) % m)) [] _
       rw [if_pos ⟨e1,e2⟩]
       exact zAU.out _ O.nil (zIp hpl rv)
      ·rw [o2] at hq2
       simp at hq2
       have: ¬ (q/m=i∧q % m=j):=fun ⟨e1,e2⟩=>by
        have:=Nat.div_add_mod q m
        rw [e1,e2,Nat.mul_comm] at this;omega
       show zAU M _ (if q/m=i∧q % m=j then opd S.fr x else f (q/m) (q % m)) [] _
       rw [if_neg this]
       exact zAU.out _ O.nil hu
     ·cases hd
    ·cases hd
  ·cases hd
 ·cases hd
theorem MO.kill {k:Nat} {b:Nat} (hb:MO (h.set k none) ρ b):MO h ρ b:=MO.unset hb
theorem zBT {k i:Nat} {o:DO} (hi:(h.set k none)[i]? =some (some o)):i≠k∧h[i]? =some (some o):=by
 rw [List.getElem?_set] at hi
 by_cases e:k=i
 ·rw [if_pos e] at hi;split at hi <;> cases hi
 ·rw [if_neg e] at hi;exact ⟨Ne.symm e,hi⟩
theorem zDJ.kill (H:zDJ P Γ N h ρ w) (k:Nat):zDJ P Γ N (h.set k none) ρ w:=by
 have O:zDW (MS N h ρ) w ρ (MS N (h.set k none) ρ) w ρ:=⟨fun _ _ _ _=>rfl,fun b hb=>.inl (hb.imp id MO.kill),fun _ _ h=>h⟩
 refine ⟨by simp [H.len],fun i o hi=>?_,fun i o p b h1 h2 h3=>H.cel i o p b (zBT h1).2 h2 h3,fun i i' o o' p p' b hne h1 h2 h3 h4 h5 h6=>H.dis i i' o o' p p' b hne (zBT h1).2 (zBT h2).2 h3 h4 h5 h6,H.nlt,H.gi⟩
 obtain ⟨p,hp,hr⟩:=H.obj i o (zBT hi).2
 exact ⟨p,hp,hr.out O (S:=fun _=>False) (Upd.refl _ w) (fun _ h=>h.elim) (fun _ _ _ h=>h)⟩
theorem zDW.kill (k:Nat):zDW (MS N h ρ) w ρ (MS N (h.set k none) ρ) w ρ:=⟨fun _ _ _ _=>rfl,fun b hb=>.inl (hb.imp id MO.kill),fun _ _ h=>h⟩
theorem zCH.kill (k:Nat):zCH h ρ w (h.set k none) ρ w:=⟨Upd.refl _ w,fun b hb=>.inl (MO.kill hb)⟩
theorem zDJ.regrow (H:zDJ P Γ N h ρ w) {w':World} {k:Nat} {o o':DO} {p p':zAJ} (hk:h[k]? =some (some o)) (hp:ρ[k]? =some p) (hu:Upd p.foot w w') (hf: ∀ b,p'.foot b→(p.foot b∨w.heap.size≤b)∧zQ0 w' b)
 (ho:zBf P (MS N (h.set k none++[some o']) (ρ++[p'])) w' (ρ++[p']) p' o'):
 zDJ P Γ N (h.set k none++[some o']) (ρ++[p']) w'∧zCH h ρ w (h.set k none++[some o']) (ρ++[p']) w':=by
 have K:=H.kill k
 have hlen:(h.set k none).length=h.length:=by simp
 have hM: ∀ b,p.foot b→MO h ρ b:=fun b hb=>⟨k,o,p,hk,hp,hb⟩
 have inv: ∀ {i:Nat} {o1:DO} {p1:zAJ},(h.set k none++[some o'])[i]? =some (some o1)→(ρ++[p'])[i]? =some p1→(i≠k∧i<h.length∧h[i]? =some (some o1)∧ρ[i]? =some p1)∨(i=h.length∧o1=o'∧p1=p'):=by
  intro i o1 p1 h1 h2
  rcases zAe h1 with ⟨hl,h1⟩ | ⟨hl,h1⟩
  ·rw [hlen] at hl
   rcases zAe h2 with ⟨_,h2⟩ | ⟨hl2,_⟩
   ·exact .inl ⟨(zBT h1).1,hl,(zBT h1).2,h2⟩
   ·rw [H.len] at hl2;omega
  ·rw [hlen] at hl
   rcases zAe h2 with ⟨hl2,_⟩ | ⟨_,h2⟩
   ·rw [H.len] at hl2;omega
   ·cases h1;exact .inr ⟨hl,rfl,h2.symm⟩
 have grow: ∀ b,MO (h.set k none++[some o']) (ρ++[p']) b→MO h ρ b∨w.heap.size≤b:=by
  rintro b ⟨i,o1,p1,h1,h2,h3⟩
  rcases inv h1 h2 with ⟨_,_,g1,g2⟩ | ⟨_,_,rfl⟩
  ·exact .inl ⟨i,o1,p1,g1,g2,h3⟩
  ·exact (hf b h3).1.imp (hM b) id
 have O:zDW (MS N h ρ) w ρ (MS N (h.set k none++[some o']) (ρ++[p'])) w' (ρ++[p']):=by
  refine ⟨fun b hb hm _=>hu.block b hb fun hx=>hm (.inr (hM b hx)),fun b hb=>?_,fun i q hi=>zAR hi⟩
  rcases hb with hb | hb
  ·exact .inl (.inl hb)
  ·exact (grow b hb).imp .inr id
 refine ⟨⟨by simp [H.len],fun i o1 hi=>?_,fun i o1 p1 b h1 h2 h3=>?_,fun i i' o1 o2 p1 p2 b hne h1 h2 h3 h4 h5 h6=>?_,fun b hb=>⟨Nat.lt_of_lt_of_le (H.nlt b hb).1 hu.size,(H.nlt b hb).2⟩,Γ.st _ _ H.gi (hu.mono fun b _ hb=>(H.cel k o p b hk hp hb).1)⟩,⟨hu.mono fun b _ hb=>hM b hb,grow⟩⟩
 ·rcases zAe hi with ⟨hl,hi⟩ | ⟨hl,hi⟩
  ·obtain ⟨p1,hp1,hr⟩:=H.obj i o1 (zBT hi).2
   refine ⟨p1,zAR hp1,hr.out O hu (fun b hb=>.inr (hM b hb)) fun b _ h1 h2=>H.dis i k o1 o p1 p b (zBT hi).1 (zBT hi).2 hk hp1 hp h1 h2⟩
  ·cases hi
   exact ⟨p',by rw [hl,hlen,←H.len];simp,ho⟩
 ·rcases inv h1 h2 with ⟨hne,_,g1,g2⟩ | ⟨_,_,rfl⟩
  ·obtain ⟨e1,e2,c,t,z,e3⟩:=H.cel i o1 p1 b g1 g2 h3
   exact ⟨e1,e2,c,t,z,(hu.block b (Array.getElem?_eq_some_iff.1 e3).1 fun hx=>H.dis i k o1 o p1 p b hne g1 hk g2 hp h3 hx).trans e3⟩
  ·obtain ⟨e1,e2⟩:=hf b h3
   rcases e1 with e1 | e1
   ·obtain ⟨q1,q2,_⟩:=H.cel k o p b hk hp e1
    exact ⟨q1,q2,e2⟩
   ·exact ⟨Nat.le_trans (Γ.lo _ H.gi) e1,fun hn=>by have:=H.nlt b hn;omega,e2⟩
 ·have key: ∀ {i o1 p1},i≠k→h[i]? =some (some o1)→ρ[i]? =some p1→p1.foot b→p'.foot b→False:=fun {i o1 p1} hne g1 g2 g3 g4=>by
   rcases (hf b g4).1 with e1 | e1
   ·exact H.dis i k o1 o p1 p b hne g1 hk g2 hp g3 e1
   ·have:=H.lt (.inr ⟨i,o1,p1,g1,g2,g3⟩);omega
  rcases inv h1 h3 with ⟨hne1,_,g1,g2⟩ | ⟨e1,_,rfl⟩
  ·rcases inv h2 h4 with ⟨_,_,g3,g4⟩ | ⟨_,_,rfl⟩
   ·exact H.dis i i' o1 o2 p1 p2 b hne g1 g3 g2 g4 h5 h6
   ·exact key hne1 g1 g2 h5 h6
  ·rcases inv h2 h4 with ⟨hne2,_,g3,g4⟩ | ⟨e2,_,rfl⟩
   ·exact key hne2 g3 g4 h6 h5
   ·exact hne (e1.trans e2.symm)
def zY5 (n:Nat) (R:Nat→Value→Prop) (news:List Value) (j:Nat) (u:Value):Prop:=if j<n then R j u else news[j-n]? =some u
theorem zVe {t ty e:TypeId} {i:TypeInfo} {z:Value} (hu:P.underlying t=some (.slice e)) (hi:P.info? e=some i) (hz:i.zero=some z) (hs0:i.size≠0) (hzs:z.cells.size=i.size) (hby:i.bytes≤128)
 {p:zAJ} {n cap:Nat} {R:Nat→Value→Prop} (hr:zAP w p (n*i.size) R) (hcap:n≤cap) (hroom:p.off+cap*i.size≤p.room)
 {vy:Value} {c:Nat} {news:List Value} (hy:Src P i.size t vy c news w) (hb:n+c≤1000000000000):
 ∃ w' p' cap',(Builtin.append_ #[t,t] ty #[.slice (some ⟨p.blk,p.off,none⟩) n cap,vy]).run P w= .ok (.slice (some ⟨p'.blk,p'.off,none⟩) (n+c) cap') w'∧n+c≤cap'∧p'.off+cap'*i.size≤p'.room∧
  Upd p.foot w w'∧(∀ b,p'.foot b→p.foot b∨w.heap.size≤b)∧zAP w' p' ((n+c)*i.size) (zY5 (n*i.size) R news):=by
 have hnl:news.length=c*i.size:=hy.newsLen
 by_cases hroom2:n+c≤cap
 ·obtain ⟨g1,cs,tt,g2,g3,g4,g5⟩:=hr
  have hmul:(n+c)*i.size≤cap*i.size:=Nat.mul_le_mul_right _ hroom2
  rw [Nat.add_mul] at hmul
  have hfit:p.off+n*i.size+news.length≤cs.size:=by omega
  refine ⟨w.setCells p.blk (p.off+n*i.size) news,p,cap,run_append_room_src w t t ty e i hu hi p.blk p.off n cap vy c news hy hroom2 (fun j hj=>?_) (fun j _=>by unfold World.frozen?;simp [g2]),hroom2,hroom,?_,fun b hb=>.inl hb,?_⟩
  ·unfold World.cell?;simp only [g2]
   simp;omega
  ·rw [g1];exact zCx _ _ _ _
  ·obtain ⟨cs',e1,e2,e3⟩:=zCZ p.blk tt (0,0) news (p.off+n*i.size) w cs g2 hfit
   refine ⟨g1,cs',tt,e1,by rw [Nat.add_mul];omega,by omega,fun j hj=>?_⟩
   rw [Nat.add_mul] at hj
   rw [e3]
   by_cases hjn:j<n*i.size
   ·rw [if_neg (by omega)]
    obtain ⟨u,q1,q2⟩:=g5 j hjn
    exact ⟨u,q1,by unfold zY5;rw [if_pos hjn];exact q2⟩
   ·rw [if_pos (by omega)]
    have hlt:j-n*i.size<news.length:=by omega
    refine ⟨news[j-n*i.size],by rw [show p.off+j-(p.off+n*i.size)=j-n*i.size by omega];simp [hlt],?_⟩
    unfold zY5;rw [if_neg hjn];simp [hlt]
 ·obtain ⟨g,hg⟩: ∃ g:Nat→Value,∀ j,j<n*i.size→w.cell? ⟨p.blk,p.off+j,none⟩=some (g j)∧R j (g j):=by
   refine ⟨fun j=>(w.cell? ⟨p.blk,p.off+j,none⟩).getD undef,fun j hj=>?_⟩
   obtain ⟨u,h1,h2⟩:=hr.cell hj
   simp [h1,h2]
  have hold:(Builtin.firstCells i.size n (.slice (some ⟨p.blk,p.off,none⟩) n cap)).run P w.drew= .ok (((List.range (n*i.size)).map g).toArray) w.drew:=by
   have:=run_loadCells (P:=P) w.drew ⟨p.blk,p.off,none⟩ (n*i.size) g (fun j hj=>by rw [zCf];exact ((Ext.toDrew w).cell (hg j hj).1))
   simpa [Builtin.firstCells] using this
  have hn128:(n+c)*i.bytes≤1000000000000*128:=Nat.mul_le_mul hb hby
  have hrun:=run_append_grow_src (P:=P) w t t ty e i z hu hi hz (some ⟨p.blk,p.off,none⟩) n cap _ hold vy c news hy (by omega) (by omega) (growslice_fits (by omega) (by omega))
  have hge:n+c≤grownCap w (n+c) cap e:=grownCap_ge w (n+c) cap e
  have hcs:((((List.range (n*i.size)).map g)++news).toArray++Builtin.zeroCells z.cells (grownCap w (n+c) cap e-(n+c))).size=grownCap w (n+c) cap e*i.size:=by
   simp only [Array.size_append,List.size_toArray,List.length_append,List.length_map,List.length_range,hnl,size_zeroCells,hzs,←Nat.add_mul]
   congr 1;omega
  refine ⟨_,zBR w (grownCap w (n+c) cap e*i.size),grownCap w (n+c) cap e,hrun,hge,by simp [zBR],?_,fun b hb=>.inr (Nat.le_of_eq (Eq.symm hb)),?_⟩
  ·exact Upd.ofExt ((Ext.toDrew w).allocR _)
  ·refine zAP.out (zNb (w:=w) (w1:=w.drew) (t:=e) (cs:=(((List.range (n*i.size)).map g)++news).toArray++Builtin.zeroCells z.cells (grownCap w (n+c) cap e-(n+c))) rfl hcs |>fun hr=>?_) rfl (R:=fun j u=>((((List.range (n*i.size)).map g)++news).toArray++Builtin.zeroCells z.cells (grownCap w (n+c) cap e-(n+c)))[j]? =some u) fun j u hj hu'=>?_
   ·obtain ⟨q1,cs,tt,q2,q3,q4,q5⟩:=hr
    have hle:(n+c)*i.size≤grownCap w (n+c) cap e*i.size:=Nat.mul_le_mul_right _ hge
    exact ⟨q1,cs,tt,q2,by omega,q4,fun j hj=>q5 j (by omega)⟩
   ·rw [Nat.add_mul] at hj
    unfold zY5
    have hl1:j<(((List.range (n*i.size)).map g)++news).length:=by simp;omega
    rw [Array.getElem?_append_left (by simpa using hl1)] at hu'
    by_cases hjn:j<n*i.size
    ·rw [if_pos hjn]
     have:u=g j:=by
      simp only [List.getElem?_toArray] at hu'
      rw [List.getElem?_append_left (by simpa using hjn)] at hu'
      simp [hjn] at hu'
      exact hu'.symm
     rw [this];exact (hg j hjn).2
    ·rw [if_neg hjn]
     simp only [List.getElem?_toArray] at hu'
     rw [List.getElem?_append_right (by simp;omega)] at hu'
     simpa using hu'
theorem zMJ {t ty e:TypeId} {i:TypeInfo} {z:Value} (hu:P.underlying t=some (.slice e)) (hi:P.info? e=some i) (hz:i.zero=some z) (hzs:z.cells.size=i.size) (hby:i.bytes≤128)
 {vy:Value} {c:Nat} {news:List Value} (hy:Src P i.size t vy c news w) (hc:0<c) (hb:c≤1000000000000):
 ∃ w' cap',(Builtin.append_ #[t,t] ty #[.slice none 0 0,vy]).run P w= .ok (.slice (some ⟨w.heap.size,0,none⟩) c cap') w'∧c≤cap'∧∃ cs,w'=w.drew.alloc (.cells cs e)∧cs.size=cap'*i.size∧∀ j,j<c*i.size→cs[j]? =news[j]? :=by
 have hnl:news.length=c*i.size:=hy.newsLen
 have hold:(Builtin.firstCells i.size 0 (.slice none 0 0)).run P w.drew= .ok (([]:List Value).toArray) w.drew:=rfl
 have hn128:c*i.bytes≤1000000000000*128:=Nat.mul_le_mul hb hby
 have hrun:=run_append_grow_src (P:=P) w t t ty e i z hu hi hz none 0 0 [] hold vy c news hy (by omega) (by omega) (growslice_fits (by omega) (by rw [Nat.zero_add];omega))
 rw [Nat.zero_add] at hrun
 have hge:c≤grownCap w c 0 e:=grownCap_ge w c 0 e
 refine ⟨_,_,hrun,hge,_,rfl,?_,fun j hj=>?_⟩
 ·simp only [List.nil_append,Array.size_append,List.size_toArray,hnl,size_zeroCells,hzs,←Nat.add_mul]
  congr 1;omega
 ·rw [Array.getElem?_append_left (by simp;omega)]
  simp
end
end Go.Proofs.YtekkngkphejfcaaGreatDoor
namespace Go.Proofs.YtekkngkphejfcaaGreatDoor
open Go.RowKit
def zXz (S:St):DV→Option (List Int×Prop)
 | .nils=>some ([],True)
 | .ints l=>some (l,True)
 | .msl k m off n=>match S.h[k]? with
  | some (some (.ints l))=>if m==1 then some (l,off=0∧n=l.length) else none
  | _=>none
 | _=>none
def zR8 (S:St):DV→Option (List Bool×Prop)
 | .nils=>some ([],True)
 | .bools l=>some (l,True)
 | .msl k m off n=>match S.h[k]? with
  | some (some (.bools l))=>if m==1 then some (l,off=0∧n=l.length) else none
  | _=>none
 | _=>none
def zcF (S:St) (m:Nat):DV→Option (Nat×(Nat→Nat→DV)×Prop)
 | .nils=>some (0,(fun _ _=>.any),True)
 | .sl m' n f=>if m'==m then some (n,f,True) else none
 | .msl k m' off n=>match S.h[k]? with
  | some (some (.arr m2 n2 f))=>if m'==m&&m2==m then some (n2,f,off=0∧n=n2) else none
  | _=>none
 | _=>none
def LIM:Nat:=1000000000000
def zSD (P:Program) (S:St) (t:TypeId) (x y:DV):Option (DV×DH×Prop):=match ekB P t with
 | some (k,_,i,_)=>if 128<i.bytes then none else match k with
  | .ints=>match zXz S y with
   | some (ys,vy)=>match x with
    | .nils=>some (.msl S.h.length 1 0 ys.length,S.h++[some (.ints ys)],vy∧0<ys.length∧ys.length≤LIM)
    | .msl k m off n=>match S.h[k]? with
     | some (some (.ints xs))=>if m==1 then some (.msl S.h.length 1 0 (xs.length+ys.length),S.h.set k none++[some (.ints (xs++ys))],vy∧(off=0∧n=xs.length)∧xs.length+ys.length≤LIM) else none
     | _=>none
    | _=>none
   | none=>none
  | .bools=>match zR8 S y with
   | some (ys,vy)=>match x with
    | .nils=>some (.msl S.h.length 1 0 ys.length,S.h++[some (.bools ys)],vy∧0<ys.length∧ys.length≤LIM)
    | .msl k m off n=>match S.h[k]? with
     | some (some (.bools xs))=>if m==1 then some (.msl S.h.length 1 0 (xs.length+ys.length),S.h.set k none++[some (.bools (xs++ys))],vy∧(off=0∧n=xs.length)∧xs.length+ys.length≤LIM) else none
     | _=>none
    | _=>none
   | none=>none
  | .gen m=>match zcF S m y with
   | some (c,g,vy)=>match x with
    | .nils=>some (.msl S.h.length m 0 c,S.h++[some (.arr m c g)],(vy∧∀ i j,i<c→j<m→zXQ (g i j)=true)∧0<c∧c≤LIM)
    | .msl k m' off n=>match S.h[k]? with
     | some (some (.arr m2 n2 f))=>if m'==m&&m2==m then some (.msl S.h.length m 0 (n2+c),S.h.set k none++[some (.arr m (n2+c) (fun i j=>if i<n2 then f i j else g (i-n2) j))],(vy∧∀ i j,i<c→j<m→zXQ (g i j)=true)∧(off=0∧n=n2)∧n2+c≤LIM) else none
     | _=>none
    | _=>none
   | none=>none
 | none=>none
section
variable {P:Program} {Γ:Glo} {N:Nat→Prop} {S:St} {ρ:List zAJ} {a:Act} {w:World} {h:DH}
theorem zOu {t e:TypeId} (hu:P.underlying t=some (.slice e)) {m:Nat} {ad:Option Addr} {c cap:Nat} {news:List Value} (hl:news.length=c*m) (hc: ∀ j u,news[j]? =some u→∃ b o,ad=some ⟨b,o,none⟩∧w.cell? ⟨b,o+j,none⟩=some u)
 (h1: ∀ u∈news,u.oneCell'=true) (hm:0<m) (hnone:ad=none→c=0):Src P m t (.slice ad c cap) c news w:=by
 cases ad with
 | none=>
  have:=hnone rfl
  subst this
  have:news= []:=List.eq_nil_of_length_eq_zero (by simpa using hl)
  subst this
  exact Src.ofNil w hu cap
 | some ad=>
  refine Src.ofSlice w hu ad c cap news hl (fun j u hj=>?_) h1
  obtain ⟨b,o,e1,e2⟩:=hc j u hj
  cases e1
  rw [zCf];exact e2
theorem zMy (R:Rel P Γ N S ρ a w) {t e:TypeId} (hu:P.underlying t=some (.slice e)) {y:DV} {v:Value} (hy:zAU (MS N S.h ρ) w y ρ v) {ys:List Int} {vy:Prop} (h:zXz S y=some (ys,vy)) (hv:vy):
 Src P 1 t v ys.length (ys.map (Value.int .i64)) w:=by
 have one: ∀ u∈ys.map (Value.int .i64),u.oneCell'=true:=fun u hu=>by obtain ⟨n,_,rfl⟩:=List.mem_map.1 hu;rfl
 have val: ∀ {j:Nat} {u:Value},(ys.map (Value.int .i64))[j]? =some u→j<ys.length∧u= .int .i64 (ys.getD j 0):=fun {j u} hj=>by
  have hlt:=(List.getElem?_eq_some_iff.1 hj).1
  have hlt:j<ys.length:=by simpa using hlt
  simp [hlt] at hj
  exact ⟨hlt,by rw [←hj];simp [hlt]⟩
 unfold zXz at h
 split at h
 ·cases h;rw [show v=_ from hy];exact Src.ofNil w hu 0
 ·cases h
  obtain ⟨ad,cap,rfl,h1,h2,h3⟩:=hy
  refine zOu hu (by simp) (fun j u hj=>?_) one (by omega) (fun e=>?_)
  ·obtain ⟨hlt,rfl⟩:=val hj
   obtain ⟨b,o,e1,_,e2⟩:=h3 j hlt
   exact ⟨b,o,e1,e2⟩
  ·rcases Nat.eq_zero_or_pos ys.length with h0 | h0
   ·exact h0
   ·obtain ⟨b,o,e1,_⟩:=h3 0 h0;rw [e] at e1;cases e1
 ·rename_i k m off n
  obtain ⟨p,cap,hp,rfl,h1,h2,h3⟩:=hy
  split at h
  ·rename_i l hk
   split at h
   ·rename_i hm
    cases h
    have hm':m=1:=by simpa using hm
    subst hm'
    obtain ⟨p',hp',hr⟩:=R.hr.obj k _ hk
    have e:p'=p:=Option.some.inj (hp'.symm.trans hp)
    subst e
    obtain ⟨rfl,rfl⟩:=hv
    refine zOu hu (by simp) (fun j u hj=>?_) one (by omega) (fun e=>by cases e)
    obtain ⟨hlt,rfl⟩:=val hj
    obtain ⟨u,e1,e2⟩:=zAP.cell hr hlt
    exact ⟨p'.blk,p'.off,by simp,by rw [e1,e2]⟩
   ·cases h
  ·cases h
 ·cases h
theorem zLy (R:Rel P Γ N S ρ a w) {t e:TypeId} (hu:P.underlying t=some (.slice e)) {y:DV} {v:Value} (hy:zAU (MS N S.h ρ) w y ρ v) {ys:List Bool} {vy:Prop} (h:zR8 S y=some (ys,vy)) (hv:vy):
 Src P 1 t v ys.length (ys.map Value.bool) w:=by
 have one: ∀ u∈ys.map Value.bool,u.oneCell'=true:=fun u hu=>by obtain ⟨n,_,rfl⟩:=List.mem_map.1 hu;rfl
 have val: ∀ {j:Nat} {u:Value},(ys.map Value.bool)[j]? =some u→j<ys.length∧u= .bool (ys.getD j false):=fun {j u} hj=>by
  have hlt:=(List.getElem?_eq_some_iff.1 hj).1
  have hlt:j<ys.length:=by simpa using hlt
  simp [hlt] at hj
  exact ⟨hlt,by rw [←hj];simp [hlt]⟩
 unfold zR8 at h
 split at h
 ·cases h;rw [show v=_ from hy];exact Src.ofNil w hu 0
 ·cases h
  obtain ⟨ad,cap,rfl,h1,h2,h3⟩:=hy
  refine zOu hu (by simp) (fun j u hj=>?_) one (by omega) (fun e=>?_)
  ·obtain ⟨hlt,rfl⟩:=val hj
   obtain ⟨b,o,e1,_,e2⟩:=h3 j hlt
   exact ⟨b,o,e1,e2⟩
  ·rcases Nat.eq_zero_or_pos ys.length with h0 | h0
   ·exact h0
   ·obtain ⟨b,o,e1,_⟩:=h3 0 h0;rw [e] at e1;cases e1
 ·rename_i k m off n
  obtain ⟨p,cap,hp,rfl,h1,h2,h3⟩:=hy
  split at h
  ·rename_i l hk
   split at h
   ·rename_i hm
    cases h
    have hm':m=1:=by simpa using hm
    subst hm'
    obtain ⟨p',hp',hr⟩:=R.hr.obj k _ hk
    have e:p'=p:=Option.some.inj (hp'.symm.trans hp)
    subst e
    obtain ⟨rfl,rfl⟩:=hv
    refine zOu hu (by simp) (fun j u hj=>?_) one (by omega) (fun e=>by cases e)
    obtain ⟨hlt,rfl⟩:=val hj
    obtain ⟨u,e1,e2⟩:=zAP.cell hr hlt
    exact ⟨p'.blk,p'.off,by simp,by rw [e1,e2]⟩
   ·cases h
  ·cases h
 ·cases h
theorem zLo {ρ':Operand→Value} {o:Oper} {c:Call} {x y:Operand} {t t2:TypeId} (ho:o.op= .call c) (hc:c.callee= .builtin .append) (ha:c.args.toList= [x,y]) (ht:c.argTypes.toList= [t,t2]):
 execOp ρ' o=(do pure (.value (←Builtin.append_ #[t,t2] o.type #[ρ' x,ρ' y]))):=by
 unfold execOp
 rw [ho]
 show (resolve ρ' c o.type>>=fun d=>invoke d.target d.args)=_
 unfold resolve
 rw [hc,zGK ha,zGK ht]
 simp
 rfl
theorem zEA (R:Rel P Γ N S ρ a w) {t e:TypeId} {i:TypeInfo} {z:Value} (hu:P.underlying t=some (.slice e)) (hi:P.info? e=some i) (hz:i.zero=some z) (hs0:i.size≠0) (hzs:z.cells.size=i.size) (hby:i.bytes≤128)
 {k:Nat} {ob ob':DO} {p:zAJ} (hk:S.h[k]? =some (some ob)) (hp:ρ[k]? =some p) {n cap c:Nat} {Rw:Nat→Value→Prop} (hr:zAP w p (n*i.size) Rw) (hcap:n≤cap) (hroom:p.off+cap*i.size≤p.room)
 {vy:Value} {news:List Value} (hy:Src P i.size t vy c news w) (hb:n+c≤LIM)
 (hnew: ∀ M ρ' w' p',zDW (MS N S.h ρ) w ρ M w' ρ'→zAP w' p' ((n+c)*i.size) (zY5 (n*i.size) Rw news)→zBf P M w' ρ' p' ob')
 (o:Oper) {cl:Call} {x y:Operand} (ho:o.op= .call cl) (hc:cl.callee= .builtin .append) (ha:cl.args.toList= [x,y]) (ht:cl.argTypes.toList= [t,t]) (hx:a.eval x= .slice (some ⟨p.blk,p.off,none⟩) n cap) (hvy:a.eval y=vy):
 zDl P (execOp a.eval o) w (Got P Γ N S.h ρ w false (.msl S.h.length i.size 0 (n+c)) (S.h.set k none++[some ob'])):=by
 obtain ⟨w',p',cap',h1,h2,h3,h4,h5,h6⟩:=zVe (ty:=o.type) hu hi hz hs0 hzs hby hr hcap hroom hy hb
 refine zDl.value (zLo ho hc ha ht) (by rw [hx,hvy];exact h1) ?_
 have hcells: ∀ b,p'.foot b→zQ0 w' b:=fun b hb=>by
  obtain ⟨e1,cs,tt,e2,_⟩:=h6
  rw [e1] at hb
  exact .cells (c:=cs) (t:=tt) (z:=(0,0)) (by rw [show b=p'.blk from hb];exact e2)
 have hlen:(S.h.set k none).length=S.h.length:=by simp
 have O:zDW (MS N S.h ρ) w ρ (MS N (S.h.set k none++[some ob']) (ρ++[p'])) w' (ρ++[p']):=by
  refine ⟨fun b hb hm _=>h4.block b hb fun hx=>hm (.inr ⟨k,ob,p,hk,hp,hx⟩),fun b hb=>?_,fun i q hi=>zAR hi⟩
  rcases hb with hb | hb
  ·exact .inl (.inl hb)
  ·obtain ⟨i1,o1,p1,g1,g2,g3⟩:=hb
   rcases zAe g1 with ⟨hl,g1⟩ | ⟨hl,_⟩
   ·rcases zAe g2 with ⟨_,g2⟩ | ⟨hl2,_⟩
    ·exact .inl (.inr ⟨i1,o1,p1,(zBT g1).2,g2,g3⟩)
    ·rw [hlen] at hl;rw [R.hr.len] at hl2;omega
   ·rcases zAe g2 with ⟨hl2,_⟩ | ⟨_,rfl⟩
    ·rw [hlen] at hl;rw [R.hr.len] at hl2;omega
    ·exact (h5 b g3).imp (fun hx=>.inr ⟨k,ob,p,hk,hp,hx⟩) id
 obtain ⟨g1,g2⟩:=R.hr.regrow (o':=ob') hk hp h4 (fun b hb=>⟨h5 b hb,hcells b hb⟩) (hnew _ _ _ _ O h6)
 refine ⟨⟨ρ++[p'],g1,⟨p',cap',by rw [←R.hr.len];simp,by simp,h2,by unfold LB;unfold LIM at hb;omega,by simpa using h3⟩,g2,fun _ _ h=>zAR h⟩,fun h=>by cases h⟩
theorem zEB (R:Rel P Γ N S ρ a w) {t e:TypeId} {i:TypeInfo} {z:Value} (hu:P.underlying t=some (.slice e)) (hi:P.info? e=some i) (hz:i.zero=some z) (hzs:z.cells.size=i.size) (hby:i.bytes≤128)
 {ob':DO} {c:Nat} {vy:Value} {news:List Value} (hy:Src P i.size t vy c news w) (hc0:0<c) (hb:c≤LIM)
 (hnew: ∀ M ρ' w' p',zDW (MS N S.h ρ) w ρ M w' ρ'→zAP w' p' (c*i.size) (fun j u=>news[j]? =some u)→zBf P M w' ρ' p' ob') (ext:Bool)
 (o:Oper) {cl:Call} {x y:Operand} (ho:o.op= .call cl) (hc:cl.callee= .builtin .append) (ha:cl.args.toList= [x,y]) (ht:cl.argTypes.toList= [t,t]) (hx:a.eval x= .slice none 0 0) (hvy:a.eval y=vy):
 zDl P (execOp a.eval o) w (Got P Γ N S.h ρ w ext (.msl S.h.length i.size 0 c) (S.h++[some ob'])):=by
 obtain ⟨w',cap',h1,h2,cs,rfl,h4,h5⟩:=zMJ (ty:=o.type) hu hi hz hzs hby hy hc0 hb
 have hnl:news.length=c*i.size:=hy.newsLen
 refine zDl.value (zLo ho hc ha ht) (by rw [hx,hvy];exact h1) ?_
 have hle:c*i.size≤cap'*i.size:=Nat.mul_le_mul_right _ h2
 refine zIz (d:=.msl S.h.length i.size 0 c) R.hr ⟨Ext.toDrew w,rfl⟩ (fun M ρ' O=>hnew _ _ _ _ O ?_) (fun M ρ' hp=>⟨_,cap',hp,by simp [zBR],h2,by unfold LB;unfold LIM at hb;omega,by simp only [zBR];omega⟩) ext
 refine zKh rfl (by omega) fun j hj=>?_
 rw [h5 j hj]
 exact ⟨news[j],by simp [hnl,hj],by simp [hnl,hj]⟩
theorem zXy {xs ys:List Int} {M:Nat→Prop} {w':World} {ρ':List zAJ} {p':zAJ} {s:Nat} (hs:s=1) (h:zAP w' p' ((xs.length+ys.length)*s) (zY5 (xs.length*s) (fun j u=>u= .int .i64 (xs.getD j 0)) (ys.map (Value.int .i64)))):zBf P M w' ρ' p' (.ints (xs++ys)):=by
 subst hs
 show zAP _ _ (xs++ys).length _
 rw [List.length_append]
 rw [Nat.mul_one,Nat.mul_one] at h
 refine zAP.out h rfl fun j u hj hu=>?_
 unfold zY5 at hu
 split at hu
 ·rename_i hlt
  rw [hu];simp [List.getD_eq_getElem?_getD,List.getElem?_append_left hlt]
 ·rename_i hlt
  have hj2:j-xs.length<ys.length:=by omega
  simp [hj2] at hu
  rw [←hu];simp [List.getD_eq_getElem?_getD,List.getElem?_append_right (Nat.le_of_not_lt hlt),hj2]
theorem zVZ {xs ys:List Bool} {M:Nat→Prop} {w':World} {ρ':List zAJ} {p':zAJ} {s:Nat} (hs:s=1) (h:zAP w' p' ((xs.length+ys.length)*s) (zY5 (xs.length*s) (fun j u=>u= .bool (xs.getD j false)) (ys.map Value.bool))):zBf P M w' ρ' p' (.bools (xs++ys)):=by
 subst hs
 show zAP _ _ (xs++ys).length _
 rw [List.length_append]
 rw [Nat.mul_one,Nat.mul_one] at h
 refine zAP.out h rfl fun j u hj hu=>?_
 unfold zY5 at hu
 split at hu
 ·rename_i hlt
  rw [hu];simp [List.getD_eq_getElem?_getD,List.getElem?_append_left hlt]
 ·rename_i hlt
  have hj2:j-xs.length<ys.length:=by omega
  simp [hj2] at hu
  rw [←hu];simp [List.getD_eq_getElem?_getD,List.getElem?_append_right (Nat.le_of_not_lt hlt),hj2]
theorem zQO (R:Rel P Γ N S ρ a w) {t e:TypeId} (hu:P.underlying t=some (.slice e)) {y:DV} {v:Value} (hy:zAU (MS N S.h ρ) w y ρ v) {m c:Nat} (hm0:0<m) {g:Nat→Nat→DV} {vy:Prop} (h:zcF S m y=some (c,g,vy)) (hv:vy)
 (h1: ∀ i j,i<c→j<m→zXQ (g i j)=true): ∃ news,Src P m t v c news w∧∀ j u,news[j]? =some u→zAU (MS N S.h ρ) w (g (j/m) (j % m)) [] u:=by
 have dm: ∀ {j:Nat},j<c*m→j/m<c∧j % m<m∧j/m*m+j % m=j:=fun {j} hj=>⟨by rw [Nat.div_lt_iff_lt_mul hm0];exact hj,Nat.mod_lt _ hm0,by rw [Nat.mul_comm];exact Nat.div_add_mod j m⟩
 have core: ∀ (ad:Option Addr) (cap:Nat),(∀ j,j<c*m→∃ b o u,ad=some ⟨b,o,none⟩∧w.cell? ⟨b,o+j,none⟩=some u∧zAU (MS N S.h ρ) w (g (j/m) (j % m)) [] u)→v= .slice ad c cap→(ad=none→c=0)→
  ∃ news,Src P m t v c news w∧∀ j u,news[j]? =some u→zAU (MS N S.h ρ) w (g (j/m) (j % m)) [] u:=by
  intro ad cap hc hve hnone
  obtain ⟨f,hf⟩: ∃ f:Nat→Value,∀ j,j<c*m→∃ b o,ad=some ⟨b,o,none⟩∧w.cell? ⟨b,o+j,none⟩=some (f j)∧zAU (MS N S.h ρ) w (g (j/m) (j % m)) [] (f j):=by
   refine ⟨fun j=>(match ad with | some a=>w.cell? ⟨a.block,a.off+j,none⟩ | none=>none).getD undef,fun j hj=>?_⟩
   obtain ⟨b,o,u,rfl,e2,e3⟩:=hc j hj
   exact ⟨b,o,rfl,by simp [e2],by simpa [e2] using e3⟩
  have val: ∀ {j:Nat} {u:Value},((List.range (c*m)).map f)[j]? =some u→j<c*m∧u=f j:=fun {j u} hj=>by
   have hlt:=(List.getElem?_eq_some_iff.1 hj).1
   have hlt:j<c*m:=by simpa using hlt
   simp [hlt] at hj
   exact ⟨hlt,hj.symm⟩
  refine ⟨(List.range (c*m)).map f,?_,fun j u hj=>?_⟩
  ·rw [hve]
   refine zOu hu (by simp) (fun j u hj=>?_) (fun u hu'=>?_) hm0 hnone
   ·obtain ⟨hlt,rfl⟩:=val hj
    obtain ⟨b,o,e1,e2,_⟩:=hf j hlt
    exact ⟨b,o,e1,e2⟩
   ·obtain ⟨j,hj,rfl⟩:=List.mem_map.1 hu'
    have hlt:=List.mem_range.1 hj
    obtain ⟨_,_,_,_,e3⟩:=hf j hlt
    exact (zJ1 (h1 _ _ (dm hlt).1 (dm hlt).2.1) e3).1
  ·obtain ⟨hlt,rfl⟩:=val hj
   obtain ⟨_,_,_,_,e3⟩:=hf j hlt
   exact e3
 unfold zcF at h
 split at h
 ·cases h
  refine core none 0 (fun j hj=>by rw [Nat.zero_mul] at hj;omega) hy (fun _=>rfl)
 ·rename_i m' n f
  split at h
  ·rename_i hm
   cases h
   have hm':m'=m:=by simpa using hm
   subst hm'
   obtain ⟨ad,cap,rfl,g1,g2,g3⟩:=hy
   refine core ad cap (fun j hj=>?_) rfl (fun e=>?_)
   ·obtain ⟨b,o,u,e1,_,e2,e3⟩:=g3 _ _ (dm hj).1 (dm hj).2.1
    exact ⟨b,o,u,e1,by rw [(dm hj).2.2] at e2;exact e2,e3⟩
   ·rcases Nat.eq_zero_or_pos c with h0 | h0
    ·exact h0
    ·obtain ⟨b,o,u,e1,_⟩:=g3 0 0 h0 hm0;rw [e] at e1;cases e1
  ·cases h
 ·rename_i k m' off n
  obtain ⟨p,cap,hp,rfl,g1,g2,g3⟩:=hy
  split at h
  ·rename_i m2 n2 f hk
   split at h
   ·rename_i hm
    cases h
    simp only [Bool.and_eq_true,beq_iff_eq] at hm
    obtain ⟨rfl,rfl⟩:=hm
    obtain ⟨p',hp',hr⟩:=R.hr.obj k _ hk
    have e:p'=p:=Option.some.inj (hp'.symm.trans hp)
    subst e
    obtain ⟨rfl,rfl⟩:=hv
    refine core (some ⟨p'.blk,p'.off+0*m2,none⟩) cap (fun j hj=>?_) rfl (fun e=>by cases e)
    obtain ⟨u,e1,e2⟩:=zAP.cell hr hj
    exact ⟨p'.blk,p'.off,u,by simp,e1,e2⟩
   ·cases h
  ·cases h
 ·cases h
theorem zOV (R:Rel P Γ N S ρ a w) {t:TypeId} {x y:Operand} {d:DV} {h':DH} {vc:Prop} (hd:zSD P S t (opd S.fr x) (opd S.fr y)=some (d,h',vc)) (hv:vc) (o:Oper) {cl:Call} (ho:o.op= .call cl) (hc:cl.callee= .builtin .append)
 (ha:cl.args.toList= [x,y]) (ht:cl.argTypes.toList= [t,t]):zDl P (execOp a.eval o) w (Got P Γ N S.h ρ w false d h'):=by
 have rx:=zAX R x
 have ry:=zAX R y
 unfold zSD at hd
 split at hd
 ·rename_i kk e i z hk
  obtain ⟨hu,hi,hz,h0,hzs,hks,hq1,hq2⟩:=zOO hk
  clear hq1 hq2
  split at hd
  ·cases hd
  ·rename_i hby
   have hby':i.bytes≤128:=by omega
   split at hd
   ·have hs1:i.size=1:=hks.symm
    split at hd
    ·rename_i ys vy hy
     split at hd
     ·rename_i ex
      cases hd
      rw [ex] at rx
      have:=zEB (ob':=.ints ys) R hu hi hz hzs hby' (by rw [hs1];exact zMy R hu ry hy hv.1) hv.2.1 hv.2.2 (fun M ρ' w' p' O hr=>by
       have hr':=hr
       rw [hs1,Nat.mul_one] at hr'
       refine zAP.out hr' rfl fun j u hj hu'=>?_
       simp [hj] at hu'
       rw [←hu'];simp [hj]) false o ho hc ha ht rx rfl
      rw [hs1] at this
      exact this
     ·rename_i k m off n ex
      rw [ex] at rx
      obtain ⟨p,cap,hp,hx,g1,g2,g3⟩:=rx
      split at hd
      ·rename_i xs hkk
       split at hd
       ·rename_i hm
        cases hd
        have hm':m=1:=by simpa using hm
        subst hm'
        obtain ⟨q1,⟨rfl,rfl⟩,q3⟩:=hv
        obtain ⟨p',hp',hr⟩:=R.hr.obj k _ hkk
        have e:p'=p:=Option.some.inj (hp'.symm.trans hp)
        subst e
        have:=zEA (ob':=.ints (xs++ys)) (n:=xs.length) (cap:=cap) (c:=ys.length) R hu hi hz h0 hzs hby' hkk hp (Rw:=fun j u=>u= .int .i64 (xs.getD j 0)) (by rw [hs1,Nat.mul_one];exact hr) g1 (by rw [hs1];simpa using g3) (by rw [hs1];exact zMy R hu ry hy q1) q3
         (fun M ρ' w' p' O hr=>zXy hs1 hr) o ho hc ha ht (by simpa using hx) rfl
        rw [hs1] at this
        exact this
       ·cases hd
      ·cases hd
     ·cases hd
    ·cases hd
   ·have hs1:i.size=1:=hks.symm
    split at hd
    ·rename_i ys vy hy
     split at hd
     ·rename_i ex
      cases hd
      rw [ex] at rx
      have:=zEB (ob':=.bools ys) R hu hi hz hzs hby' (by rw [hs1];exact zLy R hu ry hy hv.1) hv.2.1 hv.2.2 (fun M ρ' w' p' O hr=>by
       have hr':=hr
       rw [hs1,Nat.mul_one] at hr'
       refine zAP.out hr' rfl fun j u hj hu'=>?_
       simp [hj] at hu'
       rw [←hu'];simp [hj]) false o ho hc ha ht rx rfl
      rw [hs1] at this
      exact this
     ·rename_i k m off n ex
      rw [ex] at rx
      obtain ⟨p,cap,hp,hx,g1,g2,g3⟩:=rx
      split at hd
      ·rename_i xs hkk
       split at hd
       ·rename_i hm
        cases hd
        have hm':m=1:=by simpa using hm
        subst hm'
        obtain ⟨q1,⟨rfl,rfl⟩,q3⟩:=hv
        obtain ⟨p',hp',hr⟩:=R.hr.obj k _ hkk
        have e:p'=p:=Option.some.inj (hp'.symm.trans hp)
        subst e
        have:=zEA (ob':=.bools (xs++ys)) (n:=xs.length) (cap:=cap) (c:=ys.length) R hu hi hz h0 hzs hby' hkk hp (Rw:=fun j u=>u= .bool (xs.getD j false)) (by rw [hs1,Nat.mul_one];exact hr) g1 (by rw [hs1];simpa using g3) (by rw [hs1];exact zLy R hu ry hy q1) q3
         (fun M ρ' w' p' O hr=>zVZ hs1 hr) o ho hc ha ht (by simpa using hx) rfl
        rw [hs1] at this
        exact this
       ·cases hd
      ·cases hd
     ·cases hd
    ·cases hd
   ·rename_i m
    have hsm:i.size=m:=hks.symm
    have hm0:0<m:=by omega
    split at hd
    ·rename_i c g vy hy
     split at hd
     ·rename_i ex
      cases hd
      rw [ex] at rx
      obtain ⟨news,hsrc,hnews⟩:=zQO R hu ry hm0 hy hv.1.1 hv.1.2
      have:=zEB (ob':=.arr m c g) R hu hi hz hzs hby' (by rw [hsm];exact hsrc) hv.2.1 hv.2.2 (fun M ρ' w' p' O hr=>by
       rw [hsm] at hr
       exact zAP.out hr rfl fun j u hj hu'=>zAU.out _ O.nil (hnews j u hu')) false o ho hc ha ht rx rfl
      rw [hsm] at this
      exact this
     ·rename_i k m' off n ex
      rw [ex] at rx
      obtain ⟨p,cap,hp,hx,g1,g2,g3⟩:=rx
      split at hd
      ·rename_i m2 n2 f hkk
       split at hd
       ·rename_i hm
        cases hd
        simp only [Bool.and_eq_true,beq_iff_eq] at hm
        obtain ⟨rfl,rfl⟩:=hm
        obtain ⟨q1,⟨rfl,rfl⟩,q3⟩:=hv
        obtain ⟨p',hp',hr⟩:=R.hr.obj k _ hkk
        have e:p'=p:=Option.some.inj (hp'.symm.trans hp)
        subst e
        obtain ⟨news,hsrc,hnews⟩:=zQO R hu ry hm0 hy q1.1 q1.2
        have:=zEA (ob':=.arr m2 (n+c) (fun i j=>if i<n then f i j else g (i-n) j)) (n:=n) (cap:=cap) (c:=c) R hu hi hz h0 hzs hby' hkk hp (Rw:=fun j u=>zAU (MS N S.h ρ) w (f (j/m2) (j % m2)) [] u) (by rw [hsm];exact hr) g1 (by rw [hsm];simpa using g3) (by rw [hsm];exact hsrc) q3
         (fun M ρ' w' p' O hr=>by
          rw [hsm] at hr
          refine zAP.out hr rfl fun j u hj hu'=>?_
          show zAU M w' (if j/m2<n then f (j/m2) (j % m2) else g (j/m2-n) (j % m2)) [] u
          unfold zY5 at hu'
          by_cases hlt:j<n*m2
          ·rw [if_pos hlt] at hu'
           rw [if_pos (by rw [Nat.div_lt_iff_lt_mul hm0];exact hlt)]
           exact zAU.out _ O.nil hu'
          ·rw [if_neg hlt] at hu'
           rw [if_neg (by rw [Nat.div_lt_iff_lt_mul hm0];exact hlt)]
           have h1:=hnews _ _ hu'
           have e1:(j-n*m2)/m2=j/m2-n:=by rw [Nat.mul_comm n m2];exact Nat.sub_mul_div ..
           have e2:(j-n*m2) % m2=j % m2:=by
            have hj2:j=(j-n*m2)+n*m2:=by omega
            rw [hj2,Nat.add_mul_mod_self_right,Nat.add_sub_cancel]
           rw [e1,e2] at h1
           exact zAU.out _ O.nil h1) o ho hc ha ht (by simpa using hx) rfl
        rw [hsm] at this
        exact this
       ·cases hd
      ·cases hd
     ·cases hd
    ·cases hd
 ·cases hd
end
end Go.Proofs.YtekkngkphejfcaaGreatDoor
namespace Go.Proofs.YtekkngkphejfcaaGreatDoor
open Go.RowKit
def zao (place:Nat→Option (Nat×Nat)) (cells:List DV):List (Nat×DV)→Option (List DV)
 | []=>some cells
 | (i,d)::rest=>match place i with
  | none=>none
  | some (off,size)=>match zF8 d with
   | none=>none
   | some l=>if l.length=size∧off+l.length≤cells.length then zao place (zKa cells off l) rest else none
def zRY (P:Program) (t:TypeId):Option (Value×(Nat→Option (Nat×Nat))):=match P.info? t with
 | some it=>match P.underlying t with
  | some (.array _ e)=>match it.zero with
   | some z=>match P.info? e with
    | some ie=>some (z,fun i=>some (i*ie.size,ie.size))
    | none=>none
   | none=>none
  | some (.struct fields)=>match it.zero with
   | some z=>match fields.toList.mapM (fun f=>(P.info? f.type).map fun i=>(f.offset,i.size)) with
    | some places=>some (z,fun i=>places.toArray[i]?)
    | none=>none
   | none=>none
  | _=>none
 | none=>none
def zdY (P:Program) (S:St) (t:TypeId) (parts:List (Nat×Operand)):Option (DV×Prop):=match zRY P t with
 | some (z,place)=>match zao place (z.cells.toList.map ofV) (parts.map fun x=>(x.1,opd S.fr x.2)) with
  | some l=>some (.agg l.length (fun j=>l.getD j .any),True)
  | none=>none
 | none=>none
def zRZ (P:Program) (t:TypeId) (m:Nat) (f:Nat→DV) (off size:Nat):Option DV:=
 if off+size≤m then (if zS6 P t then (if size=1 then some (f off) else none) else if zdK P t size then some (.agg size (tab size fun j=>f (off+j))) else none) else none
def ixD (P:Program) (t:TypeId) (x:DV) (n:Int):Option (DV×Prop):=match x with
 | .agg m f=>match P.underlying t with
  | some (.array len e)=>match P.info? e with
   | some i=>if zS6 P e&&i.size==1&&len==m then some (f n.toNat,0≤n∧n<len) else none
   | none=>none
  | _=>none
 | _=>none
def zdh (P:Program) (t:TypeId) (x:DV) (fi:Nat):Option (DV×Prop):=match x with
 | .agg m f=>match P.underlying t with
  | some (.struct fs)=>match fs[fi]? with
   | some fd=>match P.info? fd.type with
    | some i=>match zRZ P fd.type m f fd.offset i.size with
     | some d=>some (d,True)
     | none=>none
    | none=>none
   | none=>none
  | _=>none
 | _=>none
def zd8 (P:Program) (t:TypeId) (x:DV) (lo hi:Option Int):Option (DV×Prop):=match P.underlying t with
 | some (.slice e)=>match P.info? e with
  | some i=>match x with
   | .ints l=>if i.size=1 then some (.ints ((l.take (hi.getD l.length).toNat).drop (lo.getD 0).toNat),0≤lo.getD 0∧lo.getD 0≤hi.getD l.length∧hi.getD l.length≤l.length) else none
   | .bools l=>if i.size=1 then some (.bools ((l.take (hi.getD l.length).toNat).drop (lo.getD 0).toNat),0≤lo.getD 0∧lo.getD 0≤hi.getD l.length∧hi.getD l.length≤l.length) else none
   | .sl m n f=>if i.size=m then some (.sl m ((hi.getD n).toNat-(lo.getD 0).toNat) (fun i j=>f ((lo.getD 0).toNat+i) j),0≤lo.getD 0∧lo.getD 0≤hi.getD n∧hi.getD n≤n) else none
   | .msl k m off n=>if i.size=m then some (.mse k m (off+(lo.getD 0).toNat) ((hi.getD n).toNat-(lo.getD 0).toNat),0≤lo.getD 0∧lo.getD 0≤hi.getD n∧hi.getD n≤n) else none
   | _=>none
  | none=>none
 | _=>none
def zdc (S:St):Option Operand→Option (Option Int)
 | none=>some none
 | some x=>match opd S.fr x with
  | .int _ n=>some (some n)
  | _=>none
def zVR (f g:Nat→DV):List Nat→Bool
 | []=>true
 | i::is=>(zVl (f i)==zVl (g i))&&zVR f g is
def zdi (P:Program) (t:TypeId) (f g:Nat→DV) (m m':Nat):Option (List Nat):=match P.underlying t with
 | some (.array n e)=>match P.info? e with
  | some i=>match P.underlying e with
   | some (.int _)=>if i.size==1&&zS6 P e&&P.eqGuardType P.depth t==false&&n==m&&n==m'&&(List.range n).all (fun i=>isI (f i)&&isI (g i)) then some (List.range n) else none
   | _=>none
  | none=>none
 | _=>none
def zdC (P:Program) (op:BinOp) (t:TypeId) (x y:DV):Option (DV×Prop):=match op,x,y with
 | .eql,.agg m f,.agg m' g=>match zdi P t f g m m' with
  | some is=>some (.bool (zVR f g is),True)
  | none=>none
 | .neq,.agg m f,.agg m' g=>match zdi P t f g m m' with
  | some is=>some (.bool (!(zVR f g is)),True)
  | none=>none
 | _,_,_=>none
def zcp (P:Program) (S:St):Op→Option (DV×Prop)
 | .build t parts=>zdY P S t parts.toList
 | .index t x i=>match opd S.fr i with
  | .int _ n=>ixD P t (opd S.fr x) n
  | _=>none
 | .field t x f=>zdh P t (opd S.fr x) f
 | .slice t x lo hi none=>match zdc S lo with
  | some l=>match zdc S hi with
   | some h=>zd8 P t (opd S.fr x) l h
   | none=>none
  | none=>none
 | .binOp op t x y t'=>match zdC P op t (opd S.fr x) (opd S.fr y) with
  | some r=>some r
  | none=>pop P S (.binOp op t x y t')
 | op=>pop P S op
section
variable {P:Program} {Γ:Glo} {N:Nat→Prop} {S:St} {ρ:List zAJ} {a:Act} {w:World}
def zKD (M:Nat→Prop) (w:World) (ρ:List zAJ) (l:List DV) (cs:Array Value):Prop:=cs.size=l.length∧∀ j,j<l.length→∃ u,cs[j]? =some u∧zAU M w (l.getD j .any) ρ u
theorem zNF: ∀ (vs:List Value) (k off:Nat) (cs:Array Value),((vs.zipIdx k).foldl (fun (cs:Array Value) (x:Value×Nat)=>cs.setIfInBounds (off+x.2) x.1) cs).size=cs.size∧
 ∀ j,((vs.zipIdx k).foldl (fun (cs:Array Value) (x:Value×Nat)=>cs.setIfInBounds (off+x.2) x.1) cs)[j]? =if off+k≤j∧j<off+k+vs.length∧j<cs.size then vs[j-(off+k)]? else cs[j]?
 | [],k,off,cs=>⟨rfl,fun j=>by
  rw [if_neg]
  ·rfl
  ·simp only [List.length_nil];omega⟩
 | v::vs,k,off,cs=>by
  obtain ⟨h1,h2⟩:=zNF vs (k+1) off (cs.setIfInBounds (off+k) v)
  rw [List.zipIdx_cons,List.foldl_cons]
  refine ⟨by rw [h1];simp,fun j=>?_⟩
  rw [h2 j,List.length_cons]
  simp only [Array.size_setIfInBounds]
  by_cases e:j=off+k
  ·subst e
   rw [if_neg (by omega),Array.getElem?_setIfInBounds,if_pos rfl]
   by_cases hs:off+k<cs.size
   ·rw [if_pos hs,if_pos (by omega),Nat.sub_self];rfl
   ·rw [if_neg hs,if_neg (by omega),Array.getElem?_eq_none (by omega)]
  ·by_cases e2:off+(k+1)≤j∧j<off+(k+1)+vs.length∧j<cs.size
   ·rw [if_pos e2,if_pos (by omega),show j-(off+k)=(j-(off+(k+1)))+1 by omega];simp
   ·rw [if_neg e2,if_neg (by omega),Array.getElem?_setIfInBounds,if_neg (by omega)]
theorem zM6 {M:Nat→Prop} {place:Nat→Option (Nat×Nat)}: ∀ (parts:List (Nat×Operand)) (l:List DV) (cs:Array Value) (r:List DV),zKD M w ρ l cs→(∀ x,zAU M w (opd S.fr x) ρ (a.eval x))→
 zao place l (parts.map fun x=>(x.1,opd S.fr x.2))=some r→∃ rs,Instr.fill place cs (parts.map fun x=>(x.1,a.eval x.2))=some rs∧zKD M w ρ r rs
 | [],l,cs,r,hc,_,h=>by cases h;exact ⟨cs,rfl,hc⟩
 | (i,x)::rest,l,cs,r,hc,hr,h=>by
  simp only [List.map_cons,zao] at h
  split at h
  ·cases h
  ·rename_i off size hpl
   split at h
   ·cases h
   ·rename_i ds hds
    split at h
    ·rename_i hsz
     obtain ⟨c1,c2⟩:=zDh hds (hr x)
     have hlen:(a.eval x).cells.size=size:=by rw [c1,hsz.1]
     have hfit: ¬ (off+(a.eval x).cells.size>cs.size):=by rw [c1,hc.1];omega
     obtain ⟨s1,s2⟩:=zNF (a.eval x).cells.toList 0 off cs
     have hnew:zKD M w ρ (zKa l off ds) ((a.eval x).cells.zipIdx.foldl (fun cs (c,j)=>cs.setIfInBounds (off+j) c) cs):=by
      have e0:((a.eval x).cells.zipIdx.foldl (fun cs (c,j)=>cs.setIfInBounds (off+j) c) cs)=(((a.eval x).cells.toList.zipIdx 0).foldl (fun (cs:Array Value) (x:Value×Nat)=>cs.setIfInBounds (off+x.2) x.1) cs):=by
       rw [←Array.foldl_toList];simp
      rw [e0]
      refine ⟨by rw [s1,zEk,hc.1],fun j hj=>?_⟩
      rw [zEk] at hj
      rw [s2 j,zIX l off ds hj]
      by_cases e:off≤j∧j<off+ds.length
      ·rw [if_pos (by simp;rw [c1,hc.1];omega),if_pos e]
       obtain ⟨u,g1,g2⟩:=c2 (j-off) (by omega)
       exact ⟨u,by simpa using g1,g2⟩
      ·rw [if_neg (by simp;rw [c1];omega),if_neg e]
       exact hc.2 j hj
     obtain ⟨rs,g1,g2⟩:=zM6 rest _ _ r hnew hr h
     refine ⟨rs,?_,g2⟩
     simp only [List.map_cons,Instr.fill,hpl]
     rw [if_neg (by simp only [Bool.or_eq_true,decide_eq_true_eq];omega)]
     exact g1
    ·cases h
theorem zPo {t:TypeId} {z:Value} {place:Nat→Option (Nat×Nat)} (h:zRY P t=some (z,place)) (parts:List (Nat×Value)):P.built t parts=Instr.fill place z.cells parts:=by
 unfold zRY at h
 unfold Program.built
 repeat' (split at h)
 all_goals first
  | (cases h;done)
  | (cases h;simp_all)
theorem zUf (R:Rel P Γ N S ρ a w) {t:TypeId} {parts:Array (Nat×Operand)} {d:DV} {vc:Prop} (h:zdY P S t parts.toList=some (d,vc)):Yl P N w (MS N S.h ρ) ρ (Instr.build t (parts.map fun (i,x)=>(i,a.eval x))) d:=by
 unfold zdY at h
 split at h
 ·rename_i z place hp
  split at h
  ·rename_i l hl
   cases h
   have h0:zKD (MS N S.h ρ) w ρ (z.cells.toList.map ofV) z.cells:=⟨by simp,fun j hj=>by
    have hj':j<z.cells.size:=by simpa using hj
    exact ⟨z.cells[j],by simp [hj'],by
     have:(z.cells.toList.map ofV).getD j .any=ofV z.cells[j]:=by simp [hj']
     rw [this];exact zLJ _⟩⟩
   obtain ⟨rs,g1,g2,g3⟩:=zM6 parts.toList _ _ _ h0 (zAX R) hl
   refine Yl.pure (v:=.agg rs) (fun W=>run_build W t _ rs ?_) ⟨rs,rfl,g2,g3⟩
   rw [zPo hp]
   have e1:(parts.map fun (i,x)=>(i,a.eval x)).toList=parts.toList.map fun x=>(x.1,a.eval x.2):=by simp
   rw [e1];exact g1
  ·cases h
 ·cases h
theorem zNX {t:TypeId} {cs:Array Value} {off size m:Nat} {f:Nat→DV} {d:DV} {M:Nat→Prop} {i:TypeInfo} (hi:P.info? t=some i) (hsz:i.size=size) (hcs:cs.size=m) (hr: ∀ j,j<m→∃ u,cs[j]? =some u∧zAU M w (f j) ρ u) (h:zRZ P t m f off size=some d):Yl P N w M ρ (part t cs off) d:=by
 unfold zRZ at h
 split at h
 ·rename_i hle
  split at h
  ·rename_i h1
   split at h
   ·rename_i hs
    cases h
    obtain ⟨u,g1,g2⟩:=hr off (by omega)
    unfold zS6 at h1
    simp only [Bool.and_eq_true,Option.isSome_iff_exists,Bool.not_eq_true'] at h1
    obtain ⟨⟨dd,hd⟩,hn⟩:=h1
    refine Yl.pure (v:=u) (fun W=>?_) g2
    unfold part
    rw [Sem.run_bind,zEF hd]
    simp [Result.andThen,hn,g1]
   ·cases h
  ·split at h
   ·rename_i h2
    cases h
    obtain ⟨h3,i',hi',hs'⟩:=zL5 h2
    have ei:i'=i:=Option.some.inj (hi'.symm.trans hi)
    subst ei
    obtain ⟨dd,hd⟩:=zLX h3
    refine Yl.pure (v:=.agg (cs.extract off (off+size))) (fun W=>?_) ⟨_,rfl,by simp;omega,fun j hj=>?_⟩
    ·unfold part
     rw [Sem.run_bind,zEF hd]
     simp only [Result.andThen,h3,if_true]
     rw [Sem.run_bind,zBL hi,hsz]
     rfl
    ·obtain ⟨u,g1,g2⟩:=hr (off+j) (by omega)
     refine ⟨u,?_,zFX hj g2⟩
     rw [Array.getElem?_extract]
     rw [if_pos (by omega)]
     exact g1
   ·cases h
 ·cases h
theorem zXx (R:Rel P Γ N S ρ a w) {t:TypeId} {x d:DV} {vc:Prop} {v:Value} {k:IntKind} {n:Int} (hx:zAU (MS N S.h ρ) w x ρ v) (h:ixD P t x n=some (d,vc)) (hv:vc):Yl P N w (MS N S.h ρ) ρ (Instr.index t v (.int k n)) d:=by
 unfold ixD at h
 split at h
 ·rename_i m f
  obtain ⟨cs,rfl,hs,hr⟩:=hx
  split at h
  ·rename_i len e hu
   split at h
   ·rename_i i hi
    split at h
    ·rename_i hc
     cases h
     simp only [Bool.and_eq_true,beq_iff_eq] at hc
     obtain ⟨⟨h1,h2⟩,rfl⟩:=hc
     have hp:zRZ P e len f n.toNat 1=some (f n.toNat):=by
      unfold zRZ
      rw [if_pos (by omega),if_pos h1,if_pos rfl]
     obtain ⟨u,g1,g2⟩:=zNX (P:=P) hi h2 hs hr hp
     refine ⟨u,fun W hE=>?_,g2⟩
     unfold Instr.index
     simp only [asIntOf,Sem.run_bind,Sem.run_pure,Result.andThen,run_underlying hu]
     rw [if_pos ⟨hv.1,hv.2⟩]
     simp only [Sem.run_bind,zBL hi,Result.andThen,h2,Nat.mul_one]
     exact g1 W hE
    ·cases h
   ·cases h
  ·cases h
 ·cases h
theorem zVO (R:Rel P Γ N S ρ a w) {t:TypeId} {x d:DV} {vc:Prop} {v:Value} {fi:Nat} (hx:zAU (MS N S.h ρ) w x ρ v) (h:zdh P t x fi=some (d,vc)):Yl P N w (MS N S.h ρ) ρ (Instr.field t v fi) d:=by
 unfold zdh at h
 split at h
 ·rename_i m f
  obtain ⟨cs,rfl,hs,hr⟩:=hx
  split at h
  ·rename_i fs hu
   split at h
   ·rename_i fd hf
    split at h
    ·rename_i i hi
     split at h
     ·rename_i d' hp
      cases h
      obtain ⟨u,g1,g2⟩:=zNX (P:=P) hi rfl hs hr hp
      refine ⟨u,fun W hE=>?_,g2⟩
      unfold Instr.field
      simp only [Sem.run_bind,run_underlying hu,Result.andThen,hf,asAgg,Sem.run_pure]
      exact g1 W hE
     ·cases h
    ·cases h
   ·cases h
  ·cases h
 ·cases h
theorem zWb {k:IntKind} {n:Int} {y:Nat} {c:BoundsCode} (h0:0≤n) (h1:n≤y) (W:World):(Instr.sliceBound (.int k n) y c).run P W= .ok n.toNat W:=by
 unfold Instr.sliceBound
 simp only [asIntOf,Sem.run_bind,Sem.run_pure,Result.andThen]
 rw [if_pos ⟨h0,h1⟩];rfl
theorem zTJ (R:Rel P Γ N S ρ a w) {o:Option Operand} {l:Option Int} (h:zdc S o=some l): ∃ k,o.map a.eval=l.map (Value.int k):=by
 cases o with
 | none=>cases h;exact ⟨.i64,rfl⟩
 | some x=>
  simp only [zdc] at h
  split at h
  ·rename_i k n e
   cases h
   have:=zAX R x
   rw [e] at this
   exact ⟨k,by simp only [Option.map_some];rw [show a.eval x=_ from this]⟩
  ·cases h
theorem zNY {t e:TypeId} {i:TypeInfo} {ad:Option Addr} {len cap:Nat} {kl kh:IntKind} {lo hi:Option Int} (hu:P.underlying t=some (.slice e)) (hi':P.info? e=some i) (h0:0≤lo.getD 0) (h1:lo.getD 0≤hi.getD len) (h2:hi.getD len≤len) (h3:len≤cap) (W:World):
 (Instr.sliceAt t (.slice ad len cap) (lo.map (Value.int kl)) (hi.map (Value.int kh)) none).run P W=
  .ok (.slice (if cap=(lo.getD 0).toNat then ad else ad.map (·.add ((lo.getD 0).toNat*i.size))) ((hi.getD len).toNat-(lo.getD 0).toNat) (cap-(lo.getD 0).toNat)) W:=by
 have hb:(Instr.sliceBounds true len cap (lo.map (Value.int kl)) (hi.map (Value.int kh)) none).run P W= .ok ((lo.getD 0).toNat,(hi.getD len).toNat,cap) W:=by
  cases lo <;> cases hi <;> simp only [Option.map_none,Option.map_some,Option.getD_none,Option.getD_some] at* <;>
   simp (disch:=omega) [Instr.sliceBounds,zWb,Sem.run_bind,Result.andThen]
 unfold Instr.sliceAt
 simp only [Sem.run_bind,run_underlying hu,Result.andThen]
 unfold Instr.slice
 simp only [Sem.run_bind,run_underlying hu,Result.andThen,hb,zBL hi']
 rfl
theorem zVU (R:Rel P Γ N S ρ a w) {t:TypeId} {x d:DV} {vc:Prop} {v:Value} {kl kh:IntKind} {lo hi:Option Int} (hx:zAU (MS N S.h ρ) w x ρ v) (h:zd8 P t x lo hi=some (d,vc)) (hv:vc):
 Yl P N w (MS N S.h ρ) ρ (Instr.sliceAt t v (lo.map (Value.int kl)) (hi.map (Value.int kh)) none) d:=by
 unfold zd8 at h
 split at h
 ·rename_i e hu
  split at h
  ·rename_i i hi'
   have gd: ∀ {α:Type} (l:List α) (q c j:Nat) (d:α),j<((l.take c).drop q).length→((l.take c).drop q).getD j d=l.getD (q+j) d:=fun l q c j d hj=>by
    simp only [List.length_drop,List.length_take] at hj
    simp only [List.getD_eq_getElem?_getD,List.getElem?_drop,List.getElem?_take]
    rw [if_pos (by omega)]
   split at h
   ·rename_i l
    split at h
    ·rename_i hs
     cases h
     obtain ⟨ad,cap,rfl,g1,g2,g3⟩:=hx
     obtain ⟨v1,v2,v3⟩:=hv
     have hl:((l.take (hi.getD l.length).toNat).drop (lo.getD 0).toNat).length=(hi.getD l.length).toNat-(lo.getD 0).toNat:=by simp;omega
     refine Yl.pure (fun W=>zNY hu hi' v1 v2 v3 g1 W) ⟨_,_,by rw [hl],by omega,by omega,fun j hj=>?_⟩
     have hj':=hj
     rw [hl] at hj'
     obtain ⟨b,o,rfl,q1,q2⟩:=g3 ((lo.getD 0).toNat+j) (by omega)
     refine ⟨b,o+(lo.getD 0).toNat,?_,q1,?_⟩
     ·rw [if_neg (by omega)];simp only [Option.map_some,zCf,hs,Nat.mul_one]
     ·rw [gd _ _ _ _ _ hj,Nat.add_assoc];exact q2
    ·cases h
   ·rename_i l
    split at h
    ·rename_i hs
     cases h
     obtain ⟨ad,cap,rfl,g1,g2,g3⟩:=hx
     obtain ⟨v1,v2,v3⟩:=hv
     have hl:((l.take (hi.getD l.length).toNat).drop (lo.getD 0).toNat).length=(hi.getD l.length).toNat-(lo.getD 0).toNat:=by simp;omega
     refine Yl.pure (fun W=>zNY hu hi' v1 v2 v3 g1 W) ⟨_,_,by rw [hl],by omega,by omega,fun j hj=>?_⟩
     have hj':=hj
     rw [hl] at hj'
     obtain ⟨b,o,rfl,q1,q2⟩:=g3 ((lo.getD 0).toNat+j) (by omega)
     refine ⟨b,o+(lo.getD 0).toNat,?_,q1,?_⟩
     ·rw [if_neg (by omega)];simp only [Option.map_some,zCf,hs,Nat.mul_one]
     ·rw [gd _ _ _ _ _ hj,Nat.add_assoc];exact q2
    ·cases h
   ·rename_i m n f
    split at h
    ·rename_i hs
     cases h
     obtain ⟨ad,cap,rfl,g1,g2,g3⟩:=hx
     obtain ⟨v1,v2,v3⟩:=hv
     refine Yl.pure (fun W=>zNY hu hi' v1 v2 v3 g1 W) ⟨_,_,rfl,by omega,by omega,fun i1 j hi1 hj=>?_⟩
     obtain ⟨b,o,u,rfl,q1,q2,q3⟩:=g3 ((lo.getD 0).toNat+i1) j (by omega) hj
     refine ⟨b,o+(lo.getD 0).toNat*m,u,?_,q1,?_,q3⟩
     ·rw [if_neg (by omega)];simp only [Option.map_some,zCf,hs]
     ·rw [Nat.add_mul,Nat.add_assoc] at q2;rw [Nat.add_assoc];exact q2
    ·cases h
   ·rename_i k m off n
    split at h
    ·rename_i hs
     cases h
     obtain ⟨p,cap,hp,rfl,g1,g2,g3⟩:=hx
     obtain ⟨v1,v2,v3⟩:=hv
     have hle:(lo.getD 0).toNat≤cap:=by omega
     refine Yl.pure (fun W=>zNY hu hi' v1 v2 v3 g1 W) ⟨p,_,cap-(lo.getD 0).toNat,hp,rfl,by omega,by omega,fun hc=>⟨?_,?_⟩⟩
     ·rw [if_neg (by omega)];simp only [Option.map_some,zCf,hs,Nat.add_mul,Nat.add_assoc]
     ·have:cap*m=(lo.getD 0).toNat*m+(cap-(lo.getD 0).toNat)*m:=by rw [←Nat.add_mul];congr 1;omega
      rw [Nat.add_mul];omega
    ·cases h
   ·cases h
  ·cases h
 ·cases h
theorem zFL {e:TypeId} {k':IntKind} {i:TypeInfo} {n d:Nat} {xs ys:Array Value} {f g:Nat→DV} {M:Nat→Prop} (hi:P.info? e=some i) (hs:i.size=1) (h1:zS6 P e=true) (hk:P.underlying e=some (.int k')) (hx:xs.size=n) (hy:ys.size=n)
 (rx: ∀ j,j<n→∃ u,xs[j]? =some u∧zAU M w (f j) ρ u) (ry: ∀ j,j<n→∃ u,ys[j]? =some u∧zAU M w (g j) ρ u) (hI: ∀ j,j<n→isI (f j)=true∧isI (g j)=true):
 ∀ (is:List Nat),(∀ j∈is,j<n)→∀ W,Keep N w W→(Op.eqItems (d+1) e 1 xs ys is).run P W= .ok (zVR f g is) W
 | [],_,W,_=>rfl
 | j::is,hb,W,hE=>by
  have hj:j<n:=hb j (by simp)
  have part1: ∀ {cs:Array Value} {f:Nat→DV},cs.size=n→(∀ j,j<n→∃ u,cs[j]? =some u∧zAU M w (f j) ρ u)→isI (f j)=true→(part e cs (j*1)).run P W= .ok (.int .i64 (zVl (f j))) W:=by
   intro cs f hc hr hf
   have hp:zRZ P e n f (j*1) 1=some (f j):=by
    unfold zRZ
    rw [if_pos (by omega),if_pos h1,if_pos rfl,Nat.mul_one]
   obtain ⟨u,g1,g2⟩:=zNX (P:=P) hi hs hc hr hp
   rw [g1 W hE,zOH hf g2]
  simp only [Op.eqItems,Sem.run_bind,part1 hx rx (hI j hj).1,part1 hy ry (hI j hj).2,Result.andThen,run_equalIn_int W d e .i64 k' _ _ hk]
  unfold zVR
  cases hq:(zVl (f j)==zVl (g j)) with
  | false=>rfl
  | true=>
   simp only [Bool.not_true,Bool.false_eq_true,if_false,Bool.true_and]
   exact zFL hi hs h1 hk hx hy rx ry hI is (fun j hj=>hb j (by simp [hj])) W hE
theorem zVQ {M:Nat→Prop} {op:BinOp} {t:TypeId} {x y:DV} {vx vy:Value} {d:DV} {vc:Prop} (ox oy:Operand) (hx:zAU M w x ρ vx) (hy:zAU M w y ρ vy) (h:zdC P op t x y=some (d,vc)):
 Yl P N w M ρ (do eqGuard op t ox oy vx vy;binOp op t vx vy) d:=by
 have key: ∀ {m m':Nat} {f g:Nat→DV} {is:List Nat} {xs ys:Array Value},zdi P t f g m m'=some is→xs.size=m→ys.size=m'→(∀ j,j<m→∃ u,xs[j]? =some u∧zAU M w (f j) ρ u)→(∀ j,j<m'→∃ u,ys[j]? =some u∧zAU M w (g j) ρ u)→
  P.eqGuardType P.depth t=false∧∀ W,Keep N w W→(Op.equalIn 10000 t (.agg xs) (.agg ys)).run P W= .ok (zVR f g is) W:=by
  intro m m' f g is xs ys hb sx sy rx ry
  unfold zdi at hb
  split at hb
  ·rename_i n e hu
   split at hb
   ·rename_i i hi
    split at hb
    ·rename_i k' hk
     split at hb
     ·rename_i hc
      cases hb
      simp only [Bool.and_eq_true,beq_iff_eq,List.all_eq_true,List.mem_range] at hc
      obtain ⟨⟨⟨⟨⟨c1,c2⟩,c3⟩,c4⟩,c5⟩,c6⟩:=hc
      subst c4;subst c5
      refine ⟨c3,fun W hE=>?_⟩
      have hcell:P.cellsOf e=1:=by unfold Program.cellsOf;rw [hi];exact c1
      rw [run_equalIn_array W 9999 xs ys hu hi,hcell]
      exact zFL (d:=9998) hi c1 c2 hk sx sy rx ry c6 _ (fun j hj=>List.mem_range.1 hj) W hE
     ·cases hb
    ·cases hb
   ·cases hb
  ·cases hb
 unfold zdC at h
 split at h
 ·rename_i m f m' g
  split at h
  ·rename_i is hb
   cases h
   obtain ⟨xs,rfl,sx,rx⟩:=hx
   obtain ⟨ys,rfl,sy,ry⟩:=hy
   obtain ⟨k1,k2⟩:=key hb sx sy rx ry
   refine ⟨.bool _,fun W hE=>?_,rfl⟩
   simp only [Sem.run_bind,run_eqGuard_agg W .eql t ox oy xs ys k1,Result.andThen,run_eql_struct,k2 W hE]
  ·cases h
 ·rename_i m f m' g
  split at h
  ·rename_i is hb
   cases h
   obtain ⟨xs,rfl,sx,rx⟩:=hx
   obtain ⟨ys,rfl,sy,ry⟩:=hy
   obtain ⟨k1,k2⟩:=key hb sx sy rx ry
   refine ⟨.bool _,fun W hE=>?_,rfl⟩
   simp only [Sem.run_bind,run_eqGuard_agg W .neq t ox oy xs ys k1,Result.andThen,run_neq_struct,k2 W hE]
  ·cases h
 ·cases h
theorem zUY (R:Rel P Γ N S ρ a w) (o:Oper) {d:DV} {vc:Prop} (h:zcp P S o.op=some (d,vc)) (hv:vc):
 ∃ v,(∀ W,Keep N w W→(execOp a.eval o).run P W= .ok (.value v) W)∧zAU (MS N S.h ρ) w d ρ v:=by
 unfold zcp at h
 split at h
 ·rename_i t parts ho
  exact zAi (by unfold execOp;rw [ho]) (zUf R h)
 ·rename_i t x i ho
  have hi:=zAX R i
  split at h
  ·rename_i k n e
   rw [e] at hi
   refine zAi (s:=Instr.index t (a.eval x) (a.eval i)) (by unfold execOp;rw [ho]) ?_
   rw [show a.eval i=_ from hi]
   exact zXx R (zAX R x) h hv
  ·cases h
 ·rename_i t x f ho
  exact zAi (s:=Instr.field t (a.eval x) f) (by unfold execOp;rw [ho]) (zVO R (zAX R x) h)
 ·rename_i t x lo hi ho
  split at h
  ·rename_i l hl
   split at h
   ·rename_i hh hhh
    obtain ⟨k1,e1⟩:=zTJ R hl
    obtain ⟨k2,e2⟩:=zTJ R hhh
    refine zAi (s:=Instr.sliceAt t (a.eval x) (lo.map a.eval) (hi.map a.eval) none) (by unfold execOp;rw [ho];rfl) ?_
    rw [e1,e2]
    exact zVU R (zAX R x) h hv
   ·cases h
  ·cases h
 ·rename_i op t x y t' ho
  split at h
  ·rename_i r hr
   cases h
   exact zAi (by unfold execOp;rw [ho]) (zVQ x y (zAX R x) (zAX R y) hr)
  ·rw [←ho] at h;exact zPn R o h hv
 ·exact zPn R o h hv
end
end Go.Proofs.YtekkngkphejfcaaGreatDoor
namespace Go.Proofs.YtekkngkphejfcaaGreatDoor
open Go.RowKit
def zDk:List Prop→Prop
 | []=>True
 | p::ps=>p∧zDk ps
theorem zAO {l l':List Prop}:zDk (l++l')↔zDk l∧zDk l':=by
 induction l with
 | nil=>simp [zDk]
 | cons p ps ih=>simp [zDk,ih,and_assoc]
def DLe (d d':DV):Prop:=∀ (M:Nat→Prop) (w:World) (ρ:List zAJ) (v:Value),zAU M w d ρ v→zAU M w d' ρ v
section
variable {P:Program} {Γ:Glo} {N:Nat→Prop}
theorem zA7 {w:World} {M M':Nat→Prop} (h: ∀ b,M' b→M b) (ρ:List zAJ):zDW M w ρ M' w ρ:=⟨fun _ _ _ _=>rfl,fun b hb=>.inl (h b hb),fun _ _ h=>h⟩
def zdf:DO→Option (Nat×Nat×DV)
 | .ints l=>some (1,l.length,.ints l)
 | .bools l=>some (1,l.length,.bools l)
 | .arr m n f=>some (m,n,.sl m n f)
 | _=>none
def zbG (k m:Nat) (v:DV):DV→DV
 | .msl k' m' off n=>if k'=k∧m'=m∧off=0 then v else .msl k' m' off n
 | d=>d
def zdA (k m n:Nat):DV→List Prop
 | .msl k' m' off n'=>if k'=k∧m'=m∧off=0 then [n'=n] else []
 | _=>[]
def zdg (k m:Nat) (v:DV):Option DO→Option DO
 | some (.cells l)=>some (.cells (l.map (zbG k m v)))
 | o=>o
def zc9 (k m n:Nat):Option DO→List Prop
 | some (.cells l)=>l.flatMap (zdA k m n)
 | _=>[]
def zYP (k m:Nat) (v:DV) (S:St):St:=⟨S.fr.map (zbG k m v),(S.h.set k none).map (zdg k m v)⟩
theorem zTg {l:List DV} {f:DV→List Prop} (h:zDk (l.flatMap f)) {d:DV} (hd:d∈l):zDk (f d):=by
 induction l with
 | nil=>simp at hd
 | cons x l ih=>
  rw [List.flatMap_cons] at h
  obtain ⟨h1,h2⟩:=zAO.1 h
  rcases List.mem_cons.1 hd with rfl | hd
  ·exact h1
  ·exact ih h2 hd
theorem zYw {l:List (Option DO)} {f:Option DO→List Prop} (h:zDk (l.flatMap f)) {d:Option DO} (hd:d∈l):zDk (f d):=by
 induction l with
 | nil=>simp at hd
 | cons x l ih=>
  rw [List.flatMap_cons] at h
  obtain ⟨h1,h2⟩:=zAO.1 h
  rcases List.mem_cons.1 hd with rfl | hd
  ·exact h1
  ·exact ih h2 hd
theorem zah {M M':Nat→Prop} {w:World} {ρ:List zAJ} {p:zAJ} {o:DO} {m n:Nat} {v:DV} (ho:zdf o=some (m,n,v)) (hr:zBf P M w ρ p o) (hN: ¬ M' p.blk) (hM: ∀ b,M' b→M b) {u:Value} {cap:Nat} (hu:u= .slice (some ⟨p.blk,p.off+0*m,none⟩) n cap) (h1:n≤cap) (h2:n≤LB):zAU M' w v ρ u:=by
 cases o with
 | cells l=>cases ho
 | iter e=>cases ho
 | mo x=>cases ho
 | ints l=>
  cases ho
  refine ⟨_,cap,hu,h1,h2,fun j hj=>⟨p.blk,p.off,by simp,hN,?_⟩⟩
  obtain ⟨x,e1,e2⟩:=zAP.cell hr hj
  rw [e1,e2]
 | bools l=>
  cases ho
  refine ⟨_,cap,hu,h1,h2,fun j hj=>⟨p.blk,p.off,by simp,hN,?_⟩⟩
  obtain ⟨x,e1,e2⟩:=zAP.cell hr hj
  rw [e1,e2]
 | arr m n f=>
  cases ho
  refine ⟨_,cap,hu,h1,h2,fun i j hi hj=>?_⟩
  have hlt:i*m+j<n*m:=Nat.lt_of_lt_of_le (by rw [Nat.succ_mul];omega:i*m+j<(i+1)*m) (Nat.mul_le_mul_right m hi)
  obtain ⟨x,e1,e2⟩:=zAP.cell hr hlt
  have hm:0<m:=by omega
  have d1:(i*m+j)/m=i:=by rw [Nat.mul_comm,Nat.mul_add_div hm];simp [Nat.div_eq_of_lt hj]
  have d2:(i*m+j) % m=j:=by rw [Nat.mul_comm,Nat.mul_add_mod];exact Nat.mod_eq_of_lt hj
  rw [d1,d2] at e2
  exact ⟨p.blk,p.off,x,by simp,hN,e1,zAU.out _ (zA7 hM []) e2⟩
theorem zYO {M:Nat→Prop} {w:World} {ρ:List zAJ} {p:zAJ} {o:DO} {m n:Nat} {v:DV} (ho:zdf o=some (m,n,v)) (hr:zBf P M w ρ p o):p.foot=fun b=>b=p.blk:=by
 cases o with
 | cells l=>cases ho
 | iter e=>cases ho
 | mo x=>cases ho
 | ints l=>exact hr.1
 | bools l=>exact hr.1
 | arr m n f=>exact hr.1
theorem zLm {k m:Nat} {v:DV} {h:DH} {i:Nat} {o':DO} (hi:((h.set k none).map (zdg k m v))[i]? =some (some o')):i≠k∧∃ o,h[i]? =some (some o)∧zdg k m v (some o)=some o':=by
 rw [List.getElem?_map] at hi
 cases hx:(h.set k none)[i]? with
 | none=>rw [hx] at hi;cases hi
 | some x=>
  rw [hx] at hi
  have hi:zdg k m v x=some o':=Option.some.inj hi
  cases x with
  | none=>cases hi
  | some o=>exact ⟨(zBT hx).1,o,(zBT hx).2,hi⟩
def SLp (S S':St):Prop:=∀ (P:Program) (Γ:Glo) (N:Nat→Prop) (ρ:List zAJ) (a:Act) (w:World),Rel P Γ N S ρ a w→Rel P Γ N S' ρ a w∧zCH S.h ρ w S'.h ρ w
theorem SLp.frz {S:St} (k:Nat) {o:DO} {m n:Nat} {v:DV} (hk:S.h[k]? =some (some o)) (ho:zdf o=some (m,n,v)) (hc:zDk (S.fr.flatMap (zdA k m n))) (hc2:zDk (S.h.flatMap (zc9 k m n))):SLp S (zYP k m v S):=fun P Γ N ρ a w R=>by
 obtain ⟨p,hp,hr⟩:=R.hr.obj k _ hk
 have hfoot:p.foot=fun b=>b=p.blk:=zYO ho hr
 have hMO: ∀ b,MO (zYP k m v S).h ρ b→∃ i o p',i≠k∧S.h[i]? =some (some o)∧ρ[i]? =some p'∧p'.foot b:=by
  rintro b ⟨i,o',p',g1,g2,g3⟩
  obtain ⟨e1,o2,e2,_⟩:=zLm g1
  exact ⟨i,o2,p',e1,e2,g2,g3⟩
 have hN: ¬ MS N (zYP k m v S).h ρ p.blk:=by
  rintro (hn | hb)
  ·exact (R.hr.cel k _ p p.blk hk hp (by rw [hfoot])).2.1 hn
  ·obtain ⟨i,o2,p',e1,e2,g2,g3⟩:=hMO _ hb
   exact R.hr.dis i k _ _ p' p p.blk e1 e2 hk g2 hp g3 (by rw [hfoot])
 have hM: ∀ b,MS N (zYP k m v S).h ρ b→MS N S.h ρ b:=fun b hb=>hb.imp id fun hb=>by
  obtain ⟨i,o2,p',_,e2,g2,g3⟩:=hMO _ hb
  exact ⟨i,o2,p',e2,g2,g3⟩
 have conv: ∀ (d:DV) (u:Value),zDk (zdA k m n d)→zAU (MS N S.h ρ) w d ρ u→zAU (MS N (zYP k m v S).h ρ) w (zbG k m v d) ρ u:=by
  intro d u hcd hd
  cases d with
  | msl k' m' off n'=>
   simp only [zdA,zbG] at hcd ⊢
   split at hcd
   ·rename_i e
    obtain ⟨rfl,rfl,rfl⟩:=e
    rw [if_pos ⟨rfl,rfl,rfl⟩]
    obtain ⟨p',cap,hp',e,g1,g2,_⟩:=hd
    have ep:p'=p:=Option.some.inj (hp'.symm.trans hp)
    subst ep
    have en:=hcd.1
    subst en
    exact zah ho hr hN hM e g1 g2
   ·rename_i e
    rw [if_neg e]
    exact zAU.out _ (zA7 hM ρ) hd
  | _=>exact zAU.out _ (zA7 hM ρ) hd
 refine ⟨⟨⟨by simp [zYP,R.hr.len],fun i o' hi=>?_,fun i o' p' b g1 g2 g3=>?_,fun i i' o1 o2 p1 p2 b hne g1 g2 g3 g4 g5 g6=>?_,R.hr.nlt,R.hr.gi⟩,⟨by simp [zYP,R.fr.1],fun i hi=>?_⟩⟩,⟨Upd.refl _ w,fun b hb=>.inl ?_⟩⟩
 ·obtain ⟨e1,o2,e2,e3⟩:=zLm hi
  obtain ⟨p',hp',hr'⟩:=R.hr.obj i o2 e2
  refine ⟨p',hp',?_⟩
  cases o2 with
  | cells l=>
   cases e3
   show zAP w p' (l.map (zbG k m v)).length _
   rw [List.length_map]
   refine zAP.out hr' rfl fun j u hj hu=>?_
   have:(l.map (zbG k m v)).getD j .any=zbG k m v (l.getD j .any):=by simp [hj]
   rw [this]
   refine conv _ _ ?_ hu
   have hm1:some (DO.cells l)∈S.h:=List.mem_of_getElem? e2
   have:=zYw hc2 hm1
   exact zTg (l:=l) this (by simp [hj])
  | ints l=>cases e3;exact zAP.out hr' rfl fun j u _ hu=>hu
  | bools l=>cases e3;exact zAP.out hr' rfl fun j u _ hu=>hu
  | arr m n f=>cases e3;exact zAP.out hr' rfl fun j u _ hu=>zAU.out _ (zA7 hM []) hu
  | iter encs=>
   cases e3
   obtain ⟨gf,lb,Rd,q1,q2,q3,q4⟩:=hr'
   exact ⟨gf,lb,Rd,q1,q2,fun b hb=>⟨fun hm=>(q3 b hb).1 (hM b hm),(q3 b hb).2⟩,q4⟩
  | mo x=>cases e3;exact hr'
 ·obtain ⟨e1,o2,e2,e3⟩:=zLm g1
  obtain ⟨q1,q2,q3⟩:=R.hr.cel i o2 p' b e2 g2 g3
  exact ⟨q1,q2,q3⟩
 ·obtain ⟨e1,o3,e2,_⟩:=zLm g1
  obtain ⟨e1',o4,e2',_⟩:=zLm g2
  exact R.hr.dis i i' o3 o4 p1 p2 b hne e2 e2' g3 g4 g5 g6
 ·have hi':i<S.fr.length:=by simpa [zYP] using hi
  have:(zYP k m v S).fr.getD i .any=zbG k m v (S.fr.getD i .any):=by simp [zYP,hi']
  rw [this]
  refine conv _ _ (zTg hc (by simp [hi'])) (R.fr.2 i hi')
 ·obtain ⟨i,o2,p',_,e2,g2,g3⟩:=hMO _ hb
  exact ⟨i,o2,p',e2,g2,g3⟩
def zc8 (k:Nat) (S:St):Option (St×List Prop):=match S.h.getD k none with
 | some o=>match zdf o with
  | some (m,n,v)=>some (zYP k m v S,S.fr.flatMap (zdA k m n)++S.h.flatMap (zc9 k m n))
  | none=>none
 | none=>none
theorem SLp.frzE {S:St} (k:Nat) (S':St) (vs:List Prop) (h:zc8 k S=some (S',vs)) (hv:zDk vs):SLp S S':=by
 unfold zc8 at h
 split at h
 ·rename_i o ho
  split at h
  ·rename_i m n v hf
   cases h
   obtain ⟨h1,h2⟩:=zAO.1 hv
   refine SLp.frz k ?_ hf h1 h2
   rw [List.getD_eq_getElem?_getD] at ho
   cases hx:S.h[k]? with
   | none=>rw [hx] at ho;cases ho
   | some x=>rw [hx] at ho;exact congrArg some ho
  ·cases h
 ·cases h
theorem SLp.refl (S:St):SLp S S:=fun _ _ _ _ _ _ R=>⟨R,zCH.refl _ _ _⟩
theorem SLp.trans {A B C:St} (h:SLp A B) (k:SLp B C):SLp A C:=fun P Γ N ρ a w R=>by
 obtain ⟨R1,s1⟩:=h P Γ N ρ a w R
 obtain ⟨R2,s2⟩:=k P Γ N ρ a w R1
 exact ⟨R2,s1.trans s2⟩
theorem MO.put {h:DH} {ρ:List zAJ} {k:Nat} {o o':DO} (hk:h[k]? =some (some o)) {b:Nat}:MO (h.set k (some o')) ρ b↔MO h ρ b:=by
 have hlt:=(List.getElem?_eq_some_iff.1 hk).1
 constructor
 ·rintro ⟨i,x,p,h1,h2,h3⟩
  rw [List.getElem?_set] at h1
  by_cases e:k=i
  ·subst e;exact ⟨k,o,p,hk,h2,h3⟩
  ·rw [if_neg e] at h1;exact ⟨i,x,p,h1,h2,h3⟩
 ·rintro ⟨i,x,p,h1,h2,h3⟩
  by_cases e:k=i
  ·subst e;exact ⟨k,o',p,by simp [hlt],h2,h3⟩
  ·exact ⟨i,x,p,by rw [List.getElem?_set,if_neg e];exact h1,h2,h3⟩
theorem SLp.obj {S:St} {k:Nat} {o o':DO} (hk:S.h[k]? =some (some o)) (hO: ∀ (P:Program) (M:Nat→Prop) (w:World) (ρ:List zAJ) (p:zAJ),zBf P M w ρ p o→zBf P M w ρ p o'):SLp S ⟨S.fr,S.h.set k (some o')⟩:=fun P Γ N ρ a w R=>by
 have hM: ∀ b,MS N (S.h.set k (some o')) ρ b↔MS N S.h ρ b:=fun b=>or_congr Iff.rfl (MO.put hk)
 have back: ∀ {i:Nat} {x:DO},(S.h.set k (some o'))[i]? =some (some x)→∃ y,S.h[i]? =some (some y)∧(i=k∧x=o'∨y=x):=by
  intro i x hi
  rw [List.getElem?_set] at hi
  by_cases e:k=i
  ·subst e
   rw [if_pos rfl,if_pos (List.getElem?_eq_some_iff.1 hk).1] at hi
   cases hi
   exact ⟨o,hk,.inl ⟨rfl,rfl⟩⟩
  ·rw [if_neg e] at hi;exact ⟨x,hi,.inr rfl⟩
 have O:zDW (MS N S.h ρ) w ρ (MS N (S.h.set k (some o')) ρ) w ρ:=zA7 (fun b hb=>(hM b).1 hb) ρ
 refine ⟨⟨⟨by simp [R.hr.len],fun i x hi=>?_,fun i x p b g1 g2 g3=>?_,fun i i' o1 o2 p1 p2 b hne g1 g2 g3 g4 g5 g6=>?_,R.hr.nlt,R.hr.gi⟩,R.fr.out O⟩,⟨Upd.refl _ w,fun b hb=>.inl ((MO.put hk).1 hb)⟩⟩
 ·rw [List.getElem?_set] at hi
  by_cases e:k=i
  ·subst e
   rw [if_pos rfl,if_pos (List.getElem?_eq_some_iff.1 hk).1] at hi
   cases hi
   obtain ⟨p,hp,hr⟩:=R.hr.obj k o hk
   exact ⟨p,hp,hO P _ w ρ p (hr.out O (S:=fun _=>False) (Upd.refl _ _) (fun _ h=>h.elim) fun _ _ _ h=>h)⟩
  ·rw [if_neg e] at hi
   obtain ⟨p,hp,hr⟩:=R.hr.obj i x hi
   exact ⟨p,hp,hr.out O (S:=fun _=>False) (Upd.refl _ _) (fun _ h=>h.elim) fun _ _ _ h=>h⟩
 ·obtain ⟨y,e,_⟩:=back g1
  exact R.hr.cel i y p b e g2 g3
 ·obtain ⟨y1,e1,_⟩:=back g1
  obtain ⟨y2,e2,_⟩:=back g2
  exact R.hr.dis i i' y1 y2 p1 p2 b hne e1 e2 g3 g4 g5 g6
inductive Fz where
 | frz (k:Nat)
 | arr (k n:Nat) (f:Nat→Nat→DV)
def zeN (k n':Nat) (f':Nat→Nat→DV) (S:St):Option (St×List Prop):=match S.h.getD k none with
 | some (.arr m n f)=>some (⟨S.fr,S.h.set k (some (.arr m n' f'))⟩,[n=n'∧∀ i j,i<n→j<m→DLe (f i j) (f' i j)])
 | _=>none
def fzX:Fz→St→Option (St×List Prop)
 | .frz k,S=>zc8 k S
 | .arr k n f,S=>zeN k n f S
theorem getD_some {h:DH} {k:Nat} {o:DO} (ho:h.getD k none=some o):h[k]? =some (some o):=by
 rw [List.getD_eq_getElem?_getD] at ho
 cases hx:h[k]? with
 | none=>rw [hx] at ho;cases ho
 | some x=>rw [hx] at ho;exact congrArg some ho
theorem SLp.fz {S:St} (z:Fz) (S':St) (vs:List Prop) (h:fzX z S=some (S',vs)) (hv:zDk vs):SLp S S':=by
 cases z with
 | frz k=>exact SLp.frzE k S' vs h hv
 | arr k n' f'=>
  simp only [fzX,zeN] at h
  split at h
  ·rename_i m n f ho
   cases h
   obtain ⟨⟨rfl,hd⟩,_⟩:=hv
   refine SLp.obj (getD_some ho) fun P M w ρ p hr=>?_
   refine zAP.out hr rfl fun j u hj hu=>?_
   have hm:0<m:=by
    rcases Nat.eq_zero_or_pos m with e | e
    ·subst e;omega
    ·exact e
   exact hd _ _ ((Nat.div_lt_iff_lt_mul hm).2 hj) (Nat.mod_lt _ hm) M w [] u hu
  ·cases h
def zde:List (Nat×Fz)→Option Nat→St→Option (St×List Prop×List (Nat×Fz))
 | [],_,S=>some (S,[],[])
 | (t,z)::rest,dst,S=>if dst=some t then match fzX z S with
  | some (S',vs)=>match zde rest dst S' with
   | some (S'',vs',r)=>some (S'',vs++vs',r)
   | none=>none
  | none=>none
  else some (S,[],(t,z)::rest)
theorem zI0: ∀ (l:List (Nat×Fz)) {dst:Option Nat} {S S':St} {vs:List Prop} {r:List (Nat×Fz)},zde l dst S=some (S',vs,r)→zDk vs→SLp S S'
 | [],dst,S,S',vs,r,h,_=>by cases h;exact SLp.refl S
 | (t,z)::rest,dst,S,S',vs,r,h,hv=>by
  simp only [zde] at h
  split at h
  ·split at h
   ·rename_i S1 vs1 h1
    split at h
    ·rename_i S2 vs2 r2 h2
     cases h
     obtain ⟨hv1,hv2⟩:=zAO.1 hv
     exact (SLp.fz z S1 vs1 h1 hv1).trans (zI0 rest h2 hv2)
    ·cases h
   ·cases h
  ·cases h;exact SLp.refl S
abbrev zWc {α:Type} [Inhabited α] (enc:α→Nat→DV) (L:List α):Nat→Nat→DV:=fun i j=>enc (L.getD i default) j
theorem zCP {α:Type} [Inhabited α] {enc:α→Nat→DV} {L L':List α} {n m c:Nat} {g:Nat→Nat→DV} (hn:n=L.length) (hc:c=L'.length) (hg: ∀ i j,i<c→j<m→DLe (g i j) (zWc enc L' i j)):n+c=(L++L').length∧∀ i j,i<n+c→j<m→DLe (if i<n then zWc enc L i j else g (i-n) j) (zWc enc (L++L') i j):=by
 subst hn
 subst hc
 refine ⟨by simp,fun i j hi hj=>?_⟩
 simp only [zWc,List.getD_eq_getElem?_getD] at hg ⊢
 by_cases h:i<L.length
 ·rw [if_pos h,List.getElem?_append_left h];exact fun _ _ _ _ h=>h
 ·rw [if_neg h,List.getElem?_append_right (by omega)]
  exact hg _ j (by omega) hj
theorem zAD {d:DV}:DLe d d:=fun _ _ _ _ h=>h
theorem zaG {l:List DV} {m:Nat} (hl:l.all zXQ=true) (hm:m=l.length): ∀ j,j<m→zXQ (l.getD j .any)=true:=fun j hj=>by
 subst hm
 rw [List.getD_eq_getElem?_getD,List.getElem?_eq_getElem hj]
 exact List.all_eq_true.1 hl _ (List.getElem_mem hj)
def zQu:List DV→List DV→Prop
 | [],[]=>True
 | d::ds,e::es=>DLe d e∧zQu ds es
 | _,_=>False
theorem zIQ: ∀ {l l':List DV},zQu l l'→l.length=l'.length∧∀ j,j<l.length→DLe (l.getD j .any) (l'.getD j .any)
 | [],[],_=>⟨rfl,fun j hj=>absurd hj (Nat.not_lt_zero j)⟩
 | d::ds,e::es,⟨h1,h2⟩=>by
  obtain ⟨q1,q2⟩:=zIQ h2
  refine ⟨by simp [q1],fun j hj=>?_⟩
  cases j with
  | zero=>exact h1
  | succ j=>exact q2 j (by simpa using hj)
 | [],_::_,h=>h.elim
 | _::_,[],h=>h.elim
theorem zYx {l l':List DV} (h:zQu l l') (j:Nat):DLe (l.getD j .any) (l'.getD j .any):=by
 obtain ⟨h1,h2⟩:=zIQ h
 by_cases hj:j<l.length
 ·exact h2 j hj
 ·rw [List.getD_eq_getElem?_getD,List.getD_eq_getElem?_getD,List.getElem?_eq_none (by omega),List.getElem?_eq_none (by omega)]
  exact zAD
def zbo:List DV→List (List DV)→Prop
 | [],[]=>True
 | v::vs,c::cs=>(∃ l,zF8 v=some l∧zQu l c)∧zbo vs cs
 | _,_=>False
theorem zPG: ∀ {vs:List DV} {cs:List (List DV)},zbo vs cs→vs.length=cs.length∧∀ i,i<vs.length→∃ l,zF8 (vs.getD i .any)=some l∧zQu l (cs.getD i [])
 | [],[],_=>⟨rfl,fun i hi=>absurd hi (Nat.not_lt_zero i)⟩
 | v::vs,c::cs,⟨h1,h2⟩=>by
  obtain ⟨q1,q2⟩:=zPG h2
  refine ⟨by simp [q1],fun i hi=>?_⟩
  cases i with
  | zero=>exact h1
  | succ i=>exact q2 i (by simpa using hi)
 | [],_::_,h=>h.elim
 | _::_,[],h=>h.elim
theorem zAT {α:Type} [Inhabited α] {c:α→List DV} {L:List α} {vals:List DV} {m n:Nat} (hn:n=vals.length) (h:zbo vals (L.map c)):n=L.length∧∀ i j,i<n→j<m→DLe (match zF8 (vals.getD i .any) with | some l=>l.getD j .any | none=>.any) (zWc (fun x j=>(c x).getD j .any) L i j):=by
 subst hn
 obtain ⟨h1,h2⟩:=zPG h
 rw [List.length_map] at h1
 refine ⟨h1,fun i j hi _=>?_⟩
 obtain ⟨l,e,hl⟩:=h2 i hi
 rw [e]
 have:(L.map c).getD i []=c (L.getD i default):=by simp [List.getD_eq_getElem?_getD,h1▸hi]
 rw [this] at hl
 exact zYx hl j
end
end Go.Proofs.YtekkngkphejfcaaGreatDoor
namespace Go.Proofs.YtekkngkphejfcaaGreatDoor
open Go.RowKit
def zdb (P:Program) (t:TypeId):Bool:=match P.underlying t with
 | some (.int .i64)=>true
 | _=>false
theorem zP8 {P:Program} {t:TypeId} (h:zdb P t=true):P.underlying t=some (.int .i64):=by
 unfold zdb at h
 split at h
 ·assumption
 ·cases h
def zXw (P:Program) (t:TypeId):Option Nat:=match P.underlying t with
 | some (.int .i64)=>some 1
 | some (.struct fs)=>match fs.toList with
  | [f,g]=>if f.name != "_" &&g.name != "_" &&decide (f.offset=0)&&decide (g.offset=1)&&zdb P f.type&&zdb P g.type&&!P.stoodInHeld t then some 2 else none
  | _=>none
 | _=>none
section
variable {P:Program} {w:World} {t:TypeId}
theorem zGY {n:Nat} (h:zXw P t=some n):(n=1∧P.underlying t=some (.int .i64))∨∃ f g fs,n=2∧P.underlying t=some (.struct fs)∧fs.toList= [f,g]∧f.name≠ "_" ∧g.name≠ "_" ∧f.offset=0∧g.offset=1∧P.underlying f.type=some (.int .i64)∧P.underlying g.type=some (.int .i64)∧P.stoodInHeld t=false:=by
 unfold zXw at h
 split at h
 ·exact .inl ⟨(Option.some.inj h).symm,by assumption⟩
 ·rename_i fs hu
  split at h
  ·rename_i f g hf
   split at h
   ·rename_i hc
    simp only [Bool.and_eq_true,bne_iff_ne,ne_eq,decide_eq_true_eq,Bool.not_eq_true'] at hc
    obtain ⟨⟨⟨⟨⟨⟨h1,h2⟩,h3⟩,h4⟩,h5⟩,h6⟩,h7⟩:=hc
    exact .inr ⟨f,g,fs,(Option.some.inj h).symm,hu,hf,h1,h2,h3,h4,zP8 h5,zP8 h6,h7⟩
   ·cases h
  ·cases h
 ·cases h
theorem zCB {t:TypeId} (h:P.underlying t=some (.int .i64)) (cs:Array Value) (o:Nat) (v:Value) (hv:cs[o]? =some v):(part t cs o).run P w= .ok v w:=by
 unfold part
 rw [Sem.run_bind,zEF h]
 simp [Result.andThen,zF0,h,hv]
theorem zOG {x:List Int} (h:x.length=2): ∃ a b,x= [a,b]:=by
 match x,h with
 | [a,b],_=>exact ⟨a,b,rfl⟩
theorem zHF {x:List Int} (h:x.length=1): ∃ a,x= [a]:=by
 match x,h with
 | [a],_=>exact ⟨a,rfl⟩
theorem zIA {n:Nat} (hk:zXw P t=some n) {x:List Int} (hx:x.length=n) (e:Bool):(Instr.checkKey e 10000 t (zCY x)).run P w= .ok () w:=by
 rcases zGY hk with ⟨rfl,hu⟩ | ⟨f,g,fs,rfl,hu,hf,n1,n2,o1,o2,t1,t2,_⟩
 ·obtain ⟨a,rfl⟩:=zHF hx
  exact MapKept.run_checkKey hu (by trivial) e 9999
 ·obtain ⟨a,b,rfl⟩:=zOG hx
  show (Instr.checkKey e (9999+1) t (.agg #[.int .i64 a,.int .i64 b])).run P w=_
  unfold Instr.checkKey
  have c1: ∀ a,(Instr.checkKey e 9999 f.type (.int .i64 a)).run P w= .ok () w:=fun a=>MapKept.run_checkKey t1 (by trivial) e 9998
  have c2: ∀ a,(Instr.checkKey e 9999 g.type (.int .i64 a)).run P w= .ok () w:=fun a=>MapKept.run_checkKey t2 (by trivial) e 9998
  simp only [Sem.run_bind,run_underlying hu,Result.andThen]
  rw [←Array.forIn_toList,hf]
  simp only [List.forIn_cons,List.forIn_nil,n1,n2,ne_eq,not_false_eq_true,if_true,o1,o2,Sem.run_bind]
  rw [zCB t1 _ 0 (.int .i64 a) rfl]
  simp only [Result.andThen,c1,Sem.run_pure,Sem.run_bind]
  rw [zCB t2 _ 1 (.int .i64 b) rfl]
  simp only [Result.andThen,c2,Sem.run_pure]
theorem zcz {n:Nat} (hk:zXw P t=some n) {x y:List Int} (hx:x.length=n) (hy:y.length=n):(Op.equal t (zCY x) (zCY y)).run P w= .ok (x==y) w:=by
 rcases zGY hk with ⟨rfl,hu⟩ | ⟨f,g,fs,rfl,hu,hf,n1,n2,o1,o2,t1,t2,hs⟩
 ·obtain ⟨a,rfl⟩:=zHF hx
  obtain ⟨b,rfl⟩:=zHF hy
  show (Op.equalIn (9999+1) t (.int .i64 a) (.int .i64 b)).run P w=_
  rw [run_equalIn_int w 9999 t .i64 .i64 a b hu]
  congr 1
  rw [Bool.eq_iff_iff];simp
 ·obtain ⟨a,b,rfl⟩:=zOG hx
  obtain ⟨c,d,rfl⟩:=zOG hy
  have hF:P.fieldsOf t=fs:=by unfold Program.fieldsOf;rw [hu]
  show (Op.equalIn (9999+1) t (.agg #[.int .i64 a,.int .i64 b]) (.agg #[.int .i64 c,.int .i64 d])).run P w=_
  rw [run_equalIn_struct w 9999 t _ _ (by rw [hF];exact hu) hs,hF,hf]
  have e1: ∀ a c:Int,(Op.equalIn 9999 f.type (.int .i64 a) (.int .i64 c)).run P w= .ok (a==c) w:=fun a c=>run_equalIn_int w 9998 f.type .i64 .i64 a c t1
  have e2: ∀ a c:Int,(Op.equalIn 9999 g.type (.int .i64 a) (.int .i64 c)).run P w= .ok (a==c) w:=fun a c=>run_equalIn_int w 9998 g.type .i64 .i64 a c t2
  simp only [Op.eqFields,n1,n2,ne_eq,not_false_eq_true,if_true,o1,o2,Sem.run_bind]
  rw [zCB t1 _ 0 (.int .i64 a) rfl]
  simp only [Result.andThen]
  rw [zCB t1 _ 0 (.int .i64 c) rfl]
  simp only [Result.andThen,e1,Sem.run_ite]
  by_cases h1:a=c
  ·subst h1
   simp only [beq_self_eq_true,Bool.not_true,Bool.false_eq_true,if_false,Sem.run_bind]
   rw [zCB t2 _ 1 (.int .i64 b) rfl]
   simp only [Result.andThen]
   rw [zCB t2 _ 1 (.int .i64 d) rfl]
   simp only [Result.andThen,e2,Sem.run_ite]
   by_cases h2:b=d
   ·subst h2;simp
   ·have:([a,b]== [a,d])=false:=by simp [h2]
    have h2':(b==d)=false:=by simp [h2]
    simp [h2',h2]
  ·have h1':(a==c)=false:=by simp [h1]
   simp [h1',h1]
theorem zac {n:Nat} (hk:zXw P t=some n) {x:List Int} (hx:x.length=n) {ks:KS} (hks: ∀ y∈ks,y.length=n) {es:List MapEntry} (he: ∀ e∈es,∃ y∈ks,e.key=zCY y):
 ((Instr.findKey t (zCY x) es).run P w= .ok none w∧∀ e∈es,e.key≠zCY x)∨∃ j e,(Instr.findKey t (zCY x) es).run P w= .ok (some (j,e.val)) w∧es[j]? =some e∧e.key=zCY x:=by
 have ask: ∀ (es:List MapEntry) (i:Nat),(∀ e∈es,∃ y∈ks,e.key=zCY y)→((Instr.findAsking t (zCY x) es i).run P w= .ok none w∧∀ e∈es,e.key≠zCY x)∨∃ j e,(Instr.findAsking t (zCY x) es i).run P w= .ok (some (i+j,e.val)) w∧es[j]? =some e∧e.key=zCY x:=by
  intro es
  induction es with
  | nil=>intro i _;exact .inl ⟨rfl,fun e he=>by cases he⟩
  | cons e es ih=>
   intro i he
   obtain ⟨y,hy,hy2⟩:=he e (by simp)
   have h1:(Op.equal t (zCY x) e.key).run P w= .ok (x==y) w:=by rw [hy2];exact zcz hk hx (hks y hy)
   by_cases hxy:x=y
   ·subst hxy
    exact .inr ⟨0,e,by simp [Instr.findAsking,h1,Result.andThen],rfl,hy2⟩
   ·have hf:(x==y)=false:=by simp [hxy]
    rcases ih (i+1) (fun e he'=>he e (by simp [he'])) with ⟨g1,g2⟩ | ⟨j,e',g1,g2,g3⟩
    ·refine .inl ⟨by simp [Instr.findAsking,h1,hf,Result.andThen,g1],fun e' he'=>?_⟩
     rcases List.mem_cons.1 he' with rfl | he'
     ·rw [hy2];exact fun h=>hxy (zTH h).symm
     ·exact g2 e' he'
    ·exact .inr ⟨j+1,e',by simp [Instr.findAsking,h1,hf,Result.andThen,g1];omega,by simpa using g2,g3⟩
 rcases zGY hk with ⟨rfl,hu⟩ | ⟨f,g,fs,rfl,hu,_⟩
 ·obtain ⟨a,rfl⟩:=zHF hx
  rcases MapKept.findNow_spec (d:=.int .i64) (k:=.int .i64 a) (by trivial) es 0 (fun e hm=>by
   obtain ⟨y,hy,hy2⟩:=he e hm
   obtain ⟨b,rfl⟩:=zHF (hks y hy)
   rw [hy2];trivial) with ⟨h1,h2⟩ | ⟨j,e,h1,h2,h3⟩
  ·exact .inl ⟨MapKept.run_findKey hu h1,h2⟩
  ·exact .inr ⟨j,e,by have:=MapKept.run_findKey (w:=w) hu h1;rw [Nat.zero_add] at this;exact this,h2,h3⟩
 ·have hn: ∀ es:List MapEntry,(∀ e∈es,∃ y∈ks,e.key=zCY y)→(Instr.findKey t (zCY x) es).run P w=(match es with | []=>.ok none w | _=>(Instr.findAsking t (zCY x) es 0).run P w):=fun es he=>by
   cases es with
   | nil=>simp [Instr.findKey,run_underlying hu,Instr.findNow,Result.andThen]
   | cons e es=>
    have:Instr.findNow (.struct fs) (zCY x) (e::es) 0=none:=by
     simp [Instr.findNow,Instr.sameNow]
    simp [Instr.findKey,run_underlying hu,this,Result.andThen]
  rw [hn es he]
  cases es with
  | nil=>exact .inl ⟨rfl,fun e he=>by cases he⟩
  | cons e es=>
   rcases ask (e::es) 0 he with h | ⟨j,e',g1,g2⟩
   ·exact .inl h
   ·exact .inr ⟨j,e',by simpa using g1,g2⟩
theorem zXu {n:Nat} (hk:zXw P t=some n) {x:List Int} (hx:x.length=n):(Instr.keyThatStays (zCY x) (zCY x)).run P w= .ok (zCY x) w:=by
 rcases zGY hk with ⟨rfl,hu⟩ | ⟨f,g,fs,rfl,hu,_⟩
 ·obtain ⟨a,rfl⟩:=zHF hx
  exact MapKept.run_keyThatStays (d:=.int .i64) (by trivial)
 ·obtain ⟨a,b,rfl⟩:=zOG hx
  have:Instr.sameBits 10000 (zCY [a,b]) (zCY [a,b])=true:=by
   show Instr.sameBits (9998+1+1) (.agg #[.int .i64 a,.int .i64 b]) (.agg #[.int .i64 a,.int .i64 b])=true
   simp [Instr.sameBits]
  simp [Instr.keyThatStays,this]
end
/-! ### Sets in order-/
def ltK:List Int→List Int→Bool
 | _,[]=>false
 | [],_::_=>true
 | a::r,b::s=>decide (a<b)||(a==b&&ltK r s)
def zdd (x:List Int):KS→KS
 | []=>[x]
 | y::r=>if ltK x y then x::y::r else y::zdd x r
def zFp (x:List Int) (l:KS):KS:=if l.contains x then l else zdd x l
theorem zP9 (x:List Int): ∀ l:KS,(zdd x l).Perm (x::l)
 | []=>List.Perm.refl _
 | y::r=>by
  unfold zdd
  split
  ·exact List.Perm.refl _
  ·exact ((zP9 x r).cons y).trans (List.Perm.swap x y r)
theorem zSz {x:List Int} {l:KS} (h:x∈l):zFp x l=l:=by unfold zFp;simp [h]
theorem zN1 {x:List Int} {l:KS} (h:x∉l):(zFp x l).Perm (x::l):=by unfold zFp;simp [h];exact zP9 x l
theorem zFB {x y:List Int} {l:KS}:y∈zFp x l↔y=x∨y∈l:=by
 by_cases h:x∈l
 ·rw [zSz h];exact ⟨.inr,fun h'=>h'.elim (fun e=>e▸h) id⟩
 ·rw [(zN1 h).mem_iff];simp
section
variable {P:Program} {w:World} {b n:Nat} {l:KS} {es:Array MapEntry} {clock:Nat}
theorem zEf.key (h:zEf w b n l es clock): ∀ e∈es.toList,∃ y∈l,e.key=zCY y:=fun e he=>by
 have:e.key∈es.toList.map (·.key):=List.mem_map.2 ⟨e,he,rfl⟩
 obtain ⟨y,h1,h2⟩:=List.mem_map.1 (h.keys.mem_iff.1 this)
 exact ⟨y,h1,h2.symm⟩
theorem zEf.has (h:zEf w b n l es clock) {x:List Int}:x∈l↔∃ e∈es.toList,e.key=zCY x:=by
 constructor
 ·intro hx
  have:zCY x∈l.map zCY:=List.mem_map.2 ⟨x,hx,rfl⟩
  obtain ⟨e,h1,h2⟩:=List.mem_map.1 (h.keys.mem_iff.2 this)
  exact ⟨e,h1,h2⟩
 ·rintro ⟨e,h1,h2⟩
  obtain ⟨y,h3,h4⟩:=h.key e h1
  exact zTH (h2.symm.trans h4)▸h3
theorem zEf.find (h:zEf w b n l es clock) {t:TypeId} (hk:zXw P t=some n) {x:List Int} (hx:x.length=n):
 (x∉l∧(Instr.findKey t (zCY x) es.toList).run P w= .ok none w)∨(x∈l∧∃ j e,(Instr.findKey t (zCY x) es.toList).run P w= .ok (some (j,.bool true)) w∧es[j]? =some e∧e.key=zCY x∧e.val= .bool true):=by
 rcases zac (w:=w) hk hx h.len h.key with ⟨h1,h2⟩ | ⟨j,e,h1,h2,h3⟩
 ·exact .inl ⟨fun hx=>by obtain ⟨e,g1,g2⟩:=h.has.1 hx;exact h2 e g1 g2,h1⟩
 ·have hm:e∈es.toList:=List.mem_of_getElem? h2
  have hv:=h.tru e hm
  exact .inr ⟨h.has.2 ⟨e,hm,h3⟩,j,e,by rw [←hv];exact h1,by simpa using h2,h3,hv⟩
theorem zIV {w:World} {b:Nat} (o:Obj):Upd (fun k=>k=b) w { w with heap:=w.heap.setIfInBounds b o }:=
 ⟨rfl,rfl,rfl,by simp,fun k _ hne=>by simp [Ne.symm hne]⟩
theorem zEf.put (h:zEf w b n l es clock) {mt kt et:TypeId} (hm:P.underlying mt=some (.map kt et)) (hk:zXw P kt=some n) {x:List Int} (hx:x.length=n):
 ∃ w' es' clock',(Instr.mapUpdate mt (.map (some b)) (zCY x) (.bool true)).run P w= .ok () w'∧Upd (fun k=>k=b) w w'∧zEf w' b n (zFp x l) es' clock':=by
 have hlt:b<w.heap.size:=(Array.getElem?_eq_some_iff.1 h.blk).1
 rcases h.find hk hx with ⟨h1,h2⟩ | ⟨h1,j,e,h2,h3,h4,h5⟩
 ·refine ⟨{ w with heap:=w.heap.setIfInBounds b (.map (es.push { key:=zCY x,val:=.bool true,born:=clock }) (clock+1)) },es.push { key:=zCY x,val:=.bool true,born:=clock },clock+1,?_,zIV _,?_⟩
  ·simp [Instr.mapUpdate,run_underlying hm,MapKept.run_getObj_map h.blk,zIA hk hx,h2,MapKept.run_setObj_map _ h.blk,Result.andThen]
  ·refine ⟨by simp [hlt],?_,((zN1 h1).nodup_iff).2 (List.nodup_cons.2 ⟨h1,h.nd⟩),fun y hy=>?_,fun e he=>?_,fun e he=>?_,?_⟩
   ·have e1:((es.push { key:=zCY x,val:=.bool true,born:=clock }).toList.map (·.key))=es.toList.map (·.key)++[zCY x]:=by simp
    rw [e1]
    refine (List.perm_append_comm).trans ?_
    show (zCY x::es.toList.map (·.key)).Perm _
    exact (h.keys.cons (zCY x)).trans (((zN1 h1).map zCY).symm)
   ·rcases zFB.1 hy with rfl | hy
    ·exact hx
    ·exact h.len y hy
   ·simp only [Array.toList_push,List.mem_append,List.mem_singleton] at he
    rcases he with he | rfl
    ·exact h.tru e he
    ·rfl
   ·simp only [Array.toList_push,List.mem_append,List.mem_singleton] at he
    rcases he with he | rfl
    ·exact Nat.lt_succ_of_lt (h.born e he)
    ·exact Nat.lt_succ_self _
   ·have e1:((es.push { key:=zCY x,val:=.bool true,born:=clock }).toList.map (·.born))=es.toList.map (·.born)++[clock]:=by simp
    rw [e1]
    refine List.nodup_append.2 ⟨h.stamps,by simp,fun a ha c hc=>?_⟩
    obtain ⟨e,g1,g2⟩:=List.mem_map.1 ha
    have:=h.born e g1
    simp at hc
    omega
 ·have hj:j<es.size:=(Array.getElem?_eq_some_iff.1 h3).1
  have hme:(es.modify j fun e=>{ e with key:=zCY x,val:=.bool true })=es:=by
   apply Array.ext_getElem?
   intro i
   rw [Array.getElem?_modify]
   split
   ·rename_i hij
    subst hij
    rw [h3]
    show some ({ e with key:=zCY x,val:=.bool true }:MapEntry)=some e
    rw [←h4,←h5]
   ·rfl
  refine ⟨{ w with heap:=w.heap.setIfInBounds b (.map es clock) },es,clock,?_,zIV _,?_⟩
  ·have hks:((es[j]?).map (·.key)).getD (zCY x)=zCY x:=by rw [h3];exact h4
   simp [Instr.mapUpdate,run_underlying hm,MapKept.run_getObj_map h.blk,zIA hk hx,h2,hks,zXu hk hx,MapKept.run_setObj_map _ h.blk,Result.andThen,hme]
  ·rw [zSz h1]
   exact { h with blk:=by simp [hlt] }
theorem zEf.look (h:zEf w b n l es clock) {mt kt et:TypeId} (hm:P.underlying mt=some (.map kt et)) (hk:zXw P kt=some n) {x:List Int} (hx:x.length=n) (hz:(zeroValue et).run P w= .ok (.bool false) w):
 (Instr.lookup mt (.map (some b)) (zCY x) false).run P w= .ok (.bool (l.contains x)) w:=by
 rcases h.find hk hx with ⟨h1,h2⟩ | ⟨h1,j,e,h2,h3,h4,h5⟩
 ·have:l.contains x=false:=by simpa using h1
  simp [Instr.lookup,run_underlying hm,MapKept.run_getObj_map h.blk,zIA hk hx,h2,hz,Result.andThen,this,h1]
 ·have:l.contains x=true:=by simpa using h1
  simp [Instr.lookup,run_underlying hm,MapKept.run_getObj_map h.blk,zIA hk hx,h2,Result.andThen,this,h1]
end
/-! ### On the view-/
def zaQ (lk:Option (Nat×Nat×Array MapEntry×Nat)) (i:Nat):Prop:=∀ y,lk=some y→y.1≠i
section
variable {P:Program} {w w':World} {p:zAJ} {n:Nat} {ls:List (Option KS)} {lk:Option (Nat×Nat×Array MapEntry×Nat)} {vs:Array Value}
theorem zCh.lies (h:zCh w p n ls lk vs) {b:Nat} (hb:p.foot b):zQ0 w b:=by
 rcases h.foot b hb with rfl | ⟨j,l,h1,h2⟩
 ·obtain ⟨cs,t,h3,_⟩:=h.row
  exact .cells h3
 ·obtain ⟨b',g1,_,_,es,clock,g2,_⟩:=h.has j l h1
  have:b'=b:=by rw [g1] at h2;cases h2;rfl
  subst this
  exact ⟨_,rfl,(),g2.blk⟩
theorem zCh.put (h:zCh w p n ls lk vs) {i b:Nat} {l l':KS} {es:Array MapEntry} {clock:Nat} (hi:ls[i]? =some (some l)) (hb:vs[i]? =some (Value.map (some b))) (hu:Upd (fun k=>k=b) w w') (hm:zEf w' b n l' es clock) (hoff:zaQ lk i):zCh w' p n (ls.set i (some l')) lk vs:=by
 have hil:i<ls.length:=(List.getElem?_eq_some_iff.1 hi).1
 obtain ⟨b0,g1,g2,g3,_⟩:=h.has i l hi
 have:b0=b:=by rw [g1] at hb;cases hb;rfl
 subst this
 have get: ∀ {j:Nat} {x:Option KS},(ls.set i (some l'))[j]? =some x→(j=i∧x=some l')∨(j≠i∧ls[j]? =some x):=fun {j x} hj=>by
  rw [List.getElem?_set] at hj
  by_cases e:i=j
  ·subst e;simp [hil] at hj;exact .inl ⟨rfl,hj.symm⟩
  ·rw [if_neg e] at hj;exact .inr ⟨Ne.symm e,hj⟩
 refine ⟨h.val,by simp [h.size],?_,h.blk,fun j l1 hj=>?_,fun j hj=>?_,fun b' hb'=>?_,h.inj⟩
 ·obtain ⟨cs,t,k1,k2⟩:=h.row
  exact ⟨cs,t,(hu.block _ (Array.getElem?_eq_some_iff.1 k1).1 (fun e=>g2 e.symm)).trans k1,by simpa using k2⟩
 ·rcases get hj with ⟨rfl,e⟩ | ⟨hne,hj⟩
  ·cases e
   exact ⟨b0,hb,g2,g3,es,clock,hm,fun y hy e=>absurd e (hoff y hy)⟩
  ·obtain ⟨b1,k1,k2,k3,es1,c1,k4,k5⟩:=h.has j l1 hj
   refine ⟨b1,k1,k2,k3,es1,c1,k4.out (hu.block _ (Array.getElem?_eq_some_iff.1 k4.blk).1 fun e=>hne ?_),k5⟩
   subst e
   exact h.inj j i b1 k1 hb
 ·rcases get hj with ⟨rfl,e⟩ | ⟨hne,hj⟩
  ·cases e
  ·exact h.nil j hj
 ·rcases h.foot b' hb' with e | ⟨j,l1,k1,k2⟩
  ·exact .inl e
  ·by_cases e:j=i
   ·subst e;exact .inr ⟨j,l',by simp [hil],k2⟩
   ·exact .inr ⟨j,l1,by rw [List.getElem?_set,if_neg (Ne.symm e)];exact k1,k2⟩
end
def zda (n:Nat) (d:DV):Option (List Int):=match d with
 | .int .i64 a=>if n=1 then some [a] else none
 | .agg m f=>if m=n∧n≠1 then if (List.range m).all fun j=>isI (f j) then some ((List.range m).map fun j=>zVl (f j)) else none else none
 | _=>none
def zcB (n:Nat) (x:List Int):DV:=if n=1 then .int .i64 (x.getD 0 0) else .agg n (tab n fun j=>.int .i64 (x.getD j 0))
section
variable {P:Program} {w:World} {ρ:List zAJ} {M:Nat→Prop}
theorem zTI {x:List Int} (h:x.length≠1):zCY x= .agg (x.map fun a=>.int .i64 a).toArray:=by
 unfold zCY
 split
 ·simp at h
 ·rfl
theorem zP6 {n:Nat} {d:DV} {x:List Int} {v:Value} (h:zda n d=some x) (hr:zAU M w d ρ v):v=zCY x∧x.length=n:=by
 unfold zda at h
 split at h
 ·split at h
  ·cases h
   exact ⟨hr,by simp;omega⟩
  ·cases h
 ·rename_i m f
  split at h
  ·rename_i hm
   split at h
   ·rename_i ha
    cases h
    have hl:((List.range m).map fun j=>zVl (f j)).length=m:=by simp
    refine ⟨?_,by rw [hl];exact hm.1⟩
    obtain ⟨cs,rfl,hs,hc⟩:=hr
    rw [zTI (by rw [hl];omega)]
    congr 1
    apply Array.ext_getElem?
    intro j
    by_cases hj:j<m
    ·obtain ⟨u,e1,e2⟩:=hc j hj
     have:=zOH (List.all_eq_true.1 ha j (List.mem_range.2 hj)) e2
     rw [e1,this]
     simp [hj]
    ·rw [Array.getElem?_eq_none (by omega)]
     simp [hj]
   ·cases h
  ·cases h
 ·cases h
theorem zXv {n:Nat} {x:List Int} (h:x.length=n):zAU M w (zcB n x) ρ (zCY x):=by
 unfold zcB
 split
 ·rename_i e
  subst e
  obtain ⟨a,rfl⟩:=zHF h
  rfl
 ·rename_i e
  rw [zTI (by omega)]
  refine ⟨_,rfl,by simp [h],fun j hj=>?_⟩
  rw [zSO hj]
  have hj':j<x.length:=by omega
  exact ⟨.int .i64 (x.getD j 0),by simp [hj'],rfl⟩
end
def zTO:Nat→DH→Option (Nat×Nat×List (Option KS)×Nat×Nat×Array MapEntry×Nat)
 | _,[]=>none
 | k,some (.mo (.sets n ls (some y)))::_=>some (k,n,ls,y)
 | k,_::r=>zTO (k+1) r
theorem zRz {n:Nat} {ls:List (Option KS)} {y:Nat×Nat×Array MapEntry×Nat} {k:Nat}: ∀ (h:DH) (k0:Nat),zTO k0 h=some (k,n,ls,y)→k0≤k∧h[k-k0]? =some (some (.mo (.sets n ls (some y)))):=by
 intro h
 induction h with
 | nil=>intro k0 e;cases e
 | cons x r ih=>
  intro k0 e
  have step:zTO (k0+1) r=some (k,n,ls,y)→k0≤k∧(x::r)[k-k0]? =some (some (.mo (.sets n ls (some y)))):=fun e=>by
   obtain ⟨h1,h2⟩:=ih (k0+1) e
   refine ⟨by omega,?_⟩
   have:k-k0=k-(k0+1)+1:=by omega
   rw [this];simpa using h2
  match x,e with
  | none,e=>exact step e
  | some (.cells _),e=>exact step e
  | some (.ints _),e=>exact step e
  | some (.bools _),e=>exact step e
  | some (.arr _ _ _),e=>exact step e
  | some (.iter _),e=>exact step e
  | some (.mo (.set _ _)),e=>exact step e
  | some (.mo (.mit _ _ _ _ _ _)),e=>exact step e
  | some (.mo (.sets _ _ none)),e=>exact step e
  | some (.mo (.sets _ _ (some _))),e=>cases e;exact ⟨Nat.le_refl _,by simp⟩
def zb6 (P:Program) (t:TypeId):Option (Nat×TypeId):=match P.underlying t with
 | some (.map k e)=>match zXw P k with
  | some n=>match P.info? e with
   | some i=>match i.zero with
    | some (.bool false)=>some (n,k)
    | _=>none
   | none=>none
  | none=>none
 | _=>none
theorem zLN {P:Program} {t k:TypeId} {n:Nat} (h:zb6 P t=some (n,k)): ∃ e,P.underlying t=some (.map k e)∧zXw P k=some n∧∀ w,(zeroValue e).run P w= .ok (.bool false) w:=by
 unfold zb6 at h
 split at h
 ·rename_i k' e hu
  split at h
  ·rename_i n' hk
   split at h
   ·rename_i i hi
    split at h
    ·rename_i hz
     cases h
     exact ⟨e,hu,hk,fun w=>by simp [zeroValue,typeInfo,hi,hz]⟩
    ·cases h
   ·cases h
  ·cases h
 ·cases h
def zdU (P:Program) (S:St) (t:TypeId) (m k x:DV):Option (DV×DH×List Prop×Bool):=match zb6 P t with
 | some (n,_)=>match zda n k,x with
  | some x,.bool true=>match m with
   | .it j=>match S.h[j]? with
    | some (some (.mo (.set n' l)))=>if n'=n then some (.any,S.h.set j (some (.mo (.set n (zFp x l)))),[],false) else none
    | _=>none
   | .mri j i=>match S.h[j]? with
    | some (some (.mo (.sets n' ls lk)))=>if n'=n then some (.any,S.h.set j (some (.mo (.sets n (ls.set i (some (zFp x ((ls.getD i none).getD [])))) lk))),[(ls.getD i none).isSome=true,zaQ lk i],false) else none
    | _=>none
   | _=>none
  | _,_=>none
 | none=>none
def zd1 (P:Program) (S:St):Op→Option (DV×DH×List Prop×Bool)
 | .makeMap t none=>match zb6 P t with
  | some (n,_)=>some (.it S.h.length,S.h++[some (.mo (.set n []))],[],true)
  | none=>none
 | .mapUpdate t m k x=>zdU P S t (opd S.fr m) (opd S.fr k) (opd S.fr x)
 | .insert t m k x=>zdU P S t (opd S.fr m) (opd S.fr k) (opd S.fr x)
 | .lookup t m k false=>match zb6 P t with
  | some (n,_)=>match zda n (opd S.fr k) with
   | some x=>match opd S.fr m with
    | .it j=>match S.h[j]? with
     | some (some (.mo (.set n' l)))=>if n'=n then some (.bool (l.contains x),S.h,[],true) else none
     | _=>none
    | .mri j i=>match S.h[j]? with
     | some (some (.mo (.sets n' ls _)))=>if n'=n then some (.bool (((ls.getD i none).getD []).contains x),S.h,[(ls.getD i none).isSome=true],true) else none
     | _=>none
    | _=>none
   | none=>none
  | none=>none
 | .range t m=>match zb6 P t with
  | some (n,_)=>match opd S.fr m with
   | .mri j i=>match S.h[j]? with
    | some (some (.mo (.sets n' ls (some (i',mb,es,clock)))))=>if n'=n then some (.it S.h.length,S.h++[some (.mo (.mit n mb es clock ((ls.getD i none).getD []) none))],[(ls.getD i none).isSome=true,i'=i],true) else none
    | _=>none
   | _=>none
  | none=>none
 | .entry m=>match opd S.fr m with
  | .it j=>match S.h[j]? with
   | some (some (.mo (.mit n mb es clock _ (some x))))=>match zTO 0 S.h with
    | some (_,_,ls,i,mb',es',clock')=>some (.tup 2 (tab 2 fun c=>if c=0 then zcB n x else .bool true),S.h,[(ls.getD i none).isSome=true,mb'=mb,es'=es,clock'=clock],true)
    | none=>none
   | _=>none
  | _=>none
 | _=>none
section
variable {P:Program} {Γ:Glo} {N:Nat→Prop} {S:St} {ρ:List zAJ} {a:Act} {w:World}
theorem zCp {ls:List (Option KS)} {i:Nat} (h:(ls.getD i none).isSome=true):ls[i]? =some (some ((ls.getD i none).getD [])):=by
 rw [List.getD_eq_getElem?_getD] at h ⊢
 cases hx:ls[i]? with
 | none=>rw [hx] at h;cases h
 | some x=>
  rw [hx] at h
  cases x with
  | none=>cases h
  | some l=>simp
theorem zV2 (R:Rel P Γ N S ρ a w) {j n:Nat} {l:KS} {v:Value} (hk:S.h[j]? =some (some (.mo (.set n l)))) (hv:zAU (MS N S.h ρ) w (.it j) ρ v): ∃ p es clock,ρ[j]? =some p∧v= .map (some p.blk)∧p.foot=(fun b=>b=p.blk)∧p.val=Value.map (some p.blk)∧zEf w p.blk n l es clock:=by
 obtain ⟨p,hp,rfl⟩:=hv
 obtain ⟨p',hp',h1,h2,es,clock,h3⟩:=R.hr.obj j _ hk
 have:p'=p:=Option.some.inj (hp'.symm.trans hp)
 subst this
 exact ⟨p',es,clock,hp,h1,h2,h1,h3⟩
theorem zRB (R:Rel P Γ N S ρ a w) {j i n:Nat} {ls:List (Option KS)} {lk:Option (Nat×Nat×Array MapEntry×Nat)} {v:Value} (hk:S.h[j]? =some (some (.mo (.sets n ls lk)))) (hv:zAU (MS N S.h ρ) w (.mri j i) ρ v) (hs:(ls.getD i none).isSome=true):
 ∃ p vs b es clock,ρ[j]? =some p∧zCh w p n ls lk vs∧v= .map (some b)∧vs[i]? =some (Value.map (some b))∧p.foot b∧zEf w b n ((ls.getD i none).getD []) es clock∧∀ y,lk=some y→y.1=i→y.2=(b,es,clock):=by
 obtain ⟨p,vs,hp,hval,hvi⟩:=hv
 obtain ⟨p',hp',vs',h1⟩:=R.hr.obj j _ hk
 have:p'=p:=Option.some.inj (hp'.symm.trans hp)
 subst this
 have:vs'=vs:=by have:=h1.val.symm.trans hval;cases this;rfl
 subst this
 obtain ⟨b,g1,g2,g3,es,clock,g4,g5⟩:=h1.has i _ (zCp hs)
 have:v= .map (some b):=by rw [g1] at hvi;exact (Option.some.inj hvi).symm
 exact ⟨p',vs',b,es,clock,hp,h1,this,g1,g3,g4,g5⟩
theorem zNP (R:Rel P Γ N S ρ a w) {d:DV} {v:Value} (hv:zAU (MS N S.h ρ) w d ρ v):Got P Γ N S.h ρ w true d S.h v w:=⟨⟨ρ,R.hr,hv,zCH.refl _ _ _,fun _ _ h=>h⟩,fun _=>Ext.refl w⟩
theorem zOJ (H:zDJ P Γ N S.h ρ w) {ob:Obj} (hob:zc5 ob=true) {pl:zAJ} (hfoot:pl.foot=fun b=>b=w.heap.size) {o:DO} {d:DV} {v:Value} (ho: ∀ M ρ',zBf P M (w.alloc ob) ρ' pl o)
 (hv: ∀ M ρ',ρ'[S.h.length]? =some pl→zAU M (w.alloc ob) d ρ' v) (ext:Bool):Got P Γ N S.h ρ w ext d (S.h++[some o]) v (w.alloc ob):=by
 have hE:Ext w (w.alloc ob):=(Ext.refl w).allocR _
 have hf: ∀ b,pl.foot b→w.heap.size≤b:=fun b hb=>by rw [hfoot] at hb;exact Nat.le_of_eq (Eq.symm hb)
 have hb:(w.alloc ob).heap[w.heap.size]? =some ob:=heap_alloc_new w _
 refine ⟨⟨ρ++[pl],H.snoc hE (fun b hx=>⟨hf b hx,ob,hob,(),by rw [hfoot] at hx;rw [show b=w.heap.size from hx];exact hb⟩) (ho _ _),?_,zCH.snoc H hE hf,fun k p hk=>zAR hk⟩,fun _=>hE⟩
 exact hv _ _ (by rw [←H.len];simp)
theorem zMn (R:Rel P Γ N S ρ a w) {t:TypeId} {m k x:Operand} {d:DV} {h':DH} {vs:List Prop} {ext:Bool} (hd:zdU P S t (opd S.fr m) (opd S.fr k) (opd S.fr x)=some (d,h',vs,ext)) (hv:zDk vs):
 ∃ w',(Instr.mapUpdate t (a.eval m) (a.eval k) (a.eval x)).run P w= .ok () w'∧Got P Γ N S.h ρ w ext d h' undef w':=by
 have rm:=zAX R m
 have rk:=zAX R k
 have rx:=zAX R x
 unfold zdU at hd
 split at hd
 ·rename_i n kt hT
  obtain ⟨e,hu,hk,hz⟩:=zLN hT
  split at hd
  ·rename_i xs hK hX
   obtain ⟨ek,el⟩:=zP6 hK rk
   rw [hX] at rx
   have ex:a.eval x= .bool true:=rx
   rw [ek,ex]
   split at hd
   ·rename_i j hM
    split at hd
    ·rename_i n' l hO
     split at hd
     ·rename_i hn
      cases hd
      subst hn
      rw [hM] at rm
      obtain ⟨p,es,clock,hp,ev,hfoot,hval,hA⟩:=zV2 R hO rm
      rw [ev]
      obtain ⟨w',es',clock',h1,h2,h3⟩:=hA.put hu hk el
      have hup:Upd p.foot w w':=by rw [hfoot];exact h2
      refine ⟨w',h1,⟨ρ,R.hr.write hO hp hup (fun b hb=>?_) ⟨hval,hfoot,es',clock',h3⟩,trivial,zCH.write hO hp hup,fun _ _ h=>h⟩,fun h=>by cases h⟩
      rw [hfoot] at hb
      exact ⟨_,rfl,(),by rw [show b=p.blk from hb];exact h3.blk⟩
     ·cases hd
    ·cases hd
   ·rename_i j i hM
    split at hd
    ·rename_i n' ls lk hO
     split at hd
     ·rename_i hn
      cases hd
      subst hn
      obtain ⟨hs,hoff,_⟩:=hv
      rw [hM] at rm
      obtain ⟨p,vs,b,es,clock,hp,hS,ev,hvi,hfb,hA,_⟩:=zRB R hO rm hs
      rw [ev]
      obtain ⟨w',es',clock',h1,h2,h3⟩:=hA.put hu hk el
      have hup:Upd p.foot w w':=h2.mono fun c _ hc=>by rw [show c=b from hc];exact hfb
      have hS':=hS.put (zCp hs) hvi h2 h3 hoff
      exact ⟨w',h1,⟨ρ,R.hr.write hO hp hup (fun b hb=>hS'.lies hb) ⟨vs,hS'⟩,trivial,zCH.write hO hp hup,fun _ _ h=>h⟩,fun h=>by cases h⟩
     ·cases hd
    ·cases hd
   ·cases hd
  ·cases hd
 ·cases hd
theorem zRf (es:Array MapEntry):leftOf es #[]=es:=by
 unfold leftOf
 refine Array.filter_eq_self.2 fun x hx=>by simp
theorem zPA {r bm since clock:Nat} {seen:Array Nat} {es:Array MapEntry} {e:MapEntry} (hr:w.heap[r]? =some (.mapIter (some bm) since seen clock)) (hs:seen.back? =some e.born) (hb:w.heap[bm]? =some (.map es clock)) (he:e∈es.toList) (hn:(es.toList.map (·.born)).Nodup):
 (Instr.entry (.pointer (some ⟨r,0,none⟩))).run P w= .ok (.tuple #[e.key,e.val]) w:=by
 have hf:es.find? (·.born==e.born)=some e:=by rw [←Array.find?_toList];exact find_born e es.toList hn he
 simp only [Instr.entry,getObj,Sem.run_bind,Sem.run,hr,hb,Result.andThen,hs,bne_self_eq_false,Bool.false_eq_true,if_false,hf]
 rfl
theorem zUc (R:Rel P Γ N S ρ a w) (o:Oper) {d:DV} {h':DH} {vs:List Prop} {ext:Bool} (hd:zd1 P S o.op=some (d,h',vs,ext)) (hv:zDk vs):zDl P (execOp a.eval o) w (Got P Γ N S.h ρ w ext d h'):=by
 unfold zd1 at hd
 split at hd
 ·rename_i t ho
  split at hd
  ·rename_i n kt hT
   cases hd
   refine zDl.value (s:=Instr.makeMap t none) (by unfold execOp;rw [ho];rfl) (v:=.map (some w.heap.size)) (w':=w.alloc (.map #[] 0)) (by simp [Instr.makeMap,newObj];rfl) ?_
   refine zOJ (ob:=.map #[] 0) (o:=.mo (.set n [])) (d:=.it S.h.length) (v:=.map (some w.heap.size)) (pl:=⟨w.heap.size,0,0,.map (some w.heap.size),fun b=>b=w.heap.size⟩) R.hr rfl rfl (fun M ρ'=>⟨rfl,rfl,#[],0,⟨heap_alloc_new w _,by simp,List.nodup_nil,fun y hy=>absurd hy List.not_mem_nil,fun e he=>absurd he (by simp),fun e he=>absurd he (by simp),by simp⟩⟩) (fun M ρ' hp=>⟨_,hp,rfl⟩) true
  ·cases hd
 ·rename_i t m k x ho
  obtain ⟨w',h1,h2⟩:=zMn R hd hv
  exact zDl.skip (s:=Instr.mapUpdate t (a.eval m) (a.eval k) (a.eval x)) (by unfold execOp;rw [ho]) h1 h2
 ·rename_i t m k x ho
  obtain ⟨w',h1,h2⟩:=zMn R hd hv
  exact zDl.skip (s:=Instr.mapUpdate t (a.eval m) (a.eval k) (a.eval x)) (by unfold execOp;rw [ho]) h1 h2
 ·rename_i t m k ho
  have rm:=zAX R m
  have rk:=zAX R k
  split at hd
  ·rename_i n kt hT
   obtain ⟨e,hu,hk,hz⟩:=zLN hT
   split at hd
   ·rename_i xs hK
    obtain ⟨ek,el⟩:=zP6 hK rk
    split at hd
    ·rename_i j hM
     split at hd
     ·rename_i n' l hO
      split at hd
      ·rename_i hn
       cases hd
       subst hn
       rw [hM] at rm
       obtain ⟨p,es,clock,hp,ev,hfoot,hval,hA⟩:=zV2 R hO rm
       exact zDl.value (s:=Instr.lookup t (a.eval m) (a.eval k) false) (by unfold execOp;rw [ho]) (by rw [ek,ev];exact hA.look hu hk el (hz w)) (zNP R rfl)
      ·cases hd
     ·cases hd
    ·rename_i j i hM
     split at hd
     ·rename_i n' ls lk hO
      split at hd
      ·rename_i hn
       cases hd
       subst hn
       rw [hM] at rm
       obtain ⟨p,vs,b,es,clock,hp,hS,ev,hvi,hfb,hA,_⟩:=zRB R hO rm hv.1
       exact zDl.value (s:=Instr.lookup t (a.eval m) (a.eval k) false) (by unfold execOp;rw [ho]) (by rw [ek,ev];exact hA.look hu hk el (hz w)) (zNP R rfl)
      ·cases hd
     ·cases hd
    ·cases hd
   ·cases hd
  ·cases hd
 ·rename_i t m ho
  have rm:=zAX R m
  split at hd
  ·rename_i n kt hT
   obtain ⟨e,hu,hk,hz⟩:=zLN hT
   split at hd
   ·rename_i j i hM
    split at hd
    ·rename_i n' ls i' mb es clock hO
     split at hd
     ·rename_i hn
      cases hd
      subst hn
      obtain ⟨hs,hi,_⟩:=hv
      subst hi
      rw [hM] at rm
      obtain ⟨p,vs,b,es1,clock1,hp,hS,ev,hvi,hfb,hA,hL⟩:=zRB R hO rm hs
      have hL:=hL _ rfl rfl
      cases hL
      refine zDl.value (s:=Instr.range t (a.eval m)) (by unfold execOp;rw [ho]) (by rw [ev];exact run_range_map w t _ _ _ _ _ hu hA.blk) ?_
      refine zOJ (ob:=.mapIter (some mb) clock #[] clock) (o:=.mo (.mit n' mb es clock ((ls.getD i' none).getD []) none)) (d:=.it S.h.length) (v:=.pointer (some ⟨w.heap.size,0,none⟩)) (pl:=⟨w.heap.size,0,0,.pointer (some ⟨w.heap.size,0,none⟩),fun b=>b=w.heap.size⟩) R.hr rfl rfl (fun M ρ'=>⟨fun x hx=>hx.elim (hA.len x) (fun e=>by cases e),rfl,rfl,#[],heap_alloc_new w _,by rw [zRf];exact hA.keys,fun x hx=>by cases hx⟩) (fun M ρ' hp=>⟨_,hp,rfl⟩) true
     ·cases hd
    ·cases hd
   ·cases hd
  ·cases hd
 ·rename_i m ho
  have rm:=zAX R m
  split at hd
  ·rename_i j hM
   split at hd
   ·rename_i n mb es clock rem x hO
    split at hd
    ·rename_i k n' ls i mb' es' clock' hF
     cases hd
     obtain ⟨hs,e1,e2,e3,_⟩:=hv
     subst e1 e2 e3
     rw [hM] at rm
     obtain ⟨p,hp,ev⟩:=rm
     obtain ⟨p',hp',h0,h1,h2,seen,h3,h4,h5⟩:=R.hr.obj j _ hO
     have:p'=p:=Option.some.inj (hp'.symm.trans hp)
     subst this
     obtain ⟨e,g1,g2,g3⟩:=h5 x rfl
     have hF:=(zRz _ _ hF).2
     obtain ⟨q,hq,vs,hS⟩:=R.hr.obj _ _ hF
     obtain ⟨b,k1,k2,k3,es1,clock1,k4,k5⟩:=hS.has i _ (zCp hs)
     have k5:=k5 _ rfl rfl
     cases k5
     refine zDl.value (s:=Instr.entry (a.eval m)) (by unfold execOp;rw [ho]) (by rw [ev,h1];exact zPA h3 g3 k4.blk g1 k4.stamps) (zNP R ?_)
     refine ⟨_,rfl,rfl,fun c hc=>?_⟩
     rw [zSO hc,g2,k4.tru e g1]
     match c,hc with
     | 0,_=>exact ⟨zCY x,rfl,zXv (h0 x (.inr rfl))⟩
     | 1,_=>exact ⟨.bool true,rfl,rfl⟩
    ·cases hd
   ·cases hd
  ·cases hd
 ·cases hd
end
end Go.Proofs.YtekkngkphejfcaaGreatDoor
