/- Part 1 of 6 of what the proofs of these laws stand on. -/
import Derived.WalkKit
import Derived.WalkSpells
import Derived.WalkLawsBesides
import Derived.Lib.Hide
import Derived.OrdersHeld
import Derived.Deep.RegionHeld
import Derived.BigQuiet
import Derived.OrdersIn
import Derived.TacticsIn
import Derived.RangeFuncOwn
import Derived.RangeFuncNested
import Derived.RangeFuncCalls
import Derived.Laws.IdiomRangeMap
import Derived.Laws.Cells
import Derived.Laws.Cover3
import Derived.Laws.StructEq
import Derived.ChangeKeysEq
import Derived.RowKit
import Derived.Deep.AppendSrc
import Derived.Laws.MakeOwn
import Derived.Great.BuildSlice
import Derived.Sort.LoopGhostIn
import Derived.MapKept
set_option linter.all false
namespace Go.Proofs.YtgkhhfnhacibcaaGreatDoor
abbrev zAF:=@Nat.le_refl
abbrev zBA:=@Go.World.block_lt_of_cell?
end Go.Proofs.YtgkhhfnhacibcaaGreatDoor
namespace Go.Proofs.YtgkhhfnhacibcaaGreatDoor
open Go.RowKit
def Au (w w':World):Prop:=Below w.heap.size w w'
theorem Au.refl (w:World):Au w w:=Below.refl _ _
theorem Au.trans {a b c:World} (h:Au a b) (k:Au b c):Au a c:=Below.trans h (Below.mono k h.size)
theorem Au.alloc (w:World) (o:Obj):Au w (w.alloc o):=(Below.refl _ _).alloc (zAF _) o
theorem Au.allocR {w w':World} (h:Au w w') (o:Obj):Au w (w'.alloc o):=h.trans (Au.alloc w' o)
theorem Au.drewR {w w':World} (h:Au w w'):Au w w'.drew:=Below.drew h
theorem Au.size {w w':World} (h:Au w w'):w.heap.size<=w'.heap.size:=Below.size h
theorem Au.cells {w w':World} (h:Au w w'): ∀ b o,b<w.heap.size -> w'.cell? ⟨b,o,none⟩=w.cell? ⟨b,o,none⟩:=
 fun b o hb=>Below.cell h (p:=⟨b,o,none⟩) hb
theorem Au.cell {w w':World} (h:Au w w') {b o:Nat} {u:Value} (hc:w.cell? ⟨b,o,none⟩=some u):w'.cell? ⟨b,o,none⟩=some u:=by
 rw [h.cells b o (zBA w ⟨b,o,none⟩ hc)];exact hc
def Ca (b:Bool) (e:Int):Int:=if b then 0 else e
theorem xL (e:Int):Ca true e=0:=rfl
structure AB where
 kind:Int
 cells:List Int
 set:Int
 other:Int
 lo:Int
 hi:Int
 runs:List Int
 rule:Int
 spot:Int
 deriving DecidableEq,Inhabited
structure AA where
 cells:Int
 symbols:Int
 values:List Int
 nbrs:List (List Int)
 cons:List AB
 deriving DecidableEq,Inhabited
end Go.Proofs.YtgkhhfnhacibcaaGreatDoor
namespace Go.Proofs.YtgkhhfnhacibcaaGreatDoor
abbrev zi:=@if_pos
abbrev zm:=@Bool.and_eq_true
abbrev zo:=@Option.some.inj
abbrev zr:=@if_neg
abbrev z7:=@Go.Sem.run_bind
abbrev zAE:=@Bool.or_eq_true
abbrev zAQ:=@beq_iff_eq
abbrev zAa:=@Bool.false_eq_true
abbrev zA2:=@Nat.lt_or_ge
abbrev zB0:=@Go.mem_ready
abbrev zCL:=@Array.getElem?_eq_none
end Go.Proofs.YtgkhhfnhacibcaaGreatDoor
namespace Go.Proofs.YtgkhhfnhacibcaaGreatDoor
open Go.RowKit
def Qb:Op -> Bool
 | .move _ | .assign _ | .pick .. | .load .. | .binOp .. | .unOp .. | .convert .. | .makeFunc .. | .slice .. | .fieldAddr .. | .field .. | .indexAddr .. | .index .. | .extract .. | .build .. | .lookup .. | .makeInterface .. | .nilCheck _=>true
 | .call c=>match c.callee with
  | .builtin .len | .builtin .cap | .builtin .min | .builtin .max=>true
  | _=>false
 | _=>false
theorem WO {P:Program} {w w':World} {α:Type} {s:Sem α} {f:α -> Value} {n:Next} (h:(s>>=fun x=>(pure (.value (f x)):Sem Next)).run P w= .ok n w'): ∃ v,n= .value v:=by
 rw [z7] at h;cases hs:s.run P w with
 | ok v w1=>rw [hs] at h;simp only [Result.andThen] at h;cases h;exact ⟨_,rfl⟩
 | halt x w1=>rw [hs] at h;simp only [Result.andThen] at h;cases h
theorem pp {P:Program} {ρ:Operand -> Value} {o:Oper} {w w':World} {n:Next} (hp:Qb o.op=true) (h:(execOp ρ o).run P w= .ok n w'): ∃ v,n= .value v:=by
 unfold execOp at h;cases ho:o.op <;> rw [ho] at hp h <;> simp only [Qb,zAa] at hp
 all_goals first | exact WO (f:=fun x=>x) h | (cases h;exact ⟨_,rfl⟩) | skip
 ·rename_i c x y;exact WO (s:=asBool (ρ c)) (f:=fun b=>if b then ρ x else ρ y) h
 ·rename_i x
  have hb: ∀ {α:Type} (s:Sem α) (f:α -> Sem Next) (w0:World),(∀ a w1,(f a).run P w1= .ok n w' -> ∃ v,n= .value v) -> (s>>=f).run P w0= .ok n w' -> ∃ v,n= .value v:=by
   intro α s f w0 hf hr;rw [z7] at hr;cases hs:s.run P w0 with
   | ok v w1=>rw [hs] at hr;exact hf _ _ hr
   | halt x w1=>rw [hs] at hr;simp only [Result.andThen] at hr;cases hr
  have U0:(runtimePanic .nilDeref:Sem Next).run P w= .ok n w' -> ∃ v,n= .value v:=by
   intro he;unfold runtimePanic at he;refine hb _ _ _ ?_ he;intro a w1 h1;cases h1
  simp only at h;split at h
  ·exact U0 h
  ·exact U0 h
  ·exact U0 h
  ·split at h
   ·exact U0 h
   ·refine hb _ _ _ ?_ h;intro p w1 h1;refine hb _ _ _ ?_ h1;intro q w2 h2;split at h2
    ·refine hb _ _ _ ?_ h2;intro r w3 h3;cases h3;exact ⟨_,rfl⟩
    ·cases h2;exact ⟨_,rfl⟩
   ·cases h;exact ⟨_,rfl⟩
  ·cases h;exact ⟨_,rfl⟩
 ·rename_i c;replace h:((resolve ρ c o.type)>>=fun d=>invoke d.target d.args).run P w= .ok n w':=h;rw [z7] at h;unfold resolve at h;cases hc:c.callee with
  | value f=>rw [hc] at hp;simp at hp
  | invoke r m=>rw [hc] at hp;simp at hp
  | builtin b=>
   rw [hc] at hp h;have e: ∀ d:Deferred,(pure d:Sem Deferred).run P w= .ok d w:=fun _=>rfl
   simp only [e,Result.andThen] at h;unfold invoke at h;cases b <;> simp at hp <;> exact WO (f:=fun x=>x) h
structure Sv (w:World) where
 W:World
 le:Au w W
def PI (w:World):World -> Prop:=fun w'=>∃ x:Sv w,w'=x.W
theorem PI.iff {w w':World}:PI w w'↔Au w w':=⟨fun ⟨x,e⟩=>e▸x.le,fun h=>⟨⟨w',h⟩,rfl⟩⟩
theorem Au.toDrew (w:World):Au w w.drew:=Au.drewR (Au.refl w)
section
variable {P:Program} {ops:Array Oper} {Q:Exit -> Act -> World -> Prop}
theorem kj {w:World} {o:Oper} {a:Act} {v:Value} (hp:Qb o.op=true) (hw:Region.wanted o (yielded ops a.tmps)=true)
 (h: ∀ w',PI w w' -> o.quietAt P a (PI w) w' v):YieldsIf P ops (Au w) o v a:=by
 refine .inl ⟨hw,fun w' hE=>?_⟩;have:=h w' (PI.iff.2 hE);unfold Oper.quietAt at this;cases hr:(execOp a.eval o).run P w' with
 | halt x w1=>rw [hr] at this;simp [Oper.quietUpon] at this
 | ok n w1=>
  obtain ⟨u,rfl⟩:=pp hp hr;rw [hr] at this;obtain ⟨rfl,rfl⟩:=this;rfl
def NP (Q:Exit -> Act -> World -> Prop):Exit -> Act -> World -> Prop
 | .panic _,_,_=>False
 | e,a,w=>Q e a w
theorem NP.put (c:List PanicEntry) (a:Act) (d:Option Tmp) (v:Value) (w:World) (h:NP Q (.panic c) (a.put d v) w):NP Q (.panic c) a w:=h.elim
def F9 (ops:Array Oper) (AS:Array Bool):Prop:=∀ (j:Nat) (oj:Oper),ops[j]? =some oj -> AS.getD j false=true -> ∀ e∈oj.after,Region.binds .any e=true -> AS.getD e.on false=true
theorem F9.set {AS:Array Bool} {i:Nat} (h:F9 ops AS) (hi:i∈Region.ready .any ops AS):F9 ops (AS.setIfInBounds i true):=by
 obtain ⟨_,oi,vD,HU⟩:=zB0.1 hi;intro j oj hj hl e he hb
 by_cases Rb:i=j
 ·subst Rb;have:oj=oi:=zo (hj.symm.trans vD);subst this;exact getD_set_true (HU e he hb)
 ·rw [getD_set_ne false Rb] at hl;exact getD_set_true (h j oj hj hl e he hb)
def Fi (ops:Array Oper):Nat -> Nat -> Nat -> Bool
 | 0,_,_=>false
 | n+1,t,i=>match ops[t]? with
  | none=>false
  | some o=>o.after.any fun e=>Region.binds .any e&&(e.on==i||Fi ops n e.on i)
theorem WM {AS:Array Bool} (hc:F9 ops AS): ∀ (n t i:Nat) (o:Oper),ops[t]? =some o -> (∀ e∈o.after,Region.binds .any e=true -> AS.getD e.on false=true) -> Fi ops n t i=true -> AS.getD i false=true
 | 0,_,_,_,_,_,h=>by simp [Fi] at h
 | n+1,t,i,o,ho,HU,h=>by
  simp only [Fi,ho] at h;obtain ⟨e,he,hb⟩:=Array.any_eq_true'.1 h;simp only [zm,zAE,zAQ] at hb;obtain ⟨hb,h1 | h1⟩:=hb
  ·rw [←h1];exact HU e he hb
  ·cases ZO:ops[e.on]? with
   | none=>cases n <;> simp [Fi,ZO] at h1
   | some o2=>exact WM hc n e.on i o2 ZO (hc e.on o2 ZO (HU e he hb)) h1
theorem VL {AS:Array Bool} {i:Nat} (h:AS.getD i true=false):AS.getD i false=false:=by
 rcases zA2 i AS.size with h' | h'
 ·simp [h'] at h ⊢;exact h
 ·simp [zCL h'] at h
def E9 (ops:Array Oper):List Nat -> List Oper
 | []=>[]
 | i::l=>match ops[i]? with | some o=>o::E9 ops l | none=>E9 ops l
def Pp (ops:Array Oper) (Cm:Nat -> Bool):List Nat -> Array Bool -> Bool
 | [],_=>true
 | i::l,AS=>(Region.ready .any ops AS).contains i&&Region.free .any ops AS i&&(match ops[i]? with | some o=>Qb o.op | none=>false)&&
  ((List.range ops.size).all fun j=>!Cm j||Fi ops ops.size j i)&&Pp ops Cm l (AS.setIfInBounds i true)
def NV (l:List Nat) (AS:Array Bool):Array Bool:=l.foldl (fun s i=>s.setIfInBounds i true) AS
def Pe (ops:Array Oper):List Nat -> Array Bool -> Bool
 | [],AS=>(Region.ready .any ops AS).isEmpty
 | t::ts,AS=>Region.ready .any ops AS== [t]&&Pe ops ts (AS.setIfInBounds t true)
def Pq (ops:Array Oper) (Cm:Nat -> Bool):List (List Nat×Nat) -> List Nat -> List Nat -> Array Bool -> Bool
 | [],last,tail,AS=>Pp ops Cm last AS&&((List.range ops.size).all fun j=>Cm j||(NV last AS).getD j true)&&Pe ops tail (NV last AS)
 | (G6,i)::Fs,last,tail,AS=>Pp ops Cm G6 AS&&(Region.ready .any ops (NV G6 AS)== [i])&&Pq ops Cm Fs last tail ((NV G6 AS).setIfInBounds i true)
def VA:List (List Nat×Nat) -> List Nat -> Nat
 | [],last=>last.length
 | (G6,_)::Fs,last=>G6.length+(1+VA Fs last)
def Wr (ops:Array Oper) (EL:List (List Nat×Nat)) (last tail:List Nat):Bool:=
 Region.noSelect ops&&VA EL last+tail.length==ops.size&&Pq ops (fun j=>tail.contains j) EL last tail (Array.replicate ops.size false)
theorem WI {C:World -> Prop}: ∀ (l:List Oper) (a:Act) (K K':Act -> Prop),(∀ a,K a -> K' a) -> wpQuiet P ops C K l a -> wpQuiet P ops C K' l a
 | [],a,K,K',hk,h=>hk a h
 | o::l,a,K,K',hk,h=>by
  unfold wpQuiet at*
  by_cases hw:Region.wanted o (yielded ops a.tmps)=true
  ·rw [zi hw] at h ⊢;exact Oper.quiet_mono (fun a h=>WI l a K K' hk h) h
  ·rw [zr hw] at h ⊢;exact WI l _ K K' hk h
end
end Go.Proofs.YtgkhhfnhacibcaaGreatDoor
namespace Go.Proofs.YtgkhhfnhacibcaaGreatDoor
abbrev zj:=@Array.getElem?_eq_some_iff
abbrev zq:=@List.all_eq_true
abbrev zw:=@List.mem_range
abbrev zAA:=@Nat.zero_add
abbrev zAB:=@List.mem_singleton
abbrev zAV:=@Array.getElem?_eq_getElem
abbrev zAn:=@if_true
abbrev zA0:=@List.length_nil
abbrev zBE:=@Array.mem_of_getElem?
abbrev zBY:=@if_false
abbrev zBq:=@Go.Oper.semAt_eq
abbrev zBv:=@Go.wpOpIn_mono
abbrev zB1:=@Go.Act.put_comm
abbrev zB2:=@Ne.symm
end Go.Proofs.YtgkhhfnhacibcaaGreatDoor
namespace Go.Proofs.YtgkhhfnhacibcaaGreatDoor
open Go.RowKit
def D5 (ops:Array Oper):Bool:=ops.all fun o=>match o.op with
 | .defer _=>false
 | _=>true
theorem Hy {ops:Array Oper} (h:D5 ops=true) {j:Nat} {o:Oper} (hj:ops[j]? =some o): ∀ c,o.op≠.defer c:=by
 intro c hc;have hm:o∈ops:=zBE hj;have:=Array.all_eq_true'.1 h o hm;rw [hc] at this;cases this
section
variable {F:Fence} {n:Nat} {P:Program} {ops:Array Oper} {Q:Exit -> Act -> World -> Prop}
theorem Sw {S:World -> Prop} {i:Nat} {o:Oper} {v:Value} {a:Act} (hF: ∀ f,F.fn f) (hd: ∀ c,o.op≠.defer c) (hi:ops[i]? =some o) (hy:YieldsIf P ops S o v a)
 {K:Act -> World -> Prop} {w:World} (hS:S w) (h:K (a.put o.dst v) w):wpOpIn F n P ops Q i K a w:=by
 unfold Go.wpOpIn;simp only [hi];rcases hy with ⟨hw,hv⟩ | ⟨hw,rfl⟩
 ·simp only [hw,zAn,Oper.wpIn,zBq _ _ _ hd,hv w hS,Oper.uponIn];exact ⟨fun f _=>hF f,h⟩
 ·simp only [hw,zAa,zBY];exact ⟨fun f _=>hF f,h⟩
theorem av {S:World -> Prop} {j:Nat} {oi oj:Oper} {v:Value} (hF: ∀ f,F.fn f) (iP: ∀ c,oj.op≠.defer c) (hj:ops[j]? =some oj) (Za:oi.apart ops oj=true)
 (tU: ∀ cs b,oi.op≠.select cs b) (tT: ∀ cs b,oj.op≠.select cs b)
 (hQ: ∀ c a w,Q (.panic c) (a.put oi.dst v) w -> Q (.panic c) a w) {K:Act -> World -> Prop} {a:Act} {w:World}
 (hy:YieldsIf P ops S oi v a) (h:wpOpIn F n P ops Q j K (a.put oi.dst v) w):
 wpOpIn F n P ops Q j (fun a' w'=>YieldsIf P ops S oi v a'/\ K (a'.put oi.dst v) w') a w:=by
 obtain ⟨h1,h2,h3⟩:=Oper.apart_spec Za
 have keep: ∀ (a:Act),YieldsIf P ops S oi v a -> ∀ u,YieldsIf P ops S oi v (a.put oj.dst u):=fun a hy u=>
  hy.of_same (execOp_put oi tU a oj.dst u h3) (wanted_put oi a oj.dst u h3)
 have sC: ∀ d,YieldsIf P ops S oi v { a with defers:=d::a.defers }:=fun d=>hy.of_same rfl rfl
 unfold wpOpIn at*;simp only [hj] at*;rw [wanted_put oj a oi.dst v h1] at h;split
 ·rename_i hw;simp only [hw,zAn] at h;unfold Oper.wpIn at*;refine ⟨fun f _=>hF f,?_⟩;have h:=h.2;rw [zBq _ _ _ iP,execOp_put oj tT a oi.dst v h1] at h;rw [zBq _ _ _ iP]
  generalize (execOp a.eval oj).run P w=r at*
  cases r with
  | ok x w'=>
   cases x <;> simp only [Oper.uponIn] at h ⊢
   case value u=>exact ⟨keep a hy u,by rw [←zB1 a v u h2];exact h⟩
   case skip=>exact ⟨keep a hy _,by rw [←zB1 a v undef h2];exact h⟩
   case defer d=>
    refine ⟨keep _ (sC d) _,?_⟩;rw [←zB1 _ v undef h2,←Act.put_defers];exact h
   case enter f args=>
    refine ⟨h.1,CallsIn.mono h.2 fun e CI he=>?_⟩;cases e with
    | returned u=>exact ⟨keep a hy u,by rw [←zB1 a v u h2];exact he⟩
    | panicked c=>exact hQ _ _ _ he
    | outgrown=>exact he
   case row row args=>exact ⟨h.1,RowsIn.mono h.2 fun u CI he=>⟨keep a hy u,by rw [←zB1 a v u h2];exact he⟩⟩
   case round l f tmps assign body=>
    refine ⟨h.1,RoundIn.mono h.2 fun e CI he=>?_⟩;cases e with
    | returned u=>exact ⟨keep a hy u,by rw [←zB1 a v u h2];exact he⟩
    | panicked c=>exact hQ _ _ _ he
    | outgrown=>exact he
  | halt x w'=>
   cases x <;> simp only [Oper.uponIn] at h ⊢
   case panic u=>exact hQ _ _ _ h
 ·rename_i hw;simp only [hw] at h;exact ⟨fun f _=>hF f,keep a hy _,by rw [←zB1 a v undef h2];exact h.2⟩
theorem aw {i:Nat} {K:Act -> World -> Prop} {a:Act} {w:World} (h:wpOpIn F n P ops (NP Q) i K a w):wpOpIn F n P ops Q i K a w:=by
 unfold wpOpIn at*;split
 ·rename_i ho;simp only [ho] at h;exact h
 ·rename_i o ho;simp only [ho] at h;have hl:LetsOut (NP Q) -> LetsOut Q:=fun ⟨a,w,h⟩=>⟨a,w,h⟩
  by_cases hw:Region.wanted o (yielded ops a.tmps)=true
  ·rw [zi hw] at h ⊢;unfold Oper.wpIn at*;refine ⟨h.1,?_⟩;have h:=h.2
   generalize (o.semAt F.round a.eval).run P w=r at*
   cases r with
   | ok x w'=>
    cases x <;> simp only [Oper.uponIn] at h ⊢ <;> first | exact h | skip
    ·refine ⟨h.1,CallsIn.mono h.2 fun e CI he=>?_⟩;cases e with
     | returned v=>exact he
     | panicked c=>exact he.elim
     | outgrown=>exact hl he
    ·refine ⟨h.1,RoundIn.mono h.2 fun e CI he=>?_⟩;cases e with
     | returned v=>exact he
     | panicked c=>exact he.elim
     | outgrown=>exact hl he
   | halt x w'=>cases x <;> simp only [Oper.uponIn] at h ⊢;exact h.elim
  ·rw [zr hw] at h ⊢;exact h
def JA (F:Fence) (n:Nat) (P:Program) (ops:Array Oper) (Q:Exit -> Act -> World -> Prop) (Cm:Nat -> Bool) (g:Nat) (S:World -> Prop):Nat -> Array Bool -> Act -> World -> Prop
 | 0,AS,a,w=>(∀ j,j<ops.size -> Cm j=false -> AS.getD j true=true)/\ wpAnyIn F n P .any ops Q g AS a w
 | m+1,AS,a,w=>Region.ready .any ops AS≠[]/\ ∀ i∈Region.ready .any ops AS,wpOpIn F n P ops (NP Q) i (fun a' w'=>S w'/\ JA F n P ops Q Cm g S m (AS.setIfInBounds i true) a' w') a w
theorem ax {Cm:Nat -> Bool} {g:Nat} {S S':World -> Prop} (hS: ∀ w,S' w -> S w): ∀ (m:Nat) (AS:Array Bool) (a:Act) (w:World),
 JA F n P ops Q Cm g S' m AS a w -> JA F n P ops Q Cm g S m AS a w
 | 0,_,_,_,h=>h
 | m+1,_,_,_,h=>⟨h.1,fun i hi=>zBv (fun _ _ h'=>⟨hS _ h'.1,ax hS m _ _ _ h'.2⟩) (h.2 i hi)⟩
theorem az {Cm:Nat -> Bool} {g:Nat} {S:World -> Prop}: ∀ (m:Nat) (AS:Array Bool) (a:Act) (w:World),JA F n P ops Q Cm g S m AS a w -> wpAnyIn F n P .any ops Q (m+g) AS a w
 | 0,_,_,_,h=>by rw [zAA];exact h.2
 | m+1,_,_,_,h=>by
  rw [show m+1+g=(m+g)+1 by omega];exact ⟨fun h0=>absurd h0 h.1,fun i hi=>zBv (fun a' w' h'=>az m _ a' w' h'.2) (aw (h.2 i hi))⟩
theorem ay (hF: ∀ f,F.fn f) (Ay:D5 ops=true) {Cm:Nat -> Bool} {g:Nat} {S:World -> Prop} {i k:Nat} {oi:Oper} {v:Value} (hi:ops[i]? =some oi) (RP: ∀ (j:Nat) (o:Oper) cs b,ops[j]? =some o -> o.op≠.select cs b)
 (hT: ∀ j,j<ops.size -> Cm j=true -> Fi ops k j i=true):
 ∀ (m:Nat) (AS:Array Bool) (a:Act) (w:World),F9 ops AS ->
  (∀ j oj,ops[j]? =some oj -> j≠i -> AS.getD j true=false -> (∀ e∈oj.after,Region.binds .any e=true -> e.on≠i) -> oi.apart ops oj=true) ->
  i∈Region.ready .any ops AS -> YieldsIf P ops S oi v a -> S w ->
  JA F n P ops Q Cm g S m (AS.setIfInBounds i true) (a.put oi.dst v) w -> JA F n P ops Q Cm g S (m+1) AS a w:=by
 intro m
 induction m with
 | zero=>
  intro AS a w BL _ hr hy hS H;have Mn:=(zB0.1 hr).1;refine ⟨fun h=>(by rw [h] at hr;cases hr),fun j hj=>?_⟩
  by_cases EP:j=i
  ·subst EP;exact Sw hF (Hy Ay hi) hi hy hS ⟨hS,H⟩
  ·exfalso
   obtain ⟨Iv,oj,FX,HU⟩:=zB0.1 hj;have OU:=(zj.1 FX).1;cases ht:Cm j with
   | true=>
    have:=WM BL k j i oj FX HU (hT j OU ht);rw [VL Mn] at this;cases this
   | false=>
    have:=H.1 j OU ht;rw [getD_set_ne true (zB2 EP),Iv] at this;cases this
 | succ m ih=>
  intro AS a w BL Rf hr hy hS H;have Mn:=(zB0.1 hr).1;refine ⟨fun h=>(by rw [h] at hr;cases hr),fun j hj=>?_⟩
  by_cases EP:j=i
  ·subst EP;exact Sw hF (Hy Ay hi) hi hy hS ⟨hS,H⟩
  ·have h1:=H.2 j (ready_mono hj EP);obtain ⟨Iv,oj,FX,HU⟩:=zB0.1 hj
   have ZA: ∀ e∈oj.after,Region.binds .any e=true -> e.on≠i:=fun e he hb OV=>by
    have h1:=HU e he hb;rw [OV,VL Mn] at h1;cases h1
   have h2:=av hF (Hy Ay FX) FX (Rf j oj FX EP Iv ZA) (fun cs b=>RP i oi cs b hi) (fun cs b=>RP j oj cs b FX) (fun c a w h=>NP.put c a _ _ w h) hy h1
   have vk: ∀ k ok,ops[k]? =some ok -> k≠i -> (AS.setIfInBounds j true).getD k true=false ->
    (∀ e∈ok.after,Region.binds .any e=true -> e.on≠i) -> oi.apart ops ok=true:=fun k ok hk RX H5 Jk=>by
    refine Rf k ok hk RX ?_ Jk
    by_cases Ra:j=k
    ·subst Ra;exact Iv
    ·rw [getD_set_ne true Ra] at H5;exact H5
   refine zBv (fun a' w' h3=>⟨h3.2.1,ih (AS.setIfInBounds j true) a' w' (BL.set hj) vk (ready_mono hr (zB2 EP)) h3.1 h3.2.1 ?_⟩) h2;rw [Array.setIfInBounds_comm _ _ EP];exact h3.2.2
def NO (F:Fence) (n:Nat) (P:Program) (ops:Array Oper) (Q:Exit -> Act -> World -> Prop):List Nat -> Act -> World -> Prop
 | [],a,w=>Q .normal a w
 | t::ts,a,w=>wpOpIn F n P ops Q t (NO F n P ops Q ts) a w
def Rg (F:Fence) (n:Nat) (P:Program) (ops:Array Oper) (Q:Exit -> Act -> World -> Prop):List (List Nat×Nat) -> List Nat -> List Nat -> Act -> World -> Prop
 | [],last,tail,a,w=>wpQuiet P ops (fun w'=>∃ x:Sv w,w'=x.W) (fun a'=>NO F n P ops Q tail a' w) (E9 ops last) a
 | (G6,i)::Fs,last,tail,a,w=>wpQuiet P ops (fun w'=>∃ x:Sv w,w'=x.W) (fun a'=>wpOpIn F n P ops (NP Q) i (fun GS CI=>Au w CI/\ Rg F n P ops Q Fs last tail GS CI) a' w) (E9 ops G6) a
theorem bo: ∀ (tail:List Nat) (AS:Array Bool) (a:Act) (w:World),Pe ops tail AS=true -> NO F n P ops Q tail a w -> wpAnyIn F n P .any ops Q tail.length AS a w
 | [],AS,a,w,hk,h=>⟨by simpa [Pe] using hk,h⟩
 | t::ts,AS,a,w,hk,h=>by
  simp only [Pe,zm,zAQ] at hk;refine ⟨fun h0=>(by rw [hk.1] at h0;cases h0),fun i hi=>?_⟩;rw [hk.1,zAB] at hi;subst hi;exact zBv (fun a' w' h'=>bo ts _ a' w' hk.2 h') h
theorem TK (hF: ∀ f,F.fn f) (Ay:D5 ops=true) {w:World} {Cm:Nat -> Bool} {g:Nat} (hs:Region.noSelect ops=true) {next:Act -> Prop} {m:Nat}:
 ∀ (l:List Nat) (AS:Array Bool) (a:Act),F9 ops AS -> Pp ops Cm l AS=true -> wpQuiet P ops (PI w) next (E9 ops l) a ->
  (∀ a',F9 ops (NV l AS) -> next a' -> JA F n P ops Q Cm g (Au w) m (NV l AS) a' w) -> JA F n P ops Q Cm g (Au w) (l.length+m) AS a w
 | [],AS,a,BL,_,h,hn=>by
  simp only [zA0,zAA];exact hn a BL h
 | i::l,AS,a,BL,hk,h,hn=>by
  simp only [Pp,zm] at hk;obtain ⟨⟨⟨⟨hr,hf⟩,hp⟩,hT⟩,CZ⟩:=hk;have Cw:i∈Region.ready .any ops AS:=by simpa using hr
  have iV: ∀ j,j<ops.size -> Cm j=true -> Fi ops ops.size j i=true:=fun j hj ht=>by
   have:=zq.1 hT j (zw.2 hj);simpa [ht] using this
  have Ky:(i::l).length+m=(l.length+m)+1:=by simp;omega
  rw [Ky];cases hi:ops[i]? with
  | none=>rw [hi] at hp;simp at hp
  | some o=>
   rw [hi] at hp;simp only [E9,hi] at h;unfold wpQuiet at h
   by_cases hw:Region.wanted o (yielded ops a.tmps)=true
   ·rw [zi hw] at h;obtain ⟨v,h1,h2⟩:=h;exact ay hF Ay hi (Region.noSelect_spec hs) iV _ AS a w BL (Region.free_spec hi hf) Cw (kj hp hw h1) (Au.refl _) (TK hF Ay hs l _ _ (BL.set Cw) CZ h2 hn)
   ·rw [zr hw] at h;exact ay hF Ay hi (Region.noSelect_spec hs) iV _ AS a w BL (Region.free_spec hi hf) Cw (.inr ⟨by simpa using hw,rfl⟩) (Au.refl _) (TK hF Ay hs l _ _ (BL.set Cw) CZ h hn)
theorem iN (hF: ∀ f,F.fn f) (Ay:D5 ops=true) {Cm:Nat -> Bool} (hs:Region.noSelect ops=true):
 ∀ (EL:List (List Nat×Nat)) (last tail:List Nat) (AS:Array Bool) (a:Act) (w:World),F9 ops AS -> Pq ops Cm EL last tail AS=true -> Rg F n P ops Q EL last tail a w ->
  JA F n P ops Q Cm tail.length (Au w) (VA EL last) AS a w
 | [],last,tail,AS,a,w,BL,hk,h=>by
  simp only [Pq,zm] at hk;obtain ⟨⟨h1,h2⟩,h3⟩:=hk
  have:=TK (m:=0) hF Ay hs last AS a BL h1 h (fun a' _ hq=>⟨fun j hj ht=>by
   have:=zq.1 h2 j (zw.2 hj);simpa [ht] using this,bo tail _ a' w h3 hq⟩)
  simpa [VA] using this
 | (G6,i)::Fs,last,tail,AS,a,w,BL,hk,h=>by
  simp only [Pq,zm,zAQ] at hk;obtain ⟨⟨h1,h2⟩,h3⟩:=hk;refine TK hF Ay hs G6 AS a BL h1 h fun a' vz hq=>?_
  rw [Nat.add_comm 1];refine ⟨fun h0=>(by rw [h2] at h0;cases h0),fun j hj=>?_⟩;have BH:=hj;rw [h2,zAB] at hj;subst hj;refine zBv (fun GS CI h'=>⟨h'.1,?_⟩) hq;exact ax (fun W hW=>h'.1.trans hW) _ _ _ _ (iN hF Ay hs Fs last tail _ GS CI (vz.set BH) h3 h'.2)
theorem kr {id:Nat} {a:Act} {w:World} (hF: ∀ f,F.fn f) (EL:List (List Nat×Nat)) (last tail:List Nat) (hm:P.follows .mixedOrders=true) (hB:(Wr ops EL last tail&&D5 ops)=true)
 (h:Rg F n P ops Q EL last tail a w.drew):(Code.region id ops true).wpIn F n P Q a w:=by
 simp only [Wr,zm,zAQ] at hB;obtain ⟨⟨⟨h1,h2⟩,h3⟩,h4⟩:=hB
 have BL:F9 ops (Array.replicate ops.size false):=fun j oj _ hl=>by
  exfalso
  rcases zA2 j ops.size with h | h
  ·simp [h] at hl
  ·simp [h] at hl
 have:=az _ _ _ _ (iN hF h4 h1 EL last tail _ a w.drew BL h3 h);rw [h2] at this;exact wpIn_region_any hm this
theorem bp: ∀ (tail:List Nat) (a:Act) (w:World),(∀ t∈tail,t<ops.size) -> wpListIn F n P ops Q (E9 ops tail) a w -> NO F n P ops Q tail a w
 | [],_,_,_,h=>h
 | t::ts,a,w,hl,h=>by
  have ht:ops[t]? =some (ops[t]'(hl t (by simp))):=zAV _;simp only [E9,ht] at h;unfold NO wpOpIn;simp only [ht];unfold wpListIn at h;have hm: ∀ a w,wpListIn F n P ops Q (E9 ops ts) a w -> NO F n P ops Q ts a w:=fun a w h=>bp ts a w (fun t ht=>hl t (by simp [ht])) h
  by_cases hw:Region.wanted (ops[t]'(hl t (by simp))) (yielded ops a.tmps)=true
  ·rw [zi hw] at h ⊢;exact Oper.wpIn_mono hm h
  ·rw [zr hw] at h ⊢;exact ⟨h.1,hm _ _ h.2⟩
theorem vp {last tail:List Nat} {a:Act} {w:World} (ht:(tail.all fun t=>decide (t<ops.size))=true)
 (h:wpQuiet P ops (fun w'=>∃ x:Sv w,w'=x.W) (fun a'=>wpListIn F n P ops Q (E9 ops tail) a' w) (E9 ops last) a):
 Rg F n P ops Q [] last tail a w:=by
 refine WI _ _ _ _ (fun a' h=>?_) h;exact bp tail a' w (fun t h=>by simpa using zq.1 ht t h) h
end
end Go.Proofs.YtgkhhfnhacibcaaGreatDoor
namespace Go.Proofs.YtgkhhfnhacibcaaGreatDoor
abbrev zt:=@Nat.le_trans
abbrev zu:=@Nat.lt_of_lt_of_le
abbrev z8:=@List.mem_cons
abbrev zAX:=@List.mem_of_getElem?
abbrev zAx:=@Go.World.putObj_heap_other
abbrev zBj:=@Go.wpIn_mono
abbrev zCH:=@Go.RowKit.Below.block
end Go.Proofs.YtgkhhfnhacibcaaGreatDoor
namespace Go.Proofs.YtgkhhfnhacibcaaGreatDoor
open Go.RowKit
structure AN (S:Nat -> Prop) (w w':World):Prop where
 os:w'.os=w.os
 tape:w'.tape=w.tape
 output:w'.output=w.output
 size:w.heap.size<=w'.heap.size
 block: ∀ k,k<w.heap.size -> ¬ S k -> w'.heap[k]? =w.heap[k]?
theorem AN.refl (S:Nat -> Prop) (w:World):AN S w w:=⟨rfl,rfl,rfl,zAF _,fun _ _ _=>rfl⟩
theorem AN.comp {S S':Nat -> Prop} {a b c:World} (h:AN S a b) (k:AN S' b c) (hs: ∀ i,i<a.heap.size -> S' i -> S i):AN S a c:=
 ⟨k.os.trans h.os,k.tape.trans h.tape,k.output.trans h.output,zt h.size k.size,
  fun i hi hn=>(k.block i (zu hi h.size) (fun hx=>hn (hs i hi hx))).trans (h.block i hi hn)⟩
theorem AN.trans {S:Nat -> Prop} {a b c:World} (h:AN S a b) (k:AN S b c):AN S a c:=h.comp k fun _ _ h=>h
theorem AN.mono {S S':Nat -> Prop} {a b:World} (h:AN S a b) (hs: ∀ i,i<a.heap.size -> S i -> S' i):AN S' a b:=
 ⟨h.os,h.tape,h.output,h.size,fun i hi hn=>h.block i hi fun hx=>hn (hs i hi hx)⟩
theorem AN.ofExt {S:Nat -> Prop} {a b:World} (h:Au a b):AN S a b:=⟨Below.os h,Below.tape h,Below.output h,Below.size h,fun i hi _=>zCH h i hi⟩
theorem AN.toExt {S:Nat -> Prop} {a b:World} (h:AN S a b) (hs: ∀ i,i<a.heap.size -> ¬ S i):Au a b:=⟨h.os,h.tape,h.output,h.size,fun i hi=>h.block i hi (hs i hi)⟩
theorem AN.alloc {S:Nat -> Prop} {a b:World} (h:AN S a b) (o:Obj):AN S a (b.alloc o):=h.trans (AN.ofExt (Au.alloc b o))
theorem AN.setCell {S:Nat -> Prop} {a b:World} (h:AN S a b) {p:Addr} (hp:p.block<a.heap.size -> S p.block) (u:Value):AN S a (b.setCell p u):=by
 refine h.comp (S':=fun k=>k=p.block) ⟨rfl,rfl,rfl,?_,fun k _ hk=>?_⟩ (fun i hi e=>by cases e;exact hp hi)
 ·show b.heap.size<=(b.heap.modify _ _).size
  rw [Array.size_modify];exact zAF _
 ·exact Below.heap_setCell b p u k hk
theorem AN.putObj {S:Nat -> Prop} {a b:World} (h:AN S a b) {l:Nat} (hl:l<a.heap.size -> S l) (o:Obj):AN S a (b.putObj l o):=by
 refine h.comp (S':=fun k=>k=l) ⟨rfl,rfl,rfl,by simp,fun k _ hk=>zAx hk⟩ (fun i hi e=>by cases e;exact hl hi)
theorem AN.cell {S:Nat -> Prop} {a b:World} (h:AN S a b) {p:Addr} {u:Value} (hs: ¬ S p.block) (hc:a.cell? p=some u):b.cell? p=some u:=by
 rw [World.cell?_of_block (h.block p.block (zBA a p hc) hs)];exact hc
def Ej (I:(Nat -> Prop) -> World -> Prop):Prop:=
 ∀ (G G':Nat -> Prop) (A B:World),I G A -> AN G A B -> (∀ k,G' k -> G k∨A.heap.size<=k) -> (∀ k,G' k -> k<B.heap.size) -> I G' B
def TZ (Keep:Nat -> Prop) (I:World -> Prop) (Ix:Code -> World -> Prop) (W:World):Exit -> Act -> World -> Prop
 | .normal,_,W'=>AN (fun k=>¬ Keep k) W W'/\ I W'
 | .ret,_,W'=>AN (fun k=>¬ Keep k) W W'/\ Ix .ret W'
 | .exit id,_,W'=>AN (fun k=>¬ Keep k) W W'/\ Ix (.exit id) W'
 | .goto t,_,W'=>AN (fun k=>¬ Keep k) W W'/\ Ix (.goto t) W'
 | .panic _,_,_=>False
 | .outgrown,_,_=>False
def IX (P:Program) (g:Nat) (lb:Array Value) (encs:List (Array Value)) (G0 Rd:Nat -> Prop) (w:World):Prop:=
 ∀ (l:Nat) (J:Nat -> (Nat -> Prop) -> World -> Prop) (Jx:(Nat -> Prop) -> World -> Prop) (G:Nat -> Prop) (W:World),
  (∀ i,Ej (J i)) -> Ej Jx -> AN (fun k=>¬ (G0 k∨Rd k)) w W -> (∀ k,G0 k -> G k) -> (∀ k,G k -> k<W.heap.size) ->
  (∀ i args G W1,encs[i]? =some args -> J i G W1 -> YieldAt Fence.wide 0 P l args W1 fun e W'=>
   AN (fun k=>¬ (G k∨Rd k)) W1 W'/\ ((e= .returned (.bool true)/\ J (i+1) G W')∨(e= .returned (.bool false)/\ Jx G W'))) ->
  J 0 G W ->
  CallsIn Fence.wide 0 P g (#[.func (.yield l) #[] #[]]++lb) W fun e W'=>(∃ v,e= .returned v)/\ ((∃ G',J encs.length G' W')∨(∃ G',Jx G' W'))
section
variable {P:Program}
theorem di {ps:Array Tmp} {assign body:Code} {a:Act} {gf:Nat} {lb:Array Value} {encs:List (Array Value)} {G0 Rd:Nat -> Prop} {w0 W1:World} {l D dd:Nat} {fn:FuncId} {loose:Bool}
 (hseq:IX P gf lb encs G0 Rd w0) (wD:AN (fun k=>¬ (G0 k∨Rd k)) w0 W1) (I2: ∀ k,G0 k -> k<l/\ k≠D) (I0: ∀ k,Rd k -> k≠l) (Dn: ∀ x∈encs,x.size=ps.size)
 (B7:LoopState -> Option Code -> Loop) (E1: ∀ st pe,B7 st pe= { state:=st,pending:=pe,fn,tmps:=a.tmps,params:=ps,assign,body,defers:=dd })
 (FZ:W1.heap[l]? =some (.loop (B7 .ready none))) (wY:loose=false -> W1.heap[D]? =some (.deferred (some []))) (g9:D≠l)
 (I:Nat -> (Nat -> Prop) -> World -> Prop) (Ix:Code -> (Nat -> Prop) -> World -> Prop) (hI: ∀ i,Ej (I i)) (I1: ∀ c,Ej (Ix c)) (own:Nat -> Prop) (Jj: ∀ k,own k -> k=l∨(loose=false/\ k=D)) (H7:own l) (U4:loose=false -> own D)
 (h0:I 0 (fun k=>G0 k∨own k) W1)
 (DU: ∀ (G:Nat -> Prop) (i:Nat) (x:Array Value) (W:World),encs[i]? =some x -> I i G W -> (∃ r,W.heap[l]? =some (.loop r)) -> G l ->
  assign.wpIn (Fence.wide.inRound l) 0 P (Exit.then (fun a₁ W₁=>∃ K:(Nat -> Prop) -> World -> Prop,Ej K/\ AN (fun k=>¬ (G k∨Rd k)) W W₁/\ K G W₁/\ ∀ W₂,K G W₂ -> (∃ r,W₂.heap[l]? =some (.loop r)) ->
   body.wpIn (Fence.wide.inRound l) 0 P (TZ (fun k=>G k∨Rd k) (I (i+1) G) (fun c=>Ix c G) W₂) a₁ W₂) (fun _ _ _=>False)) { tmps:=(ps.zip x).foldl (fun t (p,v)=>t.setIfInBounds p v) a.tmps,defers:=[] } W):
 CallsIn Fence.wide 0 P gf (#[.func (.yield l) #[] #[]]++lb) W1 fun e W2=>(∃ v,e= .returned v)/\
  ((∃ G,I encs.length G W2/\ (∀ k,G k -> k<W2.heap.size)/\ G l/\ (loose=false -> G D)/\ W2.heap[l]? =some (.loop (B7 .ready none))/\ (loose=false -> W2.heap[D]? =some (.deferred (some []))))∨
   (∃ c G,Ix c G W2/\ (∀ k,G k -> k<W2.heap.size)/\ G l/\ (loose=false -> G D)/\ W2.heap[l]? =some (.loop (B7 .done (some c)))/\ (loose=false -> W2.heap[D]? =some (.deferred (some []))))):=by
 have nG: ∀ (G G':Nat -> Prop) (A:World) (k:Nat) (o:Obj),¬ G k -> A.heap[k]? =some o -> (∀ k,G' k -> G k∨A.heap.size<=k) -> ¬ G' k:=fun G G' A k o hn hk hg hx=>by
  have AK:=(zj.1 hk).1;rcases hg k hx with h | h
  ·exact hn h
  ·omega
 have kept: ∀ (G:Nat -> Prop) (A B:World) (k:Nat) (o:Obj),¬ G k -> A.heap[k]? =some o -> AN G A B -> B.heap[k]? =some o:=fun G A B k o hn hk hu=>
  (hu.block k (zj.1 hk).1 hn).trans hk
 have CT: ∀ (Φ:(Nat -> Prop) -> World -> Prop) (r:Loop),Ej Φ -> Ej (fun G W=>Φ (fun k=>G k∨own k) W/\ ¬ G l/\ (loose=false -> ¬ G D)/\ W.heap[l]? =some (.loop r)/\ (loose=false -> W.heap[D]? =some (.deferred (some [])))/\ ∀ k,G k -> k<W.heap.size):=by
  intro Φ r hΦ G G' A B ⟨h1,h2,h3,h4,h5,h6⟩ hu hg ET;refine ⟨hΦ _ _ A B h1 (hu.mono fun i _ h=>.inl h) (fun k hk=>?_) (fun k hk=>hk.elim (ET k) fun ho=>zu ((Jj k ho).elim (fun e=>e▸(zj.1 h4).1) (fun e=>e.2▸(zj.1 (h5 e.1)).1)) hu.size),nG G G' A l _ h2 h4 hg,fun hl=>nG G G' A D _ (h3 hl) (h5 hl) hg,kept G A B l _ h2 h4 hu,fun hl=>kept G A B D _ (h3 hl) (h5 hl) hu,ET⟩;rcases hk with hk | hk
  ·exact (hg k hk).imp .inl id
  ·exact .inl (.inr hk)
 refine (hseq l
  (fun i G W=>I i (fun k=>G k∨own k) W/\ ¬ G l/\ (loose=false -> ¬ G D)/\ W.heap[l]? =some (.loop (B7 .ready none))/\ (loose=false -> W.heap[D]? =some (.deferred (some [])))/\ ∀ k,G k -> k<W.heap.size)
  (fun G W=>∃ c,Ix c (fun k=>G k∨own k) W/\ ¬ G l/\ (loose=false -> ¬ G D)/\ W.heap[l]? =some (.loop (B7 .done (some c)))/\ (loose=false -> W.heap[D]? =some (.deferred (some [])))/\ ∀ k,G k -> k<W.heap.size)
  G0 W1 (fun i=>CT (I i) _ (hI i)) (fun G G' A B ⟨c,h⟩ hu hg ET=>⟨c,CT (Ix c) _ (I1 c) G G' A B h hu hg ET⟩) wD (fun _ h=>h) (fun k h=>Nat.lt_trans (I2 k h).1 (zj.1 FZ).1) ?_
  ⟨h0,fun h=>by have:=(I2 l h).1;omega,fun _ h=>(I2 D h).2 rfl,FZ,wY,fun k h=>Nat.lt_trans (I2 k h).1 (zj.1 FZ).1⟩).mono ?_
 ·rintro i x G W hx ⟨hi,FY,Ay,hl,hd,ET⟩;have Ma:x∈encs:=zAX hx;have AK:l<W.heap.size:=(zj.1 hl).1;have Cx: ∀ k,(G k∨own k) -> k<W.heap.size:=fun k hk=>hk.elim (ET k) fun ho=>(Jj k ho).elim (fun e=>e▸AK) (fun e=>e.2▸(zj.1 (hd e.1)).1)
  have hy:=run_yield (P:=P) (args:=x) hl (by rw [E1];exact Dn x Ma);rw [E1] at hy;refine ⟨fn,_,assign,body,hy,roundIn_of_wpIn trivial (zBj (DU _ i x W hx hi ⟨_,hl⟩ (.inr H7)) ?_)⟩;rintro e a1 Hb hq;cases e <;> first | exact hq.elim | skip
  obtain ⟨K,hK,Gh,va,hb⟩:=hq;have Uu:AN (fun k=>¬ (G k∨Rd k)) W Hb:=Gh.mono fun k _ h hx=>h (hx.imp .inl id)
  have hl:=(Gh.block l AK (fun h=>h (.inl (.inr H7)))).trans hl;have hd:loose=false -> Hb.heap[D]? =some (.deferred (some [])):=fun h=>(Gh.block D (zj.1 (hd h)).1 (fun hx=>hx (.inl (.inr (U4 h))))).trans (hd h)
  have AK:l<Hb.heap.size:=zu AK Gh.size;have ET: ∀ k,G k -> k<Hb.heap.size:=fun k h=>zu (ET k h) Gh.size
  have Cx: ∀ k,(G k∨own k) -> k<Hb.heap.size:=fun k h=>zu (Cx k h) Gh.size
  refine ⟨_,run_beginRound hl (by rw [E1]),?_⟩;have CY:(Hb.putObj l (.loop { B7 .ready none with state:=.busy })).heap[l]? =some (.loop { B7 .ready none with state:=.busy }):=World.putObj_heap_same AK;have ZS:loose=false -> (Hb.putObj l (.loop { B7 .ready none with state:=.busy })).heap[D]? =some (.deferred (some [])):=fun h=>(zAx g9).trans (hd h)
  have HO:AN (fun k=>G k∨own k) Hb (Hb.putObj l (.loop { B7 .ready none with state:=.busy })):=(AN.refl _ Hb).putObj (fun _=>.inr H7) _;refine zBj (hb _ (hK _ _ _ _ va HO (fun k h=>.inl h) (fun k h=>zu (Cx k h) HO.size)) ⟨_,CY⟩) ?_
  have fin: ∀ (FU:Option Code) (W3:World),AN (fun k=>¬ ((G k∨own k)∨Rd k)) (Hb.putObj l (.loop { B7 .ready none with state:=.busy })) W3 ->
   (Instr.endRound l FU).run P W3= .ok (.bool FU.isNone) (W3.putObj l (.loop (B7 (if FU.isNone then .ready else .done) FU)))/\
   W3.heap[l]? =some (.loop { B7 .ready none with state:=.busy })/\
   (W3.putObj l (.loop (B7 (if FU.isNone then .ready else .done) FU))).heap[l]? =some (.loop (B7 (if FU.isNone then .ready else .done) FU))/\
   (loose=false -> (W3.putObj l (.loop (B7 (if FU.isNone then .ready else .done) FU))).heap[D]? =some (.deferred (some [])))/\
   AN (fun k=>¬ (G k∨Rd k)) Hb (W3.putObj l (.loop (B7 (if FU.isNone then .ready else .done) FU)))/\
   AN (fun k=>G k∨own k) W3 (W3.putObj l (.loop (B7 (if FU.isNone then .ready else .done) FU))):=fun FU W3 De=>by
   have Mm:W3.heap[l]? =some (.loop { B7 .ready none with state:=.busy }):=(De.block l (by simpa using AK) (fun h=>h (.inl (.inr H7)))).trans CY;have:=run_endRound (P:=P) FU Mm;refine ⟨by rw [E1] at this ⊢;exact this,Mm,World.putObj_heap_same (zj.1 Mm).1,fun h=>(zAx g9).trans ((De.block D ?_ (fun hx=>hx (.inl (.inr (U4 h))))).trans (ZS h)),?_,(AN.refl _ W3).putObj (fun _=>.inr H7) _⟩
   ·simpa using (zj.1 (hd h)).1
   ·refine ⟨De.os,De.tape,De.output,by simpa using De.size,fun k hk hn=>?_⟩;have ii:G k∨Rd k:=Classical.not_not.1 hn
    by_cases Bm:k=l
    ·subst Bm;exact (ii.elim FY (fun h=>I0 k h rfl)).elim
    ·rw [zAx Bm,De.block k (by simpa using hk) (fun hx=>hx (ii.imp .inl id)),zAx Bm]
  rintro e a3 W3 hp;cases e with
  | normal=>
   obtain ⟨De,Mo⟩:=hp;obtain ⟨hr,Mm,Ml,Mr,Me,Fy⟩:=fin none W3 De;exact ⟨_,_,hr,Uu.comp Me (fun _ _ h=>h),.inl ⟨rfl,hI _ _ _ _ _ Mo Fy (fun k h=>.inl h) (fun k h=>zu (Cx k h) (zt HO.size (zt De.size Fy.size))),FY,Ay,Ml,Mr,fun k h=>zu (ET k h) (zt HO.size (zt De.size Fy.size))⟩⟩
  | ret=>
   obtain ⟨De,Mo⟩:=hp;obtain ⟨hr,Mm,Ml,Mr,Me,Fy⟩:=fin (some .ret) W3 De;exact ⟨_,_,hr,Uu.comp Me (fun _ _ h=>h),.inr ⟨rfl,.ret,I1 _ _ _ _ _ Mo Fy (fun k h=>.inl h) (fun k h=>zu (Cx k h) (zt HO.size (zt De.size Fy.size))),FY,Ay,Ml,Mr,fun k h=>zu (ET k h) (zt HO.size (zt De.size Fy.size))⟩⟩
  | exit id=>
   obtain ⟨De,Mo⟩:=hp;obtain ⟨hr,Mm,Ml,Mr,Me,Fy⟩:=fin (some (.exit id)) W3 De;exact ⟨_,_,hr,Uu.comp Me (fun _ _ h=>h),.inr ⟨rfl,.exit id,I1 _ _ _ _ _ Mo Fy (fun k h=>.inl h) (fun k h=>zu (Cx k h) (zt HO.size (zt De.size Fy.size))),FY,Ay,Ml,Mr,fun k h=>zu (ET k h) (zt HO.size (zt De.size Fy.size))⟩⟩
  | goto t=>
   obtain ⟨De,Mo⟩:=hp;obtain ⟨hr,Mm,Ml,Mr,Me,Fy⟩:=fin (some (.goto t)) W3 De;exact ⟨_,_,hr,Uu.comp Me (fun _ _ h=>h),.inr ⟨rfl,.goto t,I1 _ _ _ _ _ Mo Fy (fun k h=>.inl h) (fun k h=>zu (Cx k h) (zt HO.size (zt De.size Fy.size))),FY,Ay,Ml,Mr,fun k h=>zu (ET k h) (zt HO.size (zt De.size Fy.size))⟩⟩
  | panic ch=>exact hp.elim
  | outgrown=>exact hp.elim
 ·have ob: ∀ (G:Nat -> Prop) (W2:World) (r:Loop),W2.heap[l]? =some (.loop r) -> (loose=false -> W2.heap[D]? =some (.deferred (some []))) -> (∀ k,G k -> k<W2.heap.size) -> ∀ k,(G k∨own k) -> k<W2.heap.size:=fun G W2 r h4 h5 h6 k hk=>
   hk.elim (h6 k) fun ho=>(Jj k ho).elim (fun e=>e▸(zj.1 h4).1) (fun e=>e.2▸(zj.1 (h5 e.1)).1)
  rintro e W2 ⟨hv,(⟨G,h1,h2,h3,h4,h5,h6⟩ | ⟨G,c,h1,h2,h3,h4,h5,h6⟩)⟩
  ·exact ⟨hv,.inl ⟨_,h1,ob _ _ _ h4 h5 h6,.inr H7,fun h=>.inr (U4 h),h4,h5⟩⟩
  ·exact ⟨hv,.inr ⟨c,_,h1,ob _ _ _ h4 h5 h6,.inr H7,fun h=>.inr (U4 h),h4,h5⟩⟩
theorem kz {g:Operand} {ps:Array Tmp} {assign body:Code} {Q:Exit -> Act -> World -> Prop} {a:Act} {w:World}
 {gf:Nat} {lb:Array Value} (hg:a.eval g= .func (.func gf) #[] lb) (eg: ∀ args w,(callFunc gf args).run P w= .ok (.enter gf args) w)
 {encs:List (Array Value)} {G0 Rd:Nat -> Prop} (hseq:IX P gf lb encs G0 Rd w) (I2: ∀ k,G0 k -> k<w.heap.size) (I0: ∀ k,Rd k -> k<w.heap.size) (Dn: ∀ x∈encs,x.size=ps.size)
 (I:Nat -> (Nat -> Prop) -> World -> Prop) (Ix:Code -> (Nat -> Prop) -> World -> Prop) (hI: ∀ i,Ej (I i)) (I1: ∀ c,Ej (Ix c)) (h0:I 0 G0 w)
 (DU: ∀ (l:Nat) (G:Nat -> Prop) (i:Nat) (x:Array Value) (W:World),encs[i]? =some x -> I i G W -> (∃ r,W.heap[l]? =some (.loop r)) -> G l ->
  assign.wpIn (Fence.wide.inRound l) 0 P (Exit.then (fun a₁ W₁=>∃ K:(Nat -> Prop) -> World -> Prop,Ej K/\ AN (fun k=>¬ (G k∨Rd k)) W W₁/\ K G W₁/\ ∀ W₂,K G W₂ -> (∃ r,W₂.heap[l]? =some (.loop r)) ->
   body.wpIn (Fence.wide.inRound l) 0 P (TZ (fun k=>G k∨Rd k) (I (i+1) G) (fun c=>Ix c G) W₂) a₁ W₂) (fun _ _ _=>False)) { tmps:=(ps.zip x).foldl (fun t (p,v)=>t.setIfInBounds p v) a.tmps,defers:=[] } W)
 (EB: ∀ (D:Nat) (G:Nat -> Prop) (W:World),I encs.length G W -> W.heap[D]? =some (.deferred (some [])) -> G D -> w.heap.size<=D ->
  Q .normal { a with defers:={ target:=.collected D,args:=#[] }::a.defers } W)
 (OJ: ∀ (D:Nat) (c:Code) (G:Nat -> Prop) (W:World),Ix c G W -> W.heap[D]? =some (.deferred (some [])) -> G D -> w.heap.size<=D ->
  c.wpIn Fence.wide 0 P Q { a with defers:={ target:=.collected D,args:=#[] }::a.defers } W):
 (Code.rangeFunc g ps assign body).wpIn Fence.wide 0 P Q a w:=by
 refine wpIn_rangeFunc ?_;intro fn _;have Ks:(w.alloc (.deferred (some []))).heap.size=w.heap.size+1:=World.size_alloc _ _;obtain ⟨B7,E1⟩: ∃ B7:LoopState -> Option Code -> Loop,∀ st pe,B7 st pe= { state:=st,pending:=pe,fn,tmps:=a.tmps,params:=ps,assign,body,defers:=w.heap.size }:=⟨_,fun _ _=>rfl⟩;obtain ⟨W1,IB⟩: ∃ W1,(w.alloc (.deferred (some []))).alloc (.loop (B7 .ready none))=W1:=⟨_,rfl⟩
 have Jt:W1.heap[w.heap.size+1]? =some (.loop (B7 .ready none)):=by
  rw [←IB];have:=World.alloc_heap_new (w.alloc (.deferred (some []))) (.loop (B7 .ready none));rwa [World.size_alloc] at this
 have wU:W1.heap[w.heap.size]? =some (.deferred (some [])):=by
  rw [←IB];exact (Below.heap_alloc _ _ _ (by simp)).trans (World.alloc_heap_new w _)
 have hu: ∀ S,AN S w W1:=fun S=>by rw [←IB];exact ((AN.refl S w).alloc _).alloc _
 refine ⟨w.heap.size+1,[{ target:=.collected w.heap.size,args:=#[] }],W1,{ target:=.fn (.func gf) lb,args:=#[.func (.yield (w.heap.size+1)) #[] #[]] },W1,gf,
  #[.func (.yield (w.heap.size+1)) #[] #[]]++lb,W1,?_,?_,fun _ _=>trivial,?_,(fun h=>by cases h),?_⟩
 ·rw [←IB,E1];exact run_enterLoop_outer _ _ _ _ _
 ·simp only [resolve,hg];simp [go_sem]
 ·simp [invoke,go_sem,eg]
 ·refine (di (loose:=false) (D:=w.heap.size) hseq (hu _) (fun k h=>by have:=I2 k h;omega) (fun k h=>by have:=I0 k h;omega) Dn B7 E1 Jt (fun _=>wU) (by omega)
   I Ix hI I1 (fun k=>k=w.heap.size+1∨k=w.heap.size) (fun k h=>h.imp id fun h=>⟨rfl,h⟩) (.inl rfl) (fun _=>.inr rfl)
   (hI 0 _ _ _ _ h0 (hu _) (fun k h=>h.imp id (by omega)) (fun k h=>by have h2:=(zj.1 Jt).1;rcases h with h | h | h <;> first | omega | (have:=I2 k h;omega))) (DU _)).mono ?_
  rintro e W2 ⟨⟨v,rfl⟩,(⟨G,hi,ET,_,ZL,hl,hk⟩ | ⟨c,G,hi,ET,Ee,ZL,hl,hk⟩)⟩
  ·exact ⟨none,_,by have:=run_endLoop (P:=P) hl (by rw [E1];simp);rw [E1] at this;exact this,
    EB _ _ _ (hI _ _ _ _ _ hi ((AN.refl _ W2).putObj (fun _=>by assumption) _) (fun k h=>.inl h) (fun k h=>by simpa using ET k h)) ((zAx (by omega)).trans (hk rfl)) (ZL rfl) (zAF _)⟩
  ·exact ⟨some c,_,by have:=run_endLoop (P:=P) hl (by rw [E1];simp);rw [E1] at this;exact this,
    OJ _ c _ _ (I1 _ _ _ _ _ hi ((AN.refl _ W2).putObj (fun _=>Ee) _) (fun k h=>.inl h) (fun k h=>by simpa using ET k h)) ((zAx (by omega)).trans (hk rfl)) (ZL rfl) (zAF _)⟩
theorem lA {l0:Nat} {g:Operand} {ps:Array Tmp} {assign body:Code} {Q:Exit -> Act -> World -> Prop} {a:Act} {w:World}
 {gf:Nat} {lb:Array Value} (hg:a.eval g= .func (.func gf) #[] lb) (eg: ∀ args w,(callFunc gf args).run P w= .ok (.enter gf args) w) (ZE: ∃ r,w.heap[l0]? =some (.loop r))
 {encs:List (Array Value)} {G0 Rd:Nat -> Prop} (hseq:IX P gf lb encs G0 Rd w) (I2: ∀ k,G0 k -> k<w.heap.size) (I0: ∀ k,Rd k -> k<w.heap.size) (Dn: ∀ x∈encs,x.size=ps.size)
 (I:Nat -> (Nat -> Prop) -> World -> Prop) (Ix:Code -> (Nat -> Prop) -> World -> Prop) (hI: ∀ i,Ej (I i)) (I1: ∀ c,Ej (Ix c)) (h0:I 0 G0 w)
 (DU: ∀ (l:Nat) (G:Nat -> Prop) (i:Nat) (x:Array Value) (W:World),encs[i]? =some x -> I i G W -> (∃ r,W.heap[l]? =some (.loop r)) -> G l ->
  assign.wpIn (Fence.wide.inRound l) 0 P (Exit.then (fun a₁ W₁=>∃ K:(Nat -> Prop) -> World -> Prop,Ej K/\ AN (fun k=>¬ (G k∨Rd k)) W W₁/\ K G W₁/\ ∀ W₂,K G W₂ -> (∃ r,W₂.heap[l]? =some (.loop r)) ->
   body.wpIn (Fence.wide.inRound l) 0 P (TZ (fun k=>G k∨Rd k) (I (i+1) G) (fun c=>Ix c G) W₂) a₁ W₂) (fun _ _ _=>False)) { tmps:=(ps.zip x).foldl (fun t (p,v)=>t.setIfInBounds p v) a.tmps,defers:=[] } W)
 (EB: ∀ (G:Nat -> Prop) (W:World),I encs.length G W -> Q .normal a W)
 (OJ: ∀ (c:Code) (G:Nat -> Prop) (W:World),Ix c G W -> c.wpIn (Fence.wide.inRound l0) 0 P Q a W):
 (Code.rangeFunc g ps assign body).wpIn (Fence.wide.inRound l0) 0 P Q a w:=by
 refine wpIn_rangeFunc ?_;intro fn _;obtain ⟨r0,Dd⟩:=ZE;obtain ⟨B7,E1⟩: ∃ B7:LoopState -> Option Code -> Loop,∀ st pe,B7 st pe= { state:=st,pending:=pe,fn,tmps:=a.tmps,params:=ps,assign,body,defers:=r0.defers }:=⟨_,fun _ _=>rfl⟩;obtain ⟨W1,IB⟩: ∃ W1,w.alloc (.loop (B7 .ready none))=W1:=⟨_,rfl⟩
 have Jt:W1.heap[w.heap.size]? =some (.loop (B7 .ready none)):=by
  rw [←IB];exact World.alloc_heap_new w _
 have hu: ∀ S,AN S w W1:=fun S=>by rw [←IB];exact (AN.refl S w).alloc _
 refine ⟨w.heap.size,[],W1,{ target:=.fn (.func gf) lb,args:=#[.func (.yield w.heap.size) #[] #[]] },W1,gf,
  #[.func (.yield w.heap.size) #[] #[]]++lb,W1,?_,?_,fun _ _=>trivial,?_,(fun h=>by cases h),?_⟩
 ·rw [←IB,E1];exact run_enterLoop_inner Dd _ _ _ _ _
 ·simp only [resolve,hg];simp [go_sem]
 ·simp [invoke,go_sem,eg]
 ·refine CallsIn.inRound _ ((di (loose:=true) (D:=w.heap.size+1) (G0:=G0) hseq (hu _) (fun k h=>by have:=I2 k h;omega) (fun k h=>by have:=I0 k h;omega) Dn B7 E1 Jt (fun h=>by cases h) (by omega)
   I Ix hI I1 (fun k=>k=w.heap.size) (fun k h=>.inl h) rfl (fun h=>by cases h)
   (hI 0 _ _ _ _ h0 (hu _) (fun k h=>h.imp id (by omega)) (fun k h=>by have h2:=(zj.1 Jt).1;rcases h with h | h <;> first | omega | (have:=I2 k h;omega))) (DU _)).mono ?_)
  rintro e W2 ⟨⟨v,rfl⟩,(⟨G,hi,ET,Ee,_,hl,_⟩ | ⟨c,G,hi,ET,Ee,_,hl,_⟩)⟩
  ·exact ⟨none,_,by have:=run_endLoop (P:=P) hl (by rw [E1];simp);rw [E1] at this;exact this,
    EB _ _ (hI _ _ _ _ _ hi ((AN.refl _ W2).putObj (fun _=>Ee) _) (fun k h=>.inl h) (fun k h=>by simpa using ET k h))⟩
  ·exact ⟨some c,_,by have:=run_endLoop (P:=P) hl (by rw [E1];simp);rw [E1] at this;exact this,
    OJ c _ _ (I1 _ _ _ _ _ hi ((AN.refl _ W2).putObj (fun _=>Ee) _) (fun k h=>.inl h) (fun k h=>by simpa using ET k h))⟩
end
def EH (B:Nat):List Deferred -> World -> Prop
 | [],_=>True
 | d::ds,w=>∃ D,d= { target:=.collected D,args:=#[] }/\ B<=D/\ w.heap[D]? =some (.deferred (some []))/\ (∀ d'∈ds,d'.target≠.collected D)/\ EH B ds w
theorem EH.upd {B:Nat} {S:Nat -> Prop} {w w':World} (hu:AN S w w'): ∀ {ds:List Deferred},EH B ds w -> (∀ k,B<=k -> S k -> w.heap[k]? ≠some (.deferred (some []))) -> EH B ds w'
 | [],_,_=>trivial
 | _::_,⟨D,h1,h2,h3,h4,h5⟩,hs=>⟨D,h1,h2,(hu.block D (zj.1 h3).1 (fun hx=>hs D h2 hx h3)).trans h3,h4,EH.upd hu h5 hs⟩
theorem EH.lt {B:Nat} {w:World}: ∀ {ds:List Deferred} (_:EH B ds w) {d:Deferred} {D:Nat},d∈ds -> d.target= .collected D -> D<w.heap.size
 | _::_,⟨D,h1,h2,h3,h4,h5⟩,d,D',hm,ht=>by
  rcases z8.1 hm with rfl | hm
  ·subst h1;cases ht;exact (zj.1 h3).1
  ·exact EH.lt h5 hm ht
def Su (B:Nat) (w W:World):Prop:=AN (fun k=>B<=k/\ w.heap[k]? =some (.deferred (some []))) w W
def pn (B:Nat) (P:Program) (fn:Func) (R:Ending -> World -> Prop):Exit -> Act -> World -> Prop
 | .normal,a,w | .ret,a,w=>EH B a.defers w/\ ∀ W,Su B w W -> ∃ v,(results fn a.tmps).run P W= .ok v W/\ R (.returned v) W
 | _,_,_=>False
theorem fh {B:Nat} {P:Program} {fn:Func} {tmps:Array Value} {R:Ending -> World -> Prop}: ∀ (ds:List Deferred) (w:World),EH B ds w ->
 (∀ W,Su B w W -> ∃ v,(results fn tmps).run P W= .ok v W/\ R (.returned v) W) -> LeavesInM Fence.wide 0 P fn tmps R ds .returning w
 | [],w,_,h=>h w (AN.refl _ w)
 | _::ds,w,⟨D,h1,h2,h3,h4,h5⟩,h=>by
  refine ⟨by simp,.inl ⟨D,_,by rw [h1],run_takeDeferred h3,?_⟩⟩;have hu:AN (fun k=>k=D) w (w.putObj D (.deferred none)):=(AN.refl (fun k=>k=D) w).putObj (fun _=>rfl) _
  have AQ: ∀ {ds:List Deferred},(∀ d'∈ds,d'.target≠.collected D) -> EH B ds w -> EH B ds (w.putObj D (.deferred none)):=by
   intro ds
   induction ds with
   | nil=>intro _ _;trivial
   | cons d ds ih=>
    intro hd ⟨D',g1,g2,g3,g4,g5⟩;refine ⟨D',g1,g2,?_,g4,ih (fun d' hm=>hd d' (by simp [hm])) g5⟩;rw [zAx (fun e=>hd d (by simp) (by rw [g1,e]))];exact g3
  refine fh ds _ (AQ h4 h5) fun W hW=>h W ?_
  refine hu.mono (S':=fun k=>B<=k/\ w.heap[k]? =some (.deferred (some []))) (fun i _ e=>by cases e;exact ⟨h2,h3⟩) |>.comp hW fun i hi hx=>⟨hx.1,?_⟩
  by_cases e:i=D
  ·rw [e];exact h3
  ·rw [←zAx (o:=.deferred none) e];exact hx.2
theorem yY (B:Nat) {P:Program} {f:FuncId} {fn:Func} {c:Code} {args:Array Value} {w:World} {R:Ending -> World -> Prop}
 (hf:P.funcs[f]? =some fn) (hb:fn.body=some c)
 (h:c.wp P (pn B P fn R) { tmps:=args++Array.replicate (fn.ntmps-args.size) undef,defers:=[] } w):Calls P f args w R:=by
 refine (callsIn_wide (n:=0)).1 (callsIn_of_wp_marks hf hb trivial ?_);refine zBj (wpIn_wide.2 h) fun e a' w' hq=>?_
 cases e <;> first | exact fh _ _ hq.1 hq.2 | exact hq.elim
end Go.Proofs.YtgkhhfnhacibcaaGreatDoor
namespace Go.Proofs.YtgkhhfnhacibcaaGreatDoor
abbrev u8:=@List.getD_eq_getElem?_getD
abbrev zp:=@List.getElem?_eq_some_iff
abbrev zAC:=@List.getElem?_append_left
abbrev zAJ:=@Array.getD_eq_getD_getElem?
abbrev zAK:=@List.length_set
abbrev zAM:=@List.getElem?_eq_none
abbrev zAN:=@List.getElem?_append_right
abbrev zAU:=@List.getElem?_set
abbrev zAf:=@Array.getElem?_setIfInBounds
end Go.Proofs.YtgkhhfnhacibcaaGreatDoor
namespace Go.Proofs.YtgkhhfnhacibcaaGreatDoor
open Go.RowKit
inductive DV where
 | any
 | nils
 | int (k:IntKind) (n:Int)
 | bool (b:Bool)
 | str (s:ByteArray)
 | ints (l:List Int)
 | bools (l:List Bool)
 | sl (m n:Nat) (f:Nat -> Nat -> DV)
 | fp (m:Nat) (f:Nat -> DV)
 | agg (m:Nat) (f:Nat -> DV)
 | tup (m:Nat) (f:Nat -> DV)
 | ref (k j:Nat)
 | msl (k m off n:Nat)
 | mp (k m i j:Nat)
 | fn (g:Nat) (m:Nat) (c:Nat -> DV)
 | it (k:Nat)
 | yl (l:Nat)
 | mse (k m off n:Nat)
 | mri (k i:Nat)
 | cst (u:Value)
structure AI where
 blk:Nat
 off:Nat
 room:Nat
 val:Value
 foot:Nat -> Prop
def GC (m:Nat) (f:Nat -> DV):Nat -> DV:=fun j=>((List.range m).map f).getD j .any
theorem TC {m:Nat} {f:Nat -> DV} {j:Nat} (h:j<m):GC m f j=f j:=by simp [GC,h]
def LB:Nat:=140737488355328
def AJ (M:Nat -> Prop) (w:World):DV -> List AI -> Value -> Prop
 | .any,_,_=>True
 | .nils,_,v=>v= .slice none 0 0
 | .int k n,_,v=>v= .int k n
 | .bool b,_,v=>v= .bool b
 | .str s,_,v=>v= .string s
 | .ints l,_,v=>∃ (a:Option Addr) (cap:Nat),v= .slice a l.length cap/\ l.length<=cap/\ l.length<=LB/\
  ∀ j,j<l.length -> ∃ b o,a=some ⟨b,o,none⟩/\ ¬ M b/\ w.cell? ⟨b,o+j,none⟩=some (.int .i64 (l.getD j 0))
 | .bools l,_,v=>∃ (a:Option Addr) (cap:Nat),v= .slice a l.length cap/\ l.length<=cap/\ l.length<=LB/\
  ∀ j,j<l.length -> ∃ b o,a=some ⟨b,o,none⟩/\ ¬ M b/\ w.cell? ⟨b,o+j,none⟩=some (.bool (l.getD j false))
 | .sl m n f,_,v=>∃ (a:Option Addr) (cap:Nat),v= .slice a n cap/\ n<=cap/\ n<=LB/\
  ∀ i j,i<n -> j<m -> ∃ b o u,a=some ⟨b,o,none⟩/\ ¬ M b/\ w.cell? ⟨b,o+(i*m+j),none⟩=some u/\ AJ M w (f i j) [] u
 | .fp m f,_,v=>∃ b o,v= .pointer (some ⟨b,o,none⟩)/\ ∀ j,j<m -> ¬ M b/\ ∃ u,w.cell? ⟨b,o+j,none⟩=some u/\ AJ M w (f j) [] u
 | .agg m f,ρ,v=>∃ cs,v= .agg cs/\ cs.size=m/\ ∀ j,j<m -> ∃ u,cs[j]? =some u/\ AJ M w (f j) ρ u
 | .tup m f,ρ,v=>∃ cs,v= .tuple cs/\ cs.size=m/\ ∀ j,j<m -> ∃ u,cs[j]? =some u/\ AJ M w (f j) ρ u
 | .ref k j,ρ,v=>∃ p:AI,ρ[k]? =some p/\ v= .pointer (some ⟨p.blk,p.off+j,none⟩)
 | .msl k m off n,ρ,v=>∃ (p:AI) (cap:Nat),ρ[k]? =some p/\ v= .slice (some ⟨p.blk,p.off+off*m,none⟩) n cap/\ n<=cap/\ n<=LB/\ p.off+off*m+cap*m<=p.room
 | .mp k m i j,ρ,v=>∃ p:AI,ρ[k]? =some p/\ v= .pointer (some ⟨p.blk,p.off+(i*m+j),none⟩)
 | .fn g m c,ρ,v=>∃ lb,v= .func (.func g) #[] lb/\ lb.size=m/\ ∀ j,j<m -> ∃ u,lb[j]? =some u/\ AJ M w (c j) ρ u
 | .it k,ρ,v=>∃ p:AI,ρ[k]? =some p/\ v=p.val
 | .yl l,_,v=>v= .func (.yield l) #[] #[]
 | .cst u,_,v=>v=u/\ u.oneCell'=true
 | .mri k i,ρ,v=>∃ (p:AI) (vs:Array Value),ρ[k]? =some p/\ p.val= .tuple vs/\ vs[i]? =some v
 | .mse k m off n,ρ,v=>∃ (p:AI) (a:Option Addr) (cap:Nat),ρ[k]? =some p/\ v= .slice a n cap/\ n<=cap/\ n<=LB/\ (0<cap -> a=some ⟨p.blk,p.off+off*m,none⟩/\ p.off+off*m+cap*m<=p.room)
theorem Hh {M:Nat -> Prop} {w:World} {ρ:List AI} {m:Nat} {f:Nat -> DV} {j:Nat} {v:Value} (h:j<m) (hr:AJ M w (f j) ρ v):AJ M w (GC m f j) ρ v:=by rw [TC h];exact hr
def AU (w:World) (p:AI) (n:Nat) (R:Nat -> Value -> Prop):Prop:=
 p.foot=(fun b=>b=p.blk)/\ ∃ cs t,w.heap[p.blk]? =some (.cells cs t (0,0))/\ p.off+n<=cs.size/\ p.room<=cs.size/\ ∀ j,j<n -> ∃ u,cs[p.off+j]? =some u/\ R j u
/-! ### Rows that an object owns-/
def Gs (w:World) (F:Nat -> Prop) (u:Value) (L:List Int):Prop:=
 (L= []/\ u= .slice none 0 0)∨∃ (q:AI) (cap:Nat),u= .slice (some ⟨q.blk,q.off,none⟩) L.length cap/\ L.length<=cap/\ q.off+cap<=q.room/\ L.length<=LB/\ F q.blk/\ AU w q L.length fun j x=>x= .int .i64 (L.getD j 0)
def Cs:Value -> Option Nat
 | .slice (some a) _ _=>some a.block
 | _=>none
theorem Gs.blk {w:World} {F:Nat -> Prop} {u:Value} {L:List Int} {b:Nat} (h:Gs w F u L) (hb:Cs u=some b):F b/\ b<w.heap.size:=by
 rcases h with ⟨_,rfl⟩ | ⟨q,cap,rfl,_,_,_,h5,_,cs,t,h6,_⟩
 ·cases hb
 ·cases hb;exact ⟨h5,(zj.1 h6).1⟩
theorem Gs.out {w w':World} {F F':Nat -> Prop} {u:Value} {L:List Int} (h:Gs w F u L) (hb: ∀ b,F b -> Cs u=some b -> b<w.heap.size -> w'.heap[b]? =w.heap[b]?) (hF: ∀ b,F b -> Cs u=some b -> F' b):Gs w' F' u L:=by
 rcases h with h | ⟨q,cap,h1,h2,h3,h4,h5,h6⟩
 ·exact .inl h
 ·refine .inr ⟨q,cap,h1,h2,h3,h4,hF _ h5 (by rw [h1];rfl),?_⟩;obtain ⟨g1,cs,t,g2,g3⟩:=h6;exact ⟨g1,cs,t,(hb _ h5 (by rw [h1];rfl) (zj.1 g2).1).trans g2,g3⟩
structure EG (w:World) (p:AI) (f:Int -> List Int) (Bi:Option (Int×List Int×Bool)) (u:Value) (es:Array MapEntry) (AT:Nat):Prop where
 val:p.val= .tuple #[Value.map (some p.blk),u]
 blk:w.heap[p.blk]? =some (.map es AT)
 own:p.foot p.blk
 key: ∀ e∈es.toList,∃ k,e.key= .int .i64 k/\ ((∀ L,Bi≠some (k,L,true)) -> Gs w (fun b=>p.foot b/\ b≠p.blk) e.val (f k))
 no: ∀ k,(∀ e∈es.toList,e.key≠.int .i64 k) -> f k= []
 nd:(es.toList.map (·.key)).Nodup
 apart: ∀ e∈es.toList,∀ e'∈es.toList,∀ b,Cs e.val=some b -> Cs e'.val=some b -> e.key=e'.key
 born: ∀ e∈es.toList,e.born<AT
 stamps:(es.toList.map (·.born)).Nodup
 inHand: ∀ k L g,Bi=some (k,L,g) -> Gs w (fun b=>p.foot b/\ b≠p.blk) u L/\ ∀ e∈es.toList,∀ b,Cs u=some b -> Cs e.val=some b -> e.key= .int .i64 k
theorem EG.out {w w':World} {p:AI} {f:Int -> List Int} {Bi:Option (Int×List Int×Bool)} {u:Value} {es:Array MapEntry} {AT:Nat} (h:EG w p f Bi u es AT) (hb: ∀ b,p.foot b -> b<w.heap.size -> w'.heap[b]? =w.heap[b]?):EG w' p f Bi u es AT:=
 { h with
  blk:=(hb _ h.own (zj.1 h.blk).1).trans h.blk
  key:=fun e he=>let ⟨k,h1,h2⟩:=h.key e he;⟨k,h1,fun hh=>(h2 hh).out (fun b hf _ hl=>hb b hf.1 hl) fun _ h _=>h⟩
  inHand:=fun k L g e=>let ⟨h1,h2⟩:=h.inHand k L g e;⟨h1.out (fun b hf _ hl=>hb b hf.1 hl) fun _ h _=>h,h2⟩ }
/-! ### Maps:sets of keys-/
abbrev KS:=List (List Int)
def A7:List Int -> Value
 | [a]=>.int .i64 a
 | l=>.agg (l.map fun a=>.int .i64 a).toArray
theorem fv: ∀ {a b:List Int},A7 a=A7 b -> a=b:=by
 have ai: ∀ {l m:List Int},(l.map fun a=>Value.int .i64 a).toArray=(m.map fun a=>Value.int .i64 a).toArray -> l=m:=fun {l m} h=>by
  have h:=Array.toList_inj.2 h;simp only at h;exact List.map_inj_right (fun x y e=>by cases e;rfl) |>.1 h
 intro a b h
 match a,b with
 | [x],[y]=>cases h;rfl
 | [],[]=>rfl
 | [x],[]=>cases h
 | [],[y]=>cases h
 | [x],y::y'::m=>cases h
 | x::x'::l,[y]=>cases h
 | x::x'::l,[]=>exact ai (Value.agg.inj h)
 | [],y::y'::m=>exact ai (Value.agg.inj h)
 | x::x'::l,y::y'::m=>exact ai (Value.agg.inj h)
structure EZ (w:World) (b n:Nat) (l:KS) (es:Array MapEntry) (AT:Nat):Prop where
 blk:w.heap[b]? =some (.map es AT)
 keys:(es.toList.map (·.key)).Perm (l.map A7)
 nd:l.Nodup
 len: ∀ y∈l,y.length=n
 tru: ∀ e∈es.toList,e.val= .bool true
 born: ∀ e∈es.toList,e.born<AT
 stamps:(es.toList.map (·.born)).Nodup
theorem EZ.out {w w':World} {b n:Nat} {l:KS} {es:Array MapEntry} {AT:Nat} (h:EZ w b n l es AT) (hb:w'.heap[b]? =w.heap[b]?):EZ w' b n l es AT:={ h with blk:=hb.trans h.blk }
inductive MX where
 | set (n:Nat) (l:KS)
 | sets (n:Nat) (ls:List (Option KS)) (lk:Option (Nat×Nat×Array MapEntry×Nat))
 | mit (n mb:Nat) (es:Array MapEntry) (AT:Nat) (rem:KS) (EW:Option (List Int))
 | rows (f:Int -> List Int) (Bi:Option (Int×List Int×Bool))
 | rws (ls:List (List Int)) (Bi:Option (Nat×List Int))
structure I4 (w:World) (p:AI) (ls:List (List Int)) (Bi:Option (Nat×List Int)) (vs:Array Value):Prop where
 val:p.val= .tuple vs
 size:vs.size=ls.length+1
 row: ∃ cs t,w.heap[p.blk]? =some (.cells cs t (0,0))/\ p.off+ls.length<=cs.size/\ p.room<=cs.size/\ ∀ j,j<ls.length -> cs[p.off+j]? =vs[j+1]?
 blk:p.foot p.blk
 has: ∀ j,j<ls.length -> (∀ L,Bi≠some (j,L)) -> Gs w (fun b=>p.foot b/\ b≠p.blk) (vs.getD (j+1) undef) (ls.getD j default)
 apart: ∀ (i j b:Nat),i<ls.length -> j<ls.length -> (∀ L,Bi≠some (i,L)) -> (∀ L,Bi≠some (j,L)) -> Cs (vs.getD (i+1) undef)=some b -> Cs (vs.getD (j+1) undef)=some b -> i=j
 inHand: ∀ k L,Bi=some (k,L) -> Gs w (fun b=>p.foot b/\ b≠p.blk) (vs.getD 0 undef) L/\ ∀ (j b:Nat),j<ls.length -> Cs (vs.getD 0 undef)=some b -> Cs (vs.getD (j+1) undef)=some b -> j=k
theorem I4.out {w w':World} {p:AI} {ls:List (List Int)} {Bi:Option (Nat×List Int)} {vs:Array Value} (h:I4 w p ls Bi vs) (hb: ∀ b,p.foot b -> b<w.heap.size -> w'.heap[b]? =w.heap[b]?):I4 w' p ls Bi vs:=
 { h with
  row:=let ⟨cs,t,h1,h2⟩:=h.row;⟨cs,t,(hb _ h.blk (zj.1 h1).1).trans h1,h2⟩
  has:=fun j hj hh=>(h.has j hj hh).out (fun b hf _ hl=>hb b hf.1 hl) fun _ h _=>h
  inHand:=fun k L e=>let ⟨h1,h2⟩:=h.inHand k L e;⟨h1.out (fun b hf _ hl=>hb b hf.1 hl) fun _ h _=>h,h2⟩ }
structure Ek (w:World) (p:AI) (n:Nat) (ls:List (Option KS)) (lk:Option (Nat×Nat×Array MapEntry×Nat)) (vs:Array Value):Prop where
 val:p.val= .tuple vs
 size:vs.size=ls.length
 row: ∃ cs t,w.heap[p.blk]? =some (.cells cs t (0,0))/\ p.off+ls.length<=cs.size/\ p.room<=cs.size/\ ∀ j,j<ls.length -> cs[p.off+j]? =vs[j]?
 blk:p.foot p.blk
 has: ∀ (j:Nat) (l:KS),ls[j]? =some (some l) -> ∃ b:Nat,vs[j]? =some (Value.map (some b))/\ b≠p.blk/\ p.foot b/\ ∃ es AT,EZ w b n l es AT/\ ∀ x,lk=some x -> x.1=j -> x.2=(b,es,AT)
 nil: ∀ (j:Nat),ls[j]? =some none -> vs[j]? =some (Value.map none)
 foot: ∀ b,p.foot b -> b=p.blk∨∃ (j:Nat) (l:KS),ls[j]? =some (some l)/\ vs[j]? =some (Value.map (some b))
 inj: ∀ (i j b:Nat),vs[i]? =some (Value.map (some b)) -> vs[j]? =some (Value.map (some b)) -> i=j
theorem Ek.out {w w':World} {p:AI} {n:Nat} {ls:List (Option KS)} {lk:Option (Nat×Nat×Array MapEntry×Nat)} {vs:Array Value} (h:Ek w p n ls lk vs) (hb: ∀ b,p.foot b -> b<w.heap.size -> w'.heap[b]? =w.heap[b]?):Ek w' p n ls lk vs:=by
 have Ba: ∀ {b o},p.foot b -> w.heap[b]? =some o -> w'.heap[b]? =some o:=fun {b o} hf ho=>(hb b hf (zj.1 ho).1).trans ho
 refine { h with row:=?_,has:=fun j l hl=>?_ }
 ·obtain ⟨cs,t,h1,h2⟩:=h.row;exact ⟨cs,t,Ba h.blk h1,h2⟩
 ·obtain ⟨b,h1,h2,h3,es,AT,h4,h5⟩:=h.has j l hl;exact ⟨b,h1,h2,h3,es,AT,{ h4 with blk:=Ba h3 h4.blk },h5⟩
def LR (w:World) (p:AI):MX -> Prop
 | .set n l=>p.val=Value.map (some p.blk)/\ p.foot=(fun b=>b=p.blk)/\ ∃ es AT,EZ w p.blk n l es AT
 | .sets n ls lk=>∃ vs,Ek w p n ls lk vs
 | .mit n mb es AT rem EW=>(∀ x,(x∈rem∨EW=some x) -> x.length=n)/\ p.val= .pointer (some ⟨p.blk,0,none⟩)/\ p.foot=(fun b=>b=p.blk)/\ ∃ seen,w.heap[p.blk]? =some (.mapIter (some mb) AT seen AT)/\ ((leftOf es seen).toList.map (·.key)).Perm (rem.map A7)/\
  ∀ x,EW=some x -> ∃ e∈es.toList,e.key=A7 x/\ seen.back? =some e.born
 | .rows f Bi=>∃ u es AT,EG w p f Bi u es AT
 | .rws ls Bi=>∃ vs,I4 w p ls Bi vs
theorem LR.out {w w':World} {p:AI}: ∀ {x:MX},LR w p x -> (∀ b,p.foot b -> b<w.heap.size -> w'.heap[b]? =w.heap[b]?) -> LR w' p x
 | .set n l,⟨h1,h2,es,AT,h3⟩,hb=>⟨h1,h2,es,AT,h3.out (hb _ (by rw [h2]) (zj.1 h3.blk).1)⟩
 | .sets n ls lk,⟨vs,h⟩,hb=>⟨vs,h.out hb⟩
 | .rows f Bi,⟨u,es,AT,h⟩,hb=>⟨u,es,AT,h.out hb⟩
 | .rws ls Bi,⟨vs,h⟩,hb=>⟨vs,h.out hb⟩
 | .mit n mb es AT rem EW,⟨h0,h1,h2,seen,h3,h4⟩,hb=>⟨h0,h1,h2,seen,(hb _ (by rw [h2]) (zj.1 h3).1).trans h3,h4⟩
inductive DO where
 | cells (l:List DV)
 | ints (l:List Int)
 | bools (l:List Bool)
 | arr (m n:Nat) (f:Nat -> Nat -> DV)
 | iter (encs:List (Array Value))
 | mo (x:MX)
abbrev DH:=List (Option DO)
def MO (h:DH) (ρ:List AI) (b:Nat):Prop:=∃ (k:Nat) (o:DO) (p:AI),h[k]? =some (some o)/\ ρ[k]? =some p/\ p.foot b
def MS (N:Nat -> Prop) (h:DH) (ρ:List AI) (b:Nat):Prop:=N b∨MO h ρ b
def C7 (P:Program) (M:Nat -> Prop) (w:World) (ρ:List AI) (p:AI):DO -> Prop
 | .cells l=>AU w p l.length fun j u=>AJ M w (l.getD j .any) ρ u
 | .ints l=>AU w p l.length fun j u=>u= .int .i64 (l.getD j 0)
 | .bools l=>AU w p l.length fun j u=>u= .bool (l.getD j false)
 | .arr m n f=>AU w p (n*m) fun j u=>AJ M w (f (j/m) (j % m)) [] u
 | .iter encs=>∃ gf lb Rd,(p.val= .func (.func gf) #[] lb/\ ∀ args W,(callFunc gf args).run P W= .ok (.enter gf args) W)/\ IX P gf lb encs p.foot Rd w/\ (∀ b,Rd b -> ¬ M b/\ b<w.heap.size)/\ ∀ b,p.foot b -> b<w.heap.size
 | .mo x=>LR w p x
def iO:Obj -> Bool
 | .cells .. =>true
 | .map .. =>true
 | .mapIter .. =>true
 | _=>false
abbrev C8 (w:World) (b:Nat):Prop:=∃ (c:Obj) (_:iO c=true) (_:Unit),w.heap[b]? =some c
theorem C8.cells {w:World} {b:Nat} {c:Array Value} {t:TypeId} {z:Nat×Nat} (h:w.heap[b]? =some (.cells c t z)):C8 w b:=⟨_,rfl,(),h⟩
structure Ax where
 ng:Nat
 gi:World -> Prop
 st: ∀ w w',gi w -> AN (fun b=>ng<=b) w w' -> gi w'
 lo: ∀ w,gi w -> ng<=w.heap.size
structure BP (P:Program) (Γ:Ax) (N:Nat -> Prop) (h:DH) (ρ:List AI) (w:World):Prop where
 len:ρ.length=h.length
 obj: ∀ (k:Nat) (o:DO),h[k]? =some (some o) -> ∃ p:AI,ρ[k]? =some p/\ C7 P (MS N h ρ) w ρ p o
 cel: ∀ (k:Nat) (o:DO) (p:AI) (b:Nat),h[k]? =some (some o) -> ρ[k]? =some p -> p.foot b -> Γ.ng<=b/\ ¬ N b/\ C8 w b
 dis: ∀ (k k':Nat) (o o':DO) (p p':AI) (b:Nat),k≠k' -> h[k]? =some (some o) -> h[k']? =some (some o') -> ρ[k]? =some p -> ρ[k']? =some p' -> p.foot b -> p'.foot b -> False
 nlt: ∀ b,N b -> b<w.heap.size/\ Γ.ng<=b
 gi:Γ.gi w
structure St where
 fr:List DV
 h:DH
def B0 (M:Nat -> Prop) (w:World) (ρ:List AI) (fr:List DV) (t:Array Value):Prop:=
 fr.length=t.size/\ ∀ i,i<fr.length -> AJ M w (fr.getD i .any) ρ (t.getD i undef)
structure AY (P:Program) (Γ:Ax) (N:Nat -> Prop) (S:St) (ρ:List AI) (a:Act) (w:World):Prop where
 hr:BP P Γ N S.h ρ w
 fr:B0 (MS N S.h ρ) w ρ S.fr a.tmps
structure A9 (h:DH) (ρ:List AI) (w:World) (h':DH) (ρ':List AI) (w':World):Prop where
 upd:AN (MO h ρ) w w'
 grow: ∀ b,MO h' ρ' b -> MO h ρ b∨w.heap.size<=b
theorem A9.refl (h:DH) (ρ:List AI) (w:World):A9 h ρ w h ρ w:=⟨AN.refl _ _,fun _ h=>.inl h⟩
theorem A9.trans {h h' Rm:DH} {ρ ρ' ρ'':List AI} {w w' CI:World} (x:A9 h ρ w h' ρ' w') (y:A9 h' ρ' w' Rm ρ'' CI):A9 h ρ w Rm ρ'' CI:=
 ⟨x.upd.comp y.upd fun i hi hm=>(x.grow i hm).resolve_right (by omega),fun b hb=>(y.grow b hb).elim (fun h=>x.grow b h) (fun h=>.inr (zt x.upd.size h))⟩
structure Dr (h:DH) (ρ:List AI) (w:World) (h':DH) (ρ':List AI) (w':World):Prop where
 st:A9 h ρ w h' ρ' w'
 pl: ∀ (k:Nat) (p:AI),ρ[k]? =some p -> ρ'[k]? =some p
theorem Dr.refl (h:DH) (ρ:List AI) (w:World):Dr h ρ w h ρ w:=⟨A9.refl _ _ _,fun _ _ h=>h⟩
theorem Dr.trans {h h' Rm:DH} {ρ ρ' ρ'':List AI} {w w' CI:World} (x:Dr h ρ w h' ρ' w') (y:Dr h' ρ' w' Rm ρ'' CI):Dr h ρ w Rm ρ'' CI:=
 ⟨x.st.trans y.st,fun k p hk=>y.pl k p (x.pl k p hk)⟩
structure BO (M:Nat -> Prop) (w:World) (ρ:List AI) (M':Nat -> Prop) (w':World) (ρ':List AI):Prop where
 blk: ∀ b,b<w.heap.size -> ¬ M b -> (∃ c t z,w.heap[b]? =some (.cells c t z)) -> w'.heap[b]? =w.heap[b]?
 m: ∀ b,M' b -> M b∨w.heap.size<=b
 pl: ∀ (k:Nat) (p:AI),ρ[k]? =some p -> ρ'[k]? =some p
theorem yW {w:World} {b o:Nat} {u:Value} (h:w.cell? ⟨b,o,none⟩=some u): ∃ c t z,w.heap[b]? =some (.cells c t z):=by
 unfold World.cell? at h;split at h
 ·exact ⟨_,_,_,by assumption⟩
 ·cases h
theorem BO.nil {M M':Nat -> Prop} {w w':World} {ρ ρ':List AI} (h:BO M w ρ M' w' ρ'):BO M w [] M' w' []:=⟨h.blk,h.m,fun k p hk=>by simp at hk⟩
theorem jv {w w':World} {b o:Nat} (h:w'.heap[b]? =w.heap[b]?):w'.cell? ⟨b,o,none⟩=w.cell? ⟨b,o,none⟩:=by
 unfold World.cell?;rw [h]
theorem BO.cell {M M':Nat -> Prop} {w w':World} {ρ ρ':List AI} (h:BO M w ρ M' w' ρ') {b o:Nat} {u:Value} (hM: ¬ M b) (hc:w.cell? ⟨b,o,none⟩=some u):w'.cell? ⟨b,o,none⟩=some u/\ ¬ M' b:=by
 have AK:b<w.heap.size:=zBA w ⟨b,o,none⟩ hc;exact ⟨(jv (h.blk b AK hM (yW hc))).trans hc,fun hm=>(h.m b hm).elim hM (by omega)⟩
theorem AJ.out {M M':Nat -> Prop} {w w':World}: ∀ (d:DV) {ρ ρ':List AI} {v:Value},BO M w ρ M' w' ρ' -> AJ M w d ρ v -> AJ M' w' d ρ' v:=by
 intro d
 induction d with
 | any=>intros;trivial
 | nils=>intro ρ ρ' v _ h;exact h
 | int k n=>intro ρ ρ' v _ h;exact h
 | bool b=>intro ρ ρ' v _ h;exact h
 | str s=>intro ρ ρ' v _ h;exact h
 | ints l=>
  rintro ρ ρ' v H ⟨a,cap,e,h1,h2,h3⟩;refine ⟨a,cap,e,h1,h2,fun j hj=>?_⟩;obtain ⟨b,o,ha,hM,hc⟩:=h3 j hj;obtain ⟨g1,g2⟩:=H.cell hM hc;exact ⟨b,o,ha,g2,g1⟩
 | bools l=>
  rintro ρ ρ' v H ⟨a,cap,e,h1,h2,h3⟩;refine ⟨a,cap,e,h1,h2,fun j hj=>?_⟩;obtain ⟨b,o,ha,hM,hc⟩:=h3 j hj;obtain ⟨g1,g2⟩:=H.cell hM hc;exact ⟨b,o,ha,g2,g1⟩
 | sl m n f ih=>
  rintro ρ ρ' v H ⟨a,cap,e,h1,h2,h3⟩;refine ⟨a,cap,e,h1,h2,fun i j hi hj=>?_⟩;obtain ⟨b,o,u,ha,hM,hc,hr⟩:=h3 i j hi hj;obtain ⟨g1,g2⟩:=H.cell hM hc;exact ⟨b,o,u,ha,g2,g1,ih i j H.nil hr⟩
 | fp m f ih=>
  rintro ρ ρ' v H ⟨b,o,e,h⟩;refine ⟨b,o,e,fun j hj=>?_⟩;obtain ⟨hM,u,hc,hr⟩:=h j hj;obtain ⟨g1,g2⟩:=H.cell hM hc;exact ⟨g2,u,g1,ih j H.nil hr⟩
 | agg m f ih=>
  rintro ρ ρ' v H ⟨cs,e,hs,h⟩;exact ⟨cs,e,hs,fun j hj=>let ⟨u,h1,h2⟩:=h j hj;⟨u,h1,ih j H h2⟩⟩
 | tup m f ih=>
  rintro ρ ρ' v H ⟨cs,e,hs,h⟩;exact ⟨cs,e,hs,fun j hj=>let ⟨u,h1,h2⟩:=h j hj;⟨u,h1,ih j H h2⟩⟩
 | ref k j=>rintro ρ ρ' v H ⟨p,h,e⟩;exact ⟨p,H.pl _ _ h,e⟩
 | msl k m off n=>rintro ρ ρ' v H ⟨p,cap,h,r⟩;exact ⟨p,cap,H.pl _ _ h,r⟩
 | mp k m i j=>rintro ρ ρ' v H ⟨p,h,e⟩;exact ⟨p,H.pl _ _ h,e⟩
 | fn g m c ih=>
  rintro ρ ρ' v H ⟨cs,e,hs,h⟩;exact ⟨cs,e,hs,fun j hj=>let ⟨u,h1,h2⟩:=h j hj;⟨u,h1,ih j H h2⟩⟩
 | it k=>rintro ρ ρ' v H ⟨p,h,e⟩;exact ⟨p,H.pl _ _ h,e⟩
 | yl l=>intro ρ ρ' v _ h;exact h
 | mse k m off n=>rintro ρ ρ' v H ⟨p,a,cap,h,r⟩;exact ⟨p,a,cap,H.pl _ _ h,r⟩
 | mri k i=>rintro ρ ρ' v H ⟨p,vs,h,r⟩;exact ⟨p,vs,H.pl _ _ h,r⟩
 | cst u=>intro ρ ρ' v _ h;exact h
theorem B0.out {M M':Nat -> Prop} {w w':World} {ρ ρ':List AI} {fr:List DV} {t:Array Value} (h:B0 M w ρ fr t) (H:BO M w ρ M' w' ρ'):B0 M' w' ρ' fr t:=
 ⟨h.1,fun i hi=>(h.2 i hi).out _ H⟩
theorem B0.at {M:Nat -> Prop} {w:World} {ρ:List AI} {fr:List DV} {t:Array Value} (h:B0 M w ρ fr t) (i:Nat):AJ M w (fr.getD i .any) ρ (t.getD i undef):=by
 rcases zA2 i fr.length with hi | hi
 ·exact h.2 i hi
 ·have:fr.getD i .any= .any:=by rw [u8,zAM hi];rfl
  rw [this];trivial
theorem B0.set {M:Nat -> Prop} {w:World} {ρ:List AI} {fr:List DV} {t:Array Value} (h:B0 M w ρ fr t) (i:Nat) {d:DV} {v:Value} (hv:AJ M w d ρ v):B0 M w ρ (fr.set i d) (t.setIfInBounds i v):=by
 refine ⟨by simp [h.1],fun j hj=>?_⟩;rw [zAK] at hj;have BH:j<t.size:=by rw [←h.1];exact hj
 have h0:=h.2 j hj;simp only [u8,zAJ,zAU,zAf] at h0 ⊢
 by_cases e:i=j
 ·subst e;simp [hj,BH,hv]
 ·rw [zr e,zr e];exact h0
theorem IX.later {P:Program} {g:Nat} {lb:Array Value} {encs:List (Array Value)} {G0 Rd:Nat -> Prop} {w w':World} (h:IX P g lb encs G0 Rd w) {S:Nat -> Prop} (hu:AN S w w') (hs: ∀ b,b<w.heap.size -> S b -> ¬ (G0 b∨Rd b)):IX P g lb encs G0 Rd w':=
 fun l J Jx G W h1 h2 h3=>h l J Jx G W h1 h2 (hu.mono (fun i hi hx=>hs i hi hx) |>.trans h3)
theorem AU.out {w w':World} {p:AI} {n:Nat} {R R':Nat -> Value -> Prop} (h:AU w p n R) (hb:w'.heap[p.blk]? =w.heap[p.blk]?) (hR: ∀ j u,j<n -> R j u -> R' j u):AU w' p n R':=by
 obtain ⟨h1,cs,t,h2,h3,h4,h5⟩:=h;exact ⟨h1,cs,t,hb.trans h2,h3,h4,fun j hj=>let ⟨u,g1,g2⟩:=h5 j hj;⟨u,g1,hR j u hj g2⟩⟩
theorem AU.cell {w:World} {p:AI} {n:Nat} {R:Nat -> Value -> Prop} (h:AU w p n R) {j:Nat} (hj:j<n): ∃ u,w.cell? ⟨p.blk,p.off+j,none⟩=some u/\ R j u:=by
 obtain ⟨h1,cs,t,h2,h3,h4,h5⟩:=h;obtain ⟨u,g1,g2⟩:=h5 j hj;exact ⟨u,by unfold World.cell?;simp [h2,g1],g2⟩
theorem AU.frozen {w:World} {p:AI} {n:Nat} {R:Nat -> Value -> Prop} (h:AU w p n R) (o:Nat):w.frozen? ⟨p.blk,o,none⟩=false:=by
 obtain ⟨h1,cs,t,h2,_⟩:=h;unfold World.frozen?;simp [h2]
theorem C7.out {P:Program} {M M':Nat -> Prop} {w w':World} {ρ ρ':List AI} {p:AI} {o:DO} (h:C7 P M w ρ p o) (H:BO M w ρ M' w' ρ') {S:Nat -> Prop} (hu:AN S w w') (hS: ∀ b,S b -> M b) (hf: ∀ b,b<w.heap.size -> p.foot b -> ¬ S b):C7 P M' w' ρ' p o:=by
 have hb: ∀ {n R},AU w p n R -> w'.heap[p.blk]? =w.heap[p.blk]? :=fun {n R} hr=>by
  obtain ⟨h1,cs,t,h2,_⟩:=hr;have AK:=(zj.1 h2).1;exact hu.block _ AK (hf _ AK (by rw [h1]))
 cases o with
 | cells l=>exact AU.out h (hb h) fun j u _ hr=>AJ.out _ H hr
 | ints l=>exact AU.out h (hb h) fun j u _ hr=>hr
 | bools l=>exact AU.out h (hb h) fun j u _ hr=>hr
 | arr m n f=>exact AU.out h (hb h) fun j u _ hr=>AJ.out _ H.nil hr
 | iter encs=>
  obtain ⟨gf,lb,Rd,h1,h2,h3,h4⟩:=h;refine ⟨gf,lb,Rd,h1,h2.later hu (fun b hb hs hx=>?_),fun b hb=>⟨fun hm=>(H.m b hm).elim (h3 b hb).1 (by have:=(h3 b hb).2;omega),zu (h3 b hb).2 hu.size⟩,fun b hb=>zu (h4 b hb) hu.size⟩;rcases hx with hx | hx
  ·exact hf b hb hx hs
  ·exact (h3 b hx).1 (hS b hs)
 | mo x=>exact LR.out h fun b hb AK=>hu.block b AK (hf b AK hb)
section
variable {P:Program} {Γ:Ax} {N:Nat -> Prop} {h:DH} {ρ:List AI} {w:World}
theorem MO.unset {k:Nat} {b:Nat} (hm:MO (h.set k none) ρ b):MO h ρ b:=by
 obtain ⟨i,o,p,h1,h2,h3⟩:=hm;rw [zAU] at h1
 by_cases e:k=i
 ·rw [zi e] at h1;split at h1 <;> cases h1
 ·rw [zr e] at h1;exact ⟨i,o,p,h1,h2,h3⟩
theorem BP.lt (H:BP P Γ N h ρ w) {b:Nat} (hb:MS N h ρ b):b<w.heap.size:=by
 rcases hb with hb | ⟨k,o,p,h1,h2,h3⟩
 ·exact (H.nlt b hb).1
 ·obtain ⟨_,_,c,t,z,h4⟩:=H.cel k o p b h1 h2 h3;exact (zj.1 h4).1
theorem BP.low (H:BP P Γ N h ρ w) {b:Nat} (hb:MO h ρ b):Γ.ng<=b:=by
 obtain ⟨k,o,p,h1,h2,h3⟩:=hb;exact (H.cel k o p b h1 h2 h3).1
theorem BP.lt2 (H:BP P Γ N h ρ w) {b:Nat} (hb:MS N h ρ b):b<w.heap.size/\ Γ.ng<=b:=⟨H.lt hb,hb.elim (fun h=>(H.nlt b h).2) H.low⟩
theorem BP.ext (H:BP P Γ N h ρ w) {w':World} (hE:Au w w'):BP P Γ N h ρ w':=by
 have O:BO (MS N h ρ) w ρ (MS N h ρ) w' ρ:=⟨fun b hb _ _=>zCH hE b hb,fun b h=>.inl h,fun _ _ h=>h⟩;refine ⟨H.len,fun k o hk=>?_,fun k o p b h1 h2 h3=>?_,H.dis,fun b hb=>⟨zu (H.nlt b hb).1 hE.size,(H.nlt b hb).2⟩,Γ.st _ _ H.gi (AN.ofExt hE)⟩
 ·obtain ⟨p,hp,ho⟩:=H.obj k o hk;exact ⟨p,hp,ho.out O (S:=fun _=>False) (AN.ofExt hE) (fun _ h=>h.elim) (fun _ _ _ h=>h)⟩
 ·obtain ⟨g1,g2,c,t,z,g3⟩:=H.cel k o p b h1 h2 h3;exact ⟨g1,g2,c,t,z,(zCH hE b (zj.1 g3).1).trans g3⟩
theorem BO.ext {M:Nat -> Prop} {w w':World} (ρ:List AI) (hE:Au w w'):BO M w ρ M w' ρ:=⟨fun b hb _ _=>zCH hE b hb,fun b h=>.inl h,fun _ _ h=>h⟩
theorem A9.ext {w w':World} (hE:Au w w'):A9 h ρ w h ρ w':=⟨AN.ofExt hE,fun _ h=>.inl h⟩
theorem DE {α:Type} {l:List α} {x y:α} {k:Nat} (hk:(l++[x])[k]? =some y):(k<l.length/\ l[k]? =some y)∨(k=l.length/\ x=y):=by
 rcases Nat.lt_trichotomy k l.length with hl | hl | hl
 ·rw [zAC hl] at hk;exact .inl ⟨hl,hk⟩
 ·subst hl;simp at hk;exact .inr ⟨rfl,hk⟩
 ·rw [zAN (by omega)] at hk;have:k-l.length≠0:=by omega
  cases e:k-l.length with
  | zero=>omega
  | succ m=>rw [e] at hk;simp at hk
theorem Dg {α:Type} {l:List α} {x y:α} {k:Nat} (hk:l[k]? =some y):(l++[x])[k]? =some y:=by
 rw [zAC (zp.1 hk).1];exact hk
theorem MO.snoc (H:BP P Γ N h ρ w) {o:DO} {p:AI} {b:Nat} (hb:MO (h++[some o]) (ρ++[p]) b):MO h ρ b∨p.foot b:=by
 obtain ⟨k,o',p',h1,h2,h3⟩:=hb;rcases DE h1 with ⟨hl,h1⟩ | ⟨hl,h1⟩
 ·rcases DE h2 with ⟨_,h2⟩ | ⟨CY,_⟩
  ·exact .inl ⟨k,o',p',h1,h2,h3⟩
  ·rw [CY,H.len] at hl;omega
 ·rcases DE h2 with ⟨CY,_⟩ | ⟨_,h2⟩
  ·rw [H.len,←hl] at CY;omega
  ·subst h2;exact .inr h3
theorem BP.snoc (H:BP P Γ N h ρ w) {w':World} (hE:Au w w') {o:DO} {p:AI} (hf: ∀ b,p.foot b -> w.heap.size<=b/\ C8 w' b)
 (ho:C7 P (MS N (h++[some o]) (ρ++[p])) w' (ρ++[p]) p o):BP P Γ N (h++[some o]) (ρ++[p]) w':=by
 have O:BO (MS N h ρ) w ρ (MS N (h++[some o]) (ρ++[p])) w' (ρ++[p]):=by
  refine ⟨fun b hb _ _=>zCH hE b hb,fun b hb=>?_,fun k q hk=>Dg hk⟩;rcases hb with hb | hb
  ·exact .inl (.inl hb)
  ·rcases MO.snoc H hb with hb | hb
   ·exact .inl (.inr hb)
   ·exact .inr (hf b hb).1
 refine ⟨by simp [H.len],fun k o' hk=>?_,fun k o' p' b h1 h2 h3=>?_,fun k k' o1 o2 p1 p2 b AQ h1 h2 h3 h4 h5 h6=>?_,fun b hb=>⟨zu (H.nlt b hb).1 hE.size,(H.nlt b hb).2⟩,Γ.st _ _ H.gi (AN.ofExt hE)⟩
 ·rcases DE hk with ⟨hl,hk⟩ | ⟨hl,hk⟩
  ·obtain ⟨p',hp,hr⟩:=H.obj k o' hk;exact ⟨p',Dg hp,hr.out O (S:=fun _=>False) (AN.ofExt hE) (fun _ h=>h.elim) (fun _ _ _ h=>h)⟩
  ·cases hk;exact ⟨p,by rw [hl,←H.len];simp,ho⟩
 ·rcases DE h1 with ⟨hl,h1⟩ | ⟨hl,h1⟩
  ·rcases DE h2 with ⟨_,h2⟩ | ⟨CY,_⟩
   ·obtain ⟨g1,g2,c,t,z,g3⟩:=H.cel k o' p' b h1 h2 h3;exact ⟨g1,g2,c,t,z,(zCH hE b (zj.1 g3).1).trans g3⟩
   ·rw [CY,H.len] at hl;omega
  ·rcases DE h2 with ⟨CY,_⟩ | ⟨_,h2⟩
   ·rw [H.len,←hl] at CY;omega
   ·subst h2;obtain ⟨g1,g2⟩:=hf b h3;exact ⟨zt (Γ.lo _ H.gi) g1,fun hn=>by have:=H.nlt b hn;omega,g2⟩
 ·have Eu: ∀ {k:Nat} {o':DO} {p':AI},(h++[some o])[k]? =some (some o') -> (ρ++[p])[k]? =some p' -> p'.foot b -> k≠h.length -> b<w.heap.size:=by
   intro k o' p' h1 h2 h3 AQ;rcases DE h1 with ⟨hl,h1⟩ | ⟨hl,h1⟩
   ·rcases DE h2 with ⟨_,h2⟩ | ⟨CY,_⟩
    ·exact H.lt (.inr ⟨k,o',p',h1,h2,h3⟩)
    ·rw [CY,H.len] at hl;omega
   ·exact absurd hl AQ
  have fG: ∀ {k:Nat} {o':DO} {p':AI},(h++[some o])[k]? =some (some o') -> (ρ++[p])[k]? =some p' -> p'.foot b -> k=h.length -> w.heap.size<=b:=by
   intro k o' p' h1 h2 h3 he;rcases DE h2 with ⟨CY,_⟩ | ⟨_,h2⟩
   ·rw [H.len,←he] at CY;omega
   ·subst h2;exact (hf b h3).1
  by_cases e1:k=h.length
  ·by_cases e2:k'=h.length
   ·exact AQ (e1.trans e2.symm)
   ·have:=fG h1 h3 h5 e1;have:=Eu h2 h4 h6 e2;omega
  ·by_cases e2:k'=h.length
   ·have:=Eu h1 h3 h5 e1;have:=fG h2 h4 h6 e2;omega
   ·rcases DE h1 with ⟨_,h1⟩ | ⟨hl,_⟩
    ·rcases DE h2 with ⟨_,h2⟩ | ⟨hl,_⟩
     ·rcases DE h3 with ⟨_,h3⟩ | ⟨hl,_⟩
      ·rcases DE h4 with ⟨_,h4⟩ | ⟨hl,_⟩
       ·exact H.dis k k' o1 o2 p1 p2 b AQ h1 h2 h3 h4 h5 h6
       ·rw [H.len] at hl;exact e2 hl
      ·rw [H.len] at hl;exact e1 hl
     ·exact e2 hl
    ·exact e1 hl
theorem BO.snoc (H:BP P Γ N h ρ w) {w':World} (hE:Au w w') {o:DO} {p:AI} (hf: ∀ b,p.foot b -> w.heap.size<=b):BO (MS N h ρ) w ρ (MS N (h++[some o]) (ρ++[p])) w' (ρ++[p]):=by
 refine ⟨fun b hb _ _=>zCH hE b hb,fun b hb=>?_,fun k q hk=>Dg hk⟩;rcases hb with hb | hb
 ·exact .inl (.inl hb)
 ·rcases MO.snoc H hb with hb | hb
  ·exact .inl (.inr hb)
  ·exact .inr (hf b hb)
theorem A9.snoc (H:BP P Γ N h ρ w) {w':World} (hE:Au w w') {o:DO} {p:AI} (hf: ∀ b,p.foot b -> w.heap.size<=b):A9 h ρ w (h++[some o]) (ρ++[p]) w':=
 ⟨AN.ofExt hE,fun b hb=>(MO.snoc H hb).imp id (hf b)⟩
theorem MO.set {k:Nat} {o o':DO} (hk:h[k]? =some (some o)) {b:Nat}:MO (h.set k (some o')) ρ b↔MO h ρ b:=by
 have hl:=(zp.1 hk).1;constructor
 ·rintro ⟨i,o1,p,h1,h2,h3⟩;rw [zAU] at h1
  by_cases e:k=i
  ·subst e;exact ⟨k,o,p,hk,h2,h3⟩
  ·rw [zr e] at h1;exact ⟨i,o1,p,h1,h2,h3⟩
 ·rintro ⟨i,o1,p,h1,h2,h3⟩
  by_cases e:k=i
  ·subst e;exact ⟨k,o',p,by simp [hl],h2,h3⟩
  ·exact ⟨i,o1,p,by rw [zAU,zr e];exact h1,h2,h3⟩
theorem MS.set {k:Nat} {o o':DO} (hk:h[k]? =some (some o)) {b:Nat}:MS N (h.set k (some o')) ρ b↔MS N h ρ b:=by unfold MS;rw [MO.set hk]
theorem BP.write (H:BP P Γ N h ρ w) {w':World} {k:Nat} {o o':DO} {p:AI} (hk:h[k]? =some (some o)) (hp:ρ[k]? =some p) (hu:AN p.foot w w')
 (hc: ∀ b,p.foot b -> C8 w' b) (ho:C7 P (MS N (h.set k (some o')) ρ) w' ρ p o'):BP P Γ N (h.set k (some o')) ρ w':=by
 have hl:=(zp.1 hk).1;have hM: ∀ b,p.foot b -> MS N h ρ b:=fun b hb=>.inr ⟨k,o,p,hk,hp,hb⟩
 have O:BO (MS N h ρ) w ρ (MS N (h.set k (some o')) ρ) w' ρ:=⟨fun b hb hm _=>hu.block b hb fun hx=>hm (hM b hx),fun b hb=>.inl ((MS.set hk).1 hb),fun _ _ h=>h⟩;have H8: ∀ {i:Nat} {o1:DO},i≠k -> (h.set k (some o'))[i]? =some (some o1) -> h[i]? =some (some o1):=fun {i} {o1} AQ h1=>by rw [zAU,zr (zB2 AQ)] at h1;exact h1
 refine ⟨by simp [H.len],fun i o1 hi=>?_,fun i o1 p1 b h1 h2 h3=>?_,fun i i' o1 o2 p1 p2 b AQ h1 h2 h3 h4 h5 h6=>?_,fun b hb=>⟨zu (H.nlt b hb).1 hu.size,(H.nlt b hb).2⟩,Γ.st _ _ H.gi (hu.mono fun b _ hb=>(H.cel k o p b hk hp hb).1)⟩
 ·by_cases e:i=k
  ·subst e;have:o'=o1:=by simp [hl] at hi;exact hi
   subst this;exact ⟨p,hp,ho⟩
  ·obtain ⟨p1,Ku,hr⟩:=H.obj i o1 (H8 e hi);exact ⟨p1,Ku,hr.out O hu hM fun b _ h1 h2=>H.dis i k o1 o p1 p b e (H8 e hi) hk Ku hp h1 h2⟩
 ·by_cases e:i=k
  ·subst e;have:p=p1:=zo (hp.symm.trans h2);subst this;obtain ⟨g1,g2,_⟩:=H.cel i o p b hk hp h3;exact ⟨g1,g2,hc b h3⟩
  ·obtain ⟨g1,g2,c,t,z,g3⟩:=H.cel i o1 p1 b (H8 e h1) h2 h3;refine ⟨g1,g2,c,t,z,(hu.block b (zj.1 g3).1 fun hx=>H.dis i k o1 o p1 p b e (H8 e h1) hk h2 hp h3 hx).trans g3⟩
 ·have Eu: ∀ {i:Nat} {o1:DO},(h.set k (some o'))[i]? =some (some o1) -> ∃ o2,h[i]? =some (some o2):=fun {i} {o1} h1=>by
   by_cases e:i=k
   ·subst e;exact ⟨o,hk⟩
   ·exact ⟨o1,H8 e h1⟩
  obtain ⟨q1,g1⟩:=Eu h1;obtain ⟨q2,g2⟩:=Eu h2;exact H.dis i i' q1 q2 p1 p2 b AQ g1 g2 h3 h4 h5 h6
theorem BO.write (hN:True) {w':World} {k:Nat} {o o':DO} {p:AI} (hk:h[k]? =some (some o)) (hp:ρ[k]? =some p) (hu:AN p.foot w w'):BO (MS N h ρ) w ρ (MS N (h.set k (some o')) ρ) w' ρ:=
 ⟨fun b hb hm _=>hu.block b hb fun hx=>hm (.inr ⟨k,o,p,hk,hp,hx⟩),fun b hb=>.inl ((MS.set hk).1 hb),fun _ _ h=>h⟩
theorem A9.write {w':World} {k:Nat} {o o':DO} {p:AI} (hk:h[k]? =some (some o)) (hp:ρ[k]? =some p) (hu:AN p.foot w w'):A9 h ρ w (h.set k (some o')) ρ w':=
 ⟨hu.mono fun b _ hb=>⟨k,o,p,hk,hp,hb⟩,fun b hb=>.inl ((MO.set hk).1 hb)⟩
end
end Go.Proofs.YtgkhhfnhacibcaaGreatDoor
namespace Go.Proofs.YtgkhhfnhacibcaaGreatDoor
abbrev zy:=@Nat.not_lt_zero
abbrev zAP:=@decide_eq_true_eq
abbrev zAb:=@Bool.not_eq_true'
abbrev zAe:=@Go.run_underlying
abbrev zAg:=@Nat.add_assoc
abbrev zAw:=@Option.some.injEq
abbrev zBB:=@Nat.mul_le_mul_right
abbrev zBH:=@bne_iff_ne
abbrev zBJ:=@Prod.mk.injEq
abbrev zBN:=@Nat.add_mul
abbrev zBR:=@Nat.mul_comm
abbrev zBc:=@Nat.add_zero
abbrev zBk:=@Array.eq_empty_of_size_eq_zero
abbrev zB3:=@Nat.succ_mul
abbrev zB4:=@Nat.mod_eq_of_lt
abbrev zB5:=@Go.Sem.run_pure
end Go.Proofs.YtgkhhfnhacibcaaGreatDoor
namespace Go.Proofs.YtgkhhfnhacibcaaGreatDoor
open Go.RowKit
def FA:Value -> DV
 | .int k n=>.int k n
 | .bool b=>.bool b
 | .string s=>.str s
 | .slice none 0 0=>.nils
 | v=>if v.oneCell' then .cst v else .any
def AW (fr:List DV):Operand -> DV
 | .tmp t=>fr.getD t .any
 | .const v=>FA v
 | .global _=>.any
 | .func f=>.fn f 0 fun _=>.any
def H2 (P:Program) (t:TypeId):Bool:=match P.underlying t with
 | some (.struct _)=>true
 | some (.array _ _)=>true
 | _=>false
def M1 (P:Program) (t:TypeId) (m:Nat):Bool:=match P.underlying t with
 | some (.slice e)=>match P.info? e with
  | some i=>i.size==m&&m != 0
  | none=>false
 | _=>false
def Fr (P:Program) (t:TypeId):Bool:=(P.underlying t).isSome&&!H2 P t
def Sq (P:Program) (t:TypeId) (m:Nat):Bool:=H2 P t&&(match P.info? t with | some i=>i.size==m | none=>false)
def Va (P:Program) (s:TypeId) (f:Nat):Option (Nat×Nat):=match P.underlying s with
 | some (.struct fs)=>match fs[f]? with
  | some fd=>match P.info? fd.type with
   | some i=>if i.size=0 then none else some (fd.offset,i.size)
   | none=>none
  | none=>none
 | _=>none
def Sk (P:Program) (t:TypeId):Option (Nat×Nat):=match P.underlying t with
 | some (.array n e)=>match P.info? e with
  | some i=>if n<=1 then none else some (n,i.size)
  | none=>none
 | _=>none
def YK (P:Program) (t:TypeId):Option IntKind:=match P.underlying t with
 | some (.int k)=>some k
 | _=>none
def V0 (op:BinOp) (k:IntKind) (a b:Int):Option (DV×Prop):=match op with
 | .add=>some (.int k (k.wrap (a+b)),True)
 | .sub=>some (.int k (k.wrap (a-b)),True)
 | .mul=>some (.int k (k.wrap (a*b)),True)
 | .and=>some (.int k (bits .and k a b),True)
 | .or=>some (.int k (bits .or k a b),True)
 | .xor=>some (.int k (bits .xor k a b),True)
 | .andNot=>some (.int k (bits .andNot k a b),True)
 | .eql=>some (.bool (a==b),True)
 | .neq=>some (.bool (a != b),True)
 | .lss=>some (.bool (decide (a<b)),True)
 | .leq=>some (.bool (decide (a<=b)),True)
 | .gtr=>some (.bool (decide (a>b)),True)
 | .geq=>some (.bool (decide (a>=b)),True)
 | _=>none
def O9 (P:Program) (t:TypeId):Nat:=match P.underlying t with
 | some .bool=>1
 | some (.slice _)=>2
 | _=>0
def V1 (bt:Nat) (op:BinOp) (x y:DV):Option (DV×Prop):=match op,x,y with
 | .eql,.bool a,.bool b=>if bt=1 then some (.bool (a==b),True) else none
 | .neq,.bool a,.bool b=>if bt=1 then some (.bool (!(a==b)),True) else none
 | .eql,.ints l,.nils=>if bt=2 then some (.bool false,0<l.length) else none
 | .eql,.bools l,.nils=>if bt=2 then some (.bool false,0<l.length) else none
 | .neq,.ints l,.nils=>if bt=2 then some (.bool true,0<l.length) else none
 | .shl,.int k a,.int _ b=>some (.int k (k.wrap (a*2 ^ b.toNat)),0<=b/\ b<=k.bits)
 | .shr,.int k a,.int _ b=>some (.int k (a/2 ^ b.toNat),0<=b/\ b<=k.bits)
 | .quo,.int k a,.int k' b=>if k=k' then some (.int k (k.wrap (a.tdiv b)),b≠0) else none
 | .rem,.int k a,.int k' b=>if k=k' then some (.int k (a.tmod b),b≠0) else none
 | op,.int k a,.int k' b=>if k=k' then V0 op k a b else none
 | _,_,_=>none
def MK (P:Program) (S:St) (t:TypeId):DV -> Option (DV×Prop)
 | .fp m f=>if Fr P t then (if m=0 then none else some (f 0,True)) else if Sq P t m then some (.agg m f,True) else none
 | .ref k j=>match S.h[k]? with
  | some (some (.cells l))=>if Fr P t then (if j<l.length then some (l.getD j .any,True) else none)
   else match P.info? t with
    | some i=>if H2 P t&&decide (j+i.size<=l.length) then some (.agg i.size (GC i.size fun c=>l.getD (j+c) .any),True) else none
    | none=>none
  | _=>none
 | .mp k m i j=>match S.h[k]? with
  | some (some (.ints l))=>if Fr P t&&(m==1)&&(j==0) then some (.int .i64 (l.getD i 0),i<l.length) else none
  | some (some (.bools l))=>if Fr P t&&(m==1)&&(j==0) then some (.bool (l.getD i false),i<l.length) else none
  | some (some (.arr m' n f))=>if Fr P t&&(m==m')&&decide (j<m) then some (f i j,i<n)
   else if Sq P t m&&(m==m')&&(j==0) then some (.agg m (f i),i<n) else none
  | some (some (.mo (.sets _ ls _)))=>if Fr P t&&(m==1)&&(j==0) then some (.mri k i,i<ls.length) else none
  | some (some (.mo (.rws ls none)))=>if Fr P t&&(m==1)&&(j==0) then some (.mri k (i+1),i<ls.length) else none
  | _=>none
 | _=>none
def YQ (P:Program) (t:TypeId) (x:DV) (n:Int):Option (DV×Prop):=match x with
 | .ints l=>if M1 P t 1 then some (.fp 1 (fun _=>.int .i64 (l.getD n.toNat 0)),0<=n/\ n<l.length) else none
 | .bools l=>if M1 P t 1 then some (.fp 1 (fun _=>.bool (l.getD n.toNat false)),0<=n/\ n<l.length) else none
 | .sl m c f=>if M1 P t m then some (.fp m (f n.toNat),0<=n/\ n<c) else none
 | .msl k m off c=>if M1 P t m then some (.mp k m (off+n.toNat) 0,0<=n/\ n<c) else none
 | .ref k j=>match Sk P t with
  | some (len,sz)=>some (.ref k (j+n.toNat*sz),0<=n/\ n<len)
  | none=>none
 | .mp k m i 0=>match Sk P t with
  | some (len,sz)=>if sz=m then some (.mp k m (i+n.toNat) 0,0<=n/\ n<len) else none
  | none=>none
 | .fp m f=>match Sk P t with
  | some (len,sz)=>if n.toNat*sz+sz<=m then some (.fp sz (GC sz fun j=>f (n.toNat*sz+j)),0<=n/\ n<len) else none
  | none=>none
 | _=>none
def UY (P:Program) (t:TypeId) (d:DV):Option (DV×Prop):=match P.underlying t,d with
 | some (.slice _),.nils=>some (.int .i64 0,True)
 | some (.slice _),.ints l=>some (.int .i64 l.length,True)
 | some (.slice _),.bools l=>some (.int .i64 l.length,True)
 | some (.slice _),.sl _ n _=>some (.int .i64 n,True)
 | some (.slice _),.msl _ _ _ n=>some (.int .i64 n,True)
 | some .string,.str s=>some (.int .i64 s.size,True)
 | _,_=>none
def Xo (x y:DV):Option (DV×Prop):=match x,y with
 | .int k a,.int _ b=>some (.int k (if b>a then b else a),True)
 | _,_=>none
def Xm (x y:DV):Option (DV×Prop):=match x,y with
 | .int k a,.int _ b=>some (.int k (if b<a then b else a),True)
 | _,_=>none
def Vx (P:Program) (S:St) (b:Builtin) (args:List Operand) (ld:List TypeId):Option (DV×Prop):=match b with
 | .len=>match args with
  | [x]=>match ld with
   | [t]=>UY P t (AW S.fr x)
   | _=>none
  | _=>none
 | .max=>match args with
  | [x,y]=>Xo (AW S.fr x) (AW S.fr y)
  | _=>none
 | .min=>match args with
  | [x,y]=>Xm (AW S.fr x) (AW S.fr y)
  | _=>none
 | _=>none
def pop (P:Program) (S:St):Op -> Option (DV×Prop)
 | .move x=>some (AW S.fr x,True)
 | .assign x=>some (AW S.fr x,True)
 | .pick c a b=>match AW S.fr c with
  | .bool true=>some (AW S.fr a,True)
  | .bool false=>some (AW S.fr b,True)
  | _=>none
 | .load t x=>MK P S t (AW S.fr x)
 | .binOp op t x y _=>V1 (O9 P t) op (AW S.fr x) (AW S.fr y)
 | .unOp op _ x=>match op,AW S.fr x with
  | .not,.bool b=>some (.bool !b,True)
  | .neg,.int k n=>some (.int k (k.wrap (0-n)),True)
  | .xor,.int k n=>some (.int k (bits .xor k (if k.signed then-1 else k.max) n),True)
  | _,_=>none
 | .convert s d x=>match P.underlying s,YK P d,AW S.fr x with
  | some _,some k,.int _ n=>some (.int k (k.wrap n),True)
  | _,_,_=>none
 | .nilCheck x=>match AW S.fr x with
  | .fp m f=>some (.fp m f,True)
  | .ref k j=>some (.ref k j,True)
  | .mp k m i j=>some (.mp k m i j,True)
  | .fn g m c=>some (.fn g m c,True)
  | _=>none
 | .fieldAddr s x f=>match Va P s f with
  | some (off,sz)=>match AW S.fr x with
   | .fp m g=>if off+sz<=m then some (.fp sz (GC sz fun j=>g (off+j)),True) else none
   | .ref k j=>some (.ref k (j+off),True)
   | .mp k m i j=>some (.mp k m i (j+off),True)
   | _=>none
  | none=>none
 | .indexAddr t x i=>match AW S.fr i with
  | .int _ n=>YQ P t (AW S.fr x) n
  | _=>none
 | .extract x i=>match AW S.fr x with
  | .tup m f=>if i<m then some (f i,True) else none
  | _=>none
 | .makeFunc (.func g) first c=>if first.size=0 then some (.fn g c.size (GC c.size fun j=>AW S.fr (c.getD j (.const undef))),True) else none
 | .call c=>match c.callee with
  | .builtin b=>Vx P S b c.args.toList c.argTypes.toList
  | _=>none
 | _=>none
section
variable {P:Program} {Γ:Ax} {N:Nat -> Prop} {S:St} {ρ:List AI} {a:Act} {w:World}
theorem Qk {M:Nat -> Prop} (v:Value):AJ M w (FA v) ρ v:=by
 unfold FA;split
 ·rfl
 ·rfl
 ·rfl
 ·rfl
 ·split
  ·exact ⟨rfl,by assumption⟩
  ·trivial
theorem BZ (R:AY P Γ N S ρ a w) (x:Operand):AJ (MS N S.h ρ) w (AW S.fr x) ρ (a.eval x):=by
 cases x with
 | tmp t=>exact R.fr.at t
 | const v=>exact Qk v
 | global g=>trivial
 | func f=>exact ⟨#[],rfl,rfl,fun j hj=>absurd hj (zy j)⟩
theorem P6 {t:TypeId} {d:TypeDesc} (h:P.underlying t=some d):(isAgg t).run P w= .ok (H2 P t) w:=by
 unfold isAgg H2;rw [z7,zAe h];simp only [Result.andThen,h];cases d <;> rfl
theorem Id {t:TypeId} {i:TypeInfo} (h:P.info? t=some i):(sizeOf t).run P w= .ok i.size w:=by
 rw [run_sizeOf w h];unfold Program.cellsOf;rw [h];rfl
theorem n5 {t:TypeId} {b:Addr} {u:Value} (h:Fr P t=true) (hc:w.cell? b=some u):(loadVar t b).run P w= .ok u w:=by
 unfold Fr at h;simp only [zm,Option.isSome_iff_exists,zAb] at h;obtain ⟨⟨d,hd⟩,hn⟩:=h;unfold loadVar;rw [z7,P6 hd];simp only [Result.andThen,hn,zAa,zBY];simp [load,Sem.run,hc]
theorem f9 {t:TypeId} (h:H2 P t=true): ∃ d,P.underlying t=some d:=by
 unfold H2 at h;split at h
 ·exact ⟨_,by assumption⟩
 ·exact ⟨_,by assumption⟩
 ·cases h
theorem n6 {t:TypeId} {b o:Nat} {i:TypeInfo} (h:H2 P t=true) (hi:P.info? t=some i) (g:Nat -> Value) (hc: ∀ j,j<i.size -> w.cell? ⟨b,o+j,none⟩=some (g j)):
 (loadVar t ⟨b,o,none⟩).run P w= .ok (.agg ((List.range i.size).map g).toArray) w:=by
 obtain ⟨d,hd⟩:=f9 h;unfold loadVar;rw [z7,P6 hd];simp only [Result.andThen,h,zAn];rw [z7,Id hi];simp only [Result.andThen]
 rw [z7,run_loadCells w ⟨b,o,none⟩ i.size g (fun j hj=>by
  have:=hc j hj;unfold Addr.add
  by_cases e:j=0
  ·subst e;simpa using this
  ·simpa [e] using this)]
 simp [Result.andThen]
def Keep (N:Nat -> Prop) (w W:World):Prop:=∀ b o u,¬ N b -> w.cell? ⟨b,o,none⟩=some u -> W.cell? ⟨b,o,none⟩=some u
theorem Keep.ofExt {N:Nat -> Prop} {w W:World} (h:Au w W):Keep N w W:=fun _ _ _ _ hc=>h.cell hc
def Yl (P:Program) (N:Nat -> Prop) (w:World) (M:Nat -> Prop) (ρ:List AI) (s:Sem Value) (d:DV):Prop:=∃ v,(∀ W,Keep N w W -> s.run P W= .ok v W)/\ AJ M w d ρ v
theorem Nd {k:Nat} {o:DO} {p:AI} {n:Nat} {Rw:Nat -> Value -> Prop} (R:AY P Γ N S ρ a w) (hk:S.h[k]? =some (some o)) (hp:ρ[k]? =some p) (hr:AU w p n Rw): ¬ N p.blk:=(R.hr.cel k o p p.blk hk hp (by rw [hr.1])).2.1
theorem VR {M:Nat -> Prop} {m:Nat} {f:Nat -> DV} {v:Value} (h:AJ M w (.fp m f) ρ v): ∃ b o,v= .pointer (some ⟨b,o,none⟩)/\ ∀ j,j<m -> ¬ M b/\ ∃ u,w.cell? ⟨b,o+j,none⟩=some u/\ AJ M w (f j) [] u:=h
theorem Nh {M:Nat -> Prop} {d:DV} {v:Value} (h:AJ M w d [] v):AJ M w d ρ v:=h.out d ⟨fun _ _ _ _=>rfl,fun _ h=>.inl h,fun k p hk=>by simp at hk⟩
theorem W6 {t:TypeId} {b:Addr} {W:World}:(Instr.loadAt t (.pointer (some b))).run P W=(loadVar t b).run P W:=rfl
theorem MJ {M:Nat -> Prop} {t:TypeId} {b o:Nat} {u:Value} {d:DV} (hN: ¬ N b) (h1:Fr P t=true) (hc:w.cell? ⟨b,o,none⟩=some u) (hr:AJ M w d ρ u):Yl P N w M ρ (Instr.loadAt t (.pointer (some ⟨b,o,none⟩))) d:=
 ⟨u,fun W hE=>by rw [W6];exact n5 h1 (hE _ _ _ hN hc),hr⟩
theorem Xv {M:Nat -> Prop} {t:TypeId} {i:TypeInfo} {b o:Nat} {f:Nat -> DV} (hN:0<i.size -> ¬ N b) (h1:H2 P t=true) (hi:P.info? t=some i) (h: ∀ j,j<i.size -> ∃ u,w.cell? ⟨b,o+j,none⟩=some u/\ AJ M w (f j) ρ u):
 Yl P N w M ρ (Instr.loadAt t (.pointer (some ⟨b,o,none⟩))) (.agg i.size f):=by
 obtain ⟨g,hg⟩: ∃ g:Nat -> Value,∀ j,j<i.size -> w.cell? ⟨b,o+j,none⟩=some (g j)/\ AJ M w (f j) ρ (g j):=by
  refine ⟨fun j=>(w.cell? ⟨b,o+j,none⟩).getD undef,fun j hj=>?_⟩;obtain ⟨u,h1,h2⟩:=h j hj;simp [h1,h2]
 refine ⟨_,fun W hE=>by rw [W6];exact n6 h1 hi g fun j hj=>hE _ _ _ (hN (by omega)) (hg j hj).1,_,rfl,by simp,fun j hj=>?_⟩;exact ⟨g j,by simp [hj],(hg j hj).2⟩
theorem aY {t:TypeId} {m:Nat} (h:Sq P t m=true):H2 P t=true/\ ∃ i,P.info? t=some i/\ i.size=m:=by
 unfold Sq at h;simp only [zm] at h;refine ⟨h.1,?_⟩;have h2:=h.2;split at h2
 ·exact ⟨_,by assumption,by simpa using h2⟩
 ·cases h2
theorem fa (R:AY P Γ N S ρ a w) {t:TypeId} {x d:DV} {vc:Prop} {v:Value} (hx:AJ (MS N S.h ρ) w x ρ v) (h:MK P S t x=some (d,vc)) (hv:vc):
 Yl P N w (MS N S.h ρ) ρ (Instr.loadAt t v) d:=by
 unfold MK at h;split at h
 ·rename_i m f;obtain ⟨b,o,rfl,hc⟩:=VR hx;split at h
  ·rename_i h1;split at h
   ·cases h
   ·cases h;obtain ⟨hM,u,g1,g2⟩:=hc 0 (by omega);exact MJ (fun h=>hM (.inl h)) h1 g1 (Nh g2)
  ·split at h
   ·rename_i h2;cases h;obtain ⟨h3,i,hi,rfl⟩:=aY h2;exact Xv (fun hp h=>(hc 0 hp).1 (.inl h)) h3 hi fun j hj=>let ⟨_,u,g1,g2⟩:=hc j hj;⟨u,g1,Nh g2⟩
   ·cases h
 ·rename_i k j;obtain ⟨p,hp,rfl⟩:=hx;split at h
  ·rename_i l hk;obtain ⟨p',Av,hr⟩:=R.hr.obj k _ hk;have e:p'=p:=zo (Av.symm.trans hp);subst e;split at h
   ·rename_i h1;split at h
    ·rename_i hj;cases h;obtain ⟨u,g1,g2⟩:=AU.cell hr hj;exact MJ (Nd R hk hp hr) h1 g1 g2
    ·cases h
   ·split at h
    ·rename_i i hi;split at h
     ·rename_i h2;cases h;simp only [zm,zAP] at h2;refine Xv (fun _=>Nd R hk hp hr) h2.1 hi fun c hc=>?_
      obtain ⟨u,g1,g2⟩:=AU.cell hr (j:=j+c) (by omega);exact ⟨u,by rw [zAg];exact g1,Hh hc g2⟩
     ·cases h
    ·cases h
  ·cases h
 ·rename_i k m i j;obtain ⟨p,hp,rfl⟩:=hx;split at h
  ·rename_i l hk;obtain ⟨p',Av,hr⟩:=R.hr.obj k _ hk;have e:p'=p:=zo (Av.symm.trans hp);subst e;split at h
   ·rename_i h1;cases h;simp only [zm,zAQ] at h1;obtain ⟨⟨h1,rfl⟩,rfl⟩:=h1;obtain ⟨u,g1,g2⟩:=AU.cell hr hv;exact MJ (Nd R hk hp hr) h1 (by simpa using g1) g2
   ·cases h
  ·rename_i l hk;obtain ⟨p',Av,hr⟩:=R.hr.obj k _ hk;have e:p'=p:=zo (Av.symm.trans hp);subst e;split at h
   ·rename_i h1;cases h;simp only [zm,zAQ] at h1;obtain ⟨⟨h1,rfl⟩,rfl⟩:=h1;obtain ⟨u,g1,g2⟩:=AU.cell hr hv;exact MJ (Nd R hk hp hr) h1 (by simpa using g1) g2
   ·cases h
  ·rename_i m' n f hk;obtain ⟨p',Av,hr⟩:=R.hr.obj k _ hk;have e:p'=p:=zo (Av.symm.trans hp);subst e
   have YO: ∀ {i j:Nat},i<n -> j<m' -> i*m'+j<n*m':=fun {i j} hi hj=>by
    have:(i+1)*m'<=n*m':=zBB _ hi;rw [zB3] at this;omega
   have dv: ∀ {i j:Nat},j<m' -> (i*m'+j)/m'=i/\ (i*m'+j) % m'=j:=fun {i j} hj=>by
    have hm:0<m':=by omega
    constructor
    ·rw [zBR,Nat.mul_add_div hm,Nat.div_eq_of_lt hj,zBc]
    ·rw [zBR,Nat.mul_add_mod,zB4 hj]
   split at h
   ·rename_i h1;cases h;simp only [zm,zAQ,zAP] at h1;obtain ⟨⟨h1,rfl⟩,hj⟩:=h1;obtain ⟨u,g1,g2⟩:=AU.cell hr (YO hv hj);rw [(dv hj).1,(dv hj).2] at g2;exact MJ (Nd R hk hp hr) h1 g1 (Nh g2)
   ·split at h
    ·rename_i h2;cases h;simp only [zm,zAQ] at h2;obtain ⟨⟨h2,rfl⟩,rfl⟩:=h2;obtain ⟨h3,ti,hi,rfl⟩:=aY h2;refine Xv (fun _=>Nd R hk hp hr) h3 hi fun c hc=>?_
     obtain ⟨u,g1,g2⟩:=AU.cell hr (YO hv hc);rw [(dv hc).1,(dv hc).2] at g2;exact ⟨u,by simpa [zAg] using g1,Nh g2⟩
    ·cases h
  ·rename_i n ls lk hk;obtain ⟨p',Av,vs,hS⟩:=R.hr.obj k _ hk;have e:p'=p:=zo (Av.symm.trans hp);subst e;split at h
   ·rename_i h1;cases h;simp only [zm,zAQ] at h1;obtain ⟨⟨h1,rfl⟩,rfl⟩:=h1;obtain ⟨cs,tt,q1,q2,q3,q4⟩:=hS.row;have hi:i<vs.size:=by rw [hS.size];exact hv
    have q5:=q4 i hv;rw [zAV hi] at q5;refine MJ (u:=vs[i]) (R.hr.cel k _ p' p'.blk hk hp hS.blk).2.1 h1 ?_ ⟨p',vs,hp,hS.val,zAV hi⟩;unfold World.cell?;simp [q1,q5]
   ·cases h
  ·rename_i ls hk;obtain ⟨p',Av,vs,hS⟩:=R.hr.obj k _ hk;have e:p'=p:=zo (Av.symm.trans hp);subst e;split at h
   ·rename_i h1;cases h;simp only [zm,zAQ] at h1;obtain ⟨⟨h1,rfl⟩,rfl⟩:=h1;obtain ⟨cs,tt,q1,q2,q3,q4⟩:=hS.row;have hi:i+1<vs.size:=by rw [hS.size];omega
    have q5:=q4 i hv;rw [zAV hi] at q5;refine MJ (u:=vs[i+1]) (R.hr.cel k _ p' p'.blk hk hp hS.blk).2.1 h1 ?_ ⟨p',vs,hp,hS.val,zAV hi⟩;unfold World.cell?;simp [q1,q5]
   ·cases h
  ·cases h
 ·cases h
theorem Yl.pure {M:Nat -> Prop} {s:Sem Value} {d:DV} {v:Value} (h: ∀ W,s.run P W= .ok v W) (hr:AJ M w d ρ v):Yl P N w M ρ s d:=⟨v,fun W _=>h W,hr⟩
theorem jS {t:TypeId} {m:Nat} (h:M1 P t m=true):P.underlying t=some (.slice (P.elem t))/\ (∃ i,P.info? (P.elem t)=some i/\ i.size=m)/\ m≠0:=by
 unfold M1 at h;split at h
 ·rename_i e he;have:P.elem t=e:=by unfold Program.elem;rw [he]
  rw [this];refine ⟨he,?_⟩;split at h
  ·simp only [zm,zAQ,zBH] at h;exact ⟨⟨_,by assumption,h.1⟩,h.2⟩
  ·cases h
 ·cases h
theorem aM {t:TypeId} {n m:Nat} (h:Sk P t=some (n,m)):P.underlying t=some (.array (P.arrayLen t) (P.elem t))/\ P.arrayLen t=n/\ ∃ i,P.info? (P.elem t)=some i/\ i.size=m:=by
 unfold Sk at h;split at h
 ·rename_i n' e he;have h1:P.elem t=e:=by unfold Program.elem;rw [he]
  have h2:P.arrayLen t=n':=by unfold Program.arrayLen;rw [he]
  rw [h1,h2];split at h
  ·split at h
   ·cases h
   ·cases h;exact ⟨he,rfl,_,by assumption,rfl⟩
  ·cases h
 ·cases h
theorem IV (b o n:Nat):Addr.add ⟨b,o,none⟩ n=⟨b,o+n,none⟩:=by
 unfold Addr.add
 by_cases h:n=0
 ·subst h;rfl
 ·simp [h]
theorem TT {t:TypeId} {m b o len cap:Nat} {k:IntKind} {n:Int} (h:M1 P t m=true) (h1:0<=n) (h2:n<len) (W:World):
 (Instr.indexAt t (.slice (some ⟨b,o,none⟩) len cap) (.int k n)).run P W= .ok (.pointer (some ⟨b,o+n.toNat*m,none⟩)) W:=by
 obtain ⟨hu,⟨i,hi,rfl⟩,_⟩:=jS h;rw [run_indexAt_slice W t _ len cap k n hu,zi ⟨h1,h2⟩,Id hi];simp only [Result.andThen,IV]
theorem sn (R:AY P Γ N S ρ a w) {t:TypeId} {x d:DV} {vc:Prop} {v:Value} {k:IntKind} {n:Int} (hx:AJ (MS N S.h ρ) w x ρ v) (h:YQ P t x n=some (d,vc)) (hv:vc):
 Yl P N w (MS N S.h ρ) ρ (Instr.indexAt t v (.int k n)) d:=by
 unfold YQ at h;split at h
 ·rename_i l;obtain ⟨ad,cap,rfl,h1,h2,h3⟩:=hx;split at h
  ·rename_i he;cases h;obtain ⟨b,o,rfl,hM,hc⟩:=h3 n.toNat (by omega);refine Yl.pure (fun W=>TT he hv.1 hv.2 W) ⟨b,o+n.toNat*1,rfl,fun j hj=>⟨hM,_,?_,rfl⟩⟩;have:j=0:=by omega
   subst this;simpa using hc
  ·cases h
 ·rename_i l;obtain ⟨ad,cap,rfl,h1,h2,h3⟩:=hx;split at h
  ·rename_i he;cases h;obtain ⟨b,o,rfl,hM,hc⟩:=h3 n.toNat (by omega);refine Yl.pure (fun W=>TT he hv.1 hv.2 W) ⟨b,o+n.toNat*1,rfl,fun j hj=>⟨hM,_,?_,rfl⟩⟩;have:j=0:=by omega
   subst this;simpa using hc
  ·cases h
 ·rename_i m c f;obtain ⟨ad,cap,rfl,h1,h2,h3⟩:=hx;split at h
  ·rename_i he;cases h;have hm:=(jS he).2;obtain ⟨b,o,u,rfl,hM,hc,hr⟩:=h3 n.toNat 0 (by omega) (by omega);refine Yl.pure (fun W=>TT he hv.1 hv.2 W) ⟨b,o+n.toNat*m,rfl,fun j hj=>?_⟩;obtain ⟨b',o',u',e,wR,HT,Cw⟩:=h3 n.toNat j (by omega) hj;cases e;exact ⟨wR,u',by rw [zAg];exact HT,Cw⟩
  ·cases h
 ·rename_i k' m off c;obtain ⟨p,cap,hp,rfl,h1,h2,h3⟩:=hx;split at h
  ·rename_i he;cases h;exact Yl.pure (fun W=>TT he hv.1 hv.2 W) ⟨p,hp,by rw [zAg,←zBN];rfl⟩
  ·cases h
 ·rename_i k' j;obtain ⟨p,hp,rfl⟩:=hx;split at h
  ·rename_i len sz ha;cases h;obtain ⟨hu,hl,i,hi,rfl⟩:=aM ha;refine Yl.pure (fun W=>?_) ⟨p,hp,rfl⟩;rw [run_indexAt_array W t _ k n hu,zi ⟨hv.1,by rw [hl];exact hv.2⟩,Id hi];simp only [Result.andThen,IV,zAg]
  ·cases h
 ·rename_i k' m i0;obtain ⟨p,hp,rfl⟩:=hx;split at h
  ·rename_i len sz ha;split at h
   ·rename_i Am;subst Am;cases h;obtain ⟨hu,hl,i,hi,rfl⟩:=aM ha;refine Yl.pure (fun W=>?_) ⟨p,hp,rfl⟩;rw [run_indexAt_array W t _ k n hu,zi ⟨hv.1,by rw [hl];exact hv.2⟩,Id hi];simp only [Result.andThen,IV,zAg,zBN,zAA,zBc]
   ·cases h
  ·cases h
 ·rename_i m f;obtain ⟨b,o,rfl,hc⟩:=VR hx;split at h
  ·rename_i len sz ha;split at h
   ·rename_i Am;cases h;obtain ⟨hu,hl,i,hi,rfl⟩:=aM ha;refine Yl.pure (fun W=>?_) ⟨b,o+n.toNat*i.size,rfl,fun j hj=>?_⟩
    ·rw [run_indexAt_array W t _ k n hu,zi ⟨hv.1,by rw [hl];exact hv.2⟩,Id hi];simp only [Result.andThen,IV]
    ·obtain ⟨hM,u,h1,h2⟩:=hc (n.toNat*i.size+j) (by omega);exact ⟨hM,u,by rw [zAg];exact h1,Hh hj h2⟩
   ·cases h
  ·cases h
 ·cases h
theorem oC {op:BinOp} {k:IntKind} {x y:Int} {d:DV} {vc:Prop} (t:TypeId) (h:V0 op k x y=some (d,vc)) (M:Nat -> Prop):Yl P N w M ρ (binOp op t (.int k x) (.int k y)) d:=by
 cases op <;> simp only [V0,zAw,zBJ,reduceCtorEq] at h <;> obtain ⟨rfl,-⟩:=h
 ·exact Yl.pure (fun W=>by rw [binOp_add];rfl) rfl
 ·exact Yl.pure (fun W=>by rw [binOp_sub];rfl) rfl
 ·exact Yl.pure (fun W=>by rw [binOp_mul];rfl) rfl
 ·exact Yl.pure (fun W=>by rw [binOp_and];rfl) rfl
 ·exact Yl.pure (fun W=>by rw [binOp_or];rfl) rfl
 ·exact Yl.pure (fun W=>by rw [binOp_xor];rfl) rfl
 ·exact Yl.pure (fun W=>by rw [binOp_andNot];rfl) rfl
 ·exact Yl.pure (fun W=>by rw [binOp_eql];rfl) rfl
 ·exact Yl.pure (fun W=>by rw [binOp_neq];rfl) rfl
 ·exact Yl.pure (fun W=>by rw [binOp_lss];rfl) rfl
 ·exact Yl.pure (fun W=>by rw [binOp_leq];rfl) rfl
 ·exact Yl.pure (fun W=>by rw [binOp_gtr];rfl) rfl
 ·exact Yl.pure (fun W=>by rw [binOp_geq];rfl) rfl
theorem xR {op:BinOp} {t:TypeId} {x y:Operand} {k:IntKind} {n:Int} {v:Value}:eqGuard op t x y (.int k n) v=pure ():=by
 cases op <;> rfl
theorem yi {M:Nat -> Prop} {op:BinOp} {t:TypeId} {x y:DV} {vx vy:Value} {d:DV} {vc:Prop} (ox oy:Operand) (hx:AJ M w x ρ vx) (hy:AJ M w y ρ vy) (h:V1 (O9 P t) op x y=some (d,vc)) (hv:vc):
 Yl P N w M ρ (do eqGuard op t ox oy vx vy;binOp op t vx vy) d:=by
 have key: ∀ {k k':IntKind} {n n':Int},vx= .int k n -> vy= .int k' n' -> Yl P N w M ρ (binOp op t (.int k n) (.int k' n')) d -> Yl P N w M ρ (do eqGuard op t ox oy vx vy;binOp op t vx vy) d:=by
  intro k k' n n' e1 e2 hY;subst e1;subst e2;rw [xR];exact hY
 have hb:O9 P t=1 -> P.underlying t=some .bool:=fun h=>by
  unfold O9 at h;split at h
  ·assumption
  ·cases h
  ·cases h
 have Ym:O9 P t=2 -> ∃ e,P.underlying t=some (.slice e):=fun h=>by
  unfold O9 at h;split at h
  ·cases h
  ·exact ⟨_,by assumption⟩
  ·cases h
 have jK: ∀ {e:TypeId} {a:Addr} {l c:Nat} (W:World),P.underlying t=some (.slice e) -> (do eqGuard .eql t ox oy (.slice (some a) l c) (.slice none 0 0);binOp .eql t (.slice (some a) l c) (.slice none 0 0):Sem Value).run P W= .ok (.bool false) W:=by
  intro e a l c W hu;have h1:eqGuard .eql t ox oy (.slice (some a) l c) (.slice none 0 0)=pure ():=rfl;rw [h1]
  show (binOp .eql t (.slice (some a) l c) (.slice none 0 0)).run P W=_
  simp only [binOp];simp [run_equal_slice_nil W t e (some a) l c hu]
 have qk: ∀ {e:TypeId} {a:Addr} {l c:Nat} (W:World),P.underlying t=some (.slice e) -> (do eqGuard .neq t ox oy (.slice (some a) l c) (.slice none 0 0);binOp .neq t (.slice (some a) l c) (.slice none 0 0):Sem Value).run P W= .ok (.bool true) W:=by
  intro e a l c W hu;have h1:eqGuard .neq t ox oy (.slice (some a) l c) (.slice none 0 0)=pure ():=rfl;rw [h1]
  show (binOp .neq t (.slice (some a) l c) (.slice none 0 0)).run P W=_
  simp only [binOp];simp [run_equal_slice_nil W t e (some a) l c hu]
 unfold V1 at h;split at h
 ·split at h
  ·rename_i e;cases h;have e1:vx= .bool _:=hx;have e2:vy= .bool _:=hy;subst e1;subst e2;exact Yl.pure (fun W=>run_eql_bool W t _ _ (hb e)) rfl
  ·cases h
 ·split at h
  ·rename_i e;cases h;have e1:vx= .bool _:=hx;have e2:vy= .bool _:=hy;subst e1;subst e2;exact Yl.pure (fun W=>run_neq_bool W t _ _ (hb e)) rfl
  ·cases h
 ·split at h
  ·rename_i e;cases h;obtain ⟨e0,he⟩:=Ym e;obtain ⟨ad,cap,rfl,h1,h2,h3⟩:=hx;obtain ⟨b,o,rfl,_⟩:=h3 0 hv;have e2:vy= .slice none 0 0:=hy;subst e2;exact Yl.pure (fun W=>jK W he) rfl
  ·cases h
 ·split at h
  ·rename_i e;cases h;obtain ⟨e0,he⟩:=Ym e;obtain ⟨ad,cap,rfl,h1,h2,h3⟩:=hx;obtain ⟨b,o,rfl,_⟩:=h3 0 hv;have e2:vy= .slice none 0 0:=hy;subst e2;exact Yl.pure (fun W=>jK W he) rfl
  ·cases h
 ·split at h
  ·rename_i e;cases h;obtain ⟨e0,he⟩:=Ym e;obtain ⟨ad,cap,rfl,h1,h2,h3⟩:=hx;obtain ⟨b,o,rfl,_⟩:=h3 0 hv;have e2:vy= .slice none 0 0:=hy;subst e2;exact Yl.pure (fun W=>qk W he) rfl
  ·cases h
 ·cases h;refine key hx hy ?_;exact Yl.pure (fun W=>by rw [binOp_shl,shift_shl _ _ _ _ hv.1 hv.2];rfl) rfl
 ·cases h;refine key hx hy ?_;exact Yl.pure (fun W=>by rw [binOp_shr,shift_shr _ _ _ _ hv.1 hv.2];rfl) rfl
 ·split at h
  ·rename_i e;subst e;cases h;exact key hx hy (Yl.pure (fun W=>by rw [binOp_quo,Op.intDiv,zr hv];rfl) rfl)
  ·cases h
 ·split at h
  ·rename_i e;subst e;cases h;exact key hx hy (Yl.pure (fun W=>by rw [binOp_rem,Op.intDiv,zr hv];rfl) rfl)
  ·cases h
 ·split at h
  ·rename_i e;subst e;exact key hx hy (oC t h M)
  ·cases h
 ·cases h
theorem Gl {ρ':Operand -> Value} {o:Oper} {s:Sem Value} {M:Nat -> Prop} {d:DV} (he:execOp ρ' o=(do pure (.value (←s)))) (h:Yl P N w M ρ s d): ∃ v,(∀ W,Keep N w W -> (execOp ρ' o).run P W= .ok (.value v) W)/\ AJ M w d ρ v:=by
 obtain ⟨v,h1,h2⟩:=h;refine ⟨v,fun W hE=>?_,h2⟩;rw [he,z7,h1 W hE];rfl
theorem xC {s:TypeId} {f off sz:Nat} (h:Va P s f=some (off,sz)): ∃ fs fd i,P.underlying s=some (.struct fs)/\ fs[f]? =some fd/\ fd.offset=off/\ P.info? fd.type=some i/\ i.size=sz/\ sz≠0:=by
 unfold Va at h;split at h
 ·rename_i fs hs;split at h
  ·rename_i fd hf;split at h
   ·rename_i i hi;split at h
    ·cases h
    ·cases h;exact ⟨fs,fd,i,hs,hf,rfl,hi,rfl,by assumption⟩
   ·cases h
  ·cases h
 ·cases h
theorem W7 {s:TypeId} {f off sz b o:Nat} (h:Va P s f=some (off,sz)) (W:World):(Instr.fieldAt s (.pointer (some ⟨b,o,none⟩)) f).run P W= .ok (.pointer (some ⟨b,o+off,none⟩)) W:=by
 obtain ⟨fs,fd,i,h1,h2,rfl,h4,rfl,h6⟩:=xC h;unfold Instr.fieldAt;rw [z7,zAe h1];simp only [Result.andThen,h2,Instr.sureAddr];simp only [z7,zB5,Result.andThen,fieldPlace,Id h4,zr h6,IV]
theorem sI {t:TypeId} {k:IntKind} (h:YK P t=some k):P.underlying t=some (.int k):=by
 unfold YK at h;split at h
 ·cases h;assumption
 ·cases h
theorem P5 {t ty:TypeId} {e:TypeId} {ad:Option Addr} {n c:Nat} (h:P.underlying t=some (.slice e)) (W:World):(Builtin.len_ #[t] ty #[.slice ad n c]).run P W= .ok (.int .i64 n) W:=by
 simp [Builtin.len_,zAe h,goInt]
theorem n7 {t ty:TypeId} {s:ByteArray} (h:P.underlying t=some .string) (W:World):(Builtin.len_ #[t] ty #[.string s]).run P W= .ok (.int .i64 s.size) W:=by
 simp [Builtin.len_,zAe h,goInt]
theorem Zu {M:Nat -> Prop} {ρ':Operand -> Value} {o:Oper} {c:Call} {b:Builtin} {d:DV} {s:Sem Value} (ho:o.op= .call c) (hc:c.callee= .builtin b)
 (hb:builtin b c.argTypes o.type (c.args.map fun | .const _=>true | _=>false) (c.args.map ρ')=(do pure (.value (←s)))) (h:Yl P N w M ρ s d):
 ∃ v,(∀ W,Keep N w W -> (execOp ρ' o).run P W= .ok (.value v) W)/\ AJ M w d ρ v:=by
 refine Gl (s:=s) ?_ h;rw [←hb];unfold execOp;rw [ho]
 show (resolve ρ' c o.type>>=fun d=>invoke d.target d.args)=_
 unfold resolve;rw [hc];rfl
theorem rP {M:Nat -> Prop} {t ty:TypeId} {x d:DV} {vc:Prop} {v:Value} (hx:AJ M w x ρ v) (h:UY P t x=some (d,vc)):Yl P N w M ρ (Builtin.len_ #[t] ty #[v]) d:=by
 unfold UY at h;split at h
 ·rename_i e' hu;cases h;rw [show v=_ from hx];exact Yl.pure (fun W=>P5 hu W) rfl
 ·rename_i e' l hu;cases h;obtain ⟨ad,cap,rfl,_⟩:=hx;exact Yl.pure (fun W=>P5 hu W) rfl
 ·rename_i e' l hu;cases h;obtain ⟨ad,cap,rfl,_⟩:=hx;exact Yl.pure (fun W=>P5 hu W) rfl
 ·rename_i e' m n f hu;cases h;obtain ⟨ad,cap,rfl,_⟩:=hx;exact Yl.pure (fun W=>P5 hu W) rfl
 ·rename_i e' k m off n hu;cases h;obtain ⟨p,cap,_,rfl,_⟩:=hx;exact Yl.pure (fun W=>P5 hu W) rfl
 ·rename_i s hu;cases h;rw [show v=_ from hx];exact Yl.pure (fun W=>n7 hu W) rfl
 ·cases h
theorem bR {α:Type} {l:Array α} {x:α} (h:l.toList= [x]):l= #[x]:=by cases l;simp at h;rw [h]
theorem S6 {α:Type} {l:Array α} {x y:α} (h:l.toList= [x,y]):l= #[x,y]:=by cases l;simp at h;rw [h]
theorem yb (R:AY P Γ N S ρ a w) (o:Oper) {c:Call} {b:Builtin} {d:DV} {vc:Prop} (ho:o.op= .call c) (hc:c.callee= .builtin b) (h:Vx P S b c.args.toList c.argTypes.toList=some (d,vc)):
 ∃ v,(∀ W,Keep N w W -> (execOp a.eval o).run P W= .ok (.value v) W)/\ AJ (MS N S.h ρ) w d ρ v:=by
 have Dl:=fun x=>BZ R x
 unfold Vx at h;split at h
 ·split at h
  ·rename_i x ha;split at h
   ·rename_i t ht;exact Zu (s:=Builtin.len_ #[t] o.type #[a.eval x]) ho hc (by rw [bR ha,bR ht];simp [builtin]) (rP (Dl x) h)
   ·cases h
  ·cases h
 ·split at h
  ·rename_i x y ha;have hx:=Dl x;have hy:=Dl y;unfold Xo at h;split at h
   ·rename_i k n k' n' e1 e2;cases h;rw [e1] at hx;rw [e2] at hy;refine Zu (s:=Builtin.max_ c.argTypes o.type #[a.eval x,a.eval y]) ho hc (by rw [S6 ha];simp [builtin]) ?_;rw [show a.eval x=_ from hx,show a.eval y=_ from hy];exact Yl.pure (fun W=>by simp [Builtin.max_,Builtin.max2]) rfl
   ·cases h
  ·cases h
 ·split at h
  ·rename_i x y ha;have hx:=Dl x;have hy:=Dl y;unfold Xm at h;split at h
   ·rename_i k n k' n' e1 e2;cases h;rw [e1] at hx;rw [e2] at hy;refine Zu (s:=Builtin.min_ c.argTypes o.type #[a.eval x,a.eval y]) ho hc (by rw [S6 ha];simp [builtin]) ?_;rw [show a.eval x=_ from hx,show a.eval y=_ from hy];exact Yl.pure (fun W=>by simp [Builtin.min_,Builtin.min2]) rfl
   ·cases h
  ·cases h
 ·cases h
theorem d5 (R:AY P Γ N S ρ a w) (o:Oper) {d:DV} {vc:Prop} (h:pop P S o.op=some (d,vc)) (hv:vc):
 ∃ v,(∀ W,Keep N w W -> (execOp a.eval o).run P W= .ok (.value v) W)/\ AJ (MS N S.h ρ) w d ρ v:=by
 have Dl:=fun x=>BZ R x
 unfold pop at h;split at h
 ·rename_i x ho;cases h;exact ⟨a.eval x,fun W _=>by unfold execOp;rw [ho];rfl,Dl x⟩
 ·rename_i x ho;cases h;exact ⟨a.eval x,fun W _=>by unfold execOp;rw [ho];rfl,Dl x⟩
 ·rename_i c x y ho;have hc:=Dl c;split at h
  ·rename_i e;cases h;rw [e] at hc;exact ⟨a.eval x,fun W _=>by unfold execOp;rw [ho];simp only [show a.eval c= .bool true from hc];rfl,Dl x⟩
  ·rename_i e;cases h;rw [e] at hc;exact ⟨a.eval y,fun W _=>by unfold execOp;rw [ho];simp only [show a.eval c= .bool false from hc];rfl,Dl y⟩
  ·cases h
 ·rename_i t x ho;exact Gl (by unfold execOp;rw [ho]) (fa R (Dl x) h hv)
 ·rename_i op t x y t' ho;exact Gl (by unfold execOp;rw [ho]) (yi x y (Dl x) (Dl y) h hv)
 ·rename_i op t x ho;have hx:=Dl x;refine Gl (s:=Op.unary op (a.eval x)) (by unfold execOp;rw [ho]) ?_;split at h
  ·rename_i b e;cases h;rw [e] at hx;rw [show a.eval x= .bool b from hx];exact Yl.pure (fun W=>rfl) rfl
  ·rename_i k n e;cases h;rw [e] at hx;rw [show a.eval x= .int k n from hx];exact Yl.pure (fun W=>rfl) rfl
  ·rename_i k n e;cases h;rw [e] at hx;rw [show a.eval x= .int k n from hx];exact Yl.pure (fun W=>rfl) rfl
  ·cases h
 ·rename_i ts td x ho;have hx:=Dl x;split at h
  ·rename_i dd k k' n hs hd e;cases h;rw [e] at hx;refine Gl (s:=convert ts td (a.eval x)) (by unfold execOp;rw [ho]) ?_;rw [show a.eval x= .int k' n from hx];refine Yl.pure (v:=.int k (k.wrap n)) (fun W=>?_) rfl;simp [convert,zAe hs,zAe (sI hd),Conv.intToInt]
  ·cases h
 ·rename_i x ho;have hx:=Dl x;split at h
  ·rename_i m f e;cases h;rw [e] at hx;obtain ⟨b,oo,hb,hr⟩:=VR hx;exact ⟨_,fun W _=>by unfold execOp;rw [ho];simp only [hb];rfl,b,oo,rfl,hr⟩
  ·rename_i k j e;cases h;rw [e] at hx;obtain ⟨p,hp,hb⟩:=hx;exact ⟨_,fun W _=>by unfold execOp;rw [ho];simp only [hb];rfl,p,hp,rfl⟩
  ·rename_i k m i j e;cases h;rw [e] at hx;obtain ⟨p,hp,hb⟩:=hx;exact ⟨_,fun W _=>by unfold execOp;rw [ho];simp only [hb];rfl,p,hp,rfl⟩
  ·rename_i g m c e;cases h;rw [e] at hx;obtain ⟨lb,hb,hr⟩:=hx;exact ⟨_,fun W _=>by unfold execOp;rw [ho];simp only [hb];rfl,lb,rfl,hr⟩
  ·cases h
 ·rename_i st x f ho;have hx:=Dl x;split at h
  ·rename_i off sz hf;refine Gl (s:=Instr.fieldAt st (a.eval x) f) (by unfold execOp;rw [ho]) ?_;split at h
   ·rename_i m g e;split at h
    ·cases h;rw [e] at hx;obtain ⟨b,oo,hb,hr⟩:=VR hx;rw [hb];refine Yl.pure (fun W=>W7 hf W) ⟨b,_,rfl,fun j hj=>?_⟩;obtain ⟨g1,u,g2,g3⟩:=hr (off+j) (by omega);exact ⟨g1,u,by rw [zAg];exact g2,Hh hj g3⟩
    ·cases h
   ·rename_i k j e;cases h;rw [e] at hx;obtain ⟨p,hp,hb⟩:=hx;rw [hb];exact Yl.pure (fun W=>W7 hf W) ⟨p,hp,by rw [zAg]⟩
   ·rename_i k m i j e;cases h;rw [e] at hx;obtain ⟨p,hp,hb⟩:=hx;rw [hb];exact Yl.pure (fun W=>W7 hf W) ⟨p,hp,by rw [zAg,zAg]⟩
   ·cases h
  ·cases h
 ·rename_i t x i ho;have hi:=Dl i;split at h
  ·rename_i k n e;rw [e] at hi;refine Gl (s:=Instr.indexAt t (a.eval x) (a.eval i)) (by unfold execOp;rw [ho]) ?_;rw [show a.eval i= .int k n from hi];exact sn R (Dl x) h hv
  ·cases h
 ·rename_i x i ho;have hx:=Dl x;split at h
  ·rename_i m f e;split at h
   ·rename_i hi;cases h;rw [e] at hx;obtain ⟨cs,hb,hs,hr⟩:=hx;obtain ⟨u,g1,g2⟩:=hr i hi;refine Gl (s:=Instr.extract (a.eval x) i) (by unfold execOp;rw [ho]) ?_;rw [hb];exact Yl.pure (fun W=>by simp [Instr.extract,g1]) g2
   ·cases h
  ·cases h
 ·rename_i g first c ho
  split at h
  ·rename_i hf;cases h;refine ⟨.func (.func g) #[] (c.map a.eval),fun W _=>?_,c.map a.eval,rfl,by simp,fun j hj=>?_⟩
   ·unfold execOp;rw [ho];have:first= #[]:=zBk hf
    subst this;simp [Instr.makeFunc]
   ·refine ⟨a.eval (c.getD j (.const undef)),by simp [hj],Hh hj (Dl _)⟩
  ·cases h
 ·rename_i c ho;split at h
  ·rename_i b hc;exact yb R o ho hc h
  ·cases h
 ·cases h
end
end Go.Proofs.YtgkhhfnhacibcaaGreatDoor
namespace Go.Proofs.YtgkhhfnhacibcaaGreatDoor
abbrev zf:=@List.getElem?_eq_getElem
abbrev zh:=@Option.bind_some
abbrev zx:=@List.length_replicate
abbrev z6:=@List.getElem?_map
abbrev zAO:=@List.length_append
abbrev zAR:=@Option.map_some
abbrev zAi:=@Nat.mul_one
abbrev zAl:=@List.length_map
abbrev zAo:=@Int.le_refl
abbrev zAq:=@List.eq_nil_of_length_eq_zero
abbrev zAs:=@List.getElem_of_mem
abbrev zAv:=@List.length_cons
abbrev zBM:=@List.getElem?_range
abbrev zBW:=@Option.getD_some
abbrev zBZ:=@Go.heap_alloc_new
abbrev zBa:=@Nat.div_lt_iff_lt_mul
abbrev zCM:=@List.flatMap_cons
abbrev zCN:=@List.size_toArray
abbrev zCb:=@Nat.le_of_eq
abbrev zCd:=@Nat.mod_lt
end Go.Proofs.YtgkhhfnhacibcaaGreatDoor
namespace Go.Proofs.YtgkhhfnhacibcaaGreatDoor
open Go.RowKit
def L6:DV -> Bool
 | .any=>false
 | .agg .. =>false
 | .tup .. =>false
 | .it _=>false
 | .yl _=>false
 | .mri .. =>false
 | _=>true
def IL:DV -> Option (List DV)
 | .agg m f=>some ((List.range m).map f)
 | .any=>none
 | .tup .. =>none
 | .it _=>none
 | .yl _=>none
 | .mri .. =>none
 | d=>some [d]
def No:DV -> Bool
 | .int .. =>true
 | .bool _=>true
 | .str _=>true
 | .nils=>true
 | .ints _=>true
 | .bools _=>true
 | .sl .. =>true
 | _=>false
section
variable {P:Program} {Γ:Ax} {N:Nat -> Prop} {S:St} {ρ:List AI} {a:Act} {w:World}
theorem UK {M:Nat -> Prop} {d:DV} {v:Value} (h:L6 d=true) (hr:AJ M w d ρ v):v.oneCell'=true/\ v.cells= #[v]:=by
 have key:(∀ cs,v≠.agg cs) -> (∀ cs,v≠.tuple cs) -> v.oneCell'=true/\ v.cells= #[v]:=fun h1 h2=>by
  cases v <;> first | exact ⟨rfl,rfl⟩ | exact absurd rfl (h1 _) | exact absurd rfl (h2 _)
 cases d with
 | any=>cases h
 | agg m f=>cases h
 | tup m f=>cases h
 | nils=>exact key (fun cs e=>by rw [hr] at e;cases e) (fun cs e=>by rw [hr] at e;cases e)
 | int k n=>exact key (fun cs e=>by rw [hr] at e;cases e) (fun cs e=>by rw [hr] at e;cases e)
 | bool b=>exact key (fun cs e=>by rw [hr] at e;cases e) (fun cs e=>by rw [hr] at e;cases e)
 | str s=>exact key (fun cs e=>by rw [hr] at e;cases e) (fun cs e=>by rw [hr] at e;cases e)
 | ints l=>obtain ⟨_,_,rfl,_⟩:=hr;exact ⟨rfl,rfl⟩
 | bools l=>obtain ⟨_,_,rfl,_⟩:=hr;exact ⟨rfl,rfl⟩
 | sl m n f=>obtain ⟨_,_,rfl,_⟩:=hr;exact ⟨rfl,rfl⟩
 | fp m f=>obtain ⟨_,_,rfl,_⟩:=hr;exact ⟨rfl,rfl⟩
 | ref k j=>obtain ⟨_,_,rfl⟩:=hr;exact ⟨rfl,rfl⟩
 | msl k m off n=>obtain ⟨_,_,_,rfl,_⟩:=hr;exact ⟨rfl,rfl⟩
 | mp k m i j=>obtain ⟨_,_,rfl⟩:=hr;exact ⟨rfl,rfl⟩
 | fn g m c=>obtain ⟨_,rfl,_⟩:=hr;exact ⟨rfl,rfl⟩
 | it k=>cases h
 | yl l=>cases h
 | mse k m o n=>obtain ⟨_,_,_,_,rfl,_⟩:=hr;exact ⟨rfl,rfl⟩
 | mri k i=>cases h
 | cst u=>obtain ⟨rfl,hu⟩:=hr;cases v <;> first | exact ⟨rfl,rfl⟩ | (cases hu;done)
theorem SI {M:Nat -> Prop} {d:DV} {v:Value} {l:List DV} (h:IL d=some l) (hr:AJ M w d ρ v):v.cells.size=l.length/\ ∀ j,j<l.length -> ∃ u,v.cells[j]? =some u/\ AJ M w (l.getD j .any) ρ u:=by
 have one:L6 d=true -> l= [d] -> v.cells.size=l.length/\ ∀ j,j<l.length -> ∃ u,v.cells[j]? =some u/\ AJ M w (l.getD j .any) ρ u:=by
  intro h1 h2;subst h2;rw [(UK h1 hr).2];refine ⟨rfl,fun j hj=>?_⟩;have:j=0:=by simpa using hj
  subst this;exact ⟨v,rfl,hr⟩
 cases d with
 | any=>cases h
 | tup m f=>cases h
 | it k=>cases h
 | yl l=>cases h
 | mse k m o n=>cases h;exact one rfl rfl
 | mri k i=>cases h
 | cst u=>exact one rfl (zo h).symm
 | agg m f=>
  cases h;obtain ⟨cs,rfl,hs,hc⟩:=hr;refine ⟨by simpa [Value.cells] using hs,fun j hj=>?_⟩;have BH:j<m:=by simpa using hj
  obtain ⟨u,h1,h2⟩:=hc j BH;exact ⟨u,h1,by simpa [BH] using h2⟩
 | nils=>cases h;exact one rfl rfl
 | int k n=>cases h;exact one rfl rfl
 | bool b=>cases h;exact one rfl rfl
 | str s=>cases h;exact one rfl rfl
 | ints l=>cases h;exact one rfl rfl
 | bools l=>cases h;exact one rfl rfl
 | sl m n f=>cases h;exact one rfl rfl
 | fp m f=>cases h;exact one rfl rfl
 | ref k j=>cases h;exact one rfl rfl
 | msl k m off n=>cases h;exact one rfl rfl
 | mp k m i j=>cases h;exact one rfl rfl
 | fn g m c=>cases h;exact one rfl rfl
theorem XR {M:Nat -> Prop} {d:DV} {v:Value} (h:No d=true) (hr:AJ M w d ρ v):AJ M w d [] v:=by
 cases d <;> first | exact hr | (cases h;done)
structure DM (P:Program) (Γ:Ax) (N:Nat -> Prop) (h:DH) (ρ:List AI) (w:World) (ext:Bool) (d:DV) (h':DH) (v:Value) (w':World):Prop where
 ex: ∃ ρ',BP P Γ N h' ρ' w'/\ AJ (MS N h' ρ') w' d ρ' v/\ A9 h ρ w h' ρ' w'/\ (∀ (k:Nat) (p:AI),ρ[k]? =some p -> ρ'[k]? =some p)
 ext:ext=true -> Au w w'
def BJ (P:Program) (s:Sem Next) (w:World) (G:Value -> World -> Prop):Prop:=
 (∃ v w',s.run P w= .ok (.value v) w'/\ G v w')∨(∃ w',s.run P w= .ok .skip w'/\ G undef w')∨
 (∃ f args w',s.run P w= .ok (.enter f args) w'/\ Calls P f args w' fun e CI=>∃ v,e= .returned v/\ G v CI)
theorem BJ.value {G:Value -> World -> Prop} {ρ':Operand -> Value} {o:Oper} {s:Sem Value} {v:Value} {w':World} (he:execOp ρ' o=(do pure (.value (←s)))) (h:s.run P w= .ok v w') (hG:G v w'):BJ P (execOp ρ' o) w G:=
 .inl ⟨v,w',by rw [he,z7,h];rfl,hG⟩
theorem BJ.skip {G:Value -> World -> Prop} {ρ':Operand -> Value} {o:Oper} {s:Sem Unit} {w':World} (he:execOp ρ' o=(do s;pure .skip)) (h:s.run P w= .ok () w') (hG:G undef w'):BJ P (execOp ρ' o) w G:=
 .inr (.inl ⟨w',by rw [he,z7,h];rfl,hG⟩)
def Dm (w:World) (room:Nat):AI:=⟨w.heap.size,0,room,undef,fun b=>b=w.heap.size⟩
theorem Od (H:BP P Γ N S.h ρ w) {cs:Array Value} {t:TypeId} {o:DO} {d:DV} {v:Value} {w1:World} (RL:Au w w1/\ w1.heap.size=w.heap.size)
 (ho: ∀ M ρ',BO (MS N S.h ρ) w ρ M (w1.alloc (.cells cs t)) ρ' -> C7 P M (w1.alloc (.cells cs t)) ρ' (Dm w cs.size) o)
 (hv: ∀ M ρ',ρ'[S.h.length]? =some (Dm w cs.size) -> AJ M (w1.alloc (.cells cs t)) d ρ' v) (ext:Bool):
 DM P Γ N S.h ρ w ext d (S.h++[some o]) v (w1.alloc (.cells cs t)):=by
 have hE:Au w (w1.alloc (.cells cs t)):=RL.1.allocR _;have hf: ∀ b,(Dm w cs.size).foot b -> w.heap.size<=b:=fun b hb=>zCb (Eq.symm hb)
 have hb:(w1.alloc (.cells cs t)).heap[w.heap.size]? =some (.cells cs t (0,0)):=by rw [←RL.2];exact zBZ w1 _
 refine ⟨⟨ρ++[Dm w cs.size],H.snoc hE (fun b hx=>⟨hf b hx,.cells (c:=cs) (t:=t) (z:=(0,0)) (by rw [show b=w.heap.size from hx];exact hb)⟩) (ho _ _ (BO.snoc H hE hf)),?_,A9.snoc H hE hf,fun k p hk=>Dg hk⟩,fun _=>hE⟩;exact hv _ _ (by rw [←H.len];simp)
theorem Lp {cs:Array Value} {t:TypeId} {w1:World} (hs:w1.heap.size=w.heap.size) {n:Nat} {R:Nat -> Value -> Prop} (hn:n<=cs.size) (hR: ∀ j,j<n -> ∃ u,cs[j]? =some u/\ R j u):AU (w1.alloc (.cells cs t)) (Dm w cs.size) n R:=by
 refine ⟨rfl,cs,t,?_,by simpa [Dm] using hn,zAF _,fun j hj=>by simpa [Dm] using hR j hj⟩
 show (w1.alloc (.cells cs t)).heap[w.heap.size]? =_
 rw [←hs];exact zBZ w1 _
theorem ye (R:AY P Γ N S ρ a w) {x:Operand} {t:TypeId} {l:List DV} (h:IL (AW S.fr x)=some l) (o:Oper) (ho:o.op= .box t x) (ext:Bool):
 BJ P (execOp a.eval o) w (DM P Γ N S.h ρ w ext (.ref S.h.length 0) (S.h++[some (.cells l)])):=by
 obtain ⟨h1,h2⟩:=SI h (BZ R x);refine BJ.value (s:=Instr.box t (a.eval x)) (by unfold execOp;rw [ho]) (v:=.pointer (some ⟨w.heap.size,0,none⟩)) (w':=w.alloc (.cells (a.eval x).cells t)) ?_ ?_
 ·rfl
 ·refine Od (d:=.ref S.h.length 0) R.hr ⟨Au.refl w,rfl⟩ (fun M ρ' O=>?_) (fun M ρ' hp=>⟨_,hp,rfl⟩) ext;refine Lp rfl (by omega) fun j hj=>?_
  obtain ⟨u,g1,g2⟩:=h2 j hj;exact ⟨u,g1,g2.out _ O⟩
theorem zJ (R:AY P Γ N S ρ a w) {t:TypeId} {i:TypeInfo} {z:Value} (hi:P.info? t=some i) (hz:i.zero=some z) (o:Oper) (ho:o.op= .alloc t) (ext:Bool):
 BJ P (execOp a.eval o) w (DM P Γ N S.h ρ w ext (.ref S.h.length 0) (S.h++[some (.cells (z.cells.toList.map FA))])):=by
 refine BJ.value (s:=Instr.alloc t true (.tuple #[])) (by unfold execOp;rw [ho]) (v:=.pointer (some ⟨w.heap.size,0,none⟩)) (w':=w.alloc (.cells z.cells t)) ?_ ?_
 ·simp [Instr.alloc,zeroValue,typeInfo,hi,hz,newVar,newRow,newObj];rfl
 ·refine Od (d:=.ref S.h.length 0) R.hr ⟨Au.refl w,rfl⟩ (fun M ρ' O=>?_) (fun M ρ' hp=>⟨_,hp,rfl⟩) ext;refine Lp rfl (by simp) fun j hj=>?_
  have BH:j<z.cells.size:=by simpa using hj
  refine ⟨z.cells[j],by simp [BH],?_⟩;have:(z.cells.toList.map FA).getD j .any=FA z.cells[j]:=by simp [BH]
  rw [this];exact Qk _
def jF:Value -> Bool
 | .bool false=>true
 | _=>false
def WD (z:Value):Bool:=decide (2<z.cells.size)&&z.cells.toList.all jF
theorem zK (R:AY P Γ N S ρ a w) {t:TypeId} {i:TypeInfo} {z:Value} (hi:P.info? t=some i) (hz:i.zero=some z) (hb:WD z=true) (o:Oper) (ho:o.op= .alloc t) (ext:Bool):
 BJ P (execOp a.eval o) w (DM P Γ N S.h ρ w ext (.mp S.h.length 1 0 0) (S.h++[some (.bools (List.replicate z.cells.size false))])):=by
 refine BJ.value (s:=Instr.alloc t true (.tuple #[])) (by unfold execOp;rw [ho]) (v:=.pointer (some ⟨w.heap.size,0,none⟩)) (w':=w.alloc (.cells z.cells t)) ?_ ?_
 ·simp [Instr.alloc,zeroValue,typeInfo,hi,hz,newVar,newRow,newObj];rfl
 ·refine Od (d:=.mp S.h.length 1 0 0) R.hr ⟨Au.refl w,rfl⟩ (fun M ρ' O=>?_) (fun M ρ' hp=>⟨_,hp,rfl⟩) ext;refine Lp rfl (by simp) fun j hj=>?_
  have BH:j<z.cells.size:=by simpa using hj
  refine ⟨z.cells[j],by simp [BH],?_⟩;simp only [WD,zm,zq] at hb;have:=hb.2 z.cells[j] (by simp);unfold jF at this;split at this
  ·rename_i e;rw [e];simp [BH]
  ·cases this
inductive EK where
 | ints
 | bools
 | gen (m:Nat)
def Jy (P:Program) (t:TypeId):Option (EK×TypeId×TypeInfo×Value):=match P.underlying t with
 | some (.slice e)=>match P.info? e with
  | some i=>match i.zero with
   | some z=>if i.size=0 then none else if z.cells.size≠i.size then none else match P.underlying e with
    | some (.int .i64)=>if i.size=1 then (match z with | .int .i64 0=>some (.ints,e,i,z) | _=>none) else none
    | some .bool=>if i.size=1 then (match z with | .bool false=>some (.bools,e,i,z) | _=>none) else none
    | _=>some (.gen i.size,e,i,z)
   | none=>none
  | none=>none
 | _=>none
def EK.cells:EK -> Nat
 | .ints=>1
 | .bools=>1
 | .gen m=>m
theorem R9 {t:TypeId} {k:EK} {e:TypeId} {i:TypeInfo} {z:Value} (h:Jy P t=some (k,e,i,z)):P.underlying t=some (.slice e)/\ P.info? e=some i/\ i.zero=some z/\ i.size≠0/\ z.cells.size=i.size/\ k.cells=i.size/\
 (k= .ints -> z= .int .i64 0)/\ (k= .bools -> z= .bool false):=by
 unfold Jy at h
 repeat' (split at h)
 all_goals first
  | (cases h;done)
  | skip
 all_goals
  simp only [zAw,zBJ] at h;obtain ⟨rfl,rfl,rfl,rfl⟩:=h;refine ⟨by assumption,by assumption,by assumption,by assumption,by simp_all,?_,?_,?_⟩
  ·simp_all [EK.cells]
  ·intro hk;first | rfl | cases hk
  ·intro hk;first | rfl | cases hk
theorem Zl {s:Nat} (hs:0<s): ∀ (vs:List Value),(∀ v∈vs,v.cells.size=s) -> ∀ i j,i<vs.length -> j<s -> (vs.flatMap fun v=>v.cells.toList)[i*s+j]? =(vs[i]?).bind (fun v=>v.cells[j]?)
 | [],_,i,j,hi,_=>absurd hi (zy i)
 | v::vs,hv,i,j,hi,hj=>by
  have HM:v.cells.toList.length=s:=by simpa using hv v (by simp)
  rw [zCM];cases i with
  | zero=>rw [Nat.zero_mul,zAA,zAC (by omega)];simp
  | succ i=>
   rw [zAN (by rw [HM,zB3];omega),HM,show (i+1)*s+j-s=i*s+j by rw [zB3];omega];rw [Zl hs vs (fun v h=>hv v (by simp [h])) i j (by simpa using hi) hj];simp
def HL:DV -> Int
 | .int _ n=>n
 | _=>0
def Sb:DV -> Bool
 | .bool b=>b
 | _=>false
def Jc:DV -> Bool
 | .int .i64 _=>true
 | _=>false
def YH:DV -> Bool
 | .bool _=>true
 | _=>false
def O8 (k:EK) (ds:List DV):Option DO:=match k with
 | .ints=>if ds.all Jc then some (.ints (ds.map HL)) else none
 | .bools=>if ds.all YH then some (.bools (ds.map Sb)) else none
 | .gen m=>if ds.all fun d=>(match IL d with | some l=>l.length==m&&l.all No | none=>false) then
  some (.arr m ds.length (fun i j=>match IL (ds.getD i .any) with | some l=>l.getD j .any | none=>.any)) else none
theorem YF {M:Nat -> Prop} {d:DV} {v:Value} (h:Jc d=true) (hr:AJ M w d ρ v):v= .int .i64 (HL d):=by
 unfold Jc at h;split at h
 ·exact hr
 ·cases h
theorem sG {M:Nat -> Prop} {d:DV} {v:Value} (h:YH d=true) (hr:AJ M w d ρ v):v= .bool (Sb d):=by
 unfold YH at h;split at h
 ·exact hr
 ·cases h
theorem yd {M:Nat -> Prop} {k:EK} {ds:List DV} {o:DO} {vs:List Value} (hk:0<k.cells) (h:O8 k ds=some o) (hl:vs.length=ds.length) (hv: ∀ i,i<ds.length -> AJ M w (ds.getD i .any) ρ (vs.getD i undef)):
 (∀ v∈vs,v.cells.size=k.cells)/\ ∀ M' (w':World) ρ',BO M w ρ M' w' ρ' -> ∀ (cs:Array Value) (t:TypeId) (p:AI),cs.toList=(vs.flatMap fun v=>v.cells.toList) -> AU w' p (ds.length*k.cells) (fun j u=>cs[j]? =some u) -> C7 P M' w' ρ' p o:=by
 have one: ∀ {j:Nat},k.cells=1 -> j<ds.length*k.cells -> (∀ v∈vs,v.cells.size=k.cells) -> ∀ {u},(vs.flatMap fun v=>v.cells.toList)[j]? =some u -> (vs[j]?).bind (fun v=>v.cells[0]?)=some u:=fun {j} h1 hj hs {u} hu=>by
  rw [h1] at hj hs;have:=Zl (s:=1) (by omega) vs hs j 0 (by omega) (by omega);rw [zAi,zBc] at this;rw [←this];exact hu
 have mem: ∀ v∈vs,∃ i,i<ds.length/\ v=vs.getD i undef/\ vs[i]? =some v:=fun v hv=>by
  obtain ⟨i,hi,rfl⟩:=zAs hv;exact ⟨i,by omega,by simp [hi],by simp [hi]⟩
 have Z0: ∀ i,i<ds.length -> ds.getD i .any∈ds:=fun i hi=>by simp [hi]
 cases k with
 | ints=>
  simp only [O8] at h;split at h
  ·rename_i ha;cases h;have hI: ∀ i,i<ds.length -> vs.getD i undef= .int .i64 (HL (ds.getD i .any)):=fun i hi=>YF (zq.1 ha _ (Z0 i hi)) (hv i hi)
   have hs: ∀ v∈vs,v.cells.size=EK.ints.cells:=fun v RM=>by obtain ⟨i,hi,e,_⟩:=mem v RM;rw [e,hI i hi];rfl
   refine ⟨hs,fun M' w' ρ' O cs t p C5 hr=>?_⟩;have hn:ds.length*EK.ints.cells=(ds.map HL).length:=by simp [EK.cells]
   rw [hn] at hr;refine AU.out hr rfl fun j u hj hu=>?_
   have BH:j<ds.length:=by simpa using hj
   have h2:=one rfl (by simpa [EK.cells] using BH) hs (u:=u) (by rw [←C5];simpa using hu);rw [zf (by omega)] at h2;have h3:=hI j BH;have h4:vs.getD j undef=vs[j]:=by simp [hl,BH]
   rw [h4] at h3;simp only [zh,h3] at h2;have:u=Value.int .i64 (HL (ds.getD j .any)):=by simpa [Value.cells] using h2.symm
   rw [this];simp [BH]
  ·cases h
 | bools=>
  simp only [O8] at h;split at h
  ·rename_i ha;cases h;have hI: ∀ i,i<ds.length -> vs.getD i undef= .bool (Sb (ds.getD i .any)):=fun i hi=>sG (zq.1 ha _ (Z0 i hi)) (hv i hi)
   have hs: ∀ v∈vs,v.cells.size=EK.bools.cells:=fun v RM=>by obtain ⟨i,hi,e,_⟩:=mem v RM;rw [e,hI i hi];rfl
   refine ⟨hs,fun M' w' ρ' O cs t p C5 hr=>?_⟩;have hn:ds.length*EK.bools.cells=(ds.map Sb).length:=by simp [EK.cells]
   rw [hn] at hr;refine AU.out hr rfl fun j u hj hu=>?_
   have BH:j<ds.length:=by simpa using hj
   have h2:=one rfl (by simpa [EK.cells] using BH) hs (u:=u) (by rw [←C5];simpa using hu);rw [zf (by omega)] at h2;have h3:=hI j BH;have h4:vs.getD j undef=vs[j]:=by simp [hl,BH]
   rw [h4] at h3;simp only [zh,h3] at h2;have:u=Value.bool (Sb (ds.getD j .any)):=by simpa [Value.cells] using h2.symm
   rw [this];simp [BH]
  ·cases h
 | gen m=>
  simp only [O8] at h;split at h
  ·rename_i ha;cases h;have hm:0<m:=hk
   have hI: ∀ i,i<ds.length -> ∃ l,IL (ds.getD i .any)=some l/\ l.length=m/\ (∀ d∈l,No d=true):=fun i hi=>by
    have:=zq.1 ha _ (Z0 i hi);split at this
    ·rename_i l hl;simp only [zm,zAQ] at this;exact ⟨l,hl,this.1,fun d hd=>zq.1 this.2 d hd⟩
    ·cases this
   have hs: ∀ v∈vs,v.cells.size=(EK.gen m).cells:=fun v RM=>by
    obtain ⟨i,hi,e,_⟩:=mem v RM;obtain ⟨l,h1,h2,_⟩:=hI i hi;rw [e,(SI h1 (hv i hi)).1,h2];rfl
   refine ⟨hs,fun M' w' ρ' O cs t p C5 hr=>?_⟩;refine AU.out hr rfl fun j u hj hu=>?_
   have vd:j<ds.length*m:=hj;have hi:j/m<ds.length:=by rw [zBa hm];exact vd
   have hc:j % m<m:=zCd _ hm;obtain ⟨l,h1,h2,h3⟩:=hI (j/m) hi;have h4:=Zl (s:=m) hm vs hs (j/m) (j % m) (by omega) hc;rw [show j/m*m+j % m=j by rw [zBR];exact Nat.div_add_mod j m] at h4;obtain ⟨_,h5⟩:=SI h1 (hv (j/m) hi);obtain ⟨u',g1,g2⟩:=h5 (j % m) (by omega);have h6:vs.getD (j/m) undef=vs[j/m]'(by omega):=by simp [hl,hi]
   have AK:j/m<vs.length:=by omega
   rw [zf AK] at h4;rw [h6] at g1
   have:u=u':=by
    have BT:(vs.flatMap fun v=>v.cells.toList)[j]? =some u:=by rw [←C5];simpa using hu
    rw [h4] at BT;simp only [zh] at BT;rw [g1] at BT;exact (zo BT).symm
   subst this;simp only [h1];refine AJ.out _ O.nil (XR (h3 _ ?_) g2);simp [h2,hc]
  ·cases h
theorem W9 {cs:Array Value} {t:TypeId} {w1:World} (hs:w1.heap.size=w.heap.size) {n:Nat} (hn:cs.size=n):AU (w1.alloc (.cells cs t)) (Dm w n) n (fun j u=>cs[j]? =some u):=by
 subst hn;exact Lp hs (zAF _) fun j hj=>⟨cs[j],by simp [hj],by simp [hj]⟩
def Vj (parts:List (Nat×Operand)) (len:Nat):Bool:=parts.map (·.1)==List.range len
theorem xn {parts:List (Nat×Operand)} {len:Nat} (h:Vj parts len=true) (f:Operand -> Value):parts.length=len/\ (parts.map fun x=>(x.1,f x.2))=((parts.map fun x=>f x.2).zipIdx 0).map fun x=>(x.2,x.1):=by
 simp only [Vj,zAQ] at h;have hl:parts.length=len:=by have:=congrArg List.length h;simpa using this
 refine ⟨hl,List.ext_getElem? fun i=>?_⟩
 by_cases hi:i<parts.length
 ·have h1:parts[i].1=i:=by
   have h2:=congrArg (fun l:List Nat=>l[i]?) h;have h3:(List.range len)[i]? =some i:=zBM (by omega);simp only [z6,zf hi,zAR,h3] at h2;exact zo h2
  simp [hi,h1]
 ·rw [zAM (by simpa using hi),zAM (by simpa using hi)]
theorem yc (R:AY P Γ N S ρ a w) {t:TypeId} {len:Nat} {parts:Array (Nat×Operand)} {k:EK} {e:TypeId} {i:TypeInfo} {z:Value} {ob:DO} (hk:Jy P t=some (k,e,i,z)) (hd:Vj parts.toList len=true) (Af:len<=65536/\ k.cells<=64)
 (hb:O8 k (parts.toList.map fun x=>AW S.fr x.2)=some ob) (o:Oper) (ho:o.op= .buildSlice t len parts) (ext:Bool):
 BJ P (execOp a.eval o) w (DM P Γ N S.h ρ w ext (.msl S.h.length k.cells 0 len) (S.h++[some ob])):=by
 obtain ⟨hu,hi,hz,h0,CJ,Do,_,_⟩:=R9 hk;obtain ⟨D9,tw⟩:=xn hd a.eval;have vS:=Af.1;have vR:=Af.2;have H6:0<k.cells:=by omega
 obtain ⟨hs,RQ⟩:=yd (w:=w) (M:=MS N S.h ρ) (ρ:=ρ) (vs:=parts.toList.map fun x=>a.eval x.2) H6 hb (by simp) (fun j hj=>by
  have BH:j<parts.toList.length:=by simpa using hj
  have:=BZ R parts.toList[j].2;simp only [u8,z6,zf BH,zAR,zBW];exact this)
 have FW:(parts.toList.map fun x=>a.eval x.2).length=len:=by simpa using D9
 have BL:((parts.toList.map fun x=>a.eval x.2).flatMap fun v=>v.cells.toList).toArray.size=len*k.cells:=by
  have: ∀ (l:List Value),(∀ v∈l,v.cells.size=k.cells) -> (l.flatMap fun v=>v.cells.toList).length=l.length*k.cells:=by
   intro l
   induction l with
   | nil=>intro _;simp
   | cons v l ih=>intro h;rw [zCM,zAO,ih (fun v hv=>h v (by simp [hv])),zAv,zB3];have:=h v (by simp);simp [this];omega
  simp only [zCN];rw [this _ hs,FW]
 refine BJ.value (s:=Instr.buildSlice t len (parts.map fun (i,x)=>(i,a.eval x))) (by unfold execOp;rw [ho]) (v:=.slice (some ⟨w.heap.size,0,none⟩) len len) (w':=w.alloc (.cells ((parts.toList.map fun x=>a.eval x.2).flatMap fun v=>v.cells.toList).toArray e)) ?_ ?_
 ·have tS: ¬ len*i.size>2 ^ 24:=by
   have:len*i.size<=65536*64:=Nat.mul_le_mul vS (by omega);omega
  by_cases ZE:len=0
  ·subst ZE
   have hp:parts= #[]:=by
    have:parts.toList= []:=zAq D9;cases parts;simp at this;simp [this]
   subst hp;have Dd:Array.map (fun (x:Nat)=>(default:Value)) (Array.range 0)= #[]:=by simp [Array.range_zero']
   simp [Instr.buildSlice,zAe hu,sizeOf,typeInfo,hi,newRow,Instr.fill,Array.range_zero']
  ·have vA: ¬ len*i.size=0:=by rw [Nat.mul_eq_zero];omega
   refine run_buildSlice w t e len _ _ i z hu hi hz tS vA ?_;have e1:(parts.map fun (i,x)=>(i,a.eval x)).toList=parts.toList.map fun x=>(x.1,a.eval x.2):=by simp
   rw [e1,tw];exact Great.fill_whole (s:=i.size) (by omega) _ _ (fun v hv=>by rw [hs v hv,Do]) (by rw [FW,Array.size_map,Array.size_range])
 ·have:=Od (d:=.msl S.h.length k.cells 0 len) (o:=ob) (v:=.slice (some ⟨w.heap.size,0,none⟩) len len) (cs:=((parts.toList.map fun x=>a.eval x.2).flatMap fun v=>v.cells.toList).toArray) (t:=e) R.hr ⟨Au.refl w,rfl⟩
   (fun M ρ' O=>RQ _ _ _ O ((parts.toList.map fun x=>a.eval x.2).flatMap fun v=>v.cells.toList).toArray e _ rfl (by rw [BL,zAl,D9];exact W9 (w:=w) (w1:=w) (t:=e) rfl BL))
   (fun M ρ' hp=>⟨_,len,hp,by simp [Dm],zAF _,by unfold LB;omega,by simp only [Dm];rw [BL];omega⟩) ext
  exact this
def fV (k:EK) (n:Nat) (z:Value):DO:=match k with
 | .ints=>.ints (List.replicate n 0)
 | .bools=>.bools (List.replicate n false)
 | .gen m=>.arr m n (fun _ j=>(z.cells.toList.map FA).getD j .any)
theorem qx (R:AY P Γ N S ρ a w) {t:TypeId} {x y:Operand} {k:EK} {e:TypeId} {i:TypeInfo} {z:Value} {kx ky:IntKind} {n:Int} (hk:Jy P t=some (k,e,i,z)) (hx:AW S.fr x= .int kx n) (hy:AW S.fr y= .int ky n)
 (hn:0<=n/\ n<=1000000000000) (DD:i.bytes<=128) (o:Oper) (ho:o.op= .makeSlice t x y) (ext:Bool):
 BJ P (execOp a.eval o) w (DM P Γ N S.h ρ w ext (.msl S.h.length k.cells 0 n.toNat) (S.h++[some (fV k n.toNat z)])):=by
 obtain ⟨hu,hi,hz,h0,CJ,Do,sq,YS⟩:=R9 hk;have F0:=hn.1;have HQ:=hn.2;have rx:=BZ R x;have ry:=BZ R y;rw [hx] at rx;rw [hy] at ry;have C5:(madeCells z.cells (n.toNat*i.size)).size=n.toNat*k.cells:=by rw [size_madeCells,Do]
 refine BJ.value (s:=Instr.makeSlice t (a.eval x) (a.eval y)) (by unfold execOp;rw [ho]) (v:=.slice (some ⟨w.heap.size,0,none⟩) n.toNat n.toNat) (w':=w.alloc (.cells (madeCells z.cells (n.toNat*i.size)) e)) ?_ ?_
 ·rw [show a.eval x=_ from rx,show a.eval y=_ from ry];refine run_make w t e i z hu hi hz kx ky n n F0 (zAo _) ?_ (by omega);have:(i.bytes:Int)*n<=128*1000000000000:=Int.mul_le_mul (by omega) HQ F0 (by omega);omega
 ·refine Od (d:=.msl S.h.length k.cells 0 n.toNat) R.hr ⟨Au.refl w,rfl⟩ (fun M ρ' O=>?_) (fun M ρ' hp=>⟨_,n.toNat,hp,by simp [Dm],zAF _,by unfold LB;omega,by simp only [Dm];rw [C5];omega⟩) ext;have hr:=W9 (w:=w) (w1:=w) (t:=e) rfl C5;rw [C5]
  have Co: ∀ j u,j<n.toNat*k.cells -> (madeCells z.cells (n.toNat*i.size))[j]? =some u -> z.cells[j % z.cells.size]? =some u:=by
   intro j u hj BT;have AK:j % z.cells.size<z.cells.size:=zCd _ (by omega);simp only [madeCells] at BT;have BH:j<n.toNat*i.size:=by rw [←Do];exact hj
   simp [BH] at BT;rw [←BT];simp [AK]
  cases k with
  | ints=>
   have RE:=sq rfl;subst RE
   show AU _ _ (List.replicate n.toNat (0:Int)).length _
   rw [zx];simp only [EK.cells,zAi] at hr Co ⊢;refine AU.out hr rfl fun j u hj BT=>?_
   have:=Co j u hj BT;have e1:j % (Value.cells (.int .i64 0)).size=0:=by simp [Value.cells,Nat.mod_one]
   rw [e1] at this;simp [Value.cells] at this;rw [←this];simp [hj]
  | bools=>
   have RE:=YS rfl;subst RE
   show AU _ _ (List.replicate n.toNat false).length _
   rw [zx];simp only [EK.cells,zAi] at hr Co ⊢;refine AU.out hr rfl fun j u hj BT=>?_
   have:=Co j u hj BT;have e1:j % (Value.cells (.bool false)).size=0:=by simp [Value.cells,Nat.mod_one]
   rw [e1] at this;simp [Value.cells] at this;rw [←this];simp [hj]
  | gen m=>
   refine AU.out hr rfl fun j u hj BT=>?_
   have h1:=Co j u hj BT;have hm:m=z.cells.size:=by rw [CJ];exact Do
   have h2:j % m<z.cells.toList.length:=by rw [hm];simpa using zCd _ (by omega)
   have h3:(z.cells.toList.map FA).getD (j % m) .any=FA u:=by
    rw [u8,z6];have:z.cells.toList[j % m]? =some u:=by rw [←h1,hm];simp
    rw [this];rfl
   show AJ M _ ((z.cells.toList.map FA).getD (j % m) .any) [] u
   rw [h3];exact Qk u
end
end Go.Proofs.YtgkhhfnhacibcaaGreatDoor
namespace Go.Proofs.YtgkhhfnhacibcaaGreatDoor
abbrev zA1:=@List.nil_append
abbrev zBG:=@List.foldl_cons
abbrev zBK:=@List.length_range
abbrev zBL:=@Array.getElem?_append_left
abbrev zBb:=@Array.getElem?_modify
abbrev zCS:=@List.getElem?_toArray
end Go.Proofs.YtgkhhfnhacibcaaGreatDoor
namespace Go.Proofs.YtgkhhfnhacibcaaGreatDoor
open Go.RowKit
section
variable {P:Program} {Γ:Ax} {N:Nat -> Prop} {S:St} {ρ:List AI} {a:Act} {w:World} {h:DH}
theorem OW (b:Nat) (t:TypeId) (z:Nat×Nat): ∀ (vs:List Value) (o:Nat) (w:World) (EW:Array Value),w.heap[b]? =some (.cells EW t z) -> o+vs.length<=EW.size ->
 ∃ SJ,(w.setCells b o vs).heap[b]? =some (.cells SJ t z)/\ SJ.size=EW.size/\ ∀ k,SJ[k]? =if o<=k/\ k<o+vs.length then vs[k-o]? else EW[k]?
 | [],o,w,EW,hb,_=>⟨EW,hb,rfl,fun k=>by rw [zr];simp only [zA0];omega⟩
 | v::vs,o,w,EW,hb,hl=>by
  have EA:o+(vs.length+1)<=EW.size:=hl;obtain ⟨SJ,h1,h2,h3⟩:=OW b t z vs (o+1) (w.setCell ⟨b,o,none⟩ v) (EW.setIfInBounds o v) (by simp [World.setCell,zBb,hb]) (by simp;omega);refine ⟨SJ,h1,by simpa using h2,fun k=>?_⟩;rw [h3 k,zAv]
  by_cases e:k=o
  ·subst e;rw [zr (by omega),zi (by omega),zAf,zi rfl,zi (by omega),Nat.sub_self];rfl
  ·by_cases e2:o+1<=k/\ k<o+1+vs.length
   ·rw [zi e2,zi (by omega),show k-o=(k-(o+1))+1 by omega];simp
   ·rw [zr e2,zr (by omega)];rw [zAf,zr (by omega)]
theorem NI (b:Nat): ∀ (vs:List Value) (o:Nat) (w:World),AN (fun k=>k=b) w (w.setCells b o vs)
 | [],_,w=>AN.refl _ w
 | v::vs,o,w=>((AN.refl (fun k=>k=b) w).setCell (p:=⟨b,o,none⟩) (fun _=>rfl) v).trans (NI b vs (o+1) (w.setCell ⟨b,o,none⟩ v))
theorem AU.writes {p:AI} {n:Nat} {R R':Nat -> Value -> Prop} (hr:AU w p n R) {o:Nat} {vs:List Value} (hl:o+vs.length<=n) (h1: ∀ i v,vs[i]? =some v -> R' (o+i) v)
 (h2: ∀ i u,i<n -> (i<o∨o+vs.length<=i) -> R i u -> R' i u):AU (w.setCells p.blk (p.off+o) vs) p n R':=by
 obtain ⟨g1,cs,t,g2,g3,g4,g5⟩:=hr;obtain ⟨Dq,e1,e2,e3⟩:=OW p.blk t (0,0) vs (p.off+o) w cs g2 (by omega);refine ⟨g1,Dq,t,e1,by omega,by omega,fun j hj=>?_⟩;rw [e3]
 by_cases e:p.off+o<=p.off+j/\ p.off+j<p.off+o+vs.length
 ·rw [zi e];have hi:p.off+j-(p.off+o)<vs.length:=by omega
  refine ⟨vs[p.off+j-(p.off+o)],by simp [hi],?_⟩;have:=h1 (p.off+j-(p.off+o)) _ (by simp [hi]:vs[p.off+j-(p.off+o)]? =some vs[p.off+j-(p.off+o)])
  rwa [show o+(p.off+j-(p.off+o))=j by omega] at this
 ·rw [zr e];obtain ⟨u,e4,e5⟩:=g5 j hj;exact ⟨u,e4,h2 j u hj (by omega) e5⟩
def Lg (l:List DV) (o:Nat) (ds:List DV):List DV:=(ds.zipIdx).foldl (fun cs x=>cs.set (o+x.2) x.1) l
theorem Wm: ∀ (ds:List DV) (k o:Nat) (l:List DV),((ds.zipIdx k).foldl (fun cs x=>cs.set (o+x.2) x.1) l).length=l.length/\
 ∀ j,j<l.length -> ((ds.zipIdx k).foldl (fun cs x=>cs.set (o+x.2) x.1) l).getD j .any=if o+k<=j/\ j<o+k+ds.length then ds.getD (j-(o+k)) .any else l.getD j .any
 | [],k,o,l=>⟨rfl,fun j _=>by
  rw [zr]
  ·rfl
  ·simp only [zA0];omega⟩
 | d::ds,k,o,l=>by
  obtain ⟨h1,h2⟩:=Wm ds (k+1) o (l.set (o+k) d);rw [List.zipIdx_cons,zBG];refine ⟨by rw [h1];simp,fun j hj=>?_⟩;rw [h2 j (by simpa using hj),zAv]
  by_cases e:j=o+k
  ·subst e;rw [zr (by omega),zi (by omega)];simp [hj]
  ·by_cases e2:o+(k+1)<=j/\ j<o+(k+1)+ds.length
   ·rw [zi e2,zi (by omega),show j-(o+k)=(j-(o+(k+1)))+1 by omega];simp
   ·rw [zr e2,zr (by omega)];simp only [u8,zAU];rw [zr (by omega)]
theorem Wl (l:List DV) (o:Nat) (ds:List DV):(Lg l o ds).length=l.length:=(Wm ds 0 o l).1
theorem Wn (l:List DV) (o:Nat) (ds:List DV) {j:Nat} (hj:j<l.length):(Lg l o ds).getD j .any=if o<=j/\ j<o+ds.length then ds.getD (j-o) .any else l.getD j .any:=by
 have:=(Wm ds 0 o l).2 j hj;simpa [Lg] using this
def Lc (P:Program) (S:St) (t:TypeId) (x d:DV):Option (DH×Prop):=match x with
 | .ref k j=>match S.h[k]? with
  | some (some (.cells l))=>match IL d with
   | some ds=>if P.info? t |>.any (fun i=>i.size==ds.length) then (if ds.all L6&&decide (j+ds.length<=l.length) then some (S.h.set k (some (.cells (Lg l j ds))),True) else none) else none
   | none=>none
  | _=>none
 | .mp k m i j=>if P.info? t |>.any (fun i=>i.size==1) then match S.h[k]? with
  | some (some (.ints l))=>match d with
   | .int .i64 n=>if m==1&&j==0 then some (S.h.set k (some (.ints (l.set i n))),i<l.length) else none
   | _=>none
  | some (some (.bools l))=>match d with
   | .bool b=>if m==1&&j==0 then some (S.h.set k (some (.bools (l.set i b))),i<l.length) else none
   | _=>none
  | some (some (.arr m' n f))=>if No d&&(m==m')&&decide (j<m) then some (S.h.set k (some (.arr m n (fun i' j'=>if i'=i/\ j'=j then d else f i' j'))),i<n) else none
  | _=>none
  else none
 | _=>none
theorem pq {d:DV} (h:No d=true):L6 d=true:=by cases d <;> first | rfl | cases h
theorem W4 {t:TypeId} {i:TypeInfo} {b o:Nat} {v:Value} (hi:P.info? t=some i) (hs:v.cells.size=i.size) (hc: ∀ j,j<v.cells.size -> (w.cell? ⟨b,o+j,none⟩).isSome=true) (hf: ∀ j,w.frozen? ⟨b,j,none⟩=false) (h1: ∀ u∈v.cells.toList,u.oneCell'=true):
 (Instr.storeAt t (.pointer (some ⟨b,o,none⟩)) v).run P w= .ok () (w.setCells b o v.cells.toList):=by
 have D8:=run_storeCells_cells (P:=P) b o v.cells.toList 0 w (by simpa using hc) (by simpa using fun j _=>hf _) h1;simp only [zBc] at D8;simp [Instr.storeAt,Instr.sureAddr,storeVar,Id hi,hs,D8]
theorem VJ {α:Type} {l:List α} {i:Nat} {x d:α} (h:l[i]? =some x):l.getD i d=x:=by rw [u8,h];rfl
theorem TG (R:AY P Γ N S ρ a w) {k:Nat} {ob ob':DO} {p:AI} (hk:S.h[k]? =some (some ob)) (hp:ρ[k]? =some p) {n:Nat} {Rw:Nat -> Value -> Prop} (hr:AU w p n Rw) {o':Nat} {v:Value} {t:TypeId} {i:TypeInfo}
 (hi:P.info? t=some i) (hs:v.cells.size=i.size) (hl:o'+v.cells.size<=n) (h1: ∀ u∈v.cells.toList,u.oneCell'=true)
 (HP: ∀ M ρ' w',BO (MS N S.h ρ) w ρ M w' ρ' -> w'=w.setCells p.blk (p.off+o') v.cells.toList -> C7 P M w' ρ' p ob')
 (o:Oper) (tx x:Operand) (ho:o.op= .store t tx x) (hx:a.eval tx= .pointer (some ⟨p.blk,p.off+o',none⟩)) (hv:a.eval x=v):
 BJ P (execOp a.eval o) w (DM P Γ N S.h ρ w false .any (S.h.set k (some ob'))):=by
 have Ef:p.foot=fun b=>b=p.blk:=hr.1
 have hu:AN p.foot w (w.setCells p.blk (p.off+o') v.cells.toList):=by rw [Ef];exact NI _ _ _ _
 refine BJ.skip (s:=Instr.storeAt t (a.eval tx) (a.eval x)) (by unfold execOp;rw [ho]) (w':=w.setCells p.blk (p.off+o') v.cells.toList) ?_ ?_
 ·rw [hx,hv];refine W4 hi hs (fun j hj=>?_) (fun j=>hr.frozen j) h1;obtain ⟨u,hc,_⟩:=hr.cell (j:=o'+j) (by omega);rw [zAg,hc];rfl
 ·have Co: ∀ b,p.foot b -> C8 (w.setCells p.blk (p.off+o') v.cells.toList) b:=fun b hb=>by
   rw [Ef] at hb;obtain ⟨_,cs,t',g2,g3,_⟩:=hr;obtain ⟨c,e1,_⟩:=OW p.blk t' (0,0) v.cells.toList (p.off+o') w cs g2 (by simp;omega);exact .cells (c:=c) (t:=t') (z:=(0,0)) (by rw [show b=p.blk from hb];exact e1)
  exact ⟨⟨ρ,R.hr.write hk hp hu Co (HP _ _ _ (BO.write trivial hk hp hu) rfl),trivial,A9.write hk hp hu,fun _ _ h=>h⟩,fun h=>by cases h⟩
theorem cL (R:AY P Γ N S ρ a w) {t:TypeId} {tx x:Operand} {h':DH} {vc:Prop} (hd:Lc P S t (AW S.fr tx) (AW S.fr x)=some (h',vc)) (hv:vc) (o:Oper) (ho:o.op= .store t tx x):
 BJ P (execOp a.eval o) w (DM P Γ N S.h ρ w false .any h'):=by
 have rx:=BZ R tx;have rv:=BZ R x;unfold Lc at hd;split at hd
 ·rename_i k j e;rw [e] at rx;obtain ⟨p,hp,hx⟩:=rx;split at hd
  ·rename_i l hk;obtain ⟨p',Av,hr⟩:=R.hr.obj k _ hk;have e:p'=p:=zo (Av.symm.trans hp);subst e;split at hd
   ·rename_i ds FE;split at hd
    ·rename_i Am;split at hd
     ·rename_i hc;cases hd;simp only [zm,zAP] at hc;cases hi:P.info? t with
      | none=>rw [hi] at Am;cases Am
      | some i=>
       rw [hi] at Am;have OI:i.size=ds.length:=by simpa using Am
       obtain ⟨c1,c2⟩:=SI FE rv
       have vC: ∀ u∈(a.eval x).cells.toList,u.oneCell'=true:=fun u hu=>by
        obtain ⟨q,hq,rfl⟩:=zAs hu;have Mg:q<ds.length:=by rw [←c1];simpa using hq
        obtain ⟨u,g1,g2⟩:=c2 q Mg;have h3:=zq.1 hc.1 (ds.getD q .any) (by simp [Mg]);have h4:=(UK h3 g2).1
        have:(a.eval x).cells.toList[q]=u:=by
         have GJ:q<(a.eval x).cells.size:=by simpa using hq
         rw [zAV GJ] at g1;simpa using zo g1
        rw [this];exact h4
       refine TG R hk hp hr hi (by omega) (o':=j) (by omega) vC (fun M ρ' w' O Mc=>?_) o tx x ho hx rfl;subst Mc
       show AU _ _ (Lg l j ds).length _
       rw [Wl];refine AU.writes hr (by simp;omega) (fun q v hq=>?_) (fun q u hq GJ hu=>?_)
       ·have OO:q<(a.eval x).cells.size:=by have:=(zp.1 hq).1;simpa using this
        have Mg:q<ds.length:=by omega
        obtain ⟨u,g1,g2⟩:=c2 q Mg
        have:u=v:=by
         have:(a.eval x).cells[q]? =some v:=by simpa using hq
         rw [this] at g1;exact (zo g1).symm
        subst this;rw [Wn l j ds (by omega),zi (by omega),show j+q-j=q by omega];exact g2.out _ O
       ·rw [Wn l j ds hq,zr (by simp at GJ;omega)];exact hu.out _ O
     ·cases hd
    ·cases hd
   ·cases hd
  ·cases hd
 ·rename_i k m i j e;rw [e] at rx;obtain ⟨p,hp,hx⟩:=rx;split at hd
  ·rename_i Am;cases hi:P.info? t with
   | none=>rw [hi] at Am;cases Am
   | some ti=>
    rw [hi] at Am;have OI:ti.size=1:=by simpa using Am
    split at hd
    ·rename_i l hk;obtain ⟨p',Av,hr⟩:=R.hr.obj k _ hk;have e:p'=p:=zo (Av.symm.trans hp);subst e;split at hd
     ·rename_i n ed;split at hd
      ·rename_i hm;cases hd;simp only [zm,zAQ] at hm;obtain ⟨rfl,rfl⟩:=hm;rw [ed] at rv;have Wz:a.eval x= .int .i64 n:=rv;refine TG R hk hp hr hi (v:=.int .i64 n) (by rw [OI];rfl) (o':=i) (by simp [Value.cells];omega) (by simp [Value.cells,Value.oneCell']) (fun M ρ' w' O Mc=>?_) o tx x ho (by simpa using hx) Wz;subst Mc
       show AU _ _ (l.set i n).length _
       rw [zAK];refine AU.writes hr (by simp [Value.cells];omega) (fun q v hq=>?_) (fun q u hq GJ hu=>?_)
       ·have:q=0:=by have:=(zp.1 hq).1;simpa [Value.cells] using this
        subst this;have:v= .int .i64 n:=by simpa [Value.cells] using hq.symm
        rw [this];have Cn:i<l.length:=hv;simp [Cn]
       ·rw [hu];simp only [Value.cells,zAv,zA0] at GJ;rw [u8,u8,zAU,zr (by simp at GJ;omega)]
      ·cases hd
     ·cases hd
    ·rename_i l hk;obtain ⟨p',Av,hr⟩:=R.hr.obj k _ hk;have e:p'=p:=zo (Av.symm.trans hp);subst e;split at hd
     ·rename_i n ed;split at hd
      ·rename_i hm;cases hd;simp only [zm,zAQ] at hm;obtain ⟨rfl,rfl⟩:=hm;rw [ed] at rv;have Wz:a.eval x= .bool n:=rv;refine TG R hk hp hr hi (v:=.bool n) (by rw [OI];rfl) (o':=i) (by simp [Value.cells];omega) (by simp [Value.cells,Value.oneCell']) (fun M ρ' w' O Mc=>?_) o tx x ho (by simpa using hx) Wz;subst Mc
       show AU _ _ (l.set i n).length _
       rw [zAK];refine AU.writes hr (by simp [Value.cells];omega) (fun q v hq=>?_) (fun q u hq GJ hu=>?_)
       ·have:q=0:=by have:=(zp.1 hq).1;simpa [Value.cells] using this
        subst this;have:v= .bool n:=by simpa [Value.cells] using hq.symm
        rw [this];have Cn:i<l.length:=hv;simp [Cn]
       ·rw [hu];simp only [Value.cells,zAv,zA0] at GJ;rw [u8,u8,zAU,zr (by simp at GJ;omega)]
      ·cases hd
     ·cases hd
    ·rename_i m' n f hk;obtain ⟨p',Av,hr⟩:=R.hr.obj k _ hk;have e:p'=p:=zo (Av.symm.trans hp);subst e;split at hd
     ·rename_i hm;cases hd;simp only [zm,zAQ,zAP] at hm;obtain ⟨⟨D9,rfl⟩,hj⟩:=hm;have Cn:i<n:=hv;obtain ⟨o1,o2⟩:=UK (pq D9) rv
      have YO:i*m+j<n*m:=by
       have:(i+1)*m<=n*m:=zBB _ Cn;rw [zB3] at this;omega
      have AC:0<m:=by omega
      refine TG R hk hp hr hi (v:=a.eval x) (by rw [OI,o2];rfl) (o':=i*m+j) (by rw [o2];simp;omega) (by rw [o2];simp [o1]) (fun M ρ' w' O Mc=>?_) o tx x ho hx rfl;subst Mc;refine AU.writes hr (by rw [o2];simp;omega) (fun q v hq=>?_) (fun q u hq GJ hu=>?_)
      ·rw [o2] at hq;have:q=0:=by have:=(zp.1 hq).1;simpa using this
       subst this;have:v=a.eval x:=by simpa using hq.symm
       rw [this,zBc];have e1:(i*m+j)/m=i:=by rw [zBR,Nat.mul_add_div AC,Nat.div_eq_of_lt hj,zBc]
       have e2:(i*m+j) % m=j:=by rw [zBR,Nat.mul_add_mod,zB4 hj]
       show AJ M _ (if (i*m+j)/m=i/\ (i*m+j) % m=j then AW S.fr x else f ((i*m+j)/m) ((i*m+j) % m)) [] _
       rw [zi ⟨e1,e2⟩];exact AJ.out _ O.nil (XR D9 rv)
      ·rw [o2] at GJ;simp at GJ
       have: ¬ (q/m=i/\ q % m=j):=fun ⟨e1,e2⟩=>by
        have:=Nat.div_add_mod q m;rw [e1,e2,zBR] at this;omega
       show AJ M _ (if q/m=i/\ q % m=j then AW S.fr x else f (q/m) (q % m)) [] _
       rw [zr this];exact AJ.out _ O.nil hu
     ·cases hd
    ·cases hd
  ·cases hd
 ·cases hd
theorem MO.kill {k:Nat} {b:Nat} (hb:MO (h.set k none) ρ b):MO h ρ b:=MO.unset hb
theorem Fa {k i:Nat} {o:DO} (hi:(h.set k none)[i]? =some (some o)):i≠k/\ h[i]? =some (some o):=by
 rw [zAU] at hi
 by_cases e:k=i
 ·rw [zi e] at hi;split at hi <;> cases hi
 ·rw [zr e] at hi;exact ⟨zB2 e,hi⟩
theorem BP.kill (H:BP P Γ N h ρ w) (k:Nat):BP P Γ N (h.set k none) ρ w:=by
 have O:BO (MS N h ρ) w ρ (MS N (h.set k none) ρ) w ρ:=⟨fun _ _ _ _=>rfl,fun b hb=>.inl (hb.imp id MO.kill),fun _ _ h=>h⟩;refine ⟨by simp [H.len],fun i o hi=>?_,fun i o p b h1 h2 h3=>H.cel i o p b (Fa h1).2 h2 h3,fun i i' o o' p p' b AQ h1 h2 h3 h4 h5 h6=>H.dis i i' o o' p p' b AQ (Fa h1).2 (Fa h2).2 h3 h4 h5 h6,H.nlt,H.gi⟩;obtain ⟨p,hp,hr⟩:=H.obj i o (Fa hi).2;exact ⟨p,hp,hr.out O (S:=fun _=>False) (AN.refl _ w) (fun _ h=>h.elim) (fun _ _ _ h=>h)⟩
theorem BO.kill (k:Nat):BO (MS N h ρ) w ρ (MS N (h.set k none) ρ) w ρ:=⟨fun _ _ _ _=>rfl,fun b hb=>.inl (hb.imp id MO.kill),fun _ _ h=>h⟩
theorem A9.kill (k:Nat):A9 h ρ w (h.set k none) ρ w:=⟨AN.refl _ w,fun b hb=>.inl (MO.kill hb)⟩
theorem BP.regrow (H:BP P Γ N h ρ w) {w':World} {k:Nat} {o o':DO} {p p':AI} (hk:h[k]? =some (some o)) (hp:ρ[k]? =some p) (hu:AN p.foot w w') (hf: ∀ b,p'.foot b -> (p.foot b∨w.heap.size<=b)/\ C8 w' b)
 (ho:C7 P (MS N (h.set k none++[some o']) (ρ++[p'])) w' (ρ++[p']) p' o'):
 BP P Γ N (h.set k none++[some o']) (ρ++[p']) w'/\ A9 h ρ w (h.set k none++[some o']) (ρ++[p']) w':=by
 have K:=H.kill k;have Af:(h.set k none).length=h.length:=by simp
 have hM: ∀ b,p.foot b -> MO h ρ b:=fun b hb=>⟨k,o,p,hk,hp,hb⟩
 have H3: ∀ {i:Nat} {o1:DO} {p1:AI},(h.set k none++[some o'])[i]? =some (some o1) -> (ρ++[p'])[i]? =some p1 -> (i≠k/\ i<h.length/\ h[i]? =some (some o1)/\ ρ[i]? =some p1)∨(i=h.length/\ o1=o'/\ p1=p'):=by
  intro i o1 p1 h1 h2;rcases DE h1 with ⟨hl,h1⟩ | ⟨hl,h1⟩
  ·rw [Af] at hl;rcases DE h2 with ⟨_,h2⟩ | ⟨CY,_⟩
   ·exact .inl ⟨(Fa h1).1,hl,(Fa h1).2,h2⟩
   ·rw [H.len] at CY;omega
  ·rw [Af] at hl;rcases DE h2 with ⟨CY,_⟩ | ⟨_,h2⟩
   ·rw [H.len] at CY;omega
   ·cases h1;exact .inr ⟨hl,rfl,h2.symm⟩
 have grow: ∀ b,MO (h.set k none++[some o']) (ρ++[p']) b -> MO h ρ b∨w.heap.size<=b:=by
  rintro b ⟨i,o1,p1,h1,h2,h3⟩;rcases H3 h1 h2 with ⟨_,_,g1,g2⟩ | ⟨_,_,rfl⟩
  ·exact .inl ⟨i,o1,p1,g1,g2,h3⟩
  ·exact (hf b h3).1.imp (hM b) id
 have O:BO (MS N h ρ) w ρ (MS N (h.set k none++[some o']) (ρ++[p'])) w' (ρ++[p']):=by
  refine ⟨fun b hb hm _=>hu.block b hb fun hx=>hm (.inr (hM b hx)),fun b hb=>?_,fun i q hi=>Dg hi⟩;rcases hb with hb | hb
  ·exact .inl (.inl hb)
  ·exact (grow b hb).imp .inr id
 refine ⟨⟨by simp [H.len],fun i o1 hi=>?_,fun i o1 p1 b h1 h2 h3=>?_,fun i i' o1 o2 p1 p2 b AQ h1 h2 h3 h4 h5 h6=>?_,fun b hb=>⟨zu (H.nlt b hb).1 hu.size,(H.nlt b hb).2⟩,Γ.st _ _ H.gi (hu.mono fun b _ hb=>(H.cel k o p b hk hp hb).1)⟩,⟨hu.mono fun b _ hb=>hM b hb,grow⟩⟩
 ·rcases DE hi with ⟨hl,hi⟩ | ⟨hl,hi⟩
  ·obtain ⟨p1,Ku,hr⟩:=H.obj i o1 (Fa hi).2;refine ⟨p1,Dg Ku,hr.out O hu (fun b hb=>.inr (hM b hb)) fun b _ h1 h2=>H.dis i k o1 o p1 p b (Fa hi).1 (Fa hi).2 hk Ku hp h1 h2⟩
  ·cases hi;exact ⟨p',by rw [hl,Af,←H.len];simp,ho⟩
 ·rcases H3 h1 h2 with ⟨AQ,_,g1,g2⟩ | ⟨_,_,rfl⟩
  ·obtain ⟨e1,e2,c,t,z,e3⟩:=H.cel i o1 p1 b g1 g2 h3;exact ⟨e1,e2,c,t,z,(hu.block b (zj.1 e3).1 fun hx=>H.dis i k o1 o p1 p b AQ g1 hk g2 hp h3 hx).trans e3⟩
  ·obtain ⟨e1,e2⟩:=hf b h3;rcases e1 with e1 | e1
   ·obtain ⟨q1,q2,_⟩:=H.cel k o p b hk hp e1;exact ⟨q1,q2,e2⟩
   ·exact ⟨zt (Γ.lo _ H.gi) e1,fun hn=>by have:=H.nlt b hn;omega,e2⟩
 ·have key: ∀ {i o1 p1},i≠k -> h[i]? =some (some o1) -> ρ[i]? =some p1 -> p1.foot b -> p'.foot b -> False:=fun {i o1 p1} AQ g1 g2 g3 g4=>by
   rcases (hf b g4).1 with e1 | e1
   ·exact H.dis i k o1 o p1 p b AQ g1 hk g2 hp g3 e1
   ·have:=H.lt (.inr ⟨i,o1,p1,g1,g2,g3⟩);omega
  rcases H3 h1 h3 with ⟨RT,_,g1,g2⟩ | ⟨e1,_,rfl⟩
  ·rcases H3 h2 h4 with ⟨_,_,g3,g4⟩ | ⟨_,_,rfl⟩
   ·exact H.dis i i' o1 o2 p1 p2 b AQ g1 g3 g2 g4 h5 h6
   ·exact key RT g1 g2 h5 h6
  ·rcases H3 h2 h4 with ⟨Mj,_,g3,g4⟩ | ⟨e2,_,rfl⟩
   ·exact key Mj g3 g4 h6 h5
   ·exact AQ (e1.trans e2.symm)
def HZ (n:Nat) (R:Nat -> Value -> Prop) (Bl:List Value) (j:Nat) (u:Value):Prop:=if j<n then R j u else Bl[j-n]? =some u
theorem aN {t ty e:TypeId} {i:TypeInfo} {z:Value} (hu:P.underlying t=some (.slice e)) (hi:P.info? e=some i) (hz:i.zero=some z) (OK:i.size≠0) (CJ:z.cells.size=i.size) (DD:i.bytes<=128)
 {p:AI} {n cap:Nat} {R:Nat -> Value -> Prop} (hr:AU w p (n*i.size) R) (K0:n<=cap) (Ux:p.off+cap*i.size<=p.room)
 {vy:Value} {c:Nat} {Bl:List Value} (hy:Src P i.size t vy c Bl w) (hb:n+c<=1000000000000):
 ∃ w' p' Bn,(Builtin.append_ #[t,t] ty #[.slice (some ⟨p.blk,p.off,none⟩) n cap,vy]).run P w= .ok (.slice (some ⟨p'.blk,p'.off,none⟩) (n+c) Bn) w'/\ n+c<=Bn/\ p'.off+Bn*i.size<=p'.room/\
  AN p.foot w w'/\ (∀ b,p'.foot b -> p.foot b∨w.heap.size<=b)/\ AU w' p' ((n+c)*i.size) (HZ (n*i.size) R Bl):=by
 have FY:Bl.length=c*i.size:=hy.newsLen
 by_cases Yo:n+c<=cap
 ·obtain ⟨g1,cs,tt,g2,g3,g4,g5⟩:=hr;have vM:(n+c)*i.size<=cap*i.size:=zBB _ Yo;rw [zBN] at vM;have iK:p.off+n*i.size+Bl.length<=cs.size:=by omega
  refine ⟨w.setCells p.blk (p.off+n*i.size) Bl,p,cap,run_append_room_src w t t ty e i hu hi p.blk p.off n cap vy c Bl hy Yo (fun j hj=>?_) (fun j _=>by unfold World.frozen?;simp [g2]),Yo,Ux,?_,fun b hb=>.inl hb,?_⟩
  ·unfold World.cell?;simp only [g2];simp;omega
  ·rw [g1];exact NI _ _ _ _
  ·obtain ⟨Dq,e1,e2,e3⟩:=OW p.blk tt (0,0) Bl (p.off+n*i.size) w cs g2 iK;refine ⟨g1,Dq,tt,e1,by rw [zBN];omega,by omega,fun j hj=>?_⟩;rw [zBN] at hj;rw [e3]
   by_cases Jn:j<n*i.size
   ·rw [zr (by omega)];obtain ⟨u,q1,q2⟩:=g5 j Jn;exact ⟨u,q1,by unfold HZ;rw [zi Jn];exact q2⟩
   ·rw [zi (by omega)];have AK:j-n*i.size<Bl.length:=by omega
    refine ⟨Bl[j-n*i.size],by rw [show p.off+j-(p.off+n*i.size)=j-n*i.size by omega];simp [AK],?_⟩;unfold HZ;rw [zr Jn];simp [AK]
 ·obtain ⟨g,hg⟩: ∃ g:Nat -> Value,∀ j,j<n*i.size -> w.cell? ⟨p.blk,p.off+j,none⟩=some (g j)/\ R j (g j):=by
   refine ⟨fun j=>(w.cell? ⟨p.blk,p.off+j,none⟩).getD undef,fun j hj=>?_⟩;obtain ⟨u,h1,h2⟩:=hr.cell hj;simp [h1,h2]
  have Kv:(Builtin.firstCells i.size n (.slice (some ⟨p.blk,p.off,none⟩) n cap)).run P w.drew= .ok (((List.range (n*i.size)).map g).toArray) w.drew:=by
   have:=run_loadCells (P:=P) w.drew ⟨p.blk,p.off,none⟩ (n*i.size) g (fun j hj=>by rw [IV];exact ((Au.toDrew w).cell (hg j hj).1));simpa [Builtin.firstCells] using this
  have vL:(n+c)*i.bytes<=1000000000000*128:=Nat.mul_le_mul hb DD;have OL:=run_append_grow_src (P:=P) w t t ty e i z hu hi hz (some ⟨p.blk,p.off,none⟩) n cap _ Kv vy c Bl hy (by omega) (by omega) (growslice_fits (by omega) (by omega));have U8:n+c<=grownCap w (n+c) cap e:=grownCap_ge w (n+c) cap e
  have C5:((((List.range (n*i.size)).map g)++Bl).toArray++Builtin.zeroCells z.cells (grownCap w (n+c) cap e-(n+c))).size=grownCap w (n+c) cap e*i.size:=by
   simp only [Array.size_append,zCN,zAO,zAl,zBK,FY,size_zeroCells,CJ,←zBN]
   congr 1;omega
  refine ⟨_,Dm w (grownCap w (n+c) cap e*i.size),grownCap w (n+c) cap e,OL,U8,by simp [Dm],?_,fun b hb=>.inr (zCb (Eq.symm hb)),?_⟩
  ·exact AN.ofExt ((Au.toDrew w).allocR _)
  ·refine AU.out (W9 (w:=w) (w1:=w.drew) (t:=e) (cs:=(((List.range (n*i.size)).map g)++Bl).toArray++Builtin.zeroCells z.cells (grownCap w (n+c) cap e-(n+c))) rfl C5 |>fun hr=>?_) rfl (R:=fun j u=>((((List.range (n*i.size)).map g)++Bl).toArray++Builtin.zeroCells z.cells (grownCap w (n+c) cap e-(n+c)))[j]? =some u) fun j u hj BT=>?_
   ·obtain ⟨q1,cs,tt,q2,q3,q4,q5⟩:=hr;have Bx:(n+c)*i.size<=grownCap w (n+c) cap e*i.size:=zBB _ U8;exact ⟨q1,cs,tt,q2,by omega,q4,fun j hj=>q5 j (by omega)⟩
   ·rw [zBN] at hj;unfold HZ;have FZ:j<(((List.range (n*i.size)).map g)++Bl).length:=by simp;omega
    rw [zBL (by simpa using FZ)] at BT
    by_cases Jn:j<n*i.size
    ·rw [zi Jn]
     have:u=g j:=by
      simp only [zCS] at BT;rw [zAC (by simpa using Jn)] at BT;simp [Jn] at BT;exact BT.symm
     rw [this];exact (hg j Jn).2
    ·rw [zr Jn];simp only [zCS] at BT;rw [zAN (by simp;omega)] at BT;simpa using BT
theorem aP (ad:Option Addr:=none) {t ty e:TypeId} {i:TypeInfo} {z:Value} (hu:P.underlying t=some (.slice e)) (hi:P.info? e=some i) (hz:i.zero=some z) (CJ:z.cells.size=i.size) (DD:i.bytes<=128)
 {vy:Value} {c:Nat} {Bl:List Value} (hy:Src P i.size t vy c Bl w) (hc:0<c) (hb:c<=1000000000000):
 ∃ w' Bn,(Builtin.append_ #[t,t] ty #[.slice ad 0 0,vy]).run P w= .ok (.slice (some ⟨w.heap.size,0,none⟩) c Bn) w'/\ c<=Bn/\ ∃ cs,w'=w.drew.alloc (.cells cs e)/\ cs.size=Bn*i.size/\ ∀ j,j<c*i.size -> cs[j]? =Bl[j]? :=by
 have FY:Bl.length=c*i.size:=hy.newsLen;have Kv:(Builtin.firstCells i.size 0 (.slice ad 0 0)).run P w.drew= .ok (([]:List Value).toArray) w.drew:=by cases ad <;> simp [Builtin.firstCells,loadCells,loadCellsFrom]
 have vL:c*i.bytes<=1000000000000*128:=Nat.mul_le_mul hb DD;have OL:=run_append_grow_src (P:=P) w t t ty e i z hu hi hz ad 0 0 [] Kv vy c Bl hy (by omega) (by omega) (growslice_fits (by omega) (by rw [zAA];omega));rw [zAA] at OL;have U8:c<=grownCap w c 0 e:=grownCap_ge w c 0 e;refine ⟨_,_,OL,U8,_,rfl,?_,fun j hj=>?_⟩
 ·simp only [zA1,Array.size_append,zCN,FY,size_zeroCells,CJ,←zBN]
  congr 1;omega
 ·rw [zBL (by simp;omega)];simp
end
end Go.Proofs.YtgkhhfnhacibcaaGreatDoor
namespace Go.Proofs.YtgkhhfnhacibcaaGreatDoor
abbrev zAt:=@List.mem_map
abbrev zCE:=@Nat.eq_zero_or_pos
abbrev zCV:=@Nat.le_of_not_lt
end Go.Proofs.YtgkhhfnhacibcaaGreatDoor
namespace Go.Proofs.YtgkhhfnhacibcaaGreatDoor
open Go.RowKit
def RA (S:St):DV -> Option (List Int×Prop)
 | .nils=>some ([],True)
 | .ints l=>some (l,True)
 | .msl k m off n=>match S.h[k]? with
  | some (some (.ints l))=>if m==1 then some (l,off=0/\ n=l.length) else none
  | _=>none
 | _=>none
def aF (S:St):DV -> Option (List Bool×Prop)
 | .nils=>some ([],True)
 | .bools l=>some (l,True)
 | .msl k m off n=>match S.h[k]? with
  | some (some (.bools l))=>if m==1 then some (l,off=0/\ n=l.length) else none
  | _=>none
 | _=>none
def Zn (S:St) (m:Nat):DV -> Option (Nat×(Nat -> Nat -> DV)×Prop)
 | .nils=>some (0,(fun _ _=>.any),True)
 | .sl m' n f=>if m'==m then some (n,f,True) else none
 | .msl k m' off n=>match S.h[k]? with
  | some (some (.arr m2 n2 f))=>if m'==m&&m2==m then some (n2,f,off=0/\ n=n2) else none
  | _=>none
 | _=>none
def A6:Nat:=1000000000000
def aT (P:Program) (S:St) (t:TypeId) (x y:DV):Option (DV×DH×Prop):=match Jy P t with
 | some (k,_,i,_)=>if 128<i.bytes then none else match k with
  | .ints=>match RA S y with
   | some (ys,vy)=>match x with
    | .nils=>some (.msl S.h.length 1 0 ys.length,S.h++[some (.ints ys)],vy/\ 0<ys.length/\ ys.length<=A6)
    | .msl k m off n=>match S.h[k]? with
     | some (some (.ints xs))=>if m==1 then some (.msl S.h.length 1 0 (xs.length+ys.length),S.h.set k none++[some (.ints (xs++ys))],vy/\ (off=0/\ n=xs.length)/\ xs.length+ys.length<=A6) else none
     | _=>none
    | _=>none
   | none=>none
  | .bools=>match aF S y with
   | some (ys,vy)=>match x with
    | .nils=>some (.msl S.h.length 1 0 ys.length,S.h++[some (.bools ys)],vy/\ 0<ys.length/\ ys.length<=A6)
    | .msl k m off n=>match S.h[k]? with
     | some (some (.bools xs))=>if m==1 then some (.msl S.h.length 1 0 (xs.length+ys.length),S.h.set k none++[some (.bools (xs++ys))],vy/\ (off=0/\ n=xs.length)/\ xs.length+ys.length<=A6) else none
     | _=>none
    | _=>none
   | none=>none
  | .gen m=>match Zn S m y with
   | some (c,g,vy)=>match x with
    | .nils=>some (.msl S.h.length m 0 c,S.h++[some (.arr m c g)],(vy/\ ∀ i j,i<c -> j<m -> L6 (g i j)=true)/\ 0<c/\ c<=A6)
    | .msl k m' off n=>match S.h[k]? with
     | some (some (.arr m2 n2 f))=>if m'==m&&m2==m then some (.msl S.h.length m 0 (n2+c),S.h.set k none++[some (.arr m (n2+c) (fun i j=>if i<n2 then f i j else g (i-n2) j))],(vy/\ ∀ i j,i<c -> j<m -> L6 (g i j)=true)/\ (off=0/\ n=n2)/\ n2+c<=A6) else none
     | _=>none
    | _=>none
   | none=>none
 | none=>none
section
variable {P:Program} {Γ:Ax} {N:Nat -> Prop} {S:St} {ρ:List AI} {a:Act} {w:World} {h:DH}
theorem Pk {t e:TypeId} (hu:P.underlying t=some (.slice e)) {m:Nat} {ad:Option Addr} {c cap:Nat} {Bl:List Value} (hl:Bl.length=c*m) (hc: ∀ j u,Bl[j]? =some u -> ∃ b o,ad=some ⟨b,o,none⟩/\ w.cell? ⟨b,o+j,none⟩=some u)
 (h1: ∀ u∈Bl,u.oneCell'=true) (hm:0<m) (ZB:ad=none -> c=0):Src P m t (.slice ad c cap) c Bl w:=by
 cases ad with
 | none=>
  have:=ZB rfl;subst this;have:Bl= []:=zAq (by simpa using hl);subst this;exact Src.ofNil w hu cap
 | some ad=>
  refine Src.ofSlice w hu ad c cap Bl hl (fun j u hj=>?_) h1;obtain ⟨b,o,e1,e2⟩:=hc j u hj;cases e1;rw [IV];exact e2
theorem Q9 (R:AY P Γ N S ρ a w) {t e:TypeId} (hu:P.underlying t=some (.slice e)) {y:DV} {v:Value} (hy:AJ (MS N S.h ρ) w y ρ v) {ys:List Int} {vy:Prop} (h:RA S y=some (ys,vy)) (hv:vy):
 Src P 1 t v ys.length (ys.map (Value.int .i64)) w:=by
 have one: ∀ u∈ys.map (Value.int .i64),u.oneCell'=true:=fun u hu=>by obtain ⟨n,_,rfl⟩:=zAt.1 hu;rfl
 have val: ∀ {j:Nat} {u:Value},(ys.map (Value.int .i64))[j]? =some u -> j<ys.length/\ u= .int .i64 (ys.getD j 0):=fun {j u} hj=>by
  have AK:=(zp.1 hj).1;have AK:j<ys.length:=by simpa using AK
  simp [AK] at hj;exact ⟨AK,by rw [←hj];simp [AK]⟩
 unfold RA at h;split at h
 ·cases h;rw [show v=_ from hy];exact Src.ofNil w hu 0
 ·cases h;obtain ⟨ad,cap,rfl,h1,h2,h3⟩:=hy;refine Pk hu (by simp) (fun j u hj=>?_) one (by omega) (fun e=>?_)
  ·obtain ⟨AK,rfl⟩:=val hj;obtain ⟨b,o,e1,_,e2⟩:=h3 j AK;exact ⟨b,o,e1,e2⟩
  ·rcases zCE ys.length with h0 | h0
   ·exact h0
   ·obtain ⟨b,o,e1,_⟩:=h3 0 h0;rw [e] at e1;cases e1
 ·rename_i k m off n;obtain ⟨p,cap,hp,rfl,h1,h2,h3⟩:=hy;split at h
  ·rename_i l hk;split at h
   ·rename_i hm;cases h;have Bw:m=1:=by simpa using hm
    subst Bw;obtain ⟨p',Av,hr⟩:=R.hr.obj k _ hk;have e:p'=p:=zo (Av.symm.trans hp);subst e;obtain ⟨rfl,rfl⟩:=hv;refine Pk hu (by simp) (fun j u hj=>?_) one (by omega) (fun e=>by cases e);obtain ⟨AK,rfl⟩:=val hj;obtain ⟨u,e1,e2⟩:=AU.cell hr AK;exact ⟨p'.blk,p'.off,by simp,by rw [e1,e2]⟩
   ·cases h
  ·cases h
 ·cases h
theorem j4 (R:AY P Γ N S ρ a w) {t e:TypeId} (hu:P.underlying t=some (.slice e)) {y:DV} {v:Value} (hy:AJ (MS N S.h ρ) w y ρ v) {ys:List Bool} {vy:Prop} (h:aF S y=some (ys,vy)) (hv:vy):
 Src P 1 t v ys.length (ys.map Value.bool) w:=by
 have one: ∀ u∈ys.map Value.bool,u.oneCell'=true:=fun u hu=>by obtain ⟨n,_,rfl⟩:=zAt.1 hu;rfl
 have val: ∀ {j:Nat} {u:Value},(ys.map Value.bool)[j]? =some u -> j<ys.length/\ u= .bool (ys.getD j false):=fun {j u} hj=>by
  have AK:=(zp.1 hj).1;have AK:j<ys.length:=by simpa using AK
  simp [AK] at hj;exact ⟨AK,by rw [←hj];simp [AK]⟩
 unfold aF at h;split at h
 ·cases h;rw [show v=_ from hy];exact Src.ofNil w hu 0
 ·cases h;obtain ⟨ad,cap,rfl,h1,h2,h3⟩:=hy;refine Pk hu (by simp) (fun j u hj=>?_) one (by omega) (fun e=>?_)
  ·obtain ⟨AK,rfl⟩:=val hj;obtain ⟨b,o,e1,_,e2⟩:=h3 j AK;exact ⟨b,o,e1,e2⟩
  ·rcases zCE ys.length with h0 | h0
   ·exact h0
   ·obtain ⟨b,o,e1,_⟩:=h3 0 h0;rw [e] at e1;cases e1
 ·rename_i k m off n;obtain ⟨p,cap,hp,rfl,h1,h2,h3⟩:=hy;split at h
  ·rename_i l hk;split at h
   ·rename_i hm;cases h;have Bw:m=1:=by simpa using hm
    subst Bw;obtain ⟨p',Av,hr⟩:=R.hr.obj k _ hk;have e:p'=p:=zo (Av.symm.trans hp);subst e;obtain ⟨rfl,rfl⟩:=hv;refine Pk hu (by simp) (fun j u hj=>?_) one (by omega) (fun e=>by cases e);obtain ⟨AK,rfl⟩:=val hj;obtain ⟨u,e1,e2⟩:=AU.cell hr AK;exact ⟨p'.blk,p'.off,by simp,by rw [e1,e2]⟩
   ·cases h
  ·cases h
 ·cases h
theorem Rz {ρ':Operand -> Value} {o:Oper} {c:Call} {x y:Operand} {t t2:TypeId} (ho:o.op= .call c) (hc:c.callee= .builtin .append) (ha:c.args.toList= [x,y]) (ht:c.argTypes.toList= [t,t2]):
 execOp ρ' o=(do pure (.value (←Builtin.append_ #[t,t2] o.type #[ρ' x,ρ' y]))):=by
 unfold execOp;rw [ho]
 show (resolve ρ' c o.type>>=fun d=>invoke d.target d.args)=_
 unfold resolve;rw [hc,S6 ha,S6 ht];simp;rfl
theorem aO (R:AY P Γ N S ρ a w) {t e:TypeId} {i:TypeInfo} {z:Value} (hu:P.underlying t=some (.slice e)) (hi:P.info? e=some i) (hz:i.zero=some z) (OK:i.size≠0) (CJ:z.cells.size=i.size) (DD:i.bytes<=128)
 {k:Nat} {ob ob':DO} {p:AI} (hk:S.h[k]? =some (some ob)) (hp:ρ[k]? =some p) {n cap c:Nat} {Rw:Nat -> Value -> Prop} (hr:AU w p (n*i.size) Rw) (K0:n<=cap) (Ux:p.off+cap*i.size<=p.room)
 {vy:Value} {Bl:List Value} (hy:Src P i.size t vy c Bl w) (hb:n+c<=A6)
 (HP: ∀ M ρ' w' p',BO (MS N S.h ρ) w ρ M w' ρ' -> AU w' p' ((n+c)*i.size) (HZ (n*i.size) Rw Bl) -> C7 P M w' ρ' p' ob')
 (o:Oper) {cl:Call} {x y:Operand} (ho:o.op= .call cl) (hc:cl.callee= .builtin .append) (ha:cl.args.toList= [x,y]) (ht:cl.argTypes.toList= [t,t]) (hx:a.eval x= .slice (some ⟨p.blk,p.off,none⟩) n cap) (Yf:a.eval y=vy):
 BJ P (execOp a.eval o) w (DM P Γ N S.h ρ w false (.msl S.h.length i.size 0 (n+c)) (S.h.set k none++[some ob'])):=by
 obtain ⟨w',p',Bn,h1,h2,h3,h4,h5,h6⟩:=aN (ty:=o.type) hu hi hz OK CJ DD hr K0 Ux hy hb;refine BJ.value (Rz ho hc ha ht) (by rw [hx,Yf];exact h1) ?_
 have v6: ∀ b,p'.foot b -> C8 w' b:=fun b hb=>by
  obtain ⟨e1,cs,tt,e2,_⟩:=h6;rw [e1] at hb;exact .cells (c:=cs) (t:=tt) (z:=(0,0)) (by rw [show b=p'.blk from hb];exact e2)
 have Af:(S.h.set k none).length=S.h.length:=by simp
 have O:BO (MS N S.h ρ) w ρ (MS N (S.h.set k none++[some ob']) (ρ++[p'])) w' (ρ++[p']):=by
  refine ⟨fun b hb hm _=>h4.block b hb fun hx=>hm (.inr ⟨k,ob,p,hk,hp,hx⟩),fun b hb=>?_,fun i q hi=>Dg hi⟩;rcases hb with hb | hb
  ·exact .inl (.inl hb)
  ·obtain ⟨i1,o1,p1,g1,g2,g3⟩:=hb;rcases DE g1 with ⟨hl,g1⟩ | ⟨hl,_⟩
   ·rcases DE g2 with ⟨_,g2⟩ | ⟨CY,_⟩
    ·exact .inl (.inr ⟨i1,o1,p1,(Fa g1).2,g2,g3⟩)
    ·rw [Af] at hl;rw [R.hr.len] at CY;omega
   ·rcases DE g2 with ⟨CY,_⟩ | ⟨_,rfl⟩
    ·rw [Af] at hl;rw [R.hr.len] at CY;omega
    ·exact (h5 b g3).imp (fun hx=>.inr ⟨k,ob,p,hk,hp,hx⟩) id
 obtain ⟨g1,g2⟩:=R.hr.regrow (o':=ob') hk hp h4 (fun b hb=>⟨h5 b hb,v6 b hb⟩) (HP _ _ _ _ O h6);refine ⟨⟨ρ++[p'],g1,⟨p',Bn,by rw [←R.hr.len];simp,by simp,h2,by unfold LB;unfold A6 at hb;omega,by simpa using h3⟩,g2,fun _ _ h=>Dg h⟩,fun h=>by cases h⟩
theorem aQ (R:AY P Γ N S ρ a w) {t e:TypeId} {i:TypeInfo} {z:Value} (hu:P.underlying t=some (.slice e)) (hi:P.info? e=some i) (hz:i.zero=some z) (CJ:z.cells.size=i.size) (DD:i.bytes<=128)
 {ob':DO} {c:Nat} {vy:Value} {Bl:List Value} (hy:Src P i.size t vy c Bl w) (Ms:0<c) (hb:c<=A6)
 (HP: ∀ M ρ' w' p',BO (MS N S.h ρ) w ρ M w' ρ' -> AU w' p' (c*i.size) (fun j u=>Bl[j]? =some u) -> C7 P M w' ρ' p' ob') (ext:Bool)
 (o:Oper) {cl:Call} {x y:Operand} (ho:o.op= .call cl) (hc:cl.callee= .builtin .append) (ha:cl.args.toList= [x,y]) (ht:cl.argTypes.toList= [t,t]) (hx:a.eval x= .slice none 0 0) (Yf:a.eval y=vy):
 BJ P (execOp a.eval o) w (DM P Γ N S.h ρ w ext (.msl S.h.length i.size 0 c) (S.h++[some ob'])):=by
 obtain ⟨w',Bn,h1,h2,cs,rfl,h4,h5⟩:=aP none (ty:=o.type) hu hi hz CJ DD hy Ms hb;have FY:Bl.length=c*i.size:=hy.newsLen;refine BJ.value (Rz ho hc ha ht) (by rw [hx,Yf];exact h1) ?_;have Bx:c*i.size<=Bn*i.size:=zBB _ h2;refine Od (d:=.msl S.h.length i.size 0 c) R.hr ⟨Au.toDrew w,rfl⟩ (fun M ρ' O=>HP _ _ _ _ O ?_) (fun M ρ' hp=>⟨_,Bn,hp,by simp [Dm],h2,by unfold LB;unfold A6 at hb;omega,by simp only [Dm];omega⟩) ext;refine Lp rfl (by omega) fun j hj=>?_
 rw [h5 j hj];exact ⟨Bl[j],by simp [FY,hj],by simp [FY,hj]⟩
theorem YI {xs ys:List Int} {M:Nat -> Prop} {w':World} {ρ':List AI} {p':AI} {s:Nat} (hs:s=1) (h:AU w' p' ((xs.length+ys.length)*s) (HZ (xs.length*s) (fun j u=>u= .int .i64 (xs.getD j 0)) (ys.map (Value.int .i64)))):C7 P M w' ρ' p' (.ints (xs++ys)):=by
 subst hs
 show AU _ _ (xs++ys).length _
 rw [zAO];rw [zAi,zAi] at h;refine AU.out h rfl fun j u hj hu=>?_
 unfold HZ at hu;split at hu
 ·rename_i AK;rw [hu];simp [u8,zAC AK]
 ·rename_i AK;have GL:j-xs.length<ys.length:=by omega
  simp [GL] at hu;rw [←hu];simp [u8,zAN (zCV AK),GL]
theorem yf {xs ys:List Bool} {M:Nat -> Prop} {w':World} {ρ':List AI} {p':AI} {s:Nat} (hs:s=1) (h:AU w' p' ((xs.length+ys.length)*s) (HZ (xs.length*s) (fun j u=>u= .bool (xs.getD j false)) (ys.map Value.bool))):C7 P M w' ρ' p' (.bools (xs++ys)):=by
 subst hs
 show AU _ _ (xs++ys).length _
 rw [zAO];rw [zAi,zAi] at h;refine AU.out h rfl fun j u hj hu=>?_
 unfold HZ at hu;split at hu
 ·rename_i AK;rw [hu];simp [u8,zAC AK]
 ·rename_i AK;have GL:j-xs.length<ys.length:=by omega
  simp [GL] at hu;rw [←hu];simp [u8,zAN (zCV AK),GL]
theorem iv (R:AY P Γ N S ρ a w) {t e:TypeId} (hu:P.underlying t=some (.slice e)) {y:DV} {v:Value} (hy:AJ (MS N S.h ρ) w y ρ v) {m c:Nat} (AC:0<m) {g:Nat -> Nat -> DV} {vy:Prop} (h:Zn S m y=some (c,g,vy)) (hv:vy)
 (h1: ∀ i j,i<c -> j<m -> L6 (g i j)=true): ∃ Bl,Src P m t v c Bl w/\ ∀ j u,Bl[j]? =some u -> AJ (MS N S.h ρ) w (g (j/m) (j % m)) [] u:=by
 have dm: ∀ {j:Nat},j<c*m -> j/m<c/\ j % m<m/\ j/m*m+j % m=j:=fun {j} hj=>⟨by rw [zBa AC];exact hj,zCd _ AC,by rw [zBR];exact Nat.div_add_mod j m⟩
 have Z4: ∀ (ad:Option Addr) (cap:Nat),(∀ j,j<c*m -> ∃ b o u,ad=some ⟨b,o,none⟩/\ w.cell? ⟨b,o+j,none⟩=some u/\ AJ (MS N S.h ρ) w (g (j/m) (j % m)) [] u) -> v= .slice ad c cap -> (ad=none -> c=0) ->
  ∃ Bl,Src P m t v c Bl w/\ ∀ j u,Bl[j]? =some u -> AJ (MS N S.h ρ) w (g (j/m) (j % m)) [] u:=by
  intro ad cap hc tG ZB
  obtain ⟨f,hf⟩: ∃ f:Nat -> Value,∀ j,j<c*m -> ∃ b o,ad=some ⟨b,o,none⟩/\ w.cell? ⟨b,o+j,none⟩=some (f j)/\ AJ (MS N S.h ρ) w (g (j/m) (j % m)) [] (f j):=by
   refine ⟨fun j=>(match ad with | some a=>w.cell? ⟨a.block,a.off+j,none⟩ | none=>none).getD undef,fun j hj=>?_⟩;obtain ⟨b,o,u,rfl,e2,e3⟩:=hc j hj;exact ⟨b,o,rfl,by simp [e2],by simpa [e2] using e3⟩
  have val: ∀ {j:Nat} {u:Value},((List.range (c*m)).map f)[j]? =some u -> j<c*m/\ u=f j:=fun {j u} hj=>by
   have AK:=(zp.1 hj).1;have AK:j<c*m:=by simpa using AK
   simp [AK] at hj;exact ⟨AK,hj.symm⟩
  refine ⟨(List.range (c*m)).map f,?_,fun j u hj=>?_⟩
  ·rw [tG];refine Pk hu (by simp) (fun j u hj=>?_) (fun u BT=>?_) AC ZB
   ·obtain ⟨AK,rfl⟩:=val hj;obtain ⟨b,o,e1,e2,_⟩:=hf j AK;exact ⟨b,o,e1,e2⟩
   ·obtain ⟨j,hj,rfl⟩:=zAt.1 BT;have AK:=zw.1 hj;obtain ⟨_,_,_,_,e3⟩:=hf j AK;exact (UK (h1 _ _ (dm AK).1 (dm AK).2.1) e3).1
  ·obtain ⟨AK,rfl⟩:=val hj;obtain ⟨_,_,_,_,e3⟩:=hf j AK;exact e3
 unfold Zn at h;split at h
 ·cases h;refine Z4 none 0 (fun j hj=>by rw [Nat.zero_mul] at hj;omega) hy (fun _=>rfl)
 ·rename_i m' n f;split at h
  ·rename_i hm;cases h;have Bw:m'=m:=by simpa using hm
   subst Bw;obtain ⟨ad,cap,rfl,g1,g2,g3⟩:=hy;refine Z4 ad cap (fun j hj=>?_) rfl (fun e=>?_)
   ·obtain ⟨b,o,u,e1,_,e2,e3⟩:=g3 _ _ (dm hj).1 (dm hj).2.1;exact ⟨b,o,u,e1,by rw [(dm hj).2.2] at e2;exact e2,e3⟩
   ·rcases zCE c with h0 | h0
    ·exact h0
    ·obtain ⟨b,o,u,e1,_⟩:=g3 0 0 h0 AC;rw [e] at e1;cases e1
  ·cases h
 ·rename_i k m' off n;obtain ⟨p,cap,hp,rfl,g1,g2,g3⟩:=hy;split at h
  ·rename_i m2 n2 f hk;split at h
   ·rename_i hm;cases h;simp only [zm,zAQ] at hm;obtain ⟨rfl,rfl⟩:=hm;obtain ⟨p',Av,hr⟩:=R.hr.obj k _ hk;have e:p'=p:=zo (Av.symm.trans hp);subst e;obtain ⟨rfl,rfl⟩:=hv;refine Z4 (some ⟨p'.blk,p'.off+0*m2,none⟩) cap (fun j hj=>?_) rfl (fun e=>by cases e);obtain ⟨u,e1,e2⟩:=AU.cell hr hj;exact ⟨p'.blk,p'.off,u,by simp,e1,e2⟩
   ·cases h
  ·cases h
 ·cases h
theorem zC (R:AY P Γ N S ρ a w) {t:TypeId} {x y:Operand} {d:DV} {h':DH} {vc:Prop} (hd:aT P S t (AW S.fr x) (AW S.fr y)=some (d,h',vc)) (hv:vc) (o:Oper) {cl:Call} (ho:o.op= .call cl) (hc:cl.callee= .builtin .append)
 (ha:cl.args.toList= [x,y]) (ht:cl.argTypes.toList= [t,t]):BJ P (execOp a.eval o) w (DM P Γ N S.h ρ w false d h'):=by
 have rx:=BZ R x;have ry:=BZ R y;unfold aT at hd;split at hd
 ·rename_i kk e i z hk;obtain ⟨hu,hi,hz,h0,CJ,Do,tr,GJ⟩:=R9 hk;clear tr GJ;split at hd
  ·cases hd
  ·rename_i DD;have OY:i.bytes<=128:=by omega
   split at hd
   ·have CK:i.size=1:=Do.symm;split at hd
    ·rename_i ys vy hy;split at hd
     ·rename_i ex;cases hd;rw [ex] at rx
      have:=aQ (ob':=.ints ys) R hu hi hz CJ OY (by rw [CK];exact Q9 R hu ry hy hv.1) hv.2.1 hv.2.2 (fun M ρ' w' p' O hr=>by
       have Cw:=hr;rw [CK,zAi] at Cw;refine AU.out Cw rfl fun j u hj BT=>?_
       simp [hj] at BT;rw [←BT];simp [hj]) false o ho hc ha ht rx rfl
      rw [CK] at this;exact this
     ·rename_i k m off n ex;rw [ex] at rx;obtain ⟨p,cap,hp,hx,g1,g2,g3⟩:=rx;split at hd
      ·rename_i xs Kw;split at hd
       ·rename_i hm;cases hd;have Bw:m=1:=by simpa using hm
        subst Bw;obtain ⟨q1,⟨rfl,rfl⟩,q3⟩:=hv;obtain ⟨p',Av,hr⟩:=R.hr.obj k _ Kw;have e:p'=p:=zo (Av.symm.trans hp);subst e
        have:=aO (ob':=.ints (xs++ys)) (n:=xs.length) (cap:=cap) (c:=ys.length) R hu hi hz h0 CJ OY Kw hp (Rw:=fun j u=>u= .int .i64 (xs.getD j 0)) (by rw [CK,zAi];exact hr) g1 (by rw [CK];simpa using g3) (by rw [CK];exact Q9 R hu ry hy q1) q3
         (fun M ρ' w' p' O hr=>YI CK hr) o ho hc ha ht (by simpa using hx) rfl
        rw [CK] at this;exact this
       ·cases hd
      ·cases hd
     ·cases hd
    ·cases hd
   ·have CK:i.size=1:=Do.symm;split at hd
    ·rename_i ys vy hy;split at hd
     ·rename_i ex;cases hd;rw [ex] at rx
      have:=aQ (ob':=.bools ys) R hu hi hz CJ OY (by rw [CK];exact j4 R hu ry hy hv.1) hv.2.1 hv.2.2 (fun M ρ' w' p' O hr=>by
       have Cw:=hr;rw [CK,zAi] at Cw;refine AU.out Cw rfl fun j u hj BT=>?_
       simp [hj] at BT;rw [←BT];simp [hj]) false o ho hc ha ht rx rfl
      rw [CK] at this;exact this
     ·rename_i k m off n ex;rw [ex] at rx;obtain ⟨p,cap,hp,hx,g1,g2,g3⟩:=rx;split at hd
      ·rename_i xs Kw;split at hd
       ·rename_i hm;cases hd;have Bw:m=1:=by simpa using hm
        subst Bw;obtain ⟨q1,⟨rfl,rfl⟩,q3⟩:=hv;obtain ⟨p',Av,hr⟩:=R.hr.obj k _ Kw;have e:p'=p:=zo (Av.symm.trans hp);subst e
        have:=aO (ob':=.bools (xs++ys)) (n:=xs.length) (cap:=cap) (c:=ys.length) R hu hi hz h0 CJ OY Kw hp (Rw:=fun j u=>u= .bool (xs.getD j false)) (by rw [CK,zAi];exact hr) g1 (by rw [CK];simpa using g3) (by rw [CK];exact j4 R hu ry hy q1) q3
         (fun M ρ' w' p' O hr=>yf CK hr) o ho hc ha ht (by simpa using hx) rfl
        rw [CK] at this;exact this
       ·cases hd
      ·cases hd
     ·cases hd
    ·cases hd
   ·rename_i m;have CR:i.size=m:=Do.symm;have AC:0<m:=by omega
    split at hd
    ·rename_i c g vy hy;split at hd
     ·rename_i ex;cases hd;rw [ex] at rx;obtain ⟨Bl,Yk,ZC⟩:=iv R hu ry AC hy hv.1.1 hv.1.2
      have:=aQ (ob':=.arr m c g) R hu hi hz CJ OY (by rw [CR];exact Yk) hv.2.1 hv.2.2 (fun M ρ' w' p' O hr=>by
       rw [CR] at hr;exact AU.out hr rfl fun j u hj BT=>AJ.out _ O.nil (ZC j u BT)) false o ho hc ha ht rx rfl
      rw [CR] at this;exact this
     ·rename_i k m' off n ex;rw [ex] at rx;obtain ⟨p,cap,hp,hx,g1,g2,g3⟩:=rx;split at hd
      ·rename_i m2 n2 f Kw;split at hd
       ·rename_i hm;cases hd;simp only [zm,zAQ] at hm;obtain ⟨rfl,rfl⟩:=hm;obtain ⟨q1,⟨rfl,rfl⟩,q3⟩:=hv;obtain ⟨p',Av,hr⟩:=R.hr.obj k _ Kw;have e:p'=p:=zo (Av.symm.trans hp);subst e;obtain ⟨Bl,Yk,ZC⟩:=iv R hu ry AC hy q1.1 q1.2
        have:=aO (ob':=.arr m2 (n+c) (fun i j=>if i<n then f i j else g (i-n) j)) (n:=n) (cap:=cap) (c:=c) R hu hi hz h0 CJ OY Kw hp (Rw:=fun j u=>AJ (MS N S.h ρ) w (f (j/m2) (j % m2)) [] u) (by rw [CR];exact hr) g1 (by rw [CR];simpa using g3) (by rw [CR];exact Yk) q3
         (fun M ρ' w' p' O hr=>by
          rw [CR] at hr;refine AU.out hr rfl fun j u hj BT=>?_
          show AJ M w' (if j/m2<n then f (j/m2) (j % m2) else g (j/m2-n) (j % m2)) [] u
          unfold HZ at BT
          by_cases AK:j<n*m2
          ·rw [zi AK] at BT;rw [zi (by rw [zBa AC];exact AK)];exact AJ.out _ O.nil BT
          ·rw [zr AK] at BT;rw [zr (by rw [zBa AC];exact AK)];have h1:=ZC _ _ BT;have e1:(j-n*m2)/m2=j/m2-n:=by rw [zBR n m2];exact Nat.sub_mul_div ..
           have e2:(j-n*m2) % m2=j % m2:=by
            have GL:j=(j-n*m2)+n*m2:=by omega
            rw [GL,Nat.add_mul_mod_self_right,Nat.add_sub_cancel]
           rw [e1,e2] at h1;exact AJ.out _ O.nil h1) o ho hc ha ht (by simpa using hx) rfl
        rw [CR] at this;exact this
       ·cases hd
      ·cases hd
     ·cases hd
    ·cases hd
 ·cases hd
end
end Go.Proofs.YtgkhhfnhacibcaaGreatDoor
namespace Go.Proofs.YtgkhhfnhacibcaaGreatDoor
abbrev zAG:=@Bool.true_and
abbrev zAW:=@Bool.not_true
abbrev zBF:=@List.map_cons
abbrev zBI:=@List.getElem?_drop
abbrev zB6:=@List.length_drop
abbrev zCa:=@Go.run_equalIn_int
end Go.Proofs.YtgkhhfnhacibcaaGreatDoor
namespace Go.Proofs.YtgkhhfnhacibcaaGreatDoor
open Go.RowKit
def VZ (Hw:Nat -> Option (Nat×Nat)) (cells:List DV):List (Nat×DV) -> Option (List DV)
 | []=>some cells
 | (i,d)::rest=>match Hw i with
  | none=>none
  | some (off,size)=>match IL d with
   | none=>none
   | some l=>if l.length=size/\ off+l.length<=cells.length then VZ Hw (Lg cells off l) rest else none
def XS (P:Program) (t:TypeId):Option (Value×(Nat -> Option (Nat×Nat))):=match P.info? t with
 | some it=>match P.underlying t with
  | some (.array _ e)=>match it.zero with
   | some z=>match P.info? e with
    | some ie=>some (z,fun i=>some (i*ie.size,ie.size))
    | none=>none
   | none=>none
  | some (.struct xB)=>match it.zero with
   | some z=>match xB.toList.mapM (fun f=>(P.info? f.type).map fun i=>(f.offset,i.size)) with
    | some Il=>some (z,fun i=>Il.toArray[i]?)
    | none=>none
   | none=>none
  | _=>none
 | none=>none
def UW (P:Program) (S:St) (t:TypeId) (parts:List (Nat×Operand)):Option (DV×Prop):=match XS P t with
 | some (z,Hw)=>match VZ Hw (z.cells.toList.map FA) (parts.map fun x=>(x.1,AW S.fr x.2)) with
  | some l=>some (.agg l.length (fun j=>l.getD j .any),True)
  | none=>none
 | none=>none
def Lz (P:Program) (t:TypeId) (m:Nat) (f:Nat -> DV) (off size:Nat):Option DV:=
 if off+size<=m then (if Fr P t then (if size=1 then some (f off) else none) else if Sq P t size then some (.agg size (GC size fun j=>f (off+j))) else none) else none
def YE (P:Program) (t:TypeId) (x:DV) (n:Int):Option (DV×Prop):=match x with
 | .agg m f=>match P.underlying t with
  | some (.array len e)=>match P.info? e with
   | some i=>if Fr P e&&i.size==1&&len==m then some (f n.toNat,0<=n/\ n<len) else none
   | none=>none
  | _=>none
 | _=>none
def VT (P:Program) (t:TypeId) (x:DV) (fi:Nat):Option (DV×Prop):=match x with
 | .agg m f=>match P.underlying t with
  | some (.struct fs)=>match fs[fi]? with
   | some fd=>match P.info? fd.type with
    | some i=>match Lz P fd.type m f fd.offset i.size with
     | some d=>some (d,True)
     | none=>none
    | none=>none
   | none=>none
  | _=>none
 | _=>none
def Z3 (P:Program) (t:TypeId) (x:DV) (lo hi:Option Int):Option (DV×Prop):=match P.underlying t with
 | some (.slice e)=>match P.info? e with
  | some i=>match x with
   | .ints l=>if i.size=1 then some (.ints ((l.take (hi.getD l.length).toNat).drop (lo.getD 0).toNat),0<=lo.getD 0/\ lo.getD 0<=hi.getD l.length/\ hi.getD l.length<=l.length) else none
   | .bools l=>if i.size=1 then some (.bools ((l.take (hi.getD l.length).toNat).drop (lo.getD 0).toNat),0<=lo.getD 0/\ lo.getD 0<=hi.getD l.length/\ hi.getD l.length<=l.length) else none
   | .sl m n f=>if i.size=m then some (.sl m ((hi.getD n).toNat-(lo.getD 0).toNat) (fun i j=>f ((lo.getD 0).toNat+i) j),0<=lo.getD 0/\ lo.getD 0<=hi.getD n/\ hi.getD n<=n) else none
   | .msl k m off n=>if i.size=m then some (.mse k m (off+(lo.getD 0).toNat) ((hi.getD n).toNat-(lo.getD 0).toNat),0<=lo.getD 0/\ lo.getD 0<=hi.getD n/\ hi.getD n<=n) else none
   | _=>none
  | none=>none
 | _=>none
def Ue (S:St):Option Operand -> Option (Option Int)
 | none=>some none
 | some x=>match AW S.fr x with
  | .int _ n=>some (some n)
  | _=>none
def Ow (f g:Nat -> DV):List Nat -> Bool
 | []=>true
 | i::is=>(HL (f i)==HL (g i))&&Ow f g is
def Vf (P:Program) (t:TypeId) (f g:Nat -> DV) (m m':Nat):Option (List Nat):=match P.underlying t with
 | some (.array n e)=>match P.info? e with
  | some i=>match P.underlying e with
   | some (.int _)=>if i.size==1&&Fr P e&&P.eqGuardType P.depth t==false&&n==m&&n==m'&&(List.range n).all (fun i=>Jc (f i)&&Jc (g i)) then some (List.range n) else none
   | _=>none
  | none=>none
 | _=>none
def R6 (P:Program) (op:BinOp) (t:TypeId) (x y:DV):Option (DV×Prop):=match op,x,y with
 | .eql,.agg m f,.agg m' g=>match Vf P t f g m m' with
  | some is=>some (.bool (Ow f g is),True)
  | none=>none
 | .neq,.agg m f,.agg m' g=>match Vf P t f g m m' with
  | some is=>some (.bool (!(Ow f g is)),True)
  | none=>none
 | _,_,_=>none
def Qa (P:Program) (S:St):Op -> Option (DV×Prop)
 | .build t parts=>UW P S t parts.toList
 | .index t x i=>match AW S.fr i with
  | .int _ n=>YE P t (AW S.fr x) n
  | _=>none
 | .field t x f=>VT P t (AW S.fr x) f
 | .slice t x lo hi none=>match Ue S lo with
  | some l=>match Ue S hi with
   | some h=>Z3 P t (AW S.fr x) l h
   | none=>none
  | none=>none
 | .binOp op t x y t'=>match R6 P op t (AW S.fr x) (AW S.fr y) with
  | some r=>some r
  | none=>pop P S (.binOp op t x y t')
 | op=>pop P S op
section
variable {P:Program} {Γ:Ax} {N:Nat -> Prop} {S:St} {ρ:List AI} {a:Act} {w:World}
def WB (M:Nat -> Prop) (w:World) (ρ:List AI) (l:List DV) (cs:Array Value):Prop:=cs.size=l.length/\ ∀ j,j<l.length -> ∃ u,cs[j]? =some u/\ AJ M w (l.getD j .any) ρ u
theorem kJ: ∀ (vs:List Value) (k off:Nat) (cs:Array Value),((vs.zipIdx k).foldl (fun (cs:Array Value) (x:Value×Nat)=>cs.setIfInBounds (off+x.2) x.1) cs).size=cs.size/\
 ∀ j,((vs.zipIdx k).foldl (fun (cs:Array Value) (x:Value×Nat)=>cs.setIfInBounds (off+x.2) x.1) cs)[j]? =if off+k<=j/\ j<off+k+vs.length/\ j<cs.size then vs[j-(off+k)]? else cs[j]?
 | [],k,off,cs=>⟨rfl,fun j=>by
  rw [zr]
  ·rfl
  ·simp only [zA0];omega⟩
 | v::vs,k,off,cs=>by
  obtain ⟨h1,h2⟩:=kJ vs (k+1) off (cs.setIfInBounds (off+k) v);rw [List.zipIdx_cons,zBG];refine ⟨by rw [h1];simp,fun j=>?_⟩;rw [h2 j,zAv];simp only [Array.size_setIfInBounds]
  by_cases e:j=off+k
  ·subst e;rw [zr (by omega),zAf,zi rfl]
   by_cases hs:off+k<cs.size
   ·rw [zi hs,zi (by omega),Nat.sub_self];rfl
   ·rw [zr hs,zr (by omega),zCL (by omega)]
  ·by_cases e2:off+(k+1)<=j/\ j<off+(k+1)+vs.length/\ j<cs.size
   ·rw [zi e2,zi (by omega),show j-(off+k)=(j-(off+(k+1)))+1 by omega];simp
   ·rw [zr e2,zr (by omega),zAf,zr (by omega)]
theorem jB {M:Nat -> Prop} {Hw:Nat -> Option (Nat×Nat)}: ∀ (parts:List (Nat×Operand)) (l:List DV) (cs:Array Value) (r:List DV),WB M w ρ l cs -> (∀ x,AJ M w (AW S.fr x) ρ (a.eval x)) ->
 VZ Hw l (parts.map fun x=>(x.1,AW S.fr x.2))=some r -> ∃ rs,Instr.fill Hw cs (parts.map fun x=>(x.1,a.eval x.2))=some rs/\ WB M w ρ r rs
 | [],l,cs,r,hc,_,h=>by cases h;exact ⟨cs,rfl,hc⟩
 | (i,x)::rest,l,cs,r,hc,hr,h=>by
  simp only [zBF,VZ] at h;split at h
  ·cases h
  ·rename_i off size D9;split at h
   ·cases h
   ·rename_i ds FE;split at h
    ·rename_i Am;obtain ⟨c1,c2⟩:=SI FE (hr x);have Af:(a.eval x).cells.size=size:=by rw [c1,Am.1]
     have iK: ¬ (off+(a.eval x).cells.size>cs.size):=by rw [c1,hc.1];omega
     obtain ⟨s1,s2⟩:=kJ (a.eval x).cells.toList 0 off cs
     have HP:WB M w ρ (Lg l off ds) ((a.eval x).cells.zipIdx.foldl (fun cs (c,j)=>cs.setIfInBounds (off+j) c) cs):=by
      have e0:((a.eval x).cells.zipIdx.foldl (fun cs (c,j)=>cs.setIfInBounds (off+j) c) cs)=(((a.eval x).cells.toList.zipIdx 0).foldl (fun (cs:Array Value) (x:Value×Nat)=>cs.setIfInBounds (off+x.2) x.1) cs):=by
       rw [←Array.foldl_toList];simp
      rw [e0];refine ⟨by rw [s1,Wl,hc.1],fun j hj=>?_⟩;rw [Wl] at hj;rw [s2 j,Wn l off ds hj]
      by_cases e:off<=j/\ j<off+ds.length
      ·rw [zi (by simp;rw [c1,hc.1];omega),zi e];obtain ⟨u,g1,g2⟩:=c2 (j-off) (by omega);exact ⟨u,by simpa using g1,g2⟩
      ·rw [zr (by simp;rw [c1];omega),zr e];exact hc.2 j hj
     obtain ⟨rs,g1,g2⟩:=jB rest _ _ r HP hr h;refine ⟨rs,?_,g2⟩;simp only [zBF,Instr.fill,D9];rw [zr (by simp only [zAE,zAP];omega)];exact g1
    ·cases h
theorem pv {t:TypeId} {z:Value} {Hw:Nat -> Option (Nat×Nat)} (h:XS P t=some (z,Hw)) (parts:List (Nat×Value)):P.built t parts=Instr.fill Hw z.cells parts:=by
 unfold XS at h;unfold Program.built
 repeat' (split at h)
 all_goals first
  | (cases h;done)
  | (cases h;simp_all)
theorem rM (R:AY P Γ N S ρ a w) {t:TypeId} {parts:Array (Nat×Operand)} {d:DV} {vc:Prop} (h:UW P S t parts.toList=some (d,vc)):Yl P N w (MS N S.h ρ) ρ (Instr.build t (parts.map fun (i,x)=>(i,a.eval x))) d:=by
 unfold UW at h;split at h
 ·rename_i z Hw hp;split at h
  ·rename_i l hl;cases h
   have h0:WB (MS N S.h ρ) w ρ (z.cells.toList.map FA) z.cells:=⟨by simp,fun j hj=>by
    have BH:j<z.cells.size:=by simpa using hj
    exact ⟨z.cells[j],by simp [BH],by
     have:(z.cells.toList.map FA).getD j .any=FA z.cells[j]:=by simp [BH]
     rw [this];exact Qk _⟩⟩
   obtain ⟨rs,g1,g2,g3⟩:=jB parts.toList _ _ _ h0 (BZ R) hl;refine Yl.pure (v:=.agg rs) (fun W=>run_build W t _ rs ?_) ⟨rs,rfl,g2,g3⟩;rw [pv hp];have e1:(parts.map fun (i,x)=>(i,a.eval x)).toList=parts.toList.map fun x=>(x.1,a.eval x.2):=by simp
   rw [e1];exact g1
  ·cases h
 ·cases h
theorem W5 {t:TypeId} {cs:Array Value} {off size m:Nat} {f:Nat -> DV} {d:DV} {M:Nat -> Prop} {i:TypeInfo} (hi:P.info? t=some i) (Am:i.size=size) (C5:cs.size=m) (hr: ∀ j,j<m -> ∃ u,cs[j]? =some u/\ AJ M w (f j) ρ u) (h:Lz P t m f off size=some d):Yl P N w M ρ (part t cs off) d:=by
 unfold Lz at h;split at h
 ·rename_i Bx;split at h
  ·rename_i h1;split at h
   ·rename_i hs;cases h;obtain ⟨u,g1,g2⟩:=hr off (by omega);unfold Fr at h1;simp only [zm,Option.isSome_iff_exists,zAb] at h1;obtain ⟨⟨dd,hd⟩,hn⟩:=h1;refine Yl.pure (v:=u) (fun W=>?_) g2;unfold part;rw [z7,P6 hd];simp [Result.andThen,hn,g1]
   ·cases h
  ·split at h
   ·rename_i h2;cases h;obtain ⟨h3,i',A3,hs'⟩:=aY h2;have ei:i'=i:=zo (A3.symm.trans hi);subst ei;obtain ⟨dd,hd⟩:=f9 h3;refine Yl.pure (v:=.agg (cs.extract off (off+size))) (fun W=>?_) ⟨_,rfl,by simp;omega,fun j hj=>?_⟩
    ·unfold part;rw [z7,P6 hd];simp only [Result.andThen,h3,zAn];rw [z7,Id hi,Am];rfl
    ·obtain ⟨u,g1,g2⟩:=hr (off+j) (by omega);refine ⟨u,?_,Hh hj g2⟩;rw [Array.getElem?_extract];rw [zi (by omega)];exact g1
   ·cases h
 ·cases h
theorem sF (R:AY P Γ N S ρ a w) {t:TypeId} {x d:DV} {vc:Prop} {v:Value} {k:IntKind} {n:Int} (hx:AJ (MS N S.h ρ) w x ρ v) (h:YE P t x n=some (d,vc)) (hv:vc):Yl P N w (MS N S.h ρ) ρ (Instr.index t v (.int k n)) d:=by
 unfold YE at h;split at h
 ·rename_i m f;obtain ⟨cs,rfl,hs,hr⟩:=hx;split at h
  ·rename_i len e hu;split at h
   ·rename_i i hi;split at h
    ·rename_i hc;cases h;simp only [zm,zAQ] at hc;obtain ⟨⟨h1,h2⟩,rfl⟩:=hc
     have hp:Lz P e len f n.toNat 1=some (f n.toNat):=by
      unfold Lz;rw [zi (by omega),zi h1,zi rfl]
     obtain ⟨u,g1,g2⟩:=W5 (P:=P) hi h2 hs hr hp;refine ⟨u,fun W hE=>?_,g2⟩;unfold Instr.index;simp only [asIntOf,z7,zB5,Result.andThen,zAe hu];rw [zi ⟨hv.1,hv.2⟩];simp only [z7,Id hi,Result.andThen,h2,zAi];exact g1 W hE
    ·cases h
   ·cases h
  ·cases h
 ·cases h
theorem wx (R:AY P Γ N S ρ a w) {t:TypeId} {x d:DV} {vc:Prop} {v:Value} {fi:Nat} (hx:AJ (MS N S.h ρ) w x ρ v) (h:VT P t x fi=some (d,vc)):Yl P N w (MS N S.h ρ) ρ (Instr.field t v fi) d:=by
 unfold VT at h;split at h
 ·rename_i m f;obtain ⟨cs,rfl,hs,hr⟩:=hx;split at h
  ·rename_i fs hu;split at h
   ·rename_i fd hf;split at h
    ·rename_i i hi;split at h
     ·rename_i d' hp;cases h;obtain ⟨u,g1,g2⟩:=W5 (P:=P) hi rfl hs hr hp;refine ⟨u,fun W hE=>?_,g2⟩;unfold Instr.field;simp only [z7,zAe hu,Result.andThen,hf,asAgg,zB5];exact g1 W hE
     ·cases h
    ·cases h
   ·cases h
  ·cases h
 ·cases h
theorem oB {k:IntKind} {n:Int} {y:Nat} {c:BoundsCode} (h0:0<=n) (h1:n<=y) (W:World):(Instr.sliceBound (.int k n) y c).run P W= .ok n.toNat W:=by
 unfold Instr.sliceBound;simp only [asIntOf,z7,zB5,Result.andThen];rw [zi ⟨h0,h1⟩];rfl
theorem gA (R:AY P Γ N S ρ a w) {o:Option Operand} {l:Option Int} (h:Ue S o=some l): ∃ k,o.map a.eval=l.map (Value.int k):=by
 cases o with
 | none=>cases h;exact ⟨.i64,rfl⟩
 | some x=>
  simp only [Ue] at h;split at h
  ·rename_i k n e;cases h;have:=BZ R x;rw [e] at this;exact ⟨k,by simp only [zAR];rw [show a.eval x=_ from this]⟩
  ·cases h
theorem TU {t e:TypeId} {i:TypeInfo} {ad:Option Addr} {len cap:Nat} {kl kh:IntKind} {lo hi:Option Int} (hu:P.underlying t=some (.slice e)) (A3:P.info? e=some i) (h0:0<=lo.getD 0) (h1:lo.getD 0<=hi.getD len) (h2:hi.getD len<=len) (h3:len<=cap) (W:World):
 (Instr.sliceAt t (.slice ad len cap) (lo.map (Value.int kl)) (hi.map (Value.int kh)) none).run P W=
  .ok (.slice (if cap=(lo.getD 0).toNat then ad else ad.map (·.add ((lo.getD 0).toNat*i.size))) ((hi.getD len).toNat-(lo.getD 0).toNat) (cap-(lo.getD 0).toNat)) W:=by
 have hb:(Instr.sliceBounds true len cap (lo.map (Value.int kl)) (hi.map (Value.int kh)) none).run P W= .ok ((lo.getD 0).toNat,(hi.getD len).toNat,cap) W:=by
  cases lo <;> cases hi <;> simp only [Option.map_none,zAR,Option.getD_none,zBW] at* <;>
   simp (disch:=omega) [Instr.sliceBounds,oB,z7,Result.andThen]
 unfold Instr.sliceAt;simp only [z7,zAe hu,Result.andThen];unfold Instr.slice;simp only [z7,zAe hu,Result.andThen,hb,Id A3];rfl
theorem xq (R:AY P Γ N S ρ a w) {t:TypeId} {x d:DV} {vc:Prop} {v:Value} {kl kh:IntKind} {lo hi:Option Int} (hx:AJ (MS N S.h ρ) w x ρ v) (h:Z3 P t x lo hi=some (d,vc)) (hv:vc):
 Yl P N w (MS N S.h ρ) ρ (Instr.sliceAt t v (lo.map (Value.int kl)) (hi.map (Value.int kh)) none) d:=by
 unfold Z3 at h;split at h
 ·rename_i e hu;split at h
  ·rename_i i A3
   have gd: ∀ {α:Type} (l:List α) (q c j:Nat) (d:α),j<((l.take c).drop q).length -> ((l.take c).drop q).getD j d=l.getD (q+j) d:=fun l q c j d hj=>by
    simp only [zB6,List.length_take] at hj;simp only [u8,zBI,List.getElem?_take];rw [zi (by omega)]
   split at h
   ·rename_i l;split at h
    ·rename_i hs;cases h;obtain ⟨ad,cap,rfl,g1,g2,g3⟩:=hx;obtain ⟨v1,v2,v3⟩:=hv;have hl:((l.take (hi.getD l.length).toNat).drop (lo.getD 0).toNat).length=(hi.getD l.length).toNat-(lo.getD 0).toNat:=by simp;omega
     refine Yl.pure (fun W=>TU hu A3 v1 v2 v3 g1 W) ⟨_,_,by rw [hl],by omega,by omega,fun j hj=>?_⟩;have BH:=hj;rw [hl] at BH;obtain ⟨b,o,rfl,q1,q2⟩:=g3 ((lo.getD 0).toNat+j) (by omega);refine ⟨b,o+(lo.getD 0).toNat,?_,q1,?_⟩
     ·rw [zr (by omega)];simp only [zAR,IV,hs,zAi]
     ·rw [gd _ _ _ _ _ hj,zAg];exact q2
    ·cases h
   ·rename_i l;split at h
    ·rename_i hs;cases h;obtain ⟨ad,cap,rfl,g1,g2,g3⟩:=hx;obtain ⟨v1,v2,v3⟩:=hv;have hl:((l.take (hi.getD l.length).toNat).drop (lo.getD 0).toNat).length=(hi.getD l.length).toNat-(lo.getD 0).toNat:=by simp;omega
     refine Yl.pure (fun W=>TU hu A3 v1 v2 v3 g1 W) ⟨_,_,by rw [hl],by omega,by omega,fun j hj=>?_⟩;have BH:=hj;rw [hl] at BH;obtain ⟨b,o,rfl,q1,q2⟩:=g3 ((lo.getD 0).toNat+j) (by omega);refine ⟨b,o+(lo.getD 0).toNat,?_,q1,?_⟩
     ·rw [zr (by omega)];simp only [zAR,IV,hs,zAi]
     ·rw [gd _ _ _ _ _ hj,zAg];exact q2
    ·cases h
   ·rename_i m n f;split at h
    ·rename_i hs;cases h;obtain ⟨ad,cap,rfl,g1,g2,g3⟩:=hx;obtain ⟨v1,v2,v3⟩:=hv;refine Yl.pure (fun W=>TU hu A3 v1 v2 v3 g1 W) ⟨_,_,rfl,by omega,by omega,fun i1 j hi1 hj=>?_⟩;obtain ⟨b,o,u,rfl,q1,q2,q3⟩:=g3 ((lo.getD 0).toNat+i1) j (by omega) hj;refine ⟨b,o+(lo.getD 0).toNat*m,u,?_,q1,?_,q3⟩
     ·rw [zr (by omega)];simp only [zAR,IV,hs]
     ·rw [zBN,zAg] at q2;rw [zAg];exact q2
    ·cases h
   ·rename_i k m off n;split at h
    ·rename_i hs;cases h;obtain ⟨p,cap,hp,rfl,g1,g2,g3⟩:=hx;obtain ⟨v1,v2,v3⟩:=hv;have Bx:(lo.getD 0).toNat<=cap:=by omega
     refine Yl.pure (fun W=>TU hu A3 v1 v2 v3 g1 W) ⟨p,_,cap-(lo.getD 0).toNat,hp,rfl,by omega,by omega,fun hc=>⟨?_,?_⟩⟩
     ·rw [zr (by omega)];simp only [zAR,IV,hs,zBN,zAg]
     ·have:cap*m=(lo.getD 0).toNat*m+(cap-(lo.getD 0).toNat)*m:=by rw [←zBN];congr 1;omega
      rw [zBN];omega
    ·cases h
   ·cases h
  ·cases h
 ·cases h
theorem dB {e:TypeId} {k':IntKind} {i:TypeInfo} {n d:Nat} {xs ys:Array Value} {f g:Nat -> DV} {M:Nat -> Prop} (hi:P.info? e=some i) (hs:i.size=1) (h1:Fr P e=true) (hk:P.underlying e=some (.int k')) (hx:xs.size=n) (hy:ys.size=n)
 (rx: ∀ j,j<n -> ∃ u,xs[j]? =some u/\ AJ M w (f j) ρ u) (ry: ∀ j,j<n -> ∃ u,ys[j]? =some u/\ AJ M w (g j) ρ u) (hI: ∀ j,j<n -> Jc (f j)=true/\ Jc (g j)=true):
 ∀ (is:List Nat),(∀ j∈is,j<n) -> ∀ W,Keep N w W -> (Op.eqItems (d+1) e 1 xs ys is).run P W= .ok (Ow f g is) W
 | [],_,W,_=>rfl
 | j::is,hb,W,hE=>by
  have hj:j<n:=hb j (by simp)
  have eE: ∀ {cs:Array Value} {f:Nat -> DV},cs.size=n -> (∀ j,j<n -> ∃ u,cs[j]? =some u/\ AJ M w (f j) ρ u) -> Jc (f j)=true -> (part e cs (j*1)).run P W= .ok (.int .i64 (HL (f j))) W:=by
   intro cs f hc hr hf
   have hp:Lz P e n f (j*1) 1=some (f j):=by
    unfold Lz;rw [zi (by omega),zi h1,zi rfl,zAi]
   obtain ⟨u,g1,g2⟩:=W5 (P:=P) hi hs hc hr hp;rw [g1 W hE,YF hf g2]
  simp only [Op.eqItems,z7,eE hx rx (hI j hj).1,eE hy ry (hI j hj).2,Result.andThen,zCa W d e .i64 k' _ _ hk];unfold Ow;cases hq:(HL (f j)==HL (g j)) with
  | false=>rfl
  | true=>
   simp only [zAW,zAa,zBY,zAG];exact dB hi hs h1 hk hx hy rx ry hI is (fun j hj=>hb j (by simp [hj])) W hE
theorem xQ {M:Nat -> Prop} {op:BinOp} {t:TypeId} {x y:DV} {vx vy:Value} {d:DV} {vc:Prop} (ox oy:Operand) (hx:AJ M w x ρ vx) (hy:AJ M w y ρ vy) (h:R6 P op t x y=some (d,vc)):
 Yl P N w M ρ (do eqGuard op t ox oy vx vy;binOp op t vx vy) d:=by
 have key: ∀ {m m':Nat} {f g:Nat -> DV} {is:List Nat} {xs ys:Array Value},Vf P t f g m m'=some is -> xs.size=m -> ys.size=m' -> (∀ j,j<m -> ∃ u,xs[j]? =some u/\ AJ M w (f j) ρ u) -> (∀ j,j<m' -> ∃ u,ys[j]? =some u/\ AJ M w (g j) ρ u) ->
  P.eqGuardType P.depth t=false/\ ∀ W,Keep N w W -> (Op.equalIn 10000 t (.agg xs) (.agg ys)).run P W= .ok (Ow f g is) W:=by
  intro m m' f g is xs ys hb sx sy rx ry;unfold Vf at hb;split at hb
  ·rename_i n e hu;split at hb
   ·rename_i i hi;split at hb
    ·rename_i k' hk;split at hb
     ·rename_i hc;cases hb;simp only [zm,zAQ,zq,zw] at hc;obtain ⟨⟨⟨⟨⟨c1,c2⟩,c3⟩,c4⟩,c5⟩,c6⟩:=hc;subst c4;subst c5;refine ⟨c3,fun W hE=>?_⟩;have Co:P.cellsOf e=1:=by unfold Program.cellsOf;rw [hi];exact c1
      rw [run_equalIn_array W 9999 xs ys hu hi,Co];exact dB (d:=9998) hi c1 c2 hk sx sy rx ry c6 _ (fun j hj=>zw.1 hj) W hE
     ·cases hb
    ·cases hb
   ·cases hb
  ·cases hb
 unfold R6 at h;split at h
 ·rename_i m f m' g;split at h
  ·rename_i is hb;cases h;obtain ⟨xs,rfl,sx,rx⟩:=hx;obtain ⟨ys,rfl,sy,ry⟩:=hy;obtain ⟨k1,k2⟩:=key hb sx sy rx ry;refine ⟨.bool _,fun W hE=>?_,rfl⟩;simp only [z7,run_eqGuard_agg W .eql t ox oy xs ys k1,Result.andThen,run_eql_struct,k2 W hE]
  ·cases h
 ·rename_i m f m' g;split at h
  ·rename_i is hb;cases h;obtain ⟨xs,rfl,sx,rx⟩:=hx;obtain ⟨ys,rfl,sy,ry⟩:=hy;obtain ⟨k1,k2⟩:=key hb sx sy rx ry;refine ⟨.bool _,fun W hE=>?_,rfl⟩;simp only [z7,run_eqGuard_agg W .neq t ox oy xs ys k1,Result.andThen,run_neq_struct,k2 W hE]
  ·cases h
 ·cases h
theorem po (R:AY P Γ N S ρ a w) (o:Oper) {d:DV} {vc:Prop} (h:Qa P S o.op=some (d,vc)) (hv:vc):
 ∃ v,(∀ W,Keep N w W -> (execOp a.eval o).run P W= .ok (.value v) W)/\ AJ (MS N S.h ρ) w d ρ v:=by
 unfold Qa at h;split at h
 ·rename_i t parts ho;exact Gl (by unfold execOp;rw [ho]) (rM R h)
 ·rename_i t x i ho;have hi:=BZ R i;split at h
  ·rename_i k n e;rw [e] at hi;refine Gl (s:=Instr.index t (a.eval x) (a.eval i)) (by unfold execOp;rw [ho]) ?_;rw [show a.eval i=_ from hi];exact sF R (BZ R x) h hv
  ·cases h
 ·rename_i t x f ho;exact Gl (s:=Instr.field t (a.eval x) f) (by unfold execOp;rw [ho]) (wx R (BZ R x) h)
 ·rename_i t x lo hi ho;split at h
  ·rename_i l hl;split at h
   ·rename_i hh vh;obtain ⟨k1,e1⟩:=gA R hl;obtain ⟨k2,e2⟩:=gA R vh;refine Gl (s:=Instr.sliceAt t (a.eval x) (lo.map a.eval) (hi.map a.eval) none) (by unfold execOp;rw [ho];rfl) ?_;rw [e1,e2];exact xq R (BZ R x) h hv
   ·cases h
  ·cases h
 ·rename_i op t x y t' ho;split at h
  ·rename_i r hr;cases h;exact Gl (by unfold execOp;rw [ho]) (xQ x y (BZ R x) (BZ R y) hr)
  ·rw [←ho] at h;exact d5 R o h hv
 ·exact d5 R o h hv
end
end Go.Proofs.YtgkhhfnhacibcaaGreatDoor
namespace Go.Proofs.YtgkhhfnhacibcaaGreatDoor
open Go.RowKit
def Bb:List Prop -> Prop
 | []=>True
 | p::ps=>p/\ Bb ps
theorem C6 {l l':List Prop}:Bb (l++l')↔Bb l/\ Bb l':=by
 induction l with
 | nil=>simp [Bb]
 | cons p ps ih=>simp [Bb,ih,and_assoc]
def AM (d d':DV):Prop:=∀ (M:Nat -> Prop) (w:World) (ρ:List AI) (v:Value),AJ M w d ρ v -> AJ M w d' ρ v
section
variable {P:Program} {Γ:Ax} {N:Nat -> Prop}
theorem DB {w:World} {M M':Nat -> Prop} (h: ∀ b,M' b -> M b) (ρ:List AI):BO M w ρ M' w ρ:=⟨fun _ _ _ _=>rfl,fun b hb=>.inl (h b hb),fun _ _ h=>h⟩
def Zq:DO -> Option (Nat×Nat×DV)
 | .ints l=>some (1,l.length,.ints l)
 | .bools l=>some (1,l.length,.bools l)
 | .arr m n f=>some (m,n,.sl m n f)
 | .mo (.rws ls none)=>some (1,ls.length,.sl 1 ls.length fun i j=>([.ints (ls.getD i default)]:List DV).getD j .any)
 | _=>none
def K4 (k m:Nat) (v:DV):DV -> DV
 | .msl k' m' off n=>if k'=k/\ m'=m/\ off=0 then v else .msl k' m' off n
 | d=>d
def Ru (k m n:Nat):DV -> List Prop
 | .msl k' m' off n'=>if k'=k/\ m'=m/\ off=0 then [n'=n] else []
 | _=>[]
def VP (k m:Nat) (v:DV):Option DO -> Option DO
 | some (.cells l)=>some (.cells (l.map (K4 k m v)))
 | o=>o
def i5 (k m n:Nat):Option DO -> List Prop
 | some (.cells l)=>l.flatMap (Ru k m n)
 | _=>[]
def II (k m:Nat) (v:DV) (S:St):St:=⟨S.fr.map (K4 k m v),(S.h.set k none).map (VP k m v)⟩
theorem kQ {l:List DV} {f:DV -> List Prop} (h:Bb (l.flatMap f)) {d:DV} (hd:d∈l):Bb (f d):=by
 induction l with
 | nil=>simp at hd
 | cons x l ih=>
  rw [zCM] at h;obtain ⟨h1,h2⟩:=C6.1 h;rcases z8.1 hd with rfl | hd
  ·exact h1
  ·exact ih h2 hd
theorem zM {l:List (Option DO)} {f:Option DO -> List Prop} (h:Bb (l.flatMap f)) {d:Option DO} (hd:d∈l):Bb (f d):=by
 induction l with
 | nil=>simp at hd
 | cons x l ih=>
  rw [zCM] at h;obtain ⟨h1,h2⟩:=C6.1 h;rcases z8.1 hd with rfl | hd
  ·exact h1
  ·exact ih h2 hd
theorem wm {M M':Nat -> Prop} {w:World} {ρ:List AI} {p:AI} {o:DO} {m n:Nat} {v:DV} (ho:Zq o=some (m,n,v)) (hr:C7 P M w ρ p o) (hN: ∀ b,p.foot b -> ¬ M' b) (hM: ∀ b,M' b -> M b) {u:Value} {cap:Nat} (hu:u= .slice (some ⟨p.blk,p.off+0*m,none⟩) n cap) (h1:n<=cap) (h2:n<=LB):AJ M' w v ρ u:=by
 cases o with
 | cells l=>cases ho
 | iter e=>cases ho
 | mo x=>
  cases x with
  | rws ls Bi=>
   cases Bi with
   | some y=>cases ho
   | none=>
    cases ho;obtain ⟨vs,hS⟩:=hr;obtain ⟨cs,t,e1,e2,e3,e4⟩:=hS.row;refine ⟨_,cap,hu,h1,h2,fun i j hi hj=>?_⟩;obtain rfl:j=0:=by omega
    have A3:i+1<vs.size:=by rw [hS.size];omega
    have e5:=e4 i hi;rw [zAV A3] at e5;refine ⟨p.blk,p.off,vs[i+1],by simp,hN _ hS.blk,by unfold World.cell?;simp [e1,e5],?_⟩;have hs:=hS.has i hi fun L e=>by cases e
    rw [show vs.getD (i+1) undef=vs[i+1] by simp [A3]] at hs;rcases hs with ⟨e,e'⟩ | ⟨q,c,e,g1,g2,g3,g4,g5⟩
    ·rw [e']
     show AJ M' w (.ints (ls.getD i default)) [] _
     rw [e];exact ⟨none,0,rfl,zAF _,by decide,fun j hj=>absurd hj (zy j)⟩
    ·rw [e];refine ⟨_,c,rfl,g1,g3,fun k hk=>⟨q.blk,q.off,rfl,hN _ g4.1,?_⟩⟩;obtain ⟨x,k1,k2⟩:=g5.cell hk;rw [k1,k2]
  | _=>cases ho
 | ints l=>
  cases ho;have hN:=hN p.blk (by rw [hr.1]);refine ⟨_,cap,hu,h1,h2,fun j hj=>⟨p.blk,p.off,by simp,hN,?_⟩⟩;obtain ⟨x,e1,e2⟩:=AU.cell hr hj;rw [e1,e2]
 | bools l=>
  cases ho;have hN:=hN p.blk (by rw [hr.1]);refine ⟨_,cap,hu,h1,h2,fun j hj=>⟨p.blk,p.off,by simp,hN,?_⟩⟩;obtain ⟨x,e1,e2⟩:=AU.cell hr hj;rw [e1,e2]
 | arr m n f=>
  cases ho;have hN:=hN p.blk (by rw [hr.1]);refine ⟨_,cap,hu,h1,h2,fun i j hi hj=>?_⟩;have AK:i*m+j<n*m:=zu (by rw [zB3];omega:i*m+j<(i+1)*m) (zBB m hi);obtain ⟨x,e1,e2⟩:=AU.cell hr AK;have hm:0<m:=by omega
  have d1:(i*m+j)/m=i:=by rw [zBR,Nat.mul_add_div hm];simp [Nat.div_eq_of_lt hj]
  have d2:(i*m+j) % m=j:=by rw [zBR,Nat.mul_add_mod];exact zB4 hj
  rw [d1,d2] at e2;exact ⟨p.blk,p.off,x,by simp,hN,e1,AJ.out _ (DB hM []) e2⟩
theorem Rs {k m:Nat} {v:DV} {h:DH} {i:Nat} {o':DO} (hi:((h.set k none).map (VP k m v))[i]? =some (some o')):i≠k/\ ∃ o,h[i]? =some (some o)/\ VP k m v (some o)=some o':=by
 rw [z6] at hi;cases hx:(h.set k none)[i]? with
 | none=>rw [hx] at hi;cases hi
 | some x=>
  rw [hx] at hi;have hi:VP k m v x=some o':=zo hi;cases x with
  | none=>cases hi
  | some o=>exact ⟨(Fa hx).1,o,(Fa hx).2,hi⟩
def DY (S S':St):Prop:=∀ (P:Program) (Γ:Ax) (N:Nat -> Prop) (ρ:List AI) (a:Act) (w:World),AY P Γ N S ρ a w -> AY P Γ N S' ρ a w/\ A9 S.h ρ w S'.h ρ w
theorem DY.frz {S:St} (k:Nat) {o:DO} {m n:Nat} {v:DV} (hk:S.h[k]? =some (some o)) (ho:Zq o=some (m,n,v)) (hc:Bb (S.fr.flatMap (Ru k m n))) (IA:Bb (S.h.flatMap (i5 k m n))):DY S (II k m v S):=fun P Γ N ρ a w R=>by
 obtain ⟨p,hp,hr⟩:=R.hr.obj k _ hk
 have Ze: ∀ b,MO (II k m v S).h ρ b -> ∃ i o p',i≠k/\ S.h[i]? =some (some o)/\ ρ[i]? =some p'/\ p'.foot b:=by
  rintro b ⟨i,o',p',g1,g2,g3⟩;obtain ⟨e1,o2,e2,_⟩:=Rs g1;exact ⟨i,o2,p',e1,e2,g2,g3⟩
 have hN: ∀ b,p.foot b -> ¬ MS N (II k m v S).h ρ b:=by
  rintro b hf (hn | hb)
  ·exact (R.hr.cel k _ p b hk hp hf).2.1 hn
  ·obtain ⟨i,o2,p',e1,e2,g2,g3⟩:=Ze _ hb;exact R.hr.dis i k _ _ p' p b e1 e2 hk g2 hp g3 hf
 have hM: ∀ b,MS N (II k m v S).h ρ b -> MS N S.h ρ b:=fun b hb=>hb.imp id fun hb=>by
  obtain ⟨i,o2,p',_,e2,g2,g3⟩:=Ze _ hb;exact ⟨i,o2,p',e2,g2,g3⟩
 have conv: ∀ (d:DV) (u:Value),Bb (Ru k m n d) -> AJ (MS N S.h ρ) w d ρ u -> AJ (MS N (II k m v S).h ρ) w (K4 k m v d) ρ u:=by
  intro d u ZU hd;cases d with
  | msl k' m' off n'=>
   simp only [Ru,K4] at ZU ⊢;split at ZU
   ·rename_i e;obtain ⟨rfl,rfl,rfl⟩:=e;rw [zi ⟨rfl,rfl,rfl⟩];obtain ⟨p',cap,Av,e,g1,g2,_⟩:=hd;have ep:p'=p:=zo (Av.symm.trans hp);subst ep;have en:=ZU.1;subst en;exact wm ho hr hN hM e g1 g2
   ·rename_i e;rw [zr e];exact AJ.out _ (DB hM ρ) hd
  | _=>exact AJ.out _ (DB hM ρ) hd
 refine ⟨⟨⟨by simp [II,R.hr.len],fun i o' hi=>?_,fun i o' p' b g1 g2 g3=>?_,fun i i' o1 o2 p1 p2 b AQ g1 g2 g3 g4 g5 g6=>?_,R.hr.nlt,R.hr.gi⟩,⟨by simp [II,R.fr.1],fun i hi=>?_⟩⟩,⟨AN.refl _ w,fun b hb=>.inl ?_⟩⟩
 ·obtain ⟨e1,o2,e2,e3⟩:=Rs hi;obtain ⟨p',Av,Cw⟩:=R.hr.obj i o2 e2;refine ⟨p',Av,?_⟩;cases o2 with
  | cells l=>
   cases e3
   show AU w p' (l.map (K4 k m v)).length _
   rw [zAl];refine AU.out Cw rfl fun j u hj hu=>?_
   have:(l.map (K4 k m v)).getD j .any=K4 k m v (l.getD j .any):=by simp [hj]
   rw [this];refine conv _ _ ?_ hu
   have Ag:some (DO.cells l)∈S.h:=zAX e2;have:=zM IA Ag;exact kQ (l:=l) this (by simp [hj])
  | ints l=>cases e3;exact AU.out Cw rfl fun j u _ hu=>hu
  | bools l=>cases e3;exact AU.out Cw rfl fun j u _ hu=>hu
  | arr m n f=>cases e3;exact AU.out Cw rfl fun j u _ hu=>AJ.out _ (DB hM []) hu
  | iter encs=>
   cases e3;obtain ⟨gf,lb,Rd,q1,q2,q3,q4⟩:=Cw;exact ⟨gf,lb,Rd,q1,q2,fun b hb=>⟨fun hm=>(q3 b hb).1 (hM b hm),(q3 b hb).2⟩,q4⟩
  | mo x=>cases e3;exact Cw
 ·obtain ⟨e1,o2,e2,e3⟩:=Rs g1;obtain ⟨q1,q2,q3⟩:=R.hr.cel i o2 p' b e2 g2 g3;exact ⟨q1,q2,q3⟩
 ·obtain ⟨e1,o3,e2,_⟩:=Rs g1;obtain ⟨Oy,o4,SB,_⟩:=Rs g2;exact R.hr.dis i i' o3 o4 p1 p2 b AQ e2 SB g3 g4 g5 g6
 ·have A3:i<S.fr.length:=by simpa [II] using hi
  have:(II k m v S).fr.getD i .any=K4 k m v (S.fr.getD i .any):=by simp [II,A3]
  rw [this];refine conv _ _ (kQ hc (by simp [A3])) (R.fr.2 i A3)
 ·obtain ⟨i,o2,p',_,e2,g2,g3⟩:=Ze _ hb;exact ⟨i,o2,p',e2,g2,g3⟩
def Rt (k:Nat) (S:St):Option (St×List Prop):=match S.h.getD k none with
 | some o=>match Zq o with
  | some (m,n,v)=>some (II k m v S,S.fr.flatMap (Ru k m n)++S.h.flatMap (i5 k m n))
  | none=>none
 | none=>none
theorem DY.frzE {S:St} (k:Nat) (S':St) (vs:List Prop) (h:Rt k S=some (S',vs)) (hv:Bb vs):DY S S':=by
 unfold Rt at h;split at h
 ·rename_i o ho;split at h
  ·rename_i m n v hf;cases h;obtain ⟨h1,h2⟩:=C6.1 hv;refine DY.frz k ?_ hf h1 h2;rw [u8] at ho;cases hx:S.h[k]? with
   | none=>rw [hx] at ho;cases ho
   | some x=>rw [hx] at ho;exact congrArg some ho
  ·cases h
 ·cases h
theorem DY.refl (S:St):DY S S:=fun _ _ _ _ _ _ R=>⟨R,A9.refl _ _ _⟩
theorem DY.trans {A B C:St} (h:DY A B) (k:DY B C):DY A C:=fun P Γ N ρ a w R=>by
 obtain ⟨R1,s1⟩:=h P Γ N ρ a w R;obtain ⟨R2,s2⟩:=k P Γ N ρ a w R1;exact ⟨R2,s1.trans s2⟩
theorem MO.put {h:DH} {ρ:List AI} {k:Nat} {o o':DO} (hk:h[k]? =some (some o)) {b:Nat}:MO (h.set k (some o')) ρ b↔MO h ρ b:=by
 have AK:=(zp.1 hk).1;constructor
 ·rintro ⟨i,x,p,h1,h2,h3⟩;rw [zAU] at h1
  by_cases e:k=i
  ·subst e;exact ⟨k,o,p,hk,h2,h3⟩
  ·rw [zr e] at h1;exact ⟨i,x,p,h1,h2,h3⟩
 ·rintro ⟨i,x,p,h1,h2,h3⟩
  by_cases e:k=i
  ·subst e;exact ⟨k,o',p,by simp [AK],h2,h3⟩
  ·exact ⟨i,x,p,by rw [zAU,zr e];exact h1,h2,h3⟩
theorem DY.obj {S:St} {k:Nat} {o o':DO} (hk:S.h[k]? =some (some o)) (hO: ∀ (P:Program) (M:Nat -> Prop) (w:World) (ρ:List AI) (p:AI),C7 P M w ρ p o -> C7 P M w ρ p o'):DY S ⟨S.fr,S.h.set k (some o')⟩:=fun P Γ N ρ a w R=>by
 have hM: ∀ b,MS N (S.h.set k (some o')) ρ b↔MS N S.h ρ b:=fun b=>or_congr Iff.rfl (MO.put hk)
 have back: ∀ {i:Nat} {x:DO},(S.h.set k (some o'))[i]? =some (some x) -> ∃ y,S.h[i]? =some (some y)/\ (i=k/\ x=o'∨y=x):=by
  intro i x hi;rw [zAU] at hi
  by_cases e:k=i
  ·subst e;rw [zi rfl,zi (zp.1 hk).1] at hi;cases hi;exact ⟨o,hk,.inl ⟨rfl,rfl⟩⟩
  ·rw [zr e] at hi;exact ⟨x,hi,.inr rfl⟩
 have O:BO (MS N S.h ρ) w ρ (MS N (S.h.set k (some o')) ρ) w ρ:=DB (fun b hb=>(hM b).1 hb) ρ;refine ⟨⟨⟨by simp [R.hr.len],fun i x hi=>?_,fun i x p b g1 g2 g3=>?_,fun i i' o1 o2 p1 p2 b AQ g1 g2 g3 g4 g5 g6=>?_,R.hr.nlt,R.hr.gi⟩,R.fr.out O⟩,⟨AN.refl _ w,fun b hb=>.inl ((MO.put hk).1 hb)⟩⟩
 ·rw [zAU] at hi
  by_cases e:k=i
  ·subst e;rw [zi rfl,zi (zp.1 hk).1] at hi;cases hi;obtain ⟨p,hp,hr⟩:=R.hr.obj k o hk;exact ⟨p,hp,hO P _ w ρ p (hr.out O (S:=fun _=>False) (AN.refl _ _) (fun _ h=>h.elim) fun _ _ _ h=>h)⟩
  ·rw [zr e] at hi;obtain ⟨p,hp,hr⟩:=R.hr.obj i x hi;exact ⟨p,hp,hr.out O (S:=fun _=>False) (AN.refl _ _) (fun _ h=>h.elim) fun _ _ _ h=>h⟩
 ·obtain ⟨y,e,_⟩:=back g1;exact R.hr.cel i y p b e g2 g3
 ·obtain ⟨y1,e1,_⟩:=back g1;obtain ⟨y2,e2,_⟩:=back g2;exact R.hr.dis i i' y1 y2 p1 p2 b AQ e1 e2 g3 g4 g5 g6
inductive Fz where
 | frz (k:Nat)
 | arr (k n:Nat) (f:Nat -> Nat -> DV)
 | unf (k:Nat)
 | rws
def kK (k n':Nat) (f':Nat -> Nat -> DV) (S:St):Option (St×List Prop):=match S.h.getD k none with
 | some (.arr m n f)=>some (⟨S.fr,S.h.set k (some (.arr m n' f'))⟩,[n=n'/\ ∀ i j,i<n -> j<m -> AM (f i j) (f' i j)])
 | _=>none
def VN:Fz -> St -> Option (St×List Prop)
 | .frz k,S=>Rt k S
 | .arr k n f,S=>kK k n f S
 | .unf k,S=>match S.h.getD k none with
  | some (.mo (.rows f (some (_,_,false))))=>some (⟨S.fr,S.h.set k (some (.mo (.rows f none)))⟩,[])
  | _=>none
 | .rws,_=>none
theorem EG.unf {w:World} {p:AI} {f:Int -> List Int} {x:Int} {L:List Int} {u:Value} {es:Array MapEntry} {AT:Nat} (h:EG w p f (some (x,L,false)) u es AT):EG w p f none u es AT:=
 { h with
  key:=fun e he=>let ⟨k,h1,h2⟩:=h.key e he;⟨k,h1,fun _=>h2 fun L e=>by cases e⟩
  inHand:=fun k L g e=>by cases e }
theorem getD_some {h:DH} {k:Nat} {o:DO} (ho:h.getD k none=some o):h[k]? =some (some o):=by
 rw [u8] at ho;cases hx:h[k]? with
 | none=>rw [hx] at ho;cases ho
 | some x=>rw [hx] at ho;exact congrArg some ho
theorem DY.fz {S:St} (z:Fz) (S':St) (vs:List Prop) (h:VN z S=some (S',vs)) (hv:Bb vs):DY S S':=by
 cases z with
 | frz k=>exact DY.frzE k S' vs h hv
 | arr k n' f'=>
  simp only [VN,kK] at h;split at h
  ·rename_i m n f ho;cases h;obtain ⟨⟨rfl,hd⟩,_⟩:=hv;refine DY.obj (getD_some ho) fun P M w ρ p hr=>?_
   refine AU.out hr rfl fun j u hj hu=>?_
   have hm:0<m:=by
    rcases zCE m with e | e
    ·subst e;omega
    ·exact e
   exact hd _ _ ((zBa hm).2 hj) (zCd _ hm) M w [] u hu
  ·cases h
 | unf k=>
  simp only [VN] at h;split at h
  ·rename_i f x L ho;cases h;exact DY.obj (getD_some ho) fun P M w ρ p ⟨u,es,AT,hA⟩=>⟨u,es,AT,hA.unf⟩
  ·cases h
 | rws=>cases h
def VO:List (Nat×Fz) -> Option Nat -> St -> Option (St×List Prop×List (Nat×Fz))
 | [],_,S=>some (S,[],[])
 | (t,z)::rest,dst,S=>if dst=some t then match VN z S with
  | some (S',vs)=>match VO rest dst S' with
   | some (Cd,Bc,r)=>some (Cd,vs++Bc,r)
   | none=>none
  | none=>none
  else some (S,[],(t,z)::rest)
theorem Zp: ∀ (l:List (Nat×Fz)) {dst:Option Nat} {S S':St} {vs:List Prop} {r:List (Nat×Fz)},VO l dst S=some (S',vs,r) -> Bb vs -> DY S S'
 | [],dst,S,S',vs,r,h,_=>by cases h;exact DY.refl S
 | (t,z)::rest,dst,S,S',vs,r,h,hv=>by
  simp only [VO] at h;split at h
  ·split at h
   ·rename_i S1 CV h1;split at h
    ·rename_i S2 Eo r2 h2;cases h;obtain ⟨Be,CE⟩:=C6.1 hv;exact (DY.fz z S1 CV h1 Be).trans (Zp rest h2 CE)
    ·cases h
   ·cases h
  ·cases h;exact DY.refl S
abbrev TY {α:Type} [Inhabited α] (enc:α -> Nat -> DV) (L:List α):Nat -> Nat -> DV:=fun i j=>enc (L.getD i default) j
theorem oJ {α:Type} [Inhabited α] {enc:α -> Nat -> DV} {n m:Nat} {x:α} {g:Nat -> Nat -> DV} (hg: ∀ i j,j<m -> AM (g i j) (enc x j)):n=(List.replicate n x).length/\ ∀ i j,i<n -> j<m -> AM (g i j) (TY enc (List.replicate n x) i j):=by
 refine ⟨by simp,fun i j hi hj=>?_⟩;have:(List.replicate n x).getD i default=x:=by simp [u8,hi]
 rw [TY,this];exact hg i j hj
theorem BM {d:DV}:AM d d:=fun _ _ _ _ h=>h
def J4:List DV -> List DV -> Prop
 | [],[]=>True
 | d::ds,e::es=>AM d e/\ J4 ds es
 | _,_=>False
theorem So: ∀ {l l':List DV},J4 l l' -> l.length=l'.length/\ ∀ j,j<l.length -> AM (l.getD j .any) (l'.getD j .any)
 | [],[],_=>⟨rfl,fun j hj=>absurd hj (zy j)⟩
 | d::ds,e::es,⟨h1,h2⟩=>by
  obtain ⟨q1,q2⟩:=So h2;refine ⟨by simp [q1],fun j hj=>?_⟩;cases j with
  | zero=>exact h1
  | succ j=>exact q2 j (by simpa using hj)
 | [],_::_,h=>h.elim
 | _::_,[],h=>h.elim
theorem kR {l l':List DV} (h:J4 l l') (j:Nat):AM (l.getD j .any) (l'.getD j .any):=by
 obtain ⟨h1,h2⟩:=So h
 by_cases hj:j<l.length
 ·exact h2 j hj
 ·rw [u8,u8,zAM (by omega),zAM (by omega)];exact BM
def XA:List DV -> List (List DV) -> Prop
 | [],[]=>True
 | v::vs,c::cs=>(∃ l,IL v=some l/\ J4 l c)/\ XA vs cs
 | _,_=>False
theorem dH: ∀ {vs:List DV} {cs:List (List DV)},XA vs cs -> vs.length=cs.length/\ ∀ i,i<vs.length -> ∃ l,IL (vs.getD i .any)=some l/\ J4 l (cs.getD i [])
 | [],[],_=>⟨rfl,fun i hi=>absurd hi (zy i)⟩
 | v::vs,c::cs,⟨h1,h2⟩=>by
  obtain ⟨q1,q2⟩:=dH h2;refine ⟨by simp [q1],fun i hi=>?_⟩;cases i with
  | zero=>exact h1
  | succ i=>exact q2 i (by simpa using hi)
 | [],_::_,h=>h.elim
 | _::_,[],h=>h.elim
theorem W8 {α:Type} [Inhabited α] {c:α -> List DV} {L:List α} {vals:List DV} {m n:Nat} (hn:n=vals.length) (h:XA vals (L.map c)):n=L.length/\ ∀ i j,i<n -> j<m -> AM (match IL (vals.getD i .any) with | some l=>l.getD j .any | none=>.any) (TY (fun x j=>(c x).getD j .any) L i j):=by
 subst hn;obtain ⟨h1,h2⟩:=dH h;rw [zAl] at h1;refine ⟨h1,fun i j hi _=>?_⟩;obtain ⟨l,e,hl⟩:=h2 i hi;rw [e];have:(L.map c).getD i []=c (L.getD i default):=by simp [u8,h1▸hi]
 rw [this] at hl;exact kR hl j
theorem oK {α:Type} [Inhabited α] {c:α -> List DV} {x:α} {l:List DV} {n m:Nat} (h:J4 l (c x)):n=(List.replicate n x).length/\ ∀ i j,i<n -> j<m -> AM (l.getD j .any) (TY (fun x j=>(c x).getD j .any) (List.replicate n x) i j):=
 oJ fun _ j _=>kR h j
end
end Go.Proofs.YtgkhhfnhacibcaaGreatDoor
namespace Go.Proofs.YtgkhhfnhacibcaaGreatDoor
abbrev zAI:=@List.mem_append
abbrev zAy:=@Bool.eq_iff_iff
abbrev zA3:=@Go.MapKept.run_getObj_map
abbrev zA6:=@List.not_mem_nil
abbrev zBd:=@bne_self_eq_false
abbrev zBn:=@Go.MapKept.run_setObj_map
abbrev zCA:=@Go.MapKept.run_findKey
abbrev zCD:=@List.nodup_cons
abbrev zCO:=@List.Perm.refl
end Go.Proofs.YtgkhhfnhacibcaaGreatDoor
namespace Go.Proofs.YtgkhhfnhacibcaaGreatDoor
open Go.RowKit
def RB (P:Program) (t:TypeId):Bool:=match P.underlying t with
 | some (.int .i64)=>true
 | _=>false
theorem YJ {P:Program} {t:TypeId} (h:RB P t=true):P.underlying t=some (.int .i64):=by
 unfold RB at h;split at h
 ·assumption
 ·cases h
def Fu (P:Program) (t:TypeId):Option Nat:=match P.underlying t with
 | some (.int .i64)=>some 1
 | some (.struct fs)=>match fs.toList with
  | [f,g]=>if f.name != "_" &&g.name != "_" &&decide (f.offset=0)&&decide (g.offset=1)&&RB P f.type&&RB P g.type&&!P.stoodInHeld t then some 2 else none
  | _=>none
 | _=>none
section
variable {P:Program} {w:World} {t:TypeId}
theorem N9 {n:Nat} (h:Fu P t=some n):(n=1/\ P.underlying t=some (.int .i64))∨∃ f g fs,n=2/\ P.underlying t=some (.struct fs)/\ fs.toList= [f,g]/\ f.name≠ "_" /\ g.name≠ "_" /\ f.offset=0/\ g.offset=1/\ P.underlying f.type=some (.int .i64)/\ P.underlying g.type=some (.int .i64)/\ P.stoodInHeld t=false:=by
 unfold Fu at h;split at h
 ·exact .inl ⟨(zo h).symm,by assumption⟩
 ·rename_i fs hu;split at h
  ·rename_i f g hf;split at h
   ·rename_i hc;simp only [zm,zBH,ne_eq,zAP,zAb] at hc;obtain ⟨⟨⟨⟨⟨⟨h1,h2⟩,h3⟩,h4⟩,h5⟩,h6⟩,h7⟩:=hc;exact .inr ⟨f,g,fs,(zo h).symm,hu,hf,h1,h2,h3,h4,YJ h5,YJ h6,h7⟩
   ·cases h
  ·cases h
 ·cases h
theorem Nc {t:TypeId} (h:P.underlying t=some (.int .i64)) (cs:Array Value) (o:Nat) (v:Value) (hv:cs[o]? =some v):(part t cs o).run P w= .ok v w:=by
 unfold part;rw [z7,P6 h];simp [Result.andThen,H2,h,hv]
theorem Uc {x:List Int} (h:x.length=2): ∃ a b,x= [a,b]:=by
 match x,h with
 | [a,b],_=>exact ⟨a,b,rfl⟩
theorem MP {x:List Int} (h:x.length=1): ∃ a,x= [a]:=by
 match x,h with
 | [a],_=>exact ⟨a,rfl⟩
theorem N8 {n:Nat} (hk:Fu P t=some n) {x:List Int} (hx:x.length=n) (e:Bool):(Instr.checkKey e 10000 t (A7 x)).run P w= .ok () w:=by
 rcases N9 hk with ⟨rfl,hu⟩ | ⟨f,g,fs,rfl,hu,hf,n1,n2,o1,o2,t1,t2,_⟩
 ·obtain ⟨a,rfl⟩:=MP hx;exact MapKept.run_checkKey hu (by trivial) e 9999
 ·obtain ⟨a,b,rfl⟩:=Uc hx
  show (Instr.checkKey e (9999+1) t (.agg #[.int .i64 a,.int .i64 b])).run P w=_
  unfold Instr.checkKey;have c1: ∀ a,(Instr.checkKey e 9999 f.type (.int .i64 a)).run P w= .ok () w:=fun a=>MapKept.run_checkKey t1 (by trivial) e 9998
  have c2: ∀ a,(Instr.checkKey e 9999 g.type (.int .i64 a)).run P w= .ok () w:=fun a=>MapKept.run_checkKey t2 (by trivial) e 9998
  simp only [z7,zAe hu,Result.andThen];rw [←Array.forIn_toList,hf];simp only [List.forIn_cons,List.forIn_nil,n1,n2,ne_eq,not_false_eq_true,zAn,o1,o2,z7];rw [Nc t1 _ 0 (.int .i64 a) rfl];simp only [Result.andThen,c1,zB5,z7];rw [Nc t2 _ 1 (.int .i64 b) rfl];simp only [Result.andThen,c2,zB5]
theorem rz {n:Nat} (hk:Fu P t=some n) {x y:List Int} (hx:x.length=n) (hy:y.length=n):(Op.equal t (A7 x) (A7 y)).run P w= .ok (x==y) w:=by
 rcases N9 hk with ⟨rfl,hu⟩ | ⟨f,g,fs,rfl,hu,hf,n1,n2,o1,o2,t1,t2,hs⟩
 ·obtain ⟨a,rfl⟩:=MP hx;obtain ⟨b,rfl⟩:=MP hy
  show (Op.equalIn (9999+1) t (.int .i64 a) (.int .i64 b)).run P w=_
  rw [zCa w 9999 t .i64 .i64 a b hu]
  congr 1
  rw [zAy];simp
 ·obtain ⟨a,b,rfl⟩:=Uc hx;obtain ⟨c,d,rfl⟩:=Uc hy;have hF:P.fieldsOf t=fs:=by unfold Program.fieldsOf;rw [hu]
  show (Op.equalIn (9999+1) t (.agg #[.int .i64 a,.int .i64 b]) (.agg #[.int .i64 c,.int .i64 d])).run P w=_
  rw [run_equalIn_struct w 9999 t _ _ (by rw [hF];exact hu) hs,hF,hf];have e1: ∀ a c:Int,(Op.equalIn 9999 f.type (.int .i64 a) (.int .i64 c)).run P w= .ok (a==c) w:=fun a c=>zCa w 9998 f.type .i64 .i64 a c t1
  have e2: ∀ a c:Int,(Op.equalIn 9999 g.type (.int .i64 a) (.int .i64 c)).run P w= .ok (a==c) w:=fun a c=>zCa w 9998 g.type .i64 .i64 a c t2
  simp only [Op.eqFields,n1,n2,ne_eq,not_false_eq_true,zAn,o1,o2,z7];rw [Nc t1 _ 0 (.int .i64 a) rfl];simp only [Result.andThen];rw [Nc t1 _ 0 (.int .i64 c) rfl];simp only [Result.andThen,e1,Sem.run_ite]
  by_cases h1:a=c
  ·subst h1;simp only [beq_self_eq_true,zAW,zAa,zBY,z7];rw [Nc t2 _ 1 (.int .i64 b) rfl];simp only [Result.andThen];rw [Nc t2 _ 1 (.int .i64 d) rfl];simp only [Result.andThen,e2,Sem.run_ite]
   by_cases h2:b=d
   ·subst h2;simp
   ·have:([a,b]== [a,d])=false:=by simp [h2]
    have K1:(b==d)=false:=by simp [h2]
    simp [K1,h2]
  ·have VH:(a==c)=false:=by simp [h1]
   simp [VH,h1]
theorem ru {n:Nat} (hk:Fu P t=some n) {x:List Int} (hx:x.length=n) {ks:KS} (Do: ∀ y∈ks,y.length=n) {es:List MapEntry} (he: ∀ e∈es,∃ y∈ks,e.key=A7 y):
 ((Instr.findKey t (A7 x) es).run P w= .ok none w/\ ∀ e∈es,e.key≠A7 x)∨∃ j e,(Instr.findKey t (A7 x) es).run P w= .ok (some (j,e.val)) w/\ es[j]? =some e/\ e.key=A7 x:=by
 have ask: ∀ (es:List MapEntry) (i:Nat),(∀ e∈es,∃ y∈ks,e.key=A7 y) -> ((Instr.findAsking t (A7 x) es i).run P w= .ok none w/\ ∀ e∈es,e.key≠A7 x)∨∃ j e,(Instr.findAsking t (A7 x) es i).run P w= .ok (some (i+j,e.val)) w/\ es[j]? =some e/\ e.key=A7 x:=by
  intro es
  induction es with
  | nil=>intro i _;exact .inl ⟨rfl,fun e he=>by cases he⟩
  | cons e es ih=>
   intro i he;obtain ⟨y,hy,CQ⟩:=he e (by simp);have h1:(Op.equal t (A7 x) e.key).run P w= .ok (x==y) w:=by rw [CQ];exact rz hk hx (Do y hy)
   by_cases Yb:x=y
   ·subst Yb;exact .inr ⟨0,e,by simp [Instr.findAsking,h1,Result.andThen],rfl,CQ⟩
   ·have hf:(x==y)=false:=by simp [Yb]
    rcases ih (i+1) (fun e Gj=>he e (by simp [Gj])) with ⟨g1,g2⟩ | ⟨j,e',g1,g2,g3⟩
    ·refine .inl ⟨by simp [Instr.findAsking,h1,hf,Result.andThen,g1],fun e' Gj=>?_⟩;rcases z8.1 Gj with rfl | Gj
     ·rw [CQ];exact fun h=>Yb (fv h).symm
     ·exact g2 e' Gj
    ·exact .inr ⟨j+1,e',by simp [Instr.findAsking,h1,hf,Result.andThen,g1];omega,by simpa using g2,g3⟩
 rcases N9 hk with ⟨rfl,hu⟩ | ⟨f,g,fs,rfl,hu,_⟩
 ·obtain ⟨a,rfl⟩:=MP hx
  rcases MapKept.findNow_spec (d:=.int .i64) (k:=.int .i64 a) (by trivial) es 0 (fun e hm=>by
   obtain ⟨y,hy,CQ⟩:=he e hm;obtain ⟨b,rfl⟩:=MP (Do y hy);rw [CQ];trivial) with ⟨h1,h2⟩ | ⟨j,e,h1,h2,h3⟩
  ·exact .inl ⟨zCA hu h1,h2⟩
  ·exact .inr ⟨j,e,by have:=zCA (w:=w) hu h1;rw [zAA] at this;exact this,h2,h3⟩
 ·have hn: ∀ es:List MapEntry,(∀ e∈es,∃ y∈ks,e.key=A7 y) -> (Instr.findKey t (A7 x) es).run P w=(match es with | []=>.ok none w | _=>(Instr.findAsking t (A7 x) es 0).run P w):=fun es he=>by
   cases es with
   | nil=>simp [Instr.findKey,zAe hu,Instr.findNow,Result.andThen]
   | cons e es=>
    have:Instr.findNow (.struct fs) (A7 x) (e::es) 0=none:=by
     simp [Instr.findNow,Instr.sameNow]
    simp [Instr.findKey,zAe hu,this,Result.andThen]
  rw [hn es he];cases es with
  | nil=>exact .inl ⟨rfl,fun e he=>by cases he⟩
  | cons e es=>
   rcases ask (e::es) 0 he with h | ⟨j,e',g1,g2⟩
   ·exact .inl h
   ·exact .inr ⟨j,e',by simpa using g1,g2⟩
theorem rt {n:Nat} (hk:Fu P t=some n) {x:List Int} (hx:x.length=n):(Instr.keyThatStays (A7 x) (A7 x)).run P w= .ok (A7 x) w:=by
 rcases N9 hk with ⟨rfl,hu⟩ | ⟨f,g,fs,rfl,hu,_⟩
 ·obtain ⟨a,rfl⟩:=MP hx;exact MapKept.run_keyThatStays (d:=.int .i64) (by trivial)
 ·obtain ⟨a,b,rfl⟩:=Uc hx
  have:Instr.sameBits 10000 (A7 [a,b]) (A7 [a,b])=true:=by
   show Instr.sameBits (9998+1+1) (.agg #[.int .i64 a,.int .i64 b]) (.agg #[.int .i64 a,.int .i64 b])=true
   simp [Instr.sameBits]
  simp [Instr.keyThatStays,this]
end
/-! ### Sets in qP-/
def fW:List Int -> List Int -> Bool
 | _,[]=>false
 | [],_::_=>true
 | a::r,b::s=>decide (a<b)||(a==b&&fW r s)
def Uf (x:List Int):KS -> KS
 | []=>[x]
 | y::r=>if fW x y then x::y::r else y::Uf x r
def B4 (x:List Int) (l:KS):KS:=if l.contains x then l else Uf x l
theorem gB (x:List Int): ∀ l:KS,(Uf x l).Perm (x::l)
 | []=>zCO _
 | y::r=>by
  unfold Uf;split
  ·exact zCO _
  ·exact ((gB x r).cons y).trans (List.Perm.swap x y r)
theorem du {x:List Int} {l:KS} (h:x∈l):B4 x l=l:=by unfold B4;simp [h]
theorem XL {x:List Int} {l:KS} (h:x∉l):(B4 x l).Perm (x::l):=by unfold B4;simp [h];exact gB x l
theorem MF {x y:List Int} {l:KS}:y∈B4 x l↔y=x∨y∈l:=by
 by_cases h:x∈l
 ·rw [du h];exact ⟨.inr,fun h'=>h'.elim (fun e=>e▸h) id⟩
 ·rw [(XL h).mem_iff];simp
section
variable {P:Program} {w:World} {b n:Nat} {l:KS} {es:Array MapEntry} {AT:Nat}
theorem EZ.key (h:EZ w b n l es AT): ∀ e∈es.toList,∃ y∈l,e.key=A7 y:=fun e he=>by
 have:e.key∈es.toList.map (·.key):=zAt.2 ⟨e,he,rfl⟩;obtain ⟨y,h1,h2⟩:=zAt.1 (h.keys.mem_iff.1 this);exact ⟨y,h1,h2.symm⟩
theorem EZ.has (h:EZ w b n l es AT) {x:List Int}:x∈l↔∃ e∈es.toList,e.key=A7 x:=by
 constructor
 ·intro hx;have:A7 x∈l.map A7:=zAt.2 ⟨x,hx,rfl⟩;obtain ⟨e,h1,h2⟩:=zAt.1 (h.keys.mem_iff.2 this);exact ⟨e,h1,h2⟩
 ·rintro ⟨e,h1,h2⟩;obtain ⟨y,h3,h4⟩:=h.key e h1;exact fv (h2.symm.trans h4)▸h3
theorem EZ.find (h:EZ w b n l es AT) {t:TypeId} (hk:Fu P t=some n) {x:List Int} (hx:x.length=n):
 (x∉l/\ (Instr.findKey t (A7 x) es.toList).run P w= .ok none w)∨(x∈l/\ ∃ j e,(Instr.findKey t (A7 x) es.toList).run P w= .ok (some (j,.bool true)) w/\ es[j]? =some e/\ e.key=A7 x/\ e.val= .bool true):=by
 rcases ru (w:=w) hk hx h.len h.key with ⟨h1,h2⟩ | ⟨j,e,h1,h2,h3⟩
 ·exact .inl ⟨fun hx=>by obtain ⟨e,g1,g2⟩:=h.has.1 hx;exact h2 e g1 g2,h1⟩
 ·have hm:e∈es.toList:=zAX h2;have hv:=h.tru e hm;exact .inr ⟨h.has.2 ⟨e,hm,h3⟩,j,e,by rw [←hv];exact h1,by simpa using h2,h3,hv⟩
theorem PV {w:World} {b:Nat} (o:Obj):AN (fun k=>k=b) w { w with heap:=w.heap.setIfInBounds b o }:=
 ⟨rfl,rfl,rfl,by simp,fun k _ AQ=>by simp [zB2 AQ]⟩
theorem EZ.put (h:EZ w b n l es AT) {mt kt et:TypeId} (hm:P.underlying mt=some (.map kt et)) (hk:Fu P kt=some n) {x:List Int} (hx:x.length=n):
 ∃ w' Dh EX,(Instr.mapUpdate mt (.map (some b)) (A7 x) (.bool true)).run P w= .ok () w'/\ AN (fun k=>k=b) w w'/\ EZ w' b n (B4 x l) Dh EX:=by
 have AK:b<w.heap.size:=(zj.1 h.blk).1;rcases h.find hk hx with ⟨h1,h2⟩ | ⟨h1,j,e,h2,h3,h4,h5⟩
 ·refine ⟨{ w with heap:=w.heap.setIfInBounds b (.map (es.push { key:=A7 x,val:=.bool true,born:=AT }) (AT+1)) },es.push { key:=A7 x,val:=.bool true,born:=AT },AT+1,?_,PV _,?_⟩
  ·simp [Instr.mapUpdate,zAe hm,zA3 h.blk,N8 hk hx,h2,zBn _ h.blk,Result.andThen]
  ·refine ⟨by simp [AK],?_,((XL h1).nodup_iff).2 (zCD.2 ⟨h1,h.nd⟩),fun y hy=>?_,fun e he=>?_,fun e he=>?_,?_⟩
   ·have e1:((es.push { key:=A7 x,val:=.bool true,born:=AT }).toList.map (·.key))=es.toList.map (·.key)++[A7 x]:=by simp
    rw [e1];refine (List.perm_append_comm).trans ?_
    show (A7 x::es.toList.map (·.key)).Perm _
    exact (h.keys.cons (A7 x)).trans (((XL h1).map A7).symm)
   ·rcases MF.1 hy with rfl | hy
    ·exact hx
    ·exact h.len y hy
   ·simp only [Array.toList_push,zAI,zAB] at he;rcases he with he | rfl
    ·exact h.tru e he
    ·rfl
   ·simp only [Array.toList_push,zAI,zAB] at he;rcases he with he | rfl
    ·exact Nat.lt_succ_of_lt (h.born e he)
    ·exact Nat.lt_succ_self _
   ·have e1:((es.push { key:=A7 x,val:=.bool true,born:=AT }).toList.map (·.born))=es.toList.map (·.born)++[AT]:=by simp
    rw [e1];refine List.nodup_append.2 ⟨h.stamps,by simp,fun a ha c hc=>?_⟩;obtain ⟨e,g1,g2⟩:=zAt.1 ha;have:=h.born e g1;simp at hc;omega
 ·have hj:j<es.size:=(zj.1 h3).1
  have vO:(es.modify j fun e=>{ e with key:=A7 x,val:=.bool true })=es:=by
   apply Array.ext_getElem?;intro i;rw [zBb];split
   ·rename_i Rb;subst Rb;rw [h3]
    show some ({ e with key:=A7 x,val:=.bool true }:MapEntry)=some e
    rw [←h4,←h5]
   ·rfl
  refine ⟨{ w with heap:=w.heap.setIfInBounds b (.map es AT) },es,AT,?_,PV _,?_⟩
  ·have Do:((es[j]?).map (·.key)).getD (A7 x)=A7 x:=by rw [h3];exact h4
   simp [Instr.mapUpdate,zAe hm,zA3 h.blk,N8 hk hx,h2,Do,rt hk hx,zBn _ h.blk,Result.andThen,vO]
  ·rw [du h1];exact { h with blk:=by simp [AK] }
theorem EZ.look (h:EZ w b n l es AT) {mt kt et:TypeId} (hm:P.underlying mt=some (.map kt et)) (hk:Fu P kt=some n) {x:List Int} (hx:x.length=n) (hz:(zeroValue et).run P w= .ok (.bool false) w):
 (Instr.lookup mt (.map (some b)) (A7 x) false).run P w= .ok (.bool (l.contains x)) w:=by
 rcases h.find hk hx with ⟨h1,h2⟩ | ⟨h1,j,e,h2,h3,h4,h5⟩
 ·have:l.contains x=false:=by simpa using h1
  simp [Instr.lookup,zAe hm,zA3 h.blk,N8 hk hx,h2,hz,Result.andThen,this,h1]
 ·have:l.contains x=true:=by simpa using h1
  simp [Instr.lookup,zAe hm,zA3 h.blk,N8 hk hx,h2,Result.andThen,this,h1]
end
/-! ### On WY view-/
def UV (lk:Option (Nat×Nat×Array MapEntry×Nat)) (i:Nat):Prop:=∀ y,lk=some y -> y.1≠i
section
variable {P:Program} {w w':World} {p:AI} {n:Nat} {ls:List (Option KS)} {lk:Option (Nat×Nat×Array MapEntry×Nat)} {vs:Array Value}
theorem Ek.lies (h:Ek w p n ls lk vs) {b:Nat} (hb:p.foot b):C8 w b:=by
 rcases h.foot b hb with rfl | ⟨j,l,h1,h2⟩
 ·obtain ⟨cs,t,h3,_⟩:=h.row;exact .cells h3
 ·obtain ⟨b',g1,_,_,es,AT,g2,_⟩:=h.has j l h1;have:b'=b:=by rw [g1] at h2;cases h2;rfl
  subst this;exact ⟨_,rfl,(),g2.blk⟩
theorem Ek.put (h:Ek w p n ls lk vs) {i b:Nat} {l l':KS} {es:Array MapEntry} {AT:Nat} (hi:ls[i]? =some (some l)) (hb:vs[i]? =some (Value.map (some b))) (hu:AN (fun k=>k=b) w w') (hm:EZ w' b n l' es AT) (Y9:UV lk i):Ek w' p n (ls.set i (some l')) lk vs:=by
 have CS:i<ls.length:=(zp.1 hi).1;obtain ⟨b0,g1,g2,g3,_⟩:=h.has i l hi;have:b0=b:=by rw [g1] at hb;cases hb;rfl
 subst this
 have IF: ∀ {j:Nat} {x:Option KS},(ls.set i (some l'))[j]? =some x -> (j=i/\ x=some l')∨(j≠i/\ ls[j]? =some x):=fun {j x} hj=>by
  rw [zAU] at hj
  by_cases e:i=j
  ·subst e;simp [CS] at hj;exact .inl ⟨rfl,hj.symm⟩
  ·rw [zr e] at hj;exact .inr ⟨zB2 e,hj⟩
 refine ⟨h.val,by simp [h.size],?_,h.blk,fun j l1 hj=>?_,fun j hj=>?_,fun b' Cy=>?_,h.inj⟩
 ·obtain ⟨cs,t,k1,k2⟩:=h.row;exact ⟨cs,t,(hu.block _ (zj.1 k1).1 (fun e=>g2 e.symm)).trans k1,by simpa using k2⟩
 ·rcases IF hj with ⟨rfl,e⟩ | ⟨AQ,hj⟩
  ·cases e;exact ⟨b0,hb,g2,g3,es,AT,hm,fun y hy e=>absurd e (Y9 y hy)⟩
  ·obtain ⟨b1,k1,k2,k3,HV,c1,k4,k5⟩:=h.has j l1 hj;refine ⟨b1,k1,k2,k3,HV,c1,k4.out (hu.block _ (zj.1 k4.blk).1 fun e=>AQ ?_),k5⟩;subst e;exact h.inj j i b1 k1 hb
 ·rcases IF hj with ⟨rfl,e⟩ | ⟨AQ,hj⟩
  ·cases e
  ·exact h.nil j hj
 ·rcases h.foot b' Cy with e | ⟨j,l1,k1,k2⟩
  ·exact .inl e
  ·by_cases e:j=i
   ·subst e;exact .inr ⟨j,l',by simp [CS],k2⟩
   ·exact .inr ⟨j,l1,by rw [zAU,zr (zB2 e)];exact k1,k2⟩
end
def Ud (n:Nat) (d:DV):Option (List Int):=match d with
 | .int .i64 a=>if n=1 then some [a] else none
 | .agg m f=>if m=n/\ n≠1 then if (List.range m).all fun j=>Jc (f j) then some ((List.range m).map fun j=>HL (f j)) else none else none
 | _=>none
def X6 (n:Nat) (x:List Int):DV:=if n=1 then .int .i64 (x.getD 0 0) else .agg n (GC n fun j=>.int .i64 (x.getD j 0))
section
variable {P:Program} {w:World} {ρ:List AI} {M:Nat -> Prop}
theorem fw {x:List Int} (h:x.length≠1):A7 x= .agg (x.map fun a=>.int .i64 a).toArray:=by
 unfold A7;split
 ·simp at h
 ·rfl
theorem f6 {n:Nat} {d:DV} {x:List Int} {v:Value} (h:Ud n d=some x) (hr:AJ M w d ρ v):v=A7 x/\ x.length=n:=by
 unfold Ud at h;split at h
 ·split at h
  ·cases h;exact ⟨hr,by simp;omega⟩
  ·cases h
 ·rename_i m f;split at h
  ·rename_i hm;split at h
   ·rename_i ha;cases h;have hl:((List.range m).map fun j=>HL (f j)).length=m:=by simp
    refine ⟨?_,by rw [hl];exact hm.1⟩;obtain ⟨cs,rfl,hs,hc⟩:=hr;rw [fw (by rw [hl];omega)]
    congr 1
    apply Array.ext_getElem?;intro j
    by_cases hj:j<m
    ·obtain ⟨u,e1,e2⟩:=hc j hj;have:=YF (zq.1 ha j (zw.2 hj)) e2;rw [e1,this];simp [hj]
    ·rw [zCL (by omega)];simp [hj]
   ·cases h
  ·cases h
 ·cases h
theorem r7 {n:Nat} {x:List Int} (h:x.length=n):AJ M w (X6 n x) ρ (A7 x):=by
 unfold X6;split
 ·rename_i e;subst e;obtain ⟨a,rfl⟩:=MP h;rfl
 ·rename_i e;rw [fw (by omega)];refine ⟨_,rfl,by simp [h],fun j hj=>?_⟩;rw [TC hj];have BH:j<x.length:=by omega
  exact ⟨.int .i64 (x.getD j 0),by simp [BH],rfl⟩
end
def VY:Nat -> DH -> Option (Nat×Nat×List (Option KS)×Nat×Nat×Array MapEntry×Nat)
 | _,[]=>none
 | k,some (.mo (.sets n ls (some y)))::_=>some (k,n,ls,y)
 | k,_::r=>VY (k+1) r
theorem w9 {n:Nat} {ls:List (Option KS)} {y:Nat×Nat×Array MapEntry×Nat} {k:Nat}: ∀ (h:DH) (k0:Nat),VY k0 h=some (k,n,ls,y) -> k0<=k/\ h[k-k0]? =some (some (.mo (.sets n ls (some y)))):=by
 intro h
 induction h with
 | nil=>intro k0 e;cases e
 | cons x r ih=>
  intro k0 e
  have step:VY (k0+1) r=some (k,n,ls,y) -> k0<=k/\ (x::r)[k-k0]? =some (some (.mo (.sets n ls (some y)))):=fun e=>by
   obtain ⟨h1,h2⟩:=ih (k0+1) e;refine ⟨by omega,?_⟩;have:k-k0=k-(k0+1)+1:=by omega
   rw [this];simpa using h2
  match x,e with
  | none,e=>exact step e
  | some (.cells _),e=>exact step e
  | some (.ints _),e=>exact step e
  | some (.bools _),e=>exact step e
  | some (.arr _ _ _),e=>exact step e
  | some (.iter _),e=>exact step e
  | some (.mo (.set _ _)),e=>exact step e
  | some (.mo (.mit _ _ _ _ _ _)),e=>exact step e
  | some (.mo (.rows _ _)),e=>exact step e
  | some (.mo (.rws _ _)),e=>exact step e
  | some (.mo (.sets _ _ none)),e=>exact step e
  | some (.mo (.sets _ _ (some _))),e=>cases e;exact ⟨zAF _,by simp⟩
def MH (P:Program) (t:TypeId):Option (Nat×TypeId):=match P.underlying t with
 | some (.map k e)=>match Fu P k with
  | some n=>match P.info? e with
   | some i=>match i.zero with
    | some (.bool false)=>some (n,k)
    | _=>none
   | none=>none
  | none=>none
 | _=>none
theorem Xq {P:Program} {t k:TypeId} {n:Nat} (h:MH P t=some (n,k)): ∃ e,P.underlying t=some (.map k e)/\ Fu P k=some n/\ ∀ w,(zeroValue e).run P w= .ok (.bool false) w:=by
 unfold MH at h;split at h
 ·rename_i k' e hu;split at h
  ·rename_i n' hk;split at h
   ·rename_i i hi;split at h
    ·rename_i hz;cases h;exact ⟨e,hu,hk,fun w=>by simp [zeroValue,typeInfo,hi,hz]⟩
    ·cases h
   ·cases h
  ·cases h
 ·cases h
def Tv (P:Program) (S:St) (t:TypeId) (m k x:DV):Option (DV×DH×List Prop×Bool):=match MH P t with
 | some (n,_)=>match Ud n k,x with
  | some x,.bool true=>match m with
   | .it j=>match S.h[j]? with
    | some (some (.mo (.set n' l)))=>if n'=n then some (.any,S.h.set j (some (.mo (.set n (B4 x l)))),[],false) else none
    | _=>none
   | .mri j i=>match S.h[j]? with
    | some (some (.mo (.sets n' ls lk)))=>if n'=n then some (.any,S.h.set j (some (.mo (.sets n (ls.set i (some (B4 x ((ls.getD i none).getD [])))) lk))),[(ls.getD i none).isSome=true,UV lk i],false) else none
    | _=>none
   | _=>none
  | _,_=>none
 | none=>none
def Xr (P:Program) (S:St):Op -> Option (DV×DH×List Prop×Bool)
 | .makeMap t none=>match MH P t with
  | some (n,_)=>some (.it S.h.length,S.h++[some (.mo (.set n []))],[],true)
  | none=>none
 | .mapUpdate t m k x=>Tv P S t (AW S.fr m) (AW S.fr k) (AW S.fr x)
 | .insert t m k x=>Tv P S t (AW S.fr m) (AW S.fr k) (AW S.fr x)
 | .lookup t m k false=>match MH P t with
  | some (n,_)=>match Ud n (AW S.fr k) with
   | some x=>match AW S.fr m with
    | .it j=>match S.h[j]? with
     | some (some (.mo (.set n' l)))=>if n'=n then some (.bool (l.contains x),S.h,[],true) else none
     | _=>none
    | .mri j i=>match S.h[j]? with
     | some (some (.mo (.sets n' ls _)))=>if n'=n then some (.bool (((ls.getD i none).getD []).contains x),S.h,[(ls.getD i none).isSome=true],true) else none
     | _=>none
    | _=>none
   | none=>none
  | none=>none
 | .range t m=>match MH P t with
  | some (n,_)=>match AW S.fr m with
   | .mri j i=>match S.h[j]? with
    | some (some (.mo (.sets n' ls (some (i',mb,es,AT)))))=>if n'=n then some (.it S.h.length,S.h++[some (.mo (.mit n mb es AT ((ls.getD i none).getD []) none))],[(ls.getD i none).isSome=true,i'=i],true) else none
    | _=>none
   | _=>none
  | none=>none
 | .entry m=>match AW S.fr m with
  | .it j=>match S.h[j]? with
   | some (some (.mo (.mit n mb es AT _ (some x))))=>match VY 0 S.h with
    | some (_,_,ls,i,fR,Dh,EX)=>some (.tup 2 (GC 2 fun c=>if c=0 then X6 n x else .bool true),S.h,[(ls.getD i none).isSome=true,fR=mb,Dh=es,EX=AT],true)
    | none=>none
   | _=>none
  | _=>none
 | _=>none
section
variable {P:Program} {Γ:Ax} {N:Nat -> Prop} {S:St} {ρ:List AI} {a:Act} {w:World}
theorem Oh {ls:List (Option KS)} {i:Nat} (h:(ls.getD i none).isSome=true):ls[i]? =some (some ((ls.getD i none).getD [])):=by
 rw [u8] at h ⊢;cases hx:ls[i]? with
 | none=>rw [hx] at h;cases h
 | some x=>
  rw [hx] at h;cases x with
  | none=>cases h
  | some l=>simp
theorem Wq (R:AY P Γ N S ρ a w) {j n:Nat} {l:KS} {v:Value} (hk:S.h[j]? =some (some (.mo (.set n l)))) (hv:AJ (MS N S.h ρ) w (.it j) ρ v): ∃ p es AT,ρ[j]? =some p/\ v= .map (some p.blk)/\ p.foot=(fun b=>b=p.blk)/\ p.val=Value.map (some p.blk)/\ EZ w p.blk n l es AT:=by
 obtain ⟨p,hp,rfl⟩:=hv;obtain ⟨p',Av,h1,h2,es,AT,h3⟩:=R.hr.obj j _ hk;have:p'=p:=zo (Av.symm.trans hp);subst this;exact ⟨p',es,AT,hp,h1,h2,h1,h3⟩
theorem Wp (R:AY P Γ N S ρ a w) {j i n:Nat} {ls:List (Option KS)} {lk:Option (Nat×Nat×Array MapEntry×Nat)} {v:Value} (hk:S.h[j]? =some (some (.mo (.sets n ls lk)))) (hv:AJ (MS N S.h ρ) w (.mri j i) ρ v) (hs:(ls.getD i none).isSome=true):
 ∃ p vs b es AT,ρ[j]? =some p/\ Ek w p n ls lk vs/\ v= .map (some b)/\ vs[i]? =some (Value.map (some b))/\ p.foot b/\ EZ w b n ((ls.getD i none).getD []) es AT/\ ∀ y,lk=some y -> y.1=i -> y.2=(b,es,AT):=by
 obtain ⟨p,vs,hp,DT,CX⟩:=hv;obtain ⟨p',Av,Bc,h1⟩:=R.hr.obj j _ hk;have:p'=p:=zo (Av.symm.trans hp);subst this;have:Bc=vs:=by have:=h1.val.symm.trans DT;cases this;rfl
 subst this;obtain ⟨b,g1,g2,g3,es,AT,g4,g5⟩:=h1.has i _ (Oh hs);have:v= .map (some b):=by rw [g1] at CX;exact (zo CX).symm
 exact ⟨p',Bc,b,es,AT,hp,h1,this,g1,g3,g4,g5⟩
theorem Wt (R:AY P Γ N S ρ a w) {d:DV} {v:Value} (hv:AJ (MS N S.h ρ) w d ρ v):DM P Γ N S.h ρ w true d S.h v w:=⟨⟨ρ,R.hr,hv,A9.refl _ _ _,fun _ _ h=>h⟩,fun _=>Au.refl w⟩
theorem Rq (H:BP P Γ N S.h ρ w) {ob:Obj} (Cx:iO ob=true) {pl:AI} (Ef:pl.foot=fun b=>b=w.heap.size) {o:DO} {d:DV} {v:Value} (ho: ∀ M ρ',C7 P M (w.alloc ob) ρ' pl o)
 (hv: ∀ M ρ',ρ'[S.h.length]? =some pl -> AJ M (w.alloc ob) d ρ' v) (ext:Bool):DM P Γ N S.h ρ w ext d (S.h++[some o]) v (w.alloc ob):=by
 have hE:Au w (w.alloc ob):=(Au.refl w).allocR _;have hf: ∀ b,pl.foot b -> w.heap.size<=b:=fun b hb=>by rw [Ef] at hb;exact zCb (Eq.symm hb)
 have hb:(w.alloc ob).heap[w.heap.size]? =some ob:=zBZ w _;refine ⟨⟨ρ++[pl],H.snoc hE (fun b hx=>⟨hf b hx,ob,Cx,(),by rw [Ef] at hx;rw [show b=w.heap.size from hx];exact hb⟩) (ho _ _),?_,A9.snoc H hE hf,fun k p hk=>Dg hk⟩,fun _=>hE⟩;exact hv _ _ (by rw [←H.len];simp)
theorem dw (R:AY P Γ N S ρ a w) {t:TypeId} {m k x:Operand} {d:DV} {h':DH} {vs:List Prop} {ext:Bool} (hd:Tv P S t (AW S.fr m) (AW S.fr k) (AW S.fr x)=some (d,h',vs,ext)) (hv:Bb vs):
 ∃ w',(Instr.mapUpdate t (a.eval m) (a.eval k) (a.eval x)).run P w= .ok () w'/\ DM P Γ N S.h ρ w ext d h' undef w':=by
 have rm:=BZ R m;have rk:=BZ R k;have rx:=BZ R x;unfold Tv at hd;split at hd
 ·rename_i n kt hT;obtain ⟨e,hu,hk,hz⟩:=Xq hT;split at hd
  ·rename_i xs hK hX;obtain ⟨ek,el⟩:=f6 hK rk;rw [hX] at rx;have ex:a.eval x= .bool true:=rx;rw [ek,ex];split at hd
   ·rename_i j hM;split at hd
    ·rename_i n' l hO;split at hd
     ·rename_i hn;cases hd;subst hn;rw [hM] at rm;obtain ⟨p,es,AT,hp,ev,Ef,DT,hA⟩:=Wq R hO rm;rw [ev];obtain ⟨w',Dh,EX,h1,h2,h3⟩:=hA.put hu hk el;have Kq:AN p.foot w w':=by rw [Ef];exact h2
      refine ⟨w',h1,⟨ρ,R.hr.write hO hp Kq (fun b hb=>?_) ⟨DT,Ef,Dh,EX,h3⟩,trivial,A9.write hO hp Kq,fun _ _ h=>h⟩,fun h=>by cases h⟩;rw [Ef] at hb;exact ⟨_,rfl,(),by rw [show b=p.blk from hb];exact h3.blk⟩
     ·cases hd
    ·cases hd
   ·rename_i j i hM;split at hd
    ·rename_i n' ls lk hO;split at hd
     ·rename_i hn;cases hd;subst hn;obtain ⟨hs,Y9,_⟩:=hv;rw [hM] at rm;obtain ⟨p,vs,b,es,AT,hp,hS,ev,CX,F2,hA,_⟩:=Wp R hO rm hs;rw [ev];obtain ⟨w',Dh,EX,h1,h2,h3⟩:=hA.put hu hk el;have Kq:AN p.foot w w':=h2.mono fun c _ hc=>by rw [show c=b from hc];exact F2
      have VF:=hS.put (Oh hs) CX h2 h3 Y9;exact ⟨w',h1,⟨ρ,R.hr.write hO hp Kq (fun b hb=>VF.lies hb) ⟨vs,VF⟩,trivial,A9.write hO hp Kq,fun _ _ h=>h⟩,fun h=>by cases h⟩
     ·cases hd
    ·cases hd
   ·cases hd
  ·cases hd
 ·cases hd
theorem rQ (es:Array MapEntry):leftOf es #[]=es:=by
 unfold leftOf;refine Array.filter_eq_self.2 fun x hx=>by simp
theorem n8 {r bm Hm AT:Nat} {seen:Array Nat} {es:Array MapEntry} {e:MapEntry} (hr:w.heap[r]? =some (.mapIter (some bm) Hm seen AT)) (hs:seen.back? =some e.born) (hb:w.heap[bm]? =some (.map es AT)) (he:e∈es.toList) (hn:(es.toList.map (·.born)).Nodup):
 (Instr.entry (.pointer (some ⟨r,0,none⟩))).run P w= .ok (.tuple #[e.key,e.val]) w:=by
 have hf:es.find? (·.born==e.born)=some e:=by rw [←Array.find?_toList];exact find_born e es.toList hn he
 simp only [Instr.entry,getObj,z7,Sem.run,hr,hb,Result.andThen,hs,zBd,zAa,zBY,hf];rfl
theorem qw (R:AY P Γ N S ρ a w) (o:Oper) {d:DV} {h':DH} {vs:List Prop} {ext:Bool} (hd:Xr P S o.op=some (d,h',vs,ext)) (hv:Bb vs):BJ P (execOp a.eval o) w (DM P Γ N S.h ρ w ext d h'):=by
 unfold Xr at hd;split at hd
 ·rename_i t ho;split at hd
  ·rename_i n kt hT;cases hd;refine BJ.value (s:=Instr.makeMap t none) (by unfold execOp;rw [ho];rfl) (v:=.map (some w.heap.size)) (w':=w.alloc (.map #[] 0)) (by simp [Instr.makeMap,newObj];rfl) ?_;refine Rq (ob:=.map #[] 0) (o:=.mo (.set n [])) (d:=.it S.h.length) (v:=.map (some w.heap.size)) (pl:=⟨w.heap.size,0,0,.map (some w.heap.size),fun b=>b=w.heap.size⟩) R.hr rfl rfl (fun M ρ'=>⟨rfl,rfl,#[],0,⟨zBZ w _,by simp,List.nodup_nil,fun y hy=>absurd hy zA6,fun e he=>absurd he (by simp),fun e he=>absurd he (by simp),by simp⟩⟩) (fun M ρ' hp=>⟨_,hp,rfl⟩) true
  ·cases hd
 ·rename_i t m k x ho;obtain ⟨w',h1,h2⟩:=dw R hd hv;exact BJ.skip (s:=Instr.mapUpdate t (a.eval m) (a.eval k) (a.eval x)) (by unfold execOp;rw [ho]) h1 h2
 ·rename_i t m k x ho;obtain ⟨w',h1,h2⟩:=dw R hd hv;exact BJ.skip (s:=Instr.mapUpdate t (a.eval m) (a.eval k) (a.eval x)) (by unfold execOp;rw [ho]) h1 h2
 ·rename_i t m k ho;have rm:=BZ R m;have rk:=BZ R k;split at hd
  ·rename_i n kt hT;obtain ⟨e,hu,hk,hz⟩:=Xq hT;split at hd
   ·rename_i xs hK;obtain ⟨ek,el⟩:=f6 hK rk;split at hd
    ·rename_i j hM;split at hd
     ·rename_i n' l hO;split at hd
      ·rename_i hn;cases hd;subst hn;rw [hM] at rm;obtain ⟨p,es,AT,hp,ev,Ef,DT,hA⟩:=Wq R hO rm;exact BJ.value (s:=Instr.lookup t (a.eval m) (a.eval k) false) (by unfold execOp;rw [ho]) (by rw [ek,ev];exact hA.look hu hk el (hz w)) (Wt R rfl)
      ·cases hd
     ·cases hd
    ·rename_i j i hM;split at hd
     ·rename_i n' ls lk hO;split at hd
      ·rename_i hn;cases hd;subst hn;rw [hM] at rm;obtain ⟨p,vs,b,es,AT,hp,hS,ev,CX,F2,hA,_⟩:=Wp R hO rm hv.1;exact BJ.value (s:=Instr.lookup t (a.eval m) (a.eval k) false) (by unfold execOp;rw [ho]) (by rw [ek,ev];exact hA.look hu hk el (hz w)) (Wt R rfl)
      ·cases hd
     ·cases hd
    ·cases hd
   ·cases hd
  ·cases hd
 ·rename_i t m ho;have rm:=BZ R m;split at hd
  ·rename_i n kt hT;obtain ⟨e,hu,hk,hz⟩:=Xq hT;split at hd
   ·rename_i j i hM;split at hd
    ·rename_i n' ls i' mb es AT hO;split at hd
     ·rename_i hn;cases hd;subst hn;obtain ⟨hs,hi,_⟩:=hv;subst hi;rw [hM] at rm;obtain ⟨p,vs,b,HV,Vu,hp,hS,ev,CX,F2,hA,hL⟩:=Wp R hO rm hs;have hL:=hL _ rfl rfl;cases hL;refine BJ.value (s:=Instr.range t (a.eval m)) (by unfold execOp;rw [ho]) (by rw [ev];exact run_range_map w t _ _ _ _ _ hu hA.blk) ?_;refine Rq (ob:=.mapIter (some mb) AT #[] AT) (o:=.mo (.mit n' mb es AT ((ls.getD i' none).getD []) none)) (d:=.it S.h.length) (v:=.pointer (some ⟨w.heap.size,0,none⟩)) (pl:=⟨w.heap.size,0,0,.pointer (some ⟨w.heap.size,0,none⟩),fun b=>b=w.heap.size⟩) R.hr rfl rfl (fun M ρ'=>⟨fun x hx=>hx.elim (hA.len x) (fun e=>by cases e),rfl,rfl,#[],zBZ w _,by rw [rQ];exact hA.keys,fun x hx=>by cases hx⟩) (fun M ρ' hp=>⟨_,hp,rfl⟩) true
     ·cases hd
    ·cases hd
   ·cases hd
  ·cases hd
 ·rename_i m ho;have rm:=BZ R m;split at hd
  ·rename_i j hM;split at hd
   ·rename_i n mb es AT rem x hO;split at hd
    ·rename_i k n' ls i fR Dh EX hF;cases hd;obtain ⟨hs,e1,e2,e3,_⟩:=hv;subst e1 e2 e3;rw [hM] at rm;obtain ⟨p,hp,ev⟩:=rm;obtain ⟨p',Av,h0,h1,h2,seen,h3,h4,h5⟩:=R.hr.obj j _ hO;have:p'=p:=zo (Av.symm.trans hp);subst this;obtain ⟨e,g1,g2,g3⟩:=h5 x rfl;have hF:=(w9 _ _ hF).2;obtain ⟨q,hq,vs,hS⟩:=R.hr.obj _ _ hF;obtain ⟨b,k1,k2,k3,HV,Vu,k4,k5⟩:=hS.has i _ (Oh hs);have k5:=k5 _ rfl rfl;cases k5;refine BJ.value (s:=Instr.entry (a.eval m)) (by unfold execOp;rw [ho]) (by rw [ev,h1];exact n8 h3 g3 k4.blk g1 k4.stamps) (Wt R ?_);refine ⟨_,rfl,rfl,fun c hc=>?_⟩;rw [TC hc,g2,k4.tru e g1]
     match c,hc with
     | 0,_=>exact ⟨A7 x,rfl,r7 (h0 x (.inr rfl))⟩
     | 1,_=>exact ⟨.bool true,rfl,rfl⟩
    ·cases hd
   ·cases hd
  ·cases hd
 ·cases hd
end
end Go.Proofs.YtgkhhfnhacibcaaGreatDoor
