/- Part 1 of 6 of what the proofs of these laws stand on. -/
import Derived.WalkKit
import Derived.WalkSpells
import Derived.WalkLawsBesides
import Derived.Lib.Hide
import Derived.OrdersHeld
import Derived.Deep.RegionHeld
import Derived.BigQuiet
import Derived.OrdersIn
import Derived.TacticsIn
import Derived.RangeFuncOwn
import Derived.RangeFuncNested
import Derived.RangeFuncCalls
import Derived.Laws.IdiomRangeMap
import Derived.Laws.Cells
import Derived.Laws.Cover3
import Derived.Laws.StructEq
import Derived.ChangeKeysEq
import Derived.RowKit
import Derived.Deep.AppendSrc
import Derived.Laws.MakeOwn
import Derived.Great.BuildSlice
import Derived.Sort.LoopGhostIn
import Derived.MapKept
set_option linter.all false
namespace Go.Proofs.YtgkhhfnhacibcaaGreatDoor
abbrev ym:=@Nat.le_refl
abbrev zu:=@Go.World.block_lt_of_cell?
end Go.Proofs.YtgkhhfnhacibcaaGreatDoor
namespace Go.Proofs.YtgkhhfnhacibcaaGreatDoor
open Go.RowKit
def Au (w w':World):Prop:=Below w.heap.size w w'
theorem Au.refl (w:World):Au w w:=Below.refl _ _
theorem Au.trans {a b c:World} (h:Au a b) (k:Au b c):Au a c:=Below.trans h (Below.mono k h.size)
theorem Au.alloc (w:World) (o:Obj):Au w (w.alloc o):=(Below.refl _ _).alloc (ym _) o
theorem Au.allocR {w w':World} (h:Au w w') (o:Obj):Au w (w'.alloc o):=h.trans (Au.alloc w' o)
theorem Au.drewR {w w':World} (h:Au w w'):Au w w'.drew:=Below.drew h
theorem Au.size {w w':World} (h:Au w w'):w.heap.size<=w'.heap.size:=Below.size h
theorem Au.cells {w w':World} (h:Au w w'): ∀ b o,b<w.heap.size -> w'.cell? ⟨b,o,none⟩=w.cell? ⟨b,o,none⟩:=
 fun b o hb=>Below.cell h (p:=⟨b,o,none⟩) hb
theorem Au.cell {w w':World} (h:Au w w') {b o:Nat} {u:Value} (hc:w.cell? ⟨b,o,none⟩=some u):w'.cell? ⟨b,o,none⟩=some u:=by
 rw [h.cells b o (zu w ⟨b,o,none⟩ hc)];exact hc
def E7 (b:Bool) (e:Int):Int:=if b then 0 else e
theorem vr (e:Int):E7 true e=0:=rfl
structure AB where
 kind:Int
 cells:List Int
 set:Int
 other:Int
 lo:Int
 hi:Int
 runs:List Int
 rule:Int
 spot:Int
 deriving DecidableEq,Inhabited
structure AA where
 cells:Int
 symbols:Int
 values:List Int
 nbrs:List (List Int)
 cons:List AB
 deriving DecidableEq,Inhabited
end Go.Proofs.YtgkhhfnhacibcaaGreatDoor
namespace Go.Proofs.YtgkhhfnhacibcaaGreatDoor
abbrev yP:=@if_pos
abbrev yT:=@Bool.and_eq_true
abbrev yY:=@Option.some.inj
abbrev yb:=@if_neg
abbrev yj:=@Go.Sem.run_bind
abbrev yk:=@Bool.or_eq_true
abbrev yo:=@beq_iff_eq
abbrev zL:=@Bool.false_eq_true
abbrev zt:=@Nat.lt_or_ge
abbrev zAu:=@Go.mem_ready
abbrev zBA:=@Array.getElem?_eq_none
end Go.Proofs.YtgkhhfnhacibcaaGreatDoor
namespace Go.Proofs.YtgkhhfnhacibcaaGreatDoor
open Go.RowKit
def Pi:Op -> Bool
 | .move _ | .assign _ | .pick .. | .load .. | .binOp .. | .unOp .. | .convert .. | .makeFunc .. | .slice .. | .fieldAddr .. | .field .. | .indexAddr .. | .index .. | .extract .. | .build .. | .lookup .. | .makeInterface .. | .nilCheck _=>true
 | .call c=>match c.callee with
  | .builtin .len | .builtin .cap | .builtin .min | .builtin .max=>true
  | _=>false
 | _=>false
theorem VC {P:Program} {w w':World} {α:Type} {s:Sem α} {f:α -> Value} {n:Next} (h:(s>>=fun x=>(pure (.value (f x)):Sem Next)).run P w= .ok n w'): ∃ v,n= .value v:=by
 rw [yj] at h;cases hs:s.run P w with
 | ok v w1=>rw [hs] at h;simp only [Result.andThen] at h;cases h;exact ⟨_,rfl⟩
 | halt x w1=>rw [hs] at h;simp only [Result.andThen] at h;cases h
theorem oH {P:Program} {ρ:Operand -> Value} {o:Oper} {w w':World} {n:Next} (hp:Pi o.op=true) (h:(execOp ρ o).run P w= .ok n w'): ∃ v,n= .value v:=by
 unfold execOp at h;cases ho:o.op <;> rw [ho] at hp h <;> simp only [Pi,zL] at hp
 all_goals first | exact VC (f:=fun x=>x) h | (cases h;exact ⟨_,rfl⟩) | skip
 ·rename_i c x y;exact VC (s:=asBool (ρ c)) (f:=fun b=>if b then ρ x else ρ y) h
 ·rename_i x
  have hb: ∀ {α:Type} (s:Sem α) (f:α -> Sem Next) (w0:World),(∀ a w1,(f a).run P w1= .ok n w' -> ∃ v,n= .value v) -> (s>>=f).run P w0= .ok n w' -> ∃ v,n= .value v:=by
   intro α s f w0 hf hr;rw [yj] at hr;cases hs:s.run P w0 with
   | ok v w1=>rw [hs] at hr;exact hf _ _ hr
   | halt x w1=>rw [hs] at hr;simp only [Result.andThen] at hr;cases hr
  have To:(runtimePanic .nilDeref:Sem Next).run P w= .ok n w' -> ∃ v,n= .value v:=by
   intro he;unfold runtimePanic at he;refine hb _ _ _ ?_ he;intro a w1 h1;cases h1
  simp only at h;split at h
  ·exact To h
  ·exact To h
  ·exact To h
  ·split at h
   ·exact To h
   ·refine hb _ _ _ ?_ h;intro p w1 h1;refine hb _ _ _ ?_ h1;intro q w2 h2;split at h2
    ·refine hb _ _ _ ?_ h2;intro r w3 h3;cases h3;exact ⟨_,rfl⟩
    ·cases h2;exact ⟨_,rfl⟩
   ·cases h;exact ⟨_,rfl⟩
  ·cases h;exact ⟨_,rfl⟩
 ·rename_i c;replace h:((resolve ρ c o.type)>>=fun d=>invoke d.target d.args).run P w= .ok n w':=h;rw [yj] at h;unfold resolve at h;cases hc:c.callee with
  | value f=>rw [hc] at hp;simp at hp
  | invoke r m=>rw [hc] at hp;simp at hp
  | builtin b=>
   rw [hc] at hp h;have e: ∀ d:Deferred,(pure d:Sem Deferred).run P w= .ok d w:=fun _=>rfl
   simp only [e,Result.andThen] at h;unfold invoke at h;cases b <;> simp at hp <;> exact VC (f:=fun x=>x) h
structure RU (w:World) where
 W:World
 le:Au w W
def Om (w:World):World -> Prop:=fun w'=>∃ x:RU w,w'=x.W
theorem Om.iff {w w':World}:Om w w'↔Au w w':=⟨fun ⟨x,e⟩=>e▸x.le,fun h=>⟨⟨w',h⟩,rfl⟩⟩
theorem Au.toDrew (w:World):Au w w.drew:=Au.drewR (Au.refl w)
section
variable {P:Program} {ops:Array Oper} {Q:Exit -> Act -> World -> Prop}
theorem ix {w:World} {o:Oper} {a:Act} {v:Value} (hp:Pi o.op=true) (hw:Region.wanted o (yielded ops a.tmps)=true)
 (h: ∀ w',Om w w' -> o.quietAt P a (Om w) w' v):YieldsIf P ops (Au w) o v a:=by
 refine .inl ⟨hw,fun w' hE=>?_⟩;have:=h w' (Om.iff.2 hE);unfold Oper.quietAt at this;cases hr:(execOp a.eval o).run P w' with
 | halt x w1=>rw [hr] at this;simp [Oper.quietUpon] at this
 | ok n w1=>
  obtain ⟨u,rfl⟩:=oH hp hr;rw [hr] at this;obtain ⟨rfl,rfl⟩:=this;rfl
def NP (Q:Exit -> Act -> World -> Prop):Exit -> Act -> World -> Prop
 | .panic _,_,_=>False
 | e,a,w=>Q e a w
theorem NP.put (c:List PanicEntry) (a:Act) (d:Option Tmp) (v:Value) (w:World) (h:NP Q (.panic c) (a.put d v) w):NP Q (.panic c) a w:=h.elim
def Fp (ops:Array Oper) (AX:Array Bool):Prop:=∀ (j:Nat) (oj:Oper),ops[j]? =some oj -> AX.getD j false=true -> ∀ e∈oj.after,Region.binds .any e=true -> AX.getD e.on false=true
theorem Fp.set {AX:Array Bool} {i:Nat} (h:Fp ops AX) (hi:i∈Region.ready .any ops AX):Fp ops (AX.setIfInBounds i true):=by
 obtain ⟨_,oi,tv,HT⟩:=zAu.1 hi;intro j oj hj hl e he hb
 by_cases OD:i=j
 ·subst OD;have:oj=oi:=yY (hj.symm.trans tv);subst this;exact getD_set_true (HT e he hb)
 ·rw [getD_set_ne false OD] at hl;exact getD_set_true (h j oj hj hl e he hb)
def Fr (ops:Array Oper):Nat -> Nat -> Nat -> Bool
 | 0,_,_=>false
 | n+1,t,i=>match ops[t]? with
  | none=>false
  | some o=>o.after.any fun e=>Region.binds .any e&&(e.on==i||Fr ops n e.on i)
theorem VB {AX:Array Bool} (hc:Fp ops AX): ∀ (n t i:Nat) (o:Oper),ops[t]? =some o -> (∀ e∈o.after,Region.binds .any e=true -> AX.getD e.on false=true) -> Fr ops n t i=true -> AX.getD i false=true
 | 0,_,_,_,_,_,h=>by simp [Fr] at h
 | n+1,t,i,o,ho,HT,h=>by
  simp only [Fr,ho] at h;obtain ⟨e,he,hb⟩:=Array.any_eq_true'.1 h;simp only [yT,yk,yo] at hb;obtain ⟨hb,h1 | h1⟩:=hb
  ·rw [←h1];exact HT e he hb
  ·cases Xt:ops[e.on]? with
   | none=>cases n <;> simp [Fr,Xt] at h1
   | some o2=>exact VB hc n e.on i o2 Xt (hc e.on o2 Xt (HT e he hb)) h1
theorem UA {AX:Array Bool} {i:Nat} (h:AX.getD i true=false):AX.getD i false=false:=by
 rcases zt i AX.size with h' | h'
 ·simp [h'] at h ⊢;exact h
 ·simp [zBA h'] at h
def FH (ops:Array Oper):List Nat -> List Oper
 | []=>[]
 | i::l=>match ops[i]? with | some o=>o::FH ops l | none=>FH ops l
def PA (ops:Array Oper) (Cj:Nat -> Bool):List Nat -> Array Bool -> Bool
 | [],_=>true
 | i::l,AX=>(Region.ready .any ops AX).contains i&&Region.free .any ops AX i&&(match ops[i]? with | some o=>Pi o.op | none=>false)&&
  ((List.range ops.size).all fun j=>!Cj j||Fr ops ops.size j i)&&PA ops Cj l (AX.setIfInBounds i true)
def JY (l:List Nat) (AX:Array Bool):Array Bool:=l.foldl (fun s i=>s.setIfInBounds i true) AX
def Oz (ops:Array Oper):List Nat -> Array Bool -> Bool
 | [],AX=>(Region.ready .any ops AX).isEmpty
 | t::ts,AX=>Region.ready .any ops AX== [t]&&Oz ops ts (AX.setIfInBounds t true)
def PB (ops:Array Oper) (Cj:Nat -> Bool):List (List Nat×Nat) -> List Nat -> List Nat -> Array Bool -> Bool
 | [],Bc,tail,AX=>PA ops Cj Bc AX&&((List.range ops.size).all fun j=>Cj j||(JY Bc AX).getD j true)&&Oz ops tail (JY Bc AX)
 | (Cg,i)::Ef,Bc,tail,AX=>PA ops Cj Cg AX&&(Region.ready .any ops (JY Cg AX)== [i])&&PB ops Cj Ef Bc tail ((JY Cg AX).setIfInBounds i true)
def OG:List (List Nat×Nat) -> List Nat -> Nat
 | [],Bc=>Bc.length
 | (Cg,_)::Ef,Bc=>Cg.length+(1+OG Ef Bc)
def Vb (ops:Array Oper) (EL:List (List Nat×Nat)) (Bc tail:List Nat):Bool:=
 Region.noSelect ops&&OG EL Bc+tail.length==ops.size&&PB ops (fun j=>tail.contains j) EL Bc tail (Array.replicate ops.size false)
theorem U5 {C:World -> Prop}: ∀ (l:List Oper) (a:Act) (K K':Act -> Prop),(∀ a,K a -> K' a) -> wpQuiet P ops C K l a -> wpQuiet P ops C K' l a
 | [],a,K,K',hk,h=>hk a h
 | o::l,a,K,K',hk,h=>by
  unfold wpQuiet at*
  by_cases hw:Region.wanted o (yielded ops a.tmps)=true
  ·rw [yP hw] at h ⊢;exact Oper.quiet_mono (fun a h=>U5 l a K K' hk h) h
  ·rw [yb hw] at h ⊢;exact U5 l _ K K' hk h
end
end Go.Proofs.YtgkhhfnhacibcaaGreatDoor
namespace Go.Proofs.YtgkhhfnhacibcaaGreatDoor
abbrev yR:=@Array.getElem?_eq_some_iff
abbrev ya:=@List.all_eq_true
abbrev yh:=@List.mem_range
abbrev yp:=@List.mem_singleton
abbrev yt:=@Nat.zero_add
abbrev zB:=@Array.getElem?_eq_getElem
abbrev zm:=@List.length_nil
abbrev zo:=@if_true
abbrev zAC:=@Array.mem_of_getElem?
abbrev zAS:=@if_false
abbrev zAf:=@Go.Oper.semAt_eq
abbrev zAo:=@Go.wpOpIn_mono
abbrev zAv:=@Go.Act.put_comm
abbrev zAw:=@Ne.symm
end Go.Proofs.YtgkhhfnhacibcaaGreatDoor
namespace Go.Proofs.YtgkhhfnhacibcaaGreatDoor
open Go.RowKit
def Dq (ops:Array Oper):Bool:=ops.all fun o=>match o.op with
 | .defer _=>false
 | _=>true
theorem H2 {ops:Array Oper} (h:Dq ops=true) {j:Nat} {o:Oper} (hj:ops[j]? =some o): ∀ c,o.op≠.defer c:=by
 intro c hc;have hm:o∈ops:=zAC hj;have:=Array.all_eq_true'.1 h o hm;rw [hc] at this;cases this
section
variable {F:Fence} {n:Nat} {P:Program} {ops:Array Oper} {Q:Exit -> Act -> World -> Prop}
theorem Rb {S:World -> Prop} {i:Nat} {o:Oper} {v:Value} {a:Act} (hF: ∀ f,F.fn f) (hd: ∀ c,o.op≠.defer c) (hi:ops[i]? =some o) (hy:YieldsIf P ops S o v a)
 {K:Act -> World -> Prop} {w:World} (hS:S w) (h:K (a.put o.dst v) w):wpOpIn F n P ops Q i K a w:=by
 unfold Go.wpOpIn;simp only [hi];rcases hy with ⟨hw,hv⟩ | ⟨hw,rfl⟩
 ·simp only [hw,zo,Oper.wpIn,zAf _ _ _ hd,hv w hS,Oper.uponIn];exact ⟨fun f _=>hF f,h⟩
 ·simp only [hw,zL,zAS];exact ⟨fun f _=>hF f,h⟩
theorem ZN {S:World -> Prop} {j:Nat} {oi oj:Oper} {v:Value} (hF: ∀ f,F.fn f) (fF: ∀ c,oj.op≠.defer c) (hj:ops[j]? =some oj) (X5:oi.apart ops oj=true)
 (sC: ∀ cs b,oi.op≠.select cs b) (sB: ∀ cs b,oj.op≠.select cs b)
 (hQ: ∀ c a w,Q (.panic c) (a.put oi.dst v) w -> Q (.panic c) a w) {K:Act -> World -> Prop} {a:Act} {w:World}
 (hy:YieldsIf P ops S oi v a) (h:wpOpIn F n P ops Q j K (a.put oi.dst v) w):
 wpOpIn F n P ops Q j (fun a' w'=>YieldsIf P ops S oi v a'/\ K (a'.put oi.dst v) w') a w:=by
 obtain ⟨h1,h2,h3⟩:=Oper.apart_spec X5
 have keep: ∀ (a:Act),YieldsIf P ops S oi v a -> ∀ u,YieldsIf P ops S oi v (a.put oj.dst u):=fun a hy u=>
  hy.of_same (execOp_put oi sC a oj.dst u h3) (wanted_put oi a oj.dst u h3)
 have qn: ∀ d,YieldsIf P ops S oi v { a with defers:=d::a.defers }:=fun d=>hy.of_same rfl rfl
 unfold wpOpIn at*;simp only [hj] at*;rw [wanted_put oj a oi.dst v h1] at h;split
 ·rename_i hw;simp only [hw,zo] at h;unfold Oper.wpIn at*;refine ⟨fun f _=>hF f,?_⟩;have h:=h.2;rw [zAf _ _ _ fF,execOp_put oj sB a oi.dst v h1] at h;rw [zAf _ _ _ fF]
  generalize (execOp a.eval oj).run P w=r at*
  cases r with
  | ok x w'=>
   cases x <;> simp only [Oper.uponIn] at h ⊢
   case value u=>exact ⟨keep a hy u,by rw [←zAv a v u h2];exact h⟩
   case skip=>exact ⟨keep a hy _,by rw [←zAv a v undef h2];exact h⟩
   case defer d=>
    refine ⟨keep _ (qn d) _,?_⟩;rw [←zAv _ v undef h2,←Act.put_defers];exact h
   case enter f args=>
    refine ⟨h.1,CallsIn.mono h.2 fun e CC he=>?_⟩;cases e with
    | returned u=>exact ⟨keep a hy u,by rw [←zAv a v u h2];exact he⟩
    | panicked c=>exact hQ _ _ _ he
    | outgrown=>exact he
   case row row args=>exact ⟨h.1,RowsIn.mono h.2 fun u CC he=>⟨keep a hy u,by rw [←zAv a v u h2];exact he⟩⟩
   case round l f tmps assign body=>
    refine ⟨h.1,RoundIn.mono h.2 fun e CC he=>?_⟩;cases e with
    | returned u=>exact ⟨keep a hy u,by rw [←zAv a v u h2];exact he⟩
    | panicked c=>exact hQ _ _ _ he
    | outgrown=>exact he
  | halt x w'=>
   cases x <;> simp only [Oper.uponIn] at h ⊢
   case panic u=>exact hQ _ _ _ h
 ·rename_i hw;simp only [hw] at h;exact ⟨fun f _=>hF f,keep a hy _,by rw [←zAv a v undef h2];exact h.2⟩
theorem ZO {i:Nat} {K:Act -> World -> Prop} {a:Act} {w:World} (h:wpOpIn F n P ops (NP Q) i K a w):wpOpIn F n P ops Q i K a w:=by
 unfold wpOpIn at*;split
 ·rename_i ho;simp only [ho] at h;exact h
 ·rename_i o ho;simp only [ho] at h;have hl:LetsOut (NP Q) -> LetsOut Q:=fun ⟨a,w,h⟩=>⟨a,w,h⟩
  by_cases hw:Region.wanted o (yielded ops a.tmps)=true
  ·rw [yP hw] at h ⊢;unfold Oper.wpIn at*;refine ⟨h.1,?_⟩;have h:=h.2
   generalize (o.semAt F.round a.eval).run P w=r at*
   cases r with
   | ok x w'=>
    cases x <;> simp only [Oper.uponIn] at h ⊢ <;> first | exact h | skip
    ·refine ⟨h.1,CallsIn.mono h.2 fun e CC he=>?_⟩;cases e with
     | returned v=>exact he
     | panicked c=>exact he.elim
     | outgrown=>exact hl he
    ·refine ⟨h.1,RoundIn.mono h.2 fun e CC he=>?_⟩;cases e with
     | returned v=>exact he
     | panicked c=>exact he.elim
     | outgrown=>exact hl he
   | halt x w'=>cases x <;> simp only [Oper.uponIn] at h ⊢;exact h.elim
  ·rw [yb hw] at h ⊢;exact h
def IV (F:Fence) (n:Nat) (P:Program) (ops:Array Oper) (Q:Exit -> Act -> World -> Prop) (Cj:Nat -> Bool) (g:Nat) (S:World -> Prop):Nat -> Array Bool -> Act -> World -> Prop
 | 0,AX,a,w=>(∀ j,j<ops.size -> Cj j=false -> AX.getD j true=true)/\ wpAnyIn F n P .any ops Q g AX a w
 | m+1,AX,a,w=>Region.ready .any ops AX≠[]/\ ∀ i∈Region.ready .any ops AX,wpOpIn F n P ops (NP Q) i (fun a' w'=>S w'/\ IV F n P ops Q Cj g S m (AX.setIfInBounds i true) a' w') a w
theorem U6 {Cj:Nat -> Bool} {g:Nat} {S S':World -> Prop} (hS: ∀ w,S' w -> S w): ∀ (m:Nat) (AX:Array Bool) (a:Act) (w:World),
 IV F n P ops Q Cj g S' m AX a w -> IV F n P ops Q Cj g S m AX a w
 | 0,_,_,_,h=>h
 | m+1,_,_,_,h=>⟨h.1,fun i hi=>zAo (fun _ _ h'=>⟨hS _ h'.1,U6 hS m _ _ _ h'.2⟩) (h.2 i hi)⟩
theorem ZQ {Cj:Nat -> Bool} {g:Nat} {S:World -> Prop}: ∀ (m:Nat) (AX:Array Bool) (a:Act) (w:World),IV F n P ops Q Cj g S m AX a w -> wpAnyIn F n P .any ops Q (m+g) AX a w
 | 0,_,_,_,h=>by rw [yt];exact h.2
 | m+1,_,_,_,h=>by
  rw [show m+1+g=(m+g)+1 by omega];exact ⟨fun h0=>absurd h0 h.1,fun i hi=>zAo (fun a' w' h'=>ZQ m _ a' w' h'.2) (ZO (h.2 i hi))⟩
theorem ZP (hF: ∀ f,F.fn f) (BA:Dq ops=true) {Cj:Nat -> Bool} {g:Nat} {S:World -> Prop} {i k:Nat} {oi:Oper} {v:Value} (hi:ops[i]? =some oi) (QR: ∀ (j:Nat) (o:Oper) cs b,ops[j]? =some o -> o.op≠.select cs b)
 (hT: ∀ j,j<ops.size -> Cj j=true -> Fr ops k j i=true):
 ∀ (m:Nat) (AX:Array Bool) (a:Act) (w:World),Fp ops AX ->
  (∀ j oj,ops[j]? =some oj -> j≠i -> AX.getD j true=false -> (∀ e∈oj.after,Region.binds .any e=true -> e.on≠i) -> oi.apart ops oj=true) ->
  i∈Region.ready .any ops AX -> YieldsIf P ops S oi v a -> S w ->
  IV F n P ops Q Cj g S m (AX.setIfInBounds i true) (a.put oi.dst v) w -> IV F n P ops Q Cj g S (m+1) AX a w:=by
 intro m
 induction m with
 | zero=>
  intro AX a w Bo _ hr hy hS H;have Mg:=(zAu.1 hr).1;refine ⟨fun h=>(by rw [h] at hr;cases hr),fun j hj=>?_⟩
  by_cases EO:j=i
  ·subst EO;exact Rb hF (H2 BA hi) hi hy hS ⟨hS,H⟩
  ·exfalso
   obtain ⟨I1,oj,Fi,HT⟩:=zAu.1 hj;have OC:=(yR.1 Fi).1;cases ht:Cj j with
   | true=>
    have:=VB Bo k j i oj Fi HT (hT j OC ht);rw [UA Mg] at this;cases this
   | false=>
    have:=H.1 j OC ht;rw [getD_set_ne true (zAw EO),I1] at this;cases this
 | succ m ih=>
  intro AX a w Bo Qb hr hy hS H;have Mg:=(zAu.1 hr).1;refine ⟨fun h=>(by rw [h] at hr;cases hr),fun j hj=>?_⟩
  by_cases EO:j=i
  ·subst EO;exact Rb hF (H2 BA hi) hi hy hS ⟨hS,H⟩
  ·have h1:=H.2 j (ready_mono hj EO);obtain ⟨I1,oj,Fi,HT⟩:=zAu.1 hj
   have Xf: ∀ e∈oj.after,Region.binds .any e=true -> e.on≠i:=fun e he hb Xs=>by
    have h1:=HT e he hb;rw [Xs,UA Mg] at h1;cases h1
   have h2:=ZN hF (H2 BA Fi) Fi (Qb j oj Fi EO I1 Xf) (fun cs b=>QR i oi cs b hi) (fun cs b=>QR j oj cs b Fi) (fun c a w h=>NP.put c a _ _ w h) hy h1
   have uU: ∀ k ok,ops[k]? =some ok -> k≠i -> (AX.setIfInBounds j true).getD k true=false ->
    (∀ e∈ok.after,Region.binds .any e=true -> e.on≠i) -> oi.apart ops ok=true:=fun k ok hk QZ H8 Jz=>by
    refine Qb k ok hk QZ ?_ Jz
    by_cases Qa:j=k
    ·subst Qa;exact I1
    ·rw [getD_set_ne true Qa] at H8;exact H8
   refine zAo (fun a' w' h3=>⟨h3.2.1,ih (AX.setIfInBounds j true) a' w' (Bo.set hj) uU (ready_mono hr (zAw EO)) h3.1 h3.2.1 ?_⟩) h2;rw [Array.setIfInBounds_comm _ _ EO];exact h3.2.2
def NI (F:Fence) (n:Nat) (P:Program) (ops:Array Oper) (Q:Exit -> Act -> World -> Prop):List Nat -> Act -> World -> Prop
 | [],a,w=>Q .normal a w
 | t::ts,a,w=>wpOpIn F n P ops Q t (NI F n P ops Q ts) a w
def bw (Cg:List Nat) (b w:World):World:=match Cg with
 | []=>b
 | _=>w
def OE (F:Fence) (n:Nat) (P:Program) (ops:Array Oper) (Q:Exit -> Act -> World -> Prop):World -> List (List Nat×Nat) -> List Nat -> List Nat -> Act -> World -> Prop
 | _,[],Bc,tail,a,w=>wpQuiet P ops (fun w'=>∃ x:RU w,w'=x.W) (fun a'=>NI F n P ops Q tail a' w) (FH ops Bc) a
 | b,(Cg,i)::Ef,Bc,tail,a,w=>wpQuiet P ops (fun w'=>∃ x:RU w,w'=x.W) (fun a'=>wpOpIn F n P ops (NP Q) i (fun FS CC=>Au (bw Cg b w) CC/\ OE F n P ops Q (bw Cg b w) Ef Bc tail FS CC) a' w) (FH ops Cg) a
theorem Zx: ∀ (tail:List Nat) (AX:Array Bool) (a:Act) (w:World),Oz ops tail AX=true -> NI F n P ops Q tail a w -> wpAnyIn F n P .any ops Q tail.length AX a w
 | [],AX,a,w,hk,h=>⟨by simpa [Oz] using hk,h⟩
 | t::ts,AX,a,w,hk,h=>by
  simp only [Oz,yT,yo] at hk;refine ⟨fun h0=>(by rw [hk.1] at h0;cases h0),fun i hi=>?_⟩;rw [hk.1,yp] at hi;subst hi;exact zAo (fun a' w' h'=>Zx ts _ a' w' hk.2 h') h
theorem R8 (hF: ∀ f,F.fn f) (BA:Dq ops=true) {w:World} {Cj:Nat -> Bool} {g:Nat} (hs:Region.noSelect ops=true) {next:Act -> Prop} {m:Nat}:
 ∀ (l:List Nat) (AX:Array Bool) (a:Act),Fp ops AX -> PA ops Cj l AX=true -> wpQuiet P ops (Om w) next (FH ops l) a ->
  (∀ a',Fp ops (JY l AX) -> next a' -> IV F n P ops Q Cj g (Au w) m (JY l AX) a' w) -> IV F n P ops Q Cj g (Au w) (l.length+m) AX a w
 | [],AX,a,Bo,_,h,hn=>by
  simp only [zm,yt];exact hn a Bo h
 | i::l,AX,a,Bo,hk,h,hn=>by
  simp only [PA,yT] at hk;obtain ⟨⟨⟨⟨hr,hf⟩,hp⟩,hT⟩,Co⟩:=hk;have Cz:i∈Region.ready .any ops AX:=by simpa using hr
  have fJ: ∀ j,j<ops.size -> Cj j=true -> Fr ops ops.size j i=true:=fun j hj ht=>by
   have:=ya.1 hT j (yh.2 hj);simpa [ht] using this
  have e9:(i::l).length+m=(l.length+m)+1:=by simp;omega
  rw [e9];cases hi:ops[i]? with
  | none=>rw [hi] at hp;simp at hp
  | some o=>
   rw [hi] at hp;simp only [FH,hi] at h;unfold wpQuiet at h
   by_cases hw:Region.wanted o (yielded ops a.tmps)=true
   ·rw [yP hw] at h;obtain ⟨v,h1,h2⟩:=h;exact ZP hF BA hi (Region.noSelect_spec hs) fJ _ AX a w Bo (Region.free_spec hi hf) Cz (ix hp hw h1) (Au.refl _) (R8 hF BA hs l _ _ (Bo.set Cz) Co h2 hn)
   ·rw [yb hw] at h;exact ZP hF BA hi (Region.noSelect_spec hs) fJ _ AX a w Bo (Region.free_spec hi hf) Cz (.inr ⟨by simpa using hw,rfl⟩) (Au.refl _) (R8 hF BA hs l _ _ (Bo.set Cz) Co h hn)
theorem fD (hF: ∀ f,F.fn f) (BA:Dq ops=true) {Cj:Nat -> Bool} (hs:Region.noSelect ops=true):
 ∀ (EL:List (List Nat×Nat)) (Bc tail:List Nat) (AX:Array Bool) (a:Act) (b w:World),Au b w -> Fp ops AX -> PB ops Cj EL Bc tail AX=true -> OE F n P ops Q b EL Bc tail a w ->
  IV F n P ops Q Cj tail.length (Au b) (OG EL Bc) AX a w
 | [],Bc,tail,AX,a,b,w,hb,Bo,hk,h=>by
  simp only [PB,yT] at hk;obtain ⟨⟨h1,h2⟩,h3⟩:=hk
  have:=R8 (m:=0) hF BA hs Bc AX a Bo h1 h (fun a' _ hq=>⟨fun j hj ht=>by
   have:=ya.1 h2 j (yh.2 hj);simpa [ht] using this,Zx tail _ a' w h3 hq⟩)
  refine U6 (fun W hW=>hb.trans hW) _ _ _ _ ?_;simpa [OG] using this
 | (Cg,i)::Ef,Bc,tail,AX,a,b,w,hb,Bo,hk,h=>by
  simp only [PB,yT,yo] at hk;obtain ⟨⟨h1,h2⟩,h3⟩:=hk
  have one: ∀ (a':Act) (b':World),Au b' w -> Fp ops (JY Cg AX) -> wpOpIn F n P ops (NP Q) i (fun FS CC=>Au b' CC/\ OE F n P ops Q b' Ef Bc tail FS CC) a' w ->
   IV F n P ops Q Cj tail.length (Au b') (OG Ef Bc+1) (JY Cg AX) a' w:=fun a' b' Cq Xz hq=>by
   refine ⟨fun h0=>(by rw [h2] at h0;cases h0),fun j hj=>?_⟩;have BM:=hj;rw [h2,yp] at hj;subst hj;refine zAo (fun FS CC h'=>⟨h'.1,?_⟩) hq;exact fD hF BA hs Ef Bc tail _ FS b' CC h'.1 (Xz.set BM) h3 h'.2
  cases Cg with
  | nil=>
   have:=one a b hb Bo h;simpa [OG,Nat.add_comm,JY] using this
  | cons s0 ss=>
   refine U6 (fun W hW=>hb.trans hW) _ _ _ _ ?_;refine R8 hF BA hs (s0::ss) AX a Bo h1 h fun a' Xz hq=>?_
   rw [Nat.add_comm 1];exact one a' w (Au.refl w) Xz hq
theorem i6 {id:Nat} {a:Act} {w:World} (hF: ∀ f,F.fn f) (EL:List (List Nat×Nat)) (Bc tail:List Nat) (hm:P.follows .mixedOrders=true) (hB:(Vb ops EL Bc tail&&Dq ops)=true)
 (h:OE F n P ops Q w.drew EL Bc tail a w.drew):(Code.region id ops true).wpIn F n P Q a w:=by
 simp only [Vb,yT,yo] at hB;obtain ⟨⟨⟨h1,h2⟩,h3⟩,h4⟩:=hB
 have Bo:Fp ops (Array.replicate ops.size false):=fun j oj _ hl=>by
  exfalso
  rcases zt j ops.size with h | h
  ·simp [h] at hl
  ·simp [h] at hl
 have:=ZQ _ _ _ _ (fD hF h4 h1 EL Bc tail _ a w.drew w.drew (Au.refl _) Bo h3 h);rw [h2] at this;exact wpIn_region_any hm this
theorem Zy: ∀ (tail:List Nat) (a:Act) (w:World),(∀ t∈tail,t<ops.size) -> wpListIn F n P ops Q (FH ops tail) a w -> NI F n P ops Q tail a w
 | [],_,_,_,h=>h
 | t::ts,a,w,hl,h=>by
  have ht:ops[t]? =some (ops[t]'(hl t (by simp))):=zB _;simp only [FH,ht] at h;unfold NI wpOpIn;simp only [ht];unfold wpListIn at h;have hm: ∀ a w,wpListIn F n P ops Q (FH ops ts) a w -> NI F n P ops Q ts a w:=fun a w h=>Zy ts a w (fun t ht=>hl t (by simp [ht])) h
  by_cases hw:Region.wanted (ops[t]'(hl t (by simp))) (yielded ops a.tmps)=true
  ·rw [yP hw] at h ⊢;exact Oper.wpIn_mono hm h
  ·rw [yb hw] at h ⊢;exact ⟨h.1,hm _ _ h.2⟩
theorem ub {Bc tail:List Nat} {a:Act} {b w:World} (ht:(tail.all fun t=>decide (t<ops.size))=true)
 (h:wpQuiet P ops (fun w'=>∃ x:RU w,w'=x.W) (fun a'=>wpListIn F n P ops Q (FH ops tail) a' w) (FH ops Bc) a):
 OE F n P ops Q b [] Bc tail a w:=by
 refine U5 _ _ _ _ (fun a' h=>?_) h;exact Zy tail a' w (fun t h=>by simpa using ya.1 ht t h) h
end
end Go.Proofs.YtgkhhfnhacibcaaGreatDoor
namespace Go.Proofs.YtgkhhfnhacibcaaGreatDoor
abbrev yc:=@Nat.lt_of_lt_of_le
abbrev yf:=@Nat.le_trans
abbrev yq:=@List.mem_cons
abbrev zX:=@List.mem_of_getElem?
abbrev zi:=@Go.World.putObj_heap_other
abbrev zAY:=@Go.wpIn_mono
abbrev zA9:=@Go.RowKit.Below.block
end Go.Proofs.YtgkhhfnhacibcaaGreatDoor
namespace Go.Proofs.YtgkhhfnhacibcaaGreatDoor
open Go.RowKit
structure AQ (S:Nat -> Prop) (w w':World):Prop where
 os:w'.os=w.os
 tape:w'.tape=w.tape
 output:w'.output=w.output
 size:w.heap.size<=w'.heap.size
 block: ∀ k,k<w.heap.size -> ¬ S k -> w'.heap[k]? =w.heap[k]?
theorem AQ.refl (S:Nat -> Prop) (w:World):AQ S w w:=⟨rfl,rfl,rfl,ym _,fun _ _ _=>rfl⟩
theorem AQ.comp {S S':Nat -> Prop} {a b c:World} (h:AQ S a b) (k:AQ S' b c) (hs: ∀ i,i<a.heap.size -> S' i -> S i):AQ S a c:=
 ⟨k.os.trans h.os,k.tape.trans h.tape,k.output.trans h.output,yf h.size k.size,
  fun i hi hn=>(k.block i (yc hi h.size) (fun hx=>hn (hs i hi hx))).trans (h.block i hi hn)⟩
theorem AQ.trans {S:Nat -> Prop} {a b c:World} (h:AQ S a b) (k:AQ S b c):AQ S a c:=h.comp k fun _ _ h=>h
theorem AQ.mono {S S':Nat -> Prop} {a b:World} (h:AQ S a b) (hs: ∀ i,i<a.heap.size -> S i -> S' i):AQ S' a b:=
 ⟨h.os,h.tape,h.output,h.size,fun i hi hn=>h.block i hi fun hx=>hn (hs i hi hx)⟩
theorem AQ.ofExt {S:Nat -> Prop} {a b:World} (h:Au a b):AQ S a b:=⟨Below.os h,Below.tape h,Below.output h,Below.size h,fun i hi _=>zA9 h i hi⟩
theorem AQ.toExt {S:Nat -> Prop} {a b:World} (h:AQ S a b) (hs: ∀ i,i<a.heap.size -> ¬ S i):Au a b:=⟨h.os,h.tape,h.output,h.size,fun i hi=>h.block i hi (hs i hi)⟩
theorem AQ.alloc {S:Nat -> Prop} {a b:World} (h:AQ S a b) (o:Obj):AQ S a (b.alloc o):=h.trans (AQ.ofExt (Au.alloc b o))
theorem AQ.setCell {S:Nat -> Prop} {a b:World} (h:AQ S a b) {p:Addr} (hp:p.block<a.heap.size -> S p.block) (u:Value):AQ S a (b.setCell p u):=by
 refine h.comp (S':=fun k=>k=p.block) ⟨rfl,rfl,rfl,?_,fun k _ hk=>?_⟩ (fun i hi e=>by cases e;exact hp hi)
 ·show b.heap.size<=(b.heap.modify _ _).size
  rw [Array.size_modify];exact ym _
 ·exact Below.heap_setCell b p u k hk
theorem AQ.putObj {S:Nat -> Prop} {a b:World} (h:AQ S a b) {l:Nat} (hl:l<a.heap.size -> S l) (o:Obj):AQ S a (b.putObj l o):=by
 refine h.comp (S':=fun k=>k=l) ⟨rfl,rfl,rfl,by simp,fun k _ hk=>zi hk⟩ (fun i hi e=>by cases e;exact hl hi)
theorem AQ.cell {S:Nat -> Prop} {a b:World} (h:AQ S a b) {p:Addr} {u:Value} (hs: ¬ S p.block) (hc:a.cell? p=some u):b.cell? p=some u:=by
 rw [World.cell?_of_block (h.block p.block (zu a p hc) hs)];exact hc
def Eo (I:(Nat -> Prop) -> World -> Prop):Prop:=
 ∀ (G G':Nat -> Prop) (A B:World),I G A -> AQ G A B -> (∀ k,G' k -> G k∨A.heap.size<=k) -> (∀ k,G' k -> k<B.heap.size) -> I G' B
def SK (Keep:Nat -> Prop) (I:World -> Prop) (Ix:Code -> World -> Prop) (W:World):Exit -> Act -> World -> Prop
 | .normal,_,W'=>AQ (fun k=>¬ Keep k) W W'/\ I W'
 | .ret,_,W'=>AQ (fun k=>¬ Keep k) W W'/\ Ix .ret W'
 | .exit id,_,W'=>AQ (fun k=>¬ Keep k) W W'/\ Ix (.exit id) W'
 | .goto t,_,W'=>AQ (fun k=>¬ Keep k) W W'/\ Ix (.goto t) W'
 | .panic _,_,_=>False
 | .outgrown,_,_=>False
def IT (P:Program) (g:Nat) (lb:Array Value) (encs:List (Array Value)) (G0 Rd:Nat -> Prop) (w:World):Prop:=
 ∀ (l:Nat) (J:Nat -> (Nat -> Prop) -> World -> Prop) (Jx:(Nat -> Prop) -> World -> Prop) (G:Nat -> Prop) (W:World),
  (∀ i,Eo (J i)) -> Eo Jx -> AQ (fun k=>¬ (G0 k∨Rd k)) w W -> (∀ k,G0 k -> G k) -> (∀ k,G k -> k<W.heap.size) ->
  (∀ i args G W1,encs[i]? =some args -> J i G W1 -> YieldAt Fence.wide 0 P l args W1 fun e W'=>
   AQ (fun k=>¬ (G k∨Rd k)) W1 W'/\ ((e= .returned (.bool true)/\ J (i+1) G W')∨(e= .returned (.bool false)/\ Jx G W'))) ->
  J 0 G W ->
  CallsIn Fence.wide 0 P g (#[.func (.yield l) #[] #[]]++lb) W fun e W'=>(∃ v,e= .returned v)/\ ((∃ G',J encs.length G' W')∨(∃ G',Jx G' W'))
section
variable {P:Program}
theorem be {ps:Array Tmp} {assign body:Code} {a:Act} {gf:Nat} {lb:Array Value} {encs:List (Array Value)} {G0 Rd:Nat -> Prop} {w0 W1:World} {l D dd:Nat} {fn:FuncId} {loose:Bool}
 (hseq:IT P gf lb encs G0 Rd w0) (X4:AQ (fun k=>¬ (G0 k∨Rd k)) w0 W1) (I9: ∀ k,G0 k -> k<l/\ k≠D) (I7: ∀ k,Rd k -> k≠l) (Du: ∀ x∈encs,x.size=ps.size)
 (CS:LoopState -> Option Code -> Loop) (E5: ∀ st pe,CS st pe= { state:=st,pending:=pe,fn,tmps:=a.tmps,params:=ps,assign,body,defers:=dd })
 (E6:W1.heap[l]? =some (.loop (CS .ready none))) (vC:loose=false -> W1.heap[D]? =some (.deferred (some []))) (eT:D≠l)
 (I:Nat -> (Nat -> Prop) -> World -> Prop) (Ix:Code -> (Nat -> Prop) -> World -> Prop) (hI: ∀ i,Eo (I i)) (I8: ∀ c,Eo (Ix c)) (own:Nat -> Prop) (N7: ∀ k,own k -> k=l∨(loose=false/\ k=D)) (Mb:own l) (Ts:loose=false -> own D)
 (h0:I 0 (fun k=>G0 k∨own k) W1)
 (DU: ∀ (G:Nat -> Prop) (i:Nat) (x:Array Value) (W:World),encs[i]? =some x -> I i G W -> (∃ r,W.heap[l]? =some (.loop r)) -> G l ->
  assign.wpIn (Fence.wide.inRound l) 0 P (Exit.then (fun a₁ W₁=>∃ K:(Nat -> Prop) -> World -> Prop,Eo K/\ AQ (fun k=>¬ (G k∨Rd k)) W W₁/\ K G W₁/\ ∀ W₂,K G W₂ -> (∃ r,W₂.heap[l]? =some (.loop r)) ->
   body.wpIn (Fence.wide.inRound l) 0 P (SK (fun k=>G k∨Rd k) (I (i+1) G) (fun c=>Ix c G) W₂) a₁ W₂) (fun _ _ _=>False)) { tmps:=(ps.zip x).foldl (fun t (p,v)=>t.setIfInBounds p v) a.tmps,defers:=[] } W):
 CallsIn Fence.wide 0 P gf (#[.func (.yield l) #[] #[]]++lb) W1 fun e W2=>(∃ v,e= .returned v)/\
  ((∃ G,I encs.length G W2/\ (∀ k,G k -> k<W2.heap.size)/\ G l/\ (loose=false -> G D)/\ W2.heap[l]? =some (.loop (CS .ready none))/\ (loose=false -> W2.heap[D]? =some (.deferred (some []))))∨
   (∃ c G,Ix c G W2/\ (∀ k,G k -> k<W2.heap.size)/\ G l/\ (loose=false -> G D)/\ W2.heap[l]? =some (.loop (CS .done (some c)))/\ (loose=false -> W2.heap[D]? =some (.deferred (some []))))):=by
 have nG: ∀ (G G':Nat -> Prop) (A:World) (k:Nat) (o:Obj),¬ G k -> A.heap[k]? =some o -> (∀ k,G' k -> G k∨A.heap.size<=k) -> ¬ G' k:=fun G G' A k o hn hk hg hx=>by
  have AU:=(yR.1 hk).1;rcases hg k hx with h | h
  ·exact hn h
  ·omega
 have kept: ∀ (G:Nat -> Prop) (A B:World) (k:Nat) (o:Obj),¬ G k -> A.heap[k]? =some o -> AQ G A B -> B.heap[k]? =some o:=fun G A B k o hn hk hu=>
  (hu.block k (yR.1 hk).1 hn).trans hk
 have Ck: ∀ (Φ:(Nat -> Prop) -> World -> Prop) (r:Loop),Eo Φ -> Eo (fun G W=>Φ (fun k=>G k∨own k) W/\ ¬ G l/\ (loose=false -> ¬ G D)/\ W.heap[l]? =some (.loop r)/\ (loose=false -> W.heap[D]? =some (.deferred (some [])))/\ ∀ k,G k -> k<W.heap.size):=by
  intro Φ r hΦ G G' A B ⟨h1,h2,h3,h4,h5,h6⟩ hu hg ER;refine ⟨hΦ _ _ A B h1 (hu.mono fun i _ h=>.inl h) (fun k hk=>?_) (fun k hk=>hk.elim (ER k) fun ho=>yc ((N7 k ho).elim (fun e=>e▸(yR.1 h4).1) (fun e=>e.2▸(yR.1 (h5 e.1)).1)) hu.size),nG G G' A l _ h2 h4 hg,fun hl=>nG G G' A D _ (h3 hl) (h5 hl) hg,kept G A B l _ h2 h4 hu,fun hl=>kept G A B D _ (h3 hl) (h5 hl) hu,ER⟩;rcases hk with hk | hk
  ·exact (hg k hk).imp .inl id
  ·exact .inl (.inr hk)
 refine (hseq l
  (fun i G W=>I i (fun k=>G k∨own k) W/\ ¬ G l/\ (loose=false -> ¬ G D)/\ W.heap[l]? =some (.loop (CS .ready none))/\ (loose=false -> W.heap[D]? =some (.deferred (some [])))/\ ∀ k,G k -> k<W.heap.size)
  (fun G W=>∃ c,Ix c (fun k=>G k∨own k) W/\ ¬ G l/\ (loose=false -> ¬ G D)/\ W.heap[l]? =some (.loop (CS .done (some c)))/\ (loose=false -> W.heap[D]? =some (.deferred (some [])))/\ ∀ k,G k -> k<W.heap.size)
  G0 W1 (fun i=>Ck (I i) _ (hI i)) (fun G G' A B ⟨c,h⟩ hu hg ER=>⟨c,Ck (Ix c) _ (I8 c) G G' A B h hu hg ER⟩) X4 (fun _ h=>h) (fun k h=>Nat.lt_trans (I9 k h).1 (yR.1 E6).1) ?_
  ⟨h0,fun h=>by have:=(I9 l h).1;omega,fun _ h=>(I9 D h).2 rfl,E6,vC,fun k h=>Nat.lt_trans (I9 k h).1 (yR.1 E6).1⟩).mono ?_
 ·rintro i x G W hx ⟨hi,Fj,BA,hl,hd,ER⟩;have Th:x∈encs:=zX hx;have AU:l<W.heap.size:=(yR.1 hl).1;have C0: ∀ k,(G k∨own k) -> k<W.heap.size:=fun k hk=>hk.elim (ER k) fun ho=>(N7 k ho).elim (fun e=>e▸AU) (fun e=>e.2▸(yR.1 (hd e.1)).1)
  have hy:=run_yield (P:=P) (args:=x) hl (by rw [E5];exact Du x Th);rw [E5] at hy;refine ⟨fn,_,assign,body,hy,roundIn_of_wpIn trivial (zAY (DU _ i x W hx hi ⟨_,hl⟩ (.inr Mb)) ?_)⟩;rintro e a1 Hd hq;cases e <;> first | exact hq.elim | skip
  obtain ⟨K,hK,Gu,uM,hb⟩:=hq;have Tj:AQ (fun k=>¬ (G k∨Rd k)) W Hd:=Gu.mono fun k _ h hx=>h (hx.imp .inl id)
  have hl:=(Gu.block l AU (fun h=>h (.inl (.inr Mb)))).trans hl;have hd:loose=false -> Hd.heap[D]? =some (.deferred (some [])):=fun h=>(Gu.block D (yR.1 (hd h)).1 (fun hx=>hx (.inl (.inr (Ts h))))).trans (hd h)
  have AU:l<Hd.heap.size:=yc AU Gu.size;have ER: ∀ k,G k -> k<Hd.heap.size:=fun k h=>yc (ER k h) Gu.size
  have C0: ∀ k,(G k∨own k) -> k<Hd.heap.size:=fun k h=>yc (C0 k h) Gu.size
  refine ⟨_,run_beginRound hl (by rw [E5]),?_⟩;have CU:(Hd.putObj l (.loop { CS .ready none with state:=.busy })).heap[l]? =some (.loop { CS .ready none with state:=.busy }):=World.putObj_heap_same AU;have ui:loose=false -> (Hd.putObj l (.loop { CS .ready none with state:=.busy })).heap[D]? =some (.deferred (some [])):=fun h=>(zi eT).trans (hd h)
  have HO:AQ (fun k=>G k∨own k) Hd (Hd.putObj l (.loop { CS .ready none with state:=.busy })):=(AQ.refl _ Hd).putObj (fun _=>.inr Mb) _;refine zAY (hb _ (hK _ _ _ _ uM HO (fun k h=>.inl h) (fun k h=>yc (C0 k h) HO.size)) ⟨_,CU⟩) ?_
  have fin: ∀ (Fg:Option Code) (W3:World),AQ (fun k=>¬ ((G k∨own k)∨Rd k)) (Hd.putObj l (.loop { CS .ready none with state:=.busy })) W3 ->
   (Instr.endRound l Fg).run P W3= .ok (.bool Fg.isNone) (W3.putObj l (.loop (CS (if Fg.isNone then .ready else .done) Fg)))/\
   W3.heap[l]? =some (.loop { CS .ready none with state:=.busy })/\
   (W3.putObj l (.loop (CS (if Fg.isNone then .ready else .done) Fg))).heap[l]? =some (.loop (CS (if Fg.isNone then .ready else .done) Fg))/\
   (loose=false -> (W3.putObj l (.loop (CS (if Fg.isNone then .ready else .done) Fg))).heap[D]? =some (.deferred (some [])))/\
   AQ (fun k=>¬ (G k∨Rd k)) Hd (W3.putObj l (.loop (CS (if Fg.isNone then .ready else .done) Fg)))/\
   AQ (fun k=>G k∨own k) W3 (W3.putObj l (.loop (CS (if Fg.isNone then .ready else .done) Fg))):=fun Fg W3 Dh=>by
   have Mf:W3.heap[l]? =some (.loop { CS .ready none with state:=.busy }):=(Dh.block l (by simpa using AU) (fun h=>h (.inl (.inr Mb)))).trans CU;have:=run_endRound (P:=P) Fg Mf;refine ⟨by rw [E5] at this ⊢;exact this,Mf,World.putObj_heap_same (yR.1 Mf).1,fun h=>(zi eT).trans ((Dh.block D ?_ (fun hx=>hx (.inl (.inr (Ts h))))).trans (ui h)),?_,(AQ.refl _ W3).putObj (fun _=>.inr Mb) _⟩
   ·simpa using (yR.1 (hd h)).1
   ·refine ⟨Dh.os,Dh.tape,Dh.output,by simpa using Dh.size,fun k hk hn=>?_⟩;have fR:G k∨Rd k:=Classical.not_not.1 hn
    by_cases CV:k=l
    ·subst CV;exact (fR.elim Fj (fun h=>I7 k h rfl)).elim
    ·rw [zi CV,Dh.block k (by simpa using hk) (fun hx=>hx (fR.imp .inl id)),zi CV]
  rintro e a3 W3 hp;cases e with
  | normal=>
   obtain ⟨Dh,Mh⟩:=hp;obtain ⟨hr,Mf,Me,Mj,MW,F5⟩:=fin none W3 Dh;exact ⟨_,_,hr,Tj.comp MW (fun _ _ h=>h),.inl ⟨rfl,hI _ _ _ _ _ Mh F5 (fun k h=>.inl h) (fun k h=>yc (C0 k h) (yf HO.size (yf Dh.size F5.size))),Fj,BA,Me,Mj,fun k h=>yc (ER k h) (yf HO.size (yf Dh.size F5.size))⟩⟩
  | ret=>
   obtain ⟨Dh,Mh⟩:=hp;obtain ⟨hr,Mf,Me,Mj,MW,F5⟩:=fin (some .ret) W3 Dh;exact ⟨_,_,hr,Tj.comp MW (fun _ _ h=>h),.inr ⟨rfl,.ret,I8 _ _ _ _ _ Mh F5 (fun k h=>.inl h) (fun k h=>yc (C0 k h) (yf HO.size (yf Dh.size F5.size))),Fj,BA,Me,Mj,fun k h=>yc (ER k h) (yf HO.size (yf Dh.size F5.size))⟩⟩
  | exit id=>
   obtain ⟨Dh,Mh⟩:=hp;obtain ⟨hr,Mf,Me,Mj,MW,F5⟩:=fin (some (.exit id)) W3 Dh;exact ⟨_,_,hr,Tj.comp MW (fun _ _ h=>h),.inr ⟨rfl,.exit id,I8 _ _ _ _ _ Mh F5 (fun k h=>.inl h) (fun k h=>yc (C0 k h) (yf HO.size (yf Dh.size F5.size))),Fj,BA,Me,Mj,fun k h=>yc (ER k h) (yf HO.size (yf Dh.size F5.size))⟩⟩
  | goto t=>
   obtain ⟨Dh,Mh⟩:=hp;obtain ⟨hr,Mf,Me,Mj,MW,F5⟩:=fin (some (.goto t)) W3 Dh;exact ⟨_,_,hr,Tj.comp MW (fun _ _ h=>h),.inr ⟨rfl,.goto t,I8 _ _ _ _ _ Mh F5 (fun k h=>.inl h) (fun k h=>yc (C0 k h) (yf HO.size (yf Dh.size F5.size))),Fj,BA,Me,Mj,fun k h=>yc (ER k h) (yf HO.size (yf Dh.size F5.size))⟩⟩
  | panic ch=>exact hp.elim
  | outgrown=>exact hp.elim
 ·have ob: ∀ (G:Nat -> Prop) (W2:World) (r:Loop),W2.heap[l]? =some (.loop r) -> (loose=false -> W2.heap[D]? =some (.deferred (some []))) -> (∀ k,G k -> k<W2.heap.size) -> ∀ k,(G k∨own k) -> k<W2.heap.size:=fun G W2 r h4 h5 h6 k hk=>
   hk.elim (h6 k) fun ho=>(N7 k ho).elim (fun e=>e▸(yR.1 h4).1) (fun e=>e.2▸(yR.1 (h5 e.1)).1)
  rintro e W2 ⟨hv,(⟨G,h1,h2,h3,h4,h5,h6⟩ | ⟨G,c,h1,h2,h3,h4,h5,h6⟩)⟩
  ·exact ⟨hv,.inl ⟨_,h1,ob _ _ _ h4 h5 h6,.inr Mb,fun h=>.inr (Ts h),h4,h5⟩⟩
  ·exact ⟨hv,.inr ⟨c,_,h1,ob _ _ _ h4 h5 h6,.inr Mb,fun h=>.inr (Ts h),h4,h5⟩⟩
theorem i8 {g:Operand} {ps:Array Tmp} {assign body:Code} {Q:Exit -> Act -> World -> Prop} {a:Act} {w:World}
 {gf:Nat} {lb:Array Value} (hg:a.eval g= .func (.func gf) #[] lb) (eg: ∀ args w,(callFunc gf args).run P w= .ok (.enter gf args) w)
 {encs:List (Array Value)} {G0 Rd:Nat -> Prop} (hseq:IT P gf lb encs G0 Rd w) (I9: ∀ k,G0 k -> k<w.heap.size) (I7: ∀ k,Rd k -> k<w.heap.size) (Du: ∀ x∈encs,x.size=ps.size)
 (I:Nat -> (Nat -> Prop) -> World -> Prop) (Ix:Code -> (Nat -> Prop) -> World -> Prop) (hI: ∀ i,Eo (I i)) (I8: ∀ c,Eo (Ix c)) (h0:I 0 G0 w)
 (DU: ∀ (l:Nat) (G:Nat -> Prop) (i:Nat) (x:Array Value) (W:World),encs[i]? =some x -> I i G W -> (∃ r,W.heap[l]? =some (.loop r)) -> G l ->
  assign.wpIn (Fence.wide.inRound l) 0 P (Exit.then (fun a₁ W₁=>∃ K:(Nat -> Prop) -> World -> Prop,Eo K/\ AQ (fun k=>¬ (G k∨Rd k)) W W₁/\ K G W₁/\ ∀ W₂,K G W₂ -> (∃ r,W₂.heap[l]? =some (.loop r)) ->
   body.wpIn (Fence.wide.inRound l) 0 P (SK (fun k=>G k∨Rd k) (I (i+1) G) (fun c=>Ix c G) W₂) a₁ W₂) (fun _ _ _=>False)) { tmps:=(ps.zip x).foldl (fun t (p,v)=>t.setIfInBounds p v) a.tmps,defers:=[] } W)
 (EB: ∀ (D:Nat) (G:Nat -> Prop) (W:World),I encs.length G W -> W.heap[D]? =some (.deferred (some [])) -> G D -> w.heap.size<=D ->
  Q .normal { a with defers:={ target:=.collected D,args:=#[] }::a.defers } W)
 (Nx: ∀ (D:Nat) (c:Code) (G:Nat -> Prop) (W:World),Ix c G W -> W.heap[D]? =some (.deferred (some [])) -> G D -> w.heap.size<=D ->
  c.wpIn Fence.wide 0 P Q { a with defers:={ target:=.collected D,args:=#[] }::a.defers } W):
 (Code.rangeFunc g ps assign body).wpIn Fence.wide 0 P Q a w:=by
 refine wpIn_rangeFunc ?_;intro fn _;have Ju:(w.alloc (.deferred (some []))).heap.size=w.heap.size+1:=World.size_alloc _ _;obtain ⟨CS,E5⟩: ∃ CS:LoopState -> Option Code -> Loop,∀ st pe,CS st pe= { state:=st,pending:=pe,fn,tmps:=a.tmps,params:=ps,assign,body,defers:=w.heap.size }:=⟨_,fun _ _=>rfl⟩;obtain ⟨W1,LD⟩: ∃ W1,(w.alloc (.deferred (some []))).alloc (.loop (CS .ready none))=W1:=⟨_,rfl⟩
 have J4:W1.heap[w.heap.size+1]? =some (.loop (CS .ready none)):=by
  rw [←LD];have:=World.alloc_heap_new (w.alloc (.deferred (some []))) (.loop (CS .ready none));rwa [World.size_alloc] at this
 have u6:W1.heap[w.heap.size]? =some (.deferred (some [])):=by
  rw [←LD];exact (Below.heap_alloc _ _ _ (by simp)).trans (World.alloc_heap_new w _)
 have hu: ∀ S,AQ S w W1:=fun S=>by rw [←LD];exact ((AQ.refl S w).alloc _).alloc _
 refine ⟨w.heap.size+1,[{ target:=.collected w.heap.size,args:=#[] }],W1,{ target:=.fn (.func gf) lb,args:=#[.func (.yield (w.heap.size+1)) #[] #[]] },W1,gf,
  #[.func (.yield (w.heap.size+1)) #[] #[]]++lb,W1,?_,?_,fun _ _=>trivial,?_,(fun h=>by cases h),?_⟩
 ·rw [←LD,E5];exact run_enterLoop_outer _ _ _ _ _
 ·simp only [resolve,hg];simp [go_sem]
 ·simp [invoke,go_sem,eg]
 ·refine (be (loose:=false) (D:=w.heap.size) hseq (hu _) (fun k h=>by have:=I9 k h;omega) (fun k h=>by have:=I7 k h;omega) Du CS E5 J4 (fun _=>u6) (by omega)
   I Ix hI I8 (fun k=>k=w.heap.size+1∨k=w.heap.size) (fun k h=>h.imp id fun h=>⟨rfl,h⟩) (.inl rfl) (fun _=>.inr rfl)
   (hI 0 _ _ _ _ h0 (hu _) (fun k h=>h.imp id (by omega)) (fun k h=>by have h2:=(yR.1 J4).1;rcases h with h | h | h <;> first | omega | (have:=I9 k h;omega))) (DU _)).mono ?_
  rintro e W2 ⟨⟨v,rfl⟩,(⟨G,hi,ER,_,Xq,hl,hk⟩ | ⟨c,G,hi,ER,DB,Xq,hl,hk⟩)⟩
  ·exact ⟨none,_,by have:=run_endLoop (P:=P) hl (by rw [E5];simp);rw [E5] at this;exact this,
    EB _ _ _ (hI _ _ _ _ _ hi ((AQ.refl _ W2).putObj (fun _=>by assumption) _) (fun k h=>.inl h) (fun k h=>by simpa using ER k h)) ((zi (by omega)).trans (hk rfl)) (Xq rfl) (ym _)⟩
  ·exact ⟨some c,_,by have:=run_endLoop (P:=P) hl (by rw [E5];simp);rw [E5] at this;exact this,
    Nx _ c _ _ (I8 _ _ _ _ _ hi ((AQ.refl _ W2).putObj (fun _=>DB) _) (fun k h=>.inl h) (fun k h=>by simpa using ER k h)) ((zi (by omega)).trans (hk rfl)) (Xq rfl) (ym _)⟩
theorem i9 {l0:Nat} {g:Operand} {ps:Array Tmp} {assign body:Code} {Q:Exit -> Act -> World -> Prop} {a:Act} {w:World}
 {gf:Nat} {lb:Array Value} (hg:a.eval g= .func (.func gf) #[] lb) (eg: ∀ args w,(callFunc gf args).run P w= .ok (.enter gf args) w) (Xj: ∃ r,w.heap[l0]? =some (.loop r))
 {encs:List (Array Value)} {G0 Rd:Nat -> Prop} (hseq:IT P gf lb encs G0 Rd w) (I9: ∀ k,G0 k -> k<w.heap.size) (I7: ∀ k,Rd k -> k<w.heap.size) (Du: ∀ x∈encs,x.size=ps.size)
 (I:Nat -> (Nat -> Prop) -> World -> Prop) (Ix:Code -> (Nat -> Prop) -> World -> Prop) (hI: ∀ i,Eo (I i)) (I8: ∀ c,Eo (Ix c)) (h0:I 0 G0 w)
 (DU: ∀ (l:Nat) (G:Nat -> Prop) (i:Nat) (x:Array Value) (W:World),encs[i]? =some x -> I i G W -> (∃ r,W.heap[l]? =some (.loop r)) -> G l ->
  assign.wpIn (Fence.wide.inRound l) 0 P (Exit.then (fun a₁ W₁=>∃ K:(Nat -> Prop) -> World -> Prop,Eo K/\ AQ (fun k=>¬ (G k∨Rd k)) W W₁/\ K G W₁/\ ∀ W₂,K G W₂ -> (∃ r,W₂.heap[l]? =some (.loop r)) ->
   body.wpIn (Fence.wide.inRound l) 0 P (SK (fun k=>G k∨Rd k) (I (i+1) G) (fun c=>Ix c G) W₂) a₁ W₂) (fun _ _ _=>False)) { tmps:=(ps.zip x).foldl (fun t (p,v)=>t.setIfInBounds p v) a.tmps,defers:=[] } W)
 (EB: ∀ (G:Nat -> Prop) (W:World),I encs.length G W -> Q .normal a W)
 (Nx: ∀ (c:Code) (G:Nat -> Prop) (W:World),Ix c G W -> c.wpIn (Fence.wide.inRound l0) 0 P Q a W):
 (Code.rangeFunc g ps assign body).wpIn (Fence.wide.inRound l0) 0 P Q a w:=by
 refine wpIn_rangeFunc ?_;intro fn _;obtain ⟨r0,Dg⟩:=Xj;obtain ⟨CS,E5⟩: ∃ CS:LoopState -> Option Code -> Loop,∀ st pe,CS st pe= { state:=st,pending:=pe,fn,tmps:=a.tmps,params:=ps,assign,body,defers:=r0.defers }:=⟨_,fun _ _=>rfl⟩;obtain ⟨W1,LD⟩: ∃ W1,w.alloc (.loop (CS .ready none))=W1:=⟨_,rfl⟩
 have J4:W1.heap[w.heap.size]? =some (.loop (CS .ready none)):=by
  rw [←LD];exact World.alloc_heap_new w _
 have hu: ∀ S,AQ S w W1:=fun S=>by rw [←LD];exact (AQ.refl S w).alloc _
 refine ⟨w.heap.size,[],W1,{ target:=.fn (.func gf) lb,args:=#[.func (.yield w.heap.size) #[] #[]] },W1,gf,
  #[.func (.yield w.heap.size) #[] #[]]++lb,W1,?_,?_,fun _ _=>trivial,?_,(fun h=>by cases h),?_⟩
 ·rw [←LD,E5];exact run_enterLoop_inner Dg _ _ _ _ _
 ·simp only [resolve,hg];simp [go_sem]
 ·simp [invoke,go_sem,eg]
 ·refine CallsIn.inRound _ ((be (loose:=true) (D:=w.heap.size+1) (G0:=G0) hseq (hu _) (fun k h=>by have:=I9 k h;omega) (fun k h=>by have:=I7 k h;omega) Du CS E5 J4 (fun h=>by cases h) (by omega)
   I Ix hI I8 (fun k=>k=w.heap.size) (fun k h=>.inl h) rfl (fun h=>by cases h)
   (hI 0 _ _ _ _ h0 (hu _) (fun k h=>h.imp id (by omega)) (fun k h=>by have h2:=(yR.1 J4).1;rcases h with h | h <;> first | omega | (have:=I9 k h;omega))) (DU _)).mono ?_)
  rintro e W2 ⟨⟨v,rfl⟩,(⟨G,hi,ER,DB,_,hl,_⟩ | ⟨c,G,hi,ER,DB,_,hl,_⟩)⟩
  ·exact ⟨none,_,by have:=run_endLoop (P:=P) hl (by rw [E5];simp);rw [E5] at this;exact this,
    EB _ _ (hI _ _ _ _ _ hi ((AQ.refl _ W2).putObj (fun _=>DB) _) (fun k h=>.inl h) (fun k h=>by simpa using ER k h))⟩
  ·exact ⟨some c,_,by have:=run_endLoop (P:=P) hl (by rw [E5];simp);rw [E5] at this;exact this,
    Nx c _ _ (I8 _ _ _ _ _ hi ((AQ.refl _ W2).putObj (fun _=>DB) _) (fun k h=>.inl h) (fun k h=>by simpa using ER k h))⟩
end
def EG (B:Nat):List Deferred -> World -> Prop
 | [],_=>True
 | d::ds,w=>∃ D,d= { target:=.collected D,args:=#[] }/\ B<=D/\ w.heap[D]? =some (.deferred (some []))/\ (∀ d'∈ds,d'.target≠.collected D)/\ EG B ds w
theorem EG.upd {B:Nat} {S:Nat -> Prop} {w w':World} (hu:AQ S w w'): ∀ {ds:List Deferred},EG B ds w -> (∀ k,B<=k -> S k -> w.heap[k]? ≠some (.deferred (some []))) -> EG B ds w'
 | [],_,_=>trivial
 | _::_,⟨D,h1,h2,h3,h4,h5⟩,hs=>⟨D,h1,h2,(hu.block D (yR.1 h3).1 (fun hx=>hs D h2 hx h3)).trans h3,h4,EG.upd hu h5 hs⟩
theorem EG.lt {B:Nat} {w:World}: ∀ {ds:List Deferred} (_:EG B ds w) {d:Deferred} {D:Nat},d∈ds -> d.target= .collected D -> D<w.heap.size
 | _::_,⟨D,h1,h2,h3,h4,h5⟩,d,D',hm,ht=>by
  rcases yq.1 hm with rfl | hm
  ·subst h1;cases ht;exact (yR.1 h3).1
  ·exact EG.lt h5 hm ht
def RT (B:Nat) (w W:World):Prop:=AQ (fun k=>B<=k/\ w.heap[k]? =some (.deferred (some []))) w W
def oE (B:Nat) (P:Program) (fn:Func) (R:Ending -> World -> Prop):Exit -> Act -> World -> Prop
 | .normal,a,w | .ret,a,w=>EG B a.defers w/\ ∀ W,RT B w W -> ∃ v,(results fn a.tmps).run P W= .ok v W/\ R (.returned v) W
 | _,_,_=>False
theorem dL {B:Nat} {P:Program} {fn:Func} {tmps:Array Value} {R:Ending -> World -> Prop}: ∀ (ds:List Deferred) (w:World),EG B ds w ->
 (∀ W,RT B w W -> ∃ v,(results fn tmps).run P W= .ok v W/\ R (.returned v) W) -> LeavesInM Fence.wide 0 P fn tmps R ds .returning w
 | [],w,_,h=>h w (AQ.refl _ w)
 | _::ds,w,⟨D,h1,h2,h3,h4,h5⟩,h=>by
  refine ⟨by simp,.inl ⟨D,_,by rw [h1],run_takeDeferred h3,?_⟩⟩;have hu:AQ (fun k=>k=D) w (w.putObj D (.deferred none)):=(AQ.refl (fun k=>k=D) w).putObj (fun _=>rfl) _
  have Ap: ∀ {ds:List Deferred},(∀ d'∈ds,d'.target≠.collected D) -> EG B ds w -> EG B ds (w.putObj D (.deferred none)):=by
   intro ds
   induction ds with
   | nil=>intro _ _;trivial
   | cons d ds ih=>
    intro hd ⟨D',g1,g2,g3,g4,g5⟩;refine ⟨D',g1,g2,?_,g4,ih (fun d' hm=>hd d' (by simp [hm])) g5⟩;rw [zi (fun e=>hd d (by simp) (by rw [g1,e]))];exact g3
  refine dL ds _ (Ap h4 h5) fun W hW=>h W ?_
  refine hu.mono (S':=fun k=>B<=k/\ w.heap[k]? =some (.deferred (some []))) (fun i _ e=>by cases e;exact ⟨h2,h3⟩) |>.comp hW fun i hi hx=>⟨hx.1,?_⟩
  by_cases e:i=D
  ·rw [e];exact h3
  ·rw [←zi (o:=.deferred none) e];exact hx.2
theorem xH (B:Nat) {P:Program} {f:FuncId} {fn:Func} {c:Code} {args:Array Value} {w:World} {R:Ending -> World -> Prop}
 (hf:P.funcs[f]? =some fn) (hb:fn.body=some c)
 (h:c.wp P (oE B P fn R) { tmps:=args++Array.replicate (fn.ntmps-args.size) undef,defers:=[] } w):Calls P f args w R:=by
 refine (callsIn_wide (n:=0)).1 (callsIn_of_wp_marks hf hb trivial ?_);refine zAY (wpIn_wide.2 h) fun e a' w' hq=>?_
 cases e <;> first | exact dL _ _ hq.1 hq.2 | exact hq.elim
end Go.Proofs.YtgkhhfnhacibcaaGreatDoor
namespace Go.Proofs.YtgkhhfnhacibcaaGreatDoor
abbrev u8:=@List.getD_eq_getElem?_getD
abbrev yZ:=@List.getElem?_eq_some_iff
abbrev yn:=@Array.getD_eq_getD_getElem?
abbrev yu:=@List.length_set
abbrev yy:=@List.getElem?_append_left
abbrev zC:=@List.getElem?_append_right
abbrev zG:=@List.getElem?_set
abbrev zK:=@Array.getElem?_setIfInBounds
abbrev zb:=@List.getElem?_eq_none
end Go.Proofs.YtgkhhfnhacibcaaGreatDoor
namespace Go.Proofs.YtgkhhfnhacibcaaGreatDoor
open Go.RowKit
inductive DV where
 | any
 | nils
 | int (k:IntKind) (n:Int)
 | bool (b:Bool)
 | str (s:ByteArray)
 | ints (l:List Int)
 | bools (l:List Bool)
 | sl (m n:Nat) (f:Nat -> Nat -> DV)
 | fp (m:Nat) (f:Nat -> DV)
 | agg (m:Nat) (f:Nat -> DV)
 | tup (m:Nat) (f:Nat -> DV)
 | ref (k j:Nat)
 | msl (k m off n:Nat)
 | mp (k m i j:Nat)
 | fn (g:Nat) (m:Nat) (c:Nat -> DV)
 | it (k:Nat)
 | yl (l:Nat)
 | mse (k m off n:Nat)
 | mri (k i:Nat)
 | cst (u:Value)
structure AN where
 blk:Nat
 off:Nat
 room:Nat
 val:Value
 foot:Nat -> Prop
def GH (m:Nat) (f:Nat -> DV):Nat -> DV:=fun j=>((List.range m).map f).getD j .any
theorem Rr {m:Nat} {f:Nat -> DV} {j:Nat} (h:j<m):GH m f j=f j:=by simp [GH,h]
def LB:Nat:=140737488355328
def AO (M:Nat -> Prop) (w:World):DV -> List AN -> Value -> Prop
 | .any,_,_=>True
 | .nils,_,v=>v= .slice none 0 0
 | .int k n,_,v=>v= .int k n
 | .bool b,_,v=>v= .bool b
 | .str s,_,v=>v= .string s
 | .ints l,_,v=>∃ (a:Option Addr) (cap:Nat),v= .slice a l.length cap/\ l.length<=cap/\ l.length<=LB/\
  ∀ j,j<l.length -> ∃ b o,a=some ⟨b,o,none⟩/\ ¬ M b/\ w.cell? ⟨b,o+j,none⟩=some (.int .i64 (l.getD j 0))
 | .bools l,_,v=>∃ (a:Option Addr) (cap:Nat),v= .slice a l.length cap/\ l.length<=cap/\ l.length<=LB/\
  ∀ j,j<l.length -> ∃ b o,a=some ⟨b,o,none⟩/\ ¬ M b/\ w.cell? ⟨b,o+j,none⟩=some (.bool (l.getD j false))
 | .sl m n f,_,v=>∃ (a:Option Addr) (cap:Nat),v= .slice a n cap/\ n<=cap/\ n<=LB/\
  ∀ i j,i<n -> j<m -> ∃ b o u,a=some ⟨b,o,none⟩/\ ¬ M b/\ w.cell? ⟨b,o+(i*m+j),none⟩=some u/\ AO M w (f i j) [] u
 | .fp m f,_,v=>∃ b o,v= .pointer (some ⟨b,o,none⟩)/\ ∀ j,j<m -> ¬ M b/\ ∃ u,w.cell? ⟨b,o+j,none⟩=some u/\ AO M w (f j) [] u
 | .agg m f,ρ,v=>∃ cs,v= .agg cs/\ cs.size=m/\ ∀ j,j<m -> ∃ u,cs[j]? =some u/\ AO M w (f j) ρ u
 | .tup m f,ρ,v=>∃ cs,v= .tuple cs/\ cs.size=m/\ ∀ j,j<m -> ∃ u,cs[j]? =some u/\ AO M w (f j) ρ u
 | .ref k j,ρ,v=>∃ p:AN,ρ[k]? =some p/\ v= .pointer (some ⟨p.blk,p.off+j,none⟩)
 | .msl k m off n,ρ,v=>∃ (p:AN) (cap:Nat),ρ[k]? =some p/\ v= .slice (some ⟨p.blk,p.off+off*m,none⟩) n cap/\ n<=cap/\ n<=LB/\ p.off+off*m+cap*m<=p.room
 | .mp k m i j,ρ,v=>∃ p:AN,ρ[k]? =some p/\ v= .pointer (some ⟨p.blk,p.off+(i*m+j),none⟩)
 | .fn g m c,ρ,v=>∃ lb,v= .func (.func g) #[] lb/\ lb.size=m/\ ∀ j,j<m -> ∃ u,lb[j]? =some u/\ AO M w (c j) ρ u
 | .it k,ρ,v=>∃ p:AN,ρ[k]? =some p/\ v=p.val
 | .yl l,_,v=>v= .func (.yield l) #[] #[]
 | .cst u,_,v=>v=u/\ u.oneCell'=true
 | .mri k i,ρ,v=>∃ (p:AN) (vs:Array Value),ρ[k]? =some p/\ p.val= .tuple vs/\ vs[i]? =some v
 | .mse k m off n,ρ,v=>∃ (p:AN) (a:Option Addr) (cap:Nat),ρ[k]? =some p/\ v= .slice a n cap/\ n<=cap/\ n<=LB/\ (0<cap -> a=some ⟨p.blk,p.off+off*m,none⟩/\ p.off+off*m+cap*m<=p.room)
theorem KW {M:Nat -> Prop} {w:World} {ρ:List AN} {m:Nat} {f:Nat -> DV} {j:Nat} {v:Value} (h:j<m) (hr:AO M w (f j) ρ v):AO M w (GH m f j) ρ v:=by rw [Rr h];exact hr
def Ak (w:World) (p:AN) (n:Nat) (R:Nat -> Value -> Prop):Prop:=
 p.foot=(fun b=>b=p.blk)/\ ∃ cs t,w.heap[p.blk]? =some (.cells cs t (0,0))/\ p.off+n<=cs.size/\ p.room<=cs.size/\ ∀ j,j<n -> ∃ u,cs[p.off+j]? =some u/\ R j u
/-! ### Rows that an object owns-/
def G4 (w:World) (F:Nat -> Prop) (u:Value) (L:List Int):Prop:=
 (L= []/\ u= .slice none 0 0)∨∃ (q:AN) (cap:Nat),u= .slice (some ⟨q.blk,q.off,none⟩) L.length cap/\ L.length<=cap/\ q.off+cap<=q.room/\ L.length<=LB/\ F q.blk/\ Ak w q L.length fun j x=>x= .int .i64 (L.getD j 0)
def Cw:Value -> Option Nat
 | .slice (some a) _ _=>some a.block
 | _=>none
theorem G4.blk {w:World} {F:Nat -> Prop} {u:Value} {L:List Int} {b:Nat} (h:G4 w F u L) (hb:Cw u=some b):F b/\ b<w.heap.size:=by
 rcases h with ⟨_,rfl⟩ | ⟨q,cap,rfl,_,_,_,h5,_,cs,t,h6,_⟩
 ·cases hb
 ·cases hb;exact ⟨h5,(yR.1 h6).1⟩
theorem G4.out {w w':World} {F F':Nat -> Prop} {u:Value} {L:List Int} (h:G4 w F u L) (hb: ∀ b,F b -> Cw u=some b -> b<w.heap.size -> w'.heap[b]? =w.heap[b]?) (hF: ∀ b,F b -> Cw u=some b -> F' b):G4 w' F' u L:=by
 rcases h with h | ⟨q,cap,h1,h2,h3,h4,h5,h6⟩
 ·exact .inl h
 ·refine .inr ⟨q,cap,h1,h2,h3,h4,hF _ h5 (by rw [h1];rfl),?_⟩;obtain ⟨g1,cs,t,g2,g3⟩:=h6;exact ⟨g1,cs,t,(hb _ h5 (by rw [h1];rfl) (yR.1 g2).1).trans g2,g3⟩
structure EF (w:World) (p:AN) (f:Int -> List Int) (Br:Option (Int×List Int×Bool)) (u:Value) (es:Array MapEntry) (AZ:Nat):Prop where
 val:p.val= .tuple #[Value.map (some p.blk),u]
 blk:w.heap[p.blk]? =some (.map es AZ)
 own:p.foot p.blk
 key: ∀ e∈es.toList,∃ k,e.key= .int .i64 k/\ ((∀ L,Br≠some (k,L,true)) -> G4 w (fun b=>p.foot b/\ b≠p.blk) e.val (f k))
 no: ∀ k,(∀ e∈es.toList,e.key≠.int .i64 k) -> f k= []
 nd:(es.toList.map (·.key)).Nodup
 apart: ∀ e∈es.toList,∀ e'∈es.toList,∀ b,Cw e.val=some b -> Cw e'.val=some b -> e.key=e'.key
 born: ∀ e∈es.toList,e.born<AZ
 stamps:(es.toList.map (·.born)).Nodup
 inHand: ∀ k L g,Br=some (k,L,g) -> G4 w (fun b=>p.foot b/\ b≠p.blk) u L/\ ∀ e∈es.toList,∀ b,Cw u=some b -> Cw e.val=some b -> e.key= .int .i64 k
theorem EF.out {w w':World} {p:AN} {f:Int -> List Int} {Br:Option (Int×List Int×Bool)} {u:Value} {es:Array MapEntry} {AZ:Nat} (h:EF w p f Br u es AZ) (hb: ∀ b,p.foot b -> b<w.heap.size -> w'.heap[b]? =w.heap[b]?):EF w' p f Br u es AZ:=
 { h with
  blk:=(hb _ h.own (yR.1 h.blk).1).trans h.blk
  key:=fun e he=>let ⟨k,h1,h2⟩:=h.key e he;⟨k,h1,fun hh=>(h2 hh).out (fun b hf _ hl=>hb b hf.1 hl) fun _ h _=>h⟩
  inHand:=fun k L g e=>let ⟨h1,h2⟩:=h.inHand k L g e;⟨h1.out (fun b hf _ hl=>hb b hf.1 hl) fun _ h _=>h,h2⟩ }
/-! ### Maps:sets of keys-/
abbrev KS:=List (List Int)
def BL:List Int -> Value
 | [a]=>.int .i64 a
 | l=>.agg (l.map fun a=>.int .i64 a).toArray
theorem dY: ∀ {a b:List Int},BL a=BL b -> a=b:=by
 have ai: ∀ {l m:List Int},(l.map fun a=>Value.int .i64 a).toArray=(m.map fun a=>Value.int .i64 a).toArray -> l=m:=fun {l m} h=>by
  have h:=Array.toList_inj.2 h;simp only at h;exact List.map_inj_right (fun x y e=>by cases e;rfl) |>.1 h
 intro a b h
 match a,b with
 | [x],[y]=>cases h;rfl
 | [],[]=>rfl
 | [x],[]=>cases h
 | [],[y]=>cases h
 | [x],y::y'::m=>cases h
 | x::x'::l,[y]=>cases h
 | x::x'::l,[]=>exact ai (Value.agg.inj h)
 | [],y::y'::m=>exact ai (Value.agg.inj h)
 | x::x'::l,y::y'::m=>exact ai (Value.agg.inj h)
structure EY (w:World) (b n:Nat) (l:KS) (es:Array MapEntry) (AZ:Nat):Prop where
 blk:w.heap[b]? =some (.map es AZ)
 keys:(es.toList.map (·.key)).Perm (l.map BL)
 nd:l.Nodup
 len: ∀ y∈l,y.length=n
 tru: ∀ e∈es.toList,e.val= .bool true
 born: ∀ e∈es.toList,e.born<AZ
 stamps:(es.toList.map (·.born)).Nodup
theorem EY.out {w w':World} {b n:Nat} {l:KS} {es:Array MapEntry} {AZ:Nat} (h:EY w b n l es AZ) (hb:w'.heap[b]? =w.heap[b]?):EY w' b n l es AZ:={ h with blk:=hb.trans h.blk }
inductive MX where
 | set (n:Nat) (l:KS)
 | sets (n:Nat) (ls:List (Option KS)) (lk:Option (Nat×Nat×Array MapEntry×Nat))
 | mit (n mb:Nat) (es:Array MapEntry) (AZ:Nat) (rem:KS) (EU:Option (List Int))
 | rows (f:Int -> List Int) (Br:Option (Int×List Int×Bool))
 | rws (ls:List (List Int)) (Br:Option (Nat×List Int))
structure JG (w:World) (p:AN) (ls:List (List Int)) (Br:Option (Nat×List Int)) (vs:Array Value):Prop where
 val:p.val= .tuple vs
 size:vs.size=ls.length+1
 row: ∃ cs t,w.heap[p.blk]? =some (.cells cs t (0,0))/\ p.off+ls.length<=cs.size/\ p.room<=cs.size/\ ∀ j,j<ls.length -> cs[p.off+j]? =vs[j+1]?
 blk:p.foot p.blk
 has: ∀ j,j<ls.length -> (∀ L,Br≠some (j,L)) -> G4 w (fun b=>p.foot b/\ b≠p.blk) (vs.getD (j+1) undef) (ls.getD j default)
 apart: ∀ (i j b:Nat),i<ls.length -> j<ls.length -> (∀ L,Br≠some (i,L)) -> (∀ L,Br≠some (j,L)) -> Cw (vs.getD (i+1) undef)=some b -> Cw (vs.getD (j+1) undef)=some b -> i=j
 inHand: ∀ k L,Br=some (k,L) -> G4 w (fun b=>p.foot b/\ b≠p.blk) (vs.getD 0 undef) L/\ ∀ (j b:Nat),j<ls.length -> Cw (vs.getD 0 undef)=some b -> Cw (vs.getD (j+1) undef)=some b -> j=k
theorem JG.out {w w':World} {p:AN} {ls:List (List Int)} {Br:Option (Nat×List Int)} {vs:Array Value} (h:JG w p ls Br vs) (hb: ∀ b,p.foot b -> b<w.heap.size -> w'.heap[b]? =w.heap[b]?):JG w' p ls Br vs:=
 { h with
  row:=let ⟨cs,t,h1,h2⟩:=h.row;⟨cs,t,(hb _ h.blk (yR.1 h1).1).trans h1,h2⟩
  has:=fun j hj hh=>(h.has j hj hh).out (fun b hf _ hl=>hb b hf.1 hl) fun _ h _=>h
  inHand:=fun k L e=>let ⟨h1,h2⟩:=h.inHand k L e;⟨h1.out (fun b hf _ hl=>hb b hf.1 hl) fun _ h _=>h,h2⟩ }
structure Ep (w:World) (p:AN) (n:Nat) (ls:List (Option KS)) (lk:Option (Nat×Nat×Array MapEntry×Nat)) (vs:Array Value):Prop where
 val:p.val= .tuple vs
 size:vs.size=ls.length
 row: ∃ cs t,w.heap[p.blk]? =some (.cells cs t (0,0))/\ p.off+ls.length<=cs.size/\ p.room<=cs.size/\ ∀ j,j<ls.length -> cs[p.off+j]? =vs[j]?
 blk:p.foot p.blk
 has: ∀ (j:Nat) (l:KS),ls[j]? =some (some l) -> ∃ b:Nat,vs[j]? =some (Value.map (some b))/\ b≠p.blk/\ p.foot b/\ ∃ es AZ,EY w b n l es AZ/\ ∀ x,lk=some x -> x.1=j -> x.2=(b,es,AZ)
 nil: ∀ (j:Nat),ls[j]? =some none -> vs[j]? =some (Value.map none)
 foot: ∀ b,p.foot b -> b=p.blk∨∃ (j:Nat) (l:KS),ls[j]? =some (some l)/\ vs[j]? =some (Value.map (some b))
 inj: ∀ (i j b:Nat),vs[i]? =some (Value.map (some b)) -> vs[j]? =some (Value.map (some b)) -> i=j
theorem Ep.out {w w':World} {p:AN} {n:Nat} {ls:List (Option KS)} {lk:Option (Nat×Nat×Array MapEntry×Nat)} {vs:Array Value} (h:Ep w p n ls lk vs) (hb: ∀ b,p.foot b -> b<w.heap.size -> w'.heap[b]? =w.heap[b]?):Ep w' p n ls lk vs:=by
 have Ba: ∀ {b o},p.foot b -> w.heap[b]? =some o -> w'.heap[b]? =some o:=fun {b o} hf ho=>(hb b hf (yR.1 ho).1).trans ho
 refine { h with row:=?_,has:=fun j l hl=>?_ }
 ·obtain ⟨cs,t,h1,h2⟩:=h.row;exact ⟨cs,t,Ba h.blk h1,h2⟩
 ·obtain ⟨b,h1,h2,h3,es,AZ,h4,h5⟩:=h.has j l hl;exact ⟨b,h1,h2,h3,es,AZ,{ h4 with blk:=Ba h3 h4.blk },h5⟩
def LX (w:World) (p:AN):MX -> Prop
 | .set n l=>p.val=Value.map (some p.blk)/\ p.foot=(fun b=>b=p.blk)/\ ∃ es AZ,EY w p.blk n l es AZ
 | .sets n ls lk=>∃ vs,Ep w p n ls lk vs
 | .mit n mb es AZ rem EU=>(∀ x,(x∈rem∨EU=some x) -> x.length=n)/\ p.val= .pointer (some ⟨p.blk,0,none⟩)/\ p.foot=(fun b=>b=p.blk)/\ ∃ seen,w.heap[p.blk]? =some (.mapIter (some mb) AZ seen AZ)/\ ((leftOf es seen).toList.map (·.key)).Perm (rem.map BL)/\
  ∀ x,EU=some x -> ∃ e∈es.toList,e.key=BL x/\ seen.back? =some e.born
 | .rows f Br=>∃ u es AZ,EF w p f Br u es AZ
 | .rws ls Br=>∃ vs,JG w p ls Br vs
theorem LX.out {w w':World} {p:AN}: ∀ {x:MX},LX w p x -> (∀ b,p.foot b -> b<w.heap.size -> w'.heap[b]? =w.heap[b]?) -> LX w' p x
 | .set n l,⟨h1,h2,es,AZ,h3⟩,hb=>⟨h1,h2,es,AZ,h3.out (hb _ (by rw [h2]) (yR.1 h3.blk).1)⟩
 | .sets n ls lk,⟨vs,h⟩,hb=>⟨vs,h.out hb⟩
 | .rows f Br,⟨u,es,AZ,h⟩,hb=>⟨u,es,AZ,h.out hb⟩
 | .rws ls Br,⟨vs,h⟩,hb=>⟨vs,h.out hb⟩
 | .mit n mb es AZ rem EU,⟨h0,h1,h2,seen,h3,h4⟩,hb=>⟨h0,h1,h2,seen,(hb _ (by rw [h2]) (yR.1 h3).1).trans h3,h4⟩
inductive DO where
 | cells (l:List DV)
 | ints (l:List Int)
 | bools (l:List Bool)
 | arr (m n:Nat) (f:Nat -> Nat -> DV)
 | iter (encs:List (Array Value))
 | mo (x:MX)
abbrev DH:=List (Option DO)
def MO (h:DH) (ρ:List AN) (b:Nat):Prop:=∃ (k:Nat) (o:DO) (p:AN),h[k]? =some (some o)/\ ρ[k]? =some p/\ p.foot b
def MS (N:Nat -> Prop) (h:DH) (ρ:List AN) (b:Nat):Prop:=N b∨MO h ρ b
def Db (P:Program) (M:Nat -> Prop) (w:World) (ρ:List AN) (p:AN):DO -> Prop
 | .cells l=>Ak w p l.length fun j u=>AO M w (l.getD j .any) ρ u
 | .ints l=>Ak w p l.length fun j u=>u= .int .i64 (l.getD j 0)
 | .bools l=>Ak w p l.length fun j u=>u= .bool (l.getD j false)
 | .arr m n f=>Ak w p (n*m) fun j u=>AO M w (f (j/m) (j % m)) [] u
 | .iter encs=>∃ gf lb Rd,(p.val= .func (.func gf) #[] lb/\ ∀ args W,(callFunc gf args).run P W= .ok (.enter gf args) W)/\ IT P gf lb encs p.foot Rd w/\ (∀ b,Rd b -> ¬ M b/\ b<w.heap.size)/\ ∀ b,p.foot b -> b<w.heap.size
 | .mo x=>LX w p x
def fE:Obj -> Bool
 | .cells .. =>true
 | .map .. =>true
 | .mapIter .. =>true
 | _=>false
abbrev DD (w:World) (b:Nat):Prop:=∃ (c:Obj) (_:fE c=true) (_:Unit),w.heap[b]? =some c
theorem DD.cells {w:World} {b:Nat} {c:Array Value} {t:TypeId} {z:Nat×Nat} (h:w.heap[b]? =some (.cells c t z)):DD w b:=⟨_,rfl,(),h⟩
structure A9 where
 ng:Nat
 gi:World -> Prop
 st: ∀ w w',gi w -> AQ (fun b=>ng<=b) w w' -> gi w'
 lo: ∀ w,gi w -> ng<=w.heap.size
structure Bb (P:Program) (Γ:A9) (N:Nat -> Prop) (h:DH) (ρ:List AN) (w:World):Prop where
 len:ρ.length=h.length
 obj: ∀ (k:Nat) (o:DO),h[k]? =some (some o) -> ∃ p:AN,ρ[k]? =some p/\ Db P (MS N h ρ) w ρ p o
 cel: ∀ (k:Nat) (o:DO) (p:AN) (b:Nat),h[k]? =some (some o) -> ρ[k]? =some p -> p.foot b -> Γ.ng<=b/\ ¬ N b/\ DD w b
 dis: ∀ (k k':Nat) (o o':DO) (p p':AN) (b:Nat),k≠k' -> h[k]? =some (some o) -> h[k']? =some (some o') -> ρ[k]? =some p -> ρ[k']? =some p' -> p.foot b -> p'.foot b -> False
 nlt: ∀ b,N b -> b<w.heap.size/\ Γ.ng<=b
 gi:Γ.gi w
structure St where
 fr:List DV
 h:DH
def B8 (M:Nat -> Prop) (w:World) (ρ:List AN) (fr:List DV) (t:Array Value):Prop:=
 fr.length=t.size/\ ∀ i,i<fr.length -> AO M w (fr.getD i .any) ρ (t.getD i undef)
structure Ad (P:Program) (Γ:A9) (N:Nat -> Prop) (S:St) (ρ:List AN) (a:Act) (w:World):Prop where
 hr:Bb P Γ N S.h ρ w
 fr:B8 (MS N S.h ρ) w ρ S.fr a.tmps
structure BO (h:DH) (ρ:List AN) (w:World) (h':DH) (ρ':List AN) (w':World):Prop where
 upd:AQ (MO h ρ) w w'
 grow: ∀ b,MO h' ρ' b -> MO h ρ b∨w.heap.size<=b
theorem BO.refl (h:DH) (ρ:List AN) (w:World):BO h ρ w h ρ w:=⟨AQ.refl _ _,fun _ h=>.inl h⟩
theorem BO.trans {h h' Qf:DH} {ρ ρ' ρ'':List AN} {w w' CC:World} (x:BO h ρ w h' ρ' w') (y:BO h' ρ' w' Qf ρ'' CC):BO h ρ w Qf ρ'' CC:=
 ⟨x.upd.comp y.upd fun i hi hm=>(x.grow i hm).resolve_right (by omega),fun b hb=>(y.grow b hb).elim (fun h=>x.grow b h) (fun h=>.inr (yf x.upd.size h))⟩
structure Cr (h:DH) (ρ:List AN) (w:World) (h':DH) (ρ':List AN) (w':World):Prop where
 st:BO h ρ w h' ρ' w'
 pl: ∀ (k:Nat) (p:AN),ρ[k]? =some p -> ρ'[k]? =some p
theorem Cr.refl (h:DH) (ρ:List AN) (w:World):Cr h ρ w h ρ w:=⟨BO.refl _ _ _,fun _ _ h=>h⟩
theorem Cr.trans {h h' Qf:DH} {ρ ρ' ρ'':List AN} {w w' CC:World} (x:Cr h ρ w h' ρ' w') (y:Cr h' ρ' w' Qf ρ'' CC):Cr h ρ w Qf ρ'' CC:=
 ⟨x.st.trans y.st,fun k p hk=>y.pl k p (x.pl k p hk)⟩
structure Bi (M:Nat -> Prop) (w:World) (ρ:List AN) (M':Nat -> Prop) (w':World) (ρ':List AN):Prop where
 blk: ∀ b,b<w.heap.size -> ¬ M b -> (∃ c t z,w.heap[b]? =some (.cells c t z)) -> w'.heap[b]? =w.heap[b]?
 m: ∀ b,M' b -> M b∨w.heap.size<=b
 pl: ∀ (k:Nat) (p:AN),ρ[k]? =some p -> ρ'[k]? =some p
theorem xE {w:World} {b o:Nat} {u:Value} (h:w.cell? ⟨b,o,none⟩=some u): ∃ c t z,w.heap[b]? =some (.cells c t z):=by
 unfold World.cell? at h;split at h
 ·exact ⟨_,_,_,by assumption⟩
 ·cases h
theorem Bi.nil {M M':Nat -> Prop} {w w':World} {ρ ρ':List AN} (h:Bi M w ρ M' w' ρ'):Bi M w [] M' w' []:=⟨h.blk,h.m,fun k p hk=>by simp at hk⟩
theorem ga {w w':World} {b o:Nat} (h:w'.heap[b]? =w.heap[b]?):w'.cell? ⟨b,o,none⟩=w.cell? ⟨b,o,none⟩:=by
 unfold World.cell?;rw [h]
theorem Bi.cell {M M':Nat -> Prop} {w w':World} {ρ ρ':List AN} (h:Bi M w ρ M' w' ρ') {b o:Nat} {u:Value} (hM: ¬ M b) (hc:w.cell? ⟨b,o,none⟩=some u):w'.cell? ⟨b,o,none⟩=some u/\ ¬ M' b:=by
 have AU:b<w.heap.size:=zu w ⟨b,o,none⟩ hc;exact ⟨(ga (h.blk b AU hM (xE hc))).trans hc,fun hm=>(h.m b hm).elim hM (by omega)⟩
theorem AO.out {M M':Nat -> Prop} {w w':World}: ∀ (d:DV) {ρ ρ':List AN} {v:Value},Bi M w ρ M' w' ρ' -> AO M w d ρ v -> AO M' w' d ρ' v:=by
 intro d
 induction d with
 | any=>intros;trivial
 | nils=>intro ρ ρ' v _ h;exact h
 | int k n=>intro ρ ρ' v _ h;exact h
 | bool b=>intro ρ ρ' v _ h;exact h
 | str s=>intro ρ ρ' v _ h;exact h
 | ints l=>
  rintro ρ ρ' v H ⟨a,cap,e,h1,h2,h3⟩;refine ⟨a,cap,e,h1,h2,fun j hj=>?_⟩;obtain ⟨b,o,ha,hM,hc⟩:=h3 j hj;obtain ⟨g1,g2⟩:=H.cell hM hc;exact ⟨b,o,ha,g2,g1⟩
 | bools l=>
  rintro ρ ρ' v H ⟨a,cap,e,h1,h2,h3⟩;refine ⟨a,cap,e,h1,h2,fun j hj=>?_⟩;obtain ⟨b,o,ha,hM,hc⟩:=h3 j hj;obtain ⟨g1,g2⟩:=H.cell hM hc;exact ⟨b,o,ha,g2,g1⟩
 | sl m n f ih=>
  rintro ρ ρ' v H ⟨a,cap,e,h1,h2,h3⟩;refine ⟨a,cap,e,h1,h2,fun i j hi hj=>?_⟩;obtain ⟨b,o,u,ha,hM,hc,hr⟩:=h3 i j hi hj;obtain ⟨g1,g2⟩:=H.cell hM hc;exact ⟨b,o,u,ha,g2,g1,ih i j H.nil hr⟩
 | fp m f ih=>
  rintro ρ ρ' v H ⟨b,o,e,h⟩;refine ⟨b,o,e,fun j hj=>?_⟩;obtain ⟨hM,u,hc,hr⟩:=h j hj;obtain ⟨g1,g2⟩:=H.cell hM hc;exact ⟨g2,u,g1,ih j H.nil hr⟩
 | agg m f ih=>
  rintro ρ ρ' v H ⟨cs,e,hs,h⟩;exact ⟨cs,e,hs,fun j hj=>let ⟨u,h1,h2⟩:=h j hj;⟨u,h1,ih j H h2⟩⟩
 | tup m f ih=>
  rintro ρ ρ' v H ⟨cs,e,hs,h⟩;exact ⟨cs,e,hs,fun j hj=>let ⟨u,h1,h2⟩:=h j hj;⟨u,h1,ih j H h2⟩⟩
 | ref k j=>rintro ρ ρ' v H ⟨p,h,e⟩;exact ⟨p,H.pl _ _ h,e⟩
 | msl k m off n=>rintro ρ ρ' v H ⟨p,cap,h,r⟩;exact ⟨p,cap,H.pl _ _ h,r⟩
 | mp k m i j=>rintro ρ ρ' v H ⟨p,h,e⟩;exact ⟨p,H.pl _ _ h,e⟩
 | fn g m c ih=>
  rintro ρ ρ' v H ⟨cs,e,hs,h⟩;exact ⟨cs,e,hs,fun j hj=>let ⟨u,h1,h2⟩:=h j hj;⟨u,h1,ih j H h2⟩⟩
 | it k=>rintro ρ ρ' v H ⟨p,h,e⟩;exact ⟨p,H.pl _ _ h,e⟩
 | yl l=>intro ρ ρ' v _ h;exact h
 | mse k m off n=>rintro ρ ρ' v H ⟨p,a,cap,h,r⟩;exact ⟨p,a,cap,H.pl _ _ h,r⟩
 | mri k i=>rintro ρ ρ' v H ⟨p,vs,h,r⟩;exact ⟨p,vs,H.pl _ _ h,r⟩
 | cst u=>intro ρ ρ' v _ h;exact h
theorem B8.out {M M':Nat -> Prop} {w w':World} {ρ ρ':List AN} {fr:List DV} {t:Array Value} (h:B8 M w ρ fr t) (H:Bi M w ρ M' w' ρ'):B8 M' w' ρ' fr t:=
 ⟨h.1,fun i hi=>(h.2 i hi).out _ H⟩
theorem B8.at {M:Nat -> Prop} {w:World} {ρ:List AN} {fr:List DV} {t:Array Value} (h:B8 M w ρ fr t) (i:Nat):AO M w (fr.getD i .any) ρ (t.getD i undef):=by
 rcases zt i fr.length with hi | hi
 ·exact h.2 i hi
 ·have:fr.getD i .any= .any:=by rw [u8,zb hi];rfl
  rw [this];trivial
theorem B8.set {M:Nat -> Prop} {w:World} {ρ:List AN} {fr:List DV} {t:Array Value} (h:B8 M w ρ fr t) (i:Nat) {d:DV} {v:Value} (hv:AO M w d ρ v):B8 M w ρ (fr.set i d) (t.setIfInBounds i v):=by
 refine ⟨by simp [h.1],fun j hj=>?_⟩;rw [yu] at hj;have BM:j<t.size:=by rw [←h.1];exact hj
 have h0:=h.2 j hj;simp only [u8,yn,zG,zK] at h0 ⊢
 by_cases e:i=j
 ·subst e;simp [hj,BM,hv]
 ·rw [yb e,yb e];exact h0
theorem IT.later {P:Program} {g:Nat} {lb:Array Value} {encs:List (Array Value)} {G0 Rd:Nat -> Prop} {w w':World} (h:IT P g lb encs G0 Rd w) {S:Nat -> Prop} (hu:AQ S w w') (hs: ∀ b,b<w.heap.size -> S b -> ¬ (G0 b∨Rd b)):IT P g lb encs G0 Rd w':=
 fun l J Jx G W h1 h2 h3=>h l J Jx G W h1 h2 (hu.mono (fun i hi hx=>hs i hi hx) |>.trans h3)
theorem Ak.out {w w':World} {p:AN} {n:Nat} {R R':Nat -> Value -> Prop} (h:Ak w p n R) (hb:w'.heap[p.blk]? =w.heap[p.blk]?) (hR: ∀ j u,j<n -> R j u -> R' j u):Ak w' p n R':=by
 obtain ⟨h1,cs,t,h2,h3,h4,h5⟩:=h;exact ⟨h1,cs,t,hb.trans h2,h3,h4,fun j hj=>let ⟨u,g1,g2⟩:=h5 j hj;⟨u,g1,hR j u hj g2⟩⟩
theorem Ak.cell {w:World} {p:AN} {n:Nat} {R:Nat -> Value -> Prop} (h:Ak w p n R) {j:Nat} (hj:j<n): ∃ u,w.cell? ⟨p.blk,p.off+j,none⟩=some u/\ R j u:=by
 obtain ⟨h1,cs,t,h2,h3,h4,h5⟩:=h;obtain ⟨u,g1,g2⟩:=h5 j hj;exact ⟨u,by unfold World.cell?;simp [h2,g1],g2⟩
theorem Ak.frozen {w:World} {p:AN} {n:Nat} {R:Nat -> Value -> Prop} (h:Ak w p n R) (o:Nat):w.frozen? ⟨p.blk,o,none⟩=false:=by
 obtain ⟨h1,cs,t,h2,_⟩:=h;unfold World.frozen?;simp [h2]
theorem Db.out {P:Program} {M M':Nat -> Prop} {w w':World} {ρ ρ':List AN} {p:AN} {o:DO} (h:Db P M w ρ p o) (H:Bi M w ρ M' w' ρ') {S:Nat -> Prop} (hu:AQ S w w') (hS: ∀ b,S b -> M b) (hf: ∀ b,b<w.heap.size -> p.foot b -> ¬ S b):Db P M' w' ρ' p o:=by
 have hb: ∀ {n R},Ak w p n R -> w'.heap[p.blk]? =w.heap[p.blk]? :=fun {n R} hr=>by
  obtain ⟨h1,cs,t,h2,_⟩:=hr;have AU:=(yR.1 h2).1;exact hu.block _ AU (hf _ AU (by rw [h1]))
 cases o with
 | cells l=>exact Ak.out h (hb h) fun j u _ hr=>AO.out _ H hr
 | ints l=>exact Ak.out h (hb h) fun j u _ hr=>hr
 | bools l=>exact Ak.out h (hb h) fun j u _ hr=>hr
 | arr m n f=>exact Ak.out h (hb h) fun j u _ hr=>AO.out _ H.nil hr
 | iter encs=>
  obtain ⟨gf,lb,Rd,h1,h2,h3,h4⟩:=h;refine ⟨gf,lb,Rd,h1,h2.later hu (fun b hb hs hx=>?_),fun b hb=>⟨fun hm=>(H.m b hm).elim (h3 b hb).1 (by have:=(h3 b hb).2;omega),yc (h3 b hb).2 hu.size⟩,fun b hb=>yc (h4 b hb) hu.size⟩;rcases hx with hx | hx
  ·exact hf b hb hx hs
  ·exact (h3 b hx).1 (hS b hs)
 | mo x=>exact LX.out h fun b hb AU=>hu.block b AU (hf b AU hb)
section
variable {P:Program} {Γ:A9} {N:Nat -> Prop} {h:DH} {ρ:List AN} {w:World}
theorem MO.unset {k:Nat} {b:Nat} (hm:MO (h.set k none) ρ b):MO h ρ b:=by
 obtain ⟨i,o,p,h1,h2,h3⟩:=hm;rw [zG] at h1
 by_cases e:k=i
 ·rw [yP e] at h1;split at h1 <;> cases h1
 ·rw [yb e] at h1;exact ⟨i,o,p,h1,h2,h3⟩
theorem Bb.lt (H:Bb P Γ N h ρ w) {b:Nat} (hb:MS N h ρ b):b<w.heap.size:=by
 rcases hb with hb | ⟨k,o,p,h1,h2,h3⟩
 ·exact (H.nlt b hb).1
 ·obtain ⟨_,_,c,t,z,h4⟩:=H.cel k o p b h1 h2 h3;exact (yR.1 h4).1
theorem Bb.low (H:Bb P Γ N h ρ w) {b:Nat} (hb:MO h ρ b):Γ.ng<=b:=by
 obtain ⟨k,o,p,h1,h2,h3⟩:=hb;exact (H.cel k o p b h1 h2 h3).1
theorem Bb.lt2 (H:Bb P Γ N h ρ w) {b:Nat} (hb:MS N h ρ b):b<w.heap.size/\ Γ.ng<=b:=⟨H.lt hb,hb.elim (fun h=>(H.nlt b h).2) H.low⟩
theorem Bb.ext (H:Bb P Γ N h ρ w) {w':World} (hE:Au w w'):Bb P Γ N h ρ w':=by
 have O:Bi (MS N h ρ) w ρ (MS N h ρ) w' ρ:=⟨fun b hb _ _=>zA9 hE b hb,fun b h=>.inl h,fun _ _ h=>h⟩;refine ⟨H.len,fun k o hk=>?_,fun k o p b h1 h2 h3=>?_,H.dis,fun b hb=>⟨yc (H.nlt b hb).1 hE.size,(H.nlt b hb).2⟩,Γ.st _ _ H.gi (AQ.ofExt hE)⟩
 ·obtain ⟨p,hp,ho⟩:=H.obj k o hk;exact ⟨p,hp,ho.out O (S:=fun _=>False) (AQ.ofExt hE) (fun _ h=>h.elim) (fun _ _ _ h=>h)⟩
 ·obtain ⟨g1,g2,c,t,z,g3⟩:=H.cel k o p b h1 h2 h3;exact ⟨g1,g2,c,t,z,(zA9 hE b (yR.1 g3).1).trans g3⟩
theorem Bi.ext {M:Nat -> Prop} {w w':World} (ρ:List AN) (hE:Au w w'):Bi M w ρ M w' ρ:=⟨fun b hb _ _=>zA9 hE b hb,fun b h=>.inl h,fun _ _ h=>h⟩
theorem BO.ext {w w':World} (hE:Au w w'):BO h ρ w h ρ w':=⟨AQ.ofExt hE,fun _ h=>.inl h⟩
theorem DL {α:Type} {l:List α} {x y:α} {k:Nat} (hk:(l++[x])[k]? =some y):(k<l.length/\ l[k]? =some y)∨(k=l.length/\ x=y):=by
 rcases Nat.lt_trichotomy k l.length with hl | hl | hl
 ·rw [yy hl] at hk;exact .inl ⟨hl,hk⟩
 ·subst hl;simp at hk;exact .inr ⟨rfl,hk⟩
 ·rw [zC (by omega)] at hk;have:k-l.length≠0:=by omega
  cases e:k-l.length with
  | zero=>omega
  | succ m=>rw [e] at hk;simp at hk
theorem EC {α:Type} {l:List α} {x y:α} {k:Nat} (hk:l[k]? =some y):(l++[x])[k]? =some y:=by
 rw [yy (yZ.1 hk).1];exact hk
theorem MO.snoc (H:Bb P Γ N h ρ w) {o:DO} {p:AN} {b:Nat} (hb:MO (h++[some o]) (ρ++[p]) b):MO h ρ b∨p.foot b:=by
 obtain ⟨k,o',p',h1,h2,h3⟩:=hb;rcases DL h1 with ⟨hl,h1⟩ | ⟨hl,h1⟩
 ·rcases DL h2 with ⟨_,h2⟩ | ⟨CU,_⟩
  ·exact .inl ⟨k,o',p',h1,h2,h3⟩
  ·rw [CU,H.len] at hl;omega
 ·rcases DL h2 with ⟨CU,_⟩ | ⟨_,h2⟩
  ·rw [H.len,←hl] at CU;omega
  ·subst h2;exact .inr h3
theorem Bb.snoc (H:Bb P Γ N h ρ w) {w':World} (hE:Au w w') {o:DO} {p:AN} (hf: ∀ b,p.foot b -> w.heap.size<=b/\ DD w' b)
 (ho:Db P (MS N (h++[some o]) (ρ++[p])) w' (ρ++[p]) p o):Bb P Γ N (h++[some o]) (ρ++[p]) w':=by
 have O:Bi (MS N h ρ) w ρ (MS N (h++[some o]) (ρ++[p])) w' (ρ++[p]):=by
  refine ⟨fun b hb _ _=>zA9 hE b hb,fun b hb=>?_,fun k q hk=>EC hk⟩;rcases hb with hb | hb
  ·exact .inl (.inl hb)
  ·rcases MO.snoc H hb with hb | hb
   ·exact .inl (.inr hb)
   ·exact .inr (hf b hb).1
 refine ⟨by simp [H.len],fun k o' hk=>?_,fun k o' p' b h1 h2 h3=>?_,fun k k' o1 o2 p1 p2 b Ap h1 h2 h3 h4 h5 h6=>?_,fun b hb=>⟨yc (H.nlt b hb).1 hE.size,(H.nlt b hb).2⟩,Γ.st _ _ H.gi (AQ.ofExt hE)⟩
 ·rcases DL hk with ⟨hl,hk⟩ | ⟨hl,hk⟩
  ·obtain ⟨p',hp,hr⟩:=H.obj k o' hk;exact ⟨p',EC hp,hr.out O (S:=fun _=>False) (AQ.ofExt hE) (fun _ h=>h.elim) (fun _ _ _ h=>h)⟩
  ·cases hk;exact ⟨p,by rw [hl,←H.len];simp,ho⟩
 ·rcases DL h1 with ⟨hl,h1⟩ | ⟨hl,h1⟩
  ·rcases DL h2 with ⟨_,h2⟩ | ⟨CU,_⟩
   ·obtain ⟨g1,g2,c,t,z,g3⟩:=H.cel k o' p' b h1 h2 h3;exact ⟨g1,g2,c,t,z,(zA9 hE b (yR.1 g3).1).trans g3⟩
   ·rw [CU,H.len] at hl;omega
  ·rcases DL h2 with ⟨CU,_⟩ | ⟨_,h2⟩
   ·rw [H.len,←hl] at CU;omega
   ·subst h2;obtain ⟨g1,g2⟩:=hf b h3;exact ⟨yf (Γ.lo _ H.gi) g1,fun hn=>by have:=H.nlt b hn;omega,g2⟩
 ·have GK: ∀ {k:Nat} {o':DO} {p':AN},(h++[some o])[k]? =some (some o') -> (ρ++[p])[k]? =some p' -> p'.foot b -> k≠h.length -> b<w.heap.size:=by
   intro k o' p' h1 h2 h3 Ap;rcases DL h1 with ⟨hl,h1⟩ | ⟨hl,h1⟩
   ·rcases DL h2 with ⟨_,h2⟩ | ⟨CU,_⟩
    ·exact H.lt (.inr ⟨k,o',p',h1,h2,h3⟩)
    ·rw [CU,H.len] at hl;omega
   ·exact absurd hl Ap
  have cc: ∀ {k:Nat} {o':DO} {p':AN},(h++[some o])[k]? =some (some o') -> (ρ++[p])[k]? =some p' -> p'.foot b -> k=h.length -> w.heap.size<=b:=by
   intro k o' p' h1 h2 h3 he;rcases DL h2 with ⟨CU,_⟩ | ⟨_,h2⟩
   ·rw [H.len,←he] at CU;omega
   ·subst h2;exact (hf b h3).1
  by_cases e1:k=h.length
  ·by_cases e2:k'=h.length
   ·exact Ap (e1.trans e2.symm)
   ·have:=cc h1 h3 h5 e1;have:=GK h2 h4 h6 e2;omega
  ·by_cases e2:k'=h.length
   ·have:=GK h1 h3 h5 e1;have:=cc h2 h4 h6 e2;omega
   ·rcases DL h1 with ⟨_,h1⟩ | ⟨hl,_⟩
    ·rcases DL h2 with ⟨_,h2⟩ | ⟨hl,_⟩
     ·rcases DL h3 with ⟨_,h3⟩ | ⟨hl,_⟩
      ·rcases DL h4 with ⟨_,h4⟩ | ⟨hl,_⟩
       ·exact H.dis k k' o1 o2 p1 p2 b Ap h1 h2 h3 h4 h5 h6
       ·rw [H.len] at hl;exact e2 hl
      ·rw [H.len] at hl;exact e1 hl
     ·exact e2 hl
    ·exact e1 hl
theorem Bi.snoc (H:Bb P Γ N h ρ w) {w':World} (hE:Au w w') {o:DO} {p:AN} (hf: ∀ b,p.foot b -> w.heap.size<=b):Bi (MS N h ρ) w ρ (MS N (h++[some o]) (ρ++[p])) w' (ρ++[p]):=by
 refine ⟨fun b hb _ _=>zA9 hE b hb,fun b hb=>?_,fun k q hk=>EC hk⟩;rcases hb with hb | hb
 ·exact .inl (.inl hb)
 ·rcases MO.snoc H hb with hb | hb
  ·exact .inl (.inr hb)
  ·exact .inr (hf b hb)
theorem BO.snoc (H:Bb P Γ N h ρ w) {w':World} (hE:Au w w') {o:DO} {p:AN} (hf: ∀ b,p.foot b -> w.heap.size<=b):BO h ρ w (h++[some o]) (ρ++[p]) w':=
 ⟨AQ.ofExt hE,fun b hb=>(MO.snoc H hb).imp id (hf b)⟩
theorem MO.set {k:Nat} {o o':DO} (hk:h[k]? =some (some o)) {b:Nat}:MO (h.set k (some o')) ρ b↔MO h ρ b:=by
 have hl:=(yZ.1 hk).1;constructor
 ·rintro ⟨i,o1,p,h1,h2,h3⟩;rw [zG] at h1
  by_cases e:k=i
  ·subst e;exact ⟨k,o,p,hk,h2,h3⟩
  ·rw [yb e] at h1;exact ⟨i,o1,p,h1,h2,h3⟩
 ·rintro ⟨i,o1,p,h1,h2,h3⟩
  by_cases e:k=i
  ·subst e;exact ⟨k,o',p,by simp [hl],h2,h3⟩
  ·exact ⟨i,o1,p,by rw [zG,yb e];exact h1,h2,h3⟩
theorem MS.set {k:Nat} {o o':DO} (hk:h[k]? =some (some o)) {b:Nat}:MS N (h.set k (some o')) ρ b↔MS N h ρ b:=by unfold MS;rw [MO.set hk]
theorem Bb.write (H:Bb P Γ N h ρ w) {w':World} {k:Nat} {o o':DO} {p:AN} (hk:h[k]? =some (some o)) (hp:ρ[k]? =some p) (hu:AQ p.foot w w')
 (hc: ∀ b,p.foot b -> DD w' b) (ho:Db P (MS N (h.set k (some o')) ρ) w' ρ p o'):Bb P Γ N (h.set k (some o')) ρ w':=by
 have hl:=(yZ.1 hk).1;have hM: ∀ b,p.foot b -> MS N h ρ b:=fun b hb=>.inr ⟨k,o,p,hk,hp,hb⟩
 have O:Bi (MS N h ρ) w ρ (MS N (h.set k (some o')) ρ) w' ρ:=⟨fun b hb hm _=>hu.block b hb fun hx=>hm (hM b hx),fun b hb=>.inl ((MS.set hk).1 hb),fun _ _ h=>h⟩;have IB: ∀ {i:Nat} {o1:DO},i≠k -> (h.set k (some o'))[i]? =some (some o1) -> h[i]? =some (some o1):=fun {i} {o1} Ap h1=>by rw [zG,yb (zAw Ap)] at h1;exact h1
 refine ⟨by simp [H.len],fun i o1 hi=>?_,fun i o1 p1 b h1 h2 h3=>?_,fun i i' o1 o2 p1 p2 b Ap h1 h2 h3 h4 h5 h6=>?_,fun b hb=>⟨yc (H.nlt b hb).1 hu.size,(H.nlt b hb).2⟩,Γ.st _ _ H.gi (hu.mono fun b _ hb=>(H.cel k o p b hk hp hb).1)⟩
 ·by_cases e:i=k
  ·subst e;have:o'=o1:=by simp [hl] at hi;exact hi
   subst this;exact ⟨p,hp,ho⟩
  ·obtain ⟨p1,K5,hr⟩:=H.obj i o1 (IB e hi);exact ⟨p1,K5,hr.out O hu hM fun b _ h1 h2=>H.dis i k o1 o p1 p b e (IB e hi) hk K5 hp h1 h2⟩
 ·by_cases e:i=k
  ·subst e;have:p=p1:=yY (hp.symm.trans h2);subst this;obtain ⟨g1,g2,_⟩:=H.cel i o p b hk hp h3;exact ⟨g1,g2,hc b h3⟩
  ·obtain ⟨g1,g2,c,t,z,g3⟩:=H.cel i o1 p1 b (IB e h1) h2 h3;refine ⟨g1,g2,c,t,z,(hu.block b (yR.1 g3).1 fun hx=>H.dis i k o1 o p1 p b e (IB e h1) hk h2 hp h3 hx).trans g3⟩
 ·have GK: ∀ {i:Nat} {o1:DO},(h.set k (some o'))[i]? =some (some o1) -> ∃ o2,h[i]? =some (some o2):=fun {i} {o1} h1=>by
   by_cases e:i=k
   ·subst e;exact ⟨o,hk⟩
   ·exact ⟨o1,IB e h1⟩
  obtain ⟨q1,g1⟩:=GK h1;obtain ⟨q2,g2⟩:=GK h2;exact H.dis i i' q1 q2 p1 p2 b Ap g1 g2 h3 h4 h5 h6
theorem Bi.write (hN:True) {w':World} {k:Nat} {o o':DO} {p:AN} (hk:h[k]? =some (some o)) (hp:ρ[k]? =some p) (hu:AQ p.foot w w'):Bi (MS N h ρ) w ρ (MS N (h.set k (some o')) ρ) w' ρ:=
 ⟨fun b hb hm _=>hu.block b hb fun hx=>hm (.inr ⟨k,o,p,hk,hp,hx⟩),fun b hb=>.inl ((MS.set hk).1 hb),fun _ _ h=>h⟩
theorem BO.write {w':World} {k:Nat} {o o':DO} {p:AN} (hk:h[k]? =some (some o)) (hp:ρ[k]? =some p) (hu:AQ p.foot w w'):BO h ρ w (h.set k (some o')) ρ w':=
 ⟨hu.mono fun b _ hb=>⟨k,o,p,hk,hp,hb⟩,fun b hb=>.inl ((MO.set hk).1 hb)⟩
end
end Go.Proofs.YtgkhhfnhacibcaaGreatDoor
namespace Go.Proofs.YtgkhhfnhacibcaaGreatDoor
abbrev yg:=@Nat.not_lt_zero
abbrev y8:=@decide_eq_true_eq
abbrev zI:=@Go.run_underlying
abbrev zM:=@Bool.not_eq_true'
abbrev zN:=@Nat.add_assoc
abbrev ze:=@Option.some.injEq
abbrev zl:=@bne_iff_ne
abbrev zv:=@Prod.mk.injEq
abbrev z7:=@Nat.mul_le_mul_right
abbrev zAF:=@Nat.mul_comm
abbrev zAH:=@Nat.add_mul
abbrev zAZ:=@Array.eq_empty_of_size_eq_zero
abbrev zAb:=@Nat.add_zero
abbrev zAx:=@Nat.mod_eq_of_lt
abbrev zAy:=@Go.Sem.run_pure
abbrev zA3:=@Option.isSome_iff_exists
abbrev zBB:=@Nat.succ_mul
end Go.Proofs.YtgkhhfnhacibcaaGreatDoor
namespace Go.Proofs.YtgkhhfnhacibcaaGreatDoor
open Go.RowKit
def FI:Value -> DV
 | .int k n=>.int k n
 | .bool b=>.bool b
 | .string s=>.str s
 | .slice none 0 0=>.nils
 | v=>if v.oneCell' then .cst v else .any
def Ac (fr:List DV):Operand -> DV
 | .tmp t=>fr.getD t .any
 | .const v=>FI v
 | .global _=>.any
 | .func f=>.fn f 0 fun _=>.any
def H4 (P:Program) (t:TypeId):Bool:=match P.underlying t with
 | some (.struct _)=>true
 | some (.array _ _)=>true
 | _=>false
def Mw (P:Program) (t:TypeId) (m:Nat):Bool:=match P.underlying t with
 | some (.slice e)=>match P.info? e with
  | some i=>i.size==m&&m != 0
  | none=>false
 | _=>false
def F0 (P:Program) (t:TypeId):Bool:=(P.underlying t).isSome&&!H4 P t
def RS (P:Program) (t:TypeId) (m:Nat):Bool:=H4 P t&&(match P.info? t with | some i=>i.size==m | none=>false)
def UN (P:Program) (s:TypeId) (f:Nat):Option (Nat×Nat):=match P.underlying s with
 | some (.struct fs)=>match fs[f]? with
  | some fd=>match P.info? fd.type with
   | some i=>if i.size=0 then none else some (fd.offset,i.size)
   | none=>none
  | none=>none
 | _=>none
def RM (P:Program) (t:TypeId):Option (Nat×Nat):=match P.underlying t with
 | some (.array n e)=>match P.info? e with
  | some i=>if n<=1 then none else some (n,i.size)
  | none=>none
 | _=>none
def W7 (P:Program) (t:TypeId):Option IntKind:=match P.underlying t with
 | some (.int k)=>some k
 | _=>none
def Uq (op:BinOp) (k:IntKind) (a b:Int):Option (DV×Prop):=match op with
 | .add=>some (.int k (k.wrap (a+b)),True)
 | .sub=>some (.int k (k.wrap (a-b)),True)
 | .mul=>some (.int k (k.wrap (a*b)),True)
 | .and=>some (.int k (bits .and k a b),True)
 | .or=>some (.int k (bits .or k a b),True)
 | .xor=>some (.int k (bits .xor k a b),True)
 | .andNot=>some (.int k (bits .andNot k a b),True)
 | .eql=>some (.bool (a==b),True)
 | .neq=>some (.bool (a != b),True)
 | .lss=>some (.bool (decide (a<b)),True)
 | .leq=>some (.bool (decide (a<=b)),True)
 | .gtr=>some (.bool (decide (a>b)),True)
 | .geq=>some (.bool (decide (a>=b)),True)
 | _=>none
def Og (P:Program) (t:TypeId):Nat:=match P.underlying t with
 | some .bool=>1
 | some (.slice _)=>2
 | _=>0
def Ur (bt:Nat) (op:BinOp) (x y:DV):Option (DV×Prop):=match op,x,y with
 | .eql,.bool a,.bool b=>if bt=1 then some (.bool (a==b),True) else none
 | .neq,.bool a,.bool b=>if bt=1 then some (.bool (!(a==b)),True) else none
 | .eql,.ints l,.nils=>if bt=2 then some (.bool false,0<l.length) else none
 | .eql,.bools l,.nils=>if bt=2 then some (.bool false,0<l.length) else none
 | .neq,.ints l,.nils=>if bt=2 then some (.bool true,0<l.length) else none
 | .shl,.int k a,.int _ b=>some (.int k (k.wrap (a*2 ^ b.toNat)),0<=b/\ b<=k.bits)
 | .shr,.int k a,.int _ b=>some (.int k (a/2 ^ b.toNat),0<=b/\ b<=k.bits)
 | .quo,.int k a,.int k' b=>if k=k' then some (.int k (k.wrap (a.tdiv b)),b≠0) else none
 | .rem,.int k a,.int k' b=>if k=k' then some (.int k (a.tmod b),b≠0) else none
 | op,.int k a,.int k' b=>if k=k' then Uq op k a b else none
 | _,_,_=>none
def MI (P:Program) (S:St) (t:TypeId):DV -> Option (DV×Prop)
 | .fp m f=>if F0 P t then (if m=0 then none else some (f 0,True)) else if RS P t m then some (.agg m f,True) else none
 | .ref k j=>match S.h[k]? with
  | some (some (.cells l))=>if F0 P t then (if j<l.length then some (l.getD j .any,True) else none)
   else match P.info? t with
    | some i=>if H4 P t&&decide (j+i.size<=l.length) then some (.agg i.size (GH i.size fun c=>l.getD (j+c) .any),True) else none
    | none=>none
  | _=>none
 | .mp k m i j=>match S.h[k]? with
  | some (some (.ints l))=>if F0 P t&&(m==1)&&(j==0) then some (.int .i64 (l.getD i 0),i<l.length) else none
  | some (some (.bools l))=>if F0 P t&&(m==1)&&(j==0) then some (.bool (l.getD i false),i<l.length) else none
  | some (some (.arr m' n f))=>if F0 P t&&(m==m')&&decide (j<m) then some (f i j,i<n)
   else if RS P t m&&(m==m')&&(j==0) then some (.agg m (f i),i<n) else none
  | some (some (.mo (.sets _ ls _)))=>if F0 P t&&(m==1)&&(j==0) then some (.mri k i,i<ls.length) else none
  | some (some (.mo (.rws ls none)))=>if F0 P t&&(m==1)&&(j==0) then some (.mri k (i+1),i<ls.length) else none
  | _=>none
 | _=>none
def XD (P:Program) (t:TypeId) (x:DV) (n:Int):Option (DV×Prop):=match x with
 | .ints l=>if Mw P t 1 then some (.fp 1 (fun _=>.int .i64 (l.getD n.toNat 0)),0<=n/\ n<l.length) else none
 | .bools l=>if Mw P t 1 then some (.fp 1 (fun _=>.bool (l.getD n.toNat false)),0<=n/\ n<l.length) else none
 | .sl m c f=>if Mw P t m then some (.fp m (f n.toNat),0<=n/\ n<c) else none
 | .msl k m off c=>if Mw P t m then some (.mp k m (off+n.toNat) 0,0<=n/\ n<c) else none
 | .ref k j=>match RM P t with
  | some (len,sz)=>some (.ref k (j+n.toNat*sz),0<=n/\ n<len)
  | none=>none
 | .mp k m i 0=>match RM P t with
  | some (len,sz)=>if sz=m then some (.mp k m (i+n.toNat) 0,0<=n/\ n<len) else none
  | none=>none
 | .fp m f=>match RM P t with
  | some (len,sz)=>if n.toNat*sz+sz<=m then some (.fp sz (GH sz fun j=>f (n.toNat*sz+j)),0<=n/\ n<len) else none
  | none=>none
 | _=>none
def TM (P:Program) (t:TypeId) (d:DV):Option (DV×Prop):=match P.underlying t,d with
 | some (.slice _),.nils=>some (.int .i64 0,True)
 | some (.slice _),.ints l=>some (.int .i64 l.length,True)
 | some (.slice _),.bools l=>some (.int .i64 l.length,True)
 | some (.slice _),.sl _ n _=>some (.int .i64 n,True)
 | some (.slice _),.msl _ _ _ n=>some (.int .i64 n,True)
 | some .string,.str s=>some (.int .i64 s.size,True)
 | _,_=>none
def We (x y:DV):Option (DV×Prop):=match x,y with
 | .int k a,.int _ b=>some (.int k (if b>a then b else a),True)
 | _,_=>none
def Wc (x y:DV):Option (DV×Prop):=match x,y with
 | .int k a,.int _ b=>some (.int k (if b<a then b else a),True)
 | _,_=>none
def Up (P:Program) (S:St) (b:Builtin) (args:List Operand) (jQ:List TypeId):Option (DV×Prop):=match b with
 | .len=>match args with
  | [x]=>match jQ with
   | [t]=>TM P t (Ac S.fr x)
   | _=>none
  | _=>none
 | .max=>match args with
  | [x,y]=>We (Ac S.fr x) (Ac S.fr y)
  | _=>none
 | .min=>match args with
  | [x,y]=>Wc (Ac S.fr x) (Ac S.fr y)
  | _=>none
 | _=>none
def Nb (P:Program) (S:St):Op -> Option (DV×Prop)
 | .move x=>some (Ac S.fr x,True)
 | .assign x=>some (Ac S.fr x,True)
 | .pick c a b=>match Ac S.fr c with
  | .bool true=>some (Ac S.fr a,True)
  | .bool false=>some (Ac S.fr b,True)
  | _=>none
 | .load t x=>MI P S t (Ac S.fr x)
 | .binOp op t x y _=>Ur (Og P t) op (Ac S.fr x) (Ac S.fr y)
 | .unOp op _ x=>match op,Ac S.fr x with
  | .not,.bool b=>some (.bool !b,True)
  | .neg,.int k n=>some (.int k (k.wrap (0-n)),True)
  | .xor,.int k n=>some (.int k (bits .xor k (if k.signed then-1 else k.max) n),True)
  | _,_=>none
 | .convert s d x=>match P.underlying s,W7 P d,Ac S.fr x with
  | some _,some k,.int _ n=>some (.int k (k.wrap n),True)
  | _,_,_=>none
 | .nilCheck x=>match Ac S.fr x with
  | .fp m f=>some (.fp m f,True)
  | .ref k j=>some (.ref k j,True)
  | .mp k m i j=>some (.mp k m i j,True)
  | .fn g m c=>some (.fn g m c,True)
  | _=>none
 | .fieldAddr s x f=>match UN P s f with
  | some (off,sz)=>match Ac S.fr x with
   | .fp m g=>if off+sz<=m then some (.fp sz (GH sz fun j=>g (off+j)),True) else none
   | .ref k j=>some (.ref k (j+off),True)
   | .mp k m i j=>some (.mp k m i (j+off),True)
   | _=>none
  | none=>none
 | .indexAddr t x i=>match Ac S.fr i with
  | .int _ n=>XD P t (Ac S.fr x) n
  | _=>none
 | .extract x i=>match Ac S.fr x with
  | .tup m f=>if i<m then some (f i,True) else none
  | _=>none
 | .makeFunc (.func g) first c=>if first.size=0 then some (.fn g c.size (GH c.size fun j=>Ac S.fr (c.getD j (.const undef))),True) else none
 | .call c=>match c.callee with
  | .builtin b=>Up P S b c.args.toList c.argTypes.toList
  | _=>none
 | _=>none
section
variable {P:Program} {Γ:A9} {N:Nat -> Prop} {S:St} {ρ:List AN} {a:Act} {w:World}
theorem Ps {M:Nat -> Prop} (v:Value):AO M w (FI v) ρ v:=by
 unfold FI;split
 ·rfl
 ·rfl
 ·rfl
 ·rfl
 ·split
  ·exact ⟨rfl,by assumption⟩
  ·trivial
theorem Bm (R:Ad P Γ N S ρ a w) (x:Operand):AO (MS N S.h ρ) w (Ac S.fr x) ρ (a.eval x):=by
 cases x with
 | tmp t=>exact R.fr.at t
 | const v=>exact Ps v
 | global g=>trivial
 | func f=>exact ⟨#[],rfl,rfl,fun j hj=>absurd hj (yg j)⟩
theorem PN {t:TypeId} {d:TypeDesc} (h:P.underlying t=some d):(isAgg t).run P w= .ok (H4 P t) w:=by
 unfold isAgg H4;rw [yj,zI h];simp only [Result.andThen,h];cases d <;> rfl
theorem If {t:TypeId} {i:TypeInfo} (h:P.info? t=some i):(sizeOf t).run P w= .ok i.size w:=by
 rw [run_sizeOf w h];unfold Program.cellsOf;rw [h];rfl
theorem mj {t:TypeId} {b:Addr} {u:Value} (h:F0 P t=true) (hc:w.cell? b=some u):(loadVar t b).run P w= .ok u w:=by
 unfold F0 at h;simp only [yT,zA3,zM] at h;obtain ⟨⟨d,hd⟩,hn⟩:=h;unfold loadVar;rw [yj,PN hd];simp only [Result.andThen,hn,zL,zAS];simp [load,Sem.run,hc]
theorem dh {t:TypeId} (h:H4 P t=true): ∃ d,P.underlying t=some d:=by
 unfold H4 at h;split at h
 ·exact ⟨_,by assumption⟩
 ·exact ⟨_,by assumption⟩
 ·cases h
theorem ml {t:TypeId} {b o:Nat} {i:TypeInfo} (h:H4 P t=true) (hi:P.info? t=some i) (g:Nat -> Value) (hc: ∀ j,j<i.size -> w.cell? ⟨b,o+j,none⟩=some (g j)):
 (loadVar t ⟨b,o,none⟩).run P w= .ok (.agg ((List.range i.size).map g).toArray) w:=by
 obtain ⟨d,hd⟩:=dh h;unfold loadVar;rw [yj,PN hd];simp only [Result.andThen,h,zo];rw [yj,If hi];simp only [Result.andThen]
 rw [yj,run_loadCells w ⟨b,o,none⟩ i.size g (fun j hj=>by
  have:=hc j hj;unfold Addr.add
  by_cases e:j=0
  ·subst e;simpa using this
  ·simpa [e] using this)]
 simp [Result.andThen]
def Keep (N:Nat -> Prop) (w W:World):Prop:=∀ b o u,¬ N b -> w.cell? ⟨b,o,none⟩=some u -> W.cell? ⟨b,o,none⟩=some u
theorem Keep.ofExt {N:Nat -> Prop} {w W:World} (h:Au w W):Keep N w W:=fun _ _ _ _ hc=>h.cell hc
def Yl (P:Program) (N:Nat -> Prop) (w:World) (M:Nat -> Prop) (ρ:List AN) (s:Sem Value) (d:DV):Prop:=∃ v,(∀ W,Keep N w W -> s.run P W= .ok v W)/\ AO M w d ρ v
theorem NV {k:Nat} {o:DO} {p:AN} {n:Nat} {Rw:Nat -> Value -> Prop} (R:Ad P Γ N S ρ a w) (hk:S.h[k]? =some (some o)) (hp:ρ[k]? =some p) (hr:Ak w p n Rw): ¬ N p.blk:=(R.hr.cel k o p p.blk hk hp (by rw [hr.1])).2.1
theorem UG {M:Nat -> Prop} {m:Nat} {f:Nat -> DV} {v:Value} (h:AO M w (.fp m f) ρ v): ∃ b o,v= .pointer (some ⟨b,o,none⟩)/\ ∀ j,j<m -> ¬ M b/\ ∃ u,w.cell? ⟨b,o+j,none⟩=some u/\ AO M w (f j) [] u:=h
theorem Pa {M:Nat -> Prop} {d:DV} {v:Value} (h:AO M w d [] v):AO M w d ρ v:=h.out d ⟨fun _ _ _ _=>rfl,fun _ h=>.inl h,fun k p hk=>by simp at hk⟩
theorem Vq {t:TypeId} {b:Addr} {W:World}:(Instr.loadAt t (.pointer (some b))).run P W=(loadVar t b).run P W:=rfl
theorem MH {M:Nat -> Prop} {t:TypeId} {b o:Nat} {u:Value} {d:DV} (hN: ¬ N b) (h1:F0 P t=true) (hc:w.cell? ⟨b,o,none⟩=some u) (hr:AO M w d ρ u):Yl P N w M ρ (Instr.loadAt t (.pointer (some ⟨b,o,none⟩))) d:=
 ⟨u,fun W hE=>by rw [Vq];exact mj h1 (hE _ _ _ hN hc),hr⟩
theorem Wm {M:Nat -> Prop} {t:TypeId} {i:TypeInfo} {b o:Nat} {f:Nat -> DV} (hN:0<i.size -> ¬ N b) (h1:H4 P t=true) (hi:P.info? t=some i) (h: ∀ j,j<i.size -> ∃ u,w.cell? ⟨b,o+j,none⟩=some u/\ AO M w (f j) ρ u):
 Yl P N w M ρ (Instr.loadAt t (.pointer (some ⟨b,o,none⟩))) (.agg i.size f):=by
 obtain ⟨g,hg⟩: ∃ g:Nat -> Value,∀ j,j<i.size -> w.cell? ⟨b,o+j,none⟩=some (g j)/\ AO M w (f j) ρ (g j):=by
  refine ⟨fun j=>(w.cell? ⟨b,o+j,none⟩).getD undef,fun j hj=>?_⟩;obtain ⟨u,h1,h2⟩:=h j hj;simp [h1,h2]
 refine ⟨_,fun W hE=>by rw [Vq];exact ml h1 hi g fun j hj=>hE _ _ _ (hN (by omega)) (hg j hj).1,_,rfl,by simp,fun j hj=>?_⟩;exact ⟨g j,by simp [hj],(hg j hj).2⟩
theorem ZF {t:TypeId} {m:Nat} (h:RS P t m=true):H4 P t=true/\ ∃ i,P.info? t=some i/\ i.size=m:=by
 unfold RS at h;simp only [yT] at h;refine ⟨h.1,?_⟩;have h2:=h.2;split at h2
 ·exact ⟨_,by assumption,by simpa using h2⟩
 ·cases h2
theorem dH (R:Ad P Γ N S ρ a w) {t:TypeId} {x d:DV} {vc:Prop} {v:Value} (hx:AO (MS N S.h ρ) w x ρ v) (h:MI P S t x=some (d,vc)) (hv:vc):
 Yl P N w (MS N S.h ρ) ρ (Instr.loadAt t v) d:=by
 unfold MI at h;split at h
 ·rename_i m f;obtain ⟨b,o,rfl,hc⟩:=UG hx;split at h
  ·rename_i h1;split at h
   ·cases h
   ·cases h;obtain ⟨hM,u,g1,g2⟩:=hc 0 (by omega);exact MH (fun h=>hM (.inl h)) h1 g1 (Pa g2)
  ·split at h
   ·rename_i h2;cases h;obtain ⟨h3,i,hi,rfl⟩:=ZF h2;exact Wm (fun hp h=>(hc 0 hp).1 (.inl h)) h3 hi fun j hj=>let ⟨_,u,g1,g2⟩:=hc j hj;⟨u,g1,Pa g2⟩
   ·cases h
 ·rename_i k j;obtain ⟨p,hp,rfl⟩:=hx;split at h
  ·rename_i l hk;obtain ⟨p',BJ,hr⟩:=R.hr.obj k _ hk;have e:p'=p:=yY (BJ.symm.trans hp);subst e;split at h
   ·rename_i h1;split at h
    ·rename_i hj;cases h;obtain ⟨u,g1,g2⟩:=Ak.cell hr hj;exact MH (NV R hk hp hr) h1 g1 g2
    ·cases h
   ·split at h
    ·rename_i i hi;split at h
     ·rename_i h2;cases h;simp only [yT,y8] at h2;refine Wm (fun _=>NV R hk hp hr) h2.1 hi fun c hc=>?_
      obtain ⟨u,g1,g2⟩:=Ak.cell hr (j:=j+c) (by omega);exact ⟨u,by rw [zN];exact g1,KW hc g2⟩
     ·cases h
    ·cases h
  ·cases h
 ·rename_i k m i j;obtain ⟨p,hp,rfl⟩:=hx;split at h
  ·rename_i l hk;obtain ⟨p',BJ,hr⟩:=R.hr.obj k _ hk;have e:p'=p:=yY (BJ.symm.trans hp);subst e;split at h
   ·rename_i h1;cases h;simp only [yT,yo] at h1;obtain ⟨⟨h1,rfl⟩,rfl⟩:=h1;obtain ⟨u,g1,g2⟩:=Ak.cell hr hv;exact MH (NV R hk hp hr) h1 (by simpa using g1) g2
   ·cases h
  ·rename_i l hk;obtain ⟨p',BJ,hr⟩:=R.hr.obj k _ hk;have e:p'=p:=yY (BJ.symm.trans hp);subst e;split at h
   ·rename_i h1;cases h;simp only [yT,yo] at h1;obtain ⟨⟨h1,rfl⟩,rfl⟩:=h1;obtain ⟨u,g1,g2⟩:=Ak.cell hr hv;exact MH (NV R hk hp hr) h1 (by simpa using g1) g2
   ·cases h
  ·rename_i m' n f hk;obtain ⟨p',BJ,hr⟩:=R.hr.obj k _ hk;have e:p'=p:=yY (BJ.symm.trans hp);subst e
   have XB: ∀ {i j:Nat},i<n -> j<m' -> i*m'+j<n*m':=fun {i j} hi hj=>by
    have:(i+1)*m'<=n*m':=z7 _ hi;rw [zBB] at this;omega
   have dv: ∀ {i j:Nat},j<m' -> (i*m'+j)/m'=i/\ (i*m'+j) % m'=j:=fun {i j} hj=>by
    have hm:0<m':=by omega
    constructor
    ·rw [zAF,Nat.mul_add_div hm,Nat.div_eq_of_lt hj,zAb]
    ·rw [zAF,Nat.mul_add_mod,zAx hj]
   split at h
   ·rename_i h1;cases h;simp only [yT,yo,y8] at h1;obtain ⟨⟨h1,rfl⟩,hj⟩:=h1;obtain ⟨u,g1,g2⟩:=Ak.cell hr (XB hv hj);rw [(dv hj).1,(dv hj).2] at g2;exact MH (NV R hk hp hr) h1 g1 (Pa g2)
   ·split at h
    ·rename_i h2;cases h;simp only [yT,yo] at h2;obtain ⟨⟨h2,rfl⟩,rfl⟩:=h2;obtain ⟨h3,ti,hi,rfl⟩:=ZF h2;refine Wm (fun _=>NV R hk hp hr) h3 hi fun c hc=>?_
     obtain ⟨u,g1,g2⟩:=Ak.cell hr (XB hv hc);rw [(dv hc).1,(dv hc).2] at g2;exact ⟨u,by simpa [zN] using g1,Pa g2⟩
    ·cases h
  ·rename_i n ls lk hk;obtain ⟨p',BJ,vs,hS⟩:=R.hr.obj k _ hk;have e:p'=p:=yY (BJ.symm.trans hp);subst e;split at h
   ·rename_i h1;cases h;simp only [yT,yo] at h1;obtain ⟨⟨h1,rfl⟩,rfl⟩:=h1;obtain ⟨cs,tt,q1,q2,q3,q4⟩:=hS.row;have hi:i<vs.size:=by rw [hS.size];exact hv
    have q5:=q4 i hv;rw [zB hi] at q5;refine MH (u:=vs[i]) (R.hr.cel k _ p' p'.blk hk hp hS.blk).2.1 h1 ?_ ⟨p',vs,hp,hS.val,zB hi⟩;unfold World.cell?;simp [q1,q5]
   ·cases h
  ·rename_i ls hk;obtain ⟨p',BJ,vs,hS⟩:=R.hr.obj k _ hk;have e:p'=p:=yY (BJ.symm.trans hp);subst e;split at h
   ·rename_i h1;cases h;simp only [yT,yo] at h1;obtain ⟨⟨h1,rfl⟩,rfl⟩:=h1;obtain ⟨cs,tt,q1,q2,q3,q4⟩:=hS.row;have hi:i+1<vs.size:=by rw [hS.size];omega
    have q5:=q4 i hv;rw [zB hi] at q5;refine MH (u:=vs[i+1]) (R.hr.cel k _ p' p'.blk hk hp hS.blk).2.1 h1 ?_ ⟨p',vs,hp,hS.val,zB hi⟩;unfold World.cell?;simp [q1,q5]
   ·cases h
  ·cases h
 ·cases h
theorem Yl.pure {M:Nat -> Prop} {s:Sem Value} {d:DV} {v:Value} (h: ∀ W,s.run P W= .ok v W) (hr:AO M w d ρ v):Yl P N w M ρ s d:=⟨v,fun W _=>h W,hr⟩
theorem gH {t:TypeId} {m:Nat} (h:Mw P t m=true):P.underlying t=some (.slice (P.elem t))/\ (∃ i,P.info? (P.elem t)=some i/\ i.size=m)/\ m≠0:=by
 unfold Mw at h;split at h
 ·rename_i e he;have:P.elem t=e:=by unfold Program.elem;rw [he]
  rw [this];refine ⟨he,?_⟩;split at h
  ·simp only [yT,yo,zl] at h;exact ⟨⟨_,by assumption,h.1⟩,h.2⟩
  ·cases h
 ·cases h
theorem Yz {t:TypeId} {n m:Nat} (h:RM P t=some (n,m)):P.underlying t=some (.array (P.arrayLen t) (P.elem t))/\ P.arrayLen t=n/\ ∃ i,P.info? (P.elem t)=some i/\ i.size=m:=by
 unfold RM at h;split at h
 ·rename_i n' e he;have h1:P.elem t=e:=by unfold Program.elem;rw [he]
  have h2:P.arrayLen t=n':=by unfold Program.arrayLen;rw [he]
  rw [h1,h2];split at h
  ·split at h
   ·cases h
   ·cases h;exact ⟨he,rfl,_,by assumption,rfl⟩
  ·cases h
 ·cases h
theorem IS (b o n:Nat):Addr.add ⟨b,o,none⟩ n=⟨b,o+n,none⟩:=by
 unfold Addr.add
 by_cases h:n=0
 ·subst h;rfl
 ·simp [h]
theorem SI {t:TypeId} {m b o len cap:Nat} {k:IntKind} {n:Int} (h:Mw P t m=true) (h1:0<=n) (h2:n<len) (W:World):
 (Instr.indexAt t (.slice (some ⟨b,o,none⟩) len cap) (.int k n)).run P W= .ok (.pointer (some ⟨b,o+n.toNat*m,none⟩)) W:=by
 obtain ⟨hu,⟨i,hi,rfl⟩,_⟩:=gH h;rw [run_indexAt_slice W t _ len cap k n hu,yP ⟨h1,h2⟩,If hi];simp only [Result.andThen,IS]
theorem rR (R:Ad P Γ N S ρ a w) {t:TypeId} {x d:DV} {vc:Prop} {v:Value} {k:IntKind} {n:Int} (hx:AO (MS N S.h ρ) w x ρ v) (h:XD P t x n=some (d,vc)) (hv:vc):
 Yl P N w (MS N S.h ρ) ρ (Instr.indexAt t v (.int k n)) d:=by
 unfold XD at h;split at h
 ·rename_i l;obtain ⟨ad,cap,rfl,h1,h2,h3⟩:=hx;split at h
  ·rename_i he;cases h;obtain ⟨b,o,rfl,hM,hc⟩:=h3 n.toNat (by omega);refine Yl.pure (fun W=>SI he hv.1 hv.2 W) ⟨b,o+n.toNat*1,rfl,fun j hj=>⟨hM,_,?_,rfl⟩⟩;have:j=0:=by omega
   subst this;simpa using hc
  ·cases h
 ·rename_i l;obtain ⟨ad,cap,rfl,h1,h2,h3⟩:=hx;split at h
  ·rename_i he;cases h;obtain ⟨b,o,rfl,hM,hc⟩:=h3 n.toNat (by omega);refine Yl.pure (fun W=>SI he hv.1 hv.2 W) ⟨b,o+n.toNat*1,rfl,fun j hj=>⟨hM,_,?_,rfl⟩⟩;have:j=0:=by omega
   subst this;simpa using hc
  ·cases h
 ·rename_i m c f;obtain ⟨ad,cap,rfl,h1,h2,h3⟩:=hx;split at h
  ·rename_i he;cases h;have hm:=(gH he).2;obtain ⟨b,o,u,rfl,hM,hc,hr⟩:=h3 n.toNat 0 (by omega) (by omega);refine Yl.pure (fun W=>SI he hv.1 hv.2 W) ⟨b,o+n.toNat*m,rfl,fun j hj=>?_⟩;obtain ⟨b',o',u',e,u0,Mm,Cz⟩:=h3 n.toNat j (by omega) hj;cases e;exact ⟨u0,u',by rw [zN];exact Mm,Cz⟩
  ·cases h
 ·rename_i k' m off c;obtain ⟨p,cap,hp,rfl,h1,h2,h3⟩:=hx;split at h
  ·rename_i he;cases h;exact Yl.pure (fun W=>SI he hv.1 hv.2 W) ⟨p,hp,by rw [zN,←zAH];rfl⟩
  ·cases h
 ·rename_i k' j;obtain ⟨p,hp,rfl⟩:=hx;split at h
  ·rename_i len sz ha;cases h;obtain ⟨hu,hl,i,hi,rfl⟩:=Yz ha;refine Yl.pure (fun W=>?_) ⟨p,hp,rfl⟩;rw [run_indexAt_array W t _ k n hu,yP ⟨hv.1,by rw [hl];exact hv.2⟩,If hi];simp only [Result.andThen,IS,zN]
  ·cases h
 ·rename_i k' m i0;obtain ⟨p,hp,rfl⟩:=hx;split at h
  ·rename_i len sz ha;split at h
   ·rename_i A5;subst A5;cases h;obtain ⟨hu,hl,i,hi,rfl⟩:=Yz ha;refine Yl.pure (fun W=>?_) ⟨p,hp,rfl⟩;rw [run_indexAt_array W t _ k n hu,yP ⟨hv.1,by rw [hl];exact hv.2⟩,If hi];simp only [Result.andThen,IS,zN,zAH,yt,zAb]
   ·cases h
  ·cases h
 ·rename_i m f;obtain ⟨b,o,rfl,hc⟩:=UG hx;split at h
  ·rename_i len sz ha;split at h
   ·rename_i A5;cases h;obtain ⟨hu,hl,i,hi,rfl⟩:=Yz ha;refine Yl.pure (fun W=>?_) ⟨b,o+n.toNat*i.size,rfl,fun j hj=>?_⟩
    ·rw [run_indexAt_array W t _ k n hu,yP ⟨hv.1,by rw [hl];exact hv.2⟩,If hi];simp only [Result.andThen,IS]
    ·obtain ⟨hM,u,h1,h2⟩:=hc (n.toNat*i.size+j) (by omega);exact ⟨hM,u,by rw [zN];exact h1,KW hj h2⟩
   ·cases h
  ·cases h
 ·cases h
theorem my {op:BinOp} {k:IntKind} {x y:Int} {d:DV} {vc:Prop} (t:TypeId) (h:Uq op k x y=some (d,vc)) (M:Nat -> Prop):Yl P N w M ρ (binOp op t (.int k x) (.int k y)) d:=by
 cases op <;> simp only [Uq,ze,zv,reduceCtorEq] at h <;> obtain ⟨rfl,-⟩:=h
 ·exact Yl.pure (fun W=>by rw [binOp_add];rfl) rfl
 ·exact Yl.pure (fun W=>by rw [binOp_sub];rfl) rfl
 ·exact Yl.pure (fun W=>by rw [binOp_mul];rfl) rfl
 ·exact Yl.pure (fun W=>by rw [binOp_and];rfl) rfl
 ·exact Yl.pure (fun W=>by rw [binOp_or];rfl) rfl
 ·exact Yl.pure (fun W=>by rw [binOp_xor];rfl) rfl
 ·exact Yl.pure (fun W=>by rw [binOp_andNot];rfl) rfl
 ·exact Yl.pure (fun W=>by rw [binOp_eql];rfl) rfl
 ·exact Yl.pure (fun W=>by rw [binOp_neq];rfl) rfl
 ·exact Yl.pure (fun W=>by rw [binOp_lss];rfl) rfl
 ·exact Yl.pure (fun W=>by rw [binOp_leq];rfl) rfl
 ·exact Yl.pure (fun W=>by rw [binOp_gtr];rfl) rfl
 ·exact Yl.pure (fun W=>by rw [binOp_geq];rfl) rfl
theorem v8 {op:BinOp} {t:TypeId} {x y:Operand} {k:IntKind} {n:Int} {v:Value}:eqGuard op t x y (.int k n) v=pure ():=by
 cases op <;> rfl
theorem xR {M:Nat -> Prop} {op:BinOp} {t:TypeId} {x y:DV} {vx vy:Value} {d:DV} {vc:Prop} (ox oy:Operand) (hx:AO M w x ρ vx) (hy:AO M w y ρ vy) (h:Ur (Og P t) op x y=some (d,vc)) (hv:vc):
 Yl P N w M ρ (do eqGuard op t ox oy vx vy;binOp op t vx vy) d:=by
 have key: ∀ {k k':IntKind} {n n':Int},vx= .int k n -> vy= .int k' n' -> Yl P N w M ρ (binOp op t (.int k n) (.int k' n')) d -> Yl P N w M ρ (do eqGuard op t ox oy vx vy;binOp op t vx vy) d:=by
  intro k k' n n' e1 e2 hY;subst e1;subst e2;rw [v8];exact hY
 have hb:Og P t=1 -> P.underlying t=some .bool:=fun h=>by
  unfold Og at h;split at h
  ·assumption
  ·cases h
  ·cases h
 have XM:Og P t=2 -> ∃ e,P.underlying t=some (.slice e):=fun h=>by
  unfold Og at h;split at h
  ·cases h
  ·exact ⟨_,by assumption⟩
  ·cases h
 have f9: ∀ {e:TypeId} {a:Addr} {l c:Nat} (W:World),P.underlying t=some (.slice e) -> (do eqGuard .eql t ox oy (.slice (some a) l c) (.slice none 0 0);binOp .eql t (.slice (some a) l c) (.slice none 0 0):Sem Value).run P W= .ok (.bool false) W:=by
  intro e a l c W hu;have h1:eqGuard .eql t ox oy (.slice (some a) l c) (.slice none 0 0)=pure ():=rfl;rw [h1]
  show (binOp .eql t (.slice (some a) l c) (.slice none 0 0)).run P W=_
  simp only [binOp];simp [run_equal_slice_nil W t e (some a) l c hu]
 have pN: ∀ {e:TypeId} {a:Addr} {l c:Nat} (W:World),P.underlying t=some (.slice e) -> (do eqGuard .neq t ox oy (.slice (some a) l c) (.slice none 0 0);binOp .neq t (.slice (some a) l c) (.slice none 0 0):Sem Value).run P W= .ok (.bool true) W:=by
  intro e a l c W hu;have h1:eqGuard .neq t ox oy (.slice (some a) l c) (.slice none 0 0)=pure ():=rfl;rw [h1]
  show (binOp .neq t (.slice (some a) l c) (.slice none 0 0)).run P W=_
  simp only [binOp];simp [run_equal_slice_nil W t e (some a) l c hu]
 unfold Ur at h;split at h
 ·split at h
  ·rename_i e;cases h;have e1:vx= .bool _:=hx;have e2:vy= .bool _:=hy;subst e1;subst e2;exact Yl.pure (fun W=>run_eql_bool W t _ _ (hb e)) rfl
  ·cases h
 ·split at h
  ·rename_i e;cases h;have e1:vx= .bool _:=hx;have e2:vy= .bool _:=hy;subst e1;subst e2;exact Yl.pure (fun W=>run_neq_bool W t _ _ (hb e)) rfl
  ·cases h
 ·split at h
  ·rename_i e;cases h;obtain ⟨e0,he⟩:=XM e;obtain ⟨ad,cap,rfl,h1,h2,h3⟩:=hx;obtain ⟨b,o,rfl,_⟩:=h3 0 hv;have e2:vy= .slice none 0 0:=hy;subst e2;exact Yl.pure (fun W=>f9 W he) rfl
  ·cases h
 ·split at h
  ·rename_i e;cases h;obtain ⟨e0,he⟩:=XM e;obtain ⟨ad,cap,rfl,h1,h2,h3⟩:=hx;obtain ⟨b,o,rfl,_⟩:=h3 0 hv;have e2:vy= .slice none 0 0:=hy;subst e2;exact Yl.pure (fun W=>f9 W he) rfl
  ·cases h
 ·split at h
  ·rename_i e;cases h;obtain ⟨e0,he⟩:=XM e;obtain ⟨ad,cap,rfl,h1,h2,h3⟩:=hx;obtain ⟨b,o,rfl,_⟩:=h3 0 hv;have e2:vy= .slice none 0 0:=hy;subst e2;exact Yl.pure (fun W=>pN W he) rfl
  ·cases h
 ·cases h;refine key hx hy ?_;exact Yl.pure (fun W=>by rw [binOp_shl,shift_shl _ _ _ _ hv.1 hv.2];rfl) rfl
 ·cases h;refine key hx hy ?_;exact Yl.pure (fun W=>by rw [binOp_shr,shift_shr _ _ _ _ hv.1 hv.2];rfl) rfl
 ·split at h
  ·rename_i e;subst e;cases h;exact key hx hy (Yl.pure (fun W=>by rw [binOp_quo,Op.intDiv,yb hv];rfl) rfl)
  ·cases h
 ·split at h
  ·rename_i e;subst e;cases h;exact key hx hy (Yl.pure (fun W=>by rw [binOp_rem,Op.intDiv,yb hv];rfl) rfl)
  ·cases h
 ·split at h
  ·rename_i e;subst e;exact key hx hy (my t h M)
  ·cases h
 ·cases h
theorem Gx {ρ':Operand -> Value} {o:Oper} {s:Sem Value} {M:Nat -> Prop} {d:DV} (he:execOp ρ' o=(do pure (.value (←s)))) (h:Yl P N w M ρ s d): ∃ v,(∀ W,Keep N w W -> (execOp ρ' o).run P W= .ok (.value v) W)/\ AO M w d ρ v:=by
 obtain ⟨v,h1,h2⟩:=h;refine ⟨v,fun W hE=>?_,h2⟩;rw [he,yj,h1 W hE];rfl
theorem vk {s:TypeId} {f off sz:Nat} (h:UN P s f=some (off,sz)): ∃ fs fd i,P.underlying s=some (.struct fs)/\ fs[f]? =some fd/\ fd.offset=off/\ P.info? fd.type=some i/\ i.size=sz/\ sz≠0:=by
 unfold UN at h;split at h
 ·rename_i fs hs;split at h
  ·rename_i fd hf;split at h
   ·rename_i i hi;split at h
    ·cases h
    ·cases h;exact ⟨fs,fd,i,hs,hf,rfl,hi,rfl,by assumption⟩
   ·cases h
  ·cases h
 ·cases h
theorem Vr {s:TypeId} {f off sz b o:Nat} (h:UN P s f=some (off,sz)) (W:World):(Instr.fieldAt s (.pointer (some ⟨b,o,none⟩)) f).run P W= .ok (.pointer (some ⟨b,o+off,none⟩)) W:=by
 obtain ⟨fs,fd,i,h1,h2,rfl,h4,rfl,h6⟩:=vk h;unfold Instr.fieldAt;rw [yj,zI h1];simp only [Result.andThen,h2,Instr.sureAddr];simp only [yj,zAy,Result.andThen,fieldPlace,If h4,yb h6,IS]
theorem qv {t:TypeId} {k:IntKind} (h:W7 P t=some k):P.underlying t=some (.int k):=by
 unfold W7 at h;split at h
 ·cases h;assumption
 ·cases h
theorem PM {t ty:TypeId} {e:TypeId} {ad:Option Addr} {n c:Nat} (h:P.underlying t=some (.slice e)) (W:World):(Builtin.len_ #[t] ty #[.slice ad n c]).run P W= .ok (.int .i64 n) W:=by
 simp [Builtin.len_,zI h,goInt]
theorem mm {t ty:TypeId} {s:ByteArray} (h:P.underlying t=some .string) (W:World):(Builtin.len_ #[t] ty #[.string s]).run P W= .ok (.int .i64 s.size) W:=by
 simp [Builtin.len_,zI h,goInt]
theorem YS {M:Nat -> Prop} {ρ':Operand -> Value} {o:Oper} {c:Call} {b:Builtin} {d:DV} {s:Sem Value} (ho:o.op= .call c) (hc:c.callee= .builtin b)
 (hb:builtin b c.argTypes o.type (c.args.map fun | .const _=>true | _=>false) (c.args.map ρ')=(do pure (.value (←s)))) (h:Yl P N w M ρ s d):
 ∃ v,(∀ W,Keep N w W -> (execOp ρ' o).run P W= .ok (.value v) W)/\ AO M w d ρ v:=by
 refine Gx (s:=s) ?_ h;rw [←hb];unfold execOp;rw [ho]
 show (resolve ρ' c o.type>>=fun d=>invoke d.target d.args)=_
 unfold resolve;rw [hc];rfl
theorem qL {M:Nat -> Prop} {t ty:TypeId} {x d:DV} {vc:Prop} {v:Value} (hx:AO M w x ρ v) (h:TM P t x=some (d,vc)):Yl P N w M ρ (Builtin.len_ #[t] ty #[v]) d:=by
 unfold TM at h;split at h
 ·rename_i e' hu;cases h;rw [show v=_ from hx];exact Yl.pure (fun W=>PM hu W) rfl
 ·rename_i e' l hu;cases h;obtain ⟨ad,cap,rfl,_⟩:=hx;exact Yl.pure (fun W=>PM hu W) rfl
 ·rename_i e' l hu;cases h;obtain ⟨ad,cap,rfl,_⟩:=hx;exact Yl.pure (fun W=>PM hu W) rfl
 ·rename_i e' m n f hu;cases h;obtain ⟨ad,cap,rfl,_⟩:=hx;exact Yl.pure (fun W=>PM hu W) rfl
 ·rename_i e' k m off n hu;cases h;obtain ⟨p,cap,_,rfl,_⟩:=hx;exact Yl.pure (fun W=>PM hu W) rfl
 ·rename_i s hu;cases h;rw [show v=_ from hx];exact Yl.pure (fun W=>mm hu W) rfl
 ·cases h
theorem Zf {α:Type} {l:Array α} {x:α} (h:l.toList= [x]):l= #[x]:=by cases l;simp at h;rw [h]
theorem Rl {α:Type} {l:Array α} {x y:α} (h:l.toList= [x,y]):l= #[x,y]:=by cases l;simp at h;rw [h]
theorem xK (R:Ad P Γ N S ρ a w) (o:Oper) {c:Call} {b:Builtin} {d:DV} {vc:Prop} (ho:o.op= .call c) (hc:c.callee= .builtin b) (h:Up P S b c.args.toList c.argTypes.toList=some (d,vc)):
 ∃ v,(∀ W,Keep N w W -> (execOp a.eval o).run P W= .ok (.value v) W)/\ AO (MS N S.h ρ) w d ρ v:=by
 have Dp:=fun x=>Bm R x
 unfold Up at h;split at h
 ·split at h
  ·rename_i x ha;split at h
   ·rename_i t ht;exact YS (s:=Builtin.len_ #[t] o.type #[a.eval x]) ho hc (by rw [Zf ha,Zf ht];simp [builtin]) (qL (Dp x) h)
   ·cases h
  ·cases h
 ·split at h
  ·rename_i x y ha;have hx:=Dp x;have hy:=Dp y;unfold We at h;split at h
   ·rename_i k n k' n' e1 e2;cases h;rw [e1] at hx;rw [e2] at hy;refine YS (s:=Builtin.max_ c.argTypes o.type #[a.eval x,a.eval y]) ho hc (by rw [Rl ha];simp [builtin]) ?_;rw [show a.eval x=_ from hx,show a.eval y=_ from hy];exact Yl.pure (fun W=>by simp [Builtin.max_,Builtin.max2]) rfl
   ·cases h
  ·cases h
 ·split at h
  ·rename_i x y ha;have hx:=Dp x;have hy:=Dp y;unfold Wc at h;split at h
   ·rename_i k n k' n' e1 e2;cases h;rw [e1] at hx;rw [e2] at hy;refine YS (s:=Builtin.min_ c.argTypes o.type #[a.eval x,a.eval y]) ho hc (by rw [Rl ha];simp [builtin]) ?_;rw [show a.eval x=_ from hx,show a.eval y=_ from hy];exact Yl.pure (fun W=>by simp [Builtin.min_,Builtin.min2]) rfl
   ·cases h
  ·cases h
 ·cases h
theorem bx (R:Ad P Γ N S ρ a w) (o:Oper) {d:DV} {vc:Prop} (h:Nb P S o.op=some (d,vc)) (hv:vc):
 ∃ v,(∀ W,Keep N w W -> (execOp a.eval o).run P W= .ok (.value v) W)/\ AO (MS N S.h ρ) w d ρ v:=by
 have Dp:=fun x=>Bm R x
 unfold Nb at h;split at h
 ·rename_i x ho;cases h;exact ⟨a.eval x,fun W _=>by unfold execOp;rw [ho];rfl,Dp x⟩
 ·rename_i x ho;cases h;exact ⟨a.eval x,fun W _=>by unfold execOp;rw [ho];rfl,Dp x⟩
 ·rename_i c x y ho;have hc:=Dp c;split at h
  ·rename_i e;cases h;rw [e] at hc;exact ⟨a.eval x,fun W _=>by unfold execOp;rw [ho];simp only [show a.eval c= .bool true from hc];rfl,Dp x⟩
  ·rename_i e;cases h;rw [e] at hc;exact ⟨a.eval y,fun W _=>by unfold execOp;rw [ho];simp only [show a.eval c= .bool false from hc];rfl,Dp y⟩
  ·cases h
 ·rename_i t x ho;exact Gx (by unfold execOp;rw [ho]) (dH R (Dp x) h hv)
 ·rename_i op t x y t' ho;exact Gx (by unfold execOp;rw [ho]) (xR x y (Dp x) (Dp y) h hv)
 ·rename_i op t x ho;have hx:=Dp x;refine Gx (s:=Op.unary op (a.eval x)) (by unfold execOp;rw [ho]) ?_;split at h
  ·rename_i b e;cases h;rw [e] at hx;rw [show a.eval x= .bool b from hx];exact Yl.pure (fun W=>rfl) rfl
  ·rename_i k n e;cases h;rw [e] at hx;rw [show a.eval x= .int k n from hx];exact Yl.pure (fun W=>rfl) rfl
  ·rename_i k n e;cases h;rw [e] at hx;rw [show a.eval x= .int k n from hx];exact Yl.pure (fun W=>rfl) rfl
  ·cases h
 ·rename_i ts td x ho;have hx:=Dp x;split at h
  ·rename_i dd k k' n hs hd e;cases h;rw [e] at hx;refine Gx (s:=convert ts td (a.eval x)) (by unfold execOp;rw [ho]) ?_;rw [show a.eval x= .int k' n from hx];refine Yl.pure (v:=.int k (k.wrap n)) (fun W=>?_) rfl;simp [convert,zI hs,zI (qv hd),Conv.intToInt]
  ·cases h
 ·rename_i x ho;have hx:=Dp x;split at h
  ·rename_i m f e;cases h;rw [e] at hx;obtain ⟨b,oo,hb,hr⟩:=UG hx;exact ⟨_,fun W _=>by unfold execOp;rw [ho];simp only [hb];rfl,b,oo,rfl,hr⟩
  ·rename_i k j e;cases h;rw [e] at hx;obtain ⟨p,hp,hb⟩:=hx;exact ⟨_,fun W _=>by unfold execOp;rw [ho];simp only [hb];rfl,p,hp,rfl⟩
  ·rename_i k m i j e;cases h;rw [e] at hx;obtain ⟨p,hp,hb⟩:=hx;exact ⟨_,fun W _=>by unfold execOp;rw [ho];simp only [hb];rfl,p,hp,rfl⟩
  ·rename_i g m c e;cases h;rw [e] at hx;obtain ⟨lb,hb,hr⟩:=hx;exact ⟨_,fun W _=>by unfold execOp;rw [ho];simp only [hb];rfl,lb,rfl,hr⟩
  ·cases h
 ·rename_i st x f ho;have hx:=Dp x;split at h
  ·rename_i off sz hf;refine Gx (s:=Instr.fieldAt st (a.eval x) f) (by unfold execOp;rw [ho]) ?_;split at h
   ·rename_i m g e;split at h
    ·cases h;rw [e] at hx;obtain ⟨b,oo,hb,hr⟩:=UG hx;rw [hb];refine Yl.pure (fun W=>Vr hf W) ⟨b,_,rfl,fun j hj=>?_⟩;obtain ⟨g1,u,g2,g3⟩:=hr (off+j) (by omega);exact ⟨g1,u,by rw [zN];exact g2,KW hj g3⟩
    ·cases h
   ·rename_i k j e;cases h;rw [e] at hx;obtain ⟨p,hp,hb⟩:=hx;rw [hb];exact Yl.pure (fun W=>Vr hf W) ⟨p,hp,by rw [zN]⟩
   ·rename_i k m i j e;cases h;rw [e] at hx;obtain ⟨p,hp,hb⟩:=hx;rw [hb];exact Yl.pure (fun W=>Vr hf W) ⟨p,hp,by rw [zN,zN]⟩
   ·cases h
  ·cases h
 ·rename_i t x i ho;have hi:=Dp i;split at h
  ·rename_i k n e;rw [e] at hi;refine Gx (s:=Instr.indexAt t (a.eval x) (a.eval i)) (by unfold execOp;rw [ho]) ?_;rw [show a.eval i= .int k n from hi];exact rR R (Dp x) h hv
  ·cases h
 ·rename_i x i ho;have hx:=Dp x;split at h
  ·rename_i m f e;split at h
   ·rename_i hi;cases h;rw [e] at hx;obtain ⟨cs,hb,hs,hr⟩:=hx;obtain ⟨u,g1,g2⟩:=hr i hi;refine Gx (s:=Instr.extract (a.eval x) i) (by unfold execOp;rw [ho]) ?_;rw [hb];exact Yl.pure (fun W=>by simp [Instr.extract,g1]) g2
   ·cases h
  ·cases h
 ·rename_i g first c ho
  split at h
  ·rename_i hf;cases h;refine ⟨.func (.func g) #[] (c.map a.eval),fun W _=>?_,c.map a.eval,rfl,by simp,fun j hj=>?_⟩
   ·unfold execOp;rw [ho];have:first= #[]:=zAZ hf
    subst this;simp [Instr.makeFunc]
   ·refine ⟨a.eval (c.getD j (.const undef)),by simp [hj],KW hj (Dp _)⟩
  ·cases h
 ·rename_i c ho;split at h
  ·rename_i b hc;exact xK R o ho hc h
  ·cases h
 ·cases h
end
end Go.Proofs.YtgkhhfnhacibcaaGreatDoor
namespace Go.Proofs.YtgkhhfnhacibcaaGreatDoor
abbrev yQ:=@List.getElem?_eq_getElem
abbrev yX:=@Option.bind_some
abbrev yi:=@List.length_replicate
abbrev yz:=@List.length_append
abbrev y9:=@List.getElem?_map
abbrev zD:=@Option.map_some
abbrev zO:=@Int.le_refl
abbrev zR:=@Nat.mul_one
abbrev zY:=@List.length_cons
abbrev zf:=@List.length_map
abbrev zk:=@List.getElem_of_mem
abbrev zp:=@List.eq_nil_of_length_eq_zero
abbrev z8:=@Option.getD_some
abbrev zAM:=@Go.heap_alloc_new
abbrev zAO:=@Nat.div_lt_iff_lt_mul
abbrev zA1:=@List.getElem?_range
abbrev zBC:=@List.flatMap_cons
abbrev zBD:=@List.size_toArray
abbrev zBV:=@Nat.mod_lt
end Go.Proofs.YtgkhhfnhacibcaaGreatDoor
namespace Go.Proofs.YtgkhhfnhacibcaaGreatDoor
open Go.RowKit
def Hy:DV -> Bool
 | .any=>false
 | .agg .. =>false
 | .tup .. =>false
 | .it _=>false
 | .yl _=>false
 | .mri .. =>false
 | _=>true
def IK:DV -> Option (List DV)
 | .agg m f=>some ((List.range m).map f)
 | .any=>none
 | .tup .. =>none
 | .it _=>none
 | .yl _=>none
 | .mri .. =>none
 | d=>some [d]
def Nc:DV -> Bool
 | .int .. =>true
 | .bool _=>true
 | .str _=>true
 | .nils=>true
 | .ints _=>true
 | .bools _=>true
 | .sl .. =>true
 | _=>false
section
variable {P:Program} {Γ:A9} {N:Nat -> Prop} {S:St} {ρ:List AN} {a:Act} {w:World}
theorem S5 {M:Nat -> Prop} {d:DV} {v:Value} (h:Hy d=true) (hr:AO M w d ρ v):v.oneCell'=true/\ v.cells= #[v]:=by
 have key:(∀ cs,v≠.agg cs) -> (∀ cs,v≠.tuple cs) -> v.oneCell'=true/\ v.cells= #[v]:=fun h1 h2=>by
  cases v <;> first | exact ⟨rfl,rfl⟩ | exact absurd rfl (h1 _) | exact absurd rfl (h2 _)
 cases d with
 | any=>cases h
 | agg m f=>cases h
 | tup m f=>cases h
 | nils=>exact key (fun cs e=>by rw [hr] at e;cases e) (fun cs e=>by rw [hr] at e;cases e)
 | int k n=>exact key (fun cs e=>by rw [hr] at e;cases e) (fun cs e=>by rw [hr] at e;cases e)
 | bool b=>exact key (fun cs e=>by rw [hr] at e;cases e) (fun cs e=>by rw [hr] at e;cases e)
 | str s=>exact key (fun cs e=>by rw [hr] at e;cases e) (fun cs e=>by rw [hr] at e;cases e)
 | ints l=>obtain ⟨_,_,rfl,_⟩:=hr;exact ⟨rfl,rfl⟩
 | bools l=>obtain ⟨_,_,rfl,_⟩:=hr;exact ⟨rfl,rfl⟩
 | sl m n f=>obtain ⟨_,_,rfl,_⟩:=hr;exact ⟨rfl,rfl⟩
 | fp m f=>obtain ⟨_,_,rfl,_⟩:=hr;exact ⟨rfl,rfl⟩
 | ref k j=>obtain ⟨_,_,rfl⟩:=hr;exact ⟨rfl,rfl⟩
 | msl k m off n=>obtain ⟨_,_,_,rfl,_⟩:=hr;exact ⟨rfl,rfl⟩
 | mp k m i j=>obtain ⟨_,_,rfl⟩:=hr;exact ⟨rfl,rfl⟩
 | fn g m c=>obtain ⟨_,rfl,_⟩:=hr;exact ⟨rfl,rfl⟩
 | it k=>cases h
 | yl l=>cases h
 | mse k m o n=>obtain ⟨_,_,_,_,rfl,_⟩:=hr;exact ⟨rfl,rfl⟩
 | mri k i=>cases h
 | cst u=>obtain ⟨rfl,hu⟩:=hr;cases v <;> first | exact ⟨rfl,rfl⟩ | (cases hu;done)
theorem Q2 {M:Nat -> Prop} {d:DV} {v:Value} {l:List DV} (h:IK d=some l) (hr:AO M w d ρ v):v.cells.size=l.length/\ ∀ j,j<l.length -> ∃ u,v.cells[j]? =some u/\ AO M w (l.getD j .any) ρ u:=by
 have one:Hy d=true -> l= [d] -> v.cells.size=l.length/\ ∀ j,j<l.length -> ∃ u,v.cells[j]? =some u/\ AO M w (l.getD j .any) ρ u:=by
  intro h1 h2;subst h2;rw [(S5 h1 hr).2];refine ⟨rfl,fun j hj=>?_⟩;have:j=0:=by simpa using hj
  subst this;exact ⟨v,rfl,hr⟩
 cases d with
 | any=>cases h
 | tup m f=>cases h
 | it k=>cases h
 | yl l=>cases h
 | mse k m o n=>cases h;exact one rfl rfl
 | mri k i=>cases h
 | cst u=>exact one rfl (yY h).symm
 | agg m f=>
  cases h;obtain ⟨cs,rfl,hs,hc⟩:=hr;refine ⟨by simpa [Value.cells] using hs,fun j hj=>?_⟩;have BM:j<m:=by simpa using hj
  obtain ⟨u,h1,h2⟩:=hc j BM;exact ⟨u,h1,by simpa [BM] using h2⟩
 | nils=>cases h;exact one rfl rfl
 | int k n=>cases h;exact one rfl rfl
 | bool b=>cases h;exact one rfl rfl
 | str s=>cases h;exact one rfl rfl
 | ints l=>cases h;exact one rfl rfl
 | bools l=>cases h;exact one rfl rfl
 | sl m n f=>cases h;exact one rfl rfl
 | fp m f=>cases h;exact one rfl rfl
 | ref k j=>cases h;exact one rfl rfl
 | msl k m off n=>cases h;exact one rfl rfl
 | mp k m i j=>cases h;exact one rfl rfl
 | fn g m c=>cases h;exact one rfl rfl
theorem WE {M:Nat -> Prop} {d:DV} {v:Value} (h:Nc d=true) (hr:AO M w d ρ v):AO M w d [] v:=by
 cases d <;> first | exact hr | (cases h;done)
structure C6 (P:Program) (Γ:A9) (N:Nat -> Prop) (h:DH) (ρ:List AN) (w:World) (ext:Bool) (d:DV) (h':DH) (v:Value) (w':World):Prop where
 ex: ∃ ρ',Bb P Γ N h' ρ' w'/\ AO (MS N h' ρ') w' d ρ' v/\ BO h ρ w h' ρ' w'/\ (∀ (k:Nat) (p:AN),ρ[k]? =some p -> ρ'[k]? =some p)
 ext:ext=true -> Au w w'
def BT (P:Program) (s:Sem Next) (w:World) (G:Value -> World -> Prop):Prop:=
 (∃ v w',s.run P w= .ok (.value v) w'/\ G v w')∨(∃ w',s.run P w= .ok .skip w'/\ G undef w')∨
 (∃ f args w',s.run P w= .ok (.enter f args) w'/\ Calls P f args w' fun e CC=>∃ v,e= .returned v/\ G v CC)
theorem BT.value {G:Value -> World -> Prop} {ρ':Operand -> Value} {o:Oper} {s:Sem Value} {v:Value} {w':World} (he:execOp ρ' o=(do pure (.value (←s)))) (h:s.run P w= .ok v w') (hG:G v w'):BT P (execOp ρ' o) w G:=
 .inl ⟨v,w',by rw [he,yj,h];rfl,hG⟩
theorem BT.skip {G:Value -> World -> Prop} {ρ':Operand -> Value} {o:Oper} {s:Sem Unit} {w':World} (he:execOp ρ' o=(do s;pure .skip)) (h:s.run P w= .ok () w') (hG:G undef w'):BT P (execOp ρ' o) w G:=
 .inr (.inl ⟨w',by rw [he,yj,h];rfl,hG⟩)
def Dr (w:World) (room:Nat):AN:=⟨w.heap.size,0,room,undef,fun b=>b=w.heap.size⟩
theorem OL (H:Bb P Γ N S.h ρ w) {cs:Array Value} {t:TypeId} {o:DO} {d:DV} {v:Value} {w1:World} (QO:Au w w1/\ w1.heap.size=w.heap.size)
 (ho: ∀ M ρ',Bi (MS N S.h ρ) w ρ M (w1.alloc (.cells cs t)) ρ' -> Db P M (w1.alloc (.cells cs t)) ρ' (Dr w cs.size) o)
 (hv: ∀ M ρ',ρ'[S.h.length]? =some (Dr w cs.size) -> AO M (w1.alloc (.cells cs t)) d ρ' v) (ext:Bool):
 C6 P Γ N S.h ρ w ext d (S.h++[some o]) v (w1.alloc (.cells cs t)):=by
 have hE:Au w (w1.alloc (.cells cs t)):=QO.1.allocR _;have hf: ∀ b,(Dr w cs.size).foot b -> w.heap.size<=b:=fun b hb=>Nat.le_of_eq (Eq.symm hb)
 have hb:(w1.alloc (.cells cs t)).heap[w.heap.size]? =some (.cells cs t (0,0)):=by rw [←QO.2];exact zAM w1 _
 refine ⟨⟨ρ++[Dr w cs.size],H.snoc hE (fun b hx=>⟨hf b hx,.cells (c:=cs) (t:=t) (z:=(0,0)) (by rw [show b=w.heap.size from hx];exact hb)⟩) (ho _ _ (Bi.snoc H hE hf)),?_,BO.snoc H hE hf,fun k p hk=>EC hk⟩,fun _=>hE⟩;exact hv _ _ (by rw [←H.len];simp)
theorem Lt {cs:Array Value} {t:TypeId} {w1:World} (hs:w1.heap.size=w.heap.size) {n:Nat} {R:Nat -> Value -> Prop} (hn:n<=cs.size) (hR: ∀ j,j<n -> ∃ u,cs[j]? =some u/\ R j u):Ak (w1.alloc (.cells cs t)) (Dr w cs.size) n R:=by
 refine ⟨rfl,cs,t,?_,by simpa [Dr] using hn,ym _,fun j hj=>by simpa [Dr] using hR j hj⟩
 show (w1.alloc (.cells cs t)).heap[w.heap.size]? =_
 rw [←hs];exact zAM w1 _
theorem xN (R:Ad P Γ N S ρ a w) {x:Operand} {t:TypeId} {l:List DV} (h:IK (Ac S.fr x)=some l) (o:Oper) (ho:o.op= .box t x) (ext:Bool):
 BT P (execOp a.eval o) w (C6 P Γ N S.h ρ w ext (.ref S.h.length 0) (S.h++[some (.cells l)])):=by
 obtain ⟨h1,h2⟩:=Q2 h (Bm R x);refine BT.value (s:=Instr.box t (a.eval x)) (by unfold execOp;rw [ho]) (v:=.pointer (some ⟨w.heap.size,0,none⟩)) (w':=w.alloc (.cells (a.eval x).cells t)) ?_ ?_
 ·rfl
 ·refine OL (d:=.ref S.h.length 0) R.hr ⟨Au.refl w,rfl⟩ (fun M ρ' O=>?_) (fun M ρ' hp=>⟨_,hp,rfl⟩) ext;refine Lt rfl (by omega) fun j hj=>?_
  obtain ⟨u,g1,g2⟩:=h2 j hj;exact ⟨u,g1,g2.out _ O⟩
theorem yA (R:Ad P Γ N S ρ a w) {t:TypeId} {i:TypeInfo} {z:Value} (hi:P.info? t=some i) (hz:i.zero=some z) (o:Oper) (ho:o.op= .alloc t) (ext:Bool):
 BT P (execOp a.eval o) w (C6 P Γ N S.h ρ w ext (.ref S.h.length 0) (S.h++[some (.cells (z.cells.toList.map FI))])):=by
 refine BT.value (s:=Instr.alloc t true (.tuple #[])) (by unfold execOp;rw [ho]) (v:=.pointer (some ⟨w.heap.size,0,none⟩)) (w':=w.alloc (.cells z.cells t)) ?_ ?_
 ·simp [Instr.alloc,zeroValue,typeInfo,hi,hz,newVar,newRow,newObj];rfl
 ·refine OL (d:=.ref S.h.length 0) R.hr ⟨Au.refl w,rfl⟩ (fun M ρ' O=>?_) (fun M ρ' hp=>⟨_,hp,rfl⟩) ext;refine Lt rfl (by simp) fun j hj=>?_
  have BM:j<z.cells.size:=by simpa using hj
  refine ⟨z.cells[j],by simp [BM],?_⟩;have:(z.cells.toList.map FI).getD j .any=FI z.cells[j]:=by simp [BM]
  rw [this];exact Ps _
def fy:Value -> Bool
 | .bool false=>true
 | _=>false
def U3 (z:Value):Bool:=decide (2<z.cells.size)&&z.cells.toList.all fy
theorem yB (R:Ad P Γ N S ρ a w) {t:TypeId} {i:TypeInfo} {z:Value} (hi:P.info? t=some i) (hz:i.zero=some z) (hb:U3 z=true) (o:Oper) (ho:o.op= .alloc t) (ext:Bool):
 BT P (execOp a.eval o) w (C6 P Γ N S.h ρ w ext (.mp S.h.length 1 0 0) (S.h++[some (.bools (List.replicate z.cells.size false))])):=by
 refine BT.value (s:=Instr.alloc t true (.tuple #[])) (by unfold execOp;rw [ho]) (v:=.pointer (some ⟨w.heap.size,0,none⟩)) (w':=w.alloc (.cells z.cells t)) ?_ ?_
 ·simp [Instr.alloc,zeroValue,typeInfo,hi,hz,newVar,newRow,newObj];rfl
 ·refine OL (d:=.mp S.h.length 1 0 0) R.hr ⟨Au.refl w,rfl⟩ (fun M ρ' O=>?_) (fun M ρ' hp=>⟨_,hp,rfl⟩) ext;refine Lt rfl (by simp) fun j hj=>?_
  have BM:j<z.cells.size:=by simpa using hj
  refine ⟨z.cells[j],by simp [BM],?_⟩;simp only [U3,yT,ya] at hb;have:=hb.2 z.cells[j] (by simp);unfold fy at this;split at this
  ·rename_i e;rw [e];simp [BM]
  ·cases this
inductive EK where
 | ints
 | bools
 | gen (m:Nat)
def J9 (P:Program) (t:TypeId):Option (EK×TypeId×TypeInfo×Value):=match P.underlying t with
 | some (.slice e)=>match P.info? e with
  | some i=>match i.zero with
   | some z=>if i.size=0 then none else if z.cells.size≠i.size then none else match P.underlying e with
    | some (.int .i64)=>if i.size=1 then (match z with | .int .i64 0=>some (.ints,e,i,z) | _=>none) else none
    | some .bool=>if i.size=1 then (match z with | .bool false=>some (.bools,e,i,z) | _=>none) else none
    | _=>some (.gen i.size,e,i,z)
   | none=>none
  | none=>none
 | _=>none
def EK.cells:EK -> Nat
 | .ints=>1
 | .bools=>1
 | .gen m=>m
theorem Qv {t:TypeId} {k:EK} {e:TypeId} {i:TypeInfo} {z:Value} (h:J9 P t=some (k,e,i,z)):P.underlying t=some (.slice e)/\ P.info? e=some i/\ i.zero=some z/\ i.size≠0/\ z.cells.size=i.size/\ k.cells=i.size/\
 (k= .ints -> z= .int .i64 0)/\ (k= .bools -> z= .bool false):=by
 unfold J9 at h
 repeat' (split at h)
 all_goals first
  | (cases h;done)
  | skip
 all_goals
  simp only [ze,zv] at h;obtain ⟨rfl,rfl,rfl,rfl⟩:=h;refine ⟨by assumption,by assumption,by assumption,by assumption,by simp_all,?_,?_,?_⟩
  ·simp_all [EK.cells]
  ·intro hk;first | rfl | cases hk
  ·intro hk;first | rfl | cases hk
theorem YK {s:Nat} (hs:0<s): ∀ (vs:List Value),(∀ v∈vs,v.cells.size=s) -> ∀ i j,i<vs.length -> j<s -> (vs.flatMap fun v=>v.cells.toList)[i*s+j]? =(vs[i]?).bind (fun v=>v.cells[j]?)
 | [],_,i,j,hi,_=>absurd hi (yg i)
 | v::vs,hv,i,j,hi,hj=>by
  have HN:v.cells.toList.length=s:=by simpa using hv v (by simp)
  rw [zBC];cases i with
  | zero=>rw [Nat.zero_mul,yt,yy (by omega)];simp
  | succ i=>
   rw [zC (by rw [HN,zBB];omega),HN,show (i+1)*s+j-s=i*s+j by rw [zBB];omega];rw [YK hs vs (fun v h=>hv v (by simp [h])) i j (by simpa using hi) hj];simp
def HL:DV -> Int
 | .int _ n=>n
 | _=>0
def RE:DV -> Bool
 | .bool b=>b
 | _=>false
def Jq:DV -> Bool
 | .int .i64 _=>true
 | _=>false
def W4:DV -> Bool
 | .bool _=>true
 | _=>false
def Oe (k:EK) (ds:List DV):Option DO:=match k with
 | .ints=>if ds.all Jq then some (.ints (ds.map HL)) else none
 | .bools=>if ds.all W4 then some (.bools (ds.map RE)) else none
 | .gen m=>if ds.all fun d=>(match IK d with | some l=>l.length==m&&l.all Nc | none=>false) then
  some (.arr m ds.length (fun i j=>match IK (ds.getD i .any) with | some l=>l.getD j .any | none=>.any)) else none
theorem Wy {M:Nat -> Prop} {d:DV} {v:Value} (h:Jq d=true) (hr:AO M w d ρ v):v= .int .i64 (HL d):=by
 unfold Jq at h;split at h
 ·exact hr
 ·cases h
theorem qs {M:Nat -> Prop} {d:DV} {v:Value} (h:W4 d=true) (hr:AO M w d ρ v):v= .bool (RE d):=by
 unfold W4 at h;split at h
 ·exact hr
 ·cases h
theorem xM {M:Nat -> Prop} {k:EK} {ds:List DV} {o:DO} {vs:List Value} (hk:0<k.cells) (h:Oe k ds=some o) (hl:vs.length=ds.length) (hv: ∀ i,i<ds.length -> AO M w (ds.getD i .any) ρ (vs.getD i undef)):
 (∀ v∈vs,v.cells.size=k.cells)/\ ∀ M' (w':World) ρ',Bi M w ρ M' w' ρ' -> ∀ (cs:Array Value) (t:TypeId) (p:AN),cs.toList=(vs.flatMap fun v=>v.cells.toList) -> Ak w' p (ds.length*k.cells) (fun j u=>cs[j]? =some u) -> Db P M' w' ρ' p o:=by
 have one: ∀ {j:Nat},k.cells=1 -> j<ds.length*k.cells -> (∀ v∈vs,v.cells.size=k.cells) -> ∀ {u},(vs.flatMap fun v=>v.cells.toList)[j]? =some u -> (vs[j]?).bind (fun v=>v.cells[0]?)=some u:=fun {j} h1 hj hs {u} hu=>by
  rw [h1] at hj hs;have:=YK (s:=1) (by omega) vs hs j 0 (by omega) (by omega);rw [zR,zAb] at this;rw [←this];exact hu
 have mem: ∀ v∈vs,∃ i,i<ds.length/\ v=vs.getD i undef/\ vs[i]? =some v:=fun v hv=>by
  obtain ⟨i,hi,rfl⟩:=zk hv;exact ⟨i,by omega,by simp [hi],by simp [hi]⟩
 have YY: ∀ i,i<ds.length -> ds.getD i .any∈ds:=fun i hi=>by simp [hi]
 cases k with
 | ints=>
  simp only [Oe] at h;split at h
  ·rename_i ha;cases h;have hI: ∀ i,i<ds.length -> vs.getD i undef= .int .i64 (HL (ds.getD i .any)):=fun i hi=>Wy (ya.1 ha _ (YY i hi)) (hv i hi)
   have hs: ∀ v∈vs,v.cells.size=EK.ints.cells:=fun v MV=>by obtain ⟨i,hi,e,_⟩:=mem v MV;rw [e,hI i hi];rfl
   refine ⟨hs,fun M' w' ρ' O cs t p DC hr=>?_⟩;have hn:ds.length*EK.ints.cells=(ds.map HL).length:=by simp [EK.cells]
   rw [hn] at hr;refine Ak.out hr rfl fun j u hj hu=>?_
   have BM:j<ds.length:=by simpa using hj
   have h2:=one rfl (by simpa [EK.cells] using BM) hs (u:=u) (by rw [←DC];simpa using hu);rw [yQ (by omega)] at h2;have h3:=hI j BM;have h4:vs.getD j undef=vs[j]:=by simp [hl,BM]
   rw [h4] at h3;simp only [yX,h3] at h2;have:u=Value.int .i64 (HL (ds.getD j .any)):=by simpa [Value.cells] using h2.symm
   rw [this];simp [BM]
  ·cases h
 | bools=>
  simp only [Oe] at h;split at h
  ·rename_i ha;cases h;have hI: ∀ i,i<ds.length -> vs.getD i undef= .bool (RE (ds.getD i .any)):=fun i hi=>qs (ya.1 ha _ (YY i hi)) (hv i hi)
   have hs: ∀ v∈vs,v.cells.size=EK.bools.cells:=fun v MV=>by obtain ⟨i,hi,e,_⟩:=mem v MV;rw [e,hI i hi];rfl
   refine ⟨hs,fun M' w' ρ' O cs t p DC hr=>?_⟩;have hn:ds.length*EK.bools.cells=(ds.map RE).length:=by simp [EK.cells]
   rw [hn] at hr;refine Ak.out hr rfl fun j u hj hu=>?_
   have BM:j<ds.length:=by simpa using hj
   have h2:=one rfl (by simpa [EK.cells] using BM) hs (u:=u) (by rw [←DC];simpa using hu);rw [yQ (by omega)] at h2;have h3:=hI j BM;have h4:vs.getD j undef=vs[j]:=by simp [hl,BM]
   rw [h4] at h3;simp only [yX,h3] at h2;have:u=Value.bool (RE (ds.getD j .any)):=by simpa [Value.cells] using h2.symm
   rw [this];simp [BM]
  ·cases h
 | gen m=>
  simp only [Oe] at h;split at h
  ·rename_i ha;cases h;have hm:0<m:=hk
   have hI: ∀ i,i<ds.length -> ∃ l,IK (ds.getD i .any)=some l/\ l.length=m/\ (∀ d∈l,Nc d=true):=fun i hi=>by
    have:=ya.1 ha _ (YY i hi);split at this
    ·rename_i l hl;simp only [yT,yo] at this;exact ⟨l,hl,this.1,fun d hd=>ya.1 this.2 d hd⟩
    ·cases this
   have hs: ∀ v∈vs,v.cells.size=(EK.gen m).cells:=fun v MV=>by
    obtain ⟨i,hi,e,_⟩:=mem v MV;obtain ⟨l,h1,h2,_⟩:=hI i hi;rw [e,(Q2 h1 (hv i hi)).1,h2];rfl
   refine ⟨hs,fun M' w' ρ' O cs t p DC hr=>?_⟩;refine Ak.out hr rfl fun j u hj hu=>?_
   have uP:j<ds.length*m:=hj;have hi:j/m<ds.length:=by rw [zAO hm];exact uP
   have hc:j % m<m:=zBV _ hm;obtain ⟨l,h1,h2,h3⟩:=hI (j/m) hi;have h4:=YK (s:=m) hm vs hs (j/m) (j % m) (by omega) hc;rw [show j/m*m+j % m=j by rw [zAF];exact Nat.div_add_mod j m] at h4;obtain ⟨_,h5⟩:=Q2 h1 (hv (j/m) hi);obtain ⟨u',g1,g2⟩:=h5 (j % m) (by omega);have h6:vs.getD (j/m) undef=vs[j/m]'(by omega):=by simp [hl,hi]
   have AU:j/m<vs.length:=by omega
   rw [yQ AU] at h4;rw [h6] at g1
   have:u=u':=by
    have Be:(vs.flatMap fun v=>v.cells.toList)[j]? =some u:=by rw [←DC];simpa using hu
    rw [h4] at Be;simp only [yX] at Be;rw [g1] at Be;exact (yY Be).symm
   subst this;simp only [h1];refine AO.out _ O.nil (WE (h3 _ ?_) g2);simp [h2,hc]
  ·cases h
theorem Vs {cs:Array Value} {t:TypeId} {w1:World} (hs:w1.heap.size=w.heap.size) {n:Nat} (hn:cs.size=n):Ak (w1.alloc (.cells cs t)) (Dr w n) n (fun j u=>cs[j]? =some u):=by
 subst hn;exact Lt hs (ym _) fun j hj=>⟨cs[j],by simp [hj],by simp [hj]⟩
def UY (parts:List (Nat×Operand)) (len:Nat):Bool:=parts.map (·.1)==List.range len
theorem wR {parts:List (Nat×Operand)} {len:Nat} (h:UY parts len=true) (f:Operand -> Value):parts.length=len/\ (parts.map fun x=>(x.1,f x.2))=((parts.map fun x=>f x.2).zipIdx 0).map fun x=>(x.2,x.1):=by
 simp only [UY,yo] at h;have hl:parts.length=len:=by have:=congrArg List.length h;simpa using this
 refine ⟨hl,List.ext_getElem? fun i=>?_⟩
 by_cases hi:i<parts.length
 ·have h1:parts[i].1=i:=by
   have h2:=congrArg (fun l:List Nat=>l[i]?) h;have h3:(List.range len)[i]? =some i:=zA1 (by omega);simp only [y9,yQ hi,zD,h3] at h2;exact yY h2
  simp [hi,h1]
 ·rw [zb (by simpa using hi),zb (by simpa using hi)]
theorem xL (R:Ad P Γ N S ρ a w) {t:TypeId} {len:Nat} {parts:Array (Nat×Operand)} {k:EK} {e:TypeId} {i:TypeInfo} {z:Value} {ob:DO} (hk:J9 P t=some (k,e,i,z)) (hd:UY parts.toList len=true) (Ay:len<=65536/\ k.cells<=64)
 (hb:Oe k (parts.toList.map fun x=>Ac S.fr x.2)=some ob) (o:Oper) (ho:o.op= .buildSlice t len parts) (ext:Bool):
 BT P (execOp a.eval o) w (C6 P Γ N S.h ρ w ext (.msl S.h.length k.cells 0 len) (S.h++[some ob])):=by
 obtain ⟨hu,hi,hz,h0,CT,Dv,_,_⟩:=Qv hk;obtain ⟨FK,sR⟩:=wR hd a.eval;have uG:=Ay.1;have uF:=Ay.2;have H9:0<k.cells:=by omega
 obtain ⟨hs,MY⟩:=xM (w:=w) (M:=MS N S.h ρ) (ρ:=ρ) (vs:=parts.toList.map fun x=>a.eval x.2) H9 hb (by simp) (fun j hj=>by
  have BM:j<parts.toList.length:=by simpa using hj
  have:=Bm R parts.toList[j].2;simp only [u8,y9,yQ BM,zD,z8];exact this)
 have GN:(parts.toList.map fun x=>a.eval x.2).length=len:=by simpa using FK
 have Bo:((parts.toList.map fun x=>a.eval x.2).flatMap fun v=>v.cells.toList).toArray.size=len*k.cells:=by
  have: ∀ (l:List Value),(∀ v∈l,v.cells.size=k.cells) -> (l.flatMap fun v=>v.cells.toList).length=l.length*k.cells:=by
   intro l
   induction l with
   | nil=>intro _;simp
   | cons v l ih=>intro h;rw [zBC,yz,ih (fun v hv=>h v (by simp [hv])),zY,zBB];have:=h v (by simp);simp [this];omega
  simp only [zBD];rw [this _ hs,GN]
 refine BT.value (s:=Instr.buildSlice t len (parts.map fun (i,x)=>(i,a.eval x))) (by unfold execOp;rw [ho]) (v:=.slice (some ⟨w.heap.size,0,none⟩) len len) (w':=w.alloc (.cells ((parts.toList.map fun x=>a.eval x.2).flatMap fun v=>v.cells.toList).toArray e)) ?_ ?_
 ·have sA: ¬ len*i.size>2 ^ 24:=by
   have:len*i.size<=65536*64:=Nat.mul_le_mul uG (by omega);omega
  by_cases Xj:len=0
  ·subst Xj
   have hp:parts= #[]:=by
    have:parts.toList= []:=zp FK;cases parts;simp at this;simp [this]
   subst hp;have Dg:Array.map (fun (x:Nat)=>(default:Value)) (Array.range 0)= #[]:=by simp [Array.range_zero']
   simp [Instr.buildSlice,zI hu,sizeOf,typeInfo,hi,newRow,Instr.fill,Array.range_zero']
  ·have tq: ¬ len*i.size=0:=by rw [Nat.mul_eq_zero];omega
   refine run_buildSlice w t e len _ _ i z hu hi hz sA tq ?_;have e1:(parts.map fun (i,x)=>(i,a.eval x)).toList=parts.toList.map fun x=>(x.1,a.eval x.2):=by simp
   rw [e1,sR];exact Great.fill_whole (s:=i.size) (by omega) _ _ (fun v hv=>by rw [hs v hv,Dv]) (by rw [GN,Array.size_map,Array.size_range])
 ·have:=OL (d:=.msl S.h.length k.cells 0 len) (o:=ob) (v:=.slice (some ⟨w.heap.size,0,none⟩) len len) (cs:=((parts.toList.map fun x=>a.eval x.2).flatMap fun v=>v.cells.toList).toArray) (t:=e) R.hr ⟨Au.refl w,rfl⟩
   (fun M ρ' O=>MY _ _ _ O ((parts.toList.map fun x=>a.eval x.2).flatMap fun v=>v.cells.toList).toArray e _ rfl (by rw [Bo,zf,FK];exact Vs (w:=w) (w1:=w) (t:=e) rfl Bo))
   (fun M ρ' hp=>⟨_,len,hp,by simp [Dr],ym _,by unfold LB;omega,by simp only [Dr];rw [Bo];omega⟩) ext
  exact this
def cx (k:EK) (n:Nat) (z:Value):DO:=match k with
 | .ints=>.ints (List.replicate n 0)
 | .bools=>.bools (List.replicate n false)
 | .gen m=>.arr m n (fun _ j=>(z.cells.toList.map FI).getD j .any)
theorem pX (R:Ad P Γ N S ρ a w) {t:TypeId} {x y:Operand} {k:EK} {e:TypeId} {i:TypeInfo} {z:Value} {kx ky:IntKind} {n:Int} (hk:J9 P t=some (k,e,i,z)) (hx:Ac S.fr x= .int kx n) (hy:Ac S.fr y= .int ky n)
 (hn:0<=n/\ n<=1000000000000) (DK:i.bytes<=128) (o:Oper) (ho:o.op= .makeSlice t x y) (ext:Bool):
 BT P (execOp a.eval o) w (C6 P Γ N S.h ρ w ext (.msl S.h.length k.cells 0 n.toNat) (S.h++[some (cx k n.toNat z)])):=by
 obtain ⟨hu,hi,hz,h0,CT,Dv,rS,XF⟩:=Qv hk;have F6:=hn.1;have IA:=hn.2;have rx:=Bm R x;have ry:=Bm R y;rw [hx] at rx;rw [hy] at ry;have DC:(madeCells z.cells (n.toNat*i.size)).size=n.toNat*k.cells:=by rw [size_madeCells,Dv]
 refine BT.value (s:=Instr.makeSlice t (a.eval x) (a.eval y)) (by unfold execOp;rw [ho]) (v:=.slice (some ⟨w.heap.size,0,none⟩) n.toNat n.toNat) (w':=w.alloc (.cells (madeCells z.cells (n.toNat*i.size)) e)) ?_ ?_
 ·rw [show a.eval x=_ from rx,show a.eval y=_ from ry];refine run_make w t e i z hu hi hz kx ky n n F6 (zO _) ?_ (by omega);have:(i.bytes:Int)*n<=128*1000000000000:=Int.mul_le_mul (by omega) IA F6 (by omega);omega
 ·refine OL (d:=.msl S.h.length k.cells 0 n.toNat) R.hr ⟨Au.refl w,rfl⟩ (fun M ρ' O=>?_) (fun M ρ' hp=>⟨_,n.toNat,hp,by simp [Dr],ym _,by unfold LB;omega,by simp only [Dr];rw [DC];omega⟩) ext;have hr:=Vs (w:=w) (w1:=w) (t:=e) rfl DC;rw [DC]
  have Cp: ∀ j u,j<n.toNat*k.cells -> (madeCells z.cells (n.toNat*i.size))[j]? =some u -> z.cells[j % z.cells.size]? =some u:=by
   intro j u hj Be;have AU:j % z.cells.size<z.cells.size:=zBV _ (by omega);simp only [madeCells] at Be;have BM:j<n.toNat*i.size:=by rw [←Dv];exact hj
   simp [BM] at Be;rw [←Be];simp [AU]
  cases k with
  | ints=>
   have QM:=rS rfl;subst QM
   show Ak _ _ (List.replicate n.toNat (0:Int)).length _
   rw [yi];simp only [EK.cells,zR] at hr Cp ⊢;refine Ak.out hr rfl fun j u hj Be=>?_
   have:=Cp j u hj Be;have e1:j % (Value.cells (.int .i64 0)).size=0:=by simp [Value.cells,Nat.mod_one]
   rw [e1] at this;simp [Value.cells] at this;rw [←this];simp [hj]
  | bools=>
   have QM:=XF rfl;subst QM
   show Ak _ _ (List.replicate n.toNat false).length _
   rw [yi];simp only [EK.cells,zR] at hr Cp ⊢;refine Ak.out hr rfl fun j u hj Be=>?_
   have:=Cp j u hj Be;have e1:j % (Value.cells (.bool false)).size=0:=by simp [Value.cells,Nat.mod_one]
   rw [e1] at this;simp [Value.cells] at this;rw [←this];simp [hj]
  | gen m=>
   refine Ak.out hr rfl fun j u hj Be=>?_
   have h1:=Cp j u hj Be;have hm:m=z.cells.size:=by rw [CT];exact Dv
   have h2:j % m<z.cells.toList.length:=by rw [hm];simpa using zBV _ (by omega)
   have h3:(z.cells.toList.map FI).getD (j % m) .any=FI u:=by
    rw [u8,y9];have:z.cells.toList[j % m]? =some u:=by rw [←h1,hm];simp
    rw [this];rfl
   show AO M _ ((z.cells.toList.map FI).getD (j % m) .any) [] u
   rw [h3];exact Ps u
end
end Go.Proofs.YtgkhhfnhacibcaaGreatDoor
namespace Go.Proofs.YtgkhhfnhacibcaaGreatDoor
abbrev zn:=@List.foldl_cons
abbrev zw:=@List.nil_append
abbrev zAB:=@Array.getElem?_append_left
abbrev zAP:=@Array.getElem?_modify
abbrev zAl:=@List.length_range
abbrev zBI:=@List.getElem?_toArray
end Go.Proofs.YtgkhhfnhacibcaaGreatDoor
namespace Go.Proofs.YtgkhhfnhacibcaaGreatDoor
open Go.RowKit
section
variable {P:Program} {Γ:A9} {N:Nat -> Prop} {S:St} {ρ:List AN} {a:Act} {w:World} {h:DH}
theorem OF (b:Nat) (t:TypeId) (z:Nat×Nat): ∀ (vs:List Value) (o:Nat) (w:World) (EU:Array Value),w.heap[b]? =some (.cells EU t z) -> o+vs.length<=EU.size ->
 ∃ Q3,(w.setCells b o vs).heap[b]? =some (.cells Q3 t z)/\ Q3.size=EU.size/\ ∀ k,Q3[k]? =if o<=k/\ k<o+vs.length then vs[k-o]? else EU[k]?
 | [],o,w,EU,hb,_=>⟨EU,hb,rfl,fun k=>by rw [yb];simp only [zm];omega⟩
 | v::vs,o,w,EU,hb,hl=>by
  have EA:o+(vs.length+1)<=EU.size:=hl;obtain ⟨Q3,h1,h2,h3⟩:=OF b t z vs (o+1) (w.setCell ⟨b,o,none⟩ v) (EU.setIfInBounds o v) (by simp [World.setCell,zAP,hb]) (by simp;omega);refine ⟨Q3,h1,by simpa using h2,fun k=>?_⟩;rw [h3 k,zY]
  by_cases e:k=o
  ·subst e;rw [yb (by omega),yP (by omega),zK,yP rfl,yP (by omega),Nat.sub_self];rfl
  ·by_cases e2:o+1<=k/\ k<o+1+vs.length
   ·rw [yP e2,yP (by omega),show k-o=(k-(o+1))+1 by omega];simp
   ·rw [yb e2,yb (by omega)];rw [zK,yb (by omega)]
theorem NF (b:Nat): ∀ (vs:List Value) (o:Nat) (w:World),AQ (fun k=>k=b) w (w.setCells b o vs)
 | [],_,w=>AQ.refl _ w
 | v::vs,o,w=>((AQ.refl (fun k=>k=b) w).setCell (p:=⟨b,o,none⟩) (fun _=>rfl) v).trans (NF b vs (o+1) (w.setCell ⟨b,o,none⟩ v))
theorem Ak.writes {p:AN} {n:Nat} {R R':Nat -> Value -> Prop} (hr:Ak w p n R) {o:Nat} {vs:List Value} (hl:o+vs.length<=n) (h1: ∀ i v,vs[i]? =some v -> R' (o+i) v)
 (h2: ∀ i u,i<n -> (i<o∨o+vs.length<=i) -> R i u -> R' i u):Ak (w.setCells p.blk (p.off+o) vs) p n R':=by
 obtain ⟨g1,cs,t,g2,g3,g4,g5⟩:=hr;obtain ⟨Dz,e1,e2,e3⟩:=OF p.blk t (0,0) vs (p.off+o) w cs g2 (by omega);refine ⟨g1,Dz,t,e1,by omega,by omega,fun j hj=>?_⟩;rw [e3]
 by_cases e:p.off+o<=p.off+j/\ p.off+j<p.off+o+vs.length
 ·rw [yP e];have hi:p.off+j-(p.off+o)<vs.length:=by omega
  refine ⟨vs[p.off+j-(p.off+o)],by simp [hi],?_⟩;have:=h1 (p.off+j-(p.off+o)) _ (by simp [hi]:vs[p.off+j-(p.off+o)]? =some vs[p.off+j-(p.off+o)])
  rwa [show o+(p.off+j-(p.off+o))=j by omega] at this
 ·rw [yb e];obtain ⟨u,e4,e5⟩:=g5 j hj;exact ⟨u,e4,h2 j u hj (by omega) e5⟩
def Ln (l:List DV) (o:Nat) (ds:List DV):List DV:=(ds.zipIdx).foldl (fun cs x=>cs.set (o+x.2) x.1) l
theorem VU: ∀ (ds:List DV) (k o:Nat) (l:List DV),((ds.zipIdx k).foldl (fun cs x=>cs.set (o+x.2) x.1) l).length=l.length/\
 ∀ j,j<l.length -> ((ds.zipIdx k).foldl (fun cs x=>cs.set (o+x.2) x.1) l).getD j .any=if o+k<=j/\ j<o+k+ds.length then ds.getD (j-(o+k)) .any else l.getD j .any
 | [],k,o,l=>⟨rfl,fun j _=>by
  rw [yb]
  ·rfl
  ·simp only [zm];omega⟩
 | d::ds,k,o,l=>by
  obtain ⟨h1,h2⟩:=VU ds (k+1) o (l.set (o+k) d);rw [List.zipIdx_cons,zn];refine ⟨by rw [h1];simp,fun j hj=>?_⟩;rw [h2 j (by simpa using hj),zY]
  by_cases e:j=o+k
  ·subst e;rw [yb (by omega),yP (by omega)];simp [hj]
  ·by_cases e2:o+(k+1)<=j/\ j<o+(k+1)+ds.length
   ·rw [yP e2,yP (by omega),show j-(o+k)=(j-(o+(k+1)))+1 by omega];simp
   ·rw [yb e2,yb (by omega)];simp only [u8,zG];rw [yb (by omega)]
theorem VT (l:List DV) (o:Nat) (ds:List DV):(Ln l o ds).length=l.length:=(VU ds 0 o l).1
theorem VV (l:List DV) (o:Nat) (ds:List DV) {j:Nat} (hj:j<l.length):(Ln l o ds).getD j .any=if o<=j/\ j<o+ds.length then ds.getD (j-o) .any else l.getD j .any:=by
 have:=(VU ds 0 o l).2 j hj;simpa [Ln] using this
def Li (P:Program) (S:St) (t:TypeId) (x d:DV):Option (DH×Prop):=match x with
 | .ref k j=>match S.h[k]? with
  | some (some (.cells l))=>match IK d with
   | some ds=>if P.info? t |>.any (fun i=>i.size==ds.length) then (if ds.all Hy&&decide (j+ds.length<=l.length) then some (S.h.set k (some (.cells (Ln l j ds))),True) else none) else none
   | none=>none
  | _=>none
 | .mp k m i j=>if P.info? t |>.any (fun i=>i.size==1) then match S.h[k]? with
  | some (some (.ints l))=>match d with
   | .int .i64 n=>if m==1&&j==0 then some (S.h.set k (some (.ints (l.set i n))),i<l.length) else none
   | _=>none
  | some (some (.bools l))=>match d with
   | .bool b=>if m==1&&j==0 then some (S.h.set k (some (.bools (l.set i b))),i<l.length) else none
   | _=>none
  | some (some (.arr m' n f))=>if Nc d&&(m==m')&&decide (j<m) then some (S.h.set k (some (.arr m n (fun i' j'=>if i'=i/\ j'=j then d else f i' j'))),i<n) else none
  | _=>none
  else none
 | _=>none
theorem oI {d:DV} (h:Nc d=true):Hy d=true:=by cases d <;> first | rfl | cases h
theorem Vo {t:TypeId} {i:TypeInfo} {b o:Nat} {v:Value} (hi:P.info? t=some i) (hs:v.cells.size=i.size) (hc: ∀ j,j<v.cells.size -> (w.cell? ⟨b,o+j,none⟩).isSome=true) (hf: ∀ j,w.frozen? ⟨b,j,none⟩=false) (h1: ∀ u∈v.cells.toList,u.oneCell'=true):
 (Instr.storeAt t (.pointer (some ⟨b,o,none⟩)) v).run P w= .ok () (w.setCells b o v.cells.toList):=by
 have D9:=run_storeCells_cells (P:=P) b o v.cells.toList 0 w (by simpa using hc) (by simpa using fun j _=>hf _) h1;simp only [zAb] at D9;simp [Instr.storeAt,Instr.sureAddr,storeVar,If hi,hs,D9]
theorem fW {α:Type} {l:List α} {i:Nat} {x d:α} (h:l[i]? =some x):l.getD i d=x:=by rw [u8,h];rfl
theorem Ry (R:Ad P Γ N S ρ a w) {k:Nat} {ob ob':DO} {p:AN} (hk:S.h[k]? =some (some ob)) (hp:ρ[k]? =some p) {n:Nat} {Rw:Nat -> Value -> Prop} (hr:Ak w p n Rw) {o':Nat} {v:Value} {t:TypeId} {i:TypeInfo}
 (hi:P.info? t=some i) (hs:v.cells.size=i.size) (hl:o'+v.cells.size<=n) (h1: ∀ u∈v.cells.toList,u.oneCell'=true)
 (HP: ∀ M ρ' w',Bi (MS N S.h ρ) w ρ M w' ρ' -> w'=w.setCells p.blk (p.off+o') v.cells.toList -> Db P M w' ρ' p ob')
 (o:Oper) (tx x:Operand) (ho:o.op= .store t tx x) (hx:a.eval tx= .pointer (some ⟨p.blk,p.off+o',none⟩)) (hv:a.eval x=v):
 BT P (execOp a.eval o) w (C6 P Γ N S.h ρ w false .any (S.h.set k (some ob'))):=by
 have Eh:p.foot=fun b=>b=p.blk:=hr.1
 have hu:AQ p.foot w (w.setCells p.blk (p.off+o') v.cells.toList):=by rw [Eh];exact NF _ _ _ _
 refine BT.skip (s:=Instr.storeAt t (a.eval tx) (a.eval x)) (by unfold execOp;rw [ho]) (w':=w.setCells p.blk (p.off+o') v.cells.toList) ?_ ?_
 ·rw [hx,hv];refine Vo hi hs (fun j hj=>?_) (fun j=>hr.frozen j) h1;obtain ⟨u,hc,_⟩:=hr.cell (j:=o'+j) (by omega);rw [zN,hc];rfl
 ·have Cp: ∀ b,p.foot b -> DD (w.setCells p.blk (p.off+o') v.cells.toList) b:=fun b hb=>by
   rw [Eh] at hb;obtain ⟨_,cs,t',g2,g3,_⟩:=hr;obtain ⟨c,e1,_⟩:=OF p.blk t' (0,0) v.cells.toList (p.off+o') w cs g2 (by simp;omega);exact .cells (c:=c) (t:=t') (z:=(0,0)) (by rw [show b=p.blk from hb];exact e1)
  exact ⟨⟨ρ,R.hr.write hk hp hu Cp (HP _ _ _ (Bi.write trivial hk hp hu) rfl),trivial,BO.write hk hp hu,fun _ _ h=>h⟩,fun h=>by cases h⟩
theorem aN (R:Ad P Γ N S ρ a w) {t:TypeId} {tx x:Operand} {h':DH} {vc:Prop} (hd:Li P S t (Ac S.fr tx) (Ac S.fr x)=some (h',vc)) (hv:vc) (o:Oper) (ho:o.op= .store t tx x):
 BT P (execOp a.eval o) w (C6 P Γ N S.h ρ w false .any h'):=by
 have rx:=Bm R tx;have rv:=Bm R x;unfold Li at hd;split at hd
 ·rename_i k j e;rw [e] at rx;obtain ⟨p,hp,hx⟩:=rx;split at hd
  ·rename_i l hk;obtain ⟨p',BJ,hr⟩:=R.hr.obj k _ hk;have e:p'=p:=yY (BJ.symm.trans hp);subst e;split at hd
   ·rename_i ds FM;split at hd
    ·rename_i A5;split at hd
     ·rename_i hc;cases hd;simp only [yT,y8] at hc;cases hi:P.info? t with
      | none=>rw [hi] at A5;cases A5
      | some i=>
       rw [hi] at A5;have Nw:i.size=ds.length:=by simpa using A5
       obtain ⟨c1,c2⟩:=Q2 FM rv
       have tu: ∀ u∈(a.eval x).cells.toList,u.oneCell'=true:=fun u hu=>by
        obtain ⟨q,hq,rfl⟩:=zk hu;have N6:q<ds.length:=by rw [←c1];simpa using hq
        obtain ⟨u,g1,g2⟩:=c2 q N6;have h3:=ya.1 hc.1 (ds.getD q .any) (by simp [N6]);have h4:=(S5 h3 g2).1
        have:(a.eval x).cells.toList[q]=u:=by
         have GO:q<(a.eval x).cells.size:=by simpa using hq
         rw [zB GO] at g1;simpa using yY g1
        rw [this];exact h4
       refine Ry R hk hp hr hi (by omega) (o':=j) (by omega) tu (fun M ρ' w' O MU=>?_) o tx x ho hx rfl;subst MU
       show Ak _ _ (Ln l j ds).length _
       rw [VT];refine Ak.writes hr (by simp;omega) (fun q v hq=>?_) (fun q u hq GO hu=>?_)
       ·have eD:q<(a.eval x).cells.size:=by have:=(yZ.1 hq).1;simpa using this
        have N6:q<ds.length:=by omega
        obtain ⟨u,g1,g2⟩:=c2 q N6
        have:u=v:=by
         have:(a.eval x).cells[q]? =some v:=by simpa using hq
         rw [this] at g1;exact (yY g1).symm
        subst this;rw [VV l j ds (by omega),yP (by omega),show j+q-j=q by omega];exact g2.out _ O
       ·rw [VV l j ds hq,yb (by simp at GO;omega)];exact hu.out _ O
     ·cases hd
    ·cases hd
   ·cases hd
  ·cases hd
 ·rename_i k m i j e;rw [e] at rx;obtain ⟨p,hp,hx⟩:=rx;split at hd
  ·rename_i A5;cases hi:P.info? t with
   | none=>rw [hi] at A5;cases A5
   | some ti=>
    rw [hi] at A5;have Nw:ti.size=1:=by simpa using A5
    split at hd
    ·rename_i l hk;obtain ⟨p',BJ,hr⟩:=R.hr.obj k _ hk;have e:p'=p:=yY (BJ.symm.trans hp);subst e;split at hd
     ·rename_i n ed;split at hd
      ·rename_i hm;cases hd;simp only [yT,yo] at hm;obtain ⟨rfl,rfl⟩:=hm;rw [ed] at rv;have Vl:a.eval x= .int .i64 n:=rv;refine Ry R hk hp hr hi (v:=.int .i64 n) (by rw [Nw];rfl) (o':=i) (by simp [Value.cells];omega) (by simp [Value.cells,Value.oneCell']) (fun M ρ' w' O MU=>?_) o tx x ho (by simpa using hx) Vl;subst MU
       show Ak _ _ (l.set i n).length _
       rw [yu];refine Ak.writes hr (by simp [Value.cells];omega) (fun q v hq=>?_) (fun q u hq GO hu=>?_)
       ·have:q=0:=by have:=(yZ.1 hq).1;simpa [Value.cells] using this
        subst this;have:v= .int .i64 n:=by simpa [Value.cells] using hq.symm
        rw [this];have DJ:i<l.length:=hv;simp [DJ]
       ·rw [hu];simp only [Value.cells,zY,zm] at GO;rw [u8,u8,zG,yb (by simp at GO;omega)]
      ·cases hd
     ·cases hd
    ·rename_i l hk;obtain ⟨p',BJ,hr⟩:=R.hr.obj k _ hk;have e:p'=p:=yY (BJ.symm.trans hp);subst e;split at hd
     ·rename_i n ed;split at hd
      ·rename_i hm;cases hd;simp only [yT,yo] at hm;obtain ⟨rfl,rfl⟩:=hm;rw [ed] at rv;have Vl:a.eval x= .bool n:=rv;refine Ry R hk hp hr hi (v:=.bool n) (by rw [Nw];rfl) (o':=i) (by simp [Value.cells];omega) (by simp [Value.cells,Value.oneCell']) (fun M ρ' w' O MU=>?_) o tx x ho (by simpa using hx) Vl;subst MU
       show Ak _ _ (l.set i n).length _
       rw [yu];refine Ak.writes hr (by simp [Value.cells];omega) (fun q v hq=>?_) (fun q u hq GO hu=>?_)
       ·have:q=0:=by have:=(yZ.1 hq).1;simpa [Value.cells] using this
        subst this;have:v= .bool n:=by simpa [Value.cells] using hq.symm
        rw [this];have DJ:i<l.length:=hv;simp [DJ]
       ·rw [hu];simp only [Value.cells,zY,zm] at GO;rw [u8,u8,zG,yb (by simp at GO;omega)]
      ·cases hd
     ·cases hd
    ·rename_i m' n f hk;obtain ⟨p',BJ,hr⟩:=R.hr.obj k _ hk;have e:p'=p:=yY (BJ.symm.trans hp);subst e;split at hd
     ·rename_i hm;cases hd;simp only [yT,yo,y8] at hm;obtain ⟨⟨FK,rfl⟩,hj⟩:=hm;have DJ:i<n:=hv;obtain ⟨o1,o2⟩:=S5 (oI FK) rv
      have XB:i*m+j<n*m:=by
       have:(i+1)*m<=n*m:=z7 _ DJ;rw [zBB] at this;omega
      have AC:0<m:=by omega
      refine Ry R hk hp hr hi (v:=a.eval x) (by rw [Nw,o2];rfl) (o':=i*m+j) (by rw [o2];simp;omega) (by rw [o2];simp [o1]) (fun M ρ' w' O MU=>?_) o tx x ho hx rfl;subst MU;refine Ak.writes hr (by rw [o2];simp;omega) (fun q v hq=>?_) (fun q u hq GO hu=>?_)
      ·rw [o2] at hq;have:q=0:=by have:=(yZ.1 hq).1;simpa using this
       subst this;have:v=a.eval x:=by simpa using hq.symm
       rw [this,zAb];have e1:(i*m+j)/m=i:=by rw [zAF,Nat.mul_add_div AC,Nat.div_eq_of_lt hj,zAb]
       have e2:(i*m+j) % m=j:=by rw [zAF,Nat.mul_add_mod,zAx hj]
       show AO M _ (if (i*m+j)/m=i/\ (i*m+j) % m=j then Ac S.fr x else f ((i*m+j)/m) ((i*m+j) % m)) [] _
       rw [yP ⟨e1,e2⟩];exact AO.out _ O.nil (WE FK rv)
      ·rw [o2] at GO;simp at GO
       have: ¬ (q/m=i/\ q % m=j):=fun ⟨e1,e2⟩=>by
        have:=Nat.div_add_mod q m;rw [e1,e2,zAF] at this;omega
       show AO M _ (if q/m=i/\ q % m=j then Ac S.fr x else f (q/m) (q % m)) [] _
       rw [yb this];exact AO.out _ O.nil hu
     ·cases hd
    ·cases hd
  ·cases hd
 ·cases hd
theorem MO.kill {k:Nat} {b:Nat} (hb:MO (h.set k none) ρ b):MO h ρ b:=MO.unset hb
theorem Fk {k i:Nat} {o:DO} (hi:(h.set k none)[i]? =some (some o)):i≠k/\ h[i]? =some (some o):=by
 rw [zG] at hi
 by_cases e:k=i
 ·rw [yP e] at hi;split at hi <;> cases hi
 ·rw [yb e] at hi;exact ⟨zAw e,hi⟩
theorem Bb.kill (H:Bb P Γ N h ρ w) (k:Nat):Bb P Γ N (h.set k none) ρ w:=by
 have O:Bi (MS N h ρ) w ρ (MS N (h.set k none) ρ) w ρ:=⟨fun _ _ _ _=>rfl,fun b hb=>.inl (hb.imp id MO.kill),fun _ _ h=>h⟩;refine ⟨by simp [H.len],fun i o hi=>?_,fun i o p b h1 h2 h3=>H.cel i o p b (Fk h1).2 h2 h3,fun i i' o o' p p' b Ap h1 h2 h3 h4 h5 h6=>H.dis i i' o o' p p' b Ap (Fk h1).2 (Fk h2).2 h3 h4 h5 h6,H.nlt,H.gi⟩;obtain ⟨p,hp,hr⟩:=H.obj i o (Fk hi).2;exact ⟨p,hp,hr.out O (S:=fun _=>False) (AQ.refl _ w) (fun _ h=>h.elim) (fun _ _ _ h=>h)⟩
theorem Bi.kill (k:Nat):Bi (MS N h ρ) w ρ (MS N (h.set k none) ρ) w ρ:=⟨fun _ _ _ _=>rfl,fun b hb=>.inl (hb.imp id MO.kill),fun _ _ h=>h⟩
theorem BO.kill (k:Nat):BO h ρ w (h.set k none) ρ w:=⟨AQ.refl _ w,fun b hb=>.inl (MO.kill hb)⟩
theorem Bb.regrow (H:Bb P Γ N h ρ w) {w':World} {k:Nat} {o o':DO} {p p':AN} (hk:h[k]? =some (some o)) (hp:ρ[k]? =some p) (hu:AQ p.foot w w') (hf: ∀ b,p'.foot b -> (p.foot b∨w.heap.size<=b)/\ DD w' b)
 (ho:Db P (MS N (h.set k none++[some o']) (ρ++[p'])) w' (ρ++[p']) p' o'):
 Bb P Γ N (h.set k none++[some o']) (ρ++[p']) w'/\ BO h ρ w (h.set k none++[some o']) (ρ++[p']) w':=by
 have K:=H.kill k;have Ay:(h.set k none).length=h.length:=by simp
 have hM: ∀ b,p.foot b -> MO h ρ b:=fun b hb=>⟨k,o,p,hk,hp,hb⟩
 have H5: ∀ {i:Nat} {o1:DO} {p1:AN},(h.set k none++[some o'])[i]? =some (some o1) -> (ρ++[p'])[i]? =some p1 -> (i≠k/\ i<h.length/\ h[i]? =some (some o1)/\ ρ[i]? =some p1)∨(i=h.length/\ o1=o'/\ p1=p'):=by
  intro i o1 p1 h1 h2;rcases DL h1 with ⟨hl,h1⟩ | ⟨hl,h1⟩
  ·rw [Ay] at hl;rcases DL h2 with ⟨_,h2⟩ | ⟨CU,_⟩
   ·exact .inl ⟨(Fk h1).1,hl,(Fk h1).2,h2⟩
   ·rw [H.len] at CU;omega
  ·rw [Ay] at hl;rcases DL h2 with ⟨CU,_⟩ | ⟨_,h2⟩
   ·rw [H.len] at CU;omega
   ·cases h1;exact .inr ⟨hl,rfl,h2.symm⟩
 have grow: ∀ b,MO (h.set k none++[some o']) (ρ++[p']) b -> MO h ρ b∨w.heap.size<=b:=by
  rintro b ⟨i,o1,p1,h1,h2,h3⟩;rcases H5 h1 h2 with ⟨_,_,g1,g2⟩ | ⟨_,_,rfl⟩
  ·exact .inl ⟨i,o1,p1,g1,g2,h3⟩
  ·exact (hf b h3).1.imp (hM b) id
 have O:Bi (MS N h ρ) w ρ (MS N (h.set k none++[some o']) (ρ++[p'])) w' (ρ++[p']):=by
  refine ⟨fun b hb hm _=>hu.block b hb fun hx=>hm (.inr (hM b hx)),fun b hb=>?_,fun i q hi=>EC hi⟩;rcases hb with hb | hb
  ·exact .inl (.inl hb)
  ·exact (grow b hb).imp .inr id
 refine ⟨⟨by simp [H.len],fun i o1 hi=>?_,fun i o1 p1 b h1 h2 h3=>?_,fun i i' o1 o2 p1 p2 b Ap h1 h2 h3 h4 h5 h6=>?_,fun b hb=>⟨yc (H.nlt b hb).1 hu.size,(H.nlt b hb).2⟩,Γ.st _ _ H.gi (hu.mono fun b _ hb=>(H.cel k o p b hk hp hb).1)⟩,⟨hu.mono fun b _ hb=>hM b hb,grow⟩⟩
 ·rcases DL hi with ⟨hl,hi⟩ | ⟨hl,hi⟩
  ·obtain ⟨p1,K5,hr⟩:=H.obj i o1 (Fk hi).2;refine ⟨p1,EC K5,hr.out O hu (fun b hb=>.inr (hM b hb)) fun b _ h1 h2=>H.dis i k o1 o p1 p b (Fk hi).1 (Fk hi).2 hk K5 hp h1 h2⟩
  ·cases hi;exact ⟨p',by rw [hl,Ay,←H.len];simp,ho⟩
 ·rcases H5 h1 h2 with ⟨Ap,_,g1,g2⟩ | ⟨_,_,rfl⟩
  ·obtain ⟨e1,e2,c,t,z,e3⟩:=H.cel i o1 p1 b g1 g2 h3;exact ⟨e1,e2,c,t,z,(hu.block b (yR.1 e3).1 fun hx=>H.dis i k o1 o p1 p b Ap g1 hk g2 hp h3 hx).trans e3⟩
  ·obtain ⟨e1,e2⟩:=hf b h3;rcases e1 with e1 | e1
   ·obtain ⟨q1,q2,_⟩:=H.cel k o p b hk hp e1;exact ⟨q1,q2,e2⟩
   ·exact ⟨yf (Γ.lo _ H.gi) e1,fun hn=>by have:=H.nlt b hn;omega,e2⟩
 ·have key: ∀ {i o1 p1},i≠k -> h[i]? =some (some o1) -> ρ[i]? =some p1 -> p1.foot b -> p'.foot b -> False:=fun {i o1 p1} Ap g1 g2 g3 g4=>by
   rcases (hf b g4).1 with e1 | e1
   ·exact H.dis i k o1 o p1 p b Ap g1 hk g2 hp g3 e1
   ·have:=H.lt (.inr ⟨i,o1,p1,g1,g2,g3⟩);omega
  rcases H5 h1 h3 with ⟨QV,_,g1,g2⟩ | ⟨e1,_,rfl⟩
  ·rcases H5 h2 h4 with ⟨_,_,g3,g4⟩ | ⟨_,_,rfl⟩
   ·exact H.dis i i' o1 o2 p1 p2 b Ap g1 g3 g2 g4 h5 h6
   ·exact key QV g1 g2 h5 h6
  ·rcases H5 h2 h4 with ⟨Mc,_,g3,g4⟩ | ⟨e2,_,rfl⟩
   ·exact key Mc g3 g4 h6 h5
   ·exact Ap (e1.trans e2.symm)
def Hb (n:Nat) (R:Nat -> Value -> Prop) (Bu:List Value) (j:Nat) (u:Value):Prop:=if j<n then R j u else Bu[j-n]? =some u
theorem Y0 {t ty e:TypeId} {i:TypeInfo} {z:Value} (hu:P.underlying t=some (.slice e)) (hi:P.info? e=some i) (hz:i.zero=some z) (Jv:i.size≠0) (CT:z.cells.size=i.size) (DK:i.bytes<=128)
 {p:AN} {n cap:Nat} {R:Nat -> Value -> Prop} (hr:Ak w p (n*i.size) R) (K9:n<=cap) (Tm:p.off+cap*i.size<=p.room)
 {vy:Value} {c:Nat} {Bu:List Value} (hy:Src P i.size t vy c Bu w) (hb:n+c<=1000000000000):
 ∃ w' p' Bv,(Builtin.append_ #[t,t] ty #[.slice (some ⟨p.blk,p.off,none⟩) n cap,vy]).run P w= .ok (.slice (some ⟨p'.blk,p'.off,none⟩) (n+c) Bv) w'/\ n+c<=Bv/\ p'.off+Bv*i.size<=p'.room/\
  AQ p.foot w w'/\ (∀ b,p'.foot b -> p.foot b∨w.heap.size<=b)/\ Ak w' p' ((n+c)*i.size) (Hb (n*i.size) R Bu):=by
 have Fj:Bu.length=c*i.size:=hy.newsLen
 by_cases XP:n+c<=cap
 ·obtain ⟨g1,cs,tt,g2,g3,g4,g5⟩:=hr;have uB:(n+c)*i.size<=cap*i.size:=z7 _ XP;rw [zAH] at uB;have fA:p.off+n*i.size+Bu.length<=cs.size:=by omega
  refine ⟨w.setCells p.blk (p.off+n*i.size) Bu,p,cap,run_append_room_src w t t ty e i hu hi p.blk p.off n cap vy c Bu hy XP (fun j hj=>?_) (fun j _=>by unfold World.frozen?;simp [g2]),XP,Tm,?_,fun b hb=>.inl hb,?_⟩
  ·unfold World.cell?;simp only [g2];simp;omega
  ·rw [g1];exact NF _ _ _ _
  ·obtain ⟨Dz,e1,e2,e3⟩:=OF p.blk tt (0,0) Bu (p.off+n*i.size) w cs g2 fA;refine ⟨g1,Dz,tt,e1,by rw [zAH];omega,by omega,fun j hj=>?_⟩;rw [zAH] at hj;rw [e3]
   by_cases J2:j<n*i.size
   ·rw [yb (by omega)];obtain ⟨u,q1,q2⟩:=g5 j J2;exact ⟨u,q1,by unfold Hb;rw [yP J2];exact q2⟩
   ·rw [yP (by omega)];have AU:j-n*i.size<Bu.length:=by omega
    refine ⟨Bu[j-n*i.size],by rw [show p.off+j-(p.off+n*i.size)=j-n*i.size by omega];simp [AU],?_⟩;unfold Hb;rw [yb J2];simp [AU]
 ·obtain ⟨g,hg⟩: ∃ g:Nat -> Value,∀ j,j<n*i.size -> w.cell? ⟨p.blk,p.off+j,none⟩=some (g j)/\ R j (g j):=by
   refine ⟨fun j=>(w.cell? ⟨p.blk,p.off+j,none⟩).getD undef,fun j hj=>?_⟩;obtain ⟨u,h1,h2⟩:=hr.cell hj;simp [h1,h2]
  have K6:(Builtin.firstCells i.size n (.slice (some ⟨p.blk,p.off,none⟩) n cap)).run P w.drew= .ok (((List.range (n*i.size)).map g).toArray) w.drew:=by
   have:=run_loadCells (P:=P) w.drew ⟨p.blk,p.off,none⟩ (n*i.size) g (fun j hj=>by rw [IS];exact ((Au.toDrew w).cell (hg j hj).1));simpa [Builtin.firstCells] using this
  have uA:(n+c)*i.bytes<=1000000000000*128:=Nat.mul_le_mul hb DK;have Ny:=run_append_grow_src (P:=P) w t t ty e i z hu hi hz (some ⟨p.blk,p.off,none⟩) n cap _ K6 vy c Bu hy (by omega) (by omega) (growslice_fits (by omega) (by omega));have Tz:n+c<=grownCap w (n+c) cap e:=grownCap_ge w (n+c) cap e
  have DC:((((List.range (n*i.size)).map g)++Bu).toArray++Builtin.zeroCells z.cells (grownCap w (n+c) cap e-(n+c))).size=grownCap w (n+c) cap e*i.size:=by
   simp only [Array.size_append,zBD,yz,zf,zAl,Fj,size_zeroCells,CT,←zAH]
   congr 1;omega
  refine ⟨_,Dr w (grownCap w (n+c) cap e*i.size),grownCap w (n+c) cap e,Ny,Tz,by simp [Dr],?_,fun b hb=>.inr (Nat.le_of_eq (Eq.symm hb)),?_⟩
  ·exact AQ.ofExt ((Au.toDrew w).allocR _)
  ·refine Ak.out (Vs (w:=w) (w1:=w.drew) (t:=e) (cs:=(((List.range (n*i.size)).map g)++Bu).toArray++Builtin.zeroCells z.cells (grownCap w (n+c) cap e-(n+c))) rfl DC |>fun hr=>?_) rfl (R:=fun j u=>((((List.range (n*i.size)).map g)++Bu).toArray++Builtin.zeroCells z.cells (grownCap w (n+c) cap e-(n+c)))[j]? =some u) fun j u hj Be=>?_
   ·obtain ⟨q1,cs,tt,q2,q3,q4,q5⟩:=hr;have CR:(n+c)*i.size<=grownCap w (n+c) cap e*i.size:=z7 _ Tz;exact ⟨q1,cs,tt,q2,by omega,q4,fun j hj=>q5 j (by omega)⟩
   ·rw [zAH] at hj;unfold Hb;have E6:j<(((List.range (n*i.size)).map g)++Bu).length:=by simp;omega
    rw [zAB (by simpa using E6)] at Be
    by_cases J2:j<n*i.size
    ·rw [yP J2]
     have:u=g j:=by
      simp only [zBI] at Be;rw [yy (by simpa using J2)] at Be;simp [J2] at Be;exact Be.symm
     rw [this];exact (hg j J2).2
    ·rw [yb J2];simp only [zBI] at Be;rw [zC (by simp;omega)] at Be;simpa using Be
theorem Y4 (ad:Option Addr:=none) {t ty e:TypeId} {i:TypeInfo} {z:Value} (hu:P.underlying t=some (.slice e)) (hi:P.info? e=some i) (hz:i.zero=some z) (CT:z.cells.size=i.size) (DK:i.bytes<=128)
 {vy:Value} {c:Nat} {Bu:List Value} (hy:Src P i.size t vy c Bu w) (hc:0<c) (hb:c<=1000000000000):
 ∃ w' Bv,(Builtin.append_ #[t,t] ty #[.slice ad 0 0,vy]).run P w= .ok (.slice (some ⟨w.heap.size,0,none⟩) c Bv) w'/\ c<=Bv/\ ∃ cs,w'=w.drew.alloc (.cells cs e)/\ cs.size=Bv*i.size/\ ∀ j,j<c*i.size -> cs[j]? =Bu[j]? :=by
 have Fj:Bu.length=c*i.size:=hy.newsLen;have K6:(Builtin.firstCells i.size 0 (.slice ad 0 0)).run P w.drew= .ok (([]:List Value).toArray) w.drew:=by cases ad <;> simp [Builtin.firstCells,loadCells,loadCellsFrom]
 have uA:c*i.bytes<=1000000000000*128:=Nat.mul_le_mul hb DK;have Ny:=run_append_grow_src (P:=P) w t t ty e i z hu hi hz ad 0 0 [] K6 vy c Bu hy (by omega) (by omega) (growslice_fits (by omega) (by rw [yt];omega));rw [yt] at Ny;have Tz:c<=grownCap w c 0 e:=grownCap_ge w c 0 e;refine ⟨_,_,Ny,Tz,_,rfl,?_,fun j hj=>?_⟩
 ·simp only [zw,Array.size_append,zBD,Fj,size_zeroCells,CT,←zAH]
  congr 1;omega
 ·rw [zAB (by simp;omega)];simp
end
end Go.Proofs.YtgkhhfnhacibcaaGreatDoor
namespace Go.Proofs.YtgkhhfnhacibcaaGreatDoor
abbrev zh:=@List.mem_map
abbrev zAD:=@Nat.eq_zero_or_pos
abbrev zBL:=@Nat.le_of_not_lt
end Go.Proofs.YtgkhhfnhacibcaaGreatDoor
namespace Go.Proofs.YtgkhhfnhacibcaaGreatDoor
open Go.RowKit
def QH (S:St):DV -> Option (List Int×Prop)
 | .nils=>some ([],True)
 | .ints l=>some (l,True)
 | .msl k m off n=>match S.h[k]? with
  | some (some (.ints l))=>if m==1 then some (l,off=0/\ n=l.length) else none
  | _=>none
 | _=>none
def Yr (S:St):DV -> Option (List Bool×Prop)
 | .nils=>some ([],True)
 | .bools l=>some (l,True)
 | .msl k m off n=>match S.h[k]? with
  | some (some (.bools l))=>if m==1 then some (l,off=0/\ n=l.length) else none
  | _=>none
 | _=>none
def YN (S:St) (m:Nat):DV -> Option (Nat×(Nat -> Nat -> DV)×Prop)
 | .nils=>some (0,(fun _ _=>.any),True)
 | .sl m' n f=>if m'==m then some (n,f,True) else none
 | .msl k m' off n=>match S.h[k]? with
  | some (some (.arr m2 n2 f))=>if m'==m&&m2==m then some (n2,f,off=0/\ n=n2) else none
  | _=>none
 | _=>none
def Ax:Nat:=1000000000000
def Y9 (P:Program) (S:St) (t:TypeId) (x y:DV):Option (DV×DH×Prop):=match J9 P t with
 | some (k,_,i,_)=>if 128<i.bytes then none else match k with
  | .ints=>match QH S y with
   | some (ys,vy)=>match x with
    | .nils=>some (.msl S.h.length 1 0 ys.length,S.h++[some (.ints ys)],vy/\ 0<ys.length/\ ys.length<=Ax)
    | .msl k m off n=>match S.h[k]? with
     | some (some (.ints xs))=>if m==1 then some (.msl S.h.length 1 0 (xs.length+ys.length),S.h.set k none++[some (.ints (xs++ys))],vy/\ (off=0/\ n=xs.length)/\ xs.length+ys.length<=Ax) else none
     | _=>none
    | _=>none
   | none=>none
  | .bools=>match Yr S y with
   | some (ys,vy)=>match x with
    | .nils=>some (.msl S.h.length 1 0 ys.length,S.h++[some (.bools ys)],vy/\ 0<ys.length/\ ys.length<=Ax)
    | .msl k m off n=>match S.h[k]? with
     | some (some (.bools xs))=>if m==1 then some (.msl S.h.length 1 0 (xs.length+ys.length),S.h.set k none++[some (.bools (xs++ys))],vy/\ (off=0/\ n=xs.length)/\ xs.length+ys.length<=Ax) else none
     | _=>none
    | _=>none
   | none=>none
  | .gen m=>match YN S m y with
   | some (c,g,vy)=>match x with
    | .nils=>some (.msl S.h.length m 0 c,S.h++[some (.arr m c g)],(vy/\ ∀ i j,i<c -> j<m -> Hy (g i j)=true)/\ 0<c/\ c<=Ax)
    | .msl k m' off n=>match S.h[k]? with
     | some (some (.arr m2 n2 f))=>if m'==m&&m2==m then some (.msl S.h.length m 0 (n2+c),S.h.set k none++[some (.arr m (n2+c) (fun i j=>if i<n2 then f i j else g (i-n2) j))],(vy/\ ∀ i j,i<c -> j<m -> Hy (g i j)=true)/\ (off=0/\ n=n2)/\ n2+c<=Ax) else none
     | _=>none
    | _=>none
   | none=>none
 | none=>none
section
variable {P:Program} {Γ:A9} {N:Nat -> Prop} {S:St} {ρ:List AN} {a:Act} {w:World} {h:DH}
theorem O7 {t e:TypeId} (hu:P.underlying t=some (.slice e)) {m:Nat} {ad:Option Addr} {c cap:Nat} {Bu:List Value} (hl:Bu.length=c*m) (hc: ∀ j u,Bu[j]? =some u -> ∃ b o,ad=some ⟨b,o,none⟩/\ w.cell? ⟨b,o+j,none⟩=some u)
 (h1: ∀ u∈Bu,u.oneCell'=true) (hm:0<m) (Xg:ad=none -> c=0):Src P m t (.slice ad c cap) c Bu w:=by
 cases ad with
 | none=>
  have:=Xg rfl;subst this;have:Bu= []:=zp (by simpa using hl);subst this;exact Src.ofNil w hu cap
 | some ad=>
  refine Src.ofSlice w hu ad c cap Bu hl (fun j u hj=>?_) h1;obtain ⟨b,o,e1,e2⟩:=hc j u hj;cases e1;rw [IS];exact e2
theorem QG (R:Ad P Γ N S ρ a w) {t e:TypeId} (hu:P.underlying t=some (.slice e)) {y:DV} {v:Value} (hy:AO (MS N S.h ρ) w y ρ v) {ys:List Int} {vy:Prop} (h:QH S y=some (ys,vy)) (hv:vy):
 Src P 1 t v ys.length (ys.map (Value.int .i64)) w:=by
 have one: ∀ u∈ys.map (Value.int .i64),u.oneCell'=true:=fun u hu=>by obtain ⟨n,_,rfl⟩:=zh.1 hu;rfl
 have val: ∀ {j:Nat} {u:Value},(ys.map (Value.int .i64))[j]? =some u -> j<ys.length/\ u= .int .i64 (ys.getD j 0):=fun {j u} hj=>by
  have AU:=(yZ.1 hj).1;have AU:j<ys.length:=by simpa using AU
  simp [AU] at hj;exact ⟨AU,by rw [←hj];simp [AU]⟩
 unfold QH at h;split at h
 ·cases h;rw [show v=_ from hy];exact Src.ofNil w hu 0
 ·cases h;obtain ⟨ad,cap,rfl,h1,h2,h3⟩:=hy;refine O7 hu (by simp) (fun j u hj=>?_) one (by omega) (fun e=>?_)
  ·obtain ⟨AU,rfl⟩:=val hj;obtain ⟨b,o,e1,_,e2⟩:=h3 j AU;exact ⟨b,o,e1,e2⟩
  ·rcases zAD ys.length with h0 | h0
   ·exact h0
   ·obtain ⟨b,o,e1,_⟩:=h3 0 h0;rw [e] at e1;cases e1
 ·rename_i k m off n;obtain ⟨p,cap,hp,rfl,h1,h2,h3⟩:=hy;split at h
  ·rename_i l hk;split at h
   ·rename_i hm;cases h;have CN:m=1:=by simpa using hm
    subst CN;obtain ⟨p',BJ,hr⟩:=R.hr.obj k _ hk;have e:p'=p:=yY (BJ.symm.trans hp);subst e;obtain ⟨rfl,rfl⟩:=hv;refine O7 hu (by simp) (fun j u hj=>?_) one (by omega) (fun e=>by cases e);obtain ⟨AU,rfl⟩:=val hj;obtain ⟨u,e1,e2⟩:=Ak.cell hr AU;exact ⟨p'.blk,p'.off,by simp,by rw [e1,e2]⟩
   ·cases h
  ·cases h
 ·cases h
theorem iB (R:Ad P Γ N S ρ a w) {t e:TypeId} (hu:P.underlying t=some (.slice e)) {y:DV} {v:Value} (hy:AO (MS N S.h ρ) w y ρ v) {ys:List Bool} {vy:Prop} (h:Yr S y=some (ys,vy)) (hv:vy):
 Src P 1 t v ys.length (ys.map Value.bool) w:=by
 have one: ∀ u∈ys.map Value.bool,u.oneCell'=true:=fun u hu=>by obtain ⟨n,_,rfl⟩:=zh.1 hu;rfl
 have val: ∀ {j:Nat} {u:Value},(ys.map Value.bool)[j]? =some u -> j<ys.length/\ u= .bool (ys.getD j false):=fun {j u} hj=>by
  have AU:=(yZ.1 hj).1;have AU:j<ys.length:=by simpa using AU
  simp [AU] at hj;exact ⟨AU,by rw [←hj];simp [AU]⟩
 unfold Yr at h;split at h
 ·cases h;rw [show v=_ from hy];exact Src.ofNil w hu 0
 ·cases h;obtain ⟨ad,cap,rfl,h1,h2,h3⟩:=hy;refine O7 hu (by simp) (fun j u hj=>?_) one (by omega) (fun e=>?_)
  ·obtain ⟨AU,rfl⟩:=val hj;obtain ⟨b,o,e1,_,e2⟩:=h3 j AU;exact ⟨b,o,e1,e2⟩
  ·rcases zAD ys.length with h0 | h0
   ·exact h0
   ·obtain ⟨b,o,e1,_⟩:=h3 0 h0;rw [e] at e1;cases e1
 ·rename_i k m off n;obtain ⟨p,cap,hp,rfl,h1,h2,h3⟩:=hy;split at h
  ·rename_i l hk;split at h
   ·rename_i hm;cases h;have CN:m=1:=by simpa using hm
    subst CN;obtain ⟨p',BJ,hr⟩:=R.hr.obj k _ hk;have e:p'=p:=yY (BJ.symm.trans hp);subst e;obtain ⟨rfl,rfl⟩:=hv;refine O7 hu (by simp) (fun j u hj=>?_) one (by omega) (fun e=>by cases e);obtain ⟨AU,rfl⟩:=val hj;obtain ⟨u,e1,e2⟩:=Ak.cell hr AU;exact ⟨p'.blk,p'.off,by simp,by rw [e1,e2]⟩
   ·cases h
  ·cases h
 ·cases h
theorem Qp {ρ':Operand -> Value} {o:Oper} {c:Call} {x y:Operand} {t t2:TypeId} (ho:o.op= .call c) (hc:c.callee= .builtin .append) (ha:c.args.toList= [x,y]) (ht:c.argTypes.toList= [t,t2]):
 execOp ρ' o=(do pure (.value (←Builtin.append_ #[t,t2] o.type #[ρ' x,ρ' y]))):=by
 unfold execOp;rw [ho]
 show (resolve ρ' c o.type>>=fun d=>invoke d.target d.args)=_
 unfold resolve;rw [hc,Rl ha,Rl ht];simp;rfl
theorem Y1 (R:Ad P Γ N S ρ a w) {t e:TypeId} {i:TypeInfo} {z:Value} (hu:P.underlying t=some (.slice e)) (hi:P.info? e=some i) (hz:i.zero=some z) (Jv:i.size≠0) (CT:z.cells.size=i.size) (DK:i.bytes<=128)
 {k:Nat} {ob ob':DO} {p:AN} (hk:S.h[k]? =some (some ob)) (hp:ρ[k]? =some p) {n cap c:Nat} {Rw:Nat -> Value -> Prop} (hr:Ak w p (n*i.size) Rw) (K9:n<=cap) (Tm:p.off+cap*i.size<=p.room)
 {vy:Value} {Bu:List Value} (hy:Src P i.size t vy c Bu w) (hb:n+c<=Ax)
 (HP: ∀ M ρ' w' p',Bi (MS N S.h ρ) w ρ M w' ρ' -> Ak w' p' ((n+c)*i.size) (Hb (n*i.size) Rw Bu) -> Db P M w' ρ' p' ob')
 (o:Oper) {cl:Call} {x y:Operand} (ho:o.op= .call cl) (hc:cl.callee= .builtin .append) (ha:cl.args.toList= [x,y]) (ht:cl.argTypes.toList= [t,t]) (hx:a.eval x= .slice (some ⟨p.blk,p.off,none⟩) n cap) (XH:a.eval y=vy):
 BT P (execOp a.eval o) w (C6 P Γ N S.h ρ w false (.msl S.h.length i.size 0 (n+c)) (S.h.set k none++[some ob'])):=by
 obtain ⟨w',p',Bv,h1,h2,h3,h4,h5,h6⟩:=Y0 (ty:=o.type) hu hi hz Jv CT DK hr K9 Tm hy hb;refine BT.value (Qp ho hc ha ht) (by rw [hx,XH];exact h1) ?_
 have uj: ∀ b,p'.foot b -> DD w' b:=fun b hb=>by
  obtain ⟨e1,cs,tt,e2,_⟩:=h6;rw [e1] at hb;exact .cells (c:=cs) (t:=tt) (z:=(0,0)) (by rw [show b=p'.blk from hb];exact e2)
 have Ay:(S.h.set k none).length=S.h.length:=by simp
 have O:Bi (MS N S.h ρ) w ρ (MS N (S.h.set k none++[some ob']) (ρ++[p'])) w' (ρ++[p']):=by
  refine ⟨fun b hb hm _=>h4.block b hb fun hx=>hm (.inr ⟨k,ob,p,hk,hp,hx⟩),fun b hb=>?_,fun i q hi=>EC hi⟩;rcases hb with hb | hb
  ·exact .inl (.inl hb)
  ·obtain ⟨i1,o1,p1,g1,g2,g3⟩:=hb;rcases DL g1 with ⟨hl,g1⟩ | ⟨hl,_⟩
   ·rcases DL g2 with ⟨_,g2⟩ | ⟨CU,_⟩
    ·exact .inl (.inr ⟨i1,o1,p1,(Fk g1).2,g2,g3⟩)
    ·rw [Ay] at hl;rw [R.hr.len] at CU;omega
   ·rcases DL g2 with ⟨CU,_⟩ | ⟨_,rfl⟩
    ·rw [Ay] at hl;rw [R.hr.len] at CU;omega
    ·exact (h5 b g3).imp (fun hx=>.inr ⟨k,ob,p,hk,hp,hx⟩) id
 obtain ⟨g1,g2⟩:=R.hr.regrow (o':=ob') hk hp h4 (fun b hb=>⟨h5 b hb,uj b hb⟩) (HP _ _ _ _ O h6);refine ⟨⟨ρ++[p'],g1,⟨p',Bv,by rw [←R.hr.len];simp,by simp,h2,by unfold LB;unfold Ax at hb;omega,by simpa using h3⟩,g2,fun _ _ h=>EC h⟩,fun h=>by cases h⟩
theorem Y5 (R:Ad P Γ N S ρ a w) {t e:TypeId} {i:TypeInfo} {z:Value} (hu:P.underlying t=some (.slice e)) (hi:P.info? e=some i) (hz:i.zero=some z) (CT:z.cells.size=i.size) (DK:i.bytes<=128)
 {ob':DO} {c:Nat} {vy:Value} {Bu:List Value} (hy:Src P i.size t vy c Bu w) (Ml:0<c) (hb:c<=Ax)
 (HP: ∀ M ρ' w' p',Bi (MS N S.h ρ) w ρ M w' ρ' -> Ak w' p' (c*i.size) (fun j u=>Bu[j]? =some u) -> Db P M w' ρ' p' ob') (ext:Bool)
 (o:Oper) {cl:Call} {x y:Operand} (ho:o.op= .call cl) (hc:cl.callee= .builtin .append) (ha:cl.args.toList= [x,y]) (ht:cl.argTypes.toList= [t,t]) (hx:a.eval x= .slice none 0 0) (XH:a.eval y=vy):
 BT P (execOp a.eval o) w (C6 P Γ N S.h ρ w ext (.msl S.h.length i.size 0 c) (S.h++[some ob'])):=by
 obtain ⟨w',Bv,h1,h2,cs,rfl,h4,h5⟩:=Y4 none (ty:=o.type) hu hi hz CT DK hy Ml hb;have Fj:Bu.length=c*i.size:=hy.newsLen;refine BT.value (Qp ho hc ha ht) (by rw [hx,XH];exact h1) ?_;have CR:c*i.size<=Bv*i.size:=z7 _ h2;refine OL (d:=.msl S.h.length i.size 0 c) R.hr ⟨Au.toDrew w,rfl⟩ (fun M ρ' O=>HP _ _ _ _ O ?_) (fun M ρ' hp=>⟨_,Bv,hp,by simp [Dr],h2,by unfold LB;unfold Ax at hb;omega,by simp only [Dr];omega⟩) ext;refine Lt rfl (by omega) fun j hj=>?_
 rw [h5 j hj];exact ⟨Bu[j],by simp [Fj,hj],by simp [Fj,hj]⟩
theorem W5 {xs ys:List Int} {M:Nat -> Prop} {w':World} {ρ':List AN} {p':AN} {s:Nat} (hs:s=1) (h:Ak w' p' ((xs.length+ys.length)*s) (Hb (xs.length*s) (fun j u=>u= .int .i64 (xs.getD j 0)) (ys.map (Value.int .i64)))):Db P M w' ρ' p' (.ints (xs++ys)):=by
 subst hs
 show Ak _ _ (xs++ys).length _
 rw [yz];rw [zR,zR] at h;refine Ak.out h rfl fun j u hj hu=>?_
 unfold Hb at hu;split at hu
 ·rename_i AU;rw [hu];simp [u8,yy AU]
 ·rename_i AU;have GQ:j-xs.length<ys.length:=by omega
  simp [GQ] at hu;rw [←hu];simp [u8,zC (zBL AU),GQ]
theorem xO {xs ys:List Bool} {M:Nat -> Prop} {w':World} {ρ':List AN} {p':AN} {s:Nat} (hs:s=1) (h:Ak w' p' ((xs.length+ys.length)*s) (Hb (xs.length*s) (fun j u=>u= .bool (xs.getD j false)) (ys.map Value.bool))):Db P M w' ρ' p' (.bools (xs++ys)):=by
 subst hs
 show Ak _ _ (xs++ys).length _
 rw [yz];rw [zR,zR] at h;refine Ak.out h rfl fun j u hj hu=>?_
 unfold Hb at hu;split at hu
 ·rename_i AU;rw [hu];simp [u8,yy AU]
 ·rename_i AU;have GQ:j-xs.length<ys.length:=by omega
  simp [GQ] at hu;rw [←hu];simp [u8,zC (zBL AU),GQ]
theorem fZ (R:Ad P Γ N S ρ a w) {t e:TypeId} (hu:P.underlying t=some (.slice e)) {y:DV} {v:Value} (hy:AO (MS N S.h ρ) w y ρ v) {m c:Nat} (AC:0<m) {g:Nat -> Nat -> DV} {vy:Prop} (h:YN S m y=some (c,g,vy)) (hv:vy)
 (h1: ∀ i j,i<c -> j<m -> Hy (g i j)=true): ∃ Bu,Src P m t v c Bu w/\ ∀ j u,Bu[j]? =some u -> AO (MS N S.h ρ) w (g (j/m) (j % m)) [] u:=by
 have dm: ∀ {j:Nat},j<c*m -> j/m<c/\ j % m<m/\ j/m*m+j % m=j:=fun {j} hj=>⟨by rw [zAO AC];exact hj,zBV _ AC,by rw [zAF];exact Nat.div_add_mod j m⟩
 have Ya: ∀ (ad:Option Addr) (cap:Nat),(∀ j,j<c*m -> ∃ b o u,ad=some ⟨b,o,none⟩/\ w.cell? ⟨b,o+j,none⟩=some u/\ AO (MS N S.h ρ) w (g (j/m) (j % m)) [] u) -> v= .slice ad c cap -> (ad=none -> c=0) ->
  ∃ Bu,Src P m t v c Bu w/\ ∀ j u,Bu[j]? =some u -> AO (MS N S.h ρ) w (g (j/m) (j % m)) [] u:=by
  intro ad cap hc rf Xg
  obtain ⟨f,hf⟩: ∃ f:Nat -> Value,∀ j,j<c*m -> ∃ b o,ad=some ⟨b,o,none⟩/\ w.cell? ⟨b,o+j,none⟩=some (f j)/\ AO (MS N S.h ρ) w (g (j/m) (j % m)) [] (f j):=by
   refine ⟨fun j=>(match ad with | some a=>w.cell? ⟨a.block,a.off+j,none⟩ | none=>none).getD undef,fun j hj=>?_⟩;obtain ⟨b,o,u,rfl,e2,e3⟩:=hc j hj;exact ⟨b,o,rfl,by simp [e2],by simpa [e2] using e3⟩
  have val: ∀ {j:Nat} {u:Value},((List.range (c*m)).map f)[j]? =some u -> j<c*m/\ u=f j:=fun {j u} hj=>by
   have AU:=(yZ.1 hj).1;have AU:j<c*m:=by simpa using AU
   simp [AU] at hj;exact ⟨AU,hj.symm⟩
  refine ⟨(List.range (c*m)).map f,?_,fun j u hj=>?_⟩
  ·rw [rf];refine O7 hu (by simp) (fun j u hj=>?_) (fun u Be=>?_) AC Xg
   ·obtain ⟨AU,rfl⟩:=val hj;obtain ⟨b,o,e1,e2,_⟩:=hf j AU;exact ⟨b,o,e1,e2⟩
   ·obtain ⟨j,hj,rfl⟩:=zh.1 Be;have AU:=yh.1 hj;obtain ⟨_,_,_,_,e3⟩:=hf j AU;exact (S5 (h1 _ _ (dm AU).1 (dm AU).2.1) e3).1
  ·obtain ⟨AU,rfl⟩:=val hj;obtain ⟨_,_,_,_,e3⟩:=hf j AU;exact e3
 unfold YN at h;split at h
 ·cases h;refine Ya none 0 (fun j hj=>by rw [Nat.zero_mul] at hj;omega) hy (fun _=>rfl)
 ·rename_i m' n f;split at h
  ·rename_i hm;cases h;have CN:m'=m:=by simpa using hm
   subst CN;obtain ⟨ad,cap,rfl,g1,g2,g3⟩:=hy;refine Ya ad cap (fun j hj=>?_) rfl (fun e=>?_)
   ·obtain ⟨b,o,u,e1,_,e2,e3⟩:=g3 _ _ (dm hj).1 (dm hj).2.1;exact ⟨b,o,u,e1,by rw [(dm hj).2.2] at e2;exact e2,e3⟩
   ·rcases zAD c with h0 | h0
    ·exact h0
    ·obtain ⟨b,o,u,e1,_⟩:=g3 0 0 h0 AC;rw [e] at e1;cases e1
  ·cases h
 ·rename_i k m' off n;obtain ⟨p,cap,hp,rfl,g1,g2,g3⟩:=hy;split at h
  ·rename_i m2 n2 f hk;split at h
   ·rename_i hm;cases h;simp only [yT,yo] at hm;obtain ⟨rfl,rfl⟩:=hm;obtain ⟨p',BJ,hr⟩:=R.hr.obj k _ hk;have e:p'=p:=yY (BJ.symm.trans hp);subst e;obtain ⟨rfl,rfl⟩:=hv;refine Ya (some ⟨p'.blk,p'.off+0*m2,none⟩) cap (fun j hj=>?_) rfl (fun e=>by cases e);obtain ⟨u,e1,e2⟩:=Ak.cell hr hj;exact ⟨p'.blk,p'.off,u,by simp,e1,e2⟩
   ·cases h
  ·cases h
 ·cases h
theorem xp (R:Ad P Γ N S ρ a w) {t:TypeId} {x y:Operand} {d:DV} {h':DH} {vc:Prop} (hd:Y9 P S t (Ac S.fr x) (Ac S.fr y)=some (d,h',vc)) (hv:vc) (o:Oper) {cl:Call} (ho:o.op= .call cl) (hc:cl.callee= .builtin .append)
 (ha:cl.args.toList= [x,y]) (ht:cl.argTypes.toList= [t,t]):BT P (execOp a.eval o) w (C6 P Γ N S.h ρ w false d h'):=by
 have rx:=Bm R x;have ry:=Bm R y;unfold Y9 at hd;split at hd
 ·rename_i kk e i z hk;obtain ⟨hu,hi,hz,h0,CT,Dv,sO,GO⟩:=Qv hk;clear sO GO;split at hd
  ·cases hd
  ·rename_i DK;have OI:i.bytes<=128:=by omega
   split at hd
   ·have Cc:i.size=1:=Dv.symm;split at hd
    ·rename_i ys vy hy;split at hd
     ·rename_i ex;cases hd;rw [ex] at rx
      have:=Y5 (ob':=.ints ys) R hu hi hz CT OI (by rw [Cc];exact QG R hu ry hy hv.1) hv.2.1 hv.2.2 (fun M ρ' w' p' O hr=>by
       have Cz:=hr;rw [Cc,zR] at Cz;refine Ak.out Cz rfl fun j u hj Be=>?_
       simp [hj] at Be;rw [←Be];simp [hj]) false o ho hc ha ht rx rfl
      rw [Cc] at this;exact this
     ·rename_i k m off n ex;rw [ex] at rx;obtain ⟨p,cap,hp,hx,g1,g2,g3⟩:=rx;split at hd
      ·rename_i xs K7;split at hd
       ·rename_i hm;cases hd;have CN:m=1:=by simpa using hm
        subst CN;obtain ⟨q1,⟨rfl,rfl⟩,q3⟩:=hv;obtain ⟨p',BJ,hr⟩:=R.hr.obj k _ K7;have e:p'=p:=yY (BJ.symm.trans hp);subst e
        have:=Y1 (ob':=.ints (xs++ys)) (n:=xs.length) (cap:=cap) (c:=ys.length) R hu hi hz h0 CT OI K7 hp (Rw:=fun j u=>u= .int .i64 (xs.getD j 0)) (by rw [Cc,zR];exact hr) g1 (by rw [Cc];simpa using g3) (by rw [Cc];exact QG R hu ry hy q1) q3
         (fun M ρ' w' p' O hr=>W5 Cc hr) o ho hc ha ht (by simpa using hx) rfl
        rw [Cc] at this;exact this
       ·cases hd
      ·cases hd
     ·cases hd
    ·cases hd
   ·have Cc:i.size=1:=Dv.symm;split at hd
    ·rename_i ys vy hy;split at hd
     ·rename_i ex;cases hd;rw [ex] at rx
      have:=Y5 (ob':=.bools ys) R hu hi hz CT OI (by rw [Cc];exact iB R hu ry hy hv.1) hv.2.1 hv.2.2 (fun M ρ' w' p' O hr=>by
       have Cz:=hr;rw [Cc,zR] at Cz;refine Ak.out Cz rfl fun j u hj Be=>?_
       simp [hj] at Be;rw [←Be];simp [hj]) false o ho hc ha ht rx rfl
      rw [Cc] at this;exact this
     ·rename_i k m off n ex;rw [ex] at rx;obtain ⟨p,cap,hp,hx,g1,g2,g3⟩:=rx;split at hd
      ·rename_i xs K7;split at hd
       ·rename_i hm;cases hd;have CN:m=1:=by simpa using hm
        subst CN;obtain ⟨q1,⟨rfl,rfl⟩,q3⟩:=hv;obtain ⟨p',BJ,hr⟩:=R.hr.obj k _ K7;have e:p'=p:=yY (BJ.symm.trans hp);subst e
        have:=Y1 (ob':=.bools (xs++ys)) (n:=xs.length) (cap:=cap) (c:=ys.length) R hu hi hz h0 CT OI K7 hp (Rw:=fun j u=>u= .bool (xs.getD j false)) (by rw [Cc,zR];exact hr) g1 (by rw [Cc];simpa using g3) (by rw [Cc];exact iB R hu ry hy q1) q3
         (fun M ρ' w' p' O hr=>xO Cc hr) o ho hc ha ht (by simpa using hx) rfl
        rw [Cc] at this;exact this
       ·cases hd
      ·cases hd
     ·cases hd
    ·cases hd
   ·rename_i m;have Cb:i.size=m:=Dv.symm;have AC:0<m:=by omega
    split at hd
    ·rename_i c g vy hy;split at hd
     ·rename_i ex;cases hd;rw [ex] at rx;obtain ⟨Bu,XL,Xh⟩:=fZ R hu ry AC hy hv.1.1 hv.1.2
      have:=Y5 (ob':=.arr m c g) R hu hi hz CT OI (by rw [Cb];exact XL) hv.2.1 hv.2.2 (fun M ρ' w' p' O hr=>by
       rw [Cb] at hr;exact Ak.out hr rfl fun j u hj Be=>AO.out _ O.nil (Xh j u Be)) false o ho hc ha ht rx rfl
      rw [Cb] at this;exact this
     ·rename_i k m' off n ex;rw [ex] at rx;obtain ⟨p,cap,hp,hx,g1,g2,g3⟩:=rx;split at hd
      ·rename_i m2 n2 f K7;split at hd
       ·rename_i hm;cases hd;simp only [yT,yo] at hm;obtain ⟨rfl,rfl⟩:=hm;obtain ⟨q1,⟨rfl,rfl⟩,q3⟩:=hv;obtain ⟨p',BJ,hr⟩:=R.hr.obj k _ K7;have e:p'=p:=yY (BJ.symm.trans hp);subst e;obtain ⟨Bu,XL,Xh⟩:=fZ R hu ry AC hy q1.1 q1.2
        have:=Y1 (ob':=.arr m2 (n+c) (fun i j=>if i<n then f i j else g (i-n) j)) (n:=n) (cap:=cap) (c:=c) R hu hi hz h0 CT OI K7 hp (Rw:=fun j u=>AO (MS N S.h ρ) w (f (j/m2) (j % m2)) [] u) (by rw [Cb];exact hr) g1 (by rw [Cb];simpa using g3) (by rw [Cb];exact XL) q3
         (fun M ρ' w' p' O hr=>by
          rw [Cb] at hr;refine Ak.out hr rfl fun j u hj Be=>?_
          show AO M w' (if j/m2<n then f (j/m2) (j % m2) else g (j/m2-n) (j % m2)) [] u
          unfold Hb at Be
          by_cases AU:j<n*m2
          ·rw [yP AU] at Be;rw [yP (by rw [zAO AC];exact AU)];exact AO.out _ O.nil Be
          ·rw [yb AU] at Be;rw [yb (by rw [zAO AC];exact AU)];have h1:=Xh _ _ Be;have e1:(j-n*m2)/m2=j/m2-n:=by rw [zAF n m2];exact Nat.sub_mul_div ..
           have e2:(j-n*m2) % m2=j % m2:=by
            have GQ:j=(j-n*m2)+n*m2:=by omega
            rw [GQ,Nat.add_mul_mod_self_right,Nat.add_sub_cancel]
           rw [e1,e2] at h1;exact AO.out _ O.nil h1) o ho hc ha ht (by simpa using hx) rfl
        rw [Cb] at this;exact this
       ·cases hd
      ·cases hd
     ·cases hd
    ·cases hd
 ·cases hd
end
end Go.Proofs.YtgkhhfnhacibcaaGreatDoor
namespace Go.Proofs.YtgkhhfnhacibcaaGreatDoor
abbrev zJ:=@Bool.true_and
abbrev zS:=@Bool.not_true
abbrev zy:=@List.map_cons
abbrev zAc:=@List.getElem?_drop
abbrev zBM:=@List.length_drop
abbrev zBR:=@Go.run_equalIn_int
end Go.Proofs.YtgkhhfnhacibcaaGreatDoor
namespace Go.Proofs.YtgkhhfnhacibcaaGreatDoor
open Go.RowKit
def UM (Hx:Nat -> Option (Nat×Nat)) (cells:List DV):List (Nat×DV) -> Option (List DV)
 | []=>some cells
 | (i,d)::rest=>match Hx i with
  | none=>none
  | some (off,size)=>match IK d with
   | none=>none
   | some l=>if l.length=size/\ off+l.length<=cells.length then UM Hx (Ln cells off l) rest else none
def WF (P:Program) (t:TypeId):Option (Value×(Nat -> Option (Nat×Nat))):=match P.info? t with
 | some it=>match P.underlying t with
  | some (.array _ e)=>match it.zero with
   | some z=>match P.info? e with
    | some ie=>some (z,fun i=>some (i*ie.size,ie.size))
    | none=>none
   | none=>none
  | some (.struct vj)=>match it.zero with
   | some z=>match vj.toList.mapM (fun f=>(P.info? f.type).map fun i=>(f.offset,i.size)) with
    | some L3=>some (z,fun i=>L3.toArray[i]?)
    | none=>none
   | none=>none
  | _=>none
 | none=>none
def TK (P:Program) (S:St) (t:TypeId) (parts:List (Nat×Operand)):Option (DV×Prop):=match WF P t with
 | some (z,Hx)=>match UM Hx (z.cells.toList.map FI) (parts.map fun x=>(x.1,Ac S.fr x.2)) with
  | some l=>some (.agg l.length (fun j=>l.getD j .any),True)
  | none=>none
 | none=>none
def L6 (P:Program) (t:TypeId) (m:Nat) (f:Nat -> DV) (off size:Nat):Option DV:=
 if off+size<=m then (if F0 P t then (if size=1 then some (f off) else none) else if RS P t size then some (.agg size (GH size fun j=>f (off+j))) else none) else none
def Wx (P:Program) (t:TypeId) (x:DV) (n:Int):Option (DV×Prop):=match x with
 | .agg m f=>match P.underlying t with
  | some (.array len e)=>match P.info? e with
   | some i=>if F0 P e&&i.size==1&&len==m then some (f n.toNat,0<=n/\ n<len) else none
   | none=>none
  | _=>none
 | _=>none
def UI (P:Program) (t:TypeId) (x:DV) (fi:Nat):Option (DV×Prop):=match x with
 | .agg m f=>match P.underlying t with
  | some (.struct fs)=>match fs[fi]? with
   | some fd=>match P.info? fd.type with
    | some i=>match L6 P fd.type m f fd.offset i.size with
     | some d=>some (d,True)
     | none=>none
    | none=>none
   | none=>none
  | _=>none
 | _=>none
def YZ (P:Program) (t:TypeId) (x:DV) (lo hi:Option Int):Option (DV×Prop):=match P.underlying t with
 | some (.slice e)=>match P.info? e with
  | some i=>match x with
   | .ints l=>if i.size=1 then some (.ints ((l.take (hi.getD l.length).toNat).drop (lo.getD 0).toNat),0<=lo.getD 0/\ lo.getD 0<=hi.getD l.length/\ hi.getD l.length<=l.length) else none
   | .bools l=>if i.size=1 then some (.bools ((l.take (hi.getD l.length).toNat).drop (lo.getD 0).toNat),0<=lo.getD 0/\ lo.getD 0<=hi.getD l.length/\ hi.getD l.length<=l.length) else none
   | .sl m n f=>if i.size=m then some (.sl m ((hi.getD n).toNat-(lo.getD 0).toNat) (fun i j=>f ((lo.getD 0).toNat+i) j),0<=lo.getD 0/\ lo.getD 0<=hi.getD n/\ hi.getD n<=n) else none
   | .msl k m off n=>if i.size=m then some (.mse k m (off+(lo.getD 0).toNat) ((hi.getD n).toNat-(lo.getD 0).toNat),0<=lo.getD 0/\ lo.getD 0<=hi.getD n/\ hi.getD n<=n) else none
   | _=>none
  | none=>none
 | _=>none
def TT (S:St):Option Operand -> Option (Option Int)
 | none=>some none
 | some x=>match Ac S.fr x with
  | .int _ n=>some (some n)
  | _=>none
def OX (f g:Nat -> DV):List Nat -> Bool
 | []=>true
 | i::is=>(HL (f i)==HL (g i))&&OX f g is
def US (P:Program) (t:TypeId) (f g:Nat -> DV) (m m':Nat):Option (List Nat):=match P.underlying t with
 | some (.array n e)=>match P.info? e with
  | some i=>match P.underlying e with
   | some (.int _)=>if i.size==1&&F0 P e&&P.eqGuardType P.depth t==false&&n==m&&n==m'&&(List.range n).all (fun i=>Jq (f i)&&Jq (g i)) then some (List.range n) else none
   | _=>none
  | none=>none
 | _=>none
def Qs (P:Program) (op:BinOp) (t:TypeId) (x y:DV):Option (DV×Prop):=match op,x,y with
 | .eql,.agg m f,.agg m' g=>match US P t f g m m' with
  | some is=>some (.bool (OX f g is),True)
  | none=>none
 | .neq,.agg m f,.agg m' g=>match US P t f g m m' with
  | some is=>some (.bool (!(OX f g is)),True)
  | none=>none
 | _,_,_=>none
def Ph (P:Program) (S:St):Op -> Option (DV×Prop)
 | .build t parts=>TK P S t parts.toList
 | .index t x i=>match Ac S.fr i with
  | .int _ n=>Wx P t (Ac S.fr x) n
  | _=>none
 | .field t x f=>UI P t (Ac S.fr x) f
 | .slice t x lo hi none=>match TT S lo with
  | some l=>match TT S hi with
   | some h=>YZ P t (Ac S.fr x) l h
   | none=>none
  | none=>none
 | .binOp op t x y t'=>match Qs P op t (Ac S.fr x) (Ac S.fr y) with
  | some r=>some r
  | none=>Nb P S (.binOp op t x y t')
 | op=>Nb P S op
section
variable {P:Program} {Γ:A9} {N:Nat -> Prop} {S:St} {ρ:List AN} {a:Act} {w:World}
def U0 (M:Nat -> Prop) (w:World) (ρ:List AN) (l:List DV) (cs:Array Value):Prop:=cs.size=l.length/\ ∀ j,j<l.length -> ∃ u,cs[j]? =some u/\ AO M w (l.getD j .any) ρ u
theorem iT: ∀ (vs:List Value) (k off:Nat) (cs:Array Value),((vs.zipIdx k).foldl (fun (cs:Array Value) (x:Value×Nat)=>cs.setIfInBounds (off+x.2) x.1) cs).size=cs.size/\
 ∀ j,((vs.zipIdx k).foldl (fun (cs:Array Value) (x:Value×Nat)=>cs.setIfInBounds (off+x.2) x.1) cs)[j]? =if off+k<=j/\ j<off+k+vs.length/\ j<cs.size then vs[j-(off+k)]? else cs[j]?
 | [],k,off,cs=>⟨rfl,fun j=>by
  rw [yb]
  ·rfl
  ·simp only [zm];omega⟩
 | v::vs,k,off,cs=>by
  obtain ⟨h1,h2⟩:=iT vs (k+1) off (cs.setIfInBounds (off+k) v);rw [List.zipIdx_cons,zn];refine ⟨by rw [h1];simp,fun j=>?_⟩;rw [h2 j,zY];simp only [Array.size_setIfInBounds]
  by_cases e:j=off+k
  ·subst e;rw [yb (by omega),zK,yP rfl]
   by_cases hs:off+k<cs.size
   ·rw [yP hs,yP (by omega),Nat.sub_self];rfl
   ·rw [yb hs,yb (by omega),zBA (by omega)]
  ·by_cases e2:off+(k+1)<=j/\ j<off+(k+1)+vs.length/\ j<cs.size
   ·rw [yP e2,yP (by omega),show j-(off+k)=(j-(off+(k+1)))+1 by omega];simp
   ·rw [yb e2,yb (by omega),zK,yb (by omega)]
theorem fq {M:Nat -> Prop} {Hx:Nat -> Option (Nat×Nat)}: ∀ (parts:List (Nat×Operand)) (l:List DV) (cs:Array Value) (r:List DV),U0 M w ρ l cs -> (∀ x,AO M w (Ac S.fr x) ρ (a.eval x)) ->
 UM Hx l (parts.map fun x=>(x.1,Ac S.fr x.2))=some r -> ∃ rs,Instr.fill Hx cs (parts.map fun x=>(x.1,a.eval x.2))=some rs/\ U0 M w ρ r rs
 | [],l,cs,r,hc,_,h=>by cases h;exact ⟨cs,rfl,hc⟩
 | (i,x)::rest,l,cs,r,hc,hr,h=>by
  simp only [zy,UM] at h;split at h
  ·cases h
  ·rename_i off size FK;split at h
   ·cases h
   ·rename_i ds FM;split at h
    ·rename_i A5;obtain ⟨c1,c2⟩:=Q2 FM (hr x);have Ay:(a.eval x).cells.size=size:=by rw [c1,A5.1]
     have fA: ¬ (off+(a.eval x).cells.size>cs.size):=by rw [c1,hc.1];omega
     obtain ⟨s1,s2⟩:=iT (a.eval x).cells.toList 0 off cs
     have HP:U0 M w ρ (Ln l off ds) ((a.eval x).cells.zipIdx.foldl (fun cs (c,j)=>cs.setIfInBounds (off+j) c) cs):=by
      have e0:((a.eval x).cells.zipIdx.foldl (fun cs (c,j)=>cs.setIfInBounds (off+j) c) cs)=(((a.eval x).cells.toList.zipIdx 0).foldl (fun (cs:Array Value) (x:Value×Nat)=>cs.setIfInBounds (off+x.2) x.1) cs):=by
       rw [←Array.foldl_toList];simp
      rw [e0];refine ⟨by rw [s1,VT,hc.1],fun j hj=>?_⟩;rw [VT] at hj;rw [s2 j,VV l off ds hj]
      by_cases e:off<=j/\ j<off+ds.length
      ·rw [yP (by simp;rw [c1,hc.1];omega),yP e];obtain ⟨u,g1,g2⟩:=c2 (j-off) (by omega);exact ⟨u,by simpa using g1,g2⟩
      ·rw [yb (by simp;rw [c1];omega),yb e];exact hc.2 j hj
     obtain ⟨rs,g1,g2⟩:=fq rest _ _ r HP hr h;refine ⟨rs,?_,g2⟩;simp only [zy,Instr.fill,FK];rw [yb (by simp only [yk,y8];omega)];exact g1
    ·cases h
theorem oJ {t:TypeId} {z:Value} {Hx:Nat -> Option (Nat×Nat)} (h:WF P t=some (z,Hx)) (parts:List (Nat×Value)):P.built t parts=Instr.fill Hx z.cells parts:=by
 unfold WF at h;unfold Program.built
 repeat' (split at h)
 all_goals first
  | (cases h;done)
  | (cases h;simp_all)
theorem p9 (R:Ad P Γ N S ρ a w) {t:TypeId} {parts:Array (Nat×Operand)} {d:DV} {vc:Prop} (h:TK P S t parts.toList=some (d,vc)):Yl P N w (MS N S.h ρ) ρ (Instr.build t (parts.map fun (i,x)=>(i,a.eval x))) d:=by
 unfold TK at h;split at h
 ·rename_i z Hx hp;split at h
  ·rename_i l hl;cases h
   have h0:U0 (MS N S.h ρ) w ρ (z.cells.toList.map FI) z.cells:=⟨by simp,fun j hj=>by
    have BM:j<z.cells.size:=by simpa using hj
    exact ⟨z.cells[j],by simp [BM],by
     have:(z.cells.toList.map FI).getD j .any=FI z.cells[j]:=by simp [BM]
     rw [this];exact Ps _⟩⟩
   obtain ⟨rs,g1,g2,g3⟩:=fq parts.toList _ _ _ h0 (Bm R) hl;refine Yl.pure (v:=.agg rs) (fun W=>run_build W t _ rs ?_) ⟨rs,rfl,g2,g3⟩;rw [oJ hp];have e1:(parts.map fun (i,x)=>(i,a.eval x)).toList=parts.toList.map fun x=>(x.1,a.eval x.2):=by simp
   rw [e1];exact g1
  ·cases h
 ·cases h
theorem Vp {t:TypeId} {cs:Array Value} {off size m:Nat} {f:Nat -> DV} {d:DV} {M:Nat -> Prop} {i:TypeInfo} (hi:P.info? t=some i) (A5:i.size=size) (DC:cs.size=m) (hr: ∀ j,j<m -> ∃ u,cs[j]? =some u/\ AO M w (f j) ρ u) (h:L6 P t m f off size=some d):Yl P N w M ρ (part t cs off) d:=by
 unfold L6 at h;split at h
 ·rename_i CR;split at h
  ·rename_i h1;split at h
   ·rename_i hs;cases h;obtain ⟨u,g1,g2⟩:=hr off (by omega);unfold F0 at h1;simp only [yT,zA3,zM] at h1;obtain ⟨⟨dd,hd⟩,hn⟩:=h1;refine Yl.pure (v:=u) (fun W=>?_) g2;unfold part;rw [yj,PN hd];simp [Result.andThen,hn,g1]
   ·cases h
  ·split at h
   ·rename_i h2;cases h;obtain ⟨h3,i',BN,hs'⟩:=ZF h2;have ei:i'=i:=yY (BN.symm.trans hi);subst ei;obtain ⟨dd,hd⟩:=dh h3;refine Yl.pure (v:=.agg (cs.extract off (off+size))) (fun W=>?_) ⟨_,rfl,by simp;omega,fun j hj=>?_⟩
    ·unfold part;rw [yj,PN hd];simp only [Result.andThen,h3,zo];rw [yj,If hi,A5];rfl
    ·obtain ⟨u,g1,g2⟩:=hr (off+j) (by omega);refine ⟨u,?_,KW hj g2⟩;rw [Array.getElem?_extract];rw [yP (by omega)];exact g1
   ·cases h
 ·cases h
theorem qr (R:Ad P Γ N S ρ a w) {t:TypeId} {x d:DV} {vc:Prop} {v:Value} {k:IntKind} {n:Int} (hx:AO (MS N S.h ρ) w x ρ v) (h:Wx P t x n=some (d,vc)) (hv:vc):Yl P N w (MS N S.h ρ) ρ (Instr.index t v (.int k n)) d:=by
 unfold Wx at h;split at h
 ·rename_i m f;obtain ⟨cs,rfl,hs,hr⟩:=hx;split at h
  ·rename_i len e hu;split at h
   ·rename_i i hi;split at h
    ·rename_i hc;cases h;simp only [yT,yo] at hc;obtain ⟨⟨h1,h2⟩,rfl⟩:=hc
     have hp:L6 P e len f n.toNat 1=some (f n.toNat):=by
      unfold L6;rw [yP (by omega),yP h1,yP rfl]
     obtain ⟨u,g1,g2⟩:=Vp (P:=P) hi h2 hs hr hp;refine ⟨u,fun W hE=>?_,g2⟩;unfold Instr.index;simp only [asIntOf,yj,zAy,Result.andThen,zI hu];rw [yP ⟨hv.1,hv.2⟩];simp only [yj,If hi,Result.andThen,h2,zR];exact g1 W hE
    ·cases h
   ·cases h
  ·cases h
 ·cases h
theorem vX (R:Ad P Γ N S ρ a w) {t:TypeId} {x d:DV} {vc:Prop} {v:Value} {fi:Nat} (hx:AO (MS N S.h ρ) w x ρ v) (h:UI P t x fi=some (d,vc)):Yl P N w (MS N S.h ρ) ρ (Instr.field t v fi) d:=by
 unfold UI at h;split at h
 ·rename_i m f;obtain ⟨cs,rfl,hs,hr⟩:=hx;split at h
  ·rename_i fs hu;split at h
   ·rename_i fd hf;split at h
    ·rename_i i hi;split at h
     ·rename_i d' hp;cases h;obtain ⟨u,g1,g2⟩:=Vp (P:=P) hi rfl hs hr hp;refine ⟨u,fun W hE=>?_,g2⟩;unfold Instr.field;simp only [yj,zI hu,Result.andThen,hf,asAgg,zAy];exact g1 W hE
     ·cases h
    ·cases h
   ·cases h
  ·cases h
 ·cases h
theorem mx {k:IntKind} {n:Int} {y:Nat} {c:BoundsCode} (h0:0<=n) (h1:n<=y) (W:World):(Instr.sliceBound (.int k n) y c).run P W= .ok n.toNat W:=by
 unfold Instr.sliceBound;simp only [asIntOf,yj,zAy,Result.andThen];rw [yP ⟨h0,h1⟩];rfl
theorem di (R:Ad P Γ N S ρ a w) {o:Option Operand} {l:Option Int} (h:TT S o=some l): ∃ k,o.map a.eval=l.map (Value.int k):=by
 cases o with
 | none=>cases h;exact ⟨.i64,rfl⟩
 | some x=>
  simp only [TT] at h;split at h
  ·rename_i k n e;cases h;have:=Bm R x;rw [e] at this;exact ⟨k,by simp only [zD];rw [show a.eval x=_ from this]⟩
  ·cases h
theorem SJ {t e:TypeId} {i:TypeInfo} {ad:Option Addr} {len cap:Nat} {kl kh:IntKind} {lo hi:Option Int} (hu:P.underlying t=some (.slice e)) (BN:P.info? e=some i) (h0:0<=lo.getD 0) (h1:lo.getD 0<=hi.getD len) (h2:hi.getD len<=len) (h3:len<=cap) (W:World):
 (Instr.sliceAt t (.slice ad len cap) (lo.map (Value.int kl)) (hi.map (Value.int kh)) none).run P W=
  .ok (.slice (if cap=(lo.getD 0).toNat then ad else ad.map (·.add ((lo.getD 0).toNat*i.size))) ((hi.getD len).toNat-(lo.getD 0).toNat) (cap-(lo.getD 0).toNat)) W:=by
 have hb:(Instr.sliceBounds true len cap (lo.map (Value.int kl)) (hi.map (Value.int kh)) none).run P W= .ok ((lo.getD 0).toNat,(hi.getD len).toNat,cap) W:=by
  cases lo <;> cases hi <;> simp only [Option.map_none,zD,Option.getD_none,z8] at* <;>
   simp (disch:=omega) [Instr.sliceBounds,mx,yj,Result.andThen]
 unfold Instr.sliceAt;simp only [yj,zI hu,Result.andThen];unfold Instr.slice;simp only [yj,zI hu,Result.andThen,hb,If BN];rfl
theorem wW (R:Ad P Γ N S ρ a w) {t:TypeId} {x d:DV} {vc:Prop} {v:Value} {kl kh:IntKind} {lo hi:Option Int} (hx:AO (MS N S.h ρ) w x ρ v) (h:YZ P t x lo hi=some (d,vc)) (hv:vc):
 Yl P N w (MS N S.h ρ) ρ (Instr.sliceAt t v (lo.map (Value.int kl)) (hi.map (Value.int kh)) none) d:=by
 unfold YZ at h;split at h
 ·rename_i e hu;split at h
  ·rename_i i BN
   have gd: ∀ {α:Type} (l:List α) (q c j:Nat) (d:α),j<((l.take c).drop q).length -> ((l.take c).drop q).getD j d=l.getD (q+j) d:=fun l q c j d hj=>by
    simp only [zBM,List.length_take] at hj;simp only [u8,zAc,List.getElem?_take];rw [yP (by omega)]
   split at h
   ·rename_i l;split at h
    ·rename_i hs;cases h;obtain ⟨ad,cap,rfl,g1,g2,g3⟩:=hx;obtain ⟨v1,v2,v3⟩:=hv;have hl:((l.take (hi.getD l.length).toNat).drop (lo.getD 0).toNat).length=(hi.getD l.length).toNat-(lo.getD 0).toNat:=by simp;omega
     refine Yl.pure (fun W=>SJ hu BN v1 v2 v3 g1 W) ⟨_,_,by rw [hl],by omega,by omega,fun j hj=>?_⟩;have BM:=hj;rw [hl] at BM;obtain ⟨b,o,rfl,q1,q2⟩:=g3 ((lo.getD 0).toNat+j) (by omega);refine ⟨b,o+(lo.getD 0).toNat,?_,q1,?_⟩
     ·rw [yb (by omega)];simp only [zD,IS,hs,zR]
     ·rw [gd _ _ _ _ _ hj,zN];exact q2
    ·cases h
   ·rename_i l;split at h
    ·rename_i hs;cases h;obtain ⟨ad,cap,rfl,g1,g2,g3⟩:=hx;obtain ⟨v1,v2,v3⟩:=hv;have hl:((l.take (hi.getD l.length).toNat).drop (lo.getD 0).toNat).length=(hi.getD l.length).toNat-(lo.getD 0).toNat:=by simp;omega
     refine Yl.pure (fun W=>SJ hu BN v1 v2 v3 g1 W) ⟨_,_,by rw [hl],by omega,by omega,fun j hj=>?_⟩;have BM:=hj;rw [hl] at BM;obtain ⟨b,o,rfl,q1,q2⟩:=g3 ((lo.getD 0).toNat+j) (by omega);refine ⟨b,o+(lo.getD 0).toNat,?_,q1,?_⟩
     ·rw [yb (by omega)];simp only [zD,IS,hs,zR]
     ·rw [gd _ _ _ _ _ hj,zN];exact q2
    ·cases h
   ·rename_i m n f;split at h
    ·rename_i hs;cases h;obtain ⟨ad,cap,rfl,g1,g2,g3⟩:=hx;obtain ⟨v1,v2,v3⟩:=hv;refine Yl.pure (fun W=>SJ hu BN v1 v2 v3 g1 W) ⟨_,_,rfl,by omega,by omega,fun i1 j hi1 hj=>?_⟩;obtain ⟨b,o,u,rfl,q1,q2,q3⟩:=g3 ((lo.getD 0).toNat+i1) j (by omega) hj;refine ⟨b,o+(lo.getD 0).toNat*m,u,?_,q1,?_,q3⟩
     ·rw [yb (by omega)];simp only [zD,IS,hs]
     ·rw [zAH,zN] at q2;rw [zN];exact q2
    ·cases h
   ·rename_i k m off n;split at h
    ·rename_i hs;cases h;obtain ⟨p,cap,hp,rfl,g1,g2,g3⟩:=hx;obtain ⟨v1,v2,v3⟩:=hv;have CR:(lo.getD 0).toNat<=cap:=by omega
     refine Yl.pure (fun W=>SJ hu BN v1 v2 v3 g1 W) ⟨p,_,cap-(lo.getD 0).toNat,hp,rfl,by omega,by omega,fun hc=>⟨?_,?_⟩⟩
     ·rw [yb (by omega)];simp only [zD,IS,hs,zAH,zN]
     ·have:cap*m=(lo.getD 0).toNat*m+(cap-(lo.getD 0).toNat)*m:=by rw [←zAH];congr 1;omega
      rw [zAH];omega
    ·cases h
   ·cases h
  ·cases h
 ·cases h
theorem bB {e:TypeId} {k':IntKind} {i:TypeInfo} {n d:Nat} {xs ys:Array Value} {f g:Nat -> DV} {M:Nat -> Prop} (hi:P.info? e=some i) (hs:i.size=1) (h1:F0 P e=true) (hk:P.underlying e=some (.int k')) (hx:xs.size=n) (hy:ys.size=n)
 (rx: ∀ j,j<n -> ∃ u,xs[j]? =some u/\ AO M w (f j) ρ u) (ry: ∀ j,j<n -> ∃ u,ys[j]? =some u/\ AO M w (g j) ρ u) (hI: ∀ j,j<n -> Jq (f j)=true/\ Jq (g j)=true):
 ∀ (is:List Nat),(∀ j∈is,j<n) -> ∀ W,Keep N w W -> (Op.eqItems (d+1) e 1 xs ys is).run P W= .ok (OX f g is) W
 | [],_,W,_=>rfl
 | j::is,hb,W,hE=>by
  have hj:j<n:=hb j (by simp)
  have cC: ∀ {cs:Array Value} {f:Nat -> DV},cs.size=n -> (∀ j,j<n -> ∃ u,cs[j]? =some u/\ AO M w (f j) ρ u) -> Jq (f j)=true -> (part e cs (j*1)).run P W= .ok (.int .i64 (HL (f j))) W:=by
   intro cs f hc hr hf
   have hp:L6 P e n f (j*1) 1=some (f j):=by
    unfold L6;rw [yP (by omega),yP h1,yP rfl,zR]
   obtain ⟨u,g1,g2⟩:=Vp (P:=P) hi hs hc hr hp;rw [g1 W hE,Wy hf g2]
  simp only [Op.eqItems,yj,cC hx rx (hI j hj).1,cC hy ry (hI j hj).2,Result.andThen,zBR W d e .i64 k' _ _ hk];unfold OX;cases hq:(HL (f j)==HL (g j)) with
  | false=>rfl
  | true=>
   simp only [zS,zL,zAS,zJ];exact bB hi hs h1 hk hx hy rx ry hI is (fun j hj=>hb j (by simp [hj])) W hE
theorem v7 {M:Nat -> Prop} {op:BinOp} {t:TypeId} {x y:DV} {vx vy:Value} {d:DV} {vc:Prop} (ox oy:Operand) (hx:AO M w x ρ vx) (hy:AO M w y ρ vy) (h:Qs P op t x y=some (d,vc)):
 Yl P N w M ρ (do eqGuard op t ox oy vx vy;binOp op t vx vy) d:=by
 have key: ∀ {m m':Nat} {f g:Nat -> DV} {is:List Nat} {xs ys:Array Value},US P t f g m m'=some is -> xs.size=m -> ys.size=m' -> (∀ j,j<m -> ∃ u,xs[j]? =some u/\ AO M w (f j) ρ u) -> (∀ j,j<m' -> ∃ u,ys[j]? =some u/\ AO M w (g j) ρ u) ->
  P.eqGuardType P.depth t=false/\ ∀ W,Keep N w W -> (Op.equalIn 10000 t (.agg xs) (.agg ys)).run P W= .ok (OX f g is) W:=by
  intro m m' f g is xs ys hb sx sy rx ry;unfold US at hb;split at hb
  ·rename_i n e hu;split at hb
   ·rename_i i hi;split at hb
    ·rename_i k' hk;split at hb
     ·rename_i hc;cases hb;simp only [yT,yo,ya,yh] at hc;obtain ⟨⟨⟨⟨⟨c1,c2⟩,c3⟩,c4⟩,c5⟩,c6⟩:=hc;subst c4;subst c5;refine ⟨c3,fun W hE=>?_⟩;have Cp:P.cellsOf e=1:=by unfold Program.cellsOf;rw [hi];exact c1
      rw [run_equalIn_array W 9999 xs ys hu hi,Cp];exact bB (d:=9998) hi c1 c2 hk sx sy rx ry c6 _ (fun j hj=>yh.1 hj) W hE
     ·cases hb
    ·cases hb
   ·cases hb
  ·cases hb
 unfold Qs at h;split at h
 ·rename_i m f m' g;split at h
  ·rename_i is hb;cases h;obtain ⟨xs,rfl,sx,rx⟩:=hx;obtain ⟨ys,rfl,sy,ry⟩:=hy;obtain ⟨k1,k2⟩:=key hb sx sy rx ry;refine ⟨.bool _,fun W hE=>?_,rfl⟩;simp only [yj,run_eqGuard_agg W .eql t ox oy xs ys k1,Result.andThen,run_eql_struct,k2 W hE]
  ·cases h
 ·rename_i m f m' g;split at h
  ·rename_i is hb;cases h;obtain ⟨xs,rfl,sx,rx⟩:=hx;obtain ⟨ys,rfl,sy,ry⟩:=hy;obtain ⟨k1,k2⟩:=key hb sx sy rx ry;refine ⟨.bool _,fun W hE=>?_,rfl⟩;simp only [yj,run_eqGuard_agg W .neq t ox oy xs ys k1,Result.andThen,run_neq_struct,k2 W hE]
  ·cases h
 ·cases h
theorem oG (R:Ad P Γ N S ρ a w) (o:Oper) {d:DV} {vc:Prop} (h:Ph P S o.op=some (d,vc)) (hv:vc):
 ∃ v,(∀ W,Keep N w W -> (execOp a.eval o).run P W= .ok (.value v) W)/\ AO (MS N S.h ρ) w d ρ v:=by
 unfold Ph at h;split at h
 ·rename_i t parts ho;exact Gx (by unfold execOp;rw [ho]) (p9 R h)
 ·rename_i t x i ho;have hi:=Bm R i;split at h
  ·rename_i k n e;rw [e] at hi;refine Gx (s:=Instr.index t (a.eval x) (a.eval i)) (by unfold execOp;rw [ho]) ?_;rw [show a.eval i=_ from hi];exact qr R (Bm R x) h hv
  ·cases h
 ·rename_i t x f ho;exact Gx (s:=Instr.field t (a.eval x) f) (by unfold execOp;rw [ho]) (vX R (Bm R x) h)
 ·rename_i t x lo hi ho;split at h
  ·rename_i l hl;split at h
   ·rename_i hh uS;obtain ⟨k1,e1⟩:=di R hl;obtain ⟨k2,e2⟩:=di R uS;refine Gx (s:=Instr.sliceAt t (a.eval x) (lo.map a.eval) (hi.map a.eval) none) (by unfold execOp;rw [ho];rfl) ?_;rw [e1,e2];exact wW R (Bm R x) h hv
   ·cases h
  ·cases h
 ·rename_i op t x y t' ho;split at h
  ·rename_i r hr;cases h;exact Gx (by unfold execOp;rw [ho]) (v7 x y (Bm R x) (Bm R y) hr)
  ·rw [←ho] at h;exact bx R o h hv
 ·exact bx R o h hv
end
end Go.Proofs.YtgkhhfnhacibcaaGreatDoor
namespace Go.Proofs.YtgkhhfnhacibcaaGreatDoor
abbrev yw:=@List.getElem_mem
end Go.Proofs.YtgkhhfnhacibcaaGreatDoor
namespace Go.Proofs.YtgkhhfnhacibcaaGreatDoor
open Go.RowKit
def Bl:List Prop -> Prop
 | []=>True
 | p::ps=>p/\ Bl ps
theorem Cl {l l':List Prop}:Bl (l++l')↔Bl l/\ Bl l':=by
 induction l with
 | nil=>simp [Bl]
 | cons p ps ih=>simp [Bl,ih,and_assoc]
def AS (d d':DV):Prop:=∀ (M:Nat -> Prop) (w:World) (ρ:List AN) (v:Value),AO M w d ρ v -> AO M w d' ρ v
section
variable {P:Program} {Γ:A9} {N:Nat -> Prop}
theorem DR {w:World} {M M':Nat -> Prop} (h: ∀ b,M' b -> M b) (ρ:List AN):Bi M w ρ M' w ρ:=⟨fun _ _ _ _=>rfl,fun b hb=>.inl (h b hb),fun _ _ h=>h⟩
def YP:DO -> Option (Nat×Nat×DV)
 | .ints l=>some (1,l.length,.ints l)
 | .bools l=>some (1,l.length,.bools l)
 | .arr m n f=>some (m,n,.sl m n f)
 | .mo (.rws ls none)=>some (1,ls.length,.sl 1 ls.length fun i j=>([.ints (ls.getD i default)]:List DV).getD j .any)
 | _=>none
def LH (k m:Nat) (v:DV):DV -> DV
 | .msl k' m' off n=>if k'=k/\ m'=m/\ off=0 then v else .msl k' m' off n
 | d=>d
def Qm (k m n:Nat):DV -> List Prop
 | .msl k' m' off n'=>if k'=k/\ m'=m/\ off=0 then [n'=n] else []
 | _=>[]
def UE (k m:Nat) (v:DV):Option DO -> Option DO
 | some (.cells l)=>some (.cells (l.map (LH k m v)))
 | o=>o
def fh (k m n:Nat):Option DO -> List Prop
 | some (.cells l)=>l.flatMap (Qm k m n)
 | _=>[]
def IG (k m:Nat) (v:DV) (S:St):St:=⟨S.fr.map (LH k m v),(S.h.set k none).map (UE k m v)⟩
theorem ij {l:List DV} {f:DV -> List Prop} (h:Bl (l.flatMap f)) {d:DV} (hd:d∈l):Bl (f d):=by
 induction l with
 | nil=>simp at hd
 | cons x l ih=>
  rw [zBC] at h;obtain ⟨h1,h2⟩:=Cl.1 h;rcases yq.1 hd with rfl | hd
  ·exact h1
  ·exact ih h2 hd
theorem yC {l:List (Option DO)} {f:Option DO -> List Prop} (h:Bl (l.flatMap f)) {d:Option DO} (hd:d∈l):Bl (f d):=by
 induction l with
 | nil=>simp at hd
 | cons x l ih=>
  rw [zBC] at h;obtain ⟨h1,h2⟩:=Cl.1 h;rcases yq.1 hd with rfl | hd
  ·exact h1
  ·exact ih h2 hd
theorem vQ {M M':Nat -> Prop} {w:World} {ρ:List AN} {p:AN} {o:DO} {m n:Nat} {v:DV} (ho:YP o=some (m,n,v)) (hr:Db P M w ρ p o) (hN: ∀ b,p.foot b -> ¬ M' b) (hM: ∀ b,M' b -> M b) {u:Value} {cap:Nat} (hu:u= .slice (some ⟨p.blk,p.off+0*m,none⟩) n cap) (h1:n<=cap) (h2:n<=LB):AO M' w v ρ u:=by
 cases o with
 | cells l=>cases ho
 | iter e=>cases ho
 | mo x=>
  cases x with
  | rws ls Br=>
   cases Br with
   | some y=>cases ho
   | none=>
    cases ho;obtain ⟨vs,hS⟩:=hr;obtain ⟨cs,t,e1,e2,e3,e4⟩:=hS.row;refine ⟨_,cap,hu,h1,h2,fun i j hi hj=>?_⟩;obtain rfl:j=0:=by omega
    have BN:i+1<vs.size:=by rw [hS.size];omega
    have e5:=e4 i hi;rw [zB BN] at e5;refine ⟨p.blk,p.off,vs[i+1],by simp,hN _ hS.blk,by unfold World.cell?;simp [e1,e5],?_⟩;have hs:=hS.has i hi fun L e=>by cases e
    rw [show vs.getD (i+1) undef=vs[i+1] by simp [BN]] at hs;rcases hs with ⟨e,e'⟩ | ⟨q,c,e,g1,g2,g3,g4,g5⟩
    ·rw [e']
     show AO M' w (.ints (ls.getD i default)) [] _
     rw [e];exact ⟨none,0,rfl,ym _,by decide,fun j hj=>absurd hj (yg j)⟩
    ·rw [e];refine ⟨_,c,rfl,g1,g3,fun k hk=>⟨q.blk,q.off,rfl,hN _ g4.1,?_⟩⟩;obtain ⟨x,k1,k2⟩:=g5.cell hk;rw [k1,k2]
  | _=>cases ho
 | ints l=>
  cases ho;have hN:=hN p.blk (by rw [hr.1]);refine ⟨_,cap,hu,h1,h2,fun j hj=>⟨p.blk,p.off,by simp,hN,?_⟩⟩;obtain ⟨x,e1,e2⟩:=Ak.cell hr hj;rw [e1,e2]
 | bools l=>
  cases ho;have hN:=hN p.blk (by rw [hr.1]);refine ⟨_,cap,hu,h1,h2,fun j hj=>⟨p.blk,p.off,by simp,hN,?_⟩⟩;obtain ⟨x,e1,e2⟩:=Ak.cell hr hj;rw [e1,e2]
 | arr m n f=>
  cases ho;have hN:=hN p.blk (by rw [hr.1]);refine ⟨_,cap,hu,h1,h2,fun i j hi hj=>?_⟩;have AU:i*m+j<n*m:=yc (by rw [zBB];omega:i*m+j<(i+1)*m) (z7 m hi);obtain ⟨x,e1,e2⟩:=Ak.cell hr AU;have hm:0<m:=by omega
  have d1:(i*m+j)/m=i:=by rw [zAF,Nat.mul_add_div hm];simp [Nat.div_eq_of_lt hj]
  have d2:(i*m+j) % m=j:=by rw [zAF,Nat.mul_add_mod];exact zAx hj
  rw [d1,d2] at e2;exact ⟨p.blk,p.off,x,by simp,hN,e1,AO.out _ (DR hM []) e2⟩
theorem Qk {k m:Nat} {v:DV} {h:DH} {i:Nat} {o':DO} (hi:((h.set k none).map (UE k m v))[i]? =some (some o')):i≠k/\ ∃ o,h[i]? =some (some o)/\ UE k m v (some o)=some o':=by
 rw [y9] at hi;cases hx:(h.set k none)[i]? with
 | none=>rw [hx] at hi;cases hi
 | some x=>
  rw [hx] at hi;have hi:UE k m v x=some o':=yY hi;cases x with
  | none=>cases hi
  | some o=>exact ⟨(Fk hx).1,o,(Fk hx).2,hi⟩
def Da (S S':St):Prop:=∀ (P:Program) (Γ:A9) (N:Nat -> Prop) (ρ:List AN) (a:Act) (w:World),Ad P Γ N S ρ a w -> Ad P Γ N S' ρ a w/\ BO S.h ρ w S'.h ρ w
theorem Da.frz {S:St} (k:Nat) {o:DO} {m n:Nat} {v:DV} (hk:S.h[k]? =some (some o)) (ho:YP o=some (m,n,v)) (hc:Bl (S.fr.flatMap (Qm k m n))) (LA:Bl (S.h.flatMap (fh k m n))):Da S (IG k m v S):=fun P Γ N ρ a w R=>by
 obtain ⟨p,hp,hr⟩:=R.hr.obj k _ hk
 have X9: ∀ b,MO (IG k m v S).h ρ b -> ∃ i o p',i≠k/\ S.h[i]? =some (some o)/\ ρ[i]? =some p'/\ p'.foot b:=by
  rintro b ⟨i,o',p',g1,g2,g3⟩;obtain ⟨e1,o2,e2,_⟩:=Qk g1;exact ⟨i,o2,p',e1,e2,g2,g3⟩
 have hN: ∀ b,p.foot b -> ¬ MS N (IG k m v S).h ρ b:=by
  rintro b hf (hn | hb)
  ·exact (R.hr.cel k _ p b hk hp hf).2.1 hn
  ·obtain ⟨i,o2,p',e1,e2,g2,g3⟩:=X9 _ hb;exact R.hr.dis i k _ _ p' p b e1 e2 hk g2 hp g3 hf
 have hM: ∀ b,MS N (IG k m v S).h ρ b -> MS N S.h ρ b:=fun b hb=>hb.imp id fun hb=>by
  obtain ⟨i,o2,p',_,e2,g2,g3⟩:=X9 _ hb;exact ⟨i,o2,p',e2,g2,g3⟩
 have conv: ∀ (d:DV) (u:Value),Bl (Qm k m n d) -> AO (MS N S.h ρ) w d ρ u -> AO (MS N (IG k m v S).h ρ) w (LH k m v d) ρ u:=by
  intro d u X0 hd;cases d with
  | msl k' m' off n'=>
   simp only [Qm,LH] at X0 ⊢;split at X0
   ·rename_i e;obtain ⟨rfl,rfl,rfl⟩:=e;rw [yP ⟨rfl,rfl,rfl⟩];obtain ⟨p',cap,BJ,e,g1,g2,_⟩:=hd;have ep:p'=p:=yY (BJ.symm.trans hp);subst ep;have en:=X0.1;subst en;exact vQ ho hr hN hM e g1 g2
   ·rename_i e;rw [yb e];exact AO.out _ (DR hM ρ) hd
  | _=>exact AO.out _ (DR hM ρ) hd
 refine ⟨⟨⟨by simp [IG,R.hr.len],fun i o' hi=>?_,fun i o' p' b g1 g2 g3=>?_,fun i i' o1 o2 p1 p2 b Ap g1 g2 g3 g4 g5 g6=>?_,R.hr.nlt,R.hr.gi⟩,⟨by simp [IG,R.fr.1],fun i hi=>?_⟩⟩,⟨AQ.refl _ w,fun b hb=>.inl ?_⟩⟩
 ·obtain ⟨e1,o2,e2,e3⟩:=Qk hi;obtain ⟨p',BJ,Cz⟩:=R.hr.obj i o2 e2;refine ⟨p',BJ,?_⟩;cases o2 with
  | cells l=>
   cases e3
   show Ak w p' (l.map (LH k m v)).length _
   rw [zf];refine Ak.out Cz rfl fun j u hj hu=>?_
   have:(l.map (LH k m v)).getD j .any=LH k m v (l.getD j .any):=by simp [hj]
   rw [this];refine conv _ _ ?_ hu
   have A7:some (DO.cells l)∈S.h:=zX e2;have:=yC LA A7;exact ij (l:=l) this (by simp [hj])
  | ints l=>cases e3;exact Ak.out Cz rfl fun j u _ hu=>hu
  | bools l=>cases e3;exact Ak.out Cz rfl fun j u _ hu=>hu
  | arr m n f=>cases e3;exact Ak.out Cz rfl fun j u _ hu=>AO.out _ (DR hM []) hu
  | iter encs=>
   cases e3;obtain ⟨gf,lb,Rd,q1,q2,q3,q4⟩:=Cz;exact ⟨gf,lb,Rd,q1,q2,fun b hb=>⟨fun hm=>(q3 b hb).1 (hM b hm),(q3 b hb).2⟩,q4⟩
  | mo x=>cases e3;exact Cz
 ·obtain ⟨e1,o2,e2,e3⟩:=Qk g1;obtain ⟨q1,q2,q3⟩:=R.hr.cel i o2 p' b e2 g2 g3;exact ⟨q1,q2,q3⟩
 ·obtain ⟨e1,o3,e2,_⟩:=Qk g1;obtain ⟨YV,o4,YU,_⟩:=Qk g2;exact R.hr.dis i i' o3 o4 p1 p2 b Ap e2 YU g3 g4 g5 g6
 ·have BN:i<S.fr.length:=by simpa [IG] using hi
  have:(IG k m v S).fr.getD i .any=LH k m v (S.fr.getD i .any):=by simp [IG,BN]
  rw [this];refine conv _ _ (ij hc (by simp [BN])) (R.fr.2 i BN)
 ·obtain ⟨i,o2,p',_,e2,g2,g3⟩:=X9 _ hb;exact ⟨i,o2,p',e2,g2,g3⟩
def Ql (k:Nat) (S:St):Option (St×List Prop):=match S.h.getD k none with
 | some o=>match YP o with
  | some (m,n,v)=>some (IG k m v S,S.fr.flatMap (Qm k m n)++S.h.flatMap (fh k m n))
  | none=>none
 | none=>none
theorem Da.frzE {S:St} (k:Nat) (S':St) (vs:List Prop) (h:Ql k S=some (S',vs)) (hv:Bl vs):Da S S':=by
 unfold Ql at h;split at h
 ·rename_i o ho;split at h
  ·rename_i m n v hf;cases h;obtain ⟨h1,h2⟩:=Cl.1 hv;refine Da.frz k ?_ hf h1 h2;rw [u8] at ho;cases hx:S.h[k]? with
   | none=>rw [hx] at ho;cases ho
   | some x=>rw [hx] at ho;exact congrArg some ho
  ·cases h
 ·cases h
theorem Da.refl (S:St):Da S S:=fun _ _ _ _ _ _ R=>⟨R,BO.refl _ _ _⟩
theorem Da.trans {A B C:St} (h:Da A B) (k:Da B C):Da A C:=fun P Γ N ρ a w R=>by
 obtain ⟨R1,s1⟩:=h P Γ N ρ a w R;obtain ⟨R2,s2⟩:=k P Γ N ρ a w R1;exact ⟨R2,s1.trans s2⟩
theorem MO.put {h:DH} {ρ:List AN} {k:Nat} {o o':DO} (hk:h[k]? =some (some o)) {b:Nat}:MO (h.set k (some o')) ρ b↔MO h ρ b:=by
 have AU:=(yZ.1 hk).1;constructor
 ·rintro ⟨i,x,p,h1,h2,h3⟩;rw [zG] at h1
  by_cases e:k=i
  ·subst e;exact ⟨k,o,p,hk,h2,h3⟩
  ·rw [yb e] at h1;exact ⟨i,x,p,h1,h2,h3⟩
 ·rintro ⟨i,x,p,h1,h2,h3⟩
  by_cases e:k=i
  ·subst e;exact ⟨k,o',p,by simp [AU],h2,h3⟩
  ·exact ⟨i,x,p,by rw [zG,yb e];exact h1,h2,h3⟩
theorem Da.obj {S:St} {k:Nat} {o o':DO} (hk:S.h[k]? =some (some o)) (hO: ∀ (P:Program) (M:Nat -> Prop) (w:World) (ρ:List AN) (p:AN),Db P M w ρ p o -> Db P M w ρ p o'):Da S ⟨S.fr,S.h.set k (some o')⟩:=fun P Γ N ρ a w R=>by
 have hM: ∀ b,MS N (S.h.set k (some o')) ρ b↔MS N S.h ρ b:=fun b=>or_congr Iff.rfl (MO.put hk)
 have back: ∀ {i:Nat} {x:DO},(S.h.set k (some o'))[i]? =some (some x) -> ∃ y,S.h[i]? =some (some y)/\ (i=k/\ x=o'∨y=x):=by
  intro i x hi;rw [zG] at hi
  by_cases e:k=i
  ·subst e;rw [yP rfl,yP (yZ.1 hk).1] at hi;cases hi;exact ⟨o,hk,.inl ⟨rfl,rfl⟩⟩
  ·rw [yb e] at hi;exact ⟨x,hi,.inr rfl⟩
 have O:Bi (MS N S.h ρ) w ρ (MS N (S.h.set k (some o')) ρ) w ρ:=DR (fun b hb=>(hM b).1 hb) ρ;refine ⟨⟨⟨by simp [R.hr.len],fun i x hi=>?_,fun i x p b g1 g2 g3=>?_,fun i i' o1 o2 p1 p2 b Ap g1 g2 g3 g4 g5 g6=>?_,R.hr.nlt,R.hr.gi⟩,R.fr.out O⟩,⟨AQ.refl _ w,fun b hb=>.inl ((MO.put hk).1 hb)⟩⟩
 ·rw [zG] at hi
  by_cases e:k=i
  ·subst e;rw [yP rfl,yP (yZ.1 hk).1] at hi;cases hi;obtain ⟨p,hp,hr⟩:=R.hr.obj k o hk;exact ⟨p,hp,hO P _ w ρ p (hr.out O (S:=fun _=>False) (AQ.refl _ _) (fun _ h=>h.elim) fun _ _ _ h=>h)⟩
  ·rw [yb e] at hi;obtain ⟨p,hp,hr⟩:=R.hr.obj i x hi;exact ⟨p,hp,hr.out O (S:=fun _=>False) (AQ.refl _ _) (fun _ h=>h.elim) fun _ _ _ h=>h⟩
 ·obtain ⟨y,e,_⟩:=back g1;exact R.hr.cel i y p b e g2 g3
 ·obtain ⟨y1,e1,_⟩:=back g1;obtain ⟨y2,e2,_⟩:=back g2;exact R.hr.dis i i' y1 y2 p1 p2 b Ap e1 e2 g3 g4 g5 g6
inductive Fz where
 | frz (k:Nat)
 | arr (k n:Nat) (f:Nat -> Nat -> DV)
 | unf (k:Nat)
 | rws
def iU (k n':Nat) (f':Nat -> Nat -> DV) (S:St):Option (St×List Prop):=match S.h.getD k none with
 | some (.arr m n f)=>some (⟨S.fr,S.h.set k (some (.arr m n' f'))⟩,[n=n'/\ ∀ i j,i<n -> j<m -> AS (f i j) (f' i j)])
 | _=>none
def UC:Fz -> St -> Option (St×List Prop)
 | .frz k,S=>Ql k S
 | .arr k n f,S=>iU k n f S
 | .unf k,S=>match S.h.getD k none with
  | some (.mo (.rows f (some (_,_,false))))=>some (⟨S.fr,S.h.set k (some (.mo (.rows f none)))⟩,[])
  | _=>none
 | .rws,_=>none
theorem EF.unf {w:World} {p:AN} {f:Int -> List Int} {x:Int} {L:List Int} {u:Value} {es:Array MapEntry} {AZ:Nat} (h:EF w p f (some (x,L,false)) u es AZ):EF w p f none u es AZ:=
 { h with
  key:=fun e he=>let ⟨k,h1,h2⟩:=h.key e he;⟨k,h1,fun _=>h2 fun L e=>by cases e⟩
  inHand:=fun k L g e=>by cases e }
theorem getD_some {h:DH} {k:Nat} {o:DO} (ho:h.getD k none=some o):h[k]? =some (some o):=by
 rw [u8] at ho;cases hx:h[k]? with
 | none=>rw [hx] at ho;cases ho
 | some x=>rw [hx] at ho;exact congrArg some ho
theorem Da.fz {S:St} (z:Fz) (S':St) (vs:List Prop) (h:UC z S=some (S',vs)) (hv:Bl vs):Da S S':=by
 cases z with
 | frz k=>exact Da.frzE k S' vs h hv
 | arr k n' f'=>
  simp only [UC,iU] at h;split at h
  ·rename_i m n f ho;cases h;obtain ⟨⟨rfl,hd⟩,_⟩:=hv;refine Da.obj (getD_some ho) fun P M w ρ p hr=>?_
   refine Ak.out hr rfl fun j u hj hu=>?_
   have hm:0<m:=by
    rcases zAD m with e | e
    ·subst e;omega
    ·exact e
   exact hd _ _ ((zAO hm).2 hj) (zBV _ hm) M w [] u hu
  ·cases h
 | unf k=>
  simp only [UC] at h;split at h
  ·rename_i f x L ho;cases h;exact Da.obj (getD_some ho) fun P M w ρ p ⟨u,es,AZ,hA⟩=>⟨u,es,AZ,hA.unf⟩
  ·cases h
 | rws=>cases h
def Qj:List (Nat×Fz) -> Option Nat -> St -> Option (St×List Prop×List (Nat×Fz))
 | [],_,S=>some (S,[],[])
 | (t,z)::rest,dst,S=>if dst=some t then match UC z S with
  | some (S',vs)=>match Qj rest dst S' with
   | some (Ce,BZ,r)=>some (Ce,vs++BZ,r)
   | none=>none
  | none=>none
  else some (S,[],(t,z)::rest)
theorem UD: ∀ (l:List (Nat×Fz)) {dst:Option Nat} {S S':St} {vs:List Prop} {r:List (Nat×Fz)},Qj l dst S=some (S',vs,r) -> Bl vs -> Da S S'
 | [],dst,S,S',vs,r,h,_=>by cases h;exact Da.refl S
 | (t,z)::rest,dst,S,S',vs,r,h,hv=>by
  simp only [Qj] at h;split at h
  ·split at h
   ·rename_i S1 Cf h1;split at h
    ·rename_i S2 Eu r2 h2;cases h;obtain ⟨B3,CD⟩:=Cl.1 hv;exact (Da.fz z S1 Cf h1 B3).trans (UD rest h2 CD)
    ·cases h
   ·cases h
  ·cases h;exact Da.refl S
abbrev PQ {α:Type} [Inhabited α] (enc:α -> Nat -> DV) (L:List α):Nat -> Nat -> DV:=fun i j=>enc (L.getD i default) j
theorem Ig {α:Type} [Inhabited α] {enc:α -> Nat -> DV} {L L':List α} {n m c:Nat} {g:Nat -> Nat -> DV} (hn:n=L.length) (hc:c=L'.length) (hg: ∀ i j,i<c -> j<m -> AS (g i j) (PQ enc L' i j)):n+c=(L++L').length/\ ∀ i j,i<n+c -> j<m -> AS (if i<n then PQ enc L i j else g (i-n) j) (PQ enc (L++L') i j):=by
 subst hn;subst hc;refine ⟨by simp,fun i j hi hj=>?_⟩;simp only [PQ,u8] at hg ⊢
 by_cases h:i<L.length
 ·rw [yP h,yy h];exact fun _ _ _ _ h=>h
 ·rw [yb h,zC (by omega)];exact hg _ j (by omega) hj
theorem AK {d:DV}:AS d d:=fun _ _ _ _ h=>h
theorem oh {l:List DV} {m:Nat} (hl:l.all Hy=true) (hm:m=l.length): ∀ j,j<m -> Hy (l.getD j .any)=true:=fun j hj=>by
 subst hm;rw [u8,yQ hj];exact ya.1 hl _ (yw hj)
def LU:List DV -> List DV -> Prop
 | [],[]=>True
 | d::ds,e::es=>AS d e/\ LU ds es
 | _,_=>False
theorem RR: ∀ {l l':List DV},LU l l' -> l.length=l'.length/\ ∀ j,j<l.length -> AS (l.getD j .any) (l'.getD j .any)
 | [],[],_=>⟨rfl,fun j hj=>absurd hj (yg j)⟩
 | d::ds,e::es,⟨h1,h2⟩=>by
  obtain ⟨q1,q2⟩:=RR h2;refine ⟨by simp [q1],fun j hj=>?_⟩;cases j with
  | zero=>exact h1
  | succ j=>exact q2 j (by simpa using hj)
 | [],_::_,h=>h.elim
 | _::_,[],h=>h.elim
theorem yD {l l':List DV} (h:LU l l') (j:Nat):AS (l.getD j .any) (l'.getD j .any):=by
 obtain ⟨h1,h2⟩:=RR h
 by_cases hj:j<l.length
 ·exact h2 j hj
 ·rw [u8,u8,zb (by omega),zb (by omega)];exact AK
def Vt:List DV -> List (List DV) -> Prop
 | [],[]=>True
 | v::vs,c::cs=>(∃ l,IK v=some l/\ LU l c)/\ Vt vs cs
 | _,_=>False
theorem bE: ∀ {vs:List DV} {cs:List (List DV)},Vt vs cs -> vs.length=cs.length/\ ∀ i,i<vs.length -> ∃ l,IK (vs.getD i .any)=some l/\ LU l (cs.getD i [])
 | [],[],_=>⟨rfl,fun i hi=>absurd hi (yg i)⟩
 | v::vs,c::cs,⟨h1,h2⟩=>by
  obtain ⟨q1,q2⟩:=bE h2;refine ⟨by simp [q1],fun i hi=>?_⟩;cases i with
  | zero=>exact h1
  | succ i=>exact q2 i (by simpa using hi)
 | [],_::_,h=>h.elim
 | _::_,[],h=>h.elim
theorem DQ {α:Type} [Inhabited α] {c:α -> List DV} {L:List α} {vals:List DV} {m n:Nat} (hn:n=vals.length) (h:Vt vals (L.map c)):n=L.length/\ ∀ i j,i<n -> j<m -> AS (match IK (vals.getD i .any) with | some l=>l.getD j .any | none=>.any) (PQ (fun x j=>(c x).getD j .any) L i j):=by
 subst hn;obtain ⟨h1,h2⟩:=bE h;rw [zf] at h1;refine ⟨h1,fun i j hi _=>?_⟩;obtain ⟨l,e,hl⟩:=h2 i hi;rw [e];have:(L.map c).getD i []=c (L.getD i default):=by simp [u8,h1▸hi]
 rw [this] at hl;exact yD hl j
end
end Go.Proofs.YtgkhhfnhacibcaaGreatDoor
namespace Go.Proofs.YtgkhhfnhacibcaaGreatDoor
abbrev zP:=@List.mem_append
abbrev zq:=@Go.MapKept.run_getObj_map
abbrev z6:=@Bool.eq_iff_iff
abbrev zAA:=@List.not_mem_nil
abbrev zAd:=@Go.MapKept.run_setObj_map
abbrev zA2:=@Go.MapKept.run_findKey
abbrev zBE:=@List.Perm.refl
abbrev zBF:=@bne_self_eq_false
abbrev zBS:=@List.nodup_cons
end Go.Proofs.YtgkhhfnhacibcaaGreatDoor
namespace Go.Proofs.YtgkhhfnhacibcaaGreatDoor
open Go.RowKit
def QI (P:Program) (t:TypeId):Bool:=match P.underlying t with
 | some (.int .i64)=>true
 | _=>false
theorem W6 {P:Program} {t:TypeId} (h:QI P t=true):P.underlying t=some (.int .i64):=by
 unfold QI at h;split at h
 ·assumption
 ·cases h
def F2 (P:Program) (t:TypeId):Option Nat:=match P.underlying t with
 | some (.int .i64)=>some 1
 | some (.struct fs)=>match fs.toList with
  | [f,g]=>if f.name != "_" &&g.name != "_" &&decide (f.offset=0)&&decide (g.offset=1)&&QI P f.type&&QI P g.type&&!P.stoodInHeld t then some 2 else none
  | _=>none
 | _=>none
section
variable {P:Program} {w:World} {t:TypeId}
theorem Nq {n:Nat} (h:F2 P t=some n):(n=1/\ P.underlying t=some (.int .i64))∨∃ f g fs,n=2/\ P.underlying t=some (.struct fs)/\ fs.toList= [f,g]/\ f.name≠ "_" /\ g.name≠ "_" /\ f.offset=0/\ g.offset=1/\ P.underlying f.type=some (.int .i64)/\ P.underlying g.type=some (.int .i64)/\ P.stoodInHeld t=false:=by
 unfold F2 at h;split at h
 ·exact .inl ⟨(yY h).symm,by assumption⟩
 ·rename_i fs hu;split at h
  ·rename_i f g hf;split at h
   ·rename_i hc;simp only [yT,zl,ne_eq,y8,zM] at hc;obtain ⟨⟨⟨⟨⟨⟨h1,h2⟩,h3⟩,h4⟩,h5⟩,h6⟩,h7⟩:=hc;exact .inr ⟨f,g,fs,(yY h).symm,hu,hf,h1,h2,h3,h4,W6 h5,W6 h6,h7⟩
   ·cases h
  ·cases h
 ·cases h
theorem NU {t:TypeId} (h:P.underlying t=some (.int .i64)) (cs:Array Value) (o:Nat) (v:Value) (hv:cs[o]? =some v):(part t cs o).run P w= .ok v w:=by
 unfold part;rw [yj,PN h];simp [Result.andThen,H4,h,hv]
theorem TQ {x:List Int} (h:x.length=2): ∃ a b,x= [a,b]:=by
 match x,h with
 | [a,b],_=>exact ⟨a,b,rfl⟩
theorem MM {x:List Int} (h:x.length=1): ∃ a,x= [a]:=by
 match x,h with
 | [a],_=>exact ⟨a,rfl⟩
theorem Np {n:Nat} (hk:F2 P t=some n) {x:List Int} (hx:x.length=n) (e:Bool):(Instr.checkKey e 10000 t (BL x)).run P w= .ok () w:=by
 rcases Nq hk with ⟨rfl,hu⟩ | ⟨f,g,fs,rfl,hu,hf,n1,n2,o1,o2,t1,t2,_⟩
 ·obtain ⟨a,rfl⟩:=MM hx;exact MapKept.run_checkKey hu (by trivial) e 9999
 ·obtain ⟨a,b,rfl⟩:=TQ hx
  show (Instr.checkKey e (9999+1) t (.agg #[.int .i64 a,.int .i64 b])).run P w=_
  unfold Instr.checkKey;have c1: ∀ a,(Instr.checkKey e 9999 f.type (.int .i64 a)).run P w= .ok () w:=fun a=>MapKept.run_checkKey t1 (by trivial) e 9998
  have c2: ∀ a,(Instr.checkKey e 9999 g.type (.int .i64 a)).run P w= .ok () w:=fun a=>MapKept.run_checkKey t2 (by trivial) e 9998
  simp only [yj,zI hu,Result.andThen];rw [←Array.forIn_toList,hf];simp only [List.forIn_cons,List.forIn_nil,n1,n2,ne_eq,not_false_eq_true,zo,o1,o2,yj];rw [NU t1 _ 0 (.int .i64 a) rfl];simp only [Result.andThen,c1,zAy,yj];rw [NU t2 _ 1 (.int .i64 b) rfl];simp only [Result.andThen,c2,zAy]
theorem qj {n:Nat} (hk:F2 P t=some n) {x y:List Int} (hx:x.length=n) (hy:y.length=n):(Op.equal t (BL x) (BL y)).run P w= .ok (x==y) w:=by
 rcases Nq hk with ⟨rfl,hu⟩ | ⟨f,g,fs,rfl,hu,hf,n1,n2,o1,o2,t1,t2,hs⟩
 ·obtain ⟨a,rfl⟩:=MM hx;obtain ⟨b,rfl⟩:=MM hy
  show (Op.equalIn (9999+1) t (.int .i64 a) (.int .i64 b)).run P w=_
  rw [zBR w 9999 t .i64 .i64 a b hu]
  congr 1
  rw [z6];simp
 ·obtain ⟨a,b,rfl⟩:=TQ hx;obtain ⟨c,d,rfl⟩:=TQ hy;have hF:P.fieldsOf t=fs:=by unfold Program.fieldsOf;rw [hu]
  show (Op.equalIn (9999+1) t (.agg #[.int .i64 a,.int .i64 b]) (.agg #[.int .i64 c,.int .i64 d])).run P w=_
  rw [run_equalIn_struct w 9999 t _ _ (by rw [hF];exact hu) hs,hF,hf];have e1: ∀ a c:Int,(Op.equalIn 9999 f.type (.int .i64 a) (.int .i64 c)).run P w= .ok (a==c) w:=fun a c=>zBR w 9998 f.type .i64 .i64 a c t1
  have e2: ∀ a c:Int,(Op.equalIn 9999 g.type (.int .i64 a) (.int .i64 c)).run P w= .ok (a==c) w:=fun a c=>zBR w 9998 g.type .i64 .i64 a c t2
  simp only [Op.eqFields,n1,n2,ne_eq,not_false_eq_true,zo,o1,o2,yj];rw [NU t1 _ 0 (.int .i64 a) rfl];simp only [Result.andThen];rw [NU t1 _ 0 (.int .i64 c) rfl];simp only [Result.andThen,e1,Sem.run_ite]
  by_cases h1:a=c
  ·subst h1;simp only [beq_self_eq_true,zS,zL,zAS,yj];rw [NU t2 _ 1 (.int .i64 b) rfl];simp only [Result.andThen];rw [NU t2 _ 1 (.int .i64 d) rfl];simp only [Result.andThen,e2,Sem.run_ite]
   by_cases h2:b=d
   ·subst h2;simp
   ·have:([a,b]== [a,d])=false:=by simp [h2]
    have LF:(b==d)=false:=by simp [h2]
    simp [LF,h2]
  ·have T5:(a==c)=false:=by simp [h1]
   simp [T5,h1]
theorem qi {n:Nat} (hk:F2 P t=some n) {x:List Int} (hx:x.length=n) {ks:KS} (Dv: ∀ y∈ks,y.length=n) {es:List MapEntry} (he: ∀ e∈es,∃ y∈ks,e.key=BL y):
 ((Instr.findKey t (BL x) es).run P w= .ok none w/\ ∀ e∈es,e.key≠BL x)∨∃ j e,(Instr.findKey t (BL x) es).run P w= .ok (some (j,e.val)) w/\ es[j]? =some e/\ e.key=BL x:=by
 have ask: ∀ (es:List MapEntry) (i:Nat),(∀ e∈es,∃ y∈ks,e.key=BL y) -> ((Instr.findAsking t (BL x) es i).run P w= .ok none w/\ ∀ e∈es,e.key≠BL x)∨∃ j e,(Instr.findAsking t (BL x) es i).run P w= .ok (some (i+j,e.val)) w/\ es[j]? =some e/\ e.key=BL x:=by
  intro es
  induction es with
  | nil=>intro i _;exact .inl ⟨rfl,fun e he=>by cases he⟩
  | cons e es ih=>
   intro i he;obtain ⟨y,hy,Bq⟩:=he e (by simp);have h1:(Op.equal t (BL x) e.key).run P w= .ok (x==y) w:=by rw [Bq];exact qj hk hx (Dv y hy)
   by_cases Tg:x=y
   ·subst Tg;exact .inr ⟨0,e,by simp [Instr.findAsking,h1,Result.andThen],rfl,Bq⟩
   ·have hf:(x==y)=false:=by simp [Tg]
    rcases ih (i+1) (fun e F9=>he e (by simp [F9])) with ⟨g1,g2⟩ | ⟨j,e',g1,g2,g3⟩
    ·refine .inl ⟨by simp [Instr.findAsking,h1,hf,Result.andThen,g1],fun e' F9=>?_⟩;rcases yq.1 F9 with rfl | F9
     ·rw [Bq];exact fun h=>Tg (dY h).symm
     ·exact g2 e' F9
    ·exact .inr ⟨j+1,e',by simp [Instr.findAsking,h1,hf,Result.andThen,g1];omega,by simpa using g2,g3⟩
 rcases Nq hk with ⟨rfl,hu⟩ | ⟨f,g,fs,rfl,hu,_⟩
 ·obtain ⟨a,rfl⟩:=MM hx
  rcases MapKept.findNow_spec (d:=.int .i64) (k:=.int .i64 a) (by trivial) es 0 (fun e hm=>by
   obtain ⟨y,hy,Bq⟩:=he e hm;obtain ⟨b,rfl⟩:=MM (Dv y hy);rw [Bq];trivial) with ⟨h1,h2⟩ | ⟨j,e,h1,h2,h3⟩
  ·exact .inl ⟨zA2 hu h1,h2⟩
  ·exact .inr ⟨j,e,by have:=zA2 (w:=w) hu h1;rw [yt] at this;exact this,h2,h3⟩
 ·have hn: ∀ es:List MapEntry,(∀ e∈es,∃ y∈ks,e.key=BL y) -> (Instr.findKey t (BL x) es).run P w=(match es with | []=>.ok none w | _=>(Instr.findAsking t (BL x) es 0).run P w):=fun es he=>by
   cases es with
   | nil=>simp [Instr.findKey,zI hu,Instr.findNow,Result.andThen]
   | cons e es=>
    have:Instr.findNow (.struct fs) (BL x) (e::es) 0=none:=by
     simp [Instr.findNow,Instr.sameNow]
    simp [Instr.findKey,zI hu,this,Result.andThen]
  rw [hn es he];cases es with
  | nil=>exact .inl ⟨rfl,fun e he=>by cases he⟩
  | cons e es=>
   rcases ask (e::es) 0 he with h | ⟨j,e',g1,g2⟩
   ·exact .inl h
   ·exact .inr ⟨j,e',by simpa using g1,g2⟩
theorem qh {n:Nat} (hk:F2 P t=some n) {x:List Int} (hx:x.length=n):(Instr.keyThatStays (BL x) (BL x)).run P w= .ok (BL x) w:=by
 rcases Nq hk with ⟨rfl,hu⟩ | ⟨f,g,fs,rfl,hu,_⟩
 ·obtain ⟨a,rfl⟩:=MM hx;exact MapKept.run_keyThatStays (d:=.int .i64) (by trivial)
 ·obtain ⟨a,b,rfl⟩:=TQ hx
  have:Instr.sameBits 10000 (BL [a,b]) (BL [a,b])=true:=by
   show Instr.sameBits (9998+1+1) (.agg #[.int .i64 a,.int .i64 b]) (.agg #[.int .i64 a,.int .i64 b])=true
   simp [Instr.sameBits]
  simp [Instr.keyThatStays,this]
end
/-! ### Sets in order-/
def cy:List Int -> List Int -> Bool
 | _,[]=>false
 | [],_::_=>true
 | a::r,b::s=>decide (a<b)||(a==b&&cy r s)
def TU (x:List Int):KS -> KS
 | []=>[x]
 | y::r=>if cy x y then x::y::r else y::TU x r
def CK (x:List Int) (l:KS):KS:=if l.contains x then l else TU x l
theorem dj (x:List Int): ∀ l:KS,(TU x l).Perm (x::l)
 | []=>zBE _
 | y::r=>by
  unfold TU;split
  ·exact zBE _
  ·exact ((dj x r).cons y).trans (List.Perm.swap x y r)
theorem bg {x:List Int} {l:KS} (h:x∈l):CK x l=l:=by unfold CK;simp [h]
theorem V5 {x:List Int} {l:KS} (h:x∉l):(CK x l).Perm (x::l):=by unfold CK;simp [h];exact dj x l
theorem MC {x y:List Int} {l:KS}:y∈CK x l↔y=x∨y∈l:=by
 by_cases h:x∈l
 ·rw [bg h];exact ⟨.inr,fun h'=>h'.elim (fun e=>e▸h) id⟩
 ·rw [(V5 h).mem_iff];simp
section
variable {P:Program} {w:World} {b n:Nat} {l:KS} {es:Array MapEntry} {AZ:Nat}
theorem EY.key (h:EY w b n l es AZ): ∀ e∈es.toList,∃ y∈l,e.key=BL y:=fun e he=>by
 have:e.key∈es.toList.map (·.key):=zh.2 ⟨e,he,rfl⟩;obtain ⟨y,h1,h2⟩:=zh.1 (h.keys.mem_iff.1 this);exact ⟨y,h1,h2.symm⟩
theorem EY.has (h:EY w b n l es AZ) {x:List Int}:x∈l↔∃ e∈es.toList,e.key=BL x:=by
 constructor
 ·intro hx;have:BL x∈l.map BL:=zh.2 ⟨x,hx,rfl⟩;obtain ⟨e,h1,h2⟩:=zh.1 (h.keys.mem_iff.2 this);exact ⟨e,h1,h2⟩
 ·rintro ⟨e,h1,h2⟩;obtain ⟨y,h3,h4⟩:=h.key e h1;exact dY (h2.symm.trans h4)▸h3
theorem EY.find (h:EY w b n l es AZ) {t:TypeId} (hk:F2 P t=some n) {x:List Int} (hx:x.length=n):
 (x∉l/\ (Instr.findKey t (BL x) es.toList).run P w= .ok none w)∨(x∈l/\ ∃ j e,(Instr.findKey t (BL x) es.toList).run P w= .ok (some (j,.bool true)) w/\ es[j]? =some e/\ e.key=BL x/\ e.val= .bool true):=by
 rcases qi (w:=w) hk hx h.len h.key with ⟨h1,h2⟩ | ⟨j,e,h1,h2,h3⟩
 ·exact .inl ⟨fun hx=>by obtain ⟨e,g1,g2⟩:=h.has.1 hx;exact h2 e g1 g2,h1⟩
 ·have hm:e∈es.toList:=zX h2;have hv:=h.tru e hm;exact .inr ⟨h.has.2 ⟨e,hm,h3⟩,j,e,by rw [←hv];exact h1,by simpa using h2,h3,hv⟩
theorem Ow {w:World} {b:Nat} (o:Obj):AQ (fun k=>k=b) w { w with heap:=w.heap.setIfInBounds b o }:=
 ⟨rfl,rfl,rfl,by simp,fun k _ Ap=>by simp [zAw Ap]⟩
theorem EY.put (h:EY w b n l es AZ) {mt kt et:TypeId} (hm:P.underlying mt=some (.map kt et)) (hk:F2 P kt=some n) {x:List Int} (hx:x.length=n):
 ∃ w' Dk EV,(Instr.mapUpdate mt (.map (some b)) (BL x) (.bool true)).run P w= .ok () w'/\ AQ (fun k=>k=b) w w'/\ EY w' b n (CK x l) Dk EV:=by
 have AU:b<w.heap.size:=(yR.1 h.blk).1;rcases h.find hk hx with ⟨h1,h2⟩ | ⟨h1,j,e,h2,h3,h4,h5⟩
 ·refine ⟨{ w with heap:=w.heap.setIfInBounds b (.map (es.push { key:=BL x,val:=.bool true,born:=AZ }) (AZ+1)) },es.push { key:=BL x,val:=.bool true,born:=AZ },AZ+1,?_,Ow _,?_⟩
  ·simp [Instr.mapUpdate,zI hm,zq h.blk,Np hk hx,h2,zAd _ h.blk,Result.andThen]
  ·refine ⟨by simp [AU],?_,((V5 h1).nodup_iff).2 (zBS.2 ⟨h1,h.nd⟩),fun y hy=>?_,fun e he=>?_,fun e he=>?_,?_⟩
   ·have e1:((es.push { key:=BL x,val:=.bool true,born:=AZ }).toList.map (·.key))=es.toList.map (·.key)++[BL x]:=by simp
    rw [e1];refine (List.perm_append_comm).trans ?_
    show (BL x::es.toList.map (·.key)).Perm _
    exact (h.keys.cons (BL x)).trans (((V5 h1).map BL).symm)
   ·rcases MC.1 hy with rfl | hy
    ·exact hx
    ·exact h.len y hy
   ·simp only [Array.toList_push,zP,yp] at he;rcases he with he | rfl
    ·exact h.tru e he
    ·rfl
   ·simp only [Array.toList_push,zP,yp] at he;rcases he with he | rfl
    ·exact Nat.lt_succ_of_lt (h.born e he)
    ·exact Nat.lt_succ_self _
   ·have e1:((es.push { key:=BL x,val:=.bool true,born:=AZ }).toList.map (·.born))=es.toList.map (·.born)++[AZ]:=by simp
    rw [e1];refine List.nodup_append.2 ⟨h.stamps,by simp,fun a ha c hc=>?_⟩;obtain ⟨e,g1,g2⟩:=zh.1 ha;have:=h.born e g1;simp at hc;omega
 ·have hj:j<es.size:=(yR.1 h3).1
  have uD:(es.modify j fun e=>{ e with key:=BL x,val:=.bool true })=es:=by
   apply Array.ext_getElem?;intro i;rw [zAP];split
   ·rename_i OD;subst OD;rw [h3]
    show some ({ e with key:=BL x,val:=.bool true }:MapEntry)=some e
    rw [←h4,←h5]
   ·rfl
  refine ⟨{ w with heap:=w.heap.setIfInBounds b (.map es AZ) },es,AZ,?_,Ow _,?_⟩
  ·have Dv:((es[j]?).map (·.key)).getD (BL x)=BL x:=by rw [h3];exact h4
   simp [Instr.mapUpdate,zI hm,zq h.blk,Np hk hx,h2,Dv,qh hk hx,zAd _ h.blk,Result.andThen,uD]
  ·rw [bg h1];exact { h with blk:=by simp [AU] }
theorem EY.look (h:EY w b n l es AZ) {mt kt et:TypeId} (hm:P.underlying mt=some (.map kt et)) (hk:F2 P kt=some n) {x:List Int} (hx:x.length=n) (hz:(zeroValue et).run P w= .ok (.bool false) w):
 (Instr.lookup mt (.map (some b)) (BL x) false).run P w= .ok (.bool (l.contains x)) w:=by
 rcases h.find hk hx with ⟨h1,h2⟩ | ⟨h1,j,e,h2,h3,h4,h5⟩
 ·have:l.contains x=false:=by simpa using h1
  simp [Instr.lookup,zI hm,zq h.blk,Np hk hx,h2,hz,Result.andThen,this,h1]
 ·have:l.contains x=true:=by simpa using h1
  simp [Instr.lookup,zI hm,zq h.blk,Np hk hx,h2,Result.andThen,this,h1]
end
/-! ### On Zg view-/
def TJ (lk:Option (Nat×Nat×Array MapEntry×Nat)) (i:Nat):Prop:=∀ y,lk=some y -> y.1≠i
section
variable {P:Program} {w w':World} {p:AN} {n:Nat} {ls:List (Option KS)} {lk:Option (Nat×Nat×Array MapEntry×Nat)} {vs:Array Value}
theorem Ep.lies (h:Ep w p n ls lk vs) {b:Nat} (hb:p.foot b):DD w b:=by
 rcases h.foot b hb with rfl | ⟨j,l,h1,h2⟩
 ·obtain ⟨cs,t,h3,_⟩:=h.row;exact .cells h3
 ·obtain ⟨b',g1,_,_,es,AZ,g2,_⟩:=h.has j l h1;have:b'=b:=by rw [g1] at h2;cases h2;rfl
  subst this;exact ⟨_,rfl,(),g2.blk⟩
theorem Ep.put (h:Ep w p n ls lk vs) {i b:Nat} {l l':KS} {es:Array MapEntry} {AZ:Nat} (hi:ls[i]? =some (some l)) (hb:vs[i]? =some (Value.map (some b))) (hu:AQ (fun k=>k=b) w w') (hm:EY w' b n l' es AZ) (Xd:TJ lk i):Ep w' p n (ls.set i (some l')) lk vs:=by
 have EP:i<ls.length:=(yZ.1 hi).1;obtain ⟨b0,g1,g2,g3,_⟩:=h.has i l hi;have:b0=b:=by rw [g1] at hb;cases hb;rfl
 subst this
 have IE: ∀ {j:Nat} {x:Option KS},(ls.set i (some l'))[j]? =some x -> (j=i/\ x=some l')∨(j≠i/\ ls[j]? =some x):=fun {j x} hj=>by
  rw [zG] at hj
  by_cases e:i=j
  ·subst e;simp [EP] at hj;exact .inl ⟨rfl,hj.symm⟩
  ·rw [yb e] at hj;exact .inr ⟨zAw e,hj⟩
 refine ⟨h.val,by simp [h.size],?_,h.blk,fun j l1 hj=>?_,fun j hj=>?_,fun b' Cq=>?_,h.inj⟩
 ·obtain ⟨cs,t,k1,k2⟩:=h.row;exact ⟨cs,t,(hu.block _ (yR.1 k1).1 (fun e=>g2 e.symm)).trans k1,by simpa using k2⟩
 ·rcases IE hj with ⟨rfl,e⟩ | ⟨Ap,hj⟩
  ·cases e;exact ⟨b0,hb,g2,g3,es,AZ,hm,fun y hy e=>absurd e (Xd y hy)⟩
  ·obtain ⟨b1,k1,k2,k3,HV,c1,k4,k5⟩:=h.has j l1 hj;refine ⟨b1,k1,k2,k3,HV,c1,k4.out (hu.block _ (yR.1 k4.blk).1 fun e=>Ap ?_),k5⟩;subst e;exact h.inj j i b1 k1 hb
 ·rcases IE hj with ⟨rfl,e⟩ | ⟨Ap,hj⟩
  ·cases e
  ·exact h.nil j hj
 ·rcases h.foot b' Cq with e | ⟨j,l1,k1,k2⟩
  ·exact .inl e
  ·by_cases e:j=i
   ·subst e;exact .inr ⟨j,l',by simp [EP],k2⟩
   ·exact .inr ⟨j,l1,by rw [zG,yb (zAw e)];exact k1,k2⟩
end
def TR (n:Nat) (d:DV):Option (List Int):=match d with
 | .int .i64 a=>if n=1 then some [a] else none
 | .agg m f=>if m=n/\ n≠1 then if (List.range m).all fun j=>Jq (f j) then some ((List.range m).map fun j=>HL (f j)) else none else none
 | _=>none
def Wu (n:Nat) (x:List Int):DV:=if n=1 then .int .i64 (x.getD 0 0) else .agg n (GH n fun j=>.int .i64 (x.getD j 0))
section
variable {P:Program} {w:World} {ρ:List AN} {M:Nat -> Prop}
theorem dZ {x:List Int} (h:x.length≠1):BL x= .agg (x.map fun a=>.int .i64 a).toArray:=by
 unfold BL;split
 ·simp at h
 ·rfl
theorem da {n:Nat} {d:DV} {x:List Int} {v:Value} (h:TR n d=some x) (hr:AO M w d ρ v):v=BL x/\ x.length=n:=by
 unfold TR at h;split at h
 ·split at h
  ·cases h;exact ⟨hr,by simp;omega⟩
  ·cases h
 ·rename_i m f;split at h
  ·rename_i hm;split at h
   ·rename_i ha;cases h;have hl:((List.range m).map fun j=>HL (f j)).length=m:=by simp
    refine ⟨?_,by rw [hl];exact hm.1⟩;obtain ⟨cs,rfl,hs,hc⟩:=hr;rw [dZ (by rw [hl];omega)]
    congr 1
    apply Array.ext_getElem?;intro j
    by_cases hj:j<m
    ·obtain ⟨u,e1,e2⟩:=hc j hj;have:=Wy (ya.1 ha j (yh.2 hj)) e2;rw [e1,this];simp [hj]
    ·rw [zBA (by omega)];simp [hj]
   ·cases h
  ·cases h
 ·cases h
theorem qk {n:Nat} {x:List Int} (h:x.length=n):AO M w (Wu n x) ρ (BL x):=by
 unfold Wu;split
 ·rename_i e;subst e;obtain ⟨a,rfl⟩:=MM h;rfl
 ·rename_i e;rw [dZ (by omega)];refine ⟨_,rfl,by simp [h],fun j hj=>?_⟩;rw [Rr hj];have BM:j<x.length:=by omega
  exact ⟨.int .i64 (x.getD j 0),by simp [BM],rfl⟩
end
def UL:Nat -> DH -> Option (Nat×Nat×List (Option KS)×Nat×Nat×Array MapEntry×Nat)
 | _,[]=>none
 | k,some (.mo (.sets n ls (some y)))::_=>some (k,n,ls,y)
 | k,_::r=>UL (k+1) r
theorem vh {n:Nat} {ls:List (Option KS)} {y:Nat×Nat×Array MapEntry×Nat} {k:Nat}: ∀ (h:DH) (k0:Nat),UL k0 h=some (k,n,ls,y) -> k0<=k/\ h[k-k0]? =some (some (.mo (.sets n ls (some y)))):=by
 intro h
 induction h with
 | nil=>intro k0 e;cases e
 | cons x r ih=>
  intro k0 e
  have step:UL (k0+1) r=some (k,n,ls,y) -> k0<=k/\ (x::r)[k-k0]? =some (some (.mo (.sets n ls (some y)))):=fun e=>by
   obtain ⟨h1,h2⟩:=ih (k0+1) e;refine ⟨by omega,?_⟩;have:k-k0=k-(k0+1)+1:=by omega
   rw [this];simpa using h2
  match x,e with
  | none,e=>exact step e
  | some (.cells _),e=>exact step e
  | some (.ints _),e=>exact step e
  | some (.bools _),e=>exact step e
  | some (.arr _ _ _),e=>exact step e
  | some (.iter _),e=>exact step e
  | some (.mo (.set _ _)),e=>exact step e
  | some (.mo (.mit _ _ _ _ _ _)),e=>exact step e
  | some (.mo (.rows _ _)),e=>exact step e
  | some (.mo (.rws _ _)),e=>exact step e
  | some (.mo (.sets _ _ none)),e=>exact step e
  | some (.mo (.sets _ _ (some _))),e=>cases e;exact ⟨ym _,by simp⟩
def ME (P:Program) (t:TypeId):Option (Nat×TypeId):=match P.underlying t with
 | some (.map k e)=>match F2 P k with
  | some n=>match P.info? e with
   | some i=>match i.zero with
    | some (.bool false)=>some (n,k)
    | _=>none
   | none=>none
  | none=>none
 | _=>none
theorem Wh {P:Program} {t k:TypeId} {n:Nat} (h:ME P t=some (n,k)): ∃ e,P.underlying t=some (.map k e)/\ F2 P k=some n/\ ∀ w,(zeroValue e).run P w= .ok (.bool false) w:=by
 unfold ME at h;split at h
 ·rename_i k' e hu;split at h
  ·rename_i n' hk;split at h
   ·rename_i i hi;split at h
    ·rename_i hz;cases h;exact ⟨e,hu,hk,fun w=>by simp [zeroValue,typeInfo,hi,hz]⟩
    ·cases h
   ·cases h
  ·cases h
 ·cases h
def Sc (P:Program) (S:St) (t:TypeId) (m k x:DV):Option (DV×DH×List Prop×Bool):=match ME P t with
 | some (n,_)=>match TR n k,x with
  | some x,.bool true=>match m with
   | .it j=>match S.h[j]? with
    | some (some (.mo (.set n' l)))=>if n'=n then some (.any,S.h.set j (some (.mo (.set n (CK x l)))),[],false) else none
    | _=>none
   | .mri j i=>match S.h[j]? with
    | some (some (.mo (.sets n' ls lk)))=>if n'=n then some (.any,S.h.set j (some (.mo (.sets n (ls.set i (some (CK x ((ls.getD i none).getD [])))) lk))),[(ls.getD i none).isSome=true,TJ lk i],false) else none
    | _=>none
   | _=>none
  | _,_=>none
 | none=>none
def Wi (P:Program) (S:St):Op -> Option (DV×DH×List Prop×Bool)
 | .makeMap t none=>match ME P t with
  | some (n,_)=>some (.it S.h.length,S.h++[some (.mo (.set n []))],[],true)
  | none=>none
 | .mapUpdate t m k x=>Sc P S t (Ac S.fr m) (Ac S.fr k) (Ac S.fr x)
 | .insert t m k x=>Sc P S t (Ac S.fr m) (Ac S.fr k) (Ac S.fr x)
 | .lookup t m k false=>match ME P t with
  | some (n,_)=>match TR n (Ac S.fr k) with
   | some x=>match Ac S.fr m with
    | .it j=>match S.h[j]? with
     | some (some (.mo (.set n' l)))=>if n'=n then some (.bool (l.contains x),S.h,[],true) else none
     | _=>none
    | .mri j i=>match S.h[j]? with
     | some (some (.mo (.sets n' ls _)))=>if n'=n then some (.bool (((ls.getD i none).getD []).contains x),S.h,[(ls.getD i none).isSome=true],true) else none
     | _=>none
    | _=>none
   | none=>none
  | none=>none
 | .range t m=>match ME P t with
  | some (n,_)=>match Ac S.fr m with
   | .mri j i=>match S.h[j]? with
    | some (some (.mo (.sets n' ls (some (i',mb,es,AZ)))))=>if n'=n then some (.it S.h.length,S.h++[some (.mo (.mit n mb es AZ ((ls.getD i none).getD []) none))],[(ls.getD i none).isSome=true,i'=i],true) else none
    | _=>none
   | _=>none
  | none=>none
 | .entry m=>match Ac S.fr m with
  | .it j=>match S.h[j]? with
   | some (some (.mo (.mit n mb es AZ _ (some x))))=>match UL 0 S.h with
    | some (_,_,ls,i,ct,Dk,EV)=>some (.tup 2 (GH 2 fun c=>if c=0 then Wu n x else .bool true),S.h,[(ls.getD i none).isSome=true,ct=mb,Dk=es,EV=AZ],true)
    | none=>none
   | _=>none
  | _=>none
 | _=>none
section
variable {P:Program} {Γ:A9} {N:Nat -> Prop} {S:St} {ρ:List AN} {a:Act} {w:World}
theorem OO {ls:List (Option KS)} {i:Nat} (h:(ls.getD i none).isSome=true):ls[i]? =some (some ((ls.getD i none).getD [])):=by
 rw [u8] at h ⊢;cases hx:ls[i]? with
 | none=>rw [hx] at h;cases h
 | some x=>
  rw [hx] at h;cases x with
  | none=>cases h
  | some l=>simp
theorem Va (R:Ad P Γ N S ρ a w) {j n:Nat} {l:KS} {v:Value} (hk:S.h[j]? =some (some (.mo (.set n l)))) (hv:AO (MS N S.h ρ) w (.it j) ρ v): ∃ p es AZ,ρ[j]? =some p/\ v= .map (some p.blk)/\ p.foot=(fun b=>b=p.blk)/\ p.val=Value.map (some p.blk)/\ EY w p.blk n l es AZ:=by
 obtain ⟨p,hp,rfl⟩:=hv;obtain ⟨p',BJ,h1,h2,es,AZ,h3⟩:=R.hr.obj j _ hk;have:p'=p:=yY (BJ.symm.trans hp);subst this;exact ⟨p',es,AZ,hp,h1,h2,h1,h3⟩
theorem VZ (R:Ad P Γ N S ρ a w) {j i n:Nat} {ls:List (Option KS)} {lk:Option (Nat×Nat×Array MapEntry×Nat)} {v:Value} (hk:S.h[j]? =some (some (.mo (.sets n ls lk)))) (hv:AO (MS N S.h ρ) w (.mri j i) ρ v) (hs:(ls.getD i none).isSome=true):
 ∃ p vs b es AZ,ρ[j]? =some p/\ Ep w p n ls lk vs/\ v= .map (some b)/\ vs[i]? =some (Value.map (some b))/\ p.foot b/\ EY w b n ((ls.getD i none).getD []) es AZ/\ ∀ y,lk=some y -> y.1=i -> y.2=(b,es,AZ):=by
 obtain ⟨p,vs,hp,E4,Ch⟩:=hv;obtain ⟨p',BJ,BZ,h1⟩:=R.hr.obj j _ hk;have:p'=p:=yY (BJ.symm.trans hp);subst this;have:BZ=vs:=by have:=h1.val.symm.trans E4;cases this;rfl
 subst this;obtain ⟨b,g1,g2,g3,es,AZ,g4,g5⟩:=h1.has i _ (OO hs);have:v= .map (some b):=by rw [g1] at Ch;exact (yY Ch).symm
 exact ⟨p',BZ,b,es,AZ,hp,h1,this,g1,g3,g4,g5⟩
theorem Vd (R:Ad P Γ N S ρ a w) {d:DV} {v:Value} (hv:AO (MS N S.h ρ) w d ρ v):C6 P Γ N S.h ρ w true d S.h v w:=⟨⟨ρ,R.hr,hv,BO.refl _ _ _,fun _ _ h=>h⟩,fun _=>Au.refl w⟩
theorem Qh (H:Bb P Γ N S.h ρ w) {ob:Obj} (C0:fE ob=true) {pl:AN} (Eh:pl.foot=fun b=>b=w.heap.size) {o:DO} {d:DV} {v:Value} (ho: ∀ M ρ',Db P M (w.alloc ob) ρ' pl o)
 (hv: ∀ M ρ',ρ'[S.h.length]? =some pl -> AO M (w.alloc ob) d ρ' v) (ext:Bool):C6 P Γ N S.h ρ w ext d (S.h++[some o]) v (w.alloc ob):=by
 have hE:Au w (w.alloc ob):=(Au.refl w).allocR _;have hf: ∀ b,pl.foot b -> w.heap.size<=b:=fun b hb=>by rw [Eh] at hb;exact Nat.le_of_eq (Eq.symm hb)
 have hb:(w.alloc ob).heap[w.heap.size]? =some ob:=zAM w _;refine ⟨⟨ρ++[pl],H.snoc hE (fun b hx=>⟨hf b hx,ob,C0,(),by rw [Eh] at hx;rw [show b=w.heap.size from hx];exact hb⟩) (ho _ _),?_,BO.snoc H hE hf,fun k p hk=>EC hk⟩,fun _=>hE⟩;exact hv _ _ (by rw [←H.len];simp)
theorem bk (R:Ad P Γ N S ρ a w) {t:TypeId} {m k x:Operand} {d:DV} {h':DH} {vs:List Prop} {ext:Bool} (hd:Sc P S t (Ac S.fr m) (Ac S.fr k) (Ac S.fr x)=some (d,h',vs,ext)) (hv:Bl vs):
 ∃ w',(Instr.mapUpdate t (a.eval m) (a.eval k) (a.eval x)).run P w= .ok () w'/\ C6 P Γ N S.h ρ w ext d h' undef w':=by
 have rm:=Bm R m;have rk:=Bm R k;have rx:=Bm R x;unfold Sc at hd;split at hd
 ·rename_i n kt hT;obtain ⟨e,hu,hk,hz⟩:=Wh hT;split at hd
  ·rename_i xs hK hX;obtain ⟨ek,el⟩:=da hK rk;rw [hX] at rx;have ex:a.eval x= .bool true:=rx;rw [ek,ex];split at hd
   ·rename_i j hM;split at hd
    ·rename_i n' l hO;split at hd
     ·rename_i hn;cases hd;subst hn;rw [hM] at rm;obtain ⟨p,es,AZ,hp,ev,Eh,E4,hA⟩:=Va R hO rm;rw [ev];obtain ⟨w',Dk,EV,h1,h2,h3⟩:=hA.put hu hk el;have K3:AQ p.foot w w':=by rw [Eh];exact h2
      refine ⟨w',h1,⟨ρ,R.hr.write hO hp K3 (fun b hb=>?_) ⟨E4,Eh,Dk,EV,h3⟩,trivial,BO.write hO hp K3,fun _ _ h=>h⟩,fun h=>by cases h⟩;rw [Eh] at hb;exact ⟨_,rfl,(),by rw [show b=p.blk from hb];exact h3.blk⟩
     ·cases hd
    ·cases hd
   ·rename_i j i hM;split at hd
    ·rename_i n' ls lk hO;split at hd
     ·rename_i hn;cases hd;subst hn;obtain ⟨hs,Xd,_⟩:=hv;rw [hM] at rm;obtain ⟨p,vs,b,es,AZ,hp,hS,ev,Ch,F8,hA,_⟩:=VZ R hO rm hs;rw [ev];obtain ⟨w',Dk,EV,h1,h2,h3⟩:=hA.put hu hk el;have K3:AQ p.foot w w':=h2.mono fun c _ hc=>by rw [show c=b from hc];exact F8
      have LE:=hS.put (OO hs) Ch h2 h3 Xd;exact ⟨w',h1,⟨ρ,R.hr.write hO hp K3 (fun b hb=>LE.lies hb) ⟨vs,LE⟩,trivial,BO.write hO hp K3,fun _ _ h=>h⟩,fun h=>by cases h⟩
     ·cases hd
    ·cases hd
   ·cases hd
  ·cases hd
 ·cases hd
theorem qN (es:Array MapEntry):leftOf es #[]=es:=by
 unfold leftOf;refine Array.filter_eq_self.2 fun x hx=>by simp
theorem mn {r bm Hn AZ:Nat} {seen:Array Nat} {es:Array MapEntry} {e:MapEntry} (hr:w.heap[r]? =some (.mapIter (some bm) Hn seen AZ)) (hs:seen.back? =some e.born) (hb:w.heap[bm]? =some (.map es AZ)) (he:e∈es.toList) (hn:(es.toList.map (·.born)).Nodup):
 (Instr.entry (.pointer (some ⟨r,0,none⟩))).run P w= .ok (.tuple #[e.key,e.val]) w:=by
 have hf:es.find? (·.born==e.born)=some e:=by rw [←Array.find?_toList];exact find_born e es.toList hn he
 simp only [Instr.entry,getObj,yj,Sem.run,hr,hb,Result.andThen,hs,zBF,zL,zAS,hf];rfl
theorem pW (R:Ad P Γ N S ρ a w) (o:Oper) {d:DV} {h':DH} {vs:List Prop} {ext:Bool} (hd:Wi P S o.op=some (d,h',vs,ext)) (hv:Bl vs):BT P (execOp a.eval o) w (C6 P Γ N S.h ρ w ext d h'):=by
 unfold Wi at hd;split at hd
 ·rename_i t ho;split at hd
  ·rename_i n kt hT;cases hd;refine BT.value (s:=Instr.makeMap t none) (by unfold execOp;rw [ho];rfl) (v:=.map (some w.heap.size)) (w':=w.alloc (.map #[] 0)) (by simp [Instr.makeMap,newObj];rfl) ?_;refine Qh (ob:=.map #[] 0) (o:=.mo (.set n [])) (d:=.it S.h.length) (v:=.map (some w.heap.size)) (pl:=⟨w.heap.size,0,0,.map (some w.heap.size),fun b=>b=w.heap.size⟩) R.hr rfl rfl (fun M ρ'=>⟨rfl,rfl,#[],0,⟨zAM w _,by simp,List.nodup_nil,fun y hy=>absurd hy zAA,fun e he=>absurd he (by simp),fun e he=>absurd he (by simp),by simp⟩⟩) (fun M ρ' hp=>⟨_,hp,rfl⟩) true
  ·cases hd
 ·rename_i t m k x ho;obtain ⟨w',h1,h2⟩:=bk R hd hv;exact BT.skip (s:=Instr.mapUpdate t (a.eval m) (a.eval k) (a.eval x)) (by unfold execOp;rw [ho]) h1 h2
 ·rename_i t m k x ho;obtain ⟨w',h1,h2⟩:=bk R hd hv;exact BT.skip (s:=Instr.mapUpdate t (a.eval m) (a.eval k) (a.eval x)) (by unfold execOp;rw [ho]) h1 h2
 ·rename_i t m k ho;have rm:=Bm R m;have rk:=Bm R k;split at hd
  ·rename_i n kt hT;obtain ⟨e,hu,hk,hz⟩:=Wh hT;split at hd
   ·rename_i xs hK;obtain ⟨ek,el⟩:=da hK rk;split at hd
    ·rename_i j hM;split at hd
     ·rename_i n' l hO;split at hd
      ·rename_i hn;cases hd;subst hn;rw [hM] at rm;obtain ⟨p,es,AZ,hp,ev,Eh,E4,hA⟩:=Va R hO rm;exact BT.value (s:=Instr.lookup t (a.eval m) (a.eval k) false) (by unfold execOp;rw [ho]) (by rw [ek,ev];exact hA.look hu hk el (hz w)) (Vd R rfl)
      ·cases hd
     ·cases hd
    ·rename_i j i hM;split at hd
     ·rename_i n' ls lk hO;split at hd
      ·rename_i hn;cases hd;subst hn;rw [hM] at rm;obtain ⟨p,vs,b,es,AZ,hp,hS,ev,Ch,F8,hA,_⟩:=VZ R hO rm hv.1;exact BT.value (s:=Instr.lookup t (a.eval m) (a.eval k) false) (by unfold execOp;rw [ho]) (by rw [ek,ev];exact hA.look hu hk el (hz w)) (Vd R rfl)
      ·cases hd
     ·cases hd
    ·cases hd
   ·cases hd
  ·cases hd
 ·rename_i t m ho;have rm:=Bm R m;split at hd
  ·rename_i n kt hT;obtain ⟨e,hu,hk,hz⟩:=Wh hT;split at hd
   ·rename_i j i hM;split at hd
    ·rename_i n' ls i' mb es AZ hO;split at hd
     ·rename_i hn;cases hd;subst hn;obtain ⟨hs,hi,_⟩:=hv;subst hi;rw [hM] at rm;obtain ⟨p,vs,b,HV,Un,hp,hS,ev,Ch,F8,hA,hL⟩:=VZ R hO rm hs;have hL:=hL _ rfl rfl;cases hL;refine BT.value (s:=Instr.range t (a.eval m)) (by unfold execOp;rw [ho]) (by rw [ev];exact run_range_map w t _ _ _ _ _ hu hA.blk) ?_;refine Qh (ob:=.mapIter (some mb) AZ #[] AZ) (o:=.mo (.mit n' mb es AZ ((ls.getD i' none).getD []) none)) (d:=.it S.h.length) (v:=.pointer (some ⟨w.heap.size,0,none⟩)) (pl:=⟨w.heap.size,0,0,.pointer (some ⟨w.heap.size,0,none⟩),fun b=>b=w.heap.size⟩) R.hr rfl rfl (fun M ρ'=>⟨fun x hx=>hx.elim (hA.len x) (fun e=>by cases e),rfl,rfl,#[],zAM w _,by rw [qN];exact hA.keys,fun x hx=>by cases hx⟩) (fun M ρ' hp=>⟨_,hp,rfl⟩) true
     ·cases hd
    ·cases hd
   ·cases hd
  ·cases hd
 ·rename_i m ho;have rm:=Bm R m;split at hd
  ·rename_i j hM;split at hd
   ·rename_i n mb es AZ rem x hO;split at hd
    ·rename_i k n' ls i ct Dk EV hF;cases hd;obtain ⟨hs,e1,e2,e3,_⟩:=hv;subst e1 e2 e3;rw [hM] at rm;obtain ⟨p,hp,ev⟩:=rm;obtain ⟨p',BJ,h0,h1,h2,seen,h3,h4,h5⟩:=R.hr.obj j _ hO;have:p'=p:=yY (BJ.symm.trans hp);subst this;obtain ⟨e,g1,g2,g3⟩:=h5 x rfl;have hF:=(vh _ _ hF).2;obtain ⟨q,hq,vs,hS⟩:=R.hr.obj _ _ hF;obtain ⟨b,k1,k2,k3,HV,Un,k4,k5⟩:=hS.has i _ (OO hs);have k5:=k5 _ rfl rfl;cases k5;refine BT.value (s:=Instr.entry (a.eval m)) (by unfold execOp;rw [ho]) (by rw [ev,h1];exact mn h3 g3 k4.blk g1 k4.stamps) (Vd R ?_);refine ⟨_,rfl,rfl,fun c hc=>?_⟩;rw [Rr hc,g2,k4.tru e g1]
     match c,hc with
     | 0,_=>exact ⟨BL x,rfl,qk (h0 x (.inr rfl))⟩
     | 1,_=>exact ⟨.bool true,rfl,rfl⟩
    ·cases hd
   ·cases hd
  ·cases hd
 ·cases hd
end
end Go.Proofs.YtgkhhfnhacibcaaGreatDoor
